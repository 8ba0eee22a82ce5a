/- An abstract machine for the code of one function: slices, strings and structs as plain data; what each operation makes of them. Definitions alone. -/
import Derived.WalkKit
import Derived.WalkSpells
import Derived.WalkLawsBesides
import Derived.MapKept
import Derived.Maps.RangeRun
set_option linter.unusedVariables false
set_option linter.unusedSimpArgs false
set_option linter.unnecessarySimpa false
set_option maxHeartbeats 40000000
set_option maxRecDepth 100000
namespace Go.Proofs.YtifcndkhigakfaaGreat.Ab
open Go Go.RowKit
inductive PV where|int (k:IntKind) (n:Int)|bool (b:Bool)|str (l:List UInt8)|nil|ro (rows:List (List PV))|mp (ks:List PV)|mv (es:List (PV×PV))|pt (cs:List PV)|val (v:Value)
inductive AV where|pv (p:PV)|own (t:Nat)|ptr (t off:Nat)|aY (t:Nat) (e:TypeId) (i:Int) (off:Nat)|sub (t:Nat) (e:TypeId) (lo hi:Nat)|rp (cs:List PV)|agg (cs:List AV)|aS (vs:List AV)|bZ (f:FuncId) (caps:List AV)|fr (e:TypeId) (rows:List (List PV))|bx (cs:List AV)|mf (es:List (PV×PV))|ck (g:Bool) (v:AV)|ak
inductive AO where|box (cs:List AV)|arr (e:TypeId) (rows:List (List PV))|map (es:List (PV×AV))|rws (e:TypeId) (cs:List AV)|iF (es:List (PV×PV))|nC (rem:List (PV×PV)) (cur:Option (PV×PV))
structure St where
 vars:Nat→AV
 aa:Nat→Option AO
def u7:Value→PV|.int k n=>.int k n|.bool b=>.bool b|.string s=>.str s.data.toList|.slice none 0 0=>.nil|v=>.val v
def cv (v:Value):AV:=if v.oneCell'=true then .pv (u7 v) else .ak
def ev (vars:Nat→AV):Operand→AV|.tmp t=>vars t|.const v=>cv v|.func f=>.bZ f []|.global _=>.ak
def put (d:Option Nat) (v:AV) (f:Nat→AV):Nat→AV:=match d with|some d=>fun s=>if s=d then v else f s|none=>f
def aN (t:Nat) (o:AO) (f:Nat→Option AO):Nat→Option AO:=fun s=>if s=t then some o else f s
def look (l:List (Nat×AV)) (s:Nat):AV:=match l with|[]=>.ak|(t,v)::l=>if s=t then v else look l s
def ab (l:List (Nat×AO)) (s:Nat):Option AO:=match l with|[]=>none|(t,v)::l=>if s=t then some v else ab l s
def asks:AV→Prop|.ck g v=>g=true∧asks v|_=>True
def strip:AV→AV|.ck _ v=>strip v|v=>v
def an:List AV→Prop|[]=>True|v::l=>asks v∧an l
inductive XK where|UH|FL (s:Nat)|HV (s:Nat) (z:Value) (ok:Bool)|dead|vF (ne:Bool)|zk|Hc|EO (e:TypeId) (sz bytes:Nat) (zs:List Value)|Ex (e:TypeId)|Qk (e:TypeId) (bytes:Nat) (zs:List Value)|mark|Yu|Ew|XX|Sv (s:Nat)|Gi (s:Nat) (z:Value) (ok:Bool)|mW (e:TypeId) (sz:Nat)|dlv (s:Nat)|Fh (ne:Bool)|WS|nxt|ent
inductive AK where|nX|pick|bin (op:BinOp)|beq (ne:Bool)|not|neg|CE (k:IntKind)|Di|len|vt|vd|I7 (lo hi:Bool)|FI (off:Nat) (n:Option Nat)|sy (off:Nat)|load (n:Option Nat)|Fw (e:TypeId) (sz:Nat)|FA (n sz:Nat)|ED|Cw (sz:Nat) (lo hi:Bool)|ext (i:Nat)|H9 (zs:List Value) (parts:List (Nat×Nat))|Ih (f:FuncId)|ij (e:TypeId)|box|alloc (zs:List Value)|rT (e:TypeId) (sz:Nat)|call (f:FuncId)|ly|G3 (mx:Bool)|eqs (ne:Bool) (ks:List Nat)|store (n:Option Nat)|app (e:TypeId) (sz bytes:Nat)|rW|ou (e:TypeId)|HR (e:TypeId) (sz:Nat) (zs:List Value)|ex (x:XK)
structure AI where
 d:Option Nat
 k:AK
 xs:List Operand
 g:Option (Nat×Bool)
 un:List Nat
 tg:Option Nat
inductive AC where|skip|Ib (is:List AI) (drawn:Bool) (c7:List Nat)|seq (a b:AC)|cond (x:Operand) (a b:AC)|block (id:Nat) (a:AC)|loop (a:AC)|exit (id:Nat)|ret
def fS (op:BinOp) (k:IntKind) (a b:Int):PV:=.int k (k.wrap (match op with|.and=>(BitVec.ofInt k.bits a&&&BitVec.ofInt k.bits b).toNat|.or=>(BitVec.ofInt k.bits a|||BitVec.ofInt k.bits b).toNat|.xor=>(BitVec.ofInt k.bits a^^^BitVec.ofInt k.bits b).toNat|_=>(BitVec.ofInt k.bits a&&&~~~BitVec.ofInt k.bits b).toNat:Nat))
def dt (op:BinOp) (x y:PV):Option (Prop×PV):=match x,y with
 |.int k a,.int k' b=>match op with|.shl=>some (0≤b,.int k (k.wrap (a*2^(min b.toNat k.bits))))|.shr=>some (0≤b,.int k (a.fdiv (2^(min b.toNat k.bits))))|op=>if k=k' then match op with|.add=>some (True,.int k (k.wrap (a+b)))|.sub=>some (True,.int k (k.wrap (a-b)))|.mul=>some (True,.int k (k.wrap (a*b)))|.quo=>some (b≠0,.int k (k.wrap (a.tdiv b)))|.rem=>some (b≠0,.int k (a.tmod b))|.eql=>some (True,.bool (decide (a=b)))|.neq=>some (True,.bool (!decide (a=b)))|.lss=>some (True,.bool (decide (a<b)))|.leq=>some (True,.bool (decide (a≤b)))|.gtr=>some (True,.bool (decide (b<a)))|.geq=>some (True,.bool (decide (b≤a)))|op=>some (True,fS op k a b) else none
 |.str a,.str b=>match op with|.add=>some (a.length+b.length≤9223372036854775807,.str (a++b))|.eql=>some (True,.bool (decide (a=b)))|.neq=>some (True,.bool (!decide (a=b)))|.lss=>some (True,.bool (Op.bytesLess a b))|.leq=>some (True,.bool (Op.bytesLess a b||decide (a=b)))|.gtr=>some (True,.bool (!(Op.bytesLess a b||decide (a=b))))|.geq=>some (True,.bool (!Op.bytesLess a b))|_=>none
 |_,_=>none
def m5:IntKind→Nat|.i8=>0|.i16=>1|.i32=>2|.i64=>3|.u8=>4|.u16=>5|.u32=>6|.u64=>7
def dw:PV→Nat|.bool _=>0|.str _=>1|.int k _=>2+m5 k|_=>99
def m8:PV→PV→Bool|.int _ a,.int _ b=>decide (a=b)|.str a,.str b=>decide (a=b)|.bool a,.bool b=>decide (a=b)|_,_=>false
def jl:List PV→List PV→Bool|[],[]=>true|a::l,b::m=>m8 a b&&jl l m|_,_=>false
def rowAt (rows:List (List PV)) (i:Int):List PV:=rows.getD i.toNat []
def bytesRow (l:List UInt8):List (List PV):=l.map fun c=>[.int .u8 (c.toNat:Int)]
def Ee:AV→Option PV|.pv p=>some p|_=>none
def eU:List AV→Option (List PV)|[]=>some []|v::l=>(Ee v).bind fun p=>(eU l).map (p::·)
def rowOf:AV→Option (List PV)|.agg cs=>eU cs|.pv p=>some [p]|_=>none
def rowsOf:List AV→Option (List (List PV))|[]=>some []|v::l=>(rowOf v).bind fun p=>(rowsOf l).map (p::·)
def cellsOf:AV→List AV|.agg cs=>cs|v=>[v]
def eE:AV→Bool|.pv (.val v)=>v.oneCell'|.pv _|.own _|.ptr _ _|.aY _ _ _ _|.sub _ _ _ _|.rp _|.bZ _ _=>true|_=>false
def fA:List AV→Bool|[]=>true|c::cs=>eE c&&fA cs
def mo:AV→Bool|.agg _=>true|v=>eE v
def rQ:AV→AV|.bZ f []=>.pv (.val (.func (.func f) #[] #[]))|v=>v
def lay (cs:List AV) (off:Nat) (ps:List AV):List AV:=cs.take off++ps++cs.drop (off+ps.length)
def lh (cs:List AV):List (Nat×Nat)→List AV→Option (List AV)|[],[]=>some cs|(off,n)::ps,x::xs=>if mo x=true∧(cellsOf x).length=n∧off+n≤cs.length then lh (lay cs off ((cellsOf x).map rQ)) ps xs else none|_,_=>none
def bounds (n:Nat) (lo hi:Bool) (xs:List AV):Option (Int×Int):=match lo,hi,xs with|false,false,[]=>some (0,n)|true,false,[.pv (.int _ l)]=>some (l,n)|false,true,[.pv (.int _ h)]=>some (0,h)|true,true,[.pv (.int _ l),.pv (.int _ h)]=>some (l,h)|_,_,_=>none
def cut {α:Type} (l:List α) (lo hi:Int):List α:=(l.take hi.toNat).drop lo.toNat
def df:Option AO→Option (TypeId×List (List PV))|some (.arr e rows)=>some (e,rows)|_=>none
def X6:Option AO→Option (TypeId×List AV)|some (.rws e cs)=>some (e,cs)|_=>none
def BH:Option AO→Option (TypeId×Nat)|some (.arr e rows)=>some (e,rows.length)|some (.rws e cs)=>some (e,cs.length)|_=>none
def eV:Option AO→Option (List AV)|some (.box cs)=>some cs|_=>none
def cU (aa:Nat→Option AO):AV→Option (List (List PV))|.pv .nil=>some []|.pv (.ro rows)=>some rows|.pv (.str l)=>some (bytesRow l)|.own t=>(df (aa t)).map (·.2)|.sub t e lo hi=>(df (aa t)).bind fun r=>if r.1=e then some ((r.2.take hi).drop lo) else none|_=>none
def fy (aa:Nat→Option AO):AV→Option (List (List PV))|.pv .nil=>some []|.pv (.ro rows)=>some rows|.own t=>(df (aa t)).map (·.2)|.sub t e lo hi=>(df (aa t)).bind fun r=>if r.1=e then some ((r.2.take hi).drop lo) else none|_=>none
def byteOf:List PV→Option UInt8|[.int .u8 n]=>if 0≤n∧n<256 then some (UInt8.ofNat n.toNat) else none|_=>none
def bytesOf:List (List PV)→Option (List UInt8)|[]=>some []|r::l=>(byteOf r).bind fun c=>(bytesOf l).map (c::·)
def lG:AV→Bool|.agg _|.aS _|.ck _ _|.ak=>false|_=>true
def mn (e:TypeId) (i:Int) (o:Nat):Option AO→Option (Prop×AV)|some (.arr e' rows)=>if e'=e then some (0≤i∧i<rows.length∧o<(rowAt rows i).length,.pv ((rowAt rows i).getD o (.int .u8 0))) else none|some (.rws e' cs)=>if e'=e∧o=0 then(cs[i.toNat]?).bind fun c=>if lG c=true then some (0≤i,c) else none else none|_=>none
def m6 (k:PV):List (PV×PV)→Option PV|[]=>none|e::l=>if m8 k e.1=true then some e.2 else m6 k l
def fX (s:Nat) (es:List (PV×PV)):Prop:=∀e∈es,dw e.1=s
def Cl (z:Value) (ok:Bool) (o:Option PV):AV:=if ok=true then .aS [.pv (o.getD (u7 z)),.pv (.bool o.isSome)] else .pv (o.getD (u7 z))
def al (k:AK) (xs:List AV) (aa:Nat→Option AO):Option (Prop×AV):=match k,xs with|.bin op,[.pv x,.pv y]=>(dt op x y).map fun r=>(r.1,.pv r.2)|.beq ne,[.pv (.bool x),.pv (.bool y)]=>some (True,.pv (.bool (if ne then x !=y else x==y)))|.not,[.pv (.bool b)]=>some (True,.pv (.bool (!b)))|.neg,[.pv (.int k n)]=>some (True,.pv (.int k (k.wrap (0-n))))|.CE k,[.pv (.int _ n)]=>some (True,.pv (.int k (k.wrap n)))|.Di,[.pv (.str l)]=>some (True,.pv (.str l))|.vt,[.pv (.str l)]=>some (True,.pv (.int .i64 l.length))|.len,[.pv .nil]=>some (True,.pv (.int .i64 0))|.len,[.pv (.ro rows)]=>some (True,.pv (.int .i64 rows.length))|.len,[.own t]=>(BH (aa t)).map fun r=>(True,.pv (.int .i64 r.2))|.len,[.sub t _ lo hi]=>(df (aa t)).map fun _=>(True,.pv (.int .i64 ((hi:Int)-(lo:Int))))|.vd,[.pv (.str l),.pv (.int _ i)]=>some (0≤i∧i<l.length,.pv (.int .u8 ((l.getD i.toNat 0).toNat:Int)))|.I7 lo hi,.pv (.str l)::bs=>(bounds l.length lo hi bs).map fun b:Int×Int=>(0≤b.1∧b.1≤b.2∧b.2≤(l.length:Int),.pv (.str (cut l b.1 b.2)))|.FI off none,[.agg cs]=>(cs[off]?).map fun c=>(True,c)|.FI off (some n),[.agg cs]=>if off+n≤cs.length then some (True,.agg ((cs.drop off).take n)) else none|.sy off,[.ptr t o]=>some (True,.ptr t (o+off))|.sy off,[.aY t e i o]=>some (True,.aY t e i (o+off))|.sy off,[.rp cs]=>some (True,.rp (cs.drop off))|.FA n sz,[.ptr t o,.pv (.int _ i)]=>some (0≤i∧i<(n:Int),.ptr t (o+i.toNat*sz))|.FA n sz,[.rp cs,.pv (.int _ i)]=>some (0≤i∧i<(n:Int),.rp (cs.drop (i.toNat*sz)))|.ED,[.ptr t o]=>some (True,.ptr t o)|.ED,[.aY t e i o]=>some (True,.aY t e i o)|.ED,[.rp cs]=>some (True,.rp cs)|.load none,[.ptr t o]=>(eV (aa t)).bind fun cs=>(cs[o]?).bind fun c=>if lG c=true then some (True,c) else none|.load (some n),[.ptr t o]=>(eV (aa t)).bind fun cs=>if o+n≤cs.length then some (True,.agg ((cs.drop o).take n)) else none|.load none,[.aY t e i o]=>mn e i o (aa t)|.load (some n),[.aY t e i o]=>(df (aa t)).bind fun r=>if r.1=e∧o+n≤(rowAt r.2 i).length then some (0≤i∧i<r.2.length,.agg ((((rowAt r.2 i).drop o).take n).map .pv)) else none|.load none,[.rp (c::_)]=>some (True,.pv c)|.load none,[.rp []]=>some (False,.pv (.int .u64 0))|.load (some n),[.rp cs]=>if n≤cs.length then some (True,.agg ((cs.take n).map .pv)) else none|.Fw _ sz,[.pv (.ro rows),.pv (.int _ i)]=>some (0≤i∧i<rows.length∧(rowAt rows i).length=sz,.rp (rowAt rows i))|.Fw e _,[.own t,.pv (.int _ i)]=>(BH (aa t)).bind fun r=>if r.1=e then some (0≤i∧i<r.2,.aY t e i 0) else none|.Fw e _,[.sub t e1 lo hi,.pv (.int _ i)]=>(df (aa t)).bind fun r=>if r.1=e∧e1=e then some (0≤i∧i<(hi:Int)-(lo:Int),.aY t e ((lo:Int)+i) 0) else none|.Cw sz lo hi,.own t::bs=>(df (aa t)).bind fun r=>(bounds r.2.length lo hi bs).map fun b:Int×Int=>(0≤b.1∧b.1≤b.2∧b.2≤(r.2.length:Int)∧(∀x∈r.2,x.length=sz),.sub t r.1 b.1.toNat b.2.toNat)|.Cw sz lo hi,.sub t e l h::bs=>(df (aa t)).bind fun r=>if r.1=e then(bounds (h-l) lo hi bs).map fun b:Int×Int=>(0≤b.1∧b.1≤b.2∧b.2≤((h-l:Nat):Int)∧(∀x∈r.2,x.length=sz),.sub t e (l+b.1.toNat) (l+b.2.toNat)) else none|.Cw sz lo hi,.pv (.ro rows)::bs=>(bounds rows.length lo hi bs).map fun b:Int×Int=>(0≤b.1∧b.1≤b.2∧b.2≤(rows.length:Int)∧(∀r∈rows,r.length=sz),.pv (.ro (cut rows b.1 b.2)))|.Cw _ lo hi,.pv .nil::bs=>(bounds 0 lo hi bs).map fun b:Int×Int=>(b.1=0∧b.2=0,.pv .nil)|.ext i,[.aS vs]=>(vs[i]?).map fun v=>(True,v)|.H9 zs ps,xs=>(lh (zs.map cv) ps xs).map fun cs=>(True,.agg cs)|.Ih f,xs=>some (True,.bZ f xs)|.G3 mx,[.pv (.int k a),.pv (.int k' b)]=>if k=k' then some (True,.pv (.int k (if mx then max a b else min a b))) else none|.eqs ne ks,[.agg xs,.agg ys]=>(eU xs).bind fun a=>(eU ys).map fun b=>(a.map dw=ks∧b.map dw=ks,.pv (.bool (if ne then !jl a b else jl a b)))|.ex (.Gi s z ok),[.pv (.mv es),.pv k]=>some (z.oneCell'=true∧dw k=s∧fX s es,Cl z ok (m6 k es))|.ex (.mW _ sz),xs=>(rowsOf xs).map fun rows=>(∀r∈rows,r.length=sz,.pv (.ro rows))|.rW,[x]=>(fy aa x).bind fun rows=>(bytesOf rows).map fun l=>(True,.pv (.str l))|.ou _,[.pv (.str l)]=>some (True,.pv (.ro (bytesRow l)))|_,_=>none
def ct:Value→Option Nat|.slice (some a) _ _=>some a.block|.pointer (some a)=>some a.block|.map (some b)=>some b|_=>none
def bY:PV→Value|.int k n=>.int k n|.str l=>.string ⟨l.toArray⟩|.bool b=>.bool b|_=>undef
inductive da (S:Nat→Prop) (w:World):Value→PV→Prop|int (k:IntKind) (n:Int):da S w (.int k n) (.int k n)|bool (b:Bool):da S w (.bool b) (.bool b)|str (l:List UInt8):da S w (.string ⟨l.toArray⟩) (.str l)|nil:da S w (.slice none 0 0) .nil|val (v:Value):v.oneCell'=true→da S w v (.val v)|mp (b:Nat) (us:Array MapEntry) (c:Nat) (ks:List PV):S b→w.heap[b]?=some (.map us c)→us.toList.length=ks.length→(∀(i:Nat) (k:PV) (u:MapEntry),ks[i]?=some k→us.toList[i]?=some u→u.key=bY k∧u.val=.agg #[])→da S w (.map (some b)) (.mp ks)|mv (b:Nat) (us:Array MapEntry) (c:Nat) (es:List (PV×PV)):S b→w.heap[b]?=some (.map us c)→MapKept.Stamped us c→us.toList.length=es.length→(∀(i:Nat) (e:PV×PV) (u:MapEntry),es[i]?=some e→us.toList[i]?=some u→u.key=bY e.1∧dw e.1<99∧u.val.oneCell'=true)→(∀(i:Nat) (e:PV×PV) (u:MapEntry),es[i]?=some e→us.toList[i]?=some u→da S w u.val e.2)→da S w (.map (some b)) (.mv es)|pt (ad:Addr) (cs:List PV) (us:Nat→Value):S ad.block→(∀j,j<cs.length→w.cell? (ad.add j)=some (us j))→(∀(j:Nat) (p:PV),cs[j]?=some p→(us j).oneCell'=true)→(∀(j:Nat) (p:PV),cs[j]?=some p→da S w (us j) p)→da S w (.pointer (some ad)) (.pt cs)|wB (A:Option Addr) (c:Nat):da S w (.slice A 0 c) (.ro [])|ro (ad:Addr) (c:Nat) (rows:List (List PV)) (sz:Nat) (us:Nat→Nat→Value):S ad.block→rows.length≤c→(∀r,r∈rows→r.length=sz)→(∀i j,i<rows.length→j<sz→w.cell? (ad.add (i*sz+j))=some (us i j))→(∀(i j:Nat) (r:List PV) (p:PV),rows[i]?=some r→r[j]?=some p→(us i j).oneCell'=true)→(∀(i j:Nat) (r:List PV) (p:PV),rows[i]?=some r→r[j]?=some p→da S w (us i j) p)→da S w (.slice (some ad) rows.length c) (.ro rows)
inductive RV (P:Program) (S:Nat→Prop) (w:World) (β:Nat→Value) (D:Nat→Prop):Value→AV→Prop|pv (v:Value) (p:PV):da S w v p→RV P S w β D v (.pv p)|own (t:Nat):D t→RV P S w β D (β t) (.own t)|ptr (t o b:Nat):D t→β t=.pointer (some ⟨b,0,none⟩)→RV P S w β D (.pointer (some ⟨b,o,none⟩)) (.ptr t o)|aY (t:Nat) (e:TypeId) (i:Int) (o b n c:Nat) (inf:TypeInfo):D t→P.info? e=some inf→β t=.slice (some ⟨b,0,none⟩) n c→RV P S w β D (.pointer (some ⟨b,i.toNat*inf.size+o,none⟩)) (.aY t e i o)|sub (v:Value) (t:Nat) (e:TypeId) (lo hi:Nat) (inf:TypeInfo) (A A1:Option Addr) (n c:Nat):D t→P.info? e=some inf→β t=.slice A n c→lo≤hi→hi≤n→n≤c→(lo=0→A1=A)→(c≠lo→A1=A.map (·.add (lo*inf.size)))→v=.slice A1 (hi-lo) (c-lo)→RV P S w β D v (.sub t e lo hi)|rp (ad:Addr) (cs:List PV) (us:Nat→Value):S ad.block→(∀j,j<cs.length→w.cell? (ad.add j)=some (us j))→(∀(j:Nat) (p:PV),cs[j]?=some p→(us j).oneCell'=true)→(∀(j:Nat) (p:PV),cs[j]?=some p→da S w (us j) p)→RV P S w β D (.pointer (some ad)) (.rp cs)|agg (cs:List AV) (us:List Value):us.length=cs.length→(∀(i:Nat) (c:AV) (u:Value),cs[i]?=some c→us[i]?=some u→RV P S w β D u c)→RV P S w β D (.agg us.toArray) (.agg cs)|aS (vs:List AV) (us:List Value):us.length=vs.length→(∀(i:Nat) (c:AV) (u:Value),vs[i]?=some c→us[i]?=some u→RV P S w β D u c)→RV P S w β D (.tuple us.toArray) (.aS vs)|bZ (f:FuncId) (cs:List AV) (us:List Value):us.length=cs.length→(∀(i:Nat) (c:AV) (u:Value),cs[i]?=some c→us[i]?=some u→RV P S w β D u c)→RV P S w β D (.func (.func f) #[] us.toArray) (.bZ f cs)|ck (g:Bool) (v:Value) (av:AV):(g=true→RV P S w β D v av)→(g=false→v=undef)→RV P S w β D v (.ck g av)|ak (v:Value):RV P S w β D v .ak
def gY (s:Nat) (es:List (PV×AV)):Prop:=∀e∈es,dw e.1=s
def getM (k:PV):List (PV×AV)→Option AV|[]=>none|e::l=>if m8 k e.1=true then some e.2 else getM k l
def kO (k:PV) (v:AV):List (PV×AV)→List (PV×AV)|[]=>[(k,v)]|e::l=>if m8 k e.1=true then(k,v)::l else e::kO k v l
def G8:Value→AV|.agg cs=>.agg (cs.toList.map cv)|v=>cv v
def bn (P:Program) (S:Nat→Prop) (w:World) (β:Nat→Value) (D:Nat→Prop) (t:Nat):AO→Prop|.box cs=>∃b us ty,β t=.pointer (some ⟨b,0,none⟩)∧w.heap[b]?=some (.cells us ty (0,0))∧us.size=cs.length∧∀(i:Nat) (c:AV) (u:Value),cs[i]?=some c→us[i]?=some u→u.oneCell'=true∧RV P S w β D u c|.arr e rows=>∃inf us,P.info? e=some inf∧w.ownsRow 0 e inf.size (β t) rows.length us∧(∀r,r∈rows→r.length=inf.size)∧∀(i j:Nat) (r:List PV) (p:PV),rows[i]?=some r→r[j]?=some p→∃u,us[i*inf.size+j]?=some u∧u.oneCell'=true∧da S w u p|.map es=>∃(b:Nat) (us:Array MapEntry) (c:Nat),β t=.map (some b)∧w.heap[b]?=some (.map us c)∧us.toList.length=es.length∧∀(i:Nat) (e:PV×AV) (u:MapEntry),es[i]?=some e→us.toList[i]?=some u→u.key=bY e.1∧RV P S w β (fun _=>False) u.val e.2|.rws e cs=>∃inf us,P.info? e=some inf∧inf.size=1∧w.ownsRow 0 e inf.size (β t) cs.length us∧∀(i:Nat) (c:AV) (u:Value),cs[i]?=some c→us[i]?=some u→u.oneCell'=true∧RV P S w β D u c|.iF es=>∃(b:Nat) (us:Array MapEntry) (c:Nat),β t=.map (some b)∧w.heap[b]?=some (.map us c)∧MapKept.Stamped us c∧us.toList.length=es.length∧∀(i:Nat) (e:PV×PV) (u:MapEntry),es[i]?=some e→us.toList[i]?=some u→u.key=bY e.1∧dw e.1<99∧u.val.oneCell'=true∧da S w u.val e.2|.nC rem cur=>∃(r m:Nat) (us:Array MapEntry) (c:Nat) (seen:Array Nat),β t=.pointer (some ⟨r,0,none⟩)∧w.heap[r]?=some (.mapIter (some m) c seen c)∧S m∧w.heap[m]?=some (.map us c)∧MapKept.Stamped us c∧(leftOf us seen).toList.length=rem.length∧(∀(i:Nat) (e:PV×PV) (u:MapEntry),rem[i]?=some e→(leftOf us seen).toList[i]?=some u→u.key=bY e.1∧dw e.1<99∧u.val.oneCell'=true∧da S w u.val e.2)∧∀e,cur=some e→∃(u:MapEntry) (seen':Array Nat),seen=seen'.push u.born∧u∈us.toList∧u.key=bY e.1∧dw e.1<99∧u.val.oneCell'=true∧da S w u.val e.2
def aG {α:Type} (aa:Nat→Option α) (t:Nat):Prop:=∃o,aa t=some o
def live (β:Nat→Value) (aa:Nat→Option AO) (b:Nat):Prop:=∃t o,aa t=some o∧ct (β t)=some b
def aU (S0:Nat→Prop) (n0:Nat) (β:Nat→Value) (aa:Nat→Option AO) (w:World) (b:Nat):Prop:=(S0 b∨n0≤b)∧b<w.heap.size∧¬live β aa b
structure Heap (P:Program) (S:Nat→Prop) (w:World) (β:Nat→Value) (aa:Nat→Option AO):Prop where
 holds:∀t o,aa t=some o→bn P S w β (aG aa) t o
 inj:∀t t' b,aG aa t→aG aa t'→ct (β t)=some b→ct (β t')=some b→t=t'
structure zC (L:Nat→Prop) (w w':World):Prop where
 os:w'.os=w.os
 tape:w'.tape=w.tape
 output:w'.output=w.output
 size:w.heap.size≤w'.heap.size
 block:∀b,b<w.heap.size→¬L b→w'.heap[b]?=w.heap[b]?
def Er (P:Program) (t:TypeId):Bool:=P.cutTypes.toList.any fun c=>c.2==t||P.underlyingId c.2==t
def R0 (P:Program):Bool:=P.follows .mixedOrders&&(List.range P.types.size).all fun t=>Er P t||!P.stoodInHeld t
theorem LA {P:Program} (h:R0 P=true):P.follows .mixedOrders=true:=(Bool.and_eq_true_iff.1 h).1
theorem Lq {P:Program} (h:R0 P=true) (t:TypeId) (ht:t<P.types.size∧Er P t=false):P.stoodInHeld t=false:=by simpa[ht.2]using List.all_eq_true.1 (Bool.and_eq_true_iff.1 h).2 t (List.mem_range.2 ht.1)
structure Rel (P:Program) (S0:Nat→Prop) (L:Nat→Prop) (B0:Nat→Value) (w0:World) (N:Nat) (st:St) (a:Act) (w:World) (β:Nat→Value):Prop where
 size:a.tmps.size=N
 defers:a.defers=[]
 vars:∀s,RV P (aU S0 w0.heap.size β st.aa w) w β (aG st.aa) (a.tmps.getD s undef) (st.vars s)
 heap:Heap P (aU S0 w0.heap.size β st.aa w) w β st.aa
 old:∀t b,aG st.aa t→ct (β t)=some b→w0.heap.size≤b∨L b
 qn:N≤998∧∀t,t<P.types.size∧Er P t=false→P.stoodInHeld t=false
 u5:∀t,t%1000=999→aG st.aa t→β t=B0 t
 bS:zC L w0 w
def bI:AV→Nat→Option AV|.agg cs,j=>cs[j]?|v,j=>if j=0 then some v else none
def cellAt:AV→Nat→Option AV|.aS vs,p=>(vs[p%1000]?).bind fun v=>bI v (p/1000)|v,p=>if p%1000=0 then bI v (p/1000) else none
def fZ (g:Nat→AV→AV) (j:Nat):List AV→List AV|[]=>[]|c::cs=>g (1000*j) c::fZ g (j+1) cs
def mX (g:Nat→AV→AV):AV→AV|.agg cs=>.agg (fZ g 0 cs)|v=>g 0 v
def iX (g:Nat→AV→AV) (i:Nat):List AV→List AV|[]=>[]|v::vs=>mX (fun p c=>g (p+i) c) v::iX g (i+1) vs
def cR (g:Nat→AV→AV):AV→AV|.aS vs=>.aS (iX g 0 vs)|v=>mX g v
def lA (d:Nat) (p:Nat):AV→AV|.fr _ _=>.own (d+1000*p)|v=>v
def FH (p:Nat):AV→AV|.fr _ _=>.own p|v=>v
def du:Option AV→Option AO|some (.fr e rows)=>some (.arr e rows)|_=>none
def fY (j:Nat):List AV→List (Nat×AO)|[]=>[]|.fr e rows::cs=>(1000*j,.arr e rows)::fY (j+1) cs|_::cs=>fY (j+1) cs
def lv:AV→List (Nat×AO)|.agg cs=>fY 0 cs|.fr e rows=>[(0,.arr e rows)]|_=>[]
def my (i:Nat):List AV→List (Nat×AO)|[]=>[]|v::vs=>(lv v).map (fun x=>(x.1+i,x.2))++my (i+1) vs
def Bs:AV→List (Nat×AO)|.aS vs=>my 0 vs|v=>lv v
def iv:PV→Bool|.int _ _|.bool _|.str _|.nil|.val _=>true|.ro rows=>rows.isEmpty|.mp _|.mv _|.pt _=>false
def cT (rows:List (List PV)):Prop:=∀r∈rows,∀p∈r,iv p=true
def nf:AV→Prop|.pv p=>iv p=true|.fr _ rows=>cT rows|_=>False
def nY:List AV→Prop|[]=>True|c::cs=>nf c∧nY cs
def lk:AV→Prop|.agg cs=>nY cs|v=>nf v
def rM:List AV→Prop|[]=>True|c::cs=>lk c∧rM cs
def flat:AV→Prop|.aS vs=>rM vs|v=>lk v
def bo (f g:Nat→Option AO):Nat→Option AO:=fun t=>match f t with|some o=>some o|none=>g t
def u9 (P:Program) (f:FuncId) (hin:List (Nat×AO)) (args:List AV) (hout:List (Nat×AO)) (r:AV):Prop:=∀(w:World) (S0:Nat→Prop) (β:Nat→Value) (vals:List Value),(∀b,S0 b→b<w.heap.size)→(∀t b,aG (ab hin) t→ct (β t)=some b→b<w.heap.size)→Heap P (aU S0 w.heap.size β (ab hin) w) w β (ab hin)→vals.length=args.length→(∀(i:Nat) (v:Value) (x:AV),vals[i]?=some v→args[i]?=some x→RV P (aU S0 w.heap.size β (ab hin) w) w β (aG (ab hin)) v x)→Calls P f vals.toArray w fun e w'=>∃v β',e=.returned v∧zC (live β (ab hin)) w w'∧Heap P (aU S0 w.heap.size β' (bo (ab hout) fun t=>du (cellAt r t)) w') w' β' (bo (ab hout) fun t=>du (cellAt r t))∧(∀t b,aG (bo (ab hout) fun t=>du (cellAt r t)) t→ct (β' t)=some b→w.heap.size≤b∨live β (ab hin) b)∧RV P (aU S0 w.heap.size β' (bo (ab hout) fun t=>du (cellAt r t)) w') w' β' (aG (bo (ab hout) fun t=>du (cellAt r t))) v (cR FH r)
def LH:AV→AV|.fr _ _=>.own 998|.aS [.fr _ _]=>.own 999|x=>x
def mY:List AV→List (Nat×AO)|[]=>[]|.fr e rows::_=>[(998,.arr e rows)]|.aS [.fr e rows]::_=>[(999,.arr e rows)]|_::l=>mY l
def b7:AV→AV|.bZ _ [r,.fr _ _]=>r|r=>r
def en:AV→List (Nat×AO)|.bZ _ [_,.fr e rows]=>[(999,.arr e rows)]|_=>[]
def CT (P:Program) (f:FuncId) (ys:List AV) (x:AV):Prop:=∀(w:World) (S0:Nat→Prop) (β:Nat→Value) (vals:List Value),(∀b,S0 b→b<w.heap.size)→(∀t b,aG (ab (mY ys)) t→ct (β t)=some b→b<w.heap.size)→Heap P (aU S0 w.heap.size β (ab (mY ys)) w) w β (ab (mY ys))→vals.length=ys.length→(∀(i:Nat) (v:Value) (x:AV),vals[i]?=some v→(ys.map LH)[i]?=some x→RV P (aU S0 w.heap.size β (ab (mY ys)) w) w β (aG (ab (mY ys))) v x)→Calls P f vals.toArray w fun e w'=>∃v β',e=.returned v∧zC (live β (ab (mY ys))) w w'∧Heap P (aU (fun b=>S0 b∨live β (ab (mY ys)) b) w.heap.size β' (bo (ab (en x)) fun t=>du (cellAt (b7 x) t)) w') w' β' (bo (ab (en x)) fun t=>du (cellAt (b7 x) t))∧(∀t b,aG (bo (ab (en x)) fun t=>du (cellAt (b7 x) t)) t→ct (β' t)=some b→w.heap.size≤b∨live β (ab (mY ys)) b)∧(∀t,aG (ab (en x)) t→aG (ab (mY ys)) t∧β' t=β t)∧RV P (aU (fun b=>S0 b∨live β (ab (mY ys)) b) w.heap.size β' (bo (ab (en x)) fun t=>du (cellAt (b7 x) t)) w') w' β' (aG (bo (ab (en x)) fun t=>du (cellAt (b7 x) t))) v (cR FH (b7 x))
inductive HT (P:Program) (S:Nat→Prop) (w:World):Value→AV→List Nat→Prop|leaf (v:Value) (y:AV):RV P S w (fun _=>undef) (fun _=>False) v y→HT P S w v y []|fr (v:Value) (e:TypeId) (rows:List (List PV)) (inf:TypeInfo) (us:List Value):P.info? e=some inf→w.ownsRow 0 e inf.size v rows.length us→(∀r,r∈rows→r.length=inf.size)→(∀(i j:Nat) (r:List PV) (p:PV),rows[i]?=some r→r[j]?=some p→∃u,us[i*inf.size+j]?=some u∧u.oneCell'=true∧da S w u p)→HT P S w v (.fr e rows) (ct v).toList|mf (b:Nat) (us:Array MapEntry) (c:Nat) (es:List (PV×PV)):w.heap[b]?=some (.map us c)→MapKept.Stamped us c→us.toList.length=es.length→(∀(i:Nat) (e:PV×PV) (u:MapEntry),es[i]?=some e→us.toList[i]?=some u→u.key=bY e.1∧dw e.1<99∧u.val.oneCell'=true∧da S w u.val e.2)→HT P S w (.map (some b)) (.mf es) [b]|bx (b:Nat) (us:Array Value) (ty:TypeId) (cs:List AV) (bss:List (List Nat)):w.heap[b]?=some (.cells us ty (0,0))→us.size=cs.length→bss.length=cs.length→(∀(i:Nat) (u:Value),us[i]?=some u→u.oneCell'=true)→(∀(i:Nat) (c:AV) (u:Value) (bs:List Nat),cs[i]?=some c→us[i]?=some u→bss[i]?=some bs→HT P S w u c bs)→HT P S w (.pointer (some ⟨b,0,none⟩)) (.bx cs) (b::bss.flatten)|agg (us:List Value) (cs:List AV) (bss:List (List Nat)):us.length=cs.length→bss.length=cs.length→(∀(i:Nat) (c:AV) (u:Value) (bs:List Nat),cs[i]?=some c→us[i]?=some u→bss[i]?=some bs→HT P S w u c bs)→HT P S w (.agg us.toArray) (.agg cs) bss.flatten|aS (us:List Value) (cs:List AV) (bss:List (List Nat)):us.length=cs.length→bss.length=cs.length→(∀(i:Nat) (c:AV) (u:Value) (bs:List Nat),cs[i]?=some c→us[i]?=some u→bss[i]?=some bs→HT P S w u c bs)→HT P S w (.tuple us.toArray) (.aS cs) bss.flatten
def FE (P:Program) (S:Nat→Prop) (w:World) (vs:List Value) (ys:List AV) (bss:List (List Nat)):Prop:=vs.length=ys.length∧bss.length=ys.length∧∀(i:Nat) (y:AV) (v:Value) (bs:List Nat),ys[i]?=some y→vs[i]?=some v→bss[i]?=some bs→HT P S w v y bs
def I1:AV→AV|.aS [y]=>y|y=>y
def Il:AV→Bool|.aS [_]=>true|_=>false
def ew {α:Type}:List AV→List α→List α|y::ys,v::vs=>if Il y=true then v::ew ys vs else ew ys vs|_,_=>[]
def kL:AV→AV|.bZ _ (r::_)=>r|r=>r
def lC:AV→List AV|.bZ _ (_::os)=>os|_=>[]
def Bv (P:Program) (f:FuncId) (ys:List AV) (x:AV):Prop:=∀(w:World) (S0:Nat→Prop) (vals:List Value) (bss:List (List Nat)),(∀b,S0 b→b<w.heap.size∧b∉bss.flatten)→bss.flatten.Nodup→FE P S0 w vals (ys.map I1) bss→Calls P f vals.toArray w fun e w'=>∃v bss',e=.returned v∧zC (·∈bss.flatten) w w'∧bss'.flatten.Nodup∧(∀b∈bss'.flatten,w.heap.size≤b∨b∈bss.flatten)∧FE P (fun b=>(S0 b∨b∈bss.flatten∨w.heap.size≤b)∧b<w'.heap.size∧b∉bss'.flatten) w' (ew ys vals++[v]) (lC x++[kL x]) bss'
def KR:AV→Bool|.agg []=>true|_=>false
def zR:Value→Bool|.agg cs=>cs.isEmpty|_=>false
def FJ:Option AO→Option PV|some (.arr _ rows)=>some (.ro rows)|some (.map es)=>if es.all (fun e=>KR e.2)=true then some (.mp (es.map (·.1))) else none|some (.iF es)=>some (.mv es)|_=>none
def ei (aa:Nat→Option AO):AV→Option PV|.pv .nil=>some (.ro [])|.pv p=>some p|.own t=>FJ (aa t)|.sub t e lo hi=>(df (aa t)).bind fun r=>if r.1=e then some (.ro ((r.2.take hi).drop lo)) else none|_=>none
def im (aa:Nat→Option AO):List AV→Option (List PV)|[]=>some []|c::cs=>(ei aa c).bind fun p=>(im aa cs).map (p::·)
def fg (aa:Nat→Option AO):AV→Option AV|.ptr t o=>(eV (aa t)).bind fun cs=>(im aa (cs.drop o)).map .rp|.rp cs=>some (.rp cs)|.agg cs=>(im aa cs).map fun ps=>.agg (ps.map .pv)|.bZ f []=>some (.bZ f [])|v=>(ei aa v).map .pv
def lu (aa:Nat→Option AO):List AV→Option (List AV)|[]=>some []|c::cs=>(fg aa c).bind fun p=>(lu aa cs).map (p::·)
def nW (aa:Nat→Option AO):AV→Option AV|.bZ f caps=>(lu aa caps).map (.bZ f)|v=>fg aa v
def fC (aa:Nat→Option AO):List AV→Option (List AV)|[]=>some []|c::cs=>(nW aa c).bind fun p=>(fC aa cs).map (p::·)
def gM:AV→Bool|.pv _|.rp _=>true|_=>false
def ic:List AV→Bool|[]=>true|c::cs=>gM c&&ic cs
def dZ:AV→Bool|.agg cs=>ic cs|.bZ _ cs=>ic cs|v=>gM v
def eR:List AV→Bool|[]=>true|c::cs=>dZ c&&eR cs
def RS:Option AO→Option AV|some (.arr e rows)=>some (.fr e rows)|some (.iF es)=>some (.mf es)|_=>none
def Ie (f:AV→Option (AV×List Nat)):List AV→Option (List AV×List Nat)|[]=>some ([],[])|c::cs=>(f c).bind fun r=>(Ie f cs).map fun q=>(r.1::q.1,r.2++q.2)
def rd:Nat→(Nat→Option AO)→AV→Option (AV×List Nat)|0,_,_=>none|n+1,aa,x=>match x with|.own t=>(RS (aa t)).map fun y=>(y,[t])|.ptr t 0=>(eV (aa t)).bind fun cs=>(Ie (rd n aa) cs).map fun r=>(.bx r.1,t::r.2)|.agg cs=>(Ie (rd n aa) cs).map fun r=>(.agg r.1,r.2)|.pv p=>some (.pv p,[])|.rp cs=>some (.rp cs,[])|.bZ f []=>some (.bZ f [],[])|_=>none
def tk:Bool→List Nat×List Nat→Option (Nat×List Nat×List Nat)|true,(p::ps,us)=>some (p,ps,us)|false,(ps,u::us)=>some (u,ps,us)|_,_=>none
def pX (f:AV→List Nat×List Nat→Option (AV×List (Nat×AO)×List Nat×List Nat)):List AV→List Nat×List Nat→Option (List AV×List (Nat×AO)×List Nat×List Nat)|[],s=>some ([],[],s)|c::cs,s=>(f c s).bind fun r=>(pX f cs r.2.2).map fun q=>(r.1::q.1,r.2.1++q.2.1,q.2.2)
def num:Nat→Bool→AV→List Nat×List Nat→Option (AV×List (Nat×AO)×List Nat×List Nat)|0,_,_,_=>none|n+1,top,y,s=>match y with|.fr e rows=>(tk top s).map fun q=>(.own q.1,[(q.1,.arr e rows)],q.2)|.mf es=>(tk top s).map fun q=>(.own q.1,[(q.1,.iF es)],q.2)|.bx cs=>(tk top s).bind fun q=>(pX (num n false) cs q.2).map fun r=>(.ptr q.1 0,(q.1,.box r.1)::r.2.1,r.2.2)|.agg cs=>(pX (num n top) cs s).map fun r=>(.agg r.1,r.2)|.aS cs=>(pX (num n top) cs s).map fun r=>(.aS r.1,r.2)|.pv p=>some (.pv p,[],s)|.rp cs=>some (.rp cs,[],s)|.bZ f caps=>if ic caps=true then some (.bZ f caps,[],s) else none|_=>none
def rO:AV→List Nat|.own t=>[t]|.ptr t 0=>[t]|_=>[]
def sD:AV→List Nat|.agg cs=>cs.flatMap rO|x=>rO x
def eF (W:List Nat):AV→AV|.own t=>if W.contains t then .ak else .own t|.ptr t o=>if W.contains t then .ak else .ptr t o|.aY t e i o=>if W.contains t then .ak else .aY t e i o|.sub t e lo hi=>if W.contains t then .ak else .sub t e lo hi|.pv p=>.pv p|.rp cs=>.rp cs|.bZ f []=>.bZ f []|_=>.ak
def jk (W:List Nat):AV→AV|.agg cs=>.agg (cs.map (eF W))|v=>eF W v
def m7 (W:List Nat):AV→AV|.aS cs=>.aS (cs.map (jk W))|.bZ f cs=>.bZ f (cs.map (jk W))|.ck g v=>.ck g (m7 W v)|v=>jk W v
def fB (W:List Nat) (v:AV):AV:=if W.isEmpty=true then v else m7 W v
def BV (W:List Nat):AO→AO|.box cs=>.box (cs.map (eF W))|.rws e cs=>.rws e (cs.map (eF W))|o=>o
def kc (W:List Nat) (o:AO):AO:=if W.isEmpty=true then o else BV W o
def iy (W:List Nat) (f:Nat→AV):Nat→AV:=fun s=>fB W (f s)
def eY (T W:List Nat) (f:Nat→Option AO):Nat→Option AO:=fun t=>if T.contains t then none else(f t).map (kc W)
def E6 (aa objs':Nat→Option AO) (T:List Nat):List Nat→List AV→Option (List AV)|[],[]=>some []|k::ks,x::xs=>(if k=0 then nW objs' (fB T x) else if k=1 then(rd 5 aa x).map (·.1) else(rd 5 aa x).map fun r=>.aS [r.1]).bind fun y=>(E6 aa objs' T ks xs).map (y::·)|_,_=>none
def fu (aa:Nat→Option AO):List Nat→List AV→List Nat|k::ks,x::xs=>(if k=0 then[] else((rd 5 aa x).map (·.2)).getD [])++fu aa ks xs|_,_=>[]
def eO:List Nat→List AV→List AV|k::ks,x::xs=>if 1<k then x::eO ks xs else eO ks xs|_,_=>[]
def fk (T:List Nat):List Nat→List AV→Bool|k::ks,x::xs=>(k !=0||dZ (fB T x))&&fk T ks xs|_,_=>true
def jx:Nat→AV→Prop|0,_=>False|n+1,y=>match y with|.fr _ rows=>cT rows|.mf es=>∀e∈es,iv e.2=true|.bx cs|.agg cs|.aS cs=>∀c∈cs,jx n c|.pv p=>iv p=true|.bZ _ []=>True|_=>False
def aP (d:Nat) (r:AV):List (Nat×AO):=(Bs r).map fun x=>(d+1000*x.1,x.2)
def bX {α:Type} (l:List α) (o:Nat) (ps:List α):List α:=l.take o++ps++l.drop (o+ps.length)
def b8 (t:Nat):AV→AV|.own s=>if s=t then .ak else .own s|.aY s e i o=>if s=t then .ak else .aY s e i o|.sub s e i o=>if s=t then .ak else .sub s e i o|.pv p=>.pv p|.ptr s o=>.ptr s o|.rp cs=>.rp cs|.bZ f []=>.bZ f []|_=>.ak
def bW (t:Nat):List AV→List AV|[]=>[]|c::cs=>b8 t c::bW t cs
def kill (t:Nat):AV→AV|.agg cs=>.agg (bW t cs)|.aS cs=>.aS (bW t cs)|.ck g v=>.ck g (kill t v)|v=>b8 t v
def dX (t:Nat):AO→AO|.box cs=>.box (bW t cs)|.rws e cs=>.rws e (bW t cs)|o=>o
def cC (t:Nat) (f:Nat→AV):Nat→AV:=fun s=>kill t (f s)
def dz (t:Nat) (f:Nat→Option AO):Nat→Option AO:=fun s=>(f s).map (dX t)
def cD (k:AK) (d:Nat) (xs:List AV) (aa:Nat→Option AO):Option (Prop×AV×AO):=match k,xs with|.ij e,_=>some (True,.own d,.arr e [])|.box,[x]=>if fA (cellsOf x) then some (True,.ptr d 0,.box (cellsOf x)) else none|.alloc zs,_=>if zs.all (·.oneCell') then some (True,.ptr d 0,.box (zs.map cv)) else none|.rT e sz,xs=>(rowsOf xs).map fun rows=>(∀r∈rows,r.length=sz,.own d,.arr e rows)|.app e sz bytes,[.pv .nil,x]=>(cU aa x).map fun rows=>(rows.length*bytes≤140737488355328∧rows.length≤maxLen∧(∀r∈rows,r.length=sz),.own d,.arr e rows)|_,_=>none
def eS (k:AK) (xs:List AV) (aa:Nat→Option AO):Option (Prop×Nat×AO):=match k,xs with|.store none,[.ptr t o,v]=>(eV (aa t)).bind fun cs=>if eE v∧o<cs.length then some (True,t,.box (cs.set o v)) else none|.store (some n),[.ptr t o,.agg vs]=>(eV (aa t)).bind fun cs=>if fA vs∧vs.length=n∧o+n≤cs.length then some (True,t,.box (bX cs o vs)) else none|.store none,[.aY t e i o,.pv p]=>(df (aa t)).bind fun r=>if r.1=e∧o<(rowAt r.2 i).length∧eE (.pv p) then some (0≤i∧i<r.2.length,t,.arr e (r.2.set i.toNat ((rowAt r.2 i).set o p))) else none|.store (some n),[.aY t e i o,.agg vs]=>(df (aa t)).bind fun r=>(eU vs).bind fun ps=>if r.1=e∧fA vs∧ps.length=n∧o+n≤(rowAt r.2 i).length then some (0≤i∧i<r.2.length,t,.arr e (r.2.set i.toNat (bX (rowAt r.2 i) o ps))) else none|.app e sz bytes,[.own t,x]=>(df (aa t)).bind fun r=>(cU aa x).bind fun more=>if r.1=e∧t%1000≠999 then some ((r.2.length+more.length)*bytes≤140737488355328∧r.2.length+more.length≤maxLen∧(∀r∈more,r.length=sz),t,.arr e (r.2++more)) else none|_,_=>none
def ai {α:Type} (o:Option α) (K:α→Prop):Prop:=match o with|some x=>K x|none=>False
def qE (φ ψ:Prop) (c:Bool):AV→AV→Option (Prop×AV)|.pv (.bool x),.pv (.bool y)=>some ((c=true→φ)∧(c=false→ψ),.pv (.bool (cond c x y)))|.pv (.bool x),_=>some (c=true∧φ,.pv (.bool x))|_,.pv (.bool y)=>some (c=false∧ψ,.pv (.bool y))|_,_=>none
def ja:AV→Option Bool|.pv (.bool c)=>some c|_=>none
def tE:List AV→Option (Prop×AV)|[c,a,b]=>(ja (strip c)).bind fun g=>(qE (asks a) (asks b) g (strip a) (strip b)).map fun r=>(asks c∧r.1,r.2)|_=>none
def bA (os:List (Nat×AO)) (aa:Nat→Option AO):Nat→Option AO:=fun t=>match ab os t with|some o=>some o|none=>aa t
inductive bE where|put (v:AV)|new (v:AV) (os:List (Nat×AO))|wE (t:Nat) (o:AO)|app (t:Nat) (o:AO)
def bE.on (d:Option Nat):bE→St→St|.put v,st=>⟨Ab.put d v st.vars,st.aa⟩|.new v os,st=>⟨Ab.put d v st.vars,bA os st.aa⟩|.wE t o,st=>⟨Ab.put d .ak st.vars,aN t o st.aa⟩|.app t o,st=>⟨Ab.put d (.own t) (cC t st.vars),aN t o (dz t st.aa)⟩
def pg:List AV→Bool|.own _::_=>true|_=>false
def oT:AV→Bool|.aS vs=>decide (vs.length≤1000)|_=>true
def lz:AV→Bool|.pv _|.rp _|.fr _ _=>true|_=>false
def mc:List AV→Bool|[]=>true|c::cs=>lz c&&mc cs
def rP:AV→Bool|.agg cs=>mc cs|v=>lz v
def rE:List AV→Bool|[]=>true|c::cs=>rP c&&rE cs
def dA:AV→Bool|.aS vs=>decide (vs.length≤900)&&rE vs|v=>rP v
def GR:AV→Bool
 |.bx _|.mf _=>true|.agg cs=>cs.any fun c=>match c with|.bx _|.mf _=>true|_=>false
 |_=>false
def oq:AV→Bool|.aS vs=>vs.any GR|v=>GR v
def j6 (d:Nat):List Nat:=[d,d+1000,d+2000,d+3000,d+4000,d+5000,d+6000,d+7000]
def qP (r:AV):Prop:=if oq r=true then jx 5 r else flat r
def jU (d:Nat) (r:AV):List (Nat×AO):=if oq r=true then(((num 5 false r ([],j6 d)).map (·.2.1)).getD []) else aP d r
def Ag (d:Nat) (r:AV):AV:=if oq r=true then(((num 5 false r ([],j6 d)).map (·.1)).getD .ak) else cR (lA d) r
def Bf (d:Nat) (r:AV):Bool:=if oq r=true then(num 5 false r ([],j6 d)).isSome else dA r
def M6 (P:Program) (f:FuncId) (ys:List AV) (r:AV):Prop:=(oq r=true→Bv P f ys (.bZ 0 [r]))∧(oq r=false→u9 P f [] ys [] r)
abbrev bR:=FuncId→List AV→Option (Prop×AV)
def dS (P:Program) (Γ:bR):Prop:=∀f ys φ r,Γ f ys=some (φ,r)→φ→(f<1000000∧u9 P f [] ys [] r)∨(P.funcs.size≤1000000∧1000000≤f∧f<2000000∧(ys=[.ak]∨CT P (f-1000000) ys r))∨(P.funcs.size≤1000000∧2000000≤f∧f<3000000∧(ys=[.ak]∨Bv P (f-2000000) ys r))∨(P.funcs.size≤1000000∧3000000≤f∧Bv P (f-3000000) ys (.bZ 0 [r]))
def Tc:Option (Prop×AV)→Option (Prop×AV)→Option (Prop×AV)|some x,_=>some (x.1∧oq x.2=false,x.2)|none,y=>y.map fun x=>(x.1∧oq x.2=true,x.2)
def gt (Γ:bR) (f:FuncId) (ys:List AV):Option (Prop×AV):=Tc (Γ f ys) (Γ (f+3000000) ys)
theorem no3 {n f:Nat} (h:3000000≤f) (hn:n≤1000000):¬f<n:=by omega
theorem dS.con {P:Program}{Γ:bR} (h:dS P Γ) {f:FuncId} (hf:f<P.funcs.size) {ys:List AV}{φ:Prop}{r:AV} (hr:gt Γ f ys=some (φ,r)) (hφ:φ):M6 P f ys r:=by unfold gt at hr;cases hg:Γ f ys with
 |some x=>
  rw[hg]at hr;have hr:some (x.1∧oq x.2=false,x.2)=some (φ,r):=hr;simp only[Option.some.injEq,Prod.mk.injEq]at hr;obtain⟨rfl,rfl⟩:=hr;refine⟨fun e=>absurd (hφ.2.symm.trans e) Bool.false_ne_true,fun _=>?_⟩;rcases h f ys x.1 x.2 hg hφ.1 with⟨_,h⟩|⟨h,h2,_⟩|⟨h,h2,_⟩|⟨h,h2,_⟩;·exact h
  ·exact absurd hf (Nat.not_lt.2 (Nat.le_trans h h2))
  ·exact absurd hf (Nat.not_lt.2 (Nat.le_trans h (Nat.le_trans (by decide) h2)))
  ·exact absurd hf (no3 h2 h)|none=>
  rw[hg]at hr;obtain⟨x,hx,hr⟩:=Option.map_eq_some_iff.1 (show(Γ (f+3000000) ys).map (fun x=>(x.1∧oq x.2=true,x.2))=some (φ,r) from hr);simp only[Prod.mk.injEq]at hr;obtain⟨rfl,rfl⟩:=hr;refine⟨fun _=>?_,fun e=>absurd (e.symm.trans hφ.2) Bool.false_ne_true⟩;rcases h (f+3000000) ys x.1 x.2 hx hφ.1 with⟨h,_⟩|⟨_,_,h,_⟩|⟨_,_,h,_⟩|⟨_,_,h⟩;·exact absurd h (Nat.not_lt.2 (Nat.le_trans (by decide) (Nat.le_add_left 3000000 f)))
  ·exact absurd h (Nat.not_lt.2 (Nat.le_trans (by decide) (Nat.le_add_left 3000000 f)))
  ·exact absurd h (Nat.not_lt.2 (Nat.le_add_left 3000000 f))
  ·rw[show f+3000000-3000000=f from Nat.add_sub_cancel _ _]at h;exact h
def cH (P:Program) (Γ:bR) (d:Option Nat) (f:FuncId) (xs:List AV) (aa:Nat→Option AO) (C:bE→Prop):Prop:=ai d fun d=>an xs∧ai (fC aa (xs.map strip)) fun ys=>ai (gt Γ f ys) fun x=>x.1∧(eR (xs.map strip)=true∨qP x.2)∧(∀y∈jU d x.2,aa y.1=none)∧Bf d x.2=true∧C (.new (Ag d x.2) (jU d x.2))
def aZ (P:Program) (Γ:bR) (d:Option Nat) (k:AK) (xs:List AV) (aa:Nat→Option AO) (C:bE→Prop):Prop:=match k with|.nX=>ai xs.head? fun x=>xs.length=1∧C (.put x)|.pick=>ai (tE xs) fun x=>x.1∧C (.put x.2)|.ij _|.box|.alloc _|.rT _ _=>ai d fun d=>an xs∧ai (cD k d (xs.map strip) aa) fun x=>x.1∧aa d=none∧C (.new x.2.1 [(d,x.2.2)])|.store _=>an xs∧ai (eS k (xs.map strip) aa) fun x=>x.1∧C (.wE x.2.1 x.2.2)|.app _ _ _=>an xs∧if pg (xs.map strip) then ai (eS k (xs.map strip) aa) fun x=>x.1∧C (.app x.2.1 x.2.2) else ai d fun d=>ai (cD k d (xs.map strip) aa) fun x=>x.1∧aa d=none∧C (.new x.2.1 [(d,x.2.2)])|.call f=>cH P Γ d f xs aa C|_=>an xs∧ai (al k (xs.map strip) aa) fun x=>x.1∧C (.put x.2)
def yU (Γ:bR) (c:Bool) (f:FuncId) (xs:List AV) (aa:Nat→Option AO) (C:bE→Prop):Prop:=ai (fC aa (xs.map strip)) fun ys=>ai (gt Γ f ys) fun x=>(c=true→an xs∧x.1)∧flat x.2∧Bs x.2=[]∧dA x.2=true∧C (.put (.ck c x.2))
def Az:AV→AV|.fr _ rows=>.pv (.ro rows)|v=>v
def Lx:AV→AV|.agg cs=>.agg (cs.map Az)|v=>Az v
def I2:AV→AV|.aS vs=>.aS (vs.map Lx)|v=>Lx v
def GN:Option (List (List PV))→AV|some rows=>.ck false (.pv (.ro rows))|none=>.ak
def Ac (xs:List AV):AV:=GN (rowsOf (xs.map strip))
def cw (P:Program) (Γ:bR) (c:Bool) (d:Option Nat) (k:AK) (xs:List AV) (aa:Nat→Option AO) (C:bE→Prop):Prop:=match k with|.nX=>ai xs.head? fun x=>xs.length=1∧C (.put (.ck c x))|.pick=>ai (tE xs) fun x=>(c=true→x.1)∧C (.put (.ck c x.2))|.rT _ _=>(c=true→aZ P Γ d k xs aa C)∧(c=false→C (.put (Ac xs)))|.ij _|.box|.alloc _|.store _|.app _ _ _=>(c=true→aZ P Γ d k xs aa C)∧(c=false→C (.put .ak))|.call f=>ai (fC aa (xs.map strip)) fun ys=>ai (gt Γ f ys) fun x=>if(!oq x.2&&(Bs x.2).isEmpty)=true then(c=true→an xs∧x.1)∧flat x.2∧Bs x.2=[]∧dA x.2=true∧C (.put (.ck c x.2)) else(c=true→aZ P Γ d k xs aa C)∧(c=false→C (.put (.ck false (I2 x.2))))|_=>ai (al k (xs.map strip) aa) fun x=>(c=true→an xs∧x.1)∧C (.put (.ck c x.2))
def tQ:Bool→Option Bool→Option Bool|false,_=>some false|true,o=>o
def bJ:AV→Bool→Option Bool|.pv (.bool b),want=>some (if want then b else !b)|.ck c v,want=>tQ c (bJ v want)|_,_=>none
def jV (un:List Nat) (t:Nat):Prop:=un.contains (t%1000)=false
def vw (un:List Nat):AV→Prop|.own t|.ptr t _|.aY t _ _ _|.sub t _ _ _=>jV un t|_=>True
def ir (un:List Nat):List AV→Prop|[]=>True|c::cs=>vw un c∧ir un cs
def nQ (un:List Nat) (aa:Nat→Option AO):AV→Prop|.ptr t _=>jV un t∧ir un ((eV (aa t)).getD [])|.agg cs=>ir un cs|v=>vw un v
def ll (un:List Nat) (aa:Nat→Option AO):List AV→Prop|[]=>True|c::cs=>nQ un aa c∧ll un aa cs
def rB (un:List Nat) (aa:Nat→Option AO):AV→Prop|.bZ _ cs=>ll un aa cs|v=>nQ un aa v
def j8 (un:List Nat) (aa:Nat→Option AO):List AV→Prop|[]=>True|c::cs=>rB un aa c∧j8 un aa cs
def sO:Option Nat→bE→Prop|none,_=>True|some s,.wE t _=>t=s|some _,_=>False
def lj (un:List Nat):bE→Prop|.app t _=>un.contains (t%1000+1000)=false|_=>True
def By (un:List Nat) (tg:Option Nat) (e:bE):Prop:=sO tg e∧lj un e
def dR (P:Program) (Γ:bR) (i:AI) (vars:Nat→AV) (aa:Nat→Option AO) (C:bE→Prop):Prop:=match i.g with|none=>aZ P Γ i.d i.k (i.xs.map (ev vars)) aa C|some (s,want)=>ai (bJ (vars s) want) fun c=>cw P Γ c i.d i.k (i.xs.map (ev vars)) aa C
def cZ (P:Program) (Γ:bR) (i:AI) (K:St→Prop) (st:St):Prop:=(i.un=[]∨j8 i.un st.aa ((i.xs.map (ev st.vars)).map strip))∧dR P Γ i st.vars st.aa fun e=>By i.un i.tg e∧K (e.on i.d st)
def ib (P:Program) (f:FuncId):Bool:=match P.funcs[f]? with|some fn=>fn.name != "runtime.NumGoroutine" &&fn.body.isSome|none=>false
def lH:List AV→Option (FuncId×List AV)|.bZ f caps::args=>some (f,args++caps)|.pv (.val v)::args=>(Mq v).map fun f=>(f,args)|_=>none where Mq:Value→Option FuncId|.func (.func f) ⟨[]⟩ ⟨[]⟩=>some f|_=>none
def fo:List AV→Bool|[]=>false|.ak::_=>true|.pv (.val _)::_=>true|.rp []::_=>true|_::l=>fo l
def IC:Option Bool→Bool|some false=>true|_=>false
def il:Bool→Bool→Prop→Prop→Prop|false,_,A,_=>A|true,f,A,B=>if f=true then B else A
def sh (t:Nat) (e0:TypeId) (rows:List (List PV)):AV→AV|.own s=>if s=t then .pv (.ro rows) else .own s|.sub s e lo hi=>if s=t then(if e=e0 then .pv (.ro ((rows.take hi).drop lo)) else .ak) else .sub s e lo hi|v=>kill t v
def Ik (t:Nat) (e0:TypeId) (rows:List (List PV)) (f:Nat→AV):Nat→AV:=fun s=>sh t e0 rows (f s)
def gb (t:Nat) (f:Nat→Option AO):Nat→Option AO:=fun s=>if s=t then none else(f s).map (dX t)
def SZ (t:Nat) (e0:TypeId) (rows:List (List PV)):AV→AV|.own s=>if s=t then .pv (.ro rows) else .own s|.sub s e lo hi=>if s=t then(if e=e0 then .pv (.ro ((rows.take hi).drop lo)) else .ak) else .sub s e lo hi|c=>b8 t c
def rR (t:Nat) (e0:TypeId) (rows:List (List PV)):List AV→List AV|[]=>[]|c::cs=>SZ t e0 rows c::rR t e0 rows cs
def D3 (t:Nat) (e0:TypeId) (rows:List (List PV)):AV→AV|.agg cs=>.agg (rR t e0 rows cs)|v=>sh t e0 rows v
def ID (t:Nat) (e0:TypeId) (rows:List (List PV)):AO→AO|.box cs=>.box (rR t e0 rows cs)|o=>dX t o
def shW (t:Nat) (e0:TypeId) (rows:List (List PV)) (f:Nat→AV):Nat→AV:=fun s=>D3 t e0 rows (f s)
def CU (t:Nat) (e0:TypeId) (rows:List (List PV)) (f:Nat→Option AO):Nat→Option AO:=fun s=>if s=t then none else(f s).map (ID t e0 rows)
def jg (st:St):AV→St
 |.own t=>match df (st.aa t) with|some r=>⟨shW t r.1 r.2 st.vars,CU t r.1 r.2 st.aa⟩|none=>st
 |_=>st
def gy:St→List AV→St|st,[]=>st|st,c::cs=>gy (jg st c) cs
def share1 (st:St):AV→St|.agg cs=>gy st cs|v=>jg st v
def cJ (st:St):List AV→St|[]=>st|v::l=>cJ (share1 st v) l
def Cz:PV→PV|.nil=>.ro []|p=>p
def sb:AV→AV|.pv p=>.pv (Cz p)|c=>c
def ml:List AV→List AV|[]=>[]|c::cs=>sb c::ml cs
def vA:AV→AV|.agg cs=>.agg (ml cs)|v=>sb v
def ui:AO→AO|.box cs=>.box (ml cs)|o=>o
def uS (st:St):St:=⟨fun s=>vA (st.vars s),fun s=>(st.aa s).map ui⟩
def sd:Option AO→Option (List (PV×PV))|some (.iF es)=>some es|_=>none
def Z9 (t:Nat) (es:List (PV×PV)):AV→AV|.own s=>if s=t then .pv (.mv es) else .own s|v=>kill t v
def Ah (t:Nat) (st:St):St:=match sd (st.aa t) with|some es=>⟨fun s=>Z9 t es (st.vars s),gb t st.aa⟩|none=>st
def yz (t:Nat) (st:St):St:=if t=999996 then uS st else if 1000000000000000≤t then Ah (t-1000000000000000) st else share1 st (.own t)
def cE:List Nat→St→St|[],st=>st|t::ts,st=>cE ts (yz t st)
def Ii:AV→Bool|.pv (.ro _)|.pv (.mp _)|.pv (.mv _)|.pv (.pt _)|.rp _=>true|_=>false
def Fs:List AV→Bool|[]=>false|c::cs=>Ii c||Fs cs
def RM:AV→Bool|.agg cs=>Fs cs|v=>Ii v
def Ez:List AV→Bool|[]=>false|c::cs=>RM c||Ez cs
def Wn:AV→Bool|.aS vs=>Ez vs|v=>RM v
def tv (t:Nat) (st:St):St:=match df (st.aa t) with|some _=>⟨cC t st.vars,gb t st.aa⟩|none=>st
def zG (P:Program) (Γ:bR) (d:Option Nat) (f:FuncId) (xs:List Operand) (K:St→Prop) (st:St):Prop:=cH P Γ d f (xs.map (ev st.vars)) st.aa fun e=>K (e.on d st)
def lI (P:Program) (Γ:bR) (i:AI) (f:FuncId) (K:St→Prop) (st:St):Prop:=ai (fC st.aa ((i.xs.map (ev st.vars)).map strip)) fun ys=>ai (gt Γ f ys) fun x=>if(Wn x.2&&!eR ((i.xs.map (ev st.vars)).map strip))=true then zG P Γ i.d f i.xs K (cJ st ((i.xs.map (ev st.vars)).map strip)) else cZ P Γ i K st
def frC:AV→Bool|.pv (.ro _)|.pv (.mp _)|.pv (.mv _)|.pv (.pt _)|.rp _|.fr _ _|.bx _|.mf _=>true|_=>false
def Zo:List AV→Bool|[]=>false|c::cs=>frC c||Zo cs
def fr1:AV→Bool|.agg cs=>Zo cs|v=>frC v
def YU:List AV→Bool|[]=>false|c::cs=>fr1 c||YU cs
def VI:AV→Bool|.aS vs=>YU vs|v=>fr1 v
def ua (t:Nat):AV→Prop|.own s|.ptr s _|.aY s _ _ _|.sub s _ _ _=>s≠t|.pv _|.rp _|.ak=>True|.bZ _ []=>True|_=>False
def HK (t:Nat):List AV→Prop|[]=>True|c::cs=>ua t c∧HK t cs
def vB (t:Nat):AV→Prop|.agg cs|.bZ _ cs=>HK t cs|v=>ua t v
def mA (t p:Nat):List AV→Prop|[]=>True|v::vs=>(match p with|0=>nJ vs|p+1=>vB t v∧mA t p vs) where nJ:List AV→Prop|[]=>True|v::vs=>vB t v∧nJ vs
def hZ (aa:Nat→Option AO) (k:Nat):AV→Option (Nat×TypeId×List (List PV))|.own t=>(df (aa t)).map fun r=>(t,r.1,r.2)|.sub t e 0 hi=>if k=998 then(df (aa t)).bind fun r=>if r.1=e then some (t,e,r.2.take hi) else none else none|_=>none
def yQ (k:Nat) (e:TypeId) (rows:List (List PV)):AV:=if k=998 then .fr e rows else .aS [.fr e rows]
def rh (aa:Nat→Option AO) (m:AV):Nat→List AV→Option (List AV)|_,[]=>some []|0,_::vs=>(fC aa vs).map (m::·)|p+1,v::vs=>(nW aa v).bind fun y=>(rh aa m p vs).map (y::·)
def jG:Nat→List AV→Bool|_,[]=>true|0,_::vs=>eR vs|p+1,v::vs=>dZ v&&jG p vs
def oR:List (Nat×AO)→Prop|[]=>True|(_,.arr _ rows)::l=>cT rows∧oR l|_::l=>oR l
def cQ (t:Nat) (x:AV) (aa:Nat→Option AO):Nat→Option AO:=match en x with|(_,o)::_=>aN t o aa|[]=>gb t aa
def iV (t:Nat) (x:AV) (vars:Nat→AV):Nat→AV:=match en x with|_::_=>vars|[]=>cC t vars
def Dt:AV→Option (Nat×Nat)|.ptr p k=>if k=998∨k=999∨k=997∨k=996 then some (p,k) else none|_=>none
def dP (Γ:bR) (f:FuncId):Option (Nat×Nat):=(Γ (f+1000000) [.ak]).bind fun x=>Dt x.2
def lp (P:Program) (Γ:bR) (d:Option Nat) (f:FuncId) (xs:List AV) (p k:Nat) (K:St→Prop) (st:St):Prop:=ai d fun d=>an xs∧ai ((xs.map strip)[p]?) fun X=>ai (hZ st.aa k X) fun T=>mA T.1 p (xs.map strip)∧ai (rh (gb T.1 st.aa) (yQ k T.2.1 T.2.2) p (xs.map strip)) fun ys=>ai (Γ (f+1000000) ys) fun x=>x.1∧(jG p (xs.map strip)=true∨(flat (b7 x.2)∧oR (en x.2)))∧(∀y∈aP d (b7 x.2),st.aa y.1=none)∧dA (b7 x.2)=true∧K ⟨put (some d) (cR (lA d) (b7 x.2)) (iV T.1 x.2 st.vars),bA (aP d (b7 x.2)) (cQ T.1 x.2 st.aa)⟩
def rG (aa:Nat→Option AO):Nat→List AV→Option (List AV)|_,[]=>some []|0,.pv .nil::vs=>(fC aa vs).map (.pv .nil::·)|0,_::_=>none|p+1,v::vs=>(nW aa v).bind fun y=>(rG aa p vs).map (y::·)
def yR (P:Program) (Γ:bR) (d:Option Nat) (f:FuncId) (xs:List AV) (p:Nat) (K:St→Prop) (st:St):Prop:=ai d fun d=>an xs∧ai (rG st.aa p (xs.map strip)) fun ys=>ai (Γ (f+1000000) ys) fun x=>x.1∧(eR (xs.map strip)=true∨flat x.2)∧(∀y∈aP d x.2,st.aa y.1=none)∧dA x.2=true∧K ⟨put (some d) (cR (lA d) x.2) st.vars,bA (aP d x.2) st.aa⟩
def Nl:AV→Option (List Nat)|.rp l=>some (l.map fun p=>match p with|.int _ n=>n.toNat|_=>0)|_=>none
def jd (Γ:bR) (f:FuncId):Option (List Nat):=(Γ (f+2000000) [.ak]).bind fun x=>Nl x.2
def pf (d:Nat) (T W:List Nat):List Nat:=W.filter (fun t=>t%1000 !=999)++[d,d+1000,d+2000,d+3000,d+4000,d+5000,d+6000,d+7000].filter fun t=>!T.contains t
def xW (Γ:bR) (d f:Nat) (ks:List Nat) (xs:List AV) (T Q W:List Nat) (K:St→Prop) (st:St) (ys:List AV):Prop:=ai (Γ (f+2000000) ys) fun x=>x.1∧(fk T ks xs=true∨∀y∈lC x.2++[kL x.2],jx 5 y)∧ai (pX (num 5 true) (lC x.2) (Q,pf d T W)) fun o=>o.1=eO ks xs∧ai (num 5 false (kL x.2) o.2.2) fun r=>(∀p∈o.2.1++r.2.1,T.contains p.1=true∨st.aa p.1=none)∧K ⟨put (some d) r.1 (iy W st.vars),bA (o.2.1++r.2.1) (eY T W st.aa)⟩
def xN (Γ:bR) (d f:Nat) (ks:List Nat) (xs:List AV) (T Q W:List Nat) (K:St→Prop) (st:St):Prop:=Q.Nodup∧ai (E6 st.aa (eY T T st.aa) T ks xs) fun ys=>xW Γ d f ks xs T Q W K st ys
def xO (Γ:bR) (d f:Nat) (ks:List Nat) (xs:List AV) (T Q:List Nat) (K:St→Prop) (st:St):Prop:=T.Nodup∧(∀t∈Q,t∈T)∧xN Γ d f ks xs T Q (T.filter fun t=>!Q.contains t) K st
def stepG (Γ:bR) (d:Option Nat) (f:FuncId) (xs:List AV) (ks:Option (List Nat)) (K:St→Prop) (st:St):Prop:=ai d fun d=>an xs∧ai ks fun ks=>xO Γ d f ks (xs.map strip) (fu st.aa ks (xs.map strip)) ((eO ks (xs.map strip)).flatMap sD) K st
def lW (P:Program) (Γ:bR) (i:AI) (f:FuncId) (s:Nat) (w:Bool) (o:Option (Nat×Nat)) (K:St→Prop) (st:St):Prop:=match o with|some (_,k)=>if k=996 then ai (bJ (st.vars s) w) fun c=>if c=true then stepG Γ i.d f (i.xs.map (ev st.vars)) (jd Γ f) K st else K ((bE.put (.ck false .ak)).on i.d st) else False|none=>il (fo ((i.xs.map (ev st.vars)).map strip)) (IC (bJ (st.vars s) w)) (ai (bJ (st.vars s) w) fun c=>ai (fC st.aa ((i.xs.map (ev st.vars)).map strip)) fun ys=>ai (gt Γ f ys) fun x=>if VI x.2=true then(if c=true then lI P Γ ⟨i.d,i.k,i.xs,none,[],none⟩ f K st else K ((bE.put (.ck false .ak)).on i.d st)) else cZ P Γ i K st) (K ((bE.put (.ck false .ak)).on i.d st))
def DM (P:Program) (Γ:bR) (i:AI) (f:FuncId) (s:Nat) (w:Bool) (K:St→Prop) (st:St):Prop:=lW P Γ i f s w (dP Γ f) K st
def eT (P:Program) (Γ:bR) (d:Option Nat) (f:FuncId) (ys:List AV) (o:Option (Nat×Nat)) (K:St→Prop) (st:St):Prop:=match o with|some (_,k)=>if k=996 then stepG Γ d f ys (jd Γ f) K st else False|none=>cH P Γ d f ys st.aa fun e=>K (e.on d st)
def iz (P:Program) (Γ:bR) (d:Option Nat) (f:FuncId) (ys:List AV) (A:Prop) (c:Bool) (o:Option (Nat×Nat)) (K:St→Prop) (st:St):Prop:=match o with|some (_,k)=>if k=996 then(if c=true then A∧stepG Γ d f ys (jd Γ f) K st else K ((bE.put (.ck false .ak)).on d st)) else False|none=>yU Γ c f ys st.aa fun e=>(c=true→A)∧K (e.on d st)
def pJ (P:Program) (Γ:bR) (d:Option Nat) (xs:List AV) (s:Nat) (w:Bool) (K:St→Prop) (st:St):Prop:=ai (bJ (st.vars s) w) fun c=>ai (lH (xs.map strip)) fun x=>ib P x.1=true∧iz P Γ d x.1 x.2 (an xs) c (dP Γ x.1) K st
def fW (P:Program) (Γ:bR) (d:Option Nat) (xs:List AV) (g:Option (Nat×Bool)) (K:St→Prop) (st:St):Prop:=match g with|none=>(an xs∧ai (lH (xs.map strip)) fun x=>ib P x.1=true∧eT P Γ d x.1 x.2 (dP Γ x.1) K st)|some (s,w)=>il (fo (xs.map strip)) (IC (bJ (st.vars s) w)) (pJ P Γ d xs s w K st) (K ((bE.put (.ck false .ak)).on d st))
def ln:List AV→Bool|[]=>true|.pv _::l=>ln l|_=>false
def ldT (aa:Nat→Option AO):AV→Option Nat|.ptr t _=>(eV (aa t)).bind fun cs=>if ln cs=true then some t else none|_=>none
def nj (T:List Nat) (st:St):List Nat→Prop|[]=>True|s::l=>ai (ldT st.aa (st.vars s)) (fun t=>T.contains t=false)∧nj T st l
def Dw (ks:Option (List Nat)) (aa:Nat→Option AO) (xs:List AV):List Nat:=match ks with|some ks=>fu aa ks xs|none=>[]
def iq (P:Program) (Γ:bR) (i:AI) (f:FuncId) (o:Option (Nat×Nat)) (K:St→Prop) (st:St):Prop:=match o with|some (p,k)=>if k=998 then i.un=[]∧lp P Γ i.d f (i.xs.map (ev st.vars)) p k K st else if k=996 then nj (Dw (jd Γ f) st.aa ((i.xs.map (ev st.vars)).map strip)) st i.un∧stepG Γ i.d f (i.xs.map (ev st.vars)) (jd Γ f) K st else False|none=>cZ P Γ ⟨i.d,i.k,i.xs,i.g,[],none⟩ K st
def cK (P:Program) (Γ:bR) (i:AI) (K:St→Prop) (st:St):Prop:=match i.k,i.tg,i.g with|.call f,some 999999,none=>iq P Γ i f (dP Γ f) K st|.ly,some 999999,none=>fW P Γ i.d (i.xs.map (ev st.vars)) none K st|_,_,_=>cZ P Γ i K st
def steps (P:Program) (Γ:bR) (is:List AI) (K:St→Prop) (st:St):Prop:=match is with|[]=>K st|i::is=>cK P Γ i (fun st'=>steps P Γ is K st') st
def gZ (P:Program) (Γ:bR) (i:AI) (f:FuncId) (o:Option (Nat×Nat)) (K:St→Prop) (st:St):Prop:=match o with|some (p,k)=>if k=997 then yR P Γ i.d f (i.xs.map (ev st.vars)) p K st else if k=996 then stepG Γ i.d f (i.xs.map (ev st.vars)) (jd Γ f) K st else lp P Γ i.d f (i.xs.map (ev st.vars)) p k K st|none=>lI P Γ i f K st
def EV (aa:Nat→Option AO) (e:TypeId) (zs:List Value):AV→Option (Nat×AO)|.own t=>(df (aa t)).bind fun r=>if r.1=e then some (t,.arr e (List.replicate r.2.length (zs.map u7))) else none|.sub t e1 lo hi=>(df (aa t)).bind fun r=>if r.1=e∧e1=e then some (t,.arr e (r.2.take lo++List.replicate (hi-lo) (zs.map u7)++r.2.drop hi)) else none|_=>none
def oH (d:Option Nat) (e:TypeId) (sz:Nat) (zs:List Value) (xs:List AV) (K:St→Prop) (st:St):Prop:=an xs∧ai ((xs.map strip).head?) fun X=>ai (EV st.aa e zs X) fun r=>K ((bE.wE r.1 r.2).on d st)
def cr (P:Program) (Γ:bR) (i:AI) (K:St→Prop) (st:St):Prop:=match i.g with|none=>cZ P Γ i K st|some (s,w)=>il (fo ((i.xs.map (ev st.vars)).map strip)) (IC (bJ (st.vars s) w)) (cZ P Γ i K st) (K ((bE.put (.ck false .ak)).on i.d st))
def xJ:Option AO→Option (List (PV×AV))|some (.map es)=>some es|_=>none
def vI (d:Option Nat) (xs ys:List AV) (K:St→Prop) (st:St):Prop:=match ys with|[.pv (.int .u64 a),.pv (.int .u64 b),.pv (.int .u64 c)]=>an xs∧(0≤a∧0≤b∧0≤c∧c≤1)∧K ⟨put d (.aS [.pv (.int .u64 ((a+b+c)%18446744073709551616)),.pv (.int .u64 ((a+b+c)/18446744073709551616))]) st.vars,st.aa⟩|_=>False
def mh (d:Option Nat) (e:TypeId) (bytes:Nat) (zs:List Value) (xs ys:List AV) (K:St→Prop) (st:St):Prop:=match ys with|[.pv .nil,.pv (.int .i64 n)]=>ai d fun d=>an xs∧(0≤n∧n≤140737488355328∧n.toNat*bytes≤140737488355328)∧st.aa d=none∧K ⟨put (some d) (.own d) st.vars,bA [(d,.arr e (List.replicate n.toNat (zs.map u7)))] st.aa⟩|_=>False
def Bd (d:Option Nat) (e:TypeId) (bytes:Nat) (zs:List Value) (xs ys:List AV) (K:St→Prop) (st:St):Prop:=match ys with|[.pv (.int _ n),.pv (.int _ c)]=>ai d fun d=>an xs∧(c=n∧0≤n∧n≤140737488355328∧n.toNat*bytes≤140737488355328)∧st.aa d=none∧K ⟨put (some d) (.own d) st.vars,bA [(d,.arr e (List.replicate n.toNat (zs.map u7)))] st.aa⟩|_=>False
def xT (d:Option Nat) (e:TypeId) (xs ys:List AV) (K:St→Prop) (st:St):Prop:=ai d fun d=>an xs∧fA ys=true∧st.aa d=none∧K ⟨put (some d) (.own d) st.vars,bA [(d,.rws e ys)] st.aa⟩
def qu (d:Option Nat) (e:TypeId) (sz:Nat) (xs ys:List AV) (K:St→Prop) (st:St):Prop:=ai d fun d=>an xs∧ai (rowsOf ys) fun rows=>(∀r∈rows,r.length=sz)∧st.aa d=none∧K ⟨put (some d) (.own d) st.vars,bA [(d,.arr e rows)] st.aa⟩
def uC:List AV→Option (Nat×Nat)|[]=>none|c::l=>match c with|.own q=>some (0,q)|_=>(uC l).map fun r=>(r.1+1,r.2)
def vJ (d:Option Nat) (X Y:AV) (xs:List AV) (K:St→Prop) (st:St):Prop:=match X,Y with|.aY t e i o,.own q=>an xs∧ai (df (st.aa t)) fun r=>(r.1=e∧o=0)∧(0≤i∧i<r.2.length∧(rowAt r.2 i).length=1)∧K ⟨put d .ak st.vars,aN t (.rws e ((r.2.map fun x=>AV.pv (x.getD 0 .nil)).set i.toNat (.own q))) st.aa⟩|_,_=>False
def s8 (d:Option Nat) (X:AV) (xs:List AV) (K:St→Prop) (st:St):Prop:=match X with|.own t=>an xs∧ai (X6 (st.aa t)) fun r=>ai (uC r.2) fun j=>ai (df (st.aa j.2)) fun s=>ai (eU (r.2.set j.1 (.pv (.ro s.2)))) fun ps=>K ⟨put d (.own t) (Ik j.2 s.1 s.2 st.vars),aN t (.arr r.1 (ps.map fun p=>[p])) (gb j.2 st.aa)⟩|_=>False
def Fx:Option AO→Option (List (PV×PV)×Option (PV×PV))|some (.nC rem cur)=>some (rem,cur)|_=>none
def lP (k v:PV):List (PV×PV)→List (PV×PV)|[]=>[(k,v)]|e::l=>if m8 k e.1=true then(k,v)::l else e::lP k v l
def qA (k:PV):List (PV×PV)→List (PV×PV)|[]=>[]|e::l=>if m8 k e.1=true then l else e::qA k l
def uo:AV→Option Bool
 |.ptr _ _|.aY _ _ _ _|.rp _|.pv (.pt _)=>some false|.pv (.val v)=>match v with|.pointer none=>some true|_=>none
 |_=>none
def qH (d:Option Nat) (s:Nat) (X Y Z:AV) (xs:List AV) (K:St→Prop) (st:St):Prop:=match X,Y,Z with|.own t,.pv k,.pv v=>an xs∧ai (sd (st.aa t)) fun es=>dw k=s∧fX s es∧K ⟨put d .ak st.vars,aN t (.iF (lP k v es)) st.aa⟩|_,_,_=>False
def GQ (aa:Nat→Option AO):AV→Option (List (PV×PV))|.own t=>sd (aa t)|.pv (.mv es)=>some es|_=>none
def vW (d:Option Nat) (s:Nat) (z:Value) (ok:Bool) (X Y:AV) (xs:List AV) (K:St→Prop) (st:St):Prop:=match Y with|.pv k=>an xs∧ai (GQ st.aa X) fun es=>z.oneCell'=true∧dw k=s∧fX s es∧K ⟨put d (Cl z ok (m6 k es)) st.vars,st.aa⟩|_=>False
def wH (d:Option Nat) (s:Nat) (X Y:AV) (xs:List AV) (K:St→Prop) (st:St):Prop:=match X,Y with|.own t,.pv k=>an xs∧ai (sd (st.aa t)) fun es=>dw k=s∧fX s es∧K ⟨put d .ak st.vars,aN t (.iF (qA k es)) st.aa⟩|_,_=>False
def xj (d:Option Nat) (X:AV) (xs:List AV) (K:St→Prop) (st:St):Prop:=match X with|.pv (.mv es)=>ai d fun d=>an xs∧st.aa d=none∧K ⟨put (some d) (.ptr d 0) st.vars,bA [(d,.nC es none)] st.aa⟩|_=>False
def vR (d:Option Nat) (X:AV) (xs:List AV) (K:St→Prop) (st:St):Prop:=match X with|.ptr t 0=>an xs∧ai (Fx (st.aa t)) fun r=>(r.1=[]→K ⟨put d (.aS [.pv (.bool false)]) st.vars,st.aa⟩)∧∀(e:PV×PV) (l m:List (PV×PV)),r.1=l++e::m→K ⟨put d (.aS [.pv (.bool true),.pv e.1,.pv e.2]) st.vars,aN t (.nC (l++m) (some e)) st.aa⟩|_=>False
def wA (d:Option Nat) (X:AV) (xs:List AV) (K:St→Prop) (st:St):Prop:=match X with|.ptr t 0=>an xs∧ai (Fx (st.aa t)) fun r=>ai r.2 fun e=>K ⟨put d (.aS [.pv e.1,.pv e.2]) st.vars,st.aa⟩|_=>False
def uT (d:Option Nat) (x:XK) (xs ys:List AV) (K:St→Prop) (st:St):Prop:=match x,ys with|.Yu,[X,Y]=>vJ d X Y xs K st|.Ew,[X]=>s8 d X xs K st|.XX,[]=>ai d fun d=>st.aa d=none∧K ⟨put (some d) (.own d) st.vars,bA [(d,.iF [])] st.aa⟩|.Sv s,[X,Y,Z]=>qH d s X Y (rQ Z) xs K st|.Gi s z ok,[X,Y]=>vW d s z ok X Y xs K st|.dlv s,[X,Y]=>wH d s X Y xs K st|.Fh ne,[X]=>an xs∧ai (uo X) fun b=>K ⟨put d (.pv (.bool (b !=ne))) st.vars,st.aa⟩|.WS,[X]=>xj d X xs K st|.nxt,[X]=>vR d X xs K st|.ent,[X]=>wA d X xs K st|.mW e sz,ys=>qu d e sz xs ys K st|_,_=>False
def aX (d:Option Nat) (x:XK) (xs:List AV) (K:St→Prop) (st:St):Prop:=match x,xs.map strip with|.UH,[]=>ai d fun d=>st.aa d=none∧K ⟨put (some d) (.own d) st.vars,bA [(d,.map [])] st.aa⟩|.FL s,[.own t,.pv k,v]=>an xs∧ai (xJ (st.aa t)) fun es=>dw k=s∧gY s es∧dZ v=true∧K ⟨put d .ak st.vars,aN t (.map (kO k v es)) st.aa⟩|.HV s z ok,[.own t,.pv k]=>an xs∧ai (xJ (st.aa t)) fun es=>dw k=s∧gY s es∧K ⟨put d (if ok=true then .aS [(getM k es).getD (G8 z),.pv (.bool (getM k es).isSome)] else(getM k es).getD (G8 z)) st.vars,st.aa⟩|.zk,ys=>vI d xs ys K st|.vF ne,[X]=>an xs∧ai (fy st.aa X) fun rows=>∀b:Bool,(rows≠[]→b=false)→K ⟨put d (.pv (.bool (if ne=true then !b else b))) st.vars,st.aa⟩|.Hc,[.pv .nil]=>an xs∧K ⟨put d (.pv (.int .i64 0)) st.vars,st.aa⟩|.EO e sz bytes zs,ys=>mh d e bytes zs xs ys K st|.Ex e,ys=>xT d e xs ys K st|.Qk e bytes zs,ys=>Bd d e bytes zs xs ys K st|.HV s z ok,[.pv (.mp ks),.pv k]=>an xs∧zR z=true∧dw k=s∧(∀x∈ks,dw x=s)∧K ⟨put d (if ok=true then .aS [.agg [],.pv (.bool (ks.any (m8 k)))] else .agg []) st.vars,st.aa⟩|.mark,[.own t]=>an xs∧ai (df (st.aa t)) fun r=>r.2≠[]∧K ⟨put d (.pv (.ro r.2)) (Ik t r.1 r.2 st.vars),gb t st.aa⟩|x,ys=>uT d x xs ys K st
def za (d:Option Nat) (s t:Nat) (k v:AV) (xs:List AV) (K:St→Prop) (st:St):Prop:=match k with|.pv k=>an xs∧ai (xJ (st.aa t)) fun es=>dw k=s∧gY s es∧dZ v=true∧K ⟨put d .ak st.vars,aN t (.map (kO k v es)) st.aa⟩|_=>False
def ze (d:Option Nat) (s t:Nat) (z:Value) (ok:Bool) (k:AV) (xs:List AV) (K:St→Prop) (st:St):Prop:=match k with|.pv k=>an xs∧ai (xJ (st.aa t)) fun es=>dw k=s∧gY s es∧K ⟨put d (if ok=true then .aS [(getM k es).getD (G8 z),.pv (.bool (getM k es).isSome)] else(getM k es).getD (G8 z)) st.vars,st.aa⟩|_=>False
def B5 (d:Option Nat) (x:AV) (xs:List AV) (K:St→Prop) (st:St):Prop:=match x with|.own t=>an xs∧ai (df (st.aa t)) fun r=>r.2≠[]∧K ⟨put d (.pv (.ro r.2)) (Ik t r.1 r.2 st.vars),gb t st.aa⟩|_=>False
def Oh (d:Option Nat) (s:Nat) (ks:List PV) (z:Value) (ok:Bool) (k:AV) (xs:List AV) (K:St→Prop) (st:St):Prop:=match k with|.pv k=>an xs∧zR z=true∧dw k=s∧(∀x∈ks,dw x=s)∧K ⟨put d (if ok=true then .aS [.agg [],.pv (.bool (ks.any (m8 k)))] else .agg []) st.vars,st.aa⟩|_=>False
def ma (d:Option Nat) (x:AV) (xs:List AV) (K:St→Prop) (st:St):Prop:=match x with|.pv .nil=>an xs∧K ⟨put d (.pv (.int .i64 0)) st.vars,st.aa⟩|_=>False
def GP (d:Option Nat) (ne:Bool) (rows:List (List PV)) (K:St→Prop) (st:St):Prop:=∀b:Bool,(rows≠[]→b=false)→K ⟨put d (.pv (.bool (if ne=true then !b else b))) st.vars,st.aa⟩
def Ce (i:AI) (x:XK) (s:Nat) (w:Bool) (K:St→Prop) (st:St):Prop:=ai (bJ (st.vars s) w) fun c=>if c=true then aX i.d x (i.xs.map (ev st.vars)) K st else K ((bE.put (.ck false .ak)).on i.d st)
def shA (t:Nat) (rows:List (List PV)):AV→AV|.own s=>if s=t then .pv (.ro rows) else .own s|v=>kill t v
def Cj (t:Nat) (rows:List (List PV)) (f:Nat→AV):Nat→AV:=fun s=>shA t rows (f s)
def HZ (aa:Nat→Option AO) (e:TypeId):List AV→Option (Nat×List (List PV)×List (List PV))|[.own t,x]=>(df (aa t)).bind fun r=>(cU aa x).bind fun more=>if r.1=e then some (t,r.2,more) else none|_=>none
def yr (d:Option Nat) (e:TypeId) (sz bytes:Nat) (xs:List AV) (K:St→Prop) (st:St):Prop:=an xs∧ai (HZ st.aa e (xs.map strip)) fun r=>((r.2.1.length+r.2.2.length)*bytes≤140737488355328∧r.2.1.length+r.2.2.length≤maxLen∧(∀q∈r.2.2,q.length=sz))∧r.1%1000≠999∧K ⟨put d (.pv (.ro (r.2.1++r.2.2))) (Cj r.1 r.2.1 st.vars),gb r.1 st.aa⟩
def U2 (i:AI):Option (TypeId×Nat×Nat):=match i.k,i.tg,i.g with|.app e sz b,some 999998,none=>some (e,sz,b)|_,_,_=>none
def Iy (x:XK) (i:AI) (st:St):St:=match x with|.Sv _=>cJ st ((i.xs.map (ev st.vars)).map strip)|_=>st
def jI (P:Program) (Γ:bR) (i:AI) (K:St→Prop) (st:St):Prop:=match i.k,i.g with|.ex x,none=>aX i.d x (i.xs.map (ev (Iy x i st).vars)) K (Iy x i st)|.ex x,some (s,w)=>Ce i x s w K st|.rT _ _,_=>cr P Γ i K (cJ st ((i.xs.map (ev st.vars)).map strip))|.HR e sz zs,none=>oH i.d e sz zs (i.xs.map (ev st.vars)) K st|.call f,some (s,w)=>DM P Γ i f s w K st|.ly,g=>fW P Γ i.d (i.xs.map (ev st.vars)) g K st|.call f,none=>gZ P Γ i f (dP Γ f) K st|.ij _,_=>cZ P Γ i K (tv (i.d.getD 0) st)|_,_=>cr P Γ i K st
def b9 (P:Program) (Γ:bR) (i:AI) (K:St→Prop) (st:St):Prop:=match U2 i with|some r=>if pg ((i.xs.map (ev st.vars)).map strip)=true then yr i.d r.1 r.2.1 r.2.2 (i.xs.map (ev st.vars)) K st else jI P Γ i K st|none=>jI P Γ i K st
def cW (P:Program) (Γ:bR) (is:List AI) (K:St→Prop) (st:St):Prop:=match is with|[]=>K st|i::is=>b9 P Γ i (fun st'=>cW P Γ is K st') st
def jB (c7:List Nat) (f:Nat→AV):Nat→AV:=fun s=>if c7.contains s then f s else .ak
structure Fr where
 vs:List (Nat×AV)
 os:List (Nat×AO)
def Fr.st (f:Fr):St:=⟨look f.vs,ab f.os⟩
def jS (os:List (Nat×AO)):AV→Prop|.own t|.ptr t _|.aY t _ _ _|.sub t _ _ _=>aG (ab os) t|.pv _|.rp _|.ak=>True|_=>False
def gx (os:List (Nat×AO)):List AV→Prop|[]=>True|c::cs=>jS os c∧gx os cs
def mm (os:List (Nat×AO)):AV→Prop|.agg cs|.bZ _ cs|.aS cs=>gx os cs|.ck _ v=>jS os v|v=>jS os v
def wJ (os:List (Nat×AO)):AO→Prop|.box cs=>gx os cs|.arr _ _=>True|.map _=>True|.iF _=>True|.nC _ _=>True|.rws _ cs=>gx os cs
def OI (ad:List Nat) (st:St) (os:List (Nat×AO)):List (Nat×AV)→Prop|[]=>True|(s,v)::l=>(v=.ak∨(st.vars s=v∧mm os v)∨(∃t,v=.own t∧ad.contains t=true∧aG (ab os) t∧st.vars s=.pv .nil))∧OI ad st os l
def Pp (P:Program) (ad:List Nat) (st:St) (os:List (Nat×AO)):List (Nat×AO)→Prop|[]=>True|(t,o)::l=>((st.aa t=some o∧ad.contains t=false∧wJ os o)∨(∃e,o=.arr e []∧ad.contains t=true∧st.aa t=none∧(P.info? e).isSome=true∧t%1000≠999))∧Pp P ad st os l
def wk (P:Program) (ad:List Nat) (st:St) (f:Fr):Prop:=OI ad st f.os f.vs∧Pp P ad st f.os f.os
def cM (st:St):List (Nat×Option (Option Nat))→(List AV→Prop)→Prop|[],C=>C []|(t,none)::l,C=>cM st l fun vs=>C (st.vars t::vs)|(a,some n)::l,C=>ai (al (.load n) [st.vars a] st.aa) fun x=>x.1∧cM st l fun vs=>C (x.2::vs)
def bU:List AV→AV|[v]=>v|vs=>.aS vs
def vn (P:Program) (aa:Nat→Option AO) (v r:AV):Prop:=match r with|.fr e rows=>(∃t,v=.own t∧aa t=some (.arr e rows))∨(v=.pv .nil∧rows=[]∧(P.info? e).isSome=true)∨(∃t hi rs,v=.sub t e 0 hi∧aa t=some (.arr e rs)∧rows=rs.take hi)|r=>v=r∧lz r=true
def xA (P:Program) (aa:Nat→Option AO):List AV→List AV→Prop|[],[]=>True|c::cs,r::rs=>vn P aa c r∧xA P aa cs rs|_,_=>False
def Dm (P:Program) (aa:Nat→Option AO) (v r:AV):Prop:=match v,r with|.agg cs,.agg rs=>xA P aa cs rs|.agg _,_=>False|v,r=>vn P aa v r
def zE (P:Program) (aa:Nat→Option AO):List AV→List AV→Prop|[],[]=>True|c::cs,r::rs=>Dm P aa c r∧zE P aa cs rs|_,_=>False
def fz (P:Program) (aa:Nat→Option AO) (v r:AV):Prop:=match v,r with|.aS vs,.aS rs=>vs.length≤1000∧zE P aa vs rs|.aS _,_=>False|v,r=>Dm P aa v r
def qv (j:Nat):List AV→List (Nat×Nat)|[]=>[]|.own t::cs=>(1000*j,t)::qv (j+1) cs|.sub t _ _ _::cs=>(1000*j,t)::qv (j+1) cs|_::cs=>qv (j+1) cs
def PN:AV→List (Nat×Nat)|.agg cs=>qv 0 cs|.own t=>[(0,t)]|.sub t _ _ _=>[(0,t)]|_=>[]
def BN (i:Nat):List AV→List (Nat×Nat)|[]=>[]|v::vs=>(PN v).map (fun x=>(x.1+i,x.2))++BN (i+1) vs
def pl:AV→List (Nat×Nat)|.aS vs=>BN 0 vs|v=>PN v
def kI:List (Nat×Nat)→Prop|[]=>True|x::l=>(∀y∈l,y.2≠x.2)∧kI l
def oh:AV→AV→List Nat|.own t,.pv (.ro _)=>[t]|.pv .nil,.pv (.ro _)=>[999996]|.own t,.pv (.mv _)=>[t+1000000000000000]|_,_=>[]
def tr:List AV→List AV→List Nat|c::cs,r::rs=>oh c r++tr cs rs|_,_=>[]
def Cu:AV→AV→List Nat|.agg cs,.agg rs=>tr cs rs|v,r=>oh v r
def wY:List AV→List AV→List Nat|c::cs,r::rs=>Cu c r++wY cs rs|_,_=>[]
def mV:AV→AV→List Nat|.aS vs,.aS rs=>wY vs rs|v,r=>Cu v r
def xq (P:Program) (rs:List (Nat×Option (Option Nat))) (r:AV) (st:St):Prop:=cM st rs fun vs=>fz P st.aa (bU vs) r∧kI (pl (bU vs))
def Ends (P:Program) (rs:List (Nat×Option (Option Nat))) (r:AV) (st:St):Prop:=cM st rs fun vs=>xq P rs r (cE (mV (bU vs) r) st)
def pH (aa:Nat→Option AO) (l:List (Nat×Nat)):List (Nat×AO)→Prop|[]=>True|x::hout=>aa x.1=some x.2∧(∀y∈l,y.2≠x.1)∧pH aa l hout
def nq (P:Program) (rs:List (Nat×Option (Option Nat))) (r:AV) (hout:List (Nat×AO)) (st:St):Prop:=cM st rs fun vs=>fz P st.aa (bU vs) r∧kI (pl (bU vs))∧pH st.aa (pl (bU vs)) hout
def nc (P:Program) (rs:List (Nat×Option (Option Nat))) (r:AV) (hout:List (Nat×AO)) (st:St):Prop:=cM st rs fun vs=>nq P rs r hout (cE (mV (bU vs) r) st)
def Bq (K:St→Prop):Exit→St→Prop|.ret,st=>K st|_,_=>False
def qY (id:Nat) (K:St→Prop) (J:Exit→St→Prop):Exit→St→Prop|.exit id',st=>if id'=id then K st else J (.exit id') st|e,st=>J e st
def iC (P:Program) (Γ:bR):AC→(St→Prop)→(Exit→St→Prop)→St→Prop|.skip,K,_,st=>K st|.Ib is d c7,K,_,st=>if d then steps P Γ is (fun st'=>K ⟨jB c7 st'.vars,st'.aa⟩) st else cW P Γ is (fun st'=>K ⟨jB c7 st'.vars,st'.aa⟩) st|.seq a b,K,J,st=>iC P Γ a (fun st'=>iC P Γ b K J st') J st|.cond x a b,K,J,st=>ai (ja (ev st.vars x)) fun c=>(c=true→iC P Γ a K J st)∧(c=false→iC P Γ b K J st)|.block id a,K,J,st=>iC P Γ a K (qY id K J) st|.loop a,_,J,st=>∃(ι:Type) (F:ι→Fr) (μ:ι→Nat) (ad shs:List Nat) (i0:ι),wk P ad (cE shs st) (F i0)∧∀i,iC P Γ a (fun st'=>∃i',wk P [] (cE shs st') (F i')∧μ i'<μ i) J (F i).st|.exit id,_,J,st=>J (.exit id) st|.ret,_,J,st=>J .ret st
def mZ (P:Program) (t:TypeId):Option (Option Nat):=match P.underlying t with|some (.struct _)|some (.array _ _)=>(P.info? t).map fun i=>some i.size|some _=>some none|none=>none
def cy (P:Program) (t:TypeId):Option Nat:=(P.info? t).map (·.size)
def dN (P:Program) (t:TypeId):Option (List Value):=(P.info? t).bind fun i=>i.zero.bind fun z=>if z.cells.size=i.size then some z.cells.toList else none
def fe:Operand→Bool|.const (.slice none 0 0)=>true|_=>false
def qk (P:Program) (fs:Array Field):List (Nat×Operand)→Option (List (Nat×Nat))|[]=>some []|(i,_)::l=>match fs[i]?,qk P fs l with|some f,some r=>(cy P f.type).map fun n=>(f.offset,n)::r|_,_=>none
def mE (P:Program) (f:TypeId→Option (List Nat)):Nat→List Field→Option (List Nat)|_,[]=>some []|off,fl::fs=>if fl.name≠ "_" ∧fl.offset=off then(f fl.type).bind fun a=>if cy P fl.type=some a.length then(mE P f (off+a.length) fs).map (a++·) else none else none
def jM (P:Program):Nat→TypeId→Option (List Nat)|0,_=>none|n+1,t=>match P.underlying t with|some .bool=>some [0]|some .string=>some [1]|some (.int k)=>some [2+m5 k]|some (.struct fs)=>if t<P.types.size∧Er P t=false then mE P (jM P n) 0 fs.toList else none|_=>none
def dj (P:Program) (b:Builtin) (xs:List Operand) (ts:List TypeId):Option (AK×List Operand):=match b,xs,ts with
 |.len,[x],[t]=>match P.underlying t with|some .string=>some (.vt,[x])|some (.slice _)=>some (.len,[x])|_=>none
 |.append,[s,x],[t,t']=>match P.underlying t,P.underlying t' with
  |some (.slice e),some .string=>match P.info? e with|some i=>if i.size=1∧(dN P e).isSome=true then some (.app e i.size i.bytes,[s,x]) else none|none=>none
  |some (.slice e),some (.slice _)=>match P.info? e with|some i=>if 0<i.size∧(dN P e).isSome=true then some (.app e i.size i.bytes,[s,x]) else none|none=>none
  |_,_=>none
 |.min,[x,y],[_,_]=>some (.G3 false,[x,y])|.max,[x,y],[_,_]=>some (.G3 true,[x,y])|.clear,[x],[t]=>match P.underlying t with
  |some (.slice e)=>match cy P e,dN P e with|some sz,some zs=>if 0<sz∧zs.all (·.oneCell')=true then some (.HR e sz zs,[x]) else none|_,_=>none
  |_=>none
 |_,_,_=>none
def gK (P:Program) (c:Call):Option (AK×List Operand):=match c.callee with|.builtin b=>dj P b c.args.toList c.argTypes.toList|.value (.func f)=>if ib P f then some (.call f,c.args.toList) else none|.value x=>some (.ly,x::c.args.toList)|.invoke _ _=>none
def kb (P:Program) (t:TypeId):Option Nat:=match P.underlying t with|some .bool=>some 0|some .string=>some 1|some (.int k)=>some (2+m5 k)|_=>none
def zeroV (P:Program) (t:TypeId):Option Value:=(P.info? t).bind (·.zero)
def jm (P:Program) (t:TypeId):Option (TypeId×TypeId):=match P.underlying t with|some (.map k e)=>some (k,e)|_=>none
def ym (P:Program) (f:FuncId):Bool:=match P.funcs[f]? with|some fn=>fn.name== "math/bits.Add64" &&fn.body.isNone&&(Extern.findNext fn).isNone|none=>false
def yL (P:Program) (b:Builtin) (xs:List Operand) (ts:List TypeId):Option (XK×List Operand):=match b,xs,ts with
 |.cap,[x],[t]=>match P.underlying t with|some (.slice _)=>some (.Hc,[x])|_=>none
 |.append,[s,x],[t,t']=>match P.underlying t,P.underlying t' with
  |some (.slice e),some (.int _)=>match P.info? e,dN P e with|some i,some zs=>if 0<i.size∧zs.all (·.oneCell')=true then some (.EO e i.size i.bytes zs,[s,x]) else none|_,_=>none
  |_,_=>none
 |_,_,_=>none
def rwsT (P:Program) (e:TypeId):Bool:=match(P.info? e).map (fun i:TypeInfo=>i.desc),P.underlying e with|some (TypeDesc.named _ _),some (TypeDesc.slice _)=>true|_,_=>false
def T0 (P:Program) (e:TypeId):Bool:=match P.underlying e with|some (.int .u64)=>true|_=>false
def DT (P:Program) (o:Oper):Bool:=match o.op,o.dst with
 |.move (.tmp 8),some 193|.assign (.tmp 8),some 193=>match P.underlying o.type with
  |some (.slice e)=>match P.underlying e with|some (.slice _)=>true|_=>false
  |_=>false
 |.store t (.tmp 160) (.tmp 159),none=>match P.underlying t with|some (.slice _)=>true|_=>false
 |_,_=>false
def tZ (P:Program) (o:Oper):Option (XK×List Operand):=match o.op with
 |.makeMap t none=>match jm P t with|some _=>some (.UH,[])|none=>none
 |.mapUpdate t m k x|.insert t m k x=>match jm P t with
  |some (kt,_)=>match kb P kt with|some s=>some (.FL s,[m,k,x])|none=>none
  |none=>none
 |.lookup t m k ok=>match jm P t with
  |some (kt,et)=>match kb P kt,zeroV P et with|some s,some z=>some (.HV s z ok,[m,k])|_,_=>none
  |none=>none
 |.buildSlice t n ps=>match P.underlying t with
  |some (.slice e)=>match cy P e,dN P e with|some sz,some zs=>if T0 P e=true∧ps.toList.map (·.1)=List.range n∧n*sz≤2^24∧zs.length=sz∧0<sz then some (.mW e sz,ps.toList.map (·.2)) else if sz=1∧ps.toList.map (·.1)=List.range n∧n*sz≤2^24∧zs.length=sz then some (.Ex e,ps.toList.map (·.2)) else none|_,_=>none
  |_=>none
 |.convert src dst x=>if src=dst then match P.underlying src with
  |some (.slice e)=>match P.underlying e with|some (.int .u8)=>some (.mark,[x])|_=>none
  |_=>none else none|.makeSlice t l c=>match P.underlying t with
  |some (.slice e)=>match P.info? e,dN P e with|some i,some zs=>if 0<i.size∧zs.all (·.oneCell')=true then some (.Qk e i.bytes zs,[l,c]) else none|_,_=>none
  |_=>none
 |.binOp op t x y _=>match P.underlying t with|some (.slice _)=>if fe y then match op with|.eql=>some (.vF false,[x])|.neq=>some (.vF true,[x])|_=>none else none|_=>none
 |.call c=>match c.callee with|.value (.func f)=>if ym P f=true then some (.zk,c.args.toList) else none|.builtin b=>yL P b c.args.toList c.argTypes.toList|_=>none
 |.move x=>if DT P o=true then some (.Ew,[x]) else none|.assign x=>if DT P o=true then some (.Ew,[x]) else none|.store t x y=>if DT P o=true∧cy P t=some 1 then some (.Yu,[x,y]) else none|_=>none
def Ip (P:Program) (t:TypeId):Bool:=match P.underlying t with|some .bool|some .string|some (.int _)|some (.func _ _ _)|some (.slice _)=>true|_=>false
def zq (P:Program) (o:Oper):Option (XK×List Operand):=match o.op with
 |.makeMap t none=>match jm P t with|some (_,et)=>if Ip P et=true then some (.XX,[]) else none|none=>none
 |.mapUpdate t m k x|.insert t m k x=>match jm P t with
  |some (kt,et)=>match kb P kt with|some s=>if Ip P et=true then some (.Sv s,[m,k,x]) else none|none=>none
  |none=>none
 |.lookup t m k ok=>match jm P t with
  |some (kt,et)=>match kb P kt,zeroV P et with|some s,some z=>if Ip P et=true then some (.Gi s z ok,[m,k]) else none|_,_=>none
  |none=>none
 |.binOp op t x y _=>match P.underlying t with
  |some (.pointer _)=>match y with
   |.const (.pointer none)=>match op with|.eql=>some (.Fh false,[x])|.neq=>some (.Fh true,[x])|_=>none
   |_=>none
  |_=>none
 |.call c=>match c.callee,c.args.toList,c.argTypes.toList with
  |.builtin .delete,[m,k],[t,kt']=>match jm P t with
   |some (kt,et)=>match kb P kt with|some s=>if Ip P et=true∧kt'=kt then some (.dlv s,[m,k]) else none|none=>none
   |none=>none
  |_,_,_=>none
 |.range t x=>match jm P t with|some _=>some (.WS,[x])|none=>none
 |.next x false=>some (.nxt,[x])|.entry x=>some (.ent,[x])|_=>none
def jE (P:Program) (o:Oper):XK×List Operand:=match zq P o with|some r=>r|none=>(tZ P o).getD (.dead,[])
def gD (P:Program) (o:Oper):Option (AK×List Operand):=match o.op with
 |.move x|.assign x=>if fe x then match P.underlying o.type with|some (.slice e)=>if(P.info? e).isSome then some (.ij e,[]) else none|_=>none else some (.nX,[x])|.pick c a b=>some (.pick,[c,a,b])|.alloc e=>(dN P e).map fun zs=>(.alloc zs,[])|.box _ x=>some (.box,[x])|.build t ps=>match dN P t,P.underlying t with|some zs,some (.struct fs)=>if fs.toList.all (fun f=>(P.info? f.type).isSome)=false then none else(qk P fs ps.toList).map fun l=>(.H9 zs l,ps.toList.map (·.2))|_,_=>none
 |.buildSlice t n ps=>match P.underlying t with
  |some (.slice e)=>match cy P e,dN P e with|some sz,some zs=>if(rwsT P e||T0 P e)=false∧ps.toList.map (·.1)=List.range n∧n*sz≤2^24∧zs.length=sz∧0<sz then some (.rT e sz,ps.toList.map (·.2)) else none|_,_=>none
  |_=>none
 |.load t a=>(mZ P t).map fun n=>(.load n,[a])|.store t a v=>match mZ P t with|some none=>if cy P t=some 1 then some (.store none,[a,v]) else none|some (some n)=>some (.store (some n),[a,v])|none=>none
 |.binOp op t x y _=>match P.underlying t with
  |some .bool=>match op with|.eql=>some (.beq false,[x,y])|.neq=>some (.beq true,[x,y])|_=>none
  |some (.int _)|some .string=>some (.bin op,[x,y])|some (.struct _)=>match jM P 8 t with
   |some ks=>if ks.all (·<99)=true then match op with|.eql=>some (.eqs false ks,[x,y])|.neq=>some (.eqs true ks,[x,y])|_=>none else none|none=>none
  |_=>none
 |.unOp .not _ x=>some (.not,[x])|.unOp .neg _ x=>some (.neg,[x])|.convert src dst x=>match P.underlying src,P.underlying dst with
  |some (.int _),some (.int k)=>some (.CE k,[x])|some .string,some .string=>some (.Di,[x])|some (.slice e),some .string=>match P.underlying e with|some (.int .u8)=>some (.rW,[x])|_=>none
  |some .string,some (.slice e)=>match P.underlying e with|some (.int .u8)=>some (.ou e,[x])|_=>none
  |_,_=>none
 |.fieldAddr s x i=>match P.underlying s with
  |some (.struct fs)=>match fs[i]? with
   |some f=>match cy P f.type with|some (_+1)=>some (.sy f.offset,[x])|_=>none
   |none=>none
  |_=>none
 |.field s x i=>match P.underlying s with
  |some (.struct fs)=>match fs[i]? with|some f=>(mZ P f.type).map fun n=>(.FI f.offset n,[x])|none=>none
  |_=>none
 |.indexAddr t x i=>match P.underlying t with|some (.slice e)=>(cy P e).map fun sz=>(.Fw e sz,[x,i])|some (.array n e)=>(cy P e).map fun sz=>(.FA n sz,[x,i])|_=>none
 |.index t x i=>match P.underlying t with|some .string=>some (.vd,[x,i])|_=>none
 |.slice t x lo hi none=>match P.underlying t with|some .string=>some (.I7 lo.isSome hi.isSome,[x]++lo.toList++hi.toList)|some (.slice e)=>(cy P e).map fun sz=>(.Cw sz lo.isSome hi.isSome,[x]++lo.toList++hi.toList)|_=>none
 |.extract x i=>some (.ext i,[x])|.nilCheck x=>some (.ED,[x])|.makeFunc (.func f) first caps=>match first.toList with|[]=>some (.Ih f,caps.toList)|_=>none
 |.call c=>gK P c|_=>none
def gX (P:Program) (o:Oper):Option (AK×List Operand):=match if DT P o=true then none else gD P o with|some r=>some r|none=>some (.ex (jE P o).1,(jE P o).2)
theorem dU {P:Program}{o:Oper}{k:AK}{xs:List Operand} (h:gX P o=some (k,xs)):gD P o=some (k,xs)∨∃x,k=.ex x∧jE P o=(x,xs):=by
 unfold gX at h;split at h
 ·rename_i r hr;split at hr;·cases hr
  ·rw[hr];exact .inl h
 ·cases h;exact .inr ⟨_,rfl,rfl⟩
def makes:AK→Bool|.ij _|.box|.alloc _|.rT _ _|.app _ _ _|.call _|.ly|.rW|.ou _|.ex .UH|.ex .XX|.ex .WS|.ex (.EO _ _ _ _)|.ex (.Ex _)|.ex (.Qk _ _ _)=>true|_=>false
def writes:AK→Bool|.store _|.app _ _ _=>true|_=>false
def aK:AK→Bool|.nX|.bin _|.beq _|.not|.neg|.CE _|.Di=>true|_=>false
def tmpsOf:List Operand→List Nat|[]=>[]|.tmp t::l=>t::tmpsOf l|_::l=>tmpsOf l
def cX (i:AI):List Nat:=tmpsOf i.xs++(match i.g with|some (s,_)=>[s]|none=>[])
def yl:Option Nat→Bool|some _=>true|none=>false
def cg (i:AI):List Nat:=if makes i.k then i.d.toList else if writes i.k then i.tg.toList else[]
def isApp:AK→Bool|.app _ _ _=>true|_=>false
def Yy:AK→Bool|.alloc _=>true|_=>false
def yj:AK→Bool|.load _|.sy _=>true|_=>false
def Cg (x y:AI):Bool:=isApp x.k&&x.g.isNone&&y.g.isNone&&y.tg.isNone&&(match x.d,y.d with|some d,some d'=>!(cX y).contains d&&!(cX x).contains d'&&d !=d'&&decide (d<1000)&&decide (d'<1000)&&((Yy y.k&&y.xs.isEmpty)||(yj y.k&&y.un.contains d&&y.un.all fun t=>x.un.contains (t+1000)))|_,_=>false)
def CH (x y:AI):Bool:=(match x.d with|some d=>!(cX y).contains d&&y.d !=some d&&y.tg !=some d&&decide (d<1000)|none=>true)&&(match y.d with|some d=>!(cX x).contains d&&x.tg !=some d&&decide (d<1000)|none=>true)&&((aK y.k&&y.un.isEmpty)||(!isApp x.k&&(!writes x.k||yl x.tg)&&(cg x).all fun t=>decide (t<1000)&&y.un.contains t))&&((aK x.k&&x.un.isEmpty)||(!isApp y.k&&(!writes y.k||yl y.tg)&&(cg y).all fun t=>decide (t<1000)&&x.un.contains t))&&(aK x.k||aK y.k||!writes x.k||!writes y.k||x.tg !=y.tg)
def uQ (x y:AI):Bool:=CH x y||Cg x y
def GO (P:Program) (N:Nat) (ops:Array Oper) (o:Oper):Option AI:=match gX P o with|none=>none|some (k,xs)=>let okd:=match o.dst with|some d=>decide (d<N∧d<1000)|none=>!makes k&&(k matches .store _||k matches .HR _ _ _||k matches .ex _)
 if !okd then none else match o.guard with|none=>some ⟨o.dst,k,xs,none,[],none⟩|some (j,want)=>match(ops[j]?).bind (·.dst) with|some s=>some ⟨o.dst,k,xs,some (s,want),[],none⟩|none=>none
def sI (P:Program) (N:Nat) (ops:Array Oper):List Oper→Option (List AI)|[]=>some []|o::l=>match GO P N ops o,sI P N ops l with|some i,some is=>some (i::is)|_,_=>none
def aft (e:Nat) (l:List Nat) (n:Nat):Nat:=if e<n then l.getD (n-1-e) 0 else 0
def FQ (n:Nat) (acc:List Nat) (o:Oper):Nat:=o.after.toList.foldl (fun s e=>if Region.binds .any e then s|||2^e.on|||aft e.on acc n else s) 0
def AJ:List Oper→Nat→List Nat→List Nat|[],_,acc=>acc|o::l,n,acc=>match FQ n acc o with|0=>AJ l (n+1) (0::acc)|m+1=>AJ l (n+1) ((m+1)::acc)
def O1 (ops:Array Oper):List Nat:=(AJ ops.toList 0 []).reverse
theorem P0 (e:Nat) (acc:Array Nat):aft e acc.toList.reverse acc.size=acc.getD e 0:=by
 unfold aft;split;·rename_i h;rw[List.getD_eq_getElem?_getD,List.getElem?_reverse (by simp;omega)];simp[h,show acc.size-1-(acc.size-1-e)=e by omega]
 ·simp_all
theorem DY:∀(l:List Oper) (acc:Array Nat),(AJ l acc.size acc.toList.reverse).reverse=(l.foldl (fun acc o=>acc.push (o.after.foldl (fun s e=>if Region.binds .any e then s|||2^e.on|||acc.getD e.on 0 else s) 0)) acc).toList
 |[],acc=>by simp[AJ]|o::l,acc=>by
  have hv:FQ acc.size acc.toList.reverse o=o.after.foldl (fun s e=>if Region.binds .any e then s|||2^e.on|||acc.getD e.on 0 else s) 0:=by simp only[FQ,P0,Array.foldl_toList]
  have ih:=DY l (acc.push (FQ acc.size acc.toList.reverse o));have e:AJ (o::l) acc.size acc.toList.reverse=AJ l (acc.size+1) (FQ acc.size acc.toList.reverse o::acc.toList.reverse):=by rw[AJ];split<;>rename_i h<;>rw[h]
  rw[e,List.foldl_cons,←hv,←ih];simp
theorem PC (ops:Array Oper):(Region.before ops).toList=O1 ops:=by unfold O1 Region.before;rw[←Array.foldl_toList];exact(DY ops.toList #[]).symm
theorem I9 (ops:Array Oper) (j:Nat):(O1 ops).getD j 0=(Region.before ops).getD j 0:=by rw[←PC];simp[Array.getD_eq_getD_getElem?]
def bits (ops:Array Oper) (i j:Nat):Bool:=((O1 ops).getD j 0).testBit i
theorem Ht (ops:Array Oper) (i j:Nat):bits ops i j=((Region.before ops).getD j 0).testBit i:=by unfold bits;rw[I9]
def lY (ops:Array Oper) (i j:Nat):Bool:=!bits ops i j||match ops[j]? with|some o=>o.after.toList.any fun e=>Region.binds .any e&&(e.on==i||(decide (i<e.on)&&decide (e.on<j)&&bits ops i e.on))|none=>false
def j4 (ops:Array Oper) (j:Nat):Bool:=match ops[j]? with|some o=>o.after.toList.all fun e=>!Region.binds .any e||decide (e.on<j)|none=>true
def F8 (ops:Array Oper) (is:Array AI):Bool:=(List.range ops.size).all fun j=>j4 ops j&&(List.range j).all fun i=>lY ops i j&&(bits ops i j||match is[i]?,is[j]? with|some x,some y=>uQ x y|_,_=>false)
def unOf (ops:Array Oper) (is:Array AI) (j:Nat):List Nat:=let b:=O1 ops
 (List.range is.size).filterMap fun i=>if i=j||(b.getD j 0).testBit i||(b.getD i 0).testBit j then none else match is[i]?,is[j]? with|some x,some y=>if aK y.k then none else(cg x).head?|_,_=>none
def unA (ops:Array Oper) (is:Array AI) (j:Nat):List Nat:=let b:=O1 ops
 match is[j]? with|some y=>if isApp y.k then(List.range is.size).flatMap fun i=>if i=j||(b.getD j 0).testBit i||(b.getD i 0).testBit j then[] else match is[i]? with|some x=>if yj x.k then x.un.map (·+1000) else[]|none=>[] else[]|none=>[]
def jc (ops:Array Oper) (is:Array AI) (j:Nat):List AI→List AI|[]=>[]|i::l=>{i with un:=i.un++unA ops is j}::jc ops is (j+1) l
def qO (ops:Array Oper) (is:Array AI) (j:Nat):List AI→List AI|[]=>[]|i::l=>{i with un:=unOf ops is j}::qO ops is (j+1) l
def tgOf (is:List AI) (i:AI):Option Nat:=match i.k,i.xs with|.store _,.tmp s::_=>if is.any fun x=>x.d==some s&&(match x.k with|.alloc _|.box=>true|_=>false) then some s else none|_,_=>none
def vD (is:List AI):List AI→List AI|[]=>[]|i::l=>{i with tg:=tgOf is i}::vD is l
def XI (is:List AI) (i:AI):Option Nat:=match i.k,i.xs with|.store _,.tmp s::_=>some (if is.any fun x=>x.d==some s then 999 else s)|_,_=>none
def pL (is:List AI):List AI→List AI|[]=>[]|i::l=>{i with tg:=XI is i}::pL is l
def VX (x:AI):Operand→Bool|.const _=>true|.tmp s=>x.d !=some s|_=>false
def KM (y x:AI):Bool:=match y.k,y.xs,y.d,y.g,y.tg,y.un with|.nX,[o],some dd,none,none,[]=>VX x o&&!(cX x).contains dd&&x.d !=some dd|_,_,_,_,_,_=>false
def ldB (y x:AI):Bool:=match y.k,y.xs,y.d,y.g,y.tg,x.k with|.load _,[.tmp s],some dd,none,none,.call _=>x.d !=some s&&!(cX x).contains dd&&x.d !=some dd&&dd !=s|_,_,_,_,_,_=>false
def BF (y:AI):List Nat:=match y.k,y.xs with|.load _,[.tmp s]=>[s]|_,_=>[]
def Gk:AK→Bool|.call _|.ly=>true|_=>false
def jT (ops:Array Oper) (is:Array AI) (j:Nat):List Nat:=(List.range j).flatMap fun q=>if bits ops q j then[] else match is[q]? with|some y=>BF y|none=>[]
def Bg (ops:Array Oper) (is:Array AI) (j:Nat) (x:AI):Bool:=Gk x.k&&x.g.isNone&&x.tg.isNone&&x.un.isEmpty&&(List.range is.size).all fun q=>q==j||(if q<j then bits ops q j else bits ops j q)||(match is[q]? with|some y=>(KM y x||(decide (q<j)&&ldB y x))&&(match y.d with|some dd=>!(jT ops is j).contains dd|none=>true)|none=>false)
def Av (ops:Array Oper) (is:Array AI) (j:Nat):List AI→List AI|[]=>[]|i::l=>(if Bg ops is j i then{i with tg:=some 999999,un:=jT ops is j} else i)::Av ops is (j+1) l
def yZ (b:Nat):List AI→Bool|[]=>false|i::l=>(match i.k,i.xs with|.nX,[.tmp s]=>s==b|_,_=>false)||(if i.d==some b then false else yZ b l)
def KA (s:Nat):List AI→Option Nat|[]=>none|i::l=>if i.d==some s then(match i.k,i.xs with|.nX,[.tmp b]=>some b|_,_=>none) else KA s l
def apsB (i:AI) (pre l:List AI):Bool:=match i.k,i.xs,i.g with
 |.app _ _ _,.tmp s::_,none=>match KA s pre with|some b=>yZ b l|none=>false
 |_,_,_=>false
def vq (pre:List AI):List AI→List AI|[]=>[]|i::l=>(if apsB i pre l then{i with tg:=some 999998} else i)::vq (i::pre) l
def drawn (ops:Array Oper) (js:List AI):Option AC:=let hs:=qO ops js.toArray 0 js
 let ks:=jc ops hs.toArray 0 hs
 if F8 ops ks.toArray&&ks.all (fun i=>i.tg !=some 999999) then some (.Ib (Av ops ks.toArray 0 ks) true []) else none
def mN (ops:Array Oper) (js:List AI):List Nat:=let b:=O1 ops
 let f:=fun j=>(List.range ops.size).any fun i=>(match js[i]? with|some x=>isApp x.k|none=>false)&&(i==j||(b.getD i 0).testBit j)
 (List.range ops.size).filter f++(List.range ops.size).filter fun j=>!f j
def Kv (ops:Array Oper) (ks:Array AI):List Nat→List Nat→Bool|_,[]=>true|pre,j::l=>(match ops[j]? with|some o=>o.after.toList.all fun e=>!Region.binds .any e||pre.contains e.on|none=>false)&&(!pre.contains j)&&(l.all fun b=>(decide (j<b)&&bits ops j b)||match ks[j]?,ks[b]? with|some x,some y=>uQ x y|_,_=>false)&&Kv ops ks (j::pre) l
def xU (ops:Array Oper) (js:List AI) (l:List Nat):Option AC:=let hs:=qO ops js.toArray 0 js
 let ks:=jc ops hs.toArray 0 hs
 if l.length=ops.size∧Kv ops ks.toArray [] l=true∧((List.range ops.size).all fun j=>j4 ops j&&(List.range j).all fun i=>lY ops i j)=true∧(l.all fun j=>decide (j<ops.size))=true∧((List.range ops.size).all fun j=>l.contains j)=true∧ks.all (fun i=>i.tg !=some 999999)=true then some (.Ib (l.filterMap fun j=>ks[j]?) true []) else none
def comp (P:Program) (N:Nat):Code→Option AC
 |.skip=>some .skip|.region _ ops draw=>match sI P N ops ops.toList with|some is=>if draw then((drawn ops (vD is is)).or (drawn ops (pL is is))).or ((xU ops (vD is is) (mN ops is)).or (xU ops (pL is is) (mN ops is))) else some (.Ib (vq [] is) false [])|none=>none
 |.seq a b=>match comp P N a,comp P N b with|some x,some y=>some (.seq x y)|_,_=>none
 |.cond c a b=>match comp P N a,comp P N b with|some x,some y=>some (.cond c x y)|_,_=>none
 |.block id a=>(comp P N a).map (.block id)|.loop a=>(comp P N a).map .loop|.exit id=>some (.exit id)|.ret=>some .ret|.scope a=>comp P N a|.label _=>some .skip|_=>none
def DN (w:List Nat):List AI→List Nat|[]=>[]|i::l=>(cX i).filter (fun s=>!w.contains s)++DN (i.d.toList++w) l
def wq:AC→List Nat|.Ib is _ _=>DN [] is|.seq a b=>wq a++wq b|.cond x a b=>tmpsOf [x]++wq a++wq b|.block _ a|.loop a=>wq a|_=>[]
def gB (c7:List Nat):AC→AC|.Ib is d _=>.Ib is d c7|.seq a b=>.seq (gB c7 a) (gB c7 b)|.cond x a b=>.cond x (gB c7 a) (gB c7 b)|.block id a=>.block id (gB c7 a)|.loop a=>.loop (gB c7 a)|c=>c
def iB (P:Program):List ResultVar→Option (List (Nat×Option (Option Nat)))|[]=>some []|.tmp t::l=>(iB P l).map ((t,none)::·)|.cell a t::l=>(mZ P t).bind fun n=>(iB P l).map ((a,some n)::·)
structure AFn where
 n:Nat
 params:Nat
 res:List (Nat×Option (Option Nat))
 body:AC
def xC (P:Program) (f:FuncId) (c7:List Nat):Option AFn:=match P.funcs[f]? with
 |some fn=>match fn.body,iB P fn.results.toList with|some c,some rs=>(comp P fn.ntmps c).bind fun b=>if fn.ntmps≤998 then some ⟨fn.ntmps,fn.params.size+fn.nfree,rs,gB c7 b⟩ else none|_,_=>none
 |none=>none
def aav (n:Nat):List Nat→List Nat|[]=>[n]|m::l=>if n<m then n::m::l else if n=m then m::l else m::aav n l
def Zy (P:Program) (f:FuncId):List Nat:=match P.funcs[f]? with
 |some fn=>match fn.body,iB P fn.results.toList with
  |some c,some rs=>match comp P fn.ntmps c with|some b=>(wq b++rs.map (·.1)).foldr aav []|none=>[]
  |_,_=>[]
 |none=>[]
abbrev aFn (P:Program) (f:FuncId):Option AFn:=xC P f (Zy P f)
end Go.Proofs.YtifcndkhigakfaaGreat.Ab
