/- An abstract machine for the code of one function: slices, strings and structs as plain data; what each operation makes of them. Definitions alone. -/
import Derived.WalkKit
import Derived.WalkSpells
import Derived.WalkLawsBesides
import Derived.MapKept
import Derived.Maps.RangeRun
set_option linter.unusedVariables false
set_option linter.unusedSimpArgs false
set_option linter.unnecessarySimpa false
set_option maxHeartbeats 40000000
set_option maxRecDepth 100000
namespace Go.Proofs.YtlicclncicbajaaGreat.Ab
open Go Go.RowKit
inductive PV where|int (k:IntKind) (n:Int)|bool (b:Bool)|str (l:List UInt8)|nil|ro (rows:List (List PV))|mp (ks:List PV)|mv (es:List (PV×PV))|pt (cs:List PV)|val (v:Value)
inductive AV where|pv (p:PV)|own (t:Nat)|ptr (t off:Nat)|aZ (t:Nat) (e:TypeId) (i:Int) (off:Nat)|sub (t:Nat) (e:TypeId) (lo hi:Nat)|rp (cs:List PV)|agg (cs:List AV)|aJ (vs:List AV)|bo (f:FuncId) (caps:List AV)|fr (e:TypeId) (rows:List (List PV))|bx (cs:List AV)|mf (es:List (PV×PV))|bY (g:Bool) (v:AV)|au
inductive AO where|box (cs:List AV)|arr (e:TypeId) (rows:List (List PV))|map (es:List (PV×AV))|rws (e:TypeId) (cs:List AV)|gY (es:List (PV×PV))|nk (rem:List (PV×PV)) (cur:Option (PV×PV))
structure St where
 vars:Nat→AV
 aa:Nat→Option AO
def rE:Value→PV|.int k n=>.int k n|.bool b=>.bool b|.string s=>.str s.data.toList|.slice none 0 0=>.nil|v=>.val v
def cv (v:Value):AV:=if v.oneCell'=true then .pv (rE v) else .au
def ev (vars:Nat→AV):Operand→AV|.tmp t=>vars t|.const v=>cv v|.func f=>.bo f []|.global _=>.au
def put (d:Option Nat) (v:AV) (f:Nat→AV):Nat→AV:=match d with|some d=>fun s=>if s=d then v else f s|none=>f
def aL (t:Nat) (o:AO) (f:Nat→Option AO):Nat→Option AO:=fun s=>if s=t then some o else f s
def look (l:List (Nat×AV)) (s:Nat):AV:=match l with|[]=>.au|(t,v)::l=>if s=t then v else look l s
def ab (l:List (Nat×AO)) (s:Nat):Option AO:=match l with|[]=>none|(t,v)::l=>if s=t then some v else ab l s
def asks:AV→Prop|.bY g v=>g=true∧asks v|_=>True
def strip:AV→AV|.bY _ v=>strip v|v=>v
def ak:List AV→Prop|[]=>True|v::l=>asks v∧ak l
inductive XK where|YT|Hq (s:Nat)|DX (s:Nat) (z:Value) (ok:Bool)|dead|vM (ne:Bool)|yM|FL|ES (e:TypeId) (sz bytes:Nat) (zs:List Value)|DJ (e:TypeId)|RN (e:TypeId) (bytes:Nat) (zs:List Value)|mark|rst|Ex|mkv|QU (s:Nat)|E3 (s:Nat) (z:Value) (ok:Bool)|mJ (e:TypeId) (sz:Nat)|dlv (s:Nat)|EB (ne:Bool)|YU|nxt|ent
inductive AK where|nS|pick|bin (op:BinOp)|beq (ne:Bool)|not|neg|B3 (k:IntKind)|CV|len|uZ|uS|IQ (lo hi:Bool)|FU (off:Nat) (n:Option Nat)|rS (off:Nat)|load (n:Option Nat)|CB (e:TypeId) (sz:Nat)|E6 (n sz:Nat)|Ec|A6 (sz:Nat) (lo hi:Bool)|ext (i:Nat)|H2 (zs:List Value) (parts:List (Nat×Nat))|HU (f:FuncId)|gK (e:TypeId)|box|alloc (zs:List Value)|rG (e:TypeId) (sz:Nat)|call (f:FuncId)|lh|E4 (mx:Bool)|eqs (ne:Bool) (ks:List Nat)|store (n:Option Nat)|app (e:TypeId) (sz bytes:Nat)|rH|qw (e:TypeId)|F8 (e:TypeId) (sz:Nat) (zs:List Value)|ex (x:XK)
structure AI where
 d:Option Nat
 k:AK
 xs:List Operand
 g:Option (Nat×Bool)
 un:List Nat
 tg:Option Nat
inductive AC where|skip|HW (is:List AI) (drawn:Bool) (cq:List Nat)|seq (a b:AC)|cond (x:Operand) (a b:AC)|block (id:Nat) (a:AC)|loop (a:AC)|exit (id:Nat)|ret
def gb (op:BinOp) (k:IntKind) (a b:Int):PV:=.int k (k.wrap (match op with|.and=>(BitVec.ofInt k.bits a&&&BitVec.ofInt k.bits b).toNat|.or=>(BitVec.ofInt k.bits a|||BitVec.ofInt k.bits b).toNat|.xor=>(BitVec.ofInt k.bits a^^^BitVec.ofInt k.bits b).toNat|_=>(BitVec.ofInt k.bits a&&&~~~BitVec.ofInt k.bits b).toNat:Nat))
def dv (op:BinOp) (x y:PV):Option (Prop×PV):=match x,y with
 |.int k a,.int k' b=>match op with|.shl=>some (0≤b,.int k (k.wrap (a*2^(min b.toNat k.bits))))|.shr=>some (0≤b,.int k (a.fdiv (2^(min b.toNat k.bits))))|op=>if k=k' then match op with|.add=>some (True,.int k (k.wrap (a+b)))|.sub=>some (True,.int k (k.wrap (a-b)))|.mul=>some (True,.int k (k.wrap (a*b)))|.quo=>some (b≠0,.int k (k.wrap (a.tdiv b)))|.rem=>some (b≠0,.int k (a.tmod b))|.eql=>some (True,.bool (decide (a=b)))|.neq=>some (True,.bool (!decide (a=b)))|.lss=>some (True,.bool (decide (a<b)))|.leq=>some (True,.bool (decide (a≤b)))|.gtr=>some (True,.bool (decide (b<a)))|.geq=>some (True,.bool (decide (b≤a)))|op=>some (True,gb op k a b) else none
 |.str a,.str b=>match op with|.add=>some (a.length+b.length≤9223372036854775807,.str (a++b))|.eql=>some (True,.bool (decide (a=b)))|.neq=>some (True,.bool (!decide (a=b)))|.lss=>some (True,.bool (Op.bytesLess a b))|.leq=>some (True,.bool (Op.bytesLess a b||decide (a=b)))|.gtr=>some (True,.bool (!(Op.bytesLess a b||decide (a=b))))|.geq=>some (True,.bool (!Op.bytesLess a b))|_=>none
 |_,_=>none
def mK:IntKind→Nat|.i8=>0|.i16=>1|.i32=>2|.i64=>3|.u8=>4|.u16=>5|.u32=>6|.u64=>7
def dk:PV→Nat|.bool _=>0|.str _=>1|.int k _=>2+mK k|_=>99
def mm:PV→PV→Bool|.int _ a,.int _ b=>decide (a=b)|.str a,.str b=>decide (a=b)|.bool a,.bool b=>decide (a=b)|_,_=>false
def ja:List PV→List PV→Bool|[],[]=>true|a::l,b::m=>mm a b&&ja l m|_,_=>false
def rowAt (rows:List (List PV)) (i:Int):List PV:=rows.getD i.toNat []
def bytesRow (l:List UInt8):List (List PV):=l.map fun c=>[.int .u8 (c.toNat:Int)]
def DF:AV→Option PV|.pv p=>some p|_=>none
def eQ:List AV→Option (List PV)|[]=>some []|v::l=>(DF v).bind fun p=>(eQ l).map (p::·)
def rowOf:AV→Option (List PV)|.agg cs=>eQ cs|.pv p=>some [p]|_=>none
def rowsOf:List AV→Option (List (List PV))|[]=>some []|v::l=>(rowOf v).bind fun p=>(rowsOf l).map (p::·)
def cellsOf:AV→List AV|.agg cs=>cs|v=>[v]
def ef:AV→Bool|.pv (.val v)=>v.oneCell'|.pv _|.own _|.ptr _ _|.aZ _ _ _ _|.sub _ _ _ _|.rp _|.bo _ _=>true|_=>false
def ff:List AV→Bool|[]=>true|c::cs=>ef c&&ff cs
def lH:AV→Bool|.agg _=>true|v=>ef v
def pF:AV→AV|.bo f []=>.pv (.val (.func (.func f) #[] #[]))|v=>v
def lay (cs:List AV) (off:Nat) (ps:List AV):List AV:=cs.take off++ps++cs.drop (off+ps.length)
def km (cs:List AV):List (Nat×Nat)→List AV→Option (List AV)|[],[]=>some cs|(off,n)::ps,x::xs=>if lH x=true∧(cellsOf x).length=n∧off+n≤cs.length then km (lay cs off ((cellsOf x).map pF)) ps xs else none|_,_=>none
def bounds (n:Nat) (lo hi:Bool) (xs:List AV):Option (Int×Int):=match lo,hi,xs with|false,false,[]=>some (0,n)|true,false,[.pv (.int _ l)]=>some (l,n)|false,true,[.pv (.int _ h)]=>some (0,h)|true,true,[.pv (.int _ l),.pv (.int _ h)]=>some (l,h)|_,_,_=>none
def cut {α:Type} (l:List α) (lo hi:Int):List α:=(l.take hi.toNat).drop lo.toNat
def cM:Option AO→Option (TypeId×List (List PV))|some (.arr e rows)=>some (e,rows)|_=>none
def W7:Option AO→Option (TypeId×List AV)|some (.rws e cs)=>some (e,cs)|_=>none
def AY:Option AO→Option (TypeId×Nat)|some (.arr e rows)=>some (e,rows.length)|some (.rws e cs)=>some (e,cs.length)|_=>none
def eK:Option AO→Option (List AV)|some (.box cs)=>some cs|_=>none
def cG (aa:Nat→Option AO):AV→Option (List (List PV))|.pv .nil=>some []|.pv (.ro rows)=>some rows|.pv (.str l)=>some (bytesRow l)|.own t=>(cM (aa t)).map (·.2)|.sub t e lo hi=>(cM (aa t)).bind fun r=>if r.1=e then some ((r.2.take hi).drop lo) else none|_=>none
def eZ (aa:Nat→Option AO):AV→Option (List (List PV))|.pv .nil=>some []|.pv (.ro rows)=>some rows|.own t=>(cM (aa t)).map (·.2)|.sub t e lo hi=>(cM (aa t)).bind fun r=>if r.1=e then some ((r.2.take hi).drop lo) else none|_=>none
def byteOf:List PV→Option UInt8|[.int .u8 n]=>if 0≤n∧n<256 then some (UInt8.ofNat n.toNat) else none|_=>none
def bytesOf:List (List PV)→Option (List UInt8)|[]=>some []|r::l=>(byteOf r).bind fun c=>(bytesOf l).map (c::·)
def lE:AV→Bool|.agg _|.aJ _|.bY _ _|.au=>false|_=>true
def lv (e:TypeId) (i:Int) (o:Nat):Option AO→Option (Prop×AV)|some (.arr e' rows)=>if e'=e then some (0≤i∧i<rows.length∧o<(rowAt rows i).length,.pv ((rowAt rows i).getD o (.int .u8 0))) else none|some (.rws e' cs)=>if e'=e∧o=0 then(cs[i.toNat]?).bind fun c=>if lE c=true then some (0≤i,c) else none else none|_=>none
def ln (k:PV):List (PV×PV)→Option PV|[]=>none|e::l=>if mm k e.1=true then some e.2 else ln k l
def fm (s:Nat) (es:List (PV×PV)):Prop:=∀e∈es,dk e.1=s
def xR (z:Value) (ok:Bool) (o:Option PV):AV:=if ok=true then .aJ [.pv (o.getD (rE z)),.pv (.bool o.isSome)] else .pv (o.getD (rE z))
def aj (k:AK) (xs:List AV) (aa:Nat→Option AO):Option (Prop×AV):=match k,xs with|.bin op,[.pv x,.pv y]=>(dv op x y).map fun r=>(r.1,.pv r.2)|.beq ne,[.pv (.bool x),.pv (.bool y)]=>some (True,.pv (.bool (if ne then x !=y else x==y)))|.not,[.pv (.bool b)]=>some (True,.pv (.bool (!b)))|.neg,[.pv (.int k n)]=>some (True,.pv (.int k (k.wrap (0-n))))|.B3 k,[.pv (.int _ n)]=>some (True,.pv (.int k (k.wrap n)))|.CV,[.pv (.str l)]=>some (True,.pv (.str l))|.uZ,[.pv (.str l)]=>some (True,.pv (.int .i64 l.length))|.len,[.pv .nil]=>some (True,.pv (.int .i64 0))|.len,[.pv (.ro rows)]=>some (True,.pv (.int .i64 rows.length))|.len,[.own t]=>(AY (aa t)).map fun r=>(True,.pv (.int .i64 r.2))|.len,[.sub t _ lo hi]=>(cM (aa t)).map fun _=>(True,.pv (.int .i64 ((hi:Int)-(lo:Int))))|.uS,[.pv (.str l),.pv (.int _ i)]=>some (0≤i∧i<l.length,.pv (.int .u8 ((l.getD i.toNat 0).toNat:Int)))|.IQ lo hi,.pv (.str l)::bs=>(bounds l.length lo hi bs).map fun b:Int×Int=>(0≤b.1∧b.1≤b.2∧b.2≤(l.length:Int),.pv (.str (cut l b.1 b.2)))|.FU off none,[.agg cs]=>(cs[off]?).map fun c=>(True,c)|.FU off (some n),[.agg cs]=>if off+n≤cs.length then some (True,.agg ((cs.drop off).take n)) else none|.rS off,[.ptr t o]=>some (True,.ptr t (o+off))|.rS off,[.aZ t e i o]=>some (True,.aZ t e i (o+off))|.rS off,[.rp cs]=>some (True,.rp (cs.drop off))|.E6 n sz,[.ptr t o,.pv (.int _ i)]=>some (0≤i∧i<(n:Int),.ptr t (o+i.toNat*sz))|.E6 n sz,[.rp cs,.pv (.int _ i)]=>some (0≤i∧i<(n:Int),.rp (cs.drop (i.toNat*sz)))|.Ec,[.ptr t o]=>some (True,.ptr t o)|.Ec,[.aZ t e i o]=>some (True,.aZ t e i o)|.Ec,[.rp cs]=>some (True,.rp cs)|.load none,[.ptr t o]=>(eK (aa t)).bind fun cs=>(cs[o]?).bind fun c=>if lE c=true then some (True,c) else none|.load (some n),[.ptr t o]=>(eK (aa t)).bind fun cs=>if o+n≤cs.length then some (True,.agg ((cs.drop o).take n)) else none|.load none,[.aZ t e i o]=>lv e i o (aa t)|.load (some n),[.aZ t e i o]=>(cM (aa t)).bind fun r=>if r.1=e∧o+n≤(rowAt r.2 i).length then some (0≤i∧i<r.2.length,.agg ((((rowAt r.2 i).drop o).take n).map .pv)) else none|.load none,[.rp (c::_)]=>some (True,.pv c)|.load none,[.rp []]=>some (False,.pv (.int .u64 0))|.load (some n),[.rp cs]=>if n≤cs.length then some (True,.agg ((cs.take n).map .pv)) else none|.CB _ sz,[.pv (.ro rows),.pv (.int _ i)]=>some (0≤i∧i<rows.length∧(rowAt rows i).length=sz,.rp (rowAt rows i))|.CB e _,[.own t,.pv (.int _ i)]=>(AY (aa t)).bind fun r=>if r.1=e then some (0≤i∧i<r.2,.aZ t e i 0) else none|.CB e _,[.sub t e1 lo hi,.pv (.int _ i)]=>(cM (aa t)).bind fun r=>if r.1=e∧e1=e then some (0≤i∧i<(hi:Int)-(lo:Int),.aZ t e ((lo:Int)+i) 0) else none|.A6 sz lo hi,.own t::bs=>(cM (aa t)).bind fun r=>(bounds r.2.length lo hi bs).map fun b:Int×Int=>(0≤b.1∧b.1≤b.2∧b.2≤(r.2.length:Int)∧(∀x∈r.2,x.length=sz),.sub t r.1 b.1.toNat b.2.toNat)|.A6 sz lo hi,.sub t e l h::bs=>(cM (aa t)).bind fun r=>if r.1=e then(bounds (h-l) lo hi bs).map fun b:Int×Int=>(0≤b.1∧b.1≤b.2∧b.2≤((h-l:Nat):Int)∧(∀x∈r.2,x.length=sz),.sub t e (l+b.1.toNat) (l+b.2.toNat)) else none|.A6 sz lo hi,.pv (.ro rows)::bs=>(bounds rows.length lo hi bs).map fun b:Int×Int=>(0≤b.1∧b.1≤b.2∧b.2≤(rows.length:Int)∧(∀r∈rows,r.length=sz),.pv (.ro (cut rows b.1 b.2)))|.A6 _ lo hi,.pv .nil::bs=>(bounds 0 lo hi bs).map fun b:Int×Int=>(b.1=0∧b.2=0,.pv .nil)|.ext i,[.aJ vs]=>(vs[i]?).map fun v=>(True,v)|.H2 zs ps,xs=>(km (zs.map cv) ps xs).map fun cs=>(True,.agg cs)|.HU f,xs=>some (True,.bo f xs)|.E4 mx,[.pv (.int k a),.pv (.int k' b)]=>if k=k' then some (True,.pv (.int k (if mx then max a b else min a b))) else none|.eqs ne ks,[.agg xs,.agg ys]=>(eQ xs).bind fun a=>(eQ ys).map fun b=>(a.map dk=ks∧b.map dk=ks,.pv (.bool (if ne then !ja a b else ja a b)))|.ex (.E3 s z ok),[.pv (.mv es),.pv k]=>some (z.oneCell'=true∧dk k=s∧fm s es,xR z ok (ln k es))|.ex (.mJ _ sz),xs=>(rowsOf xs).map fun rows=>(∀r∈rows,r.length=sz,.pv (.ro rows))|.rH,[x]=>(eZ aa x).bind fun rows=>(bytesOf rows).map fun l=>(True,.pv (.str l))|.qw _,[.pv (.str l)]=>some (True,.pv (.ro (bytesRow l)))|_,_=>none
def b9:Value→Option Nat|.slice (some a) _ _=>some a.block|.pointer (some a)=>some a.block|.map (some b)=>some b|_=>none
def bR:PV→Value|.int k n=>.int k n|.str l=>.string ⟨l.toArray⟩|.bool b=>.bool b|_=>undef
inductive cZ (S:Nat→Prop) (w:World):Value→PV→Prop|int (k:IntKind) (n:Int):cZ S w (.int k n) (.int k n)|bool (b:Bool):cZ S w (.bool b) (.bool b)|str (l:List UInt8):cZ S w (.string ⟨l.toArray⟩) (.str l)|nil:cZ S w (.slice none 0 0) .nil|val (v:Value):v.oneCell'=true→cZ S w v (.val v)|mp (b:Nat) (us:Array MapEntry) (c:Nat) (ks:List PV):S b→w.heap[b]?=some (.map us c)→us.toList.length=ks.length→(∀(i:Nat) (k:PV) (u:MapEntry),ks[i]?=some k→us.toList[i]?=some u→u.key=bR k∧u.val=.agg #[])→cZ S w (.map (some b)) (.mp ks)|mv (b:Nat) (us:Array MapEntry) (c:Nat) (es:List (PV×PV)):S b→w.heap[b]?=some (.map us c)→MapKept.Stamped us c→us.toList.length=es.length→(∀(i:Nat) (e:PV×PV) (u:MapEntry),es[i]?=some e→us.toList[i]?=some u→u.key=bR e.1∧dk e.1<99∧u.val.oneCell'=true)→(∀(i:Nat) (e:PV×PV) (u:MapEntry),es[i]?=some e→us.toList[i]?=some u→cZ S w u.val e.2)→cZ S w (.map (some b)) (.mv es)|pt (ad:Addr) (cs:List PV) (us:Nat→Value):S ad.block→(∀j,j<cs.length→w.cell? (ad.add j)=some (us j))→(∀(j:Nat) (p:PV),cs[j]?=some p→(us j).oneCell'=true)→(∀(j:Nat) (p:PV),cs[j]?=some p→cZ S w (us j) p)→cZ S w (.pointer (some ad)) (.pt cs)|wP (A:Option Addr) (c:Nat):cZ S w (.slice A 0 c) (.ro [])|ro (ad:Addr) (c:Nat) (rows:List (List PV)) (sz:Nat) (us:Nat→Nat→Value):S ad.block→rows.length≤c→(∀r,r∈rows→r.length=sz)→(∀i j,i<rows.length→j<sz→w.cell? (ad.add (i*sz+j))=some (us i j))→(∀(i j:Nat) (r:List PV) (p:PV),rows[i]?=some r→r[j]?=some p→(us i j).oneCell'=true)→(∀(i j:Nat) (r:List PV) (p:PV),rows[i]?=some r→r[j]?=some p→cZ S w (us i j) p)→cZ S w (.slice (some ad) rows.length c) (.ro rows)
inductive RV (P:Program) (S:Nat→Prop) (w:World) (β:Nat→Value) (D:Nat→Prop):Value→AV→Prop|pv (v:Value) (p:PV):cZ S w v p→RV P S w β D v (.pv p)|own (t:Nat):D t→RV P S w β D (β t) (.own t)|ptr (t o b:Nat):D t→β t=.pointer (some ⟨b,0,none⟩)→RV P S w β D (.pointer (some ⟨b,o,none⟩)) (.ptr t o)|aZ (t:Nat) (e:TypeId) (i:Int) (o b n c:Nat) (inf:TypeInfo):D t→P.info? e=some inf→β t=.slice (some ⟨b,0,none⟩) n c→RV P S w β D (.pointer (some ⟨b,i.toNat*inf.size+o,none⟩)) (.aZ t e i o)|sub (v:Value) (t:Nat) (e:TypeId) (lo hi:Nat) (inf:TypeInfo) (A A1:Option Addr) (n c:Nat):D t→P.info? e=some inf→β t=.slice A n c→lo≤hi→hi≤n→n≤c→(lo=0→A1=A)→(c≠lo→A1=A.map (·.add (lo*inf.size)))→v=.slice A1 (hi-lo) (c-lo)→RV P S w β D v (.sub t e lo hi)|rp (ad:Addr) (cs:List PV) (us:Nat→Value):S ad.block→(∀j,j<cs.length→w.cell? (ad.add j)=some (us j))→(∀(j:Nat) (p:PV),cs[j]?=some p→(us j).oneCell'=true)→(∀(j:Nat) (p:PV),cs[j]?=some p→cZ S w (us j) p)→RV P S w β D (.pointer (some ad)) (.rp cs)|agg (cs:List AV) (us:List Value):us.length=cs.length→(∀(i:Nat) (c:AV) (u:Value),cs[i]?=some c→us[i]?=some u→RV P S w β D u c)→RV P S w β D (.agg us.toArray) (.agg cs)|aJ (vs:List AV) (us:List Value):us.length=vs.length→(∀(i:Nat) (c:AV) (u:Value),vs[i]?=some c→us[i]?=some u→RV P S w β D u c)→RV P S w β D (.tuple us.toArray) (.aJ vs)|bo (f:FuncId) (cs:List AV) (us:List Value):us.length=cs.length→(∀(i:Nat) (c:AV) (u:Value),cs[i]?=some c→us[i]?=some u→RV P S w β D u c)→RV P S w β D (.func (.func f) #[] us.toArray) (.bo f cs)|bY (g:Bool) (v:Value) (av:AV):(g=true→RV P S w β D v av)→(g=false→v=undef)→RV P S w β D v (.bY g av)|au (v:Value):RV P S w β D v .au
def fV (s:Nat) (es:List (PV×AV)):Prop:=∀e∈es,dk e.1=s
def getM (k:PV):List (PV×AV)→Option AV|[]=>none|e::l=>if mm k e.1=true then some e.2 else getM k l
def iY (k:PV) (v:AV):List (PV×AV)→List (PV×AV)|[]=>[(k,v)]|e::l=>if mm k e.1=true then(k,v)::l else e::iY k v l
def HM:Value→AV|.agg cs=>.agg (cs.toList.map cv)|v=>cv v
def bj (P:Program) (S:Nat→Prop) (w:World) (β:Nat→Value) (D:Nat→Prop) (t:Nat):AO→Prop|.box cs=>∃b us ty,β t=.pointer (some ⟨b,0,none⟩)∧w.heap[b]?=some (.cells us ty (0,0))∧us.size=cs.length∧∀(i:Nat) (c:AV) (u:Value),cs[i]?=some c→us[i]?=some u→u.oneCell'=true∧RV P S w β D u c|.arr e rows=>∃inf us,P.info? e=some inf∧w.ownsRow 0 e inf.size (β t) rows.length us∧(∀r,r∈rows→r.length=inf.size)∧∀(i j:Nat) (r:List PV) (p:PV),rows[i]?=some r→r[j]?=some p→∃u,us[i*inf.size+j]?=some u∧u.oneCell'=true∧cZ S w u p|.map es=>∃(b:Nat) (us:Array MapEntry) (c:Nat),β t=.map (some b)∧w.heap[b]?=some (.map us c)∧us.toList.length=es.length∧∀(i:Nat) (e:PV×AV) (u:MapEntry),es[i]?=some e→us.toList[i]?=some u→u.key=bR e.1∧RV P S w β (fun _=>False) u.val e.2|.rws e cs=>∃inf us,P.info? e=some inf∧inf.size=1∧w.ownsRow 0 e inf.size (β t) cs.length us∧∀(i:Nat) (c:AV) (u:Value),cs[i]?=some c→us[i]?=some u→u.oneCell'=true∧RV P S w β D u c|.gY es=>∃(b:Nat) (us:Array MapEntry) (c:Nat),β t=.map (some b)∧w.heap[b]?=some (.map us c)∧MapKept.Stamped us c∧us.toList.length=es.length∧∀(i:Nat) (e:PV×PV) (u:MapEntry),es[i]?=some e→us.toList[i]?=some u→u.key=bR e.1∧dk e.1<99∧u.val.oneCell'=true∧cZ S w u.val e.2|.nk rem cur=>∃(r m:Nat) (us:Array MapEntry) (c:Nat) (seen:Array Nat),β t=.pointer (some ⟨r,0,none⟩)∧w.heap[r]?=some (.mapIter (some m) c seen c)∧S m∧w.heap[m]?=some (.map us c)∧MapKept.Stamped us c∧(leftOf us seen).toList.length=rem.length∧(∀(i:Nat) (e:PV×PV) (u:MapEntry),rem[i]?=some e→(leftOf us seen).toList[i]?=some u→u.key=bR e.1∧dk e.1<99∧u.val.oneCell'=true∧cZ S w u.val e.2)∧∀e,cur=some e→∃(u:MapEntry) (seen':Array Nat),seen=seen'.push u.born∧u∈us.toList∧u.key=bR e.1∧dk e.1<99∧u.val.oneCell'=true∧cZ S w u.val e.2
def ay {α:Type} (aa:Nat→Option α) (t:Nat):Prop:=∃o,aa t=some o
def live (β:Nat→Value) (aa:Nat→Option AO) (b:Nat):Prop:=∃t o,aa t=some o∧b9 (β t)=some b
def aS (S0:Nat→Prop) (n0:Nat) (β:Nat→Value) (aa:Nat→Option AO) (w:World) (b:Nat):Prop:=(S0 b∨n0≤b)∧b<w.heap.size∧¬live β aa b
structure Heap (P:Program) (S:Nat→Prop) (w:World) (β:Nat→Value) (aa:Nat→Option AO):Prop where
 holds:∀t o,aa t=some o→bj P S w β (ay aa) t o
 inj:∀t t' b,ay aa t→ay aa t'→b9 (β t)=some b→b9 (β t')=some b→t=t'
structure yG (L:Nat→Prop) (w w':World):Prop where
 os:w'.os=w.os
 tape:w'.tape=w.tape
 output:w'.output=w.output
 size:w.heap.size≤w'.heap.size
 block:∀b,b<w.heap.size→¬L b→w'.heap[b]?=w.heap[b]?
def EU (P:Program) (t:TypeId):Bool:=P.cutTypes.toList.any fun c=>c.2==t||P.underlyingId c.2==t
def QZ (P:Program):Bool:=P.follows .mixedOrders&&(List.range P.types.size).all fun t=>EU P t||!P.stoodInHeld t
theorem Lu {P:Program} (h:QZ P=true):P.follows .mixedOrders=true:=(Bool.and_eq_true_iff.1 h).1
theorem KV {P:Program} (h:QZ P=true) (t:TypeId) (ht:t<P.types.size∧EU P t=false):P.stoodInHeld t=false:=by simpa[ht.2]using List.all_eq_true.1 (Bool.and_eq_true_iff.1 h).2 t (List.mem_range.2 ht.1)
structure Rel (P:Program) (S0:Nat→Prop) (L:Nat→Prop) (B0:Nat→Value) (w0:World) (N:Nat) (st:St) (a:Act) (w:World) (β:Nat→Value):Prop where
 size:a.tmps.size=N
 defers:a.defers=[]
 vars:∀s,RV P (aS S0 w0.heap.size β st.aa w) w β (ay st.aa) (a.tmps.getD s undef) (st.vars s)
 heap:Heap P (aS S0 w0.heap.size β st.aa w) w β st.aa
 old:∀t b,ay st.aa t→b9 (β t)=some b→w0.heap.size≤b∨L b
 pY:N≤998∧∀t,t<P.types.size∧EU P t=false→P.stoodInHeld t=false
 uI:∀t,t%1000=999→ay st.aa t→β t=B0 t
 bK:yG L w0 w
def bD:AV→Nat→Option AV|.agg cs,j=>cs[j]?|v,j=>if j=0 then some v else none
def cellAt:AV→Nat→Option AV|.aJ vs,p=>(vs[p%1000]?).bind fun v=>bD v (p/1000)|v,p=>if p%1000=0 then bD v (p/1000) else none
def fF (g:Nat→AV→AV) (j:Nat):List AV→List AV|[]=>[]|c::cs=>g (1000*j) c::fF g (j+1) cs
def mO (g:Nat→AV→AV):AV→AV|.agg cs=>.agg (fF g 0 cs)|v=>g 0 v
def iI (g:Nat→AV→AV) (i:Nat):List AV→List AV|[]=>[]|v::vs=>mO (fun p c=>g (p+i) c) v::iI g (i+1) vs
def cI (g:Nat→AV→AV):AV→AV|.aJ vs=>.aJ (iI g 0 vs)|v=>mO g v
def kW (d:Nat) (p:Nat):AV→AV|.fr _ _=>.own (d+1000*p)|v=>v
def FQ (p:Nat):AV→AV|.fr _ _=>.own p|v=>v
def dm:Option AV→Option AO|some (.fr e rows)=>some (.arr e rows)|_=>none
def fK (j:Nat):List AV→List (Nat×AO)|[]=>[]|.fr e rows::cs=>(1000*j,.arr e rows)::fK (j+1) cs|_::cs=>fK (j+1) cs
def lg:AV→List (Nat×AO)|.agg cs=>fK 0 cs|.fr e rows=>[(0,.arr e rows)]|_=>[]
def lP (i:Nat):List AV→List (Nat×AO)|[]=>[]|v::vs=>(lg v).map (fun x=>(x.1+i,x.2))++lP (i+1) vs
def AN:AV→List (Nat×AO)|.aJ vs=>lP 0 vs|v=>lg v
def gR:PV→Bool|.int _ _|.bool _|.str _|.nil|.val _=>true|.ro rows=>rows.isEmpty|.mp _|.mv _|.pt _=>false
def bz (rows:List (List PV)):Prop:=∀r∈rows,∀p∈r,gR p=true
def mY:AV→Prop|.pv p=>gR p=true|.fr _ rows=>bz rows|_=>False
def oU:List AV→Prop|[]=>True|c::cs=>mY c∧oU cs
def kE:AV→Prop|.agg cs=>oU cs|v=>mY v
def rC:List AV→Prop|[]=>True|c::cs=>kE c∧rC cs
def flat:AV→Prop|.aJ vs=>rC vs|v=>kE v
def bn (f g:Nat→Option AO):Nat→Option AO:=fun t=>match f t with|some o=>some o|none=>g t
def rT (P:Program) (f:FuncId) (hin:List (Nat×AO)) (args:List AV) (hout:List (Nat×AO)) (r:AV):Prop:=∀(w:World) (S0:Nat→Prop) (β:Nat→Value) (vals:List Value),(∀b,S0 b→b<w.heap.size)→(∀t b,ay (ab hin) t→b9 (β t)=some b→b<w.heap.size)→Heap P (aS S0 w.heap.size β (ab hin) w) w β (ab hin)→vals.length=args.length→(∀(i:Nat) (v:Value) (x:AV),vals[i]?=some v→args[i]?=some x→RV P (aS S0 w.heap.size β (ab hin) w) w β (ay (ab hin)) v x)→Calls P f vals.toArray w fun e w'=>∃v β',e=.returned v∧yG (live β (ab hin)) w w'∧Heap P (aS S0 w.heap.size β' (bn (ab hout) fun t=>dm (cellAt r t)) w') w' β' (bn (ab hout) fun t=>dm (cellAt r t))∧(∀t b,ay (bn (ab hout) fun t=>dm (cellAt r t)) t→b9 (β' t)=some b→w.heap.size≤b∨live β (ab hin) b)∧RV P (aS S0 w.heap.size β' (bn (ab hout) fun t=>dm (cellAt r t)) w') w' β' (ay (bn (ab hout) fun t=>dm (cellAt r t))) v (cI FQ r)
def FO:AV→AV|.fr _ _=>.own 998|.aJ [.fr _ _]=>.own 999|x=>x
def lI:List AV→List (Nat×AO)|[]=>[]|.fr e rows::_=>[(998,.arr e rows)]|.aJ [.fr e rows]::_=>[(999,.arr e rows)]|_::l=>lI l
def bS:AV→AV|.bo _ [r,.fr _ _]=>r|r=>r
def dW:AV→List (Nat×AO)|.bo _ [_,.fr e rows]=>[(999,.arr e rows)]|_=>[]
def A9 (P:Program) (f:FuncId) (ys:List AV) (x:AV):Prop:=∀(w:World) (S0:Nat→Prop) (β:Nat→Value) (vals:List Value),(∀b,S0 b→b<w.heap.size)→(∀t b,ay (ab (lI ys)) t→b9 (β t)=some b→b<w.heap.size)→Heap P (aS S0 w.heap.size β (ab (lI ys)) w) w β (ab (lI ys))→vals.length=ys.length→(∀(i:Nat) (v:Value) (x:AV),vals[i]?=some v→(ys.map FO)[i]?=some x→RV P (aS S0 w.heap.size β (ab (lI ys)) w) w β (ay (ab (lI ys))) v x)→Calls P f vals.toArray w fun e w'=>∃v β',e=.returned v∧yG (live β (ab (lI ys))) w w'∧Heap P (aS (fun b=>S0 b∨live β (ab (lI ys)) b) w.heap.size β' (bn (ab (dW x)) fun t=>dm (cellAt (bS x) t)) w') w' β' (bn (ab (dW x)) fun t=>dm (cellAt (bS x) t))∧(∀t b,ay (bn (ab (dW x)) fun t=>dm (cellAt (bS x) t)) t→b9 (β' t)=some b→w.heap.size≤b∨live β (ab (lI ys)) b)∧(∀t,ay (ab (dW x)) t→ay (ab (lI ys)) t∧β' t=β t)∧RV P (aS (fun b=>S0 b∨live β (ab (lI ys)) b) w.heap.size β' (bn (ab (dW x)) fun t=>dm (cellAt (bS x) t)) w') w' β' (ay (bn (ab (dW x)) fun t=>dm (cellAt (bS x) t))) v (cI FQ (bS x))
inductive HT (P:Program) (S:Nat→Prop) (w:World):Value→AV→List Nat→Prop|leaf (v:Value) (y:AV):RV P S w (fun _=>undef) (fun _=>False) v y→HT P S w v y []|fr (v:Value) (e:TypeId) (rows:List (List PV)) (inf:TypeInfo) (us:List Value):P.info? e=some inf→w.ownsRow 0 e inf.size v rows.length us→(∀r,r∈rows→r.length=inf.size)→(∀(i j:Nat) (r:List PV) (p:PV),rows[i]?=some r→r[j]?=some p→∃u,us[i*inf.size+j]?=some u∧u.oneCell'=true∧cZ S w u p)→HT P S w v (.fr e rows) (b9 v).toList|mf (b:Nat) (us:Array MapEntry) (c:Nat) (es:List (PV×PV)):w.heap[b]?=some (.map us c)→MapKept.Stamped us c→us.toList.length=es.length→(∀(i:Nat) (e:PV×PV) (u:MapEntry),es[i]?=some e→us.toList[i]?=some u→u.key=bR e.1∧dk e.1<99∧u.val.oneCell'=true∧cZ S w u.val e.2)→HT P S w (.map (some b)) (.mf es) [b]|bx (b:Nat) (us:Array Value) (ty:TypeId) (cs:List AV) (bss:List (List Nat)):w.heap[b]?=some (.cells us ty (0,0))→us.size=cs.length→bss.length=cs.length→(∀(i:Nat) (u:Value),us[i]?=some u→u.oneCell'=true)→(∀(i:Nat) (c:AV) (u:Value) (bs:List Nat),cs[i]?=some c→us[i]?=some u→bss[i]?=some bs→HT P S w u c bs)→HT P S w (.pointer (some ⟨b,0,none⟩)) (.bx cs) (b::bss.flatten)|agg (us:List Value) (cs:List AV) (bss:List (List Nat)):us.length=cs.length→bss.length=cs.length→(∀(i:Nat) (c:AV) (u:Value) (bs:List Nat),cs[i]?=some c→us[i]?=some u→bss[i]?=some bs→HT P S w u c bs)→HT P S w (.agg us.toArray) (.agg cs) bss.flatten|aJ (us:List Value) (cs:List AV) (bss:List (List Nat)):us.length=cs.length→bss.length=cs.length→(∀(i:Nat) (c:AV) (u:Value) (bs:List Nat),cs[i]?=some c→us[i]?=some u→bss[i]?=some bs→HT P S w u c bs)→HT P S w (.tuple us.toArray) (.aJ cs) bss.flatten
def E2 (P:Program) (S:Nat→Prop) (w:World) (vs:List Value) (ys:List AV) (bss:List (List Nat)):Prop:=vs.length=ys.length∧bss.length=ys.length∧∀(i:Nat) (y:AV) (v:Value) (bs:List Nat),ys[i]?=some y→vs[i]?=some v→bss[i]?=some bs→HT P S w v y bs
def IA:AV→AV|.aJ [y]=>y|y=>y
def HQ:AV→Bool|.aJ [_]=>true|_=>false
def eg {α:Type}:List AV→List α→List α|y::ys,v::vs=>if HQ y=true then v::eg ys vs else eg ys vs|_,_=>[]
def kg:AV→AV|.bo _ (r::_)=>r|r=>r
def lf:AV→List AV|.bo _ (_::os)=>os|_=>[]
def Bv (P:Program) (f:FuncId) (ys:List AV) (x:AV):Prop:=∀(w:World) (S0:Nat→Prop) (vals:List Value) (bss:List (List Nat)),(∀b,S0 b→b<w.heap.size∧b∉bss.flatten)→bss.flatten.Nodup→E2 P S0 w vals (ys.map IA) bss→Calls P f vals.toArray w fun e w'=>∃v bss',e=.returned v∧yG (·∈bss.flatten) w w'∧bss'.flatten.Nodup∧(∀b∈bss'.flatten,w.heap.size≤b∨b∈bss.flatten)∧E2 P (fun b=>(S0 b∨b∈bss.flatten∨w.heap.size≤b)∧b<w'.heap.size∧b∉bss'.flatten) w' (eg ys vals++[v]) (lf x++[kg x]) bss'
def Ck:AV→Bool|.agg []=>true|_=>false
def vY:Value→Bool|.agg cs=>cs.isEmpty|_=>false
def Dn:Option AO→Option PV|some (.arr _ rows)=>some (.ro rows)|some (.map es)=>if es.all (fun e=>Ck e.2)=true then some (.mp (es.map (·.1))) else none|some (.gY es)=>some (.mv es)|_=>none
def eA (aa:Nat→Option AO):AV→Option PV|.pv .nil=>some (.ro [])|.pv p=>some p|.own t=>Dn (aa t)|.sub t e lo hi=>(cM (aa t)).bind fun r=>if r.1=e then some (.ro ((r.2.take hi).drop lo)) else none|_=>none
def gO (aa:Nat→Option AO):List AV→Option (List PV)|[]=>some []|c::cs=>(eA aa c).bind fun p=>(gO aa cs).map (p::·)
def eW (aa:Nat→Option AO):AV→Option AV|.ptr t o=>(eK (aa t)).bind fun cs=>(gO aa (cs.drop o)).map .rp|.rp cs=>some (.rp cs)|.agg cs=>(gO aa cs).map fun ps=>.agg (ps.map .pv)|.bo f []=>some (.bo f [])|v=>(eA aa v).map .pv
def kP (aa:Nat→Option AO):List AV→Option (List AV)|[]=>some []|c::cs=>(eW aa c).bind fun p=>(kP aa cs).map (p::·)
def oL (aa:Nat→Option AO):AV→Option AV|.bo f caps=>(kP aa caps).map (.bo f)|v=>eW aa v
def ft (aa:Nat→Option AO):List AV→Option (List AV)|[]=>some []|c::cs=>(oL aa c).bind fun p=>(ft aa cs).map (p::·)
def gw:AV→Bool|.pv _|.rp _=>true|_=>false
def gF:List AV→Bool|[]=>true|c::cs=>gw c&&gF cs
def ed:AV→Bool|.agg cs=>gF cs|.bo _ cs=>gF cs|v=>gw v
def eE:List AV→Bool|[]=>true|c::cs=>ed c&&eE cs
def RR:Option AO→Option AV|some (.arr e rows)=>some (.fr e rows)|some (.gY es)=>some (.mf es)|_=>none
def E7 (f:AV→Option (AV×List Nat)):List AV→Option (List AV×List Nat)|[]=>some ([],[])|c::cs=>(f c).bind fun r=>(E7 f cs).map fun q=>(r.1::q.1,r.2++q.2)
def rd:Nat→(Nat→Option AO)→AV→Option (AV×List Nat)|0,_,_=>none|n+1,aa,x=>match x with|.own t=>(RR (aa t)).map fun y=>(y,[t])|.ptr t 0=>(eK (aa t)).bind fun cs=>(E7 (rd n aa) cs).map fun r=>(.bx r.1,t::r.2)|.agg cs=>(E7 (rd n aa) cs).map fun r=>(.agg r.1,r.2)|.pv p=>some (.pv p,[])|.rp cs=>some (.rp cs,[])|.bo f []=>some (.bo f [],[])|_=>none
def tk:Bool→List Nat×List Nat→Option (Nat×List Nat×List Nat)|true,(p::ps,us)=>some (p,ps,us)|false,(ps,u::us)=>some (u,ps,us)|_,_=>none
def nK (f:AV→List Nat×List Nat→Option (AV×List (Nat×AO)×List Nat×List Nat)):List AV→List Nat×List Nat→Option (List AV×List (Nat×AO)×List Nat×List Nat)|[],s=>some ([],[],s)|c::cs,s=>(f c s).bind fun r=>(nK f cs r.2.2).map fun q=>(r.1::q.1,r.2.1++q.2.1,q.2.2)
def num:Nat→Bool→AV→List Nat×List Nat→Option (AV×List (Nat×AO)×List Nat×List Nat)|0,_,_,_=>none|n+1,top,y,s=>match y with|.fr e rows=>(tk top s).map fun q=>(.own q.1,[(q.1,.arr e rows)],q.2)|.mf es=>(tk top s).map fun q=>(.own q.1,[(q.1,.gY es)],q.2)|.bx cs=>(tk top s).bind fun q=>(nK (num n false) cs q.2).map fun r=>(.ptr q.1 0,(q.1,.box r.1)::r.2.1,r.2.2)|.agg cs=>(nK (num n top) cs s).map fun r=>(.agg r.1,r.2)|.aJ cs=>(nK (num n top) cs s).map fun r=>(.aJ r.1,r.2)|.pv p=>some (.pv p,[],s)|.rp cs=>some (.rp cs,[],s)|.bo f caps=>if gF caps=true then some (.bo f caps,[],s) else none|_=>none
def rP:AV→List Nat|.own t=>[t]|.ptr t 0=>[t]|_=>[]
def rM:AV→List Nat|.agg cs=>cs.flatMap rP|x=>rP x
def ec (W:List Nat):AV→AV|.own t=>if W.contains t then .au else .own t|.ptr t o=>if W.contains t then .au else .ptr t o|.aZ t e i o=>if W.contains t then .au else .aZ t e i o|.sub t e lo hi=>if W.contains t then .au else .sub t e lo hi|.pv p=>.pv p|.rp cs=>.rp cs|.bo f []=>.bo f []|_=>.au
def iz (W:List Nat):AV→AV|.agg cs=>.agg (cs.map (ec W))|v=>ec W v
def kO (W:List Nat):AV→AV|.aJ cs=>.aJ (cs.map (iz W))|.bo f cs=>.bo f (cs.map (iz W))|.bY g v=>.bY g (kO W v)|v=>iz W v
def eT (W:List Nat) (v:AV):AV:=if W.isEmpty=true then v else kO W v
def xS (W:List Nat):AO→AO|.box cs=>.box (cs.map (ec W))|.rws e cs=>.rws e (cs.map (ec W))|o=>o
def jj (W:List Nat) (o:AO):AO:=if W.isEmpty=true then o else xS W o
def gM (W:List Nat) (f:Nat→AV):Nat→AV:=fun s=>eT W (f s)
def eL (T W:List Nat) (f:Nat→Option AO):Nat→Option AO:=fun t=>if T.contains t then none else(f t).map (jj W)
def Bd (aa objs':Nat→Option AO) (T:List Nat):List Nat→List AV→Option (List AV)|[],[]=>some []|k::ks,x::xs=>(if k=0 then oL objs' (eT T x) else if k=1 then(rd 5 aa x).map (·.1) else(rd 5 aa x).map fun r=>.aJ [r.1]).bind fun y=>(Bd aa objs' T ks xs).map (y::·)|_,_=>none
def eF (aa:Nat→Option AO):List Nat→List AV→List Nat|k::ks,x::xs=>(if k=0 then[] else((rd 5 aa x).map (·.2)).getD [])++eF aa ks xs|_,_=>[]
def dZ:List Nat→List AV→List AV|k::ks,x::xs=>if 1<k then x::dZ ks xs else dZ ks xs|_,_=>[]
def ej (T:List Nat):List Nat→List AV→Bool|k::ks,x::xs=>(k !=0||ed (eT T x))&&ej T ks xs|_,_=>true
def fI:Nat→AV→Prop|0,_=>False|n+1,y=>match y with|.fr _ rows=>bz rows|.mf es=>∀e∈es,gR e.2=true|.bx cs|.agg cs|.aJ cs=>∀c∈cs,fI n c|.pv p=>gR p=true|.bo _ []=>True|_=>False
def aM (d:Nat) (r:AV):List (Nat×AO):=(AN r).map fun x=>(d+1000*x.1,x.2)
def bL {α:Type} (l:List α) (o:Nat) (ps:List α):List α:=l.take o++ps++l.drop (o+ps.length)
def bW (t:Nat):AV→AV|.own s=>if s=t then .au else .own s|.aZ s e i o=>if s=t then .au else .aZ s e i o|.sub s e i o=>if s=t then .au else .sub s e i o|.pv p=>.pv p|.ptr s o=>.ptr s o|.rp cs=>.rp cs|.bo f []=>.bo f []|_=>.au
def bP (t:Nat):List AV→List AV|[]=>[]|c::cs=>bW t c::bP t cs
def kill (t:Nat):AV→AV|.agg cs=>.agg (bP t cs)|.aJ cs=>.aJ (bP t cs)|.bY g v=>.bY g (kill t v)|v=>bW t v
def dJ (t:Nat):AO→AO|.box cs=>.box (bP t cs)|.rws e cs=>.rws e (bP t cs)|o=>o
def cr (t:Nat) (f:Nat→AV):Nat→AV:=fun s=>kill t (f s)
def dt (t:Nat) (f:Nat→Option AO):Nat→Option AO:=fun s=>(f s).map (dJ t)
def ct (k:AK) (d:Nat) (xs:List AV) (aa:Nat→Option AO):Option (Prop×AV×AO):=match k,xs with|.gK e,_=>some (True,.own d,.arr e [])|.box,[x]=>if ff (cellsOf x) then some (True,.ptr d 0,.box (cellsOf x)) else none|.alloc zs,_=>if zs.all (·.oneCell') then some (True,.ptr d 0,.box (zs.map cv)) else none|.rG e sz,xs=>(rowsOf xs).map fun rows=>(∀r∈rows,r.length=sz,.own d,.arr e rows)|.app e sz bytes,[.pv .nil,x]=>(cG aa x).map fun rows=>(rows.length*bytes≤140737488355328∧rows.length≤maxLen∧(∀r∈rows,r.length=sz),.own d,.arr e rows)|_,_=>none
def eB (k:AK) (xs:List AV) (aa:Nat→Option AO):Option (Prop×Nat×AO):=match k,xs with|.store none,[.ptr t o,v]=>(eK (aa t)).bind fun cs=>if ef v∧o<cs.length then some (True,t,.box (cs.set o v)) else none|.store (some n),[.ptr t o,.agg vs]=>(eK (aa t)).bind fun cs=>if ff vs∧vs.length=n∧o+n≤cs.length then some (True,t,.box (bL cs o vs)) else none|.store none,[.aZ t e i o,.pv p]=>(cM (aa t)).bind fun r=>if r.1=e∧o<(rowAt r.2 i).length∧ef (.pv p) then some (0≤i∧i<r.2.length,t,.arr e (r.2.set i.toNat ((rowAt r.2 i).set o p))) else none|.store (some n),[.aZ t e i o,.agg vs]=>(cM (aa t)).bind fun r=>(eQ vs).bind fun ps=>if r.1=e∧ff vs∧ps.length=n∧o+n≤(rowAt r.2 i).length then some (0≤i∧i<r.2.length,t,.arr e (r.2.set i.toNat (bL (rowAt r.2 i) o ps))) else none|.app e sz bytes,[.own t,x]=>(cM (aa t)).bind fun r=>(cG aa x).bind fun more=>if r.1=e∧t%1000≠999 then some ((r.2.length+more.length)*bytes≤140737488355328∧r.2.length+more.length≤maxLen∧(∀r∈more,r.length=sz),t,.arr e (r.2++more)) else none|_,_=>none
def ai {α:Type} (o:Option α) (K:α→Prop):Prop:=match o with|some x=>K x|none=>False
def pC (φ ψ:Prop) (c:Bool):AV→AV→Option (Prop×AV)|.pv (.bool x),.pv (.bool y)=>some ((c=true→φ)∧(c=false→ψ),.pv (.bool (cond c x y)))|.pv (.bool x),_=>some (c=true∧φ,.pv (.bool x))|_,.pv (.bool y)=>some (c=false∧ψ,.pv (.bool y))|_,_=>none
def iW:AV→Option Bool|.pv (.bool c)=>some c|_=>none
def tE:List AV→Option (Prop×AV)|[c,a,b]=>(iW (strip c)).bind fun g=>(pC (asks a) (asks b) g (strip a) (strip b)).map fun r=>(asks c∧r.1,r.2)|_=>none
def bp (os:List (Nat×AO)) (aa:Nat→Option AO):Nat→Option AO:=fun t=>match ab os t with|some o=>some o|none=>aa t
inductive bA where|put (v:AV)|new (v:AV) (os:List (Nat×AO))|vq (t:Nat) (o:AO)|app (t:Nat) (o:AO)
def bA.on (d:Option Nat):bA→St→St|.put v,st=>⟨Ab.put d v st.vars,st.aa⟩|.new v os,st=>⟨Ab.put d v st.vars,bp os st.aa⟩|.vq t o,st=>⟨Ab.put d .au st.vars,aL t o st.aa⟩|.app t o,st=>⟨Ab.put d (.own t) (cr t st.vars),aL t o (dt t st.aa)⟩
def oJ:List AV→Bool|.own _::_=>true|_=>false
def nU:AV→Bool|.aJ vs=>decide (vs.length≤1000)|_=>true
def iA:AV→Bool|.pv _|.rp _|.fr _ _=>true|_=>false
def lD:List AV→Bool|[]=>true|c::cs=>iA c&&lD cs
def lZ:AV→Bool|.agg cs=>lD cs|v=>iA v
def qM:List AV→Bool|[]=>true|c::cs=>lZ c&&qM cs
def cP:AV→Bool|.aJ vs=>decide (vs.length≤900)&&qM vs|v=>lZ v
def Gq:AV→Bool
 |.bx _|.mf _=>true|.agg cs=>cs.any fun c=>match c with|.bx _|.mf _=>true|_=>false
 |_=>false
def nZ:AV→Bool|.aJ vs=>vs.any Gq|v=>Gq v
def jX (d:Nat):List Nat:=[d,d+1000,d+2000,d+3000,d+4000,d+5000,d+6000,d+7000]
def qS (r:AV):Prop:=if nZ r=true then fI 5 r else flat r
def jZ (d:Nat) (r:AV):List (Nat×AO):=if nZ r=true then(((num 5 false r ([],jX d)).map (·.2.1)).getD []) else aM d r
def yK (d:Nat) (r:AV):AV:=if nZ r=true then(((num 5 false r ([],jX d)).map (·.1)).getD .au) else cI (kW d) r
def yS (d:Nat) (r:AV):Bool:=if nZ r=true then(num 5 false r ([],jX d)).isSome else cP r
def PW (P:Program) (f:FuncId) (ys:List AV) (r:AV):Prop:=(nZ r=true→Bv P f ys (.bo 0 [r]))∧(nZ r=false→rT P f [] ys [] r)
abbrev bJ:=FuncId→List AV→Option (Prop×AV)
def dL (P:Program) (Γ:bJ):Prop:=∀f ys φ r,Γ f ys=some (φ,r)→φ→(f<1000000∧rT P f [] ys [] r)∨(P.funcs.size≤1000000∧1000000≤f∧f<2000000∧(ys=[.au]∨A9 P (f-1000000) ys r))∨(P.funcs.size≤1000000∧2000000≤f∧f<3000000∧(ys=[.au]∨Bv P (f-2000000) ys r))∨(P.funcs.size≤1000000∧3000000≤f∧Bv P (f-3000000) ys (.bo 0 [r]))
def Rj:Option (Prop×AV)→Option (Prop×AV)→Option (Prop×AV)|some x,_=>some (x.1∧nZ x.2=false,x.2)|none,y=>y.map fun x=>(x.1∧nZ x.2=true,x.2)
def gt (Γ:bJ) (f:FuncId) (ys:List AV):Option (Prop×AV):=Rj (Γ f ys) (Γ (f+3000000) ys)
theorem no3 {n f:Nat} (h:3000000≤f) (hn:n≤1000000):¬f<n:=by omega
theorem dL.con {P:Program}{Γ:bJ} (h:dL P Γ) {f:FuncId} (hf:f<P.funcs.size) {ys:List AV}{φ:Prop}{r:AV} (hr:gt Γ f ys=some (φ,r)) (hφ:φ):PW P f ys r:=by unfold gt at hr;cases hg:Γ f ys with
 |some x=>
  rw[hg]at hr;have hr:some (x.1∧nZ x.2=false,x.2)=some (φ,r):=hr;simp only[Option.some.injEq,Prod.mk.injEq]at hr;obtain⟨rfl,rfl⟩:=hr;refine⟨fun e=>absurd (hφ.2.symm.trans e) Bool.false_ne_true,fun _=>?_⟩;rcases h f ys x.1 x.2 hg hφ.1 with⟨_,h⟩|⟨h,h2,_⟩|⟨h,h2,_⟩|⟨h,h2,_⟩;·exact h
  ·exact absurd hf (Nat.not_lt.2 (Nat.le_trans h h2))
  ·exact absurd hf (Nat.not_lt.2 (Nat.le_trans h (Nat.le_trans (by decide) h2)))
  ·exact absurd hf (no3 h2 h)|none=>
  rw[hg]at hr;obtain⟨x,hx,hr⟩:=Option.map_eq_some_iff.1 (show(Γ (f+3000000) ys).map (fun x=>(x.1∧nZ x.2=true,x.2))=some (φ,r) from hr);simp only[Prod.mk.injEq]at hr;obtain⟨rfl,rfl⟩:=hr;refine⟨fun _=>?_,fun e=>absurd (e.symm.trans hφ.2) Bool.false_ne_true⟩;rcases h (f+3000000) ys x.1 x.2 hx hφ.1 with⟨h,_⟩|⟨_,_,h,_⟩|⟨_,_,h,_⟩|⟨_,_,h⟩;·exact absurd h (Nat.not_lt.2 (Nat.le_trans (by decide) (Nat.le_add_left 3000000 f)))
  ·exact absurd h (Nat.not_lt.2 (Nat.le_trans (by decide) (Nat.le_add_left 3000000 f)))
  ·exact absurd h (Nat.not_lt.2 (Nat.le_add_left 3000000 f))
  ·rw[show f+3000000-3000000=f from Nat.add_sub_cancel _ _]at h;exact h
def cx (P:Program) (Γ:bJ) (d:Option Nat) (f:FuncId) (xs:List AV) (aa:Nat→Option AO) (C:bA→Prop):Prop:=ai d fun d=>ak xs∧ai (ft aa (xs.map strip)) fun ys=>ai (gt Γ f ys) fun x=>x.1∧(eE (xs.map strip)=true∨qS x.2)∧(∀y∈jZ d x.2,aa y.1=none)∧yS d x.2=true∧C (.new (yK d x.2) (jZ d x.2))
def aX (P:Program) (Γ:bJ) (d:Option Nat) (k:AK) (xs:List AV) (aa:Nat→Option AO) (C:bA→Prop):Prop:=match k with|.nS=>ai xs.head? fun x=>xs.length=1∧C (.put x)|.pick=>ai (tE xs) fun x=>x.1∧C (.put x.2)|.gK _|.box|.alloc _|.rG _ _=>ai d fun d=>ak xs∧ai (ct k d (xs.map strip) aa) fun x=>x.1∧aa d=none∧C (.new x.2.1 [(d,x.2.2)])|.store _=>ak xs∧ai (eB k (xs.map strip) aa) fun x=>x.1∧C (.vq x.2.1 x.2.2)|.app _ _ _=>ak xs∧if oJ (xs.map strip) then ai (eB k (xs.map strip) aa) fun x=>x.1∧C (.app x.2.1 x.2.2) else ai d fun d=>ai (ct k d (xs.map strip) aa) fun x=>x.1∧aa d=none∧C (.new x.2.1 [(d,x.2.2)])|.call f=>cx P Γ d f xs aa C|_=>ak xs∧ai (aj k (xs.map strip) aa) fun x=>x.1∧C (.put x.2)
def Ak (Γ:bJ) (c:Bool) (f:FuncId) (xs:List AV) (aa:Nat→Option AO) (C:bA→Prop):Prop:=ai (ft aa (xs.map strip)) fun ys=>ai (gt Γ f ys) fun x=>(c=true→ak xs∧x.1)∧flat x.2∧AN x.2=[]∧cP x.2=true∧C (.put (.bY c x.2))
def LA:AV→AV|.fr _ rows=>.pv (.ro rows)|v=>v
def Kp:AV→AV|.agg cs=>.agg (cs.map LA)|v=>LA v
def Wf:AV→AV|.aJ vs=>.aJ (vs.map Kp)|v=>Kp v
def GA:Option (List (List PV))→AV|some rows=>.bY false (.pv (.ro rows))|none=>.au
def zG (xs:List AV):AV:=GA (rowsOf (xs.map strip))
def cd (P:Program) (Γ:bJ) (c:Bool) (d:Option Nat) (k:AK) (xs:List AV) (aa:Nat→Option AO) (C:bA→Prop):Prop:=match k with|.nS=>ai xs.head? fun x=>xs.length=1∧C (.put (.bY c x))|.pick=>ai (tE xs) fun x=>(c=true→x.1)∧C (.put (.bY c x.2))|.rG _ _=>(c=true→aX P Γ d k xs aa C)∧(c=false→C (.put (zG xs)))|.gK _|.box|.alloc _|.store _|.app _ _ _=>(c=true→aX P Γ d k xs aa C)∧(c=false→C (.put .au))|.call f=>ai (ft aa (xs.map strip)) fun ys=>ai (gt Γ f ys) fun x=>if(!nZ x.2&&(AN x.2).isEmpty)=true then(c=true→ak xs∧x.1)∧flat x.2∧AN x.2=[]∧cP x.2=true∧C (.put (.bY c x.2)) else(c=true→aX P Γ d k xs aa C)∧(c=false→C (.put (.bY false (Wf x.2))))|_=>ai (aj k (xs.map strip) aa) fun x=>(c=true→ak xs∧x.1)∧C (.put (.bY c x.2))
def sV:Bool→Option Bool→Option Bool|false,_=>some false|true,o=>o
def bE:AV→Bool→Option Bool|.pv (.bool b),want=>some (if want then b else !b)|.bY c v,want=>sV c (bE v want)|_,_=>none
def jy (un:List Nat) (t:Nat):Prop:=un.contains (t%1000)=false
def uO (un:List Nat):AV→Prop|.own t|.ptr t _|.aZ t _ _ _|.sub t _ _ _=>jy un t|_=>True
def gL (un:List Nat):List AV→Prop|[]=>True|c::cs=>uO un c∧gL un cs
def nu (un:List Nat) (aa:Nat→Option AO):AV→Prop|.ptr t _=>jy un t∧gL un ((eK (aa t)).getD [])|.agg cs=>gL un cs|v=>uO un v
def kL (un:List Nat) (aa:Nat→Option AO):List AV→Prop|[]=>True|c::cs=>nu un aa c∧kL un aa cs
def qO (un:List Nat) (aa:Nat→Option AO):AV→Prop|.bo _ cs=>kL un aa cs|v=>nu un aa v
def jE (un:List Nat) (aa:Nat→Option AO):List AV→Prop|[]=>True|c::cs=>qO un aa c∧jE un aa cs
def sM:Option Nat→bA→Prop|none,_=>True|some s,.vq t _=>t=s|some _,_=>False
def kH (un:List Nat):bA→Prop|.app t _=>un.contains (t%1000+1000)=false|_=>True
def A7 (un:List Nat) (tg:Option Nat) (e:bA):Prop:=sM tg e∧kH un e
def dI (P:Program) (Γ:bJ) (i:AI) (vars:Nat→AV) (aa:Nat→Option AO) (C:bA→Prop):Prop:=match i.g with|none=>aX P Γ i.d i.k (i.xs.map (ev vars)) aa C|some (s,want)=>ai (bE (vars s) want) fun c=>cd P Γ c i.d i.k (i.xs.map (ev vars)) aa C
def cR (P:Program) (Γ:bJ) (i:AI) (K:St→Prop) (st:St):Prop:=(i.un=[]∨jE i.un st.aa ((i.xs.map (ev st.vars)).map strip))∧dI P Γ i st.vars st.aa fun e=>A7 i.un i.tg e∧K (e.on i.d st)
def fo (P:Program) (f:FuncId):Bool:=match P.funcs[f]? with|some fn=>fn.name != "runtime.NumGoroutine" &&fn.body.isSome|none=>false
def kR:List AV→Option (FuncId×List AV)|.bo f caps::args=>some (f,args++caps)|.pv (.val v)::args=>(Lr v).map fun f=>(f,args)|_=>none where Lr:Value→Option FuncId|.func (.func f) ⟨[]⟩ ⟨[]⟩=>some f|_=>none
def eN:List AV→Bool|[]=>false|.au::_=>true|.pv (.val _)::_=>true|.rp []::_=>true|_::l=>eN l
def JX:Option Bool→Bool|some false=>true|_=>false
def gN:Bool→Bool→Prop→Prop→Prop|false,_,A,_=>A|true,f,A,B=>if f=true then B else A
def sh (t:Nat) (e0:TypeId) (rows:List (List PV)):AV→AV|.own s=>if s=t then .pv (.ro rows) else .own s|.sub s e lo hi=>if s=t then(if e=e0 then .pv (.ro ((rows.take hi).drop lo)) else .au) else .sub s e lo hi|v=>kill t v
def H3 (t:Nat) (e0:TypeId) (rows:List (List PV)) (f:Nat→AV):Nat→AV:=fun s=>sh t e0 rows (f s)
def fJ (t:Nat) (f:Nat→Option AO):Nat→Option AO:=fun s=>if s=t then none else(f s).map (dJ t)
def Sy (t:Nat) (e0:TypeId) (rows:List (List PV)):AV→AV|.own s=>if s=t then .pv (.ro rows) else .own s|.sub s e lo hi=>if s=t then(if e=e0 then .pv (.ro ((rows.take hi).drop lo)) else .au) else .sub s e lo hi|c=>bW t c
def rF (t:Nat) (e0:TypeId) (rows:List (List PV)):List AV→List AV|[]=>[]|c::cs=>Sy t e0 rows c::rF t e0 rows cs
def EW (t:Nat) (e0:TypeId) (rows:List (List PV)):AV→AV|.agg cs=>.agg (rF t e0 rows cs)|v=>sh t e0 rows v
def HV (t:Nat) (e0:TypeId) (rows:List (List PV)):AO→AO|.box cs=>.box (rF t e0 rows cs)|o=>dJ t o
def shW (t:Nat) (e0:TypeId) (rows:List (List PV)) (f:Nat→AV):Nat→AV:=fun s=>EW t e0 rows (f s)
def Ca (t:Nat) (e0:TypeId) (rows:List (List PV)) (f:Nat→Option AO):Nat→Option AO:=fun s=>if s=t then none else(f s).map (HV t e0 rows)
def iM (st:St):AV→St
 |.own t=>match cM (st.aa t) with|some r=>⟨shW t r.1 r.2 st.vars,Ca t r.1 r.2 st.aa⟩|none=>st
 |_=>st
def gi:St→List AV→St|st,[]=>st|st,c::cs=>gi (iM st c) cs
def share1 (st:St):AV→St|.agg cs=>gi st cs|v=>iM st v
def cz (st:St):List AV→St|[]=>st|v::l=>cz (share1 st v) l
def Bq:PV→PV|.nil=>.ro []|p=>p
def rJ:AV→AV|.pv p=>.pv (Bq p)|c=>c
def kI:List AV→List AV|[]=>[]|c::cs=>rJ c::kI cs
def tp:AV→AV|.agg cs=>.agg (kI cs)|v=>rJ v
def uz:AO→AO|.box cs=>.box (kI cs)|o=>o
def ud (st:St):St:=⟨fun s=>tp (st.vars s),fun s=>(st.aa s).map uz⟩
def rO:Option AO→Option (List (PV×PV))|some (.gY es)=>some es|_=>none
def WJ (t:Nat) (es:List (PV×PV)):AV→AV|.own s=>if s=t then .pv (.mv es) else .own s|v=>kill t v
def Ac (t:Nat) (st:St):St:=match rO (st.aa t) with|some es=>⟨fun s=>WJ t es (st.vars s),fJ t st.aa⟩|none=>st
def xZ (t:Nat) (st:St):St:=if t=999996 then ud st else if 1000000000000000≤t then Ac (t-1000000000000000) st else share1 st (.own t)
def cu:List Nat→St→St|[],st=>st|t::ts,st=>cu ts (xZ t st)
def HY:AV→Bool|.pv (.ro _)|.pv (.mp _)|.pv (.mv _)|.pv (.pt _)|.rp _=>true|_=>false
def DY:List AV→Bool|[]=>false|c::cs=>HY c||DY cs
def Tt:AV→Bool|.agg cs=>DY cs|v=>HY v
def Dk:List AV→Bool|[]=>false|c::cs=>Tt c||Dk cs
def Y7:AV→Bool|.aJ vs=>Dk vs|v=>Tt v
def sg (t:Nat) (st:St):St:=match cM (st.aa t) with|some _=>⟨cr t st.vars,fJ t st.aa⟩|none=>st
def zn (P:Program) (Γ:bJ) (d:Option Nat) (f:FuncId) (xs:List Operand) (K:St→Prop) (st:St):Prop:=cx P Γ d f (xs.map (ev st.vars)) st.aa fun e=>K (e.on d st)
def l8 (P:Program) (Γ:bJ) (i:AI) (f:FuncId) (K:St→Prop) (st:St):Prop:=ai (ft st.aa ((i.xs.map (ev st.vars)).map strip)) fun ys=>ai (gt Γ f ys) fun x=>if(Y7 x.2&&!eE ((i.xs.map (ev st.vars)).map strip))=true then zn P Γ i.d f i.xs K (cz st ((i.xs.map (ev st.vars)).map strip)) else cR P Γ i K st
def frC:AV→Bool|.pv (.ro _)|.pv (.mp _)|.pv (.mv _)|.pv (.pt _)|.rp _|.fr _ _|.bx _|.mf _=>true|_=>false
def Yr:List AV→Bool|[]=>false|c::cs=>frC c||Yr cs
def fr1:AV→Bool|.agg cs=>Yr cs|v=>frC v
def Yq:List AV→Bool|[]=>false|c::cs=>fr1 c||Yq cs
def frR:AV→Bool|.aJ vs=>Yq vs|v=>fr1 v
def pr (t:Nat):AV→Prop|.own s|.ptr s _|.aZ s _ _ _|.sub s _ _ _=>s≠t|.pv _|.rp _|.au=>True|.bo _ []=>True|_=>False
def sN (t:Nat):List AV→Prop|[]=>True|c::cs=>pr t c∧sN t cs
def tD (t:Nat):AV→Prop|.agg cs|.bo _ cs=>sN t cs|v=>pr t v
def lF (t p:Nat):List AV→Prop|[]=>True|v::vs=>(match p with|0=>nv vs|p+1=>tD t v∧lF t p vs) where nv:List AV→Prop|[]=>True|v::vs=>tD t v∧nv vs
def fp (aa:Nat→Option AO) (k:Nat):AV→Option (Nat×TypeId×List (List PV))|.own t=>(cM (aa t)).map fun r=>(t,r.1,r.2)|.sub t e 0 hi=>if k=998 then(cM (aa t)).bind fun r=>if r.1=e then some (t,e,r.2.take hi) else none else none|_=>none
def wL (k:Nat) (e:TypeId) (rows:List (List PV)):AV:=if k=998 then .fr e rows else .aJ [.fr e rows]
def qC (aa:Nat→Option AO) (m:AV):Nat→List AV→Option (List AV)|_,[]=>some []|0,_::vs=>(ft aa vs).map (m::·)|p+1,v::vs=>(oL aa v).bind fun y=>(qC aa m p vs).map (y::·)
def jo:Nat→List AV→Bool|_,[]=>true|0,_::vs=>eE vs|p+1,v::vs=>ed v&&jo p vs
def om:List (Nat×AO)→Prop|[]=>True|(_,.arr _ rows)::l=>bz rows∧om l|_::l=>om l
def cA (t:Nat) (x:AV) (aa:Nat→Option AO):Nat→Option AO:=match dW x with|(_,o)::_=>aL t o aa|[]=>fJ t aa
def gP (t:Nat) (x:AV) (vars:Nat→AV):Nat→AV:=match dW x with|_::_=>vars|[]=>cr t vars
def Cx:AV→Option (Nat×Nat)|.ptr p k=>if k=998∨k=999∨k=997∨k=996 then some (p,k) else none|_=>none
def dB (Γ:bJ) (f:FuncId):Option (Nat×Nat):=(Γ (f+1000000) [.au]).bind fun x=>Cx x.2
def kJ (P:Program) (Γ:bJ) (d:Option Nat) (f:FuncId) (xs:List AV) (p k:Nat) (K:St→Prop) (st:St):Prop:=ai d fun d=>ak xs∧ai ((xs.map strip)[p]?) fun X=>ai (fp st.aa k X) fun T=>lF T.1 p (xs.map strip)∧ai (qC (fJ T.1 st.aa) (wL k T.2.1 T.2.2) p (xs.map strip)) fun ys=>ai (Γ (f+1000000) ys) fun x=>x.1∧(jo p (xs.map strip)=true∨(flat (bS x.2)∧om (dW x.2)))∧(∀y∈aM d (bS x.2),st.aa y.1=none)∧cP (bS x.2)=true∧K ⟨put (some d) (cI (kW d) (bS x.2)) (gP T.1 x.2 st.vars),bp (aM d (bS x.2)) (cA T.1 x.2 st.aa)⟩
def rq (aa:Nat→Option AO):Nat→List AV→Option (List AV)|_,[]=>some []|0,.pv .nil::vs=>(ft aa vs).map (.pv .nil::·)|0,_::_=>none|p+1,v::vs=>(oL aa v).bind fun y=>(rq aa p vs).map (y::·)
def yJ (P:Program) (Γ:bJ) (d:Option Nat) (f:FuncId) (xs:List AV) (p:Nat) (K:St→Prop) (st:St):Prop:=ai d fun d=>ak xs∧ai (rq st.aa p (xs.map strip)) fun ys=>ai (Γ (f+1000000) ys) fun x=>x.1∧(eE (xs.map strip)=true∨flat x.2)∧(∀y∈aM d x.2,st.aa y.1=none)∧cP x.2=true∧K ⟨put (some d) (cI (kW d) x.2) st.vars,bp (aM d x.2) st.aa⟩
def OS:AV→Option (List Nat)|.rp l=>some (l.map fun p=>match p with|.int _ n=>n.toNat|_=>0)|_=>none
def iN (Γ:bJ) (f:FuncId):Option (List Nat):=(Γ (f+2000000) [.au]).bind fun x=>OS x.2
def pe (d:Nat) (T W:List Nat):List Nat:=W.filter (fun t=>t%1000 !=999)++[d,d+1000,d+2000,d+3000,d+4000,d+5000,d+6000,d+7000].filter fun t=>!T.contains t
def yl (Γ:bJ) (d f:Nat) (ks:List Nat) (xs:List AV) (T Q W:List Nat) (K:St→Prop) (st:St) (ys:List AV):Prop:=ai (Γ (f+2000000) ys) fun x=>x.1∧(ej T ks xs=true∨∀y∈lf x.2++[kg x.2],fI 5 y)∧ai (nK (num 5 true) (lf x.2) (Q,pe d T W)) fun o=>o.1=dZ ks xs∧ai (num 5 false (kg x.2) o.2.2) fun r=>(∀p∈o.2.1++r.2.1,T.contains p.1=true∨st.aa p.1=none)∧K ⟨put (some d) r.1 (gM W st.vars),bp (o.2.1++r.2.1) (eL T W st.aa)⟩
def xC (Γ:bJ) (d f:Nat) (ks:List Nat) (xs:List AV) (T Q W:List Nat) (K:St→Prop) (st:St):Prop:=Q.Nodup∧ai (Bd st.aa (eL T T st.aa) T ks xs) fun ys=>yl Γ d f ks xs T Q W K st ys
def yo (Γ:bJ) (d f:Nat) (ks:List Nat) (xs:List AV) (T Q:List Nat) (K:St→Prop) (st:St):Prop:=T.Nodup∧(∀t∈Q,t∈T)∧xC Γ d f ks xs T Q (T.filter fun t=>!Q.contains t) K st
def stepG (Γ:bJ) (d:Option Nat) (f:FuncId) (xs:List AV) (ks:Option (List Nat)) (K:St→Prop) (st:St):Prop:=ai d fun d=>ak xs∧ai ks fun ks=>yo Γ d f ks (xs.map strip) (eF st.aa ks (xs.map strip)) ((dZ ks (xs.map strip)).flatMap rM) K st
def lL (P:Program) (Γ:bJ) (i:AI) (f:FuncId) (s:Nat) (w:Bool) (o:Option (Nat×Nat)) (K:St→Prop) (st:St):Prop:=match o with|some (_,k)=>if k=996 then ai (bE (st.vars s) w) fun c=>if c=true then stepG Γ i.d f (i.xs.map (ev st.vars)) (iN Γ f) K st else K ((bA.put (.bY false .au)).on i.d st) else False|none=>gN (eN ((i.xs.map (ev st.vars)).map strip)) (JX (bE (st.vars s) w)) (ai (bE (st.vars s) w) fun c=>ai (ft st.aa ((i.xs.map (ev st.vars)).map strip)) fun ys=>ai (gt Γ f ys) fun x=>if frR x.2=true then(if c=true then l8 P Γ ⟨i.d,i.k,i.xs,none,[],none⟩ f K st else K ((bA.put (.bY false .au)).on i.d st)) else cR P Γ i K st) (K ((bA.put (.bY false .au)).on i.d st))
def Cu (P:Program) (Γ:bJ) (i:AI) (f:FuncId) (s:Nat) (w:Bool) (K:St→Prop) (st:St):Prop:=lL P Γ i f s w (dB Γ f) K st
def eH (P:Program) (Γ:bJ) (d:Option Nat) (f:FuncId) (ys:List AV) (o:Option (Nat×Nat)) (K:St→Prop) (st:St):Prop:=match o with|some (_,k)=>if k=996 then stepG Γ d f ys (iN Γ f) K st else False|none=>cx P Γ d f ys st.aa fun e=>K (e.on d st)
def gZ (P:Program) (Γ:bJ) (d:Option Nat) (f:FuncId) (ys:List AV) (A:Prop) (c:Bool) (o:Option (Nat×Nat)) (K:St→Prop) (st:St):Prop:=match o with|some (_,k)=>if k=996 then(if c=true then A∧stepG Γ d f ys (iN Γ f) K st else K ((bA.put (.bY false .au)).on d st)) else False|none=>Ak Γ c f ys st.aa fun e=>(c=true→A)∧K (e.on d st)
def qc (P:Program) (Γ:bJ) (d:Option Nat) (xs:List AV) (s:Nat) (w:Bool) (K:St→Prop) (st:St):Prop:=ai (bE (st.vars s) w) fun c=>ai (kR (xs.map strip)) fun x=>fo P x.1=true∧gZ P Γ d x.1 x.2 (ak xs) c (dB Γ x.1) K st
def fH (P:Program) (Γ:bJ) (d:Option Nat) (xs:List AV) (g:Option (Nat×Bool)) (K:St→Prop) (st:St):Prop:=match g with|none=>(ak xs∧ai (kR (xs.map strip)) fun x=>fo P x.1=true∧eH P Γ d x.1 x.2 (dB Γ x.1) K st)|some (s,w)=>gN (eN (xs.map strip)) (JX (bE (st.vars s) w)) (qc P Γ d xs s w K st) (K ((bA.put (.bY false .au)).on d st))
def kS:List AV→Bool|[]=>true|.pv _::l=>kS l|_=>false
def ldT (aa:Nat→Option AO):AV→Option Nat|.ptr t _=>(eK (aa t)).bind fun cs=>if kS cs=true then some t else none|_=>none
def mQ (T:List Nat) (st:St):List Nat→Prop|[]=>True|s::l=>ai (ldT st.aa (st.vars s)) (fun t=>T.contains t=false)∧mQ T st l
def Dd (ks:Option (List Nat)) (aa:Nat→Option AO) (xs:List AV):List Nat:=match ks with|some ks=>eF aa ks xs|none=>[]
def gQ (P:Program) (Γ:bJ) (i:AI) (f:FuncId) (o:Option (Nat×Nat)) (K:St→Prop) (st:St):Prop:=match o with|some (p,k)=>if k=998 then i.un=[]∧kJ P Γ i.d f (i.xs.map (ev st.vars)) p k K st else if k=996 then mQ (Dd (iN Γ f) st.aa ((i.xs.map (ev st.vars)).map strip)) st i.un∧stepG Γ i.d f (i.xs.map (ev st.vars)) (iN Γ f) K st else False|none=>cR P Γ ⟨i.d,i.k,i.xs,i.g,[],none⟩ K st
def cB (P:Program) (Γ:bJ) (i:AI) (K:St→Prop) (st:St):Prop:=match i.k,i.tg,i.g with|.call f,some 999999,none=>gQ P Γ i f (dB Γ f) K st|.lh,some 999999,none=>fH P Γ i.d (i.xs.map (ev st.vars)) none K st|_,_,_=>cR P Γ i K st
def steps (P:Program) (Γ:bJ) (is:List AI) (K:St→Prop) (st:St):Prop:=match is with|[]=>K st|i::is=>cB P Γ i (fun st'=>steps P Γ is K st') st
def gH (P:Program) (Γ:bJ) (i:AI) (f:FuncId) (o:Option (Nat×Nat)) (K:St→Prop) (st:St):Prop:=match o with|some (p,k)=>if k=997 then yJ P Γ i.d f (i.xs.map (ev st.vars)) p K st else if k=996 then stepG Γ i.d f (i.xs.map (ev st.vars)) (iN Γ f) K st else kJ P Γ i.d f (i.xs.map (ev st.vars)) p k K st|none=>l8 P Γ i f K st
def Bg (aa:Nat→Option AO) (e:TypeId) (zs:List Value):AV→Option (Nat×AO)|.own t=>(cM (aa t)).bind fun r=>if r.1=e then some (t,.arr e (List.replicate r.2.length (zs.map rE))) else none|.sub t e1 lo hi=>(cM (aa t)).bind fun r=>if r.1=e∧e1=e then some (t,.arr e (r.2.take lo++List.replicate (hi-lo) (zs.map rE)++r.2.drop hi)) else none|_=>none
def ot (d:Option Nat) (e:TypeId) (sz:Nat) (zs:List Value) (xs:List AV) (K:St→Prop) (st:St):Prop:=ak xs∧ai ((xs.map strip).head?) fun X=>ai (Bg st.aa e zs X) fun r=>K ((bA.vq r.1 r.2).on d st)
def bZ (P:Program) (Γ:bJ) (i:AI) (K:St→Prop) (st:St):Prop:=match i.g with|none=>cR P Γ i K st|some (s,w)=>gN (eN ((i.xs.map (ev st.vars)).map strip)) (JX (bE (st.vars s) w)) (cR P Γ i K st) (K ((bA.put (.bY false .au)).on i.d st))
def wT:Option AO→Option (List (PV×AV))|some (.map es)=>some es|_=>none
def qE (d:Option Nat) (xs ys:List AV) (K:St→Prop) (st:St):Prop:=match ys with|[.pv (.int .u64 a),.pv (.int .u64 b),.pv (.int .u64 c)]=>ak xs∧(0≤a∧0≤b∧0≤c∧c≤1)∧K ⟨put d (.aJ [.pv (.int .u64 ((a+b+c)%18446744073709551616)),.pv (.int .u64 ((a+b+c)/18446744073709551616))]) st.vars,st.aa⟩|_=>False
def me (d:Option Nat) (e:TypeId) (bytes:Nat) (zs:List Value) (xs ys:List AV) (K:St→Prop) (st:St):Prop:=match ys with|[.pv .nil,.pv (.int .i64 n)]=>ai d fun d=>ak xs∧(0≤n∧n≤140737488355328∧n.toNat*bytes≤140737488355328)∧st.aa d=none∧K ⟨put (some d) (.own d) st.vars,bp [(d,.arr e (List.replicate n.toNat (zs.map rE)))] st.aa⟩|_=>False
def zu (d:Option Nat) (e:TypeId) (bytes:Nat) (zs:List Value) (xs ys:List AV) (K:St→Prop) (st:St):Prop:=match ys with|[.pv (.int _ n),.pv (.int _ c)]=>ai d fun d=>ak xs∧(c=n∧0≤n∧n≤140737488355328∧n.toNat*bytes≤140737488355328)∧st.aa d=none∧K ⟨put (some d) (.own d) st.vars,bp [(d,.arr e (List.replicate n.toNat (zs.map rE)))] st.aa⟩|_=>False
def xM (d:Option Nat) (e:TypeId) (xs ys:List AV) (K:St→Prop) (st:St):Prop:=ai d fun d=>ak xs∧ff ys=true∧st.aa d=none∧K ⟨put (some d) (.own d) st.vars,bp [(d,.rws e ys)] st.aa⟩
def qi (d:Option Nat) (e:TypeId) (sz:Nat) (xs ys:List AV) (K:St→Prop) (st:St):Prop:=ai d fun d=>ak xs∧ai (rowsOf ys) fun rows=>(∀r∈rows,r.length=sz)∧st.aa d=none∧K ⟨put (some d) (.own d) st.vars,bp [(d,.arr e rows)] st.aa⟩
def tY:List AV→Option (Nat×Nat)|[]=>none|c::l=>match c with|.own q=>some (0,q)|_=>(tY l).map fun r=>(r.1+1,r.2)
def vn (d:Option Nat) (X Y:AV) (xs:List AV) (K:St→Prop) (st:St):Prop:=match X,Y with|.aZ t e i o,.own q=>ak xs∧ai (cM (st.aa t)) fun r=>(r.1=e∧o=0)∧(0≤i∧i<r.2.length∧(rowAt r.2 i).length=1)∧K ⟨put d .au st.vars,aL t (.rws e ((r.2.map fun x=>AV.pv (x.getD 0 .nil)).set i.toNat (.own q))) st.aa⟩|_,_=>False
def sf (d:Option Nat) (X:AV) (xs:List AV) (K:St→Prop) (st:St):Prop:=match X with|.own t=>ak xs∧ai (W7 (st.aa t)) fun r=>ai (tY r.2) fun j=>ai (cM (st.aa j.2)) fun s=>ai (eQ (r.2.set j.1 (.pv (.ro s.2)))) fun ps=>K ⟨put d (.own t) (H3 j.2 s.1 s.2 st.vars),aL t (.arr r.1 (ps.map fun p=>[p])) (fJ j.2 st.aa)⟩|_=>False
def EA:Option AO→Option (List (PV×PV)×Option (PV×PV))|some (.nk rem cur)=>some (rem,cur)|_=>none
def lS (k v:PV):List (PV×PV)→List (PV×PV)|[]=>[(k,v)]|e::l=>if mm k e.1=true then(k,v)::l else e::lS k v l
def qu (k:PV):List (PV×PV)→List (PV×PV)|[]=>[]|e::l=>if mm k e.1=true then l else e::qu k l
def tI:AV→Option Bool
 |.ptr _ _|.aZ _ _ _ _|.rp _|.pv (.pt _)=>some false|.pv (.val v)=>match v with|.pointer none=>some true|_=>none
 |_=>none
def qK (d:Option Nat) (s:Nat) (X Y Z:AV) (xs:List AV) (K:St→Prop) (st:St):Prop:=match X,Y,Z with|.own t,.pv k,.pv v=>ak xs∧ai (rO (st.aa t)) fun es=>dk k=s∧fm s es∧K ⟨put d .au st.vars,aL t (.gY (lS k v es)) st.aa⟩|_,_,_=>False
def GI (aa:Nat→Option AO):AV→Option (List (PV×PV))|.own t=>rO (aa t)|.pv (.mv es)=>some es|_=>none
def vh (d:Option Nat) (s:Nat) (z:Value) (ok:Bool) (X Y:AV) (xs:List AV) (K:St→Prop) (st:St):Prop:=match Y with|.pv k=>ak xs∧ai (GI st.aa X) fun es=>z.oneCell'=true∧dk k=s∧fm s es∧K ⟨put d (xR z ok (ln k es)) st.vars,st.aa⟩|_=>False
def vd (d:Option Nat) (s:Nat) (X Y:AV) (xs:List AV) (K:St→Prop) (st:St):Prop:=match X,Y with|.own t,.pv k=>ak xs∧ai (rO (st.aa t)) fun es=>dk k=s∧fm s es∧K ⟨put d .au st.vars,aL t (.gY (qu k es)) st.aa⟩|_,_=>False
def wc (d:Option Nat) (X:AV) (xs:List AV) (K:St→Prop) (st:St):Prop:=match X with|.pv (.mv es)=>ai d fun d=>ak xs∧st.aa d=none∧K ⟨put (some d) (.ptr d 0) st.vars,bp [(d,.nk es none)] st.aa⟩|_=>False
def wg (d:Option Nat) (X:AV) (xs:List AV) (K:St→Prop) (st:St):Prop:=match X with|.ptr t 0=>ak xs∧ai (EA (st.aa t)) fun r=>(r.1=[]→K ⟨put d (.aJ [.pv (.bool false)]) st.vars,st.aa⟩)∧∀(e:PV×PV) (l m:List (PV×PV)),r.1=l++e::m→K ⟨put d (.aJ [.pv (.bool true),.pv e.1,.pv e.2]) st.vars,aL t (.nk (l++m) (some e)) st.aa⟩|_=>False
def vN (d:Option Nat) (X:AV) (xs:List AV) (K:St→Prop) (st:St):Prop:=match X with|.ptr t 0=>ak xs∧ai (EA (st.aa t)) fun r=>ai r.2 fun e=>K ⟨put d (.aJ [.pv e.1,.pv e.2]) st.vars,st.aa⟩|_=>False
def ph (d:Option Nat) (x:XK) (xs ys:List AV) (K:St→Prop) (st:St):Prop:=match x,ys with|.rst,[X,Y]=>vn d X Y xs K st|.Ex,[X]=>sf d X xs K st|.mkv,[]=>ai d fun d=>st.aa d=none∧K ⟨put (some d) (.own d) st.vars,bp [(d,.gY [])] st.aa⟩|.QU s,[X,Y,Z]=>qK d s X Y (pF Z) xs K st|.E3 s z ok,[X,Y]=>vh d s z ok X Y xs K st|.dlv s,[X,Y]=>vd d s X Y xs K st|.EB ne,[X]=>ak xs∧ai (tI X) fun b=>K ⟨put d (.pv (.bool (b !=ne))) st.vars,st.aa⟩|.YU,[X]=>wc d X xs K st|.nxt,[X]=>wg d X xs K st|.ent,[X]=>vN d X xs K st|.mJ e sz,ys=>qi d e sz xs ys K st|_,_=>False
def aU (d:Option Nat) (x:XK) (xs:List AV) (K:St→Prop) (st:St):Prop:=match x,xs.map strip with|.YT,[]=>ai d fun d=>st.aa d=none∧K ⟨put (some d) (.own d) st.vars,bp [(d,.map [])] st.aa⟩|.Hq s,[.own t,.pv k,v]=>ak xs∧ai (wT (st.aa t)) fun es=>dk k=s∧fV s es∧ed v=true∧K ⟨put d .au st.vars,aL t (.map (iY k v es)) st.aa⟩|.DX s z ok,[.own t,.pv k]=>ak xs∧ai (wT (st.aa t)) fun es=>dk k=s∧fV s es∧K ⟨put d (if ok=true then .aJ [(getM k es).getD (HM z),.pv (.bool (getM k es).isSome)] else(getM k es).getD (HM z)) st.vars,st.aa⟩|.yM,ys=>qE d xs ys K st|.vM ne,[X]=>ak xs∧ai (eZ st.aa X) fun rows=>∀b:Bool,(rows≠[]→b=false)→K ⟨put d (.pv (.bool (if ne=true then !b else b))) st.vars,st.aa⟩|.FL,[.pv .nil]=>ak xs∧K ⟨put d (.pv (.int .i64 0)) st.vars,st.aa⟩|.ES e sz bytes zs,ys=>me d e bytes zs xs ys K st|.DJ e,ys=>xM d e xs ys K st|.RN e bytes zs,ys=>zu d e bytes zs xs ys K st|.DX s z ok,[.pv (.mp ks),.pv k]=>ak xs∧vY z=true∧dk k=s∧(∀x∈ks,dk x=s)∧K ⟨put d (if ok=true then .aJ [.agg [],.pv (.bool (ks.any (mm k)))] else .agg []) st.vars,st.aa⟩|.mark,[.own t]=>ak xs∧ai (cM (st.aa t)) fun r=>r.2≠[]∧K ⟨put d (.pv (.ro r.2)) (H3 t r.1 r.2 st.vars),fJ t st.aa⟩|x,ys=>ph d x xs ys K st
def zQ (d:Option Nat) (s t:Nat) (k v:AV) (xs:List AV) (K:St→Prop) (st:St):Prop:=match k with|.pv k=>ak xs∧ai (wT (st.aa t)) fun es=>dk k=s∧fV s es∧ed v=true∧K ⟨put d .au st.vars,aL t (.map (iY k v es)) st.aa⟩|_=>False
def yY (d:Option Nat) (s t:Nat) (z:Value) (ok:Bool) (k:AV) (xs:List AV) (K:St→Prop) (st:St):Prop:=match k with|.pv k=>ak xs∧ai (wT (st.aa t)) fun es=>dk k=s∧fV s es∧K ⟨put d (if ok=true then .aJ [(getM k es).getD (HM z),.pv (.bool (getM k es).isSome)] else(getM k es).getD (HM z)) st.vars,st.aa⟩|_=>False
def AQ (d:Option Nat) (x:AV) (xs:List AV) (K:St→Prop) (st:St):Prop:=match x with|.own t=>ak xs∧ai (cM (st.aa t)) fun r=>r.2≠[]∧K ⟨put d (.pv (.ro r.2)) (H3 t r.1 r.2 st.vars),fJ t st.aa⟩|_=>False
def uk (d:Option Nat) (s:Nat) (ks:List PV) (z:Value) (ok:Bool) (k:AV) (xs:List AV) (K:St→Prop) (st:St):Prop:=match k with|.pv k=>ak xs∧vY z=true∧dk k=s∧(∀x∈ks,dk x=s)∧K ⟨put d (if ok=true then .aJ [.agg [],.pv (.bool (ks.any (mm k)))] else .agg []) st.vars,st.aa⟩|_=>False
def lY (d:Option Nat) (x:AV) (xs:List AV) (K:St→Prop) (st:St):Prop:=match x with|.pv .nil=>ak xs∧K ⟨put d (.pv (.int .i64 0)) st.vars,st.aa⟩|_=>False
def Ga (d:Option Nat) (ne:Bool) (rows:List (List PV)) (K:St→Prop) (st:St):Prop:=∀b:Bool,(rows≠[]→b=false)→K ⟨put d (.pv (.bool (if ne=true then !b else b))) st.vars,st.aa⟩
def BX (i:AI) (x:XK) (s:Nat) (w:Bool) (K:St→Prop) (st:St):Prop:=ai (bE (st.vars s) w) fun c=>if c=true then aU i.d x (i.xs.map (ev st.vars)) K st else K ((bA.put (.bY false .au)).on i.d st)
def shA (t:Nat) (rows:List (List PV)):AV→AV|.own s=>if s=t then .pv (.ro rows) else .own s|v=>kill t v
def AR (t:Nat) (rows:List (List PV)) (f:Nat→AV):Nat→AV:=fun s=>shA t rows (f s)
def GD (aa:Nat→Option AO) (e:TypeId):List AV→Option (Nat×List (List PV)×List (List PV))|[.own t,x]=>(cM (aa t)).bind fun r=>(cG aa x).bind fun more=>if r.1=e then some (t,r.2,more) else none|_=>none
def wM (d:Option Nat) (e:TypeId) (sz bytes:Nat) (xs:List AV) (K:St→Prop) (st:St):Prop:=ak xs∧ai (GD st.aa e (xs.map strip)) fun r=>((r.2.1.length+r.2.2.length)*bytes≤140737488355328∧r.2.1.length+r.2.2.length≤maxLen∧(∀q∈r.2.2,q.length=sz))∧r.1%1000≠999∧K ⟨put d (.pv (.ro (r.2.1++r.2.2))) (AR r.1 r.2.1 st.vars),fJ r.1 st.aa⟩
def Yh (i:AI):Option (TypeId×Nat×Nat):=match i.k,i.tg,i.g with|.app e sz b,some 999998,none=>some (e,sz,b)|_,_,_=>none
def ID (x:XK) (i:AI) (st:St):St:=match x with|.QU _=>cz st ((i.xs.map (ev st.vars)).map strip)|_=>st
def jm (P:Program) (Γ:bJ) (i:AI) (K:St→Prop) (st:St):Prop:=match i.k,i.g with|.ex x,none=>aU i.d x (i.xs.map (ev (ID x i st).vars)) K (ID x i st)|.ex x,some (s,w)=>BX i x s w K st|.rG _ _,_=>bZ P Γ i K (cz st ((i.xs.map (ev st.vars)).map strip))|.F8 e sz zs,none=>ot i.d e sz zs (i.xs.map (ev st.vars)) K st|.call f,some (s,w)=>Cu P Γ i f s w K st|.lh,g=>fH P Γ i.d (i.xs.map (ev st.vars)) g K st|.call f,none=>gH P Γ i f (dB Γ f) K st|.gK _,_=>cR P Γ i K (sg (i.d.getD 0) st)|_,_=>bZ P Γ i K st
def bV (P:Program) (Γ:bJ) (i:AI) (K:St→Prop) (st:St):Prop:=match Yh i with|some r=>if oJ ((i.xs.map (ev st.vars)).map strip)=true then wM i.d r.1 r.2.1 r.2.2 (i.xs.map (ev st.vars)) K st else jm P Γ i K st|none=>jm P Γ i K st
def cK (P:Program) (Γ:bJ) (is:List AI) (K:St→Prop) (st:St):Prop:=match is with|[]=>K st|i::is=>bV P Γ i (fun st'=>cK P Γ is K st') st
def jc (cq:List Nat) (f:Nat→AV):Nat→AV:=fun s=>if cq.contains s then f s else .au
structure Fr where
 vs:List (Nat×AV)
 os:List (Nat×AO)
def Fr.st (f:Fr):St:=⟨look f.vs,ab f.os⟩
def je (os:List (Nat×AO)):AV→Prop|.own t|.ptr t _|.aZ t _ _ _|.sub t _ _ _=>ay (ab os) t|.pv _|.rp _|.au=>True|_=>False
def fS (os:List (Nat×AO)):List AV→Prop|[]=>True|c::cs=>je os c∧fS os cs
def kV (os:List (Nat×AO)):AV→Prop|.agg cs|.bo _ cs|.aJ cs=>fS os cs|.bY _ v=>je os v|v=>je os v
def vZ (os:List (Nat×AO)):AO→Prop|.box cs=>fS os cs|.arr _ _=>True|.map _=>True|.gY _=>True|.nk _ _=>True|.rws _ cs=>fS os cs
def NS (ad:List Nat) (st:St) (os:List (Nat×AO)):List (Nat×AV)→Prop|[]=>True|(s,v)::l=>(v=.au∨(st.vars s=v∧kV os v)∨(∃t,v=.own t∧ad.contains t=true∧ay (ab os) t∧st.vars s=.pv .nil))∧NS ad st os l
def Pc (P:Program) (ad:List Nat) (st:St) (os:List (Nat×AO)):List (Nat×AO)→Prop|[]=>True|(t,o)::l=>((st.aa t=some o∧ad.contains t=false∧vZ os o)∨(∃e,o=.arr e []∧ad.contains t=true∧st.aa t=none∧(P.info? e).isSome=true∧t%1000≠999))∧Pc P ad st os l
def wk (P:Program) (ad:List Nat) (st:St) (f:Fr):Prop:=NS ad st f.os f.vs∧Pc P ad st f.os f.os
def cE (st:St):List (Nat×Option (Option Nat))→(List AV→Prop)→Prop|[],C=>C []|(t,none)::l,C=>cE st l fun vs=>C (st.vars t::vs)|(a,some n)::l,C=>ai (aj (.load n) [st.vars a] st.aa) fun x=>x.1∧cE st l fun vs=>C (x.2::vs)
def bG:List AV→AV|[v]=>v|vs=>.aJ vs
def uR (P:Program) (aa:Nat→Option AO) (v r:AV):Prop:=match r with|.fr e rows=>(∃t,v=.own t∧aa t=some (.arr e rows))∨(v=.pv .nil∧rows=[]∧(P.info? e).isSome=true)∨(∃t hi rs,v=.sub t e 0 hi∧aa t=some (.arr e rs)∧rows=rs.take hi)|r=>v=r∧iA r=true
def wS (P:Program) (aa:Nat→Option AO):List AV→List AV→Prop|[],[]=>True|c::cs,r::rs=>uR P aa c r∧wS P aa cs rs|_,_=>False
def Cg (P:Program) (aa:Nat→Option AO) (v r:AV):Prop:=match v,r with|.agg cs,.agg rs=>wS P aa cs rs|.agg _,_=>False|v,r=>uR P aa v r
def yE (P:Program) (aa:Nat→Option AO):List AV→List AV→Prop|[],[]=>True|c::cs,r::rs=>Cg P aa c r∧yE P aa cs rs|_,_=>False
def fz (P:Program) (aa:Nat→Option AO) (v r:AV):Prop:=match v,r with|.aJ vs,.aJ rs=>vs.length≤1000∧yE P aa vs rs|.aJ _,_=>False|v,r=>Cg P aa v r
def qd (j:Nat):List AV→List (Nat×Nat)|[]=>[]|.own t::cs=>(1000*j,t)::qd (j+1) cs|.sub t _ _ _::cs=>(1000*j,t)::qd (j+1) cs|_::cs=>qd (j+1) cs
def Mw:AV→List (Nat×Nat)|.agg cs=>qd 0 cs|.own t=>[(0,t)]|.sub t _ _ _=>[(0,t)]|_=>[]
def BL (i:Nat):List AV→List (Nat×Nat)|[]=>[]|v::vs=>(Mw v).map (fun x=>(x.1+i,x.2))++BL (i+1) vs
def pl:AV→List (Nat×Nat)|.aJ vs=>BL 0 vs|v=>Mw v
def kq:List (Nat×Nat)→Prop|[]=>True|x::l=>(∀y∈l,y.2≠x.2)∧kq l
def qv:AV→AV→List Nat|.own t,.pv (.ro _)=>[t]|.pv .nil,.pv (.ro _)=>[999996]|.own t,.pv (.mv _)=>[t+1000000000000000]|_,_=>[]
def tj:List AV→List AV→List Nat|c::cs,r::rs=>qv c r++tj cs rs|_,_=>[]
def Bl:AV→AV→List Nat|.agg cs,.agg rs=>tj cs rs|v,r=>qv v r
def vG:List AV→List AV→List Nat|c::cs,r::rs=>Bl c r++vG cs rs|_,_=>[]
def mI:AV→AV→List Nat|.aJ vs,.aJ rs=>vG vs rs|v,r=>Bl v r
def vg (P:Program) (rs:List (Nat×Option (Option Nat))) (r:AV) (st:St):Prop:=cE st rs fun vs=>fz P st.aa (bG vs) r∧kq (pl (bG vs))
def Ends (P:Program) (rs:List (Nat×Option (Option Nat))) (r:AV) (st:St):Prop:=cE st rs fun vs=>vg P rs r (cu (mI (bG vs) r) st)
def lR (aa:Nat→Option AO) (l:List (Nat×Nat)):List (Nat×AO)→Prop|[]=>True|x::hout=>aa x.1=some x.2∧(∀y∈l,y.2≠x.1)∧lR aa l hout
def nq (P:Program) (rs:List (Nat×Option (Option Nat))) (r:AV) (hout:List (Nat×AO)) (st:St):Prop:=cE st rs fun vs=>fz P st.aa (bG vs) r∧kq (pl (bG vs))∧lR st.aa (pl (bG vs)) hout
def m0 (P:Program) (rs:List (Nat×Option (Option Nat))) (r:AV) (hout:List (Nat×AO)) (st:St):Prop:=cE st rs fun vs=>nq P rs r hout (cu (mI (bG vs) r) st)
def zi (K:St→Prop):Exit→St→Prop|.ret,st=>K st|_,_=>False
def oE (id:Nat) (K:St→Prop) (J:Exit→St→Prop):Exit→St→Prop|.exit id',st=>if id'=id then K st else J (.exit id') st|e,st=>J e st
def hZ (P:Program) (Γ:bJ):AC→(St→Prop)→(Exit→St→Prop)→St→Prop|.skip,K,_,st=>K st|.HW is d cq,K,_,st=>if d then steps P Γ is (fun st'=>K ⟨jc cq st'.vars,st'.aa⟩) st else cK P Γ is (fun st'=>K ⟨jc cq st'.vars,st'.aa⟩) st|.seq a b,K,J,st=>hZ P Γ a (fun st'=>hZ P Γ b K J st') J st|.cond x a b,K,J,st=>ai (iW (ev st.vars x)) fun c=>(c=true→hZ P Γ a K J st)∧(c=false→hZ P Γ b K J st)|.block id a,K,J,st=>hZ P Γ a K (oE id K J) st|.loop a,_,J,st=>∃(ι:Type) (F:ι→Fr) (μ:ι→Nat) (ad shs:List Nat) (i0:ι),wk P ad (cu shs st) (F i0)∧∀i,hZ P Γ a (fun st'=>∃i',wk P [] (cu shs st') (F i')∧μ i'<μ i) J (F i).st|.exit id,_,J,st=>J (.exit id) st|.ret,_,J,st=>J .ret st
def mH (P:Program) (t:TypeId):Option (Option Nat):=match P.underlying t with|some (.struct _)|some (.array _ _)=>(P.info? t).map fun i=>some i.size|some _=>some none|none=>none
def cm (P:Program) (t:TypeId):Option Nat:=(P.info? t).map (·.size)
def dE (P:Program) (t:TypeId):Option (List Value):=(P.info? t).bind fun i=>i.zero.bind fun z=>if z.cells.size=i.size then some z.cells.toList else none
def eS:Operand→Bool|.const (.slice none 0 0)=>true|_=>false
def qp (P:Program) (fs:Array Field):List (Nat×Operand)→Option (List (Nat×Nat))|[]=>some []|(i,_)::l=>match fs[i]?,qp P fs l with|some f,some r=>(cm P f.type).map fun n=>(f.offset,n)::r|_,_=>none
def mq (P:Program) (f:TypeId→Option (List Nat)):Nat→List Field→Option (List Nat)|_,[]=>some []|off,fl::fs=>if fl.name≠ "_" ∧fl.offset=off then(f fl.type).bind fun a=>if cm P fl.type=some a.length then(mq P f (off+a.length) fs).map (a++·) else none else none
def jr (P:Program):Nat→TypeId→Option (List Nat)|0,_=>none|n+1,t=>match P.underlying t with|some .bool=>some [0]|some .string=>some [1]|some (.int k)=>some [2+mK k]|some (.struct fs)=>if t<P.types.size∧EU P t=false then mq P (jr P n) 0 fs.toList else none|_=>none
def cX (P:Program) (b:Builtin) (xs:List Operand) (ts:List TypeId):Option (AK×List Operand):=match b,xs,ts with
 |.len,[x],[t]=>match P.underlying t with|some .string=>some (.uZ,[x])|some (.slice _)=>some (.len,[x])|_=>none
 |.append,[s,x],[t,t']=>match P.underlying t,P.underlying t' with
  |some (.slice e),some .string=>match P.info? e with|some i=>if i.size=1∧(dE P e).isSome=true then some (.app e i.size i.bytes,[s,x]) else none|none=>none
  |some (.slice e),some (.slice _)=>match P.info? e with|some i=>if 0<i.size∧(dE P e).isSome=true then some (.app e i.size i.bytes,[s,x]) else none|none=>none
  |_,_=>none
 |.min,[x,y],[_,_]=>some (.E4 false,[x,y])|.max,[x,y],[_,_]=>some (.E4 true,[x,y])|.clear,[x],[t]=>match P.underlying t with
  |some (.slice e)=>match cm P e,dE P e with|some sz,some zs=>if 0<sz∧zs.all (·.oneCell')=true then some (.F8 e sz zs,[x]) else none|_,_=>none
  |_=>none
 |_,_,_=>none
def gv (P:Program) (c:Call):Option (AK×List Operand):=match c.callee with|.builtin b=>cX P b c.args.toList c.argTypes.toList|.value (.func f)=>if fo P f then some (.call f,c.args.toList) else none|.value x=>some (.lh,x::c.args.toList)|.invoke _ _=>none
def jA (P:Program) (t:TypeId):Option Nat:=match P.underlying t with|some .bool=>some 0|some .string=>some 1|some (.int k)=>some (2+mK k)|_=>none
def zeroV (P:Program) (t:TypeId):Option Value:=(P.info? t).bind (·.zero)
def iZ (P:Program) (t:TypeId):Option (TypeId×TypeId):=match P.underlying t with|some (.map k e)=>some (k,e)|_=>none
def wR (P:Program) (f:FuncId):Bool:=match P.funcs[f]? with|some fn=>fn.name== "math/bits.Add64" &&fn.body.isNone&&(Extern.findNext fn).isNone|none=>false
def xr (P:Program) (b:Builtin) (xs:List Operand) (ts:List TypeId):Option (XK×List Operand):=match b,xs,ts with
 |.cap,[x],[t]=>match P.underlying t with|some (.slice _)=>some (.FL,[x])|_=>none
 |.append,[s,x],[t,t']=>match P.underlying t,P.underlying t' with
  |some (.slice e),some (.int _)=>match P.info? e,dE P e with|some i,some zs=>if 0<i.size∧zs.all (·.oneCell')=true then some (.ES e i.size i.bytes zs,[s,x]) else none|_,_=>none
  |_,_=>none
 |_,_,_=>none
def rwsT (P:Program) (e:TypeId):Bool:=match(P.info? e).map (fun i:TypeInfo=>i.desc),P.underlying e with|some (TypeDesc.named _ _),some (TypeDesc.slice _)=>true|_,_=>false
def VX (P:Program) (e:TypeId):Bool:=match P.underlying e with|some (.int .u64)=>true|_=>false
def Cy (P:Program) (o:Oper):Bool:=match o.op,o.dst with
 |.move (.tmp 8),some 193|.assign (.tmp 8),some 193=>match P.underlying o.type with
  |some (.slice e)=>match P.underlying e with|some (.slice _)=>true|_=>false
  |_=>false
 |.store t (.tmp 160) (.tmp 159),none=>match P.underlying t with|some (.slice _)=>true|_=>false
 |_,_=>false
def tC (P:Program) (o:Oper):Option (XK×List Operand):=match o.op with
 |.makeMap t none=>match iZ P t with|some _=>some (.YT,[])|none=>none
 |.mapUpdate t m k x|.insert t m k x=>match iZ P t with
  |some (kt,_)=>match jA P kt with|some s=>some (.Hq s,[m,k,x])|none=>none
  |none=>none
 |.lookup t m k ok=>match iZ P t with
  |some (kt,et)=>match jA P kt,zeroV P et with|some s,some z=>some (.DX s z ok,[m,k])|_,_=>none
  |none=>none
 |.buildSlice t n ps=>match P.underlying t with
  |some (.slice e)=>match cm P e,dE P e with|some sz,some zs=>if VX P e=true∧ps.toList.map (·.1)=List.range n∧n*sz≤2^24∧zs.length=sz∧0<sz then some (.mJ e sz,ps.toList.map (·.2)) else if sz=1∧ps.toList.map (·.1)=List.range n∧n*sz≤2^24∧zs.length=sz then some (.DJ e,ps.toList.map (·.2)) else none|_,_=>none
  |_=>none
 |.convert src dst x=>if src=dst then match P.underlying src with
  |some (.slice e)=>match P.underlying e with|some (.int .u8)=>some (.mark,[x])|_=>none
  |_=>none else none|.makeSlice t l c=>match P.underlying t with
  |some (.slice e)=>match P.info? e,dE P e with|some i,some zs=>if 0<i.size∧zs.all (·.oneCell')=true then some (.RN e i.bytes zs,[l,c]) else none|_,_=>none
  |_=>none
 |.binOp op t x y _=>match P.underlying t with|some (.slice _)=>if eS y then match op with|.eql=>some (.vM false,[x])|.neq=>some (.vM true,[x])|_=>none else none|_=>none
 |.call c=>match c.callee with|.value (.func f)=>if wR P f=true then some (.yM,c.args.toList) else none|.builtin b=>xr P b c.args.toList c.argTypes.toList|_=>none
 |.move x=>if Cy P o=true then some (.Ex,[x]) else none|.assign x=>if Cy P o=true then some (.Ex,[x]) else none|.store t x y=>if Cy P o=true∧cm P t=some 1 then some (.rst,[x,y]) else none|_=>none
def Jj (P:Program) (t:TypeId):Bool:=match P.underlying t with|some .bool|some .string|some (.int _)|some (.func _ _ _)|some (.slice _)=>true|_=>false
def zp (P:Program) (o:Oper):Option (XK×List Operand):=match o.op with
 |.makeMap t none=>match iZ P t with|some (_,et)=>if Jj P et=true then some (.mkv,[]) else none|none=>none
 |.mapUpdate t m k x|.insert t m k x=>match iZ P t with
  |some (kt,et)=>match jA P kt with|some s=>if Jj P et=true then some (.QU s,[m,k,x]) else none|none=>none
  |none=>none
 |.lookup t m k ok=>match iZ P t with
  |some (kt,et)=>match jA P kt,zeroV P et with|some s,some z=>if Jj P et=true then some (.E3 s z ok,[m,k]) else none|_,_=>none
  |none=>none
 |.binOp op t x y _=>match P.underlying t with
  |some (.pointer _)=>match y with
   |.const (.pointer none)=>match op with|.eql=>some (.EB false,[x])|.neq=>some (.EB true,[x])|_=>none
   |_=>none
  |_=>none
 |.call c=>match c.callee,c.args.toList,c.argTypes.toList with
  |.builtin .delete,[m,k],[t,kt']=>match iZ P t with
   |some (kt,et)=>match jA P kt with|some s=>if Jj P et=true∧kt'=kt then some (.dlv s,[m,k]) else none|none=>none
   |none=>none
  |_,_,_=>none
 |.range t x=>match iZ P t with|some _=>some (.YU,[x])|none=>none
 |.next x false=>some (.nxt,[x])|.entry x=>some (.ent,[x])|_=>none
def jt (P:Program) (o:Oper):XK×List Operand:=match zp P o with|some r=>r|none=>(tC P o).getD (.dead,[])
def gj (P:Program) (o:Oper):Option (AK×List Operand):=match o.op with
 |.move x|.assign x=>if eS x then match P.underlying o.type with|some (.slice e)=>if(P.info? e).isSome then some (.gK e,[]) else none|_=>none else some (.nS,[x])|.pick c a b=>some (.pick,[c,a,b])|.alloc e=>(dE P e).map fun zs=>(.alloc zs,[])|.box _ x=>some (.box,[x])|.build t ps=>match dE P t,P.underlying t with|some zs,some (.struct fs)=>if fs.toList.all (fun f=>(P.info? f.type).isSome)=false then none else(qp P fs ps.toList).map fun l=>(.H2 zs l,ps.toList.map (·.2))|_,_=>none
 |.buildSlice t n ps=>match P.underlying t with
  |some (.slice e)=>match cm P e,dE P e with|some sz,some zs=>if(rwsT P e||VX P e)=false∧ps.toList.map (·.1)=List.range n∧n*sz≤2^24∧zs.length=sz∧0<sz then some (.rG e sz,ps.toList.map (·.2)) else none|_,_=>none
  |_=>none
 |.load t a=>(mH P t).map fun n=>(.load n,[a])|.store t a v=>match mH P t with|some none=>if cm P t=some 1 then some (.store none,[a,v]) else none|some (some n)=>some (.store (some n),[a,v])|none=>none
 |.binOp op t x y _=>match P.underlying t with
  |some .bool=>match op with|.eql=>some (.beq false,[x,y])|.neq=>some (.beq true,[x,y])|_=>none
  |some (.int _)|some .string=>some (.bin op,[x,y])|some (.struct _)=>match jr P 8 t with
   |some ks=>if ks.all (·<99)=true then match op with|.eql=>some (.eqs false ks,[x,y])|.neq=>some (.eqs true ks,[x,y])|_=>none else none|none=>none
  |_=>none
 |.unOp .not _ x=>some (.not,[x])|.unOp .neg _ x=>some (.neg,[x])|.convert src dst x=>match P.underlying src,P.underlying dst with
  |some (.int _),some (.int k)=>some (.B3 k,[x])|some .string,some .string=>some (.CV,[x])|some (.slice e),some .string=>match P.underlying e with|some (.int .u8)=>some (.rH,[x])|_=>none
  |some .string,some (.slice e)=>match P.underlying e with|some (.int .u8)=>some (.qw e,[x])|_=>none
  |_,_=>none
 |.fieldAddr s x i=>match P.underlying s with
  |some (.struct fs)=>match fs[i]? with
   |some f=>match cm P f.type with|some (_+1)=>some (.rS f.offset,[x])|_=>none
   |none=>none
  |_=>none
 |.field s x i=>match P.underlying s with
  |some (.struct fs)=>match fs[i]? with|some f=>(mH P f.type).map fun n=>(.FU f.offset n,[x])|none=>none
  |_=>none
 |.indexAddr t x i=>match P.underlying t with|some (.slice e)=>(cm P e).map fun sz=>(.CB e sz,[x,i])|some (.array n e)=>(cm P e).map fun sz=>(.E6 n sz,[x,i])|_=>none
 |.index t x i=>match P.underlying t with|some .string=>some (.uS,[x,i])|_=>none
 |.slice t x lo hi none=>match P.underlying t with|some .string=>some (.IQ lo.isSome hi.isSome,[x]++lo.toList++hi.toList)|some (.slice e)=>(cm P e).map fun sz=>(.A6 sz lo.isSome hi.isSome,[x]++lo.toList++hi.toList)|_=>none
 |.extract x i=>some (.ext i,[x])|.nilCheck x=>some (.Ec,[x])|.makeFunc (.func f) first caps=>match first.toList with|[]=>some (.HU f,caps.toList)|_=>none
 |.call c=>gv P c|_=>none
def gI (P:Program) (o:Oper):Option (AK×List Operand):=match if Cy P o=true then none else gj P o with|some r=>some r|none=>some (.ex (jt P o).1,(jt P o).2)
theorem dP {P:Program}{o:Oper}{k:AK}{xs:List Operand} (h:gI P o=some (k,xs)):gj P o=some (k,xs)∨∃x,k=.ex x∧jt P o=(x,xs):=by
 unfold gI at h;split at h
 ·rename_i r hr;split at hr;·cases hr
  ·rw[hr];exact .inl h
 ·cases h;exact .inr ⟨_,rfl,rfl⟩
def makes:AK→Bool|.gK _|.box|.alloc _|.rG _ _|.app _ _ _|.call _|.lh|.rH|.qw _|.ex .YT|.ex .mkv|.ex .YU|.ex (.ES _ _ _ _)|.ex (.DJ _)|.ex (.RN _ _ _)=>true|_=>false
def writes:AK→Bool|.store _|.app _ _ _=>true|_=>false
def aK:AK→Bool|.nS|.bin _|.beq _|.not|.neg|.B3 _|.CV=>true|_=>false
def tmpsOf:List Operand→List Nat|[]=>[]|.tmp t::l=>t::tmpsOf l|_::l=>tmpsOf l
def cF (i:AI):List Nat:=tmpsOf i.xs++(match i.g with|some (s,_)=>[s]|none=>[])
def wZ:Option Nat→Bool|some _=>true|none=>false
def bX (i:AI):List Nat:=if makes i.k then i.d.toList else if writes i.k then i.tg.toList else[]
def isApp:AK→Bool|.app _ _ _=>true|_=>false
def ZM:AK→Bool|.alloc _=>true|_=>false
def xD:AK→Bool|.load _|.rS _=>true|_=>false
def BI (x y:AI):Bool:=isApp x.k&&x.g.isNone&&y.g.isNone&&y.tg.isNone&&(match x.d,y.d with|some d,some d'=>!(cF y).contains d&&!(cF x).contains d'&&d !=d'&&decide (d<1000)&&decide (d'<1000)&&((ZM y.k&&y.xs.isEmpty)||(xD y.k&&y.un.contains d&&y.un.all fun t=>x.un.contains (t+1000)))|_,_=>false)
def BK (x y:AI):Bool:=(match x.d with|some d=>!(cF y).contains d&&y.d !=some d&&y.tg !=some d&&decide (d<1000)|none=>true)&&(match y.d with|some d=>!(cF x).contains d&&x.tg !=some d&&decide (d<1000)|none=>true)&&((aK y.k&&y.un.isEmpty)||(!isApp x.k&&(!writes x.k||wZ x.tg)&&(bX x).all fun t=>decide (t<1000)&&y.un.contains t))&&((aK x.k&&x.un.isEmpty)||(!isApp y.k&&(!writes y.k||wZ y.tg)&&(bX y).all fun t=>decide (t<1000)&&x.un.contains t))&&(aK x.k||aK y.k||!writes x.k||!writes y.k||x.tg !=y.tg)
def tH (x y:AI):Bool:=BK x y||BI x y
def Fe (P:Program) (N:Nat) (ops:Array Oper) (o:Oper):Option AI:=match gI P o with|none=>none|some (k,xs)=>let okd:=match o.dst with|some d=>decide (d<N∧d<1000)|none=>!makes k&&(k matches .store _||k matches .F8 _ _ _||k matches .ex _)
 if !okd then none else match o.guard with|none=>some ⟨o.dst,k,xs,none,[],none⟩|some (j,want)=>match(ops[j]?).bind (·.dst) with|some s=>some ⟨o.dst,k,xs,some (s,want),[],none⟩|none=>none
def ur (P:Program) (N:Nat) (ops:Array Oper):List Oper→Option (List AI)|[]=>some []|o::l=>match Fe P N ops o,ur P N ops l with|some i,some is=>some (i::is)|_,_=>none
def aft (e:Nat) (l:List Nat) (n:Nat):Nat:=if e<n then l.getD (n-1-e) 0 else 0
def HD (n:Nat) (acc:List Nat) (o:Oper):Nat:=o.after.toList.foldl (fun s e=>if Region.binds .any e then s|||2^e.on|||aft e.on acc n else s) 0
def zr:List Oper→Nat→List Nat→List Nat|[],_,acc=>acc|o::l,n,acc=>match HD n acc o with|0=>zr l (n+1) (0::acc)|m+1=>zr l (n+1) ((m+1)::acc)
def ML (ops:Array Oper):List Nat:=(zr ops.toList 0 []).reverse
theorem OR (e:Nat) (acc:Array Nat):aft e acc.toList.reverse acc.size=acc.getD e 0:=by
 unfold aft;split;·rename_i h;rw[List.getD_eq_getElem?_getD,List.getElem?_reverse (by simp;omega)];simp[h,show acc.size-1-(acc.size-1-e)=e by omega]
 ·simp_all
theorem Cm:∀(l:List Oper) (acc:Array Nat),(zr l acc.size acc.toList.reverse).reverse=(l.foldl (fun acc o=>acc.push (o.after.foldl (fun s e=>if Region.binds .any e then s|||2^e.on|||acc.getD e.on 0 else s) 0)) acc).toList
 |[],acc=>by simp[zr]|o::l,acc=>by
  have hv:HD acc.size acc.toList.reverse o=o.after.foldl (fun s e=>if Region.binds .any e then s|||2^e.on|||acc.getD e.on 0 else s) 0:=by simp only[HD,OR,Array.foldl_toList]
  have ih:=Cm l (acc.push (HD acc.size acc.toList.reverse o));have e:zr (o::l) acc.size acc.toList.reverse=zr l (acc.size+1) (HD acc.size acc.toList.reverse o::acc.toList.reverse):=by rw[zr];split<;>rename_i h<;>rw[h]
  rw[e,List.foldl_cons,←hv,←ih];simp
theorem Qb (ops:Array Oper):(Region.before ops).toList=ML ops:=by unfold ML Region.before;rw[←Array.foldl_toList];exact(Cm ops.toList #[]).symm
theorem Iw (ops:Array Oper) (j:Nat):(ML ops).getD j 0=(Region.before ops).getD j 0:=by rw[←Qb];simp[Array.getD_eq_getD_getElem?]
def bits (ops:Array Oper) (i j:Nat):Bool:=((ML ops).getD j 0).testBit i
theorem Hm (ops:Array Oper) (i j:Nat):bits ops i j=((Region.before ops).getD j 0).testBit i:=by unfold bits;rw[Iw]
def lx (ops:Array Oper) (i j:Nat):Bool:=!bits ops i j||match ops[j]? with|some o=>o.after.toList.any fun e=>Region.binds .any e&&(e.on==i||(decide (i<e.on)&&decide (e.on<j)&&bits ops i e.on))|none=>false
def jI (ops:Array Oper) (j:Nat):Bool:=match ops[j]? with|some o=>o.after.toList.all fun e=>!Region.binds .any e||decide (e.on<j)|none=>true
def Gh (ops:Array Oper) (is:Array AI):Bool:=(List.range ops.size).all fun j=>jI ops j&&(List.range j).all fun i=>lx ops i j&&(bits ops i j||match is[i]?,is[j]? with|some x,some y=>tH x y|_,_=>false)
def unOf (ops:Array Oper) (is:Array AI) (j:Nat):List Nat:=let b:=ML ops
 (List.range is.size).filterMap fun i=>if i=j||(b.getD j 0).testBit i||(b.getD i 0).testBit j then none else match is[i]?,is[j]? with|some x,some y=>if aK y.k then none else(bX x).head?|_,_=>none
def unA (ops:Array Oper) (is:Array AI) (j:Nat):List Nat:=let b:=ML ops
 match is[j]? with|some y=>if isApp y.k then(List.range is.size).flatMap fun i=>if i=j||(b.getD j 0).testBit i||(b.getD i 0).testBit j then[] else match is[i]? with|some x=>if xD x.k then x.un.map (·+1000) else[]|none=>[] else[]|none=>[]
def iP (ops:Array Oper) (is:Array AI) (j:Nat):List AI→List AI|[]=>[]|i::l=>{i with un:=i.un++unA ops is j}::iP ops is (j+1) l
def rf (ops:Array Oper) (is:Array AI) (j:Nat):List AI→List AI|[]=>[]|i::l=>{i with un:=unOf ops is j}::rf ops is (j+1) l
def tgOf (is:List AI) (i:AI):Option Nat:=match i.k,i.xs with|.store _,.tmp s::_=>if is.any fun x=>x.d==some s&&(match x.k with|.alloc _|.box=>true|_=>false) then some s else none|_,_=>none
def vF (is:List AI):List AI→List AI|[]=>[]|i::l=>{i with tg:=tgOf is i}::vF is l
def Vx (is:List AI) (i:AI):Option Nat:=match i.k,i.xs with|.store _,.tmp s::_=>some (if is.any fun x=>x.d==some s then 999 else s)|_,_=>none
def ql (is:List AI):List AI→List AI|[]=>[]|i::l=>{i with tg:=Vx is i}::ql is l
def Zf (x:AI):Operand→Bool|.const _=>true|.tmp s=>x.d !=some s|_=>false
def Mb (y x:AI):Bool:=match y.k,y.xs,y.d,y.g,y.tg,y.un with|.nS,[o],some dd,none,none,[]=>Zf x o&&!(cF x).contains dd&&x.d !=some dd|_,_,_,_,_,_=>false
def ldB (y x:AI):Bool:=match y.k,y.xs,y.d,y.g,y.tg,x.k with|.load _,[.tmp s],some dd,none,none,.call _=>x.d !=some s&&!(cF x).contains dd&&x.d !=some dd&&dd !=s|_,_,_,_,_,_=>false
def Bi (y:AI):List Nat:=match y.k,y.xs with|.load _,[.tmp s]=>[s]|_,_=>[]
def GY:AK→Bool|.call _|.lh=>true|_=>false
def jJ (ops:Array Oper) (is:Array AI) (j:Nat):List Nat:=(List.range j).flatMap fun q=>if bits ops q j then[] else match is[q]? with|some y=>Bi y|none=>[]
def zq (ops:Array Oper) (is:Array AI) (j:Nat) (x:AI):Bool:=GY x.k&&x.g.isNone&&x.tg.isNone&&x.un.isEmpty&&(List.range is.size).all fun q=>q==j||(if q<j then bits ops q j else bits ops j q)||(match is[q]? with|some y=>(Mb y x||(decide (q<j)&&ldB y x))&&(match y.d with|some dd=>!(jJ ops is j).contains dd|none=>true)|none=>false)
def Ax (ops:Array Oper) (is:Array AI) (j:Nat):List AI→List AI|[]=>[]|i::l=>(if zq ops is j i then{i with tg:=some 999999,un:=jJ ops is j} else i)::Ax ops is (j+1) l
def AG (b:Nat):List AI→Bool|[]=>false|i::l=>(match i.k,i.xs with|.nS,[.tmp s]=>s==b|_,_=>false)||(if i.d==some b then false else AG b l)
def Mc (s:Nat):List AI→Option Nat|[]=>none|i::l=>if i.d==some s then(match i.k,i.xs with|.nS,[.tmp b]=>some b|_,_=>none) else Mc s l
def apsB (i:AI) (pre l:List AI):Bool:=match i.k,i.xs,i.g with
 |.app _ _ _,.tmp s::_,none=>match Mc s pre with|some b=>AG b l|none=>false
 |_,_,_=>false
def uQ (pre:List AI):List AI→List AI|[]=>[]|i::l=>(if apsB i pre l then{i with tg:=some 999998} else i)::uQ (i::pre) l
def drawn (ops:Array Oper) (js:List AI):Option AC:=let hs:=rf ops js.toArray 0 js
 let ks:=iP ops hs.toArray 0 hs
 if Gh ops ks.toArray&&ks.all (fun i=>i.tg !=some 999999) then some (.HW (Ax ops ks.toArray 0 ks) true []) else none
def mh (ops:Array Oper) (js:List AI):List Nat:=let b:=ML ops
 let f:=fun j=>(List.range ops.size).any fun i=>(match js[i]? with|some x=>isApp x.k|none=>false)&&(i==j||(b.getD i 0).testBit j)
 (List.range ops.size).filter f++(List.range ops.size).filter fun j=>!f j
def J1 (ops:Array Oper) (ks:Array AI):List Nat→List Nat→Bool|_,[]=>true|pre,j::l=>(match ops[j]? with|some o=>o.after.toList.all fun e=>!Region.binds .any e||pre.contains e.on|none=>false)&&(!pre.contains j)&&(l.all fun b=>(decide (j<b)&&bits ops j b)||match ks[j]?,ks[b]? with|some x,some y=>tH x y|_,_=>false)&&J1 ops ks (j::pre) l
def yq (ops:Array Oper) (js:List AI) (l:List Nat):Option AC:=let hs:=rf ops js.toArray 0 js
 let ks:=iP ops hs.toArray 0 hs
 if l.length=ops.size∧J1 ops ks.toArray [] l=true∧((List.range ops.size).all fun j=>jI ops j&&(List.range j).all fun i=>lx ops i j)=true∧(l.all fun j=>decide (j<ops.size))=true∧((List.range ops.size).all fun j=>l.contains j)=true∧ks.all (fun i=>i.tg !=some 999999)=true then some (.HW (l.filterMap fun j=>ks[j]?) true []) else none
def comp (P:Program) (N:Nat):Code→Option AC
 |.skip=>some .skip|.region _ ops draw=>match ur P N ops ops.toList with|some is=>if draw then((drawn ops (vF is is)).or (drawn ops (ql is is))).or ((yq ops (vF is is) (mh ops is)).or (yq ops (ql is is) (mh ops is))) else some (.HW (uQ [] is) false [])|none=>none
 |.seq a b=>match comp P N a,comp P N b with|some x,some y=>some (.seq x y)|_,_=>none
 |.cond c a b=>match comp P N a,comp P N b with|some x,some y=>some (.cond c x y)|_,_=>none
 |.block id a=>(comp P N a).map (.block id)|.loop a=>(comp P N a).map .loop|.exit id=>some (.exit id)|.ret=>some .ret|.scope a=>comp P N a|.label _=>some .skip|_=>none
def C3 (w:List Nat):List AI→List Nat|[]=>[]|i::l=>(cF i).filter (fun s=>!w.contains s)++C3 (i.d.toList++w) l
def vo:AC→List Nat|.HW is _ _=>C3 [] is|.seq a b=>vo a++vo b|.cond x a b=>tmpsOf [x]++vo a++vo b|.block _ a|.loop a=>vo a|_=>[]
def gn (cq:List Nat):AC→AC|.HW is d _=>.HW is d cq|.seq a b=>.seq (gn cq a) (gn cq b)|.cond x a b=>.cond x (gn cq a) (gn cq b)|.block id a=>.block id (gn cq a)|.loop a=>.loop (gn cq a)|c=>c
def gT (P:Program):List ResultVar→Option (List (Nat×Option (Option Nat)))|[]=>some []|.tmp t::l=>(gT P l).map ((t,none)::·)|.cell a t::l=>(mH P t).bind fun n=>(gT P l).map ((a,some n)::·)
structure AFn where
 n:Nat
 params:Nat
 res:List (Nat×Option (Option Nat))
 body:AC
def yb (P:Program) (f:FuncId) (cq:List Nat):Option AFn:=match P.funcs[f]? with
 |some fn=>match fn.body,gT P fn.results.toList with|some c,some rs=>(comp P fn.ntmps c).bind fun b=>if fn.ntmps≤998 then some ⟨fn.ntmps,fn.params.size+fn.nfree,rs,gn cq b⟩ else none|_,_=>none
 |none=>none
def YM (n:Nat):List Nat→List Nat|[]=>[n]|m::l=>if n<m then n::m::l else if n=m then m::l else m::YM n l
def Ye (P:Program) (f:FuncId):List Nat:=match P.funcs[f]? with
 |some fn=>match fn.body,gT P fn.results.toList with
  |some c,some rs=>match comp P fn.ntmps c with|some b=>(vo b++rs.map (·.1)).foldr YM []|none=>[]
  |_,_=>[]
 |none=>[]
abbrev aFn (P:Program) (f:FuncId):Option AFn:=yb P f (Ye P f)
end Go.Proofs.YtlicclncicbajaaGreat.Ab
