/- An abstract machine for the code of one function: slices, strings and structs as plain data; what each operation makes of them. Definitions alone. -/
import Derived.WalkKit
import Derived.WalkSpells
import Derived.WalkLawsBesides
import Derived.MapKept
import Derived.Maps.RangeRun
set_option linter.unusedVariables false
set_option linter.unusedSimpArgs false
set_option linter.unnecessarySimpa false
set_option maxHeartbeats 40000000
set_option maxRecDepth 100000
namespace Go.Proofs.YtlmkcmfmfahcfaaGreat.Ab
open Go Go.RowKit
inductive PV where|int (k:IntKind) (n:Int)|bool (b:Bool)|str (l:List UInt8)|nil|ro (rows:List (List PV))|mp (ks:List PV)|mv (es:List (PV×PV))|pt (cs:List PV)|val (v:Value)
inductive AV where|pv (p:PV)|own (t:Nat)|ptr (t off:Nat)|aO (t:Nat) (e:TypeId) (i:Int) (off:Nat)|sub (t:Nat) (e:TypeId) (lo hi:Nat)|rp (cs:List PV)|agg (cs:List AV)|aK (vs:List AV)|bB (f:FuncId) (caps:List AV)|fr (e:TypeId) (rows:List (List PV))|bx (cs:List AV)|mf (es:List (PV×PV))|bX (g:Bool) (v:AV)|aq
inductive AO where|box (cs:List AV)|arr (e:TypeId) (rows:List (List PV))|map (es:List (PV×AV))|rws (e:TypeId) (cs:List AV)|fO (es:List (PV×PV))|lV (rem:List (PV×PV)) (cur:Option (PV×PV))
structure St where
 vars:Nat→AV
 aa:Nat→Option AO
def oL:Value→PV|.int k n=>.int k n|.bool b=>.bool b|.string s=>.str s.data.toList|.slice none 0 0=>.nil|v=>.val v
def cv (v:Value):AV:=if v.oneCell'=true then .pv (oL v) else .aq
def ev (vars:Nat→AV):Operand→AV|.tmp t=>vars t|.const v=>cv v|.func f=>.bB f []|.global _=>.aq
def put (d:Option Nat) (v:AV) (f:Nat→AV):Nat→AV:=match d with|some d=>fun s=>if s=d then v else f s|none=>f
def aH (t:Nat) (o:AO) (f:Nat→Option AO):Nat→Option AO:=fun s=>if s=t then some o else f s
def look (l:List (Nat×AV)) (s:Nat):AV:=match l with|[]=>.aq|(t,v)::l=>if s=t then v else look l s
def ab (l:List (Nat×AO)) (s:Nat):Option AO:=match l with|[]=>none|(t,v)::l=>if s=t then some v else ab l s
def asks:AV→Prop|.bX g v=>g=true∧asks v|_=>True
def strip:AV→AV|.bX _ v=>strip v|v=>v
def al:List AV→Prop|[]=>True|v::l=>asks v∧al l
inductive XK where|LI|zV (s:Nat)|Ac (s:Nat) (z:Value) (ok:Bool)|dead|oa (ne:Bool)|tA|wO|xP (e:TypeId) (sz bytes:Nat) (zs:List Value)|AL (e:TypeId)|Nk (e:TypeId) (bytes:Nat) (zs:List Value)|mark|Rd|AN|Hw|oH (s:Nat)|AR (s:Nat) (z:Value) (ok:Bool)|UH (s:Nat)|zW (ne:Bool)|To|VL|Uy
inductive AK where|aM|pick|bin (op:BinOp)|beq (ne:Bool)|not|neg|rK (k:IntKind)|yS|len|kP|jI|EE (lo hi:Bool)|Cr (off:Nat) (n:Option Nat)|az (off:Nat)|load (n:Option Nat)|bg (e:TypeId) (sz:Nat)|De (n sz:Nat)|dA|mS (sz:Nat) (lo hi:Bool)|ext (i:Nat)|fR (zs:List Value) (parts:List (Nat×Nat))|zb (f:FuncId)|bL (e:TypeId)|box|alloc (zs:List Value)|eW (e:TypeId) (sz:Nat)|call (f:FuncId)|gi|zR (mx:Bool)|eqs (ne:Bool) (ks:List Nat)|store (n:Option Nat)|app (e:TypeId) (sz bytes:Nat)|qq|uE (e:TypeId)|zo (e:TypeId) (sz:Nat) (zs:List Value)|ex (x:XK)
structure AI where
 d:Option Nat
 k:AK
 xs:List Operand
 g:Option (Nat×Bool)
 un:List Nat
 tg:Option Nat
inductive AC where|skip|ag (is:List AI) (drawn:Bool) (bS:List Nat)|seq (a b:AC)|cond (x:Operand) (a b:AC)|block (id:Nat) (a:AC)|loop (a:AC)|exit (id:Nat)|ret
def vt (op:BinOp) (k:IntKind) (a b:Int):PV:=.int k (k.wrap (match op with|.and=>(BitVec.ofInt k.bits a&&&BitVec.ofInt k.bits b).toNat|.or=>(BitVec.ofInt k.bits a|||BitVec.ofInt k.bits b).toNat|.xor=>(BitVec.ofInt k.bits a^^^BitVec.ofInt k.bits b).toNat|_=>(BitVec.ofInt k.bits a&&&~~~BitVec.ofInt k.bits b).toNat:Nat))
def dE (op:BinOp) (x y:PV):Option (Prop×PV):=match x,y with
 |.int k a,.int k' b=>match op with|.shl=>some (0≤b,.int k (k.wrap (a*2^(min b.toNat k.bits))))|.shr=>some (0≤b,.int k (a.fdiv (2^(min b.toNat k.bits))))|op=>if k=k' then match op with|.add=>some (True,.int k (k.wrap (a+b)))|.sub=>some (True,.int k (k.wrap (a-b)))|.mul=>some (True,.int k (k.wrap (a*b)))|.quo=>some (b≠0,.int k (k.wrap (a.tdiv b)))|.rem=>some (b≠0,.int k (a.tmod b))|.eql=>some (True,.bool (decide (a=b)))|.neq=>some (True,.bool (!decide (a=b)))|.lss=>some (True,.bool (decide (a<b)))|.leq=>some (True,.bool (decide (a≤b)))|.gtr=>some (True,.bool (decide (b<a)))|.geq=>some (True,.bool (decide (b≤a)))|op=>some (True,vt op k a b) else none
 |.str a,.str b=>match op with|.add=>some (a.length+b.length≤9223372036854775807,.str (a++b))|.eql=>some (True,.bool (decide (a=b)))|.neq=>some (True,.bool (!decide (a=b)))|.lss=>some (True,.bool (Op.bytesLess a b))|.leq=>some (True,.bool (Op.bytesLess a b||decide (a=b)))|.gtr=>some (True,.bool (!(Op.bytesLess a b||decide (a=b))))|.geq=>some (True,.bool (!Op.bytesLess a b))|_=>none
 |_,_=>none
def kJ:IntKind→Nat|.i8=>0|.i16=>1|.i32=>2|.i64=>3|.u8=>4|.u16=>5|.u32=>6|.u64=>7
def cL:PV→Nat|.bool _=>0|.str _=>1|.int k _=>2+kJ k|_=>99
def lM:PV→PV→Bool|.int _ a,.int _ b=>decide (a=b)|.str a,.str b=>decide (a=b)|.bool a,.bool b=>decide (a=b)|_,_=>false
def iJ:List PV→List PV→Bool|[],[]=>true|a::l,b::m=>lM a b&&iJ l m|_,_=>false
def rowAt (rows:List (List PV)) (i:Int):List PV:=rows.getD i.toNat []
def bytesRow (l:List UInt8):List (List PV):=l.map fun c=>[.int .u8 (c.toNat:Int)]
def zQ:AV→Option PV|.pv p=>some p|_=>none
def eb:List AV→Option (List PV)|[]=>some []|v::l=>(zQ v).bind fun p=>(eb l).map (p::·)
def rowOf:AV→Option (List PV)|.agg cs=>eb cs|.pv p=>some [p]|_=>none
def rowsOf:List AV→Option (List (List PV))|[]=>some []|v::l=>(rowOf v).bind fun p=>(rowsOf l).map (p::·)
def cellsOf:AV→List AV|.agg cs=>cs|v=>[v]
def dI:AV→Bool|.pv (.val v)=>v.oneCell'|.pv _|.own _|.ptr _ _|.aO _ _ _ _|.sub _ _ _ _|.rp _|.bB _ _=>true|_=>false
def eM:List AV→Bool|[]=>true|c::cs=>dI c&&eM cs
def jK:AV→Bool|.agg _=>true|v=>dI v
def mV:AV→AV|.bB f []=>.pv (.val (.func (.func f) #[] #[]))|v=>v
def lay (cs:List AV) (off:Nat) (ps:List AV):List AV:=cs.take off++ps++cs.drop (off+ps.length)
def iZ (cs:List AV):List (Nat×Nat)→List AV→Option (List AV)|[],[]=>some cs|(off,n)::ps,x::xs=>if jK x=true∧(cellsOf x).length=n∧off+n≤cs.length then iZ (lay cs off ((cellsOf x).map mV)) ps xs else none|_,_=>none
def bounds (n:Nat) (lo hi:Bool) (xs:List AV):Option (Int×Int):=match lo,hi,xs with|false,false,[]=>some (0,n)|true,false,[.pv (.int _ l)]=>some (l,n)|false,true,[.pv (.int _ h)]=>some (0,h)|true,true,[.pv (.int _ l),.pv (.int _ h)]=>some (l,h)|_,_,_=>none
def cut {α:Type} (l:List α) (lo hi:Int):List α:=(l.take hi.toNat).drop lo.toNat
def cz:Option AO→Option (TypeId×List (List PV))|some (.arr e rows)=>some (e,rows)|_=>none
def Pc:Option AO→Option (TypeId×List AV)|some (.rws e cs)=>some (e,cs)|_=>none
def xl:Option AO→Option (TypeId×Nat)|some (.arr e rows)=>some (e,rows.length)|some (.rws e cs)=>some (e,cs.length)|_=>none
def dX:Option AO→Option (List AV)|some (.box cs)=>some cs|_=>none
def cE (aa:Nat→Option AO):AV→Option (List (List PV))|.pv .nil=>some []|.pv (.ro rows)=>some rows|.pv (.str l)=>some (bytesRow l)|.own t=>(cz (aa t)).map (·.2)|.sub t e lo hi=>(cz (aa t)).bind fun r=>if r.1=e then some ((r.2.take hi).drop lo) else none|_=>none
def eN (aa:Nat→Option AO):AV→Option (List (List PV))|.pv .nil=>some []|.pv (.ro rows)=>some rows|.own t=>(cz (aa t)).map (·.2)|.sub t e lo hi=>(cz (aa t)).bind fun r=>if r.1=e then some ((r.2.take hi).drop lo) else none|_=>none
def byteOf:List PV→Option UInt8|[.int .u8 n]=>if 0≤n∧n<256 then some (UInt8.ofNat n.toNat) else none|_=>none
def bytesOf:List (List PV)→Option (List UInt8)|[]=>some []|r::l=>(byteOf r).bind fun c=>(bytesOf l).map (c::·)
def jZ:AV→Bool|.agg _|.aK _|.bX _ _|.aq=>false|_=>true
def kj (e:TypeId) (i:Int) (o:Nat):Option AO→Option (Prop×AV)|some (.arr e' rows)=>if e'=e then some (0≤i∧i<rows.length∧o<(rowAt rows i).length,.pv ((rowAt rows i).getD o (.int .u8 0))) else none|some (.rws e' cs)=>if e'=e∧o=0 then(cs[i.toNat]?).bind fun c=>if jZ c=true then some (0≤i,c) else none else none|_=>none
def jC (k:PV):List (PV×PV)→Option PV|[]=>none|e::l=>if lM k e.1=true then some e.2 else jC k l
def eA (s:Nat) (es:List (PV×PV)):Prop:=∀e∈es,cL e.1=s
def tI (z:Value) (ok:Bool) (o:Option PV):AV:=if ok=true then .aK [.pv (o.getD (oL z)),.pv (.bool o.isSome)] else .pv (o.getD (oL z))
def ak (k:AK) (xs:List AV) (aa:Nat→Option AO):Option (Prop×AV):=match k,xs with|.bin op,[.pv x,.pv y]=>(dE op x y).map fun r=>(r.1,.pv r.2)|.beq ne,[.pv (.bool x),.pv (.bool y)]=>some (True,.pv (.bool (if ne then x !=y else x==y)))|.not,[.pv (.bool b)]=>some (True,.pv (.bool (!b)))|.neg,[.pv (.int k n)]=>some (True,.pv (.int k (k.wrap (0-n))))|.rK k,[.pv (.int _ n)]=>some (True,.pv (.int k (k.wrap n)))|.yS,[.pv (.str l)]=>some (True,.pv (.str l))|.kP,[.pv (.str l)]=>some (True,.pv (.int .i64 l.length))|.len,[.pv .nil]=>some (True,.pv (.int .i64 0))|.len,[.pv (.ro rows)]=>some (True,.pv (.int .i64 rows.length))|.len,[.own t]=>(xl (aa t)).map fun r=>(True,.pv (.int .i64 r.2))|.len,[.sub t _ lo hi]=>(cz (aa t)).map fun _=>(True,.pv (.int .i64 ((hi:Int)-(lo:Int))))|.jI,[.pv (.str l),.pv (.int _ i)]=>some (0≤i∧i<l.length,.pv (.int .u8 ((l.getD i.toNat 0).toNat:Int)))|.EE lo hi,.pv (.str l)::bs=>(bounds l.length lo hi bs).map fun b:Int×Int=>(0≤b.1∧b.1≤b.2∧b.2≤(l.length:Int),.pv (.str (cut l b.1 b.2)))|.Cr off none,[.agg cs]=>(cs[off]?).map fun c=>(True,c)|.Cr off (some n),[.agg cs]=>if off+n≤cs.length then some (True,.agg ((cs.drop off).take n)) else none|.az off,[.ptr t o]=>some (True,.ptr t (o+off))|.az off,[.aO t e i o]=>some (True,.aO t e i (o+off))|.az off,[.rp cs]=>some (True,.rp (cs.drop off))|.De n sz,[.ptr t o,.pv (.int _ i)]=>some (0≤i∧i<(n:Int),.ptr t (o+i.toNat*sz))|.De n sz,[.rp cs,.pv (.int _ i)]=>some (0≤i∧i<(n:Int),.rp (cs.drop (i.toNat*sz)))|.dA,[.ptr t o]=>some (True,.ptr t o)|.dA,[.aO t e i o]=>some (True,.aO t e i o)|.dA,[.rp cs]=>some (True,.rp cs)|.load none,[.ptr t o]=>(dX (aa t)).bind fun cs=>(cs[o]?).bind fun c=>if jZ c=true then some (True,c) else none|.load (some n),[.ptr t o]=>(dX (aa t)).bind fun cs=>if o+n≤cs.length then some (True,.agg ((cs.drop o).take n)) else none|.load none,[.aO t e i o]=>kj e i o (aa t)|.load (some n),[.aO t e i o]=>(cz (aa t)).bind fun r=>if r.1=e∧o+n≤(rowAt r.2 i).length then some (0≤i∧i<r.2.length,.agg ((((rowAt r.2 i).drop o).take n).map .pv)) else none|.load none,[.rp (c::_)]=>some (True,.pv c)|.load none,[.rp []]=>some (False,.pv (.int .u64 0))|.load (some n),[.rp cs]=>if n≤cs.length then some (True,.agg ((cs.take n).map .pv)) else none|.bg _ sz,[.pv (.ro rows),.pv (.int _ i)]=>some (0≤i∧i<rows.length∧(rowAt rows i).length=sz,.rp (rowAt rows i))|.bg e _,[.own t,.pv (.int _ i)]=>(xl (aa t)).bind fun r=>if r.1=e then some (0≤i∧i<r.2,.aO t e i 0) else none|.bg e _,[.sub t e1 lo hi,.pv (.int _ i)]=>(cz (aa t)).bind fun r=>if r.1=e∧e1=e then some (0≤i∧i<(hi:Int)-(lo:Int),.aO t e ((lo:Int)+i) 0) else none|.mS sz lo hi,.own t::bs=>(cz (aa t)).bind fun r=>(bounds r.2.length lo hi bs).map fun b:Int×Int=>(0≤b.1∧b.1≤b.2∧b.2≤(r.2.length:Int)∧(∀x∈r.2,x.length=sz),.sub t r.1 b.1.toNat b.2.toNat)|.mS sz lo hi,.sub t e l h::bs=>(cz (aa t)).bind fun r=>if r.1=e then(bounds (h-l) lo hi bs).map fun b:Int×Int=>(0≤b.1∧b.1≤b.2∧b.2≤((h-l:Nat):Int)∧(∀x∈r.2,x.length=sz),.sub t e (l+b.1.toNat) (l+b.2.toNat)) else none|.mS sz lo hi,.pv (.ro rows)::bs=>(bounds rows.length lo hi bs).map fun b:Int×Int=>(0≤b.1∧b.1≤b.2∧b.2≤(rows.length:Int)∧(∀r∈rows,r.length=sz),.pv (.ro (cut rows b.1 b.2)))|.mS _ lo hi,.pv .nil::bs=>(bounds 0 lo hi bs).map fun b:Int×Int=>(b.1=0∧b.2=0,.pv .nil)|.ext i,[.aK vs]=>(vs[i]?).map fun v=>(True,v)|.fR zs ps,xs=>(iZ (zs.map cv) ps xs).map fun cs=>(True,.agg cs)|.zb f,xs=>some (True,.bB f xs)|.zR mx,[.pv (.int k a),.pv (.int k' b)]=>if k=k' then some (True,.pv (.int k (if mx then max a b else min a b))) else none|.eqs ne ks,[.agg xs,.agg ys]=>(eb xs).bind fun a=>(eb ys).map fun b=>(a.map cL=ks∧b.map cL=ks,.pv (.bool (if ne then !iJ a b else iJ a b)))|.ex (.AR s z ok),[.pv (.mv es),.pv k]=>some (z.oneCell'=true∧cL k=s∧eA s es,tI z ok (jC k es))|.qq,[x]=>(eN aa x).bind fun rows=>(bytesOf rows).map fun l=>(True,.pv (.str l))|_,_=>none
def bY:Value→Option Nat|.slice (some a) _ _=>some a.block|.pointer (some a)=>some a.block|.map (some b)=>some b|_=>none
def bK:PV→Value|.int k n=>.int k n|.str l=>.string ⟨l.toArray⟩|.bool b=>.bool b|_=>undef
inductive cT (S:Nat→Prop) (w:World):Value→PV→Prop|int (k:IntKind) (n:Int):cT S w (.int k n) (.int k n)|bool (b:Bool):cT S w (.bool b) (.bool b)|str (l:List UInt8):cT S w (.string ⟨l.toArray⟩) (.str l)|nil:cT S w (.slice none 0 0) .nil|val (v:Value):v.oneCell'=true→cT S w v (.val v)|mp (b:Nat) (us:Array MapEntry) (c:Nat) (ks:List PV):S b→w.heap[b]?=some (.map us c)→us.toList.length=ks.length→(∀(i:Nat) (k:PV) (u:MapEntry),ks[i]?=some k→us.toList[i]?=some u→u.key=bK k∧u.val=.agg #[])→cT S w (.map (some b)) (.mp ks)|mv (b:Nat) (us:Array MapEntry) (c:Nat) (es:List (PV×PV)):S b→w.heap[b]?=some (.map us c)→MapKept.Stamped us c→us.toList.length=es.length→(∀(i:Nat) (e:PV×PV) (u:MapEntry),es[i]?=some e→us.toList[i]?=some u→u.key=bK e.1∧cL e.1<99∧u.val.oneCell'=true)→(∀(i:Nat) (e:PV×PV) (u:MapEntry),es[i]?=some e→us.toList[i]?=some u→cT S w u.val e.2)→cT S w (.map (some b)) (.mv es)|pt (ad:Addr) (cs:List PV) (us:Nat→Value):S ad.block→(∀j,j<cs.length→w.cell? (ad.add j)=some (us j))→(∀(j:Nat) (p:PV),cs[j]?=some p→(us j).oneCell'=true)→(∀(j:Nat) (p:PV),cs[j]?=some p→cT S w (us j) p)→cT S w (.pointer (some ad)) (.pt cs)|uC (A:Option Addr) (c:Nat):cT S w (.slice A 0 c) (.ro [])|ro (ad:Addr) (c:Nat) (rows:List (List PV)) (sz:Nat) (us:Nat→Nat→Value):S ad.block→rows.length≤c→(∀r,r∈rows→r.length=sz)→(∀i j,i<rows.length→j<sz→w.cell? (ad.add (i*sz+j))=some (us i j))→(∀(i j:Nat) (r:List PV) (p:PV),rows[i]?=some r→r[j]?=some p→(us i j).oneCell'=true)→(∀(i j:Nat) (r:List PV) (p:PV),rows[i]?=some r→r[j]?=some p→cT S w (us i j) p)→cT S w (.slice (some ad) rows.length c) (.ro rows)
inductive RV (P:Program) (S:Nat→Prop) (w:World) (β:Nat→Value) (D:Nat→Prop):Value→AV→Prop|pv (v:Value) (p:PV):cT S w v p→RV P S w β D v (.pv p)|own (t:Nat):D t→RV P S w β D (β t) (.own t)|ptr (t o b:Nat):D t→β t=.pointer (some ⟨b,0,none⟩)→RV P S w β D (.pointer (some ⟨b,o,none⟩)) (.ptr t o)|aO (t:Nat) (e:TypeId) (i:Int) (o b n c:Nat) (inf:TypeInfo):D t→P.info? e=some inf→β t=.slice (some ⟨b,0,none⟩) n c→RV P S w β D (.pointer (some ⟨b,i.toNat*inf.size+o,none⟩)) (.aO t e i o)|sub (v:Value) (t:Nat) (e:TypeId) (lo hi:Nat) (inf:TypeInfo) (A A1:Option Addr) (n c:Nat):D t→P.info? e=some inf→β t=.slice A n c→lo≤hi→hi≤n→n≤c→(lo=0→A1=A)→(c≠lo→A1=A.map (·.add (lo*inf.size)))→v=.slice A1 (hi-lo) (c-lo)→RV P S w β D v (.sub t e lo hi)|rp (ad:Addr) (cs:List PV) (us:Nat→Value):S ad.block→(∀j,j<cs.length→w.cell? (ad.add j)=some (us j))→(∀(j:Nat) (p:PV),cs[j]?=some p→(us j).oneCell'=true)→(∀(j:Nat) (p:PV),cs[j]?=some p→cT S w (us j) p)→RV P S w β D (.pointer (some ad)) (.rp cs)|agg (cs:List AV) (us:List Value):us.length=cs.length→(∀(i:Nat) (c:AV) (u:Value),cs[i]?=some c→us[i]?=some u→RV P S w β D u c)→RV P S w β D (.agg us.toArray) (.agg cs)|aK (vs:List AV) (us:List Value):us.length=vs.length→(∀(i:Nat) (c:AV) (u:Value),vs[i]?=some c→us[i]?=some u→RV P S w β D u c)→RV P S w β D (.tuple us.toArray) (.aK vs)|bB (f:FuncId) (cs:List AV) (us:List Value):us.length=cs.length→(∀(i:Nat) (c:AV) (u:Value),cs[i]?=some c→us[i]?=some u→RV P S w β D u c)→RV P S w β D (.func (.func f) #[] us.toArray) (.bB f cs)|bX (g:Bool) (v:Value) (av:AV):(g=true→RV P S w β D v av)→(g=false→v=undef)→RV P S w β D v (.bX g av)|aq (v:Value):RV P S w β D v .aq
def hZ (s:Nat) (es:List (PV×AV)):Prop:=∀e∈es,cL e.1=s
def getM (k:PV):List (PV×AV)→Option AV|[]=>none|e::l=>if lM k e.1=true then some e.2 else getM k l
def jA (k:PV) (v:AV):List (PV×AV)→List (PV×AV)|[]=>[(k,v)]|e::l=>if lM k e.1=true then(k,v)::l else e::jA k v l
def C9:Value→AV|.agg cs=>.agg (cs.toList.map cv)|v=>cv v
def ba (P:Program) (S:Nat→Prop) (w:World) (β:Nat→Value) (D:Nat→Prop) (t:Nat):AO→Prop|.box cs=>∃b us ty,β t=.pointer (some ⟨b,0,none⟩)∧w.heap[b]?=some (.cells us ty (0,0))∧us.size=cs.length∧∀(i:Nat) (c:AV) (u:Value),cs[i]?=some c→us[i]?=some u→u.oneCell'=true∧RV P S w β D u c|.arr e rows=>∃inf us,P.info? e=some inf∧w.ownsRow 0 e inf.size (β t) rows.length us∧(∀r,r∈rows→r.length=inf.size)∧∀(i j:Nat) (r:List PV) (p:PV),rows[i]?=some r→r[j]?=some p→∃u,us[i*inf.size+j]?=some u∧u.oneCell'=true∧cT S w u p|.map es=>∃(b:Nat) (us:Array MapEntry) (c:Nat),β t=.map (some b)∧w.heap[b]?=some (.map us c)∧us.toList.length=es.length∧∀(i:Nat) (e:PV×AV) (u:MapEntry),es[i]?=some e→us.toList[i]?=some u→u.key=bK e.1∧RV P S w β (fun _=>False) u.val e.2|.rws e cs=>∃inf us,P.info? e=some inf∧inf.size=1∧w.ownsRow 0 e inf.size (β t) cs.length us∧∀(i:Nat) (c:AV) (u:Value),cs[i]?=some c→us[i]?=some u→u.oneCell'=true∧RV P S w β D u c|.fO es=>∃(b:Nat) (us:Array MapEntry) (c:Nat),β t=.map (some b)∧w.heap[b]?=some (.map us c)∧MapKept.Stamped us c∧us.toList.length=es.length∧∀(i:Nat) (e:PV×PV) (u:MapEntry),es[i]?=some e→us.toList[i]?=some u→u.key=bK e.1∧cL e.1<99∧u.val.oneCell'=true∧cT S w u.val e.2|.lV rem cur=>∃(r m:Nat) (us:Array MapEntry) (c:Nat) (seen:Array Nat),β t=.pointer (some ⟨r,0,none⟩)∧w.heap[r]?=some (.mapIter (some m) c seen c)∧S m∧w.heap[m]?=some (.map us c)∧MapKept.Stamped us c∧(leftOf us seen).toList.length=rem.length∧(∀(i:Nat) (e:PV×PV) (u:MapEntry),rem[i]?=some e→(leftOf us seen).toList[i]?=some u→u.key=bK e.1∧cL e.1<99∧u.val.oneCell'=true∧cT S w u.val e.2)∧∀e,cur=some e→∃(u:MapEntry) (seen':Array Nat),seen=seen'.push u.born∧u∈us.toList∧u.key=bK e.1∧cL e.1<99∧u.val.oneCell'=true∧cT S w u.val e.2
def aA {α:Type} (aa:Nat→Option α) (t:Nat):Prop:=∃o,aa t=some o
def live (β:Nat→Value) (aa:Nat→Option AO) (b:Nat):Prop:=∃t o,aa t=some o∧bY (β t)=some b
def aR (S0:Nat→Prop) (n0:Nat) (β:Nat→Value) (aa:Nat→Option AO) (w:World) (b:Nat):Prop:=(S0 b∨n0≤b)∧b<w.heap.size∧¬live β aa b
structure Heap (P:Program) (S:Nat→Prop) (w:World) (β:Nat→Value) (aa:Nat→Option AO):Prop where
 holds:∀t o,aa t=some o→ba P S w β (aA aa) t o
 inj:∀t t' b,aA aa t→aA aa t'→bY (β t)=some b→bY (β t')=some b→t=t'
structure vF (L:Nat→Prop) (w w':World):Prop where
 os:w'.os=w.os
 tape:w'.tape=w.tape
 output:w'.output=w.output
 size:w.heap.size≤w'.heap.size
 block:∀b,b<w.heap.size→¬L b→w'.heap[b]?=w.heap[b]?
structure Rel (P:Program) (S0:Nat→Prop) (L:Nat→Prop) (B0:Nat→Value) (w0:World) (N:Nat) (st:St) (a:Act) (w:World) (β:Nat→Value):Prop where
 size:a.tmps.size=N
 defers:a.defers=[]
 vars:∀s,RV P (aR S0 w0.heap.size β st.aa w) w β (aA st.aa) (a.tmps.getD s undef) (st.vars s)
 heap:Heap P (aR S0 w0.heap.size β st.aa w) w β st.aa
 old:∀t b,aA st.aa t→bY (β t)=some b→w0.heap.size≤b∨L b
 oT:N≤998
 rY:∀t,t%1000=999→aA st.aa t→β t=B0 t
 bT:vF L w0 w
def bP:AV→Nat→Option AV|.agg cs,j=>cs[j]?|v,j=>if j=0 then some v else none
def cellAt:AV→Nat→Option AV|.aK vs,p=>(vs[p%1000]?).bind fun v=>bP v (p/1000)|v,p=>if p%1000=0 then bP v (p/1000) else none
def fH (g:Nat→AV→AV) (j:Nat):List AV→List AV|[]=>[]|c::cs=>g (1000*j) c::fH g (j+1) cs
def kR (g:Nat→AV→AV):AV→AV|.agg cs=>.agg (fH g 0 cs)|v=>g 0 v
def gJ (g:Nat→AV→AV) (i:Nat):List AV→List AV|[]=>[]|v::vs=>kR (fun p c=>g (p+i) c) v::gJ g (i+1) vs
def cA (g:Nat→AV→AV):AV→AV|.aK vs=>.aK (gJ g 0 vs)|v=>kR g v
def jG (d:Nat) (p:Nat):AV→AV|.fr _ _=>.own (d+1000*p)|v=>v
def DM (p:Nat):AV→AV|.fr _ _=>.own p|v=>v
def dB:Option AV→Option AO|some (.fr e rows)=>some (.arr e rows)|_=>none
def fo (j:Nat):List AV→List (Nat×AO)|[]=>[]|.fr e rows::cs=>(1000*j,.arr e rows)::fo (j+1) cs|_::cs=>fo (j+1) cs
def jB:AV→List (Nat×AO)|.agg cs=>fo 0 cs|.fr e rows=>[(0,.arr e rows)]|_=>[]
def jH (i:Nat):List AV→List (Nat×AO)|[]=>[]|v::vs=>(jB v).map (fun x=>(x.1+i,x.2))++jH (i+1) vs
def wE:AV→List (Nat×AO)|.aK vs=>jH 0 vs|v=>jB v
def gF:PV→Bool|.int _ _|.bool _|.str _|.nil|.val _=>true|.ro rows=>rows.isEmpty|.mp _|.mv _|.pt _=>false
def bq (rows:List (List PV)):Prop:=∀r∈rows,∀p∈r,gF p=true
def kV:AV→Prop|.pv p=>gF p=true|.fr _ rows=>bq rows|_=>False
def mJ:List AV→Prop|[]=>True|c::cs=>kV c∧mJ cs
def jl:AV→Prop|.agg cs=>mJ cs|v=>kV v
def oc:List AV→Prop|[]=>True|c::cs=>jl c∧oc cs
def flat:AV→Prop|.aK vs=>oc vs|v=>jl v
def b6 (f g:Nat→Option AO):Nat→Option AO:=fun t=>match f t with|some o=>some o|none=>g t
def Cz (P:Program) (f:FuncId) (hin:List (Nat×AO)) (args:List AV) (hout:List (Nat×AO)) (r:AV):Prop:=∀(w:World) (S0:Nat→Prop) (β:Nat→Value) (vals:List Value),(∀b,S0 b→b<w.heap.size)→(∀t b,aA (ab hin) t→bY (β t)=some b→b<w.heap.size)→Heap P (aR S0 w.heap.size β (ab hin) w) w β (ab hin)→vals.length=args.length→(∀(i:Nat) (v:Value) (x:AV),vals[i]?=some v→args[i]?=some x→RV P (aR S0 w.heap.size β (ab hin) w) w β (aA (ab hin)) v x)→Calls P f vals.toArray w fun e w'=>∃v β',e=.returned v∧vF (live β (ab hin)) w w'∧Heap P (aR S0 w.heap.size β' (b6 (ab hout) fun t=>dB (cellAt r t)) w') w' β' (b6 (ab hout) fun t=>dB (cellAt r t))∧(∀t b,aA (b6 (ab hout) fun t=>dB (cellAt r t)) t→bY (β' t)=some b→w.heap.size≤b∨live β (ab hin) b)∧RV P (aR S0 w.heap.size β' (b6 (ab hout) fun t=>dB (cellAt r t)) w') w' β' (aA (b6 (ab hout) fun t=>dB (cellAt r t))) v (cA DM r)
def C6:AV→AV|.fr _ _=>.own 998|.aK [.fr _ _]=>.own 999|x=>x
def kD:List AV→List (Nat×AO)|[]=>[]|.fr e rows::_=>[(998,.arr e rows)]|.aK [.fr e rows]::_=>[(999,.arr e rows)]|_::l=>kD l
def bM:AV→AV|.bB _ [r,.fr _ _]=>r|r=>r
def dD:AV→List (Nat×AO)|.bB _ [_,.fr e rows]=>[(999,.arr e rows)]|_=>[]
def AH (P:Program) (f:FuncId) (ys:List AV) (x:AV):Prop:=∀(w:World) (S0:Nat→Prop) (β:Nat→Value) (vals:List Value),(∀b,S0 b→b<w.heap.size)→(∀t b,aA (ab (kD ys)) t→bY (β t)=some b→b<w.heap.size)→Heap P (aR S0 w.heap.size β (ab (kD ys)) w) w β (ab (kD ys))→vals.length=ys.length→(∀(i:Nat) (v:Value) (x:AV),vals[i]?=some v→(ys.map C6)[i]?=some x→RV P (aR S0 w.heap.size β (ab (kD ys)) w) w β (aA (ab (kD ys))) v x)→Calls P f vals.toArray w fun e w'=>∃v β',e=.returned v∧vF (live β (ab (kD ys))) w w'∧Heap P (aR (fun b=>S0 b∨live β (ab (kD ys)) b) w.heap.size β' (b6 (ab (dD x)) fun t=>dB (cellAt (bM x) t)) w') w' β' (b6 (ab (dD x)) fun t=>dB (cellAt (bM x) t))∧(∀t b,aA (b6 (ab (dD x)) fun t=>dB (cellAt (bM x) t)) t→bY (β' t)=some b→w.heap.size≤b∨live β (ab (kD ys)) b)∧(∀t,aA (ab (dD x)) t→aA (ab (kD ys)) t∧β' t=β t)∧RV P (aR (fun b=>S0 b∨live β (ab (kD ys)) b) w.heap.size β' (b6 (ab (dD x)) fun t=>dB (cellAt (bM x) t)) w') w' β' (aA (b6 (ab (dD x)) fun t=>dB (cellAt (bM x) t))) v (cA DM (bM x))
inductive HT (P:Program) (S:Nat→Prop) (w:World):Value→AV→List Nat→Prop|leaf (v:Value) (y:AV):RV P S w (fun _=>undef) (fun _=>False) v y→HT P S w v y []|fr (v:Value) (e:TypeId) (rows:List (List PV)) (inf:TypeInfo) (us:List Value):P.info? e=some inf→w.ownsRow 0 e inf.size v rows.length us→(∀r,r∈rows→r.length=inf.size)→(∀(i j:Nat) (r:List PV) (p:PV),rows[i]?=some r→r[j]?=some p→∃u,us[i*inf.size+j]?=some u∧u.oneCell'=true∧cT S w u p)→HT P S w v (.fr e rows) (bY v).toList|mf (b:Nat) (us:Array MapEntry) (c:Nat) (es:List (PV×PV)):w.heap[b]?=some (.map us c)→MapKept.Stamped us c→us.toList.length=es.length→(∀(i:Nat) (e:PV×PV) (u:MapEntry),es[i]?=some e→us.toList[i]?=some u→u.key=bK e.1∧cL e.1<99∧u.val.oneCell'=true∧cT S w u.val e.2)→HT P S w (.map (some b)) (.mf es) [b]|bx (b:Nat) (us:Array Value) (ty:TypeId) (cs:List AV) (bss:List (List Nat)):w.heap[b]?=some (.cells us ty (0,0))→us.size=cs.length→bss.length=cs.length→(∀(i:Nat) (u:Value),us[i]?=some u→u.oneCell'=true)→(∀(i:Nat) (c:AV) (u:Value) (bs:List Nat),cs[i]?=some c→us[i]?=some u→bss[i]?=some bs→HT P S w u c bs)→HT P S w (.pointer (some ⟨b,0,none⟩)) (.bx cs) (b::bss.flatten)|agg (us:List Value) (cs:List AV) (bss:List (List Nat)):us.length=cs.length→bss.length=cs.length→(∀(i:Nat) (c:AV) (u:Value) (bs:List Nat),cs[i]?=some c→us[i]?=some u→bss[i]?=some bs→HT P S w u c bs)→HT P S w (.agg us.toArray) (.agg cs) bss.flatten|aK (us:List Value) (cs:List AV) (bss:List (List Nat)):us.length=cs.length→bss.length=cs.length→(∀(i:Nat) (c:AV) (u:Value) (bs:List Nat),cs[i]?=some c→us[i]?=some u→bss[i]?=some bs→HT P S w u c bs)→HT P S w (.tuple us.toArray) (.aK cs) bss.flatten
def Ba (P:Program) (S:Nat→Prop) (w:World) (vs:List Value) (ys:List AV) (bss:List (List Nat)):Prop:=vs.length=ys.length∧bss.length=ys.length∧∀(i:Nat) (y:AV) (v:Value) (bs:List Nat),ys[i]?=some y→vs[i]?=some v→bss[i]?=some bs→HT P S w v y bs
def Ew:AV→AV|.aK [y]=>y|y=>y
def Dd:AV→Bool|.aK [_]=>true|_=>false
def dJ {α:Type}:List AV→List α→List α|y::ys,v::vs=>if Dd y=true then v::dJ ys vs else dJ ys vs|_,_=>[]
def jf:AV→AV|.bB _ (r::_)=>r|r=>r
def jz:AV→List AV|.bB _ (_::os)=>os|_=>[]
def wS (P:Program) (f:FuncId) (ys:List AV) (x:AV):Prop:=∀(w:World) (S0:Nat→Prop) (vals:List Value) (bss:List (List Nat)),(∀b,S0 b→b<w.heap.size∧b∉bss.flatten)→bss.flatten.Nodup→Ba P S0 w vals (ys.map Ew) bss→Calls P f vals.toArray w fun e w'=>∃v bss',e=.returned v∧vF (·∈bss.flatten) w w'∧bss'.flatten.Nodup∧(∀b∈bss'.flatten,w.heap.size≤b∨b∈bss.flatten)∧Ba P (fun b=>(S0 b∨b∈bss.flatten∨w.heap.size≤b)∧b<w'.heap.size∧b∉bss'.flatten) w' (dJ ys vals++[v]) (jz x++[jf x]) bss'
def yQ:AV→Bool|.agg []=>true|_=>false
def sr:Value→Bool|.agg cs=>cs.isEmpty|_=>false
def A0:Option AO→Option PV|some (.arr _ rows)=>some (.ro rows)|some (.map es)=>if es.all (fun e=>yQ e.2)=true then some (.mp (es.map (·.1))) else none|some (.fO es)=>some (.mv es)|_=>none
def dR (aa:Nat→Option AO):AV→Option PV|.pv .nil=>some (.ro [])|.pv p=>some p|.own t=>A0 (aa t)|.sub t e lo hi=>(cz (aa t)).bind fun r=>if r.1=e then some (.ro ((r.2.take hi).drop lo)) else none|_=>none
def gV (aa:Nat→Option AO):List AV→Option (List PV)|[]=>some []|c::cs=>(dR aa c).bind fun p=>(gV aa cs).map (p::·)
def ef (aa:Nat→Option AO):AV→Option AV|.ptr t o=>(dX (aa t)).bind fun cs=>(gV aa (cs.drop o)).map .rp|.rp cs=>some (.rp cs)|.agg cs=>(gV aa cs).map fun ps=>.agg (ps.map .pv)|.bB f []=>some (.bB f [])|v=>(dR aa v).map .pv
def ju (aa:Nat→Option AO):List AV→Option (List AV)|[]=>some []|c::cs=>(ef aa c).bind fun p=>(ju aa cs).map (p::·)
def mC (aa:Nat→Option AO):AV→Option AV|.bB f caps=>(ju aa caps).map (.bB f)|v=>ef aa v
def er (aa:Nat→Option AO):List AV→Option (List AV)|[]=>some []|c::cs=>(mC aa c).bind fun p=>(er aa cs).map (p::·)
def fu:AV→Bool|.pv _|.rp _=>true|_=>false
def fF:List AV→Bool|[]=>true|c::cs=>fu c&&fF cs
def dr:AV→Bool|.agg cs=>fF cs|.bB _ cs=>fF cs|v=>fu v
def dO:List AV→Bool|[]=>true|c::cs=>dr c&&dO cs
def Lb:Option AO→Option AV|some (.arr e rows)=>some (.fr e rows)|some (.fO es)=>some (.mf es)|_=>none
def CF (f:AV→Option (AV×List Nat)):List AV→Option (List AV×List Nat)|[]=>some ([],[])|c::cs=>(f c).bind fun r=>(CF f cs).map fun q=>(r.1::q.1,r.2++q.2)
def rd:Nat→(Nat→Option AO)→AV→Option (AV×List Nat)|0,_,_=>none|n+1,aa,x=>match x with|.own t=>(Lb (aa t)).map fun y=>(y,[t])|.ptr t 0=>(dX (aa t)).bind fun cs=>(CF (rd n aa) cs).map fun r=>(.bx r.1,t::r.2)|.agg cs=>(CF (rd n aa) cs).map fun r=>(.agg r.1,r.2)|.pv p=>some (.pv p,[])|.rp cs=>some (.rp cs,[])|.bB f []=>some (.bB f [],[])|_=>none
def tk:Bool→List Nat×List Nat→Option (Nat×List Nat×List Nat)|true,(p::ps,us)=>some (p,ps,us)|false,(ps,u::us)=>some (u,ps,us)|_,_=>none
def lS (f:AV→List Nat×List Nat→Option (AV×List (Nat×AO)×List Nat×List Nat)):List AV→List Nat×List Nat→Option (List AV×List (Nat×AO)×List Nat×List Nat)|[],s=>some ([],[],s)|c::cs,s=>(f c s).bind fun r=>(lS f cs r.2.2).map fun q=>(r.1::q.1,r.2.1++q.2.1,q.2.2)
def num:Nat→Bool→AV→List Nat×List Nat→Option (AV×List (Nat×AO)×List Nat×List Nat)|0,_,_,_=>none|n+1,top,y,s=>match y with|.fr e rows=>(tk top s).map fun q=>(.own q.1,[(q.1,.arr e rows)],q.2)|.mf es=>(tk top s).map fun q=>(.own q.1,[(q.1,.fO es)],q.2)|.bx cs=>(tk top s).bind fun q=>(lS (num n false) cs q.2).map fun r=>(.ptr q.1 0,(q.1,.box r.1)::r.2.1,r.2.2)|.agg cs=>(lS (num n top) cs s).map fun r=>(.agg r.1,r.2)|.aK cs=>(lS (num n top) cs s).map fun r=>(.aK r.1,r.2)|.pv p=>some (.pv p,[],s)|.rp cs=>some (.rp cs,[],s)|.bB f caps=>if fF caps=true then some (.bB f caps,[],s) else none|_=>none
def oJ:AV→List Nat|.own t=>[t]|.ptr t 0=>[t]|_=>[]
def oQ:AV→List Nat|.agg cs=>cs.flatMap oJ|x=>oJ x
def dx (W:List Nat):AV→AV|.own t=>if W.contains t then .aq else .own t|.ptr t o=>if W.contains t then .aq else .ptr t o|.aO t e i o=>if W.contains t then .aq else .aO t e i o|.sub t e lo hi=>if W.contains t then .aq else .sub t e lo hi|.pv p=>.pv p|.rp cs=>.rp cs|.bB f []=>.bB f []|_=>.aq
def gB (W:List Nat):AV→AV|.agg cs=>.agg (cs.map (dx W))|v=>dx W v
def jt (W:List Nat):AV→AV|.aK cs=>.aK (cs.map (gB W))|.bB f cs=>.bB f (cs.map (gB W))|.bX g v=>.bX g (jt W v)|v=>gB W v
def eg (W:List Nat) (v:AV):AV:=if W.isEmpty=true then v else jt W v
def tL (W:List Nat):AO→AO|.box cs=>.box (cs.map (dx W))|.rws e cs=>.rws e (cs.map (dx W))|o=>o
def gS (W:List Nat) (o:AO):AO:=if W.isEmpty=true then o else tL W o
def fG (W:List Nat) (f:Nat→AV):Nat→AV:=fun s=>eg W (f s)
def dV (T W:List Nat) (f:Nat→Option AO):Nat→Option AO:=fun t=>if T.contains t then none else(f t).map (gS W)
def xq (aa objs':Nat→Option AO) (T:List Nat):List Nat→List AV→Option (List AV)|[],[]=>some []|k::ks,x::xs=>(if k=0 then mC objs' (eg T x) else if k=1 then(rd 5 aa x).map (·.1) else(rd 5 aa x).map fun r=>.aK [r.1]).bind fun y=>(xq aa objs' T ks xs).map (y::·)|_,_=>none
def dP (aa:Nat→Option AO):List Nat→List AV→List Nat|k::ks,x::xs=>(if k=0 then[] else((rd 5 aa x).map (·.2)).getD [])++dP aa ks xs|_,_=>[]
def dt:List Nat→List AV→List AV|k::ks,x::xs=>if 1<k then x::dt ks xs else dt ks xs|_,_=>[]
def dF (T:List Nat):List Nat→List AV→Bool|k::ks,x::xs=>(k !=0||dr (eg T x))&&dF T ks xs|_,_=>true
def eP:Nat→AV→Prop|0,_=>False|n+1,y=>match y with|.fr _ rows=>bq rows|.mf es=>∀e∈es,gF e.2=true|.bx cs|.agg cs|.aK cs=>∀c∈cs,eP n c|.pv p=>gF p=true|.bB _ []=>True|_=>False
def aJ (d:Nat) (r:AV):List (Nat×AO):=(wE r).map fun x=>(d+1000*x.1,x.2)
def bR {α:Type} (l:List α) (o:Nat) (ps:List α):List α:=l.take o++ps++l.drop (o+ps.length)
def bO (t:Nat):AV→AV|.own s=>if s=t then .aq else .own s|.aO s e i o=>if s=t then .aq else .aO s e i o|.sub s e i o=>if s=t then .aq else .sub s e i o|.pv p=>.pv p|.ptr s o=>.ptr s o|.rp cs=>.rp cs|.bB f []=>.bB f []|_=>.aq
def bJ (t:Nat):List AV→List AV|[]=>[]|c::cs=>bO t c::bJ t cs
def kill (t:Nat):AV→AV|.agg cs=>.agg (bJ t cs)|.aK cs=>.aK (bJ t cs)|.bX g v=>.bX g (kill t v)|v=>bO t v
def cZ (t:Nat):AO→AO|.box cs=>.box (bJ t cs)|.rws e cs=>.rws e (bJ t cs)|o=>o
def cb (t:Nat) (f:Nat→AV):Nat→AV:=fun s=>kill t (f s)
def cQ (t:Nat) (f:Nat→Option AO):Nat→Option AO:=fun s=>(f s).map (cZ t)
def ck (k:AK) (d:Nat) (xs:List AV) (aa:Nat→Option AO):Option (Prop×AV×AO):=match k,xs with|.bL e,_=>some (True,.own d,.arr e [])|.box,[x]=>if eM (cellsOf x) then some (True,.ptr d 0,.box (cellsOf x)) else none|.alloc zs,_=>if zs.all (·.oneCell') then some (True,.ptr d 0,.box (zs.map cv)) else none|.eW e sz,xs=>(rowsOf xs).map fun rows=>(∀r∈rows,r.length=sz,.own d,.arr e rows)|.app e sz bytes,[.pv .nil,x]=>(cE aa x).map fun rows=>(rows.length*bytes≤140737488355328∧rows.length≤maxLen∧(∀r∈rows,r.length=sz),.own d,.arr e rows)|_,_=>none
def dN (k:AK) (xs:List AV) (aa:Nat→Option AO):Option (Prop×Nat×AO):=match k,xs with|.store none,[.ptr t o,v]=>(dX (aa t)).bind fun cs=>if dI v∧o<cs.length then some (True,t,.box (cs.set o v)) else none|.store (some n),[.ptr t o,.agg vs]=>(dX (aa t)).bind fun cs=>if eM vs∧vs.length=n∧o+n≤cs.length then some (True,t,.box (bR cs o vs)) else none|.store none,[.aO t e i o,.pv p]=>(cz (aa t)).bind fun r=>if r.1=e∧o<(rowAt r.2 i).length∧dI (.pv p) then some (0≤i∧i<r.2.length,t,.arr e (r.2.set i.toNat ((rowAt r.2 i).set o p))) else none|.store (some n),[.aO t e i o,.agg vs]=>(cz (aa t)).bind fun r=>(eb vs).bind fun ps=>if r.1=e∧eM vs∧ps.length=n∧o+n≤(rowAt r.2 i).length then some (0≤i∧i<r.2.length,t,.arr e (r.2.set i.toNat (bR (rowAt r.2 i) o ps))) else none|.app e sz bytes,[.own t,x]=>(cz (aa t)).bind fun r=>(cE aa x).bind fun more=>if r.1=e∧t%1000≠999 then some ((r.2.length+more.length)*bytes≤140737488355328∧r.2.length+more.length≤maxLen∧(∀r∈more,r.length=sz),t,.arr e (r.2++more)) else none|_,_=>none
def ah {α:Type} (o:Option α) (K:α→Prop):Prop:=match o with|some x=>K x|none=>False
def na (φ ψ:Prop) (c:Bool):AV→AV→Option (Prop×AV)|.pv (.bool x),.pv (.bool y)=>some ((c=true→φ)∧(c=false→ψ),.pv (.bool (cond c x y)))|.pv (.bool x),_=>some (c=true∧φ,.pv (.bool x))|_,.pv (.bool y)=>some (c=false∧ψ,.pv (.bool y))|_,_=>none
def gK:AV→Option Bool|.pv (.bool c)=>some c|_=>none
def qS:List AV→Option (Prop×AV)|[c,a,b]=>(gK (strip c)).bind fun g=>(na (asks a) (asks b) g (strip a) (strip b)).map fun r=>(asks c∧r.1,r.2)|_=>none
def bk (os:List (Nat×AO)) (aa:Nat→Option AO):Nat→Option AO:=fun t=>match ab os t with|some o=>some o|none=>aa t
inductive bz where|put (v:AV)|new (v:AV) (os:List (Nat×AO))|sj (t:Nat) (o:AO)|app (t:Nat) (o:AO)
def bz.on (d:Option Nat):bz→St→St|.put v,st=>⟨Ab.put d v st.vars,st.aa⟩|.new v os,st=>⟨Ab.put d v st.vars,bk os st.aa⟩|.sj t o,st=>⟨Ab.put d .aq st.vars,aH t o st.aa⟩|.app t o,st=>⟨Ab.put d (.own t) (cb t st.vars),aH t o (cQ t st.aa)⟩
def mm:List AV→Bool|.own _::_=>true|_=>false
def mG:AV→Bool|.aK vs=>decide (vs.length≤1000)|_=>true
def il:AV→Bool|.pv _|.rp _|.fr _ _=>true|_=>false
def mQ:List AV→Bool|[]=>true|c::cs=>il c&&mQ cs
def kL:AV→Bool|.agg cs=>mQ cs|v=>il v
def oq:List AV→Bool|[]=>true|c::cs=>kL c&&oq cs
def cB:AV→Bool|.aK vs=>decide (vs.length≤900)&&oq vs|v=>kL v
def C4:AV→Bool
 |.bx _|.mf _=>true|.agg cs=>cs.any fun c=>match c with|.bx _|.mf _=>true|_=>false
 |_=>false
def mF:AV→Bool|.aK vs=>vs.any C4|v=>C4 v
def im (d:Nat):List Nat:=[d,d+1000,d+2000,d+3000,d+4000,d+5000,d+6000,d+7000]
def nW (r:AV):Prop:=if mF r=true then eP 5 r else flat r
def iB (d:Nat) (r:AV):List (Nat×AO):=if mF r=true then(((num 5 false r ([],im d)).map (·.2.1)).getD []) else aJ d r
def wA (d:Nat) (r:AV):AV:=if mF r=true then(((num 5 false r ([],im d)).map (·.1)).getD .aq) else cA (jG d) r
def uV (d:Nat) (r:AV):Bool:=if mF r=true then(num 5 false r ([],im d)).isSome else cB r
def HY (P:Program) (f:FuncId) (ys:List AV) (r:AV):Prop:=(mF r=true→wS P f ys (.bB 0 [r]))∧(mF r=false→Cz P f [] ys [] r)
abbrev bI:=FuncId→List AV→Option (Prop×AV)
def c7 (P:Program) (Γ:bI):Prop:=∀f ys φ r,Γ f ys=some (φ,r)→φ→(f<1000000∧Cz P f [] ys [] r)∨(P.funcs.size≤1000000∧1000000≤f∧f<2000000∧(ys=[.aq]∨AH P (f-1000000) ys r))∨(P.funcs.size≤1000000∧2000000≤f∧f<3000000∧(ys=[.aq]∨wS P (f-2000000) ys r))∨(P.funcs.size≤1000000∧3000000≤f∧wS P (f-3000000) ys (.bB 0 [r]))
def LB:Option (Prop×AV)→Option (Prop×AV)→Option (Prop×AV)|some x,_=>some (x.1∧mF x.2=false,x.2)|none,y=>y.map fun x=>(x.1∧mF x.2=true,x.2)
def gt (Γ:bI) (f:FuncId) (ys:List AV):Option (Prop×AV):=LB (Γ f ys) (Γ (f+3000000) ys)
theorem YR {n f:Nat} (h:3000000≤f) (hn:n≤1000000):¬f<n:=by omega
theorem c7.UN {P:Program}{Γ:bI} (h:c7 P Γ) {f:FuncId} (hf:f<P.funcs.size) {ys:List AV}{φ:Prop}{r:AV} (hr:gt Γ f ys=some (φ,r)) (hφ:φ):HY P f ys r:=by unfold gt at hr;cases hg:Γ f ys with
 |some x=>
  rw[hg]at hr;have hr:some (x.1∧mF x.2=false,x.2)=some (φ,r):=hr;simp only[Option.some.injEq,Prod.mk.injEq]at hr;obtain⟨rfl,rfl⟩:=hr;refine⟨fun e=>absurd (hφ.2.symm.trans e) Bool.false_ne_true,fun _=>?_⟩;rcases h f ys x.1 x.2 hg hφ.1 with⟨_,h⟩|⟨h,h2,_⟩|⟨h,h2,_⟩|⟨h,h2,_⟩;·exact h
  ·exact absurd hf (Nat.not_lt.2 (Nat.le_trans h h2))
  ·exact absurd hf (Nat.not_lt.2 (Nat.le_trans h (Nat.le_trans (by decide) h2)))
  ·exact absurd hf (YR h2 h)|none=>
  rw[hg]at hr;obtain⟨x,hx,hr⟩:=Option.map_eq_some_iff.1 (show(Γ (f+3000000) ys).map (fun x=>(x.1∧mF x.2=true,x.2))=some (φ,r) from hr);simp only[Prod.mk.injEq]at hr;obtain⟨rfl,rfl⟩:=hr;refine⟨fun _=>?_,fun e=>absurd (e.symm.trans hφ.2) Bool.false_ne_true⟩;rcases h (f+3000000) ys x.1 x.2 hx hφ.1 with⟨h,_⟩|⟨_,_,h,_⟩|⟨_,_,h,_⟩|⟨_,_,h⟩;·exact absurd h (Nat.not_lt.2 (Nat.le_trans (by decide) (Nat.le_add_left 3000000 f)))
  ·exact absurd h (Nat.not_lt.2 (Nat.le_trans (by decide) (Nat.le_add_left 3000000 f)))
  ·exact absurd h (Nat.not_lt.2 (Nat.le_add_left 3000000 f))
  ·rw[show f+3000000-3000000=f from Nat.add_sub_cancel _ _]at h;exact h
def cf (P:Program) (Γ:bI) (d:Option Nat) (f:FuncId) (xs:List AV) (aa:Nat→Option AO) (C:bz→Prop):Prop:=ah d fun d=>al xs∧ah (er aa (xs.map strip)) fun ys=>ah (gt Γ f ys) fun x=>x.1∧(dO (xs.map strip)=true∨nW x.2)∧(∀y∈iB d x.2,aa y.1=none)∧uV d x.2=true∧C (.new (wA d x.2) (iB d x.2))
def aS (P:Program) (Γ:bI) (d:Option Nat) (k:AK) (xs:List AV) (aa:Nat→Option AO) (C:bz→Prop):Prop:=match k with|.aM=>ah xs.head? fun x=>xs.length=1∧C (.put x)|.pick=>ah (qS xs) fun x=>x.1∧C (.put x.2)|.bL _|.box|.alloc _|.eW _ _=>ah d fun d=>al xs∧ah (ck k d (xs.map strip) aa) fun x=>x.1∧aa d=none∧C (.new x.2.1 [(d,x.2.2)])|.store _=>al xs∧ah (dN k (xs.map strip) aa) fun x=>x.1∧C (.sj x.2.1 x.2.2)|.app _ _ _=>al xs∧if mm (xs.map strip) then ah (dN k (xs.map strip) aa) fun x=>x.1∧C (.app x.2.1 x.2.2) else ah d fun d=>ah (ck k d (xs.map strip) aa) fun x=>x.1∧aa d=none∧C (.new x.2.1 [(d,x.2.2)])|.call f=>cf P Γ d f xs aa C|_=>al xs∧ah (ak k (xs.map strip) aa) fun x=>x.1∧C (.put x.2)
def wv (Γ:bI) (c:Bool) (f:FuncId) (xs:List AV) (aa:Nat→Option AO) (C:bz→Prop):Prop:=ah (er aa (xs.map strip)) fun ys=>ah (gt Γ f ys) fun x=>(c=true→al xs∧x.1)∧flat x.2∧wE x.2=[]∧cB x.2=true∧C (.put (.bX c x.2))
def Fs:AV→AV|.fr _ rows=>.pv (.ro rows)|v=>v
def GQ:AV→AV|.agg cs=>.agg (cs.map Fs)|v=>Fs v
def HB:AV→AV|.aK vs=>.aK (vs.map GQ)|v=>GQ v
def TI:Option (List (List PV))→AV|some rows=>.bX false (.pv (.ro rows))|none=>.aq
def yY (xs:List AV):AV:=TI (rowsOf (xs.map strip))
def b7 (P:Program) (Γ:bI) (c:Bool) (d:Option Nat) (k:AK) (xs:List AV) (aa:Nat→Option AO) (C:bz→Prop):Prop:=match k with|.aM=>ah xs.head? fun x=>xs.length=1∧C (.put (.bX c x))|.pick=>ah (qS xs) fun x=>(c=true→x.1)∧C (.put (.bX c x.2))|.eW _ _=>(c=true→aS P Γ d k xs aa C)∧(c=false→C (.put (yY xs)))|.bL _|.box|.alloc _|.store _|.app _ _ _=>(c=true→aS P Γ d k xs aa C)∧(c=false→C (.put .aq))|.call f=>ah (er aa (xs.map strip)) fun ys=>ah (gt Γ f ys) fun x=>if(!mF x.2&&(wE x.2).isEmpty)=true then(c=true→al xs∧x.1)∧flat x.2∧wE x.2=[]∧cB x.2=true∧C (.put (.bX c x.2)) else(c=true→aS P Γ d k xs aa C)∧(c=false→C (.put (.bX false (HB x.2))))|_=>ah (ak k (xs.map strip) aa) fun x=>(c=true→al xs∧x.1)∧C (.put (.bX c x.2))
def qu:Bool→Option Bool→Option Bool|false,_=>some false|true,o=>o
def bC:AV→Bool→Option Bool|.pv (.bool b),want=>some (if want then b else !b)|.bX c v,want=>qu c (bC v want)|_,_=>none
def iF (un:List Nat) (t:Nat):Prop:=un.contains (t%1000)=false
def rT (un:List Nat):AV→Prop|.own t|.ptr t _|.aO t _ _ _|.sub t _ _ _=>iF un t|_=>True
def fJ (un:List Nat):List AV→Prop|[]=>True|c::cs=>rT un c∧fJ un cs
def lG (un:List Nat) (aa:Nat→Option AO):AV→Prop|.ptr t _=>iF un t∧fJ un ((dX (aa t)).getD [])|.agg cs=>fJ un cs|v=>rT un v
def jo (un:List Nat) (aa:Nat→Option AO):List AV→Prop|[]=>True|c::cs=>lG un aa c∧jo un aa cs
def oi (un:List Nat) (aa:Nat→Option AO):AV→Prop|.bB _ cs=>jo un aa cs|v=>lG un aa v
def iM (un:List Nat) (aa:Nat→Option AO):List AV→Prop|[]=>True|c::cs=>oi un aa c∧iM un aa cs
def qd:Option Nat→bz→Prop|none,_=>True|some s,.sj t _=>t=s|some _,_=>False
def jq (un:List Nat):bz→Prop|.app t _=>un.contains (t%1000+1000)=false|_=>True
def xK (un:List Nat) (tg:Option Nat) (e:bz):Prop:=qd tg e∧jq un e
def cX (P:Program) (Γ:bI) (i:AI) (vars:Nat→AV) (aa:Nat→Option AO) (C:bz→Prop):Prop:=match i.g with|none=>aS P Γ i.d i.k (i.xs.map (ev vars)) aa C|some (s,want)=>ah (bC (vars s) want) fun c=>b7 P Γ c i.d i.k (i.xs.map (ev vars)) aa C
def cw (P:Program) (Γ:bI) (i:AI) (K:St→Prop) (st:St):Prop:=(i.un=[]∨iM i.un st.aa ((i.xs.map (ev st.vars)).map strip))∧cX P Γ i st.vars st.aa fun e=>xK i.un i.tg e∧K (e.on i.d st)
def gI (P:Program) (f:FuncId):Bool:=match P.funcs[f]? with|some fn=>fn.name != "runtime.NumGoroutine" &&fn.body.isSome|none=>false
def jk:List AV→Option (FuncId×List AV)|.bB f caps::args=>some (f,args++caps)|.pv (.val v)::args=>(Gm v).map fun f=>(f,args)|_=>none where Gm:Value→Option FuncId|.func (.func f) ⟨[]⟩ ⟨[]⟩=>some f|_=>none
def eE:List AV→Bool|[]=>false|.aq::_=>true|.pv (.val _)::_=>true|.rp []::_=>true|_::l=>eE l
def ED:Option Bool→Bool|some false=>true|_=>false
def fL:Bool→Bool→Prop→Prop→Prop|false,_,A,_=>A|true,f,A,B=>if f=true then B else A
def sh (t:Nat) (e0:TypeId) (rows:List (List PV)):AV→AV|.own s=>if s=t then .pv (.ro rows) else .own s|.sub s e lo hi=>if s=t then(if e=e0 then .pv (.ro ((rows.take hi).drop lo)) else .aq) else .sub s e lo hi|v=>kill t v
def Df (t:Nat) (e0:TypeId) (rows:List (List PV)) (f:Nat→AV):Nat→AV:=fun s=>sh t e0 rows (f s)
def eQ (t:Nat) (f:Nat→Option AO):Nat→Option AO:=fun s=>if s=t then none else(f s).map (cZ t)
def MA (t:Nat) (e0:TypeId) (rows:List (List PV)):AV→AV|.own s=>if s=t then .pv (.ro rows) else .own s|.sub s e lo hi=>if s=t then(if e=e0 then .pv (.ro ((rows.take hi).drop lo)) else .aq) else .sub s e lo hi|c=>bO t c
def oO (t:Nat) (e0:TypeId) (rows:List (List PV)):List AV→List AV|[]=>[]|c::cs=>MA t e0 rows c::oO t e0 rows cs
def zM (t:Nat) (e0:TypeId) (rows:List (List PV)):AV→AV|.agg cs=>.agg (oO t e0 rows cs)|v=>sh t e0 rows v
def C7 (t:Nat) (e0:TypeId) (rows:List (List PV)):AO→AO|.box cs=>.box (oO t e0 rows cs)|o=>cZ t o
def VH (t:Nat) (e0:TypeId) (rows:List (List PV)) (f:Nat→AV):Nat→AV:=fun s=>zM t e0 rows (f s)
def xR (t:Nat) (e0:TypeId) (rows:List (List PV)) (f:Nat→Option AO):Nat→Option AO:=fun s=>if s=t then none else(f s).map (C7 t e0 rows)
def gC (st:St):AV→St
 |.own t=>match cz (st.aa t) with|some r=>⟨VH t r.1 r.2 st.vars,xR t r.1 r.2 st.aa⟩|none=>st
 |_=>st
def fh:St→List AV→St|st,[]=>st|st,c::cs=>fh (gC st c) cs
def share1 (st:St):AV→St|.agg cs=>fh st cs|v=>gC st v
def cj (st:St):List AV→St|[]=>st|v::l=>cj (share1 st v) l
def Xx:PV→PV|.nil=>.ro []|p=>p
def tD:AV→AV|.pv p=>.pv (Xx p)|c=>c
def pg:List AV→List AV|[]=>[]|c::cs=>tD c::pg cs
def BG:AV→AV|.agg cs=>.agg (pg cs)|v=>tD v
def xF:AO→AO|.box cs=>.box (pg cs)|o=>o
def uP (st:St):St:=⟨fun s=>BG (st.vars s),fun s=>(st.aa s).map xF⟩
def oI:Option AO→Option (List (PV×PV))|some (.fO es)=>some es|_=>none
def SM (t:Nat) (es:List (PV×PV)):AV→AV|.own s=>if s=t then .pv (.mv es) else .own s|v=>kill t v
def vL (t:Nat) (st:St):St:=match oI (st.aa t) with|some es=>⟨fun s=>SM t es (st.vars s),eQ t st.aa⟩|none=>st
def ue (t:Nat) (st:St):St:=if t=999996 then uP st else if 1000000000000000≤t then vL (t-1000000000000000) st else share1 st (.own t)
def cd:List Nat→St→St|[],st=>st|t::ts,st=>cd ts (ue t st)
def D4:AV→Bool|.pv (.ro _)|.pv (.mp _)|.pv (.mv _)|.pv (.pt _)|.rp _=>true|_=>false
def zS:List AV→Bool|[]=>false|c::cs=>D4 c||zS cs
def Ml:AV→Bool|.agg cs=>zS cs|v=>D4 v
def AD:List AV→Bool|[]=>false|c::cs=>Ml c||AD cs
def PC:AV→Bool|.aK vs=>AD vs|v=>Ml v
def qY (t:Nat) (st:St):St:=match cz (st.aa t) with|some _=>⟨cb t st.vars,eQ t st.aa⟩|none=>st
def vP (P:Program) (Γ:bI) (d:Option Nat) (f:FuncId) (xs:List Operand) (K:St→Prop) (st:St):Prop:=cf P Γ d f (xs.map (ev st.vars)) st.aa fun e=>K (e.on d st)
def kc (P:Program) (Γ:bI) (i:AI) (f:FuncId) (K:St→Prop) (st:St):Prop:=ah (er st.aa ((i.xs.map (ev st.vars)).map strip)) fun ys=>ah (gt Γ f ys) fun x=>if(PC x.2&&!dO ((i.xs.map (ev st.vars)).map strip))=true then vP P Γ i.d f i.xs K (cj st ((i.xs.map (ev st.vars)).map strip)) else cw P Γ i K st
def TS:AV→Bool|.pv (.ro _)|.pv (.mp _)|.pv (.mv _)|.pv (.pt _)|.rp _|.fr _ _|.bx _|.mf _=>true|_=>false
def Q7:List AV→Bool|[]=>false|c::cs=>TS c||Q7 cs
def Yj:AV→Bool|.agg cs=>Q7 cs|v=>TS v
def Qr:List AV→Bool|[]=>false|c::cs=>Yj c||Qr cs
def TL:AV→Bool|.aK vs=>Qr vs|v=>Yj v
def nA (t:Nat):AV→Prop|.own s|.ptr s _|.aO s _ _ _|.sub s _ _ _=>s≠t|.pv _|.rp _|.aq=>True|.bB _ []=>True|_=>False
def pW (t:Nat):List AV→Prop|[]=>True|c::cs=>nA t c∧pW t cs
def tE (t:Nat):AV→Prop|.agg cs|.bB _ cs=>pW t cs|v=>nA t v
def jV (t p:Nat):List AV→Prop|[]=>True|v::vs=>(match p with|0=>ll vs|p+1=>tE t v∧jV t p vs) where ll:List AV→Prop|[]=>True|v::vs=>tE t v∧ll vs
def fc (aa:Nat→Option AO) (k:Nat):AV→Option (Nat×TypeId×List (List PV))|.own t=>(cz (aa t)).map fun r=>(t,r.1,r.2)|.sub t e 0 hi=>if k=998 then(cz (aa t)).bind fun r=>if r.1=e then some (t,e,r.2.take hi) else none else none|_=>none
def sU (k:Nat) (e:TypeId) (rows:List (List PV)):AV:=if k=998 then .fr e rows else .aK [.fr e rows]
def om (aa:Nat→Option AO) (m:AV):Nat→List AV→Option (List AV)|_,[]=>some []|0,_::vs=>(er aa vs).map (m::·)|p+1,v::vs=>(mC aa v).bind fun y=>(om aa m p vs).map (y::·)
def hH:Nat→List AV→Bool|_,[]=>true|0,_::vs=>dO vs|p+1,v::vs=>dr v&&hH p vs
def mj:List (Nat×AO)→Prop|[]=>True|(_,.arr _ rows)::l=>bq rows∧mj l|_::l=>mj l
def cm (t:Nat) (x:AV) (aa:Nat→Option AO):Nat→Option AO:=match dD x with|(_,o)::_=>aH t o aa|[]=>eQ t aa
def fI (t:Nat) (x:AV) (vars:Nat→AV):Nat→AV:=match dD x with|_::_=>vars|[]=>cb t vars
def zu:AV→Option (Nat×Nat)|.ptr p k=>if k=998∨k=999∨k=997∨k=996 then some (p,k) else none|_=>none
def cW (Γ:bI) (f:FuncId):Option (Nat×Nat):=(Γ (f+1000000) [.aq]).bind fun x=>zu x.2
def jn (P:Program) (Γ:bI) (d:Option Nat) (f:FuncId) (xs:List AV) (p k:Nat) (K:St→Prop) (st:St):Prop:=ah d fun d=>al xs∧ah ((xs.map strip)[p]?) fun X=>ah (fc st.aa k X) fun T=>jV T.1 p (xs.map strip)∧ah (om (eQ T.1 st.aa) (sU k T.2.1 T.2.2) p (xs.map strip)) fun ys=>ah (Γ (f+1000000) ys) fun x=>x.1∧(hH p (xs.map strip)=true∨(flat (bM x.2)∧mj (dD x.2)))∧(∀y∈aJ d (bM x.2),st.aa y.1=none)∧cB (bM x.2)=true∧K ⟨put (some d) (cA (jG d) (bM x.2)) (fI T.1 x.2 st.vars),bk (aJ d (bM x.2)) (cm T.1 x.2 st.aa)⟩
def oF (aa:Nat→Option AO):Nat→List AV→Option (List AV)|_,[]=>some []|0,.pv .nil::vs=>(er aa vs).map (.pv .nil::·)|0,_::_=>none|p+1,v::vs=>(mC aa v).bind fun y=>(oF aa p vs).map (y::·)
def vj (P:Program) (Γ:bI) (d:Option Nat) (f:FuncId) (xs:List AV) (p:Nat) (K:St→Prop) (st:St):Prop:=ah d fun d=>al xs∧ah (oF st.aa p (xs.map strip)) fun ys=>ah (Γ (f+1000000) ys) fun x=>x.1∧(dO (xs.map strip)=true∨flat x.2)∧(∀y∈aJ d x.2,st.aa y.1=none)∧cB x.2=true∧K ⟨put (some d) (cA (jG d) x.2) st.vars,bk (aJ d x.2) st.aa⟩
def Ja:AV→Option (List Nat)|.rp l=>some (l.map fun p=>match p with|.int _ n=>n.toNat|_=>0)|_=>none
def gm (Γ:bI) (f:FuncId):Option (List Nat):=(Γ (f+2000000) [.aq]).bind fun x=>Ja x.2
def mL (d:Nat) (T W:List Nat):List Nat:=W.filter (fun t=>t%1000 !=999)++[d,d+1000,d+2000,d+3000,d+4000,d+5000,d+6000,d+7000].filter fun t=>!T.contains t
def uf (Γ:bI) (d f:Nat) (ks:List Nat) (xs:List AV) (T Q W:List Nat) (K:St→Prop) (st:St) (ys:List AV):Prop:=ah (Γ (f+2000000) ys) fun x=>x.1∧(dF T ks xs=true∨∀y∈jz x.2++[jf x.2],eP 5 y)∧ah (lS (num 5 true) (jz x.2) (Q,mL d T W)) fun o=>o.1=dt ks xs∧ah (num 5 false (jf x.2) o.2.2) fun r=>(∀p∈o.2.1++r.2.1,T.contains p.1=true∨st.aa p.1=none)∧K ⟨put (some d) r.1 (fG W st.vars),bk (o.2.1++r.2.1) (dV T W st.aa)⟩
def tV (Γ:bI) (d f:Nat) (ks:List Nat) (xs:List AV) (T Q W:List Nat) (K:St→Prop) (st:St):Prop:=Q.Nodup∧ah (xq st.aa (dV T T st.aa) T ks xs) fun ys=>uf Γ d f ks xs T Q W K st ys
def ux (Γ:bI) (d f:Nat) (ks:List Nat) (xs:List AV) (T Q:List Nat) (K:St→Prop) (st:St):Prop:=T.Nodup∧(∀t∈Q,t∈T)∧tV Γ d f ks xs T Q (T.filter fun t=>!Q.contains t) K st
def stepG (Γ:bI) (d:Option Nat) (f:FuncId) (xs:List AV) (ks:Option (List Nat)) (K:St→Prop) (st:St):Prop:=ah d fun d=>al xs∧ah ks fun ks=>ux Γ d f ks (xs.map strip) (dP st.aa ks (xs.map strip)) ((dt ks (xs.map strip)).flatMap oQ) K st
def jT (P:Program) (Γ:bI) (i:AI) (f:FuncId) (s:Nat) (w:Bool) (o:Option (Nat×Nat)) (K:St→Prop) (st:St):Prop:=match o with|some (_,k)=>if k=996 then ah (bC (st.vars s) w) fun c=>if c=true then stepG Γ i.d f (i.xs.map (ev st.vars)) (gm Γ f) K st else K ((bz.put (.bX false .aq)).on i.d st) else False|none=>fL (eE ((i.xs.map (ev st.vars)).map strip)) (ED (bC (st.vars s) w)) (ah (bC (st.vars s) w) fun c=>ah (er st.aa ((i.xs.map (ev st.vars)).map strip)) fun ys=>ah (gt Γ f ys) fun x=>if TL x.2=true then(if c=true then kc P Γ ⟨i.d,i.k,i.xs,none,[],none⟩ f K st else K ((bz.put (.bX false .aq)).on i.d st)) else cw P Γ i K st) (K ((bz.put (.bX false .aq)).on i.d st))
def yH (P:Program) (Γ:bI) (i:AI) (f:FuncId) (s:Nat) (w:Bool) (K:St→Prop) (st:St):Prop:=jT P Γ i f s w (cW Γ f) K st
def dU (P:Program) (Γ:bI) (d:Option Nat) (f:FuncId) (ys:List AV) (o:Option (Nat×Nat)) (K:St→Prop) (st:St):Prop:=match o with|some (_,k)=>if k=996 then stepG Γ d f ys (gm Γ f) K st else False|none=>cf P Γ d f ys st.aa fun e=>K (e.on d st)
def fQ (P:Program) (Γ:bI) (d:Option Nat) (f:FuncId) (ys:List AV) (A:Prop) (c:Bool) (o:Option (Nat×Nat)) (K:St→Prop) (st:St):Prop:=match o with|some (_,k)=>if k=996 then(if c=true then A∧stepG Γ d f ys (gm Γ f) K st else K ((bz.put (.bX false .aq)).on d st)) else False|none=>wv Γ c f ys st.aa fun e=>(c=true→A)∧K (e.on d st)
def nn (P:Program) (Γ:bI) (d:Option Nat) (xs:List AV) (s:Nat) (w:Bool) (K:St→Prop) (st:St):Prop:=ah (bC (st.vars s) w) fun c=>ah (jk (xs.map strip)) fun x=>gI P x.1=true∧fQ P Γ d x.1 x.2 (al xs) c (cW Γ x.1) K st
def eO (P:Program) (Γ:bI) (d:Option Nat) (xs:List AV) (g:Option (Nat×Bool)) (K:St→Prop) (st:St):Prop:=match g with|none=>(al xs∧ah (jk (xs.map strip)) fun x=>gI P x.1=true∧dU P Γ d x.1 x.2 (cW Γ x.1) K st)|some (s,w)=>fL (eE (xs.map strip)) (ED (bC (st.vars s) w)) (nn P Γ d xs s w K st) (K ((bz.put (.bX false .aq)).on d st))
def jv:List AV→Bool|[]=>true|.pv _::l=>jv l|_=>false
def WM (aa:Nat→Option AO):AV→Option Nat|.ptr t _=>(dX (aa t)).bind fun cs=>if jv cs=true then some t else none|_=>none
def lh (T:List Nat) (st:St):List Nat→Prop|[]=>True|s::l=>ah (WM st.aa (st.vars s)) (fun t=>T.contains t=false)∧lh T st l
def yL (ks:Option (List Nat)) (aa:Nat→Option AO) (xs:List AV):List Nat:=match ks with|some ks=>dP aa ks xs|none=>[]
def fK (P:Program) (Γ:bI) (i:AI) (f:FuncId) (o:Option (Nat×Nat)) (K:St→Prop) (st:St):Prop:=match o with|some (p,k)=>if k=998 then i.un=[]∧jn P Γ i.d f (i.xs.map (ev st.vars)) p k K st else if k=996 then lh (yL (gm Γ f) st.aa ((i.xs.map (ev st.vars)).map strip)) st i.un∧stepG Γ i.d f (i.xs.map (ev st.vars)) (gm Γ f) K st else False|none=>cw P Γ ⟨i.d,i.k,i.xs,i.g,[],none⟩ K st
def cp (P:Program) (Γ:bI) (i:AI) (K:St→Prop) (st:St):Prop:=match i.k,i.tg,i.g with|.call f,some 999999,none=>fK P Γ i f (cW Γ f) K st|.gi,some 999999,none=>eO P Γ i.d (i.xs.map (ev st.vars)) none K st|_,_,_=>cw P Γ i K st
def steps (P:Program) (Γ:bI) (is:List AI) (K:St→Prop) (st:St):Prop:=match is with|[]=>K st|i::is=>cp P Γ i (fun st'=>steps P Γ is K st') st
def fC (P:Program) (Γ:bI) (i:AI) (f:FuncId) (o:Option (Nat×Nat)) (K:St→Prop) (st:St):Prop:=match o with|some (p,k)=>if k=997 then vj P Γ i.d f (i.xs.map (ev st.vars)) p K st else if k=996 then stepG Γ i.d f (i.xs.map (ev st.vars)) (gm Γ f) K st else jn P Γ i.d f (i.xs.map (ev st.vars)) p k K st|none=>kc P Γ i f K st
def wK (aa:Nat→Option AO) (e:TypeId) (zs:List Value):AV→Option (Nat×AO)|.own t=>(cz (aa t)).bind fun r=>if r.1=e then some (t,.arr e (List.replicate r.2.length (zs.map oL))) else none|.sub t e1 lo hi=>(cz (aa t)).bind fun r=>if r.1=e∧e1=e then some (t,.arr e (r.2.take lo++List.replicate (hi-lo) (zs.map oL)++r.2.drop hi)) else none|_=>none
def mw (d:Option Nat) (e:TypeId) (sz:Nat) (zs:List Value) (xs:List AV) (K:St→Prop) (st:St):Prop:=al xs∧ah ((xs.map strip).head?) fun X=>ah (wK st.aa e zs X) fun r=>K ((bz.sj r.1 r.2).on d st)
def bV (P:Program) (Γ:bI) (i:AI) (K:St→Prop) (st:St):Prop:=match i.g with|none=>cw P Γ i K st|some (s,w)=>fL (eE ((i.xs.map (ev st.vars)).map strip)) (ED (bC (st.vars s) w)) (cw P Γ i K st) (K ((bz.put (.bX false .aq)).on i.d st))
def uq:Option AO→Option (List (PV×AV))|some (.map es)=>some es|_=>none
def nU (d:Option Nat) (xs ys:List AV) (K:St→Prop) (st:St):Prop:=match ys with|[.pv (.int .u64 a),.pv (.int .u64 b),.pv (.int .u64 c)]=>al xs∧(0≤a∧0≤b∧0≤c∧c≤1)∧K ⟨put d (.aK [.pv (.int .u64 ((a+b+c)%18446744073709551616)),.pv (.int .u64 ((a+b+c)/18446744073709551616))]) st.vars,st.aa⟩|_=>False
def jJ (d:Option Nat) (e:TypeId) (bytes:Nat) (zs:List Value) (xs ys:List AV) (K:St→Prop) (st:St):Prop:=match ys with|[.pv .nil,.pv (.int .i64 n)]=>ah d fun d=>al xs∧(0≤n∧n≤140737488355328∧n.toNat*bytes≤140737488355328)∧st.aa d=none∧K ⟨put (some d) (.own d) st.vars,bk [(d,.arr e (List.replicate n.toNat (zs.map oL)))] st.aa⟩|_=>False
def uS (d:Option Nat) (e:TypeId) (bytes:Nat) (zs:List Value) (xs ys:List AV) (K:St→Prop) (st:St):Prop:=match ys with|[.pv (.int _ n),.pv (.int _ c)]=>ah d fun d=>al xs∧(c=n∧0≤n∧n≤140737488355328∧n.toNat*bytes≤140737488355328)∧st.aa d=none∧K ⟨put (some d) (.own d) st.vars,bk [(d,.arr e (List.replicate n.toNat (zs.map oL)))] st.aa⟩|_=>False
def tJ (d:Option Nat) (e:TypeId) (xs ys:List AV) (K:St→Prop) (st:St):Prop:=ah d fun d=>al xs∧eM ys=true∧st.aa d=none∧K ⟨put (some d) (.own d) st.vars,bk [(d,.rws e ys)] st.aa⟩
def rl:List AV→Option (Nat×Nat)|[]=>none|c::l=>match c with|.own q=>some (0,q)|_=>(rl l).map fun r=>(r.1+1,r.2)
def sL (d:Option Nat) (X Y:AV) (xs:List AV) (K:St→Prop) (st:St):Prop:=match X,Y with|.aO t e i o,.own q=>al xs∧ah (cz (st.aa t)) fun r=>(r.1=e∧o=0)∧(0≤i∧i<r.2.length∧(rowAt r.2 i).length=1)∧K ⟨put d .aq st.vars,aH t (.rws e ((r.2.map fun x=>AV.pv (x.getD 0 .nil)).set i.toNat (.own q))) st.aa⟩|_,_=>False
def qN (d:Option Nat) (X:AV) (xs:List AV) (K:St→Prop) (st:St):Prop:=match X with|.own t=>al xs∧ah (Pc (st.aa t)) fun r=>ah (rl r.2) fun j=>ah (cz (st.aa j.2)) fun s=>ah (eb (r.2.set j.1 (.pv (.ro s.2)))) fun ps=>K ⟨put d (.own t) (Df j.2 s.1 s.2 st.vars),aH t (.arr r.1 (ps.map fun p=>[p])) (eQ j.2 st.aa)⟩|_=>False
def AU:Option AO→Option (List (PV×PV)×Option (PV×PV))|some (.lV rem cur)=>some (rem,cur)|_=>none
def jE (k v:PV):List (PV×PV)→List (PV×PV)|[]=>[(k,v)]|e::l=>if lM k e.1=true then(k,v)::l else e::jE k v l
def nd (k:PV):List (PV×PV)→List (PV×PV)|[]=>[]|e::l=>if lM k e.1=true then l else e::nd k l
def qK:AV→Option Bool
 |.ptr _ _|.aO _ _ _ _|.rp _|.pv (.pt _)=>some false|.pv (.val v)=>match v with|.pointer none=>some true|_=>none
 |_=>none
def nT (d:Option Nat) (s:Nat) (X Y Z:AV) (xs:List AV) (K:St→Prop) (st:St):Prop:=match X,Y,Z with|.own t,.pv k,.pv v=>al xs∧ah (oI (st.aa t)) fun es=>cL k=s∧eA s es∧K ⟨put d .aq st.vars,aH t (.fO (jE k v es)) st.aa⟩|_,_,_=>False
def C0 (aa:Nat→Option AO):AV→Option (List (PV×PV))|.own t=>oI (aa t)|.pv (.mv es)=>some es|_=>none
def sx (d:Option Nat) (s:Nat) (z:Value) (ok:Bool) (X Y:AV) (xs:List AV) (K:St→Prop) (st:St):Prop:=match Y with|.pv k=>al xs∧ah (C0 st.aa X) fun es=>z.oneCell'=true∧cL k=s∧eA s es∧K ⟨put d (tI z ok (jC k es)) st.vars,st.aa⟩|_=>False
def sD (d:Option Nat) (s:Nat) (X Y:AV) (xs:List AV) (K:St→Prop) (st:St):Prop:=match X,Y with|.own t,.pv k=>al xs∧ah (oI (st.aa t)) fun es=>cL k=s∧eA s es∧K ⟨put d .aq st.vars,aH t (.fO (nd k es)) st.aa⟩|_,_=>False
def sO (d:Option Nat) (X:AV) (xs:List AV) (K:St→Prop) (st:St):Prop:=match X with|.pv (.mv es)=>ah d fun d=>al xs∧st.aa d=none∧K ⟨put (some d) (.ptr d 0) st.vars,bk [(d,.lV es none)] st.aa⟩|_=>False
def sg (d:Option Nat) (X:AV) (xs:List AV) (K:St→Prop) (st:St):Prop:=match X with|.ptr t 0=>al xs∧ah (AU (st.aa t)) fun r=>(r.1=[]→K ⟨put d (.aK [.pv (.bool false)]) st.vars,st.aa⟩)∧∀(e:PV×PV) (l m:List (PV×PV)),r.1=l++e::m→K ⟨put d (.aK [.pv (.bool true),.pv e.1,.pv e.2]) st.vars,aH t (.lV (l++m) (some e)) st.aa⟩|_=>False
def tu (d:Option Nat) (X:AV) (xs:List AV) (K:St→Prop) (st:St):Prop:=match X with|.ptr t 0=>al xs∧ah (AU (st.aa t)) fun r=>ah r.2 fun e=>K ⟨put d (.aK [.pv e.1,.pv e.2]) st.vars,st.aa⟩|_=>False
def rB (d:Option Nat) (x:XK) (xs ys:List AV) (K:St→Prop) (st:St):Prop:=match x,ys with|.Rd,[X,Y]=>sL d X Y xs K st|.AN,[X]=>qN d X xs K st|.Hw,[]=>ah d fun d=>st.aa d=none∧K ⟨put (some d) (.own d) st.vars,bk [(d,.fO [])] st.aa⟩|.oH s,[X,Y,Z]=>nT d s X Y (mV Z) xs K st|.AR s z ok,[X,Y]=>sx d s z ok X Y xs K st|.UH s,[X,Y]=>sD d s X Y xs K st|.zW ne,[X]=>al xs∧ah (qK X) fun b=>K ⟨put d (.pv (.bool (b !=ne))) st.vars,st.aa⟩|.To,[X]=>sO d X xs K st|.VL,[X]=>sg d X xs K st|.Uy,[X]=>tu d X xs K st|_,_=>False
def aT (d:Option Nat) (x:XK) (xs:List AV) (K:St→Prop) (st:St):Prop:=match x,xs.map strip with|.LI,[]=>ah d fun d=>st.aa d=none∧K ⟨put (some d) (.own d) st.vars,bk [(d,.map [])] st.aa⟩|.zV s,[.own t,.pv k,v]=>al xs∧ah (uq (st.aa t)) fun es=>cL k=s∧hZ s es∧dr v=true∧K ⟨put d .aq st.vars,aH t (.map (jA k v es)) st.aa⟩|.Ac s z ok,[.own t,.pv k]=>al xs∧ah (uq (st.aa t)) fun es=>cL k=s∧hZ s es∧K ⟨put d (if ok=true then .aK [(getM k es).getD (C9 z),.pv (.bool (getM k es).isSome)] else(getM k es).getD (C9 z)) st.vars,st.aa⟩|.tA,ys=>nU d xs ys K st|.oa ne,[X]=>al xs∧ah (eN st.aa X) fun rows=>∀b:Bool,(rows≠[]→b=false)→K ⟨put d (.pv (.bool (if ne=true then !b else b))) st.vars,st.aa⟩|.wO,[.pv .nil]=>al xs∧K ⟨put d (.pv (.int .i64 0)) st.vars,st.aa⟩|.xP e sz bytes zs,ys=>jJ d e bytes zs xs ys K st|.AL e,ys=>tJ d e xs ys K st|.Nk e bytes zs,ys=>uS d e bytes zs xs ys K st|.Ac s z ok,[.pv (.mp ks),.pv k]=>al xs∧sr z=true∧cL k=s∧(∀x∈ks,cL x=s)∧K ⟨put d (if ok=true then .aK [.agg [],.pv (.bool (ks.any (lM k)))] else .agg []) st.vars,st.aa⟩|.mark,[.own t]=>al xs∧ah (cz (st.aa t)) fun r=>r.2≠[]∧K ⟨put d (.pv (.ro r.2)) (Df t r.1 r.2 st.vars),eQ t st.aa⟩|x,ys=>rB d x xs ys K st
def vZ (d:Option Nat) (s t:Nat) (k v:AV) (xs:List AV) (K:St→Prop) (st:St):Prop:=match k with|.pv k=>al xs∧ah (uq (st.aa t)) fun es=>cL k=s∧hZ s es∧dr v=true∧K ⟨put d .aq st.vars,aH t (.map (jA k v es)) st.aa⟩|_=>False
def O0 (d:Option Nat) (s t:Nat) (z:Value) (ok:Bool) (k:AV) (xs:List AV) (K:St→Prop) (st:St):Prop:=match k with|.pv k=>al xs∧ah (uq (st.aa t)) fun es=>cL k=s∧hZ s es∧K ⟨put d (if ok=true then .aK [(getM k es).getD (C9 z),.pv (.bool (getM k es).isSome)] else(getM k es).getD (C9 z)) st.vars,st.aa⟩|_=>False
def yi (d:Option Nat) (x:AV) (xs:List AV) (K:St→Prop) (st:St):Prop:=match x with|.own t=>al xs∧ah (cz (st.aa t)) fun r=>r.2≠[]∧K ⟨put d (.pv (.ro r.2)) (Df t r.1 r.2 st.vars),eQ t st.aa⟩|_=>False
def pq (d:Option Nat) (s:Nat) (ks:List PV) (z:Value) (ok:Bool) (k:AV) (xs:List AV) (K:St→Prop) (st:St):Prop:=match k with|.pv k=>al xs∧sr z=true∧cL k=s∧(∀x∈ks,cL x=s)∧K ⟨put d (if ok=true then .aK [.agg [],.pv (.bool (ks.any (lM k)))] else .agg []) st.vars,st.aa⟩|_=>False
def jN (d:Option Nat) (x:AV) (xs:List AV) (K:St→Prop) (st:St):Prop:=match x with|.pv .nil=>al xs∧K ⟨put d (.pv (.int .i64 0)) st.vars,st.aa⟩|_=>False
def Bv (d:Option Nat) (ne:Bool) (rows:List (List PV)) (K:St→Prop) (st:St):Prop:=∀b:Bool,(rows≠[]→b=false)→K ⟨put d (.pv (.bool (if ne=true then !b else b))) st.vars,st.aa⟩
def xo (i:AI) (x:XK) (s:Nat) (w:Bool) (K:St→Prop) (st:St):Prop:=ah (bC (st.vars s) w) fun c=>if c=true then aT i.d x (i.xs.map (ev st.vars)) K st else K ((bz.put (.bX false .aq)).on i.d st)
def Wx (t:Nat) (rows:List (List PV)):AV→AV|.own s=>if s=t then .pv (.ro rows) else .own s|v=>kill t v
def xB (t:Nat) (rows:List (List PV)) (f:Nat→AV):Nat→AV:=fun s=>Wx t rows (f s)
def Bp (aa:Nat→Option AO) (e:TypeId):List AV→Option (Nat×List (List PV)×List (List PV))|[.own t,x]=>(cz (aa t)).bind fun r=>(cE aa x).bind fun more=>if r.1=e then some (t,r.2,more) else none|_=>none
def tP (d:Option Nat) (e:TypeId) (sz bytes:Nat) (xs:List AV) (K:St→Prop) (st:St):Prop:=al xs∧ah (Bp st.aa e (xs.map strip)) fun r=>((r.2.1.length+r.2.2.length)*bytes≤140737488355328∧r.2.1.length+r.2.2.length≤maxLen∧(∀q∈r.2.2,q.length=sz))∧r.1%1000≠999∧K ⟨put d (.pv (.ro (r.2.1++r.2.2))) (xB r.1 r.2.1 st.vars),eQ r.1 st.aa⟩
def N6 (i:AI):Option (TypeId×Nat×Nat):=match i.k,i.tg,i.g with|.app e sz b,some 999998,none=>some (e,sz,b)|_,_,_=>none
def Fc (x:XK) (i:AI) (st:St):St:=match x with|.oH _=>cj st ((i.xs.map (ev st.vars)).map strip)|_=>st
def ia (P:Program) (Γ:bI) (i:AI) (K:St→Prop) (st:St):Prop:=match i.k,i.g with|.ex x,none=>aT i.d x (i.xs.map (ev (Fc x i st).vars)) K (Fc x i st)|.ex x,some (s,w)=>xo i x s w K st|.eW _ _,_=>bV P Γ i K (cj st ((i.xs.map (ev st.vars)).map strip))|.zo e sz zs,none=>mw i.d e sz zs (i.xs.map (ev st.vars)) K st|.call f,some (s,w)=>yH P Γ i f s w K st|.gi,g=>eO P Γ i.d (i.xs.map (ev st.vars)) g K st|.call f,none=>fC P Γ i f (cW Γ f) K st|.bL _,_=>cw P Γ i K (qY (i.d.getD 0) st)|_,_=>bV P Γ i K st
def bN (P:Program) (Γ:bI) (i:AI) (K:St→Prop) (st:St):Prop:=match N6 i with|some r=>if mm ((i.xs.map (ev st.vars)).map strip)=true then tP i.d r.1 r.2.1 r.2.2 (i.xs.map (ev st.vars)) K st else ia P Γ i K st|none=>ia P Γ i K st
def ct (P:Program) (Γ:bI) (is:List AI) (K:St→Prop) (st:St):Prop:=match is with|[]=>K st|i::is=>bN P Γ i (fun st'=>ct P Γ is K st') st
def gY (bS:List Nat) (f:Nat→AV):Nat→AV:=fun s=>if bS.contains s then f s else .aq
structure Fr where
 vs:List (Nat×AV)
 os:List (Nat×AO)
def Fr.st (f:Fr):St:=⟨look f.vs,ab f.os⟩
def iE (os:List (Nat×AO)):AV→Prop|.own t|.ptr t _|.aO t _ _ _|.sub t _ _ _=>aA (ab os) t|.pv _|.rp _|.aq=>True|_=>False
def fE (os:List (Nat×AO)):List AV→Prop|[]=>True|c::cs=>iE os c∧fE os cs
def j4 (os:List (Nat×AO)):AV→Prop|.agg cs|.bB _ cs|.aK cs=>fE os cs|.bX _ v=>iE os v|v=>iE os v
def tv (os:List (Nat×AO)):AO→Prop|.box cs=>fE os cs|.arr _ _=>True|.map _=>True|.fO _=>True|.lV _ _=>True|.rws _ cs=>fE os cs
def HZ (ad:List Nat) (st:St) (os:List (Nat×AO)):List (Nat×AV)→Prop|[]=>True|(s,v)::l=>(v=.aq∨(st.vars s=v∧j4 os v)∨(∃t,v=.own t∧ad.contains t=true∧aA (ab os) t∧st.vars s=.pv .nil))∧HZ ad st os l
def I5 (P:Program) (ad:List Nat) (st:St) (os:List (Nat×AO)):List (Nat×AO)→Prop|[]=>True|(t,o)::l=>((st.aa t=some o∧ad.contains t=false∧tv os o)∨(∃e,o=.arr e []∧ad.contains t=true∧st.aa t=none∧(P.info? e).isSome=true∧t%1000≠999))∧I5 P ad st os l
def wk (P:Program) (ad:List Nat) (st:St) (f:Fr):Prop:=HZ ad st f.os f.vs∧I5 P ad st f.os f.os
def cq (st:St):List (Nat×Option (Option Nat))→(List AV→Prop)→Prop|[],C=>C []|(t,none)::l,C=>cq st l fun vs=>C (st.vars t::vs)|(a,some n)::l,C=>ah (ak (.load n) [st.vars a] st.aa) fun x=>x.1∧cq st l fun vs=>C (x.2::vs)
def bG:List AV→AV|[v]=>v|vs=>.aK vs
def rW (P:Program) (aa:Nat→Option AO) (v r:AV):Prop:=match r with|.fr e rows=>(∃t,v=.own t∧aa t=some (.arr e rows))∨(v=.pv .nil∧rows=[]∧(P.info? e).isSome=true)∨(∃t hi rs,v=.sub t e 0 hi∧aa t=some (.arr e rs)∧rows=rs.take hi)|r=>v=r∧il r=true
def uJ (P:Program) (aa:Nat→Option AO):List AV→List AV→Prop|[],[]=>True|c::cs,r::rs=>rW P aa c r∧uJ P aa cs rs|_,_=>False
def zq (P:Program) (aa:Nat→Option AO) (v r:AV):Prop:=match v,r with|.agg cs,.agg rs=>uJ P aa cs rs|.agg _,_=>False|v,r=>rW P aa v r
def vo (P:Program) (aa:Nat→Option AO):List AV→List AV→Prop|[],[]=>True|c::cs,r::rs=>zq P aa c r∧vo P aa cs rs|_,_=>False
def fz (P:Program) (aa:Nat→Option AO) (v r:AV):Prop:=match v,r with|.aK vs,.aK rs=>vs.length≤1000∧vo P aa vs rs|.aK _,_=>False|v,r=>zq P aa v r
def oP (j:Nat):List AV→List (Nat×Nat)|[]=>[]|.own t::cs=>(1000*j,t)::oP (j+1) cs|.sub t _ _ _::cs=>(1000*j,t)::oP (j+1) cs|_::cs=>oP (j+1) cs
def Jp:AV→List (Nat×Nat)|.agg cs=>oP 0 cs|.own t=>[(0,t)]|.sub t _ _ _=>[(0,t)]|_=>[]
def yw (i:Nat):List AV→List (Nat×Nat)|[]=>[]|v::vs=>(Jp v).map (fun x=>(x.1+i,x.2))++yw (i+1) vs
def pl:AV→List (Nat×Nat)|.aK vs=>yw 0 vs|v=>Jp v
def jh:List (Nat×Nat)→Prop|[]=>True|x::l=>(∀y∈l,y.2≠x.2)∧jh l
def oG:AV→AV→List Nat|.own t,.pv (.ro _)=>[t]|.pv .nil,.pv (.ro _)=>[999996]|.own t,.pv (.mv _)=>[t+1000000000000000]|_,_=>[]
def sK:List AV→List AV→List Nat|c::cs,r::rs=>oG c r++sK cs rs|_,_=>[]
def xU:AV→AV→List Nat|.agg cs,.agg rs=>sK cs rs|v,r=>oG v r
def sq:List AV→List AV→List Nat|c::cs,r::rs=>xU c r++sq cs rs|_,_=>[]
def kN:AV→AV→List Nat|.aK vs,.aK rs=>sq vs rs|v,r=>xU v r
def sF (P:Program) (rs:List (Nat×Option (Option Nat))) (r:AV) (st:St):Prop:=cq st rs fun vs=>fz P st.aa (bG vs) r∧jh (pl (bG vs))
def Ends (P:Program) (rs:List (Nat×Option (Option Nat))) (r:AV) (st:St):Prop:=cq st rs fun vs=>sF P rs r (cd (kN (bG vs) r) st)
def j6 (aa:Nat→Option AO) (l:List (Nat×Nat)):List (Nat×AO)→Prop|[]=>True|x::hout=>aa x.1=some x.2∧(∀y∈l,y.2≠x.1)∧j6 aa l hout
def lH (P:Program) (rs:List (Nat×Option (Option Nat))) (r:AV) (hout:List (Nat×AO)) (st:St):Prop:=cq st rs fun vs=>fz P st.aa (bG vs) r∧jh (pl (bG vs))∧j6 st.aa (pl (bG vs)) hout
def lk (P:Program) (rs:List (Nat×Option (Option Nat))) (r:AV) (hout:List (Nat×AO)) (st:St):Prop:=cq st rs fun vs=>lH P rs r hout (cd (kN (bG vs) r) st)
def vg (K:St→Prop):Exit→St→Prop|.ret,st=>K st|_,_=>False
def mD (id:Nat) (K:St→Prop) (J:Exit→St→Prop):Exit→St→Prop|.exit id',st=>if id'=id then K st else J (.exit id') st|e,st=>J e st
def fT (P:Program) (Γ:bI):AC→(St→Prop)→(Exit→St→Prop)→St→Prop|.skip,K,_,st=>K st|.ag is d bS,K,_,st=>if d then steps P Γ is (fun st'=>K ⟨gY bS st'.vars,st'.aa⟩) st else ct P Γ is (fun st'=>K ⟨gY bS st'.vars,st'.aa⟩) st|.seq a b,K,J,st=>fT P Γ a (fun st'=>fT P Γ b K J st') J st|.cond x a b,K,J,st=>ah (gK (ev st.vars x)) fun c=>(c=true→fT P Γ a K J st)∧(c=false→fT P Γ b K J st)|.block id a,K,J,st=>fT P Γ a K (mD id K J) st|.loop a,_,J,st=>∃(ι:Type) (F:ι→Fr) (μ:ι→Nat) (ad shs:List Nat) (i0:ι),wk P ad (cd shs st) (F i0)∧∀i,fT P Γ a (fun st'=>∃i',wk P [] (cd shs st') (F i')∧μ i'<μ i) J (F i).st|.exit id,_,J,st=>J (.exit id) st|.ret,_,J,st=>J .ret st
def kQ (P:Program) (t:TypeId):Option (Option Nat):=match P.underlying t with|some (.struct _)|some (.array _ _)=>(P.info? t).map fun i=>some i.size|some _=>some none|none=>none
def cn (P:Program) (t:TypeId):Option Nat:=(P.info? t).map (·.size)
def dv (P:Program) (t:TypeId):Option (List Value):=(P.info? t).bind fun i=>i.zero.bind fun z=>if z.cells.size=i.size then some z.cells.toList else none
def ed:Operand→Bool|.const (.slice none 0 0)=>true|_=>false
def nh (P:Program) (fs:Array Field):List (Nat×Operand)→Option (List (Nat×Nat))|[]=>some []|(i,_)::l=>match fs[i]?,nh P fs l with|some f,some r=>(cn P f.type).map fun n=>(f.offset,n)::r|_,_=>none
def oS (P:Program) (f:TypeId→Option (List Nat)):Nat→List Field→Option (List Nat)|_,[]=>some []|off,fl::fs=>if fl.name≠ "_" ∧fl.offset=off then(f fl.type).bind fun a=>if cn P fl.type=some a.length then(oS P f (off+a.length) fs).map (a++·) else none else none
def kf (P:Program):Nat→TypeId→Option (List Nat)|0,_=>none|n+1,t=>match P.underlying t with|some .bool=>some [0]|some .string=>some [1]|some (.int k)=>some [2+kJ k]|some (.struct fs)=>if P.stoodInHeld t=false then oS P (kf P n) 0 fs.toList else none|_=>none
def cI (P:Program) (b:Builtin) (xs:List Operand) (ts:List TypeId):Option (AK×List Operand):=match b,xs,ts with
 |.len,[x],[t]=>match P.underlying t with|some .string=>some (.kP,[x])|some (.slice _)=>some (.len,[x])|_=>none
 |.append,[s,x],[t,t']=>match P.underlying t,P.underlying t' with
  |some (.slice e),some .string=>match P.info? e with|some i=>if i.size=1∧(dv P e).isSome=true then some (.app e i.size i.bytes,[s,x]) else none|none=>none
  |some (.slice e),some (.slice _)=>match P.info? e with|some i=>if 0<i.size∧(dv P e).isSome=true then some (.app e i.size i.bytes,[s,x]) else none|none=>none
  |_,_=>none
 |.min,[x,y],[_,_]=>some (.zR false,[x,y])|.max,[x,y],[_,_]=>some (.zR true,[x,y])|.clear,[x],[t]=>match P.underlying t with
  |some (.slice e)=>match cn P e,dv P e with|some sz,some zs=>if 0<sz∧zs.all (·.oneCell')=true then some (.zo e sz zs,[x]) else none|_,_=>none
  |_=>none
 |_,_,_=>none
def fm (P:Program) (c:Call):Option (AK×List Operand):=match c.callee with|.builtin b=>cI P b c.args.toList c.argTypes.toList|.value (.func f)=>if gI P f then some (.call f,c.args.toList) else none|.value x=>some (.gi,x::c.args.toList)|.invoke _ _=>none
def iL (P:Program) (t:TypeId):Option Nat:=match P.underlying t with|some .bool=>some 0|some .string=>some 1|some (.int k)=>some (2+kJ k)|_=>none
def zeroV (P:Program) (t:TypeId):Option Value:=(P.info? t).bind (·.zero)
def gN (P:Program) (t:TypeId):Option (TypeId×TypeId):=match P.underlying t with|some (.map k e)=>some (k,e)|_=>none
def uh (P:Program) (f:FuncId):Bool:=match P.funcs[f]? with|some fn=>fn.name== "math/bits.Add64" &&fn.body.isNone&&(Extern.findNext fn).isNone|none=>false
def wH (P:Program) (b:Builtin) (xs:List Operand) (ts:List TypeId):Option (XK×List Operand):=match b,xs,ts with
 |.cap,[x],[t]=>match P.underlying t with|some (.slice _)=>some (.wO,[x])|_=>none
 |.append,[s,x],[t,t']=>match P.underlying t,P.underlying t' with
  |some (.slice e),some (.int _)=>match P.info? e,dv P e with|some i,some zs=>if 0<i.size∧zs.all (·.oneCell')=true then some (.xP e i.size i.bytes zs,[s,x]) else none|_,_=>none
  |_,_=>none
 |_,_,_=>none
def WV (P:Program) (e:TypeId):Bool:=match(P.info? e).map (fun i:TypeInfo=>i.desc),P.underlying e with|some (TypeDesc.named _ _),some (TypeDesc.slice _)=>true|_,_=>false
def zc (P:Program) (o:Oper):Bool:=match o.op,o.dst with
 |.move (.tmp 8),some 193|.assign (.tmp 8),some 193=>match P.underlying o.type with
  |some (.slice e)=>match P.underlying e with|some (.slice _)=>true|_=>false
  |_=>false
 |.store t (.tmp 160) (.tmp 159),none=>match P.underlying t with|some (.slice _)=>true|_=>false
 |_,_=>false
def vX (P:Program) (o:Oper):Option (XK×List Operand):=match o.op with
 |.makeMap t none=>match gN P t with|some _=>some (.LI,[])|none=>none
 |.mapUpdate t m k x|.insert t m k x=>match gN P t with
  |some (kt,_)=>match iL P kt with|some s=>some (.zV s,[m,k,x])|none=>none
  |none=>none
 |.lookup t m k ok=>match gN P t with
  |some (kt,et)=>match iL P kt,zeroV P et with|some s,some z=>some (.Ac s z ok,[m,k])|_,_=>none
  |none=>none
 |.buildSlice t n ps=>match P.underlying t with
  |some (.slice e)=>match cn P e,dv P e with|some sz,some zs=>if sz=1∧ps.toList.map (·.1)=List.range n∧n*sz≤2^24∧zs.length=sz then some (.AL e,ps.toList.map (·.2)) else none|_,_=>none
  |_=>none
 |.convert src dst x=>if src=dst then match P.underlying src with
  |some (.slice e)=>match P.underlying e with|some (.int .u8)=>some (.mark,[x])|_=>none
  |_=>none else none|.makeSlice t l c=>match P.underlying t with
  |some (.slice e)=>match P.info? e,dv P e with|some i,some zs=>if 0<i.size∧zs.all (·.oneCell')=true then some (.Nk e i.bytes zs,[l,c]) else none|_,_=>none
  |_=>none
 |.binOp op t x y _=>match P.underlying t with|some (.slice _)=>if ed y then match op with|.eql=>some (.oa false,[x])|.neq=>some (.oa true,[x])|_=>none else none|_=>none
 |.call c=>match c.callee with|.value (.func f)=>if uh P f=true then some (.tA,c.args.toList) else none|.builtin b=>wH P b c.args.toList c.argTypes.toList|_=>none
 |.move x=>if zc P o=true then some (.AN,[x]) else none|.assign x=>if zc P o=true then some (.AN,[x]) else none|.store t x y=>if zc P o=true∧cn P t=some 1 then some (.Rd,[x,y]) else none|_=>none
def DK (P:Program) (t:TypeId):Bool:=match P.underlying t with|some .bool|some .string|some (.int _)|some (.func _ _ _)|some (.slice _)=>true|_=>false
def zk (P:Program) (o:Oper):Option (XK×List Operand):=match o.op with
 |.makeMap t none=>match gN P t with|some (_,et)=>if DK P et=true then some (.Hw,[]) else none|none=>none
 |.mapUpdate t m k x|.insert t m k x=>match gN P t with
  |some (kt,et)=>match iL P kt with|some s=>if DK P et=true then some (.oH s,[m,k,x]) else none|none=>none
  |none=>none
 |.lookup t m k ok=>match gN P t with
  |some (kt,et)=>match iL P kt,zeroV P et with|some s,some z=>if DK P et=true then some (.AR s z ok,[m,k]) else none|_,_=>none
  |none=>none
 |.binOp op t x y _=>match P.underlying t with
  |some (.pointer _)=>match y with
   |.const (.pointer none)=>match op with|.eql=>some (.zW false,[x])|.neq=>some (.zW true,[x])|_=>none
   |_=>none
  |_=>none
 |.call c=>match c.callee,c.args.toList,c.argTypes.toList with
  |.builtin .delete,[m,k],[t,kt']=>match gN P t with
   |some (kt,et)=>match iL P kt with|some s=>if DK P et=true∧kt'=kt then some (.UH s,[m,k]) else none|none=>none
   |none=>none
  |_,_,_=>none
 |.range t x=>match gN P t with|some _=>some (.To,[x])|none=>none
 |.next x false=>some (.VL,[x])|.entry x=>some (.Uy,[x])|_=>none
def jS (P:Program) (o:Oper):XK×List Operand:=match zk P o with|some r=>r|none=>(vX P o).getD (.dead,[])
def ff (P:Program) (o:Oper):Option (AK×List Operand):=match o.op with
 |.move x|.assign x=>if ed x then match P.underlying o.type with|some (.slice e)=>if(P.info? e).isSome then some (.bL e,[]) else none|_=>none else some (.aM,[x])|.pick c a b=>some (.pick,[c,a,b])|.alloc e=>(dv P e).map fun zs=>(.alloc zs,[])|.box _ x=>some (.box,[x])|.build t ps=>match dv P t,P.underlying t with|some zs,some (.struct fs)=>if fs.all (fun f=>(P.info? f.type).isSome)=false then none else(nh P fs ps.toList).map fun l=>(.fR zs l,ps.toList.map (·.2))|_,_=>none
 |.buildSlice t n ps=>match P.underlying t with
  |some (.slice e)=>match cn P e,dv P e with|some sz,some zs=>if WV P e=false∧ps.toList.map (·.1)=List.range n∧n*sz≤2^24∧zs.length=sz∧0<sz then some (.eW e sz,ps.toList.map (·.2)) else none|_,_=>none
  |_=>none
 |.load t a=>(kQ P t).map fun n=>(.load n,[a])|.store t a v=>match kQ P t with|some none=>if cn P t=some 1 then some (.store none,[a,v]) else none|some (some n)=>some (.store (some n),[a,v])|none=>none
 |.binOp op t x y _=>match P.underlying t with
  |some .bool=>match op with|.eql=>some (.beq false,[x,y])|.neq=>some (.beq true,[x,y])|_=>none
  |some (.int _)|some .string=>some (.bin op,[x,y])|some (.struct _)=>match kf P 8 t with
   |some ks=>if ks.all (·<99)=true∧P.eqGuardType P.depth t=false then match op with|.eql=>some (.eqs false ks,[x,y])|.neq=>some (.eqs true ks,[x,y])|_=>none else none|none=>none
  |_=>none
 |.unOp .not _ x=>some (.not,[x])|.unOp .neg _ x=>some (.neg,[x])|.convert src dst x=>match P.underlying src,P.underlying dst with
  |some (.int _),some (.int k)=>some (.rK k,[x])|some .string,some .string=>some (.yS,[x])|some (.slice e),some .string=>match P.underlying e with|some (.int .u8)=>some (.qq,[x])|_=>none
  |some .string,some (.slice e)=>match P.underlying e with|some (.int .u8)=>some (.uE e,[x])|_=>none
  |_,_=>none
 |.fieldAddr s x i=>match P.underlying s with
  |some (.struct fs)=>match fs[i]? with
   |some f=>match cn P f.type with|some (_+1)=>some (.az f.offset,[x])|_=>none
   |none=>none
  |_=>none
 |.field s x i=>match P.underlying s with
  |some (.struct fs)=>match fs[i]? with|some f=>(kQ P f.type).map fun n=>(.Cr f.offset n,[x])|none=>none
  |_=>none
 |.indexAddr t x i=>match P.underlying t with|some (.slice e)=>(cn P e).map fun sz=>(.bg e sz,[x,i])|some (.array n e)=>(cn P e).map fun sz=>(.De n sz,[x,i])|_=>none
 |.index t x i=>match P.underlying t with|some .string=>some (.jI,[x,i])|_=>none
 |.slice t x lo hi none=>match P.underlying t with|some .string=>some (.EE lo.isSome hi.isSome,[x]++lo.toList++hi.toList)|some (.slice e)=>(cn P e).map fun sz=>(.mS sz lo.isSome hi.isSome,[x]++lo.toList++hi.toList)|_=>none
 |.extract x i=>some (.ext i,[x])|.nilCheck x=>some (.dA,[x])|.makeFunc (.func f) first caps=>match first.toList with|[]=>some (.zb f,caps.toList)|_=>none
 |.call c=>fm P c|_=>none
def fB (P:Program) (o:Oper):Option (AK×List Operand):=match if zc P o=true then none else ff P o with|some r=>some r|none=>some (.ex (jS P o).1,(jS P o).2)
theorem da {P:Program}{o:Oper}{k:AK}{xs:List Operand} (h:fB P o=some (k,xs)):ff P o=some (k,xs)∨∃x,k=.ex x∧jS P o=(x,xs):=by
 unfold fB at h;split at h
 ·rename_i r hr;split at hr;·cases hr
  ·rw[hr];exact .inl h
 ·cases h;exact .inr ⟨_,rfl,rfl⟩
def makes:AK→Bool|.bL _|.box|.alloc _|.eW _ _|.app _ _ _|.call _|.gi|.qq|.uE _|.ex .LI|.ex .Hw|.ex .To|.ex (.xP _ _ _ _)|.ex (.AL _)|.ex (.Nk _ _ _)=>true|_=>false
def writes:AK→Bool|.store _|.app _ _ _=>true|_=>false
def aF:AK→Bool|.aM|.bin _|.beq _|.not|.neg|.rK _|.yS=>true|_=>false
def tmpsOf:List Operand→List Nat|[]=>[]|.tmp t::l=>t::tmpsOf l|_::l=>tmpsOf l
def cu (i:AI):List Nat:=tmpsOf i.xs++(match i.g with|some (s,_)=>[s]|none=>[])
def tM:Option Nat→Bool|some _=>true|none=>false
def bQ (i:AI):List Nat:=if makes i.k then i.d.toList else if writes i.k then i.tg.toList else[]
def isApp:AK→Bool|.app _ _ _=>true|_=>false
def Rw:AK→Bool|.alloc _=>true|_=>false
def tY:AK→Bool|.load _|.az _=>true|_=>false
def yA (x y:AI):Bool:=isApp x.k&&x.g.isNone&&y.g.isNone&&y.tg.isNone&&(match x.d,y.d with|some d,some d'=>!(cu y).contains d&&!(cu x).contains d'&&d !=d'&&decide (d<1000)&&decide (d'<1000)&&((Rw y.k&&y.xs.isEmpty)||(tY y.k&&y.un.contains d&&y.un.all fun t=>x.un.contains (t+1000)))|_,_=>false)
def wT (x y:AI):Bool:=(match x.d with|some d=>!(cu y).contains d&&y.d !=some d&&y.tg !=some d&&decide (d<1000)|none=>true)&&(match y.d with|some d=>!(cu x).contains d&&x.tg !=some d&&decide (d<1000)|none=>true)&&((aF y.k&&y.un.isEmpty)||(!isApp x.k&&(!writes x.k||tM x.tg)&&(bQ x).all fun t=>decide (t<1000)&&y.un.contains t))&&((aF x.k&&x.un.isEmpty)||(!isApp y.k&&(!writes y.k||tM y.tg)&&(bQ y).all fun t=>decide (t<1000)&&x.un.contains t))&&(aF x.k||aF y.k||!writes x.k||!writes y.k||x.tg !=y.tg)
def qp (x y:AI):Bool:=wT x y||yA x y
def Ck (P:Program) (N:Nat) (ops:Array Oper) (o:Oper):Option AI:=match fB P o with|none=>none|some (k,xs)=>let okd:=match o.dst with|some d=>decide (d<N∧d<1000)|none=>!makes k&&(k matches .store _||k matches .zo _ _ _||k matches .ex _)
 if !okd then none else match o.guard with|none=>some ⟨o.dst,k,xs,none,[],none⟩|some (j,want)=>match(ops[j]?).bind (·.dst) with|some s=>some ⟨o.dst,k,xs,some (s,want),[],none⟩|none=>none
def pE (P:Program) (N:Nat) (ops:Array Oper):List Oper→Option (List AI)|[]=>some []|o::l=>match Ck P N ops o,pE P N ops l with|some i,some is=>some (i::is)|_,_=>none
def bits (ops:Array Oper) (i j:Nat):Bool:=((Region.before ops).getD j 0).testBit i
def jM (ops:Array Oper) (i j:Nat):Bool:=!bits ops i j||match ops[j]? with|some o=>o.after.any fun e=>Region.binds .any e&&(e.on==i||(decide (i<e.on)&&decide (e.on<j)&&bits ops i e.on))|none=>false
def iH (ops:Array Oper) (j:Nat):Bool:=match ops[j]? with|some o=>o.after.all fun e=>!Region.binds .any e||decide (e.on<j)|none=>true
def BJ (ops:Array Oper) (is:Array AI):Bool:=(List.range ops.size).all fun j=>iH ops j&&(List.range j).all fun i=>jM ops i j&&(bits ops i j||match is[i]?,is[j]? with|some x,some y=>qp x y|_,_=>false)
def W7 (ops:Array Oper) (is:Array AI) (j:Nat):List Nat:=let b:=Region.before ops
 (List.range is.size).filterMap fun i=>if i=j||(b.getD j 0).testBit i||(b.getD i 0).testBit j then none else match is[i]?,is[j]? with|some x,some y=>if aF y.k then none else(bQ x).head?|_,_=>none
def YQ (ops:Array Oper) (is:Array AI) (j:Nat):List Nat:=let b:=Region.before ops
 match is[j]? with|some y=>if isApp y.k then(List.range is.size).flatMap fun i=>if i=j||(b.getD j 0).testBit i||(b.getD i 0).testBit j then[] else match is[i]? with|some x=>if tY x.k then x.un.map (·+1000) else[]|none=>[] else[]|none=>[]
def gz (ops:Array Oper) (is:Array AI) (j:Nat):List AI→List AI|[]=>[]|i::l=>{i with un:=i.un++YQ ops is j}::gz ops is (j+1) l
def nY (ops:Array Oper) (is:Array AI) (j:Nat):List AI→List AI|[]=>[]|i::l=>{i with un:=W7 ops is j}::nY ops is (j+1) l
def WJ (is:List AI) (i:AI):Option Nat:=match i.k,i.xs with|.store _,.tmp s::_=>if is.any fun x=>x.d==some s&&(match x.k with|.alloc _|.box=>true|_=>false) then some s else none|_,_=>none
def sP (is:List AI):List AI→List AI|[]=>[]|i::l=>{i with tg:=WJ is i}::sP is l
def Oi (i:AI):Option Nat:=match i.k,i.xs with|.store _,.tmp s::_=>some s|_,_=>none
def ng:List AI→List AI|[]=>[]|i::l=>{i with tg:=Oi i}::ng l
def Tq (x:AI):Operand→Bool|.const _=>true|.tmp s=>x.d !=some s|_=>false
def F0 (y x:AI):Bool:=match y.k,y.xs,y.d,y.g,y.tg,y.un with|.aM,[o],some dd,none,none,[]=>Tq x o&&!(cu x).contains dd&&x.d !=some dd|_,_,_,_,_,_=>false
def T1 (y x:AI):Bool:=match y.k,y.xs,y.d,y.g,y.tg,x.k with|.load _,[.tmp s],some dd,none,none,.call _=>x.d !=some s&&!(cu x).contains dd&&x.d !=some dd&&dd !=s|_,_,_,_,_,_=>false
def xJ (y:AI):List Nat:=match y.k,y.xs with|.load _,[.tmp s]=>[s]|_,_=>[]
def BU:AK→Bool|.call _|.gi=>true|_=>false
def iw (ops:Array Oper) (is:Array AI) (j:Nat):List Nat:=(List.range j).flatMap fun q=>if bits ops q j then[] else match is[q]? with|some y=>xJ y|none=>[]
def vR (ops:Array Oper) (is:Array AI) (j:Nat) (x:AI):Bool:=BU x.k&&x.g.isNone&&x.tg.isNone&&x.un.isEmpty&&(List.range is.size).all fun q=>q==j||(if q<j then bits ops q j else bits ops j q)||(match is[q]? with|some y=>(F0 y x||(decide (q<j)&&T1 y x))&&(match y.d with|some dd=>!(iw ops is j).contains dd|none=>true)|none=>false)
def vu (ops:Array Oper) (is:Array AI) (j:Nat):List AI→List AI|[]=>[]|i::l=>(if vR ops is j i then{i with tg:=some 999999,un:=iw ops is j} else i)::vu ops is (j+1) l
def uZ (b:Nat):List AI→Bool|[]=>false|i::l=>(match i.k,i.xs with|.aM,[.tmp s]=>s==b|_,_=>false)||(if i.d==some b then false else uZ b l)
def Gv (s:Nat):List AI→Option Nat|[]=>none|i::l=>if i.d==some s then(match i.k,i.xs with|.aM,[.tmp b]=>some b|_,_=>none) else Gv s l
def Xk (i:AI) (pre l:List AI):Bool:=match i.k,i.xs,i.g with
 |.app _ _ _,.tmp s::_,none=>match Gv s pre with|some b=>uZ b l|none=>false
 |_,_,_=>false
def rQ (pre:List AI):List AI→List AI|[]=>[]|i::l=>(if Xk i pre l then{i with tg:=some 999998} else i)::rQ (i::pre) l
def drawn (ops:Array Oper) (js:List AI):Option AC:=let hs:=nY ops js.toArray 0 js
 let ks:=gz ops hs.toArray 0 hs
 if BJ ops ks.toArray&&ks.all (fun i=>i.tg !=some 999999) then some (.ag (vu ops ks.toArray 0 ks) true []) else none
def kv (ops:Array Oper) (js:List AI):List Nat:=let b:=Region.before ops
 let f:=fun j=>(List.range ops.size).any fun i=>(match js[i]? with|some x=>isApp x.k|none=>false)&&(i==j||(b.getD i 0).testBit j)
 (List.range ops.size).filter f++(List.range ops.size).filter fun j=>!f j
def DW (ops:Array Oper) (ks:Array AI):List Nat→List Nat→Bool|_,[]=>true|pre,j::l=>(match ops[j]? with|some o=>o.after.all fun e=>!Region.binds .any e||pre.contains e.on|none=>false)&&(!pre.contains j)&&(l.all fun b=>(decide (j<b)&&bits ops j b)||match ks[j]?,ks[b]? with|some x,some y=>qp x y|_,_=>false)&&DW ops ks (j::pre) l
def uj (ops:Array Oper) (js:List AI) (l:List Nat):Option AC:=let hs:=nY ops js.toArray 0 js
 let ks:=gz ops hs.toArray 0 hs
 if l.length=ops.size∧DW ops ks.toArray [] l=true∧((List.range ops.size).all fun j=>iH ops j&&(List.range j).all fun i=>jM ops i j)=true∧(l.all fun j=>decide (j<ops.size))=true∧((List.range ops.size).all fun j=>l.contains j)=true∧ks.all (fun i=>i.tg !=some 999999)=true then some (.ag (l.filterMap fun j=>ks[j]?) true []) else none
def comp (P:Program) (N:Nat):Code→Option AC
 |.skip=>some .skip|.region _ ops draw=>match pE P N ops ops.toList with|some is=>if draw then((drawn ops (sP is is)).or (drawn ops (ng is))).or ((uj ops (sP is is) (kv ops is)).or (uj ops (ng is) (kv ops is))) else some (.ag (rQ [] is) false [])|none=>none
 |.seq a b=>match comp P N a,comp P N b with|some x,some y=>some (.seq x y)|_,_=>none
 |.cond c a b=>match comp P N a,comp P N b with|some x,some y=>some (.cond c x y)|_,_=>none
 |.block id a=>(comp P N a).map (.block id)|.loop a=>(comp P N a).map .loop|.exit id=>some (.exit id)|.ret=>some .ret|.scope a=>comp P N a|.label _=>some .skip|_=>none
def za (w:List Nat):List AI→List Nat|[]=>[]|i::l=>(cu i).filter (fun s=>!w.contains s)++za (i.d.toList++w) l
def vz:AC→List Nat|.ag is _ _=>za [] is|.seq a b=>vz a++vz b|.cond x a b=>tmpsOf [x]++vz a++vz b|.block _ a|.loop a=>vz a|_=>[]
def fg (bS:List Nat):AC→AC|.ag is d _=>.ag is d bS|.seq a b=>.seq (fg bS a) (fg bS b)|.cond x a b=>.cond x (fg bS a) (fg bS b)|.block id a=>.block id (fg bS a)|.loop a=>.loop (fg bS a)|c=>c
def gQ (P:Program):List ResultVar→Option (List (Nat×Option (Option Nat)))|[]=>some []|.tmp t::l=>(gQ P l).map ((t,none)::·)|.cell a t::l=>(kQ P t).bind fun n=>(gQ P l).map ((a,some n)::·)
structure ND where
 n:Nat
 params:Nat
 res:List (Nat×Option (Option Nat))
 body:AC
def au (P:Program) (f:FuncId) (bS:List Nat):Option ND:=match P.funcs[f]? with
 |some fn=>match fn.body,gQ P fn.results.toList with|some c,some rs=>(comp P fn.ntmps c).bind fun b=>if fn.ntmps≤998 then some ⟨fn.ntmps,fn.params.size+fn.nfree,rs,fg bS b⟩ else none|_,_=>none
 |none=>none
end Go.Proofs.YtlmkcmfmfahcfaaGreat.Ab
