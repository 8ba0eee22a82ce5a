/- An abstract machine for the code of one function: slices, strings and structs as plain data; what each operation makes of them. Definitions alone. -/
import Derived.WalkKit
import Derived.WalkSpells
import Derived.WalkLawsBesides
import Derived.MapKept
import Derived.Maps.RangeRun
set_option linter.unusedVariables false
set_option linter.unusedSimpArgs false
set_option linter.unnecessarySimpa false
set_option maxHeartbeats 40000000
set_option maxRecDepth 100000
namespace Go.Proofs.Ytlmkcmfmfahcfaa.Ab
open Go Go.RowKit
inductive PV where|int (k:IntKind) (n:Int)|bool (b:Bool)|str (l:List UInt8)|nil|ro (rows:List (List PV))|mp (ks:List PV)|mv (es:List (PV×PV))|pt (cs:List PV)|val (v:Value)
inductive AV where|pv (p:PV)|own (t:Nat)|ptr (t off:Nat)|aI (t:Nat) (e:TypeId) (i:Int) (off:Nat)|sub (t:Nat) (e:TypeId) (lo hi:Nat)|rp (cs:List PV)|agg (cs:List AV)|aC (vs:List AV)|bk (f:FuncId) (caps:List AV)|fr (e:TypeId) (rows:List (List PV))|bx (cs:List AV)|mf (es:List (PV×PV))|bL (g:Bool) (v:AV)|al
inductive AO where|box (cs:List AV)|arr (e:TypeId) (rows:List (List PV))|map (es:List (PV×AV))|rws (e:TypeId) (cs:List AV)|fD (es:List (PV×PV))|lq (rem:List (PV×PV)) (cur:Option (PV×PV))
structure St where
 vars:Nat→AV
 aa:Nat→Option AO
def ou:Value→PV|.int k n=>.int k n|.bool b=>.bool b|.string s=>.str s.data.toList|.slice none 0 0=>.nil|v=>.val v
def cv (v:Value):AV:=if v.oneCell'=true then .pv (ou v) else .al
def ev (vars:Nat→AV):Operand→AV|.tmp t=>vars t|.const v=>cv v|.func f=>.bk f []|.global _=>.al
def put (d:Option Nat) (v:AV) (f:Nat→AV):Nat→AV:=match d with|some d=>fun s=>if s=d then v else f s|none=>f
def aA (t:Nat) (o:AO) (f:Nat→Option AO):Nat→Option AO:=fun s=>if s=t then some o else f s
def look (l:List (Nat×AV)) (s:Nat):AV:=match l with|[]=>.al|(t,v)::l=>if s=t then v else look l s
def ab (l:List (Nat×AO)) (s:Nat):Option AO:=match l with|[]=>none|(t,v)::l=>if s=t then some v else ab l s
def asks:AV→Prop|.bL g v=>g=true∧asks v|_=>True
def strip:AV→AV|.bL _ v=>strip v|v=>v
def aj:List AV→Prop|[]=>True|v::l=>asks v∧aj l
inductive XK where|Ma|AA (s:Nat)|zR (s:Nat) (z:Value) (ok:Bool)|dead|nn (ne:Bool)|ta|xY|xH (e:TypeId) (sz bytes:Nat) (zs:List Value)|Ae (e:TypeId)|Ki (e:TypeId) (bytes:Nat) (zs:List Value)|mark|Mn|zG|IL|ow (s:Nat)|Af (s:Nat) (z:Value) (ok:Bool)|TU (s:Nat)|At (ne:Bool)|MA|TR|Ss
inductive AK where|bf|pick|bin (op:BinOp)|beq (ne:Bool)|not|neg|qU (k:IntKind)|yE|len|om|qb|CU (lo hi:Bool)|BO (off:Nat) (n:Option Nat)|aE (off:Nat)|load (n:Option Nat)|bo (e:TypeId) (sz:Nat)|Cw (n sz:Nat)|dg|m4 (sz:Nat) (lo hi:Bool)|ext (i:Nat)|kg (zs:List Value) (parts:List (Nat×Nat))|yP (f:FuncId)|cC (e:TypeId)|box|alloc (zs:List Value)|gF (e:TypeId) (sz:Nat)|call (f:FuncId)|fE|zB (mx:Bool)|eqs (ne:Bool) (ks:List Nat)|store (n:Option Nat)|app (e:TypeId) (sz bytes:Nat)|qq|ve (e:TypeId)|ze (e:TypeId) (sz:Nat) (zs:List Value)|ex (x:XK)
structure AI where
 d:Option Nat
 k:AK
 xs:List Operand
 g:Option (Nat×Bool)
 un:List Nat
 tg:Option Nat
inductive AC where|skip|ah (is:List AI) (drawn:Bool) (aU:List Nat)|seq (a b:AC)|cond (x:Operand) (a b:AC)|block (id:Nat) (a:AC)|loop (a:AC)|exit (id:Nat)|ret
def vf (op:BinOp) (k:IntKind) (a b:Int):PV:=.int k (k.wrap (match op with|.and=>(BitVec.ofInt k.bits a&&&BitVec.ofInt k.bits b).toNat|.or=>(BitVec.ofInt k.bits a|||BitVec.ofInt k.bits b).toNat|.xor=>(BitVec.ofInt k.bits a^^^BitVec.ofInt k.bits b).toNat|_=>(BitVec.ofInt k.bits a&&&~~~BitVec.ofInt k.bits b).toNat:Nat))
def dj (op:BinOp) (x y:PV):Option (Prop×PV):=match x,y with
 |.int k a,.int k' b=>match op with|.shl=>some (0≤b,.int k (k.wrap (a*2^(min b.toNat k.bits))))|.shr=>some (0≤b,.int k (a.fdiv (2^(min b.toNat k.bits))))|op=>if k=k' then match op with|.add=>some (True,.int k (k.wrap (a+b)))|.sub=>some (True,.int k (k.wrap (a-b)))|.mul=>some (True,.int k (k.wrap (a*b)))|.quo=>some (b≠0,.int k (k.wrap (a.tdiv b)))|.rem=>some (b≠0,.int k (a.tmod b))|.eql=>some (True,.bool (decide (a=b)))|.neq=>some (True,.bool (!decide (a=b)))|.lss=>some (True,.bool (decide (a<b)))|.leq=>some (True,.bool (decide (a≤b)))|.gtr=>some (True,.bool (decide (b<a)))|.geq=>some (True,.bool (decide (b≤a)))|op=>some (True,vf op k a b) else none
 |.str a,.str b=>match op with|.add=>some (a.length+b.length≤9223372036854775807,.str (a++b))|.eql=>some (True,.bool (decide (a=b)))|.neq=>some (True,.bool (!decide (a=b)))|.lss=>some (True,.bool (Op.bytesLess a b))|.leq=>some (True,.bool (Op.bytesLess a b||decide (a=b)))|.gtr=>some (True,.bool (!(Op.bytesLess a b||decide (a=b))))|.geq=>some (True,.bool (!Op.bytesLess a b))|_=>none
 |_,_=>none
def ky:IntKind→Nat|.i8=>0|.i16=>1|.i32=>2|.i64=>3|.u8=>4|.u16=>5|.u32=>6|.u64=>7
def cD:PV→Nat|.bool _=>0|.str _=>1|.int k _=>2+ky k|_=>99
def lA:PV→PV→Bool|.int _ a,.int _ b=>decide (a=b)|.str a,.str b=>decide (a=b)|.bool a,.bool b=>decide (a=b)|_,_=>false
def ir:List PV→List PV→Bool|[],[]=>true|a::l,b::m=>lA a b&&ir l m|_,_=>false
def rowAt (rows:List (List PV)) (i:Int):List PV:=rows.getD i.toNat []
def bytesRow (l:List UInt8):List (List PV):=l.map fun c=>[.int .u8 (c.toNat:Int)]
def zy:AV→Option PV|.pv p=>some p|_=>none
def dF:List AV→Option (List PV)|[]=>some []|v::l=>(zy v).bind fun p=>(dF l).map (p::·)
def rowOf:AV→Option (List PV)|.agg cs=>dF cs|.pv p=>some [p]|_=>none
def rowsOf:List AV→Option (List (List PV))|[]=>some []|v::l=>(rowOf v).bind fun p=>(rowsOf l).map (p::·)
def cellsOf:AV→List AV|.agg cs=>cs|v=>[v]
def dt:AV→Bool|.pv (.val v)=>v.oneCell'|.pv _|.own _|.ptr _ _|.aI _ _ _ _|.sub _ _ _ _|.rp _|.bk _ _=>true|_=>false
def er:List AV→Bool|[]=>true|c::cs=>dt c&&er cs
def jy:AV→Bool|.agg _=>true|v=>dt v
def mU:AV→AV|.bk f []=>.pv (.val (.func (.func f) #[] #[]))|v=>v
def lay (cs:List AV) (off:Nat) (ps:List AV):List AV:=cs.take off++ps++cs.drop (off+ps.length)
def iJ (cs:List AV):List (Nat×Nat)→List AV→Option (List AV)|[],[]=>some cs|(off,n)::ps,x::xs=>if jy x=true∧(cellsOf x).length=n∧off+n≤cs.length then iJ (lay cs off ((cellsOf x).map mU)) ps xs else none|_,_=>none
def bounds (n:Nat) (lo hi:Bool) (xs:List AV):Option (Int×Int):=match lo,hi,xs with|false,false,[]=>some (0,n)|true,false,[.pv (.int _ l)]=>some (l,n)|false,true,[.pv (.int _ h)]=>some (0,h)|true,true,[.pv (.int _ l),.pv (.int _ h)]=>some (l,h)|_,_,_=>none
def cut {α:Type} (l:List α) (lo hi:Int):List α:=(l.take hi.toNat).drop lo.toNat
def cn:Option AO→Option (TypeId×List (List PV))|some (.arr e rows)=>some (e,rows)|_=>none
def QZ:Option AO→Option (TypeId×List AV)|some (.rws e cs)=>some (e,cs)|_=>none
def wU:Option AO→Option (TypeId×Nat)|some (.arr e rows)=>some (e,rows.length)|some (.rws e cs)=>some (e,cs.length)|_=>none
def dJ:Option AO→Option (List AV)|some (.box cs)=>some cs|_=>none
def ct (aa:Nat→Option AO):AV→Option (List (List PV))|.pv .nil=>some []|.pv (.ro rows)=>some rows|.pv (.str l)=>some (bytesRow l)|.own t=>(cn (aa t)).map (·.2)|.sub t e lo hi=>(cn (aa t)).bind fun r=>if r.1=e then some ((r.2.take hi).drop lo) else none|_=>none
def ez (aa:Nat→Option AO):AV→Option (List (List PV))|.pv .nil=>some []|.pv (.ro rows)=>some rows|.own t=>(cn (aa t)).map (·.2)|.sub t e lo hi=>(cn (aa t)).bind fun r=>if r.1=e then some ((r.2.take hi).drop lo) else none|_=>none
def byteOf:List PV→Option UInt8|[.int .u8 n]=>if 0≤n∧n<256 then some (UInt8.ofNat n.toNat) else none|_=>none
def bytesOf:List (List PV)→Option (List UInt8)|[]=>some []|r::l=>(byteOf r).bind fun c=>(bytesOf l).map (c::·)
def j7:AV→Bool|.agg _|.aC _|.bL _ _|.al=>false|_=>true
def j4 (e:TypeId) (i:Int) (o:Nat):Option AO→Option (Prop×AV)|some (.arr e' rows)=>if e'=e then some (0≤i∧i<rows.length∧o<(rowAt rows i).length,.pv ((rowAt rows i).getD o (.int .u8 0))) else none|some (.rws e' cs)=>if e'=e∧o=0 then(cs[i.toNat]?).bind fun c=>if j7 c=true then some (0≤i,c) else none else none|_=>none
def jq (k:PV):List (PV×PV)→Option PV|[]=>none|e::l=>if lA k e.1=true then some e.2 else jq k l
def eb (s:Nat) (es:List (PV×PV)):Prop:=∀e∈es,cD e.1=s
def tV (z:Value) (ok:Bool) (o:Option PV):AV:=if ok=true then .aC [.pv (o.getD (ou z)),.pv (.bool o.isSome)] else .pv (o.getD (ou z))
def ai (k:AK) (xs:List AV) (aa:Nat→Option AO):Option (Prop×AV):=match k,xs with|.bin op,[.pv x,.pv y]=>(dj op x y).map fun r=>(r.1,.pv r.2)|.beq ne,[.pv (.bool x),.pv (.bool y)]=>some (True,.pv (.bool (if ne then x !=y else x==y)))|.not,[.pv (.bool b)]=>some (True,.pv (.bool (!b)))|.neg,[.pv (.int k n)]=>some (True,.pv (.int k (k.wrap (0-n))))|.qU k,[.pv (.int _ n)]=>some (True,.pv (.int k (k.wrap n)))|.yE,[.pv (.str l)]=>some (True,.pv (.str l))|.om,[.pv (.str l)]=>some (True,.pv (.int .i64 l.length))|.len,[.pv .nil]=>some (True,.pv (.int .i64 0))|.len,[.pv (.ro rows)]=>some (True,.pv (.int .i64 rows.length))|.len,[.own t]=>(wU (aa t)).map fun r=>(True,.pv (.int .i64 r.2))|.len,[.sub t _ lo hi]=>(cn (aa t)).map fun _=>(True,.pv (.int .i64 ((hi:Int)-(lo:Int))))|.qb,[.pv (.str l),.pv (.int _ i)]=>some (0≤i∧i<l.length,.pv (.int .u8 ((l.getD i.toNat 0).toNat:Int)))|.CU lo hi,.pv (.str l)::bs=>(bounds l.length lo hi bs).map fun b:Int×Int=>(0≤b.1∧b.1≤b.2∧b.2≤(l.length:Int),.pv (.str (cut l b.1 b.2)))|.BO off none,[.agg cs]=>(cs[off]?).map fun c=>(True,c)|.BO off (some n),[.agg cs]=>if off+n≤cs.length then some (True,.agg ((cs.drop off).take n)) else none|.aE off,[.ptr t o]=>some (True,.ptr t (o+off))|.aE off,[.aI t e i o]=>some (True,.aI t e i (o+off))|.aE off,[.rp cs]=>some (True,.rp (cs.drop off))|.Cw n sz,[.ptr t o,.pv (.int _ i)]=>some (0≤i∧i<(n:Int),.ptr t (o+i.toNat*sz))|.Cw n sz,[.rp cs,.pv (.int _ i)]=>some (0≤i∧i<(n:Int),.rp (cs.drop (i.toNat*sz)))|.dg,[.ptr t o]=>some (True,.ptr t o)|.dg,[.aI t e i o]=>some (True,.aI t e i o)|.dg,[.rp cs]=>some (True,.rp cs)|.load none,[.ptr t o]=>(dJ (aa t)).bind fun cs=>(cs[o]?).bind fun c=>if j7 c=true then some (True,c) else none|.load (some n),[.ptr t o]=>(dJ (aa t)).bind fun cs=>if o+n≤cs.length then some (True,.agg ((cs.drop o).take n)) else none|.load none,[.aI t e i o]=>j4 e i o (aa t)|.load (some n),[.aI t e i o]=>(cn (aa t)).bind fun r=>if r.1=e∧o+n≤(rowAt r.2 i).length then some (0≤i∧i<r.2.length,.agg ((((rowAt r.2 i).drop o).take n).map .pv)) else none|.load none,[.rp (c::_)]=>some (True,.pv c)|.load none,[.rp []]=>some (False,.pv (.int .u64 0))|.load (some n),[.rp cs]=>if n≤cs.length then some (True,.agg ((cs.take n).map .pv)) else none|.bo _ sz,[.pv (.ro rows),.pv (.int _ i)]=>some (0≤i∧i<rows.length∧(rowAt rows i).length=sz,.rp (rowAt rows i))|.bo e _,[.own t,.pv (.int _ i)]=>(wU (aa t)).bind fun r=>if r.1=e then some (0≤i∧i<r.2,.aI t e i 0) else none|.bo e _,[.sub t e1 lo hi,.pv (.int _ i)]=>(cn (aa t)).bind fun r=>if r.1=e∧e1=e then some (0≤i∧i<(hi:Int)-(lo:Int),.aI t e ((lo:Int)+i) 0) else none|.m4 sz lo hi,.own t::bs=>(cn (aa t)).bind fun r=>(bounds r.2.length lo hi bs).map fun b:Int×Int=>(0≤b.1∧b.1≤b.2∧b.2≤(r.2.length:Int)∧(∀x∈r.2,x.length=sz),.sub t r.1 b.1.toNat b.2.toNat)|.m4 sz lo hi,.sub t e l h::bs=>(cn (aa t)).bind fun r=>if r.1=e then(bounds (h-l) lo hi bs).map fun b:Int×Int=>(0≤b.1∧b.1≤b.2∧b.2≤((h-l:Nat):Int)∧(∀x∈r.2,x.length=sz),.sub t e (l+b.1.toNat) (l+b.2.toNat)) else none|.m4 sz lo hi,.pv (.ro rows)::bs=>(bounds rows.length lo hi bs).map fun b:Int×Int=>(0≤b.1∧b.1≤b.2∧b.2≤(rows.length:Int)∧(∀r∈rows,r.length=sz),.pv (.ro (cut rows b.1 b.2)))|.m4 _ lo hi,.pv .nil::bs=>(bounds 0 lo hi bs).map fun b:Int×Int=>(b.1=0∧b.2=0,.pv .nil)|.ext i,[.aC vs]=>(vs[i]?).map fun v=>(True,v)|.kg zs ps,xs=>(iJ (zs.map cv) ps xs).map fun cs=>(True,.agg cs)|.yP f,xs=>some (True,.bk f xs)|.zB mx,[.pv (.int k a),.pv (.int k' b)]=>if k=k' then some (True,.pv (.int k (if mx then max a b else min a b))) else none|.eqs ne ks,[.agg xs,.agg ys]=>(dF xs).bind fun a=>(dF ys).map fun b=>(a.map cD=ks∧b.map cD=ks,.pv (.bool (if ne then !ir a b else ir a b)))|.ex (.Af s z ok),[.pv (.mv es),.pv k]=>some (z.oneCell'=true∧cD k=s∧eb s es,tV z ok (jq k es))|.qq,[x]=>(ez aa x).bind fun rows=>(bytesOf rows).map fun l=>(True,.pv (.str l))|_,_=>none
def bM:Value→Option Nat|.slice (some a) _ _=>some a.block|.pointer (some a)=>some a.block|.map (some b)=>some b|_=>none
def bA:PV→Value|.int k n=>.int k n|.str l=>.string ⟨l.toArray⟩|.bool b=>.bool b|_=>undef
inductive cM (S:Nat→Prop) (w:World):Value→PV→Prop|int (k:IntKind) (n:Int):cM S w (.int k n) (.int k n)|bool (b:Bool):cM S w (.bool b) (.bool b)|str (l:List UInt8):cM S w (.string ⟨l.toArray⟩) (.str l)|nil:cM S w (.slice none 0 0) .nil|val (v:Value):v.oneCell'=true→cM S w v (.val v)|mp (b:Nat) (us:Array MapEntry) (c:Nat) (ks:List PV):S b→w.heap[b]?=some (.map us c)→us.toList.length=ks.length→(∀(i:Nat) (k:PV) (u:MapEntry),ks[i]?=some k→us.toList[i]?=some u→u.key=bA k∧u.val=.agg #[])→cM S w (.map (some b)) (.mp ks)|mv (b:Nat) (us:Array MapEntry) (c:Nat) (es:List (PV×PV)):S b→w.heap[b]?=some (.map us c)→MapKept.Stamped us c→us.toList.length=es.length→(∀(i:Nat) (e:PV×PV) (u:MapEntry),es[i]?=some e→us.toList[i]?=some u→u.key=bA e.1∧cD e.1<99∧u.val.oneCell'=true)→(∀(i:Nat) (e:PV×PV) (u:MapEntry),es[i]?=some e→us.toList[i]?=some u→cM S w u.val e.2)→cM S w (.map (some b)) (.mv es)|pt (ad:Addr) (cs:List PV) (us:Nat→Value):S ad.block→(∀j,j<cs.length→w.cell? (ad.add j)=some (us j))→(∀(j:Nat) (p:PV),cs[j]?=some p→(us j).oneCell'=true)→(∀(j:Nat) (p:PV),cs[j]?=some p→cM S w (us j) p)→cM S w (.pointer (some ad)) (.pt cs)|uh (A:Option Addr) (c:Nat):cM S w (.slice A 0 c) (.ro [])|ro (ad:Addr) (c:Nat) (rows:List (List PV)) (sz:Nat) (us:Nat→Nat→Value):S ad.block→rows.length≤c→(∀r,r∈rows→r.length=sz)→(∀i j,i<rows.length→j<sz→w.cell? (ad.add (i*sz+j))=some (us i j))→(∀(i j:Nat) (r:List PV) (p:PV),rows[i]?=some r→r[j]?=some p→(us i j).oneCell'=true)→(∀(i j:Nat) (r:List PV) (p:PV),rows[i]?=some r→r[j]?=some p→cM S w (us i j) p)→cM S w (.slice (some ad) rows.length c) (.ro rows)
inductive RV (P:Program) (S:Nat→Prop) (w:World) (β:Nat→Value) (D:Nat→Prop):Value→AV→Prop|pv (v:Value) (p:PV):cM S w v p→RV P S w β D v (.pv p)|own (t:Nat):D t→RV P S w β D (β t) (.own t)|ptr (t o b:Nat):D t→β t=.pointer (some ⟨b,0,none⟩)→RV P S w β D (.pointer (some ⟨b,o,none⟩)) (.ptr t o)|aI (t:Nat) (e:TypeId) (i:Int) (o b n c:Nat) (inf:TypeInfo):D t→P.info? e=some inf→β t=.slice (some ⟨b,0,none⟩) n c→RV P S w β D (.pointer (some ⟨b,i.toNat*inf.size+o,none⟩)) (.aI t e i o)|sub (v:Value) (t:Nat) (e:TypeId) (lo hi:Nat) (inf:TypeInfo) (A A1:Option Addr) (n c:Nat):D t→P.info? e=some inf→β t=.slice A n c→lo≤hi→hi≤n→n≤c→(lo=0→A1=A)→(c≠lo→A1=A.map (·.add (lo*inf.size)))→v=.slice A1 (hi-lo) (c-lo)→RV P S w β D v (.sub t e lo hi)|rp (ad:Addr) (cs:List PV) (us:Nat→Value):S ad.block→(∀j,j<cs.length→w.cell? (ad.add j)=some (us j))→(∀(j:Nat) (p:PV),cs[j]?=some p→(us j).oneCell'=true)→(∀(j:Nat) (p:PV),cs[j]?=some p→cM S w (us j) p)→RV P S w β D (.pointer (some ad)) (.rp cs)|agg (cs:List AV) (us:List Value):us.length=cs.length→(∀(i:Nat) (c:AV) (u:Value),cs[i]?=some c→us[i]?=some u→RV P S w β D u c)→RV P S w β D (.agg us.toArray) (.agg cs)|aC (vs:List AV) (us:List Value):us.length=vs.length→(∀(i:Nat) (c:AV) (u:Value),vs[i]?=some c→us[i]?=some u→RV P S w β D u c)→RV P S w β D (.tuple us.toArray) (.aC vs)|bk (f:FuncId) (cs:List AV) (us:List Value):us.length=cs.length→(∀(i:Nat) (c:AV) (u:Value),cs[i]?=some c→us[i]?=some u→RV P S w β D u c)→RV P S w β D (.func (.func f) #[] us.toArray) (.bk f cs)|bL (g:Bool) (v:Value) (av:AV):(g=true→RV P S w β D v av)→(g=false→v=undef)→RV P S w β D v (.bL g av)|al (v:Value):RV P S w β D v .al
def gX (s:Nat) (es:List (PV×AV)):Prop:=∀e∈es,cD e.1=s
def getM (k:PV):List (PV×AV)→Option AV|[]=>none|e::l=>if lA k e.1=true then some e.2 else getM k l
def jj (k:PV) (v:AV):List (PV×AV)→List (PV×AV)|[]=>[(k,v)]|e::l=>if lA k e.1=true then(k,v)::l else e::jj k v l
def Cz:Value→AV|.agg cs=>.agg (cs.toList.map cv)|v=>cv v
def aW (P:Program) (S:Nat→Prop) (w:World) (β:Nat→Value) (D:Nat→Prop) (t:Nat):AO→Prop|.box cs=>∃b us ty,β t=.pointer (some ⟨b,0,none⟩)∧w.heap[b]?=some (.cells us ty (0,0))∧us.size=cs.length∧∀(i:Nat) (c:AV) (u:Value),cs[i]?=some c→us[i]?=some u→u.oneCell'=true∧RV P S w β D u c|.arr e rows=>∃inf us,P.info? e=some inf∧w.ownsRow 0 e inf.size (β t) rows.length us∧(∀r,r∈rows→r.length=inf.size)∧∀(i j:Nat) (r:List PV) (p:PV),rows[i]?=some r→r[j]?=some p→∃u,us[i*inf.size+j]?=some u∧u.oneCell'=true∧cM S w u p|.map es=>∃(b:Nat) (us:Array MapEntry) (c:Nat),β t=.map (some b)∧w.heap[b]?=some (.map us c)∧us.toList.length=es.length∧∀(i:Nat) (e:PV×AV) (u:MapEntry),es[i]?=some e→us.toList[i]?=some u→u.key=bA e.1∧RV P S w β (fun _=>False) u.val e.2|.rws e cs=>∃inf us,P.info? e=some inf∧inf.size=1∧w.ownsRow 0 e inf.size (β t) cs.length us∧∀(i:Nat) (c:AV) (u:Value),cs[i]?=some c→us[i]?=some u→u.oneCell'=true∧RV P S w β D u c|.fD es=>∃(b:Nat) (us:Array MapEntry) (c:Nat),β t=.map (some b)∧w.heap[b]?=some (.map us c)∧MapKept.Stamped us c∧us.toList.length=es.length∧∀(i:Nat) (e:PV×PV) (u:MapEntry),es[i]?=some e→us.toList[i]?=some u→u.key=bA e.1∧cD e.1<99∧u.val.oneCell'=true∧cM S w u.val e.2|.lq rem cur=>∃(r m:Nat) (us:Array MapEntry) (c:Nat) (seen:Array Nat),β t=.pointer (some ⟨r,0,none⟩)∧w.heap[r]?=some (.mapIter (some m) c seen c)∧S m∧w.heap[m]?=some (.map us c)∧MapKept.Stamped us c∧(leftOf us seen).toList.length=rem.length∧(∀(i:Nat) (e:PV×PV) (u:MapEntry),rem[i]?=some e→(leftOf us seen).toList[i]?=some u→u.key=bA e.1∧cD e.1<99∧u.val.oneCell'=true∧cM S w u.val e.2)∧∀e,cur=some e→∃(u:MapEntry) (seen':Array Nat),seen=seen'.push u.born∧u∈us.toList∧u.key=bA e.1∧cD e.1<99∧u.val.oneCell'=true∧cM S w u.val e.2
def aw {α:Type} (aa:Nat→Option α) (t:Nat):Prop:=∃o,aa t=some o
def live (β:Nat→Value) (aa:Nat→Option AO) (b:Nat):Prop:=∃t o,aa t=some o∧bM (β t)=some b
def aK (S0:Nat→Prop) (n0:Nat) (β:Nat→Value) (aa:Nat→Option AO) (w:World) (b:Nat):Prop:=(S0 b∨n0≤b)∧b<w.heap.size∧¬live β aa b
structure Heap (P:Program) (S:Nat→Prop) (w:World) (β:Nat→Value) (aa:Nat→Option AO):Prop where
 holds:∀t o,aa t=some o→aW P S w β (aw aa) t o
 inj:∀t t' b,aw aa t→aw aa t'→bM (β t)=some b→bM (β t')=some b→t=t'
structure uM (L:Nat→Prop) (w w':World):Prop where
 os:w'.os=w.os
 tape:w'.tape=w.tape
 output:w'.output=w.output
 size:w.heap.size≤w'.heap.size
 block:∀b,b<w.heap.size→¬L b→w'.heap[b]?=w.heap[b]?
structure Rel (P:Program) (S0:Nat→Prop) (L:Nat→Prop) (B0:Nat→Value) (w0:World) (N:Nat) (st:St) (a:Act) (w:World) (β:Nat→Value):Prop where
 size:a.tmps.size=N
 defers:a.defers=[]
 vars:∀s,RV P (aK S0 w0.heap.size β st.aa w) w β (aw st.aa) (a.tmps.getD s undef) (st.vars s)
 heap:Heap P (aK S0 w0.heap.size β st.aa w) w β st.aa
 old:∀t b,aw st.aa t→bM (β t)=some b→w0.heap.size≤b∨L b
 oE:N≤998
 rG:∀t,t%1000=999→aw st.aa t→β t=B0 t
 bJ:uM L w0 w
def bG:AV→Nat→Option AV|.agg cs,j=>cs[j]?|v,j=>if j=0 then some v else none
def cellAt:AV→Nat→Option AV|.aC vs,p=>(vs[p%1000]?).bind fun v=>bG v (p/1000)|v,p=>if p%1000=0 then bG v (p/1000) else none
def fw (g:Nat→AV→AV) (j:Nat):List AV→List AV|[]=>[]|c::cs=>g (1000*j) c::fw g (j+1) cs
def kD (g:Nat→AV→AV):AV→AV|.agg cs=>.agg (fw g 0 cs)|v=>g 0 v
def fW (g:Nat→AV→AV) (i:Nat):List AV→List AV|[]=>[]|v::vs=>kD (fun p c=>g (p+i) c) v::fW g (i+1) vs
def cq (g:Nat→AV→AV):AV→AV|.aC vs=>.aC (fW g 0 vs)|v=>kD g v
def jE (d:Nat) (p:Nat):AV→AV|.fr _ _=>.own (d+1000*p)|v=>v
def DI (p:Nat):AV→AV|.fr _ _=>.own p|v=>v
def df:Option AV→Option AO|some (.fr e rows)=>some (.arr e rows)|_=>none
def eT (j:Nat):List AV→List (Nat×AO)|[]=>[]|.fr e rows::cs=>(1000*j,.arr e rows)::eT (j+1) cs|_::cs=>eT (j+1) cs
def jk:AV→List (Nat×AO)|.agg cs=>eT 0 cs|.fr e rows=>[(0,.arr e rows)]|_=>[]
def jW (i:Nat):List AV→List (Nat×AO)|[]=>[]|v::vs=>(jk v).map (fun x=>(x.1+i,x.2))++jW (i+1) vs
def wg:AV→List (Nat×AO)|.aC vs=>jW 0 vs|v=>jk v
def gH:PV→Bool|.int _ _|.bool _|.str _|.nil|.val _=>true|.ro rows=>rows.isEmpty|.mp _|.mv _|.pt _=>false
def bE (rows:List (List PV)):Prop:=∀r∈rows,∀p∈r,gH p=true
def kI:AV→Prop|.pv p=>gH p=true|.fr _ rows=>bE rows|_=>False
def ma:List AV→Prop|[]=>True|c::cs=>kI c∧ma cs
def jg:AV→Prop|.agg cs=>ma cs|v=>kI v
def nZ:List AV→Prop|[]=>True|c::cs=>jg c∧nZ cs
def flat:AV→Prop|.aC vs=>nZ vs|v=>jg v
def bP (f g:Nat→Option AO):Nat→Option AO:=fun t=>match f t with|some o=>some o|none=>g t
def A3 (P:Program) (f:FuncId) (hin:List (Nat×AO)) (args:List AV) (hout:List (Nat×AO)) (r:AV):Prop:=∀(w:World) (S0:Nat→Prop) (β:Nat→Value) (vals:List Value),(∀b,S0 b→b<w.heap.size)→(∀t b,aw (ab hin) t→bM (β t)=some b→b<w.heap.size)→Heap P (aK S0 w.heap.size β (ab hin) w) w β (ab hin)→vals.length=args.length→(∀(i:Nat) (v:Value) (x:AV),vals[i]?=some v→args[i]?=some x→RV P (aK S0 w.heap.size β (ab hin) w) w β (aw (ab hin)) v x)→Calls P f vals.toArray w fun e w'=>∃v β',e=.returned v∧uM (live β (ab hin)) w w'∧Heap P (aK S0 w.heap.size β' (bP (ab hout) fun t=>df (cellAt r t)) w') w' β' (bP (ab hout) fun t=>df (cellAt r t))∧(∀t b,aw (bP (ab hout) fun t=>df (cellAt r t)) t→bM (β' t)=some b→w.heap.size≤b∨live β (ab hin) b)∧RV P (aK S0 w.heap.size β' (bP (ab hout) fun t=>df (cellAt r t)) w') w' β' (aw (bP (ab hout) fun t=>df (cellAt r t))) v (cq DI r)
def CI:AV→AV|.fr _ _=>.own 998|.aC [.fr _ _]=>.own 999|x=>x
def kl:List AV→List (Nat×AO)|[]=>[]|.fr e rows::_=>[(998,.arr e rows)]|.aC [.fr e rows]::_=>[(999,.arr e rows)]|_::l=>kl l
def bB:AV→AV|.bk _ [r,.fr _ _]=>r|r=>r
def dr:AV→List (Nat×AO)|.bk _ [_,.fr e rows]=>[(999,.arr e rows)]|_=>[]
def zo (P:Program) (f:FuncId) (ys:List AV) (x:AV):Prop:=∀(w:World) (S0:Nat→Prop) (β:Nat→Value) (vals:List Value),(∀b,S0 b→b<w.heap.size)→(∀t b,aw (ab (kl ys)) t→bM (β t)=some b→b<w.heap.size)→Heap P (aK S0 w.heap.size β (ab (kl ys)) w) w β (ab (kl ys))→vals.length=ys.length→(∀(i:Nat) (v:Value) (x:AV),vals[i]?=some v→(ys.map CI)[i]?=some x→RV P (aK S0 w.heap.size β (ab (kl ys)) w) w β (aw (ab (kl ys))) v x)→Calls P f vals.toArray w fun e w'=>∃v β',e=.returned v∧uM (live β (ab (kl ys))) w w'∧Heap P (aK (fun b=>S0 b∨live β (ab (kl ys)) b) w.heap.size β' (bP (ab (dr x)) fun t=>df (cellAt (bB x) t)) w') w' β' (bP (ab (dr x)) fun t=>df (cellAt (bB x) t))∧(∀t b,aw (bP (ab (dr x)) fun t=>df (cellAt (bB x) t)) t→bM (β' t)=some b→w.heap.size≤b∨live β (ab (kl ys)) b)∧(∀t,aw (ab (dr x)) t→aw (ab (kl ys)) t∧β' t=β t)∧RV P (aK (fun b=>S0 b∨live β (ab (kl ys)) b) w.heap.size β' (bP (ab (dr x)) fun t=>df (cellAt (bB x) t)) w') w' β' (aw (bP (ab (dr x)) fun t=>df (cellAt (bB x) t))) v (cq DI (bB x))
inductive HT (P:Program) (S:Nat→Prop) (w:World):Value→AV→List Nat→Prop|leaf (v:Value) (y:AV):RV P S w (fun _=>undef) (fun _=>False) v y→HT P S w v y []|fr (v:Value) (e:TypeId) (rows:List (List PV)) (inf:TypeInfo) (us:List Value):P.info? e=some inf→w.ownsRow 0 e inf.size v rows.length us→(∀r,r∈rows→r.length=inf.size)→(∀(i j:Nat) (r:List PV) (p:PV),rows[i]?=some r→r[j]?=some p→∃u,us[i*inf.size+j]?=some u∧u.oneCell'=true∧cM S w u p)→HT P S w v (.fr e rows) (bM v).toList|mf (b:Nat) (us:Array MapEntry) (c:Nat) (es:List (PV×PV)):w.heap[b]?=some (.map us c)→MapKept.Stamped us c→us.toList.length=es.length→(∀(i:Nat) (e:PV×PV) (u:MapEntry),es[i]?=some e→us.toList[i]?=some u→u.key=bA e.1∧cD e.1<99∧u.val.oneCell'=true∧cM S w u.val e.2)→HT P S w (.map (some b)) (.mf es) [b]|bx (b:Nat) (us:Array Value) (ty:TypeId) (cs:List AV) (bss:List (List Nat)):w.heap[b]?=some (.cells us ty (0,0))→us.size=cs.length→bss.length=cs.length→(∀(i:Nat) (u:Value),us[i]?=some u→u.oneCell'=true)→(∀(i:Nat) (c:AV) (u:Value) (bs:List Nat),cs[i]?=some c→us[i]?=some u→bss[i]?=some bs→HT P S w u c bs)→HT P S w (.pointer (some ⟨b,0,none⟩)) (.bx cs) (b::bss.flatten)|agg (us:List Value) (cs:List AV) (bss:List (List Nat)):us.length=cs.length→bss.length=cs.length→(∀(i:Nat) (c:AV) (u:Value) (bs:List Nat),cs[i]?=some c→us[i]?=some u→bss[i]?=some bs→HT P S w u c bs)→HT P S w (.agg us.toArray) (.agg cs) bss.flatten|aC (us:List Value) (cs:List AV) (bss:List (List Nat)):us.length=cs.length→bss.length=cs.length→(∀(i:Nat) (c:AV) (u:Value) (bs:List Nat),cs[i]?=some c→us[i]?=some u→bss[i]?=some bs→HT P S w u c bs)→HT P S w (.tuple us.toArray) (.aC cs) bss.flatten
def AP (P:Program) (S:Nat→Prop) (w:World) (vs:List Value) (ys:List AV) (bss:List (List Nat)):Prop:=vs.length=ys.length∧bss.length=ys.length∧∀(i:Nat) (y:AV) (v:Value) (bs:List Nat),ys[i]?=some y→vs[i]?=some v→bss[i]?=some bs→HT P S w v y bs
def Dn:AV→AV|.aC [y]=>y|y=>y
def Cx:AV→Bool|.aC [_]=>true|_=>false
def dC {α:Type}:List AV→List α→List α|y::ys,v::vs=>if Cx y=true then v::dC ys vs else dC ys vs|_,_=>[]
def iR:AV→AV|.bk _ (r::_)=>r|r=>r
def jo:AV→List AV|.bk _ (_::os)=>os|_=>[]
def xN (P:Program) (f:FuncId) (ys:List AV) (x:AV):Prop:=∀(w:World) (S0:Nat→Prop) (vals:List Value) (bss:List (List Nat)),(∀b,S0 b→b<w.heap.size∧b∉bss.flatten)→bss.flatten.Nodup→AP P S0 w vals (ys.map Dn) bss→Calls P f vals.toArray w fun e w'=>∃v bss',e=.returned v∧uM (·∈bss.flatten) w w'∧bss'.flatten.Nodup∧(∀b∈bss'.flatten,w.heap.size≤b∨b∈bss.flatten)∧AP P (fun b=>(S0 b∨b∈bss.flatten∨w.heap.size≤b)∧b<w'.heap.size∧b∉bss'.flatten) w' (dC ys vals++[v]) (jo x++[iR x]) bss'
def yl:AV→Bool|.agg []=>true|_=>false
def s0:Value→Bool|.agg cs=>cs.isEmpty|_=>false
def AH:Option AO→Option PV|some (.arr _ rows)=>some (.ro rows)|some (.map es)=>if es.all (fun e=>yl e.2)=true then some (.mp (es.map (·.1))) else none|some (.fD es)=>some (.mv es)|_=>none
def dD (aa:Nat→Option AO):AV→Option PV|.pv .nil=>some (.ro [])|.pv p=>some p|.own t=>AH (aa t)|.sub t e lo hi=>(cn (aa t)).bind fun r=>if r.1=e then some (.ro ((r.2.take hi).drop lo)) else none|_=>none
def gG (aa:Nat→Option AO):List AV→Option (List PV)|[]=>some []|c::cs=>(dD aa c).bind fun p=>(gG aa cs).map (p::·)
def dN (aa:Nat→Option AO):AV→Option AV|.ptr t o=>(dJ (aa t)).bind fun cs=>(gG aa (cs.drop o)).map .rp|.rp cs=>some (.rp cs)|.agg cs=>(gG aa cs).map fun ps=>.agg (ps.map .pv)|.bk f []=>some (.bk f [])|v=>(dD aa v).map .pv
def ji (aa:Nat→Option AO):List AV→Option (List AV)|[]=>some []|c::cs=>(dN aa c).bind fun p=>(ji aa cs).map (p::·)
def lR (aa:Nat→Option AO):AV→Option AV|.bk f caps=>(ji aa caps).map (.bk f)|v=>dN aa v
def en (aa:Nat→Option AO):List AV→Option (List AV)|[]=>some []|c::cs=>(lR aa c).bind fun p=>(en aa cs).map (p::·)
def eW:AV→Bool|.pv _|.rp _=>true|_=>false
def fg:List AV→Bool|[]=>true|c::cs=>eW c&&fg cs
def dc:AV→Bool|.agg cs=>fg cs|.bk _ cs=>fg cs|v=>eW v
def dB:List AV→Bool|[]=>true|c::cs=>dc c&&dB cs
def Jv:Option AO→Option AV|some (.arr e rows)=>some (.fr e rows)|some (.fD es)=>some (.mf es)|_=>none
def CH (f:AV→Option (AV×List Nat)):List AV→Option (List AV×List Nat)|[]=>some ([],[])|c::cs=>(f c).bind fun r=>(CH f cs).map fun q=>(r.1::q.1,r.2++q.2)
def rd:Nat→(Nat→Option AO)→AV→Option (AV×List Nat)|0,_,_=>none|n+1,aa,x=>match x with|.own t=>(Jv (aa t)).map fun y=>(y,[t])|.ptr t 0=>(dJ (aa t)).bind fun cs=>(CH (rd n aa) cs).map fun r=>(.bx r.1,t::r.2)|.agg cs=>(CH (rd n aa) cs).map fun r=>(.agg r.1,r.2)|.pv p=>some (.pv p,[])|.rp cs=>some (.rp cs,[])|.bk f []=>some (.bk f [],[])|_=>none
def tk:Bool→List Nat×List Nat→Option (Nat×List Nat×List Nat)|true,(p::ps,us)=>some (p,ps,us)|false,(ps,u::us)=>some (u,ps,us)|_,_=>none
def lG (f:AV→List Nat×List Nat→Option (AV×List (Nat×AO)×List Nat×List Nat)):List AV→List Nat×List Nat→Option (List AV×List (Nat×AO)×List Nat×List Nat)|[],s=>some ([],[],s)|c::cs,s=>(f c s).bind fun r=>(lG f cs r.2.2).map fun q=>(r.1::q.1,r.2.1++q.2.1,q.2.2)
def num:Nat→Bool→AV→List Nat×List Nat→Option (AV×List (Nat×AO)×List Nat×List Nat)|0,_,_,_=>none|n+1,top,y,s=>match y with|.fr e rows=>(tk top s).map fun q=>(.own q.1,[(q.1,.arr e rows)],q.2)|.mf es=>(tk top s).map fun q=>(.own q.1,[(q.1,.fD es)],q.2)|.bx cs=>(tk top s).bind fun q=>(lG (num n false) cs q.2).map fun r=>(.ptr q.1 0,(q.1,.box r.1)::r.2.1,r.2.2)|.agg cs=>(lG (num n top) cs s).map fun r=>(.agg r.1,r.2)|.aC cs=>(lG (num n top) cs s).map fun r=>(.aC r.1,r.2)|.pv p=>some (.pv p,[],s)|.rp cs=>some (.rp cs,[],s)|.bk f caps=>if fg caps=true then some (.bk f caps,[],s) else none|_=>none
def oc:AV→List Nat|.own t=>[t]|.ptr t 0=>[t]|_=>[]
def oi:AV→List Nat|.agg cs=>cs.flatMap oc|x=>oc x
def dv (W:List Nat):AV→AV|.own t=>if W.contains t then .al else .own t|.ptr t o=>if W.contains t then .al else .ptr t o|.aI t e i o=>if W.contains t then .al else .aI t e i o|.sub t e lo hi=>if W.contains t then .al else .sub t e lo hi|.pv p=>.pv p|.rp cs=>.rp cs|.bk f []=>.bk f []|_=>.al
def gf (W:List Nat):AV→AV|.agg cs=>.agg (cs.map (dv W))|v=>dv W v
def jd (W:List Nat):AV→AV|.aC cs=>.aC (cs.map (gf W))|.bk f cs=>.bk f (cs.map (gf W))|.bL g v=>.bL g (jd W v)|v=>gf W v
def dO (W:List Nat) (v:AV):AV:=if W.isEmpty=true then v else jd W v
def ud (W:List Nat):AO→AO|.box cs=>.box (cs.map (dv W))|.rws e cs=>.rws e (cs.map (dv W))|o=>o
def gJ (W:List Nat) (o:AO):AO:=if W.isEmpty=true then o else ud W o
def ft (W:List Nat) (f:Nat→AV):Nat→AV:=fun s=>dO W (f s)
def dG (T W:List Nat) (f:Nat→Option AO):Nat→Option AO:=fun t=>if T.contains t then none else(f t).map (gJ W)
def Am (aa objs':Nat→Option AO) (T:List Nat):List Nat→List AV→Option (List AV)|[],[]=>some []|k::ks,x::xs=>(if k=0 then lR objs' (dO T x) else if k=1 then(rd 5 aa x).map (·.1) else(rd 5 aa x).map fun r=>.aC [r.1]).bind fun y=>(Am aa objs' T ks xs).map (y::·)|_,_=>none
def dR (aa:Nat→Option AO):List Nat→List AV→List Nat|k::ks,x::xs=>(if k=0 then[] else((rd 5 aa x).map (·.2)).getD [])++dR aa ks xs|_,_=>[]
def dz:List Nat→List AV→List AV|k::ks,x::xs=>if 1<k then x::dz ks xs else dz ks xs|_,_=>[]
def dL (T:List Nat):List Nat→List AV→Bool|k::ks,x::xs=>(k !=0||dc (dO T x))&&dL T ks xs|_,_=>true
def fm:Nat→AV→Prop|0,_=>False|n+1,y=>match y with|.fr _ rows=>bE rows|.mf es=>∀e∈es,gH e.2=true|.bx cs|.agg cs|.aC cs=>∀c∈cs,fm n c|.pv p=>gH p=true|.bk _ []=>True|_=>False
def aB (d:Nat) (r:AV):List (Nat×AO):=(wg r).map fun x=>(d+1000*x.1,x.2)
def bF {α:Type} (l:List α) (o:Nat) (ps:List α):List α:=l.take o++ps++l.drop (o+ps.length)
def bD (t:Nat):AV→AV|.own s=>if s=t then .al else .own s|.aI s e i o=>if s=t then .al else .aI s e i o|.sub s e i o=>if s=t then .al else .sub s e i o|.pv p=>.pv p|.ptr s o=>.ptr s o|.rp cs=>.rp cs|.bk f []=>.bk f []|_=>.al
def bq (t:Nat):List AV→List AV|[]=>[]|c::cs=>bD t c::bq t cs
def kill (t:Nat):AV→AV|.agg cs=>.agg (bq t cs)|.aC cs=>.aC (bq t cs)|.bL g v=>.bL g (kill t v)|v=>bD t v
def cQ (t:Nat):AO→AO|.box cs=>.box (bq t cs)|.rws e cs=>.rws e (bq t cs)|o=>o
def bU (t:Nat) (f:Nat→AV):Nat→AV:=fun s=>kill t (f s)
def cF (t:Nat) (f:Nat→Option AO):Nat→Option AO:=fun s=>(f s).map (cQ t)
def b7 (k:AK) (d:Nat) (xs:List AV) (aa:Nat→Option AO):Option (Prop×AV×AO):=match k,xs with|.cC e,_=>some (True,.own d,.arr e [])|.box,[x]=>if er (cellsOf x) then some (True,.ptr d 0,.box (cellsOf x)) else none|.alloc zs,_=>if zs.all (·.oneCell') then some (True,.ptr d 0,.box (zs.map cv)) else none|.gF e sz,xs=>(rowsOf xs).map fun rows=>(∀r∈rows,r.length=sz,.own d,.arr e rows)|.app e sz bytes,[.pv .nil,x]=>(ct aa x).map fun rows=>(rows.length*bytes≤140737488355328∧rows.length≤maxLen∧(∀r∈rows,r.length=sz),.own d,.arr e rows)|_,_=>none
def dy (k:AK) (xs:List AV) (aa:Nat→Option AO):Option (Prop×Nat×AO):=match k,xs with|.store none,[.ptr t o,v]=>(dJ (aa t)).bind fun cs=>if dt v∧o<cs.length then some (True,t,.box (cs.set o v)) else none|.store (some n),[.ptr t o,.agg vs]=>(dJ (aa t)).bind fun cs=>if er vs∧vs.length=n∧o+n≤cs.length then some (True,t,.box (bF cs o vs)) else none|.store none,[.aI t e i o,.pv p]=>(cn (aa t)).bind fun r=>if r.1=e∧o<(rowAt r.2 i).length∧dt (.pv p) then some (0≤i∧i<r.2.length,t,.arr e (r.2.set i.toNat ((rowAt r.2 i).set o p))) else none|.store (some n),[.aI t e i o,.agg vs]=>(cn (aa t)).bind fun r=>(dF vs).bind fun ps=>if r.1=e∧er vs∧ps.length=n∧o+n≤(rowAt r.2 i).length then some (0≤i∧i<r.2.length,t,.arr e (r.2.set i.toNat (bF (rowAt r.2 i) o ps))) else none|.app e sz bytes,[.own t,x]=>(cn (aa t)).bind fun r=>(ct aa x).bind fun more=>if r.1=e∧t%1000≠999 then some ((r.2.length+more.length)*bytes≤140737488355328∧r.2.length+more.length≤maxLen∧(∀r∈more,r.length=sz),t,.arr e (r.2++more)) else none|_,_=>none
def ag {α:Type} (o:Option α) (K:α→Prop):Prop:=match o with|some x=>K x|none=>False
def mG (φ ψ:Prop) (c:Bool):AV→AV→Option (Prop×AV)|.pv (.bool x),.pv (.bool y)=>some ((c=true→φ)∧(c=false→ψ),.pv (.bool (cond c x y)))|.pv (.bool x),_=>some (c=true∧φ,.pv (.bool x))|_,.pv (.bool y)=>some (c=false∧ψ,.pv (.bool y))|_,_=>none
def gu:AV→Option Bool|.pv (.bool c)=>some c|_=>none
def px:List AV→Option (Prop×AV)|[c,a,b]=>(gu (strip c)).bind fun g=>(mG (asks a) (asks b) g (strip a) (strip b)).map fun r=>(asks c∧r.1,r.2)|_=>none
def bd (os:List (Nat×AO)) (aa:Nat→Option AO):Nat→Option AO:=fun t=>match ab os t with|some o=>some o|none=>aa t
inductive bh where|put (v:AV)|new (v:AV) (os:List (Nat×AO))|rL (t:Nat) (o:AO)|app (t:Nat) (o:AO)
def bh.on (d:Option Nat):bh→St→St|.put v,st=>⟨Ab.put d v st.vars,st.aa⟩|.new v os,st=>⟨Ab.put d v st.vars,bd os st.aa⟩|.rL t o,st=>⟨Ab.put d .al st.vars,aA t o st.aa⟩|.app t o,st=>⟨Ab.put d (.own t) (bU t st.vars),aA t o (cF t st.aa)⟩
def my:List AV→Bool|.own _::_=>true|_=>false
def lZ:AV→Bool|.aC vs=>decide (vs.length≤1000)|_=>true
def gW:AV→Bool|.pv _|.rp _|.fr _ _=>true|_=>false
def l7:List AV→Bool|[]=>true|c::cs=>gW c&&l7 cs
def ku:AV→Bool|.agg cs=>l7 cs|v=>gW v
def nC:List AV→Bool|[]=>true|c::cs=>ku c&&nC cs
def cr:AV→Bool|.aC vs=>decide (vs.length≤900)&&nC vs|v=>ku v
def CF:AV→Bool
 |.bx _|.mf _=>true|.agg cs=>cs.any fun c=>match c with|.bx _|.mf _=>true|_=>false
 |_=>false
def lV:AV→Bool|.aC vs=>vs.any CF|v=>CF v
def iz (d:Nat):List Nat:=[d,d+1000,d+2000,d+3000,d+4000,d+5000,d+6000,d+7000]
def nm (r:AV):Prop:=if lV r=true then fm 5 r else flat r
def ie (d:Nat) (r:AV):List (Nat×AO):=if lV r=true then(((num 5 false r ([],iz d)).map (·.2.1)).getD []) else aB d r
def we (d:Nat) (r:AV):AV:=if lV r=true then(((num 5 false r ([],iz d)).map (·.1)).getD .al) else cq (jE d) r
def uZ (d:Nat) (r:AV):Bool:=if lV r=true then(num 5 false r ([],iz d)).isSome else cr r
def HR (P:Program) (f:FuncId) (ys:List AV) (r:AV):Prop:=(lV r=true→xN P f ys (.bk 0 [r]))∧(lV r=false→A3 P f [] ys [] r)
abbrev bp:=FuncId→List AV→Option (Prop×AV)
def cR (P:Program) (Γ:bp):Prop:=∀f ys φ r,Γ f ys=some (φ,r)→φ→(f<1000000∧A3 P f [] ys [] r)∨(P.funcs.size≤1000000∧1000000≤f∧f<2000000∧(ys=[.al]∨zo P (f-1000000) ys r))∨(P.funcs.size≤1000000∧2000000≤f∧f<3000000∧(ys=[.al]∨xN P (f-2000000) ys r))∨(P.funcs.size≤1000000∧3000000≤f∧xN P (f-3000000) ys (.bk 0 [r]))
def KY:Option (Prop×AV)→Option (Prop×AV)→Option (Prop×AV)|some x,_=>some (x.1∧lV x.2=false,x.2)|none,y=>y.map fun x=>(x.1∧lV x.2=true,x.2)
def gt (Γ:bp) (f:FuncId) (ys:List AV):Option (Prop×AV):=KY (Γ f ys) (Γ (f+3000000) ys)
theorem Xo {n f:Nat} (h:3000000≤f) (hn:n≤1000000):¬f<n:=by omega
theorem cR.T7 {P:Program}{Γ:bp} (h:cR P Γ) {f:FuncId} (hf:f<P.funcs.size) {ys:List AV}{φ:Prop}{r:AV} (hr:gt Γ f ys=some (φ,r)) (hφ:φ):HR P f ys r:=by unfold gt at hr;cases hg:Γ f ys with
 |some x=>
  rw[hg]at hr;have hr:some (x.1∧lV x.2=false,x.2)=some (φ,r):=hr;simp only[Option.some.injEq,Prod.mk.injEq]at hr;obtain⟨rfl,rfl⟩:=hr;refine⟨fun e=>absurd (hφ.2.symm.trans e) Bool.false_ne_true,fun _=>?_⟩;rcases h f ys x.1 x.2 hg hφ.1 with⟨_,h⟩|⟨h,h2,_⟩|⟨h,h2,_⟩|⟨h,h2,_⟩;·exact h
  ·exact absurd hf (Nat.not_lt.2 (Nat.le_trans h h2))
  ·exact absurd hf (Nat.not_lt.2 (Nat.le_trans h (Nat.le_trans (by decide) h2)))
  ·exact absurd hf (Xo h2 h)|none=>
  rw[hg]at hr;obtain⟨x,hx,hr⟩:=Option.map_eq_some_iff.1 (show(Γ (f+3000000) ys).map (fun x=>(x.1∧lV x.2=true,x.2))=some (φ,r) from hr);simp only[Prod.mk.injEq]at hr;obtain⟨rfl,rfl⟩:=hr;refine⟨fun _=>?_,fun e=>absurd (e.symm.trans hφ.2) Bool.false_ne_true⟩;rcases h (f+3000000) ys x.1 x.2 hx hφ.1 with⟨h,_⟩|⟨_,_,h,_⟩|⟨_,_,h,_⟩|⟨_,_,h⟩;·exact absurd h (Nat.not_lt.2 (Nat.le_trans (by decide) (Nat.le_add_left 3000000 f)))
  ·exact absurd h (Nat.not_lt.2 (Nat.le_trans (by decide) (Nat.le_add_left 3000000 f)))
  ·exact absurd h (Nat.not_lt.2 (Nat.le_add_left 3000000 f))
  ·rw[show f+3000000-3000000=f from Nat.add_sub_cancel _ _]at h;exact h
def bX (P:Program) (Γ:bp) (d:Option Nat) (f:FuncId) (xs:List AV) (aa:Nat→Option AO) (C:bh→Prop):Prop:=ag d fun d=>aj xs∧ag (en aa (xs.map strip)) fun ys=>ag (gt Γ f ys) fun x=>x.1∧(dB (xs.map strip)=true∨nm x.2)∧(∀y∈ie d x.2,aa y.1=none)∧uZ d x.2=true∧C (.new (we d x.2) (ie d x.2))
def aL (P:Program) (Γ:bp) (d:Option Nat) (k:AK) (xs:List AV) (aa:Nat→Option AO) (C:bh→Prop):Prop:=match k with|.bf=>ag xs.head? fun x=>xs.length=1∧C (.put x)|.pick=>ag (px xs) fun x=>x.1∧C (.put x.2)|.cC _|.box|.alloc _|.gF _ _=>ag d fun d=>aj xs∧ag (b7 k d (xs.map strip) aa) fun x=>x.1∧aa d=none∧C (.new x.2.1 [(d,x.2.2)])|.store _=>aj xs∧ag (dy k (xs.map strip) aa) fun x=>x.1∧C (.rL x.2.1 x.2.2)|.app _ _ _=>aj xs∧if my (xs.map strip) then ag (dy k (xs.map strip) aa) fun x=>x.1∧C (.app x.2.1 x.2.2) else ag d fun d=>ag (b7 k d (xs.map strip) aa) fun x=>x.1∧aa d=none∧C (.new x.2.1 [(d,x.2.2)])|.call f=>bX P Γ d f xs aa C|_=>aj xs∧ag (ai k (xs.map strip) aa) fun x=>x.1∧C (.put x.2)
def u7 (Γ:bp) (c:Bool) (f:FuncId) (xs:List AV) (aa:Nat→Option AO) (C:bh→Prop):Prop:=ag (en aa (xs.map strip)) fun ys=>ag (gt Γ f ys) fun x=>(c=true→aj xs∧x.1)∧flat x.2∧wg x.2=[]∧cr x.2=true∧C (.put (.bL c x.2))
def EX:AV→AV|.fr _ rows=>.pv (.ro rows)|v=>v
def E2:AV→AV|.agg cs=>.agg (cs.map EX)|v=>EX v
def Ps:AV→AV|.aC vs=>.aC (vs.map E2)|v=>E2 v
def MW:Option (List (List PV))→AV|some rows=>.bL false (.pv (.ro rows))|none=>.al
def zh (xs:List AV):AV:=MW (rowsOf (xs.map strip))
def bO (P:Program) (Γ:bp) (c:Bool) (d:Option Nat) (k:AK) (xs:List AV) (aa:Nat→Option AO) (C:bh→Prop):Prop:=match k with|.bf=>ag xs.head? fun x=>xs.length=1∧C (.put (.bL c x))|.pick=>ag (px xs) fun x=>(c=true→x.1)∧C (.put (.bL c x.2))|.gF _ _=>(c=true→aL P Γ d k xs aa C)∧(c=false→C (.put (zh xs)))|.cC _|.box|.alloc _|.store _|.app _ _ _=>(c=true→aL P Γ d k xs aa C)∧(c=false→C (.put .al))|.call f=>ag (en aa (xs.map strip)) fun ys=>ag (gt Γ f ys) fun x=>if(!lV x.2&&(wg x.2).isEmpty)=true then(c=true→aj xs∧x.1)∧flat x.2∧wg x.2=[]∧cr x.2=true∧C (.put (.bL c x.2)) else(c=true→aL P Γ d k xs aa C)∧(c=false→C (.put (.bL false (Ps x.2))))|_=>ag (ai k (xs.map strip) aa) fun x=>(c=true→aj xs∧x.1)∧C (.put (.bL c x.2))
def qi:Bool→Option Bool→Option Bool|false,_=>some false|true,o=>o
def bj:AV→Bool→Option Bool|.pv (.bool b),want=>some (if want then b else !b)|.bL c v,want=>qi c (bj v want)|_,_=>none
def iC (un:List Nat) (t:Nat):Prop:=un.contains (t%1000)=false
def rl (un:List Nat):AV→Prop|.own t|.ptr t _|.aI t _ _ _|.sub t _ _ _=>iC un t|_=>True
def fk (un:List Nat):List AV→Prop|[]=>True|c::cs=>rl un c∧fk un cs
def lL (un:List Nat) (aa:Nat→Option AO):AV→Prop|.ptr t _=>iC un t∧fk un ((dJ (aa t)).getD [])|.agg cs=>fk un cs|v=>rl un v
def jh (un:List Nat) (aa:Nat→Option AO):List AV→Prop|[]=>True|c::cs=>lL un aa c∧jh un aa cs
def nv (un:List Nat) (aa:Nat→Option AO):AV→Prop|.bk _ cs=>jh un aa cs|v=>lL un aa v
def gZ (un:List Nat) (aa:Nat→Option AO):List AV→Prop|[]=>True|c::cs=>nv un aa c∧gZ un aa cs
def pw:Option Nat→bh→Prop|none,_=>True|some s,.rL t _=>t=s|some _,_=>False
def je (un:List Nat):bh→Prop|.app t _=>un.contains (t%1000+1000)=false|_=>True
def wB (un:List Nat) (tg:Option Nat) (e:bh):Prop:=pw tg e∧je un e
def cP (P:Program) (Γ:bp) (i:AI) (vars:Nat→AV) (aa:Nat→Option AO) (C:bh→Prop):Prop:=match i.g with|none=>aL P Γ i.d i.k (i.xs.map (ev vars)) aa C|some (s,want)=>ag (bj (vars s) want) fun c=>bO P Γ c i.d i.k (i.xs.map (ev vars)) aa C
def ck (P:Program) (Γ:bp) (i:AI) (K:St→Prop) (st:St):Prop:=(i.un=[]∨gZ i.un st.aa ((i.xs.map (ev st.vars)).map strip))∧cP P Γ i st.vars st.aa fun e=>wB i.un i.tg e∧K (e.on i.d st)
def fy (P:Program) (f:FuncId):Bool:=match P.funcs[f]? with|some fn=>fn.name != "runtime.NumGoroutine" &&fn.body.isSome|none=>false
def jb:List AV→Option (FuncId×List AV)|.bk f caps::args=>some (f,args++caps)|.pv (.val v)::args=>(Fe v).map fun f=>(f,args)|_=>none where Fe:Value→Option FuncId|.func (.func f) ⟨[]⟩ ⟨[]⟩=>some f|_=>none
def eH:List AV→Bool|[]=>false|.al::_=>true|.pv (.val _)::_=>true|.rp []::_=>true|_::l=>eH l
def CQ:Option Bool→Bool|some false=>true|_=>false
def fo:Bool→Bool→Prop→Prop→Prop|false,_,A,_=>A|true,f,A,B=>if f=true then B else A
def sh (t:Nat) (e0:TypeId) (rows:List (List PV)):AV→AV|.own s=>if s=t then .pv (.ro rows) else .own s|.sub s e lo hi=>if s=t then(if e=e0 then .pv (.ro ((rows.take hi).drop lo)) else .al) else .sub s e lo hi|v=>kill t v
def CD (t:Nat) (e0:TypeId) (rows:List (List PV)) (f:Nat→AV):Nat→AV:=fun s=>sh t e0 rows (f s)
def ew (t:Nat) (f:Nat→Option AO):Nat→Option AO:=fun s=>if s=t then none else(f s).map (cQ t)
def Jz (t:Nat) (e0:TypeId) (rows:List (List PV)):AV→AV|.own s=>if s=t then .pv (.ro rows) else .own s|.sub s e lo hi=>if s=t then(if e=e0 then .pv (.ro ((rows.take hi).drop lo)) else .al) else .sub s e lo hi|c=>bD t c
def ot (t:Nat) (e0:TypeId) (rows:List (List PV)):List AV→List AV|[]=>[]|c::cs=>Jz t e0 rows c::ot t e0 rows cs
def zQ (t:Nat) (e0:TypeId) (rows:List (List PV)):AV→AV|.agg cs=>.agg (ot t e0 rows cs)|v=>sh t e0 rows v
def CG (t:Nat) (e0:TypeId) (rows:List (List PV)):AO→AO|.box cs=>.box (ot t e0 rows cs)|o=>cQ t o
def Ub (t:Nat) (e0:TypeId) (rows:List (List PV)) (f:Nat→AV):Nat→AV:=fun s=>zQ t e0 rows (f s)
def wq (t:Nat) (e0:TypeId) (rows:List (List PV)) (f:Nat→Option AO):Nat→Option AO:=fun s=>if s=t then none else(f s).map (CG t e0 rows)
def gj (st:St):AV→St
 |.own t=>match cn (st.aa t) with|some r=>⟨Ub t r.1 r.2 st.vars,wq t r.1 r.2 st.aa⟩|none=>st
 |_=>st
def eR:St→List AV→St|st,[]=>st|st,c::cs=>eR (gj st c) cs
def share1 (st:St):AV→St|.agg cs=>eR st cs|v=>gj st v
def b8 (st:St):List AV→St|[]=>st|v::l=>b8 (share1 st v) l
def uN:PV→PV|.nil=>.ro []|p=>p
def oo:AV→AV|.pv p=>.pv (uN p)|c=>c
def jY:List AV→List AV|[]=>[]|c::cs=>oo c::jY cs
def uf:AV→AV|.agg cs=>.agg (jY cs)|v=>oo v
def qD:AO→AO|.box cs=>.box (jY cs)|o=>o
def qQ (st:St):St:=⟨fun s=>uf (st.vars s),fun s=>(st.aa s).map qD⟩
def ox:Option AO→Option (List (PV×PV))|some (.fD es)=>some es|_=>none
def P4 (t:Nat) (es:List (PV×PV)):AV→AV|.own s=>if s=t then .pv (.mv es) else .own s|v=>kill t v
def vM (t:Nat) (st:St):St:=match ox (st.aa t) with|some es=>⟨fun s=>P4 t es (st.vars s),ew t st.aa⟩|none=>st
def tB (t:Nat) (st:St):St:=if t=999996 then qQ st else if 1000000000000000≤t then vM (t-1000000000000000) st else share1 st (.own t)
def bW:List Nat→St→St|[],st=>st|t::ts,st=>bW ts (tB t st)
def D0:AV→Bool|.pv (.ro _)|.pv (.mp _)|.pv (.mv _)|.pv (.pt _)|.rp _=>true|_=>false
def Ao:List AV→Bool|[]=>false|c::cs=>D0 c||Ao cs
def Js:AV→Bool|.agg cs=>Ao cs|v=>D0 v
def Ay:List AV→Bool|[]=>false|c::cs=>Js c||Ay cs
def P1:AV→Bool|.aC vs=>Ay vs|v=>Js v
def oT (t:Nat) (st:St):St:=match cn (st.aa t) with|some _=>⟨bU t st.vars,ew t st.aa⟩|none=>st
def uu (P:Program) (Γ:bp) (d:Option Nat) (f:FuncId) (xs:List Operand) (K:St→Prop) (st:St):Prop:=bX P Γ d f (xs.map (ev st.vars)) st.aa fun e=>K (e.on d st)
def jD (P:Program) (Γ:bp) (i:AI) (f:FuncId) (K:St→Prop) (st:St):Prop:=ag (en st.aa ((i.xs.map (ev st.vars)).map strip)) fun ys=>ag (gt Γ f ys) fun x=>if(P1 x.2&&!dB ((i.xs.map (ev st.vars)).map strip))=true then uu P Γ i.d f i.xs K (b8 st ((i.xs.map (ev st.vars)).map strip)) else ck P Γ i K st
def Sp:AV→Bool|.pv (.ro _)|.pv (.mp _)|.pv (.mv _)|.pv (.pt _)|.rp _|.fr _ _|.bx _|.mf _=>true|_=>false
def OW:List AV→Bool|[]=>false|c::cs=>Sp c||OW cs
def WS:AV→Bool|.agg cs=>OW cs|v=>Sp v
def Pu:List AV→Bool|[]=>false|c::cs=>WS c||Pu cs
def SC:AV→Bool|.aC vs=>Pu vs|v=>WS v
def m5 (t:Nat):AV→Prop|.own s|.ptr s _|.aI s _ _ _|.sub s _ _ _=>s≠t|.pv _|.rp _|.al=>True|.bk _ []=>True|_=>False
def qM (t:Nat):List AV→Prop|[]=>True|c::cs=>m5 t c∧qM t cs
def tT (t:Nat):AV→Prop|.agg cs|.bk _ cs=>qM t cs|v=>m5 t v
def jN (t p:Nat):List AV→Prop|[]=>True|v::vs=>(match p with|0=>kR vs|p+1=>tT t v∧jN t p vs) where kR:List AV→Prop|[]=>True|v::vs=>tT t v∧kR vs
def dW (aa:Nat→Option AO) (k:Nat):AV→Option (Nat×TypeId×List (List PV))|.own t=>(cn (aa t)).map fun r=>(t,r.1,r.2)|.sub t e 0 hi=>if k=998 then(cn (aa t)).bind fun r=>if r.1=e then some (t,e,r.2.take hi) else none else none|_=>none
def sj (k:Nat) (e:TypeId) (rows:List (List PV)):AV:=if k=998 then .fr e rows else .aC [.fr e rows]
def nN (aa:Nat→Option AO) (m:AV):Nat→List AV→Option (List AV)|_,[]=>some []|0,_::vs=>(en aa vs).map (m::·)|p+1,v::vs=>(lR aa v).bind fun y=>(nN aa m p vs).map (y::·)
def gO:Nat→List AV→Bool|_,[]=>true|0,_::vs=>dB vs|p+1,v::vs=>dc v&&gO p vs
def mj:List (Nat×AO)→Prop|[]=>True|(_,.arr _ rows)::l=>bE rows∧mj l|_::l=>mj l
def ca (t:Nat) (x:AV) (aa:Nat→Option AO):Nat→Option AO:=match dr x with|(_,o)::_=>aA t o aa|[]=>ew t aa
def fq (t:Nat) (x:AV) (vars:Nat→AV):Nat→AV:=match dr x with|_::_=>vars|[]=>bU t vars
def yL:AV→Option (Nat×Nat)|.ptr p k=>if k=998∨k=999∨k=997∨k=996 then some (p,k) else none|_=>none
def cN (Γ:bp) (f:FuncId):Option (Nat×Nat):=(Γ (f+1000000) [.al]).bind fun x=>yL x.2
def ja (P:Program) (Γ:bp) (d:Option Nat) (f:FuncId) (xs:List AV) (p k:Nat) (K:St→Prop) (st:St):Prop:=ag d fun d=>aj xs∧ag ((xs.map strip)[p]?) fun X=>ag (dW st.aa k X) fun T=>jN T.1 p (xs.map strip)∧ag (nN (ew T.1 st.aa) (sj k T.2.1 T.2.2) p (xs.map strip)) fun ys=>ag (Γ (f+1000000) ys) fun x=>x.1∧(gO p (xs.map strip)=true∨(flat (bB x.2)∧mj (dr x.2)))∧(∀y∈aB d (bB x.2),st.aa y.1=none)∧cr (bB x.2)=true∧K ⟨put (some d) (cq (jE d) (bB x.2)) (fq T.1 x.2 st.vars),bd (aB d (bB x.2)) (ca T.1 x.2 st.aa)⟩
def np (aa:Nat→Option AO):Nat→List AV→Option (List AV)|_,[]=>some []|0,.pv .nil::vs=>(en aa vs).map (.pv .nil::·)|0,_::_=>none|p+1,v::vs=>(lR aa v).bind fun y=>(np aa p vs).map (y::·)
def vE (P:Program) (Γ:bp) (d:Option Nat) (f:FuncId) (xs:List AV) (p:Nat) (K:St→Prop) (st:St):Prop:=ag d fun d=>aj xs∧ag (np st.aa p (xs.map strip)) fun ys=>ag (Γ (f+1000000) ys) fun x=>x.1∧(dB (xs.map strip)=true∨flat x.2)∧(∀y∈aB d x.2,st.aa y.1=none)∧cr x.2=true∧K ⟨put (some d) (cq (jE d) x.2) st.vars,bd (aB d x.2) st.aa⟩
def HB:AV→Option (List Nat)|.rp l=>some (l.map fun p=>match p with|.int _ n=>n.toNat|_=>0)|_=>none
def gx (Γ:bp) (f:FuncId):Option (List Nat):=(Γ (f+2000000) [.al]).bind fun x=>HB x.2
def mn (d:Nat) (T W:List Nat):List Nat:=W.filter (fun t=>t%1000 !=999)++[d,d+1000,d+2000,d+3000,d+4000,d+5000,d+6000,d+7000].filter fun t=>!T.contains t
def tm (Γ:bp) (d f:Nat) (ks:List Nat) (xs:List AV) (T Q W:List Nat) (K:St→Prop) (st:St) (ys:List AV):Prop:=ag (Γ (f+2000000) ys) fun x=>x.1∧(dL T ks xs=true∨∀y∈jo x.2++[iR x.2],fm 5 y)∧ag (lG (num 5 true) (jo x.2) (Q,mn d T W)) fun o=>o.1=dz ks xs∧ag (num 5 false (iR x.2) o.2.2) fun r=>(∀p∈o.2.1++r.2.1,T.contains p.1=true∨st.aa p.1=none)∧K ⟨put (some d) r.1 (ft W st.vars),bd (o.2.1++r.2.1) (dG T W st.aa)⟩
def tR (Γ:bp) (d f:Nat) (ks:List Nat) (xs:List AV) (T Q W:List Nat) (K:St→Prop) (st:St):Prop:=Q.Nodup∧ag (Am st.aa (dG T T st.aa) T ks xs) fun ys=>tm Γ d f ks xs T Q W K st ys
def ug (Γ:bp) (d f:Nat) (ks:List Nat) (xs:List AV) (T Q:List Nat) (K:St→Prop) (st:St):Prop:=T.Nodup∧(∀t∈Q,t∈T)∧tR Γ d f ks xs T Q (T.filter fun t=>!Q.contains t) K st
def stepG (Γ:bp) (d:Option Nat) (f:FuncId) (xs:List AV) (ks:Option (List Nat)) (K:St→Prop) (st:St):Prop:=ag d fun d=>aj xs∧ag ks fun ks=>ug Γ d f ks (xs.map strip) (dR st.aa ks (xs.map strip)) ((dz ks (xs.map strip)).flatMap oi) K st
def j5 (P:Program) (Γ:bp) (i:AI) (f:FuncId) (s:Nat) (w:Bool) (o:Option (Nat×Nat)) (K:St→Prop) (st:St):Prop:=match o with|some (_,k)=>if k=996 then ag (bj (st.vars s) w) fun c=>if c=true then stepG Γ i.d f (i.xs.map (ev st.vars)) (gx Γ f) K st else K ((bh.put (.bL false .al)).on i.d st) else False|none=>fo (eH ((i.xs.map (ev st.vars)).map strip)) (CQ (bj (st.vars s) w)) (ag (bj (st.vars s) w) fun c=>ag (en st.aa ((i.xs.map (ev st.vars)).map strip)) fun ys=>ag (gt Γ f ys) fun x=>if SC x.2=true then(if c=true then jD P Γ ⟨i.d,i.k,i.xs,none,[],none⟩ f K st else K ((bh.put (.bL false .al)).on i.d st)) else ck P Γ i K st) (K ((bh.put (.bL false .al)).on i.d st))
def yK (P:Program) (Γ:bp) (i:AI) (f:FuncId) (s:Nat) (w:Bool) (K:St→Prop) (st:St):Prop:=j5 P Γ i f s w (cN Γ f) K st
def dE (P:Program) (Γ:bp) (d:Option Nat) (f:FuncId) (ys:List AV) (o:Option (Nat×Nat)) (K:St→Prop) (st:St):Prop:=match o with|some (_,k)=>if k=996 then stepG Γ d f ys (gx Γ f) K st else False|none=>bX P Γ d f ys st.aa fun e=>K (e.on d st)
def fA (P:Program) (Γ:bp) (d:Option Nat) (f:FuncId) (ys:List AV) (A:Prop) (c:Bool) (o:Option (Nat×Nat)) (K:St→Prop) (st:St):Prop:=match o with|some (_,k)=>if k=996 then(if c=true then A∧stepG Γ d f ys (gx Γ f) K st else K ((bh.put (.bL false .al)).on d st)) else False|none=>u7 Γ c f ys st.aa fun e=>(c=true→A)∧K (e.on d st)
def mW (P:Program) (Γ:bp) (d:Option Nat) (xs:List AV) (s:Nat) (w:Bool) (K:St→Prop) (st:St):Prop:=ag (bj (st.vars s) w) fun c=>ag (jb (xs.map strip)) fun x=>fy P x.1=true∧fA P Γ d x.1 x.2 (aj xs) c (cN Γ x.1) K st
def ey (P:Program) (Γ:bp) (d:Option Nat) (xs:List AV) (g:Option (Nat×Bool)) (K:St→Prop) (st:St):Prop:=match g with|none=>(aj xs∧ag (jb (xs.map strip)) fun x=>fy P x.1=true∧dE P Γ d x.1 x.2 (cN Γ x.1) K st)|some (s,w)=>fo (eH (xs.map strip)) (CQ (bj (st.vars s) w)) (mW P Γ d xs s w K st) (K ((bh.put (.bL false .al)).on d st))
def iZ:List AV→Bool|[]=>true|.pv _::l=>iZ l|_=>false
def VD (aa:Nat→Option AO):AV→Option Nat|.ptr t _=>(dJ (aa t)).bind fun cs=>if iZ cs=true then some t else none|_=>none
def kP (T:List Nat) (st:St):List Nat→Prop|[]=>True|s::l=>ag (VD st.aa (st.vars s)) (fun t=>T.contains t=false)∧kP T st l
def za (ks:Option (List Nat)) (aa:Nat→Option AO) (xs:List AV):List Nat:=match ks with|some ks=>dR aa ks xs|none=>[]
def fj (P:Program) (Γ:bp) (i:AI) (f:FuncId) (o:Option (Nat×Nat)) (K:St→Prop) (st:St):Prop:=match o with|some (p,k)=>if k=998 then i.un=[]∧ja P Γ i.d f (i.xs.map (ev st.vars)) p k K st else if k=996 then kP (za (gx Γ f) st.aa ((i.xs.map (ev st.vars)).map strip)) st i.un∧stepG Γ i.d f (i.xs.map (ev st.vars)) (gx Γ f) K st else False|none=>ck P Γ ⟨i.d,i.k,i.xs,i.g,[],none⟩ K st
def cb (P:Program) (Γ:bp) (i:AI) (K:St→Prop) (st:St):Prop:=match i.k,i.tg,i.g with|.call f,some 999999,none=>fj P Γ i f (cN Γ f) K st|.fE,some 999999,none=>ey P Γ i.d (i.xs.map (ev st.vars)) none K st|_,_,_=>ck P Γ i K st
def steps (P:Program) (Γ:bp) (is:List AI) (K:St→Prop) (st:St):Prop:=match is with|[]=>K st|i::is=>cb P Γ i (fun st'=>steps P Γ is K st') st
def fh (P:Program) (Γ:bp) (i:AI) (f:FuncId) (o:Option (Nat×Nat)) (K:St→Prop) (st:St):Prop:=match o with|some (p,k)=>if k=997 then vE P Γ i.d f (i.xs.map (ev st.vars)) p K st else if k=996 then stepG Γ i.d f (i.xs.map (ev st.vars)) (gx Γ f) K st else ja P Γ i.d f (i.xs.map (ev st.vars)) p k K st|none=>jD P Γ i f K st
def wK (aa:Nat→Option AO) (e:TypeId) (zs:List Value):AV→Option (Nat×AO)|.own t=>(cn (aa t)).bind fun r=>if r.1=e then some (t,.arr e (List.replicate r.2.length (zs.map ou))) else none|.sub t e1 lo hi=>(cn (aa t)).bind fun r=>if r.1=e∧e1=e then some (t,.arr e (r.2.take lo++List.replicate (hi-lo) (zs.map ou)++r.2.drop hi)) else none|_=>none
def mr (d:Option Nat) (e:TypeId) (sz:Nat) (zs:List Value) (xs:List AV) (K:St→Prop) (st:St):Prop:=aj xs∧ag ((xs.map strip).head?) fun X=>ag (wK st.aa e zs X) fun r=>K ((bh.rL r.1 r.2).on d st)
def bK (P:Program) (Γ:bp) (i:AI) (K:St→Prop) (st:St):Prop:=match i.g with|none=>ck P Γ i K st|some (s,w)=>fo (eH ((i.xs.map (ev st.vars)).map strip)) (CQ (bj (st.vars s) w)) (ck P Γ i K st) (K ((bh.put (.bL false .al)).on i.d st))
def tX:Option AO→Option (List (PV×AV))|some (.map es)=>some es|_=>none
def nR (d:Option Nat) (xs ys:List AV) (K:St→Prop) (st:St):Prop:=match ys with|[.pv (.int .u64 a),.pv (.int .u64 b),.pv (.int .u64 c)]=>aj xs∧(0≤a∧0≤b∧0≤c∧c≤1)∧K ⟨put d (.aC [.pv (.int .u64 ((a+b+c)%18446744073709551616)),.pv (.int .u64 ((a+b+c)/18446744073709551616))]) st.vars,st.aa⟩|_=>False
def jG (d:Option Nat) (e:TypeId) (bytes:Nat) (zs:List Value) (xs ys:List AV) (K:St→Prop) (st:St):Prop:=match ys with|[.pv .nil,.pv (.int .i64 n)]=>ag d fun d=>aj xs∧(0≤n∧n≤140737488355328∧n.toNat*bytes≤140737488355328)∧st.aa d=none∧K ⟨put (some d) (.own d) st.vars,bd [(d,.arr e (List.replicate n.toNat (zs.map ou)))] st.aa⟩|_=>False
def vX (d:Option Nat) (e:TypeId) (bytes:Nat) (zs:List Value) (xs ys:List AV) (K:St→Prop) (st:St):Prop:=match ys with|[.pv (.int _ n),.pv (.int _ c)]=>ag d fun d=>aj xs∧(c=n∧0≤n∧n≤140737488355328∧n.toNat*bytes≤140737488355328)∧st.aa d=none∧K ⟨put (some d) (.own d) st.vars,bd [(d,.arr e (List.replicate n.toNat (zs.map ou)))] st.aa⟩|_=>False
def ub (d:Option Nat) (e:TypeId) (xs ys:List AV) (K:St→Prop) (st:St):Prop:=ag d fun d=>aj xs∧er ys=true∧st.aa d=none∧K ⟨put (some d) (.own d) st.vars,bd [(d,.rws e ys)] st.aa⟩
def qR:List AV→Option (Nat×Nat)|[]=>none|c::l=>match c with|.own q=>some (0,q)|_=>(qR l).map fun r=>(r.1+1,r.2)
def rK (d:Option Nat) (X Y:AV) (xs:List AV) (K:St→Prop) (st:St):Prop:=match X,Y with|.aI t e i o,.own q=>aj xs∧ag (cn (st.aa t)) fun r=>(r.1=e∧o=0)∧(0≤i∧i<r.2.length∧(rowAt r.2 i).length=1)∧K ⟨put d .al st.vars,aA t (.rws e ((r.2.map fun x=>AV.pv (x.getD 0 .nil)).set i.toNat (.own q))) st.aa⟩|_,_=>False
def qW (d:Option Nat) (X:AV) (xs:List AV) (K:St→Prop) (st:St):Prop:=match X with|.own t=>aj xs∧ag (QZ (st.aa t)) fun r=>ag (qR r.2) fun j=>ag (cn (st.aa j.2)) fun s=>ag (dF (r.2.set j.1 (.pv (.ro s.2)))) fun ps=>K ⟨put d (.own t) (CD j.2 s.1 s.2 st.vars),aA t (.arr r.1 (ps.map fun p=>[p])) (ew j.2 st.aa)⟩|_=>False
def zE:Option AO→Option (List (PV×PV)×Option (PV×PV))|some (.lq rem cur)=>some (rem,cur)|_=>none
def jr (k v:PV):List (PV×PV)→List (PV×PV)|[]=>[(k,v)]|e::l=>if lA k e.1=true then(k,v)::l else e::jr k v l
def mD (k:PV):List (PV×PV)→List (PV×PV)|[]=>[]|e::l=>if lA k e.1=true then l else e::mD k l
def pP:AV→Option Bool
 |.ptr _ _|.aI _ _ _ _|.rp _|.pv (.pt _)=>some false|.pv (.val v)=>match v with|.pointer none=>some true|_=>none
 |_=>none
def nY (d:Option Nat) (s:Nat) (X Y Z:AV) (xs:List AV) (K:St→Prop) (st:St):Prop:=match X,Y,Z with|.own t,.pv k,.pv v=>aj xs∧ag (ox (st.aa t)) fun es=>cD k=s∧eb s es∧K ⟨put d .al st.vars,aA t (.fD (jr k v es)) st.aa⟩|_,_,_=>False
def BS (aa:Nat→Option AO):AV→Option (List (PV×PV))|.own t=>ox (aa t)|.pv (.mv es)=>some es|_=>none
def sA (d:Option Nat) (s:Nat) (z:Value) (ok:Bool) (X Y:AV) (xs:List AV) (K:St→Prop) (st:St):Prop:=match Y with|.pv k=>aj xs∧ag (BS st.aa X) fun es=>z.oneCell'=true∧cD k=s∧eb s es∧K ⟨put d (tV z ok (jq k es)) st.vars,st.aa⟩|_=>False
def s8 (d:Option Nat) (s:Nat) (X Y:AV) (xs:List AV) (K:St→Prop) (st:St):Prop:=match X,Y with|.own t,.pv k=>aj xs∧ag (ox (st.aa t)) fun es=>cD k=s∧eb s es∧K ⟨put d .al st.vars,aA t (.fD (mD k es)) st.aa⟩|_,_=>False
def rP (d:Option Nat) (X:AV) (xs:List AV) (K:St→Prop) (st:St):Prop:=match X with|.pv (.mv es)=>ag d fun d=>aj xs∧st.aa d=none∧K ⟨put (some d) (.ptr d 0) st.vars,bd [(d,.lq es none)] st.aa⟩|_=>False
def ss (d:Option Nat) (X:AV) (xs:List AV) (K:St→Prop) (st:St):Prop:=match X with|.ptr t 0=>aj xs∧ag (zE (st.aa t)) fun r=>(r.1=[]→K ⟨put d (.aC [.pv (.bool false)]) st.vars,st.aa⟩)∧∀(e:PV×PV) (l m:List (PV×PV)),r.1=l++e::m→K ⟨put d (.aC [.pv (.bool true),.pv e.1,.pv e.2]) st.vars,aA t (.lq (l++m) (some e)) st.aa⟩|_=>False
def sy (d:Option Nat) (X:AV) (xs:List AV) (K:St→Prop) (st:St):Prop:=match X with|.ptr t 0=>aj xs∧ag (zE (st.aa t)) fun r=>ag r.2 fun e=>K ⟨put d (.aC [.pv e.1,.pv e.2]) st.vars,st.aa⟩|_=>False
def pj (d:Option Nat) (x:XK) (xs ys:List AV) (K:St→Prop) (st:St):Prop:=match x,ys with|.Mn,[X,Y]=>rK d X Y xs K st|.zG,[X]=>qW d X xs K st|.IL,[]=>ag d fun d=>st.aa d=none∧K ⟨put (some d) (.own d) st.vars,bd [(d,.fD [])] st.aa⟩|.ow s,[X,Y,Z]=>nY d s X Y (mU Z) xs K st|.Af s z ok,[X,Y]=>sA d s z ok X Y xs K st|.TU s,[X,Y]=>s8 d s X Y xs K st|.At ne,[X]=>aj xs∧ag (pP X) fun b=>K ⟨put d (.pv (.bool (b !=ne))) st.vars,st.aa⟩|.MA,[X]=>rP d X xs K st|.TR,[X]=>ss d X xs K st|.Ss,[X]=>sy d X xs K st|_,_=>False
def aM (d:Option Nat) (x:XK) (xs:List AV) (K:St→Prop) (st:St):Prop:=match x,xs.map strip with|.Ma,[]=>ag d fun d=>st.aa d=none∧K ⟨put (some d) (.own d) st.vars,bd [(d,.map [])] st.aa⟩|.AA s,[.own t,.pv k,v]=>aj xs∧ag (tX (st.aa t)) fun es=>cD k=s∧gX s es∧dc v=true∧K ⟨put d .al st.vars,aA t (.map (jj k v es)) st.aa⟩|.zR s z ok,[.own t,.pv k]=>aj xs∧ag (tX (st.aa t)) fun es=>cD k=s∧gX s es∧K ⟨put d (if ok=true then .aC [(getM k es).getD (Cz z),.pv (.bool (getM k es).isSome)] else(getM k es).getD (Cz z)) st.vars,st.aa⟩|.ta,ys=>nR d xs ys K st|.nn ne,[X]=>aj xs∧ag (ez st.aa X) fun rows=>∀b:Bool,(rows≠[]→b=false)→K ⟨put d (.pv (.bool (if ne=true then !b else b))) st.vars,st.aa⟩|.xY,[.pv .nil]=>aj xs∧K ⟨put d (.pv (.int .i64 0)) st.vars,st.aa⟩|.xH e sz bytes zs,ys=>jG d e bytes zs xs ys K st|.Ae e,ys=>ub d e xs ys K st|.Ki e bytes zs,ys=>vX d e bytes zs xs ys K st|.zR s z ok,[.pv (.mp ks),.pv k]=>aj xs∧s0 z=true∧cD k=s∧(∀x∈ks,cD x=s)∧K ⟨put d (if ok=true then .aC [.agg [],.pv (.bool (ks.any (lA k)))] else .agg []) st.vars,st.aa⟩|.mark,[.own t]=>aj xs∧ag (cn (st.aa t)) fun r=>r.2≠[]∧K ⟨put d (.pv (.ro r.2)) (CD t r.1 r.2 st.vars),ew t st.aa⟩|x,ys=>pj d x xs ys K st
def um (d:Option Nat) (s t:Nat) (k v:AV) (xs:List AV) (K:St→Prop) (st:St):Prop:=match k with|.pv k=>aj xs∧ag (tX (st.aa t)) fun es=>cD k=s∧gX s es∧dc v=true∧K ⟨put d .al st.vars,aA t (.map (jj k v es)) st.aa⟩|_=>False
def M4 (d:Option Nat) (s t:Nat) (z:Value) (ok:Bool) (k:AV) (xs:List AV) (K:St→Prop) (st:St):Prop:=match k with|.pv k=>aj xs∧ag (tX (st.aa t)) fun es=>cD k=s∧gX s es∧K ⟨put d (if ok=true then .aC [(getM k es).getD (Cz z),.pv (.bool (getM k es).isSome)] else(getM k es).getD (Cz z)) st.vars,st.aa⟩|_=>False
def wT (d:Option Nat) (x:AV) (xs:List AV) (K:St→Prop) (st:St):Prop:=match x with|.own t=>aj xs∧ag (cn (st.aa t)) fun r=>r.2≠[]∧K ⟨put d (.pv (.ro r.2)) (CD t r.1 r.2 st.vars),ew t st.aa⟩|_=>False
def pT (d:Option Nat) (s:Nat) (ks:List PV) (z:Value) (ok:Bool) (k:AV) (xs:List AV) (K:St→Prop) (st:St):Prop:=match k with|.pv k=>aj xs∧s0 z=true∧cD k=s∧(∀x∈ks,cD x=s)∧K ⟨put d (if ok=true then .aC [.agg [],.pv (.bool (ks.any (lA k)))] else .agg []) st.vars,st.aa⟩|_=>False
def jR (d:Option Nat) (x:AV) (xs:List AV) (K:St→Prop) (st:St):Prop:=match x with|.pv .nil=>aj xs∧K ⟨put d (.pv (.int .i64 0)) st.vars,st.aa⟩|_=>False
def B6 (d:Option Nat) (ne:Bool) (rows:List (List PV)) (K:St→Prop) (st:St):Prop:=∀b:Bool,(rows≠[]→b=false)→K ⟨put d (.pv (.bool (if ne=true then !b else b))) st.vars,st.aa⟩
def xj (i:AI) (x:XK) (s:Nat) (w:Bool) (K:St→Prop) (st:St):Prop:=ag (bj (st.vars s) w) fun c=>if c=true then aM i.d x (i.xs.map (ev st.vars)) K st else K ((bh.put (.bL false .al)).on i.d st)
def V0 (t:Nat) (rows:List (List PV)):AV→AV|.own s=>if s=t then .pv (.ro rows) else .own s|v=>kill t v
def xQ (t:Nat) (rows:List (List PV)) (f:Nat→AV):Nat→AV:=fun s=>V0 t rows (f s)
def BN (aa:Nat→Option AO) (e:TypeId):List AV→Option (Nat×List (List PV)×List (List PV))|[.own t,x]=>(cn (aa t)).bind fun r=>(ct aa x).bind fun more=>if r.1=e then some (t,r.2,more) else none|_=>none
def tO (d:Option Nat) (e:TypeId) (sz bytes:Nat) (xs:List AV) (K:St→Prop) (st:St):Prop:=aj xs∧ag (BN st.aa e (xs.map strip)) fun r=>((r.2.1.length+r.2.2.length)*bytes≤140737488355328∧r.2.1.length+r.2.2.length≤maxLen∧(∀q∈r.2.2,q.length=sz))∧r.1%1000≠999∧K ⟨put d (.pv (.ro (r.2.1++r.2.2))) (xQ r.1 r.2.1 st.vars),ew r.1 st.aa⟩
def QO (i:AI):Option (TypeId×Nat×Nat):=match i.k,i.tg,i.g with|.app e sz b,some 999998,none=>some (e,sz,b)|_,_,_=>none
def Ed (x:XK) (i:AI) (st:St):St:=match x with|.ow _=>b8 st ((i.xs.map (ev st.vars)).map strip)|_=>st
def gR (P:Program) (Γ:bp) (i:AI) (K:St→Prop) (st:St):Prop:=match i.k,i.g with|.ex x,none=>aM i.d x (i.xs.map (ev (Ed x i st).vars)) K (Ed x i st)|.ex x,some (s,w)=>xj i x s w K st|.gF _ _,_=>bK P Γ i K (b8 st ((i.xs.map (ev st.vars)).map strip))|.ze e sz zs,none=>mr i.d e sz zs (i.xs.map (ev st.vars)) K st|.call f,some (s,w)=>yK P Γ i f s w K st|.fE,g=>ey P Γ i.d (i.xs.map (ev st.vars)) g K st|.call f,none=>fh P Γ i f (cN Γ f) K st|.cC _,_=>ck P Γ i K (oT (i.d.getD 0) st)|_,_=>bK P Γ i K st
def bC (P:Program) (Γ:bp) (i:AI) (K:St→Prop) (st:St):Prop:=match QO i with|some r=>if my ((i.xs.map (ev st.vars)).map strip)=true then tO i.d r.1 r.2.1 r.2.2 (i.xs.map (ev st.vars)) K st else gR P Γ i K st|none=>gR P Γ i K st
def ch (P:Program) (Γ:bp) (is:List AI) (K:St→Prop) (st:St):Prop:=match is with|[]=>K st|i::is=>bC P Γ i (fun st'=>ch P Γ is K st') st
def gK (aU:List Nat) (f:Nat→AV):Nat→AV:=fun s=>if aU.contains s then f s else .al
structure Fr where
 vs:List (Nat×AV)
 os:List (Nat×AO)
def Fr.st (f:Fr):St:=⟨look f.vs,ab f.os⟩
def hZ (os:List (Nat×AO)):AV→Prop|.own t|.ptr t _|.aI t _ _ _|.sub t _ _ _=>aw (ab os) t|.pv _|.rp _|.al=>True|_=>False
def fe (os:List (Nat×AO)):List AV→Prop|[]=>True|c::cs=>hZ os c∧fe os cs
def jX (os:List (Nat×AO)):AV→Prop|.agg cs|.bk _ cs|.aC cs=>fe os cs|.bL _ v=>hZ os v|v=>hZ os v
def sr (os:List (Nat×AO)):AO→Prop|.box cs=>fe os cs|.arr _ _=>True|.map _=>True|.fD _=>True|.lq _ _=>True|.rws _ cs=>fe os cs
def HM (ad:List Nat) (st:St) (os:List (Nat×AO)):List (Nat×AV)→Prop|[]=>True|(s,v)::l=>(v=.al∨(st.vars s=v∧jX os v)∨(∃t,v=.own t∧ad.contains t=true∧aw (ab os) t∧st.vars s=.pv .nil))∧HM ad st os l
def Gl (P:Program) (ad:List Nat) (st:St) (os:List (Nat×AO)):List (Nat×AO)→Prop|[]=>True|(t,o)::l=>((st.aa t=some o∧ad.contains t=false∧sr os o)∨(∃e,o=.arr e []∧ad.contains t=true∧st.aa t=none∧(P.info? e).isSome=true∧t%1000≠999))∧Gl P ad st os l
def wk (P:Program) (ad:List Nat) (st:St) (f:Fr):Prop:=HM ad st f.os f.vs∧Gl P ad st f.os f.os
def cd (st:St):List (Nat×Option (Option Nat))→(List AV→Prop)→Prop|[],C=>C []|(t,none)::l,C=>cd st l fun vs=>C (st.vars t::vs)|(a,some n)::l,C=>ag (ai (.load n) [st.vars a] st.aa) fun x=>x.1∧cd st l fun vs=>C (x.2::vs)
def bm:List AV→AV|[v]=>v|vs=>.aC vs
def qX (P:Program) (aa:Nat→Option AO) (v r:AV):Prop:=match r with|.fr e rows=>(∃t,v=.own t∧aa t=some (.arr e rows))∨(v=.pv .nil∧rows=[]∧(P.info? e).isSome=true)∨(∃t hi rs,v=.sub t e 0 hi∧aa t=some (.arr e rs)∧rows=rs.take hi)|r=>v=r∧gW r=true
def uL (P:Program) (aa:Nat→Option AO):List AV→List AV→Prop|[],[]=>True|c::cs,r::rs=>qX P aa c r∧uL P aa cs rs|_,_=>False
def yN (P:Program) (aa:Nat→Option AO) (v r:AV):Prop:=match v,r with|.agg cs,.agg rs=>uL P aa cs rs|.agg _,_=>False|v,r=>qX P aa v r
def ux (P:Program) (aa:Nat→Option AO):List AV→List AV→Prop|[],[]=>True|c::cs,r::rs=>yN P aa c r∧ux P aa cs rs|_,_=>False
def fz (P:Program) (aa:Nat→Option AO) (v r:AV):Prop:=match v,r with|.aC vs,.aC rs=>vs.length≤1000∧ux P aa vs rs|.aC _,_=>False|v,r=>yN P aa v r
def oh (j:Nat):List AV→List (Nat×Nat)|[]=>[]|.own t::cs=>(1000*j,t)::oh (j+1) cs|.sub t _ _ _::cs=>(1000*j,t)::oh (j+1) cs|_::cs=>oh (j+1) cs
def HD:AV→List (Nat×Nat)|.agg cs=>oh 0 cs|.own t=>[(0,t)]|.sub t _ _ _=>[(0,t)]|_=>[]
def yf (i:Nat):List AV→List (Nat×Nat)|[]=>[]|v::vs=>(HD v).map (fun x=>(x.1+i,x.2))++yf (i+1) vs
def pl:AV→List (Nat×Nat)|.aC vs=>yf 0 vs|v=>HD v
def iO:List (Nat×Nat)→Prop|[]=>True|x::l=>(∀y∈l,y.2≠x.2)∧iO l
def pd:AV→AV→List Nat|.own t,.pv (.ro _)=>[t]|.pv .nil,.pv (.ro _)=>[999996]|.own t,.pv (.mv _)=>[t+1000000000000000]|_,_=>[]
def rW:List AV→List AV→List Nat|c::cs,r::rs=>pd c r++rW cs rs|_,_=>[]
def xP:AV→AV→List Nat|.agg cs,.agg rs=>rW cs rs|v,r=>pd v r
def rQ:List AV→List AV→List Nat|c::cs,r::rs=>xP c r++rQ cs rs|_,_=>[]
def kE:AV→AV→List Nat|.aC vs,.aC rs=>rQ vs rs|v,r=>xP v r
def sN (P:Program) (rs:List (Nat×Option (Option Nat))) (r:AV) (st:St):Prop:=cd st rs fun vs=>fz P st.aa (bm vs) r∧iO (pl (bm vs))
def Ends (P:Program) (rs:List (Nat×Option (Option Nat))) (r:AV) (st:St):Prop:=cd st rs fun vs=>sN P rs r (bW (kE (bm vs) r) st)
def jO (aa:Nat→Option AO) (l:List (Nat×Nat)):List (Nat×AO)→Prop|[]=>True|x::hout=>aa x.1=some x.2∧(∀y∈l,y.2≠x.1)∧jO aa l hout
def lf (P:Program) (rs:List (Nat×Option (Option Nat))) (r:AV) (hout:List (Nat×AO)) (st:St):Prop:=cd st rs fun vs=>fz P st.aa (bm vs) r∧iO (pl (bm vs))∧jO st.aa (pl (bm vs)) hout
def kO (P:Program) (rs:List (Nat×Option (Option Nat))) (r:AV) (hout:List (Nat×AO)) (st:St):Prop:=cd st rs fun vs=>lf P rs r hout (bW (kE (bm vs) r) st)
def vO (K:St→Prop):Exit→St→Prop|.ret,st=>K st|_,_=>False
def lM (id:Nat) (K:St→Prop) (J:Exit→St→Prop):Exit→St→Prop|.exit id',st=>if id'=id then K st else J (.exit id') st|e,st=>J e st
def fF (P:Program) (Γ:bp):AC→(St→Prop)→(Exit→St→Prop)→St→Prop|.skip,K,_,st=>K st|.ah is d aU,K,_,st=>if d then steps P Γ is (fun st'=>K ⟨gK aU st'.vars,st'.aa⟩) st else ch P Γ is (fun st'=>K ⟨gK aU st'.vars,st'.aa⟩) st|.seq a b,K,J,st=>fF P Γ a (fun st'=>fF P Γ b K J st') J st|.cond x a b,K,J,st=>ag (gu (ev st.vars x)) fun c=>(c=true→fF P Γ a K J st)∧(c=false→fF P Γ b K J st)|.block id a,K,J,st=>fF P Γ a K (lM id K J) st|.loop a,_,J,st=>∃(ι:Type) (F:ι→Fr) (μ:ι→Nat) (ad shs:List Nat) (i0:ι),wk P ad (bW shs st) (F i0)∧∀i,fF P Γ a (fun st'=>∃i',wk P [] (bW shs st') (F i')∧μ i'<μ i) J (F i).st|.exit id,_,J,st=>J (.exit id) st|.ret,_,J,st=>J .ret st
def kz (P:Program) (t:TypeId):Option (Option Nat):=match P.underlying t with|some (.struct _)|some (.array _ _)=>(P.info? t).map fun i=>some i.size|some _=>some none|none=>none
def b9 (P:Program) (t:TypeId):Option Nat:=(P.info? t).map (·.size)
def db (P:Program) (t:TypeId):Option (List Value):=(P.info? t).bind fun i=>i.zero.bind fun z=>if z.cells.size=i.size then some z.cells.toList else none
def dP:Operand→Bool|.const (.slice none 0 0)=>true|_=>false
def mE (P:Program) (fs:Array Field):List (Nat×Operand)→Option (List (Nat×Nat))|[]=>some []|(i,_)::l=>match fs[i]?,mE P fs l with|some f,some r=>(b9 P f.type).map fun n=>(f.offset,n)::r|_,_=>none
def oF (P:Program) (f:TypeId→Option (List Nat)):Nat→List Field→Option (List Nat)|_,[]=>some []|off,fl::fs=>if fl.name≠ "_" ∧fl.offset=off then(f fl.type).bind fun a=>if b9 P fl.type=some a.length then(oF P f (off+a.length) fs).map (a++·) else none else none
def jv (P:Program):Nat→TypeId→Option (List Nat)|0,_=>none|n+1,t=>match P.underlying t with|some .bool=>some [0]|some .string=>some [1]|some (.int k)=>some [2+ky k]|some (.struct fs)=>if P.stoodInHeld t=false then oF P (jv P n) 0 fs.toList else none|_=>none
def cw (P:Program) (b:Builtin) (xs:List Operand) (ts:List TypeId):Option (AK×List Operand):=match b,xs,ts with
 |.len,[x],[t]=>match P.underlying t with|some .string=>some (.om,[x])|some (.slice _)=>some (.len,[x])|_=>none
 |.append,[s,x],[t,t']=>match P.underlying t,P.underlying t' with
  |some (.slice e),some .string=>match P.info? e with|some i=>if i.size=1∧(db P e).isSome=true then some (.app e i.size i.bytes,[s,x]) else none|none=>none
  |some (.slice e),some (.slice _)=>match P.info? e with|some i=>if 0<i.size∧(db P e).isSome=true then some (.app e i.size i.bytes,[s,x]) else none|none=>none
  |_,_=>none
 |.min,[x,y],[_,_]=>some (.zB false,[x,y])|.max,[x,y],[_,_]=>some (.zB true,[x,y])|.clear,[x],[t]=>match P.underlying t with
  |some (.slice e)=>match b9 P e,db P e with|some sz,some zs=>if 0<sz∧zs.all (·.oneCell')=true then some (.ze e sz zs,[x]) else none|_,_=>none
  |_=>none
 |_,_,_=>none
def eX (P:Program) (c:Call):Option (AK×List Operand):=match c.callee with|.builtin b=>cw P b c.args.toList c.argTypes.toList|.value (.func f)=>if fy P f then some (.call f,c.args.toList) else none|.value x=>some (.fE,x::c.args.toList)|.invoke _ _=>none
def iu (P:Program) (t:TypeId):Option Nat:=match P.underlying t with|some .bool=>some 0|some .string=>some 1|some (.int k)=>some (2+ky k)|_=>none
def zeroV (P:Program) (t:TypeId):Option Value:=(P.info? t).bind (·.zero)
def gC (P:Program) (t:TypeId):Option (TypeId×TypeId):=match P.underlying t with|some (.map k e)=>some (k,e)|_=>none
def tq (P:Program) (f:FuncId):Bool:=match P.funcs[f]? with|some fn=>fn.name== "math/bits.Add64" &&fn.body.isNone&&(Extern.findNext fn).isNone|none=>false
def wI (P:Program) (b:Builtin) (xs:List Operand) (ts:List TypeId):Option (XK×List Operand):=match b,xs,ts with
 |.cap,[x],[t]=>match P.underlying t with|some (.slice _)=>some (.xY,[x])|_=>none
 |.append,[s,x],[t,t']=>match P.underlying t,P.underlying t' with
  |some (.slice e),some (.int _)=>match P.info? e,db P e with|some i,some zs=>if 0<i.size∧zs.all (·.oneCell')=true then some (.xH e i.size i.bytes zs,[s,x]) else none|_,_=>none
  |_,_=>none
 |_,_,_=>none
def U6 (P:Program) (e:TypeId):Bool:=match(P.info? e).map (fun i:TypeInfo=>i.desc),P.underlying e with|some (TypeDesc.named _ _),some (TypeDesc.slice _)=>true|_,_=>false
def yD (P:Program) (o:Oper):Bool:=match o.op,o.dst with
 |.move (.tmp 8),some 193|.assign (.tmp 8),some 193=>match P.underlying o.type with
  |some (.slice e)=>match P.underlying e with|some (.slice _)=>true|_=>false
  |_=>false
 |.store t (.tmp 160) (.tmp 159),none=>match P.underlying t with|some (.slice _)=>true|_=>false
 |_,_=>false
def vq (P:Program) (o:Oper):Option (XK×List Operand):=match o.op with
 |.makeMap t none=>match gC P t with|some _=>some (.Ma,[])|none=>none
 |.mapUpdate t m k x|.insert t m k x=>match gC P t with
  |some (kt,_)=>match iu P kt with|some s=>some (.AA s,[m,k,x])|none=>none
  |none=>none
 |.lookup t m k ok=>match gC P t with
  |some (kt,et)=>match iu P kt,zeroV P et with|some s,some z=>some (.zR s z ok,[m,k])|_,_=>none
  |none=>none
 |.buildSlice t n ps=>match P.underlying t with
  |some (.slice e)=>match b9 P e,db P e with|some sz,some zs=>if sz=1∧ps.toList.map (·.1)=List.range n∧n*sz≤2^24∧zs.length=sz then some (.Ae e,ps.toList.map (·.2)) else none|_,_=>none
  |_=>none
 |.convert src dst x=>if src=dst then match P.underlying src with
  |some (.slice e)=>match P.underlying e with|some (.int .u8)=>some (.mark,[x])|_=>none
  |_=>none else none|.makeSlice t l c=>match P.underlying t with
  |some (.slice e)=>match P.info? e,db P e with|some i,some zs=>if 0<i.size∧zs.all (·.oneCell')=true then some (.Ki e i.bytes zs,[l,c]) else none|_,_=>none
  |_=>none
 |.binOp op t x y _=>match P.underlying t with|some (.slice _)=>if dP y then match op with|.eql=>some (.nn false,[x])|.neq=>some (.nn true,[x])|_=>none else none|_=>none
 |.call c=>match c.callee with|.value (.func f)=>if tq P f=true then some (.ta,c.args.toList) else none|.builtin b=>wI P b c.args.toList c.argTypes.toList|_=>none
 |.move x=>if yD P o=true then some (.zG,[x]) else none|.assign x=>if yD P o=true then some (.zG,[x]) else none|.store t x y=>if yD P o=true∧b9 P t=some 1 then some (.Mn,[x,y]) else none|_=>none
def DR (P:Program) (t:TypeId):Bool:=match P.underlying t with|some .bool|some .string|some (.int _)|some (.func _ _ _)|some (.slice _)=>true|_=>false
def zc (P:Program) (o:Oper):Option (XK×List Operand):=match o.op with
 |.makeMap t none=>match gC P t with|some (_,et)=>if DR P et=true then some (.IL,[]) else none|none=>none
 |.mapUpdate t m k x|.insert t m k x=>match gC P t with
  |some (kt,et)=>match iu P kt with|some s=>if DR P et=true then some (.ow s,[m,k,x]) else none|none=>none
  |none=>none
 |.lookup t m k ok=>match gC P t with
  |some (kt,et)=>match iu P kt,zeroV P et with|some s,some z=>if DR P et=true then some (.Af s z ok,[m,k]) else none|_,_=>none
  |none=>none
 |.binOp op t x y _=>match P.underlying t with
  |some (.pointer _)=>match y with
   |.const (.pointer none)=>match op with|.eql=>some (.At false,[x])|.neq=>some (.At true,[x])|_=>none
   |_=>none
  |_=>none
 |.call c=>match c.callee,c.args.toList,c.argTypes.toList with
  |.builtin .delete,[m,k],[t,kt']=>match gC P t with
   |some (kt,et)=>match iu P kt with|some s=>if DR P et=true∧kt'=kt then some (.TU s,[m,k]) else none|none=>none
   |none=>none
  |_,_,_=>none
 |.range t x=>match gC P t with|some _=>some (.MA,[x])|none=>none
 |.next x false=>some (.TR,[x])|.entry x=>some (.Ss,[x])|_=>none
def jM (P:Program) (o:Oper):XK×List Operand:=match zc P o with|some r=>r|none=>(vq P o).getD (.dead,[])
def eM (P:Program) (o:Oper):Option (AK×List Operand):=match o.op with
 |.move x|.assign x=>if dP x then match P.underlying o.type with|some (.slice e)=>if(P.info? e).isSome then some (.cC e,[]) else none|_=>none else some (.bf,[x])|.pick c a b=>some (.pick,[c,a,b])|.alloc e=>(db P e).map fun zs=>(.alloc zs,[])|.box _ x=>some (.box,[x])|.build t ps=>match db P t,P.underlying t with|some zs,some (.struct fs)=>if fs.all (fun f=>(P.info? f.type).isSome)=false then none else(mE P fs ps.toList).map fun l=>(.kg zs l,ps.toList.map (·.2))|_,_=>none
 |.buildSlice t n ps=>match P.underlying t with
  |some (.slice e)=>match b9 P e,db P e with|some sz,some zs=>if U6 P e=false∧ps.toList.map (·.1)=List.range n∧n*sz≤2^24∧zs.length=sz∧0<sz then some (.gF e sz,ps.toList.map (·.2)) else none|_,_=>none
  |_=>none
 |.load t a=>(kz P t).map fun n=>(.load n,[a])|.store t a v=>match kz P t with|some none=>if b9 P t=some 1 then some (.store none,[a,v]) else none|some (some n)=>some (.store (some n),[a,v])|none=>none
 |.binOp op t x y _=>match P.underlying t with
  |some .bool=>match op with|.eql=>some (.beq false,[x,y])|.neq=>some (.beq true,[x,y])|_=>none
  |some (.int _)|some .string=>some (.bin op,[x,y])|some (.struct _)=>match jv P 8 t with
   |some ks=>if ks.all (·<99)=true∧P.eqGuardType P.depth t=false then match op with|.eql=>some (.eqs false ks,[x,y])|.neq=>some (.eqs true ks,[x,y])|_=>none else none|none=>none
  |_=>none
 |.unOp .not _ x=>some (.not,[x])|.unOp .neg _ x=>some (.neg,[x])|.convert src dst x=>match P.underlying src,P.underlying dst with
  |some (.int _),some (.int k)=>some (.qU k,[x])|some .string,some .string=>some (.yE,[x])|some (.slice e),some .string=>match P.underlying e with|some (.int .u8)=>some (.qq,[x])|_=>none
  |some .string,some (.slice e)=>match P.underlying e with|some (.int .u8)=>some (.ve e,[x])|_=>none
  |_,_=>none
 |.fieldAddr s x i=>match P.underlying s with
  |some (.struct fs)=>match fs[i]? with
   |some f=>match b9 P f.type with|some (_+1)=>some (.aE f.offset,[x])|_=>none
   |none=>none
  |_=>none
 |.field s x i=>match P.underlying s with
  |some (.struct fs)=>match fs[i]? with|some f=>(kz P f.type).map fun n=>(.BO f.offset n,[x])|none=>none
  |_=>none
 |.indexAddr t x i=>match P.underlying t with|some (.slice e)=>(b9 P e).map fun sz=>(.bo e sz,[x,i])|some (.array n e)=>(b9 P e).map fun sz=>(.Cw n sz,[x,i])|_=>none
 |.index t x i=>match P.underlying t with|some .string=>some (.qb,[x,i])|_=>none
 |.slice t x lo hi none=>match P.underlying t with|some .string=>some (.CU lo.isSome hi.isSome,[x]++lo.toList++hi.toList)|some (.slice e)=>(b9 P e).map fun sz=>(.m4 sz lo.isSome hi.isSome,[x]++lo.toList++hi.toList)|_=>none
 |.extract x i=>some (.ext i,[x])|.nilCheck x=>some (.dg,[x])|.makeFunc (.func f) first caps=>match first.toList with|[]=>some (.yP f,caps.toList)|_=>none
 |.call c=>eX P c|_=>none
def ff (P:Program) (o:Oper):Option (AK×List Operand):=match if yD P o=true then none else eM P o with|some r=>some r|none=>some (.ex (jM P o).1,(jM P o).2)
theorem cS {P:Program}{o:Oper}{k:AK}{xs:List Operand} (h:ff P o=some (k,xs)):eM P o=some (k,xs)∨∃x,k=.ex x∧jM P o=(x,xs):=by
 unfold ff at h;split at h
 ·rename_i r hr;split at hr;·cases hr
  ·rw[hr];exact .inl h
 ·cases h;exact .inr ⟨_,rfl,rfl⟩
def makes:AK→Bool|.cC _|.box|.alloc _|.gF _ _|.app _ _ _|.call _|.fE|.qq|.ve _|.ex .Ma|.ex .IL|.ex .MA|.ex (.xH _ _ _ _)|.ex (.Ae _)|.ex (.Ki _ _ _)=>true|_=>false
def writes:AK→Bool|.store _|.app _ _ _=>true|_=>false
def ay:AK→Bool|.bf|.bin _|.beq _|.not|.neg|.qU _|.yE=>true|_=>false
def tmpsOf:List Operand→List Nat|[]=>[]|.tmp t::l=>t::tmpsOf l|_::l=>tmpsOf l
def cg (i:AI):List Nat:=tmpsOf i.xs++(match i.g with|some (s,_)=>[s]|none=>[])
def tE:Option Nat→Bool|some _=>true|none=>false
def bI (i:AI):List Nat:=if makes i.k then i.d.toList else if writes i.k then i.tg.toList else[]
def isApp:AK→Bool|.app _ _ _=>true|_=>false
def MB:AK→Bool|.alloc _=>true|_=>false
def tG:AK→Bool|.load _|.aE _=>true|_=>false
def xC (x y:AI):Bool:=isApp x.k&&x.g.isNone&&y.g.isNone&&y.tg.isNone&&(match x.d,y.d with|some d,some d'=>!(cg y).contains d&&!(cg x).contains d'&&d !=d'&&decide (d<1000)&&decide (d'<1000)&&((MB y.k&&y.xs.isEmpty)||(tG y.k&&y.un.contains d&&y.un.all fun t=>x.un.contains (t+1000)))|_,_=>false)
def xX (x y:AI):Bool:=(match x.d with|some d=>!(cg y).contains d&&y.d !=some d&&y.tg !=some d&&decide (d<1000)|none=>true)&&(match y.d with|some d=>!(cg x).contains d&&x.tg !=some d&&decide (d<1000)|none=>true)&&((ay y.k&&y.un.isEmpty)||(!isApp x.k&&(!writes x.k||tE x.tg)&&(bI x).all fun t=>decide (t<1000)&&y.un.contains t))&&((ay x.k&&x.un.isEmpty)||(!isApp y.k&&(!writes y.k||tE y.tg)&&(bI y).all fun t=>decide (t<1000)&&x.un.contains t))&&(ay x.k||ay y.k||!writes x.k||!writes y.k||x.tg !=y.tg)
def pZ (x y:AI):Bool:=xX x y||xC x y
def Cb (P:Program) (N:Nat) (ops:Array Oper) (o:Oper):Option AI:=match ff P o with|none=>none|some (k,xs)=>let okd:=match o.dst with|some d=>decide (d<N∧d<1000)|none=>!makes k&&(k matches .store _||k matches .ze _ _ _||k matches .ex _)
 if !okd then none else match o.guard with|none=>some ⟨o.dst,k,xs,none,[],none⟩|some (j,want)=>match(ops[j]?).bind (·.dst) with|some s=>some ⟨o.dst,k,xs,some (s,want),[],none⟩|none=>none
def pJ (P:Program) (N:Nat) (ops:Array Oper):List Oper→Option (List AI)|[]=>some []|o::l=>match Cb P N ops o,pJ P N ops l with|some i,some is=>some (i::is)|_,_=>none
def bits (ops:Array Oper) (i j:Nat):Bool:=((Region.before ops).getD j 0).testBit i
def jC (ops:Array Oper) (i j:Nat):Bool:=!bits ops i j||match ops[j]? with|some o=>o.after.any fun e=>Region.binds .any e&&(e.on==i||(decide (i<e.on)&&decide (e.on<j)&&bits ops i e.on))|none=>false
def iv (ops:Array Oper) (j:Nat):Bool:=match ops[j]? with|some o=>o.after.all fun e=>!Region.binds .any e||decide (e.on<j)|none=>true
def Ct (ops:Array Oper) (is:Array AI):Bool:=(List.range ops.size).all fun j=>iv ops j&&(List.range j).all fun i=>jC ops i j&&(bits ops i j||match is[i]?,is[j]? with|some x,some y=>pZ x y|_,_=>false)
def Vu (ops:Array Oper) (is:Array AI) (j:Nat):List Nat:=let b:=Region.before ops
 (List.range is.size).filterMap fun i=>if i=j||(b.getD j 0).testBit i||(b.getD i 0).testBit j then none else match is[i]?,is[j]? with|some x,some y=>if ay y.k then none else(bI x).head?|_,_=>none
def W8 (ops:Array Oper) (is:Array AI) (j:Nat):List Nat:=let b:=Region.before ops
 match is[j]? with|some y=>if isApp y.k then(List.range is.size).flatMap fun i=>if i=j||(b.getD j 0).testBit i||(b.getD i 0).testBit j then[] else match is[i]? with|some x=>if tG x.k then x.un.map (·+1000) else[]|none=>[] else[]|none=>[]
def gq (ops:Array Oper) (is:Array AI) (j:Nat):List AI→List AI|[]=>[]|i::l=>{i with un:=i.un++W8 ops is j}::gq ops is (j+1) l
def nX (ops:Array Oper) (is:Array AI) (j:Nat):List AI→List AI|[]=>[]|i::l=>{i with un:=Vu ops is j}::nX ops is (j+1) l
def VS (is:List AI) (i:AI):Option Nat:=match i.k,i.xs with|.store _,.tmp s::_=>if is.any fun x=>x.d==some s&&(match x.k with|.alloc _|.box=>true|_=>false) then some s else none|_,_=>none
def sG (is:List AI):List AI→List AI|[]=>[]|i::l=>{i with tg:=VS is i}::sG is l
def Mr (i:AI):Option Nat:=match i.k,i.xs with|.store _,.tmp s::_=>some s|_,_=>none
def mS:List AI→List AI|[]=>[]|i::l=>{i with tg:=Mr i}::mS l
def Od (x:AI):Operand→Bool|.const _=>true|.tmp s=>x.d !=some s|_=>false
def FE (y x:AI):Bool:=match y.k,y.xs,y.d,y.g,y.tg,y.un with|.bf,[o],some dd,none,none,[]=>Od x o&&!(cg x).contains dd&&x.d !=some dd|_,_,_,_,_,_=>false
def Ti (y x:AI):Bool:=match y.k,y.xs,y.d,y.g,y.tg,x.k with|.load _,[.tmp s],some dd,none,none,.call _=>x.d !=some s&&!(cg x).contains dd&&x.d !=some dd&&dd !=s|_,_,_,_,_,_=>false
def wC (y:AI):List Nat:=match y.k,y.xs with|.load _,[.tmp s]=>[s]|_,_=>[]
def Cl:AK→Bool|.call _|.fE=>true|_=>false
def ib (ops:Array Oper) (is:Array AI) (j:Nat):List Nat:=(List.range j).flatMap fun q=>if bits ops q j then[] else match is[q]? with|some y=>wC y|none=>[]
def vw (ops:Array Oper) (is:Array AI) (j:Nat) (x:AI):Bool:=Cl x.k&&x.g.isNone&&x.tg.isNone&&x.un.isEmpty&&(List.range is.size).all fun q=>q==j||(if q<j then bits ops q j else bits ops j q)||(match is[q]? with|some y=>(FE y x||(decide (q<j)&&Ti y x))&&(match y.d with|some dd=>!(ib ops is j).contains dd|none=>true)|none=>false)
def vo (ops:Array Oper) (is:Array AI) (j:Nat):List AI→List AI|[]=>[]|i::l=>(if vw ops is j i then{i with tg:=some 999999,un:=ib ops is j} else i)::vo ops is (j+1) l
def uP (b:Nat):List AI→Bool|[]=>false|i::l=>(match i.k,i.xs with|.bf,[.tmp s]=>s==b|_,_=>false)||(if i.d==some b then false else uP b l)
def EW (s:Nat):List AI→Option Nat|[]=>none|i::l=>if i.d==some s then(match i.k,i.xs with|.bf,[.tmp b]=>some b|_,_=>none) else EW s l
def Vp (i:AI) (pre l:List AI):Bool:=match i.k,i.xs,i.g with
 |.app _ _ _,.tmp s::_,none=>match EW s pre with|some b=>uP b l|none=>false
 |_,_,_=>false
def rJ (pre:List AI):List AI→List AI|[]=>[]|i::l=>(if Vp i pre l then{i with tg:=some 999998} else i)::rJ (i::pre) l
def drawn (ops:Array Oper) (js:List AI):Option AC:=let hs:=nX ops js.toArray 0 js
 let ks:=gq ops hs.toArray 0 hs
 if Ct ops ks.toArray&&ks.all (fun i=>i.tg !=some 999999) then some (.ah (vo ops ks.toArray 0 ks) true []) else none
def kp (ops:Array Oper) (js:List AI):List Nat:=let b:=Region.before ops
 let f:=fun j=>(List.range ops.size).any fun i=>(match js[i]? with|some x=>isApp x.k|none=>false)&&(i==j||(b.getD i 0).testBit j)
 (List.range ops.size).filter f++(List.range ops.size).filter fun j=>!f j
def D5 (ops:Array Oper) (ks:Array AI):List Nat→List Nat→Bool|_,[]=>true|pre,j::l=>(match ops[j]? with|some o=>o.after.all fun e=>!Region.binds .any e||pre.contains e.on|none=>false)&&(!pre.contains j)&&(l.all fun b=>(decide (j<b)&&bits ops j b)||match ks[j]?,ks[b]? with|some x,some y=>pZ x y|_,_=>false)&&D5 ops ks (j::pre) l
def ti (ops:Array Oper) (js:List AI) (l:List Nat):Option AC:=let hs:=nX ops js.toArray 0 js
 let ks:=gq ops hs.toArray 0 hs
 if l.length=ops.size∧D5 ops ks.toArray [] l=true∧((List.range ops.size).all fun j=>iv ops j&&(List.range j).all fun i=>jC ops i j)=true∧(l.all fun j=>decide (j<ops.size))=true∧((List.range ops.size).all fun j=>l.contains j)=true∧ks.all (fun i=>i.tg !=some 999999)=true then some (.ah (l.filterMap fun j=>ks[j]?) true []) else none
def comp (P:Program) (N:Nat):Code→Option AC
 |.skip=>some .skip|.region _ ops draw=>match pJ P N ops ops.toList with|some is=>if draw then((drawn ops (sG is is)).or (drawn ops (mS is))).or ((ti ops (sG is is) (kp ops is)).or (ti ops (mS is) (kp ops is))) else some (.ah (rJ [] is) false [])|none=>none
 |.seq a b=>match comp P N a,comp P N b with|some x,some y=>some (.seq x y)|_,_=>none
 |.cond c a b=>match comp P N a,comp P N b with|some x,some y=>some (.cond c x y)|_,_=>none
 |.block id a=>(comp P N a).map (.block id)|.loop a=>(comp P N a).map .loop|.exit id=>some (.exit id)|.ret=>some .ret|.scope a=>comp P N a|.label _=>some .skip|_=>none
def yj (w:List Nat):List AI→List Nat|[]=>[]|i::l=>(cg i).filter (fun s=>!w.contains s)++yj (i.d.toList++w) l
def uy:AC→List Nat|.ah is _ _=>yj [] is|.seq a b=>uy a++uy b|.cond x a b=>tmpsOf [x]++uy a++uy b|.block _ a|.loop a=>uy a|_=>[]
def eO (aU:List Nat):AC→AC|.ah is d _=>.ah is d aU|.seq a b=>.seq (eO aU a) (eO aU b)|.cond x a b=>.cond x (eO aU a) (eO aU b)|.block id a=>.block id (eO aU a)|.loop a=>.loop (eO aU a)|c=>c
def gL (P:Program):List ResultVar→Option (List (Nat×Option (Option Nat)))|[]=>some []|.tmp t::l=>(gL P l).map ((t,none)::·)|.cell a t::l=>(kz P t).bind fun n=>(gL P l).map ((a,some n)::·)
structure OJ where
 n:Nat
 params:Nat
 res:List (Nat×Option (Option Nat))
 body:AC
def ax (P:Program) (f:FuncId) (aU:List Nat):Option OJ:=match P.funcs[f]? with
 |some fn=>match fn.body,gL P fn.results.toList with|some c,some rs=>(comp P fn.ntmps c).bind fun b=>if fn.ntmps≤998 then some ⟨fn.ntmps,fn.params.size+fn.nfree,rs,eO aU b⟩ else none|_,_=>none
 |none=>none
end Go.Proofs.Ytlmkcmfmfahcfaa.Ab
