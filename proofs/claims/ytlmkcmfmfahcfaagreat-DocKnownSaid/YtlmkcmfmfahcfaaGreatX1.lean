/- An abstract machine for the code of one function: slices, strings and structs as plain data; what each operation makes of them. Definitions alone. -/
import Derived.WalkKit
import Derived.WalkSpells
import Derived.WalkLawsBesides
import Derived.MapKept
import Derived.Maps.RangeRun
set_option linter.unusedVariables false
set_option linter.unusedSimpArgs false
set_option linter.unnecessarySimpa false
set_option maxHeartbeats 40000000
set_option maxRecDepth 100000
namespace Go.Proofs.YtlmkcmfmfahcfaaGreat.Ab
open Go Go.RowKit
inductive PV where|int (k:IntKind) (n:Int)|bool (b:Bool)|str (l:List UInt8)|nil|ro (rows:List (List PV))|mp (ks:List PV)|mv (es:List (PV×PV))|pt (cs:List PV)|val (v:Value)
inductive AV where|pv (p:PV)|own (t:Nat)|ptr (t off:Nat)|aX (t:Nat) (e:TypeId) (i:Int) (off:Nat)|sub (t:Nat) (e:TypeId) (lo hi:Nat)|rp (cs:List PV)|agg (cs:List AV)|aQ (vs:List AV)|bJ (f:FuncId) (caps:List AV)|fr (e:TypeId) (rows:List (List PV))|bx (cs:List AV)|mf (es:List (PV×PV))|ch (g:Bool) (v:AV)|ay
inductive AO where|box (cs:List AV)|arr (e:TypeId) (rows:List (List PV))|map (es:List (PV×AV))|rws (e:TypeId) (cs:List AV)|gY (es:List (PV×PV))|nk (rem:List (PV×PV)) (cur:Option (PV×PV))
structure St where
 vars:Nat→AV
 aa:Nat→Option AO
def rD:Value→PV|.int k n=>.int k n|.bool b=>.bool b|.string s=>.str s.data.toList|.slice none 0 0=>.nil|v=>.val v
def cv (v:Value):AV:=if v.oneCell'=true then .pv (rD v) else .ay
def ev (vars:Nat→AV):Operand→AV|.tmp t=>vars t|.const v=>cv v|.func f=>.bJ f []|.global _=>.ay
def put (d:Option Nat) (v:AV) (f:Nat→AV):Nat→AV:=match d with|some d=>fun s=>if s=d then v else f s|none=>f
def aL (t:Nat) (o:AO) (f:Nat→Option AO):Nat→Option AO:=fun s=>if s=t then some o else f s
def look (l:List (Nat×AV)) (s:Nat):AV:=match l with|[]=>.ay|(t,v)::l=>if s=t then v else look l s
def ab (l:List (Nat×AO)) (s:Nat):Option AO:=match l with|[]=>none|(t,v)::l=>if s=t then some v else ab l s
def asks:AV→Prop|.ch g v=>g=true∧asks v|_=>True
def strip:AV→AV|.ch _ v=>strip v|v=>v
def au:List AV→Prop|[]=>True|v::l=>asks v∧au l
inductive XK where|Yg|FY (s:Nat)|Gs (s:Nat) (z:Value) (ok:Bool)|dead|wN (ne:Bool)|yq|GJ|Ej (e:TypeId) (sz bytes:Nat) (zs:List Value)|DH (e:TypeId)|Rt (e:TypeId) (bytes:Nat) (zs:List Value)|mark|Tr|DJ|YO|RH (s:Nat)|EN (s:Nat) (z:Value) (ok:Bool)|mL (e:TypeId) (sz:Nat)|dlv (s:Nat)|Er (ne:Bool)|Xu|nxt|Zr
inductive AK where|nK|pick|bin (op:BinOp)|beq (ne:Bool)|not|neg|Bm (k:IntKind)|Cw|len|uS|uV|HH (lo hi:Bool)|F9 (off:Nat) (n:Option Nat)|rJ (off:Nat)|load (n:Option Nat)|Df (e:TypeId) (sz:Nat)|G9 (n sz:Nat)|DN|AX (sz:Nat) (lo hi:Bool)|ext (i:Nat)|G5 (zs:List Value) (parts:List (Nat×Nat))|Hl (f:FuncId)|gF (e:TypeId)|box|alloc (zs:List Value)|rB (e:TypeId) (sz:Nat)|call (f:FuncId)|kW|DP (mx:Bool)|eqs (ne:Bool) (ks:List Nat)|store (n:Option Nat)|app (e:TypeId) (sz bytes:Nat)|rC|og (e:TypeId)|Gg (e:TypeId) (sz:Nat) (zs:List Value)|ex (x:XK)
structure AI where
 d:Option Nat
 k:AK
 xs:List Operand
 g:Option (Nat×Bool)
 un:List Nat
 tg:Option Nat
inductive AC where|skip|G6 (is:List AI) (drawn:Bool) (bB:List Nat)|seq (a b:AC)|cond (x:Operand) (a b:AC)|block (id:Nat) (a:AC)|loop (a:AC)|exit (id:Nat)|ret
def lA (op:BinOp) (k:IntKind) (a b:Int):PV:=.int k (k.wrap (match op with|.and=>(BitVec.ofInt k.bits a&&&BitVec.ofInt k.bits b).toNat|.or=>(BitVec.ofInt k.bits a|||BitVec.ofInt k.bits b).toNat|.xor=>(BitVec.ofInt k.bits a^^^BitVec.ofInt k.bits b).toNat|_=>(BitVec.ofInt k.bits a&&&~~~BitVec.ofInt k.bits b).toNat:Nat))
def dB (op:BinOp) (x y:PV):Option (Prop×PV):=match x,y with
 |.int k a,.int k' b=>match op with|.shl=>some (0≤b,.int k (k.wrap (a*2^(min b.toNat k.bits))))|.shr=>some (0≤b,.int k (a.fdiv (2^(min b.toNat k.bits))))|op=>if k=k' then match op with|.add=>some (True,.int k (k.wrap (a+b)))|.sub=>some (True,.int k (k.wrap (a-b)))|.mul=>some (True,.int k (k.wrap (a*b)))|.quo=>some (b≠0,.int k (k.wrap (a.tdiv b)))|.rem=>some (b≠0,.int k (a.tmod b))|.eql=>some (True,.bool (decide (a=b)))|.neq=>some (True,.bool (!decide (a=b)))|.lss=>some (True,.bool (decide (a<b)))|.leq=>some (True,.bool (decide (a≤b)))|.gtr=>some (True,.bool (decide (b<a)))|.geq=>some (True,.bool (decide (b≤a)))|op=>some (True,lA op k a b) else none
 |.str a,.str b=>match op with|.add=>some (a.length+b.length≤9223372036854775807,.str (a++b))|.eql=>some (True,.bool (decide (a=b)))|.neq=>some (True,.bool (!decide (a=b)))|.lss=>some (True,.bool (Op.bytesLess a b))|.leq=>some (True,.bool (Op.bytesLess a b||decide (a=b)))|.gtr=>some (True,.bool (!(Op.bytesLess a b||decide (a=b))))|.geq=>some (True,.bool (!Op.bytesLess a b))|_=>none
 |_,_=>none
def mK:IntKind→Nat|.i8=>0|.i16=>1|.i32=>2|.i64=>3|.u8=>4|.u16=>5|.u32=>6|.u64=>7
def dk:PV→Nat|.bool _=>0|.str _=>1|.int k _=>2+mK k|_=>99
def mU:PV→PV→Bool|.int _ a,.int _ b=>decide (a=b)|.str a,.str b=>decide (a=b)|.bool a,.bool b=>decide (a=b)|_,_=>false
def jf:List PV→List PV→Bool|[],[]=>true|a::l,b::m=>mU a b&&jf l m|_,_=>false
def rowAt (rows:List (List PV)) (i:Int):List PV:=rows.getD i.toNat []
def bytesRow (l:List UInt8):List (List PV):=l.map fun c=>[.int .u8 (c.toNat:Int)]
def Et:AV→Option PV|.pv p=>some p|_=>none
def eM:List AV→Option (List PV)|[]=>some []|v::l=>(Et v).bind fun p=>(eM l).map (p::·)
def rowOf:AV→Option (List PV)|.agg cs=>eM cs|.pv p=>some [p]|_=>none
def rowsOf:List AV→Option (List (List PV))|[]=>some []|v::l=>(rowOf v).bind fun p=>(rowsOf l).map (p::·)
def cellsOf:AV→List AV|.agg cs=>cs|v=>[v]
def ei:AV→Bool|.pv (.val v)=>v.oneCell'|.pv _|.own _|.ptr _ _|.aX _ _ _ _|.sub _ _ _ _|.rp _|.bJ _ _=>true|_=>false
def fG:List AV→Bool|[]=>true|c::cs=>ei c&&fG cs
def lH:AV→Bool|.agg _=>true|v=>ei v
def pG:AV→AV|.bJ f []=>.pv (.val (.func (.func f) #[] #[]))|v=>v
def lay (cs:List AV) (off:Nat) (ps:List AV):List AV:=cs.take off++ps++cs.drop (off+ps.length)
def kr (cs:List AV):List (Nat×Nat)→List AV→Option (List AV)|[],[]=>some cs|(off,n)::ps,x::xs=>if lH x=true∧(cellsOf x).length=n∧off+n≤cs.length then kr (lay cs off ((cellsOf x).map pG)) ps xs else none|_,_=>none
def bounds (n:Nat) (lo hi:Bool) (xs:List AV):Option (Int×Int):=match lo,hi,xs with|false,false,[]=>some (0,n)|true,false,[.pv (.int _ l)]=>some (l,n)|false,true,[.pv (.int _ h)]=>some (0,h)|true,true,[.pv (.int _ l),.pv (.int _ h)]=>some (l,h)|_,_,_=>none
def cut {α:Type} (l:List α) (lo hi:Int):List α:=(l.take hi.toNat).drop lo.toNat
def cO:Option AO→Option (TypeId×List (List PV))|some (.arr e rows)=>some (e,rows)|_=>none
def T9:Option AO→Option (TypeId×List AV)|some (.rws e cs)=>some (e,cs)|_=>none
def B3:Option AO→Option (TypeId×Nat)|some (.arr e rows)=>some (e,rows.length)|some (.rws e cs)=>some (e,cs.length)|_=>none
def eQ:Option AO→Option (List AV)|some (.box cs)=>some cs|_=>none
def cQ (aa:Nat→Option AO):AV→Option (List (List PV))|.pv .nil=>some []|.pv (.ro rows)=>some rows|.pv (.str l)=>some (bytesRow l)|.own t=>(cO (aa t)).map (·.2)|.sub t e lo hi=>(cO (aa t)).bind fun r=>if r.1=e then some ((r.2.take hi).drop lo) else none|_=>none
def fk (aa:Nat→Option AO):AV→Option (List (List PV))|.pv .nil=>some []|.pv (.ro rows)=>some rows|.own t=>(cO (aa t)).map (·.2)|.sub t e lo hi=>(cO (aa t)).bind fun r=>if r.1=e then some ((r.2.take hi).drop lo) else none|_=>none
def byteOf:List PV→Option UInt8|[.int .u8 n]=>if 0≤n∧n<256 then some (UInt8.ofNat n.toNat) else none|_=>none
def bytesOf:List (List PV)→Option (List UInt8)|[]=>some []|r::l=>(byteOf r).bind fun c=>(bytesOf l).map (c::·)
def mi:AV→Bool|.agg _|.aQ _|.ch _ _|.ay=>false|_=>true
def lI (e:TypeId) (i:Int) (o:Nat):Option AO→Option (Prop×AV)|some (.arr e' rows)=>if e'=e then some (0≤i∧i<rows.length∧o<(rowAt rows i).length,.pv ((rowAt rows i).getD o (.int .u8 0))) else none|some (.rws e' cs)=>if e'=e∧o=0 then(cs[i.toNat]?).bind fun c=>if mi c=true then some (0≤i,c) else none else none|_=>none
def lf (k:PV):List (PV×PV)→Option PV|[]=>none|e::l=>if mU k e.1=true then some e.2 else lf k l
def fC (s:Nat) (es:List (PV×PV)):Prop:=∀e∈es,dk e.1=s
def xX (z:Value) (ok:Bool) (o:Option PV):AV:=if ok=true then .aQ [.pv (o.getD (rD z)),.pv (.bool o.isSome)] else .pv (o.getD (rD z))
def ak (k:AK) (xs:List AV) (aa:Nat→Option AO):Option (Prop×AV):=match k,xs with|.bin op,[.pv x,.pv y]=>(dB op x y).map fun r=>(r.1,.pv r.2)|.beq ne,[.pv (.bool x),.pv (.bool y)]=>some (True,.pv (.bool (if ne then x !=y else x==y)))|.not,[.pv (.bool b)]=>some (True,.pv (.bool (!b)))|.neg,[.pv (.int k n)]=>some (True,.pv (.int k (k.wrap (0-n))))|.Bm k,[.pv (.int _ n)]=>some (True,.pv (.int k (k.wrap n)))|.Cw,[.pv (.str l)]=>some (True,.pv (.str l))|.uS,[.pv (.str l)]=>some (True,.pv (.int .i64 l.length))|.len,[.pv .nil]=>some (True,.pv (.int .i64 0))|.len,[.pv (.ro rows)]=>some (True,.pv (.int .i64 rows.length))|.len,[.own t]=>(B3 (aa t)).map fun r=>(True,.pv (.int .i64 r.2))|.len,[.sub t _ lo hi]=>(cO (aa t)).map fun _=>(True,.pv (.int .i64 ((hi:Int)-(lo:Int))))|.uV,[.pv (.str l),.pv (.int _ i)]=>some (0≤i∧i<l.length,.pv (.int .u8 ((l.getD i.toNat 0).toNat:Int)))|.HH lo hi,.pv (.str l)::bs=>(bounds l.length lo hi bs).map fun b:Int×Int=>(0≤b.1∧b.1≤b.2∧b.2≤(l.length:Int),.pv (.str (cut l b.1 b.2)))|.F9 off none,[.agg cs]=>(cs[off]?).map fun c=>(True,c)|.F9 off (some n),[.agg cs]=>if off+n≤cs.length then some (True,.agg ((cs.drop off).take n)) else none|.rJ off,[.ptr t o]=>some (True,.ptr t (o+off))|.rJ off,[.aX t e i o]=>some (True,.aX t e i (o+off))|.rJ off,[.rp cs]=>some (True,.rp (cs.drop off))|.G9 n sz,[.ptr t o,.pv (.int _ i)]=>some (0≤i∧i<(n:Int),.ptr t (o+i.toNat*sz))|.G9 n sz,[.rp cs,.pv (.int _ i)]=>some (0≤i∧i<(n:Int),.rp (cs.drop (i.toNat*sz)))|.DN,[.ptr t o]=>some (True,.ptr t o)|.DN,[.aX t e i o]=>some (True,.aX t e i o)|.DN,[.rp cs]=>some (True,.rp cs)|.load none,[.ptr t o]=>(eQ (aa t)).bind fun cs=>(cs[o]?).bind fun c=>if mi c=true then some (True,c) else none|.load (some n),[.ptr t o]=>(eQ (aa t)).bind fun cs=>if o+n≤cs.length then some (True,.agg ((cs.drop o).take n)) else none|.load none,[.aX t e i o]=>lI e i o (aa t)|.load (some n),[.aX t e i o]=>(cO (aa t)).bind fun r=>if r.1=e∧o+n≤(rowAt r.2 i).length then some (0≤i∧i<r.2.length,.agg ((((rowAt r.2 i).drop o).take n).map .pv)) else none|.load none,[.rp (c::_)]=>some (True,.pv c)|.load none,[.rp []]=>some (False,.pv (.int .u64 0))|.load (some n),[.rp cs]=>if n≤cs.length then some (True,.agg ((cs.take n).map .pv)) else none|.Df _ sz,[.pv (.ro rows),.pv (.int _ i)]=>some (0≤i∧i<rows.length∧(rowAt rows i).length=sz,.rp (rowAt rows i))|.Df e _,[.own t,.pv (.int _ i)]=>(B3 (aa t)).bind fun r=>if r.1=e then some (0≤i∧i<r.2,.aX t e i 0) else none|.Df e _,[.sub t e1 lo hi,.pv (.int _ i)]=>(cO (aa t)).bind fun r=>if r.1=e∧e1=e then some (0≤i∧i<(hi:Int)-(lo:Int),.aX t e ((lo:Int)+i) 0) else none|.AX sz lo hi,.own t::bs=>(cO (aa t)).bind fun r=>(bounds r.2.length lo hi bs).map fun b:Int×Int=>(0≤b.1∧b.1≤b.2∧b.2≤(r.2.length:Int)∧(∀x∈r.2,x.length=sz),.sub t r.1 b.1.toNat b.2.toNat)|.AX sz lo hi,.sub t e l h::bs=>(cO (aa t)).bind fun r=>if r.1=e then(bounds (h-l) lo hi bs).map fun b:Int×Int=>(0≤b.1∧b.1≤b.2∧b.2≤((h-l:Nat):Int)∧(∀x∈r.2,x.length=sz),.sub t e (l+b.1.toNat) (l+b.2.toNat)) else none|.AX sz lo hi,.pv (.ro rows)::bs=>(bounds rows.length lo hi bs).map fun b:Int×Int=>(0≤b.1∧b.1≤b.2∧b.2≤(rows.length:Int)∧(∀r∈rows,r.length=sz),.pv (.ro (cut rows b.1 b.2)))|.AX _ lo hi,.pv .nil::bs=>(bounds 0 lo hi bs).map fun b:Int×Int=>(b.1=0∧b.2=0,.pv .nil)|.ext i,[.aQ vs]=>(vs[i]?).map fun v=>(True,v)|.G5 zs ps,xs=>(kr (zs.map cv) ps xs).map fun cs=>(True,.agg cs)|.Hl f,xs=>some (True,.bJ f xs)|.DP mx,[.pv (.int k a),.pv (.int k' b)]=>if k=k' then some (True,.pv (.int k (if mx then max a b else min a b))) else none|.eqs ne ks,[.agg xs,.agg ys]=>(eM xs).bind fun a=>(eM ys).map fun b=>(a.map dk=ks∧b.map dk=ks,.pv (.bool (if ne then !jf a b else jf a b)))|.ex (.EN s z ok),[.pv (.mv es),.pv k]=>some (z.oneCell'=true∧dk k=s∧fC s es,xX z ok (lf k es))|.ex (.mL _ sz),xs=>(rowsOf xs).map fun rows=>(∀r∈rows,r.length=sz,.pv (.ro rows))|.rC,[x]=>(fk aa x).bind fun rows=>(bytesOf rows).map fun l=>(True,.pv (.str l))|.og _,[.pv (.str l)]=>some (True,.pv (.ro (bytesRow l)))|_,_=>none
def cn:Value→Option Nat|.slice (some a) _ _=>some a.block|.pointer (some a)=>some a.block|.map (some b)=>some b|_=>none
def bZ:PV→Value|.int k n=>.int k n|.str l=>.string ⟨l.toArray⟩|.bool b=>.bool b|_=>undef
inductive dw (S:Nat→Prop) (w:World):Value→PV→Prop|int (k:IntKind) (n:Int):dw S w (.int k n) (.int k n)|bool (b:Bool):dw S w (.bool b) (.bool b)|str (l:List UInt8):dw S w (.string ⟨l.toArray⟩) (.str l)|nil:dw S w (.slice none 0 0) .nil|val (v:Value):v.oneCell'=true→dw S w v (.val v)|mp (b:Nat) (us:Array MapEntry) (c:Nat) (ks:List PV):S b→w.heap[b]?=some (.map us c)→us.toList.length=ks.length→(∀(i:Nat) (k:PV) (u:MapEntry),ks[i]?=some k→us.toList[i]?=some u→u.key=bZ k∧u.val=.agg #[])→dw S w (.map (some b)) (.mp ks)|mv (b:Nat) (us:Array MapEntry) (c:Nat) (es:List (PV×PV)):S b→w.heap[b]?=some (.map us c)→MapKept.Stamped us c→us.toList.length=es.length→(∀(i:Nat) (e:PV×PV) (u:MapEntry),es[i]?=some e→us.toList[i]?=some u→u.key=bZ e.1∧dk e.1<99∧u.val.oneCell'=true)→(∀(i:Nat) (e:PV×PV) (u:MapEntry),es[i]?=some e→us.toList[i]?=some u→dw S w u.val e.2)→dw S w (.map (some b)) (.mv es)|pt (ad:Addr) (cs:List PV) (us:Nat→Value):S ad.block→(∀j,j<cs.length→w.cell? (ad.add j)=some (us j))→(∀(j:Nat) (p:PV),cs[j]?=some p→(us j).oneCell'=true)→(∀(j:Nat) (p:PV),cs[j]?=some p→dw S w (us j) p)→dw S w (.pointer (some ad)) (.pt cs)|yp (A:Option Addr) (c:Nat):dw S w (.slice A 0 c) (.ro [])|ro (ad:Addr) (c:Nat) (rows:List (List PV)) (sz:Nat) (us:Nat→Nat→Value):S ad.block→rows.length≤c→(∀r,r∈rows→r.length=sz)→(∀i j,i<rows.length→j<sz→w.cell? (ad.add (i*sz+j))=some (us i j))→(∀(i j:Nat) (r:List PV) (p:PV),rows[i]?=some r→r[j]?=some p→(us i j).oneCell'=true)→(∀(i j:Nat) (r:List PV) (p:PV),rows[i]?=some r→r[j]?=some p→dw S w (us i j) p)→dw S w (.slice (some ad) rows.length c) (.ro rows)
inductive RV (P:Program) (S:Nat→Prop) (w:World) (β:Nat→Value) (D:Nat→Prop):Value→AV→Prop|pv (v:Value) (p:PV):dw S w v p→RV P S w β D v (.pv p)|own (t:Nat):D t→RV P S w β D (β t) (.own t)|ptr (t o b:Nat):D t→β t=.pointer (some ⟨b,0,none⟩)→RV P S w β D (.pointer (some ⟨b,o,none⟩)) (.ptr t o)|aX (t:Nat) (e:TypeId) (i:Int) (o b n c:Nat) (inf:TypeInfo):D t→P.info? e=some inf→β t=.slice (some ⟨b,0,none⟩) n c→RV P S w β D (.pointer (some ⟨b,i.toNat*inf.size+o,none⟩)) (.aX t e i o)|sub (v:Value) (t:Nat) (e:TypeId) (lo hi:Nat) (inf:TypeInfo) (A A1:Option Addr) (n c:Nat):D t→P.info? e=some inf→β t=.slice A n c→lo≤hi→hi≤n→n≤c→(lo=0→A1=A)→(c≠lo→A1=A.map (·.add (lo*inf.size)))→v=.slice A1 (hi-lo) (c-lo)→RV P S w β D v (.sub t e lo hi)|rp (ad:Addr) (cs:List PV) (us:Nat→Value):S ad.block→(∀j,j<cs.length→w.cell? (ad.add j)=some (us j))→(∀(j:Nat) (p:PV),cs[j]?=some p→(us j).oneCell'=true)→(∀(j:Nat) (p:PV),cs[j]?=some p→dw S w (us j) p)→RV P S w β D (.pointer (some ad)) (.rp cs)|agg (cs:List AV) (us:List Value):us.length=cs.length→(∀(i:Nat) (c:AV) (u:Value),cs[i]?=some c→us[i]?=some u→RV P S w β D u c)→RV P S w β D (.agg us.toArray) (.agg cs)|aQ (vs:List AV) (us:List Value):us.length=vs.length→(∀(i:Nat) (c:AV) (u:Value),vs[i]?=some c→us[i]?=some u→RV P S w β D u c)→RV P S w β D (.tuple us.toArray) (.aQ vs)|bJ (f:FuncId) (cs:List AV) (us:List Value):us.length=cs.length→(∀(i:Nat) (c:AV) (u:Value),cs[i]?=some c→us[i]?=some u→RV P S w β D u c)→RV P S w β D (.func (.func f) #[] us.toArray) (.bJ f cs)|ch (g:Bool) (v:Value) (av:AV):(g=true→RV P S w β D v av)→(g=false→v=undef)→RV P S w β D v (.ch g av)|ay (v:Value):RV P S w β D v .ay
def jz (s:Nat) (es:List (PV×AV)):Prop:=∀e∈es,dk e.1=s
def getM (k:PV):List (PV×AV)→Option AV|[]=>none|e::l=>if mU k e.1=true then some e.2 else getM k l
def kT (k:PV) (v:AV):List (PV×AV)→List (PV×AV)|[]=>[(k,v)]|e::l=>if mU k e.1=true then(k,v)::l else e::kT k v l
def Hh:Value→AV|.agg cs=>.agg (cs.toList.map cv)|v=>cv v
def bq (P:Program) (S:Nat→Prop) (w:World) (β:Nat→Value) (D:Nat→Prop) (t:Nat):AO→Prop|.box cs=>∃b us ty,β t=.pointer (some ⟨b,0,none⟩)∧w.heap[b]?=some (.cells us ty (0,0))∧us.size=cs.length∧∀(i:Nat) (c:AV) (u:Value),cs[i]?=some c→us[i]?=some u→u.oneCell'=true∧RV P S w β D u c|.arr e rows=>∃inf us,P.info? e=some inf∧w.ownsRow 0 e inf.size (β t) rows.length us∧(∀r,r∈rows→r.length=inf.size)∧∀(i j:Nat) (r:List PV) (p:PV),rows[i]?=some r→r[j]?=some p→∃u,us[i*inf.size+j]?=some u∧u.oneCell'=true∧dw S w u p|.map es=>∃(b:Nat) (us:Array MapEntry) (c:Nat),β t=.map (some b)∧w.heap[b]?=some (.map us c)∧us.toList.length=es.length∧∀(i:Nat) (e:PV×AV) (u:MapEntry),es[i]?=some e→us.toList[i]?=some u→u.key=bZ e.1∧RV P S w β (fun _=>False) u.val e.2|.rws e cs=>∃inf us,P.info? e=some inf∧inf.size=1∧w.ownsRow 0 e inf.size (β t) cs.length us∧∀(i:Nat) (c:AV) (u:Value),cs[i]?=some c→us[i]?=some u→u.oneCell'=true∧RV P S w β D u c|.gY es=>∃(b:Nat) (us:Array MapEntry) (c:Nat),β t=.map (some b)∧w.heap[b]?=some (.map us c)∧MapKept.Stamped us c∧us.toList.length=es.length∧∀(i:Nat) (e:PV×PV) (u:MapEntry),es[i]?=some e→us.toList[i]?=some u→u.key=bZ e.1∧dk e.1<99∧u.val.oneCell'=true∧dw S w u.val e.2|.nk rem cur=>∃(r m:Nat) (us:Array MapEntry) (c:Nat) (seen:Array Nat),β t=.pointer (some ⟨r,0,none⟩)∧w.heap[r]?=some (.mapIter (some m) c seen c)∧S m∧w.heap[m]?=some (.map us c)∧MapKept.Stamped us c∧(leftOf us seen).toList.length=rem.length∧(∀(i:Nat) (e:PV×PV) (u:MapEntry),rem[i]?=some e→(leftOf us seen).toList[i]?=some u→u.key=bZ e.1∧dk e.1<99∧u.val.oneCell'=true∧dw S w u.val e.2)∧∀e,cur=some e→∃(u:MapEntry) (seen':Array Nat),seen=seen'.push u.born∧u∈us.toList∧u.key=bZ e.1∧dk e.1<99∧u.val.oneCell'=true∧dw S w u.val e.2
def aE {α:Type} (aa:Nat→Option α) (t:Nat):Prop:=∃o,aa t=some o
def live (β:Nat→Value) (aa:Nat→Option AO) (b:Nat):Prop:=∃t o,aa t=some o∧cn (β t)=some b
def aS (S0:Nat→Prop) (n0:Nat) (β:Nat→Value) (aa:Nat→Option AO) (w:World) (b:Nat):Prop:=(S0 b∨n0≤b)∧b<w.heap.size∧¬live β aa b
structure Heap (P:Program) (S:Nat→Prop) (w:World) (β:Nat→Value) (aa:Nat→Option AO):Prop where
 holds:∀t o,aa t=some o→bq P S w β (aE aa) t o
 inj:∀t t' b,aE aa t→aE aa t'→cn (β t)=some b→cn (β t')=some b→t=t'
structure Aq (L:Nat→Prop) (w w':World):Prop where
 os:w'.os=w.os
 tape:w'.tape=w.tape
 output:w'.output=w.output
 size:w.heap.size≤w'.heap.size
 block:∀b,b<w.heap.size→¬L b→w'.heap[b]?=w.heap[b]?
def Dy (P:Program) (t:TypeId):Bool:=P.cutTypes.toList.any fun c=>c.2==t||P.underlyingId c.2==t
def Rb (P:Program):Bool:=P.follows .mixedOrders&&(List.range P.types.size).all fun t=>Dy P t||!P.stoodInHeld t
theorem Kc {P:Program} (h:Rb P=true):P.follows .mixedOrders=true:=(Bool.and_eq_true_iff.1 h).1
theorem Ka {P:Program} (h:Rb P=true) (t:TypeId) (ht:t<P.types.size∧Dy P t=false):P.stoodInHeld t=false:=by simpa[ht.2]using List.all_eq_true.1 (Bool.and_eq_true_iff.1 h).2 t (List.mem_range.2 ht.1)
structure Rel (P:Program) (S0:Nat→Prop) (L:Nat→Prop) (B0:Nat→Value) (w0:World) (N:Nat) (st:St) (a:Act) (w:World) (β:Nat→Value):Prop where
 size:a.tmps.size=N
 defers:a.defers=[]
 vars:∀s,RV P (aS S0 w0.heap.size β st.aa w) w β (aE st.aa) (a.tmps.getD s undef) (st.vars s)
 heap:Heap P (aS S0 w0.heap.size β st.aa w) w β st.aa
 old:∀t b,aE st.aa t→cn (β t)=some b→w0.heap.size≤b∨L b
 ph:N≤998∧∀t,t<P.types.size∧Dy P t=false→P.stoodInHeld t=false
 uD:∀t,t%1000=999→aE st.aa t→β t=B0 t
 bV:Aq L w0 w
def b6:AV→Nat→Option AV|.agg cs,j=>cs[j]?|v,j=>if j=0 then some v else none
def cellAt:AV→Nat→Option AV|.aQ vs,p=>(vs[p%1000]?).bind fun v=>b6 v (p/1000)|v,p=>if p%1000=0 then b6 v (p/1000) else none
def gT (g:Nat→AV→AV) (j:Nat):List AV→List AV|[]=>[]|c::cs=>g (1000*j) c::gT g (j+1) cs
def mP (g:Nat→AV→AV):AV→AV|.agg cs=>.agg (gT g 0 cs)|v=>g 0 v
def iI (g:Nat→AV→AV) (i:Nat):List AV→List AV|[]=>[]|v::vs=>mP (fun p c=>g (p+i) c) v::iI g (i+1) vs
def cV (g:Nat→AV→AV):AV→AV|.aQ vs=>.aQ (iI g 0 vs)|v=>mP g v
def lW (d:Nat) (p:Nat):AV→AV|.fr _ _=>.own (d+1000*p)|v=>v
def H5 (p:Nat):AV→AV|.fr _ _=>.own p|v=>v
def dN:Option AV→Option AO|some (.fr e rows)=>some (.arr e rows)|_=>none
def gx (j:Nat):List AV→List (Nat×AO)|[]=>[]|.fr e rows::cs=>(1000*j,.arr e rows)::gx (j+1) cs|_::cs=>gx (j+1) cs
def k9:AV→List (Nat×AO)|.agg cs=>gx 0 cs|.fr e rows=>[(0,.arr e rows)]|_=>[]
def lD (i:Nat):List AV→List (Nat×AO)|[]=>[]|v::vs=>(k9 v).map (fun x=>(x.1+i,x.2))++lD (i+1) vs
def AF:AV→List (Nat×AO)|.aQ vs=>lD 0 vs|v=>k9 v
def iJ:PV→Bool|.int _ _|.bool _|.str _|.nil|.val _=>true|.ro rows=>rows.isEmpty|.mp _|.mv _|.pt _=>false
def bE (rows:List (List PV)):Prop:=∀r∈rows,∀p∈r,iJ p=true
def mW:AV→Prop|.pv p=>iJ p=true|.fr _ rows=>bE rows|_=>False
def oH:List AV→Prop|[]=>True|c::cs=>mW c∧oH cs
def kF:AV→Prop|.agg cs=>oH cs|v=>mW v
def qR:List AV→Prop|[]=>True|c::cs=>kF c∧qR cs
def flat:AV→Prop|.aQ vs=>qR vs|v=>kF v
def b8 (f g:Nat→Option AO):Nat→Option AO:=fun t=>match f t with|some o=>some o|none=>g t
def za (P:Program) (f:FuncId) (hin:List (Nat×AO)) (args:List AV) (hout:List (Nat×AO)) (r:AV):Prop:=∀(w:World) (S0:Nat→Prop) (β:Nat→Value) (vals:List Value),(∀b,S0 b→b<w.heap.size)→(∀t b,aE (ab hin) t→cn (β t)=some b→b<w.heap.size)→Heap P (aS S0 w.heap.size β (ab hin) w) w β (ab hin)→vals.length=args.length→(∀(i:Nat) (v:Value) (x:AV),vals[i]?=some v→args[i]?=some x→RV P (aS S0 w.heap.size β (ab hin) w) w β (aE (ab hin)) v x)→Calls P f vals.toArray w fun e w'=>∃v β',e=.returned v∧Aq (live β (ab hin)) w w'∧Heap P (aS S0 w.heap.size β' (b8 (ab hout) fun t=>dN (cellAt r t)) w') w' β' (b8 (ab hout) fun t=>dN (cellAt r t))∧(∀t b,aE (b8 (ab hout) fun t=>dN (cellAt r t)) t→cn (β' t)=some b→w.heap.size≤b∨live β (ab hin) b)∧RV P (aS S0 w.heap.size β' (b8 (ab hout) fun t=>dN (cellAt r t)) w') w' β' (aE (b8 (ab hout) fun t=>dN (cellAt r t))) v (cV H5 r)
def He:AV→AV|.fr _ _=>.own 998|.aQ [.fr _ _]=>.own 999|x=>x
def mz:List AV→List (Nat×AO)|[]=>[]|.fr e rows::_=>[(998,.arr e rows)]|.aQ [.fr e rows]::_=>[(999,.arr e rows)]|_::l=>mz l
def cb:AV→AV|.bJ _ [r,.fr _ _]=>r|r=>r
def en:AV→List (Nat×AO)|.bJ _ [_,.fr e rows]=>[(999,.arr e rows)]|_=>[]
def DE (P:Program) (f:FuncId) (ys:List AV) (x:AV):Prop:=∀(w:World) (S0:Nat→Prop) (β:Nat→Value) (vals:List Value),(∀b,S0 b→b<w.heap.size)→(∀t b,aE (ab (mz ys)) t→cn (β t)=some b→b<w.heap.size)→Heap P (aS S0 w.heap.size β (ab (mz ys)) w) w β (ab (mz ys))→vals.length=ys.length→(∀(i:Nat) (v:Value) (x:AV),vals[i]?=some v→(ys.map He)[i]?=some x→RV P (aS S0 w.heap.size β (ab (mz ys)) w) w β (aE (ab (mz ys))) v x)→Calls P f vals.toArray w fun e w'=>∃v β',e=.returned v∧Aq (live β (ab (mz ys))) w w'∧Heap P (aS (fun b=>S0 b∨live β (ab (mz ys)) b) w.heap.size β' (b8 (ab (en x)) fun t=>dN (cellAt (cb x) t)) w') w' β' (b8 (ab (en x)) fun t=>dN (cellAt (cb x) t))∧(∀t b,aE (b8 (ab (en x)) fun t=>dN (cellAt (cb x) t)) t→cn (β' t)=some b→w.heap.size≤b∨live β (ab (mz ys)) b)∧(∀t,aE (ab (en x)) t→aE (ab (mz ys)) t∧β' t=β t)∧RV P (aS (fun b=>S0 b∨live β (ab (mz ys)) b) w.heap.size β' (b8 (ab (en x)) fun t=>dN (cellAt (cb x) t)) w') w' β' (aE (b8 (ab (en x)) fun t=>dN (cellAt (cb x) t))) v (cV H5 (cb x))
inductive HT (P:Program) (S:Nat→Prop) (w:World):Value→AV→List Nat→Prop|leaf (v:Value) (y:AV):RV P S w (fun _=>undef) (fun _=>False) v y→HT P S w v y []|fr (v:Value) (e:TypeId) (rows:List (List PV)) (inf:TypeInfo) (us:List Value):P.info? e=some inf→w.ownsRow 0 e inf.size v rows.length us→(∀r,r∈rows→r.length=inf.size)→(∀(i j:Nat) (r:List PV) (p:PV),rows[i]?=some r→r[j]?=some p→∃u,us[i*inf.size+j]?=some u∧u.oneCell'=true∧dw S w u p)→HT P S w v (.fr e rows) (cn v).toList|mf (b:Nat) (us:Array MapEntry) (c:Nat) (es:List (PV×PV)):w.heap[b]?=some (.map us c)→MapKept.Stamped us c→us.toList.length=es.length→(∀(i:Nat) (e:PV×PV) (u:MapEntry),es[i]?=some e→us.toList[i]?=some u→u.key=bZ e.1∧dk e.1<99∧u.val.oneCell'=true∧dw S w u.val e.2)→HT P S w (.map (some b)) (.mf es) [b]|bx (b:Nat) (us:Array Value) (ty:TypeId) (cs:List AV) (bss:List (List Nat)):w.heap[b]?=some (.cells us ty (0,0))→us.size=cs.length→bss.length=cs.length→(∀(i:Nat) (u:Value),us[i]?=some u→u.oneCell'=true)→(∀(i:Nat) (c:AV) (u:Value) (bs:List Nat),cs[i]?=some c→us[i]?=some u→bss[i]?=some bs→HT P S w u c bs)→HT P S w (.pointer (some ⟨b,0,none⟩)) (.bx cs) (b::bss.flatten)|agg (us:List Value) (cs:List AV) (bss:List (List Nat)):us.length=cs.length→bss.length=cs.length→(∀(i:Nat) (c:AV) (u:Value) (bs:List Nat),cs[i]?=some c→us[i]?=some u→bss[i]?=some bs→HT P S w u c bs)→HT P S w (.agg us.toArray) (.agg cs) bss.flatten|aQ (us:List Value) (cs:List AV) (bss:List (List Nat)):us.length=cs.length→bss.length=cs.length→(∀(i:Nat) (c:AV) (u:Value) (bs:List Nat),cs[i]?=some c→us[i]?=some u→bss[i]?=some bs→HT P S w u c bs)→HT P S w (.tuple us.toArray) (.aQ cs) bss.flatten
def ER (P:Program) (S:Nat→Prop) (w:World) (vs:List Value) (ys:List AV) (bss:List (List Nat)):Prop:=vs.length=ys.length∧bss.length=ys.length∧∀(i:Nat) (y:AV) (v:Value) (bs:List Nat),ys[i]?=some y→vs[i]?=some v→bss[i]?=some bs→HT P S w v y bs
def HA:AV→AV|.aQ [y]=>y|y=>y
def Hc:AV→Bool|.aQ [_]=>true|_=>false
def eh {α:Type}:List AV→List α→List α|y::ys,v::vs=>if Hc y=true then v::eh ys vs else eh ys vs|_,_=>[]
def ka:AV→AV|.bJ _ (r::_)=>r|r=>r
def ld:AV→List AV|.bJ _ (_::os)=>os|_=>[]
def Bz (P:Program) (f:FuncId) (ys:List AV) (x:AV):Prop:=∀(w:World) (S0:Nat→Prop) (vals:List Value) (bss:List (List Nat)),(∀b,S0 b→b<w.heap.size∧b∉bss.flatten)→bss.flatten.Nodup→ER P S0 w vals (ys.map HA) bss→Calls P f vals.toArray w fun e w'=>∃v bss',e=.returned v∧Aq (·∈bss.flatten) w w'∧bss'.flatten.Nodup∧(∀b∈bss'.flatten,w.heap.size≤b∨b∈bss.flatten)∧ER P (fun b=>(S0 b∨b∈bss.flatten∨w.heap.size≤b)∧b<w'.heap.size∧b∉bss'.flatten) w' (eh ys vals++[v]) (ld x++[ka x]) bss'
def C7:AV→Bool|.agg []=>true|_=>false
def u7:Value→Bool|.agg cs=>cs.isEmpty|_=>false
def EC:Option AO→Option PV|some (.arr _ rows)=>some (.ro rows)|some (.map es)=>if es.all (fun e=>C7 e.2)=true then some (.mp (es.map (·.1))) else none|some (.gY es)=>some (.mv es)|_=>none
def eA (aa:Nat→Option AO):AV→Option PV|.pv .nil=>some (.ro [])|.pv p=>some p|.own t=>EC (aa t)|.sub t e lo hi=>(cO (aa t)).bind fun r=>if r.1=e then some (.ro ((r.2.take hi).drop lo)) else none|_=>none
def jj (aa:Nat→Option AO):List AV→Option (List PV)|[]=>some []|c::cs=>(eA aa c).bind fun p=>(jj aa cs).map (p::·)
def fc (aa:Nat→Option AO):AV→Option AV|.ptr t o=>(eQ (aa t)).bind fun cs=>(jj aa (cs.drop o)).map .rp|.rp cs=>some (.rp cs)|.agg cs=>(jj aa cs).map fun ps=>.agg (ps.map .pv)|.bJ f []=>some (.bJ f [])|v=>(eA aa v).map .pv
def kH (aa:Nat→Option AO):List AV→Option (List AV)|[]=>some []|c::cs=>(fc aa c).bind fun p=>(kH aa cs).map (p::·)
def nJ (aa:Nat→Option AO):AV→Option AV|.bJ f caps=>(kH aa caps).map (.bJ f)|v=>fc aa v
def fA (aa:Nat→Option AO):List AV→Option (List AV)|[]=>some []|c::cs=>(nJ aa c).bind fun p=>(fA aa cs).map (p::·)
def gv:AV→Bool|.pv _|.rp _=>true|_=>false
def gJ:List AV→Bool|[]=>true|c::cs=>gv c&&gJ cs
def dS:AV→Bool|.agg cs=>gJ cs|.bJ _ cs=>gJ cs|v=>gv v
def eG:List AV→Bool|[]=>true|c::cs=>dS c&&eG cs
def Qq:Option AO→Option AV|some (.arr e rows)=>some (.fr e rows)|some (.gY es)=>some (.mf es)|_=>none
def FW (f:AV→Option (AV×List Nat)):List AV→Option (List AV×List Nat)|[]=>some ([],[])|c::cs=>(f c).bind fun r=>(FW f cs).map fun q=>(r.1::q.1,r.2++q.2)
def rd:Nat→(Nat→Option AO)→AV→Option (AV×List Nat)|0,_,_=>none|n+1,aa,x=>match x with|.own t=>(Qq (aa t)).map fun y=>(y,[t])|.ptr t 0=>(eQ (aa t)).bind fun cs=>(FW (rd n aa) cs).map fun r=>(.bx r.1,t::r.2)|.agg cs=>(FW (rd n aa) cs).map fun r=>(.agg r.1,r.2)|.pv p=>some (.pv p,[])|.rp cs=>some (.rp cs,[])|.bJ f []=>some (.bJ f [],[])|_=>none
def tk:Bool→List Nat×List Nat→Option (Nat×List Nat×List Nat)|true,(p::ps,us)=>some (p,ps,us)|false,(ps,u::us)=>some (u,ps,us)|_,_=>none
def nq (f:AV→List Nat×List Nat→Option (AV×List (Nat×AO)×List Nat×List Nat)):List AV→List Nat×List Nat→Option (List AV×List (Nat×AO)×List Nat×List Nat)|[],s=>some ([],[],s)|c::cs,s=>(f c s).bind fun r=>(nq f cs r.2.2).map fun q=>(r.1::q.1,r.2.1++q.2.1,q.2.2)
def num:Nat→Bool→AV→List Nat×List Nat→Option (AV×List (Nat×AO)×List Nat×List Nat)|0,_,_,_=>none|n+1,top,y,s=>match y with|.fr e rows=>(tk top s).map fun q=>(.own q.1,[(q.1,.arr e rows)],q.2)|.mf es=>(tk top s).map fun q=>(.own q.1,[(q.1,.gY es)],q.2)|.bx cs=>(tk top s).bind fun q=>(nq (num n false) cs q.2).map fun r=>(.ptr q.1 0,(q.1,.box r.1)::r.2.1,r.2.2)|.agg cs=>(nq (num n top) cs s).map fun r=>(.agg r.1,r.2)|.aQ cs=>(nq (num n top) cs s).map fun r=>(.aQ r.1,r.2)|.pv p=>some (.pv p,[],s)|.rp cs=>some (.rp cs,[],s)|.bJ f caps=>if gJ caps=true then some (.bJ f caps,[],s) else none|_=>none
def rE:AV→List Nat|.own t=>[t]|.ptr t 0=>[t]|_=>[]
def qZ:AV→List Nat|.agg cs=>cs.flatMap rE|x=>rE x
def eg (W:List Nat):AV→AV|.own t=>if W.contains t then .ay else .own t|.ptr t o=>if W.contains t then .ay else .ptr t o|.aX t e i o=>if W.contains t then .ay else .aX t e i o|.sub t e lo hi=>if W.contains t then .ay else .sub t e lo hi|.pv p=>.pv p|.rp cs=>.rp cs|.bJ f []=>.bJ f []|_=>.ay
def iX (W:List Nat):AV→AV|.agg cs=>.agg (cs.map (eg W))|v=>eg W v
def kS (W:List Nat):AV→AV|.aQ cs=>.aQ (cs.map (iX W))|.bJ f cs=>.bJ f (cs.map (iX W))|.ch g v=>.ch g (kS W v)|v=>iX W v
def ff (W:List Nat) (v:AV):AV:=if W.isEmpty=true then v else kS W v
def xN (W:List Nat):AO→AO|.box cs=>.box (cs.map (eg W))|.rws e cs=>.rws e (cs.map (eg W))|o=>o
def jl (W:List Nat) (o:AO):AO:=if W.isEmpty=true then o else xN W o
def gP (W:List Nat) (f:Nat→AV):Nat→AV:=fun s=>ff W (f s)
def eX (T W:List Nat) (f:Nat→Option AO):Nat→Option AO:=fun t=>if T.contains t then none else(f t).map (jl W)
def Bh (aa objs':Nat→Option AO) (T:List Nat):List Nat→List AV→Option (List AV)|[],[]=>some []|k::ks,x::xs=>(if k=0 then nJ objs' (ff T x) else if k=1 then(rd 5 aa x).map (·.1) else(rd 5 aa x).map fun r=>.aQ [r.1]).bind fun y=>(Bh aa objs' T ks xs).map (y::·)|_,_=>none
def eI (aa:Nat→Option AO):List Nat→List AV→List Nat|k::ks,x::xs=>(if k=0 then[] else((rd 5 aa x).map (·.2)).getD [])++eI aa ks xs|_,_=>[]
def dZ:List Nat→List AV→List AV|k::ks,x::xs=>if 1<k then x::dZ ks xs else dZ ks xs|_,_=>[]
def eB (T:List Nat):List Nat→List AV→Bool|k::ks,x::xs=>(k !=0||dS (ff T x))&&eB T ks xs|_,_=>true
def fH:Nat→AV→Prop|0,_=>False|n+1,y=>match y with|.fr _ rows=>bE rows|.mf es=>∀e∈es,iJ e.2=true|.bx cs|.agg cs|.aQ cs=>∀c∈cs,fH n c|.pv p=>iJ p=true|.bJ _ []=>True|_=>False
def aP (d:Nat) (r:AV):List (Nat×AO):=(AF r).map fun x=>(d+1000*x.1,x.2)
def cd {α:Type} (l:List α) (o:Nat) (ps:List α):List α:=l.take o++ps++l.drop (o+ps.length)
def ca (t:Nat):AV→AV|.own s=>if s=t then .ay else .own s|.aX s e i o=>if s=t then .ay else .aX s e i o|.sub s e i o=>if s=t then .ay else .sub s e i o|.pv p=>.pv p|.ptr s o=>.ptr s o|.rp cs=>.rp cs|.bJ f []=>.bJ f []|_=>.ay
def bX (t:Nat):List AV→List AV|[]=>[]|c::cs=>ca t c::bX t cs
def kill (t:Nat):AV→AV|.agg cs=>.agg (bX t cs)|.aQ cs=>.aQ (bX t cs)|.ch g v=>.ch g (kill t v)|v=>ca t v
def dI (t:Nat):AO→AO|.box cs=>.box (bX t cs)|.rws e cs=>.rws e (bX t cs)|o=>o
def cz (t:Nat) (f:Nat→AV):Nat→AV:=fun s=>kill t (f s)
def dn (t:Nat) (f:Nat→Option AO):Nat→Option AO:=fun s=>(f s).map (dI t)
def cA (k:AK) (d:Nat) (xs:List AV) (aa:Nat→Option AO):Option (Prop×AV×AO):=match k,xs with|.gF e,_=>some (True,.own d,.arr e [])|.box,[x]=>if fG (cellsOf x) then some (True,.ptr d 0,.box (cellsOf x)) else none|.alloc zs,_=>if zs.all (·.oneCell') then some (True,.ptr d 0,.box (zs.map cv)) else none|.rB e sz,xs=>(rowsOf xs).map fun rows=>(∀r∈rows,r.length=sz,.own d,.arr e rows)|.app e sz bytes,[.pv .nil,x]=>(cQ aa x).map fun rows=>(rows.length*bytes≤140737488355328∧rows.length≤maxLen∧(∀r∈rows,r.length=sz),.own d,.arr e rows)|_,_=>none
def eD (k:AK) (xs:List AV) (aa:Nat→Option AO):Option (Prop×Nat×AO):=match k,xs with|.store none,[.ptr t o,v]=>(eQ (aa t)).bind fun cs=>if ei v∧o<cs.length then some (True,t,.box (cs.set o v)) else none|.store (some n),[.ptr t o,.agg vs]=>(eQ (aa t)).bind fun cs=>if fG vs∧vs.length=n∧o+n≤cs.length then some (True,t,.box (cd cs o vs)) else none|.store none,[.aX t e i o,.pv p]=>(cO (aa t)).bind fun r=>if r.1=e∧o<(rowAt r.2 i).length∧ei (.pv p) then some (0≤i∧i<r.2.length,t,.arr e (r.2.set i.toNat ((rowAt r.2 i).set o p))) else none|.store (some n),[.aX t e i o,.agg vs]=>(cO (aa t)).bind fun r=>(eM vs).bind fun ps=>if r.1=e∧fG vs∧ps.length=n∧o+n≤(rowAt r.2 i).length then some (0≤i∧i<r.2.length,t,.arr e (r.2.set i.toNat (cd (rowAt r.2 i) o ps))) else none|.app e sz bytes,[.own t,x]=>(cO (aa t)).bind fun r=>(cQ aa x).bind fun more=>if r.1=e∧t%1000≠999 then some ((r.2.length+more.length)*bytes≤140737488355328∧r.2.length+more.length≤maxLen∧(∀r∈more,r.length=sz),t,.arr e (r.2++more)) else none|_,_=>none
def aj {α:Type} (o:Option α) (K:α→Prop):Prop:=match o with|some x=>K x|none=>False
def qf (φ ψ:Prop) (c:Bool):AV→AV→Option (Prop×AV)|.pv (.bool x),.pv (.bool y)=>some ((c=true→φ)∧(c=false→ψ),.pv (.bool (cond c x y)))|.pv (.bool x),_=>some (c=true∧φ,.pv (.bool x))|_,.pv (.bool y)=>some (c=false∧ψ,.pv (.bool y))|_,_=>none
def jd:AV→Option Bool|.pv (.bool c)=>some c|_=>none
def sK:List AV→Option (Prop×AV)|[c,a,b]=>(jd (strip c)).bind fun g=>(qf (asks a) (asks b) g (strip a) (strip b)).map fun r=>(asks c∧r.1,r.2)|_=>none
def bF (os:List (Nat×AO)) (aa:Nat→Option AO):Nat→Option AO:=fun t=>match ab os t with|some o=>some o|none=>aa t
inductive bI where|put (v:AV)|new (v:AV) (os:List (Nat×AO))|vK (t:Nat) (o:AO)|app (t:Nat) (o:AO)
def bI.on (d:Option Nat):bI→St→St|.put v,st=>⟨Ab.put d v st.vars,st.aa⟩|.new v os,st=>⟨Ab.put d v st.vars,bF os st.aa⟩|.vK t o,st=>⟨Ab.put d .ay st.vars,aL t o st.aa⟩|.app t o,st=>⟨Ab.put d (.own t) (cz t st.vars),aL t o (dn t st.aa)⟩
def oG:List AV→Bool|.own _::_=>true|_=>false
def oJ:AV→Bool|.aQ vs=>decide (vs.length≤1000)|_=>true
def jh:AV→Bool|.pv _|.rp _|.fr _ _=>true|_=>false
def oI:List AV→Bool|[]=>true|c::cs=>jh c&&oI cs
def ll:AV→Bool|.agg cs=>oI cs|v=>jh v
def qJ:List AV→Bool|[]=>true|c::cs=>ll c&&qJ cs
def cU:AV→Bool|.aQ vs=>decide (vs.length≤900)&&qJ vs|v=>ll v
def Hk:AV→Bool
 |.bx _|.mf _=>true|.agg cs=>cs.any fun c=>match c with|.bx _|.mf _=>true|_=>false
 |_=>false
def oc:AV→Bool|.aQ vs=>vs.any Hk|v=>Hk v
def jL (d:Nat):List Nat:=[d,d+1000,d+2000,d+3000,d+4000,d+5000,d+6000,d+7000]
def qE (r:AV):Prop:=if oc r=true then fH 5 r else flat r
def jI (d:Nat) (r:AV):List (Nat×AO):=if oc r=true then(((num 5 false r ([],jL d)).map (·.2.1)).getD []) else aP d r
def Aa (d:Nat) (r:AV):AV:=if oc r=true then(((num 5 false r ([],jL d)).map (·.1)).getD .ay) else cV (lW d) r
def zh (d:Nat) (r:AV):Bool:=if oc r=true then(num 5 false r ([],jL d)).isSome else cU r
def N6 (P:Program) (f:FuncId) (ys:List AV) (r:AV):Prop:=(oc r=true→Bz P f ys (.bJ 0 [r]))∧(oc r=false→za P f [] ys [] r)
abbrev bW:=FuncId→List AV→Option (Prop×AV)
def dJ (P:Program) (Γ:bW):Prop:=∀f ys φ r,Γ f ys=some (φ,r)→φ→(f<1000000∧za P f [] ys [] r)∨(P.funcs.size≤1000000∧1000000≤f∧f<2000000∧(ys=[.ay]∨DE P (f-1000000) ys r))∨(P.funcs.size≤1000000∧2000000≤f∧f<3000000∧(ys=[.ay]∨Bz P (f-2000000) ys r))∨(P.funcs.size≤1000000∧3000000≤f∧Bz P (f-3000000) ys (.bJ 0 [r]))
def R3:Option (Prop×AV)→Option (Prop×AV)→Option (Prop×AV)|some x,_=>some (x.1∧oc x.2=false,x.2)|none,y=>y.map fun x=>(x.1∧oc x.2=true,x.2)
def gt (Γ:bW) (f:FuncId) (ys:List AV):Option (Prop×AV):=R3 (Γ f ys) (Γ (f+3000000) ys)
theorem no3 {n f:Nat} (h:3000000≤f) (hn:n≤1000000):¬f<n:=by omega
theorem dJ.Zt {P:Program}{Γ:bW} (h:dJ P Γ) {f:FuncId} (hf:f<P.funcs.size) {ys:List AV}{φ:Prop}{r:AV} (hr:gt Γ f ys=some (φ,r)) (hφ:φ):N6 P f ys r:=by unfold gt at hr;cases hg:Γ f ys with
 |some x=>
  rw[hg]at hr;have hr:some (x.1∧oc x.2=false,x.2)=some (φ,r):=hr;simp only[Option.some.injEq,Prod.mk.injEq]at hr;obtain⟨rfl,rfl⟩:=hr;refine⟨fun e=>absurd (hφ.2.symm.trans e) Bool.false_ne_true,fun _=>?_⟩;rcases h f ys x.1 x.2 hg hφ.1 with⟨_,h⟩|⟨h,h2,_⟩|⟨h,h2,_⟩|⟨h,h2,_⟩;·exact h
  ·exact absurd hf (Nat.not_lt.2 (Nat.le_trans h h2))
  ·exact absurd hf (Nat.not_lt.2 (Nat.le_trans h (Nat.le_trans (by decide) h2)))
  ·exact absurd hf (no3 h2 h)|none=>
  rw[hg]at hr;obtain⟨x,hx,hr⟩:=Option.map_eq_some_iff.1 (show(Γ (f+3000000) ys).map (fun x=>(x.1∧oc x.2=true,x.2))=some (φ,r) from hr);simp only[Prod.mk.injEq]at hr;obtain⟨rfl,rfl⟩:=hr;refine⟨fun _=>?_,fun e=>absurd (e.symm.trans hφ.2) Bool.false_ne_true⟩;rcases h (f+3000000) ys x.1 x.2 hx hφ.1 with⟨h,_⟩|⟨_,_,h,_⟩|⟨_,_,h,_⟩|⟨_,_,h⟩;·exact absurd h (Nat.not_lt.2 (Nat.le_trans (by decide) (Nat.le_add_left 3000000 f)))
  ·exact absurd h (Nat.not_lt.2 (Nat.le_trans (by decide) (Nat.le_add_left 3000000 f)))
  ·exact absurd h (Nat.not_lt.2 (Nat.le_add_left 3000000 f))
  ·rw[show f+3000000-3000000=f from Nat.add_sub_cancel _ _]at h;exact h
def cD (P:Program) (Γ:bW) (d:Option Nat) (f:FuncId) (xs:List AV) (aa:Nat→Option AO) (C:bI→Prop):Prop:=aj d fun d=>au xs∧aj (fA aa (xs.map strip)) fun ys=>aj (gt Γ f ys) fun x=>x.1∧(eG (xs.map strip)=true∨qE x.2)∧(∀y∈jI d x.2,aa y.1=none)∧zh d x.2=true∧C (.new (Aa d x.2) (jI d x.2))
def aY (P:Program) (Γ:bW) (d:Option Nat) (k:AK) (xs:List AV) (aa:Nat→Option AO) (C:bI→Prop):Prop:=match k with|.nK=>aj xs.head? fun x=>xs.length=1∧C (.put x)|.pick=>aj (sK xs) fun x=>x.1∧C (.put x.2)|.gF _|.box|.alloc _|.rB _ _=>aj d fun d=>au xs∧aj (cA k d (xs.map strip) aa) fun x=>x.1∧aa d=none∧C (.new x.2.1 [(d,x.2.2)])|.store _=>au xs∧aj (eD k (xs.map strip) aa) fun x=>x.1∧C (.vK x.2.1 x.2.2)|.app _ _ _=>au xs∧if oG (xs.map strip) then aj (eD k (xs.map strip) aa) fun x=>x.1∧C (.app x.2.1 x.2.2) else aj d fun d=>aj (cA k d (xs.map strip) aa) fun x=>x.1∧aa d=none∧C (.new x.2.1 [(d,x.2.2)])|.call f=>cD P Γ d f xs aa C|_=>au xs∧aj (ak k (xs.map strip) aa) fun x=>x.1∧C (.put x.2)
def zJ (Γ:bW) (c:Bool) (f:FuncId) (xs:List AV) (aa:Nat→Option AO) (C:bI→Prop):Prop:=aj (fA aa (xs.map strip)) fun ys=>aj (gt Γ f ys) fun x=>(c=true→au xs∧x.1)∧flat x.2∧AF x.2=[]∧cU x.2=true∧C (.put (.ch c x.2))
def Ai:AV→AV|.fr _ rows=>.pv (.ro rows)|v=>v
def J8:AV→AV|.agg cs=>.agg (cs.map Ai)|v=>Ai v
def IY:AV→AV|.aQ vs=>.aQ (vs.map J8)|v=>J8 v
def EV:Option (List (List PV))→AV|some rows=>.ch false (.pv (.ro rows))|none=>.ay
def yx (xs:List AV):AV:=EV (rowsOf (xs.map strip))
def cp (P:Program) (Γ:bW) (c:Bool) (d:Option Nat) (k:AK) (xs:List AV) (aa:Nat→Option AO) (C:bI→Prop):Prop:=match k with|.nK=>aj xs.head? fun x=>xs.length=1∧C (.put (.ch c x))|.pick=>aj (sK xs) fun x=>(c=true→x.1)∧C (.put (.ch c x.2))|.rB _ _=>(c=true→aY P Γ d k xs aa C)∧(c=false→C (.put (yx xs)))|.gF _|.box|.alloc _|.store _|.app _ _ _=>(c=true→aY P Γ d k xs aa C)∧(c=false→C (.put .ay))|.call f=>aj (fA aa (xs.map strip)) fun ys=>aj (gt Γ f ys) fun x=>if(!oc x.2&&(AF x.2).isEmpty)=true then(c=true→au xs∧x.1)∧flat x.2∧AF x.2=[]∧cU x.2=true∧C (.put (.ch c x.2)) else(c=true→aY P Γ d k xs aa C)∧(c=false→C (.put (.ch false (IY x.2))))|_=>aj (ak k (xs.map strip) aa) fun x=>(c=true→au xs∧x.1)∧C (.put (.ch c x.2))
def ss:Bool→Option Bool→Option Bool|false,_=>some false|true,o=>o
def bN:AV→Bool→Option Bool|.pv (.bool b),want=>some (if want then b else !b)|.ch c v,want=>ss c (bN v want)|_,_=>none
def jC (un:List Nat) (t:Nat):Prop:=un.contains (t%1000)=false
def uM (un:List Nat):AV→Prop|.own t|.ptr t _|.aX t _ _ _|.sub t _ _ _=>jC un t|_=>True
def gU (un:List Nat):List AV→Prop|[]=>True|c::cs=>uM un c∧gU un cs
def nt (un:List Nat) (aa:Nat→Option AO):AV→Prop|.ptr t _=>jC un t∧gU un ((eQ (aa t)).getD [])|.agg cs=>gU un cs|v=>uM un v
def kE (un:List Nat) (aa:Nat→Option AO):List AV→Prop|[]=>True|c::cs=>nt un aa c∧kE un aa cs
def qM (un:List Nat) (aa:Nat→Option AO):AV→Prop|.bJ _ cs=>kE un aa cs|v=>nt un aa v
def jQ (un:List Nat) (aa:Nat→Option AO):List AV→Prop|[]=>True|c::cs=>qM un aa c∧jQ un aa cs
def tq:Option Nat→bI→Prop|none,_=>True|some s,.vK t _=>t=s|some _,_=>False
def kQ (un:List Nat):bI→Prop|.app t _=>un.contains (t%1000+1000)=false|_=>True
def BN (un:List Nat) (tg:Option Nat) (e:bI):Prop:=tq tg e∧kQ un e
def dG (P:Program) (Γ:bW) (i:AI) (vars:Nat→AV) (aa:Nat→Option AO) (C:bI→Prop):Prop:=match i.g with|none=>aY P Γ i.d i.k (i.xs.map (ev vars)) aa C|some (s,want)=>aj (bN (vars s) want) fun c=>cp P Γ c i.d i.k (i.xs.map (ev vars)) aa C
def cT (P:Program) (Γ:bW) (i:AI) (K:St→Prop) (st:St):Prop:=(i.un=[]∨jQ i.un st.aa ((i.xs.map (ev st.vars)).map strip))∧dG P Γ i st.vars st.aa fun e=>BN i.un i.tg e∧K (e.on i.d st)
def gM (P:Program) (f:FuncId):Bool:=match P.funcs[f]? with|some fn=>fn.name != "runtime.NumGoroutine" &&fn.body.isSome|none=>false
def kO:List AV→Option (FuncId×List AV)|.bJ f caps::args=>some (f,args++caps)|.pv (.val v)::args=>(KR v).map fun f=>(f,args)|_=>none where KR:Value→Option FuncId|.func (.func f) ⟨[]⟩ ⟨[]⟩=>some f|_=>none
def fa:List AV→Bool|[]=>false|.ay::_=>true|.pv (.val _)::_=>true|.rp []::_=>true|_::l=>fa l
def HW:Option Bool→Bool|some false=>true|_=>false
def gS:Bool→Bool→Prop→Prop→Prop|false,_,A,_=>A|true,f,A,B=>if f=true then B else A
def sh (t:Nat) (e0:TypeId) (rows:List (List PV)):AV→AV|.own s=>if s=t then .pv (.ro rows) else .own s|.sub s e lo hi=>if s=t then(if e=e0 then .pv (.ro ((rows.take hi).drop lo)) else .ay) else .sub s e lo hi|v=>kill t v
def Hg (t:Nat) (e0:TypeId) (rows:List (List PV)) (f:Nat→AV):Nat→AV:=fun s=>sh t e0 rows (f s)
def fI (t:Nat) (f:Nat→Option AO):Nat→Option AO:=fun s=>if s=t then none else(f s).map (dI t)
def Q0 (t:Nat) (e0:TypeId) (rows:List (List PV)):AV→AV|.own s=>if s=t then .pv (.ro rows) else .own s|.sub s e lo hi=>if s=t then(if e=e0 then .pv (.ro ((rows.take hi).drop lo)) else .ay) else .sub s e lo hi|c=>ca t c
def ry (t:Nat) (e0:TypeId) (rows:List (List PV)):List AV→List AV|[]=>[]|c::cs=>Q0 t e0 rows c::ry t e0 rows cs
def Dx (t:Nat) (e0:TypeId) (rows:List (List PV)):AV→AV|.agg cs=>.agg (ry t e0 rows cs)|v=>sh t e0 rows v
def G7 (t:Nat) (e0:TypeId) (rows:List (List PV)):AO→AO|.box cs=>.box (ry t e0 rows cs)|o=>dI t o
def shW (t:Nat) (e0:TypeId) (rows:List (List PV)) (f:Nat→AV):Nat→AV:=fun s=>Dx t e0 rows (f s)
def AH (t:Nat) (e0:TypeId) (rows:List (List PV)) (f:Nat→Option AO):Nat→Option AO:=fun s=>if s=t then none else(f s).map (G7 t e0 rows)
def iz (st:St):AV→St
 |.own t=>match cO (st.aa t) with|some r=>⟨shW t r.1 r.2 st.vars,AH t r.1 r.2 st.aa⟩|none=>st
 |_=>st
def gh:St→List AV→St|st,[]=>st|st,c::cs=>gh (iz st c) cs
def share1 (st:St):AV→St|.agg cs=>gh st cs|v=>iz st v
def cF (st:St):List AV→St|[]=>st|v::l=>cF (share1 st v) l
def yH:PV→PV|.nil=>.ro []|p=>p
def rf:AV→AV|.pv p=>.pv (yH p)|c=>c
def kP:List AV→List AV|[]=>[]|c::cs=>rf c::kP cs
def tH:AV→AV|.agg cs=>.agg (kP cs)|v=>rf v
def uC:AO→AO|.box cs=>.box (kP cs)|o=>o
def um (st:St):St:=⟨fun s=>tH (st.vars s),fun s=>(st.aa s).map uC⟩
def rl:Option AO→Option (List (PV×PV))|some (.gY es)=>some es|_=>none
def U4 (t:Nat) (es:List (PV×PV)):AV→AV|.own s=>if s=t then .pv (.mv es) else .own s|v=>kill t v
def Ax (t:Nat) (st:St):St:=match rl (st.aa t) with|some es=>⟨fun s=>U4 t es (st.vars s),fI t st.aa⟩|none=>st
def xI (t:Nat) (st:St):St:=if t=999996 then um st else if 1000000000000000≤t then Ax (t-1000000000000000) st else share1 st (.own t)
def cB:List Nat→St→St|[],st=>st|t::ts,st=>cB ts (xI t st)
def Hf:AV→Bool|.pv (.ro _)|.pv (.mp _)|.pv (.mv _)|.pv (.pt _)|.rp _=>true|_=>false
def Bk:List AV→Bool|[]=>false|c::cs=>Hf c||Bk cs
def Rz:AV→Bool|.agg cs=>Bk cs|v=>Hf v
def D4:List AV→Bool|[]=>false|c::cs=>Rz c||D4 cs
def Sf:AV→Bool|.aQ vs=>D4 vs|v=>Rz v
def tO (t:Nat) (st:St):St:=match cO (st.aa t) with|some _=>⟨cz t st.vars,fI t st.aa⟩|none=>st
def yQ (P:Program) (Γ:bW) (d:Option Nat) (f:FuncId) (xs:List Operand) (K:St→Prop) (st:St):Prop:=cD P Γ d f (xs.map (ev st.vars)) st.aa fun e=>K (e.on d st)
def lF (P:Program) (Γ:bW) (i:AI) (f:FuncId) (K:St→Prop) (st:St):Prop:=aj (fA st.aa ((i.xs.map (ev st.vars)).map strip)) fun ys=>aj (gt Γ f ys) fun x=>if(Sf x.2&&!eG ((i.xs.map (ev st.vars)).map strip))=true then yQ P Γ i.d f i.xs K (cF st ((i.xs.map (ev st.vars)).map strip)) else cT P Γ i K st
def frC:AV→Bool|.pv (.ro _)|.pv (.mp _)|.pv (.mv _)|.pv (.pt _)|.rp _|.fr _ _|.bx _|.mf _=>true|_=>false
def Yk:List AV→Bool|[]=>false|c::cs=>frC c||Yk cs
def fr1:AV→Bool|.agg cs=>Yk cs|v=>frC v
def Uv:List AV→Bool|[]=>false|c::cs=>fr1 c||Uv cs
def Xg:AV→Bool|.aQ vs=>Uv vs|v=>fr1 v
def pY (t:Nat):AV→Prop|.own s|.ptr s _|.aX s _ _ _|.sub s _ _ _=>s≠t|.pv _|.rp _|.ay=>True|.bJ _ []=>True|_=>False
def rO (t:Nat):List AV→Prop|[]=>True|c::cs=>pY t c∧rO t cs
def xJ (t:Nat):AV→Prop|.agg cs|.bJ _ cs=>rO t cs|v=>pY t v
def lR (t p:Nat):List AV→Prop|[]=>True|v::vs=>(match p with|0=>m8 vs|p+1=>xJ t v∧lR t p vs) where m8:List AV→Prop|[]=>True|v::vs=>xJ t v∧m8 vs
def gL (aa:Nat→Option AO) (k:Nat):AV→Option (Nat×TypeId×List (List PV))|.own t=>(cO (aa t)).map fun r=>(t,r.1,r.2)|.sub t e 0 hi=>if k=998 then(cO (aa t)).bind fun r=>if r.1=e then some (t,e,r.2.take hi) else none else none|_=>none
def vS (k:Nat) (e:TypeId) (rows:List (List PV)):AV:=if k=998 then .fr e rows else .aQ [.fr e rows]
def qh (aa:Nat→Option AO) (m:AV):Nat→List AV→Option (List AV)|_,[]=>some []|0,_::vs=>(fA aa vs).map (m::·)|p+1,v::vs=>(nJ aa v).bind fun y=>(qh aa m p vs).map (y::·)
def jx:Nat→List AV→Bool|_,[]=>true|0,_::vs=>eG vs|p+1,v::vs=>dS v&&jx p vs
def oL:List (Nat×AO)→Prop|[]=>True|(_,.arr _ rows)::l=>bE rows∧oL l|_::l=>oL l
def cH (t:Nat) (x:AV) (aa:Nat→Option AO):Nat→Option AO:=match en x with|(_,o)::_=>aL t o aa|[]=>fI t aa
def gV (t:Nat) (x:AV) (vars:Nat→AV):Nat→AV:=match en x with|_::_=>vars|[]=>cz t vars
def C2:AV→Option (Nat×Nat)|.ptr p k=>if k=998∨k=999∨k=997∨k=996 then some (p,k) else none|_=>none
def dz (Γ:bW) (f:FuncId):Option (Nat×Nat):=(Γ (f+1000000) [.ay]).bind fun x=>C2 x.2
def kL (P:Program) (Γ:bW) (d:Option Nat) (f:FuncId) (xs:List AV) (p k:Nat) (K:St→Prop) (st:St):Prop:=aj d fun d=>au xs∧aj ((xs.map strip)[p]?) fun X=>aj (gL st.aa k X) fun T=>lR T.1 p (xs.map strip)∧aj (qh (fI T.1 st.aa) (vS k T.2.1 T.2.2) p (xs.map strip)) fun ys=>aj (Γ (f+1000000) ys) fun x=>x.1∧(jx p (xs.map strip)=true∨(flat (cb x.2)∧oL (en x.2)))∧(∀y∈aP d (cb x.2),st.aa y.1=none)∧cU (cb x.2)=true∧K ⟨put (some d) (cV (lW d) (cb x.2)) (gV T.1 x.2 st.vars),bF (aP d (cb x.2)) (cH T.1 x.2 st.aa)⟩
def qv (aa:Nat→Option AO):Nat→List AV→Option (List AV)|_,[]=>some []|0,.pv .nil::vs=>(fA aa vs).map (.pv .nil::·)|0,_::_=>none|p+1,v::vs=>(nJ aa v).bind fun y=>(qv aa p vs).map (y::·)
def zZ (P:Program) (Γ:bW) (d:Option Nat) (f:FuncId) (xs:List AV) (p:Nat) (K:St→Prop) (st:St):Prop:=aj d fun d=>au xs∧aj (qv st.aa p (xs.map strip)) fun ys=>aj (Γ (f+1000000) ys) fun x=>x.1∧(eG (xs.map strip)=true∨flat x.2)∧(∀y∈aP d x.2,st.aa y.1=none)∧cU x.2=true∧K ⟨put (some d) (cV (lW d) x.2) st.vars,bF (aP d x.2) st.aa⟩
def Np:AV→Option (List Nat)|.rp l=>some (l.map fun p=>match p with|.int _ n=>n.toNat|_=>0)|_=>none
def je (Γ:bW) (f:FuncId):Option (List Nat):=(Γ (f+2000000) [.ay]).bind fun x=>Np x.2
def nV (d:Nat) (T W:List Nat):List Nat:=W.filter (fun t=>t%1000 !=999)++[d,d+1000,d+2000,d+3000,d+4000,d+5000,d+6000,d+7000].filter fun t=>!T.contains t
def xG (Γ:bW) (d f:Nat) (ks:List Nat) (xs:List AV) (T Q W:List Nat) (K:St→Prop) (st:St) (ys:List AV):Prop:=aj (Γ (f+2000000) ys) fun x=>x.1∧(eB T ks xs=true∨∀y∈ld x.2++[ka x.2],fH 5 y)∧aj (nq (num 5 true) (ld x.2) (Q,nV d T W)) fun o=>o.1=dZ ks xs∧aj (num 5 false (ka x.2) o.2.2) fun r=>(∀p∈o.2.1++r.2.1,T.contains p.1=true∨st.aa p.1=none)∧K ⟨put (some d) r.1 (gP W st.vars),bF (o.2.1++r.2.1) (eX T W st.aa)⟩
def xB (Γ:bW) (d f:Nat) (ks:List Nat) (xs:List AV) (T Q W:List Nat) (K:St→Prop) (st:St):Prop:=Q.Nodup∧aj (Bh st.aa (eX T T st.aa) T ks xs) fun ys=>xG Γ d f ks xs T Q W K st ys
def xW (Γ:bW) (d f:Nat) (ks:List Nat) (xs:List AV) (T Q:List Nat) (K:St→Prop) (st:St):Prop:=T.Nodup∧(∀t∈Q,t∈T)∧xB Γ d f ks xs T Q (T.filter fun t=>!Q.contains t) K st
def stepG (Γ:bW) (d:Option Nat) (f:FuncId) (xs:List AV) (ks:Option (List Nat)) (K:St→Prop) (st:St):Prop:=aj d fun d=>au xs∧aj ks fun ks=>xW Γ d f ks (xs.map strip) (eI st.aa ks (xs.map strip)) ((dZ ks (xs.map strip)).flatMap qZ) K st
def lO (P:Program) (Γ:bW) (i:AI) (f:FuncId) (s:Nat) (w:Bool) (o:Option (Nat×Nat)) (K:St→Prop) (st:St):Prop:=match o with|some (_,k)=>if k=996 then aj (bN (st.vars s) w) fun c=>if c=true then stepG Γ i.d f (i.xs.map (ev st.vars)) (je Γ f) K st else K ((bI.put (.ch false .ay)).on i.d st) else False|none=>gS (fa ((i.xs.map (ev st.vars)).map strip)) (HW (bN (st.vars s) w)) (aj (bN (st.vars s) w) fun c=>aj (fA st.aa ((i.xs.map (ev st.vars)).map strip)) fun ys=>aj (gt Γ f ys) fun x=>if Xg x.2=true then(if c=true then lF P Γ ⟨i.d,i.k,i.xs,none,[],none⟩ f K st else K ((bI.put (.ch false .ay)).on i.d st)) else cT P Γ i K st) (K ((bI.put (.ch false .ay)).on i.d st))
def Cu (P:Program) (Γ:bW) (i:AI) (f:FuncId) (s:Nat) (w:Bool) (K:St→Prop) (st:St):Prop:=lO P Γ i f s w (dz Γ f) K st
def eK (P:Program) (Γ:bW) (d:Option Nat) (f:FuncId) (ys:List AV) (o:Option (Nat×Nat)) (K:St→Prop) (st:St):Prop:=match o with|some (_,k)=>if k=996 then stepG Γ d f ys (je Γ f) K st else False|none=>cD P Γ d f ys st.aa fun e=>K (e.on d st)
def gW (P:Program) (Γ:bW) (d:Option Nat) (f:FuncId) (ys:List AV) (A:Prop) (c:Bool) (o:Option (Nat×Nat)) (K:St→Prop) (st:St):Prop:=match o with|some (_,k)=>if k=996 then(if c=true then A∧stepG Γ d f ys (je Γ f) K st else K ((bI.put (.ch false .ay)).on d st)) else False|none=>zJ Γ c f ys st.aa fun e=>(c=true→A)∧K (e.on d st)
def pL (P:Program) (Γ:bW) (d:Option Nat) (xs:List AV) (s:Nat) (w:Bool) (K:St→Prop) (st:St):Prop:=aj (bN (st.vars s) w) fun c=>aj (kO (xs.map strip)) fun x=>gM P x.1=true∧gW P Γ d x.1 x.2 (au xs) c (dz Γ x.1) K st
def fJ (P:Program) (Γ:bW) (d:Option Nat) (xs:List AV) (g:Option (Nat×Bool)) (K:St→Prop) (st:St):Prop:=match g with|none=>(au xs∧aj (kO (xs.map strip)) fun x=>gM P x.1=true∧eK P Γ d x.1 x.2 (dz Γ x.1) K st)|some (s,w)=>gS (fa (xs.map strip)) (HW (bN (st.vars s) w)) (pL P Γ d xs s w K st) (K ((bI.put (.ch false .ay)).on d st))
def kR:List AV→Bool|[]=>true|.pv _::l=>kR l|_=>false
def ldT (aa:Nat→Option AO):AV→Option Nat|.ptr t _=>(eQ (aa t)).bind fun cs=>if kR cs=true then some t else none|_=>none
def mZ (T:List Nat) (st:St):List Nat→Prop|[]=>True|s::l=>aj (ldT st.aa (st.vars s)) (fun t=>T.contains t=false)∧mZ T st l
def CH (ks:Option (List Nat)) (aa:Nat→Option AO) (xs:List AV):List Nat:=match ks with|some ks=>eI aa ks xs|none=>[]
def gQ (P:Program) (Γ:bW) (i:AI) (f:FuncId) (o:Option (Nat×Nat)) (K:St→Prop) (st:St):Prop:=match o with|some (p,k)=>if k=998 then i.un=[]∧kL P Γ i.d f (i.xs.map (ev st.vars)) p k K st else if k=996 then mZ (CH (je Γ f) st.aa ((i.xs.map (ev st.vars)).map strip)) st i.un∧stepG Γ i.d f (i.xs.map (ev st.vars)) (je Γ f) K st else False|none=>cT P Γ ⟨i.d,i.k,i.xs,i.g,[],none⟩ K st
def cI (P:Program) (Γ:bW) (i:AI) (K:St→Prop) (st:St):Prop:=match i.k,i.tg,i.g with|.call f,some 999999,none=>gQ P Γ i f (dz Γ f) K st|.kW,some 999999,none=>fJ P Γ i.d (i.xs.map (ev st.vars)) none K st|_,_,_=>cT P Γ i K st
def steps (P:Program) (Γ:bW) (is:List AI) (K:St→Prop) (st:St):Prop:=match is with|[]=>K st|i::is=>cI P Γ i (fun st'=>steps P Γ is K st') st
def gO (P:Program) (Γ:bW) (i:AI) (f:FuncId) (o:Option (Nat×Nat)) (K:St→Prop) (st:St):Prop:=match o with|some (p,k)=>if k=997 then zZ P Γ i.d f (i.xs.map (ev st.vars)) p K st else if k=996 then stepG Γ i.d f (i.xs.map (ev st.vars)) (je Γ f) K st else kL P Γ i.d f (i.xs.map (ev st.vars)) p k K st|none=>lF P Γ i f K st
def AJ (aa:Nat→Option AO) (e:TypeId) (zs:List Value):AV→Option (Nat×AO)|.own t=>(cO (aa t)).bind fun r=>if r.1=e then some (t,.arr e (List.replicate r.2.length (zs.map rD))) else none|.sub t e1 lo hi=>(cO (aa t)).bind fun r=>if r.1=e∧e1=e then some (t,.arr e (r.2.take lo++List.replicate (hi-lo) (zs.map rD)++r.2.drop hi)) else none|_=>none
def nU (d:Option Nat) (e:TypeId) (sz:Nat) (zs:List Value) (xs:List AV) (K:St→Prop) (st:St):Prop:=au xs∧aj ((xs.map strip).head?) fun X=>aj (AJ st.aa e zs X) fun r=>K ((bI.vK r.1 r.2).on d st)
def ck (P:Program) (Γ:bW) (i:AI) (K:St→Prop) (st:St):Prop:=match i.g with|none=>cT P Γ i K st|some (s,w)=>gS (fa ((i.xs.map (ev st.vars)).map strip)) (HW (bN (st.vars s) w)) (cT P Γ i K st) (K ((bI.put (.ch false .ay)).on i.d st))
def ym:Option AO→Option (List (PV×AV))|some (.map es)=>some es|_=>none
def qK (d:Option Nat) (xs ys:List AV) (K:St→Prop) (st:St):Prop:=match ys with|[.pv (.int .u64 a),.pv (.int .u64 b),.pv (.int .u64 c)]=>au xs∧(0≤a∧0≤b∧0≤c∧c≤1)∧K ⟨put d (.aQ [.pv (.int .u64 ((a+b+c)%18446744073709551616)),.pv (.int .u64 ((a+b+c)/18446744073709551616))]) st.vars,st.aa⟩|_=>False
def lV (d:Option Nat) (e:TypeId) (bytes:Nat) (zs:List Value) (xs ys:List AV) (K:St→Prop) (st:St):Prop:=match ys with|[.pv .nil,.pv (.int .i64 n)]=>aj d fun d=>au xs∧(0≤n∧n≤140737488355328∧n.toNat*bytes≤140737488355328)∧st.aa d=none∧K ⟨put (some d) (.own d) st.vars,bF [(d,.arr e (List.replicate n.toNat (zs.map rD)))] st.aa⟩|_=>False
def Az (d:Option Nat) (e:TypeId) (bytes:Nat) (zs:List Value) (xs ys:List AV) (K:St→Prop) (st:St):Prop:=match ys with|[.pv (.int _ n),.pv (.int _ c)]=>aj d fun d=>au xs∧(c=n∧0≤n∧n≤140737488355328∧n.toNat*bytes≤140737488355328)∧st.aa d=none∧K ⟨put (some d) (.own d) st.vars,bF [(d,.arr e (List.replicate n.toNat (zs.map rD)))] st.aa⟩|_=>False
def yb (d:Option Nat) (e:TypeId) (xs ys:List AV) (K:St→Prop) (st:St):Prop:=aj d fun d=>au xs∧fG ys=true∧st.aa d=none∧K ⟨put (some d) (.own d) st.vars,bF [(d,.rws e ys)] st.aa⟩
def pA (d:Option Nat) (e:TypeId) (sz:Nat) (xs ys:List AV) (K:St→Prop) (st:St):Prop:=aj d fun d=>au xs∧aj (rowsOf ys) fun rows=>(∀r∈rows,r.length=sz)∧st.aa d=none∧K ⟨put (some d) (.own d) st.vars,bF [(d,.arr e rows)] st.aa⟩
def sW:List AV→Option (Nat×Nat)|[]=>none|c::l=>match c with|.own q=>some (0,q)|_=>(sW l).map fun r=>(r.1+1,r.2)
def vF (d:Option Nat) (X Y:AV) (xs:List AV) (K:St→Prop) (st:St):Prop:=match X,Y with|.aX t e i o,.own q=>au xs∧aj (cO (st.aa t)) fun r=>(r.1=e∧o=0)∧(0≤i∧i<r.2.length∧(rowAt r.2 i).length=1)∧K ⟨put d .ay st.vars,aL t (.rws e ((r.2.map fun x=>AV.pv (x.getD 0 .nil)).set i.toNat (.own q))) st.aa⟩|_,_=>False
def sN (d:Option Nat) (X:AV) (xs:List AV) (K:St→Prop) (st:St):Prop:=match X with|.own t=>au xs∧aj (T9 (st.aa t)) fun r=>aj (sW r.2) fun j=>aj (cO (st.aa j.2)) fun s=>aj (eM (r.2.set j.1 (.pv (.ro s.2)))) fun ps=>K ⟨put d (.own t) (Hg j.2 s.1 s.2 st.vars),aL t (.arr r.1 (ps.map fun p=>[p])) (fI j.2 st.aa)⟩|_=>False
def DI:Option AO→Option (List (PV×PV)×Option (PV×PV))|some (.nk rem cur)=>some (rem,cur)|_=>none
def lB (k v:PV):List (PV×PV)→List (PV×PV)|[]=>[(k,v)]|e::l=>if mU k e.1=true then(k,v)::l else e::lB k v l
def pT (k:PV):List (PV×PV)→List (PV×PV)|[]=>[]|e::l=>if mU k e.1=true then l else e::pT k l
def ud:AV→Option Bool
 |.ptr _ _|.aX _ _ _ _|.rp _|.pv (.pt _)=>some false|.pv (.val v)=>match v with|.pointer none=>some true|_=>none
 |_=>none
def qy (d:Option Nat) (s:Nat) (X Y Z:AV) (xs:List AV) (K:St→Prop) (st:St):Prop:=match X,Y,Z with|.own t,.pv k,.pv v=>au xs∧aj (rl (st.aa t)) fun es=>dk k=s∧fC s es∧K ⟨put d .ay st.vars,aL t (.gY (lB k v es)) st.aa⟩|_,_,_=>False
def ES (aa:Nat→Option AO):AV→Option (List (PV×PV))|.own t=>rl (aa t)|.pv (.mv es)=>some es|_=>none
def vT (d:Option Nat) (s:Nat) (z:Value) (ok:Bool) (X Y:AV) (xs:List AV) (K:St→Prop) (st:St):Prop:=match Y with|.pv k=>au xs∧aj (ES st.aa X) fun es=>z.oneCell'=true∧dk k=s∧fC s es∧K ⟨put d (xX z ok (lf k es)) st.vars,st.aa⟩|_=>False
def vr (d:Option Nat) (s:Nat) (X Y:AV) (xs:List AV) (K:St→Prop) (st:St):Prop:=match X,Y with|.own t,.pv k=>au xs∧aj (rl (st.aa t)) fun es=>dk k=s∧fC s es∧K ⟨put d .ay st.vars,aL t (.gY (pT k es)) st.aa⟩|_,_=>False
def wC (d:Option Nat) (X:AV) (xs:List AV) (K:St→Prop) (st:St):Prop:=match X with|.pv (.mv es)=>aj d fun d=>au xs∧st.aa d=none∧K ⟨put (some d) (.ptr d 0) st.vars,bF [(d,.nk es none)] st.aa⟩|_=>False
def vf (d:Option Nat) (X:AV) (xs:List AV) (K:St→Prop) (st:St):Prop:=match X with|.ptr t 0=>au xs∧aj (DI (st.aa t)) fun r=>(r.1=[]→K ⟨put d (.aQ [.pv (.bool false)]) st.vars,st.aa⟩)∧∀(e:PV×PV) (l m:List (PV×PV)),r.1=l++e::m→K ⟨put d (.aQ [.pv (.bool true),.pv e.1,.pv e.2]) st.vars,aL t (.nk (l++m) (some e)) st.aa⟩|_=>False
def wx (d:Option Nat) (X:AV) (xs:List AV) (K:St→Prop) (st:St):Prop:=match X with|.ptr t 0=>au xs∧aj (DI (st.aa t)) fun r=>aj r.2 fun e=>K ⟨put d (.aQ [.pv e.1,.pv e.2]) st.vars,st.aa⟩|_=>False
def sU (d:Option Nat) (x:XK) (xs ys:List AV) (K:St→Prop) (st:St):Prop:=match x,ys with|.Tr,[X,Y]=>vF d X Y xs K st|.DJ,[X]=>sN d X xs K st|.YO,[]=>aj d fun d=>st.aa d=none∧K ⟨put (some d) (.own d) st.vars,bF [(d,.gY [])] st.aa⟩|.RH s,[X,Y,Z]=>qy d s X Y (pG Z) xs K st|.EN s z ok,[X,Y]=>vT d s z ok X Y xs K st|.dlv s,[X,Y]=>vr d s X Y xs K st|.Er ne,[X]=>au xs∧aj (ud X) fun b=>K ⟨put d (.pv (.bool (b !=ne))) st.vars,st.aa⟩|.Xu,[X]=>wC d X xs K st|.nxt,[X]=>vf d X xs K st|.Zr,[X]=>wx d X xs K st|.mL e sz,ys=>pA d e sz xs ys K st|_,_=>False
def aW (d:Option Nat) (x:XK) (xs:List AV) (K:St→Prop) (st:St):Prop:=match x,xs.map strip with|.Yg,[]=>aj d fun d=>st.aa d=none∧K ⟨put (some d) (.own d) st.vars,bF [(d,.map [])] st.aa⟩|.FY s,[.own t,.pv k,v]=>au xs∧aj (ym (st.aa t)) fun es=>dk k=s∧jz s es∧dS v=true∧K ⟨put d .ay st.vars,aL t (.map (kT k v es)) st.aa⟩|.Gs s z ok,[.own t,.pv k]=>au xs∧aj (ym (st.aa t)) fun es=>dk k=s∧jz s es∧K ⟨put d (if ok=true then .aQ [(getM k es).getD (Hh z),.pv (.bool (getM k es).isSome)] else(getM k es).getD (Hh z)) st.vars,st.aa⟩|.yq,ys=>qK d xs ys K st|.wN ne,[X]=>au xs∧aj (fk st.aa X) fun rows=>∀b:Bool,(rows≠[]→b=false)→K ⟨put d (.pv (.bool (if ne=true then !b else b))) st.vars,st.aa⟩|.GJ,[.pv .nil]=>au xs∧K ⟨put d (.pv (.int .i64 0)) st.vars,st.aa⟩|.Ej e sz bytes zs,ys=>lV d e bytes zs xs ys K st|.DH e,ys=>yb d e xs ys K st|.Rt e bytes zs,ys=>Az d e bytes zs xs ys K st|.Gs s z ok,[.pv (.mp ks),.pv k]=>au xs∧u7 z=true∧dk k=s∧(∀x∈ks,dk x=s)∧K ⟨put d (if ok=true then .aQ [.agg [],.pv (.bool (ks.any (mU k)))] else .agg []) st.vars,st.aa⟩|.mark,[.own t]=>au xs∧aj (cO (st.aa t)) fun r=>r.2≠[]∧K ⟨put d (.pv (.ro r.2)) (Hg t r.1 r.2 st.vars),fI t st.aa⟩|x,ys=>sU d x xs ys K st
def zW (d:Option Nat) (s t:Nat) (k v:AV) (xs:List AV) (K:St→Prop) (st:St):Prop:=match k with|.pv k=>au xs∧aj (ym (st.aa t)) fun es=>dk k=s∧jz s es∧dS v=true∧K ⟨put d .ay st.vars,aL t (.map (kT k v es)) st.aa⟩|_=>False
def T8 (d:Option Nat) (s t:Nat) (z:Value) (ok:Bool) (k:AV) (xs:List AV) (K:St→Prop) (st:St):Prop:=match k with|.pv k=>au xs∧aj (ym (st.aa t)) fun es=>dk k=s∧jz s es∧K ⟨put d (if ok=true then .aQ [(getM k es).getD (Hh z),.pv (.bool (getM k es).isSome)] else(getM k es).getD (Hh z)) st.vars,st.aa⟩|_=>False
def B9 (d:Option Nat) (x:AV) (xs:List AV) (K:St→Prop) (st:St):Prop:=match x with|.own t=>au xs∧aj (cO (st.aa t)) fun r=>r.2≠[]∧K ⟨put d (.pv (.ro r.2)) (Hg t r.1 r.2 st.vars),fI t st.aa⟩|_=>False
def ub (d:Option Nat) (s:Nat) (ks:List PV) (z:Value) (ok:Bool) (k:AV) (xs:List AV) (K:St→Prop) (st:St):Prop:=match k with|.pv k=>au xs∧u7 z=true∧dk k=s∧(∀x∈ks,dk x=s)∧K ⟨put d (if ok=true then .aQ [.agg [],.pv (.bool (ks.any (mU k)))] else .agg []) st.vars,st.aa⟩|_=>False
def lx (d:Option Nat) (x:AV) (xs:List AV) (K:St→Prop) (st:St):Prop:=match x with|.pv .nil=>au xs∧K ⟨put d (.pv (.int .i64 0)) st.vars,st.aa⟩|_=>False
def F2 (d:Option Nat) (ne:Bool) (rows:List (List PV)) (K:St→Prop) (st:St):Prop:=∀b:Bool,(rows≠[]→b=false)→K ⟨put d (.pv (.bool (if ne=true then !b else b))) st.vars,st.aa⟩
def AP (i:AI) (x:XK) (s:Nat) (w:Bool) (K:St→Prop) (st:St):Prop:=aj (bN (st.vars s) w) fun c=>if c=true then aW i.d x (i.xs.map (ev st.vars)) K st else K ((bI.put (.ch false .ay)).on i.d st)
def shA (t:Nat) (rows:List (List PV)):AV→AV|.own s=>if s=t then .pv (.ro rows) else .own s|v=>kill t v
def Bl (t:Nat) (rows:List (List PV)) (f:Nat→AV):Nat→AV:=fun s=>shA t rows (f s)
def FZ (aa:Nat→Option AO) (e:TypeId):List AV→Option (Nat×List (List PV)×List (List PV))|[.own t,x]=>(cO (aa t)).bind fun r=>(cQ aa x).bind fun more=>if r.1=e then some (t,r.2,more) else none|_=>none
def ye (d:Option Nat) (e:TypeId) (sz bytes:Nat) (xs:List AV) (K:St→Prop) (st:St):Prop:=au xs∧aj (FZ st.aa e (xs.map strip)) fun r=>((r.2.1.length+r.2.2.length)*bytes≤140737488355328∧r.2.1.length+r.2.2.length≤maxLen∧(∀q∈r.2.2,q.length=sz))∧r.1%1000≠999∧K ⟨put d (.pv (.ro (r.2.1++r.2.2))) (Bl r.1 r.2.1 st.vars),fI r.1 st.aa⟩
def Tf (i:AI):Option (TypeId×Nat×Nat):=match i.k,i.tg,i.g with|.app e sz b,some 999998,none=>some (e,sz,b)|_,_,_=>none
def IS (x:XK) (i:AI) (st:St):St:=match x with|.RH _=>cF st ((i.xs.map (ev st.vars)).map strip)|_=>st
def jB (P:Program) (Γ:bW) (i:AI) (K:St→Prop) (st:St):Prop:=match i.k,i.g with|.ex x,none=>aW i.d x (i.xs.map (ev (IS x i st).vars)) K (IS x i st)|.ex x,some (s,w)=>AP i x s w K st|.rB _ _,_=>ck P Γ i K (cF st ((i.xs.map (ev st.vars)).map strip))|.Gg e sz zs,none=>nU i.d e sz zs (i.xs.map (ev st.vars)) K st|.call f,some (s,w)=>Cu P Γ i f s w K st|.kW,g=>fJ P Γ i.d (i.xs.map (ev st.vars)) g K st|.call f,none=>gO P Γ i f (dz Γ f) K st|.gF _,_=>cT P Γ i K (tO (i.d.getD 0) st)|_,_=>ck P Γ i K st
def b7 (P:Program) (Γ:bW) (i:AI) (K:St→Prop) (st:St):Prop:=match Tf i with|some r=>if oG ((i.xs.map (ev st.vars)).map strip)=true then ye i.d r.1 r.2.1 r.2.2 (i.xs.map (ev st.vars)) K st else jB P Γ i K st|none=>jB P Γ i K st
def cR (P:Program) (Γ:bW) (is:List AI) (K:St→Prop) (st:St):Prop:=match is with|[]=>K st|i::is=>b7 P Γ i (fun st'=>cR P Γ is K st') st
def jm (bB:List Nat) (f:Nat→AV):Nat→AV:=fun s=>if bB.contains s then f s else .ay
structure Fr where
 vs:List (Nat×AV)
 os:List (Nat×AO)
def Fr.st (f:Fr):St:=⟨look f.vs,ab f.os⟩
def jP (os:List (Nat×AO)):AV→Prop|.own t|.ptr t _|.aX t _ _ _|.sub t _ _ _=>aE (ab os) t|.pv _|.rp _|.ay=>True|_=>False
def gG (os:List (Nat×AO)):List AV→Prop|[]=>True|c::cs=>jP os c∧gG os cs
def lP (os:List (Nat×AO)):AV→Prop|.agg cs|.bJ _ cs|.aQ cs=>gG os cs|.ch _ v=>jP os v|v=>jP os v
def vR (os:List (Nat×AO)):AO→Prop|.box cs=>gG os cs|.arr _ _=>True|.map _=>True|.gY _=>True|.nk _ _=>True|.rws _ cs=>gG os cs
def OL (ad:List Nat) (st:St) (os:List (Nat×AO)):List (Nat×AV)→Prop|[]=>True|(s,v)::l=>(v=.ay∨(st.vars s=v∧lP os v)∨(∃t,v=.own t∧ad.contains t=true∧aE (ab os) t∧st.vars s=.pv .nil))∧OL ad st os l
def OU (P:Program) (ad:List Nat) (st:St) (os:List (Nat×AO)):List (Nat×AO)→Prop|[]=>True|(t,o)::l=>((st.aa t=some o∧ad.contains t=false∧vR os o)∨(∃e,o=.arr e []∧ad.contains t=true∧st.aa t=none∧(P.info? e).isSome=true∧t%1000≠999))∧OU P ad st os l
def wk (P:Program) (ad:List Nat) (st:St) (f:Fr):Prop:=OL ad st f.os f.vs∧OU P ad st f.os f.os
def cL (st:St):List (Nat×Option (Option Nat))→(List AV→Prop)→Prop|[],C=>C []|(t,none)::l,C=>cL st l fun vs=>C (st.vars t::vs)|(a,some n)::l,C=>aj (ak (.load n) [st.vars a] st.aa) fun x=>x.1∧cL st l fun vs=>C (x.2::vs)
def bU:List AV→AV|[v]=>v|vs=>.aQ vs
def uT (P:Program) (aa:Nat→Option AO) (v r:AV):Prop:=match r with|.fr e rows=>(∃t,v=.own t∧aa t=some (.arr e rows))∨(v=.pv .nil∧rows=[]∧(P.info? e).isSome=true)∨(∃t hi rs,v=.sub t e 0 hi∧aa t=some (.arr e rs)∧rows=rs.take hi)|r=>v=r∧jh r=true
def yJ (P:Program) (aa:Nat→Option AO):List AV→List AV→Prop|[],[]=>True|c::cs,r::rs=>uT P aa c r∧yJ P aa cs rs|_,_=>False
def Dk (P:Program) (aa:Nat→Option AO) (v r:AV):Prop:=match v,r with|.agg cs,.agg rs=>yJ P aa cs rs|.agg _,_=>False|v,r=>uT P aa v r
def yX (P:Program) (aa:Nat→Option AO):List AV→List AV→Prop|[],[]=>True|c::cs,r::rs=>Dk P aa c r∧yX P aa cs rs|_,_=>False
def fz (P:Program) (aa:Nat→Option AO) (v r:AV):Prop:=match v,r with|.aQ vs,.aQ rs=>vs.length≤1000∧yX P aa vs rs|.aQ _,_=>False|v,r=>Dk P aa v r
def rF (j:Nat):List AV→List (Nat×Nat)|[]=>[]|.own t::cs=>(1000*j,t)::rF (j+1) cs|.sub t _ _ _::cs=>(1000*j,t)::rF (j+1) cs|_::cs=>rF (j+1) cs
def M5:AV→List (Nat×Nat)|.agg cs=>rF 0 cs|.own t=>[(0,t)]|.sub t _ _ _=>[(0,t)]|_=>[]
def Bp (i:Nat):List AV→List (Nat×Nat)|[]=>[]|v::vs=>(M5 v).map (fun x=>(x.1+i,x.2))++Bp (i+1) vs
def pl:AV→List (Nat×Nat)|.aQ vs=>Bp 0 vs|v=>M5 v
def kq:List (Nat×Nat)→Prop|[]=>True|x::l=>(∀y∈l,y.2≠x.2)∧kq l
def oa:AV→AV→List Nat|.own t,.pv (.ro _)=>[t]|.pv .nil,.pv (.ro _)=>[999996]|.own t,.pv (.mv _)=>[t+1000000000000000]|_,_=>[]
def vx:List AV→List AV→List Nat|c::cs,r::rs=>oa c r++vx cs rs|_,_=>[]
def BY:AV→AV→List Nat|.agg cs,.agg rs=>vx cs rs|v,r=>oa v r
def vB:List AV→List AV→List Nat|c::cs,r::rs=>BY c r++vB cs rs|_,_=>[]
def mR:AV→AV→List Nat|.aQ vs,.aQ rs=>vB vs rs|v,r=>BY v r
def vg (P:Program) (rs:List (Nat×Option (Option Nat))) (r:AV) (st:St):Prop:=cL st rs fun vs=>fz P st.aa (bU vs) r∧kq (pl (bU vs))
def Ends (P:Program) (rs:List (Nat×Option (Option Nat))) (r:AV) (st:St):Prop:=cL st rs fun vs=>vg P rs r (cB (mR (bU vs) r) st)
def ma (aa:Nat→Option AO) (l:List (Nat×Nat)):List (Nat×AO)→Prop|[]=>True|x::hout=>aa x.1=some x.2∧(∀y∈l,y.2≠x.1)∧ma aa l hout
def nI (P:Program) (rs:List (Nat×Option (Option Nat))) (r:AV) (hout:List (Nat×AO)) (st:St):Prop:=cL st rs fun vs=>fz P st.aa (bU vs) r∧kq (pl (bU vs))∧ma st.aa (pl (bU vs)) hout
def mV (P:Program) (rs:List (Nat×Option (Option Nat))) (r:AV) (hout:List (Nat×AO)) (st:St):Prop:=cL st rs fun vs=>nI P rs r hout (cB (mR (bU vs) r) st)
def zm (K:St→Prop):Exit→St→Prop|.ret,st=>K st|_,_=>False
def oq (id:Nat) (K:St→Prop) (J:Exit→St→Prop):Exit→St→Prop|.exit id',st=>if id'=id then K st else J (.exit id') st|e,st=>J e st
def hZ (P:Program) (Γ:bW):AC→(St→Prop)→(Exit→St→Prop)→St→Prop|.skip,K,_,st=>K st|.G6 is d bB,K,_,st=>if d then steps P Γ is (fun st'=>K ⟨jm bB st'.vars,st'.aa⟩) st else cR P Γ is (fun st'=>K ⟨jm bB st'.vars,st'.aa⟩) st|.seq a b,K,J,st=>hZ P Γ a (fun st'=>hZ P Γ b K J st') J st|.cond x a b,K,J,st=>aj (jd (ev st.vars x)) fun c=>(c=true→hZ P Γ a K J st)∧(c=false→hZ P Γ b K J st)|.block id a,K,J,st=>hZ P Γ a K (oq id K J) st|.loop a,_,J,st=>∃(ι:Type) (F:ι→Fr) (μ:ι→Nat) (ad shs:List Nat) (i0:ι),wk P ad (cB shs st) (F i0)∧∀i,hZ P Γ a (fun st'=>∃i',wk P [] (cB shs st') (F i')∧μ i'<μ i) J (F i).st|.exit id,_,J,st=>J (.exit id) st|.ret,_,J,st=>J .ret st
def mM (P:Program) (t:TypeId):Option (Option Nat):=match P.underlying t with|some (.struct _)|some (.array _ _)=>(P.info? t).map fun i=>some i.size|some _=>some none|none=>none
def cw (P:Program) (t:TypeId):Option Nat:=(P.info? t).map (·.size)
def dD (P:Program) (t:TypeId):Option (List Value):=(P.info? t).bind fun i=>i.zero.bind fun z=>if z.cells.size=i.size then some z.cells.toList else none
def fb:Operand→Bool|.const (.slice none 0 0)=>true|_=>false
def pC (P:Program) (fs:Array Field):List (Nat×Operand)→Option (List (Nat×Nat))|[]=>some []|(i,_)::l=>match fs[i]?,pC P fs l with|some f,some r=>(cw P f.type).map fun n=>(f.offset,n)::r|_,_=>none
def mE (P:Program) (f:TypeId→Option (List Nat)):Nat→List Field→Option (List Nat)|_,[]=>some []|off,fl::fs=>if fl.name≠ "_" ∧fl.offset=off then(f fl.type).bind fun a=>if cw P fl.type=some a.length then(mE P f (off+a.length) fs).map (a++·) else none else none
def jy (P:Program):Nat→TypeId→Option (List Nat)|0,_=>none|n+1,t=>match P.underlying t with|some .bool=>some [0]|some .string=>some [1]|some (.int k)=>some [2+mK k]|some (.struct fs)=>if t<P.types.size∧Dy P t=false then mE P (jy P n) 0 fs.toList else none|_=>none
def c9 (P:Program) (b:Builtin) (xs:List Operand) (ts:List TypeId):Option (AK×List Operand):=match b,xs,ts with
 |.len,[x],[t]=>match P.underlying t with|some .string=>some (.uS,[x])|some (.slice _)=>some (.len,[x])|_=>none
 |.append,[s,x],[t,t']=>match P.underlying t,P.underlying t' with
  |some (.slice e),some .string=>match P.info? e with|some i=>if i.size=1∧(dD P e).isSome=true then some (.app e i.size i.bytes,[s,x]) else none|none=>none
  |some (.slice e),some (.slice _)=>match P.info? e with|some i=>if 0<i.size∧(dD P e).isSome=true then some (.app e i.size i.bytes,[s,x]) else none|none=>none
  |_,_=>none
 |.min,[x,y],[_,_]=>some (.DP false,[x,y])|.max,[x,y],[_,_]=>some (.DP true,[x,y])|.clear,[x],[t]=>match P.underlying t with
  |some (.slice e)=>match cw P e,dD P e with|some sz,some zs=>if 0<sz∧zs.all (·.oneCell')=true then some (.Gg e sz zs,[x]) else none|_,_=>none
  |_=>none
 |_,_,_=>none
def gl (P:Program) (c:Call):Option (AK×List Operand):=match c.callee with|.builtin b=>c9 P b c.args.toList c.argTypes.toList|.value (.func f)=>if gM P f then some (.call f,c.args.toList) else none|.value x=>some (.kW,x::c.args.toList)|.invoke _ _=>none
def jT (P:Program) (t:TypeId):Option Nat:=match P.underlying t with|some .bool=>some 0|some .string=>some 1|some (.int k)=>some (2+mK k)|_=>none
def zeroV (P:Program) (t:TypeId):Option Value:=(P.info? t).bind (·.zero)
def ji (P:Program) (t:TypeId):Option (TypeId×TypeId):=match P.underlying t with|some (.map k e)=>some (k,e)|_=>none
def xE (P:Program) (f:FuncId):Bool:=match P.funcs[f]? with|some fn=>fn.name== "math/bits.Add64" &&fn.body.isNone&&(Extern.findNext fn).isNone|none=>false
def xq (P:Program) (b:Builtin) (xs:List Operand) (ts:List TypeId):Option (XK×List Operand):=match b,xs,ts with
 |.cap,[x],[t]=>match P.underlying t with|some (.slice _)=>some (.GJ,[x])|_=>none
 |.append,[s,x],[t,t']=>match P.underlying t,P.underlying t' with
  |some (.slice e),some (.int _)=>match P.info? e,dD P e with|some i,some zs=>if 0<i.size∧zs.all (·.oneCell')=true then some (.Ej e i.size i.bytes zs,[s,x]) else none|_,_=>none
  |_,_=>none
 |_,_,_=>none
def rwsT (P:Program) (e:TypeId):Bool:=match(P.info? e).map (fun i:TypeInfo=>i.desc),P.underlying e with|some (TypeDesc.named _ _),some (TypeDesc.slice _)=>true|_,_=>false
def Tg (P:Program) (e:TypeId):Bool:=match P.underlying e with|some (.int .u64)=>true|_=>false
def CP (P:Program) (o:Oper):Bool:=match o.op,o.dst with
 |.move (.tmp 8),some 193|.assign (.tmp 8),some 193=>match P.underlying o.type with
  |some (.slice e)=>match P.underlying e with|some (.slice _)=>true|_=>false
  |_=>false
 |.store t (.tmp 160) (.tmp 159),none=>match P.underlying t with|some (.slice _)=>true|_=>false
 |_,_=>false
def uv (P:Program) (o:Oper):Option (XK×List Operand):=match o.op with
 |.makeMap t none=>match ji P t with|some _=>some (.Yg,[])|none=>none
 |.mapUpdate t m k x|.insert t m k x=>match ji P t with
  |some (kt,_)=>match jT P kt with|some s=>some (.FY s,[m,k,x])|none=>none
  |none=>none
 |.lookup t m k ok=>match ji P t with
  |some (kt,et)=>match jT P kt,zeroV P et with|some s,some z=>some (.Gs s z ok,[m,k])|_,_=>none
  |none=>none
 |.buildSlice t n ps=>match P.underlying t with
  |some (.slice e)=>match cw P e,dD P e with|some sz,some zs=>if Tg P e=true∧ps.toList.map (·.1)=List.range n∧n*sz≤2^24∧zs.length=sz∧0<sz then some (.mL e sz,ps.toList.map (·.2)) else if sz=1∧ps.toList.map (·.1)=List.range n∧n*sz≤2^24∧zs.length=sz then some (.DH e,ps.toList.map (·.2)) else none|_,_=>none
  |_=>none
 |.convert src dst x=>if src=dst then match P.underlying src with
  |some (.slice e)=>match P.underlying e with|some (.int .u8)=>some (.mark,[x])|_=>none
  |_=>none else none|.makeSlice t l c=>match P.underlying t with
  |some (.slice e)=>match P.info? e,dD P e with|some i,some zs=>if 0<i.size∧zs.all (·.oneCell')=true then some (.Rt e i.bytes zs,[l,c]) else none|_,_=>none
  |_=>none
 |.binOp op t x y _=>match P.underlying t with|some (.slice _)=>if fb y then match op with|.eql=>some (.wN false,[x])|.neq=>some (.wN true,[x])|_=>none else none|_=>none
 |.call c=>match c.callee with|.value (.func f)=>if xE P f=true then some (.yq,c.args.toList) else none|.builtin b=>xq P b c.args.toList c.argTypes.toList|_=>none
 |.move x=>if CP P o=true then some (.DJ,[x]) else none|.assign x=>if CP P o=true then some (.DJ,[x]) else none|.store t x y=>if CP P o=true∧cw P t=some 1 then some (.Tr,[x,y]) else none|_=>none
def Ht (P:Program) (t:TypeId):Bool:=match P.underlying t with|some .bool|some .string|some (.int _)|some (.func _ _ _)|some (.slice _)=>true|_=>false
def yI (P:Program) (o:Oper):Option (XK×List Operand):=match o.op with
 |.makeMap t none=>match ji P t with|some (_,et)=>if Ht P et=true then some (.YO,[]) else none|none=>none
 |.mapUpdate t m k x|.insert t m k x=>match ji P t with
  |some (kt,et)=>match jT P kt with|some s=>if Ht P et=true then some (.RH s,[m,k,x]) else none|none=>none
  |none=>none
 |.lookup t m k ok=>match ji P t with
  |some (kt,et)=>match jT P kt,zeroV P et with|some s,some z=>if Ht P et=true then some (.EN s z ok,[m,k]) else none|_,_=>none
  |none=>none
 |.binOp op t x y _=>match P.underlying t with
  |some (.pointer _)=>match y with
   |.const (.pointer none)=>match op with|.eql=>some (.Er false,[x])|.neq=>some (.Er true,[x])|_=>none
   |_=>none
  |_=>none
 |.call c=>match c.callee,c.args.toList,c.argTypes.toList with
  |.builtin .delete,[m,k],[t,kt']=>match ji P t with
   |some (kt,et)=>match jT P kt with|some s=>if Ht P et=true∧kt'=kt then some (.dlv s,[m,k]) else none|none=>none
   |none=>none
  |_,_,_=>none
 |.range t x=>match ji P t with|some _=>some (.Xu,[x])|none=>none
 |.next x false=>some (.nxt,[x])|.entry x=>some (.Zr,[x])|_=>none
def ju (P:Program) (o:Oper):XK×List Operand:=match yI P o with|some r=>r|none=>(uv P o).getD (.dead,[])
def fZ (P:Program) (o:Oper):Option (AK×List Operand):=match o.op with
 |.move x|.assign x=>if fb x then match P.underlying o.type with|some (.slice e)=>if(P.info? e).isSome then some (.gF e,[]) else none|_=>none else some (.nK,[x])|.pick c a b=>some (.pick,[c,a,b])|.alloc e=>(dD P e).map fun zs=>(.alloc zs,[])|.box _ x=>some (.box,[x])|.build t ps=>match dD P t,P.underlying t with|some zs,some (.struct fs)=>if fs.toList.all (fun f=>(P.info? f.type).isSome)=false then none else(pC P fs ps.toList).map fun l=>(.G5 zs l,ps.toList.map (·.2))|_,_=>none
 |.buildSlice t n ps=>match P.underlying t with
  |some (.slice e)=>match cw P e,dD P e with|some sz,some zs=>if(rwsT P e||Tg P e)=false∧ps.toList.map (·.1)=List.range n∧n*sz≤2^24∧zs.length=sz∧0<sz then some (.rB e sz,ps.toList.map (·.2)) else none|_,_=>none
  |_=>none
 |.load t a=>(mM P t).map fun n=>(.load n,[a])|.store t a v=>match mM P t with|some none=>if cw P t=some 1 then some (.store none,[a,v]) else none|some (some n)=>some (.store (some n),[a,v])|none=>none
 |.binOp op t x y _=>match P.underlying t with
  |some .bool=>match op with|.eql=>some (.beq false,[x,y])|.neq=>some (.beq true,[x,y])|_=>none
  |some (.int _)|some .string=>some (.bin op,[x,y])|some (.struct _)=>match jy P 8 t with
   |some ks=>if ks.all (·<99)=true then match op with|.eql=>some (.eqs false ks,[x,y])|.neq=>some (.eqs true ks,[x,y])|_=>none else none|none=>none
  |_=>none
 |.unOp .not _ x=>some (.not,[x])|.unOp .neg _ x=>some (.neg,[x])|.convert src dst x=>match P.underlying src,P.underlying dst with
  |some (.int _),some (.int k)=>some (.Bm k,[x])|some .string,some .string=>some (.Cw,[x])|some (.slice e),some .string=>match P.underlying e with|some (.int .u8)=>some (.rC,[x])|_=>none
  |some .string,some (.slice e)=>match P.underlying e with|some (.int .u8)=>some (.og e,[x])|_=>none
  |_,_=>none
 |.fieldAddr s x i=>match P.underlying s with
  |some (.struct fs)=>match fs[i]? with
   |some f=>match cw P f.type with|some (_+1)=>some (.rJ f.offset,[x])|_=>none
   |none=>none
  |_=>none
 |.field s x i=>match P.underlying s with
  |some (.struct fs)=>match fs[i]? with|some f=>(mM P f.type).map fun n=>(.F9 f.offset n,[x])|none=>none
  |_=>none
 |.indexAddr t x i=>match P.underlying t with|some (.slice e)=>(cw P e).map fun sz=>(.Df e sz,[x,i])|some (.array n e)=>(cw P e).map fun sz=>(.G9 n sz,[x,i])|_=>none
 |.index t x i=>match P.underlying t with|some .string=>some (.uV,[x,i])|_=>none
 |.slice t x lo hi none=>match P.underlying t with|some .string=>some (.HH lo.isSome hi.isSome,[x]++lo.toList++hi.toList)|some (.slice e)=>(cw P e).map fun sz=>(.AX sz lo.isSome hi.isSome,[x]++lo.toList++hi.toList)|_=>none
 |.extract x i=>some (.ext i,[x])|.nilCheck x=>some (.DN,[x])|.makeFunc (.func f) first caps=>match first.toList with|[]=>some (.Hl f,caps.toList)|_=>none
 |.call c=>gl P c|_=>none
def gE (P:Program) (o:Oper):Option (AK×List Operand):=match if CP P o=true then none else fZ P o with|some r=>some r|none=>some (.ex (ju P o).1,(ju P o).2)
theorem dL {P:Program}{o:Oper}{k:AK}{xs:List Operand} (h:gE P o=some (k,xs)):fZ P o=some (k,xs)∨∃x,k=.ex x∧ju P o=(x,xs):=by
 unfold gE at h;split at h
 ·rename_i r hr;split at hr;·cases hr
  ·rw[hr];exact .inl h
 ·cases h;exact .inr ⟨_,rfl,rfl⟩
def makes:AK→Bool|.gF _|.box|.alloc _|.rB _ _|.app _ _ _|.call _|.kW|.rC|.og _|.ex .Yg|.ex .YO|.ex .Xu|.ex (.Ej _ _ _ _)|.ex (.DH _)|.ex (.Rt _ _ _)=>true|_=>false
def writes:AK→Bool|.store _|.app _ _ _=>true|_=>false
def aJ:AK→Bool|.nK|.bin _|.beq _|.not|.neg|.Bm _|.Cw=>true|_=>false
def tmpsOf:List Operand→List Nat|[]=>[]|.tmp t::l=>t::tmpsOf l|_::l=>tmpsOf l
def cN (i:AI):List Nat:=tmpsOf i.xs++(match i.g with|some (s,_)=>[s]|none=>[])
def xO:Option Nat→Bool|some _=>true|none=>false
def cf (i:AI):List Nat:=if makes i.k then i.d.toList else if writes i.k then i.tg.toList else[]
def isApp:AK→Bool|.app _ _ _=>true|_=>false
def VK:AK→Bool|.alloc _=>true|_=>false
def xT:AK→Bool|.load _|.rJ _=>true|_=>false
def A6 (x y:AI):Bool:=isApp x.k&&x.g.isNone&&y.g.isNone&&y.tg.isNone&&(match x.d,y.d with|some d,some d'=>!(cN y).contains d&&!(cN x).contains d'&&d !=d'&&decide (d<1000)&&decide (d'<1000)&&((VK y.k&&y.xs.isEmpty)||(xT y.k&&y.un.contains d&&y.un.all fun t=>x.un.contains (t+1000)))|_,_=>false)
def A0 (x y:AI):Bool:=(match x.d with|some d=>!(cN y).contains d&&y.d !=some d&&y.tg !=some d&&decide (d<1000)|none=>true)&&(match y.d with|some d=>!(cN x).contains d&&x.tg !=some d&&decide (d<1000)|none=>true)&&((aJ y.k&&y.un.isEmpty)||(!isApp x.k&&(!writes x.k||xO x.tg)&&(cf x).all fun t=>decide (t<1000)&&y.un.contains t))&&((aJ x.k&&x.un.isEmpty)||(!isApp y.k&&(!writes y.k||xO y.tg)&&(cf y).all fun t=>decide (t<1000)&&x.un.contains t))&&(aJ x.k||aJ y.k||!writes x.k||!writes y.k||x.tg !=y.tg)
def sS (x y:AI):Bool:=A0 x y||A6 x y
def GX (P:Program) (N:Nat) (ops:Array Oper) (o:Oper):Option AI:=match gE P o with|none=>none|some (k,xs)=>let okd:=match o.dst with|some d=>decide (d<N∧d<1000)|none=>!makes k&&(k matches .store _||k matches .Gg _ _ _||k matches .ex _)
 if !okd then none else match o.guard with|none=>some ⟨o.dst,k,xs,none,[],none⟩|some (j,want)=>match(ops[j]?).bind (·.dst) with|some s=>some ⟨o.dst,k,xs,some (s,want),[],none⟩|none=>none
def sA (P:Program) (N:Nat) (ops:Array Oper):List Oper→Option (List AI)|[]=>some []|o::l=>match GX P N ops o,sA P N ops l with|some i,some is=>some (i::is)|_,_=>none
def aft (e:Nat) (l:List Nat) (n:Nat):Nat:=if e<n then l.getD (n-1-e) 0 else 0
def GZ (n:Nat) (acc:List Nat) (o:Oper):Nat:=o.after.toList.foldl (fun s e=>if Region.binds .any e then s|||2^e.on|||aft e.on acc n else s) 0
def Ae:List Oper→Nat→List Nat→List Nat|[],_,acc=>acc|o::l,n,acc=>match GZ n acc o with|0=>Ae l (n+1) (0::acc)|m+1=>Ae l (n+1) ((m+1)::acc)
def L3 (ops:Array Oper):List Nat:=(Ae ops.toList 0 []).reverse
theorem MD (e:Nat) (acc:Array Nat):aft e acc.toList.reverse acc.size=acc.getD e 0:=by
 unfold aft;split;·rename_i h;rw[List.getD_eq_getElem?_getD,List.getElem?_reverse (by simp;omega)];simp[h,show acc.size-1-(acc.size-1-e)=e by omega]
 ·simp_all
theorem CS:∀(l:List Oper) (acc:Array Nat),(Ae l acc.size acc.toList.reverse).reverse=(l.foldl (fun acc o=>acc.push (o.after.foldl (fun s e=>if Region.binds .any e then s|||2^e.on|||acc.getD e.on 0 else s) 0)) acc).toList
 |[],acc=>by simp[Ae]|o::l,acc=>by
  have hv:GZ acc.size acc.toList.reverse o=o.after.foldl (fun s e=>if Region.binds .any e then s|||2^e.on|||acc.getD e.on 0 else s) 0:=by simp only[GZ,MD,Array.foldl_toList]
  have ih:=CS l (acc.push (GZ acc.size acc.toList.reverse o));have e:Ae (o::l) acc.size acc.toList.reverse=Ae l (acc.size+1) (GZ acc.size acc.toList.reverse o::acc.toList.reverse):=by rw[Ae];split<;>rename_i h<;>rw[h]
  rw[e,List.foldl_cons,←hv,←ih];simp
theorem LK (ops:Array Oper):(Region.before ops).toList=L3 ops:=by unfold L3 Region.before;rw[←Array.foldl_toList];exact(CS ops.toList #[]).symm
theorem IB (ops:Array Oper) (j:Nat):(L3 ops).getD j 0=(Region.before ops).getD j 0:=by rw[←LK];simp[Array.getD_eq_getD_getElem?]
def bits (ops:Array Oper) (i j:Nat):Bool:=((L3 ops).getD j 0).testBit i
theorem GO (ops:Array Oper) (i j:Nat):bits ops i j=((Region.before ops).getD j 0).testBit i:=by unfold bits;rw[IB]
def lM (ops:Array Oper) (i j:Nat):Bool:=!bits ops i j||match ops[j]? with|some o=>o.after.toList.any fun e=>Region.binds .any e&&(e.on==i||(decide (i<e.on)&&decide (e.on<j)&&bits ops i e.on))|none=>false
def jU (ops:Array Oper) (j:Nat):Bool:=match ops[j]? with|some o=>o.after.toList.all fun e=>!Region.binds .any e||decide (e.on<j)|none=>true
def Gw (ops:Array Oper) (is:Array AI):Bool:=(List.range ops.size).all fun j=>jU ops j&&(List.range j).all fun i=>lM ops i j&&(bits ops i j||match is[i]?,is[j]? with|some x,some y=>sS x y|_,_=>false)
def unOf (ops:Array Oper) (is:Array AI) (j:Nat):List Nat:=let b:=L3 ops
 (List.range is.size).filterMap fun i=>if i=j||(b.getD j 0).testBit i||(b.getD i 0).testBit j then none else match is[i]?,is[j]? with|some x,some y=>if aJ y.k then none else(cf x).head?|_,_=>none
def unA (ops:Array Oper) (is:Array AI) (j:Nat):List Nat:=let b:=L3 ops
 match is[j]? with|some y=>if isApp y.k then(List.range is.size).flatMap fun i=>if i=j||(b.getD j 0).testBit i||(b.getD i 0).testBit j then[] else match is[i]? with|some x=>if xT x.k then x.un.map (·+1000) else[]|none=>[] else[]|none=>[]
def jb (ops:Array Oper) (is:Array AI) (j:Nat):List AI→List AI|[]=>[]|i::l=>{i with un:=i.un++unA ops is j}::jb ops is (j+1) l
def qq (ops:Array Oper) (is:Array AI) (j:Nat):List AI→List AI|[]=>[]|i::l=>{i with un:=unOf ops is j}::qq ops is (j+1) l
def tgOf (is:List AI) (i:AI):Option Nat:=match i.k,i.xs with|.store _,.tmp s::_=>if is.any fun x=>x.d==some s&&(match x.k with|.alloc _|.box=>true|_=>false) then some s else none|_,_=>none
def uZ (is:List AI):List AI→List AI|[]=>[]|i::l=>{i with tg:=tgOf is i}::uZ is l
def Tn (i:AI):Option Nat:=match i.k,i.xs with|.store _,.tmp s::_=>some s|_,_=>none
def qd:List AI→List AI|[]=>[]|i::l=>{i with tg:=Tn i}::qd l
def UC (x:AI):Operand→Bool|.const _=>true|.tmp s=>x.d !=some s|_=>false
def JK (y x:AI):Bool:=match y.k,y.xs,y.d,y.g,y.tg,y.un with|.nK,[o],some dd,none,none,[]=>UC x o&&!(cN x).contains dd&&x.d !=some dd|_,_,_,_,_,_=>false
def ldB (y x:AI):Bool:=match y.k,y.xs,y.d,y.g,y.tg,x.k with|.load _,[.tmp s],some dd,none,none,.call _=>x.d !=some s&&!(cN x).contains dd&&x.d !=some dd&&dd !=s|_,_,_,_,_,_=>false
def A3 (y:AI):List Nat:=match y.k,y.xs with|.load _,[.tmp s]=>[s]|_,_=>[]
def EU:AK→Bool|.call _|.kW=>true|_=>false
def jF (ops:Array Oper) (is:Array AI) (j:Nat):List Nat:=(List.range j).flatMap fun q=>if bits ops q j then[] else match is[q]? with|some y=>A3 y|none=>[]
def zr (ops:Array Oper) (is:Array AI) (j:Nat) (x:AI):Bool:=EU x.k&&x.g.isNone&&x.tg.isNone&&x.un.isEmpty&&(List.range is.size).all fun q=>q==j||(if q<j then bits ops q j else bits ops j q)||(match is[q]? with|some y=>(JK y x||(decide (q<j)&&ldB y x))&&(match y.d with|some dd=>!(jF ops is j).contains dd|none=>true)|none=>false)
def Aj (ops:Array Oper) (is:Array AI) (j:Nat):List AI→List AI|[]=>[]|i::l=>(if zr ops is j i then{i with tg:=some 999999,un:=jF ops is j} else i)::Aj ops is (j+1) l
def yV (b:Nat):List AI→Bool|[]=>false|i::l=>(match i.k,i.xs with|.nK,[.tmp s]=>s==b|_,_=>false)||(if i.d==some b then false else yV b l)
def KN (s:Nat):List AI→Option Nat|[]=>none|i::l=>if i.d==some s then(match i.k,i.xs with|.nK,[.tmp b]=>some b|_,_=>none) else KN s l
def apsB (i:AI) (pre l:List AI):Bool:=match i.k,i.xs,i.g with
 |.app _ _ _,.tmp s::_,none=>match KN s pre with|some b=>yV b l|none=>false
 |_,_,_=>false
def uL (pre:List AI):List AI→List AI|[]=>[]|i::l=>(if apsB i pre l then{i with tg:=some 999998} else i)::uL (i::pre) l
def drawn (ops:Array Oper) (js:List AI):Option AC:=let hs:=qq ops js.toArray 0 js
 let ks:=jb ops hs.toArray 0 hs
 if Gw ops ks.toArray&&ks.all (fun i=>i.tg !=some 999999) then some (.G6 (Aj ops ks.toArray 0 ks) true []) else none
def mo (ops:Array Oper) (js:List AI):List Nat:=let b:=L3 ops
 let f:=fun j=>(List.range ops.size).any fun i=>(match js[i]? with|some x=>isApp x.k|none=>false)&&(i==j||(b.getD i 0).testBit j)
 (List.range ops.size).filter f++(List.range ops.size).filter fun j=>!f j
def H2 (ops:Array Oper) (ks:Array AI):List Nat→List Nat→Bool|_,[]=>true|pre,j::l=>(match ops[j]? with|some o=>o.after.toList.all fun e=>!Region.binds .any e||pre.contains e.on|none=>false)&&(!pre.contains j)&&(l.all fun b=>(decide (j<b)&&bits ops j b)||match ks[j]?,ks[b]? with|some x,some y=>sS x y|_,_=>false)&&H2 ops ks (j::pre) l
def wU (ops:Array Oper) (js:List AI) (l:List Nat):Option AC:=let hs:=qq ops js.toArray 0 js
 let ks:=jb ops hs.toArray 0 hs
 if l.length=ops.size∧H2 ops ks.toArray [] l=true∧((List.range ops.size).all fun j=>jU ops j&&(List.range j).all fun i=>lM ops i j)=true∧(l.all fun j=>decide (j<ops.size))=true∧((List.range ops.size).all fun j=>l.contains j)=true∧ks.all (fun i=>i.tg !=some 999999)=true then some (.G6 (l.filterMap fun j=>ks[j]?) true []) else none
def comp (P:Program) (N:Nat):Code→Option AC
 |.skip=>some .skip|.region _ ops draw=>match sA P N ops ops.toList with|some is=>if draw then((drawn ops (uZ is is)).or (drawn ops (qd is))).or ((wU ops (uZ is is) (mo ops is)).or (wU ops (qd is) (mo ops is))) else some (.G6 (uL [] is) false [])|none=>none
 |.seq a b=>match comp P N a,comp P N b with|some x,some y=>some (.seq x y)|_,_=>none
 |.cond c a b=>match comp P N a,comp P N b with|some x,some y=>some (.cond c x y)|_,_=>none
 |.block id a=>(comp P N a).map (.block id)|.loop a=>(comp P N a).map .loop|.exit id=>some (.exit id)|.ret=>some .ret|.scope a=>comp P N a|.label _=>some .skip|_=>none
def Ci (w:List Nat):List AI→List Nat|[]=>[]|i::l=>(cN i).filter (fun s=>!w.contains s)++Ci (i.d.toList++w) l
def vQ:AC→List Nat|.G6 is _ _=>Ci [] is|.seq a b=>vQ a++vQ b|.cond x a b=>tmpsOf [x]++vQ a++vQ b|.block _ a|.loop a=>vQ a|_=>[]
def fY (bB:List Nat):AC→AC|.G6 is d _=>.G6 is d bB|.seq a b=>.seq (fY bB a) (fY bB b)|.cond x a b=>.cond x (fY bB a) (fY bB b)|.block id a=>.block id (fY bB a)|.loop a=>.loop (fY bB a)|c=>c
def ie (P:Program):List ResultVar→Option (List (Nat×Option (Option Nat)))|[]=>some []|.tmp t::l=>(ie P l).map ((t,none)::·)|.cell a t::l=>(mM P t).bind fun n=>(ie P l).map ((a,some n)::·)
structure AFn where
 n:Nat
 params:Nat
 res:List (Nat×Option (Option Nat))
 body:AC
def xy (P:Program) (f:FuncId) (bB:List Nat):Option AFn:=match P.funcs[f]? with
 |some fn=>match fn.body,ie P fn.results.toList with|some c,some rs=>(comp P fn.ntmps c).bind fun b=>if fn.ntmps≤998 then some ⟨fn.ntmps,fn.params.size+fn.nfree,rs,fY bB b⟩ else none|_,_=>none
 |none=>none
def Tc (n:Nat):List Nat→List Nat|[]=>[n]|m::l=>if n<m then n::m::l else if n=m then m::l else m::Tc n l
def Xo (P:Program) (f:FuncId):List Nat:=match P.funcs[f]? with
 |some fn=>match fn.body,ie P fn.results.toList with
  |some c,some rs=>match comp P fn.ntmps c with|some b=>(vQ b++rs.map (·.1)).foldr Tc []|none=>[]
  |_,_=>[]
 |none=>[]
abbrev Zz (P:Program) (f:FuncId):Option AFn:=xy P f (Xo P f)
end Go.Proofs.YtlmkcmfmfahcfaaGreat.Ab
