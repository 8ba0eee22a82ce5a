/- An abstract machine for the code of one function: slices, strings and structs as plain data; what each operation makes of them. Definitions alone. -/
import Derived.WalkKit
import Derived.WalkSpells
import Derived.WalkLawsBesides
import Derived.MapKept
import Derived.Maps.RangeRun
set_option linter.unusedVariables false
set_option linter.unusedSimpArgs false
set_option linter.unnecessarySimpa false
set_option maxHeartbeats 40000000
set_option maxRecDepth 100000
namespace Go.Proofs.YtlmkcmfmfahcfaaGreat.Ab
open Go Go.RowKit
inductive PV where|int (k:IntKind) (n:Int)|bool (b:Bool)|str (l:List UInt8)|nil|ro (rows:List (List PV))|mp (ks:List PV)|mv (es:List (PV×PV))|pt (cs:List PV)|val (v:Value)
inductive AV where|pv (p:PV)|own (t:Nat)|ptr (t off:Nat)|aR (t:Nat) (e:TypeId) (i:Int) (off:Nat)|sub (t:Nat) (e:TypeId) (lo hi:Nat)|rp (cs:List PV)|agg (cs:List AV)|aL (vs:List AV)|bA (f:FuncId) (caps:List AV)|fr (e:TypeId) (rows:List (List PV))|bx (cs:List AV)|mf (es:List (PV×PV))|b5 (g:Bool) (v:AV)|ar
inductive AO where|box (cs:List AV)|arr (e:TypeId) (rows:List (List PV))|map (es:List (PV×AV))|rws (e:TypeId) (cs:List AV)|gr (es:List (PV×PV))|lU (rem:List (PV×PV)) (cur:Option (PV×PV))
structure St where
 vars:Nat→AV
 aa:Nat→Option AO
def pT:Value→PV|.int k n=>.int k n|.bool b=>.bool b|.string s=>.str s.data.toList|.slice none 0 0=>.nil|v=>.val v
def cv (v:Value):AV:=if v.oneCell'=true then .pv (pT v) else .ar
def ev (vars:Nat→AV):Operand→AV|.tmp t=>vars t|.const v=>cv v|.func f=>.bA f []|.global _=>.ar
def put (d:Option Nat) (v:AV) (f:Nat→AV):Nat→AV:=match d with|some d=>fun s=>if s=d then v else f s|none=>f
def aH (t:Nat) (o:AO) (f:Nat→Option AO):Nat→Option AO:=fun s=>if s=t then some o else f s
def look (l:List (Nat×AV)) (s:Nat):AV:=match l with|[]=>.ar|(t,v)::l=>if s=t then v else look l s
def ab (l:List (Nat×AO)) (s:Nat):Option AO:=match l with|[]=>none|(t,v)::l=>if s=t then some v else ab l s
def asks:AV→Prop|.b5 g v=>g=true∧asks v|_=>True
def strip:AV→AV|.b5 _ v=>strip v|v=>v
def an:List AV→Prop|[]=>True|v::l=>asks v∧an l
inductive XK where|L8|Bt (s:Nat)|Bn (s:Nat) (z:Value) (ok:Bool)|dead|pj (ne:Bool)|uO|vl|wR (e:TypeId) (sz bytes:Nat) (zs:List Value)|Bj (e:TypeId)|NT (e:TypeId) (bytes:Nat) (zs:List Value)|mark|Rp|Be|Le|pO (s:Nat)|Bf (s:Nat) (z:Value) (ok:Bool)|gX (e:TypeId) (sz:Nat)|VA (s:Nat)|Cc (ne:Bool)|Ss|Xm|V4
inductive AK where|aB|pick|bin (op:BinOp)|beq (ne:Bool)|not|neg|iO (k:IntKind)|Ag|len|mS|pK|FN (lo hi:Bool)|DW (off:Nat) (n:Option Nat)|aD (off:Nat)|load (n:Option Nat)|aY (e:TypeId) (sz:Nat)|Eu (n sz:Nat)|dG|lH (sz:Nat) (lo hi:Bool)|ext (i:Nat)|eR (zs:List Value) (parts:List (Nat×Nat))|zV (f:FuncId)|bf (e:TypeId)|box|alloc (zs:List Value)|fx (e:TypeId) (sz:Nat)|call (f:FuncId)|gp|BL (mx:Bool)|eqs (ne:Bool) (ks:List Nat)|store (n:Option Nat)|app (e:TypeId) (sz bytes:Nat)|lE|lF (e:TypeId)|AM (e:TypeId) (sz:Nat) (zs:List Value)|ex (x:XK)
structure AI where
 d:Option Nat
 k:AK
 xs:List Operand
 g:Option (Nat×Bool)
 un:List Nat
 tg:Option Nat
inductive AC where|skip|ag (is:List AI) (drawn:Bool) (b8:List Nat)|seq (a b:AC)|cond (x:Operand) (a b:AC)|block (id:Nat) (a:AC)|loop (a:AC)|exit (id:Nat)|ret
def ke (op:BinOp) (k:IntKind) (a b:Int):PV:=.int k (k.wrap (match op with|.and=>(BitVec.ofInt k.bits a&&&BitVec.ofInt k.bits b).toNat|.or=>(BitVec.ofInt k.bits a|||BitVec.ofInt k.bits b).toNat|.xor=>(BitVec.ofInt k.bits a^^^BitVec.ofInt k.bits b).toNat|_=>(BitVec.ofInt k.bits a&&&~~~BitVec.ofInt k.bits b).toNat:Nat))
def dh (op:BinOp) (x y:PV):Option (Prop×PV):=match x,y with
 |.int k a,.int k' b=>match op with|.shl=>some (0≤b,.int k (k.wrap (a*2^(min b.toNat k.bits))))|.shr=>some (0≤b,.int k (a.fdiv (2^(min b.toNat k.bits))))|op=>if k=k' then match op with|.add=>some (True,.int k (k.wrap (a+b)))|.sub=>some (True,.int k (k.wrap (a-b)))|.mul=>some (True,.int k (k.wrap (a*b)))|.quo=>some (b≠0,.int k (k.wrap (a.tdiv b)))|.rem=>some (b≠0,.int k (a.tmod b))|.eql=>some (True,.bool (decide (a=b)))|.neq=>some (True,.bool (!decide (a=b)))|.lss=>some (True,.bool (decide (a<b)))|.leq=>some (True,.bool (decide (a≤b)))|.gtr=>some (True,.bool (decide (b<a)))|.geq=>some (True,.bool (decide (b≤a)))|op=>some (True,ke op k a b) else none
 |.str a,.str b=>match op with|.add=>some (a.length+b.length≤9223372036854775807,.str (a++b))|.eql=>some (True,.bool (decide (a=b)))|.neq=>some (True,.bool (!decide (a=b)))|.lss=>some (True,.bool (Op.bytesLess a b))|.leq=>some (True,.bool (Op.bytesLess a b||decide (a=b)))|.gtr=>some (True,.bool (!(Op.bytesLess a b||decide (a=b))))|.geq=>some (True,.bool (!Op.bytesLess a b))|_=>none
 |_,_=>none
def lC:IntKind→Nat|.i8=>0|.i16=>1|.i32=>2|.i64=>3|.u8=>4|.u16=>5|.u32=>6|.u64=>7
def cX:PV→Nat|.bool _=>0|.str _=>1|.int k _=>2+lC k|_=>99
def lJ:PV→PV→Bool|.int _ a,.int _ b=>decide (a=b)|.str a,.str b=>decide (a=b)|.bool a,.bool b=>decide (a=b)|_,_=>false
def ir:List PV→List PV→Bool|[],[]=>true|a::l,b::m=>lJ a b&&ir l m|_,_=>false
def rowAt (rows:List (List PV)) (i:Int):List PV:=rows.getD i.toNat []
def bytesRow (l:List UInt8):List (List PV):=l.map fun c=>[.int .u8 (c.toNat:Int)]
def BG:AV→Option PV|.pv p=>some p|_=>none
def dZ:List AV→Option (List PV)|[]=>some []|v::l=>(BG v).bind fun p=>(dZ l).map (p::·)
def rowOf:AV→Option (List PV)|.agg cs=>dZ cs|.pv p=>some [p]|_=>none
def rowsOf:List AV→Option (List (List PV))|[]=>some []|v::l=>(rowOf v).bind fun p=>(rowsOf l).map (p::·)
def cellsOf:AV→List AV|.agg cs=>cs|v=>[v]
def dJ:AV→Bool|.pv (.val v)=>v.oneCell'|.pv _|.own _|.ptr _ _|.aR _ _ _ _|.sub _ _ _ _|.rp _|.bA _ _=>true|_=>false
def eV:List AV→Bool|[]=>true|c::cs=>dJ c&&eV cs
def kq:AV→Bool|.agg _=>true|v=>dJ v
def nS:AV→AV|.bA f []=>.pv (.val (.func (.func f) #[] #[]))|v=>v
def lay (cs:List AV) (off:Nat) (ps:List AV):List AV:=cs.take off++ps++cs.drop (off+ps.length)
def jC (cs:List AV):List (Nat×Nat)→List AV→Option (List AV)|[],[]=>some cs|(off,n)::ps,x::xs=>if kq x=true∧(cellsOf x).length=n∧off+n≤cs.length then jC (lay cs off ((cellsOf x).map nS)) ps xs else none|_,_=>none
def bounds (n:Nat) (lo hi:Bool) (xs:List AV):Option (Int×Int):=match lo,hi,xs with|false,false,[]=>some (0,n)|true,false,[.pv (.int _ l)]=>some (l,n)|false,true,[.pv (.int _ h)]=>some (0,h)|true,true,[.pv (.int _ l),.pv (.int _ h)]=>some (l,h)|_,_,_=>none
def cut {α:Type} (l:List α) (lo hi:Int):List α:=(l.take hi.toNat).drop lo.toNat
def cE:Option AO→Option (TypeId×List (List PV))|some (.arr e rows)=>some (e,rows)|_=>none
def QL:Option AO→Option (TypeId×List AV)|some (.rws e cs)=>some (e,cs)|_=>none
def zj:Option AO→Option (TypeId×Nat)|some (.arr e rows)=>some (e,rows.length)|some (.rws e cs)=>some (e,cs.length)|_=>none
def eg:Option AO→Option (List AV)|some (.box cs)=>some cs|_=>none
def cB (aa:Nat→Option AO):AV→Option (List (List PV))|.pv .nil=>some []|.pv (.ro rows)=>some rows|.pv (.str l)=>some (bytesRow l)|.own t=>(cE (aa t)).map (·.2)|.sub t e lo hi=>(cE (aa t)).bind fun r=>if r.1=e then some ((r.2.take hi).drop lo) else none|_=>none
def ez (aa:Nat→Option AO):AV→Option (List (List PV))|.pv .nil=>some []|.pv (.ro rows)=>some rows|.own t=>(cE (aa t)).map (·.2)|.sub t e lo hi=>(cE (aa t)).bind fun r=>if r.1=e then some ((r.2.take hi).drop lo) else none|_=>none
def byteOf:List PV→Option UInt8|[.int .u8 n]=>if 0≤n∧n<256 then some (UInt8.ofNat n.toNat) else none|_=>none
def bytesOf:List (List PV)→Option (List UInt8)|[]=>some []|r::l=>(byteOf r).bind fun c=>(bytesOf l).map (c::·)
def j6:AV→Bool|.agg _|.aL _|.b5 _ _|.ar=>false|_=>true
def ka (e:TypeId) (i:Int) (o:Nat):Option AO→Option (Prop×AV)|some (.arr e' rows)=>if e'=e then some (0≤i∧i<rows.length∧o<(rowAt rows i).length,.pv ((rowAt rows i).getD o (.int .u8 0))) else none|some (.rws e' cs)=>if e'=e∧o=0 then(cs[i.toNat]?).bind fun c=>if j6 c=true then some (0≤i,c) else none else none|_=>none
def j4 (k:PV):List (PV×PV)→Option PV|[]=>none|e::l=>if lJ k e.1=true then some e.2 else j4 k l
def eT (s:Nat) (es:List (PV×PV)):Prop:=∀e∈es,cX e.1=s
def vG (z:Value) (ok:Bool) (o:Option PV):AV:=if ok=true then .aL [.pv (o.getD (pT z)),.pv (.bool o.isSome)] else .pv (o.getD (pT z))
def ak (k:AK) (xs:List AV) (aa:Nat→Option AO):Option (Prop×AV):=match k,xs with|.bin op,[.pv x,.pv y]=>(dh op x y).map fun r=>(r.1,.pv r.2)|.beq ne,[.pv (.bool x),.pv (.bool y)]=>some (True,.pv (.bool (if ne then x !=y else x==y)))|.not,[.pv (.bool b)]=>some (True,.pv (.bool (!b)))|.neg,[.pv (.int k n)]=>some (True,.pv (.int k (k.wrap (0-n))))|.iO k,[.pv (.int _ n)]=>some (True,.pv (.int k (k.wrap n)))|.Ag,[.pv (.str l)]=>some (True,.pv (.str l))|.mS,[.pv (.str l)]=>some (True,.pv (.int .i64 l.length))|.len,[.pv .nil]=>some (True,.pv (.int .i64 0))|.len,[.pv (.ro rows)]=>some (True,.pv (.int .i64 rows.length))|.len,[.own t]=>(zj (aa t)).map fun r=>(True,.pv (.int .i64 r.2))|.len,[.sub t _ lo hi]=>(cE (aa t)).map fun _=>(True,.pv (.int .i64 ((hi:Int)-(lo:Int))))|.pK,[.pv (.str l),.pv (.int _ i)]=>some (0≤i∧i<l.length,.pv (.int .u8 ((l.getD i.toNat 0).toNat:Int)))|.FN lo hi,.pv (.str l)::bs=>(bounds l.length lo hi bs).map fun b:Int×Int=>(0≤b.1∧b.1≤b.2∧b.2≤(l.length:Int),.pv (.str (cut l b.1 b.2)))|.DW off none,[.agg cs]=>(cs[off]?).map fun c=>(True,c)|.DW off (some n),[.agg cs]=>if off+n≤cs.length then some (True,.agg ((cs.drop off).take n)) else none|.aD off,[.ptr t o]=>some (True,.ptr t (o+off))|.aD off,[.aR t e i o]=>some (True,.aR t e i (o+off))|.aD off,[.rp cs]=>some (True,.rp (cs.drop off))|.Eu n sz,[.ptr t o,.pv (.int _ i)]=>some (0≤i∧i<(n:Int),.ptr t (o+i.toNat*sz))|.Eu n sz,[.rp cs,.pv (.int _ i)]=>some (0≤i∧i<(n:Int),.rp (cs.drop (i.toNat*sz)))|.dG,[.ptr t o]=>some (True,.ptr t o)|.dG,[.aR t e i o]=>some (True,.aR t e i o)|.dG,[.rp cs]=>some (True,.rp cs)|.load none,[.ptr t o]=>(eg (aa t)).bind fun cs=>(cs[o]?).bind fun c=>if j6 c=true then some (True,c) else none|.load (some n),[.ptr t o]=>(eg (aa t)).bind fun cs=>if o+n≤cs.length then some (True,.agg ((cs.drop o).take n)) else none|.load none,[.aR t e i o]=>ka e i o (aa t)|.load (some n),[.aR t e i o]=>(cE (aa t)).bind fun r=>if r.1=e∧o+n≤(rowAt r.2 i).length then some (0≤i∧i<r.2.length,.agg ((((rowAt r.2 i).drop o).take n).map .pv)) else none|.load none,[.rp (c::_)]=>some (True,.pv c)|.load none,[.rp []]=>some (False,.pv (.int .u64 0))|.load (some n),[.rp cs]=>if n≤cs.length then some (True,.agg ((cs.take n).map .pv)) else none|.aY _ sz,[.pv (.ro rows),.pv (.int _ i)]=>some (0≤i∧i<rows.length∧(rowAt rows i).length=sz,.rp (rowAt rows i))|.aY e _,[.own t,.pv (.int _ i)]=>(zj (aa t)).bind fun r=>if r.1=e then some (0≤i∧i<r.2,.aR t e i 0) else none|.aY e _,[.sub t e1 lo hi,.pv (.int _ i)]=>(cE (aa t)).bind fun r=>if r.1=e∧e1=e then some (0≤i∧i<(hi:Int)-(lo:Int),.aR t e ((lo:Int)+i) 0) else none|.lH sz lo hi,.own t::bs=>(cE (aa t)).bind fun r=>(bounds r.2.length lo hi bs).map fun b:Int×Int=>(0≤b.1∧b.1≤b.2∧b.2≤(r.2.length:Int)∧(∀x∈r.2,x.length=sz),.sub t r.1 b.1.toNat b.2.toNat)|.lH sz lo hi,.sub t e l h::bs=>(cE (aa t)).bind fun r=>if r.1=e then(bounds (h-l) lo hi bs).map fun b:Int×Int=>(0≤b.1∧b.1≤b.2∧b.2≤((h-l:Nat):Int)∧(∀x∈r.2,x.length=sz),.sub t e (l+b.1.toNat) (l+b.2.toNat)) else none|.lH sz lo hi,.pv (.ro rows)::bs=>(bounds rows.length lo hi bs).map fun b:Int×Int=>(0≤b.1∧b.1≤b.2∧b.2≤(rows.length:Int)∧(∀r∈rows,r.length=sz),.pv (.ro (cut rows b.1 b.2)))|.lH _ lo hi,.pv .nil::bs=>(bounds 0 lo hi bs).map fun b:Int×Int=>(b.1=0∧b.2=0,.pv .nil)|.ext i,[.aL vs]=>(vs[i]?).map fun v=>(True,v)|.eR zs ps,xs=>(jC (zs.map cv) ps xs).map fun cs=>(True,.agg cs)|.zV f,xs=>some (True,.bA f xs)|.BL mx,[.pv (.int k a),.pv (.int k' b)]=>if k=k' then some (True,.pv (.int k (if mx then max a b else min a b))) else none|.eqs ne ks,[.agg xs,.agg ys]=>(dZ xs).bind fun a=>(dZ ys).map fun b=>(a.map cX=ks∧b.map cX=ks,.pv (.bool (if ne then !ir a b else ir a b)))|.ex (.Bf s z ok),[.pv (.mv es),.pv k]=>some (z.oneCell'=true∧cX k=s∧eT s es,vG z ok (j4 k es))|.ex (.gX _ sz),xs=>(rowsOf xs).map fun rows=>(∀r∈rows,r.length=sz,.pv (.ro rows))|.lE,[x]=>(ez aa x).bind fun rows=>(bytesOf rows).map fun l=>(True,.pv (.str l))|.lF _,[.pv (.str l)]=>some (True,.pv (.ro (bytesRow l)))|_,_=>none
def b9:Value→Option Nat|.slice (some a) _ _=>some a.block|.pointer (some a)=>some a.block|.map (some b)=>some b|_=>none
def bP:PV→Value|.int k n=>.int k n|.str l=>.string ⟨l.toArray⟩|.bool b=>.bool b|_=>undef
inductive de (S:Nat→Prop) (w:World):Value→PV→Prop|int (k:IntKind) (n:Int):de S w (.int k n) (.int k n)|bool (b:Bool):de S w (.bool b) (.bool b)|str (l:List UInt8):de S w (.string ⟨l.toArray⟩) (.str l)|nil:de S w (.slice none 0 0) .nil|val (v:Value):v.oneCell'=true→de S w v (.val v)|mp (b:Nat) (us:Array MapEntry) (c:Nat) (ks:List PV):S b→w.heap[b]?=some (.map us c)→us.toList.length=ks.length→(∀(i:Nat) (k:PV) (u:MapEntry),ks[i]?=some k→us.toList[i]?=some u→u.key=bP k∧u.val=.agg #[])→de S w (.map (some b)) (.mp ks)|mv (b:Nat) (us:Array MapEntry) (c:Nat) (es:List (PV×PV)):S b→w.heap[b]?=some (.map us c)→MapKept.Stamped us c→us.toList.length=es.length→(∀(i:Nat) (e:PV×PV) (u:MapEntry),es[i]?=some e→us.toList[i]?=some u→u.key=bP e.1∧cX e.1<99∧u.val.oneCell'=true)→(∀(i:Nat) (e:PV×PV) (u:MapEntry),es[i]?=some e→us.toList[i]?=some u→de S w u.val e.2)→de S w (.map (some b)) (.mv es)|pt (ad:Addr) (cs:List PV) (us:Nat→Value):S ad.block→(∀j,j<cs.length→w.cell? (ad.add j)=some (us j))→(∀(j:Nat) (p:PV),cs[j]?=some p→(us j).oneCell'=true)→(∀(j:Nat) (p:PV),cs[j]?=some p→de S w (us j) p)→de S w (.pointer (some ad)) (.pt cs)|vR (A:Option Addr) (c:Nat):de S w (.slice A 0 c) (.ro [])|ro (ad:Addr) (c:Nat) (rows:List (List PV)) (sz:Nat) (us:Nat→Nat→Value):S ad.block→rows.length≤c→(∀r,r∈rows→r.length=sz)→(∀i j,i<rows.length→j<sz→w.cell? (ad.add (i*sz+j))=some (us i j))→(∀(i j:Nat) (r:List PV) (p:PV),rows[i]?=some r→r[j]?=some p→(us i j).oneCell'=true)→(∀(i j:Nat) (r:List PV) (p:PV),rows[i]?=some r→r[j]?=some p→de S w (us i j) p)→de S w (.slice (some ad) rows.length c) (.ro rows)
inductive RV (P:Program) (S:Nat→Prop) (w:World) (β:Nat→Value) (D:Nat→Prop):Value→AV→Prop|pv (v:Value) (p:PV):de S w v p→RV P S w β D v (.pv p)|own (t:Nat):D t→RV P S w β D (β t) (.own t)|ptr (t o b:Nat):D t→β t=.pointer (some ⟨b,0,none⟩)→RV P S w β D (.pointer (some ⟨b,o,none⟩)) (.ptr t o)|aR (t:Nat) (e:TypeId) (i:Int) (o b n c:Nat) (inf:TypeInfo):D t→P.info? e=some inf→β t=.slice (some ⟨b,0,none⟩) n c→RV P S w β D (.pointer (some ⟨b,i.toNat*inf.size+o,none⟩)) (.aR t e i o)|sub (v:Value) (t:Nat) (e:TypeId) (lo hi:Nat) (inf:TypeInfo) (A A1:Option Addr) (n c:Nat):D t→P.info? e=some inf→β t=.slice A n c→lo≤hi→hi≤n→n≤c→(lo=0→A1=A)→(c≠lo→A1=A.map (·.add (lo*inf.size)))→v=.slice A1 (hi-lo) (c-lo)→RV P S w β D v (.sub t e lo hi)|rp (ad:Addr) (cs:List PV) (us:Nat→Value):S ad.block→(∀j,j<cs.length→w.cell? (ad.add j)=some (us j))→(∀(j:Nat) (p:PV),cs[j]?=some p→(us j).oneCell'=true)→(∀(j:Nat) (p:PV),cs[j]?=some p→de S w (us j) p)→RV P S w β D (.pointer (some ad)) (.rp cs)|agg (cs:List AV) (us:List Value):us.length=cs.length→(∀(i:Nat) (c:AV) (u:Value),cs[i]?=some c→us[i]?=some u→RV P S w β D u c)→RV P S w β D (.agg us.toArray) (.agg cs)|aL (vs:List AV) (us:List Value):us.length=vs.length→(∀(i:Nat) (c:AV) (u:Value),vs[i]?=some c→us[i]?=some u→RV P S w β D u c)→RV P S w β D (.tuple us.toArray) (.aL vs)|bA (f:FuncId) (cs:List AV) (us:List Value):us.length=cs.length→(∀(i:Nat) (c:AV) (u:Value),cs[i]?=some c→us[i]?=some u→RV P S w β D u c)→RV P S w β D (.func (.func f) #[] us.toArray) (.bA f cs)|b5 (g:Bool) (v:Value) (av:AV):(g=true→RV P S w β D v av)→(g=false→v=undef)→RV P S w β D v (.b5 g av)|ar (v:Value):RV P S w β D v .ar
def iN (s:Nat) (es:List (PV×AV)):Prop:=∀e∈es,cX e.1=s
def getM (k:PV):List (PV×AV)→Option AV|[]=>none|e::l=>if lJ k e.1=true then some e.2 else getM k l
def jZ (k:PV) (v:AV):List (PV×AV)→List (PV×AV)|[]=>[(k,v)]|e::l=>if lJ k e.1=true then(k,v)::l else e::jZ k v l
def ED:Value→AV|.agg cs=>.agg (cs.toList.map cv)|v=>cv v
def bd (P:Program) (S:Nat→Prop) (w:World) (β:Nat→Value) (D:Nat→Prop) (t:Nat):AO→Prop|.box cs=>∃b us ty,β t=.pointer (some ⟨b,0,none⟩)∧w.heap[b]?=some (.cells us ty (0,0))∧us.size=cs.length∧∀(i:Nat) (c:AV) (u:Value),cs[i]?=some c→us[i]?=some u→u.oneCell'=true∧RV P S w β D u c|.arr e rows=>∃inf us,P.info? e=some inf∧w.ownsRow 0 e inf.size (β t) rows.length us∧(∀r,r∈rows→r.length=inf.size)∧∀(i j:Nat) (r:List PV) (p:PV),rows[i]?=some r→r[j]?=some p→∃u,us[i*inf.size+j]?=some u∧u.oneCell'=true∧de S w u p|.map es=>∃(b:Nat) (us:Array MapEntry) (c:Nat),β t=.map (some b)∧w.heap[b]?=some (.map us c)∧us.toList.length=es.length∧∀(i:Nat) (e:PV×AV) (u:MapEntry),es[i]?=some e→us.toList[i]?=some u→u.key=bP e.1∧RV P S w β (fun _=>False) u.val e.2|.rws e cs=>∃inf us,P.info? e=some inf∧inf.size=1∧w.ownsRow 0 e inf.size (β t) cs.length us∧∀(i:Nat) (c:AV) (u:Value),cs[i]?=some c→us[i]?=some u→u.oneCell'=true∧RV P S w β D u c|.gr es=>∃(b:Nat) (us:Array MapEntry) (c:Nat),β t=.map (some b)∧w.heap[b]?=some (.map us c)∧MapKept.Stamped us c∧us.toList.length=es.length∧∀(i:Nat) (e:PV×PV) (u:MapEntry),es[i]?=some e→us.toList[i]?=some u→u.key=bP e.1∧cX e.1<99∧u.val.oneCell'=true∧de S w u.val e.2|.lU rem cur=>∃(r m:Nat) (us:Array MapEntry) (c:Nat) (seen:Array Nat),β t=.pointer (some ⟨r,0,none⟩)∧w.heap[r]?=some (.mapIter (some m) c seen c)∧S m∧w.heap[m]?=some (.map us c)∧MapKept.Stamped us c∧(leftOf us seen).toList.length=rem.length∧(∀(i:Nat) (e:PV×PV) (u:MapEntry),rem[i]?=some e→(leftOf us seen).toList[i]?=some u→u.key=bP e.1∧cX e.1<99∧u.val.oneCell'=true∧de S w u.val e.2)∧∀e,cur=some e→∃(u:MapEntry) (seen':Array Nat),seen=seen'.push u.born∧u∈us.toList∧u.key=bP e.1∧cX e.1<99∧u.val.oneCell'=true∧de S w u.val e.2
def ay {α:Type} (aa:Nat→Option α) (t:Nat):Prop:=∃o,aa t=some o
def live (β:Nat→Value) (aa:Nat→Option AO) (b:Nat):Prop:=∃t o,aa t=some o∧b9 (β t)=some b
def aN (S0:Nat→Prop) (n0:Nat) (β:Nat→Value) (aa:Nat→Option AO) (w:World) (b:Nat):Prop:=(S0 b∨n0≤b)∧b<w.heap.size∧¬live β aa b
structure Heap (P:Program) (S:Nat→Prop) (w:World) (β:Nat→Value) (aa:Nat→Option AO):Prop where
 holds:∀t o,aa t=some o→bd P S w β (ay aa) t o
 inj:∀t t' b,ay aa t→ay aa t'→b9 (β t)=some b→b9 (β t')=some b→t=t'
structure xB (L:Nat→Prop) (w w':World):Prop where
 os:w'.os=w.os
 tape:w'.tape=w.tape
 output:w'.output=w.output
 size:w.heap.size≤w'.heap.size
 block:∀b,b<w.heap.size→¬L b→w'.heap[b]?=w.heap[b]?
structure Rel (P:Program) (S0:Nat→Prop) (L:Nat→Prop) (B0:Nat→Value) (w0:World) (N:Nat) (st:St) (a:Act) (w:World) (β:Nat→Value):Prop where
 size:a.tmps.size=N
 defers:a.defers=[]
 vars:∀s,RV P (aN S0 w0.heap.size β st.aa w) w β (ay st.aa) (a.tmps.getD s undef) (st.vars s)
 heap:Heap P (aN S0 w0.heap.size β st.aa w) w β st.aa
 old:∀t b,ay st.aa t→b9 (β t)=some b→w0.heap.size≤b∨L b
 pV:N≤998
 sU:∀t,t%1000=999→ay st.aa t→β t=B0 t
 bM:xB L w0 w
def bQ:AV→Nat→Option AV|.agg cs,j=>cs[j]?|v,j=>if j=0 then some v else none
def cellAt:AV→Nat→Option AV|.aL vs,p=>(vs[p%1000]?).bind fun v=>bQ v (p/1000)|v,p=>if p%1000=0 then bQ v (p/1000) else none
def fY (g:Nat→AV→AV) (j:Nat):List AV→List AV|[]=>[]|c::cs=>g (1000*j) c::fY g (j+1) cs
def lD (g:Nat→AV→AV):AV→AV|.agg cs=>.agg (fY g 0 cs)|v=>g 0 v
def gU (g:Nat→AV→AV) (i:Nat):List AV→List AV|[]=>[]|v::vs=>lD (fun p c=>g (p+i) c) v::gU g (i+1) vs
def cJ (g:Nat→AV→AV):AV→AV|.aL vs=>.aL (gU g 0 vs)|v=>lD g v
def ko (d:Nat) (p:Nat):AV→AV|.fr _ _=>.own (d+1000*p)|v=>v
def FO (p:Nat):AV→AV|.fr _ _=>.own p|v=>v
def du:Option AV→Option AO|some (.fr e rows)=>some (.arr e rows)|_=>none
def fH (j:Nat):List AV→List (Nat×AO)|[]=>[]|.fr e rows::cs=>(1000*j,.arr e rows)::fH (j+1) cs|_::cs=>fH (j+1) cs
def jV:AV→List (Nat×AO)|.agg cs=>fH 0 cs|.fr e rows=>[(0,.arr e rows)]|_=>[]
def kv (i:Nat):List AV→List (Nat×AO)|[]=>[]|v::vs=>(jV v).map (fun x=>(x.1+i,x.2))++kv (i+1) vs
def yq:AV→List (Nat×AO)|.aL vs=>kv 0 vs|v=>jV v
def gK:PV→Bool|.int _ _|.bool _|.str _|.nil|.val _=>true|.ro rows=>rows.isEmpty|.mp _|.mv _|.pt _=>false
def bV (rows:List (List PV)):Prop:=∀r∈rows,∀p∈r,gK p=true
def lM:AV→Prop|.pv p=>gK p=true|.fr _ rows=>bV rows|_=>False
def mU:List AV→Prop|[]=>True|c::cs=>lM c∧mU cs
def jS:AV→Prop|.agg cs=>mU cs|v=>lM v
def oT:List AV→Prop|[]=>True|c::cs=>jS c∧oT cs
def flat:AV→Prop|.aL vs=>oT vs|v=>jS v
def bT (f g:Nat→Option AO):Nat→Option AO:=fun t=>match f t with|some o=>some o|none=>g t
def BV (P:Program) (f:FuncId) (hin:List (Nat×AO)) (args:List AV) (hout:List (Nat×AO)) (r:AV):Prop:=∀(w:World) (S0:Nat→Prop) (β:Nat→Value) (vals:List Value),(∀b,S0 b→b<w.heap.size)→(∀t b,ay (ab hin) t→b9 (β t)=some b→b<w.heap.size)→Heap P (aN S0 w.heap.size β (ab hin) w) w β (ab hin)→vals.length=args.length→(∀(i:Nat) (v:Value) (x:AV),vals[i]?=some v→args[i]?=some x→RV P (aN S0 w.heap.size β (ab hin) w) w β (ay (ab hin)) v x)→Calls P f vals.toArray w fun e w'=>∃v β',e=.returned v∧xB (live β (ab hin)) w w'∧Heap P (aN S0 w.heap.size β' (bT (ab hout) fun t=>du (cellAt r t)) w') w' β' (bT (ab hout) fun t=>du (cellAt r t))∧(∀t b,ay (bT (ab hout) fun t=>du (cellAt r t)) t→b9 (β' t)=some b→w.heap.size≤b∨live β (ab hin) b)∧RV P (aN S0 w.heap.size β' (bT (ab hout) fun t=>du (cellAt r t)) w') w' β' (ay (bT (ab hout) fun t=>du (cellAt r t))) v (cJ FO r)
def Et:AV→AV|.fr _ _=>.own 998|.aL [.fr _ _]=>.own 999|x=>x
def lk:List AV→List (Nat×AO)|[]=>[]|.fr e rows::_=>[(998,.arr e rows)]|.aL [.fr e rows]::_=>[(999,.arr e rows)]|_::l=>lk l
def bW:AV→AV|.bA _ [r,.fr _ _]=>r|r=>r
def dI:AV→List (Nat×AO)|.bA _ [_,.fr e rows]=>[(999,.arr e rows)]|_=>[]
def BR (P:Program) (f:FuncId) (ys:List AV) (x:AV):Prop:=∀(w:World) (S0:Nat→Prop) (β:Nat→Value) (vals:List Value),(∀b,S0 b→b<w.heap.size)→(∀t b,ay (ab (lk ys)) t→b9 (β t)=some b→b<w.heap.size)→Heap P (aN S0 w.heap.size β (ab (lk ys)) w) w β (ab (lk ys))→vals.length=ys.length→(∀(i:Nat) (v:Value) (x:AV),vals[i]?=some v→(ys.map Et)[i]?=some x→RV P (aN S0 w.heap.size β (ab (lk ys)) w) w β (ay (ab (lk ys))) v x)→Calls P f vals.toArray w fun e w'=>∃v β',e=.returned v∧xB (live β (ab (lk ys))) w w'∧Heap P (aN (fun b=>S0 b∨live β (ab (lk ys)) b) w.heap.size β' (bT (ab (dI x)) fun t=>du (cellAt (bW x) t)) w') w' β' (bT (ab (dI x)) fun t=>du (cellAt (bW x) t))∧(∀t b,ay (bT (ab (dI x)) fun t=>du (cellAt (bW x) t)) t→b9 (β' t)=some b→w.heap.size≤b∨live β (ab (lk ys)) b)∧(∀t,ay (ab (dI x)) t→ay (ab (lk ys)) t∧β' t=β t)∧RV P (aN (fun b=>S0 b∨live β (ab (lk ys)) b) w.heap.size β' (bT (ab (dI x)) fun t=>du (cellAt (bW x) t)) w') w' β' (ay (bT (ab (dI x)) fun t=>du (cellAt (bW x) t))) v (cJ FO (bW x))
inductive HT (P:Program) (S:Nat→Prop) (w:World):Value→AV→List Nat→Prop|leaf (v:Value) (y:AV):RV P S w (fun _=>undef) (fun _=>False) v y→HT P S w v y []|fr (v:Value) (e:TypeId) (rows:List (List PV)) (inf:TypeInfo) (us:List Value):P.info? e=some inf→w.ownsRow 0 e inf.size v rows.length us→(∀r,r∈rows→r.length=inf.size)→(∀(i j:Nat) (r:List PV) (p:PV),rows[i]?=some r→r[j]?=some p→∃u,us[i*inf.size+j]?=some u∧u.oneCell'=true∧de S w u p)→HT P S w v (.fr e rows) (b9 v).toList|mf (b:Nat) (us:Array MapEntry) (c:Nat) (es:List (PV×PV)):w.heap[b]?=some (.map us c)→MapKept.Stamped us c→us.toList.length=es.length→(∀(i:Nat) (e:PV×PV) (u:MapEntry),es[i]?=some e→us.toList[i]?=some u→u.key=bP e.1∧cX e.1<99∧u.val.oneCell'=true∧de S w u.val e.2)→HT P S w (.map (some b)) (.mf es) [b]|bx (b:Nat) (us:Array Value) (ty:TypeId) (cs:List AV) (bss:List (List Nat)):w.heap[b]?=some (.cells us ty (0,0))→us.size=cs.length→bss.length=cs.length→(∀(i:Nat) (u:Value),us[i]?=some u→u.oneCell'=true)→(∀(i:Nat) (c:AV) (u:Value) (bs:List Nat),cs[i]?=some c→us[i]?=some u→bss[i]?=some bs→HT P S w u c bs)→HT P S w (.pointer (some ⟨b,0,none⟩)) (.bx cs) (b::bss.flatten)|agg (us:List Value) (cs:List AV) (bss:List (List Nat)):us.length=cs.length→bss.length=cs.length→(∀(i:Nat) (c:AV) (u:Value) (bs:List Nat),cs[i]?=some c→us[i]?=some u→bss[i]?=some bs→HT P S w u c bs)→HT P S w (.agg us.toArray) (.agg cs) bss.flatten|aL (us:List Value) (cs:List AV) (bss:List (List Nat)):us.length=cs.length→bss.length=cs.length→(∀(i:Nat) (c:AV) (u:Value) (bs:List Nat),cs[i]?=some c→us[i]?=some u→bss[i]?=some bs→HT P S w u c bs)→HT P S w (.tuple us.toArray) (.aL cs) bss.flatten
def Ct (P:Program) (S:Nat→Prop) (w:World) (vs:List Value) (ys:List AV) (bss:List (List Nat)):Prop:=vs.length=ys.length∧bss.length=ys.length∧∀(i:Nat) (y:AV) (v:Value) (bs:List Nat),ys[i]?=some y→vs[i]?=some v→bss[i]?=some bs→HT P S w v y bs
def EK:AV→AV|.aL [y]=>y|y=>y
def EE:AV→Bool|.aL [_]=>true|_=>false
def dX {α:Type}:List AV→List α→List α|y::ys,v::vs=>if EE y=true then v::dX ys vs else dX ys vs|_,_=>[]
def jA:AV→AV|.bA _ (r::_)=>r|r=>r
def jY:AV→List AV|.bA _ (_::os)=>os|_=>[]
def yL (P:Program) (f:FuncId) (ys:List AV) (x:AV):Prop:=∀(w:World) (S0:Nat→Prop) (vals:List Value) (bss:List (List Nat)),(∀b,S0 b→b<w.heap.size∧b∉bss.flatten)→bss.flatten.Nodup→Ct P S0 w vals (ys.map EK) bss→Calls P f vals.toArray w fun e w'=>∃v bss',e=.returned v∧xB (·∈bss.flatten) w w'∧bss'.flatten.Nodup∧(∀b∈bss'.flatten,w.heap.size≤b∨b∈bss.flatten)∧Ct P (fun b=>(S0 b∨b∈bss.flatten∨w.heap.size≤b)∧b<w'.heap.size∧b∉bss'.flatten) w' (dX ys vals++[v]) (jY x++[jA x]) bss'
def As:AV→Bool|.agg []=>true|_=>false
def tw:Value→Bool|.agg cs=>cs.isEmpty|_=>false
def Bl:Option AO→Option PV|some (.arr _ rows)=>some (.ro rows)|some (.map es)=>if es.all (fun e=>As e.2)=true then some (.mp (es.map (·.1))) else none|some (.gr es)=>some (.mv es)|_=>none
def dW (aa:Nat→Option AO):AV→Option PV|.pv .nil=>some (.ro [])|.pv p=>some p|.own t=>Bl (aa t)|.sub t e lo hi=>(cE (aa t)).bind fun r=>if r.1=e then some (.ro ((r.2.take hi).drop lo)) else none|_=>none
def iC (aa:Nat→Option AO):List AV→Option (List PV)|[]=>some []|c::cs=>(dW aa c).bind fun p=>(iC aa cs).map (p::·)
def ey (aa:Nat→Option AO):AV→Option AV|.ptr t o=>(eg (aa t)).bind fun cs=>(iC aa (cs.drop o)).map .rp|.rp cs=>some (.rp cs)|.agg cs=>(iC aa cs).map fun ps=>.agg (ps.map .pv)|.bA f []=>some (.bA f [])|v=>(dW aa v).map .pv
def jJ (aa:Nat→Option AO):List AV→Option (List AV)|[]=>some []|c::cs=>(ey aa c).bind fun p=>(jJ aa cs).map (p::·)
def m7 (aa:Nat→Option AO):AV→Option AV|.bA f caps=>(jJ aa caps).map (.bA f)|v=>ey aa v
def eL (aa:Nat→Option AO):List AV→Option (List AV)|[]=>some []|c::cs=>(m7 aa c).bind fun p=>(eL aa cs).map (p::·)
def fD:AV→Bool|.pv _|.rp _=>true|_=>false
def fP:List AV→Bool|[]=>true|c::cs=>fD c&&fP cs
def dC:AV→Bool|.agg cs=>fP cs|.bA _ cs=>fP cs|v=>fD v
def dU:List AV→Bool|[]=>true|c::cs=>dC c&&dU cs
def Oj:Option AO→Option AV|some (.arr e rows)=>some (.fr e rows)|some (.gr es)=>some (.mf es)|_=>none
def Ex (f:AV→Option (AV×List Nat)):List AV→Option (List AV×List Nat)|[]=>some ([],[])|c::cs=>(f c).bind fun r=>(Ex f cs).map fun q=>(r.1::q.1,r.2++q.2)
def rd:Nat→(Nat→Option AO)→AV→Option (AV×List Nat)|0,_,_=>none|n+1,aa,x=>match x with|.own t=>(Oj (aa t)).map fun y=>(y,[t])|.ptr t 0=>(eg (aa t)).bind fun cs=>(Ex (rd n aa) cs).map fun r=>(.bx r.1,t::r.2)|.agg cs=>(Ex (rd n aa) cs).map fun r=>(.agg r.1,r.2)|.pv p=>some (.pv p,[])|.rp cs=>some (.rp cs,[])|.bA f []=>some (.bA f [],[])|_=>none
def tk:Bool→List Nat×List Nat→Option (Nat×List Nat×List Nat)|true,(p::ps,us)=>some (p,ps,us)|false,(ps,u::us)=>some (u,ps,us)|_,_=>none
def mh (f:AV→List Nat×List Nat→Option (AV×List (Nat×AO)×List Nat×List Nat)):List AV→List Nat×List Nat→Option (List AV×List (Nat×AO)×List Nat×List Nat)|[],s=>some ([],[],s)|c::cs,s=>(f c s).bind fun r=>(mh f cs r.2.2).map fun q=>(r.1::q.1,r.2.1++q.2.1,q.2.2)
def num:Nat→Bool→AV→List Nat×List Nat→Option (AV×List (Nat×AO)×List Nat×List Nat)|0,_,_,_=>none|n+1,top,y,s=>match y with|.fr e rows=>(tk top s).map fun q=>(.own q.1,[(q.1,.arr e rows)],q.2)|.mf es=>(tk top s).map fun q=>(.own q.1,[(q.1,.gr es)],q.2)|.bx cs=>(tk top s).bind fun q=>(mh (num n false) cs q.2).map fun r=>(.ptr q.1 0,(q.1,.box r.1)::r.2.1,r.2.2)|.agg cs=>(mh (num n top) cs s).map fun r=>(.agg r.1,r.2)|.aL cs=>(mh (num n top) cs s).map fun r=>(.aL r.1,r.2)|.pv p=>some (.pv p,[],s)|.rp cs=>some (.rp cs,[],s)|.bA f caps=>if fP caps=true then some (.bA f caps,[],s) else none|_=>none
def pP:AV→List Nat|.own t=>[t]|.ptr t 0=>[t]|_=>[]
def pM:AV→List Nat|.agg cs=>cs.flatMap pP|x=>pP x
def dK (W:List Nat):AV→AV|.own t=>if W.contains t then .ar else .own t|.ptr t o=>if W.contains t then .ar else .ptr t o|.aR t e i o=>if W.contains t then .ar else .aR t e i o|.sub t e lo hi=>if W.contains t then .ar else .sub t e lo hi|.pv p=>.pv p|.rp cs=>.rp cs|.bA f []=>.bA f []|_=>.ar
def gR (W:List Nat):AV→AV|.agg cs=>.agg (cs.map (dK W))|v=>dK W v
def jT (W:List Nat):AV→AV|.aL cs=>.aL (cs.map (gR W))|.bA f cs=>.bA f (cs.map (gR W))|.b5 g v=>.b5 g (jT W v)|v=>gR W v
def er (W:List Nat) (v:AV):AV:=if W.isEmpty=true then v else jT W v
def vb (W:List Nat):AO→AO|.box cs=>.box (cs.map (dK W))|.rws e cs=>.rws e (cs.map (dK W))|o=>o
def iD (W:List Nat) (o:AO):AO:=if W.isEmpty=true then o else vb W o
def fX (W:List Nat) (f:Nat→AV):Nat→AV:=fun s=>er W (f s)
def ef (T W:List Nat) (f:Nat→Option AO):Nat→Option AO:=fun t=>if T.contains t then none else(f t).map (iD W)
def BO (aa objs':Nat→Option AO) (T:List Nat):List Nat→List AV→Option (List AV)|[],[]=>some []|k::ks,x::xs=>(if k=0 then m7 objs' (er T x) else if k=1 then(rd 5 aa x).map (·.1) else(rd 5 aa x).map fun r=>.aL [r.1]).bind fun y=>(BO aa objs' T ks xs).map (y::·)|_,_=>none
def eE (aa:Nat→Option AO):List Nat→List AV→List Nat|k::ks,x::xs=>(if k=0 then[] else((rd 5 aa x).map (·.2)).getD [])++eE aa ks xs|_,_=>[]
def dS:List Nat→List AV→List AV|k::ks,x::xs=>if 1<k then x::dS ks xs else dS ks xs|_,_=>[]
def ej (T:List Nat):List Nat→List AV→Bool|k::ks,x::xs=>(k !=0||dC (er T x))&&ej T ks xs|_,_=>true
def gf:Nat→AV→Prop|0,_=>False|n+1,y=>match y with|.fr _ rows=>bV rows|.mf es=>∀e∈es,gK e.2=true|.bx cs|.agg cs|.aL cs=>∀c∈cs,gf n c|.pv p=>gK p=true|.bA _ []=>True|_=>False
def aK (d:Nat) (r:AV):List (Nat×AO):=(yq r).map fun x=>(d+1000*x.1,x.2)
def bY {α:Type} (l:List α) (o:Nat) (ps:List α):List α:=l.take o++ps++l.drop (o+ps.length)
def bU (t:Nat):AV→AV|.own s=>if s=t then .ar else .own s|.aR s e i o=>if s=t then .ar else .aR s e i o|.sub s e i o=>if s=t then .ar else .sub s e i o|.pv p=>.pv p|.ptr s o=>.ptr s o|.rp cs=>.rp cs|.bA f []=>.bA f []|_=>.ar
def bO (t:Nat):List AV→List AV|[]=>[]|c::cs=>bU t c::bO t cs
def kill (t:Nat):AV→AV|.agg cs=>.agg (bO t cs)|.aL cs=>.aL (bO t cs)|.b5 g v=>.b5 g (kill t v)|v=>bU t v
def dp (t:Nat):AO→AO|.box cs=>.box (bO t cs)|.rws e cs=>.rws e (bO t cs)|o=>o
def cj (t:Nat) (f:Nat→AV):Nat→AV:=fun s=>kill t (f s)
def db (t:Nat) (f:Nat→Option AO):Nat→Option AO:=fun s=>(f s).map (dp t)
def cm (k:AK) (d:Nat) (xs:List AV) (aa:Nat→Option AO):Option (Prop×AV×AO):=match k,xs with|.bf e,_=>some (True,.own d,.arr e [])|.box,[x]=>if eV (cellsOf x) then some (True,.ptr d 0,.box (cellsOf x)) else none|.alloc zs,_=>if zs.all (·.oneCell') then some (True,.ptr d 0,.box (zs.map cv)) else none|.fx e sz,xs=>(rowsOf xs).map fun rows=>(∀r∈rows,r.length=sz,.own d,.arr e rows)|.app e sz bytes,[.pv .nil,x]=>(cB aa x).map fun rows=>(rows.length*bytes≤140737488355328∧rows.length≤maxLen∧(∀r∈rows,r.length=sz),.own d,.arr e rows)|_,_=>none
def dQ (k:AK) (xs:List AV) (aa:Nat→Option AO):Option (Prop×Nat×AO):=match k,xs with|.store none,[.ptr t o,v]=>(eg (aa t)).bind fun cs=>if dJ v∧o<cs.length then some (True,t,.box (cs.set o v)) else none|.store (some n),[.ptr t o,.agg vs]=>(eg (aa t)).bind fun cs=>if eV vs∧vs.length=n∧o+n≤cs.length then some (True,t,.box (bY cs o vs)) else none|.store none,[.aR t e i o,.pv p]=>(cE (aa t)).bind fun r=>if r.1=e∧o<(rowAt r.2 i).length∧dJ (.pv p) then some (0≤i∧i<r.2.length,t,.arr e (r.2.set i.toNat ((rowAt r.2 i).set o p))) else none|.store (some n),[.aR t e i o,.agg vs]=>(cE (aa t)).bind fun r=>(dZ vs).bind fun ps=>if r.1=e∧eV vs∧ps.length=n∧o+n≤(rowAt r.2 i).length then some (0≤i∧i<r.2.length,t,.arr e (r.2.set i.toNat (bY (rowAt r.2 i) o ps))) else none|.app e sz bytes,[.own t,x]=>(cE (aa t)).bind fun r=>(cB aa x).bind fun more=>if r.1=e∧t%1000≠999 then some ((r.2.length+more.length)*bytes≤140737488355328∧r.2.length+more.length≤maxLen∧(∀r∈more,r.length=sz),t,.arr e (r.2++more)) else none|_,_=>none
def ai {α:Type} (o:Option α) (K:α→Prop):Prop:=match o with|some x=>K x|none=>False
def nm (φ ψ:Prop) (c:Bool):AV→AV→Option (Prop×AV)|.pv (.bool x),.pv (.bool y)=>some ((c=true→φ)∧(c=false→ψ),.pv (.bool (cond c x y)))|.pv (.bool x),_=>some (c=true∧φ,.pv (.bool x))|_,.pv (.bool y)=>some (c=false∧ψ,.pv (.bool y))|_,_=>none
def hZ:AV→Option Bool|.pv (.bool c)=>some c|_=>none
def rC:List AV→Option (Prop×AV)|[c,a,b]=>(hZ (strip c)).bind fun g=>(nm (asks a) (asks b) g (strip a) (strip b)).map fun r=>(asks c∧r.1,r.2)|_=>none
def bn (os:List (Nat×AO)) (aa:Nat→Option AO):Nat→Option AO:=fun t=>match ab os t with|some o=>some o|none=>aa t
inductive bz where|put (v:AV)|new (v:AV) (os:List (Nat×AO))|uI (t:Nat) (o:AO)|app (t:Nat) (o:AO)
def bz.on (d:Option Nat):bz→St→St|.put v,st=>⟨Ab.put d v st.vars,st.aa⟩|.new v os,st=>⟨Ab.put d v st.vars,bn os st.aa⟩|.uI t o,st=>⟨Ab.put d .ar st.vars,aH t o st.aa⟩|.app t o,st=>⟨Ab.put d (.own t) (cj t st.vars),aH t o (db t st.aa)⟩
def mO:List AV→Bool|.own _::_=>true|_=>false
def nf:AV→Bool|.aL vs=>decide (vs.length≤1000)|_=>true
def ij:AV→Bool|.pv _|.rp _|.fr _ _=>true|_=>false
def m9:List AV→Bool|[]=>true|c::cs=>ij c&&m9 cs
def kl:AV→Bool|.agg cs=>m9 cs|v=>ij v
def pr:List AV→Bool|[]=>true|c::cs=>kl c&&pr cs
def cH:AV→Bool|.aL vs=>decide (vs.length≤900)&&pr vs|v=>kl v
def Ew:AV→Bool
 |.bx _|.mf _=>true|.agg cs=>cs.any fun c=>match c with|.bx _|.mf _=>true|_=>false
 |_=>false
def nj:AV→Bool|.aL vs=>vs.any Ew|v=>Ew v
def jg (d:Nat):List Nat:=[d,d+1000,d+2000,d+3000,d+4000,d+5000,d+6000,d+7000]
def oI (r:AV):Prop:=if nj r=true then gf 5 r else flat r
def iT (d:Nat) (r:AV):List (Nat×AO):=if nj r=true then(((num 5 false r ([],jg d)).map (·.2.1)).getD []) else aK d r
def xZ (d:Nat) (r:AV):AV:=if nj r=true then(((num 5 false r ([],jg d)).map (·.1)).getD .ar) else cJ (ko d) r
def yh (d:Nat) (r:AV):Bool:=if nj r=true then(num 5 false r ([],jg d)).isSome else cH r
def KD (P:Program) (f:FuncId) (ys:List AV) (r:AV):Prop:=(nj r=true→yL P f ys (.bA 0 [r]))∧(nj r=false→BV P f [] ys [] r)
abbrev bN:=FuncId→List AV→Option (Prop×AV)
def dr (P:Program) (Γ:bN):Prop:=∀f ys φ r,Γ f ys=some (φ,r)→φ→(f<1000000∧BV P f [] ys [] r)∨(P.funcs.size≤1000000∧1000000≤f∧f<2000000∧(ys=[.ar]∨BR P (f-1000000) ys r))∨(P.funcs.size≤1000000∧2000000≤f∧f<3000000∧(ys=[.ar]∨yL P (f-2000000) ys r))∨(P.funcs.size≤1000000∧3000000≤f∧yL P (f-3000000) ys (.bA 0 [r]))
def MK:Option (Prop×AV)→Option (Prop×AV)→Option (Prop×AV)|some x,_=>some (x.1∧nj x.2=false,x.2)|none,y=>y.map fun x=>(x.1∧nj x.2=true,x.2)
def gt (Γ:bN) (f:FuncId) (ys:List AV):Option (Prop×AV):=MK (Γ f ys) (Γ (f+3000000) ys)
theorem Z7 {n f:Nat} (h:3000000≤f) (hn:n≤1000000):¬f<n:=by omega
theorem dr.WR {P:Program}{Γ:bN} (h:dr P Γ) {f:FuncId} (hf:f<P.funcs.size) {ys:List AV}{φ:Prop}{r:AV} (hr:gt Γ f ys=some (φ,r)) (hφ:φ):KD P f ys r:=by unfold gt at hr;cases hg:Γ f ys with
 |some x=>
  rw[hg]at hr;have hr:some (x.1∧nj x.2=false,x.2)=some (φ,r):=hr;simp only[Option.some.injEq,Prod.mk.injEq]at hr;obtain⟨rfl,rfl⟩:=hr;refine⟨fun e=>absurd (hφ.2.symm.trans e) Bool.false_ne_true,fun _=>?_⟩;rcases h f ys x.1 x.2 hg hφ.1 with⟨_,h⟩|⟨h,h2,_⟩|⟨h,h2,_⟩|⟨h,h2,_⟩;·exact h
  ·exact absurd hf (Nat.not_lt.2 (Nat.le_trans h h2))
  ·exact absurd hf (Nat.not_lt.2 (Nat.le_trans h (Nat.le_trans (by decide) h2)))
  ·exact absurd hf (Z7 h2 h)|none=>
  rw[hg]at hr;obtain⟨x,hx,hr⟩:=Option.map_eq_some_iff.1 (show(Γ (f+3000000) ys).map (fun x=>(x.1∧nj x.2=true,x.2))=some (φ,r) from hr);simp only[Prod.mk.injEq]at hr;obtain⟨rfl,rfl⟩:=hr;refine⟨fun _=>?_,fun e=>absurd (e.symm.trans hφ.2) Bool.false_ne_true⟩;rcases h (f+3000000) ys x.1 x.2 hx hφ.1 with⟨h,_⟩|⟨_,_,h,_⟩|⟨_,_,h,_⟩|⟨_,_,h⟩;·exact absurd h (Nat.not_lt.2 (Nat.le_trans (by decide) (Nat.le_add_left 3000000 f)))
  ·exact absurd h (Nat.not_lt.2 (Nat.le_trans (by decide) (Nat.le_add_left 3000000 f)))
  ·exact absurd h (Nat.not_lt.2 (Nat.le_add_left 3000000 f))
  ·rw[show f+3000000-3000000=f from Nat.add_sub_cancel _ _]at h;exact h
def cr (P:Program) (Γ:bN) (d:Option Nat) (f:FuncId) (xs:List AV) (aa:Nat→Option AO) (C:bz→Prop):Prop:=ai d fun d=>an xs∧ai (eL aa (xs.map strip)) fun ys=>ai (gt Γ f ys) fun x=>x.1∧(dU (xs.map strip)=true∨oI x.2)∧(∀y∈iT d x.2,aa y.1=none)∧yh d x.2=true∧C (.new (xZ d x.2) (iT d x.2))
def aQ (P:Program) (Γ:bN) (d:Option Nat) (k:AK) (xs:List AV) (aa:Nat→Option AO) (C:bz→Prop):Prop:=match k with|.aB=>ai xs.head? fun x=>xs.length=1∧C (.put x)|.pick=>ai (rC xs) fun x=>x.1∧C (.put x.2)|.bf _|.box|.alloc _|.fx _ _=>ai d fun d=>an xs∧ai (cm k d (xs.map strip) aa) fun x=>x.1∧aa d=none∧C (.new x.2.1 [(d,x.2.2)])|.store _=>an xs∧ai (dQ k (xs.map strip) aa) fun x=>x.1∧C (.uI x.2.1 x.2.2)|.app _ _ _=>an xs∧if mO (xs.map strip) then ai (dQ k (xs.map strip) aa) fun x=>x.1∧C (.app x.2.1 x.2.2) else ai d fun d=>ai (cm k d (xs.map strip) aa) fun x=>x.1∧aa d=none∧C (.new x.2.1 [(d,x.2.2)])|.call f=>cr P Γ d f xs aa C|_=>an xs∧ai (ak k (xs.map strip) aa) fun x=>x.1∧C (.put x.2)
def wB (Γ:bN) (c:Bool) (f:FuncId) (xs:List AV) (aa:Nat→Option AO) (C:bz→Prop):Prop:=ai (eL aa (xs.map strip)) fun ys=>ai (gt Γ f ys) fun x=>(c=true→an xs∧x.1)∧flat x.2∧yq x.2=[]∧cH x.2=true∧C (.put (.b5 c x.2))
def vX:AV→AV|.fr _ rows=>.pv (.ro rows)|v=>v
def HQ:AV→AV|.agg cs=>.agg (cs.map vX)|v=>vX v
def Fc:AV→AV|.aL vs=>.aL (vs.map HQ)|v=>HQ v
def T2:Option (List (List PV))→AV|some rows=>.b5 false (.pv (.ro rows))|none=>.ar
def A8 (xs:List AV):AV:=T2 (rowsOf (xs.map strip))
def cb (P:Program) (Γ:bN) (c:Bool) (d:Option Nat) (k:AK) (xs:List AV) (aa:Nat→Option AO) (C:bz→Prop):Prop:=match k with|.aB=>ai xs.head? fun x=>xs.length=1∧C (.put (.b5 c x))|.pick=>ai (rC xs) fun x=>(c=true→x.1)∧C (.put (.b5 c x.2))|.fx _ _=>(c=true→aQ P Γ d k xs aa C)∧(c=false→C (.put (A8 xs)))|.bf _|.box|.alloc _|.store _|.app _ _ _=>(c=true→aQ P Γ d k xs aa C)∧(c=false→C (.put .ar))|.call f=>ai (eL aa (xs.map strip)) fun ys=>ai (gt Γ f ys) fun x=>if(!nj x.2&&(yq x.2).isEmpty)=true then(c=true→an xs∧x.1)∧flat x.2∧yq x.2=[]∧cH x.2=true∧C (.put (.b5 c x.2)) else(c=true→aQ P Γ d k xs aa C)∧(c=false→C (.put (.b5 false (Fc x.2))))|_=>ai (ak k (xs.map strip) aa) fun x=>(c=true→an xs∧x.1)∧C (.put (.b5 c x.2))
def qo:Bool→Option Bool→Option Bool|false,_=>some false|true,o=>o
def bE:AV→Bool→Option Bool|.pv (.bool b),want=>some (if want then b else !b)|.b5 c v,want=>qo c (bE v want)|_,_=>none
def jf (un:List Nat) (t:Nat):Prop:=un.contains (t%1000)=false
def td (un:List Nat):AV→Prop|.own t|.ptr t _|.aR t _ _ _|.sub t _ _ _=>jf un t|_=>True
def fZ (un:List Nat):List AV→Prop|[]=>True|c::cs=>td un c∧fZ un cs
def mz (un:List Nat) (aa:Nat→Option AO):AV→Prop|.ptr t _=>jf un t∧fZ un ((eg (aa t)).getD [])|.agg cs=>fZ un cs|v=>td un v
def jK (un:List Nat) (aa:Nat→Option AO):List AV→Prop|[]=>True|c::cs=>mz un aa c∧jK un aa cs
def oR (un:List Nat) (aa:Nat→Option AO):AV→Prop|.bA _ cs=>jK un aa cs|v=>mz un aa v
def jh (un:List Nat) (aa:Nat→Option AO):List AV→Prop|[]=>True|c::cs=>oR un aa c∧jh un aa cs
def qk:Option Nat→bz→Prop|none,_=>True|some s,.uI t _=>t=s|some _,_=>False
def jO (un:List Nat):bz→Prop|.app t _=>un.contains (t%1000+1000)=false|_=>True
def zK (un:List Nat) (tg:Option Nat) (e:bz):Prop:=qk tg e∧jO un e
def dn (P:Program) (Γ:bN) (i:AI) (vars:Nat→AV) (aa:Nat→Option AO) (C:bz→Prop):Prop:=match i.g with|none=>aQ P Γ i.d i.k (i.xs.map (ev vars)) aa C|some (s,want)=>ai (bE (vars s) want) fun c=>cb P Γ c i.d i.k (i.xs.map (ev vars)) aa C
def cI (P:Program) (Γ:bN) (i:AI) (K:St→Prop) (st:St):Prop:=(i.un=[]∨jh i.un st.aa ((i.xs.map (ev st.vars)).map strip))∧dn P Γ i st.vars st.aa fun e=>zK i.un i.tg e∧K (e.on i.d st)
def fQ (P:Program) (f:FuncId):Bool:=match P.funcs[f]? with|some fn=>fn.name != "runtime.NumGoroutine" &&fn.body.isSome|none=>false
def jQ:List AV→Option (FuncId×List AV)|.bA f caps::args=>some (f,args++caps)|.pv (.val v)::args=>(HU v).map fun f=>(f,args)|_=>none where HU:Value→Option FuncId|.func (.func f) ⟨[]⟩ ⟨[]⟩=>some f|_=>none
def fb:List AV→Bool|[]=>false|.ar::_=>true|.pv (.val _)::_=>true|.rp []::_=>true|_::l=>fb l
def GN:Option Bool→Bool|some false=>true|_=>false
def gb:Bool→Bool→Prop→Prop→Prop|false,_,A,_=>A|true,f,A,B=>if f=true then B else A
def sh (t:Nat) (e0:TypeId) (rows:List (List PV)):AV→AV|.own s=>if s=t then .pv (.ro rows) else .own s|.sub s e lo hi=>if s=t then(if e=e0 then .pv (.ro ((rows.take hi).drop lo)) else .ar) else .sub s e lo hi|v=>kill t v
def EC (t:Nat) (e0:TypeId) (rows:List (List PV)) (f:Nat→AV):Nat→AV:=fun s=>sh t e0 rows (f s)
def eZ (t:Nat) (f:Nat→Option AO):Nat→Option AO:=fun s=>if s=t then none else(f s).map (dp t)
def Ou (t:Nat) (e0:TypeId) (rows:List (List PV)):AV→AV|.own s=>if s=t then .pv (.ro rows) else .own s|.sub s e lo hi=>if s=t then(if e=e0 then .pv (.ro ((rows.take hi).drop lo)) else .ar) else .sub s e lo hi|c=>bU t c
def pN (t:Nat) (e0:TypeId) (rows:List (List PV)):List AV→List AV|[]=>[]|c::cs=>Ou t e0 rows c::pN t e0 rows cs
def Bi (t:Nat) (e0:TypeId) (rows:List (List PV)):AV→AV|.agg cs=>.agg (pN t e0 rows cs)|v=>sh t e0 rows v
def Es (t:Nat) (e0:TypeId) (rows:List (List PV)):AO→AO|.box cs=>.box (pN t e0 rows cs)|o=>dp t o
def Xy (t:Nat) (e0:TypeId) (rows:List (List PV)) (f:Nat→AV):Nat→AV:=fun s=>Bi t e0 rows (f s)
def yV (t:Nat) (e0:TypeId) (rows:List (List PV)) (f:Nat→Option AO):Nat→Option AO:=fun s=>if s=t then none else(f s).map (Es t e0 rows)
def gV (st:St):AV→St
 |.own t=>match cE (st.aa t) with|some r=>⟨Xy t r.1 r.2 st.vars,yV t r.1 r.2 st.aa⟩|none=>st
 |_=>st
def fu:St→List AV→St|st,[]=>st|st,c::cs=>fu (gV st c) cs
def share1 (st:St):AV→St|.agg cs=>fu st cs|v=>gV st v
def cw (st:St):List AV→St|[]=>st|v::l=>cw (share1 st v) l
def YP:PV→PV|.nil=>.ro []|p=>p
def vH:AV→AV|.pv p=>.pv (YP p)|c=>c
def rY:List AV→List AV|[]=>[]|c::cs=>vH c::rY cs
def Eo:AV→AV|.agg cs=>.agg (rY cs)|v=>vH v
def yH:AO→AO|.box cs=>.box (rY cs)|o=>o
def vT (st:St):St:=⟨fun s=>Eo (st.vars s),fun s=>(st.aa s).map yH⟩
def pS:Option AO→Option (List (PV×PV))|some (.gr es)=>some es|_=>none
def Ph (t:Nat) (es:List (PV×PV)):AV→AV|.own s=>if s=t then .pv (.mv es) else .own s|v=>kill t v
def wI (t:Nat) (st:St):St:=match pS (st.aa t) with|some es=>⟨fun s=>Ph t es (st.vars s),eZ t st.aa⟩|none=>st
def uV (t:Nat) (st:St):St:=if t=999996 then vT st else if 1000000000000000≤t then wI (t-1000000000000000) st else share1 st (.own t)
def ck:List Nat→St→St|[],st=>st|t::ts,st=>ck ts (uV t st)
def Fs:AV→Bool|.pv (.ro _)|.pv (.mp _)|.pv (.mv _)|.pv (.pt _)|.rp _=>true|_=>false
def Bx:List AV→Bool|[]=>false|c::cs=>Fs c||Bx cs
def ON:AV→Bool|.agg cs=>Bx cs|v=>Fs v
def Cb:List AV→Bool|[]=>false|c::cs=>ON c||Cb cs
def TV:AV→Bool|.aL vs=>Cb vs|v=>ON v
def qM (t:Nat) (st:St):St:=match cE (st.aa t) with|some _=>⟨cj t st.vars,eZ t st.aa⟩|none=>st
def wK (P:Program) (Γ:bN) (d:Option Nat) (f:FuncId) (xs:List Operand) (K:St→Prop) (st:St):Prop:=cr P Γ d f (xs.map (ev st.vars)) st.aa fun e=>K (e.on d st)
def ki (P:Program) (Γ:bN) (i:AI) (f:FuncId) (K:St→Prop) (st:St):Prop:=ai (eL st.aa ((i.xs.map (ev st.vars)).map strip)) fun ys=>ai (gt Γ f ys) fun x=>if(TV x.2&&!dU ((i.xs.map (ev st.vars)).map strip))=true then wK P Γ i.d f i.xs K (cw st ((i.xs.map (ev st.vars)).map strip)) else cI P Γ i K st
def WO:AV→Bool|.pv (.ro _)|.pv (.mp _)|.pv (.mv _)|.pv (.pt _)|.rp _|.fr _ _|.bx _|.mf _=>true|_=>false
def RE:List AV→Bool|[]=>false|c::cs=>WO c||RE cs
def ZV:AV→Bool|.agg cs=>RE cs|v=>WO v
def Ru:List AV→Bool|[]=>false|c::cs=>ZV c||Ru cs
def Uz:AV→Bool|.aL vs=>Ru vs|v=>ZV v
def oc (t:Nat):AV→Prop|.own s|.ptr s _|.aR s _ _ _|.sub s _ _ _=>s≠t|.pv _|.rp _|.ar=>True|.bA _ []=>True|_=>False
def sD (t:Nat):List AV→Prop|[]=>True|c::cs=>oc t c∧sD t cs
def vq (t:Nat):AV→Prop|.agg cs|.bA _ cs=>sD t cs|v=>oc t v
def kQ (t p:Nat):List AV→Prop|[]=>True|v::vs=>(match p with|0=>mu vs|p+1=>vq t v∧kQ t p vs) where mu:List AV→Prop|[]=>True|v::vs=>vq t v∧mu vs
def fW (aa:Nat→Option AO) (k:Nat):AV→Option (Nat×TypeId×List (List PV))|.own t=>(cE (aa t)).map fun r=>(t,r.1,r.2)|.sub t e 0 hi=>if k=998 then(cE (aa t)).bind fun r=>if r.1=e then some (t,e,r.2.take hi) else none else none|_=>none
def tW (k:Nat) (e:TypeId) (rows:List (List PV)):AV:=if k=998 then .fr e rows else .aL [.fr e rows]
def oy (aa:Nat→Option AO) (m:AV):Nat→List AV→Option (List AV)|_,[]=>some []|0,_::vs=>(eL aa vs).map (m::·)|p+1,v::vs=>(m7 aa v).bind fun y=>(oy aa m p vs).map (y::·)
def iI:Nat→List AV→Bool|_,[]=>true|0,_::vs=>dU vs|p+1,v::vs=>dC v&&iI p vs
def mM:List (Nat×AO)→Prop|[]=>True|(_,.arr _ rows)::l=>bV rows∧mM l|_::l=>mM l
def cx (t:Nat) (x:AV) (aa:Nat→Option AO):Nat→Option AO:=match dI x with|(_,o)::_=>aH t o aa|[]=>eZ t aa
def gh (t:Nat) (x:AV) (vars:Nat→AV):Nat→AV:=match dI x with|_::_=>vars|[]=>cj t vars
def AF:AV→Option (Nat×Nat)|.ptr p k=>if k=998∨k=999∨k=997∨k=996 then some (p,k) else none|_=>none
def di (Γ:bN) (f:FuncId):Option (Nat×Nat):=(Γ (f+1000000) [.ar]).bind fun x=>AF x.2
def jL (P:Program) (Γ:bN) (d:Option Nat) (f:FuncId) (xs:List AV) (p k:Nat) (K:St→Prop) (st:St):Prop:=ai d fun d=>an xs∧ai ((xs.map strip)[p]?) fun X=>ai (fW st.aa k X) fun T=>kQ T.1 p (xs.map strip)∧ai (oy (eZ T.1 st.aa) (tW k T.2.1 T.2.2) p (xs.map strip)) fun ys=>ai (Γ (f+1000000) ys) fun x=>x.1∧(iI p (xs.map strip)=true∨(flat (bW x.2)∧mM (dI x.2)))∧(∀y∈aK d (bW x.2),st.aa y.1=none)∧cH (bW x.2)=true∧K ⟨put (some d) (cJ (ko d) (bW x.2)) (gh T.1 x.2 st.vars),bn (aK d (bW x.2)) (cx T.1 x.2 st.aa)⟩
def px (aa:Nat→Option AO):Nat→List AV→Option (List AV)|_,[]=>some []|0,.pv .nil::vs=>(eL aa vs).map (.pv .nil::·)|0,_::_=>none|p+1,v::vs=>(m7 aa v).bind fun y=>(px aa p vs).map (y::·)
def xS (P:Program) (Γ:bN) (d:Option Nat) (f:FuncId) (xs:List AV) (p:Nat) (K:St→Prop) (st:St):Prop:=ai d fun d=>an xs∧ai (px st.aa p (xs.map strip)) fun ys=>ai (Γ (f+1000000) ys) fun x=>x.1∧(dU (xs.map strip)=true∨flat x.2)∧(∀y∈aK d x.2,st.aa y.1=none)∧cH x.2=true∧K ⟨put (some d) (cJ (ko d) x.2) st.vars,bn (aK d x.2) st.aa⟩
def Jc:AV→Option (List Nat)|.rp l=>some (l.map fun p=>match p with|.int _ n=>n.toNat|_=>0)|_=>none
def gO (Γ:bN) (f:FuncId):Option (List Nat):=(Γ (f+2000000) [.ar]).bind fun x=>Jc x.2
def mY (d:Nat) (T W:List Nat):List Nat:=W.filter (fun t=>t%1000 !=999)++[d,d+1000,d+2000,d+3000,d+4000,d+5000,d+6000,d+7000].filter fun t=>!T.contains t
def vJ (Γ:bN) (d f:Nat) (ks:List Nat) (xs:List AV) (T Q W:List Nat) (K:St→Prop) (st:St) (ys:List AV):Prop:=ai (Γ (f+2000000) ys) fun x=>x.1∧(ej T ks xs=true∨∀y∈jY x.2++[jA x.2],gf 5 y)∧ai (mh (num 5 true) (jY x.2) (Q,mY d T W)) fun o=>o.1=dS ks xs∧ai (num 5 false (jA x.2) o.2.2) fun r=>(∀p∈o.2.1++r.2.1,T.contains p.1=true∨st.aa p.1=none)∧K ⟨put (some d) r.1 (fX W st.vars),bn (o.2.1++r.2.1) (ef T W st.aa)⟩
def vo (Γ:bN) (d f:Nat) (ks:List Nat) (xs:List AV) (T Q W:List Nat) (K:St→Prop) (st:St):Prop:=Q.Nodup∧ai (BO st.aa (ef T T st.aa) T ks xs) fun ys=>vJ Γ d f ks xs T Q W K st ys
def vI (Γ:bN) (d f:Nat) (ks:List Nat) (xs:List AV) (T Q:List Nat) (K:St→Prop) (st:St):Prop:=T.Nodup∧(∀t∈Q,t∈T)∧vo Γ d f ks xs T Q (T.filter fun t=>!Q.contains t) K st
def stepG (Γ:bN) (d:Option Nat) (f:FuncId) (xs:List AV) (ks:Option (List Nat)) (K:St→Prop) (st:St):Prop:=ai d fun d=>an xs∧ai ks fun ks=>vI Γ d f ks (xs.map strip) (eE st.aa ks (xs.map strip)) ((dS ks (xs.map strip)).flatMap pM) K st
def kr (P:Program) (Γ:bN) (i:AI) (f:FuncId) (s:Nat) (w:Bool) (o:Option (Nat×Nat)) (K:St→Prop) (st:St):Prop:=match o with|some (_,k)=>if k=996 then ai (bE (st.vars s) w) fun c=>if c=true then stepG Γ i.d f (i.xs.map (ev st.vars)) (gO Γ f) K st else K ((bz.put (.b5 false .ar)).on i.d st) else False|none=>gb (fb ((i.xs.map (ev st.vars)).map strip)) (GN (bE (st.vars s) w)) (ai (bE (st.vars s) w) fun c=>ai (eL st.aa ((i.xs.map (ev st.vars)).map strip)) fun ys=>ai (gt Γ f ys) fun x=>if Uz x.2=true then(if c=true then ki P Γ ⟨i.d,i.k,i.xs,none,[],none⟩ f K st else K ((bz.put (.b5 false .ar)).on i.d st)) else cI P Γ i K st) (K ((bz.put (.b5 false .ar)).on i.d st))
def zZ (P:Program) (Γ:bN) (i:AI) (f:FuncId) (s:Nat) (w:Bool) (K:St→Prop) (st:St):Prop:=kr P Γ i f s w (di Γ f) K st
def dV (P:Program) (Γ:bN) (d:Option Nat) (f:FuncId) (ys:List AV) (o:Option (Nat×Nat)) (K:St→Prop) (st:St):Prop:=match o with|some (_,k)=>if k=996 then stepG Γ d f ys (gO Γ f) K st else False|none=>cr P Γ d f ys st.aa fun e=>K (e.on d st)
def gm (P:Program) (Γ:bN) (d:Option Nat) (f:FuncId) (ys:List AV) (A:Prop) (c:Bool) (o:Option (Nat×Nat)) (K:St→Prop) (st:St):Prop:=match o with|some (_,k)=>if k=996 then(if c=true then A∧stepG Γ d f ys (gO Γ f) K st else K ((bz.put (.b5 false .ar)).on d st)) else False|none=>wB Γ c f ys st.aa fun e=>(c=true→A)∧K (e.on d st)
def nF (P:Program) (Γ:bN) (d:Option Nat) (xs:List AV) (s:Nat) (w:Bool) (K:St→Prop) (st:St):Prop:=ai (bE (st.vars s) w) fun c=>ai (jQ (xs.map strip)) fun x=>fQ P x.1=true∧gm P Γ d x.1 x.2 (an xs) c (di Γ x.1) K st
def eY (P:Program) (Γ:bN) (d:Option Nat) (xs:List AV) (g:Option (Nat×Bool)) (K:St→Prop) (st:St):Prop:=match g with|none=>(an xs∧ai (jQ (xs.map strip)) fun x=>fQ P x.1=true∧dV P Γ d x.1 x.2 (di Γ x.1) K st)|some (s,w)=>gb (fb (xs.map strip)) (GN (bE (st.vars s) w)) (nF P Γ d xs s w K st) (K ((bz.put (.b5 false .ar)).on d st))
def jM:List AV→Bool|[]=>true|.pv _::l=>jM l|_=>false
def Zb (aa:Nat→Option AO):AV→Option Nat|.ptr t _=>(eg (aa t)).bind fun cs=>if jM cs=true then some t else none|_=>none
def lP (T:List Nat) (st:St):List Nat→Prop|[]=>True|s::l=>ai (Zb st.aa (st.vars s)) (fun t=>T.contains t=false)∧lP T st l
def A7 (ks:Option (List Nat)) (aa:Nat→Option AO) (xs:List AV):List Nat:=match ks with|some ks=>eE aa ks xs|none=>[]
def gi (P:Program) (Γ:bN) (i:AI) (f:FuncId) (o:Option (Nat×Nat)) (K:St→Prop) (st:St):Prop:=match o with|some (p,k)=>if k=998 then i.un=[]∧jL P Γ i.d f (i.xs.map (ev st.vars)) p k K st else if k=996 then lP (A7 (gO Γ f) st.aa ((i.xs.map (ev st.vars)).map strip)) st i.un∧stepG Γ i.d f (i.xs.map (ev st.vars)) (gO Γ f) K st else False|none=>cI P Γ ⟨i.d,i.k,i.xs,i.g,[],none⟩ K st
def cy (P:Program) (Γ:bN) (i:AI) (K:St→Prop) (st:St):Prop:=match i.k,i.tg,i.g with|.call f,some 999999,none=>gi P Γ i f (di Γ f) K st|.gp,some 999999,none=>eY P Γ i.d (i.xs.map (ev st.vars)) none K st|_,_,_=>cI P Γ i K st
def steps (P:Program) (Γ:bN) (is:List AI) (K:St→Prop) (st:St):Prop:=match is with|[]=>K st|i::is=>cy P Γ i (fun st'=>steps P Γ is K st') st
def fV (P:Program) (Γ:bN) (i:AI) (f:FuncId) (o:Option (Nat×Nat)) (K:St→Prop) (st:St):Prop:=match o with|some (p,k)=>if k=997 then xS P Γ i.d f (i.xs.map (ev st.vars)) p K st else if k=996 then stepG Γ i.d f (i.xs.map (ev st.vars)) (gO Γ f) K st else jL P Γ i.d f (i.xs.map (ev st.vars)) p k K st|none=>ki P Γ i f K st
def za (aa:Nat→Option AO) (e:TypeId) (zs:List Value):AV→Option (Nat×AO)|.own t=>(cE (aa t)).bind fun r=>if r.1=e then some (t,.arr e (List.replicate r.2.length (zs.map pT))) else none|.sub t e1 lo hi=>(cE (aa t)).bind fun r=>if r.1=e∧e1=e then some (t,.arr e (r.2.take lo++List.replicate (hi-lo) (zs.map pT)++r.2.drop hi)) else none|_=>none
def mW (d:Option Nat) (e:TypeId) (sz:Nat) (zs:List Value) (xs:List AV) (K:St→Prop) (st:St):Prop:=an xs∧ai ((xs.map strip).head?) fun X=>ai (za st.aa e zs X) fun r=>K ((bz.uI r.1 r.2).on d st)
def b7 (P:Program) (Γ:bN) (i:AI) (K:St→Prop) (st:St):Prop:=match i.g with|none=>cI P Γ i K st|some (s,w)=>gb (fb ((i.xs.map (ev st.vars)).map strip)) (GN (bE (st.vars s) w)) (cI P Γ i K st) (K ((bz.put (.b5 false .ar)).on i.d st))
def uS:Option AO→Option (List (PV×AV))|some (.map es)=>some es|_=>none
def oP (d:Option Nat) (xs ys:List AV) (K:St→Prop) (st:St):Prop:=match ys with|[.pv (.int .u64 a),.pv (.int .u64 b),.pv (.int .u64 c)]=>an xs∧(0≤a∧0≤b∧0≤c∧c≤1)∧K ⟨put d (.aL [.pv (.int .u64 ((a+b+c)%18446744073709551616)),.pv (.int .u64 ((a+b+c)/18446744073709551616))]) st.vars,st.aa⟩|_=>False
def kH (d:Option Nat) (e:TypeId) (bytes:Nat) (zs:List Value) (xs ys:List AV) (K:St→Prop) (st:St):Prop:=match ys with|[.pv .nil,.pv (.int .i64 n)]=>ai d fun d=>an xs∧(0≤n∧n≤140737488355328∧n.toNat*bytes≤140737488355328)∧st.aa d=none∧K ⟨put (some d) (.own d) st.vars,bn [(d,.arr e (List.replicate n.toNat (zs.map pT)))] st.aa⟩|_=>False
def xK (d:Option Nat) (e:TypeId) (bytes:Nat) (zs:List Value) (xs ys:List AV) (K:St→Prop) (st:St):Prop:=match ys with|[.pv (.int _ n),.pv (.int _ c)]=>ai d fun d=>an xs∧(c=n∧0≤n∧n≤140737488355328∧n.toNat*bytes≤140737488355328)∧st.aa d=none∧K ⟨put (some d) (.own d) st.vars,bn [(d,.arr e (List.replicate n.toNat (zs.map pT)))] st.aa⟩|_=>False
def vj (d:Option Nat) (e:TypeId) (xs ys:List AV) (K:St→Prop) (st:St):Prop:=ai d fun d=>an xs∧eV ys=true∧st.aa d=none∧K ⟨put (some d) (.own d) st.vars,bn [(d,.rws e ys)] st.aa⟩
def nD (d:Option Nat) (e:TypeId) (sz:Nat) (xs ys:List AV) (K:St→Prop) (st:St):Prop:=ai d fun d=>an xs∧ai (rowsOf ys) fun rows=>(∀r∈rows,r.length=sz)∧st.aa d=none∧K ⟨put (some d) (.own d) st.vars,bn [(d,.arr e rows)] st.aa⟩
def qf:List AV→Option (Nat×Nat)|[]=>none|c::l=>match c with|.own q=>some (0,q)|_=>(qf l).map fun r=>(r.1+1,r.2)
def tX (d:Option Nat) (X Y:AV) (xs:List AV) (K:St→Prop) (st:St):Prop:=match X,Y with|.aR t e i o,.own q=>an xs∧ai (cE (st.aa t)) fun r=>(r.1=e∧o=0)∧(0≤i∧i<r.2.length∧(rowAt r.2 i).length=1)∧K ⟨put d .ar st.vars,aH t (.rws e ((r.2.map fun x=>AV.pv (x.getD 0 .nil)).set i.toNat (.own q))) st.aa⟩|_,_=>False
def rK (d:Option Nat) (X:AV) (xs:List AV) (K:St→Prop) (st:St):Prop:=match X with|.own t=>an xs∧ai (QL (st.aa t)) fun r=>ai (qf r.2) fun j=>ai (cE (st.aa j.2)) fun s=>ai (dZ (r.2.set j.1 (.pv (.ro s.2)))) fun ps=>K ⟨put d (.own t) (EC j.2 s.1 s.2 st.vars),aH t (.arr r.1 (ps.map fun p=>[p])) (eZ j.2 st.aa)⟩|_=>False
def B9:Option AO→Option (List (PV×PV)×Option (PV×PV))|some (.lU rem cur)=>some (rem,cur)|_=>none
def kS (k v:PV):List (PV×PV)→List (PV×PV)|[]=>[(k,v)]|e::l=>if lJ k e.1=true then(k,v)::l else e::kS k v l
def nV (k:PV):List (PV×PV)→List (PV×PV)|[]=>[]|e::l=>if lJ k e.1=true then l else e::nV k l
def sr:AV→Option Bool
 |.ptr _ _|.aR _ _ _ _|.rp _|.pv (.pt _)=>some false|.pv (.val v)=>match v with|.pointer none=>some true|_=>none
 |_=>none
def oV (d:Option Nat) (s:Nat) (X Y Z:AV) (xs:List AV) (K:St→Prop) (st:St):Prop:=match X,Y,Z with|.own t,.pv k,.pv v=>an xs∧ai (pS (st.aa t)) fun es=>cX k=s∧eT s es∧K ⟨put d .ar st.vars,aH t (.gr (kS k v es)) st.aa⟩|_,_,_=>False
def El (aa:Nat→Option AO):AV→Option (List (PV×PV))|.own t=>pS (aa t)|.pv (.mv es)=>some es|_=>none
def ug (d:Option Nat) (s:Nat) (z:Value) (ok:Bool) (X Y:AV) (xs:List AV) (K:St→Prop) (st:St):Prop:=match Y with|.pv k=>an xs∧ai (El st.aa X) fun es=>z.oneCell'=true∧cX k=s∧eT s es∧K ⟨put d (vG z ok (j4 k es)) st.vars,st.aa⟩|_=>False
def tO (d:Option Nat) (s:Nat) (X Y:AV) (xs:List AV) (K:St→Prop) (st:St):Prop:=match X,Y with|.own t,.pv k=>an xs∧ai (pS (st.aa t)) fun es=>cX k=s∧eT s es∧K ⟨put d .ar st.vars,aH t (.gr (nV k es)) st.aa⟩|_,_=>False
def uM (d:Option Nat) (X:AV) (xs:List AV) (K:St→Prop) (st:St):Prop:=match X with|.pv (.mv es)=>ai d fun d=>an xs∧st.aa d=none∧K ⟨put (some d) (.ptr d 0) st.vars,bn [(d,.lU es none)] st.aa⟩|_=>False
def uw (d:Option Nat) (X:AV) (xs:List AV) (K:St→Prop) (st:St):Prop:=match X with|.ptr t 0=>an xs∧ai (B9 (st.aa t)) fun r=>(r.1=[]→K ⟨put d (.aL [.pv (.bool false)]) st.vars,st.aa⟩)∧∀(e:PV×PV) (l m:List (PV×PV)),r.1=l++e::m→K ⟨put d (.aL [.pv (.bool true),.pv e.1,.pv e.2]) st.vars,aH t (.lU (l++m) (some e)) st.aa⟩|_=>False
def um (d:Option Nat) (X:AV) (xs:List AV) (K:St→Prop) (st:St):Prop:=match X with|.ptr t 0=>an xs∧ai (B9 (st.aa t)) fun r=>ai r.2 fun e=>K ⟨put d (.aL [.pv e.1,.pv e.2]) st.vars,st.aa⟩|_=>False
def qS (d:Option Nat) (x:XK) (xs ys:List AV) (K:St→Prop) (st:St):Prop:=match x,ys with|.Rp,[X,Y]=>tX d X Y xs K st|.Be,[X]=>rK d X xs K st|.Le,[]=>ai d fun d=>st.aa d=none∧K ⟨put (some d) (.own d) st.vars,bn [(d,.gr [])] st.aa⟩|.pO s,[X,Y,Z]=>oV d s X Y (nS Z) xs K st|.Bf s z ok,[X,Y]=>ug d s z ok X Y xs K st|.VA s,[X,Y]=>tO d s X Y xs K st|.Cc ne,[X]=>an xs∧ai (sr X) fun b=>K ⟨put d (.pv (.bool (b !=ne))) st.vars,st.aa⟩|.Ss,[X]=>uM d X xs K st|.Xm,[X]=>uw d X xs K st|.V4,[X]=>um d X xs K st|.gX e sz,ys=>nD d e sz xs ys K st|_,_=>False
def aP (d:Option Nat) (x:XK) (xs:List AV) (K:St→Prop) (st:St):Prop:=match x,xs.map strip with|.L8,[]=>ai d fun d=>st.aa d=none∧K ⟨put (some d) (.own d) st.vars,bn [(d,.map [])] st.aa⟩|.Bt s,[.own t,.pv k,v]=>an xs∧ai (uS (st.aa t)) fun es=>cX k=s∧iN s es∧dC v=true∧K ⟨put d .ar st.vars,aH t (.map (jZ k v es)) st.aa⟩|.Bn s z ok,[.own t,.pv k]=>an xs∧ai (uS (st.aa t)) fun es=>cX k=s∧iN s es∧K ⟨put d (if ok=true then .aL [(getM k es).getD (ED z),.pv (.bool (getM k es).isSome)] else(getM k es).getD (ED z)) st.vars,st.aa⟩|.uO,ys=>oP d xs ys K st|.pj ne,[X]=>an xs∧ai (ez st.aa X) fun rows=>∀b:Bool,(rows≠[]→b=false)→K ⟨put d (.pv (.bool (if ne=true then !b else b))) st.vars,st.aa⟩|.vl,[.pv .nil]=>an xs∧K ⟨put d (.pv (.int .i64 0)) st.vars,st.aa⟩|.wR e sz bytes zs,ys=>kH d e bytes zs xs ys K st|.Bj e,ys=>vj d e xs ys K st|.NT e bytes zs,ys=>xK d e bytes zs xs ys K st|.Bn s z ok,[.pv (.mp ks),.pv k]=>an xs∧tw z=true∧cX k=s∧(∀x∈ks,cX x=s)∧K ⟨put d (if ok=true then .aL [.agg [],.pv (.bool (ks.any (lJ k)))] else .agg []) st.vars,st.aa⟩|.mark,[.own t]=>an xs∧ai (cE (st.aa t)) fun r=>r.2≠[]∧K ⟨put d (.pv (.ro r.2)) (EC t r.1 r.2 st.vars),eZ t st.aa⟩|x,ys=>qS d x xs ys K st
def wq (d:Option Nat) (s t:Nat) (k v:AV) (xs:List AV) (K:St→Prop) (st:St):Prop:=match k with|.pv k=>an xs∧ai (uS (st.aa t)) fun es=>cX k=s∧iN s es∧dC v=true∧K ⟨put d .ar st.vars,aH t (.map (jZ k v es)) st.aa⟩|_=>False
def UG (d:Option Nat) (s t:Nat) (z:Value) (ok:Bool) (k:AV) (xs:List AV) (K:St→Prop) (st:St):Prop:=match k with|.pv k=>an xs∧ai (uS (st.aa t)) fun es=>cX k=s∧iN s es∧K ⟨put d (if ok=true then .aL [(getM k es).getD (ED z),.pv (.bool (getM k es).isSome)] else(getM k es).getD (ED z)) st.vars,st.aa⟩|_=>False
def yQ (d:Option Nat) (x:AV) (xs:List AV) (K:St→Prop) (st:St):Prop:=match x with|.own t=>an xs∧ai (cE (st.aa t)) fun r=>r.2≠[]∧K ⟨put d (.pv (.ro r.2)) (EC t r.1 r.2 st.vars),eZ t st.aa⟩|_=>False
def qP (d:Option Nat) (s:Nat) (ks:List PV) (z:Value) (ok:Bool) (k:AV) (xs:List AV) (K:St→Prop) (st:St):Prop:=match k with|.pv k=>an xs∧tw z=true∧cX k=s∧(∀x∈ks,cX x=s)∧K ⟨put d (if ok=true then .aL [.agg [],.pv (.bool (ks.any (lJ k)))] else .agg []) st.vars,st.aa⟩|_=>False
def j8 (d:Option Nat) (x:AV) (xs:List AV) (K:St→Prop) (st:St):Prop:=match x with|.pv .nil=>an xs∧K ⟨put d (.pv (.int .i64 0)) st.vars,st.aa⟩|_=>False
def D6 (d:Option Nat) (ne:Bool) (rows:List (List PV)) (K:St→Prop) (st:St):Prop:=∀b:Bool,(rows≠[]→b=false)→K ⟨put d (.pv (.bool (if ne=true then !b else b))) st.vars,st.aa⟩
def zx (i:AI) (x:XK) (s:Nat) (w:Bool) (K:St→Prop) (st:St):Prop:=ai (bE (st.vars s) w) fun c=>if c=true then aP i.d x (i.xs.map (ev st.vars)) K st else K ((bz.put (.b5 false .ar)).on i.d st)
def Yt (t:Nat) (rows:List (List PV)):AV→AV|.own s=>if s=t then .pv (.ro rows) else .own s|v=>kill t v
def zC (t:Nat) (rows:List (List PV)) (f:Nat→AV):Nat→AV:=fun s=>Yt t rows (f s)
def CJ (aa:Nat→Option AO) (e:TypeId):List AV→Option (Nat×List (List PV)×List (List PV))|[.own t,x]=>(cE (aa t)).bind fun r=>(cB aa x).bind fun more=>if r.1=e then some (t,r.2,more) else none|_=>none
def vr (d:Option Nat) (e:TypeId) (sz bytes:Nat) (xs:List AV) (K:St→Prop) (st:St):Prop:=an xs∧ai (CJ st.aa e (xs.map strip)) fun r=>((r.2.1.length+r.2.2.length)*bytes≤140737488355328∧r.2.1.length+r.2.2.length≤maxLen∧(∀q∈r.2.2,q.length=sz))∧r.1%1000≠999∧K ⟨put d (.pv (.ro (r.2.1++r.2.2))) (zC r.1 r.2.1 st.vars),eZ r.1 st.aa⟩
def Qs (i:AI):Option (TypeId×Nat×Nat):=match i.k,i.tg,i.g with|.app e sz b,some 999998,none=>some (e,sz,b)|_,_,_=>none
def FW (x:XK) (i:AI) (st:St):St:=match x with|.pO _=>cw st ((i.xs.map (ev st.vars)).map strip)|_=>st
def iL (P:Program) (Γ:bN) (i:AI) (K:St→Prop) (st:St):Prop:=match i.k,i.g with|.ex x,none=>aP i.d x (i.xs.map (ev (FW x i st).vars)) K (FW x i st)|.ex x,some (s,w)=>zx i x s w K st|.fx _ _,_=>b7 P Γ i K (cw st ((i.xs.map (ev st.vars)).map strip))|.AM e sz zs,none=>mW i.d e sz zs (i.xs.map (ev st.vars)) K st|.call f,some (s,w)=>zZ P Γ i f s w K st|.gp,g=>eY P Γ i.d (i.xs.map (ev st.vars)) g K st|.call f,none=>fV P Γ i f (di Γ f) K st|.bf _,_=>cI P Γ i K (qM (i.d.getD 0) st)|_,_=>b7 P Γ i K st
def bS (P:Program) (Γ:bN) (i:AI) (K:St→Prop) (st:St):Prop:=match Qs i with|some r=>if mO ((i.xs.map (ev st.vars)).map strip)=true then vr i.d r.1 r.2.1 r.2.2 (i.xs.map (ev st.vars)) K st else iL P Γ i K st|none=>iL P Γ i K st
def cC (P:Program) (Γ:bN) (is:List AI) (K:St→Prop) (st:St):Prop:=match is with|[]=>K st|i::is=>bS P Γ i (fun st'=>cC P Γ is K st') st
def iv (b8:List Nat) (f:Nat→AV):Nat→AV:=fun s=>if b8.contains s then f s else .ar
structure Fr where
 vs:List (Nat×AV)
 os:List (Nat×AO)
def Fr.st (f:Fr):St:=⟨look f.vs,ab f.os⟩
def iR (os:List (Nat×AO)):AV→Prop|.own t|.ptr t _|.aR t _ _ _|.sub t _ _ _=>ay (ab os) t|.pv _|.rp _|.ar=>True|_=>False
def fR (os:List (Nat×AO)):List AV→Prop|[]=>True|c::cs=>iR os c∧fR os cs
def kP (os:List (Nat×AO)):AV→Prop|.agg cs|.bA _ cs|.aL cs=>fR os cs|.b5 _ v=>iR os v|v=>iR os v
def ue (os:List (Nat×AO)):AO→Prop|.box cs=>fR os cs|.arr _ _=>True|.map _=>True|.gr _=>True|.lU _ _=>True|.rws _ cs=>fR os cs
def J6 (ad:List Nat) (st:St) (os:List (Nat×AO)):List (Nat×AV)→Prop|[]=>True|(s,v)::l=>(v=.ar∨(st.vars s=v∧kP os v)∨(∃t,v=.own t∧ad.contains t=true∧ay (ab os) t∧st.vars s=.pv .nil))∧J6 ad st os l
def Lh (P:Program) (ad:List Nat) (st:St) (os:List (Nat×AO)):List (Nat×AO)→Prop|[]=>True|(t,o)::l=>((st.aa t=some o∧ad.contains t=false∧ue os o)∨(∃e,o=.arr e []∧ad.contains t=true∧st.aa t=none∧(P.info? e).isSome=true∧t%1000≠999))∧Lh P ad st os l
def wk (P:Program) (ad:List Nat) (st:St) (f:Fr):Prop:=J6 ad st f.os f.vs∧Lh P ad st f.os f.os
def cz (st:St):List (Nat×Option (Option Nat))→(List AV→Prop)→Prop|[],C=>C []|(t,none)::l,C=>cz st l fun vs=>C (st.vars t::vs)|(a,some n)::l,C=>ai (ak (.load n) [st.vars a] st.aa) fun x=>x.1∧cz st l fun vs=>C (x.2::vs)
def bL:List AV→AV|[v]=>v|vs=>.aL vs
def th (P:Program) (aa:Nat→Option AO) (v r:AV):Prop:=match r with|.fr e rows=>(∃t,v=.own t∧aa t=some (.arr e rows))∨(v=.pv .nil∧rows=[]∧(P.info? e).isSome=true)∨(∃t hi rs,v=.sub t e 0 hi∧aa t=some (.arr e rs)∧rows=rs.take hi)|r=>v=r∧ij r=true
def xP (P:Program) (aa:Nat→Option AO):List AV→List AV→Prop|[],[]=>True|c::cs,r::rs=>th P aa c r∧xP P aa cs rs|_,_=>False
def zY (P:Program) (aa:Nat→Option AO) (v r:AV):Prop:=match v,r with|.agg cs,.agg rs=>xP P aa cs rs|.agg _,_=>False|v,r=>th P aa v r
def xy (P:Program) (aa:Nat→Option AO):List AV→List AV→Prop|[],[]=>True|c::cs,r::rs=>zY P aa c r∧xy P aa cs rs|_,_=>False
def fz (P:Program) (aa:Nat→Option AO) (v r:AV):Prop:=match v,r with|.aL vs,.aL rs=>vs.length≤1000∧xy P aa vs rs|.aL _,_=>False|v,r=>zY P aa v r
def pI (j:Nat):List AV→List (Nat×Nat)|[]=>[]|.own t::cs=>(1000*j,t)::pI (j+1) cs|.sub t _ _ _::cs=>(1000*j,t)::pI (j+1) cs|_::cs=>pI (j+1) cs
def Lx:AV→List (Nat×Nat)|.agg cs=>pI 0 cs|.own t=>[(0,t)]|.sub t _ _ _=>[(0,t)]|_=>[]
def zF (i:Nat):List AV→List (Nat×Nat)|[]=>[]|v::vs=>(Lx v).map (fun x=>(x.1+i,x.2))++zF (i+1) vs
def pl:AV→List (Nat×Nat)|.aL vs=>zF 0 vs|v=>Lx v
def jr:List (Nat×Nat)→Prop|[]=>True|x::l=>(∀y∈l,y.2≠x.2)∧jr l
def pQ:AV→AV→List Nat|.own t,.pv (.ro _)=>[t]|.pv .nil,.pv (.ro _)=>[999996]|.own t,.pv (.mv _)=>[t+1000000000000000]|_,_=>[]
def ud:List AV→List AV→List Nat|c::cs,r::rs=>pQ c r++ud cs rs|_,_=>[]
def zM:AV→AV→List Nat|.agg cs,.agg rs=>ud cs rs|v,r=>pQ v r
def uh:List AV→List AV→List Nat|c::cs,r::rs=>zM c r++uh cs rs|_,_=>[]
def lB:AV→AV→List Nat|.aL vs,.aL rs=>uh vs rs|v,r=>zM v r
def uj (P:Program) (rs:List (Nat×Option (Option Nat))) (r:AV) (st:St):Prop:=cz st rs fun vs=>fz P st.aa (bL vs) r∧jr (pl (bL vs))
def Ends (P:Program) (rs:List (Nat×Option (Option Nat))) (r:AV) (st:St):Prop:=cz st rs fun vs=>uj P rs r (ck (lB (bL vs) r) st)
def ky (aa:Nat→Option AO) (l:List (Nat×Nat)):List (Nat×AO)→Prop|[]=>True|x::hout=>aa x.1=some x.2∧(∀y∈l,y.2≠x.1)∧ky aa l hout
def mo (P:Program) (rs:List (Nat×Option (Option Nat))) (r:AV) (hout:List (Nat×AO)) (st:St):Prop:=cz st rs fun vs=>fz P st.aa (bL vs) r∧jr (pl (bL vs))∧ky st.aa (pl (bL vs)) hout
def lK (P:Program) (rs:List (Nat×Option (Option Nat))) (r:AV) (hout:List (Nat×AO)) (st:St):Prop:=cz st rs fun vs=>mo P rs r hout (ck (lB (bL vs) r) st)
def yb (K:St→Prop):Exit→St→Prop|.ret,st=>K st|_,_=>False
def mL (id:Nat) (K:St→Prop) (J:Exit→St→Prop):Exit→St→Prop|.exit id',st=>if id'=id then K st else J (.exit id') st|e,st=>J e st
def gq (P:Program) (Γ:bN):AC→(St→Prop)→(Exit→St→Prop)→St→Prop|.skip,K,_,st=>K st|.ag is d b8,K,_,st=>if d then steps P Γ is (fun st'=>K ⟨iv b8 st'.vars,st'.aa⟩) st else cC P Γ is (fun st'=>K ⟨iv b8 st'.vars,st'.aa⟩) st|.seq a b,K,J,st=>gq P Γ a (fun st'=>gq P Γ b K J st') J st|.cond x a b,K,J,st=>ai (hZ (ev st.vars x)) fun c=>(c=true→gq P Γ a K J st)∧(c=false→gq P Γ b K J st)|.block id a,K,J,st=>gq P Γ a K (mL id K J) st|.loop a,_,J,st=>∃(ι:Type) (F:ι→Fr) (μ:ι→Nat) (ad shs:List Nat) (i0:ι),wk P ad (ck shs st) (F i0)∧∀i,gq P Γ a (fun st'=>∃i',wk P [] (ck shs st') (F i')∧μ i'<μ i) J (F i).st|.exit id,_,J,st=>J (.exit id) st|.ret,_,J,st=>J .ret st
def lA (P:Program) (t:TypeId):Option (Option Nat):=match P.underlying t with|some (.struct _)|some (.array _ _)=>(P.info? t).map fun i=>some i.size|some _=>some none|none=>none
def cf (P:Program) (t:TypeId):Option Nat:=(P.info? t).map (·.size)
def dk (P:Program) (t:TypeId):Option (List Value):=(P.info? t).bind fun i=>i.zero.bind fun z=>if z.cells.size=i.size then some z.cells.toList else none
def eo:Operand→Bool|.const (.slice none 0 0)=>true|_=>false
def nN (P:Program) (fs:Array Field):List (Nat×Operand)→Option (List (Nat×Nat))|[]=>some []|(i,_)::l=>match fs[i]?,nN P fs l with|some f,some r=>(cf P f.type).map fun n=>(f.offset,n)::r|_,_=>none
def pY (P:Program) (f:TypeId→Option (List Nat)):Nat→List Field→Option (List Nat)|_,[]=>some []|off,fl::fs=>if fl.name≠ "_" ∧fl.offset=off then(f fl.type).bind fun a=>if cf P fl.type=some a.length then(pY P f (off+a.length) fs).map (a++·) else none else none
def kN (P:Program):Nat→TypeId→Option (List Nat)|0,_=>none|n+1,t=>match P.underlying t with|some .bool=>some [0]|some .string=>some [1]|some (.int k)=>some [2+lC k]|some (.struct fs)=>if P.stoodInHeld t=false then pY P (kN P n) 0 fs.toList else none|_=>none
def cN (P:Program) (b:Builtin) (xs:List Operand) (ts:List TypeId):Option (AK×List Operand):=match b,xs,ts with
 |.len,[x],[t]=>match P.underlying t with|some .string=>some (.mS,[x])|some (.slice _)=>some (.len,[x])|_=>none
 |.append,[s,x],[t,t']=>match P.underlying t,P.underlying t' with
  |some (.slice e),some .string=>match P.info? e with|some i=>if i.size=1∧(dk P e).isSome=true then some (.app e i.size i.bytes,[s,x]) else none|none=>none
  |some (.slice e),some (.slice _)=>match P.info? e with|some i=>if 0<i.size∧(dk P e).isSome=true then some (.app e i.size i.bytes,[s,x]) else none|none=>none
  |_,_=>none
 |.min,[x,y],[_,_]=>some (.BL false,[x,y])|.max,[x,y],[_,_]=>some (.BL true,[x,y])|.clear,[x],[t]=>match P.underlying t with
  |some (.slice e)=>match cf P e,dk P e with|some sz,some zs=>if 0<sz∧zs.all (·.oneCell')=true then some (.AM e sz zs,[x]) else none|_,_=>none
  |_=>none
 |_,_,_=>none
def fA (P:Program) (c:Call):Option (AK×List Operand):=match c.callee with|.builtin b=>cN P b c.args.toList c.argTypes.toList|.value (.func f)=>if fQ P f then some (.call f,c.args.toList) else none|.value x=>some (.gp,x::c.args.toList)|.invoke _ _=>none
def jc (P:Program) (t:TypeId):Option Nat:=match P.underlying t with|some .bool=>some 0|some .string=>some 1|some (.int k)=>some (2+lC k)|_=>none
def zeroV (P:Program) (t:TypeId):Option Value:=(P.info? t).bind (·.zero)
def ie (P:Program) (t:TypeId):Option (TypeId×TypeId):=match P.underlying t with|some (.map k e)=>some (k,e)|_=>none
def vw (P:Program) (f:FuncId):Bool:=match P.funcs[f]? with|some fn=>fn.name== "math/bits.Add64" &&fn.body.isNone&&(Extern.findNext fn).isNone|none=>false
def uP (P:Program) (b:Builtin) (xs:List Operand) (ts:List TypeId):Option (XK×List Operand):=match b,xs,ts with
 |.cap,[x],[t]=>match P.underlying t with|some (.slice _)=>some (.vl,[x])|_=>none
 |.append,[s,x],[t,t']=>match P.underlying t,P.underlying t' with
  |some (.slice e),some (.int _)=>match P.info? e,dk P e with|some i,some zs=>if 0<i.size∧zs.all (·.oneCell')=true then some (.wR e i.size i.bytes zs,[s,x]) else none|_,_=>none
  |_,_=>none
 |_,_,_=>none
def Zg (P:Program) (e:TypeId):Bool:=match(P.info? e).map (fun i:TypeInfo=>i.desc),P.underlying e with|some (TypeDesc.named _ _),some (TypeDesc.slice _)=>true|_,_=>false
def UF (P:Program) (e:TypeId):Bool:=match P.underlying e with|some (.int .u64)=>true|_=>false
def AW (P:Program) (o:Oper):Bool:=match o.op,o.dst with
 |.move (.tmp 8),some 193|.assign (.tmp 8),some 193=>match P.underlying o.type with
  |some (.slice e)=>match P.underlying e with|some (.slice _)=>true|_=>false
  |_=>false
 |.store t (.tmp 160) (.tmp 159),none=>match P.underlying t with|some (.slice _)=>true|_=>false
 |_,_=>false
def sF (P:Program) (o:Oper):Option (XK×List Operand):=match o.op with
 |.makeMap t none=>match ie P t with|some _=>some (.L8,[])|none=>none
 |.mapUpdate t m k x|.insert t m k x=>match ie P t with
  |some (kt,_)=>match jc P kt with|some s=>some (.Bt s,[m,k,x])|none=>none
  |none=>none
 |.lookup t m k ok=>match ie P t with
  |some (kt,et)=>match jc P kt,zeroV P et with|some s,some z=>some (.Bn s z ok,[m,k])|_,_=>none
  |none=>none
 |.buildSlice t n ps=>match P.underlying t with
  |some (.slice e)=>match cf P e,dk P e with|some sz,some zs=>if UF P e=true∧ps.toList.map (·.1)=List.range n∧n*sz≤2^24∧zs.length=sz∧0<sz then some (.gX e sz,ps.toList.map (·.2)) else if sz=1∧ps.toList.map (·.1)=List.range n∧n*sz≤2^24∧zs.length=sz then some (.Bj e,ps.toList.map (·.2)) else none|_,_=>none
  |_=>none
 |.convert src dst x=>if src=dst then match P.underlying src with
  |some (.slice e)=>match P.underlying e with|some (.int .u8)=>some (.mark,[x])|_=>none
  |_=>none else none|.makeSlice t l c=>match P.underlying t with
  |some (.slice e)=>match P.info? e,dk P e with|some i,some zs=>if 0<i.size∧zs.all (·.oneCell')=true then some (.NT e i.bytes zs,[l,c]) else none|_,_=>none
  |_=>none
 |.binOp op t x y _=>match P.underlying t with|some (.slice _)=>if eo y then match op with|.eql=>some (.pj false,[x])|.neq=>some (.pj true,[x])|_=>none else none|_=>none
 |.call c=>match c.callee with|.value (.func f)=>if vw P f=true then some (.uO,c.args.toList) else none|.builtin b=>uP P b c.args.toList c.argTypes.toList|_=>none
 |.move x=>if AW P o=true then some (.Be,[x]) else none|.assign x=>if AW P o=true then some (.Be,[x]) else none|.store t x y=>if AW P o=true∧cf P t=some 1 then some (.Rp,[x,y]) else none|_=>none
def GF (P:Program) (t:TypeId):Bool:=match P.underlying t with|some .bool|some .string|some (.int _)|some (.func _ _ _)|some (.slice _)=>true|_=>false
def ye (P:Program) (o:Oper):Option (XK×List Operand):=match o.op with
 |.makeMap t none=>match ie P t with|some (_,et)=>if GF P et=true then some (.Le,[]) else none|none=>none
 |.mapUpdate t m k x|.insert t m k x=>match ie P t with
  |some (kt,et)=>match jc P kt with|some s=>if GF P et=true then some (.pO s,[m,k,x]) else none|none=>none
  |none=>none
 |.lookup t m k ok=>match ie P t with
  |some (kt,et)=>match jc P kt,zeroV P et with|some s,some z=>if GF P et=true then some (.Bf s z ok,[m,k]) else none|_,_=>none
  |none=>none
 |.binOp op t x y _=>match P.underlying t with
  |some (.pointer _)=>match y with
   |.const (.pointer none)=>match op with|.eql=>some (.Cc false,[x])|.neq=>some (.Cc true,[x])|_=>none
   |_=>none
  |_=>none
 |.call c=>match c.callee,c.args.toList,c.argTypes.toList with
  |.builtin .delete,[m,k],[t,kt']=>match ie P t with
   |some (kt,et)=>match jc P kt with|some s=>if GF P et=true∧kt'=kt then some (.VA s,[m,k]) else none|none=>none
   |none=>none
  |_,_,_=>none
 |.range t x=>match ie P t with|some _=>some (.Ss,[x])|none=>none
 |.next x false=>some (.Xm,[x])|.entry x=>some (.V4,[x])|_=>none
def iK (P:Program) (o:Oper):XK×List Operand:=match ye P o with|some r=>r|none=>(sF P o).getD (.dead,[])
def fy (P:Program) (o:Oper):Option (AK×List Operand):=match o.op with
 |.move x|.assign x=>if eo x then match P.underlying o.type with|some (.slice e)=>if(P.info? e).isSome then some (.bf e,[]) else none|_=>none else some (.aB,[x])|.pick c a b=>some (.pick,[c,a,b])|.alloc e=>(dk P e).map fun zs=>(.alloc zs,[])|.box _ x=>some (.box,[x])|.build t ps=>match dk P t,P.underlying t with|some zs,some (.struct fs)=>if fs.all (fun f=>(P.info? f.type).isSome)=false then none else(nN P fs ps.toList).map fun l=>(.eR zs l,ps.toList.map (·.2))|_,_=>none
 |.buildSlice t n ps=>match P.underlying t with
  |some (.slice e)=>match cf P e,dk P e with|some sz,some zs=>if(Zg P e||UF P e)=false∧ps.toList.map (·.1)=List.range n∧n*sz≤2^24∧zs.length=sz∧0<sz then some (.fx e sz,ps.toList.map (·.2)) else none|_,_=>none
  |_=>none
 |.load t a=>(lA P t).map fun n=>(.load n,[a])|.store t a v=>match lA P t with|some none=>if cf P t=some 1 then some (.store none,[a,v]) else none|some (some n)=>some (.store (some n),[a,v])|none=>none
 |.binOp op t x y _=>match P.underlying t with
  |some .bool=>match op with|.eql=>some (.beq false,[x,y])|.neq=>some (.beq true,[x,y])|_=>none
  |some (.int _)|some .string=>some (.bin op,[x,y])|some (.struct _)=>match kN P 8 t with
   |some ks=>if ks.all (·<99)=true∧P.eqGuardType P.depth t=false then match op with|.eql=>some (.eqs false ks,[x,y])|.neq=>some (.eqs true ks,[x,y])|_=>none else none|none=>none
  |_=>none
 |.unOp .not _ x=>some (.not,[x])|.unOp .neg _ x=>some (.neg,[x])|.convert src dst x=>match P.underlying src,P.underlying dst with
  |some (.int _),some (.int k)=>some (.iO k,[x])|some .string,some .string=>some (.Ag,[x])|some (.slice e),some .string=>match P.underlying e with|some (.int .u8)=>some (.lE,[x])|_=>none
  |some .string,some (.slice e)=>match P.underlying e with|some (.int .u8)=>some (.lF e,[x])|_=>none
  |_,_=>none
 |.fieldAddr s x i=>match P.underlying s with
  |some (.struct fs)=>match fs[i]? with
   |some f=>match cf P f.type with|some (_+1)=>some (.aD f.offset,[x])|_=>none
   |none=>none
  |_=>none
 |.field s x i=>match P.underlying s with
  |some (.struct fs)=>match fs[i]? with|some f=>(lA P f.type).map fun n=>(.DW f.offset n,[x])|none=>none
  |_=>none
 |.indexAddr t x i=>match P.underlying t with|some (.slice e)=>(cf P e).map fun sz=>(.aY e sz,[x,i])|some (.array n e)=>(cf P e).map fun sz=>(.Eu n sz,[x,i])|_=>none
 |.index t x i=>match P.underlying t with|some .string=>some (.pK,[x,i])|_=>none
 |.slice t x lo hi none=>match P.underlying t with|some .string=>some (.FN lo.isSome hi.isSome,[x]++lo.toList++hi.toList)|some (.slice e)=>(cf P e).map fun sz=>(.lH sz lo.isSome hi.isSome,[x]++lo.toList++hi.toList)|_=>none
 |.extract x i=>some (.ext i,[x])|.nilCheck x=>some (.dG,[x])|.makeFunc (.func f) first caps=>match first.toList with|[]=>some (.zV f,caps.toList)|_=>none
 |.call c=>fA P c|_=>none
def fS (P:Program) (o:Oper):Option (AK×List Operand):=match if AW P o=true then none else fy P o with|some r=>some r|none=>some (.ex (iK P o).1,(iK P o).2)
theorem dt {P:Program}{o:Oper}{k:AK}{xs:List Operand} (h:fS P o=some (k,xs)):fy P o=some (k,xs)∨∃x,k=.ex x∧iK P o=(x,xs):=by
 unfold fS at h;split at h
 ·rename_i r hr;split at hr;·cases hr
  ·rw[hr];exact .inl h
 ·cases h;exact .inr ⟨_,rfl,rfl⟩
def makes:AK→Bool|.bf _|.box|.alloc _|.fx _ _|.app _ _ _|.call _|.gp|.lE|.lF _|.ex .L8|.ex .Le|.ex .Ss|.ex (.wR _ _ _ _)|.ex (.Bj _)|.ex (.NT _ _ _)=>true|_=>false
def writes:AK→Bool|.store _|.app _ _ _=>true|_=>false
def aE:AK→Bool|.aB|.bin _|.beq _|.not|.neg|.iO _|.Ag=>true|_=>false
def tmpsOf:List Operand→List Nat|[]=>[]|.tmp t::l=>t::tmpsOf l|_::l=>tmpsOf l
def cD (i:AI):List Nat:=tmpsOf i.xs++(match i.g with|some (s,_)=>[s]|none=>[])
def vE:Option Nat→Bool|some _=>true|none=>false
def bX (i:AI):List Nat:=if makes i.k then i.d.toList else if writes i.k then i.tg.toList else[]
def isApp:AK→Bool|.app _ _ _=>true|_=>false
def UY:AK→Bool|.alloc _=>true|_=>false
def vC:AK→Bool|.load _|.aD _=>true|_=>false
def yA (x y:AI):Bool:=isApp x.k&&x.g.isNone&&y.g.isNone&&y.tg.isNone&&(match x.d,y.d with|some d,some d'=>!(cD y).contains d&&!(cD x).contains d'&&d !=d'&&decide (d<1000)&&decide (d'<1000)&&((UY y.k&&y.xs.isEmpty)||(vC y.k&&y.un.contains d&&y.un.all fun t=>x.un.contains (t+1000)))|_,_=>false)
def yU (x y:AI):Bool:=(match x.d with|some d=>!(cD y).contains d&&y.d !=some d&&y.tg !=some d&&decide (d<1000)|none=>true)&&(match y.d with|some d=>!(cD x).contains d&&x.tg !=some d&&decide (d<1000)|none=>true)&&((aE y.k&&y.un.isEmpty)||(!isApp x.k&&(!writes x.k||vE x.tg)&&(bX x).all fun t=>decide (t<1000)&&y.un.contains t))&&((aE x.k&&x.un.isEmpty)||(!isApp y.k&&(!writes y.k||vE y.tg)&&(bX y).all fun t=>decide (t<1000)&&x.un.contains t))&&(aE x.k||aE y.k||!writes x.k||!writes y.k||x.tg !=y.tg)
def qT (x y:AI):Bool:=yU x y||yA x y
def CU (P:Program) (N:Nat) (ops:Array Oper) (o:Oper):Option AI:=match fS P o with|none=>none|some (k,xs)=>let okd:=match o.dst with|some d=>decide (d<N∧d<1000)|none=>!makes k&&(k matches .store _||k matches .AM _ _ _||k matches .ex _)
 if !okd then none else match o.guard with|none=>some ⟨o.dst,k,xs,none,[],none⟩|some (j,want)=>match(ops[j]?).bind (·.dst) with|some s=>some ⟨o.dst,k,xs,some (s,want),[],none⟩|none=>none
def sx (P:Program) (N:Nat) (ops:Array Oper):List Oper→Option (List AI)|[]=>some []|o::l=>match CU P N ops o,sx P N ops l with|some i,some is=>some (i::is)|_,_=>none
def bits (ops:Array Oper) (i j:Nat):Bool:=((Region.before ops).getD j 0).testBit i
def j7 (ops:Array Oper) (i j:Nat):Bool:=!bits ops i j||match ops[j]? with|some o=>o.after.any fun e=>Region.binds .any e&&(e.on==i||(decide (i<e.on)&&decide (e.on<j)&&bits ops i e.on))|none=>false
def iZ (ops:Array Oper) (j:Nat):Bool:=match ops[j]? with|some o=>o.after.all fun e=>!Region.binds .any e||decide (e.on<j)|none=>true
def Dj (ops:Array Oper) (is:Array AI):Bool:=(List.range ops.size).all fun j=>iZ ops j&&(List.range j).all fun i=>j7 ops i j&&(bits ops i j||match is[i]?,is[j]? with|some x,some y=>qT x y|_,_=>false)
def YM (ops:Array Oper) (is:Array AI) (j:Nat):List Nat:=let b:=Region.before ops
 (List.range is.size).filterMap fun i=>if i=j||(b.getD j 0).testBit i||(b.getD i 0).testBit j then none else match is[i]?,is[j]? with|some x,some y=>if aE y.k then none else(bX x).head?|_,_=>none
def Z9 (ops:Array Oper) (is:Array AI) (j:Nat):List Nat:=let b:=Region.before ops
 match is[j]? with|some y=>if isApp y.k then(List.range is.size).flatMap fun i=>if i=j||(b.getD j 0).testBit i||(b.getD i 0).testBit j then[] else match is[i]? with|some x=>if vC x.k then x.un.map (·+1000) else[]|none=>[] else[]|none=>[]
def gJ (ops:Array Oper) (is:Array AI) (j:Nat):List AI→List AI|[]=>[]|i::l=>{i with un:=i.un++Z9 ops is j}::gJ ops is (j+1) l
def pz (ops:Array Oper) (is:Array AI) (j:Nat):List AI→List AI|[]=>[]|i::l=>{i with un:=YM ops is j}::pz ops is (j+1) l
def YS (is:List AI) (i:AI):Option Nat:=match i.k,i.xs with|.store _,.tmp s::_=>if is.any fun x=>x.d==some s&&(match x.k with|.alloc _|.box=>true|_=>false) then some s else none|_,_=>none
def tS (is:List AI):List AI→List AI|[]=>[]|i::l=>{i with tg:=YS is i}::tS is l
def U6 (i:AI):Option Nat:=match i.k,i.xs with|.store _,.tmp s::_=>some s|_,_=>none
def nI:List AI→List AI|[]=>[]|i::l=>{i with tg:=U6 i}::nI l
def T9 (x:AI):Operand→Bool|.const _=>true|.tmp s=>x.d !=some s|_=>false
def G2 (y x:AI):Bool:=match y.k,y.xs,y.d,y.g,y.tg,y.un with|.aB,[o],some dd,none,none,[]=>T9 x o&&!(cD x).contains dd&&x.d !=some dd|_,_,_,_,_,_=>false
def WZ (y x:AI):Bool:=match y.k,y.xs,y.d,y.g,y.tg,x.k with|.load _,[.tmp s],some dd,none,none,.call _=>x.d !=some s&&!(cD x).contains dd&&x.d !=some dd&&dd !=s|_,_,_,_,_,_=>false
def zy (y:AI):List Nat:=match y.k,y.xs with|.load _,[.tmp s]=>[s]|_,_=>[]
def DO:AK→Bool|.call _|.gp=>true|_=>false
def iU (ops:Array Oper) (is:Array AI) (j:Nat):List Nat:=(List.range j).flatMap fun q=>if bits ops q j then[] else match is[q]? with|some y=>zy y|none=>[]
def xw (ops:Array Oper) (is:Array AI) (j:Nat) (x:AI):Bool:=DO x.k&&x.g.isNone&&x.tg.isNone&&x.un.isEmpty&&(List.range is.size).all fun q=>q==j||(if q<j then bits ops q j else bits ops j q)||(match is[q]? with|some y=>(G2 y x||(decide (q<j)&&WZ y x))&&(match y.d with|some dd=>!(iU ops is j).contains dd|none=>true)|none=>false)
def yj (ops:Array Oper) (is:Array AI) (j:Nat):List AI→List AI|[]=>[]|i::l=>(if xw ops is j i then{i with tg:=some 999999,un:=iU ops is j} else i)::yj ops is (j+1) l
def wg (b:Nat):List AI→Bool|[]=>false|i::l=>(match i.k,i.xs with|.aB,[.tmp s]=>s==b|_,_=>false)||(if i.d==some b then false else wg b l)
def HW (s:Nat):List AI→Option Nat|[]=>none|i::l=>if i.d==some s then(match i.k,i.xs with|.aB,[.tmp b]=>some b|_,_=>none) else HW s l
def Yf (i:AI) (pre l:List AI):Bool:=match i.k,i.xs,i.g with
 |.app _ _ _,.tmp s::_,none=>match HW s pre with|some b=>wg b l|none=>false
 |_,_,_=>false
def sX (pre:List AI):List AI→List AI|[]=>[]|i::l=>(if Yf i pre l then{i with tg:=some 999998} else i)::sX (i::pre) l
def drawn (ops:Array Oper) (js:List AI):Option AC:=let hs:=pz ops js.toArray 0 js
 let ks:=gJ ops hs.toArray 0 hs
 if Dj ops ks.toArray&&ks.all (fun i=>i.tg !=some 999999) then some (.ag (yj ops ks.toArray 0 ks) true []) else none
def lf (ops:Array Oper) (js:List AI):List Nat:=let b:=Region.before ops
 let f:=fun j=>(List.range ops.size).any fun i=>(match js[i]? with|some x=>isApp x.k|none=>false)&&(i==j||(b.getD i 0).testBit j)
 (List.range ops.size).filter f++(List.range ops.size).filter fun j=>!f j
def F6 (ops:Array Oper) (ks:Array AI):List Nat→List Nat→Bool|_,[]=>true|pre,j::l=>(match ops[j]? with|some o=>o.after.all fun e=>!Region.binds .any e||pre.contains e.on|none=>false)&&(!pre.contains j)&&(l.all fun b=>(decide (j<b)&&bits ops j b)||match ks[j]?,ks[b]? with|some x,some y=>qT x y|_,_=>false)&&F6 ops ks (j::pre) l
def uQ (ops:Array Oper) (js:List AI) (l:List Nat):Option AC:=let hs:=pz ops js.toArray 0 js
 let ks:=gJ ops hs.toArray 0 hs
 if l.length=ops.size∧F6 ops ks.toArray [] l=true∧((List.range ops.size).all fun j=>iZ ops j&&(List.range j).all fun i=>j7 ops i j)=true∧(l.all fun j=>decide (j<ops.size))=true∧((List.range ops.size).all fun j=>l.contains j)=true∧ks.all (fun i=>i.tg !=some 999999)=true then some (.ag (l.filterMap fun j=>ks[j]?) true []) else none
def comp (P:Program) (N:Nat):Code→Option AC
 |.skip=>some .skip|.region _ ops draw=>match sx P N ops ops.toList with|some is=>if draw then((drawn ops (tS is is)).or (drawn ops (nI is))).or ((uQ ops (tS is is) (lf ops is)).or (uQ ops (nI is) (lf ops is))) else some (.ag (sX [] is) false [])|none=>none
 |.seq a b=>match comp P N a,comp P N b with|some x,some y=>some (.seq x y)|_,_=>none
 |.cond c a b=>match comp P N a,comp P N b with|some x,some y=>some (.cond c x y)|_,_=>none
 |.block id a=>(comp P N a).map (.block id)|.loop a=>(comp P N a).map .loop|.exit id=>some (.exit id)|.ret=>some .ret|.scope a=>comp P N a|.label _=>some .skip|_=>none
def Aq (w:List Nat):List AI→List Nat|[]=>[]|i::l=>(cD i).filter (fun s=>!w.contains s)++Aq (i.d.toList++w) l
def wA:AC→List Nat|.ag is _ _=>Aq [] is|.seq a b=>wA a++wA b|.cond x a b=>tmpsOf [x]++wA a++wA b|.block _ a|.loop a=>wA a|_=>[]
def fv (b8:List Nat):AC→AC|.ag is d _=>.ag is d b8|.seq a b=>.seq (fv b8 a) (fv b8 b)|.cond x a b=>.cond x (fv b8 a) (fv b8 b)|.block id a=>.block id (fv b8 a)|.loop a=>.loop (fv b8 a)|c=>c
def iw (P:Program):List ResultVar→Option (List (Nat×Option (Option Nat)))|[]=>some []|.tmp t::l=>(iw P l).map ((t,none)::·)|.cell a t::l=>(lA P t).bind fun n=>(iw P l).map ((a,some n)::·)
structure Pe where
 n:Nat
 params:Nat
 res:List (Nat×Option (Option Nat))
 body:AC
def aq (P:Program) (f:FuncId) (b8:List Nat):Option Pe:=match P.funcs[f]? with
 |some fn=>match fn.body,iw P fn.results.toList with|some c,some rs=>(comp P fn.ntmps c).bind fun b=>if fn.ntmps≤998 then some ⟨fn.ntmps,fn.params.size+fn.nfree,rs,fv b8 b⟩ else none|_,_=>none
 |none=>none
end Go.Proofs.YtlmkcmfmfahcfaaGreat.Ab
