/- An abstract machine for the code of one function: slices, strings and structs as plain data; what each operation makes of them. Definitions alone. -/
import Derived.WalkKit
import Derived.WalkSpells
import Derived.WalkLawsBesides
import Derived.MapKept
import Derived.Maps.RangeRun
set_option linter.unusedVariables false
set_option linter.unusedSimpArgs false
set_option linter.unnecessarySimpa false
set_option maxHeartbeats 40000000
set_option maxRecDepth 100000
set_option linter.defProp false
namespace Go.Proofs.YtlicclncicbajaaGreat.Ab
open Go Go.RowKit
def q0:=@Option.map_eq_some_iff
def qr:=@Option.some.injEq
def q70:=@Prod.mk.injEq
def q78:=@List.getD_eq_getElem?_getD
def q90:=@List.all_eq_true
def q113:=@Nat.le_trans
def q128:=@Array.getD_eq_getD_getElem?
def q159:=@Nat.add_sub_cancel
def q162:=@List.mem_range
def q165:=@Nat.le_add_left
def q205:=@Nat.not_lt
def q260:=@Bool.false_ne_true
def q285:=@List.foldl_cons
end Go.Proofs.YtlicclncicbajaaGreat.Ab
namespace Go.Proofs.YtlicclncicbajaaGreat.Ab
open Go Go.RowKit
variable {α:Type}{P:Program}
inductive PV where|int (k:IntKind) (n:Int)|bool (b:Bool)|str (l:List UInt8)|nil|ro (rows:List (List PV))|mp (ks:List PV)|mv (es:List (PV×PV))|pt (cs:List PV)|val (v:Value)
inductive AV where|pv (p:PV)|own (t:Nat)|ptr (t off:Nat)|bd (t:Nat) (e:TypeId) (i:Int) (off:Nat)|sub (t:Nat) (e:TypeId) (lo hi:Nat)|rp (cs:List PV)|agg (cs:List AV)|aO (vs:List AV)|bE (f:FuncId) (caps:List AV)|fr (e:TypeId) (rows:List (List PV))|bx (cs:List AV)|mf (es:List (PV×PV))|cp (g:Bool) (v:AV)|aw
inductive AO where|box (cs:List AV)|arr (e:TypeId) (rows:List (List PV))|map (es:List (PV×AV))|rws (e:TypeId) (cs:List AV)|iB (es:List (PV×PV))|nS (rem:List (PV×PV)) (cur:Option (PV×PV))
structure St where
 vars:Nat→AV
 aa:Nat→Option AO
def su:Value→PV|.int k n=>.int k n|.bool b=>.bool b|.string s=>.str s.data.toList|.slice none 0 0=>.nil|v=>.val v
def cv (v:Value):AV:=if v.oneCell'=true then .pv (su v) else .aw
def ev (vars:Nat→AV):Operand→AV|.tmp t=>vars t|.const v=>cv v|.func f=>.bE f []|.global _=>.aw
def put (d:Option Nat) (v:AV) (f:Nat→AV):Nat→AV:=match d with|some d=>fun s=>if s=d then v else f s|none=>f
def aR (t:Nat) (o:AO) (f:Nat→Option AO):Nat→Option AO:=fun s=>if s=t then some o else f s
def look (l:List (Nat×AV)) (s:Nat):AV:=match l with|[]=>.aw|(t,v)::l=>if s=t then v else look l s
def ab (l:List (Nat×AO)) (s:Nat):Option AO:=match l with|[]=>none|(t,v)::l=>if s=t then some v else ab l s
def asks:AV→Prop|.cp g v=>g=true∧asks v|_=>True
def strip:AV→AV|.cp _ v=>strip v|v=>v
def aq:List AV→Prop|[]=>True|v::l=>asks v∧aq l
inductive XK where|Ym|IM (s:Nat)|EM (s:Nat) (z:Value) (ok:Bool)|dead|vW (ne:Bool)|Bs|HS|Er (e:TypeId) (sz bytes:Nat) (zs:List Value)|FO (e:TypeId)|TT (e:TypeId) (bytes:Nat) (zs:List Value)|mark|rst|Fk|mkv|TU (s:Nat)|FT (s:Nat) (z:Value) (ok:Bool)|nn (e:TypeId) (sz:Nat)|dlv (s:Nat)|Eu (ne:Bool)|Zj|nxt|ent
inductive AK where|oO|pick|bin (op:BinOp)|beq (ne:Bool)|not|neg|Cb (k:IntKind)|Dq|len|vD|vH|KK (lo hi:Bool)|Iu (off:Nat) (n:Option Nat)|sS (off:Nat)|load (n:Option Nat)|DP (e:TypeId) (sz:Nat)|FY (n sz:Nat)|FH|B5 (sz:Nat) (lo hi:Bool)|ext (i:Nat)|I5 (zs:List Value) (parts:List (Nat×Nat))|Jc (f:FuncId)|gX (e:TypeId)|box|alloc (zs:List Value)|sJ (e:TypeId) (sz:Nat)|call (f:FuncId)|lN|FX (mx:Bool)|eqs (ne:Bool) (ks:List Nat)|store (n:Option Nat)|app (e:TypeId) (sz bytes:Nat)|sE|qZ (e:TypeId)|F4 (e:TypeId) (sz:Nat) (zs:List Value)|ex (x:XK)
structure AI where
 d:Option Nat
 k:AK
 xs:List Operand
 g:Option (Nat×Bool)
 un:List Nat
 tg:Option Nat
inductive AC where|skip|I9 (is:List AI) (drawn:Bool) (cw:List Nat)|seq (a b:AC)|cond (x:Operand) (a b:AC)|block (id:Nat) (a:AC)|loop (a:AC)|exit (id:Nat)|ret
def gl (op:BinOp) (k:IntKind) (a b:Int):PV:=.int k (k.wrap (match op with|.and=>(BitVec.ofInt k.bits a&&&BitVec.ofInt k.bits b).toNat|.or=>(BitVec.ofInt k.bits a|||BitVec.ofInt k.bits b).toNat|.xor=>(BitVec.ofInt k.bits a^^^BitVec.ofInt k.bits b).toNat|_=>(BitVec.ofInt k.bits a&&&~~~BitVec.ofInt k.bits b).toNat:Nat))
def dE (op:BinOp) (x y:PV):Option (Prop×PV):=match x,y with
 |.int k a,.int k' b=>match op with|.shl=>some (0≤b,.int k (k.wrap (a*2^(min b.toNat k.bits))))|.shr=>some (0≤b,.int k (a.fdiv (2^(min b.toNat k.bits))))|op=>if k=k' then match op with|.add=>some (True,.int k (k.wrap (a+b)))|.sub=>some (True,.int k (k.wrap (a-b)))|.mul=>some (True,.int k (k.wrap (a*b)))|.quo=>some (b≠0,.int k (k.wrap (a.tdiv b)))|.rem=>some (b≠0,.int k (a.tmod b))|.eql=>some (True,.bool (decide (a=b)))|.neq=>some (True,.bool (!decide (a=b)))|.lss=>some (True,.bool (decide (a<b)))|.leq=>some (True,.bool (decide (a≤b)))|.gtr=>some (True,.bool (decide (b<a)))|.geq=>some (True,.bool (decide (b≤a)))|op=>some (True,gl op k a b) else none
 |.str a,.str b=>match op with|.add=>some (a.length+b.length≤9223372036854775807,.str (a++b))|.eql=>some (True,.bool (decide (a=b)))|.neq=>some (True,.bool (!decide (a=b)))|.lss=>some (True,.bool (Op.bytesLess a b))|.leq=>some (True,.bool (Op.bytesLess a b||decide (a=b)))|.gtr=>some (True,.bool (!(Op.bytesLess a b||decide (a=b))))|.geq=>some (True,.bool (!Op.bytesLess a b))|_=>none
 |_,_=>none
def ni:IntKind→Nat|.i8=>0|.i16=>1|.i32=>2|.i64=>3|.u8=>4|.u16=>5|.u32=>6|.u64=>7
def dB:PV→Nat|.bool _=>0|.str _=>1|.int k _=>2+ni k|_=>99
def mU:PV→PV→Bool|.int _ a,.int _ b=>decide (a=b)|.str a,.str b=>decide (a=b)|.bool a,.bool b=>decide (a=b)|_,_=>false
def ju:List PV→List PV→Bool|[],[]=>true|a::l,b::m=>mU a b&&ju l m|_,_=>false
def rowAt (rows:List (List PV)) (i:Int):List PV:=rows.getD i.toNat []
def bytesRow (l:List UInt8):List (List PV):=l.map fun c=>[.int .u8 (c.toNat:Int)]
def FQ:AV→Option PV|.pv p=>some p|_=>none
def fc:List AV→Option (List PV)|[]=>some []|v::l=>(FQ v).bind fun p=>(fc l).map (p::·)
def rowOf:AV→Option (List PV)|.agg cs=>fc cs|.pv p=>some [p]|_=>none
def rowsOf:List AV→Option (List (List PV))|[]=>some []|v::l=>(rowOf v).bind fun p=>(rowsOf l).map (p::·)
def cellsOf:AV→List AV|.agg cs=>cs|v=>[v]
def ez:AV→Bool|.pv (.val v)=>v.oneCell'|.pv _|.own _|.ptr _ _|.bd _ _ _ _|.sub _ _ _ _|.rp _|.bE _ _=>true|_=>false
def fB:List AV→Bool|[]=>true|c::cs=>ez c&&fB cs
def mG:AV→Bool|.agg _=>true|v=>ez v
def qx:AV→AV|.bE f []=>.pv (.val (.func (.func f) #[] #[]))|v=>v
def lay (cs:List AV) (off:Nat) (ps:List AV):List AV:=cs.take off++ps++cs.drop (off+ps.length)
def kW (cs:List AV):List (Nat×Nat)→List AV→Option (List AV)|[],[]=>some cs|(off,n)::ps,x::xs=>if mG x=true∧(cellsOf x).length=n∧off+n≤cs.length then kW (lay cs off ((cellsOf x).map qx)) ps xs else none|_,_=>none
def bounds (n:Nat) (lo hi:Bool) (xs:List AV):Option (Int×Int):=match lo,hi,xs with|false,false,[]=>some (0,n)|true,false,[.pv (.int _ l)]=>some (l,n)|false,true,[.pv (.int _ h)]=>some (0,h)|true,true,[.pv (.int _ l),.pv (.int _ h)]=>some (l,h)|_,_,_=>none
def cut (l:List α) (lo hi:Int):List α:=(l.take hi.toNat).drop lo.toNat
def cX:Option AO→Option (TypeId×List (List PV))|some (.arr e rows)=>some (e,rows)|_=>none
def XC:Option AO→Option (TypeId×List AV)|some (.rws e cs)=>some (e,cs)|_=>none
def Cg:Option AO→Option (TypeId×Nat)|some (.arr e rows)=>some (e,rows.length)|some (.rws e cs)=>some (e,cs.length)|_=>none
def eY:Option AO→Option (List AV)|some (.box cs)=>some cs|_=>none
def cT (aa:Nat→Option AO):AV→Option (List (List PV))|.pv .nil=>some []|.pv (.ro rows)=>some rows|.pv (.str l)=>some (bytesRow l)|.own t=>(cX (aa t)).map (·.2)|.sub t e lo hi=>(cX (aa t)).bind fun r=>if r.1=e then some ((r.2.take hi).drop lo) else none|_=>none
def fx (aa:Nat→Option AO):AV→Option (List (List PV))|.pv .nil=>some []|.pv (.ro rows)=>some rows|.own t=>(cX (aa t)).map (·.2)|.sub t e lo hi=>(cX (aa t)).bind fun r=>if r.1=e then some ((r.2.take hi).drop lo) else none|_=>none
def byteOf:List PV→Option UInt8|[.int .u8 n]=>if 0≤n∧n<256 then some (UInt8.ofNat n.toNat) else none|_=>none
def bytesOf:List (List PV)→Option (List UInt8)|[]=>some []|r::l=>(byteOf r).bind fun c=>(bytesOf l).map (c::·)
def mH:AV→Bool|.agg _|.aO _|.cp _ _|.aw=>false|_=>true
def mr (e:TypeId) (i:Int) (o:Nat):Option AO→Option (Prop×AV)|some (.arr e' rows)=>if e'=e then some (0≤i∧i<rows.length∧o<(rowAt rows i).length,.pv ((rowAt rows i).getD o (.int .u8 0))) else none|some (.rws e' cs)=>if e'=e∧o=0 then(cs[i.toNat]?).bind fun c=>if mH c=true then some (0≤i,c) else none else none|_=>none
def lK (k:PV):List (PV×PV)→Option PV|[]=>none|e::l=>if mU k e.1=true then some e.2 else lK k l
def fI (s:Nat) (es:List (PV×PV)):Prop:=∀e∈es,dB e.1=s
def ye (z:Value) (ok:Bool) (o:Option PV):AV:=if ok=true then .aO [.pv (o.getD (su z)),.pv (.bool o.isSome)] else .pv (o.getD (su z))
def al (k:AK) (xs:List AV) (aa:Nat→Option AO):Option (Prop×AV):=match k,xs with|.bin op,[.pv x,.pv y]=>(dE op x y).map fun r=>(r.1,.pv r.2)|.beq ne,[.pv (.bool x),.pv (.bool y)]=>some (True,.pv (.bool (if ne then x !=y else x==y)))|.not,[.pv (.bool b)]=>some (True,.pv (.bool (!b)))|.neg,[.pv (.int k n)]=>some (True,.pv (.int k (k.wrap (0-n))))|.Cb k,[.pv (.int _ n)]=>some (True,.pv (.int k (k.wrap n)))|.Dq,[.pv (.str l)]=>some (True,.pv (.str l))|.vD,[.pv (.str l)]=>some (True,.pv (.int .i64 l.length))|.len,[.pv .nil]=>some (True,.pv (.int .i64 0))|.len,[.pv (.ro rows)]=>some (True,.pv (.int .i64 rows.length))|.len,[.own t]=>(Cg (aa t)).map fun r=>(True,.pv (.int .i64 r.2))|.len,[.sub t _ lo hi]=>(cX (aa t)).map fun _=>(True,.pv (.int .i64 ((hi:Int)-(lo:Int))))|.vH,[.pv (.str l),.pv (.int _ i)]=>some (0≤i∧i<l.length,.pv (.int .u8 ((l.getD i.toNat 0).toNat:Int)))|.KK lo hi,.pv (.str l)::bs=>(bounds l.length lo hi bs).map fun b:Int×Int=>(0≤b.1∧b.1≤b.2∧b.2≤(l.length:Int),.pv (.str (cut l b.1 b.2)))|.Iu off none,[.agg cs]=>(cs[off]?).map fun c=>(True,c)|.Iu off (some n),[.agg cs]=>if off+n≤cs.length then some (True,.agg ((cs.drop off).take n)) else none|.sS off,[.ptr t o]=>some (True,.ptr t (o+off))|.sS off,[.bd t e i o]=>some (True,.bd t e i (o+off))|.sS off,[.rp cs]=>some (True,.rp (cs.drop off))|.FY n sz,[.ptr t o,.pv (.int _ i)]=>some (0≤i∧i<(n:Int),.ptr t (o+i.toNat*sz))|.FY n sz,[.rp cs,.pv (.int _ i)]=>some (0≤i∧i<(n:Int),.rp (cs.drop (i.toNat*sz)))|.FH,[.ptr t o]=>some (True,.ptr t o)|.FH,[.bd t e i o]=>some (True,.bd t e i o)|.FH,[.rp cs]=>some (True,.rp cs)|.load none,[.ptr t o]=>(eY (aa t)).bind fun cs=>(cs[o]?).bind fun c=>if mH c=true then some (True,c) else none|.load (some n),[.ptr t o]=>(eY (aa t)).bind fun cs=>if o+n≤cs.length then some (True,.agg ((cs.drop o).take n)) else none|.load none,[.bd t e i o]=>mr e i o (aa t)|.load (some n),[.bd t e i o]=>(cX (aa t)).bind fun r=>if r.1=e∧o+n≤(rowAt r.2 i).length then some (0≤i∧i<r.2.length,.agg ((((rowAt r.2 i).drop o).take n).map .pv)) else none|.load none,[.rp (c::_)]=>some (True,.pv c)|.load none,[.rp []]=>some (False,.pv (.int .u64 0))|.load (some n),[.rp cs]=>if n≤cs.length then some (True,.agg ((cs.take n).map .pv)) else none|.DP _ sz,[.pv (.ro rows),.pv (.int _ i)]=>some (0≤i∧i<rows.length∧(rowAt rows i).length=sz,.rp (rowAt rows i))|.DP e _,[.own t,.pv (.int _ i)]=>(Cg (aa t)).bind fun r=>if r.1=e then some (0≤i∧i<r.2,.bd t e i 0) else none|.DP e _,[.sub t e1 lo hi,.pv (.int _ i)]=>(cX (aa t)).bind fun r=>if r.1=e∧e1=e then some (0≤i∧i<(hi:Int)-(lo:Int),.bd t e ((lo:Int)+i) 0) else none|.B5 sz lo hi,.own t::bs=>(cX (aa t)).bind fun r=>(bounds r.2.length lo hi bs).map fun b:Int×Int=>(0≤b.1∧b.1≤b.2∧b.2≤(r.2.length:Int)∧(∀x∈r.2,x.length=sz),.sub t r.1 b.1.toNat b.2.toNat)|.B5 sz lo hi,.sub t e l h::bs=>(cX (aa t)).bind fun r=>if r.1=e then(bounds (h-l) lo hi bs).map fun b:Int×Int=>(0≤b.1∧b.1≤b.2∧b.2≤((h-l:Nat):Int)∧(∀x∈r.2,x.length=sz),.sub t e (l+b.1.toNat) (l+b.2.toNat)) else none|.B5 sz lo hi,.pv (.ro rows)::bs=>(bounds rows.length lo hi bs).map fun b:Int×Int=>(0≤b.1∧b.1≤b.2∧b.2≤(rows.length:Int)∧(∀r∈rows,r.length=sz),.pv (.ro (cut rows b.1 b.2)))|.B5 _ lo hi,.pv .nil::bs=>(bounds 0 lo hi bs).map fun b:Int×Int=>(b.1=0∧b.2=0,.pv .nil)|.ext i,[.aO vs]=>(vs[i]?).map fun v=>(True,v)|.I5 zs ps,xs=>(kW (zs.map cv) ps xs).map fun cs=>(True,.agg cs)|.Jc f,xs=>some (True,.bE f xs)|.FX mx,[.pv (.int k a),.pv (.int k' b)]=>if k=k' then some (True,.pv (.int k (if mx then max a b else min a b))) else none|.eqs ne ks,[.agg xs,.agg ys]=>(fc xs).bind fun a=>(fc ys).map fun b=>(a.map dB=ks∧b.map dB=ks,.pv (.bool (if ne then !ju a b else ju a b)))|.ex (.FT s z ok),[.pv (.mv es),.pv k]=>some (z.oneCell'=true∧dB k=s∧fI s es,ye z ok (lK k es))|.ex (.nn _ sz),xs=>(rowsOf xs).map fun rows=>(∀r∈rows,r.length=sz,.pv (.ro rows))|.sE,[x]=>(fx aa x).bind fun rows=>(bytesOf rows).map fun l=>(True,.pv (.str l))|.qZ _,[.pv (.str l)]=>some (True,.pv (.ro (bytesRow l)))|_,_=>none
def cr:Value→Option Nat|.slice (some a) _ _=>some a.block|.pointer (some a)=>some a.block|.map (some b)=>some b|_=>none
def b8:PV→Value|.int k n=>.int k n|.str l=>.string ⟨l.toArray⟩|.bool b=>.bool b|_=>undef
inductive dt (S:Nat→Prop) (w:World):Value→PV→Prop|int (k:IntKind) (n:Int):dt S w (.int k n) (.int k n)|bool (b:Bool):dt S w (.bool b) (.bool b)|str (l:List UInt8):dt S w (.string ⟨l.toArray⟩) (.str l)|nil:dt S w (.slice none 0 0) .nil|val (v:Value):v.oneCell'=true→dt S w v (.val v)|mp (b:Nat) (us:Array MapEntry) (c:Nat) (ks:List PV):S b→w.heap[b]?=some (.map us c)→us.toList.length=ks.length→(∀(i:Nat) (k:PV) (u:MapEntry),ks[i]?=some k→us.toList[i]?=some u→u.key=b8 k∧u.val=.agg #[])→dt S w (.map (some b)) (.mp ks)|mv (b:Nat) (us:Array MapEntry) (c:Nat) (es:List (PV×PV)):S b→w.heap[b]?=some (.map us c)→MapKept.Stamped us c→us.toList.length=es.length→(∀(i:Nat) (e:PV×PV) (u:MapEntry),es[i]?=some e→us.toList[i]?=some u→u.key=b8 e.1∧dB e.1<99∧u.val.oneCell'=true)→(∀(i:Nat) (e:PV×PV) (u:MapEntry),es[i]?=some e→us.toList[i]?=some u→dt S w u.val e.2)→dt S w (.map (some b)) (.mv es)|pt (ad:Addr) (cs:List PV) (us:Nat→Value):S ad.block→(∀j,j<cs.length→w.cell? (ad.add j)=some (us j))→(∀(j:Nat) (p:PV),cs[j]?=some p→(us j).oneCell'=true)→(∀(j:Nat) (p:PV),cs[j]?=some p→dt S w (us j) p)→dt S w (.pointer (some ad)) (.pt cs)|xY (A:Option Addr) (c:Nat):dt S w (.slice A 0 c) (.ro [])|ro (ad:Addr) (c:Nat) (rows:List (List PV)) (sz:Nat) (us:Nat→Nat→Value):S ad.block→rows.length≤c→(∀r,r∈rows→r.length=sz)→(∀i j,i<rows.length→j<sz→w.cell? (ad.add (i*sz+j))=some (us i j))→(∀(i j:Nat) (r:List PV) (p:PV),rows[i]?=some r→r[j]?=some p→(us i j).oneCell'=true)→(∀(i j:Nat) (r:List PV) (p:PV),rows[i]?=some r→r[j]?=some p→dt S w (us i j) p)→dt S w (.slice (some ad) rows.length c) (.ro rows)
inductive RV (P:Program) (S:Nat→Prop) (w:World) (β:Nat→Value) (D:Nat→Prop):Value→AV→Prop|pv (v:Value) (p:PV):dt S w v p→RV P S w β D v (.pv p)|own (t:Nat):D t→RV P S w β D (β t) (.own t)|ptr (t o b:Nat):D t→β t=.pointer (some ⟨b,0,none⟩)→RV P S w β D (.pointer (some ⟨b,o,none⟩)) (.ptr t o)|bd (t:Nat) (e:TypeId) (i:Int) (o b n c:Nat) (inf:TypeInfo):D t→P.info? e=some inf→β t=.slice (some ⟨b,0,none⟩) n c→RV P S w β D (.pointer (some ⟨b,i.toNat*inf.size+o,none⟩)) (.bd t e i o)|sub (v:Value) (t:Nat) (e:TypeId) (lo hi:Nat) (inf:TypeInfo) (A A1:Option Addr) (n c:Nat):D t→P.info? e=some inf→β t=.slice A n c→lo≤hi→hi≤n→n≤c→(lo=0→A1=A)→(c≠lo→A1=A.map (·.add (lo*inf.size)))→v=.slice A1 (hi-lo) (c-lo)→RV P S w β D v (.sub t e lo hi)|rp (ad:Addr) (cs:List PV) (us:Nat→Value):S ad.block→(∀j,j<cs.length→w.cell? (ad.add j)=some (us j))→(∀(j:Nat) (p:PV),cs[j]?=some p→(us j).oneCell'=true)→(∀(j:Nat) (p:PV),cs[j]?=some p→dt S w (us j) p)→RV P S w β D (.pointer (some ad)) (.rp cs)|agg (cs:List AV) (us:List Value):us.length=cs.length→(∀(i:Nat) (c:AV) (u:Value),cs[i]?=some c→us[i]?=some u→RV P S w β D u c)→RV P S w β D (.agg us.toArray) (.agg cs)|aO (vs:List AV) (us:List Value):us.length=vs.length→(∀(i:Nat) (c:AV) (u:Value),vs[i]?=some c→us[i]?=some u→RV P S w β D u c)→RV P S w β D (.tuple us.toArray) (.aO vs)|bE (f:FuncId) (cs:List AV) (us:List Value):us.length=cs.length→(∀(i:Nat) (c:AV) (u:Value),cs[i]?=some c→us[i]?=some u→RV P S w β D u c)→RV P S w β D (.func (.func f) #[] us.toArray) (.bE f cs)|cp (g:Bool) (v:Value) (av:AV):(g=true→RV P S w β D v av)→(g=false→v=undef)→RV P S w β D v (.cp g av)|aw (v:Value):RV P S w β D v .aw
def gu (s:Nat) (es:List (PV×AV)):Prop:=∀e∈es,dB e.1=s
def getM (k:PV):List (PV×AV)→Option AV|[]=>none|e::l=>if mU k e.1=true then some e.2 else getM k l
def jv (k:PV) (v:AV):List (PV×AV)→List (PV×AV)|[]=>[(k,v)]|e::l=>if mU k e.1=true then(k,v)::l else e::jv k v l
def Gr:Value→AV|.agg cs=>.agg (cs.toList.map cv)|v=>cv v
def bz (P:Program) (S:Nat→Prop) (w:World) (β:Nat→Value) (D:Nat→Prop) (t:Nat):AO→Prop|.box cs=>∃b us ty,β t=.pointer (some ⟨b,0,none⟩)∧w.heap[b]?=some (.cells us ty (0,0))∧us.size=cs.length∧∀(i:Nat) (c:AV) (u:Value),cs[i]?=some c→us[i]?=some u→u.oneCell'=true∧RV P S w β D u c|.arr e rows=>∃inf us,P.info? e=some inf∧w.ownsRow 0 e inf.size (β t) rows.length us∧(∀r,r∈rows→r.length=inf.size)∧∀(i j:Nat) (r:List PV) (p:PV),rows[i]?=some r→r[j]?=some p→∃u,us[i*inf.size+j]?=some u∧u.oneCell'=true∧dt S w u p|.map es=>∃(b:Nat) (us:Array MapEntry) (c:Nat),β t=.map (some b)∧w.heap[b]?=some (.map us c)∧us.toList.length=es.length∧∀(i:Nat) (e:PV×AV) (u:MapEntry),es[i]?=some e→us.toList[i]?=some u→u.key=b8 e.1∧RV P S w β (fun _=>False) u.val e.2|.rws e cs=>∃inf us,P.info? e=some inf∧inf.size=1∧w.ownsRow 0 e inf.size (β t) cs.length us∧∀(i:Nat) (c:AV) (u:Value),cs[i]?=some c→us[i]?=some u→u.oneCell'=true∧RV P S w β D u c|.iB es=>∃(b:Nat) (us:Array MapEntry) (c:Nat),β t=.map (some b)∧w.heap[b]?=some (.map us c)∧MapKept.Stamped us c∧us.toList.length=es.length∧∀(i:Nat) (e:PV×PV) (u:MapEntry),es[i]?=some e→us.toList[i]?=some u→u.key=b8 e.1∧dB e.1<99∧u.val.oneCell'=true∧dt S w u.val e.2|.nS rem cur=>∃(r m:Nat) (us:Array MapEntry) (c:Nat) (seen:Array Nat),β t=.pointer (some ⟨r,0,none⟩)∧w.heap[r]?=some (.mapIter (some m) c seen c)∧S m∧w.heap[m]?=some (.map us c)∧MapKept.Stamped us c∧(leftOf us seen).toList.length=rem.length∧(∀(i:Nat) (e:PV×PV) (u:MapEntry),rem[i]?=some e→(leftOf us seen).toList[i]?=some u→u.key=b8 e.1∧dB e.1<99∧u.val.oneCell'=true∧dt S w u.val e.2)∧∀e,cur=some e→∃(u:MapEntry) (seen':Array Nat),seen=seen'.push u.born∧u∈us.toList∧u.key=b8 e.1∧dB e.1<99∧u.val.oneCell'=true∧dt S w u.val e.2
def aG (aa:Nat→Option α) (t:Nat):Prop:=∃o,aa t=some o
def live (β:Nat→Value) (aa:Nat→Option AO) (b:Nat):Prop:=∃t o,aa t=some o∧cr (β t)=some b
def aZ (S0:Nat→Prop) (n0:Nat) (β:Nat→Value) (aa:Nat→Option AO) (w:World) (b:Nat):Prop:=(S0 b∨n0≤b)∧b<w.heap.size∧¬live β aa b
structure Heap (P:Program) (S:Nat→Prop) (w:World) (β:Nat→Value) (aa:Nat→Option AO):Prop where
 holds:∀t o,aa t=some o→bz P S w β (aG aa) t o
 inj:∀t t' b,aG aa t→aG aa t'→cr (β t)=some b→cr (β t')=some b→t=t'
structure AM (L:Nat→Prop) (w w':World):Prop where
 os:w'.os=w.os
 tape:w'.tape=w.tape
 output:w'.output=w.output
 size:w.heap.size≤w'.heap.size
 block:∀b,b<w.heap.size→¬L b→w'.heap[b]?=w.heap[b]?
def EO (P:Program) (t:TypeId):Bool:=P.cutTypes.toList.any fun c=>c.2==t||P.underlyingId c.2==t
def Ue (P:Program):Bool:=P.follows .mixedOrders&&(List.range P.types.size).all fun t=>EO P t||!P.stoodInHeld t
theorem MW (h:Ue P=true):P.follows .mixedOrders=true:=(Bool.and_eq_true_iff.1 h).1
theorem MB (h:Ue P=true) (t:TypeId) (ht:t<P.types.size∧EO P t=false):P.stoodInHeld t=false:=by simpa[ht.2]using q90.1 (Bool.and_eq_true_iff.1 h).2 t (q162.2 ht.1)
structure Rel (P:Program) (S0:Nat→Prop) (L:Nat→Prop) (B0:Nat→Value) (w0:World) (N:Nat) (st:St) (a:Act) (w:World) (β:Nat→Value):Prop where
 size:a.tmps.size=N
 defers:a.defers=[]
 vars:∀s,RV P (aZ S0 w0.heap.size β st.aa w) w β (aG st.aa) (a.tmps.getD s undef) (st.vars s)
 heap:Heap P (aZ S0 w0.heap.size β st.aa w) w β st.aa
 old:∀t b,aG st.aa t→cr (β t)=some b→w0.heap.size≤b∨L b
 qb:N≤998∧∀t,t<P.types.size∧EO P t=false→P.stoodInHeld t=false
 vw:∀t,t%1000=999→aG st.aa t→β t=B0 t
 bZ:AM L w0 w
def bM:AV→Nat→Option AV|.agg cs,j=>cs[j]?|v,j=>if j=0 then some v else none
def cellAt:AV→Nat→Option AV|.aO vs,p=>(vs[p%1000]?).bind fun v=>bM v (p/1000)|v,p=>if p%1000=0 then bM v (p/1000) else none
def fZ (g:Nat→AV→AV) (j:Nat):List AV→List AV|[]=>[]|c::cs=>g (1000*j) c::fZ g (j+1) cs
def nt (g:Nat→AV→AV):AV→AV|.agg cs=>.agg (fZ g 0 cs)|v=>g 0 v
def jq (g:Nat→AV→AV) (i:Nat):List AV→List AV|[]=>[]|v::vs=>nt (fun p c=>g (p+i) c) v::jq g (i+1) vs
def cS (g:Nat→AV→AV):AV→AV|.aO vs=>.aO (jq g 0 vs)|v=>nt g v
def lP (d:Nat) (p:Nat):AV→AV|.fr _ _=>.own (d+1000*p)|v=>v
def G9 (p:Nat):AV→AV|.fr _ _=>.own p|v=>v
def dC:Option AV→Option AO|some (.fr e rows)=>some (.arr e rows)|_=>none
def fY (j:Nat):List AV→List (Nat×AO)|[]=>[]|.fr e rows::cs=>(1000*j,.arr e rows)::fY (j+1) cs|_::cs=>fY (j+1) cs
def lJ:AV→List (Nat×AO)|.agg cs=>fY 0 cs|.fr e rows=>[(0,.arr e rows)]|_=>[]
def mL (i:Nat):List AV→List (Nat×AO)|[]=>[]|v::vs=>(lJ v).map (fun x=>(x.1+i,x.2))++mL (i+1) vs
def Bz:AV→List (Nat×AO)|.aO vs=>mL 0 vs|v=>lJ v
def il:PV→Bool|.int _ _|.bool _|.str _|.nil|.val _=>true|.ro rows=>rows.isEmpty|.mp _|.mv _|.pt _=>false
def bp (rows:List (List PV)):Prop:=∀r∈rows,∀p∈r,il p=true
def nL:AV→Prop|.pv p=>il p=true|.fr _ rows=>bp rows|_=>False
def pL:List AV→Prop|[]=>True|c::cs=>nL c∧pL cs
def lH:AV→Prop|.agg cs=>pL cs|v=>nL v
def rP:List AV→Prop|[]=>True|c::cs=>lH c∧rP cs
def flat:AV→Prop|.aO vs=>rP vs|v=>lH v
def bC (f g:Nat→Option AO):Nat→Option AO:=fun t=>match f t with|some o=>some o|none=>g t
def sO (P:Program) (f:FuncId) (hin:List (Nat×AO)) (args:List AV) (hout:List (Nat×AO)) (r:AV):Prop:=∀(w:World) (S0:Nat→Prop) (β:Nat→Value) (vals:List Value),(∀b,S0 b→b<w.heap.size)→(∀t b,aG (ab hin) t→cr (β t)=some b→b<w.heap.size)→Heap P (aZ S0 w.heap.size β (ab hin) w) w β (ab hin)→vals.length=args.length→(∀(i:Nat) (v:Value) (x:AV),vals[i]?=some v→args[i]?=some x→RV P (aZ S0 w.heap.size β (ab hin) w) w β (aG (ab hin)) v x)→Calls P f vals.toArray w fun e w'=>∃v β',e=.returned v∧AM (live β (ab hin)) w w'∧Heap P (aZ S0 w.heap.size β' (bC (ab hout) fun t=>dC (cellAt r t)) w') w' β' (bC (ab hout) fun t=>dC (cellAt r t))∧(∀t b,aG (bC (ab hout) fun t=>dC (cellAt r t)) t→cr (β' t)=some b→w.heap.size≤b∨live β (ab hin) b)∧RV P (aZ S0 w.heap.size β' (bC (ab hout) fun t=>dC (cellAt r t)) w') w' β' (aG (bC (ab hout) fun t=>dC (cellAt r t))) v (cS G9 r)
def Hk:AV→AV|.fr _ _=>.own 998|.aO [.fr _ _]=>.own 999|x=>x
def mO:List AV→List (Nat×AO)|[]=>[]|.fr e rows::_=>[(998,.arr e rows)]|.aO [.fr e rows]::_=>[(999,.arr e rows)]|_::l=>mO l
def b9:AV→AV|.bE _ [r,.fr _ _]=>r|r=>r
def ep:AV→List (Nat×AO)|.bE _ [_,.fr e rows]=>[(999,.arr e rows)]|_=>[]
def Cz (P:Program) (f:FuncId) (ys:List AV) (x:AV):Prop:=∀(w:World) (S0:Nat→Prop) (β:Nat→Value) (vals:List Value),(∀b,S0 b→b<w.heap.size)→(∀t b,aG (ab (mO ys)) t→cr (β t)=some b→b<w.heap.size)→Heap P (aZ S0 w.heap.size β (ab (mO ys)) w) w β (ab (mO ys))→vals.length=ys.length→(∀(i:Nat) (v:Value) (x:AV),vals[i]?=some v→(ys.map Hk)[i]?=some x→RV P (aZ S0 w.heap.size β (ab (mO ys)) w) w β (aG (ab (mO ys))) v x)→Calls P f vals.toArray w fun e w'=>∃v β',e=.returned v∧AM (live β (ab (mO ys))) w w'∧Heap P (aZ (fun b=>S0 b∨live β (ab (mO ys)) b) w.heap.size β' (bC (ab (ep x)) fun t=>dC (cellAt (b9 x) t)) w') w' β' (bC (ab (ep x)) fun t=>dC (cellAt (b9 x) t))∧(∀t b,aG (bC (ab (ep x)) fun t=>dC (cellAt (b9 x) t)) t→cr (β' t)=some b→w.heap.size≤b∨live β (ab (mO ys)) b)∧(∀t,aG (ab (ep x)) t→aG (ab (mO ys)) t∧β' t=β t)∧RV P (aZ (fun b=>S0 b∨live β (ab (mO ys)) b) w.heap.size β' (bC (ab (ep x)) fun t=>dC (cellAt (b9 x) t)) w') w' β' (aG (bC (ab (ep x)) fun t=>dC (cellAt (b9 x) t))) v (cS G9 (b9 x))
inductive HT (P:Program) (S:Nat→Prop) (w:World):Value→AV→List Nat→Prop|leaf (v:Value) (y:AV):RV P S w (fun _=>undef) (fun _=>False) v y→HT P S w v y []|fr (v:Value) (e:TypeId) (rows:List (List PV)) (inf:TypeInfo) (us:List Value):P.info? e=some inf→w.ownsRow 0 e inf.size v rows.length us→(∀r,r∈rows→r.length=inf.size)→(∀(i j:Nat) (r:List PV) (p:PV),rows[i]?=some r→r[j]?=some p→∃u,us[i*inf.size+j]?=some u∧u.oneCell'=true∧dt S w u p)→HT P S w v (.fr e rows) (cr v).toList|mf (b:Nat) (us:Array MapEntry) (c:Nat) (es:List (PV×PV)):w.heap[b]?=some (.map us c)→MapKept.Stamped us c→us.toList.length=es.length→(∀(i:Nat) (e:PV×PV) (u:MapEntry),es[i]?=some e→us.toList[i]?=some u→u.key=b8 e.1∧dB e.1<99∧u.val.oneCell'=true∧dt S w u.val e.2)→HT P S w (.map (some b)) (.mf es) [b]|bx (b:Nat) (us:Array Value) (ty:TypeId) (cs:List AV) (bss:List (List Nat)):w.heap[b]?=some (.cells us ty (0,0))→us.size=cs.length→bss.length=cs.length→(∀(i:Nat) (u:Value),us[i]?=some u→u.oneCell'=true)→(∀(i:Nat) (c:AV) (u:Value) (bs:List Nat),cs[i]?=some c→us[i]?=some u→bss[i]?=some bs→HT P S w u c bs)→HT P S w (.pointer (some ⟨b,0,none⟩)) (.bx cs) (b::bss.flatten)|agg (us:List Value) (cs:List AV) (bss:List (List Nat)):us.length=cs.length→bss.length=cs.length→(∀(i:Nat) (c:AV) (u:Value) (bs:List Nat),cs[i]?=some c→us[i]?=some u→bss[i]?=some bs→HT P S w u c bs)→HT P S w (.agg us.toArray) (.agg cs) bss.flatten|aO (us:List Value) (cs:List AV) (bss:List (List Nat)):us.length=cs.length→bss.length=cs.length→(∀(i:Nat) (c:AV) (u:Value) (bs:List Nat),cs[i]?=some c→us[i]?=some u→bss[i]?=some bs→HT P S w u c bs)→HT P S w (.tuple us.toArray) (.aO cs) bss.flatten
def FU (P:Program) (S:Nat→Prop) (w:World) (vs:List Value) (ys:List AV) (bss:List (List Nat)):Prop:=vs.length=ys.length∧bss.length=ys.length∧∀(i:Nat) (y:AV) (v:Value) (bs:List Nat),ys[i]?=some y→vs[i]?=some v→bss[i]?=some bs→HT P S w v y bs
def Kp:AV→AV|.aO [y]=>y|y=>y
def I7:AV→Bool|.aO [_]=>true|_=>false
def eI {α:Type}:List AV→List α→List α|y::ys,v::vs=>if I7 y=true then v::eI ys vs else eI ys vs|_,_=>[]
def kS:AV→AV|.bE _ (r::_)=>r|r=>r
def lO:AV→List AV|.bE _ (_::os)=>os|_=>[]
def Da (P:Program) (f:FuncId) (ys:List AV) (x:AV):Prop:=∀(w:World) (S0:Nat→Prop) (vals:List Value) (bss:List (List Nat)),(∀b,S0 b→b<w.heap.size∧b∉bss.flatten)→bss.flatten.Nodup→FU P S0 w vals (ys.map Kp) bss→Calls P f vals.toArray w fun e w'=>∃v bss',e=.returned v∧AM (·∈bss.flatten) w w'∧bss'.flatten.Nodup∧(∀b∈bss'.flatten,w.heap.size≤b∨b∈bss.flatten)∧FU P (fun b=>(S0 b∨b∈bss.flatten∨w.heap.size≤b)∧b<w'.heap.size∧b∉bss'.flatten) w' (eI ys vals++[v]) (lO x++[kS x]) bss'
def DF:AV→Bool|.agg []=>true|_=>false
def wB:Value→Bool|.agg cs=>cs.isEmpty|_=>false
def Fy:Option AO→Option PV|some (.arr _ rows)=>some (.ro rows)|some (.map es)=>if es.all (fun e=>DF e.2)=true then some (.mp (es.map (·.1))) else none|some (.iB es)=>some (.mv es)|_=>none
def eN (aa:Nat→Option AO):AV→Option PV|.pv .nil=>some (.ro [])|.pv p=>some p|.own t=>Fy (aa t)|.sub t e lo hi=>(cX (aa t)).bind fun r=>if r.1=e then some (.ro ((r.2.take hi).drop lo)) else none|_=>none
def ic (aa:Nat→Option AO):List AV→Option (List PV)|[]=>some []|c::cs=>(eN aa c).bind fun p=>(ic aa cs).map (p::·)
def fv (aa:Nat→Option AO):AV→Option AV|.ptr t o=>(eY (aa t)).bind fun cs=>(ic aa (cs.drop o)).map .rp|.rp cs=>some (.rp cs)|.agg cs=>(ic aa cs).map fun ps=>.agg (ps.map .pv)|.bE f []=>some (.bE f [])|v=>(eN aa v).map .pv
def ly (aa:Nat→Option AO):List AV→Option (List AV)|[]=>some []|c::cs=>(fv aa c).bind fun p=>(ly aa cs).map (p::·)
def pf (aa:Nat→Option AO):AV→Option AV|.bE f caps=>(ly aa caps).map (.bE f)|v=>fv aa v
def fJ (aa:Nat→Option AO):List AV→Option (List AV)|[]=>some []|c::cs=>(pf aa c).bind fun p=>(fJ aa cs).map (p::·)
def gJ:AV→Bool|.pv _|.rp _=>true|_=>false
def gZ:List AV→Bool|[]=>true|c::cs=>gJ c&&gZ cs
def eC:AV→Bool|.agg cs=>gZ cs|.bE _ cs=>gZ cs|v=>gJ v
def eT:List AV→Bool|[]=>true|c::cs=>eC c&&eT cs
def VX:Option AO→Option AV|some (.arr e rows)=>some (.fr e rows)|some (.iB es)=>some (.mf es)|_=>none
def H8 (f:AV→Option (AV×List Nat)):List AV→Option (List AV×List Nat)|[]=>some ([],[])|c::cs=>(f c).bind fun r=>(H8 f cs).map fun q=>(r.1::q.1,r.2++q.2)
def rd:Nat→(Nat→Option AO)→AV→Option (AV×List Nat)|0,_,_=>none|n+1,aa,x=>match x with|.own t=>(VX (aa t)).map fun y=>(y,[t])|.ptr t 0=>(eY (aa t)).bind fun cs=>(H8 (rd n aa) cs).map fun r=>(.bx r.1,t::r.2)|.agg cs=>(H8 (rd n aa) cs).map fun r=>(.agg r.1,r.2)|.pv p=>some (.pv p,[])|.rp cs=>some (.rp cs,[])|.bE f []=>some (.bE f [],[])|_=>none
def tk:Bool→List Nat×List Nat→Option (Nat×List Nat×List Nat)|true,(p::ps,us)=>some (p,ps,us)|false,(ps,u::us)=>some (u,ps,us)|_,_=>none
def oa (f:AV→List Nat×List Nat→Option (AV×List (Nat×AO)×List Nat×List Nat)):List AV→List Nat×List Nat→Option (List AV×List (Nat×AO)×List Nat×List Nat)|[],s=>some ([],[],s)|c::cs,s=>(f c s).bind fun r=>(oa f cs r.2.2).map fun q=>(r.1::q.1,r.2.1++q.2.1,q.2.2)
def num:Nat→Bool→AV→List Nat×List Nat→Option (AV×List (Nat×AO)×List Nat×List Nat)|0,_,_,_=>none|n+1,top,y,s=>match y with|.fr e rows=>(tk top s).map fun q=>(.own q.1,[(q.1,.arr e rows)],q.2)|.mf es=>(tk top s).map fun q=>(.own q.1,[(q.1,.iB es)],q.2)|.bx cs=>(tk top s).bind fun q=>(oa (num n false) cs q.2).map fun r=>(.ptr q.1 0,(q.1,.box r.1)::r.2.1,r.2.2)|.agg cs=>(oa (num n top) cs s).map fun r=>(.agg r.1,r.2)|.aO cs=>(oa (num n top) cs s).map fun r=>(.aO r.1,r.2)|.pv p=>some (.pv p,[],s)|.rp cs=>some (.rp cs,[],s)|.bE f caps=>if gZ caps=true then some (.bE f caps,[],s) else none|_=>none
def sG:AV→List Nat|.own t=>[t]|.ptr t 0=>[t]|_=>[]
def sy:AV→List Nat|.agg cs=>cs.flatMap sG|x=>sG x
def ey (W:List Nat):AV→AV|.own t=>if W.contains t then .aw else .own t|.ptr t o=>if W.contains t then .aw else .ptr t o|.bd t e i o=>if W.contains t then .aw else .bd t e i o|.sub t e lo hi=>if W.contains t then .aw else .sub t e lo hi|.pv p=>.pv p|.rp cs=>.rp cs|.bE f []=>.bE f []|_=>.aw
def jc (W:List Nat):AV→AV|.agg cs=>.agg (cs.map (ey W))|v=>ey W v
def lC (W:List Nat):AV→AV|.aO cs=>.aO (cs.map (jc W))|.bE f cs=>.bE f (cs.map (jc W))|.cp g v=>.cp g (lC W v)|v=>jc W v
def fu (W:List Nat) (v:AV):AV:=if W.isEmpty=true then v else lC W v
def yY (W:List Nat):AO→AO|.box cs=>.box (cs.map (ey W))|.rws e cs=>.rws e (cs.map (ey W))|o=>o
def jG (W:List Nat) (o:AO):AO:=if W.isEmpty=true then o else yY W o
def iq (W:List Nat) (f:Nat→AV):Nat→AV:=fun s=>fu W (f s)
def fm (T W:List Nat) (f:Nat→Option AO):Nat→Option AO:=fun t=>if T.contains t then none else(f t).map (jG W)
def BC (aa objs':Nat→Option AO) (T:List Nat):List Nat→List AV→Option (List AV)|[],[]=>some []|k::ks,x::xs=>(if k=0 then pf objs' (fu T x) else if k=1 then(rd 5 aa x).map (·.1) else(rd 5 aa x).map fun r=>.aO [r.1]).bind fun y=>(BC aa objs' T ks xs).map (y::·)|_,_=>none
def eU (aa:Nat→Option AO):List Nat→List AV→List Nat|k::ks,x::xs=>(if k=0 then[] else((rd 5 aa x).map (·.2)).getD [])++eU aa ks xs|_,_=>[]
def er:List Nat→List AV→List AV|k::ks,x::xs=>if 1<k then x::er ks xs else er ks xs|_,_=>[]
def eH (T:List Nat):List Nat→List AV→Bool|k::ks,x::xs=>(k !=0||eC (fu T x))&&eH T ks xs|_,_=>true
def fT:Nat→AV→Prop|0,_=>False|n+1,y=>match y with|.fr _ rows=>bp rows|.mf es=>∀e∈es,il e.2=true|.bx cs|.agg cs|.aO cs=>∀c∈cs,fT n c|.pv p=>il p=true|.bE _ []=>True|_=>False
def aT (d:Nat) (r:AV):List (Nat×AO):=(Bz r).map fun x=>(d+1000*x.1,x.2)
def bY (l:List α) (o:Nat) (ps:List α):List α:=l.take o++ps++l.drop (o+ps.length)
def cj (t:Nat):AV→AV|.own s=>if s=t then .aw else .own s|.bd s e i o=>if s=t then .aw else .bd s e i o|.sub s e i o=>if s=t then .aw else .sub s e i o|.pv p=>.pv p|.ptr s o=>.ptr s o|.rp cs=>.rp cs|.bE f []=>.bE f []|_=>.aw
def b7 (t:Nat):List AV→List AV|[]=>[]|c::cs=>cj t c::b7 t cs
def kill (t:Nat):AV→AV|.agg cs=>.agg (b7 t cs)|.aO cs=>.aO (b7 t cs)|.cp g v=>.cp g (kill t v)|v=>cj t v
def dY (t:Nat):AO→AO|.box cs=>.box (b7 t cs)|.rws e cs=>.rws e (b7 t cs)|o=>o
def cE (t:Nat) (f:Nat→AV):Nat→AV:=fun s=>kill t (f s)
def dG (t:Nat) (f:Nat→Option AO):Nat→Option AO:=fun s=>(f s).map (dY t)
def cG (k:AK) (d:Nat) (xs:List AV) (aa:Nat→Option AO):Option (Prop×AV×AO):=match k,xs with|.gX e,_=>some (True,.own d,.arr e [])|.box,[x]=>if fB (cellsOf x) then some (True,.ptr d 0,.box (cellsOf x)) else none|.alloc zs,_=>if zs.all (·.oneCell') then some (True,.ptr d 0,.box (zs.map cv)) else none|.sJ e sz,xs=>(rowsOf xs).map fun rows=>(∀r∈rows,r.length=sz,.own d,.arr e rows)|.app e sz bytes,[.pv .nil,x]=>(cT aa x).map fun rows=>(rows.length*bytes≤140737488355328∧rows.length≤maxLen∧(∀r∈rows,r.length=sz),.own d,.arr e rows)|_,_=>none
def eM (k:AK) (xs:List AV) (aa:Nat→Option AO):Option (Prop×Nat×AO):=match k,xs with|.store none,[.ptr t o,v]=>(eY (aa t)).bind fun cs=>if ez v∧o<cs.length then some (True,t,.box (cs.set o v)) else none|.store (some n),[.ptr t o,.agg vs]=>(eY (aa t)).bind fun cs=>if fB vs∧vs.length=n∧o+n≤cs.length then some (True,t,.box (bY cs o vs)) else none|.store none,[.bd t e i o,.pv p]=>(cX (aa t)).bind fun r=>if r.1=e∧o<(rowAt r.2 i).length∧ez (.pv p) then some (0≤i∧i<r.2.length,t,.arr e (r.2.set i.toNat ((rowAt r.2 i).set o p))) else none|.store (some n),[.bd t e i o,.agg vs]=>(cX (aa t)).bind fun r=>(fc vs).bind fun ps=>if r.1=e∧fB vs∧ps.length=n∧o+n≤(rowAt r.2 i).length then some (0≤i∧i<r.2.length,t,.arr e (r.2.set i.toNat (bY (rowAt r.2 i) o ps))) else none|.app e sz bytes,[.own t,x]=>(cX (aa t)).bind fun r=>(cT aa x).bind fun more=>if r.1=e∧t%1000≠999 then some ((r.2.length+more.length)*bytes≤140737488355328∧r.2.length+more.length≤maxLen∧(∀r∈more,r.length=sz),t,.arr e (r.2++more)) else none|_,_=>none
def ai (o:Option α) (K:α→Prop):Prop:=match o with|some x=>K x|none=>False
def qP (φ ψ:Prop) (c:Bool):AV→AV→Option (Prop×AV)|.pv (.bool x),.pv (.bool y)=>some ((c=true→φ)∧(c=false→ψ),.pv (.bool (cond c x y)))|.pv (.bool x),_=>some (c=true∧φ,.pv (.bool x))|_,.pv (.bool y)=>some (c=false∧ψ,.pv (.bool y))|_,_=>none
def jd:AV→Option Bool|.pv (.bool c)=>some c|_=>none
def u9:List AV→Option (Prop×AV)|[c,a,b]=>(jd (strip c)).bind fun g=>(qP (asks a) (asks b) g (strip a) (strip b)).map fun r=>(asks c∧r.1,r.2)|_=>none
def bG (os:List (Nat×AO)) (aa:Nat→Option AO):Nat→Option AO:=fun t=>match ab os t with|some o=>some o|none=>aa t
inductive bI where|put (v:AV)|new (v:AV) (os:List (Nat×AO))|wo (t:Nat) (o:AO)|app (t:Nat) (o:AO)
def bI.on (d:Option Nat):bI→St→St|.put v,st=>⟨Ab.put d v st.vars,st.aa⟩|.new v os,st=>⟨Ab.put d v st.vars,bG os st.aa⟩|.wo t o,st=>⟨Ab.put d .aw st.vars,aR t o st.aa⟩|.app t o,st=>⟨Ab.put d (.own t) (cE t st.vars),aR t o (dG t st.aa)⟩
def pQ:List AV→Bool|.own _::_=>true|_=>false
def oW:AV→Bool|.aO vs=>decide (vs.length≤1000)|_=>true
def iL:AV→Bool|.pv _|.rp _|.fr _ _=>true|_=>false
def lX:List AV→Bool|[]=>true|c::cs=>iL c&&lX cs
def mn:AV→Bool|.agg cs=>lX cs|v=>iL v
def rD:List AV→Bool|[]=>true|c::cs=>mn c&&rD cs
def cY:AV→Bool|.aO vs=>decide (vs.length≤900)&&rD vs|v=>mn v
def Gk:AV→Bool
 |.bx _|.mf _=>true|.agg cs=>cs.any fun c=>match c with|.bx _|.mf _=>true|_=>false
 |_=>false
def pP:AV→Bool|.aO vs=>vs.any Gk|v=>Gk v
def ku (d:Nat):List Nat:=[d,d+1000,d+2000,d+3000,d+4000,d+5000,d+6000,d+7000]
def sn (r:AV):Prop:=if pP r=true then fT 5 r else flat r
def j8 (d:Nat) (r:AV):List (Nat×AO):=if pP r=true then(((num 5 false r ([],ku d)).map (·.2.1)).getD []) else aT d r
def As (d:Nat) (r:AV):AV:=if pP r=true then(((num 5 false r ([],ku d)).map (·.1)).getD .aw) else cS (lP d) r
def Bu (d:Nat) (r:AV):Bool:=if pP r=true then(num 5 false r ([],ku d)).isSome else cY r
def Sb (P:Program) (f:FuncId) (ys:List AV) (r:AV):Prop:=(pP r=true→Da P f ys (.bE 0 [r]))∧(pP r=false→sO P f [] ys [] r)
abbrev bX:=FuncId→List AV→Option (Prop×AV)
def eb (P:Program) (Γ:bX):Prop:=∀f ys φ r,Γ f ys=some (φ,r)→φ→(f<1000000∧sO P f [] ys [] r)∨(P.funcs.size≤1000000∧1000000≤f∧f<2000000∧(ys=[.aw]∨Cz P (f-1000000) ys r))∨(P.funcs.size≤1000000∧2000000≤f∧f<3000000∧(ys=[.aw]∨Da P (f-2000000) ys r))∨(P.funcs.size≤1000000∧3000000≤f∧Da P (f-3000000) ys (.bE 0 [r]))
def SR:Option (Prop×AV)→Option (Prop×AV)→Option (Prop×AV)|some x,_=>some (x.1∧pP x.2=false,x.2)|none,y=>y.map fun x=>(x.1∧pP x.2=true,x.2)
def gt (Γ:bX) (f:FuncId) (ys:List AV):Option (Prop×AV):=SR (Γ f ys) (Γ (f+3000000) ys)
theorem no3 {n f:Nat} (h:3000000≤f) (hn:n≤1000000):¬f<n:=by omega
theorem eb.con {Γ:bX} (h:eb P Γ) {f:FuncId} (hf:f<P.funcs.size) {ys:List AV}{φ:Prop}{r:AV} (hr:gt Γ f ys=some (φ,r)) (hφ:φ):Sb P f ys r:=by unfold gt at hr;cases hg:Γ f ys with
 |some x=>
  rw[hg]at hr;have hr:some (x.1∧pP x.2=false,x.2)=some (φ,r):=hr;simp only[qr,q70]at hr;obtain⟨rfl,rfl⟩:=hr;refine⟨fun e=>absurd (hφ.2.symm.trans e) q260,fun _=>?_⟩;rcases h f ys x.1 x.2 hg hφ.1 with⟨_,h⟩|⟨h,h2,_⟩|⟨h,h2,_⟩|⟨h,h2,_⟩;·exact h
  ·exact absurd hf (q205.2 (q113 h h2))
  ·exact absurd hf (q205.2 (q113 h (q113 (by decide) h2)))
  ·exact absurd hf (no3 h2 h)|none=>
  rw[hg]at hr;obtain⟨x,hx,hr⟩:=q0.1 (show(Γ (f+3000000) ys).map (fun x=>(x.1∧pP x.2=true,x.2))=some (φ,r) from hr);simp only[q70]at hr;obtain⟨rfl,rfl⟩:=hr;refine⟨fun _=>?_,fun e=>absurd (e.symm.trans hφ.2) q260⟩;rcases h (f+3000000) ys x.1 x.2 hx hφ.1 with⟨h,_⟩|⟨_,_,h,_⟩|⟨_,_,h,_⟩|⟨_,_,h⟩;·exact absurd h (q205.2 (q113 (by decide) (q165 3000000 f)))
  ·exact absurd h (q205.2 (q113 (by decide) (q165 3000000 f)))
  ·exact absurd h (q205.2 (q165 3000000 f))
  ·rw[show f+3000000-3000000=f from q159 _ _]at h;exact h
def cH (P:Program) (Γ:bX) (d:Option Nat) (f:FuncId) (xs:List AV) (aa:Nat→Option AO) (C:bI→Prop):Prop:=ai d fun d=>aq xs∧ai (fJ aa (xs.map strip)) fun ys=>ai (gt Γ f ys) fun x=>x.1∧(eT (xs.map strip)=true∨sn x.2)∧(∀y∈j8 d x.2,aa y.1=none)∧Bu d x.2=true∧C (.new (As d x.2) (j8 d x.2))
def bf (P:Program) (Γ:bX) (d:Option Nat) (k:AK) (xs:List AV) (aa:Nat→Option AO) (C:bI→Prop):Prop:=match k with|.oO=>ai xs.head? fun x=>xs.length=1∧C (.put x)|.pick=>ai (u9 xs) fun x=>x.1∧C (.put x.2)|.gX _|.box|.alloc _|.sJ _ _=>ai d fun d=>aq xs∧ai (cG k d (xs.map strip) aa) fun x=>x.1∧aa d=none∧C (.new x.2.1 [(d,x.2.2)])|.store _=>aq xs∧ai (eM k (xs.map strip) aa) fun x=>x.1∧C (.wo x.2.1 x.2.2)|.app _ _ _=>aq xs∧if pQ (xs.map strip) then ai (eM k (xs.map strip) aa) fun x=>x.1∧C (.app x.2.1 x.2.2) else ai d fun d=>ai (cG k d (xs.map strip) aa) fun x=>x.1∧aa d=none∧C (.new x.2.1 [(d,x.2.2)])|.call f=>cH P Γ d f xs aa C|_=>aq xs∧ai (al k (xs.map strip) aa) fun x=>x.1∧C (.put x.2)
def Bm (Γ:bX) (c:Bool) (f:FuncId) (xs:List AV) (aa:Nat→Option AO) (C:bI→Prop):Prop:=ai (fJ aa (xs.map strip)) fun ys=>ai (gt Γ f ys) fun x=>(c=true→aq xs∧x.1)∧flat x.2∧Bz x.2=[]∧cY x.2=true∧C (.put (.cp c x.2))
def NA:AV→AV|.fr _ rows=>.pv (.ro rows)|v=>v
def Nl:AV→AV|.agg cs=>.agg (cs.map NA)|v=>NA v
def Ps:AV→AV|.aO vs=>.aO (vs.map Nl)|v=>Nl v
def GB:Option (List (List PV))→AV|some rows=>.cp false (.pv (.ro rows))|none=>.aw
def A8 (xs:List AV):AV:=GB (rowsOf (xs.map strip))
def cu (P:Program) (Γ:bX) (c:Bool) (d:Option Nat) (k:AK) (xs:List AV) (aa:Nat→Option AO) (C:bI→Prop):Prop:=match k with|.oO=>ai xs.head? fun x=>xs.length=1∧C (.put (.cp c x))|.pick=>ai (u9 xs) fun x=>(c=true→x.1)∧C (.put (.cp c x.2))|.sJ _ _=>(c=true→bf P Γ d k xs aa C)∧(c=false→C (.put (A8 xs)))|.gX _|.box|.alloc _|.store _|.app _ _ _=>(c=true→bf P Γ d k xs aa C)∧(c=false→C (.put .aw))|.call f=>ai (fJ aa (xs.map strip)) fun ys=>ai (gt Γ f ys) fun x=>if(!pP x.2&&(Bz x.2).isEmpty)=true then(c=true→aq xs∧x.1)∧flat x.2∧Bz x.2=[]∧cY x.2=true∧C (.put (.cp c x.2)) else(c=true→bf P Γ d k xs aa C)∧(c=false→C (.put (.cp false (Ps x.2))))|_=>ai (al k (xs.map strip) aa) fun x=>(c=true→aq xs∧x.1)∧C (.put (.cp c x.2))
def s0:Bool→Option Bool→Option Bool|false,_=>some false|true,o=>o
def bN:AV→Bool→Option Bool|.pv (.bool b),want=>some (if want then b else !b)|.cp c v,want=>s0 c (bN v want)|_,_=>none
def kp (un:List Nat) (t:Nat):Prop:=un.contains (t%1000)=false
def vB (un:List Nat):AV→Prop|.own t|.ptr t _|.bd t _ _ _|.sub t _ _ _=>kp un t|_=>True
def hZ (un:List Nat):List AV→Prop|[]=>True|c::cs=>vB un c∧hZ un cs
def nU (un:List Nat) (aa:Nat→Option AO):AV→Prop|.ptr t _=>kp un t∧hZ un ((eY (aa t)).getD [])|.agg cs=>hZ un cs|v=>vB un v
def lB (un:List Nat) (aa:Nat→Option AO):List AV→Prop|[]=>True|c::cs=>nU un aa c∧lB un aa cs
def sr (un:List Nat) (aa:Nat→Option AO):AV→Prop|.bE _ cs=>lB un aa cs|v=>nU un aa v
def kc (un:List Nat) (aa:Nat→Option AO):List AV→Prop|[]=>True|c::cs=>sr un aa c∧kc un aa cs
def uA:Option Nat→bI→Prop|none,_=>True|some s,.wo t _=>t=s|some _,_=>False
def lF (un:List Nat):bI→Prop|.app t _=>un.contains (t%1000+1000)=false|_=>True
def BQ (un:List Nat) (tg:Option Nat) (e:bI):Prop:=uA tg e∧lF un e
def dW (P:Program) (Γ:bX) (i:AI) (vars:Nat→AV) (aa:Nat→Option AO) (C:bI→Prop):Prop:=match i.g with|none=>bf P Γ i.d i.k (i.xs.map (ev vars)) aa C|some (s,want)=>ai (bN (vars s) want) fun c=>cu P Γ c i.d i.k (i.xs.map (ev vars)) aa C
def c9 (P:Program) (Γ:bX) (i:AI) (K:St→Prop) (st:St):Prop:=(i.un=[]∨kc i.un st.aa ((i.xs.map (ev st.vars)).map strip))∧dW P Γ i st.vars st.aa fun e=>BQ i.un i.tg e∧K (e.on i.d st)
def fF (P:Program) (f:FuncId):Bool:=match P.funcs[f]? with|some fn=>fn.name != "runtime.NumGoroutine" &&fn.body.isSome|none=>false
def lv:List AV→Option (FuncId×List AV)|.bE f caps::args=>some (f,args++caps)|.pv (.val v)::args=>(NO v).map fun f=>(f,args)|_=>none where NO:Value→Option FuncId|.func (.func f) ⟨[]⟩ ⟨[]⟩=>some f|_=>none
def eZ:List AV→Bool|[]=>false|.aw::_=>true|.pv (.val _)::_=>true|.rp []::_=>true|_::l=>eZ l
def KA:Option Bool→Bool|some false=>true|_=>false
def ia:Bool→Bool→Prop→Prop→Prop|false,_,A,_=>A|true,f,A,B=>if f=true then B else A
def sh (t:Nat) (e0:TypeId) (rows:List (List PV)):AV→AV|.own s=>if s=t then .pv (.ro rows) else .own s|.sub s e lo hi=>if s=t then(if e=e0 then .pv (.ro ((rows.take hi).drop lo)) else .aw) else .sub s e lo hi|v=>kill t v
def I6 (t:Nat) (e0:TypeId) (rows:List (List PV)) (f:Nat→AV):Nat→AV:=fun s=>sh t e0 rows (f s)
def gb (t:Nat) (f:Nat→Option AO):Nat→Option AO:=fun s=>if s=t then none else(f s).map (dY t)
def T4 (t:Nat) (e0:TypeId) (rows:List (List PV)):AV→AV|.own s=>if s=t then .pv (.ro rows) else .own s|.sub s e lo hi=>if s=t then(if e=e0 then .pv (.ro ((rows.take hi).drop lo)) else .aw) else .sub s e lo hi|c=>cj t c
def sD (t:Nat) (e0:TypeId) (rows:List (List PV)):List AV→List AV|[]=>[]|c::cs=>T4 t e0 rows c::sD t e0 rows cs
def F1 (t:Nat) (e0:TypeId) (rows:List (List PV)):AV→AV|.agg cs=>.agg (sD t e0 rows cs)|v=>sh t e0 rows v
def I8 (t:Nat) (e0:TypeId) (rows:List (List PV)):AO→AO|.box cs=>.box (sD t e0 rows cs)|o=>dY t o
def shW (t:Nat) (e0:TypeId) (rows:List (List PV)) (f:Nat→AV):Nat→AV:=fun s=>F1 t e0 rows (f s)
def Cj (t:Nat) (e0:TypeId) (rows:List (List PV)) (f:Nat→Option AO):Nat→Option AO:=fun s=>if s=t then none else(f s).map (I8 t e0 rows)
def iQ (st:St):AV→St
 |.own t=>match cX (st.aa t) with|some r=>⟨shW t r.1 r.2 st.vars,Cj t r.1 r.2 st.aa⟩|none=>st
 |_=>st
def gB:St→List AV→St|st,[]=>st|st,c::cs=>gB (iQ st c) cs
def share1 (st:St):AV→St|.agg cs=>gB st cs|v=>iQ st v
def cK (st:St):List AV→St|[]=>st|v::l=>cK (share1 st v) l
def Cf:PV→PV|.nil=>.ro []|p=>p
def sF:AV→AV|.pv p=>.pv (Cf p)|c=>c
def mM:List AV→List AV|[]=>[]|c::cs=>sF c::mM cs
def xR:AV→AV|.agg cs=>.agg (mM cs)|v=>sF v
def td:AO→AO|.box cs=>.box (mM cs)|o=>o
def vg (st:St):St:=⟨fun s=>xR (st.vars s),fun s=>(st.aa s).map td⟩
def sC:Option AO→Option (List (PV×PV))|some (.iB es)=>some es|_=>none
def ZS (t:Nat) (es:List (PV×PV)):AV→AV|.own s=>if s=t then .pv (.mv es) else .own s|v=>kill t v
def AU (t:Nat) (st:St):St:=match sC (st.aa t) with|some es=>⟨fun s=>ZS t es (st.vars s),gb t st.aa⟩|none=>st
def zf (t:Nat) (st:St):St:=if t=999996 then vg st else if 1000000000000000≤t then AU (t-1000000000000000) st else share1 st (.own t)
def cF:List Nat→St→St|[],st=>st|t::ts,st=>cF ts (zf t st)
def I4:AV→Bool|.pv (.ro _)|.pv (.mp _)|.pv (.mv _)|.pv (.pt _)|.rp _=>true|_=>false
def E7:List AV→Bool|[]=>false|c::cs=>I4 c||E7 cs
def Vf:AV→Bool|.agg cs=>E7 cs|v=>I4 v
def Fv:List AV→Bool|[]=>false|c::cs=>Vf c||Fv cs
def ZR:AV→Bool|.aO vs=>Fv vs|v=>Vf v
def uW (t:Nat) (st:St):St:=match cX (st.aa t) with|some _=>⟨cE t st.vars,gb t st.aa⟩|none=>st
def AZ (P:Program) (Γ:bX) (d:Option Nat) (f:FuncId) (xs:List Operand) (K:St→Prop) (st:St):Prop:=cH P Γ d f (xs.map (ev st.vars)) st.aa fun e=>K (e.on d st)
def me (P:Program) (Γ:bX) (i:AI) (f:FuncId) (K:St→Prop) (st:St):Prop:=ai (fJ st.aa ((i.xs.map (ev st.vars)).map strip)) fun ys=>ai (gt Γ f ys) fun x=>if(ZR x.2&&!eT ((i.xs.map (ev st.vars)).map strip))=true then AZ P Γ i.d f i.xs K (cK st ((i.xs.map (ev st.vars)).map strip)) else c9 P Γ i K st
def frC:AV→Bool|.pv (.ro _)|.pv (.mp _)|.pv (.mv _)|.pv (.pt _)|.rp _|.fr _ _|.bx _|.mf _=>true|_=>false
def Y1:List AV→Bool|[]=>false|c::cs=>frC c||Y1 cs
def fr1:AV→Bool|.agg cs=>Y1 cs|v=>frC v
def YI:List AV→Bool|[]=>false|c::cs=>fr1 c||YI cs
def frR:AV→Bool|.aO vs=>YI vs|v=>fr1 v
def qe (t:Nat):AV→Prop|.own s|.ptr s _|.bd s _ _ _|.sub s _ _ _=>s≠t|.pv _|.rp _|.aw=>True|.bE _ []=>True|_=>False
def uI (t:Nat):List AV→Prop|[]=>True|c::cs=>qe t c∧uI t cs
def uo (t:Nat):AV→Prop|.agg cs|.bE _ cs=>uI t cs|v=>qe t v
def lU (t p:Nat):List AV→Prop|[]=>True|v::vs=>(match p with|0=>nQ vs|p+1=>uo t v∧lU t p vs) where nQ:List AV→Prop|[]=>True|v::vs=>uo t v∧nQ vs
def gx (aa:Nat→Option AO) (k:Nat):AV→Option (Nat×TypeId×List (List PV))|.own t=>(cX (aa t)).map fun r=>(t,r.1,r.2)|.sub t e 0 hi=>if k=998 then(cX (aa t)).bind fun r=>if r.1=e then some (t,e,r.2.take hi) else none else none|_=>none
def wQ (k:Nat) (e:TypeId) (rows:List (List PV)):AV:=if k=998 then .fr e rows else .aO [.fr e rows]
def rM (aa:Nat→Option AO) (m:AV):Nat→List AV→Option (List AV)|_,[]=>some []|0,_::vs=>(fJ aa vs).map (m::·)|p+1,v::vs=>(pf aa v).bind fun y=>(rM aa m p vs).map (y::·)
def jQ:Nat→List AV→Bool|_,[]=>true|0,_::vs=>eT vs|p+1,v::vs=>eC v&&jQ p vs
def pb:List (Nat×AO)→Prop|[]=>True|(_,.arr _ rows)::l=>bp rows∧pb l|_::l=>pb l
def cN (t:Nat) (x:AV) (aa:Nat→Option AO):Nat→Option AO:=match ep x with|(_,o)::_=>aR t o aa|[]=>gb t aa
def ie (t:Nat) (x:AV) (vars:Nat→AV):Nat→AV:=match ep x with|_::_=>vars|[]=>cE t vars
def D6:AV→Option (Nat×Nat)|.ptr p k=>if k=998∨k=999∨k=997∨k=996 then some (p,k) else none|_=>none
def dV (Γ:bX) (f:FuncId):Option (Nat×Nat):=(Γ (f+1000000) [.aw]).bind fun x=>D6 x.2
def lG (P:Program) (Γ:bX) (d:Option Nat) (f:FuncId) (xs:List AV) (p k:Nat) (K:St→Prop) (st:St):Prop:=ai d fun d=>aq xs∧ai ((xs.map strip)[p]?) fun X=>ai (gx st.aa k X) fun T=>lU T.1 p (xs.map strip)∧ai (rM (gb T.1 st.aa) (wQ k T.2.1 T.2.2) p (xs.map strip)) fun ys=>ai (Γ (f+1000000) ys) fun x=>x.1∧(jQ p (xs.map strip)=true∨(flat (b9 x.2)∧pb (ep x.2)))∧(∀y∈aT d (b9 x.2),st.aa y.1=none)∧cY (b9 x.2)=true∧K ⟨put (some d) (cS (lP d) (b9 x.2)) (ie T.1 x.2 st.vars),bG (aT d (b9 x.2)) (cN T.1 x.2 st.aa)⟩
def rG (aa:Nat→Option AO):Nat→List AV→Option (List AV)|_,[]=>some []|0,.pv .nil::vs=>(fJ aa vs).map (.pv .nil::·)|0,_::_=>none|p+1,v::vs=>(pf aa v).bind fun y=>(rG aa p vs).map (y::·)
def zE (P:Program) (Γ:bX) (d:Option Nat) (f:FuncId) (xs:List AV) (p:Nat) (K:St→Prop) (st:St):Prop:=ai d fun d=>aq xs∧ai (rG st.aa p (xs.map strip)) fun ys=>ai (Γ (f+1000000) ys) fun x=>x.1∧(eT (xs.map strip)=true∨flat x.2)∧(∀y∈aT d x.2,st.aa y.1=none)∧cY x.2=true∧K ⟨put (some d) (cS (lP d) x.2) st.vars,bG (aT d x.2) st.aa⟩
def Sh:AV→Option (List Nat)|.rp l=>some (l.map fun p=>match p with|.int _ n=>n.toNat|_=>0)|_=>none
def jj (Γ:bX) (f:FuncId):Option (List Nat):=(Γ (f+2000000) [.aw]).bind fun x=>Sh x.2
def pd (d:Nat) (T W:List Nat):List Nat:=W.filter (fun t=>t%1000 !=999)++[d,d+1000,d+2000,d+3000,d+4000,d+5000,d+6000,d+7000].filter fun t=>!T.contains t
def xT (Γ:bX) (d f:Nat) (ks:List Nat) (xs:List AV) (T Q W:List Nat) (K:St→Prop) (st:St) (ys:List AV):Prop:=ai (Γ (f+2000000) ys) fun x=>x.1∧(eH T ks xs=true∨∀y∈lO x.2++[kS x.2],fT 5 y)∧ai (oa (num 5 true) (lO x.2) (Q,pd d T W)) fun o=>o.1=er ks xs∧ai (num 5 false (kS x.2) o.2.2) fun r=>(∀p∈o.2.1++r.2.1,T.contains p.1=true∨st.aa p.1=none)∧K ⟨put (some d) r.1 (iq W st.vars),bG (o.2.1++r.2.1) (fm T W st.aa)⟩
def yU (Γ:bX) (d f:Nat) (ks:List Nat) (xs:List AV) (T Q W:List Nat) (K:St→Prop) (st:St):Prop:=Q.Nodup∧ai (BC st.aa (fm T T st.aa) T ks xs) fun ys=>xT Γ d f ks xs T Q W K st ys
def yD (Γ:bX) (d f:Nat) (ks:List Nat) (xs:List AV) (T Q:List Nat) (K:St→Prop) (st:St):Prop:=T.Nodup∧(∀t∈Q,t∈T)∧yU Γ d f ks xs T Q (T.filter fun t=>!Q.contains t) K st
def stepG (Γ:bX) (d:Option Nat) (f:FuncId) (xs:List AV) (ks:Option (List Nat)) (K:St→Prop) (st:St):Prop:=ai d fun d=>aq xs∧ai ks fun ks=>yD Γ d f ks (xs.map strip) (eU st.aa ks (xs.map strip)) ((er ks (xs.map strip)).flatMap sy) K st
def my (P:Program) (Γ:bX) (i:AI) (f:FuncId) (s:Nat) (w:Bool) (o:Option (Nat×Nat)) (K:St→Prop) (st:St):Prop:=match o with|some (_,k)=>if k=996 then ai (bN (st.vars s) w) fun c=>if c=true then stepG Γ i.d f (i.xs.map (ev st.vars)) (jj Γ f) K st else K ((bI.put (.cp false .aw)).on i.d st) else False|none=>ia (eZ ((i.xs.map (ev st.vars)).map strip)) (KA (bN (st.vars s) w)) (ai (bN (st.vars s) w) fun c=>ai (fJ st.aa ((i.xs.map (ev st.vars)).map strip)) fun ys=>ai (gt Γ f ys) fun x=>if frR x.2=true then(if c=true then me P Γ ⟨i.d,i.k,i.xs,none,[],none⟩ f K st else K ((bI.put (.cp false .aw)).on i.d st)) else c9 P Γ i K st) (K ((bI.put (.cp false .aw)).on i.d st))
def DD (P:Program) (Γ:bX) (i:AI) (f:FuncId) (s:Nat) (w:Bool) (K:St→Prop) (st:St):Prop:=my P Γ i f s w (dV Γ f) K st
def eW (P:Program) (Γ:bX) (d:Option Nat) (f:FuncId) (ys:List AV) (o:Option (Nat×Nat)) (K:St→Prop) (st:St):Prop:=match o with|some (_,k)=>if k=996 then stepG Γ d f ys (jj Γ f) K st else False|none=>cH P Γ d f ys st.aa fun e=>K (e.on d st)
def iz (P:Program) (Γ:bX) (d:Option Nat) (f:FuncId) (ys:List AV) (A:Prop) (c:Bool) (o:Option (Nat×Nat)) (K:St→Prop) (st:St):Prop:=match o with|some (_,k)=>if k=996 then(if c=true then A∧stepG Γ d f ys (jj Γ f) K st else K ((bI.put (.cp false .aw)).on d st)) else False|none=>Bm Γ c f ys st.aa fun e=>(c=true→A)∧K (e.on d st)
def qi (P:Program) (Γ:bX) (d:Option Nat) (xs:List AV) (s:Nat) (w:Bool) (K:St→Prop) (st:St):Prop:=ai (bN (st.vars s) w) fun c=>ai (lv (xs.map strip)) fun x=>fF P x.1=true∧iz P Γ d x.1 x.2 (aq xs) c (dV Γ x.1) K st
def fX (P:Program) (Γ:bX) (d:Option Nat) (xs:List AV) (g:Option (Nat×Bool)) (K:St→Prop) (st:St):Prop:=match g with|none=>(aq xs∧ai (lv (xs.map strip)) fun x=>fF P x.1=true∧eW P Γ d x.1 x.2 (dV Γ x.1) K st)|some (s,w)=>ia (eZ (xs.map strip)) (KA (bN (st.vars s) w)) (qi P Γ d xs s w K st) (K ((bI.put (.cp false .aw)).on d st))
def lD:List AV→Bool|[]=>true|.pv _::l=>lD l|_=>false
def ldT (aa:Nat→Option AO):AV→Option Nat|.ptr t _=>(eY (aa t)).bind fun cs=>if lD cs=true then some t else none|_=>none
def nJ (T:List Nat) (st:St):List Nat→Prop|[]=>True|s::l=>ai (ldT st.aa (st.vars s)) (fun t=>T.contains t=false)∧nJ T st l
def DE (ks:Option (List Nat)) (aa:Nat→Option AO) (xs:List AV):List Nat:=match ks with|some ks=>eU aa ks xs|none=>[]
def ij (P:Program) (Γ:bX) (i:AI) (f:FuncId) (o:Option (Nat×Nat)) (K:St→Prop) (st:St):Prop:=match o with|some (p,k)=>if k=998 then i.un=[]∧lG P Γ i.d f (i.xs.map (ev st.vars)) p k K st else if k=996 then nJ (DE (jj Γ f) st.aa ((i.xs.map (ev st.vars)).map strip)) st i.un∧stepG Γ i.d f (i.xs.map (ev st.vars)) (jj Γ f) K st else False|none=>c9 P Γ ⟨i.d,i.k,i.xs,i.g,[],none⟩ K st
def cO (P:Program) (Γ:bX) (i:AI) (K:St→Prop) (st:St):Prop:=match i.k,i.tg,i.g with|.call f,some 999999,none=>ij P Γ i f (dV Γ f) K st|.lN,some 999999,none=>fX P Γ i.d (i.xs.map (ev st.vars)) none K st|_,_,_=>c9 P Γ i K st
def steps (P:Program) (Γ:bX) (is:List AI) (K:St→Prop) (st:St):Prop:=match is with|[]=>K st|i::is=>cO P Γ i (fun st'=>steps P Γ is K st') st
def gY (P:Program) (Γ:bX) (i:AI) (f:FuncId) (o:Option (Nat×Nat)) (K:St→Prop) (st:St):Prop:=match o with|some (p,k)=>if k=997 then zE P Γ i.d f (i.xs.map (ev st.vars)) p K st else if k=996 then stepG Γ i.d f (i.xs.map (ev st.vars)) (jj Γ f) K st else lG P Γ i.d f (i.xs.map (ev st.vars)) p k K st|none=>me P Γ i f K st
def B6 (aa:Nat→Option AO) (e:TypeId) (zs:List Value):AV→Option (Nat×AO)|.own t=>(cX (aa t)).bind fun r=>if r.1=e then some (t,.arr e (List.replicate r.2.length (zs.map su))) else none|.sub t e1 lo hi=>(cX (aa t)).bind fun r=>if r.1=e∧e1=e then some (t,.arr e (r.2.take lo++List.replicate (hi-lo) (zs.map su)++r.2.drop hi)) else none|_=>none
def pM (d:Option Nat) (e:TypeId) (sz:Nat) (zs:List Value) (xs:List AV) (K:St→Prop) (st:St):Prop:=aq xs∧ai ((xs.map strip).head?) fun X=>ai (B6 st.aa e zs X) fun r=>K ((bI.wo r.1 r.2).on d st)
def cq (P:Program) (Γ:bX) (i:AI) (K:St→Prop) (st:St):Prop:=match i.g with|none=>c9 P Γ i K st|some (s,w)=>ia (eZ ((i.xs.map (ev st.vars)).map strip)) (KA (bN (st.vars s) w)) (c9 P Γ i K st) (K ((bI.put (.cp false .aw)).on i.d st))
def xX:Option AO→Option (List (PV×AV))|some (.map es)=>some es|_=>none
def se (d:Option Nat) (xs ys:List AV) (K:St→Prop) (st:St):Prop:=match ys with|[.pv (.int .u64 a),.pv (.int .u64 b),.pv (.int .u64 c)]=>aq xs∧(0≤a∧0≤b∧0≤c∧c≤1)∧K ⟨put d (.aO [.pv (.int .u64 ((a+b+c)%18446744073709551616)),.pv (.int .u64 ((a+b+c)/18446744073709551616))]) st.vars,st.aa⟩|_=>False
def mI (d:Option Nat) (e:TypeId) (bytes:Nat) (zs:List Value) (xs ys:List AV) (K:St→Prop) (st:St):Prop:=match ys with|[.pv .nil,.pv (.int .i64 n)]=>ai d fun d=>aq xs∧(0≤n∧n≤140737488355328∧n.toNat*bytes≤140737488355328)∧st.aa d=none∧K ⟨put (some d) (.own d) st.vars,bG [(d,.arr e (List.replicate n.toNat (zs.map su)))] st.aa⟩|_=>False
def Bk (d:Option Nat) (e:TypeId) (bytes:Nat) (zs:List Value) (xs ys:List AV) (K:St→Prop) (st:St):Prop:=match ys with|[.pv (.int _ n),.pv (.int _ c)]=>ai d fun d=>aq xs∧(c=n∧0≤n∧n≤140737488355328∧n.toNat*bytes≤140737488355328)∧st.aa d=none∧K ⟨put (some d) (.own d) st.vars,bG [(d,.arr e (List.replicate n.toNat (zs.map su)))] st.aa⟩|_=>False
def yZ (d:Option Nat) (e:TypeId) (xs ys:List AV) (K:St→Prop) (st:St):Prop:=ai d fun d=>aq xs∧fB ys=true∧st.aa d=none∧K ⟨put (some d) (.own d) st.vars,bG [(d,.rws e ys)] st.aa⟩
def qR (d:Option Nat) (e:TypeId) (sz:Nat) (xs ys:List AV) (K:St→Prop) (st:St):Prop:=ai d fun d=>aq xs∧ai (rowsOf ys) fun rows=>(∀r∈rows,r.length=sz)∧st.aa d=none∧K ⟨put (some d) (.own d) st.vars,bG [(d,.arr e rows)] st.aa⟩
def uv:List AV→Option (Nat×Nat)|[]=>none|c::l=>match c with|.own q=>some (0,q)|_=>(uv l).map fun r=>(r.1+1,r.2)
def xy (d:Option Nat) (X Y:AV) (xs:List AV) (K:St→Prop) (st:St):Prop:=match X,Y with|.bd t e i o,.own q=>aq xs∧ai (cX (st.aa t)) fun r=>(r.1=e∧o=0)∧(0≤i∧i<r.2.length∧(rowAt r.2 i).length=1)∧K ⟨put d .aw st.vars,aR t (.rws e ((r.2.map fun x=>AV.pv (x.getD 0 .nil)).set i.toNat (.own q))) st.aa⟩|_,_=>False
def tr (d:Option Nat) (X:AV) (xs:List AV) (K:St→Prop) (st:St):Prop:=match X with|.own t=>aq xs∧ai (XC (st.aa t)) fun r=>ai (uv r.2) fun j=>ai (cX (st.aa j.2)) fun s=>ai (fc (r.2.set j.1 (.pv (.ro s.2)))) fun ps=>K ⟨put d (.own t) (I6 j.2 s.1 s.2 st.vars),aR t (.arr r.1 (ps.map fun p=>[p])) (gb j.2 st.aa)⟩|_=>False
def Ex:Option AO→Option (List (PV×PV)×Option (PV×PV))|some (.nS rem cur)=>some (rem,cur)|_=>none
def mi (k v:PV):List (PV×PV)→List (PV×PV)|[]=>[(k,v)]|e::l=>if mU k e.1=true then(k,v)::l else e::mi k v l
def qk (k:PV):List (PV×PV)→List (PV×PV)|[]=>[]|e::l=>if mU k e.1=true then l else e::qk k l
def ux:AV→Option Bool
 |.ptr _ _|.bd _ _ _ _|.rp _|.pv (.pt _)=>some false|.pv (.val v)=>match v with|.pointer none=>some true|_=>none
 |_=>none
def sk (d:Option Nat) (s:Nat) (X Y Z:AV) (xs:List AV) (K:St→Prop) (st:St):Prop:=match X,Y,Z with|.own t,.pv k,.pv v=>aq xs∧ai (sC (st.aa t)) fun es=>dB k=s∧fI s es∧K ⟨put d .aw st.vars,aR t (.iB (mi k v es)) st.aa⟩|_,_,_=>False
def IV (aa:Nat→Option AO):AV→Option (List (PV×PV))|.own t=>sC (aa t)|.pv (.mv es)=>some es|_=>none
def wP (d:Option Nat) (s:Nat) (z:Value) (ok:Bool) (X Y:AV) (xs:List AV) (K:St→Prop) (st:St):Prop:=match Y with|.pv k=>aq xs∧ai (IV st.aa X) fun es=>z.oneCell'=true∧dB k=s∧fI s es∧K ⟨put d (ye z ok (lK k es)) st.vars,st.aa⟩|_=>False
def wg (d:Option Nat) (s:Nat) (X Y:AV) (xs:List AV) (K:St→Prop) (st:St):Prop:=match X,Y with|.own t,.pv k=>aq xs∧ai (sC (st.aa t)) fun es=>dB k=s∧fI s es∧K ⟨put d .aw st.vars,aR t (.iB (qk k es)) st.aa⟩|_,_=>False
def xA (d:Option Nat) (X:AV) (xs:List AV) (K:St→Prop) (st:St):Prop:=match X with|.pv (.mv es)=>ai d fun d=>aq xs∧st.aa d=none∧K ⟨put (some d) (.ptr d 0) st.vars,bG [(d,.nS es none)] st.aa⟩|_=>False
def xo (d:Option Nat) (X:AV) (xs:List AV) (K:St→Prop) (st:St):Prop:=match X with|.ptr t 0=>aq xs∧ai (Ex (st.aa t)) fun r=>(r.1=[]→K ⟨put d (.aO [.pv (.bool false)]) st.vars,st.aa⟩)∧∀(e:PV×PV) (l m:List (PV×PV)),r.1=l++e::m→K ⟨put d (.aO [.pv (.bool true),.pv e.1,.pv e.2]) st.vars,aR t (.nS (l++m) (some e)) st.aa⟩|_=>False
def wY (d:Option Nat) (X:AV) (xs:List AV) (K:St→Prop) (st:St):Prop:=match X with|.ptr t 0=>aq xs∧ai (Ex (st.aa t)) fun r=>ai r.2 fun e=>K ⟨put d (.aO [.pv e.1,.pv e.2]) st.vars,st.aa⟩|_=>False
def qO (d:Option Nat) (x:XK) (xs ys:List AV) (K:St→Prop) (st:St):Prop:=match x,ys with|.rst,[X,Y]=>xy d X Y xs K st|.Fk,[X]=>tr d X xs K st|.mkv,[]=>ai d fun d=>st.aa d=none∧K ⟨put (some d) (.own d) st.vars,bG [(d,.iB [])] st.aa⟩|.TU s,[X,Y,Z]=>sk d s X Y (qx Z) xs K st|.FT s z ok,[X,Y]=>wP d s z ok X Y xs K st|.dlv s,[X,Y]=>wg d s X Y xs K st|.Eu ne,[X]=>aq xs∧ai (ux X) fun b=>K ⟨put d (.pv (.bool (b !=ne))) st.vars,st.aa⟩|.Zj,[X]=>xA d X xs K st|.nxt,[X]=>xo d X xs K st|.ent,[X]=>wY d X xs K st|.nn e sz,ys=>qR d e sz xs ys K st|_,_=>False
def ba (d:Option Nat) (x:XK) (xs:List AV) (K:St→Prop) (st:St):Prop:=match x,xs.map strip with|.Ym,[]=>ai d fun d=>st.aa d=none∧K ⟨put (some d) (.own d) st.vars,bG [(d,.map [])] st.aa⟩|.IM s,[.own t,.pv k,v]=>aq xs∧ai (xX (st.aa t)) fun es=>dB k=s∧gu s es∧eC v=true∧K ⟨put d .aw st.vars,aR t (.map (jv k v es)) st.aa⟩|.EM s z ok,[.own t,.pv k]=>aq xs∧ai (xX (st.aa t)) fun es=>dB k=s∧gu s es∧K ⟨put d (if ok=true then .aO [(getM k es).getD (Gr z),.pv (.bool (getM k es).isSome)] else(getM k es).getD (Gr z)) st.vars,st.aa⟩|.Bs,ys=>se d xs ys K st|.vW ne,[X]=>aq xs∧ai (fx st.aa X) fun rows=>∀b:Bool,(rows≠[]→b=false)→K ⟨put d (.pv (.bool (if ne=true then !b else b))) st.vars,st.aa⟩|.HS,[.pv .nil]=>aq xs∧K ⟨put d (.pv (.int .i64 0)) st.vars,st.aa⟩|.Er e sz bytes zs,ys=>mI d e bytes zs xs ys K st|.FO e,ys=>yZ d e xs ys K st|.TT e bytes zs,ys=>Bk d e bytes zs xs ys K st|.EM s z ok,[.pv (.mp ks),.pv k]=>aq xs∧wB z=true∧dB k=s∧(∀x∈ks,dB x=s)∧K ⟨put d (if ok=true then .aO [.agg [],.pv (.bool (ks.any (mU k)))] else .agg []) st.vars,st.aa⟩|.mark,[.own t]=>aq xs∧ai (cX (st.aa t)) fun r=>r.2≠[]∧K ⟨put d (.pv (.ro r.2)) (I6 t r.1 r.2 st.vars),gb t st.aa⟩|x,ys=>qO d x xs ys K st
def zJ (d:Option Nat) (s t:Nat) (k v:AV) (xs:List AV) (K:St→Prop) (st:St):Prop:=match k with|.pv k=>aq xs∧ai (xX (st.aa t)) fun es=>dB k=s∧gu s es∧eC v=true∧K ⟨put d .aw st.vars,aR t (.map (jv k v es)) st.aa⟩|_=>False
def Ac (d:Option Nat) (s t:Nat) (z:Value) (ok:Bool) (k:AV) (xs:List AV) (K:St→Prop) (st:St):Prop:=match k with|.pv k=>aq xs∧ai (xX (st.aa t)) fun es=>dB k=s∧gu s es∧K ⟨put d (if ok=true then .aO [(getM k es).getD (Gr z),.pv (.bool (getM k es).isSome)] else(getM k es).getD (Gr z)) st.vars,st.aa⟩|_=>False
def CK (d:Option Nat) (x:AV) (xs:List AV) (K:St→Prop) (st:St):Prop:=match x with|.own t=>aq xs∧ai (cX (st.aa t)) fun r=>r.2≠[]∧K ⟨put d (.pv (.ro r.2)) (I6 t r.1 r.2 st.vars),gb t st.aa⟩|_=>False
def tH (d:Option Nat) (s:Nat) (ks:List PV) (z:Value) (ok:Bool) (k:AV) (xs:List AV) (K:St→Prop) (st:St):Prop:=match k with|.pv k=>aq xs∧wB z=true∧dB k=s∧(∀x∈ks,dB x=s)∧K ⟨put d (if ok=true then .aO [.agg [],.pv (.bool (ks.any (mU k)))] else .agg []) st.vars,st.aa⟩|_=>False
def mP (d:Option Nat) (x:AV) (xs:List AV) (K:St→Prop) (st:St):Prop:=match x with|.pv .nil=>aq xs∧K ⟨put d (.pv (.int .i64 0)) st.vars,st.aa⟩|_=>False
def IA (d:Option Nat) (ne:Bool) (rows:List (List PV)) (K:St→Prop) (st:St):Prop:=∀b:Bool,(rows≠[]→b=false)→K ⟨put d (.pv (.bool (if ne=true then !b else b))) st.vars,st.aa⟩
def CM (i:AI) (x:XK) (s:Nat) (w:Bool) (K:St→Prop) (st:St):Prop:=ai (bN (st.vars s) w) fun c=>if c=true then ba i.d x (i.xs.map (ev st.vars)) K st else K ((bI.put (.cp false .aw)).on i.d st)
def shA (t:Nat) (rows:List (List PV)):AV→AV|.own s=>if s=t then .pv (.ro rows) else .own s|v=>kill t v
def BV (t:Nat) (rows:List (List PV)) (f:Nat→AV):Nat→AV:=fun s=>shA t rows (f s)
def IW (aa:Nat→Option AO) (e:TypeId):List AV→Option (Nat×List (List PV)×List (List PV))|[.own t,x]=>(cX (aa t)).bind fun r=>(cT aa x).bind fun more=>if r.1=e then some (t,r.2,more) else none|_=>none
def yL (d:Option Nat) (e:TypeId) (sz bytes:Nat) (xs:List AV) (K:St→Prop) (st:St):Prop:=aq xs∧ai (IW st.aa e (xs.map strip)) fun r=>((r.2.1.length+r.2.2.length)*bytes≤140737488355328∧r.2.1.length+r.2.2.length≤maxLen∧(∀q∈r.2.2,q.length=sz))∧r.1%1000≠999∧K ⟨put d (.pv (.ro (r.2.1++r.2.2))) (BV r.1 r.2.1 st.vars),gb r.1 st.aa⟩
def Z3 (i:AI):Option (TypeId×Nat×Nat):=match i.k,i.tg,i.g with|.app e sz b,some 999998,none=>some (e,sz,b)|_,_,_=>none
def J7 (x:XK) (i:AI) (st:St):St:=match x with|.TU _=>cK st ((i.xs.map (ev st.vars)).map strip)|_=>st
def jS (P:Program) (Γ:bX) (i:AI) (K:St→Prop) (st:St):Prop:=match i.k,i.g with|.ex x,none=>ba i.d x (i.xs.map (ev (J7 x i st).vars)) K (J7 x i st)|.ex x,some (s,w)=>CM i x s w K st|.sJ _ _,_=>cq P Γ i K (cK st ((i.xs.map (ev st.vars)).map strip))|.F4 e sz zs,none=>pM i.d e sz zs (i.xs.map (ev st.vars)) K st|.call f,some (s,w)=>DD P Γ i f s w K st|.lN,g=>fX P Γ i.d (i.xs.map (ev st.vars)) g K st|.call f,none=>gY P Γ i f (dV Γ f) K st|.gX _,_=>c9 P Γ i K (uW (i.d.getD 0) st)|_,_=>cq P Γ i K st
def cg (P:Program) (Γ:bX) (i:AI) (K:St→Prop) (st:St):Prop:=match Z3 i with|some r=>if pQ ((i.xs.map (ev st.vars)).map strip)=true then yL i.d r.1 r.2.1 r.2.2 (i.xs.map (ev st.vars)) K st else jS P Γ i K st|none=>jS P Γ i K st
def cn (P:Program) (Γ:bX) (is:List AI) (K:St→Prop) (st:St):Prop:=match is with|[]=>K st|i::is=>cg P Γ i (fun st'=>cn P Γ is K st') st
def jA (cw:List Nat) (f:Nat→AV):Nat→AV:=fun s=>if cw.contains s then f s else .aw
structure Fr where
 vs:List (Nat×AV)
 os:List (Nat×AO)
def Fr.st (f:Fr):St:=⟨look f.vs,ab f.os⟩
def jF (os:List (Nat×AO)):AV→Prop|.own t|.ptr t _|.bd t _ _ _|.sub t _ _ _=>aG (ab os) t|.pv _|.rp _|.aw=>True|_=>False
def gh (os:List (Nat×AO)):List AV→Prop|[]=>True|c::cs=>jF os c∧gh os cs
def lE (os:List (Nat×AO)):AV→Prop|.agg cs|.bE _ cs|.aO cs=>gh os cs|.cp _ v=>jF os v|v=>jF os v
def xL (os:List (Nat×AO)):AO→Prop|.box cs=>gh os cs|.arr _ _=>True|.map _=>True|.iB _=>True|.nS _ _=>True|.rws _ cs=>gh os cs
def Rr (ad:List Nat) (st:St) (os:List (Nat×AO)):List (Nat×AV)→Prop|[]=>True|(s,v)::l=>(v=.aw∨(st.vars s=v∧lE os v)∨(∃t,v=.own t∧ad.contains t=true∧aG (ab os) t∧st.vars s=.pv .nil))∧Rr ad st os l
def PH (P:Program) (ad:List Nat) (st:St) (os:List (Nat×AO)):List (Nat×AO)→Prop|[]=>True|(t,o)::l=>((st.aa t=some o∧ad.contains t=false∧xL os o)∨(∃e,o=.arr e []∧ad.contains t=true∧st.aa t=none∧(P.info? e).isSome=true∧t%1000≠999))∧PH P ad st os l
def wk (P:Program) (ad:List Nat) (st:St) (f:Fr):Prop:=Rr ad st f.os f.vs∧PH P ad st f.os f.os
def cR (st:St):List (Nat×Option (Option Nat))→(List AV→Prop)→Prop|[],C=>C []|(t,none)::l,C=>cR st l fun vs=>C (st.vars t::vs)|(a,some n)::l,C=>ai (al (.load n) [st.vars a] st.aa) fun x=>x.1∧cR st l fun vs=>C (x.2::vs)
def bV:List AV→AV|[v]=>v|vs=>.aO vs
def vz (P:Program) (aa:Nat→Option AO) (v r:AV):Prop:=match r with|.fr e rows=>(∃t,v=.own t∧aa t=some (.arr e rows))∨(v=.pv .nil∧rows=[]∧(P.info? e).isSome=true)∨(∃t hi rs,v=.sub t e 0 hi∧aa t=some (.arr e rs)∧rows=rs.take hi)|r=>v=r∧iL r=true
def yq (P:Program) (aa:Nat→Option AO):List AV→List AV→Prop|[],[]=>True|c::cs,r::rs=>vz P aa c r∧yq P aa cs rs|_,_=>False
def DK (P:Program) (aa:Nat→Option AO) (v r:AV):Prop:=match v,r with|.agg cs,.agg rs=>yq P aa cs rs|.agg _,_=>False|v,r=>vz P aa v r
def AJ (P:Program) (aa:Nat→Option AO):List AV→List AV→Prop|[],[]=>True|c::cs,r::rs=>DK P aa c r∧AJ P aa cs rs|_,_=>False
def fz (P:Program) (aa:Nat→Option AO) (v r:AV):Prop:=match v,r with|.aO vs,.aO rs=>vs.length≤1000∧AJ P aa vs rs|.aO _,_=>False|v,r=>DK P aa v r
def qc (j:Nat):List AV→List (Nat×Nat)|[]=>[]|.own t::cs=>(1000*j,t)::qc (j+1) cs|.sub t _ _ _::cs=>(1000*j,t)::qc (j+1) cs|_::cs=>qc (j+1) cs
def PZ:AV→List (Nat×Nat)|.agg cs=>qc 0 cs|.own t=>[(0,t)]|.sub t _ _ _=>[(0,t)]|_=>[]
def Cp (i:Nat):List AV→List (Nat×Nat)|[]=>[]|v::vs=>(PZ v).map (fun x=>(x.1+i,x.2))++Cp (i+1) vs
def pl:AV→List (Nat×Nat)|.aO vs=>Cp 0 vs|v=>PZ v
def kN:List (Nat×Nat)→Prop|[]=>True|x::l=>(∀y∈l,y.2≠x.2)∧kN l
def rB:AV→AV→List Nat|.own t,.pv (.ro _)=>[t]|.pv .nil,.pv (.ro _)=>[999996]|.own t,.pv (.mv _)=>[t+1000000000000000]|_,_=>[]
def u7:List AV→List AV→List Nat|c::cs,r::rs=>rB c r++u7 cs rs|_,_=>[]
def Co:AV→AV→List Nat|.agg cs,.agg rs=>u7 cs rs|v,r=>rB v r
def xM:List AV→List AV→List Nat|c::cs,r::rs=>Co c r++xM cs rs|_,_=>[]
def nk:AV→AV→List Nat|.aO vs,.aO rs=>xM vs rs|v,r=>Co v r
def xJ (P:Program) (rs:List (Nat×Option (Option Nat))) (r:AV) (st:St):Prop:=cR st rs fun vs=>fz P st.aa (bV vs) r∧kN (pl (bV vs))
def Ends (P:Program) (rs:List (Nat×Option (Option Nat))) (r:AV) (st:St):Prop:=cR st rs fun vs=>xJ P rs r (cF (nk (bV vs) r) st)
def mm (aa:Nat→Option AO) (l:List (Nat×Nat)):List (Nat×AO)→Prop|[]=>True|x::hout=>aa x.1=some x.2∧(∀y∈l,y.2≠x.1)∧mm aa l hout
def oI (P:Program) (rs:List (Nat×Option (Option Nat))) (r:AV) (hout:List (Nat×AO)) (st:St):Prop:=cR st rs fun vs=>fz P st.aa (bV vs) r∧kN (pl (bV vs))∧mm st.aa (pl (bV vs)) hout
def nv (P:Program) (rs:List (Nat×Option (Option Nat))) (r:AV) (hout:List (Nat×AO)) (st:St):Prop:=cR st rs fun vs=>oI P rs r hout (cF (nk (bV vs) r) st)
def zX (K:St→Prop):Exit→St→Prop|.ret,st=>K st|_,_=>False
def pw (id:Nat) (K:St→Prop) (J:Exit→St→Prop):Exit→St→Prop|.exit id',st=>if id'=id then K st else J (.exit id') st|e,st=>J e st
def iC (P:Program) (Γ:bX):AC→(St→Prop)→(Exit→St→Prop)→St→Prop|.skip,K,_,st=>K st|.I9 is d cw,K,_,st=>if d then steps P Γ is (fun st'=>K ⟨jA cw st'.vars,st'.aa⟩) st else cn P Γ is (fun st'=>K ⟨jA cw st'.vars,st'.aa⟩) st|.seq a b,K,J,st=>iC P Γ a (fun st'=>iC P Γ b K J st') J st|.cond x a b,K,J,st=>ai (jd (ev st.vars x)) fun c=>(c=true→iC P Γ a K J st)∧(c=false→iC P Γ b K J st)|.block id a,K,J,st=>iC P Γ a K (pw id K J) st|.loop a,_,J,st=>∃(ι:Type) (F:ι→Fr) (μ:ι→Nat) (ad shs:List Nat) (i0:ι),wk P ad (cF shs st) (F i0)∧∀i,iC P Γ a (fun st'=>∃i',wk P [] (cF shs st') (F i')∧μ i'<μ i) J (F i).st|.exit id,_,J,st=>J (.exit id) st|.ret,_,J,st=>J .ret st
def nj (P:Program) (t:TypeId):Option (Option Nat):=match P.underlying t with|some (.struct _)|some (.array _ _)=>(P.info? t).map fun i=>some i.size|some _=>some none|none=>none
def cz (P:Program) (t:TypeId):Option Nat:=(P.info? t).map (·.size)
def dQ (P:Program) (t:TypeId):Option (List Value):=(P.info? t).bind fun i=>i.zero.bind fun z=>if z.cells.size=i.size then some z.cells.toList else none
def fp:Operand→Bool|.const (.slice none 0 0)=>true|_=>false
def qF (P:Program) (fs:Array Field):List (Nat×Operand)→Option (List (Nat×Nat))|[]=>some []|(i,_)::l=>match fs[i]?,qF P fs l with|some f,some r=>(cz P f.type).map fun n=>(f.offset,n)::r|_,_=>none
def nf (P:Program) (f:TypeId→Option (List Nat)):Nat→List Field→Option (List Nat)|_,[]=>some []|off,fl::fs=>if fl.name≠ "_" ∧fl.offset=off then(f fl.type).bind fun a=>if cz P fl.type=some a.length then(nf P f (off+a.length) fs).map (a++·) else none else none
def jO (P:Program):Nat→TypeId→Option (List Nat)|0,_=>none|n+1,t=>match P.underlying t with|some .bool=>some [0]|some .string=>some [1]|some (.int k)=>some [2+ni k]|some (.struct fs)=>if t<P.types.size∧EO P t=false then nf P (jO P n) 0 fs.toList else none|_=>none
def dv (P:Program) (b:Builtin) (xs:List Operand) (ts:List TypeId):Option (AK×List Operand):=match b,xs,ts with
 |.len,[x],[t]=>match P.underlying t with|some .string=>some (.vD,[x])|some (.slice _)=>some (.len,[x])|_=>none
 |.append,[s,x],[t,t']=>match P.underlying t,P.underlying t' with
  |some (.slice e),some .string=>match P.info? e with|some i=>if i.size=1∧(dQ P e).isSome=true then some (.app e i.size i.bytes,[s,x]) else none|none=>none
  |some (.slice e),some (.slice _)=>match P.info? e with|some i=>if 0<i.size∧(dQ P e).isSome=true then some (.app e i.size i.bytes,[s,x]) else none|none=>none
  |_,_=>none
 |.min,[x,y],[_,_]=>some (.FX false,[x,y])|.max,[x,y],[_,_]=>some (.FX true,[x,y])|.clear,[x],[t]=>match P.underlying t with
  |some (.slice e)=>match cz P e,dQ P e with|some sz,some zs=>if 0<sz∧zs.all (·.oneCell')=true then some (.F4 e sz zs,[x]) else none|_,_=>none
  |_=>none
 |_,_,_=>none
def gN (P:Program) (c:Call):Option (AK×List Operand):=match c.callee with|.builtin b=>dv P b c.args.toList c.argTypes.toList|.value (.func f)=>if fF P f then some (.call f,c.args.toList) else none|.value x=>some (.lN,x::c.args.toList)|.invoke _ _=>none
def ko (P:Program) (t:TypeId):Option Nat:=match P.underlying t with|some .bool=>some 0|some .string=>some 1|some (.int k)=>some (2+ni k)|_=>none
def zeroV (P:Program) (t:TypeId):Option Value:=(P.info? t).bind (·.zero)
def jy (P:Program) (t:TypeId):Option (TypeId×TypeId):=match P.underlying t with|some (.map k e)=>some (k,e)|_=>none
def yf (P:Program) (f:FuncId):Bool:=match P.funcs[f]? with|some fn=>fn.name== "math/bits.Add64" &&fn.body.isNone&&(Extern.findNext fn).isNone|none=>false
def yj (P:Program) (b:Builtin) (xs:List Operand) (ts:List TypeId):Option (XK×List Operand):=match b,xs,ts with
 |.cap,[x],[t]=>match P.underlying t with|some (.slice _)=>some (.HS,[x])|_=>none
 |.append,[s,x],[t,t']=>match P.underlying t,P.underlying t' with
  |some (.slice e),some (.int _)=>match P.info? e,dQ P e with|some i,some zs=>if 0<i.size∧zs.all (·.oneCell')=true then some (.Er e i.size i.bytes zs,[s,x]) else none|_,_=>none
  |_,_=>none
 |_,_,_=>none
def rwsT (P:Program) (e:TypeId):Bool:=match(P.info? e).map (fun i:TypeInfo=>i.desc),P.underlying e with|some (TypeDesc.named _ _),some (TypeDesc.slice _)=>true|_,_=>false
def aaj (P:Program) (e:TypeId):Bool:=match P.underlying e with|some (.int .u64)=>true|_=>false
def Ea (P:Program) (o:Oper):Bool:=match o.op,o.dst with
 |.move (.tmp 8),some 193|.assign (.tmp 8),some 193=>match P.underlying o.type with
  |some (.slice e)=>match P.underlying e with|some (.slice _)=>true|_=>false
  |_=>false
 |.store t (.tmp 160) (.tmp 159),none=>match P.underlying t with|some (.slice _)=>true|_=>false
 |_,_=>false
def vn (P:Program) (o:Oper):Option (XK×List Operand):=match o.op with
 |.makeMap t none=>match jy P t with|some _=>some (.Ym,[])|none=>none
 |.mapUpdate t m k x|.insert t m k x=>match jy P t with
  |some (kt,_)=>match ko P kt with|some s=>some (.IM s,[m,k,x])|none=>none
  |none=>none
 |.lookup t m k ok=>match jy P t with
  |some (kt,et)=>match ko P kt,zeroV P et with|some s,some z=>some (.EM s z ok,[m,k])|_,_=>none
  |none=>none
 |.buildSlice t n ps=>match P.underlying t with
  |some (.slice e)=>match cz P e,dQ P e with|some sz,some zs=>if aaj P e=true∧ps.toList.map (·.1)=List.range n∧n*sz≤2^24∧zs.length=sz∧0<sz then some (.nn e sz,ps.toList.map (·.2)) else if sz=1∧ps.toList.map (·.1)=List.range n∧n*sz≤2^24∧zs.length=sz then some (.FO e,ps.toList.map (·.2)) else none|_,_=>none
  |_=>none
 |.convert src dst x=>if src=dst then match P.underlying src with
  |some (.slice e)=>match P.underlying e with|some (.int .u8)=>some (.mark,[x])|_=>none
  |_=>none else none|.makeSlice t l c=>match P.underlying t with
  |some (.slice e)=>match P.info? e,dQ P e with|some i,some zs=>if 0<i.size∧zs.all (·.oneCell')=true then some (.TT e i.bytes zs,[l,c]) else none|_,_=>none
  |_=>none
 |.binOp op t x y _=>match P.underlying t with|some (.slice _)=>if fp y then match op with|.eql=>some (.vW false,[x])|.neq=>some (.vW true,[x])|_=>none else none|_=>none
 |.call c=>match c.callee with|.value (.func f)=>if yf P f=true then some (.Bs,c.args.toList) else none|.builtin b=>yj P b c.args.toList c.argTypes.toList|_=>none
 |.move x=>if Ea P o=true then some (.Fk,[x]) else none|.assign x=>if Ea P o=true then some (.Fk,[x]) else none|.store t x y=>if Ea P o=true∧cz P t=some 1 then some (.rst,[x,y]) else none|_=>none
def Jm (P:Program) (t:TypeId):Bool:=match P.underlying t with|some .bool|some .string|some (.int _)|some (.func _ _ _)|some (.slice _)=>true|_=>false
def Bo (P:Program) (o:Oper):Option (XK×List Operand):=match o.op with
 |.makeMap t none=>match jy P t with|some (_,et)=>if Jm P et=true then some (.mkv,[]) else none|none=>none
 |.mapUpdate t m k x|.insert t m k x=>match jy P t with
  |some (kt,et)=>match ko P kt with|some s=>if Jm P et=true then some (.TU s,[m,k,x]) else none|none=>none
  |none=>none
 |.lookup t m k ok=>match jy P t with
  |some (kt,et)=>match ko P kt,zeroV P et with|some s,some z=>if Jm P et=true then some (.FT s z ok,[m,k]) else none|_,_=>none
  |none=>none
 |.binOp op t x y _=>match P.underlying t with
  |some (.pointer _)=>match y with
   |.const (.pointer none)=>match op with|.eql=>some (.Eu false,[x])|.neq=>some (.Eu true,[x])|_=>none
   |_=>none
  |_=>none
 |.call c=>match c.callee,c.args.toList,c.argTypes.toList with
  |.builtin .delete,[m,k],[t,kt']=>match jy P t with
   |some (kt,et)=>match ko P kt with|some s=>if Jm P et=true∧kt'=kt then some (.dlv s,[m,k]) else none|none=>none
   |none=>none
  |_,_,_=>none
 |.range t x=>match jy P t with|some _=>some (.Zj,[x])|none=>none
 |.next x false=>some (.nxt,[x])|.entry x=>some (.ent,[x])|_=>none
def jN (P:Program) (o:Oper):XK×List Operand:=match Bo P o with|some r=>r|none=>(vn P o).getD (.dead,[])
def gD (P:Program) (o:Oper):Option (AK×List Operand):=match o.op with
 |.move x|.assign x=>if fp x then match P.underlying o.type with|some (.slice e)=>if(P.info? e).isSome then some (.gX e,[]) else none|_=>none else some (.oO,[x])|.pick c a b=>some (.pick,[c,a,b])|.alloc e=>(dQ P e).map fun zs=>(.alloc zs,[])|.box _ x=>some (.box,[x])|.build t ps=>match dQ P t,P.underlying t with|some zs,some (.struct fs)=>if fs.toList.all (fun f=>(P.info? f.type).isSome)=false then none else(qF P fs ps.toList).map fun l=>(.I5 zs l,ps.toList.map (·.2))|_,_=>none
 |.buildSlice t n ps=>match P.underlying t with
  |some (.slice e)=>match cz P e,dQ P e with|some sz,some zs=>if(rwsT P e||aaj P e)=false∧ps.toList.map (·.1)=List.range n∧n*sz≤2^24∧zs.length=sz∧0<sz then some (.sJ e sz,ps.toList.map (·.2)) else none|_,_=>none
  |_=>none
 |.load t a=>(nj P t).map fun n=>(.load n,[a])|.store t a v=>match nj P t with|some none=>if cz P t=some 1 then some (.store none,[a,v]) else none|some (some n)=>some (.store (some n),[a,v])|none=>none
 |.binOp op t x y _=>match P.underlying t with
  |some .bool=>match op with|.eql=>some (.beq false,[x,y])|.neq=>some (.beq true,[x,y])|_=>none
  |some (.int _)|some .string=>some (.bin op,[x,y])|some (.struct _)=>match jO P 8 t with
   |some ks=>if ks.all (·<99)=true then match op with|.eql=>some (.eqs false ks,[x,y])|.neq=>some (.eqs true ks,[x,y])|_=>none else none|none=>none
  |_=>none
 |.unOp .not _ x=>some (.not,[x])|.unOp .neg _ x=>some (.neg,[x])|.convert src dst x=>match P.underlying src,P.underlying dst with
  |some (.int _),some (.int k)=>some (.Cb k,[x])|some .string,some .string=>some (.Dq,[x])|some (.slice e),some .string=>match P.underlying e with|some (.int .u8)=>some (.sE,[x])|_=>none
  |some .string,some (.slice e)=>match P.underlying e with|some (.int .u8)=>some (.qZ e,[x])|_=>none
  |_,_=>none
 |.fieldAddr s x i=>match P.underlying s with
  |some (.struct fs)=>match fs[i]? with
   |some f=>match cz P f.type with|some (_+1)=>some (.sS f.offset,[x])|_=>none
   |none=>none
  |_=>none
 |.field s x i=>match P.underlying s with
  |some (.struct fs)=>match fs[i]? with|some f=>(nj P f.type).map fun n=>(.Iu f.offset n,[x])|none=>none
  |_=>none
 |.indexAddr t x i=>match P.underlying t with|some (.slice e)=>(cz P e).map fun sz=>(.DP e sz,[x,i])|some (.array n e)=>(cz P e).map fun sz=>(.FY n sz,[x,i])|_=>none
 |.index t x i=>match P.underlying t with|some .string=>some (.vH,[x,i])|_=>none
 |.slice t x lo hi none=>match P.underlying t with|some .string=>some (.KK lo.isSome hi.isSome,[x]++lo.toList++hi.toList)|some (.slice e)=>(cz P e).map fun sz=>(.B5 sz lo.isSome hi.isSome,[x]++lo.toList++hi.toList)|_=>none
 |.extract x i=>some (.ext i,[x])|.nilCheck x=>some (.FH,[x])|.makeFunc (.func f) first caps=>match first.toList with|[]=>some (.Jc f,caps.toList)|_=>none
 |.call c=>gN P c|_=>none
def gW (P:Program) (o:Oper):Option (AK×List Operand):=match if Ea P o=true then none else gD P o with|some r=>some r|none=>some (.ex (jN P o).1,(jN P o).2)
theorem ed {o:Oper}{k:AK}{xs:List Operand} (h:gW P o=some (k,xs)):gD P o=some (k,xs)∨∃x,k=.ex x∧jN P o=(x,xs):=by
 unfold gW at h;split at h
 ·rename_i r hr;split at hr;·cases hr
  ·rw[hr];exact .inl h
 ·cases h;exact .inr ⟨_,rfl,rfl⟩
def makes:AK→Bool|.gX _|.box|.alloc _|.sJ _ _|.app _ _ _|.call _|.lN|.sE|.qZ _|.ex .Ym|.ex .mkv|.ex .Zj|.ex (.Er _ _ _ _)|.ex (.FO _)|.ex (.TT _ _ _)=>true|_=>false
def writes:AK→Bool|.store _|.app _ _ _=>true|_=>false
def aQ:AK→Bool|.oO|.bin _|.beq _|.not|.neg|.Cb _|.Dq=>true|_=>false
def tmpsOf:List Operand→List Nat|[]=>[]|.tmp t::l=>t::tmpsOf l|_::l=>tmpsOf l
def cU (i:AI):List Nat:=tmpsOf i.xs++(match i.g with|some (s,_)=>[s]|none=>[])
def yo:Option Nat→Bool|some _=>true|none=>false
def ck (i:AI):List Nat:=if makes i.k then i.d.toList else if writes i.k then i.tg.toList else[]
def isApp:AK→Bool|.app _ _ _=>true|_=>false
def Zv:AK→Bool|.alloc _=>true|_=>false
def yy:AK→Bool|.load _|.sS _=>true|_=>false
def Cn (x y:AI):Bool:=isApp x.k&&x.g.isNone&&y.g.isNone&&y.tg.isNone&&(match x.d,y.d with|some d,some d'=>!(cU y).contains d&&!(cU x).contains d'&&d !=d'&&decide (d<1000)&&decide (d'<1000)&&((Zv y.k&&y.xs.isEmpty)||(yy y.k&&y.un.contains d&&y.un.all fun t=>x.un.contains (t+1000)))|_,_=>false)
def Cc (x y:AI):Bool:=(match x.d with|some d=>!(cU y).contains d&&y.d !=some d&&y.tg !=some d&&decide (d<1000)|none=>true)&&(match y.d with|some d=>!(cU x).contains d&&x.tg !=some d&&decide (d<1000)|none=>true)&&((aQ y.k&&y.un.isEmpty)||(!isApp x.k&&(!writes x.k||yo x.tg)&&(ck x).all fun t=>decide (t<1000)&&y.un.contains t))&&((aQ x.k&&x.un.isEmpty)||(!isApp y.k&&(!writes y.k||yo y.tg)&&(ck y).all fun t=>decide (t<1000)&&x.un.contains t))&&(aQ x.k||aQ y.k||!writes x.k||!writes y.k||x.tg !=y.tg)
def uZ (x y:AI):Bool:=Cc x y||Cn x y
def Ha (P:Program) (N:Nat) (ops:Array Oper) (o:Oper):Option AI:=match gW P o with|none=>none|some (k,xs)=>let okd:=match o.dst with|some d=>decide (d<N∧d<1000)|none=>!makes k&&(k matches .store _||k matches .F4 _ _ _||k matches .ex _)
 if !okd then none else match o.guard with|none=>some ⟨o.dst,k,xs,none,[],none⟩|some (j,want)=>match(ops[j]?).bind (·.dst) with|some s=>some ⟨o.dst,k,xs,some (s,want),[],none⟩|none=>none
def uR (P:Program) (N:Nat) (ops:Array Oper):List Oper→Option (List AI)|[]=>some []|o::l=>match Ha P N ops o,uR P N ops l with|some i,some is=>some (i::is)|_,_=>none
def aft (e:Nat) (l:List Nat) (n:Nat):Nat:=if e<n then l.getD (n-1-e) 0 else 0
def Hj (n:Nat) (acc:List Nat) (o:Oper):Nat:=o.after.toList.foldl (fun s e=>if Region.binds .any e then s|||2^e.on|||aft e.on acc n else s) 0
def AB:List Oper→Nat→List Nat→List Nat|[],_,acc=>acc|o::l,n,acc=>match Hj n acc o with|0=>AB l (n+1) (0::acc)|m+1=>AB l (n+1) ((m+1)::acc)
def OG (ops:Array Oper):List Nat:=(AB ops.toList 0 []).reverse
theorem Q9 (e:Nat) (acc:Array Nat):aft e acc.toList.reverse acc.size=acc.getD e 0:=by
 unfold aft;split;·rename_i h;rw[q78,List.getElem?_reverse (by simp;omega)];simp[h,show acc.size-1-(acc.size-1-e)=e by omega]
 ·simp_all
theorem Dv:∀(l:List Oper) (acc:Array Nat),(AB l acc.size acc.toList.reverse).reverse=(l.foldl (fun acc o=>acc.push (o.after.foldl (fun s e=>if Region.binds .any e then s|||2^e.on|||acc.getD e.on 0 else s) 0)) acc).toList
 |[],acc=>by simp[AB]|o::l,acc=>by
  have hv:Hj acc.size acc.toList.reverse o=o.after.foldl (fun s e=>if Region.binds .any e then s|||2^e.on|||acc.getD e.on 0 else s) 0:=by simp only[Hj,Q9,Array.foldl_toList]
  have ih:=Dv l (acc.push (Hj acc.size acc.toList.reverse o));have e:AB (o::l) acc.size acc.toList.reverse=AB l (acc.size+1) (Hj acc.size acc.toList.reverse o::acc.toList.reverse):=by rw[AB];split<;>rename_i h<;>rw[h]
  rw[e,q285,←hv,←ih];simp
theorem Pb (ops:Array Oper):(Region.before ops).toList=OG ops:=by unfold OG Region.before;rw[←Array.foldl_toList];exact(Dv ops.toList #[]).symm
theorem Kv (ops:Array Oper) (j:Nat):(OG ops).getD j 0=(Region.before ops).getD j 0:=by rw[←Pb];simp[q128]
def bits (ops:Array Oper) (i j:Nat):Bool:=((OG ops).getD j 0).testBit i
theorem IS (ops:Array Oper) (i j:Nat):bits ops i j=((Region.before ops).getD j 0).testBit i:=by unfold bits;rw[Kv]
def lW (ops:Array Oper) (i j:Nat):Bool:=!bits ops i j||match ops[j]? with|some o=>o.after.toList.any fun e=>Region.binds .any e&&(e.on==i||(decide (i<e.on)&&decide (e.on<j)&&bits ops i e.on))|none=>false
def jY (ops:Array Oper) (j:Nat):Bool:=match ops[j]? with|some o=>o.after.toList.all fun e=>!Region.binds .any e||decide (e.on<j)|none=>true
def Ip (ops:Array Oper) (is:Array AI):Bool:=(List.range ops.size).all fun j=>jY ops j&&(List.range j).all fun i=>lW ops i j&&(bits ops i j||match is[i]?,is[j]? with|some x,some y=>uZ x y|_,_=>false)
def unOf (ops:Array Oper) (is:Array AI) (j:Nat):List Nat:=let b:=OG ops
 (List.range is.size).filterMap fun i=>if i=j||(b.getD j 0).testBit i||(b.getD i 0).testBit j then none else match is[i]?,is[j]? with|some x,some y=>if aQ y.k then none else(ck x).head?|_,_=>none
def unA (ops:Array Oper) (is:Array AI) (j:Nat):List Nat:=let b:=OG ops
 match is[j]? with|some y=>if isApp y.k then(List.range is.size).flatMap fun i=>if i=j||(b.getD j 0).testBit i||(b.getD i 0).testBit j then[] else match is[i]? with|some x=>if yy x.k then x.un.map (·+1000) else[]|none=>[] else[]|none=>[]
def iV (ops:Array Oper) (is:Array AI) (j:Nat):List AI→List AI|[]=>[]|i::l=>{i with un:=i.un++unA ops is j}::iV ops is (j+1) l
def sm (ops:Array Oper) (is:Array AI) (j:Nat):List AI→List AI|[]=>[]|i::l=>{i with un:=unOf ops is j}::sm ops is (j+1) l
def tgOf (is:List AI) (i:AI):Option Nat:=match i.k,i.xs with|.store _,.tmp s::_=>if is.any fun x=>x.d==some s&&(match x.k with|.alloc _|.box=>true|_=>false) then some s else none|_,_=>none
def xH (is:List AI):List AI→List AI|[]=>[]|i::l=>{i with tg:=tgOf is i}::xH is l
def tgOf2 (is:List AI) (i:AI):Option Nat:=match i.k,i.xs with|.store _,.tmp s::_=>some (if is.any fun x=>x.d==some s then 999 else s)|_,_=>none
def qd (is:List AI):List AI→List AI|[]=>[]|i::l=>{i with tg:=tgOf2 is i}::qd is l
def okOp (x:AI):Operand→Bool|.const _=>true|.tmp s=>x.d !=some s|_=>false
def MC (y x:AI):Bool:=match y.k,y.xs,y.d,y.g,y.tg,y.un with|.oO,[o],some dd,none,none,[]=>okOp x o&&!(cU x).contains dd&&x.d !=some dd|_,_,_,_,_,_=>false
def ldB (y x:AI):Bool:=match y.k,y.xs,y.d,y.g,y.tg,x.k with|.load _,[.tmp s],some dd,none,none,.call _=>x.d !=some s&&!(cU x).contains dd&&x.d !=some dd&&dd !=s|_,_,_,_,_,_=>false
def CF (y:AI):List Nat:=match y.k,y.xs with|.load _,[.tmp s]=>[s]|_,_=>[]
def G7:AK→Bool|.call _|.lN=>true|_=>false
def kl (ops:Array Oper) (is:Array AI) (j:Nat):List Nat:=(List.range j).flatMap fun q=>if bits ops q j then[] else match is[q]? with|some y=>CF y|none=>[]
def zU (ops:Array Oper) (is:Array AI) (j:Nat) (x:AI):Bool:=G7 x.k&&x.g.isNone&&x.tg.isNone&&x.un.isEmpty&&(List.range is.size).all fun q=>q==j||(if q<j then bits ops q j else bits ops j q)||(match is[q]? with|some y=>(MC y x||(decide (q<j)&&ldB y x))&&(match y.d with|some dd=>!(kl ops is j).contains dd|none=>true)|none=>false)
def Ag (ops:Array Oper) (is:Array AI) (j:Nat):List AI→List AI|[]=>[]|i::l=>(if zU ops is j i then{i with tg:=some 999999,un:=kl ops is j} else i)::Ag ops is (j+1) l
def A3 (b:Nat):List AI→Bool|[]=>false|i::l=>(match i.k,i.xs with|.oO,[.tmp s]=>s==b|_,_=>false)||(if i.d==some b then false else A3 b l)
def N8 (s:Nat):List AI→Option Nat|[]=>none|i::l=>if i.d==some s then(match i.k,i.xs with|.oO,[.tmp b]=>some b|_,_=>none) else N8 s l
def apsB (i:AI) (pre l:List AI):Bool:=match i.k,i.xs,i.g with
 |.app _ _ _,.tmp s::_,none=>match N8 s pre with|some b=>A3 b l|none=>false
 |_,_,_=>false
def vF (pre:List AI):List AI→List AI|[]=>[]|i::l=>(if apsB i pre l then{i with tg:=some 999998} else i)::vF (i::pre) l
def drawn (ops:Array Oper) (js:List AI):Option AC:=let hs:=sm ops js.toArray 0 js
 let ks:=iV ops hs.toArray 0 hs
 if Ip ops ks.toArray&&ks.all (fun i=>i.tg !=some 999999) then some (.I9 (Ag ops ks.toArray 0 ks) true []) else none
def m7 (ops:Array Oper) (js:List AI):List Nat:=let b:=OG ops
 let f:=fun j=>(List.range ops.size).any fun i=>(match js[i]? with|some x=>isApp x.k|none=>false)&&(i==j||(b.getD i 0).testBit j)
 (List.range ops.size).filter f++(List.range ops.size).filter fun j=>!f j
def Lw (ops:Array Oper) (ks:Array AI):List Nat→List Nat→Bool|_,[]=>true|pre,j::l=>(match ops[j]? with|some o=>o.after.toList.all fun e=>!Region.binds .any e||pre.contains e.on|none=>false)&&(!pre.contains j)&&(l.all fun b=>(decide (j<b)&&bits ops j b)||match ks[j]?,ks[b]? with|some x,some y=>uZ x y|_,_=>false)&&Lw ops ks (j::pre) l
def xQ (ops:Array Oper) (js:List AI) (l:List Nat):Option AC:=let hs:=sm ops js.toArray 0 js
 let ks:=iV ops hs.toArray 0 hs
 if l.length=ops.size∧Lw ops ks.toArray [] l=true∧((List.range ops.size).all fun j=>jY ops j&&(List.range j).all fun i=>lW ops i j)=true∧(l.all fun j=>decide (j<ops.size))=true∧((List.range ops.size).all fun j=>l.contains j)=true∧ks.all (fun i=>i.tg !=some 999999)=true then some (.I9 (l.filterMap fun j=>ks[j]?) true []) else none
def comp (P:Program) (N:Nat):Code→Option AC
 |.skip=>some .skip|.region _ ops draw=>match uR P N ops ops.toList with|some is=>if draw then((drawn ops (xH is is)).or (drawn ops (qd is is))).or ((xQ ops (xH is is) (m7 ops is)).or (xQ ops (qd is is) (m7 ops is))) else some (.I9 (vF [] is) false [])|none=>none
 |.seq a b=>match comp P N a,comp P N b with|some x,some y=>some (.seq x y)|_,_=>none
 |.cond c a b=>match comp P N a,comp P N b with|some x,some y=>some (.cond c x y)|_,_=>none
 |.block id a=>(comp P N a).map (.block id)|.loop a=>(comp P N a).map .loop|.exit id=>some (.exit id)|.ret=>some .ret|.scope a=>comp P N a|.label _=>some .skip|_=>none
def Ds (w:List Nat):List AI→List Nat|[]=>[]|i::l=>(cU i).filter (fun s=>!w.contains s)++Ds (i.d.toList++w) l
def wD:AC→List Nat|.I9 is _ _=>Ds [] is|.seq a b=>wD a++wD b|.cond x a b=>tmpsOf [x]++wD a++wD b|.block _ a|.loop a=>wD a|_=>[]
def gy (cw:List Nat):AC→AC|.I9 is d _=>.I9 is d cw|.seq a b=>.seq (gy cw a) (gy cw b)|.cond x a b=>.cond x (gy cw a) (gy cw b)|.block id a=>.block id (gy cw a)|.loop a=>.loop (gy cw a)|c=>c
def ir (P:Program):List ResultVar→Option (List (Nat×Option (Option Nat)))|[]=>some []|.tmp t::l=>(ir P l).map ((t,none)::·)|.cell a t::l=>(nj P t).bind fun n=>(ir P l).map ((a,some n)::·)
structure AFn where
 n:Nat
 params:Nat
 res:List (Nat×Option (Option Nat))
 body:AC
def ym (P:Program) (f:FuncId) (cw:List Nat):Option AFn:=match P.funcs[f]? with
 |some fn=>match fn.body,ir P fn.results.toList with|some c,some rs=>(comp P fn.ntmps c).bind fun b=>if fn.ntmps≤998 then some ⟨fn.ntmps,fn.params.size+fn.nfree,rs,gy cw b⟩ else none|_,_=>none
 |none=>none
def YS (n:Nat):List Nat→List Nat|[]=>[n]|m::l=>if n<m then n::m::l else if n=m then m::l else m::YS n l
def X5 (P:Program) (f:FuncId):List Nat:=match P.funcs[f]? with
 |some fn=>match fn.body,ir P fn.results.toList with
  |some c,some rs=>match comp P fn.ntmps c with|some b=>(wD b++rs.map (·.1)).foldr YS []|none=>[]
  |_,_=>[]
 |none=>[]
abbrev aFn (P:Program) (f:FuncId):Option AFn:=ym P f (X5 P f)
end Go.Proofs.YtlicclncicbajaaGreat.Ab
