/- An abstract machine for the code of one function: slices, strings and structs as plain data; what each operation makes of them. Definitions alone. -/
import Derived.WalkKit
import Derived.WalkSpells
import Derived.WalkLawsBesides
import Derived.MapKept
import Derived.Maps.RangeRun
set_option linter.unusedVariables false
set_option linter.unusedSimpArgs false
set_option linter.unnecessarySimpa false
set_option maxHeartbeats 40000000
set_option maxRecDepth 100000
namespace Go.Proofs.Ytlmkcmfmfahcfaa.Ab
open Go Go.RowKit
inductive PV where
 |int (k:IntKind) (n:Int)
 |bool (b:Bool)
 |str (l:List UInt8)
 |nil
 |ro (rows:List (List PV))
 |mp (ks:List PV)
 |mv (es:List (PV × PV))
 |pt (cs:List PV)
 |val (v:Value)
inductive AV where
 |pv (p:PV)
 |own (t:Nat)
 |ptr (t off:Nat)
 |eptr (t:Nat) (e:TypeId) (i:Int) (off:Nat)
 |sub (t:Nat) (e:TypeId) (lo hi:Nat)
 |rp (cs:List PV)
 |agg (cs:List AV)
 |tup (vs:List AV)
 |clo (f:FuncId) (caps:List AV)
 |fr (e:TypeId) (rows:List (List PV))
 |bx (cs:List AV)
 |mf (es:List (PV × PV))
 |cnd (g:Bool) (v:AV)
 |junk
inductive AO where
 |box (cs:List AV)
 |arr (e:TypeId) (rows:List (List PV))
 |map (es:List (PV × AV))
 |rws (e:TypeId) (cs:List AV)
 |mpv (es:List (PV × PV))
 |itr (rem:List (PV × PV)) (cur:Option (PV × PV))
structure St where
 vars:Nat→AV
 objs:Nat→Option AO
def cvp:Value→PV
 |.int k n=>.int k n
 |.bool b=>.bool b
 |.string s=>.str s.data.toList
 |.slice none 0 0=>.nil
 |v=>.val v
def cv (v:Value):AV:=if v.oneCell'=true then .pv (cvp v) else .junk
def ev (vars:Nat→AV):Operand→AV
 |.tmp t=>vars t
 |.const v=>cv v
 |.func f=>.clo f []
 |.global _=>.junk
def put (d:Option Nat) (v:AV) (f:Nat→AV):Nat→AV:=
 match d with
 |some d=>fun s=>if s=d then v else f s
 |none=>f
def addO (t:Nat) (o:AO) (f:Nat→Option AO):Nat→Option AO:=fun s=>if s=t then some o else f s
def look (l:List (Nat × AV)) (s:Nat):AV:=
 match l with
 | []=>.junk
 | (t,v)::l=>if s=t then v else look l s
def lookO (l:List (Nat × AO)) (s:Nat):Option AO:=
 match l with
 | []=>none
 | (t,v)::l=>if s=t then some v else lookO l s
def asks:AV→Prop
 |.cnd g v=>g=true∧asks v
 | _=>True
def strip:AV→AV
 |.cnd _ v=>strip v
 |v=>v
def asksL:List AV→Prop
 | []=>True
 |v::l=>asks v∧asksL l
inductive XK where
 |mkm
 |mput (s:Nat)
 |mget (s:Nat) (z:Value) (ok:Bool)
 |dead
 |isnil (ne:Bool)
 |add64
 |capn
 |appz (e:TypeId) (sz bytes:Nat) (zs:List Value)
 |bslk (e:TypeId)
 |mks (e:TypeId) (bytes:Nat) (zs:List Value)
 |mark
 |rst
 |pubk
 |mkv
 |puv (s:Nat)
 |gev (s:Nat) (z:Value) (ok:Bool)
 |dlv (s:Nat)
 |pnil (ne:Bool)
 |rng
 |nxt
 |ent
inductive AK where
 |mov | pick
 |bin (op:BinOp) | beq (ne:Bool) | not | neg
 |cvi (k:IntKind) | scv
 |len | slen
 |sidx | ssl (lo hi:Bool)
 |fld (off:Nat) (n:Option Nat)
 |fad (off:Nat)
 |load (n:Option Nat)
 |ixa (e:TypeId) (sz:Nat)
 |ixp (n sz:Nat)
 |nck
 |slc (sz:Nat) (lo hi:Bool)
 |ext (i:Nat)
 |bld (zs:List Value) (parts:List (Nat × Nat))
 |mkf (f:FuncId)
 |nilS (e:TypeId)
 |box
 |alloc (zs:List Value)
 |bsl (e:TypeId) (sz:Nat)
 |call (f:FuncId)
 |calv
 |mnx (mx:Bool)
 |eqs (ne:Bool) (ks:List Nat)
 |store (n:Option Nat)
 |app (e:TypeId) (sz bytes:Nat)
 |btoS
 |stoB (e:TypeId)
 |clr (e:TypeId) (sz:Nat) (zs:List Value)
 |ex (x:XK)
structure AI where
 d:Option Nat
 k:AK
 xs:List Operand
 g:Option (Nat × Bool)
 un:List Nat
 tg:Option Nat
inductive AC where
 |skip
 |reg (is:List AI) (drawn:Bool) (keep:List Nat)
 |seq (a b:AC)
 |cond (x:Operand) (a b:AC)
 |block (id:Nat) (a:AC)
 |loop (a:AC)
 |exit (id:Nat)
 |ret
def sbit (op:BinOp) (k:IntKind) (a b:Int):PV:=.int k (k.wrap (match op with
 |.and=>(BitVec.ofInt k.bits a &&& BitVec.ofInt k.bits b).toNat
 |.or=>(BitVec.ofInt k.bits a ||| BitVec.ofInt k.bits b).toNat
 |.xor=>(BitVec.ofInt k.bits a ^^^ BitVec.ofInt k.bits b).toNat
 | _=>(BitVec.ofInt k.bits a &&& ~~~ BitVec.ofInt k.bits b).toNat:Nat))
def sbin (op:BinOp) (x y:PV):Option (Prop × PV):=
 match x,y with
 |.int k a,.int k' b=>
  match op with
  |.shl=>some (0≤b,.int k (k.wrap (a*2 ^ (min b.toNat k.bits))))
  |.shr=>some (0≤b,.int k (a.fdiv (2 ^ (min b.toNat k.bits))))
  |op=>if k=k' then
   match op with
   |.add=>some (True,.int k (k.wrap (a+b)))
   |.sub=>some (True,.int k (k.wrap (a - b)))
   |.mul=>some (True,.int k (k.wrap (a*b)))
   |.quo=>some (b≠0,.int k (k.wrap (a.tdiv b)))
   |.rem=>some (b≠0,.int k (a.tmod b))
   |.eql=>some (True,.bool (decide (a=b)))
   |.neq=>some (True,.bool (!decide (a=b)))
   |.lss=>some (True,.bool (decide (a < b)))
   |.leq=>some (True,.bool (decide (a≤b)))
   |.gtr=>some (True,.bool (decide (b < a)))
   |.geq=>some (True,.bool (decide (b≤a)))
   |op=>some (True,sbit op k a b)
   else none
 |.str a,.str b=>
  match op with
  |.add=>some (a.length+b.length≤9223372036854775807,.str (a++b))
  |.eql=>some (True,.bool (decide (a=b)))
  |.neq=>some (True,.bool (!decide (a=b)))
  |.lss=>some (True,.bool (Op.bytesLess a b))
  |.leq=>some (True,.bool (Op.bytesLess a b || decide (a=b)))
  |.gtr=>some (True,.bool (!(Op.bytesLess a b || decide (a=b))))
  |.geq=>some (True,.bool (!Op.bytesLess a b))
  | _=>none
 | _,_=>none
def kIdx:IntKind→Nat
 |.i8=>0 | .i16=>1 | .i32=>2 | .i64=>3 | .u8=>4 | .u16=>5 | .u32=>6 | .u64=>7
def srt:PV→Nat
 |.bool _=>0
 |.str _=>1
 |.int k _=>2+kIdx k
 | _=>99
def eqP:PV→PV→Bool
 |.int _ a,.int _ b=>decide (a=b)
 |.str a,.str b=>decide (a=b)
 |.bool a,.bool b=>decide (a=b)
 | _,_=>false
def eqPs:List PV→List PV→Bool
 | [],[]=>true
 |a::l,b::m=>eqP a b && eqPs l m
 | _,_=>false
def rowAt (rows:List (List PV)) (i:Int):List PV:=rows.getD i.toNat []
def bytesRow (l:List UInt8):List (List PV):=l.map fun c=>[.int .u8 (c.toNat:Int)]
def pvOf:AV→Option PV
 |.pv p=>some p
 | _=>none
def pvsOf:List AV→Option (List PV)
 | []=>some []
 |v::l=>(pvOf v).bind fun p=>(pvsOf l).map (p :: ·)
def rowOf:AV→Option (List PV)
 |.agg cs=>pvsOf cs
 |.pv p=>some [p]
 | _=>none
def rowsOf:List AV→Option (List (List PV))
 | []=>some []
 |v::l=>(rowOf v).bind fun p=>(rowsOf l).map (p :: ·)
def cellsOf:AV→List AV
 |.agg cs=>cs
 |v=>[v]
def oneAV:AV→Bool
 |.pv (.val v)=>v.oneCell'
 |.pv _ | .own _ | .ptr _ _ | .eptr _ _ _ _ | .sub _ _ _ _ | .rp _ | .clo _ _=>true
 | _=>false
def ones:List AV→Bool
 | []=>true
 |c::cs=>oneAV c && ones cs
def partOK:AV→Bool
 |.agg _=>true
 |v=>oneAV v
def nrmF:AV→AV
 |.clo f []=>.pv (.val (.func (.func f) #[] #[]))
 |v=>v
def lay (cs:List AV) (off:Nat) (ps:List AV):List AV:=cs.take off++ps++cs.drop (off+ps.length)
def layAll (cs:List AV):List (Nat × Nat)→List AV→Option (List AV)
 | [],[]=>some cs
 | (off,n)::ps,x::xs=>if partOK x=true∧(cellsOf x).length=n∧off+n≤cs.length then layAll (lay cs off ((cellsOf x).map nrmF)) ps xs else none
 | _,_=>none
def bounds (n:Nat) (lo hi:Bool) (xs:List AV):Option (Int × Int):=
 match lo,hi,xs with
 |false,false,[]=>some (0,n)
 |true,false,[.pv (.int _ l)]=>some (l,n)
 |false,true,[.pv (.int _ h)]=>some (0,h)
 |true,true,[.pv (.int _ l),.pv (.int _ h)]=>some (l,h)
 | _,_,_=>none
def cut {α:Type} (l:List α) (lo hi:Int):List α:=(l.take hi.toNat).drop lo.toNat
def arrO:Option AO→Option (TypeId × List (List PV))
 |some (.arr e rows)=>some (e,rows)
 | _=>none
def rwsO:Option AO→Option (TypeId × List AV)
 |some (.rws e cs)=>some (e,cs)
 | _=>none
def idxO:Option AO→Option (TypeId × Nat)
 |some (.arr e rows)=>some (e,rows.length)
 |some (.rws e cs)=>some (e,cs.length)
 | _=>none
def boxO:Option AO→Option (List AV)
 |some (.box cs)=>some cs
 | _=>none
def rowsIn (objs:Nat→Option AO):AV→Option (List (List PV))
 |.pv .nil=>some []
 |.pv (.ro rows)=>some rows
 |.pv (.str l)=>some (bytesRow l)
 |.own t=>(arrO (objs t)).map (·.2)
 |.sub t e lo hi=>(arrO (objs t)).bind fun r=>if r.1=e then some ((r.2.take hi).drop lo) else none
 | _=>none
def rowsB (objs:Nat→Option AO):AV→Option (List (List PV))
 |.pv .nil=>some []
 |.pv (.ro rows)=>some rows
 |.own t=>(arrO (objs t)).map (·.2)
 |.sub t e lo hi=>(arrO (objs t)).bind fun r=>if r.1=e then some ((r.2.take hi).drop lo) else none
 | _=>none
def byteOf:List PV→Option UInt8
 | [.int .u8 n]=>if 0≤n∧n < 256 then some (UInt8.ofNat n.toNat) else none
 | _=>none
def bytesOf:List (List PV)→Option (List UInt8)
 | []=>some []
 |r::l=>(byteOf r).bind fun c=>(bytesOf l).map (c :: ·)
def cellB:AV→Bool
 |.agg _ | .tup _ | .cnd _ _ | .junk=>false
 | _=>true
def loadE (e:TypeId) (i:Int) (o:Nat):Option AO→Option (Prop × AV)
 |some (.arr e' rows)=>if e'=e then some (0≤i∧i < rows.length∧o < (rowAt rows i).length,.pv ((rowAt rows i).getD o (.int .u8 0))) else none
 |some (.rws e' cs)=>if e'=e∧o=0 then (cs[i.toNat]?).bind fun c=>if cellB c=true then some (0≤i,c) else none else none
 | _=>none
def getV (k:PV):List (PV × PV)→Option PV
 | []=>none
 |e::l=>if eqP k e.1=true then some e.2 else getV k l
def keysV (s:Nat) (es:List (PV × PV)):Prop:=∀e∈es,srt e.1=s
def gotV (z:Value) (ok:Bool) (o:Option PV):AV:=if ok=true then .tup [.pv (o.getD (cvp z)),.pv (.bool o.isSome)] else .pv (o.getD (cvp z))
def semQ (k:AK) (xs:List AV) (objs:Nat→Option AO):Option (Prop × AV):=
 match k,xs with
 |.bin op,[.pv x,.pv y]=>(sbin op x y).map fun r=>(r.1,.pv r.2)
 |.beq ne,[.pv (.bool x),.pv (.bool y)]=>some (True,.pv (.bool (if ne then x != y else x == y)))
 |.not,[.pv (.bool b)]=>some (True,.pv (.bool (!b)))
 |.neg,[.pv (.int k n)]=>some (True,.pv (.int k (k.wrap (0 - n))))
 |.cvi k,[.pv (.int _ n)]=>some (True,.pv (.int k (k.wrap n)))
 |.scv,[.pv (.str l)]=>some (True,.pv (.str l))
 |.slen,[.pv (.str l)]=>some (True,.pv (.int .i64 l.length))
 |.len,[.pv .nil]=>some (True,.pv (.int .i64 0))
 |.len,[.pv (.ro rows)]=>some (True,.pv (.int .i64 rows.length))
 |.len,[.own t]=>(idxO (objs t)).map fun r=>(True,.pv (.int .i64 r.2))
 |.len,[.sub t _ lo hi]=>(arrO (objs t)).map fun _=>(True,.pv (.int .i64 ((hi:Int) - (lo:Int))))
 |.sidx,[.pv (.str l),.pv (.int _ i)]=>some (0≤i∧i < l.length,.pv (.int .u8 ((l.getD i.toNat 0).toNat:Int)))
 |.ssl lo hi,.pv (.str l)::bs=>(bounds l.length lo hi bs).map fun b:Int × Int=>(0≤b.1∧b.1≤b.2∧b.2≤(l.length:Int),.pv (.str (cut l b.1 b.2)))
 |.fld off none,[.agg cs]=>(cs[off]?).map fun c=>(True,c)
 |.fld off (some n),[.agg cs]=>if off+n≤cs.length then some (True,.agg ((cs.drop off).take n)) else none
 |.fad off,[.ptr t o]=>some (True,.ptr t (o+off))
 |.fad off,[.eptr t e i o]=>some (True,.eptr t e i (o+off))
 |.fad off,[.rp cs]=>some (True,.rp (cs.drop off))
 |.ixp n sz,[.ptr t o,.pv (.int _ i)]=>some (0≤i∧i < (n:Int),.ptr t (o+i.toNat*sz))
 |.ixp n sz,[.rp cs,.pv (.int _ i)]=>some (0≤i∧i < (n:Int),.rp (cs.drop (i.toNat*sz)))
 |.nck,[.ptr t o]=>some (True,.ptr t o)
 |.nck,[.eptr t e i o]=>some (True,.eptr t e i o)
 |.nck,[.rp cs]=>some (True,.rp cs)
 |.load none,[.ptr t o]=>(boxO (objs t)).bind fun cs=>(cs[o]?).bind fun c=>if cellB c=true then some (True,c) else none
 |.load (some n),[.ptr t o]=>(boxO (objs t)).bind fun cs=>if o+n≤cs.length then some (True,.agg ((cs.drop o).take n)) else none
 |.load none,[.eptr t e i o]=>loadE e i o (objs t)
 |.load (some n),[.eptr t e i o]=>(arrO (objs t)).bind fun r=>if r.1=e∧o+n≤(rowAt r.2 i).length then some (0≤i∧i < r.2.length,.agg ((((rowAt r.2 i).drop o).take n).map .pv)) else none
 |.load none,[.rp (c::_)]=>some (True,.pv c)
 |.load none,[.rp []]=>some (False,.pv (.int .u64 0))
 |.load (some n),[.rp cs]=>if n≤cs.length then some (True,.agg ((cs.take n).map .pv)) else none
 |.ixa _ sz,[.pv (.ro rows),.pv (.int _ i)]=>some (0≤i∧i < rows.length∧(rowAt rows i).length=sz,.rp (rowAt rows i))
 |.ixa e _,[.own t,.pv (.int _ i)]=>(idxO (objs t)).bind fun r=>if r.1=e then some (0≤i∧i < r.2,.eptr t e i 0) else none
 |.ixa e _,[.sub t e1 lo hi,.pv (.int _ i)]=>(arrO (objs t)).bind fun r=>if r.1=e∧e1=e then some (0≤i∧i < (hi:Int) - (lo:Int),.eptr t e ((lo:Int)+i) 0) else none
 |.slc sz lo hi,.own t::bs=>(arrO (objs t)).bind fun r=>(bounds r.2.length lo hi bs).map fun b:Int × Int=>(0≤b.1∧b.1≤b.2∧b.2≤(r.2.length:Int)∧(∀x∈r.2,x.length=sz),.sub t r.1 b.1.toNat b.2.toNat)
 |.slc sz lo hi,.sub t e l h::bs=>(arrO (objs t)).bind fun r=>if r.1=e then (bounds (h - l) lo hi bs).map fun b:Int × Int=>(0≤b.1∧b.1≤b.2∧b.2≤((h - l:Nat):Int)∧(∀x∈r.2,x.length=sz),.sub t e (l+b.1.toNat) (l+b.2.toNat)) else none
 |.slc sz lo hi,.pv (.ro rows)::bs=>(bounds rows.length lo hi bs).map fun b:Int × Int=>(0≤b.1∧b.1≤b.2∧b.2≤(rows.length:Int)∧(∀r∈rows,r.length=sz),.pv (.ro (cut rows b.1 b.2)))
 |.slc _ lo hi,.pv .nil::bs=>(bounds 0 lo hi bs).map fun b:Int × Int=>(b.1=0∧b.2=0,.pv .nil)
 |.ext i,[.tup vs]=>(vs[i]?).map fun v=>(True,v)
 |.bld zs ps,xs=>(layAll (zs.map cv) ps xs).map fun cs=>(True,.agg cs)
 |.mkf f,xs=>some (True,.clo f xs)
 |.mnx mx,[.pv (.int k a),.pv (.int k' b)]=>if k=k' then some (True,.pv (.int k (if mx then max a b else min a b))) else none
 |.eqs ne ks,[.agg xs,.agg ys]=>(pvsOf xs).bind fun a=>(pvsOf ys).map fun b=>(a.map srt=ks∧b.map srt=ks,.pv (.bool (if ne then !eqPs a b else eqPs a b)))
 |.ex (.gev s z ok),[.pv (.mv es),.pv k]=>some (z.oneCell'=true∧srt k=s∧keysV s es,gotV z ok (getV k es))
 |.btoS,[x]=>(rowsB objs x).bind fun rows=>(bytesOf rows).map fun l=>(True,.pv (.str l))
 | _,_=>none
def blk:Value→Option Nat
 |.slice (some a) _ _=>some a.block
 |.pointer (some a)=>some a.block
 |.map (some b)=>some b
 | _=>none
def keyV:PV→Value
 |.int k n=>.int k n
 |.str l=>.string ⟨l.toArray⟩
 |.bool b=>.bool b
 | _=>undef
inductive RPV (S:Nat→Prop) (w:World):Value→PV→Prop
 |int (k:IntKind) (n:Int):RPV S w (.int k n) (.int k n)
 |bool (b:Bool):RPV S w (.bool b) (.bool b)
 |str (l:List UInt8):RPV S w (.string ⟨l.toArray⟩) (.str l)
 |nil:RPV S w (.slice none 0 0) .nil
 |val (v:Value):v.oneCell'=true→RPV S w v (.val v)
 |mp (b:Nat) (us:Array MapEntry) (c:Nat) (ks:List PV):S b→w.heap[b]? = some (.map us c)→us.toList.length=ks.length →
   (∀(i:Nat) (k:PV) (u:MapEntry),ks[i]? = some k→us.toList[i]? = some u→u.key=keyV k∧u.val=.agg #[])→RPV S w (.map (some b)) (.mp ks)
 |mv (b:Nat) (us:Array MapEntry) (c:Nat) (es:List (PV × PV)):S b→w.heap[b]? = some (.map us c)→MapKept.Stamped us c→us.toList.length=es.length →
   (∀(i:Nat) (e:PV × PV) (u:MapEntry),es[i]? = some e→us.toList[i]? = some u→u.key=keyV e.1∧srt e.1 < 99∧u.val.oneCell'=true) →
   (∀(i:Nat) (e:PV × PV) (u:MapEntry),es[i]? = some e→us.toList[i]? = some u→RPV S w u.val e.2)→RPV S w (.map (some b)) (.mv es)
 |pt (ad:Addr) (cs:List PV) (us:Nat→Value):S ad.block→(∀j,j < cs.length→w.cell? (ad.add j)=some (us j)) →
   (∀(j:Nat) (p:PV),cs[j]? = some p→(us j).oneCell'=true)→(∀(j:Nat) (p:PV),cs[j]? = some p→RPV S w (us j) p)→RPV S w (.pointer (some ad)) (.pt cs)
 |ro0 (A:Option Addr) (c:Nat):RPV S w (.slice A 0 c) (.ro [])
 |ro (ad:Addr) (c:Nat) (rows:List (List PV)) (sz:Nat) (us:Nat→Nat→Value) :
   S ad.block→rows.length≤c→(∀r,r∈rows→r.length=sz) →
   (∀i j,i < rows.length→j < sz→w.cell? (ad.add (i*sz+j))=some (us i j)) →
   (∀(i j:Nat) (r:List PV) (p:PV),rows[i]? = some r→r[j]? = some p→(us i j).oneCell'=true) →
   (∀(i j:Nat) (r:List PV) (p:PV),rows[i]? = some r→r[j]? = some p→RPV S w (us i j) p) →
   RPV S w (.slice (some ad) rows.length c) (.ro rows)
inductive RV (P:Program) (S:Nat→Prop) (w:World) (β:Nat→Value) (D:Nat→Prop):Value→AV→Prop
 |pv (v:Value) (p:PV):RPV S w v p→RV P S w β D v (.pv p)
 |own (t:Nat):D t→RV P S w β D (β t) (.own t)
 |ptr (t o b:Nat):D t→β t=.pointer (some ⟨b,0,none⟩)→RV P S w β D (.pointer (some ⟨b,o,none⟩)) (.ptr t o)
 |eptr (t:Nat) (e:TypeId) (i:Int) (o b n c:Nat) (inf:TypeInfo):D t→P.info? e=some inf→β t=.slice (some ⟨b,0,none⟩) n c →
   RV P S w β D (.pointer (some ⟨b,i.toNat*inf.size+o,none⟩)) (.eptr t e i o)
 |sub (v:Value) (t:Nat) (e:TypeId) (lo hi:Nat) (inf:TypeInfo) (A A1:Option Addr) (n c:Nat):D t→P.info? e=some inf→β t=.slice A n c→lo≤hi→hi≤n→n≤c→(lo=0→A1=A)→(c≠lo→A1=A.map (·.add (lo*inf.size)))→v=.slice A1 (hi - lo) (c - lo) →
   RV P S w β D v (.sub t e lo hi)
 |rp (ad:Addr) (cs:List PV) (us:Nat→Value):S ad.block→(∀j,j < cs.length→w.cell? (ad.add j)=some (us j)) →
   (∀(j:Nat) (p:PV),cs[j]? = some p→(us j).oneCell'=true)→(∀(j:Nat) (p:PV),cs[j]? = some p→RPV S w (us j) p) →
   RV P S w β D (.pointer (some ad)) (.rp cs)
 |agg (cs:List AV) (us:List Value):us.length=cs.length→(∀(i:Nat) (c:AV) (u:Value),cs[i]? = some c→us[i]? = some u→RV P S w β D u c) →
   RV P S w β D (.agg us.toArray) (.agg cs)
 |tup (vs:List AV) (us:List Value):us.length=vs.length→(∀(i:Nat) (c:AV) (u:Value),vs[i]? = some c→us[i]? = some u→RV P S w β D u c) →
   RV P S w β D (.tuple us.toArray) (.tup vs)
 |clo (f:FuncId) (cs:List AV) (us:List Value):us.length=cs.length→(∀(i:Nat) (c:AV) (u:Value),cs[i]? = some c→us[i]? = some u→RV P S w β D u c) →
   RV P S w β D (.func (.func f) #[] us.toArray) (.clo f cs)
 |cnd (g:Bool) (v:Value) (av:AV):(g=true→RV P S w β D v av)→(g=false→v=undef)→RV P S w β D v (.cnd g av)
 |junk (v:Value):RV P S w β D v .junk
def keysOK (s:Nat) (es:List (PV × AV)):Prop:=∀e∈es,srt e.1=s
def getM (k:PV):List (PV × AV)→Option AV
 | []=>none
 |e::l=>if eqP k e.1=true then some e.2 else getM k l
def putM (k:PV) (v:AV):List (PV × AV)→List (PV × AV)
 | []=>[(k,v)]
 |e::l=>if eqP k e.1=true then (k,v)::l else e::putM k v l
def avZ:Value→AV
 |.agg cs=>.agg (cs.toList.map cv)
 |v=>cv v
def HoldsO (P:Program) (S:Nat→Prop) (w:World) (β:Nat→Value) (D:Nat→Prop) (t:Nat):AO→Prop
 |.box cs=>∃b us ty,β t=.pointer (some ⟨b,0,none⟩)∧w.heap[b]? = some (.cells us ty (0,0))∧us.size=cs.length ∧
   ∀(i:Nat) (c:AV) (u:Value),cs[i]? = some c→us[i]? = some u→u.oneCell'=true∧RV P S w β D u c
 |.arr e rows=>∃inf us,P.info? e=some inf∧w.ownsRow 0 e inf.size (β t) rows.length us∧(∀r,r∈rows→r.length=inf.size) ∧
   ∀(i j:Nat) (r:List PV) (p:PV),rows[i]? = some r→r[j]? = some p→∃u,us[i*inf.size+j]? = some u∧u.oneCell'=true∧RPV S w u p
 |.map es=>∃(b:Nat) (us:Array MapEntry) (c:Nat),β t=.map (some b)∧w.heap[b]? = some (.map us c)∧us.toList.length=es.length ∧
   ∀(i:Nat) (e:PV × AV) (u:MapEntry),es[i]? = some e→us.toList[i]? = some u→u.key=keyV e.1∧RV P S w β (fun _=>False) u.val e.2
 |.rws e cs=>∃inf us,P.info? e=some inf∧inf.size=1∧w.ownsRow 0 e inf.size (β t) cs.length us ∧
   ∀(i:Nat) (c:AV) (u:Value),cs[i]? = some c→us[i]? = some u→u.oneCell'=true∧RV P S w β D u c
 |.mpv es=>∃(b:Nat) (us:Array MapEntry) (c:Nat),β t=.map (some b)∧w.heap[b]? = some (.map us c)∧MapKept.Stamped us c∧us.toList.length=es.length ∧
   ∀(i:Nat) (e:PV × PV) (u:MapEntry),es[i]? = some e→us.toList[i]? = some u→u.key=keyV e.1∧srt e.1 < 99∧u.val.oneCell'=true∧RPV S w u.val e.2
 |.itr rem cur=>∃(r m:Nat) (us:Array MapEntry) (c:Nat) (seen:Array Nat),β t=.pointer (some ⟨r,0,none⟩)∧w.heap[r]? = some (.mapIter (some m) c seen c)∧S m∧w.heap[m]? = some (.map us c)∧MapKept.Stamped us c ∧
   (leftOf us seen).toList.length=rem.length∧(∀(i:Nat) (e:PV × PV) (u:MapEntry),rem[i]? = some e→(leftOf us seen).toList[i]? = some u→u.key=keyV e.1∧srt e.1 < 99∧u.val.oneCell'=true∧RPV S w u.val e.2) ∧
   ∀e,cur=some e→∃(u:MapEntry) (seen':Array Nat),seen=seen'.push u.born∧u∈us.toList∧u.key=keyV e.1∧srt e.1 < 99∧u.val.oneCell'=true∧RPV S w u.val e.2
def dom {α:Type} (objs:Nat→Option α) (t:Nat):Prop:=∃o,objs t=some o
def live (β:Nat→Value) (objs:Nat→Option AO) (b:Nat):Prop:=∃t o,objs t=some o∧blk (β t)=some b
def okS (S0:Nat→Prop) (n0:Nat) (β:Nat→Value) (objs:Nat→Option AO) (w:World) (b:Nat):Prop:=(S0 b∨n0≤b)∧b < w.heap.size∧¬ live β objs b
structure Heap (P:Program) (S:Nat→Prop) (w:World) (β:Nat→Value) (objs:Nat→Option AO):Prop where
 holds:∀t o,objs t=some o→HoldsO P S w β (dom objs) t o
 inj:∀t t' b,dom objs t→dom objs t'→blk (β t)=some b→blk (β t')=some b→t=t'
structure Fram (L:Nat→Prop) (w w':World):Prop where
 os:w'.os=w.os
 tape:w'.tape=w.tape
 output:w'.output=w.output
 size:w.heap.size≤w'.heap.size
 block:∀b,b < w.heap.size→¬ L b→w'.heap[b]? = w.heap[b]?
structure Rel (P:Program) (S0:Nat→Prop) (L:Nat→Prop) (B0:Nat→Value) (w0:World) (N:Nat) (st:St) (a:Act) (w:World) (β:Nat→Value):Prop where
 size:a.tmps.size=N
 defers:a.defers=[]
 vars:∀s,RV P (okS S0 w0.heap.size β st.objs w) w β (dom st.objs) (a.tmps.getD s undef) (st.vars s)
 heap:Heap P (okS S0 w0.heap.size β st.objs w) w β st.objs
 old:∀t b,dom st.objs t→blk (β t)=some b→w0.heap.size≤b∨L b
 lim:N≤998
 pin:∀t,t % 1000=999→dom st.objs t→β t=B0 t
 fram:Fram L w0 w
def cellAt1:AV→Nat→Option AV
 |.agg cs,j=>cs[j]?
 |v,j=>if j=0 then some v else none
def cellAt:AV→Nat→Option AV
 |.tup vs,p=>(vs[p % 1000]?).bind fun v=>cellAt1 v (p / 1000)
 |v,p=>if p % 1000=0 then cellAt1 v (p / 1000) else none
def mapCs (g:Nat→AV→AV) (j:Nat):List AV→List AV
 | []=>[]
 |c::cs=>g (1000*j) c::mapCs g (j+1) cs
def map1 (g:Nat→AV→AV):AV→AV
 |.agg cs=>.agg (mapCs g 0 cs)
 |v=>g 0 v
def mapVs (g:Nat→AV→AV) (i:Nat):List AV→List AV
 | []=>[]
 |v::vs=>map1 (fun p c=>g (p+i) c) v::mapVs g (i+1) vs
def mapTop (g:Nat→AV→AV):AV→AV
 |.tup vs=>.tup (mapVs g 0 vs)
 |v=>map1 g v
def tagC (d:Nat) (p:Nat):AV→AV
 |.fr _ _=>.own (d+1000*p)
 |v=>v
def tagP (p:Nat):AV→AV
 |.fr _ _=>.own p
 |v=>v
def frO:Option AV→Option AO
 |some (.fr e rows)=>some (.arr e rows)
 | _=>none
def frsCs (j:Nat):List AV→List (Nat × AO)
 | []=>[]
 |.fr e rows::cs=>(1000*j,.arr e rows)::frsCs (j+1) cs
 | _::cs=>frsCs (j+1) cs
def frs1:AV→List (Nat × AO)
 |.agg cs=>frsCs 0 cs
 |.fr e rows=>[(0,.arr e rows)]
 | _=>[]
def frsVs (i:Nat):List AV→List (Nat × AO)
 | []=>[]
 |v::vs=>(frs1 v).map (fun x=>(x.1+i,x.2))++frsVs (i+1) vs
def frs:AV→List (Nat × AO)
 |.tup vs=>frsVs 0 vs
 |v=>frs1 v
def flatP:PV→Bool
 |.int _ _ | .bool _ | .str _ | .nil | .val _=>true
 |.ro rows=>rows.isEmpty
 |.mp _ | .mv _ | .pt _=>false
def flatRows (rows:List (List PV)):Prop:=∀r∈rows,∀p∈r,flatP p=true
def flatC:AV→Prop
 |.pv p=>flatP p=true
 |.fr _ rows=>flatRows rows
 | _=>False
def flatL:List AV→Prop
 | []=>True
 |c::cs=>flatC c∧flatL cs
def flat1:AV→Prop
 |.agg cs=>flatL cs
 |v=>flatC v
def flatV:List AV→Prop
 | []=>True
 |c::cs=>flat1 c∧flatV cs
def flat:AV→Prop
 |.tup vs=>flatV vs
 |v=>flat1 v
def unionO (f g:Nat→Option AO):Nat→Option AO:=fun t=>match f t with
 |some o=>some o
 |none=>g t
def Con (P:Program) (f:FuncId) (hin:List (Nat × AO)) (args:List AV) (hout:List (Nat × AO)) (r:AV):Prop:=
 ∀(w:World) (S0:Nat→Prop) (β:Nat→Value) (vals:List Value),
  (∀b,S0 b→b < w.heap.size) →
  (∀t b,dom (lookO hin) t→blk (β t)=some b→b < w.heap.size) →
  Heap P (okS S0 w.heap.size β (lookO hin) w) w β (lookO hin) →
  vals.length=args.length →
  (∀(i:Nat) (v:Value) (x:AV),vals[i]? = some v→args[i]? = some x→RV P (okS S0 w.heap.size β (lookO hin) w) w β (dom (lookO hin)) v x) →
  Calls P f vals.toArray w fun e w'=>∃v β',e=.returned v∧Fram (live β (lookO hin)) w w' ∧
   Heap P (okS S0 w.heap.size β' (unionO (lookO hout) fun t=>frO (cellAt r t)) w') w' β' (unionO (lookO hout) fun t=>frO (cellAt r t)) ∧
   (∀t b,dom (unionO (lookO hout) fun t=>frO (cellAt r t)) t→blk (β' t)=some b→w.heap.size≤b∨live β (lookO hin) b) ∧
   RV P (okS S0 w.heap.size β' (unionO (lookO hout) fun t=>frO (cellAt r t)) w') w' β' (dom (unionO (lookO hout) fun t=>frO (cellAt r t))) v (mapTop tagP r)
def mkA:AV→AV
 |.fr _ _=>.own 998
 |.tup [.fr _ _]=>.own 999
 |x=>x
def mkO:List AV→List (Nat × AO)
 | []=>[]
 |.fr e rows::_=>[(998,.arr e rows)]
 |.tup [.fr e rows]::_=>[(999,.arr e rows)]
 | _::l=>mkO l
def outR:AV→AV
 |.clo _ [r,.fr _ _]=>r
 |r=>r
def outO:AV→List (Nat × AO)
 |.clo _ [_,.fr e rows]=>[(999,.arr e rows)]
 | _=>[]
def ConU (P:Program) (f:FuncId) (ys:List AV) (x:AV):Prop:=
 ∀(w:World) (S0:Nat→Prop) (β:Nat→Value) (vals:List Value),
  (∀b,S0 b→b < w.heap.size) →
  (∀t b,dom (lookO (mkO ys)) t→blk (β t)=some b→b < w.heap.size) →
  Heap P (okS S0 w.heap.size β (lookO (mkO ys)) w) w β (lookO (mkO ys)) →
  vals.length=ys.length →
  (∀(i:Nat) (v:Value) (x:AV),vals[i]? = some v→(ys.map mkA)[i]? = some x→RV P (okS S0 w.heap.size β (lookO (mkO ys)) w) w β (dom (lookO (mkO ys))) v x) →
  Calls P f vals.toArray w fun e w'=>∃v β',e=.returned v∧Fram (live β (lookO (mkO ys))) w w' ∧
   Heap P (okS (fun b=>S0 b∨live β (lookO (mkO ys)) b) w.heap.size β' (unionO (lookO (outO x)) fun t=>frO (cellAt (outR x) t)) w') w' β' (unionO (lookO (outO x)) fun t=>frO (cellAt (outR x) t)) ∧
   (∀t b,dom (unionO (lookO (outO x)) fun t=>frO (cellAt (outR x) t)) t→blk (β' t)=some b→w.heap.size≤b∨live β (lookO (mkO ys)) b) ∧
   (∀t,dom (lookO (outO x)) t→dom (lookO (mkO ys)) t∧β' t=β t) ∧
   RV P (okS (fun b=>S0 b∨live β (lookO (mkO ys)) b) w.heap.size β' (unionO (lookO (outO x)) fun t=>frO (cellAt (outR x) t)) w') w' β' (dom (unionO (lookO (outO x)) fun t=>frO (cellAt (outR x) t))) v (mapTop tagP (outR x))
inductive HT (P:Program) (S:Nat→Prop) (w:World):Value→AV→List Nat→Prop
 |leaf (v:Value) (y:AV):RV P S w (fun _=>undef) (fun _=>False) v y→HT P S w v y []
 |fr (v:Value) (e:TypeId) (rows:List (List PV)) (inf:TypeInfo) (us:List Value):P.info? e=some inf→w.ownsRow 0 e inf.size v rows.length us→(∀r,r∈rows→r.length=inf.size) →
   (∀(i j:Nat) (r:List PV) (p:PV),rows[i]? = some r→r[j]? = some p→∃u,us[i*inf.size+j]? = some u∧u.oneCell'=true∧RPV S w u p)→HT P S w v (.fr e rows) (blk v).toList
 |mf (b:Nat) (us:Array MapEntry) (c:Nat) (es:List (PV × PV)):w.heap[b]? = some (.map us c)→MapKept.Stamped us c→us.toList.length=es.length →
   (∀(i:Nat) (e:PV × PV) (u:MapEntry),es[i]? = some e→us.toList[i]? = some u→u.key=keyV e.1∧srt e.1 < 99∧u.val.oneCell'=true∧RPV S w u.val e.2)→HT P S w (.map (some b)) (.mf es) [b]
 |bx (b:Nat) (us:Array Value) (ty:TypeId) (cs:List AV) (bss:List (List Nat)):w.heap[b]? = some (.cells us ty (0,0))→us.size=cs.length→bss.length=cs.length →
   (∀(i:Nat) (u:Value),us[i]? = some u→u.oneCell'=true) →
   (∀(i:Nat) (c:AV) (u:Value) (bs:List Nat),cs[i]? = some c→us[i]? = some u→bss[i]? = some bs→HT P S w u c bs)→HT P S w (.pointer (some ⟨b,0,none⟩)) (.bx cs) (b::bss.flatten)
 |agg (us:List Value) (cs:List AV) (bss:List (List Nat)):us.length=cs.length→bss.length=cs.length →
   (∀(i:Nat) (c:AV) (u:Value) (bs:List Nat),cs[i]? = some c→us[i]? = some u→bss[i]? = some bs→HT P S w u c bs)→HT P S w (.agg us.toArray) (.agg cs) bss.flatten
 |tup (us:List Value) (cs:List AV) (bss:List (List Nat)):us.length=cs.length→bss.length=cs.length →
   (∀(i:Nat) (c:AV) (u:Value) (bs:List Nat),cs[i]? = some c→us[i]? = some u→bss[i]? = some bs→HT P S w u c bs)→HT P S w (.tuple us.toArray) (.tup cs) bss.flatten
def HTs (P:Program) (S:Nat→Prop) (w:World) (vs:List Value) (ys:List AV) (bss:List (List Nat)):Prop:=
 vs.length=ys.length∧bss.length=ys.length∧∀(i:Nat) (y:AV) (v:Value) (bs:List Nat),ys[i]? = some y→vs[i]? = some v→bss[i]? = some bs→HT P S w v y bs
def unT:AV→AV
 |.tup [y]=>y
 |y=>y
def isT:AV→Bool
 |.tup [_]=>true
 | _=>false
def lent {α:Type}:List AV→List α→List α
 |y::ys,v::vs=>if isT y=true then v::lent ys vs else lent ys vs
 | _,_=>[]
def retG:AV→AV
 |.clo _ (r::_)=>r
 |r=>r
def outG:AV→List AV
 |.clo _ (_::os)=>os
 | _=>[]
def ConG (P:Program) (f:FuncId) (ys:List AV) (x:AV):Prop:=
 ∀(w:World) (S0:Nat→Prop) (vals:List Value) (bss:List (List Nat)),
  (∀b,S0 b→b < w.heap.size∧b∉bss.flatten)→bss.flatten.Nodup→HTs P S0 w vals (ys.map unT) bss →
  Calls P f vals.toArray w fun e w'=>∃v bss',e=.returned v∧Fram (·∈bss.flatten) w w'∧bss'.flatten.Nodup∧(∀b∈bss'.flatten,w.heap.size≤b∨b∈bss.flatten) ∧
   HTs P (fun b=>(S0 b∨b∈bss.flatten∨w.heap.size≤b)∧b < w'.heap.size∧b∉bss'.flatten) w' (lent ys vals++[v]) (outG x++[retG x]) bss'
def unitB:AV→Bool
 |.agg []=>true
 | _=>false
def unitV:Value→Bool
 |.agg cs=>cs.isEmpty
 | _=>false
def reiO:Option AO→Option PV
 |some (.arr _ rows)=>some (.ro rows)
 |some (.map es)=>if es.all (fun e=>unitB e.2)=true then some (.mp (es.map (·.1))) else none
 |some (.mpv es)=>some (.mv es)
 | _=>none
def reiP (objs:Nat→Option AO):AV→Option PV
 |.pv .nil=>some (.ro [])
 |.pv p=>some p
 |.own t=>reiO (objs t)
 |.sub t e lo hi=>(arrO (objs t)).bind fun r=>if r.1=e then some (.ro ((r.2.take hi).drop lo)) else none
 | _=>none
def reiPs (objs:Nat→Option AO):List AV→Option (List PV)
 | []=>some []
 |c::cs=>(reiP objs c).bind fun p=>(reiPs objs cs).map (p :: ·)
def rei1 (objs:Nat→Option AO):AV→Option AV
 |.ptr t o=>(boxO (objs t)).bind fun cs=>(reiPs objs (cs.drop o)).map .rp
 |.rp cs=>some (.rp cs)
 |.agg cs=>(reiPs objs cs).map fun ps=>.agg (ps.map .pv)
 |.clo f []=>some (.clo f [])
 |v=>(reiP objs v).map .pv
def rei1s (objs:Nat→Option AO):List AV→Option (List AV)
 | []=>some []
 |c::cs=>(rei1 objs c).bind fun p=>(rei1s objs cs).map (p :: ·)
def rei (objs:Nat→Option AO):AV→Option AV
 |.clo f caps=>(rei1s objs caps).map (.clo f)
 |v=>rei1 objs v
def reis (objs:Nat→Option AO):List AV→Option (List AV)
 | []=>some []
 |c::cs=>(rei objs c).bind fun p=>(reis objs cs).map (p :: ·)
def pureC:AV→Bool
 |.pv _ | .rp _=>true
 | _=>false
def pureCs:List AV→Bool
 | []=>true
 |c::cs=>pureC c && pureCs cs
def pure1:AV→Bool
 |.agg cs=>pureCs cs
 |.clo _ cs=>pureCs cs
 |v=>pureC v
def pures:List AV→Bool
 | []=>true
 |c::cs=>pure1 c && pures cs
def rdO:Option AO→Option AV
 |some (.arr e rows)=>some (.fr e rows)
 |some (.mpv es)=>some (.mf es)
 | _=>none
def rdW (f:AV→Option (AV × List Nat)):List AV→Option (List AV × List Nat)
 | []=>some ([],[])
 |c::cs=>(f c).bind fun r=>(rdW f cs).map fun q=>(r.1::q.1,r.2++q.2)
def rd:Nat→(Nat→Option AO)→AV→Option (AV × List Nat)
 | 0,_,_=>none
 |n+1,objs,x=>match x with
  |.own t=>(rdO (objs t)).map fun y=>(y,[t])
  |.ptr t 0=>(boxO (objs t)).bind fun cs=>(rdW (rd n objs) cs).map fun r=>(.bx r.1,t::r.2)
  |.agg cs=>(rdW (rd n objs) cs).map fun r=>(.agg r.1,r.2)
  |.pv p=>some (.pv p,[])
  |.rp cs=>some (.rp cs,[])
  |.clo f []=>some (.clo f [],[])
  | _=>none
def tk:Bool→List Nat × List Nat→Option (Nat × List Nat × List Nat)
 |true,(p::ps,us)=>some (p,ps,us)
 |false,(ps,u::us)=>some (u,ps,us)
 | _,_=>none
def numW (f:AV→List Nat × List Nat→Option (AV × List (Nat × AO) × List Nat × List Nat)):List AV→List Nat × List Nat→Option (List AV × List (Nat × AO) × List Nat × List Nat)
 | [],s=>some ([],[],s)
 |c::cs,s=>(f c s).bind fun r=>(numW f cs r.2.2).map fun q=>(r.1::q.1,r.2.1++q.2.1,q.2.2)
def num:Nat→Bool→AV→List Nat × List Nat→Option (AV × List (Nat × AO) × List Nat × List Nat)
 | 0,_,_,_=>none
 |n+1,top,y,s=>match y with
  |.fr e rows=>(tk top s).map fun q=>(.own q.1,[(q.1,.arr e rows)],q.2)
  |.mf es=>(tk top s).map fun q=>(.own q.1,[(q.1,.mpv es)],q.2)
  |.bx cs=>(tk top s).bind fun q=>(numW (num n false) cs q.2).map fun r=>(.ptr q.1 0,(q.1,.box r.1)::r.2.1,r.2.2)
  |.agg cs=>(numW (num n top) cs s).map fun r=>(.agg r.1,r.2)
  |.tup cs=>(numW (num n top) cs s).map fun r=>(.tup r.1,r.2)
  |.pv p=>some (.pv p,[],s)
  |.rp cs=>some (.rp cs,[],s)
  |.clo f caps=>if pureCs caps=true then some (.clo f caps,[],s) else none
  | _=>none
def topC:AV→List Nat
 |.own t=>[t]
 |.ptr t 0=>[t]
 | _=>[]
def tops:AV→List Nat
 |.agg cs=>cs.flatMap topC
 |x=>topC x
def wipeC (W:List Nat):AV→AV
 |.own t=>if W.contains t then .junk else .own t
 |.ptr t o=>if W.contains t then .junk else .ptr t o
 |.eptr t e i o=>if W.contains t then .junk else .eptr t e i o
 |.sub t e lo hi=>if W.contains t then .junk else .sub t e lo hi
 |.pv p=>.pv p
 |.rp cs=>.rp cs
 |.clo f []=>.clo f []
 | _=>.junk
def wipe1 (W:List Nat):AV→AV
 |.agg cs=>.agg (cs.map (wipeC W))
 |v=>wipeC W v
def wipe0 (W:List Nat):AV→AV
 |.tup cs=>.tup (cs.map (wipe1 W))
 |.clo f cs=>.clo f (cs.map (wipe1 W))
 |.cnd g v=>.cnd g (wipe0 W v)
 |v=>wipe1 W v
def wipe (W:List Nat) (v:AV):AV:=if W.isEmpty=true then v else wipe0 W v
def wipeO0 (W:List Nat):AO→AO
 |.box cs=>.box (cs.map (wipeC W))
 |.rws e cs=>.rws e (cs.map (wipeC W))
 |o=>o
def wipeO (W:List Nat) (o:AO):AO:=if W.isEmpty=true then o else wipeO0 W o
def wipeV (W:List Nat) (f:Nat→AV):Nat→AV:=fun s=>wipe W (f s)
def wipeM (T W:List Nat) (f:Nat→Option AO):Nat→Option AO:=fun t=>if T.contains t then none else (f t).map (wipeO W)
def ysG (objs objs':Nat→Option AO) (T:List Nat):List Nat→List AV→Option (List AV)
 | [],[]=>some []
 |k::ks,x::xs=>(if k=0 then rei objs' (wipe T x) else if k=1 then (rd 5 objs x).map (·.1) else (rd 5 objs x).map fun r=>.tup [r.1]).bind fun y=>(ysG objs objs' T ks xs).map (y :: ·)
 | _,_=>none
def tagsG (objs:Nat→Option AO):List Nat→List AV→List Nat
 |k::ks,x::xs=>(if k=0 then [] else ((rd 5 objs x).map (·.2)).getD [])++tagsG objs ks xs
 | _,_=>[]
def lentG:List Nat→List AV→List AV
 |k::ks,x::xs=>if 1 < k then x::lentG ks xs else lentG ks xs
 | _,_=>[]
def puresG (T:List Nat):List Nat→List AV→Bool
 |k::ks,x::xs=>(k != 0 || pure1 (wipe T x)) && puresG T ks xs
 | _,_=>true
def flatG:Nat→AV→Prop
 | 0,_=>False
 |n+1,y=>match y with
  |.fr _ rows=>flatRows rows
  |.mf es=>∀e∈es,flatP e.2=true
  |.bx cs | .agg cs | .tup cs=>∀c∈cs,flatG n c
  |.pv p=>flatP p=true
  |.clo _ []=>True
  | _=>False
def frTags (d:Nat) (r:AV):List (Nat × AO):=(frs r).map fun x=>(d+1000*x.1,x.2)
def splice {α:Type} (l:List α) (o:Nat) (ps:List α):List α:=l.take o++ps++l.drop (o+ps.length)
def killC (t:Nat):AV→AV
 |.own s=>if s=t then .junk else .own s
 |.eptr s e i o=>if s=t then .junk else .eptr s e i o
 |.sub s e i o=>if s=t then .junk else .sub s e i o
 |.pv p=>.pv p
 |.ptr s o=>.ptr s o
 |.rp cs=>.rp cs
 |.clo f []=>.clo f []
 | _=>.junk
def killCs (t:Nat):List AV→List AV
 | []=>[]
 |c::cs=>killC t c::killCs t cs
def kill (t:Nat):AV→AV
 |.agg cs=>.agg (killCs t cs)
 |.tup cs=>.tup (killCs t cs)
 |.cnd g v=>.cnd g (kill t v)
 |v=>killC t v
def killO (t:Nat):AO→AO
 |.box cs=>.box (killCs t cs)
 |.rws e cs=>.rws e (killCs t cs)
 |o=>o
def killV (t:Nat) (f:Nat→AV):Nat→AV:=fun s=>kill t (f s)
def killM (t:Nat) (f:Nat→Option AO):Nat→Option AO:=fun s=>(f s).map (killO t)
def semF (k:AK) (d:Nat) (xs:List AV) (objs:Nat→Option AO):Option (Prop × AV × AO):=
 match k,xs with
 |.nilS e,_=>some (True,.own d,.arr e [])
 |.box,[x]=>if ones (cellsOf x) then some (True,.ptr d 0,.box (cellsOf x)) else none
 |.alloc zs,_=>if zs.all (·.oneCell') then some (True,.ptr d 0,.box (zs.map cv)) else none
 |.bsl e sz,xs=>(rowsOf xs).map fun rows=>(∀r∈rows,r.length=sz,.own d,.arr e rows)
 |.app e sz bytes,[.pv .nil,x]=>(rowsIn objs x).map fun rows=>(rows.length*bytes≤140737488355328∧rows.length≤maxLen∧(∀r∈rows,r.length=sz),.own d,.arr e rows)
 | _,_=>none
def semM (k:AK) (xs:List AV) (objs:Nat→Option AO):Option (Prop × Nat × AO):=
 match k,xs with
 |.store none,[.ptr t o,v]=>(boxO (objs t)).bind fun cs=>if oneAV v∧o < cs.length then some (True,t,.box (cs.set o v)) else none
 |.store (some n),[.ptr t o,.agg vs]=>(boxO (objs t)).bind fun cs=>if ones vs∧vs.length=n∧o+n≤cs.length then some (True,t,.box (splice cs o vs)) else none
 |.store none,[.eptr t e i o,.pv p]=>(arrO (objs t)).bind fun r=>if r.1=e∧o < (rowAt r.2 i).length∧oneAV (.pv p) then
   some (0≤i∧i < r.2.length,t,.arr e (r.2.set i.toNat ((rowAt r.2 i).set o p))) else none
 |.store (some n),[.eptr t e i o,.agg vs]=>(arrO (objs t)).bind fun r=>(pvsOf vs).bind fun ps=>if r.1=e∧ones vs∧ps.length=n∧o+n≤(rowAt r.2 i).length then
   some (0≤i∧i < r.2.length,t,.arr e (r.2.set i.toNat (splice (rowAt r.2 i) o ps))) else none
 |.app e sz bytes,[.own t,x]=>(arrO (objs t)).bind fun r=>(rowsIn objs x).bind fun more=>if r.1=e∧t % 1000≠999 then
   some ((r.2.length+more.length)*bytes≤140737488355328∧r.2.length+more.length≤maxLen∧(∀r∈more,r.length=sz),t,.arr e (r.2++more)) else none
 | _,_=>none
def withO {α:Type} (o:Option α) (K : α→Prop):Prop:=
 match o with
 |some x=>K x
 |none=>False
def apick2 (φ ψ:Prop) (c:Bool):AV→AV→Option (Prop × AV)
 |.pv (.bool x),.pv (.bool y)=>some ((c=true→φ)∧(c=false→ψ),.pv (.bool (cond c x y)))
 |.pv (.bool x),_=>some (c=true∧φ,.pv (.bool x))
 | _,.pv (.bool y)=>some (c=false∧ψ,.pv (.bool y))
 | _,_=>none
def boolOf:AV→Option Bool
 |.pv (.bool c)=>some c
 | _=>none
def apick:List AV→Option (Prop × AV)
 | [c,a,b]=>(boolOf (strip c)).bind fun g=>(apick2 (asks a) (asks b) g (strip a) (strip b)).map fun r=>(asks c∧r.1,r.2)
 | _=>none
def addL (os:List (Nat × AO)) (objs:Nat→Option AO):Nat→Option AO:=fun t=>match lookO os t with
 |some o=>some o
 |none=>objs t
inductive Eff where
 |put (v:AV)
 |new (v:AV) (os:List (Nat × AO))
 |upd (t:Nat) (o:AO)
 |app (t:Nat) (o:AO)
def Eff.on (d:Option Nat):Eff→St→St
 |.put v,st=>⟨Ab.put d v st.vars,st.objs⟩
 |.new v os,st=>⟨Ab.put d v st.vars,addL os st.objs⟩
 |.upd t o,st=>⟨Ab.put d .junk st.vars,addO t o st.objs⟩
 |.app t o,st=>⟨Ab.put d (.own t) (killV t st.vars),addO t o (killM t st.objs)⟩
def isOwn:List AV→Bool
 |.own _::_=>true
 | _=>false
def tupOK:AV→Bool
 |.tup vs=>decide (vs.length≤1000)
 | _=>true
def resC:AV→Bool
 |.pv _ | .rp _ | .fr _ _=>true
 | _=>false
def resCs:List AV→Bool
 | []=>true
 |c::cs=>resC c && resCs cs
def res1:AV→Bool
 |.agg cs=>resCs cs
 |v=>resC v
def resVs:List AV→Bool
 | []=>true
 |c::cs=>res1 c && resVs cs
def resOK:AV→Bool
 |.tup vs=>decide (vs.length≤900) && resVs vs
 |v=>res1 v
def trC:AV→Bool
 |.bx _ | .mf _=>true
 |.agg cs=>cs.any fun c=>match c with | .bx _ | .mf _=>true | _=>false
 | _=>false
def trR:AV→Bool
 |.tup vs=>vs.any trC
 |v=>trC v
def pool8 (d:Nat):List Nat:=[d,d+1000,d+2000,d+3000,d+4000,d+5000,d+6000,d+7000]
def flatR (r:AV):Prop:=if trR r=true then flatG 5 r else flat r
def newO (d:Nat) (r:AV):List (Nat × AO):=if trR r=true then (((num 5 false r ([],pool8 d)).map (·.2.1)).getD []) else frTags d r
def newV (d:Nat) (r:AV):AV:=if trR r=true then (((num 5 false r ([],pool8 d)).map (·.1)).getD .junk) else mapTop (tagC d) r
def resR (d:Nat) (r:AV):Bool:=if trR r=true then (num 5 false r ([],pool8 d)).isSome else resOK r
def ConR (P:Program) (f:FuncId) (ys:List AV) (r:AV):Prop:=(trR r=true→ConG P f ys (.clo 0 [r]))∧(trR r=false→Con P f [] ys [] r)
abbrev Tab:=FuncId→List AV→Option (Prop × AV)
def TabOK (P:Program) (Γ:Tab):Prop:=∀f ys φ r,Γ f ys=some (φ,r)→φ→(f < 1000000∧Con P f [] ys [] r)∨(P.funcs.size≤1000000∧1000000≤f∧f < 2000000∧(ys=[.junk]∨ConU P (f - 1000000) ys r))∨(P.funcs.size≤1000000∧2000000≤f∧f < 3000000∧(ys=[.junk]∨ConG P (f - 2000000) ys r))∨(P.funcs.size≤1000000∧3000000≤f∧ConG P (f - 3000000) ys (.clo 0 [r]))
def gtO:Option (Prop × AV)→Option (Prop × AV)→Option (Prop × AV)
 |some x,_=>some (x.1∧trR x.2=false,x.2)
 |none,y=>y.map fun x=>(x.1∧trR x.2=true,x.2)
def gt (Γ:Tab) (f:FuncId) (ys:List AV):Option (Prop × AV):=gtO (Γ f ys) (Γ (f+3000000) ys)
theorem no3 {n f:Nat} (h : 3000000≤f) (hn:n≤1000000):¬ f < n:=by omega
theorem TabOK.con {P:Program}{Γ:Tab} (h:TabOK P Γ) {f:FuncId} (hf:f < P.funcs.size) {ys:List AV}{φ:Prop}{r:AV} (hr:gt Γ f ys=some (φ,r)) (hφ : φ):ConR P f ys r:=by
 unfold gt at hr
 cases hg : Γ f ys with
 |some x=>
  rw [hg]at hr
  have hr:some (x.1∧trR x.2=false,x.2)=some (φ,r):=hr
  simp only [Option.some.injEq,Prod.mk.injEq]at hr
  obtain⟨rfl,rfl⟩:=hr
  refine⟨fun e=>absurd (hφ.2.symm.trans e) Bool.false_ne_true,fun _=>?_⟩
  rcases h f ys x.1 x.2 hg hφ.1 with ⟨_,h⟩ | ⟨h,h2,_⟩ | ⟨h,h2,_⟩ | ⟨h,h2,_⟩
  ·exact h
  ·exact absurd hf (Nat.not_lt.2 (Nat.le_trans h h2))
  ·exact absurd hf (Nat.not_lt.2 (Nat.le_trans h (Nat.le_trans (by decide) h2)))
  ·exact absurd hf (no3 h2 h)
 |none=>
  rw [hg]at hr
  obtain⟨x,hx,hr⟩:=Option.map_eq_some_iff.1 (show (Γ (f+3000000) ys).map (fun x=>(x.1∧trR x.2=true,x.2))=some (φ,r) from hr)
  simp only [Prod.mk.injEq]at hr
  obtain⟨rfl,rfl⟩:=hr
  refine⟨fun _=>?_,fun e=>absurd (e.symm.trans hφ.2) Bool.false_ne_true⟩
  rcases h (f+3000000) ys x.1 x.2 hx hφ.1 with ⟨h,_⟩ | ⟨_,_,h,_⟩ | ⟨_,_,h,_⟩ | ⟨_,_,h⟩
  ·exact absurd h (Nat.not_lt.2 (Nat.le_trans (by decide) (Nat.le_add_left 3000000 f)))
  ·exact absurd h (Nat.not_lt.2 (Nat.le_trans (by decide) (Nat.le_add_left 3000000 f)))
  ·exact absurd h (Nat.not_lt.2 (Nat.le_add_left 3000000 f))
  ·rw [show f+3000000 - 3000000=f from Nat.add_sub_cancel _ _]at h;exact h
def semCall (P:Program) (Γ:Tab) (d:Option Nat) (f:FuncId) (xs:List AV) (objs:Nat→Option AO) (C:Eff→Prop):Prop:=
 withO d fun d=>asksL xs∧withO (reis objs (xs.map strip)) fun ys=>
  withO (gt Γ f ys) fun x=>x.1∧(pures (xs.map strip)=true∨flatR x.2)∧(∀y∈newO d x.2,objs y.1=none)∧resR d x.2=true∧C (.new (newV d x.2) (newO d x.2))
def semK (P:Program) (Γ:Tab) (d:Option Nat) (k:AK) (xs:List AV) (objs:Nat→Option AO) (C:Eff→Prop):Prop:=
 match k with
 |.mov=>withO xs.head? fun x=>xs.length=1∧C (.put x)
 |.pick=>withO (apick xs) fun x=>x.1∧C (.put x.2)
 |.nilS _ | .box | .alloc _ | .bsl _ _=>withO d fun d=>asksL xs∧withO (semF k d (xs.map strip) objs) fun x=>x.1∧objs d=none∧C (.new x.2.1 [(d,x.2.2)])
 |.store _=>asksL xs∧withO (semM k (xs.map strip) objs) fun x=>x.1∧C (.upd x.2.1 x.2.2)
 |.app _ _ _=>asksL xs∧if isOwn (xs.map strip) then withO (semM k (xs.map strip) objs) fun x=>x.1∧C (.app x.2.1 x.2.2)
   else withO d fun d=>withO (semF k d (xs.map strip) objs) fun x=>x.1∧objs d=none∧C (.new x.2.1 [(d,x.2.2)])
 |.call f=>semCall P Γ d f xs objs C
 | _=>asksL xs∧withO (semQ k (xs.map strip) objs) fun x=>x.1∧C (.put x.2)
def semGc (Γ:Tab) (c:Bool) (f:FuncId) (xs:List AV) (objs:Nat→Option AO) (C:Eff→Prop):Prop:=
 withO (reis objs (xs.map strip)) fun ys=>withO (gt Γ f ys) fun x=>(c=true→asksL xs∧x.1)∧flat x.2∧frs x.2=[]∧resOK x.2=true∧C (.put (.cnd c x.2))
def unfrC:AV→AV
 |.fr _ rows=>.pv (.ro rows)
 |v=>v
def unfr1:AV→AV
 |.agg cs=>.agg (cs.map unfrC)
 |v=>unfrC v
def unfr:AV→AV
 |.tup vs=>.tup (vs.map unfr1)
 |v=>unfr1 v
def voidC:Option (List (List PV))→AV
 |some rows=>.cnd false (.pv (.ro rows))
 |none=>.junk
def voidB (xs:List AV):AV:=voidC (rowsOf (xs.map strip))
def semG (P:Program) (Γ:Tab) (c:Bool) (d:Option Nat) (k:AK) (xs:List AV) (objs:Nat→Option AO) (C:Eff→Prop):Prop:=
 match k with
 |.mov=>withO xs.head? fun x=>xs.length=1∧C (.put (.cnd c x))
 |.pick=>withO (apick xs) fun x=>(c=true→x.1)∧C (.put (.cnd c x.2))
 |.bsl _ _=>(c=true→semK P Γ d k xs objs C)∧(c=false→C (.put (voidB xs)))
 |.nilS _ | .box | .alloc _ | .store _ | .app _ _ _=>(c=true→semK P Γ d k xs objs C)∧(c=false→C (.put .junk))
 |.call f=>withO (reis objs (xs.map strip)) fun ys=>withO (gt Γ f ys) fun x=>if (!trR x.2 && (frs x.2).isEmpty)=true then (c=true→asksL xs∧x.1)∧flat x.2∧frs x.2=[]∧resOK x.2=true∧C (.put (.cnd c x.2)) else (c=true→semK P Γ d k xs objs C)∧(c=false→C (.put (.cnd false (unfr x.2))))
 | _=>withO (semQ k (xs.map strip) objs) fun x=>(c=true→asksL xs∧x.1)∧C (.put (.cnd c x.2))
def condB:Bool→Option Bool→Option Bool
 |false,_=>some false
 |true,o=>o
def guardB:AV→Bool→Option Bool
 |.pv (.bool b),want=>some (if want then b else !b)
 |.cnd c v,want=>condB c (guardB v want)
 | _,_=>none
def noT (un:List Nat) (t:Nat):Prop:=un.contains (t % 1000)=false
def noMC (un:List Nat):AV→Prop
 |.own t | .ptr t _ | .eptr t _ _ _ | .sub t _ _ _=>noT un t
 | _=>True
def noMCs (un:List Nat):List AV→Prop
 | []=>True
 |c::cs=>noMC un c∧noMCs un cs
def noMP (un:List Nat) (objs:Nat→Option AO):AV→Prop
 |.ptr t _=>noT un t∧noMCs un ((boxO (objs t)).getD [])
 |.agg cs=>noMCs un cs
 |v=>noMC un v
def noMPs (un:List Nat) (objs:Nat→Option AO):List AV→Prop
 | []=>True
 |c::cs=>noMP un objs c∧noMPs un objs cs
def noM (un:List Nat) (objs:Nat→Option AO):AV→Prop
 |.clo _ cs=>noMPs un objs cs
 |v=>noMP un objs v
def noMs (un:List Nat) (objs:Nat→Option AO):List AV→Prop
 | []=>True
 |c::cs=>noM un objs c∧noMs un objs cs
def tgOK:Option Nat→Eff→Prop
 |none,_=>True
 |some s,.upd t _=>t=s
 |some _,_=>False
def appOK (un:List Nat):Eff→Prop
 |.app t _=>un.contains (t % 1000+1000)=false
 | _=>True
def tgU (un:List Nat) (tg:Option Nat) (e:Eff):Prop:=tgOK tg e∧appOK un e
def semI (P:Program) (Γ:Tab) (i:AI) (vars:Nat→AV) (objs:Nat→Option AO) (C:Eff→Prop):Prop:=
 match i.g with
 |none=>semK P Γ i.d i.k (i.xs.map (ev vars)) objs C
 |some (s,want)=>withO (guardB (vars s) want) fun c=>semG P Γ c i.d i.k (i.xs.map (ev vars)) objs C
def stepI (P:Program) (Γ:Tab) (i:AI) (K:St→Prop) (st:St):Prop:=
 (i.un=[]∨noMs i.un st.objs ((i.xs.map (ev st.vars)).map strip))∧semI P Γ i st.vars st.objs fun e=>tgU i.un i.tg e∧K (e.on i.d st)
def isFn (P:Program) (f:FuncId):Bool:=
 match P.funcs[f]? with
 | some fn => fn.name != "runtime.NumGoroutine" && fn.body.isSome
 |none=>false
def cloOf:List AV→Option (FuncId × List AV)
 |.clo f caps::args=>some (f,args++caps)
 |.pv (.val v)::args=>(funcV v).map fun f=>(f,args)
 | _=>none
where funcV:Value→Option FuncId
 |.func (.func f) ⟨[]⟩ ⟨[]⟩=>some f
 | _=>none
def hasJ:List AV→Bool
 | []=>false
 |.junk::_=>true
 |.pv (.val _)::_=>true
 |.rp []::_=>true
 | _::l=>hasJ l
def isF:Option Bool→Bool
 |some false=>true
 | _=>false
def pickJ:Bool→Bool→Prop→Prop→Prop
 |false,_,A,_=>A
 |true,f,A,B=>if f=true then B else A
def sh (t:Nat) (e0:TypeId) (rows:List (List PV)):AV→AV
 |.own s=>if s=t then .pv (.ro rows) else .own s
 |.sub s e lo hi=>if s=t then (if e=e0 then .pv (.ro ((rows.take hi).drop lo)) else .junk) else .sub s e lo hi
 |v=>kill t v
def shV (t:Nat) (e0:TypeId) (rows:List (List PV)) (f:Nat→AV):Nat→AV:=fun s=>sh t e0 rows (f s)
def shM (t:Nat) (f:Nat→Option AO):Nat→Option AO:=fun s=>if s=t then none else (f s).map (killO t)
def shC (t:Nat) (e0:TypeId) (rows:List (List PV)):AV→AV
 |.own s=>if s=t then .pv (.ro rows) else .own s
 |.sub s e lo hi=>if s=t then (if e=e0 then .pv (.ro ((rows.take hi).drop lo)) else .junk) else .sub s e lo hi
 |c=>killC t c
def shCs (t:Nat) (e0:TypeId) (rows:List (List PV)):List AV→List AV
 | []=>[]
 |c::cs=>shC t e0 rows c::shCs t e0 rows cs
def sh2 (t:Nat) (e0:TypeId) (rows:List (List PV)):AV→AV
 |.agg cs=>.agg (shCs t e0 rows cs)
 |v=>sh t e0 rows v
def shO (t:Nat) (e0:TypeId) (rows:List (List PV)):AO→AO
 |.box cs=>.box (shCs t e0 rows cs)
 |o=>killO t o
def shW (t:Nat) (e0:TypeId) (rows:List (List PV)) (f:Nat→AV):Nat→AV:=fun s=>sh2 t e0 rows (f s)
def shMb (t:Nat) (e0:TypeId) (rows:List (List PV)) (f:Nat→Option AO):Nat→Option AO:=fun s=>if s=t then none else (f s).map (shO t e0 rows)
def shareO (st:St):AV→St
 |.own t=>match arrO (st.objs t) with
  |some r=>⟨shW t r.1 r.2 st.vars,shMb t r.1 r.2 st.objs⟩
  |none=>st
 | _=>st
def shareCs:St→List AV→St
 |st,[]=>st
 |st,c::cs=>shareCs (shareO st c) cs
def share1 (st:St):AV→St
 |.agg cs=>shareCs st cs
 |v=>shareO st v
def shareAll (st:St):List AV→St
 | []=>st
 |v::l=>shareAll (share1 st v) l
def nilP:PV→PV
 |.nil=>.ro []
 |p=>p
def nilC:AV→AV
 |.pv p=>.pv (nilP p)
 |c=>c
def nilCs:List AV→List AV
 | []=>[]
 |c::cs=>nilC c::nilCs cs
def nilV:AV→AV
 |.agg cs=>.agg (nilCs cs)
 |v=>nilC v
def nilO:AO→AO
 |.box cs=>.box (nilCs cs)
 |o=>o
def nilRo (st:St):St:=⟨fun s=>nilV (st.vars s),fun s=>(st.objs s).map nilO⟩
def mpvO:Option AO→Option (List (PV × PV))
 |some (.mpv es)=>some es
 | _=>none
def shP (t:Nat) (es:List (PV × PV)):AV→AV
 |.own s=>if s=t then .pv (.mv es) else .own s
 |v=>kill t v
def pubM (t:Nat) (st:St):St:=match mpvO (st.objs t) with
 |some es=>⟨fun s=>shP t es (st.vars s),shM t st.objs⟩
 |none=>st
def sharT1 (t:Nat) (st:St):St:=if t=999996 then nilRo st else if 2000000≤t then pubM (t - 2000000) st else share1 st (.own t)
def shareT:List Nat→St→St
 | [],st=>st
 |t::ts,st=>shareT ts (sharT1 t st)
def roC:AV→Bool
 |.pv (.ro _) | .pv (.mp _) | .pv (.mv _) | .pv (.pt _) | .rp _=>true
 | _=>false
def roCs:List AV→Bool
 | []=>false
 |c::cs=>roC c || roCs cs
def ro1:AV→Bool
 |.agg cs=>roCs cs
 |v=>roC v
def roVs:List AV→Bool
 | []=>false
 |c::cs=>ro1 c || roVs cs
def roR:AV→Bool
 |.tup vs=>roVs vs
 |v=>ro1 v
def dropT (t:Nat) (st:St):St:=match arrO (st.objs t) with
 |some _=>⟨killV t st.vars,shM t st.objs⟩
 |none=>st
def stepS (P:Program) (Γ:Tab) (d:Option Nat) (f:FuncId) (xs:List Operand) (K:St→Prop) (st:St):Prop:=
 semCall P Γ d f (xs.map (ev st.vars)) st.objs fun e=>K (e.on d st)
def stepF (P:Program) (Γ:Tab) (i:AI) (f:FuncId) (K:St→Prop) (st:St):Prop:=
 withO (reis st.objs ((i.xs.map (ev st.vars)).map strip)) fun ys=>withO (gt Γ f ys) fun x=>
  if (roR x.2 && !pures ((i.xs.map (ev st.vars)).map strip))=true then stepS P Γ i.d f i.xs K (shareAll st ((i.xs.map (ev st.vars)).map strip)) else stepI P Γ i K st
def frC:AV→Bool
 |.pv (.ro _) | .pv (.mp _) | .pv (.mv _) | .pv (.pt _) | .rp _ | .fr _ _ | .bx _ | .mf _=>true
 | _=>false
def frCs:List AV→Bool
 | []=>false
 |c::cs=>frC c || frCs cs
def fr1:AV→Bool
 |.agg cs=>frCs cs
 |v=>frC v
def frVs:List AV→Bool
 | []=>false
 |c::cs=>fr1 c || frVs cs
def frR:AV→Bool
 |.tup vs=>frVs vs
 |v=>fr1 v
def offC (t:Nat):AV→Prop
 |.own s | .ptr s _ | .eptr s _ _ _ | .sub s _ _ _=>s≠t
 |.pv _ | .rp _ | .junk=>True
 |.clo _ []=>True
 | _=>False
def offCs (t:Nat):List AV→Prop
 | []=>True
 |c::cs=>offC t c∧offCs t cs
def offV (t:Nat):AV→Prop
 |.agg cs | .clo _ cs=>offCs t cs
 |v=>offC t v
def offVs (t p:Nat):List AV→Prop
 | []=>True
 |v::vs=>(match p with | 0=>offVs0 vs | p+1=>offV t v∧offVs t p vs)
where offVs0:List AV→Prop
 | []=>True
 |v::vs=>offV t v∧offVs0 vs
def handed (objs:Nat→Option AO) (k:Nat):AV→Option (Nat × TypeId × List (List PV))
 |.own t=>(arrO (objs t)).map fun r=>(t,r.1,r.2)
 |.sub t e 0 hi=>if k=998 then (arrO (objs t)).bind fun r=>if r.1=e then some (t,e,r.2.take hi) else none else none
 | _=>none
def markA (k:Nat) (e:TypeId) (rows:List (List PV)):AV:=if k=998 then .fr e rows else .tup [.fr e rows]
def reisU (objs:Nat→Option AO) (m:AV):Nat→List AV→Option (List AV)
 | _,[]=>some []
 | 0,_::vs=>(reis objs vs).map (m :: ·)
 |p+1,v::vs=>(rei objs v).bind fun y=>(reisU objs m p vs).map (y :: ·)
def puresU:Nat→List AV→Bool
 | _,[]=>true
 | 0,_::vs=>pures vs
 |p+1,v::vs=>pure1 v && puresU p vs
def flatO:List (Nat × AO)→Prop
 | []=>True
 | (_,.arr _ rows)::l=>flatRows rows∧flatO l
 | _::l=>flatO l
def objsU (t:Nat) (x:AV) (objs:Nat→Option AO):Nat→Option AO:=
 match outO x with
 | (_,o)::_=>addO t o objs
 | []=>shM t objs
def varsU (t:Nat) (x:AV) (vars:Nat→AV):Nat→AV:=
 match outO x with
 | _::_=>vars
 | []=>killV t vars
def isPtr:AV→Option (Nat × Nat)
 |.ptr p k=>if k=998∨k=999∨k=997∨k=996 then some (p,k) else none
 | _=>none
def flagU (Γ:Tab) (f:FuncId):Option (Nat × Nat):=(Γ (f+1000000) [.junk]).bind fun x=>isPtr x.2
def stepU (P:Program) (Γ:Tab) (d:Option Nat) (f:FuncId) (xs:List AV) (p k:Nat) (K:St→Prop) (st:St):Prop:=
 withO d fun d=>asksL xs∧withO ((xs.map strip)[p]?) fun X=>withO (handed st.objs k X) fun T=>
  offVs T.1 p (xs.map strip)∧withO (reisU (shM T.1 st.objs) (markA k T.2.1 T.2.2) p (xs.map strip)) fun ys=>withO (Γ (f+1000000) ys) fun x=>
   x.1∧(puresU p (xs.map strip)=true∨(flat (outR x.2)∧flatO (outO x.2)))∧(∀y∈frTags d (outR x.2),st.objs y.1=none)∧resOK (outR x.2)=true ∧
    K ⟨put (some d) (mapTop (tagC d) (outR x.2)) (varsU T.1 x.2 st.vars),addL (frTags d (outR x.2)) (objsU T.1 x.2 st.objs)⟩
def reisN (objs:Nat→Option AO):Nat→List AV→Option (List AV)
 | _,[]=>some []
 | 0,.pv .nil::vs=>(reis objs vs).map (.pv .nil :: ·)
 | 0,_::_=>none
 |p+1,v::vs=>(rei objs v).bind fun y=>(reisN objs p vs).map (y :: ·)
def stepN (P:Program) (Γ:Tab) (d:Option Nat) (f:FuncId) (xs:List AV) (p:Nat) (K:St→Prop) (st:St):Prop:=
 withO d fun d=>asksL xs∧withO (reisN st.objs p (xs.map strip)) fun ys=>withO (Γ (f+1000000) ys) fun x=>
  x.1∧(pures (xs.map strip)=true∨flat x.2)∧(∀y∈frTags d x.2,st.objs y.1=none)∧resOK x.2=true∧K ⟨put (some d) (mapTop (tagC d) x.2) st.vars,addL (frTags d x.2) st.objs⟩
def ksOf:AV→Option (List Nat)
 |.rp l=>some (l.map fun p=>match p with | .int _ n=>n.toNat | _=>0)
 | _=>none
def flagG (Γ:Tab) (f:FuncId):Option (List Nat):=(Γ (f+2000000) [.junk]).bind fun x=>ksOf x.2
def poolG (d:Nat) (T W:List Nat):List Nat:=W.filter (fun t=>t % 1000 != 999)++[d,d+1000,d+2000,d+3000,d+4000,d+5000,d+6000,d+7000].filter fun t=>!T.contains t
def stepG3 (Γ:Tab) (d f:Nat) (ks:List Nat) (xs:List AV) (T Q W:List Nat) (K:St→Prop) (st:St) (ys:List AV):Prop:=
 withO (Γ (f+2000000) ys) fun x=>x.1∧(puresG T ks xs=true∨∀y∈outG x.2++[retG x.2],flatG 5 y) ∧
  withO (numW (num 5 true) (outG x.2) (Q,poolG d T W)) fun o=>o.1=lentG ks xs∧withO (num 5 false (retG x.2) o.2.2) fun r=>
   (∀p∈o.2.1++r.2.1,T.contains p.1=true∨st.objs p.1=none)∧K ⟨put (some d) r.1 (wipeV W st.vars),addL (o.2.1++r.2.1) (wipeM T W st.objs)⟩
def stepG2 (Γ:Tab) (d f:Nat) (ks:List Nat) (xs:List AV) (T Q W:List Nat) (K:St→Prop) (st:St):Prop:=
 Q.Nodup∧withO (ysG st.objs (wipeM T T st.objs) T ks xs) fun ys=>stepG3 Γ d f ks xs T Q W K st ys
def stepG1 (Γ:Tab) (d f:Nat) (ks:List Nat) (xs:List AV) (T Q:List Nat) (K:St→Prop) (st:St):Prop:=
 T.Nodup∧(∀t∈Q,t∈T)∧stepG2 Γ d f ks xs T Q (T.filter fun t=>!Q.contains t) K st
def stepG (Γ:Tab) (d:Option Nat) (f:FuncId) (xs:List AV) (ks:Option (List Nat)) (K:St→Prop) (st:St):Prop:=
 withO d fun d=>asksL xs∧withO ks fun ks=>stepG1 Γ d f ks (xs.map strip) (tagsG st.objs ks (xs.map strip)) ((lentG ks (xs.map strip)).flatMap tops) K st
def stepHF (P:Program) (Γ:Tab) (i:AI) (f:FuncId) (s:Nat) (w:Bool) (o:Option (Nat × Nat)) (K:St→Prop) (st:St):Prop:=
 match o with
 |some (_,k)=>if k=996 then withO (guardB (st.vars s) w) fun c=>if c=true then stepG Γ i.d f (i.xs.map (ev st.vars)) (flagG Γ f) K st else K ((Eff.put (.cnd false .junk)).on i.d st) else False
 |none=>pickJ (hasJ ((i.xs.map (ev st.vars)).map strip)) (isF (guardB (st.vars s) w)) (withO (guardB (st.vars s) w) fun c=>withO (reis st.objs ((i.xs.map (ev st.vars)).map strip)) fun ys=>withO (gt Γ f ys) fun x=>
   if frR x.2=true then (if c=true then stepF P Γ ⟨i.d,i.k,i.xs,none,[],none⟩ f K st else K ((Eff.put (.cnd false .junk)).on i.d st)) else stepI P Γ i K st) (K ((Eff.put (.cnd false .junk)).on i.d st))
def stepH (P:Program) (Γ:Tab) (i:AI) (f:FuncId) (s:Nat) (w:Bool) (K:St→Prop) (st:St):Prop:=stepHF P Γ i f s w (flagU Γ f) K st
def stepCF (P:Program) (Γ:Tab) (d:Option Nat) (f:FuncId) (ys:List AV) (o:Option (Nat × Nat)) (K:St→Prop) (st:St):Prop:=
 match o with
 |some (_,k)=>if k=996 then stepG Γ d f ys (flagG Γ f) K st else False
 |none=>semCall P Γ d f ys st.objs fun e=>K (e.on d st)
def stepCgF (P:Program) (Γ:Tab) (d:Option Nat) (f:FuncId) (ys:List AV) (A:Prop) (c:Bool) (o:Option (Nat × Nat)) (K:St→Prop) (st:St):Prop:=
 match o with
 |some (_,k)=>if k=996 then (if c=true then A∧stepG Γ d f ys (flagG Γ f) K st else K ((Eff.put (.cnd false .junk)).on d st)) else False
 |none=>semGc Γ c f ys st.objs fun e=>(c=true→A)∧K (e.on d st)
def stepCg (P:Program) (Γ:Tab) (d:Option Nat) (xs:List AV) (s:Nat) (w:Bool) (K:St→Prop) (st:St):Prop:=
 withO (guardB (st.vars s) w) fun c=>withO (cloOf (xs.map strip)) fun x=>isFn P x.1=true∧stepCgF P Γ d x.1 x.2 (asksL xs) c (flagU Γ x.1) K st
def stepC (P:Program) (Γ:Tab) (d:Option Nat) (xs:List AV) (g:Option (Nat × Bool)) (K:St→Prop) (st:St):Prop:=
 match g with
 |none=>(asksL xs∧withO (cloOf (xs.map strip)) fun x=>isFn P x.1=true∧stepCF P Γ d x.1 x.2 (flagU Γ x.1) K st)
 |some (s,w)=>pickJ (hasJ (xs.map strip)) (isF (guardB (st.vars s) w)) (stepCg P Γ d xs s w K st) (K ((Eff.put (.cnd false .junk)).on d st))
def allPV:List AV→Bool
 | []=>true
 |.pv _::l=>allPV l
 | _=>false
def ldT (objs:Nat→Option AO):AV→Option Nat
 |.ptr t _=>(boxO (objs t)).bind fun cs=>if allPV cs=true then some t else none
 | _=>none
def ldsOK (T:List Nat) (st:St):List Nat→Prop
 | []=>True
 |s::l=>withO (ldT st.objs (st.vars s)) (fun t=>T.contains t=false)∧ldsOK T st l
def tagsK (ks:Option (List Nat)) (objs:Nat→Option AO) (xs:List AV):List Nat:=
 match ks with
 |some ks=>tagsG objs ks xs
 |none=>[]
def stepM (P:Program) (Γ:Tab) (i:AI) (f:FuncId) (o:Option (Nat × Nat)) (K:St→Prop) (st:St):Prop:=
 match o with
 |some (p,k)=>if k=998 then i.un=[]∧stepU P Γ i.d f (i.xs.map (ev st.vars)) p k K st else if k=996 then ldsOK (tagsK (flagG Γ f) st.objs ((i.xs.map (ev st.vars)).map strip)) st i.un∧stepG Γ i.d f (i.xs.map (ev st.vars)) (flagG Γ f) K st else False
 |none=>stepI P Γ ⟨i.d,i.k,i.xs,i.g,[],none⟩ K st
def stepD (P:Program) (Γ:Tab) (i:AI) (K:St→Prop) (st:St):Prop:=
 match i.k,i.tg,i.g with
 |.call f,some 999999,none=>stepM P Γ i f (flagU Γ f) K st
 |.calv,some 999999,none=>stepC P Γ i.d (i.xs.map (ev st.vars)) none K st
 | _,_,_=>stepI P Γ i K st
def steps (P:Program) (Γ:Tab) (is:List AI) (K:St→Prop) (st:St):Prop:=
 match is with
 | []=>K st
 |i::is=>stepD P Γ i (fun st'=>steps P Γ is K st') st
def stepFU (P:Program) (Γ:Tab) (i:AI) (f:FuncId) (o:Option (Nat × Nat)) (K:St→Prop) (st:St):Prop:=
 match o with
 |some (p,k)=>if k=997 then stepN P Γ i.d f (i.xs.map (ev st.vars)) p K st else if k=996 then stepG Γ i.d f (i.xs.map (ev st.vars)) (flagG Γ f) K st else stepU P Γ i.d f (i.xs.map (ev st.vars)) p k K st
 |none=>stepF P Γ i f K st
def clrO (objs:Nat→Option AO) (e:TypeId) (zs:List Value):AV→Option (Nat × AO)
 |.own t=>(arrO (objs t)).bind fun r=>if r.1=e then some (t,.arr e (List.replicate r.2.length (zs.map cvp))) else none
 |.sub t e1 lo hi=>(arrO (objs t)).bind fun r=>if r.1=e∧e1=e then some (t,.arr e (r.2.take lo++List.replicate (hi - lo) (zs.map cvp)++r.2.drop hi)) else none
 | _=>none
def stepClr (d:Option Nat) (e:TypeId) (sz:Nat) (zs:List Value) (xs:List AV) (K:St→Prop) (st:St):Prop:=
 asksL xs∧withO ((xs.map strip).head?) fun X=>withO (clrO st.objs e zs X) fun r=>K ((Eff.upd r.1 r.2).on d st)
def stepJ (P:Program) (Γ:Tab) (i:AI) (K:St→Prop) (st:St):Prop:=
 match i.g with
 |none=>stepI P Γ i K st
 |some (s,w)=>pickJ (hasJ ((i.xs.map (ev st.vars)).map strip)) (isF (guardB (st.vars s) w)) (stepI P Γ i K st) (K ((Eff.put (.cnd false .junk)).on i.d st))
def mapO:Option AO→Option (List (PV × AV))
 |some (.map es)=>some es
 | _=>none
def exAdd (d:Option Nat) (xs ys:List AV) (K:St→Prop) (st:St):Prop:=
 match ys with
 | [.pv (.int .u64 a),.pv (.int .u64 b),.pv (.int .u64 c)]=>asksL xs∧(0≤a∧0≤b∧0≤c∧c≤1)∧K ⟨put d (.tup [.pv (.int .u64 ((a+b+c) % 18446744073709551616)),.pv (.int .u64 ((a+b+c) / 18446744073709551616))]) st.vars,st.objs⟩
 | _=>False
def exAppz (d:Option Nat) (e:TypeId) (bytes:Nat) (zs:List Value) (xs ys:List AV) (K:St→Prop) (st:St):Prop:=
 match ys with
 | [.pv .nil,.pv (.int .i64 n)]=>withO d fun d=>asksL xs∧(0≤n∧n≤140737488355328∧n.toNat*bytes≤140737488355328)∧st.objs d=none∧K ⟨put (some d) (.own d) st.vars,addL [(d,.arr e (List.replicate n.toNat (zs.map cvp)))] st.objs⟩
 | _=>False
def exMks (d:Option Nat) (e:TypeId) (bytes:Nat) (zs:List Value) (xs ys:List AV) (K:St→Prop) (st:St):Prop:=
 match ys with
 | [.pv (.int _ n),.pv (.int _ c)]=>withO d fun d=>asksL xs∧(c=n∧0≤n∧n≤140737488355328∧n.toNat*bytes≤140737488355328)∧st.objs d=none∧K ⟨put (some d) (.own d) st.vars,addL [(d,.arr e (List.replicate n.toNat (zs.map cvp)))] st.objs⟩
 | _=>False
def exBslk (d:Option Nat) (e:TypeId) (xs ys:List AV) (K:St→Prop) (st:St):Prop:=
 withO d fun d=>asksL xs∧ones ys=true∧st.objs d=none∧K ⟨put (some d) (.own d) st.vars,addL [(d,.rws e ys)] st.objs⟩
def fstOwn:List AV→Option (Nat × Nat)
 | []=>none
 |c::l=>match c with
  |.own q=>some (0,q)
  | _=>(fstOwn l).map fun r=>(r.1+1,r.2)
def exRst (d:Option Nat) (X Y:AV) (xs:List AV) (K:St→Prop) (st:St):Prop:=
 match X,Y with
 |.eptr t e i o,.own q=>asksL xs∧withO (arrO (st.objs t)) fun r=>(r.1=e∧o=0)∧(0≤i∧i < r.2.length∧(rowAt r.2 i).length=1) ∧
   K ⟨put d .junk st.vars,addO t (.rws e ((r.2.map fun x=>AV.pv (x.getD 0 .nil)).set i.toNat (.own q))) st.objs⟩
 | _,_=>False
def exPubk (d:Option Nat) (X:AV) (xs:List AV) (K:St→Prop) (st:St):Prop:=
 match X with
 |.own t=>asksL xs∧withO (rwsO (st.objs t)) fun r=>withO (fstOwn r.2) fun j=>withO (arrO (st.objs j.2)) fun s=>
   withO (pvsOf (r.2.set j.1 (.pv (.ro s.2)))) fun ps=>K ⟨put d (.own t) (shV j.2 s.1 s.2 st.vars),addO t (.arr r.1 (ps.map fun p=>[p])) (shM j.2 st.objs)⟩
 | _=>False
def itrO:Option AO→Option (List (PV × PV) × Option (PV × PV))
 |some (.itr rem cur)=>some (rem,cur)
 | _=>none
def putV (k v:PV):List (PV × PV)→List (PV × PV)
 | []=>[(k,v)]
 |e::l=>if eqP k e.1=true then (k,v)::l else e::putV k v l
def delV (k:PV):List (PV × PV)→List (PV × PV)
 | []=>[]
 |e::l=>if eqP k e.1=true then l else e::delV k l
def isNilP:AV→Option Bool
 |.ptr _ _ | .eptr _ _ _ _ | .rp _ | .pv (.pt _)=>some false
 |.pv (.val v)=>match v with
  |.pointer none=>some true
  | _=>none
 | _=>none
def exPuv (d:Option Nat) (s:Nat) (X Y Z:AV) (xs:List AV) (K:St→Prop) (st:St):Prop:=
 match X,Y,Z with
 |.own t,.pv k,.pv v=>asksL xs∧withO (mpvO (st.objs t)) fun es=>srt k=s∧keysV s es∧K ⟨put d .junk st.vars,addO t (.mpv (putV k v es)) st.objs⟩
 | _,_,_=>False
def mvOf (objs:Nat→Option AO):AV→Option (List (PV × PV))
 |.own t=>mpvO (objs t)
 |.pv (.mv es)=>some es
 | _=>none
def exGev (d:Option Nat) (s:Nat) (z:Value) (ok:Bool) (X Y:AV) (xs:List AV) (K:St→Prop) (st:St):Prop:=
 match Y with
 |.pv k=>asksL xs∧withO (mvOf st.objs X) fun es=>z.oneCell'=true∧srt k=s∧keysV s es∧K ⟨put d (gotV z ok (getV k es)) st.vars,st.objs⟩
 | _=>False
def exDlv (d:Option Nat) (s:Nat) (X Y:AV) (xs:List AV) (K:St→Prop) (st:St):Prop:=
 match X,Y with
 |.own t,.pv k=>asksL xs∧withO (mpvO (st.objs t)) fun es=>srt k=s∧keysV s es∧K ⟨put d .junk st.vars,addO t (.mpv (delV k es)) st.objs⟩
 | _,_=>False
def exRng (d:Option Nat) (X:AV) (xs:List AV) (K:St→Prop) (st:St):Prop:=
 match X with
 |.pv (.mv es)=>withO d fun d=>asksL xs∧st.objs d=none∧K ⟨put (some d) (.ptr d 0) st.vars,addL [(d,.itr es none)] st.objs⟩
 | _=>False
def exNxt (d:Option Nat) (X:AV) (xs:List AV) (K:St→Prop) (st:St):Prop:=
 match X with
 |.ptr t 0=>asksL xs∧withO (itrO (st.objs t)) fun r=>(r.1=[]→K ⟨put d (.tup [.pv (.bool false)]) st.vars,st.objs⟩) ∧
   ∀(e:PV × PV) (l m:List (PV × PV)),r.1=l++e::m→K ⟨put d (.tup [.pv (.bool true),.pv e.1,.pv e.2]) st.vars,addO t (.itr (l++m) (some e)) st.objs⟩
 | _=>False
def exEnt (d:Option Nat) (X:AV) (xs:List AV) (K:St→Prop) (st:St):Prop:=
 match X with
 |.ptr t 0=>asksL xs∧withO (itrO (st.objs t)) fun r=>withO r.2 fun e=>K ⟨put d (.tup [.pv e.1,.pv e.2]) st.vars,st.objs⟩
 | _=>False
def exMore (d:Option Nat) (x:XK) (xs ys:List AV) (K:St→Prop) (st:St):Prop:=
 match x,ys with
 |.rst,[X,Y]=>exRst d X Y xs K st
 |.pubk,[X]=>exPubk d X xs K st
 |.mkv,[]=>withO d fun d=>st.objs d=none∧K ⟨put (some d) (.own d) st.vars,addL [(d,.mpv [])] st.objs⟩
 |.puv s,[X,Y,Z]=>exPuv d s X Y (nrmF Z) xs K st
 |.gev s z ok,[X,Y]=>exGev d s z ok X Y xs K st
 |.dlv s,[X,Y]=>exDlv d s X Y xs K st
 |.pnil ne,[X]=>asksL xs∧withO (isNilP X) fun b=>K ⟨put d (.pv (.bool (b != ne))) st.vars,st.objs⟩
 |.rng,[X]=>exRng d X xs K st
 |.nxt,[X]=>exNxt d X xs K st
 |.ent,[X]=>exEnt d X xs K st
 | _,_=>False
def stepEx (d:Option Nat) (x:XK) (xs:List AV) (K:St→Prop) (st:St):Prop:=
 match x,xs.map strip with
 |.mkm,[]=>withO d fun d=>st.objs d=none∧K ⟨put (some d) (.own d) st.vars,addL [(d,.map [])] st.objs⟩
 |.mput s,[.own t,.pv k,v]=>asksL xs∧withO (mapO (st.objs t)) fun es=>srt k=s∧keysOK s es∧pure1 v=true∧K ⟨put d .junk st.vars,addO t (.map (putM k v es)) st.objs⟩
 |.mget s z ok,[.own t,.pv k]=>asksL xs∧withO (mapO (st.objs t)) fun es=>srt k=s∧keysOK s es ∧
   K ⟨put d (if ok=true then .tup [(getM k es).getD (avZ z),.pv (.bool (getM k es).isSome)] else (getM k es).getD (avZ z)) st.vars,st.objs⟩
 |.add64,ys=>exAdd d xs ys K st
 |.isnil ne,[X]=>asksL xs∧withO (rowsB st.objs X) fun rows=>∀b:Bool,(rows≠[]→b=false)→K ⟨put d (.pv (.bool (if ne=true then !b else b))) st.vars,st.objs⟩
 |.capn,[.pv .nil]=>asksL xs∧K ⟨put d (.pv (.int .i64 0)) st.vars,st.objs⟩
 |.appz e sz bytes zs,ys=>exAppz d e bytes zs xs ys K st
 |.bslk e,ys=>exBslk d e xs ys K st
 |.mks e bytes zs,ys=>exMks d e bytes zs xs ys K st
 |.mget s z ok,[.pv (.mp ks),.pv k]=>asksL xs∧unitV z=true∧srt k=s∧(∀x∈ks,srt x=s)∧K ⟨put d (if ok=true then .tup [.agg [],.pv (.bool (ks.any (eqP k)))] else .agg []) st.vars,st.objs⟩
 |.mark,[.own t]=>asksL xs∧withO (arrO (st.objs t)) fun r=>r.2≠[]∧K ⟨put d (.pv (.ro r.2)) (shV t r.1 r.2 st.vars),shM t st.objs⟩
 |x,ys=>exMore d x xs ys K st
def exPut (d:Option Nat) (s t:Nat) (k v:AV) (xs:List AV) (K:St→Prop) (st:St):Prop:=
 match k with
 |.pv k=>asksL xs∧withO (mapO (st.objs t)) fun es=>srt k=s∧keysOK s es∧pure1 v=true∧K ⟨put d .junk st.vars,addO t (.map (putM k v es)) st.objs⟩
 | _=>False
def exGet (d:Option Nat) (s t:Nat) (z:Value) (ok:Bool) (k:AV) (xs:List AV) (K:St→Prop) (st:St):Prop:=
 match k with
 |.pv k=>asksL xs∧withO (mapO (st.objs t)) fun es=>srt k=s∧keysOK s es ∧
   K ⟨put d (if ok=true then .tup [(getM k es).getD (avZ z),.pv (.bool (getM k es).isSome)] else (getM k es).getD (avZ z)) st.vars,st.objs⟩
 | _=>False
def exMark (d:Option Nat) (x:AV) (xs:List AV) (K:St→Prop) (st:St):Prop:=
 match x with
 |.own t=>asksL xs∧withO (arrO (st.objs t)) fun r=>r.2≠[]∧K ⟨put d (.pv (.ro r.2)) (shV t r.1 r.2 st.vars),shM t st.objs⟩
 | _=>False
def exGetp (d:Option Nat) (s:Nat) (ks:List PV) (z:Value) (ok:Bool) (k:AV) (xs:List AV) (K:St→Prop) (st:St):Prop:=
 match k with
 |.pv k=>asksL xs∧unitV z=true∧srt k=s∧(∀x∈ks,srt x=s)∧K ⟨put d (if ok=true then .tup [.agg [],.pv (.bool (ks.any (eqP k)))] else .agg []) st.vars,st.objs⟩
 | _=>False
def exCapn (d:Option Nat) (x:AV) (xs:List AV) (K:St→Prop) (st:St):Prop:=
 match x with
 |.pv .nil=>asksL xs∧K ⟨put d (.pv (.int .i64 0)) st.vars,st.objs⟩
 | _=>False
def exNil (d:Option Nat) (ne:Bool) (rows:List (List PV)) (K:St→Prop) (st:St):Prop:=∀b:Bool,(rows≠[]→b=false)→K ⟨put d (.pv (.bool (if ne=true then !b else b))) st.vars,st.objs⟩
def stepEg (i:AI) (x:XK) (s:Nat) (w:Bool) (K:St→Prop) (st:St):Prop:=
 withO (guardB (st.vars s) w) fun c=>if c=true then stepEx i.d x (i.xs.map (ev st.vars)) K st else K ((Eff.put (.cnd false .junk)).on i.d st)
def shA (t:Nat) (rows:List (List PV)):AV→AV
 |.own s=>if s=t then .pv (.ro rows) else .own s
 |v=>kill t v
def shAV (t:Nat) (rows:List (List PV)) (f:Nat→AV):Nat→AV:=fun s=>shA t rows (f s)
def apsO (objs:Nat→Option AO) (e:TypeId):List AV→Option (Nat × List (List PV) × List (List PV))
 | [.own t,x]=>(arrO (objs t)).bind fun r=>(rowsIn objs x).bind fun more=>if r.1=e then some (t,r.2,more) else none
 | _=>none
def stepAps (d:Option Nat) (e:TypeId) (sz bytes:Nat) (xs:List AV) (K:St→Prop) (st:St):Prop:=
 asksL xs∧withO (apsO st.objs e (xs.map strip)) fun r=>((r.2.1.length+r.2.2.length)*bytes≤140737488355328∧r.2.1.length+r.2.2.length≤maxLen∧(∀q∈r.2.2,q.length=sz))∧r.1 % 1000≠999 ∧
  K ⟨put d (.pv (.ro (r.2.1++r.2.2))) (shAV r.1 r.2.1 st.vars),shM r.1 st.objs⟩
def apsM (i:AI):Option (TypeId × Nat × Nat):=
 match i.k,i.tg,i.g with
 |.app e sz b,some 999998,none=>some (e,sz,b)
 | _,_,_=>none
def puSt (x:XK) (i:AI) (st:St):St:=
 match x with
 |.puv _=>shareAll st ((i.xs.map (ev st.vars)).map strip)
 | _=>st
def stepXo (P:Program) (Γ:Tab) (i:AI) (K:St→Prop) (st:St):Prop:=
 match i.k,i.g with
 |.ex x,none=>stepEx i.d x (i.xs.map (ev (puSt x i st).vars)) K (puSt x i st)
 |.ex x,some (s,w)=>stepEg i x s w K st
 |.bsl _ _,_=>stepJ P Γ i K (shareAll st ((i.xs.map (ev st.vars)).map strip))
 |.clr e sz zs,none=>stepClr i.d e sz zs (i.xs.map (ev st.vars)) K st
 |.call f,some (s,w)=>stepH P Γ i f s w K st
 |.calv,g=>stepC P Γ i.d (i.xs.map (ev st.vars)) g K st
 |.call f,none=>stepFU P Γ i f (flagU Γ f) K st
 |.nilS _,_=>stepI P Γ i K (dropT (i.d.getD 0) st)
 | _,_=>stepJ P Γ i K st
def stepX (P:Program) (Γ:Tab) (i:AI) (K:St→Prop) (st:St):Prop:=
 match apsM i with
 |some r=>if isOwn ((i.xs.map (ev st.vars)).map strip)=true then stepAps i.d r.1 r.2.1 r.2.2 (i.xs.map (ev st.vars)) K st else stepXo P Γ i K st
 |none=>stepXo P Γ i K st
def stepsX (P:Program) (Γ:Tab) (is:List AI) (K:St→Prop) (st:St):Prop:=
 match is with
 | []=>K st
 |i::is=>stepX P Γ i (fun st'=>stepsX P Γ is K st') st
def keepS (keep:List Nat) (f:Nat→AV):Nat→AV:=fun s=>if keep.contains s then f s else .junk
structure Fr where
 vs:List (Nat × AV)
 os:List (Nat × AO)
def Fr.st (f:Fr):St:=⟨look f.vs,lookO f.os⟩
def liveC (os:List (Nat × AO)):AV→Prop
 |.own t | .ptr t _ | .eptr t _ _ _ | .sub t _ _ _=>dom (lookO os) t
 |.pv _ | .rp _ | .junk=>True
 | _=>False
def liveCs (os:List (Nat × AO)):List AV→Prop
 | []=>True
 |c::cs=>liveC os c∧liveCs os cs
def liveV (os:List (Nat × AO)):AV→Prop
 |.agg cs | .clo _ cs | .tup cs=>liveCs os cs
 |.cnd _ v=>liveC os v
 |v=>liveC os v
def liveO (os:List (Nat × AO)):AO→Prop
 |.box cs=>liveCs os cs
 |.arr _ _=>True
 |.map _=>True
 |.mpv _=>True
 |.itr _ _=>True
 |.rws _ cs=>liveCs os cs
def wkV (ad:List Nat) (st:St) (os:List (Nat × AO)):List (Nat × AV)→Prop
 | []=>True
 | (s,v)::l=>(v=.junk∨(st.vars s=v∧liveV os v)∨(∃t,v=.own t∧ad.contains t=true∧dom (lookO os) t∧st.vars s=.pv .nil))∧wkV ad st os l
def wkO (P:Program) (ad:List Nat) (st:St) (os:List (Nat × AO)):List (Nat × AO)→Prop
 | []=>True
 | (t,o)::l=>((st.objs t=some o∧ad.contains t=false∧liveO os o)∨(∃e,o=.arr e []∧ad.contains t=true∧st.objs t=none∧(P.info? e).isSome=true∧t % 1000≠999))∧wkO P ad st os l
def wk (P:Program) (ad:List Nat) (st:St) (f:Fr):Prop:=wkV ad st f.os f.vs∧wkO P ad st f.os f.os
def resVals (st:St):List (Nat × Option (Option Nat))→(List AV→Prop)→Prop
 | [],C=>C []
 | (t,none)::l,C=>resVals st l fun vs=>C (st.vars t::vs)
 | (a,some n)::l,C=>withO (semQ (.load n) [st.vars a] st.objs) fun x=>x.1∧resVals st l fun vs=>C (x.2::vs)
def tupleOf:List AV→AV
 | [v]=>v
 |vs=>.tup vs
def fzC (P:Program) (objs:Nat→Option AO) (v r:AV):Prop:=
 match r with
 |.fr e rows=>(∃t,v=.own t∧objs t=some (.arr e rows))∨(v=.pv .nil∧rows=[]∧(P.info? e).isSome=true)∨(∃t hi rs,v=.sub t e 0 hi∧objs t=some (.arr e rs)∧rows=rs.take hi)
 |r=>v=r∧resC r=true
def fzCs (P:Program) (objs:Nat→Option AO):List AV→List AV→Prop
 | [],[]=>True
 |c::cs,r::rs=>fzC P objs c r∧fzCs P objs cs rs
 | _,_=>False
def fz1 (P:Program) (objs:Nat→Option AO) (v r:AV):Prop:=
 match v,r with
 |.agg cs,.agg rs=>fzCs P objs cs rs
 |.agg _,_=>False
 |v,r=>fzC P objs v r
def fzVs (P:Program) (objs:Nat→Option AO):List AV→List AV→Prop
 | [],[]=>True
 |c::cs,r::rs=>fz1 P objs c r∧fzVs P objs cs rs
 | _,_=>False
def fz (P:Program) (objs:Nat→Option AO) (v r:AV):Prop:=
 match v,r with
 |.tup vs,.tup rs=>vs.length≤1000∧fzVs P objs vs rs
 |.tup _,_=>False
 |v,r=>fz1 P objs v r
def plCs (j:Nat):List AV→List (Nat × Nat)
 | []=>[]
 |.own t::cs=>(1000*j,t)::plCs (j+1) cs
 |.sub t _ _ _::cs=>(1000*j,t)::plCs (j+1) cs
 | _::cs=>plCs (j+1) cs
def pl1:AV→List (Nat × Nat)
 |.agg cs=>plCs 0 cs
 |.own t=>[(0,t)]
 |.sub t _ _ _=>[(0,t)]
 | _=>[]
def plVs (i:Nat):List AV→List (Nat × Nat)
 | []=>[]
 |v::vs=>(pl1 v).map (fun x=>(x.1+i,x.2))++plVs (i+1) vs
def pl:AV→List (Nat × Nat)
 |.tup vs=>plVs 0 vs
 |v=>pl1 v
def apartL:List (Nat × Nat)→Prop
 | []=>True
 |x::l=>(∀y∈l,y.2≠x.2)∧apartL l
def pubC:AV→AV→List Nat
 |.own t,.pv (.ro _)=>[t]
 |.pv .nil,.pv (.ro _)=>[999996]
 |.own t,.pv (.mv _)=>[t+2000000]
 | _,_=>[]
def pubCs:List AV→List AV→List Nat
 |c::cs,r::rs=>pubC c r++pubCs cs rs
 | _,_=>[]
def pub1:AV→AV→List Nat
 |.agg cs,.agg rs=>pubCs cs rs
 |v,r=>pubC v r
def pubVs:List AV→List AV→List Nat
 |c::cs,r::rs=>pub1 c r++pubVs cs rs
 | _,_=>[]
def pubs:AV→AV→List Nat
 |.tup vs,.tup rs=>pubVs vs rs
 |v,r=>pub1 v r
def EndsK (P:Program) (rs:List (Nat × Option (Option Nat))) (r:AV) (st:St):Prop:=
 resVals st rs fun vs=>fz P st.objs (tupleOf vs) r∧apartL (pl (tupleOf vs))
def Ends (P:Program) (rs:List (Nat × Option (Option Nat))) (r:AV) (st:St):Prop:=
 resVals st rs fun vs=>EndsK P rs r (shareT (pubs (tupleOf vs) r) st)
def backOK (objs:Nat→Option AO) (l:List (Nat × Nat)):List (Nat × AO)→Prop
 | []=>True
 |x::hout=>objs x.1=some x.2∧(∀y∈l,y.2≠x.1)∧backOK objs l hout
def EndsKU (P:Program) (rs:List (Nat × Option (Option Nat))) (r:AV) (hout:List (Nat × AO)) (st:St):Prop:=
 resVals st rs fun vs=>fz P st.objs (tupleOf vs) r∧apartL (pl (tupleOf vs))∧backOK st.objs (pl (tupleOf vs)) hout
def EndsU (P:Program) (rs:List (Nat × Option (Option Nat))) (r:AV) (hout:List (Nat × AO)) (st:St):Prop:=
 resVals st rs fun vs=>EndsKU P rs r hout (shareT (pubs (tupleOf vs) r) st)
def retJ (K:St→Prop):Exit→St→Prop
 |.ret,st=>K st
 | _,_=>False
def inBlk (id:Nat) (K:St→Prop) (J:Exit→St→Prop):Exit→St→Prop
 |.exit id',st=>if id'=id then K st else J (.exit id') st
 |e,st=>J e st
def vwp (P:Program) (Γ:Tab):AC→(St→Prop)→(Exit→St→Prop)→St→Prop
 |.skip,K,_,st=>K st
 |.reg is d keep,K,_,st=>if d then steps P Γ is (fun st'=>K ⟨keepS keep st'.vars,st'.objs⟩) st else stepsX P Γ is (fun st'=>K ⟨keepS keep st'.vars,st'.objs⟩) st
 |.seq a b,K,J,st=>vwp P Γ a (fun st'=>vwp P Γ b K J st') J st
 |.cond x a b,K,J,st=>withO (boolOf (ev st.vars x)) fun c=>
   (c=true→vwp P Γ a K J st)∧(c=false→vwp P Γ b K J st)
 |.block id a,K,J,st=>vwp P Γ a K (inBlk id K J) st
 |.loop a,_,J,st=>∃(ι:Type) (F : ι→Fr) (μ : ι→Nat) (ad shs:List Nat) (i0 : ι),wk P ad (shareT shs st) (F i0)∧∀i,vwp P Γ a (fun st'=>∃i',wk P [] (shareT shs st') (F i')∧μ i' < μ i) J (F i).st
 |.exit id,_,J,st=>J (.exit id) st
 |.ret,_,J,st=>J .ret st
def aggN (P:Program) (t:TypeId):Option (Option Nat):=
 match P.underlying t with
 |some (.struct _) | some (.array _ _)=>(P.info? t).map fun i=>some i.size
 |some _=>some none
 |none=>none
def sizeT (P:Program) (t:TypeId):Option Nat:=(P.info? t).map (·.size)
def zeroT (P:Program) (t:TypeId):Option (List Value):=(P.info? t).bind fun i=>i.zero.bind fun z=>if z.cells.size=i.size then some z.cells.toList else none
def isNilSlice:Operand→Bool
 |.const (.slice none 0 0)=>true
 | _=>false
def partsS (P:Program) (fs:Array Field):List (Nat × Operand)→Option (List (Nat × Nat))
 | []=>some []
 | (i,_)::l=>match fs[i]?,partsS P fs l with
  |some f,some r=>(sizeT P f.type).map fun n=>(f.offset,n)::r
  | _,_=>none
def fieldKs (P:Program) (f:TypeId→Option (List Nat)):Nat→List Field→Option (List Nat)
 | _,[]=>some []
 | off, fl :: fs => if fl.name ≠ "_" ∧ fl.offset = off then (f fl.type).bind fun a => if sizeT P fl.type = some a.length then (fieldKs P f (off + a.length) fs).map (a ++ ·) else none else none
def cellKs (P:Program):Nat→TypeId→Option (List Nat)
 | 0,_=>none
 |n+1,t=>match P.underlying t with
  |some .bool=>some [0]
  |some .string=>some [1]
  |some (.int k)=>some [2+kIdx k]
  |some (.struct fs)=>if P.stoodInHeld t=false then fieldKs P (cellKs P n) 0 fs.toList else none
  | _=>none
def compBuiltin (P:Program) (b:Builtin) (xs:List Operand) (ts:List TypeId):Option (AK × List Operand):=
 match b,xs,ts with
 |.len,[x],[t]=>match P.underlying t with
  |some .string=>some (.slen,[x])
  |some (.slice _)=>some (.len,[x])
  | _=>none
 |.append,[s,x],[t,t']=>match P.underlying t,P.underlying t' with
  |some (.slice e),some .string=>match P.info? e with
   |some i=>if i.size=1∧(zeroT P e).isSome=true then some (.app e i.size i.bytes,[s,x]) else none
   |none=>none
  |some (.slice e),some (.slice _)=>match P.info? e with
   |some i=>if 0 < i.size∧(zeroT P e).isSome=true then some (.app e i.size i.bytes,[s,x]) else none
   |none=>none
  | _,_=>none
 |.min,[x,y],[_,_]=>some (.mnx false,[x,y])
 |.max,[x,y],[_,_]=>some (.mnx true,[x,y])
 |.clear,[x],[t]=>match P.underlying t with
  |some (.slice e)=>match sizeT P e,zeroT P e with
   |some sz,some zs=>if 0 < sz∧zs.all (·.oneCell')=true then some (.clr e sz zs,[x]) else none
   | _,_=>none
  | _=>none
 | _,_,_=>none
def compCall (P:Program) (c:Call):Option (AK × List Operand):=
 match c.callee with
 |.builtin b=>compBuiltin P b c.args.toList c.argTypes.toList
 |.value (.func f)=>if isFn P f then some (.call f,c.args.toList) else none
 |.value x=>some (.calv,x::c.args.toList)
 |.invoke _ _=>none
def srtT (P:Program) (t:TypeId):Option Nat:=
 match P.underlying t with
 |some .bool=>some 0
 |some .string=>some 1
 |some (.int k)=>some (2+kIdx k)
 | _=>none
def zeroV (P:Program) (t:TypeId):Option Value:=(P.info? t).bind (·.zero)
def mapT (P:Program) (t:TypeId):Option (TypeId × TypeId):=
 match P.underlying t with
 |some (.map k e)=>some (k,e)
 | _=>none
def isAdd64 (P:Program) (f:FuncId):Bool:=
 match P.funcs[f]? with
 | some fn => fn.name == "math/bits.Add64" && fn.body.isNone && (Extern.findNext fn).isNone
 |none=>false
def compXB (P:Program) (b:Builtin) (xs:List Operand) (ts:List TypeId):Option (XK × List Operand):=
 match b,xs,ts with
 |.cap,[x],[t]=>match P.underlying t with
  |some (.slice _)=>some (.capn,[x])
  | _=>none
 |.append,[s,x],[t,t']=>match P.underlying t,P.underlying t' with
  |some (.slice e),some (.int _)=>match P.info? e,zeroT P e with
   |some i,some zs=>if 0 < i.size∧zs.all (·.oneCell')=true then some (.appz e i.size i.bytes zs,[s,x]) else none
   | _,_=>none
  | _,_=>none
 | _,_,_=>none
def rwsT (P:Program) (e:TypeId):Bool:=
 match (P.info? e).map (fun i:TypeInfo=>i.desc),P.underlying e with
 |some (TypeDesc.named _ _),some (TypeDesc.slice _)=>true
 | _,_=>false
def hintX (P:Program) (o:Oper):Bool:=
 match o.op,o.dst with
 |.move (.tmp 8),some 193 | .assign (.tmp 8),some 193=>match P.underlying o.type with
  |some (.slice e)=>match P.underlying e with
   |some (.slice _)=>true
   | _=>false
  | _=>false
 |.store t (.tmp 160) (.tmp 159),none=>match P.underlying t with
  |some (.slice _)=>true
  | _=>false
 | _,_=>false
def compX (P:Program) (o:Oper):Option (XK × List Operand):=
 match o.op with
 |.makeMap t none=>match mapT P t with
  |some _=>some (.mkm,[])
  |none=>none
 |.mapUpdate t m k x | .insert t m k x=>match mapT P t with
  |some (kt,_)=>match srtT P kt with
   |some s=>some (.mput s,[m,k,x])
   |none=>none
  |none=>none
 |.lookup t m k ok=>match mapT P t with
  |some (kt,et)=>match srtT P kt,zeroV P et with
   |some s,some z=>some (.mget s z ok,[m,k])
   | _,_=>none
  |none=>none
 |.buildSlice t n ps=>match P.underlying t with
  |some (.slice e)=>match sizeT P e,zeroT P e with
   |some sz,some zs=>if sz=1∧ps.toList.map (·.1)=List.range n∧n*sz≤2 ^ 24∧zs.length=sz then some (.bslk e,ps.toList.map (·.2)) else none
   | _,_=>none
  | _=>none
 |.convert src dst x=>if src=dst then match P.underlying src with
  |some (.slice e)=>match P.underlying e with
   |some (.int .u8)=>some (.mark,[x])
   | _=>none
  | _=>none else none
 |.makeSlice t l c=>match P.underlying t with
  |some (.slice e)=>match P.info? e,zeroT P e with
   |some i,some zs=>if 0 < i.size∧zs.all (·.oneCell')=true then some (.mks e i.bytes zs,[l,c]) else none
   | _,_=>none
  | _=>none
 |.binOp op t x y _=>match P.underlying t with
  |some (.slice _)=>if isNilSlice y then match op with
   |.eql=>some (.isnil false,[x])
   |.neq=>some (.isnil true,[x])
   | _=>none else none
  | _=>none
 |.call c=>match c.callee with
  |.value (.func f)=>if isAdd64 P f=true then some (.add64,c.args.toList) else none
  |.builtin b=>compXB P b c.args.toList c.argTypes.toList
  | _=>none
 |.move x=>if hintX P o=true then some (.pubk,[x]) else none
 |.assign x=>if hintX P o=true then some (.pubk,[x]) else none
 |.store t x y=>if hintX P o=true∧sizeT P t=some 1 then some (.rst,[x,y]) else none
 | _=>none
def oneT (P:Program) (t:TypeId):Bool:=
 match P.underlying t with
 |some .bool | some .string | some (.int _) | some (.func _ _ _) | some (.slice _)=>true
 | _=>false
def compV (P:Program) (o:Oper):Option (XK × List Operand):=
 match o.op with
 |.makeMap t none=>match mapT P t with
  |some (_,et)=>if oneT P et=true then some (.mkv,[]) else none
  |none=>none
 |.mapUpdate t m k x | .insert t m k x=>match mapT P t with
  |some (kt,et)=>match srtT P kt with
   |some s=>if oneT P et=true then some (.puv s,[m,k,x]) else none
   |none=>none
  |none=>none
 |.lookup t m k ok=>match mapT P t with
  |some (kt,et)=>match srtT P kt,zeroV P et with
   |some s,some z=>if oneT P et=true then some (.gev s z ok,[m,k]) else none
   | _,_=>none
  |none=>none
 |.binOp op t x y _=>match P.underlying t with
  |some (.pointer _)=>match y with
   |.const (.pointer none)=>match op with
    |.eql=>some (.pnil false,[x])
    |.neq=>some (.pnil true,[x])
    | _=>none
   | _=>none
  | _=>none
 |.call c=>match c.callee,c.args.toList,c.argTypes.toList with
  |.builtin .delete,[m,k],[t,kt']=>match mapT P t with
   |some (kt,et)=>match srtT P kt with
    |some s=>if oneT P et=true∧kt'=kt then some (.dlv s,[m,k]) else none
    |none=>none
   |none=>none
  | _,_,_=>none
 |.range t x=>match mapT P t with
  |some _=>some (.rng,[x])
  |none=>none
 |.next x false=>some (.nxt,[x])
 |.entry x=>some (.ent,[x])
 | _=>none
def compXD (P:Program) (o:Oper):XK × List Operand:=
 match compV P o with
 |some r=>r
 |none=>(compX P o).getD (.dead,[])
def compOp0 (P:Program) (o:Oper):Option (AK × List Operand):=
 match o.op with
 |.move x | .assign x=>
  if isNilSlice x then match P.underlying o.type with
   |some (.slice e)=>if (P.info? e).isSome then some (.nilS e,[]) else none
   | _=>none
  else some (.mov,[x])
 |.pick c a b=>some (.pick,[c,a,b])
 |.alloc e=>(zeroT P e).map fun zs=>(.alloc zs,[])
 |.box _ x=>some (.box,[x])
 |.build t ps=>match zeroT P t,P.underlying t with
  |some zs,some (.struct fs)=>if fs.all (fun f=>(P.info? f.type).isSome)=false then none else (partsS P fs ps.toList).map fun l=>(.bld zs l,ps.toList.map (·.2))
  | _,_=>none
 |.buildSlice t n ps=>match P.underlying t with
  |some (.slice e)=>match sizeT P e,zeroT P e with
   |some sz,some zs=>if rwsT P e=false∧ps.toList.map (·.1)=List.range n∧n*sz≤2 ^ 24∧zs.length=sz∧0 < sz then some (.bsl e sz,ps.toList.map (·.2)) else none
   | _,_=>none
  | _=>none
 |.load t a=>(aggN P t).map fun n=>(.load n,[a])
 |.store t a v=>match aggN P t with
  |some none=>if sizeT P t=some 1 then some (.store none,[a,v]) else none
  |some (some n)=>some (.store (some n),[a,v])
  |none=>none
 |.binOp op t x y _=>match P.underlying t with
  |some .bool=>match op with
   |.eql=>some (.beq false,[x,y])
   |.neq=>some (.beq true,[x,y])
   | _=>none
  |some (.int _) | some .string=>some (.bin op,[x,y])
  |some (.struct _)=>match cellKs P 8 t with
   |some ks=>if ks.all (· < 99)=true∧P.eqGuardType P.depth t=false then match op with
    |.eql=>some (.eqs false ks,[x,y])
    |.neq=>some (.eqs true ks,[x,y])
    | _=>none else none
   |none=>none
  | _=>none
 |.unOp .not _ x=>some (.not,[x])
 |.unOp .neg _ x=>some (.neg,[x])
 |.convert src dst x=>match P.underlying src,P.underlying dst with
  |some (.int _),some (.int k)=>some (.cvi k,[x])
  |some .string,some .string=>some (.scv,[x])
  |some (.slice e),some .string=>match P.underlying e with
   |some (.int .u8)=>some (.btoS,[x])
   | _=>none
  |some .string,some (.slice e)=>match P.underlying e with
   |some (.int .u8)=>some (.stoB e,[x])
   | _=>none
  | _,_=>none
 |.fieldAddr s x i=>match P.underlying s with
  |some (.struct fs)=>match fs[i]? with
   |some f=>match sizeT P f.type with
    |some (_+1)=>some (.fad f.offset,[x])
    | _=>none
   |none=>none
  | _=>none
 |.field s x i=>match P.underlying s with
  |some (.struct fs)=>match fs[i]? with
   |some f=>(aggN P f.type).map fun n=>(.fld f.offset n,[x])
   |none=>none
  | _=>none
 |.indexAddr t x i=>match P.underlying t with
  |some (.slice e)=>(sizeT P e).map fun sz=>(.ixa e sz,[x,i])
  |some (.array n e)=>(sizeT P e).map fun sz=>(.ixp n sz,[x,i])
  | _=>none
 |.index t x i=>match P.underlying t with
  |some .string=>some (.sidx,[x,i])
  | _=>none
 |.slice t x lo hi none=>match P.underlying t with
  |some .string=>some (.ssl lo.isSome hi.isSome,[x]++lo.toList++hi.toList)
  |some (.slice e)=>(sizeT P e).map fun sz=>(.slc sz lo.isSome hi.isSome,[x]++lo.toList++hi.toList)
  | _=>none
 |.extract x i=>some (.ext i,[x])
 |.nilCheck x=>some (.nck,[x])
 |.makeFunc (.func f) first caps=>match first.toList with
  | []=>some (.mkf f,caps.toList)
  | _=>none
 |.call c=>compCall P c
 | _=>none
def compOp (P:Program) (o:Oper):Option (AK × List Operand):=
 match if hintX P o=true then none else compOp0 P o with
 |some r=>some r
 |none=>some (.ex (compXD P o).1,(compXD P o).2)
theorem compOp_cases {P:Program}{o:Oper}{k:AK}{xs:List Operand} (h:compOp P o=some (k,xs)):compOp0 P o=some (k,xs)∨∃x,k=.ex x∧compXD P o=(x,xs):=by
 unfold compOp at h
 split at h
 ·rename_i r hr
  split at hr
  ·cases hr
  ·rw [hr];exact .inl h
 ·cases h;exact .inr ⟨_,rfl,rfl⟩
def makes:AK→Bool
 |.nilS _ | .box | .alloc _ | .bsl _ _ | .app _ _ _ | .call _ | .calv | .btoS | .stoB _ | .ex .mkm | .ex .mkv | .ex .rng | .ex (.appz _ _ _ _) | .ex (.bslk _) | .ex (.mks _ _ _)=>true
 | _=>false
def writes:AK→Bool
 |.store _ | .app _ _ _=>true
 | _=>false
def looksAway:AK→Bool
 |.mov | .bin _ | .beq _ | .not | .neg | .cvi _ | .scv=>true
 | _=>false
def tmpsOf:List Operand→List Nat
 | []=>[]
 |.tmp t::l=>t::tmpsOf l
 | _::l=>tmpsOf l
def usesOf (i:AI):List Nat:=tmpsOf i.xs++(match i.g with | some (s,_)=>[s] | none=>[])
def isSome':Option Nat→Bool
 |some _=>true
 |none=>false
def tagsOf (i:AI):List Nat:=
 if makes i.k then i.d.toList else if writes i.k then i.tg.toList else []
def isApp:AK→Bool
 |.app _ _ _=>true
 | _=>false
def isAlc:AK→Bool
 |.alloc _=>true
 | _=>false
def isLk:AK→Bool
 |.load _ | .fad _=>true
 | _=>false
def apartA (x y:AI):Bool:=
 isApp x.k && x.g.isNone && y.g.isNone && y.tg.isNone &&
 (match x.d,y.d with
  |some d,some d'=>!(usesOf y).contains d && !(usesOf x).contains d' && d != d' && decide (d < 1000) && decide (d' < 1000) && ((isAlc y.k && y.xs.isEmpty) || (isLk y.k && y.un.contains d && y.un.all fun t=>x.un.contains (t+1000)))
  | _,_=>false)
def apartO (x y:AI):Bool:=
 (match x.d with | some d=>!(usesOf y).contains d && y.d != some d && y.tg != some d && decide (d < 1000) | none=>true) &&
 (match y.d with | some d=>!(usesOf x).contains d && x.tg != some d && decide (d < 1000) | none=>true) &&
 ((looksAway y.k && y.un.isEmpty) || (!isApp x.k && (!writes x.k || isSome' x.tg) && (tagsOf x).all fun t=>decide (t < 1000) && y.un.contains t)) &&
 ((looksAway x.k && x.un.isEmpty) || (!isApp y.k && (!writes y.k || isSome' y.tg) && (tagsOf y).all fun t=>decide (t < 1000) && x.un.contains t)) &&
 (looksAway x.k || looksAway y.k || !writes x.k || !writes y.k || x.tg != y.tg)
def apartB (x y:AI):Bool:=apartO x y || apartA x y
def compI (P:Program) (N:Nat) (ops:Array Oper) (o:Oper):Option AI:=
 match compOp P o with
 |none=>none
 |some (k,xs)=>
  let okd:=match o.dst with | some d=>decide (d < N∧d < 1000) | none=>!makes k && (k matches .store _ || k matches .clr _ _ _ || k matches .ex _)
  if !okd then none else
  match o.guard with
  |none=>some ⟨o.dst,k,xs,none,[],none⟩
  |some (j,want)=>match (ops[j]?).bind (·.dst) with
   |some s=>some ⟨o.dst,k,xs,some (s,want),[],none⟩
   |none=>none
def compIs (P:Program) (N:Nat) (ops:Array Oper):List Oper→Option (List AI)
 | []=>some []
 |o::l=>match compI P N ops o,compIs P N ops l with
  |some i,some is=>some (i::is)
  | _,_=>none
def bits (ops:Array Oper) (i j:Nat):Bool:=((Region.before ops).getD j 0).testBit i
def chainB (ops:Array Oper) (i j:Nat):Bool:=
 !bits ops i j || match ops[j]? with
  |some o=>o.after.any fun e=>Region.binds .any e && (e.on == i || (decide (i < e.on) && decide (e.on < j) && bits ops i e.on))
  |none=>false
def earlierB (ops:Array Oper) (j:Nat):Bool:=
 match ops[j]? with
 |some o=>o.after.all fun e=>!Region.binds .any e || decide (e.on < j)
 |none=>true
def freeB (ops:Array Oper) (is:Array AI):Bool:=
 (List.range ops.size).all fun j=>earlierB ops j && (List.range j).all fun i=>chainB ops i j && (bits ops i j || match is[i]?,is[j]? with
  |some x,some y=>apartB x y
  | _,_=>false)
def unOf (ops:Array Oper) (is:Array AI) (j:Nat):List Nat:=
 let b:=Region.before ops
 (List.range is.size).filterMap fun i=>if i=j || (b.getD j 0).testBit i || (b.getD i 0).testBit j then none else
  match is[i]?,is[j]? with
  |some x,some y=>if looksAway y.k then none else (tagsOf x).head?
  | _,_=>none
def unA (ops:Array Oper) (is:Array AI) (j:Nat):List Nat:=
 let b:=Region.before ops
 match is[j]? with
 |some y=>if isApp y.k then (List.range is.size).flatMap fun i=>if i=j || (b.getD j 0).testBit i || (b.getD i 0).testBit j then [] else
   match is[i]? with
   |some x=>if isLk x.k then x.un.map (· + 1000) else []
   |none=>[] else []
 |none=>[]
def setUnA (ops:Array Oper) (is:Array AI) (j:Nat):List AI→List AI
 | []=>[]
 |i::l=>{ i with un:=i.un++unA ops is j }::setUnA ops is (j+1) l
def setUn (ops:Array Oper) (is:Array AI) (j:Nat):List AI→List AI
 | []=>[]
 |i::l=>{ i with un:=unOf ops is j }::setUn ops is (j+1) l
def tgOf (is:List AI) (i:AI):Option Nat:=
 match i.k,i.xs with
 |.store _,.tmp s::_=>if is.any fun x=>x.d == some s && (match x.k with | .alloc _ | .box=>true | _=>false) then some s else none
 | _,_=>none
def setTg (is:List AI):List AI→List AI
 | []=>[]
 |i::l=>{ i with tg:=tgOf is i }::setTg is l
def tgOf2 (i:AI):Option Nat:=
 match i.k,i.xs with
 |.store _,.tmp s::_=>some s
 | _,_=>none
def setTg2:List AI→List AI
 | []=>[]
 |i::l=>{ i with tg:=tgOf2 i }::setTg2 l
def okOp (x:AI):Operand→Bool
 |.const _=>true
 |.tmp s=>x.d != some s
 | _=>false
def cmB (y x:AI):Bool:=
 match y.k,y.xs,y.d,y.g,y.tg,y.un with
 |.mov,[o],some dd,none,none,[]=>okOp x o && !(usesOf x).contains dd && x.d != some dd
 | _,_,_,_,_,_=>false
def ldB (y x:AI):Bool:=
 match y.k,y.xs,y.d,y.g,y.tg,x.k with
 |.load _,[.tmp s],some dd,none,none,.call _=>x.d != some s && !(usesOf x).contains dd && x.d != some dd && dd != s
 | _,_,_,_,_,_=>false
def slotOf (y:AI):List Nat:=
 match y.k,y.xs with
 |.load _,[.tmp s]=>[s]
 | _,_=>[]
def isCall:AK→Bool
 |.call _ | .calv=>true
 | _=>false
def ldsOf (ops:Array Oper) (is:Array AI) (j:Nat):List Nat:=
 (List.range j).flatMap fun q=>if bits ops q j then [] else match is[q]? with
  |some y=>slotOf y
  |none=>[]
def mayM (ops:Array Oper) (is:Array AI) (j:Nat) (x:AI):Bool:=
 isCall x.k && x.g.isNone && x.tg.isNone && x.un.isEmpty && (List.range is.size).all fun q=>q == j || (if q < j then bits ops q j else bits ops j q) || (match is[q]? with
  |some y=>(cmB y x || (decide (q < j) && ldB y x)) && (match y.d with | some dd=>!(ldsOf ops is j).contains dd | none=>true)
  |none=>false)
def setM (ops:Array Oper) (is:Array AI) (j:Nat):List AI→List AI
 | []=>[]
 |i::l=>(if mayM ops is j i then { i with tg:=some 999999,un:=ldsOf ops is j } else i)::setM ops is (j+1) l
def readsOld (b:Nat):List AI→Bool
 | []=>false
 |i::l=>(match i.k,i.xs with
  |.mov,[.tmp s]=>s == b
  | _,_=>false) || (if i.d == some b then false else readsOld b l)
def movOf (s:Nat):List AI→Option Nat
 | []=>none
 |i::l=>if i.d == some s then (match i.k,i.xs with
  |.mov,[.tmp b]=>some b
  | _,_=>none) else movOf s l
def apsB (i:AI) (pre l:List AI):Bool:=
 match i.k,i.xs,i.g with
 |.app _ _ _,.tmp s::_,none=>match movOf s pre with
  |some b=>readsOld b l
  |none=>false
 | _,_,_=>false
def setA (pre:List AI):List AI→List AI
 | []=>[]
 |i::l=>(if apsB i pre l then { i with tg:=some 999998 } else i)::setA (i::pre) l
def drawn (ops:Array Oper) (js:List AI):Option AC:=
 let hs:=setUn ops js.toArray 0 js
 let ks:=setUnA ops hs.toArray 0 hs
 if freeB ops ks.toArray && ks.all (fun i=>i.tg != some 999999) then some (.reg (setM ops ks.toArray 0 ks) true []) else none
def appsFirst (ops:Array Oper) (js:List AI):List Nat:=
 let b:=Region.before ops
 let f:=fun j=>(List.range ops.size).any fun i=>(match js[i]? with | some x=>isApp x.k | none=>false) && (i == j || (b.getD i 0).testBit j)
 (List.range ops.size).filter f++(List.range ops.size).filter fun j=>!f j
def ordB (ops:Array Oper) (ks:Array AI):List Nat→List Nat→Bool
 | _,[]=>true
 |pre,j::l=>(match ops[j]? with
   |some o=>o.after.all fun e=>!Region.binds .any e || pre.contains e.on
   |none=>false) && (!pre.contains j) && (l.all fun b=>(decide (j < b) && bits ops j b) || match ks[j]?,ks[b]? with
    |some x,some y=>apartB x y
    | _,_=>false) && ordB ops ks (j::pre) l
def drawn2 (ops:Array Oper) (js:List AI) (l:List Nat):Option AC:=
 let hs:=setUn ops js.toArray 0 js
 let ks:=setUnA ops hs.toArray 0 hs
 if l.length=ops.size∧ordB ops ks.toArray [] l=true∧((List.range ops.size).all fun j=>earlierB ops j && (List.range j).all fun i=>chainB ops i j)=true∧(l.all fun j=>decide (j < ops.size))=true∧((List.range ops.size).all fun j=>l.contains j)=true∧ks.all (fun i=>i.tg != some 999999)=true then some (.reg (l.filterMap fun j=>ks[j]?) true []) else none
def comp (P:Program) (N:Nat):Code→Option AC
 |.skip=>some .skip
 |.region _ ops draw=>match compIs P N ops ops.toList with
  |some is=>if draw then
   ((drawn ops (setTg is is)).or (drawn ops (setTg2 is))).or ((drawn2 ops (setTg is is) (appsFirst ops is)).or (drawn2 ops (setTg2 is) (appsFirst ops is)))
   else some (.reg (setA [] is) false [])
  |none=>none
 |.seq a b=>match comp P N a,comp P N b with
  |some x,some y=>some (.seq x y)
  | _,_=>none
 |.cond c a b=>match comp P N a,comp P N b with
  |some x,some y=>some (.cond c x y)
  | _,_=>none
 |.block id a=>(comp P N a).map (.block id)
 |.loop a=>(comp P N a).map .loop
 |.exit id=>some (.exit id)
 |.ret=>some .ret
 |.scope a=>comp P N a
 |.label _=>some .skip
 | _=>none
def exposed (w:List Nat):List AI→List Nat
 | []=>[]
 |i::l=>(usesOf i).filter (fun s=>!w.contains s)++exposed (i.d.toList++w) l
def needs:AC→List Nat
 |.reg is _ _=>exposed [] is
 |.seq a b=>needs a++needs b
 |.cond x a b=>tmpsOf [x]++needs a++needs b
 |.block _ a | .loop a=>needs a
 | _=>[]
def setKeep (keep:List Nat):AC→AC
 |.reg is d _=>.reg is d keep
 |.seq a b=>.seq (setKeep keep a) (setKeep keep b)
 |.cond x a b=>.cond x (setKeep keep a) (setKeep keep b)
 |.block id a=>.block id (setKeep keep a)
 |.loop a=>.loop (setKeep keep a)
 |c=>c
def resVars (P:Program):List ResultVar→Option (List (Nat × Option (Option Nat)))
 | []=>some []
 |.tmp t::l=>(resVars P l).map ((t,none) :: ·)
 |.cell a t::l=>(aggN P t).bind fun n=>(resVars P l).map ((a,some n) :: ·)
structure AFn where
 n:Nat
 params:Nat
 res:List (Nat × Option (Option Nat))
 body:AC
def compFn (P:Program) (f:FuncId) (keep:List Nat):Option AFn:=
 match P.funcs[f]? with
 |some fn=>match fn.body,resVars P fn.results.toList with
  |some c,some rs=>(comp P fn.ntmps c).bind fun b=>if fn.ntmps≤998 then some ⟨fn.ntmps,fn.params.size+fn.nfree,rs,setKeep keep b⟩ else none
  | _,_=>none
 |none=>none
end Go.Proofs.Ytlmkcmfmfahcfaa.Ab
