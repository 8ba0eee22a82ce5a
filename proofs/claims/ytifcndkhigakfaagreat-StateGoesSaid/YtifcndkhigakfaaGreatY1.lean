/- An abstract machine for the code of one function: slices, strings and structs as plain data; what each operation makes of them. Definitions alone. -/
import Derived.WalkKit
import Derived.WalkSpells
import Derived.WalkLawsBesides
import Derived.MapKept
import Derived.Maps.RangeRun
set_option linter.unusedVariables false
set_option linter.unusedSimpArgs false
set_option linter.unnecessarySimpa false
set_option maxHeartbeats 40000000
set_option maxRecDepth 100000
set_option linter.defProp false
namespace Go.Proofs.YtifcndkhigakfaaGreat.Ab
open Go Go.RowKit
def q74:=@List.map_cons
def q137:=@List.cons_append
def q234:=@List.contains_cons
def q900:=@Option.map_eq_some_iff
def qr:=@Option.some.injEq
def q69:=@Prod.mk.injEq
def q85:=@List.all_eq_true
def q113:=@Nat.le_trans
def q142:=@List.mem_range
def q163:=@Nat.add_sub_cancel
def q172:=@Nat.le_add_left
def q204:=@Nat.not_lt
def q261:=@Bool.false_ne_true
end Go.Proofs.YtifcndkhigakfaaGreat.Ab
namespace Go.Proofs.YtifcndkhigakfaaGreat.Ab
open Go Go.RowKit
variable {α:Type}{P:Program}
inductive PV where|int (k:IntKind) (n:Int)|bool (b:Bool)|str (l:List UInt8)|nil|ro (rows:List (List PV))|mp (ks:List PV)|mv (es:List (PV×PV))|pt (cs:List PV)|val (v:Value)
inductive AV where|pv (p:PV)|own (t:Nat)|ptr (t off:Nat)|bd (t:Nat) (e:TypeId) (i:Int) (off:Nat)|sub (t:Nat) (e:TypeId) (lo hi:Nat)|rp (cs:List PV)|agg (cs:List AV)|aN (vs:List AV)|bI (f:FuncId) (caps:List AV)|fr (e:TypeId) (rows:List (List PV))|bx (cs:List AV)|mf (es:List (PV×PV))|cx (g:Bool) (v:AV)|ak
inductive AO where|box (cs:List AV)|arr (e:TypeId) (rows:List (List PV))|map (es:List (PV×AV))|rws (e:TypeId) (cs:List AV)|kk (es:List (PV×PV))|yJ (rem:List (PV×PV)) (cur:Option (PV×PV))
structure St where
 vars:Nat->AV
 aa:Nat->Option AO
def si:Value->PV|.int k n=>.int k n|.bool b=>.bool b|.string s=>.str s.data.toList|.slice none 0 0=>.nil|v=>.val v
def cv (v:Value):AV:=if v.oneCell'=true then .pv (si v) else .ak
def ev (vars:Nat->AV):Operand->AV|.tmp t=>vars t|.const v=>cv v|.func f=>.bI f []|.global _=>.ak
def put (d:Option Nat) (v:AV) (f:Nat->AV):Nat->AV:=match d with|some d=>fun s=>if s=d then v else f s|none=>f
def ba (t:Nat) (o:AO) (f:Nat->Option AO):Nat->Option AO:=fun s=>if s=t then some o else f s
def look (l:List (Nat×AV)) (s:Nat):AV:=match l with|[]=>.ak|(t,v)::l=>if s=t then v else look l s
def ab (l:List (Nat×AO)) (s:Nat):Option AO:=match l with|[]=>none|(t,v)::l=>if s=t then some v else ab l s
def asks:AV->Prop|.cx g v=>g=true/\asks v|_=>True
def strip:AV->AV|.cx _ v=>strip v|v=>v
def aw:List AV->Prop|[]=>True|v::l=>asks v/\aw l
inductive XK where|mkm|Kk (s:Nat)|G2 (s:Nat) (z:Value) (ok:Bool)|dead|yQ (ne:Bool)|B7|Li|IA (e:TypeId) (sz bytes:Nat) (zs:List Value)|Sv (e:TypeId)|WZ (e:TypeId) (bytes:Nat) (zs:List Value)|mark|rst|YT|mkv|XF (s:Nat)|IS (s:Nat) (z:Value) (ok:Bool)|pj (e:TypeId) (sz:Nat)|dlv (s:Nat)|aaY (ne:Bool)|rng|nxt|ent
inductive AK where|qE|pick|bin (op:BinOp)|beq (ne:Bool)|not|neg|DY (k:IntKind)|Gb|len|yb|yC|L9 (lo hi:Bool)|Ja (off:Nat) (n:Option Nat)|uV (off:Nat)|load (n:Option Nat)|Gi (e:TypeId) (sz:Nat)|IV (n sz:Nat)|HD|Fh (sz:Nat) (lo hi:Bool)|ext (i:Nat)|L0 (zs:List Value) (parts:List (Nat×Nat))|LR (f:FuncId)|iU (e:TypeId)|box|alloc (zs:List Value)|uF (e:TypeId) (sz:Nat)|call (f:FuncId)|mV|IW (mx:Bool)|eqs (ne:Bool) (ks:List Nat)|store (n:Option Nat)|app (e:TypeId) (sz bytes:Nat)|uD|qP (e:TypeId)|LA (e:TypeId) (sz:Nat) (zs:List Value)|ex (x:XK)
structure AI where
 d:Option Nat
 k:AK
 xs:List Operand
 g:Option (Nat×Bool)
 un:List Nat
 tg:Option Nat
inductive AC where|skip|LZ (is:List AI) (drawn:Bool) (bU:List Nat)|seq (a b:AC)|cond (x:Operand) (a b:AC)|block (id:Nat) (a:AC)|loop (a:AC)|exit (id:Nat)|ret
def fE (op:BinOp) (k:IntKind) (a b:Int):PV:=.int k (k.wrap (match op with|.and=>(BitVec.ofInt k.bits a&&&BitVec.ofInt k.bits b).toNat|.or=>(BitVec.ofInt k.bits a|||BitVec.ofInt k.bits b).toNat|.xor=>(BitVec.ofInt k.bits a^^^BitVec.ofInt k.bits b).toNat|_=>(BitVec.ofInt k.bits a&&&~~~BitVec.ofInt k.bits b).toNat:Nat))
def dN (op:BinOp) (x y:PV):Option (Prop×PV):=match x,y with
 |.int k a,.int k' b=>match op with|.shl=>some (0<=b,.int k (k.wrap (a*2^(min b.toNat k.bits))))|.shr=>some (0<=b,.int k (a.fdiv (2^(min b.toNat k.bits))))|op=>if k=k' then match op with|.add=>some (True,.int k (k.wrap (a+b)))|.sub=>some (True,.int k (k.wrap (a-b)))|.mul=>some (True,.int k (k.wrap (a*b)))|.quo=>some (b≠0,.int k (k.wrap (a.tdiv b)))|.rem=>some (b≠0,.int k (a.tmod b))|.eql=>some (True,.bool (decide (a=b)))|.neq=>some (True,.bool (!decide (a=b)))|.lss=>some (True,.bool (decide (a<b)))|.leq=>some (True,.bool (decide (a<=b)))|.gtr=>some (True,.bool (decide (b<a)))|.geq=>some (True,.bool (decide (b<=a)))|op=>some (True,fE op k a b) else none
 |.str a,.str b=>match op with|.add=>some (a.length+b.length<=9223372036854775807,.str (a++b))|.eql=>some (True,.bool (decide (a=b)))|.neq=>some (True,.bool (!decide (a=b)))|.lss=>some (True,.bool (Op.bytesLess a b))|.leq=>some (True,.bool (Op.bytesLess a b||decide (a=b)))|.gtr=>some (True,.bool (!(Op.bytesLess a b||decide (a=b))))|.geq=>some (True,.bool (!Op.bytesLess a b))|_=>none
 |_,_=>none
def pq:IntKind->Nat|.i8=>0|.i16=>1|.i32=>2|.i64=>3|.u8=>4|.u16=>5|.u32=>6|.u64=>7
def dP:PV->Nat|.bool _=>0|.str _=>1|.int k _=>2+pq k|_=>99
def oH:PV->PV->Bool|.int _ a,.int _ b=>decide (a=b)|.str a,.str b=>decide (a=b)|.bool a,.bool b=>decide (a=b)|_,_=>false
def kb:List PV->List PV->Bool|[],[]=>true|a::l,b::m=>oH a b&&kb l m|_,_=>false
def rowAt (rows:List (List PV)) (i:Int):List PV:=rows.getD i.toNat []
def bytesRow (l:List UInt8):List (List PV):=l.map fun c=>[.int .u8 (c.toNat:Int)]
def H9:AV->Option PV|.pv p=>some p|_=>none
def fR:List AV->Option (List PV)|[]=>some []|v::l=>(H9 v).bind fun p=>(fR l).map (p::·)
def rowOf:AV->Option (List PV)|.agg cs=>fR cs|.pv p=>some [p]|_=>none
def rowsOf:List AV->Option (List (List PV))|[]=>some []|v::l=>(rowOf v).bind fun p=>(rowsOf l).map (p::·)
def cellsOf:AV->List AV|.agg cs=>cs|v=>[v]
def fk:AV->Bool|.pv (.val v)=>v.oneCell'|.pv _|.own _|.ptr _ _|.bd _ _ _ _|.sub _ _ _ _|.rp _|.bI _ _=>true|_=>false
def gP:List AV->Bool|[]=>true|c::cs=>fk c&&gP cs
def nk:AV->Bool|.agg _=>true|v=>fk v
def sS:AV->AV|.bI f []=>.pv (.val (.func (.func f) #[] #[]))|v=>v
def lay (cs:List AV) (off:Nat) (ps:List AV):List AV:=cs.take off++ps++cs.drop (off+ps.length)
def mu (cs:List AV):List (Nat×Nat)->List AV->Option (List AV)|[],[]=>some cs|(off,n)::ps,x::xs=>if nk x=true/\(cellsOf x).length=n/\off+n<=cs.length then mu (lay cs off ((cellsOf x).map sS)) ps xs else none|_,_=>none
def bounds (n:Nat) (lo hi:Bool) (xs:List AV):Option (Int×Int):=match lo,hi,xs with|false,false,[]=>some (0,n)|true,false,[.pv (.int _ l)]=>some (l,n)|false,true,[.pv (.int _ h)]=>some (0,h)|true,true,[.pv (.int _ l),.pv (.int _ h)]=>some (l,h)|_,_,_=>none
def cut (l:List α) (lo hi:Int):List α:=(l.take hi.toNat).drop lo.toNat
def dx:Option AO->Option (TypeId×List (List PV))|some (.arr e rows)=>some (e,rows)|_=>none
def rwsO:Option AO->Option (TypeId×List AV)|some (.rws e cs)=>some (e,cs)|_=>none
def FC:Option AO->Option (TypeId×Nat)|some (.arr e rows)=>some (e,rows.length)|some (.rws e cs)=>some (e,cs.length)|_=>none
def fT:Option AO->Option (List AV)|some (.box cs)=>some cs|_=>none
def dk (aa:Nat->Option AO):AV->Option (List (List PV))|.pv .nil=>some []|.pv (.ro rows)=>some rows|.pv (.str l)=>some (bytesRow l)|.own t=>(dx (aa t)).map (·.2)|.sub t e lo hi=>(dx (aa t)).bind fun r=>if r.1=e then some ((r.2.take hi).drop lo) else none|_=>none
def gr (aa:Nat->Option AO):AV->Option (List (List PV))|.pv .nil=>some []|.pv (.ro rows)=>some rows|.own t=>(dx (aa t)).map (·.2)|.sub t e lo hi=>(dx (aa t)).bind fun r=>if r.1=e then some ((r.2.take hi).drop lo) else none|_=>none
def byteOf:List PV->Option UInt8|[.int .u8 n]=>if 0<=n/\n<256 then some (UInt8.ofNat n.toNat) else none|_=>none
def bytesOf:List (List PV)->Option (List UInt8)|[]=>some []|r::l=>(byteOf r).bind fun c=>(bytesOf l).map (c::·)
def nB:AV->Bool|.agg _|.aN _|.cx _ _|.ak=>false|_=>true
def nR (e:TypeId) (i:Int) (o:Nat):Option AO->Option (Prop×AV)|some (.arr e' rows)=>if e'=e then some (0<=i/\i<rows.length/\o<(rowAt rows i).length,.pv ((rowAt rows i).getD o (.int .u8 0))) else none|some (.rws e' cs)=>if e'=e/\o=0 then(cs[i.toNat]?).bind fun c=>if nB c=true then some (0<=i,c) else none else none|_=>none
def mS (k:PV):List (PV×PV)->Option PV|[]=>none|e::l=>if oH k e.1=true then some e.2 else mS k l
def iP (s:Nat) (es:List (PV×PV)):Prop:=∀e∈es,dP e.1=s
def Bk (z:Value) (ok:Bool) (o:Option PV):AV:=if ok=true then .aN [.pv (o.getD (si z)),.pv (.bool o.isSome)] else .pv (o.getD (si z))
def al (k:AK) (xs:List AV) (aa:Nat->Option AO):Option (Prop×AV):=match k,xs with|.bin op,[.pv x,.pv y]=>(dN op x y).map fun r=>(r.1,.pv r.2)|.beq ne,[.pv (.bool x),.pv (.bool y)]=>some (True,.pv (.bool (if ne then x !=y else x==y)))|.not,[.pv (.bool b)]=>some (True,.pv (.bool (!b)))|.neg,[.pv (.int k n)]=>some (True,.pv (.int k (k.wrap (0-n))))|.DY k,[.pv (.int _ n)]=>some (True,.pv (.int k (k.wrap n)))|.Gb,[.pv (.str l)]=>some (True,.pv (.str l))|.yb,[.pv (.str l)]=>some (True,.pv (.int .i64 l.length))|.len,[.pv .nil]=>some (True,.pv (.int .i64 0))|.len,[.pv (.ro rows)]=>some (True,.pv (.int .i64 rows.length))|.len,[.own t]=>(FC (aa t)).map fun r=>(True,.pv (.int .i64 r.2))|.len,[.sub t _ lo hi]=>(dx (aa t)).map fun _=>(True,.pv (.int .i64 ((hi:Int)-(lo:Int))))|.yC,[.pv (.str l),.pv (.int _ i)]=>some (0<=i/\i<l.length,.pv (.int .u8 ((l.getD i.toNat 0).toNat:Int)))|.L9 lo hi,.pv (.str l)::bs=>(bounds l.length lo hi bs).map fun b:Int×Int=>(0<=b.1/\b.1<=b.2/\b.2<=(l.length:Int),.pv (.str (cut l b.1 b.2)))|.Ja off none,[.agg cs]=>(cs[off]?).map fun c=>(True,c)|.Ja off (some n),[.agg cs]=>if off+n<=cs.length then some (True,.agg ((cs.drop off).take n)) else none|.uV off,[.ptr t o]=>some (True,.ptr t (o+off))|.uV off,[.bd t e i o]=>some (True,.bd t e i (o+off))|.uV off,[.rp cs]=>some (True,.rp (cs.drop off))|.IV n sz,[.ptr t o,.pv (.int _ i)]=>some (0<=i/\i<(n:Int),.ptr t (o+i.toNat*sz))|.IV n sz,[.rp cs,.pv (.int _ i)]=>some (0<=i/\i<(n:Int),.rp (cs.drop (i.toNat*sz)))|.HD,[.ptr t o]=>some (True,.ptr t o)|.HD,[.bd t e i o]=>some (True,.bd t e i o)|.HD,[.rp cs]=>some (True,.rp cs)|.load none,[.ptr t o]=>(fT (aa t)).bind fun cs=>(cs[o]?).bind fun c=>if nB c=true then some (True,c) else none|.load (some n),[.ptr t o]=>(fT (aa t)).bind fun cs=>if o+n<=cs.length then some (True,.agg ((cs.drop o).take n)) else none|.load none,[.bd t e i o]=>nR e i o (aa t)|.load (some n),[.bd t e i o]=>(dx (aa t)).bind fun r=>if r.1=e/\o+n<=(rowAt r.2 i).length then some (0<=i/\i<r.2.length,.agg ((((rowAt r.2 i).drop o).take n).map .pv)) else none|.load none,[.rp (c::_)]=>some (True,.pv c)|.load none,[.rp []]=>some (False,.pv (.int .u64 0))|.load (some n),[.rp cs]=>if n<=cs.length then some (True,.agg ((cs.take n).map .pv)) else none|.Gi _ sz,[.pv (.ro rows),.pv (.int _ i)]=>some (0<=i/\i<rows.length/\(rowAt rows i).length=sz,.rp (rowAt rows i))|.Gi e _,[.own t,.pv (.int _ i)]=>(FC (aa t)).bind fun r=>if r.1=e then some (0<=i/\i<r.2,.bd t e i 0) else none|.Gi e _,[.sub t e1 lo hi,.pv (.int _ i)]=>(dx (aa t)).bind fun r=>if r.1=e/\e1=e then some (0<=i/\i<(hi:Int)-(lo:Int),.bd t e ((lo:Int)+i) 0) else none|.Fh sz lo hi,.own t::bs=>(dx (aa t)).bind fun r=>(bounds r.2.length lo hi bs).map fun b:Int×Int=>(0<=b.1/\b.1<=b.2/\b.2<=(r.2.length:Int)/\(∀x∈r.2,x.length=sz),.sub t r.1 b.1.toNat b.2.toNat)|.Fh sz lo hi,.sub t e l h::bs=>(dx (aa t)).bind fun r=>if r.1=e then(bounds (h-l) lo hi bs).map fun b:Int×Int=>(0<=b.1/\b.1<=b.2/\b.2<=((h-l:Nat):Int)/\(∀x∈r.2,x.length=sz),.sub t e (l+b.1.toNat) (l+b.2.toNat)) else none|.Fh sz lo hi,.pv (.ro rows)::bs=>(bounds rows.length lo hi bs).map fun b:Int×Int=>(0<=b.1/\b.1<=b.2/\b.2<=(rows.length:Int)/\(∀r∈rows,r.length=sz),.pv (.ro (cut rows b.1 b.2)))|.Fh _ lo hi,.pv .nil::bs=>(bounds 0 lo hi bs).map fun b:Int×Int=>(b.1=0/\b.2=0,.pv .nil)|.ext i,[.aN vs]=>(vs[i]?).map fun v=>(True,v)|.L0 zs ps,xs=>(mu (zs.map cv) ps xs).map fun cs=>(True,.agg cs)|.LR f,xs=>some (True,.bI f xs)|.IW mx,[.pv (.int k a),.pv (.int k' b)]=>if k=k' then some (True,.pv (.int k (if mx then max a b else min a b))) else none|.eqs ne ks,[.agg xs,.agg ys]=>(fR xs).bind fun a=>(fR ys).map fun b=>(a.map dP=ks/\b.map dP=ks,.pv (.bool (if ne then !kb a b else kb a b)))|.ex (.IS s z ok),[.pv (.mv es),.pv k]=>some (z.oneCell'=true/\dP k=s/\iP s es,Bk z ok (mS k es))|.ex (.pj _ sz),xs=>(rowsOf xs).map fun rows=>(∀r∈rows,r.length=sz,.pv (.ro rows))|.uD,[x]=>(gr aa x).bind fun rows=>(bytesOf rows).map fun l=>(True,.pv (.str l))|.qP _,[.pv (.str l)]=>some (True,.pv (.ro (bytesRow l)))|_,_=>none
def cI:Value->Option Nat|.slice (some a) _ _=>some a.block|.pointer (some a)=>some a.block|.map (some b)=>some b|_=>none
def ct:PV->Value|.int k n=>.int k n|.str l=>.string ⟨l.toArray⟩|.bool b=>.bool b|_=>undef
inductive dA (S:Nat->Prop) (w:World):Value->PV->Prop|int (k:IntKind) (n:Int):dA S w (.int k n) (.int k n)|bool (b:Bool):dA S w (.bool b) (.bool b)|str (l:List UInt8):dA S w (.string ⟨l.toArray⟩) (.str l)|nil:dA S w (.slice none 0 0) .nil|val (v:Value):v.oneCell'=true->dA S w v (.val v)|mp (b:Nat) (us:Array MapEntry) (c:Nat) (ks:List PV):S b->w.heap[b]?=some (.map us c)->us.toList.length=ks.length->(∀(i:Nat) (k:PV) (u:MapEntry),ks[i]?=some k->us.toList[i]?=some u->u.key=ct k/\u.val=.agg #[])->dA S w (.map (some b)) (.mp ks)|mv (b:Nat) (us:Array MapEntry) (c:Nat) (es:List (PV×PV)):S b->w.heap[b]?=some (.map us c)->MapKept.Stamped us c->us.toList.length=es.length->(∀(i:Nat) (e:PV×PV) (u:MapEntry),es[i]?=some e->us.toList[i]?=some u->u.key=ct e.1/\dP e.1<99/\u.val.oneCell'=true)->(∀(i:Nat) (e:PV×PV) (u:MapEntry),es[i]?=some e->us.toList[i]?=some u->dA S w u.val e.2)->dA S w (.map (some b)) (.mv es)|pt (ad:Addr) (cs:List PV) (us:Nat->Value):S ad.block->(∀j,j<cs.length->w.cell? (ad.add j)=some (us j))->(∀(j:Nat) (p:PV),cs[j]?=some p->(us j).oneCell'=true)->(∀(j:Nat) (p:PV),cs[j]?=some p->dA S w (us j) p)->dA S w (.pointer (some ad)) (.pt cs)|zk (A:Option Addr) (c:Nat):dA S w (.slice A 0 c) (.ro [])|ro (ad:Addr) (c:Nat) (rows:List (List PV)) (sz:Nat) (us:Nat->Nat->Value):S ad.block->rows.length<=c->(∀r,r∈rows->r.length=sz)->(∀i j,i<rows.length->j<sz->w.cell? (ad.add (i*sz+j))=some (us i j))->(∀(i j:Nat) (r:List PV) (p:PV),rows[i]?=some r->r[j]?=some p->(us i j).oneCell'=true)->(∀(i j:Nat) (r:List PV) (p:PV),rows[i]?=some r->r[j]?=some p->dA S w (us i j) p)->dA S w (.slice (some ad) rows.length c) (.ro rows)
inductive RV (P:Program) (S:Nat->Prop) (w:World) (β:Nat->Value) (D:Nat->Prop):Value->AV->Prop|pv (v:Value) (p:PV):dA S w v p->RV P S w β D v (.pv p)|own (t:Nat):D t->RV P S w β D (β t) (.own t)|ptr (t o b:Nat):D t->β t=.pointer (some ⟨b,0,none⟩)->RV P S w β D (.pointer (some ⟨b,o,none⟩)) (.ptr t o)|bd (t:Nat) (e:TypeId) (i:Int) (o b n c:Nat) (inf:TypeInfo):D t->P.info? e=some inf->β t=.slice (some ⟨b,0,none⟩) n c->RV P S w β D (.pointer (some ⟨b,i.toNat*inf.size+o,none⟩)) (.bd t e i o)|sub (v:Value) (t:Nat) (e:TypeId) (lo hi:Nat) (inf:TypeInfo) (A A1:Option Addr) (n c:Nat):D t->P.info? e=some inf->β t=.slice A n c->lo<=hi->hi<=n->n<=c->(lo=0->A1=A)->(c≠lo->A1=A.map (·.add (lo*inf.size)))->v=.slice A1 (hi-lo) (c-lo)->RV P S w β D v (.sub t e lo hi)|rp (ad:Addr) (cs:List PV) (us:Nat->Value):S ad.block->(∀j,j<cs.length->w.cell? (ad.add j)=some (us j))->(∀(j:Nat) (p:PV),cs[j]?=some p->(us j).oneCell'=true)->(∀(j:Nat) (p:PV),cs[j]?=some p->dA S w (us j) p)->RV P S w β D (.pointer (some ad)) (.rp cs)|agg (cs:List AV) (us:List Value):us.length=cs.length->(∀(i:Nat) (c:AV) (u:Value),cs[i]?=some c->us[i]?=some u->RV P S w β D u c)->RV P S w β D (.agg us.toArray) (.agg cs)|aN (vs:List AV) (us:List Value):us.length=vs.length->(∀(i:Nat) (c:AV) (u:Value),vs[i]?=some c->us[i]?=some u->RV P S w β D u c)->RV P S w β D (.tuple us.toArray) (.aN vs)|bI (f:FuncId) (cs:List AV) (us:List Value):us.length=cs.length->(∀(i:Nat) (c:AV) (u:Value),cs[i]?=some c->us[i]?=some u->RV P S w β D u c)->RV P S w β D (.func (.func f) #[] us.toArray) (.bI f cs)|cx (g:Bool) (v:Value) (av:AV):(g=true->RV P S w β D v av)->(g=false->v=undef)->RV P S w β D v (.cx g av)|ak (v:Value):RV P S w β D v .ak
def gW (s:Nat) (es:List (PV×AV)):Prop:=∀e∈es,dP e.1=s
def getM (k:PV):List (PV×AV)->Option AV|[]=>none|e::l=>if oH k e.1=true then some e.2 else getM k l
def j7 (k:PV) (v:AV):List (PV×AV)->List (PV×AV)|[]=>[(k,v)]|e::l=>if oH k e.1=true then(k,v)::l else e::j7 k v l
def IY:Value->AV|.agg cs=>.agg (cs.toList.map cv)|v=>cv v
def bE (P:Program) (S:Nat->Prop) (w:World) (β:Nat->Value) (D:Nat->Prop) (t:Nat):AO->Prop|.box cs=>∃b us ty,β t=.pointer (some ⟨b,0,none⟩)/\w.heap[b]?=some (.cells us ty (0,0))/\us.size=cs.length/\∀(i:Nat) (c:AV) (u:Value),cs[i]?=some c->us[i]?=some u->u.oneCell'=true/\RV P S w β D u c|.arr e rows=>∃inf us,P.info? e=some inf/\w.ownsRow 0 e inf.size (β t) rows.length us/\(∀r,r∈rows->r.length=inf.size)/\∀(i j:Nat) (r:List PV) (p:PV),rows[i]?=some r->r[j]?=some p->∃u,us[i*inf.size+j]?=some u/\u.oneCell'=true/\dA S w u p|.map es=>∃(b:Nat) (us:Array MapEntry) (c:Nat),β t=.map (some b)/\w.heap[b]?=some (.map us c)/\us.toList.length=es.length/\∀(i:Nat) (e:PV×AV) (u:MapEntry),es[i]?=some e->us.toList[i]?=some u->u.key=ct e.1/\RV P S w β (fun _=>False) u.val e.2|.rws e cs=>∃inf us,P.info? e=some inf/\inf.size=1/\w.ownsRow 0 e inf.size (β t) cs.length us/\∀(i:Nat) (c:AV) (u:Value),cs[i]?=some c->us[i]?=some u->u.oneCell'=true/\RV P S w β D u c|.kk es=>∃(b:Nat) (us:Array MapEntry) (c:Nat),β t=.map (some b)/\w.heap[b]?=some (.map us c)/\MapKept.Stamped us c/\us.toList.length=es.length/\∀(i:Nat) (e:PV×PV) (u:MapEntry),es[i]?=some e->us.toList[i]?=some u->u.key=ct e.1/\dP e.1<99/\u.val.oneCell'=true/\dA S w u.val e.2|.yJ rem cur=>∃(r m:Nat) (us:Array MapEntry) (c:Nat) (seen:Array Nat),β t=.pointer (some ⟨r,0,none⟩)/\w.heap[r]?=some (.mapIter (some m) c seen c)/\S m/\w.heap[m]?=some (.map us c)/\MapKept.Stamped us c/\(leftOf us seen).toList.length=rem.length/\(∀(i:Nat) (e:PV×PV) (u:MapEntry),rem[i]?=some e->(leftOf us seen).toList[i]?=some u->u.key=ct e.1/\dP e.1<99/\u.val.oneCell'=true/\dA S w u.val e.2)/\∀e,cur=some e->∃(u:MapEntry) (seen':Array Nat),seen=seen'.push u.born/\u∈us.toList/\u.key=ct e.1/\dP e.1<99/\u.val.oneCell'=true/\dA S w u.val e.2
def aE (aa:Nat->Option α) (t:Nat):Prop:=∃o,aa t=some o
def live (β:Nat->Value) (aa:Nat->Option AO) (b:Nat):Prop:=∃t o,aa t=some o/\cI (β t)=some b
def bn (S0:Nat->Prop) (n0:Nat) (β:Nat->Value) (aa:Nat->Option AO) (w:World) (b:Nat):Prop:=(S0 b\/n0<=b)/\b<w.heap.size/\¬live β aa b
structure Heap (P:Program) (S:Nat->Prop) (w:World) (β:Nat->Value) (aa:Nat->Option AO):Prop where
 holds:∀t o,aa t=some o->bE P S w β (aE aa) t o
 inj:∀t t' b,aE aa t->aE aa t'->cI (β t)=some b->cI (β t')=some b->t=t'
structure DG (L:Nat->Prop) (w w':World):Prop where
 os:w'.os=w.os
 tape:w'.tape=w.tape
 output:w'.output=w.output
 size:w.heap.size<=w'.heap.size
 block:∀b,b<w.heap.size->¬L b->w'.heap[b]?=w.heap[b]?
def Hh (P:Program) (t:TypeId):Bool:=P.cutTypes.toList.any fun c=>c.2==t||P.underlyingId c.2==t
def LK (P:Program):Bool:=P.follows .mixedOrders&&(List.range P.types.size).all fun t=>Hh P t||!P.stoodInHeld t
def P8 (h:LK P=true):P.follows .mixedOrders=true:=(Bool.and_eq_true_iff.1 h).1
def PU (h:LK P=true) (t:TypeId) (ht:t<P.types.size/\Hh P t=false):P.stoodInHeld t=false:=by simpa[ht.2]using q85.1 (Bool.and_eq_true_iff.1 h).2 t (q142.2 ht.1)
structure Rel (P:Program) (S0:Nat->Prop) (L:Nat->Prop) (B0:Nat->Value) (w0:World) (N:Nat) (st:St) (a:Act) (w:World) (β:Nat->Value):Prop where
 size:a.tmps.size=N
 defers:a.defers=[]
 vars:∀s,RV P (bn S0 w0.heap.size β st.aa w) w β (aE st.aa) (a.tmps.getD s undef) (st.vars s)
 heap:Heap P (bn S0 w0.heap.size β st.aa w) w β st.aa
 old:∀t b,aE st.aa t->cI (β t)=some b->w0.heap.size<=b\/L b
 uL:N<=998/\∀t,t<P.types.size/\Hh P t=false->P.stoodInHeld t=false
 Ar:∀t,t%1000=999->aE st.aa t->β t=B0 t
 cu:DG L w0 w
def bS:AV->Nat->Option AV|.agg cs,j=>cs[j]?|v,j=>if j=0 then some v else none
def cellAt:AV->Nat->Option AV|.aN vs,p=>(vs[p%1000]?).bind fun v=>bS v (p/1000)|v,p=>if p%1000=0 then bS v (p/1000) else none
def gQ (g:Nat->AV->AV) (j:Nat):List AV->List AV|[]=>[]|c::cs=>g (1000*j) c::gQ g (j+1) cs
def pg (g:Nat->AV->AV):AV->AV|.agg cs=>.agg (gQ g 0 cs)|v=>g 0 v
def jN (g:Nat->AV->AV) (i:Nat):List AV->List AV|[]=>[]|v::vs=>pg (fun p c=>g (p+i) c) v::jN g (i+1) vs
def dn (g:Nat->AV->AV):AV->AV|.aN vs=>.aN (jN g 0 vs)|v=>pg g v
def mX (d:Nat) (p:Nat):AV->AV|.fr _ _=>.own (d+1000*p)|v=>v
def LD (p:Nat):AV->AV|.fr _ _=>.own p|v=>v
def dO:Option AV->Option AO|some (.fr e rows)=>some (.arr e rows)|_=>none
def gR (j:Nat):List AV->List (Nat×AO)|[]=>[]|.fr e rows::cs=>(1000*j,.arr e rows)::gR (j+1) cs|_::cs=>gR (j+1) cs
def mU:AV->List (Nat×AO)|.agg cs=>gR 0 cs|.fr e rows=>[(0,.arr e rows)]|_=>[]
def ng (i:Nat):List AV->List (Nat×AO)|[]=>[]|v::vs=>(mU v).map (fun x=>(x.1+i,x.2))++ng (i+1) vs
def DU:AV->List (Nat×AO)|.aN vs=>ng 0 vs|v=>mU v
def jg:PV->Bool|.int _ _|.bool _|.str _|.nil|.val _=>true|.ro rows=>rows.isEmpty|.mp _|.mv _|.pt _=>false
def bP (rows:List (List PV)):Prop:=∀r∈rows,∀p∈r,jg p=true
def pM:AV->Prop|.pv p=>jg p=true|.fr _ rows=>bP rows|_=>False
def qG:List AV->Prop|[]=>True|c::cs=>pM c/\qG cs
def mA:AV->Prop|.agg cs=>qG cs|v=>pM v
def tD:List AV->Prop|[]=>True|c::cs=>mA c/\tD cs
def flat:AV->Prop|.aN vs=>tD vs|v=>mA v
def bF (f g:Nat->Option AO):Nat->Option AO:=fun t=>match f t with|some o=>some o|none=>g t
def yA (P:Program) (f:FuncId) (hin:List (Nat×AO)) (args:List AV) (hout:List (Nat×AO)) (r:AV):Prop:=∀(w:World) (S0:Nat->Prop) (β:Nat->Value) (vals:List Value),(∀b,S0 b->b<w.heap.size)->(∀t b,aE (ab hin) t->cI (β t)=some b->b<w.heap.size)->Heap P (bn S0 w.heap.size β (ab hin) w) w β (ab hin)->vals.length=args.length->(∀(i:Nat) (v:Value) (x:AV),vals[i]?=some v->args[i]?=some x->RV P (bn S0 w.heap.size β (ab hin) w) w β (aE (ab hin)) v x)->Calls P f vals.toArray w fun e w'=>∃v β',e=.returned v/\DG (live β (ab hin)) w w'/\Heap P (bn S0 w.heap.size β' (bF (ab hout) fun t=>dO (cellAt r t)) w') w' β' (bF (ab hout) fun t=>dO (cellAt r t))/\(∀t b,aE (bF (ab hout) fun t=>dO (cellAt r t)) t->cI (β' t)=some b->w.heap.size<=b\/live β (ab hin) b)/\RV P (bn S0 w.heap.size β' (bF (ab hout) fun t=>dO (cellAt r t)) w') w' β' (aE (bF (ab hout) fun t=>dO (cellAt r t))) v (dn LD r)
def KJ:AV->AV|.fr _ _=>.own 998|.aN [.fr _ _]=>.own 999|x=>x
def nb:List AV->List (Nat×AO)|[]=>[]|.fr e rows::_=>[(998,.arr e rows)]|.aN [.fr e rows]::_=>[(999,.arr e rows)]|_::l=>nb l
def cj:AV->AV|.bI _ [r,.fr _ _]=>r|r=>r
def eS:AV->List (Nat×AO)|.bI _ [_,.fr e rows]=>[(999,.arr e rows)]|_=>[]
def EX (P:Program) (f:FuncId) (ys:List AV) (x:AV):Prop:=∀(w:World) (S0:Nat->Prop) (β:Nat->Value) (vals:List Value),(∀b,S0 b->b<w.heap.size)->(∀t b,aE (ab (nb ys)) t->cI (β t)=some b->b<w.heap.size)->Heap P (bn S0 w.heap.size β (ab (nb ys)) w) w β (ab (nb ys))->vals.length=ys.length->(∀(i:Nat) (v:Value) (x:AV),vals[i]?=some v->(ys.map KJ)[i]?=some x->RV P (bn S0 w.heap.size β (ab (nb ys)) w) w β (aE (ab (nb ys))) v x)->Calls P f vals.toArray w fun e w'=>∃v β',e=.returned v/\DG (live β (ab (nb ys))) w w'/\Heap P (bn (fun b=>S0 b\/live β (ab (nb ys)) b) w.heap.size β' (bF (ab (eS x)) fun t=>dO (cellAt (cj x) t)) w') w' β' (bF (ab (eS x)) fun t=>dO (cellAt (cj x) t))/\(∀t b,aE (bF (ab (eS x)) fun t=>dO (cellAt (cj x) t)) t->cI (β' t)=some b->w.heap.size<=b\/live β (ab (nb ys)) b)/\(∀t,aE (ab (eS x)) t->aE (ab (nb ys)) t/\β' t=β t)/\RV P (bn (fun b=>S0 b\/live β (ab (nb ys)) b) w.heap.size β' (bF (ab (eS x)) fun t=>dO (cellAt (cj x) t)) w') w' β' (aE (bF (ab (eS x)) fun t=>dO (cellAt (cj x) t))) v (dn LD (cj x))
inductive HT (P:Program) (S:Nat->Prop) (w:World):Value->AV->List Nat->Prop|leaf (v:Value) (y:AV):RV P S w (fun _=>undef) (fun _=>False) v y->HT P S w v y []|fr (v:Value) (e:TypeId) (rows:List (List PV)) (inf:TypeInfo) (us:List Value):P.info? e=some inf->w.ownsRow 0 e inf.size v rows.length us->(∀r,r∈rows->r.length=inf.size)->(∀(i j:Nat) (r:List PV) (p:PV),rows[i]?=some r->r[j]?=some p->∃u,us[i*inf.size+j]?=some u/\u.oneCell'=true/\dA S w u p)->HT P S w v (.fr e rows) (cI v).toList|mf (b:Nat) (us:Array MapEntry) (c:Nat) (es:List (PV×PV)):w.heap[b]?=some (.map us c)->MapKept.Stamped us c->us.toList.length=es.length->(∀(i:Nat) (e:PV×PV) (u:MapEntry),es[i]?=some e->us.toList[i]?=some u->u.key=ct e.1/\dP e.1<99/\u.val.oneCell'=true/\dA S w u.val e.2)->HT P S w (.map (some b)) (.mf es) [b]|bx (b:Nat) (us:Array Value) (ty:TypeId) (cs:List AV) (bss:List (List Nat)):w.heap[b]?=some (.cells us ty (0,0))->us.size=cs.length->bss.length=cs.length->(∀(i:Nat) (u:Value),us[i]?=some u->u.oneCell'=true)->(∀(i:Nat) (c:AV) (u:Value) (bs:List Nat),cs[i]?=some c->us[i]?=some u->bss[i]?=some bs->HT P S w u c bs)->HT P S w (.pointer (some ⟨b,0,none⟩)) (.bx cs) (b::bss.flatten)|agg (us:List Value) (cs:List AV) (bss:List (List Nat)):us.length=cs.length->bss.length=cs.length->(∀(i:Nat) (c:AV) (u:Value) (bs:List Nat),cs[i]?=some c->us[i]?=some u->bss[i]?=some bs->HT P S w u c bs)->HT P S w (.agg us.toArray) (.agg cs) bss.flatten|aN (us:List Value) (cs:List AV) (bss:List (List Nat)):us.length=cs.length->bss.length=cs.length->(∀(i:Nat) (c:AV) (u:Value) (bs:List Nat),cs[i]?=some c->us[i]?=some u->bss[i]?=some bs->HT P S w u c bs)->HT P S w (.tuple us.toArray) (.aN cs) bss.flatten
def IQ (P:Program) (S:Nat->Prop) (w:World) (vs:List Value) (ys:List AV) (bss:List (List Nat)):Prop:=vs.length=ys.length/\bss.length=ys.length/\∀(i:Nat) (y:AV) (v:Value) (bs:List Nat),ys[i]?=some y->vs[i]?=some v->bss[i]?=some bs->HT P S w v y bs
def MW:AV->AV|.aN [y]=>y|y=>y
def LY:AV->Bool|.aN [_]=>true|_=>false
def eW {α:Type}:List AV->List α->List α|y::ys,v::vs=>if LY y=true then v::eW ys vs else eW ys vs|_,_=>[]
def mr:AV->AV|.bI _ (r::_)=>r|r=>r
def mW:AV->List AV|.bI _ (_::os)=>os|_=>[]
def Fe (P:Program) (f:FuncId) (ys:List AV) (x:AV):Prop:=∀(w:World) (S0:Nat->Prop) (vals:List Value) (bss:List (List Nat)),(∀b,S0 b->b<w.heap.size/\b∉bss.flatten)->bss.flatten.Nodup->IQ P S0 w vals (ys.map MW) bss->Calls P f vals.toArray w fun e w'=>∃v bss',e=.returned v/\DG (·∈bss.flatten) w w'/\bss'.flatten.Nodup/\(∀b∈bss'.flatten,w.heap.size<=b\/b∈bss.flatten)/\IQ P (fun b=>(S0 b\/b∈bss.flatten\/w.heap.size<=b)/\b<w'.heap.size/\b∉bss'.flatten) w' (eW ys vals++[v]) (mW x++[mr x]) bss'
def Gv:AV->Bool|.agg []=>true|_=>false
def yS:Value->Bool|.agg cs=>cs.isEmpty|_=>false
def IH:Option AO->Option PV|some (.arr _ rows)=>some (.ro rows)|some (.map es)=>if es.all (fun e=>Gv e.2)=true then some (.mp (es.map (·.1))) else none|some (.kk es)=>some (.mv es)|_=>none
def eU (aa:Nat->Option AO):AV->Option PV|.pv .nil=>some (.ro [])|.pv p=>some p|.own t=>IH (aa t)|.sub t e lo hi=>(dx (aa t)).bind fun r=>if r.1=e then some (.ro ((r.2.take hi).drop lo)) else none|_=>none
def ja (aa:Nat->Option AO):List AV->Option (List PV)|[]=>some []|c::cs=>(eU aa c).bind fun p=>(ja aa cs).map (p::·)
def gj (aa:Nat->Option AO):AV->Option AV|.ptr t o=>(fT (aa t)).bind fun cs=>(ja aa (cs.drop o)).map .rp|.rp cs=>some (.rp cs)|.agg cs=>(ja aa cs).map fun ps=>.agg (ps.map .pv)|.bI f []=>some (.bI f [])|v=>(eU aa v).map .pv
def mE (aa:Nat->Option AO):List AV->Option (List AV)|[]=>some []|c::cs=>(gj aa c).bind fun p=>(mE aa cs).map (p::·)
def qD (aa:Nat->Option AO):AV->Option AV|.bI f caps=>(mE aa caps).map (.bI f)|v=>gj aa v
def gB (aa:Nat->Option AO):List AV->Option (List AV)|[]=>some []|c::cs=>(qD aa c).bind fun p=>(gB aa cs).map (p::·)
def iL:AV->Bool|.pv _|.rp _=>true|_=>false
def iY:List AV->Bool|[]=>true|c::cs=>iL c&&iY cs
def eL:AV->Bool|.agg cs=>iY cs|.bI _ cs=>iY cs|v=>iL v
def fB:List AV->Bool|[]=>true|c::cs=>eL c&&fB cs
def Vp:Option AO->Option AV|some (.arr e rows)=>some (.fr e rows)|some (.kk es)=>some (.mf es)|_=>none
def LM (f:AV->Option (AV×List Nat)):List AV->Option (List AV×List Nat)|[]=>some ([],[])|c::cs=>(f c).bind fun r=>(LM f cs).map fun q=>(r.1::q.1,r.2++q.2)
def rd:Nat->(Nat->Option AO)->AV->Option (AV×List Nat)|0,_,_=>none|n+1,aa,x=>match x with|.own t=>(Vp (aa t)).map fun y=>(y,[t])|.ptr t 0=>(fT (aa t)).bind fun cs=>(LM (rd n aa) cs).map fun r=>(.bx r.1,t::r.2)|.agg cs=>(LM (rd n aa) cs).map fun r=>(.agg r.1,r.2)|.pv p=>some (.pv p,[])|.rp cs=>some (.rp cs,[])|.bI f []=>some (.bI f [],[])|_=>none
def tk:Bool->List Nat×List Nat->Option (Nat×List Nat×List Nat)|true,(p::ps,us)=>some (p,ps,us)|false,(ps,u::us)=>some (u,ps,us)|_,_=>none
def pS (f:AV->List Nat×List Nat->Option (AV×List (Nat×AO)×List Nat×List Nat)):List AV->List Nat×List Nat->Option (List AV×List (Nat×AO)×List Nat×List Nat)|[],s=>some ([],[],s)|c::cs,s=>(f c s).bind fun r=>(pS f cs r.2.2).map fun q=>(r.1::q.1,r.2.1++q.2.1,q.2.2)
def num:Nat->Bool->AV->List Nat×List Nat->Option (AV×List (Nat×AO)×List Nat×List Nat)|0,_,_,_=>none|n+1,top,y,s=>match y with|.fr e rows=>(tk top s).map fun q=>(.own q.1,[(q.1,.arr e rows)],q.2)|.mf es=>(tk top s).map fun q=>(.own q.1,[(q.1,.kk es)],q.2)|.bx cs=>(tk top s).bind fun q=>(pS (num n false) cs q.2).map fun r=>(.ptr q.1 0,(q.1,.box r.1)::r.2.1,r.2.2)|.agg cs=>(pS (num n top) cs s).map fun r=>(.agg r.1,r.2)|.aN cs=>(pS (num n top) cs s).map fun r=>(.aN r.1,r.2)|.pv p=>some (.pv p,[],s)|.rp cs=>some (.rp cs,[],s)|.bI f caps=>if iY caps=true then some (.bI f caps,[],s) else none|_=>none
def uB:AV->List Nat|.own t=>[t]|.ptr t 0=>[t]|_=>[]
def uK:AV->List Nat|.agg cs=>cs.flatMap uB|x=>uB x
def eX (W:List Nat):AV->AV|.own t=>if W.contains t then .ak else .own t|.ptr t o=>if W.contains t then .ak else .ptr t o|.bd t e i o=>if W.contains t then .ak else .bd t e i o|.sub t e lo hi=>if W.contains t then .ak else .sub t e lo hi|.pv p=>.pv p|.rp cs=>.rp cs|.bI f []=>.bI f []|_=>.ak
def jG (W:List Nat):AV->AV|.agg cs=>.agg (cs.map (eX W))|v=>eX W v
def mL (W:List Nat):AV->AV|.aN cs=>.aN (cs.map (jG W))|.bI f cs=>.bI f (cs.map (jG W))|.cx g v=>.cx g (mL W v)|v=>jG W v
def gg (W:List Nat) (v:AV):AV:=if W.isEmpty=true then v else mL W v
def Aw (W:List Nat):AO->AO|.box cs=>.box (cs.map (eX W))|.rws e cs=>.rws e (cs.map (eX W))|o=>o
def ku (W:List Nat) (o:AO):AO:=if W.isEmpty=true then o else Aw W o
def ji (W:List Nat) (f:Nat->AV):Nat->AV:=fun s=>gg W (f s)
def fS (T W:List Nat) (f:Nat->Option AO):Nat->Option AO:=fun t=>if T.contains t then none else(f t).map (ku W)
def Im (aa objs':Nat->Option AO) (T:List Nat):List Nat->List AV->Option (List AV)|[],[]=>some []|k::ks,x::xs=>(if k=0 then qD objs' (gg T x) else if k=1 then(rd 5 aa x).map (·.1) else(rd 5 aa x).map fun r=>.aN [r.1]).bind fun y=>(Im aa objs' T ks xs).map (y::·)|_,_=>none
def gy (aa:Nat->Option AO):List Nat->List AV->List Nat|k::ks,x::xs=>(if k=0 then[] else((rd 5 aa x).map (·.2)).getD [])++gy aa ks xs|_,_=>[]
def fC:List Nat->List AV->List AV|k::ks,x::xs=>if 1<k then x::fC ks xs else fC ks xs|_,_=>[]
def gn (T:List Nat):List Nat->List AV->Bool|k::ks,x::xs=>(k !=0||eL (gg T x))&&gn T ks xs|_,_=>true
def jf:Nat->AV->Prop|0,_=>False|n+1,y=>match y with|.fr _ rows=>bP rows|.mf es=>∀e∈es,jg e.2=true|.bx cs|.agg cs|.aN cs=>∀c∈cs,jf n c|.pv p=>jg p=true|.bI _ []=>True|_=>False
def aU (d:Nat) (r:AV):List (Nat×AO):=(DU r).map fun x=>(d+1000*x.1,x.2)
def cd (l:List α) (o:Nat) (ps:List α):List α:=l.take o++ps++l.drop (o+ps.length)
def cq (t:Nat):AV->AV|.own s=>if s=t then .ak else .own s|.bd s e i o=>if s=t then .ak else .bd s e i o|.sub s e i o=>if s=t then .ak else .sub s e i o|.pv p=>.pv p|.ptr s o=>.ptr s o|.rp cs=>.rp cs|.bI f []=>.bI f []|_=>.ak
def cf (t:Nat):List AV->List AV|[]=>[]|c::cs=>cq t c::cf t cs
def kill (t:Nat):AV->AV|.agg cs=>.agg (cf t cs)|.aN cs=>.aN (cf t cs)|.cx g v=>.cx g (kill t v)|v=>cq t v
def eM (t:Nat):AO->AO|.box cs=>.box (cf t cs)|.rws e cs=>.rws e (cf t cs)|o=>o
def cO (t:Nat) (f:Nat->AV):Nat->AV:=fun s=>kill t (f s)
def dU (t:Nat) (f:Nat->Option AO):Nat->Option AO:=fun s=>(f s).map (eM t)
def cQ (k:AK) (d:Nat) (xs:List AV) (aa:Nat->Option AO):Option (Prop×AV×AO):=match k,xs with|.iU e,_=>some (True,.own d,.arr e [])|.box,[x]=>if gP (cellsOf x) then some (True,.ptr d 0,.box (cellsOf x)) else none|.alloc zs,_=>if zs.all (·.oneCell') then some (True,.ptr d 0,.box (zs.map cv)) else none|.uF e sz,xs=>(rowsOf xs).map fun rows=>(∀r∈rows,r.length=sz,.own d,.arr e rows)|.app e sz bytes,[.pv .nil,x]=>(dk aa x).map fun rows=>(rows.length*bytes<=140737488355328/\rows.length<=maxLen/\(∀r∈rows,r.length=sz),.own d,.arr e rows)|_,_=>none
def fo (k:AK) (xs:List AV) (aa:Nat->Option AO):Option (Prop×Nat×AO):=match k,xs with|.store none,[.ptr t o,v]=>(fT (aa t)).bind fun cs=>if fk v/\o<cs.length then some (True,t,.box (cs.set o v)) else none|.store (some n),[.ptr t o,.agg vs]=>(fT (aa t)).bind fun cs=>if gP vs/\vs.length=n/\o+n<=cs.length then some (True,t,.box (cd cs o vs)) else none|.store none,[.bd t e i o,.pv p]=>(dx (aa t)).bind fun r=>if r.1=e/\o<(rowAt r.2 i).length/\fk (.pv p) then some (0<=i/\i<r.2.length,t,.arr e (r.2.set i.toNat ((rowAt r.2 i).set o p))) else none|.store (some n),[.bd t e i o,.agg vs]=>(dx (aa t)).bind fun r=>(fR vs).bind fun ps=>if r.1=e/\gP vs/\ps.length=n/\o+n<=(rowAt r.2 i).length then some (0<=i/\i<r.2.length,t,.arr e (r.2.set i.toNat (cd (rowAt r.2 i) o ps))) else none|.app e sz bytes,[.own t,x]=>(dx (aa t)).bind fun r=>(dk aa x).bind fun more=>if r.1=e/\t%1000≠999 then some ((r.2.length+more.length)*bytes<=140737488355328/\r.2.length+more.length<=maxLen/\(∀r∈more,r.length=sz),t,.arr e (r.2++more)) else none|_,_=>none
def aj (o:Option α) (K:α->Prop):Prop:=match o with|some x=>K x|none=>False
def sW (φ ψ:Prop) (c:Bool):AV->AV->Option (Prop×AV)|.pv (.bool x),.pv (.bool y)=>some ((c=true->φ)/\(c=false->ψ),.pv (.bool (cond c x y)))|.pv (.bool x),_=>some (c=true/\φ,.pv (.bool x))|_,.pv (.bool y)=>some (c=false/\ψ,.pv (.bool y))|_,_=>none
def jX:AV->Option Bool|.pv (.bool c)=>some c|_=>none
def vt:List AV->Option (Prop×AV)|[c,a,b]=>(jX (strip c)).bind fun g=>(sW (asks a) (asks b) g (strip a) (strip b)).map fun r=>(asks c/\r.1,r.2)|_=>none
def bK (os:List (Nat×AO)) (aa:Nat->Option AO):Nat->Option AO:=fun t=>match ab os t with|some o=>some o|none=>aa t
inductive bR where|put (v:AV)|new (v:AV) (os:List (Nat×AO))|yT (t:Nat) (o:AO)|app (t:Nat) (o:AO)
def bR.on (d:Option Nat):bR->St->St|.put v,st=>⟨Ab.put d v st.vars,st.aa⟩|.new v os,st=>⟨Ab.put d v st.vars,bK os st.aa⟩|.yT t o,st=>⟨Ab.put d .ak st.vars,ba t o st.aa⟩|.app t o,st=>⟨Ab.put d (.own t) (cO t st.vars),ba t o (dU t st.aa)⟩
def rN:List AV->Bool|.own _::_=>true|_=>false
def qL:AV->Bool|.aN vs=>decide (vs.length<=1000)|_=>true
def j5:AV->Bool|.pv _|.rp _|.fr _ _=>true|_=>false
def mZ:List AV->Bool|[]=>true|c::cs=>j5 c&&mZ cs
def nL:AV->Bool|.agg cs=>mZ cs|v=>j5 v
def ui:List AV->Bool|[]=>true|c::cs=>nL c&&ui cs
def dv:AV->Bool|.aN vs=>decide (vs.length<=900)&&ui vs|v=>nL v
def Jf:AV->Bool
 |.bx _|.mf _=>true|.agg cs=>cs.any fun c=>match c with|.bx _|.mf _=>true|_=>false
 |_=>false
def rQ:AV->Bool|.aN vs=>vs.any Jf|v=>Jf v
def lz (d:Nat):List Nat:=[d,d+1000,d+2000,d+3000,d+4000,d+5000,d+6000,d+7000]
def tN (r:AV):Prop:=if rQ r=true then jf 5 r else flat r
def ly (d:Nat) (r:AV):List (Nat×AO):=if rQ r=true then(((num 5 false r ([],lz d)).map (·.2.1)).getD []) else aU d r
def CO (d:Nat) (r:AV):AV:=if rQ r=true then(((num 5 false r ([],lz d)).map (·.1)).getD .ak) else dn (mX d) r
def BX (d:Nat) (r:AV):Bool:=if rQ r=true then(num 5 false r ([],lz d)).isSome else dv r
def Su (P:Program) (f:FuncId) (ys:List AV) (r:AV):Prop:=(rQ r=true->Fe P f ys (.bI 0 [r]))/\(rQ r=false->yA P f [] ys [] r)
abbrev b7:=FuncId->List AV->Option (Prop×AV)
def eG (P:Program) (Γ:b7):Prop:=∀f ys φ r,Γ f ys=some (φ,r)->φ->(f<1000000/\yA P f [] ys [] r)\/(P.funcs.size<=1000000/\1000000<=f/\f<2000000/\(ys=[.ak]\/EX P (f-1000000) ys r))\/(P.funcs.size<=1000000/\2000000<=f/\f<3000000/\(ys=[.ak]\/Fe P (f-2000000) ys r))\/(P.funcs.size<=1000000/\3000000<=f/\Fe P (f-3000000) ys (.bI 0 [r]))
def UC:Option (Prop×AV)->Option (Prop×AV)->Option (Prop×AV)|some x,_=>some (x.1/\rQ x.2=false,x.2)|none,y=>y.map fun x=>(x.1/\rQ x.2=true,x.2)
def gt (Γ:b7) (f:FuncId) (ys:List AV):Option (Prop×AV):=UC (Γ f ys) (Γ (f+3000000) ys)
def no3 {n f:Nat} (h:3000000<=f) (hn:n<=1000000):¬f<n:=by omega
def eG.Wj {Γ:b7} (h:eG P Γ) {f:FuncId} (hf:f<P.funcs.size) {ys:List AV}{φ:Prop}{r:AV} (hr:gt Γ f ys=some (φ,r)) (hφ:φ):Su P f ys r:=by unfold gt at hr;cases hg:Γ f ys with
 |some x=>
  rw[hg]at hr;have hr:some (x.1/\rQ x.2=false,x.2)=some (φ,r):=hr;simp only[qr,q69]at hr;obtain⟨rfl,rfl⟩:=hr;refine⟨fun e=>absurd (hφ.2.symm.trans e) q261,fun _=>?_⟩;rcases h f ys x.1 x.2 hg hφ.1 with⟨_,h⟩|⟨h,h2,_⟩|⟨h,h2,_⟩|⟨h,h2,_⟩;·exact h
  ·exact absurd hf (q204.2 (q113 h h2))
  ·exact absurd hf (q204.2 (q113 h (q113 (by decide) h2)))
  ·exact absurd hf (no3 h2 h)|none=>
  rw[hg]at hr;obtain⟨x,hx,hr⟩:=q900.1 (show(Γ (f+3000000) ys).map (fun x=>(x.1/\rQ x.2=true,x.2))=some (φ,r) from hr);simp only[q69]at hr;obtain⟨rfl,rfl⟩:=hr;refine⟨fun _=>?_,fun e=>absurd (e.symm.trans hφ.2) q261⟩;rcases h (f+3000000) ys x.1 x.2 hx hφ.1 with⟨h,_⟩|⟨_,_,h,_⟩|⟨_,_,h,_⟩|⟨_,_,h⟩;·exact absurd h (q204.2 (q113 (by decide) (q172 3000000 f)))
  ·exact absurd h (q204.2 (q113 (by decide) (q172 3000000 f)))
  ·exact absurd h (q204.2 (q172 3000000 f))
  ·rw[show f+3000000-3000000=f from q163 _ _]at h;exact h
def cS (P:Program) (Γ:b7) (d:Option Nat) (f:FuncId) (xs:List AV) (aa:Nat->Option AO) (C:bR->Prop):Prop:=aj d fun d=>aw xs/\aj (gB aa (xs.map strip)) fun ys=>aj (gt Γ f ys) fun x=>x.1/\(fB (xs.map strip)=true\/tN x.2)/\(∀y∈ly d x.2,aa y.1=none)/\BX d x.2=true/\C (.new (CO d x.2) (ly d x.2))
def bf (P:Program) (Γ:b7) (d:Option Nat) (k:AK) (xs:List AV) (aa:Nat->Option AO) (C:bR->Prop):Prop:=match k with|.qE=>aj xs.head? fun x=>xs.length=1/\C (.put x)|.pick=>aj (vt xs) fun x=>x.1/\C (.put x.2)|.iU _|.box|.alloc _|.uF _ _=>aj d fun d=>aw xs/\aj (cQ k d (xs.map strip) aa) fun x=>x.1/\aa d=none/\C (.new x.2.1 [(d,x.2.2)])|.store _=>aw xs/\aj (fo k (xs.map strip) aa) fun x=>x.1/\C (.yT x.2.1 x.2.2)|.app _ _ _=>aw xs/\if rN (xs.map strip) then aj (fo k (xs.map strip) aa) fun x=>x.1/\C (.app x.2.1 x.2.2) else aj d fun d=>aj (cQ k d (xs.map strip) aa) fun x=>x.1/\aa d=none/\C (.new x.2.1 [(d,x.2.2)])|.call f=>cS P Γ d f xs aa C|_=>aw xs/\aj (al k (xs.map strip) aa) fun x=>x.1/\C (.put x.2)
def DR (Γ:b7) (c:Bool) (f:FuncId) (xs:List AV) (aa:Nat->Option AO) (C:bR->Prop):Prop:=aj (gB aa (xs.map strip)) fun ys=>aj (gt Γ f ys) fun x=>(c=true->aw xs/\x.1)/\flat x.2/\DU x.2=[]/\dv x.2=true/\C (.put (.cx c x.2))
def O4:AV->AV|.fr _ rows=>.pv (.ro rows)|v=>v
def O2:AV->AV|.agg cs=>.agg (cs.map O4)|v=>O4 v
def unfr:AV->AV|.aN vs=>.aN (vs.map O2)|v=>O2 v
def LI:Option (List (List PV))->AV|some rows=>.cx false (.pv (.ro rows))|none=>.ak
def Cg (xs:List AV):AV:=LI (rowsOf (xs.map strip))
def cE (P:Program) (Γ:b7) (c:Bool) (d:Option Nat) (k:AK) (xs:List AV) (aa:Nat->Option AO) (C:bR->Prop):Prop:=match k with|.qE=>aj xs.head? fun x=>xs.length=1/\C (.put (.cx c x))|.pick=>aj (vt xs) fun x=>(c=true->x.1)/\C (.put (.cx c x.2))|.uF _ _=>(c=true->bf P Γ d k xs aa C)/\(c=false->C (.put (Cg xs)))|.iU _|.box|.alloc _|.store _|.app _ _ _=>(c=true->bf P Γ d k xs aa C)/\(c=false->C (.put .ak))|.call f=>aj (gB aa (xs.map strip)) fun ys=>aj (gt Γ f ys) fun x=>if(!rQ x.2&&(DU x.2).isEmpty)=true then(c=true->aw xs/\x.1)/\flat x.2/\DU x.2=[]/\dv x.2=true/\C (.put (.cx c x.2)) else(c=true->bf P Γ d k xs aa C)/\(c=false->C (.put (.cx false (unfr x.2))))|_=>aj (al k (xs.map strip) aa) fun x=>(c=true->aw xs/\x.1)/\C (.put (.cx c x.2))
def xj:Bool->Option Bool->Option Bool|false,_=>some false|true,o=>o
def bT:AV->Bool->Option Bool|.pv (.bool b),want=>some (if want then b else !b)|.cx c v,want=>xj c (bT v want)|_,_=>none
def lB (un:List Nat) (t:Nat):Prop:=un.contains (t%1000)=false
def yB (un:List Nat):AV->Prop|.own t|.ptr t _|.bd t _ _ _|.sub t _ _ _=>lB un t|_=>True
def jh (un:List Nat):List AV->Prop|[]=>True|c::cs=>yB un c/\jh un cs
def qt (un:List Nat) (aa:Nat->Option AO):AV->Prop|.ptr t _=>lB un t/\jh un ((fT (aa t)).getD [])|.agg cs=>jh un cs|v=>yB un v
def mI (un:List Nat) (aa:Nat->Option AO):List AV->Prop|[]=>True|c::cs=>qt un aa c/\mI un aa cs
def tz (un:List Nat) (aa:Nat->Option AO):AV->Prop|.bI _ cs=>mI un aa cs|v=>qt un aa v
def ll (un:List Nat) (aa:Nat->Option AO):List AV->Prop|[]=>True|c::cs=>tz un aa c/\ll un aa cs
def wZ:Option Nat->bR->Prop|none,_=>True|some s,.yT t _=>t=s|some _,_=>False
def mz (un:List Nat):bR->Prop|.app t _=>un.contains (t%1000+1000)=false|_=>True
def Ed (un:List Nat) (tg:Option Nat) (e:bR):Prop:=wZ tg e/\mz un e
def eA (P:Program) (Γ:b7) (i:AI) (vars:Nat->AV) (aa:Nat->Option AO) (C:bR->Prop):Prop:=match i.g with|none=>bf P Γ i.d i.k (i.xs.map (ev vars)) aa C|some (s,want)=>aj (bT (vars s) want) fun c=>cE P Γ c i.d i.k (i.xs.map (ev vars)) aa C
def dz (P:Program) (Γ:b7) (i:AI) (K:St->Prop) (st:St):Prop:=(i.un=[]\/ll i.un st.aa ((i.xs.map (ev st.vars)).map strip))/\eA P Γ i st.vars st.aa fun e=>Ed i.un i.tg e/\K (e.on i.d st)
def gz (P:Program) (f:FuncId):Bool:=match P.funcs[f]? with|some fn=>fn.name != "runtime.NumGoroutine" &&fn.body.isSome|none=>false
def mD:List AV->Option (FuncId×List AV)|.bI f caps::args=>some (f,args++caps)|.pv (.val v)::args=>(QH v).map fun f=>(f,args)|_=>none where QH:Value->Option FuncId|.func (.func f) ⟨[]⟩ ⟨[]⟩=>some f|_=>none
def fM:List AV->Bool|[]=>false|.ak::_=>true|.pv (.val _)::_=>true|.rp []::_=>true|_::l=>fM l
def NJ:Option Bool->Bool|some false=>true|_=>false
def je:Bool->Bool->Prop->Prop->Prop|false,_,A,_=>A|true,f,A,B=>if f=true then B else A
def sh (t:Nat) (e0:TypeId) (rows:List (List PV)):AV->AV|.own s=>if s=t then .pv (.ro rows) else .own s|.sub s e lo hi=>if s=t then(if e=e0 then .pv (.ro ((rows.take hi).drop lo)) else .ak) else .sub s e lo hi|v=>kill t v
def Ms (t:Nat) (e0:TypeId) (rows:List (List PV)) (f:Nat->AV):Nat->AV:=fun s=>sh t e0 rows (f s)
def lq (t:Nat) (f:Nat->Option AO):Nat->Option AO:=fun s=>if s=t then none else(f s).map (eM t)
def Xy (t:Nat) (e0:TypeId) (rows:List (List PV)):AV->AV|.own s=>if s=t then .pv (.ro rows) else .own s|.sub s e lo hi=>if s=t then(if e=e0 then .pv (.ro ((rows.take hi).drop lo)) else .ak) else .sub s e lo hi|c=>cq t c
def uE (t:Nat) (e0:TypeId) (rows:List (List PV)):List AV->List AV|[]=>[]|c::cs=>Xy t e0 rows c::uE t e0 rows cs
def Gw (t:Nat) (e0:TypeId) (rows:List (List PV)):AV->AV|.agg cs=>.agg (uE t e0 rows cs)|v=>sh t e0 rows v
def LU (t:Nat) (e0:TypeId) (rows:List (List PV)):AO->AO|.box cs=>.box (uE t e0 rows cs)|o=>eM t o
def shW (t:Nat) (e0:TypeId) (rows:List (List PV)) (f:Nat->AV):Nat->AV:=fun s=>Gw t e0 rows (f s)
def Fq (t:Nat) (e0:TypeId) (rows:List (List PV)) (f:Nat->Option AO):Nat->Option AO:=fun s=>if s=t then none else(f s).map (LU t e0 rows)
def jS (st:St):AV->St
 |.own t=>match dx (st.aa t) with|some r=>⟨shW t r.1 r.2 st.vars,Fq t r.1 r.2 st.aa⟩|none=>st
 |_=>st
def iC:St->List AV->St|st,[]=>st|st,c::cs=>iC (jS st c) cs
def share1 (st:St):AV->St|.agg cs=>iC st cs|v=>jS st v
def cU (st:St):List AV->St|[]=>st|v::l=>cU (share1 st v) l
def DZ:PV->PV|.nil=>.ro []|p=>p
def uI:AV->AV|.pv p=>.pv (DZ p)|c=>c
def nK:List AV->List AV|[]=>[]|c::cs=>uI c::nK cs
def yr:AV->AV|.agg cs=>.agg (nK cs)|v=>uI v
def xZ:AO->AO|.box cs=>.box (nK cs)|o=>o
def wX (st:St):St:=⟨fun s=>yr (st.vars s),fun s=>(st.aa s).map xZ⟩
def wQ:Option AO->Option (List (PV×PV))|some (.kk es)=>some es|_=>none
def shP (t:Nat) (es:List (PV×PV)):AV->AV|.own s=>if s=t then .pv (.mv es) else .own s|v=>kill t v
def CK (t:Nat) (st:St):St:=match wQ (st.aa t) with|some es=>⟨fun s=>shP t es (st.vars s),lq t st.aa⟩|none=>st
def AQ (t:Nat) (st:St):St:=if t=999996 then wX st else if 1000000000000000<=t then CK (t-1000000000000000) st else share1 st (.own t)
def cP:List Nat->St->St|[],st=>st|t::ts,st=>cP ts (AQ t st)
def LW:AV->Bool|.pv (.ro _)|.pv (.mp _)|.pv (.mv _)|.pv (.pt _)|.rp _=>true|_=>false
def Ht:List AV->Bool|[]=>false|c::cs=>LW c||Ht cs
def UR:AV->Bool|.agg cs=>Ht cs|v=>LW v
def H8:List AV->Bool|[]=>false|c::cs=>UR c||H8 cs
def Zy:AV->Bool|.aN vs=>H8 vs|v=>UR v
def xo (t:Nat) (st:St):St:=match dx (st.aa t) with|some _=>⟨cO t st.vars,lq t st.aa⟩|none=>st
def CC (P:Program) (Γ:b7) (d:Option Nat) (f:FuncId) (xs:List Operand) (K:St->Prop) (st:St):Prop:=cS P Γ d f (xs.map (ev st.vars)) st.aa fun e=>K (e.on d st)
def nM (P:Program) (Γ:b7) (i:AI) (f:FuncId) (K:St->Prop) (st:St):Prop:=aj (gB st.aa ((i.xs.map (ev st.vars)).map strip)) fun ys=>aj (gt Γ f ys) fun x=>if(Zy x.2&&!fB ((i.xs.map (ev st.vars)).map strip))=true then CC P Γ i.d f i.xs K (cU st ((i.xs.map (ev st.vars)).map strip)) else dz P Γ i K st
def frC:AV->Bool|.pv (.ro _)|.pv (.mp _)|.pv (.mv _)|.pv (.pt _)|.rp _|.fr _ _|.bx _|.mf _=>true|_=>false
def aaw:List AV->Bool|[]=>false|c::cs=>frC c||aaw cs
def fr1:AV->Bool|.agg cs=>aaw cs|v=>frC v
def frVs:List AV->Bool|[]=>false|c::cs=>fr1 c||frVs cs
def frR:AV->Bool|.aN vs=>frVs vs|v=>fr1 v
def sv (t:Nat):AV->Prop|.own s|.ptr s _|.bd s _ _ _|.sub s _ _ _=>s≠t|.pv _|.rp _|.ak=>True|.bI _ []=>True|_=>False
def xH (t:Nat):List AV->Prop|[]=>True|c::cs=>sv t c/\xH t cs
def vR (t:Nat):AV->Prop|.agg cs|.bI _ cs=>xH t cs|v=>sv t v
def m5 (t p:Nat):List AV->Prop|[]=>True|v::vs=>(match p with|0=>pQ vs|p+1=>vR t v/\m5 t p vs) where pQ:List AV->Prop|[]=>True|v::vs=>vR t v/\pQ vs
def hZ (aa:Nat->Option AO) (k:Nat):AV->Option (Nat×TypeId×List (List PV))|.own t=>(dx (aa t)).map fun r=>(t,r.1,r.2)|.sub t e 0 hi=>if k=998 then(dx (aa t)).bind fun r=>if r.1=e then some (t,e,r.2.take hi) else none else none|_=>none
def yO (k:Nat) (e:TypeId) (rows:List (List PV)):AV:=if k=998 then .fr e rows else .aN [.fr e rows]
def ud (aa:Nat->Option AO) (m:AV):Nat->List AV->Option (List AV)|_,[]=>some []|0,_::vs=>(gB aa vs).map (m::·)|p+1,v::vs=>(qD aa v).bind fun y=>(ud aa m p vs).map (y::·)
def kF:Nat->List AV->Bool|_,[]=>true|0,_::vs=>fB vs|p+1,v::vs=>eL v&&kF p vs
def rG:List (Nat×AO)->Prop|[]=>True|(_,.arr _ rows)::l=>bP rows/\rG l|_::l=>rG l
def cZ (t:Nat) (x:AV) (aa:Nat->Option AO):Nat->Option AO:=match eS x with|(_,o)::_=>ba t o aa|[]=>lq t aa
def jd (t:Nat) (x:AV) (vars:Nat->AV):Nat->AV:=match eS x with|_::_=>vars|[]=>cO t vars
def Gh:AV->Option (Nat×Nat)|.ptr p k=>if k=998\/k=999\/k=997\/k=996 then some (p,k) else none|_=>none
def ew (Γ:b7) (f:FuncId):Option (Nat×Nat):=(Γ (f+1000000) [.ak]).bind fun x=>Gh x.2
def my (P:Program) (Γ:b7) (d:Option Nat) (f:FuncId) (xs:List AV) (p k:Nat) (K:St->Prop) (st:St):Prop:=aj d fun d=>aw xs/\aj ((xs.map strip)[p]?) fun X=>aj (hZ st.aa k X) fun T=>m5 T.1 p (xs.map strip)/\aj (ud (lq T.1 st.aa) (yO k T.2.1 T.2.2) p (xs.map strip)) fun ys=>aj (Γ (f+1000000) ys) fun x=>x.1/\(kF p (xs.map strip)=true\/(flat (cj x.2)/\rG (eS x.2)))/\(∀y∈aU d (cj x.2),st.aa y.1=none)/\dv (cj x.2)=true/\K ⟨put (some d) (dn (mX d) (cj x.2)) (jd T.1 x.2 st.vars),bK (aU d (cj x.2)) (cZ T.1 x.2 st.aa)⟩
def uh (aa:Nat->Option AO):Nat->List AV->Option (List AV)|_,[]=>some []|0,.pv .nil::vs=>(gB aa vs).map (.pv .nil::·)|0,_::_=>none|p+1,v::vs=>(qD aa v).bind fun y=>(uh aa p vs).map (y::·)
def CN (P:Program) (Γ:b7) (d:Option Nat) (f:FuncId) (xs:List AV) (p:Nat) (K:St->Prop) (st:St):Prop:=aj d fun d=>aw xs/\aj (uh st.aa p (xs.map strip)) fun ys=>aj (Γ (f+1000000) ys) fun x=>x.1/\(fB (xs.map strip)=true\/flat x.2)/\(∀y∈aU d x.2,st.aa y.1=none)/\dv x.2=true/\K ⟨put (some d) (dn (mX d) x.2) st.vars,bK (aU d x.2) st.aa⟩
def Ss:AV->Option (List Nat)|.rp l=>some (l.map fun p=>match p with|.int _ n=>n.toNat|_=>0)|_=>none
def jO (Γ:b7) (f:FuncId):Option (List Nat):=(Γ (f+2000000) [.ak]).bind fun x=>Ss x.2
def rI (d:Nat) (T W:List Nat):List Nat:=W.filter (fun t=>t%1000 !=999)++[d,d+1000,d+2000,d+3000,d+4000,d+5000,d+6000,d+7000].filter fun t=>!T.contains t
def AU (Γ:b7) (d f:Nat) (ks:List Nat) (xs:List AV) (T Q W:List Nat) (K:St->Prop) (st:St) (ys:List AV):Prop:=aj (Γ (f+2000000) ys) fun x=>x.1/\(gn T ks xs=true\/∀y∈mW x.2++[mr x.2],jf 5 y)/\aj (pS (num 5 true) (mW x.2) (Q,rI d T W)) fun o=>o.1=fC ks xs/\aj (num 5 false (mr x.2) o.2.2) fun r=>(∀p∈o.2.1++r.2.1,T.contains p.1=true\/st.aa p.1=none)/\K ⟨put (some d) r.1 (ji W st.vars),bK (o.2.1++r.2.1) (fS T W st.aa)⟩
def AM (Γ:b7) (d f:Nat) (ks:List Nat) (xs:List AV) (T Q W:List Nat) (K:St->Prop) (st:St):Prop:=Q.Nodup/\aj (Im st.aa (fS T T st.aa) T ks xs) fun ys=>AU Γ d f ks xs T Q W K st ys
def Bw (Γ:b7) (d f:Nat) (ks:List Nat) (xs:List AV) (T Q:List Nat) (K:St->Prop) (st:St):Prop:=T.Nodup/\(∀t∈Q,t∈T)/\AM Γ d f ks xs T Q (T.filter fun t=>!Q.contains t) K st
def stepG (Γ:b7) (d:Option Nat) (f:FuncId) (xs:List AV) (ks:Option (List Nat)) (K:St->Prop) (st:St):Prop:=aj d fun d=>aw xs/\aj ks fun ks=>Bw Γ d f ks (xs.map strip) (gy st.aa ks (xs.map strip)) ((fC ks (xs.map strip)).flatMap uK) K st
def nc (P:Program) (Γ:b7) (i:AI) (f:FuncId) (s:Nat) (w:Bool) (o:Option (Nat×Nat)) (K:St->Prop) (st:St):Prop:=match o with|some (_,k)=>if k=996 then aj (bT (st.vars s) w) fun c=>if c=true then stepG Γ i.d f (i.xs.map (ev st.vars)) (jO Γ f) K st else K ((bR.put (.cx false .ak)).on i.d st) else False|none=>je (fM ((i.xs.map (ev st.vars)).map strip)) (NJ (bT (st.vars s) w)) (aj (bT (st.vars s) w) fun c=>aj (gB st.aa ((i.xs.map (ev st.vars)).map strip)) fun ys=>aj (gt Γ f ys) fun x=>if frR x.2=true then(if c=true then nM P Γ ⟨i.d,i.k,i.xs,none,[],none⟩ f K st else K ((bR.put (.cx false .ak)).on i.d st)) else dz P Γ i K st) (K ((bR.put (.cx false .ak)).on i.d st))
def GB (P:Program) (Γ:b7) (i:AI) (f:FuncId) (s:Nat) (w:Bool) (K:St->Prop) (st:St):Prop:=nc P Γ i f s w (ew Γ f) K st
def fI (P:Program) (Γ:b7) (d:Option Nat) (f:FuncId) (ys:List AV) (o:Option (Nat×Nat)) (K:St->Prop) (st:St):Prop:=match o with|some (_,k)=>if k=996 then stepG Γ d f ys (jO Γ f) K st else False|none=>cS P Γ d f ys st.aa fun e=>K (e.on d st)
def jr (P:Program) (Γ:b7) (d:Option Nat) (f:FuncId) (ys:List AV) (A:Prop) (c:Bool) (o:Option (Nat×Nat)) (K:St->Prop) (st:St):Prop:=match o with|some (_,k)=>if k=996 then(if c=true then A/\stepG Γ d f ys (jO Γ f) K st else K ((bR.put (.cx false .ak)).on d st)) else False|none=>DR Γ c f ys st.aa fun e=>(c=true->A)/\K (e.on d st)
def tu (P:Program) (Γ:b7) (d:Option Nat) (xs:List AV) (s:Nat) (w:Bool) (K:St->Prop) (st:St):Prop:=aj (bT (st.vars s) w) fun c=>aj (mD (xs.map strip)) fun x=>gz P x.1=true/\jr P Γ d x.1 x.2 (aw xs) c (ew Γ x.1) K st
def gS (P:Program) (Γ:b7) (d:Option Nat) (xs:List AV) (g:Option (Nat×Bool)) (K:St->Prop) (st:St):Prop:=match g with|none=>(aw xs/\aj (mD (xs.map strip)) fun x=>gz P x.1=true/\fI P Γ d x.1 x.2 (ew Γ x.1) K st)|some (s,w)=>je (fM (xs.map strip)) (NJ (bT (st.vars s) w)) (tu P Γ d xs s w K st) (K ((bR.put (.cx false .ak)).on d st))
def mK:List AV->Bool|[]=>true|.pv _::l=>mK l|_=>false
def ldT (aa:Nat->Option AO):AV->Option Nat|.ptr t _=>(fT (aa t)).bind fun cs=>if mK cs=true then some t else none|_=>none
def pw (T:List Nat) (st:St):List Nat->Prop|[]=>True|s::l=>aj (ldT st.aa (st.vars s)) (fun t=>T.contains t=false)/\pw T st l
def F7 (ks:Option (List Nat)) (aa:Nat->Option AO) (xs:List AV):List Nat:=match ks with|some ks=>gy aa ks xs|none=>[]
def jc (P:Program) (Γ:b7) (i:AI) (f:FuncId) (o:Option (Nat×Nat)) (K:St->Prop) (st:St):Prop:=match o with|some (p,k)=>if k=998 then i.un=[]/\my P Γ i.d f (i.xs.map (ev st.vars)) p k K st else if k=996 then pw (F7 (jO Γ f) st.aa ((i.xs.map (ev st.vars)).map strip)) st i.un/\stepG Γ i.d f (i.xs.map (ev st.vars)) (jO Γ f) K st else False|none=>dz P Γ ⟨i.d,i.k,i.xs,i.g,[],none⟩ K st
def cY (P:Program) (Γ:b7) (i:AI) (K:St->Prop) (st:St):Prop:=match i.k,i.tg,i.g with|.call f,some 999999,none=>jc P Γ i f (ew Γ f) K st|.mV,some 999999,none=>gS P Γ i.d (i.xs.map (ev st.vars)) none K st|_,_,_=>dz P Γ i K st
def steps (P:Program) (Γ:b7) (is:List AI) (K:St->Prop) (st:St):Prop:=match is with|[]=>K st|i::is=>cY P Γ i (fun st'=>steps P Γ is K st') st
def iS (P:Program) (Γ:b7) (i:AI) (f:FuncId) (o:Option (Nat×Nat)) (K:St->Prop) (st:St):Prop:=match o with|some (p,k)=>if k=997 then CN P Γ i.d f (i.xs.map (ev st.vars)) p K st else if k=996 then stepG Γ i.d f (i.xs.map (ev st.vars)) (jO Γ f) K st else my P Γ i.d f (i.xs.map (ev st.vars)) p k K st|none=>nM P Γ i f K st
def D5 (aa:Nat->Option AO) (e:TypeId) (zs:List Value):AV->Option (Nat×AO)|.own t=>(dx (aa t)).bind fun r=>if r.1=e then some (t,.arr e (List.replicate r.2.length (zs.map si))) else none|.sub t e1 lo hi=>(dx (aa t)).bind fun r=>if r.1=e/\e1=e then some (t,.arr e (r.2.take lo++List.replicate (hi-lo) (zs.map si)++r.2.drop hi)) else none|_=>none
def rl (d:Option Nat) (e:TypeId) (sz:Nat) (zs:List Value) (xs:List AV) (K:St->Prop) (st:St):Prop:=aw xs/\aj ((xs.map strip).head?) fun X=>aj (D5 st.aa e zs X) fun r=>K ((bR.yT r.1 r.2).on d st)
def cB (P:Program) (Γ:b7) (i:AI) (K:St->Prop) (st:St):Prop:=match i.g with|none=>dz P Γ i K st|some (s,w)=>je (fM ((i.xs.map (ev st.vars)).map strip)) (NJ (bT (st.vars s) w)) (dz P Γ i K st) (K ((bR.put (.cx false .ak)).on i.d st))
def BA:Option AO->Option (List (PV×AV))|some (.map es)=>some es|_=>none
def tX (d:Option Nat) (xs ys:List AV) (K:St->Prop) (st:St):Prop:=match ys with|[.pv (.int .u64 a),.pv (.int .u64 b),.pv (.int .u64 c)]=>aw xs/\(0<=a/\0<=b/\0<=c/\c<=1)/\K ⟨put d (.aN [.pv (.int .u64 ((a+b+c)%18446744073709551616)),.pv (.int .u64 ((a+b+c)/18446744073709551616))]) st.vars,st.aa⟩|_=>False
def nu (d:Option Nat) (e:TypeId) (bytes:Nat) (zs:List Value) (xs ys:List AV) (K:St->Prop) (st:St):Prop:=match ys with|[.pv .nil,.pv (.int .i64 n)]=>aj d fun d=>aw xs/\(0<=n/\n<=140737488355328/\n.toNat*bytes<=140737488355328)/\st.aa d=none/\K ⟨put (some d) (.own d) st.vars,bK [(d,.arr e (List.replicate n.toNat (zs.map si)))] st.aa⟩|_=>False
def tB (d:Option Nat) (e:TypeId) (bytes:Nat) (zs:List Value) (xs ys:List AV) (K:St->Prop) (st:St):Prop:=match ys with|[.pv (.int _ n),.pv (.int _ c)]=>aj d fun d=>aw xs/\(c=n/\0<=n/\n<=140737488355328/\n.toNat*bytes<=140737488355328)/\st.aa d=none/\K ⟨put (some d) (.own d) st.vars,bK [(d,.arr e (List.replicate n.toNat (zs.map si)))] st.aa⟩|_=>False
def Ud (d:Option Nat) (e:TypeId) (xs ys:List AV) (K:St->Prop) (st:St):Prop:=aj d fun d=>aw xs/\gP ys=true/\st.aa d=none/\K ⟨put (some d) (.own d) st.vars,bK [(d,.rws e ys)] st.aa⟩
def sR (d:Option Nat) (e:TypeId) (sz:Nat) (xs ys:List AV) (K:St->Prop) (st:St):Prop:=aj d fun d=>aw xs/\aj (rowsOf ys) fun rows=>(∀r∈rows,r.length=sz)/\st.aa d=none/\K ⟨put (some d) (.own d) st.vars,bK [(d,.arr e rows)] st.aa⟩
def Ln:List AV->Option (Nat×Nat)|[]=>none|c::l=>match c with|.own q=>some (0,q)|_=>(Ln l).map fun r=>(r.1+1,r.2)
def Qe (d:Option Nat) (X Y:AV) (xs:List AV) (K:St->Prop) (st:St):Prop:=match X,Y with|.bd t e i o,.own q=>aw xs/\aj (dx (st.aa t)) fun r=>(r.1=e/\o=0)/\(0<=i/\i<r.2.length/\(rowAt r.2 i).length=1)/\K ⟨put d .ak st.vars,ba t (.rws e ((r.2.map fun x=>AV.pv (x.getD 0 .nil)).set i.toNat (.own q))) st.aa⟩|_,_=>False
def KH (d:Option Nat) (X:AV) (xs:List AV) (K:St->Prop) (st:St):Prop:=match X with|.own t=>aw xs/\aj (rwsO (st.aa t)) fun r=>aj (Ln r.2) fun j=>aj (dx (st.aa j.2)) fun s=>aj (fR (r.2.set j.1 (.pv (.ro s.2)))) fun ps=>K ⟨put d (.own t) (Ms j.2 s.1 s.2 st.vars),ba t (.arr r.1 (ps.map fun p=>[p])) (lq j.2 st.aa)⟩|_=>False
def ZW:Option AO->Option (List (PV×PV)×Option (PV×PV))|some (.yJ rem cur)=>some (rem,cur)|_=>none
def nJ (k v:PV):List (PV×PV)->List (PV×PV)|[]=>[(k,v)]|e::l=>if oH k e.1=true then(k,v)::l else e::nJ k v l
def D4 (k:PV):List (PV×PV)->List (PV×PV)|[]=>[]|e::l=>if oH k e.1=true then l else e::D4 k l
def To:AV->Option Bool
 |.ptr _ _|.bd _ _ _ _|.rp _|.pv (.pt _)=>some false|.pv (.val v)=>match v with|.pointer none=>some true|_=>none
 |_=>none
def tK (d:Option Nat) (s:Nat) (X Y Z:AV) (xs:List AV) (K:St->Prop) (st:St):Prop:=match X,Y,Z with|.own t,.pv k,.pv v=>aw xs/\aj (wQ (st.aa t)) fun es=>dP k=s/\iP s es/\K ⟨put d .ak st.vars,ba t (.kk (nJ k v es)) st.aa⟩|_,_,_=>False
def LC (aa:Nat->Option AO):AV->Option (List (PV×PV))|.own t=>wQ (aa t)|.pv (.mv es)=>some es|_=>none
def zG (d:Option Nat) (s:Nat) (z:Value) (ok:Bool) (X Y:AV) (xs:List AV) (K:St->Prop) (st:St):Prop:=match Y with|.pv k=>aw xs/\aj (LC st.aa X) fun es=>z.oneCell'=true/\dP k=s/\iP s es/\K ⟨put d (Bk z ok (mS k es)) st.vars,st.aa⟩|_=>False
def O3 (d:Option Nat) (s:Nat) (X Y:AV) (xs:List AV) (K:St->Prop) (st:St):Prop:=match X,Y with|.own t,.pv k=>aw xs/\aj (wQ (st.aa t)) fun es=>dP k=s/\iP s es/\K ⟨put d .ak st.vars,ba t (.kk (D4 k es)) st.aa⟩|_,_=>False
def PR (d:Option Nat) (X:AV) (xs:List AV) (K:St->Prop) (st:St):Prop:=match X with|.pv (.mv es)=>aj d fun d=>aw xs/\st.aa d=none/\K ⟨put (some d) (.ptr d 0) st.vars,bK [(d,.yJ es none)] st.aa⟩|_=>False
def Ps (d:Option Nat) (X:AV) (xs:List AV) (K:St->Prop) (st:St):Prop:=match X with|.ptr t 0=>aw xs/\aj (ZW (st.aa t)) fun r=>(r.1=[]->K ⟨put d (.aN [.pv (.bool false)]) st.vars,st.aa⟩)/\∀(e:PV×PV) (l m:List (PV×PV)),r.1=l++e::m->K ⟨put d (.aN [.pv (.bool true),.pv e.1,.pv e.2]) st.vars,ba t (.yJ (l++m) (some e)) st.aa⟩|_=>False
def PX (d:Option Nat) (X:AV) (xs:List AV) (K:St->Prop) (st:St):Prop:=match X with|.ptr t 0=>aw xs/\aj (ZW (st.aa t)) fun r=>aj r.2 fun e=>K ⟨put d (.aN [.pv e.1,.pv e.2]) st.vars,st.aa⟩|_=>False
def tm (d:Option Nat) (x:XK) (xs ys:List AV) (K:St->Prop) (st:St):Prop:=match x,ys with|.rst,[X,Y]=>Qe d X Y xs K st|.YT,[X]=>KH d X xs K st|.mkv,[]=>aj d fun d=>st.aa d=none/\K ⟨put (some d) (.own d) st.vars,bK [(d,.kk [])] st.aa⟩|.XF s,[X,Y,Z]=>tK d s X Y (sS Z) xs K st|.IS s z ok,[X,Y]=>zG d s z ok X Y xs K st|.dlv s,[X,Y]=>O3 d s X Y xs K st|.aaY ne,[X]=>aw xs/\aj (To X) fun b=>K ⟨put d (.pv (.bool (b !=ne))) st.vars,st.aa⟩|.rng,[X]=>PR d X xs K st|.nxt,[X]=>Ps d X xs K st|.ent,[X]=>PX d X xs K st|.pj e sz,ys=>sR d e sz xs ys K st|_,_=>False
def bH (d:Option Nat) (x:XK) (xs:List AV) (K:St->Prop) (st:St):Prop:=match x,xs.map strip with|.mkm,[]=>aj d fun d=>st.aa d=none/\K ⟨put (some d) (.own d) st.vars,bK [(d,.map [])] st.aa⟩|.Kk s,[.own t,.pv k,v]=>aw xs/\aj (BA (st.aa t)) fun es=>dP k=s/\gW s es/\eL v=true/\K ⟨put d .ak st.vars,ba t (.map (j7 k v es)) st.aa⟩|.G2 s z ok,[.own t,.pv k]=>aw xs/\aj (BA (st.aa t)) fun es=>dP k=s/\gW s es/\K ⟨put d (if ok=true then .aN [(getM k es).getD (IY z),.pv (.bool (getM k es).isSome)] else(getM k es).getD (IY z)) st.vars,st.aa⟩|.B7,ys=>tX d xs ys K st|.yQ ne,[X]=>aw xs/\aj (gr st.aa X) fun rows=>∀b:Bool,(rows≠[]->b=false)->K ⟨put d (.pv (.bool (if ne=true then !b else b))) st.vars,st.aa⟩|.Li,[.pv .nil]=>aw xs/\K ⟨put d (.pv (.int .i64 0)) st.vars,st.aa⟩|.IA e sz bytes zs,ys=>nu d e bytes zs xs ys K st|.Sv e,ys=>Ud d e xs ys K st|.WZ e bytes zs,ys=>tB d e bytes zs xs ys K st|.G2 s z ok,[.pv (.mp ks),.pv k]=>aw xs/\yS z=true/\dP k=s/\(∀x∈ks,dP x=s)/\K ⟨put d (if ok=true then .aN [.agg [],.pv (.bool (ks.any (oH k)))] else .agg []) st.vars,st.aa⟩|.mark,[.own t]=>aw xs/\aj (dx (st.aa t)) fun r=>r.2≠[]/\K ⟨put d (.pv (.ro r.2)) (Ms t r.1 r.2 st.vars),lq t st.aa⟩|x,ys=>tm d x xs ys K st
def Ci (d:Option Nat) (s t:Nat) (k v:AV) (xs:List AV) (K:St->Prop) (st:St):Prop:=match k with|.pv k=>aw xs/\aj (BA (st.aa t)) fun es=>dP k=s/\gW s es/\eL v=true/\K ⟨put d .ak st.vars,ba t (.map (j7 k v es)) st.aa⟩|_=>False
def Di (d:Option Nat) (s t:Nat) (z:Value) (ok:Bool) (k:AV) (xs:List AV) (K:St->Prop) (st:St):Prop:=match k with|.pv k=>aw xs/\aj (BA (st.aa t)) fun es=>dP k=s/\gW s es/\K ⟨put d (if ok=true then .aN [(getM k es).getD (IY z),.pv (.bool (getM k es).isSome)] else(getM k es).getD (IY z)) st.vars,st.aa⟩|_=>False
def wz (d:Option Nat) (s:Nat) (ks:List PV) (z:Value) (ok:Bool) (k:AV) (xs:List AV) (K:St->Prop) (st:St):Prop:=match k with|.pv k=>aw xs/\yS z=true/\dP k=s/\(∀x∈ks,dP x=s)/\K ⟨put d (if ok=true then .aN [.agg [],.pv (.bool (ks.any (oH k)))] else .agg []) st.vars,st.aa⟩|_=>False
def nf (d:Option Nat) (x:AV) (xs:List AV) (K:St->Prop) (st:St):Prop:=match x with|.pv .nil=>aw xs/\K ⟨put d (.pv (.int .i64 0)) st.vars,st.aa⟩|_=>False
def Ky (d:Option Nat) (ne:Bool) (rows:List (List PV)) (K:St->Prop) (st:St):Prop:=∀b:Bool,(rows≠[]->b=false)->K ⟨put d (.pv (.bool (if ne=true then !b else b))) st.vars,st.aa⟩
def EL (i:AI) (x:XK) (s:Nat) (w:Bool) (K:St->Prop) (st:St):Prop:=aj (bT (st.vars s) w) fun c=>if c=true then bH i.d x (i.xs.map (ev st.vars)) K st else K ((bR.put (.cx false .ak)).on i.d st)
def shA (t:Nat) (rows:List (List PV)):AV->AV|.own s=>if s=t then .pv (.ro rows) else .own s|v=>kill t v
def EW (t:Nat) (rows:List (List PV)) (f:Nat->AV):Nat->AV:=fun s=>shA t rows (f s)
def Kr (aa:Nat->Option AO) (e:TypeId):List AV->Option (Nat×List (List PV)×List (List PV))|[.own t,x]=>(dx (aa t)).bind fun r=>(dk aa x).bind fun more=>if r.1=e then some (t,r.2,more) else none|_=>none
def Az (d:Option Nat) (e:TypeId) (sz bytes:Nat) (xs:List AV) (K:St->Prop) (st:St):Prop:=aw xs/\aj (Kr st.aa e (xs.map strip)) fun r=>((r.2.1.length+r.2.2.length)*bytes<=140737488355328/\r.2.1.length+r.2.2.length<=maxLen/\(∀q∈r.2.2,q.length=sz))/\r.1%1000≠999/\K ⟨put d (.pv (.ro (r.2.1++r.2.2))) (EW r.1 r.2.1 st.vars),lq r.1 st.aa⟩
def apsM (i:AI):Option (TypeId×Nat×Nat):=match i.k,i.tg,i.g with|.app e sz b,some 999998,none=>some (e,sz,b)|_,_,_=>none
def M8 (x:XK) (i:AI) (st:St):St:=match x with|.XF _=>cU st ((i.xs.map (ev st.vars)).map strip)|_=>st
def kv (P:Program) (Γ:b7) (i:AI) (K:St->Prop) (st:St):Prop:=match i.k,i.g with|.ex x,none=>bH i.d x (i.xs.map (ev (M8 x i st).vars)) K (M8 x i st)|.ex x,some (s,w)=>EL i x s w K st|.uF _ _,_=>cB P Γ i K (cU st ((i.xs.map (ev st.vars)).map strip))|.LA e sz zs,none=>rl i.d e sz zs (i.xs.map (ev st.vars)) K st|.call f,some (s,w)=>GB P Γ i f s w K st|.mV,g=>gS P Γ i.d (i.xs.map (ev st.vars)) g K st|.call f,none=>iS P Γ i f (ew Γ f) K st|.iU _,_=>dz P Γ i K (xo (i.d.getD 0) st)|_,_=>cB P Γ i K st
def cn (P:Program) (Γ:b7) (i:AI) (K:St->Prop) (st:St):Prop:=match apsM i with|some r=>if rN ((i.xs.map (ev st.vars)).map strip)=true then Az i.d r.1 r.2.1 r.2.2 (i.xs.map (ev st.vars)) K st else kv P Γ i K st|none=>kv P Γ i K st
def dj (P:Program) (Γ:b7) (is:List AI) (K:St->Prop) (st:St):Prop:=match is with|[]=>K st|i::is=>cn P Γ i (fun st'=>dj P Γ is K st') st
def km (bU:List Nat) (f:Nat->AV):Nat->AV:=fun s=>if bU.contains s then f s else .ak
structure Fr where
 vs:List (Nat×AV)
 os:List (Nat×AO)
def Fr.st (f:Fr):St:=⟨look f.vs,ab f.os⟩
def lr (os:List (Nat×AO)):AV->Prop|.own t|.ptr t _|.bd t _ _ _|.sub t _ _ _=>aE (ab os) t|.pv _|.rp _|.ak=>True|_=>False
def iq (os:List (Nat×AO)):List AV->Prop|[]=>True|c::cs=>lr os c/\iq os cs
def mF (os:List (Nat×AO)):AV->Prop|.agg cs|.bI _ cs|.aN cs=>iq os cs|.cx _ v=>lr os v|v=>lr os v
def zQ (os:List (Nat×AO)):AO->Prop|.box cs=>iq os cs|.arr _ _=>True|.map _=>True|.kk _=>True|.yJ _ _=>True|.rws _ cs=>iq os cs
def SB (ad:List Nat) (st:St) (os:List (Nat×AO)):List (Nat×AV)->Prop|[]=>True|(s,v)::l=>(v=.ak\/(st.vars s=v/\mF os v)\/(∃t,v=.own t/\ad.contains t=true/\aE (ab os) t/\st.vars s=.pv .nil))/\SB ad st os l
def QL (P:Program) (ad:List Nat) (st:St) (os:List (Nat×AO)):List (Nat×AO)->Prop|[]=>True|(t,o)::l=>((st.aa t=some o/\ad.contains t=false/\zQ os o)\/(∃e,o=.arr e []/\ad.contains t=true/\st.aa t=none/\(P.info? e).isSome=true/\t%1000≠999))/\QL P ad st os l
def wk (P:Program) (ad:List Nat) (st:St) (f:Fr):Prop:=SB ad st f.os f.vs/\QL P ad st f.os f.os
def da (st:St):List (Nat×Option (Option Nat))->(List AV->Prop)->Prop|[],C=>C []|(t,none)::l,C=>da st l fun vs=>C (st.vars t::vs)|(a,some n)::l,C=>aj (al (.load n) [st.vars a] st.aa) fun x=>x.1/\da st l fun vs=>C (x.2::vs)
def bZ:List AV->AV|[v]=>v|vs=>.aN vs
def yj (P:Program) (aa:Nat->Option AO) (v r:AV):Prop:=match r with|.fr e rows=>(∃t,v=.own t/\aa t=some (.arr e rows))\/(v=.pv .nil/\rows=[]/\(P.info? e).isSome=true)\/(∃t hi rs,v=.sub t e 0 hi/\aa t=some (.arr e rs)/\rows=rs.take hi)|r=>v=r/\j5 r=true
def Bc (P:Program) (aa:Nat->Option AO):List AV->List AV->Prop|[],[]=>True|c::cs,r::rs=>yj P aa c r/\Bc P aa cs rs|_,_=>False
def Gm (P:Program) (aa:Nat->Option AO) (v r:AV):Prop:=match v,r with|.agg cs,.agg rs=>Bc P aa cs rs|.agg _,_=>False|v,r=>yj P aa v r
def BR (P:Program) (aa:Nat->Option AO):List AV->List AV->Prop|[],[]=>True|c::cs,r::rs=>Gm P aa c r/\BR P aa cs rs|_,_=>False
def fz (P:Program) (aa:Nat->Option AO) (v r:AV):Prop:=match v,r with|.aN vs,.aN rs=>vs.length<=1000/\BR P aa vs rs|.aN _,_=>False|v,r=>Gm P aa v r
def sG (j:Nat):List AV->List (Nat×Nat)|[]=>[]|.own t::cs=>(1000*j,t)::sG (j+1) cs|.sub t _ _ _::cs=>(1000*j,t)::sG (j+1) cs|_::cs=>sG (j+1) cs
def Tp:AV->List (Nat×Nat)|.agg cs=>sG 0 cs|.own t=>[(0,t)]|.sub t _ _ _=>[(0,t)]|_=>[]
def EZ (i:Nat):List AV->List (Nat×Nat)|[]=>[]|v::vs=>(Tp v).map (fun x=>(x.1+i,x.2))++EZ (i+1) vs
def pl:AV->List (Nat×Nat)|.aN vs=>EZ 0 vs|v=>Tp v
def lZ:List (Nat×Nat)->Prop|[]=>True|x::l=>(∀y∈l,y.2≠x.2)/\lZ l
def qM:AV->AV->List Nat|.own t,.pv (.ro _)=>[t]|.pv .nil,.pv (.ro _)=>[999996]|.own t,.pv (.mv _)=>[t+1000000000000000]|_,_=>[]
def wW:List AV->List AV->List Nat|c::cs,r::rs=>qM c r++wW cs rs|_,_=>[]
def FG:AV->AV->List Nat|.agg cs,.agg rs=>wW cs rs|v,r=>qM v r
def zZ:List AV->List AV->List Nat|c::cs,r::rs=>FG c r++zZ cs rs|_,_=>[]
def oW:AV->AV->List Nat|.aN vs,.aN rs=>zZ vs rs|v,r=>FG v r
def zt (P:Program) (rs:List (Nat×Option (Option Nat))) (r:AV) (st:St):Prop:=da st rs fun vs=>fz P st.aa (bZ vs) r/\lZ (pl (bZ vs))
def Ends (P:Program) (rs:List (Nat×Option (Option Nat))) (r:AV) (st:St):Prop:=da st rs fun vs=>zt P rs r (cP (oW (bZ vs) r) st)
def m8 (aa:Nat->Option AO) (l:List (Nat×Nat)):List (Nat×AO)->Prop|[]=>True|x::hout=>aa x.1=some x.2/\(∀y∈l,y.2≠x.1)/\m8 aa l hout
def qb (P:Program) (rs:List (Nat×Option (Option Nat))) (r:AV) (hout:List (Nat×AO)) (st:St):Prop:=da st rs fun vs=>fz P st.aa (bZ vs) r/\lZ (pl (bZ vs))/\m8 st.aa (pl (bZ vs)) hout
def pK (P:Program) (rs:List (Nat×Option (Option Nat))) (r:AV) (hout:List (Nat×AO)) (st:St):Prop:=da st rs fun vs=>qb P rs r hout (cP (oW (bZ vs) r) st)
def CA (K:St->Prop):Exit->St->Prop|.ret,st=>K st|_,_=>False
def qH (id:Nat) (K:St->Prop) (J:Exit->St->Prop):Exit->St->Prop|.exit id',st=>if id'=id then K st else J (.exit id') st|e,st=>J e st
def jn (P:Program) (Γ:b7):AC->(St->Prop)->(Exit->St->Prop)->St->Prop|.skip,K,_,st=>K st|.LZ is d bU,K,_,st=>if d then steps P Γ is (fun st'=>K ⟨km bU st'.vars,st'.aa⟩) st else dj P Γ is (fun st'=>K ⟨km bU st'.vars,st'.aa⟩) st|.seq a b,K,J,st=>jn P Γ a (fun st'=>jn P Γ b K J st') J st|.cond x a b,K,J,st=>aj (jX (ev st.vars x)) fun c=>(c=true->jn P Γ a K J st)/\(c=false->jn P Γ b K J st)|.block id a,K,J,st=>jn P Γ a K (qH id K J) st|.loop a,_,J,st=>∃(ι:Type) (F:ι->Fr) (μ:ι->Nat) (ad shs:List Nat) (i0:ι),wk P ad (cP shs st) (F i0)/\∀i,jn P Γ a (fun st'=>∃i',wk P [] (cP shs st') (F i')/\μ i'<μ i) J (F i).st|.exit id,_,J,st=>J (.exit id) st|.ret,_,J,st=>J .ret st
end Go.Proofs.YtifcndkhigakfaaGreat.Ab
