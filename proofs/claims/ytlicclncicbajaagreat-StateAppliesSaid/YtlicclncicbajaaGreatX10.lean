/- The abstract machine: what is to hold behind may be weakened; a row of statements cut in two. -/
import Derived.Test.YtlicclncicbajaaGreatX9
import Derived.Test.YtlicclncicbajaaGreatChecked
import Derived.WalkKit
import Derived.Laws.CopyRow
import Derived.Laws.NewBlocks
import Derived.Lib.AppendZerosOnto
import Derived.Lib.Overlaps
import Derived.Lib.Walk
import Derived.Lib.SliceRun
import Derived.Laws.Externs
import Derived.Shelf.Spec.SlicesInsert
set_option linter.unusedVariables false
set_option linter.unusedSimpArgs false
set_option linter.unnecessarySimpa false
set_option maxHeartbeats 40000000
set_option maxRecDepth 100000
set_option linter.defProp false
namespace Go.Proofs.YtlicclncicbajaaGreat.Ab
open Go Go.RowKit
def q151:=@Nat.min_def
def q161:=@IntKind.wrap_i64
def q167:=@List.find?_eq_some_iff_getElem
def q181:=@List.find?_eq_none
def q182:=@Lib.wpList_append_run
def q198:=@List.getLast?_eq_getElem?
def q210:=@List.not_of_lt_findIdx
def q218:=@Bool.and_eq_false_iff
def q293:=@List.filter_eq_nil_iff
end Go.Proofs.YtlicclncicbajaaGreat.Ab
namespace Go.Proofs.YtlicclncicbajaaGreat.Ab
open Go Go.RowKit
variable {α:Type}{f:FuncId}{i sz:Nat}{K:St→Prop}{J:Exit→St→Prop}{vs:List (Nat×AV)}{os:List (Nat×AO)}{is:List AI}{e:TypeId}{rows:List (List PV)}{S:Nat→Prop}{p:PV}
section
variable{P:Program}{Γ:bX}
theorem ay {o:Option α}{K K':α→Prop} (h:∀x,K x→K' x) (hs:ai o K):ai o K':=by cases o with|none=>exact hs|some x=>exact h x hs
theorem pC {d:Option Nat}{xs:List AV}{aa:Nat→Option AO}{C C':bI→Prop} (h:∀e,C e→C' e) (hs:cH P Γ d f xs aa C):cH P Γ d f xs aa C':=by unfold cH at hs ⊢;refine ay (fun d hs=>⟨hs.1,ay (fun ys hs=>ay (fun x hs=>?_) hs) hs.2⟩) hs;exact⟨hs.1,hs.2.1,hs.2.2.1,hs.2.2.2.1,h _ hs.2.2.2.2⟩
theorem mE {i:AI}{K K':St→Prop} (h:∀st,K st→K' st) {st:St} (hs:c9 P Γ i K st):c9 P Γ i K' st:=by obtain⟨e,he,hk⟩:=cD.1 hs;exact cD.2 ⟨e,he,h _ hk⟩
theorem uz {i:AI}{K K':St→Prop} (h:∀st,K st→K' st) {st:St} (hs:me P Γ i f K st):me P Γ i f K' st:=by
 unfold me at hs ⊢;refine ay (fun ys hs=>ay (fun x hs=>?_) hs) hs;split at hs;·rename_i hc;rw[if_pos hc];exact pC (fun e he=>h _ he) hs
 ·rename_i hc;rw[if_neg hc];exact mE h hs
theorem nR {b f:Bool}{A B A' B':Prop} (hA:A→A') (hB:B→B') (h:ia b f A B):ia b f A' B':=by cases b with|false=>exact hA h|true=>cases f with|false=>exact hA h|true=>exact hB h
theorem tu {i:AI}{K K':St→Prop} (h:∀st,K st→K' st) {st:St} (hs:cq P Γ i K st):cq P Γ i K' st:=by
 unfold cq at hs ⊢;split at hs;·exact mE h hs
 ·exact nR (mE h) (h _) hs
theorem si {i:AI}{K K':St→Prop} (h:∀st,K st→K' st) {st:St} (hs:jS P Γ i K st):jS P Γ i K' st:=by
 have hE:∀{st:St}{d:Option Nat}{x:XK}{xs:List AV},ba d x xs K st→ba d x xs K' st:=by
  intro st d x xs hs;unfold ba at hs ⊢;split at hs;·exact ay (fun d hs=>⟨hs.1,h _ hs.2⟩) hs
  ·exact⟨hs.1,ay (fun es hs=>⟨hs.1,hs.2.1,hs.2.2.1,h _ hs.2.2.2⟩) hs.2⟩
  ·exact⟨hs.1,ay (fun es hs=>⟨hs.1,hs.2.1,h _ hs.2.2⟩) hs.2⟩
  ·unfold se at hs ⊢;split at hs;·exact⟨hs.1,hs.2.1,h _ hs.2.2⟩
   ·exact hs
  ·exact⟨hs.1,ay (fun rows hs b hb=>h _ (hs b hb)) hs.2⟩
  ·exact⟨hs.1,h _ hs.2⟩
  ·unfold mI at hs ⊢;split at hs;·exact ay (fun d hs=>⟨hs.1,hs.2.1,hs.2.2.1,h _ hs.2.2.2⟩) hs
   ·exact hs
  ·exact ay (fun d hs=>⟨hs.1,hs.2.1,hs.2.2.1,h _ hs.2.2.2⟩) hs
  ·unfold Bk at hs ⊢;split at hs;·exact ay (fun d hs=>⟨hs.1,hs.2.1,hs.2.2.1,h _ hs.2.2.2⟩) hs
   ·exact hs
  ·exact⟨hs.1,hs.2.1,hs.2.2.1,hs.2.2.2.1,h _ hs.2.2.2.2⟩
  ·exact⟨hs.1,ay (fun r hs=>⟨hs.1,h _ hs.2⟩) hs.2⟩
  ·unfold qO at hs ⊢;split at hs
   ·unfold xy at hs ⊢;split at hs;·exact⟨hs.1,ay (fun r hs=>⟨hs.1,hs.2.1,h _ hs.2.2⟩) hs.2⟩
    ·exact hs
   ·unfold tr at hs ⊢;split at hs;·exact⟨hs.1,ay (fun r hs=>ay (fun j hs=>ay (fun s hs=>ay (fun ps hs=>h _ hs) hs) hs) hs) hs.2⟩
    ·exact hs
   ·exact ay (fun d hs=>⟨hs.1,h _ hs.2⟩) hs
   ·unfold sk at hs ⊢;split at hs;·exact⟨hs.1,ay (fun r hs=>⟨hs.1,hs.2.1,h _ hs.2.2⟩) hs.2⟩
    ·exact hs
   ·unfold wP at hs ⊢;split at hs;·exact⟨hs.1,ay (fun r hs=>⟨hs.1,hs.2.1,hs.2.2.1,h _ hs.2.2.2⟩) hs.2⟩
    ·exact hs
   ·unfold wg at hs ⊢;split at hs;·exact⟨hs.1,ay (fun r hs=>⟨hs.1,hs.2.1,h _ hs.2.2⟩) hs.2⟩
    ·exact hs
   ·exact⟨hs.1,ay (fun r hs=>h _ hs) hs.2⟩
   ·unfold xA at hs ⊢;split at hs;·exact ay (fun d hs=>⟨hs.1,hs.2.1,h _ hs.2.2⟩) hs
    ·exact hs
   ·unfold xo at hs ⊢;split at hs;·exact⟨hs.1,ay (fun r hs=>⟨fun e=>h _ (hs.1 e),fun e l m q=>h _ (hs.2 e l m q)⟩) hs.2⟩
    ·exact hs
   ·unfold wY at hs ⊢;split at hs;·exact⟨hs.1,ay (fun r hs=>ay (fun e hs=>h _ hs) hs) hs.2⟩
    ·exact hs
   ·unfold qR at hs ⊢;exact ay (fun d hs=>⟨hs.1,ay (fun r hs=>⟨hs.1,hs.2.1,h _ hs.2.2⟩) hs.2⟩) hs
   ·exact hs
 unfold jS at hs ⊢;split at hs;·exact hE hs
 ·unfold CM at hs ⊢;refine ay (fun c hs=>?_) hs;split at hs;·rename_i h1;rw[if_pos h1];exact hE hs
  ·rename_i h1;rw[if_neg h1];exact h _ hs
 ·exact tu h hs
 ·rename_i e sz zs e1 e2;unfold pM at hs ⊢;exact⟨hs.1,ay (fun X hs=>ay (fun r hs=>h _ hs) hs) hs.2⟩
 ·unfold DD my at hs ⊢;split at hs
  ·split at hs
   ·rename_i h0;rw[if_pos h0];refine ay (fun c hs=>?_) hs;split at hs;·rename_i h2;rw[if_pos h2];exact gr h hs
    ·rename_i h2;rw[if_neg h2];exact h _ hs
   ·exact hs.elim
  refine nR (fun hs=>?_) (h _) hs;refine ay (fun c hs=>ay (fun ys hs=>ay (fun x hs=>?_) hs) hs) hs;split at hs
  ·rename_i h1;rw[if_pos h1];split at hs;·rename_i h2;rw[if_pos h2];exact uz h hs
   ·rename_i h2;rw[if_neg h2];exact h _ hs
  ·rename_i h1;rw[if_neg h1];exact mE h hs
 ·unfold fX at hs ⊢;split at hs
  ·refine⟨hs.1,ay (fun x hs=>⟨hs.1,?_⟩) hs.2⟩;have hs:=hs.2;unfold eW at hs ⊢;split at hs
   ·split at hs;·rename_i h1;rw[if_pos h1];exact gr h hs
    ·exact hs.elim
   ·exact pC (fun e he=>h _ he) hs
  ·refine nR (fun hs=>?_) (h _) hs;unfold qi at hs ⊢;refine ay (fun c hs=>ay (fun x hs=>⟨hs.1,?_⟩) hs) hs;have hs:=hs.2;unfold iz at hs ⊢;split at hs
   ·split at hs
    ·rename_i h1;rw[if_pos h1];split at hs;·rename_i h2;rw[if_pos h2];exact⟨hs.1,gr h hs.2⟩
     ·rename_i h2;rw[if_neg h2];exact h _ hs
    ·exact hs.elim
   unfold Bm at hs ⊢;exact ay (fun ys hs=>ay (fun x hs=>⟨hs.1,hs.2.1,hs.2.2.1,hs.2.2.2.1,hs.2.2.2.2.1,h _ hs.2.2.2.2.2⟩) hs) hs
 ·unfold gY at hs ⊢;split at hs
  ·split at hs;·rename_i h1;rw[if_pos h1];unfold zE at hs ⊢;exact ay (fun d hs=>⟨hs.1,ay (fun ys hs=>ay (fun x hs=>⟨hs.1,hs.2.1,hs.2.2.1,hs.2.2.2.1,h _ hs.2.2.2.2⟩) hs) hs.2⟩) hs
   ·rename_i h1;rw[if_neg h1];split at hs;·rename_i h2;rw[if_pos h2];exact gr h hs
    rename_i h2;rw[if_neg h2];unfold lG at hs ⊢;refine ay (fun d hs=>⟨hs.1,ay (fun X hs=>ay (fun T hs=>⟨hs.1,ay (fun ys hs=>ay (fun x hs=>?_) hs) hs.2⟩) hs) hs.2⟩) hs;exact⟨hs.1,hs.2.1,hs.2.2.1,hs.2.2.2.1,h _ hs.2.2.2.2⟩
  ·exact uz h hs
 ·exact mE h hs
 ·exact tu h hs
theorem uf {i:AI}{K K':St→Prop} (h:∀st,K st→K' st) {st:St} (hs:cg P Γ i K st):cg P Γ i K' st:=by
 unfold cg at hs ⊢;split at hs
 ·split at hs;·rename_i h1;rw[if_pos h1];exact⟨hs.1,ay (fun r hs=>⟨hs.1,hs.2.1,h _ hs.2.2⟩) hs.2⟩
  ·rename_i h1;rw[if_neg h1];exact si h hs
 ·exact si h hs
theorem l9 {K K':St→Prop} (h:∀st,K st→K' st):∀{is:List AI}{st:St},cn P Γ is K st→cn P Γ is K' st|[],st,hs=>h st hs|i::is,st,hs=>uf (fun st hs=>l9 h hs) hs
theorem Bf {K K':St→Prop} (h:∀st,K st→K' st):∀{is:List AI}{st:St},steps P Γ is K st→steps P Γ is K' st|[],st,hs=>h st hs|i::is,st,hs=>iP (fun st hs=>Bf h hs) hs
theorem fj:∀{a:AC}{K K':St→Prop}{J J':Exit→St→Prop}{st:St},(∀st,K st→K' st)→(∀e st,J e st→J' e st)→iC P Γ a K J st→iC P Γ a K' J' st
 |.skip,_,_,_,_,st,h,_,hs=>h st hs|.I9 is d cw,_,_,_,_,st,h,_,hs=>by
  unfold iC at hs ⊢;split at hs;·rename_i hd;rw[if_pos hd];exact Bf (fun st hs=>h _ hs) hs
  ·rename_i hd;rw[if_neg hd];exact l9 (fun st hs=>h _ hs) hs|.seq a b,_,_,_,_,st,h,hj,hs=>fj (a:=a) (fun st hs=>fj (a:=b) h hj hs) hj hs|.cond x a b,_,_,_,_,st,h,hj,hs=>ay (fun c hs=>⟨fun e=>fj (a:=a) h hj (hs.1 e),fun e=>fj (a:=b) h hj (hs.2 e)⟩) (show ai _ _ from hs)|.block id a,K,K',J,J',st,h,hj,hs=>fj (a:=a) h (fun e st hs=>by cases e with
   |exit id'=>
    simp only[pw]at hs ⊢;split at hs;·rename_i h1;rw[if_pos h1];exact h _ hs
    ·rename_i h1;rw[if_neg h1];exact hj _ _ hs|_=>exact hj _ _ hs) (show iC P Γ a K (pw id K J) st from hs)|.loop a,_,_,_,_,st,h,hj,hs=>by obtain⟨ι,F,μ,ad,shs,i0,hw,hr⟩:=hs;exact⟨ι,F,μ,ad,shs,i0,hw,fun i=>fj (a:=a) (fun st hs=>hs) hj (hr i)⟩|.exit id,_,_,_,_,st,_,hj,hs=>hj _ _ hs|.ret,_,_,_,_,st,_,hj,hs=>hj _ _ hs
theorem af {a b:AC}{st:St} (vs:List (Nat×AV)) (os:List (Nat×AO)) (h1:iC P Γ a (fun st'=>st'=⟨look vs,ab os⟩) J st) (h2:iC P Γ b K J ⟨look vs,ab os⟩):iC P Γ (.seq a b) K J st:=fj (a:=a) (fun st' (hs:st'=_)=>by rw[hs];exact h2) (fun _ _ h=>h) h1
theorem bJ {x:Operand}{a b:AC} (h:jd (ev (look vs) x)=some true) (h1:iC P Γ a K J ⟨look vs,ab os⟩):iC P Γ (.cond x a b) K J ⟨look vs,ab os⟩:=by rw[R.zr,h];exact⟨fun _=>h1,fun e=>Bool.noConfusion e⟩
theorem cM {x:Operand}{a b:AC} (h:jd (ev (look vs) x)=some false) (h1:iC P Γ b K J ⟨look vs,ab os⟩):iC P Γ (.cond x a b) K J ⟨look vs,ab os⟩:=by rw[R.zr,h];exact⟨fun e=>Bool.noConfusion e,fun _=>h1⟩
theorem og {a:AC}{st:St} (vs:List (Nat×AV)) (os:List (Nat×AO)) (h1:iC P Γ a (fun st'=>st'=⟨look vs,ab os⟩) J st) (h2:K ⟨look vs,ab os⟩):iC P Γ a K J st:=fj (a:=a) (fun st' (hs:st'=_)=>by rw[hs];exact h2) (fun _ _ h=>h) h1
theorem bA {a b:AC}{st:St} (Q:St→Prop) (h1:iC P Γ a Q J st) (h2:∀st',Q st'→iC P Γ b K J st'):iC P Γ (.seq a b) K J st:=fj (a:=a) (fun st' hs=>h2 st' hs) (fun _ _ h=>h) h1
theorem C0 {is js:List AI}{st:St} (vs:List (Nat×AV)) (os:List (Nat×AO)) (h1:cn P Γ is (fun st'=>st'=⟨look vs,ab os⟩) st) (h2:cn P Γ js K ⟨look vs,ab os⟩):cn P Γ (is++js) K st:=by
 have key:∀(is:List AI) (st:St),cn P Γ is (fun st'=>cn P Γ js K st') st→cn P Γ (is++js) K st:=by intro is;induction is with|nil=>exact fun st h=>h|cons i is ih=>exact fun st h=>uf (fun st hs=>ih st hs) h
 exact key is st (l9 (fun st' (hs:st'=_)=>by rw[hs];exact h2) h1)
theorem FJ (k:Nat) {st:St} (vs:List (Nat×AV)) (os:List (Nat×AO)) (h1:cn P Γ (is.take k) (fun st'=>st'=⟨look vs,ab os⟩) st) (h2:cn P Γ (is.drop k) K ⟨look vs,ab os⟩):cn P Γ is K st:=by have:=C0 vs os h1 h2;rwa[q156]at this
theorem bR (k:Nat) {is l1 l2:List AI}{st:St} (e1:is.take k=l1) (e2:is.drop k=l2) (h1:cn P Γ l1 (fun st'=>st'=⟨look vs,ab os⟩) st) (h2:cn P Γ l2 K ⟨look vs,ab os⟩):cn P Γ is K st:=by subst e1 e2;exact FJ k vs os h1 h2
theorem Kl {args:List AV} (h:sO P f [] args [] (.fr e rows)):sO P f [] args [] (.pv (.ro rows)):=by
 intro w S0 β vals h1 h2 h3 h4 h5;have hno:∀t,bC (ab []) (fun t=>dC (cellAt (.pv (.ro rows)) t)) t=none:=by
  intro t;show dC (cellAt (.pv (.ro rows)) t)=none;simp only[cellAt,bM];split;·split<;>rfl
  ·rfl
 refine(h w S0 β vals h1 h2 h3 h4 h5).mono ?_;rintro ex w' ⟨v,β',rfl,hF,hH,ho,hv⟩;have hob:(bC (ab []) fun t=>dC (cellAt (.fr e rows) t)) 0=some (.arr e rows):=rfl;have hv0:RV P (aZ S0 w.heap.size β' (bC (ab []) fun t=>dC (cellAt (.fr e rows) t)) w') w' β' (aG (bC (ab []) fun t=>dC (cellAt (.fr e rows) t))) v (.own 0):=hv;have hve:=hv0.aX.1;have hh:=hH.holds 0 _ hob;obtain⟨hr,_⟩:=qI (S':=aZ S0 w.heap.size β' (bC (ab []) fun t=>dC (cellAt (.pv (.ro rows)) t)) w') hh (fun b hb=>⟨hb.1,hb.2.1,fun⟨t,o,hto,_⟩=>by rw[hno]at hto;cases hto⟩) (fun b hb=>⟨.inr ((ho 0 b ⟨_,hob⟩ hb).resolve_right fun⟨t,o,hto,_⟩=>by cases hto),hh.lt b hb,fun⟨t,o,hto,_⟩=>by rw[hno]at hto;cases hto⟩);exact⟨v,β',rfl,hF,⟨(fun t o hto=>by rw[hno]at hto;cases hto),(fun t t' b ⟨o,hto⟩=>by rw[hno]at hto;cases hto)⟩,(fun t b ⟨o,hto⟩=>by rw[hno]at hto;cases hto),.pv _ _ (hve▸hr)⟩
@[simp] def pubA:AV→AV|.fr _ rows=>.pv (.ro rows)|v=>v
@[simp] def pubG (G:List AV→Option (Prop×AV)) (ys:List AV):Option (Prop×AV):=(G ys).map fun x=>(x.1,pubA x.2)
theorem uN {G:List AV→Option (Prop×AV)} (h:R.aJ P f G):R.aJ P f (pubG G):=by intro ys φ r hg hφ;unfold pubG at hg;obtain⟨⟨φ',r'⟩,hx,he⟩:=q0.1 hg;cases he;have:=h ys φ' r' hx hφ;cases r'<;>first|exact Kl this|exact this
end
end Go.Proofs.YtlicclncicbajaaGreat.Ab
namespace Go.Proofs.YtlicclncicbajaaGreat.Ab
open Go Go.RowKit R
variable {α:Type}{f:FuncId}{i sz:Nat}{K:St→Prop}{J:Exit→St→Prop}{vs:List (Nat×AV)}{os:List (Nat×AO)}{is:List AI}{e:TypeId}{rows:List (List PV)}{S:Nat→Prop}{p:PV}
structure Vn where
 n:Int
 b:Int
 p:Int
 i:Int
 s:Int
 z:Int
 m:Int
 t:List UInt8
 inl:Bool
 dm:Bool deriving DecidableEq
variable {l:List Vn}
def v0:Vn:=⟨0,0,0,0,0,0,0,[],false,false⟩
def dj (v:Vn):List PV:=[.int .u64 v.n,.int .u64 v.b,.int .u64 v.p,.int .u64 v.i,.int .u64 v.s,.int .u64 v.z,.int .u64 v.m,.str v.t,.bool v.inl,.bool v.dm]
def bP (v:Vn):List AV:=[.pv (.int .u64 v.n),.pv (.int .u64 v.b),.pv (.int .u64 v.p),.pv (.int .u64 v.i),.pv (.int .u64 v.s),.pv (.int .u64 v.z),.pv (.int .u64 v.m),.pv (.str v.t),.pv (.bool v.inl),.pv (.bool v.dm)]
theorem oQ:∀a b,dj a=dj b→a=b:=by intro a b h;cases a;cases b;simpa[dj]using h
def aH (l:List Vn):List (List PV):=l.map dj
@[simp] theorem Uo:aH []=[]:=rfl
@[simp] theorem Lr (l:List Vn):(aH l).length=l.length:=by simp[aH]
theorem cP (l m:List Vn):aH (l++m)=aH l++aH m:=by simp[aH]
theorem iI (l:List Vn):∀r∈aH l,r.length=10:=by intro r hr;simp only[aH,q84]at hr;obtain⟨c,_,rfl⟩:=hr;rfl
theorem bj  (h:i<l.length):rowAt (aH l) (i:Int)=[.int .u64 l[i].n,.int .u64 l[i].b,.int .u64 l[i].p,.int .u64 l[i].i,.int .u64 l[i].s,.int .u64 l[i].z,.int .u64 l[i].m,.str l[i].t,.bool l[i].inl,.bool l[i].dm]:=by simp[rowAt,aH,h,dj]
theorem Fe (l:List Vn) (i:Nat):cut (aH l) 0 (i:Int)=aH (l.take i):=by simp[cut,aH]
@[simp] theorem FE (l:List Vn):dec dj (aH l)=some l:=jH oQ l
theorem aI  (h:dec dj rows=some l):rows=aH l:=jz h
theorem aE (l:List Vn):bp (aH l):=by intro r hr p hp;simp only[aH,q84]at hr;obtain⟨c,_,rfl⟩:=hr;simp only[dj,q76,q92,or_false]at hp;rcases hp with rfl|rfl|rfl|rfl|rfl|rfl|rfl|rfl|rfl|rfl<;>rfl
def bT (v:Vn):Int:=if v.inl=true then 0 else v.b
@[simp] def Dk:List AV→Option (Prop×AV)|[.agg [.pv (.int .u64 _),.pv (.int .u64 b),.pv (.int .u64 _),.pv (.int .u64 _),.pv (.int .u64 _),.pv (.int .u64 _),.pv (.int .u64 _),.pv (.str _),.pv (.bool inl),.pv (.bool _)]]=>some (True,.pv (.int .u64 (if inl=true then 0 else b)))|_=>none
theorem B9:aJ Tryz.prog 150 Dk:=by
 intro ys φ r h hφ;unfold Dk at h;split at h;·rename_i n b p i s z m t inl dm;cases h;refine ak ah (by kernel_rfl) (by conv=>lhs;reduce) (by simp) ?_;cases inl<;>simp(config := { maxSteps := 3000000 })
 ·cases h
def pZ (l:List Vn) (n:Int):Int:=if l.findIdx (fun v=>decide (v.n=n))<l.length then(l.findIdx (fun v=>decide (v.n=n)):Int) else-1
theorem xU {n:Int} (h:i<l.length) (hq:l[i].n=n) (ht:∀v∈l.take i,¬v.n=n):pZ l n=i:=by
 have hf:l.findIdx (fun v=>decide (v.n=n))=i:=by
  rw[q166 h];refine⟨by simpa using hq,fun j hj=>?_⟩;have:l[j]∈l.take i:=by rw[q91];exact⟨j,by omega,rfl⟩
  simpa using ht _ this
 unfold pZ;rw[hf,if_pos h]
theorem uY {n:Int} (ht:∀v∈l,¬v.n=n):pZ l n=-1:=by
 have hf:l.findIdx (fun v=>decide (v.n=n))=l.length:=by rw[q208];intro v hv;simpa using ht v hv
 unfold pZ;rw[hf,if_neg (by omega)]
theorem mR (l:List Vn) (n:Int):(∃i,∃h:i<l.length,pZ l n=i∧l[i].n=n∧∀v∈l.take i,¬v.n=n)∨(pZ l n=-1∧∀v∈l,¬v.n=n):=by
 by_cases h:∃v∈l,v.n=n
 ·left;have hlt:l.findIdx (fun v=>decide (v.n=n))<l.length:=by rw[q209];obtain⟨v,hv,hn⟩:=h;exact⟨v,hv,by simpa using hn⟩
  have h1:l[l.findIdx (fun v=>decide (v.n=n))].n=n:=by have:=List.findIdx_getElem (w:=hlt);simpa using this
  have h2:∀v∈l.take (l.findIdx (fun v=>decide (v.n=n))),¬v.n=n:=by intro v hv;rw[q91]at hv;obtain⟨j,hj,rfl⟩:=hv;have:=q210 (show j<l.findIdx (fun v=>decide (v.n=n)) by omega);simpa using this
  exact⟨_,hlt,xU hlt h1 h2,h1,h2⟩
 ·right;have h':∀v∈l,¬v.n=n:=fun v hv hn=>h ⟨v,hv,hn⟩;exact⟨uY h',h'⟩
@[simp] def aaJ:List AV→Option (Prop×AV)|[.agg [.pv (.int .u64 a),.pv (.int .u64 _),.pv (.int .u64 _),.pv (.int .u64 _),.pv (.int .u64 _),.pv (.int .u64 _),.pv (.int .u64 _),.pv (.str _),.pv (.bool _),.pv (.bool _)],.rp [.int .u64 n]]=>some (True,.pv (.bool (decide (a=n))))|_=>none
theorem Xx:aJ Tryz.prog 179 aaJ:=by
 intro ys φ r h hφ;unfold aaJ at h;split at h;·cases h;refine ak ah (by kernel_rfl) (by conv=>lhs;reduce) (by simp) ?_;simp(config := { maxSteps := 3000000 })
 ·cases h
theorem LD:fF Tryz.prog 179=true:=by kernel_rfl
@[simp] noncomputable def aaE:List AV→Option (Prop×AV)|[.pv (.ro a),.bE f [.rp [.int .u64 n]]]=>if f=179 then(dec dj a).map fun l=>(l.length≤1000000000,.pv (.int .i64 (pZ l n))) else none|_=>none
theorem aav:aJ Tryz.prog 178 aaE:=by
 intro ys φ r h hφ;unfold aaE at h;split at h
 ·rename_i ra f n;split at h
  ·rename_i hf;subst hf;obtain⟨a,ha,h⟩:=q0.1 h;cases h;cases aI ha;refine ak (ag Xx ah) (by kernel_rfl) (by conv=>lhs;reduce) (by simp) ?_;simp(config := { maxSteps := 3000000 });refine aj (fun i:Nat=>i≤a.length∧∀v∈a.take i,¬v.n=n) (fun i=>⟨[(0,.pv (.ro (aH a))),(1,.bE 179 [.rp [.int .u64 n]]),(7,.pv (.int .i64 a.length)),(8,.pv (.int .i64 i))],[]⟩) (fun i=>a.length-i) [] 0 (by simp) ?_ ?_;·simp
   ·rintro i ⟨hi,ht⟩;have w2:IntKind.i64.wrap ((i:Int)+1)=(i:Int)+1:=wrap_i64 (by omega);by_cases hlt:i<a.length
    ·have r1:=bj hlt;have hr:¬a[i].n=n→∀v∈a.take (i+1),¬v.n=n:=by
      intro h0 e he;rw[q62 hlt,q80]at he;rcases he with he|he;·exact ht e he
      ·rw[q75]at he;rw[he];exact h0
     simp(config := { maxSteps := 3000000 }) [w2,hlt,r1,LD];refine⟨fun h=>(xU hlt h ht).symm,fun h=>⟨i+1,⟨by omega,hr h⟩,by omega,by omega⟩⟩
    ·simp(config := { maxSteps := 3000000 }) [hlt];rw[List.take_of_length_le (by omega)]at ht;exact(uY ht).symm
  ·cases h
 ·cases h
@[simp] noncomputable def Gof:List AV→Option (Prop×AV)|[.pv (.ro a),.pv (.int .u64 n)]=>(dec dj a).map fun l=>(l.length≤1000000000,.pv (.int .i64 (pZ l n)))|_=>none
theorem RA:aJ Tryz.prog 151 Gof:=by
 intro ys φ r h hφ;unfold Gof at h;split at h;·rename_i ra n;obtain⟨a,ha,h⟩:=q0.1 h;cases h;cases aI ha;refine ak (ag aav ah) (by kernel_rfl) (by conv=>lhs;reduce) (by simp) ?_;simp(config := { maxSteps := 3000000 }) [hφ]
 ·cases h
def fW (l:List Vn) (i:Nat):Int:=match i with|0=>0|i+1=>((l[i]?).getD v0).n
def jx (l:List Vn) (i:Nat):Bool:=decide (fW l i<((l[i]?).getD v0).n)&&(decide (bT ((l[i]?).getD v0)=0)||decide (0≤pZ (l.take i) (bT ((l[i]?).getD v0))))
def bS (l:List Vn):Bool:=(List.range l.length).all (jx l)
theorem iR (l:List Vn):bS l=true↔∀i,i<l.length→jx l i=true:=by unfold bS;rw[q90];exact⟨fun h i hi=>h i (q162.2 hi),fun h i hi=>h i (q162.1 hi)⟩
theorem ve  (hi:i<l.length) (h:jx l i=false):bS l=false:=by cases hr:bS l with|false=>rfl|true=>rw[(iR l).1 hr i hi]at h;cases h
@[simp] noncomputable def GRv:List AV→Option (Prop×AV)|[.pv (.ro a)]=>(dec dj a).map fun l=>(l.length≤1000000000,.pv (.bool (bS l)))|_=>none
theorem Ky:aJ Tryz.prog 108 GRv:=by
 intro ys φ r h hφ;unfold GRv at h;split at h
 ·rename_i ra;obtain⟨a,ha,h⟩:=q0.1 h;cases h;cases aI ha;refine ak (ag B9 (ag RA ah)) (by kernel_rfl) (by conv=>lhs;reduce) (by simp) ?_;simp(config := { maxSteps := 3000000 });refine aj (fun i:Nat=>i≤a.length∧∀j,j<i→jx a j=true) (fun i=>⟨[(0,.pv (.ro (aH a))),(2,.pv (.bool false)),(3,.pv (.int .u64 (fW a i))),(6,.pv (.ro (aH a))),(7,.pv (.int .i64 a.length)),(8,.pv (.int .i64 i))],[]⟩) (fun i=>a.length-i) [] 0 (by simp) ?_ ?_;·simp[fW]
  ·rintro i ⟨hi,ht⟩;have w2:IntKind.i64.wrap ((i:Int)+1)=(i:Int)+1:=wrap_i64 (by omega);by_cases hlt:i<a.length
   ·have r1:=bj hlt;have hg:(a[i]?).getD v0=a[i]:=by rw[q64 hlt];rfl
    have hpn:fW a (i+1)=a[i].n:=by simp only[fW];rw[hg]
    have hok:jx a i=(decide (fW a i<a[i].n)&&(decide (bT a[i]=0)||decide (0≤pZ (a.take i) (bT a[i])))):=by unfold jx;rw[hg]
    have hnext:jx a i=true→∀j,j<i+1→jx a j=true:=by
     intro h j hj;by_cases hji:j=i;·rw[hji];exact h
     ·exact ht j (by omega)
    have hbad:jx a i=false→bS a=false:=ve hlt;have hcut:=Fe a i;have htl:(a.take i).length≤1000000000:=by rw[q67];omega
    have hbv:(if a[i].inl=true then 0 else a[i].b)=bT a[i]:=rfl;have hmin:min i a.length≤1000000000:=by omega
    by_cases h1:a[i].n≤fW a i;·have hb:=hbad (by rw[hok,q218];left;simp;omega);simp(config := { maxSteps := 3000000 }) [w2,hlt,r1,h1,hb,hbv,hcut,hmin]
    ·have h1':fW a i<a[i].n:=by omega
     by_cases h2:bT a[i]=0;·simp(config := { maxSteps := 3000000 }) [w2,hlt,r1,h1,h2,hbv,hcut,hmin];exact⟨i+1,⟨by omega,hnext (by rw[hok];simp[h1',h2])⟩,⟨hpn.symm,by omega⟩,by omega⟩
     ·simp(config := { maxSteps := 3000000 }) [w2,hlt,r1,h1,h2,hbv,hcut,hmin];refine⟨⟨hi,iI a⟩,fun h=>hbad (by rw[hok];simp[h1',h2];omega),fun h=>⟨i+1,⟨by omega,hnext (by rw[hok];simp[h1',h2,h])⟩,⟨hpn.symm,by omega⟩,by omega⟩⟩
   ·have:i=a.length:=by omega
    subst this;have hr:bS a=true:=(iR a).2 ht;simp(config := { maxSteps := 3000000 }) [hr]
 ·cases h
def bD (l:List Vn):List Vn:=l.filter fun v=>!v.dm
theorem qM (l:List Vn):(bD l).length≤l.length:=q144 _ _
theorem CE  (h:i<l.length):bD (l.take (i+1))=if l[i].dm=true then bD (l.take i) else bD (l.take i)++[l[i]]:=by rw[q62 h];unfold bD;rw[q131];cases hh:l[i].dm<;>simp[hh]
@[simp] noncomputable def Nm (e:TypeId):List AV→Option (Prop×AV)|[.pv (.ro a)]=>(dec dj a).map fun l=>(l.length≤1000000,.fr e (aH (bD l)))|_=>none
theorem BO:aJ Tryz.prog 107 (Nm 108):=by
 intro ys φ r h hφ;unfold Nm at h;split at h
 ·rename_i ra;obtain⟨a,ha,h⟩:=q0.1 h;cases h;cases aI ha;refine ak ah (by kernel_rfl) (by conv=>lhs;reduce) (by simp) ?_;simp(config := { maxSteps := 3000000 });refine aj (fun i:Nat=>i≤a.length) (fun i=>⟨[(0,.pv (.ro (aH a))),(2,.own 2),(5,.pv (.ro (aH a))),(6,.pv (.int .i64 a.length)),(7,.pv (.int .i64 i))],[(2,.arr 108 (aH (bD (a.take i))))]⟩) (fun i=>a.length-i) [] 0 (by simp) ?_ ?_;·simp[bD]
  ·intro i hi;have w2:IntKind.i64.wrap ((i:Int)+1)=(i:Int)+1:=wrap_i64 (by omega);by_cases hlt:i<a.length
   ·have r1:=bj hlt;have hs:=CE hlt;have hl:=qM (a.take i);have hl1:(a.take i).length≤1000000:=by rw[q67];omega
    cases hh:a[i].dm with|true=>rw[hh,if_pos rfl]at hs;simp(config := { maxSteps := 3000000 }) [w2,hlt,r1,hh];exact⟨i+1,by omega,⟨by omega,by rw[hs]⟩,by omega⟩|false=>rw[hh,if_neg (by simp)]at hs;simp(config := { maxSteps := 3000000 }) [w2,hlt,r1,hh,ax];refine⟨⟨by omega,by omega⟩,i+1,by omega,⟨by omega,?_⟩,by omega⟩;rw[hs,cP];simp[aH,dj,hh]
   ·simp(config := { maxSteps := 3000000 }) [hlt];rw[List.take_of_length_le (by omega)]
 ·cases h
def iw (l:List Vn) (n:Int):Option Vn:=(bD l).find? fun v=>decide (v.n=n)
theorem Kg {n:Int} (h:i<(bD l).length) (hq:(bD l)[i].n=n) (ht:∀v∈(bD l).take i,¬v.n=n):iw l n=some (bD l)[i]:=by
 unfold iw;rw[q167];refine⟨by simpa using hq,i,h,rfl,fun j hj=>?_⟩;have:(bD l)[j]∈(bD l).take i:=by rw[q91];exact⟨j,by omega,rfl⟩
 simpa using ht _ this
theorem wV {n:Int} (ht:∀v∈bD l,¬v.n=n):iw l n=none:=by unfold iw;rw[q181];intro v hv;simpa using ht v hv
@[simp] noncomputable def GGv:List AV→Option (Prop×AV)|[.pv (.ro a),.pv (.int .u64 n)]=>(dec dj a).map fun l=>(l.length≤1000000,.aO [.agg (bP ((iw l n).getD v0)),.pv (.bool (iw l n).isSome)])|_=>none
theorem P2:aJ Tryz.prog 172 GGv:=by
 intro ys φ r h hφ;unfold GGv at h;split at h
 ·rename_i ra n;obtain⟨a,ha,h⟩:=q0.1 h;cases h;cases aI ha;have hs9:(bD a).length≤1000000000:=by have:=qM a;omega
  have fl:∀l,bp (aH l):=aE;refine ak (ag BO (ag RA ah)) (by kernel_rfl) (by conv=>lhs;reduce) (by simp) ?_;rcases mR (bD a) n with⟨i,hi,h1,h2,h3⟩|⟨h1,h2⟩;·have r1:=bj hi;have hg:=Kg hi h2 h3;simp(config := { maxSteps := 3000000 }) [hφ,hs9,fl,h1,r1,hi,hg,bP]
  ·have hg:=wV h2;simp(config := { maxSteps := 3000000 }) [hφ,hs9,fl,h1,hg,bP,v0]
 ·cases h
def ox (l:List Vn):Option Vn:=(bD l).getLast?
@[simp] noncomputable def GCv:List AV→Option (Prop×AV)|[.pv (.ro a)]=>(dec dj a).map fun l=>(l.length≤1000000,.aO [.agg (bP ((ox l).getD v0)),.pv (.bool (ox l).isSome)])|_=>none
theorem c_Cv:aJ Tryz.prog 192 GCv:=by
 intro ys φ r h hφ;unfold GCv at h;split at h
 ·rename_i ra;obtain⟨a,ha,h⟩:=q0.1 h;cases h;cases aI ha;have hsl:=qM a;have fl:∀l,bp (aH l):=aE;refine ak (ag BO ah) (by kernel_rfl) (by conv=>lhs;reduce) (by simp) ?_;by_cases hn:bD a=[]
  ·have hc:ox a=none:=by unfold ox;rw[hn];rfl
   simp(config := { maxSteps := 3000000 }) [hφ,fl,hn,hc,bP,v0]
  ·have hl:0<(bD a).length:=q164.2 hn;have hlt:(bD a).length-1<(bD a).length:=by omega
   have r1:=bj hlt;have hcast:(((bD a).length-1:Nat):Int)=((bD a).length:Int)-1:=by omega
   rw[hcast]at r1;have hc:ox a=some (bD a)[(bD a).length-1]:=by unfold ox;rw[q198,q64 hlt]
   have w1:IntKind.i64.wrap (((bD a).length:Int)-1)=((bD a).length:Int)-1:=wrap_i64 (by omega);have hne:¬((bD a).length:Int)=0:=by omega
   have b1:(0:Int)≤((bD a).length:Int)-1:=by omega
   have b2:((bD a).length:Int)-1<(bD a).length:=by omega
   simp(config := { maxSteps := 3000000 }) [hφ,fl,hn,hc,w1,hne,b1,b2,r1,bP];omega
 ·cases h
theorem C4:aJ Tryz.prog 125 Dk:=by
 intro ys φ r h hφ;unfold Dk at h;split at h;·rename_i n b p i s z m t inl dm;cases h;refine ak ah (by kernel_rfl) (by conv=>lhs;reduce) (by simp) ?_;cases inl<;>simp(config := { maxSteps := 3000000 })
 ·cases h
@[simp] noncomputable def Oh:List AV→Option (Prop×AV)|[.pv (.ro a),.pv (.int .i64 k),.pv (.int .u64 n)]=>(dec dj a).map fun l=>(l.length≤1000000000∧0≤k∧k≤l.length,.pv (.int .i64 (pZ (l.take k.toNat) n)))|_=>none
theorem CG:aJ Tryz.prog 130 Oh:=by
 intro ys φ r h hφ;unfold Oh at h;split at h
 ·rename_i ra k n;obtain⟨a,ha,h⟩:=q0.1 h;cases h;cases aI ha;obtain⟨hl,h0,hk⟩:=hφ;obtain⟨k,rfl⟩:∃q:Nat,k=(q:Int):=⟨k.toNat,by omega⟩;simp only[q68];have hk':k≤a.length:=by omega
  refine ak ah (by kernel_rfl) (by conv=>lhs;reduce) (by simp) ?_;simp(config := { maxSteps := 3000000 });refine aj (fun i:Nat=>i≤k∧∀v∈a.take i,¬v.n=n) (fun i=>⟨[(0,.pv (.ro (aH a))),(1,.pv (.int .i64 k)),(2,.pv (.int .u64 n)),(7,.pv (.int .i64 i))],[]⟩) (fun i=>k-i) [] 0 (by simp) ?_ ?_;·simp
  ·rintro i ⟨hi,ht⟩;have w2:IntKind.i64.wrap ((i:Int)+1)=(i:Int)+1:=wrap_i64 (by omega);by_cases hik:(i:Int)<k
   ·have hlt:i<a.length:=by omega
    have r1:=bj hlt;by_cases hn:a[i].n=n
    ·have hx:pZ (a.take k) n=i:=by refine xU (by rw[q67];omega) (by rw[List.getElem_take];exact hn) ?_;rw[q145,q120 (by omega)];exact ht
     simp(config := { maxSteps := 3000000 }) [w2,hik,hlt,r1,hn,hx]
    ·simp(config := { maxSteps := 3000000 }) [w2,hik,hlt,r1,hn];refine⟨i+1,⟨by omega,fun v hv=>?_⟩,by omega,by omega⟩;rw[q62 hlt,q80]at hv;rcases hv with hv|hv;·exact ht v hv
     ·rw[q75]at hv;rw[hv];exact hn
   ·have:i=k:=by omega
    subst this;have hx:pZ (a.take i) n=-1:=uY ht;simp(config := { maxSteps := 3000000 }) [hx]
 ·cases h
def lg (v:Vn):Prop:=0≤v.n∧v.n≤18446744073709551615∧0≤v.b∧v.b≤18446744073709551615
theorem qt {v:Vn} (h:lg v):0≤bT v:=by
 unfold bT;split;·omega
 ·exact h.2.2.1
@[simp] noncomputable def GrRv:List AV→Option (Prop×AV)|[.pv (.ro a)]=>(dec dj a).map fun l=>(l.length≤1000000000∧∀v∈l,lg v,.pv (.bool (bS l)))|_=>none
theorem NQ:aJ Tryz.prog 106 GrRv:=by
 intro ys φ r h hφ
 unfold GrRv at h
 split at h
 ·rename_i ra
  obtain⟨a,ha,h⟩:=q0.1 h
  cases h
  cases aI ha
  obtain⟨hl9,hov⟩:=hφ
  refine ak (ag C4 (ag CG ah)) (by kernel_rfl) (by conv=>lhs;reduce) (by simp) ?_
  simp (config := { maxSteps := 3000000 })
  refine aj (fun i:Nat=>i≤a.length∧∀j,j < i→jx a j=true) (fun i=>⟨[(0,.pv (.ro (aH a))),(2,.pv (.bool false)),(3,.pv (.int .i64 i))],[]⟩) (fun i=>a.length - i) [] 0 (by simp) ?_ ?_
  ·simp
  ·rintro i ⟨hi,ht⟩
   have w2:IntKind.i64.wrap ((i:Int)+1)=(i:Int)+1:=wrap_i64 (by omega)
   by_cases hlt:i < a.length
   ·have r1:=bj hlt
    have hg:(a[i]?).getD v0=a[i]:=by rw [q64 hlt];rfl
    have ho:=hov a[i] (q82 hlt)
    have hb0:=qt ho
    have hok:jx a i=(decide (fW a i < a[i].n) && (decide (bT a[i]=0) || decide (0≤pZ (a.take i) (bT a[i])))):=by unfold jx;rw [hg]
    have hnext:jx a i=true→∀j,j < i+1→jx a j=true:=by
     intro h j hj
     by_cases hji:j=i
     ·rw [hji];exact h
     ·exact ht j (by omega)
    have hbad:jx a i=false→bS a=false:=ve hlt
    have hbv:(if a[i].inl=true then 0 else a[i].b)=bT a[i]:=rfl
    have hn0:=ho.1
    have him:i - 1 < a.length:=by omega
    have rm:rowAt (aH a) ((i:Int) - 1)=[.int .u64 a[i - 1].n,.int .u64 a[i - 1].b,.int .u64 a[i - 1].p,.int .u64 a[i - 1].i,.int .u64 a[i - 1].s,.int .u64 a[i - 1].z,.int .u64 a[i - 1].m,.str a[i - 1].t,.bool a[i - 1].inl,.bool a[i - 1].dm]:=by
     rw [←bj him]
     unfold rowAt
     congr 1
     omega
    have w1:IntKind.i64.wrap ((i:Int) - 1)=(i:Int) - 1:=wrap_i64 (by omega)
    have hop:=(hov a[i - 1] (q82 him)).1
    have hpi : 0 < i→fW a i=a[i - 1].n:=by
     intro h0
     obtain⟨q,rfl⟩:∃q,i=q+1:=⟨i - 1,by omega⟩
     have hq:q < a.length:=by omega
     simp only [fW,q159]
     rw [q64 hq];rfl
    have hp0:¬ 0 < i→fW a i=0:=by
     intro h0
     have:i=0:=by omega
     subst this;rfl
    have hmin:min i a.length=i:=by omega
    by_cases h1:a[i].n=0
    ·have hb:=hbad (by
      rw [hok,q218];left
      simp only [decide_eq_false_iff_not]
      by_cases h0 : 0 < i
      ·rw [hpi h0];omega
      ·rw [hp0 h0];omega)
     simp (config := { maxSteps := 3000000 }) [w1,w2,hlt,r1,rm,h1,hb,hbv]
    ·by_cases h0 : 0 < i
     ·have hpi':=hpi h0
      have hb1 : 1≤(i:Int):=by omega
      have hb2:(i:Int) - 1 < a.length:=by omega
      have hne:¬ i=0:=by omega
      by_cases h3:a[i].n≤a[i - 1].n
      ·have h3':¬ a[i - 1].n < a[i].n:=by omega
       have hb:=hbad (by rw [hok,q218];left;simp;omega)
       simp (config := { maxSteps := 3000000 }) [w1,w2,hlt,r1,rm,h1,h0,hb1,hb2,hne,h3,h3',hb,hbv]
      ·have hlp:fW a i < a[i].n:=by omega
       have h3':a[i - 1].n < a[i].n:=by omega
       by_cases h2:bT a[i]=0
       ·simp (config := { maxSteps := 3000000 }) [w1,w2,hlt,r1,rm,h1,h0,hb1,hb2,hne,h3,h3',h2,hbv]
        exact⟨i+1,⟨by omega,hnext (by rw [hok];simp [hlp,h2])⟩,by omega,by omega⟩
       ·have h2' : 0 < bT a[i]:=by omega
        simp (config := { maxSteps := 3000000 }) [w1,w2,hlt,r1,rm,h1,h0,hb1,hb2,hne,h3,h3',h2,h2',hbv]
        exact⟨⟨hl9,hi⟩,fun h=>hbad (by rw [hok];simp [hlp,h2];omega),fun h=>⟨i+1,⟨by omega,hnext (by rw [hok];simp [hlp,h])⟩,by omega,by omega⟩⟩
     ·have hlp:fW a i < a[i].n:=by rw [hp0 h0];omega
      have hz:(i=0)=True:=by simp;omega
      have h0f:(0 < i)=False:=by simp;omega
      by_cases h2:bT a[i]=0
      ·simp (config := { maxSteps := 3000000 }) [w1,w2,hlt,r1,rm,h1,h0f,hz,h2,hbv]
       exact⟨i+1,⟨by omega,hnext (by rw [hok];simp [hlp,h2])⟩,by omega,by omega⟩
      ·have h2' : 0 < bT a[i]:=by omega
       simp (config := { maxSteps := 3000000 }) [w1,w2,hlt,r1,rm,h1,h0f,hz,h2,h2',hbv]
       exact⟨⟨hl9,hi⟩,fun h=>hbad (by rw [hok];simp [hlp,h2];omega),fun h=>⟨i+1,⟨by omega,hnext (by rw [hok];simp [hlp,h])⟩,by omega,by omega⟩⟩
   ·have:i=a.length:=by omega
    subst this
    have hr:bS a=true:=(iR a).2 ht
    simp (config := { maxSteps := 3000000 }) [hr]
 ·cases h
theorem CZ {n:Int} (h:i<l.length) (hq:l[i].n=n) (hh:l[i].dm=false) (ht:∀v∈l.take i,v.dm=true∨¬v.n=n):iw l n=some l[i]:=by
 unfold iw bD;rw[List.find?_filter,q167];refine⟨by simp[hh,hq],i,h,rfl,fun j hj=>?_⟩;have:l[j]∈l.take i:=by rw[q91];exact⟨j,by omega,rfl⟩
 rcases ht _ this with h1|h1<;>simp[h1]
theorem yX {n:Int} (ht:∀v∈l,v.dm=true∨¬v.n=n):iw l n=none:=by
 refine wV fun v hv hn=>?_;obtain⟨h1,h2⟩:=q125.1 hv;rcases ht v h1 with h|h;·simp[h]at h2
 ·exact h hn
theorem Mu:aJ Tryz.prog 89 GGv:=by
 intro ys φ r h hφ;unfold GGv at h;split at h
 ·rename_i ra n;obtain⟨a,ha,h⟩:=q0.1 h;cases h;cases aI ha;refine ak ah (by kernel_rfl) (by conv=>lhs;reduce) (by simp) ?_;simp(config := { maxSteps := 3000000 });refine aj (fun i:Nat=>i≤a.length∧∀v∈a.take i,v.dm=true∨¬v.n=n) (fun i=>⟨[(0,.pv (.ro (aH a))),(1,.pv (.int .u64 n)),(4,.ptr 4 0),(5,.pv (.bool false)),(6,.pv (.int .i64 i))],[(4,.box [.pv (.int .u64 0),.pv (.int .u64 0),.pv (.int .u64 0),.pv (.int .u64 0),.pv (.int .u64 0),.pv (.int .u64 0),.pv (.int .u64 0),.pv (.str []),.pv (.bool false),.pv (.bool false)])]⟩) (fun i=>a.length-i) [] 0 (by simp) ?_ ?_;·simp
  ·rintro i ⟨hi,ht⟩;have w2:IntKind.i64.wrap ((i:Int)+1)=(i:Int)+1:=wrap_i64 (by omega);by_cases hlt:i<a.length
   ·have r1:=bj hlt;have hnext:(a[i].dm=true∨¬a[i].n=n)→∀v∈a.take (i+1),v.dm=true∨¬v.n=n:=by
     intro h v hv;rw[q62 hlt,q80]at hv;rcases hv with hv|hv;·exact ht v hv
     ·rw[q75]at hv;rw[hv];exact h
    by_cases hn:a[i].n=n;·cases hh:a[i].dm with|true=>simp(config := { maxSteps := 3000000 }) [w2,hlt,r1,hn,hh];exact⟨i+1,⟨by omega,hnext (.inl hh)⟩,by omega,by omega⟩|false=>have hg:=CZ hlt hn hh ht;simp(config := { maxSteps := 3000000 }) [w2,hlt,r1,hn,hh,hg,bP]
    ·simp(config := { maxSteps := 3000000 }) [w2,hlt,r1,hn];exact⟨i+1,⟨by omega,hnext (.inr hn)⟩,by omega,by omega⟩
   ·rw[List.take_of_length_le (by omega)]at ht;have hg:=yX ht;simp(config := { maxSteps := 3000000 }) [hlt,hg,bP,v0]
 ·cases h
theorem EK {k:Nat} (h:k<l.length) (hh:l[k].dm=false) (ht:∀v∈l.drop (k+1),v.dm=true):ox l=some l[k]:=by
 unfold ox bD;have hl:l=l.take k++l[k]::l.drop (k+1):=by rw[←q88 h,q156]
 have hd:(l.drop (k+1)).filter (fun v=>!v.dm)=[]:=by rw[q293];intro v hv;simp[ht v hv]
 conv=>lhs;rw[hl]
 rw[q131,q220,if_pos (by simp[hh]),hd,List.getLast?_append];rfl
theorem yS (ht:∀v∈l,v.dm=true):ox l=none:=by
 unfold ox bD;have hd:l.filter (fun v=>!v.dm)=[]:=by rw[q293];intro v hv;simp[ht v hv]
 rw[hd];rfl
theorem aa8:aJ Tryz.prog 128 GCv:=by
 intro ys φ r h hφ;unfold GCv at h;split at h
 ·rename_i ra;obtain⟨a,ha,h⟩:=q0.1 h;cases h;cases aI ha;refine ak ah (by kernel_rfl) (by conv=>lhs;reduce) (by simp) ?_;have w0:IntKind.i64.wrap ((a.length:Int)-1)=(a.length:Int)-1:=wrap_i64 (by omega);simp(config := { maxSteps := 3000000 }) [w0];refine aj (fun k:Nat=>k≤a.length∧∀v∈a.drop k,v.dm=true) (fun k=>⟨[(0,.pv (.ro (aH a))),(2,.ptr 2 0),(3,.pv (.bool false)),(4,.pv (.int .i64 ((k:Int)-1)))],[(2,.box [.pv (.int .u64 0),.pv (.int .u64 0),.pv (.int .u64 0),.pv (.int .u64 0),.pv (.int .u64 0),.pv (.int .u64 0),.pv (.int .u64 0),.pv (.str []),.pv (.bool false),.pv (.bool false)])]⟩) (fun k=>k) [] a.length (by simp) ?_ ?_;·simp
  ·rintro k ⟨hk,ht⟩;by_cases h0:0<k
   ·obtain⟨q,rfl⟩:∃q,k=q+1:=⟨k-1,by omega⟩;have hlt:q<a.length:=by omega
    have hc:(((q+1:Nat):Int)-1)=(q:Int):=by omega
    have r1:=bj hlt;have w2:IntKind.i64.wrap ((q:Int)-1)=(q:Int)-1:=wrap_i64 (by omega);rw[hc];cases hh:a[q].dm with
    |true=>
     simp(config := { maxSteps := 3000000 }) [w2,hlt,r1,hh];refine⟨q,⟨by omega,fun v hv=>?_⟩,rfl,by omega⟩;rw[q88 hlt]at hv;rcases q76.1 hv with rfl|hv;·exact hh
     ·exact ht v hv|false=>have hg:=EK hlt hh ht;simp(config := { maxSteps := 3000000 }) [w2,hlt,r1,hh,hg,bP]
   ·have:k=0:=by omega
    subst this;have hg:=yS (l:=a) (by simpa using ht);simp(config := { maxSteps := 3000000 }) [hg,bP,v0]
 ·cases h
@[simp] def Gone:List AV→Option (Prop×AV)|[.agg [.pv (.int .u64 n),.pv (.int .u64 b),.pv (.int .u64 p),.pv (.int .u64 i),.pv (.int .u64 s),.pv (.int .u64 z),.pv (.int .u64 m),.pv (.str t),.pv (.bool inl),.pv (.bool dm)]]=>some (True,.agg [.pv (.int .u64 n),.pv (.int .u64 b),.pv (.int .u64 p),.pv (.int .u64 i),.pv (.int .u64 s),.pv (.int .u64 z),.pv (.int .u64 m),.pv (.str t),.pv (.bool inl),.pv (.bool dm)])|_=>none
@[simp] noncomputable def GRefV:List AV→Option (Prop×AV)|[.pv (.ro a)]=>(dec dj a).map fun l=>(l.length≤1000000,.fr 144 (aH l))|_=>none
theorem XW {x y:Vn}:(x.n=y.n∧x.b=y.b∧x.p=y.p∧x.i=y.i∧x.s=y.s∧x.z=y.z∧x.m=y.m∧x.t=y.t∧x.inl=y.inl∧x.dm=y.dm)↔x=y:=by cases x;cases y;simp
theorem IC (x y:Vn):ju [.int .u64 x.n,.int .u64 x.b,.int .u64 x.p,.int .u64 x.i,.int .u64 x.s,.int .u64 x.z,.int .u64 x.m,.str x.t,.bool x.inl,.bool x.dm] [.int .u64 y.n,.int .u64 y.b,.int .u64 y.p,.int .u64 y.i,.int .u64 y.s,.int .u64 y.z,.int .u64 y.m,.str y.t,.bool y.inl,.bool y.dm]=decide (x=y):=by rw[q194];simp only[ju,mU,q73,decide_eq_true_eq,Bool.and_true];rw[←XW]
@[simp] noncomputable def GSmV:List AV→Option (Prop×AV)|[.pv (.ro a),.pv (.ro b)]=>(dec dj a).bind fun la=>(dec dj b).map fun lb=>(la.length≤1000000,.pv (.bool (decide (la=lb))))|_=>none
def fewV (l:List Vn):Bool:=decide (l.length≤12)&&l.all fun v=>decide (v.t.length≤100)
@[simp] noncomputable def GFewV:List AV→Option (Prop×AV)|[.pv (.ro a)]=>(dec dj a).map fun l=>(True,.pv (.bool (fewV l)))|_=>none
def OX (n:Int):List PV:=[.int .i64 n]
def MX (l:List Int):List (List PV):=l.map OX
@[simp] theorem T6:MX []=[]:=rfl
def numsV (l:List Vn):List Int:=l.map fun v=>IntKind.i64.wrap v.n
@[simp] noncomputable def GnumsV:List AV→Option (Prop×AV)|[.pv (.ro a)]=>(dec dj a).map fun l=>(l.length≤1000000,.fr 3 (MX (numsV l)))|_=>none
@[simp] noncomputable def GSmI:List AV→Option (Prop×AV)|[.pv (.ro a),.pv (.ro b)]=>(dec OX a).bind fun la=>(dec OX b).map fun lb=>(la.length≤1000000000,.pv (.bool (decide (la=lb))))|_=>none
structure Ls where
 e:Int
 p:Int
 i:Int
 u:Int
 h:Bool deriving DecidableEq
def dN (l:Ls):List AV:=[.pv (.int .u64 l.e),.pv (.int .u64 l.p),.pv (.int .u64 l.i),.pv (.int .u64 l.u),.pv (.bool l.h)]
def jI:Int:=18446744073709551615
def fV (l:Ls) (p i e:Int):Bool:=l.h&&decide (l.p=p)&&decide (l.i=i)&&decide (l.e=e)
def wO (l:Ls):Int×Int:=if l.e=jI then(0,131) else(l.e+1,0)
def eV (l:Ls) (p i u:Int):Ls×Int:=if l.e=jI then(l,131) else(⟨l.e+1,p,i,u,true⟩,0)
def oJ (l:Ls) (u:Int):Ls:=⟨l.e,l.p,l.i,max l.u u,l.h⟩
def jU (l:Ls):Ls:=⟨l.e,l.p,l.i,l.u,false⟩
@[simp] def Dj:List AV→Option (Prop×AV)|[.agg [.pv (.int .u64 e),.pv (.int .u64 p),.pv (.int .u64 i),.pv (.int .u64 u),.pv (.bool h)],.pv (.int .u64 q),.pv (.int .u64 j),.pv (.int .u64 f)]=>some (True,.pv (.bool (fV ⟨e,p,i,u,h⟩ q j f)))|_=>none
theorem Ri:aJ Tryz.prog 185 Dj:=by
 intro ys φ r h hφ;unfold Dj at h;split at h;·rename_i e p i u h' q j f;cases h;refine ak ah (by kernel_rfl) (by conv=>lhs;reduce) (by simp) ?_;cases h' with|false=>simp(config := { maxSteps := 3000000 }) [fV]|true=>
  by_cases h1:p=q
  ·by_cases h2:i=j;·by_cases h3:e=f<;>simp(config := { maxSteps := 3000000 }) [fV,h1,h2,h3]
   ·simp(config := { maxSteps := 3000000 }) [fV,h1,h2]
  ·simp(config := { maxSteps := 3000000 }) [fV,h1]
 ·cases h
@[simp] def NT:List AV→Option (Prop×AV)|[.agg [.pv (.int .u64 e),.pv (.int .u64 p),.pv (.int .u64 i),.pv (.int .u64 u),.pv (.bool h)]]=>some (cy e,.aO [.pv (.int .u64 (wO ⟨e,p,i,u,h⟩).1),.pv (.int .i64 (wO ⟨e,p,i,u,h⟩).2)])|_=>none
theorem Py:aJ Tryz.prog 184 NT:=by
 intro ys φ r h hφ;unfold NT at h;split at h
 ·rename_i e p i u h';cases h;obtain⟨o1,o2⟩:=hφ;refine ak ah (by kernel_rfl) (by conv=>lhs;reduce) (by simp) ?_;by_cases h1:e=18446744073709551615;·simp(config := { maxSteps := 3000000 }) [wO,jI,h1]
  ·have w1:IntKind.u64.wrap (e+1)=e+1:=wrap_u64 (by omega);simp(config := { maxSteps := 3000000 }) [wO,jI,h1,w1]
 ·cases h
@[simp] def yW:List AV→Option (Prop×AV)|[.agg [.pv (.int .u64 e),.pv (.int .u64 p),.pv (.int .u64 i),.pv (.int .u64 u),.pv (.bool h)],.pv (.int .u64 q),.pv (.int .u64 j),.pv (.int .u64 v)]=>some (cy e,.aO [.agg (dN (eV ⟨e,p,i,u,h⟩ q j v).1),.pv (.int .i64 (eV ⟨e,p,i,u,h⟩ q j v).2)])|_=>none
theorem LP:aJ Tryz.prog 167 yW:=by
 intro ys φ r h hφ;unfold yW at h;split at h
 ·rename_i e p i u h' q j v;cases h;refine ak (ag Py ah) (by kernel_rfl) (by conv=>lhs;reduce) (by simp) ?_;by_cases h1:e=18446744073709551615;·simp(config := { maxSteps := 3000000 }) [wO,eV,jI,dN,h1];exact h1▸hφ
  ·simp(config := { maxSteps := 3000000 }) [wO,eV,jI,dN,h1];exact hφ
 ·cases h
@[simp] def yK:List AV→Option (Prop×AV)|[.agg [.pv (.int .u64 e),.pv (.int .u64 p),.pv (.int .u64 i),.pv (.int .u64 u),.pv (.bool h)],.pv (.int .u64 v)]=>some (True,.agg (dN (oJ ⟨e,p,i,u,h⟩ v)))|_=>none
theorem LN:aJ Tryz.prog 169 yK:=by
 intro ys φ r h hφ;unfold yK at h;split at h;·cases h;refine ak ah (by kernel_rfl) (by conv=>lhs;reduce) (by simp) ?_;simp(config := { maxSteps := 3000000 }) [oJ,dN]
 ·cases h
@[simp] def JI:List AV→Option (Prop×AV)|[.agg [.pv (.int .u64 e),.pv (.int .u64 p),.pv (.int .u64 i),.pv (.int .u64 u),.pv (.bool h)]]=>some (True,.agg (dN (jU ⟨e,p,i,u,h⟩)))|_=>none
theorem Y6:aJ Tryz.prog 170 JI:=by
 intro ys φ r h hφ;unfold JI at h;split at h;·cases h;refine ak ah (by kernel_rfl) (by conv=>lhs;reduce) (by simp) ?_;simp(config := { maxSteps := 3000000 }) [jU,dN]
 ·cases h
noncomputable def sI (f:α→AV) (y:AV):Option α:=open Classical in if h:∃p,f p=y then some h.choose else none
theorem ef {f:α→AV}{y:AV}{p:α} (h:sI f y=some p):y=f p:=by
 unfold sI at h;split at h;·rename_i h';cases h;exact h'.choose_spec.symm
 ·cases h
theorem zd {f:α→AV} (inj:∀p q,f p=f q→p=q) (p:α):sI f (f p)=some p:=by unfold sI;have h:∃q,f q=f p:=⟨p,rfl⟩;rw[dif_pos h];exact congrArg some (inj _ _ h.choose_spec)
structure Rc where
 k:Int
 p:Int
 i:Int
 s:Int
 e:Int
 u:Int
 v:Int
 c:Int
 z:Int
 m:Int
 n:List UInt8
 t:List UInt8 deriving DecidableEq
structure Ap where
 l:Ls
 ps:List Pn
 vs:List Vn
 sl:Bool
 r:Rc
 n:Int
 s:Int
def ot (a:Ap):AV:=.bx [.pv (.int .u64 a.l.e),.pv (.int .u64 a.l.p),.pv (.int .u64 a.l.i),.pv (.int .u64 a.l.u),.pv (.bool a.l.h),.fr 134 (au a.ps),.fr 108 (aH a.vs),.pv (.bool a.sl),.pv (.int .u8 a.r.k),.pv (.int .u64 a.r.p),.pv (.int .u64 a.r.i),.pv (.int .u64 a.r.s),.pv (.int .u64 a.r.e),.pv (.int .u64 a.r.u),.pv (.int .u64 a.r.v),.pv (.int .u64 a.r.c),.pv (.int .u64 a.r.z),.pv (.int .u64 a.r.m),.pv (.str a.r.n),.pv (.str a.r.t),.pv (.int .u64 a.n),.pv (.int .u64 a.s)]
def Tx (a:Ap):AV:=.rp [.int .u64 a.l.e,.int .u64 a.l.p,.int .u64 a.l.i,.int .u64 a.l.u,.bool a.l.h,.ro (au a.ps),.ro (aH a.vs),.bool a.sl,.int .u8 a.r.k,.int .u64 a.r.p,.int .u64 a.r.i,.int .u64 a.r.s,.int .u64 a.r.e,.int .u64 a.r.u,.int .u64 a.r.v,.int .u64 a.r.c,.int .u64 a.r.z,.int .u64 a.r.m,.str a.r.n,.str a.r.t,.int .u64 a.n,.int .u64 a.s]
theorem fE {α β:Type}{f:α→β} (hf:∀a b,f a=f b→a=b):∀{l m:List α},l.map f=m.map f→l=m|[],[],_=>rfl|[],_::_,h=>by cases h|_::_,[],h=>by cases h|a::l,b::m,h=>by simp only[q71,q110]at h;rw[hf _ _ h.1,fE hf h.2]
theorem KG:∀p q,ot p=ot q→p=q:=by rintro⟨⟨e,p,i,u,h⟩,ps,vs,sl,⟨k,rp,ri,rs,re,ru,rv,rc,rz,rm,rn,rt⟩,n,s⟩ ⟨⟨e',p',i',u',h'⟩,ps',vs',sl',⟨k',rp',ri',rs',re',ru',rv',rc',rz',rm',rn',rt'⟩,n',s'⟩ hh;simp only[ot,AV.bx.injEq,q110,AV.pv.injEq,PV.int.injEq,PV.bool.injEq,PV.str.injEq,AV.fr.injEq,true_and,and_true]at hh;obtain⟨rfl,rfl,rfl,rfl,rfl,h1,h2,rfl,rfl,rfl,rfl,rfl,rfl,rfl,rfl,rfl,rfl,rfl,rfl,rfl,rfl,rfl⟩:=hh;rw[fE iM h1,fE oQ h2]
theorem Jv:∀p q,Tx p=Tx q→p=q:=by rintro⟨⟨e,p,i,u,h⟩,ps,vs,sl,⟨k,rp,ri,rs,re,ru,rv,rc,rz,rm,rn,rt⟩,n,s⟩ ⟨⟨e',p',i',u',h'⟩,ps',vs',sl',⟨k',rp',ri',rs',re',ru',rv',rc',rz',rm',rn',rt'⟩,n',s'⟩ hh;simp only[Tx,AV.rp.injEq,q110,PV.int.injEq,PV.bool.injEq,PV.str.injEq,PV.ro.injEq,true_and,and_true]at hh;obtain⟨rfl,rfl,rfl,rfl,rfl,h1,h2,rfl,rfl,rfl,rfl,rfl,rfl,rfl,rfl,rfl,rfl,rfl,rfl,rfl,rfl,rfl⟩:=hh;rw[fE iM h1,fE oQ h2]
@[simp] theorem Yg (e p i u:Int) (h:Bool) (ps:List Pn) (vs:List Vn) (sl:Bool) (k rp ri rs re ru rv rc rz rm:Int) (rn rt:List UInt8) (n s:Int):sI ot (.bx [.pv (.int .u64 e),.pv (.int .u64 p),.pv (.int .u64 i),.pv (.int .u64 u),.pv (.bool h),.fr 134 (au ps),.fr 108 (aH vs),.pv (.bool sl),.pv (.int .u8 k),.pv (.int .u64 rp),.pv (.int .u64 ri),.pv (.int .u64 rs),.pv (.int .u64 re),.pv (.int .u64 ru),.pv (.int .u64 rv),.pv (.int .u64 rc),.pv (.int .u64 rz),.pv (.int .u64 rm),.pv (.str rn),.pv (.str rt),.pv (.int .u64 n),.pv (.int .u64 s)])=some ⟨⟨e,p,i,u,h⟩,ps,vs,sl,⟨k,rp,ri,rs,re,ru,rv,rc,rz,rm,rn,rt⟩,n,s⟩:=zd KG ⟨⟨e,p,i,u,h⟩,ps,vs,sl,⟨k,rp,ri,rs,re,ru,rv,rc,rz,rm,rn,rt⟩,n,s⟩
@[simp] theorem aaU (e p i u:Int) (h:Bool) (ps:List Pn) (vs:List Vn) (sl:Bool) (k rp ri rs re ru rv rc rz rm:Int) (rn rt:List UInt8) (n s:Int):sI Tx (.rp [.int .u64 e,.int .u64 p,.int .u64 i,.int .u64 u,.bool h,.ro (au ps),.ro (aH vs),.bool sl,.int .u8 k,.int .u64 rp,.int .u64 ri,.int .u64 rs,.int .u64 re,.int .u64 ru,.int .u64 rv,.int .u64 rc,.int .u64 rz,.int .u64 rm,.str rn,.str rt,.int .u64 n,.int .u64 s])=some ⟨⟨e,p,i,u,h⟩,ps,vs,sl,⟨k,rp,ri,rs,re,ru,rv,rc,rz,rm,rn,rt⟩,n,s⟩:=zd Jv ⟨⟨e,p,i,u,h⟩,ps,vs,sl,⟨k,rp,ri,rs,re,ru,rv,rc,rz,rm,rn,rt⟩,n,s⟩
@[simp] noncomputable def GOw:List AV→Option (Prop×AV)|[y]=>(sI Tx y).map fun a=>(True,.pv (.bool (fV a.l a.r.p a.r.i a.r.e)))|_=>none
theorem QP:aJ Tryz.prog 168 GOw:=by
 intro ys φ r h hφ;unfold GOw at h;split at h;·obtain⟨a,ha,h⟩:=q0.1 h;cases h;cases ef ha;refine ak (ag Ri ah) (by kernel_rfl) (by conv=>lhs;reduce) (by simp) ?_;simp(config := { maxSteps := 3000000 }) [Tx]
 ·cases h
def ui (a:Ap):Ap×Bool:=(⟨a.l,a.ps,a.vs,true,a.r,a.n,a.s⟩,!a.sl&&a.l.h&&decide (a.l.p=a.r.p)&&decide (a.l.i=a.r.i))
def nZ (a:Ap):Ap×Bool:=(⟨oJ a.l a.r.u,a.ps,a.vs,a.sl,a.r,a.n,a.s⟩,!a.sl&&fV a.l a.r.p a.r.i a.r.e)
def iW (a:Ap):Ap×Bool:=(⟨jU a.l,a.ps,a.vs,a.sl,a.r,a.n,a.s⟩,!a.sl&&fV a.l a.r.p a.r.i a.r.e)
def mC (a:Ap):Ap×Bool:=(⟨(eV a.l a.r.p a.r.i a.r.u).1,a.ps,a.vs,a.sl,a.r,a.n,a.s⟩,!a.sl&&decide ((eV a.l a.r.p a.r.i a.r.u).2=0)&&decide ((eV a.l a.r.p a.r.i a.r.u).1.e=a.r.e))
@[simp] noncomputable def BB (C:Ap→Prop) (F:Ap→Ap×Bool):List AV→Option (Prop×AV)|[.aO [y]]=>(sI ot y).map fun a=>(C a,.bE 0 [.pv (.bool (F a).2),ot (F a).1])|_=>none
theorem HQ:dI Tryz.prog 143 (BB (fun _=>True) nZ):=by
 intro ys φ r h hφ;unfold BB at h;split at h;·obtain⟨a,ha,h⟩:=q0.1 h;cases h;cases ef ha;obtain⟨⟨e,p,i,u,h'⟩,ps,vs,sl,⟨k,rp,ri,rs,re,ru,rv,rc,rz,rm,rn,rt⟩,n,s⟩:=a;refine cf (ag QP (ag LN ah)) (by kernel_rfl) (by conv=>lhs;reduce) (by simp) rfl (by simp[ot]) ?_;cases sl<;>simp(config := { maxSteps := 3000000 }) [ot,nZ,dN,oJ]
 ·cases h
theorem BE:dI Tryz.prog 144 (BB (fun _=>True) iW):=by
 intro ys φ r h hφ;unfold BB at h;split at h;·obtain⟨a,ha,h⟩:=q0.1 h;cases h;cases ef ha;obtain⟨⟨e,p,i,u,h'⟩,ps,vs,sl,⟨k,rp,ri,rs,re,ru,rv,rc,rz,rm,rn,rt⟩,n,s⟩:=a;refine cf (ag QP (ag Y6 ah)) (by kernel_rfl) (by conv=>lhs;reduce) (by simp) rfl (by simp[ot]) ?_;cases sl<;>simp(config := { maxSteps := 3000000 }) [ot,iW,dN,jU]
 ·cases h
theorem K0:dI Tryz.prog 148 (BB (fun _=>True) ui):=by
 intro ys φ r h hφ;unfold BB at h;split at h;·obtain⟨a,ha,h⟩:=q0.1 h;cases h;cases ef ha;obtain⟨⟨e,p,i,u,h'⟩,ps,vs,sl,⟨k,rp,ri,rs,re,ru,rv,rc,rz,rm,rn,rt⟩,n,s⟩:=a;refine cf ah (by kernel_rfl) (by conv=>lhs;reduce) (by simp) rfl (by simp[ot]) ?_;cases sl<;>cases h'<;>simp(config := { maxSteps := 3000000 }) [ot,ui,dN]
 ·cases h
theorem Hv:dI Tryz.prog 142 (BB (fun a=>cy a.l.e) mC):=by
 intro ys φ r h hφ;unfold BB at h;split at h
 ·obtain⟨a,ha,h⟩:=q0.1 h;cases h;cases ef ha;obtain⟨⟨e,p,i,u,h'⟩,ps,vs,sl,⟨k,rp,ri,rs,re,ru,rv,rc,rz,rm,rn,rt⟩,n,s⟩:=a;have oe:cy e:=hφ;refine cf (ag LP ah) (by kernel_rfl) (by conv=>lhs;reduce) (by simp) rfl (by simp[ot]) ?_;by_cases h1:e=jI;·cases sl<;>simp(config := { maxSteps := 3000000 }) [ot,mC,dN,eV,h1,oe];all_goals exact h1▸oe
  ·cases sl<;>simp(config := { maxSteps := 3000000 }) [ot,mC,dN,eV,h1,oe]
 ·cases h
@[simp] noncomputable def GClV:List AV→Option (Prop×AV)|[.pv (.ro a)]=>(dec dj a).map fun l=>(l.length≤1000000,.fr 108 (aH l))|_=>none
theorem Ed:aJ Tryz.prog 58 GClV:=by
 intro ys φ r h hφ;unfold GClV at h;split at h;·rename_i ra;obtain⟨a,ha,h⟩:=q0.1 h;cases h;cases aI ha;refine ak ah (by kernel_rfl) (by conv=>lhs;reduce) (by simp) ?_;cases a with|nil=>simp(config := { maxSteps := 3000000 }) [mD]|cons x l=>have hx:aH (x::l)=dj x::aH l:=rfl;simp(config := { maxSteps := 3000000 }) [hx,ax];simp only[q79]at hφ;exact⟨by omega,by omega,rfl,iI l⟩
 ·cases h
@[simp] def Hw:List AV→Option (Prop×AV)|[.pv (.int .u64 n),.pv (.str t)]=>some (True,.agg [.pv (.int .u64 n),.pv (.int .u64 0),.pv (.int .u64 0),.pv (.int .u64 0),.pv (.int .u64 0),.pv (.int .u64 0),.pv (.int .u64 0),.pv (.str t),.pv (.bool true),.pv (.bool false)])|_=>none
theorem Jr:aJ Tryz.prog 109 Hw:=by
 intro ys φ r h hφ;unfold Hw at h;split at h;·cases h;refine ak ah (by kernel_rfl) (by conv=>lhs;reduce) (by simp) ?_;simp(config := { maxSteps := 3000000 })
 ·cases h
def tm (n:Int) (t:List UInt8):Vn:=⟨n,0,0,0,0,0,0,t,true,false⟩
def lu (l:List Vn):Int:=((l.getLast?).getD v0).n
theorem oy (hr:bS l=true) (h:i+1<l.length):l[i].n<l[i+1].n:=by have:=(iR l).1 hr (i+1) h;unfold jx at this;rw[q73]at this;have h1:=this.1;simp only[fW,q64 h,q64 (show i<l.length by omega),q98,decide_eq_true_eq]at h1;exact h1
theorem kG {l:List Vn} (hr:bS l=true) {i:Nat}:∀(d:Nat) (h:i+d<l.length),l[i].n≤l[i+d].n|0,h=>q291 _|d+1,h=>by have h1:=kG hr d (show i+d<l.length by omega);have h2:=oy hr (i:=i+d) (by omega);have:l[i+(d+1)].n=l[i+d+1].n:=rfl;omega
theorem B2 (hr:bS l=true) (h:i<l.length):l[i].n≤lu l:=by
 have hlt:l.length-1<l.length:=by omega
 have:=kG hr (i:=i) (l.length-1-i) (by omega);have he:i+(l.length-1-i)=l.length-1:=by omega
 simp only[he]at this;unfold lu;rw[q198,q64 hlt];exact this
def Ij (s:List UInt8):List PV:=[.str s]
def Q4 (l:List (List UInt8)):List (List PV):=l.map Ij
@[simp] theorem Ru:Q4 []=[]:=rfl
@[simp] noncomputable def Zg:List AV→Option (Prop×AV)|[.agg [.pv (.int .u64 e),.pv (.int .u64 p),.pv (.int .u64 i),.pv (.int .u64 u),.pv (.bool h),.pv (.ro a),.pv (.ro b),.pv (.bool sl)]]=>(dec rowP a).bind fun ps=>(dec dj b).map fun vs=>(ps.length≤100000∧vs.length≤100000,.agg [.pv (.int .u64 e),.pv (.int .u64 p),.pv (.int .u64 i),.pv (.int .u64 u),.pv (.bool h),.fr 134 (au ps),.fr 108 (aH vs),.pv (.bool sl)])|_=>none
theorem aaO:aJ Tryz.prog 68 Zg:=by
 intro ys φ r h hφ;unfold Zg at h;split at h
 ·obtain⟨ps,hp,h⟩:=q63.1 h;obtain⟨vs,hv,h⟩:=q0.1 h;cases h;cases az hp;cases aI hv;obtain⟨h1,h2⟩:=hφ;have h3:ps.length≤100000000:=by omega
  have h4:vs.length≤1000000:=by omega
  refine ak (ag pT (ag Ed ah)) (by kernel_rfl) (by conv=>lhs;reduce) (by simp) ?_;simp(config := { maxSteps := 3000000 }) [h3,h4]
 ·cases h
def gI (l:List Int):PV:=.ro (l.map fun n=>[.int .u8 n])
def lh:List (PV×PV):=[(.int .u8 1,gI [0,1]),(.int .u8 2,gI [0,1]),(.int .u8 3,gI [0]),(.int .u8 4,gI [0,2,4,5]),(.int .u8 5,gI [2,1]),(.int .u8 6,gI [2]),(.int .u8 7,gI []),(.int .u8 8,gI [3]),(.int .u8 9,gI [6]),(.int .u8 10,gI [6]),(.int .u8 11,gI [6,7])]
def Ct:List AV→Option (Prop×AV)|[]=>some (True,.pv (.mv lh))|_=>none
@[simp] theorem Ux:Ct []=some (True,.pv (.mv lh)):=rfl
theorem K6:aJ Tryz.prog 95 Ct:=by
 intro ys φ r h hφ;unfold Ct at h;split at h;·cases h;refine ak ah (by kernel_rfl) (by conv=>lhs;reduce) (by simp) ?_;simp(config := { maxSteps := 3000000 }) [lh,gI]
 ·cases h
def dD (l:List Vn) (v:Vn):List Vn×Int:=if bS l=false∨v.dm=true∨v.n=0∨(0<l.length∧v.n≤lu l) then([],2) else if bT v≠0∧(iw l (bT v)).isSome=false then([],150) else(l++[v],0)
@[simp] noncomputable def K7 (e:TypeId):List AV→Option (Prop×AV)|[.pv (.ro a),.agg [.pv (.int .u64 n),.pv (.int .u64 b),.pv (.int .u64 p),.pv (.int .u64 i),.pv (.int .u64 s),.pv (.int .u64 z),.pv (.int .u64 m),.pv (.str t),.pv (.bool inl),.pv (.bool dm)]]=>(dec dj a).map fun l=>(l.length≤100000∧(∀v∈l,lg v)∧lg ⟨n,b,p,i,s,z,m,t,inl,dm⟩,.aO [.fr e (aH (dD l ⟨n,b,p,i,s,z,m,t,inl,dm⟩).1),.pv (.int .i64 (dD l ⟨n,b,p,i,s,z,m,t,inl,dm⟩).2)])|_=>none
theorem Pe:aJ Tryz.prog 171 (K7 108):=by
 intro ys φ r h hφ;unfold K7 at h;split at h
 ·rename_i ra n b p i s z m t inl dm;obtain⟨a,ha,h⟩:=q0.1 h;cases h;cases aI ha;obtain⟨hl5,hov,hvv⟩:=hφ;have hl9:a.length≤1000000000:=by omega
  have hl6:a.length≤1000000:=by omega
  have fl:∀l,bp (aH l):=aE;have hbv:(if inl=true then 0 else b)=bT ⟨n,b,p,i,s,z,m,t,inl,dm⟩:=rfl;refine ak (ag Ky (ag B9 (ag P2 (ag Ed ah)))) (by kernel_rfl) (by conv=>lhs;reduce) (by simp) ?_;by_cases h0:0<a.length
  ·have w1:IntKind.i64.wrap ((a.length:Int)-1)=(a.length:Int)-1:=wrap_i64 (by omega);have hlt:a.length-1<a.length:=by omega
   have r1:=bj hlt;rw[show((a.length-1:Nat):Int)=(a.length:Int)-1 from by omega]at r1;have hln:a[a.length-1].n=lu a:=by unfold lu;rw[q198,q64 hlt];rfl
   rw[hln]at r1;have b1:1≤(a.length:Int):=by omega
   have b2:(a.length:Int)-1<a.length:=by omega
   cases hr:bS a with|false=>
    have hi:dD a ⟨n,b,p,i,s,z,m,t,inl,dm⟩=([],2):=by simp[dD,hr]
    simp(config := { maxSteps := 3000000 }) [hl9,hl6,hr,hi,fl,w1,r1,h0,b1,b2]|true=>cases dm with
   |true=>
    have hi:dD a ⟨n,b,p,i,s,z,m,t,inl,true⟩=([],2):=by simp[dD,hr]
    simp(config := { maxSteps := 3000000 }) [hl9,hl6,hr,hi,fl,w1,r1,h0,b1,b2]|false=>
   by_cases hn:n=0
   ·have hi:dD a ⟨n,b,p,i,s,z,m,t,inl,false⟩=([],2):=by simp[dD,hr,hn]
    simp(config := { maxSteps := 3000000 }) [hl9,hl6,hr,hi,fl,w1,r1,h0,b1,b2,hn];try(rw[←hn];simp[hi])
   by_cases hle:n≤lu a
   ·have hi:dD a ⟨n,b,p,i,s,z,m,t,inl,false⟩=([],2):=by simp[dD,hr,hn,hle,h0]
    simp(config := { maxSteps := 3000000 }) [hl9,hl6,hr,hi,fl,w1,r1,h0,b1,b2,hn,hle]
   by_cases hb:bT ⟨n,b,p,i,s,z,m,t,inl,false⟩=0
   ·have hi:dD a ⟨n,b,p,i,s,z,m,t,inl,false⟩=(a++[⟨n,b,p,i,s,z,m,t,inl,false⟩],0):=by simp[dD,hr,hn,hle,h0,hb]
    simp(config := { maxSteps := 3000000 }) [hl9,hl6,hr,fl,w1,r1,h0,b1,b2,hn,hle,hbv,bP,hb,hi,ax];exact⟨⟨by omega,by omega⟩,by rw[cP];rfl⟩
   ·cases hg:(iw a (bT ⟨n,b,p,i,s,z,m,t,inl,false⟩)).isSome with|false=>
     have hi:dD a ⟨n,b,p,i,s,z,m,t,inl,false⟩=([],150):=by simp[dD,hr,hn,hle,h0,hb,hg]
     simp(config := { maxSteps := 3000000 }) [hl9,hl6,hr,fl,w1,r1,h0,b1,b2,hn,hle,hbv,bP,hb,hi,hg]|true=>
     have hi:dD a ⟨n,b,p,i,s,z,m,t,inl,false⟩=(a++[⟨n,b,p,i,s,z,m,t,inl,false⟩],0):=by simp[dD,hr,hn,hle,h0,hb,hg]
     simp(config := { maxSteps := 3000000 }) [hl9,hl6,hr,fl,w1,r1,h0,b1,b2,hn,hle,hbv,bP,hb,hi,hg,ax];exact⟨⟨by omega,by omega⟩,by rw[cP];rfl⟩
  ·have:a=[]:=q72 (by omega);subst this;have hr:bS []=true:=rfl;have r0:∀k:Int,rowAt [] k=[]:=fun k=>by simp[rowAt]
   have hd0:dec dj []=some []:=FE [];have hg0:∀q,iw [] q=none:=fun q=>rfl;have f0:bp []:=aE [];cases dm with
   |true=>
    have hi:dD [] ⟨n,b,p,i,s,z,m,t,inl,true⟩=([],2):=by simp[dD,hr]
    simp(config := { maxSteps := 3000000 }) [hr,hi,r0,hd0,f0]|false=>
   by_cases hn:n=0
   ·have hi:dD [] ⟨n,b,p,i,s,z,m,t,inl,false⟩=([],2):=by simp[dD,hr,hn]
    simp(config := { maxSteps := 3000000 }) [hr,hi,r0,hd0,f0,hn];try(rw[←hn];simp[hi])
   by_cases hb:bT ⟨n,b,p,i,s,z,m,t,inl,false⟩=0
   ·have hi:dD [] ⟨n,b,p,i,s,z,m,t,inl,false⟩=([⟨n,b,p,i,s,z,m,t,inl,false⟩],0):=by simp[dD,hr,hn,hb]
    simp(config := { maxSteps := 3000000 }) [hr,hi,r0,hd0,f0,hg0,hn,hb,hbv,ax,v0,bP];rfl
   ·have hi:dD [] ⟨n,b,p,i,s,z,m,t,inl,false⟩=([],150):=by simp[dD,hr,hn,hb,hg0]
    simp(config := { maxSteps := 3000000 }) [hr,hi,r0,hd0,f0,hg0,hn,hb,hbv,v0,bP]
 ·cases h
theorem Ks:aJ Tryz.prog 88 (K7 144):=by
 intro ys φ r h hφ;unfold K7 at h;split at h
 ·rename_i ra n b p i s z m t inl dm;obtain⟨a,ha,h⟩:=q0.1 h;cases h;cases aI ha;obtain⟨hl5,hov,hvv⟩:=hφ;have hl9:a.length≤1000000000:=by omega
  have hl6:a.length≤1000000:=by omega
  have fl:∀l,bp (aH l):=aE;have hbv:(if inl=true then 0 else b)=bT ⟨n,b,p,i,s,z,m,t,inl,dm⟩:=rfl;have hbp:0≤bT ⟨n,b,p,i,s,z,m,t,inl,dm⟩:=qt hvv;refine ak (ag NQ (ag C4 (ag Mu ah))) (by kernel_rfl) (by conv=>lhs;reduce) (by simp) ?_;cases hr:bS a with
  |false=>
   have hi:dD a ⟨n,b,p,i,s,z,m,t,inl,dm⟩=([],2):=by simp[dD,hr]
   simp(config := { maxSteps := 3000000 }) [hl9,hl6,hr,hi,fl];exact hov|true=>cases dm with
  |true=>
   have hi:dD a ⟨n,b,p,i,s,z,m,t,inl,true⟩=([],2):=by simp[dD,hr]
   simp(config := { maxSteps := 3000000 }) [hl9,hl6,hr,hi,fl];exact hov|false=>
  by_cases hn:n=0
  ·have hi:dD a ⟨n,b,p,i,s,z,m,t,inl,false⟩=([],2):=by simp[dD,hr,hn]
   simp(config := { maxSteps := 3000000 }) [hl9,hl6,hr,hi,fl,hn];refine⟨hov,?_⟩;try(rw[←hn];simp[hi])
  simp(config := { maxSteps := 3000000 }) [hl9,hl6,hr,fl,hn];refine⟨hov,?_⟩;refine aj (fun i:Nat=>i≤a.length∧∀j (h:j<a.length),j<i→a[j].n<n) (fun i'=>⟨[(0,.pv (.ro (aH a))),(3,.ptr 3 0),(6,.pv (.int .i64 i'))],[(3,.box [.pv (.int .u64 n),.pv (.int .u64 b),.pv (.int .u64 p),.pv (.int .u64 i),.pv (.int .u64 s),.pv (.int .u64 z),.pv (.int .u64 m),.pv (.str t),.pv (.bool inl),.pv (.bool false)])]⟩) (fun i=>a.length-i) [] 0 (by simp) ?_ ?_;·simp
  ·rintro k ⟨hk,ht⟩;have w2:IntKind.i64.wrap ((k:Int)+1)=(k:Int)+1:=wrap_i64 (by omega);by_cases hlt:k<a.length
   ·have r1:=bj hlt;by_cases hge:n≤a[k].n
    ·have hla:=B2 hr hlt;have hi:dD a ⟨n,b,p,i,s,z,m,t,inl,false⟩=([],2):=by
      have h1:0<a.length:=by omega
      have h2:n≤lu a:=by omega
      simp[dD,h1,h2]
     simp(config := { maxSteps := 3000000 }) [w2,hlt,r1,hge,hi]
    ·simp(config := { maxSteps := 3000000 }) [w2,hlt,r1,hge];refine⟨k+1,⟨by omega,fun j hj hjk=>?_⟩,by omega,by omega⟩;by_cases hjk':j=k;·subst hjk';omega
     ·exact ht j hj (by omega)
   ·have hle:¬(0<a.length∧n≤lu a):=by
     rintro⟨h0,hle⟩;have hlt':a.length-1<a.length:=by omega
     have h1:=ht (a.length-1) hlt' (by omega);have h2:lu a=a[a.length-1].n:=by unfold lu;rw[q198,q64 hlt'];rfl
     omega
    have hle':0<a.length→lu a<n:=fun h1=>by
     by_cases h2:n≤lu a;·exact absurd ⟨h1,h2⟩ hle
     ·omega
    by_cases hb:bT ⟨n,b,p,i,s,z,m,t,inl,false⟩=0
    ·have hi:dD a ⟨n,b,p,i,s,z,m,t,inl,false⟩=(a++[⟨n,b,p,i,s,z,m,t,inl,false⟩],0):=by simp[dD,hr,hn,hb];exact fun h1=>hle' (by first|exact h1|exact q164.2 h1)
     simp(config := { maxSteps := 3000000 }) [hlt,hl6,hbv,hb,hi,ax];exact⟨⟨by omega,by omega,iI a⟩,⟨by omega,by omega⟩,by rw[cP];rfl⟩
    ·have hb':0<bT ⟨n,b,p,i,s,z,m,t,inl,false⟩:=by omega
     cases hg:(iw a (bT ⟨n,b,p,i,s,z,m,t,inl,false⟩)).isSome with|false=>
      have hi:dD a ⟨n,b,p,i,s,z,m,t,inl,false⟩=([],150):=by simp[dD,hr,hn,hb,hg];exact fun h1=>hle' (by first|exact h1|exact q164.2 h1)
      simp(config := { maxSteps := 3000000 }) [hlt,hl6,hbv,hb,hb',hi,hg,bP]|true=>
      have hi:dD a ⟨n,b,p,i,s,z,m,t,inl,false⟩=(a++[⟨n,b,p,i,s,z,m,t,inl,false⟩],0):=by simp[dD,hr,hn,hb,hg];exact fun h1=>hle' (by first|exact h1|exact q164.2 h1)
      simp(config := { maxSteps := 3000000 }) [hlt,hl6,hbv,hb,hb',hi,hg,bP,ax];exact⟨⟨by omega,by omega,iI a⟩,⟨by omega,by omega⟩,by rw[cP];rfl⟩
 ·cases h
def inlV (l:List Vn) (ts:List (List UInt8)):List Vn:=List.zipWith (fun(v:Vn) t=>tm v.n t) l ts
def mc (l:List Vn) (ts:List (List UInt8)):List Vn×Int:=if bS l=false∨ts.length≠(bD l).length then([],2) else(inlV (bD l) ts,0)
@[simp] noncomputable def GInl (e:TypeId):List AV→Option (Prop×AV)|[.pv (.ro a),.pv (.ro ts)]=>(dec dj a).bind fun l=>(dec Ij ts).map fun ts=>(l.length≤100000∧(∀v∈l,lg v),.aO [.fr e (aH (mc l ts).1),.pv (.int .i64 (mc l ts).2)])|_=>none
structure Dc where
 l:Ls
 ps:List Pn
 vs:List Vn
 sl:Bool deriving DecidableEq
def cellsD (d:Dc):List AV:=[.pv (.int .u64 d.l.e),.pv (.int .u64 d.l.p),.pv (.int .u64 d.l.i),.pv (.int .u64 d.l.u),.pv (.bool d.l.h),.pv (.ro (au d.ps)),.pv (.ro (aH d.vs)),.pv (.bool d.sl)]
noncomputable def jZ (ys:List AV) (K:Dc→Option (Prop×AV)):Option (Prop×AV):=match ys with|[.pv (.int .u64 e),.pv (.int .u64 p),.pv (.int .u64 i),.pv (.int .u64 u),.pv (.bool h),.pv (.ro a),.pv (.ro b),.pv (.bool sl)]=>(dec rowP a).bind fun ps=>(dec dj b).bind fun vs=>K ⟨⟨e,p,i,u,h⟩,ps,vs,sl⟩|_=>none
@[simp] theorem Wc (e p i u:Int) (h sl:Bool) (a b:List (List PV)) (K:Dc→Option (Prop×AV)):jZ [.pv (.int .u64 e),.pv (.int .u64 p),.pv (.int .u64 i),.pv (.int .u64 u),.pv (.bool h),.pv (.ro a),.pv (.ro b),.pv (.bool sl)] K=(dec rowP a).bind fun ps=>(dec dj b).bind fun vs=>K ⟨⟨e,p,i,u,h⟩,ps,vs,sl⟩:=rfl
theorem eo {ys:List AV}{K:Dc→Option (Prop×AV)}{x:Prop×AV} (h:jZ ys K=some x):∃d,ys=cellsD d∧K d=some x:=by
 unfold jZ at h;split at h;·obtain⟨ps,hp,h1⟩:=q63.1 h;obtain⟨vs,hv,h2⟩:=q63.1 h1;rw[az hp,aI hv];exact⟨_,rfl,h2⟩
 ·cases h
@[simp] noncomputable def GdP:List AV→Option (Prop×AV)|[.agg [.pv (.ro a)]]=>(dec rowP a).map fun l=>(l.length≤100000,.fr 162 (au l))|_=>none
theorem c_dP:aJ Tryz.prog 44 GdP:=by
 intro ys φ r h hφ;unfold GdP at h;split at h
 ·obtain⟨a,ha,h⟩:=q0.1 h;cases h;cases az ha;have hl:a.length≤100000:=hφ;refine ak ah (by kernel_rfl) (by conv=>lhs;reduce) (by simp) ?_;simp(config := { maxSteps := 3000000 });refine aj (fun i:Nat=>i≤a.length) (fun i=>⟨[(1,.ptr 1 0),(2,.own 2),(3,.own 3),(4,.pv (.int .i64 i))],[(1,.box [.pv (.ro (au a))]),(2,.arr 162 []),(3,.arr 162 (au (a.take i)))]⟩) (fun i=>a.length-i) [] 0 (by simp) ?_ ?_;·simp
  ·intro i hi;have w2:IntKind.i64.wrap ((i:Int)+1)=(i:Int)+1:=wrap_i64 (by omega);by_cases hlt:i<a.length;·have r1:=bo hlt;simp(config := { maxSteps := 3000000 }) [w2,hlt,r1,ax];refine⟨⟨by omega,by omega⟩,i+1,by omega,⟨by omega,?_⟩,by omega⟩;rw[q62 hlt,bQ];rfl
   ·simp(config := { maxSteps := 3000000 }) [hlt];rw[List.take_of_length_le (by omega)]
 ·cases h
@[simp] noncomputable def GdV:List AV→Option (Prop×AV)|[.pv (.ro a)]=>(dec dj a).map fun l=>(l.length≤100000,.fr 144 (aH l))|_=>none
theorem c_dV:aJ Tryz.prog 45 GdV:=by
 intro ys φ r h hφ;unfold GdV at h;split at h
 ·obtain⟨a,ha,h⟩:=q0.1 h;cases h;cases aI ha;have hl:a.length≤100000:=hφ;refine ak ah (by kernel_rfl) (by conv=>lhs;reduce) (by simp) ?_;simp(config := { maxSteps := 3000000 });refine aj (fun i:Nat=>i≤a.length) (fun i=>⟨[(0,.pv (.ro (aH a))),(2,.own 2),(3,.own 3),(4,.pv (.int .i64 i))],[(2,.arr 144 []),(3,.arr 144 (aH (a.take i)))]⟩) (fun i=>a.length-i) [] 0 (by simp) ?_ ?_;·simp
  ·intro i hi;have w2:IntKind.i64.wrap ((i:Int)+1)=(i:Int)+1:=wrap_i64 (by omega);by_cases hlt:i<a.length;·have r1:=bj hlt;simp(config := { maxSteps := 3000000 }) [w2,hlt,r1,ax];refine⟨⟨by omega,by omega⟩,i+1,by omega,⟨by omega,?_⟩,by omega⟩;rw[q62 hlt,cP];rfl
   ·simp(config := { maxSteps := 3000000 }) [hlt];rw[List.take_of_length_le (by omega)]
 ·cases h
@[simp] noncomputable def GdD:List AV→Option (Prop×AV)|[.agg ys]=>jZ ys fun d=>some (d.ps.length≤100000∧d.vs.length≤100000,.agg [.pv (.int .u64 d.l.e),.pv (.int .u64 d.l.p),.pv (.int .u64 d.l.i),.pv (.int .u64 d.l.u),.pv (.bool d.l.h),.fr 162 (au d.ps),.fr 144 (aH d.vs),.pv (.bool d.sl)])|_=>none
theorem c_dD:aJ Tryz.prog 24 GdD:=by
 intro ys φ r h hφ;unfold GdD at h;split at h;·obtain⟨d,hd,h2⟩:=eo h;subst hd;clear h;cases h2;obtain⟨h1,h2⟩:=hφ;refine ak (ag c_dP (ag c_dV ah)) (by kernel_rfl) (by conv=>lhs;reduce) (by simp) ?_;simp(config := { maxSteps := 3000000 }) [cellsD,h1,h2]
 ·cases h
noncomputable def yF (d:Dc) (ts:List (List UInt8)):Dc×Int:=if(mc d.vs ts).2=0 then(⟨d.l,d.ps,(mc d.vs ts).1,d.sl⟩,0) else(⟨⟨0,0,0,0,false⟩,[],[],false⟩,(mc d.vs ts).2)
@[simp] noncomputable def GDIn (e1 e2:TypeId):List AV→Option (Prop×AV)|[.agg ys,.pv (.ro ts)]=>jZ ys fun d=>(dec Ij ts).map fun ts=>(d.ps.length≤100000∧d.vs.length≤100000∧(∀v∈d.vs,lg v),.aO [.agg [.pv (.int .u64 (yF d ts).1.l.e),.pv (.int .u64 (yF d ts).1.l.p),.pv (.int .u64 (yF d ts).1.l.i),.pv (.int .u64 (yF d ts).1.l.u),.pv (.bool (yF d ts).1.l.h),.fr e1 (au (yF d ts).1.ps),.fr e2 (aH (yF d ts).1.vs),.pv (.bool (yF d ts).1.sl)],.pv (.int .i64 (yF d ts).2)])|_=>none
def yC (a b:Int):Int:=if a<b then-1 else if b<a then 1 else 0
@[simp] def LY:List AV→Option (Prop×AV)|[.pv (.int .u64 _)]=>some (True,.pv (.bool false))|_=>none
theorem OT:aJ Tryz.prog 156 LY:=by
 intro ys φ r h hφ;unfold LY at h;split at h;·cases h;refine ak ah (by kernel_rfl) (by conv=>lhs;reduce) (by simp) ?_;simp(config := { maxSteps := 3000000 })
 ·cases h
@[simp] def L0:List AV→Option (Prop×AV)|[.pv (.int .u64 a),.pv (.int .u64 b)]=>some (True,.pv (.int .i64 (yC a b)))|_=>none
theorem Qf:aJ Tryz.prog 120 L0:=by
 intro ys φ r h hφ;unfold L0 at h;split at h
 ·rename_i a b;cases h;refine ak (ag OT ah) (by kernel_rfl) (by conv=>lhs;reduce) (by simp) ?_;unfold yC;by_cases h1:a<b;·simp(config := { maxSteps := 3000000 }) [h1]
  ·by_cases h2:b<a<;>simp(config := { maxSteps := 3000000 }) [h1,h2]
 ·cases h
@[simp] def GOr:List AV→Option (Prop×AV)|[.pv (.ro [[.int .i64 a],[.int .i64 b]])]=>some (True,.pv (.int .i64 (if a=0 then b else a)))|_=>none
theorem c_Or:aJ Tryz.prog 119 GOr:=by
 intro ys φ r h hφ;unfold GOr at h;split at h
 ·rename_i a b;cases h;refine ak ah (by kernel_rfl) (by conv=>lhs;reduce) (by simp) ?_;simp(config := { maxSteps := 3000000 });refine aj (fun i:Nat=>i≤2∧(1≤i→a=0)∧(2≤i→b=0)) (fun i=>⟨[(0,.pv (.ro [[.int .i64 a],[.int .i64 b]])),(2,.pv (.int .i64 0)),(3,.pv (.int .i64 0)),(6,.pv (.ro [[.int .i64 a],[.int .i64 b]])),(7,.pv (.int .i64 2)),(8,.pv (.int .i64 (i:Int)))],[]⟩) (fun i=>2-i) [] 0 (by simp) ?_ ?_;·simp
  ·rintro i ⟨hi,h1,h2⟩;rcases(show i=0∨i=1∨i=2 by omega) with rfl|rfl|rfl
   ·by_cases ha:a=0;·simp(config := { maxSteps := 3000000 }) [ha,rowAt];exact⟨1,by simp,rfl,by omega⟩
    ·simp(config := { maxSteps := 3000000 }) [ha,rowAt]
   ·have ha:=h1 (by omega);by_cases hb:b=0;·simp(config := { maxSteps := 3000000 }) [ha,hb,rowAt];exact⟨2,by simp,rfl,by omega⟩
    ·simp(config := { maxSteps := 3000000 }) [ha,hb,rowAt]
   ·simp(config := { maxSteps := 3000000 }) [h1 (by omega),h2 (by omega)]
 ·cases h
def Fo (a b:Pn):Int:=if yC a.i b.i=0 then yC a.v b.v else yC a.i b.i
@[simp] def NW:List AV→Option (Prop×AV)|[.agg [.pv (.int .u64 p),.pv (.int .u64 i),.pv (.int .u64 s)],.agg [.pv (.int .u64 p'),.pv (.int .u64 i'),.pv (.int .u64 s')]]=>some (True,.pv (.int .i64 (Fo ⟨p,i,s⟩ ⟨p',i',s'⟩)))|_=>none
theorem G2:aJ Tryz.prog 73 NW:=by
 intro ys φ r h hφ;unfold NW at h;split at h;·cases h;refine ak (ag c_Or (ag Qf ah)) (by kernel_rfl) (by conv=>lhs;reduce) (by simp) ?_;simp(config := { maxSteps := 3000000 }) [Fo]
 ·cases h
def m0 (w x:Pn):Bool:=decide (Fo x w=0)
def vx (w x:Pn):Bool:=decide (0<Fo x w)
@[simp] def GW (f:Pn→Pn→Bool):List AV→Option (Prop×AV)|[.agg [.pv (.int .u64 p),.pv (.int .u64 i),.pv (.int .u64 s)],.rp [.int .u64 p',.int .u64 i',.int .u64 s']]=>some (True,.pv (.bool (f ⟨p',i',s'⟩ ⟨p,i,s⟩)))|_=>none
theorem c_W1:aJ Tryz.prog 98 (GW m0):=by
 intro ys φ r h hφ;unfold GW at h;split at h;·cases h;refine ak (ag G2 ah) (by kernel_rfl) (by conv=>lhs;reduce) (by simp) ?_;simp(config := { maxSteps := 3000000 }) [m0]
 ·cases h
theorem c_W2:aJ Tryz.prog 99 (GW vx):=by
 intro ys φ r h hφ;unfold GW at h;split at h;·cases h;refine ak (ag G2 ah) (by kernel_rfl) (by conv=>lhs;reduce) (by simp) ?_;simp(config := { maxSteps := 3000000 }) [vx]
 ·cases h
theorem Dy:fF Tryz.prog 98=true:=by kernel_rfl
theorem D4:fF Tryz.prog 99=true:=by kernel_rfl
def GU (q:Pn→Bool) (l:List Pn):Int:=if l.any q=true then(l.findIdx q:Int) else-1
def clW (f:FuncId):Option (Pn→Pn→Bool):=if f=98 then some m0 else if f=99 then some vx else none
@[simp] noncomputable def Xg:List AV→Option (Prop×AV)|[.pv (.ro a),.bE f [.rp [.int .u64 p,.int .u64 i,.int .u64 s]]]=>(clW f).bind fun q=>(dec rowP a).map fun l=>(l.length≤1000000000,.pv (.int .i64 (GU (q ⟨p,i,s⟩) l)))|_=>none
theorem c_IxW:aJ Tryz.prog 97 Xg:=by
 intro ys φ r h hφ;unfold Xg at h;split at h
 ·rename_i ra f p n s;obtain⟨q,hq,h⟩:=q63.1 h;obtain⟨a,ha,h⟩:=q0.1 h;cases h;cases az ha;have hq:(f=98∧q=m0)∨(f=99∧q=vx):=by
   unfold clW at hq;split at hq;·rename_i hf;cases hq;exact .inl ⟨hf,rfl⟩
   ·split at hq;·rename_i hf;cases hq;exact .inr ⟨hf,rfl⟩
    ·cases hq
  refine ak (ag c_W1 (ag c_W2 ah)) (by kernel_rfl) (by conv=>lhs;reduce) (by simp) ?_;simp(config := { maxSteps := 3000000 });refine aj (fun i:Nat=>i≤a.length∧∀e∈a.take i,¬q ⟨p,n,s⟩ e=true) (fun i=>⟨[(0,.pv (.ro (au a))),(1,.bE f [.rp [.int .u64 p,.int .u64 n,.int .u64 s]]),(7,.pv (.int .i64 a.length)),(8,.pv (.int .i64 i))],[]⟩) (fun i=>a.length-i) [] 0 (by simp) ?_ ?_;·simp
  ·rintro i ⟨hi,ht⟩;have w2:IntKind.i64.wrap ((i:Int)+1)=(i:Int)+1:=wrap_i64 (by omega);by_cases hlt:i<a.length;·have r1:=bo hlt;cases he:q ⟨p,n,s⟩ a[i]with
    |true=>
     have dm:a.any (q ⟨p,n,s⟩)=true:=q112.2 ⟨a[i],q82 hlt,he⟩;have hfi:a.findIdx (q ⟨p,n,s⟩)=i:=by rw[q166 hlt];refine⟨he,fun j hj=>?_⟩;have:=ht a[j] (by rw[q91];exact⟨j,by omega,rfl⟩);simpa using this
     rcases hq with⟨rfl,rfl⟩|⟨rfl,rfl⟩<;>simp(config := { maxSteps := 3000000 }) [hlt,r1,Dy,D4,he,dm,hfi,GU]|false=>
     have hnx:i+1≤a.length∧∀e∈a.take (i+1),¬q ⟨p,n,s⟩ e=true:=by
      refine⟨by omega,fun e hm=>?_⟩;rw[q62 hlt,q80,q75]at hm;rcases hm with hm|rfl;·exact ht e hm
      ·rw[he];decide
     rcases hq with⟨rfl,rfl⟩|⟨rfl,rfl⟩<;>·simp(config := { maxSteps := 3000000 }) [hlt,r1,Dy,D4,he,w2];exact⟨i+1,by simpa using hnx,by omega,by omega⟩
   ·rw[List.take_of_length_le (by omega)]at ht;have dm:a.any (q ⟨p,n,s⟩)=false:=by rw[q141];exact ht
    simp(config := { maxSteps := 3000000 }) [hlt,dm,GU]
 ·cases h
@[simp] noncomputable def GClW:List AV→Option (Prop×AV)|[.pv (.ro a)]=>(dec rowP a).map fun l=>(l.length≤100000000,.fr 84 (au l))|_=>none
theorem Yh:aJ Tryz.prog 60 GClW:=by
 intro ys φ r h hφ;unfold GClW at h;split at h;·rename_i ra;obtain⟨a,ha,h⟩:=q0.1 h;cases h;cases az ha;refine ak ah (by kernel_rfl) (by conv=>lhs;reduce) (by simp) ?_;cases a with|nil=>simp(config := { maxSteps := 3000000 }) [mD]|cons x l=>have hx:au (x::l)=rowP x::au l:=rfl;simp(config := { maxSteps := 3000000 }) [hx,ax];simp only[q79]at hφ;exact⟨by omega,by omega,rfl,bH l⟩
 ·cases h
def Is:PV→Value|.int k n=>.int k n|.bool b=>.bool b|.str l=>.string ⟨l.toArray⟩|_=>undef
def yG:PV→Bool|.int _ _|.bool _|.str _=>true|_=>false
def cellW (rows:List (List PV)):List Value:=rows.flatMap fun r=>r.map Is
def dy (rows:List (List PV)):Prop:=∀r∈rows,∀p∈r,yG p=true
theorem R1 {w:World}{v:Value} (h:dt S w v p) (hp:yG p=true):v=Is p:=by cases h<;>first|rfl|cases hp
theorem Kd (S:Nat→Prop) (w:World) (hp:yG p=true):dt S w (Is p) p∧(Is p).oneCell'=true:=by cases p with|int k n=>exact⟨.int k n,rfl⟩|bool b=>exact⟨.bool b,rfl⟩|str l=>exact⟨.str l,rfl⟩|_=>cases hp
theorem Dp (hp:yG p=true):(Is p).oneCell'=true:=by cases p<;>first|rfl|cases hp
theorem eO (a b:List (List PV)):cellW (a++b)=cellW a++cellW b:=by simp[cellW]
theorem eK {sz:Nat}:∀{rows:List (List PV)},(∀r∈rows,r.length=sz)→(cellW rows).length=rows.length*sz|[],_=>by simp[cellW]|r::rows,h=>by have ih:=eK (rows:=rows) fun r hr=>h r (by simp[hr]);have h0:=h r (by simp);unfold cellW at ih ⊢;simp only[q106,q74,List.length_map,q79,ih,h0,q118];omega
theorem qN {sz:Nat}:∀{rows:List (List PV)},(∀r∈rows,r.length=sz)→∀{i j:Nat}{r:List PV}{p:PV},rows[i]?=some r→r[j]?=some p→(cellW rows)[i*sz+j]?=some (Is p)
 |[],_,i,j,r,p,h,_=>by simp at h|r0::rows,hs,0,j,r,p,h,hj=>by simp only[q69,qr]at h;subst h;have hlt:j<r0.length:=(q65.1 hj).1;simp only[cellW,q106,Nat.zero_mul,q133];rw[q85 (by simpa using hlt),q77,hj];rfl|r0::rows,hs,i+1,j,r,p,h,hj=>by
  have ih:=qN (rows:=rows) (fun r hr=>hs r (by simp[hr])) (i:=i) (by simpa using h) hj;have h0:=hs r0 (by simp);have e1:(i+1)*sz+j-(r0.map Is).length=i*sz+j:=by rw[List.length_map,h0,q118];omega
  simp only[cellW,q106];rw[q97 (by rw[List.length_map,h0,q118];omega),e1];exact ih
theorem Hb {w:World}{us:List Value} (hs:∀r∈rows,r.length=sz) (hp:dy rows) (hl:us.length=rows.length*sz) (h:∀(i j:Nat) (r:List PV) (p:PV),rows[i]?=some r→r[j]?=some p→∃u,us[i*sz+j]?=some u∧u.oneCell'=true∧dt S w u p):us=cellW rows:=by
 apply q211;intro k;by_cases hk:k<rows.length*sz
 ·have hsz:0<sz:=by rcases q169 sz with h0|h0;rw[h0]at hk;omega;exact h0
  have hi:k/sz<rows.length:=(q302 hsz).2 hk;have hr:rows[k/sz]?=some rows[k/sz]:=q64 hi;have hrl:(rows[k/sz]).length=sz:=hs _ (q82 hi);have hj:k%sz<(rows[k/sz]).length:=by rw[hrl];exact q272 _ hsz
  have hpj:(rows[k/sz])[k%sz]?=some (rows[k/sz])[k%sz]:=q64 hj;have hk2:k/sz*sz+k%sz=k:=by rw[q170];exact q237 k sz
  obtain⟨u,hu,_,hru⟩:=h _ _ _ _ hr hpj;have hpl:=hp _ (q82 hi) _ (q82 hj);have:=qN hs hr hpj;rw[hk2]at hu this;rw[hu,this,R1 hru hpl]
 ·rw[q132 (by omega),q132 (by rw[eK hs];omega)]
theorem kz (hp:dy rows):∀u∈cellW rows,u.oneCell'=true:=by intro u hu;simp only[cellW,q179,q84]at hu;obtain⟨r,hr,p,hpr,rfl⟩:=hu;exact Dp (hp r hr p hpr)
theorem tj {P:Program}{inf:TypeInfo} (hi:P.info? e=some inf) {rows rows':List (List PV)} (hs:∀r∈rows,r.length=inf.size) (hp:dy rows) (hs':∀r∈rows',r.length=inf.size) (hp':dy rows') (zs:List PV) (H:∀(w:World) (S:Nat→Prop) (V:Value) (vals:List Value),w.ownsRow 0 e inf.size V rows.length (cellW rows)→(∀b,S b→b<w.heap.size∧V.ownBlock≠some b)→vals.length=zs.length→(∀(i:Nat) (v:Value) (p:PV),vals[i]?=some v→zs[i]?=some p→dt S w v p)→Calls P f (V::vals).toArray w fun r w'=>∃V',r=.returned V'∧w'.ownsRow 0 e inf.size V' rows'.length (cellW rows')∧w.grownBy w' V.ownBlock∧(∀b,V'.ownBlock=some b→V.ownBlock=some b∨w.heap.size≤b)):Cz P f (.fr e rows::zs.map .pv) (.fr e rows'):=by intro w S0 β vals a1 a2 a3 a4 a5;have hmk:mO (.fr e rows::zs.map AV.pv)=[(998,.arr e rows)]:=rfl;rw[hmk]at a2 a3 a5 ⊢;match vals,a4 with
 |V::vs,a4=>
  have hV:=a5 0 V (.own 998) rfl rfl;obtain⟨hVe,hVd⟩:=hV.aX;obtain⟨inf',us,hi',hown,hrl,hcs⟩:=a3.holds 998 (.arr e rows) rfl;have:inf'=inf:=by rw[hi]at hi';injection hi' with h;exact h.symm
  subst this;have hus:=Hb hs hp hown.1 hcs;subst hus;rw[←hVe]at hown;have hob:=(gC hown).1;have hlive:∀b,live β (ab [(998,AO.arr e rows)]) b↔V.ownBlock=some b:=by
   intro b;constructor
   ·rintro⟨t,o,ho,hb⟩;by_cases ht:t=998;·subst ht;rw[←hVe,hob]at hb;exact hb
    ·simp[ab,ht]at ho
   ·intro hb;exact⟨998,_,rfl,by rw[←hVe,hob];exact hb⟩
  refine(H w (aZ S0 w.heap.size β (ab [(998,AO.arr e rows)]) w) V vs hown (fun b hb=>⟨hb.2.1,fun h=>hb.2.2 ((hlive b).2 h)⟩) (by simpa using a4) (fun i v p hv hp=>?_)).mono ?_;·have:=a5 (i+1) v (.pv p) (by simpa using hv) (by simp[hp,Hk]);exact this.bq
  ·rintro r w' ⟨V',rfl,hown',hg,hbl⟩;have hob':=(gC hown').1;have hobj:(bC (ab (ep (.fr e rows'))) fun t=>dC (cellAt (b9 (.fr e rows')) t))=fun t=>if t=0 then some (.arr e rows') else none:=by
    funext t;show(bC (ab []) fun t=>dC (cellAt (.fr e rows') t)) t=_;simp only[bC,ab,cellAt,bM];by_cases h0:t=0;·subst h0;rfl
    ·by_cases h1:t%1000=0
     ·have:t/1000≠0:=by omega
      simp[h0,h1,this,dC]
     ·simp[h0,h1,dC]
   refine⟨V',fun _=>V',rfl,⟨hg.os,hg.tape,hg.output,hg.size,fun b hb hnl=>hg.block b hb fun h=>hnl ((hlive b).2 h.symm)⟩,?_,?_,?_,?_⟩
   ·rw[hobj];refine⟨fun t o ho=>?_,fun t t' b ⟨o,ho⟩ ⟨o',ho'⟩ _ _=>?_⟩
    ·by_cases h0:t=0;·subst h0;simp only[if_true,qr]at ho;subst ho;refine⟨inf',cellW rows',hi,hown',hs',fun i j r p h1 h2=>?_⟩;have hpl:=hp' r (List.mem_of_getElem? h1) p (List.mem_of_getElem? h2);exact⟨Is p,qN hs' h1 h2,Dp hpl,(Kd _ w' hpl).1⟩
     ·simp[h0]at ho
    ·by_cases h0:t=0<;>by_cases h1:t'=0;·rw[h0,h1]
     ·simp[h1]at ho'
     ·simp[h0]at ho
     ·simp[h0]at ho
   ·rintro t b _ hb;rw[hob']at hb;rcases hbl b hb with h|h;·exact .inr ((hlive b).2 h)
    ·exact .inl h
   ·rintro t ⟨o,ho⟩;simp[ep,ab]at ho
   ·rw[hobj];exact .own 0 ⟨.arr e rows',by simp⟩|[],a4=>simp at a4
theorem dw {P:Program} (w:World) (dT sT ty elem:TypeId) (g o dLen dCap:Nat) (a:Addr) (sLen sCap sz:Nat) (cur:Array Value) (t:TypeId) (cs:List Value) (hu:P.underlying dT=some (.slice elem)) (hs:(P.info? elem).map (·.size)=some sz) (hg:w.heap[g]?=some (.cells cur t (0,0))) (hn:cs.length=Nat.min sLen dLen*sz) (hsrc:∀j v,cs[j]?=some v→w.cell? (a.add j)=some v) (hfit:o+cs.length≤cur.size) (h1:∀v∈cs,v.oneCell'=true):(Builtin.copy_ #[dT,sT] ty #[.slice (some ⟨g,o,none⟩) dLen dCap,.slice (some a) sLen sCap]).run P w=.ok (goInt (Nat.min sLen dLen)) (w.setRow g (cur.toList.take o++cs++cur.toList.drop (o+cs.length)).toArray):=by have hl:=run_firstCells_some (P:=P) (w:=w) sz (Nat.min sLen dLen) a sLen sCap cs hn hsrc;have hst:=run_storeCells_at P g o t cs 0 cur w hg (by simpa using hfit) h1;cases hq:P.info? elem with|none=>simp[hq]at hs|some i=>
 have hi:i.size=sz:=by simpa[hq]using hs
 simp only[q155]at hst;simp[Builtin.copy_,run_underlying hu,Builtin.lenOf,sizeOf,typeInfo,hq,hi,hl,hst]
theorem ke {P:Program} (w:World) (tS tR e:TypeId) (ht:P.underlying tS=some (.slice e)) (size:Nat) (hz:∀w,(Go.sizeOf e).run P w=.ok size w) (a b:Addr) (la ca lb cb:Nat) (hne:a.block≠b.block) {va:Value}{cur:Array Value}{tb:TypeId} (ha:w.cell? a=some va) (hb:w.heap[b.block]?=some (.cells cur tb (0,0))) (hcur:0<cur.size):(Extern.SlicesOverlaps.overlaps #[tS,tS] #[tR] #[.slice (some a) la ca,.slice (some b) lb cb]).run P w=.ok (.bool false) w:=by
 have hnb:(a.block !=b.block)=true:=by simpa using hne
 have hnb':(a.block==b.block)=false:=by simpa using hne
 have hfb:∀n,w.frozen? ⟨b.block,n,none⟩=false:=fun n=>by simp[World.frozen?,hb]
 have hfb':w.frozen? b=false:=by simp[World.frozen?,hb]
 have hsb:w.shape? b.block=some (tb,cur.size):=by simp[World.shape?,hb]
 obtain⟨ca',ta,fa,hca,hla⟩:∃c t f,w.heap[a.block]?=some (.cells c t f)∧0<c.size:=by
  unfold World.cell? at ha;split at ha
  ·rename_i c t f hc;refine⟨c,t,f,hc,?_⟩;split at ha;·cases ha
   ·have:=(q66.1 ha).1;omega
  ·cases ha
 have hsa:w.shape? a.block=some (ta,ca'.size):=by simp[World.shape?,hca]
 change Sem.run P (α:=Value) (do
  let some t:=(#[tS,tS]:Array TypeId)[0]?|stuck "slices.overlaps: no parameter types"
  let .slice elem←underlying t|stuck "slices.overlaps: slice type expected"
  let size←sizeOf elem match(some a:Option Addr),(some b:Option Addr) with
  |some a,some b=>if la=0∨lb=0∨size=0 then pure (Value.bool false) else if a.block !=b.block&&(←frozen a)&&(←frozen b) then unsupported .addressObserved else do
    if a.block !=b.block then do noView a;noView b if←mayBeOne a b then return Value.bool ((←choose (.extern "sameAddr.stringBytes" 2))==1)
    pure (Value.bool (a.block==b.block&&a.off<b.off+lb*size&&b.off<a.off+la*size))|_,_=>pure (Value.bool false)) w=_;by_cases h0:la=0∨lb=0∨size=0;·simp[run_underlying ht,hz,h0]
 ·obtain⟨m,hm⟩:∃m,cur.size=m+1:=⟨cur.size-1,by omega⟩;obtain⟨m',hm'⟩:∃m,ca'.size=m+1:=⟨ca'.size-1,by omega⟩;rw[hm]at hsb;rw[hm']at hsa;cases hfa:w.frozen? a<;>cases hfe:w.frozen? ⟨a.block,m'+1,none⟩<;>simp[run_underlying ht,hz,h0,hnb,hnb',frozen,noView,viewAt,mayBeOne,stringish,shape,Sem.run,hsa,hsb,hfb,hfb',hfa,hfe]
theorem jX:∃inf z,Tryz.prog.info? 71=some inf∧inf.zero=some z∧z.cells.size=inf.size∧inf.size=2∧inf.bytes=24:=by refine⟨_,_,rfl,rfl,?_,?_,?_⟩<;>kernel_rfl
theorem BU (w:World) (V:Value) (rows:List (List PV)) (hs2:∀r∈rows,r.length=2) (hp:dy rows) (hsm:rows.length≤1000000) (nm:List UInt8) (id:Int) (hown:w.ownsRow 0 71 2 V rows.length (cellW rows)) (ad:Addr) (c:Nat) (h0:w.cell? (ad.add 0)=some (.string ⟨nm.toArray⟩)) (h1:w.cell? (ad.add 1)=some (.int .u64 id)):Calls Tryz.prog 139 #[V,.int .i64 rows.length,.slice (some ad) 1 c] w fun r w'=>∃V',r=.returned V'∧w'.ownsRow 0 71 2 V' (rows.length+1) (cellW rows++[.string ⟨nm.toArray⟩,.int .u64 id])∧w.grownBy w' V.ownBlock∧(∀b,V'.ownBlock=some b→V.ownBlock=some b∨w.heap.size≤b):=by
 obtain⟨inf,z,hi,hz,hzs,hsz,hby⟩:=jX;have hsrc:Src Tryz.prog inf.size 32 (.slice (some ad) 1 c) 1 [.string ⟨nm.toArray⟩,.int .u64 id] w:=by
  rw[hsz];refine Src.ofSlice w Tryz.underlying32 ad 1 c _ (by simp) (fun j u hj=>?_) (fun u hu=>?_);·match j with|0=>simp at hj;subst hj;exact h0|1=>simp at hj;subst hj;exact h1|j+2=>simp at hj
  ·simp only[q76,q92,or_false]at hu;rcases hu with rfl|rfl<;>rfl
 rw[←hsz]at hown;obtain⟨v',w',hrun,hown',hg,hbl⟩:=ph w 33 32 33 71 inf z Tryz.underlying33 hi hz hzs (by omega) V rows.length (cellW rows) hown (.slice (some ad) 1 c) 1 _ hsrc (by unfold maxLen;omega) (by rw[hby];omega);rw[hsz]at hown' hown;have hfin:∃V',(Ending.returned v':Ending)=.returned V'∧w'.ownsRow 0 71 2 V' (rows.length+1) (cellW rows++[.string ⟨nm.toArray⟩,.int .u64 id])∧w.grownBy w' V.ownBlock∧(∀b,V'.ownBlock=some b→V.ownBlock=some b∨w.heap.size≤b):=⟨v',rfl,hown',hg,fun b hb=>by
  rcases hbl with h|h;·rw[h]at hb;exact .inl hb
  ·rw[h]at hb;injection hb with hb;exact .inr (by omega)⟩;have key:∀Φ:Ending→World→Prop,Φ (.returned v') w'→Calls Tryz.prog 139 #[V,.int .i64 rows.length,.slice (some ad) 1 c] w Φ:=by
  intro Φ hΦ;rcases hown.2 with⟨rfl,hn⟩|⟨g,cap,cur,rfl,hb0,hg0,hnc,hcm,hcs,htk⟩;·obtain rfl:rows=[]:=q72 hn;simp only[q87];clear hown hbl hg hown' hfin;go_enter Tryz.func139,Tryz.ntmps139;go_wp2_with(at_builtin;refine q182 _ rfl _ _ _ _ rfl _ _ rfl rfl _ _ hrun ?_);all_goals exact hΦ
  ·generalize hn:rows.length=n at*;have e1:(0:Int)≤(n:Int):=by omega
   have e2:(n:Int)≤(n:Int):=by omega
   clear hown hbl hg hown' hfin;go_enter Tryz.func139,Tryz.ntmps139;go_wp2_with(at_builtin;refine q182 _ rfl _ _ _ _ rfl _ _ rfl rfl _ _ hrun ?_);all_goals exact hΦ
 exact key _ hfin
theorem iO {sz:Nat}:∀{rows:List (List PV)} (i:Nat),(∀r∈rows,r.length=sz)→cellW (rows.take i)=(cellW rows).take (i*sz)
 |[],i,_=>by simp[cellW]|r::rows,0,_=>by simp[cellW]|r::rows,i+1,h=>by
  have ih:=iO (rows:=rows) i fun r hr=>h r (by simp[hr]);have h0:=h r (by simp);unfold cellW at ih ⊢;simp only[List.take_succ_cons,q106,ih];have e1:(i+1)*sz-(r.map Is).length=i*sz:=by rw[List.length_map,h0,q118];omega
  have e2:(r.map Is).take ((i+1)*sz)=r.map Is:=List.take_of_length_le (by rw[List.length_map,h0,q118];omega);rw[q219,e1,e2]
theorem nW  (i:Nat) (h:∀r∈rows,r.length=sz):cellW (rows.drop i)=(cellW rows).drop (i*sz):=by
 have h1:=iO i h;have h2:cellW (rows.take i)++cellW (rows.drop i)=cellW rows:=by rw[←eO,q156]
 rw[h1]at h2;have h3:=q156 (i*sz) (cellW rows);exact List.append_cancel_left (h2.trans h3.symm)
set_option maxHeartbeats 8000000 in theorem A7 (w:World) (rows:List (List PV)) (hs2:∀r∈rows,r.length=2) (hp:dy rows) (i n:Nat) (hn:rows.length=n) (hi:i<n) (hsm:n≤1000000) (nm:List UInt8) (id:Int) (g cap:Nat) (cur:Array Value) (hg0:w.heap[g]?=some (.cells cur 71 (0,0))) (hcm:cap≤maxLen) (hcs:cur.size=cap*2) (htk:cur.toList.take (n*2)=cellW rows) (hroom:n+1≤cap) (ad:Addr) (c:Nat) (hb:ad.block≠g) (h0:w.cell? (ad.add 0)=some (.string ⟨nm.toArray⟩)) (h1:w.cell? (ad.add 1)=some (.int .u64 id)):Calls Tryz.prog 139 #[.slice (some ⟨g,0,none⟩) n cap,.int .i64 i,.slice (some ad) 1 c] w fun r w'=>∃V',r=.returned V'∧w'.ownsRow 0 71 2 V' (n+1) ((cellW rows).take (i*2)++[.string ⟨nm.toArray⟩,.int .u64 id]++(cellW rows).drop (i*2))∧w.grownBy w' (Value.slice (some ⟨g,0,none⟩) n cap).ownBlock∧(∀b,V'.ownBlock=some b→(Value.slice (some ⟨g,0,none⟩) n cap).ownBlock=some b∨w.heap.size≤b):=by
 obtain⟨inf,z,hi',hz,hzs,hsz,hby⟩:=jX;have hszm:(Tryz.prog.info? 71).map (·.size)=some 2:=by rw[hi'];simp[hsz]
 have hcl:(cellW rows).length=n*2:=by rw[eK hs2,hn]
 obtain⟨cs,hcse⟩:∃cs,cs=(cellW rows).drop (i*2):=⟨_,rfl⟩;have hcsl:cs.length=(n-i)*2:=by rw[hcse,q94,hcl];omega
 have hcur:cur.toList.length=cap*2:=by simpa using hcs
 have hone:=kz hp;obtain⟨X1,hX1⟩:∃X1,X1=(cur.toList.take ((i+1)*2)++cs++cur.toList.drop ((i+1)*2+cs.length)).toArray:=⟨_,rfl⟩;have hX1l:X1.size=cap*2:=by rw[hX1];simp only[q105,q74,q67,q94,hcur,hcsl];omega
 have hcell:∀j v,cs[j]?=some v→w.cell? ((⟨g,i*2,none⟩:Addr).add j)=some v:=by
  intro j v hj;rw[q100];have hjl:j<cs.length:=(q65.1 hj).1;rw[hcse,q89,←htk,q81]at hj;split at hj;·simp only[World.cell?,hg0];simpa using hj
  ·cases hj
 have hcp1:∀sT ty dc sc,(Builtin.copy_ #[33,sT] ty #[.slice (some ⟨g,(i+1)*2,none⟩) (n-i) dc,.slice (some ⟨g,i*2,none⟩) (n+1-i) sc]).run Tryz.prog w.drew=.ok (goInt (n-i)) (w.drew.setRow g X1):=fun sT ty dc sc=>by have:=dw w.drew 33 sT ty 71 g ((i+1)*2) (n-i) dc ⟨g,i*2,none⟩ (n+1-i) sc 2 cur 71 cs Tryz.underlying33 hszm hg0 (by rw[hcsl];congr 1;simp only[q151];split<;>omega) hcell (by rw[hcsl,hcs];omega) (fun v hv=>hone v (by rw[hcse]at hv;exact q123 hv));rw[this,hX1];congr 2;simp only[q151];split<;>omega
 obtain⟨X2,hX2⟩:∃X2,X2=(X1.toList.take (i*2)++[Value.string ⟨nm.toArray⟩,Value.int .u64 id]++X1.toList.drop (i*2+2)).toArray:=⟨_,rfl⟩;have hcp2:∀W:World,W.heap=(w.drew.setRow g X1).heap→∀sT ty dc,(Builtin.copy_ #[33,sT] ty #[.slice (some ⟨g,i*2,none⟩) (n+1-i) dc,.slice (some ad) 1 c]).run Tryz.prog W=.ok (goInt 1) (W.setRow g X2):=fun W hW sT ty dc=>by
  have hWg:W.heap[g]?=some (.cells X1 71 (0,0)):=by rw[hW];exact setRow_heap w.drew g cur X1 _ _ hg0
  have hWc:∀x:Addr,x.block≠g→W.cell? x=w.cell? x:=fun x hx=>by have:(w.drew.setRow g X1).cell? x=w.drew.cell? x:=cell_setRow_other w.drew g X1 x hx;unfold World.cell? at this ⊢;rw[hW];exact this
  have:=dw W 33 sT ty 71 g (i*2) (n+1-i) dc ad 1 c 2 X1 71 [.string ⟨nm.toArray⟩,.int .u64 id] Tryz.underlying33 hszm hWg (by simp only[q79,q87,q151];split<;>omega) (fun j v hj=>by
   have hab:∀j,(ad.add j).block≠g:=fun j=>by rw[bW];exact hb
   match j with|0=>simp at hj;subst hj;rw[hWc _ (hab 0)];exact h0|1=>simp at hj;subst hj;rw[hWc _ (hab 1)];exact h1|j+2=>simp at hj) (by simp only[q79,q87,hX1l];omega) (by intro v hv;simp only[q76,q92,or_false]at hv;rcases hv with rfl|rfl<;>rfl);rw[this,hX2];congr 2;simp only[q151];split<;>omega
 have hzr:∀w,(Go.sizeOf 71).run Tryz.prog w=.ok 2 w:=fun w=>by rw[qJ hi' w,hsz]
 have hov:∀W:World,W.heap=w.heap→∀o lb cb,(callFunc 165 #[.slice (some ad) 1 c,.slice (some ⟨g,o,none⟩) lb cb]).run Tryz.prog W=.ok (.value (.bool false)) W:=fun W hW o lb cb=>by rw[run_callFunc_extern Tryz.func165 (by kernel_rfl) (by kernel_rfl) (by kernel_rfl) (e:=Extern.SlicesOverlaps.overlaps #[32,32] #[4]) (by kernel_rfl),ke W 32 4 71 Tryz.underlying32 2 hzr ad ⟨g,o,none⟩ 1 c lb cb hb (va:=.string ⟨nm.toArray⟩) (cur:=cur) (tb:=71) (by rw[add_zero']at h0;unfold World.cell? at h0 ⊢;rw[hW];exact h0) (by rw[hW];exact hg0) (by omega)];rfl
 have key:∀Φ:Ending→World→Prop,(∀w',w'.heap=((w.setRow g X1).setRow g X2).heap→w'.os=w.os→w'.tape=w.tape→w'.output=w.output→Φ (.returned (.slice (some ⟨g,0,none⟩) (n+1) cap)) w')→Calls Tryz.prog 139 #[.slice (some ⟨g,0,none⟩) n cap,.int .i64 i,.slice (some ad) 1 c] w Φ:=by
  intro Φ hΦ;have q1:¬((i:Int)=(n:Int)):=by omega
  have q2:¬((cap:Int)<(n:Int)+1):=by omega
  have q3:(i:Int)≤(n:Int):=by omega
  have q4:(n:Int)+1≤(cap:Int):=by omega
  have q5:(0:Int)≤(n:Int)+1:=by omega
  have q6:(i:Int)+1≤(n:Int)+1:=by omega
  have q7:IntKind.i64.wrap ((n:Int)+1)=(n:Int)+1:=by rw[q161];omega
  have q8:IntKind.i64.wrap ((i:Int)+1)=(i:Int)+1:=by rw[q161];omega
  have q9:((n:Int)+1).toNat=n+1:=by omega
  have q10:((i:Int)+1).toNat=i+1:=by omega
  have q11:(0:Int)≤(i:Int)+1:=by omega
  have q12:¬(cap=i+1):=by omega
  have q13:¬(cap=i):=by omega
  have q14:(i:Int)≤(n:Int)+1:=by omega
  have mixed:Tryz.prog.follows .mixedOrders=true:=by kernel_rfl
  clear hcell hone hX1 hX2 htk hcur;go_enter Tryz.func139,Tryz.ntmps139;go_wp2_with(simp only[hov]);go_region_law_o(refine step_copy_runI rfl _ _ 33 33 rfl _ _ (by simp[Act.eval,Act.put]) (by simp[Act.eval,Act.put]) (hcp1 _ _ _ _) ?_);go_wp2_with(at_builtin;refine wpList_copy_runI _ rfl _ _ 33 32 rfl _ _ rfl rfl (hcp2 _ rfl _ _ _) ?_);exact hΦ _ rfl rfl rfl rfl
 have hAt:(cellW rows).take (i*2)=cur.toList.take (i*2):=by rw[←htk,q145,q120 (by omega)]
 have e1:X1.toList.take (i*2)=(cellW rows).take (i*2):=by rw[hX1,hAt];simp only[q96];rw[q122 (by rw[q67];omega),q145,q120 (by omega)]
 have e2:∃rest,X1.toList.drop (i*2+2)=cs++rest:=by refine⟨cur.toList.drop ((i+1)*2+cs.length),?_⟩;rw[hX1];simp only[q96];rw[show i*2+2=(cur.toList.take ((i+1)*2)).length from by rw[q67];omega,q300]
 obtain⟨rest,e2⟩:=e2;have hA2:((cellW rows).take (i*2)).length=i*2:=by rw[q67];omega
 have e3:X2.toList=((cellW rows).take (i*2)++[Value.string ⟨nm.toArray⟩,Value.int .u64 id]++(cellW rows).drop (i*2))++rest:=by rw[hX2,e1,e2,hcse];simp only[q96]
 have e4:((cellW rows).take (i*2)++[Value.string ⟨nm.toArray⟩,Value.int .u64 id]++(cellW rows).drop (i*2)).length=(n+1)*2:=by simp only[q74,hA2,q79,q87,q94,hcl];omega
 have hX2l:X2.size=cap*2:=by rw[hX2];simp only[q105,q74,q67,q94,q83,hX1l,q79,q87];omega
 refine key _ fun w' hh ho ht hou=>⟨_,rfl,⟨e4,.inr ⟨g,cap,X2,rfl,q126 _,?_,hroom,hcm,hX2l,?_⟩⟩,⟨ho,ht,hou,?_,?_⟩,fun b hb=>.inl hb⟩;·rw[hh];exact setRow_heap (w.setRow g X1) g X1 X2 _ _ (setRow_heap w g cur X1 _ _ hg0)
 ·rw[e3,←e4];exact q154
 ·rw[hh];simp[World.setRow]
 ·intro k hk hne;have hkg:k≠g:=fun e=>hne (by rw[e];rfl);rw[hh,setRow_other _ g k _ hkg,setRow_other _ g k _ hkg]
theorem oS:∃inf z,Tryz.prog.info? 84=some inf∧inf.zero=some z∧z.cells.size=inf.size∧inf.size=3∧inf.bytes=24:=by refine⟨_,_,rfl,rfl,?_,?_,?_⟩<;>kernel_rfl
theorem Bi (w:World) (V:Value) (rows:List (List PV)) (hs2:∀r∈rows,r.length=3) (hp:dy rows) (hsm:rows.length≤1000000) (n1 n2 n3:Int) (hown:w.ownsRow 0 84 3 V rows.length (cellW rows)) (ad:Addr) (c:Nat) (h0:w.cell? (ad.add 0)=some (.int .u64 n1)) (h1:w.cell? (ad.add 1)=some (.int .u64 n2)) (h2:w.cell? (ad.add 2)=some (.int .u64 n3)):Calls Tryz.prog 100 #[V,.int .i64 rows.length,.slice (some ad) 1 c] w fun r w'=>∃V',r=.returned V'∧w'.ownsRow 0 84 3 V' (rows.length+1) (cellW rows++[.int .u64 n1,.int .u64 n2,.int .u64 n3])∧w.grownBy w' V.ownBlock∧(∀b,V'.ownBlock=some b→V.ownBlock=some b∨w.heap.size≤b):=by
 obtain⟨inf,z,hi,hz,hzs,hsz,hby⟩:=oS;have hsrc:Src Tryz.prog inf.size 34 (.slice (some ad) 1 c) 1 [.int .u64 n1,.int .u64 n2,.int .u64 n3] w:=by
  rw[hsz];refine Src.ofSlice w Tryz.underlying34 ad 1 c _ (by simp) (fun j u hj=>?_) (fun u hu=>?_);·match j with|0=>simp at hj;subst hj;exact h0|1=>simp at hj;subst hj;exact h1|2=>simp at hj;subst hj;exact h2|j+3=>simp at hj
  ·simp only[q76,q92,or_false]at hu;rcases hu with rfl|rfl|rfl<;>rfl
 rw[←hsz]at hown;obtain⟨v',w',hrun,hown',hg,hbl⟩:=ph w 34 34 34 84 inf z Tryz.underlying34 hi hz hzs (by omega) V rows.length (cellW rows) hown (.slice (some ad) 1 c) 1 _ hsrc (by unfold maxLen;omega) (by rw[hby];omega);rw[hsz]at hown' hown;have hfin:∃V',(Ending.returned v':Ending)=.returned V'∧w'.ownsRow 0 84 3 V' (rows.length+1) (cellW rows++[.int .u64 n1,.int .u64 n2,.int .u64 n3])∧w.grownBy w' V.ownBlock∧(∀b,V'.ownBlock=some b→V.ownBlock=some b∨w.heap.size≤b):=⟨v',rfl,hown',hg,fun b hb=>by
  rcases hbl with h|h;·rw[h]at hb;exact .inl hb
  ·rw[h]at hb;injection hb with hb;exact .inr (by omega)⟩;have key:∀Φ:Ending→World→Prop,Φ (.returned v') w'→Calls Tryz.prog 100 #[V,.int .i64 rows.length,.slice (some ad) 1 c] w Φ:=by
  intro Φ hΦ;rcases hown.2 with⟨rfl,hn⟩|⟨g,cap,cur,rfl,hb0,hg0,hnc,hcm,hcs,htk⟩;·obtain rfl:rows=[]:=q72 hn;simp only[q87];clear hown hbl hg hown' hfin;go_enter Tryz.func100,Tryz.ntmps100;go_wp2_with(at_builtin;refine q182 _ rfl _ _ _ _ rfl _ _ rfl rfl _ _ hrun ?_);all_goals exact hΦ
  ·generalize hn:rows.length=n at*;have e1:(0:Int)≤(n:Int):=by omega
   have e2:(n:Int)≤(n:Int):=by omega
   clear hown hbl hg hown' hfin;go_enter Tryz.func100,Tryz.ntmps100;go_wp2_with(at_builtin;refine q182 _ rfl _ _ _ _ rfl _ _ rfl rfl _ _ hrun ?_);all_goals exact hΦ
 exact key _ hfin
set_option maxHeartbeats 8000000 in theorem yx (w:World) (rows:List (List PV)) (hs2:∀r∈rows,r.length=3) (hp:dy rows) (i n:Nat) (hn:rows.length=n) (hi:i<n) (hsm:n≤1000000) (n1 n2 n3:Int) (g cap:Nat) (cur:Array Value) (hg0:w.heap[g]?=some (.cells cur 84 (0,0))) (hcm:cap≤maxLen) (hcs:cur.size=cap*3) (htk:cur.toList.take (n*3)=cellW rows) (hroom:n+1≤cap) (ad:Addr) (c:Nat) (hb:ad.block≠g) (h0:w.cell? (ad.add 0)=some (.int .u64 n1)) (h1:w.cell? (ad.add 1)=some (.int .u64 n2)) (h2:w.cell? (ad.add 2)=some (.int .u64 n3)):Calls Tryz.prog 100 #[.slice (some ⟨g,0,none⟩) n cap,.int .i64 i,.slice (some ad) 1 c] w fun r w'=>∃V',r=.returned V'∧w'.ownsRow 0 84 3 V' (n+1) ((cellW rows).take (i*3)++[.int .u64 n1,.int .u64 n2,.int .u64 n3]++(cellW rows).drop (i*3))∧w.grownBy w' (Value.slice (some ⟨g,0,none⟩) n cap).ownBlock∧(∀b,V'.ownBlock=some b→(Value.slice (some ⟨g,0,none⟩) n cap).ownBlock=some b∨w.heap.size≤b):=by
 obtain⟨inf,z,hi',hz,hzs,hsz,hby⟩:=oS;have hszm:(Tryz.prog.info? 84).map (·.size)=some 3:=by rw[hi'];simp[hsz]
 have hcl:(cellW rows).length=n*3:=by rw[eK hs2,hn]
 obtain⟨cs,hcse⟩:∃cs,cs=(cellW rows).drop (i*3):=⟨_,rfl⟩;have hcsl:cs.length=(n-i)*3:=by rw[hcse,q94,hcl];omega
 have hcur:cur.toList.length=cap*3:=by simpa using hcs
 have hone:=kz hp;obtain⟨X1,hX1⟩:∃X1,X1=(cur.toList.take ((i+1)*3)++cs++cur.toList.drop ((i+1)*3+cs.length)).toArray:=⟨_,rfl⟩;have hX1l:X1.size=cap*3:=by rw[hX1];simp only[q105,q74,q67,q94,hcur,hcsl];omega
 have hcell:∀j v,cs[j]?=some v→w.cell? ((⟨g,i*3,none⟩:Addr).add j)=some v:=by
  intro j v hj;rw[q100];have hjl:j<cs.length:=(q65.1 hj).1;rw[hcse,q89,←htk,q81]at hj;split at hj;·simp only[World.cell?,hg0];simpa using hj
  ·cases hj
 have hcp1:∀sT ty dc sc,(Builtin.copy_ #[34,sT] ty #[.slice (some ⟨g,(i+1)*3,none⟩) (n-i) dc,.slice (some ⟨g,i*3,none⟩) (n+1-i) sc]).run Tryz.prog w.drew=.ok (goInt (n-i)) (w.drew.setRow g X1):=fun sT ty dc sc=>by have:=dw w.drew 34 sT ty 84 g ((i+1)*3) (n-i) dc ⟨g,i*3,none⟩ (n+1-i) sc 3 cur 84 cs Tryz.underlying34 hszm hg0 (by rw[hcsl];congr 1;simp only[q151];split<;>omega) hcell (by rw[hcsl,hcs];omega) (fun v hv=>hone v (by rw[hcse]at hv;exact q123 hv));rw[this,hX1];congr 2;simp only[q151];split<;>omega
 obtain⟨X2,hX2⟩:∃X2,X2=(X1.toList.take (i*3)++[Value.int .u64 n1,Value.int .u64 n2,Value.int .u64 n3]++X1.toList.drop (i*3+3)).toArray:=⟨_,rfl⟩;have hcp2:∀W:World,W.heap=(w.drew.setRow g X1).heap→∀sT ty dc,(Builtin.copy_ #[34,sT] ty #[.slice (some ⟨g,i*3,none⟩) (n+1-i) dc,.slice (some ad) 1 c]).run Tryz.prog W=.ok (goInt 1) (W.setRow g X2):=fun W hW sT ty dc=>by
  have hWg:W.heap[g]?=some (.cells X1 84 (0,0)):=by rw[hW];exact setRow_heap w.drew g cur X1 _ _ hg0
  have hWc:∀x:Addr,x.block≠g→W.cell? x=w.cell? x:=fun x hx=>by have:(w.drew.setRow g X1).cell? x=w.drew.cell? x:=cell_setRow_other w.drew g X1 x hx;unfold World.cell? at this ⊢;rw[hW];exact this
  have:=dw W 34 sT ty 84 g (i*3) (n+1-i) dc ad 1 c 3 X1 84 [.int .u64 n1,.int .u64 n2,.int .u64 n3] Tryz.underlying34 hszm hWg (by simp only[q79,q87,q151];split<;>omega) (fun j v hj=>by
   have hab:∀j,(ad.add j).block≠g:=fun j=>by rw[bW];exact hb
   match j with|0=>simp at hj;subst hj;rw[hWc _ (hab 0)];exact h0|1=>simp at hj;subst hj;rw[hWc _ (hab 1)];exact h1|2=>simp at hj;subst hj;rw[hWc _ (hab 2)];exact h2|j+3=>simp at hj) (by simp only[q79,q87,hX1l];omega) (by intro v hv;simp only[q76,q92,or_false]at hv;rcases hv with rfl|rfl|rfl<;>rfl);rw[this,hX2];congr 2;simp only[q151];split<;>omega
 have hzr:∀w,(Go.sizeOf 84).run Tryz.prog w=.ok 3 w:=fun w=>by rw[qJ hi' w,hsz]
 have hov:∀W:World,W.heap=w.heap→∀o lb cb,(callFunc 133 #[.slice (some ad) 1 c,.slice (some ⟨g,o,none⟩) lb cb]).run Tryz.prog W=.ok (.value (.bool false)) W:=fun W hW o lb cb=>by rw[run_callFunc_extern Tryz.func133 (by kernel_rfl) (by kernel_rfl) (by kernel_rfl) (e:=Extern.SlicesOverlaps.overlaps #[34,34] #[4]) (by kernel_rfl),ke W 34 4 84 Tryz.underlying34 3 hzr ad ⟨g,o,none⟩ 1 c lb cb hb (va:=.int .u64 n1) (cur:=cur) (tb:=84) (by rw[add_zero']at h0;unfold World.cell? at h0 ⊢;rw[hW];exact h0) (by rw[hW];exact hg0) (by omega)];rfl
 have key:∀Φ:Ending→World→Prop,(∀w',w'.heap=((w.setRow g X1).setRow g X2).heap→w'.os=w.os→w'.tape=w.tape→w'.output=w.output→Φ (.returned (.slice (some ⟨g,0,none⟩) (n+1) cap)) w')→Calls Tryz.prog 100 #[.slice (some ⟨g,0,none⟩) n cap,.int .i64 i,.slice (some ad) 1 c] w Φ:=by
  intro Φ hΦ;have q1:¬((i:Int)=(n:Int)):=by omega
  have q2:¬((cap:Int)<(n:Int)+1):=by omega
  have q3:(i:Int)≤(n:Int):=by omega
  have q4:(n:Int)+1≤(cap:Int):=by omega
  have q5:(0:Int)≤(n:Int)+1:=by omega
  have q6:(i:Int)+1≤(n:Int)+1:=by omega
  have q7:IntKind.i64.wrap ((n:Int)+1)=(n:Int)+1:=by rw[q161];omega
  have q8:IntKind.i64.wrap ((i:Int)+1)=(i:Int)+1:=by rw[q161];omega
  have q9:((n:Int)+1).toNat=n+1:=by omega
  have q10:((i:Int)+1).toNat=i+1:=by omega
  have q11:(0:Int)≤(i:Int)+1:=by omega
  have q12:¬(cap=i+1):=by omega
  have q13:¬(cap=i):=by omega
  have q14:(i:Int)≤(n:Int)+1:=by omega
  have mixed:Tryz.prog.follows .mixedOrders=true:=by kernel_rfl
  clear hcell hone hX1 hX2 htk hcur;go_enter Tryz.func100,Tryz.ntmps100;go_wp2_with(simp only[hov]);go_region_law_o(refine step_copy_runI rfl _ _ 34 34 rfl _ _ (by simp[Act.eval,Act.put]) (by simp[Act.eval,Act.put]) (hcp1 _ _ _ _) ?_);go_wp2_with(at_builtin;refine wpList_copy_runI _ rfl _ _ 34 34 rfl _ _ rfl rfl (hcp2 _ rfl _ _ _) ?_);exact hΦ _ rfl rfl rfl rfl
 have hAt:(cellW rows).take (i*3)=cur.toList.take (i*3):=by rw[←htk,q145,q120 (by omega)]
 have e1:X1.toList.take (i*3)=(cellW rows).take (i*3):=by rw[hX1,hAt];simp only[q96];rw[q122 (by rw[q67];omega),q145,q120 (by omega)]
 have e2:∃rest,X1.toList.drop (i*3+3)=cs++rest:=by refine⟨cur.toList.drop ((i+1)*3+cs.length),?_⟩;rw[hX1];simp only[q96];rw[show i*3+3=(cur.toList.take ((i+1)*3)).length from by rw[q67];omega,q300]
 obtain⟨rest,e2⟩:=e2;have hA2:((cellW rows).take (i*3)).length=i*3:=by rw[q67];omega
 have e3:X2.toList=((cellW rows).take (i*3)++[Value.int .u64 n1,Value.int .u64 n2,Value.int .u64 n3]++(cellW rows).drop (i*3))++rest:=by rw[hX2,e1,e2,hcse];simp only[q96]
 have e4:((cellW rows).take (i*3)++[Value.int .u64 n1,Value.int .u64 n2,Value.int .u64 n3]++(cellW rows).drop (i*3)).length=(n+1)*3:=by simp only[q74,hA2,q79,q87,q94,hcl];omega
 have hX2l:X2.size=cap*3:=by rw[hX2];simp only[q105,q74,q67,q94,q83,hX1l,q79,q87];omega
 refine key _ fun w' hh ho ht hou=>⟨_,rfl,⟨e4,.inr ⟨g,cap,X2,rfl,q126 _,?_,hroom,hcm,hX2l,?_⟩⟩,⟨ho,ht,hou,?_,?_⟩,fun b hb=>.inl hb⟩;·rw[hh];exact setRow_heap (w.setRow g X1) g X1 X2 _ _ (setRow_heap w g cur X1 _ _ hg0)
 ·rw[e3,←e4];exact q154
 ·rw[hh];simp[World.setRow]
 ·intro k hk hne;have hkg:k≠g:=fun e=>hne (by rw[e];rfl);rw[hh,setRow_other _ g k _ hkg,setRow_other _ g k _ hkg]
end Go.Proofs.YtlicclncicbajaaGreat.Ab
