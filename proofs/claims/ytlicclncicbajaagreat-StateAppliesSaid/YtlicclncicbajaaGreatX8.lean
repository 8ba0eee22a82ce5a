/- The abstract machine is sound: regions, loops, the code of a function. -/
import Derived.Test.YtlicclncicbajaaGreatX7
import Derived.Deep.LoopGhost
import Derived.Scope
set_option linter.unusedVariables false
set_option linter.unusedSimpArgs false
set_option linter.unnecessarySimpa false
set_option maxHeartbeats 40000000
set_option maxRecDepth 100000
set_option linter.defProp false
namespace Go.Proofs.YtlicclncicbajaaGreat.Ab
open Go Go.RowKit
def q236:=@Option.or_eq_some_iff
def q266:=@Array.getElem?_append_left
end Go.Proofs.YtlicclncicbajaaGreat.Ab
namespace Go.Proofs.YtlicclncicbajaaGreat.Ab
open Go Go.RowKit
variable {n k j:Nat}{f:FuncId}{ys args:List AV}{r x v:AV}{o:Oper}{K:St→Prop}{K':Act→World→Prop}{e:TypeId}{D:Nat→Prop}{as:Array AI}{rs:List (Nat×Option (Option Nat))}
section
variable{P:Program}{Γ:bX}{S0 L:Nat→Prop}{B0:Nat→Value}{w0 w:World}{N:Nat}{st:St}{a:Act}{β:Nat→Value}{ops:Array Oper}{is:Array AI}{Q':Exit→Act→World→Prop}
theorem dH (hΓ:eb P Γ) {i:AI} (hj:ops[j]?=some o) (hi:Core P N ops o i) (h:Rel P S0 L B0 w0 N st a w β) (hK:∀st a w β,K st→Rel P S0 L B0 w0 N st a w β→K' a w) (hs:c9 P Γ i K st):wpOp P ops Q' j K' a w:=by
 have hh:=PS hΓ (Q:=Q') h hi hs.2;unfold wpOp;rw[hj];dsimp only;split;·rename_i hw;rw[if_pos hw]at hh;refine .inl (q278 ?_ hh);rintro a' w' ⟨e,β',⟨_,hC⟩,hR⟩;exact hK _ _ _ _ hC hR
 ·rename_i hw;rw[if_neg hw]at hh;obtain⟨e,β',⟨_,hC⟩,hR⟩:=hh;exact hK _ _ _ _ hC hR
theorem Core.same {i i':AI} (h:Core P N ops o i) (h1:i'.k=i.k) (h2:i'.xs=i.xs) (h3:i'.d=i.d) (h4:i'.g=i.g):Core P N ops o i':=by unfold Core at*;rw[h1,h2,h3,h4];exact h
theorem zp {P:Program}{xs:List Operand} (hc:gW P o=some (.lN,xs)):∃x args argTypes,o.op=.call {callee:=.value x,args:=args,argTypes:=argTypes}∧xs=x::args.toList:=by
 rcases ed hc with hc|⟨x,h0,_⟩;rotate_left;·cases h0
 unfold gD at hc;split at hc;case h_22=>
  rename_i cl ho;obtain⟨callee,args,argTypes⟩:=cl;unfold gN at hc;simp only at hc;split at hc
  ·exfalso;unfold dv at hc;repeat'(split at hc)
   all_goals(simp at hc)
  ·split at hc;·simp at hc
   ·cases hc
  ·simp only[qr,q70,true_and]at hc;exact⟨_,args,argTypes,ho,hc.symm⟩
  ·cases hc
 all_goals
  exfalso;repeat'(split at hc)
  all_goals(simp at hc)
theorem tN {P:Program}{b:Builtin}{ys xs:List Operand}{ts:List TypeId}{x:XK} (hc:dv P b ys ts=some (.ex x,xs)):False:=by
 unfold dv at hc;repeat'(split at hc)
 all_goals(simp at hc)
theorem C3 {P:Program}{xs:List Operand} (x:XK):¬gD P o=some (.ex x,xs):=by
 intro hc;unfold gD at hc;split at hc;case h_22=>
  rename_i cl ho;obtain⟨callee,args,argTypes⟩:=cl;unfold gN at hc;simp only at hc;split at hc;·exact tN hc
  ·split at hc<;>simp at hc
  ·simp at hc
  ·cases hc
 all_goals
  repeat'(split at hc)
  all_goals(simp at hc)
theorem C7 {P:Program}{xs:List Operand}{sz:Nat}{zs:List Value} (hc:gW P o=some (.F4 e sz zs,xs)):∃x t,o.op=.call {callee:=.builtin .clear,args:=#[x],argTypes:=#[t]}∧xs=[x]∧P.underlying t=some (.slice e)∧cz P e=some sz∧dQ P e=some zs∧0<sz∧zs.all (·.oneCell')=true:=by
 rcases ed hc with hc|⟨x,h0,_⟩;rotate_left;·cases h0
 unfold gD at hc;split at hc;case h_22=>
  rename_i cl ho;obtain⟨callee,args,argTypes⟩:=cl;unfold gN at hc;simp only at hc;split at hc
  ·unfold dv at hc;split at hc;case h_5=>
    rename_i x t hx ht;have hx':args=#[x]:=by apply q114;simpa using hx
    have ht':argTypes=#[t]:=by apply q114;simpa using ht
    subst hx' ht';split at hc
    ·rename_i e' hu;split at hc
     ·rename_i sz' zs' hsz hz;split at hc;·rename_i hcond;simp only[qr,q70,AK.F4.injEq]at hc;obtain⟨⟨rfl,rfl,rfl⟩,rfl⟩:=hc;exact⟨x,t,ho,rfl,hu,hsz,hz,hcond⟩
      ·cases hc
     ·cases hc
    ·cases hc
   all_goals
    exfalso;repeat'(split at hc)
    all_goals(simp at hc)
  ·split at hc;·simp at hc
   ·cases hc
  ·simp at hc
  ·cases hc
 all_goals
  exfalso;repeat'(split at hc)
  all_goals(simp at hc)
theorem C9 {P:Program}{xs:List Operand}{sz b:Nat} (hc:gW P o=some (.app e sz b,xs)):∃x y t tx inf,o.op=.call {callee:=.builtin .append,args:=#[x,y],argTypes:=#[t,tx]}∧xs=[x,y]∧P.underlying t=some (.slice e)∧((∃e',P.underlying tx=some (.slice e'))∨P.underlying tx=some .string)∧P.info? e=some inf∧0<inf.size∧(dQ P e).isSome=true∧sz=inf.size∧b=inf.bytes:=by
 rcases ed hc with hc|⟨x,h0,_⟩;rotate_left;·cases h0
 unfold gD at hc;split at hc;case h_22=>
  rename_i cl ho;obtain⟨callee,args,argTypes⟩:=cl;unfold gN at hc;simp only at hc;split at hc
  ·unfold dv at hc;split at hc;case h_2=>
    rename_i x y t tx hx ht;have hx':args=#[x,y]:=by apply q114;simpa using hx
    have ht':argTypes=#[t,tx]:=by apply q114;simpa using ht
    subst hx' ht';split at hc
    ·rename_i e' hu hux;split at hc
     ·rename_i inf hi;split at hc;·rename_i hcond;simp only[qr,q70,AK.app.injEq]at hc;obtain⟨⟨rfl,rfl,rfl⟩,rfl⟩:=hc;exact⟨x,y,t,tx,inf,ho,rfl,hu,.inr hux,hi,by omega,hcond.2,rfl,rfl⟩
      ·cases hc
     ·cases hc
    ·rename_i e' e2 hu hux;split at hc
     ·rename_i inf hi;split at hc;·rename_i hcond;simp only[qr,q70,AK.app.injEq]at hc;obtain⟨⟨rfl,rfl,rfl⟩,rfl⟩:=hc;exact⟨x,y,t,tx,inf,ho,rfl,hu,.inl ⟨e2,hux⟩,hi,hcond.1,hcond.2,rfl,rfl⟩
      ·cases hc
     ·cases hc
    ·cases hc
   all_goals
    exfalso;repeat'(split at hc)
    all_goals(simp at hc)
  ·split at hc;·simp at hc
   ·cases hc
  ·simp at hc
  ·cases hc
 all_goals
  exfalso;repeat'(split at hc)
  all_goals(simp at hc)
theorem mN:∀{l:List AV}{k:Nat}{z:AV},aq l→l[k]?=some z→asks z|[],k,z,_,hk=>by simp at hk|y::l,0,z,h,hk=>by simp only[q69,qr]at hk;subst hk;exact h.1|y::l,k+1,z,h,hk=>mN h.2 (by simpa using hk)
theorem noG {n f:Nat} (h0:n≤1000000) (h2:2000000≤f+1000000) (h:f<n):False:=by omega
theorem EB {xs:List AV} (h:lv xs=some (f,ys)):∃x caps args,xs=x::args∧ys=args++caps∧(x=.bE f caps∨(caps=[]∧x=.pv (.val (.func (.func f) #[] #[])))):=by
 unfold lv at h;split at h;·cases h;exact⟨_,_,_,rfl,rfl,.inl rfl⟩
 ·obtain⟨g,hg,h⟩:=q0.1 h;cases h;unfold lv.NO at hg;split at hg;·cases hg;exact⟨_,[],_,rfl,by simp,.inr ⟨rfl,rfl⟩⟩
  ·cases hg
 ·cases h
theorem mS (h:Rel P S0 L B0 w0 N st a w β) {x:Operand}{args:Array Operand}{argTypes:Array TypeId} (ho:o.op=.call {callee:=.value x,args:=args,argTypes:=argTypes}) (ha:aq ((x::args.toList).map (Ab.ev st.vars)))  (hc:lv (((x::args.toList).map (Ab.ev st.vars)).map strip)=some (f,ys)) (hf:fF P f=true):∃vals:List Value,(execOp a.eval o).run P w=.ok (.enter f vals.toArray) w∧vals.length=ys.length∧∀(i:Nat) (v:Value) (y:AV),vals[i]?=some v→ys[i]?=some y→RV P (aZ S0 w0.heap.size β st.aa w) w β (aG st.aa) v y:=by
 obtain⟨x0,caps,as,hxs,rfl,hx0⟩:=EB hc;simp only[q71,q110]at hxs;obtain⟨hx,hargs⟩:=hxs;have hv:=h.dA x ha.1;rw[hx]at hv;obtain⟨us,hev,hul,hus⟩:∃us:List Value,a.eval x=.func (.func f) #[] us.toArray∧us.length=caps.length∧(∀(i:Nat) (c:AV) (u:Value),caps[i]?=some c→us[i]?=some u→RV P (aZ S0 w0.heap.size β st.aa w) w β (aG st.aa) u c):=by
  rcases hx0 with rfl|⟨rfl,rfl⟩;·exact hv.m9
  ·refine⟨[],?_,rfl,fun i c u hc=>by simp at hc⟩;have h1:=hv.bq;generalize a.eval x=u at h1;cases h1 with|val v h=>rfl
 unfold fF at hf;split at hf
 ·rename_i fn hfn;simp only[q73,bne_iff_ne,ne_eq]at hf;have hn:=hf.1;have hb:¬fn.body=none:=fun e=>by rw[e]at hf;simp at hf
  refine⟨args.toList.map a.eval++us,?_,?_,?_⟩
  ·have he:(args.toList.map a.eval++us).toArray=args.map a.eval++us.toArray:=by apply q114;simp
   rw[he];simp[execOp,ho,resolve,hev,Deferred.ofValue,invoke,callFunc,hfn,hn,hb]
  ·rw[←hargs];simp[hul]
  ·intro i v y hi hy;have hl:as.length=args.toList.length:=by rw[←hargs];simp
   by_cases hlt:i<as.length;·rw[q85 hlt]at hy;rw[q85 (by simpa[hl]using hlt)]at hi;rw[←hargs]at hy;exact kk h args.toList ha.2 i v y hi hy
   ·rw[q97 (by omega)]at hy;rw[q97 (by simp only[List.length_map];omega)]at hi;simp only[List.length_map,←hl]at hi;exact hus _ _ _ hy hi
 ·cases hf
theorem sd (hL:∀b,L b→S0 b) (hΓ:eb P Γ) {d:Option Nat}{xs:List Operand}{un:List Nat}{tg:Option Nat}{Q:Exit→Act→World→Prop} (hc:gW P o=some (.call f,xs)) (hd:d=o.dst) (hdN:∀s,o.dst=some s→s<N) (h:Rel P S0 L B0 w0 N st a w β) (hK:∀st a w β,K st→Rel P S0 L B0 w0 N st a w β→K' a w) (hs:me P Γ ⟨d,.call f,xs,none,un,tg⟩ f K st):o.wp P a w K' Q:=by
 obtain⟨ys,hys,hs⟩:=ae hs;obtain⟨x,hx,hs⟩:=ae hs;subst hd;split at hs;·have h2:=h.cK hL ((xs.map (Ab.ev st.vars)).map strip);generalize cK st ((xs.map (Ab.ev st.vars)).map strip)=st2 at h2 hs;have hs':bf P Γ o.dst (.call f) (xs.map (Ab.ev st2.vars)) st2.aa fun e=>K (e.on o.dst st2):=hs;refine q278 ?_ (yQ hΓ (Q:=Q) h2 hc hdN hs');rintro a' w' ⟨e,β',hC,hR⟩;exact hK _ _ _ _ hC hR
 ·have hs':bf P Γ o.dst (.call f) (xs.map (Ab.ev st.vars)) st.aa fun e=>BQ _ tg e∧K (e.on o.dst st):=hs.2;refine q278 ?_ (yQ hΓ (Q:=Q) h hc hdN hs');rintro a' w' ⟨e,β',hC,hR⟩;exact hK _ _ _ _ hC.2 hR
theorem vR (hΓ:eb P Γ) {i:AI} (hj:ops[j]?=some o) (hi:Core P N ops o i) (h:Rel P S0 L B0 w0 N st a w β) (hK:∀st a w β,K st→Rel P S0 L B0 w0 N st a w β→K' a w) (hs:cq P Γ i K st):wpOp P ops Q' j K' a w:=by
 unfold cq at hs;split at hs;·exact dH hΓ hj hi h hK hs
 ·rename_i s want hg0;unfold ia at hs;split at hs;·exact dH hΓ hj hi h hK hs
  ·split at hs
   ·rename_i hf0;have hcg:bN (st.vars s) want=some false:=by revert hf0;cases bN (st.vars s) want with|none=>intro h0;cases h0|some b=>cases b with|false=>intro _;rfl|true=>intro h0;cases h0
    obtain⟨hc,hd,hdN,hg⟩:=hi;have hdN':∀s,o.dst=some s→s<N:=fun s e=>hdN s (hd.trans e);rcases hg with⟨_,hig⟩|⟨j',want',s',hg,hj',hig⟩;·rw[hg0]at hig;cases hig
    ·rw[hg0]at hig;simp only[qr,q70]at hig;obtain⟨rfl,rfl⟩:=hig;unfold wpOp;rw[hj];dsimp only;rw[dJ hg hj' (h.vars _) hcg];simp only[q136,if_false];refine hK _ _ _ β hs ?_;rw[hd];exact h.fq hdN' (.cp _ _ _ (fun e=>by cases e) fun _=>rfl)
   ·exact dH hΓ hj hi h hK hs
theorem vL (hL:∀b,L b→S0 b) (hΓ:eb P Γ) {i:AI}{x:XK} (hj:ops[j]?=some o) (hi:Core P N ops o i) (h:Rel P S0 L B0 w0 N st a w β) (hK:∀st a w β,K st→Rel P S0 L B0 w0 N st a w β→K' a w) (hk:i.k=.ex x) (hs:jS P Γ i K st):wpOp P ops Q' j K' a w:=by
 obtain⟨hc,hd,hdN,hg⟩:=hi;have hdN':∀s,o.dst=some s→s<N:=fun s e=>hdN s (hd.trans e);rw[hk]at hc;have hcx:jN P o=(x,i.xs):=by
  rcases ed hc with hc|⟨x',h0,hc⟩;·exact absurd hc (C3 x)
  ·cases h0;exact hc
 unfold wpOp;rw[hj];dsimp only;unfold jS at hs;rw[hk]at hs;rcases hg with⟨hg,hig⟩|⟨j',want,s,hg,hj',hig⟩
 ·rw[hig]at hs;rw[eF (P:=P) hg];simp only[if_true];rw[hd]at hs;have h':Rel P S0 L B0 w0 N (J7 x i st) a w β:=by
   unfold J7;split;·exact h.cK hL _
   ·exact h
  exact .inl (zA hL hcx hdN' h' hK hs)
 ·rw[hig]at hs;have hs:CM i x s want K st:=hs;obtain⟨c,hcg,hs⟩:=ae hs;rw[dJ hg hj' (h.vars s) hcg];by_cases hct:c=true;·rw[if_pos hct]at hs ⊢;rw[hd]at hs;exact .inl (zA hL hcx hdN' h hK hs)
  ·rw[if_neg hct]at hs ⊢;refine hK _ _ _ β hs ?_;rw[hd];exact h.fq hdN' (.cp _ _ _ (fun e=>by cases e) fun _=>rfl)
theorem lZ (hL:∀b,L b→S0 b) (hΓ:eb P Γ) {i:AI} (hj:ops[j]?=some o) (hi:Core P N ops o i) (h:Rel P S0 L B0 w0 N st a w β) (hK:∀st a w β,K st→Rel P S0 L B0 w0 N st a w β→K' a w) (hs:jS P Γ i K st):wpOp P ops Q' j K' a w:=by
 by_cases hx:∃x,i.k=.ex x;·obtain⟨x,hx⟩:=hx;exact vL hL hΓ hj hi h hK hx hs
 by_cases hk:i.k=.lN
 ·have hs:fX P Γ i.d (i.xs.map (ev st.vars)) i.g K st:=by unfold jS at hs;rw[hk]at hs;exact hs
  obtain⟨hc,hd,hdN,hg⟩:=hi;have hdN':∀s,o.dst=some s→s<N:=fun s e=>hdN s (hd.trans e);rw[hk]at hc;obtain⟨x,args,argTypes,ho,hxs⟩:=zp hc;rw[hxs]at hs;unfold wpOp;rw[hj];dsimp only;rcases hg with⟨hg,hig⟩|⟨j',want,s,hg,hj',hig⟩
  ·rw[eF (P:=P) hg];simp only[if_true];unfold fX at hs;rw[hig]at hs;obtain⟨ha,hs⟩:=hs;obtain⟨⟨f,zs⟩,hcl,hf,hs⟩:=ae hs;unfold eW at hs;split at hs
   ·split at hs;rotate_left;·exact hs.elim
    obtain⟨vals,hrun,hvl,hv⟩:=mS h ho ha hcl hf;refine .inl (dK hrun ((jD (a:=a) hL hΓ h hdN hf hvl (fun haz i v y hi hy=>?_) hs).mono ?_));·rw[q77,q0]at hy;obtain⟨z,hz,rfl⟩:=hy;exact(hv i v z hi hz).strip (mN haz hz)
    ·rintro e w' ⟨v,β',st',rfl,hK',hR⟩;refine⟨v,rfl,hK _ _ _ β' hK' ?_⟩;rw[←hd];exact hR
   unfold cH at hs;obtain⟨d,hdd,haz,hs⟩:=ae hs;obtain⟨ys,hys,hs⟩:=ae hs;obtain⟨⟨φ,r⟩,hr,hφ,hpf,hfree,hres,hC⟩:=ae hs;obtain⟨vals,hrun,hvl,hv⟩:=mS h ho ha hcl hf;have hv':∀(i:Nat) (v:Value) (y:AV),vals[i]?=some v→(zs.map strip)[i]?=some y→RV P (aZ S0 w0.heap.size β st.aa w) w β (aG st.aa) v y:=by intro i v y hi hy;rw[q77,q0]at hy;obtain⟨z,hz,rfl⟩:=hy;exact(hv i v z hi hz).strip (mN haz hz)
   have hdlt:d<N:=hdN d hdd;have hlim:=h.qb.1;have hd9:d%1000≠999:=by omega
   refine .inl (dK hrun ((ma (a:=a) h hd9 (by rw[hvl,List.length_map]) hv' hys (hΓ.con (iA hf) hr hφ) hpf hfree hres).mono ?_));rintro e w' ⟨v,β',rfl,hR,hrv⟩;refine⟨v,rfl,hK _ _ _ β' hC ?_⟩;rw[hd];exact hR.put hdN' hrv
  ·unfold fX at hs;rw[hig]at hs;have hs:ia (eZ ((i.xs.map (ev st.vars)).map strip)) (KA (bN (st.vars s) want)) (qi P Γ i.d (i.xs.map (ev st.vars)) s want K st) (K ((bI.put (.cp false .aw)).on i.d st)):=by rw[hxs];exact hs
   have hs:qi P Γ i.d (i.xs.map (ev st.vars)) s want K st∨(bN (st.vars s) want=some false∧K ((bI.put (.cp false .aw)).on i.d st)):=by
    unfold ia at hs;split at hs;·exact .inl hs
    ·split at hs
     ·rename_i hif;right;unfold KA at hif;split at hif;·rename_i hgf;exact⟨hgf,hs⟩
      ·cases hif
     ·exact .inl hs
   rcases hs with hs|⟨hgf,hs⟩;rotate_left;·rw[dJ hg hj' (h.vars s) hgf];simp only[q136,if_false];refine hK _ _ _ β hs ?_;rw[hd];exact h.fq hdN' (.cp _ _ _ (fun e=>by cases e) fun _=>rfl)
   rw[hxs]at hs;obtain⟨c,hcg,hs⟩:=ae hs;rw[dJ hg hj' (h.vars s) hcg];obtain⟨⟨f,zs⟩,hcl,hf,hs⟩:=ae hs;unfold iz at hs;split at hs
   ·split at hs;rotate_left;·exact hs.elim
    by_cases hct:c=true
    ·rw[if_pos hct]at hs ⊢;obtain⟨ha,hs⟩:=hs;obtain⟨vals,hrun,hvl,hv⟩:=mS h ho ha hcl hf;refine .inl (dK hrun ((jD (a:=a) hL hΓ h hdN hf hvl (fun haz i v y hi hy=>?_) hs).mono ?_));·rw[q77,q0]at hy;obtain⟨z,hz,rfl⟩:=hy;exact(hv i v z hi hz).strip (mN haz hz)
     ·rintro e w' ⟨v,β',st',rfl,hK',hR⟩;refine⟨v,rfl,hK _ _ _ β' hK' ?_⟩;rw[←hd];exact hR
    ·rw[if_neg hct]at hs ⊢;refine hK _ _ _ β hs ?_;rw[hd];exact h.fq hdN' (.cp _ _ _ (fun e=>by cases e) fun _=>rfl)
   unfold Bm at hs;obtain⟨ys,hys,hs⟩:=ae hs;obtain⟨⟨φ,r⟩,hr,hcon,hfl,hfr,hres,ha,hC⟩:=ae hs;cases c with|true=>
    simp only[if_true];obtain⟨vals,hrun,hvl,hv⟩:=mS h ho (ha rfl) hcl hf;have hv':∀(i:Nat) (v:Value) (y:AV),vals[i]?=some v→(zs.map strip)[i]?=some y→RV P (aZ S0 w0.heap.size β st.aa w) w β (aG st.aa) v y:=by intro i v y hi hy;rw[q77,q0]at hy;obtain⟨z,hz,rfl⟩:=hy;exact(hv i v z hi hz).strip (mN (hcon rfl).1 hz)
    have htr:=Dr hfl;have hnil:∀d,j8 d r=[]:=fun d=>by rw[tO htr];unfold aT;rw[hfr];rfl
    refine .inl (dK hrun ((ma (a:=a) (d:=0) h (by omega) (by rw[hvl,List.length_map]) hv' hys (hΓ.con (iA hf) hr (hcon rfl).2) (.inr (by rw[sq htr];exact hfl)) (by rw[hnil];intro x hx;cases hx) (by rw[ti htr];exact hres)).mono ?_));rintro e w' ⟨v,β',rfl,hR,hrv⟩;rw[hnil]at hR hrv;rw[tL htr,rW hfr]at hrv;refine⟨v,rfl,hK _ _ _ β' hC ?_⟩;rw[hd];exact hR.put hdN' (.cp _ _ _ (fun _=>hrv) fun e=>by cases e)|false=>simp only[q136,if_false];refine hK _ _ _ β hC ?_;rw[hd];exact h.fq hdN' (.cp _ _ _ (fun e=>by cases e) fun _=>rfl)
 ·have hcore:=hi;obtain⟨hc,hd,hdN,hg⟩:=hi;have hdN':∀s,o.dst=some s→s<N:=fun s e=>hdN s (hd.trans e);have hs':(∃e sz zs,i.k=.F4 e sz zs∧i.g=none∧pM i.d e sz zs (i.xs.map (ev st.vars)) K st)∨(∃f p k,i.k=.call f∧i.g=none∧dV Γ f=some (p,k)∧(if k=997 then zE P Γ i.d f (i.xs.map (ev st.vars)) p K st else if k=996 then stepG Γ i.d f (i.xs.map (ev st.vars)) (jj Γ f) K st else lG P Γ i.d f (i.xs.map (ev st.vars)) p k K st))∨c9 P Γ i K st∨(∃f,i.k=.call f∧i.g=none∧me P Γ i f K st)∨(∃f s w,i.k=.call f∧i.g=some (s,w)∧DD P Γ i f s w K st)∨(∃t,c9 P Γ i K (uW t st))∨∃l,cq P Γ i K (cK st l):=by
   unfold jS at hs;split at hs;·rename_i x e _;exact absurd ⟨x,e⟩ hx
   ·rename_i x s w e _;exact absurd ⟨x,e⟩ hx
   ·exact .inr (.inr (.inr (.inr (.inr (.inr ⟨_,hs⟩)))))
   ·rename_i e sz zs e1 e2;exact .inl ⟨e,sz,zs,e1,e2,hs⟩
   ·rename_i f s w e e2;exact .inr (.inr (.inr (.inr (.inl ⟨f,s,w,e,e2,hs⟩))))
   ·rename_i e;exact absurd e hk
   ·rename_i f e e2;unfold gY at hs;split at hs;·rename_i p k hfl;exact .inr (.inl ⟨f,p,k,e,e2,hfl,hs⟩)
    ·exact .inr (.inr (.inr (.inl ⟨f,e,e2,hs⟩)))
   ·exact .inr (.inr (.inr (.inr (.inr (.inl ⟨_,hs⟩)))))
   ·exact .inr (.inr (.inr (.inr (.inr (.inr ⟨[],hs⟩)))))
  obtain⟨id,ik,ix,ig,iun,itg⟩:=i;simp only at hc hd hdN hg hs' hk;rcases hs' with⟨e,sz,zs,rfl,rfl,hs⟩|⟨f,p,k,rfl,rfl,hfl,hs⟩|hs|⟨f,rfl,rfl,hs⟩|⟨f,s,want,rfl,rfl,hs⟩|⟨t,hs⟩|⟨l,hs⟩
  ·rcases hg with⟨hg,_⟩|⟨_,_,_,_,_,hig⟩;·unfold wpOp;rw[hj];dsimp only;rw[eF (P:=P) hg];obtain⟨x,t,ho,rfl,hu,hsz,hz,hpos,hall⟩:=C7 hc;obtain⟨ha,hs⟩:=hs;obtain⟨X,hX,hs1⟩:=ae hs;obtain⟨r,hr,hs2⟩:=ae hs1;simp only[q71,q117,q287,qr]at hX;subst hX;obtain⟨v,w',hrun,hR⟩:=Eo ho hu hsz hz hpos hall h hdN' (h.dA x ha.1) hr;refine .inl (aK hrun (hK _ _ _ β hs2 ?_));rw[hd];exact hR
   ·cases hig
  ·rcases hg with⟨hg,_⟩|⟨_,_,_,_,_,hig⟩
   ·unfold wpOp;rw[hj];dsimp only;rw[eF (P:=P) hg];obtain⟨args,argTypes,ho,hf,hx⟩:=lV hc;rw[hx]at hs;have hk3:k=998∨k=999∨k=997∨k=996:=by
     obtain⟨q,_,hq⟩:=q63.1 hfl;unfold D6 at hq;split at hq
     ·split at hq;·rename_i hk;cases hq;exact hk
      ·cases hq
     ·cases hq
    by_cases h997:k=997
    ·rw[if_pos h997]at hs;obtain⟨d,hdd,ha,hs⟩:=ae hs;obtain⟨ys,hys,hs⟩:=ae hs;obtain⟨⟨φ,r⟩,hr,hφ,hpf,hfree,hres,hC⟩:=ae hs;have hdlt:d<N:=hdN d hdd;have hlim:=h.qb.1;have hd9:d%1000≠999:=by omega
     refine .inl (dK (ji ho hf) ?_);have hv:args.map a.eval=(args.toList.map a.eval).toArray:=by apply q114;simp
     rw[hv];obtain⟨hyl,hyg⟩:=wH hys;have hun:=FF hyg;have hcon:sO P f [] ys [] r:=by
      rcases hΓ (f+1000000) ys φ r hr hφ with⟨h1,_⟩|⟨_,_,_,h1|h1⟩|⟨h0,h2,_⟩|⟨h0,h2,_⟩;·exact absurd h1 (q205.2 (q165 _ _))
      ·subst h1;exfalso;obtain⟨c,_,h2|⟨_,h2⟩⟩:=hyg 0 .aw rfl;·exact rJ h2
       ·cases h2
      ·rw[show f+1000000-1000000=f from q159 _ _]at h1;exact AD hun hres h1
      ·exact(noG h0 h2 (iA hf)).elim
      ·exact(noG h0 (q113 (by decide) h2) (iA hf)).elim
     refine(ss h (a:=a) hd9 (by simp) (kk h args.toList ha) hyl hyg hcon hpf hfree hres).mono ?_;rintro ee w' ⟨v,β',rfl,hR,hrv⟩;refine⟨v,rfl,hK _ _ _ β' hC ?_⟩;rw[←hd,hdd];exact hR.put (fun s hs'=>by injection hs' with hs';omega) hrv
    rw[if_neg h997]at hs;by_cases h996:k=996
    ·rw[if_pos h996]at hs;refine .inl (dK (ji ho hf) ?_);have hv:args.map a.eval=(args.toList.map a.eval).toArray:=by apply q114;simp
     rw[hv];refine(jD (a:=a) hL hΓ h hdN hf (by simp) (fun ha=>kk h args.toList ha) hs).mono ?_;rintro ee w' ⟨v,β',st',rfl,hK',hR⟩;refine⟨v,rfl,hK _ _ _ β' hK' ?_⟩;rw[←hd];exact hR
    rw[if_neg h996]at hs;obtain⟨d,hdd,ha,hs⟩:=ae hs;obtain⟨X,hX,hs⟩:=ae hs;obtain⟨⟨t,e,rows⟩,hT,hoff,hs⟩:=ae hs;obtain⟨ys,hys,hs⟩:=ae hs;obtain⟨⟨φ,r⟩,hr,hφ,hpf,hfree,hres,hC⟩:=ae hs;have hdlt:d<N:=hdN d hdd;have hlim:=h.qb.1;have hd9:d%1000≠999:=by omega
    refine .inl (dK (ji ho hf) ?_);have hv:args.map a.eval=(args.toList.map a.eval).toArray:=by apply q114;simp
    rw[hv];have hk:k=998∨k=999:=by omega
    have hpl:p<((args.toList.map (Ab.ev st.vars)).map strip).length:=(q65.1 hX).1;have hcon:Cz P f ys r:=by
     rcases hΓ (f+1000000) ys φ r hr hφ with⟨h1,_⟩|⟨_,_,_,h1|h1⟩|⟨h0,h2,_⟩|⟨h0,h2,_⟩;·exact absurd h1 (q205.2 (q165 _ _))
     ·obtain⟨_,hm,_⟩:=qh hys hpl;rw[h1]at hm;cases p with|zero=>simp only[q69,qr]at hm;rcases hk with rfl|rfl<;>cases hm|succ p=>simp at hm
     ·rwa[show f+1000000-1000000=f from q159 _ _]at h1
     ·exact(noG h0 h2 (iA hf)).elim
     ·exact(noG h0 (q113 (by decide) h2) (iA hf)).elim
    refine(AG hL h (a:=a) hd9 hk (by simp) (kk h args.toList ha) hX hT hoff hys hcon hpf hfree hres).mono ?_;rintro ee w' ⟨v,β',rfl,hR,hrv⟩;refine⟨v,rfl,hK _ _ _ β' hC ?_⟩;rw[←hd,hdd];exact hR.put (fun s hs'=>by injection hs' with hs';omega) hrv
   ·cases hig
  ·exact dH hΓ hj hcore h hK hs
  ·rcases hg with⟨hg,_⟩|⟨_,_,_,_,_,hig⟩;·unfold wpOp;rw[hj];dsimp only;rw[eF (P:=P) hg];exact .inl (sd hL hΓ hc hd hdN' h hK hs)
   ·cases hig
  ·rcases hg with⟨_,hig⟩|⟨j',want',s',hg,hj',hig⟩;·cases hig
   ·simp only[qr,q70]at hig;obtain⟨rfl,rfl⟩:=hig;unfold DD my at hs;split at hs
    ·split at hs
     ·obtain⟨c,hcg,hs⟩:=ae hs;unfold wpOp;rw[hj];dsimp only;rw[dJ hg hj' (h.vars s) hcg];by_cases hct:c=true
      ·rw[if_pos hct]at hs ⊢;obtain⟨args,argTypes,ho,hf,hx⟩:=lV hc;simp only[hx]at hs;refine .inl (dK (ji ho hf) ?_);have hv:args.map a.eval=(args.toList.map a.eval).toArray:=by apply q114;simp
       rw[hv];refine(jD (a:=a) hL hΓ h hdN hf (by simp) (fun ha=>kk h args.toList ha) hs).mono ?_;rintro ee w' ⟨v,β',st',rfl,hK',hR⟩;refine⟨v,rfl,hK _ _ _ β' hK' ?_⟩;rw[←hd];exact hR
      ·rw[if_neg hct]at hs ⊢;refine hK _ _ _ β hs ?_;rw[hd];exact h.fq hdN' (.cp _ _ _ (fun e=>by cases e) fun _=>rfl)
     ·exact hs.elim
    have guarded:(ai (bN (st.vars s) want) fun c=>ai (fJ st.aa ((ix.map (ev st.vars)).map strip)) fun ys=>ai (gt Γ f ys) fun x=>if frR x.2=true then(if c=true then me P Γ ⟨id,.call f,ix,none,[],none⟩ f K st else K ((bI.put (.cp false .aw)).on id st)) else c9 P Γ ⟨id,.call f,ix,some (s,want),iun,itg⟩ K st)→wpOp P ops Q' j K' a w:=by
     intro hs;obtain⟨c,hcg,hs⟩:=ae hs;obtain⟨ys,hys,hs⟩:=ae hs;obtain⟨x,hx,hs⟩:=ae hs;split at hs
     ·unfold wpOp;rw[hj];dsimp only;rw[dJ hg hj' (h.vars s) hcg];by_cases hct:c=true;·rw[if_pos hct]at hs ⊢;exact .inl (sd hL hΓ hc hd hdN' h hK hs)
      ·rw[if_neg hct]at hs ⊢;refine hK _ _ _ β hs ?_;rw[hd];exact h.fq hdN' (.cp _ _ _ (fun e=>by cases e) fun _=>rfl)
     ·exact dH hΓ hj hcore h hK hs
    unfold ia at hs;split at hs;·exact guarded hs
    ·split at hs
     ·rename_i hf0;have hcg:bN (st.vars s) want=some false:=by revert hf0;cases bN (st.vars s) want with|none=>intro h0;cases h0|some b=>cases b with|false=>intro _;rfl|true=>intro h0;cases h0
      unfold wpOp;rw[hj];dsimp only;rw[dJ hg hj' (h.vars s) hcg];simp only[q136,if_false];refine hK _ _ _ β hs ?_;rw[hd];exact h.fq hdN' (.cp _ _ _ (fun e=>by cases e) fun _=>rfl)
     ·exact guarded hs
  ·exact dH hΓ hj hcore (h.drop hL t) hK hs
  ·exact vR hΓ hj hcore (h.cK hL l) hK hs
theorem gz (hL:∀b,L b→S0 b) (hΓ:eb P Γ) {i:AI} (hj:ops[j]?=some o) (hi:Core P N ops o i) (h:Rel P S0 L B0 w0 N st a w β) (hK:∀st a w β,K st→Rel P S0 L B0 w0 N st a w β→K' a w) (hs:cg P Γ i K st):wpOp P ops Q' j K' a w:=by
 unfold cg at hs;split at hs;rotate_left;·exact lZ hL hΓ hj hi h hK hs
 split at hs;rotate_left;·exact lZ hL hΓ hj hi h hK hs
 rename_i r hr _;obtain⟨hc,hd,hdN,hg⟩:=hi;have hdN':∀s,o.dst=some s→s<N:=fun s e=>hdN s (hd.trans e);unfold Z3 at hr;split at hr;rotate_left;·cases hr
 rename_i e sz b hk _ hig;cases hr;rw[hk]at hc;obtain⟨x,y,t,tx,inf,ho,hxs,ht,htx,hinf,hpos,hz,rfl,rfl⟩:=C9 hc;rw[hxs]at hs;rcases hg with⟨hg,_⟩|⟨_,_,_,_,_,hig'⟩;rotate_left;·rw[hig]at hig';cases hig'
 unfold wpOp;rw[hj];dsimp only;rw[eF (P:=P) hg];obtain⟨ha,hs⟩:=hs;obtain⟨⟨tg,rows,more⟩,hap,⟨b1,b2,b3⟩,h9,hs⟩:=ae hs;obtain⟨v,w',hrun,β',hR⟩:=m_aps hL ho ht htx hinf hpos hz h hdN' (h.dA x ha.1) (h.dA y ha.2.1) hap b1 b2 b3 h9;refine .inl (aK hrun (hK _ _ _ β' hs ?_));rw[hd];exact hR
theorem tW (hL:∀b,L b→S0 b) (hΓ:eb P Γ) {Q:St→Prop} (hcore:∀(j:Nat) (o:Oper),ops[j]?=some o→∃i,is[j]?=some i∧Core P N ops o i) (hQ:∀st a w β,Q st→Rel P S0 L B0 w0 N st a w β→Q' .normal a w) {S:Nat→(St→Prop)→St→Prop} (hS:∀(j:Nat) (i:AI) (K:St→Prop) (st:St),is[j]?=some i→S j K st→cO P Γ i K st):∀(fuel:Nat) (listed:Array Bool) (st:St) (a:Act) (w:World) (β:Nat→Value),Rel P S0 L B0 w0 N st a w β→anyS S ops Q fuel listed st→wpAny P .any ops Q' fuel listed a w:=by intro fuel;induction fuel with|zero=>intro listed st a w β h hs;exact⟨hs.1,hQ _ _ _ _ hs.2 h⟩|succ fuel ih=>
 intro listed st a w β h hs;refine⟨fun h0=>hQ _ _ _ _ (hs.1 h0) h,fun j hj=>?_⟩;have h1:=hs.2 j hj;obtain⟨_,o,ho,_⟩:=mem_ready.1 hj;obtain⟨i,hi,hc⟩:=hcore j o ho;have h2:=hS j i _ st hi h1;have hnext:∀st a w β,anyS S ops Q fuel (listed.setIfInBounds j true) st→Rel P S0 L B0 w0 N st a w β→wpAny P .any ops Q' fuel (listed.setIfInBounds j true) a w:=fun st a w β hK hR=>ih _ st a w β hR hK;unfold cO at h2;split at h2
 ·rename_i f e1 e2 e3;obtain⟨id,ik,ix,ig,iun,itg⟩:=i;simp only at e1 e2 e3;subst e1 e2 e3;have hc':Core P N ops o ⟨id,.call f,ix,none,iun,none⟩:=hc.same rfl rfl rfl rfl;unfold ij at h2;split at h2
  ·rename_i p k hfl;split at h2;·rename_i hk;refine gz hL hΓ ho hc' h hnext ?_;show gY P Γ _ f (dV Γ f) _ st;rw[hfl];unfold gY;dsimp only;rw[if_neg (by omega),if_neg (by omega)];exact h2.2
   ·split at h2;·rename_i hk;refine gz hL hΓ ho hc' h hnext ?_;show gY P Γ _ f (dV Γ f) _ st;rw[hfl];unfold gY;dsimp only;rw[if_neg (by omega),if_pos hk];exact h2.2
    ·exact h2.elim
  ·have hc2:Core P N ops o ⟨id,.call f,ix,none,[],none⟩:=hc.same rfl rfl rfl rfl;exact dH hΓ ho hc2 h hnext h2
 ·rename_i e1 e2 e3;obtain⟨id,ik,ix,ig,iun,itg⟩:=i;simp only at e1 e2 e3;subst e1 e2 e3;have hc':Core P N ops o ⟨id,.lN,ix,none,iun,none⟩:=hc.same rfl rfl rfl rfl;exact gz hL hΓ ho hc' h hnext h2
 ·exact dH hΓ ho hc h hnext h2
theorem zu {as:Array AI}:∀{l:List AI}{n:Nat},(Ag ops as n l).length=l.length∧∀(j:Nat) (i:AI),l[j]?=some i→(Ag ops as n l)[j]?=some (if zU ops as (n+j) i then{i with tg:=some 999999,un:=kl ops as (n+j)} else i)|[],n=>⟨rfl,fun j i h=>by simp at h⟩|x::l,n=>by obtain⟨h1,h2⟩:=zu (as:=as) (l:=l) (n:=n+1);refine⟨by simp[Ag,h1],fun j i h=>?_⟩;cases j with|zero=>simp only[q69,qr]at h;subst h;rfl|succ j=>have:=h2 j i (by simpa using h);rw[show n+1+j=n+(j+1) from by omega]at this;simpa[Ag]using this
theorem tw {Q:St→Prop}{l:List AI}:∀(m k:Nat) (st:St),k+m=l.length→steps P Γ (l.drop k) Q st→D8 (fun j K st=>match l[j]? with|some i=>cO P Γ i K st|none=>False) Q m k st
 |0,k,st,hk,hs=>by
  have hd:l.drop k=[]:=by rw[List.drop_eq_nil_iff];omega
  rw[hd]at hs;exact hs|m+1,k,st,hk,hs=>by
  have hkl:k<l.length:=by omega
  rw[q88 hkl]at hs;have hs:cO P Γ l[k] (fun st'=>steps P Γ (l.drop (k+1)) Q st') st:=hs;unfold D8;rw[q64 hkl];exact iP (fun st' h=>tw m (k+1) st' (by omega) h) hs
theorem qU {x:AI} (h:zU ops as j x=true):((∃f,x.k=.call f)∨x.k=.lN)∧x.g=none∧x.un=[]∧∀q y,as[q]?=some y→q≠j→(if q<j then bits ops q j else bits ops j q)=false→(MC y x=true∨(q<j∧ldB y x=true))∧∀dd,y.d=some dd→dd∉kl ops as j:=by
 unfold zU at h;simp only[q73,q90,q162,q134,beq_iff_eq,Option.isNone_iff_eq_none]at h;obtain⟨⟨⟨⟨h1,h2⟩,h3⟩,h5⟩,h4⟩:=h;have hf:(∃f,x.k=.call f)∨x.k=.lN:=by
  unfold G7 at h1;split at h1;·rename_i f e;exact .inl ⟨f,e⟩
  ·rename_i e;exact .inr e
  ·cases h1
 refine⟨hf,h2,by simpa using h5,fun q y hy hne hb=>?_⟩;have:=h4 q (q66.1 hy).1;rw[hy]at this;rcases this with(h|h)|h;·exact absurd h hne
 ·rw[hb]at h;cases h
 ·simp only[q73,q134,decide_eq_true_eq]at h;refine⟨h.1,fun dd hdd=>?_⟩;have:=h.2;rw[hdd]at this;simpa using this
theorem GL {y x:AI} (h:ldB y x=true):∃dd n s f,y=⟨some dd,.load n,[.tmp s],none,y.un,none⟩∧x.k=.call f∧x.d≠some s∧(cU x).contains dd=false∧x.d≠some dd∧dd≠s∧CF y=[s]:=by
 obtain⟨yd,yk,yxs,yg,yun,ytg⟩:=y;unfold ldB at h;split at h;·rename_i n s dd f e1 e2 e3 e4 e5 e6;simp only at e1 e2 e3 e4 e5;subst e1 e2 e3 e4 e5;simp only[q73,bne_iff_ne,ne_eq,q142]at h;exact⟨dd,n,s,f,rfl,e6,h.1.1.1,h.1.1.2,h.1.2,h.2,rfl⟩
 ·cases h
theorem Et {q j s:Nat}{y:AI} (hy:as[q]?=some y) (hq:q<j) (hb:bits ops q j=false) (hs:CF y=[s]):s∈kl ops as j:=by unfold kl;rw[q179];refine⟨q,q162.2 hq,?_⟩;rw[hb,hy];simp[hs]
theorem ED (hL:∀b,L b→S0 b) (hΓ:eb P Γ) {Q:St→Prop}{l:List AI} (hl:is=l.toArray) (hsz:is.size=ops.size) (hcore:∀(j:Nat) (o:Oper),ops[j]?=some o→∃i,is[j]?=some i∧Core P N ops o i) (hQ:∀st a w β,Q st→Rel P S0 L B0 w0 N st a w β→Q' .normal a w):∀(m k:Nat) (st:St) (a:Act) (w:World) (β:Nat→Value),k+m=ops.size→Rel P S0 L B0 w0 N st a w β→cn P Γ (l.drop k) Q st→wpOps P ops Q' (List.range' k m) a w:=by intro m;induction m with
 |zero=>
  intro k st a w β hk h hs;have hd:l.drop k=[]:=by rw[List.drop_eq_nil_iff];rw[hl]at hsz;simp at hsz;omega
  rw[hd]at hs;exact hQ _ _ _ _ hs h|succ m ih=>
  intro k st a w β hk h hs;have hkl:k<l.length:=by rw[hl]at hsz;simp at hsz;omega
  have hko:k<ops.size:=by omega
  rw[q88 hkl]at hs;have hs:cg P Γ l[k] (fun st'=>cn P Γ (l.drop (k+1)) Q st') st:=hs;have hok:ops[k]?=some ops[k]:=q127 hko;obtain⟨i,hi,hc⟩:=hcore k _ hok;rw[hl]at hi;simp only[List.getElem?_toArray,q64 hkl,qr]at hi;subst hi;rw[List.range'_succ,wpOps_cons];exact gz hL hΓ hok hc h (fun st a w β hK hR=>ih (k+1) st a w β (by omega) hR hK) hs
theorem BJ {l:List Oper}{js:List AI} (h:uR P N ops l=some js):js.length=l.length∧∀(j:Nat) (o:Oper),l[j]?=some o→∃i,js[j]?=some i∧Core P N ops o i:=by induction l generalizing js with|nil=>simp only[uR,qr]at h;subst h;exact⟨rfl,fun j o h=>by simp at h⟩|cons o l ih=>
 simp only[uR]at h;split at h;·rename_i i is hi his;simp only[qr]at h;subst h;obtain⟨h1,h2⟩:=ih his;refine⟨by simp[h1],fun j o' hj=>?_⟩;cases j with|zero=>simp only[q69,qr]at hj;subst hj;exact⟨i,rfl,Ck hi⟩|succ j=>exact h2 j o' (by simpa using hj)
 ·cases h
theorem j4 {l0:List AI}:∀{l:List AI},(xH l0 l).length=l.length∧∀(j:Nat) (i:AI),l[j]?=some i→∃i',(xH l0 l)[j]?=some i'∧i'.k=i.k∧i'.xs=i.xs∧i'.d=i.d∧i'.g=i.g|[]=>⟨rfl,fun j i h=>by simp at h⟩|x::l=>by obtain⟨h1,h2⟩:=j4 (l0:=l0) (l:=l);refine⟨by simp[xH,h1],fun j i h=>?_⟩;cases j with|zero=>simp only[q69,qr]at h;subst h;exact⟨_,rfl,rfl,rfl,rfl,rfl⟩|succ j=>exact h2 j i (by simpa using h)
theorem iT {l0:List AI}:∀{l:List AI},(qd l0 l).length=l.length∧∀(j:Nat) (i:AI),l[j]?=some i→∃i',(qd l0 l)[j]?=some i'∧i'.k=i.k∧i'.xs=i.xs∧i'.d=i.d∧i'.g=i.g|[]=>⟨rfl,fun j i h=>by simp at h⟩|x::l=>by obtain⟨h1,h2⟩:=iT (l0:=l0) (l:=l);refine⟨by simp[qd,h1],fun j i h=>?_⟩;cases j with|zero=>simp only[q69,qr]at h;subst h;exact⟨_,rfl,rfl,rfl,rfl,rfl⟩|succ j=>exact h2 j i (by simpa using h)
theorem zK:∀{l pre:List AI},(vF pre l).length=l.length∧∀(j:Nat) (i:AI),l[j]?=some i→∃i',(vF pre l)[j]?=some i'∧i'.k=i.k∧i'.xs=i.xs∧i'.d=i.d∧i'.g=i.g|[],pre=>⟨rfl,fun j i h=>by simp at h⟩|x::l,pre=>by obtain⟨h1,h2⟩:=zK (l:=l) (pre:=x::pre);refine⟨by simp[vF,h1],fun j i h=>?_⟩;cases j with|zero=>simp only[q69,qr]at h;subst h;refine⟨_,by simp only[vF,q69];rfl,?_⟩;split<;>exact⟨rfl,rfl,rfl,rfl⟩|succ j=>obtain⟨i',h3,h4⟩:=h2 j i (by simpa using h);exact⟨i',by simpa[vF]using h3,h4⟩
theorem qo {as:Array AI}:∀{l:List AI}{n:Nat},(sm ops as n l).length=l.length∧∀(j:Nat) (i:AI),l[j]?=some i→∃i',(sm ops as n l)[j]?=some i'∧i'.k=i.k∧i'.xs=i.xs∧i'.d=i.d∧i'.g=i.g|[],n=>⟨rfl,fun j i h=>by simp at h⟩|x::l,n=>by obtain⟨h1,h2⟩:=qo (as:=as) (l:=l) (n:=n+1);refine⟨by simp[sm,h1],fun j i h=>?_⟩;cases j with|zero=>simp only[q69,qr]at h;subst h;exact⟨_,rfl,rfl,rfl,rfl,rfl⟩|succ j=>exact h2 j i (by simpa using h)
theorem nO {as:Array AI}:∀{l:List AI}{n:Nat},(iV ops as n l).length=l.length∧∀(j:Nat) (i:AI),l[j]?=some i→∃i',(iV ops as n l)[j]?=some i'∧i'.k=i.k∧i'.xs=i.xs∧i'.d=i.d∧i'.g=i.g|[],n=>⟨rfl,fun j i h=>by simp at h⟩|x::l,n=>by obtain⟨h1,h2⟩:=nO (as:=as) (l:=l) (n:=n+1);refine⟨by simp[iV,h1],fun j i h=>?_⟩;cases j with|zero=>simp only[q69,qr]at h;subst h;exact⟨_,rfl,rfl,rfl,rfl,rfl⟩|succ j=>exact h2 j i (by simpa using h)
theorem free_spec {l:List AI} (h:Ip ops l.toArray=true) (hsz:l.length=ops.size):(∀j,j<ops.size→jY ops j=true∧∀i,i<j→lW ops i j=true)∧∀(i j:Nat) (x y:AI),l.toArray[i]?=some x→l.toArray[j]?=some y→i<j→bits ops i j=false→Apt x y:=by
 unfold Ip at h;simp only[q90,q162,q73,q134]at h;refine⟨fun j hj=>⟨(h j hj).1,fun i hi=>((h j hj).2 i hi).1⟩,fun i j x y hx hy hij hb=>?_⟩;have hj:j<ops.size:=by have:=(q66.1 hy).1;simp at this;omega
 have:=((h j hj).2 i hij).2;rw[hb,hx,hy]at this;simp only[q136,false_or]at this;exact zW this
theorem yH (hL:∀b,L b→S0 b) (hΓ:eb P Γ) {id:Nat}{draw:Bool}{b:AC}{cw:List Nat}{J:Exit→St→Prop} (hm:P.follows .mixedOrders=true) (hc:comp P N (.region id ops draw)=some b) (h:Rel P S0 L B0 w0 N st a w β) (hK:∀st a w β,K st→Rel P S0 L B0 w0 N st a w β→Q' .normal a w) (hs:iC P Γ (gy cw b) K J st):(Code.region id ops draw).wp P Q' a w:=by
 unfold comp at hc;split at hc
 ·rename_i js hjs;obtain⟨h1,h2⟩:=BJ hjs;have hQ:∀st a w β,K ⟨jA cw st.vars,st.aa⟩→Rel P S0 L B0 w0 N st a w β→Q' .normal a w:=by
   intro st a w β hk hR;refine hK _ a w β hk (hR.cw fun s=>?_);unfold jA;split;·exact .inl rfl
   ·exact .inr rfl
  cases draw with|false=>simp only[q136,if_false,qr]at hc;subst hc;obtain⟨a1,a2⟩:=zK (l:=js) (pre:=[]);have hs:cn P Γ (vF [] js) (fun st'=>K ⟨jA cw st'.vars,st'.aa⟩) st:=hs;refine wp_region ?_;rw[List.range_eq_range'];refine ED hL hΓ (is:=(vF [] js).toArray) (l:=vF [] js) rfl (by simpa using a1.trans h1) ?_ hQ ops.size 0 st a w β (by simp) h hs;intro j o ho;obtain⟨i,hi,hco⟩:=h2 j o (by simpa using ho);obtain⟨i',hi',g1,g2,g3,g4⟩:=a2 j i hi;exact⟨i',by simpa using hi',hco.same g1 g2 g3 g4⟩|true=>
   simp only[if_true]at hc;rcases q236.1 hc with hc|⟨_,hc⟩;rotate_left
   ·obtain⟨gs,hdr,t1,t2⟩:∃gs,xQ ops gs (m7 ops js)=some b∧gs.length=js.length∧∀(j:Nat) (i:AI),js[j]?=some i→∃i',gs[j]?=some i'∧i'.k=i.k∧i'.xs=i.xs∧i'.d=i.d∧i'.g=i.g:=by
     rcases q236.1 hc with h|⟨_,h⟩;·exact⟨_,h,(j4 (l0:=js) (l:=js)).1,(j4 (l0:=js) (l:=js)).2⟩
     ·exact⟨_,h,(iT (l0:=js) (l:=js)).1,(iT (l0:=js) (l:=js)).2⟩
    generalize m7 ops js=l at hdr;unfold xQ at hdr;dsimp only at hdr;split at hdr;rotate_left;·cases hdr
    rename_i hcond;simp only[qr]at hdr;subst hdr;obtain⟨u1,u2⟩:=qo (ops:=ops) (as:=gs.toArray) (l:=gs) (n:=0);generalize sm ops gs.toArray 0 gs=hh at*;obtain⟨w1,w2⟩:=nO (ops:=ops) (as:=hh.toArray) (l:=hh) (n:=0);have hs:steps P Γ (l.filterMap fun j=>(iV ops hh.toArray 0 hh)[j]?) (fun st'=>K ⟨jA cw st'.vars,st'.aa⟩) st:=hs;generalize iV ops hh.toArray 0 hh=ks at*;obtain⟨c1,c2,c3,c4,c5,c6⟩:=hcond;have hlen:ks.length=ops.size:=by rw[w1,u1,t1,h1];simp
    simp only[q90,q162,q73,decide_eq_true_eq,bne_iff_ne,ne_eq]at c3 c4 c5 c6;refine wp_region_any hm ?_;have hfirst:Array.replicate ops.size false=cI ops.size []:=by
     apply q288;·simp[cI]
     ·intro j h1 h2;simp[cI]
    rw[hfirst];have hno:∀(j:Nat) (x:AI),ks[j]?=some x→x.tg≠some 999999:=fun j x hx=>c6 x (List.mem_of_getElem? hx);have hnest:∀(l:List Nat) (st:St),(∀j∈l,j<ops.size)→steps P Γ (l.filterMap fun j=>ks[j]?) (fun st'=>K ⟨jA cw st'.vars,st'.aa⟩) st→HM (fun j K st=>match ks[j]? with|some i=>cO P Γ i K st|none=>False) (fun st'=>K ⟨jA cw st'.vars,st'.aa⟩) l st:=by intro l;induction l with|nil=>intro st _ hs;exact hs|cons j l ih=>
     intro st hl hs;have hj:j<ks.length:=by rw[hlen];exact hl j q121
     have hk:=q64 hj;rw[List.filterMap_cons_some hk]at hs;show(match ks[j]? with|some i=>cO P Γ i _ st|none=>False);rw[hk];exact iP (fun st h=>ih st (fun j hj=>hl j (q103 _ hj)) h) hs
    have hany:anyS (fun j K st=>match ks[j]? with|some i=>cO P Γ i K st|none=>False) ops (fun st'=>K ⟨jA cw st'.vars,st'.aa⟩) l.length (cI ops.size []) st:=by
     refine Hn (ks:=ks.toArray) ?_ ?_ c3 ?_ l [] st (fun j hj _=>by simpa using c5 j hj) c4 (fun j hj=>by simp at hj) ?_ c2 (hnest l st c4 hs);·intro j K K' st hK hh;cases hk:ks[j]? with|none=>simp only[hk]at hh|some i=>simp only[hk]at hh ⊢;exact iP hK hh
     ·intro j st hh;cases hk:ks[j]? with|none=>simp only[hk]at hh|some i=>simp only[hk]at hh;exact pn hh
     ·rintro i j K st ⟨x,y,hx,hy,hap⟩ hh;have hx':ks[i]?=some x:=by simpa using hx
      have hy':ks[j]?=some y:=by simpa using hy
      simp only[hx',hy']at hh ⊢;rw[dx (hno i x hx')]at hh;obtain⟨e,he,hK⟩:=cD.1 hh;rw[dx (hno j y hy')]at hK;obtain⟨e',he',hK⟩:=cD.1 hK;obtain⟨e1,e2,hy1,hx2,heq⟩:=swapT (zW hap) he he';rw[dx (hno j y hy')];refine cD.2 ⟨e1,hy1,?_⟩;rw[dx (hno i x hx')];exact cD.2 ⟨e2,hx2,by rw[heq];exact hK⟩
     ·intro j o hj hl;rw[gS false ((q66.1 hj).1)]at hl;simp at hl
    rw[c1]at hany;refine tW hL hΓ (is:=ks.toArray) (S:=fun j K st=>match ks[j]? with|some i=>cO P Γ i K st|none=>False) ?_ hQ ?_ ops.size _ st a _ β h.drew hany;·intro j o ho;obtain⟨i,hi,hco⟩:=h2 j o (by simpa using ho);obtain⟨i1,hi1,a1,a2,a3,a4⟩:=t2 j i hi;obtain⟨i2,hi2,b1,b2,b3,b4⟩:=u2 j i1 hi1;obtain⟨i3,hi3,d1,d2,d3,d4⟩:=w2 j i2 hi2;exact⟨i3,by simpa using hi3,hco.same (i':=i3) (d1.trans (b1.trans a1)) (d2.trans (b2.trans a2)) (d3.trans (b3.trans a3)) (d4.trans (b4.trans a4))⟩
    ·intro j i K st hi hh;have hi':ks[j]?=some i:=by simpa using hi
     simp only[hi']at hh;exact hh
   obtain⟨gs,hdr,t1,t2⟩:∃gs,drawn ops gs=some b∧gs.length=js.length∧∀(j:Nat) (i:AI),js[j]?=some i→∃i',gs[j]?=some i'∧i'.k=i.k∧i'.xs=i.xs∧i'.d=i.d∧i'.g=i.g:=by
    rcases q236.1 hc with h|⟨_,h⟩;·exact⟨_,h,(j4 (l0:=js) (l:=js)).1,(j4 (l0:=js) (l:=js)).2⟩
    ·exact⟨_,h,(iT (l0:=js) (l:=js)).1,(iT (l0:=js) (l:=js)).2⟩
   unfold drawn at hdr;dsimp only at hdr;split at hdr
   ·rename_i hfree;simp only[qr]at hdr;subst hdr;obtain⟨u1,u2⟩:=qo (ops:=ops) (as:=gs.toArray) (l:=gs) (n:=0);generalize sm ops gs.toArray 0 gs=hh at*;obtain⟨w1,w2⟩:=nO (ops:=ops) (as:=hh.toArray) (l:=hh) (n:=0);have hs:steps P Γ (Ag ops (iV ops hh.toArray 0 hh).toArray 0 (iV ops hh.toArray 0 hh)) (fun st'=>K ⟨jA cw st'.vars,st'.aa⟩) st:=hs;generalize iV ops hh.toArray 0 hh=ks at*;obtain⟨m1,m2⟩:=zu (ops:=ops) (as:=ks.toArray) (l:=ks) (n:=0);have hlen:ks.length=ops.size:=by rw[w1,u1,t1,h1];simp
    simp only[q73,q90,bne_iff_ne,ne_eq]at hfree;obtain⟨f1,f2⟩:=free_spec hfree.1 hlen;have hno:=hfree.2;refine wp_region_any hm ?_;have hfirst:Array.replicate ops.size false=eE ops.size 0:=by
     apply q288;·simp[eE]
     ·intro j h1 h2;simp[eE]
    rw[hfirst];generalize hms:Ag ops ks.toArray 0 ks=ms at*;have hget:∀(j:Nat) (i:AI),ms[j]?=some i→∃i0,ks[j]?=some i0∧((zU ops ks.toArray j i0=false∧i=i0)∨(zU ops ks.toArray j i0=true∧i={i0 with tg:=some 999999,un:=kl ops ks.toArray j})):=by
     intro j i hi;have hjl:j<ks.length:=by rw[←m1];exact(q65.1 hi).1
     have h0:=q64 hjl;have h3:=m2 j _ h0;rw[hi,q133]at h3;refine⟨_,h0,?_⟩;cases hmm:zU ops ks.toArray j ks[j]with|false=>rw[hmm]at h3;left;exact⟨rfl,by simpa using h3⟩|true=>rw[hmm]at h3;right;exact⟨rfl,by simpa using h3⟩
    refine tW hL hΓ (is:=ms.toArray) (S:=fun j K st=>match ms[j]? with|some i=>cO P Γ i K st|none=>False) ?_ hQ ?_ ops.size _ st a _ β ?_ (Hq ?_ ?_ f1 ?_ ops.size 0 st (by simp) (tw ops.size 0 st (by rw[m1,hlen];simp) hs))
    ·intro j o ho;obtain⟨i,hi,hco⟩:=h2 j o (by simpa using ho);obtain⟨i1,hi1,a1,a2,a3,a4⟩:=t2 j i hi;obtain⟨i2,hi2,b1,b2,b3,b4⟩:=u2 j i1 hi1;obtain⟨i3,hi3,c1,c2,c3,c4⟩:=w2 j i2 hi2;have h3:=m2 j i3 hi3;have hco3:=hco.same (i':=i3) (c1.trans (b1.trans a1)) (c2.trans (b2.trans a2)) (c3.trans (b3.trans a3)) (c4.trans (b4.trans a4));refine⟨_,by simpa using h3,?_⟩;split;·exact hco3.same rfl rfl rfl rfl
     ·exact hco3
    ·intro j i K st hi hh;have hi':ms[j]?=some i:=by simpa using hi
     simp only[hi']at hh;exact hh
    ·exact h.drew
    ·intro j K K' st hKK hh;cases hi:ms[j]? with|none=>rw[hi]at hh;exact hh.elim|some i=>rw[hi]at hh;exact iP hKK hh
    ·intro j st hh;cases hi:ms[j]? with|none=>rw[hi]at hh;exact hh|some i=>rw[hi]at hh;exact pn hh
    ·intro i j K st hj hij hb hh;cases hi:ms[i]? with|none=>rw[hi]at hh;exact hh.elim|some x=>
      have hjl:j<ms.length:=by rw[m1,hlen];exact hj
      have hjg:=q64 hjl;generalize ms[j]=y at hjg;simp only[hi,hjg]at hh ⊢;obtain⟨x0,hx0,hx⟩:=hget i x hi;obtain⟨y0,hy0,hy⟩:=hget j y hjg;have hx0':ks.toArray[i]?=some x0:=by simpa using hx0
      have hy0':ks.toArray[j]?=some y0:=by simpa using hy0
      rcases hx with⟨hxm,rfl⟩|⟨hxm,rfl⟩
      ·rcases hy with⟨hym,rfl⟩|⟨hym,rfl⟩;·have nx:=hno x (List.mem_of_getElem? hx0);have ny:=hno y (List.mem_of_getElem? hy0);have hap:=f2 i j x y hx0' hy0' hij hb;rw[dx nx]at hh;rw[dx ny];obtain⟨e,he,hK⟩:=cD.1 hh;rw[dx ny]at hK;obtain⟨e',he',hK⟩:=cD.1 hK;obtain⟨e1,e2,hy1,hx2,heq⟩:=swapT hap he he';refine cD.2 ⟨e1,hy1,?_⟩;rw[dx nx];exact cD.2 ⟨e2,hx2,by rw[heq];exact hK⟩
       ·obtain⟨hk,hg,hun0,hall⟩:=qU hym;obtain⟨hc,hdu⟩:=hall i x hx0' (by omega) (by rw[if_pos hij];exact hb);rcases hc with hc|⟨_,hc⟩;·have hc':MC x {y0 with tg:=some 999999,un:=kl ops ks.toArray j}=true:=hc;have hsw:=uL (P:=P) (Γ:=Γ) (x:={y0 with tg:=some 999999,un:=kl ops ks.toArray j}) (y:=x) hk hg rfl hc' hdu (K:=K) (st:=st);rw[←hsw]at hh;exact hh
        ·obtain⟨dd,n,s,f,hx1,hyk,g1,g2,g3,g4,g5⟩:=GL hc;have hsm:=Et hx0' hij hb g5;cases hfl:dV Γ f with|none=>
          have nx:=hno x (List.mem_of_getElem? hx0);have ny:=hno y0 (List.mem_of_getElem? hy0);have hyt:y0.tg=none:=by unfold zU at hym;simp only[q73]at hym;simpa using hym.1.1.2
          have hpl:∀(K:St→Prop) (st:St),cO P Γ {y0 with tg:=some 999999,un:=kl ops ks.toArray j} K st=c9 P Γ y0 K st:=by intro K st;obtain⟨yd,yk,yxs,yg,yun,ytg⟩:=y0;simp only at hyk hg hun0 hyt;subst hyk hg hun0 hyt;show ij P Γ _ f (dV Γ f) K st=_;rw[hfl];rfl
          have hap:=f2 i j x y0 hx0' hy0' hij hb;rw[dx nx]at hh;rw[hpl];obtain⟨e,he,hK⟩:=cD.1 hh;rw[hpl]at hK;obtain⟨e',he',hK⟩:=cD.1 hK;obtain⟨e1,e2,hy1,hx2,heq⟩:=swapT hap he he';refine cD.2 ⟨e1,hy1,?_⟩;rw[dx nx];exact cD.2 ⟨e2,hx2,by rw[heq];exact hK⟩|some pk=>exact LC (x:={y0 with tg:=some 999999,un:=kl ops ks.toArray j}) (y:=x) hyk hg rfl (p:=pk.1) (k:=pk.2) hfl hx1 g1 g2 g3 g4 hsm (hdu dd (by rw[hx1])) hh
      ·obtain⟨hk,hg,_,hall⟩:=qU hxm;rcases hy with⟨hym,rfl⟩|⟨hym,rfl⟩
       ·obtain⟨hc,hdu⟩:=hall j y hy0' (by omega) (by rw[if_neg (by omega)];exact hb);rcases hc with hc|⟨hlt,_⟩;·have hc':MC y {x0 with tg:=some 999999,un:=kl ops ks.toArray i}=true:=hc;have hsw:=uL (P:=P) (Γ:=Γ) (x:={x0 with tg:=some 999999,un:=kl ops ks.toArray i}) (y:=y) hk hg rfl hc' hdu (K:=K) (st:=st);rw[hsw]at hh;exact hh
        ·omega
       ·exfalso;obtain⟨hc,_⟩:=hall j y0 hy0' (by omega) (by rw[if_neg (by omega)];exact hb);obtain⟨hk',_,_⟩:=qU hym;rcases hc with hc|⟨hlt,_⟩;·unfold MC at hc;rcases hk' with⟨f',hk'⟩|hk'<;>(rw[hk']at hc;simp at hc)
        ·omega
   ·cases hdr
 ·cases hc
theorem RV.live {S S':Nat→Prop}{D D':Nat→Prop}{β β':Nat→Value}{os:List (Nat×AO)} (hS:∀b,S b→S' b) (hD:∀t,aG (ab os) t→D t→D' t∧β' t=β t) {v:Value} (hx:lE os x) (h:RV P S w β D v x):RV P S' w β' D' v x:=by
 have hS':∀b,S b→S' b∧w.heap[b]?=w.heap[b]?:=fun b hb=>⟨hS b hb,rfl⟩;have hcell:∀{u:Value}{c:AV},jF os c→RV P S w β D u c→RV P S' w β' D' u c:=by intro u c hc h;cases h with|pv v p h=>exact .pv _ _ (h.mono hS')|own t h=>rw[←(hD t hc h).2];exact .own t (hD t hc h).1|ptr t o b h hb=>exact .ptr t o b (hD t hc h).1 ((hD t hc h).2.trans hb)|bd t e i o b n c inf h hi hb=>exact .bd t e i o b n c inf (hD t hc h).1 hi ((hD t hc h).2.trans hb)|sub v t e lo hi inf A A1 n c h hi' hb h1 h2 h3 h4 h5 hv=>exact .sub _ t e lo hi inf A A1 n c (hD t hc h).1 hi' ((hD t hc h).2.trans hb) h1 h2 h3 h4 h5 hv|rp ad cs us h1 h2 h3 h4=>exact .rp ad cs us (hS _ h1) h2 h3 (fun j p hp=>(h4 j p hp).mono hS')|agg cs us hl h=>exact hc.elim|aO cs us hl h=>exact hc.elim|bE f cs us hl h=>exact hc.elim|cp g v av h=>exact hc.elim|aw v=>exact .aw _
 have hcs:∀{cs:List AV},gh os cs→∀(i:Nat) (c:AV),cs[i]?=some c→jF os c:=by intro cs;induction cs with|nil=>intro _ i c hc;simp at hc|cons x cs ih=>intro hl i c hc;cases i with|zero=>simp only[q69,qr]at hc;subst hc;exact hl.1|succ i=>exact ih hl.2 i c (by simpa using hc)
 cases h with|pv v p h=>exact hcell (c:=.pv p) trivial (.pv _ _ h)|own t h=>exact hcell (c:=.own t) hx (.own t h)|ptr t o b h hb=>exact hcell (c:=.ptr t o) hx (.ptr t o b h hb)|bd t e i o b n c inf h hi hb=>exact hcell (c:=.bd t e i o) hx (.bd t e i o b n c inf h hi hb)|sub v t e lo hi inf A A1 n c h hi' hb h1 h2 h3 h4 h5 hv=>exact hcell (c:=.sub t e lo hi) hx (.sub v t e lo hi inf A A1 n c h hi' hb h1 h2 h3 h4 h5 hv)|rp ad cs us h1 h2 h3 h4=>exact hcell (c:=.rp cs) trivial (.rp ad cs us h1 h2 h3 h4)|agg cs us hl h=>exact .agg cs us hl fun i c u hc hu=>hcell (hcs hx i c hc) (h i c u hc hu)|aO cs us hl h=>exact .aO cs us hl fun i c u hc hu=>hcell (hcs hx i c hc) (h i c u hc hu)|bE f cs us hl h=>exact .bE f cs us hl fun i c u hc hu=>hcell (hcs hx i c hc) (h i c u hc hu)|cp g v av h hu=>exact .cp g v av (fun hg=>hcell hx (h hg)) hu|aw v=>exact .aw _
theorem RV.eB {S:Nat→Prop}{v:Value} (h:RV P S w β D v (.pv .nil)):v=.slice none 0 0:=by cases h with|pv v p hp=>cases hp;rfl
theorem DN:∀{vs:List (Nat×AV)}{s:Nat},look vs s=.aw∨(s,look vs s)∈vs
 |[],_=>.inl rfl|(t,v)::l,s=>by
  simp only[look];split;·rename_i h;subst h;exact .inr q121
  ·exact(DN (vs:=l) (s:=s)).imp id (q103 _)
theorem pV:∀{os:List (Nat×AO)}{t:Nat}{o:AO},ab os t=some o→(t,o)∈os
 |[],_,_,h=>by cases h|(s,v)::l,t,o,h=>by
  simp only[ab]at h;split at h;·rename_i h';subst h';simp only[qr]at h;subst h;exact q121
  ·exact q103 _ (pV h)
theorem DV {ad:List Nat}{os:List (Nat×AO)}:∀{l:List (Nat×AV)},Rr ad st os l→∀s v,(s,v)∈l→v=.aw∨(st.vars s=v∧lE os v)∨(∃t,v=.own t∧ad.contains t=true∧aG (ab os) t∧st.vars s=.pv .nil)
 |[],_,s,v,hm=>by cases hm|(s',v')::l,h,s,v,hm=>by
  rcases q76.1 hm with e|hm;·cases e;exact h.1
  ·exact DV h.2 s v hm
theorem sU {ad:List Nat}{os:List (Nat×AO)}:∀{l:List (Nat×AO)},PH P ad st os l→∀t o,(t,o)∈l→(st.aa t=some o∧ad.contains t=false∧xL os o)∨(∃e,o=.arr e []∧ad.contains t=true∧st.aa t=none∧(P.info? e).isSome=true∧t%1000≠999)
 |[],_,s,v,hm=>by cases hm|(s',v')::l,h,s,v,hm=>by
  rcases q76.1 hm with e|hm;·cases e;exact h.1
  ·exact sU h.2 s v hm
def nK (β:Nat→Value) (aa:Nat→Option AO):Nat→Value:=fun t=>match aa t with|some _=>β t|none=>.slice none 0 0
theorem zl {ad:List Nat}{f:Fr} (h:Rel P S0 L B0 w0 N st a w β) (hw:wk P ad st f):∃β',Rel P S0 L B0 w0 N f.st a w β':=by
 obtain⟨vs,os⟩:=f;obtain⟨hv,ho⟩:=hw;have hold:∀t,aG st.aa t→nK β st.aa t=β t:=by rintro t ⟨o,ht⟩;unfold nK;rw[ht]
 have hnew:∀t,st.aa t=none→nK β st.aa t=.slice none 0 0:=by intro t ht;unfold nK;rw[ht]
 have hblk:∀t b,aG (ab os) t→cr (nK β st.aa t)=some b→aG st.aa t∧cr (β t)=some b:=by intro t b ht hb;cases hs:st.aa t with|none=>rw[hnew t hs]at hb;simp[cr]at hb|some o=>exact⟨⟨o,hs⟩,by rw[←hold t ⟨o,hs⟩];exact hb⟩
 have hS:∀b,aZ S0 w0.heap.size β st.aa w b→aZ S0 w0.heap.size (nK β st.aa) (ab os) w b:=by rintro b ⟨h1,h2,h3⟩;refine⟨h1,h2,?_⟩;rintro⟨t,o,ht,hb⟩;obtain⟨⟨o',ho'⟩,hb'⟩:=hblk t b ⟨o,ht⟩ hb;exact h3 ⟨t,o',ho',hb'⟩
 have hD:∀t,aG (ab os) t→aG st.aa t→aG (ab os) t∧nK β st.aa t=β t:=fun t h1 h2=>⟨h1,hold t h2⟩;refine⟨nK β st.aa,h.size,h.defers,fun s=>?_,⟨fun t o ht=>?_,fun t t' b ht ht' hb hb'=>?_⟩,fun t b ht hb=>?_,h.qb,fun t h9 ht=>?_,h.bZ⟩
 ·show RV P _ w _ _ _ (look vs s);rcases DN (vs:=vs) (s:=s) with hj|hm;·rw[hj];exact .aw _
  ·rcases DV hv s _ hm with hj|⟨he,hl⟩|⟨t,he,hat,hdt,hn⟩;·rw[hj];exact .aw _
   ·have:=h.vars s;rw[he]at this;exact this.live hS hD hl
   ·rw[he];have hs:=h.vars s;rw[hn]at hs;have hval:a.tmps.getD s undef=.slice none 0 0:=hs.eB;obtain⟨o,hot⟩:=hdt;have hnone:st.aa t=none:=by
     rcases sU ho t o (pV hot) with⟨_,h2,_⟩|⟨_,_,_,h3,_⟩;·rw[hat]at h2;cases h2
     ·exact h3
    rw[hval,←hnew t hnone];exact .own t ⟨o,hot⟩
 ·have ht':ab os t=some o:=ht;rcases sU ho t o (pV ht') with⟨h1,h2,h3⟩|⟨e,rfl,h2,h3,h4,_⟩;·have hh:=h.heap.holds t o h1;have hbt:=hold t ⟨o,h1⟩;cases o with
   |box cs=>
    obtain⟨b,us,ty,hp,hhp,hl,hc⟩:=hh;refine⟨b,us,ty,hbt.trans hp,hhp,hl,fun i c u hci hui=>⟨(hc i c u hci hui).1,?_⟩⟩;have hlc:∀{cs:List AV},gh os cs→∀(i:Nat) (c:AV),cs[i]?=some c→jF os c:=by intro cs;induction cs with|nil=>intro _ i c hc;simp at hc|cons x cs ih=>intro hl i c hc;cases i with|zero=>simp only[q69,qr]at hc;subst hc;exact hl.1|succ i=>exact ih hl.2 i c (by simpa using hc)
    have hcc:jF os c:=hlc h3 i c hci;have hcv:lE os c:=by cases c<;>first|exact hcc|exact hcc.elim
    exact(hc i c u hci hui).2.live hS hD hcv|arr e rows=>obtain⟨inf,us,hi,how,hr,hc⟩:=hh;refine⟨inf,us,hi,by show w.ownsRow 0 e inf.size (nK β st.aa t) _ _;rw[hbt];exact how,hr,fun i j r p h1 h2=>?_⟩;obtain⟨u,hu,hone,hp⟩:=hc i j r p h1 h2;exact⟨u,hu,hone,hp.mono fun b hb=>⟨hS b hb,rfl⟩⟩|map es=>obtain⟨b,us,cl,hp,hhp,hl,hc⟩:=hh;exact⟨b,us,cl,hbt.trans hp,hhp,hl,fun i e u h1 h2=>⟨(hc i e u h1 h2).1,(hc i e u h1 h2).2.mono (fun b hb=>⟨hS b hb,rfl⟩) fun _ hf=>hf.elim⟩⟩|iB es=>exact bz.mono (D:=fun _=>False) (show bz P _ w β (fun _=>False) t (.iB es) from hh) (fun b hb=>⟨hS b hb,rfl⟩) (fun _ hf=>hf.elim) hbt (fun _ _=>rfl)|nS rem cur=>exact bz.mono (D:=fun _=>False) (show bz P _ w β (fun _=>False) t (.nS rem cur) from hh) (fun b hb=>⟨hS b hb,rfl⟩) (fun _ hf=>hf.elim) hbt (fun _ _=>rfl)|rws e cs=>
    obtain⟨inf,us,hi,h1s,how,hc⟩:=hh;refine⟨inf,us,hi,h1s,by rw[hbt];exact how,fun i c u hci hui=>⟨(hc i c u hci hui).1,?_⟩⟩;have hlc:∀{cs:List AV},gh os cs→∀(i:Nat) (c:AV),cs[i]?=some c→jF os c:=by intro cs;induction cs with|nil=>intro _ i c hc;simp at hc|cons x cs ih=>intro hl i c hc;cases i with|zero=>simp only[q69,qr]at hc;subst hc;exact hl.1|succ i=>exact ih hl.2 i c (by simpa using hc)
    have hcc:jF os c:=hlc h3 i c hci;have hcv:lE os c:=by cases c<;>first|exact hcc|exact hcc.elim
    exact(hc i c u hci hui).2.live hS hD hcv
  ·obtain⟨inf,hi⟩:=q129.1 h4;refine⟨inf,[],hi,?_,fun r hr=>by simp at hr,fun i j r p hr=>by simp at hr⟩;show w.ownsRow 0 e inf.size (nK β st.aa t) _ _;rw[hnew t h3];exact q188 w 0 e inf.size
 ·obtain⟨d1,b1⟩:=hblk t b ht hb;obtain⟨d2,b2⟩:=hblk t' b ht' hb';exact h.heap.inj t t' b d1 d2 b1 b2
 ·obtain⟨d1,b1⟩:=hblk t b ht hb;exact h.old t b d1 b1
 ·obtain⟨o,hot⟩:=ht;rcases sU ho t o (pV hot) with⟨h1,_,_⟩|⟨_,_,_,_,_,h6⟩;·rw[hold t ⟨o,h1⟩];exact h.vw t h9 ⟨o,h1⟩
  ·exact absurd h9 h6
end
theorem tY {P:Program}{Γ:bX} (hΓ:eb P Γ) {S0 L:Nat→Prop}{B0:Nat→Value} (hL:∀b,L b→S0 b) {w0:World}{N:Nat} (hm:P.follows .mixedOrders=true) (cw:List Nat):∀(c:Code) (b:AC),comp P N c=some b→∀(K:St→Prop) (J:Exit→St→Prop) (Q:Exit→Act→World→Prop) (st:St) (a:Act) (w:World) (β:Nat→Value),(∀st a w β,K st→Rel P S0 L B0 w0 N st a w β→Q .normal a w)→(∀st a w β id,J (.exit id) st→Rel P S0 L B0 w0 N st a w β→Q (.exit id) a w)→(∀st a w β,J .ret st→Rel P S0 L B0 w0 N st a w β→Q .ret a w)→Rel P S0 L B0 w0 N st a w β→iC P Γ (gy cw b) K J st→c.wp P Q a w:=by intro c;induction c with
 |skip=>intro b hb K J Q st a w β hK _ _ h hs;simp only[comp,qr]at hb;subst hb;exact wp_skip (hK _ _ _ _ hs h)|region id ops draw=>intro b hb K J Q st a w β hK _ _ h hs;exact yH hL hΓ hm hb h hK hs|seq x y ihx ihy=>
  intro b hb K J Q st a w β hK hE hR h hs;simp only[comp]at hb;split at hb
  ·rename_i bx by' hx hy;simp only[qr]at hb;subst hb;refine wp_seq (ihx bx hx (fun st'=>iC P Γ (gy cw by') K J st') J _ st a w β ?_ ?_ ?_ h hs);·intro st a w β hv hr;exact ihy by' hy K J Q st a w β hK hE hR hr hv
   ·exact fun st a w β id hj hr=>hE st a w β id hj hr
   ·exact fun st a w β hj hr=>hR st a w β hj hr
  ·cases hb|cond x c1 c2 ih1 ih2=>
  intro b hb K J Q st a w β hK hE hR h hs;simp only[comp]at hb;split at hb
  ·rename_i b1 b2 h1 h2;simp only[qr]at hb;subst hb;obtain⟨t,ht,hc1,hc2⟩:=ae (show ai _ _ from hs);have hx:=h.ev x;generalize Ab.ev st.vars x=X at ht hx;have hxe:a.eval x=.bool t:=by cases X with|pv p=>cases p<;>simp[jd]at ht;subst ht;exact hx.fb|_=>simp[jd]at ht
   exact wp_cond_split hxe (fun e=>ih1 b1 h1 K J Q st a w β hK hE hR h (hc1 e)) (fun e=>ih2 b2 h2 K J Q st a w β hK hE hR h (hc2 e))
  ·cases hb|block id x ih=>
  intro b hb K J Q st a w β hK hE hR h hs;simp only[comp]at hb;obtain⟨b1,h1,rfl⟩:=q0.1 hb;refine wp_block (ih b1 h1 K (pw id K J) _ st a w β hK ?_ ?_ h hs)
  ·intro st a w β id' hj hr;simp only[pw]at hj;simp only[Exit.inBlock];split at hj;·rename_i e;rw[if_pos e];exact hK _ _ _ _ hj hr
   ·rename_i e;rw[if_neg e];exact hE _ _ _ _ _ hj hr
  ·exact fun st a w β hj hr=>hR st a w β hj hr|loop x ih=>
  intro b hb K J Q st a w β hK hE hR h hs;simp only[comp]at hb;obtain⟨b1,h1,rfl⟩:=q0.1 hb;obtain⟨ι,F,μ,ad,shs,i0,hw,hround⟩:=hs;obtain⟨β0,h0⟩:=zl (h.cF hL _) hw;refine wp_loop_ghost (fun n a w=>∃i β,μ i=n∧Rel P S0 L B0 w0 N (F i).st a w β) (μ i0) ⟨i0,β0,rfl,h0⟩ ?_;rintro n a w ⟨i,β,rfl,hr⟩;refine ih b1 h1 _ J _ (F i).st a w β ?_ ?_ ?_ hr (hround i);·rintro st a w β ⟨i',hw',hlt⟩ hr;obtain⟨β',hr'⟩:=zl (hr.cF hL _) hw';exact⟨μ i',hlt,i',β',rfl,hr'⟩
  ·exact fun st a w β id hj hr=>hE st a w β id hj hr
  ·exact fun st a w β hj hr=>hR st a w β hj hr|exit id=>intro b hb K J Q st a w β hK hE hR h hs;simp only[comp,qr]at hb;subst hb;exact wp_exit (hE _ _ _ _ _ hs h)|ret=>intro b hb K J Q st a w β hK hE hR h hs;simp only[comp,qr]at hb;subst hb;exact wp_ret (hR _ _ _ _ hs h)|scope x ih=>
  intro b hb K J Q st a w β hK hE hR h hs;simp only[comp]at hb;refine wp_scope_straight (ih b hb K J _ st a w β ?_ ?_ ?_ h hs);·exact fun st a w β hj hr=>hK st a w β hj hr
  ·exact fun st a w β id hj hr=>hE st a w β id hj hr
  ·exact fun st a w β hj hr=>hR st a w β hj hr|label l=>intro b hb K J Q st a w β hK _ _ h hs;simp only[comp,qr]at hb;subst hb;exact wp_label (hK _ _ _ _ hs h)|_=>intro b hb;simp[comp]at hb
section
variable{P:Program}{S0 L:Nat→Prop}{B0:Nat→Value}{w0 w:World}{N:Nat}{st:St}{a:Act}{β:Nat→Value}
def Bb (tmps:Array Value):ResultVar→Sem Value|.tmp t=>pure (tmps.getD t undef)|.cell a t=>do loadVar t (←asAddr (tmps.getD a undef))
theorem CU (fn:Func) (tmps:Array Value):results fn tmps=(do
 let vs←fn.results.mapM (Bb tmps)
 pure (if h:vs.size=1 then vs[0] else .tuple vs)):=by
 unfold results;have:(fun(x:ResultVar)=>match x with|.tmp t=>(pure (tmps.getD t undef):Sem Value)|.cell a t=>do loadVar t (←asAddr (tmps.getD a undef)))=Bb tmps:=by funext x;cases x<;>rfl
 rw[←this];rfl
theorem Gi {n:Option Nat}{S:Nat→Prop}{aa:Nat→Option AO}{v:Value}{X:AV}{r:Prop×AV} (hX:RV P S w β D v X) (h:al (.load n) [X] aa=some r):∃ad,v=.pointer (some ad):=by cases hX with|ptr t o b h hb=>exact⟨_,rfl⟩|bd t e i o b n c inf h hi hb=>exact⟨_,rfl⟩|rp ad cs us h1 h2 h3 h4=>exact⟨_,rfl⟩|_=>cases n<;>simp[al]at h
theorem I1 {t:TypeId}{n:Option Nat}{s:Nat}{φ:Prop} (h:Rel P S0 L B0 w0 N st a w β) (ht:nj P t=some n) (hs:al (.load n) [st.vars s] st.aa=some (φ,v)) (hφ:φ):∃r,(Bb a.tmps (.cell s t)).run P w=.ok r w∧RV P (aZ S0 w0.heap.size β st.aa w) w β (aG st.aa) r v:=by
 obtain⟨ad,had⟩:=Gi (h.vars s) hs;let o:Oper:={(default:Oper) with op:=.load t (.tmp s)};have key:∃r,(execOp a.eval o).run P w=.ok (.value r) w∧RV P (aZ S0 w0.heap.size β st.aa w) w β (aG st.aa) r v:=by cases n with|none=>exact Dg (o:=o) rfl ht h.heap (h.ev (.tmp s)) hs hφ|some n=>exact Dd (o:=o) rfl ht h.heap (h.ev (.tmp s)) hs hφ
 obtain⟨r,hr,hv⟩:=key;refine⟨r,?_,hv⟩;have he:a.eval (.tmp s)=.pointer (some ad):=had;have h1:(execOp a.eval o).run P w=((loadVar t ad).run P w).andThen fun r w'=>.ok (.value r) w':=by simp[execOp,o,Instr.loadAt,he,Instr.sureAddr]
 have h2:(Bb a.tmps (.cell s t)).run P w=(loadVar t ad).run P w:=by simp[Bb,had,asAddr]
 rw[h2];rw[h1]at hr;cases hl:(loadVar t ad).run P w with|ok r' w'=>rw[hl]at hr;simp only[Result.andThen,Result.ok.injEq,Next.value.injEq]at hr;rw[hr.1,hr.2]|halt x w'=>rw[hl]at hr;cases hr
theorem rC:∀(l:List ResultVar) (rs:List (Nat×Option (Option Nat))) (C:List AV→Prop),ir P l=some rs→Rel P S0 L B0 w0 N st a w β→cR st rs C→∃us vs,C vs∧us.length=vs.length∧(∀(i:Nat) (v:AV) (u:Value),vs[i]?=some v→us[i]?=some u→RV P (aZ S0 w0.heap.size β st.aa w) w β (aG st.aa) u v)∧(l.mapM (Bb a.tmps)).run P w=.ok us w
 |[],rs,C,hr,h,hC=>by simp only[ir,qr]at hr;subst hr;exact⟨[],[],hC,rfl,fun i v u h=>by simp at h,by simp⟩|.tmp t::l,rs,C,hr,h,hC=>by
  simp only[ir,q0]at hr;obtain⟨rs',hr',rfl⟩:=hr;obtain⟨us,vs,h1,h2,h3,h4⟩:=rC l rs' _ hr' h hC;refine⟨a.tmps.getD t undef::us,st.vars t::vs,h1,by simp[h2],fun i v u hv hu=>?_,?_⟩;·cases i with|zero=>simp only[q69,qr]at hv hu;subst hv hu;exact h.vars t|succ i=>exact h3 i v u (by simpa using hv) (by simpa using hu)
  ·simp[q297,Bb,h4]|.cell s t::l,rs,C,hr,h,hC=>by
  simp only[ir,q63,q0]at hr;obtain⟨n,hn,rs',hr',rfl⟩:=hr;obtain⟨⟨φ,x⟩,hx,hφ,hC⟩:=ae (show ai (al (.load n) [st.vars s] st.aa) _ from hC);obtain⟨us,vs,h1,h2,h3,h4⟩:=rC l rs' _ hr' h hC;obtain⟨r,hrun,hv⟩:=I1 h hn hx hφ;refine⟨r::us,x::vs,h1,by simp[h2],fun i v u hv' hu=>?_,?_⟩;·cases i with|zero=>simp only[q69,qr]at hv' hu;subst hv' hu;exact hv|succ i=>exact h3 i v u (by simpa using hv') (by simpa using hu)
  ·rw[q297];simp[hrun,h4]
theorem iy {fn:Func}{C:List AV→Prop} (hr:ir P fn.results.toList=some rs) (h:Rel P S0 L B0 w0 N st a w β) (hC:cR st rs C):∃v vs,C vs∧(results fn a.tmps).run P w=.ok v w∧RV P (aZ S0 w0.heap.size β st.aa w) w β (aG st.aa) v (bV vs):=by
 obtain⟨us,vs,h1,h2,h3,h4⟩:=rC _ rs C hr h hC;have hrun:(fn.results.mapM (Bb a.tmps)).run P w=.ok us.toArray w:=by rw[q271];simp[h4]
 have hres:(results fn a.tmps).run P w=.ok (if h:us.toArray.size=1 then us.toArray[0] else .tuple us.toArray) w:=by rw[CU];simp[hrun]
 refine⟨_,vs,h1,hres,?_⟩;rcases us with _|⟨u,_|⟨u2,us⟩⟩;·have:vs=[]:=q72 (by simpa using h2.symm);subst this;exact .aO [] [] rfl fun i c u h=>by simp at h
 ·rcases vs with _|⟨v,_|⟨v2,vs⟩⟩;·simp at h2
  ·exact h3 0 v u rfl rfl
  ·simp at h2
 ·rcases vs with _|⟨v,_|⟨v2,vs⟩⟩;·simp at h2
  ·simp at h2
  ·exact .aO (v::v2::vs) (u::u2::us) (by simpa using h2) fun i c u hc hu=>h3 i c u hc hu
end
section
variable{P:Program}{aa:Nat→Option AO}
theorem sM (h:vz P aa x r):(∀cs,r≠.agg cs)∧(∀cs,r≠.aO cs):=by constructor<;>rintro cs rfl<;>(have h:x=_∧iL _=true:=h;simp[iL]at h)
theorem s9:∀{cs rs:List AV},yq P aa cs rs→cs.length=rs.length∧∀(k:Nat) (c:AV),rs[k]?=some c→∃x,cs[k]?=some x∧vz P aa x c
 |[],[],_=>⟨rfl,fun k c h=>by simp at h⟩|x::cs,r::rs,h=>by obtain⟨h1,h2⟩:=s9 h.2;refine⟨by simp[h1],fun k c hk=>?_⟩;cases k with|zero=>simp only[q69,qr]at hk;subst hk;exact⟨x,rfl,h.1⟩|succ k=>exact h2 k c (by simpa using hk)
 |[],_::_,h=>h.elim|_::_,[],h=>h.elim
theorem pJ:∀{cs rs:List AV},AJ P aa cs rs→cs.length=rs.length∧∀(k:Nat) (c:AV),rs[k]?=some c→∃x,cs[k]?=some x∧DK P aa x c
 |[],[],_=>⟨rfl,fun k c h=>by simp at h⟩|x::cs,r::rs,h=>by obtain⟨h1,h2⟩:=pJ h.2;refine⟨by simp[h1],fun k c hk=>?_⟩;cases k with|zero=>simp only[q69,qr]at hk;subst hk;exact⟨x,rfl,h.1⟩|succ k=>exact h2 k c (by simpa using hk)
 |[],_::_,h=>h.elim|_::_,[],h=>h.elim
theorem qz (h:DK P aa v r):(∃cs rs,v=.agg cs∧r=.agg rs∧yq P aa cs rs)∨((∀cs,v≠.agg cs)∧vz P aa v r):=by cases v with
 |agg cs=>cases r with|agg rs=>exact .inl ⟨cs,rs,rfl,rfl,h⟩|_=>exact h.elim
 |_=>exact .inr ⟨fun cs e=>(by cases e),h⟩
theorem vl (h:fz P aa v r):(∃cs rs,v=.aO cs∧r=.aO rs∧cs.length≤1000∧AJ P aa cs rs)∨((∀cs,v≠.aO cs)∧(∀cs,r≠.aO cs)∧DK P aa v r):=by
 have hr:∀{v:AV},(∀cs,v≠.aO cs)→DK P aa v r→∀cs,r≠.aO cs:=by
  intro v hv h cs e;subst e;rcases qz h with⟨cs',rs,_,h2,_⟩|⟨_,h2⟩;·cases h2
  ·exact(sM h2).2 _ rfl
 have hv:(∃cs,v=.aO cs)∨((∀cs,v≠.aO cs)∧fz P aa v r=DK P aa v r):=by cases v<;>first|exact .inl ⟨_,rfl⟩|exact .inr ⟨fun cs e=>(by cases e),rfl⟩
 rcases hv with⟨cs,rfl⟩|⟨h1,h2⟩;·cases r with|aO rs=>exact .inl ⟨cs,rs,rfl,rfl,h⟩|_=>exact h.elim
 ·rw[h2]at h;exact .inr ⟨h1,hr h1 h,h⟩
theorem Bq (h:DK P aa v r) {c:AV} (hc:bM r j=some c):∃x,bM v j=some x∧vz P aa x c:=by
 rcases qz h with⟨cs,rs,rfl,rfl,h⟩|⟨h1,h2⟩;·exact(s9 h).2 j c hc
 ·rw[gw r (sM h2).1]at hc;rw[gw v h1];split at hc;·rename_i hj;simp only[qr]at hc;subst hc;exact⟨v,by simp[hj],h2⟩
  ·cases hc
theorem DY (h:fz P aa v r) {p:Nat}{c:AV} (hc:cellAt r p=some c):∃x,cellAt v p=some x∧vz P aa x c:=by
 rcases vl h with⟨cs,rs,rfl,rfl,hl,h⟩|⟨h1,h2,h3⟩;·obtain⟨y,hy,hc⟩:=q63.1 (show(rs[p%1000]?).bind _=some c from hc);obtain⟨x,hx,hf⟩:=(pJ h).2 _ y hy;obtain⟨z,hz,hf⟩:=Bq hf hc;exact⟨z,by simp[cellAt,hx,hz],hf⟩
 ·rw[eR r h2]at hc;rw[eR v h1];split at hc;·rename_i hp;rw[if_pos hp];exact Bq h3 hc
  ·cases hc
theorem Dh {g:Nat→AV→AV} (h:DK P aa v r) (hg:∀j c x,bM r j=some c→bM v j=some x→vz P aa x c→g (1000*j) c=x):v=nt g r:=by
 rcases qz h with⟨cs,rs,rfl,rfl,h⟩|⟨h1,h2⟩;·obtain⟨hl,hk⟩:=s9 h;refine congrArg AV.agg (q211 fun k=>?_);rw[m8,q133];cases hr:rs[k]? with|none=>rw[q196]at hr;rw[q132 (by omega)];rfl|some c=>obtain⟨x,hx,hf⟩:=hk k c hr;rw[hx];simp only[q116,qr];exact(hg k c x hr hx hf).symm
 ·have hm:nt g r=g 0 r:=by have:=(sM h2).1;cases r<;>first|rfl|exact absurd rfl (this _)
  rw[hm];refine(hg 0 r v ?_ ?_ h2).symm;·rw[gw r (sM h2).1];rfl
  ·rw[gw v h1];rfl
theorem QC {g:Nat→AV→AV} (h:fz P aa v r) (hg:∀p c x,cellAt r p=some c→cellAt v p=some x→vz P aa x c→g p c=x):v=cS g r:=by
 rcases vl h with⟨cs,rs,rfl,rfl,hl,h⟩|⟨h1,h2,h3⟩;·obtain⟨hl',hk⟩:=pJ h;refine congrArg AV.aO (q211 fun k=>?_);rw[mV,q133];cases hr:rs[k]? with|none=>rw[q196]at hr;rw[q132 (by omega)];rfl|some c=>
  obtain⟨x,hx,hf⟩:=hk k c hr;rw[hx];simp only[q116,qr];have hk1:k<1000:=by have:=(q65.1 hx).1;omega
  refine Dh hf fun j c' x' h1 h2 h3=>hg _ c' x' ?_ ?_ h3
  ·show(rs[(1000*j+k)%1000]?).bind _=_;have e1:(1000*j+k)%1000=k:=by omega
   have e2:(1000*j+k)/1000=j:=by omega
   rw[e1,e2,hr];exact h1
  ·show(cs[(1000*j+k)%1000]?).bind _=_;have e1:(1000*j+k)%1000=k:=by omega
   have e2:(1000*j+k)/1000=j:=by omega
   rw[e1,e2,hx];exact h2
 ·have hm:cS g r=nt g r:=by cases r<;>first|rfl|exact absurd rfl (h2 _)
  rw[hm];refine Dh h3 fun j c x a1 a2 a3=>?_;refine hg _ c x ?_ ?_ a3;·rw[eR r h2];simp[a1]
  ·rw[eR v h1];simp[a2]
def ry (t:Nat) (c:AV):Prop:=c=.own t∨∃e lo hi,c=.sub t e lo hi
theorem zZ:∀{cs:List AV}{n j t:Nat}{c:AV},cs[j]?=some c→ry t c→(1000*(n+j),t)∈qc n cs|[],n,j,t,c,h,_=>by simp at h|x::cs,n,j,t,c,h,hc=>by cases j with|zero=>simp only[q69,qr]at h;subst h;rcases hc with rfl|⟨e,lo,hi,rfl⟩<;>exact q121|succ j=>
 have:=zZ (n:=n+1) (j:=j) (cs:=cs) (t:=t) (by simpa using h) hc;have e:n+1+j=n+(j+1):=by omega
 rw[e]at this;cases x<;>first|exact q103 _ this|exact this
theorem D9 {v c:AV}{j t:Nat} (h:bM v j=some c) (hc:ry t c):(1000*j,t)∈PZ v:=by cases v with
 |agg cs=>have:=zZ (n:=0) (j:=j) (cs:=cs) (t:=t) h hc;rw[q133]at this;exact this|own s=>
  simp only[bM]at h;split at h
  ·rename_i hj;simp only[qr]at h;subst hj h;rcases hc with h|⟨e,lo,hi,h⟩;·cases h;exact q121
   ·cases h
  ·cases h|sub s e lo hi=>
  simp only[bM]at h;split at h
  ·rename_i hj;simp only[qr]at h;subst hj h;rcases hc with h|⟨e,lo,hi,h⟩;·cases h
   ·cases h;exact q121
  ·cases h|_=>
  simp only[bM]at h;split at h;·simp only[qr]at h;subst h;rcases hc with h|⟨e,lo,hi,h⟩<;>cases h
  ·cases h
theorem A9:∀{vs:List AV}{n i j t:Nat}{c:AV},(vs[i]?).bind (fun v=>bM v j)=some c→ry t c→(1000*j+(n+i),t)∈Cp n vs|[],n,i,j,t,c,h,_=>by simp at h|v::vs,n,i,j,t,c,h,hc=>by cases i with|zero=>simp only[q69,q130]at h;exact q108 _ (q84.2 ⟨_,D9 h hc,rfl⟩)|succ i=>
 have:=A9 (n:=n+1) (i:=i) (j:=j) (vs:=vs) (t:=t) (by simpa using h) hc;have e:n+1+i=n+(i+1):=by omega
 rw[e]at this;exact q180 _ this
theorem yl {v c:AV}{p t:Nat} (h:cellAt v p=some c) (hc:ry t c):(p,t)∈pl v:=by
 have hne:(∀cs,v≠.aO cs)→(p,t)∈pl v:=by
  intro hv;rw[eR v hv]at h;split at h
  ·have:=D9 h hc;have e:1000*(p/1000)=p:=by omega
   rw[e]at this;cases v<;>first|exact this|exact absurd rfl (hv _)
  ·cases h
 cases v with|aO vs=>
  have:=A9 (n:=0) (i:=p%1000) (j:=p/1000) (vs:=vs) (t:=t) h hc;have e:1000*(p/1000)+(0+p%1000)=p:=by omega
  rw[e]at this;exact this|_=>exact hne fun cs e=>by cases e
theorem wU:∀{l:List (Nat×Nat)},kN l→∀{p q t:Nat},(p,t)∈l→(q,t)∈l→p=q
 |[],_,p,q,t,h1,_=>by cases h1|x::l,h,p,q,t,h1,h2=>by
  rcases q76.1 h1 with e1|h1<;>rcases q76.1 h2 with e2|h2;·have:=e1.trans e2.symm;simpa using this
  ·exact absurd (by rw[←e1]) (h.1 _ h2)
  ·exact absurd (by rw[←e2]) (h.1 _ h1)
  ·exact wU h.2 h1 h2
end
def nP (i:Nat):List AV→List (Nat×AV)|[]=>[]|v::vs=>(i,v)::nP (i+1) vs
theorem rl:∀(vs:List AV) (i s:Nat),look (nP i vs) s=if i≤s then(vs[s-i]?).getD .aw else .aw
 |[],i,s=>by simp[nP,look]|v::vs,i,s=>by
  simp only[nP,look,rl vs (i+1) s];by_cases h:s=i;·subst h;simp
  ·rw[if_neg h];by_cases h1:i≤s
   ·have h2:i+1≤s:=by omega
    have h3:s-i=(s-(i+1))+1:=by omega
    rw[if_pos h1,if_pos h2,h3];rfl
   ·rw[if_neg h1,if_neg (by omega)]
theorem Az {P:Program}{S:Nat→Prop}{w:World}{β:Nat→Value}{v:Value}{X c:AV} (h:RV P S w β D v X) (hc:bM X j=some c):∃u,RV P S w β D u c:=by cases X with
 |agg cs=>
  obtain⟨us,rfl,hl,hcs⟩:=h.da;have hc:cs[j]?=some c:=hc;have hlt:j<us.length:=by rw[hl];exact(q65.1 hc).1
  exact⟨_,hcs j c _ hc (q64 hlt)⟩|_=>
  simp only[bM]at hc;split at hc;·simp only[qr]at hc;subst hc;exact⟨v,h⟩
  ·cases hc
theorem Jz {P:Program}{S:Nat→Prop}{w:World}{β:Nat→Value}{v:Value}{X c:AV}{q:Nat} (h:RV P S w β D v X) (hc:cellAt X q=some c):∃u,RV P S w β D u c:=by
 by_cases hx:∃vs,X=.aO vs
 ·obtain⟨vs,rfl⟩:=hx;obtain⟨us,rfl,hl,hcs⟩:=h.jC;obtain⟨y,hy,hc⟩:=q63.1 (show(vs[q%1000]?).bind _=some c from hc);have hlt:q%1000<us.length:=by rw[hl];exact(q65.1 hy).1
  exact Az (hcs _ y _ hy (q64 hlt)) hc
 ·rw[eR X (fun vs e=>hx ⟨vs,e⟩)]at hc;split at hc;·exact Az h hc
  ·cases hc
theorem vk {aa:Nat→Option AO}{l:List (Nat×Nat)}:∀{hout:List (Nat×AO)},mm aa l hout→∀t o,ab hout t=some o→aa t=some o∧∀y∈l,y.2≠t
 |[],_,t,o,h=>by cases h|(s,o')::hout,hb,t,o,h=>by
  simp only[ab]at h;split at h;·rename_i e;subst e;cases h;exact⟨hb.1,hb.2.1⟩
  ·exact vk hb.2.2 t o h
theorem AL {P:Program}{Γ:bX} (hΓ:eb P Γ) {cw:List Nat}{F:AFn}{hin hout:List (Nat×AO)} (hm:Ue P=true) (hc:ym P f cw=some F) (hlen:args.length≤F.n) (hback:∀t o,ab hout t=some o→t%1000=999∧aG (ab hin) t∧dC (cellAt r t)=none∧∃e rows,o=.arr e rows) (hs:iC P Γ F.body (nv P F.res r hout) (zX (nv P F.res r hout)) ⟨look (nP 0 args),ab hin⟩) (w:World) (S0:Nat→Prop) (β:Nat→Value) (vals:List Value) (hS0:∀b,S0 b→b<w.heap.size) (hheap:Heap P (aZ S0 w.heap.size β (ab hin) w) w β (ab hin)) (hvl:vals.length=args.length) (hvr:∀(i:Nat) (v:Value) (x:AV),vals[i]?=some v→args[i]?=some x→RV P (aZ S0 w.heap.size β (ab hin) w) w β (aG (ab hin)) v x):Calls P f vals.toArray w fun e w'=>∃v β',e=.returned v∧AM (live β (ab hin)) w w'∧Heap P (aZ (fun b=>S0 b∨live β (ab hin) b) w.heap.size β' (bC (ab hout) fun t=>dC (cellAt r t)) w') w' β' (bC (ab hout) fun t=>dC (cellAt r t))∧(∀t b,aG (bC (ab hout) fun t=>dC (cellAt r t)) t→cr (β' t)=some b→w.heap.size≤b∨live β (ab hin) b)∧(∀t,aG (ab hout) t→aG (ab hin) t∧β' t=β t)∧RV P (aZ (fun b=>S0 b∨live β (ab hin) b) w.heap.size β' (bC (ab hout) fun t=>dC (cellAt r t)) w') w' β' (aG (bC (ab hout) fun t=>dC (cellAt r t))) v (cS G9 r):=by
 unfold ym at hc;split at hc
 ·rename_i fn hfn;split at hc
  ·rename_i c rs hb hrs;obtain⟨b,hcomp,hc⟩:=q63.1 hc;split at hc;case isFalse=>cases hc
   rename_i hN;simp only[qr]at hc;subst hc;simp only at hs hlen;refine calls_of_wp hfn hb ?_;let S1:Nat→Prop:=fun b=>S0 b∨live β (ab hin) b;have hS1:∀b,aZ S0 w.heap.size β (ab hin) w b→aZ S1 w.heap.size β (ab hin) w b∧w.heap[b]?=w.heap[b]?:=fun b ⟨h1,h2,h3⟩=>⟨⟨h1.imp .inl id,h2,h3⟩,rfl⟩;have hfram:AM (live β (ab hin)) w w:=⟨rfl,rfl,rfl,q93 _,fun _ _ _=>rfl⟩;have hrel:Rel P S1 (live β (ab hin)) β w fn.ntmps ⟨look (nP 0 args),ab hin⟩ {tmps:=vals.toArray++Array.replicate (fn.ntmps-vals.toArray.size) undef,defers:=[]} w β:=by
    refine⟨by simp;omega,rfl,fun s=>?_,⟨fun t o ho=>(hheap.holds t o ho).mono hS1 (fun s hs=>⟨hs,rfl⟩) rfl (fun b _=>rfl),hheap.inj⟩,fun t b ht hb=>.inr ?_,⟨hN,MB hm⟩,fun t _ _=>rfl,hfram⟩;·show RV P _ w β _ _ (look (nP 0 args) s);rw[rl];simp only[q126,if_true,q277];cases ha:args[s]? with|none=>exact .aw _|some x=>
     have hs1:=(q65.1 ha).1;have hs2:s<vals.length:=by omega
     have hv:vals[s]?=some vals[s]:=q64 hs2;have hget:(vals.toArray++Array.replicate (fn.ntmps-vals.toArray.size) undef).getD s undef=vals[s]:=by rw[q128,q266 (by simpa using hs2)];simp[hs2]
     rw[hget];exact(hvr s _ x hv ha).mono hS1 fun s hs=>⟨hs,rfl⟩
    ·obtain⟨o,ho⟩:=ht;exact⟨t,o,ho,hb⟩
   have fin:∀st a w' β',nv P rs r hout st→Rel P S1 (live β (ab hin)) β w fn.ntmps st a w' β'→a.defers=[]∧∃v,(results fn a.tmps).run P w'=.ok v w'∧∃v0 β'',Ending.returned v=.returned v0∧AM (live β (ab hin)) w w'∧Heap P (aZ S1 w.heap.size β'' (bC (ab hout) fun t=>dC (cellAt r t)) w') w' β'' (bC (ab hout) fun t=>dC (cellAt r t))∧(∀t b,aG (bC (ab hout) fun t=>dC (cellAt r t)) t→cr (β'' t)=some b→w.heap.size≤b∨live β (ab hin) b)∧(∀t,aG (ab hout) t→aG (ab hin) t∧β'' t=β t)∧RV P (aZ S1 w.heap.size β'' (bC (ab hout) fun t=>dC (cellAt r t)) w') w' β'' (aG (bC (ab hout) fun t=>dC (cellAt r t))) v0 (cS G9 r):=by
    intro st0 a w' β' hF0 hR0;obtain⟨_,vs0,hF,_,_⟩:=iy hrs hR0 hF0;have hR:=hR0.cF (fun b hb=>.inr hb) (nk (bV vs0) r);change oI P rs r hout (cF _ st0) at hF;generalize cF (nk (bV vs0) r) st0=st at hF hR;obtain⟨v,vs,⟨hfz,hap,hbk⟩,hrun,hv⟩:=iy hrs hR hF;refine⟨hR.defers,v,hrun,v,?_⟩;generalize bV vs=X at hfz hap hv hbk;have hbg:=vk hbk;let F:Nat→Option AO:=bC (ab hout) fun t=>dC (cellAt r t);let β2:Nat→Value:=fun q=>match ab hout q with|some _=>β' q|none=>match cellAt X q with|some (.own t)=>β' t|some (.sub t _ _ hi)=>(match β' t with|.slice A _ c=>.slice A hi c|v=>v)|_=>.slice none 0 0;have hFq:∀q o,F q=some o→ab hout q=some o∨(ab hout q=none∧dC (cellAt r q)=some o):=by intro q o ho;simp only[F,bC]at ho;cases hl:ab hout q with|some o'=>rw[hl]at ho;exact .inl ho|none=>rw[hl]at ho;exact .inr ⟨rfl,ho⟩
    have hβb:∀q o,ab hout q=some o→β2 q=β' q:=fun q o h=>by simp only[β2,h]
    have hfr:∀q o,ab hout q=none→dC (cellAt r q)=some o→∃e rows,cellAt r q=some (.fr e rows)∧o=.arr e rows∧((∃t c,cellAt X q=some c∧ry t c∧(∃rs,st.aa t=some (.arr e rs))∧cr (β2 q)=cr (β' t)∧bz P (aZ S1 w.heap.size β' st.aa w') w' β2 (aG st.aa) q (.arr e rows)∧(∀u,RV P (aZ S1 w.heap.size β' st.aa w') w' β' (aG st.aa) u c→u=β2 q))∨(cellAt X q=some (.pv .nil)∧rows=[]∧(P.info? e).isSome=true∧β2 q=.slice none 0 0)):=by
     intro q o hno ho;unfold dC at ho;split at ho
     ·rename_i e rows hcell;simp only[qr]at ho;refine⟨e,rows,hcell,ho.symm,?_⟩;obtain⟨x,hx,hf⟩:=DY hfz hcell;rcases hf with⟨t,rfl,ht⟩|⟨rfl,h1,h2⟩|⟨t,hi,rs',rfl,ht,hrr⟩
      ·have hβ2:β2 q=β' t:=by simp only[β2,hno,hx]
       refine .inl ⟨t,_,hx,.inl rfl,⟨_,ht⟩,by rw[hβ2],?_,fun u hu=>by rw[hβ2];exact hu.aX.1⟩;obtain⟨inf,us,hi,how,hrl,hcl⟩:=hR.heap.holds t _ ht;exact⟨inf,us,hi,by rw[hβ2];exact how,hrl,hcl⟩
      ·exact .inr ⟨hx,h1,h2,by simp only[β2,hno,hx]⟩
      ·obtain⟨inf,us,hinf,how,hrl,hcl⟩:=hR.heap.holds t _ ht;obtain⟨A,c,hbt,hcc⟩:=cC how;have hβ2:β2 q=.slice A hi c:=by simp only[β2,hno,hx,hbt]
       have hsub:∀u,RV P (aZ S1 w.heap.size β' st.aa w') w' β' (aG st.aa) u (.sub t e 0 hi)→u=β2 q∧hi≤rs'.length:=by
        intro u hu;obtain⟨inf1,Ad,Ad1,n,c1,hdt,hi1,hb1,g1,g2,g3,g4,g5,hux⟩:=hu.gE;rw[hbt]at hb1;have h3:A=Ad∧rs'.length=n∧c=c1:=by simpa using hb1
        obtain⟨rfl,rfl,rfl⟩:=h3;rw[hβ2,hux,g4 rfl];exact⟨by simp,g2⟩
       obtain⟨u0,hu0⟩:=Jz hv hx;have hle:=(hsub u0 hu0).2;have hlen:(rs'.take hi).length=hi:=by rw[q67];omega
       refine .inl ⟨t,_,hx,.inr ⟨_,_,_,rfl⟩,⟨_,ht⟩,by rw[hβ2,hbt];cases A<;>rfl,?_,fun u hu=>(hsub u hu).1⟩;rw[hrr];refine⟨inf,us.take (hi*inf.size),hinf,?_,fun r hr=>hrl r (q107 hr),fun i j r p hr hp=>?_⟩;·rw[hlen,hβ2];exact kT how hle hbt
       ·have hi2:i<hi:=by rw[←hlen];exact(q65.1 hr).1
        rw[q81,if_pos hi2]at hr;obtain⟨u,hu,h1,h2⟩:=hcl i j r p hr hp;have hj:j<inf.size:=by rw[←hrl r (List.mem_of_getElem? hr)];exact(q65.1 hp).1
        have hlt:i*inf.size+j<hi*inf.size:=by have:=q86 inf.size (show i+1≤hi from hi2);rw[q118]at this;omega
        exact⟨u,by rw[q81,if_pos hlt];exact hu,h1,h2⟩
     ·cases ho
    have hlive:∀q b,aG F q→cr (β2 q)=some b→∃t,aG st.aa t∧cr (β' t)=some b∧((ab hout q≠none∧t=q)∨(ab hout q=none∧∃c,cellAt X q=some c∧ry t c)):=by
     rintro q b ⟨o,ho⟩ hb;rcases hFq q o ho with h1|⟨h0,h1⟩;·rw[hβb q o h1]at hb;exact⟨q,⟨o,(hbg q o h1).1⟩,hb,.inl ⟨by rw[h1];simp,rfl⟩⟩
     ·obtain⟨e,rows,_,_,h|h⟩:=hfr q o h0 h1;·obtain⟨t,c,h2,h3,⟨rs',h4⟩,h5,_⟩:=h;exact⟨t,⟨_,h4⟩,by rw[←h5];exact hb,.inr ⟨h0,c,h2,h3⟩⟩
      ·rw[h.2.2.2]at hb;simp[cr]at hb
    have hS:∀b,aZ S1 w.heap.size β' st.aa w' b→aZ S1 w.heap.size β2 F w' b:=by rintro b ⟨h1,h2,h3⟩;refine⟨h1,h2,?_⟩;rintro⟨q,o,ho,hb⟩;obtain⟨t,⟨o',ho'⟩,hb',_⟩:=hlive q b ⟨o,ho⟩ hb;exact h3 ⟨t,o',ho',hb'⟩
    have hS':∀b,aZ S1 w.heap.size β' st.aa w' b→aZ S1 w.heap.size β2 F w' b∧w'.heap[b]?=w'.heap[b]?:=fun b hb=>⟨hS b hb,rfl⟩;have hcore:∀q t e rows,bz P (aZ S1 w.heap.size β' st.aa w') w' t (aG st.aa) q (.arr e rows)→t q=β2 q→bz P (aZ S1 w.heap.size β2 F w') w' β2 (aG F) q (.arr e rows):=by rintro q t e rows ⟨inf,us,hi,how,hrl,hcl⟩ ht;refine⟨inf,us,hi,by rw[←ht];exact how,hrl,fun i j r p h1 h2=>?_⟩;obtain⟨u,hu,hone,hp⟩:=hcl i j r p h1 h2;exact⟨u,hu,hone,hp.mono hS'⟩
    refine⟨β2,rfl,hR.bZ,⟨fun q o ho=>?_,fun q q' b hq hq' hb hb'=>?_⟩,fun q b hq hb=>?_,fun q ⟨o,ho⟩=>?_,?_⟩
    ·rcases hFq q o ho with h1|⟨h0,h1⟩;·have hho:=hR.heap.holds q o (hbg q o h1).1;cases o with|arr e rows=>exact hcore q β' e rows hho (hβb q _ h1).symm|box cs=>obtain⟨_,_,_,e,rows,he⟩:=hback q _ h1;cases he|map es=>obtain⟨_,_,_,e,rows,he⟩:=hback q _ h1;cases he|rws e cs=>obtain⟨_,_,_,e,rows,he⟩:=hback q _ h1;cases he|iB es=>obtain⟨_,_,_,e,rows,he⟩:=hback q _ h1;cases he|nS rem cur=>obtain⟨_,_,_,e,rows,he⟩:=hback q _ h1;cases he
     ·obtain⟨e,rows,_,rfl,h|h⟩:=hfr q o h0 h1;·obtain⟨t,c,_,_,_,_,h6,_⟩:=h;exact hcore q β2 e rows h6 rfl
      ·obtain⟨_,rfl,hi,h3⟩:=h;obtain⟨inf,hi⟩:=q129.1 hi;exact⟨inf,[],hi,by rw[h3];exact q188 w' 0 e inf.size,fun r hr=>by simp at hr,fun i j r p hr=>by simp at hr⟩
    ·obtain⟨t,h2,h3,h4⟩:=hlive q b hq hb;obtain⟨t',h2',h3',h4'⟩:=hlive q' b hq' hb';have:t=t':=hR.heap.inj t t' b h2 h2' h3 h3';subst this;rcases h4 with⟨h5,rfl⟩|⟨h5,c,h6,h7⟩<;>rcases h4' with⟨h5',rfl⟩|⟨h5',c',h6',h7'⟩;·rfl
     ·cases hl:ab hout t with|none=>exact absurd hl h5|some o=>exact absurd rfl ((hbg t o hl).2 _ (yl h6' h7'))
     ·cases hl:ab hout t with|none=>exact absurd hl h5'|some o=>exact absurd rfl ((hbg t o hl).2 _ (yl h6 h7))
     ·exact wU hap (yl h6 h7) (yl h6' h7')
    ·obtain⟨t,h2,h3,_⟩:=hlive q b hq hb;exact hR.old t b h2 h3
    ·obtain⟨h9,hd,_,_⟩:=hback q o ho;exact⟨hd,(hβb q o ho).trans (hR.vw q h9 ⟨o,(hbg q o ho).1⟩)⟩
    ·have hX:X=cS (fun p c=>match c with|.fr _ _=>(cellAt X p).getD .aw|c=>c) r:=by refine QC hfz fun p c x hc hx hf=>?_;cases c with|fr e rows=>simp[hx]|_=>exact hf.1.symm
     have htup:oW r=true:=by
      rcases vl hfz with⟨cs,rs,_,rfl,hl,h⟩|⟨_,h2,_⟩;·simp only[oW,decide_eq_true_eq];rw[←(pJ h).1];exact hl
      ·cases r<;>first|rfl|exact absurd rfl (h2 _)
     rw[hX]at hv;refine kF htup ?_ hv;intro p c u hc hu;obtain⟨x,hx,hf⟩:=DY hfz hc;cases c with
     |fr e rows=>
      simp only[hx,q98]at hu;have hfp:dC (cellAt r p)=some (.arr e rows):=by simp[hc,dC]
      have hno:ab hout p=none:=by cases hl:ab hout p with|none=>rfl|some o=>rw[(hback p o hl).2.2.1]at hfp;cases hfp
      have hdom:aG F p:=⟨.arr e rows,by simp only[F,bC,hno];exact hfp⟩;have hgoal:u=β2 p:=by
       obtain⟨_,_,_,_,h|h⟩:=hfr p _ hno hfp;·obtain⟨t,c,h2,_,_,_,_,h7⟩:=h;rw[hx]at h2;injection h2 with h2;subst h2;exact h7 u hu
       ·obtain⟨h1,_,_,h3⟩:=h;rw[hx]at h1;injection h1 with h1;subst h1;rw[h3];exact hu.eB
      show RV P _ w' β2 _ u (.own p);rw[hgoal];exact .own p hdom|pv q=>cases hu with|pv v p h=>exact .pv _ _ (h.mono hS')
     |rp cs=>obtain⟨ad,us,rfl,h1,h2,h3,h4⟩:=RV.jn hu;exact .rp ad cs us (hS _ h1) h2 h3 (fun j p hp=>(h4 j p hp).mono hS')|_=>exact absurd hf.2 (by simp[iL])
   refine tY hΓ (S0:=S1) (L:=live β (ab hin)) (fun b hb=>.inr hb) (w0:=w) (MW hm) cw c b hcomp (nv P rs r hout) (zX (nv P rs r hout)) _ _ _ w β ?_ ?_ ?_ hrel hs;·intro st a w' β' hF hR;exact fin st a w' β' hF hR
   ·intro st a w' β' id hj;exact hj.elim
   ·intro st a w' β' hF hR;exact fin st a w' β' hF hR
  ·cases hc
 ·cases hc
theorem EY (P:Program) (rs:List (Nat×Option (Option Nat))) (r:AV):nv P rs r []=Ends P rs r:=by funext st;simp[nv,oI,Ends,xJ,mm]
theorem ak {P:Program}{Γ:bX} (hΓ:eb P Γ) {b:AC} (hm:Ue P=true) (hc:aFn P f=some ⟨n,k,rs,b⟩) (hlen:args.length≤n) (hs:iC P Γ b (Ends P rs r) (zX (Ends P rs r)) ⟨look (nP 0 args),ab []⟩):sO P f [] args [] r:=by
 intro w S0 β vals hS0 hlt hheap hvl hvr;have hlv:(fun b=>S0 b∨live β (ab []) b)=S0:=by
  funext b;apply propext;constructor
  ·rintro(h|⟨t,o,ho,_⟩);·exact h
   ·cases ho
  ·exact .inl
 rw[←EY]at hs;have:=AL hΓ (hin:=[]) (hout:=[]) hm hc hlen (fun t o h=>by cases h) hs w S0 β vals hS0 hheap hvl hvr;rw[hlv]at this;refine this.mono ?_;rintro e w' ⟨v,β',h1,h2,h3,h4,_,h5⟩;exact⟨v,β',h1,h2,h3,h4,h5⟩
theorem na {P:Program}{Γ:bX} (hΓ:eb P Γ) {b:AC} (hm:Ue P=true) (hc:aFn P f=some ⟨n,k,rs,b⟩) (hlen:ys.length≤n) (hres:cY (b9 x)=true) (hb:∀t o,ab (ep x) t=some o→aG (ab (mO ys)) t) (hs:iC P Γ b (nv P rs (b9 x) (ep x)) (zX (nv P rs (b9 x) (ep x))) ⟨look (nP 0 (ys.map Hk)),ab (mO ys)⟩):Cz P f ys x:=by
 intro w S0 β vals hS0 hlt hheap hvl hvr;refine AL hΓ (hin:=mO ys) (hout:=ep x) hm hc (by simpa using hlen) (fun t o h=>?_) hs w S0 β vals hS0 hheap (by simpa using hvl) hvr;have h9:t=999∧∃e rows,o=.arr e rows:=by
  unfold ep at h;split at h
  ·simp only[ab]at h;split at h;·rename_i e;cases h;exact⟨e,_,_,rfl⟩
   ·cases h
  ·cases h
 obtain⟨rfl,he⟩:=h9;exact⟨rfl,hb _ o h,qA hres,he⟩
def Oj:List AV→List Nat×List Nat→Option (List AV×List (Nat×AO)×List Nat×List Nat)|[],s=>some ([],[],s)|y::ys,s=>(num 5 (I7 y) (Kp y) s).bind fun r=>(Oj ys r.2.2).map fun q=>(r.1::q.1,r.2.1++q.2.1,q.2.2)
def Ys:List Nat×List Nat:=([999,1999,2999,3999,4999,5999],[998,1998,2998,3998,4998,5998,6998,7998,8998,9998,10998,11998])
def C2:AV→Bool|.own _|.ptr _ 0|.pv _|.rp _|.bE _ []=>true|_=>false
def tA:AV→Bool|.agg cs=>cs.all C2|x=>C2 x
def qj (P:Program) (rs:List (Nat×Option (Option Nat))) (L:List AV) (x:AV) (st:St):Prop:=cR st rs fun vs=>mt P st.aa 6 (bV vs) (kS x)∧vy (mt P st.aa 5) L (lO x)∧(L.flatMap (tg st.aa 5)++tg st.aa 6 (bV vs)).Nodup
def sf (P:Program) (rs:List (Nat×Option (Option Nat))) (L:List AV) (x:AV) (st:St):Prop:=cR st rs fun vs=>qj P rs L x (cF (nk (bV vs) (kS x)) st)
section
variable{P:Program}{S S':Nat→Prop}{w w':World}{β β':Nat→Value}{aa:Nat→Option AO}
theorem Dt (hS:∀b,S b→S' b):∀(ys:List AV) (s:List Nat×List Nat) (q:List AV×List (Nat×AO)×List Nat×List Nat),Oj ys s=some q→(q.2.1.map (·.1)++(q.2.2.1++q.2.2.2)).Perm (s.1++s.2)∧q.1.length=ys.length∧∀(vs:List Value) (bss:List (List Nat)),FU P S w vs (ys.map Kp) bss→bss.flatten.Nodup→(s.1++s.2).Nodup→lS P S' w q.2.1 bss.flatten fun β D=>∀(i:Nat) (c:AV) (u:Value),q.1[i]?=some c→vs[i]?=some u→RV P S' w β D u c
 |[],s,q,h=>by cases h;exact⟨.refl _,rfl,fun vs bss _ _ _=>lS.none _ fun β D i c u hc=>by simp at hc⟩|y::ys,s,q,h=>by
  obtain⟨r,hr,h⟩:=q63.1 h;obtain⟨q',hq,rfl⟩:=q0.1 h;obtain⟨p1,l1⟩:=qQ (P:=P) (S:=S) (S':=S') (w:=w) hS 5 (I7 y) (Kp y) s r hr;obtain⟨p2,n2,l2⟩:=Dt hS ys r.2.2 q' hq;have hp:((r.2.1++q'.2.1).map (·.1)++(q'.2.2.1++q'.2.2.2)).Perm (s.1++s.2):=by rw[q148,q96];exact(p2.append_left _).trans p1
  refine⟨hp,by simp[n2],fun vs bss ⟨hl1,hl2,hg⟩ hnd hs=>?_⟩;match vs,bss,hl1,hl2 with
  |v::vs,bs::bss,hl1,hl2=>
   rw[q267,q172]at hnd;have hs1:=p1.nodup_iff.2 hs;rw[q172]at hs1;have hs2:(r.2.2.1++r.2.2.2).Nodup:=hs1.2.1;have k1:=l1 v bs (hg 0 _ v bs rfl rfl rfl) hnd.1 hs;have k2:=l2 vs bss ⟨by simpa using hl1,by simpa using hl2,fun i y v bs h1 h2 h3=>hg (i+1) y v bs (by simpa using h1) (by simpa using h2) (by simpa using h3)⟩ hnd.2.1 hs2;refine(k1.append k2 (fun b hb hb'=>hnd.2.2 b hb b hb' rfl) fun p hp q hq e=>?_).imp (fun b hb=>by simpa using hb) fun β D ⟨a1,a2⟩ i c u hc hu=>?_;·have:q.1∈r.2.2.1++r.2.2.2:=p2.mem_iff.1 (q108 _ (q138 hq));exact hs1.2.2 _ (q138 hp) _ this e
   ·cases i with|zero=>simp only[q69,qr]at hc hu;rw[←hc,←hu];exact a1|succ i=>exact a2 i c u (by simpa using hc) (by simpa using hu)
theorem nY (hinj:∀t t' b,aG aa t→aG aa t'→cr (β t)=some b→cr (β t')=some b→t=t'):∀l:List Nat,l.Nodup→(∀t∈l,aG aa t)→(dz β l).Nodup
 |[],_,_=>q298|t::l,hn,hd=>by
  rw[q173]at hn;have e:dz β (t::l)=(cr (β t)).toList++dz β l:=by rw[←kq];exact fA β [t] l
  rw[e];cases hb:cr (β t) with|none=>exact nY hinj l hn.2 fun t ht=>hd t (q103 _ ht)|some b=>show(b::dz β l).Nodup;rw[q173];refine⟨fun hm=>?_,nY hinj l hn.2 fun t ht=>hd t (q103 _ ht)⟩;obtain⟨s,hs,hb'⟩:=q160.1 hm;exact hn.1 (hinj t s b (hd t q121) (hd s (q103 _ hs)) hb hb'▸hs)
theorem yA:∀(n:Nat) {x y:AV},mt P aa n x y→∀t∈tg aa n x,aG aa t
 |0,_,_,h=>h.elim|n+1,x,y,h=>by
  have lst:∀{l cs:List AV},vy (mt P aa n) l cs→∀t∈l.flatMap (tg aa n),aG aa t:=by intro l;induction l with|nil=>intro cs _ t ht;simp at ht|cons c l ih=>intro cs hm t ht;cases cs with|nil=>exact hm.elim|cons y cs=>
   rw[q106]at ht;rcases q80.1 ht with ht|ht;·exact yA n hm.1 t ht
   ·exact ih hm.2 t ht
  unfold mt at h;intro s hs;split at h
  ·rcases h with⟨t,rfl,ht⟩|⟨rfl,_,_⟩|⟨t,hi,rs,rfl,ht,_⟩;·simp only[tg,q75]at hs;rw[hs];exact⟨_,ht⟩
   ·simp[tg]at hs
   ·simp only[tg,q75]at hs;rw[hs];exact⟨_,ht⟩
  ·obtain⟨t,rfl,ht⟩:=h;simp only[tg,q75]at hs;rw[hs];exact⟨_,ht⟩
  ·obtain⟨t,l,rfl,ht,hm⟩:=h;have e1:tg aa (n+1) (.ptr t 0)=t::l.flatMap (tg aa n):=by show t::((eY (aa t)).getD []).flatMap (tg aa n)=_;rw[ht];rfl
   rw[e1]at hs;rcases q76.1 hs with rfl|hs;·exact⟨_,ht⟩
   ·exact lst hm s hs
  ·obtain⟨l,rfl,hm⟩:=h;exact lst hm s hs
  ·obtain⟨l,rfl,hm⟩:=h;exact lst hm s hs
  ·subst h;simp[tg]at hs
  ·subst h;simp[tg]at hs
  ·obtain⟨rfl,_⟩:=h;simp[tg]at hs
  ·exact h.elim
theorem zL {v:Value} (hk:C2 x=true) (h:RV P S w β D v x):RV P S w β (·∈sG x) v x:=by cases h with
 |pv v p h=>exact .pv v p h|own t h=>exact .own t (by simp[sG])|ptr t o b h hb=>cases o with|zero=>exact .ptr t 0 b (by simp[sG]) hb|succ o=>simp[C2]at hk
 |rp ad cs us h1 h2 h3 h4=>exact .rp ad cs us h1 h2 h3 h4|bE f cs us hl h=>cases cs with|nil=>exact .bE f [] us hl fun i c u hc=>by simp at hc|cons c cs=>simp[C2]at hk
 |_=>simp[C2]at hk
theorem ET {v:Value} (hk:tA x=true) (h:RV P S w β D v x):RV P S w β (·∈sy x) v x:=by
 by_cases hx:∃cs,x=.agg cs;·obtain⟨cs,rfl⟩:=hx;obtain⟨us,rfl,hl,hc⟩:=h.da;refine .agg cs us hl fun i c u a b=>?_;have hm:=List.mem_of_getElem? a;simp only[tA,q90]at hk;exact(zL (hk c hm) (hc i c u a b)).mono (fun b hb=>⟨hb,rfl⟩) fun t ht=>⟨q179.2 ⟨c,hm,ht⟩,rfl⟩
 ·have e1:tA x=C2 x:=by cases x<;>first|rfl|exact absurd ⟨_,rfl⟩ hx
  have e2:sy x=sG x:=by cases x<;>first|rfl|exact absurd ⟨_,rfl⟩ hx
  rw[e1]at hk;rw[e2];exact zL hk h
theorem Kk {x y:AV} (h:mt P aa (n+2) x y) (hk:tA x=true):∀t∈sy x,aG aa t:=by
 intro t ht;refine yA (n+2) h t ?_;have hC:∀{c:AV},t∈sG c→∀m,t∈tg aa (m+1) c:=by
  intro c hc m;unfold sG at hc;split at hc;·simpa[tg]using hc
  ·simp only[q75]at hc;subst hc;exact q121
  ·simp at hc
 by_cases hx:∃cs,x=.agg cs;·obtain⟨cs,rfl⟩:=hx;obtain⟨c,hc,ht⟩:=q179.1 ht;exact q179.2 ⟨c,hc,hC ht n⟩
 ·have e2:sy x=sG x:=by cases x<;>first|rfl|exact absurd ⟨_,rfl⟩ hx
  rw[e2]at ht;exact hC ht (n+1)
theorem Bp {R:Value→AV→Prop}:∀{ys xs:List AV}{vs:List Value},xs.length=ys.length→vs.length=ys.length→(∀(i:Nat) (c:AV) (u:Value),xs[i]?=some c→vs[i]?=some u→R u c)→(eI ys xs).length=(eI ys vs).length∧∀(i:Nat) (c:AV) (u:Value),(eI ys xs)[i]?=some c→(eI ys vs)[i]?=some u→R u c
 |[],[],[],_,_,_=>⟨rfl,fun i c u hc=>by simp[eI]at hc⟩|y::ys,x::xs,v::vs,h1,h2,h=>by
  obtain⟨k1,k2⟩:=Bp (ys:=ys) (xs:=xs) (vs:=vs) (by simpa using h1) (by simpa using h2) fun i c u hc hu=>h (i+1) c u (by simpa using hc) (by simpa using hu);simp only[eI];split;·refine⟨by simp[k1],fun i c u hc hu=>?_⟩;cases i with|zero=>simp only[q69,qr]at hc hu;rw[←hc,←hu];exact h 0 x v rfl rfl|succ i=>exact k2 i c u (by simpa using hc) (by simpa using hu)
  ·exact⟨k1,k2⟩|[],_::_,_,h,_,_=>by simp at h|[],[],_::_,_,h,_=>by simp at h|_::_,[],_,h,_,_=>by simp at h|_::_,_::_,[],_,h,_=>by simp at h
end
theorem cf {P:Program}{Γ:bX} (hΓ:eb P Γ) {b:AC}{s:List AV×List (Nat×AO)×List Nat×List Nat} (hm:Ue P=true) (hc:aFn P f=some ⟨n,k,rs,b⟩) (hlen:ys.length≤n) (hnum:Oj ys Ys=some s) (htop:∀c∈eI ys s.1,tA c=true∧∀t∈sy c,t%1000=999) (hs:iC P Γ b (sf P rs (eI ys s.1) x) (zX (sf P rs (eI ys s.1) x)) ⟨look (nP 0 s.1),ab s.2.1⟩):Da P f ys x:=by
 intro w S0 vals bss hS0 hnd hts;obtain⟨p1,n1,l1⟩:=Dt (P:=P) (S:=S0) (S':=S0) (w:=w) (fun b hb=>hb) ys Ys s hnum;obtain⟨β,c1,c2,c3⟩:=l1 vals bss hts hnd (by decide);generalize hB:bss.flatten=B at*;obtain⟨d1,d2⟩:=c1 β (aG (ab s.2.1)) fun p hp=>⟨rfl,by obtain⟨o,ho⟩:=nh hp;exact⟨o,ho⟩⟩;have hvl:vals.length=ys.length:=by have:=hts.1;simpa using this
 have hblt:∀b∈B,b<w.heap.size:=by
  have hlt:∀{v y bs},HT P S0 w v y bs→∀b∈bs,b<w.heap.size:=by
   intro v y bs h;have hin:∀{b:Nat}{o:Obj},w.heap[b]?=some o→b<w.heap.size:=fun h=>(q66.1 h).1;have lst:∀{us:List Value}{cs:List AV}{bss:List (List Nat)},us.length=cs.length→bss.length=cs.length→(∀(i:Nat) (c:AV) (u:Value) (bs:List Nat),cs[i]?=some c→us[i]?=some u→bss[i]?=some bs→∀b∈bs,b<w.heap.size)→∀b∈bss.flatten,b<w.heap.size:=by intro us cs bss h1 h2 h b hb;obtain⟨bs,hbs,hb⟩:=List.mem_flatten.1 hb;obtain⟨i,hi⟩:=q101 hbs;have hl:=(q65.1 hi).1;exact h i _ _ bs (q64 (by omega)) (q64 (by omega)) hi b hb
   induction h with|leaf v y h=>intro b hb;simp at hb|fr v e rows inf us h1 h2 h3 h4=>
    intro b hb;rcases h2.2 with⟨rfl,_⟩|⟨g,cap,cur,rfl,_,h5,_⟩;·simp[cr]at hb
    ·simp only[cr,Option.toList_some,q75]at hb;rw[hb];exact hin h5|mf b us c es h1 h2 h3=>intro b' hb;simp only[q75]at hb;rw[hb];exact hin h1|bx b us ty cs bss h1 h2 h3 h4 h5 ih=>
    intro b' hb;rcases q76.1 hb with rfl|hb;·exact hin h1
    ·exact lst (us:=us.toList) (by simpa using h2) h3 (fun i c u bs a1 a2 a3=>ih i c u bs a1 (by simpa using a2) a3) b' hb|agg us cs bss h1 h2 h3 ih=>exact lst h1 h2 ih|aO us cs bss h1 h2 h3 ih=>exact lst h1 h2 ih
  rw[←hB];intro b hb;obtain⟨bs,hbs,hb⟩:=List.mem_flatten.1 hb;obtain⟨i,hi⟩:=q101 hbs;have hl:=(q65.1 hi).1;have h2:=hts.2.1;have h1:=hts.1;exact hlt (hts.2.2 i _ _ bs (q64 (by omega)) (q64 (by omega)) hi) b hb
 have hos:∀t o,ab s.2.1 t=some o→(t,o)∈s.2.1:=fun t o h=>lq h;have hlive:∀b,live β (ab s.2.1) b→b∈B:=by rintro b ⟨t,o,ho,hb⟩;exact c2 (t,o) (hos t o ho) b hb
 let S1:Nat→Prop:=fun b=>S0 b∨b∈B;have hS1:∀b,S0 b→aZ S1 w.heap.size β (ab s.2.1) w b∧w.heap[b]?=w.heap[b]?:=fun b hb=>⟨⟨.inl (.inl hb),(hS0 b hb).1,fun hl=>(hS0 b hb).2 (hlive b hl)⟩,rfl⟩;have hvr:∀(i:Nat) (v:Value) (c:AV),vals[i]?=some v→s.1[i]?=some c→RV P S0 w β (aG (ab s.2.1)) v c:=fun i v c hv hc=>d2 i c v hc hv;unfold aFn ym at hc;split at hc
 ·rename_i fn hfn;split at hc
  ·rename_i c rs hb hrs;obtain⟨b,hcomp,hc⟩:=q63.1 hc;split at hc;case isFalse=>cases hc
   rename_i hN;cases hc;refine calls_of_wp hfn hb ?_;have hrel:Rel P S1 (·∈B) β w fn.ntmps ⟨look (nP 0 s.1),ab s.2.1⟩ {tmps:=vals.toArray++Array.replicate (fn.ntmps-vals.toArray.size) undef,defers:=[]} w β:=by
    refine⟨by simp;omega,rfl,fun q=>?_,⟨fun t o ho=>?_,fun t t' b ht ht' hb hb'=>?_⟩,fun t b ht hb=>.inr ?_,⟨hN,MB hm⟩,fun t _ _=>rfl,⟨rfl,rfl,rfl,q93 _,fun _ _ _=>rfl⟩⟩;·show RV P _ w β _ _ (look (nP 0 s.1) q);rw[rl];simp only[q126,if_true,q277];cases ha:s.1[q]? with|none=>exact .aw _|some x=>
     have hs1:=(q65.1 ha).1;have hs2:q<vals.length:=by omega
     have hv:vals[q]?=some vals[q]:=q64 hs2;have hget:(vals.toArray++Array.replicate (fn.ntmps-vals.toArray.size) undef).getD q undef=vals[q]:=by rw[q128,q266 (by simpa using hs2)];simp[hs2]
     rw[hget];exact(hvr q _ x hv ha).mono hS1 fun t ht=>⟨ht,rfl⟩
    ·exact(d1 (t,o) (hos t o ho)).mono hS1 (fun t ht=>⟨ht,rfl⟩) rfl (fun _ _=>rfl)
    ·obtain⟨o,ho⟩:=ht;obtain⟨o',ho'⟩:=ht';exact c3 (t,o) (hos t o ho) (t',o') (hos t' o' ho') b hb hb'
    ·obtain⟨o,ho⟩:=ht;exact c2 (t,o) (hos t o ho) b hb
   have fin:∀st a w' β',sf P rs (eI ys s.1) x st→Rel P S1 (·∈B) β w fn.ntmps st a w' β'→a.defers=[]∧∃v,(results fn a.tmps).run P w'=.ok v w'∧∃v0 bss',Ending.returned v=.returned v0∧AM (·∈B) w w'∧bss'.flatten.Nodup∧(∀b∈bss'.flatten,w.heap.size≤b∨b∈B)∧FU P (fun b=>(S0 b∨b∈B∨w.heap.size≤b)∧b<w'.heap.size∧b∉bss'.flatten) w' (eI ys vals++[v0]) (lO x++[kS x]) bss':=by
    intro st0 a w' β' hF0 hR0;obtain⟨_,vs0,hF,_,_⟩:=iy hrs hR0 hF0;have hR:=hR0.cF (fun b hb=>.inr hb) (nk (bV vs0) (kS x));change qj P rs (eI ys s.1) x (cF _ st0) at hF;generalize cF (nk (bV vs0) (kS x)) st0=st at hF hR;obtain⟨v,vs,⟨hmt,hmL,hnd'⟩,hrun,hv⟩:=iy hrs hR hF;refine⟨hR.defers,v,hrun,v,?_⟩;generalize bV vs=X at hmt hnd' hv;generalize hLL:eI ys s.1=L at*;have hLd:∀t∈L.flatMap (tg st.aa 5),aG st.aa t:=by intro t ht;obtain⟨c,hc,ht⟩:=q179.1 ht;obtain⟨i,hi⟩:=q101 hc;obtain⟨g1,g2⟩:=gF hmL;exact yA 5 (g2 i c _ hi (q64 (by have:=(q65.1 hi).1;omega))) t ht
    have hXd:∀t∈tg st.aa 6 X,aG st.aa t:=yA 6 hmt;have ebs:((L.map fun c=>dz β' (tg st.aa 5 c))++[dz β' (tg st.aa 6 X)]).flatten=dz β' (L.flatMap (tg st.aa 5)++tg st.aa 6 X):=by rw[q251,fA,fO];simp
    have hall:∀t∈L.flatMap (tg st.aa 5)++tg st.aa 6 X,aG st.aa t:=fun t ht=>(q80.1 ht).elim (hLd t) (hXd t);refine⟨(L.map fun c=>dz β' (tg st.aa 5 c))++[dz β' (tg st.aa 6 X)],rfl,hR.bZ,?_,?_,?_⟩;·rw[ebs];exact nY hR.heap.inj _ hnd' hall
    ·rw[ebs];intro b hb;obtain⟨t,ht,hb⟩:=q160.1 hb;exact hR.old t b (hall t ht) hb
    rw[ebs];have hSS:∀b,aZ S1 w.heap.size β' st.aa w' b→((S0 b∨b∈B∨w.heap.size≤b)∧b<w'.heap.size∧b∉dz β' (L.flatMap (tg st.aa 5)++tg st.aa 6 X)):=by
     rintro b ⟨h1,h2,h3⟩;refine⟨?_,h2,fun hb=>?_⟩
     ·rcases h1 with(h1|h1)|h1;·exact .inl h1
      ·exact .inr (.inl h1)
      ·exact .inr (.inr h1)
     ·obtain⟨t,ht,hb⟩:=q160.1 hb;obtain⟨o,ho⟩:=hall t ht;exact h3 ⟨t,o,ho,hb⟩
    obtain⟨k1,k2⟩:=Bp (R:=fun u c=>RV P S0 w β (aG (ab s.2.1)) u c) (ys:=ys) (xs:=s.1) (vs:=vals) n1 hvl fun i c u hc hu=>hvr i u c hu hc;rw[hLL]at k1 k2;obtain⟨g1,g2⟩:=gF hmL;have hlast:=mq hR.heap hSS 6 hmt hv;refine⟨by simp[←k1,g1],by simp[g1],fun i y u bs a1 a2 a3=>?_⟩;by_cases hi:i<(lO x).length
    ·rw[q85 hi]at a1;rw[q85 (by omega)]at a2;rw[q85 (by rw[List.length_map];omega),q77]at a3;obtain⟨c,hc,rfl⟩:=q0.1 a3;have hcm:=List.mem_of_getElem? hc;obtain⟨t1,t2⟩:=htop c hcm;have hmc:=g2 i c y hc a1;refine mq hR.heap hSS 5 hmc ((ET t1 (k2 i c u hc a2)).mono (fun b hb=>?_) fun t ht=>?_)
     ·refine⟨⟨.inl (.inl hb),q95 (hS0 b hb).1 hR.bZ.size,fun⟨t,o,ho,hbt⟩=>?_⟩,hR.bZ.block b (hS0 b hb).1 (hS0 b hb).2⟩;rcases hR.old t b ⟨o,ho⟩ hbt with h4|h4;·have:=(hS0 b hb).1;omega
      ·exact(hS0 b hb).2 h4
     ·have hd:=Kk (n:=3) hmc t1 t ht;exact⟨hd,hR.vw t (t2 t ht) hd⟩
    ·have hi2:i=(lO x).length:=by have:=(q65.1 a1).1;simp at this;omega
     subst hi2;have e1:y=kS x:=by simpa using a1.symm
     have e2:u=v:=by rw[←g1,k1]at a2;simpa using a2.symm
     have e3:bs=dz β' (tg st.aa 6 X):=by rw[←g1,←List.length_map (as:=L) (f:=fun c=>dz β' (tg st.aa 5 c))]at a3;simpa using a3.symm
     rw[e1,e2,e3];exact hlast
   refine tY hΓ (S0:=S1) (L:=(·∈B)) (fun b hb=>.inr hb) (w0:=w) (MW hm) _ c b hcomp (sf P rs (eI ys s.1) x) (zX (sf P rs (eI ys s.1) x)) _ _ _ w β ?_ ?_ ?_ hrel hs;·intro st a w' β' hF hR;exact fin st a w' β' hF hR
   ·intro st a w' β' id hj;exact hj.elim
   ·intro st a w' β' hF hR;exact fin st a w' β' hF hR
  ·cases hc
 ·cases hc
end Go.Proofs.YtlicclncicbajaaGreat.Ab
