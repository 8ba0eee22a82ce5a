/- The abstract machine is sound: regions, loops, the code of a function. -/
import Derived.Test.YtifcndkhigakfaaGreatX9
import Derived.Deep.LoopGhost
import Derived.Scope
set_option linter.unusedVariables false
set_option linter.unusedSimpArgs false
set_option linter.unnecessarySimpa false
set_option maxHeartbeats 40000000
set_option maxRecDepth 100000
namespace Go.Proofs.YtifcndkhigakfaaGreat.Ab
open Go Go.RowKit
section
variable{P:Program}{Γ:bR}{S0 L:Nat→Prop}{B0:Nat→Value}{w0 w:World}{N:Nat}{st:St}{a:Act}{β:Nat→Value}{ops:Array Oper}{is:Array AI}{Q':Exit→Act→World→Prop}
theorem dF (hΓ:dS P Γ) {j:Nat}{o:Oper}{i:AI}{K:St→Prop}{K':Act→World→Prop} (hj:ops[j]?=some o) (hi:Core P N ops o i) (h:Rel P S0 L B0 w0 N st a w β) (hK:∀st a w β,K st→Rel P S0 L B0 w0 N st a w β→K' a w) (hs:cZ P Γ i K st):wpOp P ops Q' j K' a w:=by
 have hh:=MJ hΓ (Q:=Q') h hi hs.2;unfold wpOp;rw[hj];dsimp only;split;·rename_i hw;rw[if_pos hw]at hh;refine .inl (Oper.wp_mono ?_ hh);rintro a' w' ⟨e,β',⟨_,hC⟩,hR⟩;exact hK _ _ _ _ hC hR
 ·rename_i hw;rw[if_neg hw]at hh;obtain⟨e,β',⟨_,hC⟩,hR⟩:=hh;exact hK _ _ _ _ hC hR
theorem Core.same {o:Oper}{i i':AI} (h:Core P N ops o i) (h1:i'.k=i.k) (h2:i'.xs=i.xs) (h3:i'.d=i.d) (h4:i'.g=i.g):Core P N ops o i':=by unfold Core at*;rw[h1,h2,h3,h4];exact h
theorem zH {P:Program}{o:Oper}{xs:List Operand} (hc:gX P o=some (.ly,xs)):∃x args argTypes,o.op=.call {callee:=.value x,args:=args,argTypes:=argTypes}∧xs=x::args.toList:=by
 rcases dU hc with hc|⟨x,h0,_⟩;rotate_left;·cases h0
 unfold gD at hc;split at hc;case h_22=>
  rename_i cl ho;obtain⟨callee,args,argTypes⟩:=cl;unfold gK at hc;simp only at hc;split at hc
  ·exfalso;unfold dj at hc;repeat'(split at hc)
   all_goals(simp at hc)
  ·split at hc;·simp at hc
   ·cases hc
  ·simp only[Option.some.injEq,Prod.mk.injEq,true_and]at hc;exact⟨_,args,argTypes,ho,hc.symm⟩
  ·cases hc
 all_goals
  exfalso;repeat'(split at hc)
  all_goals(simp at hc)
theorem tI {P:Program}{b:Builtin}{ys xs:List Operand}{ts:List TypeId}{x:XK} (hc:dj P b ys ts=some (.ex x,xs)):False:=by
 unfold dj at hc;repeat'(split at hc)
 all_goals(simp at hc)
theorem BM {P:Program}{o:Oper}{xs:List Operand} (x:XK):¬gD P o=some (.ex x,xs):=by
 intro hc;unfold gD at hc;split at hc;case h_22=>
  rename_i cl ho;obtain⟨callee,args,argTypes⟩:=cl;unfold gK at hc;simp only at hc;split at hc;·exact tI hc
  ·split at hc<;>simp at hc
  ·simp at hc
  ·cases hc
 all_goals
  repeat'(split at hc)
  all_goals(simp at hc)
theorem CP {P:Program}{o:Oper}{xs:List Operand}{e:TypeId}{sz:Nat}{zs:List Value} (hc:gX P o=some (.HR e sz zs,xs)):∃x t,o.op=.call {callee:=.builtin .clear,args:=#[x],argTypes:=#[t]}∧xs=[x]∧P.underlying t=some (.slice e)∧cy P e=some sz∧dN P e=some zs∧0<sz∧zs.all (·.oneCell')=true:=by
 rcases dU hc with hc|⟨x,h0,_⟩;rotate_left;·cases h0
 unfold gD at hc;split at hc;case h_22=>
  rename_i cl ho;obtain⟨callee,args,argTypes⟩:=cl;unfold gK at hc;simp only at hc;split at hc
  ·unfold dj at hc;split at hc;case h_5=>
    rename_i x t hx ht;have hx':args=#[x]:=by apply Array.ext';simpa using hx
    have ht':argTypes=#[t]:=by apply Array.ext';simpa using ht
    subst hx' ht';split at hc
    ·rename_i e' hu;split at hc
     ·rename_i sz' zs' hsz hz;split at hc;·rename_i hcond;simp only[Option.some.injEq,Prod.mk.injEq,AK.HR.injEq]at hc;obtain⟨⟨rfl,rfl,rfl⟩,rfl⟩:=hc;exact⟨x,t,ho,rfl,hu,hsz,hz,hcond⟩
      ·cases hc
     ·cases hc
    ·cases hc
   all_goals
    exfalso;repeat'(split at hc)
    all_goals(simp at hc)
  ·split at hc;·simp at hc
   ·cases hc
  ·simp at hc
  ·cases hc
 all_goals
  exfalso;repeat'(split at hc)
  all_goals(simp at hc)
theorem CQ {P:Program}{o:Oper}{xs:List Operand}{e:TypeId}{sz b:Nat} (hc:gX P o=some (.app e sz b,xs)):∃x y t tx inf,o.op=.call {callee:=.builtin .append,args:=#[x,y],argTypes:=#[t,tx]}∧xs=[x,y]∧P.underlying t=some (.slice e)∧((∃e',P.underlying tx=some (.slice e'))∨P.underlying tx=some .string)∧P.info? e=some inf∧0<inf.size∧(dN P e).isSome=true∧sz=inf.size∧b=inf.bytes:=by
 rcases dU hc with hc|⟨x,h0,_⟩;rotate_left;·cases h0
 unfold gD at hc;split at hc;case h_22=>
  rename_i cl ho;obtain⟨callee,args,argTypes⟩:=cl;unfold gK at hc;simp only at hc;split at hc
  ·unfold dj at hc;split at hc;case h_2=>
    rename_i x y t tx hx ht;have hx':args=#[x,y]:=by apply Array.ext';simpa using hx
    have ht':argTypes=#[t,tx]:=by apply Array.ext';simpa using ht
    subst hx' ht';split at hc
    ·rename_i e' hu hux;split at hc
     ·rename_i inf hi;split at hc;·rename_i hcond;simp only[Option.some.injEq,Prod.mk.injEq,AK.app.injEq]at hc;obtain⟨⟨rfl,rfl,rfl⟩,rfl⟩:=hc;exact⟨x,y,t,tx,inf,ho,rfl,hu,.inr hux,hi,by omega,hcond.2,rfl,rfl⟩
      ·cases hc
     ·cases hc
    ·rename_i e' e2 hu hux;split at hc
     ·rename_i inf hi;split at hc;·rename_i hcond;simp only[Option.some.injEq,Prod.mk.injEq,AK.app.injEq]at hc;obtain⟨⟨rfl,rfl,rfl⟩,rfl⟩:=hc;exact⟨x,y,t,tx,inf,ho,rfl,hu,.inl ⟨e2,hux⟩,hi,hcond.1,hcond.2,rfl,rfl⟩
      ·cases hc
     ·cases hc
    ·cases hc
   all_goals
    exfalso;repeat'(split at hc)
    all_goals(simp at hc)
  ·split at hc;·simp at hc
   ·cases hc
  ·simp at hc
  ·cases hc
 all_goals
  exfalso;repeat'(split at hc)
  all_goals(simp at hc)
theorem lK:∀{l:List AV}{k:Nat}{z:AV},an l→l[k]?=some z→asks z|[],k,z,_,hk=>by simp at hk|y::l,0,z,h,hk=>by simp only[List.getElem?_cons_zero,Option.some.injEq]at hk;subst hk;exact h.1|y::l,k+1,z,h,hk=>lK h.2 (by simpa using hk)
theorem noG {n f:Nat} (h0:n≤1000000) (h2:2000000≤f+1000000) (h:f<n):False:=by omega
theorem Fq {xs:List AV}{f:FuncId}{ys:List AV} (h:lH xs=some (f,ys)):∃x caps args,xs=x::args∧ys=args++caps∧(x=.bZ f caps∨(caps=[]∧x=.pv (.val (.func (.func f) #[] #[])))):=by
 unfold lH at h;split at h;·cases h;exact⟨_,_,_,rfl,rfl,.inl rfl⟩
 ·obtain⟨g,hg,h⟩:=Option.map_eq_some_iff.1 h;cases h;unfold lH.Mq at hg;split at hg;·cases hg;exact⟨_,[],_,rfl,by simp,.inr ⟨rfl,rfl⟩⟩
  ·cases hg
 ·cases h
theorem mO (h:Rel P S0 L B0 w0 N st a w β) {o:Oper}{x:Operand}{args:Array Operand}{argTypes:Array TypeId} (ho:o.op=.call {callee:=.value x,args:=args,argTypes:=argTypes}) (ha:an ((x::args.toList).map (Ab.ev st.vars))) {f:FuncId}{ys:List AV} (hc:lH (((x::args.toList).map (Ab.ev st.vars)).map strip)=some (f,ys)) (hf:ib P f=true):∃vals:List Value,(execOp a.eval o).run P w=.ok (.enter f vals.toArray) w∧vals.length=ys.length∧∀(i:Nat) (v:Value) (y:AV),vals[i]?=some v→ys[i]?=some y→RV P (aU S0 w0.heap.size β st.aa w) w β (aG st.aa) v y:=by
 obtain⟨x0,caps,as,hxs,rfl,hx0⟩:=Fq hc;simp only[List.map_cons,List.cons.injEq]at hxs;obtain⟨hx,hargs⟩:=hxs;have hv:=h.dr x ha.1;rw[hx]at hv;obtain⟨us,hev,hul,hus⟩:∃us:List Value,a.eval x=.func (.func f) #[] us.toArray∧us.length=caps.length∧(∀(i:Nat) (c:AV) (u:Value),caps[i]?=some c→us[i]?=some u→RV P (aU S0 w0.heap.size β st.aa w) w β (aG st.aa) u c):=by
  rcases hx0 with rfl|⟨rfl,rfl⟩;·exact hv.mP
  ·refine⟨[],?_,rfl,fun i c u hc=>by simp at hc⟩;have h1:=hv.bm;generalize a.eval x=u at h1;cases h1 with|val v h=>rfl
 unfold ib at hf;split at hf
 ·rename_i fn hfn;simp only[Bool.and_eq_true,bne_iff_ne,ne_eq]at hf;have hn:=hf.1;have hb:¬fn.body=none:=fun e=>by rw[e]at hf;simp at hf
  refine⟨args.toList.map a.eval++us,?_,?_,?_⟩
  ·have he:(args.toList.map a.eval++us).toArray=args.map a.eval++us.toArray:=by apply Array.ext';simp
   rw[he];simp[execOp,ho,resolve,hev,Deferred.ofValue,invoke,callFunc,hfn,hn,hb]
  ·rw[←hargs];simp[hul]
  ·intro i v y hi hy;have hl:as.length=args.toList.length:=by rw[←hargs];simp
   by_cases hlt:i<as.length;·rw[List.getElem?_append_left hlt]at hy;rw[List.getElem?_append_left (by simpa[hl]using hlt)]at hi;rw[←hargs]at hy;exact jP h args.toList ha.2 i v y hi hy
   ·rw[List.getElem?_append_right (by omega)]at hy;rw[List.getElem?_append_right (by simp only[List.length_map];omega)]at hi;simp only[List.length_map,←hl]at hi;exact hus _ _ _ hy hi
 ·cases hf
theorem qT (hL:∀b,L b→S0 b) (hΓ:dS P Γ) {o:Oper}{d:Option Nat}{f:FuncId}{xs:List Operand}{un:List Nat}{tg:Option Nat}{K:St→Prop}{K':Act→World→Prop}{Q:Exit→Act→World→Prop} (hc:gX P o=some (.call f,xs)) (hd:d=o.dst) (hdN:∀s,o.dst=some s→s<N) (h:Rel P S0 L B0 w0 N st a w β) (hK:∀st a w β,K st→Rel P S0 L B0 w0 N st a w β→K' a w) (hs:lI P Γ ⟨d,.call f,xs,none,un,tg⟩ f K st):o.wp P a w K' Q:=by
 obtain⟨ys,hys,hs⟩:=ae hs;obtain⟨x,hx,hs⟩:=ae hs;subst hd;split at hs;·have h2:=h.cJ hL ((xs.map (Ab.ev st.vars)).map strip);generalize cJ st ((xs.map (Ab.ev st.vars)).map strip)=st2 at h2 hs;have hs':aZ P Γ o.dst (.call f) (xs.map (Ab.ev st2.vars)) st2.aa fun e=>K (e.on o.dst st2):=hs;refine Oper.wp_mono ?_ (xY hΓ (Q:=Q) h2 hc hdN hs');rintro a' w' ⟨e,β',hC,hR⟩;exact hK _ _ _ _ hC hR
 ·have hs':aZ P Γ o.dst (.call f) (xs.map (Ab.ev st.vars)) st.aa fun e=>By _ tg e∧K (e.on o.dst st):=hs.2;refine Oper.wp_mono ?_ (xY hΓ (Q:=Q) h hc hdN hs');rintro a' w' ⟨e,β',hC,hR⟩;exact hK _ _ _ _ hC.2 hR
theorem vj (hΓ:dS P Γ) {j:Nat}{o:Oper}{i:AI}{K:St→Prop}{K':Act→World→Prop} (hj:ops[j]?=some o) (hi:Core P N ops o i) (h:Rel P S0 L B0 w0 N st a w β) (hK:∀st a w β,K st→Rel P S0 L B0 w0 N st a w β→K' a w) (hs:cr P Γ i K st):wpOp P ops Q' j K' a w:=by
 unfold cr at hs;split at hs;·exact dF hΓ hj hi h hK hs
 ·rename_i s want hg0;unfold il at hs;split at hs;·exact dF hΓ hj hi h hK hs
  ·split at hs
   ·rename_i hf0;have hcg:bJ (st.vars s) want=some false:=by revert hf0;cases bJ (st.vars s) want with|none=>intro h0;cases h0|some b=>cases b with|false=>intro _;rfl|true=>intro h0;cases h0
    obtain⟨hc,hd,hdN,hg⟩:=hi;have hdN':∀s,o.dst=some s→s<N:=fun s e=>hdN s (hd.trans e);rcases hg with⟨_,hig⟩|⟨j',want',s',hg,hj',hig⟩;·rw[hg0]at hig;cases hig
    ·rw[hg0]at hig;simp only[Option.some.injEq,Prod.mk.injEq]at hig;obtain⟨rfl,rfl⟩:=hig;unfold wpOp;rw[hj];dsimp only;rw[dD hg hj' (h.vars _) hcg];simp only[Bool.false_eq_true,if_false];refine hK _ _ _ β hs ?_;rw[hd];exact h.fi hdN' (.ck _ _ _ (fun e=>by cases e) fun _=>rfl)
   ·exact dF hΓ hj hi h hK hs
theorem vo (hL:∀b,L b→S0 b) (hΓ:dS P Γ) {j:Nat}{o:Oper}{i:AI}{x:XK}{K:St→Prop}{K':Act→World→Prop} (hj:ops[j]?=some o) (hi:Core P N ops o i) (h:Rel P S0 L B0 w0 N st a w β) (hK:∀st a w β,K st→Rel P S0 L B0 w0 N st a w β→K' a w) (hk:i.k=.ex x) (hs:jI P Γ i K st):wpOp P ops Q' j K' a w:=by
 obtain⟨hc,hd,hdN,hg⟩:=hi;have hdN':∀s,o.dst=some s→s<N:=fun s e=>hdN s (hd.trans e);rw[hk]at hc;have hcx:jE P o=(x,i.xs):=by
  rcases dU hc with hc|⟨x',h0,hc⟩;·exact absurd hc (BM x)
  ·cases h0;exact hc
 unfold wpOp;rw[hj];dsimp only;unfold jI at hs;rw[hk]at hs;rcases hg with⟨hg,hig⟩|⟨j',want,s,hg,hj',hig⟩
 ·rw[hig]at hs;rw[eG (P:=P) hg];simp only[if_true];rw[hd]at hs;have h':Rel P S0 L B0 w0 N (Iy x i st) a w β:=by
   unfold Iy;split;·exact h.cJ hL _
   ·exact h
  exact .inl (Ae hL hcx hdN' h' hK hs)
 ·rw[hig]at hs;have hs:Ce i x s want K st:=hs;obtain⟨c,hcg,hs⟩:=ae hs;rw[dD hg hj' (h.vars s) hcg];by_cases hct:c=true;·rw[if_pos hct]at hs ⊢;rw[hd]at hs;exact .inl (Ae hL hcx hdN' h hK hs)
  ·rw[if_neg hct]at hs ⊢;refine hK _ _ _ β hs ?_;rw[hd];exact h.fi hdN' (.ck _ _ _ (fun e=>by cases e) fun _=>rfl)
theorem me (hL:∀b,L b→S0 b) (hΓ:dS P Γ) {j:Nat}{o:Oper}{i:AI}{K:St→Prop}{K':Act→World→Prop} (hj:ops[j]?=some o) (hi:Core P N ops o i) (h:Rel P S0 L B0 w0 N st a w β) (hK:∀st a w β,K st→Rel P S0 L B0 w0 N st a w β→K' a w) (hs:jI P Γ i K st):wpOp P ops Q' j K' a w:=by
 by_cases hx:∃x,i.k=.ex x;·obtain⟨x,hx⟩:=hx;exact vo hL hΓ hj hi h hK hx hs
 by_cases hk:i.k=.ly
 ·have hs:fW P Γ i.d (i.xs.map (ev st.vars)) i.g K st:=by unfold jI at hs;rw[hk]at hs;exact hs
  obtain⟨hc,hd,hdN,hg⟩:=hi;have hdN':∀s,o.dst=some s→s<N:=fun s e=>hdN s (hd.trans e);rw[hk]at hc;obtain⟨x,args,argTypes,ho,hxs⟩:=zH hc;rw[hxs]at hs;unfold wpOp;rw[hj];dsimp only;rcases hg with⟨hg,hig⟩|⟨j',want,s,hg,hj',hig⟩
  ·rw[eG (P:=P) hg];simp only[if_true];unfold fW at hs;rw[hig]at hs;obtain⟨ha,hs⟩:=hs;obtain⟨⟨f,zs⟩,hcl,hf,hs⟩:=ae hs;unfold eT at hs;split at hs
   ·split at hs;rotate_left;·exact hs.elim
    obtain⟨vals,hrun,hvl,hv⟩:=mO h ho ha hcl hf;refine .inl (dJ hrun ((jq (a:=a) hL hΓ h hdN hf hvl (fun haz i v y hi hy=>?_) hs).mono ?_));·rw[List.getElem?_map,Option.map_eq_some_iff]at hy;obtain⟨z,hz,rfl⟩:=hy;exact(hv i v z hi hz).strip (lK haz hz)
    ·rintro e w' ⟨v,β',st',rfl,hK',hR⟩;refine⟨v,rfl,hK _ _ _ β' hK' ?_⟩;rw[←hd];exact hR
   unfold cH at hs;obtain⟨d,hdd,haz,hs⟩:=ae hs;obtain⟨ys,hys,hs⟩:=ae hs;obtain⟨⟨φ,r⟩,hr,hφ,hpf,hfree,hres,hC⟩:=ae hs;obtain⟨vals,hrun,hvl,hv⟩:=mO h ho ha hcl hf;have hv':∀(i:Nat) (v:Value) (y:AV),vals[i]?=some v→(zs.map strip)[i]?=some y→RV P (aU S0 w0.heap.size β st.aa w) w β (aG st.aa) v y:=by intro i v y hi hy;rw[List.getElem?_map,Option.map_eq_some_iff]at hy;obtain⟨z,hz,rfl⟩:=hy;exact(hv i v z hi hz).strip (lK haz hz)
   have hdlt:d<N:=hdN d hdd;have hlim:=h.qn.1;have hd9:d%1000≠999:=by omega
   refine .inl (dJ hrun ((lR (a:=a) h hd9 (by rw[hvl,List.length_map]) hv' hys (hΓ.con (iA hf) hr hφ) hpf hfree hres).mono ?_));rintro e w' ⟨v,β',rfl,hR,hrv⟩;refine⟨v,rfl,hK _ _ _ β' hC ?_⟩;rw[hd];exact hR.put hdN' hrv
  ·unfold fW at hs;rw[hig]at hs;have hs:il (fo ((i.xs.map (ev st.vars)).map strip)) (IC (bJ (st.vars s) want)) (pJ P Γ i.d (i.xs.map (ev st.vars)) s want K st) (K ((bE.put (.ck false .ak)).on i.d st)):=by rw[hxs];exact hs
   have hs:pJ P Γ i.d (i.xs.map (ev st.vars)) s want K st∨(bJ (st.vars s) want=some false∧K ((bE.put (.ck false .ak)).on i.d st)):=by
    unfold il at hs;split at hs;·exact .inl hs
    ·split at hs
     ·rename_i hif;right;unfold IC at hif;split at hif;·rename_i hgf;exact⟨hgf,hs⟩
      ·cases hif
     ·exact .inl hs
   rcases hs with hs|⟨hgf,hs⟩;rotate_left;·rw[dD hg hj' (h.vars s) hgf];simp only[Bool.false_eq_true,if_false];refine hK _ _ _ β hs ?_;rw[hd];exact h.fi hdN' (.ck _ _ _ (fun e=>by cases e) fun _=>rfl)
   rw[hxs]at hs;obtain⟨c,hcg,hs⟩:=ae hs;rw[dD hg hj' (h.vars s) hcg];obtain⟨⟨f,zs⟩,hcl,hf,hs⟩:=ae hs;unfold iz at hs;split at hs
   ·split at hs;rotate_left;·exact hs.elim
    by_cases hct:c=true
    ·rw[if_pos hct]at hs ⊢;obtain⟨ha,hs⟩:=hs;obtain⟨vals,hrun,hvl,hv⟩:=mO h ho ha hcl hf;refine .inl (dJ hrun ((jq (a:=a) hL hΓ h hdN hf hvl (fun haz i v y hi hy=>?_) hs).mono ?_));·rw[List.getElem?_map,Option.map_eq_some_iff]at hy;obtain⟨z,hz,rfl⟩:=hy;exact(hv i v z hi hz).strip (lK haz hz)
     ·rintro e w' ⟨v,β',st',rfl,hK',hR⟩;refine⟨v,rfl,hK _ _ _ β' hK' ?_⟩;rw[←hd];exact hR
    ·rw[if_neg hct]at hs ⊢;refine hK _ _ _ β hs ?_;rw[hd];exact h.fi hdN' (.ck _ _ _ (fun e=>by cases e) fun _=>rfl)
   unfold yU at hs;obtain⟨ys,hys,hs⟩:=ae hs;obtain⟨⟨φ,r⟩,hr,hcon,hfl,hfr,hres,ha,hC⟩:=ae hs;cases c with|true=>
    simp only[if_true];obtain⟨vals,hrun,hvl,hv⟩:=mO h ho (ha rfl) hcl hf;have hv':∀(i:Nat) (v:Value) (y:AV),vals[i]?=some v→(zs.map strip)[i]?=some y→RV P (aU S0 w0.heap.size β st.aa w) w β (aG st.aa) v y:=by intro i v y hi hy;rw[List.getElem?_map,Option.map_eq_some_iff]at hy;obtain⟨z,hz,rfl⟩:=hy;exact(hv i v z hi hz).strip (lK (hcon rfl).1 hz)
    have htr:=Dq hfl;have hnil:∀d,jU d r=[]:=fun d=>by rw[ue htr];unfold aP;rw[hfr];rfl
    refine .inl (dJ hrun ((lR (a:=a) (d:=0) h (by omega) (by rw[hvl,List.length_map]) hv' hys (hΓ.con (iA hf) hr (hcon rfl).2) (.inr (by rw[qS htr];exact hfl)) (by rw[hnil];intro x hx;cases hx) (by rw[tq htr];exact hres)).mono ?_));rintro e w' ⟨v,β',rfl,hR,hrv⟩;rw[hnil]at hR hrv;rw[tT htr,qX hfr]at hrv;refine⟨v,rfl,hK _ _ _ β' hC ?_⟩;rw[hd];exact hR.put hdN' (.ck _ _ _ (fun _=>hrv) fun e=>by cases e)|false=>simp only[Bool.false_eq_true,if_false];refine hK _ _ _ β hC ?_;rw[hd];exact h.fi hdN' (.ck _ _ _ (fun e=>by cases e) fun _=>rfl)
 ·have hcore:=hi;obtain⟨hc,hd,hdN,hg⟩:=hi;have hdN':∀s,o.dst=some s→s<N:=fun s e=>hdN s (hd.trans e);have hs':(∃e sz zs,i.k=.HR e sz zs∧i.g=none∧oH i.d e sz zs (i.xs.map (ev st.vars)) K st)∨(∃f p k,i.k=.call f∧i.g=none∧dP Γ f=some (p,k)∧(if k=997 then yR P Γ i.d f (i.xs.map (ev st.vars)) p K st else if k=996 then stepG Γ i.d f (i.xs.map (ev st.vars)) (jd Γ f) K st else lp P Γ i.d f (i.xs.map (ev st.vars)) p k K st))∨cZ P Γ i K st∨(∃f,i.k=.call f∧i.g=none∧lI P Γ i f K st)∨(∃f s w,i.k=.call f∧i.g=some (s,w)∧DM P Γ i f s w K st)∨(∃t,cZ P Γ i K (tv t st))∨∃l,cr P Γ i K (cJ st l):=by
   unfold jI at hs;split at hs;·rename_i x e _;exact absurd ⟨x,e⟩ hx
   ·rename_i x s w e _;exact absurd ⟨x,e⟩ hx
   ·exact .inr (.inr (.inr (.inr (.inr (.inr ⟨_,hs⟩)))))
   ·rename_i e sz zs e1 e2;exact .inl ⟨e,sz,zs,e1,e2,hs⟩
   ·rename_i f s w e e2;exact .inr (.inr (.inr (.inr (.inl ⟨f,s,w,e,e2,hs⟩))))
   ·rename_i e;exact absurd e hk
   ·rename_i f e e2;unfold gZ at hs;split at hs;·rename_i p k hfl;exact .inr (.inl ⟨f,p,k,e,e2,hfl,hs⟩)
    ·exact .inr (.inr (.inr (.inl ⟨f,e,e2,hs⟩)))
   ·exact .inr (.inr (.inr (.inr (.inr (.inl ⟨_,hs⟩)))))
   ·exact .inr (.inr (.inr (.inr (.inr (.inr ⟨[],hs⟩)))))
  obtain⟨id,ik,ix,ig,iun,itg⟩:=i;simp only at hc hd hdN hg hs' hk;rcases hs' with⟨e,sz,zs,rfl,rfl,hs⟩|⟨f,p,k,rfl,rfl,hfl,hs⟩|hs|⟨f,rfl,rfl,hs⟩|⟨f,s,want,rfl,rfl,hs⟩|⟨t,hs⟩|⟨l,hs⟩
  ·rcases hg with⟨hg,_⟩|⟨_,_,_,_,_,hig⟩;·unfold wpOp;rw[hj];dsimp only;rw[eG (P:=P) hg];obtain⟨x,t,ho,rfl,hu,hsz,hz,hpos,hall⟩:=CP hc;obtain⟨ha,hs⟩:=hs;obtain⟨X,hX,hs1⟩:=ae hs;obtain⟨r,hr,hs2⟩:=ae hs1;simp only[List.map_cons,List.map_nil,List.head?_cons,Option.some.injEq]at hX;subst hX;obtain⟨v,w',hrun,hR⟩:=E8 ho hu hsz hz hpos hall h hdN' (h.dr x ha.1) hr;refine .inl (aJ hrun (hK _ _ _ β hs2 ?_));rw[hd];exact hR
   ·cases hig
  ·rcases hg with⟨hg,_⟩|⟨_,_,_,_,_,hig⟩
   ·unfold wpOp;rw[hj];dsimp only;rw[eG (P:=P) hg];obtain⟨args,argTypes,ho,hf,hx⟩:=lM hc;rw[hx]at hs;have hk3:k=998∨k=999∨k=997∨k=996:=by
     obtain⟨q,_,hq⟩:=Option.bind_eq_some_iff.1 hfl;unfold Dt at hq;split at hq
     ·split at hq;·rename_i hk;cases hq;exact hk
      ·cases hq
     ·cases hq
    by_cases h997:k=997
    ·rw[if_pos h997]at hs;obtain⟨d,hdd,ha,hs⟩:=ae hs;obtain⟨ys,hys,hs⟩:=ae hs;obtain⟨⟨φ,r⟩,hr,hφ,hpf,hfree,hres,hC⟩:=ae hs;have hdlt:d<N:=hdN d hdd;have hlim:=h.qn.1;have hd9:d%1000≠999:=by omega
     refine .inl (dJ (jh ho hf) ?_);have hv:args.map a.eval=(args.toList.map a.eval).toArray:=by apply Array.ext';simp
     rw[hv];obtain⟨hyl,hyg⟩:=vC hys;have hun:=Fv hyg;have hcon:u9 P f [] ys [] r:=by
      rcases hΓ (f+1000000) ys φ r hr hφ with⟨h1,_⟩|⟨_,_,_,h1|h1⟩|⟨h0,h2,_⟩|⟨h0,h2,_⟩;·exact absurd h1 (Nat.not_lt.2 (Nat.le_add_left _ _))
      ·subst h1;exfalso;obtain⟨c,_,h2|⟨_,h2⟩⟩:=hyg 0 .ak rfl;·exact qJ h2
       ·cases h2
      ·rw[show f+1000000-1000000=f from Nat.add_sub_cancel _ _]at h1;exact zM hun hres h1
      ·exact(noG h0 h2 (iA hf)).elim
      ·exact(noG h0 (Nat.le_trans (by decide) h2) (iA hf)).elim
     refine(rL h (a:=a) hd9 (by simp) (jP h args.toList ha) hyl hyg hcon hpf hfree hres).mono ?_;rintro ee w' ⟨v,β',rfl,hR,hrv⟩;refine⟨v,rfl,hK _ _ _ β' hC ?_⟩;rw[←hd,hdd];exact hR.put (fun s hs'=>by injection hs' with hs';omega) hrv
    rw[if_neg h997]at hs;by_cases h996:k=996
    ·rw[if_pos h996]at hs;refine .inl (dJ (jh ho hf) ?_);have hv:args.map a.eval=(args.toList.map a.eval).toArray:=by apply Array.ext';simp
     rw[hv];refine(jq (a:=a) hL hΓ h hdN hf (by simp) (fun ha=>jP h args.toList ha) hs).mono ?_;rintro ee w' ⟨v,β',st',rfl,hK',hR⟩;refine⟨v,rfl,hK _ _ _ β' hK' ?_⟩;rw[←hd];exact hR
    rw[if_neg h996]at hs;obtain⟨d,hdd,ha,hs⟩:=ae hs;obtain⟨X,hX,hs⟩:=ae hs;obtain⟨⟨t,e,rows⟩,hT,hoff,hs⟩:=ae hs;obtain⟨ys,hys,hs⟩:=ae hs;obtain⟨⟨φ,r⟩,hr,hφ,hpf,hfree,hres,hC⟩:=ae hs;have hdlt:d<N:=hdN d hdd;have hlim:=h.qn.1;have hd9:d%1000≠999:=by omega
    refine .inl (dJ (jh ho hf) ?_);have hv:args.map a.eval=(args.toList.map a.eval).toArray:=by apply Array.ext';simp
    rw[hv];have hk:k=998∨k=999:=by omega
    have hpl:p<((args.toList.map (Ab.ev st.vars)).map strip).length:=(List.getElem?_eq_some_iff.1 hX).1;have hcon:CT P f ys r:=by
     rcases hΓ (f+1000000) ys φ r hr hφ with⟨h1,_⟩|⟨_,_,_,h1|h1⟩|⟨h0,h2,_⟩|⟨h0,h2,_⟩;·exact absurd h1 (Nat.not_lt.2 (Nat.le_add_left _ _))
     ·obtain⟨_,hm,_⟩:=pI hys hpl;rw[h1]at hm;cases p with|zero=>simp only[List.getElem?_cons_zero,Option.some.injEq]at hm;rcases hk with rfl|rfl<;>cases hm|succ p=>simp at hm
     ·rwa[show f+1000000-1000000=f from Nat.add_sub_cancel _ _]at h1
     ·exact(noG h0 h2 (iA hf)).elim
     ·exact(noG h0 (Nat.le_trans (by decide) h2) (iA hf)).elim
    refine(AL hL h (a:=a) hd9 hk (by simp) (jP h args.toList ha) hX hT hoff hys hcon hpf hfree hres).mono ?_;rintro ee w' ⟨v,β',rfl,hR,hrv⟩;refine⟨v,rfl,hK _ _ _ β' hC ?_⟩;rw[←hd,hdd];exact hR.put (fun s hs'=>by injection hs' with hs';omega) hrv
   ·cases hig
  ·exact dF hΓ hj hcore h hK hs
  ·rcases hg with⟨hg,_⟩|⟨_,_,_,_,_,hig⟩;·unfold wpOp;rw[hj];dsimp only;rw[eG (P:=P) hg];exact .inl (qT hL hΓ hc hd hdN' h hK hs)
   ·cases hig
  ·rcases hg with⟨_,hig⟩|⟨j',want',s',hg,hj',hig⟩;·cases hig
   ·simp only[Option.some.injEq,Prod.mk.injEq]at hig;obtain⟨rfl,rfl⟩:=hig;unfold DM lW at hs;split at hs
    ·split at hs
     ·obtain⟨c,hcg,hs⟩:=ae hs;unfold wpOp;rw[hj];dsimp only;rw[dD hg hj' (h.vars s) hcg];by_cases hct:c=true
      ·rw[if_pos hct]at hs ⊢;obtain⟨args,argTypes,ho,hf,hx⟩:=lM hc;simp only[hx]at hs;refine .inl (dJ (jh ho hf) ?_);have hv:args.map a.eval=(args.toList.map a.eval).toArray:=by apply Array.ext';simp
       rw[hv];refine(jq (a:=a) hL hΓ h hdN hf (by simp) (fun ha=>jP h args.toList ha) hs).mono ?_;rintro ee w' ⟨v,β',st',rfl,hK',hR⟩;refine⟨v,rfl,hK _ _ _ β' hK' ?_⟩;rw[←hd];exact hR
      ·rw[if_neg hct]at hs ⊢;refine hK _ _ _ β hs ?_;rw[hd];exact h.fi hdN' (.ck _ _ _ (fun e=>by cases e) fun _=>rfl)
     ·exact hs.elim
    have guarded:(ai (bJ (st.vars s) want) fun c=>ai (fC st.aa ((ix.map (ev st.vars)).map strip)) fun ys=>ai (gt Γ f ys) fun x=>if VI x.2=true then(if c=true then lI P Γ ⟨id,.call f,ix,none,[],none⟩ f K st else K ((bE.put (.ck false .ak)).on id st)) else cZ P Γ ⟨id,.call f,ix,some (s,want),iun,itg⟩ K st)→wpOp P ops Q' j K' a w:=by
     intro hs;obtain⟨c,hcg,hs⟩:=ae hs;obtain⟨ys,hys,hs⟩:=ae hs;obtain⟨x,hx,hs⟩:=ae hs;split at hs
     ·unfold wpOp;rw[hj];dsimp only;rw[dD hg hj' (h.vars s) hcg];by_cases hct:c=true;·rw[if_pos hct]at hs ⊢;exact .inl (qT hL hΓ hc hd hdN' h hK hs)
      ·rw[if_neg hct]at hs ⊢;refine hK _ _ _ β hs ?_;rw[hd];exact h.fi hdN' (.ck _ _ _ (fun e=>by cases e) fun _=>rfl)
     ·exact dF hΓ hj hcore h hK hs
    unfold il at hs;split at hs;·exact guarded hs
    ·split at hs
     ·rename_i hf0;have hcg:bJ (st.vars s) want=some false:=by revert hf0;cases bJ (st.vars s) want with|none=>intro h0;cases h0|some b=>cases b with|false=>intro _;rfl|true=>intro h0;cases h0
      unfold wpOp;rw[hj];dsimp only;rw[dD hg hj' (h.vars s) hcg];simp only[Bool.false_eq_true,if_false];refine hK _ _ _ β hs ?_;rw[hd];exact h.fi hdN' (.ck _ _ _ (fun e=>by cases e) fun _=>rfl)
     ·exact guarded hs
  ·exact dF hΓ hj hcore (h.drop hL t) hK hs
  ·exact vj hΓ hj hcore (h.cJ hL l) hK hs
theorem gG (hL:∀b,L b→S0 b) (hΓ:dS P Γ) {j:Nat}{o:Oper}{i:AI}{K:St→Prop}{K':Act→World→Prop} (hj:ops[j]?=some o) (hi:Core P N ops o i) (h:Rel P S0 L B0 w0 N st a w β) (hK:∀st a w β,K st→Rel P S0 L B0 w0 N st a w β→K' a w) (hs:b9 P Γ i K st):wpOp P ops Q' j K' a w:=by
 unfold b9 at hs;split at hs;rotate_left;·exact me hL hΓ hj hi h hK hs
 split at hs;rotate_left;·exact me hL hΓ hj hi h hK hs
 rename_i r hr _;obtain⟨hc,hd,hdN,hg⟩:=hi;have hdN':∀s,o.dst=some s→s<N:=fun s e=>hdN s (hd.trans e);unfold U2 at hr;split at hr;rotate_left;·cases hr
 rename_i e sz b hk _ hig;cases hr;rw[hk]at hc;obtain⟨x,y,t,tx,inf,ho,hxs,ht,htx,hinf,hpos,hz,rfl,rfl⟩:=CQ hc;rw[hxs]at hs;rcases hg with⟨hg,_⟩|⟨_,_,_,_,_,hig'⟩;rotate_left;·rw[hig]at hig';cases hig'
 unfold wpOp;rw[hj];dsimp only;rw[eG (P:=P) hg];obtain⟨ha,hs⟩:=hs;obtain⟨⟨tg,rows,more⟩,hap,⟨b1,b2,b3⟩,h9,hs⟩:=ae hs;obtain⟨v,w',hrun,β',hR⟩:=Xl hL ho ht htx hinf hpos hz h hdN' (h.dr x ha.1) (h.dr y ha.2.1) hap b1 b2 b3 h9;refine .inl (aJ hrun (hK _ _ _ β' hs ?_));rw[hd];exact hR
theorem uw (hL:∀b,L b→S0 b) (hΓ:dS P Γ) {Q:St→Prop} (hcore:∀(j:Nat) (o:Oper),ops[j]?=some o→∃i,is[j]?=some i∧Core P N ops o i) (hQ:∀st a w β,Q st→Rel P S0 L B0 w0 N st a w β→Q' .normal a w) {S:Nat→(St→Prop)→St→Prop} (hS:∀(j:Nat) (i:AI) (K:St→Prop) (st:St),is[j]?=some i→S j K st→cK P Γ i K st):∀(fuel:Nat) (listed:Array Bool) (st:St) (a:Act) (w:World) (β:Nat→Value),Rel P S0 L B0 w0 N st a w β→anyS S ops Q fuel listed st→wpAny P .any ops Q' fuel listed a w:=by intro fuel;induction fuel with|zero=>intro listed st a w β h hs;exact⟨hs.1,hQ _ _ _ _ hs.2 h⟩|succ fuel ih=>
 intro listed st a w β h hs;refine⟨fun h0=>hQ _ _ _ _ (hs.1 h0) h,fun j hj=>?_⟩;have h1:=hs.2 j hj;obtain⟨_,o,ho,_⟩:=mem_ready.1 hj;obtain⟨i,hi,hc⟩:=hcore j o ho;have h2:=hS j i _ st hi h1;have hnext:∀st a w β,anyS S ops Q fuel (listed.setIfInBounds j true) st→Rel P S0 L B0 w0 N st a w β→wpAny P .any ops Q' fuel (listed.setIfInBounds j true) a w:=fun st a w β hK hR=>ih _ st a w β hR hK;unfold cK at h2;split at h2
 ·rename_i f e1 e2 e3;obtain⟨id,ik,ix,ig,iun,itg⟩:=i;simp only at e1 e2 e3;subst e1 e2 e3;have hc':Core P N ops o ⟨id,.call f,ix,none,iun,none⟩:=hc.same rfl rfl rfl rfl;unfold iq at h2;split at h2
  ·rename_i p k hfl;split at h2;·rename_i hk;refine gG hL hΓ ho hc' h hnext ?_;show gZ P Γ _ f (dP Γ f) _ st;rw[hfl];unfold gZ;dsimp only;rw[if_neg (by omega),if_neg (by omega)];exact h2.2
   ·split at h2;·rename_i hk;refine gG hL hΓ ho hc' h hnext ?_;show gZ P Γ _ f (dP Γ f) _ st;rw[hfl];unfold gZ;dsimp only;rw[if_neg (by omega),if_pos hk];exact h2.2
    ·exact h2.elim
  ·have hc2:Core P N ops o ⟨id,.call f,ix,none,[],none⟩:=hc.same rfl rfl rfl rfl;exact dF hΓ ho hc2 h hnext h2
 ·rename_i e1 e2 e3;obtain⟨id,ik,ix,ig,iun,itg⟩:=i;simp only at e1 e2 e3;subst e1 e2 e3;have hc':Core P N ops o ⟨id,.ly,ix,none,iun,none⟩:=hc.same rfl rfl rfl rfl;exact gG hL hΓ ho hc' h hnext h2
 ·exact dF hΓ ho hc h hnext h2
theorem yT {as:Array AI}:∀{l:List AI}{n:Nat},(Av ops as n l).length=l.length∧∀(j:Nat) (i:AI),l[j]?=some i→(Av ops as n l)[j]?=some (if Bg ops as (n+j) i then{i with tg:=some 999999,un:=jT ops as (n+j)} else i)|[],n=>⟨rfl,fun j i h=>by simp at h⟩|x::l,n=>by obtain⟨h1,h2⟩:=yT (as:=as) (l:=l) (n:=n+1);refine⟨by simp[Av,h1],fun j i h=>?_⟩;cases j with|zero=>simp only[List.getElem?_cons_zero,Option.some.injEq]at h;subst h;rfl|succ j=>have:=h2 j i (by simpa using h);rw[show n+1+j=n+(j+1) from by omega]at this;simpa[Av]using this
theorem s5 {Q:St→Prop}{l:List AI}:∀(m k:Nat) (st:St),k+m=l.length→steps P Γ (l.drop k) Q st→Dv (fun j K st=>match l[j]? with|some i=>cK P Γ i K st|none=>False) Q m k st
 |0,k,st,hk,hs=>by
  have hd:l.drop k=[]:=by rw[List.drop_eq_nil_iff];omega
  rw[hd]at hs;exact hs|m+1,k,st,hk,hs=>by
  have hkl:k<l.length:=by omega
  rw[List.drop_eq_getElem_cons hkl]at hs;have hs:cK P Γ l[k] (fun st'=>steps P Γ (l.drop (k+1)) Q st') st:=hs;unfold Dv;rw[List.getElem?_eq_getElem hkl];exact iW (fun st' h=>s5 m (k+1) st' (by omega) h) hs
theorem pZ {as:Array AI}{j:Nat}{x:AI} (h:Bg ops as j x=true):((∃f,x.k=.call f)∨x.k=.ly)∧x.g=none∧x.un=[]∧∀q y,as[q]?=some y→q≠j→(if q<j then bits ops q j else bits ops j q)=false→(KM y x=true∨(q<j∧ldB y x=true))∧∀dd,y.d=some dd→dd∉jT ops as j:=by
 unfold Bg at h;simp only[Bool.and_eq_true,List.all_eq_true,List.mem_range,Bool.or_eq_true,beq_iff_eq,Option.isNone_iff_eq_none]at h;obtain⟨⟨⟨⟨h1,h2⟩,h3⟩,h5⟩,h4⟩:=h;have hf:(∃f,x.k=.call f)∨x.k=.ly:=by
  unfold Gk at h1;split at h1;·rename_i f e;exact .inl ⟨f,e⟩
  ·rename_i e;exact .inr e
  ·cases h1
 refine⟨hf,h2,by simpa using h5,fun q y hy hne hb=>?_⟩;have:=h4 q (Array.getElem?_eq_some_iff.1 hy).1;rw[hy]at this;rcases this with(h|h)|h;·exact absurd h hne
 ·rw[hb]at h;cases h
 ·simp only[Bool.and_eq_true,Bool.or_eq_true,decide_eq_true_eq]at h;refine⟨h.1,fun dd hdd=>?_⟩;have:=h.2;rw[hdd]at this;simpa using this
theorem FT {y x:AI} (h:ldB y x=true):∃dd n s f,y=⟨some dd,.load n,[.tmp s],none,y.un,none⟩∧x.k=.call f∧x.d≠some s∧(cX x).contains dd=false∧x.d≠some dd∧dd≠s∧BF y=[s]:=by
 obtain⟨yd,yk,yxs,yg,yun,ytg⟩:=y;unfold ldB at h;split at h;·rename_i n s dd f e1 e2 e3 e4 e5 e6;simp only at e1 e2 e3 e4 e5;subst e1 e2 e3 e4 e5;simp only[Bool.and_eq_true,bne_iff_ne,ne_eq,Bool.not_eq_true']at h;exact⟨dd,n,s,f,rfl,e6,h.1.1.1,h.1.1.2,h.1.2,h.2,rfl⟩
 ·cases h
theorem EJ {as:Array AI}{q j s:Nat}{y:AI} (hy:as[q]?=some y) (hq:q<j) (hb:bits ops q j=false) (hs:BF y=[s]):s∈jT ops as j:=by unfold jT;rw[List.mem_flatMap];refine⟨q,List.mem_range.2 hq,?_⟩;rw[hb,hy];simp[hs]
theorem Fe (hL:∀b,L b→S0 b) (hΓ:dS P Γ) {Q:St→Prop}{l:List AI} (hl:is=l.toArray) (hsz:is.size=ops.size) (hcore:∀(j:Nat) (o:Oper),ops[j]?=some o→∃i,is[j]?=some i∧Core P N ops o i) (hQ:∀st a w β,Q st→Rel P S0 L B0 w0 N st a w β→Q' .normal a w):∀(m k:Nat) (st:St) (a:Act) (w:World) (β:Nat→Value),k+m=ops.size→Rel P S0 L B0 w0 N st a w β→cW P Γ (l.drop k) Q st→wpOps P ops Q' (List.range' k m) a w:=by intro m;induction m with
 |zero=>
  intro k st a w β hk h hs;have hd:l.drop k=[]:=by rw[List.drop_eq_nil_iff];rw[hl]at hsz;simp at hsz;omega
  rw[hd]at hs;exact hQ _ _ _ _ hs h|succ m ih=>
  intro k st a w β hk h hs;have hkl:k<l.length:=by rw[hl]at hsz;simp at hsz;omega
  have hko:k<ops.size:=by omega
  rw[List.drop_eq_getElem_cons hkl]at hs;have hs:b9 P Γ l[k] (fun st'=>cW P Γ (l.drop (k+1)) Q st') st:=hs;have hok:ops[k]?=some ops[k]:=Array.getElem?_eq_getElem hko;obtain⟨i,hi,hc⟩:=hcore k _ hok;rw[hl]at hi;simp only[List.getElem?_toArray,List.getElem?_eq_getElem hkl,Option.some.injEq]at hi;subst hi;rw[List.range'_succ,wpOps_cons];exact gG hL hΓ hok hc h (fun st a w β hK hR=>ih (k+1) st a w β (by omega) hR hK) hs
theorem Cs {l:List Oper}{js:List AI} (h:sI P N ops l=some js):js.length=l.length∧∀(j:Nat) (o:Oper),l[j]?=some o→∃i,js[j]?=some i∧Core P N ops o i:=by induction l generalizing js with|nil=>simp only[sI,Option.some.injEq]at h;subst h;exact⟨rfl,fun j o h=>by simp at h⟩|cons o l ih=>
 simp only[sI]at h;split at h;·rename_i i is hi his;simp only[Option.some.injEq]at h;subst h;obtain⟨h1,h2⟩:=ih his;refine⟨by simp[h1],fun j o' hj=>?_⟩;cases j with|zero=>simp only[List.getElem?_cons_zero,Option.some.injEq]at hj;subst hj;exact⟨i,rfl,B8 hi⟩|succ j=>exact h2 j o' (by simpa using hj)
 ·cases h
theorem kg {l0:List AI}:∀{l:List AI},(vD l0 l).length=l.length∧∀(j:Nat) (i:AI),l[j]?=some i→∃i',(vD l0 l)[j]?=some i'∧i'.k=i.k∧i'.xs=i.xs∧i'.d=i.d∧i'.g=i.g|[]=>⟨rfl,fun j i h=>by simp at h⟩|x::l=>by obtain⟨h1,h2⟩:=kg (l0:=l0) (l:=l);refine⟨by simp[vD,h1],fun j i h=>?_⟩;cases j with|zero=>simp only[List.getElem?_cons_zero,Option.some.injEq]at h;subst h;exact⟨_,rfl,rfl,rfl,rfl,rfl⟩|succ j=>exact h2 j i (by simpa using h)
theorem jj {l0:List AI}:∀{l:List AI},(pL l0 l).length=l.length∧∀(j:Nat) (i:AI),l[j]?=some i→∃i',(pL l0 l)[j]?=some i'∧i'.k=i.k∧i'.xs=i.xs∧i'.d=i.d∧i'.g=i.g|[]=>⟨rfl,fun j i h=>by simp at h⟩|x::l=>by obtain⟨h1,h2⟩:=jj (l0:=l0) (l:=l);refine⟨by simp[pL,h1],fun j i h=>?_⟩;cases j with|zero=>simp only[List.getElem?_cons_zero,Option.some.injEq]at h;subst h;exact⟨_,rfl,rfl,rfl,rfl,rfl⟩|succ j=>exact h2 j i (by simpa using h)
theorem AP:∀{l pre:List AI},(vq pre l).length=l.length∧∀(j:Nat) (i:AI),l[j]?=some i→∃i',(vq pre l)[j]?=some i'∧i'.k=i.k∧i'.xs=i.xs∧i'.d=i.d∧i'.g=i.g|[],pre=>⟨rfl,fun j i h=>by simp at h⟩|x::l,pre=>by obtain⟨h1,h2⟩:=AP (l:=l) (pre:=x::pre);refine⟨by simp[vq,h1],fun j i h=>?_⟩;cases j with|zero=>simp only[List.getElem?_cons_zero,Option.some.injEq]at h;subst h;refine⟨_,by simp only[vq,List.getElem?_cons_zero];rfl,?_⟩;split<;>exact⟨rfl,rfl,rfl,rfl⟩|succ j=>obtain⟨i',h3,h4⟩:=h2 j i (by simpa using h);exact⟨i',by simpa[vq]using h3,h4⟩
theorem pT {as:Array AI}:∀{l:List AI}{n:Nat},(qO ops as n l).length=l.length∧∀(j:Nat) (i:AI),l[j]?=some i→∃i',(qO ops as n l)[j]?=some i'∧i'.k=i.k∧i'.xs=i.xs∧i'.d=i.d∧i'.g=i.g|[],n=>⟨rfl,fun j i h=>by simp at h⟩|x::l,n=>by obtain⟨h1,h2⟩:=pT (as:=as) (l:=l) (n:=n+1);refine⟨by simp[qO,h1],fun j i h=>?_⟩;cases j with|zero=>simp only[List.getElem?_cons_zero,Option.some.injEq]at h;subst h;exact⟨_,rfl,rfl,rfl,rfl,rfl⟩|succ j=>exact h2 j i (by simpa using h)
theorem np {as:Array AI}:∀{l:List AI}{n:Nat},(jc ops as n l).length=l.length∧∀(j:Nat) (i:AI),l[j]?=some i→∃i',(jc ops as n l)[j]?=some i'∧i'.k=i.k∧i'.xs=i.xs∧i'.d=i.d∧i'.g=i.g|[],n=>⟨rfl,fun j i h=>by simp at h⟩|x::l,n=>by obtain⟨h1,h2⟩:=np (as:=as) (l:=l) (n:=n+1);refine⟨by simp[jc,h1],fun j i h=>?_⟩;cases j with|zero=>simp only[List.getElem?_cons_zero,Option.some.injEq]at h;subst h;exact⟨_,rfl,rfl,rfl,rfl,rfl⟩|succ j=>exact h2 j i (by simpa using h)
theorem free_spec {l:List AI} (h:F8 ops l.toArray=true) (hsz:l.length=ops.size):(∀j,j<ops.size→j4 ops j=true∧∀i,i<j→lY ops i j=true)∧∀(i j:Nat) (x y:AI),l.toArray[i]?=some x→l.toArray[j]?=some y→i<j→bits ops i j=false→Apt x y:=by
 unfold F8 at h;simp only[List.all_eq_true,List.mem_range,Bool.and_eq_true,Bool.or_eq_true]at h;refine⟨fun j hj=>⟨(h j hj).1,fun i hi=>((h j hj).2 i hi).1⟩,fun i j x y hx hy hij hb=>?_⟩;have hj:j<ops.size:=by have:=(Array.getElem?_eq_some_iff.1 hy).1;simp at this;omega
 have:=((h j hj).2 i hij).2;rw[hb,hx,hy]at this;simp only[Bool.false_eq_true,false_or]at this;exact A7 this
theorem yH (hL:∀b,L b→S0 b) (hΓ:dS P Γ) {id:Nat}{draw:Bool}{b:AC}{c7:List Nat}{K:St→Prop}{J:Exit→St→Prop} (hm:P.follows .mixedOrders=true) (hc:comp P N (.region id ops draw)=some b) (h:Rel P S0 L B0 w0 N st a w β) (hK:∀st a w β,K st→Rel P S0 L B0 w0 N st a w β→Q' .normal a w) (hs:iC P Γ (gB c7 b) K J st):(Code.region id ops draw).wp P Q' a w:=by
 unfold comp at hc;split at hc
 ·rename_i js hjs;obtain⟨h1,h2⟩:=Cs hjs;have hQ:∀st a w β,K ⟨jB c7 st.vars,st.aa⟩→Rel P S0 L B0 w0 N st a w β→Q' .normal a w:=by
   intro st a w β hk hR;refine hK _ a w β hk (hR.c7 fun s=>?_);unfold jB;split;·exact .inl rfl
   ·exact .inr rfl
  cases draw with|false=>simp only[Bool.false_eq_true,if_false,Option.some.injEq]at hc;subst hc;obtain⟨a1,a2⟩:=AP (l:=js) (pre:=[]);have hs:cW P Γ (vq [] js) (fun st'=>K ⟨jB c7 st'.vars,st'.aa⟩) st:=hs;refine wp_region ?_;rw[List.range_eq_range'];refine Fe hL hΓ (is:=(vq [] js).toArray) (l:=vq [] js) rfl (by simpa using a1.trans h1) ?_ hQ ops.size 0 st a w β (by simp) h hs;intro j o ho;obtain⟨i,hi,hco⟩:=h2 j o (by simpa using ho);obtain⟨i',hi',g1,g2,g3,g4⟩:=a2 j i hi;exact⟨i',by simpa using hi',hco.same g1 g2 g3 g4⟩|true=>
   simp only[if_true]at hc;rcases Option.or_eq_some_iff.1 hc with hc|⟨_,hc⟩;rotate_left
   ·obtain⟨gs,hdr,t1,t2⟩:∃gs,xU ops gs (mN ops js)=some b∧gs.length=js.length∧∀(j:Nat) (i:AI),js[j]?=some i→∃i',gs[j]?=some i'∧i'.k=i.k∧i'.xs=i.xs∧i'.d=i.d∧i'.g=i.g:=by
     rcases Option.or_eq_some_iff.1 hc with h|⟨_,h⟩;·exact⟨_,h,(kg (l0:=js) (l:=js)).1,(kg (l0:=js) (l:=js)).2⟩
     ·exact⟨_,h,(jj (l0:=js) (l:=js)).1,(jj (l0:=js) (l:=js)).2⟩
    generalize mN ops js=l at hdr;unfold xU at hdr;dsimp only at hdr;split at hdr;rotate_left;·cases hdr
    rename_i hcond;simp only[Option.some.injEq]at hdr;subst hdr;obtain⟨u1,u2⟩:=pT (ops:=ops) (as:=gs.toArray) (l:=gs) (n:=0);generalize qO ops gs.toArray 0 gs=hh at*;obtain⟨w1,w2⟩:=np (ops:=ops) (as:=hh.toArray) (l:=hh) (n:=0);have hs:steps P Γ (l.filterMap fun j=>(jc ops hh.toArray 0 hh)[j]?) (fun st'=>K ⟨jB c7 st'.vars,st'.aa⟩) st:=hs;generalize jc ops hh.toArray 0 hh=ks at*;obtain⟨c1,c2,c3,c4,c5,c6⟩:=hcond;have hlen:ks.length=ops.size:=by rw[w1,u1,t1,h1];simp
    simp only[List.all_eq_true,List.mem_range,Bool.and_eq_true,decide_eq_true_eq,bne_iff_ne,ne_eq]at c3 c4 c5 c6;refine wp_region_any hm ?_;have hfirst:Array.replicate ops.size false=cG ops.size []:=by
     apply Array.ext;·simp[cG]
     ·intro j h1 h2;simp[cG]
    rw[hfirst];have hno:∀(j:Nat) (x:AI),ks[j]?=some x→x.tg≠some 999999:=fun j x hx=>c6 x (List.mem_of_getElem? hx);have hnest:∀(l:List Nat) (st:St),(∀j∈l,j<ops.size)→steps P Γ (l.filterMap fun j=>ks[j]?) (fun st'=>K ⟨jB c7 st'.vars,st'.aa⟩) st→GS (fun j K st=>match ks[j]? with|some i=>cK P Γ i K st|none=>False) (fun st'=>K ⟨jB c7 st'.vars,st'.aa⟩) l st:=by intro l;induction l with|nil=>intro st _ hs;exact hs|cons j l ih=>
     intro st hl hs;have hj:j<ks.length:=by rw[hlen];exact hl j List.mem_cons_self
     have hk:=List.getElem?_eq_getElem hj;rw[List.filterMap_cons_some hk]at hs;show(match ks[j]? with|some i=>cK P Γ i _ st|none=>False);rw[hk];exact iW (fun st h=>ih st (fun j hj=>hl j (List.mem_cons_of_mem _ hj)) h) hs
    have hany:anyS (fun j K st=>match ks[j]? with|some i=>cK P Γ i K st|none=>False) ops (fun st'=>K ⟨jB c7 st'.vars,st'.aa⟩) l.length (cG ops.size []) st:=by
     refine Gp (ks:=ks.toArray) ?_ ?_ c3 ?_ l [] st (fun j hj _=>by simpa using c5 j hj) c4 (fun j hj=>by simp at hj) ?_ c2 (hnest l st c4 hs);·intro j K K' st hK hh;cases hk:ks[j]? with|none=>simp only[hk]at hh|some i=>simp only[hk]at hh ⊢;exact iW hK hh
     ·intro j st hh;cases hk:ks[j]? with|none=>simp only[hk]at hh|some i=>simp only[hk]at hh;exact pw hh
     ·rintro i j K st ⟨x,y,hx,hy,hap⟩ hh;have hx':ks[i]?=some x:=by simpa using hx
      have hy':ks[j]?=some y:=by simpa using hy
      simp only[hx',hy']at hh ⊢;rw[dg (hno i x hx')]at hh;obtain⟨e,he,hK⟩:=cA.1 hh;rw[dg (hno j y hy')]at hK;obtain⟨e',he',hK⟩:=cA.1 hK;obtain⟨e1,e2,hy1,hx2,heq⟩:=swapT (A7 hap) he he';rw[dg (hno j y hy')];refine cA.2 ⟨e1,hy1,?_⟩;rw[dg (hno i x hx')];exact cA.2 ⟨e2,hx2,by rw[heq];exact hK⟩
     ·intro j o hj hl;rw[gP false ((Array.getElem?_eq_some_iff.1 hj).1)]at hl;simp at hl
    rw[c1]at hany;refine uw hL hΓ (is:=ks.toArray) (S:=fun j K st=>match ks[j]? with|some i=>cK P Γ i K st|none=>False) ?_ hQ ?_ ops.size _ st a _ β h.drew hany;·intro j o ho;obtain⟨i,hi,hco⟩:=h2 j o (by simpa using ho);obtain⟨i1,hi1,a1,a2,a3,a4⟩:=t2 j i hi;obtain⟨i2,hi2,b1,b2,b3,b4⟩:=u2 j i1 hi1;obtain⟨i3,hi3,d1,d2,d3,d4⟩:=w2 j i2 hi2;exact⟨i3,by simpa using hi3,hco.same (i':=i3) (d1.trans (b1.trans a1)) (d2.trans (b2.trans a2)) (d3.trans (b3.trans a3)) (d4.trans (b4.trans a4))⟩
    ·intro j i K st hi hh;have hi':ks[j]?=some i:=by simpa using hi
     simp only[hi']at hh;exact hh
   obtain⟨gs,hdr,t1,t2⟩:∃gs,drawn ops gs=some b∧gs.length=js.length∧∀(j:Nat) (i:AI),js[j]?=some i→∃i',gs[j]?=some i'∧i'.k=i.k∧i'.xs=i.xs∧i'.d=i.d∧i'.g=i.g:=by
    rcases Option.or_eq_some_iff.1 hc with h|⟨_,h⟩;·exact⟨_,h,(kg (l0:=js) (l:=js)).1,(kg (l0:=js) (l:=js)).2⟩
    ·exact⟨_,h,(jj (l0:=js) (l:=js)).1,(jj (l0:=js) (l:=js)).2⟩
   unfold drawn at hdr;dsimp only at hdr;split at hdr
   ·rename_i hfree;simp only[Option.some.injEq]at hdr;subst hdr;obtain⟨u1,u2⟩:=pT (ops:=ops) (as:=gs.toArray) (l:=gs) (n:=0);generalize qO ops gs.toArray 0 gs=hh at*;obtain⟨w1,w2⟩:=np (ops:=ops) (as:=hh.toArray) (l:=hh) (n:=0);have hs:steps P Γ (Av ops (jc ops hh.toArray 0 hh).toArray 0 (jc ops hh.toArray 0 hh)) (fun st'=>K ⟨jB c7 st'.vars,st'.aa⟩) st:=hs;generalize jc ops hh.toArray 0 hh=ks at*;obtain⟨m1,m2⟩:=yT (ops:=ops) (as:=ks.toArray) (l:=ks) (n:=0);have hlen:ks.length=ops.size:=by rw[w1,u1,t1,h1];simp
    simp only[Bool.and_eq_true,List.all_eq_true,bne_iff_ne,ne_eq]at hfree;obtain⟨f1,f2⟩:=free_spec hfree.1 hlen;have hno:=hfree.2;refine wp_region_any hm ?_;have hfirst:Array.replicate ops.size false=ez ops.size 0:=by
     apply Array.ext;·simp[ez]
     ·intro j h1 h2;simp[ez]
    rw[hfirst];generalize hms:Av ops ks.toArray 0 ks=ms at*;have hget:∀(j:Nat) (i:AI),ms[j]?=some i→∃i0,ks[j]?=some i0∧((Bg ops ks.toArray j i0=false∧i=i0)∨(Bg ops ks.toArray j i0=true∧i={i0 with tg:=some 999999,un:=jT ops ks.toArray j})):=by
     intro j i hi;have hjl:j<ks.length:=by rw[←m1];exact(List.getElem?_eq_some_iff.1 hi).1
     have h0:=List.getElem?_eq_getElem hjl;have h3:=m2 j _ h0;rw[hi,Nat.zero_add]at h3;refine⟨_,h0,?_⟩;cases hmm:Bg ops ks.toArray j ks[j]with|false=>rw[hmm]at h3;left;exact⟨rfl,by simpa using h3⟩|true=>rw[hmm]at h3;right;exact⟨rfl,by simpa using h3⟩
    refine uw hL hΓ (is:=ms.toArray) (S:=fun j K st=>match ms[j]? with|some i=>cK P Γ i K st|none=>False) ?_ hQ ?_ ops.size _ st a _ β ?_ (Gh ?_ ?_ f1 ?_ ops.size 0 st (by simp) (s5 ops.size 0 st (by rw[m1,hlen];simp) hs))
    ·intro j o ho;obtain⟨i,hi,hco⟩:=h2 j o (by simpa using ho);obtain⟨i1,hi1,a1,a2,a3,a4⟩:=t2 j i hi;obtain⟨i2,hi2,b1,b2,b3,b4⟩:=u2 j i1 hi1;obtain⟨i3,hi3,c1,c2,c3,c4⟩:=w2 j i2 hi2;have h3:=m2 j i3 hi3;have hco3:=hco.same (i':=i3) (c1.trans (b1.trans a1)) (c2.trans (b2.trans a2)) (c3.trans (b3.trans a3)) (c4.trans (b4.trans a4));refine⟨_,by simpa using h3,?_⟩;split;·exact hco3.same rfl rfl rfl rfl
     ·exact hco3
    ·intro j i K st hi hh;have hi':ms[j]?=some i:=by simpa using hi
     simp only[hi']at hh;exact hh
    ·exact h.drew
    ·intro j K K' st hKK hh;cases hi:ms[j]? with|none=>rw[hi]at hh;exact hh.elim|some i=>rw[hi]at hh;exact iW hKK hh
    ·intro j st hh;cases hi:ms[j]? with|none=>rw[hi]at hh;exact hh|some i=>rw[hi]at hh;exact pw hh
    ·intro i j K st hj hij hb hh;cases hi:ms[i]? with|none=>rw[hi]at hh;exact hh.elim|some x=>
      have hjl:j<ms.length:=by rw[m1,hlen];exact hj
      have hjg:=List.getElem?_eq_getElem hjl;generalize ms[j]=y at hjg;simp only[hi,hjg]at hh ⊢;obtain⟨x0,hx0,hx⟩:=hget i x hi;obtain⟨y0,hy0,hy⟩:=hget j y hjg;have hx0':ks.toArray[i]?=some x0:=by simpa using hx0
      have hy0':ks.toArray[j]?=some y0:=by simpa using hy0
      rcases hx with⟨hxm,rfl⟩|⟨hxm,rfl⟩
      ·rcases hy with⟨hym,rfl⟩|⟨hym,rfl⟩;·have nx:=hno x (List.mem_of_getElem? hx0);have ny:=hno y (List.mem_of_getElem? hy0);have hap:=f2 i j x y hx0' hy0' hij hb;rw[dg nx]at hh;rw[dg ny];obtain⟨e,he,hK⟩:=cA.1 hh;rw[dg ny]at hK;obtain⟨e',he',hK⟩:=cA.1 hK;obtain⟨e1,e2,hy1,hx2,heq⟩:=swapT hap he he';refine cA.2 ⟨e1,hy1,?_⟩;rw[dg nx];exact cA.2 ⟨e2,hx2,by rw[heq];exact hK⟩
       ·obtain⟨hk,hg,hun0,hall⟩:=pZ hym;obtain⟨hc,hdu⟩:=hall i x hx0' (by omega) (by rw[if_pos hij];exact hb);rcases hc with hc|⟨_,hc⟩;·have hc':KM x {y0 with tg:=some 999999,un:=jT ops ks.toArray j}=true:=hc;have hsw:=sN (P:=P) (Γ:=Γ) (x:={y0 with tg:=some 999999,un:=jT ops ks.toArray j}) (y:=x) hk hg rfl hc' hdu (K:=K) (st:=st);rw[←hsw]at hh;exact hh
        ·obtain⟨dd,n,s,f,hx1,hyk,g1,g2,g3,g4,g5⟩:=FT hc;have hsm:=EJ hx0' hij hb g5;cases hfl:dP Γ f with|none=>
          have nx:=hno x (List.mem_of_getElem? hx0);have ny:=hno y0 (List.mem_of_getElem? hy0);have hyt:y0.tg=none:=by unfold Bg at hym;simp only[Bool.and_eq_true]at hym;simpa using hym.1.1.2
          have hpl:∀(K:St→Prop) (st:St),cK P Γ {y0 with tg:=some 999999,un:=jT ops ks.toArray j} K st=cZ P Γ y0 K st:=by intro K st;obtain⟨yd,yk,yxs,yg,yun,ytg⟩:=y0;simp only at hyk hg hun0 hyt;subst hyk hg hun0 hyt;show iq P Γ _ f (dP Γ f) K st=_;rw[hfl];rfl
          have hap:=f2 i j x y0 hx0' hy0' hij hb;rw[dg nx]at hh;rw[hpl];obtain⟨e,he,hK⟩:=cA.1 hh;rw[hpl]at hK;obtain⟨e',he',hK⟩:=cA.1 hK;obtain⟨e1,e2,hy1,hx2,heq⟩:=swapT hap he he';refine cA.2 ⟨e1,hy1,?_⟩;rw[dg nx];exact cA.2 ⟨e2,hx2,by rw[heq];exact hK⟩|some pk=>exact JB (x:={y0 with tg:=some 999999,un:=jT ops ks.toArray j}) (y:=x) hyk hg rfl (p:=pk.1) (k:=pk.2) hfl hx1 g1 g2 g3 g4 hsm (hdu dd (by rw[hx1])) hh
      ·obtain⟨hk,hg,_,hall⟩:=pZ hxm;rcases hy with⟨hym,rfl⟩|⟨hym,rfl⟩
       ·obtain⟨hc,hdu⟩:=hall j y hy0' (by omega) (by rw[if_neg (by omega)];exact hb);rcases hc with hc|⟨hlt,_⟩;·have hc':KM y {x0 with tg:=some 999999,un:=jT ops ks.toArray i}=true:=hc;have hsw:=sN (P:=P) (Γ:=Γ) (x:={x0 with tg:=some 999999,un:=jT ops ks.toArray i}) (y:=y) hk hg rfl hc' hdu (K:=K) (st:=st);rw[hsw]at hh;exact hh
        ·omega
       ·exfalso;obtain⟨hc,_⟩:=hall j y0 hy0' (by omega) (by rw[if_neg (by omega)];exact hb);obtain⟨hk',_,_⟩:=pZ hym;rcases hc with hc|⟨hlt,_⟩;·unfold KM at hc;rcases hk' with⟨f',hk'⟩|hk'<;>(rw[hk']at hc;simp at hc)
        ·omega
   ·cases hdr
 ·cases hc
theorem RV.live {S S':Nat→Prop}{D D':Nat→Prop}{β β':Nat→Value}{os:List (Nat×AO)} (hS:∀b,S b→S' b) (hD:∀t,aG (ab os) t→D t→D' t∧β' t=β t) {v:Value}{x:AV} (hx:mm os x) (h:RV P S w β D v x):RV P S' w β' D' v x:=by
 have hS':∀b,S b→S' b∧w.heap[b]?=w.heap[b]?:=fun b hb=>⟨hS b hb,rfl⟩;have hcell:∀{u:Value}{c:AV},jS os c→RV P S w β D u c→RV P S' w β' D' u c:=by intro u c hc h;cases h with|pv v p h=>exact .pv _ _ (h.mono hS')|own t h=>rw[←(hD t hc h).2];exact .own t (hD t hc h).1|ptr t o b h hb=>exact .ptr t o b (hD t hc h).1 ((hD t hc h).2.trans hb)|aY t e i o b n c inf h hi hb=>exact .aY t e i o b n c inf (hD t hc h).1 hi ((hD t hc h).2.trans hb)|sub v t e lo hi inf A A1 n c h hi' hb h1 h2 h3 h4 h5 hv=>exact .sub _ t e lo hi inf A A1 n c (hD t hc h).1 hi' ((hD t hc h).2.trans hb) h1 h2 h3 h4 h5 hv|rp ad cs us h1 h2 h3 h4=>exact .rp ad cs us (hS _ h1) h2 h3 (fun j p hp=>(h4 j p hp).mono hS')|agg cs us hl h=>exact hc.elim|aS cs us hl h=>exact hc.elim|bZ f cs us hl h=>exact hc.elim|ck g v av h=>exact hc.elim|ak v=>exact .ak _
 have hcs:∀{cs:List AV},gx os cs→∀(i:Nat) (c:AV),cs[i]?=some c→jS os c:=by intro cs;induction cs with|nil=>intro _ i c hc;simp at hc|cons x cs ih=>intro hl i c hc;cases i with|zero=>simp only[List.getElem?_cons_zero,Option.some.injEq]at hc;subst hc;exact hl.1|succ i=>exact ih hl.2 i c (by simpa using hc)
 cases h with|pv v p h=>exact hcell (c:=.pv p) trivial (.pv _ _ h)|own t h=>exact hcell (c:=.own t) hx (.own t h)|ptr t o b h hb=>exact hcell (c:=.ptr t o) hx (.ptr t o b h hb)|aY t e i o b n c inf h hi hb=>exact hcell (c:=.aY t e i o) hx (.aY t e i o b n c inf h hi hb)|sub v t e lo hi inf A A1 n c h hi' hb h1 h2 h3 h4 h5 hv=>exact hcell (c:=.sub t e lo hi) hx (.sub v t e lo hi inf A A1 n c h hi' hb h1 h2 h3 h4 h5 hv)|rp ad cs us h1 h2 h3 h4=>exact hcell (c:=.rp cs) trivial (.rp ad cs us h1 h2 h3 h4)|agg cs us hl h=>exact .agg cs us hl fun i c u hc hu=>hcell (hcs hx i c hc) (h i c u hc hu)|aS cs us hl h=>exact .aS cs us hl fun i c u hc hu=>hcell (hcs hx i c hc) (h i c u hc hu)|bZ f cs us hl h=>exact .bZ f cs us hl fun i c u hc hu=>hcell (hcs hx i c hc) (h i c u hc hu)|ck g v av h hu=>exact .ck g v av (fun hg=>hcell hx (h hg)) hu|ak v=>exact .ak _
theorem RV.ef {S:Nat→Prop}{D:Nat→Prop}{v:Value} (h:RV P S w β D v (.pv .nil)):v=.slice none 0 0:=by cases h with|pv v p hp=>cases hp;rfl
theorem DJ:∀{vs:List (Nat×AV)}{s:Nat},look vs s=.ak∨(s,look vs s)∈vs
 |[],_=>.inl rfl|(t,v)::l,s=>by
  simp only[look];split;·rename_i h;subst h;exact .inr List.mem_cons_self
  ·exact(DJ (vs:=l) (s:=s)).imp id (List.mem_cons_of_mem _)
theorem oI:∀{os:List (Nat×AO)}{t:Nat}{o:AO},ab os t=some o→(t,o)∈os
 |[],_,_,h=>by cases h|(s,v)::l,t,o,h=>by
  simp only[ab]at h;split at h;·rename_i h';subst h';simp only[Option.some.injEq]at h;subst h;exact List.mem_cons_self
  ·exact List.mem_cons_of_mem _ (oI h)
theorem Dd {ad:List Nat}{os:List (Nat×AO)}:∀{l:List (Nat×AV)},OI ad st os l→∀s v,(s,v)∈l→v=.ak∨(st.vars s=v∧mm os v)∨(∃t,v=.own t∧ad.contains t=true∧aG (ab os) t∧st.vars s=.pv .nil)
 |[],_,s,v,hm=>by cases hm|(s',v')::l,h,s,v,hm=>by
  rcases List.mem_cons.1 hm with e|hm;·cases e;exact h.1
  ·exact Dd h.2 s v hm
theorem sn {ad:List Nat}{os:List (Nat×AO)}:∀{l:List (Nat×AO)},Pp P ad st os l→∀t o,(t,o)∈l→(st.aa t=some o∧ad.contains t=false∧wJ os o)∨(∃e,o=.arr e []∧ad.contains t=true∧st.aa t=none∧(P.info? e).isSome=true∧t%1000≠999)
 |[],_,s,v,hm=>by cases hm|(s',v')::l,h,s,v,hm=>by
  rcases List.mem_cons.1 hm with e|hm;·cases e;exact h.1
  ·exact sn h.2 s v hm
def nd (β:Nat→Value) (aa:Nat→Option AO):Nat→Value:=fun t=>match aa t with|some _=>β t|none=>.slice none 0 0
theorem yS {ad:List Nat}{f:Fr} (h:Rel P S0 L B0 w0 N st a w β) (hw:wk P ad st f):∃β',Rel P S0 L B0 w0 N f.st a w β':=by
 obtain⟨vs,os⟩:=f;obtain⟨hv,ho⟩:=hw;have hold:∀t,aG st.aa t→nd β st.aa t=β t:=by rintro t ⟨o,ht⟩;unfold nd;rw[ht]
 have hnew:∀t,st.aa t=none→nd β st.aa t=.slice none 0 0:=by intro t ht;unfold nd;rw[ht]
 have hblk:∀t b,aG (ab os) t→ct (nd β st.aa t)=some b→aG st.aa t∧ct (β t)=some b:=by intro t b ht hb;cases hs:st.aa t with|none=>rw[hnew t hs]at hb;simp[ct]at hb|some o=>exact⟨⟨o,hs⟩,by rw[←hold t ⟨o,hs⟩];exact hb⟩
 have hS:∀b,aU S0 w0.heap.size β st.aa w b→aU S0 w0.heap.size (nd β st.aa) (ab os) w b:=by rintro b ⟨h1,h2,h3⟩;refine⟨h1,h2,?_⟩;rintro⟨t,o,ht,hb⟩;obtain⟨⟨o',ho'⟩,hb'⟩:=hblk t b ⟨o,ht⟩ hb;exact h3 ⟨t,o',ho',hb'⟩
 have hD:∀t,aG (ab os) t→aG st.aa t→aG (ab os) t∧nd β st.aa t=β t:=fun t h1 h2=>⟨h1,hold t h2⟩;refine⟨nd β st.aa,h.size,h.defers,fun s=>?_,⟨fun t o ht=>?_,fun t t' b ht ht' hb hb'=>?_⟩,fun t b ht hb=>?_,h.qn,fun t h9 ht=>?_,h.bS⟩
 ·show RV P _ w _ _ _ (look vs s);rcases DJ (vs:=vs) (s:=s) with hj|hm;·rw[hj];exact .ak _
  ·rcases Dd hv s _ hm with hj|⟨he,hl⟩|⟨t,he,hat,hdt,hn⟩;·rw[hj];exact .ak _
   ·have:=h.vars s;rw[he]at this;exact this.live hS hD hl
   ·rw[he];have hs:=h.vars s;rw[hn]at hs;have hval:a.tmps.getD s undef=.slice none 0 0:=hs.ef;obtain⟨o,hot⟩:=hdt;have hnone:st.aa t=none:=by
     rcases sn ho t o (oI hot) with⟨_,h2,_⟩|⟨_,_,_,h3,_⟩;·rw[hat]at h2;cases h2
     ·exact h3
    rw[hval,←hnew t hnone];exact .own t ⟨o,hot⟩
 ·have ht':ab os t=some o:=ht;rcases sn ho t o (oI ht') with⟨h1,h2,h3⟩|⟨e,rfl,h2,h3,h4,_⟩;·have hh:=h.heap.holds t o h1;have hbt:=hold t ⟨o,h1⟩;cases o with
   |box cs=>
    obtain⟨b,us,ty,hp,hhp,hl,hc⟩:=hh;refine⟨b,us,ty,hbt.trans hp,hhp,hl,fun i c u hci hui=>⟨(hc i c u hci hui).1,?_⟩⟩;have hlc:∀{cs:List AV},gx os cs→∀(i:Nat) (c:AV),cs[i]?=some c→jS os c:=by intro cs;induction cs with|nil=>intro _ i c hc;simp at hc|cons x cs ih=>intro hl i c hc;cases i with|zero=>simp only[List.getElem?_cons_zero,Option.some.injEq]at hc;subst hc;exact hl.1|succ i=>exact ih hl.2 i c (by simpa using hc)
    have hcc:jS os c:=hlc h3 i c hci;have hcv:mm os c:=by cases c<;>first|exact hcc|exact hcc.elim
    exact(hc i c u hci hui).2.live hS hD hcv|arr e rows=>obtain⟨inf,us,hi,how,hr,hc⟩:=hh;refine⟨inf,us,hi,by show w.ownsRow 0 e inf.size (nd β st.aa t) _ _;rw[hbt];exact how,hr,fun i j r p h1 h2=>?_⟩;obtain⟨u,hu,hone,hp⟩:=hc i j r p h1 h2;exact⟨u,hu,hone,hp.mono fun b hb=>⟨hS b hb,rfl⟩⟩|map es=>obtain⟨b,us,cl,hp,hhp,hl,hc⟩:=hh;exact⟨b,us,cl,hbt.trans hp,hhp,hl,fun i e u h1 h2=>⟨(hc i e u h1 h2).1,(hc i e u h1 h2).2.mono (fun b hb=>⟨hS b hb,rfl⟩) fun _ hf=>hf.elim⟩⟩|iF es=>exact bn.mono (D:=fun _=>False) (show bn P _ w β (fun _=>False) t (.iF es) from hh) (fun b hb=>⟨hS b hb,rfl⟩) (fun _ hf=>hf.elim) hbt (fun _ _=>rfl)|nC rem cur=>exact bn.mono (D:=fun _=>False) (show bn P _ w β (fun _=>False) t (.nC rem cur) from hh) (fun b hb=>⟨hS b hb,rfl⟩) (fun _ hf=>hf.elim) hbt (fun _ _=>rfl)|rws e cs=>
    obtain⟨inf,us,hi,h1s,how,hc⟩:=hh;refine⟨inf,us,hi,h1s,by rw[hbt];exact how,fun i c u hci hui=>⟨(hc i c u hci hui).1,?_⟩⟩;have hlc:∀{cs:List AV},gx os cs→∀(i:Nat) (c:AV),cs[i]?=some c→jS os c:=by intro cs;induction cs with|nil=>intro _ i c hc;simp at hc|cons x cs ih=>intro hl i c hc;cases i with|zero=>simp only[List.getElem?_cons_zero,Option.some.injEq]at hc;subst hc;exact hl.1|succ i=>exact ih hl.2 i c (by simpa using hc)
    have hcc:jS os c:=hlc h3 i c hci;have hcv:mm os c:=by cases c<;>first|exact hcc|exact hcc.elim
    exact(hc i c u hci hui).2.live hS hD hcv
  ·obtain⟨inf,hi⟩:=Option.isSome_iff_exists.1 h4;refine⟨inf,[],hi,?_,fun r hr=>by simp at hr,fun i j r p hr=>by simp at hr⟩;show w.ownsRow 0 e inf.size (nd β st.aa t) _ _;rw[hnew t h3];exact World.ownsRow_nil w 0 e inf.size
 ·obtain⟨d1,b1⟩:=hblk t b ht hb;obtain⟨d2,b2⟩:=hblk t' b ht' hb';exact h.heap.inj t t' b d1 d2 b1 b2
 ·obtain⟨d1,b1⟩:=hblk t b ht hb;exact h.old t b d1 b1
 ·obtain⟨o,hot⟩:=ht;rcases sn ho t o (oI hot) with⟨h1,_,_⟩|⟨_,_,_,_,_,h6⟩;·rw[hold t ⟨o,h1⟩];exact h.u5 t h9 ⟨o,h1⟩
  ·exact absurd h9 h6
end
theorem tY {P:Program}{Γ:bR} (hΓ:dS P Γ) {S0 L:Nat→Prop}{B0:Nat→Value} (hL:∀b,L b→S0 b) {w0:World}{N:Nat} (hm:P.follows .mixedOrders=true) (c7:List Nat):∀(c:Code) (b:AC),comp P N c=some b→∀(K:St→Prop) (J:Exit→St→Prop) (Q:Exit→Act→World→Prop) (st:St) (a:Act) (w:World) (β:Nat→Value),(∀st a w β,K st→Rel P S0 L B0 w0 N st a w β→Q .normal a w)→(∀st a w β id,J (.exit id) st→Rel P S0 L B0 w0 N st a w β→Q (.exit id) a w)→(∀st a w β,J .ret st→Rel P S0 L B0 w0 N st a w β→Q .ret a w)→Rel P S0 L B0 w0 N st a w β→iC P Γ (gB c7 b) K J st→c.wp P Q a w:=by intro c;induction c with
 |skip=>intro b hb K J Q st a w β hK _ _ h hs;simp only[comp,Option.some.injEq]at hb;subst hb;exact wp_skip (hK _ _ _ _ hs h)|region id ops draw=>intro b hb K J Q st a w β hK _ _ h hs;exact yH hL hΓ hm hb h hK hs|seq x y ihx ihy=>
  intro b hb K J Q st a w β hK hE hR h hs;simp only[comp]at hb;split at hb
  ·rename_i bx by' hx hy;simp only[Option.some.injEq]at hb;subst hb;refine wp_seq (ihx bx hx (fun st'=>iC P Γ (gB c7 by') K J st') J _ st a w β ?_ ?_ ?_ h hs);·intro st a w β hv hr;exact ihy by' hy K J Q st a w β hK hE hR hr hv
   ·exact fun st a w β id hj hr=>hE st a w β id hj hr
   ·exact fun st a w β hj hr=>hR st a w β hj hr
  ·cases hb|cond x c1 c2 ih1 ih2=>
  intro b hb K J Q st a w β hK hE hR h hs;simp only[comp]at hb;split at hb
  ·rename_i b1 b2 h1 h2;simp only[Option.some.injEq]at hb;subst hb;obtain⟨t,ht,hc1,hc2⟩:=ae (show ai _ _ from hs);have hx:=h.ev x;generalize Ab.ev st.vars x=X at ht hx;have hxe:a.eval x=.bool t:=by cases X with|pv p=>cases p<;>simp[ja]at ht;subst ht;exact hx.eC|_=>simp[ja]at ht
   exact wp_cond_split hxe (fun e=>ih1 b1 h1 K J Q st a w β hK hE hR h (hc1 e)) (fun e=>ih2 b2 h2 K J Q st a w β hK hE hR h (hc2 e))
  ·cases hb|block id x ih=>
  intro b hb K J Q st a w β hK hE hR h hs;simp only[comp]at hb;obtain⟨b1,h1,rfl⟩:=Option.map_eq_some_iff.1 hb;refine wp_block (ih b1 h1 K (qY id K J) _ st a w β hK ?_ ?_ h hs)
  ·intro st a w β id' hj hr;simp only[qY]at hj;simp only[Exit.inBlock];split at hj;·rename_i e;rw[if_pos e];exact hK _ _ _ _ hj hr
   ·rename_i e;rw[if_neg e];exact hE _ _ _ _ _ hj hr
  ·exact fun st a w β hj hr=>hR st a w β hj hr|loop x ih=>
  intro b hb K J Q st a w β hK hE hR h hs;simp only[comp]at hb;obtain⟨b1,h1,rfl⟩:=Option.map_eq_some_iff.1 hb;obtain⟨ι,F,μ,ad,shs,i0,hw,hround⟩:=hs;obtain⟨β0,h0⟩:=yS (h.cE hL _) hw;refine wp_loop_ghost (fun n a w=>∃i β,μ i=n∧Rel P S0 L B0 w0 N (F i).st a w β) (μ i0) ⟨i0,β0,rfl,h0⟩ ?_;rintro n a w ⟨i,β,rfl,hr⟩;refine ih b1 h1 _ J _ (F i).st a w β ?_ ?_ ?_ hr (hround i);·rintro st a w β ⟨i',hw',hlt⟩ hr;obtain⟨β',hr'⟩:=yS (hr.cE hL _) hw';exact⟨μ i',hlt,i',β',rfl,hr'⟩
  ·exact fun st a w β id hj hr=>hE st a w β id hj hr
  ·exact fun st a w β hj hr=>hR st a w β hj hr|exit id=>intro b hb K J Q st a w β hK hE hR h hs;simp only[comp,Option.some.injEq]at hb;subst hb;exact wp_exit (hE _ _ _ _ _ hs h)|ret=>intro b hb K J Q st a w β hK hE hR h hs;simp only[comp,Option.some.injEq]at hb;subst hb;exact wp_ret (hR _ _ _ _ hs h)|scope x ih=>
  intro b hb K J Q st a w β hK hE hR h hs;simp only[comp]at hb;refine wp_scope_straight (ih b hb K J _ st a w β ?_ ?_ ?_ h hs);·exact fun st a w β hj hr=>hK st a w β hj hr
  ·exact fun st a w β id hj hr=>hE st a w β id hj hr
  ·exact fun st a w β hj hr=>hR st a w β hj hr|label l=>intro b hb K J Q st a w β hK _ _ h hs;simp only[comp,Option.some.injEq]at hb;subst hb;exact wp_label (hK _ _ _ _ hs h)|_=>intro b hb;simp[comp]at hb
section
variable{P:Program}{S0 L:Nat→Prop}{B0:Nat→Value}{w0 w:World}{N:Nat}{st:St}{a:Act}{β:Nat→Value}
def A4 (tmps:Array Value):ResultVar→Sem Value|.tmp t=>pure (tmps.getD t undef)|.cell a t=>do loadVar t (←asAddr (tmps.getD a undef))
theorem Co (fn:Func) (tmps:Array Value):results fn tmps=(do
 let vs←fn.results.mapM (A4 tmps)
 pure (if h:vs.size=1 then vs[0] else .tuple vs)):=by
 unfold results;have:(fun(x:ResultVar)=>match x with|.tmp t=>(pure (tmps.getD t undef):Sem Value)|.cell a t=>do loadVar t (←asAddr (tmps.getD a undef)))=A4 tmps:=by funext x;cases x<;>rfl
 rw[←this];rfl
theorem Gg {n:Option Nat}{S:Nat→Prop}{D:Nat→Prop}{aa:Nat→Option AO}{v:Value}{X:AV}{r:Prop×AV} (hX:RV P S w β D v X) (h:al (.load n) [X] aa=some r):∃ad,v=.pointer (some ad):=by cases hX with|ptr t o b h hb=>exact⟨_,rfl⟩|aY t e i o b n c inf h hi hb=>exact⟨_,rfl⟩|rp ad cs us h1 h2 h3 h4=>exact⟨_,rfl⟩|_=>cases n<;>simp[al]at h
theorem Hw {t:TypeId}{n:Option Nat}{s:Nat}{φ:Prop}{v:AV} (h:Rel P S0 L B0 w0 N st a w β) (ht:mZ P t=some n) (hs:al (.load n) [st.vars s] st.aa=some (φ,v)) (hφ:φ):∃r,(A4 a.tmps (.cell s t)).run P w=.ok r w∧RV P (aU S0 w0.heap.size β st.aa w) w β (aG st.aa) r v:=by
 obtain⟨ad,had⟩:=Gg (h.vars s) hs;let o:Oper:={(default:Oper) with op:=.load t (.tmp s)};have key:∃r,(execOp a.eval o).run P w=.ok (.value r) w∧RV P (aU S0 w0.heap.size β st.aa w) w β (aG st.aa) r v:=by cases n with|none=>exact DA (o:=o) rfl ht h.heap (h.ev (.tmp s)) hs hφ|some n=>exact DW (o:=o) rfl ht h.heap (h.ev (.tmp s)) hs hφ
 obtain⟨r,hr,hv⟩:=key;refine⟨r,?_,hv⟩;have he:a.eval (.tmp s)=.pointer (some ad):=had;have h1:(execOp a.eval o).run P w=((loadVar t ad).run P w).andThen fun r w'=>.ok (.value r) w':=by simp[execOp,o,Instr.loadAt,he,Instr.sureAddr]
 have h2:(A4 a.tmps (.cell s t)).run P w=(loadVar t ad).run P w:=by simp[A4,had,asAddr]
 rw[h2];rw[h1]at hr;cases hl:(loadVar t ad).run P w with|ok r' w'=>rw[hl]at hr;simp only[Result.andThen,Result.ok.injEq,Next.value.injEq]at hr;rw[hr.1,hr.2]|halt x w'=>rw[hl]at hr;cases hr
theorem qf:∀(l:List ResultVar) (rs:List (Nat×Option (Option Nat))) (C:List AV→Prop),iB P l=some rs→Rel P S0 L B0 w0 N st a w β→cM st rs C→∃us vs,C vs∧us.length=vs.length∧(∀(i:Nat) (v:AV) (u:Value),vs[i]?=some v→us[i]?=some u→RV P (aU S0 w0.heap.size β st.aa w) w β (aG st.aa) u v)∧(l.mapM (A4 a.tmps)).run P w=.ok us w
 |[],rs,C,hr,h,hC=>by simp only[iB,Option.some.injEq]at hr;subst hr;exact⟨[],[],hC,rfl,fun i v u h=>by simp at h,by simp⟩|.tmp t::l,rs,C,hr,h,hC=>by
  simp only[iB,Option.map_eq_some_iff]at hr;obtain⟨rs',hr',rfl⟩:=hr;obtain⟨us,vs,h1,h2,h3,h4⟩:=qf l rs' _ hr' h hC;refine⟨a.tmps.getD t undef::us,st.vars t::vs,h1,by simp[h2],fun i v u hv hu=>?_,?_⟩;·cases i with|zero=>simp only[List.getElem?_cons_zero,Option.some.injEq]at hv hu;subst hv hu;exact h.vars t|succ i=>exact h3 i v u (by simpa using hv) (by simpa using hu)
  ·simp[List.mapM_cons,A4,h4]|.cell s t::l,rs,C,hr,h,hC=>by
  simp only[iB,Option.bind_eq_some_iff,Option.map_eq_some_iff]at hr;obtain⟨n,hn,rs',hr',rfl⟩:=hr;obtain⟨⟨φ,x⟩,hx,hφ,hC⟩:=ae (show ai (al (.load n) [st.vars s] st.aa) _ from hC);obtain⟨us,vs,h1,h2,h3,h4⟩:=qf l rs' _ hr' h hC;obtain⟨r,hrun,hv⟩:=Hw h hn hx hφ;refine⟨r::us,x::vs,h1,by simp[h2],fun i v u hv' hu=>?_,?_⟩;·cases i with|zero=>simp only[List.getElem?_cons_zero,Option.some.injEq]at hv' hu;subst hv' hu;exact hv|succ i=>exact h3 i v u (by simpa using hv') (by simpa using hu)
  ·rw[List.mapM_cons];simp[hrun,h4]
theorem iG {fn:Func}{rs:List (Nat×Option (Option Nat))}{C:List AV→Prop} (hr:iB P fn.results.toList=some rs) (h:Rel P S0 L B0 w0 N st a w β) (hC:cM st rs C):∃v vs,C vs∧(results fn a.tmps).run P w=.ok v w∧RV P (aU S0 w0.heap.size β st.aa w) w β (aG st.aa) v (bU vs):=by
 obtain⟨us,vs,h1,h2,h3,h4⟩:=qf _ rs C hr h hC;have hrun:(fn.results.mapM (A4 a.tmps)).run P w=.ok us.toArray w:=by rw[Array.mapM_eq_mapM_toList];simp[h4]
 have hres:(results fn a.tmps).run P w=.ok (if h:us.toArray.size=1 then us.toArray[0] else .tuple us.toArray) w:=by rw[Co];simp[hrun]
 refine⟨_,vs,h1,hres,?_⟩;rcases us with _|⟨u,_|⟨u2,us⟩⟩;·have:vs=[]:=List.eq_nil_of_length_eq_zero (by simpa using h2.symm);subst this;exact .aS [] [] rfl fun i c u h=>by simp at h
 ·rcases vs with _|⟨v,_|⟨v2,vs⟩⟩;·simp at h2
  ·exact h3 0 v u rfl rfl
  ·simp at h2
 ·rcases vs with _|⟨v,_|⟨v2,vs⟩⟩;·simp at h2
  ·simp at h2
  ·exact .aS (v::v2::vs) (u::u2::us) (by simpa using h2) fun i c u hc hu=>h3 i c u hc hu
end
section
variable{P:Program}{aa:Nat→Option AO}
theorem su {x r:AV} (h:vn P aa x r):(∀cs,r≠.agg cs)∧(∀cs,r≠.aS cs):=by constructor<;>rintro cs rfl<;>(have h:x=_∧lz _=true:=h;simp[lz]at h)
theorem u3:∀{cs rs:List AV},xA P aa cs rs→cs.length=rs.length∧∀(k:Nat) (c:AV),rs[k]?=some c→∃x,cs[k]?=some x∧vn P aa x c
 |[],[],_=>⟨rfl,fun k c h=>by simp at h⟩|x::cs,r::rs,h=>by obtain⟨h1,h2⟩:=u3 h.2;refine⟨by simp[h1],fun k c hk=>?_⟩;cases k with|zero=>simp only[List.getElem?_cons_zero,Option.some.injEq]at hk;subst hk;exact⟨x,rfl,h.1⟩|succ k=>exact h2 k c (by simpa using hk)
 |[],_::_,h=>h.elim|_::_,[],h=>h.elim
theorem nZ:∀{cs rs:List AV},zE P aa cs rs→cs.length=rs.length∧∀(k:Nat) (c:AV),rs[k]?=some c→∃x,cs[k]?=some x∧Dm P aa x c
 |[],[],_=>⟨rfl,fun k c h=>by simp at h⟩|x::cs,r::rs,h=>by obtain⟨h1,h2⟩:=nZ h.2;refine⟨by simp[h1],fun k c hk=>?_⟩;cases k with|zero=>simp only[List.getElem?_cons_zero,Option.some.injEq]at hk;subst hk;exact⟨x,rfl,h.1⟩|succ k=>exact h2 k c (by simpa using hk)
 |[],_::_,h=>h.elim|_::_,[],h=>h.elim
theorem qh {v r:AV} (h:Dm P aa v r):(∃cs rs,v=.agg cs∧r=.agg rs∧xA P aa cs rs)∨((∀cs,v≠.agg cs)∧vn P aa v r):=by cases v with
 |agg cs=>cases r with|agg rs=>exact .inl ⟨cs,rs,rfl,rfl,h⟩|_=>exact h.elim
 |_=>exact .inr ⟨fun cs e=>(by cases e),h⟩
theorem uG {v r:AV} (h:fz P aa v r):(∃cs rs,v=.aS cs∧r=.aS rs∧cs.length≤1000∧zE P aa cs rs)∨((∀cs,v≠.aS cs)∧(∀cs,r≠.aS cs)∧Dm P aa v r):=by
 have hr:∀{v:AV},(∀cs,v≠.aS cs)→Dm P aa v r→∀cs,r≠.aS cs:=by
  intro v hv h cs e;subst e;rcases qh h with⟨cs',rs,_,h2,_⟩|⟨_,h2⟩;·cases h2
  ·exact(su h2).2 _ rfl
 have hv:(∃cs,v=.aS cs)∨((∀cs,v≠.aS cs)∧fz P aa v r=Dm P aa v r):=by cases v<;>first|exact .inl ⟨_,rfl⟩|exact .inr ⟨fun cs e=>(by cases e),rfl⟩
 rcases hv with⟨cs,rfl⟩|⟨h1,h2⟩;·cases r with|aS rs=>exact .inl ⟨cs,rs,rfl,rfl,h⟩|_=>exact h.elim
 ·rw[h2]at h;exact .inr ⟨h1,hr h1 h,h⟩
theorem AA {v r:AV} (h:Dm P aa v r) {j:Nat}{c:AV} (hc:bI r j=some c):∃x,bI v j=some x∧vn P aa x c:=by
 rcases qh h with⟨cs,rs,rfl,rfl,h⟩|⟨h1,h2⟩;·exact(u3 h).2 j c hc
 ·rw[gg r (su h2).1]at hc;rw[gg v h1];split at hc;·rename_i hj;simp only[Option.some.injEq]at hc;subst hc;exact⟨v,by simp[hj],h2⟩
  ·cases hc
theorem Dk {v r:AV} (h:fz P aa v r) {p:Nat}{c:AV} (hc:cellAt r p=some c):∃x,cellAt v p=some x∧vn P aa x c:=by
 rcases uG h with⟨cs,rs,rfl,rfl,hl,h⟩|⟨h1,h2,h3⟩;·obtain⟨y,hy,hc⟩:=Option.bind_eq_some_iff.1 (show(rs[p%1000]?).bind _=some c from hc);obtain⟨x,hx,hf⟩:=(nZ h).2 _ y hy;obtain⟨z,hz,hf⟩:=AA hf hc;exact⟨z,by simp[cellAt,hx,hz],hf⟩
 ·rw[eM r h2]at hc;rw[eM v h1];split at hc;·rename_i hp;rw[if_pos hp];exact AA h3 hc
  ·cases hc
theorem Dx {v r:AV}{g:Nat→AV→AV} (h:Dm P aa v r) (hg:∀j c x,bI r j=some c→bI v j=some x→vn P aa x c→g (1000*j) c=x):v=mX g r:=by
 rcases qh h with⟨cs,rs,rfl,rfl,h⟩|⟨h1,h2⟩;·obtain⟨hl,hk⟩:=u3 h;refine congrArg AV.agg (List.ext_getElem? fun k=>?_);rw[mK,Nat.zero_add];cases hr:rs[k]? with|none=>rw[List.getElem?_eq_none_iff]at hr;rw[List.getElem?_eq_none (by omega)];rfl|some c=>obtain⟨x,hx,hf⟩:=hk k c hr;rw[hx];simp only[Option.map_some,Option.some.injEq];exact(hg k c x hr hx hf).symm
 ·have hm:mX g r=g 0 r:=by have:=(su h2).1;cases r<;>first|rfl|exact absurd rfl (this _)
  rw[hm];refine(hg 0 r v ?_ ?_ h2).symm;·rw[gg r (su h2).1];rfl
  ·rw[gg v h1];rfl
theorem MW {v r:AV}{g:Nat→AV→AV} (h:fz P aa v r) (hg:∀p c x,cellAt r p=some c→cellAt v p=some x→vn P aa x c→g p c=x):v=cR g r:=by
 rcases uG h with⟨cs,rs,rfl,rfl,hl,h⟩|⟨h1,h2,h3⟩;·obtain⟨hl',hk⟩:=nZ h;refine congrArg AV.aS (List.ext_getElem? fun k=>?_);rw[mT,Nat.zero_add];cases hr:rs[k]? with|none=>rw[List.getElem?_eq_none_iff]at hr;rw[List.getElem?_eq_none (by omega)];rfl|some c=>
  obtain⟨x,hx,hf⟩:=hk k c hr;rw[hx];simp only[Option.map_some,Option.some.injEq];have hk1:k<1000:=by have:=(List.getElem?_eq_some_iff.1 hx).1;omega
  refine Dx hf fun j c' x' h1 h2 h3=>hg _ c' x' ?_ ?_ h3
  ·show(rs[(1000*j+k)%1000]?).bind _=_;have e1:(1000*j+k)%1000=k:=by omega
   have e2:(1000*j+k)/1000=j:=by omega
   rw[e1,e2,hr];exact h1
  ·show(cs[(1000*j+k)%1000]?).bind _=_;have e1:(1000*j+k)%1000=k:=by omega
   have e2:(1000*j+k)/1000=j:=by omega
   rw[e1,e2,hx];exact h2
 ·have hm:cR g r=mX g r:=by cases r<;>first|rfl|exact absurd rfl (h2 _)
  rw[hm];refine Dx h3 fun j c x a1 a2 a3=>?_;refine hg _ c x ?_ ?_ a3;·rw[eM r h2];simp[a1]
  ·rw[eM v h1];simp[a2]
def qc (t:Nat) (c:AV):Prop:=c=.own t∨∃e lo hi,c=.sub t e lo hi
theorem Ax:∀{cs:List AV}{n j t:Nat}{c:AV},cs[j]?=some c→qc t c→(1000*(n+j),t)∈qv n cs|[],n,j,t,c,h,_=>by simp at h|x::cs,n,j,t,c,h,hc=>by cases j with|zero=>simp only[List.getElem?_cons_zero,Option.some.injEq]at h;subst h;rcases hc with rfl|⟨e,lo,hi,rfl⟩<;>exact List.mem_cons_self|succ j=>
 have:=Ax (n:=n+1) (j:=j) (cs:=cs) (t:=t) (by simpa using h) hc;have e:n+1+j=n+(j+1):=by omega
 rw[e]at this;cases x<;>first|exact List.mem_cons_of_mem _ this|exact this
theorem C5 {v c:AV}{j t:Nat} (h:bI v j=some c) (hc:qc t c):(1000*j,t)∈PN v:=by cases v with
 |agg cs=>have:=Ax (n:=0) (j:=j) (cs:=cs) (t:=t) h hc;rw[Nat.zero_add]at this;exact this|own s=>
  simp only[bI]at h;split at h
  ·rename_i hj;simp only[Option.some.injEq]at h;subst hj h;rcases hc with h|⟨e,lo,hi,h⟩;·cases h;exact List.mem_cons_self
   ·cases h
  ·cases h|sub s e lo hi=>
  simp only[bI]at h;split at h
  ·rename_i hj;simp only[Option.some.injEq]at h;subst hj h;rcases hc with h|⟨e,lo,hi,h⟩;·cases h
   ·cases h;exact List.mem_cons_self
  ·cases h|_=>
  simp only[bI]at h;split at h;·simp only[Option.some.injEq]at h;subst h;rcases hc with h|⟨e,lo,hi,h⟩<;>cases h
  ·cases h
theorem AB:∀{vs:List AV}{n i j t:Nat}{c:AV},(vs[i]?).bind (fun v=>bI v j)=some c→qc t c→(1000*j+(n+i),t)∈BN n vs|[],n,i,j,t,c,h,_=>by simp at h|v::vs,n,i,j,t,c,h,hc=>by cases i with|zero=>simp only[List.getElem?_cons_zero,Option.bind_some]at h;exact List.mem_append_left _ (List.mem_map.2 ⟨_,C5 h hc,rfl⟩)|succ i=>
 have:=AB (n:=n+1) (i:=i) (j:=j) (vs:=vs) (t:=t) (by simpa using h) hc;have e:n+1+i=n+(i+1):=by omega
 rw[e]at this;exact List.mem_append_right _ this
theorem yw {v c:AV}{p t:Nat} (h:cellAt v p=some c) (hc:qc t c):(p,t)∈pl v:=by
 have hne:(∀cs,v≠.aS cs)→(p,t)∈pl v:=by
  intro hv;rw[eM v hv]at h;split at h
  ·have:=C5 h hc;have e:1000*(p/1000)=p:=by omega
   rw[e]at this;cases v<;>first|exact this|exact absurd rfl (hv _)
  ·cases h
 cases v with|aS vs=>
  have:=AB (n:=0) (i:=p%1000) (j:=p/1000) (vs:=vs) (t:=t) h hc;have e:1000*(p/1000)+(0+p%1000)=p:=by omega
  rw[e]at this;exact this|_=>exact hne fun cs e=>by cases e
theorem wZ:∀{l:List (Nat×Nat)},kI l→∀{p q t:Nat},(p,t)∈l→(q,t)∈l→p=q
 |[],_,p,q,t,h1,_=>by cases h1|x::l,h,p,q,t,h1,h2=>by
  rcases List.mem_cons.1 h1 with e1|h1<;>rcases List.mem_cons.1 h2 with e2|h2;·have:=e1.trans e2.symm;simpa using this
  ·exact absurd (by rw[←e1]) (h.1 _ h2)
  ·exact absurd (by rw[←e2]) (h.1 _ h1)
  ·exact wZ h.2 h1 h2
end
def nv (i:Nat):List AV→List (Nat×AV)|[]=>[]|v::vs=>(i,v)::nv (i+1) vs
theorem pW:∀(vs:List AV) (i s:Nat),look (nv i vs) s=if i≤s then(vs[s-i]?).getD .ak else .ak
 |[],i,s=>by simp[nv,look]|v::vs,i,s=>by
  simp only[nv,look,pW vs (i+1) s];by_cases h:s=i;·subst h;simp
  ·rw[if_neg h];by_cases h1:i≤s
   ·have h2:i+1≤s:=by omega
    have h3:s-i=(s-(i+1))+1:=by omega
    rw[if_pos h1,if_pos h2,h3];rfl
   ·rw[if_neg h1,if_neg (by omega)]
theorem zx {P:Program}{S:Nat→Prop}{w:World}{β:Nat→Value}{D:Nat→Prop}{v:Value}{X c:AV}{j:Nat} (h:RV P S w β D v X) (hc:bI X j=some c):∃u,RV P S w β D u c:=by cases X with
 |agg cs=>
  obtain⟨us,rfl,hl,hcs⟩:=h.cN;have hc:cs[j]?=some c:=hc;have hlt:j<us.length:=by rw[hl];exact(List.getElem?_eq_some_iff.1 hc).1
  exact⟨_,hcs j c _ hc (List.getElem?_eq_getElem hlt)⟩|_=>
  simp only[bI]at hc;split at hc;·simp only[Option.some.injEq]at hc;subst hc;exact⟨v,h⟩
  ·cases hc
theorem Kb {P:Program}{S:Nat→Prop}{w:World}{β:Nat→Value}{D:Nat→Prop}{v:Value}{X c:AV}{q:Nat} (h:RV P S w β D v X) (hc:cellAt X q=some c):∃u,RV P S w β D u c:=by
 by_cases hx:∃vs,X=.aS vs
 ·obtain⟨vs,rfl⟩:=hx;obtain⟨us,rfl,hl,hcs⟩:=h.iE;obtain⟨y,hy,hc⟩:=Option.bind_eq_some_iff.1 (show(vs[q%1000]?).bind _=some c from hc);have hlt:q%1000<us.length:=by rw[hl];exact(List.getElem?_eq_some_iff.1 hy).1
  exact zx (hcs _ y _ hy (List.getElem?_eq_getElem hlt)) hc
 ·rw[eM X (fun vs e=>hx ⟨vs,e⟩)]at hc;split at hc;·exact zx h hc
  ·cases hc
theorem sH {aa:Nat→Option AO}{l:List (Nat×Nat)}:∀{hout:List (Nat×AO)},pH aa l hout→∀t o,ab hout t=some o→aa t=some o∧∀y∈l,y.2≠t
 |[],_,t,o,h=>by cases h|(s,o')::hout,hb,t,o,h=>by
  simp only[ab]at h;split at h;·rename_i e;subst e;cases h;exact⟨hb.1,hb.2.1⟩
  ·exact sH hb.2.2 t o h
theorem Am {P:Program}{Γ:bR} (hΓ:dS P Γ) {f:FuncId}{c7:List Nat}{F:AFn}{hin hout:List (Nat×AO)}{args:List AV}{r:AV} (hm:R0 P=true) (hc:xC P f c7=some F) (hlen:args.length≤F.n) (hback:∀t o,ab hout t=some o→t%1000=999∧aG (ab hin) t∧du (cellAt r t)=none∧∃e rows,o=.arr e rows) (hs:iC P Γ F.body (nc P F.res r hout) (Bq (nc P F.res r hout)) ⟨look (nv 0 args),ab hin⟩) (w:World) (S0:Nat→Prop) (β:Nat→Value) (vals:List Value) (hS0:∀b,S0 b→b<w.heap.size) (hheap:Heap P (aU S0 w.heap.size β (ab hin) w) w β (ab hin)) (hvl:vals.length=args.length) (hvr:∀(i:Nat) (v:Value) (x:AV),vals[i]?=some v→args[i]?=some x→RV P (aU S0 w.heap.size β (ab hin) w) w β (aG (ab hin)) v x):Calls P f vals.toArray w fun e w'=>∃v β',e=.returned v∧zC (live β (ab hin)) w w'∧Heap P (aU (fun b=>S0 b∨live β (ab hin) b) w.heap.size β' (bo (ab hout) fun t=>du (cellAt r t)) w') w' β' (bo (ab hout) fun t=>du (cellAt r t))∧(∀t b,aG (bo (ab hout) fun t=>du (cellAt r t)) t→ct (β' t)=some b→w.heap.size≤b∨live β (ab hin) b)∧(∀t,aG (ab hout) t→aG (ab hin) t∧β' t=β t)∧RV P (aU (fun b=>S0 b∨live β (ab hin) b) w.heap.size β' (bo (ab hout) fun t=>du (cellAt r t)) w') w' β' (aG (bo (ab hout) fun t=>du (cellAt r t))) v (cR FH r):=by
 unfold xC at hc;split at hc
 ·rename_i fn hfn;split at hc
  ·rename_i c rs hb hrs;obtain⟨b,hcomp,hc⟩:=Option.bind_eq_some_iff.1 hc;split at hc;case isFalse=>cases hc
   rename_i hN;simp only[Option.some.injEq]at hc;subst hc;simp only at hs hlen;refine calls_of_wp hfn hb ?_;let S1:Nat→Prop:=fun b=>S0 b∨live β (ab hin) b;have hS1:∀b,aU S0 w.heap.size β (ab hin) w b→aU S1 w.heap.size β (ab hin) w b∧w.heap[b]?=w.heap[b]?:=fun b ⟨h1,h2,h3⟩=>⟨⟨h1.imp .inl id,h2,h3⟩,rfl⟩;have hfram:zC (live β (ab hin)) w w:=⟨rfl,rfl,rfl,Nat.le_refl _,fun _ _ _=>rfl⟩;have hrel:Rel P S1 (live β (ab hin)) β w fn.ntmps ⟨look (nv 0 args),ab hin⟩ {tmps:=vals.toArray++Array.replicate (fn.ntmps-vals.toArray.size) undef,defers:=[]} w β:=by
    refine⟨by simp;omega,rfl,fun s=>?_,⟨fun t o ho=>(hheap.holds t o ho).mono hS1 (fun s hs=>⟨hs,rfl⟩) rfl (fun b _=>rfl),hheap.inj⟩,fun t b ht hb=>.inr ?_,⟨hN,Lq hm⟩,fun t _ _=>rfl,hfram⟩;·show RV P _ w β _ _ (look (nv 0 args) s);rw[pW];simp only[Nat.zero_le,if_true,Nat.sub_zero];cases ha:args[s]? with|none=>exact .ak _|some x=>
     have hs1:=(List.getElem?_eq_some_iff.1 ha).1;have hs2:s<vals.length:=by omega
     have hv:vals[s]?=some vals[s]:=List.getElem?_eq_getElem hs2;have hget:(vals.toArray++Array.replicate (fn.ntmps-vals.toArray.size) undef).getD s undef=vals[s]:=by rw[Array.getD_eq_getD_getElem?,Array.getElem?_append_left (by simpa using hs2)];simp[hs2]
     rw[hget];exact(hvr s _ x hv ha).mono hS1 fun s hs=>⟨hs,rfl⟩
    ·obtain⟨o,ho⟩:=ht;exact⟨t,o,ho,hb⟩
   have fin:∀st a w' β',nc P rs r hout st→Rel P S1 (live β (ab hin)) β w fn.ntmps st a w' β'→a.defers=[]∧∃v,(results fn a.tmps).run P w'=.ok v w'∧∃v0 β'',Ending.returned v=.returned v0∧zC (live β (ab hin)) w w'∧Heap P (aU S1 w.heap.size β'' (bo (ab hout) fun t=>du (cellAt r t)) w') w' β'' (bo (ab hout) fun t=>du (cellAt r t))∧(∀t b,aG (bo (ab hout) fun t=>du (cellAt r t)) t→ct (β'' t)=some b→w.heap.size≤b∨live β (ab hin) b)∧(∀t,aG (ab hout) t→aG (ab hin) t∧β'' t=β t)∧RV P (aU S1 w.heap.size β'' (bo (ab hout) fun t=>du (cellAt r t)) w') w' β'' (aG (bo (ab hout) fun t=>du (cellAt r t))) v0 (cR FH r):=by
    intro st0 a w' β' hF0 hR0;obtain⟨_,vs0,hF,_,_⟩:=iG hrs hR0 hF0;have hR:=hR0.cE (fun b hb=>.inr hb) (mV (bU vs0) r);change nq P rs r hout (cE _ st0) at hF;generalize cE (mV (bU vs0) r) st0=st at hF hR;obtain⟨v,vs,⟨hfz,hap,hbk⟩,hrun,hv⟩:=iG hrs hR hF;refine⟨hR.defers,v,hrun,v,?_⟩;generalize bU vs=X at hfz hap hv hbk;have hbg:=sH hbk;let F:Nat→Option AO:=bo (ab hout) fun t=>du (cellAt r t);let β2:Nat→Value:=fun q=>match ab hout q with|some _=>β' q|none=>match cellAt X q with|some (.own t)=>β' t|some (.sub t _ _ hi)=>(match β' t with|.slice A _ c=>.slice A hi c|v=>v)|_=>.slice none 0 0;have hFq:∀q o,F q=some o→ab hout q=some o∨(ab hout q=none∧du (cellAt r q)=some o):=by intro q o ho;simp only[F,bo]at ho;cases hl:ab hout q with|some o'=>rw[hl]at ho;exact .inl ho|none=>rw[hl]at ho;exact .inr ⟨rfl,ho⟩
    have hβb:∀q o,ab hout q=some o→β2 q=β' q:=fun q o h=>by simp only[β2,h]
    have hfr:∀q o,ab hout q=none→du (cellAt r q)=some o→∃e rows,cellAt r q=some (.fr e rows)∧o=.arr e rows∧((∃t c,cellAt X q=some c∧qc t c∧(∃rs,st.aa t=some (.arr e rs))∧ct (β2 q)=ct (β' t)∧bn P (aU S1 w.heap.size β' st.aa w') w' β2 (aG st.aa) q (.arr e rows)∧(∀u,RV P (aU S1 w.heap.size β' st.aa w') w' β' (aG st.aa) u c→u=β2 q))∨(cellAt X q=some (.pv .nil)∧rows=[]∧(P.info? e).isSome=true∧β2 q=.slice none 0 0)):=by
     intro q o hno ho;unfold du at ho;split at ho
     ·rename_i e rows hcell;simp only[Option.some.injEq]at ho;refine⟨e,rows,hcell,ho.symm,?_⟩;obtain⟨x,hx,hf⟩:=Dk hfz hcell;rcases hf with⟨t,rfl,ht⟩|⟨rfl,h1,h2⟩|⟨t,hi,rs',rfl,ht,hrr⟩
      ·have hβ2:β2 q=β' t:=by simp only[β2,hno,hx]
       refine .inl ⟨t,_,hx,.inl rfl,⟨_,ht⟩,by rw[hβ2],?_,fun u hu=>by rw[hβ2];exact hu.aT.1⟩;obtain⟨inf,us,hi,how,hrl,hcl⟩:=hR.heap.holds t _ ht;exact⟨inf,us,hi,by rw[hβ2];exact how,hrl,hcl⟩
      ·exact .inr ⟨hx,h1,h2,by simp only[β2,hno,hx]⟩
      ·obtain⟨inf,us,hinf,how,hrl,hcl⟩:=hR.heap.holds t _ ht;obtain⟨A,c,hbt,hcc⟩:=cB how;have hβ2:β2 q=.slice A hi c:=by simp only[β2,hno,hx,hbt]
       have hsub:∀u,RV P (aU S1 w.heap.size β' st.aa w') w' β' (aG st.aa) u (.sub t e 0 hi)→u=β2 q∧hi≤rs'.length:=by
        intro u hu;obtain⟨inf1,Ad,Ad1,n,c1,hdt,hi1,hb1,g1,g2,g3,g4,g5,hux⟩:=hu.gF;rw[hbt]at hb1;have h3:A=Ad∧rs'.length=n∧c=c1:=by simpa using hb1
        obtain⟨rfl,rfl,rfl⟩:=h3;rw[hβ2,hux,g4 rfl];exact⟨by simp,g2⟩
       obtain⟨u0,hu0⟩:=Kb hv hx;have hle:=(hsub u0 hu0).2;have hlen:(rs'.take hi).length=hi:=by rw[List.length_take];omega
       refine .inl ⟨t,_,hx,.inr ⟨_,_,_,rfl⟩,⟨_,ht⟩,by rw[hβ2,hbt];cases A<;>rfl,?_,fun u hu=>(hsub u hu).1⟩;rw[hrr];refine⟨inf,us.take (hi*inf.size),hinf,?_,fun r hr=>hrl r (List.mem_of_mem_take hr),fun i j r p hr hp=>?_⟩;·rw[hlen,hβ2];exact ky how hle hbt
       ·have hi2:i<hi:=by rw[←hlen];exact(List.getElem?_eq_some_iff.1 hr).1
        rw[List.getElem?_take,if_pos hi2]at hr;obtain⟨u,hu,h1,h2⟩:=hcl i j r p hr hp;have hj:j<inf.size:=by rw[←hrl r (List.mem_of_getElem? hr)];exact(List.getElem?_eq_some_iff.1 hp).1
        have hlt:i*inf.size+j<hi*inf.size:=by have:=Nat.mul_le_mul_right inf.size (show i+1≤hi from hi2);rw[Nat.succ_mul]at this;omega
        exact⟨u,by rw[List.getElem?_take,if_pos hlt];exact hu,h1,h2⟩
     ·cases ho
    have hlive:∀q b,aG F q→ct (β2 q)=some b→∃t,aG st.aa t∧ct (β' t)=some b∧((ab hout q≠none∧t=q)∨(ab hout q=none∧∃c,cellAt X q=some c∧qc t c)):=by
     rintro q b ⟨o,ho⟩ hb;rcases hFq q o ho with h1|⟨h0,h1⟩;·rw[hβb q o h1]at hb;exact⟨q,⟨o,(hbg q o h1).1⟩,hb,.inl ⟨by rw[h1];simp,rfl⟩⟩
     ·obtain⟨e,rows,_,_,h|h⟩:=hfr q o h0 h1;·obtain⟨t,c,h2,h3,⟨rs',h4⟩,h5,_⟩:=h;exact⟨t,⟨_,h4⟩,by rw[←h5];exact hb,.inr ⟨h0,c,h2,h3⟩⟩
      ·rw[h.2.2.2]at hb;simp[ct]at hb
    have hS:∀b,aU S1 w.heap.size β' st.aa w' b→aU S1 w.heap.size β2 F w' b:=by rintro b ⟨h1,h2,h3⟩;refine⟨h1,h2,?_⟩;rintro⟨q,o,ho,hb⟩;obtain⟨t,⟨o',ho'⟩,hb',_⟩:=hlive q b ⟨o,ho⟩ hb;exact h3 ⟨t,o',ho',hb'⟩
    have hS':∀b,aU S1 w.heap.size β' st.aa w' b→aU S1 w.heap.size β2 F w' b∧w'.heap[b]?=w'.heap[b]?:=fun b hb=>⟨hS b hb,rfl⟩;have hcore:∀q t e rows,bn P (aU S1 w.heap.size β' st.aa w') w' t (aG st.aa) q (.arr e rows)→t q=β2 q→bn P (aU S1 w.heap.size β2 F w') w' β2 (aG F) q (.arr e rows):=by rintro q t e rows ⟨inf,us,hi,how,hrl,hcl⟩ ht;refine⟨inf,us,hi,by rw[←ht];exact how,hrl,fun i j r p h1 h2=>?_⟩;obtain⟨u,hu,hone,hp⟩:=hcl i j r p h1 h2;exact⟨u,hu,hone,hp.mono hS'⟩
    refine⟨β2,rfl,hR.bS,⟨fun q o ho=>?_,fun q q' b hq hq' hb hb'=>?_⟩,fun q b hq hb=>?_,fun q ⟨o,ho⟩=>?_,?_⟩
    ·rcases hFq q o ho with h1|⟨h0,h1⟩;·have hho:=hR.heap.holds q o (hbg q o h1).1;cases o with|arr e rows=>exact hcore q β' e rows hho (hβb q _ h1).symm|box cs=>obtain⟨_,_,_,e,rows,he⟩:=hback q _ h1;cases he|map es=>obtain⟨_,_,_,e,rows,he⟩:=hback q _ h1;cases he|rws e cs=>obtain⟨_,_,_,e,rows,he⟩:=hback q _ h1;cases he|iF es=>obtain⟨_,_,_,e,rows,he⟩:=hback q _ h1;cases he|nC rem cur=>obtain⟨_,_,_,e,rows,he⟩:=hback q _ h1;cases he
     ·obtain⟨e,rows,_,rfl,h|h⟩:=hfr q o h0 h1;·obtain⟨t,c,_,_,_,_,h6,_⟩:=h;exact hcore q β2 e rows h6 rfl
      ·obtain⟨_,rfl,hi,h3⟩:=h;obtain⟨inf,hi⟩:=Option.isSome_iff_exists.1 hi;exact⟨inf,[],hi,by rw[h3];exact World.ownsRow_nil w' 0 e inf.size,fun r hr=>by simp at hr,fun i j r p hr=>by simp at hr⟩
    ·obtain⟨t,h2,h3,h4⟩:=hlive q b hq hb;obtain⟨t',h2',h3',h4'⟩:=hlive q' b hq' hb';have:t=t':=hR.heap.inj t t' b h2 h2' h3 h3';subst this;rcases h4 with⟨h5,rfl⟩|⟨h5,c,h6,h7⟩<;>rcases h4' with⟨h5',rfl⟩|⟨h5',c',h6',h7'⟩;·rfl
     ·cases hl:ab hout t with|none=>exact absurd hl h5|some o=>exact absurd rfl ((hbg t o hl).2 _ (yw h6' h7'))
     ·cases hl:ab hout t with|none=>exact absurd hl h5'|some o=>exact absurd rfl ((hbg t o hl).2 _ (yw h6 h7))
     ·exact wZ hap (yw h6 h7) (yw h6' h7')
    ·obtain⟨t,h2,h3,_⟩:=hlive q b hq hb;exact hR.old t b h2 h3
    ·obtain⟨h9,hd,_,_⟩:=hback q o ho;exact⟨hd,(hβb q o ho).trans (hR.u5 q h9 ⟨o,(hbg q o ho).1⟩)⟩
    ·have hX:X=cR (fun p c=>match c with|.fr _ _=>(cellAt X p).getD .ak|c=>c) r:=by refine MW hfz fun p c x hc hx hf=>?_;cases c with|fr e rows=>simp[hx]|_=>exact hf.1.symm
     have htup:oT r=true:=by
      rcases uG hfz with⟨cs,rs,_,rfl,hl,h⟩|⟨_,h2,_⟩;·simp only[oT,decide_eq_true_eq];rw[←(nZ h).1];exact hl
      ·cases r<;>first|rfl|exact absurd rfl (h2 _)
     rw[hX]at hv;refine kV htup ?_ hv;intro p c u hc hu;obtain⟨x,hx,hf⟩:=Dk hfz hc;cases c with
     |fr e rows=>
      simp only[hx,Option.getD_some]at hu;have hfp:du (cellAt r p)=some (.arr e rows):=by simp[hc,du]
      have hno:ab hout p=none:=by cases hl:ab hout p with|none=>rfl|some o=>rw[(hback p o hl).2.2.1]at hfp;cases hfp
      have hdom:aG F p:=⟨.arr e rows,by simp only[F,bo,hno];exact hfp⟩;have hgoal:u=β2 p:=by
       obtain⟨_,_,_,_,h|h⟩:=hfr p _ hno hfp;·obtain⟨t,c,h2,_,_,_,_,h7⟩:=h;rw[hx]at h2;injection h2 with h2;subst h2;exact h7 u hu
       ·obtain⟨h1,_,_,h3⟩:=h;rw[hx]at h1;injection h1 with h1;subst h1;rw[h3];exact hu.ef
      show RV P _ w' β2 _ u (.own p);rw[hgoal];exact .own p hdom|pv q=>cases hu with|pv v p h=>exact .pv _ _ (h.mono hS')
     |rp cs=>obtain⟨ad,us,rfl,h1,h2,h3,h4⟩:=RV.jb hu;exact .rp ad cs us (hS _ h1) h2 h3 (fun j p hp=>(h4 j p hp).mono hS')|_=>exact absurd hf.2 (by simp[lz])
   refine tY hΓ (S0:=S1) (L:=live β (ab hin)) (fun b hb=>.inr hb) (w0:=w) (LA hm) c7 c b hcomp (nc P rs r hout) (Bq (nc P rs r hout)) _ _ _ w β ?_ ?_ ?_ hrel hs;·intro st a w' β' hF hR;exact fin st a w' β' hF hR
   ·intro st a w' β' id hj;exact hj.elim
   ·intro st a w' β' hF hR;exact fin st a w' β' hF hR
  ·cases hc
 ·cases hc
theorem Ec (P:Program) (rs:List (Nat×Option (Option Nat))) (r:AV):nc P rs r []=Ends P rs r:=by funext st;simp[nc,nq,Ends,xq,pH]
theorem aq {P:Program}{Γ:bR} (hΓ:dS P Γ) {f:FuncId}{n k:Nat}{rs:List (Nat×Option (Option Nat))}{b:AC}{args:List AV}{r:AV} (hm:R0 P=true) (hc:aFn P f=some ⟨n,k,rs,b⟩) (hlen:args.length≤n) (hs:iC P Γ b (Ends P rs r) (Bq (Ends P rs r)) ⟨look (nv 0 args),ab []⟩):u9 P f [] args [] r:=by
 intro w S0 β vals hS0 hlt hheap hvl hvr;have hlv:(fun b=>S0 b∨live β (ab []) b)=S0:=by
  funext b;apply propext;constructor
  ·rintro(h|⟨t,o,ho,_⟩);·exact h
   ·cases ho
  ·exact .inl
 rw[←Ec]at hs;have:=Am hΓ (hin:=[]) (hout:=[]) hm hc hlen (fun t o h=>by cases h) hs w S0 β vals hS0 hheap hvl hvr;rw[hlv]at this;refine this.mono ?_;rintro e w' ⟨v,β',h1,h2,h3,h4,_,h5⟩;exact⟨v,β',h1,h2,h3,h4,h5⟩
theorem JO {P:Program}{Γ:bR} (hΓ:dS P Γ) {f:FuncId}{n k:Nat}{rs:List (Nat×Option (Option Nat))}{b:AC}{ys:List AV}{x:AV} (hm:R0 P=true) (hc:aFn P f=some ⟨n,k,rs,b⟩) (hlen:ys.length≤n) (hres:dA (b7 x)=true) (hb:∀t o,ab (en x) t=some o→aG (ab (mY ys)) t) (hs:iC P Γ b (nc P rs (b7 x) (en x)) (Bq (nc P rs (b7 x) (en x))) ⟨look (nv 0 (ys.map LH)),ab (mY ys)⟩):CT P f ys x:=by
 intro w S0 β vals hS0 hlt hheap hvl hvr;refine Am hΓ (hin:=mY ys) (hout:=en x) hm hc (by simpa using hlen) (fun t o h=>?_) hs w S0 β vals hS0 hheap (by simpa using hvl) hvr;have h9:t=999∧∃e rows,o=.arr e rows:=by
  unfold en at h;split at h
  ·simp only[ab]at h;split at h;·rename_i e;cases h;exact⟨e,_,_,rfl⟩
   ·cases h
  ·cases h
 obtain⟨rfl,he⟩:=h9;exact⟨rfl,hb _ o h,qD hres,he⟩
end Go.Proofs.YtifcndkhigakfaaGreat.Ab
