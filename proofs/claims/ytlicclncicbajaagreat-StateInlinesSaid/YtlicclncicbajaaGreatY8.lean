/- The abstract machine is sound: regions, loops, the code of a function. -/
import Derived.Test.YtlicclncicbajaaGreatY7
import Derived.Deep.LoopGhost
import Derived.Scope
set_option linter.unusedVariables false
set_option linter.unusedSimpArgs false
set_option linter.unnecessarySimpa false
set_option maxHeartbeats 40000000
set_option maxRecDepth 100000
namespace Go.Proofs.YtlicclncicbajaaGreat.Ab
open Go Go.RowKit
section
variable{P:Program}{Γ:bJ}{S0 L:Nat→Prop}{B0:Nat→Value}{w0 w:World}{N:Nat}{st:St}{a:Act}{β:Nat→Value}{ops:Array Oper}{is:Array AI}{Q':Exit→Act→World→Prop}
theorem dx (hΓ:dL P Γ) {j:Nat}{o:Oper}{i:AI}{K:St→Prop}{K':Act→World→Prop} (hj:ops[j]?=some o) (hi:Core P N ops o i) (h:Rel P S0 L B0 w0 N st a w β) (hK:∀st a w β,K st→Rel P S0 L B0 w0 N st a w β→K' a w) (hs:cR P Γ i K st):wpOp P ops Q' j K' a w:=by
 have hh:=M4 hΓ (Q:=Q') h hi hs.2;unfold wpOp;rw[hj];dsimp only;split;·rename_i hw;rw[if_pos hw]at hh;refine .inl (Oper.wp_mono ?_ hh);rintro a' w' ⟨e,β',⟨_,hC⟩,hR⟩;exact hK _ _ _ _ hC hR
 ·rename_i hw;rw[if_neg hw]at hh;obtain⟨e,β',⟨_,hC⟩,hR⟩:=hh;exact hK _ _ _ _ hC hR
theorem Core.same {o:Oper}{i i':AI} (h:Core P N ops o i) (h1:i'.k=i.k) (h2:i'.xs=i.xs) (h3:i'.d=i.d) (h4:i'.g=i.g):Core P N ops o i':=by unfold Core at*;rw[h1,h2,h3,h4];exact h
theorem Ao {P:Program}{o:Oper}{xs:List Operand} (hc:gI P o=some (.lh,xs)):∃x args argTypes,o.op=.call {callee:=.value x,args:=args,argTypes:=argTypes}∧xs=x::args.toList:=by
 rcases dP hc with hc|⟨x,h0,_⟩;rotate_left;·cases h0
 unfold gj at hc;split at hc;case h_22=>
  rename_i cl ho;obtain⟨callee,args,argTypes⟩:=cl;unfold gv at hc;simp only at hc;split at hc
  ·exfalso;unfold cX at hc;repeat'(split at hc)
   all_goals(simp at hc)
  ·split at hc;·simp at hc
   ·cases hc
  ·simp only[Option.some.injEq,Prod.mk.injEq,true_and]at hc;exact⟨_,args,argTypes,ho,hc.symm⟩
  ·cases hc
 all_goals
  exfalso;repeat'(split at hc)
  all_goals(simp at hc)
theorem uj {P:Program}{b:Builtin}{ys xs:List Operand}{ts:List TypeId}{x:XK} (hc:cX P b ys ts=some (.ex x,xs)):False:=by
 unfold cX at hc;repeat'(split at hc)
 all_goals(simp at hc)
theorem B4 {P:Program}{o:Oper}{xs:List Operand} (x:XK):¬gj P o=some (.ex x,xs):=by
 intro hc;unfold gj at hc;split at hc;case h_22=>
  rename_i cl ho;obtain⟨callee,args,argTypes⟩:=cl;unfold gv at hc;simp only at hc;split at hc;·exact uj hc
  ·split at hc<;>simp at hc
  ·simp at hc
  ·cases hc
 all_goals
  repeat'(split at hc)
  all_goals(simp at hc)
theorem BF {P:Program}{o:Oper}{xs:List Operand}{e:TypeId}{sz:Nat}{zs:List Value} (hc:gI P o=some (.F8 e sz zs,xs)):∃x t,o.op=.call {callee:=.builtin .clear,args:=#[x],argTypes:=#[t]}∧xs=[x]∧P.underlying t=some (.slice e)∧cm P e=some sz∧dE P e=some zs∧0<sz∧zs.all (·.oneCell')=true:=by
 rcases dP hc with hc|⟨x,h0,_⟩;rotate_left;·cases h0
 unfold gj at hc;split at hc;case h_22=>
  rename_i cl ho;obtain⟨callee,args,argTypes⟩:=cl;unfold gv at hc;simp only at hc;split at hc
  ·unfold cX at hc;split at hc;case h_5=>
    rename_i x t hx ht;have hx':args=#[x]:=by apply Array.ext';simpa using hx
    have ht':argTypes=#[t]:=by apply Array.ext';simpa using ht
    subst hx' ht';split at hc
    ·rename_i e' hu;split at hc
     ·rename_i sz' zs' hsz hz;split at hc;·rename_i hcond;simp only[Option.some.injEq,Prod.mk.injEq,AK.F8.injEq]at hc;obtain⟨⟨rfl,rfl,rfl⟩,rfl⟩:=hc;exact⟨x,t,ho,rfl,hu,hsz,hz,hcond⟩
      ·cases hc
     ·cases hc
    ·cases hc
   all_goals
    exfalso;repeat'(split at hc)
    all_goals(simp at hc)
  ·split at hc;·simp at hc
   ·cases hc
  ·simp at hc
  ·cases hc
 all_goals
  exfalso;repeat'(split at hc)
  all_goals(simp at hc)
theorem BE {P:Program}{o:Oper}{xs:List Operand}{e:TypeId}{sz b:Nat} (hc:gI P o=some (.app e sz b,xs)):∃x y t tx inf,o.op=.call {callee:=.builtin .append,args:=#[x,y],argTypes:=#[t,tx]}∧xs=[x,y]∧P.underlying t=some (.slice e)∧((∃e',P.underlying tx=some (.slice e'))∨P.underlying tx=some .string)∧P.info? e=some inf∧0<inf.size∧(dE P e).isSome=true∧sz=inf.size∧b=inf.bytes:=by
 rcases dP hc with hc|⟨x,h0,_⟩;rotate_left;·cases h0
 unfold gj at hc;split at hc;case h_22=>
  rename_i cl ho;obtain⟨callee,args,argTypes⟩:=cl;unfold gv at hc;simp only at hc;split at hc
  ·unfold cX at hc;split at hc;case h_2=>
    rename_i x y t tx hx ht;have hx':args=#[x,y]:=by apply Array.ext';simpa using hx
    have ht':argTypes=#[t,tx]:=by apply Array.ext';simpa using ht
    subst hx' ht';split at hc
    ·rename_i e' hu hux;split at hc
     ·rename_i inf hi;split at hc;·rename_i hcond;simp only[Option.some.injEq,Prod.mk.injEq,AK.app.injEq]at hc;obtain⟨⟨rfl,rfl,rfl⟩,rfl⟩:=hc;exact⟨x,y,t,tx,inf,ho,rfl,hu,.inr hux,hi,by omega,hcond.2,rfl,rfl⟩
      ·cases hc
     ·cases hc
    ·rename_i e' e2 hu hux;split at hc
     ·rename_i inf hi;split at hc;·rename_i hcond;simp only[Option.some.injEq,Prod.mk.injEq,AK.app.injEq]at hc;obtain⟨⟨rfl,rfl,rfl⟩,rfl⟩:=hc;exact⟨x,y,t,tx,inf,ho,rfl,hu,.inl ⟨e2,hux⟩,hi,hcond.1,hcond.2,rfl,rfl⟩
      ·cases hc
     ·cases hc
    ·cases hc
   all_goals
    exfalso;repeat'(split at hc)
    all_goals(simp at hc)
  ·split at hc;·simp at hc
   ·cases hc
  ·simp at hc
  ·cases hc
 all_goals
  exfalso;repeat'(split at hc)
  all_goals(simp at hc)
theorem ly:∀{l:List AV}{k:Nat}{z:AV},ak l→l[k]?=some z→asks z|[],k,z,_,hk=>by simp at hk|y::l,0,z,h,hk=>by simp only[List.getElem?_cons_zero,Option.some.injEq]at hk;subst hk;exact h.1|y::l,k+1,z,h,hk=>ly h.2 (by simpa using hk)
theorem noG {n f:Nat} (h0:n≤1000000) (h2:2000000≤f+1000000) (h:f<n):False:=by omega
theorem EN {xs:List AV}{f:FuncId}{ys:List AV} (h:kR xs=some (f,ys)):∃x caps args,xs=x::args∧ys=args++caps∧(x=.bo f caps∨(caps=[]∧x=.pv (.val (.func (.func f) #[] #[])))):=by
 unfold kR at h;split at h;·cases h;exact⟨_,_,_,rfl,rfl,.inl rfl⟩
 ·obtain⟨g,hg,h⟩:=Option.map_eq_some_iff.1 h;cases h;unfold kR.Lr at hg;split at hg;·cases hg;exact⟨_,[],_,rfl,by simp,.inr ⟨rfl,rfl⟩⟩
  ·cases hg
 ·cases h
theorem mF (h:Rel P S0 L B0 w0 N st a w β) {o:Oper}{x:Operand}{args:Array Operand}{argTypes:Array TypeId} (ho:o.op=.call {callee:=.value x,args:=args,argTypes:=argTypes}) (ha:ak ((x::args.toList).map (Ab.ev st.vars))) {f:FuncId}{ys:List AV} (hc:kR (((x::args.toList).map (Ab.ev st.vars)).map strip)=some (f,ys)) (hf:fo P f=true):∃vals:List Value,(execOp a.eval o).run P w=.ok (.enter f vals.toArray) w∧vals.length=ys.length∧∀(i:Nat) (v:Value) (y:AV),vals[i]?=some v→ys[i]?=some y→RV P (aS S0 w0.heap.size β st.aa w) w β (ay st.aa) v y:=by
 obtain⟨x0,caps,as,hxs,rfl,hx0⟩:=EN hc;simp only[List.map_cons,List.cons.injEq]at hxs;obtain⟨hx,hargs⟩:=hxs;have hv:=h.dj x ha.1;rw[hx]at hv;obtain⟨us,hev,hul,hus⟩:∃us:List Value,a.eval x=.func (.func f) #[] us.toArray∧us.length=caps.length∧(∀(i:Nat) (c:AV) (u:Value),caps[i]?=some c→us[i]?=some u→RV P (aS S0 w0.heap.size β st.aa w) w β (ay st.aa) u c):=by
  rcases hx0 with rfl|⟨rfl,rfl⟩;·exact hv.ml
  ·refine⟨[],?_,rfl,fun i c u hc=>by simp at hc⟩;have h1:=hv.bh;generalize a.eval x=u at h1;cases h1 with|val v h=>rfl
 unfold fo at hf;split at hf
 ·rename_i fn hfn;simp only[Bool.and_eq_true,bne_iff_ne,ne_eq]at hf;have hn:=hf.1;have hb:¬fn.body=none:=fun e=>by rw[e]at hf;simp at hf
  refine⟨args.toList.map a.eval++us,?_,?_,?_⟩
  ·have he:(args.toList.map a.eval++us).toArray=args.map a.eval++us.toArray:=by apply Array.ext';simp
   rw[he];simp[execOp,ho,resolve,hev,Deferred.ofValue,invoke,callFunc,hfn,hn,hb]
  ·rw[←hargs];simp[hul]
  ·intro i v y hi hy;have hl:as.length=args.toList.length:=by rw[←hargs];simp
   by_cases hlt:i<as.length;·rw[List.getElem?_append_left hlt]at hy;rw[List.getElem?_append_left (by simpa[hl]using hlt)]at hi;rw[←hargs]at hy;exact jK h args.toList ha.2 i v y hi hy
   ·rw[List.getElem?_append_right (by omega)]at hy;rw[List.getElem?_append_right (by simp only[List.length_map];omega)]at hi;simp only[List.length_map,←hl]at hi;exact hus _ _ _ hy hi
 ·cases hf
theorem rh (hL:∀b,L b→S0 b) (hΓ:dL P Γ) {o:Oper}{d:Option Nat}{f:FuncId}{xs:List Operand}{un:List Nat}{tg:Option Nat}{K:St→Prop}{K':Act→World→Prop}{Q:Exit→Act→World→Prop} (hc:gI P o=some (.call f,xs)) (hd:d=o.dst) (hdN:∀s,o.dst=some s→s<N) (h:Rel P S0 L B0 w0 N st a w β) (hK:∀st a w β,K st→Rel P S0 L B0 w0 N st a w β→K' a w) (hs:l8 P Γ ⟨d,.call f,xs,none,un,tg⟩ f K st):o.wp P a w K' Q:=by
 obtain⟨ys,hys,hs⟩:=ae hs;obtain⟨x,hx,hs⟩:=ae hs;subst hd;split at hs;·have h2:=h.cz hL ((xs.map (Ab.ev st.vars)).map strip);generalize cz st ((xs.map (Ab.ev st.vars)).map strip)=st2 at h2 hs;have hs':aX P Γ o.dst (.call f) (xs.map (Ab.ev st2.vars)) st2.aa fun e=>K (e.on o.dst st2):=hs;refine Oper.wp_mono ?_ (xU hΓ (Q:=Q) h2 hc hdN hs');rintro a' w' ⟨e,β',hC,hR⟩;exact hK _ _ _ _ hC hR
 ·have hs':aX P Γ o.dst (.call f) (xs.map (Ab.ev st.vars)) st.aa fun e=>A7 _ tg e∧K (e.on o.dst st):=hs.2;refine Oper.wp_mono ?_ (xU hΓ (Q:=Q) h hc hdN hs');rintro a' w' ⟨e,β',hC,hR⟩;exact hK _ _ _ _ hC.2 hR
theorem uP (hΓ:dL P Γ) {j:Nat}{o:Oper}{i:AI}{K:St→Prop}{K':Act→World→Prop} (hj:ops[j]?=some o) (hi:Core P N ops o i) (h:Rel P S0 L B0 w0 N st a w β) (hK:∀st a w β,K st→Rel P S0 L B0 w0 N st a w β→K' a w) (hs:bZ P Γ i K st):wpOp P ops Q' j K' a w:=by
 unfold bZ at hs;split at hs;·exact dx hΓ hj hi h hK hs
 ·rename_i s want hg0;unfold gN at hs;split at hs;·exact dx hΓ hj hi h hK hs
  ·split at hs
   ·rename_i hf0;have hcg:bE (st.vars s) want=some false:=by revert hf0;cases bE (st.vars s) want with|none=>intro h0;cases h0|some b=>cases b with|false=>intro _;rfl|true=>intro h0;cases h0
    obtain⟨hc,hd,hdN,hg⟩:=hi;have hdN':∀s,o.dst=some s→s<N:=fun s e=>hdN s (hd.trans e);rcases hg with⟨_,hig⟩|⟨j',want',s',hg,hj',hig⟩;·rw[hg0]at hig;cases hig
    ·rw[hg0]at hig;simp only[Option.some.injEq,Prod.mk.injEq]at hig;obtain⟨rfl,rfl⟩:=hig;unfold wpOp;rw[hj];dsimp only;rw[dq hg hj' (h.vars _) hcg];simp only[Bool.false_eq_true,if_false];refine hK _ _ _ β hs ?_;rw[hd];exact h.eX hdN' (.bY _ _ _ (fun e=>by cases e) fun _=>rfl)
   ·exact dx hΓ hj hi h hK hs
theorem uK (hL:∀b,L b→S0 b) (hΓ:dL P Γ) {j:Nat}{o:Oper}{i:AI}{x:XK}{K:St→Prop}{K':Act→World→Prop} (hj:ops[j]?=some o) (hi:Core P N ops o i) (h:Rel P S0 L B0 w0 N st a w β) (hK:∀st a w β,K st→Rel P S0 L B0 w0 N st a w β→K' a w) (hk:i.k=.ex x) (hs:jm P Γ i K st):wpOp P ops Q' j K' a w:=by
 obtain⟨hc,hd,hdN,hg⟩:=hi;have hdN':∀s,o.dst=some s→s<N:=fun s e=>hdN s (hd.trans e);rw[hk]at hc;have hcx:jt P o=(x,i.xs):=by
  rcases dP hc with hc|⟨x',h0,hc⟩;·exact absurd hc (B4 x)
  ·cases h0;exact hc
 unfold wpOp;rw[hj];dsimp only;unfold jm at hs;rw[hk]at hs;rcases hg with⟨hg,hig⟩|⟨j',want,s,hg,hj',hig⟩
 ·rw[hig]at hs;rw[en (P:=P) hg];simp only[if_true];rw[hd]at hs;have h':Rel P S0 L B0 w0 N (ID x i st) a w β:=by
   unfold ID;split;·exact h.cz hL _
   ·exact h
  exact .inl (zS hL hcx hdN' h' hK hs)
 ·rw[hig]at hs;have hs:BX i x s want K st:=hs;obtain⟨c,hcg,hs⟩:=ae hs;rw[dq hg hj' (h.vars s) hcg];by_cases hct:c=true;·rw[if_pos hct]at hs ⊢;rw[hd]at hs;exact .inl (zS hL hcx hdN' h hK hs)
  ·rw[if_neg hct]at hs ⊢;refine hK _ _ _ β hs ?_;rw[hd];exact h.eX hdN' (.bY _ _ _ (fun e=>by cases e) fun _=>rfl)
theorem lJ (hL:∀b,L b→S0 b) (hΓ:dL P Γ) {j:Nat}{o:Oper}{i:AI}{K:St→Prop}{K':Act→World→Prop} (hj:ops[j]?=some o) (hi:Core P N ops o i) (h:Rel P S0 L B0 w0 N st a w β) (hK:∀st a w β,K st→Rel P S0 L B0 w0 N st a w β→K' a w) (hs:jm P Γ i K st):wpOp P ops Q' j K' a w:=by
 by_cases hx:∃x,i.k=.ex x;·obtain⟨x,hx⟩:=hx;exact uK hL hΓ hj hi h hK hx hs
 by_cases hk:i.k=.lh
 ·have hs:fH P Γ i.d (i.xs.map (ev st.vars)) i.g K st:=by unfold jm at hs;rw[hk]at hs;exact hs
  obtain⟨hc,hd,hdN,hg⟩:=hi;have hdN':∀s,o.dst=some s→s<N:=fun s e=>hdN s (hd.trans e);rw[hk]at hc;obtain⟨x,args,argTypes,ho,hxs⟩:=Ao hc;rw[hxs]at hs;unfold wpOp;rw[hj];dsimp only;rcases hg with⟨hg,hig⟩|⟨j',want,s,hg,hj',hig⟩
  ·rw[en (P:=P) hg];simp only[if_true];unfold fH at hs;rw[hig]at hs;obtain⟨ha,hs⟩:=hs;obtain⟨⟨f,zs⟩,hcl,hf,hs⟩:=ae hs;unfold eH at hs;split at hs
   ·split at hs;rotate_left;·exact hs.elim
    obtain⟨vals,hrun,hvl,hv⟩:=mF h ho ha hcl hf;refine .inl (dy hrun ((jl (a:=a) hL hΓ h hdN hf hvl (fun haz i v y hi hy=>?_) hs).mono ?_));·rw[List.getElem?_map,Option.map_eq_some_iff]at hy;obtain⟨z,hz,rfl⟩:=hy;exact(hv i v z hi hz).strip (ly haz hz)
    ·rintro e w' ⟨v,β',st',rfl,hK',hR⟩;refine⟨v,rfl,hK _ _ _ β' hK' ?_⟩;rw[←hd];exact hR
   unfold cx at hs;obtain⟨d,hdd,haz,hs⟩:=ae hs;obtain⟨ys,hys,hs⟩:=ae hs;obtain⟨⟨φ,r⟩,hr,hφ,hpf,hfree,hres,hC⟩:=ae hs;obtain⟨vals,hrun,hvl,hv⟩:=mF h ho ha hcl hf;have hv':∀(i:Nat) (v:Value) (y:AV),vals[i]?=some v→(zs.map strip)[i]?=some y→RV P (aS S0 w0.heap.size β st.aa w) w β (ay st.aa) v y:=by intro i v y hi hy;rw[List.getElem?_map,Option.map_eq_some_iff]at hy;obtain⟨z,hz,rfl⟩:=hy;exact(hv i v z hi hz).strip (ly haz hz)
   have hdlt:d<N:=hdN d hdd;have hlim:=h.pY.1;have hd9:d%1000≠999:=by omega
   refine .inl (dy hrun ((lM (a:=a) h hd9 (by rw[hvl,List.length_map]) hv' hys (hΓ.con (gW hf) hr hφ) hpf hfree hres).mono ?_));rintro e w' ⟨v,β',rfl,hR,hrv⟩;refine⟨v,rfl,hK _ _ _ β' hC ?_⟩;rw[hd];exact hR.put hdN' hrv
  ·unfold fH at hs;rw[hig]at hs;have hs:gN (eN ((i.xs.map (ev st.vars)).map strip)) (JX (bE (st.vars s) want)) (qc P Γ i.d (i.xs.map (ev st.vars)) s want K st) (K ((bA.put (.bY false .au)).on i.d st)):=by rw[hxs];exact hs
   have hs:qc P Γ i.d (i.xs.map (ev st.vars)) s want K st∨(bE (st.vars s) want=some false∧K ((bA.put (.bY false .au)).on i.d st)):=by
    unfold gN at hs;split at hs;·exact .inl hs
    ·split at hs
     ·rename_i hif;right;unfold JX at hif;split at hif;·rename_i hgf;exact⟨hgf,hs⟩
      ·cases hif
     ·exact .inl hs
   rcases hs with hs|⟨hgf,hs⟩;rotate_left;·rw[dq hg hj' (h.vars s) hgf];simp only[Bool.false_eq_true,if_false];refine hK _ _ _ β hs ?_;rw[hd];exact h.eX hdN' (.bY _ _ _ (fun e=>by cases e) fun _=>rfl)
   rw[hxs]at hs;obtain⟨c,hcg,hs⟩:=ae hs;rw[dq hg hj' (h.vars s) hcg];obtain⟨⟨f,zs⟩,hcl,hf,hs⟩:=ae hs;unfold gZ at hs;split at hs
   ·split at hs;rotate_left;·exact hs.elim
    by_cases hct:c=true
    ·rw[if_pos hct]at hs ⊢;obtain⟨ha,hs⟩:=hs;obtain⟨vals,hrun,hvl,hv⟩:=mF h ho ha hcl hf;refine .inl (dy hrun ((jl (a:=a) hL hΓ h hdN hf hvl (fun haz i v y hi hy=>?_) hs).mono ?_));·rw[List.getElem?_map,Option.map_eq_some_iff]at hy;obtain⟨z,hz,rfl⟩:=hy;exact(hv i v z hi hz).strip (ly haz hz)
     ·rintro e w' ⟨v,β',st',rfl,hK',hR⟩;refine⟨v,rfl,hK _ _ _ β' hK' ?_⟩;rw[←hd];exact hR
    ·rw[if_neg hct]at hs ⊢;refine hK _ _ _ β hs ?_;rw[hd];exact h.eX hdN' (.bY _ _ _ (fun e=>by cases e) fun _=>rfl)
   unfold Ak at hs;obtain⟨ys,hys,hs⟩:=ae hs;obtain⟨⟨φ,r⟩,hr,hcon,hfl,hfr,hres,ha,hC⟩:=ae hs;cases c with|true=>
    simp only[if_true];obtain⟨vals,hrun,hvl,hv⟩:=mF h ho (ha rfl) hcl hf;have hv':∀(i:Nat) (v:Value) (y:AV),vals[i]?=some v→(zs.map strip)[i]?=some y→RV P (aS S0 w0.heap.size β st.aa w) w β (ay st.aa) v y:=by intro i v y hi hy;rw[List.getElem?_map,Option.map_eq_some_iff]at hy;obtain⟨z,hz,rfl⟩:=hy;exact(hv i v z hi hz).strip (ly (hcon rfl).1 hz)
    have htr:=Cz hfl;have hnil:∀d,jZ d r=[]:=fun d=>by rw[ue htr];unfold aM;rw[hfr];rfl
    refine .inl (dy hrun ((lM (a:=a) (d:=0) h (by omega) (by rw[hvl,List.length_map]) hv' hys (hΓ.con (gW hf) hr (hcon rfl).2) (.inr (by rw[qP htr];exact hfl)) (by rw[hnil];intro x hx;cases hx) (by rw[sd htr];exact hres)).mono ?_));rintro e w' ⟨v,β',rfl,hR,hrv⟩;rw[hnil]at hR hrv;rw[sD htr,qL hfr]at hrv;refine⟨v,rfl,hK _ _ _ β' hC ?_⟩;rw[hd];exact hR.put hdN' (.bY _ _ _ (fun _=>hrv) fun e=>by cases e)|false=>simp only[Bool.false_eq_true,if_false];refine hK _ _ _ β hC ?_;rw[hd];exact h.eX hdN' (.bY _ _ _ (fun e=>by cases e) fun _=>rfl)
 ·have hcore:=hi;obtain⟨hc,hd,hdN,hg⟩:=hi;have hdN':∀s,o.dst=some s→s<N:=fun s e=>hdN s (hd.trans e);have hs':(∃e sz zs,i.k=.F8 e sz zs∧i.g=none∧ot i.d e sz zs (i.xs.map (ev st.vars)) K st)∨(∃f p k,i.k=.call f∧i.g=none∧dB Γ f=some (p,k)∧(if k=997 then yJ P Γ i.d f (i.xs.map (ev st.vars)) p K st else if k=996 then stepG Γ i.d f (i.xs.map (ev st.vars)) (iN Γ f) K st else kJ P Γ i.d f (i.xs.map (ev st.vars)) p k K st))∨cR P Γ i K st∨(∃f,i.k=.call f∧i.g=none∧l8 P Γ i f K st)∨(∃f s w,i.k=.call f∧i.g=some (s,w)∧Cu P Γ i f s w K st)∨(∃t,cR P Γ i K (sg t st))∨∃l,bZ P Γ i K (cz st l):=by
   unfold jm at hs;split at hs;·rename_i x e _;exact absurd ⟨x,e⟩ hx
   ·rename_i x s w e _;exact absurd ⟨x,e⟩ hx
   ·exact .inr (.inr (.inr (.inr (.inr (.inr ⟨_,hs⟩)))))
   ·rename_i e sz zs e1 e2;exact .inl ⟨e,sz,zs,e1,e2,hs⟩
   ·rename_i f s w e e2;exact .inr (.inr (.inr (.inr (.inl ⟨f,s,w,e,e2,hs⟩))))
   ·rename_i e;exact absurd e hk
   ·rename_i f e e2;unfold gH at hs;split at hs;·rename_i p k hfl;exact .inr (.inl ⟨f,p,k,e,e2,hfl,hs⟩)
    ·exact .inr (.inr (.inr (.inl ⟨f,e,e2,hs⟩)))
   ·exact .inr (.inr (.inr (.inr (.inr (.inl ⟨_,hs⟩)))))
   ·exact .inr (.inr (.inr (.inr (.inr (.inr ⟨[],hs⟩)))))
  obtain⟨id,ik,ix,ig,iun,itg⟩:=i;simp only at hc hd hdN hg hs' hk;rcases hs' with⟨e,sz,zs,rfl,rfl,hs⟩|⟨f,p,k,rfl,rfl,hfl,hs⟩|hs|⟨f,rfl,rfl,hs⟩|⟨f,s,want,rfl,rfl,hs⟩|⟨t,hs⟩|⟨l,hs⟩
  ·rcases hg with⟨hg,_⟩|⟨_,_,_,_,_,hig⟩;·unfold wpOp;rw[hj];dsimp only;rw[en (P:=P) hg];obtain⟨x,t,ho,rfl,hu,hsz,hz,hpos,hall⟩:=BF hc;obtain⟨ha,hs⟩:=hs;obtain⟨X,hX,hs1⟩:=ae hs;obtain⟨r,hr,hs2⟩:=ae hs1;simp only[List.map_cons,List.map_nil,List.head?_cons,Option.some.injEq]at hX;subst hX;obtain⟨v,w',hrun,hR⟩:=Ev ho hu hsz hz hpos hall h hdN' (h.dj x ha.1) hr;refine .inl (aG hrun (hK _ _ _ β hs2 ?_));rw[hd];exact hR
   ·cases hig
  ·rcases hg with⟨hg,_⟩|⟨_,_,_,_,_,hig⟩
   ·unfold wpOp;rw[hj];dsimp only;rw[en (P:=P) hg];obtain⟨args,argTypes,ho,hf,hx⟩:=lV hc;rw[hx]at hs;have hk3:k=998∨k=999∨k=997∨k=996:=by
     obtain⟨q,_,hq⟩:=Option.bind_eq_some_iff.1 hfl;unfold Cx at hq;split at hq
     ·split at hq;·rename_i hk;cases hq;exact hk
      ·cases hq
     ·cases hq
    by_cases h997:k=997
    ·rw[if_pos h997]at hs;obtain⟨d,hdd,ha,hs⟩:=ae hs;obtain⟨ys,hys,hs⟩:=ae hs;obtain⟨⟨φ,r⟩,hr,hφ,hpf,hfree,hres,hC⟩:=ae hs;have hdlt:d<N:=hdN d hdd;have hlim:=h.pY.1;have hd9:d%1000≠999:=by omega
     refine .inl (dy (iR ho hf) ?_);have hv:args.map a.eval=(args.toList.map a.eval).toArray:=by apply Array.ext';simp
     rw[hv];obtain⟨hyl,hyg⟩:=vU hys;have hun:=Dl hyg;have hcon:rT P f [] ys [] r:=by
      rcases hΓ (f+1000000) ys φ r hr hφ with⟨h1,_⟩|⟨_,_,_,h1|h1⟩|⟨h0,h2,_⟩|⟨h0,h2,_⟩;·exact absurd h1 (Nat.not_lt.2 (Nat.le_add_left _ _))
      ·subst h1;exfalso;obtain⟨c,_,h2|⟨_,h2⟩⟩:=hyg 0 .au rfl;·exact qA h2
       ·cases h2
      ·rw[show f+1000000-1000000=f from Nat.add_sub_cancel _ _]at h1;exact za hun hres h1
      ·exact(noG h0 h2 (gW hf)).elim
      ·exact(noG h0 (Nat.le_trans (by decide) h2) (gW hf)).elim
     refine(rl h (a:=a) hd9 (by simp) (jK h args.toList ha) hyl hyg hcon hpf hfree hres).mono ?_;rintro ee w' ⟨v,β',rfl,hR,hrv⟩;refine⟨v,rfl,hK _ _ _ β' hC ?_⟩;rw[←hd,hdd];exact hR.put (fun s hs'=>by injection hs' with hs';omega) hrv
    rw[if_neg h997]at hs;by_cases h996:k=996
    ·rw[if_pos h996]at hs;refine .inl (dy (iR ho hf) ?_);have hv:args.map a.eval=(args.toList.map a.eval).toArray:=by apply Array.ext';simp
     rw[hv];refine(jl (a:=a) hL hΓ h hdN hf (by simp) (fun ha=>jK h args.toList ha) hs).mono ?_;rintro ee w' ⟨v,β',st',rfl,hK',hR⟩;refine⟨v,rfl,hK _ _ _ β' hK' ?_⟩;rw[←hd];exact hR
    rw[if_neg h996]at hs;obtain⟨d,hdd,ha,hs⟩:=ae hs;obtain⟨X,hX,hs⟩:=ae hs;obtain⟨⟨t,e,rows⟩,hT,hoff,hs⟩:=ae hs;obtain⟨ys,hys,hs⟩:=ae hs;obtain⟨⟨φ,r⟩,hr,hφ,hpf,hfree,hres,hC⟩:=ae hs;have hdlt:d<N:=hdN d hdd;have hlim:=h.pY.1;have hd9:d%1000≠999:=by omega
    refine .inl (dy (iR ho hf) ?_);have hv:args.map a.eval=(args.toList.map a.eval).toArray:=by apply Array.ext';simp
    rw[hv];have hk:k=998∨k=999:=by omega
    have hpl:p<((args.toList.map (Ab.ev st.vars)).map strip).length:=(List.getElem?_eq_some_iff.1 hX).1;have hcon:A9 P f ys r:=by
     rcases hΓ (f+1000000) ys φ r hr hφ with⟨h1,_⟩|⟨_,_,_,h1|h1⟩|⟨h0,h2,_⟩|⟨h0,h2,_⟩;·exact absurd h1 (Nat.not_lt.2 (Nat.le_add_left _ _))
     ·obtain⟨_,hm,_⟩:=qo hys hpl;rw[h1]at hm;cases p with|zero=>simp only[List.getElem?_cons_zero,Option.some.injEq]at hm;rcases hk with rfl|rfl<;>cases hm|succ p=>simp at hm
     ·rwa[show f+1000000-1000000=f from Nat.add_sub_cancel _ _]at h1
     ·exact(noG h0 h2 (gW hf)).elim
     ·exact(noG h0 (Nat.le_trans (by decide) h2) (gW hf)).elim
    refine(yv hL h (a:=a) hd9 hk (by simp) (jK h args.toList ha) hX hT hoff hys hcon hpf hfree hres).mono ?_;rintro ee w' ⟨v,β',rfl,hR,hrv⟩;refine⟨v,rfl,hK _ _ _ β' hC ?_⟩;rw[←hd,hdd];exact hR.put (fun s hs'=>by injection hs' with hs';omega) hrv
   ·cases hig
  ·exact dx hΓ hj hcore h hK hs
  ·rcases hg with⟨hg,_⟩|⟨_,_,_,_,_,hig⟩;·unfold wpOp;rw[hj];dsimp only;rw[en (P:=P) hg];exact .inl (rh hL hΓ hc hd hdN' h hK hs)
   ·cases hig
  ·rcases hg with⟨_,hig⟩|⟨j',want',s',hg,hj',hig⟩;·cases hig
   ·simp only[Option.some.injEq,Prod.mk.injEq]at hig;obtain⟨rfl,rfl⟩:=hig;unfold Cu lL at hs;split at hs
    ·split at hs
     ·obtain⟨c,hcg,hs⟩:=ae hs;unfold wpOp;rw[hj];dsimp only;rw[dq hg hj' (h.vars s) hcg];by_cases hct:c=true
      ·rw[if_pos hct]at hs ⊢;obtain⟨args,argTypes,ho,hf,hx⟩:=lV hc;simp only[hx]at hs;refine .inl (dy (iR ho hf) ?_);have hv:args.map a.eval=(args.toList.map a.eval).toArray:=by apply Array.ext';simp
       rw[hv];refine(jl (a:=a) hL hΓ h hdN hf (by simp) (fun ha=>jK h args.toList ha) hs).mono ?_;rintro ee w' ⟨v,β',st',rfl,hK',hR⟩;refine⟨v,rfl,hK _ _ _ β' hK' ?_⟩;rw[←hd];exact hR
      ·rw[if_neg hct]at hs ⊢;refine hK _ _ _ β hs ?_;rw[hd];exact h.eX hdN' (.bY _ _ _ (fun e=>by cases e) fun _=>rfl)
     ·exact hs.elim
    have guarded:(ai (bE (st.vars s) want) fun c=>ai (ft st.aa ((ix.map (ev st.vars)).map strip)) fun ys=>ai (gt Γ f ys) fun x=>if frR x.2=true then(if c=true then l8 P Γ ⟨id,.call f,ix,none,[],none⟩ f K st else K ((bA.put (.bY false .au)).on id st)) else cR P Γ ⟨id,.call f,ix,some (s,want),iun,itg⟩ K st)→wpOp P ops Q' j K' a w:=by
     intro hs;obtain⟨c,hcg,hs⟩:=ae hs;obtain⟨ys,hys,hs⟩:=ae hs;obtain⟨x,hx,hs⟩:=ae hs;split at hs
     ·unfold wpOp;rw[hj];dsimp only;rw[dq hg hj' (h.vars s) hcg];by_cases hct:c=true;·rw[if_pos hct]at hs ⊢;exact .inl (rh hL hΓ hc hd hdN' h hK hs)
      ·rw[if_neg hct]at hs ⊢;refine hK _ _ _ β hs ?_;rw[hd];exact h.eX hdN' (.bY _ _ _ (fun e=>by cases e) fun _=>rfl)
     ·exact dx hΓ hj hcore h hK hs
    unfold gN at hs;split at hs;·exact guarded hs
    ·split at hs
     ·rename_i hf0;have hcg:bE (st.vars s) want=some false:=by revert hf0;cases bE (st.vars s) want with|none=>intro h0;cases h0|some b=>cases b with|false=>intro _;rfl|true=>intro h0;cases h0
      unfold wpOp;rw[hj];dsimp only;rw[dq hg hj' (h.vars s) hcg];simp only[Bool.false_eq_true,if_false];refine hK _ _ _ β hs ?_;rw[hd];exact h.eX hdN' (.bY _ _ _ (fun e=>by cases e) fun _=>rfl)
     ·exact guarded hs
  ·exact dx hΓ hj hcore (h.drop hL t) hK hs
  ·exact uP hΓ hj hcore (h.cz hL l) hK hs
theorem gl (hL:∀b,L b→S0 b) (hΓ:dL P Γ) {j:Nat}{o:Oper}{i:AI}{K:St→Prop}{K':Act→World→Prop} (hj:ops[j]?=some o) (hi:Core P N ops o i) (h:Rel P S0 L B0 w0 N st a w β) (hK:∀st a w β,K st→Rel P S0 L B0 w0 N st a w β→K' a w) (hs:bV P Γ i K st):wpOp P ops Q' j K' a w:=by
 unfold bV at hs;split at hs;rotate_left;·exact lJ hL hΓ hj hi h hK hs
 split at hs;rotate_left;·exact lJ hL hΓ hj hi h hK hs
 rename_i r hr _;obtain⟨hc,hd,hdN,hg⟩:=hi;have hdN':∀s,o.dst=some s→s<N:=fun s e=>hdN s (hd.trans e);unfold Yh at hr;split at hr;rotate_left;·cases hr
 rename_i e sz b hk _ hig;cases hr;rw[hk]at hc;obtain⟨x,y,t,tx,inf,ho,hxs,ht,htx,hinf,hpos,hz,rfl,rfl⟩:=BE hc;rw[hxs]at hs;rcases hg with⟨hg,_⟩|⟨_,_,_,_,_,hig'⟩;rotate_left;·rw[hig]at hig';cases hig'
 unfold wpOp;rw[hj];dsimp only;rw[en (P:=P) hg];obtain⟨ha,hs⟩:=hs;obtain⟨⟨tg,rows,more⟩,hap,⟨b1,b2,b3⟩,h9,hs⟩:=ae hs;obtain⟨v,w',hrun,β',hR⟩:=Vq hL ho ht htx hinf hpos hz h hdN' (h.dj x ha.1) (h.dj y ha.2.1) hap b1 b2 b3 h9;refine .inl (aG hrun (hK _ _ _ β' hs ?_));rw[hd];exact hR
theorem uE (hL:∀b,L b→S0 b) (hΓ:dL P Γ) {Q:St→Prop} (hcore:∀(j:Nat) (o:Oper),ops[j]?=some o→∃i,is[j]?=some i∧Core P N ops o i) (hQ:∀st a w β,Q st→Rel P S0 L B0 w0 N st a w β→Q' .normal a w) {S:Nat→(St→Prop)→St→Prop} (hS:∀(j:Nat) (i:AI) (K:St→Prop) (st:St),is[j]?=some i→S j K st→cB P Γ i K st):∀(fuel:Nat) (listed:Array Bool) (st:St) (a:Act) (w:World) (β:Nat→Value),Rel P S0 L B0 w0 N st a w β→anyS S ops Q fuel listed st→wpAny P .any ops Q' fuel listed a w:=by intro fuel;induction fuel with|zero=>intro listed st a w β h hs;exact⟨hs.1,hQ _ _ _ _ hs.2 h⟩|succ fuel ih=>
 intro listed st a w β h hs;refine⟨fun h0=>hQ _ _ _ _ (hs.1 h0) h,fun j hj=>?_⟩;have h1:=hs.2 j hj;obtain⟨_,o,ho,_⟩:=mem_ready.1 hj;obtain⟨i,hi,hc⟩:=hcore j o ho;have h2:=hS j i _ st hi h1;have hnext:∀st a w β,anyS S ops Q fuel (listed.setIfInBounds j true) st→Rel P S0 L B0 w0 N st a w β→wpAny P .any ops Q' fuel (listed.setIfInBounds j true) a w:=fun st a w β hK hR=>ih _ st a w β hR hK;unfold cB at h2;split at h2
 ·rename_i f e1 e2 e3;obtain⟨id,ik,ix,ig,iun,itg⟩:=i;simp only at e1 e2 e3;subst e1 e2 e3;have hc':Core P N ops o ⟨id,.call f,ix,none,iun,none⟩:=hc.same rfl rfl rfl rfl;unfold gQ at h2;split at h2
  ·rename_i p k hfl;split at h2;·rename_i hk;refine gl hL hΓ ho hc' h hnext ?_;show gH P Γ _ f (dB Γ f) _ st;rw[hfl];unfold gH;dsimp only;rw[if_neg (by omega),if_neg (by omega)];exact h2.2
   ·split at h2;·rename_i hk;refine gl hL hΓ ho hc' h hnext ?_;show gH P Γ _ f (dB Γ f) _ st;rw[hfl];unfold gH;dsimp only;rw[if_neg (by omega),if_pos hk];exact h2.2
    ·exact h2.elim
  ·have hc2:Core P N ops o ⟨id,.call f,ix,none,[],none⟩:=hc.same rfl rfl rfl rfl;exact dx hΓ ho hc2 h hnext h2
 ·rename_i e1 e2 e3;obtain⟨id,ik,ix,ig,iun,itg⟩:=i;simp only at e1 e2 e3;subst e1 e2 e3;have hc':Core P N ops o ⟨id,.lh,ix,none,iun,none⟩:=hc.same rfl rfl rfl rfl;exact gl hL hΓ ho hc' h hnext h2
 ·exact dx hΓ ho hc h hnext h2
theorem zb {as:Array AI}:∀{l:List AI}{n:Nat},(Ax ops as n l).length=l.length∧∀(j:Nat) (i:AI),l[j]?=some i→(Ax ops as n l)[j]?=some (if zq ops as (n+j) i then{i with tg:=some 999999,un:=jJ ops as (n+j)} else i)|[],n=>⟨rfl,fun j i h=>by simp at h⟩|x::l,n=>by obtain⟨h1,h2⟩:=zb (as:=as) (l:=l) (n:=n+1);refine⟨by simp[Ax,h1],fun j i h=>?_⟩;cases j with|zero=>simp only[List.getElem?_cons_zero,Option.some.injEq]at h;subst h;rfl|succ j=>have:=h2 j i (by simpa using h);rw[show n+1+j=n+(j+1) from by omega]at this;simpa[Ax]using this
theorem uo {Q:St→Prop}{l:List AI}:∀(m k:Nat) (st:St),k+m=l.length→steps P Γ (l.drop k) Q st→Cp (fun j K st=>match l[j]? with|some i=>cB P Γ i K st|none=>False) Q m k st
 |0,k,st,hk,hs=>by
  have hd:l.drop k=[]:=by rw[List.drop_eq_nil_iff];omega
  rw[hd]at hs;exact hs|m+1,k,st,hk,hs=>by
  have hkl:k<l.length:=by omega
  rw[List.drop_eq_getElem_cons hkl]at hs;have hs:cB P Γ l[k] (fun st'=>steps P Γ (l.drop (k+1)) Q st') st:=hs;unfold Cp;rw[List.getElem?_eq_getElem hkl];exact iJ (fun st' h=>uo m (k+1) st' (by omega) h) hs
theorem qb {as:Array AI}{j:Nat}{x:AI} (h:zq ops as j x=true):((∃f,x.k=.call f)∨x.k=.lh)∧x.g=none∧x.un=[]∧∀q y,as[q]?=some y→q≠j→(if q<j then bits ops q j else bits ops j q)=false→(Mb y x=true∨(q<j∧ldB y x=true))∧∀dd,y.d=some dd→dd∉jJ ops as j:=by
 unfold zq at h;simp only[Bool.and_eq_true,List.all_eq_true,List.mem_range,Bool.or_eq_true,beq_iff_eq,Option.isNone_iff_eq_none]at h;obtain⟨⟨⟨⟨h1,h2⟩,h3⟩,h5⟩,h4⟩:=h;have hf:(∃f,x.k=.call f)∨x.k=.lh:=by
  unfold GY at h1;split at h1;·rename_i f e;exact .inl ⟨f,e⟩
  ·rename_i e;exact .inr e
  ·cases h1
 refine⟨hf,h2,by simpa using h5,fun q y hy hne hb=>?_⟩;have:=h4 q (Array.getElem?_eq_some_iff.1 hy).1;rw[hy]at this;rcases this with(h|h)|h;·exact absurd h hne
 ·rw[hb]at h;cases h
 ·simp only[Bool.and_eq_true,Bool.or_eq_true,decide_eq_true_eq]at h;refine⟨h.1,fun dd hdd=>?_⟩;have:=h.2;rw[hdd]at this;simpa using this
theorem Gz {y x:AI} (h:ldB y x=true):∃dd n s f,y=⟨some dd,.load n,[.tmp s],none,y.un,none⟩∧x.k=.call f∧x.d≠some s∧(cF x).contains dd=false∧x.d≠some dd∧dd≠s∧Bi y=[s]:=by
 obtain⟨yd,yk,yxs,yg,yun,ytg⟩:=y;unfold ldB at h;split at h;·rename_i n s dd f e1 e2 e3 e4 e5 e6;simp only at e1 e2 e3 e4 e5;subst e1 e2 e3 e4 e5;simp only[Bool.and_eq_true,bne_iff_ne,ne_eq,Bool.not_eq_true']at h;exact⟨dd,n,s,f,rfl,e6,h.1.1.1,h.1.1.2,h.1.2,h.2,rfl⟩
 ·cases h
theorem DK {as:Array AI}{q j s:Nat}{y:AI} (hy:as[q]?=some y) (hq:q<j) (hb:bits ops q j=false) (hs:Bi y=[s]):s∈jJ ops as j:=by unfold jJ;rw[List.mem_flatMap];refine⟨q,List.mem_range.2 hq,?_⟩;rw[hb,hy];simp[hs]
theorem DT (hL:∀b,L b→S0 b) (hΓ:dL P Γ) {Q:St→Prop}{l:List AI} (hl:is=l.toArray) (hsz:is.size=ops.size) (hcore:∀(j:Nat) (o:Oper),ops[j]?=some o→∃i,is[j]?=some i∧Core P N ops o i) (hQ:∀st a w β,Q st→Rel P S0 L B0 w0 N st a w β→Q' .normal a w):∀(m k:Nat) (st:St) (a:Act) (w:World) (β:Nat→Value),k+m=ops.size→Rel P S0 L B0 w0 N st a w β→cK P Γ (l.drop k) Q st→wpOps P ops Q' (List.range' k m) a w:=by intro m;induction m with
 |zero=>
  intro k st a w β hk h hs;have hd:l.drop k=[]:=by rw[List.drop_eq_nil_iff];rw[hl]at hsz;simp at hsz;omega
  rw[hd]at hs;exact hQ _ _ _ _ hs h|succ m ih=>
  intro k st a w β hk h hs;have hkl:k<l.length:=by rw[hl]at hsz;simp at hsz;omega
  have hko:k<ops.size:=by omega
  rw[List.drop_eq_getElem_cons hkl]at hs;have hs:bV P Γ l[k] (fun st'=>cK P Γ (l.drop (k+1)) Q st') st:=hs;have hok:ops[k]?=some ops[k]:=Array.getElem?_eq_getElem hko;obtain⟨i,hi,hc⟩:=hcore k _ hok;rw[hl]at hi;simp only[List.getElem?_toArray,List.getElem?_eq_getElem hkl,Option.some.injEq]at hi;subst hi;rw[List.range'_succ,wpOps_cons];exact gl hL hΓ hok hc h (fun st a w β hK hR=>ih (k+1) st a w β (by omega) hR hK) hs
theorem AZ {l:List Oper}{js:List AI} (h:ur P N ops l=some js):js.length=l.length∧∀(j:Nat) (o:Oper),l[j]?=some o→∃i,js[j]?=some i∧Core P N ops o i:=by induction l generalizing js with|nil=>simp only[ur,Option.some.injEq]at h;subst h;exact⟨rfl,fun j o h=>by simp at h⟩|cons o l ih=>
 simp only[ur]at h;split at h;·rename_i i is hi his;simp only[Option.some.injEq]at h;subst h;obtain⟨h1,h2⟩:=ih his;refine⟨by simp[h1],fun j o' hj=>?_⟩;cases j with|zero=>simp only[List.getElem?_cons_zero,Option.some.injEq]at hj;subst hj;exact⟨i,rfl,Cf hi⟩|succ j=>exact h2 j o' (by simpa using hj)
 ·cases h
theorem jR {l0:List AI}:∀{l:List AI},(vF l0 l).length=l.length∧∀(j:Nat) (i:AI),l[j]?=some i→∃i',(vF l0 l)[j]?=some i'∧i'.k=i.k∧i'.xs=i.xs∧i'.d=i.d∧i'.g=i.g|[]=>⟨rfl,fun j i h=>by simp at h⟩|x::l=>by obtain⟨h1,h2⟩:=jR (l0:=l0) (l:=l);refine⟨by simp[vF,h1],fun j i h=>?_⟩;cases j with|zero=>simp only[List.getElem?_cons_zero,Option.some.injEq]at h;subst h;exact⟨_,rfl,rfl,rfl,rfl,rfl⟩|succ j=>exact h2 j i (by simpa using h)
theorem iO {l0:List AI}:∀{l:List AI},(ql l0 l).length=l.length∧∀(j:Nat) (i:AI),l[j]?=some i→∃i',(ql l0 l)[j]?=some i'∧i'.k=i.k∧i'.xs=i.xs∧i'.d=i.d∧i'.g=i.g|[]=>⟨rfl,fun j i h=>by simp at h⟩|x::l=>by obtain⟨h1,h2⟩:=iO (l0:=l0) (l:=l);refine⟨by simp[ql,h1],fun j i h=>?_⟩;cases j with|zero=>simp only[List.getElem?_cons_zero,Option.some.injEq]at h;subst h;exact⟨_,rfl,rfl,rfl,rfl,rfl⟩|succ j=>exact h2 j i (by simpa using h)
theorem zH:∀{l pre:List AI},(uQ pre l).length=l.length∧∀(j:Nat) (i:AI),l[j]?=some i→∃i',(uQ pre l)[j]?=some i'∧i'.k=i.k∧i'.xs=i.xs∧i'.d=i.d∧i'.g=i.g|[],pre=>⟨rfl,fun j i h=>by simp at h⟩|x::l,pre=>by obtain⟨h1,h2⟩:=zH (l:=l) (pre:=x::pre);refine⟨by simp[uQ,h1],fun j i h=>?_⟩;cases j with|zero=>simp only[List.getElem?_cons_zero,Option.some.injEq]at h;subst h;refine⟨_,by simp only[uQ,List.getElem?_cons_zero];rfl,?_⟩;split<;>exact⟨rfl,rfl,rfl,rfl⟩|succ j=>obtain⟨i',h3,h4⟩:=h2 j i (by simpa using h);exact⟨i',by simpa[uQ]using h3,h4⟩
theorem qh {as:Array AI}:∀{l:List AI}{n:Nat},(rf ops as n l).length=l.length∧∀(j:Nat) (i:AI),l[j]?=some i→∃i',(rf ops as n l)[j]?=some i'∧i'.k=i.k∧i'.xs=i.xs∧i'.d=i.d∧i'.g=i.g|[],n=>⟨rfl,fun j i h=>by simp at h⟩|x::l,n=>by obtain⟨h1,h2⟩:=qh (as:=as) (l:=l) (n:=n+1);refine⟨by simp[rf,h1],fun j i h=>?_⟩;cases j with|zero=>simp only[List.getElem?_cons_zero,Option.some.injEq]at h;subst h;exact⟨_,rfl,rfl,rfl,rfl,rfl⟩|succ j=>exact h2 j i (by simpa using h)
theorem nn {as:Array AI}:∀{l:List AI}{n:Nat},(iP ops as n l).length=l.length∧∀(j:Nat) (i:AI),l[j]?=some i→∃i',(iP ops as n l)[j]?=some i'∧i'.k=i.k∧i'.xs=i.xs∧i'.d=i.d∧i'.g=i.g|[],n=>⟨rfl,fun j i h=>by simp at h⟩|x::l,n=>by obtain⟨h1,h2⟩:=nn (as:=as) (l:=l) (n:=n+1);refine⟨by simp[iP,h1],fun j i h=>?_⟩;cases j with|zero=>simp only[List.getElem?_cons_zero,Option.some.injEq]at h;subst h;exact⟨_,rfl,rfl,rfl,rfl,rfl⟩|succ j=>exact h2 j i (by simpa using h)
theorem free_spec {l:List AI} (h:Gh ops l.toArray=true) (hsz:l.length=ops.size):(∀j,j<ops.size→jI ops j=true∧∀i,i<j→lx ops i j=true)∧∀(i j:Nat) (x y:AI),l.toArray[i]?=some x→l.toArray[j]?=some y→i<j→bits ops i j=false→Apt x y:=by
 unfold Gh at h;simp only[List.all_eq_true,List.mem_range,Bool.and_eq_true,Bool.or_eq_true]at h;refine⟨fun j hj=>⟨(h j hj).1,fun i hi=>((h j hj).2 i hi).1⟩,fun i j x y hx hy hij hb=>?_⟩;have hj:j<ops.size:=by have:=(Array.getElem?_eq_some_iff.1 hy).1;simp at this;omega
 have:=((h j hj).2 i hij).2;rw[hb,hx,hy]at this;simp only[Bool.false_eq_true,false_or]at this;exact yD this
theorem xj (hL:∀b,L b→S0 b) (hΓ:dL P Γ) {id:Nat}{draw:Bool}{b:AC}{cq:List Nat}{K:St→Prop}{J:Exit→St→Prop} (hm:P.follows .mixedOrders=true) (hc:comp P N (.region id ops draw)=some b) (h:Rel P S0 L B0 w0 N st a w β) (hK:∀st a w β,K st→Rel P S0 L B0 w0 N st a w β→Q' .normal a w) (hs:hZ P Γ (gn cq b) K J st):(Code.region id ops draw).wp P Q' a w:=by
 unfold comp at hc;split at hc
 ·rename_i js hjs;obtain⟨h1,h2⟩:=AZ hjs;have hQ:∀st a w β,K ⟨jc cq st.vars,st.aa⟩→Rel P S0 L B0 w0 N st a w β→Q' .normal a w:=by
   intro st a w β hk hR;refine hK _ a w β hk (hR.cq fun s=>?_);unfold jc;split;·exact .inl rfl
   ·exact .inr rfl
  cases draw with|false=>simp only[Bool.false_eq_true,if_false,Option.some.injEq]at hc;subst hc;obtain⟨a1,a2⟩:=zH (l:=js) (pre:=[]);have hs:cK P Γ (uQ [] js) (fun st'=>K ⟨jc cq st'.vars,st'.aa⟩) st:=hs;refine wp_region ?_;rw[List.range_eq_range'];refine DT hL hΓ (is:=(uQ [] js).toArray) (l:=uQ [] js) rfl (by simpa using a1.trans h1) ?_ hQ ops.size 0 st a w β (by simp) h hs;intro j o ho;obtain⟨i,hi,hco⟩:=h2 j o (by simpa using ho);obtain⟨i',hi',g1,g2,g3,g4⟩:=a2 j i hi;exact⟨i',by simpa using hi',hco.same g1 g2 g3 g4⟩|true=>
   simp only[if_true]at hc;rcases Option.or_eq_some_iff.1 hc with hc|⟨_,hc⟩;rotate_left
   ·obtain⟨gs,hdr,t1,t2⟩:∃gs,yq ops gs (mh ops js)=some b∧gs.length=js.length∧∀(j:Nat) (i:AI),js[j]?=some i→∃i',gs[j]?=some i'∧i'.k=i.k∧i'.xs=i.xs∧i'.d=i.d∧i'.g=i.g:=by
     rcases Option.or_eq_some_iff.1 hc with h|⟨_,h⟩;·exact⟨_,h,(jR (l0:=js) (l:=js)).1,(jR (l0:=js) (l:=js)).2⟩
     ·exact⟨_,h,(iO (l0:=js) (l:=js)).1,(iO (l0:=js) (l:=js)).2⟩
    generalize mh ops js=l at hdr;unfold yq at hdr;dsimp only at hdr;split at hdr;rotate_left;·cases hdr
    rename_i hcond;simp only[Option.some.injEq]at hdr;subst hdr;obtain⟨u1,u2⟩:=qh (ops:=ops) (as:=gs.toArray) (l:=gs) (n:=0);generalize rf ops gs.toArray 0 gs=hh at*;obtain⟨w1,w2⟩:=nn (ops:=ops) (as:=hh.toArray) (l:=hh) (n:=0);have hs:steps P Γ (l.filterMap fun j=>(iP ops hh.toArray 0 hh)[j]?) (fun st'=>K ⟨jc cq st'.vars,st'.aa⟩) st:=hs;generalize iP ops hh.toArray 0 hh=ks at*;obtain⟨c1,c2,c3,c4,c5,c6⟩:=hcond;have hlen:ks.length=ops.size:=by rw[w1,u1,t1,h1];simp
    simp only[List.all_eq_true,List.mem_range,Bool.and_eq_true,decide_eq_true_eq,bne_iff_ne,ne_eq]at c3 c4 c5 c6;refine wp_region_any hm ?_;have hfirst:Array.replicate ops.size false=cw ops.size []:=by
     apply Array.ext;·simp[cw]
     ·intro j h1 h2;simp[cw]
    rw[hfirst];have hno:∀(j:Nat) (x:AI),ks[j]?=some x→x.tg≠some 999999:=fun j x hx=>c6 x (List.mem_of_getElem? hx);have hnest:∀(l:List Nat) (st:St),(∀j∈l,j<ops.size)→steps P Γ (l.filterMap fun j=>ks[j]?) (fun st'=>K ⟨jc cq st'.vars,st'.aa⟩) st→Hl (fun j K st=>match ks[j]? with|some i=>cB P Γ i K st|none=>False) (fun st'=>K ⟨jc cq st'.vars,st'.aa⟩) l st:=by intro l;induction l with|nil=>intro st _ hs;exact hs|cons j l ih=>
     intro st hl hs;have hj:j<ks.length:=by rw[hlen];exact hl j List.mem_cons_self
     have hk:=List.getElem?_eq_getElem hj;rw[List.filterMap_cons_some hk]at hs;show(match ks[j]? with|some i=>cB P Γ i _ st|none=>False);rw[hk];exact iJ (fun st h=>ih st (fun j hj=>hl j (List.mem_cons_of_mem _ hj)) h) hs
    have hany:anyS (fun j K st=>match ks[j]? with|some i=>cB P Γ i K st|none=>False) ops (fun st'=>K ⟨jc cq st'.vars,st'.aa⟩) l.length (cw ops.size []) st:=by
     refine Ff (ks:=ks.toArray) ?_ ?_ c3 ?_ l [] st (fun j hj _=>by simpa using c5 j hj) c4 (fun j hj=>by simp at hj) ?_ c2 (hnest l st c4 hs);·intro j K K' st hK hh;cases hk:ks[j]? with|none=>simp only[hk]at hh|some i=>simp only[hk]at hh ⊢;exact iJ hK hh
     ·intro j st hh;cases hk:ks[j]? with|none=>simp only[hk]at hh|some i=>simp only[hk]at hh;exact oP hh
     ·rintro i j K st ⟨x,y,hx,hy,hap⟩ hh;have hx':ks[i]?=some x:=by simpa using hx
      have hy':ks[j]?=some y:=by simpa using hy
      simp only[hx',hy']at hh ⊢;rw[c7 (hno i x hx')]at hh;obtain⟨e,he,hK⟩:=cp.1 hh;rw[c7 (hno j y hy')]at hK;obtain⟨e',he',hK⟩:=cp.1 hK;obtain⟨e1,e2,hy1,hx2,heq⟩:=swapT (yD hap) he he';rw[c7 (hno j y hy')];refine cp.2 ⟨e1,hy1,?_⟩;rw[c7 (hno i x hx')];exact cp.2 ⟨e2,hx2,by rw[heq];exact hK⟩
     ·intro j o hj hl;rw[gx false ((Array.getElem?_eq_some_iff.1 hj).1)]at hl;simp at hl
    rw[c1]at hany;refine uE hL hΓ (is:=ks.toArray) (S:=fun j K st=>match ks[j]? with|some i=>cB P Γ i K st|none=>False) ?_ hQ ?_ ops.size _ st a _ β h.drew hany;·intro j o ho;obtain⟨i,hi,hco⟩:=h2 j o (by simpa using ho);obtain⟨i1,hi1,a1,a2,a3,a4⟩:=t2 j i hi;obtain⟨i2,hi2,b1,b2,b3,b4⟩:=u2 j i1 hi1;obtain⟨i3,hi3,d1,d2,d3,d4⟩:=w2 j i2 hi2;exact⟨i3,by simpa using hi3,hco.same (i':=i3) (d1.trans (b1.trans a1)) (d2.trans (b2.trans a2)) (d3.trans (b3.trans a3)) (d4.trans (b4.trans a4))⟩
    ·intro j i K st hi hh;have hi':ks[j]?=some i:=by simpa using hi
     simp only[hi']at hh;exact hh
   obtain⟨gs,hdr,t1,t2⟩:∃gs,drawn ops gs=some b∧gs.length=js.length∧∀(j:Nat) (i:AI),js[j]?=some i→∃i',gs[j]?=some i'∧i'.k=i.k∧i'.xs=i.xs∧i'.d=i.d∧i'.g=i.g:=by
    rcases Option.or_eq_some_iff.1 hc with h|⟨_,h⟩;·exact⟨_,h,(jR (l0:=js) (l:=js)).1,(jR (l0:=js) (l:=js)).2⟩
    ·exact⟨_,h,(iO (l0:=js) (l:=js)).1,(iO (l0:=js) (l:=js)).2⟩
   unfold drawn at hdr;dsimp only at hdr;split at hdr
   ·rename_i hfree;simp only[Option.some.injEq]at hdr;subst hdr;obtain⟨u1,u2⟩:=qh (ops:=ops) (as:=gs.toArray) (l:=gs) (n:=0);generalize rf ops gs.toArray 0 gs=hh at*;obtain⟨w1,w2⟩:=nn (ops:=ops) (as:=hh.toArray) (l:=hh) (n:=0);have hs:steps P Γ (Ax ops (iP ops hh.toArray 0 hh).toArray 0 (iP ops hh.toArray 0 hh)) (fun st'=>K ⟨jc cq st'.vars,st'.aa⟩) st:=hs;generalize iP ops hh.toArray 0 hh=ks at*;obtain⟨m1,m2⟩:=zb (ops:=ops) (as:=ks.toArray) (l:=ks) (n:=0);have hlen:ks.length=ops.size:=by rw[w1,u1,t1,h1];simp
    simp only[Bool.and_eq_true,List.all_eq_true,bne_iff_ne,ne_eq]at hfree;obtain⟨f1,f2⟩:=free_spec hfree.1 hlen;have hno:=hfree.2;refine wp_region_any hm ?_;have hfirst:Array.replicate ops.size false=ei ops.size 0:=by
     apply Array.ext;·simp[ei]
     ·intro j h1 h2;simp[ei]
    rw[hfirst];generalize hms:Ax ops ks.toArray 0 ks=ms at*;have hget:∀(j:Nat) (i:AI),ms[j]?=some i→∃i0,ks[j]?=some i0∧((zq ops ks.toArray j i0=false∧i=i0)∨(zq ops ks.toArray j i0=true∧i={i0 with tg:=some 999999,un:=jJ ops ks.toArray j})):=by
     intro j i hi;have hjl:j<ks.length:=by rw[←m1];exact(List.getElem?_eq_some_iff.1 hi).1
     have h0:=List.getElem?_eq_getElem hjl;have h3:=m2 j _ h0;rw[hi,Nat.zero_add]at h3;refine⟨_,h0,?_⟩;cases hmm:zq ops ks.toArray j ks[j]with|false=>rw[hmm]at h3;left;exact⟨rfl,by simpa using h3⟩|true=>rw[hmm]at h3;right;exact⟨rfl,by simpa using h3⟩
    refine uE hL hΓ (is:=ms.toArray) (S:=fun j K st=>match ms[j]? with|some i=>cB P Γ i K st|none=>False) ?_ hQ ?_ ops.size _ st a _ β ?_ (HF ?_ ?_ f1 ?_ ops.size 0 st (by simp) (uo ops.size 0 st (by rw[m1,hlen];simp) hs))
    ·intro j o ho;obtain⟨i,hi,hco⟩:=h2 j o (by simpa using ho);obtain⟨i1,hi1,a1,a2,a3,a4⟩:=t2 j i hi;obtain⟨i2,hi2,b1,b2,b3,b4⟩:=u2 j i1 hi1;obtain⟨i3,hi3,c1,c2,c3,c4⟩:=w2 j i2 hi2;have h3:=m2 j i3 hi3;have hco3:=hco.same (i':=i3) (c1.trans (b1.trans a1)) (c2.trans (b2.trans a2)) (c3.trans (b3.trans a3)) (c4.trans (b4.trans a4));refine⟨_,by simpa using h3,?_⟩;split;·exact hco3.same rfl rfl rfl rfl
     ·exact hco3
    ·intro j i K st hi hh;have hi':ms[j]?=some i:=by simpa using hi
     simp only[hi']at hh;exact hh
    ·exact h.drew
    ·intro j K K' st hKK hh;cases hi:ms[j]? with|none=>rw[hi]at hh;exact hh.elim|some i=>rw[hi]at hh;exact iJ hKK hh
    ·intro j st hh;cases hi:ms[j]? with|none=>rw[hi]at hh;exact hh|some i=>rw[hi]at hh;exact oP hh
    ·intro i j K st hj hij hb hh;cases hi:ms[i]? with|none=>rw[hi]at hh;exact hh.elim|some x=>
      have hjl:j<ms.length:=by rw[m1,hlen];exact hj
      have hjg:=List.getElem?_eq_getElem hjl;generalize ms[j]=y at hjg;simp only[hi,hjg]at hh ⊢;obtain⟨x0,hx0,hx⟩:=hget i x hi;obtain⟨y0,hy0,hy⟩:=hget j y hjg;have hx0':ks.toArray[i]?=some x0:=by simpa using hx0
      have hy0':ks.toArray[j]?=some y0:=by simpa using hy0
      rcases hx with⟨hxm,rfl⟩|⟨hxm,rfl⟩
      ·rcases hy with⟨hym,rfl⟩|⟨hym,rfl⟩;·have nx:=hno x (List.mem_of_getElem? hx0);have ny:=hno y (List.mem_of_getElem? hy0);have hap:=f2 i j x y hx0' hy0' hij hb;rw[c7 nx]at hh;rw[c7 ny];obtain⟨e,he,hK⟩:=cp.1 hh;rw[c7 ny]at hK;obtain⟨e',he',hK⟩:=cp.1 hK;obtain⟨e1,e2,hy1,hx2,heq⟩:=swapT hap he he';refine cp.2 ⟨e1,hy1,?_⟩;rw[c7 nx];exact cp.2 ⟨e2,hx2,by rw[heq];exact hK⟩
       ·obtain⟨hk,hg,hun0,hall⟩:=qb hym;obtain⟨hc,hdu⟩:=hall i x hx0' (by omega) (by rw[if_pos hij];exact hb);rcases hc with hc|⟨_,hc⟩;·have hc':Mb x {y0 with tg:=some 999999,un:=jJ ops ks.toArray j}=true:=hc;have hsw:=uC (P:=P) (Γ:=Γ) (x:={y0 with tg:=some 999999,un:=jJ ops ks.toArray j}) (y:=x) hk hg rfl hc' hdu (K:=K) (st:=st);rw[←hsw]at hh;exact hh
        ·obtain⟨dd,n,s,f,hx1,hyk,g1,g2,g3,g4,g5⟩:=Gz hc;have hsm:=DK hx0' hij hb g5;cases hfl:dB Γ f with|none=>
          have nx:=hno x (List.mem_of_getElem? hx0);have ny:=hno y0 (List.mem_of_getElem? hy0);have hyt:y0.tg=none:=by unfold zq at hym;simp only[Bool.and_eq_true]at hym;simpa using hym.1.1.2
          have hpl:∀(K:St→Prop) (st:St),cB P Γ {y0 with tg:=some 999999,un:=jJ ops ks.toArray j} K st=cR P Γ y0 K st:=by intro K st;obtain⟨yd,yk,yxs,yg,yun,ytg⟩:=y0;simp only at hyk hg hun0 hyt;subst hyk hg hun0 hyt;show gQ P Γ _ f (dB Γ f) K st=_;rw[hfl];rfl
          have hap:=f2 i j x y0 hx0' hy0' hij hb;rw[c7 nx]at hh;rw[hpl];obtain⟨e,he,hK⟩:=cp.1 hh;rw[hpl]at hK;obtain⟨e',he',hK⟩:=cp.1 hK;obtain⟨e1,e2,hy1,hx2,heq⟩:=swapT hap he he';refine cp.2 ⟨e1,hy1,?_⟩;rw[c7 nx];exact cp.2 ⟨e2,hx2,by rw[heq];exact hK⟩|some pk=>exact JK (x:={y0 with tg:=some 999999,un:=jJ ops ks.toArray j}) (y:=x) hyk hg rfl (p:=pk.1) (k:=pk.2) hfl hx1 g1 g2 g3 g4 hsm (hdu dd (by rw[hx1])) hh
      ·obtain⟨hk,hg,_,hall⟩:=qb hxm;rcases hy with⟨hym,rfl⟩|⟨hym,rfl⟩
       ·obtain⟨hc,hdu⟩:=hall j y hy0' (by omega) (by rw[if_neg (by omega)];exact hb);rcases hc with hc|⟨hlt,_⟩;·have hc':Mb y {x0 with tg:=some 999999,un:=jJ ops ks.toArray i}=true:=hc;have hsw:=uC (P:=P) (Γ:=Γ) (x:={x0 with tg:=some 999999,un:=jJ ops ks.toArray i}) (y:=y) hk hg rfl hc' hdu (K:=K) (st:=st);rw[hsw]at hh;exact hh
        ·omega
       ·exfalso;obtain⟨hc,_⟩:=hall j y0 hy0' (by omega) (by rw[if_neg (by omega)];exact hb);obtain⟨hk',_,_⟩:=qb hym;rcases hc with hc|⟨hlt,_⟩;·unfold Mb at hc;rcases hk' with⟨f',hk'⟩|hk'<;>(rw[hk']at hc;simp at hc)
        ·omega
   ·cases hdr
 ·cases hc
theorem RV.live {S S':Nat→Prop}{D D':Nat→Prop}{β β':Nat→Value}{os:List (Nat×AO)} (hS:∀b,S b→S' b) (hD:∀t,ay (ab os) t→D t→D' t∧β' t=β t) {v:Value}{x:AV} (hx:kV os x) (h:RV P S w β D v x):RV P S' w β' D' v x:=by
 have hS':∀b,S b→S' b∧w.heap[b]?=w.heap[b]?:=fun b hb=>⟨hS b hb,rfl⟩;have hcell:∀{u:Value}{c:AV},je os c→RV P S w β D u c→RV P S' w β' D' u c:=by intro u c hc h;cases h with|pv v p h=>exact .pv _ _ (h.mono hS')|own t h=>rw[←(hD t hc h).2];exact .own t (hD t hc h).1|ptr t o b h hb=>exact .ptr t o b (hD t hc h).1 ((hD t hc h).2.trans hb)|aZ t e i o b n c inf h hi hb=>exact .aZ t e i o b n c inf (hD t hc h).1 hi ((hD t hc h).2.trans hb)|sub v t e lo hi inf A A1 n c h hi' hb h1 h2 h3 h4 h5 hv=>exact .sub _ t e lo hi inf A A1 n c (hD t hc h).1 hi' ((hD t hc h).2.trans hb) h1 h2 h3 h4 h5 hv|rp ad cs us h1 h2 h3 h4=>exact .rp ad cs us (hS _ h1) h2 h3 (fun j p hp=>(h4 j p hp).mono hS')|agg cs us hl h=>exact hc.elim|aJ cs us hl h=>exact hc.elim|bo f cs us hl h=>exact hc.elim|bY g v av h=>exact hc.elim|au v=>exact .au _
 have hcs:∀{cs:List AV},fS os cs→∀(i:Nat) (c:AV),cs[i]?=some c→je os c:=by intro cs;induction cs with|nil=>intro _ i c hc;simp at hc|cons x cs ih=>intro hl i c hc;cases i with|zero=>simp only[List.getElem?_cons_zero,Option.some.injEq]at hc;subst hc;exact hl.1|succ i=>exact ih hl.2 i c (by simpa using hc)
 cases h with|pv v p h=>exact hcell (c:=.pv p) trivial (.pv _ _ h)|own t h=>exact hcell (c:=.own t) hx (.own t h)|ptr t o b h hb=>exact hcell (c:=.ptr t o) hx (.ptr t o b h hb)|aZ t e i o b n c inf h hi hb=>exact hcell (c:=.aZ t e i o) hx (.aZ t e i o b n c inf h hi hb)|sub v t e lo hi inf A A1 n c h hi' hb h1 h2 h3 h4 h5 hv=>exact hcell (c:=.sub t e lo hi) hx (.sub v t e lo hi inf A A1 n c h hi' hb h1 h2 h3 h4 h5 hv)|rp ad cs us h1 h2 h3 h4=>exact hcell (c:=.rp cs) trivial (.rp ad cs us h1 h2 h3 h4)|agg cs us hl h=>exact .agg cs us hl fun i c u hc hu=>hcell (hcs hx i c hc) (h i c u hc hu)|aJ cs us hl h=>exact .aJ cs us hl fun i c u hc hu=>hcell (hcs hx i c hc) (h i c u hc hu)|bo f cs us hl h=>exact .bo f cs us hl fun i c u hc hu=>hcell (hcs hx i c hc) (h i c u hc hu)|bY g v av h hu=>exact .bY g v av (fun hg=>hcell hx (h hg)) hu|au v=>exact .au _
theorem RV.eb {S:Nat→Prop}{D:Nat→Prop}{v:Value} (h:RV P S w β D v (.pv .nil)):v=.slice none 0 0:=by cases h with|pv v p hp=>cases hp;rfl
theorem CJ:∀{vs:List (Nat×AV)}{s:Nat},look vs s=.au∨(s,look vs s)∈vs
 |[],_=>.inl rfl|(t,v)::l,s=>by
  simp only[look];split;·rename_i h;subst h;exact .inr List.mem_cons_self
  ·exact(CJ (vs:=l) (s:=s)).imp id (List.mem_cons_of_mem _)
theorem og:∀{os:List (Nat×AO)}{t:Nat}{o:AO},ab os t=some o→(t,o)∈os
 |[],_,_,h=>by cases h|(s,v)::l,t,o,h=>by
  simp only[ab]at h;split at h;·rename_i h';subst h';simp only[Option.some.injEq]at h;subst h;exact List.mem_cons_self
  ·exact List.mem_cons_of_mem _ (og h)
theorem CH {ad:List Nat}{os:List (Nat×AO)}:∀{l:List (Nat×AV)},NS ad st os l→∀s v,(s,v)∈l→v=.au∨(st.vars s=v∧kV os v)∨(∃t,v=.own t∧ad.contains t=true∧ay (ab os) t∧st.vars s=.pv .nil)
 |[],_,s,v,hm=>by cases hm|(s',v')::l,h,s,v,hm=>by
  rcases List.mem_cons.1 hm with e|hm;·cases e;exact h.1
  ·exact CH h.2 s v hm
theorem sa {ad:List Nat}{os:List (Nat×AO)}:∀{l:List (Nat×AO)},Pc P ad st os l→∀t o,(t,o)∈l→(st.aa t=some o∧ad.contains t=false∧vZ os o)∨(∃e,o=.arr e []∧ad.contains t=true∧st.aa t=none∧(P.info? e).isSome=true∧t%1000≠999)
 |[],_,s,v,hm=>by cases hm|(s',v')::l,h,s,v,hm=>by
  rcases List.mem_cons.1 hm with e|hm;·cases e;exact h.1
  ·exact sa h.2 s v hm
def m6 (β:Nat→Value) (aa:Nat→Option AO):Nat→Value:=fun t=>match aa t with|some _=>β t|none=>.slice none 0 0
theorem zX {ad:List Nat}{f:Fr} (h:Rel P S0 L B0 w0 N st a w β) (hw:wk P ad st f):∃β',Rel P S0 L B0 w0 N f.st a w β':=by
 obtain⟨vs,os⟩:=f;obtain⟨hv,ho⟩:=hw;have hold:∀t,ay st.aa t→m6 β st.aa t=β t:=by rintro t ⟨o,ht⟩;unfold m6;rw[ht]
 have hnew:∀t,st.aa t=none→m6 β st.aa t=.slice none 0 0:=by intro t ht;unfold m6;rw[ht]
 have hblk:∀t b,ay (ab os) t→b9 (m6 β st.aa t)=some b→ay st.aa t∧b9 (β t)=some b:=by intro t b ht hb;cases hs:st.aa t with|none=>rw[hnew t hs]at hb;simp[b9]at hb|some o=>exact⟨⟨o,hs⟩,by rw[←hold t ⟨o,hs⟩];exact hb⟩
 have hS:∀b,aS S0 w0.heap.size β st.aa w b→aS S0 w0.heap.size (m6 β st.aa) (ab os) w b:=by rintro b ⟨h1,h2,h3⟩;refine⟨h1,h2,?_⟩;rintro⟨t,o,ht,hb⟩;obtain⟨⟨o',ho'⟩,hb'⟩:=hblk t b ⟨o,ht⟩ hb;exact h3 ⟨t,o',ho',hb'⟩
 have hD:∀t,ay (ab os) t→ay st.aa t→ay (ab os) t∧m6 β st.aa t=β t:=fun t h1 h2=>⟨h1,hold t h2⟩;refine⟨m6 β st.aa,h.size,h.defers,fun s=>?_,⟨fun t o ht=>?_,fun t t' b ht ht' hb hb'=>?_⟩,fun t b ht hb=>?_,h.pY,fun t h9 ht=>?_,h.bK⟩
 ·show RV P _ w _ _ _ (look vs s);rcases CJ (vs:=vs) (s:=s) with hj|hm;·rw[hj];exact .au _
  ·rcases CH hv s _ hm with hj|⟨he,hl⟩|⟨t,he,hat,hdt,hn⟩;·rw[hj];exact .au _
   ·have:=h.vars s;rw[he]at this;exact this.live hS hD hl
   ·rw[he];have hs:=h.vars s;rw[hn]at hs;have hval:a.tmps.getD s undef=.slice none 0 0:=hs.eb;obtain⟨o,hot⟩:=hdt;have hnone:st.aa t=none:=by
     rcases sa ho t o (og hot) with⟨_,h2,_⟩|⟨_,_,_,h3,_⟩;·rw[hat]at h2;cases h2
     ·exact h3
    rw[hval,←hnew t hnone];exact .own t ⟨o,hot⟩
 ·have ht':ab os t=some o:=ht;rcases sa ho t o (og ht') with⟨h1,h2,h3⟩|⟨e,rfl,h2,h3,h4,_⟩;·have hh:=h.heap.holds t o h1;have hbt:=hold t ⟨o,h1⟩;cases o with
   |box cs=>
    obtain⟨b,us,ty,hp,hhp,hl,hc⟩:=hh;refine⟨b,us,ty,hbt.trans hp,hhp,hl,fun i c u hci hui=>⟨(hc i c u hci hui).1,?_⟩⟩;have hlc:∀{cs:List AV},fS os cs→∀(i:Nat) (c:AV),cs[i]?=some c→je os c:=by intro cs;induction cs with|nil=>intro _ i c hc;simp at hc|cons x cs ih=>intro hl i c hc;cases i with|zero=>simp only[List.getElem?_cons_zero,Option.some.injEq]at hc;subst hc;exact hl.1|succ i=>exact ih hl.2 i c (by simpa using hc)
    have hcc:je os c:=hlc h3 i c hci;have hcv:kV os c:=by cases c<;>first|exact hcc|exact hcc.elim
    exact(hc i c u hci hui).2.live hS hD hcv|arr e rows=>obtain⟨inf,us,hi,how,hr,hc⟩:=hh;refine⟨inf,us,hi,by show w.ownsRow 0 e inf.size (m6 β st.aa t) _ _;rw[hbt];exact how,hr,fun i j r p h1 h2=>?_⟩;obtain⟨u,hu,hone,hp⟩:=hc i j r p h1 h2;exact⟨u,hu,hone,hp.mono fun b hb=>⟨hS b hb,rfl⟩⟩|map es=>obtain⟨b,us,cl,hp,hhp,hl,hc⟩:=hh;exact⟨b,us,cl,hbt.trans hp,hhp,hl,fun i e u h1 h2=>⟨(hc i e u h1 h2).1,(hc i e u h1 h2).2.mono (fun b hb=>⟨hS b hb,rfl⟩) fun _ hf=>hf.elim⟩⟩|gY es=>exact bj.mono (D:=fun _=>False) (show bj P _ w β (fun _=>False) t (.gY es) from hh) (fun b hb=>⟨hS b hb,rfl⟩) (fun _ hf=>hf.elim) hbt (fun _ _=>rfl)|nk rem cur=>exact bj.mono (D:=fun _=>False) (show bj P _ w β (fun _=>False) t (.nk rem cur) from hh) (fun b hb=>⟨hS b hb,rfl⟩) (fun _ hf=>hf.elim) hbt (fun _ _=>rfl)|rws e cs=>
    obtain⟨inf,us,hi,h1s,how,hc⟩:=hh;refine⟨inf,us,hi,h1s,by rw[hbt];exact how,fun i c u hci hui=>⟨(hc i c u hci hui).1,?_⟩⟩;have hlc:∀{cs:List AV},fS os cs→∀(i:Nat) (c:AV),cs[i]?=some c→je os c:=by intro cs;induction cs with|nil=>intro _ i c hc;simp at hc|cons x cs ih=>intro hl i c hc;cases i with|zero=>simp only[List.getElem?_cons_zero,Option.some.injEq]at hc;subst hc;exact hl.1|succ i=>exact ih hl.2 i c (by simpa using hc)
    have hcc:je os c:=hlc h3 i c hci;have hcv:kV os c:=by cases c<;>first|exact hcc|exact hcc.elim
    exact(hc i c u hci hui).2.live hS hD hcv
  ·obtain⟨inf,hi⟩:=Option.isSome_iff_exists.1 h4;refine⟨inf,[],hi,?_,fun r hr=>by simp at hr,fun i j r p hr=>by simp at hr⟩;show w.ownsRow 0 e inf.size (m6 β st.aa t) _ _;rw[hnew t h3];exact World.ownsRow_nil w 0 e inf.size
 ·obtain⟨d1,b1⟩:=hblk t b ht hb;obtain⟨d2,b2⟩:=hblk t' b ht' hb';exact h.heap.inj t t' b d1 d2 b1 b2
 ·obtain⟨d1,b1⟩:=hblk t b ht hb;exact h.old t b d1 b1
 ·obtain⟨o,hot⟩:=ht;rcases sa ho t o (og hot) with⟨h1,_,_⟩|⟨_,_,_,_,_,h6⟩;·rw[hold t ⟨o,h1⟩];exact h.uI t h9 ⟨o,h1⟩
  ·exact absurd h9 h6
end
theorem se {P:Program}{Γ:bJ} (hΓ:dL P Γ) {S0 L:Nat→Prop}{B0:Nat→Value} (hL:∀b,L b→S0 b) {w0:World}{N:Nat} (hm:P.follows .mixedOrders=true) (cq:List Nat):∀(c:Code) (b:AC),comp P N c=some b→∀(K:St→Prop) (J:Exit→St→Prop) (Q:Exit→Act→World→Prop) (st:St) (a:Act) (w:World) (β:Nat→Value),(∀st a w β,K st→Rel P S0 L B0 w0 N st a w β→Q .normal a w)→(∀st a w β id,J (.exit id) st→Rel P S0 L B0 w0 N st a w β→Q (.exit id) a w)→(∀st a w β,J .ret st→Rel P S0 L B0 w0 N st a w β→Q .ret a w)→Rel P S0 L B0 w0 N st a w β→hZ P Γ (gn cq b) K J st→c.wp P Q a w:=by intro c;induction c with
 |skip=>intro b hb K J Q st a w β hK _ _ h hs;simp only[comp,Option.some.injEq]at hb;subst hb;exact wp_skip (hK _ _ _ _ hs h)|region id ops draw=>intro b hb K J Q st a w β hK _ _ h hs;exact xj hL hΓ hm hb h hK hs|seq x y ihx ihy=>
  intro b hb K J Q st a w β hK hE hR h hs;simp only[comp]at hb;split at hb
  ·rename_i bx by' hx hy;simp only[Option.some.injEq]at hb;subst hb;refine wp_seq (ihx bx hx (fun st'=>hZ P Γ (gn cq by') K J st') J _ st a w β ?_ ?_ ?_ h hs);·intro st a w β hv hr;exact ihy by' hy K J Q st a w β hK hE hR hr hv
   ·exact fun st a w β id hj hr=>hE st a w β id hj hr
   ·exact fun st a w β hj hr=>hR st a w β hj hr
  ·cases hb|cond x c1 c2 ih1 ih2=>
  intro b hb K J Q st a w β hK hE hR h hs;simp only[comp]at hb;split at hb
  ·rename_i b1 b2 h1 h2;simp only[Option.some.injEq]at hb;subst hb;obtain⟨t,ht,hc1,hc2⟩:=ae (show ai _ _ from hs);have hx:=h.ev x;generalize Ab.ev st.vars x=X at ht hx;have hxe:a.eval x=.bool t:=by cases X with|pv p=>cases p<;>simp[iW]at ht;subst ht;exact hx.eP|_=>simp[iW]at ht
   exact wp_cond_split hxe (fun e=>ih1 b1 h1 K J Q st a w β hK hE hR h (hc1 e)) (fun e=>ih2 b2 h2 K J Q st a w β hK hE hR h (hc2 e))
  ·cases hb|block id x ih=>
  intro b hb K J Q st a w β hK hE hR h hs;simp only[comp]at hb;obtain⟨b1,h1,rfl⟩:=Option.map_eq_some_iff.1 hb;refine wp_block (ih b1 h1 K (oE id K J) _ st a w β hK ?_ ?_ h hs)
  ·intro st a w β id' hj hr;simp only[oE]at hj;simp only[Exit.inBlock];split at hj;·rename_i e;rw[if_pos e];exact hK _ _ _ _ hj hr
   ·rename_i e;rw[if_neg e];exact hE _ _ _ _ _ hj hr
  ·exact fun st a w β hj hr=>hR st a w β hj hr|loop x ih=>
  intro b hb K J Q st a w β hK hE hR h hs;simp only[comp]at hb;obtain⟨b1,h1,rfl⟩:=Option.map_eq_some_iff.1 hb;obtain⟨ι,F,μ,ad,shs,i0,hw,hround⟩:=hs;obtain⟨β0,h0⟩:=zX (h.cu hL _) hw;refine wp_loop_ghost (fun n a w=>∃i β,μ i=n∧Rel P S0 L B0 w0 N (F i).st a w β) (μ i0) ⟨i0,β0,rfl,h0⟩ ?_;rintro n a w ⟨i,β,rfl,hr⟩;refine ih b1 h1 _ J _ (F i).st a w β ?_ ?_ ?_ hr (hround i);·rintro st a w β ⟨i',hw',hlt⟩ hr;obtain⟨β',hr'⟩:=zX (hr.cu hL _) hw';exact⟨μ i',hlt,i',β',rfl,hr'⟩
  ·exact fun st a w β id hj hr=>hE st a w β id hj hr
  ·exact fun st a w β hj hr=>hR st a w β hj hr|exit id=>intro b hb K J Q st a w β hK hE hR h hs;simp only[comp,Option.some.injEq]at hb;subst hb;exact wp_exit (hE _ _ _ _ _ hs h)|ret=>intro b hb K J Q st a w β hK hE hR h hs;simp only[comp,Option.some.injEq]at hb;subst hb;exact wp_ret (hR _ _ _ _ hs h)|scope x ih=>
  intro b hb K J Q st a w β hK hE hR h hs;simp only[comp]at hb;refine wp_scope_straight (ih b hb K J _ st a w β ?_ ?_ ?_ h hs);·exact fun st a w β hj hr=>hK st a w β hj hr
  ·exact fun st a w β id hj hr=>hE st a w β id hj hr
  ·exact fun st a w β hj hr=>hR st a w β hj hr|label l=>intro b hb K J Q st a w β hK _ _ h hs;simp only[comp,Option.some.injEq]at hb;subst hb;exact wp_label (hK _ _ _ _ hs h)|_=>intro b hb;simp[comp]at hb
section
variable{P:Program}{S0 L:Nat→Prop}{B0:Nat→Value}{w0 w:World}{N:Nat}{st:St}{a:Act}{β:Nat→Value}
def AB (tmps:Array Value):ResultVar→Sem Value|.tmp t=>pure (tmps.getD t undef)|.cell a t=>do loadVar t (←asAddr (tmps.getD a undef))
theorem Br (fn:Func) (tmps:Array Value):results fn tmps=(do
 let vs←fn.results.mapM (AB tmps)
 pure (if h:vs.size=1 then vs[0] else .tuple vs)):=by
 unfold results;have:(fun(x:ResultVar)=>match x with|.tmp t=>(pure (tmps.getD t undef):Sem Value)|.cell a t=>do loadVar t (←asAddr (tmps.getD a undef)))=AB tmps:=by funext x;cases x<;>rfl
 rw[←this];rfl
theorem HE {n:Option Nat}{S:Nat→Prop}{D:Nat→Prop}{aa:Nat→Option AO}{v:Value}{X:AV}{r:Prop×AV} (hX:RV P S w β D v X) (h:aj (.load n) [X] aa=some r):∃ad,v=.pointer (some ad):=by cases hX with|ptr t o b h hb=>exact⟨_,rfl⟩|aZ t e i o b n c inf h hi hb=>exact⟨_,rfl⟩|rp ad cs us h1 h2 h3 h4=>exact⟨_,rfl⟩|_=>cases n<;>simp[aj]at h
theorem HA {t:TypeId}{n:Option Nat}{s:Nat}{φ:Prop}{v:AV} (h:Rel P S0 L B0 w0 N st a w β) (ht:mH P t=some n) (hs:aj (.load n) [st.vars s] st.aa=some (φ,v)) (hφ:φ):∃r,(AB a.tmps (.cell s t)).run P w=.ok r w∧RV P (aS S0 w0.heap.size β st.aa w) w β (ay st.aa) r v:=by
 obtain⟨ad,had⟩:=HE (h.vars s) hs;let o:Oper:={(default:Oper) with op:=.load t (.tmp s)};have key:∃r,(execOp a.eval o).run P w=.ok (.value r) w∧RV P (aS S0 w0.heap.size β st.aa w) w β (ay st.aa) r v:=by cases n with|none=>exact C7 (o:=o) rfl ht h.heap (h.ev (.tmp s)) hs hφ|some n=>exact C4 (o:=o) rfl ht h.heap (h.ev (.tmp s)) hs hφ
 obtain⟨r,hr,hv⟩:=key;refine⟨r,?_,hv⟩;have he:a.eval (.tmp s)=.pointer (some ad):=had;have h1:(execOp a.eval o).run P w=((loadVar t ad).run P w).andThen fun r w'=>.ok (.value r) w':=by simp[execOp,o,Instr.loadAt,he,Instr.sureAddr]
 have h2:(AB a.tmps (.cell s t)).run P w=(loadVar t ad).run P w:=by simp[AB,had,asAddr]
 rw[h2];rw[h1]at hr;cases hl:(loadVar t ad).run P w with|ok r' w'=>rw[hl]at hr;simp only[Result.andThen,Result.ok.injEq,Next.value.injEq]at hr;rw[hr.1,hr.2]|halt x w'=>rw[hl]at hr;cases hr
theorem pL:∀(l:List ResultVar) (rs:List (Nat×Option (Option Nat))) (C:List AV→Prop),gT P l=some rs→Rel P S0 L B0 w0 N st a w β→cE st rs C→∃us vs,C vs∧us.length=vs.length∧(∀(i:Nat) (v:AV) (u:Value),vs[i]?=some v→us[i]?=some u→RV P (aS S0 w0.heap.size β st.aa w) w β (ay st.aa) u v)∧(l.mapM (AB a.tmps)).run P w=.ok us w
 |[],rs,C,hr,h,hC=>by simp only[gT,Option.some.injEq]at hr;subst hr;exact⟨[],[],hC,rfl,fun i v u h=>by simp at h,by simp⟩|.tmp t::l,rs,C,hr,h,hC=>by
  simp only[gT,Option.map_eq_some_iff]at hr;obtain⟨rs',hr',rfl⟩:=hr;obtain⟨us,vs,h1,h2,h3,h4⟩:=pL l rs' _ hr' h hC;refine⟨a.tmps.getD t undef::us,st.vars t::vs,h1,by simp[h2],fun i v u hv hu=>?_,?_⟩;·cases i with|zero=>simp only[List.getElem?_cons_zero,Option.some.injEq]at hv hu;subst hv hu;exact h.vars t|succ i=>exact h3 i v u (by simpa using hv) (by simpa using hu)
  ·simp[List.mapM_cons,AB,h4]|.cell s t::l,rs,C,hr,h,hC=>by
  simp only[gT,Option.bind_eq_some_iff,Option.map_eq_some_iff]at hr;obtain⟨n,hn,rs',hr',rfl⟩:=hr;obtain⟨⟨φ,x⟩,hx,hφ,hC⟩:=ae (show ai (aj (.load n) [st.vars s] st.aa) _ from hC);obtain⟨us,vs,h1,h2,h3,h4⟩:=pL l rs' _ hr' h hC;obtain⟨r,hrun,hv⟩:=HA h hn hx hφ;refine⟨r::us,x::vs,h1,by simp[h2],fun i v u hv' hu=>?_,?_⟩;·cases i with|zero=>simp only[List.getElem?_cons_zero,Option.some.injEq]at hv' hu;subst hv' hu;exact hv|succ i=>exact h3 i v u (by simpa using hv') (by simpa using hu)
  ·rw[List.mapM_cons];simp[hrun,h4]
theorem gU {fn:Func}{rs:List (Nat×Option (Option Nat))}{C:List AV→Prop} (hr:gT P fn.results.toList=some rs) (h:Rel P S0 L B0 w0 N st a w β) (hC:cE st rs C):∃v vs,C vs∧(results fn a.tmps).run P w=.ok v w∧RV P (aS S0 w0.heap.size β st.aa w) w β (ay st.aa) v (bG vs):=by
 obtain⟨us,vs,h1,h2,h3,h4⟩:=pL _ rs C hr h hC;have hrun:(fn.results.mapM (AB a.tmps)).run P w=.ok us.toArray w:=by rw[Array.mapM_eq_mapM_toList];simp[h4]
 have hres:(results fn a.tmps).run P w=.ok (if h:us.toArray.size=1 then us.toArray[0] else .tuple us.toArray) w:=by rw[Br];simp[hrun]
 refine⟨_,vs,h1,hres,?_⟩;rcases us with _|⟨u,_|⟨u2,us⟩⟩;·have:vs=[]:=List.eq_nil_of_length_eq_zero (by simpa using h2.symm);subst this;exact .aJ [] [] rfl fun i c u h=>by simp at h
 ·rcases vs with _|⟨v,_|⟨v2,vs⟩⟩;·simp at h2
  ·exact h3 0 v u rfl rfl
  ·simp at h2
 ·rcases vs with _|⟨v,_|⟨v2,vs⟩⟩;·simp at h2
  ·simp at h2
  ·exact .aJ (v::v2::vs) (u::u2::us) (by simpa using h2) fun i c u hc hu=>h3 i c u hc hu
end
section
variable{P:Program}{aa:Nat→Option AO}
theorem rV {x r:AV} (h:uR P aa x r):(∀cs,r≠.agg cs)∧(∀cs,r≠.aJ cs):=by constructor<;>rintro cs rfl<;>(have h:x=_∧iA _=true:=h;simp[iA]at h)
theorem s0:∀{cs rs:List AV},wS P aa cs rs→cs.length=rs.length∧∀(k:Nat) (c:AV),rs[k]?=some c→∃x,cs[k]?=some x∧uR P aa x c
 |[],[],_=>⟨rfl,fun k c h=>by simp at h⟩|x::cs,r::rs,h=>by obtain⟨h1,h2⟩:=s0 h.2;refine⟨by simp[h1],fun k c hk=>?_⟩;cases k with|zero=>simp only[List.getElem?_cons_zero,Option.some.injEq]at hk;subst hk;exact⟨x,rfl,h.1⟩|succ k=>exact h2 k c (by simpa using hk)
 |[],_::_,h=>h.elim|_::_,[],h=>h.elim
theorem pc:∀{cs rs:List AV},yE P aa cs rs→cs.length=rs.length∧∀(k:Nat) (c:AV),rs[k]?=some c→∃x,cs[k]?=some x∧Cg P aa x c
 |[],[],_=>⟨rfl,fun k c h=>by simp at h⟩|x::cs,r::rs,h=>by obtain⟨h1,h2⟩:=pc h.2;refine⟨by simp[h1],fun k c hk=>?_⟩;cases k with|zero=>simp only[List.getElem?_cons_zero,Option.some.injEq]at hk;subst hk;exact⟨x,rfl,h.1⟩|succ k=>exact h2 k c (by simpa using hk)
 |[],_::_,h=>h.elim|_::_,[],h=>h.elim
theorem pS {v r:AV} (h:Cg P aa v r):(∃cs rs,v=.agg cs∧r=.agg rs∧wS P aa cs rs)∨((∀cs,v≠.agg cs)∧uR P aa v r):=by cases v with
 |agg cs=>cases r with|agg rs=>exact .inl ⟨cs,rs,rfl,rfl,h⟩|_=>exact h.elim
 |_=>exact .inr ⟨fun cs e=>(by cases e),h⟩
theorem sk {v r:AV} (h:fz P aa v r):(∃cs rs,v=.aJ cs∧r=.aJ rs∧cs.length≤1000∧yE P aa cs rs)∨((∀cs,v≠.aJ cs)∧(∀cs,r≠.aJ cs)∧Cg P aa v r):=by
 have hr:∀{v:AV},(∀cs,v≠.aJ cs)→Cg P aa v r→∀cs,r≠.aJ cs:=by
  intro v hv h cs e;subst e;rcases pS h with⟨cs',rs,_,h2,_⟩|⟨_,h2⟩;·cases h2
  ·exact(rV h2).2 _ rfl
 have hv:(∃cs,v=.aJ cs)∨((∀cs,v≠.aJ cs)∧fz P aa v r=Cg P aa v r):=by cases v<;>first|exact .inl ⟨_,rfl⟩|exact .inr ⟨fun cs e=>(by cases e),rfl⟩
 rcases hv with⟨cs,rfl⟩|⟨h1,h2⟩;·cases r with|aJ rs=>exact .inl ⟨cs,rs,rfl,rfl,h⟩|_=>exact h.elim
 ·rw[h2]at h;exact .inr ⟨h1,hr h1 h,h⟩
theorem zg {v r:AV} (h:Cg P aa v r) {j:Nat}{c:AV} (hc:bD r j=some c):∃x,bD v j=some x∧uR P aa x c:=by
 rcases pS h with⟨cs,rs,rfl,rfl,h⟩|⟨h1,h2⟩;·exact(s0 h).2 j c hc
 ·rw[fR r (rV h2).1]at hc;rw[fR v h1];split at hc;·rename_i hj;simp only[Option.some.injEq]at hc;subst hc;exact⟨v,by simp[hj],h2⟩
  ·cases hc
theorem Ct {v r:AV} (h:fz P aa v r) {p:Nat}{c:AV} (hc:cellAt r p=some c):∃x,cellAt v p=some x∧uR P aa x c:=by
 rcases sk h with⟨cs,rs,rfl,rfl,hl,h⟩|⟨h1,h2,h3⟩;·obtain⟨y,hy,hc⟩:=Option.bind_eq_some_iff.1 (show(rs[p%1000]?).bind _=some c from hc);obtain⟨x,hx,hf⟩:=(pc h).2 _ y hy;obtain⟨z,hz,hf⟩:=zg hf hc;exact⟨z,by simp[cellAt,hx,hz],hf⟩
 ·rw[eC r h2]at hc;rw[eC v h1];split at hc;·rename_i hp;rw[if_pos hp];exact zg h3 hc
  ·cases hc
theorem CS {v r:AV}{g:Nat→AV→AV} (h:Cg P aa v r) (hg:∀j c x,bD r j=some c→bD v j=some x→uR P aa x c→g (1000*j) c=x):v=mO g r:=by
 rcases pS h with⟨cs,rs,rfl,rfl,h⟩|⟨h1,h2⟩;·obtain⟨hl,hk⟩:=s0 h;refine congrArg AV.agg (List.ext_getElem? fun k=>?_);rw[mA,Nat.zero_add];cases hr:rs[k]? with|none=>rw[List.getElem?_eq_none_iff]at hr;rw[List.getElem?_eq_none (by omega)];rfl|some c=>obtain⟨x,hx,hf⟩:=hk k c hr;rw[hx];simp only[Option.map_some,Option.some.injEq];exact(hg k c x hr hx hf).symm
 ·have hm:mO g r=g 0 r:=by have:=(rV h2).1;cases r<;>first|rfl|exact absurd rfl (this _)
  rw[hm];refine(hg 0 r v ?_ ?_ h2).symm;·rw[fR r (rV h2).1];rfl
  ·rw[fR v h1];rfl
theorem PL {v r:AV}{g:Nat→AV→AV} (h:fz P aa v r) (hg:∀p c x,cellAt r p=some c→cellAt v p=some x→uR P aa x c→g p c=x):v=cI g r:=by
 rcases sk h with⟨cs,rs,rfl,rfl,hl,h⟩|⟨h1,h2,h3⟩;·obtain⟨hl',hk⟩:=pc h;refine congrArg AV.aJ (List.ext_getElem? fun k=>?_);rw[mG,Nat.zero_add];cases hr:rs[k]? with|none=>rw[List.getElem?_eq_none_iff]at hr;rw[List.getElem?_eq_none (by omega)];rfl|some c=>
  obtain⟨x,hx,hf⟩:=hk k c hr;rw[hx];simp only[Option.map_some,Option.some.injEq];have hk1:k<1000:=by have:=(List.getElem?_eq_some_iff.1 hx).1;omega
  refine CS hf fun j c' x' h1 h2 h3=>hg _ c' x' ?_ ?_ h3
  ·show(rs[(1000*j+k)%1000]?).bind _=_;have e1:(1000*j+k)%1000=k:=by omega
   have e2:(1000*j+k)/1000=j:=by omega
   rw[e1,e2,hr];exact h1
  ·show(cs[(1000*j+k)%1000]?).bind _=_;have e1:(1000*j+k)%1000=k:=by omega
   have e2:(1000*j+k)/1000=j:=by omega
   rw[e1,e2,hx];exact h2
 ·have hm:cI g r=mO g r:=by cases r<;>first|rfl|exact absurd rfl (h2 _)
  rw[hm];refine CS h3 fun j c x a1 a2 a3=>?_;refine hg _ c x ?_ ?_ a3;·rw[eC r h2];simp[a1]
  ·rw[eC v h1];simp[a2]
def qe (t:Nat) (c:AV):Prop:=c=.own t∨∃e lo hi,c=.sub t e lo hi
theorem zY:∀{cs:List AV}{n j t:Nat}{c:AV},cs[j]?=some c→qe t c→(1000*(n+j),t)∈qd n cs|[],n,j,t,c,h,_=>by simp at h|x::cs,n,j,t,c,h,hc=>by cases j with|zero=>simp only[List.getElem?_cons_zero,Option.some.injEq]at h;subst h;rcases hc with rfl|⟨e,lo,hi,rfl⟩<;>exact List.mem_cons_self|succ j=>
 have:=zY (n:=n+1) (j:=j) (cs:=cs) (t:=t) (by simpa using h) hc;have e:n+1+j=n+(j+1):=by omega
 rw[e]at this;cases x<;>first|exact List.mem_cons_of_mem _ this|exact this
theorem CQ {v c:AV}{j t:Nat} (h:bD v j=some c) (hc:qe t c):(1000*j,t)∈Mw v:=by cases v with
 |agg cs=>have:=zY (n:=0) (j:=j) (cs:=cs) (t:=t) h hc;rw[Nat.zero_add]at this;exact this|own s=>
  simp only[bD]at h;split at h
  ·rename_i hj;simp only[Option.some.injEq]at h;subst hj h;rcases hc with h|⟨e,lo,hi,h⟩;·cases h;exact List.mem_cons_self
   ·cases h
  ·cases h|sub s e lo hi=>
  simp only[bD]at h;split at h
  ·rename_i hj;simp only[Option.some.injEq]at h;subst hj h;rcases hc with h|⟨e,lo,hi,h⟩;·cases h
   ·cases h;exact List.mem_cons_self
  ·cases h|_=>
  simp only[bD]at h;split at h;·simp only[Option.some.injEq]at h;subst h;rcases hc with h|⟨e,lo,hi,h⟩<;>cases h
  ·cases h
theorem AE:∀{vs:List AV}{n i j t:Nat}{c:AV},(vs[i]?).bind (fun v=>bD v j)=some c→qe t c→(1000*j+(n+i),t)∈BL n vs|[],n,i,j,t,c,h,_=>by simp at h|v::vs,n,i,j,t,c,h,hc=>by cases i with|zero=>simp only[List.getElem?_cons_zero,Option.bind_some]at h;exact List.mem_append_left _ (List.mem_map.2 ⟨_,CQ h hc,rfl⟩)|succ i=>
 have:=AE (n:=n+1) (i:=i) (j:=j) (vs:=vs) (t:=t) (by simpa using h) hc;have e:n+1+i=n+(i+1):=by omega
 rw[e]at this;exact List.mem_append_right _ this
theorem xJ {v c:AV}{p t:Nat} (h:cellAt v p=some c) (hc:qe t c):(p,t)∈pl v:=by
 have hne:(∀cs,v≠.aJ cs)→(p,t)∈pl v:=by
  intro hv;rw[eC v hv]at h;split at h
  ·have:=CQ h hc;have e:1000*(p/1000)=p:=by omega
   rw[e]at this;cases v<;>first|exact this|exact absurd rfl (hv _)
  ·cases h
 cases v with|aJ vs=>
  have:=AE (n:=0) (i:=p%1000) (j:=p/1000) (vs:=vs) (t:=t) h hc;have e:1000*(p/1000)+(0+p%1000)=p:=by omega
  rw[e]at this;exact this|_=>exact hne fun cs e=>by cases e
theorem vl:∀{l:List (Nat×Nat)},kq l→∀{p q t:Nat},(p,t)∈l→(q,t)∈l→p=q
 |[],_,p,q,t,h1,_=>by cases h1|x::l,h,p,q,t,h1,h2=>by
  rcases List.mem_cons.1 h1 with e1|h1<;>rcases List.mem_cons.1 h2 with e2|h2;·have:=e1.trans e2.symm;simpa using this
  ·exact absurd (by rw[←e1]) (h.1 _ h2)
  ·exact absurd (by rw[←e2]) (h.1 _ h1)
  ·exact vl h.2 h1 h2
end
def nf (i:Nat):List AV→List (Nat×AV)|[]=>[]|v::vs=>(i,v)::nf (i+1) vs
theorem pP:∀(vs:List AV) (i s:Nat),look (nf i vs) s=if i≤s then(vs[s-i]?).getD .au else .au
 |[],i,s=>by simp[nf,look]|v::vs,i,s=>by
  simp only[nf,look,pP vs (i+1) s];by_cases h:s=i;·subst h;simp
  ·rw[if_neg h];by_cases h1:i≤s
   ·have h2:i+1≤s:=by omega
    have h3:s-i=(s-(i+1))+1:=by omega
    rw[if_pos h1,if_pos h2,h3];rfl
   ·rw[if_neg h1,if_neg (by omega)]
theorem yT {P:Program}{S:Nat→Prop}{w:World}{β:Nat→Value}{D:Nat→Prop}{v:Value}{X c:AV}{j:Nat} (h:RV P S w β D v X) (hc:bD X j=some c):∃u,RV P S w β D u c:=by cases X with
 |agg cs=>
  obtain⟨us,rfl,hl,hcs⟩:=h.cN;have hc:cs[j]?=some c:=hc;have hlt:j<us.length:=by rw[hl];exact(List.getElem?_eq_some_iff.1 hc).1
  exact⟨_,hcs j c _ hc (List.getElem?_eq_getElem hlt)⟩|_=>
  simp only[bD]at hc;split at hc;·simp only[Option.some.injEq]at hc;subst hc;exact⟨v,h⟩
  ·cases hc
theorem Jb {P:Program}{S:Nat→Prop}{w:World}{β:Nat→Value}{D:Nat→Prop}{v:Value}{X c:AV}{q:Nat} (h:RV P S w β D v X) (hc:cellAt X q=some c):∃u,RV P S w β D u c:=by
 by_cases hx:∃vs,X=.aJ vs
 ·obtain⟨vs,rfl⟩:=hx;obtain⟨us,rfl,hl,hcs⟩:=h.jk;obtain⟨y,hy,hc⟩:=Option.bind_eq_some_iff.1 (show(vs[q%1000]?).bind _=some c from hc);have hlt:q%1000<us.length:=by rw[hl];exact(List.getElem?_eq_some_iff.1 hy).1
  exact yT (hcs _ y _ hy (List.getElem?_eq_getElem hlt)) hc
 ·rw[eC X (fun vs e=>hx ⟨vs,e⟩)]at hc;split at hc;·exact yT h hc
  ·cases hc
theorem sn {aa:Nat→Option AO}{l:List (Nat×Nat)}:∀{hout:List (Nat×AO)},lR aa l hout→∀t o,ab hout t=some o→aa t=some o∧∀y∈l,y.2≠t
 |[],_,t,o,h=>by cases h|(s,o')::hout,hb,t,o,h=>by
  simp only[ab]at h;split at h;·rename_i e;subst e;cases h;exact⟨hb.1,hb.2.1⟩
  ·exact sn hb.2.2 t o h
theorem yB {P:Program}{Γ:bJ} (hΓ:dL P Γ) {f:FuncId}{cq:List Nat}{F:AFn}{hin hout:List (Nat×AO)}{args:List AV}{r:AV} (hm:QZ P=true) (hc:yb P f cq=some F) (hlen:args.length≤F.n) (hback:∀t o,ab hout t=some o→t%1000=999∧ay (ab hin) t∧dm (cellAt r t)=none∧∃e rows,o=.arr e rows) (hs:hZ P Γ F.body (m0 P F.res r hout) (zi (m0 P F.res r hout)) ⟨look (nf 0 args),ab hin⟩) (w:World) (S0:Nat→Prop) (β:Nat→Value) (vals:List Value) (hS0:∀b,S0 b→b<w.heap.size) (hheap:Heap P (aS S0 w.heap.size β (ab hin) w) w β (ab hin)) (hvl:vals.length=args.length) (hvr:∀(i:Nat) (v:Value) (x:AV),vals[i]?=some v→args[i]?=some x→RV P (aS S0 w.heap.size β (ab hin) w) w β (ay (ab hin)) v x):Calls P f vals.toArray w fun e w'=>∃v β',e=.returned v∧yG (live β (ab hin)) w w'∧Heap P (aS (fun b=>S0 b∨live β (ab hin) b) w.heap.size β' (bn (ab hout) fun t=>dm (cellAt r t)) w') w' β' (bn (ab hout) fun t=>dm (cellAt r t))∧(∀t b,ay (bn (ab hout) fun t=>dm (cellAt r t)) t→b9 (β' t)=some b→w.heap.size≤b∨live β (ab hin) b)∧(∀t,ay (ab hout) t→ay (ab hin) t∧β' t=β t)∧RV P (aS (fun b=>S0 b∨live β (ab hin) b) w.heap.size β' (bn (ab hout) fun t=>dm (cellAt r t)) w') w' β' (ay (bn (ab hout) fun t=>dm (cellAt r t))) v (cI FQ r):=by
 unfold yb at hc;split at hc
 ·rename_i fn hfn;split at hc
  ·rename_i c rs hb hrs;obtain⟨b,hcomp,hc⟩:=Option.bind_eq_some_iff.1 hc;split at hc;case isFalse=>cases hc
   rename_i hN;simp only[Option.some.injEq]at hc;subst hc;simp only at hs hlen;refine calls_of_wp hfn hb ?_;let S1:Nat→Prop:=fun b=>S0 b∨live β (ab hin) b;have hS1:∀b,aS S0 w.heap.size β (ab hin) w b→aS S1 w.heap.size β (ab hin) w b∧w.heap[b]?=w.heap[b]?:=fun b ⟨h1,h2,h3⟩=>⟨⟨h1.imp .inl id,h2,h3⟩,rfl⟩;have hfram:yG (live β (ab hin)) w w:=⟨rfl,rfl,rfl,Nat.le_refl _,fun _ _ _=>rfl⟩;have hrel:Rel P S1 (live β (ab hin)) β w fn.ntmps ⟨look (nf 0 args),ab hin⟩ {tmps:=vals.toArray++Array.replicate (fn.ntmps-vals.toArray.size) undef,defers:=[]} w β:=by
    refine⟨by simp;omega,rfl,fun s=>?_,⟨fun t o ho=>(hheap.holds t o ho).mono hS1 (fun s hs=>⟨hs,rfl⟩) rfl (fun b _=>rfl),hheap.inj⟩,fun t b ht hb=>.inr ?_,⟨hN,KV hm⟩,fun t _ _=>rfl,hfram⟩;·show RV P _ w β _ _ (look (nf 0 args) s);rw[pP];simp only[Nat.zero_le,if_true,Nat.sub_zero];cases ha:args[s]? with|none=>exact .au _|some x=>
     have hs1:=(List.getElem?_eq_some_iff.1 ha).1;have hs2:s<vals.length:=by omega
     have hv:vals[s]?=some vals[s]:=List.getElem?_eq_getElem hs2;have hget:(vals.toArray++Array.replicate (fn.ntmps-vals.toArray.size) undef).getD s undef=vals[s]:=by rw[Array.getD_eq_getD_getElem?,Array.getElem?_append_left (by simpa using hs2)];simp[hs2]
     rw[hget];exact(hvr s _ x hv ha).mono hS1 fun s hs=>⟨hs,rfl⟩
    ·obtain⟨o,ho⟩:=ht;exact⟨t,o,ho,hb⟩
   have fin:∀st a w' β',m0 P rs r hout st→Rel P S1 (live β (ab hin)) β w fn.ntmps st a w' β'→a.defers=[]∧∃v,(results fn a.tmps).run P w'=.ok v w'∧∃v0 β'',Ending.returned v=.returned v0∧yG (live β (ab hin)) w w'∧Heap P (aS S1 w.heap.size β'' (bn (ab hout) fun t=>dm (cellAt r t)) w') w' β'' (bn (ab hout) fun t=>dm (cellAt r t))∧(∀t b,ay (bn (ab hout) fun t=>dm (cellAt r t)) t→b9 (β'' t)=some b→w.heap.size≤b∨live β (ab hin) b)∧(∀t,ay (ab hout) t→ay (ab hin) t∧β'' t=β t)∧RV P (aS S1 w.heap.size β'' (bn (ab hout) fun t=>dm (cellAt r t)) w') w' β'' (ay (bn (ab hout) fun t=>dm (cellAt r t))) v0 (cI FQ r):=by
    intro st0 a w' β' hF0 hR0;obtain⟨_,vs0,hF,_,_⟩:=gU hrs hR0 hF0;have hR:=hR0.cu (fun b hb=>.inr hb) (mI (bG vs0) r);change nq P rs r hout (cu _ st0) at hF;generalize cu (mI (bG vs0) r) st0=st at hF hR;obtain⟨v,vs,⟨hfz,hap,hbk⟩,hrun,hv⟩:=gU hrs hR hF;refine⟨hR.defers,v,hrun,v,?_⟩;generalize bG vs=X at hfz hap hv hbk;have hbg:=sn hbk;let F:Nat→Option AO:=bn (ab hout) fun t=>dm (cellAt r t);let β2:Nat→Value:=fun q=>match ab hout q with|some _=>β' q|none=>match cellAt X q with|some (.own t)=>β' t|some (.sub t _ _ hi)=>(match β' t with|.slice A _ c=>.slice A hi c|v=>v)|_=>.slice none 0 0;have hFq:∀q o,F q=some o→ab hout q=some o∨(ab hout q=none∧dm (cellAt r q)=some o):=by intro q o ho;simp only[F,bn]at ho;cases hl:ab hout q with|some o'=>rw[hl]at ho;exact .inl ho|none=>rw[hl]at ho;exact .inr ⟨rfl,ho⟩
    have hβb:∀q o,ab hout q=some o→β2 q=β' q:=fun q o h=>by simp only[β2,h]
    have hfr:∀q o,ab hout q=none→dm (cellAt r q)=some o→∃e rows,cellAt r q=some (.fr e rows)∧o=.arr e rows∧((∃t c,cellAt X q=some c∧qe t c∧(∃rs,st.aa t=some (.arr e rs))∧b9 (β2 q)=b9 (β' t)∧bj P (aS S1 w.heap.size β' st.aa w') w' β2 (ay st.aa) q (.arr e rows)∧(∀u,RV P (aS S1 w.heap.size β' st.aa w') w' β' (ay st.aa) u c→u=β2 q))∨(cellAt X q=some (.pv .nil)∧rows=[]∧(P.info? e).isSome=true∧β2 q=.slice none 0 0)):=by
     intro q o hno ho;unfold dm at ho;split at ho
     ·rename_i e rows hcell;simp only[Option.some.injEq]at ho;refine⟨e,rows,hcell,ho.symm,?_⟩;obtain⟨x,hx,hf⟩:=Ct hfz hcell;rcases hf with⟨t,rfl,ht⟩|⟨rfl,h1,h2⟩|⟨t,hi,rs',rfl,ht,hrr⟩
      ·have hβ2:β2 q=β' t:=by simp only[β2,hno,hx]
       refine .inl ⟨t,_,hx,.inl rfl,⟨_,ht⟩,by rw[hβ2],?_,fun u hu=>by rw[hβ2];exact hu.aR.1⟩;obtain⟨inf,us,hi,how,hrl,hcl⟩:=hR.heap.holds t _ ht;exact⟨inf,us,hi,by rw[hβ2];exact how,hrl,hcl⟩
      ·exact .inr ⟨hx,h1,h2,by simp only[β2,hno,hx]⟩
      ·obtain⟨inf,us,hinf,how,hrl,hcl⟩:=hR.heap.holds t _ ht;obtain⟨A,c,hbt,hcc⟩:=cn how;have hβ2:β2 q=.slice A hi c:=by simp only[β2,hno,hx,hbt]
       have hsub:∀u,RV P (aS S1 w.heap.size β' st.aa w') w' β' (ay st.aa) u (.sub t e 0 hi)→u=β2 q∧hi≤rs'.length:=by
        intro u hu;obtain⟨inf1,Ad,Ad1,n,c1,hdt,hi1,hb1,g1,g2,g3,g4,g5,hux⟩:=hu.gh;rw[hbt]at hb1;have h3:A=Ad∧rs'.length=n∧c=c1:=by simpa using hb1
        obtain⟨rfl,rfl,rfl⟩:=h3;rw[hβ2,hux,g4 rfl];exact⟨by simp,g2⟩
       obtain⟨u0,hu0⟩:=Jb hv hx;have hle:=(hsub u0 hu0).2;have hlen:(rs'.take hi).length=hi:=by rw[List.length_take];omega
       refine .inl ⟨t,_,hx,.inr ⟨_,_,_,rfl⟩,⟨_,ht⟩,by rw[hβ2,hbt];cases A<;>rfl,?_,fun u hu=>(hsub u hu).1⟩;rw[hrr];refine⟨inf,us.take (hi*inf.size),hinf,?_,fun r hr=>hrl r (List.mem_of_mem_take hr),fun i j r p hr hp=>?_⟩;·rw[hlen,hβ2];exact kh how hle hbt
       ·have hi2:i<hi:=by rw[←hlen];exact(List.getElem?_eq_some_iff.1 hr).1
        rw[List.getElem?_take,if_pos hi2]at hr;obtain⟨u,hu,h1,h2⟩:=hcl i j r p hr hp;have hj:j<inf.size:=by rw[←hrl r (List.mem_of_getElem? hr)];exact(List.getElem?_eq_some_iff.1 hp).1
        have hlt:i*inf.size+j<hi*inf.size:=by have:=Nat.mul_le_mul_right inf.size (show i+1≤hi from hi2);rw[Nat.succ_mul]at this;omega
        exact⟨u,by rw[List.getElem?_take,if_pos hlt];exact hu,h1,h2⟩
     ·cases ho
    have hlive:∀q b,ay F q→b9 (β2 q)=some b→∃t,ay st.aa t∧b9 (β' t)=some b∧((ab hout q≠none∧t=q)∨(ab hout q=none∧∃c,cellAt X q=some c∧qe t c)):=by
     rintro q b ⟨o,ho⟩ hb;rcases hFq q o ho with h1|⟨h0,h1⟩;·rw[hβb q o h1]at hb;exact⟨q,⟨o,(hbg q o h1).1⟩,hb,.inl ⟨by rw[h1];simp,rfl⟩⟩
     ·obtain⟨e,rows,_,_,h|h⟩:=hfr q o h0 h1;·obtain⟨t,c,h2,h3,⟨rs',h4⟩,h5,_⟩:=h;exact⟨t,⟨_,h4⟩,by rw[←h5];exact hb,.inr ⟨h0,c,h2,h3⟩⟩
      ·rw[h.2.2.2]at hb;simp[b9]at hb
    have hS:∀b,aS S1 w.heap.size β' st.aa w' b→aS S1 w.heap.size β2 F w' b:=by rintro b ⟨h1,h2,h3⟩;refine⟨h1,h2,?_⟩;rintro⟨q,o,ho,hb⟩;obtain⟨t,⟨o',ho'⟩,hb',_⟩:=hlive q b ⟨o,ho⟩ hb;exact h3 ⟨t,o',ho',hb'⟩
    have hS':∀b,aS S1 w.heap.size β' st.aa w' b→aS S1 w.heap.size β2 F w' b∧w'.heap[b]?=w'.heap[b]?:=fun b hb=>⟨hS b hb,rfl⟩;have hcore:∀q t e rows,bj P (aS S1 w.heap.size β' st.aa w') w' t (ay st.aa) q (.arr e rows)→t q=β2 q→bj P (aS S1 w.heap.size β2 F w') w' β2 (ay F) q (.arr e rows):=by rintro q t e rows ⟨inf,us,hi,how,hrl,hcl⟩ ht;refine⟨inf,us,hi,by rw[←ht];exact how,hrl,fun i j r p h1 h2=>?_⟩;obtain⟨u,hu,hone,hp⟩:=hcl i j r p h1 h2;exact⟨u,hu,hone,hp.mono hS'⟩
    refine⟨β2,rfl,hR.bK,⟨fun q o ho=>?_,fun q q' b hq hq' hb hb'=>?_⟩,fun q b hq hb=>?_,fun q ⟨o,ho⟩=>?_,?_⟩
    ·rcases hFq q o ho with h1|⟨h0,h1⟩;·have hho:=hR.heap.holds q o (hbg q o h1).1;cases o with|arr e rows=>exact hcore q β' e rows hho (hβb q _ h1).symm|box cs=>obtain⟨_,_,_,e,rows,he⟩:=hback q _ h1;cases he|map es=>obtain⟨_,_,_,e,rows,he⟩:=hback q _ h1;cases he|rws e cs=>obtain⟨_,_,_,e,rows,he⟩:=hback q _ h1;cases he|gY es=>obtain⟨_,_,_,e,rows,he⟩:=hback q _ h1;cases he|nk rem cur=>obtain⟨_,_,_,e,rows,he⟩:=hback q _ h1;cases he
     ·obtain⟨e,rows,_,rfl,h|h⟩:=hfr q o h0 h1;·obtain⟨t,c,_,_,_,_,h6,_⟩:=h;exact hcore q β2 e rows h6 rfl
      ·obtain⟨_,rfl,hi,h3⟩:=h;obtain⟨inf,hi⟩:=Option.isSome_iff_exists.1 hi;exact⟨inf,[],hi,by rw[h3];exact World.ownsRow_nil w' 0 e inf.size,fun r hr=>by simp at hr,fun i j r p hr=>by simp at hr⟩
    ·obtain⟨t,h2,h3,h4⟩:=hlive q b hq hb;obtain⟨t',h2',h3',h4'⟩:=hlive q' b hq' hb';have:t=t':=hR.heap.inj t t' b h2 h2' h3 h3';subst this;rcases h4 with⟨h5,rfl⟩|⟨h5,c,h6,h7⟩<;>rcases h4' with⟨h5',rfl⟩|⟨h5',c',h6',h7'⟩;·rfl
     ·cases hl:ab hout t with|none=>exact absurd hl h5|some o=>exact absurd rfl ((hbg t o hl).2 _ (xJ h6' h7'))
     ·cases hl:ab hout t with|none=>exact absurd hl h5'|some o=>exact absurd rfl ((hbg t o hl).2 _ (xJ h6 h7))
     ·exact vl hap (xJ h6 h7) (xJ h6' h7')
    ·obtain⟨t,h2,h3,_⟩:=hlive q b hq hb;exact hR.old t b h2 h3
    ·obtain⟨h9,hd,_,_⟩:=hback q o ho;exact⟨hd,(hβb q o ho).trans (hR.uI q h9 ⟨o,(hbg q o ho).1⟩)⟩
    ·have hX:X=cI (fun p c=>match c with|.fr _ _=>(cellAt X p).getD .au|c=>c) r:=by refine PL hfz fun p c x hc hx hf=>?_;cases c with|fr e rows=>simp[hx]|_=>exact hf.1.symm
     have htup:nU r=true:=by
      rcases sk hfz with⟨cs,rs,_,rfl,hl,h⟩|⟨_,h2,_⟩;·simp only[nU,decide_eq_true_eq];rw[←(pc h).1];exact hl
      ·cases r<;>first|rfl|exact absurd rfl (h2 _)
     rw[hX]at hv;refine j9 htup ?_ hv;intro p c u hc hu;obtain⟨x,hx,hf⟩:=Ct hfz hc;cases c with
     |fr e rows=>
      simp only[hx,Option.getD_some]at hu;have hfp:dm (cellAt r p)=some (.arr e rows):=by simp[hc,dm]
      have hno:ab hout p=none:=by cases hl:ab hout p with|none=>rfl|some o=>rw[(hback p o hl).2.2.1]at hfp;cases hfp
      have hdom:ay F p:=⟨.arr e rows,by simp only[F,bn,hno];exact hfp⟩;have hgoal:u=β2 p:=by
       obtain⟨_,_,_,_,h|h⟩:=hfr p _ hno hfp;·obtain⟨t,c,h2,_,_,_,_,h7⟩:=h;rw[hx]at h2;injection h2 with h2;subst h2;exact h7 u hu
       ·obtain⟨h1,_,_,h3⟩:=h;rw[hx]at h1;injection h1 with h1;subst h1;rw[h3];exact hu.eb
      show RV P _ w' β2 _ u (.own p);rw[hgoal];exact .own p hdom|pv q=>cases hu with|pv v p h=>exact .pv _ _ (h.mono hS')
     |rp cs=>obtain⟨ad,us,rfl,h1,h2,h3,h4⟩:=RV.iK hu;exact .rp ad cs us (hS _ h1) h2 h3 (fun j p hp=>(h4 j p hp).mono hS')|_=>exact absurd hf.2 (by simp[iA])
   refine se hΓ (S0:=S1) (L:=live β (ab hin)) (fun b hb=>.inr hb) (w0:=w) (Lu hm) cq c b hcomp (m0 P rs r hout) (zi (m0 P rs r hout)) _ _ _ w β ?_ ?_ ?_ hrel hs;·intro st a w' β' hF hR;exact fin st a w' β' hF hR
   ·intro st a w' β' id hj;exact hj.elim
   ·intro st a w' β' hF hR;exact fin st a w' β' hF hR
  ·cases hc
 ·cases hc
theorem Ef (P:Program) (rs:List (Nat×Option (Option Nat))) (r:AV):m0 P rs r []=Ends P rs r:=by funext st;simp[m0,nq,Ends,vg,lR]
theorem aq {P:Program}{Γ:bJ} (hΓ:dL P Γ) {f:FuncId}{n k:Nat}{rs:List (Nat×Option (Option Nat))}{b:AC}{args:List AV}{r:AV} (hm:QZ P=true) (hc:aFn P f=some ⟨n,k,rs,b⟩) (hlen:args.length≤n) (hs:hZ P Γ b (Ends P rs r) (zi (Ends P rs r)) ⟨look (nf 0 args),ab []⟩):rT P f [] args [] r:=by
 intro w S0 β vals hS0 hlt hheap hvl hvr;have hlv:(fun b=>S0 b∨live β (ab []) b)=S0:=by
  funext b;apply propext;constructor
  ·rintro(h|⟨t,o,ho,_⟩);·exact h
   ·cases ho
  ·exact .inl
 rw[←Ef]at hs;have:=yB hΓ (hin:=[]) (hout:=[]) hm hc hlen (fun t o h=>by cases h) hs w S0 β vals hS0 hheap hvl hvr;rw[hlv]at this;refine this.mono ?_;rintro e w' ⟨v,β',h1,h2,h3,h4,_,h5⟩;exact⟨v,β',h1,h2,h3,h4,h5⟩
theorem mn {P:Program}{Γ:bJ} (hΓ:dL P Γ) {f:FuncId}{n k:Nat}{rs:List (Nat×Option (Option Nat))}{b:AC}{ys:List AV}{x:AV} (hm:QZ P=true) (hc:aFn P f=some ⟨n,k,rs,b⟩) (hlen:ys.length≤n) (hres:cP (bS x)=true) (hb:∀t o,ab (dW x) t=some o→ay (ab (lI ys)) t) (hs:hZ P Γ b (m0 P rs (bS x) (dW x)) (zi (m0 P rs (bS x) (dW x))) ⟨look (nf 0 (ys.map FO)),ab (lI ys)⟩):A9 P f ys x:=by
 intro w S0 β vals hS0 hlt hheap hvl hvr;refine yB hΓ (hin:=lI ys) (hout:=dW x) hm hc (by simpa using hlen) (fun t o h=>?_) hs w S0 β vals hS0 hheap (by simpa using hvl) hvr;have h9:t=999∧∃e rows,o=.arr e rows:=by
  unfold dW at h;split at h
  ·simp only[ab]at h;split at h;·rename_i e;cases h;exact⟨e,_,_,rfl⟩
   ·cases h
  ·cases h
 obtain⟨rfl,he⟩:=h9;exact⟨rfl,hb _ o h,qg hres,he⟩
def OA:List AV→List Nat×List Nat→Option (List AV×List (Nat×AO)×List Nat×List Nat)|[],s=>some ([],[],s)|y::ys,s=>(num 5 (HQ y) (IA y) s).bind fun r=>(OA ys r.2.2).map fun q=>(r.1::q.1,r.2.1++q.2.1,q.2.2)
def WS:List Nat×List Nat:=([999,1999,2999,3999,4999,5999],[998,1998,2998,3998,4998,5998,6998,7998,8998,9998,10998,11998])
def Bb:AV→Bool|.own _|.ptr _ 0|.pv _|.rp _|.bo _ []=>true|_=>false
def um:AV→Bool|.agg cs=>cs.all Bb|x=>Bb x
def pH (P:Program) (rs:List (Nat×Option (Option Nat))) (L:List AV) (x:AV) (st:St):Prop:=cE st rs fun vs=>mt P st.aa 6 (bG vs) (kg x)∧uH (mt P st.aa 5) L (lf x)∧(L.flatMap (tg st.aa 5)++tg st.aa 6 (bG vs)).Nodup
def qJ (P:Program) (rs:List (Nat×Option (Option Nat))) (L:List AV) (x:AV) (st:St):Prop:=cE st rs fun vs=>pH P rs L x (cu (mI (bG vs) (kg x)) st)
section
variable{P:Program}{S S':Nat→Prop}{w w':World}{β β':Nat→Value}{aa:Nat→Option AO}
theorem CA (hS:∀b,S b→S' b):∀(ys:List AV) (s:List Nat×List Nat) (q:List AV×List (Nat×AO)×List Nat×List Nat),OA ys s=some q→(q.2.1.map (·.1)++(q.2.2.1++q.2.2.2)).Perm (s.1++s.2)∧q.1.length=ys.length∧∀(vs:List Value) (bss:List (List Nat)),E2 P S w vs (ys.map IA) bss→bss.flatten.Nodup→(s.1++s.2).Nodup→lX P S' w q.2.1 bss.flatten fun β D=>∀(i:Nat) (c:AV) (u:Value),q.1[i]?=some c→vs[i]?=some u→RV P S' w β D u c
 |[],s,q,h=>by cases h;exact⟨.refl _,rfl,fun vs bss _ _ _=>lX.none _ fun β D i c u hc=>by simp at hc⟩|y::ys,s,q,h=>by
  obtain⟨r,hr,h⟩:=Option.bind_eq_some_iff.1 h;obtain⟨q',hq,rfl⟩:=Option.map_eq_some_iff.1 h;obtain⟨p1,l1⟩:=pO (P:=P) (S:=S) (S':=S') (w:=w) hS 5 (HQ y) (IA y) s r hr;obtain⟨p2,n2,l2⟩:=CA hS ys r.2.2 q' hq;have hp:((r.2.1++q'.2.1).map (·.1)++(q'.2.2.1++q'.2.2.2)).Perm (s.1++s.2):=by rw[List.map_append,List.append_assoc];exact(p2.append_left _).trans p1
  refine⟨hp,by simp[n2],fun vs bss ⟨hl1,hl2,hg⟩ hnd hs=>?_⟩;match vs,bss,hl1,hl2 with
  |v::vs,bs::bss,hl1,hl2=>
   rw[List.flatten_cons,List.nodup_append]at hnd;have hs1:=p1.nodup_iff.2 hs;rw[List.nodup_append]at hs1;have hs2:(r.2.2.1++r.2.2.2).Nodup:=hs1.2.1;have k1:=l1 v bs (hg 0 _ v bs rfl rfl rfl) hnd.1 hs;have k2:=l2 vs bss ⟨by simpa using hl1,by simpa using hl2,fun i y v bs h1 h2 h3=>hg (i+1) y v bs (by simpa using h1) (by simpa using h2) (by simpa using h3)⟩ hnd.2.1 hs2;refine(k1.append k2 (fun b hb hb'=>hnd.2.2 b hb b hb' rfl) fun p hp q hq e=>?_).imp (fun b hb=>by simpa using hb) fun β D ⟨a1,a2⟩ i c u hc hu=>?_;·have:q.1∈r.2.2.1++r.2.2.2:=p2.mem_iff.1 (List.mem_append_left _ (List.mem_map_of_mem hq));exact hs1.2.2 _ (List.mem_map_of_mem hp) _ this e
   ·cases i with|zero=>simp only[List.getElem?_cons_zero,Option.some.injEq]at hc hu;rw[←hc,←hu];exact a1|succ i=>exact a2 i c u (by simpa using hc) (by simpa using hu)
theorem ni (hinj:∀t t' b,ay aa t→ay aa t'→b9 (β t)=some b→b9 (β t')=some b→t=t'):∀l:List Nat,l.Nodup→(∀t∈l,ay aa t)→(db β l).Nodup
 |[],_,_=>List.nodup_nil|t::l,hn,hd=>by
  rw[List.nodup_cons]at hn;have e:db β (t::l)=(b9 (β t)).toList++db β l:=by rw[←jM];exact eY β [t] l
  rw[e];cases hb:b9 (β t) with|none=>exact ni hinj l hn.2 fun t ht=>hd t (List.mem_cons_of_mem _ ht)|some b=>show(b::db β l).Nodup;rw[List.nodup_cons];refine⟨fun hm=>?_,ni hinj l hn.2 fun t ht=>hd t (List.mem_cons_of_mem _ ht)⟩;obtain⟨s,hs,hb'⟩:=List.mem_filterMap.1 hm;exact hn.1 (hinj t s b (hd t List.mem_cons_self) (hd s (List.mem_cons_of_mem _ hs)) hb hb'▸hs)
theorem wO:∀(n:Nat) {x y:AV},mt P aa n x y→∀t∈tg aa n x,ay aa t
 |0,_,_,h=>h.elim|n+1,x,y,h=>by
  have lst:∀{l cs:List AV},uH (mt P aa n) l cs→∀t∈l.flatMap (tg aa n),ay aa t:=by intro l;induction l with|nil=>intro cs _ t ht;simp at ht|cons c l ih=>intro cs hm t ht;cases cs with|nil=>exact hm.elim|cons y cs=>
   rw[List.flatMap_cons]at ht;rcases List.mem_append.1 ht with ht|ht;·exact wO n hm.1 t ht
   ·exact ih hm.2 t ht
  unfold mt at h;intro s hs;split at h
  ·rcases h with⟨t,rfl,ht⟩|⟨rfl,_,_⟩|⟨t,hi,rs,rfl,ht,_⟩;·simp only[tg,List.mem_singleton]at hs;rw[hs];exact⟨_,ht⟩
   ·simp[tg]at hs
   ·simp only[tg,List.mem_singleton]at hs;rw[hs];exact⟨_,ht⟩
  ·obtain⟨t,rfl,ht⟩:=h;simp only[tg,List.mem_singleton]at hs;rw[hs];exact⟨_,ht⟩
  ·obtain⟨t,l,rfl,ht,hm⟩:=h;have e1:tg aa (n+1) (.ptr t 0)=t::l.flatMap (tg aa n):=by show t::((eK (aa t)).getD []).flatMap (tg aa n)=_;rw[ht];rfl
   rw[e1]at hs;rcases List.mem_cons.1 hs with rfl|hs;·exact⟨_,ht⟩
   ·exact lst hm s hs
  ·obtain⟨l,rfl,hm⟩:=h;exact lst hm s hs
  ·obtain⟨l,rfl,hm⟩:=h;exact lst hm s hs
  ·subst h;simp[tg]at hs
  ·subst h;simp[tg]at hs
  ·obtain⟨rfl,_⟩:=h;simp[tg]at hs
  ·exact h.elim
theorem yy {D:Nat→Prop}{v:Value}{x:AV} (hk:Bb x=true) (h:RV P S w β D v x):RV P S w β (·∈rP x) v x:=by cases h with
 |pv v p h=>exact .pv v p h|own t h=>exact .own t (by simp[rP])|ptr t o b h hb=>cases o with|zero=>exact .ptr t 0 b (by simp[rP]) hb|succ o=>simp[Bb]at hk
 |rp ad cs us h1 h2 h3 h4=>exact .rp ad cs us h1 h2 h3 h4|bo f cs us hl h=>cases cs with|nil=>exact .bo f [] us hl fun i c u hc=>by simp at hc|cons c cs=>simp[Bb]at hk
 |_=>simp[Bb]at hk
theorem Ep {D:Nat→Prop}{v:Value}{x:AV} (hk:um x=true) (h:RV P S w β D v x):RV P S w β (·∈rM x) v x:=by
 by_cases hx:∃cs,x=.agg cs;·obtain⟨cs,rfl⟩:=hx;obtain⟨us,rfl,hl,hc⟩:=h.cN;refine .agg cs us hl fun i c u a b=>?_;have hm:=List.mem_of_getElem? a;simp only[um,List.all_eq_true]at hk;exact(yy (hk c hm) (hc i c u a b)).mono (fun b hb=>⟨hb,rfl⟩) fun t ht=>⟨List.mem_flatMap.2 ⟨c,hm,ht⟩,rfl⟩
 ·have e1:um x=Bb x:=by cases x<;>first|rfl|exact absurd ⟨_,rfl⟩ hx
  have e2:rM x=rP x:=by cases x<;>first|rfl|exact absurd ⟨_,rfl⟩ hx
  rw[e1]at hk;rw[e2];exact yy hk h
theorem J5 {n:Nat}{x y:AV} (h:mt P aa (n+2) x y) (hk:um x=true):∀t∈rM x,ay aa t:=by
 intro t ht;refine wO (n+2) h t ?_;have hC:∀{c:AV},t∈rP c→∀m,t∈tg aa (m+1) c:=by
  intro c hc m;unfold rP at hc;split at hc;·simpa[tg]using hc
  ·simp only[List.mem_singleton]at hc;subst hc;exact List.mem_cons_self
  ·simp at hc
 by_cases hx:∃cs,x=.agg cs;·obtain⟨cs,rfl⟩:=hx;obtain⟨c,hc,ht⟩:=List.mem_flatMap.1 ht;exact List.mem_flatMap.2 ⟨c,hc,hC ht n⟩
 ·have e2:rM x=rP x:=by cases x<;>first|rfl|exact absurd ⟨_,rfl⟩ hx
  rw[e2]at ht;exact hC ht (n+1)
theorem zV {R:Value→AV→Prop}:∀{ys xs:List AV}{vs:List Value},xs.length=ys.length→vs.length=ys.length→(∀(i:Nat) (c:AV) (u:Value),xs[i]?=some c→vs[i]?=some u→R u c)→(eg ys xs).length=(eg ys vs).length∧∀(i:Nat) (c:AV) (u:Value),(eg ys xs)[i]?=some c→(eg ys vs)[i]?=some u→R u c
 |[],[],[],_,_,_=>⟨rfl,fun i c u hc=>by simp[eg]at hc⟩|y::ys,x::xs,v::vs,h1,h2,h=>by
  obtain⟨k1,k2⟩:=zV (ys:=ys) (xs:=xs) (vs:=vs) (by simpa using h1) (by simpa using h2) fun i c u hc hu=>h (i+1) c u (by simpa using hc) (by simpa using hu);simp only[eg];split;·refine⟨by simp[k1],fun i c u hc hu=>?_⟩;cases i with|zero=>simp only[List.getElem?_cons_zero,Option.some.injEq]at hc hu;rw[←hc,←hu];exact h 0 x v rfl rfl|succ i=>exact k2 i c u (by simpa using hc) (by simpa using hu)
  ·exact⟨k1,k2⟩|[],_::_,_,h,_,_=>by simp at h|[],[],_::_,_,h,_=>by simp at h|_::_,[],_,h,_,_=>by simp at h|_::_,_::_,[],_,h,_=>by simp at h
end
theorem bU {P:Program}{Γ:bJ} (hΓ:dL P Γ) {f:FuncId}{n k:Nat}{rs:List (Nat×Option (Option Nat))}{b:AC}{ys:List AV}{x:AV}{s:List AV×List (Nat×AO)×List Nat×List Nat} (hm:QZ P=true) (hc:aFn P f=some ⟨n,k,rs,b⟩) (hlen:ys.length≤n) (hnum:OA ys WS=some s) (htop:∀c∈eg ys s.1,um c=true∧∀t∈rM c,t%1000=999) (hs:hZ P Γ b (qJ P rs (eg ys s.1) x) (zi (qJ P rs (eg ys s.1) x)) ⟨look (nf 0 s.1),ab s.2.1⟩):Bv P f ys x:=by
 intro w S0 vals bss hS0 hnd hts;obtain⟨p1,n1,l1⟩:=CA (P:=P) (S:=S0) (S':=S0) (w:=w) (fun b hb=>hb) ys WS s hnum;obtain⟨β,c1,c2,c3⟩:=l1 vals bss hts hnd (by decide);generalize hB:bss.flatten=B at*;obtain⟨d1,d2⟩:=c1 β (ay (ab s.2.1)) fun p hp=>⟨rfl,by obtain⟨o,ho⟩:=mz hp;exact⟨o,ho⟩⟩;have hvl:vals.length=ys.length:=by have:=hts.1;simpa using this
 have hblt:∀b∈B,b<w.heap.size:=by
  have hlt:∀{v y bs},HT P S0 w v y bs→∀b∈bs,b<w.heap.size:=by
   intro v y bs h;have hin:∀{b:Nat}{o:Obj},w.heap[b]?=some o→b<w.heap.size:=fun h=>(Array.getElem?_eq_some_iff.1 h).1;have lst:∀{us:List Value}{cs:List AV}{bss:List (List Nat)},us.length=cs.length→bss.length=cs.length→(∀(i:Nat) (c:AV) (u:Value) (bs:List Nat),cs[i]?=some c→us[i]?=some u→bss[i]?=some bs→∀b∈bs,b<w.heap.size)→∀b∈bss.flatten,b<w.heap.size:=by intro us cs bss h1 h2 h b hb;obtain⟨bs,hbs,hb⟩:=List.mem_flatten.1 hb;obtain⟨i,hi⟩:=List.getElem?_of_mem hbs;have hl:=(List.getElem?_eq_some_iff.1 hi).1;exact h i _ _ bs (List.getElem?_eq_getElem (by omega)) (List.getElem?_eq_getElem (by omega)) hi b hb
   induction h with|leaf v y h=>intro b hb;simp at hb|fr v e rows inf us h1 h2 h3 h4=>
    intro b hb;rcases h2.2 with⟨rfl,_⟩|⟨g,cap,cur,rfl,_,h5,_⟩;·simp[b9]at hb
    ·simp only[b9,Option.toList_some,List.mem_singleton]at hb;rw[hb];exact hin h5|mf b us c es h1 h2 h3=>intro b' hb;simp only[List.mem_singleton]at hb;rw[hb];exact hin h1|bx b us ty cs bss h1 h2 h3 h4 h5 ih=>
    intro b' hb;rcases List.mem_cons.1 hb with rfl|hb;·exact hin h1
    ·exact lst (us:=us.toList) (by simpa using h2) h3 (fun i c u bs a1 a2 a3=>ih i c u bs a1 (by simpa using a2) a3) b' hb|agg us cs bss h1 h2 h3 ih=>exact lst h1 h2 ih|aJ us cs bss h1 h2 h3 ih=>exact lst h1 h2 ih
  rw[←hB];intro b hb;obtain⟨bs,hbs,hb⟩:=List.mem_flatten.1 hb;obtain⟨i,hi⟩:=List.getElem?_of_mem hbs;have hl:=(List.getElem?_eq_some_iff.1 hi).1;have h2:=hts.2.1;have h1:=hts.1;exact hlt (hts.2.2 i _ _ bs (List.getElem?_eq_getElem (by omega)) (List.getElem?_eq_getElem (by omega)) hi) b hb
 have hos:∀t o,ab s.2.1 t=some o→(t,o)∈s.2.1:=fun t o h=>kb h;have hlive:∀b,live β (ab s.2.1) b→b∈B:=by rintro b ⟨t,o,ho,hb⟩;exact c2 (t,o) (hos t o ho) b hb
 let S1:Nat→Prop:=fun b=>S0 b∨b∈B;have hS1:∀b,S0 b→aS S1 w.heap.size β (ab s.2.1) w b∧w.heap[b]?=w.heap[b]?:=fun b hb=>⟨⟨.inl (.inl hb),(hS0 b hb).1,fun hl=>(hS0 b hb).2 (hlive b hl)⟩,rfl⟩;have hvr:∀(i:Nat) (v:Value) (c:AV),vals[i]?=some v→s.1[i]?=some c→RV P S0 w β (ay (ab s.2.1)) v c:=fun i v c hv hc=>d2 i c v hc hv;unfold aFn yb at hc;split at hc
 ·rename_i fn hfn;split at hc
  ·rename_i c rs hb hrs;obtain⟨b,hcomp,hc⟩:=Option.bind_eq_some_iff.1 hc;split at hc;case isFalse=>cases hc
   rename_i hN;cases hc;refine calls_of_wp hfn hb ?_;have hrel:Rel P S1 (·∈B) β w fn.ntmps ⟨look (nf 0 s.1),ab s.2.1⟩ {tmps:=vals.toArray++Array.replicate (fn.ntmps-vals.toArray.size) undef,defers:=[]} w β:=by
    refine⟨by simp;omega,rfl,fun q=>?_,⟨fun t o ho=>?_,fun t t' b ht ht' hb hb'=>?_⟩,fun t b ht hb=>.inr ?_,⟨hN,KV hm⟩,fun t _ _=>rfl,⟨rfl,rfl,rfl,Nat.le_refl _,fun _ _ _=>rfl⟩⟩;·show RV P _ w β _ _ (look (nf 0 s.1) q);rw[pP];simp only[Nat.zero_le,if_true,Nat.sub_zero];cases ha:s.1[q]? with|none=>exact .au _|some x=>
     have hs1:=(List.getElem?_eq_some_iff.1 ha).1;have hs2:q<vals.length:=by omega
     have hv:vals[q]?=some vals[q]:=List.getElem?_eq_getElem hs2;have hget:(vals.toArray++Array.replicate (fn.ntmps-vals.toArray.size) undef).getD q undef=vals[q]:=by rw[Array.getD_eq_getD_getElem?,Array.getElem?_append_left (by simpa using hs2)];simp[hs2]
     rw[hget];exact(hvr q _ x hv ha).mono hS1 fun t ht=>⟨ht,rfl⟩
    ·exact(d1 (t,o) (hos t o ho)).mono hS1 (fun t ht=>⟨ht,rfl⟩) rfl (fun _ _=>rfl)
    ·obtain⟨o,ho⟩:=ht;obtain⟨o',ho'⟩:=ht';exact c3 (t,o) (hos t o ho) (t',o') (hos t' o' ho') b hb hb'
    ·obtain⟨o,ho⟩:=ht;exact c2 (t,o) (hos t o ho) b hb
   have fin:∀st a w' β',qJ P rs (eg ys s.1) x st→Rel P S1 (·∈B) β w fn.ntmps st a w' β'→a.defers=[]∧∃v,(results fn a.tmps).run P w'=.ok v w'∧∃v0 bss',Ending.returned v=.returned v0∧yG (·∈B) w w'∧bss'.flatten.Nodup∧(∀b∈bss'.flatten,w.heap.size≤b∨b∈B)∧E2 P (fun b=>(S0 b∨b∈B∨w.heap.size≤b)∧b<w'.heap.size∧b∉bss'.flatten) w' (eg ys vals++[v0]) (lf x++[kg x]) bss':=by
    intro st0 a w' β' hF0 hR0;obtain⟨_,vs0,hF,_,_⟩:=gU hrs hR0 hF0;have hR:=hR0.cu (fun b hb=>.inr hb) (mI (bG vs0) (kg x));change pH P rs (eg ys s.1) x (cu _ st0) at hF;generalize cu (mI (bG vs0) (kg x)) st0=st at hF hR;obtain⟨v,vs,⟨hmt,hmL,hnd'⟩,hrun,hv⟩:=gU hrs hR hF;refine⟨hR.defers,v,hrun,v,?_⟩;generalize bG vs=X at hmt hnd' hv;generalize hLL:eg ys s.1=L at*;have hLd:∀t∈L.flatMap (tg st.aa 5),ay st.aa t:=by intro t ht;obtain⟨c,hc,ht⟩:=List.mem_flatMap.1 ht;obtain⟨i,hi⟩:=List.getElem?_of_mem hc;obtain⟨g1,g2⟩:=gp hmL;exact wO 5 (g2 i c _ hi (List.getElem?_eq_getElem (by have:=(List.getElem?_eq_some_iff.1 hi).1;omega))) t ht
    have hXd:∀t∈tg st.aa 6 X,ay st.aa t:=wO 6 hmt;have ebs:((L.map fun c=>db β' (tg st.aa 5 c))++[db β' (tg st.aa 6 X)]).flatten=db β' (L.flatMap (tg st.aa 5)++tg st.aa 6 X):=by rw[List.flatten_append,eY,fh];simp
    have hall:∀t∈L.flatMap (tg st.aa 5)++tg st.aa 6 X,ay st.aa t:=fun t ht=>(List.mem_append.1 ht).elim (hLd t) (hXd t);refine⟨(L.map fun c=>db β' (tg st.aa 5 c))++[db β' (tg st.aa 6 X)],rfl,hR.bK,?_,?_,?_⟩;·rw[ebs];exact ni hR.heap.inj _ hnd' hall
    ·rw[ebs];intro b hb;obtain⟨t,ht,hb⟩:=List.mem_filterMap.1 hb;exact hR.old t b (hall t ht) hb
    rw[ebs];have hSS:∀b,aS S1 w.heap.size β' st.aa w' b→((S0 b∨b∈B∨w.heap.size≤b)∧b<w'.heap.size∧b∉db β' (L.flatMap (tg st.aa 5)++tg st.aa 6 X)):=by
     rintro b ⟨h1,h2,h3⟩;refine⟨?_,h2,fun hb=>?_⟩
     ·rcases h1 with(h1|h1)|h1;·exact .inl h1
      ·exact .inr (.inl h1)
      ·exact .inr (.inr h1)
     ·obtain⟨t,ht,hb⟩:=List.mem_filterMap.1 hb;obtain⟨o,ho⟩:=hall t ht;exact h3 ⟨t,o,ho,hb⟩
    obtain⟨k1,k2⟩:=zV (R:=fun u c=>RV P S0 w β (ay (ab s.2.1)) u c) (ys:=ys) (xs:=s.1) (vs:=vals) n1 hvl fun i c u hc hu=>hvr i u c hu hc;rw[hLL]at k1 k2;obtain⟨g1,g2⟩:=gp hmL;have hlast:=lU hR.heap hSS 6 hmt hv;refine⟨by simp[←k1,g1],by simp[g1],fun i y u bs a1 a2 a3=>?_⟩;by_cases hi:i<(lf x).length
    ·rw[List.getElem?_append_left hi]at a1;rw[List.getElem?_append_left (by omega)]at a2;rw[List.getElem?_append_left (by rw[List.length_map];omega),List.getElem?_map]at a3;obtain⟨c,hc,rfl⟩:=Option.map_eq_some_iff.1 a3;have hcm:=List.mem_of_getElem? hc;obtain⟨t1,t2⟩:=htop c hcm;have hmc:=g2 i c y hc a1;refine lU hR.heap hSS 5 hmc ((Ep t1 (k2 i c u hc a2)).mono (fun b hb=>?_) fun t ht=>?_)
     ·refine⟨⟨.inl (.inl hb),Nat.lt_of_lt_of_le (hS0 b hb).1 hR.bK.size,fun⟨t,o,ho,hbt⟩=>?_⟩,hR.bK.block b (hS0 b hb).1 (hS0 b hb).2⟩;rcases hR.old t b ⟨o,ho⟩ hbt with h4|h4;·have:=(hS0 b hb).1;omega
      ·exact(hS0 b hb).2 h4
     ·have hd:=J5 (n:=3) hmc t1 t ht;exact⟨hd,hR.uI t (t2 t ht) hd⟩
    ·have hi2:i=(lf x).length:=by have:=(List.getElem?_eq_some_iff.1 a1).1;simp at this;omega
     subst hi2;have e1:y=kg x:=by simpa using a1.symm
     have e2:u=v:=by rw[←g1,k1]at a2;simpa using a2.symm
     have e3:bs=db β' (tg st.aa 6 X):=by rw[←g1,←List.length_map (as:=L) (f:=fun c=>db β' (tg st.aa 5 c))]at a3;simpa using a3.symm
     rw[e1,e2,e3];exact hlast
   refine se hΓ (S0:=S1) (L:=(·∈B)) (fun b hb=>.inr hb) (w0:=w) (Lu hm) _ c b hcomp (qJ P rs (eg ys s.1) x) (zi (qJ P rs (eg ys s.1) x)) _ _ _ w β ?_ ?_ ?_ hrel hs;·intro st a w' β' hF hR;exact fin st a w' β' hF hR
   ·intro st a w' β' id hj;exact hj.elim
   ·intro st a w' β' hF hR;exact fin st a w' β' hF hR
  ·cases hc
 ·cases hc
end Go.Proofs.YtlicclncicbajaaGreat.Ab
