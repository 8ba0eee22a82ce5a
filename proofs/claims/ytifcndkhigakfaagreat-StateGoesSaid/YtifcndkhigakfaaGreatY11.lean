/- The abstract machine is sound: regions, loops, the code of a function. -/
import Derived.Test.YtifcndkhigakfaaGreatY10
import Derived.Test.YtifcndkhigakfaaGreatY9
import Derived.Deep.LoopGhost
import Derived.Scope
set_option linter.unusedVariables false
set_option linter.unusedSimpArgs false
set_option linter.unnecessarySimpa false
set_option maxHeartbeats 40000000
set_option maxRecDepth 100000
set_option linter.defProp false
namespace Go.Proofs.YtifcndkhigakfaaGreat.Ab
open Go Go.RowKit
def q93:=@List.drop_eq_getElem_cons
def q222:=@List.drop_eq_nil_iff
def q246:=@Option.or_eq_some_iff
end Go.Proofs.YtifcndkhigakfaaGreat.Ab
namespace Go.Proofs.YtifcndkhigakfaaGreat.Ab
open Go Go.RowKit
variable {f:FuncId}{ys:List AV}{e:TypeId}{K:St->Prop}{S D:Nat->Prop}{K':Act->World->Prop}{j:Nat}{o:Oper}{as:Array AI}
section
variable{P:Program}{Γ:b7}{S0 L:Nat->Prop}{B0:Nat->Value}{w0 w:World}{N:Nat}{st:St}{a:Act}{β:Nat->Value}{ops:Array Oper}{is:Array AI}{Q':Exit->Act->World->Prop}
def dX (hΓ:eG P Γ) {i:AI} (hj:ops[j]?=some o) (hi:Core P N ops o i) (h:Rel P S0 L B0 w0 N st a w β) (hK:∀st a w β,K st->Rel P S0 L B0 w0 N st a w β->K' a w) (hs:dz P Γ i K st):wpOp P ops Q' j K' a w:=by
 have hh:=RE hΓ (Q:=Q') h hi hs.2;unfold wpOp;rw[hj];dsimp only;split;·rename_i hw;rw[if_pos hw]at hh;refine .inl (q283 ?_ hh);rintro a' w' ⟨e,β',⟨_,hC⟩,hR⟩;exact hK _ _ _ _ hC hR
 ·rename_i hw;rw[if_neg hw]at hh;obtain⟨e,β',⟨_,hC⟩,hR⟩:=hh;exact hK _ _ _ _ hC hR
def Core.same {i i':AI} (h:Core P N ops o i) (h1:i'.k=i.k) (h2:i'.xs=i.xs) (h3:i'.d=i.d) (h4:i'.g=i.g):Core P N ops o i':=by unfold Core at*;rw[h1,h2,h3,h4];exact h
def Dp {P:Program}{xs:List Operand} (hc:iT P o=some (.mV,xs)):∃x args argTypes,o.op=.call {callee:=.value x,args:=args,argTypes:=argTypes}/\xs=x::args.toList:=by
 rcases eI hc with hc|⟨x,h0,_⟩;rotate_left;·cases h0
 unfold iG at hc;split at hc;case h_22=>
  rename_i cl ho;obtain⟨callee,args,argTypes⟩:=cl;unfold iQ at hc;simp only at hc;split at hc
  ·exfalso;unfold dF at hc;repeat'(split at hc)
   all_goals(simp at hc)
  ·split at hc;·simp at hc
   ·cases hc
  ·simp only[qr,q69,true_and]at hc;exact⟨_,args,argTypes,ho,hc.symm⟩
  ·cases hc
 all_goals
  exfalso;repeat'(split at hc)
  all_goals(simp at hc)
def vg {P:Program}{b:Builtin}{ys xs:List Operand}{ts:List TypeId}{x:XK} (hc:dF P b ys ts=some (.ex x,xs)):False:=by
 unfold dF at hc;repeat'(split at hc)
 all_goals(simp at hc)
def D9 {P:Program}{xs:List Operand} (x:XK):¬iG P o=some (.ex x,xs):=by
 intro hc;unfold iG at hc;split at hc;case h_22=>
  rename_i cl ho;obtain⟨callee,args,argTypes⟩:=cl;unfold iQ at hc;simp only at hc;split at hc;·exact vg hc
  ·split at hc<;>simp at hc
  ·simp at hc
  ·cases hc
 all_goals
  repeat'(split at hc)
  all_goals(simp at hc)
def Ec {P:Program}{xs:List Operand}{sz:Nat}{zs:List Value} (hc:iT P o=some (.LA e sz zs,xs)):∃x t,o.op=.call {callee:=.builtin .clear,args:=#[x],argTypes:=#[t]}/\xs=[x]/\P.underlying t=some (.slice e)/\c7 P e=some sz/\eB P e=some zs/\0<sz/\zs.all (·.oneCell')=true:=by
 rcases eI hc with hc|⟨x,h0,_⟩;rotate_left;·cases h0
 unfold iG at hc;split at hc;case h_22=>
  rename_i cl ho;obtain⟨callee,args,argTypes⟩:=cl;unfold iQ at hc;simp only at hc;split at hc
  ·unfold dF at hc;split at hc;case h_5=>
    rename_i x t hx ht;have hx':args=#[x]:=by apply q117;simpa using hx
    have ht':argTypes=#[t]:=by apply q117;simpa using ht
    subst hx' ht';split at hc
    ·rename_i e' hu;split at hc
     ·rename_i sz' zs' hsz hz;split at hc;·rename_i hcond;simp only[qr,q69,AK.LA.injEq]at hc;obtain⟨⟨rfl,rfl,rfl⟩,rfl⟩:=hc;exact⟨x,t,ho,rfl,hu,hsz,hz,hcond⟩
      ·cases hc
     ·cases hc
    ·cases hc
   all_goals
    exfalso;repeat'(split at hc)
    all_goals(simp at hc)
  ·split at hc;·simp at hc
   ·cases hc
  ·simp at hc
  ·cases hc
 all_goals
  exfalso;repeat'(split at hc)
  all_goals(simp at hc)
def Ev {P:Program}{xs:List Operand}{sz b:Nat} (hc:iT P o=some (.app e sz b,xs)):∃x y t tx inf,o.op=.call {callee:=.builtin .append,args:=#[x,y],argTypes:=#[t,tx]}/\xs=[x,y]/\P.underlying t=some (.slice e)/\((∃e',P.underlying tx=some (.slice e'))\/P.underlying tx=some .string)/\P.info? e=some inf/\0<inf.size/\(eB P e).isSome=true/\sz=inf.size/\b=inf.bytes:=by
 rcases eI hc with hc|⟨x,h0,_⟩;rotate_left;·cases h0
 unfold iG at hc;split at hc;case h_22=>
  rename_i cl ho;obtain⟨callee,args,argTypes⟩:=cl;unfold iQ at hc;simp only at hc;split at hc
  ·unfold dF at hc;split at hc;case h_2=>
    rename_i x y t tx hx ht;have hx':args=#[x,y]:=by apply q117;simpa using hx
    have ht':argTypes=#[t,tx]:=by apply q117;simpa using ht
    subst hx' ht';split at hc
    ·rename_i e' hu hux;split at hc
     ·rename_i inf hi;split at hc;·rename_i hcond;simp only[qr,q69,AK.app.injEq]at hc;obtain⟨⟨rfl,rfl,rfl⟩,rfl⟩:=hc;exact⟨x,y,t,tx,inf,ho,rfl,hu,.inr hux,hi,by omega,hcond.2,rfl,rfl⟩
      ·cases hc
     ·cases hc
    ·rename_i e' e2 hu hux;split at hc
     ·rename_i inf hi;split at hc;·rename_i hcond;simp only[qr,q69,AK.app.injEq]at hc;obtain⟨⟨rfl,rfl,rfl⟩,rfl⟩:=hc;exact⟨x,y,t,tx,inf,ho,rfl,hu,.inl ⟨e2,hux⟩,hi,hcond.1,hcond.2,rfl,rfl⟩
      ·cases hc
     ·cases hc
    ·cases hc
   all_goals
    exfalso;repeat'(split at hc)
    all_goals(simp at hc)
  ·split at hc;·simp at hc
   ·cases hc
  ·simp at hc
  ·cases hc
 all_goals
  exfalso;repeat'(split at hc)
  all_goals(simp at hc)
def nG:∀{l:List AV}{k:Nat}{z:AV},aw l->l[k]?=some z->asks z|[],k,z,_,hk=>by simp at hk|y::l,0,z,h,hk=>by simp only[q72,qr]at hk;subst hk;exact h.1|y::l,k+1,z,h,hk=>nG h.2 (by simpa using hk)
def noG {n f:Nat} (h0:n<=1000000) (h2:2000000<=f+1000000) (h:f<n):False:=by omega
def Ix {xs:List AV} (h:mD xs=some (f,ys)):∃x caps args,xs=x::args/\ys=args++caps/\(x=.bI f caps\/(caps=[]/\x=.pv (.val (.func (.func f) #[] #[])))):=by
 unfold mD at h;split at h;·cases h;exact⟨_,_,_,rfl,rfl,.inl rfl⟩
 ·obtain⟨g,hg,h⟩:=q900.1 h;cases h;unfold mD.QH at hg;split at hg;·cases hg;exact⟨_,[],_,rfl,by simp,.inr ⟨rfl,rfl⟩⟩
  ·cases hg
 ·cases h
def ox (h:Rel P S0 L B0 w0 N st a w β) {x:Operand}{args:Array Operand}{argTypes:Array TypeId} (ho:o.op=.call {callee:=.value x,args:=args,argTypes:=argTypes}) (ha:aw ((x::args.toList).map (Ab.ev st.vars)))  (hc:mD (((x::args.toList).map (Ab.ev st.vars)).map strip)=some (f,ys)) (hf:gz P f=true):∃vals:List Value,(execOp a.eval o).run P w=.ok (.enter f vals.toArray) w/\vals.length=ys.length/\∀(i:Nat) (v:Value) (y:AV),vals[i]?=some v->ys[i]?=some y->RV P (bn S0 w0.heap.size β st.aa w) w β (aE st.aa) v y:=by
 obtain⟨x0,caps,as,hxs,rfl,hx0⟩:=Ix hc;simp only[q74,q112]at hxs;obtain⟨hx,hargs⟩:=hxs;have hv:=h.eo x ha.1;rw[hx]at hv;obtain⟨us,hev,hul,hus⟩:∃us:List Value,a.eval x=.func (.func f) #[] us.toArray/\us.length=caps.length/\(∀(i:Nat) (c:AV) (u:Value),caps[i]?=some c->us[i]?=some u->RV P (bn S0 w0.heap.size β st.aa w) w β (aE st.aa) u c):=by
  rcases hx0 with rfl|⟨rfl,rfl⟩;·exact hv.oo
  ·refine⟨[],?_,rfl,fun i c u hc=>by simp at hc⟩;have h1:=hv.bL;generalize a.eval x=u at h1;cases h1 with|val v h=>rfl
 unfold gz at hf;split at hf
 ·rename_i fn hfn;simp only[q71,bne_iff_ne,ne_eq]at hf;have hn:=hf.1;have hb:¬fn.body=none:=fun e=>by rw[e]at hf;simp at hf
  refine⟨args.toList.map a.eval++us,?_,?_,?_⟩
  ·have he:(args.toList.map a.eval++us).toArray=args.map a.eval++us.toArray:=by apply q117;simp
   rw[he];simp[execOp,ho,resolve,hev,Deferred.ofValue,invoke,callFunc,hfn,hn,hb]
  ·rw[<-hargs];simp[hul]
  ·intro i v y hi hy;have hl:as.length=args.toList.length:=by rw[<-hargs];simp
   by_cases hlt:i<as.length;·rw[q86 hlt]at hy;rw[q86 (by simpa[hl]using hlt)]at hi;rw[<-hargs]at hy;exact kV h args.toList ha.2 i v y hi hy
   ·rw[q98 (by omega)]at hy;rw[q98 (by simp only[List.length_map];omega)]at hi;simp only[List.length_map,<-hl]at hi;exact hus _ _ _ hy hi
 ·cases hf
def uc (hL:∀b,L b->S0 b) (hΓ:eG P Γ) {d:Option Nat}{xs:List Operand}{un:List Nat}{tg:Option Nat}{Q:Exit->Act->World->Prop} (hc:iT P o=some (.call f,xs)) (hd:d=o.dst) (hdN:∀s,o.dst=some s->s<N) (h:Rel P S0 L B0 w0 N st a w β) (hK:∀st a w β,K st->Rel P S0 L B0 w0 N st a w β->K' a w) (hs:nM P Γ ⟨d,.call f,xs,none,un,tg⟩ f K st):o.wp P a w K' Q:=by
 obtain⟨ys,hys,hs⟩:=af hs;obtain⟨x,hx,hs⟩:=af hs;subst hd;split at hs;·have h2:=h.cU hL ((xs.map (Ab.ev st.vars)).map strip);generalize cU st ((xs.map (Ab.ev st.vars)).map strip)=st2 at h2 hs;have hs':bf P Γ o.dst (.call f) (xs.map (Ab.ev st2.vars)) st2.aa fun e=>K (e.on o.dst st2):=hs;refine q283 ?_ (Bo hΓ (Q:=Q) h2 hc hdN hs');rintro a' w' ⟨e,β',hC,hR⟩;exact hK _ _ _ _ hC hR
 ·have hs':bf P Γ o.dst (.call f) (xs.map (Ab.ev st.vars)) st.aa fun e=>Ed _ tg e/\K (e.on o.dst st):=hs.2;refine q283 ?_ (Bo hΓ (Q:=Q) h hc hdN hs');rintro a' w' ⟨e,β',hC,hR⟩;exact hK _ _ _ _ hC.2 hR
def yy (hΓ:eG P Γ) {i:AI} (hj:ops[j]?=some o) (hi:Core P N ops o i) (h:Rel P S0 L B0 w0 N st a w β) (hK:∀st a w β,K st->Rel P S0 L B0 w0 N st a w β->K' a w) (hs:cB P Γ i K st):wpOp P ops Q' j K' a w:=by
 unfold cB at hs;split at hs;·exact dX hΓ hj hi h hK hs
 ·rename_i s want hg0;unfold je at hs;split at hs;·exact dX hΓ hj hi h hK hs
  ·split at hs
   ·rename_i hf0;have hcg:bT (st.vars s) want=some false:=by revert hf0;cases bT (st.vars s) want with|none=>intro h0;cases h0|some b=>cases b with|false=>intro _;rfl|true=>intro h0;cases h0
    obtain⟨hc,hd,hdN,hg⟩:=hi;have hdN':∀s,o.dst=some s->s<N:=fun s e=>hdN s (hd.trans e);rcases hg with⟨_,hig⟩|⟨j',want',s',hg,hj',hig⟩;·rw[hg0]at hig;cases hig
    ·rw[hg0]at hig;simp only[qr,q69]at hig;obtain⟨rfl,rfl⟩:=hig;unfold wpOp;rw[hj];dsimp only;rw[dS hg hj' (h.vars _) hcg];simp only[q140,if_false];refine hK _ _ _ β hs ?_;rw[hd];exact h.gl hdN' (.cx _ _ _ (fun e=>by cases e) fun _=>rfl)
   ·exact dX hΓ hj hi h hK hs
def yl (hL:∀b,L b->S0 b) (hΓ:eG P Γ) {i:AI}{x:XK} (hj:ops[j]?=some o) (hi:Core P N ops o i) (h:Rel P S0 L B0 w0 N st a w β) (hK:∀st a w β,K st->Rel P S0 L B0 w0 N st a w β->K' a w) (hk:i.k=.ex x) (hs:kv P Γ i K st):wpOp P ops Q' j K' a w:=by
 obtain⟨hc,hd,hdN,hg⟩:=hi;have hdN':∀s,o.dst=some s->s<N:=fun s e=>hdN s (hd.trans e);rw[hk]at hc;have hcx:kO P o=(x,i.xs):=by
  rcases eI hc with hc|⟨x',h0,hc⟩;·exact absurd hc (D9 x)
  ·cases h0;exact hc
 unfold wpOp;rw[hj];dsimp only;unfold kv at hs;rw[hk]at hs;rcases hg with⟨hg,hig⟩|⟨j',want,s,hg,hj',hig⟩
 ·rw[hig]at hs;rw[fb (P:=P) hg];simp only[if_true];rw[hd]at hs;have h':Rel P S0 L B0 w0 N (M8 x i st) a w β:=by
   unfold M8;split;·exact h.cU hL _
   ·exact h
  exact .inl (BT hL hcx hdN' h' hK hs)
 ·rw[hig]at hs;have hs:EL i x s want K st:=hs;obtain⟨c,hcg,hs⟩:=af hs;rw[dS hg hj' (h.vars s) hcg];by_cases hct:c=true;·rw[if_pos hct]at hs |-;rw[hd]at hs;exact .inl (BT hL hcx hdN' h hK hs)
  ·rw[if_neg hct]at hs |-;refine hK _ _ _ β hs ?_;rw[hd];exact h.gl hdN' (.cx _ _ _ (fun e=>by cases e) fun _=>rfl)
def nV (hL:∀b,L b->S0 b) (hΓ:eG P Γ) {i:AI} (hj:ops[j]?=some o) (hi:Core P N ops o i) (h:Rel P S0 L B0 w0 N st a w β) (hK:∀st a w β,K st->Rel P S0 L B0 w0 N st a w β->K' a w) (hs:kv P Γ i K st):wpOp P ops Q' j K' a w:=by
 by_cases hx:∃x,i.k=.ex x;·obtain⟨x,hx⟩:=hx;exact yl hL hΓ hj hi h hK hx hs
 by_cases hk:i.k=.mV
 ·have hs:gS P Γ i.d (i.xs.map (ev st.vars)) i.g K st:=by unfold kv at hs;rw[hk]at hs;exact hs
  obtain⟨hc,hd,hdN,hg⟩:=hi;have hdN':∀s,o.dst=some s->s<N:=fun s e=>hdN s (hd.trans e);rw[hk]at hc;obtain⟨x,args,argTypes,ho,hxs⟩:=Dp hc;rw[hxs]at hs;unfold wpOp;rw[hj];dsimp only;rcases hg with⟨hg,hig⟩|⟨j',want,s,hg,hj',hig⟩
  ·rw[fb (P:=P) hg];simp only[if_true];unfold gS at hs;rw[hig]at hs;obtain⟨ha,hs⟩:=hs;obtain⟨⟨f,zs⟩,hcl,hf,hs⟩:=af hs;unfold fI at hs;split at hs
   ·split at hs;rotate_left;·exact hs.elim
    obtain⟨vals,hrun,hvl,hv⟩:=ox h ho ha hcl hf;refine .inl (dV hrun ((kf (a:=a) hL hΓ h hdN hf hvl (fun haz i v y hi hy=>?_) hs).mono ?_));·rw[q79,q900]at hy;obtain⟨z,hz,rfl⟩:=hy;exact(hv i v z hi hz).strip (nG haz hz)
    ·rintro e w' ⟨v,β',st',rfl,hK',hR⟩;refine⟨v,rfl,hK _ _ _ β' hK' ?_⟩;rw[<-hd];exact hR
   unfold cS at hs;obtain⟨d,hdd,haz,hs⟩:=af hs;obtain⟨ys,hys,hs⟩:=af hs;obtain⟨⟨φ,r⟩,hr,hφ,hpf,hfree,hres,hC⟩:=af hs;obtain⟨vals,hrun,hvl,hv⟩:=ox h ho ha hcl hf;have hv':∀(i:Nat) (v:Value) (y:AV),vals[i]?=some v->(zs.map strip)[i]?=some y->RV P (bn S0 w0.heap.size β st.aa w) w β (aE st.aa) v y:=by intro i v y hi hy;rw[q79,q900]at hy;obtain⟨z,hz,rfl⟩:=hy;exact(hv i v z hi hz).strip (nG haz hz)
   have hdlt:d<N:=hdN d hdd;have hlim:=h.uL.1;have hd9:d%1000≠999:=by omega
   refine .inl (dV hrun ((nt (a:=a) h hd9 (by rw[hvl,List.length_map]) hv' hys (hΓ.Wj (jk hf) hr hφ) hpf hfree hres).mono ?_));rintro e w' ⟨v,β',rfl,hR,hrv⟩;refine⟨v,rfl,hK _ _ _ β' hC ?_⟩;rw[hd];exact hR.put hdN' hrv
  ·unfold gS at hs;rw[hig]at hs;have hs:je (fM ((i.xs.map (ev st.vars)).map strip)) (NJ (bT (st.vars s) want)) (tu P Γ i.d (i.xs.map (ev st.vars)) s want K st) (K ((bR.put (.cx false .ak)).on i.d st)):=by rw[hxs];exact hs
   have hs:tu P Γ i.d (i.xs.map (ev st.vars)) s want K st\/(bT (st.vars s) want=some false/\K ((bR.put (.cx false .ak)).on i.d st)):=by
    unfold je at hs;split at hs;·exact .inl hs
    ·split at hs
     ·rename_i hif;right;unfold NJ at hif;split at hif;·rename_i hgf;exact⟨hgf,hs⟩
      ·cases hif
     ·exact .inl hs
   rcases hs with hs|⟨hgf,hs⟩;rotate_left;·rw[dS hg hj' (h.vars s) hgf];simp only[q140,if_false];refine hK _ _ _ β hs ?_;rw[hd];exact h.gl hdN' (.cx _ _ _ (fun e=>by cases e) fun _=>rfl)
   rw[hxs]at hs;obtain⟨c,hcg,hs⟩:=af hs;rw[dS hg hj' (h.vars s) hcg];obtain⟨⟨f,zs⟩,hcl,hf,hs⟩:=af hs;unfold jr at hs;split at hs
   ·split at hs;rotate_left;·exact hs.elim
    by_cases hct:c=true
    ·rw[if_pos hct]at hs |-;obtain⟨ha,hs⟩:=hs;obtain⟨vals,hrun,hvl,hv⟩:=ox h ho ha hcl hf;refine .inl (dV hrun ((kf (a:=a) hL hΓ h hdN hf hvl (fun haz i v y hi hy=>?_) hs).mono ?_));·rw[q79,q900]at hy;obtain⟨z,hz,rfl⟩:=hy;exact(hv i v z hi hz).strip (nG haz hz)
     ·rintro e w' ⟨v,β',st',rfl,hK',hR⟩;refine⟨v,rfl,hK _ _ _ β' hK' ?_⟩;rw[<-hd];exact hR
    ·rw[if_neg hct]at hs |-;refine hK _ _ _ β hs ?_;rw[hd];exact h.gl hdN' (.cx _ _ _ (fun e=>by cases e) fun _=>rfl)
   unfold DR at hs;obtain⟨ys,hys,hs⟩:=af hs;obtain⟨⟨φ,r⟩,hr,hcon,hfl,hfr,hres,ha,hC⟩:=af hs;cases c with|true=>
    simp only[if_true];obtain⟨vals,hrun,hvl,hv⟩:=ox h ho (ha rfl) hcl hf;have hv':∀(i:Nat) (v:Value) (y:AV),vals[i]?=some v->(zs.map strip)[i]?=some y->RV P (bn S0 w0.heap.size β st.aa w) w β (aE st.aa) v y:=by intro i v y hi hy;rw[q79,q900]at hy;obtain⟨z,hz,rfl⟩:=hy;exact(hv i v z hi hz).strip (nG (hcon rfl).1 hz)
    have htr:=Gf hfl;have hnil:∀d,ly d r=[]:=fun d=>by rw[wD htr];unfold aU;rw[hfr];rfl
    refine .inl (dV hrun ((nt (a:=a) (d:=0) h (by omega) (by rw[hvl,List.length_map]) hv' hys (hΓ.Wj (jk hf) hr (hcon rfl).2) (.inr (by rw[tC htr];exact hfl)) (by rw[hnil];intro x hx;cases hx) (by rw[xL htr];exact hres)).mono ?_));rintro e w' ⟨v,β',rfl,hR,hrv⟩;rw[hnil]at hR hrv;rw[wJ htr,tF hfr]at hrv;refine⟨v,rfl,hK _ _ _ β' hC ?_⟩;rw[hd];exact hR.put hdN' (.cx _ _ _ (fun _=>hrv) fun e=>by cases e)|false=>simp only[q140,if_false];refine hK _ _ _ β hC ?_;rw[hd];exact h.gl hdN' (.cx _ _ _ (fun e=>by cases e) fun _=>rfl)
 ·have hcore:=hi;obtain⟨hc,hd,hdN,hg⟩:=hi;have hdN':∀s,o.dst=some s->s<N:=fun s e=>hdN s (hd.trans e);have hs':(∃e sz zs,i.k=.LA e sz zs/\i.g=none/\rl i.d e sz zs (i.xs.map (ev st.vars)) K st)\/(∃f p k,i.k=.call f/\i.g=none/\ew Γ f=some (p,k)/\(if k=997 then CN P Γ i.d f (i.xs.map (ev st.vars)) p K st else if k=996 then stepG Γ i.d f (i.xs.map (ev st.vars)) (jO Γ f) K st else my P Γ i.d f (i.xs.map (ev st.vars)) p k K st))\/dz P Γ i K st\/(∃f,i.k=.call f/\i.g=none/\nM P Γ i f K st)\/(∃f s w,i.k=.call f/\i.g=some (s,w)/\GB P Γ i f s w K st)\/(∃t,dz P Γ i K (xo t st))\/∃l,cB P Γ i K (cU st l):=by
   unfold kv at hs;split at hs;·rename_i x e _;exact absurd ⟨x,e⟩ hx
   ·rename_i x s w e _;exact absurd ⟨x,e⟩ hx
   ·exact .inr (.inr (.inr (.inr (.inr (.inr ⟨_,hs⟩)))))
   ·rename_i e sz zs e1 e2;exact .inl ⟨e,sz,zs,e1,e2,hs⟩
   ·rename_i f s w e e2;exact .inr (.inr (.inr (.inr (.inl ⟨f,s,w,e,e2,hs⟩))))
   ·rename_i e;exact absurd e hk
   ·rename_i f e e2;unfold iS at hs;split at hs;·rename_i p k hfl;exact .inr (.inl ⟨f,p,k,e,e2,hfl,hs⟩)
    ·exact .inr (.inr (.inr (.inl ⟨f,e,e2,hs⟩)))
   ·exact .inr (.inr (.inr (.inr (.inr (.inl ⟨_,hs⟩)))))
   ·exact .inr (.inr (.inr (.inr (.inr (.inr ⟨[],hs⟩)))))
  obtain⟨id,ik,ix,ig,iun,itg⟩:=i;simp only at hc hd hdN hg hs' hk;rcases hs' with⟨e,sz,zs,rfl,rfl,hs⟩|⟨f,p,k,rfl,rfl,hfl,hs⟩|hs|⟨f,rfl,rfl,hs⟩|⟨f,s,want,rfl,rfl,hs⟩|⟨t,hs⟩|⟨l,hs⟩
  ·rcases hg with⟨hg,_⟩|⟨_,_,_,_,_,hig⟩;·unfold wpOp;rw[hj];dsimp only;rw[fb (P:=P) hg];obtain⟨x,t,ho,rfl,hu,hsz,hz,hpos,hall⟩:=Ec hc;obtain⟨ha,hs⟩:=hs;obtain⟨X,hX,hs1⟩:=af hs;obtain⟨r,hr,hs2⟩:=af hs1;simp only[q74,q119,q293,qr]at hX;subst hX;obtain⟨v,w',hrun,hR⟩:=Ha ho hu hsz hz hpos hall h hdN' (h.eo x ha.1) hr;refine .inl (aY hrun (hK _ _ _ β hs2 ?_));rw[hd];exact hR
   ·cases hig
  ·rcases hg with⟨hg,_⟩|⟨_,_,_,_,_,hig⟩
   ·unfold wpOp;rw[hj];dsimp only;rw[fb (P:=P) hg];obtain⟨args,argTypes,ho,hf,hx⟩:=nd hc;rw[hx]at hs;have hk3:k=998\/k=999\/k=997\/k=996:=by
     obtain⟨q,_,hq⟩:=qB.1 hfl;unfold Gh at hq;split at hq
     ·split at hq;·rename_i hk;cases hq;exact hk
      ·cases hq
     ·cases hq
    by_cases h997:k=997
    ·rw[if_pos h997]at hs;obtain⟨d,hdd,ha,hs⟩:=af hs;obtain⟨ys,hys,hs⟩:=af hs;obtain⟨⟨φ,r⟩,hr,hφ,hpf,hfree,hres,hC⟩:=af hs;have hdlt:d<N:=hdN d hdd;have hlim:=h.uL.1;have hd9:d%1000≠999:=by omega
     refine .inl (dV (j6 ho hf) ?_);have hv:args.map a.eval=(args.toList.map a.eval).toArray:=by apply q117;simp
     rw[hv];obtain⟨hyl,hyg⟩:=zi hys;have hun:=Hb hyg;have hcon:yA P f [] ys [] r:=by
      rcases hΓ (f+1000000) ys φ r hr hφ with⟨h1,_⟩|⟨_,_,_,h1|h1⟩|⟨h0,h2,_⟩|⟨h0,h2,_⟩;·exact absurd h1 (q204.2 (q172 _ _))
      ·subst h1;exfalso;obtain⟨c,_,h2|⟨_,h2⟩⟩:=hyg 0 .ak rfl;·exact um h2
       ·cases h2
      ·rw[show f+1000000-1000000=f from q163 _ _]at h1;exact BY hun hres h1
      ·exact(noG h0 h2 (jk hf)).elim
      ·exact(noG h0 (q113 (by decide) h2) (jk hf)).elim
     refine(ur h (a:=a) hd9 (by simp) (kV h args.toList ha) hyl hyg hcon hpf hfree hres).mono ?_;rintro ee w' ⟨v,β',rfl,hR,hrv⟩;refine⟨v,rfl,hK _ _ _ β' hC ?_⟩;rw[<-hd,hdd];exact hR.put (fun s hs'=>by injection hs' with hs';omega) hrv
    rw[if_neg h997]at hs;by_cases h996:k=996
    ·rw[if_pos h996]at hs;refine .inl (dV (j6 ho hf) ?_);have hv:args.map a.eval=(args.toList.map a.eval).toArray:=by apply q117;simp
     rw[hv];refine(kf (a:=a) hL hΓ h hdN hf (by simp) (fun ha=>kV h args.toList ha) hs).mono ?_;rintro ee w' ⟨v,β',st',rfl,hK',hR⟩;refine⟨v,rfl,hK _ _ _ β' hK' ?_⟩;rw[<-hd];exact hR
    rw[if_neg h996]at hs;obtain⟨d,hdd,ha,hs⟩:=af hs;obtain⟨X,hX,hs⟩:=af hs;obtain⟨⟨t,e,rows⟩,hT,hoff,hs⟩:=af hs;obtain⟨ys,hys,hs⟩:=af hs;obtain⟨⟨φ,r⟩,hr,hφ,hpf,hfree,hres,hC⟩:=af hs;have hdlt:d<N:=hdN d hdd;have hlim:=h.uL.1;have hd9:d%1000≠999:=by omega
    refine .inl (dV (j6 ho hf) ?_);have hv:args.map a.eval=(args.toList.map a.eval).toArray:=by apply q117;simp
    rw[hv];have hk:k=998\/k=999:=by omega
    have hpl:p<((args.toList.map (Ab.ev st.vars)).map strip).length:=(q63.1 hX).1;have hcon:EX P f ys r:=by
     rcases hΓ (f+1000000) ys φ r hr hφ with⟨h1,_⟩|⟨_,_,_,h1|h1⟩|⟨h0,h2,_⟩|⟨h0,h2,_⟩;·exact absurd h1 (q204.2 (q172 _ _))
     ·obtain⟨_,hm,_⟩:=sx hys hpl;rw[h1]at hm;cases p with|zero=>simp only[q72,qr]at hm;rcases hk with rfl|rfl<;>cases hm|succ p=>simp at hm
     ·rwa[show f+1000000-1000000=f from q163 _ _]at h1
     ·exact(noG h0 h2 (jk hf)).elim
     ·exact(noG h0 (q113 (by decide) h2) (jk hf)).elim
    refine(Da hL h (a:=a) hd9 hk (by simp) (kV h args.toList ha) hX hT hoff hys hcon hpf hfree hres).mono ?_;rintro ee w' ⟨v,β',rfl,hR,hrv⟩;refine⟨v,rfl,hK _ _ _ β' hC ?_⟩;rw[<-hd,hdd];exact hR.put (fun s hs'=>by injection hs' with hs';omega) hrv
   ·cases hig
  ·exact dX hΓ hj hcore h hK hs
  ·rcases hg with⟨hg,_⟩|⟨_,_,_,_,_,hig⟩;·unfold wpOp;rw[hj];dsimp only;rw[fb (P:=P) hg];exact .inl (uc hL hΓ hc hd hdN' h hK hs)
   ·cases hig
  ·rcases hg with⟨_,hig⟩|⟨j',want',s',hg,hj',hig⟩;·cases hig
   ·simp only[qr,q69]at hig;obtain⟨rfl,rfl⟩:=hig;unfold GB nc at hs;split at hs
    ·split at hs
     ·obtain⟨c,hcg,hs⟩:=af hs;unfold wpOp;rw[hj];dsimp only;rw[dS hg hj' (h.vars s) hcg];by_cases hct:c=true
      ·rw[if_pos hct]at hs |-;obtain⟨args,argTypes,ho,hf,hx⟩:=nd hc;simp only[hx]at hs;refine .inl (dV (j6 ho hf) ?_);have hv:args.map a.eval=(args.toList.map a.eval).toArray:=by apply q117;simp
       rw[hv];refine(kf (a:=a) hL hΓ h hdN hf (by simp) (fun ha=>kV h args.toList ha) hs).mono ?_;rintro ee w' ⟨v,β',st',rfl,hK',hR⟩;refine⟨v,rfl,hK _ _ _ β' hK' ?_⟩;rw[<-hd];exact hR
      ·rw[if_neg hct]at hs |-;refine hK _ _ _ β hs ?_;rw[hd];exact h.gl hdN' (.cx _ _ _ (fun e=>by cases e) fun _=>rfl)
     ·exact hs.elim
    have guarded:(aj (bT (st.vars s) want) fun c=>aj (gB st.aa ((ix.map (ev st.vars)).map strip)) fun ys=>aj (gt Γ f ys) fun x=>if frR x.2=true then(if c=true then nM P Γ ⟨id,.call f,ix,none,[],none⟩ f K st else K ((bR.put (.cx false .ak)).on id st)) else dz P Γ ⟨id,.call f,ix,some (s,want),iun,itg⟩ K st)->wpOp P ops Q' j K' a w:=by
     intro hs;obtain⟨c,hcg,hs⟩:=af hs;obtain⟨ys,hys,hs⟩:=af hs;obtain⟨x,hx,hs⟩:=af hs;split at hs
     ·unfold wpOp;rw[hj];dsimp only;rw[dS hg hj' (h.vars s) hcg];by_cases hct:c=true;·rw[if_pos hct]at hs |-;exact .inl (uc hL hΓ hc hd hdN' h hK hs)
      ·rw[if_neg hct]at hs |-;refine hK _ _ _ β hs ?_;rw[hd];exact h.gl hdN' (.cx _ _ _ (fun e=>by cases e) fun _=>rfl)
     ·exact dX hΓ hj hcore h hK hs
    unfold je at hs;split at hs;·exact guarded hs
    ·split at hs
     ·rename_i hf0;have hcg:bT (st.vars s) want=some false:=by revert hf0;cases bT (st.vars s) want with|none=>intro h0;cases h0|some b=>cases b with|false=>intro _;rfl|true=>intro h0;cases h0
      unfold wpOp;rw[hj];dsimp only;rw[dS hg hj' (h.vars s) hcg];simp only[q140,if_false];refine hK _ _ _ β hs ?_;rw[hd];exact h.gl hdN' (.cx _ _ _ (fun e=>by cases e) fun _=>rfl)
     ·exact guarded hs
  ·exact dX hΓ hj hcore (h.drop hL t) hK hs
  ·exact yy hΓ hj hcore (h.cU hL l) hK hs
def iA (hL:∀b,L b->S0 b) (hΓ:eG P Γ) {i:AI} (hj:ops[j]?=some o) (hi:Core P N ops o i) (h:Rel P S0 L B0 w0 N st a w β) (hK:∀st a w β,K st->Rel P S0 L B0 w0 N st a w β->K' a w) (hs:cn P Γ i K st):wpOp P ops Q' j K' a w:=by
 unfold cn at hs;split at hs;rotate_left;·exact nV hL hΓ hj hi h hK hs
 split at hs;rotate_left;·exact nV hL hΓ hj hi h hK hs
 rename_i r hr _;obtain⟨hc,hd,hdN,hg⟩:=hi;have hdN':∀s,o.dst=some s->s<N:=fun s e=>hdN s (hd.trans e);unfold apsM at hr;split at hr;rotate_left;·cases hr
 rename_i e sz b hk _ hig;cases hr;rw[hk]at hc;obtain⟨x,y,t,tx,inf,ho,hxs,ht,htx,hinf,hpos,hz,rfl,rfl⟩:=Ev hc;rw[hxs]at hs;rcases hg with⟨hg,_⟩|⟨_,_,_,_,_,hig'⟩;rotate_left;·rw[hig]at hig';cases hig'
 unfold wpOp;rw[hj];dsimp only;rw[fb (P:=P) hg];obtain⟨ha,hs⟩:=hs;obtain⟨⟨tg,rows,more⟩,hap,⟨b1,b2,b3⟩,h9,hs⟩:=af hs;obtain⟨v,w',hrun,β',hR⟩:=abb hL ho ht htx hinf hpos hz h hdN' (h.eo x ha.1) (h.eo y ha.2.1) hap b1 b2 b3 h9;refine .inl (aY hrun (hK _ _ _ β' hs ?_));rw[hd];exact hR
def wV (hL:∀b,L b->S0 b) (hΓ:eG P Γ) {Q:St->Prop} (hcore:∀(j:Nat) (o:Oper),ops[j]?=some o->∃i,is[j]?=some i/\Core P N ops o i) (hQ:∀st a w β,Q st->Rel P S0 L B0 w0 N st a w β->Q' .normal a w) {S:Nat->(St->Prop)->St->Prop} (hS:∀(j:Nat) (i:AI) (K:St->Prop) (st:St),is[j]?=some i->S j K st->cY P Γ i K st):∀(fuel:Nat) (listed:Array Bool) (st:St) (a:Act) (w:World) (β:Nat->Value),Rel P S0 L B0 w0 N st a w β->anyS S ops Q fuel listed st->wpAny P .any ops Q' fuel listed a w:=by intro fuel;induction fuel with|zero=>intro listed st a w β h hs;exact⟨hs.1,hQ _ _ _ _ hs.2 h⟩|succ fuel ih=>
 intro listed st a w β h hs;refine⟨fun h0=>hQ _ _ _ _ (hs.1 h0) h,fun j hj=>?_⟩;have h1:=hs.2 j hj;obtain⟨_,o,ho,_⟩:=mem_ready.1 hj;obtain⟨i,hi,hc⟩:=hcore j o ho;have h2:=hS j i _ st hi h1;have hnext:∀st a w β,anyS S ops Q fuel (listed.setIfInBounds j true) st->Rel P S0 L B0 w0 N st a w β->wpAny P .any ops Q' fuel (listed.setIfInBounds j true) a w:=fun st a w β hK hR=>ih _ st a w β hR hK;unfold cY at h2;split at h2
 ·rename_i f e1 e2 e3;obtain⟨id,ik,ix,ig,iun,itg⟩:=i;simp only at e1 e2 e3;subst e1 e2 e3;have hc':Core P N ops o ⟨id,.call f,ix,none,iun,none⟩:=hc.same rfl rfl rfl rfl;unfold jc at h2;split at h2
  ·rename_i p k hfl;split at h2;·rename_i hk;refine iA hL hΓ ho hc' h hnext ?_;show iS P Γ _ f (ew Γ f) _ st;rw[hfl];unfold iS;dsimp only;rw[if_neg (by omega),if_neg (by omega)];exact h2.2
   ·split at h2;·rename_i hk;refine iA hL hΓ ho hc' h hnext ?_;show iS P Γ _ f (ew Γ f) _ st;rw[hfl];unfold iS;dsimp only;rw[if_neg (by omega),if_pos hk];exact h2.2
    ·exact h2.elim
  ·have hc2:Core P N ops o ⟨id,.call f,ix,none,[],none⟩:=hc.same rfl rfl rfl rfl;exact dX hΓ ho hc2 h hnext h2
 ·rename_i e1 e2 e3;obtain⟨id,ik,ix,ig,iun,itg⟩:=i;simp only at e1 e2 e3;subst e1 e2 e3;have hc':Core P N ops o ⟨id,.mV,ix,none,iun,none⟩:=hc.same rfl rfl rfl rfl;exact iA hL hΓ ho hc' h hnext h2
 ·exact dX hΓ ho hc h hnext h2
def BW {as:Array AI}:∀{l:List AI}{n:Nat},(Db ops as n l).length=l.length/\∀(j:Nat) (i:AI),l[j]?=some i->(Db ops as n l)[j]?=some (if C8 ops as (n+j) i then{i with tg:=some 999999,un:=lC ops as (n+j)} else i)|[],n=>⟨rfl,fun j i h=>by simp at h⟩|x::l,n=>by obtain⟨h1,h2⟩:=BW (as:=as) (l:=l) (n:=n+1);refine⟨by simp[Db,h1],fun j i h=>?_⟩;cases j with|zero=>simp only[q72,qr]at h;subst h;rfl|succ j=>have:=h2 j i (by simpa using h);rw[show n+1+j=n+(j+1) from by omega]at this;simpa[Db]using this
def wS {Q:St->Prop}{l:List AI}:∀(m k:Nat) (st:St),k+m=l.length->steps P Γ (l.drop k) Q st->FP (fun j K st=>match l[j]? with|some i=>cY P Γ i K st|none=>False) Q m k st
 |0,k,st,hk,hs=>by
  have hd:l.drop k=[]:=by rw[q222];omega
  rw[hd]at hs;exact hs|m+1,k,st,hk,hs=>by
  have hkl:k<l.length:=by omega
  rw[q93 hkl]at hs;have hs:cY P Γ l[k] (fun st'=>steps P Γ (l.drop (k+1)) Q st') st:=hs;unfold FP;rw[q62 hkl];exact jY (fun st' h=>wS m (k+1) st' (by omega) h) hs
def s8 {x:AI} (h:C8 ops as j x=true):((∃f,x.k=.call f)\/x.k=.mV)/\x.g=none/\x.un=[]/\∀q y,as[q]?=some y->q≠j->(if q<j then bits ops q j else bits ops j q)=false->(QB y x=true\/(q<j/\ldB y x=true))/\∀dd,y.d=some dd->dd∉lC ops as j:=by
 unfold C8 at h;simp only[q71,q85,q142,q132,beq_iff_eq,Option.isNone_iff_eq_none]at h;obtain⟨⟨⟨⟨h1,h2⟩,h3⟩,h5⟩,h4⟩:=h;have hf:(∃f,x.k=.call f)\/x.k=.mV:=by
  unfold IX at h1;split at h1;·rename_i f e;exact .inl ⟨f,e⟩
  ·rename_i e;exact .inr e
  ·cases h1
 refine⟨hf,h2,by simpa using h5,fun q y hy hne hb=>?_⟩;have:=h4 q (q67.1 hy).1;rw[hy]at this;rcases this with(h|h)|h;·exact absurd h hne
 ·rw[hb]at h;cases h
 ·simp only[q71,q132,decide_eq_true_eq]at h;refine⟨h.1,fun dd hdd=>?_⟩;have:=h.2;rw[hdd]at this;simpa using this
def I3 {y x:AI} (h:ldB y x=true):∃dd n s f,y=⟨some dd,.load n,[.tmp s],none,y.un,none⟩/\x.k=.call f/\x.d≠some s/\(dr x).contains dd=false/\x.d≠some dd/\dd≠s/\Fb y=[s]:=by
 obtain⟨yd,yk,yxs,yg,yun,ytg⟩:=y;unfold ldB at h;split at h;·rename_i n s dd f e1 e2 e3 e4 e5 e6;simp only at e1 e2 e3 e4 e5;subst e1 e2 e3 e4 e5;simp only[q71,bne_iff_ne,ne_eq,q125]at h;exact⟨dd,n,s,f,rfl,e6,h.1.1.1,h.1.1.2,h.1.2,h.2,rfl⟩
 ·cases h
def Hk {q j s:Nat}{y:AI} (hy:as[q]?=some y) (hq:q<j) (hb:bits ops q j=false) (hs:Fb y=[s]):s∈lC ops as j:=by unfold lC;rw[q179];refine⟨q,q142.2 hq,?_⟩;rw[hb,hy];simp[hs]
def HL (hL:∀b,L b->S0 b) (hΓ:eG P Γ) {Q:St->Prop}{l:List AI} (hl:is=l.toArray) (hsz:is.size=ops.size) (hcore:∀(j:Nat) (o:Oper),ops[j]?=some o->∃i,is[j]?=some i/\Core P N ops o i) (hQ:∀st a w β,Q st->Rel P S0 L B0 w0 N st a w β->Q' .normal a w):∀(m k:Nat) (st:St) (a:Act) (w:World) (β:Nat->Value),k+m=ops.size->Rel P S0 L B0 w0 N st a w β->dj P Γ (l.drop k) Q st->wpOps P ops Q' (List.range' k m) a w:=by intro m;induction m with
 |zero=>
  intro k st a w β hk h hs;have hd:l.drop k=[]:=by rw[q222];rw[hl]at hsz;simp at hsz;omega
  rw[hd]at hs;exact hQ _ _ _ _ hs h|succ m ih=>
  intro k st a w β hk h hs;have hkl:k<l.length:=by rw[hl]at hsz;simp at hsz;omega
  have hko:k<ops.size:=by omega
  rw[q93 hkl]at hs;have hs:cn P Γ l[k] (fun st'=>dj P Γ (l.drop (k+1)) Q st') st:=hs;have hok:ops[k]?=some ops[k]:=q136 hko;obtain⟨i,hi,hc⟩:=hcore k _ hok;rw[hl]at hi;simp only[List.getElem?_toArray,q62 hkl,qr]at hi;subst hi;rw[List.range'_succ,wpOps_cons];exact iA hL hΓ hok hc h (fun st a w β hK hR=>ih (k+1) st a w β (by omega) hR hK) hs
def E2 {l:List Oper}{js:List AI} (h:xG P N ops l=some js):js.length=l.length/\∀(j:Nat) (o:Oper),l[j]?=some o->∃i,js[j]?=some i/\Core P N ops o i:=by induction l generalizing js with|nil=>simp only[xG,qr]at h;subst h;exact⟨rfl,fun j o h=>by simp at h⟩|cons o l ih=>
 simp only[xG]at h;split at h;·rename_i i is hi his;simp only[qr]at h;subst h;obtain⟨h1,h2⟩:=ih his;refine⟨by simp[h1],fun j o' hj=>?_⟩;cases j with|zero=>simp only[q72,qr]at hj;subst hj;exact⟨i,rfl,Fg hi⟩|succ j=>exact h2 j o' (by simpa using hj)
 ·cases h
def ln {l0:List AI}:∀{l:List AI},(zb l0 l).length=l.length/\∀(j:Nat) (i:AI),l[j]?=some i->∃i',(zb l0 l)[j]?=some i'/\i'.k=i.k/\i'.xs=i.xs/\i'.d=i.d/\i'.g=i.g|[]=>⟨rfl,fun j i h=>by simp at h⟩|x::l=>by obtain⟨h1,h2⟩:=ln (l0:=l0) (l:=l);refine⟨by simp[zb,h1],fun j i h=>?_⟩;cases j with|zero=>simp only[q72,qr]at h;subst h;exact⟨_,rfl,rfl,rfl,rfl,rfl⟩|succ j=>exact h2 j i (by simpa using h)
def jW {l0:List AI}:∀{l:List AI},(sq l0 l).length=l.length/\∀(j:Nat) (i:AI),l[j]?=some i->∃i',(sq l0 l)[j]?=some i'/\i'.k=i.k/\i'.xs=i.xs/\i'.d=i.d/\i'.g=i.g|[]=>⟨rfl,fun j i h=>by simp at h⟩|x::l=>by obtain⟨h1,h2⟩:=jW (l0:=l0) (l:=l);refine⟨by simp[sq,h1],fun j i h=>?_⟩;cases j with|zero=>simp only[q72,qr]at h;subst h;exact⟨_,rfl,rfl,rfl,rfl,rfl⟩|succ j=>exact h2 j i (by simpa using h)
def Cm:∀{l pre:List AI},(yI pre l).length=l.length/\∀(j:Nat) (i:AI),l[j]?=some i->∃i',(yI pre l)[j]?=some i'/\i'.k=i.k/\i'.xs=i.xs/\i'.d=i.d/\i'.g=i.g|[],pre=>⟨rfl,fun j i h=>by simp at h⟩|x::l,pre=>by obtain⟨h1,h2⟩:=Cm (l:=l) (pre:=x::pre);refine⟨by simp[yI,h1],fun j i h=>?_⟩;cases j with|zero=>simp only[q72,qr]at h;subst h;refine⟨_,by simp only[yI,q72];rfl,?_⟩;split<;>exact⟨rfl,rfl,rfl,rfl⟩|succ j=>obtain⟨i',h3,h4⟩:=h2 j i (by simpa using h);exact⟨i',by simpa[yI]using h3,h4⟩
def tf {as:Array AI}:∀{l:List AI}{n:Nat},(ue ops as n l).length=l.length/\∀(j:Nat) (i:AI),l[j]?=some i->∃i',(ue ops as n l)[j]?=some i'/\i'.k=i.k/\i'.xs=i.xs/\i'.d=i.d/\i'.g=i.g|[],n=>⟨rfl,fun j i h=>by simp at h⟩|x::l,n=>by obtain⟨h1,h2⟩:=tf (as:=as) (l:=l) (n:=n+1);refine⟨by simp[ue,h1],fun j i h=>?_⟩;cases j with|zero=>simp only[q72,qr]at h;subst h;exact⟨_,rfl,rfl,rfl,rfl,rfl⟩|succ j=>exact h2 j i (by simpa using h)
def qi {as:Array AI}:∀{l:List AI}{n:Nat},(jR ops as n l).length=l.length/\∀(j:Nat) (i:AI),l[j]?=some i->∃i',(jR ops as n l)[j]?=some i'/\i'.k=i.k/\i'.xs=i.xs/\i'.d=i.d/\i'.g=i.g|[],n=>⟨rfl,fun j i h=>by simp at h⟩|x::l,n=>by obtain⟨h1,h2⟩:=qi (as:=as) (l:=l) (n:=n+1);refine⟨by simp[jR,h1],fun j i h=>?_⟩;cases j with|zero=>simp only[q72,qr]at h;subst h;exact⟨_,rfl,rfl,rfl,rfl,rfl⟩|succ j=>exact h2 j i (by simpa using h)
def free_spec {l:List AI} (h:JK ops l.toArray=true) (hsz:l.length=ops.size):(∀j,j<ops.size->lI ops j=true/\∀i,i<j->og ops i j=true)/\∀(i j:Nat) (x y:AI),l.toArray[i]?=some x->l.toArray[j]?=some y->i<j->bits ops i j=false->Apt x y:=by
 unfold JK at h;simp only[q85,q142,q71,q132]at h;refine⟨fun j hj=>⟨(h j hj).1,fun i hi=>((h j hj).2 i hi).1⟩,fun i j x y hx hy hij hb=>?_⟩;have hj:j<ops.size:=by have:=(q67.1 hy).1;simp at this;omega
 have:=((h j hj).2 i hij).2;rw[hb,hx,hy]at this;simp only[q140,false_or]at this;exact CV this
def BG (hL:∀b,L b->S0 b) (hΓ:eG P Γ) {id:Nat}{draw:Bool}{b:AC}{bU:List Nat}{J:Exit->St->Prop} (hm:P.follows .mixedOrders=true) (hc:comp P N (.region id ops draw)=some b) (h:Rel P S0 L B0 w0 N st a w β) (hK:∀st a w β,K st->Rel P S0 L B0 w0 N st a w β->Q' .normal a w) (hs:jn P Γ (iB bU b) K J st):(Code.region id ops draw).wp P Q' a w:=by
 unfold comp at hc;split at hc
 ·rename_i js hjs;obtain⟨h1,h2⟩:=E2 hjs;have hQ:∀st a w β,K ⟨km bU st.vars,st.aa⟩->Rel P S0 L B0 w0 N st a w β->Q' .normal a w:=by
   intro st a w β hk hR;refine hK _ a w β hk (hR.bU fun s=>?_);unfold km;split;·exact .inl rfl
   ·exact .inr rfl
  cases draw with|false=>simp only[q140,if_false,qr]at hc;subst hc;obtain⟨a1,a2⟩:=Cm (l:=js) (pre:=[]);have hs:dj P Γ (yI [] js) (fun st'=>K ⟨km bU st'.vars,st'.aa⟩) st:=hs;refine wp_region ?_;rw[List.range_eq_range'];refine HL hL hΓ (is:=(yI [] js).toArray) (l:=yI [] js) rfl (by simpa using a1.trans h1) ?_ hQ ops.size 0 st a w β (by simp) h hs;intro j o ho;obtain⟨i,hi,hco⟩:=h2 j o (by simpa using ho);obtain⟨i',hi',g1,g2,g3,g4⟩:=a2 j i hi;exact⟨i',by simpa using hi',hco.same g1 g2 g3 g4⟩|true=>
   simp only[if_true]at hc;rcases q246.1 hc with hc|⟨_,hc⟩;rotate_left
   ·obtain⟨gs,hdr,t1,t2⟩:∃gs,AT ops gs (oE ops js)=some b/\gs.length=js.length/\∀(j:Nat) (i:AI),js[j]?=some i->∃i',gs[j]?=some i'/\i'.k=i.k/\i'.xs=i.xs/\i'.d=i.d/\i'.g=i.g:=by
     rcases q246.1 hc with h|⟨_,h⟩;·exact⟨_,h,(ln (l0:=js) (l:=js)).1,(ln (l0:=js) (l:=js)).2⟩
     ·exact⟨_,h,(jW (l0:=js) (l:=js)).1,(jW (l0:=js) (l:=js)).2⟩
    generalize oE ops js=l at hdr;unfold AT at hdr;dsimp only at hdr;split at hdr;rotate_left;·cases hdr
    rename_i hcond;simp only[qr]at hdr;subst hdr;obtain⟨u1,u2⟩:=tf (ops:=ops) (as:=gs.toArray) (l:=gs) (n:=0);generalize ue ops gs.toArray 0 gs=hh at*;obtain⟨w1,w2⟩:=qi (ops:=ops) (as:=hh.toArray) (l:=hh) (n:=0);have hs:steps P Γ (l.filterMap fun j=>(jR ops hh.toArray 0 hh)[j]?) (fun st'=>K ⟨km bU st'.vars,st'.aa⟩) st:=hs;generalize jR ops hh.toArray 0 hh=ks at*;obtain⟨c1,c2,c3,c4,c5,c6⟩:=hcond;have hlen:ks.length=ops.size:=by rw[w1,u1,t1,h1];simp
    simp only[q85,q142,q71,decide_eq_true_eq,bne_iff_ne,ne_eq]at c3 c4 c5 c6;refine wp_region_any hm ?_;have hfirst:Array.replicate ops.size false=cR ops.size []:=by
     apply Array.ext;·simp[cR]
     ·intro j h1 h2;simp[cR]
    rw[hfirst];have hno:∀(j:Nat) (x:AI),ks[j]?=some x->x.tg≠some 999999:=fun j x hx=>c6 x (List.mem_of_getElem? hx);have hnest:∀(l:List Nat) (st:St),(∀j∈l,j<ops.size)->steps P Γ (l.filterMap fun j=>ks[j]?) (fun st'=>K ⟨km bU st'.vars,st'.aa⟩) st->JN (fun j K st=>match ks[j]? with|some i=>cY P Γ i K st|none=>False) (fun st'=>K ⟨km bU st'.vars,st'.aa⟩) l st:=by intro l;induction l with|nil=>intro st _ hs;exact hs|cons j l ih=>
     intro st hl hs;have hj:j<ks.length:=by rw[hlen];exact hl j q122
     have hk:=q62 hj;rw[List.filterMap_cons_some hk]at hs;show(match ks[j]? with|some i=>cY P Γ i _ st|none=>False);rw[hk];exact jY (fun st h=>ih st (fun j hj=>hl j (q108 _ hj)) h) hs
    have hany:anyS (fun j K st=>match ks[j]? with|some i=>cY P Γ i K st|none=>False) ops (fun st'=>K ⟨km bU st'.vars,st'.aa⟩) l.length (cR ops.size []) st:=by
     refine K1 (ks:=ks.toArray) ?_ ?_ c3 ?_ l [] st (fun j hj _=>by simpa using c5 j hj) c4 (fun j hj=>by simp at hj) ?_ c2 (hnest l st c4 hs);·intro j K K' st hK hh;cases hk:ks[j]? with|none=>simp only[hk]at hh|some i=>simp only[hk]at hh |-;exact jY hK hh
     ·intro j st hh;cases hk:ks[j]? with|none=>simp only[hk]at hh|some i=>simp only[hk]at hh;exact rU hh
     ·rintro i j K st ⟨x,y,hx,hy,hap⟩ hh;have hx':ks[i]?=some x:=by simpa using hx
      have hy':ks[j]?=some y:=by simpa using hy
      simp only[hx',hy']at hh |-;rw[dE (hno i x hx')]at hh;obtain⟨e,he,hK⟩:=cM.1 hh;rw[dE (hno j y hy')]at hK;obtain⟨e',he',hK⟩:=cM.1 hK;obtain⟨e1,e2,hy1,hx2,heq⟩:=swapT (CV hap) he he';rw[dE (hno j y hy')];refine cM.2 ⟨e1,hy1,?_⟩;rw[dE (hno i x hx')];exact cM.2 ⟨e2,hx2,by rw[heq];exact hK⟩
     ·intro j o hj hl;rw[iJ false ((q67.1 hj).1)]at hl;simp at hl
    rw[c1]at hany;refine wV hL hΓ (is:=ks.toArray) (S:=fun j K st=>match ks[j]? with|some i=>cY P Γ i K st|none=>False) ?_ hQ ?_ ops.size _ st a _ β h.drew hany;·intro j o ho;obtain⟨i,hi,hco⟩:=h2 j o (by simpa using ho);obtain⟨i1,hi1,a1,a2,a3,a4⟩:=t2 j i hi;obtain⟨i2,hi2,b1,b2,b3,b4⟩:=u2 j i1 hi1;obtain⟨i3,hi3,d1,d2,d3,d4⟩:=w2 j i2 hi2;exact⟨i3,by simpa using hi3,hco.same (i':=i3) (d1.trans (b1.trans a1)) (d2.trans (b2.trans a2)) (d3.trans (b3.trans a3)) (d4.trans (b4.trans a4))⟩
    ·intro j i K st hi hh;have hi':ks[j]?=some i:=by simpa using hi
     simp only[hi']at hh;exact hh
   obtain⟨gs,hdr,t1,t2⟩:∃gs,drawn ops gs=some b/\gs.length=js.length/\∀(j:Nat) (i:AI),js[j]?=some i->∃i',gs[j]?=some i'/\i'.k=i.k/\i'.xs=i.xs/\i'.d=i.d/\i'.g=i.g:=by
    rcases q246.1 hc with h|⟨_,h⟩;·exact⟨_,h,(ln (l0:=js) (l:=js)).1,(ln (l0:=js) (l:=js)).2⟩
    ·exact⟨_,h,(jW (l0:=js) (l:=js)).1,(jW (l0:=js) (l:=js)).2⟩
   unfold drawn at hdr;dsimp only at hdr;split at hdr
   ·rename_i hfree;simp only[qr]at hdr;subst hdr;obtain⟨u1,u2⟩:=tf (ops:=ops) (as:=gs.toArray) (l:=gs) (n:=0);generalize ue ops gs.toArray 0 gs=hh at*;obtain⟨w1,w2⟩:=qi (ops:=ops) (as:=hh.toArray) (l:=hh) (n:=0);have hs:steps P Γ (Db ops (jR ops hh.toArray 0 hh).toArray 0 (jR ops hh.toArray 0 hh)) (fun st'=>K ⟨km bU st'.vars,st'.aa⟩) st:=hs;generalize jR ops hh.toArray 0 hh=ks at*;obtain⟨m1,m2⟩:=BW (ops:=ops) (as:=ks.toArray) (l:=ks) (n:=0);have hlen:ks.length=ops.size:=by rw[w1,u1,t1,h1];simp
    simp only[q71,q85,bne_iff_ne,ne_eq]at hfree;obtain⟨f1,f2⟩:=free_spec hfree.1 hlen;have hno:=hfree.2;refine wp_region_any hm ?_;have hfirst:Array.replicate ops.size false=ff ops.size 0:=by
     apply Array.ext;·simp[ff]
     ·intro j h1 h2;simp[ff]
    rw[hfirst];generalize hms:Db ops ks.toArray 0 ks=ms at*;have hget:∀(j:Nat) (i:AI),ms[j]?=some i->∃i0,ks[j]?=some i0/\((C8 ops ks.toArray j i0=false/\i=i0)\/(C8 ops ks.toArray j i0=true/\i={i0 with tg:=some 999999,un:=lC ops ks.toArray j})):=by
     intro j i hi;have hjl:j<ks.length:=by rw[<-m1];exact(q63.1 hi).1
     have h0:=q62 hjl;have h3:=m2 j _ h0;rw[hi,q126]at h3;refine⟨_,h0,?_⟩;cases hmm:C8 ops ks.toArray j ks[j]with|false=>rw[hmm]at h3;left;exact⟨rfl,by simpa using h3⟩|true=>rw[hmm]at h3;right;exact⟨rfl,by simpa using h3⟩
    refine wV hL hΓ (is:=ms.toArray) (S:=fun j K st=>match ms[j]? with|some i=>cY P Γ i K st|none=>False) ?_ hQ ?_ ops.size _ st a _ β ?_ (Jq ?_ ?_ f1 ?_ ops.size 0 st (by simp) (wS ops.size 0 st (by rw[m1,hlen];simp) hs))
    ·intro j o ho;obtain⟨i,hi,hco⟩:=h2 j o (by simpa using ho);obtain⟨i1,hi1,a1,a2,a3,a4⟩:=t2 j i hi;obtain⟨i2,hi2,b1,b2,b3,b4⟩:=u2 j i1 hi1;obtain⟨i3,hi3,c1,c2,c3,c4⟩:=w2 j i2 hi2;have h3:=m2 j i3 hi3;have hco3:=hco.same (i':=i3) (c1.trans (b1.trans a1)) (c2.trans (b2.trans a2)) (c3.trans (b3.trans a3)) (c4.trans (b4.trans a4));refine⟨_,by simpa using h3,?_⟩;split;·exact hco3.same rfl rfl rfl rfl
     ·exact hco3
    ·intro j i K st hi hh;have hi':ms[j]?=some i:=by simpa using hi
     simp only[hi']at hh;exact hh
    ·exact h.drew
    ·intro j K K' st hKK hh;cases hi:ms[j]? with|none=>rw[hi]at hh;exact hh.elim|some i=>rw[hi]at hh;exact jY hKK hh
    ·intro j st hh;cases hi:ms[j]? with|none=>rw[hi]at hh;exact hh|some i=>rw[hi]at hh;exact rU hh
    ·intro i j K st hj hij hb hh;cases hi:ms[i]? with|none=>rw[hi]at hh;exact hh.elim|some x=>
      have hjl:j<ms.length:=by rw[m1,hlen];exact hj
      have hjg:=q62 hjl;generalize ms[j]=y at hjg;simp only[hi,hjg]at hh |-;obtain⟨x0,hx0,hx⟩:=hget i x hi;obtain⟨y0,hy0,hy⟩:=hget j y hjg;have hx0':ks.toArray[i]?=some x0:=by simpa using hx0
      have hy0':ks.toArray[j]?=some y0:=by simpa using hy0
      rcases hx with⟨hxm,rfl⟩|⟨hxm,rfl⟩
      ·rcases hy with⟨hym,rfl⟩|⟨hym,rfl⟩;·have nx:=hno x (List.mem_of_getElem? hx0);have ny:=hno y (List.mem_of_getElem? hy0);have hap:=f2 i j x y hx0' hy0' hij hb;rw[dE nx]at hh;rw[dE ny];obtain⟨e,he,hK⟩:=cM.1 hh;rw[dE ny]at hK;obtain⟨e',he',hK⟩:=cM.1 hK;obtain⟨e1,e2,hy1,hx2,heq⟩:=swapT hap he he';refine cM.2 ⟨e1,hy1,?_⟩;rw[dE nx];exact cM.2 ⟨e2,hx2,by rw[heq];exact hK⟩
       ·obtain⟨hk,hg,hun0,hall⟩:=s8 hym;obtain⟨hc,hdu⟩:=hall i x hx0' (by omega) (by rw[if_pos hij];exact hb);rcases hc with hc|⟨_,hc⟩;·have hc':QB x {y0 with tg:=some 999999,un:=lC ops ks.toArray j}=true:=hc;have hsw:=vd (P:=P) (Γ:=Γ) (x:={y0 with tg:=some 999999,un:=lC ops ks.toArray j}) (y:=x) hk hg rfl hc' hdu (K:=K) (st:=st);rw[<-hsw]at hh;exact hh
        ·obtain⟨dd,n,s,f,hx1,hyk,g1,g2,g3,g4,g5⟩:=I3 hc;have hsm:=Hk hx0' hij hb g5;cases hfl:ew Γ f with|none=>
          have nx:=hno x (List.mem_of_getElem? hx0);have ny:=hno y0 (List.mem_of_getElem? hy0);have hyt:y0.tg=none:=by unfold C8 at hym;simp only[q71]at hym;simpa using hym.1.1.2
          have hpl:∀(K:St->Prop) (st:St),cY P Γ {y0 with tg:=some 999999,un:=lC ops ks.toArray j} K st=dz P Γ y0 K st:=by intro K st;obtain⟨yd,yk,yxs,yg,yun,ytg⟩:=y0;simp only at hyk hg hun0 hyt;subst hyk hg hun0 hyt;show jc P Γ _ f (ew Γ f) K st=_;rw[hfl];rfl
          have hap:=f2 i j x y0 hx0' hy0' hij hb;rw[dE nx]at hh;rw[hpl];obtain⟨e,he,hK⟩:=cM.1 hh;rw[hpl]at hK;obtain⟨e',he',hK⟩:=cM.1 hK;obtain⟨e1,e2,hy1,hx2,heq⟩:=swapT hap he he';refine cM.2 ⟨e1,hy1,?_⟩;rw[dE nx];exact cM.2 ⟨e2,hx2,by rw[heq];exact hK⟩|some pk=>exact N3 (x:={y0 with tg:=some 999999,un:=lC ops ks.toArray j}) (y:=x) hyk hg rfl (p:=pk.1) (k:=pk.2) hfl hx1 g1 g2 g3 g4 hsm (hdu dd (by rw[hx1])) hh
      ·obtain⟨hk,hg,_,hall⟩:=s8 hxm;rcases hy with⟨hym,rfl⟩|⟨hym,rfl⟩
       ·obtain⟨hc,hdu⟩:=hall j y hy0' (by omega) (by rw[if_neg (by omega)];exact hb);rcases hc with hc|⟨hlt,_⟩;·have hc':QB y {x0 with tg:=some 999999,un:=lC ops ks.toArray i}=true:=hc;have hsw:=vd (P:=P) (Γ:=Γ) (x:={x0 with tg:=some 999999,un:=lC ops ks.toArray i}) (y:=y) hk hg rfl hc' hdu (K:=K) (st:=st);rw[hsw]at hh;exact hh
        ·omega
       ·exfalso;obtain⟨hc,_⟩:=hall j y0 hy0' (by omega) (by rw[if_neg (by omega)];exact hb);obtain⟨hk',_,_⟩:=s8 hym;rcases hc with hc|⟨hlt,_⟩;·unfold QB at hc;rcases hk' with⟨f',hk'⟩|hk'<;>(rw[hk']at hc;simp at hc)
        ·omega
   ·cases hdr
 ·cases hc
def RV.live {S S':Nat->Prop}{D D':Nat->Prop}{β β':Nat->Value}{os:List (Nat×AO)} (hS:∀b,S b->S' b) (hD:∀t,aE (ab os) t->D t->D' t/\β' t=β t) {v:Value}{x:AV} (hx:mF os x) (h:RV P S w β D v x):RV P S' w β' D' v x:=by
 have hS':∀b,S b->S' b/\w.heap[b]?=w.heap[b]?:=fun b hb=>⟨hS b hb,rfl⟩;have hcell:∀{u:Value}{c:AV},lr os c->RV P S w β D u c->RV P S' w β' D' u c:=by intro u c hc h;cases h with|pv v p h=>exact .pv _ _ (h.mono hS')|own t h=>rw[<-(hD t hc h).2];exact .own t (hD t hc h).1|ptr t o b h hb=>exact .ptr t o b (hD t hc h).1 ((hD t hc h).2.trans hb)|bd t e i o b n c inf h hi hb=>exact .bd t e i o b n c inf (hD t hc h).1 hi ((hD t hc h).2.trans hb)|sub v t e lo hi inf A A1 n c h hi' hb h1 h2 h3 h4 h5 hv=>exact .sub _ t e lo hi inf A A1 n c (hD t hc h).1 hi' ((hD t hc h).2.trans hb) h1 h2 h3 h4 h5 hv|rp ad cs us h1 h2 h3 h4=>exact .rp ad cs us (hS _ h1) h2 h3 (fun j p hp=>(h4 j p hp).mono hS')|agg cs us hl h=>exact hc.elim|aN cs us hl h=>exact hc.elim|bI f cs us hl h=>exact hc.elim|cx g v av h=>exact hc.elim|ak v=>exact .ak _
 have hcs:∀{cs:List AV},iq os cs->∀(i:Nat) (c:AV),cs[i]?=some c->lr os c:=by intro cs;induction cs with|nil=>intro _ i c hc;simp at hc|cons x cs ih=>intro hl i c hc;cases i with|zero=>simp only[q72,qr]at hc;subst hc;exact hl.1|succ i=>exact ih hl.2 i c (by simpa using hc)
 cases h with|pv v p h=>exact hcell (c:=.pv p) trivial (.pv _ _ h)|own t h=>exact hcell (c:=.own t) hx (.own t h)|ptr t o b h hb=>exact hcell (c:=.ptr t o) hx (.ptr t o b h hb)|bd t e i o b n c inf h hi hb=>exact hcell (c:=.bd t e i o) hx (.bd t e i o b n c inf h hi hb)|sub v t e lo hi inf A A1 n c h hi' hb h1 h2 h3 h4 h5 hv=>exact hcell (c:=.sub t e lo hi) hx (.sub v t e lo hi inf A A1 n c h hi' hb h1 h2 h3 h4 h5 hv)|rp ad cs us h1 h2 h3 h4=>exact hcell (c:=.rp cs) trivial (.rp ad cs us h1 h2 h3 h4)|agg cs us hl h=>exact .agg cs us hl fun i c u hc hu=>hcell (hcs hx i c hc) (h i c u hc hu)|aN cs us hl h=>exact .aN cs us hl fun i c u hc hu=>hcell (hcs hx i c hc) (h i c u hc hu)|bI f cs us hl h=>exact .bI f cs us hl fun i c u hc hu=>hcell (hcs hx i c hc) (h i c u hc hu)|cx g v av h hu=>exact .cx g v av (fun hg=>hcell hx (h hg)) hu|ak v=>exact .ak _
def RV.eT {v:Value} (h:RV P S w β D v (.pv .nil)):v=.slice none 0 0:=by cases h with|pv v p hp=>cases hp;rfl
def GA:∀{vs:List (Nat×AV)}{s:Nat},look vs s=.ak\/(s,look vs s)∈vs
 |[],_=>.inl rfl|(t,v)::l,s=>by
  simp only[look];split;·rename_i h;subst h;exact .inr q122
  ·exact(GA (vs:=l) (s:=s)).imp id (q108 _)
def ry:∀{os:List (Nat×AO)}{t:Nat}{o:AO},ab os t=some o->(t,o)∈os
 |[],_,_,h=>by cases h|(s,v)::l,t,o,h=>by
  simp only[ab]at h;split at h;·rename_i h';subst h';simp only[qr]at h;subst h;exact q122
  ·exact q108 _ (ry h)
def Gx {ad:List Nat}{os:List (Nat×AO)}:∀{l:List (Nat×AV)},SB ad st os l->∀s v,(s,v)∈l->v=.ak\/(st.vars s=v/\mF os v)\/(∃t,v=.own t/\ad.contains t=true/\aE (ab os) t/\st.vars s=.pv .nil)
 |[],_,s,v,hm=>by cases hm|(s',v')::l,h,s,v,hm=>by
  rcases q78.1 hm with e|hm;·cases e;exact h.1
  ·exact Gx h.2 s v hm
def uO {ad:List Nat}{os:List (Nat×AO)}:∀{l:List (Nat×AO)},QL P ad st os l->∀t o,(t,o)∈l->(st.aa t=some o/\ad.contains t=false/\zQ os o)\/(∃e,o=.arr e []/\ad.contains t=true/\st.aa t=none/\(P.info? e).isSome=true/\t%1000≠999)
 |[],_,s,v,hm=>by cases hm|(s',v')::l,h,s,v,hm=>by
  rcases q78.1 hm with e|hm;·cases e;exact h.1
  ·exact uO h.2 s v hm
def pF (β:Nat->Value) (aa:Nat->Option AO):Nat->Value:=fun t=>match aa t with|some _=>β t|none=>.slice none 0 0
def Dv {ad:List Nat}{f:Fr} (h:Rel P S0 L B0 w0 N st a w β) (hw:wk P ad st f):∃β',Rel P S0 L B0 w0 N f.st a w β':=by
 obtain⟨vs,os⟩:=f;obtain⟨hv,ho⟩:=hw;have hold:∀t,aE st.aa t->pF β st.aa t=β t:=by rintro t ⟨o,ht⟩;unfold pF;rw[ht]
 have hnew:∀t,st.aa t=none->pF β st.aa t=.slice none 0 0:=by intro t ht;unfold pF;rw[ht]
 have hblk:∀t b,aE (ab os) t->cI (pF β st.aa t)=some b->aE st.aa t/\cI (β t)=some b:=by intro t b ht hb;cases hs:st.aa t with|none=>rw[hnew t hs]at hb;simp[cI]at hb|some o=>exact⟨⟨o,hs⟩,by rw[<-hold t ⟨o,hs⟩];exact hb⟩
 have hS:∀b,bn S0 w0.heap.size β st.aa w b->bn S0 w0.heap.size (pF β st.aa) (ab os) w b:=by rintro b ⟨h1,h2,h3⟩;refine⟨h1,h2,?_⟩;rintro⟨t,o,ht,hb⟩;obtain⟨⟨o',ho'⟩,hb'⟩:=hblk t b ⟨o,ht⟩ hb;exact h3 ⟨t,o',ho',hb'⟩
 have hD:∀t,aE (ab os) t->aE st.aa t->aE (ab os) t/\pF β st.aa t=β t:=fun t h1 h2=>⟨h1,hold t h2⟩;refine⟨pF β st.aa,h.size,h.defers,fun s=>?_,⟨fun t o ht=>?_,fun t t' b ht ht' hb hb'=>?_⟩,fun t b ht hb=>?_,h.uL,fun t h9 ht=>?_,h.cu⟩
 ·show RV P _ w _ _ _ (look vs s);rcases GA (vs:=vs) (s:=s) with hj|hm;·rw[hj];exact .ak _
  ·rcases Gx hv s _ hm with hj|⟨he,hl⟩|⟨t,he,hat,hdt,hn⟩;·rw[hj];exact .ak _
   ·have:=h.vars s;rw[he]at this;exact this.live hS hD hl
   ·rw[he];have hs:=h.vars s;rw[hn]at hs;have hval:a.tmps.getD s undef=.slice none 0 0:=hs.eT;obtain⟨o,hot⟩:=hdt;have hnone:st.aa t=none:=by
     rcases uO ho t o (ry hot) with⟨_,h2,_⟩|⟨_,_,_,h3,_⟩;·rw[hat]at h2;cases h2
     ·exact h3
    rw[hval,<-hnew t hnone];exact .own t ⟨o,hot⟩
 ·have ht':ab os t=some o:=ht;rcases uO ho t o (ry ht') with⟨h1,h2,h3⟩|⟨e,rfl,h2,h3,h4,_⟩;·have hh:=h.heap.holds t o h1;have hbt:=hold t ⟨o,h1⟩;cases o with
   |box cs=>
    obtain⟨b,us,ty,hp,hhp,hl,hc⟩:=hh;refine⟨b,us,ty,hbt.trans hp,hhp,hl,fun i c u hci hui=>⟨(hc i c u hci hui).1,?_⟩⟩;have hlc:∀{cs:List AV},iq os cs->∀(i:Nat) (c:AV),cs[i]?=some c->lr os c:=by intro cs;induction cs with|nil=>intro _ i c hc;simp at hc|cons x cs ih=>intro hl i c hc;cases i with|zero=>simp only[q72,qr]at hc;subst hc;exact hl.1|succ i=>exact ih hl.2 i c (by simpa using hc)
    have hcc:lr os c:=hlc h3 i c hci;have hcv:mF os c:=by cases c<;>first|exact hcc|exact hcc.elim
    exact(hc i c u hci hui).2.live hS hD hcv|arr e rows=>obtain⟨inf,us,hi,how,hr,hc⟩:=hh;refine⟨inf,us,hi,by show w.ownsRow 0 e inf.size (pF β st.aa t) _ _;rw[hbt];exact how,hr,fun i j r p h1 h2=>?_⟩;obtain⟨u,hu,hone,hp⟩:=hc i j r p h1 h2;exact⟨u,hu,hone,hp.mono fun b hb=>⟨hS b hb,rfl⟩⟩|map es=>obtain⟨b,us,cl,hp,hhp,hl,hc⟩:=hh;exact⟨b,us,cl,hbt.trans hp,hhp,hl,fun i e u h1 h2=>⟨(hc i e u h1 h2).1,(hc i e u h1 h2).2.mono (fun b hb=>⟨hS b hb,rfl⟩) fun _ hf=>hf.elim⟩⟩|kk es=>exact bE.mono (D:=fun _=>False) (show bE P _ w β (fun _=>False) t (.kk es) from hh) (fun b hb=>⟨hS b hb,rfl⟩) (fun _ hf=>hf.elim) hbt (fun _ _=>rfl)|yJ rem cur=>exact bE.mono (D:=fun _=>False) (show bE P _ w β (fun _=>False) t (.yJ rem cur) from hh) (fun b hb=>⟨hS b hb,rfl⟩) (fun _ hf=>hf.elim) hbt (fun _ _=>rfl)|rws e cs=>
    obtain⟨inf,us,hi,h1s,how,hc⟩:=hh;refine⟨inf,us,hi,h1s,by rw[hbt];exact how,fun i c u hci hui=>⟨(hc i c u hci hui).1,?_⟩⟩;have hlc:∀{cs:List AV},iq os cs->∀(i:Nat) (c:AV),cs[i]?=some c->lr os c:=by intro cs;induction cs with|nil=>intro _ i c hc;simp at hc|cons x cs ih=>intro hl i c hc;cases i with|zero=>simp only[q72,qr]at hc;subst hc;exact hl.1|succ i=>exact ih hl.2 i c (by simpa using hc)
    have hcc:lr os c:=hlc h3 i c hci;have hcv:mF os c:=by cases c<;>first|exact hcc|exact hcc.elim
    exact(hc i c u hci hui).2.live hS hD hcv
  ·obtain⟨inf,hi⟩:=q124.1 h4;refine⟨inf,[],hi,?_,fun r hr=>by simp at hr,fun i j r p hr=>by simp at hr⟩;show w.ownsRow 0 e inf.size (pF β st.aa t) _ _;rw[hnew t h3];exact q188 w 0 e inf.size
 ·obtain⟨d1,b1⟩:=hblk t b ht hb;obtain⟨d2,b2⟩:=hblk t' b ht' hb';exact h.heap.inj t t' b d1 d2 b1 b2
 ·obtain⟨d1,b1⟩:=hblk t b ht hb;exact h.old t b d1 b1
 ·obtain⟨o,hot⟩:=ht;rcases uO ho t o (ry hot) with⟨h1,_,_⟩|⟨_,_,_,_,_,h6⟩;·rw[hold t ⟨o,h1⟩];exact h.Ar t h9 ⟨o,h1⟩
  ·exact absurd h9 h6
end
def vS {P:Program}{Γ:b7} (hΓ:eG P Γ) {S0 L:Nat->Prop}{B0:Nat->Value} (hL:∀b,L b->S0 b) {w0:World}{N:Nat} (hm:P.follows .mixedOrders=true) (bU:List Nat):∀(c:Code) (b:AC),comp P N c=some b->∀(K:St->Prop) (J:Exit->St->Prop) (Q:Exit->Act->World->Prop) (st:St) (a:Act) (w:World) (β:Nat->Value),(∀st a w β,K st->Rel P S0 L B0 w0 N st a w β->Q .normal a w)->(∀st a w β id,J (.exit id) st->Rel P S0 L B0 w0 N st a w β->Q (.exit id) a w)->(∀st a w β,J .ret st->Rel P S0 L B0 w0 N st a w β->Q .ret a w)->Rel P S0 L B0 w0 N st a w β->jn P Γ (iB bU b) K J st->c.wp P Q a w:=by intro c;induction c with
 |skip=>intro b hb K J Q st a w β hK _ _ h hs;simp only[comp,qr]at hb;subst hb;exact wp_skip (hK _ _ _ _ hs h)|region id ops draw=>intro b hb K J Q st a w β hK _ _ h hs;exact BG hL hΓ hm hb h hK hs|seq x y ihx ihy=>
  intro b hb K J Q st a w β hK hE hR h hs;simp only[comp]at hb;split at hb
  ·rename_i bx by' hx hy;simp only[qr]at hb;subst hb;refine wp_seq (ihx bx hx (fun st'=>jn P Γ (iB bU by') K J st') J _ st a w β ?_ ?_ ?_ h hs);·intro st a w β hv hr;exact ihy by' hy K J Q st a w β hK hE hR hr hv
   ·exact fun st a w β id hj hr=>hE st a w β id hj hr
   ·exact fun st a w β hj hr=>hR st a w β hj hr
  ·cases hb|cond x c1 c2 ih1 ih2=>
  intro b hb K J Q st a w β hK hE hR h hs;simp only[comp]at hb;split at hb
  ·rename_i b1 b2 h1 h2;simp only[qr]at hb;subst hb;obtain⟨t,ht,hc1,hc2⟩:=af (show aj _ _ from hs);have hx:=h.ev x;generalize Ab.ev st.vars x=X at ht hx;have hxe:a.eval x=.bool t:=by cases X with|pv p=>cases p<;>simp[jX]at ht;subst ht;exact hx.fj|_=>simp[jX]at ht
   exact wp_cond_split hxe (fun e=>ih1 b1 h1 K J Q st a w β hK hE hR h (hc1 e)) (fun e=>ih2 b2 h2 K J Q st a w β hK hE hR h (hc2 e))
  ·cases hb|block id x ih=>
  intro b hb K J Q st a w β hK hE hR h hs;simp only[comp]at hb;obtain⟨b1,h1,rfl⟩:=q900.1 hb;refine wp_block (ih b1 h1 K (qH id K J) _ st a w β hK ?_ ?_ h hs)
  ·intro st a w β id' hj hr;simp only[qH]at hj;simp only[Exit.inBlock];split at hj;·rename_i e;rw[if_pos e];exact hK _ _ _ _ hj hr
   ·rename_i e;rw[if_neg e];exact hE _ _ _ _ _ hj hr
  ·exact fun st a w β hj hr=>hR st a w β hj hr|loop x ih=>
  intro b hb K J Q st a w β hK hE hR h hs;simp only[comp]at hb;obtain⟨b1,h1,rfl⟩:=q900.1 hb;obtain⟨ι,F,μ,ad,shs,i0,hw,hround⟩:=hs;obtain⟨β0,h0⟩:=Dv (h.cP hL _) hw;refine wp_loop_ghost (fun n a w=>∃i β,μ i=n/\Rel P S0 L B0 w0 N (F i).st a w β) (μ i0) ⟨i0,β0,rfl,h0⟩ ?_;rintro n a w ⟨i,β,rfl,hr⟩;refine ih b1 h1 _ J _ (F i).st a w β ?_ ?_ ?_ hr (hround i);·rintro st a w β ⟨i',hw',hlt⟩ hr;obtain⟨β',hr'⟩:=Dv (hr.cP hL _) hw';exact⟨μ i',hlt,i',β',rfl,hr'⟩
  ·exact fun st a w β id hj hr=>hE st a w β id hj hr
  ·exact fun st a w β hj hr=>hR st a w β hj hr|exit id=>intro b hb K J Q st a w β hK hE hR h hs;simp only[comp,qr]at hb;subst hb;exact wp_exit (hE _ _ _ _ _ hs h)|ret=>intro b hb K J Q st a w β hK hE hR h hs;simp only[comp,qr]at hb;subst hb;exact wp_ret (hR _ _ _ _ hs h)|scope x ih=>
  intro b hb K J Q st a w β hK hE hR h hs;simp only[comp]at hb;refine wp_scope_straight (ih b hb K J _ st a w β ?_ ?_ ?_ h hs);·exact fun st a w β hj hr=>hK st a w β hj hr
  ·exact fun st a w β id hj hr=>hE st a w β id hj hr
  ·exact fun st a w β hj hr=>hR st a w β hj hr|label l=>intro b hb K J Q st a w β hK _ _ h hs;simp only[comp,qr]at hb;subst hb;exact wp_label (hK _ _ _ _ hs h)|_=>intro b hb;simp[comp]at hb
end Go.Proofs.YtifcndkhigakfaaGreat.Ab
