/- The abstract machine is sound: a call of a function that takes objects whole, or borrows them. -/
import Derived.Test.YtlmkcmfmfahcfaaGreatX4
import Derived.Laws.StructEq
import Derived.MapKept
import Derived.Lib.LazyBuf
import Derived.Laws.Externs
import Derived.Lib.AppendZeros
import Derived.Laws.MakeOwn
set_option linter.unusedVariables false
set_option linter.unusedSimpArgs false
set_option linter.unnecessarySimpa false
set_option maxHeartbeats 40000000
set_option maxRecDepth 100000
namespace Go.Proofs.YtlmkcmfmfahcfaaGreat.Ab
open Go Go.RowKit
section
variable{P:Program}{S S':Nat→Prop}{w w':World}{β β':Nat→Value}{D D':Nat→Prop}{aa objs':Nat→Option AO}
theorem HT.mono (hS:∀b,S b→S' b) {v:Value}{y:AV}{bs:List Nat} (h:HT P S w v y bs):HT P S' w v y bs:=by have hS2:∀b,S b→S' b∧w.heap[b]?=w.heap[b]?:=fun b hb=>⟨hS b hb,rfl⟩;induction h with|leaf v y h=>exact .leaf v y (h.mono hS2 fun _ hf=>hf.elim)|fr v e rows inf us h1 h2 h3 h4=>exact .fr v e rows inf us h1 h2 h3 fun i j r p a b=>by obtain⟨u,c,d,e⟩:=h4 i j r p a b;exact⟨u,c,d,e.mono hS2⟩|mf b us c es h1 hst h2 h3=>exact .mf b us c es h1 hst h2 fun i e u a b=>⟨(h3 i e u a b).1,(h3 i e u a b).2.1,(h3 i e u a b).2.2.1,(h3 i e u a b).2.2.2.mono hS2⟩|bx b us ty cs bss h1 h2 h3 h4 h5 ih=>exact .bx b us ty cs bss h1 h2 h3 h4 ih|agg us cs bss h1 h2 h3 ih=>exact .agg us cs bss h1 h2 ih|aL us cs bss h1 h2 h3 ih=>exact .aL us cs bss h1 h2 ih
theorem oq:∀(n:Nat) {v:Value}{y:AV},gf n y→RV P S w (fun _=>undef) (fun _=>False) v y→RV P S' w (fun _=>undef) (fun _=>False) v y
 |0,_,_,h,_=>h.elim|n+1,v,y,h,hv=>by
  unfold gf at h;split at h;·cases hv
  ·cases hv
  ·cases hv
  ·obtain⟨us,rfl,hl,hc⟩:=hv.cV;exact .agg _ us hl fun i c u a b=>oq n (h c (List.mem_of_getElem? a)) (hc i c u a b)
  ·obtain⟨us,rfl,hl,hc⟩:=hv.lh;exact .aL _ us hl fun i c u a b=>oq n (h c (List.mem_of_getElem? a)) (hc i c u a b)
  ·exact .pv _ _ (eB hv.bk h)
  ·obtain⟨us,rfl,hl,_⟩:=hv.lg;exact .bA _ [] us hl fun i c u hc=>by simp at hc
  ·exact h.elim
theorem HT.flat:∀(n:Nat) {v:Value}{y:AV}{bs:List Nat},gf n y→HT P S w v y bs→HT P S' w v y bs|0,_,_,_,h,_=>h.elim|n+1,v,y,bs,hf,h=>by cases h with|leaf v y h=>exact .leaf v y (oq (n+1) hf h)|fr v e rows inf us h1 h2 h3 h4=>exact .fr v e rows inf us h1 h2 h3 fun i j r p a b=>by obtain⟨u,c,d,e⟩:=h4 i j r p a b;exact⟨u,c,d,eB e (hf r (List.mem_of_getElem? a) p (List.mem_of_getElem? b))⟩|mf b us c es h1 hst h2 h3=>exact .mf b us c es h1 hst h2 fun i e u a b=>⟨(h3 i e u a b).1,(h3 i e u a b).2.1,(h3 i e u a b).2.2.1,eB (h3 i e u a b).2.2.2 (hf e (List.mem_of_getElem? a))⟩|bx b us ty cs bss h1 h2 h3 h4 h5=>exact .bx b us ty cs bss h1 h2 h3 h4 fun i c u bs a b d=>HT.flat n (hf c (List.mem_of_getElem? a)) (h5 i c u bs a b d)|agg us cs bss h1 h2 h3=>exact .agg us cs bss h1 h2 fun i c u bs a b d=>HT.flat n (hf c (List.mem_of_getElem? a)) (h3 i c u bs a b d)|aL us cs bss h1 h2 h3=>exact .aL us cs bss h1 h2 fun i c u bs a b d=>HT.flat n (hf c (List.mem_of_getElem? a)) (h3 i c u bs a b d)
theorem ry:∀(n:Nat) {x:AV}{r:AV×List Nat},rd n aa x=some r→(∀t∈r.2,ay aa t)∧∀l,r.1≠.aL l
 |0,_,_,h=>by cases h|n+1,x,r,h=>by
  have lst:∀{l:List AV}{q:List AV×List Nat},Ex (rd n aa) l=some q→∀t∈q.2,ay aa t:=by intro l;induction l with|nil=>intro q h;cases h;intro t ht;simp at ht|cons c l ih=>
   intro q h t ht;obtain⟨r,hr,h⟩:=Option.bind_eq_some_iff.1 h;obtain⟨q',hq,rfl⟩:=Option.map_eq_some_iff.1 h;rcases List.mem_append.1 ht with ht|ht;·exact(ry n hr).1 t ht
   ·exact ih hq t ht
  unfold rd at h;split at h
  ·rename_i t;obtain⟨y,hy,rfl⟩:=Option.map_eq_some_iff.1 h;unfold Oj at hy;split at hy;·rename_i ho;cases hy;exact⟨fun s hs=>by simp only[List.mem_singleton]at hs;rw[hs];exact⟨_,ho⟩,fun l e=>by cases e⟩
   ·rename_i ho;cases hy;exact⟨fun s hs=>by simp only[List.mem_singleton]at hs;rw[hs];exact⟨_,ho⟩,fun l e=>by cases e⟩
   ·cases hy
  ·obtain⟨cs,hc,h⟩:=Option.bind_eq_some_iff.1 h;obtain⟨q,hq,rfl⟩:=Option.map_eq_some_iff.1 h;refine⟨fun s hs=>?_,fun l e=>by cases e⟩;rcases List.mem_cons.1 hs with rfl|hs;·exact⟨_,eM hc⟩
   ·exact lst hq s hs
  ·obtain⟨q,hq,rfl⟩:=Option.map_eq_some_iff.1 h;exact⟨lst hq,fun l e=>by cases e⟩
  ·cases h;exact⟨fun t ht=>by simp at ht,fun l e=>by cases e⟩
  ·cases h;exact⟨fun t ht=>by simp at ht,fun l e=>by cases e⟩
  ·cases h;exact⟨fun t ht=>by simp at ht,fun l e=>by cases e⟩
  ·cases h
theorem JC {x y:AV} (h:m7 aa x=some y):∀l,y≠.aL l:=by
 intro l e;subst e;have h1:∀x,ey aa x≠some (.aL l):=by
  intro x h;unfold ey at h;split at h;·obtain⟨_,_,h⟩:=Option.bind_eq_some_iff.1 h;obtain⟨_,_,h⟩:=Option.map_eq_some_iff.1 h;cases h
  ·cases h
  ·obtain⟨_,_,h⟩:=Option.map_eq_some_iff.1 h;cases h
  ·cases h
  ·obtain⟨_,_,h⟩:=Option.map_eq_some_iff.1 h;cases h
 unfold m7 at h;split at h;·obtain⟨_,_,h⟩:=Option.map_eq_some_iff.1 h;cases h
 ·exact h1 _ h
theorem Dp {y:AV} (h:∀l,y≠.aL l):EE y=false∧EK y=y:=by cases y<;>first|exact⟨rfl,rfl⟩|exact absurd rfl (h _)
theorem D7 (hh:Heap P S w β aa) (hS:∀b,S b→S' b) {T:List Nat} (hh':Heap P S w β objs') (hw:∀{v x},RV P S w β (ay aa) v x→RV P S w β (ay objs') v (er T x)):∀{ks:List Nat}{xs ys:List AV}{vals:List Value},BO aa objs' T ks xs=some ys→vals.length=xs.length→(∀(i:Nat) (v:Value) (x:AV),vals[i]?=some v→xs[i]?=some x→RV P S w β (ay aa) v x)→(ej T ks xs=true∨∀t b,ay objs' t→b9 (β t)=some b→S' b)→∃bss,Ct P S' w vals (ys.map EK) bss∧bss.flatten=cR β (eE aa ks xs)∧(∀t∈eE aa ks xs,ay aa t)∧(dX ys vals).length=(dS ks xs).length∧∀(i:Nat) (c:AV) (u:Value),(dS ks xs)[i]?=some c→(dX ys vals)[i]?=some u→RV P S w β (ay aa) u c
 |[],[],ys,vals,h,hl,_,_=>by cases h;cases vals with|nil=>exact⟨[],⟨rfl,rfl,fun i y v bs h=>by simp at h⟩,rfl,fun t ht=>by simp[eE]at ht,rfl,fun i c u hc=>by simp[dS]at hc⟩|cons v vs=>simp at hl
 |[],_::_,_,_,h,_,_,_=>by cases h|_::_,[],_,_,h,_,_,_=>by cases h|k::ks,x::xs,ys,vals,h,hl,hv,hp=>by obtain⟨y,hy,h⟩:=Option.bind_eq_some_iff.1 h;obtain⟨ys,hys,rfl⟩:=Option.map_eq_some_iff.1 h;match vals,hl with
  |v::vals,hl=>
   have hp':(k !=0||dC (er T x))=true∧ej T ks xs=true∨∀t b,ay objs' t→b9 (β t)=some b→S' b:=by
    rcases hp with h|h;·left;simpa[ej]using h
    ·exact .inr h
   obtain⟨bss,⟨l1,l2,hts⟩,hfl,hdm,hln,hlv⟩:=D7 hh hS hh' hw hys (by simpa using hl) (fun i v x a b=>hv (i+1) v x (by simpa using a) (by simpa using b)) (hp'.imp And.right id);have hvx:=hv 0 v x rfl rfl;have one:∃bs,HT P S' w v (EK y) bs∧bs=cR β (if k=0 then[] else((rd 5 aa x).map (·.2)).getD [])∧(∀t∈(if k=0 then[] else((rd 5 aa x).map (·.2)).getD []),ay aa t)∧(EE y=true↔1<k):=by
    by_cases h0:k=0;·subst h0;simp only[if_true]at hy ⊢;obtain⟨e1,e2⟩:=Dp (JC hy);refine⟨[],.leaf _ _ ?_,rfl,fun t ht=>by simp at ht,by rw[e1];simp⟩;rw[e2];exact ot hh' hS (hw hvx) hy (hp'.imp (fun h=>by simpa using h.1) id)
    ·simp only[if_neg h0]at hy ⊢;by_cases h1:k=1;·subst h1;simp only[if_true]at hy;obtain⟨r,hr,rfl⟩:=Option.map_eq_some_iff.1 hy;obtain⟨e1,e2⟩:=Dp (ry 5 hr).2;obtain⟨m1,m2⟩:=Aa (P:=P) 5 hr;refine⟨_,kj hh hS 5 (y:=EK r.1) (by rw[e2];exact m1) hvx,by rw[hr,m2];rfl,fun t ht=>(ry 5 hr).1 t (by simpa[hr]using ht),by rw[e1];simp⟩
     ·simp only[if_neg h1]at hy;obtain⟨r,hr,rfl⟩:=Option.map_eq_some_iff.1 hy;obtain⟨m1,m2⟩:=Aa (P:=P) 5 hr;refine⟨_,kj hh hS 5 (y:=EK (.aL [r.1])) m1 hvx,by rw[hr,m2];rfl,fun t ht=>(ry 5 hr).1 t (by simpa[hr]using ht),by simp only[EE,true_iff];omega⟩
   obtain⟨bs,hbt,rfl,hbd,hk⟩:=one;refine⟨_::bss,⟨by simpa using l1,by simpa using l2,fun i y' v' bs' a b c=>?_⟩,by rw[List.flatten_cons,hfl];exact(eC β _ _).symm,fun t ht=>?_,?_,fun i c u=>?_⟩;·cases i with|zero=>simp only[List.map_cons,List.getElem?_cons_zero,Option.some.injEq]at a b c;rw[←a,←b,←c];exact hbt|succ i=>exact hts i y' v' bs' (by simpa using a) (by simpa using b) (by simpa using c)
   ·rcases List.mem_append.1 ht with ht|ht;·exact hbd t ht
    ·exact hdm t ht
   ·by_cases hc:1<k;·simp only[dX,hk.2 hc,dS,hc,if_true,List.length_cons,hln]
    ·have:EE y=false:=by cases he:EE y with|false=>rfl|true=>exact absurd (hk.1 he) hc
     simp only[dX,this,dS,hc,if_false,hln,Bool.false_eq_true]
   ·by_cases hc:1<k;·simp only[dX,hk.2 hc,dS,hc,if_true];intro a b;cases i with|zero=>simp only[List.getElem?_cons_zero,Option.some.injEq]at a b;rw[←a,←b];exact hvx|succ i=>exact hlv i c u (by simpa using a) (by simpa using b)
    ·have:EE y=false:=by cases he:EE y with|false=>rfl|true=>exact absurd (hk.1 he) hc
     simp only[dX,this,dS,hc,if_false,Bool.false_eq_true];exact hlv i c u
theorem Ah {D':Nat→Prop}{u:Value}{c:AV} (h:RV P S w β D u c) (h':RV P S' w' β' D' u c):∀t∈pP c,β' t=β t∧D' t:=by
 intro t ht;unfold pP at ht;split at ht;·simp only[List.mem_singleton]at ht;subst ht;exact⟨h'.aS.1.symm.trans h.aS.1,h'.aS.2⟩
 ·simp only[List.mem_singleton]at ht;subst ht;obtain⟨b,e1,_,hb⟩:=h.dF;obtain⟨b',e2,hd,hb'⟩:=h'.dF;rw[hb,hb',←e1,←e2];exact⟨rfl,hd⟩
 ·simp at ht
theorem FQ {D':Nat→Prop}{u:Value}{c:AV} (h:RV P S w β D u c) (h':RV P S' w' β' D' u c):∀t∈pM c,β' t=β t∧D' t:=by
 by_cases hx:∃cs,c=.agg cs
 ·obtain⟨cs,rfl⟩:=hx;intro t ht;obtain⟨c,hc,ht⟩:=List.mem_flatMap.1 ht;obtain⟨us,rfl,hl,hcs⟩:=h.cV;obtain⟨us',e,hl',hcs'⟩:=h'.cV;have:us=us':=by simpa using e
  subst this;obtain⟨i,hi⟩:=List.getElem?_of_mem hc;have hlt:i<us.length:=by rw[hl];exact(List.getElem?_eq_some_iff.1 hi).1
  exact Ah (hcs i c _ hi (List.getElem?_eq_getElem hlt)) (hcs' i c _ hi (List.getElem?_eq_getElem hlt)) t ht
 ·have:pM c=pP c:=by cases c<;>first|rfl|exact absurd ⟨_,rfl⟩ hx
  rw[this];exact Ah h h'
theorem Ct.snoc {vs:List Value}{ys:List AV}{v:Value}{y:AV}{bss:List (List Nat)} (h:Ct P S w (vs++[v]) (ys++[y]) bss) (hl:vs.length=ys.length):∃b1 bl,bss=b1++[bl]∧Ct P S w vs ys b1∧HT P S w v y bl:=by
 obtain⟨h1,h2,h3⟩:=h;have hl2:bss.length=ys.length+1:=by simpa using h2
 have hne:bss≠[]:=by intro e;rw[e]at hl2;simp at hl2
 obtain⟨b1,bl,rfl⟩:∃b1 bl,bss=b1++[bl]:=⟨bss.dropLast,bss.getLast hne,(List.dropLast_concat_getLast hne).symm⟩;have hb1:b1.length=ys.length:=by simpa using hl2
 refine⟨b1,bl,rfl,⟨hl,hb1,fun i y' v' bs a b c=>?_⟩,h3 ys.length y v bl (by simp) (by rw[←hl];simp) (by rw[←hb1];simp)⟩;have k1:=(List.getElem?_eq_some_iff.1 a).1;exact h3 i y' v' bs (by rw[List.getElem?_append_left k1];exact a) (by rw[List.getElem?_append_left (by omega)];exact b) (by rw[List.getElem?_append_left (by omega)];exact c)
end
theorem uD {aa:Nat→Option AO}:∀(ks:List Nat) (xs:List AV) (t:Nat),t∈eE aa ks xs→ay aa t
 |[],_,_,ht=>by simp[eE]at ht|_::_,[],_,ht=>by simp[eE]at ht|k::ks,x::xs,t,ht=>by
  rcases List.mem_append.1 ht with ht|ht
  ·by_cases h0:k=0;·simp[h0]at ht
   ·rw[if_neg h0]at ht;cases hr:rd 5 aa x with|none=>rw[hr]at ht;simp at ht|some r=>rw[hr]at ht;exact(ry 5 hr).1 t (by simpa using ht)
  ·exact uD ks xs t ht
theorem jl:∀{os:List (Nat×AO)}{t:Nat}{o:AO},ab os t=some o→(t,o)∈os
 |[],_,_,h=>by cases h|(s,o')::os,t,o,h=>by
  simp only[ab]at h;split at h;·rename_i e;cases h;rw[e];exact List.mem_cons_self
  ·exact List.mem_cons_of_mem _ (jl h)
theorem lv:∀{os:List (Nat×AO)}{p:Nat×AO},p∈os→∃o,ab os p.1=some o
 |[],_,h=>by simp at h|(s,o')::os,p,h=>by
  simp only[ab];split;·exact⟨o',rfl⟩
  ·rename_i hne;rcases List.mem_cons.1 h with rfl|h;·exact absurd rfl hne
   ·exact lv h
section
variable{P:Program}{S0 L:Nat→Prop}{B0:Nat→Value}{w0 w:World}{N:Nat}{st:St}{a:Act}{β:Nat→Value}
theorem DJ {T:List Nat} (hL:T≠[]→∀b,L b→S0 b) (h:Rel P S0 L B0 w0 N st a w β) {f:FuncId}{d:Nat} (hd9:d%1000≠999) {ks:List Nat}{vals:List Value}{xs ys:List AV}{x:AV}{Q W:List Nat} (hl:vals.length=xs.length) (hv:∀(i:Nat) (v:Value) (x:AV),vals[i]?=some v→xs[i]?=some x→RV P (aN S0 w0.heap.size β st.aa w) w β (ay st.aa) v x) (hT:T=eE st.aa ks xs) (hQ:Q=(dS ks xs).flatMap pM) (hW:W=T.filter fun t=>!Q.contains t) (hTn:T.Nodup) (hQT:∀t∈Q,t∈T) (hQn:(Q++mY d T W).Nodup) (hys:BO st.aa (ef T T st.aa) T ks xs=some ys) (hcon:yL P f ys x) (hpf:ej T ks xs=true∨∀y∈jY x++[jA x],gf 5 y) {o:List AV×List (Nat×AO)×List Nat×List Nat} (ho:mh (num 5 true) (jY x) (Q,mY d T W)=some o) (ho1:o.1=dS ks xs) {r:AV×List (Nat×AO)×List Nat×List Nat} (hr:num 5 false (jA x) o.2.2=some r) (hfree:∀p∈o.2.1++r.2.1,T.contains p.1=true∨st.aa p.1=none):Calls P f vals.toArray w fun e w'=>∃v β',e=.returned v∧Rel P S0 L B0 w0 N ⟨fX W st.vars,bn (o.2.1++r.2.1) (ef T W st.aa)⟩ a w' β'∧RV P (aN S0 w0.heap.size β' (bn (o.2.1++r.2.1) (ef T W st.aa)) w') w' β' (ay (bn (o.2.1++r.2.1) (ef T W st.aa))) v r.1:=by classical
 let S:=aN S0 w0.heap.size β st.aa w;have hTd:∀t∈T,ay st.aa t:=by intro t ht;rw[hT]at ht;exact uD _ _ t ht
 have hTlive:∀b∈cR β T,live β st.aa b∧b<w.heap.size:=by intro b hb;obtain⟨t,ht,hb⟩:=List.mem_filterMap.1 hb;obtain⟨o,ho⟩:=hTd t ht;exact⟨⟨t,o,ho,hb⟩,h.lt ⟨o,ho⟩ hb⟩
 have hTinj:∀t b,ay st.aa t→t∉T→b9 (β t)=some b→b∉cR β T:=by intro t b ht hn hb hm;obtain⟨s,hs,hb'⟩:=List.mem_filterMap.1 hm;exact hn (h.heap.inj t s b ht (hTd s hs) hb hb'▸hs)
 have hTnd:(cR β T).Nodup:=by
  have:∀l:List Nat,l.Nodup→(∀t∈l,ay st.aa t)→(cR β l).Nodup:=by intro l;induction l with|nil=>intro _ _;exact List.nodup_nil|cons t l ih=>
   intro hn hd;rw[List.nodup_cons]at hn;have e:cR β (t::l)=(b9 (β t)).toList++cR β l:=by rw[←iX];exact eC β [t] l
   rw[e];cases hb:b9 (β t) with|none=>exact ih hn.2 fun t ht=>hd t (List.mem_cons_of_mem _ ht)|some b=>show(b::cR β l).Nodup;rw[List.nodup_cons];refine⟨fun hm=>?_,ih hn.2 fun t ht=>hd t (List.mem_cons_of_mem _ ht)⟩;obtain⟨s,hs,hb'⟩:=List.mem_filterMap.1 hm;exact hn.1 (h.heap.inj t s b (hd t List.mem_cons_self) (hd s (List.mem_cons_of_mem _ hs)) hb hb'▸hs)
  exact this T hTn hTd
 have hcT:∀t,T.contains t=true↔t∈T:=fun t=>by simp
 have hdom':∀t,ay (ef T T st.aa) t↔(t∉T∧ay st.aa t):=by
  intro t;simp only[ay,ef];constructor
  ·rintro⟨o,ho⟩;split at ho;·cases ho
   ·rename_i hc;obtain⟨o',ho',_⟩:=Option.map_eq_some_iff.1 ho;exact⟨fun hm=>hc ((hcT t).2 hm),o',ho'⟩
  ·rintro⟨hn,o,ho⟩;exact⟨iD T o,by rw[if_neg (fun hc=>hn ((hcT t).1 hc)),ho];rfl⟩
 have hDw:∀s,ay st.aa s→T.contains s=false→ay (ef T T st.aa) s∧β s=β s:=fun s hs hc=>⟨(hdom' s).2 ⟨fun hm=>absurd ((hcT s).2 hm) (by rw[hc];exact Bool.false_ne_true),hs⟩,rfl⟩;have hwp:∀{v x},RV P S w β (ay st.aa) v x→RV P S w β (ay (ef T T st.aa)) v (er T x):=fun hx=>hx.er (fun b hb=>⟨hb,rfl⟩) hDw;have hh':Heap P S w β (ef T T st.aa):=by
  refine⟨fun t o ht=>?_,fun t t' b ht ht'=>h.heap.inj t t' b ((hdom' t).1 ht).2 ((hdom' t').1 ht').2⟩;simp only[ef]at ht;split at ht;·cases ht
  ·obtain⟨o',ho',rfl⟩:=Option.map_eq_some_iff.1 ht;exact(h.heap.holds t o' ho').er (fun b hb=>⟨hb,rfl⟩) hDw rfl (fun _ _=>rfl)
 obtain⟨S1,hS1,hS1b,hcase⟩:∃S1:Nat→Prop,(∀b,S b→S1 b)∧(∀b,S1 b→b<w.heap.size∧b∉cR β T)∧((ej T ks xs=true∧S1=S)∨((∀y∈jY x++[jA x],gf 5 y)∧∀b,b<w.heap.size→b∉cR β T→S1 b)):=by
  have hSb:∀b,S b→b<w.heap.size∧b∉cR β T:=fun b hb=>⟨hb.2.1,fun hm=>hb.2.2 (hTlive b hm).1⟩;rcases hpf with hp|hp;·exact⟨S,fun b hb=>hb,hSb,.inl ⟨hp,rfl⟩⟩
  ·exact⟨fun b=>b<w.heap.size∧b∉cR β T,hSb,fun b hb=>hb,.inr ⟨hp,fun b h1 h2=>⟨h1,h2⟩⟩⟩
 obtain⟨bss,hts,hbs,_,hln,hlv⟩:=D7 h.heap hS1 hh' hwp hys hl hv (hcase.imp And.left fun hc t b ht hb=>hc.2 b (h.lt ((hdom' t).1 ht).2 hb) (hTinj t b ((hdom' t).1 ht).2 ((hdom' t).1 ht).1 hb));rw[←hT]at hbs;refine(hcon w S1 vals bss (fun b hb=>by rw[hbs];exact hS1b b hb) (by rw[hbs];exact hTnd) hts).mono ?_;rw[hbs];rintro e w' ⟨v,bss',rfl,hfr,hnd,hloc,hres⟩;let S3:Nat→Prop:=fun b=>(S0 b∨w0.heap.size≤b)∧b<w'.heap.size∧b∉bss'.flatten∧¬∃t,ay st.aa t∧t∉T∧b9 (β t)=some b;have hTold:∀b∈cR β T,S0 b∨w0.heap.size≤b:=by intro b hb;obtain⟨t,ht,hb⟩:=List.mem_filterMap.1 hb;exact(h.old t b (hTd t ht) hb).elim .inr fun hl=>.inl (hL (fun e=>by rw[e]at ht;cases ht) b hl)
 have hres3:Ct P S3 w' (dX ys vals++[v]) (jY x++[jA x]) bss':=by
  refine⟨hres.1,hres.2.1,fun i y u bs a1 a2 a3=>?_⟩;have hx:=hres.2.2 i y u bs a1 a2 a3;rcases hcase with⟨_,hSe⟩|⟨hfl,_⟩
  ·refine hx.mono ?_;rw[hSe];rintro b ⟨h1,h2,h3⟩;refine⟨?_,h2,h3,?_⟩
   ·rcases h1 with h1|h1|h1;·exact h1.1
    ·exact hTold b h1
    ·exact .inr (Nat.le_trans h.bM.size h1)
   ·rintro⟨t,ht,hn,hb⟩;rcases h1 with h1|h1|h1;·obtain⟨o,ho⟩:=ht;exact h1.2.2 ⟨t,o,ho,hb⟩
    ·exact hTinj t b ht hn hb h1
    ·have:=h.lt ht hb;omega
  ·exact hx.flat 5 (hfl y (List.mem_of_getElem? a1))
 obtain⟨p1,n1,l1⟩:=mJ (P:=P) (S:=S3) (S':=S3) (w:=w') (nX (fun b hb=>hb) 5 true) (jY x) _ o ho;obtain⟨p2,l2⟩:=nX (P:=P) (S:=S3) (S':=S3) (w:=w') (fun b hb=>hb) 5 false _ _ r hr;have hlen:(dX ys vals).length=(jY x).length:=by rw[hln,←ho1,n1]
 obtain⟨b1,bl,rfl,ht1,ht2⟩:=hres3.snoc hlen;rw[List.flatten_append,List.nodup_append]at hnd;have ebl:[bl].flatten=bl:=by simp
 rw[ebl]at hnd;have hsn:=p1.nodup_iff.2 hQn;rw[List.nodup_append]at hsn;have k1:=l1 (dX ys vals) b1 ht1 hnd.1 hQn;have k2:=l2 v bl ht2 hnd.2.1 hsn.2.1;have hsub2:∀p∈r.2.1,p.1∈o.2.2.1++o.2.2.2:=fun p hp=>p2.mem_iff.1 (List.mem_append_left _ (List.mem_map_of_mem hp));obtain⟨βn,c1,c2,c3⟩:=k1.append k2 (fun b hb hb'=>hnd.2.2 b hb b hb' rfl) fun p hp q hq e=>hsn.2.2 _ (List.mem_map_of_mem hp) _ (hsub2 q hq) e;have ebs:(b1++[bl]).flatten=b1.flatten++bl:=by rw[List.flatten_append,ebl]
 rw[ebs]at hloc;have htag:∀p∈o.2.1++r.2.1,p.1∈Q++mY d T W:=by
  intro p hp;rcases List.mem_append.1 hp with hp|hp;·exact p1.mem_iff.1 (List.mem_append_left _ (List.mem_map_of_mem hp))
  ·exact p1.mem_iff.1 (List.mem_append_right _ (hsub2 p hp))
 generalize hos:o.2.1++r.2.1=os at*;let β2:Nat→Value:=fun t=>if∃p∈os,p.1=t then βn t else β t;let objs2:Nat→Option AO:=bn os (ef T W st.aa);have hβn:∀p∈os,β2 p.1=βn p.1:=fun p hp=>if_pos ⟨p,hp,rfl⟩;have hβo:∀t,(∀p∈os,p.1≠t)→β2 t=β t:=fun t ht=>if_neg fun⟨p,hp,e⟩=>ht p hp e;have hobj:∀t o',objs2 t=some o'→((t,o')∈os)∨((∀p∈os,p.1≠t)∧t∉T∧∃o0,st.aa t=some o0∧o'=iD W o0):=by intro t o' ho';simp only[objs2,bn]at ho';cases hlk:ab os t with|some o1=>rw[hlk]at ho';cases ho';exact .inl (jl hlk)|none=>
  rw[hlk]at ho';simp only[ef]at ho';split at ho';·cases ho'
  ·rename_i hc;obtain⟨o0,h0,rfl⟩:=Option.map_eq_some_iff.1 ho';refine .inr ⟨fun p hp e=>?_,fun hm=>hc ((hcT t).2 hm),o0,h0,rfl⟩;obtain⟨o1,h1⟩:=lv hp;rw[e,hlk]at h1;cases h1
 have hdn:∀p∈os,ay objs2 p.1:=fun p hp=>by obtain⟨o1,h1⟩:=lv hp;exact⟨o1,by simp only[objs2,bn,h1]⟩
 have hdo:∀t,ay st.aa t→t∉T→ay objs2 t∧β2 t=β t:=by
  rintro t ⟨o0,h0⟩ hn;have hne:∀p∈os,p.1≠t:=fun p hp e=>by
   rcases hfree p hp with hc|hc;·exact hn (e▸(hcT _).1 hc)
   ·rw[e,h0]at hc;cases hc
  refine⟨?_,hβo t hne⟩;cases hlk:ab os t with|some o1=>exact absurd rfl (hne (t,o1) (jl hlk))|none=>exact⟨iD W o0,by simp only[objs2,bn,hlk,ef];rw[if_neg (fun hc=>hn ((hcT t).1 hc)),h0];rfl⟩
 have hlaid:=c1 β2 (ay objs2) fun p hp=>⟨hβn p hp,hdn p hp⟩;have hpin:∀t∈Q,β2 t=β t∧ay objs2 t:=by
  intro t ht;rw[hQ]at ht;obtain⟨c,hc,ht⟩:=List.mem_flatMap.1 ht;obtain⟨i,hi⟩:=List.getElem?_of_mem hc;have hlt:i<(dX ys vals).length:=by rw[hln];exact(List.getElem?_eq_some_iff.1 hi).1
  have hu:=List.getElem?_eq_getElem hlt;exact FQ (hlv i c _ hi hu) (hlaid.2.1 i c _ (by rw[ho1];exact hi) hu) t ht
 have hD:∀s,ay st.aa s→W.contains s=false→ay objs2 s∧β2 s=β s:=by
  intro s hs hc;by_cases hm:s∈T
  ·have:s∈Q:=by
    by_cases hq:s∈Q;·exact hq
    ·have:s∈W:=by rw[hW];exact List.mem_filter.2 ⟨hm,by simpa using hq⟩
     rw[List.contains_iff_mem.2 this]at hc;cases hc
   exact⟨(hpin s this).2,(hpin s this).1⟩
  ·exact hdo s hs hm
 have hnewb:∀p∈os,∀b,b9 (β2 p.1)=some b→b∈b1.flatten++bl:=fun p hp b hb=>by rw[hβn p hp]at hb;exact c2 p hp b hb
 have hlive2:∀b,live β2 objs2 b→b∈b1.flatten++bl∨∃t,ay st.aa t∧t∉T∧b9 (β t)=some b:=by
  rintro b ⟨t,o',ho',hb⟩;rcases hobj t o' ho' with hm|⟨h1,h2,o0,h3,_⟩;·exact .inl (hnewb _ hm b hb)
  ·rw[hβo t h1]at hb;exact .inr ⟨t,⟨o0,h3⟩,h2,hb⟩
 have hsame:∀b,b<w.heap.size→b∉cR β T→w'.heap[b]?=w.heap[b]?:=fun b h1 h2=>hfr.block b h1 h2;have hm:∀b,S b→aN S0 w0.heap.size β2 objs2 w' b∧w'.heap[b]?=w.heap[b]?:=by
  rintro b ⟨h1,h2,h3⟩;have hnT:b∉cR β T:=fun hm=>h3 (hTlive b hm).1;refine⟨⟨h1,Nat.lt_of_lt_of_le h2 hfr.size,fun hl=>?_⟩,hsame b h2 hnT⟩;rcases hlive2 b hl with hb|⟨t,⟨o0,h0⟩,_,hb⟩
  ·rcases hloc b hb with h4|h4;·omega
   ·exact hnT h4
  ·exact h3 ⟨t,o0,h0,hb⟩
 have hm3:∀b,S3 b→aN S0 w0.heap.size β2 objs2 w' b∧w'.heap[b]?=w'.heap[b]?:=by
  rintro b ⟨h1,h2,h3,h4⟩;refine⟨⟨h1,h2,fun hl=>?_⟩,rfl⟩;rcases hlive2 b hl with hb|hb;·exact h3 (by rw[ebs];exact hb)
  ·exact h4 hb
 have hrel:Rel P S0 L B0 w0 N ⟨fX W st.vars,objs2⟩ a w' β2:=by
  refine⟨h.size,h.defers,fun s=>(h.vars s).er hm hD,⟨fun t o' ho'=>?_,fun t t' b ht ht' hb hb'=>?_⟩,fun t b ht hb=>?_,h.pV,fun t h9 ht=>?_,?_⟩
  ·rcases hobj t o' ho' with hmem|⟨h1,h2,o0,h3,rfl⟩;·exact(hlaid.1 (t,o') hmem).mono hm3 (fun _ hd=>⟨hd,rfl⟩) rfl (fun _ _=>rfl)
   ·exact(h.heap.holds t o0 h3).er hm hD (hβo t h1) fun b hb=>hsame b (h.lt ⟨o0,h3⟩ hb) (hTinj t b ⟨o0,h3⟩ h2 hb)
  ·obtain⟨o1,ho1'⟩:=ht;obtain⟨o2,ho2'⟩:=ht';rcases hobj t o1 ho1' with hm1|⟨g1,g2,o0,g3,_⟩<;>rcases hobj t' o2 ho2' with hm2|⟨g1',g2',o0',g3',_⟩;·rw[hβn _ hm1]at hb;rw[hβn _ hm2]at hb';exact c3 _ hm1 _ hm2 b hb hb'
   ·rw[hβo t' g1']at hb';rcases hloc b (hnewb _ hm1 b hb) with h4|h4;·have:=h.lt ⟨o0',g3'⟩ hb';omega
    ·exact absurd h4 (hTinj t' b ⟨o0',g3'⟩ g2' hb')
   ·rw[hβo t g1]at hb;rcases hloc b (hnewb _ hm2 b hb') with h4|h4;·have:=h.lt ⟨o0,g3⟩ hb;omega
    ·exact absurd h4 (hTinj t b ⟨o0,g3⟩ g2 hb)
   ·rw[hβo t g1]at hb;rw[hβo t' g1']at hb';exact h.heap.inj t t' b ⟨o0,g3⟩ ⟨o0',g3'⟩ hb hb'
  ·obtain⟨o1,ho1'⟩:=ht;rcases hobj t o1 ho1' with hm1|⟨g1,g2,o0,g3,_⟩
   ·rcases hloc b (hnewb _ hm1 b hb) with h4|h4;·exact .inl (Nat.le_trans h.bM.size h4)
    ·obtain⟨s,hs,hb'⟩:=List.mem_filterMap.1 h4;exact h.old s b (hTd s hs) hb'
   ·rw[hβo t g1]at hb;exact h.old t b ⟨o0,g3⟩ hb
  ·obtain⟨o1,ho1'⟩:=ht;rcases hobj t o1 ho1' with hm1|⟨g1,g2,o0,g3,_⟩
   ·have hq:t∈Q:=by
     rcases List.mem_append.1 (htag _ hm1) with hq|hq;·exact hq
     ·exfalso;unfold mY at hq;rcases List.mem_append.1 hq with hq|hq;·have:=(List.mem_filter.1 hq).2;simp only[bne_iff_ne,ne_eq]at this;exact this h9
      ·have:=(List.mem_filter.1 hq).1;simp only[List.mem_cons,List.not_mem_nil,or_false]at this;omega
    rw[(hpin t hq).1];exact h.sU t h9 (hTd t (hQT t hq))
   ·rw[hβo t g1];exact h.sU t h9 ⟨o0,g3⟩
  ·exact⟨hfr.os.trans h.bM.os,hfr.tape.trans h.bM.tape,hfr.output.trans h.bM.output,Nat.le_trans h.bM.size hfr.size,fun b h1 h2=>(hsame b (by have:=h.bM.size;omega) fun hm=>by
    rcases List.mem_filterMap.1 hm with⟨s,hs,hb'⟩;rcases h.old s b (hTd s hs) hb' with h3|h3;·omega
    ·exact h2 h3).trans (h.bM.block b h1 h2)⟩
 exact⟨v,β2,rfl,hrel,hlaid.2.2.mono hm3 fun _ hd=>⟨hd,rfl⟩⟩
theorem xr:∀{xs ys:List AV},eL st.aa xs=some ys→BO st.aa st.aa [] (xs.map fun _=>0) xs=some ys|[],_,h=>h|x::xs,ys,h=>by obtain⟨y,hy,h⟩:=Option.bind_eq_some_iff.1 h;obtain⟨l,hl,rfl⟩:=Option.map_eq_some_iff.1 h;show(m7 st.aa x).bind _=_;rw[hy];show((BO st.aa st.aa [] (xs.map fun _=>0) xs).map _)=_;rw[xr hl];rfl
theorem rI:∀xs:List AV,eE st.aa (xs.map fun _=>0) xs=[]|[]=>rfl|x::xs=>by show[]++eE st.aa (xs.map fun _=>0) xs=[];rw[rI xs];rfl
theorem mn:∀xs:List AV,dS (xs.map fun _=>0) xs=[]|[]=>rfl|x::xs=>by show dS (xs.map fun _=>0) xs=[];exact mn xs
theorem pF:∀xs:List AV,ej [] (xs.map fun _=>0) xs=dU xs|[]=>rfl|x::xs=>by show((0 !=0||dC x)&&ej [] (xs.map fun _=>0) xs)=_;rw[pF xs];rfl
theorem tr (f:Nat→Option AO):ef [] [] f=f:=by funext t;show(f t).map (iD [])=f t;cases f t<;>rfl
theorem oN (d:Nat):(jg d).Nodup:=by simp[jg,List.nodup_cons]
theorem wF {r:AV} (h:jS r):Ew r=false:=by
 by_cases hx:∃cs,r=.agg cs;·obtain⟨cs,rfl⟩:=hx;have h:mU cs:=h;show cs.any _=false;induction cs with|nil=>rfl|cons c cs ih=>rw[List.any_cons,ih h.2 h.2,Bool.or_false];have:=h.1;cases c<;>first|rfl|exact this.elim
 ·have h:lM r:=by rw[←wL r fun cs e=>hx ⟨cs,e⟩];exact h
  cases r<;>first|rfl|exact h.elim
theorem AL {r:AV} (h:flat r):nj r=false:=by
 by_cases hx:∃vs,r=.aL vs;·obtain⟨vs,rfl⟩:=hx;have h:oT vs:=h;show vs.any Ew=false;induction vs with|nil=>rfl|cons c cs ih=>rw[List.any_cons,ih h.2 h.2,Bool.or_false];exact wF h.1
 ·have h:jS r:=by rw[←Ao r fun cs e=>hx ⟨cs,e⟩];exact h
  have:nj r=Ew r:=by cases r<;>first|rfl|exact absurd ⟨_,rfl⟩ hx
  rw[this];exact wF h
theorem sI {r:AV} (h:nj r=false) (d:Nat):iT d r=aK d r:=by unfold iT;rw[h];rfl
theorem qn {r:AV} (h:nj r=false) (d:Nat):xZ d r=cJ (ko d) r:=by unfold xZ;rw[h];rfl
theorem qI {r:AV} (h:nj r=false) (d:Nat):yh d r=cH r:=by unfold yh;rw[h];rfl
theorem oQ {r:AV} (h:nj r=false):oI r=flat r:=by unfold oI;rw[h];rfl
theorem lq {f:AV→List Nat×List Nat→Option (AV×List (Nat×AO)×List Nat×List Nat)} (hf:∀y s q,f y s=some q→(q.2.1.map (·.1)++(q.2.2.1++q.2.2.2)).Perm (s.1++s.2)):∀(ys:List AV) (s:List Nat×List Nat) (q:List AV×List (Nat×AO)×List Nat×List Nat),mh f ys s=some q→(q.2.1.map (·.1)++(q.2.2.1++q.2.2.2)).Perm (s.1++s.2)|[],s,q,h=>by cases h;exact .refl _|y::ys,s,q,h=>by obtain⟨r,hr,h⟩:=Option.bind_eq_some_iff.1 h;obtain⟨q',hq,rfl⟩:=Option.map_eq_some_iff.1 h;rw[List.map_append,List.append_assoc];exact((lq hf ys r.2.2 q' hq).append_left _).trans (hf y s r hr)
theorem m5:∀(n:Nat) (top:Bool) (y:AV) (s:List Nat×List Nat) (q:AV×List (Nat×AO)×List Nat×List Nat),num n top y s=some q→(q.2.1.map (·.1)++(q.2.2.1++q.2.2.2)).Perm (s.1++s.2)
 |0,_,_,_,_,h=>by cases h|n+1,top,y,s,q,h=>by
  unfold num at h;split at h;·obtain⟨k,hk,rfl⟩:=Option.map_eq_some_iff.1 h;exact kW hk
  ·obtain⟨k,hk,rfl⟩:=Option.map_eq_some_iff.1 h;exact kW hk
  ·obtain⟨k,hk,h⟩:=Option.bind_eq_some_iff.1 h;obtain⟨r,hr,rfl⟩:=Option.map_eq_some_iff.1 h;exact((lq (m5 n false) _ k.2 r hr).cons k.1).trans (kW hk)
  ·obtain⟨r,hr,rfl⟩:=Option.map_eq_some_iff.1 h;exact lq (m5 n top) _ s r hr
  ·obtain⟨r,hr,rfl⟩:=Option.map_eq_some_iff.1 h;exact lq (m5 n top) _ s r hr
  ·cases h;exact .refl _
  ·cases h;exact .refl _
  ·split at h;·cases h;exact .refl _
   ·cases h
  ·cases h
theorem ui (d:Nat) (r:AV):∀x∈iT d r,∃p,x.1=d+1000*p:=by
 intro x hx;unfold iT at hx;split at hx;·cases hn:num 5 false r ([],jg d) with|none=>rw[hn]at hx;simp at hx|some q=>
  rw[hn]at hx;have hp:=m5 5 false r _ q hn;have hm:x.1∈jg d:=by simpa using hp.mem_iff.1 (List.mem_append_left _ (List.mem_map_of_mem (by simpa using hx)))
  simp only[jg,List.mem_cons,List.not_mem_nil,or_false]at hm;rcases hm with h|h|h|h|h|h|h|h;·exact⟨0,h⟩
  ·exact⟨1,h⟩
  ·exact⟨2,h⟩
  ·exact⟨3,h⟩
  ·exact⟨4,h⟩
  ·exact⟨5,h⟩
  ·exact⟨6,h⟩
  ·exact⟨7,h⟩
 ·unfold aK at hx;obtain⟨y,_,rfl⟩:=List.mem_map.1 hx;exact⟨y.1,rfl⟩
theorem kF (h:Rel P S0 L B0 w0 N st a w β) {f:FuncId}{d:Nat} (hd9:d%1000≠999) {vals:List Value}{xs ys:List AV}{r:AV} (hl:vals.length=xs.length) (hv:∀(i:Nat) (v:Value) (x:AV),vals[i]?=some v→xs[i]?=some x→RV P (aN S0 w0.heap.size β st.aa w) w β (ay st.aa) v x) (hre:eL st.aa xs=some ys) (hcon:KD P f ys r) (hpf:dU xs=true∨oI r) (hfree:∀x∈iT d r,st.aa x.1=none) (hres:yh d r=true):Calls P f vals.toArray w fun e w'=>∃v β',e=.returned v∧Rel P S0 L B0 w0 N ⟨st.vars,bn (iT d r) st.aa⟩ a w' β'∧RV P (aN S0 w0.heap.size β' (bn (iT d r) st.aa) w') w' β' (ay (bn (iT d r) st.aa)) v (xZ d r):=by unfold iT at hfree ⊢;unfold xZ;unfold yh at hres;unfold oI at hpf;cases ht:nj r with|false=>simp only[ht,Bool.false_eq_true,if_false]at hfree hres hpf ⊢;exact zo h hd9 hl hv hre (hcon.2 ht) hpf hfree hres|true=>simp only[ht,if_true]at hfree hres hpf ⊢;obtain⟨q,hq⟩:=Option.isSome_iff_exists.1 hres;rw[hq]at hfree ⊢;simp only[Option.map_some,Option.getD_some]at hfree ⊢;have:=DJ (T:=[]) (Q:=[]) (W:=[]) (fun e=>absurd rfl e) h hd9 (ks:=xs.map fun _=>0) hl hv (rI xs).symm (by rw[mn];rfl) rfl List.nodup_nil (fun t ht=>by cases ht) (oN d) (by rw[tr];exact xr hre) (hcon.1 ht) (by rw[pF];exact hpf.imp id fun hf y hy=>by simp only[jY,jA,List.nil_append,List.mem_singleton]at hy;rw[hy];exact hf) (o:=([],[],([],jg d))) rfl (mn xs).symm hq (fun p hp=>.inr (hfree p hp));rw[tr]at this;exact this
end
theorem qm {k k':IntKind} (h:lC k=lC k'):k=k':=by cases k<;>cases k'<;>first|rfl|(simp[lC]at h)
theorem oO:∀{a c b d:List PV},a.length=c.length→ir (a++b) (c++d)=(ir a c&&ir b d)|[],[],b,d,_=>by simp[ir]|x::a,y::c,b,d,h=>by simp only[List.cons_append,ir];rw[oO (by simpa using h),Bool.and_assoc]|[],_::_,_,_,h=>by simp at h|_::_,[],_,_,h=>by simp at h
section
variable{P:Program}
def CK (P:Program) (t:TypeId) (us:List Value):Value:=match P.underlying t with|some (.struct _)|some (.array _ _)=>.agg us.toArray|_=>us.headD undef
theorem AJ (w:World) {t:TypeId}{n:Nat}{A us rest:List Value} (ht:(P.underlying t).isSome=true) (hn:cf P t=some n) (hl:us.length=n) (h1:(∃fs,P.underlying t=some (.struct fs))∨(us≠[]∧∀k e,P.underlying t≠some (.array k e))):(part t (A++us++rest).toArray A.length).run P w=.ok (CK P t us) w:=by
 obtain⟨d,hd⟩:=Option.isSome_iff_exists.1 ht;obtain⟨i,hi,hsz⟩:∃i,P.info? t=some i∧i.size=n:=by unfold cf at hn;obtain⟨i,hi,rfl⟩:=Option.map_eq_some_iff.1 hn;exact⟨i,hi,rfl⟩
 have hs:(Go.sizeOf t).run P w=.ok n w:=by simp[Go.sizeOf,typeInfo,hi,hsz]
 have hagg:(∃fs,d=.struct fs)→(part t (A++us++rest).toArray A.length).run P w=.ok (.agg us.toArray) w:=by
  rintro⟨fs,rfl⟩;have he:(A++us++rest).toArray.extract A.length (A.length+n)=us.toArray:=by apply Array.ext';simp only[List.extract_toArray,List.extract_eq_take_drop];rw[List.append_assoc,List.drop_left,Nat.add_sub_cancel_left,←hl,List.take_left]
  simp only[part,isAgg,Sem.run_bind,run_underlying hd,hs,Result.andThen_ok,Sem.run_pure,if_true,he]
 unfold CK;rw[hd];rcases h1 with⟨fs,h1⟩|⟨h1,h2⟩;·rw[hd]at h1;cases h1;exact hagg ⟨fs,rfl⟩
 ·match us,h1 with
  |u::l,_=>
   have h4:(A++(u::l)++rest).toArray[A.length]?=some u:=by simp
   cases d with|struct fs=>exact hagg ⟨fs,rfl⟩|array k e=>exact absurd hd (h2 k e)|_=>simp[part,isAgg,run_underlying hd,Result.andThen]
theorem tE {p:PV} (h:cX p=0):∃b,p=.bool b:=by cases p<;>simp[cX]at h;exact⟨_,rfl⟩
theorem xA {p:PV} (h:cX p=1):∃l,p=.str l:=by cases p with|str l=>exact⟨l,rfl⟩|int k n=>simp only[cX]at h;omega|_=>simp[cX]at h
theorem vY {p:PV}{k:IntKind} (h:cX p=2+lC k):∃n,p=.int k n:=by
 have:lC k≤7:=by cases k<;>decide
 cases p with|int k' n=>simp only[cX]at h;have:=qm (show lC k'=lC k by omega);subst this;exact⟨n,rfl⟩|bool b=>simp only[cX]at h;omega|str b=>simp only[cX]at h;omega|_=>simp only[cX]at h;omega
theorem CN (a b:List UInt8):((⟨a.toArray⟩:ByteArray).toList==(⟨b.toArray⟩:ByteArray).toList)=decide (a=b):=by
 rw[ByteArray.toList_eq,ByteArray.toList_eq];by_cases h:a=b;·subst h;simp
 ·simp[h]
theorem zu:∀(n:Nat) (t:TypeId) (ks:List Nat),kN P n t=some ks→(P.underlying t).isSome=true∧((∃fs,P.underlying t=some (.struct fs))∨(ks≠[]∧∀k e,P.underlying t≠some (.array k e)))
 |0,t,ks,h=>by cases h|n+1,t,ks,h=>by
  unfold kN at h;split at h;·rename_i hu;cases h;rw[hu];exact⟨rfl,.inr ⟨by simp,fun k e h=>by cases h⟩⟩
  ·rename_i hu;cases h;rw[hu];exact⟨rfl,.inr ⟨by simp,fun k e h=>by cases h⟩⟩
  ·rename_i hu;cases h;rw[hu];exact⟨rfl,.inr ⟨by simp,fun k e h=>by cases h⟩⟩
  ·rename_i fs hu;rw[hu];exact⟨rfl,.inl ⟨fs,rfl⟩⟩
  ·cases h
theorem uv {f:TypeId→Option (List Nat)}{d:Nat} (hl:∀t ks,f t=some ks→(P.underlying t).isSome=true∧((∃fs,P.underlying t=some (.struct fs))∨(ks≠[]∧∀k e,P.underlying t≠some (.array k e)))) (hf:∀t ks,f t=some ks→∀(w:World) (ps qs:List PV),ps.map cX=ks→qs.map cX=ks→(Op.equalIn d t (CK P t (ps.map bP)) (CK P t (qs.map bP))).run P w=.ok (ir ps qs) w) (w:World):∀(fs:List Field) (off:Nat) (ks:List Nat) (A B:List Value) (ps qs:List PV),pY P f off fs=some ks→A.length=off→B.length=off→ps.map cX=ks→qs.map cX=ks→(Op.eqFields d (A++ps.map bP).toArray (B++qs.map bP).toArray fs).run P w=.ok (ir ps qs) w
 |[],off,ks,A,B,ps,qs,h,hA,hB,hp,hq=>by cases h;have:ps=[]:=List.map_eq_nil_iff.1 hp;have:qs=[]:=List.map_eq_nil_iff.1 hq;subst_vars;simp[Op.eqFields,ir]|fl::fs,off,ks,A,B,ps,qs,h,hA,hB,hp,hq=>by
  unfold pY at h;split at h
  ·rename_i hc;obtain⟨hn,ho⟩:=hc;obtain⟨a,ha,h⟩:=Option.bind_eq_some_iff.1 h;split at h
   ·rename_i hs;obtain⟨r,hr,rfl⟩:=Option.map_eq_some_iff.1 h;have key:∀l:List PV,l.map cX=a++r→∃l1 l2,l=l1++l2∧l1.map cX=a∧l2.map cX=r:=by intro l h;obtain⟨l1,l2,rfl,h1,h2⟩:=List.map_eq_append_iff.1 h;exact⟨l1,l2,rfl,h1,h2⟩
    obtain⟨p1,p2,rfl,hp1,hp2⟩:=key ps hp;obtain⟨q1,q2,rfl,hq1,hq2⟩:=key qs hq;have l1:p1.length=a.length:=by rw[←hp1];simp
    have l2:q1.length=a.length:=by rw[←hq1];simp
    obtain⟨g1,g2⟩:=hl _ _ ha;have e1:((fl.offset:Nat))=A.length:=by rw[hA,ho]
    have e2:A.length=B.length:=by rw[hA,hB]
    have hpa:=AJ (P:=P) (t:=fl.type) (n:=a.length) (A:=A) (us:=p1.map bP) (rest:=p2.map bP) w g1 hs (by simpa using l1) (g2.imp id fun h=>⟨by intro h0;apply h.1;rw[←hp1,List.map_eq_nil_iff.1 h0];rfl,h.2⟩);have hqa:=AJ (P:=P) (t:=fl.type) (n:=a.length) (A:=B) (us:=q1.map bP) (rest:=q2.map bP) w g1 hs (by simpa using l2) (g2.imp id fun h=>⟨by intro h0;apply h.1;rw[←hq1,List.map_eq_nil_iff.1 h0];rfl,h.2⟩);have ih:=uv hl hf w fs (off+a.length) r (A++p1.map bP) (B++q1.map bP) p2 q2 hr (by simp[hA,l1]) (by simp[hB,l2]) hp2 hq2;rw[List.map_append,List.map_append,←List.append_assoc,←List.append_assoc,oO (by rw[l1,l2])];unfold Op.eqFields;rw[if_pos hn,e1];simp only[Sem.run_bind,hpa,Result.andThen_ok];rw[e2];simp only[hqa,Result.andThen_ok,hf _ _ ha w p1 q1 hp1 hq1];cases h1:ir p1 q1 with|true=>simp only[Bool.not_true,Bool.false_eq_true,if_false,Bool.true_and];exact ih|false=>simp
   ·cases h
  ·cases h
theorem xj:∀(n:Nat) (t:TypeId) (ks:List Nat),kN P n t=some ks→∀(d:Nat),n≤d→∀(w:World) (ps qs:List PV),ps.map cX=ks→qs.map cX=ks→(Op.equalIn d t (CK P t (ps.map bP)) (CK P t (qs.map bP))).run P w=.ok (ir ps qs) w
 |0,t,ks,h=>by cases h|n+1,t,ks,h=>by
  intro d hd w ps qs hp hq;obtain⟨d,rfl⟩:∃e,d=e+1:=⟨d-1,by omega⟩;have one:∀k,ks=[k]→∃p q,ps=[p]∧qs=[q]∧cX p=k∧cX q=k:=by rintro k rfl;rcases ps with _|⟨p,_|⟨p',ps⟩⟩<;>simp at hp;rcases qs with _|⟨q,_|⟨q',qs⟩⟩<;>simp at hq;exact⟨p,q,rfl,rfl,hp,hq⟩
  unfold kN at h;split at h;·rename_i hu;injection h with h;obtain⟨p,q,rfl,rfl,h1,h2⟩:=one _ h.symm;obtain⟨b,rfl⟩:=tE h1;obtain⟨c,rfl⟩:=tE h2;simp only[CK,hu,List.map_cons,List.map_nil,List.headD_cons,bP];rw[run_equalIn_bool' w d t b c hu];cases b<;>cases c<;>rfl
  ·rename_i hu;injection h with h;obtain⟨p,q,rfl,rfl,h1,h2⟩:=one _ h.symm;obtain⟨b,rfl⟩:=xA h1;obtain⟨c,rfl⟩:=xA h2;simp only[CK,hu,List.map_cons,List.map_nil,List.headD_cons,bP];rw[run_equalIn_string w d t _ _ hu,CN];simp[ir,lJ]
  ·rename_i k hu;injection h with h;obtain⟨p,q,rfl,rfl,h1,h2⟩:=one _ h.symm;obtain⟨b,rfl⟩:=vY h1;obtain⟨c,rfl⟩:=vY h2;simp only[CK,hu,List.map_cons,List.map_nil,List.headD_cons,bP];rw[run_equalIn_int w d t k k b c hu];simp only[ir,lJ,Bool.and_true];rfl
  ·rename_i fs hu;split at h
   ·rename_i hst;have hfo:P.fieldsOf t=fs:=by simp[Program.fieldsOf,hu]
    simp only[CK,hu];rw[run_equalIn_struct w d t _ _ (by rw[hfo];exact hu) hst,hfo];have:=uv (P:=P) (f:=kN P n) (d:=d) (fun t ks h=>zu n t ks h) (fun t ks h w ps qs=>xj n t ks h d (by omega) w ps qs) w fs.toList 0 ks [] [] ps qs h rfl rfl hp hq;simpa using this
   ·cases h
  ·cases h
end
section
variable{P:Program}{S:Nat→Prop}{w:World}{β:Nat→Value}{aa:Nat→Option AO}{a:Act}{o:Oper}{x y:Operand}
theorem nM:∀{cs:List AV}{ps:List PV},dZ cs=some ps→cs=ps.map .pv|[],ps,h=>by cases h;rfl|c::cs,ps,h=>by simp only[dZ,Option.bind_eq_some_iff,Option.map_eq_some_iff]at h;obtain⟨p,hp,l,hl,rfl⟩:=h;rw[nM hl];cases c<;>simp[BG]at hp;subst hp;rfl
theorem rL {D:Nat→Prop}{ps:List PV}{ks:List Nat} (hks:∀k∈ks,k<99) (hs:ps.map cX=ks) {us:List Value} (hl:us.length=(ps.map AV.pv).length) (hr:∀(i:Nat) (c:AV) (u:Value),(ps.map AV.pv)[i]?=some c→us[i]?=some u→RV P S w β D u c):us=ps.map bP:=by
 subst hs;have hl':us.length=ps.length:=by simpa using hl
 apply List.ext_getElem?;intro i;cases hu:us[i]? with|none=>have:us.length≤i:=List.getElem?_eq_none_iff.1 hu;rw[List.getElem?_eq_none (by simp;omega)]|some u=>have hi:i<us.length:=(List.getElem?_eq_some_iff.1 hu).1;obtain⟨p,hp⟩:∃p,ps[i]?=some p:=⟨ps[i],List.getElem?_eq_getElem (by omega)⟩;have h3:=(hr i (.pv p) u (by simp[hp]) hu).bk;have h4:=hks (cX p) (by simp only[List.mem_map];exact⟨_,List.mem_of_getElem? hp,rfl⟩);rw[List.getElem?_map,hp];simp only[Option.map_some,Option.some.injEq];cases h3 with|int q n=>rfl|bool b=>rfl|str l=>rfl|_=>simp only[cX]at h4;omega
theorem HB {ne:Bool}{t yt:TypeId}{fs:Array Field}{ks:List Nat} (ho:o.op=.binOp (if ne=true then .neq else .eql) t x y yt) (hu:P.underlying t=some (.struct fs)) (hk:kN P 8 t=some ks) (hks:ks.all (·<99)=true) (hg:P.eqGuardType P.depth t=false) {X Y:AV} (hX:RV P S w β (ay aa) (a.eval x) X) (hY:RV P S w β (ay aa) (a.eval y) Y) {φ:Prop}{v:AV} (h:ak (.eqs ne ks) [X,Y] aa=some (φ,v)) (hφ:φ):∃r,(execOp a.eval o).run P w=.ok (.value r) w∧RV P S w β (ay aa) r v:=by
 have hks':∀k∈ks,k<99:=fun k hk=>by simpa using(List.all_eq_true.1 hks) k hk
 cases X with
 |agg xs=>cases Y with
  |agg ys=>simp only[ak,Option.bind_eq_some_iff,Option.map_eq_some_iff]at h;obtain⟨ps,hps,qs,hqs,he⟩:=h;cases he;cases nM hps;cases nM hqs;obtain⟨us,hxu,hul,hur⟩:=hX.cV;obtain⟨vs,hyv,hvl,hvr⟩:=hY.cV;have e1:=rL hks' hφ.1 hul hur;have e2:=rL hks' hφ.2 hvl hvr;have hrun:=xj 8 t ks hk 10000 (by omega) w ps qs hφ.1 hφ.2;simp only[CK,hu]at hrun;rw[e1]at hxu;rw[e2]at hyv;cases ne with|false=>exact⟨_,by simp[execOp,ho,hxu,hyv,run_eqGuard_agg w .eql t x y _ _ hg,run_eql_struct,hrun,Result.andThen],.pv _ _ (.bool _)⟩|true=>exact⟨_,by simp[execOp,ho,hxu,hyv,run_eqGuard_agg w .neq t x y _ _ hg,run_neq_struct,hrun,Result.andThen],.pv _ _ (.bool _)⟩
  |_=>simp[ak]at h
 |_=>simp[ak]at h
end
theorem fC {P:Program}{kt:TypeId}{s:Nat} (h:jc P kt=some s):∃d,P.underlying kt=some d∧∀k,cX k=s→MapKept.IsKey d (bP k):=by
 unfold jc at h;split at h;·rename_i hu;injection h with h;subst h;refine⟨_,hu,fun k hk=>?_⟩;cases k<;>first|trivial|(simp[cX]at hk)
 ·rename_i hu;injection h with h;subst h;refine⟨_,hu,fun k hk=>?_⟩;cases k<;>first|trivial|(simp[cX]at hk;try omega)
 ·rename_i q hu;injection h with h;subst h;refine⟨_,hu,fun k hk=>?_⟩;cases k with
  |int k n=>simp only[cX]at hk;exact qm (by omega)|bool b=>simp only[cX]at hk;omega|str l=>simp only[cX]at hk;omega
  | _=>simp only[cX]at hk;have:lC q≤7:=by cases q<;>decide
       omega
 ·cases h
theorem mN {k k':PV}{s:Nat} (h:cX k=s) (h':cX k'=s) (hs:s<99):lJ k k'=true↔bP k'=bP k:=by subst h;cases k<;>cases k'<;>simp only[cX]at h' hs<;>first|omega|(have:_:=qm (Nat.add_left_cancel h');subst this;simp[lJ,bP,eq_comm])|simp[lJ,bP,eq_comm]
theorem lY {P:Program}{kt:TypeId}{s:Nat} (h:jc P kt=some s):s<99:=by
 unfold jc at h;split at h;·injection h with h;omega
 ·injection h with h;omega
 ·rename_i q _;injection h with h;have:lC q≤7:=by cases q<;>decide
  omega
 ·cases h
theorem jI {P:Program}{S:Nat→Prop}{w:World}{β:Nat→Value}{D:Nat→Prop}{u:Value}{p:PV}{s:Nat} (h:RV P S w β D u (.pv p)) (hp:cX p=s) (hs:s<99):u=bP p:=by have h:=h.bk;cases h with|int q n=>rfl|bool b=>rfl|str l=>rfl|_=>simp only[cX]at hp;omega
theorem eI {P:Program}{t k e:TypeId} (h:ie P t=some (k,e)):P.underlying t=some (.map k e):=by
 unfold ie at h;split at h;·rename_i hu;cases h;exact hu
 ·cases h
theorem gx {d:TypeDesc}{k:PV}{s:Nat} (hd:∀k,cX k=s→MapKept.IsKey d (bP k)) (hk:cX k=s) (hs:s<99):∀(us:List MapEntry) (es:List (PV×PV)) (n:Nat),eT s es→us.length=es.length→(∀(i:Nat) (e:PV×PV) (u:MapEntry),es[i]?=some e→us[i]?=some u→u.key=bP e.1)→(Instr.findNow d (bP k) us n=some none∧j4 k es=none∧(∀v,kS k v es=es++[(k,v)])∧nV k es=es∧∀u∈us,u.key≠bP k)∨∃j e u,Instr.findNow d (bP k) us n=some (some (n+j,u.val))∧es[j]?=some e∧us[j]?=some u∧u.key=bP k∧j4 k es=some e.2∧(∀v,kS k v es=es.set j (k,v))∧nV k es=es.eraseIdx j|[],[],_,_,_,_=>.inl ⟨rfl,rfl,fun v=>rfl,rfl,fun u hu=>by simp at hu⟩|[],_::_,_,_,hl,_=>by simp at hl|_::_,[],_,_,hl,_=>by simp at hl|u::us,e::es,n,hks,hl,hu=>by have h1:=hu 0 e u rfl rfl;have hke:=hks e (by simp);obtain⟨r,hr,hiff⟩:=MapKept.sameNow_of_keys (hd k hk) (hd e.1 hke);rw[←h1]at hr;cases r with|true=>have h2:bP k=bP e.1:=hiff.1 rfl;have h3:lJ k e.1=true:=(mN hk hke hs).2 h2.symm;exact .inr ⟨0,e,u,by simp[Instr.findNow,hr],rfl,rfl,h1.trans h2.symm,by simp only[j4];rw[if_pos h3],fun v=>by simp only[kS];rw[if_pos h3];rfl,by simp only[nV];rw[if_pos h3];rfl⟩|false=>
 have h3:¬lJ k e.1=true:=fun h=>by have:=hiff.2 ((mN hk hke hs).1 h).symm;cases this
 have h4:u.key≠bP k:=fun h=>by have:=hiff.2 (h.symm.trans h1);cases this
 rcases gx hd hk hs us es (n+1) (fun x hx=>hks x (by simp[hx])) (by simpa using hl) (fun i x y hx hy=>hu (i+1) x y (by simpa using hx) (by simpa using hy)) with⟨g1,g2,g3,g4,g5⟩|⟨j,e',u',g1,g2,g3,g4,g5,g6,g7⟩
 ·refine .inl ⟨by simp[Instr.findNow,hr,g1],by simp only[j4];rw[if_neg h3];exact g2,fun v=>by simp only[kS];rw[if_neg h3,g3 v];rfl,by simp only[nV];rw[if_neg h3,g4],fun x hx=>?_⟩;rcases List.mem_cons.1 hx with rfl|hx;·exact h4
  ·exact g5 x hx
 ·exact .inr ⟨j+1,e',u',by simp[Instr.findNow,hr,g1];omega,by simpa using g2,by simpa using g3,g4,by simp only[j4];rw[if_neg h3];exact g5,fun v=>by simp only[kS];rw[if_neg h3,g6 v];rfl,by simp only[nV];rw[if_neg h3,g7];rfl⟩
theorem Bv {P:Program}{o:Oper}{s:Nat}{z:Value}{ok:Bool}{xs:List Operand} (h:iK P o=(.Bf s z ok,xs)):∃t m k kt et,o.op=.lookup t m k ok∧ie P t=some (kt,et)∧jc P kt=some s∧zeroV P et=some z∧xs=[m,k]:=by
 unfold iK at h;split at h
 ·rename_i r hr;subst h;unfold ye at hr;repeat' split at hr
  all_goals first|(cases hr;done)|(cases hr;exact⟨_,_,_,_,_,by assumption,by assumption,by assumption,by assumption,rfl⟩)
 ·cases hx:sF P o with|none=>rw[hx]at h;cases h|some r=>
   rw[hx]at h;have h:r=(.Bf s z ok,xs):=h;subst h;unfold sF uP at hx;repeat' split at hx
   all_goals cases hx
theorem zG {P:Program}{o:Oper}{e:TypeId}{sz:Nat}{xs:List Operand} (h:iK P o=(.gX e sz,xs)):∃t n ps zs,o.op=.buildSlice t n ps∧P.underlying t=some (.slice e)∧cf P e=some sz∧dk P e=some zs∧ps.toList.map (·.1)=List.range n∧n*sz≤2^24∧zs.length=sz∧0<sz∧xs=ps.toList.map (·.2):=by
 unfold iK at h;split at h
 ·rename_i r hr;subst h;unfold ye at hr;repeat' split at hr
  all_goals cases hr
 ·cases hx:sF P o with|none=>rw[hx]at h;cases h|some r=>
   rw[hx]at h;have h:r=(.gX e sz,xs):=h;subst h;unfold sF uP at hx;repeat' split at hx
   all_goals first|(cases hx;done)|(cases hx;rename_i hc;exact⟨_,_,_,_,by assumption,by assumption,by assumption,by assumption,hc.2.1,hc.2.2.1,hc.2.2.2.1,hc.2.2.2.2,rfl⟩)
section
variable{P:Program}{S:Nat→Prop}{w:World}{β:Nat→Value}{aa:Nat→Option AO}{a:Act}{o:Oper}
theorem TL {t:TypeId}{m k:Operand}{kt et:TypeId}{s:Nat}{z:Value}{ok:Bool} (ho:o.op=.lookup t m k ok) (hm:ie P t=some (kt,et)) (hsrt:jc P kt=some s) (hz:zeroV P et=some z) (hz1:z.oneCell'=true) {p:PV}{es:List (PV×PV)} (hX:RV P S w β (ay aa) (a.eval m) (.pv (.mv es))) (hK:RV P S w β (ay aa) (a.eval k) (.pv p)) (hp:cX p=s) (hks:eT s es):∃v,(execOp a.eval o).run P w=.ok (.value v) w∧RV P S w β (ay aa) v (vG z ok (j4 p es)):=by have h1:=hX.bk;generalize hmv:a.eval m=mv at h1;cases h1 with|mv b us c es g1 hh hst hl g5 g6=>
 have hmt:=eI hm;obtain⟨d,hdk,hkey⟩:=fC hsrt;have hs99:=lY hsrt;have hkv:a.eval k=Ab.bP p:=jI hK hp hs99;have hzr:(zeroValue et).run P w=.ok z w:=by unfold zeroV at hz;obtain⟨i,hi,hz⟩:=Option.bind_eq_some_iff.1 hz;simp[zeroValue,typeInfo,hi,hz]
 have hfind:=gx hkey hp hs99 us.toList es 0 hks hl fun i e u h1 h2=>(g5 i e u h1 h2).1;have fin:∀(v:Value) (x:PV) (f:Bool),(Instr.lookup t (.map (some b)) (Ab.bP p) ok).run P w=.ok (if ok=true then .tuple #[v,.bool f] else v) w→de S w v x→∃v,(execOp a.eval o).run P w=.ok (.value v) w∧RV P S w β (ay aa) v (if ok=true then .aL [.pv x,.pv (.bool f)] else .pv x):=by intro v x f hrun hv;refine⟨_,by simp only[execOp,ho,hmv,hkv];simp[hrun,Result.andThen];rfl,?_⟩;cases ok with|false=>exact .pv _ _ hv|true=>refine .aL _ [v,.bool f] rfl fun i c u h1 h2=>?_;match i with|0=>simp at h1 h2;subst h1 h2;exact .pv _ _ hv|1=>simp at h1 h2;subst h1 h2;exact .pv _ _ (.bool f)|i+2=>simp at h1
 unfold vG;rcases hfind with⟨h1,h2,_⟩|⟨j,e,u,h1,h2,h3,h4,h5,_⟩;·rw[h2];refine fin z (pT z) false ?_ (gw _ _ z hz1);simp[Instr.lookup,run_underlying hmt,MapKept.run_getObj_map hh,MapKept.run_checkKey hdk (hkey p hp),MapKept.run_findKey hdk h1,hzr,Result.andThen]
 ·rw[h5];refine fin u.val e.2 true ?_ (g6 j e u h2 h3);simp[Instr.lookup,run_underlying hmt,MapKept.run_getObj_map hh,MapKept.run_checkKey hdk (hkey p hp),MapKept.run_findKey hdk h1,Result.andThen]
end
theorem gl {P:Program}{f:FuncId} (h:fQ P f=true):f<P.funcs.size:=by
 unfold fQ at h;split at h;·rename_i fn hfn;exact(Array.getElem?_eq_some_iff.1 hfn).1
 ·cases h
def pW:AK→Bool|.ex (.Bf _ _ _)=>true|.aB|.pick|.bf _|.box|.alloc _|.fx _ _|.call _|.gp|.store _|.app _ _ _|.lF _|.AM _ _ _|.ex _=>false|_=>true
theorem Am {x:XK}{ys:List AV}{aa:Nat→Option AO} (h:pW (.ex x)=false) (hb:∀e sz,x≠.gX e sz):ak (.ex x) ys aa=none:=by unfold ak;split<;>first|rfl|simp_all[pW]
section
variable{P:Program}{Γ:bN}{S0 L:Nat→Prop}{B0:Nat→Value}{w0 w:World}{N:Nat}{st:St}{a:Act}{β:Nat→Value}{o:Oper}{k:AK}{xs:List Operand}
theorem Rel.ev (h:Rel P S0 L B0 w0 N st a w β) (z:Operand):RV P (aN S0 w0.heap.size β st.aa w) w β (ay st.aa) (a.eval z) (ev st.vars z):=DX h.vars z
theorem Rel.cU (h:Rel P S0 L B0 w0 N st a w β) (z:Operand) (ha:asks (Ab.ev st.vars z)):RV P (aN S0 w0.heap.size β st.aa w) w β (ay st.aa) (a.eval z) (strip (Ab.ev st.vars z)):=(h.ev z).strip ha
theorem DN (h:Rel P S0 L B0 w0 N st a w β) (hc:fS P o=some (k,xs)) (hk:pW k=true) (ha:an (xs.map (ev st.vars))) {φ:Prop}{v:AV} (hs:ak k ((xs.map (ev st.vars)).map strip) st.aa=some (φ,v)) (hφ:φ):∃r,(execOp a.eval o).run P w=.ok (.value r) w∧RV P (aN S0 w0.heap.size β st.aa w) w β (ay st.aa) r v:=by
 rcases dt hc with hc|⟨x,rfl,hx⟩;rotate_left;·cases x with
  |Bf s z ok=>obtain⟨t,m,k,kt,et,ho,hm,hsr,hz,rfl⟩:=Bv hx;have h1:=h.cU m ha.1;have h2:=h.cU k ha.2.1;simp only[List.map_cons,List.map_nil]at hs;generalize strip (Ab.ev st.vars m)=X at h1 hs;generalize strip (Ab.ev st.vars k)=Y at h2 hs;cases X with
   |pv p=>cases Y with
    |pv q=>cases p with|mv es=>simp only[ak,Option.some.injEq,Prod.mk.injEq]at hs;obtain⟨rfl,rfl⟩:=hs;exact TL ho hm hsr hz hφ.1 h1 h2 hφ.2.1 hφ.2.2|_=>simp[ak]at hs
    |_=>cases p<;>simp[ak]at hs
   |_=>simp[ak]at hs
  |_=>simp[pW]at hk
 unfold fy at hc;split at hc;·
  split at hc
  ·split at hc
   ·split at hc;·cases hc;simp[pW]at hk
    ·cases hc
   ·cases hc
  ·cases hc;simp[pW]at hk
 ·split at hc
  ·split at hc
   ·split at hc;·cases hc;simp[pW]at hk
    ·cases hc
   ·cases hc
  ·cases hc;simp[pW]at hk
 ·cases hc;simp[pW]at hk
 ·obtain⟨zs,_,he⟩:=Option.map_eq_some_iff.1 hc;cases he;simp[pW]at hk
 ·cases hc;simp[pW]at hk
 ·rename_i t ps ho;split at hc
  ·rename_i zs fs hz hu;split at hc;·cases hc
   ·rename_i hall;obtain⟨l,hl,he⟩:=Option.map_eq_some_iff.1 hc;cases he;exact RL ho hz hu (Bool.of_not_eq_false hall) hl h.heap h.cU ha hs hφ
  ·cases hc
 ·split at hc
  ·split at hc
   ·split at hc;·cases hc;simp[pW]at hk
    ·cases hc
   ·cases hc
  ·cases hc
 ·rename_i t x ho;obtain⟨n,hn,he⟩:=Option.map_eq_some_iff.1 hc;cases he;cases n with|none=>exact AP ho hn h.heap (h.cU x ha.1) hs hφ|some n=>exact Ae ho hn h.heap (h.cU x ha.1) hs hφ
 ·split at hc
  ·split at hc;·cases hc;simp[pW]at hk
   ·cases hc
  ·cases hc;simp[pW]at hk
  ·cases hc
 ·rename_i op t x y yt ho;split at hc
  ·rename_i hu;split at hc;·cases hc;exact Hs (ne:=false) ho hu (h.cU x ha.1) (h.cU y ha.2.1) hs hφ
   ·cases hc;exact Hs (ne:=true) ho hu (h.cU x ha.1) (h.cU y ha.2.1) hs hφ
   ·cases hc
  ·cases hc;exact G8 ho (h.cU x ha.1) (h.cU y ha.2.1) hs hφ
  ·cases hc;exact G8 ho (h.cU x ha.1) (h.cU y ha.2.1) hs hφ
  ·rename_i fs hu;split at hc
   ·rename_i ks hks;split at hc
    ·rename_i hcond;split at hc;·cases hc;exact HB (ne:=false) ho hu hks hcond.1 hcond.2 (h.cU x ha.1) (h.cU y ha.2.1) hs hφ
     ·cases hc;exact HB (ne:=true) ho hu hks hcond.1 hcond.2 (h.cU x ha.1) (h.cU y ha.2.1) hs hφ
     ·cases hc
    ·cases hc
   ·cases hc
  ·cases hc
 ·rename_i t x ho;cases hc;exact R7 ho (h.cU x ha.1) hs hφ
 ·rename_i t x ho;cases hc;exact Ue ho (h.cU x ha.1) hs hφ
 ·rename_i src dst x ho;split at hc;·rename_i k0 k1 hsr hds;cases hc;exact PA ho hsr hds (h.cU x ha.1) hs hφ
  ·rename_i hsr hds;cases hc;exact PC ho hsr hds (h.cU x ha.1) hs hφ
  ·rename_i e hsr hds;split at hc;·rename_i he;cases hc;exact JF ho hsr he hds h.heap (h.cU x ha.1) hs
   ·cases hc
  ·split at hc;·cases hc;simp[pW]at hk
   ·cases hc
  ·cases hc
 ·rename_i s x i ho;split at hc
  ·rename_i fs hu;split at hc
   ·rename_i f hf;split at hc;·rename_i n hsz;cases hc;exact RU ho hu hf hsz (h.cU x ha.1) hs hφ
    ·cases hc
   ·cases hc
  ·cases hc
 ·rename_i s x i ho;split at hc
  ·rename_i fs hu;split at hc;·rename_i f hf;obtain⟨n,hn,he⟩:=Option.map_eq_some_iff.1 hc;cases he;cases n with|none=>exact JX ho hu hf hn (h.cU x ha.1) hs hφ|some n=>exact Ja ho hu hf hn (h.cU x ha.1) hs hφ
   ·cases hc
  ·cases hc
 ·rename_i t x y ho;split at hc;·rename_i e hu;obtain⟨sz,hsz,he⟩:=Option.map_eq_some_iff.1 hc;cases he;exact P1 ho hu hsz h.heap (h.cU x ha.1) (h.cU y ha.2.1) hs hφ
  ·rename_i n e hu;obtain⟨sz,hsz,he⟩:=Option.map_eq_some_iff.1 hc;cases he;exact O8 ho hu hsz (h.cU x ha.1) (h.cU y ha.2.1) hs hφ
  ·cases hc
 ·rename_i t x y ho;split at hc;·rename_i hu;cases hc;exact KC ho hu (h.cU x ha.1) (h.cU y ha.2.1) hs hφ
  ·cases hc
 ·rename_i t x lo hi ho;split at hc;·rename_i hu;cases hc;simp only[List.singleton_append,List.cons_append,List.nil_append,List.map_cons,an]at ha hs;exact PQ ho hu h.cU (h.cU x ha.1) ha.2 hs hφ
  ·rename_i e hu;obtain⟨sz,hsz,he⟩:=Option.map_eq_some_iff.1 hc;cases he;simp only[List.singleton_append,List.cons_append,List.nil_append,List.map_cons,an]at ha hs;exact Sd ho hu hsz h.heap h.cU (h.cU x ha.1) ha.2 hs hφ
  ·cases hc
 ·rename_i x i ho;cases hc;exact SU ho (h.cU x ha.1) hs hφ
 ·rename_i x ho;cases hc;exact R6 ho (h.cU x ha.1) hs hφ
 ·rename_i f first caps ho;split at hc
  ·rename_i hf;have hf':first=#[]:=by apply Array.ext';simpa using hf
   subst hf';cases hc;exact Qm ho h.cU ha hs hφ
  ·cases hc
 ·rename_i c ho;obtain⟨callee,args,argTypes⟩:=c;unfold fA at hc;simp only at hc;split at hc
  ·rename_i b;unfold cN at hc;split at hc;·
    rename_i x t hx ht;have hx':args=#[x]:=by apply Array.ext';simpa using hx
    have ht':argTypes=#[t]:=by apply Array.ext';simpa using ht
    subst hx' ht';split at hc;·rename_i hu;cases hc;exact Kc ho hu (h.cU x ha.1) hs hφ
    ·rename_i e hu;cases hc;exact TD ho hu h.heap (h.cU x ha.1) hs hφ
    ·cases hc
   ·split at hc
    ·split at hc
     ·split at hc;·cases hc;simp[pW]at hk
      ·cases hc
     ·cases hc
    ·split at hc
     ·split at hc;·cases hc;simp[pW]at hk
      ·cases hc
     ·cases hc
    ·cases hc
   ·rename_i x y t t' hx ht;have hx':args=#[x,y]:=by apply Array.ext';simpa using hx
    have ht':argTypes=#[t,t']:=by apply Array.ext';simpa using ht
    subst hx' ht';cases hc;exact Ic (mx:=false) ho (h.cU x ha.1) (h.cU y ha.2.1) hs
   ·rename_i x y t t' hx ht;have hx':args=#[x,y]:=by apply Array.ext';simpa using hx
    have ht':argTypes=#[t,t']:=by apply Array.ext';simpa using ht
    subst hx' ht';cases hc;exact Ic (mx:=true) ho (h.cU x ha.1) (h.cU y ha.2.1) hs
   ·repeat'(split at hc)
    all_goals first|(cases hc;simp[pW]at hk;done)|cases hc
   ·cases hc
  ·split at hc;·cases hc;simp[pW]at hk
   ·cases hc
  ·cases hc;simp[pW]at hk
  ·cases hc
 ·cases hc
theorem aA {K:Act→World→Prop}{Q:Exit→Act→World→Prop}{r:Value}{w':World} (hr:(execOp a.eval o).run P w=.ok (.value r) w') (hK:K (a.put o.dst r) w'):o.wp P a w K Q:=by unfold Oper.wp;rw[hr];exact hK
theorem gS {K:Act→World→Prop}{Q:Exit→Act→World→Prop}{w':World} (hr:(execOp a.eval o).run P w=.ok .skip w') (hK:K (a.put o.dst undef) w'):o.wp P a w K Q:=by unfold Oper.wp;rw[hr];exact hK
theorem da {K:Act→World→Prop}{Q:Exit→Act→World→Prop}{f:FuncId}{args:Array Value}{w':World} (hr:(execOp a.eval o).run P w=.ok (.enter f args) w') (hK:Calls P f args w' fun e w''=>∃v,e=.returned v∧K (a.put o.dst v) w''):o.wp P a w K Q:=by unfold Oper.wp;rw[hr];refine Calls.mono hK ?_;rintro e w'' ⟨v,rfl,h⟩;exact h
theorem ae {α:Type}{q:Option α}{K:α→Prop} (h:ai q K):∃x,q=some x∧K x:=by cases q with|none=>exact h.elim|some x=>exact⟨x,rfl,h⟩
theorem C4 {x:Operand} (h:eo x=true):a.eval x=.slice none 0 0:=by
 unfold eo at h;split at h;·rfl
 ·cases h
theorem gI {f:FuncId}{args:Array Operand}{argTypes:Array TypeId} (ho:o.op=.call {callee:=.value (.func f),args:=args,argTypes:=argTypes}) (hf:fQ P f=true):(execOp a.eval o).run P w=.ok (.enter f (args.map a.eval)) w:=by
 unfold fQ at hf;split at hf
 ·rename_i fn hfn;simp only[Bool.and_eq_true,bne_iff_ne,ne_eq]at hf;have hn:=hf.1;have hb:¬fn.body=none:=fun e=>by rw[e]at hf;simp at hf
  simp[execOp,ho,resolve,Act.eval,Deferred.ofValue,invoke,callFunc,hfn,hn,hb]
 ·cases hf
theorem iS (h:Rel P S0 L B0 w0 N st a w β):∀(l:List Operand),an (l.map (Ab.ev st.vars))→∀(i:Nat) (v:Value) (x:AV),(l.map a.eval)[i]?=some v→((l.map (Ab.ev st.vars)).map strip)[i]?=some x→RV P (aN S0 w0.heap.size β st.aa w) w β (ay st.aa) v x:=by intro l ha i v x hv hx;rw[List.getElem?_map,Option.map_eq_some_iff]at hv;obtain⟨z,hz,rfl⟩:=hv;simp only[List.getElem?_map,hz,Option.map_some,Option.some.injEq]at hx;subst hx;exact h.cU z (j9 l i z ha hz)
theorem rT {Q:Exit→Act→World→Prop}{f:FuncId}{args:Array Operand}{argTypes:Array TypeId} (h:Rel P S0 L B0 w0 N st a w β) {d:Nat} (hd9:d%1000≠999) (ho:o.op=.call {callee:=.value (.func f),args:=args,argTypes:=argTypes}) (hf:fQ P f=true) {ys:List AV}{r:AV} (ha:an (args.toList.map (Ab.ev st.vars))) (hre:eL st.aa ((args.toList.map (Ab.ev st.vars)).map strip)=some ys) (hcon:KD P f ys r) (hpf:dU ((args.toList.map (Ab.ev st.vars)).map strip)=true∨oI r) (hfree:∀x∈iT d r,st.aa x.1=none) (hres:yh d r=true) {K:Act→World→Prop} (hK:∀v w' β',Rel P S0 L B0 w0 N ⟨st.vars,bn (iT d r) st.aa⟩ a w' β'→RV P (aN S0 w0.heap.size β' (bn (iT d r) st.aa) w') w' β' (ay (bn (iT d r) st.aa)) v (xZ d r)→K (a.put o.dst v) w'):o.wp P a w K Q:=by
 refine da (gI ho hf) ?_;have hv:args.map a.eval=(args.toList.map a.eval).toArray:=by apply Array.ext';simp
 rw[hv];refine(kF (a:=a) h hd9 (by simp) (iS h args.toList ha) hre hcon hpf hfree hres).mono ?_;rintro e w' ⟨v,β',rfl,hR,hrv⟩;exact⟨v,rfl,hK v w' β' hR hrv⟩
theorem yv (h:Rel P S0 L B0 w0 N st a w β) {c x y:Operand} (ho:o.op=.pick c x y) {φ:Prop}{v:AV} (hs:rC [Ab.ev st.vars c,Ab.ev st.vars x,Ab.ev st.vars y]=some (φ,v)) (hφ:φ):∃r,(execOp a.eval o).run P w=.ok (.value r) w∧RV P (aN S0 w0.heap.size β st.aa w) w β (ay st.aa) r v:=by
 simp only[rC,Option.bind_eq_some_iff,Option.map_eq_some_iff]at hs;obtain⟨b,hb,r,hs,hr⟩:=hs;cases hr;obtain⟨hca,hφ⟩:=hφ;obtain⟨φ,v⟩:=r;have hc:=(h.ev c).strip hca;have hX:=h.ev x;have hY:=h.ev y;generalize strip (Ab.ev st.vars c)=C at hb hc;have hce:a.eval c=.bool b:=by cases C with|pv p=>cases p<;>simp[hZ]at hb;subst hb;exact hc.eS|_=>simp[hZ]at hb
 unfold nm at hs;split at hs;·rename_i p q hp hq;simp only[Option.some.injEq,Prod.mk.injEq]at hs;obtain⟨rfl,rfl⟩:=hs;cases b with|true=>have hx:=hX.strip (hφ.1 rfl);rw[hp]at hx;exact⟨a.eval x,by simp[execOp,ho,hce,asBool],by simpa using hx⟩|false=>have hy:=hY.strip (hφ.2 rfl);rw[hq]at hy;exact⟨a.eval y,by simp[execOp,ho,hce,asBool],by simpa using hy⟩
 ·rename_i p hp _;simp only[Option.some.injEq,Prod.mk.injEq]at hs;obtain⟨rfl,rfl⟩:=hs;obtain⟨rfl,hφ⟩:=hφ;have hx:=hX.strip hφ;rw[hp]at hx;exact⟨a.eval x,by simp[execOp,ho,hce,asBool],hx⟩
 ·rename_i q hq _;simp only[Option.some.injEq,Prod.mk.injEq]at hs;obtain⟨rfl,rfl⟩:=hs;obtain⟨rfl,hφ⟩:=hφ;have hy:=hY.strip hφ;rw[hq]at hy;exact⟨a.eval y,by simp[execOp,ho,hce,asBool],hy⟩
 ·cases hs
theorem vL (hΓ:dr P Γ) {Q:Exit→Act→World→Prop} (h:Rel P S0 L B0 w0 N st a w β) (hc:fS P o=some (k,xs)) (hd:∀s,o.dst=some s→s<N) {C:bz→Prop} (hs:aQ P Γ o.dst k (xs.map (Ab.ev st.vars)) st.aa C):o.wp P a w (fun a' w'=>∃e β',C e∧Rel P S0 L B0 w0 N (e.on o.dst st) a' w' β') Q:=by
 by_cases hq:pW k=true;·
  have hs':an (xs.map (Ab.ev st.vars))∧ai (ak k ((xs.map (Ab.ev st.vars)).map strip) st.aa) fun x=>x.1∧C (.put x.2):=by cases k<;>first|exact hs|(simp[pW]at hq)
  obtain⟨ha,hw⟩:=hs';obtain⟨⟨φ,v⟩,he,hφ,hC⟩:=ae hw;obtain⟨r,hr,hv⟩:=DN h hc hq ha he hφ;exact aA hr ⟨_,β,hC,h.put hd hv⟩
 ·have hmov:∀x:Operand,k=.aB→xs=[x]→(execOp a.eval o).run P w=.ok (.value (a.eval x)) w→o.wp P a w (fun a' w'=>∃e β',C e∧Rel P S0 L B0 w0 N (e.on o.dst st) a' w' β') Q:=by rintro x rfl rfl hr;dsimp only[aQ]at hs;obtain⟨y,hy,_,hC⟩:=ae hs;simp at hy;subst hy;exact aA hr ⟨_,β,hC,h.put hd (h.ev x)⟩
  have hnil:∀(x:Operand) (e:TypeId),k=.bf e→(P.info? e).isSome=true→eo x=true→(execOp a.eval o).run P w=.ok (.value (a.eval x)) w→o.wp P a w (fun a' w'=>∃e β',C e∧Rel P S0 L B0 w0 N (e.on o.dst st) a' w' β') Q:=by rintro x e rfl hi hx hr;dsimp only[aQ]at hs;obtain⟨d,hdd,_,hw⟩:=ae hs;obtain⟨⟨φ,v,ao⟩,he,hφ,hn,hC⟩:=ae hw;simp only[cm,Option.some.injEq,Prod.mk.injEq]at he;obtain⟨rfl,rfl,rfl⟩:=he;rw[C4 hx]at hr;obtain⟨β',hR⟩:=Q6 h (hd d hdd) hn hi;refine aA hr ⟨_,β',hC,?_⟩;rw[hdd];exact hR
  rcases dt hc with hc|⟨x,rfl,hx⟩;rotate_left
  ·have hs:an (xs.map (Ab.ev st.vars))∧ai (ak (.ex x) ((xs.map (Ab.ev st.vars)).map strip) st.aa) fun x=>x.1∧C (.put x.2):=hs;by_cases hb:∃e sz,x=.gX e sz;·obtain⟨e,sz,rfl⟩:=hb;obtain⟨ha,hw⟩:=hs;obtain⟨⟨φ,v⟩,he,hφ,hC⟩:=ae hw;obtain⟨t,n,ps,zs,ho,hu,hsz,hz,h1,h2,h3,h4,rfl⟩:=zG hx;unfold ak at he;simp only[Option.map_eq_some_iff]at he;obtain⟨rows,hrows,he⟩:=he;simp only[Prod.mk.injEq]at he;obtain⟨rfl,rfl⟩:=he;obtain⟨r,w',hr,hR,hv⟩:=KR ho hu hsz hz h1 h2 h3 h4 h h.cU ha hrows hφ;exact aA hr ⟨_,β,hC,hR.put hd hv⟩
   rw[Am (by simpa using hq) fun e sz hx=>hb ⟨e,sz,hx⟩]at hs;exact hs.2.elim
  unfold fy at hc;split at hc
  ·rename_i x ho;have hr:(execOp a.eval o).run P w=.ok (.value (a.eval x)) w:=by simp[execOp,ho]
   split at hc
   ·rename_i hx;split at hc
    ·split at hc;·rename_i hi;cases hc;exact hnil x _ rfl hi hx hr
     ·cases hc
    ·cases hc
   ·cases hc;exact hmov x rfl rfl hr
  ·rename_i x ho;have hr:(execOp a.eval o).run P w=.ok (.value (a.eval x)) w:=by simp[execOp,ho]
   split at hc
   ·rename_i hx;split at hc
    ·split at hc;·rename_i hi;cases hc;exact hnil x _ rfl hi hx hr
     ·cases hc
    ·cases hc
   ·cases hc;exact hmov x rfl rfl hr
  ·rename_i c x y ho;cases hc;dsimp only[aQ]at hs;obtain⟨⟨φ,v⟩,he,hφ,hC⟩:=ae hs;obtain⟨r,hr,hv⟩:=yv h ho he hφ;exact aA hr ⟨_,β,hC,h.put hd hv⟩
  ·rename_i e ho;obtain⟨zs,hz,he⟩:=Option.map_eq_some_iff.1 hc;cases he;dsimp only[aQ]at hs;obtain⟨d,hdd,_,hw⟩:=ae hs;obtain⟨⟨φ,v,ao⟩,he,hφ,hn,hC⟩:=ae hw;obtain⟨r,w',hr,β',hR⟩:=GB ho hz h (hd d hdd) hn he;refine aA hr ⟨_,β',hC,?_⟩;rw[hdd];exact hR
  ·rename_i e x ho;cases hc;dsimp only[aQ]at hs;obtain⟨d,hdd,ha,hw⟩:=ae hs;obtain⟨⟨φ,v,ao⟩,he,hφ,hn,hC⟩:=ae hw;obtain⟨r,w',hr,β',hR⟩:=Qb ho h (hd d hdd) hn (h.cU x ha.1) he;refine aA hr ⟨_,β',hC,?_⟩;rw[hdd];exact hR
  ·split at hc
   ·split at hc;·cases hc
    ·obtain⟨l,hl,he⟩:=Option.map_eq_some_iff.1 hc;cases he;exact absurd rfl hq
   ·cases hc
  ·rename_i t n ps ho;split at hc
   ·rename_i e hu;split at hc
    ·rename_i sz zs hsz hz;split at hc;·rename_i hcond;obtain⟨_,hord,hbig,hzl,hpos⟩:=hcond;cases hc;dsimp only[aQ]at hs;obtain⟨d,hdd,ha,hw⟩:=ae hs;obtain⟨⟨φ,v,ao⟩,he,hφ,hn,hC⟩:=ae hw;obtain⟨r,w',hr,β',hR⟩:=H4 ho hu hsz hz hord hbig hzl hpos h (hd d hdd) hn h.cU ha he hφ;refine aA hr ⟨_,β',hC,?_⟩;rw[hdd];exact hR
     ·cases hc
    ·cases hc
   ·cases hc
  ·obtain⟨n,hn,he⟩:=Option.map_eq_some_iff.1 hc;cases he;exact absurd rfl hq
  ·rename_i t x y ho;split at hc
   ·rename_i hn;split at hc;·rename_i h1;cases hc;obtain⟨ha,hw⟩:=hs;obtain⟨⟨φ,tg,ao⟩,he,hφ,hC⟩:=ae hw;obtain⟨w',hr,β',hR⟩:=DC ho h1 h hd (h.cU x ha.1) (h.cU y ha.2.1) he hφ;exact gS hr ⟨_,β',hC,hR⟩
    ·cases hc
   ·rename_i n hn;cases hc;obtain⟨ha,hw⟩:=hs;obtain⟨⟨φ,tg,ao⟩,he,hφ,hC⟩:=ae hw;obtain⟨w',hr,β',hR⟩:=DD ho hn h hd (h.cU x ha.1) (h.cU y ha.2.1) he hφ;exact gS hr ⟨_,β',hC,hR⟩
   ·cases hc
  ·split at hc;·split at hc<;>first|(cases hc;exact absurd rfl hq)|cases hc
   ·cases hc;exact absurd rfl hq
   ·cases hc;exact absurd rfl hq
   ·split at hc
    ·split at hc;·split at hc<;>first|(cases hc;exact absurd rfl hq)|cases hc
     ·cases hc
    ·cases hc
   ·cases hc
  ·cases hc;exact absurd rfl hq
  ·cases hc;exact absurd rfl hq
  ·rename_i src dst x ho;split at hc;·cases hc;exact absurd rfl hq
   ·cases hc;exact absurd rfl hq
   ·split at hc;·cases hc;exact absurd rfl hq
    ·cases hc
   ·rename_i e hsr hds;split at hc;·rename_i he;cases hc;obtain⟨ha,hw⟩:=hs;obtain⟨⟨φ,v⟩,heq,hφ,hC⟩:=ae hw;have hX:=h.cU x ha.1;have heq:ak (.lF e) [strip (Ab.ev st.vars x)] st.aa=some (φ,v):=heq;generalize strip (Ab.ev st.vars x)=X at hX heq;cases X with
     |pv p=>cases p with|str l=>simp only[ak,Option.some.injEq,Prod.mk.injEq]at heq;obtain⟨rfl,rfl⟩:=heq;obtain⟨r,w',hr,hR,hv⟩:=IG ho hsr hds he h hX.eh;exact aA hr ⟨_,β,hC,hR.put hd hv⟩|_=>simp[ak]at heq
     |_=>simp[ak]at heq
    ·cases hc
   ·cases hc
  ·split at hc
   ·split at hc
    ·split at hc;·cases hc;exact absurd rfl hq
     ·cases hc
    ·cases hc
   ·cases hc
  ·split at hc
   ·split at hc;·obtain⟨n,hn,he⟩:=Option.map_eq_some_iff.1 hc;cases he;exact absurd rfl hq
    ·cases hc
   ·cases hc
  ·split at hc;·obtain⟨n,hn,he⟩:=Option.map_eq_some_iff.1 hc;cases he;exact absurd rfl hq
   ·obtain⟨n,hn,he⟩:=Option.map_eq_some_iff.1 hc;cases he;exact absurd rfl hq
   ·cases hc
  ·split at hc;·cases hc;exact absurd rfl hq
   ·cases hc
  ·split at hc;·cases hc;exact absurd rfl hq
   ·obtain⟨n,hn,he⟩:=Option.map_eq_some_iff.1 hc;cases he;exact absurd rfl hq
   ·cases hc
  ·cases hc;exact absurd rfl hq
  ·cases hc;exact absurd rfl hq
  ·split at hc;·cases hc;exact absurd rfl hq
   ·cases hc
  ·rename_i c ho;obtain⟨callee,args,argTypes⟩:=c;unfold fA at hc;simp only at hc;split at hc
   ·rename_i b;unfold cN at hc;split at hc;·split at hc<;>first|(cases hc;exact absurd rfl hq)|cases hc
    ·rename_i x y t tx hx ht;have hx':args=#[x,y]:=by apply Array.ext';simpa using hx
     have ht':argTypes=#[t,tx]:=by apply Array.ext';simpa using ht
     subst hx' ht';have happ:∀(e:TypeId) (inf:TypeInfo),P.underlying t=some (.slice e)→((∃e',P.underlying tx=some (.slice e'))∨P.underlying tx=some .string)→P.info? e=some inf→0<inf.size→(dk P e).isSome=true→aQ P Γ o.dst (.app e inf.size inf.bytes) ([x,y].map (Ab.ev st.vars)) st.aa C→o.wp P a w (fun a' w'=>∃e β',C e∧Rel P S0 L B0 w0 N (e.on o.dst st) a' w' β') Q:=by
      intro e inf hu hux hi hpos hzt hs;obtain⟨ha,hw⟩:=hs;split at hw;·obtain⟨⟨φ,tg,ao⟩,he,hφ,hC⟩:=ae hw;obtain⟨r,w',hr,β',hR⟩:=Rv ho hu hux hi hpos hzt h hd (h.cU x ha.1) (h.cU y ha.2.1) he hφ;exact aA hr ⟨_,β',hC,hR⟩
      ·obtain⟨d,hdd,hw⟩:=ae hw;obtain⟨⟨φ,v,ao⟩,he,hφ,hn,hC⟩:=ae hw;obtain⟨r,w',hr,β',hR⟩:=QQ ho hu hux hi hpos hzt h (hd d hdd) hn (h.cU x ha.1) (h.cU y ha.2.1) he hφ;refine aA hr ⟨_,β',hC,?_⟩;rw[hdd];exact hR
     split at hc
     ·rename_i e hu hux;split at hc
      ·rename_i inf hi;split at hc;·rename_i hcond;cases hc;exact happ e inf hu (.inr hux) hi (by omega) hcond.2 hs
       ·cases hc
      ·cases hc
     ·rename_i e e' hu hux;split at hc
      ·rename_i inf hi;split at hc;·rename_i hcond;cases hc;exact happ e inf hu (.inl ⟨e',hux⟩) hi hcond.1 hcond.2 hs
       ·cases hc
      ·cases hc
     ·cases hc
    ·cases hc;exact absurd rfl hq
    ·cases hc;exact absurd rfl hq
    ·repeat'(split at hc)
     all_goals first|(cases hc;exact hs.2.elim)|cases hc
    ·cases hc
   ·rename_i f;split at hc
    ·rename_i hf;cases hc;dsimp only[aQ]at hs;dsimp only[cr]at hs;obtain⟨d,hdd,ha,hw⟩:=ae hs;obtain⟨ys,hys,hw⟩:=ae hw;obtain⟨⟨φ,r⟩,hr,hφ,hpf,hfree,hres,hC⟩:=ae hw;have hcon:=hΓ.WR (gl hf) hr hφ;have hdlt:d<N:=hd d hdd;have hlim:=h.pV;have hd9:d%1000≠999:=by omega
     refine rT h hd9 ho hf ha hys hcon hpf hfree hres ?_;intro v w' β' hR hv;refine⟨_,β',hC,?_⟩;exact hR.put hd hv
    ·cases hc
   ·cases hc;exact hs.2.elim
   ·cases hc
  ·cases hc
end
def Core (P:Program) (N:Nat) (ops:Array Oper) (o:Oper) (i:AI):Prop:=fS P o=some (i.k,i.xs)∧i.d=o.dst∧(∀d,i.d=some d→d<N)∧((o.guard=none∧i.g=none)∨∃j want s,o.guard=some (j,want)∧(ops[j]?).bind (·.dst)=some s∧i.g=some (s,want))
theorem zO {P:Program}{N:Nat}{ops:Array Oper}{o:Oper}{i:AI} (h:CU P N ops o=some i):Core P N ops o i:=by unfold CU at h;cases hk:fS P o with|none=>rw[hk]at h;simp at h|some kx=>
 obtain⟨k,xs⟩:=kx;rw[hk]at h;dsimp only at h;have key:∀b:Bool,(∀d,o.dst=some d→b=true→d<N)→(if(!b)=true then none else match o.guard with|none=>some (⟨o.dst,k,xs,none,[],none⟩:AI)|some (j,want)=>match(ops[j]?).bind (·.dst) with|some s=>some ⟨o.dst,k,xs,some (s,want),[],none⟩|none=>none)=some i→Core P N ops o i:=by intro b hb h;cases b with|false=>simp at h|true=>simp only[Bool.not_true,Bool.false_eq_true,if_false]at h;cases hg:o.guard with|none=>rw[hg]at h;simp only[Option.some.injEq]at h;subst h;exact⟨hk,rfl,fun d e=>hb d e rfl,.inl ⟨hg,rfl⟩⟩|some jw=>obtain⟨j,want⟩:=jw;rw[hg]at h;dsimp only at h;cases hs:(ops[j]?).bind (·.dst) with|none=>rw[hs]at h;cases h|some s=>rw[hs]at h;simp only[Option.some.injEq]at h;subst h;exact⟨hk,rfl,fun d e=>hb d e rfl,.inr ⟨j,want,s,hg,hs,rfl⟩⟩
 refine key _ ?_ h;intro d hd hb;rw[hd]at hb;simp at hb;exact hb.1
theorem dL {P:Program}{ops:Array Oper}{o:Oper}{a:Act} (h:o.guard=none):Region.wanted o (yielded ops a.tmps)=true:=by unfold Region.wanted;rw[h]
def IN:Value→Option Bool|.bool b=>some b|_=>none
theorem nc {P:Program}{w:World}{β:Nat→Value}{S:Nat→Prop}{D:Nat→Prop}{want:Bool}:∀{v:AV}{u:Value}{c:Bool},RV P S w β D u v→bE v want=some c→(IN u==some want)=c
 |.pv p,u,c,hu,h=>by cases p with|bool b=>rw[hu.eS];simp only[bE,Option.some.injEq]at h;subst h;cases want<;>cases b<;>rfl|_=>simp[bE]at h
 |.b5 g v,u,c,hu,h=>by cases hu with|b5 _ _ _ h1 h2=>cases g with|false=>rw[h2 rfl];simp only[bE,qo,Option.some.injEq]at h;subst h;rfl|true=>exact nc (v:=v) (h1 rfl) (by simpa[bE,qo]using h)
 |.own _,_,_,_,h|.ptr _ _,_,_,_,h|.aR _ _ _ _,_,_,_,h|.sub _ _ _ _,_,_,_,h|.rp _,_,_,_,h|.agg _,_,_,_,h|.aL _,_,_,_,h|.bA _ _,_,_,_,h|.fr _ _,_,_,_,h|.ar,_,_,_,h=>by simp[bE]at h
theorem c9 {P:Program}{w:World}{β:Nat→Value}{S:Nat→Prop}{D:Nat→Prop}{ops:Array Oper}{o:Oper}{a:Act}{j:Nat}{want:Bool}{s:Nat}{v:AV}{c:Bool} (h:o.guard=some (j,want)) (hs:(ops[j]?).bind (·.dst)=some s) (hv:RV P S w β D (a.tmps.getD s undef) v) (hc:bE v want=some c):Region.wanted o (yielded ops a.tmps)=c:=by rw[←nc hv hc];unfold Region.wanted;rw[h];simp only[yielded,hs,Option.bind_some];rw[Array.getD_eq_getD_getElem?];cases a.tmps[s]? with|none=>rfl|some v=>cases v<;>rfl
def C3 (g:Nat→AV→AV):Prop:=∀p c,(∀e rows,c≠.fr e rows)→g p c=c
theorem tp (d i:Nat):C3 fun p c=>ko d (p+i) c:=by intro p c hc;cases c<;>first|rfl|exact absurd rfl (hc _ _)
theorem sq {g:Nat→AV→AV} (hg:C3 g):∀(cs:List AV) (j:Nat),fH j cs=[]→fY g j cs=cs
 |[],_,_=>rfl|c::cs,j,h=>by
  have hc:∀e rows,c≠.fr e rows:=by rintro e rows rfl;simp[fH]at h
  have h':fH (j+1) cs=[]:=by cases c<;>first|exact h|exact absurd rfl (hc _ _)
  simp only[fY];rw[hg _ _ hc,sq hg cs (j+1) h']
theorem tY {g:Nat→AV→AV} (hg:C3 g) {v:AV} (h:jV v=[]):lD g v=v:=by
 have hv:∀e rows,v≠.fr e rows:=by rintro e rows rfl;simp[jV]at h
 cases v<;>first|exact congrArg AV.agg (sq hg _ _ h)|exact hg _ _ hv
theorem qe {d:Nat}:∀(vs:List AV) (i:Nat),kv i vs=[]→gU (ko d) i vs=vs|[],_,_=>rfl|v::vs,i,h=>by simp only[kv,List.append_eq_nil_iff,List.map_eq_nil_iff]at h;simp only[gU];rw[tY (tp d i) h.1,qe vs (i+1) h.2]
theorem ox {d:Nat}{r:AV} (h:yq r=[]):cJ (ko d) r=r:=by
 have hr:(∃vs,r=.aL vs)∨(yq r=jV r∧cJ (ko d) r=lD (fun p c=>ko d (p+0) c) r):=by cases r<;>first|exact .inl ⟨_,rfl⟩|exact .inr ⟨rfl,rfl⟩
 rcases hr with⟨vs,rfl⟩|⟨h1,h2⟩;·exact congrArg AV.aL (qe _ _ h)
 ·rw[h2];exact tY (tp d 0) (h1▸h)
theorem BP {ys:List AV}{aa:Nat→Option AO}:ak .gp ys aa=none:=by unfold ak;split<;>first|rfl|simp_all
theorem Dw {e:TypeId}{sz:Nat}{zs:List Value}{ys:List AV}{aa:Nat→Option AO}:ak (.AM e sz zs) ys aa=none:=by unfold ak;split<;>first|rfl|simp_all
theorem nO {P:Program}{b:Builtin}{ys xs:List Operand}{ts:List TypeId}{f:FuncId} (hc:cN P b ys ts=some (.call f,xs)):False:=by
 unfold cN at hc;repeat'(split at hc)
 all_goals(simp at hc)
theorem ku {P:Program}{o:Oper}{f:FuncId}{xs:List Operand} (hc:fS P o=some (.call f,xs)):∃args argTypes,o.op=.call {callee:=.value (.func f),args:=args,argTypes:=argTypes}∧fQ P f=true∧xs=args.toList:=by
 rcases dt hc with hc|⟨x,h0,_⟩;rotate_left;·cases h0
 unfold fy at hc;split at hc;case h_22=>
  rename_i cl ho;obtain⟨callee,args,argTypes⟩:=cl;unfold fA at hc;simp only at hc;split at hc;·exact(nO hc).elim
  ·split at hc;·rename_i hf;simp only[Option.some.injEq,Prod.mk.injEq,AK.call.injEq]at hc;obtain⟨rfl,hx⟩:=hc;exact⟨args,argTypes,ho,hf,hx.symm⟩
   ·cases hc
  ·simp at hc
  ·cases hc
 all_goals
  exfalso;repeat'(split at hc)
  all_goals(simp at hc)
section
variable{P:Program}{Γ:bN}{S0 L:Nat→Prop}{B0:Nat→Value}{w0 w:World}{N:Nat}{st:St}{a:Act}{β:Nat→Value}{o:Oper}{k:AK}{xs:List Operand}
theorem Rel.Bp (h:Rel P S0 L B0 w0 N st a w β) {vars:Nat→AV} (hv:∀s v,RV P (aN S0 w0.heap.size β st.aa w) w β (ay st.aa) v (st.vars s)→RV P (aN S0 w0.heap.size β st.aa w) w β (ay st.aa) v (vars s)):Rel P S0 L B0 w0 N ⟨vars,st.aa⟩ a w β:=⟨h.size,h.defers,fun s=>hv s _ (h.vars s),h.heap,h.old,h.pV,h.sU,h.bM⟩
theorem zB {S:Nat→Prop}{D:Nat→Prop} (xs:List AV):RV P S w β D undef (A8 xs):=by unfold A8;cases rowsOf (xs.map strip) with|none=>exact .ar _|some rows=>exact .b5 _ _ _ (fun e=>by cases e) fun _=>rfl
theorem Rel.vv {d:Option Nat}{c:Bool}{v:AV} (hc:c=true) (h:Rel P S0 L B0 w0 N ((bz.put v).on d st) a w β):Rel P S0 L B0 w0 N ((bz.put (.b5 c v)).on d st) a w β:=by refine h.Bp (vars:=Ab.put d (.b5 c v) st.vars) fun s u hu=>?_;cases d with|none=>exact hu|some d=>
 by_cases hs:s=d;·subst hs;simp only[bz.on,Ab.put,if_true]at hu ⊢;exact .b5 c _ _ (fun _=>hu) (fun e=>by rw[hc]at e;cases e)
 ·simpa[bz.on,Ab.put,hs]using hu
theorem Rel.ew {d:Option Nat}{v:AV} (hd:∀s,d=some s→s<N) (h:Rel P S0 L B0 w0 N st a w β) (hv:RV P (aN S0 w0.heap.size β st.aa w) w β (ay st.aa) undef v):Rel P S0 L B0 w0 N ((bz.put v).on d st) (a.put d undef) w β:=h.put hd hv
theorem I1 (hΓ:dr P Γ) {Q:Exit→Act→World→Prop}{ops:Array Oper}{i:AI} (h:Rel P S0 L B0 w0 N st a w β) (hi:Core P N ops o i) {C:bz→Prop} (hs:dn P Γ i st.vars st.aa C):if Region.wanted o (yielded ops a.tmps) then o.wp P a w (fun a' w'=>∃e β',C e∧Rel P S0 L B0 w0 N (e.on i.d st) a' w' β') Q else∃e β',C e∧Rel P S0 L B0 w0 N (e.on i.d st) (a.put o.dst undef) w β':=by
 obtain⟨hc,hd,hdN,hg⟩:=hi;have hdN':∀s,o.dst=some s→s<N:=fun s e=>hdN s (hd.trans e);rcases hg with⟨hg,hig⟩|⟨j,want,s,hg,hj,hig⟩;·rw[dL (P:=P) hg];simp only[if_true];unfold dn at hs;rw[hig]at hs;rw[hd]at hs ⊢;exact vL hΓ h hc hdN' hs
 ·unfold dn at hs;rw[hig]at hs;obtain⟨c,hcg,hs⟩:=ae hs;rw[c9 hg hj (h.vars s) hcg];rw[hd]at hs ⊢;have hreg:∀(g:bz→bz),(∀e,∀{a' w' β'},Rel P S0 L B0 w0 N (e.on o.dst st) a' w' β'→Rel P S0 L B0 w0 N ((g e).on o.dst st) a' w' β')→aQ P Γ o.dst i.k (i.xs.map (Ab.ev st.vars)) st.aa (fun e=>C (g e))→o.wp P a w (fun a' w'=>∃e β',C e∧Rel P S0 L B0 w0 N (e.on o.dst st) a' w' β') Q:=by intro g hgr hk;refine Oper.wp_mono ?_ (vL hΓ h hc hdN' hk);rintro a' w' ⟨e,β',hC,hR⟩;exact⟨g e,β',hC,hgr e hR⟩
  have hq:pW i.k=true→(ai (ak i.k ((i.xs.map (Ab.ev st.vars)).map strip) st.aa) fun x=>(c=true→an (i.xs.map (Ab.ev st.vars))∧x.1)∧C (.put (.b5 c x.2)))→if c=true then o.wp P a w (fun a' w'=>∃e β',C e∧Rel P S0 L B0 w0 N (e.on o.dst st) a' w' β') Q else∃e β',C e∧Rel P S0 L B0 w0 N (e.on o.dst st) (a.put o.dst undef) w β':=by intro hk hw;obtain⟨⟨φ,v⟩,he,hφ,hC⟩:=ae hw;cases c with|true=>obtain⟨r,hr,hv⟩:=DN h hc hk (hφ rfl).1 he (hφ rfl).2;exact aA hr ⟨_,β,hC,h.put hdN' (.b5 _ _ _ (fun _=>hv) fun e=>by cases e)⟩|false=>exact⟨_,β,hC,h.ew hdN' (.b5 _ _ _ (fun e=>by cases e) fun _=>rfl)⟩
  have hmk:∀{v:AV},RV P (aN S0 w0.heap.size β st.aa w) w β (ay st.aa) undef v→(c=true→aQ P Γ o.dst i.k (i.xs.map (Ab.ev st.vars)) st.aa C)∧(c=false→C (.put v))→if c=true then o.wp P a w (fun a' w'=>∃e β',C e∧Rel P S0 L B0 w0 N (e.on o.dst st) a' w' β') Q else∃e β',C e∧Rel P S0 L B0 w0 N (e.on o.dst st) (a.put o.dst undef) w β':=by rintro v hv ⟨ht,hf⟩;cases c with|true=>exact hreg id (fun _ _ _ _ hR=>hR) (ht rfl)|false=>exact⟨_,β,hf rfl,h.ew hdN' hv⟩
  generalize hik:i.k=k at hc hs hreg hq hmk;cases k with
  |aB=>dsimp only[cb]at hs;obtain⟨x,hx,hl,hC⟩:=ae hs;cases c with
   |true=>
    refine hreg (fun e=>match e with|.put v=>.put (.b5 true v)|e=>e) ?_ ?_;·intro e a' w' β' hR;cases e<;>first|exact hR.vv rfl|exact hR
    ·dsimp only[aQ];rw[hx];exact⟨hl,hC⟩|false=>exact⟨_,β,hC,h.ew hdN' (.b5 _ _ _ (fun e=>by cases e) fun _=>rfl)⟩
  |pick=>dsimp only[cb]at hs;obtain⟨x,hx,hl,hC⟩:=ae hs;cases c with
   |true=>
    refine hreg (fun e=>match e with|.put v=>.put (.b5 true v)|e=>e) ?_ ?_;·intro e a' w' β' hR;cases e<;>first|exact hR.vv rfl|exact hR
    ·dsimp only[aQ];rw[hx];exact⟨hl rfl,hC⟩|false=>exact⟨_,β,hC,h.ew hdN' (.b5 _ _ _ (fun e=>by cases e) fun _=>rfl)⟩
  |bf e=>exact hmk (.ar _) hs|box=>exact hmk (.ar _) hs|alloc zs=>exact hmk (.ar _) hs|fx e sz=>exact hmk (zB _) hs|store n=>exact hmk (.ar _) hs|app e sz bytes=>exact hmk (.ar _) hs|call f=>
   dsimp only[cb]at hs;obtain⟨ys,hys,hs⟩:=ae hs;obtain⟨⟨φ,r⟩,hr,hs⟩:=ae hs;split at hs;rotate_left;·exact hmk (.b5 _ _ _ (fun e=>by cases e) fun _=>rfl) hs
   obtain⟨hcon,hfl,hfr,hres,hC⟩:=hs;cases c with|true=>
    have hcall:=ku hc;obtain⟨args,argTypes,ho,hf,hx⟩:=hcall;rw[hx]at hys hcon;have htr:=AL hfl;have hnil:∀d,iT d r=[]:=fun d=>by rw[sI htr];unfold aK;rw[hfr];rfl
    refine rT (d:=0) h (by omega) ho hf (hcon rfl).1 hys (hΓ.WR (gl hf) hr (hcon rfl).2) (.inr (by rw[oQ htr];exact hfl)) (by rw[hnil];intro x hx;cases hx) (by rw[qI htr];exact hres) ?_;intro v w' β' hR hv;rw[hnil]at hR hv;rw[qn htr,ox hfr]at hv;exact⟨_,β',hC,hR.put hdN' (.b5 _ _ _ (fun _=>hv) fun e=>by cases e)⟩|false=>exact⟨_,β,hC,h.ew hdN' (.b5 _ _ _ (fun e=>by cases e) fun _=>rfl)⟩
  |gp=>have hs:ai (ak .gp ((i.xs.map (Ab.ev st.vars)).map strip) st.aa) fun x=>(c=true→an (i.xs.map (Ab.ev st.vars))∧x.1)∧C (.put (.b5 c x.2)):=hs;rw[BP]at hs;exact hs.elim|lE=>exact hq rfl hs|BL mx=>exact hq rfl hs|eqs ne ks=>exact hq rfl hs|lF e=>have hs:ai (ak (.lF e) ((i.xs.map (Ab.ev st.vars)).map strip) st.aa) fun x=>(c=true→an (i.xs.map (Ab.ev st.vars))∧x.1)∧C (.put (.b5 c x.2)):=hs;cases c with
   |true=>
    refine hreg (fun e=>match e with|.put v=>.put (.b5 true v)|e=>e) ?_ ?_;·intro e a' w' β' hR;cases e<;>first|exact hR.vv rfl|exact hR
    ·obtain⟨r,hr,hφ,hC⟩:=ae hs;show an _∧ai (ak _ _ _) _;rw[hr];exact⟨(hφ rfl).1,(hφ rfl).2,hC⟩|false=>obtain⟨r,hr,hφ,hC⟩:=ae hs;exact⟨_,β,hC,h.ew hdN' (.b5 _ _ _ (fun e=>by cases e) fun _=>rfl)⟩
  |ex x=>
   have hs:ai (ak (.ex x) ((i.xs.map (Ab.ev st.vars)).map strip) st.aa) fun x=>(c=true→an (i.xs.map (Ab.ev st.vars))∧x.1)∧C (.put (.b5 c x.2)):=hs;by_cases hq':pW (.ex x)=true;·exact hq hq' hs
   ·by_cases hb:∃e sz,x=.gX e sz;·obtain⟨e,sz,rfl⟩:=hb;cases c with|true=>
     refine hreg (fun e=>match e with|.put v=>.put (.b5 true v)|e=>e) ?_ ?_;·intro e a' w' β' hR;cases e<;>first|exact hR.vv rfl|exact hR
     ·obtain⟨r,hr,hφ,hC⟩:=ae hs;show an _∧ai (ak _ _ _) _;rw[hr];exact⟨(hφ rfl).1,(hφ rfl).2,hC⟩|false=>obtain⟨r,hr,hφ,hC⟩:=ae hs;exact⟨_,β,hC,h.ew hdN' (.b5 _ _ _ (fun e=>by cases e) fun _=>rfl)⟩
    ·rw[Am (by simpa using hq') fun e sz hx=>hb ⟨e,sz,hx⟩]at hs;exact hs.elim|AM e sz zs=>have hs:ai (ak (.AM e sz zs) ((i.xs.map (Ab.ev st.vars)).map strip) st.aa) fun x=>(c=true→an (i.xs.map (Ab.ev st.vars))∧x.1)∧C (.put (.b5 c x.2)):=hs;rw[Dw]at hs;exact hs.elim|_=>exact hq rfl hs
end
theorem nv {P:Program}{Γ:bN}{d:Option Nat}{k:AK}{xs:List AV}{aa:Nat→Option AO}{C:bz→Prop} (hs:aQ P Γ d k xs aa C):∃e,C e∧aQ P Γ d k xs aa fun e'=>e'=e:=by cases k with
 |aB=>dsimp only[aQ]at hs ⊢;obtain⟨x,hx,hl,hC⟩:=ae hs;exact⟨_,hC,by rw[hx];exact⟨hl,rfl⟩⟩|pick=>dsimp only[aQ]at hs ⊢;obtain⟨x,hx,hl,hC⟩:=ae hs;exact⟨_,hC,by rw[hx];exact⟨hl,rfl⟩⟩|bf e=>dsimp only[aQ]at hs ⊢;obtain⟨d,hd,ha,hw⟩:=ae hs;obtain⟨x,hx,hl,hn,hC⟩:=ae hw;exact⟨_,hC,by rw[hd];exact⟨ha,by rw[hx];exact⟨hl,hn,rfl⟩⟩⟩|box=>dsimp only[aQ]at hs ⊢;obtain⟨d,hd,ha,hw⟩:=ae hs;obtain⟨x,hx,hl,hn,hC⟩:=ae hw;exact⟨_,hC,by rw[hd];exact⟨ha,by rw[hx];exact⟨hl,hn,rfl⟩⟩⟩|alloc zs=>dsimp only[aQ]at hs ⊢;obtain⟨d,hd,ha,hw⟩:=ae hs;obtain⟨x,hx,hl,hn,hC⟩:=ae hw;exact⟨_,hC,by rw[hd];exact⟨ha,by rw[hx];exact⟨hl,hn,rfl⟩⟩⟩|fx e sz=>dsimp only[aQ]at hs ⊢;obtain⟨d,hd,ha,hw⟩:=ae hs;obtain⟨x,hx,hl,hn,hC⟩:=ae hw;exact⟨_,hC,by rw[hd];exact⟨ha,by rw[hx];exact⟨hl,hn,rfl⟩⟩⟩|store n=>dsimp only[aQ]at hs ⊢;obtain⟨ha,hw⟩:=hs;obtain⟨x,hx,hl,hC⟩:=ae hw;exact⟨_,hC,ha,by rw[hx];exact⟨hl,rfl⟩⟩|app e sz bytes=>
  dsimp only[aQ]at hs ⊢;obtain⟨ha,hw⟩:=hs;by_cases ho:mO (xs.map strip)=true;·rw[if_pos ho]at hw;obtain⟨x,hx,hl,hC⟩:=ae hw;exact⟨_,hC,ha,by rw[if_pos ho,hx];exact⟨hl,rfl⟩⟩
  ·rw[if_neg ho]at hw;obtain⟨d,hd,hw⟩:=ae hw;obtain⟨x,hx,hl,hn,hC⟩:=ae hw;exact⟨_,hC,ha,by rw[if_neg ho,hd];show ai (cm _ d _ _) _;rw[hx];exact⟨hl,hn,rfl⟩⟩|call f=>dsimp only[aQ,cr]at hs ⊢;obtain⟨d,hd,ha,hw⟩:=ae hs;obtain⟨ys,hys,hw⟩:=ae hw;obtain⟨⟨φ,r⟩,hr,h1,h2,h3,h4,hC⟩:=ae hw;exact⟨_,hC,by rw[hd];exact⟨ha,by rw[hys];show ai (gt Γ f ys) _;rw[hr];exact⟨h1,h2,h3,h4,rfl⟩⟩⟩|_=>obtain⟨ha,hw⟩:=hs;obtain⟨x,hx,hl,hC⟩:=ae hw;exact⟨_,hC,ha,by rw[hx];exact⟨hl,rfl⟩⟩
theorem tz {P:Program}{Γ:bN}{c:Bool}{d:Option Nat}{k:AK}{xs:List AV}{aa:Nat→Option AO}{C:bz→Prop} (hs:cb P Γ c d k xs aa C):∃e,C e∧cb P Γ c d k xs aa fun e'=>e'=e:=by
 have hmk:∀{v:AV},((c=true→aQ P Γ d k xs aa C)∧(c=false→C (.put v)))→∃e,C e∧((c=true→aQ P Γ d k xs aa fun e'=>e'=e)∧(c=false→bz.put v=e)):=by rintro v ⟨ht,hf⟩;cases c with|true=>obtain⟨e,he,hs⟩:=nv (ht rfl);exact⟨e,he,fun _=>hs,fun h=>by cases h⟩|false=>exact⟨_,hf rfl,fun h=>(by cases h),fun _=>rfl⟩
 cases k with|aB=>dsimp only[cb]at hs ⊢;obtain⟨x,hx,hl,hC⟩:=ae hs;exact⟨_,hC,by rw[hx];exact⟨hl,rfl⟩⟩|pick=>dsimp only[cb]at hs ⊢;obtain⟨x,hx,hl,hC⟩:=ae hs;exact⟨_,hC,by rw[hx];exact⟨hl,rfl⟩⟩|bf e=>exact hmk hs|box=>exact hmk hs|alloc zs=>exact hmk hs|fx e sz=>exact hmk hs|store n=>exact hmk hs|app e sz bytes=>exact hmk hs|call f=>
  dsimp only[cb]at hs ⊢;obtain⟨ys,hys,hs⟩:=ae hs;obtain⟨⟨φ,r⟩,hr,hs⟩:=ae hs;split at hs;·rename_i hif;obtain⟨h1,h2,h3,h4,hC⟩:=hs;exact⟨_,hC,by rw[hys];show ai (gt Γ f ys) _;rw[hr];show ite _ _ _;rw[if_pos hif];exact⟨h1,h2,h3,h4,rfl⟩⟩
  ·rename_i hif;obtain⟨e,he,hs⟩:=hmk hs;exact⟨e,he,by rw[hys];show ai (gt Γ f ys) _;rw[hr];show ite _ _ _;rw[if_neg hif];exact hs⟩|_=>dsimp only[cb]at hs ⊢;obtain⟨x,hx,hl,hC⟩:=ae hs;exact⟨_,hC,by rw[hx];exact⟨hl,rfl⟩⟩
theorem B8 {P:Program}{Γ:bN}{i:AI}{vars:Nat→AV}{aa:Nat→Option AO}{C:bz→Prop} (hs:dn P Γ i vars aa C):∃e,C e∧dn P Γ i vars aa fun e'=>e'=e:=by unfold dn at hs ⊢;cases hg:i.g with|none=>rw[hg]at hs;exact nv hs|some sw=>obtain⟨s,w⟩:=sw;rw[hg]at hs;dsimp only at hs ⊢;obtain⟨c,hc,hs⟩:=ae hs;obtain⟨e,he,hs⟩:=tz hs;exact⟨e,he,by rw[hc];exact hs⟩
theorem AZ (v:AV):(∃f cs,v=.bA f cs)∨((∀aa,m7 aa v=ey aa v)∧∀T aa,oR T aa v=mz T aa v):=by cases v<;>first|exact .inl ⟨_,_,rfl⟩|exact .inr ⟨fun _=>rfl,fun _ _=>rfl⟩
theorem CO (v:AV):(∃t o,v=.ptr t o)∨(∃cs,v=.agg cs)∨∀T aa,mz T aa v=td T v:=by cases v<;>first|exact .inl ⟨_,_,rfl⟩|exact .inr (.inl ⟨_,rfl⟩)|exact .inr (.inr fun _ _=>rfl)
theorem QV (v:AV):((∃t,v=.own t)∨∃t e lo hi,v=.sub t e lo hi)∨∀aa objs',dW aa v=dW objs' v:=by cases v<;>first|exact .inl (.inl ⟨_,rfl⟩)|exact .inl (.inr ⟨_,_,_,_,rfl⟩)|exact .inr fun _ _=>rfl|(rename_i p;exact .inr fun _ _=>by cases p<;>rfl)
section
variable{T:List Nat}{aa objs':Nat→Option AO} (hag:∀t,jf T t→aa t=objs' t)
include hag
theorem mB {v:AV} (h:td T v):dW aa v=dW objs' v:=by
 rcases QV v with(⟨t,rfl⟩|⟨t,e,lo,hi,rfl⟩)|hv;·simp only[dW];rw[hag t h]
 ·simp only[dW];rw[hag t h]
 ·exact hv _ _
theorem kp:∀{cs:List AV},fZ T cs→iC aa cs=iC objs' cs|[],_=>rfl|c::cs,h=>by simp only[iC];rw[mB hag h.1,kp h.2]
omit hag in theorem ql:∀{cs:List AV} (n:Nat),fZ T cs→fZ T (cs.drop n)|[],n,_=>by simp[fZ]|c::cs,0,h=>h|c::cs,n+1,h=>ql n h.2
theorem qj {v:AV} (h:mz T aa v):ey aa v=ey objs' v:=by cases v with
 |ptr t o=>obtain⟨h1,h2⟩:=h;simp only[ey];rw[←hag t h1];cases hb:eg (aa t) with|none=>rfl|some cs=>rw[hb]at h2;simp only[Option.getD_some]at h2;simp only[Option.bind_some];rw[kp hag (ql o h2)]
 |agg cs=>simp only[ey];rw[kp hag h]|bA f cs=>cases cs<;>rfl|rp cs=>rfl|pv p=>cases p<;>rfl|own t=>exact congrArg (Option.map AV.pv) (mB hag (v:=.own t) h)|aR t e i o=>rfl|sub t e lo hi=>exact congrArg (Option.map AV.pv) (mB hag (v:=.sub t e lo hi) h)|aL vs=>rfl|fr e rows=>rfl|bx cs=>rfl|mf es=>rfl|b5 g v=>rfl|ar=>rfl
theorem pG:∀{cs:List AV},jK T aa cs→jJ aa cs=jJ objs' cs|[],_=>rfl|c::cs,h=>by simp only[jJ];rw[qj hag h.1,pG h.2]
theorem B2 {v:AV} (h:oR T aa v):m7 aa v=m7 objs' v:=by
 rcases AZ v with⟨f,cs,rfl⟩|⟨h1,h2⟩;·exact congrArg (Option.map (AV.bA f)) (pG hag h)
 ·rw[h1,h1];rw[h2]at h;exact qj hag h
theorem mE:∀{cs:List AV},jh T aa cs→eL aa cs=eL objs' cs|[],_=>rfl|c::cs,h=>by simp only[eL];rw[B2 hag h.1,mE h.2]
theorem rh {v:AV} (h:mz T aa v):mz T objs' v:=by
 rcases CO v with⟨t,o,rfl⟩|⟨cs,rfl⟩|h2;·exact⟨h.1,by rw[←hag t h.1];exact h.2⟩
 ·exact h
 ·rw[h2]at h ⊢;exact h
theorem pC:∀{cs:List AV},jK T aa cs→jK T objs' cs|[],_=>trivial|c::cs,h=>⟨rh hag h.1,pC h.2⟩
theorem Bg {v:AV} (h:oR T aa v):oR T objs' v:=by
 rcases AZ v with⟨f,cs,rfl⟩|⟨h1,h2⟩;·exact pC hag h
 ·rw[h2]at h ⊢;exact rh hag h
theorem gD:∀{cs:List AV},jh T aa cs→jh T objs' cs|[],_=>trivial|c::cs,h=>⟨Bg hag h.1,gD h.2⟩
end
section
variable{T U:List Nat}{aa:Nat→Option AO} (hsub:∀t,jf U t→jf T t)
include hsub
theorem xx {v:AV} (h:td U v):td T v:=by cases v<;>first|trivial|exact hsub _ h
theorem nG:∀{cs:List AV},fZ U cs→fZ T cs|[],_=>trivial|c::cs,h=>⟨xx hsub h.1,nG h.2⟩
theorem rS {v:AV} (h:mz U aa v):mz T aa v:=by
 rcases CO v with⟨t,o,rfl⟩|⟨cs,rfl⟩|h2;·exact⟨hsub _ h.1,nG hsub h.2⟩
 ·exact nG hsub h
 ·rw[h2]at h ⊢;exact xx hsub h
theorem uA:∀{cs:List AV},jK U aa cs→jK T aa cs|[],_=>trivial|c::cs,h=>⟨rS hsub h.1,uA h.2⟩
theorem AE {v:AV} (h:oR U aa v):oR T aa v:=by
 rcases AZ v with⟨f,cs,rfl⟩|⟨h1,h2⟩;·exact uA hsub h
 ·rw[h2]at h ⊢;exact rS hsub h
theorem qw:∀{cs:List AV},jh U aa cs→jh T aa cs|[],_=>trivial|c::cs,h=>⟨AE hsub h.1,qw h.2⟩
end
theorem gu {k:AK}{ys:List AV}{aa objs':Nat→Option AO}{r:Prop×AV} (hk:aE k=true) (h:ak k ys aa=some r):ak k ys objs'=some r:=by unfold ak at h;split at h<;>first|exact h|(simp[aE]at hk;done)|cases h
section
variable{T:List Nat}{aa objs':Nat→Option AO} (hag:∀t,jf T t→aa t=objs' t)
include hag
theorem wh {x:AV} (h:oR T aa x):ez aa x=ez objs' x:=by cases x with|own t=>simp only[ez];rw[hag t h]|sub t e lo hi=>simp only[ez];rw[hag t h]|pv p=>cases p<;>rfl|_=>rfl
theorem sa {k:AK}{ys:List AV}{r:Prop×AV} (hno:jh T aa ys) (h:ak k ys aa=some r):ak k ys objs'=some r:=by unfold ak at h;split at h<;>first|exact h|(simp only[ak];rw[←hag _ hno.1];exact h)|(simp only[ak];rw[←hag _ hno.1.1];exact h)|(simp only[ak];rw[←wh hag hno.1];exact h)|cases h
theorem yR {k:AK}{ys:List AV}{r:Prop×Nat×AO} (hk:isApp k=false) (hno:jh T aa ys) (h:dQ k ys aa=some r):dQ k ys objs'=some r:=by unfold dQ at h;split at h<;>first|(simp only[dQ];rw[←hag _ hno.1];exact h)|(simp only[dQ];rw[←hag _ hno.1.1];exact h)|(simp[isApp]at hk;done)|cases h
omit hag in theorem BC {k:AK}{d:Nat}{ys:List AV}{r:Prop×AV×AO} (hk:isApp k=false) (h:cm k d ys aa=some r):cm k d ys objs'=some r:=by unfold cm at h;split at h<;>first|exact h|(simp[isApp]at hk;done)|cases h
theorem qX {P:Program}{Γ:bN}{d:Option Nat}{k:AK}{xs:List AV}{C:bz→Prop} (hk:isApp k=false) (hd:∀s,d=some s→s<1000∧T.contains s=false) (hno:aE k=true∨jh T aa (xs.map strip)) (hs:aQ P Γ d k xs aa C):aQ P Γ d k xs objs' C:=by
 have hfree:∀s p,d=some s→aa (s+1000*p)=objs' (s+1000*p):=by intro s p hs;refine hag _ ?_;unfold jf;rw[Nat.add_mul_mod_self_left,Nat.mod_eq_of_lt (hd s hs).1];exact(hd s hs).2
 have hmk:∀{k:AK},isApp k=false→(ai d fun d=>an xs∧ai (cm k d (xs.map strip) aa) fun x=>x.1∧aa d=none∧C (.new x.2.1 [(d,x.2.2)]))→ai d fun d=>an xs∧ai (cm k d (xs.map strip) objs') fun x=>x.1∧objs' d=none∧C (.new x.2.1 [(d,x.2.2)]):=by intro k hk hw;obtain⟨s,hs,ha,hw⟩:=ae hw;obtain⟨x,hx,hφ,hn,hC⟩:=ae hw;rw[hs];refine⟨ha,?_⟩;rw[BC (aa:=aa) (objs':=objs') hk hx];have:=hfree s 0 hs;simp only[Nat.mul_zero,Nat.add_zero]at this;exact⟨hφ,this▸hn,hC⟩
 cases k with|aB=>exact hs|pick=>exact hs|bf e=>exact hmk (k:=.bf e) rfl hs|box=>exact hmk (k:=.box) rfl hs|alloc zs=>exact hmk (k:=.alloc zs) rfl hs|fx e sz=>exact hmk (k:=.fx e sz) rfl hs|store n=>have hno:=hno.resolve_left (by simp[aE]);obtain⟨ha,hw⟩:=hs;refine⟨ha,?_⟩;obtain⟨x,hx,hC⟩:=ae hw;rw[yR hag hk hno hx];exact hC|app e sz bytes=>simp[isApp]at hk|call f=>have hno:=hno.resolve_left (by simp[aE]);dsimp only[aQ,cr]at hs ⊢;obtain⟨s,hs',ha,hw⟩:=ae hs;obtain⟨ys,hys,hw⟩:=ae hw;obtain⟨⟨φ,r⟩,hr,h1,h2,h3,h4,hC⟩:=ae hw;rw[hs'];refine⟨ha,?_⟩;rw[←mE hag hno,hys];show ai (gt Γ f ys) _;rw[hr];refine⟨h1,h2,?_,h4,hC⟩;intro x hx;have:=h3 x hx;obtain⟨y,hy⟩:=ui s r x hx;rw[hy]at this ⊢;rw[←hfree s y hs'];exact this|_=>obtain⟨ha,hw⟩:=hs;refine⟨ha,?_⟩;obtain⟨x,hx,hC⟩:=ae hw;rw[hno.elim (fun h=>gu (objs':=objs') h hx) (fun h=>sa hag h hx)];exact hC
theorem yJ {P:Program}{Γ:bN}{c:Bool}{d:Option Nat}{k:AK}{xs:List AV}{C:bz→Prop} (hk:isApp k=false) (hd:∀s,d=some s→s<1000∧T.contains s=false) (hno:aE k=true∨jh T aa (xs.map strip)) (hs:cb P Γ c d k xs aa C):cb P Γ c d k xs objs' C:=by have hmk:∀{v:AV},((c=true→aQ P Γ d k xs aa C)∧(c=false→C (.put v)))→((c=true→aQ P Γ d k xs objs' C)∧(c=false→C (.put v))):=fun h=>⟨fun hc=>qX hag hk hd hno (h.1 hc),h.2⟩;cases k with
 |aB=>exact hs|pick=>exact hs|bf e=>exact hmk hs|box=>exact hmk hs|alloc zs=>exact hmk hs|fx e sz=>exact hmk hs|store n=>exact hmk hs|app e sz bytes=>exact hmk hs|call f=>
  have hno:=hno.resolve_left (by simp[aE]);dsimp only[cb]at hs ⊢;rw[←mE hag hno];obtain⟨ys,hys,hs⟩:=ae hs;obtain⟨⟨φ,r⟩,hr,hs⟩:=ae hs;rw[hys];show ai (gt Γ f ys) _;rw[hr];show ite _ _ _;split at hs;·rename_i hif;rw[if_pos hif];exact hs
  ·rename_i hif;rw[if_neg hif];exact hmk hs|_=>dsimp only[cb]at hs ⊢;obtain⟨x,hx,hC⟩:=ae hs;rw[hno.elim (fun h=>gu (objs':=objs') h hx) (fun h=>sa hag h hx)];exact hC
end
theorem jx (t:Nat):∀a:AV,strip (kill t a)=kill t (strip a)|.b5 g v=>by simp only[kill,strip];exact jx t v|.pv p=>rfl|.own s=>by show strip (if s=t then .ar else .own s)=(if s=t then .ar else .own s);split<;>rfl|.ptr s o=>rfl|.aR s e i o=>by show strip (if s=t then .ar else .aR s e i o)=(if s=t then .ar else .aR s e i o);split<;>rfl|.sub s e i o=>by show strip (if s=t then .ar else .sub s e i o)=(if s=t then .ar else .sub s e i o);split<;>rfl|.rp cs=>rfl|.agg cs=>rfl|.aL vs=>rfl|.bA f []=>rfl|.bA f (c::cs)=>rfl|.fr e rows=>rfl|.bx _=>rfl|.mf _=>rfl|.ar=>rfl
theorem tV (t:Nat):∀a:AV,asks (kill t a)=asks a|.b5 g v=>by simp only[kill,asks];rw[tV t v]|.pv p=>rfl|.own s=>by show asks (if s=t then .ar else .own s)=asks (.own s);split<;>rfl|.ptr s o=>rfl|.aR s e i o=>by show asks (if s=t then .ar else .aR s e i o)=asks (.aR s e i o);split<;>rfl|.sub s e i o=>by show asks (if s=t then .ar else .sub s e i o)=asks (.sub s e i o);split<;>rfl|.rp cs=>rfl|.agg cs=>rfl|.aL vs=>rfl|.bA f []=>rfl|.bA f (c::cs)=>rfl|.fr e rows=>rfl|.bx _=>rfl|.mf _=>rfl|.ar=>rfl
theorem wz {t:Nat}{v:AV}{p:PV} (h:kill t v=.pv p):v=.pv p:=by cases v with|pv q=>exact h|own s=>have h:(if s=t then AV.ar else .own s)=.pv p:=h;split at h<;>cases h|aR s e i o=>have h:(if s=t then AV.ar else .aR s e i o)=.pv p:=h;split at h<;>cases h|sub s e i o=>have h:(if s=t then AV.ar else .sub s e i o)=.pv p:=h;split at h<;>cases h|bA f cs=>cases cs<;>cases h|_=>cases h
theorem Fq (t:Nat) (v:Value):kill t (cv v)=cv v:=by unfold cv;split<;>rfl
theorem FA (t:Nat) (vars:Nat→AV) (x:Operand):Ab.ev (cj t vars) x=kill t (Ab.ev vars x):=by cases x with|const v=>exact(Fq t v).symm|_=>rfl
theorem kI (t:Nat) (vars:Nat→AV) (xs:List Operand):xs.map (Ab.ev (cj t vars))=(xs.map (Ab.ev vars)).map (kill t):=by rw[List.map_map];exact List.map_congr_left fun x _=>FA t vars x
theorem jn (t:Nat):∀xs:List AV,an (xs.map (kill t))=an xs|[]=>rfl|x::xs=>by simp only[List.map_cons,an];rw[tV,jn t xs]
theorem oJ {t:Nat}:∀{xs:List AV},(∀y∈xs.map strip,∃p,y=AV.pv p)→(xs.map (kill t)).map strip=xs.map strip|[],_=>rfl|x::xs,h=>by simp only[List.map_cons,List.mem_cons,forall_eq_or_imp]at h ⊢;obtain⟨⟨p,hp⟩,h⟩:=h;rw[oJ h,jx,hp];rfl
theorem lO {t:Nat}:∀{xs:List AV},(∀y∈(xs.map (kill t)).map strip,∃p,y=AV.pv p)→(xs.map (kill t)).map strip=xs.map strip|[],_=>rfl|x::xs,h=>by simp only[List.map_cons,List.mem_cons,forall_eq_or_imp]at h ⊢;obtain⟨⟨p,hp⟩,h⟩:=h;rw[lO h,hp];rw[jx]at hp;rw[wz hp]
theorem Au {k:AK}{ys:List AV}{aa:Nat→Option AO}{r:Prop×AV} (hk:aE k=true) (h:ak k ys aa=some r):(∀y∈ys,∃p,y=AV.pv p)∧∃q,r.2=.pv q:=by unfold ak at h;split at h<;>first|(simp[aE]at hk;done)|(obtain⟨x,_,rfl⟩:=Option.map_eq_some_iff.1 h;exact⟨by simp,_,rfl⟩)|(simp only[Option.some.injEq]at h;subst h;exact⟨by simp,_,rfl⟩)|cases h
section
variable{P:Program}{Γ:bN}{d:Option Nat}{k:AK}{xs:List AV}{aa objs':Nat→Option AO}{e:bz}{t:Nat}
def sV (k:AK) (xs:List AV):Option (Prop×AV):=match k with
 |.aB=>match xs with|[x]=>some (True,x)|_=>none
 |k=>(ak k (xs.map strip) fun _=>none).map fun r=>(an xs∧r.1,r.2)
theorem fo (hk:aE k=true):aQ P Γ d k xs aa (fun e'=>e'=e)↔∃φ v,sV k xs=some (φ,v)∧φ∧e=.put v:=by
 have hq:∀{k:AK},aE k=true→((an xs∧ai (ak k (xs.map strip) aa) fun x=>x.1∧bz.put x.2=e)↔∃φ v,((ak k (xs.map strip) fun _=>none).map fun r=>(an xs∧r.1,r.2))=some (φ,v)∧φ∧e=.put v):=by
  intro k hk;constructor;·rintro⟨ha,hw⟩;obtain⟨r,hr,hφ,he⟩:=ae hw;exact⟨an xs∧r.1,r.2,by rw[gu (objs':=fun _=>none) hk hr];rfl,⟨ha,hφ⟩,he.symm⟩
  ·rintro⟨φ,v,hs,hφ,he⟩;obtain⟨r,hr,hx⟩:=Option.map_eq_some_iff.1 hs;cases hx;exact⟨hφ.1,by rw[gu (objs':=aa) hk hr];exact⟨hφ.2,he.symm⟩⟩
 cases k with
 |aB=>
  dsimp only[aQ,sV];constructor;·intro h;obtain⟨x,hx,hl,he⟩:=ae h;obtain⟨y,rfl⟩:=List.length_eq_one_iff.1 hl;simp only[List.head?_cons,Option.some.injEq]at hx;subst hx;exact⟨_,_,rfl,trivial,he.symm⟩
  ·rintro⟨φ,v,hs,hφ,rfl⟩;split at hs;·cases hs;exact⟨rfl,rfl⟩
   ·cases hs|bin op=>exact hq rfl|beq ne=>exact hq rfl|not=>exact hq rfl|neg=>exact hq rfl|iO k=>exact hq rfl|Ag=>exact hq rfl|_=>simp[aE]at hk
theorem fg {c:Bool} (hk:aE k=true):cb P Γ c d k xs aa (fun e'=>e'=e)↔∃φ v,sV k xs=some (φ,v)∧(c=true→φ)∧e=.put (.b5 c v):=by
 have hq:∀{k:AK},aE k=true→((ai (ak k (xs.map strip) aa) fun x=>(c=true→an xs∧x.1)∧bz.put (.b5 c x.2)=e)↔∃φ v,((ak k (xs.map strip) fun _=>none).map fun r=>(an xs∧r.1,r.2))=some (φ,v)∧(c=true→φ)∧e=.put (.b5 c v)):=by
  intro k hk;constructor;·intro hw;obtain⟨r,hr,hφ,he⟩:=ae hw;exact⟨an xs∧r.1,r.2,by rw[gu (objs':=fun _=>none) hk hr];rfl,hφ,he.symm⟩
  ·rintro⟨φ,v,hs,hφ,he⟩;obtain⟨r,hr,hx⟩:=Option.map_eq_some_iff.1 hs;cases hx;rw[gu (objs':=aa) hk hr];exact⟨hφ,he.symm⟩
 cases k with
 |aB=>
  dsimp only[cb,sV];constructor;·intro h;obtain⟨x,hx,hl,he⟩:=ae h;obtain⟨y,rfl⟩:=List.length_eq_one_iff.1 hl;simp only[List.head?_cons,Option.some.injEq]at hx;subst hx;exact⟨_,_,rfl,fun _=>trivial,he.symm⟩
  ·rintro⟨φ,v,hs,hφ,rfl⟩;split at hs;·cases hs;exact⟨rfl,rfl⟩
   ·cases hs|bin op=>exact hq rfl|beq ne=>exact hq rfl|not=>exact hq rfl|neg=>exact hq rfl|iO k=>exact hq rfl|Ag=>exact hq rfl|_=>simp[aE]at hk
theorem uu {φ:Prop}{v:AV} (hk:aE k=true) (h:sV k xs=some (φ,v)):sV k (xs.map (kill t))=some (φ,kill t v):=by
 have hq:((ak k (xs.map strip) fun _=>none).map fun r=>(an xs∧r.1,r.2))=some (φ,v)→((ak k ((xs.map (kill t)).map strip) fun _=>none).map fun r=>(an (xs.map (kill t))∧r.1,r.2))=some (φ,kill t v):=by intro h;obtain⟨r,hr,hx⟩:=Option.map_eq_some_iff.1 h;obtain⟨hp,q,hq⟩:=Au hk hr;cases hx;rw[oJ hp,hr,jn,hq];show some (an xs∧r.1,r.2)=_;rw[hq];rfl
 cases k with
 |aB=>
  dsimp only[sV]at h ⊢;split at h;·cases h;rfl
  ·cases h|bin op=>exact hq h|beq ne=>exact hq h|not=>exact hq h|neg=>exact hq h|iO k=>exact hq h|Ag=>exact hq h|_=>simp[aE]at hk
theorem oD {φ:Prop}{v:AV} (hk:aE k=true) (h:sV k (xs.map (kill t))=some (φ,v)):∃u,v=kill t u∧sV k xs=some (φ,u):=by
 have hq:((ak k ((xs.map (kill t)).map strip) fun _=>none).map fun r=>(an (xs.map (kill t))∧r.1,r.2))=some (φ,v)→∃u,v=kill t u∧((ak k (xs.map strip) fun _=>none).map fun r=>(an xs∧r.1,r.2))=some (φ,u):=by intro h;obtain⟨r,hr,hx⟩:=Option.map_eq_some_iff.1 h;obtain⟨hp,q,hq⟩:=Au hk hr;rw[lO hp]at hr;rw[jn]at hx;cases hx;exact⟨r.2,by rw[hq];rfl,by rw[hr];rfl⟩
 cases k with
 |aB=>
  dsimp only[sV]at h ⊢;rcases xs with _|⟨x,_|⟨y,xs⟩⟩;·cases h
  ·cases h;exact⟨x,rfl,rfl⟩
  ·cases h|bin op=>exact hq h|beq ne=>exact hq h|not=>exact hq h|neg=>exact hq h|iO k=>exact hq h|Ag=>exact hq h|_=>simp[aE]at hk
end
section
variable{P:Program}{Γ:bN}{i:AI}{vars vars':Nat→AV}{aa objs':Nat→Option AO}{e:bz}{t:Nat}
theorem mF (w:Bool):∀v:AV,bE (kill t v) w=bE v w|.b5 c v=>by simp only[kill,bE];rw[mF w v]|.own s|.aR s _ _ _|.sub s _ _ _=>by simp only[kill,bU];split<;>rfl|.bA f cs=>by cases cs<;>rfl|.pv _|.ptr _ _|.rp _|.agg _|.aL _|.fr _ _|.bx _|.mf _|.ar=>rfl
theorem oH {v:AV}{w c:Bool}:bE (kill t v) w=some c↔bE v w=some c:=by rw[mF]
theorem rP (hk:aE i.k=true) (h:dn P Γ i vars aa fun e'=>e'=e):∃v,e=.put v∧∀t objs',dn P Γ i (cj t vars) objs' fun e'=>e'=.put (kill t v):=by unfold dn at h ⊢;cases hg:i.g with|none=>rw[hg]at h;obtain⟨φ,v,hs,hφ,rfl⟩:=(fo hk).1 h;refine⟨v,rfl,fun t objs'=>?_⟩;rw[kI];exact(fo hk).2 ⟨φ,_,uu hk hs,hφ,rfl⟩|some sw=>obtain⟨s,w⟩:=sw;rw[hg]at h;dsimp only at h ⊢;obtain⟨c,hc,h⟩:=ae h;obtain⟨φ,v,hs,hφ,rfl⟩:=(fg hk).1 h;refine⟨_,rfl,fun t objs'=>?_⟩;rw[show cj t vars s=kill t (vars s) from rfl,oH.2 hc,kI];exact(fg hk).2 ⟨φ,_,uu hk hs,hφ,rfl⟩
theorem np (hk:aE i.k=true) (h:dn P Γ i (cj t vars) aa fun e'=>e'=e):∃v,e=.put (kill t v)∧∀objs',dn P Γ i vars objs' fun e'=>e'=.put v:=by unfold dn at h ⊢;cases hg:i.g with|none=>rw[hg]at h;dsimp only at h;rw[kI]at h;obtain⟨φ,v,hs,hφ,rfl⟩:=(fo hk).1 h;obtain⟨u,rfl,hu⟩:=oD hk hs;exact⟨u,rfl,fun objs'=>(fo hk).2 ⟨φ,_,hu,hφ,rfl⟩⟩|some sw=>obtain⟨s,w⟩:=sw;rw[hg]at h;dsimp only at h ⊢;obtain⟨c,hc,h⟩:=ae h;rw[kI]at h;obtain⟨φ,v,hs,hφ,rfl⟩:=(fg hk).1 h;obtain⟨u,rfl,hu⟩:=oD hk hs;refine⟨.b5 c u,rfl,fun objs'=>?_⟩;rw[oH.1 hc];exact(fg hk).2 ⟨φ,_,hu,hφ,rfl⟩
theorem dg (hk:aE i.k=true) (h:dn P Γ i vars aa fun e'=>e'=e):(∃v,e=.put v)∧∀objs',dn P Γ i vars objs' fun e'=>e'=e:=by unfold dn at h ⊢;cases hg:i.g with|none=>rw[hg]at h;obtain⟨φ,v,hs,hφ,rfl⟩:=(fo hk).1 h;exact⟨⟨v,rfl⟩,fun objs'=>(fo hk).2 ⟨φ,_,hs,hφ,rfl⟩⟩|some sw=>obtain⟨s,w⟩:=sw;rw[hg]at h;dsimp only at h ⊢;obtain⟨c,hc,h⟩:=ae h;obtain⟨φ,v,hs,hφ,rfl⟩:=(fg hk).1 h;exact⟨⟨_,rfl⟩,fun objs'=>by rw[hc];exact(fg hk).2 ⟨φ,_,hs,hφ,rfl⟩⟩
theorem Ef {x:Operand} (h:∀s∈tmpsOf [x],vars s=vars' s):Ab.ev vars x=Ab.ev vars' x:=by cases x with|tmp t=>exact h t (by simp[tmpsOf])|_=>rfl
theorem ff:∀{xs:List Operand},(∀s∈tmpsOf xs,vars s=vars' s)→xs.map (Ab.ev vars)=xs.map (Ab.ev vars')|[],_=>rfl|x::xs,h=>by have h1:Ab.ev vars x=Ab.ev vars' x:=Ef fun s hs=>h s (by cases x<;>simp_all[tmpsOf]);have h2:xs.map (Ab.ev vars)=xs.map (Ab.ev vars'):=ff fun s hs=>h s (by cases x<;>simp_all[tmpsOf]);simp only[List.map_cons,h1,h2]
theorem dy {C:bz→Prop} (ha:∀s∈cD i,vars s=vars' s) (h:dn P Γ i vars aa C):dn P Γ i vars' aa C:=by have hx:=ff (vars:=vars) (vars':=vars') (xs:=i.xs) fun s hs=>ha s (List.mem_append_left _ hs);unfold dn at h ⊢;rw[←hx];cases hg:i.g with|none=>rw[hg]at h;exact h|some sw=>obtain⟨s,w⟩:=sw;rw[hg]at h;dsimp only at h ⊢;rw[←ha s (List.mem_append_right _ (by rw[hg];simp))];exact h
theorem sm {T:List Nat}{C:bz→Prop} (hag:∀t,jf T t→aa t=objs' t) (hk:isApp i.k=false) (hd:∀s,i.d=some s→s<1000∧T.contains s=false) (hno:aE i.k=true∨jh T aa ((i.xs.map (Ab.ev vars)).map strip)) (h:dn P Γ i vars aa C):dn P Γ i vars objs' C:=by unfold dn at h ⊢;cases hg:i.g with|none=>rw[hg]at h;exact qX hag hk hd hno h|some sw=>obtain⟨s,w⟩:=sw;rw[hg]at h;dsimp only at h ⊢;obtain⟨c,hc,h⟩:=ae h;rw[hc];exact yJ hag hk hd hno h
def mR (i:AI) (e:bz):Prop:=(∃v,e=.put v)∨(makes i.k=true∧∃d v os,i.d=some d∧e=.new v os∧∀x∈os,∃p,x.1=d+1000*p)∨(writes i.k=true∧makes i.k=false∧∃t o,e=.uI t o)∨(isApp i.k=true∧∃t o,e=.app t o)
theorem xf {xs:List AV} (h:aQ P Γ i.d i.k xs aa fun e'=>e'=e):mR i e:=by
 have hmk:∀{k:AK},makes i.k=true→(ai i.d fun d=>an xs∧ai (cm k d (xs.map strip) aa) fun x=>x.1∧aa d=none∧bz.new x.2.1 [(d,x.2.2)]=e)→mR i e:=by intro k hk hw;obtain⟨d,hd,ha,hw⟩:=ae hw;obtain⟨x,hx,hφ,hn,rfl⟩:=ae hw;exact .inr (.inl ⟨hk,d,_,_,hd,rfl,fun x hx=>⟨0,by simp only[List.mem_singleton]at hx;rw[hx];rfl⟩⟩)
 cases hk:i.k with|aB=>rw[hk]at h;obtain⟨φ,v,_,_,rfl⟩:=(fo rfl).1 h;exact .inl ⟨v,rfl⟩|pick=>rw[hk]at h;dsimp only[aQ]at h;obtain⟨x,_,_,rfl⟩:=ae h;exact .inl ⟨_,rfl⟩|bf e=>rw[hk]at h;exact hmk (by rw[hk];rfl) h|box=>rw[hk]at h;exact hmk (by rw[hk];rfl) h|alloc zs=>rw[hk]at h;exact hmk (by rw[hk];rfl) h|fx e sz=>rw[hk]at h;exact hmk (by rw[hk];rfl) h|store n=>rw[hk]at h;obtain⟨_,hw⟩:=h;obtain⟨x,_,_,rfl⟩:=ae hw;exact .inr (.inr (.inl ⟨by rw[hk];rfl,by rw[hk];rfl,_,_,rfl⟩))|app e sz bytes=>
  rw[hk]at h;dsimp only[aQ]at h;obtain⟨ha,hw⟩:=h;split at hw;·obtain⟨x,_,_,rfl⟩:=ae hw;exact .inr (.inr (.inr ⟨by rw[hk];rfl,_,_,rfl⟩))
  ·obtain⟨d,hd,hw⟩:=ae hw;obtain⟨x,hx,hφ,hn,rfl⟩:=ae hw;exact .inr (.inl ⟨by rw[hk];rfl,d,_,_,hd,rfl,fun x hx=>⟨0,by simp only[List.mem_singleton]at hx;rw[hx];rfl⟩⟩)|call f=>rw[hk]at h;dsimp only[aQ,cr]at h;obtain⟨d,hd,ha,hw⟩:=ae h;obtain⟨ys,hys,hw⟩:=ae hw;obtain⟨⟨φ,r⟩,hr,h1,h2,h3,h4,rfl⟩:=ae hw;refine .inr (.inl ⟨by rw[hk];rfl,d,_,_,hd,rfl,fun x hx=>?_⟩);exact ui d r x hx|_=>rw[hk]at h;obtain⟨_,hw⟩:=h;obtain⟨x,_,_,rfl⟩:=ae hw;exact .inl ⟨_,rfl⟩
theorem yn (h:dn P Γ i vars aa fun e'=>e'=e):mR i e:=by unfold dn at h;cases hg:i.g with|none=>rw[hg]at h;exact xf h|some sw=>
 obtain⟨s,w⟩:=sw;rw[hg]at h;dsimp only at h;obtain⟨c,hc,h⟩:=ae h;have hmk:∀{v:AV},((c=true→aQ P Γ i.d i.k (i.xs.map (Ab.ev vars)) aa fun e'=>e'=e)∧(c=false→bz.put v=e))→mR i e:=by rintro v ⟨ht,hf⟩;cases c with|true=>exact xf (ht rfl)|false=>exact .inl ⟨_,(hf rfl).symm⟩
 cases hk:i.k with
 |aB=>rw[hk]at h;obtain⟨φ,v,_,_,rfl⟩:=(fg rfl).1 h;exact .inl ⟨_,rfl⟩|pick=>rw[hk]at h;dsimp only[cb]at h;obtain⟨x,_,_,rfl⟩:=ae h;exact .inl ⟨_,rfl⟩|bf e=>rw[hk]at h hmk;exact hmk h|box=>rw[hk]at h hmk;exact hmk h|alloc zs=>rw[hk]at h hmk;exact hmk h|fx e sz=>rw[hk]at h hmk;exact hmk h|store n=>rw[hk]at h hmk;exact hmk h|app e sz bytes=>rw[hk]at h hmk;exact hmk h|call f=>
  rw[hk]at h hmk;dsimp only[cb]at h;obtain⟨ys,hys,h⟩:=ae h;obtain⟨⟨φ,r⟩,hr,h⟩:=ae h;split at h;·obtain⟨h1,h2,h3,h4,rfl⟩:=h;exact .inl ⟨_,rfl⟩
  ·exact hmk h|_=>rw[hk]at h;dsimp only[cb]at h;obtain⟨x,_,_,rfl⟩:=ae h;exact .inl ⟨_,rfl⟩
end
end Go.Proofs.YtlmkcmfmfahcfaaGreat.Ab
