/- The abstract machine is sound: a call of a function that takes objects whole, or borrows them. -/
import Derived.Test.YtlmkcmfmfahcfaaGreatX4
import Derived.Laws.StructEq
import Derived.MapKept
import Derived.Lib.LazyBuf
import Derived.Laws.Externs
import Derived.Lib.AppendZeros
import Derived.Laws.MakeOwn
set_option linter.unusedVariables false
set_option linter.unusedSimpArgs false
set_option linter.unnecessarySimpa false
set_option maxHeartbeats 40000000
set_option maxRecDepth 100000
namespace Go.Proofs.YtlmkcmfmfahcfaaGreat.Ab
open Go Go.RowKit
section
variable{P:Program}{S S':Nat→Prop}{w w':World}{β β':Nat→Value}{D D':Nat→Prop}{aa objs':Nat→Option AO}
theorem HT.mono (hS:∀b,S b→S' b) {v:Value}{y:AV}{bs:List Nat} (h:HT P S w v y bs):HT P S' w v y bs:=by have hS2:∀b,S b→S' b∧w.heap[b]?=w.heap[b]?:=fun b hb=>⟨hS b hb,rfl⟩;induction h with|leaf v y h=>exact .leaf v y (h.mono hS2 fun _ hf=>hf.elim)|fr v e rows inf us h1 h2 h3 h4=>exact .fr v e rows inf us h1 h2 h3 fun i j r p a b=>by obtain⟨u,c,d,e⟩:=h4 i j r p a b;exact⟨u,c,d,e.mono hS2⟩|mf b us c es h1 hst h2 h3=>exact .mf b us c es h1 hst h2 fun i e u a b=>⟨(h3 i e u a b).1,(h3 i e u a b).2.1,(h3 i e u a b).2.2.1,(h3 i e u a b).2.2.2.mono hS2⟩|bx b us ty cs bss h1 h2 h3 h4 h5 ih=>exact .bx b us ty cs bss h1 h2 h3 h4 ih|agg us cs bss h1 h2 h3 ih=>exact .agg us cs bss h1 h2 ih|aK us cs bss h1 h2 h3 ih=>exact .aK us cs bss h1 h2 ih
theorem nb:∀(n:Nat) {v:Value}{y:AV},eP n y→RV P S w (fun _=>undef) (fun _=>False) v y→RV P S' w (fun _=>undef) (fun _=>False) v y
 |0,_,_,h,_=>h.elim|n+1,v,y,h,hv=>by
  unfold eP at h;split at h;·cases hv
  ·cases hv
  ·cases hv
  ·obtain⟨us,rfl,hl,hc⟩:=hv.cK;exact .agg _ us hl fun i c u a b=>nb n (h c (List.mem_of_getElem? a)) (hc i c u a b)
  ·obtain⟨us,rfl,hl,hc⟩:=hv.kF;exact .aK _ us hl fun i c u a b=>nb n (h c (List.mem_of_getElem? a)) (hc i c u a b)
  ·exact .pv _ _ (ej hv.bj h)
  ·obtain⟨us,rfl,hl,_⟩:=hv.ko;exact .bB _ [] us hl fun i c u hc=>by simp at hc
  ·exact h.elim
theorem HT.flat:∀(n:Nat) {v:Value}{y:AV}{bs:List Nat},eP n y→HT P S w v y bs→HT P S' w v y bs|0,_,_,_,h,_=>h.elim|n+1,v,y,bs,hf,h=>by cases h with|leaf v y h=>exact .leaf v y (nb (n+1) hf h)|fr v e rows inf us h1 h2 h3 h4=>exact .fr v e rows inf us h1 h2 h3 fun i j r p a b=>by obtain⟨u,c,d,e⟩:=h4 i j r p a b;exact⟨u,c,d,ej e (hf r (List.mem_of_getElem? a) p (List.mem_of_getElem? b))⟩|mf b us c es h1 hst h2 h3=>exact .mf b us c es h1 hst h2 fun i e u a b=>⟨(h3 i e u a b).1,(h3 i e u a b).2.1,(h3 i e u a b).2.2.1,ej (h3 i e u a b).2.2.2 (hf e (List.mem_of_getElem? a))⟩|bx b us ty cs bss h1 h2 h3 h4 h5=>exact .bx b us ty cs bss h1 h2 h3 h4 fun i c u bs a b d=>HT.flat n (hf c (List.mem_of_getElem? a)) (h5 i c u bs a b d)|agg us cs bss h1 h2 h3=>exact .agg us cs bss h1 h2 fun i c u bs a b d=>HT.flat n (hf c (List.mem_of_getElem? a)) (h3 i c u bs a b d)|aK us cs bss h1 h2 h3=>exact .aK us cs bss h1 h2 fun i c u bs a b d=>HT.flat n (hf c (List.mem_of_getElem? a)) (h3 i c u bs a b d)
theorem qH:∀(n:Nat) {x:AV}{r:AV×List Nat},rd n aa x=some r→(∀t∈r.2,aA aa t)∧∀l,r.1≠.aK l
 |0,_,_,h=>by cases h|n+1,x,r,h=>by
  have lst:∀{l:List AV}{q:List AV×List Nat},CF (rd n aa) l=some q→∀t∈q.2,aA aa t:=by intro l;induction l with|nil=>intro q h;cases h;intro t ht;simp at ht|cons c l ih=>
   intro q h t ht;obtain⟨r,hr,h⟩:=Option.bind_eq_some_iff.1 h;obtain⟨q',hq,rfl⟩:=Option.map_eq_some_iff.1 h;rcases List.mem_append.1 ht with ht|ht;·exact(qH n hr).1 t ht
   ·exact ih hq t ht
  unfold rd at h;split at h
  ·rename_i t;obtain⟨y,hy,rfl⟩:=Option.map_eq_some_iff.1 h;unfold Lb at hy;split at hy;·rename_i ho;cases hy;exact⟨fun s hs=>by simp only[List.mem_singleton]at hs;rw[hs];exact⟨_,ho⟩,fun l e=>by cases e⟩
   ·rename_i ho;cases hy;exact⟨fun s hs=>by simp only[List.mem_singleton]at hs;rw[hs];exact⟨_,ho⟩,fun l e=>by cases e⟩
   ·cases hy
  ·obtain⟨cs,hc,h⟩:=Option.bind_eq_some_iff.1 h;obtain⟨q,hq,rfl⟩:=Option.map_eq_some_iff.1 h;refine⟨fun s hs=>?_,fun l e=>by cases e⟩;rcases List.mem_cons.1 hs with rfl|hs;·exact⟨_,eB hc⟩
   ·exact lst hq s hs
  ·obtain⟨q,hq,rfl⟩:=Option.map_eq_some_iff.1 h;exact⟨lst hq,fun l e=>by cases e⟩
  ·cases h;exact⟨fun t ht=>by simp at ht,fun l e=>by cases e⟩
  ·cases h;exact⟨fun t ht=>by simp at ht,fun l e=>by cases e⟩
  ·cases h;exact⟨fun t ht=>by simp at ht,fun l e=>by cases e⟩
  ·cases h
theorem Ju {x y:AV} (h:mC aa x=some y):∀l,y≠.aK l:=by
 intro l e;subst e;have h1:∀x,ef aa x≠some (.aK l):=by
  intro x h;unfold ef at h;split at h;·obtain⟨_,_,h⟩:=Option.bind_eq_some_iff.1 h;obtain⟨_,_,h⟩:=Option.map_eq_some_iff.1 h;cases h
  ·cases h
  ·obtain⟨_,_,h⟩:=Option.map_eq_some_iff.1 h;cases h
  ·cases h
  ·obtain⟨_,_,h⟩:=Option.map_eq_some_iff.1 h;cases h
 unfold mC at h;split at h;·obtain⟨_,_,h⟩:=Option.map_eq_some_iff.1 h;cases h
 ·exact h1 _ h
theorem Cb {y:AV} (h:∀l,y≠.aK l):Dd y=false∧Ew y=y:=by cases y<;>first|exact⟨rfl,rfl⟩|exact absurd rfl (h _)
theorem BV (hh:Heap P S w β aa) (hS:∀b,S b→S' b) {T:List Nat} (hh':Heap P S w β objs') (hw:∀{v x},RV P S w β (aA aa) v x→RV P S w β (aA objs') v (eg T x)):∀{ks:List Nat}{xs ys:List AV}{vals:List Value},xq aa objs' T ks xs=some ys→vals.length=xs.length→(∀(i:Nat) (v:Value) (x:AV),vals[i]?=some v→xs[i]?=some x→RV P S w β (aA aa) v x)→(dF T ks xs=true∨∀t b,aA objs' t→bY (β t)=some b→S' b)→∃bss,Ba P S' w vals (ys.map Ew) bss∧bss.flatten=cJ β (dP aa ks xs)∧(∀t∈dP aa ks xs,aA aa t)∧(dJ ys vals).length=(dt ks xs).length∧∀(i:Nat) (c:AV) (u:Value),(dt ks xs)[i]?=some c→(dJ ys vals)[i]?=some u→RV P S w β (aA aa) u c
 |[],[],ys,vals,h,hl,_,_=>by cases h;cases vals with|nil=>exact⟨[],⟨rfl,rfl,fun i y v bs h=>by simp at h⟩,rfl,fun t ht=>by simp[dP]at ht,rfl,fun i c u hc=>by simp[dt]at hc⟩|cons v vs=>simp at hl
 |[],_::_,_,_,h,_,_,_=>by cases h|_::_,[],_,_,h,_,_,_=>by cases h|k::ks,x::xs,ys,vals,h,hl,hv,hp=>by obtain⟨y,hy,h⟩:=Option.bind_eq_some_iff.1 h;obtain⟨ys,hys,rfl⟩:=Option.map_eq_some_iff.1 h;match vals,hl with
  |v::vals,hl=>
   have hp':(k !=0||dr (eg T x))=true∧dF T ks xs=true∨∀t b,aA objs' t→bY (β t)=some b→S' b:=by
    rcases hp with h|h;·left;simpa[dF]using h
    ·exact .inr h
   obtain⟨bss,⟨l1,l2,hts⟩,hfl,hdm,hln,hlv⟩:=BV hh hS hh' hw hys (by simpa using hl) (fun i v x a b=>hv (i+1) v x (by simpa using a) (by simpa using b)) (hp'.imp And.right id);have hvx:=hv 0 v x rfl rfl;have one:∃bs,HT P S' w v (Ew y) bs∧bs=cJ β (if k=0 then[] else((rd 5 aa x).map (·.2)).getD [])∧(∀t∈(if k=0 then[] else((rd 5 aa x).map (·.2)).getD []),aA aa t)∧(Dd y=true↔1<k):=by
    by_cases h0:k=0;·subst h0;simp only[if_true]at hy ⊢;obtain⟨e1,e2⟩:=Cb (Ju hy);refine⟨[],.leaf _ _ ?_,rfl,fun t ht=>by simp at ht,by rw[e1];simp⟩;rw[e2];exact m7 hh' hS (hw hvx) hy (hp'.imp (fun h=>by simpa using h.1) id)
    ·simp only[if_neg h0]at hy ⊢;by_cases h1:k=1;·subst h1;simp only[if_true]at hy;obtain⟨r,hr,rfl⟩:=Option.map_eq_some_iff.1 hy;obtain⟨e1,e2⟩:=Cb (qH 5 hr).2;obtain⟨m1,m2⟩:=yJ (P:=P) 5 hr;refine⟨_,jU hh hS 5 (y:=Ew r.1) (by rw[e2];exact m1) hvx,by rw[hr,m2];rfl,fun t ht=>(qH 5 hr).1 t (by simpa[hr]using ht),by rw[e1];simp⟩
     ·simp only[if_neg h1]at hy;obtain⟨r,hr,rfl⟩:=Option.map_eq_some_iff.1 hy;obtain⟨m1,m2⟩:=yJ (P:=P) 5 hr;refine⟨_,jU hh hS 5 (y:=Ew (.aK [r.1])) m1 hvx,by rw[hr,m2];rfl,fun t ht=>(qH 5 hr).1 t (by simpa[hr]using ht),by simp only[Dd,true_iff];omega⟩
   obtain⟨bs,hbt,rfl,hbd,hk⟩:=one;refine⟨_::bss,⟨by simpa using l1,by simpa using l2,fun i y' v' bs' a b c=>?_⟩,by rw[List.flatten_cons,hfl];exact(ei β _ _).symm,fun t ht=>?_,?_,fun i c u=>?_⟩;·cases i with|zero=>simp only[List.map_cons,List.getElem?_cons_zero,Option.some.injEq]at a b c;rw[←a,←b,←c];exact hbt|succ i=>exact hts i y' v' bs' (by simpa using a) (by simpa using b) (by simpa using c)
   ·rcases List.mem_append.1 ht with ht|ht;·exact hbd t ht
    ·exact hdm t ht
   ·by_cases hc:1<k;·simp only[dJ,hk.2 hc,dt,hc,if_true,List.length_cons,hln]
    ·have:Dd y=false:=by cases he:Dd y with|false=>rfl|true=>exact absurd (hk.1 he) hc
     simp only[dJ,this,dt,hc,if_false,hln,Bool.false_eq_true]
   ·by_cases hc:1<k;·simp only[dJ,hk.2 hc,dt,hc,if_true];intro a b;cases i with|zero=>simp only[List.getElem?_cons_zero,Option.some.injEq]at a b;rw[←a,←b];exact hvx|succ i=>exact hlv i c u (by simpa using a) (by simpa using b)
    ·have:Dd y=false:=by cases he:Dd y with|false=>rfl|true=>exact absurd (hk.1 he) hc
     simp only[dJ,this,dt,hc,if_false,Bool.false_eq_true];exact hlv i c u
theorem zx {D':Nat→Prop}{u:Value}{c:AV} (h:RV P S w β D u c) (h':RV P S' w' β' D' u c):∀t∈oJ c,β' t=β t∧D' t:=by
 intro t ht;unfold oJ at ht;split at ht;·simp only[List.mem_singleton]at ht;subst ht;exact⟨h'.aV.1.symm.trans h.aV.1,h'.aV.2⟩
 ·simp only[List.mem_singleton]at ht;subst ht;obtain⟨b,e1,_,hb⟩:=h.dz;obtain⟨b',e2,hd,hb'⟩:=h'.dz;rw[hb,hb',←e1,←e2];exact⟨rfl,hd⟩
 ·simp at ht
theorem Ee {D':Nat→Prop}{u:Value}{c:AV} (h:RV P S w β D u c) (h':RV P S' w' β' D' u c):∀t∈oQ c,β' t=β t∧D' t:=by
 by_cases hx:∃cs,c=.agg cs
 ·obtain⟨cs,rfl⟩:=hx;intro t ht;obtain⟨c,hc,ht⟩:=List.mem_flatMap.1 ht;obtain⟨us,rfl,hl,hcs⟩:=h.cK;obtain⟨us',e,hl',hcs'⟩:=h'.cK;have:us=us':=by simpa using e
  subst this;obtain⟨i,hi⟩:=List.getElem?_of_mem hc;have hlt:i<us.length:=by rw[hl];exact(List.getElem?_eq_some_iff.1 hi).1
  exact zx (hcs i c _ hi (List.getElem?_eq_getElem hlt)) (hcs' i c _ hi (List.getElem?_eq_getElem hlt)) t ht
 ·have:oQ c=oJ c:=by cases c<;>first|rfl|exact absurd ⟨_,rfl⟩ hx
  rw[this];exact zx h h'
theorem Ba.snoc {vs:List Value}{ys:List AV}{v:Value}{y:AV}{bss:List (List Nat)} (h:Ba P S w (vs++[v]) (ys++[y]) bss) (hl:vs.length=ys.length):∃b1 bl,bss=b1++[bl]∧Ba P S w vs ys b1∧HT P S w v y bl:=by
 obtain⟨h1,h2,h3⟩:=h;have hl2:bss.length=ys.length+1:=by simpa using h2
 have hne:bss≠[]:=by intro e;rw[e]at hl2;simp at hl2
 obtain⟨b1,bl,rfl⟩:∃b1 bl,bss=b1++[bl]:=⟨bss.dropLast,bss.getLast hne,(List.dropLast_concat_getLast hne).symm⟩;have hb1:b1.length=ys.length:=by simpa using hl2
 refine⟨b1,bl,rfl,⟨hl,hb1,fun i y' v' bs a b c=>?_⟩,h3 ys.length y v bl (by simp) (by rw[←hl];simp) (by rw[←hb1];simp)⟩;have k1:=(List.getElem?_eq_some_iff.1 a).1;exact h3 i y' v' bs (by rw[List.getElem?_append_left k1];exact a) (by rw[List.getElem?_append_left (by omega)];exact b) (by rw[List.getElem?_append_left (by omega)];exact c)
end
theorem se {aa:Nat→Option AO}:∀(ks:List Nat) (xs:List AV) (t:Nat),t∈dP aa ks xs→aA aa t
 |[],_,_,ht=>by simp[dP]at ht|_::_,[],_,ht=>by simp[dP]at ht|k::ks,x::xs,t,ht=>by
  rcases List.mem_append.1 ht with ht|ht
  ·by_cases h0:k=0;·simp[h0]at ht
   ·rw[if_neg h0]at ht;cases hr:rd 5 aa x with|none=>rw[hr]at ht;simp at ht|some r=>rw[hr]at ht;exact(qH 5 hr).1 t (by simpa using ht)
  ·exact se ks xs t ht
theorem jb:∀{os:List (Nat×AO)}{t:Nat}{o:AO},ab os t=some o→(t,o)∈os
 |[],_,_,h=>by cases h|(s,o')::os,t,o,h=>by
  simp only[ab]at h;split at h;·rename_i e;cases h;rw[e];exact List.mem_cons_self
  ·exact List.mem_cons_of_mem _ (jb h)
theorem kq:∀{os:List (Nat×AO)}{p:Nat×AO},p∈os→∃o,ab os p.1=some o
 |[],_,h=>by simp at h|(s,o')::os,p,h=>by
  simp only[ab];split;·exact⟨o',rfl⟩
  ·rename_i hne;rcases List.mem_cons.1 h with rfl|h;·exact absurd rfl hne
   ·exact kq h
section
variable{P:Program}{S0 L:Nat→Prop}{B0:Nat→Value}{w0 w:World}{N:Nat}{st:St}{a:Act}{β:Nat→Value}
theorem BB {T:List Nat} (hL:T≠[]→∀b,L b→S0 b) (h:Rel P S0 L B0 w0 N st a w β) {f:FuncId}{d:Nat} (hd9:d%1000≠999) {ks:List Nat}{vals:List Value}{xs ys:List AV}{x:AV}{Q W:List Nat} (hl:vals.length=xs.length) (hv:∀(i:Nat) (v:Value) (x:AV),vals[i]?=some v→xs[i]?=some x→RV P (aR S0 w0.heap.size β st.aa w) w β (aA st.aa) v x) (hT:T=dP st.aa ks xs) (hQ:Q=(dt ks xs).flatMap oQ) (hW:W=T.filter fun t=>!Q.contains t) (hTn:T.Nodup) (hQT:∀t∈Q,t∈T) (hQn:(Q++mL d T W).Nodup) (hys:xq st.aa (dV T T st.aa) T ks xs=some ys) (hcon:wS P f ys x) (hpf:dF T ks xs=true∨∀y∈jz x++[jf x],eP 5 y) {o:List AV×List (Nat×AO)×List Nat×List Nat} (ho:lS (num 5 true) (jz x) (Q,mL d T W)=some o) (ho1:o.1=dt ks xs) {r:AV×List (Nat×AO)×List Nat×List Nat} (hr:num 5 false (jf x) o.2.2=some r) (hfree:∀p∈o.2.1++r.2.1,T.contains p.1=true∨st.aa p.1=none):Calls P f vals.toArray w fun e w'=>∃v β',e=.returned v∧Rel P S0 L B0 w0 N ⟨fG W st.vars,bk (o.2.1++r.2.1) (dV T W st.aa)⟩ a w' β'∧RV P (aR S0 w0.heap.size β' (bk (o.2.1++r.2.1) (dV T W st.aa)) w') w' β' (aA (bk (o.2.1++r.2.1) (dV T W st.aa))) v r.1:=by classical
 let S:=aR S0 w0.heap.size β st.aa w;have hTd:∀t∈T,aA st.aa t:=by intro t ht;rw[hT]at ht;exact se _ _ t ht
 have hTlive:∀b∈cJ β T,live β st.aa b∧b<w.heap.size:=by intro b hb;obtain⟨t,ht,hb⟩:=List.mem_filterMap.1 hb;obtain⟨o,ho⟩:=hTd t ht;exact⟨⟨t,o,ho,hb⟩,h.lt ⟨o,ho⟩ hb⟩
 have hTinj:∀t b,aA st.aa t→t∉T→bY (β t)=some b→b∉cJ β T:=by intro t b ht hn hb hm;obtain⟨s,hs,hb'⟩:=List.mem_filterMap.1 hm;exact hn (h.heap.inj t s b ht (hTd s hs) hb hb'▸hs)
 have hTnd:(cJ β T).Nodup:=by
  have:∀l:List Nat,l.Nodup→(∀t∈l,aA st.aa t)→(cJ β l).Nodup:=by intro l;induction l with|nil=>intro _ _;exact List.nodup_nil|cons t l ih=>
   intro hn hd;rw[List.nodup_cons]at hn;have e:cJ β (t::l)=(bY (β t)).toList++cJ β l:=by rw[←iG];exact ei β [t] l
   rw[e];cases hb:bY (β t) with|none=>exact ih hn.2 fun t ht=>hd t (List.mem_cons_of_mem _ ht)|some b=>show(b::cJ β l).Nodup;rw[List.nodup_cons];refine⟨fun hm=>?_,ih hn.2 fun t ht=>hd t (List.mem_cons_of_mem _ ht)⟩;obtain⟨s,hs,hb'⟩:=List.mem_filterMap.1 hm;exact hn.1 (h.heap.inj t s b (hd t List.mem_cons_self) (hd s (List.mem_cons_of_mem _ hs)) hb hb'▸hs)
  exact this T hTn hTd
 have hcT:∀t,T.contains t=true↔t∈T:=fun t=>by simp
 have hdom':∀t,aA (dV T T st.aa) t↔(t∉T∧aA st.aa t):=by
  intro t;simp only[aA,dV];constructor
  ·rintro⟨o,ho⟩;split at ho;·cases ho
   ·rename_i hc;obtain⟨o',ho',_⟩:=Option.map_eq_some_iff.1 ho;exact⟨fun hm=>hc ((hcT t).2 hm),o',ho'⟩
  ·rintro⟨hn,o,ho⟩;exact⟨gS T o,by rw[if_neg (fun hc=>hn ((hcT t).1 hc)),ho];rfl⟩
 have hDw:∀s,aA st.aa s→T.contains s=false→aA (dV T T st.aa) s∧β s=β s:=fun s hs hc=>⟨(hdom' s).2 ⟨fun hm=>absurd ((hcT s).2 hm) (by rw[hc];exact Bool.false_ne_true),hs⟩,rfl⟩;have hwp:∀{v x},RV P S w β (aA st.aa) v x→RV P S w β (aA (dV T T st.aa)) v (eg T x):=fun hx=>hx.eg (fun b hb=>⟨hb,rfl⟩) hDw;have hh':Heap P S w β (dV T T st.aa):=by
  refine⟨fun t o ht=>?_,fun t t' b ht ht'=>h.heap.inj t t' b ((hdom' t).1 ht).2 ((hdom' t').1 ht').2⟩;simp only[dV]at ht;split at ht;·cases ht
  ·obtain⟨o',ho',rfl⟩:=Option.map_eq_some_iff.1 ht;exact(h.heap.holds t o' ho').eg (fun b hb=>⟨hb,rfl⟩) hDw rfl (fun _ _=>rfl)
 obtain⟨S1,hS1,hS1b,hcase⟩:∃S1:Nat→Prop,(∀b,S b→S1 b)∧(∀b,S1 b→b<w.heap.size∧b∉cJ β T)∧((dF T ks xs=true∧S1=S)∨((∀y∈jz x++[jf x],eP 5 y)∧∀b,b<w.heap.size→b∉cJ β T→S1 b)):=by
  have hSb:∀b,S b→b<w.heap.size∧b∉cJ β T:=fun b hb=>⟨hb.2.1,fun hm=>hb.2.2 (hTlive b hm).1⟩;rcases hpf with hp|hp;·exact⟨S,fun b hb=>hb,hSb,.inl ⟨hp,rfl⟩⟩
  ·exact⟨fun b=>b<w.heap.size∧b∉cJ β T,hSb,fun b hb=>hb,.inr ⟨hp,fun b h1 h2=>⟨h1,h2⟩⟩⟩
 obtain⟨bss,hts,hbs,_,hln,hlv⟩:=BV h.heap hS1 hh' hwp hys hl hv (hcase.imp And.left fun hc t b ht hb=>hc.2 b (h.lt ((hdom' t).1 ht).2 hb) (hTinj t b ((hdom' t).1 ht).2 ((hdom' t).1 ht).1 hb));rw[←hT]at hbs;refine(hcon w S1 vals bss (fun b hb=>by rw[hbs];exact hS1b b hb) (by rw[hbs];exact hTnd) hts).mono ?_;rw[hbs];rintro e w' ⟨v,bss',rfl,hfr,hnd,hloc,hres⟩;let S3:Nat→Prop:=fun b=>(S0 b∨w0.heap.size≤b)∧b<w'.heap.size∧b∉bss'.flatten∧¬∃t,aA st.aa t∧t∉T∧bY (β t)=some b;have hTold:∀b∈cJ β T,S0 b∨w0.heap.size≤b:=by intro b hb;obtain⟨t,ht,hb⟩:=List.mem_filterMap.1 hb;exact(h.old t b (hTd t ht) hb).elim .inr fun hl=>.inl (hL (fun e=>by rw[e]at ht;cases ht) b hl)
 have hres3:Ba P S3 w' (dJ ys vals++[v]) (jz x++[jf x]) bss':=by
  refine⟨hres.1,hres.2.1,fun i y u bs a1 a2 a3=>?_⟩;have hx:=hres.2.2 i y u bs a1 a2 a3;rcases hcase with⟨_,hSe⟩|⟨hfl,_⟩
  ·refine hx.mono ?_;rw[hSe];rintro b ⟨h1,h2,h3⟩;refine⟨?_,h2,h3,?_⟩
   ·rcases h1 with h1|h1|h1;·exact h1.1
    ·exact hTold b h1
    ·exact .inr (Nat.le_trans h.bT.size h1)
   ·rintro⟨t,ht,hn,hb⟩;rcases h1 with h1|h1|h1;·obtain⟨o,ho⟩:=ht;exact h1.2.2 ⟨t,o,ho,hb⟩
    ·exact hTinj t b ht hn hb h1
    ·have:=h.lt ht hb;omega
  ·exact hx.flat 5 (hfl y (List.mem_of_getElem? a1))
 obtain⟨p1,n1,l1⟩:=mq (P:=P) (S:=S3) (S':=S3) (w:=w') (nH (fun b hb=>hb) 5 true) (jz x) _ o ho;obtain⟨p2,l2⟩:=nH (P:=P) (S:=S3) (S':=S3) (w:=w') (fun b hb=>hb) 5 false _ _ r hr;have hlen:(dJ ys vals).length=(jz x).length:=by rw[hln,←ho1,n1]
 obtain⟨b1,bl,rfl,ht1,ht2⟩:=hres3.snoc hlen;rw[List.flatten_append,List.nodup_append]at hnd;have ebl:[bl].flatten=bl:=by simp
 rw[ebl]at hnd;have hsn:=p1.nodup_iff.2 hQn;rw[List.nodup_append]at hsn;have k1:=l1 (dJ ys vals) b1 ht1 hnd.1 hQn;have k2:=l2 v bl ht2 hnd.2.1 hsn.2.1;have hsub2:∀p∈r.2.1,p.1∈o.2.2.1++o.2.2.2:=fun p hp=>p2.mem_iff.1 (List.mem_append_left _ (List.mem_map_of_mem hp));obtain⟨βn,c1,c2,c3⟩:=k1.append k2 (fun b hb hb'=>hnd.2.2 b hb b hb' rfl) fun p hp q hq e=>hsn.2.2 _ (List.mem_map_of_mem hp) _ (hsub2 q hq) e;have ebs:(b1++[bl]).flatten=b1.flatten++bl:=by rw[List.flatten_append,ebl]
 rw[ebs]at hloc;have htag:∀p∈o.2.1++r.2.1,p.1∈Q++mL d T W:=by
  intro p hp;rcases List.mem_append.1 hp with hp|hp;·exact p1.mem_iff.1 (List.mem_append_left _ (List.mem_map_of_mem hp))
  ·exact p1.mem_iff.1 (List.mem_append_right _ (hsub2 p hp))
 generalize hos:o.2.1++r.2.1=os at*;let β2:Nat→Value:=fun t=>if∃p∈os,p.1=t then βn t else β t;let objs2:Nat→Option AO:=bk os (dV T W st.aa);have hβn:∀p∈os,β2 p.1=βn p.1:=fun p hp=>if_pos ⟨p,hp,rfl⟩;have hβo:∀t,(∀p∈os,p.1≠t)→β2 t=β t:=fun t ht=>if_neg fun⟨p,hp,e⟩=>ht p hp e;have hobj:∀t o',objs2 t=some o'→((t,o')∈os)∨((∀p∈os,p.1≠t)∧t∉T∧∃o0,st.aa t=some o0∧o'=gS W o0):=by intro t o' ho';simp only[objs2,bk]at ho';cases hlk:ab os t with|some o1=>rw[hlk]at ho';cases ho';exact .inl (jb hlk)|none=>
  rw[hlk]at ho';simp only[dV]at ho';split at ho';·cases ho'
  ·rename_i hc;obtain⟨o0,h0,rfl⟩:=Option.map_eq_some_iff.1 ho';refine .inr ⟨fun p hp e=>?_,fun hm=>hc ((hcT t).2 hm),o0,h0,rfl⟩;obtain⟨o1,h1⟩:=kq hp;rw[e,hlk]at h1;cases h1
 have hdn:∀p∈os,aA objs2 p.1:=fun p hp=>by obtain⟨o1,h1⟩:=kq hp;exact⟨o1,by simp only[objs2,bk,h1]⟩
 have hdo:∀t,aA st.aa t→t∉T→aA objs2 t∧β2 t=β t:=by
  rintro t ⟨o0,h0⟩ hn;have hne:∀p∈os,p.1≠t:=fun p hp e=>by
   rcases hfree p hp with hc|hc;·exact hn (e▸(hcT _).1 hc)
   ·rw[e,h0]at hc;cases hc
  refine⟨?_,hβo t hne⟩;cases hlk:ab os t with|some o1=>exact absurd rfl (hne (t,o1) (jb hlk))|none=>exact⟨gS W o0,by simp only[objs2,bk,hlk,dV];rw[if_neg (fun hc=>hn ((hcT t).1 hc)),h0];rfl⟩
 have hlaid:=c1 β2 (aA objs2) fun p hp=>⟨hβn p hp,hdn p hp⟩;have hpin:∀t∈Q,β2 t=β t∧aA objs2 t:=by
  intro t ht;rw[hQ]at ht;obtain⟨c,hc,ht⟩:=List.mem_flatMap.1 ht;obtain⟨i,hi⟩:=List.getElem?_of_mem hc;have hlt:i<(dJ ys vals).length:=by rw[hln];exact(List.getElem?_eq_some_iff.1 hi).1
  have hu:=List.getElem?_eq_getElem hlt;exact Ee (hlv i c _ hi hu) (hlaid.2.1 i c _ (by rw[ho1];exact hi) hu) t ht
 have hD:∀s,aA st.aa s→W.contains s=false→aA objs2 s∧β2 s=β s:=by
  intro s hs hc;by_cases hm:s∈T
  ·have:s∈Q:=by
    by_cases hq:s∈Q;·exact hq
    ·have:s∈W:=by rw[hW];exact List.mem_filter.2 ⟨hm,by simpa using hq⟩
     rw[List.contains_iff_mem.2 this]at hc;cases hc
   exact⟨(hpin s this).2,(hpin s this).1⟩
  ·exact hdo s hs hm
 have hnewb:∀p∈os,∀b,bY (β2 p.1)=some b→b∈b1.flatten++bl:=fun p hp b hb=>by rw[hβn p hp]at hb;exact c2 p hp b hb
 have hlive2:∀b,live β2 objs2 b→b∈b1.flatten++bl∨∃t,aA st.aa t∧t∉T∧bY (β t)=some b:=by
  rintro b ⟨t,o',ho',hb⟩;rcases hobj t o' ho' with hm|⟨h1,h2,o0,h3,_⟩;·exact .inl (hnewb _ hm b hb)
  ·rw[hβo t h1]at hb;exact .inr ⟨t,⟨o0,h3⟩,h2,hb⟩
 have hsame:∀b,b<w.heap.size→b∉cJ β T→w'.heap[b]?=w.heap[b]?:=fun b h1 h2=>hfr.block b h1 h2;have hm:∀b,S b→aR S0 w0.heap.size β2 objs2 w' b∧w'.heap[b]?=w.heap[b]?:=by
  rintro b ⟨h1,h2,h3⟩;have hnT:b∉cJ β T:=fun hm=>h3 (hTlive b hm).1;refine⟨⟨h1,Nat.lt_of_lt_of_le h2 hfr.size,fun hl=>?_⟩,hsame b h2 hnT⟩;rcases hlive2 b hl with hb|⟨t,⟨o0,h0⟩,_,hb⟩
  ·rcases hloc b hb with h4|h4;·omega
   ·exact hnT h4
  ·exact h3 ⟨t,o0,h0,hb⟩
 have hm3:∀b,S3 b→aR S0 w0.heap.size β2 objs2 w' b∧w'.heap[b]?=w'.heap[b]?:=by
  rintro b ⟨h1,h2,h3,h4⟩;refine⟨⟨h1,h2,fun hl=>?_⟩,rfl⟩;rcases hlive2 b hl with hb|hb;·exact h3 (by rw[ebs];exact hb)
  ·exact h4 hb
 have hrel:Rel P S0 L B0 w0 N ⟨fG W st.vars,objs2⟩ a w' β2:=by
  refine⟨h.size,h.defers,fun s=>(h.vars s).eg hm hD,⟨fun t o' ho'=>?_,fun t t' b ht ht' hb hb'=>?_⟩,fun t b ht hb=>?_,h.oT,fun t h9 ht=>?_,?_⟩
  ·rcases hobj t o' ho' with hmem|⟨h1,h2,o0,h3,rfl⟩;·exact(hlaid.1 (t,o') hmem).mono hm3 (fun _ hd=>⟨hd,rfl⟩) rfl (fun _ _=>rfl)
   ·exact(h.heap.holds t o0 h3).eg hm hD (hβo t h1) fun b hb=>hsame b (h.lt ⟨o0,h3⟩ hb) (hTinj t b ⟨o0,h3⟩ h2 hb)
  ·obtain⟨o1,ho1'⟩:=ht;obtain⟨o2,ho2'⟩:=ht';rcases hobj t o1 ho1' with hm1|⟨g1,g2,o0,g3,_⟩<;>rcases hobj t' o2 ho2' with hm2|⟨g1',g2',o0',g3',_⟩;·rw[hβn _ hm1]at hb;rw[hβn _ hm2]at hb';exact c3 _ hm1 _ hm2 b hb hb'
   ·rw[hβo t' g1']at hb';rcases hloc b (hnewb _ hm1 b hb) with h4|h4;·have:=h.lt ⟨o0',g3'⟩ hb';omega
    ·exact absurd h4 (hTinj t' b ⟨o0',g3'⟩ g2' hb')
   ·rw[hβo t g1]at hb;rcases hloc b (hnewb _ hm2 b hb') with h4|h4;·have:=h.lt ⟨o0,g3⟩ hb;omega
    ·exact absurd h4 (hTinj t b ⟨o0,g3⟩ g2 hb)
   ·rw[hβo t g1]at hb;rw[hβo t' g1']at hb';exact h.heap.inj t t' b ⟨o0,g3⟩ ⟨o0',g3'⟩ hb hb'
  ·obtain⟨o1,ho1'⟩:=ht;rcases hobj t o1 ho1' with hm1|⟨g1,g2,o0,g3,_⟩
   ·rcases hloc b (hnewb _ hm1 b hb) with h4|h4;·exact .inl (Nat.le_trans h.bT.size h4)
    ·obtain⟨s,hs,hb'⟩:=List.mem_filterMap.1 h4;exact h.old s b (hTd s hs) hb'
   ·rw[hβo t g1]at hb;exact h.old t b ⟨o0,g3⟩ hb
  ·obtain⟨o1,ho1'⟩:=ht;rcases hobj t o1 ho1' with hm1|⟨g1,g2,o0,g3,_⟩
   ·have hq:t∈Q:=by
     rcases List.mem_append.1 (htag _ hm1) with hq|hq;·exact hq
     ·exfalso;unfold mL at hq;rcases List.mem_append.1 hq with hq|hq;·have:=(List.mem_filter.1 hq).2;simp only[bne_iff_ne,ne_eq]at this;exact this h9
      ·have:=(List.mem_filter.1 hq).1;simp only[List.mem_cons,List.not_mem_nil,or_false]at this;omega
    rw[(hpin t hq).1];exact h.rY t h9 (hTd t (hQT t hq))
   ·rw[hβo t g1];exact h.rY t h9 ⟨o0,g3⟩
  ·exact⟨hfr.os.trans h.bT.os,hfr.tape.trans h.bT.tape,hfr.output.trans h.bT.output,Nat.le_trans h.bT.size hfr.size,fun b h1 h2=>(hsame b (by have:=h.bT.size;omega) fun hm=>by
    rcases List.mem_filterMap.1 hm with⟨s,hs,hb'⟩;rcases h.old s b (hTd s hs) hb' with h3|h3;·omega
    ·exact h2 h3).trans (h.bT.block b h1 h2)⟩
 exact⟨v,β2,rfl,hrel,hlaid.2.2.mono hm3 fun _ hd=>⟨hd,rfl⟩⟩
theorem vC:∀{xs ys:List AV},er st.aa xs=some ys→xq st.aa st.aa [] (xs.map fun _=>0) xs=some ys|[],_,h=>h|x::xs,ys,h=>by obtain⟨y,hy,h⟩:=Option.bind_eq_some_iff.1 h;obtain⟨l,hl,rfl⟩:=Option.map_eq_some_iff.1 h;show(mC st.aa x).bind _=_;rw[hy];show((xq st.aa st.aa [] (xs.map fun _=>0) xs).map _)=_;rw[vC hl];rfl
theorem pB:∀xs:List AV,dP st.aa (xs.map fun _=>0) xs=[]|[]=>rfl|x::xs=>by show[]++dP st.aa (xs.map fun _=>0) xs=[];rw[pB xs];rfl
theorem lx:∀xs:List AV,dt (xs.map fun _=>0) xs=[]|[]=>rfl|x::xs=>by show dt (xs.map fun _=>0) xs=[];exact lx xs
theorem nS:∀xs:List AV,dF [] (xs.map fun _=>0) xs=dO xs|[]=>rfl|x::xs=>by show((0 !=0||dr x)&&dF [] (xs.map fun _=>0) xs)=_;rw[nS xs];rfl
theorem sv (f:Nat→Option AO):dV [] [] f=f:=by funext t;show(f t).map (gS [])=f t;cases f t<;>rfl
theorem nJ (d:Nat):(im d).Nodup:=by simp[im,List.nodup_cons]
theorem uX {r:AV} (h:jl r):C4 r=false:=by
 by_cases hx:∃cs,r=.agg cs;·obtain⟨cs,rfl⟩:=hx;have h:mJ cs:=h;show cs.any _=false;induction cs with|nil=>rfl|cons c cs ih=>rw[List.any_cons,ih h.2 h.2,Bool.or_false];have:=h.1;cases c<;>first|rfl|exact this.elim
 ·have h:kV r:=by rw[←wo r fun cs e=>hx ⟨cs,e⟩];exact h
  cases r<;>first|rfl|exact h.elim
theorem zC {r:AV} (h:flat r):mF r=false:=by
 by_cases hx:∃vs,r=.aK vs;·obtain⟨vs,rfl⟩:=hx;have h:oc vs:=h;show vs.any C4=false;induction vs with|nil=>rfl|cons c cs ih=>rw[List.any_cons,ih h.2 h.2,Bool.or_false];exact uX h.1
 ·have h:jl r:=by rw[←yZ r fun cs e=>hx ⟨cs,e⟩];exact h
  have:mF r=C4 r:=by cases r<;>first|rfl|exact absurd ⟨_,rfl⟩ hx
  rw[this];exact uX h
theorem qO {r:AV} (h:mF r=false) (d:Nat):iB d r=aJ d r:=by unfold iB;rw[h];rfl
theorem qQ {r:AV} (h:mF r=false) (d:Nat):wA d r=cA (jG d) r:=by unfold wA;rw[h];rfl
theorem rC {r:AV} (h:mF r=false) (d:Nat):uV d r=cB r:=by unfold uV;rw[h];rfl
theorem oh {r:AV} (h:mF r=false):nW r=flat r:=by unfold nW;rw[h];rfl
theorem kE {f:AV→List Nat×List Nat→Option (AV×List (Nat×AO)×List Nat×List Nat)} (hf:∀y s q,f y s=some q→(q.2.1.map (·.1)++(q.2.2.1++q.2.2.2)).Perm (s.1++s.2)):∀(ys:List AV) (s:List Nat×List Nat) (q:List AV×List (Nat×AO)×List Nat×List Nat),lS f ys s=some q→(q.2.1.map (·.1)++(q.2.2.1++q.2.2.2)).Perm (s.1++s.2)|[],s,q,h=>by cases h;exact .refl _|y::ys,s,q,h=>by obtain⟨r,hr,h⟩:=Option.bind_eq_some_iff.1 h;obtain⟨q',hq,rfl⟩:=Option.map_eq_some_iff.1 h;rw[List.map_append,List.append_assoc];exact((kE hf ys r.2.2 q' hq).append_left _).trans (hf y s r hr)
theorem mh:∀(n:Nat) (top:Bool) (y:AV) (s:List Nat×List Nat) (q:AV×List (Nat×AO)×List Nat×List Nat),num n top y s=some q→(q.2.1.map (·.1)++(q.2.2.1++q.2.2.2)).Perm (s.1++s.2)
 |0,_,_,_,_,h=>by cases h|n+1,top,y,s,q,h=>by
  unfold num at h;split at h;·obtain⟨k,hk,rfl⟩:=Option.map_eq_some_iff.1 h;exact kl hk
  ·obtain⟨k,hk,rfl⟩:=Option.map_eq_some_iff.1 h;exact kl hk
  ·obtain⟨k,hk,h⟩:=Option.bind_eq_some_iff.1 h;obtain⟨r,hr,rfl⟩:=Option.map_eq_some_iff.1 h;exact((kE (mh n false) _ k.2 r hr).cons k.1).trans (kl hk)
  ·obtain⟨r,hr,rfl⟩:=Option.map_eq_some_iff.1 h;exact kE (mh n top) _ s r hr
  ·obtain⟨r,hr,rfl⟩:=Option.map_eq_some_iff.1 h;exact kE (mh n top) _ s r hr
  ·cases h;exact .refl _
  ·cases h;exact .refl _
  ·split at h;·cases h;exact .refl _
   ·cases h
  ·cases h
theorem tw (d:Nat) (r:AV):∀x∈iB d r,∃p,x.1=d+1000*p:=by
 intro x hx;unfold iB at hx;split at hx;·cases hn:num 5 false r ([],im d) with|none=>rw[hn]at hx;simp at hx|some q=>
  rw[hn]at hx;have hp:=mh 5 false r _ q hn;have hm:x.1∈im d:=by simpa using hp.mem_iff.1 (List.mem_append_left _ (List.mem_map_of_mem (by simpa using hx)))
  simp only[im,List.mem_cons,List.not_mem_nil,or_false]at hm;rcases hm with h|h|h|h|h|h|h|h;·exact⟨0,h⟩
  ·exact⟨1,h⟩
  ·exact⟨2,h⟩
  ·exact⟨3,h⟩
  ·exact⟨4,h⟩
  ·exact⟨5,h⟩
  ·exact⟨6,h⟩
  ·exact⟨7,h⟩
 ·unfold aJ at hx;obtain⟨y,_,rfl⟩:=List.mem_map.1 hx;exact⟨y.1,rfl⟩
theorem jL (h:Rel P S0 L B0 w0 N st a w β) {f:FuncId}{d:Nat} (hd9:d%1000≠999) {vals:List Value}{xs ys:List AV}{r:AV} (hl:vals.length=xs.length) (hv:∀(i:Nat) (v:Value) (x:AV),vals[i]?=some v→xs[i]?=some x→RV P (aR S0 w0.heap.size β st.aa w) w β (aA st.aa) v x) (hre:er st.aa xs=some ys) (hcon:HY P f ys r) (hpf:dO xs=true∨nW r) (hfree:∀x∈iB d r,st.aa x.1=none) (hres:uV d r=true):Calls P f vals.toArray w fun e w'=>∃v β',e=.returned v∧Rel P S0 L B0 w0 N ⟨st.vars,bk (iB d r) st.aa⟩ a w' β'∧RV P (aR S0 w0.heap.size β' (bk (iB d r) st.aa) w') w' β' (aA (bk (iB d r) st.aa)) v (wA d r):=by unfold iB at hfree ⊢;unfold wA;unfold uV at hres;unfold nW at hpf;cases ht:mF r with|false=>simp only[ht,Bool.false_eq_true,if_false]at hfree hres hpf ⊢;exact wQ h hd9 hl hv hre (hcon.2 ht) hpf hfree hres|true=>simp only[ht,if_true]at hfree hres hpf ⊢;obtain⟨q,hq⟩:=Option.isSome_iff_exists.1 hres;rw[hq]at hfree ⊢;simp only[Option.map_some,Option.getD_some]at hfree ⊢;have:=BB (T:=[]) (Q:=[]) (W:=[]) (fun e=>absurd rfl e) h hd9 (ks:=xs.map fun _=>0) hl hv (pB xs).symm (by rw[lx];rfl) rfl List.nodup_nil (fun t ht=>by cases ht) (nJ d) (by rw[sv];exact vC hre) (hcon.1 ht) (by rw[nS];exact hpf.imp id fun hf y hy=>by simp only[jz,jf,List.nil_append,List.mem_singleton]at hy;rw[hy];exact hf) (o:=([],[],([],im d))) rfl (lx xs).symm hq (fun p hp=>.inr (hfree p hp));rw[sv]at this;exact this
end
theorem rH {k k':IntKind} (h:kJ k=kJ k'):k=k':=by cases k<;>cases k'<;>first|rfl|(simp[kJ]at h)
theorem nR:∀{a c b d:List PV},a.length=c.length→iJ (a++b) (c++d)=(iJ a c&&iJ b d)|[],[],b,d,_=>by simp[iJ]|x::a,y::c,b,d,h=>by simp only[List.cons_append,iJ];rw[nR (by simpa using h),Bool.and_assoc]|[],_::_,_,_,h=>by simp at h|_::_,[],_,_,h=>by simp at h
section
variable{P:Program}
def CI (P:Program) (t:TypeId) (us:List Value):Value:=match P.underlying t with|some (.struct _)|some (.array _ _)=>.agg us.toArray|_=>us.headD undef
theorem zn (w:World) {t:TypeId}{n:Nat}{A us rest:List Value} (ht:(P.underlying t).isSome=true) (hn:cn P t=some n) (hl:us.length=n) (h1:(∃fs,P.underlying t=some (.struct fs))∨(us≠[]∧∀k e,P.underlying t≠some (.array k e))):(part t (A++us++rest).toArray A.length).run P w=.ok (CI P t us) w:=by
 obtain⟨d,hd⟩:=Option.isSome_iff_exists.1 ht;obtain⟨i,hi,hsz⟩:∃i,P.info? t=some i∧i.size=n:=by unfold cn at hn;obtain⟨i,hi,rfl⟩:=Option.map_eq_some_iff.1 hn;exact⟨i,hi,rfl⟩
 have hs:(Go.sizeOf t).run P w=.ok n w:=by simp[Go.sizeOf,typeInfo,hi,hsz]
 have hagg:(∃fs,d=.struct fs)→(part t (A++us++rest).toArray A.length).run P w=.ok (.agg us.toArray) w:=by
  rintro⟨fs,rfl⟩;have he:(A++us++rest).toArray.extract A.length (A.length+n)=us.toArray:=by apply Array.ext';simp only[List.extract_toArray,List.extract_eq_take_drop];rw[List.append_assoc,List.drop_left,Nat.add_sub_cancel_left,←hl,List.take_left]
  simp only[part,isAgg,Sem.run_bind,run_underlying hd,hs,Result.andThen_ok,Sem.run_pure,if_true,he]
 unfold CI;rw[hd];rcases h1 with⟨fs,h1⟩|⟨h1,h2⟩;·rw[hd]at h1;cases h1;exact hagg ⟨fs,rfl⟩
 ·match us,h1 with
  |u::l,_=>
   have h4:(A++(u::l)++rest).toArray[A.length]?=some u:=by simp
   cases d with|struct fs=>exact hagg ⟨fs,rfl⟩|array k e=>exact absurd hd (h2 k e)|_=>simp[part,isAgg,run_underlying hd,Result.andThen]
theorem sV {p:PV} (h:cL p=0):∃b,p=.bool b:=by cases p<;>simp[cL]at h;exact⟨_,rfl⟩
theorem vM {p:PV} (h:cL p=1):∃l,p=.str l:=by cases p with|str l=>exact⟨l,rfl⟩|int k n=>simp only[cL]at h;omega|_=>simp[cL]at h
theorem vr {p:PV}{k:IntKind} (h:cL p=2+kJ k):∃n,p=.int k n:=by
 have:kJ k≤7:=by cases k<;>decide
 cases p with|int k' n=>simp only[cL]at h;have:=rH (show kJ k'=kJ k by omega);subst this;exact⟨n,rfl⟩|bool b=>simp only[cL]at h;omega|str b=>simp only[cL]at h;omega|_=>simp only[cL]at h;omega
theorem Bw (a b:List UInt8):((⟨a.toArray⟩:ByteArray).toList==(⟨b.toArray⟩:ByteArray).toList)=decide (a=b):=by
 rw[ByteArray.toList_eq,ByteArray.toList_eq];by_cases h:a=b;·subst h;simp
 ·simp[h]
theorem yy:∀(n:Nat) (t:TypeId) (ks:List Nat),kf P n t=some ks→(P.underlying t).isSome=true∧((∃fs,P.underlying t=some (.struct fs))∨(ks≠[]∧∀k e,P.underlying t≠some (.array k e)))
 |0,t,ks,h=>by cases h|n+1,t,ks,h=>by
  unfold kf at h;split at h;·rename_i hu;cases h;rw[hu];exact⟨rfl,.inr ⟨by simp,fun k e h=>by cases h⟩⟩
  ·rename_i hu;cases h;rw[hu];exact⟨rfl,.inr ⟨by simp,fun k e h=>by cases h⟩⟩
  ·rename_i hu;cases h;rw[hu];exact⟨rfl,.inr ⟨by simp,fun k e h=>by cases h⟩⟩
  ·rename_i fs hu;rw[hu];exact⟨rfl,.inl ⟨fs,rfl⟩⟩
  ·cases h
theorem sm {f:TypeId→Option (List Nat)}{d:Nat} (hl:∀t ks,f t=some ks→(P.underlying t).isSome=true∧((∃fs,P.underlying t=some (.struct fs))∨(ks≠[]∧∀k e,P.underlying t≠some (.array k e)))) (hf:∀t ks,f t=some ks→∀(w:World) (ps qs:List PV),ps.map cL=ks→qs.map cL=ks→(Op.equalIn d t (CI P t (ps.map bK)) (CI P t (qs.map bK))).run P w=.ok (iJ ps qs) w) (w:World):∀(fs:List Field) (off:Nat) (ks:List Nat) (A B:List Value) (ps qs:List PV),oS P f off fs=some ks→A.length=off→B.length=off→ps.map cL=ks→qs.map cL=ks→(Op.eqFields d (A++ps.map bK).toArray (B++qs.map bK).toArray fs).run P w=.ok (iJ ps qs) w
 |[],off,ks,A,B,ps,qs,h,hA,hB,hp,hq=>by cases h;have:ps=[]:=List.map_eq_nil_iff.1 hp;have:qs=[]:=List.map_eq_nil_iff.1 hq;subst_vars;simp[Op.eqFields,iJ]|fl::fs,off,ks,A,B,ps,qs,h,hA,hB,hp,hq=>by
  unfold oS at h;split at h
  ·rename_i hc;obtain⟨hn,ho⟩:=hc;obtain⟨a,ha,h⟩:=Option.bind_eq_some_iff.1 h;split at h
   ·rename_i hs;obtain⟨r,hr,rfl⟩:=Option.map_eq_some_iff.1 h;have key:∀l:List PV,l.map cL=a++r→∃l1 l2,l=l1++l2∧l1.map cL=a∧l2.map cL=r:=by intro l h;obtain⟨l1,l2,rfl,h1,h2⟩:=List.map_eq_append_iff.1 h;exact⟨l1,l2,rfl,h1,h2⟩
    obtain⟨p1,p2,rfl,hp1,hp2⟩:=key ps hp;obtain⟨q1,q2,rfl,hq1,hq2⟩:=key qs hq;have l1:p1.length=a.length:=by rw[←hp1];simp
    have l2:q1.length=a.length:=by rw[←hq1];simp
    obtain⟨g1,g2⟩:=hl _ _ ha;have e1:((fl.offset:Nat))=A.length:=by rw[hA,ho]
    have e2:A.length=B.length:=by rw[hA,hB]
    have hpa:=zn (P:=P) (t:=fl.type) (n:=a.length) (A:=A) (us:=p1.map bK) (rest:=p2.map bK) w g1 hs (by simpa using l1) (g2.imp id fun h=>⟨by intro h0;apply h.1;rw[←hp1,List.map_eq_nil_iff.1 h0];rfl,h.2⟩);have hqa:=zn (P:=P) (t:=fl.type) (n:=a.length) (A:=B) (us:=q1.map bK) (rest:=q2.map bK) w g1 hs (by simpa using l2) (g2.imp id fun h=>⟨by intro h0;apply h.1;rw[←hq1,List.map_eq_nil_iff.1 h0];rfl,h.2⟩);have ih:=sm hl hf w fs (off+a.length) r (A++p1.map bK) (B++q1.map bK) p2 q2 hr (by simp[hA,l1]) (by simp[hB,l2]) hp2 hq2;rw[List.map_append,List.map_append,←List.append_assoc,←List.append_assoc,nR (by rw[l1,l2])];unfold Op.eqFields;rw[if_pos hn,e1];simp only[Sem.run_bind,hpa,Result.andThen_ok];rw[e2];simp only[hqa,Result.andThen_ok,hf _ _ ha w p1 q1 hp1 hq1];cases h1:iJ p1 q1 with|true=>simp only[Bool.not_true,Bool.false_eq_true,if_false,Bool.true_and];exact ih|false=>simp
   ·cases h
  ·cases h
theorem vc:∀(n:Nat) (t:TypeId) (ks:List Nat),kf P n t=some ks→∀(d:Nat),n≤d→∀(w:World) (ps qs:List PV),ps.map cL=ks→qs.map cL=ks→(Op.equalIn d t (CI P t (ps.map bK)) (CI P t (qs.map bK))).run P w=.ok (iJ ps qs) w
 |0,t,ks,h=>by cases h|n+1,t,ks,h=>by
  intro d hd w ps qs hp hq;obtain⟨d,rfl⟩:∃e,d=e+1:=⟨d-1,by omega⟩;have one:∀k,ks=[k]→∃p q,ps=[p]∧qs=[q]∧cL p=k∧cL q=k:=by rintro k rfl;rcases ps with _|⟨p,_|⟨p',ps⟩⟩<;>simp at hp;rcases qs with _|⟨q,_|⟨q',qs⟩⟩<;>simp at hq;exact⟨p,q,rfl,rfl,hp,hq⟩
  unfold kf at h;split at h;·rename_i hu;injection h with h;obtain⟨p,q,rfl,rfl,h1,h2⟩:=one _ h.symm;obtain⟨b,rfl⟩:=sV h1;obtain⟨c,rfl⟩:=sV h2;simp only[CI,hu,List.map_cons,List.map_nil,List.headD_cons,bK];rw[run_equalIn_bool' w d t b c hu];cases b<;>cases c<;>rfl
  ·rename_i hu;injection h with h;obtain⟨p,q,rfl,rfl,h1,h2⟩:=one _ h.symm;obtain⟨b,rfl⟩:=vM h1;obtain⟨c,rfl⟩:=vM h2;simp only[CI,hu,List.map_cons,List.map_nil,List.headD_cons,bK];rw[run_equalIn_string w d t _ _ hu,Bw];simp[iJ,lM]
  ·rename_i k hu;injection h with h;obtain⟨p,q,rfl,rfl,h1,h2⟩:=one _ h.symm;obtain⟨b,rfl⟩:=vr h1;obtain⟨c,rfl⟩:=vr h2;simp only[CI,hu,List.map_cons,List.map_nil,List.headD_cons,bK];rw[run_equalIn_int w d t k k b c hu];simp only[iJ,lM,Bool.and_true];rfl
  ·rename_i fs hu;split at h
   ·rename_i hst;have hfo:P.fieldsOf t=fs:=by simp[Program.fieldsOf,hu]
    simp only[CI,hu];rw[run_equalIn_struct w d t _ _ (by rw[hfo];exact hu) hst,hfo];have:=sm (P:=P) (f:=kf P n) (d:=d) (fun t ks h=>yy n t ks h) (fun t ks h w ps qs=>vc n t ks h d (by omega) w ps qs) w fs.toList 0 ks [] [] ps qs h rfl rfl hp hq;simpa using this
   ·cases h
  ·cases h
end
section
variable{P:Program}{S:Nat→Prop}{w:World}{β:Nat→Value}{aa:Nat→Option AO}{a:Act}{o:Oper}{x y:Operand}
theorem nE:∀{cs:List AV}{ps:List PV},eb cs=some ps→cs=ps.map .pv|[],ps,h=>by cases h;rfl|c::cs,ps,h=>by simp only[eb,Option.bind_eq_some_iff,Option.map_eq_some_iff]at h;obtain⟨p,hp,l,hl,rfl⟩:=h;rw[nE hl];cases c<;>simp[zQ]at hp;subst hp;rfl
theorem pX {D:Nat→Prop}{ps:List PV}{ks:List Nat} (hks:∀k∈ks,k<99) (hs:ps.map cL=ks) {us:List Value} (hl:us.length=(ps.map AV.pv).length) (hr:∀(i:Nat) (c:AV) (u:Value),(ps.map AV.pv)[i]?=some c→us[i]?=some u→RV P S w β D u c):us=ps.map bK:=by
 subst hs;have hl':us.length=ps.length:=by simpa using hl
 apply List.ext_getElem?;intro i;cases hu:us[i]? with|none=>have:us.length≤i:=List.getElem?_eq_none_iff.1 hu;rw[List.getElem?_eq_none (by simp;omega)]|some u=>have hi:i<us.length:=(List.getElem?_eq_some_iff.1 hu).1;obtain⟨p,hp⟩:∃p,ps[i]?=some p:=⟨ps[i],List.getElem?_eq_getElem (by omega)⟩;have h3:=(hr i (.pv p) u (by simp[hp]) hu).bj;have h4:=hks (cL p) (by simp only[List.mem_map];exact⟨_,List.mem_of_getElem? hp,rfl⟩);rw[List.getElem?_map,hp];simp only[Option.map_some,Option.some.injEq];cases h3 with|int q n=>rfl|bool b=>rfl|str l=>rfl|_=>simp only[cL]at h4;omega
theorem G0 {ne:Bool}{t yt:TypeId}{fs:Array Field}{ks:List Nat} (ho:o.op=.binOp (if ne=true then .neq else .eql) t x y yt) (hu:P.underlying t=some (.struct fs)) (hk:kf P 8 t=some ks) (hks:ks.all (·<99)=true) (hg:P.eqGuardType P.depth t=false) {X Y:AV} (hX:RV P S w β (aA aa) (a.eval x) X) (hY:RV P S w β (aA aa) (a.eval y) Y) {φ:Prop}{v:AV} (h:ak (.eqs ne ks) [X,Y] aa=some (φ,v)) (hφ:φ):∃r,(execOp a.eval o).run P w=.ok (.value r) w∧RV P S w β (aA aa) r v:=by
 have hks':∀k∈ks,k<99:=fun k hk=>by simpa using(List.all_eq_true.1 hks) k hk
 cases X with
 |agg xs=>cases Y with
  |agg ys=>simp only[ak,Option.bind_eq_some_iff,Option.map_eq_some_iff]at h;obtain⟨ps,hps,qs,hqs,he⟩:=h;cases he;cases nE hps;cases nE hqs;obtain⟨us,hxu,hul,hur⟩:=hX.cK;obtain⟨vs,hyv,hvl,hvr⟩:=hY.cK;have e1:=pX hks' hφ.1 hul hur;have e2:=pX hks' hφ.2 hvl hvr;have hrun:=vc 8 t ks hk 10000 (by omega) w ps qs hφ.1 hφ.2;simp only[CI,hu]at hrun;rw[e1]at hxu;rw[e2]at hyv;cases ne with|false=>exact⟨_,by simp[execOp,ho,hxu,hyv,run_eqGuard_agg w .eql t x y _ _ hg,run_eql_struct,hrun,Result.andThen],.pv _ _ (.bool _)⟩|true=>exact⟨_,by simp[execOp,ho,hxu,hyv,run_eqGuard_agg w .neq t x y _ _ hg,run_neq_struct,hrun,Result.andThen],.pv _ _ (.bool _)⟩
  |_=>simp[ak]at h
 |_=>simp[ak]at h
end
theorem fv {P:Program}{kt:TypeId}{s:Nat} (h:iL P kt=some s):∃d,P.underlying kt=some d∧∀k,cL k=s→MapKept.IsKey d (bK k):=by
 unfold iL at h;split at h;·rename_i hu;injection h with h;subst h;refine⟨_,hu,fun k hk=>?_⟩;cases k<;>first|trivial|(simp[cL]at hk)
 ·rename_i hu;injection h with h;subst h;refine⟨_,hu,fun k hk=>?_⟩;cases k<;>first|trivial|(simp[cL]at hk;try omega)
 ·rename_i q hu;injection h with h;subst h;refine⟨_,hu,fun k hk=>?_⟩;cases k with
  |int k n=>simp only[cL]at hk;exact rH (by omega)|bool b=>simp only[cL]at hk;omega|str l=>simp only[cL]at hk;omega
  | _=>simp only[cL]at hk;have:kJ q≤7:=by cases q<;>decide
       omega
 ·cases h
theorem mB {k k':PV}{s:Nat} (h:cL k=s) (h':cL k'=s) (hs:s<99):lM k k'=true↔bK k'=bK k:=by subst h;cases k<;>cases k'<;>simp only[cL]at h' hs<;>first|omega|(have:_:=rH (Nat.add_left_cancel h');subst this;simp[lM,bK,eq_comm])|simp[lM,bK,eq_comm]
theorem lR {P:Program}{kt:TypeId}{s:Nat} (h:iL P kt=some s):s<99:=by
 unfold iL at h;split at h;·injection h with h;omega
 ·injection h with h;omega
 ·rename_i q _;injection h with h;have:kJ q≤7:=by cases q<;>decide
  omega
 ·cases h
theorem iY {P:Program}{S:Nat→Prop}{w:World}{β:Nat→Value}{D:Nat→Prop}{u:Value}{p:PV}{s:Nat} (h:RV P S w β D u (.pv p)) (hp:cL p=s) (hs:s<99):u=bK p:=by have h:=h.bj;cases h with|int q n=>rfl|bool b=>rfl|str l=>rfl|_=>simp only[cL]at hp;omega
theorem eI {P:Program}{t k e:TypeId} (h:gN P t=some (k,e)):P.underlying t=some (.map k e):=by
 unfold gN at h;split at h;·rename_i hu;cases h;exact hu
 ·cases h
theorem gf {d:TypeDesc}{k:PV}{s:Nat} (hd:∀k,cL k=s→MapKept.IsKey d (bK k)) (hk:cL k=s) (hs:s<99):∀(us:List MapEntry) (es:List (PV×PV)) (n:Nat),eA s es→us.length=es.length→(∀(i:Nat) (e:PV×PV) (u:MapEntry),es[i]?=some e→us[i]?=some u→u.key=bK e.1)→(Instr.findNow d (bK k) us n=some none∧jC k es=none∧(∀v,jE k v es=es++[(k,v)])∧nd k es=es∧∀u∈us,u.key≠bK k)∨∃j e u,Instr.findNow d (bK k) us n=some (some (n+j,u.val))∧es[j]?=some e∧us[j]?=some u∧u.key=bK k∧jC k es=some e.2∧(∀v,jE k v es=es.set j (k,v))∧nd k es=es.eraseIdx j|[],[],_,_,_,_=>.inl ⟨rfl,rfl,fun v=>rfl,rfl,fun u hu=>by simp at hu⟩|[],_::_,_,_,hl,_=>by simp at hl|_::_,[],_,_,hl,_=>by simp at hl|u::us,e::es,n,hks,hl,hu=>by have h1:=hu 0 e u rfl rfl;have hke:=hks e (by simp);obtain⟨r,hr,hiff⟩:=MapKept.sameNow_of_keys (hd k hk) (hd e.1 hke);rw[←h1]at hr;cases r with|true=>have h2:bK k=bK e.1:=hiff.1 rfl;have h3:lM k e.1=true:=(mB hk hke hs).2 h2.symm;exact .inr ⟨0,e,u,by simp[Instr.findNow,hr],rfl,rfl,h1.trans h2.symm,by simp only[jC];rw[if_pos h3],fun v=>by simp only[jE];rw[if_pos h3];rfl,by simp only[nd];rw[if_pos h3];rfl⟩|false=>
 have h3:¬lM k e.1=true:=fun h=>by have:=hiff.2 ((mB hk hke hs).1 h).symm;cases this
 have h4:u.key≠bK k:=fun h=>by have:=hiff.2 (h.symm.trans h1);cases this
 rcases gf hd hk hs us es (n+1) (fun x hx=>hks x (by simp[hx])) (by simpa using hl) (fun i x y hx hy=>hu (i+1) x y (by simpa using hx) (by simpa using hy)) with⟨g1,g2,g3,g4,g5⟩|⟨j,e',u',g1,g2,g3,g4,g5,g6,g7⟩
 ·refine .inl ⟨by simp[Instr.findNow,hr,g1],by simp only[jC];rw[if_neg h3];exact g2,fun v=>by simp only[jE];rw[if_neg h3,g3 v];rfl,by simp only[nd];rw[if_neg h3,g4],fun x hx=>?_⟩;rcases List.mem_cons.1 hx with rfl|hx;·exact h4
  ·exact g5 x hx
 ·exact .inr ⟨j+1,e',u',by simp[Instr.findNow,hr,g1];omega,by simpa using g2,by simpa using g3,g4,by simp only[jC];rw[if_neg h3];exact g5,fun v=>by simp only[jE];rw[if_neg h3,g6 v];rfl,by simp only[nd];rw[if_neg h3,g7];rfl⟩
theorem AF {P:Program}{o:Oper}{s:Nat}{z:Value}{ok:Bool}{xs:List Operand} (h:jS P o=(.AR s z ok,xs)):∃t m k kt et,o.op=.lookup t m k ok∧gN P t=some (kt,et)∧iL P kt=some s∧zeroV P et=some z∧xs=[m,k]:=by
 unfold jS at h;split at h
 ·rename_i r hr;subst h;unfold zk at hr;repeat' split at hr
  all_goals first|(cases hr;done)|(cases hr;exact⟨_,_,_,_,_,by assumption,by assumption,by assumption,by assumption,rfl⟩)
 ·cases hx:vX P o with|none=>rw[hx]at h;cases h|some r=>
   rw[hx]at h;have h:r=(.AR s z ok,xs):=h;subst h;unfold vX wH at hx;repeat' split at hx
   all_goals cases hx
section
variable{P:Program}{S:Nat→Prop}{w:World}{β:Nat→Value}{aa:Nat→Option AO}{a:Act}{o:Oper}
theorem NT {t:TypeId}{m k:Operand}{kt et:TypeId}{s:Nat}{z:Value}{ok:Bool} (ho:o.op=.lookup t m k ok) (hm:gN P t=some (kt,et)) (hsrt:iL P kt=some s) (hz:zeroV P et=some z) (hz1:z.oneCell'=true) {p:PV}{es:List (PV×PV)} (hX:RV P S w β (aA aa) (a.eval m) (.pv (.mv es))) (hK:RV P S w β (aA aa) (a.eval k) (.pv p)) (hp:cL p=s) (hks:eA s es):∃v,(execOp a.eval o).run P w=.ok (.value v) w∧RV P S w β (aA aa) v (tI z ok (jC p es)):=by have h1:=hX.bj;generalize hmv:a.eval m=mv at h1;cases h1 with|mv b us c es g1 hh hst hl g5 g6=>
 have hmt:=eI hm;obtain⟨d,hdk,hkey⟩:=fv hsrt;have hs99:=lR hsrt;have hkv:a.eval k=Ab.bK p:=iY hK hp hs99;have hzr:(zeroValue et).run P w=.ok z w:=by unfold zeroV at hz;obtain⟨i,hi,hz⟩:=Option.bind_eq_some_iff.1 hz;simp[zeroValue,typeInfo,hi,hz]
 have hfind:=gf hkey hp hs99 us.toList es 0 hks hl fun i e u h1 h2=>(g5 i e u h1 h2).1;have fin:∀(v:Value) (x:PV) (f:Bool),(Instr.lookup t (.map (some b)) (Ab.bK p) ok).run P w=.ok (if ok=true then .tuple #[v,.bool f] else v) w→cT S w v x→∃v,(execOp a.eval o).run P w=.ok (.value v) w∧RV P S w β (aA aa) v (if ok=true then .aK [.pv x,.pv (.bool f)] else .pv x):=by intro v x f hrun hv;refine⟨_,by simp only[execOp,ho,hmv,hkv];simp[hrun,Result.andThen];rfl,?_⟩;cases ok with|false=>exact .pv _ _ hv|true=>refine .aK _ [v,.bool f] rfl fun i c u h1 h2=>?_;match i with|0=>simp at h1 h2;subst h1 h2;exact .pv _ _ hv|1=>simp at h1 h2;subst h1 h2;exact .pv _ _ (.bool f)|i+2=>simp at h1
 unfold tI;rcases hfind with⟨h1,h2,_⟩|⟨j,e,u,h1,h2,h3,h4,h5,_⟩;·rw[h2];refine fin z (oL z) false ?_ (fW _ _ z hz1);simp[Instr.lookup,run_underlying hmt,MapKept.run_getObj_map hh,MapKept.run_checkKey hdk (hkey p hp),MapKept.run_findKey hdk h1,hzr,Result.andThen]
 ·rw[h5];refine fin u.val e.2 true ?_ (g6 j e u h2 h3);simp[Instr.lookup,run_underlying hmt,MapKept.run_getObj_map hh,MapKept.run_checkKey hdk (hkey p hp),MapKept.run_findKey hdk h1,Result.andThen]
end
theorem fS {P:Program}{f:FuncId} (h:gI P f=true):f<P.funcs.size:=by
 unfold gI at h;split at h;·rename_i fn hfn;exact(Array.getElem?_eq_some_iff.1 hfn).1
 ·cases h
def oV:AK→Bool|.ex (.AR _ _ _)=>true|.aM|.pick|.bL _|.box|.alloc _|.eW _ _|.call _|.gi|.store _|.app _ _ _|.uE _|.zo _ _ _|.ex _=>false|_=>true
theorem yN {x:XK}{ys:List AV}{aa:Nat→Option AO} (h:oV (.ex x)=false):ak (.ex x) ys aa=none:=by unfold ak;split<;>first|rfl|simp_all[oV]
section
variable{P:Program}{Γ:bI}{S0 L:Nat→Prop}{B0:Nat→Value}{w0 w:World}{N:Nat}{st:St}{a:Act}{β:Nat→Value}{o:Oper}{k:AK}{xs:List Operand}
theorem Rel.ev (h:Rel P S0 L B0 w0 N st a w β) (z:Operand):RV P (aR S0 w0.heap.size β st.aa w) w β (aA st.aa) (a.eval z) (ev st.vars z):=BN h.vars z
theorem Rel.cN (h:Rel P S0 L B0 w0 N st a w β) (z:Operand) (ha:asks (Ab.ev st.vars z)):RV P (aR S0 w0.heap.size β st.aa w) w β (aA st.aa) (a.eval z) (strip (Ab.ev st.vars z)):=(h.ev z).strip ha
theorem Cy (h:Rel P S0 L B0 w0 N st a w β) (hc:fB P o=some (k,xs)) (hk:oV k=true) (ha:al (xs.map (ev st.vars))) {φ:Prop}{v:AV} (hs:ak k ((xs.map (ev st.vars)).map strip) st.aa=some (φ,v)) (hφ:φ):∃r,(execOp a.eval o).run P w=.ok (.value r) w∧RV P (aR S0 w0.heap.size β st.aa w) w β (aA st.aa) r v:=by
 rcases da hc with hc|⟨x,rfl,hx⟩;rotate_left;·cases x with
  |AR s z ok=>obtain⟨t,m,k,kt,et,ho,hm,hsr,hz,rfl⟩:=AF hx;have h1:=h.cN m ha.1;have h2:=h.cN k ha.2.1;simp only[List.map_cons,List.map_nil]at hs;generalize strip (Ab.ev st.vars m)=X at h1 hs;generalize strip (Ab.ev st.vars k)=Y at h2 hs;cases X with
   |pv p=>cases Y with
    |pv q=>cases p with|mv es=>simp only[ak,Option.some.injEq,Prod.mk.injEq]at hs;obtain⟨rfl,rfl⟩:=hs;exact NT ho hm hsr hz hφ.1 h1 h2 hφ.2.1 hφ.2.2|_=>simp[ak]at hs
    |_=>cases p<;>simp[ak]at hs
   |_=>simp[ak]at hs
  |_=>simp[oV]at hk
 unfold ff at hc;split at hc;·
  split at hc
  ·split at hc
   ·split at hc;·cases hc;simp[oV]at hk
    ·cases hc
   ·cases hc
  ·cases hc;simp[oV]at hk
 ·split at hc
  ·split at hc
   ·split at hc;·cases hc;simp[oV]at hk
    ·cases hc
   ·cases hc
  ·cases hc;simp[oV]at hk
 ·cases hc;simp[oV]at hk
 ·obtain⟨zs,_,he⟩:=Option.map_eq_some_iff.1 hc;cases he;simp[oV]at hk
 ·cases hc;simp[oV]at hk
 ·rename_i t ps ho;split at hc
  ·rename_i zs fs hz hu;split at hc;·cases hc
   ·rename_i hall;obtain⟨l,hl,he⟩:=Option.map_eq_some_iff.1 hc;cases he;exact RB ho hz hu (Bool.of_not_eq_false hall) hl h.heap h.cN ha hs hφ
  ·cases hc
 ·split at hc
  ·split at hc
   ·split at hc;·cases hc;simp[oV]at hk
    ·cases hc
   ·cases hc
  ·cases hc
 ·rename_i t x ho;obtain⟨n,hn,he⟩:=Option.map_eq_some_iff.1 hc;cases he;cases n with|none=>exact yI ho hn h.heap (h.cN x ha.1) hs hφ|some n=>exact zy ho hn h.heap (h.cN x ha.1) hs hφ
 ·split at hc
  ·split at hc;·cases hc;simp[oV]at hk
   ·cases hc
  ·cases hc;simp[oV]at hk
  ·cases hc
 ·rename_i op t x y yt ho;split at hc
  ·rename_i hu;split at hc;·cases hc;exact Gt (ne:=false) ho hu (h.cN x ha.1) (h.cN y ha.2.1) hs hφ
   ·cases hc;exact Gt (ne:=true) ho hu (h.cN x ha.1) (h.cN y ha.2.1) hs hφ
   ·cases hc
  ·cases hc;exact FU ho (h.cN x ha.1) (h.cN y ha.2.1) hs hφ
  ·cases hc;exact FU ho (h.cN x ha.1) (h.cN y ha.2.1) hs hφ
  ·rename_i fs hu;split at hc
   ·rename_i ks hks;split at hc
    ·rename_i hcond;split at hc;·cases hc;exact G0 (ne:=false) ho hu hks hcond.1 hcond.2 (h.cN x ha.1) (h.cN y ha.2.1) hs hφ
     ·cases hc;exact G0 (ne:=true) ho hu hks hcond.1 hcond.2 (h.cN x ha.1) (h.cN y ha.2.1) hs hφ
     ·cases hc
    ·cases hc
   ·cases hc
  ·cases hc
 ·rename_i t x ho;cases hc;exact O8 ho (h.cN x ha.1) hs hφ
 ·rename_i t x ho;cases hc;exact N5 ho (h.cN x ha.1) hs hφ
 ·rename_i src dst x ho;split at hc;·rename_i k0 k1 hsr hds;cases hc;exact O5 ho hsr hds (h.cN x ha.1) hs hφ
  ·rename_i hsr hds;cases hc;exact Qj ho hsr hds (h.cN x ha.1) hs hφ
  ·rename_i e hsr hds;split at hc;·rename_i he;cases hc;exact Kb ho hsr he hds h.heap (h.cN x ha.1) hs
   ·cases hc
  ·split at hc;·cases hc;simp[oV]at hk
   ·cases hc
  ·cases hc
 ·rename_i s x i ho;split at hc
  ·rename_i fs hu;split at hc
   ·rename_i f hf;split at hc;·rename_i n hsz;cases hc;exact OM ho hu hf hsz (h.cN x ha.1) hs hφ
    ·cases hc
   ·cases hc
  ·cases hc
 ·rename_i s x i ho;split at hc
  ·rename_i fs hu;split at hc;·rename_i f hf;obtain⟨n,hn,he⟩:=Option.map_eq_some_iff.1 hc;cases he;cases n with|none=>exact JP ho hu hf hn (h.cN x ha.1) hs hφ|some n=>exact It ho hu hf hn (h.cN x ha.1) hs hφ
   ·cases hc
  ·cases hc
 ·rename_i t x y ho;split at hc;·rename_i e hu;obtain⟨sz,hsz,he⟩:=Option.map_eq_some_iff.1 hc;cases he;exact PU ho hu hsz h.heap (h.cN x ha.1) (h.cN y ha.2.1) hs hφ
  ·rename_i n e hu;obtain⟨sz,hsz,he⟩:=Option.map_eq_some_iff.1 hc;cases he;exact NI ho hu hsz (h.cN x ha.1) (h.cN y ha.2.1) hs hφ
  ·cases hc
 ·rename_i t x y ho;split at hc;·rename_i hu;cases hc;exact Ji ho hu (h.cN x ha.1) (h.cN y ha.2.1) hs hφ
  ·cases hc
 ·rename_i t x lo hi ho;split at hc;·rename_i hu;cases hc;simp only[List.singleton_append,List.cons_append,List.nil_append,List.map_cons,al]at ha hs;exact Qg ho hu h.cN (h.cN x ha.1) ha.2 hs hφ
  ·rename_i e hu;obtain⟨sz,hsz,he⟩:=Option.map_eq_some_iff.1 hc;cases he;simp only[List.singleton_append,List.cons_append,List.nil_append,List.map_cons,al]at ha hs;exact Ry ho hu hsz h.heap h.cN (h.cN x ha.1) ha.2 hs hφ
  ·cases hc
 ·rename_i x i ho;cases hc;exact Qv ho (h.cN x ha.1) hs hφ
 ·rename_i x ho;cases hc;exact SB ho (h.cN x ha.1) hs hφ
 ·rename_i f first caps ho;split at hc
  ·rename_i hf;have hf':first=#[]:=by apply Array.ext';simpa using hf
   subst hf';cases hc;exact Pr ho h.cN ha hs hφ
  ·cases hc
 ·rename_i c ho;obtain⟨callee,args,argTypes⟩:=c;unfold fm at hc;simp only at hc;split at hc
  ·rename_i b;unfold cI at hc;split at hc;·
    rename_i x t hx ht;have hx':args=#[x]:=by apply Array.ext';simpa using hx
    have ht':argTypes=#[t]:=by apply Array.ext';simpa using ht
    subst hx' ht';split at hc;·rename_i hu;cases hc;exact JE ho hu (h.cN x ha.1) hs hφ
    ·rename_i e hu;cases hc;exact SL ho hu h.heap (h.cN x ha.1) hs hφ
    ·cases hc
   ·split at hc
    ·split at hc
     ·split at hc;·cases hc;simp[oV]at hk
      ·cases hc
     ·cases hc
    ·split at hc
     ·split at hc;·cases hc;simp[oV]at hk
      ·cases hc
     ·cases hc
    ·cases hc
   ·rename_i x y t t' hx ht;have hx':args=#[x,y]:=by apply Array.ext';simpa using hx
    have ht':argTypes=#[t,t']:=by apply Array.ext';simpa using ht
    subst hx' ht';cases hc;exact Fv (mx:=false) ho (h.cN x ha.1) (h.cN y ha.2.1) hs
   ·rename_i x y t t' hx ht;have hx':args=#[x,y]:=by apply Array.ext';simpa using hx
    have ht':argTypes=#[t,t']:=by apply Array.ext';simpa using ht
    subst hx' ht';cases hc;exact Fv (mx:=true) ho (h.cN x ha.1) (h.cN y ha.2.1) hs
   ·repeat'(split at hc)
    all_goals first|(cases hc;simp[oV]at hk;done)|cases hc
   ·cases hc
  ·split at hc;·cases hc;simp[oV]at hk
   ·cases hc
  ·cases hc;simp[oV]at hk
  ·cases hc
 ·cases hc
theorem aG {K:Act→World→Prop}{Q:Exit→Act→World→Prop}{r:Value}{w':World} (hr:(execOp a.eval o).run P w=.ok (.value r) w') (hK:K (a.put o.dst r) w'):o.wp P a w K Q:=by unfold Oper.wp;rw[hr];exact hK
theorem gL {K:Act→World→Prop}{Q:Exit→Act→World→Prop}{w':World} (hr:(execOp a.eval o).run P w=.ok .skip w') (hK:K (a.put o.dst undef) w'):o.wp P a w K Q:=by unfold Oper.wp;rw[hr];exact hK
theorem cO {K:Act→World→Prop}{Q:Exit→Act→World→Prop}{f:FuncId}{args:Array Value}{w':World} (hr:(execOp a.eval o).run P w=.ok (.enter f args) w') (hK:Calls P f args w' fun e w''=>∃v,e=.returned v∧K (a.put o.dst v) w''):o.wp P a w K Q:=by unfold Oper.wp;rw[hr];refine Calls.mono hK ?_;rintro e w'' ⟨v,rfl,h⟩;exact h
theorem ae {α:Type}{q:Option α}{K:α→Prop} (h:ah q K):∃x,q=some x∧K x:=by cases q with|none=>exact h.elim|some x=>exact⟨x,rfl,h⟩
theorem Bt {x:Operand} (h:ed x=true):a.eval x=.slice none 0 0:=by
 unfold ed at h;split at h;·rfl
 ·cases h
theorem gp {f:FuncId}{args:Array Operand}{argTypes:Array TypeId} (ho:o.op=.call {callee:=.value (.func f),args:=args,argTypes:=argTypes}) (hf:gI P f=true):(execOp a.eval o).run P w=.ok (.enter f (args.map a.eval)) w:=by
 unfold gI at hf;split at hf
 ·rename_i fn hfn;simp only[Bool.and_eq_true,bne_iff_ne,ne_eq]at hf;have hn:=hf.1;have hb:¬fn.body=none:=fun e=>by rw[e]at hf;simp at hf
  simp[execOp,ho,resolve,Act.eval,Deferred.ofValue,invoke,callFunc,hfn,hn,hb]
 ·cases hf
theorem iD (h:Rel P S0 L B0 w0 N st a w β):∀(l:List Operand),al (l.map (Ab.ev st.vars))→∀(i:Nat) (v:Value) (x:AV),(l.map a.eval)[i]?=some v→((l.map (Ab.ev st.vars)).map strip)[i]?=some x→RV P (aR S0 w0.heap.size β st.aa w) w β (aA st.aa) v x:=by intro l ha i v x hv hx;rw[List.getElem?_map,Option.map_eq_some_iff]at hv;obtain⟨z,hz,rfl⟩:=hv;simp only[List.getElem?_map,hz,Option.map_some,Option.some.injEq]at hx;subst hx;exact h.cN z (mM l i z ha hz)
theorem pC {Q:Exit→Act→World→Prop}{f:FuncId}{args:Array Operand}{argTypes:Array TypeId} (h:Rel P S0 L B0 w0 N st a w β) {d:Nat} (hd9:d%1000≠999) (ho:o.op=.call {callee:=.value (.func f),args:=args,argTypes:=argTypes}) (hf:gI P f=true) {ys:List AV}{r:AV} (ha:al (args.toList.map (Ab.ev st.vars))) (hre:er st.aa ((args.toList.map (Ab.ev st.vars)).map strip)=some ys) (hcon:HY P f ys r) (hpf:dO ((args.toList.map (Ab.ev st.vars)).map strip)=true∨nW r) (hfree:∀x∈iB d r,st.aa x.1=none) (hres:uV d r=true) {K:Act→World→Prop} (hK:∀v w' β',Rel P S0 L B0 w0 N ⟨st.vars,bk (iB d r) st.aa⟩ a w' β'→RV P (aR S0 w0.heap.size β' (bk (iB d r) st.aa) w') w' β' (aA (bk (iB d r) st.aa)) v (wA d r)→K (a.put o.dst v) w'):o.wp P a w K Q:=by
 refine cO (gp ho hf) ?_;have hv:args.map a.eval=(args.toList.map a.eval).toArray:=by apply Array.ext';simp
 rw[hv];refine(jL (a:=a) h hd9 (by simp) (iD h args.toList ha) hre hcon hpf hfree hres).mono ?_;rintro e w' ⟨v,β',rfl,hR,hrv⟩;exact⟨v,rfl,hK v w' β' hR hrv⟩
theorem yo (h:Rel P S0 L B0 w0 N st a w β) {c x y:Operand} (ho:o.op=.pick c x y) {φ:Prop}{v:AV} (hs:qS [Ab.ev st.vars c,Ab.ev st.vars x,Ab.ev st.vars y]=some (φ,v)) (hφ:φ):∃r,(execOp a.eval o).run P w=.ok (.value r) w∧RV P (aR S0 w0.heap.size β st.aa w) w β (aA st.aa) r v:=by
 simp only[qS,Option.bind_eq_some_iff,Option.map_eq_some_iff]at hs;obtain⟨b,hb,r,hs,hr⟩:=hs;cases hr;obtain⟨hca,hφ⟩:=hφ;obtain⟨φ,v⟩:=r;have hc:=(h.ev c).strip hca;have hX:=h.ev x;have hY:=h.ev y;generalize strip (Ab.ev st.vars c)=C at hb hc;have hce:a.eval c=.bool b:=by cases C with|pv p=>cases p<;>simp[gK]at hb;subst hb;exact hc.ez|_=>simp[gK]at hb
 unfold na at hs;split at hs;·rename_i p q hp hq;simp only[Option.some.injEq,Prod.mk.injEq]at hs;obtain⟨rfl,rfl⟩:=hs;cases b with|true=>have hx:=hX.strip (hφ.1 rfl);rw[hp]at hx;exact⟨a.eval x,by simp[execOp,ho,hce,asBool],by simpa using hx⟩|false=>have hy:=hY.strip (hφ.2 rfl);rw[hq]at hy;exact⟨a.eval y,by simp[execOp,ho,hce,asBool],by simpa using hy⟩
 ·rename_i p hp _;simp only[Option.some.injEq,Prod.mk.injEq]at hs;obtain⟨rfl,rfl⟩:=hs;obtain⟨rfl,hφ⟩:=hφ;have hx:=hX.strip hφ;rw[hp]at hx;exact⟨a.eval x,by simp[execOp,ho,hce,asBool],hx⟩
 ·rename_i q hq _;simp only[Option.some.injEq,Prod.mk.injEq]at hs;obtain⟨rfl,rfl⟩:=hs;obtain⟨rfl,hφ⟩:=hφ;have hy:=hY.strip hφ;rw[hq]at hy;exact⟨a.eval y,by simp[execOp,ho,hce,asBool],hy⟩
 ·cases hs
theorem tX (hΓ:c7 P Γ) {Q:Exit→Act→World→Prop} (h:Rel P S0 L B0 w0 N st a w β) (hc:fB P o=some (k,xs)) (hd:∀s,o.dst=some s→s<N) {C:bz→Prop} (hs:aS P Γ o.dst k (xs.map (Ab.ev st.vars)) st.aa C):o.wp P a w (fun a' w'=>∃e β',C e∧Rel P S0 L B0 w0 N (e.on o.dst st) a' w' β') Q:=by
 by_cases hq:oV k=true;·
  have hs':al (xs.map (Ab.ev st.vars))∧ah (ak k ((xs.map (Ab.ev st.vars)).map strip) st.aa) fun x=>x.1∧C (.put x.2):=by cases k<;>first|exact hs|(simp[oV]at hq)
  obtain⟨ha,hw⟩:=hs';obtain⟨⟨φ,v⟩,he,hφ,hC⟩:=ae hw;obtain⟨r,hr,hv⟩:=Cy h hc hq ha he hφ;exact aG hr ⟨_,β,hC,h.put hd hv⟩
 ·have hmov:∀x:Operand,k=.aM→xs=[x]→(execOp a.eval o).run P w=.ok (.value (a.eval x)) w→o.wp P a w (fun a' w'=>∃e β',C e∧Rel P S0 L B0 w0 N (e.on o.dst st) a' w' β') Q:=by rintro x rfl rfl hr;dsimp only[aS]at hs;obtain⟨y,hy,_,hC⟩:=ae hs;simp at hy;subst hy;exact aG hr ⟨_,β,hC,h.put hd (h.ev x)⟩
  have hnil:∀(x:Operand) (e:TypeId),k=.bL e→(P.info? e).isSome=true→ed x=true→(execOp a.eval o).run P w=.ok (.value (a.eval x)) w→o.wp P a w (fun a' w'=>∃e β',C e∧Rel P S0 L B0 w0 N (e.on o.dst st) a' w' β') Q:=by rintro x e rfl hi hx hr;dsimp only[aS]at hs;obtain⟨d,hdd,_,hw⟩:=ae hs;obtain⟨⟨φ,v,ao⟩,he,hφ,hn,hC⟩:=ae hw;simp only[ck,Option.some.injEq,Prod.mk.injEq]at he;obtain⟨rfl,rfl,rfl⟩:=he;rw[Bt hx]at hr;obtain⟨β',hR⟩:=Ox h (hd d hdd) hn hi;refine aG hr ⟨_,β',hC,?_⟩;rw[hdd];exact hR
  rcases da hc with hc|⟨x,rfl,_⟩;rotate_left;·have hs:al (xs.map (Ab.ev st.vars))∧ah (ak (.ex x) ((xs.map (Ab.ev st.vars)).map strip) st.aa) fun x=>x.1∧C (.put x.2):=hs;rw[yN (by simpa using hq)]at hs;exact hs.2.elim
  unfold ff at hc;split at hc
  ·rename_i x ho;have hr:(execOp a.eval o).run P w=.ok (.value (a.eval x)) w:=by simp[execOp,ho]
   split at hc
   ·rename_i hx;split at hc
    ·split at hc;·rename_i hi;cases hc;exact hnil x _ rfl hi hx hr
     ·cases hc
    ·cases hc
   ·cases hc;exact hmov x rfl rfl hr
  ·rename_i x ho;have hr:(execOp a.eval o).run P w=.ok (.value (a.eval x)) w:=by simp[execOp,ho]
   split at hc
   ·rename_i hx;split at hc
    ·split at hc;·rename_i hi;cases hc;exact hnil x _ rfl hi hx hr
     ·cases hc
    ·cases hc
   ·cases hc;exact hmov x rfl rfl hr
  ·rename_i c x y ho;cases hc;dsimp only[aS]at hs;obtain⟨⟨φ,v⟩,he,hφ,hC⟩:=ae hs;obtain⟨r,hr,hv⟩:=yo h ho he hφ;exact aG hr ⟨_,β,hC,h.put hd hv⟩
  ·rename_i e ho;obtain⟨zs,hz,he⟩:=Option.map_eq_some_iff.1 hc;cases he;dsimp only[aS]at hs;obtain⟨d,hdd,_,hw⟩:=ae hs;obtain⟨⟨φ,v,ao⟩,he,hφ,hn,hC⟩:=ae hw;obtain⟨r,w',hr,β',hR⟩:=EW ho hz h (hd d hdd) hn he;refine aG hr ⟨_,β',hC,?_⟩;rw[hdd];exact hR
  ·rename_i e x ho;cases hc;dsimp only[aS]at hs;obtain⟨d,hdd,ha,hw⟩:=ae hs;obtain⟨⟨φ,v,ao⟩,he,hφ,hn,hC⟩:=ae hw;obtain⟨r,w',hr,β',hR⟩:=Pu ho h (hd d hdd) hn (h.cN x ha.1) he;refine aG hr ⟨_,β',hC,?_⟩;rw[hdd];exact hR
  ·split at hc
   ·split at hc;·cases hc
    ·obtain⟨l,hl,he⟩:=Option.map_eq_some_iff.1 hc;cases he;exact absurd rfl hq
   ·cases hc
  ·rename_i t n ps ho;split at hc
   ·rename_i e hu;split at hc
    ·rename_i sz zs hsz hz;split at hc;·rename_i hcond;obtain⟨_,hord,hbig,hzl,hpos⟩:=hcond;cases hc;dsimp only[aS]at hs;obtain⟨d,hdd,ha,hw⟩:=ae hs;obtain⟨⟨φ,v,ao⟩,he,hφ,hn,hC⟩:=ae hw;obtain⟨r,w',hr,β',hR⟩:=OP ho hu hsz hz hord hbig hzl hpos h (hd d hdd) hn h.cN ha he hφ;refine aG hr ⟨_,β',hC,?_⟩;rw[hdd];exact hR
     ·cases hc
    ·cases hc
   ·cases hc
  ·obtain⟨n,hn,he⟩:=Option.map_eq_some_iff.1 hc;cases he;exact absurd rfl hq
  ·rename_i t x y ho;split at hc
   ·rename_i hn;split at hc;·rename_i h1;cases hc;obtain⟨ha,hw⟩:=hs;obtain⟨⟨φ,tg,ao⟩,he,hφ,hC⟩:=ae hw;obtain⟨w',hr,β',hR⟩:=Be ho h1 h hd (h.cN x ha.1) (h.cN y ha.2.1) he hφ;exact gL hr ⟨_,β',hC,hR⟩
    ·cases hc
   ·rename_i n hn;cases hc;obtain⟨ha,hw⟩:=hs;obtain⟨⟨φ,tg,ao⟩,he,hφ,hC⟩:=ae hw;obtain⟨w',hr,β',hR⟩:=CH ho hn h hd (h.cN x ha.1) (h.cN y ha.2.1) he hφ;exact gL hr ⟨_,β',hC,hR⟩
   ·cases hc
  ·split at hc;·split at hc<;>first|(cases hc;exact absurd rfl hq)|cases hc
   ·cases hc;exact absurd rfl hq
   ·cases hc;exact absurd rfl hq
   ·split at hc
    ·split at hc;·split at hc<;>first|(cases hc;exact absurd rfl hq)|cases hc
     ·cases hc
    ·cases hc
   ·cases hc
  ·cases hc;exact absurd rfl hq
  ·cases hc;exact absurd rfl hq
  ·split at hc;·cases hc;exact absurd rfl hq
   ·cases hc;exact absurd rfl hq
   ·split at hc;·cases hc;exact absurd rfl hq
    ·cases hc
   ·split at hc;·cases hc;exact hs.2.elim
    ·cases hc
   ·cases hc
  ·split at hc
   ·split at hc
    ·split at hc;·cases hc;exact absurd rfl hq
     ·cases hc
    ·cases hc
   ·cases hc
  ·split at hc
   ·split at hc;·obtain⟨n,hn,he⟩:=Option.map_eq_some_iff.1 hc;cases he;exact absurd rfl hq
    ·cases hc
   ·cases hc
  ·split at hc;·obtain⟨n,hn,he⟩:=Option.map_eq_some_iff.1 hc;cases he;exact absurd rfl hq
   ·obtain⟨n,hn,he⟩:=Option.map_eq_some_iff.1 hc;cases he;exact absurd rfl hq
   ·cases hc
  ·split at hc;·cases hc;exact absurd rfl hq
   ·cases hc
  ·split at hc;·cases hc;exact absurd rfl hq
   ·obtain⟨n,hn,he⟩:=Option.map_eq_some_iff.1 hc;cases he;exact absurd rfl hq
   ·cases hc
  ·cases hc;exact absurd rfl hq
  ·cases hc;exact absurd rfl hq
  ·split at hc;·cases hc;exact absurd rfl hq
   ·cases hc
  ·rename_i c ho;obtain⟨callee,args,argTypes⟩:=c;unfold fm at hc;simp only at hc;split at hc
   ·rename_i b;unfold cI at hc;split at hc;·split at hc<;>first|(cases hc;exact absurd rfl hq)|cases hc
    ·rename_i x y t tx hx ht;have hx':args=#[x,y]:=by apply Array.ext';simpa using hx
     have ht':argTypes=#[t,tx]:=by apply Array.ext';simpa using ht
     subst hx' ht';have happ:∀(e:TypeId) (inf:TypeInfo),P.underlying t=some (.slice e)→((∃e',P.underlying tx=some (.slice e'))∨P.underlying tx=some .string)→P.info? e=some inf→0<inf.size→(dv P e).isSome=true→aS P Γ o.dst (.app e inf.size inf.bytes) ([x,y].map (Ab.ev st.vars)) st.aa C→o.wp P a w (fun a' w'=>∃e β',C e∧Rel P S0 L B0 w0 N (e.on o.dst st) a' w' β') Q:=by
      intro e inf hu hux hi hpos hzt hs;obtain⟨ha,hw⟩:=hs;split at hw;·obtain⟨⟨φ,tg,ao⟩,he,hφ,hC⟩:=ae hw;obtain⟨r,w',hr,β',hR⟩:=TH ho hu hux hi hpos hzt h hd (h.cN x ha.1) (h.cN y ha.2.1) he hφ;exact aG hr ⟨_,β',hC,hR⟩
      ·obtain⟨d,hdd,hw⟩:=ae hw;obtain⟨⟨φ,v,ao⟩,he,hφ,hn,hC⟩:=ae hw;obtain⟨r,w',hr,β',hR⟩:=OV ho hu hux hi hpos hzt h (hd d hdd) hn (h.cN x ha.1) (h.cN y ha.2.1) he hφ;refine aG hr ⟨_,β',hC,?_⟩;rw[hdd];exact hR
     split at hc
     ·rename_i e hu hux;split at hc
      ·rename_i inf hi;split at hc;·rename_i hcond;cases hc;exact happ e inf hu (.inr hux) hi (by omega) hcond.2 hs
       ·cases hc
      ·cases hc
     ·rename_i e e' hu hux;split at hc
      ·rename_i inf hi;split at hc;·rename_i hcond;cases hc;exact happ e inf hu (.inl ⟨e',hux⟩) hi hcond.1 hcond.2 hs
       ·cases hc
      ·cases hc
     ·cases hc
    ·cases hc;exact absurd rfl hq
    ·cases hc;exact absurd rfl hq
    ·repeat'(split at hc)
     all_goals first|(cases hc;exact hs.2.elim)|cases hc
    ·cases hc
   ·rename_i f;split at hc
    ·rename_i hf;cases hc;dsimp only[aS]at hs;dsimp only[cf]at hs;obtain⟨d,hdd,ha,hw⟩:=ae hs;obtain⟨ys,hys,hw⟩:=ae hw;obtain⟨⟨φ,r⟩,hr,hφ,hpf,hfree,hres,hC⟩:=ae hw;have hcon:=hΓ.UN (fS hf) hr hφ;have hdlt:d<N:=hd d hdd;have hlim:=h.oT;have hd9:d%1000≠999:=by omega
     refine pC h hd9 ho hf ha hys hcon hpf hfree hres ?_;intro v w' β' hR hv;refine⟨_,β',hC,?_⟩;exact hR.put hd hv
    ·cases hc
   ·cases hc;exact hs.2.elim
   ·cases hc
  ·cases hc
end
def Core (P:Program) (N:Nat) (ops:Array Oper) (o:Oper) (i:AI):Prop:=fB P o=some (i.k,i.xs)∧i.d=o.dst∧(∀d,i.d=some d→d<N)∧((o.guard=none∧i.g=none)∨∃j want s,o.guard=some (j,want)∧(ops[j]?).bind (·.dst)=some s∧i.g=some (s,want))
theorem xX {P:Program}{N:Nat}{ops:Array Oper}{o:Oper}{i:AI} (h:Ck P N ops o=some i):Core P N ops o i:=by unfold Ck at h;cases hk:fB P o with|none=>rw[hk]at h;simp at h|some kx=>
 obtain⟨k,xs⟩:=kx;rw[hk]at h;dsimp only at h;have key:∀b:Bool,(∀d,o.dst=some d→b=true→d<N)→(if(!b)=true then none else match o.guard with|none=>some (⟨o.dst,k,xs,none,[],none⟩:AI)|some (j,want)=>match(ops[j]?).bind (·.dst) with|some s=>some ⟨o.dst,k,xs,some (s,want),[],none⟩|none=>none)=some i→Core P N ops o i:=by intro b hb h;cases b with|false=>simp at h|true=>simp only[Bool.not_true,Bool.false_eq_true,if_false]at h;cases hg:o.guard with|none=>rw[hg]at h;simp only[Option.some.injEq]at h;subst h;exact⟨hk,rfl,fun d e=>hb d e rfl,.inl ⟨hg,rfl⟩⟩|some jw=>obtain⟨j,want⟩:=jw;rw[hg]at h;dsimp only at h;cases hs:(ops[j]?).bind (·.dst) with|none=>rw[hs]at h;cases h|some s=>rw[hs]at h;simp only[Option.some.injEq]at h;subst h;exact⟨hk,rfl,fun d e=>hb d e rfl,.inr ⟨j,want,s,hg,hs,rfl⟩⟩
 refine key _ ?_ h;intro d hd hb;rw[hd]at hb;simp at hb;exact hb.1
theorem dK {P:Program}{ops:Array Oper}{o:Oper}{a:Act} (h:o.guard=none):Region.wanted o (yielded ops a.tmps)=true:=by unfold Region.wanted;rw[h]
def Hn:Value→Option Bool|.bool b=>some b|_=>none
theorem mc {P:Program}{w:World}{β:Nat→Value}{S:Nat→Prop}{D:Nat→Prop}{want:Bool}:∀{v:AV}{u:Value}{c:Bool},RV P S w β D u v→bC v want=some c→(Hn u==some want)=c
 |.pv p,u,c,hu,h=>by cases p with|bool b=>rw[hu.ez];simp only[bC,Option.some.injEq]at h;subst h;cases want<;>cases b<;>rfl|_=>simp[bC]at h
 |.bX g v,u,c,hu,h=>by cases hu with|bX _ _ _ h1 h2=>cases g with|false=>rw[h2 rfl];simp only[bC,qu,Option.some.injEq]at h;subst h;rfl|true=>exact mc (v:=v) (h1 rfl) (by simpa[bC,qu]using h)
 |.own _,_,_,_,h|.ptr _ _,_,_,_,h|.aO _ _ _ _,_,_,_,h|.sub _ _ _ _,_,_,_,h|.rp _,_,_,_,h|.agg _,_,_,_,h|.aK _,_,_,_,h|.bB _ _,_,_,_,h|.fr _ _,_,_,_,h|.aq,_,_,_,h=>by simp[bC]at h
theorem cR {P:Program}{w:World}{β:Nat→Value}{S:Nat→Prop}{D:Nat→Prop}{ops:Array Oper}{o:Oper}{a:Act}{j:Nat}{want:Bool}{s:Nat}{v:AV}{c:Bool} (h:o.guard=some (j,want)) (hs:(ops[j]?).bind (·.dst)=some s) (hv:RV P S w β D (a.tmps.getD s undef) v) (hc:bC v want=some c):Region.wanted o (yielded ops a.tmps)=c:=by rw[←mc hv hc];unfold Region.wanted;rw[h];simp only[yielded,hs,Option.bind_some];rw[Array.getD_eq_getD_getElem?];cases a.tmps[s]? with|none=>rfl|some v=>cases v<;>rfl
def B2 (g:Nat→AV→AV):Prop:=∀p c,(∀e rows,c≠.fr e rows)→g p c=c
theorem sS (d i:Nat):B2 fun p c=>jG d (p+i) c:=by intro p c hc;cases c<;>first|rfl|exact absurd rfl (hc _ _)
theorem qh {g:Nat→AV→AV} (hg:B2 g):∀(cs:List AV) (j:Nat),fo j cs=[]→fH g j cs=cs
 |[],_,_=>rfl|c::cs,j,h=>by
  have hc:∀e rows,c≠.fr e rows:=by rintro e rows rfl;simp[fo]at h
  have h':fo (j+1) cs=[]:=by cases c<;>first|exact h|exact absurd rfl (hc _ _)
  simp only[fH];rw[hg _ _ hc,qh hg cs (j+1) h']
theorem s0 {g:Nat→AV→AV} (hg:B2 g) {v:AV} (h:jB v=[]):kR g v=v:=by
 have hv:∀e rows,v≠.fr e rows:=by rintro e rows rfl;simp[jB]at h
 cases v<;>first|exact congrArg AV.agg (qh hg _ _ h)|exact hg _ _ hv
theorem qI {d:Nat}:∀(vs:List AV) (i:Nat),jH i vs=[]→gJ (jG d) i vs=vs|[],_,_=>rfl|v::vs,i,h=>by simp only[jH,List.append_eq_nil_iff,List.map_eq_nil_iff]at h;simp only[gJ];rw[s0 (sS d i) h.1,qI vs (i+1) h.2]
theorem oD {d:Nat}{r:AV} (h:wE r=[]):cA (jG d) r=r:=by
 have hr:(∃vs,r=.aK vs)∨(wE r=jB r∧cA (jG d) r=kR (fun p c=>jG d (p+0) c) r):=by cases r<;>first|exact .inl ⟨_,rfl⟩|exact .inr ⟨rfl,rfl⟩
 rcases hr with⟨vs,rfl⟩|⟨h1,h2⟩;·exact congrArg AV.aK (qI _ _ h)
 ·rw[h2];exact s0 (sS d 0) (h1▸h)
theorem zH {ys:List AV}{aa:Nat→Option AO}:ak .gi ys aa=none:=by unfold ak;split<;>first|rfl|simp_all
theorem B7 {e:TypeId}{sz:Nat}{zs:List Value}{ys:List AV}{aa:Nat→Option AO}:ak (.zo e sz zs) ys aa=none:=by unfold ak;split<;>first|rfl|simp_all
theorem zE {e:TypeId}{ys:List AV}{aa:Nat→Option AO}:ak (.uE e) ys aa=none:=by unfold ak;split<;>first|rfl|simp_all
theorem nf {P:Program}{b:Builtin}{ys xs:List Operand}{ts:List TypeId}{f:FuncId} (hc:cI P b ys ts=some (.call f,xs)):False:=by
 unfold cI at hc;repeat'(split at hc)
 all_goals(simp at hc)
theorem ka {P:Program}{o:Oper}{f:FuncId}{xs:List Operand} (hc:fB P o=some (.call f,xs)):∃args argTypes,o.op=.call {callee:=.value (.func f),args:=args,argTypes:=argTypes}∧gI P f=true∧xs=args.toList:=by
 rcases da hc with hc|⟨x,h0,_⟩;rotate_left;·cases h0
 unfold ff at hc;split at hc;case h_22=>
  rename_i cl ho;obtain⟨callee,args,argTypes⟩:=cl;unfold fm at hc;simp only at hc;split at hc;·exact(nf hc).elim
  ·split at hc;·rename_i hf;simp only[Option.some.injEq,Prod.mk.injEq,AK.call.injEq]at hc;obtain⟨rfl,hx⟩:=hc;exact⟨args,argTypes,ho,hf,hx.symm⟩
   ·cases hc
  ·simp at hc
  ·cases hc
 all_goals
  exfalso;repeat'(split at hc)
  all_goals(simp at hc)
section
variable{P:Program}{Γ:bI}{S0 L:Nat→Prop}{B0:Nat→Value}{w0 w:World}{N:Nat}{st:St}{a:Act}{β:Nat→Value}{o:Oper}{k:AK}{xs:List Operand}
theorem Rel.AG (h:Rel P S0 L B0 w0 N st a w β) {vars:Nat→AV} (hv:∀s v,RV P (aR S0 w0.heap.size β st.aa w) w β (aA st.aa) v (st.vars s)→RV P (aR S0 w0.heap.size β st.aa w) w β (aA st.aa) v (vars s)):Rel P S0 L B0 w0 N ⟨vars,st.aa⟩ a w β:=⟨h.size,h.defers,fun s=>hv s _ (h.vars s),h.heap,h.old,h.oT,h.rY,h.bT⟩
theorem wJ {S:Nat→Prop}{D:Nat→Prop} (xs:List AV):RV P S w β D undef (yY xs):=by unfold yY;cases rowsOf (xs.map strip) with|none=>exact .aq _|some rows=>exact .bX _ _ _ (fun e=>by cases e) fun _=>rfl
theorem Rel.CM {d:Option Nat}{c:Bool}{v:AV} (hc:c=true) (h:Rel P S0 L B0 w0 N ((bz.put v).on d st) a w β):Rel P S0 L B0 w0 N ((bz.put (.bX c v)).on d st) a w β:=by refine h.AG (vars:=Ab.put d (.bX c v) st.vars) fun s u hu=>?_;cases d with|none=>exact hu|some d=>
 by_cases hs:s=d;·subst hs;simp only[bz.on,Ab.put,if_true]at hu ⊢;exact .bX c _ _ (fun _=>hu) (fun e=>by rw[hc]at e;cases e)
 ·simpa[bz.on,Ab.put,hs]using hu
theorem Rel.fb {d:Option Nat}{v:AV} (hd:∀s,d=some s→s<N) (h:Rel P S0 L B0 w0 N st a w β) (hv:RV P (aR S0 w0.heap.size β st.aa w) w β (aA st.aa) undef v):Rel P S0 L B0 w0 N ((bz.put v).on d st) (a.put d undef) w β:=h.put hd hv
theorem IF (hΓ:c7 P Γ) {Q:Exit→Act→World→Prop}{ops:Array Oper}{i:AI} (h:Rel P S0 L B0 w0 N st a w β) (hi:Core P N ops o i) {C:bz→Prop} (hs:cX P Γ i st.vars st.aa C):if Region.wanted o (yielded ops a.tmps) then o.wp P a w (fun a' w'=>∃e β',C e∧Rel P S0 L B0 w0 N (e.on i.d st) a' w' β') Q else∃e β',C e∧Rel P S0 L B0 w0 N (e.on i.d st) (a.put o.dst undef) w β':=by
 obtain⟨hc,hd,hdN,hg⟩:=hi;have hdN':∀s,o.dst=some s→s<N:=fun s e=>hdN s (hd.trans e);rcases hg with⟨hg,hig⟩|⟨j,want,s,hg,hj,hig⟩;·rw[dK (P:=P) hg];simp only[if_true];unfold cX at hs;rw[hig]at hs;rw[hd]at hs ⊢;exact tX hΓ h hc hdN' hs
 ·unfold cX at hs;rw[hig]at hs;obtain⟨c,hcg,hs⟩:=ae hs;rw[cR hg hj (h.vars s) hcg];rw[hd]at hs ⊢;have hreg:∀(g:bz→bz),(∀e,∀{a' w' β'},Rel P S0 L B0 w0 N (e.on o.dst st) a' w' β'→Rel P S0 L B0 w0 N ((g e).on o.dst st) a' w' β')→aS P Γ o.dst i.k (i.xs.map (Ab.ev st.vars)) st.aa (fun e=>C (g e))→o.wp P a w (fun a' w'=>∃e β',C e∧Rel P S0 L B0 w0 N (e.on o.dst st) a' w' β') Q:=by intro g hgr hk;refine Oper.wp_mono ?_ (tX hΓ h hc hdN' hk);rintro a' w' ⟨e,β',hC,hR⟩;exact⟨g e,β',hC,hgr e hR⟩
  have hq:oV i.k=true→(ah (ak i.k ((i.xs.map (Ab.ev st.vars)).map strip) st.aa) fun x=>(c=true→al (i.xs.map (Ab.ev st.vars))∧x.1)∧C (.put (.bX c x.2)))→if c=true then o.wp P a w (fun a' w'=>∃e β',C e∧Rel P S0 L B0 w0 N (e.on o.dst st) a' w' β') Q else∃e β',C e∧Rel P S0 L B0 w0 N (e.on o.dst st) (a.put o.dst undef) w β':=by intro hk hw;obtain⟨⟨φ,v⟩,he,hφ,hC⟩:=ae hw;cases c with|true=>obtain⟨r,hr,hv⟩:=Cy h hc hk (hφ rfl).1 he (hφ rfl).2;exact aG hr ⟨_,β,hC,h.put hdN' (.bX _ _ _ (fun _=>hv) fun e=>by cases e)⟩|false=>exact⟨_,β,hC,h.fb hdN' (.bX _ _ _ (fun e=>by cases e) fun _=>rfl)⟩
  have hmk:∀{v:AV},RV P (aR S0 w0.heap.size β st.aa w) w β (aA st.aa) undef v→(c=true→aS P Γ o.dst i.k (i.xs.map (Ab.ev st.vars)) st.aa C)∧(c=false→C (.put v))→if c=true then o.wp P a w (fun a' w'=>∃e β',C e∧Rel P S0 L B0 w0 N (e.on o.dst st) a' w' β') Q else∃e β',C e∧Rel P S0 L B0 w0 N (e.on o.dst st) (a.put o.dst undef) w β':=by rintro v hv ⟨ht,hf⟩;cases c with|true=>exact hreg id (fun _ _ _ _ hR=>hR) (ht rfl)|false=>exact⟨_,β,hf rfl,h.fb hdN' hv⟩
  generalize hik:i.k=k at hc hs hreg hq hmk;cases k with
  |aM=>dsimp only[b7]at hs;obtain⟨x,hx,hl,hC⟩:=ae hs;cases c with
   |true=>
    refine hreg (fun e=>match e with|.put v=>.put (.bX true v)|e=>e) ?_ ?_;·intro e a' w' β' hR;cases e<;>first|exact hR.CM rfl|exact hR
    ·dsimp only[aS];rw[hx];exact⟨hl,hC⟩|false=>exact⟨_,β,hC,h.fb hdN' (.bX _ _ _ (fun e=>by cases e) fun _=>rfl)⟩
  |pick=>dsimp only[b7]at hs;obtain⟨x,hx,hl,hC⟩:=ae hs;cases c with
   |true=>
    refine hreg (fun e=>match e with|.put v=>.put (.bX true v)|e=>e) ?_ ?_;·intro e a' w' β' hR;cases e<;>first|exact hR.CM rfl|exact hR
    ·dsimp only[aS];rw[hx];exact⟨hl rfl,hC⟩|false=>exact⟨_,β,hC,h.fb hdN' (.bX _ _ _ (fun e=>by cases e) fun _=>rfl)⟩
  |bL e=>exact hmk (.aq _) hs|box=>exact hmk (.aq _) hs|alloc zs=>exact hmk (.aq _) hs|eW e sz=>exact hmk (wJ _) hs|store n=>exact hmk (.aq _) hs|app e sz bytes=>exact hmk (.aq _) hs|call f=>
   dsimp only[b7]at hs;obtain⟨ys,hys,hs⟩:=ae hs;obtain⟨⟨φ,r⟩,hr,hs⟩:=ae hs;split at hs;rotate_left;·exact hmk (.bX _ _ _ (fun e=>by cases e) fun _=>rfl) hs
   obtain⟨hcon,hfl,hfr,hres,hC⟩:=hs;cases c with|true=>
    have hcall:=ka hc;obtain⟨args,argTypes,ho,hf,hx⟩:=hcall;rw[hx]at hys hcon;have htr:=zC hfl;have hnil:∀d,iB d r=[]:=fun d=>by rw[qO htr];unfold aJ;rw[hfr];rfl
    refine pC (d:=0) h (by omega) ho hf (hcon rfl).1 hys (hΓ.UN (fS hf) hr (hcon rfl).2) (.inr (by rw[oh htr];exact hfl)) (by rw[hnil];intro x hx;cases hx) (by rw[rC htr];exact hres) ?_;intro v w' β' hR hv;rw[hnil]at hR hv;rw[qQ htr,oD hfr]at hv;exact⟨_,β',hC,hR.put hdN' (.bX _ _ _ (fun _=>hv) fun e=>by cases e)⟩|false=>exact⟨_,β,hC,h.fb hdN' (.bX _ _ _ (fun e=>by cases e) fun _=>rfl)⟩
  |gi=>have hs:ah (ak .gi ((i.xs.map (Ab.ev st.vars)).map strip) st.aa) fun x=>(c=true→al (i.xs.map (Ab.ev st.vars))∧x.1)∧C (.put (.bX c x.2)):=hs;rw[zH]at hs;exact hs.elim|qq=>exact hq rfl hs|zR mx=>exact hq rfl hs|eqs ne ks=>exact hq rfl hs|uE e=>have hs:ah (ak (.uE e) ((i.xs.map (Ab.ev st.vars)).map strip) st.aa) fun x=>(c=true→al (i.xs.map (Ab.ev st.vars))∧x.1)∧C (.put (.bX c x.2)):=hs;rw[zE]at hs;exact hs.elim|ex x=>
   have hs:ah (ak (.ex x) ((i.xs.map (Ab.ev st.vars)).map strip) st.aa) fun x=>(c=true→al (i.xs.map (Ab.ev st.vars))∧x.1)∧C (.put (.bX c x.2)):=hs;by_cases hq':oV (.ex x)=true;·exact hq hq' hs
   ·rw[yN (by simpa using hq')]at hs;exact hs.elim|zo e sz zs=>have hs:ah (ak (.zo e sz zs) ((i.xs.map (Ab.ev st.vars)).map strip) st.aa) fun x=>(c=true→al (i.xs.map (Ab.ev st.vars))∧x.1)∧C (.put (.bX c x.2)):=hs;rw[B7]at hs;exact hs.elim|_=>exact hq rfl hs
end
theorem nB {P:Program}{Γ:bI}{d:Option Nat}{k:AK}{xs:List AV}{aa:Nat→Option AO}{C:bz→Prop} (hs:aS P Γ d k xs aa C):∃e,C e∧aS P Γ d k xs aa fun e'=>e'=e:=by cases k with
 |aM=>dsimp only[aS]at hs ⊢;obtain⟨x,hx,hl,hC⟩:=ae hs;exact⟨_,hC,by rw[hx];exact⟨hl,rfl⟩⟩|pick=>dsimp only[aS]at hs ⊢;obtain⟨x,hx,hl,hC⟩:=ae hs;exact⟨_,hC,by rw[hx];exact⟨hl,rfl⟩⟩|bL e=>dsimp only[aS]at hs ⊢;obtain⟨d,hd,ha,hw⟩:=ae hs;obtain⟨x,hx,hl,hn,hC⟩:=ae hw;exact⟨_,hC,by rw[hd];exact⟨ha,by rw[hx];exact⟨hl,hn,rfl⟩⟩⟩|box=>dsimp only[aS]at hs ⊢;obtain⟨d,hd,ha,hw⟩:=ae hs;obtain⟨x,hx,hl,hn,hC⟩:=ae hw;exact⟨_,hC,by rw[hd];exact⟨ha,by rw[hx];exact⟨hl,hn,rfl⟩⟩⟩|alloc zs=>dsimp only[aS]at hs ⊢;obtain⟨d,hd,ha,hw⟩:=ae hs;obtain⟨x,hx,hl,hn,hC⟩:=ae hw;exact⟨_,hC,by rw[hd];exact⟨ha,by rw[hx];exact⟨hl,hn,rfl⟩⟩⟩|eW e sz=>dsimp only[aS]at hs ⊢;obtain⟨d,hd,ha,hw⟩:=ae hs;obtain⟨x,hx,hl,hn,hC⟩:=ae hw;exact⟨_,hC,by rw[hd];exact⟨ha,by rw[hx];exact⟨hl,hn,rfl⟩⟩⟩|store n=>dsimp only[aS]at hs ⊢;obtain⟨ha,hw⟩:=hs;obtain⟨x,hx,hl,hC⟩:=ae hw;exact⟨_,hC,ha,by rw[hx];exact⟨hl,rfl⟩⟩|app e sz bytes=>
  dsimp only[aS]at hs ⊢;obtain⟨ha,hw⟩:=hs;by_cases ho:mm (xs.map strip)=true;·rw[if_pos ho]at hw;obtain⟨x,hx,hl,hC⟩:=ae hw;exact⟨_,hC,ha,by rw[if_pos ho,hx];exact⟨hl,rfl⟩⟩
  ·rw[if_neg ho]at hw;obtain⟨d,hd,hw⟩:=ae hw;obtain⟨x,hx,hl,hn,hC⟩:=ae hw;exact⟨_,hC,ha,by rw[if_neg ho,hd];show ah (ck _ d _ _) _;rw[hx];exact⟨hl,hn,rfl⟩⟩|call f=>dsimp only[aS,cf]at hs ⊢;obtain⟨d,hd,ha,hw⟩:=ae hs;obtain⟨ys,hys,hw⟩:=ae hw;obtain⟨⟨φ,r⟩,hr,h1,h2,h3,h4,hC⟩:=ae hw;exact⟨_,hC,by rw[hd];exact⟨ha,by rw[hys];show ah (gt Γ f ys) _;rw[hr];exact⟨h1,h2,h3,h4,rfl⟩⟩⟩|_=>obtain⟨ha,hw⟩:=hs;obtain⟨x,hx,hl,hC⟩:=ae hw;exact⟨_,hC,ha,by rw[hx];exact⟨hl,rfl⟩⟩
theorem sX {P:Program}{Γ:bI}{c:Bool}{d:Option Nat}{k:AK}{xs:List AV}{aa:Nat→Option AO}{C:bz→Prop} (hs:b7 P Γ c d k xs aa C):∃e,C e∧b7 P Γ c d k xs aa fun e'=>e'=e:=by
 have hmk:∀{v:AV},((c=true→aS P Γ d k xs aa C)∧(c=false→C (.put v)))→∃e,C e∧((c=true→aS P Γ d k xs aa fun e'=>e'=e)∧(c=false→bz.put v=e)):=by rintro v ⟨ht,hf⟩;cases c with|true=>obtain⟨e,he,hs⟩:=nB (ht rfl);exact⟨e,he,fun _=>hs,fun h=>by cases h⟩|false=>exact⟨_,hf rfl,fun h=>(by cases h),fun _=>rfl⟩
 cases k with|aM=>dsimp only[b7]at hs ⊢;obtain⟨x,hx,hl,hC⟩:=ae hs;exact⟨_,hC,by rw[hx];exact⟨hl,rfl⟩⟩|pick=>dsimp only[b7]at hs ⊢;obtain⟨x,hx,hl,hC⟩:=ae hs;exact⟨_,hC,by rw[hx];exact⟨hl,rfl⟩⟩|bL e=>exact hmk hs|box=>exact hmk hs|alloc zs=>exact hmk hs|eW e sz=>exact hmk hs|store n=>exact hmk hs|app e sz bytes=>exact hmk hs|call f=>
  dsimp only[b7]at hs ⊢;obtain⟨ys,hys,hs⟩:=ae hs;obtain⟨⟨φ,r⟩,hr,hs⟩:=ae hs;split at hs;·rename_i hif;obtain⟨h1,h2,h3,h4,hC⟩:=hs;exact⟨_,hC,by rw[hys];show ah (gt Γ f ys) _;rw[hr];show ite _ _ _;rw[if_pos hif];exact⟨h1,h2,h3,h4,rfl⟩⟩
  ·rename_i hif;obtain⟨e,he,hs⟩:=hmk hs;exact⟨e,he,by rw[hys];show ah (gt Γ f ys) _;rw[hr];show ite _ _ _;rw[if_neg hif];exact hs⟩|_=>dsimp only[b7]at hs ⊢;obtain⟨x,hx,hl,hC⟩:=ae hs;exact⟨_,hC,by rw[hx];exact⟨hl,rfl⟩⟩
theorem Ak {P:Program}{Γ:bI}{i:AI}{vars:Nat→AV}{aa:Nat→Option AO}{C:bz→Prop} (hs:cX P Γ i vars aa C):∃e,C e∧cX P Γ i vars aa fun e'=>e'=e:=by unfold cX at hs ⊢;cases hg:i.g with|none=>rw[hg]at hs;exact nB hs|some sw=>obtain⟨s,w⟩:=sw;rw[hg]at hs;dsimp only at hs ⊢;obtain⟨c,hc,hs⟩:=ae hs;obtain⟨e,he,hs⟩:=sX hs;exact⟨e,he,by rw[hc];exact hs⟩
theorem zl (v:AV):(∃f cs,v=.bB f cs)∨((∀aa,mC aa v=ef aa v)∧∀T aa,oi T aa v=lG T aa v):=by cases v<;>first|exact .inl ⟨_,_,rfl⟩|exact .inr ⟨fun _=>rfl,fun _ _=>rfl⟩
theorem BM (v:AV):(∃t o,v=.ptr t o)∨(∃cs,v=.agg cs)∨∀T aa,lG T aa v=rT T v:=by cases v<;>first|exact .inl ⟨_,_,rfl⟩|exact .inr (.inl ⟨_,rfl⟩)|exact .inr (.inr fun _ _=>rfl)
theorem P0 (v:AV):((∃t,v=.own t)∨∃t e lo hi,v=.sub t e lo hi)∨∀aa objs',dR aa v=dR objs' v:=by cases v<;>first|exact .inl (.inl ⟨_,rfl⟩)|exact .inl (.inr ⟨_,_,_,_,rfl⟩)|exact .inr fun _ _=>rfl|(rename_i p;exact .inr fun _ _=>by cases p<;>rfl)
section
variable{T:List Nat}{aa objs':Nat→Option AO} (hag:∀t,iF T t→aa t=objs' t)
include hag
theorem ly {v:AV} (h:rT T v):dR aa v=dR objs' v:=by
 rcases P0 v with(⟨t,rfl⟩|⟨t,e,lo,hi,rfl⟩)|hv;·simp only[dR];rw[hag t h]
 ·simp only[dR];rw[hag t h]
 ·exact hv _ _
theorem jX:∀{cs:List AV},fJ T cs→gV aa cs=gV objs' cs|[],_=>rfl|c::cs,h=>by simp only[gV];rw[ly hag h.1,jX h.2]
omit hag in theorem qb:∀{cs:List AV} (n:Nat),fJ T cs→fJ T (cs.drop n)|[],n,_=>by simp[fJ]|c::cs,0,h=>h|c::cs,n+1,h=>qb n h.2
theorem qc {v:AV} (h:lG T aa v):ef aa v=ef objs' v:=by cases v with
 |ptr t o=>obtain⟨h1,h2⟩:=h;simp only[ef];rw[←hag t h1];cases hb:dX (aa t) with|none=>rfl|some cs=>rw[hb]at h2;simp only[Option.getD_some]at h2;simp only[Option.bind_some];rw[jX hag (qb o h2)]
 |agg cs=>simp only[ef];rw[jX hag h]|bB f cs=>cases cs<;>rfl|rp cs=>rfl|pv p=>cases p<;>rfl|own t=>exact congrArg (Option.map AV.pv) (ly hag (v:=.own t) h)|aO t e i o=>rfl|sub t e lo hi=>exact congrArg (Option.map AV.pv) (ly hag (v:=.sub t e lo hi) h)|aK vs=>rfl|fr e rows=>rfl|bx cs=>rfl|mf es=>rfl|bX g v=>rfl|aq=>rfl
theorem nM:∀{cs:List AV},jo T aa cs→ju aa cs=ju objs' cs|[],_=>rfl|c::cs,h=>by simp only[ju];rw[qc hag h.1,nM h.2]
theorem Af {v:AV} (h:oi T aa v):mC aa v=mC objs' v:=by
 rcases zl v with⟨f,cs,rfl⟩|⟨h1,h2⟩;·exact congrArg (Option.map (AV.bB f)) (nM hag h)
 ·rw[h1,h1];rw[h2]at h;exact qc hag h
theorem lr:∀{cs:List AV},iM T aa cs→er aa cs=er objs' cs|[],_=>rfl|c::cs,h=>by simp only[er];rw[Af hag h.1,lr h.2]
theorem pL {v:AV} (h:lG T aa v):lG T objs' v:=by
 rcases BM v with⟨t,o,rfl⟩|⟨cs,rfl⟩|h2;·exact⟨h.1,by rw[←hag t h.1];exact h.2⟩
 ·exact h
 ·rw[h2]at h ⊢;exact h
theorem oz:∀{cs:List AV},jo T aa cs→jo T objs' cs|[],_=>trivial|c::cs,h=>⟨pL hag h.1,oz h.2⟩
theorem Ay {v:AV} (h:oi T aa v):oi T objs' v:=by
 rcases zl v with⟨f,cs,rfl⟩|⟨h1,h2⟩;·exact oz hag h
 ·rw[h2]at h ⊢;exact pL hag h
theorem gh:∀{cs:List AV},iM T aa cs→iM T objs' cs|[],_=>trivial|c::cs,h=>⟨Ay hag h.1,gh h.2⟩
end
section
variable{T U:List Nat}{aa:Nat→Option AO} (hsub:∀t,iF U t→iF T t)
include hsub
theorem vV {v:AV} (h:rT U v):rT T v:=by cases v<;>first|trivial|exact hsub _ h
theorem m6:∀{cs:List AV},fJ U cs→fJ T cs|[],_=>trivial|c::cs,h=>⟨vV hsub h.1,m6 h.2⟩
theorem qk {v:AV} (h:lG U aa v):lG T aa v:=by
 rcases BM v with⟨t,o,rfl⟩|⟨cs,rfl⟩|h2;·exact⟨hsub _ h.1,m6 hsub h.2⟩
 ·exact m6 hsub h
 ·rw[h2]at h ⊢;exact vV hsub h
theorem sT:∀{cs:List AV},jo U aa cs→jo T aa cs|[],_=>trivial|c::cs,h=>⟨qk hsub h.1,sT h.2⟩
theorem zB {v:AV} (h:oi U aa v):oi T aa v:=by
 rcases zl v with⟨f,cs,rfl⟩|⟨h1,h2⟩;·exact sT hsub h
 ·rw[h2]at h ⊢;exact qk hsub h
theorem qW:∀{cs:List AV},iM U aa cs→iM T aa cs|[],_=>trivial|c::cs,h=>⟨zB hsub h.1,qW h.2⟩
end
theorem fZ {k:AK}{ys:List AV}{aa objs':Nat→Option AO}{r:Prop×AV} (hk:aF k=true) (h:ak k ys aa=some r):ak k ys objs'=some r:=by unfold ak at h;split at h<;>first|exact h|(simp[aF]at hk;done)|cases h
section
variable{T:List Nat}{aa objs':Nat→Option AO} (hag:∀t,iF T t→aa t=objs' t)
include hag
theorem u9 {x:AV} (h:oi T aa x):eN aa x=eN objs' x:=by cases x with|own t=>simp only[eN];rw[hag t h]|sub t e lo hi=>simp only[eN];rw[hag t h]|pv p=>cases p<;>rfl|_=>rfl
theorem pN {k:AK}{ys:List AV}{r:Prop×AV} (hno:iM T aa ys) (h:ak k ys aa=some r):ak k ys objs'=some r:=by unfold ak at h;split at h<;>first|exact h|(simp only[ak];rw[←hag _ hno.1];exact h)|(simp only[ak];rw[←hag _ hno.1.1];exact h)|(simp only[ak];rw[←u9 hag hno.1];exact h)|cases h
theorem xZ {k:AK}{ys:List AV}{r:Prop×Nat×AO} (hk:isApp k=false) (hno:iM T aa ys) (h:dN k ys aa=some r):dN k ys objs'=some r:=by unfold dN at h;split at h<;>first|(simp only[dN];rw[←hag _ hno.1];exact h)|(simp only[dN];rw[←hag _ hno.1.1];exact h)|(simp[isApp]at hk;done)|cases h
omit hag in theorem Au {k:AK}{d:Nat}{ys:List AV}{r:Prop×AV×AO} (hk:isApp k=false) (h:ck k d ys aa=some r):ck k d ys objs'=some r:=by unfold ck at h;split at h<;>first|exact h|(simp[isApp]at hk;done)|cases h
theorem pz {P:Program}{Γ:bI}{d:Option Nat}{k:AK}{xs:List AV}{C:bz→Prop} (hk:isApp k=false) (hd:∀s,d=some s→s<1000∧T.contains s=false) (hno:aF k=true∨iM T aa (xs.map strip)) (hs:aS P Γ d k xs aa C):aS P Γ d k xs objs' C:=by
 have hfree:∀s p,d=some s→aa (s+1000*p)=objs' (s+1000*p):=by intro s p hs;refine hag _ ?_;unfold iF;rw[Nat.add_mul_mod_self_left,Nat.mod_eq_of_lt (hd s hs).1];exact(hd s hs).2
 have hmk:∀{k:AK},isApp k=false→(ah d fun d=>al xs∧ah (ck k d (xs.map strip) aa) fun x=>x.1∧aa d=none∧C (.new x.2.1 [(d,x.2.2)]))→ah d fun d=>al xs∧ah (ck k d (xs.map strip) objs') fun x=>x.1∧objs' d=none∧C (.new x.2.1 [(d,x.2.2)]):=by intro k hk hw;obtain⟨s,hs,ha,hw⟩:=ae hw;obtain⟨x,hx,hφ,hn,hC⟩:=ae hw;rw[hs];refine⟨ha,?_⟩;rw[Au (aa:=aa) (objs':=objs') hk hx];have:=hfree s 0 hs;simp only[Nat.mul_zero,Nat.add_zero]at this;exact⟨hφ,this▸hn,hC⟩
 cases k with|aM=>exact hs|pick=>exact hs|bL e=>exact hmk (k:=.bL e) rfl hs|box=>exact hmk (k:=.box) rfl hs|alloc zs=>exact hmk (k:=.alloc zs) rfl hs|eW e sz=>exact hmk (k:=.eW e sz) rfl hs|store n=>have hno:=hno.resolve_left (by simp[aF]);obtain⟨ha,hw⟩:=hs;refine⟨ha,?_⟩;obtain⟨x,hx,hC⟩:=ae hw;rw[xZ hag hk hno hx];exact hC|app e sz bytes=>simp[isApp]at hk|call f=>have hno:=hno.resolve_left (by simp[aF]);dsimp only[aS,cf]at hs ⊢;obtain⟨s,hs',ha,hw⟩:=ae hs;obtain⟨ys,hys,hw⟩:=ae hw;obtain⟨⟨φ,r⟩,hr,h1,h2,h3,h4,hC⟩:=ae hw;rw[hs'];refine⟨ha,?_⟩;rw[←lr hag hno,hys];show ah (gt Γ f ys) _;rw[hr];refine⟨h1,h2,?_,h4,hC⟩;intro x hx;have:=h3 x hx;obtain⟨y,hy⟩:=tw s r x hx;rw[hy]at this ⊢;rw[←hfree s y hs'];exact this|_=>obtain⟨ha,hw⟩:=hs;refine⟨ha,?_⟩;obtain⟨x,hx,hC⟩:=ae hw;rw[hno.elim (fun h=>fZ (objs':=objs') h hx) (fun h=>pN hag h hx)];exact hC
theorem wX {P:Program}{Γ:bI}{c:Bool}{d:Option Nat}{k:AK}{xs:List AV}{C:bz→Prop} (hk:isApp k=false) (hd:∀s,d=some s→s<1000∧T.contains s=false) (hno:aF k=true∨iM T aa (xs.map strip)) (hs:b7 P Γ c d k xs aa C):b7 P Γ c d k xs objs' C:=by have hmk:∀{v:AV},((c=true→aS P Γ d k xs aa C)∧(c=false→C (.put v)))→((c=true→aS P Γ d k xs objs' C)∧(c=false→C (.put v))):=fun h=>⟨fun hc=>pz hag hk hd hno (h.1 hc),h.2⟩;cases k with
 |aM=>exact hs|pick=>exact hs|bL e=>exact hmk hs|box=>exact hmk hs|alloc zs=>exact hmk hs|eW e sz=>exact hmk hs|store n=>exact hmk hs|app e sz bytes=>exact hmk hs|call f=>
  have hno:=hno.resolve_left (by simp[aF]);dsimp only[b7]at hs ⊢;rw[←lr hag hno];obtain⟨ys,hys,hs⟩:=ae hs;obtain⟨⟨φ,r⟩,hr,hs⟩:=ae hs;rw[hys];show ah (gt Γ f ys) _;rw[hr];show ite _ _ _;split at hs;·rename_i hif;rw[if_pos hif];exact hs
  ·rename_i hif;rw[if_neg hif];exact hmk hs|_=>dsimp only[b7]at hs ⊢;obtain⟨x,hx,hC⟩:=ae hs;rw[hno.elim (fun h=>fZ (objs':=objs') h hx) (fun h=>pN hag h hx)];exact hC
end
theorem iR (t:Nat):∀a:AV,strip (kill t a)=kill t (strip a)|.bX g v=>by simp only[kill,strip];exact iR t v|.pv p=>rfl|.own s=>by show strip (if s=t then .aq else .own s)=(if s=t then .aq else .own s);split<;>rfl|.ptr s o=>rfl|.aO s e i o=>by show strip (if s=t then .aq else .aO s e i o)=(if s=t then .aq else .aO s e i o);split<;>rfl|.sub s e i o=>by show strip (if s=t then .aq else .sub s e i o)=(if s=t then .aq else .sub s e i o);split<;>rfl|.rp cs=>rfl|.agg cs=>rfl|.aK vs=>rfl|.bB f []=>rfl|.bB f (c::cs)=>rfl|.fr e rows=>rfl|.bx _=>rfl|.mf _=>rfl|.aq=>rfl
theorem ss (t:Nat):∀a:AV,asks (kill t a)=asks a|.bX g v=>by simp only[kill,asks];rw[ss t v]|.pv p=>rfl|.own s=>by show asks (if s=t then .aq else .own s)=asks (.own s);split<;>rfl|.ptr s o=>rfl|.aO s e i o=>by show asks (if s=t then .aq else .aO s e i o)=asks (.aO s e i o);split<;>rfl|.sub s e i o=>by show asks (if s=t then .aq else .sub s e i o)=asks (.sub s e i o);split<;>rfl|.rp cs=>rfl|.agg cs=>rfl|.aK vs=>rfl|.bB f []=>rfl|.bB f (c::cs)=>rfl|.fr e rows=>rfl|.bx _=>rfl|.mf _=>rfl|.aq=>rfl
theorem wx {t:Nat}{v:AV}{p:PV} (h:kill t v=.pv p):v=.pv p:=by cases v with|pv q=>exact h|own s=>have h:(if s=t then AV.aq else .own s)=.pv p:=h;split at h<;>cases h|aO s e i o=>have h:(if s=t then AV.aq else .aO s e i o)=.pv p:=h;split at h<;>cases h|sub s e i o=>have h:(if s=t then AV.aq else .sub s e i o)=.pv p:=h;split at h<;>cases h|bB f cs=>cases cs<;>cases h|_=>cases h
theorem Dn (t:Nat) (v:Value):kill t (cv v)=cv v:=by unfold cv;split<;>rfl
theorem Ek (t:Nat) (vars:Nat→AV) (x:Operand):Ab.ev (cb t vars) x=kill t (Ab.ev vars x):=by cases x with|const v=>exact(Dn t v).symm|_=>rfl
theorem jP (t:Nat) (vars:Nat→AV) (xs:List Operand):xs.map (Ab.ev (cb t vars))=(xs.map (Ab.ev vars)).map (kill t):=by rw[List.map_map];exact List.map_congr_left fun x _=>Ek t vars x
theorem iP (t:Nat):∀xs:List AV,al (xs.map (kill t))=al xs|[]=>rfl|x::xs=>by simp only[List.map_cons,al];rw[ss,iP t xs]
theorem nN {t:Nat}:∀{xs:List AV},(∀y∈xs.map strip,∃p,y=AV.pv p)→(xs.map (kill t)).map strip=xs.map strip|[],_=>rfl|x::xs,h=>by simp only[List.map_cons,List.mem_cons,forall_eq_or_imp]at h ⊢;obtain⟨⟨p,hp⟩,h⟩:=h;rw[nN h,iR,hp];rfl
theorem lg {t:Nat}:∀{xs:List AV},(∀y∈(xs.map (kill t)).map strip,∃p,y=AV.pv p)→(xs.map (kill t)).map strip=xs.map strip|[],_=>rfl|x::xs,h=>by simp only[List.map_cons,List.mem_cons,forall_eq_or_imp]at h ⊢;obtain⟨⟨p,hp⟩,h⟩:=h;rw[lg h,hp];rw[iR]at hp;rw[wx hp]
theorem yU {k:AK}{ys:List AV}{aa:Nat→Option AO}{r:Prop×AV} (hk:aF k=true) (h:ak k ys aa=some r):(∀y∈ys,∃p,y=AV.pv p)∧∃q,r.2=.pv q:=by unfold ak at h;split at h<;>first|(simp[aF]at hk;done)|(obtain⟨x,_,rfl⟩:=Option.map_eq_some_iff.1 h;exact⟨by simp,_,rfl⟩)|(simp only[Option.some.injEq]at h;subst h;exact⟨by simp,_,rfl⟩)|cases h
section
variable{P:Program}{Γ:bI}{d:Option Nat}{k:AK}{xs:List AV}{aa objs':Nat→Option AO}{e:bz}{t:Nat}
def sc (k:AK) (xs:List AV):Option (Prop×AV):=match k with
 |.aM=>match xs with|[x]=>some (True,x)|_=>none
 |k=>(ak k (xs.map strip) fun _=>none).map fun r=>(al xs∧r.1,r.2)
theorem eY (hk:aF k=true):aS P Γ d k xs aa (fun e'=>e'=e)↔∃φ v,sc k xs=some (φ,v)∧φ∧e=.put v:=by
 have hq:∀{k:AK},aF k=true→((al xs∧ah (ak k (xs.map strip) aa) fun x=>x.1∧bz.put x.2=e)↔∃φ v,((ak k (xs.map strip) fun _=>none).map fun r=>(al xs∧r.1,r.2))=some (φ,v)∧φ∧e=.put v):=by
  intro k hk;constructor;·rintro⟨ha,hw⟩;obtain⟨r,hr,hφ,he⟩:=ae hw;exact⟨al xs∧r.1,r.2,by rw[fZ (objs':=fun _=>none) hk hr];rfl,⟨ha,hφ⟩,he.symm⟩
  ·rintro⟨φ,v,hs,hφ,he⟩;obtain⟨r,hr,hx⟩:=Option.map_eq_some_iff.1 hs;cases hx;exact⟨hφ.1,by rw[fZ (objs':=aa) hk hr];exact⟨hφ.2,he.symm⟩⟩
 cases k with
 |aM=>
  dsimp only[aS,sc];constructor;·intro h;obtain⟨x,hx,hl,he⟩:=ae h;obtain⟨y,rfl⟩:=List.length_eq_one_iff.1 hl;simp only[List.head?_cons,Option.some.injEq]at hx;subst hx;exact⟨_,_,rfl,trivial,he.symm⟩
  ·rintro⟨φ,v,hs,hφ,rfl⟩;split at hs;·cases hs;exact⟨rfl,rfl⟩
   ·cases hs|bin op=>exact hq rfl|beq ne=>exact hq rfl|not=>exact hq rfl|neg=>exact hq rfl|rK k=>exact hq rfl|yS=>exact hq rfl|_=>simp[aF]at hk
theorem eT {c:Bool} (hk:aF k=true):b7 P Γ c d k xs aa (fun e'=>e'=e)↔∃φ v,sc k xs=some (φ,v)∧(c=true→φ)∧e=.put (.bX c v):=by
 have hq:∀{k:AK},aF k=true→((ah (ak k (xs.map strip) aa) fun x=>(c=true→al xs∧x.1)∧bz.put (.bX c x.2)=e)↔∃φ v,((ak k (xs.map strip) fun _=>none).map fun r=>(al xs∧r.1,r.2))=some (φ,v)∧(c=true→φ)∧e=.put (.bX c v)):=by
  intro k hk;constructor;·intro hw;obtain⟨r,hr,hφ,he⟩:=ae hw;exact⟨al xs∧r.1,r.2,by rw[fZ (objs':=fun _=>none) hk hr];rfl,hφ,he.symm⟩
  ·rintro⟨φ,v,hs,hφ,he⟩;obtain⟨r,hr,hx⟩:=Option.map_eq_some_iff.1 hs;cases hx;rw[fZ (objs':=aa) hk hr];exact⟨hφ,he.symm⟩
 cases k with
 |aM=>
  dsimp only[b7,sc];constructor;·intro h;obtain⟨x,hx,hl,he⟩:=ae h;obtain⟨y,rfl⟩:=List.length_eq_one_iff.1 hl;simp only[List.head?_cons,Option.some.injEq]at hx;subst hx;exact⟨_,_,rfl,fun _=>trivial,he.symm⟩
  ·rintro⟨φ,v,hs,hφ,rfl⟩;split at hs;·cases hs;exact⟨rfl,rfl⟩
   ·cases hs|bin op=>exact hq rfl|beq ne=>exact hq rfl|not=>exact hq rfl|neg=>exact hq rfl|rK k=>exact hq rfl|yS=>exact hq rfl|_=>simp[aF]at hk
theorem sC {φ:Prop}{v:AV} (hk:aF k=true) (h:sc k xs=some (φ,v)):sc k (xs.map (kill t))=some (φ,kill t v):=by
 have hq:((ak k (xs.map strip) fun _=>none).map fun r=>(al xs∧r.1,r.2))=some (φ,v)→((ak k ((xs.map (kill t)).map strip) fun _=>none).map fun r=>(al (xs.map (kill t))∧r.1,r.2))=some (φ,kill t v):=by intro h;obtain⟨r,hr,hx⟩:=Option.map_eq_some_iff.1 h;obtain⟨hp,q,hq⟩:=yU hk hr;cases hx;rw[nN hp,hr,iP,hq];show some (al xs∧r.1,r.2)=_;rw[hq];rfl
 cases k with
 |aM=>
  dsimp only[sc]at h ⊢;split at h;·cases h;rfl
  ·cases h|bin op=>exact hq h|beq ne=>exact hq h|not=>exact hq h|neg=>exact hq h|rK k=>exact hq h|yS=>exact hq h|_=>simp[aF]at hk
theorem nV {φ:Prop}{v:AV} (hk:aF k=true) (h:sc k (xs.map (kill t))=some (φ,v)):∃u,v=kill t u∧sc k xs=some (φ,u):=by
 have hq:((ak k ((xs.map (kill t)).map strip) fun _=>none).map fun r=>(al (xs.map (kill t))∧r.1,r.2))=some (φ,v)→∃u,v=kill t u∧((ak k (xs.map strip) fun _=>none).map fun r=>(al xs∧r.1,r.2))=some (φ,u):=by intro h;obtain⟨r,hr,hx⟩:=Option.map_eq_some_iff.1 h;obtain⟨hp,q,hq⟩:=yU hk hr;rw[lg hp]at hr;rw[iP]at hx;cases hx;exact⟨r.2,by rw[hq];rfl,by rw[hr];rfl⟩
 cases k with
 |aM=>
  dsimp only[sc]at h ⊢;rcases xs with _|⟨x,_|⟨y,xs⟩⟩;·cases h
  ·cases h;exact⟨x,rfl,rfl⟩
  ·cases h|bin op=>exact hq h|beq ne=>exact hq h|not=>exact hq h|neg=>exact hq h|rK k=>exact hq h|yS=>exact hq h|_=>simp[aF]at hk
end
section
variable{P:Program}{Γ:bI}{i:AI}{vars vars':Nat→AV}{aa objs':Nat→Option AO}{e:bz}{t:Nat}
theorem mi (w:Bool):∀v:AV,bC (kill t v) w=bC v w|.bX c v=>by simp only[kill,bC];rw[mi w v]|.own s|.aO s _ _ _|.sub s _ _ _=>by simp only[kill,bO];split<;>rfl|.bB f cs=>by cases cs<;>rfl|.pv _|.ptr _ _|.rp _|.agg _|.aK _|.fr _ _|.bx _|.mf _|.aq=>rfl
theorem ou {v:AV}{w c:Bool}:bC (kill t v) w=some c↔bC v w=some c:=by rw[mi]
theorem qM (hk:aF i.k=true) (h:cX P Γ i vars aa fun e'=>e'=e):∃v,e=.put v∧∀t objs',cX P Γ i (cb t vars) objs' fun e'=>e'=.put (kill t v):=by unfold cX at h ⊢;cases hg:i.g with|none=>rw[hg]at h;obtain⟨φ,v,hs,hφ,rfl⟩:=(eY hk).1 h;refine⟨v,rfl,fun t objs'=>?_⟩;rw[jP];exact(eY hk).2 ⟨φ,_,sC hk hs,hφ,rfl⟩|some sw=>obtain⟨s,w⟩:=sw;rw[hg]at h;dsimp only at h ⊢;obtain⟨c,hc,h⟩:=ae h;obtain⟨φ,v,hs,hφ,rfl⟩:=(eT hk).1 h;refine⟨_,rfl,fun t objs'=>?_⟩;rw[show cb t vars s=kill t (vars s) from rfl,ou.2 hc,jP];exact(eT hk).2 ⟨φ,_,sC hk hs,hφ,rfl⟩
theorem nD (hk:aF i.k=true) (h:cX P Γ i (cb t vars) aa fun e'=>e'=e):∃v,e=.put (kill t v)∧∀objs',cX P Γ i vars objs' fun e'=>e'=.put v:=by unfold cX at h ⊢;cases hg:i.g with|none=>rw[hg]at h;dsimp only at h;rw[jP]at h;obtain⟨φ,v,hs,hφ,rfl⟩:=(eY hk).1 h;obtain⟨u,rfl,hu⟩:=nV hk hs;exact⟨u,rfl,fun objs'=>(eY hk).2 ⟨φ,_,hu,hφ,rfl⟩⟩|some sw=>obtain⟨s,w⟩:=sw;rw[hg]at h;dsimp only at h ⊢;obtain⟨c,hc,h⟩:=ae h;rw[jP]at h;obtain⟨φ,v,hs,hφ,rfl⟩:=(eT hk).1 h;obtain⟨u,rfl,hu⟩:=nV hk hs;refine⟨.bX c u,rfl,fun objs'=>?_⟩;rw[ou.1 hc];exact(eT hk).2 ⟨φ,_,hu,hφ,rfl⟩
theorem cV (hk:aF i.k=true) (h:cX P Γ i vars aa fun e'=>e'=e):(∃v,e=.put v)∧∀objs',cX P Γ i vars objs' fun e'=>e'=e:=by unfold cX at h ⊢;cases hg:i.g with|none=>rw[hg]at h;obtain⟨φ,v,hs,hφ,rfl⟩:=(eY hk).1 h;exact⟨⟨v,rfl⟩,fun objs'=>(eY hk).2 ⟨φ,_,hs,hφ,rfl⟩⟩|some sw=>obtain⟨s,w⟩:=sw;rw[hg]at h;dsimp only at h ⊢;obtain⟨c,hc,h⟩:=ae h;obtain⟨φ,v,hs,hφ,rfl⟩:=(eT hk).1 h;exact⟨⟨_,rfl⟩,fun objs'=>by rw[hc];exact(eT hk).2 ⟨φ,_,hs,hφ,rfl⟩⟩
theorem Ci {x:Operand} (h:∀s∈tmpsOf [x],vars s=vars' s):Ab.ev vars x=Ab.ev vars' x:=by cases x with|tmp t=>exact h t (by simp[tmpsOf])|_=>rfl
theorem eX:∀{xs:List Operand},(∀s∈tmpsOf xs,vars s=vars' s)→xs.map (Ab.ev vars)=xs.map (Ab.ev vars')|[],_=>rfl|x::xs,h=>by have h1:Ab.ev vars x=Ab.ev vars' x:=Ci fun s hs=>h s (by cases x<;>simp_all[tmpsOf]);have h2:xs.map (Ab.ev vars)=xs.map (Ab.ev vars'):=eX fun s hs=>h s (by cases x<;>simp_all[tmpsOf]);simp only[List.map_cons,h1,h2]
theorem dj {C:bz→Prop} (ha:∀s∈cu i,vars s=vars' s) (h:cX P Γ i vars aa C):cX P Γ i vars' aa C:=by have hx:=eX (vars:=vars) (vars':=vars') (xs:=i.xs) fun s hs=>ha s (List.mem_append_left _ hs);unfold cX at h ⊢;rw[←hx];cases hg:i.g with|none=>rw[hg]at h;exact h|some sw=>obtain⟨s,w⟩:=sw;rw[hg]at h;dsimp only at h ⊢;rw[←ha s (List.mem_append_right _ (by rw[hg];simp))];exact h
theorem pj {T:List Nat}{C:bz→Prop} (hag:∀t,iF T t→aa t=objs' t) (hk:isApp i.k=false) (hd:∀s,i.d=some s→s<1000∧T.contains s=false) (hno:aF i.k=true∨iM T aa ((i.xs.map (Ab.ev vars)).map strip)) (h:cX P Γ i vars aa C):cX P Γ i vars objs' C:=by unfold cX at h ⊢;cases hg:i.g with|none=>rw[hg]at h;exact pz hag hk hd hno h|some sw=>obtain⟨s,w⟩:=sw;rw[hg]at h;dsimp only at h ⊢;obtain⟨c,hc,h⟩:=ae h;rw[hc];exact wX hag hk hd hno h
def lY (i:AI) (e:bz):Prop:=(∃v,e=.put v)∨(makes i.k=true∧∃d v os,i.d=some d∧e=.new v os∧∀x∈os,∃p,x.1=d+1000*p)∨(writes i.k=true∧makes i.k=false∧∃t o,e=.sj t o)∨(isApp i.k=true∧∃t o,e=.app t o)
theorem uO {xs:List AV} (h:aS P Γ i.d i.k xs aa fun e'=>e'=e):lY i e:=by
 have hmk:∀{k:AK},makes i.k=true→(ah i.d fun d=>al xs∧ah (ck k d (xs.map strip) aa) fun x=>x.1∧aa d=none∧bz.new x.2.1 [(d,x.2.2)]=e)→lY i e:=by intro k hk hw;obtain⟨d,hd,ha,hw⟩:=ae hw;obtain⟨x,hx,hφ,hn,rfl⟩:=ae hw;exact .inr (.inl ⟨hk,d,_,_,hd,rfl,fun x hx=>⟨0,by simp only[List.mem_singleton]at hx;rw[hx];rfl⟩⟩)
 cases hk:i.k with|aM=>rw[hk]at h;obtain⟨φ,v,_,_,rfl⟩:=(eY rfl).1 h;exact .inl ⟨v,rfl⟩|pick=>rw[hk]at h;dsimp only[aS]at h;obtain⟨x,_,_,rfl⟩:=ae h;exact .inl ⟨_,rfl⟩|bL e=>rw[hk]at h;exact hmk (by rw[hk];rfl) h|box=>rw[hk]at h;exact hmk (by rw[hk];rfl) h|alloc zs=>rw[hk]at h;exact hmk (by rw[hk];rfl) h|eW e sz=>rw[hk]at h;exact hmk (by rw[hk];rfl) h|store n=>rw[hk]at h;obtain⟨_,hw⟩:=h;obtain⟨x,_,_,rfl⟩:=ae hw;exact .inr (.inr (.inl ⟨by rw[hk];rfl,by rw[hk];rfl,_,_,rfl⟩))|app e sz bytes=>
  rw[hk]at h;dsimp only[aS]at h;obtain⟨ha,hw⟩:=h;split at hw;·obtain⟨x,_,_,rfl⟩:=ae hw;exact .inr (.inr (.inr ⟨by rw[hk];rfl,_,_,rfl⟩))
  ·obtain⟨d,hd,hw⟩:=ae hw;obtain⟨x,hx,hφ,hn,rfl⟩:=ae hw;exact .inr (.inl ⟨by rw[hk];rfl,d,_,_,hd,rfl,fun x hx=>⟨0,by simp only[List.mem_singleton]at hx;rw[hx];rfl⟩⟩)|call f=>rw[hk]at h;dsimp only[aS,cf]at h;obtain⟨d,hd,ha,hw⟩:=ae h;obtain⟨ys,hys,hw⟩:=ae hw;obtain⟨⟨φ,r⟩,hr,h1,h2,h3,h4,rfl⟩:=ae hw;refine .inr (.inl ⟨by rw[hk];rfl,d,_,_,hd,rfl,fun x hx=>?_⟩);exact tw d r x hx|_=>rw[hk]at h;obtain⟨_,hw⟩:=h;obtain⟨x,_,_,rfl⟩:=ae hw;exact .inl ⟨_,rfl⟩
theorem vl (h:cX P Γ i vars aa fun e'=>e'=e):lY i e:=by unfold cX at h;cases hg:i.g with|none=>rw[hg]at h;exact uO h|some sw=>
 obtain⟨s,w⟩:=sw;rw[hg]at h;dsimp only at h;obtain⟨c,hc,h⟩:=ae h;have hmk:∀{v:AV},((c=true→aS P Γ i.d i.k (i.xs.map (Ab.ev vars)) aa fun e'=>e'=e)∧(c=false→bz.put v=e))→lY i e:=by rintro v ⟨ht,hf⟩;cases c with|true=>exact uO (ht rfl)|false=>exact .inl ⟨_,(hf rfl).symm⟩
 cases hk:i.k with
 |aM=>rw[hk]at h;obtain⟨φ,v,_,_,rfl⟩:=(eT rfl).1 h;exact .inl ⟨_,rfl⟩|pick=>rw[hk]at h;dsimp only[b7]at h;obtain⟨x,_,_,rfl⟩:=ae h;exact .inl ⟨_,rfl⟩|bL e=>rw[hk]at h hmk;exact hmk h|box=>rw[hk]at h hmk;exact hmk h|alloc zs=>rw[hk]at h hmk;exact hmk h|eW e sz=>rw[hk]at h hmk;exact hmk h|store n=>rw[hk]at h hmk;exact hmk h|app e sz bytes=>rw[hk]at h hmk;exact hmk h|call f=>
  rw[hk]at h hmk;dsimp only[b7]at h;obtain⟨ys,hys,h⟩:=ae h;obtain⟨⟨φ,r⟩,hr,h⟩:=ae h;split at h;·obtain⟨h1,h2,h3,h4,rfl⟩:=h;exact .inl ⟨_,rfl⟩
  ·exact hmk h|_=>rw[hk]at h;dsimp only[b7]at h;obtain⟨x,_,_,rfl⟩:=ae h;exact .inl ⟨_,rfl⟩
end
theorem St.ext' {a b:St} (h1:a.vars=b.vars) (h2:a.aa=b.aa):a=b:=by cases a;cases b;simp only at h1 h2;rw[h1,h2]
theorem mE {d:Option Nat}{v:AV}{f:Nat→AV}{s:Nat} (h:d≠some s):Ab.put d v f s=f s:=by cases d with|none=>rfl|some d=>have:s≠d:=fun e=>h (by rw[e]);simp[Ab.put,this]
theorem put_comm {d d':Option Nat}{v v':AV}{f:Nat→AV} (h:∀s,d=some s→d'≠some s):Ab.put d v (Ab.put d' v' f)=Ab.put d' v' (Ab.put d v f):=by cases d with|none=>rfl|some d=>cases d' with|none=>rfl|some d'=>
 have hne:d'≠d:=fun e=>h d rfl (by rw[e]);funext s;by_cases h1:s=d;·subst h1;simp[Ab.put,hne.symm]
 ·simp[Ab.put,h1]
theorem mu {t:Nat}{d:Option Nat}{v:AV}{f:Nat→AV}:cb t (Ab.put d v f)=Ab.put d (kill t v) (cb t f):=by cases d with|none=>rfl|some d=>
 funext s;by_cases h1:s=d;·simp[cb,Ab.put,h1]
 ·simp[cb,Ab.put,h1]
def ov:bz→Nat→Option AO|.new _ os=>ab os|.sj t o=>fun s=>if s=t then some o else none|_=>fun _=>none
def mH (f g:Nat→Option AO):Nat→Option AO:=fun t=>match f t with|some o=>some o|none=>g t
def Xb:bz→AV|.put v=>v|.new v _=>v|.sj _ _=>.aq|.app t _=>.own t
def plain:bz→Prop|.app _ _=>False|_=>True
theorem db {e:bz}{d:Option Nat}{st:St} (h:plain e):e.on d st=⟨Ab.put d (Xb e) st.vars,mH (ov e) st.aa⟩:=by cases e with|put v=>rfl|new v os=>rfl|sj t o=>refine St.ext' rfl ?_;funext s;by_cases hs:s=t<;>simp[bz.on,mH,ov,aH,hs]|app t o=>exact h.elim
theorem AB {f g h:Nat→Option AO} (hfg:∀t,f t=none∨g t=none):mH f (mH g h)=mH g (mH f h):=by funext t;unfold mH;rcases hfg t with e|e<;>rw[e]<;>cases f t<;>cases g t<;>rfl
def Yi (P:Program) (Γ:bI) (i:AI) (st:St) (e:bz):Prop:=(i.un=[]∨iM i.un st.aa ((i.xs.map (Ab.ev st.vars)).map strip))∧(cX P Γ i st.vars st.aa fun e'=>e'=e)∧xK i.un i.tg e
theorem sE {P:Program}{Γ:bI}{d:Option Nat}{k:AK}{xs:List AV}{aa:Nat→Option AO}{e:bz}{C:bz→Prop} (hC:C e) (hs:aS P Γ d k xs aa fun e'=>e'=e):aS P Γ d k xs aa C:=by cases k with
 |aM=>dsimp only[aS]at hs ⊢;obtain⟨x,hx,hl,rfl⟩:=ae hs;rw[hx];exact⟨hl,hC⟩|pick=>dsimp only[aS]at hs ⊢;obtain⟨x,hx,hl,rfl⟩:=ae hs;rw[hx];exact⟨hl,hC⟩|bL e=>dsimp only[aS]at hs ⊢;obtain⟨d,hd,ha,hw⟩:=ae hs;obtain⟨x,hx,hl,hn,rfl⟩:=ae hw;rw[hd];exact⟨ha,by rw[hx];exact⟨hl,hn,hC⟩⟩|box=>dsimp only[aS]at hs ⊢;obtain⟨d,hd,ha,hw⟩:=ae hs;obtain⟨x,hx,hl,hn,rfl⟩:=ae hw;rw[hd];exact⟨ha,by rw[hx];exact⟨hl,hn,hC⟩⟩|alloc zs=>dsimp only[aS]at hs ⊢;obtain⟨d,hd,ha,hw⟩:=ae hs;obtain⟨x,hx,hl,hn,rfl⟩:=ae hw;rw[hd];exact⟨ha,by rw[hx];exact⟨hl,hn,hC⟩⟩|eW e sz=>dsimp only[aS]at hs ⊢;obtain⟨d,hd,ha,hw⟩:=ae hs;obtain⟨x,hx,hl,hn,rfl⟩:=ae hw;rw[hd];exact⟨ha,by rw[hx];exact⟨hl,hn,hC⟩⟩|store n=>dsimp only[aS]at hs ⊢;obtain⟨ha,hw⟩:=hs;obtain⟨x,hx,hl,rfl⟩:=ae hw;exact⟨ha,by rw[hx];exact⟨hl,hC⟩⟩|app e sz bytes=>
  dsimp only[aS]at hs ⊢;obtain⟨ha,hw⟩:=hs;refine⟨ha,?_⟩;by_cases ho:mm (xs.map strip)=true;·rw[if_pos ho]at hw ⊢;obtain⟨x,hx,hl,rfl⟩:=ae hw;rw[hx];exact⟨hl,hC⟩
  ·rw[if_neg ho]at hw ⊢;obtain⟨d,hd,hw⟩:=ae hw;obtain⟨x,hx,hl,hn,rfl⟩:=ae hw;rw[hd];show ah (ck _ d _ _) _;rw[hx];exact⟨hl,hn,hC⟩|call f=>dsimp only[aS,cf]at hs ⊢;obtain⟨d,hd,ha,hw⟩:=ae hs;obtain⟨ys,hys,hw⟩:=ae hw;obtain⟨⟨φ,r⟩,hr,h1,h2,h3,h4,rfl⟩:=ae hw;rw[hd];exact⟨ha,by rw[hys];show ah (gt Γ f ys) _;rw[hr];exact⟨h1,h2,h3,h4,hC⟩⟩|_=>obtain⟨ha,hw⟩:=hs;obtain⟨x,hx,hl,rfl⟩:=ae hw;exact⟨ha,by rw[hx];exact⟨hl,hC⟩⟩
theorem zF {P:Program}{Γ:bI}{c:Bool}{d:Option Nat}{k:AK}{xs:List AV}{aa:Nat→Option AO}{e:bz}{C:bz→Prop} (hC:C e) (hs:b7 P Γ c d k xs aa fun e'=>e'=e):b7 P Γ c d k xs aa C:=by have hmk:∀{v:AV},((c=true→aS P Γ d k xs aa fun e'=>e'=e)∧(c=false→bz.put v=e))→((c=true→aS P Γ d k xs aa C)∧(c=false→C (.put v))):=fun h=>⟨fun hc=>sE hC (h.1 hc),fun hc=>by rw[h.2 hc];exact hC⟩;cases k with
 |aM=>dsimp only[b7]at hs ⊢;obtain⟨x,hx,hl,rfl⟩:=ae hs;rw[hx];exact⟨hl,hC⟩|pick=>dsimp only[b7]at hs ⊢;obtain⟨x,hx,hl,rfl⟩:=ae hs;rw[hx];exact⟨hl,hC⟩|bL e=>exact hmk hs|box=>exact hmk hs|alloc zs=>exact hmk hs|eW e sz=>exact hmk hs|store n=>exact hmk hs|app e sz bytes=>exact hmk hs|call f=>
  dsimp only[b7]at hs ⊢;obtain⟨ys,hys,hs⟩:=ae hs;obtain⟨⟨φ,r⟩,hr,hs⟩:=ae hs;rw[hys];show ah (gt Γ f ys) _;rw[hr];show ite _ _ _;split at hs;·rename_i hif;obtain⟨h1,h2,h3,h4,rfl⟩:=hs;rw[if_pos hif];exact⟨h1,h2,h3,h4,hC⟩
  ·rename_i hif;rw[if_neg hif];exact hmk hs|_=>dsimp only[b7]at hs ⊢;obtain⟨x,hx,hl,rfl⟩:=ae hs;rw[hx];exact⟨hl,hC⟩
theorem zX {P:Program}{Γ:bI}{i:AI}{vars:Nat→AV}{aa:Nat→Option AO}{e:bz}{C:bz→Prop} (hC:C e) (hs:cX P Γ i vars aa fun e'=>e'=e):cX P Γ i vars aa C:=by unfold cX at hs ⊢;cases hg:i.g with|none=>rw[hg]at hs;exact sE hC hs|some sw=>obtain⟨s,w⟩:=sw;rw[hg]at hs;dsimp only at hs ⊢;obtain⟨c,hc,hs⟩:=ae hs;rw[hc];exact zF hC hs
theorem b9 {P:Program}{Γ:bI}{i:AI}{K:St→Prop}{st:St}:cw P Γ i K st↔∃e,Yi P Γ i st e∧K (e.on i.d st):=by
 constructor;·rintro⟨hu,hs⟩;obtain⟨e,⟨ht,hK⟩,he⟩:=Ak hs;exact⟨e,⟨hu,he,ht⟩,hK⟩
 ·rintro⟨e,⟨hu,he,ht⟩,hK⟩;exact⟨hu,zX (C:=fun e=>xK i.un i.tg e∧K (e.on i.d st)) ⟨ht,hK⟩ he⟩
structure yE (x y:AI):Prop where
 xd:∀d,x.d=some d→d∉cu y∧y.d≠some d∧y.tg≠some d∧d<1000
 yd:∀d,y.d=some d→d∉cu x∧x.tg≠some d∧d<1000
 ya:(aF y.k=true∧y.un=[])∨(isApp x.k=false∧(writes x.k=true→∃s,x.tg=some s)∧∀t∈bQ x,t<1000∧y.un.contains t=true)
 xa:(aF x.k=true∧x.un=[])∨(isApp y.k=false∧(writes y.k=true→∃s,y.tg=some s)∧∀t∈bQ y,t<1000∧x.un.contains t=true)
 both:aF x.k=true∨aF y.k=true∨writes x.k=false∨writes y.k=false∨x.tg≠y.tg
theorem nP {o:Option Nat} (h:tM o=true):∃s,o=some s:=by cases o with|none=>cases h|some s=>exact⟨s,rfl⟩
theorem apart_spec {x y:AI} (h:wT x y=true):yE x y:=by
 unfold wT at h;simp only[Bool.and_eq_true]at h;obtain⟨⟨⟨⟨h1,h2⟩,h3⟩,h4⟩,h5⟩:=h;refine⟨fun d hd=>?_,fun d hd=>?_,?_,?_,?_⟩;·rw[hd]at h1;simp only[Bool.and_eq_true,Bool.not_eq_true',List.contains_eq_mem,decide_eq_false_iff_not,bne_iff_ne,decide_eq_true_eq]at h1;exact⟨h1.1.1.1,h1.1.1.2,h1.1.2,h1.2⟩
 ·rw[hd]at h2;simp only[Bool.and_eq_true,Bool.not_eq_true',List.contains_eq_mem,decide_eq_false_iff_not,bne_iff_ne,decide_eq_true_eq]at h2;exact⟨h2.1.1,h2.1.2,h2.2⟩
 ·simp only[Bool.or_eq_true,Bool.and_eq_true,Bool.not_eq_true',List.all_eq_true,decide_eq_true_eq,List.isEmpty_iff]at h3;refine h3.imp id fun⟨⟨ha,hb⟩,hc⟩=>⟨ha,fun hw=>?_,fun t ht=>hc t ht⟩;rcases hb with hb|hb;·rw[hb]at hw;cases hw
  ·exact nP hb
 ·simp only[Bool.or_eq_true,Bool.and_eq_true,Bool.not_eq_true',List.all_eq_true,decide_eq_true_eq,List.isEmpty_iff]at h4;refine h4.imp id fun⟨⟨ha,hb⟩,hc⟩=>⟨ha,fun hw=>?_,fun t ht=>hc t ht⟩;rcases hb with hb|hb;·rw[hb]at hw;cases hw
  ·exact nP hb
 ·simp only[Bool.or_eq_true,Bool.not_eq_true',bne_iff_ne]at h5;rcases h5 with(((h|h)|h)|h)|h;·exact .inl h
  ·exact .inr (.inl h)
  ·exact .inr (.inr (.inl h))
  ·exact .inr (.inr (.inr (.inl h)))
  ·exact .inr (.inr (.inr (.inr h)))
section
variable{P:Program}{Γ:bI}{x y:AI}{st:St}{e e':bz}
theorem sW:∀{os:List (Nat×AO)}{t:Nat}{o:AO},ab os t=some o→∃x∈os,x.1=t
 |[],_,_,h=>by cases h|(s,v)::os,t,o,h=>by
  simp only[ab]at h;split at h;·rename_i hs;exact⟨(s,v),List.mem_cons_self,hs.symm⟩
  ·obtain⟨x,hx,h⟩:=sW h;exact⟨x,List.mem_cons_of_mem _ hx,h⟩
theorem ug {i:AI}{e:bz} (he:lY i e) (htg:qd i.tg e) (hlt:∀t∈bQ i,t<1000) (hw:writes i.k=true→∃s,i.tg=some s) (ha:isApp i.k=false) {t:Nat} (h:ov e t≠none):(bQ i).contains (t%1000)=true:=by
 rcases he with⟨v,rfl⟩|⟨hm,d,v,os,hd,rfl,hos⟩|⟨hwr,hm,t',o,rfl⟩|⟨hap,t,o,rfl⟩;·exact absurd rfl h
 ·cases hl:ab os t with|none=>exact absurd hl h|some o=>
   obtain⟨x,hx,rfl⟩:=sW hl;obtain⟨p,hp⟩:=hos x hx;have hmem:d∈bQ i:=by unfold bQ;rw[if_pos hm,hd];simp
   rw[hp,Nat.add_mul_mod_self_left,Nat.mod_eq_of_lt (hlt d hmem)];simpa using hmem
 ·obtain⟨s,hs⟩:=hw hwr;have hmem:s∈bQ i:=by unfold bQ;rw[hm,hwr,hs];simp
  rw[hs]at htg;have htg:t'=s:=htg;subst htg;have:t=t':=by
   by_cases e:t=t';·exact e
   ·exact absurd (by simp[ov,e]) h
  subst this;rw[Nat.mod_eq_of_lt (hlt t hmem)];simpa using hmem
 ·rw[ha]at hap;cases hap
theorem pf {i:AI}{e:bz}{aa:Nat→Option AO}{U:List Nat} (he:lY i e) (htg:qd i.tg e) (hlt:∀t∈bQ i,t<1000) (hU:∀t,iF U t→iF (bQ i) t) (hw:writes i.k=true→∃s,i.tg=some s) (ha:isApp i.k=false):∀t,iF U t→aa t=mH (ov e) aa t:=by intro t ht;unfold mH;cases ho:ov e t with|none=>rfl|some o=>have h1:=ug he htg hlt hw ha (t:=t) (by rw[ho];simp);have h2:=hU t ht;unfold iF at h2;rw[h1]at h2;cases h2
theorem Yi.tG (hyx:(aF y.k=true∧y.un=[])∨(isApp x.k=false∧(writes x.k=true→∃s,x.tg=some s)∧∀t∈bQ x,t<1000∧y.un.contains t=true)) (hax:aF y.k=true∨isApp y.k=false) (hyd:∀d,y.d=some d→x.d≠some d∧x.tg≠some d∧d<1000) (hu:∀d,x.d=some d→d∉cu y) {vars:Nat→AV}{aa objs':Nat→Option AO}{v:AV} (hag:∀T,(∀t,iF T t→iF (bQ x) t)→(isApp x.k=false∧(writes x.k=true→∃s,x.tg=some s)∧∀t∈bQ x,t<1000)→∀t,iF T t→aa t=objs' t):Yi P Γ y ⟨Ab.put x.d v vars,aa⟩ e'↔Yi P Γ y ⟨vars,objs'⟩ e':=by
 have hvs:∀s∈cu y,Ab.put x.d v vars s=vars s:=fun s hs=>mE fun hd=>hu s hd hs;have hev:y.xs.map (Ab.ev (Ab.put x.d v vars))=y.xs.map (Ab.ev vars):=eX fun s hs=>hvs s (List.mem_append_left _ hs);have hsym:∀{f g:Nat→Option AO}{T:List Nat},(∀t,iF T t→f t=g t)→∀t,iF T t→g t=f t:=fun h t ht=>(h t ht).symm;unfold Yi;simp only[hev];rcases hyx with⟨hy,hun⟩|⟨hxa,hxw,hxt⟩
 ·constructor;·rintro⟨_,h,ht⟩;exact⟨.inl hun,dj hvs ((cV hy h).2 _),ht⟩
  ·rintro⟨_,h,ht⟩;exact⟨.inl hun,dj (fun s hs=>(hvs s hs).symm) ((cV hy h).2 _),ht⟩
 ·have hsub:∀t,iF y.un t→iF (bQ x) t:=by intro t ht;unfold iF at ht ⊢;cases hc:(bQ x).contains (t%1000) with|false=>rfl|true=>rw[(hxt _ (by simpa using hc)).2]at ht;cases ht
  have hx3:=(⟨hxa,hxw,fun t ht=>(hxt t ht).1⟩:isApp x.k=false∧(writes x.k=true→∃s,x.tg=some s)∧∀t∈bQ x,t<1000);have hA:=hag (bQ x) (fun _ h=>h) hx3;have hB:=hag y.un hsub hx3;have hd:∀s,y.d=some s→s<1000∧(bQ x).contains s=false:=by
   intro s hs;obtain⟨h1,h2,h3⟩:=hyd s hs;refine⟨h3,?_⟩;unfold bQ;split;·cases hxd:x.d with|none=>rfl|some d=>have:¬d=s:=fun e=>h1 (by rw[hxd,e]);simpa[Option.toList,eq_comm]using this
   ·split;·cases hxd:x.tg with|none=>rfl|some d=>have:¬d=s:=fun e=>h2 (by rw[hxd,e]);simpa[Option.toList,eq_comm]using this
    ·rfl
  by_cases hy:aF y.k=true
  ·constructor;·rintro⟨hn,h,ht⟩;exact⟨hn.imp id fun hn=>gh hB hn,dj hvs ((cV hy h).2 _),ht⟩
   ·rintro⟨hn,h,ht⟩;exact⟨hn.imp id fun hn=>gh (hsym hB) hn,dj (fun s hs=>(hvs s hs).symm) ((cV hy h).2 _),ht⟩
  ·have hya:=hax.resolve_left hy;have hne:y.un=[]→∀(f:Nat→Option AO) (l:List AV),iM (bQ x) f l:=by
    intro hun f l;have hnil:bQ x=[]:=by cases h:bQ x with|nil=>rfl|cons t ts=>have:=(hxt t (by rw[h];simp)).2;rw[hun]at this;simp at this
    rw[hnil];have hT:∀t,iF [] t:=fun t=>rfl;have hC:∀v,rT [] v:=fun v=>by cases v<;>first|trivial|exact hT _
    have hCs:∀cs,fJ [] cs:=fun cs=>by induction cs with|nil=>trivial|cons c cs ih=>exact⟨hC c,ih⟩
    have hP:∀v,lG [] f v:=fun v=>by
     rcases BM v with⟨t,o,rfl⟩|⟨cs,rfl⟩|h2;·exact⟨hT _,hCs _⟩
     ·exact hCs _
     ·rw[h2];exact hC _
    have hPs:∀cs,jo [] f cs:=fun cs=>by induction cs with|nil=>trivial|cons c cs ih=>exact⟨hP c,ih⟩
    induction l with|nil=>trivial|cons c cs ih=>
     refine⟨?_,ih⟩;rcases zl c with⟨f,cs,rfl⟩|⟨_,h2⟩;·exact hPs _
     ·rw[h2];exact hP _
   constructor
   ·rintro⟨hn,h,ht⟩;refine⟨hn.imp id fun hn=>gh hB hn,?_,ht⟩;have h:=dj hvs h;refine pj hA hya hd (.inr ?_) h;rcases hn with hn|hn;·exact hne hn _ _
    ·exact qW hsub hn
   ·rintro⟨hn,h,ht⟩;refine⟨hn.imp id fun hn=>gh (hsym hB) hn,?_,ht⟩;have h:=dj (vars':=Ab.put x.d v vars) (fun s hs=>(hvs s hs).symm) h;refine pj (hsym hA) hya hd (.inr ?_) h;rw[hev];rcases hn with hn|hn;·exact hne hn _ _
    ·exact qW hsub hn
end
end Go.Proofs.YtlmkcmfmfahcfaaGreat.Ab
