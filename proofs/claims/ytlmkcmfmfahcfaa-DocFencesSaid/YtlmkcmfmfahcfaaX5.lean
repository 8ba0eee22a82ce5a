/- The abstract machine is sound: a call of a function that takes objects whole, or borrows them. -/
import Derived.Test.YtlmkcmfmfahcfaaX4
import Derived.Laws.StructEq
import Derived.MapKept
import Derived.Lib.LazyBuf
import Derived.Laws.Externs
import Derived.Lib.AppendZeros
import Derived.Laws.MakeOwn
set_option linter.unusedVariables false
set_option linter.unusedSimpArgs false
set_option linter.unnecessarySimpa false
set_option maxHeartbeats 40000000
set_option maxRecDepth 100000
namespace Go.Proofs.Ytlmkcmfmfahcfaa.Ab
open Go Go.RowKit
section
variable{P:Program}{S S':Nat→Prop}{w w':World}{β β':Nat→Value}{D D':Nat→Prop}{aa objs':Nat→Option AO}
theorem HT.mono (hS:∀b,S b→S' b) {v:Value}{y:AV}{bs:List Nat} (h:HT P S w v y bs):HT P S' w v y bs:=by have hS2:∀b,S b→S' b∧w.heap[b]?=w.heap[b]?:=fun b hb=>⟨hS b hb,rfl⟩;induction h with|leaf v y h=>exact .leaf v y (h.mono hS2 fun _ hf=>hf.elim)|fr v e rows inf us h1 h2 h3 h4=>exact .fr v e rows inf us h1 h2 h3 fun i j r p a b=>by obtain⟨u,c,d,e⟩:=h4 i j r p a b;exact⟨u,c,d,e.mono hS2⟩|mf b us c es h1 hst h2 h3=>exact .mf b us c es h1 hst h2 fun i e u a b=>⟨(h3 i e u a b).1,(h3 i e u a b).2.1,(h3 i e u a b).2.2.1,(h3 i e u a b).2.2.2.mono hS2⟩|bx b us ty cs bss h1 h2 h3 h4 h5 ih=>exact .bx b us ty cs bss h1 h2 h3 h4 ih|agg us cs bss h1 h2 h3 ih=>exact .agg us cs bss h1 h2 ih|aC us cs bss h1 h2 h3 ih=>exact .aC us cs bss h1 h2 ih
theorem nf:∀(n:Nat) {v:Value}{y:AV},fm n y→RV P S w (fun _=>undef) (fun _=>False) v y→RV P S' w (fun _=>undef) (fun _=>False) v y
 |0,_,_,h,_=>h.elim|n+1,v,y,h,hv=>by
  unfold fm at h;split at h;·cases hv
  ·cases hv
  ·cases hv
  ·obtain⟨us,rfl,hl,hc⟩:=hv.cB;exact .agg _ us hl fun i c u a b=>nf n (h c (List.mem_of_getElem? a)) (hc i c u a b)
  ·obtain⟨us,rfl,hl,hc⟩:=hv.kk;exact .aC _ us hl fun i c u a b=>nf n (h c (List.mem_of_getElem? a)) (hc i c u a b)
  ·exact .pv _ _ (dT hv.aZ h)
  ·obtain⟨us,rfl,hl,_⟩:=hv.j9;exact .bk _ [] us hl fun i c u hc=>by simp at hc
  ·exact h.elim
theorem HT.flat:∀(n:Nat) {v:Value}{y:AV}{bs:List Nat},fm n y→HT P S w v y bs→HT P S' w v y bs|0,_,_,_,h,_=>h.elim|n+1,v,y,bs,hf,h=>by cases h with|leaf v y h=>exact .leaf v y (nf (n+1) hf h)|fr v e rows inf us h1 h2 h3 h4=>exact .fr v e rows inf us h1 h2 h3 fun i j r p a b=>by obtain⟨u,c,d,e⟩:=h4 i j r p a b;exact⟨u,c,d,dT e (hf r (List.mem_of_getElem? a) p (List.mem_of_getElem? b))⟩|mf b us c es h1 hst h2 h3=>exact .mf b us c es h1 hst h2 fun i e u a b=>⟨(h3 i e u a b).1,(h3 i e u a b).2.1,(h3 i e u a b).2.2.1,dT (h3 i e u a b).2.2.2 (hf e (List.mem_of_getElem? a))⟩|bx b us ty cs bss h1 h2 h3 h4 h5=>exact .bx b us ty cs bss h1 h2 h3 h4 fun i c u bs a b d=>HT.flat n (hf c (List.mem_of_getElem? a)) (h5 i c u bs a b d)|agg us cs bss h1 h2 h3=>exact .agg us cs bss h1 h2 fun i c u bs a b d=>HT.flat n (hf c (List.mem_of_getElem? a)) (h3 i c u bs a b d)|aC us cs bss h1 h2 h3=>exact .aC us cs bss h1 h2 fun i c u bs a b d=>HT.flat n (hf c (List.mem_of_getElem? a)) (h3 i c u bs a b d)
theorem pK:∀(n:Nat) {x:AV}{r:AV×List Nat},rd n aa x=some r→(∀t∈r.2,aw aa t)∧∀l,r.1≠.aC l
 |0,_,_,h=>by cases h|n+1,x,r,h=>by
  have lst:∀{l:List AV}{q:List AV×List Nat},CH (rd n aa) l=some q→∀t∈q.2,aw aa t:=by intro l;induction l with|nil=>intro q h;cases h;intro t ht;simp at ht|cons c l ih=>
   intro q h t ht;obtain⟨r,hr,h⟩:=Option.bind_eq_some_iff.1 h;obtain⟨q',hq,rfl⟩:=Option.map_eq_some_iff.1 h;rcases List.mem_append.1 ht with ht|ht;·exact(pK n hr).1 t ht
   ·exact ih hq t ht
  unfold rd at h;split at h
  ·rename_i t;obtain⟨y,hy,rfl⟩:=Option.map_eq_some_iff.1 h;unfold Jv at hy;split at hy;·rename_i ho;cases hy;exact⟨fun s hs=>by simp only[List.mem_singleton]at hs;rw[hs];exact⟨_,ho⟩,fun l e=>by cases e⟩
   ·rename_i ho;cases hy;exact⟨fun s hs=>by simp only[List.mem_singleton]at hs;rw[hs];exact⟨_,ho⟩,fun l e=>by cases e⟩
   ·cases hy
  ·obtain⟨cs,hc,h⟩:=Option.bind_eq_some_iff.1 h;obtain⟨q,hq,rfl⟩:=Option.map_eq_some_iff.1 h;refine⟨fun s hs=>?_,fun l e=>by cases e⟩;rcases List.mem_cons.1 hs with rfl|hs;·exact⟨_,eo hc⟩
   ·exact lst hq s hs
  ·obtain⟨q,hq,rfl⟩:=Option.map_eq_some_iff.1 h;exact⟨lst hq,fun l e=>by cases e⟩
  ·cases h;exact⟨fun t ht=>by simp at ht,fun l e=>by cases e⟩
  ·cases h;exact⟨fun t ht=>by simp at ht,fun l e=>by cases e⟩
  ·cases h;exact⟨fun t ht=>by simp at ht,fun l e=>by cases e⟩
  ·cases h
theorem Gu {x y:AV} (h:lR aa x=some y):∀l,y≠.aC l:=by
 intro l e;subst e;have h1:∀x,dN aa x≠some (.aC l):=by
  intro x h;unfold dN at h;split at h;·obtain⟨_,_,h⟩:=Option.bind_eq_some_iff.1 h;obtain⟨_,_,h⟩:=Option.map_eq_some_iff.1 h;cases h
  ·cases h
  ·obtain⟨_,_,h⟩:=Option.map_eq_some_iff.1 h;cases h
  ·cases h
  ·obtain⟨_,_,h⟩:=Option.map_eq_some_iff.1 h;cases h
 unfold lR at h;split at h;·obtain⟨_,_,h⟩:=Option.map_eq_some_iff.1 h;cases h
 ·exact h1 _ h
theorem B4 {y:AV} (h:∀l,y≠.aC l):Cx y=false∧Dn y=y:=by cases y<;>first|exact⟨rfl,rfl⟩|exact absurd rfl (h _)
theorem A7 (hh:Heap P S w β aa) (hS:∀b,S b→S' b) {T:List Nat} (hh':Heap P S w β objs') (hw:∀{v x},RV P S w β (aw aa) v x→RV P S w β (aw objs') v (dO T x)):∀{ks:List Nat}{xs ys:List AV}{vals:List Value},Am aa objs' T ks xs=some ys→vals.length=xs.length→(∀(i:Nat) (v:Value) (x:AV),vals[i]?=some v→xs[i]?=some x→RV P S w β (aw aa) v x)→(dL T ks xs=true∨∀t b,aw objs' t→bM (β t)=some b→S' b)→∃bss,AP P S' w vals (ys.map Dn) bss∧bss.flatten=cy β (dR aa ks xs)∧(∀t∈dR aa ks xs,aw aa t)∧(dC ys vals).length=(dz ks xs).length∧∀(i:Nat) (c:AV) (u:Value),(dz ks xs)[i]?=some c→(dC ys vals)[i]?=some u→RV P S w β (aw aa) u c
 |[],[],ys,vals,h,hl,_,_=>by cases h;cases vals with|nil=>exact⟨[],⟨rfl,rfl,fun i y v bs h=>by simp at h⟩,rfl,fun t ht=>by simp[dR]at ht,rfl,fun i c u hc=>by simp[dz]at hc⟩|cons v vs=>simp at hl
 |[],_::_,_,_,h,_,_,_=>by cases h|_::_,[],_,_,h,_,_,_=>by cases h|k::ks,x::xs,ys,vals,h,hl,hv,hp=>by obtain⟨y,hy,h⟩:=Option.bind_eq_some_iff.1 h;obtain⟨ys,hys,rfl⟩:=Option.map_eq_some_iff.1 h;match vals,hl with
  |v::vals,hl=>
   have hp':(k !=0||dc (dO T x))=true∧dL T ks xs=true∨∀t b,aw objs' t→bM (β t)=some b→S' b:=by
    rcases hp with h|h;·left;simpa[dL]using h
    ·exact .inr h
   obtain⟨bss,⟨l1,l2,hts⟩,hfl,hdm,hln,hlv⟩:=A7 hh hS hh' hw hys (by simpa using hl) (fun i v x a b=>hv (i+1) v x (by simpa using a) (by simpa using b)) (hp'.imp And.right id);have hvx:=hv 0 v x rfl rfl;have one:∃bs,HT P S' w v (Dn y) bs∧bs=cy β (if k=0 then[] else((rd 5 aa x).map (·.2)).getD [])∧(∀t∈(if k=0 then[] else((rd 5 aa x).map (·.2)).getD []),aw aa t)∧(Cx y=true↔1<k):=by
    by_cases h0:k=0;·subst h0;simp only[if_true]at hy ⊢;obtain⟨e1,e2⟩:=B4 (Gu hy);refine⟨[],.leaf _ _ ?_,rfl,fun t ht=>by simp at ht,by rw[e1];simp⟩;rw[e2];exact nd hh' hS (hw hvx) hy (hp'.imp (fun h=>by simpa using h.1) id)
    ·simp only[if_neg h0]at hy ⊢;by_cases h1:k=1;·subst h1;simp only[if_true]at hy;obtain⟨r,hr,rfl⟩:=Option.map_eq_some_iff.1 hy;obtain⟨e1,e2⟩:=B4 (pK 5 hr).2;obtain⟨m1,m2⟩:=yJ (P:=P) 5 hr;refine⟨_,jI hh hS 5 (y:=Dn r.1) (by rw[e2];exact m1) hvx,by rw[hr,m2];rfl,fun t ht=>(pK 5 hr).1 t (by simpa[hr]using ht),by rw[e1];simp⟩
     ·simp only[if_neg h1]at hy;obtain⟨r,hr,rfl⟩:=Option.map_eq_some_iff.1 hy;obtain⟨m1,m2⟩:=yJ (P:=P) 5 hr;refine⟨_,jI hh hS 5 (y:=Dn (.aC [r.1])) m1 hvx,by rw[hr,m2];rfl,fun t ht=>(pK 5 hr).1 t (by simpa[hr]using ht),by simp only[Cx,true_iff];omega⟩
   obtain⟨bs,hbt,rfl,hbd,hk⟩:=one;refine⟨_::bss,⟨by simpa using l1,by simpa using l2,fun i y' v' bs' a b c=>?_⟩,by rw[List.flatten_cons,hfl];exact(dU β _ _).symm,fun t ht=>?_,?_,fun i c u=>?_⟩;·cases i with|zero=>simp only[List.map_cons,List.getElem?_cons_zero,Option.some.injEq]at a b c;rw[←a,←b,←c];exact hbt|succ i=>exact hts i y' v' bs' (by simpa using a) (by simpa using b) (by simpa using c)
   ·rcases List.mem_append.1 ht with ht|ht;·exact hbd t ht
    ·exact hdm t ht
   ·by_cases hc:1<k;·simp only[dC,hk.2 hc,dz,hc,if_true,List.length_cons,hln]
    ·have:Cx y=false:=by cases he:Cx y with|false=>rfl|true=>exact absurd (hk.1 he) hc
     simp only[dC,this,dz,hc,if_false,hln,Bool.false_eq_true]
   ·by_cases hc:1<k;·simp only[dC,hk.2 hc,dz,hc,if_true];intro a b;cases i with|zero=>simp only[List.getElem?_cons_zero,Option.some.injEq]at a b;rw[←a,←b];exact hvx|succ i=>exact hlv i c u (by simpa using a) (by simpa using b)
    ·have:Cx y=false:=by cases he:Cx y with|false=>rfl|true=>exact absurd (hk.1 he) hc
     simp only[dC,this,dz,hc,if_false,Bool.false_eq_true];exact hlv i c u
theorem yv {D':Nat→Prop}{u:Value}{c:AV} (h:RV P S w β D u c) (h':RV P S' w' β' D' u c):∀t∈oc c,β' t=β t∧D' t:=by
 intro t ht;unfold oc at ht;split at ht;·simp only[List.mem_singleton]at ht;subst ht;exact⟨h'.aQ.1.symm.trans h.aQ.1,h'.aQ.2⟩
 ·simp only[List.mem_singleton]at ht;subst ht;obtain⟨b,e1,_,hb⟩:=h.c7;obtain⟨b',e2,hd,hb'⟩:=h'.c7;rw[hb,hb',←e1,←e2];exact⟨rfl,hd⟩
 ·simp at ht
theorem DN {D':Nat→Prop}{u:Value}{c:AV} (h:RV P S w β D u c) (h':RV P S' w' β' D' u c):∀t∈oi c,β' t=β t∧D' t:=by
 by_cases hx:∃cs,c=.agg cs
 ·obtain⟨cs,rfl⟩:=hx;intro t ht;obtain⟨c,hc,ht⟩:=List.mem_flatMap.1 ht;obtain⟨us,rfl,hl,hcs⟩:=h.cB;obtain⟨us',e,hl',hcs'⟩:=h'.cB;have:us=us':=by simpa using e
  subst this;obtain⟨i,hi⟩:=List.getElem?_of_mem hc;have hlt:i<us.length:=by rw[hl];exact(List.getElem?_eq_some_iff.1 hi).1
  exact yv (hcs i c _ hi (List.getElem?_eq_getElem hlt)) (hcs' i c _ hi (List.getElem?_eq_getElem hlt)) t ht
 ·have:oi c=oc c:=by cases c<;>first|rfl|exact absurd ⟨_,rfl⟩ hx
  rw[this];exact yv h h'
theorem AP.snoc {vs:List Value}{ys:List AV}{v:Value}{y:AV}{bss:List (List Nat)} (h:AP P S w (vs++[v]) (ys++[y]) bss) (hl:vs.length=ys.length):∃b1 bl,bss=b1++[bl]∧AP P S w vs ys b1∧HT P S w v y bl:=by
 obtain⟨h1,h2,h3⟩:=h;have hl2:bss.length=ys.length+1:=by simpa using h2
 have hne:bss≠[]:=by intro e;rw[e]at hl2;simp at hl2
 obtain⟨b1,bl,rfl⟩:∃b1 bl,bss=b1++[bl]:=⟨bss.dropLast,bss.getLast hne,(List.dropLast_concat_getLast hne).symm⟩;have hb1:b1.length=ys.length:=by simpa using hl2
 refine⟨b1,bl,rfl,⟨hl,hb1,fun i y' v' bs a b c=>?_⟩,h3 ys.length y v bl (by simp) (by rw[←hl];simp) (by rw[←hb1];simp)⟩;have k1:=(List.getElem?_eq_some_iff.1 a).1;exact h3 i y' v' bs (by rw[List.getElem?_append_left k1];exact a) (by rw[List.getElem?_append_left (by omega)];exact b) (by rw[List.getElem?_append_left (by omega)];exact c)
end
theorem sR {aa:Nat→Option AO}:∀(ks:List Nat) (xs:List AV) (t:Nat),t∈dR aa ks xs→aw aa t
 |[],_,_,ht=>by simp[dR]at ht|_::_,[],_,ht=>by simp[dR]at ht|k::ks,x::xs,t,ht=>by
  rcases List.mem_append.1 ht with ht|ht
  ·by_cases h0:k=0;·simp[h0]at ht
   ·rw[if_neg h0]at ht;cases hr:rd 5 aa x with|none=>rw[hr]at ht;simp at ht|some r=>rw[hr]at ht;exact(pK 5 hr).1 t (by simpa using ht)
  ·exact sR ks xs t ht
theorem iK:∀{os:List (Nat×AO)}{t:Nat}{o:AO},ab os t=some o→(t,o)∈os
 |[],_,_,h=>by cases h|(s,o')::os,t,o,h=>by
  simp only[ab]at h;split at h;·rename_i e;cases h;rw[e];exact List.mem_cons_self
  ·exact List.mem_cons_of_mem _ (iK h)
theorem kc:∀{os:List (Nat×AO)}{p:Nat×AO},p∈os→∃o,ab os p.1=some o
 |[],_,h=>by simp at h|(s,o')::os,p,h=>by
  simp only[ab];split;·exact⟨o',rfl⟩
  ·rename_i hne;rcases List.mem_cons.1 h with rfl|h;·exact absurd rfl hne
   ·exact kc h
section
variable{P:Program}{S0 L:Nat→Prop}{B0:Nat→Value}{w0 w:World}{N:Nat}{st:St}{a:Act}{β:Nat→Value}
theorem AT {T:List Nat} (hL:T≠[]→∀b,L b→S0 b) (h:Rel P S0 L B0 w0 N st a w β) {f:FuncId}{d:Nat} (hd9:d%1000≠999) {ks:List Nat}{vals:List Value}{xs ys:List AV}{x:AV}{Q W:List Nat} (hl:vals.length=xs.length) (hv:∀(i:Nat) (v:Value) (x:AV),vals[i]?=some v→xs[i]?=some x→RV P (aK S0 w0.heap.size β st.aa w) w β (aw st.aa) v x) (hT:T=dR st.aa ks xs) (hQ:Q=(dz ks xs).flatMap oi) (hW:W=T.filter fun t=>!Q.contains t) (hTn:T.Nodup) (hQT:∀t∈Q,t∈T) (hQn:(Q++mn d T W).Nodup) (hys:Am st.aa (dG T T st.aa) T ks xs=some ys) (hcon:xN P f ys x) (hpf:dL T ks xs=true∨∀y∈jo x++[iR x],fm 5 y) {o:List AV×List (Nat×AO)×List Nat×List Nat} (ho:lG (num 5 true) (jo x) (Q,mn d T W)=some o) (ho1:o.1=dz ks xs) {r:AV×List (Nat×AO)×List Nat×List Nat} (hr:num 5 false (iR x) o.2.2=some r) (hfree:∀p∈o.2.1++r.2.1,T.contains p.1=true∨st.aa p.1=none):Calls P f vals.toArray w fun e w'=>∃v β',e=.returned v∧Rel P S0 L B0 w0 N ⟨ft W st.vars,bd (o.2.1++r.2.1) (dG T W st.aa)⟩ a w' β'∧RV P (aK S0 w0.heap.size β' (bd (o.2.1++r.2.1) (dG T W st.aa)) w') w' β' (aw (bd (o.2.1++r.2.1) (dG T W st.aa))) v r.1:=by classical
 let S:=aK S0 w0.heap.size β st.aa w;have hTd:∀t∈T,aw st.aa t:=by intro t ht;rw[hT]at ht;exact sR _ _ t ht
 have hTlive:∀b∈cy β T,live β st.aa b∧b<w.heap.size:=by intro b hb;obtain⟨t,ht,hb⟩:=List.mem_filterMap.1 hb;obtain⟨o,ho⟩:=hTd t ht;exact⟨⟨t,o,ho,hb⟩,h.lt ⟨o,ho⟩ hb⟩
 have hTinj:∀t b,aw st.aa t→t∉T→bM (β t)=some b→b∉cy β T:=by intro t b ht hn hb hm;obtain⟨s,hs,hb'⟩:=List.mem_filterMap.1 hm;exact hn (h.heap.inj t s b ht (hTd s hs) hb hb'▸hs)
 have hTnd:(cy β T).Nodup:=by
  have:∀l:List Nat,l.Nodup→(∀t∈l,aw st.aa t)→(cy β l).Nodup:=by intro l;induction l with|nil=>intro _ _;exact List.nodup_nil|cons t l ih=>
   intro hn hd;rw[List.nodup_cons]at hn;have e:cy β (t::l)=(bM (β t)).toList++cy β l:=by rw[←hH];exact dU β [t] l
   rw[e];cases hb:bM (β t) with|none=>exact ih hn.2 fun t ht=>hd t (List.mem_cons_of_mem _ ht)|some b=>show(b::cy β l).Nodup;rw[List.nodup_cons];refine⟨fun hm=>?_,ih hn.2 fun t ht=>hd t (List.mem_cons_of_mem _ ht)⟩;obtain⟨s,hs,hb'⟩:=List.mem_filterMap.1 hm;exact hn.1 (h.heap.inj t s b (hd t List.mem_cons_self) (hd s (List.mem_cons_of_mem _ hs)) hb hb'▸hs)
  exact this T hTn hTd
 have hcT:∀t,T.contains t=true↔t∈T:=fun t=>by simp
 have hdom':∀t,aw (dG T T st.aa) t↔(t∉T∧aw st.aa t):=by
  intro t;simp only[aw,dG];constructor
  ·rintro⟨o,ho⟩;split at ho;·cases ho
   ·rename_i hc;obtain⟨o',ho',_⟩:=Option.map_eq_some_iff.1 ho;exact⟨fun hm=>hc ((hcT t).2 hm),o',ho'⟩
  ·rintro⟨hn,o,ho⟩;exact⟨gJ T o,by rw[if_neg (fun hc=>hn ((hcT t).1 hc)),ho];rfl⟩
 have hDw:∀s,aw st.aa s→T.contains s=false→aw (dG T T st.aa) s∧β s=β s:=fun s hs hc=>⟨(hdom' s).2 ⟨fun hm=>absurd ((hcT s).2 hm) (by rw[hc];exact Bool.false_ne_true),hs⟩,rfl⟩;have hwp:∀{v x},RV P S w β (aw st.aa) v x→RV P S w β (aw (dG T T st.aa)) v (dO T x):=fun hx=>hx.dO (fun b hb=>⟨hb,rfl⟩) hDw;have hh':Heap P S w β (dG T T st.aa):=by
  refine⟨fun t o ht=>?_,fun t t' b ht ht'=>h.heap.inj t t' b ((hdom' t).1 ht).2 ((hdom' t').1 ht').2⟩;simp only[dG]at ht;split at ht;·cases ht
  ·obtain⟨o',ho',rfl⟩:=Option.map_eq_some_iff.1 ht;exact(h.heap.holds t o' ho').dO (fun b hb=>⟨hb,rfl⟩) hDw rfl (fun _ _=>rfl)
 obtain⟨S1,hS1,hS1b,hcase⟩:∃S1:Nat→Prop,(∀b,S b→S1 b)∧(∀b,S1 b→b<w.heap.size∧b∉cy β T)∧((dL T ks xs=true∧S1=S)∨((∀y∈jo x++[iR x],fm 5 y)∧∀b,b<w.heap.size→b∉cy β T→S1 b)):=by
  have hSb:∀b,S b→b<w.heap.size∧b∉cy β T:=fun b hb=>⟨hb.2.1,fun hm=>hb.2.2 (hTlive b hm).1⟩;rcases hpf with hp|hp;·exact⟨S,fun b hb=>hb,hSb,.inl ⟨hp,rfl⟩⟩
  ·exact⟨fun b=>b<w.heap.size∧b∉cy β T,hSb,fun b hb=>hb,.inr ⟨hp,fun b h1 h2=>⟨h1,h2⟩⟩⟩
 obtain⟨bss,hts,hbs,_,hln,hlv⟩:=A7 h.heap hS1 hh' hwp hys hl hv (hcase.imp And.left fun hc t b ht hb=>hc.2 b (h.lt ((hdom' t).1 ht).2 hb) (hTinj t b ((hdom' t).1 ht).2 ((hdom' t).1 ht).1 hb));rw[←hT]at hbs;refine(hcon w S1 vals bss (fun b hb=>by rw[hbs];exact hS1b b hb) (by rw[hbs];exact hTnd) hts).mono ?_;rw[hbs];rintro e w' ⟨v,bss',rfl,hfr,hnd,hloc,hres⟩;let S3:Nat→Prop:=fun b=>(S0 b∨w0.heap.size≤b)∧b<w'.heap.size∧b∉bss'.flatten∧¬∃t,aw st.aa t∧t∉T∧bM (β t)=some b;have hTold:∀b∈cy β T,S0 b∨w0.heap.size≤b:=by intro b hb;obtain⟨t,ht,hb⟩:=List.mem_filterMap.1 hb;exact(h.old t b (hTd t ht) hb).elim .inr fun hl=>.inl (hL (fun e=>by rw[e]at ht;cases ht) b hl)
 have hres3:AP P S3 w' (dC ys vals++[v]) (jo x++[iR x]) bss':=by
  refine⟨hres.1,hres.2.1,fun i y u bs a1 a2 a3=>?_⟩;have hx:=hres.2.2 i y u bs a1 a2 a3;rcases hcase with⟨_,hSe⟩|⟨hfl,_⟩
  ·refine hx.mono ?_;rw[hSe];rintro b ⟨h1,h2,h3⟩;refine⟨?_,h2,h3,?_⟩
   ·rcases h1 with h1|h1|h1;·exact h1.1
    ·exact hTold b h1
    ·exact .inr (Nat.le_trans h.bJ.size h1)
   ·rintro⟨t,ht,hn,hb⟩;rcases h1 with h1|h1|h1;·obtain⟨o,ho⟩:=ht;exact h1.2.2 ⟨t,o,ho,hb⟩
    ·exact hTinj t b ht hn hb h1
    ·have:=h.lt ht hb;omega
  ·exact hx.flat 5 (hfl y (List.mem_of_getElem? a1))
 obtain⟨p1,n1,l1⟩:=mm (P:=P) (S:=S3) (S':=S3) (w:=w') (mP (fun b hb=>hb) 5 true) (jo x) _ o ho;obtain⟨p2,l2⟩:=mP (P:=P) (S:=S3) (S':=S3) (w:=w') (fun b hb=>hb) 5 false _ _ r hr;have hlen:(dC ys vals).length=(jo x).length:=by rw[hln,←ho1,n1]
 obtain⟨b1,bl,rfl,ht1,ht2⟩:=hres3.snoc hlen;rw[List.flatten_append,List.nodup_append]at hnd;have ebl:[bl].flatten=bl:=by simp
 rw[ebl]at hnd;have hsn:=p1.nodup_iff.2 hQn;rw[List.nodup_append]at hsn;have k1:=l1 (dC ys vals) b1 ht1 hnd.1 hQn;have k2:=l2 v bl ht2 hnd.2.1 hsn.2.1;have hsub2:∀p∈r.2.1,p.1∈o.2.2.1++o.2.2.2:=fun p hp=>p2.mem_iff.1 (List.mem_append_left _ (List.mem_map_of_mem hp));obtain⟨βn,c1,c2,c3⟩:=k1.append k2 (fun b hb hb'=>hnd.2.2 b hb b hb' rfl) fun p hp q hq e=>hsn.2.2 _ (List.mem_map_of_mem hp) _ (hsub2 q hq) e;have ebs:(b1++[bl]).flatten=b1.flatten++bl:=by rw[List.flatten_append,ebl]
 rw[ebs]at hloc;have htag:∀p∈o.2.1++r.2.1,p.1∈Q++mn d T W:=by
  intro p hp;rcases List.mem_append.1 hp with hp|hp;·exact p1.mem_iff.1 (List.mem_append_left _ (List.mem_map_of_mem hp))
  ·exact p1.mem_iff.1 (List.mem_append_right _ (hsub2 p hp))
 generalize hos:o.2.1++r.2.1=os at*;let β2:Nat→Value:=fun t=>if∃p∈os,p.1=t then βn t else β t;let objs2:Nat→Option AO:=bd os (dG T W st.aa);have hβn:∀p∈os,β2 p.1=βn p.1:=fun p hp=>if_pos ⟨p,hp,rfl⟩;have hβo:∀t,(∀p∈os,p.1≠t)→β2 t=β t:=fun t ht=>if_neg fun⟨p,hp,e⟩=>ht p hp e;have hobj:∀t o',objs2 t=some o'→((t,o')∈os)∨((∀p∈os,p.1≠t)∧t∉T∧∃o0,st.aa t=some o0∧o'=gJ W o0):=by intro t o' ho';simp only[objs2,bd]at ho';cases hlk:ab os t with|some o1=>rw[hlk]at ho';cases ho';exact .inl (iK hlk)|none=>
  rw[hlk]at ho';simp only[dG]at ho';split at ho';·cases ho'
  ·rename_i hc;obtain⟨o0,h0,rfl⟩:=Option.map_eq_some_iff.1 ho';refine .inr ⟨fun p hp e=>?_,fun hm=>hc ((hcT t).2 hm),o0,h0,rfl⟩;obtain⟨o1,h1⟩:=kc hp;rw[e,hlk]at h1;cases h1
 have hdn:∀p∈os,aw objs2 p.1:=fun p hp=>by obtain⟨o1,h1⟩:=kc hp;exact⟨o1,by simp only[objs2,bd,h1]⟩
 have hdo:∀t,aw st.aa t→t∉T→aw objs2 t∧β2 t=β t:=by
  rintro t ⟨o0,h0⟩ hn;have hne:∀p∈os,p.1≠t:=fun p hp e=>by
   rcases hfree p hp with hc|hc;·exact hn (e▸(hcT _).1 hc)
   ·rw[e,h0]at hc;cases hc
  refine⟨?_,hβo t hne⟩;cases hlk:ab os t with|some o1=>exact absurd rfl (hne (t,o1) (iK hlk))|none=>exact⟨gJ W o0,by simp only[objs2,bd,hlk,dG];rw[if_neg (fun hc=>hn ((hcT t).1 hc)),h0];rfl⟩
 have hlaid:=c1 β2 (aw objs2) fun p hp=>⟨hβn p hp,hdn p hp⟩;have hpin:∀t∈Q,β2 t=β t∧aw objs2 t:=by
  intro t ht;rw[hQ]at ht;obtain⟨c,hc,ht⟩:=List.mem_flatMap.1 ht;obtain⟨i,hi⟩:=List.getElem?_of_mem hc;have hlt:i<(dC ys vals).length:=by rw[hln];exact(List.getElem?_eq_some_iff.1 hi).1
  have hu:=List.getElem?_eq_getElem hlt;exact DN (hlv i c _ hi hu) (hlaid.2.1 i c _ (by rw[ho1];exact hi) hu) t ht
 have hD:∀s,aw st.aa s→W.contains s=false→aw objs2 s∧β2 s=β s:=by
  intro s hs hc;by_cases hm:s∈T
  ·have:s∈Q:=by
    by_cases hq:s∈Q;·exact hq
    ·have:s∈W:=by rw[hW];exact List.mem_filter.2 ⟨hm,by simpa using hq⟩
     rw[List.contains_iff_mem.2 this]at hc;cases hc
   exact⟨(hpin s this).2,(hpin s this).1⟩
  ·exact hdo s hs hm
 have hnewb:∀p∈os,∀b,bM (β2 p.1)=some b→b∈b1.flatten++bl:=fun p hp b hb=>by rw[hβn p hp]at hb;exact c2 p hp b hb
 have hlive2:∀b,live β2 objs2 b→b∈b1.flatten++bl∨∃t,aw st.aa t∧t∉T∧bM (β t)=some b:=by
  rintro b ⟨t,o',ho',hb⟩;rcases hobj t o' ho' with hm|⟨h1,h2,o0,h3,_⟩;·exact .inl (hnewb _ hm b hb)
  ·rw[hβo t h1]at hb;exact .inr ⟨t,⟨o0,h3⟩,h2,hb⟩
 have hsame:∀b,b<w.heap.size→b∉cy β T→w'.heap[b]?=w.heap[b]?:=fun b h1 h2=>hfr.block b h1 h2;have hm:∀b,S b→aK S0 w0.heap.size β2 objs2 w' b∧w'.heap[b]?=w.heap[b]?:=by
  rintro b ⟨h1,h2,h3⟩;have hnT:b∉cy β T:=fun hm=>h3 (hTlive b hm).1;refine⟨⟨h1,Nat.lt_of_lt_of_le h2 hfr.size,fun hl=>?_⟩,hsame b h2 hnT⟩;rcases hlive2 b hl with hb|⟨t,⟨o0,h0⟩,_,hb⟩
  ·rcases hloc b hb with h4|h4;·omega
   ·exact hnT h4
  ·exact h3 ⟨t,o0,h0,hb⟩
 have hm3:∀b,S3 b→aK S0 w0.heap.size β2 objs2 w' b∧w'.heap[b]?=w'.heap[b]?:=by
  rintro b ⟨h1,h2,h3,h4⟩;refine⟨⟨h1,h2,fun hl=>?_⟩,rfl⟩;rcases hlive2 b hl with hb|hb;·exact h3 (by rw[ebs];exact hb)
  ·exact h4 hb
 have hrel:Rel P S0 L B0 w0 N ⟨ft W st.vars,objs2⟩ a w' β2:=by
  refine⟨h.size,h.defers,fun s=>(h.vars s).dO hm hD,⟨fun t o' ho'=>?_,fun t t' b ht ht' hb hb'=>?_⟩,fun t b ht hb=>?_,h.oE,fun t h9 ht=>?_,?_⟩
  ·rcases hobj t o' ho' with hmem|⟨h1,h2,o0,h3,rfl⟩;·exact(hlaid.1 (t,o') hmem).mono hm3 (fun _ hd=>⟨hd,rfl⟩) rfl (fun _ _=>rfl)
   ·exact(h.heap.holds t o0 h3).dO hm hD (hβo t h1) fun b hb=>hsame b (h.lt ⟨o0,h3⟩ hb) (hTinj t b ⟨o0,h3⟩ h2 hb)
  ·obtain⟨o1,ho1'⟩:=ht;obtain⟨o2,ho2'⟩:=ht';rcases hobj t o1 ho1' with hm1|⟨g1,g2,o0,g3,_⟩<;>rcases hobj t' o2 ho2' with hm2|⟨g1',g2',o0',g3',_⟩;·rw[hβn _ hm1]at hb;rw[hβn _ hm2]at hb';exact c3 _ hm1 _ hm2 b hb hb'
   ·rw[hβo t' g1']at hb';rcases hloc b (hnewb _ hm1 b hb) with h4|h4;·have:=h.lt ⟨o0',g3'⟩ hb';omega
    ·exact absurd h4 (hTinj t' b ⟨o0',g3'⟩ g2' hb')
   ·rw[hβo t g1]at hb;rcases hloc b (hnewb _ hm2 b hb') with h4|h4;·have:=h.lt ⟨o0,g3⟩ hb;omega
    ·exact absurd h4 (hTinj t b ⟨o0,g3⟩ g2 hb)
   ·rw[hβo t g1]at hb;rw[hβo t' g1']at hb';exact h.heap.inj t t' b ⟨o0,g3⟩ ⟨o0',g3'⟩ hb hb'
  ·obtain⟨o1,ho1'⟩:=ht;rcases hobj t o1 ho1' with hm1|⟨g1,g2,o0,g3,_⟩
   ·rcases hloc b (hnewb _ hm1 b hb) with h4|h4;·exact .inl (Nat.le_trans h.bJ.size h4)
    ·obtain⟨s,hs,hb'⟩:=List.mem_filterMap.1 h4;exact h.old s b (hTd s hs) hb'
   ·rw[hβo t g1]at hb;exact h.old t b ⟨o0,g3⟩ hb
  ·obtain⟨o1,ho1'⟩:=ht;rcases hobj t o1 ho1' with hm1|⟨g1,g2,o0,g3,_⟩
   ·have hq:t∈Q:=by
     rcases List.mem_append.1 (htag _ hm1) with hq|hq;·exact hq
     ·exfalso;unfold mn at hq;rcases List.mem_append.1 hq with hq|hq;·have:=(List.mem_filter.1 hq).2;simp only[bne_iff_ne,ne_eq]at this;exact this h9
      ·have:=(List.mem_filter.1 hq).1;simp only[List.mem_cons,List.not_mem_nil,or_false]at this;omega
    rw[(hpin t hq).1];exact h.rG t h9 (hTd t (hQT t hq))
   ·rw[hβo t g1];exact h.rG t h9 ⟨o0,g3⟩
  ·exact⟨hfr.os.trans h.bJ.os,hfr.tape.trans h.bJ.tape,hfr.output.trans h.bJ.output,Nat.le_trans h.bJ.size hfr.size,fun b h1 h2=>(hsame b (by have:=h.bJ.size;omega) fun hm=>by
    rcases List.mem_filterMap.1 hm with⟨s,hs,hb'⟩;rcases h.old s b (hTd s hs) hb' with h3|h3;·omega
    ·exact h2 h3).trans (h.bJ.block b h1 h2)⟩
 exact⟨v,β2,rfl,hrel,hlaid.2.2.mono hm3 fun _ hd=>⟨hd,rfl⟩⟩
theorem vJ:∀{xs ys:List AV},en st.aa xs=some ys→Am st.aa st.aa [] (xs.map fun _=>0) xs=some ys|[],_,h=>h|x::xs,ys,h=>by obtain⟨y,hy,h⟩:=Option.bind_eq_some_iff.1 h;obtain⟨l,hl,rfl⟩:=Option.map_eq_some_iff.1 h;show(lR st.aa x).bind _=_;rw[hy];show((Am st.aa st.aa [] (xs.map fun _=>0) xs).map _)=_;rw[vJ hl];rfl
theorem qK:∀xs:List AV,dR st.aa (xs.map fun _=>0) xs=[]|[]=>rfl|x::xs=>by show[]++dR st.aa (xs.map fun _=>0) xs=[];rw[qK xs];rfl
theorem lx:∀xs:List AV,dz (xs.map fun _=>0) xs=[]|[]=>rfl|x::xs=>by show dz (xs.map fun _=>0) xs=[];exact lx xs
theorem nF:∀xs:List AV,dL [] (xs.map fun _=>0) xs=dB xs|[]=>rfl|x::xs=>by show((0 !=0||dc x)&&dL [] (xs.map fun _=>0) xs)=_;rw[nF xs];rfl
theorem rU (f:Nat→Option AO):dG [] [] f=f:=by funext t;show(f t).map (gJ [])=f t;cases f t<;>rfl
theorem nG (d:Nat):(iz d).Nodup:=by simp[iz,List.nodup_cons]
theorem vm {r:AV} (h:jg r):CF r=false:=by
 by_cases hx:∃cs,r=.agg cs;·obtain⟨cs,rfl⟩:=hx;have h:ma cs:=h;show cs.any _=false;induction cs with|nil=>rfl|cons c cs ih=>rw[List.any_cons,ih h.2 h.2,Bool.or_false];have:=h.1;cases c<;>first|rfl|exact this.elim
 ·have h:kI r:=by rw[←v9 r fun cs e=>hx ⟨cs,e⟩];exact h
  cases r<;>first|rfl|exact h.elim
theorem yM {r:AV} (h:flat r):lV r=false:=by
 by_cases hx:∃vs,r=.aC vs;·obtain⟨vs,rfl⟩:=hx;have h:nZ vs:=h;show vs.any CF=false;induction vs with|nil=>rfl|cons c cs ih=>rw[List.any_cons,ih h.2 h.2,Bool.or_false];exact vm h.1
 ·have h:jg r:=by rw[←yZ r fun cs e=>hx ⟨cs,e⟩];exact h
  have:lV r=CF r:=by cases r<;>first|rfl|exact absurd ⟨_,rfl⟩ hx
  rw[this];exact vm h
theorem qp {r:AV} (h:lV r=false) (d:Nat):ie d r=aB d r:=by unfold ie;rw[h];rfl
theorem qd {r:AV} (h:lV r=false) (d:Nat):we d r=cq (jE d) r:=by unfold we;rw[h];rfl
theorem qg {r:AV} (h:lV r=false) (d:Nat):uZ d r=cr r:=by unfold uZ;rw[h];rfl
theorem nL {r:AV} (h:lV r=false):nm r=flat r:=by unfold nm;rw[h];rfl
theorem kr {f:AV→List Nat×List Nat→Option (AV×List (Nat×AO)×List Nat×List Nat)} (hf:∀y s q,f y s=some q→(q.2.1.map (·.1)++(q.2.2.1++q.2.2.2)).Perm (s.1++s.2)):∀(ys:List AV) (s:List Nat×List Nat) (q:List AV×List (Nat×AO)×List Nat×List Nat),lG f ys s=some q→(q.2.1.map (·.1)++(q.2.2.1++q.2.2.2)).Perm (s.1++s.2)|[],s,q,h=>by cases h;exact .refl _|y::ys,s,q,h=>by obtain⟨r,hr,h⟩:=Option.bind_eq_some_iff.1 h;obtain⟨q',hq,rfl⟩:=Option.map_eq_some_iff.1 h;rw[List.map_append,List.append_assoc];exact((kr hf ys r.2.2 q' hq).append_left _).trans (hf y s r hr)
theorem mq:∀(n:Nat) (top:Bool) (y:AV) (s:List Nat×List Nat) (q:AV×List (Nat×AO)×List Nat×List Nat),num n top y s=some q→(q.2.1.map (·.1)++(q.2.2.1++q.2.2.2)).Perm (s.1++s.2)
 |0,_,_,_,_,h=>by cases h|n+1,top,y,s,q,h=>by
  unfold num at h;split at h;·obtain⟨k,hk,rfl⟩:=Option.map_eq_some_iff.1 h;exact ka hk
  ·obtain⟨k,hk,rfl⟩:=Option.map_eq_some_iff.1 h;exact ka hk
  ·obtain⟨k,hk,h⟩:=Option.bind_eq_some_iff.1 h;obtain⟨r,hr,rfl⟩:=Option.map_eq_some_iff.1 h;exact((kr (mq n false) _ k.2 r hr).cons k.1).trans (ka hk)
  ·obtain⟨r,hr,rfl⟩:=Option.map_eq_some_iff.1 h;exact kr (mq n top) _ s r hr
  ·obtain⟨r,hr,rfl⟩:=Option.map_eq_some_iff.1 h;exact kr (mq n top) _ s r hr
  ·cases h;exact .refl _
  ·cases h;exact .refl _
  ·split at h;·cases h;exact .refl _
   ·cases h
  ·cases h
theorem sS (d:Nat) (r:AV):∀x∈ie d r,∃p,x.1=d+1000*p:=by
 intro x hx;unfold ie at hx;split at hx;·cases hn:num 5 false r ([],iz d) with|none=>rw[hn]at hx;simp at hx|some q=>
  rw[hn]at hx;have hp:=mq 5 false r _ q hn;have hm:x.1∈iz d:=by simpa using hp.mem_iff.1 (List.mem_append_left _ (List.mem_map_of_mem (by simpa using hx)))
  simp only[iz,List.mem_cons,List.not_mem_nil,or_false]at hm;rcases hm with h|h|h|h|h|h|h|h;·exact⟨0,h⟩
  ·exact⟨1,h⟩
  ·exact⟨2,h⟩
  ·exact⟨3,h⟩
  ·exact⟨4,h⟩
  ·exact⟨5,h⟩
  ·exact⟨6,h⟩
  ·exact⟨7,h⟩
 ·unfold aB at hx;obtain⟨y,_,rfl⟩:=List.mem_map.1 hx;exact⟨y.1,rfl⟩
theorem ju (h:Rel P S0 L B0 w0 N st a w β) {f:FuncId}{d:Nat} (hd9:d%1000≠999) {vals:List Value}{xs ys:List AV}{r:AV} (hl:vals.length=xs.length) (hv:∀(i:Nat) (v:Value) (x:AV),vals[i]?=some v→xs[i]?=some x→RV P (aK S0 w0.heap.size β st.aa w) w β (aw st.aa) v x) (hre:en st.aa xs=some ys) (hcon:HR P f ys r) (hpf:dB xs=true∨nm r) (hfree:∀x∈ie d r,st.aa x.1=none) (hres:uZ d r=true):Calls P f vals.toArray w fun e w'=>∃v β',e=.returned v∧Rel P S0 L B0 w0 N ⟨st.vars,bd (ie d r) st.aa⟩ a w' β'∧RV P (aK S0 w0.heap.size β' (bd (ie d r) st.aa) w') w' β' (aw (bd (ie d r) st.aa)) v (we d r):=by unfold ie at hfree ⊢;unfold we;unfold uZ at hres;unfold nm at hpf;cases ht:lV r with|false=>simp only[ht,Bool.false_eq_true,if_false]at hfree hres hpf ⊢;exact xI h hd9 hl hv hre (hcon.2 ht) hpf hfree hres|true=>simp only[ht,if_true]at hfree hres hpf ⊢;obtain⟨q,hq⟩:=Option.isSome_iff_exists.1 hres;rw[hq]at hfree ⊢;simp only[Option.map_some,Option.getD_some]at hfree ⊢;have:=AT (T:=[]) (Q:=[]) (W:=[]) (fun e=>absurd rfl e) h hd9 (ks:=xs.map fun _=>0) hl hv (qK xs).symm (by rw[lx];rfl) rfl List.nodup_nil (fun t ht=>by cases ht) (nG d) (by rw[rU];exact vJ hre) (hcon.1 ht) (by rw[nF];exact hpf.imp id fun hf y hy=>by simp only[jo,iR,List.nil_append,List.mem_singleton]at hy;rw[hy];exact hf) (o:=([],[],([],iz d))) rfl (lx xs).symm hq (fun p hp=>.inr (hfree p hp));rw[rU]at this;exact this
end
theorem pL {k k':IntKind} (h:ky k=ky k'):k=k':=by cases k<;>cases k'<;>first|rfl|(simp[ky]at h)
theorem nV:∀{a c b d:List PV},a.length=c.length→ir (a++b) (c++d)=(ir a c&&ir b d)|[],[],b,d,_=>by simp[ir]|x::a,y::c,b,d,h=>by simp only[List.cons_append,ir];rw[nV (by simpa using h),Bool.and_assoc]|[],_::_,_,_,h=>by simp at h|_::_,[],_,_,h=>by simp at h
section
variable{P:Program}
def BC (P:Program) (t:TypeId) (us:List Value):Value:=match P.underlying t with|some (.struct _)|some (.array _ _)=>.agg us.toArray|_=>us.headD undef
theorem zb (w:World) {t:TypeId}{n:Nat}{A us rest:List Value} (ht:(P.underlying t).isSome=true) (hn:b9 P t=some n) (hl:us.length=n) (h1:(∃fs,P.underlying t=some (.struct fs))∨(us≠[]∧∀k e,P.underlying t≠some (.array k e))):(part t (A++us++rest).toArray A.length).run P w=.ok (BC P t us) w:=by
 obtain⟨d,hd⟩:=Option.isSome_iff_exists.1 ht;obtain⟨i,hi,hsz⟩:∃i,P.info? t=some i∧i.size=n:=by unfold b9 at hn;obtain⟨i,hi,rfl⟩:=Option.map_eq_some_iff.1 hn;exact⟨i,hi,rfl⟩
 have hs:(Go.sizeOf t).run P w=.ok n w:=by simp[Go.sizeOf,typeInfo,hi,hsz]
 have hagg:(∃fs,d=.struct fs)→(part t (A++us++rest).toArray A.length).run P w=.ok (.agg us.toArray) w:=by
  rintro⟨fs,rfl⟩;have he:(A++us++rest).toArray.extract A.length (A.length+n)=us.toArray:=by apply Array.ext';simp only[List.extract_toArray,List.extract_eq_take_drop];rw[List.append_assoc,List.drop_left,Nat.add_sub_cancel_left,←hl,List.take_left]
  simp only[part,isAgg,Sem.run_bind,run_underlying hd,hs,Result.andThen_ok,Sem.run_pure,if_true,he]
 unfold BC;rw[hd];rcases h1 with⟨fs,h1⟩|⟨h1,h2⟩;·rw[hd]at h1;cases h1;exact hagg ⟨fs,rfl⟩
 ·match us,h1 with
  |u::l,_=>
   have h4:(A++(u::l)++rest).toArray[A.length]?=some u:=by simp
   cases d with|struct fs=>exact hagg ⟨fs,rfl⟩|array k e=>exact absurd hd (h2 k e)|_=>simp[part,isAgg,run_underlying hd,Result.andThen]
theorem sC {p:PV} (h:cD p=0):∃b,p=.bool b:=by cases p<;>simp[cD]at h;exact⟨_,rfl⟩
theorem uo {p:PV} (h:cD p=1):∃l,p=.str l:=by cases p with|str l=>exact⟨l,rfl⟩|int k n=>simp only[cD]at h;omega|_=>simp[cD]at h
theorem uK {p:PV}{k:IntKind} (h:cD p=2+ky k):∃n,p=.int k n:=by
 have:ky k≤7:=by cases k<;>decide
 cases p with|int k' n=>simp only[cD]at h;have:=pL (show ky k'=ky k by omega);subst this;exact⟨n,rfl⟩|bool b=>simp only[cD]at h;omega|str b=>simp only[cD]at h;omega|_=>simp only[cD]at h;omega
theorem Bi (a b:List UInt8):((⟨a.toArray⟩:ByteArray).toList==(⟨b.toArray⟩:ByteArray).toList)=decide (a=b):=by
 rw[ByteArray.toList_eq,ByteArray.toList_eq];by_cases h:a=b;·subst h;simp
 ·simp[h]
theorem wW:∀(n:Nat) (t:TypeId) (ks:List Nat),jv P n t=some ks→(P.underlying t).isSome=true∧((∃fs,P.underlying t=some (.struct fs))∨(ks≠[]∧∀k e,P.underlying t≠some (.array k e)))
 |0,t,ks,h=>by cases h|n+1,t,ks,h=>by
  unfold jv at h;split at h;·rename_i hu;cases h;rw[hu];exact⟨rfl,.inr ⟨by simp,fun k e h=>by cases h⟩⟩
  ·rename_i hu;cases h;rw[hu];exact⟨rfl,.inr ⟨by simp,fun k e h=>by cases h⟩⟩
  ·rename_i hu;cases h;rw[hu];exact⟨rfl,.inr ⟨by simp,fun k e h=>by cases h⟩⟩
  ·rename_i fs hu;rw[hu];exact⟨rfl,.inl ⟨fs,rfl⟩⟩
  ·cases h
theorem sF {f:TypeId→Option (List Nat)}{d:Nat} (hl:∀t ks,f t=some ks→(P.underlying t).isSome=true∧((∃fs,P.underlying t=some (.struct fs))∨(ks≠[]∧∀k e,P.underlying t≠some (.array k e)))) (hf:∀t ks,f t=some ks→∀(w:World) (ps qs:List PV),ps.map cD=ks→qs.map cD=ks→(Op.equalIn d t (BC P t (ps.map bA)) (BC P t (qs.map bA))).run P w=.ok (ir ps qs) w) (w:World):∀(fs:List Field) (off:Nat) (ks:List Nat) (A B:List Value) (ps qs:List PV),oF P f off fs=some ks→A.length=off→B.length=off→ps.map cD=ks→qs.map cD=ks→(Op.eqFields d (A++ps.map bA).toArray (B++qs.map bA).toArray fs).run P w=.ok (ir ps qs) w
 |[],off,ks,A,B,ps,qs,h,hA,hB,hp,hq=>by cases h;have:ps=[]:=List.map_eq_nil_iff.1 hp;have:qs=[]:=List.map_eq_nil_iff.1 hq;subst_vars;simp[Op.eqFields,ir]|fl::fs,off,ks,A,B,ps,qs,h,hA,hB,hp,hq=>by
  unfold oF at h;split at h
  ·rename_i hc;obtain⟨hn,ho⟩:=hc;obtain⟨a,ha,h⟩:=Option.bind_eq_some_iff.1 h;split at h
   ·rename_i hs;obtain⟨r,hr,rfl⟩:=Option.map_eq_some_iff.1 h;have key:∀l:List PV,l.map cD=a++r→∃l1 l2,l=l1++l2∧l1.map cD=a∧l2.map cD=r:=by intro l h;obtain⟨l1,l2,rfl,h1,h2⟩:=List.map_eq_append_iff.1 h;exact⟨l1,l2,rfl,h1,h2⟩
    obtain⟨p1,p2,rfl,hp1,hp2⟩:=key ps hp;obtain⟨q1,q2,rfl,hq1,hq2⟩:=key qs hq;have l1:p1.length=a.length:=by rw[←hp1];simp
    have l2:q1.length=a.length:=by rw[←hq1];simp
    obtain⟨g1,g2⟩:=hl _ _ ha;have e1:((fl.offset:Nat))=A.length:=by rw[hA,ho]
    have e2:A.length=B.length:=by rw[hA,hB]
    have hpa:=zb (P:=P) (t:=fl.type) (n:=a.length) (A:=A) (us:=p1.map bA) (rest:=p2.map bA) w g1 hs (by simpa using l1) (g2.imp id fun h=>⟨by intro h0;apply h.1;rw[←hp1,List.map_eq_nil_iff.1 h0];rfl,h.2⟩);have hqa:=zb (P:=P) (t:=fl.type) (n:=a.length) (A:=B) (us:=q1.map bA) (rest:=q2.map bA) w g1 hs (by simpa using l2) (g2.imp id fun h=>⟨by intro h0;apply h.1;rw[←hq1,List.map_eq_nil_iff.1 h0];rfl,h.2⟩);have ih:=sF hl hf w fs (off+a.length) r (A++p1.map bA) (B++q1.map bA) p2 q2 hr (by simp[hA,l1]) (by simp[hB,l2]) hp2 hq2;rw[List.map_append,List.map_append,←List.append_assoc,←List.append_assoc,nV (by rw[l1,l2])];unfold Op.eqFields;rw[if_pos hn,e1];simp only[Sem.run_bind,hpa,Result.andThen_ok];rw[e2];simp only[hqa,Result.andThen_ok,hf _ _ ha w p1 q1 hp1 hq1];cases h1:ir p1 q1 with|true=>simp only[Bool.not_true,Bool.false_eq_true,if_false,Bool.true_and];exact ih|false=>simp
   ·cases h
  ·cases h
theorem uj:∀(n:Nat) (t:TypeId) (ks:List Nat),jv P n t=some ks→∀(d:Nat),n≤d→∀(w:World) (ps qs:List PV),ps.map cD=ks→qs.map cD=ks→(Op.equalIn d t (BC P t (ps.map bA)) (BC P t (qs.map bA))).run P w=.ok (ir ps qs) w
 |0,t,ks,h=>by cases h|n+1,t,ks,h=>by
  intro d hd w ps qs hp hq;obtain⟨d,rfl⟩:∃e,d=e+1:=⟨d-1,by omega⟩;have one:∀k,ks=[k]→∃p q,ps=[p]∧qs=[q]∧cD p=k∧cD q=k:=by rintro k rfl;rcases ps with _|⟨p,_|⟨p',ps⟩⟩<;>simp at hp;rcases qs with _|⟨q,_|⟨q',qs⟩⟩<;>simp at hq;exact⟨p,q,rfl,rfl,hp,hq⟩
  unfold jv at h;split at h;·rename_i hu;injection h with h;obtain⟨p,q,rfl,rfl,h1,h2⟩:=one _ h.symm;obtain⟨b,rfl⟩:=sC h1;obtain⟨c,rfl⟩:=sC h2;simp only[BC,hu,List.map_cons,List.map_nil,List.headD_cons,bA];rw[run_equalIn_bool' w d t b c hu];cases b<;>cases c<;>rfl
  ·rename_i hu;injection h with h;obtain⟨p,q,rfl,rfl,h1,h2⟩:=one _ h.symm;obtain⟨b,rfl⟩:=uo h1;obtain⟨c,rfl⟩:=uo h2;simp only[BC,hu,List.map_cons,List.map_nil,List.headD_cons,bA];rw[run_equalIn_string w d t _ _ hu,Bi];simp[ir,lA]
  ·rename_i k hu;injection h with h;obtain⟨p,q,rfl,rfl,h1,h2⟩:=one _ h.symm;obtain⟨b,rfl⟩:=uK h1;obtain⟨c,rfl⟩:=uK h2;simp only[BC,hu,List.map_cons,List.map_nil,List.headD_cons,bA];rw[run_equalIn_int w d t k k b c hu];simp only[ir,lA,Bool.and_true];rfl
  ·rename_i fs hu;split at h
   ·rename_i hst;have hfo:P.fieldsOf t=fs:=by simp[Program.fieldsOf,hu]
    simp only[BC,hu];rw[run_equalIn_struct w d t _ _ (by rw[hfo];exact hu) hst,hfo];have:=sF (P:=P) (f:=jv P n) (d:=d) (fun t ks h=>wW n t ks h) (fun t ks h w ps qs=>uj n t ks h d (by omega) w ps qs) w fs.toList 0 ks [] [] ps qs h rfl rfl hp hq;simpa using this
   ·cases h
  ·cases h
end
section
variable{P:Program}{S:Nat→Prop}{w:World}{β:Nat→Value}{aa:Nat→Option AO}{a:Act}{o:Oper}{x y:Operand}
theorem m8:∀{cs:List AV}{ps:List PV},dF cs=some ps→cs=ps.map .pv|[],ps,h=>by cases h;rfl|c::cs,ps,h=>by simp only[dF,Option.bind_eq_some_iff,Option.map_eq_some_iff]at h;obtain⟨p,hp,l,hl,rfl⟩:=h;rw[m8 hl];cases c<;>simp[zy]at hp;subst hp;rfl
theorem oU {D:Nat→Prop}{ps:List PV}{ks:List Nat} (hks:∀k∈ks,k<99) (hs:ps.map cD=ks) {us:List Value} (hl:us.length=(ps.map AV.pv).length) (hr:∀(i:Nat) (c:AV) (u:Value),(ps.map AV.pv)[i]?=some c→us[i]?=some u→RV P S w β D u c):us=ps.map bA:=by
 subst hs;have hl':us.length=ps.length:=by simpa using hl
 apply List.ext_getElem?;intro i;cases hu:us[i]? with|none=>have:us.length≤i:=List.getElem?_eq_none_iff.1 hu;rw[List.getElem?_eq_none (by simp;omega)]|some u=>have hi:i<us.length:=(List.getElem?_eq_some_iff.1 hu).1;obtain⟨p,hp⟩:∃p,ps[i]?=some p:=⟨ps[i],List.getElem?_eq_getElem (by omega)⟩;have h3:=(hr i (.pv p) u (by simp[hp]) hu).aZ;have h4:=hks (cD p) (by simp only[List.mem_map];exact⟨_,List.mem_of_getElem? hp,rfl⟩);rw[List.getElem?_map,hp];simp only[Option.map_some,Option.some.injEq];cases h3 with|int q n=>rfl|bool b=>rfl|str l=>rfl|_=>simp only[cD]at h4;omega
theorem E4 {ne:Bool}{t yt:TypeId}{fs:Array Field}{ks:List Nat} (ho:o.op=.binOp (if ne=true then .neq else .eql) t x y yt) (hu:P.underlying t=some (.struct fs)) (hk:jv P 8 t=some ks) (hks:ks.all (·<99)=true) (hg:P.eqGuardType P.depth t=false) {X Y:AV} (hX:RV P S w β (aw aa) (a.eval x) X) (hY:RV P S w β (aw aa) (a.eval y) Y) {φ:Prop}{v:AV} (h:ai (.eqs ne ks) [X,Y] aa=some (φ,v)) (hφ:φ):∃r,(execOp a.eval o).run P w=.ok (.value r) w∧RV P S w β (aw aa) r v:=by
 have hks':∀k∈ks,k<99:=fun k hk=>by simpa using(List.all_eq_true.1 hks) k hk
 cases X with
 |agg xs=>cases Y with
  |agg ys=>simp only[ai,Option.bind_eq_some_iff,Option.map_eq_some_iff]at h;obtain⟨ps,hps,qs,hqs,he⟩:=h;cases he;cases m8 hps;cases m8 hqs;obtain⟨us,hxu,hul,hur⟩:=hX.cB;obtain⟨vs,hyv,hvl,hvr⟩:=hY.cB;have e1:=oU hks' hφ.1 hul hur;have e2:=oU hks' hφ.2 hvl hvr;have hrun:=uj 8 t ks hk 10000 (by omega) w ps qs hφ.1 hφ.2;simp only[BC,hu]at hrun;rw[e1]at hxu;rw[e2]at hyv;cases ne with|false=>exact⟨_,by simp[execOp,ho,hxu,hyv,run_eqGuard_agg w .eql t x y _ _ hg,run_eql_struct,hrun,Result.andThen],.pv _ _ (.bool _)⟩|true=>exact⟨_,by simp[execOp,ho,hxu,hyv,run_eqGuard_agg w .neq t x y _ _ hg,run_neq_struct,hrun,Result.andThen],.pv _ _ (.bool _)⟩
  |_=>simp[ai]at h
 |_=>simp[ai]at h
end
theorem fa {P:Program}{kt:TypeId}{s:Nat} (h:iu P kt=some s):∃d,P.underlying kt=some d∧∀k,cD k=s→MapKept.IsKey d (bA k):=by
 unfold iu at h;split at h;·rename_i hu;injection h with h;subst h;refine⟨_,hu,fun k hk=>?_⟩;cases k<;>first|trivial|(simp[cD]at hk)
 ·rename_i hu;injection h with h;subst h;refine⟨_,hu,fun k hk=>?_⟩;cases k<;>first|trivial|(simp[cD]at hk;try omega)
 ·rename_i q hu;injection h with h;subst h;refine⟨_,hu,fun k hk=>?_⟩;cases k with
  |int k n=>simp only[cD]at hk;exact pL (by omega)|bool b=>simp only[cD]at hk;omega|str l=>simp only[cD]at hk;omega
  | _=>simp only[cD]at hk;have:ky q≤7:=by cases q<;>decide
       omega
 ·cases h
theorem lY {k k':PV}{s:Nat} (h:cD k=s) (h':cD k'=s) (hs:s<99):lA k k'=true↔bA k'=bA k:=by subst h;cases k<;>cases k'<;>simp only[cD]at h' hs<;>first|omega|(have:_:=pL (Nat.add_left_cancel h');subst this;simp[lA,bA,eq_comm])|simp[lA,bA,eq_comm]
theorem lE {P:Program}{kt:TypeId}{s:Nat} (h:iu P kt=some s):s<99:=by
 unfold iu at h;split at h;·injection h with h;omega
 ·injection h with h;omega
 ·rename_i q _;injection h with h;have:ky q≤7:=by cases q<;>decide
  omega
 ·cases h
theorem iM {P:Program}{S:Nat→Prop}{w:World}{β:Nat→Value}{D:Nat→Prop}{u:Value}{p:PV}{s:Nat} (h:RV P S w β D u (.pv p)) (hp:cD p=s) (hs:s<99):u=bA p:=by have h:=h.aZ;cases h with|int q n=>rfl|bool b=>rfl|str l=>rfl|_=>simp only[cD]at hp;omega
theorem dV {P:Program}{t k e:TypeId} (h:gC P t=some (k,e)):P.underlying t=some (.map k e):=by
 unfold gC at h;split at h;·rename_i hu;cases h;exact hu
 ·cases h
theorem fL {d:TypeDesc}{k:PV}{s:Nat} (hd:∀k,cD k=s→MapKept.IsKey d (bA k)) (hk:cD k=s) (hs:s<99):∀(us:List MapEntry) (es:List (PV×PV)) (n:Nat),eb s es→us.length=es.length→(∀(i:Nat) (e:PV×PV) (u:MapEntry),es[i]?=some e→us[i]?=some u→u.key=bA e.1)→(Instr.findNow d (bA k) us n=some none∧jq k es=none∧(∀v,jr k v es=es++[(k,v)])∧mD k es=es∧∀u∈us,u.key≠bA k)∨∃j e u,Instr.findNow d (bA k) us n=some (some (n+j,u.val))∧es[j]?=some e∧us[j]?=some u∧u.key=bA k∧jq k es=some e.2∧(∀v,jr k v es=es.set j (k,v))∧mD k es=es.eraseIdx j|[],[],_,_,_,_=>.inl ⟨rfl,rfl,fun v=>rfl,rfl,fun u hu=>by simp at hu⟩|[],_::_,_,_,hl,_=>by simp at hl|_::_,[],_,_,hl,_=>by simp at hl|u::us,e::es,n,hks,hl,hu=>by have h1:=hu 0 e u rfl rfl;have hke:=hks e (by simp);obtain⟨r,hr,hiff⟩:=MapKept.sameNow_of_keys (hd k hk) (hd e.1 hke);rw[←h1]at hr;cases r with|true=>have h2:bA k=bA e.1:=hiff.1 rfl;have h3:lA k e.1=true:=(lY hk hke hs).2 h2.symm;exact .inr ⟨0,e,u,by simp[Instr.findNow,hr],rfl,rfl,h1.trans h2.symm,by simp only[jq];rw[if_pos h3],fun v=>by simp only[jr];rw[if_pos h3];rfl,by simp only[mD];rw[if_pos h3];rfl⟩|false=>
 have h3:¬lA k e.1=true:=fun h=>by have:=hiff.2 ((lY hk hke hs).1 h).symm;cases this
 have h4:u.key≠bA k:=fun h=>by have:=hiff.2 (h.symm.trans h1);cases this
 rcases fL hd hk hs us es (n+1) (fun x hx=>hks x (by simp[hx])) (by simpa using hl) (fun i x y hx hy=>hu (i+1) x y (by simpa using hx) (by simpa using hy)) with⟨g1,g2,g3,g4,g5⟩|⟨j,e',u',g1,g2,g3,g4,g5,g6,g7⟩
 ·refine .inl ⟨by simp[Instr.findNow,hr,g1],by simp only[jq];rw[if_neg h3];exact g2,fun v=>by simp only[jr];rw[if_neg h3,g3 v];rfl,by simp only[mD];rw[if_neg h3,g4],fun x hx=>?_⟩;rcases List.mem_cons.1 hx with rfl|hx;·exact h4
  ·exact g5 x hx
 ·exact .inr ⟨j+1,e',u',by simp[Instr.findNow,hr,g1];omega,by simpa using g2,by simpa using g3,g4,by simp only[jq];rw[if_neg h3];exact g5,fun v=>by simp only[jr];rw[if_neg h3,g6 v];rfl,by simp only[mD];rw[if_neg h3,g7];rfl⟩
theorem Au {P:Program}{o:Oper}{s:Nat}{z:Value}{ok:Bool}{xs:List Operand} (h:jM P o=(.Af s z ok,xs)):∃t m k kt et,o.op=.lookup t m k ok∧gC P t=some (kt,et)∧iu P kt=some s∧zeroV P et=some z∧xs=[m,k]:=by
 unfold jM at h;split at h
 ·rename_i r hr;subst h;unfold zc at hr;repeat' split at hr
  all_goals first|(cases hr;done)|(cases hr;exact⟨_,_,_,_,_,by assumption,by assumption,by assumption,by assumption,rfl⟩)
 ·cases hx:vq P o with|none=>rw[hx]at h;cases h|some r=>
   rw[hx]at h;have h:r=(.Af s z ok,xs):=h;subst h;unfold vq wI at hx;repeat' split at hx
   all_goals cases hx
section
variable{P:Program}{S:Nat→Prop}{w:World}{β:Nat→Value}{aa:Nat→Option AO}{a:Act}{o:Oper}
theorem NZ {t:TypeId}{m k:Operand}{kt et:TypeId}{s:Nat}{z:Value}{ok:Bool} (ho:o.op=.lookup t m k ok) (hm:gC P t=some (kt,et)) (hsrt:iu P kt=some s) (hz:zeroV P et=some z) (hz1:z.oneCell'=true) {p:PV}{es:List (PV×PV)} (hX:RV P S w β (aw aa) (a.eval m) (.pv (.mv es))) (hK:RV P S w β (aw aa) (a.eval k) (.pv p)) (hp:cD p=s) (hks:eb s es):∃v,(execOp a.eval o).run P w=.ok (.value v) w∧RV P S w β (aw aa) v (tV z ok (jq p es)):=by have h1:=hX.aZ;generalize hmv:a.eval m=mv at h1;cases h1 with|mv b us c es g1 hh hst hl g5 g6=>
 have hmt:=dV hm;obtain⟨d,hdk,hkey⟩:=fa hsrt;have hs99:=lE hsrt;have hkv:a.eval k=Ab.bA p:=iM hK hp hs99;have hzr:(zeroValue et).run P w=.ok z w:=by unfold zeroV at hz;obtain⟨i,hi,hz⟩:=Option.bind_eq_some_iff.1 hz;simp[zeroValue,typeInfo,hi,hz]
 have hfind:=fL hkey hp hs99 us.toList es 0 hks hl fun i e u h1 h2=>(g5 i e u h1 h2).1;have fin:∀(v:Value) (x:PV) (f:Bool),(Instr.lookup t (.map (some b)) (Ab.bA p) ok).run P w=.ok (if ok=true then .tuple #[v,.bool f] else v) w→cM S w v x→∃v,(execOp a.eval o).run P w=.ok (.value v) w∧RV P S w β (aw aa) v (if ok=true then .aC [.pv x,.pv (.bool f)] else .pv x):=by intro v x f hrun hv;refine⟨_,by simp only[execOp,ho,hmv,hkv];simp[hrun,Result.andThen];rfl,?_⟩;cases ok with|false=>exact .pv _ _ hv|true=>refine .aC _ [v,.bool f] rfl fun i c u h1 h2=>?_;match i with|0=>simp at h1 h2;subst h1 h2;exact .pv _ _ hv|1=>simp at h1 h2;subst h1 h2;exact .pv _ _ (.bool f)|i+2=>simp at h1
 unfold tV;rcases hfind with⟨h1,h2,_⟩|⟨j,e,u,h1,h2,h3,h4,h5,_⟩;·rw[h2];refine fin z (ou z) false ?_ (fI _ _ z hz1);simp[Instr.lookup,run_underlying hmt,MapKept.run_getObj_map hh,MapKept.run_checkKey hdk (hkey p hp),MapKept.run_findKey hdk h1,hzr,Result.andThen]
 ·rw[h5];refine fin u.val e.2 true ?_ (g6 j e u h2 h3);simp[Instr.lookup,run_underlying hmt,MapKept.run_getObj_map hh,MapKept.run_checkKey hdk (hkey p hp),MapKept.run_findKey hdk h1,Result.andThen]
end
theorem fx {P:Program}{f:FuncId} (h:fy P f=true):f<P.funcs.size:=by
 unfold fy at h;split at h;·rename_i fn hfn;exact(Array.getElem?_eq_some_iff.1 hfn).1
 ·cases h
def oH:AK→Bool|.ex (.Af _ _ _)=>true|.bf|.pick|.cC _|.box|.alloc _|.gF _ _|.call _|.fE|.store _|.app _ _ _|.ve _|.ze _ _ _|.ex _=>false|_=>true
theorem zg {x:XK}{ys:List AV}{aa:Nat→Option AO} (h:oH (.ex x)=false):ai (.ex x) ys aa=none:=by unfold ai;split<;>first|rfl|simp_all[oH]
section
variable{P:Program}{Γ:bp}{S0 L:Nat→Prop}{B0:Nat→Value}{w0 w:World}{N:Nat}{st:St}{a:Act}{β:Nat→Value}{o:Oper}{k:AK}{xs:List Operand}
theorem Rel.ev (h:Rel P S0 L B0 w0 N st a w β) (z:Operand):RV P (aK S0 w0.heap.size β st.aa w) w β (aw st.aa) (a.eval z) (ev st.vars z):=Ci h.vars z
theorem Rel.cE (h:Rel P S0 L B0 w0 N st a w β) (z:Operand) (ha:asks (Ab.ev st.vars z)):RV P (aK S0 w0.heap.size β st.aa w) w β (aw st.aa) (a.eval z) (strip (Ab.ev st.vars z)):=(h.ev z).strip ha
theorem B2 (h:Rel P S0 L B0 w0 N st a w β) (hc:ff P o=some (k,xs)) (hk:oH k=true) (ha:aj (xs.map (ev st.vars))) {φ:Prop}{v:AV} (hs:ai k ((xs.map (ev st.vars)).map strip) st.aa=some (φ,v)) (hφ:φ):∃r,(execOp a.eval o).run P w=.ok (.value r) w∧RV P (aK S0 w0.heap.size β st.aa w) w β (aw st.aa) r v:=by
 rcases cS hc with hc|⟨x,rfl,hx⟩;rotate_left;·cases x with
  |Af s z ok=>obtain⟨t,m,k,kt,et,ho,hm,hsr,hz,rfl⟩:=Au hx;have h1:=h.cE m ha.1;have h2:=h.cE k ha.2.1;simp only[List.map_cons,List.map_nil]at hs;generalize strip (Ab.ev st.vars m)=X at h1 hs;generalize strip (Ab.ev st.vars k)=Y at h2 hs;cases X with
   |pv p=>cases Y with
    |pv q=>cases p with|mv es=>simp only[ai,Option.some.injEq,Prod.mk.injEq]at hs;obtain⟨rfl,rfl⟩:=hs;exact NZ ho hm hsr hz hφ.1 h1 h2 hφ.2.1 hφ.2.2|_=>simp[ai]at hs
    |_=>cases p<;>simp[ai]at hs
   |_=>simp[ai]at hs
  |_=>simp[oH]at hk
 unfold eM at hc;split at hc;·
  split at hc
  ·split at hc
   ·split at hc;·cases hc;simp[oH]at hk
    ·cases hc
   ·cases hc
  ·cases hc;simp[oH]at hk
 ·split at hc
  ·split at hc
   ·split at hc;·cases hc;simp[oH]at hk
    ·cases hc
   ·cases hc
  ·cases hc;simp[oH]at hk
 ·cases hc;simp[oH]at hk
 ·obtain⟨zs,_,he⟩:=Option.map_eq_some_iff.1 hc;cases he;simp[oH]at hk
 ·cases hc;simp[oH]at hk
 ·rename_i t ps ho;split at hc
  ·rename_i zs fs hz hu;split at hc;·cases hc
   ·rename_i hall;obtain⟨l,hl,he⟩:=Option.map_eq_some_iff.1 hc;cases he;exact O6 ho hz hu (Bool.of_not_eq_false hall) hl h.heap h.cE ha hs hφ
  ·cases hc
 ·split at hc
  ·split at hc
   ·split at hc;·cases hc;simp[oH]at hk
    ·cases hc
   ·cases hc
  ·cases hc
 ·rename_i t x ho;obtain⟨n,hn,he⟩:=Option.map_eq_some_iff.1 hc;cases he;cases n with|none=>exact yy ho hn h.heap (h.cE x ha.1) hs hφ|some n=>exact yX ho hn h.heap (h.cE x ha.1) hs hφ
 ·split at hc
  ·split at hc;·cases hc;simp[oH]at hk
   ·cases hc
  ·cases hc;simp[oH]at hk
  ·cases hc
 ·rename_i op t x y yt ho;split at hc
  ·rename_i hu;split at hc;·cases hc;exact EP (ne:=false) ho hu (h.cE x ha.1) (h.cE y ha.2.1) hs hφ
   ·cases hc;exact EP (ne:=true) ho hu (h.cE x ha.1) (h.cE y ha.2.1) hs hφ
   ·cases hc
  ·cases hc;exact Fb ho (h.cE x ha.1) (h.cE y ha.2.1) hs hφ
  ·cases hc;exact Fb ho (h.cE x ha.1) (h.cE y ha.2.1) hs hφ
  ·rename_i fs hu;split at hc
   ·rename_i ks hks;split at hc
    ·rename_i hcond;split at hc;·cases hc;exact E4 (ne:=false) ho hu hks hcond.1 hcond.2 (h.cE x ha.1) (h.cE y ha.2.1) hs hφ
     ·cases hc;exact E4 (ne:=true) ho hu hks hcond.1 hcond.2 (h.cE x ha.1) (h.cE y ha.2.1) hs hφ
     ·cases hc
    ·cases hc
   ·cases hc
  ·cases hc
 ·rename_i t x ho;cases hc;exact QK ho (h.cE x ha.1) hs hφ
 ·rename_i t x ho;cases hc;exact Na ho (h.cE x ha.1) hs hφ
 ·rename_i src dst x ho;split at hc;·rename_i k0 k1 hsr hds;cases hc;exact Px ho hsr hds (h.cE x ha.1) hs hφ
  ·rename_i hsr hds;cases hc;exact Qs ho hsr hds (h.cE x ha.1) hs hφ
  ·rename_i e hsr hds;split at hc;·rename_i he;cases hc;exact Ig ho hsr he hds h.heap (h.cE x ha.1) hs
   ·cases hc
  ·split at hc;·cases hc;simp[oH]at hk
   ·cases hc
  ·cases hc
 ·rename_i s x i ho;split at hc
  ·rename_i fs hu;split at hc
   ·rename_i f hf;split at hc;·rename_i n hsz;cases hc;exact NI ho hu hf hsz (h.cE x ha.1) hs hφ
    ·cases hc
   ·cases hc
  ·cases hc
 ·rename_i s x i ho;split at hc
  ·rename_i fs hu;split at hc;·rename_i f hf;obtain⟨n,hn,he⟩:=Option.map_eq_some_iff.1 hc;cases he;cases n with|none=>exact I5 ho hu hf hn (h.cE x ha.1) hs hφ|some n=>exact Hw ho hu hf hn (h.cE x ha.1) hs hφ
   ·cases hc
  ·cases hc
 ·rename_i t x y ho;split at hc;·rename_i e hu;obtain⟨sz,hsz,he⟩:=Option.map_eq_some_iff.1 hc;cases he;exact MQ ho hu hsz h.heap (h.cE x ha.1) (h.cE y ha.2.1) hs hφ
  ·rename_i n e hu;obtain⟨sz,hsz,he⟩:=Option.map_eq_some_iff.1 hc;cases he;exact OA ho hu hsz (h.cE x ha.1) (h.cE y ha.2.1) hs hφ
  ·cases hc
 ·rename_i t x y ho;split at hc;·rename_i hu;cases hc;exact Hj ho hu (h.cE x ha.1) (h.cE y ha.2.1) hs hφ
  ·cases hc
 ·rename_i t x lo hi ho;split at hc;·rename_i hu;cases hc;simp only[List.singleton_append,List.cons_append,List.nil_append,List.map_cons,aj]at ha hs;exact O8 ho hu h.cE (h.cE x ha.1) ha.2 hs hφ
  ·rename_i e hu;obtain⟨sz,hsz,he⟩:=Option.map_eq_some_iff.1 hc;cases he;simp only[List.singleton_append,List.cons_append,List.nil_append,List.map_cons,aj]at ha hs;exact OS ho hu hsz h.heap h.cE (h.cE x ha.1) ha.2 hs hφ
  ·cases hc
 ·rename_i x i ho;cases hc;exact Rl ho (h.cE x ha.1) hs hφ
 ·rename_i x ho;cases hc;exact N8 ho (h.cE x ha.1) hs hφ
 ·rename_i f first caps ho;split at hc
  ·rename_i hf;have hf':first=#[]:=by apply Array.ext';simpa using hf
   subst hf';cases hc;exact QT ho h.cE ha hs hφ
  ·cases hc
 ·rename_i c ho;obtain⟨callee,args,argTypes⟩:=c;unfold eX at hc;simp only at hc;split at hc
  ·rename_i b;unfold cw at hc;split at hc;·
    rename_i x t hx ht;have hx':args=#[x]:=by apply Array.ext';simpa using hx
    have ht':argTypes=#[t]:=by apply Array.ext';simpa using ht
    subst hx' ht';split at hc;·rename_i hu;cases hc;exact HU ho hu (h.cE x ha.1) hs hφ
    ·rename_i e hu;cases hc;exact Rj ho hu h.heap (h.cE x ha.1) hs hφ
    ·cases hc
   ·split at hc
    ·split at hc
     ·split at hc;·cases hc;simp[oH]at hk
      ·cases hc
     ·cases hc
    ·split at hc
     ·split at hc;·cases hc;simp[oH]at hk
      ·cases hc
     ·cases hc
    ·cases hc
   ·rename_i x y t t' hx ht;have hx':args=#[x,y]:=by apply Array.ext';simpa using hx
    have ht':argTypes=#[t,t']:=by apply Array.ext';simpa using ht
    subst hx' ht';cases hc;exact FM (mx:=false) ho (h.cE x ha.1) (h.cE y ha.2.1) hs
   ·rename_i x y t t' hx ht;have hx':args=#[x,y]:=by apply Array.ext';simpa using hx
    have ht':argTypes=#[t,t']:=by apply Array.ext';simpa using ht
    subst hx' ht';cases hc;exact FM (mx:=true) ho (h.cE x ha.1) (h.cE y ha.2.1) hs
   ·repeat'(split at hc)
    all_goals first|(cases hc;simp[oH]at hk;done)|cases hc
   ·cases hc
  ·split at hc;·cases hc;simp[oH]at hk
   ·cases hc
  ·cases hc;simp[oH]at hk
  ·cases hc
 ·cases hc
theorem az {K:Act→World→Prop}{Q:Exit→Act→World→Prop}{r:Value}{w':World} (hr:(execOp a.eval o).run P w=.ok (.value r) w') (hK:K (a.put o.dst r) w'):o.wp P a w K Q:=by unfold Oper.wp;rw[hr];exact hK
theorem fY {K:Act→World→Prop}{Q:Exit→Act→World→Prop}{w':World} (hr:(execOp a.eval o).run P w=.ok .skip w') (hK:K (a.put o.dst undef) w'):o.wp P a w K Q:=by unfold Oper.wp;rw[hr];exact hK
theorem cJ {K:Act→World→Prop}{Q:Exit→Act→World→Prop}{f:FuncId}{args:Array Value}{w':World} (hr:(execOp a.eval o).run P w=.ok (.enter f args) w') (hK:Calls P f args w' fun e w''=>∃v,e=.returned v∧K (a.put o.dst v) w''):o.wp P a w K Q:=by unfold Oper.wp;rw[hr];refine Calls.mono hK ?_;rintro e w'' ⟨v,rfl,h⟩;exact h
theorem ae {α:Type}{q:Option α}{K:α→Prop} (h:ag q K):∃x,q=some x∧K x:=by cases q with|none=>exact h.elim|some x=>exact⟨x,rfl,h⟩
theorem Be {x:Operand} (h:dP x=true):a.eval x=.slice none 0 0:=by
 unfold dP at h;split at h;·rfl
 ·cases h
theorem fT {f:FuncId}{args:Array Operand}{argTypes:Array TypeId} (ho:o.op=.call {callee:=.value (.func f),args:=args,argTypes:=argTypes}) (hf:fy P f=true):(execOp a.eval o).run P w=.ok (.enter f (args.map a.eval)) w:=by
 unfold fy at hf;split at hf
 ·rename_i fn hfn;simp only[Bool.and_eq_true,bne_iff_ne,ne_eq]at hf;have hn:=hf.1;have hb:¬fn.body=none:=fun e=>by rw[e]at hf;simp at hf
  simp[execOp,ho,resolve,Act.eval,Deferred.ofValue,invoke,callFunc,hfn,hn,hb]
 ·cases hf
theorem iB (h:Rel P S0 L B0 w0 N st a w β):∀(l:List Operand),aj (l.map (Ab.ev st.vars))→∀(i:Nat) (v:Value) (x:AV),(l.map a.eval)[i]?=some v→((l.map (Ab.ev st.vars)).map strip)[i]?=some x→RV P (aK S0 w0.heap.size β st.aa w) w β (aw st.aa) v x:=by intro l ha i v x hv hx;rw[List.getElem?_map,Option.map_eq_some_iff]at hv;obtain⟨z,hz,rfl⟩:=hv;simp only[List.getElem?_map,hz,Option.map_some,Option.some.injEq]at hx;subst hx;exact h.cE z (lP l i z ha hz)
theorem qE {Q:Exit→Act→World→Prop}{f:FuncId}{args:Array Operand}{argTypes:Array TypeId} (h:Rel P S0 L B0 w0 N st a w β) {d:Nat} (hd9:d%1000≠999) (ho:o.op=.call {callee:=.value (.func f),args:=args,argTypes:=argTypes}) (hf:fy P f=true) {ys:List AV}{r:AV} (ha:aj (args.toList.map (Ab.ev st.vars))) (hre:en st.aa ((args.toList.map (Ab.ev st.vars)).map strip)=some ys) (hcon:HR P f ys r) (hpf:dB ((args.toList.map (Ab.ev st.vars)).map strip)=true∨nm r) (hfree:∀x∈ie d r,st.aa x.1=none) (hres:uZ d r=true) {K:Act→World→Prop} (hK:∀v w' β',Rel P S0 L B0 w0 N ⟨st.vars,bd (ie d r) st.aa⟩ a w' β'→RV P (aK S0 w0.heap.size β' (bd (ie d r) st.aa) w') w' β' (aw (bd (ie d r) st.aa)) v (we d r)→K (a.put o.dst v) w'):o.wp P a w K Q:=by
 refine cJ (fT ho hf) ?_;have hv:args.map a.eval=(args.toList.map a.eval).toArray:=by apply Array.ext';simp
 rw[hv];refine(ju (a:=a) h hd9 (by simp) (iB h args.toList ha) hre hcon hpf hfree hres).mono ?_;rintro e w' ⟨v,β',rfl,hR,hrv⟩;exact⟨v,rfl,hK v w' β' hR hrv⟩
theorem wV (h:Rel P S0 L B0 w0 N st a w β) {c x y:Operand} (ho:o.op=.pick c x y) {φ:Prop}{v:AV} (hs:px [Ab.ev st.vars c,Ab.ev st.vars x,Ab.ev st.vars y]=some (φ,v)) (hφ:φ):∃r,(execOp a.eval o).run P w=.ok (.value r) w∧RV P (aK S0 w0.heap.size β st.aa w) w β (aw st.aa) r v:=by
 simp only[px,Option.bind_eq_some_iff,Option.map_eq_some_iff]at hs;obtain⟨b,hb,r,hs,hr⟩:=hs;cases hr;obtain⟨hca,hφ⟩:=hφ;obtain⟨φ,v⟩:=r;have hc:=(h.ev c).strip hca;have hX:=h.ev x;have hY:=h.ev y;generalize strip (Ab.ev st.vars c)=C at hb hc;have hce:a.eval c=.bool b:=by cases C with|pv p=>cases p<;>simp[gu]at hb;subst hb;exact hc.ei|_=>simp[gu]at hb
 unfold mG at hs;split at hs;·rename_i p q hp hq;simp only[Option.some.injEq,Prod.mk.injEq]at hs;obtain⟨rfl,rfl⟩:=hs;cases b with|true=>have hx:=hX.strip (hφ.1 rfl);rw[hp]at hx;exact⟨a.eval x,by simp[execOp,ho,hce,asBool],by simpa using hx⟩|false=>have hy:=hY.strip (hφ.2 rfl);rw[hq]at hy;exact⟨a.eval y,by simp[execOp,ho,hce,asBool],by simpa using hy⟩
 ·rename_i p hp _;simp only[Option.some.injEq,Prod.mk.injEq]at hs;obtain⟨rfl,rfl⟩:=hs;obtain⟨rfl,hφ⟩:=hφ;have hx:=hX.strip hφ;rw[hp]at hx;exact⟨a.eval x,by simp[execOp,ho,hce,asBool],hx⟩
 ·rename_i q hq _;simp only[Option.some.injEq,Prod.mk.injEq]at hs;obtain⟨rfl,rfl⟩:=hs;obtain⟨rfl,hφ⟩:=hφ;have hy:=hY.strip hφ;rw[hq]at hy;exact⟨a.eval y,by simp[execOp,ho,hce,asBool],hy⟩
 ·cases hs
theorem tF (hΓ:cR P Γ) {Q:Exit→Act→World→Prop} (h:Rel P S0 L B0 w0 N st a w β) (hc:ff P o=some (k,xs)) (hd:∀s,o.dst=some s→s<N) {C:bh→Prop} (hs:aL P Γ o.dst k (xs.map (Ab.ev st.vars)) st.aa C):o.wp P a w (fun a' w'=>∃e β',C e∧Rel P S0 L B0 w0 N (e.on o.dst st) a' w' β') Q:=by
 by_cases hq:oH k=true;·
  have hs':aj (xs.map (Ab.ev st.vars))∧ag (ai k ((xs.map (Ab.ev st.vars)).map strip) st.aa) fun x=>x.1∧C (.put x.2):=by cases k<;>first|exact hs|(simp[oH]at hq)
  obtain⟨ha,hw⟩:=hs';obtain⟨⟨φ,v⟩,he,hφ,hC⟩:=ae hw;obtain⟨r,hr,hv⟩:=B2 h hc hq ha he hφ;exact az hr ⟨_,β,hC,h.put hd hv⟩
 ·have hmov:∀x:Operand,k=.bf→xs=[x]→(execOp a.eval o).run P w=.ok (.value (a.eval x)) w→o.wp P a w (fun a' w'=>∃e β',C e∧Rel P S0 L B0 w0 N (e.on o.dst st) a' w' β') Q:=by rintro x rfl rfl hr;dsimp only[aL]at hs;obtain⟨y,hy,_,hC⟩:=ae hs;simp at hy;subst hy;exact az hr ⟨_,β,hC,h.put hd (h.ev x)⟩
  have hnil:∀(x:Operand) (e:TypeId),k=.cC e→(P.info? e).isSome=true→dP x=true→(execOp a.eval o).run P w=.ok (.value (a.eval x)) w→o.wp P a w (fun a' w'=>∃e β',C e∧Rel P S0 L B0 w0 N (e.on o.dst st) a' w' β') Q:=by rintro x e rfl hi hx hr;dsimp only[aL]at hs;obtain⟨d,hdd,_,hw⟩:=ae hs;obtain⟨⟨φ,v,ao⟩,he,hφ,hn,hC⟩:=ae hw;simp only[b7,Option.some.injEq,Prod.mk.injEq]at he;obtain⟨rfl,rfl,rfl⟩:=he;rw[Be hx]at hr;obtain⟨β',hR⟩:=PU h (hd d hdd) hn hi;refine az hr ⟨_,β',hC,?_⟩;rw[hdd];exact hR
  rcases cS hc with hc|⟨x,rfl,_⟩;rotate_left;·have hs:aj (xs.map (Ab.ev st.vars))∧ag (ai (.ex x) ((xs.map (Ab.ev st.vars)).map strip) st.aa) fun x=>x.1∧C (.put x.2):=hs;rw[zg (by simpa using hq)]at hs;exact hs.2.elim
  unfold eM at hc;split at hc
  ·rename_i x ho;have hr:(execOp a.eval o).run P w=.ok (.value (a.eval x)) w:=by simp[execOp,ho]
   split at hc
   ·rename_i hx;split at hc
    ·split at hc;·rename_i hi;cases hc;exact hnil x _ rfl hi hx hr
     ·cases hc
    ·cases hc
   ·cases hc;exact hmov x rfl rfl hr
  ·rename_i x ho;have hr:(execOp a.eval o).run P w=.ok (.value (a.eval x)) w:=by simp[execOp,ho]
   split at hc
   ·rename_i hx;split at hc
    ·split at hc;·rename_i hi;cases hc;exact hnil x _ rfl hi hx hr
     ·cases hc
    ·cases hc
   ·cases hc;exact hmov x rfl rfl hr
  ·rename_i c x y ho;cases hc;dsimp only[aL]at hs;obtain⟨⟨φ,v⟩,he,hφ,hC⟩:=ae hs;obtain⟨r,hr,hv⟩:=wV h ho he hφ;exact az hr ⟨_,β,hC,h.put hd hv⟩
  ·rename_i e ho;obtain⟨zs,hz,he⟩:=Option.map_eq_some_iff.1 hc;cases he;dsimp only[aL]at hs;obtain⟨d,hdd,_,hw⟩:=ae hs;obtain⟨⟨φ,v,ao⟩,he,hφ,hn,hC⟩:=ae hw;obtain⟨r,w',hr,β',hR⟩:=DB ho hz h (hd d hdd) hn he;refine az hr ⟨_,β',hC,?_⟩;rw[hdd];exact hR
  ·rename_i e x ho;cases hc;dsimp only[aL]at hs;obtain⟨d,hdd,ha,hw⟩:=ae hs;obtain⟨⟨φ,v,ao⟩,he,hφ,hn,hC⟩:=ae hw;obtain⟨r,w',hr,β',hR⟩:=Nm ho h (hd d hdd) hn (h.cE x ha.1) he;refine az hr ⟨_,β',hC,?_⟩;rw[hdd];exact hR
  ·split at hc
   ·split at hc;·cases hc
    ·obtain⟨l,hl,he⟩:=Option.map_eq_some_iff.1 hc;cases he;exact absurd rfl hq
   ·cases hc
  ·rename_i t n ps ho;split at hc
   ·rename_i e hu;split at hc
    ·rename_i sz zs hsz hz;split at hc;·rename_i hcond;obtain⟨_,hord,hbig,hzl,hpos⟩:=hcond;cases hc;dsimp only[aL]at hs;obtain⟨d,hdd,ha,hw⟩:=ae hs;obtain⟨⟨φ,v,ao⟩,he,hφ,hn,hC⟩:=ae hw;obtain⟨r,w',hr,β',hR⟩:=QG ho hu hsz hz hord hbig hzl hpos h (hd d hdd) hn h.cE ha he hφ;refine az hr ⟨_,β',hC,?_⟩;rw[hdd];exact hR
     ·cases hc
    ·cases hc
   ·cases hc
  ·obtain⟨n,hn,he⟩:=Option.map_eq_some_iff.1 hc;cases he;exact absurd rfl hq
  ·rename_i t x y ho;split at hc
   ·rename_i hn;split at hc;·rename_i h1;cases hc;obtain⟨ha,hw⟩:=hs;obtain⟨⟨φ,tg,ao⟩,he,hφ,hC⟩:=ae hw;obtain⟨w',hr,β',hR⟩:=Cn ho h1 h hd (h.cE x ha.1) (h.cE y ha.2.1) he hφ;exact fY hr ⟨_,β',hC,hR⟩
    ·cases hc
   ·rename_i n hn;cases hc;obtain⟨ha,hw⟩:=hs;obtain⟨⟨φ,tg,ao⟩,he,hφ,hC⟩:=ae hw;obtain⟨w',hr,β',hR⟩:=Bt ho hn h hd (h.cE x ha.1) (h.cE y ha.2.1) he hφ;exact fY hr ⟨_,β',hC,hR⟩
   ·cases hc
  ·split at hc;·split at hc<;>first|(cases hc;exact absurd rfl hq)|cases hc
   ·cases hc;exact absurd rfl hq
   ·cases hc;exact absurd rfl hq
   ·split at hc
    ·split at hc;·split at hc<;>first|(cases hc;exact absurd rfl hq)|cases hc
     ·cases hc
    ·cases hc
   ·cases hc
  ·cases hc;exact absurd rfl hq
  ·cases hc;exact absurd rfl hq
  ·split at hc;·cases hc;exact absurd rfl hq
   ·cases hc;exact absurd rfl hq
   ·split at hc;·cases hc;exact absurd rfl hq
    ·cases hc
   ·split at hc;·cases hc;exact hs.2.elim
    ·cases hc
   ·cases hc
  ·split at hc
   ·split at hc
    ·split at hc;·cases hc;exact absurd rfl hq
     ·cases hc
    ·cases hc
   ·cases hc
  ·split at hc
   ·split at hc;·obtain⟨n,hn,he⟩:=Option.map_eq_some_iff.1 hc;cases he;exact absurd rfl hq
    ·cases hc
   ·cases hc
  ·split at hc;·obtain⟨n,hn,he⟩:=Option.map_eq_some_iff.1 hc;cases he;exact absurd rfl hq
   ·obtain⟨n,hn,he⟩:=Option.map_eq_some_iff.1 hc;cases he;exact absurd rfl hq
   ·cases hc
  ·split at hc;·cases hc;exact absurd rfl hq
   ·cases hc
  ·split at hc;·cases hc;exact absurd rfl hq
   ·obtain⟨n,hn,he⟩:=Option.map_eq_some_iff.1 hc;cases he;exact absurd rfl hq
   ·cases hc
  ·cases hc;exact absurd rfl hq
  ·cases hc;exact absurd rfl hq
  ·split at hc;·cases hc;exact absurd rfl hq
   ·cases hc
  ·rename_i c ho;obtain⟨callee,args,argTypes⟩:=c;unfold eX at hc;simp only at hc;split at hc
   ·rename_i b;unfold cw at hc;split at hc;·split at hc<;>first|(cases hc;exact absurd rfl hq)|cases hc
    ·rename_i x y t tx hx ht;have hx':args=#[x,y]:=by apply Array.ext';simpa using hx
     have ht':argTypes=#[t,tx]:=by apply Array.ext';simpa using ht
     subst hx' ht';have happ:∀(e:TypeId) (inf:TypeInfo),P.underlying t=some (.slice e)→((∃e',P.underlying tx=some (.slice e'))∨P.underlying tx=some .string)→P.info? e=some inf→0<inf.size→(db P e).isSome=true→aL P Γ o.dst (.app e inf.size inf.bytes) ([x,y].map (Ab.ev st.vars)) st.aa C→o.wp P a w (fun a' w'=>∃e β',C e∧Rel P S0 L B0 w0 N (e.on o.dst st) a' w' β') Q:=by
      intro e inf hu hux hi hpos hzt hs;obtain⟨ha,hw⟩:=hs;split at hw;·obtain⟨⟨φ,tg,ao⟩,he,hφ,hC⟩:=ae hw;obtain⟨r,w',hr,β',hR⟩:=Q9 ho hu hux hi hpos hzt h hd (h.cE x ha.1) (h.cE y ha.2.1) he hφ;exact az hr ⟨_,β',hC,hR⟩
      ·obtain⟨d,hdd,hw⟩:=ae hw;obtain⟨⟨φ,v,ao⟩,he,hφ,hn,hC⟩:=ae hw;obtain⟨r,w',hr,β',hR⟩:=P9 ho hu hux hi hpos hzt h (hd d hdd) hn (h.cE x ha.1) (h.cE y ha.2.1) he hφ;refine az hr ⟨_,β',hC,?_⟩;rw[hdd];exact hR
     split at hc
     ·rename_i e hu hux;split at hc
      ·rename_i inf hi;split at hc;·rename_i hcond;cases hc;exact happ e inf hu (.inr hux) hi (by omega) hcond.2 hs
       ·cases hc
      ·cases hc
     ·rename_i e e' hu hux;split at hc
      ·rename_i inf hi;split at hc;·rename_i hcond;cases hc;exact happ e inf hu (.inl ⟨e',hux⟩) hi hcond.1 hcond.2 hs
       ·cases hc
      ·cases hc
     ·cases hc
    ·cases hc;exact absurd rfl hq
    ·cases hc;exact absurd rfl hq
    ·repeat'(split at hc)
     all_goals first|(cases hc;exact hs.2.elim)|cases hc
    ·cases hc
   ·rename_i f;split at hc
    ·rename_i hf;cases hc;dsimp only[aL]at hs;dsimp only[bX]at hs;obtain⟨d,hdd,ha,hw⟩:=ae hs;obtain⟨ys,hys,hw⟩:=ae hw;obtain⟨⟨φ,r⟩,hr,hφ,hpf,hfree,hres,hC⟩:=ae hw;have hcon:=hΓ.T7 (fx hf) hr hφ;have hdlt:d<N:=hd d hdd;have hlim:=h.oE;have hd9:d%1000≠999:=by omega
     refine qE h hd9 ho hf ha hys hcon hpf hfree hres ?_;intro v w' β' hR hv;refine⟨_,β',hC,?_⟩;exact hR.put hd hv
    ·cases hc
   ·cases hc;exact hs.2.elim
   ·cases hc
  ·cases hc
end
def Core (P:Program) (N:Nat) (ops:Array Oper) (o:Oper) (i:AI):Prop:=ff P o=some (i.k,i.xs)∧i.d=o.dst∧(∀d,i.d=some d→d<N)∧((o.guard=none∧i.g=none)∨∃j want s,o.guard=some (j,want)∧(ops[j]?).bind (·.dst)=some s∧i.g=some (s,want))
theorem wR {P:Program}{N:Nat}{ops:Array Oper}{o:Oper}{i:AI} (h:Cb P N ops o=some i):Core P N ops o i:=by unfold Cb at h;cases hk:ff P o with|none=>rw[hk]at h;simp at h|some kx=>
 obtain⟨k,xs⟩:=kx;rw[hk]at h;dsimp only at h;have key:∀b:Bool,(∀d,o.dst=some d→b=true→d<N)→(if(!b)=true then none else match o.guard with|none=>some (⟨o.dst,k,xs,none,[],none⟩:AI)|some (j,want)=>match(ops[j]?).bind (·.dst) with|some s=>some ⟨o.dst,k,xs,some (s,want),[],none⟩|none=>none)=some i→Core P N ops o i:=by intro b hb h;cases b with|false=>simp at h|true=>simp only[Bool.not_true,Bool.false_eq_true,if_false]at h;cases hg:o.guard with|none=>rw[hg]at h;simp only[Option.some.injEq]at h;subst h;exact⟨hk,rfl,fun d e=>hb d e rfl,.inl ⟨hg,rfl⟩⟩|some jw=>obtain⟨j,want⟩:=jw;rw[hg]at h;dsimp only at h;cases hs:(ops[j]?).bind (·.dst) with|none=>rw[hs]at h;cases h|some s=>rw[hs]at h;simp only[Option.some.injEq]at h;subst h;exact⟨hk,rfl,fun d e=>hb d e rfl,.inr ⟨j,want,s,hg,hs,rfl⟩⟩
 refine key _ ?_ h;intro d hd hb;rw[hd]at hb;simp at hb;exact hb.1
theorem dm {P:Program}{ops:Array Oper}{o:Oper}{a:Act} (h:o.guard=none):Region.wanted o (yielded ops a.tmps)=true:=by unfold Region.wanted;rw[h]
def Hp:Value→Option Bool|.bool b=>some b|_=>none
theorem lO {P:Program}{w:World}{β:Nat→Value}{S:Nat→Prop}{D:Nat→Prop}{want:Bool}:∀{v:AV}{u:Value}{c:Bool},RV P S w β D u v→bj v want=some c→(Hp u==some want)=c
 |.pv p,u,c,hu,h=>by cases p with|bool b=>rw[hu.ei];simp only[bj,Option.some.injEq]at h;subst h;cases want<;>cases b<;>rfl|_=>simp[bj]at h
 |.bL g v,u,c,hu,h=>by cases hu with|bL _ _ _ h1 h2=>cases g with|false=>rw[h2 rfl];simp only[bj,qi,Option.some.injEq]at h;subst h;rfl|true=>exact lO (v:=v) (h1 rfl) (by simpa[bj,qi]using h)
 |.own _,_,_,_,h|.ptr _ _,_,_,_,h|.aI _ _ _ _,_,_,_,h|.sub _ _ _ _,_,_,_,h|.rp _,_,_,_,h|.agg _,_,_,_,h|.aC _,_,_,_,h|.bk _ _,_,_,_,h|.fr _ _,_,_,_,h|.al,_,_,_,h=>by simp[bj]at h
theorem cG {P:Program}{w:World}{β:Nat→Value}{S:Nat→Prop}{D:Nat→Prop}{ops:Array Oper}{o:Oper}{a:Act}{j:Nat}{want:Bool}{s:Nat}{v:AV}{c:Bool} (h:o.guard=some (j,want)) (hs:(ops[j]?).bind (·.dst)=some s) (hv:RV P S w β D (a.tmps.getD s undef) v) (hc:bj v want=some c):Region.wanted o (yielded ops a.tmps)=c:=by rw[←lO hv hc];unfold Region.wanted;rw[h];simp only[yielded,hs,Option.bind_some];rw[Array.getD_eq_getD_getElem?];cases a.tmps[s]? with|none=>rfl|some v=>cases v<;>rfl
def Bm (g:Nat→AV→AV):Prop:=∀p c,(∀e rows,c≠.fr e rows)→g p c=c
theorem sL (d i:Nat):Bm fun p c=>jE d (p+i) c:=by intro p c hc;cases c<;>first|rfl|exact absurd rfl (hc _ _)
theorem pN {g:Nat→AV→AV} (hg:Bm g):∀(cs:List AV) (j:Nat),eT j cs=[]→fw g j cs=cs
 |[],_,_=>rfl|c::cs,j,h=>by
  have hc:∀e rows,c≠.fr e rows:=by rintro e rows rfl;simp[eT]at h
  have h':eT (j+1) cs=[]:=by cases c<;>first|exact h|exact absurd rfl (hc _ _)
  simp only[fw];rw[hg _ _ hc,pN hg cs (j+1) h']
theorem sk {g:Nat→AV→AV} (hg:Bm g) {v:AV} (h:jk v=[]):kD g v=v:=by
 have hv:∀e rows,v≠.fr e rows:=by rintro e rows rfl;simp[jk]at h
 cases v<;>first|exact congrArg AV.agg (pN hg _ _ h)|exact hg _ _ hv
theorem pE {d:Nat}:∀(vs:List AV) (i:Nat),jW i vs=[]→fW (jE d) i vs=vs|[],_,_=>rfl|v::vs,i,h=>by simp only[jW,List.append_eq_nil_iff,List.map_eq_nil_iff]at h;simp only[fW];rw[sk (sL d i) h.1,pE vs (i+1) h.2]
theorem nE {d:Nat}{r:AV} (h:wg r=[]):cq (jE d) r=r:=by
 have hr:(∃vs,r=.aC vs)∨(wg r=jk r∧cq (jE d) r=kD (fun p c=>jE d (p+0) c) r):=by cases r<;>first|exact .inl ⟨_,rfl⟩|exact .inr ⟨rfl,rfl⟩
 rcases hr with⟨vs,rfl⟩|⟨h1,h2⟩;·exact congrArg AV.aC (pE _ _ h)
 ·rw[h2];exact sk (sL d 0) (h1▸h)
theorem Az {ys:List AV}{aa:Nat→Option AO}:ai .fE ys aa=none:=by unfold ai;split<;>first|rfl|simp_all
theorem Ck {e:TypeId}{sz:Nat}{zs:List Value}{ys:List AV}{aa:Nat→Option AO}:ai (.ze e sz zs) ys aa=none:=by unfold ai;split<;>first|rfl|simp_all
theorem Ai {e:TypeId}{ys:List AV}{aa:Nat→Option AO}:ai (.ve e) ys aa=none:=by unfold ai;split<;>first|rfl|simp_all
theorem m7 {P:Program}{b:Builtin}{ys xs:List Operand}{ts:List TypeId}{f:FuncId} (hc:cw P b ys ts=some (.call f,xs)):False:=by
 unfold cw at hc;repeat'(split at hc)
 all_goals(simp at hc)
theorem jL {P:Program}{o:Oper}{f:FuncId}{xs:List Operand} (hc:ff P o=some (.call f,xs)):∃args argTypes,o.op=.call {callee:=.value (.func f),args:=args,argTypes:=argTypes}∧fy P f=true∧xs=args.toList:=by
 rcases cS hc with hc|⟨x,h0,_⟩;rotate_left;·cases h0
 unfold eM at hc;split at hc;case h_22=>
  rename_i cl ho;obtain⟨callee,args,argTypes⟩:=cl;unfold eX at hc;simp only at hc;split at hc;·exact(m7 hc).elim
  ·split at hc;·rename_i hf;simp only[Option.some.injEq,Prod.mk.injEq,AK.call.injEq]at hc;obtain⟨rfl,hx⟩:=hc;exact⟨args,argTypes,ho,hf,hx.symm⟩
   ·cases hc
  ·simp at hc
  ·cases hc
 all_goals
  exfalso;repeat'(split at hc)
  all_goals(simp at hc)
section
variable{P:Program}{Γ:bp}{S0 L:Nat→Prop}{B0:Nat→Value}{w0 w:World}{N:Nat}{st:St}{a:Act}{β:Nat→Value}{o:Oper}{k:AK}{xs:List Operand}
theorem Rel.zp (h:Rel P S0 L B0 w0 N st a w β) {vars:Nat→AV} (hv:∀s v,RV P (aK S0 w0.heap.size β st.aa w) w β (aw st.aa) v (st.vars s)→RV P (aK S0 w0.heap.size β st.aa w) w β (aw st.aa) v (vars s)):Rel P S0 L B0 w0 N ⟨vars,st.aa⟩ a w β:=⟨h.size,h.defers,fun s=>hv s _ (h.vars s),h.heap,h.old,h.oE,h.rG,h.bJ⟩
theorem wY {S:Nat→Prop}{D:Nat→Prop} (xs:List AV):RV P S w β D undef (zh xs):=by unfold zh;cases rowsOf (xs.map strip) with|none=>exact .al _|some rows=>exact .bL _ _ _ (fun e=>by cases e) fun _=>rfl
theorem Rel.Bu {d:Option Nat}{c:Bool}{v:AV} (hc:c=true) (h:Rel P S0 L B0 w0 N ((bh.put v).on d st) a w β):Rel P S0 L B0 w0 N ((bh.put (.bL c v)).on d st) a w β:=by refine h.zp (vars:=Ab.put d (.bL c v) st.vars) fun s u hu=>?_;cases d with|none=>exact hu|some d=>
 by_cases hs:s=d;·subst hs;simp only[bh.on,Ab.put,if_true]at hu ⊢;exact .bL c _ _ (fun _=>hu) (fun e=>by rw[hc]at e;cases e)
 ·simpa[bh.on,Ab.put,hs]using hu
theorem Rel.eB {d:Option Nat}{v:AV} (hd:∀s,d=some s→s<N) (h:Rel P S0 L B0 w0 N st a w β) (hv:RV P (aK S0 w0.heap.size β st.aa w) w β (aw st.aa) undef v):Rel P S0 L B0 w0 N ((bh.put v).on d st) (a.put d undef) w β:=h.put hd hv
theorem G7 (hΓ:cR P Γ) {Q:Exit→Act→World→Prop}{ops:Array Oper}{i:AI} (h:Rel P S0 L B0 w0 N st a w β) (hi:Core P N ops o i) {C:bh→Prop} (hs:cP P Γ i st.vars st.aa C):if Region.wanted o (yielded ops a.tmps) then o.wp P a w (fun a' w'=>∃e β',C e∧Rel P S0 L B0 w0 N (e.on i.d st) a' w' β') Q else∃e β',C e∧Rel P S0 L B0 w0 N (e.on i.d st) (a.put o.dst undef) w β':=by
 obtain⟨hc,hd,hdN,hg⟩:=hi;have hdN':∀s,o.dst=some s→s<N:=fun s e=>hdN s (hd.trans e);rcases hg with⟨hg,hig⟩|⟨j,want,s,hg,hj,hig⟩;·rw[dm (P:=P) hg];simp only[if_true];unfold cP at hs;rw[hig]at hs;rw[hd]at hs ⊢;exact tF hΓ h hc hdN' hs
 ·unfold cP at hs;rw[hig]at hs;obtain⟨c,hcg,hs⟩:=ae hs;rw[cG hg hj (h.vars s) hcg];rw[hd]at hs ⊢;have hreg:∀(g:bh→bh),(∀e,∀{a' w' β'},Rel P S0 L B0 w0 N (e.on o.dst st) a' w' β'→Rel P S0 L B0 w0 N ((g e).on o.dst st) a' w' β')→aL P Γ o.dst i.k (i.xs.map (Ab.ev st.vars)) st.aa (fun e=>C (g e))→o.wp P a w (fun a' w'=>∃e β',C e∧Rel P S0 L B0 w0 N (e.on o.dst st) a' w' β') Q:=by intro g hgr hk;refine Oper.wp_mono ?_ (tF hΓ h hc hdN' hk);rintro a' w' ⟨e,β',hC,hR⟩;exact⟨g e,β',hC,hgr e hR⟩
  have hq:oH i.k=true→(ag (ai i.k ((i.xs.map (Ab.ev st.vars)).map strip) st.aa) fun x=>(c=true→aj (i.xs.map (Ab.ev st.vars))∧x.1)∧C (.put (.bL c x.2)))→if c=true then o.wp P a w (fun a' w'=>∃e β',C e∧Rel P S0 L B0 w0 N (e.on o.dst st) a' w' β') Q else∃e β',C e∧Rel P S0 L B0 w0 N (e.on o.dst st) (a.put o.dst undef) w β':=by intro hk hw;obtain⟨⟨φ,v⟩,he,hφ,hC⟩:=ae hw;cases c with|true=>obtain⟨r,hr,hv⟩:=B2 h hc hk (hφ rfl).1 he (hφ rfl).2;exact az hr ⟨_,β,hC,h.put hdN' (.bL _ _ _ (fun _=>hv) fun e=>by cases e)⟩|false=>exact⟨_,β,hC,h.eB hdN' (.bL _ _ _ (fun e=>by cases e) fun _=>rfl)⟩
  have hmk:∀{v:AV},RV P (aK S0 w0.heap.size β st.aa w) w β (aw st.aa) undef v→(c=true→aL P Γ o.dst i.k (i.xs.map (Ab.ev st.vars)) st.aa C)∧(c=false→C (.put v))→if c=true then o.wp P a w (fun a' w'=>∃e β',C e∧Rel P S0 L B0 w0 N (e.on o.dst st) a' w' β') Q else∃e β',C e∧Rel P S0 L B0 w0 N (e.on o.dst st) (a.put o.dst undef) w β':=by rintro v hv ⟨ht,hf⟩;cases c with|true=>exact hreg id (fun _ _ _ _ hR=>hR) (ht rfl)|false=>exact⟨_,β,hf rfl,h.eB hdN' hv⟩
  generalize hik:i.k=k at hc hs hreg hq hmk;cases k with
  |bf=>dsimp only[bO]at hs;obtain⟨x,hx,hl,hC⟩:=ae hs;cases c with
   |true=>
    refine hreg (fun e=>match e with|.put v=>.put (.bL true v)|e=>e) ?_ ?_;·intro e a' w' β' hR;cases e<;>first|exact hR.Bu rfl|exact hR
    ·dsimp only[aL];rw[hx];exact⟨hl,hC⟩|false=>exact⟨_,β,hC,h.eB hdN' (.bL _ _ _ (fun e=>by cases e) fun _=>rfl)⟩
  |pick=>dsimp only[bO]at hs;obtain⟨x,hx,hl,hC⟩:=ae hs;cases c with
   |true=>
    refine hreg (fun e=>match e with|.put v=>.put (.bL true v)|e=>e) ?_ ?_;·intro e a' w' β' hR;cases e<;>first|exact hR.Bu rfl|exact hR
    ·dsimp only[aL];rw[hx];exact⟨hl rfl,hC⟩|false=>exact⟨_,β,hC,h.eB hdN' (.bL _ _ _ (fun e=>by cases e) fun _=>rfl)⟩
  |cC e=>exact hmk (.al _) hs|box=>exact hmk (.al _) hs|alloc zs=>exact hmk (.al _) hs|gF e sz=>exact hmk (wY _) hs|store n=>exact hmk (.al _) hs|app e sz bytes=>exact hmk (.al _) hs|call f=>
   dsimp only[bO]at hs;obtain⟨ys,hys,hs⟩:=ae hs;obtain⟨⟨φ,r⟩,hr,hs⟩:=ae hs;split at hs;rotate_left;·exact hmk (.bL _ _ _ (fun e=>by cases e) fun _=>rfl) hs
   obtain⟨hcon,hfl,hfr,hres,hC⟩:=hs;cases c with|true=>
    have hcall:=jL hc;obtain⟨args,argTypes,ho,hf,hx⟩:=hcall;rw[hx]at hys hcon;have htr:=yM hfl;have hnil:∀d,ie d r=[]:=fun d=>by rw[qp htr];unfold aB;rw[hfr];rfl
    refine qE (d:=0) h (by omega) ho hf (hcon rfl).1 hys (hΓ.T7 (fx hf) hr (hcon rfl).2) (.inr (by rw[nL htr];exact hfl)) (by rw[hnil];intro x hx;cases hx) (by rw[qg htr];exact hres) ?_;intro v w' β' hR hv;rw[hnil]at hR hv;rw[qd htr,nE hfr]at hv;exact⟨_,β',hC,hR.put hdN' (.bL _ _ _ (fun _=>hv) fun e=>by cases e)⟩|false=>exact⟨_,β,hC,h.eB hdN' (.bL _ _ _ (fun e=>by cases e) fun _=>rfl)⟩
  |fE=>have hs:ag (ai .fE ((i.xs.map (Ab.ev st.vars)).map strip) st.aa) fun x=>(c=true→aj (i.xs.map (Ab.ev st.vars))∧x.1)∧C (.put (.bL c x.2)):=hs;rw[Az]at hs;exact hs.elim|qq=>exact hq rfl hs|zB mx=>exact hq rfl hs|eqs ne ks=>exact hq rfl hs|ve e=>have hs:ag (ai (.ve e) ((i.xs.map (Ab.ev st.vars)).map strip) st.aa) fun x=>(c=true→aj (i.xs.map (Ab.ev st.vars))∧x.1)∧C (.put (.bL c x.2)):=hs;rw[Ai]at hs;exact hs.elim|ex x=>
   have hs:ag (ai (.ex x) ((i.xs.map (Ab.ev st.vars)).map strip) st.aa) fun x=>(c=true→aj (i.xs.map (Ab.ev st.vars))∧x.1)∧C (.put (.bL c x.2)):=hs;by_cases hq':oH (.ex x)=true;·exact hq hq' hs
   ·rw[zg (by simpa using hq')]at hs;exact hs.elim|ze e sz zs=>have hs:ag (ai (.ze e sz zs) ((i.xs.map (Ab.ev st.vars)).map strip) st.aa) fun x=>(c=true→aj (i.xs.map (Ab.ev st.vars))∧x.1)∧C (.put (.bL c x.2)):=hs;rw[Ck]at hs;exact hs.elim|_=>exact hq rfl hs
end
theorem mZ {P:Program}{Γ:bp}{d:Option Nat}{k:AK}{xs:List AV}{aa:Nat→Option AO}{C:bh→Prop} (hs:aL P Γ d k xs aa C):∃e,C e∧aL P Γ d k xs aa fun e'=>e'=e:=by cases k with
 |bf=>dsimp only[aL]at hs ⊢;obtain⟨x,hx,hl,hC⟩:=ae hs;exact⟨_,hC,by rw[hx];exact⟨hl,rfl⟩⟩|pick=>dsimp only[aL]at hs ⊢;obtain⟨x,hx,hl,hC⟩:=ae hs;exact⟨_,hC,by rw[hx];exact⟨hl,rfl⟩⟩|cC e=>dsimp only[aL]at hs ⊢;obtain⟨d,hd,ha,hw⟩:=ae hs;obtain⟨x,hx,hl,hn,hC⟩:=ae hw;exact⟨_,hC,by rw[hd];exact⟨ha,by rw[hx];exact⟨hl,hn,rfl⟩⟩⟩|box=>dsimp only[aL]at hs ⊢;obtain⟨d,hd,ha,hw⟩:=ae hs;obtain⟨x,hx,hl,hn,hC⟩:=ae hw;exact⟨_,hC,by rw[hd];exact⟨ha,by rw[hx];exact⟨hl,hn,rfl⟩⟩⟩|alloc zs=>dsimp only[aL]at hs ⊢;obtain⟨d,hd,ha,hw⟩:=ae hs;obtain⟨x,hx,hl,hn,hC⟩:=ae hw;exact⟨_,hC,by rw[hd];exact⟨ha,by rw[hx];exact⟨hl,hn,rfl⟩⟩⟩|gF e sz=>dsimp only[aL]at hs ⊢;obtain⟨d,hd,ha,hw⟩:=ae hs;obtain⟨x,hx,hl,hn,hC⟩:=ae hw;exact⟨_,hC,by rw[hd];exact⟨ha,by rw[hx];exact⟨hl,hn,rfl⟩⟩⟩|store n=>dsimp only[aL]at hs ⊢;obtain⟨ha,hw⟩:=hs;obtain⟨x,hx,hl,hC⟩:=ae hw;exact⟨_,hC,ha,by rw[hx];exact⟨hl,rfl⟩⟩|app e sz bytes=>
  dsimp only[aL]at hs ⊢;obtain⟨ha,hw⟩:=hs;by_cases ho:my (xs.map strip)=true;·rw[if_pos ho]at hw;obtain⟨x,hx,hl,hC⟩:=ae hw;exact⟨_,hC,ha,by rw[if_pos ho,hx];exact⟨hl,rfl⟩⟩
  ·rw[if_neg ho]at hw;obtain⟨d,hd,hw⟩:=ae hw;obtain⟨x,hx,hl,hn,hC⟩:=ae hw;exact⟨_,hC,ha,by rw[if_neg ho,hd];show ag (b7 _ d _ _) _;rw[hx];exact⟨hl,hn,rfl⟩⟩|call f=>dsimp only[aL,bX]at hs ⊢;obtain⟨d,hd,ha,hw⟩:=ae hs;obtain⟨ys,hys,hw⟩:=ae hw;obtain⟨⟨φ,r⟩,hr,h1,h2,h3,h4,hC⟩:=ae hw;exact⟨_,hC,by rw[hd];exact⟨ha,by rw[hys];show ag (gt Γ f ys) _;rw[hr];exact⟨h1,h2,h3,h4,rfl⟩⟩⟩|_=>obtain⟨ha,hw⟩:=hs;obtain⟨x,hx,hl,hC⟩:=ae hw;exact⟨_,hC,ha,by rw[hx];exact⟨hl,rfl⟩⟩
theorem rS {P:Program}{Γ:bp}{c:Bool}{d:Option Nat}{k:AK}{xs:List AV}{aa:Nat→Option AO}{C:bh→Prop} (hs:bO P Γ c d k xs aa C):∃e,C e∧bO P Γ c d k xs aa fun e'=>e'=e:=by
 have hmk:∀{v:AV},((c=true→aL P Γ d k xs aa C)∧(c=false→C (.put v)))→∃e,C e∧((c=true→aL P Γ d k xs aa fun e'=>e'=e)∧(c=false→bh.put v=e)):=by rintro v ⟨ht,hf⟩;cases c with|true=>obtain⟨e,he,hs⟩:=mZ (ht rfl);exact⟨e,he,fun _=>hs,fun h=>by cases h⟩|false=>exact⟨_,hf rfl,fun h=>(by cases h),fun _=>rfl⟩
 cases k with|bf=>dsimp only[bO]at hs ⊢;obtain⟨x,hx,hl,hC⟩:=ae hs;exact⟨_,hC,by rw[hx];exact⟨hl,rfl⟩⟩|pick=>dsimp only[bO]at hs ⊢;obtain⟨x,hx,hl,hC⟩:=ae hs;exact⟨_,hC,by rw[hx];exact⟨hl,rfl⟩⟩|cC e=>exact hmk hs|box=>exact hmk hs|alloc zs=>exact hmk hs|gF e sz=>exact hmk hs|store n=>exact hmk hs|app e sz bytes=>exact hmk hs|call f=>
  dsimp only[bO]at hs ⊢;obtain⟨ys,hys,hs⟩:=ae hs;obtain⟨⟨φ,r⟩,hr,hs⟩:=ae hs;split at hs;·rename_i hif;obtain⟨h1,h2,h3,h4,hC⟩:=hs;exact⟨_,hC,by rw[hys];show ag (gt Γ f ys) _;rw[hr];show ite _ _ _;rw[if_pos hif];exact⟨h1,h2,h3,h4,rfl⟩⟩
  ·rename_i hif;obtain⟨e,he,hs⟩:=hmk hs;exact⟨e,he,by rw[hys];show ag (gt Γ f ys) _;rw[hr];show ite _ _ _;rw[if_neg hif];exact hs⟩|_=>dsimp only[bO]at hs ⊢;obtain⟨x,hx,hl,hC⟩:=ae hs;exact⟨_,hC,by rw[hx];exact⟨hl,rfl⟩⟩
theorem zX {P:Program}{Γ:bp}{i:AI}{vars:Nat→AV}{aa:Nat→Option AO}{C:bh→Prop} (hs:cP P Γ i vars aa C):∃e,C e∧cP P Γ i vars aa fun e'=>e'=e:=by unfold cP at hs ⊢;cases hg:i.g with|none=>rw[hg]at hs;exact mZ hs|some sw=>obtain⟨s,w⟩:=sw;rw[hg]at hs;dsimp only at hs ⊢;obtain⟨c,hc,hs⟩:=ae hs;obtain⟨e,he,hs⟩:=rS hs;exact⟨e,he,by rw[hc];exact hs⟩
theorem yB (v:AV):(∃f cs,v=.bk f cs)∨((∀aa,lR aa v=dN aa v)∧∀T aa,nv T aa v=lL T aa v):=by cases v<;>first|exact .inl ⟨_,_,rfl⟩|exact .inr ⟨fun _=>rfl,fun _ _=>rfl⟩
theorem A5 (v:AV):(∃t o,v=.ptr t o)∨(∃cs,v=.agg cs)∨∀T aa,lL T aa v=rl T v:=by cases v<;>first|exact .inl ⟨_,_,rfl⟩|exact .inr (.inl ⟨_,rfl⟩)|exact .inr (.inr fun _ _=>rfl)
theorem RL (v:AV):((∃t,v=.own t)∨∃t e lo hi,v=.sub t e lo hi)∨∀aa objs',dD aa v=dD objs' v:=by cases v<;>first|exact .inl (.inl ⟨_,rfl⟩)|exact .inl (.inr ⟨_,_,_,_,rfl⟩)|exact .inr fun _ _=>rfl|(rename_i p;exact .inr fun _ _=>by cases p<;>rfl)
section
variable{T:List Nat}{aa objs':Nat→Option AO} (hag:∀t,iC T t→aa t=objs' t)
include hag
theorem lK {v:AV} (h:rl T v):dD aa v=dD objs' v:=by
 rcases RL v with(⟨t,rfl⟩|⟨t,e,lo,hi,rfl⟩)|hv;·simp only[dD];rw[hag t h]
 ·simp only[dD];rw[hag t h]
 ·exact hv _ _
theorem jU:∀{cs:List AV},fk T cs→gG aa cs=gG objs' cs|[],_=>rfl|c::cs,h=>by simp only[gG];rw[lK hag h.1,jU h.2]
omit hag in theorem pn:∀{cs:List AV} (n:Nat),fk T cs→fk T (cs.drop n)|[],n,_=>by simp[fk]|c::cs,0,h=>h|c::cs,n+1,h=>pn n h.2
theorem qN {v:AV} (h:lL T aa v):dN aa v=dN objs' v:=by cases v with
 |ptr t o=>obtain⟨h1,h2⟩:=h;simp only[dN];rw[←hag t h1];cases hb:dJ (aa t) with|none=>rfl|some cs=>rw[hb]at h2;simp only[Option.getD_some]at h2;simp only[Option.bind_some];rw[jU hag (pn o h2)]
 |agg cs=>simp only[dN];rw[jU hag h]|bk f cs=>cases cs<;>rfl|rp cs=>rfl|pv p=>cases p<;>rfl|own t=>exact congrArg (Option.map AV.pv) (lK hag (v:=.own t) h)|aI t e i o=>rfl|sub t e lo hi=>exact congrArg (Option.map AV.pv) (lK hag (v:=.sub t e lo hi) h)|aC vs=>rfl|fr e rows=>rfl|bx cs=>rfl|mf es=>rfl|bL g v=>rfl|al=>rfl
theorem nO:∀{cs:List AV},jh T aa cs→ji aa cs=ji objs' cs|[],_=>rfl|c::cs,h=>by simp only[ji];rw[qN hag h.1,nO h.2]
theorem Ak {v:AV} (h:nv T aa v):lR aa v=lR objs' v:=by
 rcases yB v with⟨f,cs,rfl⟩|⟨h1,h2⟩;·exact congrArg (Option.map (AV.bk f)) (nO hag h)
 ·rw[h1,h1];rw[h2]at h;exact qN hag h
theorem lu:∀{cs:List AV},gZ T aa cs→en aa cs=en objs' cs|[],_=>rfl|c::cs,h=>by simp only[en];rw[Ak hag h.1,lu h.2]
theorem qz {v:AV} (h:lL T aa v):lL T objs' v:=by
 rcases A5 v with⟨t,o,rfl⟩|⟨cs,rfl⟩|h2;·exact⟨h.1,by rw[←hag t h.1];exact h.2⟩
 ·exact h
 ·rw[h2]at h ⊢;exact h
theorem nQ:∀{cs:List AV},jh T aa cs→jh T objs' cs|[],_=>trivial|c::cs,h=>⟨qz hag h.1,nQ h.2⟩
theorem zq {v:AV} (h:nv T aa v):nv T objs' v:=by
 rcases yB v with⟨f,cs,rfl⟩|⟨h1,h2⟩;·exact nQ hag h
 ·rw[h2]at h ⊢;exact qz hag h
theorem fS:∀{cs:List AV},gZ T aa cs→gZ T objs' cs|[],_=>trivial|c::cs,h=>⟨zq hag h.1,fS h.2⟩
end
section
variable{T U:List Nat}{aa:Nat→Option AO} (hsub:∀t,iC U t→iC T t)
include hsub
theorem vS {v:AV} (h:rl U v):rl T v:=by cases v<;>first|trivial|exact hsub _ h
theorem mT:∀{cs:List AV},fk U cs→fk T cs|[],_=>trivial|c::cs,h=>⟨vS hsub h.1,mT h.2⟩
theorem qf {v:AV} (h:lL U aa v):lL T aa v:=by
 rcases A5 v with⟨t,o,rfl⟩|⟨cs,rfl⟩|h2;·exact⟨hsub _ h.1,mT hsub h.2⟩
 ·exact mT hsub h
 ·rw[h2]at h ⊢;exact vS hsub h
theorem se:∀{cs:List AV},jh U aa cs→jh T aa cs|[],_=>trivial|c::cs,h=>⟨qf hsub h.1,se h.2⟩
theorem yC {v:AV} (h:nv U aa v):nv T aa v:=by
 rcases yB v with⟨f,cs,rfl⟩|⟨h1,h2⟩;·exact se hsub h
 ·rw[h2]at h ⊢;exact qf hsub h
theorem qB:∀{cs:List AV},gZ U aa cs→gZ T aa cs|[],_=>trivial|c::cs,h=>⟨yC hsub h.1,qB h.2⟩
end
theorem fM {k:AK}{ys:List AV}{aa objs':Nat→Option AO}{r:Prop×AV} (hk:ay k=true) (h:ai k ys aa=some r):ai k ys objs'=some r:=by unfold ai at h;split at h<;>first|exact h|(simp[ay]at hk;done)|cases h
section
variable{T:List Nat}{aa objs':Nat→Option AO} (hag:∀t,iC T t→aa t=objs' t)
include hag
theorem uv {x:AV} (h:nv T aa x):ez aa x=ez objs' x:=by cases x with|own t=>simp only[ez];rw[hag t h]|sub t e lo hi=>simp only[ez];rw[hag t h]|pv p=>cases p<;>rfl|_=>rfl
theorem pf {k:AK}{ys:List AV}{r:Prop×AV} (hno:gZ T aa ys) (h:ai k ys aa=some r):ai k ys objs'=some r:=by unfold ai at h;split at h<;>first|exact h|(simp only[ai];rw[←hag _ hno.1];exact h)|(simp only[ai];rw[←hag _ hno.1.1];exact h)|(simp only[ai];rw[←uv hag hno.1];exact h)|cases h
theorem xB {k:AK}{ys:List AV}{r:Prop×Nat×AO} (hk:isApp k=false) (hno:gZ T aa ys) (h:dy k ys aa=some r):dy k ys objs'=some r:=by unfold dy at h;split at h<;>first|(simp only[dy];rw[←hag _ hno.1];exact h)|(simp only[dy];rw[←hag _ hno.1.1];exact h)|(simp[isApp]at hk;done)|cases h
omit hag in theorem zk {k:AK}{d:Nat}{ys:List AV}{r:Prop×AV×AO} (hk:isApp k=false) (h:b7 k d ys aa=some r):b7 k d ys objs'=some r:=by unfold b7 at h;split at h<;>first|exact h|(simp[isApp]at hk;done)|cases h
theorem oQ {P:Program}{Γ:bp}{d:Option Nat}{k:AK}{xs:List AV}{C:bh→Prop} (hk:isApp k=false) (hd:∀s,d=some s→s<1000∧T.contains s=false) (hno:ay k=true∨gZ T aa (xs.map strip)) (hs:aL P Γ d k xs aa C):aL P Γ d k xs objs' C:=by
 have hfree:∀s p,d=some s→aa (s+1000*p)=objs' (s+1000*p):=by intro s p hs;refine hag _ ?_;unfold iC;rw[Nat.add_mul_mod_self_left,Nat.mod_eq_of_lt (hd s hs).1];exact(hd s hs).2
 have hmk:∀{k:AK},isApp k=false→(ag d fun d=>aj xs∧ag (b7 k d (xs.map strip) aa) fun x=>x.1∧aa d=none∧C (.new x.2.1 [(d,x.2.2)]))→ag d fun d=>aj xs∧ag (b7 k d (xs.map strip) objs') fun x=>x.1∧objs' d=none∧C (.new x.2.1 [(d,x.2.2)]):=by intro k hk hw;obtain⟨s,hs,ha,hw⟩:=ae hw;obtain⟨x,hx,hφ,hn,hC⟩:=ae hw;rw[hs];refine⟨ha,?_⟩;rw[zk (aa:=aa) (objs':=objs') hk hx];have:=hfree s 0 hs;simp only[Nat.mul_zero,Nat.add_zero]at this;exact⟨hφ,this▸hn,hC⟩
 cases k with|bf=>exact hs|pick=>exact hs|cC e=>exact hmk (k:=.cC e) rfl hs|box=>exact hmk (k:=.box) rfl hs|alloc zs=>exact hmk (k:=.alloc zs) rfl hs|gF e sz=>exact hmk (k:=.gF e sz) rfl hs|store n=>have hno:=hno.resolve_left (by simp[ay]);obtain⟨ha,hw⟩:=hs;refine⟨ha,?_⟩;obtain⟨x,hx,hC⟩:=ae hw;rw[xB hag hk hno hx];exact hC|app e sz bytes=>simp[isApp]at hk|call f=>have hno:=hno.resolve_left (by simp[ay]);dsimp only[aL,bX]at hs ⊢;obtain⟨s,hs',ha,hw⟩:=ae hs;obtain⟨ys,hys,hw⟩:=ae hw;obtain⟨⟨φ,r⟩,hr,h1,h2,h3,h4,hC⟩:=ae hw;rw[hs'];refine⟨ha,?_⟩;rw[←lu hag hno,hys];show ag (gt Γ f ys) _;rw[hr];refine⟨h1,h2,?_,h4,hC⟩;intro x hx;have:=h3 x hx;obtain⟨y,hy⟩:=sS s r x hx;rw[hy]at this ⊢;rw[←hfree s y hs'];exact this|_=>obtain⟨ha,hw⟩:=hs;refine⟨ha,?_⟩;obtain⟨x,hx,hC⟩:=ae hw;rw[hno.elim (fun h=>fM (objs':=objs') h hx) (fun h=>pf hag h hx)];exact hC
theorem xR {P:Program}{Γ:bp}{c:Bool}{d:Option Nat}{k:AK}{xs:List AV}{C:bh→Prop} (hk:isApp k=false) (hd:∀s,d=some s→s<1000∧T.contains s=false) (hno:ay k=true∨gZ T aa (xs.map strip)) (hs:bO P Γ c d k xs aa C):bO P Γ c d k xs objs' C:=by have hmk:∀{v:AV},((c=true→aL P Γ d k xs aa C)∧(c=false→C (.put v)))→((c=true→aL P Γ d k xs objs' C)∧(c=false→C (.put v))):=fun h=>⟨fun hc=>oQ hag hk hd hno (h.1 hc),h.2⟩;cases k with
 |bf=>exact hs|pick=>exact hs|cC e=>exact hmk hs|box=>exact hmk hs|alloc zs=>exact hmk hs|gF e sz=>exact hmk hs|store n=>exact hmk hs|app e sz bytes=>exact hmk hs|call f=>
  have hno:=hno.resolve_left (by simp[ay]);dsimp only[bO]at hs ⊢;rw[←lu hag hno];obtain⟨ys,hys,hs⟩:=ae hs;obtain⟨⟨φ,r⟩,hr,hs⟩:=ae hs;rw[hys];show ag (gt Γ f ys) _;rw[hr];show ite _ _ _;split at hs;·rename_i hif;rw[if_pos hif];exact hs
  ·rename_i hif;rw[if_neg hif];exact hmk hs|_=>dsimp only[bO]at hs ⊢;obtain⟨x,hx,hC⟩:=ae hs;rw[hno.elim (fun h=>fM (objs':=objs') h hx) (fun h=>pf hag h hx)];exact hC
end
theorem iI (t:Nat):∀a:AV,strip (kill t a)=kill t (strip a)|.bL g v=>by simp only[kill,strip];exact iI t v|.pv p=>rfl|.own s=>by show strip (if s=t then .al else .own s)=(if s=t then .al else .own s);split<;>rfl|.ptr s o=>rfl|.aI s e i o=>by show strip (if s=t then .al else .aI s e i o)=(if s=t then .al else .aI s e i o);split<;>rfl|.sub s e i o=>by show strip (if s=t then .al else .sub s e i o)=(if s=t then .al else .sub s e i o);split<;>rfl|.rp cs=>rfl|.agg cs=>rfl|.aC vs=>rfl|.bk f []=>rfl|.bk f (c::cs)=>rfl|.fr e rows=>rfl|.bx _=>rfl|.mf _=>rfl|.al=>rfl
theorem sa (t:Nat):∀a:AV,asks (kill t a)=asks a|.bL g v=>by simp only[kill,asks];rw[sa t v]|.pv p=>rfl|.own s=>by show asks (if s=t then .al else .own s)=asks (.own s);split<;>rfl|.ptr s o=>rfl|.aI s e i o=>by show asks (if s=t then .al else .aI s e i o)=asks (.aI s e i o);split<;>rfl|.sub s e i o=>by show asks (if s=t then .al else .sub s e i o)=asks (.sub s e i o);split<;>rfl|.rp cs=>rfl|.agg cs=>rfl|.aC vs=>rfl|.bk f []=>rfl|.bk f (c::cs)=>rfl|.fr e rows=>rfl|.bx _=>rfl|.mf _=>rfl|.al=>rfl
theorem uW {t:Nat}{v:AV}{p:PV} (h:kill t v=.pv p):v=.pv p:=by cases v with|pv q=>exact h|own s=>have h:(if s=t then AV.al else .own s)=.pv p:=h;split at h<;>cases h|aI s e i o=>have h:(if s=t then AV.al else .aI s e i o)=.pv p:=h;split at h<;>cases h|sub s e i o=>have h:(if s=t then AV.al else .sub s e i o)=.pv p:=h;split at h<;>cases h|bk f cs=>cases cs<;>cases h|_=>cases h
theorem C8 (t:Nat) (v:Value):kill t (cv v)=cv v:=by unfold cv;split<;>rfl
theorem C5 (t:Nat) (vars:Nat→AV) (x:Operand):Ab.ev (bU t vars) x=kill t (Ab.ev vars x):=by cases x with|const v=>exact(C8 t v).symm|_=>rfl
theorem jz (t:Nat) (vars:Nat→AV) (xs:List Operand):xs.map (Ab.ev (bU t vars))=(xs.map (Ab.ev vars)).map (kill t):=by rw[List.map_map];exact List.map_congr_left fun x _=>C5 t vars x
theorem iQ (t:Nat):∀xs:List AV,aj (xs.map (kill t))=aj xs|[]=>rfl|x::xs=>by simp only[List.map_cons,aj];rw[sa,iQ t xs]
theorem nU {t:Nat}:∀{xs:List AV},(∀y∈xs.map strip,∃p,y=AV.pv p)→(xs.map (kill t)).map strip=xs.map strip|[],_=>rfl|x::xs,h=>by simp only[List.map_cons,List.mem_cons,forall_eq_or_imp]at h ⊢;obtain⟨⟨p,hp⟩,h⟩:=h;rw[nU h,iI,hp];rfl
theorem kJ {t:Nat}:∀{xs:List AV},(∀y∈(xs.map (kill t)).map strip,∃p,y=AV.pv p)→(xs.map (kill t)).map strip=xs.map strip|[],_=>rfl|x::xs,h=>by simp only[List.map_cons,List.mem_cons,forall_eq_or_imp]at h ⊢;obtain⟨⟨p,hp⟩,h⟩:=h;rw[kJ h,hp];rw[iI]at hp;rw[uW hp]
theorem yS {k:AK}{ys:List AV}{aa:Nat→Option AO}{r:Prop×AV} (hk:ay k=true) (h:ai k ys aa=some r):(∀y∈ys,∃p,y=AV.pv p)∧∃q,r.2=.pv q:=by unfold ai at h;split at h<;>first|(simp[ay]at hk;done)|(obtain⟨x,_,rfl⟩:=Option.map_eq_some_iff.1 h;exact⟨by simp,_,rfl⟩)|(simp only[Option.some.injEq]at h;subst h;exact⟨by simp,_,rfl⟩)|cases h
section
variable{P:Program}{Γ:bp}{d:Option Nat}{k:AK}{xs:List AV}{aa objs':Nat→Option AO}{e:bh}{t:Nat}
def rD (k:AK) (xs:List AV):Option (Prop×AV):=match k with
 |.bf=>match xs with|[x]=>some (True,x)|_=>none
 |k=>(ai k (xs.map strip) fun _=>none).map fun r=>(aj xs∧r.1,r.2)
theorem eF (hk:ay k=true):aL P Γ d k xs aa (fun e'=>e'=e)↔∃φ v,rD k xs=some (φ,v)∧φ∧e=.put v:=by
 have hq:∀{k:AK},ay k=true→((aj xs∧ag (ai k (xs.map strip) aa) fun x=>x.1∧bh.put x.2=e)↔∃φ v,((ai k (xs.map strip) fun _=>none).map fun r=>(aj xs∧r.1,r.2))=some (φ,v)∧φ∧e=.put v):=by
  intro k hk;constructor;·rintro⟨ha,hw⟩;obtain⟨r,hr,hφ,he⟩:=ae hw;exact⟨aj xs∧r.1,r.2,by rw[fM (objs':=fun _=>none) hk hr];rfl,⟨ha,hφ⟩,he.symm⟩
  ·rintro⟨φ,v,hs,hφ,he⟩;obtain⟨r,hr,hx⟩:=Option.map_eq_some_iff.1 hs;cases hx;exact⟨hφ.1,by rw[fM (objs':=aa) hk hr];exact⟨hφ.2,he.symm⟩⟩
 cases k with
 |bf=>
  dsimp only[aL,rD];constructor;·intro h;obtain⟨x,hx,hl,he⟩:=ae h;obtain⟨y,rfl⟩:=List.length_eq_one_iff.1 hl;simp only[List.head?_cons,Option.some.injEq]at hx;subst hx;exact⟨_,_,rfl,trivial,he.symm⟩
  ·rintro⟨φ,v,hs,hφ,rfl⟩;split at hs;·cases hs;exact⟨rfl,rfl⟩
   ·cases hs|bin op=>exact hq rfl|beq ne=>exact hq rfl|not=>exact hq rfl|neg=>exact hq rfl|qU k=>exact hq rfl|yE=>exact hq rfl|_=>simp[ay]at hk
theorem eL {c:Bool} (hk:ay k=true):bO P Γ c d k xs aa (fun e'=>e'=e)↔∃φ v,rD k xs=some (φ,v)∧(c=true→φ)∧e=.put (.bL c v):=by
 have hq:∀{k:AK},ay k=true→((ag (ai k (xs.map strip) aa) fun x=>(c=true→aj xs∧x.1)∧bh.put (.bL c x.2)=e)↔∃φ v,((ai k (xs.map strip) fun _=>none).map fun r=>(aj xs∧r.1,r.2))=some (φ,v)∧(c=true→φ)∧e=.put (.bL c v)):=by
  intro k hk;constructor;·intro hw;obtain⟨r,hr,hφ,he⟩:=ae hw;exact⟨aj xs∧r.1,r.2,by rw[fM (objs':=fun _=>none) hk hr];rfl,hφ,he.symm⟩
  ·rintro⟨φ,v,hs,hφ,he⟩;obtain⟨r,hr,hx⟩:=Option.map_eq_some_iff.1 hs;cases hx;rw[fM (objs':=aa) hk hr];exact⟨hφ,he.symm⟩
 cases k with
 |bf=>
  dsimp only[bO,rD];constructor;·intro h;obtain⟨x,hx,hl,he⟩:=ae h;obtain⟨y,rfl⟩:=List.length_eq_one_iff.1 hl;simp only[List.head?_cons,Option.some.injEq]at hx;subst hx;exact⟨_,_,rfl,fun _=>trivial,he.symm⟩
  ·rintro⟨φ,v,hs,hφ,rfl⟩;split at hs;·cases hs;exact⟨rfl,rfl⟩
   ·cases hs|bin op=>exact hq rfl|beq ne=>exact hq rfl|not=>exact hq rfl|neg=>exact hq rfl|qU k=>exact hq rfl|yE=>exact hq rfl|_=>simp[ay]at hk
theorem sI {φ:Prop}{v:AV} (hk:ay k=true) (h:rD k xs=some (φ,v)):rD k (xs.map (kill t))=some (φ,kill t v):=by
 have hq:((ai k (xs.map strip) fun _=>none).map fun r=>(aj xs∧r.1,r.2))=some (φ,v)→((ai k ((xs.map (kill t)).map strip) fun _=>none).map fun r=>(aj (xs.map (kill t))∧r.1,r.2))=some (φ,kill t v):=by intro h;obtain⟨r,hr,hx⟩:=Option.map_eq_some_iff.1 h;obtain⟨hp,q,hq⟩:=yS hk hr;cases hx;rw[nU hp,hr,iQ,hq];show some (aj xs∧r.1,r.2)=_;rw[hq];rfl
 cases k with
 |bf=>
  dsimp only[rD]at h ⊢;split at h;·cases h;rfl
  ·cases h|bin op=>exact hq h|beq ne=>exact hq h|not=>exact hq h|neg=>exact hq h|qU k=>exact hq h|yE=>exact hq h|_=>simp[ay]at hk
theorem nu {φ:Prop}{v:AV} (hk:ay k=true) (h:rD k (xs.map (kill t))=some (φ,v)):∃u,v=kill t u∧rD k xs=some (φ,u):=by
 have hq:((ai k ((xs.map (kill t)).map strip) fun _=>none).map fun r=>(aj (xs.map (kill t))∧r.1,r.2))=some (φ,v)→∃u,v=kill t u∧((ai k (xs.map strip) fun _=>none).map fun r=>(aj xs∧r.1,r.2))=some (φ,u):=by intro h;obtain⟨r,hr,hx⟩:=Option.map_eq_some_iff.1 h;obtain⟨hp,q,hq⟩:=yS hk hr;rw[kJ hp]at hr;rw[iQ]at hx;cases hx;exact⟨r.2,by rw[hq];rfl,by rw[hr];rfl⟩
 cases k with
 |bf=>
  dsimp only[rD]at h ⊢;rcases xs with _|⟨x,_|⟨y,xs⟩⟩;·cases h
  ·cases h;exact⟨x,rfl,rfl⟩
  ·cases h|bin op=>exact hq h|beq ne=>exact hq h|not=>exact hq h|neg=>exact hq h|qU k=>exact hq h|yE=>exact hq h|_=>simp[ay]at hk
end
section
variable{P:Program}{Γ:bp}{i:AI}{vars vars':Nat→AV}{aa objs':Nat→Option AO}{e:bh}{t:Nat}
theorem l8 (w:Bool):∀v:AV,bj (kill t v) w=bj v w|.bL c v=>by simp only[kill,bj];rw[l8 w v]|.own s|.aI s _ _ _|.sub s _ _ _=>by simp only[kill,bD];split<;>rfl|.bk f cs=>by cases cs<;>rfl|.pv _|.ptr _ _|.rp _|.agg _|.aC _|.fr _ _|.bx _|.mf _|.al=>rfl
theorem nK {v:AV}{w c:Bool}:bj (kill t v) w=some c↔bj v w=some c:=by rw[l8]
theorem pX (hk:ay i.k=true) (h:cP P Γ i vars aa fun e'=>e'=e):∃v,e=.put v∧∀t objs',cP P Γ i (bU t vars) objs' fun e'=>e'=.put (kill t v):=by unfold cP at h ⊢;cases hg:i.g with|none=>rw[hg]at h;obtain⟨φ,v,hs,hφ,rfl⟩:=(eF hk).1 h;refine⟨v,rfl,fun t objs'=>?_⟩;rw[jz];exact(eF hk).2 ⟨φ,_,sI hk hs,hφ,rfl⟩|some sw=>obtain⟨s,w⟩:=sw;rw[hg]at h;dsimp only at h ⊢;obtain⟨c,hc,h⟩:=ae h;obtain⟨φ,v,hs,hφ,rfl⟩:=(eL hk).1 h;refine⟨_,rfl,fun t objs'=>?_⟩;rw[show bU t vars s=kill t (vars s) from rfl,nK.2 hc,jz];exact(eL hk).2 ⟨φ,_,sI hk hs,hφ,rfl⟩
theorem mO (hk:ay i.k=true) (h:cP P Γ i (bU t vars) aa fun e'=>e'=e):∃v,e=.put (kill t v)∧∀objs',cP P Γ i vars objs' fun e'=>e'=.put v:=by unfold cP at h ⊢;cases hg:i.g with|none=>rw[hg]at h;dsimp only at h;rw[jz]at h;obtain⟨φ,v,hs,hφ,rfl⟩:=(eF hk).1 h;obtain⟨u,rfl,hu⟩:=nu hk hs;exact⟨u,rfl,fun objs'=>(eF hk).2 ⟨φ,_,hu,hφ,rfl⟩⟩|some sw=>obtain⟨s,w⟩:=sw;rw[hg]at h;dsimp only at h ⊢;obtain⟨c,hc,h⟩:=ae h;rw[jz]at h;obtain⟨φ,v,hs,hφ,rfl⟩:=(eL hk).1 h;obtain⟨u,rfl,hu⟩:=nu hk hs;refine⟨.bL c u,rfl,fun objs'=>?_⟩;rw[nK.1 hc];exact(eL hk).2 ⟨φ,_,hu,hφ,rfl⟩
theorem cO (hk:ay i.k=true) (h:cP P Γ i vars aa fun e'=>e'=e):(∃v,e=.put v)∧∀objs',cP P Γ i vars objs' fun e'=>e'=e:=by unfold cP at h ⊢;cases hg:i.g with|none=>rw[hg]at h;obtain⟨φ,v,hs,hφ,rfl⟩:=(eF hk).1 h;exact⟨⟨v,rfl⟩,fun objs'=>(eF hk).2 ⟨φ,_,hs,hφ,rfl⟩⟩|some sw=>obtain⟨s,w⟩:=sw;rw[hg]at h;dsimp only at h ⊢;obtain⟨c,hc,h⟩:=ae h;obtain⟨φ,v,hs,hφ,rfl⟩:=(eL hk).1 h;exact⟨⟨_,rfl⟩,fun objs'=>by rw[hc];exact(eL hk).2 ⟨φ,_,hs,hφ,rfl⟩⟩
theorem BZ {x:Operand} (h:∀s∈tmpsOf [x],vars s=vars' s):Ab.ev vars x=Ab.ev vars' x:=by cases x with|tmp t=>exact h t (by simp[tmpsOf])|_=>rfl
theorem eC:∀{xs:List Operand},(∀s∈tmpsOf xs,vars s=vars' s)→xs.map (Ab.ev vars)=xs.map (Ab.ev vars')|[],_=>rfl|x::xs,h=>by have h1:Ab.ev vars x=Ab.ev vars' x:=BZ fun s hs=>h s (by cases x<;>simp_all[tmpsOf]);have h2:xs.map (Ab.ev vars)=xs.map (Ab.ev vars'):=eC fun s hs=>h s (by cases x<;>simp_all[tmpsOf]);simp only[List.map_cons,h1,h2]
theorem cX {C:bh→Prop} (ha:∀s∈cg i,vars s=vars' s) (h:cP P Γ i vars aa C):cP P Γ i vars' aa C:=by have hx:=eC (vars:=vars) (vars':=vars') (xs:=i.xs) fun s hs=>ha s (List.mem_append_left _ hs);unfold cP at h ⊢;rw[←hx];cases hg:i.g with|none=>rw[hg]at h;exact h|some sw=>obtain⟨s,w⟩:=sw;rw[hg]at h;dsimp only at h ⊢;rw[←ha s (List.mem_append_right _ (by rw[hg];simp))];exact h
theorem qA {T:List Nat}{C:bh→Prop} (hag:∀t,iC T t→aa t=objs' t) (hk:isApp i.k=false) (hd:∀s,i.d=some s→s<1000∧T.contains s=false) (hno:ay i.k=true∨gZ T aa ((i.xs.map (Ab.ev vars)).map strip)) (h:cP P Γ i vars aa C):cP P Γ i vars objs' C:=by unfold cP at h ⊢;cases hg:i.g with|none=>rw[hg]at h;exact oQ hag hk hd hno h|some sw=>obtain⟨s,w⟩:=sw;rw[hg]at h;dsimp only at h ⊢;obtain⟨c,hc,h⟩:=ae h;rw[hc];exact xR hag hk hd hno h
def lW (i:AI) (e:bh):Prop:=(∃v,e=.put v)∨(makes i.k=true∧∃d v os,i.d=some d∧e=.new v os∧∀x∈os,∃p,x.1=d+1000*p)∨(writes i.k=true∧makes i.k=false∧∃t o,e=.rL t o)∨(isApp i.k=true∧∃t o,e=.app t o)
theorem uC {xs:List AV} (h:aL P Γ i.d i.k xs aa fun e'=>e'=e):lW i e:=by
 have hmk:∀{k:AK},makes i.k=true→(ag i.d fun d=>aj xs∧ag (b7 k d (xs.map strip) aa) fun x=>x.1∧aa d=none∧bh.new x.2.1 [(d,x.2.2)]=e)→lW i e:=by intro k hk hw;obtain⟨d,hd,ha,hw⟩:=ae hw;obtain⟨x,hx,hφ,hn,rfl⟩:=ae hw;exact .inr (.inl ⟨hk,d,_,_,hd,rfl,fun x hx=>⟨0,by simp only[List.mem_singleton]at hx;rw[hx];rfl⟩⟩)
 cases hk:i.k with|bf=>rw[hk]at h;obtain⟨φ,v,_,_,rfl⟩:=(eF rfl).1 h;exact .inl ⟨v,rfl⟩|pick=>rw[hk]at h;dsimp only[aL]at h;obtain⟨x,_,_,rfl⟩:=ae h;exact .inl ⟨_,rfl⟩|cC e=>rw[hk]at h;exact hmk (by rw[hk];rfl) h|box=>rw[hk]at h;exact hmk (by rw[hk];rfl) h|alloc zs=>rw[hk]at h;exact hmk (by rw[hk];rfl) h|gF e sz=>rw[hk]at h;exact hmk (by rw[hk];rfl) h|store n=>rw[hk]at h;obtain⟨_,hw⟩:=h;obtain⟨x,_,_,rfl⟩:=ae hw;exact .inr (.inr (.inl ⟨by rw[hk];rfl,by rw[hk];rfl,_,_,rfl⟩))|app e sz bytes=>
  rw[hk]at h;dsimp only[aL]at h;obtain⟨ha,hw⟩:=h;split at hw;·obtain⟨x,_,_,rfl⟩:=ae hw;exact .inr (.inr (.inr ⟨by rw[hk];rfl,_,_,rfl⟩))
  ·obtain⟨d,hd,hw⟩:=ae hw;obtain⟨x,hx,hφ,hn,rfl⟩:=ae hw;exact .inr (.inl ⟨by rw[hk];rfl,d,_,_,hd,rfl,fun x hx=>⟨0,by simp only[List.mem_singleton]at hx;rw[hx];rfl⟩⟩)|call f=>rw[hk]at h;dsimp only[aL,bX]at h;obtain⟨d,hd,ha,hw⟩:=ae h;obtain⟨ys,hys,hw⟩:=ae hw;obtain⟨⟨φ,r⟩,hr,h1,h2,h3,h4,rfl⟩:=ae hw;refine .inr (.inl ⟨by rw[hk];rfl,d,_,_,hd,rfl,fun x hx=>?_⟩);exact sS d r x hx|_=>rw[hk]at h;obtain⟨_,hw⟩:=h;obtain⟨x,_,_,rfl⟩:=ae hw;exact .inl ⟨_,rfl⟩
theorem u9 (h:cP P Γ i vars aa fun e'=>e'=e):lW i e:=by unfold cP at h;cases hg:i.g with|none=>rw[hg]at h;exact uC h|some sw=>
 obtain⟨s,w⟩:=sw;rw[hg]at h;dsimp only at h;obtain⟨c,hc,h⟩:=ae h;have hmk:∀{v:AV},((c=true→aL P Γ i.d i.k (i.xs.map (Ab.ev vars)) aa fun e'=>e'=e)∧(c=false→bh.put v=e))→lW i e:=by rintro v ⟨ht,hf⟩;cases c with|true=>exact uC (ht rfl)|false=>exact .inl ⟨_,(hf rfl).symm⟩
 cases hk:i.k with
 |bf=>rw[hk]at h;obtain⟨φ,v,_,_,rfl⟩:=(eL rfl).1 h;exact .inl ⟨_,rfl⟩|pick=>rw[hk]at h;dsimp only[bO]at h;obtain⟨x,_,_,rfl⟩:=ae h;exact .inl ⟨_,rfl⟩|cC e=>rw[hk]at h hmk;exact hmk h|box=>rw[hk]at h hmk;exact hmk h|alloc zs=>rw[hk]at h hmk;exact hmk h|gF e sz=>rw[hk]at h hmk;exact hmk h|store n=>rw[hk]at h hmk;exact hmk h|app e sz bytes=>rw[hk]at h hmk;exact hmk h|call f=>
  rw[hk]at h hmk;dsimp only[bO]at h;obtain⟨ys,hys,h⟩:=ae h;obtain⟨⟨φ,r⟩,hr,h⟩:=ae h;split at h;·obtain⟨h1,h2,h3,h4,rfl⟩:=h;exact .inl ⟨_,rfl⟩
  ·exact hmk h|_=>rw[hk]at h;dsimp only[bO]at h;obtain⟨x,_,_,rfl⟩:=ae h;exact .inl ⟨_,rfl⟩
end
theorem St.ext' {a b:St} (h1:a.vars=b.vars) (h2:a.aa=b.aa):a=b:=by cases a;cases b;simp only at h1 h2;rw[h1,h2]
theorem mB {d:Option Nat}{v:AV}{f:Nat→AV}{s:Nat} (h:d≠some s):Ab.put d v f s=f s:=by cases d with|none=>rfl|some d=>have:s≠d:=fun e=>h (by rw[e]);simp[Ab.put,this]
theorem put_comm {d d':Option Nat}{v v':AV}{f:Nat→AV} (h:∀s,d=some s→d'≠some s):Ab.put d v (Ab.put d' v' f)=Ab.put d' v' (Ab.put d v f):=by cases d with|none=>rfl|some d=>cases d' with|none=>rfl|some d'=>
 have hne:d'≠d:=fun e=>h d rfl (by rw[e]);funext s;by_cases h1:s=d;·subst h1;simp[Ab.put,hne.symm]
 ·simp[Ab.put,h1]
theorem mw {t:Nat}{d:Option Nat}{v:AV}{f:Nat→AV}:bU t (Ab.put d v f)=Ab.put d (kill t v) (bU t f):=by cases d with|none=>rfl|some d=>
 funext s;by_cases h1:s=d;·simp[bU,Ab.put,h1]
 ·simp[bU,Ab.put,h1]
def ov:bh→Nat→Option AO|.new _ os=>ab os|.rL t o=>fun s=>if s=t then some o else none|_=>fun _=>none
def nh (f g:Nat→Option AO):Nat→Option AO:=fun t=>match f t with|some o=>some o|none=>g t
def Vk:bh→AV|.put v=>v|.new v _=>v|.rL _ _=>.al|.app t _=>.own t
def plain:bh→Prop|.app _ _=>False|_=>True
theorem cT {e:bh}{d:Option Nat}{st:St} (h:plain e):e.on d st=⟨Ab.put d (Vk e) st.vars,nh (ov e) st.aa⟩:=by cases e with|put v=>rfl|new v os=>rfl|rL t o=>refine St.ext' rfl ?_;funext s;by_cases hs:s=t<;>simp[bh.on,nh,ov,aA,hs]|app t o=>exact h.elim
theorem zW {f g h:Nat→Option AO} (hfg:∀t,f t=none∨g t=none):nh f (nh g h)=nh g (nh f h):=by funext t;unfold nh;rcases hfg t with e|e<;>rw[e]<;>cases f t<;>cases g t<;>rfl
def Yi (P:Program) (Γ:bp) (i:AI) (st:St) (e:bh):Prop:=(i.un=[]∨gZ i.un st.aa ((i.xs.map (Ab.ev st.vars)).map strip))∧(cP P Γ i st.vars st.aa fun e'=>e'=e)∧wB i.un i.tg e
theorem sH {P:Program}{Γ:bp}{d:Option Nat}{k:AK}{xs:List AV}{aa:Nat→Option AO}{e:bh}{C:bh→Prop} (hC:C e) (hs:aL P Γ d k xs aa fun e'=>e'=e):aL P Γ d k xs aa C:=by cases k with
 |bf=>dsimp only[aL]at hs ⊢;obtain⟨x,hx,hl,rfl⟩:=ae hs;rw[hx];exact⟨hl,hC⟩|pick=>dsimp only[aL]at hs ⊢;obtain⟨x,hx,hl,rfl⟩:=ae hs;rw[hx];exact⟨hl,hC⟩|cC e=>dsimp only[aL]at hs ⊢;obtain⟨d,hd,ha,hw⟩:=ae hs;obtain⟨x,hx,hl,hn,rfl⟩:=ae hw;rw[hd];exact⟨ha,by rw[hx];exact⟨hl,hn,hC⟩⟩|box=>dsimp only[aL]at hs ⊢;obtain⟨d,hd,ha,hw⟩:=ae hs;obtain⟨x,hx,hl,hn,rfl⟩:=ae hw;rw[hd];exact⟨ha,by rw[hx];exact⟨hl,hn,hC⟩⟩|alloc zs=>dsimp only[aL]at hs ⊢;obtain⟨d,hd,ha,hw⟩:=ae hs;obtain⟨x,hx,hl,hn,rfl⟩:=ae hw;rw[hd];exact⟨ha,by rw[hx];exact⟨hl,hn,hC⟩⟩|gF e sz=>dsimp only[aL]at hs ⊢;obtain⟨d,hd,ha,hw⟩:=ae hs;obtain⟨x,hx,hl,hn,rfl⟩:=ae hw;rw[hd];exact⟨ha,by rw[hx];exact⟨hl,hn,hC⟩⟩|store n=>dsimp only[aL]at hs ⊢;obtain⟨ha,hw⟩:=hs;obtain⟨x,hx,hl,rfl⟩:=ae hw;exact⟨ha,by rw[hx];exact⟨hl,hC⟩⟩|app e sz bytes=>
  dsimp only[aL]at hs ⊢;obtain⟨ha,hw⟩:=hs;refine⟨ha,?_⟩;by_cases ho:my (xs.map strip)=true;·rw[if_pos ho]at hw ⊢;obtain⟨x,hx,hl,rfl⟩:=ae hw;rw[hx];exact⟨hl,hC⟩
  ·rw[if_neg ho]at hw ⊢;obtain⟨d,hd,hw⟩:=ae hw;obtain⟨x,hx,hl,hn,rfl⟩:=ae hw;rw[hd];show ag (b7 _ d _ _) _;rw[hx];exact⟨hl,hn,hC⟩|call f=>dsimp only[aL,bX]at hs ⊢;obtain⟨d,hd,ha,hw⟩:=ae hs;obtain⟨ys,hys,hw⟩:=ae hw;obtain⟨⟨φ,r⟩,hr,h1,h2,h3,h4,rfl⟩:=ae hw;rw[hd];exact⟨ha,by rw[hys];show ag (gt Γ f ys) _;rw[hr];exact⟨h1,h2,h3,h4,hC⟩⟩|_=>obtain⟨ha,hw⟩:=hs;obtain⟨x,hx,hl,rfl⟩:=ae hw;exact⟨ha,by rw[hx];exact⟨hl,hC⟩⟩
theorem AE {P:Program}{Γ:bp}{c:Bool}{d:Option Nat}{k:AK}{xs:List AV}{aa:Nat→Option AO}{e:bh}{C:bh→Prop} (hC:C e) (hs:bO P Γ c d k xs aa fun e'=>e'=e):bO P Γ c d k xs aa C:=by have hmk:∀{v:AV},((c=true→aL P Γ d k xs aa fun e'=>e'=e)∧(c=false→bh.put v=e))→((c=true→aL P Γ d k xs aa C)∧(c=false→C (.put v))):=fun h=>⟨fun hc=>sH hC (h.1 hc),fun hc=>by rw[h.2 hc];exact hC⟩;cases k with
 |bf=>dsimp only[bO]at hs ⊢;obtain⟨x,hx,hl,rfl⟩:=ae hs;rw[hx];exact⟨hl,hC⟩|pick=>dsimp only[bO]at hs ⊢;obtain⟨x,hx,hl,rfl⟩:=ae hs;rw[hx];exact⟨hl,hC⟩|cC e=>exact hmk hs|box=>exact hmk hs|alloc zs=>exact hmk hs|gF e sz=>exact hmk hs|store n=>exact hmk hs|app e sz bytes=>exact hmk hs|call f=>
  dsimp only[bO]at hs ⊢;obtain⟨ys,hys,hs⟩:=ae hs;obtain⟨⟨φ,r⟩,hr,hs⟩:=ae hs;rw[hys];show ag (gt Γ f ys) _;rw[hr];show ite _ _ _;split at hs;·rename_i hif;obtain⟨h1,h2,h3,h4,rfl⟩:=hs;rw[if_pos hif];exact⟨h1,h2,h3,h4,hC⟩
  ·rename_i hif;rw[if_neg hif];exact hmk hs|_=>dsimp only[bO]at hs ⊢;obtain⟨x,hx,hl,rfl⟩:=ae hs;rw[hx];exact⟨hl,hC⟩
theorem zN {P:Program}{Γ:bp}{i:AI}{vars:Nat→AV}{aa:Nat→Option AO}{e:bh}{C:bh→Prop} (hC:C e) (hs:cP P Γ i vars aa fun e'=>e'=e):cP P Γ i vars aa C:=by unfold cP at hs ⊢;cases hg:i.g with|none=>rw[hg]at hs;exact sH hC hs|some sw=>obtain⟨s,w⟩:=sw;rw[hg]at hs;dsimp only at hs ⊢;obtain⟨c,hc,hs⟩:=ae hs;rw[hc];exact AE hC hs
theorem bS {P:Program}{Γ:bp}{i:AI}{K:St→Prop}{st:St}:ck P Γ i K st↔∃e,Yi P Γ i st e∧K (e.on i.d st):=by
 constructor;·rintro⟨hu,hs⟩;obtain⟨e,⟨ht,hK⟩,he⟩:=zX hs;exact⟨e,⟨hu,he,ht⟩,hK⟩
 ·rintro⟨e,⟨hu,he,ht⟩,hK⟩;exact⟨hu,zN (C:=fun e=>wB i.un i.tg e∧K (e.on i.d st)) ⟨ht,hK⟩ he⟩
structure yr (x y:AI):Prop where
 xd:∀d,x.d=some d→d∉cg y∧y.d≠some d∧y.tg≠some d∧d<1000
 yd:∀d,y.d=some d→d∉cg x∧x.tg≠some d∧d<1000
 ya:(ay y.k=true∧y.un=[])∨(isApp x.k=false∧(writes x.k=true→∃s,x.tg=some s)∧∀t∈bI x,t<1000∧y.un.contains t=true)
 xa:(ay x.k=true∧x.un=[])∨(isApp y.k=false∧(writes y.k=true→∃s,y.tg=some s)∧∀t∈bI y,t<1000∧x.un.contains t=true)
 both:ay x.k=true∨ay y.k=true∨writes x.k=false∨writes y.k=false∨x.tg≠y.tg
theorem nS {o:Option Nat} (h:tE o=true):∃s,o=some s:=by cases o with|none=>cases h|some s=>exact⟨s,rfl⟩
theorem apart_spec {x y:AI} (h:xX x y=true):yr x y:=by
 unfold xX at h;simp only[Bool.and_eq_true]at h;obtain⟨⟨⟨⟨h1,h2⟩,h3⟩,h4⟩,h5⟩:=h;refine⟨fun d hd=>?_,fun d hd=>?_,?_,?_,?_⟩;·rw[hd]at h1;simp only[Bool.and_eq_true,Bool.not_eq_true',List.contains_eq_mem,decide_eq_false_iff_not,bne_iff_ne,decide_eq_true_eq]at h1;exact⟨h1.1.1.1,h1.1.1.2,h1.1.2,h1.2⟩
 ·rw[hd]at h2;simp only[Bool.and_eq_true,Bool.not_eq_true',List.contains_eq_mem,decide_eq_false_iff_not,bne_iff_ne,decide_eq_true_eq]at h2;exact⟨h2.1.1,h2.1.2,h2.2⟩
 ·simp only[Bool.or_eq_true,Bool.and_eq_true,Bool.not_eq_true',List.all_eq_true,decide_eq_true_eq,List.isEmpty_iff]at h3;refine h3.imp id fun⟨⟨ha,hb⟩,hc⟩=>⟨ha,fun hw=>?_,fun t ht=>hc t ht⟩;rcases hb with hb|hb;·rw[hb]at hw;cases hw
  ·exact nS hb
 ·simp only[Bool.or_eq_true,Bool.and_eq_true,Bool.not_eq_true',List.all_eq_true,decide_eq_true_eq,List.isEmpty_iff]at h4;refine h4.imp id fun⟨⟨ha,hb⟩,hc⟩=>⟨ha,fun hw=>?_,fun t ht=>hc t ht⟩;rcases hb with hb|hb;·rw[hb]at hw;cases hw
  ·exact nS hb
 ·simp only[Bool.or_eq_true,Bool.not_eq_true',bne_iff_ne]at h5;rcases h5 with(((h|h)|h)|h)|h;·exact .inl h
  ·exact .inr (.inl h)
  ·exact .inr (.inr (.inl h))
  ·exact .inr (.inr (.inr (.inl h)))
  ·exact .inr (.inr (.inr (.inr h)))
section
variable{P:Program}{Γ:bp}{x y:AI}{st:St}{e e':bh}
theorem sV:∀{os:List (Nat×AO)}{t:Nat}{o:AO},ab os t=some o→∃x∈os,x.1=t
 |[],_,_,h=>by cases h|(s,v)::os,t,o,h=>by
  simp only[ab]at h;split at h;·rename_i hs;exact⟨(s,v),List.mem_cons_self,hs.symm⟩
  ·obtain⟨x,hx,h⟩:=sV h;exact⟨x,List.mem_cons_of_mem _ hx,h⟩
theorem tW {i:AI}{e:bh} (he:lW i e) (htg:pw i.tg e) (hlt:∀t∈bI i,t<1000) (hw:writes i.k=true→∃s,i.tg=some s) (ha:isApp i.k=false) {t:Nat} (h:ov e t≠none):(bI i).contains (t%1000)=true:=by
 rcases he with⟨v,rfl⟩|⟨hm,d,v,os,hd,rfl,hos⟩|⟨hwr,hm,t',o,rfl⟩|⟨hap,t,o,rfl⟩;·exact absurd rfl h
 ·cases hl:ab os t with|none=>exact absurd hl h|some o=>
   obtain⟨x,hx,rfl⟩:=sV hl;obtain⟨p,hp⟩:=hos x hx;have hmem:d∈bI i:=by unfold bI;rw[if_pos hm,hd];simp
   rw[hp,Nat.add_mul_mod_self_left,Nat.mod_eq_of_lt (hlt d hmem)];simpa using hmem
 ·obtain⟨s,hs⟩:=hw hwr;have hmem:s∈bI i:=by unfold bI;rw[hm,hwr,hs];simp
  rw[hs]at htg;have htg:t'=s:=htg;subst htg;have:t=t':=by
   by_cases e:t=t';·exact e
   ·exact absurd (by simp[ov,e]) h
  subst this;rw[Nat.mod_eq_of_lt (hlt t hmem)];simpa using hmem
 ·rw[ha]at hap;cases hap
theorem qx {i:AI}{e:bh}{aa:Nat→Option AO}{U:List Nat} (he:lW i e) (htg:pw i.tg e) (hlt:∀t∈bI i,t<1000) (hU:∀t,iC U t→iC (bI i) t) (hw:writes i.k=true→∃s,i.tg=some s) (ha:isApp i.k=false):∀t,iC U t→aa t=nh (ov e) aa t:=by intro t ht;unfold nh;cases ho:ov e t with|none=>rfl|some o=>have h1:=tW he htg hlt hw ha (t:=t) (by rw[ho];simp);have h2:=hU t ht;unfold iC at h2;rw[h1]at h2;cases h2
theorem Yi.ue (hyx:(ay y.k=true∧y.un=[])∨(isApp x.k=false∧(writes x.k=true→∃s,x.tg=some s)∧∀t∈bI x,t<1000∧y.un.contains t=true)) (hax:ay y.k=true∨isApp y.k=false) (hyd:∀d,y.d=some d→x.d≠some d∧x.tg≠some d∧d<1000) (hu:∀d,x.d=some d→d∉cg y) {vars:Nat→AV}{aa objs':Nat→Option AO}{v:AV} (hag:∀T,(∀t,iC T t→iC (bI x) t)→(isApp x.k=false∧(writes x.k=true→∃s,x.tg=some s)∧∀t∈bI x,t<1000)→∀t,iC T t→aa t=objs' t):Yi P Γ y ⟨Ab.put x.d v vars,aa⟩ e'↔Yi P Γ y ⟨vars,objs'⟩ e':=by
 have hvs:∀s∈cg y,Ab.put x.d v vars s=vars s:=fun s hs=>mB fun hd=>hu s hd hs;have hev:y.xs.map (Ab.ev (Ab.put x.d v vars))=y.xs.map (Ab.ev vars):=eC fun s hs=>hvs s (List.mem_append_left _ hs);have hsym:∀{f g:Nat→Option AO}{T:List Nat},(∀t,iC T t→f t=g t)→∀t,iC T t→g t=f t:=fun h t ht=>(h t ht).symm;unfold Yi;simp only[hev];rcases hyx with⟨hy,hun⟩|⟨hxa,hxw,hxt⟩
 ·constructor;·rintro⟨_,h,ht⟩;exact⟨.inl hun,cX hvs ((cO hy h).2 _),ht⟩
  ·rintro⟨_,h,ht⟩;exact⟨.inl hun,cX (fun s hs=>(hvs s hs).symm) ((cO hy h).2 _),ht⟩
 ·have hsub:∀t,iC y.un t→iC (bI x) t:=by intro t ht;unfold iC at ht ⊢;cases hc:(bI x).contains (t%1000) with|false=>rfl|true=>rw[(hxt _ (by simpa using hc)).2]at ht;cases ht
  have hx3:=(⟨hxa,hxw,fun t ht=>(hxt t ht).1⟩:isApp x.k=false∧(writes x.k=true→∃s,x.tg=some s)∧∀t∈bI x,t<1000);have hA:=hag (bI x) (fun _ h=>h) hx3;have hB:=hag y.un hsub hx3;have hd:∀s,y.d=some s→s<1000∧(bI x).contains s=false:=by
   intro s hs;obtain⟨h1,h2,h3⟩:=hyd s hs;refine⟨h3,?_⟩;unfold bI;split;·cases hxd:x.d with|none=>rfl|some d=>have:¬d=s:=fun e=>h1 (by rw[hxd,e]);simpa[Option.toList,eq_comm]using this
   ·split;·cases hxd:x.tg with|none=>rfl|some d=>have:¬d=s:=fun e=>h2 (by rw[hxd,e]);simpa[Option.toList,eq_comm]using this
    ·rfl
  by_cases hy:ay y.k=true
  ·constructor;·rintro⟨hn,h,ht⟩;exact⟨hn.imp id fun hn=>fS hB hn,cX hvs ((cO hy h).2 _),ht⟩
   ·rintro⟨hn,h,ht⟩;exact⟨hn.imp id fun hn=>fS (hsym hB) hn,cX (fun s hs=>(hvs s hs).symm) ((cO hy h).2 _),ht⟩
  ·have hya:=hax.resolve_left hy;have hne:y.un=[]→∀(f:Nat→Option AO) (l:List AV),gZ (bI x) f l:=by
    intro hun f l;have hnil:bI x=[]:=by cases h:bI x with|nil=>rfl|cons t ts=>have:=(hxt t (by rw[h];simp)).2;rw[hun]at this;simp at this
    rw[hnil];have hT:∀t,iC [] t:=fun t=>rfl;have hC:∀v,rl [] v:=fun v=>by cases v<;>first|trivial|exact hT _
    have hCs:∀cs,fk [] cs:=fun cs=>by induction cs with|nil=>trivial|cons c cs ih=>exact⟨hC c,ih⟩
    have hP:∀v,lL [] f v:=fun v=>by
     rcases A5 v with⟨t,o,rfl⟩|⟨cs,rfl⟩|h2;·exact⟨hT _,hCs _⟩
     ·exact hCs _
     ·rw[h2];exact hC _
    have hPs:∀cs,jh [] f cs:=fun cs=>by induction cs with|nil=>trivial|cons c cs ih=>exact⟨hP c,ih⟩
    induction l with|nil=>trivial|cons c cs ih=>
     refine⟨?_,ih⟩;rcases yB c with⟨f,cs,rfl⟩|⟨_,h2⟩;·exact hPs _
     ·rw[h2];exact hP _
   constructor
   ·rintro⟨hn,h,ht⟩;refine⟨hn.imp id fun hn=>fS hB hn,?_,ht⟩;have h:=cX hvs h;refine qA hA hya hd (.inr ?_) h;rcases hn with hn|hn;·exact hne hn _ _
    ·exact qB hsub hn
   ·rintro⟨hn,h,ht⟩;refine⟨hn.imp id fun hn=>fS (hsym hB) hn,?_,ht⟩;have h:=cX (vars':=Ab.put x.d v vars) (fun s hs=>(hvs s hs).symm) h;refine qA (hsym hA) hya hd (.inr ?_) h;rw[hev];rcases hn with hn|hn;·exact hne hn _ _
    ·exact qB hsub hn
end
end Go.Proofs.Ytlmkcmfmfahcfaa.Ab
