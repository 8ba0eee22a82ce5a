/- The abstract machine is sound: a call of a function that takes objects whole, or borrows them. -/
import Derived.Test.YtlicclncicbajaaGreatY4
import Derived.Laws.StructEq
import Derived.MapKept
import Derived.Lib.LazyBuf
import Derived.Laws.Externs
import Derived.Lib.AppendZeros
import Derived.Laws.MakeOwn
set_option linter.unusedVariables false
set_option linter.unusedSimpArgs false
set_option linter.unnecessarySimpa false
set_option maxHeartbeats 40000000
set_option maxRecDepth 100000
namespace Go.Proofs.YtlicclncicbajaaGreat.Ab
open Go Go.RowKit
section
variable{P:Program}{S S':Nat→Prop}{w w':World}{β β':Nat→Value}{D D':Nat→Prop}{aa objs':Nat→Option AO}
theorem HT.mono (hS:∀b,S b→S' b) {v:Value}{y:AV}{bs:List Nat} (h:HT P S w v y bs):HT P S' w v y bs:=by have hS2:∀b,S b→S' b∧w.heap[b]?=w.heap[b]?:=fun b hb=>⟨hS b hb,rfl⟩;induction h with|leaf v y h=>exact .leaf v y (h.mono hS2 fun _ hf=>hf.elim)|fr v e rows inf us h1 h2 h3 h4=>exact .fr v e rows inf us h1 h2 h3 fun i j r p a b=>by obtain⟨u,c,d,e⟩:=h4 i j r p a b;exact⟨u,c,d,e.mono hS2⟩|mf b us c es h1 hst h2 h3=>exact .mf b us c es h1 hst h2 fun i e u a b=>⟨(h3 i e u a b).1,(h3 i e u a b).2.1,(h3 i e u a b).2.2.1,(h3 i e u a b).2.2.2.mono hS2⟩|bx b us ty cs bss h1 h2 h3 h4 h5 ih=>exact .bx b us ty cs bss h1 h2 h3 h4 ih|agg us cs bss h1 h2 h3 ih=>exact .agg us cs bss h1 h2 ih|aJ us cs bss h1 h2 h3 ih=>exact .aJ us cs bss h1 h2 ih
theorem pq:∀(n:Nat) {v:Value}{y:AV},fI n y→RV P S w (fun _=>undef) (fun _=>False) v y→RV P S' w (fun _=>undef) (fun _=>False) v y
 |0,_,_,h,_=>h.elim|n+1,v,y,h,hv=>by
  unfold fI at h;split at h;·cases hv
  ·cases hv
  ·cases hv
  ·obtain⟨us,rfl,hl,hc⟩:=hv.cN;exact .agg _ us hl fun i c u a b=>pq n (h c (List.mem_of_getElem? a)) (hc i c u a b)
  ·obtain⟨us,rfl,hl,hc⟩:=hv.jk;exact .aJ _ us hl fun i c u a b=>pq n (h c (List.mem_of_getElem? a)) (hc i c u a b)
  ·exact .pv _ _ (fc hv.bh h)
  ·obtain⟨us,rfl,hl,_⟩:=hv.ml;exact .bo _ [] us hl fun i c u hc=>by simp at hc
  ·exact h.elim
theorem HT.flat:∀(n:Nat) {v:Value}{y:AV}{bs:List Nat},fI n y→HT P S w v y bs→HT P S' w v y bs|0,_,_,_,h,_=>h.elim|n+1,v,y,bs,hf,h=>by cases h with|leaf v y h=>exact .leaf v y (pq (n+1) hf h)|fr v e rows inf us h1 h2 h3 h4=>exact .fr v e rows inf us h1 h2 h3 fun i j r p a b=>by obtain⟨u,c,d,e⟩:=h4 i j r p a b;exact⟨u,c,d,fc e (hf r (List.mem_of_getElem? a) p (List.mem_of_getElem? b))⟩|mf b us c es h1 hst h2 h3=>exact .mf b us c es h1 hst h2 fun i e u a b=>⟨(h3 i e u a b).1,(h3 i e u a b).2.1,(h3 i e u a b).2.2.1,fc (h3 i e u a b).2.2.2 (hf e (List.mem_of_getElem? a))⟩|bx b us ty cs bss h1 h2 h3 h4 h5=>exact .bx b us ty cs bss h1 h2 h3 h4 fun i c u bs a b d=>HT.flat n (hf c (List.mem_of_getElem? a)) (h5 i c u bs a b d)|agg us cs bss h1 h2 h3=>exact .agg us cs bss h1 h2 fun i c u bs a b d=>HT.flat n (hf c (List.mem_of_getElem? a)) (h3 i c u bs a b d)|aJ us cs bss h1 h2 h3=>exact .aJ us cs bss h1 h2 fun i c u bs a b d=>HT.flat n (hf c (List.mem_of_getElem? a)) (h3 i c u bs a b d)
theorem sQ:∀(n:Nat) {x:AV}{r:AV×List Nat},rd n aa x=some r→(∀t∈r.2,ay aa t)∧∀l,r.1≠.aJ l
 |0,_,_,h=>by cases h|n+1,x,r,h=>by
  have lst:∀{l:List AV}{q:List AV×List Nat},E7 (rd n aa) l=some q→∀t∈q.2,ay aa t:=by intro l;induction l with|nil=>intro q h;cases h;intro t ht;simp at ht|cons c l ih=>
   intro q h t ht;obtain⟨r,hr,h⟩:=Option.bind_eq_some_iff.1 h;obtain⟨q',hq,rfl⟩:=Option.map_eq_some_iff.1 h;rcases List.mem_append.1 ht with ht|ht;·exact(sQ n hr).1 t ht
   ·exact ih hq t ht
  unfold rd at h;split at h
  ·rename_i t;obtain⟨y,hy,rfl⟩:=Option.map_eq_some_iff.1 h;unfold RR at hy;split at hy;·rename_i ho;cases hy;exact⟨fun s hs=>by simp only[List.mem_singleton]at hs;rw[hs];exact⟨_,ho⟩,fun l e=>by cases e⟩
   ·rename_i ho;cases hy;exact⟨fun s hs=>by simp only[List.mem_singleton]at hs;rw[hs];exact⟨_,ho⟩,fun l e=>by cases e⟩
   ·cases hy
  ·obtain⟨cs,hc,h⟩:=Option.bind_eq_some_iff.1 h;obtain⟨q,hq,rfl⟩:=Option.map_eq_some_iff.1 h;refine⟨fun s hs=>?_,fun l e=>by cases e⟩;rcases List.mem_cons.1 hs with rfl|hs;·exact⟨_,fk hc⟩
   ·exact lst hq s hs
  ·obtain⟨q,hq,rfl⟩:=Option.map_eq_some_iff.1 h;exact⟨lst hq,fun l e=>by cases e⟩
  ·cases h;exact⟨fun t ht=>by simp at ht,fun l e=>by cases e⟩
  ·cases h;exact⟨fun t ht=>by simp at ht,fun l e=>by cases e⟩
  ·cases h;exact⟨fun t ht=>by simp at ht,fun l e=>by cases e⟩
  ·cases h
theorem Pz {x y:AV} (h:oL aa x=some y):∀l,y≠.aJ l:=by
 intro l e;subst e;have h1:∀x,eW aa x≠some (.aJ l):=by
  intro x h;unfold eW at h;split at h;·obtain⟨_,_,h⟩:=Option.bind_eq_some_iff.1 h;obtain⟨_,_,h⟩:=Option.map_eq_some_iff.1 h;cases h
  ·cases h
  ·obtain⟨_,_,h⟩:=Option.map_eq_some_iff.1 h;cases h
  ·cases h
  ·obtain⟨_,_,h⟩:=Option.map_eq_some_iff.1 h;cases h
 unfold oL at h;split at h;·obtain⟨_,_,h⟩:=Option.map_eq_some_iff.1 h;cases h
 ·exact h1 _ h
theorem FA {y:AV} (h:∀l,y≠.aJ l):HQ y=false∧IA y=y:=by cases y<;>first|exact⟨rfl,rfl⟩|exact absurd rfl (h _)
theorem Gn (hh:Heap P S w β aa) (hS:∀b,S b→S' b) {T:List Nat} (hh':Heap P S w β objs') (hw:∀{v x},RV P S w β (ay aa) v x→RV P S w β (ay objs') v (eT T x)):∀{ks:List Nat}{xs ys:List AV}{vals:List Value},Bd aa objs' T ks xs=some ys→vals.length=xs.length→(∀(i:Nat) (v:Value) (x:AV),vals[i]?=some v→xs[i]?=some x→RV P S w β (ay aa) v x)→(ej T ks xs=true∨∀t b,ay objs' t→b9 (β t)=some b→S' b)→∃bss,E2 P S' w vals (ys.map IA) bss∧bss.flatten=db β (eF aa ks xs)∧(∀t∈eF aa ks xs,ay aa t)∧(eg ys vals).length=(dZ ks xs).length∧∀(i:Nat) (c:AV) (u:Value),(dZ ks xs)[i]?=some c→(eg ys vals)[i]?=some u→RV P S w β (ay aa) u c
 |[],[],ys,vals,h,hl,_,_=>by cases h;cases vals with|nil=>exact⟨[],⟨rfl,rfl,fun i y v bs h=>by simp at h⟩,rfl,fun t ht=>by simp[eF]at ht,rfl,fun i c u hc=>by simp[dZ]at hc⟩|cons v vs=>simp at hl
 |[],_::_,_,_,h,_,_,_=>by cases h|_::_,[],_,_,h,_,_,_=>by cases h|k::ks,x::xs,ys,vals,h,hl,hv,hp=>by obtain⟨y,hy,h⟩:=Option.bind_eq_some_iff.1 h;obtain⟨ys,hys,rfl⟩:=Option.map_eq_some_iff.1 h;match vals,hl with
  |v::vals,hl=>
   have hp':(k !=0||ed (eT T x))=true∧ej T ks xs=true∨∀t b,ay objs' t→b9 (β t)=some b→S' b:=by
    rcases hp with h|h;·left;simpa[ej]using h
    ·exact .inr h
   obtain⟨bss,⟨l1,l2,hts⟩,hfl,hdm,hln,hlv⟩:=Gn hh hS hh' hw hys (by simpa using hl) (fun i v x a b=>hv (i+1) v x (by simpa using a) (by simpa using b)) (hp'.imp And.right id);have hvx:=hv 0 v x rfl rfl;have one:∃bs,HT P S' w v (IA y) bs∧bs=db β (if k=0 then[] else((rd 5 aa x).map (·.2)).getD [])∧(∀t∈(if k=0 then[] else((rd 5 aa x).map (·.2)).getD []),ay aa t)∧(HQ y=true↔1<k):=by
    by_cases h0:k=0;·subst h0;simp only[if_true]at hy ⊢;obtain⟨e1,e2⟩:=FA (Pz hy);refine⟨[],.leaf _ _ ?_,rfl,fun t ht=>by simp at ht,by rw[e1];simp⟩;rw[e2];exact qj hh' hS (hw hvx) hy (hp'.imp (fun h=>by simpa using h.1) id)
    ·simp only[if_neg h0]at hy ⊢;by_cases h1:k=1;·subst h1;simp only[if_true]at hy;obtain⟨r,hr,rfl⟩:=Option.map_eq_some_iff.1 hy;obtain⟨e1,e2⟩:=FA (sQ 5 hr).2;obtain⟨m1,m2⟩:=Dh (P:=P) 5 hr;refine⟨_,lU hh hS 5 (y:=IA r.1) (by rw[e2];exact m1) hvx,by rw[hr,m2];rfl,fun t ht=>(sQ 5 hr).1 t (by simpa[hr]using ht),by rw[e1];simp⟩
     ·simp only[if_neg h1]at hy;obtain⟨r,hr,rfl⟩:=Option.map_eq_some_iff.1 hy;obtain⟨m1,m2⟩:=Dh (P:=P) 5 hr;refine⟨_,lU hh hS 5 (y:=IA (.aJ [r.1])) m1 hvx,by rw[hr,m2];rfl,fun t ht=>(sQ 5 hr).1 t (by simpa[hr]using ht),by simp only[HQ,true_iff];omega⟩
   obtain⟨bs,hbt,rfl,hbd,hk⟩:=one;refine⟨_::bss,⟨by simpa using l1,by simpa using l2,fun i y' v' bs' a b c=>?_⟩,by rw[List.flatten_cons,hfl];exact(eY β _ _).symm,fun t ht=>?_,?_,fun i c u=>?_⟩;·cases i with|zero=>simp only[List.map_cons,List.getElem?_cons_zero,Option.some.injEq]at a b c;rw[←a,←b,←c];exact hbt|succ i=>exact hts i y' v' bs' (by simpa using a) (by simpa using b) (by simpa using c)
   ·rcases List.mem_append.1 ht with ht|ht;·exact hbd t ht
    ·exact hdm t ht
   ·by_cases hc:1<k;·simp only[eg,hk.2 hc,dZ,hc,if_true,List.length_cons,hln]
    ·have:HQ y=false:=by cases he:HQ y with|false=>rfl|true=>exact absurd (hk.1 he) hc
     simp only[eg,this,dZ,hc,if_false,hln,Bool.false_eq_true]
   ·by_cases hc:1<k;·simp only[eg,hk.2 hc,dZ,hc,if_true];intro a b;cases i with|zero=>simp only[List.getElem?_cons_zero,Option.some.injEq]at a b;rw[←a,←b];exact hvx|succ i=>exact hlv i c u (by simpa using a) (by simpa using b)
    ·have:HQ y=false:=by cases he:HQ y with|false=>rfl|true=>exact absurd (hk.1 he) hc
     simp only[eg,this,dZ,hc,if_false,Bool.false_eq_true];exact hlv i c u
theorem Cj {D':Nat→Prop}{u:Value}{c:AV} (h:RV P S w β D u c) (h':RV P S' w' β' D' u c):∀t∈rP c,β' t=β t∧D' t:=by
 intro t ht;unfold rP at ht;split at ht;·simp only[List.mem_singleton]at ht;subst ht;exact⟨h'.aR.1.symm.trans h.aR.1,h'.aR.2⟩
 ·simp only[List.mem_singleton]at ht;subst ht;obtain⟨b,e1,_,hb⟩:=h.dX;obtain⟨b',e2,hd,hb'⟩:=h'.dX;rw[hb,hb',←e1,←e2];exact⟨rfl,hd⟩
 ·simp at ht
theorem Ke {D':Nat→Prop}{u:Value}{c:AV} (h:RV P S w β D u c) (h':RV P S' w' β' D' u c):∀t∈rM c,β' t=β t∧D' t:=by
 by_cases hx:∃cs,c=.agg cs
 ·obtain⟨cs,rfl⟩:=hx;intro t ht;obtain⟨c,hc,ht⟩:=List.mem_flatMap.1 ht;obtain⟨us,rfl,hl,hcs⟩:=h.cN;obtain⟨us',e,hl',hcs'⟩:=h'.cN;have:us=us':=by simpa using e
  subst this;obtain⟨i,hi⟩:=List.getElem?_of_mem hc;have hlt:i<us.length:=by rw[hl];exact(List.getElem?_eq_some_iff.1 hi).1
  exact Cj (hcs i c _ hi (List.getElem?_eq_getElem hlt)) (hcs' i c _ hi (List.getElem?_eq_getElem hlt)) t ht
 ·have:rM c=rP c:=by cases c<;>first|rfl|exact absurd ⟨_,rfl⟩ hx
  rw[this];exact Cj h h'
theorem E2.snoc {vs:List Value}{ys:List AV}{v:Value}{y:AV}{bss:List (List Nat)} (h:E2 P S w (vs++[v]) (ys++[y]) bss) (hl:vs.length=ys.length):∃b1 bl,bss=b1++[bl]∧E2 P S w vs ys b1∧HT P S w v y bl:=by
 obtain⟨h1,h2,h3⟩:=h;have hl2:bss.length=ys.length+1:=by simpa using h2
 have hne:bss≠[]:=by intro e;rw[e]at hl2;simp at hl2
 obtain⟨b1,bl,rfl⟩:∃b1 bl,bss=b1++[bl]:=⟨bss.dropLast,bss.getLast hne,(List.dropLast_concat_getLast hne).symm⟩;have hb1:b1.length=ys.length:=by simpa using hl2
 refine⟨b1,bl,rfl,⟨hl,hb1,fun i y' v' bs a b c=>?_⟩,h3 ys.length y v bl (by simp) (by rw[←hl];simp) (by rw[←hb1];simp)⟩;have k1:=(List.getElem?_eq_some_iff.1 a).1;exact h3 i y' v' bs (by rw[List.getElem?_append_left k1];exact a) (by rw[List.getElem?_append_left (by omega)];exact b) (by rw[List.getElem?_append_left (by omega)];exact c)
end
theorem vv {aa:Nat→Option AO}:∀(ks:List Nat) (xs:List AV) (t:Nat),t∈eF aa ks xs→ay aa t
 |[],_,_,ht=>by simp[eF]at ht|_::_,[],_,ht=>by simp[eF]at ht|k::ks,x::xs,t,ht=>by
  rcases List.mem_append.1 ht with ht|ht
  ·by_cases h0:k=0;·simp[h0]at ht
   ·rw[if_neg h0]at ht;cases hr:rd 5 aa x with|none=>rw[hr]at ht;simp at ht|some r=>rw[hr]at ht;exact(sQ 5 hr).1 t (by simpa using ht)
  ·exact vv ks xs t ht
theorem kb:∀{os:List (Nat×AO)}{t:Nat}{o:AO},ab os t=some o→(t,o)∈os
 |[],_,_,h=>by cases h|(s,o')::os,t,o,h=>by
  simp only[ab]at h;split at h;·rename_i e;cases h;rw[e];exact List.mem_cons_self
  ·exact List.mem_cons_of_mem _ (kb h)
theorem mz:∀{os:List (Nat×AO)}{p:Nat×AO},p∈os→∃o,ab os p.1=some o
 |[],_,h=>by simp at h|(s,o')::os,p,h=>by
  simp only[ab];split;·exact⟨o',rfl⟩
  ·rename_i hne;rcases List.mem_cons.1 h with rfl|h;·exact absurd rfl hne
   ·exact mz h
section
variable{P:Program}{S0 L:Nat→Prop}{B0:Nat→Value}{w0 w:World}{N:Nat}{st:St}{a:Act}{β:Nat→Value}
theorem HB {T:List Nat} (hL:T≠[]→∀b,L b→S0 b) (h:Rel P S0 L B0 w0 N st a w β) {f:FuncId}{d:Nat} (hd9:d%1000≠999) {ks:List Nat}{vals:List Value}{xs ys:List AV}{x:AV}{Q W:List Nat} (hl:vals.length=xs.length) (hv:∀(i:Nat) (v:Value) (x:AV),vals[i]?=some v→xs[i]?=some x→RV P (aS S0 w0.heap.size β st.aa w) w β (ay st.aa) v x) (hT:T=eF st.aa ks xs) (hQ:Q=(dZ ks xs).flatMap rM) (hW:W=T.filter fun t=>!Q.contains t) (hTn:T.Nodup) (hQT:∀t∈Q,t∈T) (hQn:(Q++pe d T W).Nodup) (hys:Bd st.aa (eL T T st.aa) T ks xs=some ys) (hcon:Bv P f ys x) (hpf:ej T ks xs=true∨∀y∈lf x++[kg x],fI 5 y) {o:List AV×List (Nat×AO)×List Nat×List Nat} (ho:nK (num 5 true) (lf x) (Q,pe d T W)=some o) (ho1:o.1=dZ ks xs) {r:AV×List (Nat×AO)×List Nat×List Nat} (hr:num 5 false (kg x) o.2.2=some r) (hfree:∀p∈o.2.1++r.2.1,T.contains p.1=true∨st.aa p.1=none):Calls P f vals.toArray w fun e w'=>∃v β',e=.returned v∧Rel P S0 L B0 w0 N ⟨gM W st.vars,bp (o.2.1++r.2.1) (eL T W st.aa)⟩ a w' β'∧RV P (aS S0 w0.heap.size β' (bp (o.2.1++r.2.1) (eL T W st.aa)) w') w' β' (ay (bp (o.2.1++r.2.1) (eL T W st.aa))) v r.1:=by classical
 let S:=aS S0 w0.heap.size β st.aa w;have hTd:∀t∈T,ay st.aa t:=by intro t ht;rw[hT]at ht;exact vv _ _ t ht
 have hTlive:∀b∈db β T,live β st.aa b∧b<w.heap.size:=by intro b hb;obtain⟨t,ht,hb⟩:=List.mem_filterMap.1 hb;obtain⟨o,ho⟩:=hTd t ht;exact⟨⟨t,o,ho,hb⟩,h.lt ⟨o,ho⟩ hb⟩
 have hTinj:∀t b,ay st.aa t→t∉T→b9 (β t)=some b→b∉db β T:=by intro t b ht hn hb hm;obtain⟨s,hs,hb'⟩:=List.mem_filterMap.1 hm;exact hn (h.heap.inj t s b ht (hTd s hs) hb hb'▸hs)
 have hTnd:(db β T).Nodup:=by
  have:∀l:List Nat,l.Nodup→(∀t∈l,ay st.aa t)→(db β l).Nodup:=by intro l;induction l with|nil=>intro _ _;exact List.nodup_nil|cons t l ih=>
   intro hn hd;rw[List.nodup_cons]at hn;have e:db β (t::l)=(b9 (β t)).toList++db β l:=by rw[←jM];exact eY β [t] l
   rw[e];cases hb:b9 (β t) with|none=>exact ih hn.2 fun t ht=>hd t (List.mem_cons_of_mem _ ht)|some b=>show(b::db β l).Nodup;rw[List.nodup_cons];refine⟨fun hm=>?_,ih hn.2 fun t ht=>hd t (List.mem_cons_of_mem _ ht)⟩;obtain⟨s,hs,hb'⟩:=List.mem_filterMap.1 hm;exact hn.1 (h.heap.inj t s b (hd t List.mem_cons_self) (hd s (List.mem_cons_of_mem _ hs)) hb hb'▸hs)
  exact this T hTn hTd
 have hcT:∀t,T.contains t=true↔t∈T:=fun t=>by simp
 have hdom':∀t,ay (eL T T st.aa) t↔(t∉T∧ay st.aa t):=by
  intro t;simp only[ay,eL];constructor
  ·rintro⟨o,ho⟩;split at ho;·cases ho
   ·rename_i hc;obtain⟨o',ho',_⟩:=Option.map_eq_some_iff.1 ho;exact⟨fun hm=>hc ((hcT t).2 hm),o',ho'⟩
  ·rintro⟨hn,o,ho⟩;exact⟨jj T o,by rw[if_neg (fun hc=>hn ((hcT t).1 hc)),ho];rfl⟩
 have hDw:∀s,ay st.aa s→T.contains s=false→ay (eL T T st.aa) s∧β s=β s:=fun s hs hc=>⟨(hdom' s).2 ⟨fun hm=>absurd ((hcT s).2 hm) (by rw[hc];exact Bool.false_ne_true),hs⟩,rfl⟩;have hwp:∀{v x},RV P S w β (ay st.aa) v x→RV P S w β (ay (eL T T st.aa)) v (eT T x):=fun hx=>hx.eT (fun b hb=>⟨hb,rfl⟩) hDw;have hh':Heap P S w β (eL T T st.aa):=by
  refine⟨fun t o ht=>?_,fun t t' b ht ht'=>h.heap.inj t t' b ((hdom' t).1 ht).2 ((hdom' t').1 ht').2⟩;simp only[eL]at ht;split at ht;·cases ht
  ·obtain⟨o',ho',rfl⟩:=Option.map_eq_some_iff.1 ht;exact(h.heap.holds t o' ho').eT (fun b hb=>⟨hb,rfl⟩) hDw rfl (fun _ _=>rfl)
 obtain⟨S1,hS1,hS1b,hcase⟩:∃S1:Nat→Prop,(∀b,S b→S1 b)∧(∀b,S1 b→b<w.heap.size∧b∉db β T)∧((ej T ks xs=true∧S1=S)∨((∀y∈lf x++[kg x],fI 5 y)∧∀b,b<w.heap.size→b∉db β T→S1 b)):=by
  have hSb:∀b,S b→b<w.heap.size∧b∉db β T:=fun b hb=>⟨hb.2.1,fun hm=>hb.2.2 (hTlive b hm).1⟩;rcases hpf with hp|hp;·exact⟨S,fun b hb=>hb,hSb,.inl ⟨hp,rfl⟩⟩
  ·exact⟨fun b=>b<w.heap.size∧b∉db β T,hSb,fun b hb=>hb,.inr ⟨hp,fun b h1 h2=>⟨h1,h2⟩⟩⟩
 obtain⟨bss,hts,hbs,_,hln,hlv⟩:=Gn h.heap hS1 hh' hwp hys hl hv (hcase.imp And.left fun hc t b ht hb=>hc.2 b (h.lt ((hdom' t).1 ht).2 hb) (hTinj t b ((hdom' t).1 ht).2 ((hdom' t).1 ht).1 hb));rw[←hT]at hbs;refine(hcon w S1 vals bss (fun b hb=>by rw[hbs];exact hS1b b hb) (by rw[hbs];exact hTnd) hts).mono ?_;rw[hbs];rintro e w' ⟨v,bss',rfl,hfr,hnd,hloc,hres⟩;let S3:Nat→Prop:=fun b=>(S0 b∨w0.heap.size≤b)∧b<w'.heap.size∧b∉bss'.flatten∧¬∃t,ay st.aa t∧t∉T∧b9 (β t)=some b;have hTold:∀b∈db β T,S0 b∨w0.heap.size≤b:=by intro b hb;obtain⟨t,ht,hb⟩:=List.mem_filterMap.1 hb;exact(h.old t b (hTd t ht) hb).elim .inr fun hl=>.inl (hL (fun e=>by rw[e]at ht;cases ht) b hl)
 have hres3:E2 P S3 w' (eg ys vals++[v]) (lf x++[kg x]) bss':=by
  refine⟨hres.1,hres.2.1,fun i y u bs a1 a2 a3=>?_⟩;have hx:=hres.2.2 i y u bs a1 a2 a3;rcases hcase with⟨_,hSe⟩|⟨hfl,_⟩
  ·refine hx.mono ?_;rw[hSe];rintro b ⟨h1,h2,h3⟩;refine⟨?_,h2,h3,?_⟩
   ·rcases h1 with h1|h1|h1;·exact h1.1
    ·exact hTold b h1
    ·exact .inr (Nat.le_trans h.bK.size h1)
   ·rintro⟨t,ht,hn,hb⟩;rcases h1 with h1|h1|h1;·obtain⟨o,ho⟩:=ht;exact h1.2.2 ⟨t,o,ho,hb⟩
    ·exact hTinj t b ht hn hb h1
    ·have:=h.lt ht hb;omega
  ·exact hx.flat 5 (hfl y (List.mem_of_getElem? a1))
 obtain⟨p1,n1,l1⟩:=oa (P:=P) (S:=S3) (S':=S3) (w:=w') (pO (fun b hb=>hb) 5 true) (lf x) _ o ho;obtain⟨p2,l2⟩:=pO (P:=P) (S:=S3) (S':=S3) (w:=w') (fun b hb=>hb) 5 false _ _ r hr;have hlen:(eg ys vals).length=(lf x).length:=by rw[hln,←ho1,n1]
 obtain⟨b1,bl,rfl,ht1,ht2⟩:=hres3.snoc hlen;rw[List.flatten_append,List.nodup_append]at hnd;have ebl:[bl].flatten=bl:=by simp
 rw[ebl]at hnd;have hsn:=p1.nodup_iff.2 hQn;rw[List.nodup_append]at hsn;have k1:=l1 (eg ys vals) b1 ht1 hnd.1 hQn;have k2:=l2 v bl ht2 hnd.2.1 hsn.2.1;have hsub2:∀p∈r.2.1,p.1∈o.2.2.1++o.2.2.2:=fun p hp=>p2.mem_iff.1 (List.mem_append_left _ (List.mem_map_of_mem hp));obtain⟨βn,c1,c2,c3⟩:=k1.append k2 (fun b hb hb'=>hnd.2.2 b hb b hb' rfl) fun p hp q hq e=>hsn.2.2 _ (List.mem_map_of_mem hp) _ (hsub2 q hq) e;have ebs:(b1++[bl]).flatten=b1.flatten++bl:=by rw[List.flatten_append,ebl]
 rw[ebs]at hloc;have htag:∀p∈o.2.1++r.2.1,p.1∈Q++pe d T W:=by
  intro p hp;rcases List.mem_append.1 hp with hp|hp;·exact p1.mem_iff.1 (List.mem_append_left _ (List.mem_map_of_mem hp))
  ·exact p1.mem_iff.1 (List.mem_append_right _ (hsub2 p hp))
 generalize hos:o.2.1++r.2.1=os at*;let β2:Nat→Value:=fun t=>if∃p∈os,p.1=t then βn t else β t;let objs2:Nat→Option AO:=bp os (eL T W st.aa);have hβn:∀p∈os,β2 p.1=βn p.1:=fun p hp=>if_pos ⟨p,hp,rfl⟩;have hβo:∀t,(∀p∈os,p.1≠t)→β2 t=β t:=fun t ht=>if_neg fun⟨p,hp,e⟩=>ht p hp e;have hobj:∀t o',objs2 t=some o'→((t,o')∈os)∨((∀p∈os,p.1≠t)∧t∉T∧∃o0,st.aa t=some o0∧o'=jj W o0):=by intro t o' ho';simp only[objs2,bp]at ho';cases hlk:ab os t with|some o1=>rw[hlk]at ho';cases ho';exact .inl (kb hlk)|none=>
  rw[hlk]at ho';simp only[eL]at ho';split at ho';·cases ho'
  ·rename_i hc;obtain⟨o0,h0,rfl⟩:=Option.map_eq_some_iff.1 ho';refine .inr ⟨fun p hp e=>?_,fun hm=>hc ((hcT t).2 hm),o0,h0,rfl⟩;obtain⟨o1,h1⟩:=mz hp;rw[e,hlk]at h1;cases h1
 have hdn:∀p∈os,ay objs2 p.1:=fun p hp=>by obtain⟨o1,h1⟩:=mz hp;exact⟨o1,by simp only[objs2,bp,h1]⟩
 have hdo:∀t,ay st.aa t→t∉T→ay objs2 t∧β2 t=β t:=by
  rintro t ⟨o0,h0⟩ hn;have hne:∀p∈os,p.1≠t:=fun p hp e=>by
   rcases hfree p hp with hc|hc;·exact hn (e▸(hcT _).1 hc)
   ·rw[e,h0]at hc;cases hc
  refine⟨?_,hβo t hne⟩;cases hlk:ab os t with|some o1=>exact absurd rfl (hne (t,o1) (kb hlk))|none=>exact⟨jj W o0,by simp only[objs2,bp,hlk,eL];rw[if_neg (fun hc=>hn ((hcT t).1 hc)),h0];rfl⟩
 have hlaid:=c1 β2 (ay objs2) fun p hp=>⟨hβn p hp,hdn p hp⟩;have hpin:∀t∈Q,β2 t=β t∧ay objs2 t:=by
  intro t ht;rw[hQ]at ht;obtain⟨c,hc,ht⟩:=List.mem_flatMap.1 ht;obtain⟨i,hi⟩:=List.getElem?_of_mem hc;have hlt:i<(eg ys vals).length:=by rw[hln];exact(List.getElem?_eq_some_iff.1 hi).1
  have hu:=List.getElem?_eq_getElem hlt;exact Ke (hlv i c _ hi hu) (hlaid.2.1 i c _ (by rw[ho1];exact hi) hu) t ht
 have hD:∀s,ay st.aa s→W.contains s=false→ay objs2 s∧β2 s=β s:=by
  intro s hs hc;by_cases hm:s∈T
  ·have:s∈Q:=by
    by_cases hq:s∈Q;·exact hq
    ·have:s∈W:=by rw[hW];exact List.mem_filter.2 ⟨hm,by simpa using hq⟩
     rw[List.contains_iff_mem.2 this]at hc;cases hc
   exact⟨(hpin s this).2,(hpin s this).1⟩
  ·exact hdo s hs hm
 have hnewb:∀p∈os,∀b,b9 (β2 p.1)=some b→b∈b1.flatten++bl:=fun p hp b hb=>by rw[hβn p hp]at hb;exact c2 p hp b hb
 have hlive2:∀b,live β2 objs2 b→b∈b1.flatten++bl∨∃t,ay st.aa t∧t∉T∧b9 (β t)=some b:=by
  rintro b ⟨t,o',ho',hb⟩;rcases hobj t o' ho' with hm|⟨h1,h2,o0,h3,_⟩;·exact .inl (hnewb _ hm b hb)
  ·rw[hβo t h1]at hb;exact .inr ⟨t,⟨o0,h3⟩,h2,hb⟩
 have hsame:∀b,b<w.heap.size→b∉db β T→w'.heap[b]?=w.heap[b]?:=fun b h1 h2=>hfr.block b h1 h2;have hm:∀b,S b→aS S0 w0.heap.size β2 objs2 w' b∧w'.heap[b]?=w.heap[b]?:=by
  rintro b ⟨h1,h2,h3⟩;have hnT:b∉db β T:=fun hm=>h3 (hTlive b hm).1;refine⟨⟨h1,Nat.lt_of_lt_of_le h2 hfr.size,fun hl=>?_⟩,hsame b h2 hnT⟩;rcases hlive2 b hl with hb|⟨t,⟨o0,h0⟩,_,hb⟩
  ·rcases hloc b hb with h4|h4;·omega
   ·exact hnT h4
  ·exact h3 ⟨t,o0,h0,hb⟩
 have hm3:∀b,S3 b→aS S0 w0.heap.size β2 objs2 w' b∧w'.heap[b]?=w'.heap[b]?:=by
  rintro b ⟨h1,h2,h3,h4⟩;refine⟨⟨h1,h2,fun hl=>?_⟩,rfl⟩;rcases hlive2 b hl with hb|hb;·exact h3 (by rw[ebs];exact hb)
  ·exact h4 hb
 have hrel:Rel P S0 L B0 w0 N ⟨gM W st.vars,objs2⟩ a w' β2:=by
  refine⟨h.size,h.defers,fun s=>(h.vars s).eT hm hD,⟨fun t o' ho'=>?_,fun t t' b ht ht' hb hb'=>?_⟩,fun t b ht hb=>?_,h.pY,fun t h9 ht=>?_,?_⟩
  ·rcases hobj t o' ho' with hmem|⟨h1,h2,o0,h3,rfl⟩;·exact(hlaid.1 (t,o') hmem).mono hm3 (fun _ hd=>⟨hd,rfl⟩) rfl (fun _ _=>rfl)
   ·exact(h.heap.holds t o0 h3).eT hm hD (hβo t h1) fun b hb=>hsame b (h.lt ⟨o0,h3⟩ hb) (hTinj t b ⟨o0,h3⟩ h2 hb)
  ·obtain⟨o1,ho1'⟩:=ht;obtain⟨o2,ho2'⟩:=ht';rcases hobj t o1 ho1' with hm1|⟨g1,g2,o0,g3,_⟩<;>rcases hobj t' o2 ho2' with hm2|⟨g1',g2',o0',g3',_⟩;·rw[hβn _ hm1]at hb;rw[hβn _ hm2]at hb';exact c3 _ hm1 _ hm2 b hb hb'
   ·rw[hβo t' g1']at hb';rcases hloc b (hnewb _ hm1 b hb) with h4|h4;·have:=h.lt ⟨o0',g3'⟩ hb';omega
    ·exact absurd h4 (hTinj t' b ⟨o0',g3'⟩ g2' hb')
   ·rw[hβo t g1]at hb;rcases hloc b (hnewb _ hm2 b hb') with h4|h4;·have:=h.lt ⟨o0,g3⟩ hb;omega
    ·exact absurd h4 (hTinj t b ⟨o0,g3⟩ g2 hb)
   ·rw[hβo t g1]at hb;rw[hβo t' g1']at hb';exact h.heap.inj t t' b ⟨o0,g3⟩ ⟨o0',g3'⟩ hb hb'
  ·obtain⟨o1,ho1'⟩:=ht;rcases hobj t o1 ho1' with hm1|⟨g1,g2,o0,g3,_⟩
   ·rcases hloc b (hnewb _ hm1 b hb) with h4|h4;·exact .inl (Nat.le_trans h.bK.size h4)
    ·obtain⟨s,hs,hb'⟩:=List.mem_filterMap.1 h4;exact h.old s b (hTd s hs) hb'
   ·rw[hβo t g1]at hb;exact h.old t b ⟨o0,g3⟩ hb
  ·obtain⟨o1,ho1'⟩:=ht;rcases hobj t o1 ho1' with hm1|⟨g1,g2,o0,g3,_⟩
   ·have hq:t∈Q:=by
     rcases List.mem_append.1 (htag _ hm1) with hq|hq;·exact hq
     ·exfalso;unfold pe at hq;rcases List.mem_append.1 hq with hq|hq;·have:=(List.mem_filter.1 hq).2;simp only[bne_iff_ne,ne_eq]at this;exact this h9
      ·have:=(List.mem_filter.1 hq).1;simp only[List.mem_cons,List.not_mem_nil,or_false]at this;omega
    rw[(hpin t hq).1];exact h.uI t h9 (hTd t (hQT t hq))
   ·rw[hβo t g1];exact h.uI t h9 ⟨o0,g3⟩
  ·exact⟨hfr.os.trans h.bK.os,hfr.tape.trans h.bK.tape,hfr.output.trans h.bK.output,Nat.le_trans h.bK.size hfr.size,fun b h1 h2=>(hsame b (by have:=h.bK.size;omega) fun hm=>by
    rcases List.mem_filterMap.1 hm with⟨s,hs,hb'⟩;rcases h.old s b (hTd s hs) hb' with h3|h3;·omega
    ·exact h2 h3).trans (h.bK.block b h1 h2)⟩
 exact⟨v,β2,rfl,hrel,hlaid.2.2.mono hm3 fun _ hd=>⟨hd,rfl⟩⟩
theorem Aq:∀{xs ys:List AV},ft st.aa xs=some ys→Bd st.aa st.aa [] (xs.map fun _=>0) xs=some ys|[],_,h=>h|x::xs,ys,h=>by obtain⟨y,hy,h⟩:=Option.bind_eq_some_iff.1 h;obtain⟨l,hl,rfl⟩:=Option.map_eq_some_iff.1 h;show(oL st.aa x).bind _=_;rw[hy];show((Bd st.aa st.aa [] (xs.map fun _=>0) xs).map _)=_;rw[Aq hl];rfl
theorem s9:∀xs:List AV,eF st.aa (xs.map fun _=>0) xs=[]|[]=>rfl|x::xs=>by show[]++eF st.aa (xs.map fun _=>0) xs=[];rw[s9 xs];rfl
theorem nz:∀xs:List AV,dZ (xs.map fun _=>0) xs=[]|[]=>rfl|x::xs=>by show dZ (xs.map fun _=>0) xs=[];exact nz xs
theorem qz:∀xs:List AV,ej [] (xs.map fun _=>0) xs=eE xs|[]=>rfl|x::xs=>by show((0 !=0||ed x)&&ej [] (xs.map fun _=>0) xs)=_;rw[qz xs];rfl
theorem wH (f:Nat→Option AO):eL [] [] f=f:=by funext t;show(f t).map (jj [])=f t;cases f t<;>rfl
theorem qG (d:Nat):(jX d).Nodup:=by simp[jX,List.nodup_cons]
theorem yZ {r:AV} (h:kE r):Gq r=false:=by
 by_cases hx:∃cs,r=.agg cs;·obtain⟨cs,rfl⟩:=hx;have h:oU cs:=h;show cs.any _=false;induction cs with|nil=>rfl|cons c cs ih=>rw[List.any_cons,ih h.2 h.2,Bool.or_false];have:=h.1;cases c<;>first|rfl|exact this.elim
 ·have h:mY r:=by rw[←zm r fun cs e=>hx ⟨cs,e⟩];exact h
  cases r<;>first|rfl|exact h.elim
theorem Cz {r:AV} (h:flat r):nZ r=false:=by
 by_cases hx:∃vs,r=.aJ vs;·obtain⟨vs,rfl⟩:=hx;have h:rC vs:=h;show vs.any Gq=false;induction vs with|nil=>rfl|cons c cs ih=>rw[List.any_cons,ih h.2 h.2,Bool.or_false];exact yZ h.1
 ·have h:kE r:=by rw[←C8 r fun cs e=>hx ⟨cs,e⟩];exact h
  have:nZ r=Gq r:=by cases r<;>first|rfl|exact absurd ⟨_,rfl⟩ hx
  rw[this];exact yZ h
theorem ue {r:AV} (h:nZ r=false) (d:Nat):jZ d r=aM d r:=by unfold jZ;rw[h];rfl
theorem sD {r:AV} (h:nZ r=false) (d:Nat):yK d r=cI (kW d) r:=by unfold yK;rw[h];rfl
theorem sd {r:AV} (h:nZ r=false) (d:Nat):yS d r=cP r:=by unfold yS;rw[h];rfl
theorem qP {r:AV} (h:nZ r=false):qS r=flat r:=by unfold qS;rw[h];rfl
theorem mr {f:AV→List Nat×List Nat→Option (AV×List (Nat×AO)×List Nat×List Nat)} (hf:∀y s q,f y s=some q→(q.2.1.map (·.1)++(q.2.2.1++q.2.2.2)).Perm (s.1++s.2)):∀(ys:List AV) (s:List Nat×List Nat) (q:List AV×List (Nat×AO)×List Nat×List Nat),nK f ys s=some q→(q.2.1.map (·.1)++(q.2.2.1++q.2.2.2)).Perm (s.1++s.2)|[],s,q,h=>by cases h;exact .refl _|y::ys,s,q,h=>by obtain⟨r,hr,h⟩:=Option.bind_eq_some_iff.1 h;obtain⟨q',hq,rfl⟩:=Option.map_eq_some_iff.1 h;rw[List.map_append,List.append_assoc];exact((mr hf ys r.2.2 q' hq).append_left _).trans (hf y s r hr)
theorem nW:∀(n:Nat) (top:Bool) (y:AV) (s:List Nat×List Nat) (q:AV×List (Nat×AO)×List Nat×List Nat),num n top y s=some q→(q.2.1.map (·.1)++(q.2.2.1++q.2.2.2)).Perm (s.1++s.2)
 |0,_,_,_,_,h=>by cases h|n+1,top,y,s,q,h=>by
  unfold num at h;split at h;·obtain⟨k,hk,rfl⟩:=Option.map_eq_some_iff.1 h;exact mw hk
  ·obtain⟨k,hk,rfl⟩:=Option.map_eq_some_iff.1 h;exact mw hk
  ·obtain⟨k,hk,h⟩:=Option.bind_eq_some_iff.1 h;obtain⟨r,hr,rfl⟩:=Option.map_eq_some_iff.1 h;exact((mr (nW n false) _ k.2 r hr).cons k.1).trans (mw hk)
  ·obtain⟨r,hr,rfl⟩:=Option.map_eq_some_iff.1 h;exact mr (nW n top) _ s r hr
  ·obtain⟨r,hr,rfl⟩:=Option.map_eq_some_iff.1 h;exact mr (nW n top) _ s r hr
  ·cases h;exact .refl _
  ·cases h;exact .refl _
  ·split at h;·cases h;exact .refl _
   ·cases h
  ·cases h
theorem wD (d:Nat) (r:AV):∀x∈jZ d r,∃p,x.1=d+1000*p:=by
 intro x hx;unfold jZ at hx;split at hx;·cases hn:num 5 false r ([],jX d) with|none=>rw[hn]at hx;simp at hx|some q=>
  rw[hn]at hx;have hp:=nW 5 false r _ q hn;have hm:x.1∈jX d:=by simpa using hp.mem_iff.1 (List.mem_append_left _ (List.mem_map_of_mem (by simpa using hx)))
  simp only[jX,List.mem_cons,List.not_mem_nil,or_false]at hm;rcases hm with h|h|h|h|h|h|h|h;·exact⟨0,h⟩
  ·exact⟨1,h⟩
  ·exact⟨2,h⟩
  ·exact⟨3,h⟩
  ·exact⟨4,h⟩
  ·exact⟨5,h⟩
  ·exact⟨6,h⟩
  ·exact⟨7,h⟩
 ·unfold aM at hx;obtain⟨y,_,rfl⟩:=List.mem_map.1 hx;exact⟨y.1,rfl⟩
theorem lM (h:Rel P S0 L B0 w0 N st a w β) {f:FuncId}{d:Nat} (hd9:d%1000≠999) {vals:List Value}{xs ys:List AV}{r:AV} (hl:vals.length=xs.length) (hv:∀(i:Nat) (v:Value) (x:AV),vals[i]?=some v→xs[i]?=some x→RV P (aS S0 w0.heap.size β st.aa w) w β (ay st.aa) v x) (hre:ft st.aa xs=some ys) (hcon:PW P f ys r) (hpf:eE xs=true∨qS r) (hfree:∀x∈jZ d r,st.aa x.1=none) (hres:yS d r=true):Calls P f vals.toArray w fun e w'=>∃v β',e=.returned v∧Rel P S0 L B0 w0 N ⟨st.vars,bp (jZ d r) st.aa⟩ a w' β'∧RV P (aS S0 w0.heap.size β' (bp (jZ d r) st.aa) w') w' β' (ay (bp (jZ d r) st.aa)) v (yK d r):=by unfold jZ at hfree ⊢;unfold yK;unfold yS at hres;unfold qS at hpf;cases ht:nZ r with|false=>simp only[ht,Bool.false_eq_true,if_false]at hfree hres hpf ⊢;exact A3 h hd9 hl hv hre (hcon.2 ht) hpf hfree hres|true=>simp only[ht,if_true]at hfree hres hpf ⊢;obtain⟨q,hq⟩:=Option.isSome_iff_exists.1 hres;rw[hq]at hfree ⊢;simp only[Option.map_some,Option.getD_some]at hfree ⊢;have:=HB (T:=[]) (Q:=[]) (W:=[]) (fun e=>absurd rfl e) h hd9 (ks:=xs.map fun _=>0) hl hv (s9 xs).symm (by rw[nz];rfl) rfl List.nodup_nil (fun t ht=>by cases ht) (qG d) (by rw[wH];exact Aq hre) (hcon.1 ht) (by rw[qz];exact hpf.imp id fun hf y hy=>by simp only[lf,kg,List.nil_append,List.mem_singleton]at hy;rw[hy];exact hf) (o:=([],[],([],jX d))) rfl (nz xs).symm hq (fun p hp=>.inr (hfree p hp));rw[wH]at this;exact this
end
theorem uh {k k':IntKind} (h:mK k=mK k'):k=k':=by cases k<;>cases k'<;>first|rfl|(simp[mK]at h)
theorem ry:∀{a c b d:List PV},a.length=c.length→ja (a++b) (c++d)=(ja a c&&ja b d)|[],[],b,d,_=>by simp[ja]|x::a,y::c,b,d,h=>by simp only[List.cons_append,ja];rw[ry (by simpa using h),Bool.and_assoc]|[],_::_,_,_,h=>by simp at h|_::_,[],_,_,h=>by simp at h
section
variable{P:Program}
def Fi (P:Program) (t:TypeId) (us:List Value):Value:=match P.underlying t with|some (.struct _)|some (.array _ _)=>.agg us.toArray|_=>us.headD undef
theorem Db (w:World) {t:TypeId}{n:Nat}{A us rest:List Value} (ht:(P.underlying t).isSome=true) (hn:cm P t=some n) (hl:us.length=n) (h1:(∃fs,P.underlying t=some (.struct fs))∨(us≠[]∧∀k e,P.underlying t≠some (.array k e))):(part t (A++us++rest).toArray A.length).run P w=.ok (Fi P t us) w:=by
 obtain⟨d,hd⟩:=Option.isSome_iff_exists.1 ht;obtain⟨i,hi,hsz⟩:∃i,P.info? t=some i∧i.size=n:=by unfold cm at hn;obtain⟨i,hi,rfl⟩:=Option.map_eq_some_iff.1 hn;exact⟨i,hi,rfl⟩
 have hs:(Go.sizeOf t).run P w=.ok n w:=by simp[Go.sizeOf,typeInfo,hi,hsz]
 have hagg:(∃fs,d=.struct fs)→(part t (A++us++rest).toArray A.length).run P w=.ok (.agg us.toArray) w:=by
  rintro⟨fs,rfl⟩;have he:(A++us++rest).toArray.extract A.length (A.length+n)=us.toArray:=by apply Array.ext';simp only[List.extract_toArray,List.extract_eq_take_drop];rw[List.append_assoc,List.drop_left,Nat.add_sub_cancel_left,←hl,List.take_left]
  simp only[part,isAgg,Sem.run_bind,run_underlying hd,hs,Result.andThen_ok,Sem.run_pure,if_true,he]
 unfold Fi;rw[hd];rcases h1 with⟨fs,h1⟩|⟨h1,h2⟩;·rw[hd]at h1;cases h1;exact hagg ⟨fs,rfl⟩
 ·match us,h1 with
  |u::l,_=>
   have h4:(A++(u::l)++rest).toArray[A.length]?=some u:=by simp
   cases d with|struct fs=>exact hagg ⟨fs,rfl⟩|array k e=>exact absurd hd (h2 k e)|_=>simp[part,isAgg,run_underlying hd,Result.andThen]
theorem vQ {p:PV} (h:dk p=0):∃b,p=.bool b:=by cases p<;>simp[dk]at h;exact⟨_,rfl⟩
theorem zz {p:PV} (h:dk p=1):∃l,p=.str l:=by cases p with|str l=>exact⟨l,rfl⟩|int k n=>simp only[dk]at h;omega|_=>simp[dk]at h
theorem zJ {p:PV}{k:IntKind} (h:dk p=2+mK k):∃n,p=.int k n:=by
 have:mK k≤7:=by cases k<;>decide
 cases p with|int k' n=>simp only[dk]at h;have:=uh (show mK k'=mK k by omega);subst this;exact⟨n,rfl⟩|bool b=>simp only[dk]at h;omega|str b=>simp only[dk]at h;omega|_=>simp only[dk]at h;omega
theorem GF (a b:List UInt8):((⟨a.toArray⟩:ByteArray).toList==(⟨b.toArray⟩:ByteArray).toList)=decide (a=b):=by
 rw[ByteArray.toList_eq,ByteArray.toList_eq];by_cases h:a=b;·subst h;simp
 ·simp[h]
theorem BD:∀(n:Nat) (t:TypeId) (ks:List Nat),jr P n t=some ks→(P.underlying t).isSome=true∧((∃fs,P.underlying t=some (.struct fs))∨(ks≠[]∧∀k e,P.underlying t≠some (.array k e)))
 |0,t,ks,h=>by cases h|n+1,t,ks,h=>by
  unfold jr at h;split at h;·rename_i hu;cases h;rw[hu];exact⟨rfl,.inr ⟨by simp,fun k e h=>by cases h⟩⟩
  ·rename_i hu;cases h;rw[hu];exact⟨rfl,.inr ⟨by simp,fun k e h=>by cases h⟩⟩
  ·rename_i hu;cases h;rw[hu];exact⟨rfl,.inr ⟨by simp,fun k e h=>by cases h⟩⟩
  ·rename_i fs hu;rw[hu];exact⟨rfl,.inl ⟨fs,rfl⟩⟩
  ·cases h
theorem wz {f:TypeId→Option (List Nat)}{d:Nat} (hl:∀t ks,f t=some ks→(P.underlying t).isSome=true∧((∃fs,P.underlying t=some (.struct fs))∨(ks≠[]∧∀k e,P.underlying t≠some (.array k e)))) (hf:∀t ks,f t=some ks→∀(w:World) (ps qs:List PV),ps.map dk=ks→qs.map dk=ks→(Op.equalIn d t (Fi P t (ps.map bR)) (Fi P t (qs.map bR))).run P w=.ok (ja ps qs) w) (w:World):∀(fs:List Field) (off:Nat) (ks:List Nat) (A B:List Value) (ps qs:List PV),mq P f off fs=some ks→A.length=off→B.length=off→ps.map dk=ks→qs.map dk=ks→(Op.eqFields d (A++ps.map bR).toArray (B++qs.map bR).toArray fs).run P w=.ok (ja ps qs) w
 |[],off,ks,A,B,ps,qs,h,hA,hB,hp,hq=>by cases h;have:ps=[]:=List.map_eq_nil_iff.1 hp;have:qs=[]:=List.map_eq_nil_iff.1 hq;subst_vars;simp[Op.eqFields,ja]|fl::fs,off,ks,A,B,ps,qs,h,hA,hB,hp,hq=>by
  unfold mq at h;split at h
  ·rename_i hc;obtain⟨hn,ho⟩:=hc;obtain⟨a,ha,h⟩:=Option.bind_eq_some_iff.1 h;split at h
   ·rename_i hs;obtain⟨r,hr,rfl⟩:=Option.map_eq_some_iff.1 h;have key:∀l:List PV,l.map dk=a++r→∃l1 l2,l=l1++l2∧l1.map dk=a∧l2.map dk=r:=by intro l h;obtain⟨l1,l2,rfl,h1,h2⟩:=List.map_eq_append_iff.1 h;exact⟨l1,l2,rfl,h1,h2⟩
    obtain⟨p1,p2,rfl,hp1,hp2⟩:=key ps hp;obtain⟨q1,q2,rfl,hq1,hq2⟩:=key qs hq;have l1:p1.length=a.length:=by rw[←hp1];simp
    have l2:q1.length=a.length:=by rw[←hq1];simp
    obtain⟨g1,g2⟩:=hl _ _ ha;have e1:((fl.offset:Nat))=A.length:=by rw[hA,ho]
    have e2:A.length=B.length:=by rw[hA,hB]
    have hpa:=Db (P:=P) (t:=fl.type) (n:=a.length) (A:=A) (us:=p1.map bR) (rest:=p2.map bR) w g1 hs (by simpa using l1) (g2.imp id fun h=>⟨by intro h0;apply h.1;rw[←hp1,List.map_eq_nil_iff.1 h0];rfl,h.2⟩);have hqa:=Db (P:=P) (t:=fl.type) (n:=a.length) (A:=B) (us:=q1.map bR) (rest:=q2.map bR) w g1 hs (by simpa using l2) (g2.imp id fun h=>⟨by intro h0;apply h.1;rw[←hq1,List.map_eq_nil_iff.1 h0];rfl,h.2⟩);have ih:=wz hl hf w fs (off+a.length) r (A++p1.map bR) (B++q1.map bR) p2 q2 hr (by simp[hA,l1]) (by simp[hB,l2]) hp2 hq2;rw[List.map_append,List.map_append,←List.append_assoc,←List.append_assoc,ry (by rw[l1,l2])];unfold Op.eqFields;rw[if_pos hn,e1];simp only[Sem.run_bind,hpa,Result.andThen_ok];rw[e2];simp only[hqa,Result.andThen_ok,hf _ _ ha w p1 q1 hp1 hq1];cases h1:ja p1 q1 with|true=>simp only[Bool.not_true,Bool.false_eq_true,if_false,Bool.true_and];exact ih|false=>simp
   ·cases h
  ·cases h
theorem zk (hst:∀t,t<P.types.size∧EU P t=false→P.stoodInHeld t=false):∀(n:Nat) (t:TypeId) (ks:List Nat),jr P n t=some ks→∀(d:Nat),n≤d→∀(w:World) (ps qs:List PV),ps.map dk=ks→qs.map dk=ks→(Op.equalIn d t (Fi P t (ps.map bR)) (Fi P t (qs.map bR))).run P w=.ok (ja ps qs) w
 |0,t,ks,h=>by cases h|n+1,t,ks,h=>by
  intro d hd w ps qs hp hq;obtain⟨d,rfl⟩:∃e,d=e+1:=⟨d-1,by omega⟩;have one:∀k,ks=[k]→∃p q,ps=[p]∧qs=[q]∧dk p=k∧dk q=k:=by rintro k rfl;rcases ps with _|⟨p,_|⟨p',ps⟩⟩<;>simp at hp;rcases qs with _|⟨q,_|⟨q',qs⟩⟩<;>simp at hq;exact⟨p,q,rfl,rfl,hp,hq⟩
  unfold jr at h;split at h;·rename_i hu;injection h with h;obtain⟨p,q,rfl,rfl,h1,h2⟩:=one _ h.symm;obtain⟨b,rfl⟩:=vQ h1;obtain⟨c,rfl⟩:=vQ h2;simp only[Fi,hu,List.map_cons,List.map_nil,List.headD_cons,bR];rw[run_equalIn_bool' w d t b c hu];cases b<;>cases c<;>rfl
  ·rename_i hu;injection h with h;obtain⟨p,q,rfl,rfl,h1,h2⟩:=one _ h.symm;obtain⟨b,rfl⟩:=zz h1;obtain⟨c,rfl⟩:=zz h2;simp only[Fi,hu,List.map_cons,List.map_nil,List.headD_cons,bR];rw[run_equalIn_string w d t _ _ hu,GF];simp[ja,mm]
  ·rename_i k hu;injection h with h;obtain⟨p,q,rfl,rfl,h1,h2⟩:=one _ h.symm;obtain⟨b,rfl⟩:=zJ h1;obtain⟨c,rfl⟩:=zJ h2;simp only[Fi,hu,List.map_cons,List.map_nil,List.headD_cons,bR];rw[run_equalIn_int w d t k k b c hu];simp only[ja,mm,Bool.and_true];rfl
  ·rename_i fs hu;split at h
   ·rename_i ht;have hfo:P.fieldsOf t=fs:=by simp[Program.fieldsOf,hu]
    simp only[Fi,hu];rw[run_equalIn_struct w d t _ _ (by rw[hfo];exact hu) (hst t ht),hfo];have:=wz (P:=P) (f:=jr P n) (d:=d) (fun t ks h=>BD n t ks h) (fun t ks h w ps qs=>zk hst n t ks h d (by omega) w ps qs) w fs.toList 0 ks [] [] ps qs h rfl rfl hp hq;simpa using this
   ·cases h
  ·cases h
end
section
variable{P:Program}{S:Nat→Prop}{w:World}{β:Nat→Value}{aa:Nat→Option AO}{a:Act}{o:Oper}{x y:Operand}
theorem pK:∀{cs:List AV}{ps:List PV},eQ cs=some ps→cs=ps.map .pv|[],ps,h=>by cases h;rfl|c::cs,ps,h=>by simp only[eQ,Option.bind_eq_some_iff,Option.map_eq_some_iff]at h;obtain⟨p,hp,l,hl,rfl⟩:=h;rw[pK hl];cases c<;>simp[DF]at hp;subst hp;rfl
theorem sr {D:Nat→Prop}{ps:List PV}{ks:List Nat} (hks:∀k∈ks,k<99) (hs:ps.map dk=ks) {us:List Value} (hl:us.length=(ps.map AV.pv).length) (hr:∀(i:Nat) (c:AV) (u:Value),(ps.map AV.pv)[i]?=some c→us[i]?=some u→RV P S w β D u c):us=ps.map bR:=by
 subst hs;have hl':us.length=ps.length:=by simpa using hl
 apply List.ext_getElem?;intro i;cases hu:us[i]? with|none=>have:us.length≤i:=List.getElem?_eq_none_iff.1 hu;rw[List.getElem?_eq_none (by simp;omega)]|some u=>have hi:i<us.length:=(List.getElem?_eq_some_iff.1 hu).1;obtain⟨p,hp⟩:∃p,ps[i]?=some p:=⟨ps[i],List.getElem?_eq_getElem (by omega)⟩;have h3:=(hr i (.pv p) u (by simp[hp]) hu).bh;have h4:=hks (dk p) (by simp only[List.mem_map];exact⟨_,List.mem_of_getElem? hp,rfl⟩);rw[List.getElem?_map,hp];simp only[Option.map_some,Option.some.injEq];cases h3 with|int q n=>rfl|bool b=>rfl|str l=>rfl|_=>simp only[dk]at h4;omega
theorem oH {f:TypeId→Option (List Nat)}{d:Nat} (hf:∀t ks,f t=some ks→P.eqGuardType d t=false):∀(fs:List Field) (off:Nat) (ks:List Nat),mq P f off fs=some ks→∀fl∈fs,P.eqGuardType d fl.type=false
 |[],_,_,_,fl,hm=>by cases hm|f1::fs,off,ks,h,fl,hm=>by
  unfold mq at h;split at h
  ·obtain⟨a,ha,h⟩:=Option.bind_eq_some_iff.1 h;split at h
   ·obtain⟨r,hr,rfl⟩:=Option.map_eq_some_iff.1 h;rcases List.mem_cons.1 hm with rfl|hm;·exact hf _ _ ha
    ·exact oH hf fs _ _ hr fl hm
   ·cases h
  ·cases h
theorem guard_of:∀(n:Nat) (t:TypeId) (ks:List Nat),jr P n t=some ks→∀d,n≤d→P.eqGuardType d t=false
 |0,t,ks,h=>by cases h|n+1,t,ks,h=>by
  intro d hd;obtain⟨d,rfl⟩:∃e,d=e+1:=⟨d-1,by omega⟩;unfold jr at h;unfold Program.eqGuardType;split at h;·rename_i hu;rw[hu]
  ·rename_i hu;rw[hu]
  ·rename_i hu;rw[hu]
  ·rename_i fs hu;split at h;·simp only[hu,←Array.any_toList,List.any_eq_false];intro fl hfl;simp[oH (fun t ks h=>guard_of n t ks h d (by omega)) _ _ _ h fl hfl]
   ·cases h
  ·cases h
theorem Lo (hst:∀t,t<P.types.size∧EU P t=false→P.stoodInHeld t=false) {ne:Bool}{t yt:TypeId}{fs:Array Field}{ks:List Nat} (ho:o.op=.binOp (if ne=true then .neq else .eql) t x y yt) (hu:P.underlying t=some (.struct fs)) (hk:jr P 8 t=some ks) (hks:ks.all (·<99)=true) {X Y:AV} (hX:RV P S w β (ay aa) (a.eval x) X) (hY:RV P S w β (ay aa) (a.eval y) Y) {φ:Prop}{v:AV} (h:aj (.eqs ne ks) [X,Y] aa=some (φ,v)) (hφ:φ):∃r,(execOp a.eval o).run P w=.ok (.value r) w∧RV P S w β (ay aa) r v:=by
 have hg:P.eqGuardType P.depth t=false:=guard_of 8 t ks hk _ (by unfold Program.depth Made.depth;omega);have hks':∀k∈ks,k<99:=fun k hk=>by simpa using(List.all_eq_true.1 hks) k hk
 cases X with
 |agg xs=>cases Y with
  |agg ys=>simp only[aj,Option.bind_eq_some_iff,Option.map_eq_some_iff]at h;obtain⟨ps,hps,qs,hqs,he⟩:=h;cases he;cases pK hps;cases pK hqs;obtain⟨us,hxu,hul,hur⟩:=hX.cN;obtain⟨vs,hyv,hvl,hvr⟩:=hY.cN;have e1:=sr hks' hφ.1 hul hur;have e2:=sr hks' hφ.2 hvl hvr;have hrun:=zk hst 8 t ks hk 10000 (by omega) w ps qs hφ.1 hφ.2;simp only[Fi,hu]at hrun;rw[e1]at hxu;rw[e2]at hyv;cases ne with|false=>exact⟨_,by simp[execOp,ho,hxu,hyv,run_eqGuard_agg w .eql t x y _ _ hg,run_eql_struct,hrun,Result.andThen],.pv _ _ (.bool _)⟩|true=>exact⟨_,by simp[execOp,ho,hxu,hyv,run_eqGuard_agg w .neq t x y _ _ hg,run_neq_struct,hrun,Result.andThen],.pv _ _ (.bool _)⟩
  |_=>simp[aj]at h
 |_=>simp[aj]at h
end
theorem gq {P:Program}{kt:TypeId}{s:Nat} (h:jA P kt=some s):∃d,P.underlying kt=some d∧∀k,dk k=s→MapKept.IsKey d (bR k):=by
 unfold jA at h;split at h;·rename_i hu;injection h with h;subst h;refine⟨_,hu,fun k hk=>?_⟩;cases k<;>first|trivial|(simp[dk]at hk)
 ·rename_i hu;injection h with h;subst h;refine⟨_,hu,fun k hk=>?_⟩;cases k<;>first|trivial|(simp[dk]at hk;try omega)
 ·rename_i q hu;injection h with h;subst h;refine⟨_,hu,fun k hk=>?_⟩;cases k with
  |int k n=>simp only[dk]at hk;exact uh (by omega)|bool b=>simp only[dk]at hk;omega|str l=>simp only[dk]at hk;omega
  | _=>simp only[dk]at hk;have:mK q≤7:=by cases q<;>decide
       omega
 ·cases h
theorem oN {k k':PV}{s:Nat} (h:dk k=s) (h':dk k'=s) (hs:s<99):mm k k'=true↔bR k'=bR k:=by subst h;cases k<;>cases k'<;>simp only[dk]at h' hs<;>first|omega|(have:_:=uh (Nat.add_left_cancel h');subst this;simp[mm,bR,eq_comm])|simp[mm,bR,eq_comm]
theorem ng {P:Program}{kt:TypeId}{s:Nat} (h:jA P kt=some s):s<99:=by
 unfold jA at h;split at h;·injection h with h;omega
 ·injection h with h;omega
 ·rename_i q _;injection h with h;have:mK q≤7:=by cases q<;>decide
  omega
 ·cases h
theorem j7 {P:Program}{S:Nat→Prop}{w:World}{β:Nat→Value}{D:Nat→Prop}{u:Value}{p:PV}{s:Nat} (h:RV P S w β D u (.pv p)) (hp:dk p=s) (hs:s<99):u=bR p:=by have h:=h.bh;cases h with|int q n=>rfl|bool b=>rfl|str l=>rfl|_=>simp only[dk]at hp;omega
theorem fv {P:Program}{t k e:TypeId} (h:iZ P t=some (k,e)):P.underlying t=some (.map k e):=by
 unfold iZ at h;split at h;·rename_i hu;cases h;exact hu
 ·cases h
theorem ib {d:TypeDesc}{k:PV}{s:Nat} (hd:∀k,dk k=s→MapKept.IsKey d (bR k)) (hk:dk k=s) (hs:s<99):∀(us:List MapEntry) (es:List (PV×PV)) (n:Nat),fm s es→us.length=es.length→(∀(i:Nat) (e:PV×PV) (u:MapEntry),es[i]?=some e→us[i]?=some u→u.key=bR e.1)→(Instr.findNow d (bR k) us n=some none∧ln k es=none∧(∀v,lS k v es=es++[(k,v)])∧qu k es=es∧∀u∈us,u.key≠bR k)∨∃j e u,Instr.findNow d (bR k) us n=some (some (n+j,u.val))∧es[j]?=some e∧us[j]?=some u∧u.key=bR k∧ln k es=some e.2∧(∀v,lS k v es=es.set j (k,v))∧qu k es=es.eraseIdx j|[],[],_,_,_,_=>.inl ⟨rfl,rfl,fun v=>rfl,rfl,fun u hu=>by simp at hu⟩|[],_::_,_,_,hl,_=>by simp at hl|_::_,[],_,_,hl,_=>by simp at hl|u::us,e::es,n,hks,hl,hu=>by have h1:=hu 0 e u rfl rfl;have hke:=hks e (by simp);obtain⟨r,hr,hiff⟩:=MapKept.sameNow_of_keys (hd k hk) (hd e.1 hke);rw[←h1]at hr;cases r with|true=>have h2:bR k=bR e.1:=hiff.1 rfl;have h3:mm k e.1=true:=(oN hk hke hs).2 h2.symm;exact .inr ⟨0,e,u,by simp[Instr.findNow,hr],rfl,rfl,h1.trans h2.symm,by simp only[ln];rw[if_pos h3],fun v=>by simp only[lS];rw[if_pos h3];rfl,by simp only[qu];rw[if_pos h3];rfl⟩|false=>
 have h3:¬mm k e.1=true:=fun h=>by have:=hiff.2 ((oN hk hke hs).1 h).symm;cases this
 have h4:u.key≠bR k:=fun h=>by have:=hiff.2 (h.symm.trans h1);cases this
 rcases ib hd hk hs us es (n+1) (fun x hx=>hks x (by simp[hx])) (by simpa using hl) (fun i x y hx hy=>hu (i+1) x y (by simpa using hx) (by simpa using hy)) with⟨g1,g2,g3,g4,g5⟩|⟨j,e',u',g1,g2,g3,g4,g5,g6,g7⟩
 ·refine .inl ⟨by simp[Instr.findNow,hr,g1],by simp only[ln];rw[if_neg h3];exact g2,fun v=>by simp only[lS];rw[if_neg h3,g3 v];rfl,by simp only[qu];rw[if_neg h3,g4],fun x hx=>?_⟩;rcases List.mem_cons.1 hx with rfl|hx;·exact h4
  ·exact g5 x hx
 ·exact .inr ⟨j+1,e',u',by simp[Instr.findNow,hr,g1];omega,by simpa using g2,by simpa using g3,g4,by simp only[ln];rw[if_neg h3];exact g5,fun v=>by simp only[lS];rw[if_neg h3,g6 v];rfl,by simp only[qu];rw[if_neg h3,g7];rfl⟩
theorem Du {P:Program}{o:Oper}{s:Nat}{z:Value}{ok:Bool}{xs:List Operand} (h:jt P o=(.E3 s z ok,xs)):∃t m k kt et,o.op=.lookup t m k ok∧iZ P t=some (kt,et)∧jA P kt=some s∧zeroV P et=some z∧xs=[m,k]:=by
 unfold jt at h;split at h
 ·rename_i r hr;subst h;unfold zp at hr;repeat' split at hr
  all_goals first|(cases hr;done)|(cases hr;exact⟨_,_,_,_,_,by assumption,by assumption,by assumption,by assumption,rfl⟩)
 ·cases hx:tC P o with|none=>rw[hx]at h;cases h|some r=>
   rw[hx]at h;have h:r=(.E3 s z ok,xs):=h;subst h;unfold tC xr at hx;repeat' split at hx
   all_goals cases hx
theorem A0 {P:Program}{o:Oper}{e:TypeId}{sz:Nat}{xs:List Operand} (h:jt P o=(.mJ e sz,xs)):∃t n ps zs,o.op=.buildSlice t n ps∧P.underlying t=some (.slice e)∧cm P e=some sz∧dE P e=some zs∧ps.toList.map (·.1)=List.range n∧n*sz≤2^24∧zs.length=sz∧0<sz∧xs=ps.toList.map (·.2):=by
 unfold jt at h;split at h
 ·rename_i r hr;subst h;unfold zp at hr;repeat' split at hr
  all_goals cases hr
 ·cases hx:tC P o with|none=>rw[hx]at h;cases h|some r=>
   rw[hx]at h;have h:r=(.mJ e sz,xs):=h;subst h;unfold tC xr at hx;repeat' split at hx
   all_goals first|(cases hx;done)|(cases hx;rename_i hc;exact⟨_,_,_,_,by assumption,by assumption,by assumption,by assumption,hc.2.1,hc.2.2.1,hc.2.2.2.1,hc.2.2.2.2,rfl⟩)
section
variable{P:Program}{S:Nat→Prop}{w:World}{β:Nat→Value}{aa:Nat→Option AO}{a:Act}{o:Oper}
theorem Wp {t:TypeId}{m k:Operand}{kt et:TypeId}{s:Nat}{z:Value}{ok:Bool} (ho:o.op=.lookup t m k ok) (hm:iZ P t=some (kt,et)) (hsrt:jA P kt=some s) (hz:zeroV P et=some z) (hz1:z.oneCell'=true) {p:PV}{es:List (PV×PV)} (hX:RV P S w β (ay aa) (a.eval m) (.pv (.mv es))) (hK:RV P S w β (ay aa) (a.eval k) (.pv p)) (hp:dk p=s) (hks:fm s es):∃v,(execOp a.eval o).run P w=.ok (.value v) w∧RV P S w β (ay aa) v (xR z ok (ln p es)):=by have h1:=hX.bh;generalize hmv:a.eval m=mv at h1;cases h1 with|mv b us c es g1 hh hst hl g5 g6=>
 have hmt:=fv hm;obtain⟨d,hdk,hkey⟩:=gq hsrt;have hs99:=ng hsrt;have hkv:a.eval k=Ab.bR p:=j7 hK hp hs99;have hzr:(zeroValue et).run P w=.ok z w:=by unfold zeroV at hz;obtain⟨i,hi,hz⟩:=Option.bind_eq_some_iff.1 hz;simp[zeroValue,typeInfo,hi,hz]
 have hfind:=ib hkey hp hs99 us.toList es 0 hks hl fun i e u h1 h2=>(g5 i e u h1 h2).1;have fin:∀(v:Value) (x:PV) (f:Bool),(Instr.lookup t (.map (some b)) (Ab.bR p) ok).run P w=.ok (if ok=true then .tuple #[v,.bool f] else v) w→cZ S w v x→∃v,(execOp a.eval o).run P w=.ok (.value v) w∧RV P S w β (ay aa) v (if ok=true then .aJ [.pv x,.pv (.bool f)] else .pv x):=by intro v x f hrun hv;refine⟨_,by simp only[execOp,ho,hmv,hkv];simp[hrun,Result.andThen];rfl,?_⟩;cases ok with|false=>exact .pv _ _ hv|true=>refine .aJ _ [v,.bool f] rfl fun i c u h1 h2=>?_;match i with|0=>simp at h1 h2;subst h1 h2;exact .pv _ _ hv|1=>simp at h1 h2;subst h1 h2;exact .pv _ _ (.bool f)|i+2=>simp at h1
 unfold xR;rcases hfind with⟨h1,h2,_⟩|⟨j,e,u,h1,h2,h3,h4,h5,_⟩;·rw[h2];refine fin z (rE z) false ?_ (ia _ _ z hz1);simp[Instr.lookup,run_underlying hmt,MapKept.run_getObj_map hh,MapKept.run_checkKey hdk (hkey p hp),MapKept.run_findKey hdk h1,hzr,Result.andThen]
 ·rw[h5];refine fin u.val e.2 true ?_ (g6 j e u h2 h3);simp[Instr.lookup,run_underlying hmt,MapKept.run_getObj_map hh,MapKept.run_checkKey hdk (hkey p hp),MapKept.run_findKey hdk h1,Result.andThen]
end
theorem gW {P:Program}{f:FuncId} (h:fo P f=true):f<P.funcs.size:=by
 unfold fo at h;split at h;·rename_i fn hfn;exact(Array.getElem?_eq_some_iff.1 hfn).1
 ·cases h
def rY:AK→Bool|.ex (.E3 _ _ _)=>true|.nS|.pick|.gK _|.box|.alloc _|.rG _ _|.call _|.lh|.store _|.app _ _ _|.qw _|.F8 _ _ _|.ex _=>false|_=>true
theorem CY {x:XK}{ys:List AV}{aa:Nat→Option AO} (h:rY (.ex x)=false) (hb:∀e sz,x≠.mJ e sz):aj (.ex x) ys aa=none:=by unfold aj;split<;>first|rfl|simp_all[rY]
section
variable{P:Program}{Γ:bJ}{S0 L:Nat→Prop}{B0:Nat→Value}{w0 w:World}{N:Nat}{st:St}{a:Act}{β:Nat→Value}{o:Oper}{k:AK}{xs:List Operand}
theorem Rel.ev (h:Rel P S0 L B0 w0 N st a w β) (z:Operand):RV P (aS S0 w0.heap.size β st.aa w) w β (ay st.aa) (a.eval z) (ev st.vars z):=He h.vars z
theorem Rel.dj (h:Rel P S0 L B0 w0 N st a w β) (z:Operand) (ha:asks (Ab.ev st.vars z)):RV P (aS S0 w0.heap.size β st.aa w) w β (ay st.aa) (a.eval z) (strip (Ab.ev st.vars z)):=(h.ev z).strip ha
theorem GV (h:Rel P S0 L B0 w0 N st a w β) (hc:gI P o=some (k,xs)) (hk:rY k=true) (ha:ak (xs.map (ev st.vars))) {φ:Prop}{v:AV} (hs:aj k ((xs.map (ev st.vars)).map strip) st.aa=some (φ,v)) (hφ:φ):∃r,(execOp a.eval o).run P w=.ok (.value r) w∧RV P (aS S0 w0.heap.size β st.aa w) w β (ay st.aa) r v:=by
 rcases dP hc with hc|⟨x,rfl,hx⟩;rotate_left;·cases x with
  |E3 s z ok=>obtain⟨t,m,k,kt,et,ho,hm,hsr,hz,rfl⟩:=Du hx;have h1:=h.dj m ha.1;have h2:=h.dj k ha.2.1;simp only[List.map_cons,List.map_nil]at hs;generalize strip (Ab.ev st.vars m)=X at h1 hs;generalize strip (Ab.ev st.vars k)=Y at h2 hs;cases X with
   |pv p=>cases Y with
    |pv q=>cases p with|mv es=>simp only[aj,Option.some.injEq,Prod.mk.injEq]at hs;obtain⟨rfl,rfl⟩:=hs;exact Wp ho hm hsr hz hφ.1 h1 h2 hφ.2.1 hφ.2.2|_=>simp[aj]at hs
    |_=>cases p<;>simp[aj]at hs
   |_=>simp[aj]at hs
  |_=>simp[rY]at hk
 unfold gj at hc;split at hc;·
  split at hc
  ·split at hc
   ·split at hc;·cases hc;simp[rY]at hk
    ·cases hc
   ·cases hc
  ·cases hc;simp[rY]at hk
 ·split at hc
  ·split at hc
   ·split at hc;·cases hc;simp[rY]at hk
    ·cases hc
   ·cases hc
  ·cases hc;simp[rY]at hk
 ·cases hc;simp[rY]at hk
 ·obtain⟨zs,_,he⟩:=Option.map_eq_some_iff.1 hc;cases he;simp[rY]at hk
 ·cases hc;simp[rY]at hk
 ·rename_i t ps ho;split at hc
  ·rename_i zs fs hz hu;split at hc;·cases hc
   ·rename_i hall;obtain⟨l,hl,he⟩:=Option.map_eq_some_iff.1 hc;cases he;exact Z4 ho hz hu (Bool.of_not_eq_false hall) hl h.heap h.dj ha hs hφ
  ·cases hc
 ·split at hc
  ·split at hc
   ·split at hc;·cases hc;simp[rY]at hk
    ·cases hc
   ·cases hc
  ·cases hc
 ·rename_i t x ho;obtain⟨n,hn,he⟩:=Option.map_eq_some_iff.1 hc;cases he;cases n with|none=>exact C7 ho hn h.heap (h.dj x ha.1) hs hφ|some n=>exact C4 ho hn h.heap (h.dj x ha.1) hs hφ
 ·split at hc
  ·split at hc;·cases hc;simp[rY]at hk
   ·cases hc
  ·cases hc;simp[rY]at hk
  ·cases hc
 ·rename_i op t x y yt ho;split at hc
  ·rename_i hu;split at hc;·cases hc;exact KU (ne:=false) ho hu (h.dj x ha.1) (h.dj y ha.2.1) hs hφ
   ·cases hc;exact KU (ne:=true) ho hu (h.dj x ha.1) (h.dj y ha.2.1) hs hφ
   ·cases hc
  ·cases hc;exact Lg ho (h.dj x ha.1) (h.dj y ha.2.1) hs hφ
  ·cases hc;exact Lg ho (h.dj x ha.1) (h.dj y ha.2.1) hs hφ
  ·rename_i fs hu;split at hc
   ·rename_i ks hks;split at hc
    ·rename_i hcond;split at hc;·cases hc;exact Lo h.pY.2 (ne:=false) ho hu hks hcond (h.dj x ha.1) (h.dj y ha.2.1) hs hφ
     ·cases hc;exact Lo h.pY.2 (ne:=true) ho hu hks hcond (h.dj x ha.1) (h.dj y ha.2.1) hs hφ
     ·cases hc
    ·cases hc
   ·cases hc
  ·cases hc
 ·rename_i t x ho;cases hc;exact Up ho (h.dj x ha.1) hs hφ
 ·rename_i t x ho;cases hc;exact ZC ho (h.dj x ha.1) hs hφ
 ·rename_i src dst x ho;split at hc;·rename_i k0 k1 hsr hds;cases hc;exact Zt ho hsr hds (h.dj x ha.1) hs hφ
  ·rename_i hsr hds;cases hc;exact VA ho hsr hds (h.dj x ha.1) hs hφ
  ·rename_i e hsr hds;split at hc;·rename_i he;cases hc;exact Nh ho hsr he hds h.heap (h.dj x ha.1) hs
   ·cases hc
  ·split at hc;·cases hc;simp[rY]at hk
   ·cases hc
  ·cases hc
 ·rename_i s x i ho;split at hc
  ·rename_i fs hu;split at hc
   ·rename_i f hf;split at hc;·rename_i n hsz;cases hc;exact YY ho hu hf hsz (h.dj x ha.1) hs hφ
    ·cases hc
   ·cases hc
  ·cases hc
 ·rename_i s x i ho;split at hc
  ·rename_i fs hu;split at hc;·rename_i f hf;obtain⟨n,hn,he⟩:=Option.map_eq_some_iff.1 hc;cases he;cases n with|none=>exact M9 ho hu hf hn (h.dj x ha.1) hs hφ|some n=>exact Qd ho hu hf hn (h.dj x ha.1) hs hφ
   ·cases hc
  ·cases hc
 ·rename_i t x y ho;split at hc;·rename_i e hu;obtain⟨sz,hsz,he⟩:=Option.map_eq_some_iff.1 hc;cases he;exact Uv ho hu hsz h.heap (h.dj x ha.1) (h.dj y ha.2.1) hs hφ
  ·rename_i n e hu;obtain⟨sz,hsz,he⟩:=Option.map_eq_some_iff.1 hc;cases he;exact Vb ho hu hsz (h.dj x ha.1) (h.dj y ha.2.1) hs hφ
  ·cases hc
 ·rename_i t x y ho;split at hc;·rename_i hu;cases hc;exact Nm ho hu (h.dj x ha.1) (h.dj y ha.2.1) hs hφ
  ·cases hc
 ·rename_i t x lo hi ho;split at hc;·rename_i hu;cases hc;simp only[List.singleton_append,List.cons_append,List.nil_append,List.map_cons,ak]at ha hs;exact Wb ho hu h.dj (h.dj x ha.1) ha.2 hs hφ
  ·rename_i e hu;obtain⟨sz,hsz,he⟩:=Option.map_eq_some_iff.1 hc;cases he;simp only[List.singleton_append,List.cons_append,List.nil_append,List.map_cons,ak]at ha hs;exact XM ho hu hsz h.heap h.dj (h.dj x ha.1) ha.2 hs hφ
  ·cases hc
 ·rename_i x i ho;cases hc;exact Ua ho (h.dj x ha.1) hs hφ
 ·rename_i x ho;cases hc;exact V4 ho (h.dj x ha.1) hs hφ
 ·rename_i f first caps ho;split at hc
  ·rename_i hf;have hf':first=#[]:=by apply Array.ext';simpa using hf
   subst hf';cases hc;exact VF ho h.dj ha hs hφ
  ·cases hc
 ·rename_i c ho;obtain⟨callee,args,argTypes⟩:=c;unfold gv at hc;simp only at hc;split at hc
  ·rename_i b;unfold cX at hc;split at hc;·
    rename_i x t hx ht;have hx':args=#[x]:=by apply Array.ext';simpa using hx
    have ht':argTypes=#[t]:=by apply Array.ext';simpa using ht
    subst hx' ht';split at hc;·rename_i hu;cases hc;exact Qh ho hu (h.dj x ha.1) hs hφ
    ·rename_i e hu;cases hc;exact Yg ho hu h.heap (h.dj x ha.1) hs hφ
    ·cases hc
   ·split at hc
    ·split at hc
     ·split at hc;·cases hc;simp[rY]at hk
      ·cases hc
     ·cases hc
    ·split at hc
     ·split at hc;·cases hc;simp[rY]at hk
      ·cases hc
     ·cases hc
    ·cases hc
   ·rename_i x y t t' hx ht;have hx':args=#[x,y]:=by apply Array.ext';simpa using hx
    have ht':argTypes=#[t,t']:=by apply Array.ext';simpa using ht
    subst hx' ht';cases hc;exact KK (mx:=false) ho (h.dj x ha.1) (h.dj y ha.2.1) hs
   ·rename_i x y t t' hx ht;have hx':args=#[x,y]:=by apply Array.ext';simpa using hx
    have ht':argTypes=#[t,t']:=by apply Array.ext';simpa using ht
    subst hx' ht';cases hc;exact KK (mx:=true) ho (h.dj x ha.1) (h.dj y ha.2.1) hs
   ·repeat'(split at hc)
    all_goals first|(cases hc;simp[rY]at hk;done)|cases hc
   ·cases hc
  ·split at hc;·cases hc;simp[rY]at hk
   ·cases hc
  ·cases hc;simp[rY]at hk
  ·cases hc
 ·cases hc
theorem aG {K:Act→World→Prop}{Q:Exit→Act→World→Prop}{r:Value}{w':World} (hr:(execOp a.eval o).run P w=.ok (.value r) w') (hK:K (a.put o.dst r) w'):o.wp P a w K Q:=by unfold Oper.wp;rw[hr];exact hK
theorem iV {K:Act→World→Prop}{Q:Exit→Act→World→Prop}{w':World} (hr:(execOp a.eval o).run P w=.ok .skip w') (hK:K (a.put o.dst undef) w'):o.wp P a w K Q:=by unfold Oper.wp;rw[hr];exact hK
theorem dy {K:Act→World→Prop}{Q:Exit→Act→World→Prop}{f:FuncId}{args:Array Value}{w':World} (hr:(execOp a.eval o).run P w=.ok (.enter f args) w') (hK:Calls P f args w' fun e w''=>∃v,e=.returned v∧K (a.put o.dst v) w''):o.wp P a w K Q:=by unfold Oper.wp;rw[hr];refine Calls.mono hK ?_;rintro e w'' ⟨v,rfl,h⟩;exact h
theorem ae {α:Type}{q:Option α}{K:α→Prop} (h:ai q K):∃x,q=some x∧K x:=by cases q with|none=>exact h.elim|some x=>exact⟨x,rfl,h⟩
theorem G6 {x:Operand} (h:eS x=true):a.eval x=.slice none 0 0:=by
 unfold eS at h;split at h;·rfl
 ·cases h
theorem iR {f:FuncId}{args:Array Operand}{argTypes:Array TypeId} (ho:o.op=.call {callee:=.value (.func f),args:=args,argTypes:=argTypes}) (hf:fo P f=true):(execOp a.eval o).run P w=.ok (.enter f (args.map a.eval)) w:=by
 unfold fo at hf;split at hf
 ·rename_i fn hfn;simp only[Bool.and_eq_true,bne_iff_ne,ne_eq]at hf;have hn:=hf.1;have hb:¬fn.body=none:=fun e=>by rw[e]at hf;simp at hf
  simp[execOp,ho,resolve,Act.eval,Deferred.ofValue,invoke,callFunc,hfn,hn,hb]
 ·cases hf
theorem jK (h:Rel P S0 L B0 w0 N st a w β):∀(l:List Operand),ak (l.map (Ab.ev st.vars))→∀(i:Nat) (v:Value) (x:AV),(l.map a.eval)[i]?=some v→((l.map (Ab.ev st.vars)).map strip)[i]?=some x→RV P (aS S0 w0.heap.size β st.aa w) w β (ay st.aa) v x:=by intro l ha i v x hv hx;rw[List.getElem?_map,Option.map_eq_some_iff]at hv;obtain⟨z,hz,rfl⟩:=hv;simp only[List.getElem?_map,hz,Option.map_some,Option.some.injEq]at hx;subst hx;exact h.dj z (lW l i z ha hz)
theorem sU {Q:Exit→Act→World→Prop}{f:FuncId}{args:Array Operand}{argTypes:Array TypeId} (h:Rel P S0 L B0 w0 N st a w β) {d:Nat} (hd9:d%1000≠999) (ho:o.op=.call {callee:=.value (.func f),args:=args,argTypes:=argTypes}) (hf:fo P f=true) {ys:List AV}{r:AV} (ha:ak (args.toList.map (Ab.ev st.vars))) (hre:ft st.aa ((args.toList.map (Ab.ev st.vars)).map strip)=some ys) (hcon:PW P f ys r) (hpf:eE ((args.toList.map (Ab.ev st.vars)).map strip)=true∨qS r) (hfree:∀x∈jZ d r,st.aa x.1=none) (hres:yS d r=true) {K:Act→World→Prop} (hK:∀v w' β',Rel P S0 L B0 w0 N ⟨st.vars,bp (jZ d r) st.aa⟩ a w' β'→RV P (aS S0 w0.heap.size β' (bp (jZ d r) st.aa) w') w' β' (ay (bp (jZ d r) st.aa)) v (yK d r)→K (a.put o.dst v) w'):o.wp P a w K Q:=by
 refine dy (iR ho hf) ?_;have hv:args.map a.eval=(args.toList.map a.eval).toArray:=by apply Array.ext';simp
 rw[hv];refine(lM (a:=a) h hd9 (by simp) (jK h args.toList ha) hre hcon hpf hfree hres).mono ?_;rintro e w' ⟨v,β',rfl,hR,hrv⟩;exact⟨v,rfl,hK v w' β' hR hrv⟩
theorem BJ (h:Rel P S0 L B0 w0 N st a w β) {c x y:Operand} (ho:o.op=.pick c x y) {φ:Prop}{v:AV} (hs:tE [Ab.ev st.vars c,Ab.ev st.vars x,Ab.ev st.vars y]=some (φ,v)) (hφ:φ):∃r,(execOp a.eval o).run P w=.ok (.value r) w∧RV P (aS S0 w0.heap.size β st.aa w) w β (ay st.aa) r v:=by
 simp only[tE,Option.bind_eq_some_iff,Option.map_eq_some_iff]at hs;obtain⟨b,hb,r,hs,hr⟩:=hs;cases hr;obtain⟨hca,hφ⟩:=hφ;obtain⟨φ,v⟩:=r;have hc:=(h.ev c).strip hca;have hX:=h.ev x;have hY:=h.ev y;generalize strip (Ab.ev st.vars c)=C at hb hc;have hce:a.eval c=.bool b:=by cases C with|pv p=>cases p<;>simp[iW]at hb;subst hb;exact hc.eP|_=>simp[iW]at hb
 unfold pC at hs;split at hs;·rename_i p q hp hq;simp only[Option.some.injEq,Prod.mk.injEq]at hs;obtain⟨rfl,rfl⟩:=hs;cases b with|true=>have hx:=hX.strip (hφ.1 rfl);rw[hp]at hx;exact⟨a.eval x,by simp[execOp,ho,hce,asBool],by simpa using hx⟩|false=>have hy:=hY.strip (hφ.2 rfl);rw[hq]at hy;exact⟨a.eval y,by simp[execOp,ho,hce,asBool],by simpa using hy⟩
 ·rename_i p hp _;simp only[Option.some.injEq,Prod.mk.injEq]at hs;obtain⟨rfl,rfl⟩:=hs;obtain⟨rfl,hφ⟩:=hφ;have hx:=hX.strip hφ;rw[hp]at hx;exact⟨a.eval x,by simp[execOp,ho,hce,asBool],hx⟩
 ·rename_i q hq _;simp only[Option.some.injEq,Prod.mk.injEq]at hs;obtain⟨rfl,rfl⟩:=hs;obtain⟨rfl,hφ⟩:=hφ;have hy:=hY.strip hφ;rw[hq]at hy;exact⟨a.eval y,by simp[execOp,ho,hce,asBool],hy⟩
 ·cases hs
theorem xU (hΓ:dL P Γ) {Q:Exit→Act→World→Prop} (h:Rel P S0 L B0 w0 N st a w β) (hc:gI P o=some (k,xs)) (hd:∀s,o.dst=some s→s<N) {C:bA→Prop} (hs:aX P Γ o.dst k (xs.map (Ab.ev st.vars)) st.aa C):o.wp P a w (fun a' w'=>∃e β',C e∧Rel P S0 L B0 w0 N (e.on o.dst st) a' w' β') Q:=by
 by_cases hq:rY k=true;·
  have hs':ak (xs.map (Ab.ev st.vars))∧ai (aj k ((xs.map (Ab.ev st.vars)).map strip) st.aa) fun x=>x.1∧C (.put x.2):=by cases k<;>first|exact hs|(simp[rY]at hq)
  obtain⟨ha,hw⟩:=hs';obtain⟨⟨φ,v⟩,he,hφ,hC⟩:=ae hw;obtain⟨r,hr,hv⟩:=GV h hc hq ha he hφ;exact aG hr ⟨_,β,hC,h.put hd hv⟩
 ·have hmov:∀x:Operand,k=.nS→xs=[x]→(execOp a.eval o).run P w=.ok (.value (a.eval x)) w→o.wp P a w (fun a' w'=>∃e β',C e∧Rel P S0 L B0 w0 N (e.on o.dst st) a' w' β') Q:=by rintro x rfl rfl hr;dsimp only[aX]at hs;obtain⟨y,hy,_,hC⟩:=ae hs;simp at hy;subst hy;exact aG hr ⟨_,β,hC,h.put hd (h.ev x)⟩
  have hnil:∀(x:Operand) (e:TypeId),k=.gK e→(P.info? e).isSome=true→eS x=true→(execOp a.eval o).run P w=.ok (.value (a.eval x)) w→o.wp P a w (fun a' w'=>∃e β',C e∧Rel P S0 L B0 w0 N (e.on o.dst st) a' w' β') Q:=by rintro x e rfl hi hx hr;dsimp only[aX]at hs;obtain⟨d,hdd,_,hw⟩:=ae hs;obtain⟨⟨φ,v,ao⟩,he,hφ,hn,hC⟩:=ae hw;simp only[ct,Option.some.injEq,Prod.mk.injEq]at he;obtain⟨rfl,rfl,rfl⟩:=he;rw[G6 hx]at hr;obtain⟨β',hR⟩:=Zk h (hd d hdd) hn hi;refine aG hr ⟨_,β',hC,?_⟩;rw[hdd];exact hR
  rcases dP hc with hc|⟨x,rfl,hx⟩;rotate_left
  ·have hs:ak (xs.map (Ab.ev st.vars))∧ai (aj (.ex x) ((xs.map (Ab.ev st.vars)).map strip) st.aa) fun x=>x.1∧C (.put x.2):=hs;by_cases hb:∃e sz,x=.mJ e sz;·obtain⟨e,sz,rfl⟩:=hb;obtain⟨ha,hw⟩:=hs;obtain⟨⟨φ,v⟩,he,hφ,hC⟩:=ae hw;obtain⟨t,n,ps,zs,ho,hu,hsz,hz,h1,h2,h3,h4,rfl⟩:=A0 hx;unfold aj at he;simp only[Option.map_eq_some_iff]at he;obtain⟨rows,hrows,he⟩:=he;simp only[Prod.mk.injEq]at he;obtain⟨rfl,rfl⟩:=he;obtain⟨r,w',hr,hR,hv⟩:=MO ho hu hsz hz h1 h2 h3 h4 h h.dj ha hrows hφ;exact aG hr ⟨_,β,hC,hR.put hd hv⟩
   rw[CY (by simpa using hq) fun e sz hx=>hb ⟨e,sz,hx⟩]at hs;exact hs.2.elim
  unfold gj at hc;split at hc
  ·rename_i x ho;have hr:(execOp a.eval o).run P w=.ok (.value (a.eval x)) w:=by simp[execOp,ho]
   split at hc
   ·rename_i hx;split at hc
    ·split at hc;·rename_i hi;cases hc;exact hnil x _ rfl hi hx hr
     ·cases hc
    ·cases hc
   ·cases hc;exact hmov x rfl rfl hr
  ·rename_i x ho;have hr:(execOp a.eval o).run P w=.ok (.value (a.eval x)) w:=by simp[execOp,ho]
   split at hc
   ·rename_i hx;split at hc
    ·split at hc;·rename_i hi;cases hc;exact hnil x _ rfl hi hx hr
     ·cases hc
    ·cases hc
   ·cases hc;exact hmov x rfl rfl hr
  ·rename_i c x y ho;cases hc;dsimp only[aX]at hs;obtain⟨⟨φ,v⟩,he,hφ,hC⟩:=ae hs;obtain⟨r,hr,hv⟩:=BJ h ho he hφ;exact aG hr ⟨_,β,hC,h.put hd hv⟩
  ·rename_i e ho;obtain⟨zs,hz,he⟩:=Option.map_eq_some_iff.1 hc;cases he;dsimp only[aX]at hs;obtain⟨d,hdd,_,hw⟩:=ae hs;obtain⟨⟨φ,v,ao⟩,he,hφ,hn,hC⟩:=ae hw;obtain⟨r,w',hr,β',hR⟩:=I5 ho hz h (hd d hdd) hn he;refine aG hr ⟨_,β',hC,?_⟩;rw[hdd];exact hR
  ·rename_i e x ho;cases hc;dsimp only[aX]at hs;obtain⟨d,hdd,ha,hw⟩:=ae hs;obtain⟨⟨φ,v,ao⟩,he,hφ,hn,hC⟩:=ae hw;obtain⟨r,w',hr,β',hR⟩:=ZX ho h (hd d hdd) hn (h.dj x ha.1) he;refine aG hr ⟨_,β',hC,?_⟩;rw[hdd];exact hR
  ·split at hc
   ·split at hc;·cases hc
    ·obtain⟨l,hl,he⟩:=Option.map_eq_some_iff.1 hc;cases he;exact absurd rfl hq
   ·cases hc
  ·rename_i t n ps ho;split at hc
   ·rename_i e hu;split at hc
    ·rename_i sz zs hsz hz;split at hc;·rename_i hcond;obtain⟨_,hord,hbig,hzl,hpos⟩:=hcond;cases hc;dsimp only[aX]at hs;obtain⟨d,hdd,ha,hw⟩:=ae hs;obtain⟨⟨φ,v,ao⟩,he,hφ,hn,hC⟩:=ae hw;obtain⟨r,w',hr,β',hR⟩:=LW ho hu hsz hz hord hbig hzl hpos h (hd d hdd) hn h.dj ha he hφ;refine aG hr ⟨_,β',hC,?_⟩;rw[hdd];exact hR
     ·cases hc
    ·cases hc
   ·cases hc
  ·obtain⟨n,hn,he⟩:=Option.map_eq_some_iff.1 hc;cases he;exact absurd rfl hq
  ·rename_i t x y ho;split at hc
   ·rename_i hn;split at hc;·rename_i h1;cases hc;obtain⟨ha,hw⟩:=hs;obtain⟨⟨φ,tg,ao⟩,he,hφ,hC⟩:=ae hw;obtain⟨w',hr,β',hR⟩:=GZ ho h1 h hd (h.dj x ha.1) (h.dj y ha.2.1) he hφ;exact iV hr ⟨_,β',hC,hR⟩
    ·cases hc
   ·rename_i n hn;cases hc;obtain⟨ha,hw⟩:=hs;obtain⟨⟨φ,tg,ao⟩,he,hφ,hC⟩:=ae hw;obtain⟨w',hr,β',hR⟩:=Hy ho hn h hd (h.dj x ha.1) (h.dj y ha.2.1) he hφ;exact iV hr ⟨_,β',hC,hR⟩
   ·cases hc
  ·split at hc;·split at hc<;>first|(cases hc;exact absurd rfl hq)|cases hc
   ·cases hc;exact absurd rfl hq
   ·cases hc;exact absurd rfl hq
   ·split at hc
    ·split at hc;·split at hc<;>first|(cases hc;exact absurd rfl hq)|cases hc
     ·cases hc
    ·cases hc
   ·cases hc
  ·cases hc;exact absurd rfl hq
  ·cases hc;exact absurd rfl hq
  ·rename_i src dst x ho;split at hc;·cases hc;exact absurd rfl hq
   ·cases hc;exact absurd rfl hq
   ·split at hc;·cases hc;exact absurd rfl hq
    ·cases hc
   ·rename_i e hsr hds;split at hc;·rename_i he;cases hc;obtain⟨ha,hw⟩:=hs;obtain⟨⟨φ,v⟩,heq,hφ,hC⟩:=ae hw;have hX:=h.dj x ha.1;have heq:aj (.qw e) [strip (Ab.ev st.vars x)] st.aa=some (φ,v):=heq;generalize strip (Ab.ev st.vars x)=X at hX heq;cases X with
     |pv p=>cases p with|str l=>simp only[aj,Option.some.injEq,Prod.mk.injEq]at heq;obtain⟨rfl,rfl⟩:=heq;obtain⟨r,w',hr,hR,hv⟩:=MD ho hsr hds he h hX.ew;exact aG hr ⟨_,β,hC,hR.put hd hv⟩|_=>simp[aj]at heq
     |_=>simp[aj]at heq
    ·cases hc
   ·cases hc
  ·split at hc
   ·split at hc
    ·split at hc;·cases hc;exact absurd rfl hq
     ·cases hc
    ·cases hc
   ·cases hc
  ·split at hc
   ·split at hc;·obtain⟨n,hn,he⟩:=Option.map_eq_some_iff.1 hc;cases he;exact absurd rfl hq
    ·cases hc
   ·cases hc
  ·split at hc;·obtain⟨n,hn,he⟩:=Option.map_eq_some_iff.1 hc;cases he;exact absurd rfl hq
   ·obtain⟨n,hn,he⟩:=Option.map_eq_some_iff.1 hc;cases he;exact absurd rfl hq
   ·cases hc
  ·split at hc;·cases hc;exact absurd rfl hq
   ·cases hc
  ·split at hc;·cases hc;exact absurd rfl hq
   ·obtain⟨n,hn,he⟩:=Option.map_eq_some_iff.1 hc;cases he;exact absurd rfl hq
   ·cases hc
  ·cases hc;exact absurd rfl hq
  ·cases hc;exact absurd rfl hq
  ·split at hc;·cases hc;exact absurd rfl hq
   ·cases hc
  ·rename_i c ho;obtain⟨callee,args,argTypes⟩:=c;unfold gv at hc;simp only at hc;split at hc
   ·rename_i b;unfold cX at hc;split at hc;·split at hc<;>first|(cases hc;exact absurd rfl hq)|cases hc
    ·rename_i x y t tx hx ht;have hx':args=#[x,y]:=by apply Array.ext';simpa using hx
     have ht':argTypes=#[t,tx]:=by apply Array.ext';simpa using ht
     subst hx' ht';have happ:∀(e:TypeId) (inf:TypeInfo),P.underlying t=some (.slice e)→((∃e',P.underlying tx=some (.slice e'))∨P.underlying tx=some .string)→P.info? e=some inf→0<inf.size→(dE P e).isSome=true→aX P Γ o.dst (.app e inf.size inf.bytes) ([x,y].map (Ab.ev st.vars)) st.aa C→o.wp P a w (fun a' w'=>∃e β',C e∧Rel P S0 L B0 w0 N (e.on o.dst st) a' w' β') Q:=by
      intro e inf hu hux hi hpos hzt hs;obtain⟨ha,hw⟩:=hs;split at hw;·obtain⟨⟨φ,tg,ao⟩,he,hφ,hC⟩:=ae hw;obtain⟨r,w',hr,β',hR⟩:=YA ho hu hux hi hpos hzt h hd (h.dj x ha.1) (h.dj y ha.2.1) he hφ;exact aG hr ⟨_,β',hC,hR⟩
      ·obtain⟨d,hdd,hw⟩:=ae hw;obtain⟨⟨φ,v,ao⟩,he,hφ,hn,hC⟩:=ae hw;obtain⟨r,w',hr,β',hR⟩:=f_app ho hu hux hi hpos hzt h (hd d hdd) hn (h.dj x ha.1) (h.dj y ha.2.1) he hφ;refine aG hr ⟨_,β',hC,?_⟩;rw[hdd];exact hR
     split at hc
     ·rename_i e hu hux;split at hc
      ·rename_i inf hi;split at hc;·rename_i hcond;cases hc;exact happ e inf hu (.inr hux) hi (by omega) hcond.2 hs
       ·cases hc
      ·cases hc
     ·rename_i e e' hu hux;split at hc
      ·rename_i inf hi;split at hc;·rename_i hcond;cases hc;exact happ e inf hu (.inl ⟨e',hux⟩) hi hcond.1 hcond.2 hs
       ·cases hc
      ·cases hc
     ·cases hc
    ·cases hc;exact absurd rfl hq
    ·cases hc;exact absurd rfl hq
    ·repeat'(split at hc)
     all_goals first|(cases hc;exact hs.2.elim)|cases hc
    ·cases hc
   ·rename_i f;split at hc
    ·rename_i hf;cases hc;dsimp only[aX]at hs;dsimp only[cx]at hs;obtain⟨d,hdd,ha,hw⟩:=ae hs;obtain⟨ys,hys,hw⟩:=ae hw;obtain⟨⟨φ,r⟩,hr,hφ,hpf,hfree,hres,hC⟩:=ae hw;have hcon:=hΓ.con (gW hf) hr hφ;have hdlt:d<N:=hd d hdd;have hlim:=h.pY.1;have hd9:d%1000≠999:=by omega
     refine sU h hd9 ho hf ha hys hcon hpf hfree hres ?_;intro v w' β' hR hv;refine⟨_,β',hC,?_⟩;exact hR.put hd hv
    ·cases hc
   ·cases hc;exact hs.2.elim
   ·cases hc
  ·cases hc
end
def Core (P:Program) (N:Nat) (ops:Array Oper) (o:Oper) (i:AI):Prop:=gI P o=some (i.k,i.xs)∧i.d=o.dst∧(∀d,i.d=some d→d<N)∧((o.guard=none∧i.g=none)∨∃j want s,o.guard=some (j,want)∧(ops[j]?).bind (·.dst)=some s∧i.g=some (s,want))
theorem Cf {P:Program}{N:Nat}{ops:Array Oper}{o:Oper}{i:AI} (h:Fe P N ops o=some i):Core P N ops o i:=by unfold Fe at h;cases hk:gI P o with|none=>rw[hk]at h;simp at h|some kx=>
 obtain⟨k,xs⟩:=kx;rw[hk]at h;dsimp only at h;have key:∀b:Bool,(∀d,o.dst=some d→b=true→d<N)→(if(!b)=true then none else match o.guard with|none=>some (⟨o.dst,k,xs,none,[],none⟩:AI)|some (j,want)=>match(ops[j]?).bind (·.dst) with|some s=>some ⟨o.dst,k,xs,some (s,want),[],none⟩|none=>none)=some i→Core P N ops o i:=by intro b hb h;cases b with|false=>simp at h|true=>simp only[Bool.not_true,Bool.false_eq_true,if_false]at h;cases hg:o.guard with|none=>rw[hg]at h;simp only[Option.some.injEq]at h;subst h;exact⟨hk,rfl,fun d e=>hb d e rfl,.inl ⟨hg,rfl⟩⟩|some jw=>obtain⟨j,want⟩:=jw;rw[hg]at h;dsimp only at h;cases hs:(ops[j]?).bind (·.dst) with|none=>rw[hs]at h;cases h|some s=>rw[hs]at h;simp only[Option.some.injEq]at h;subst h;exact⟨hk,rfl,fun d e=>hb d e rfl,.inr ⟨j,want,s,hg,hs,rfl⟩⟩
 refine key _ ?_ h;intro d hd hb;rw[hd]at hb;simp at hb;exact hb.1
theorem en {P:Program}{ops:Array Oper}{o:Oper}{a:Act} (h:o.guard=none):Region.wanted o (yielded ops a.tmps)=true:=by unfold Region.wanted;rw[h]
def Na:Value→Option Bool|.bool b=>some b|_=>none
theorem oo {P:Program}{w:World}{β:Nat→Value}{S:Nat→Prop}{D:Nat→Prop}{want:Bool}:∀{v:AV}{u:Value}{c:Bool},RV P S w β D u v→bE v want=some c→(Na u==some want)=c
 |.pv p,u,c,hu,h=>by cases p with|bool b=>rw[hu.eP];simp only[bE,Option.some.injEq]at h;subst h;cases want<;>cases b<;>rfl|_=>simp[bE]at h
 |.bY g v,u,c,hu,h=>by cases hu with|bY _ _ _ h1 h2=>cases g with|false=>rw[h2 rfl];simp only[bE,sV,Option.some.injEq]at h;subst h;rfl|true=>exact oo (v:=v) (h1 rfl) (by simpa[bE,sV]using h)
 |.own _,_,_,_,h|.ptr _ _,_,_,_,h|.aZ _ _ _ _,_,_,_,h|.sub _ _ _ _,_,_,_,h|.rp _,_,_,_,h|.agg _,_,_,_,h|.aJ _,_,_,_,h|.bo _ _,_,_,_,h|.fr _ _,_,_,_,h|.au,_,_,_,h=>by simp[bE]at h
theorem dq {P:Program}{w:World}{β:Nat→Value}{S:Nat→Prop}{D:Nat→Prop}{ops:Array Oper}{o:Oper}{a:Act}{j:Nat}{want:Bool}{s:Nat}{v:AV}{c:Bool} (h:o.guard=some (j,want)) (hs:(ops[j]?).bind (·.dst)=some s) (hv:RV P S w β D (a.tmps.getD s undef) v) (hc:bE v want=some c):Region.wanted o (yielded ops a.tmps)=c:=by rw[←oo hv hc];unfold Region.wanted;rw[h];simp only[yielded,hs,Option.bind_some];rw[Array.getD_eq_getD_getElem?];cases a.tmps[s]? with|none=>rfl|some v=>cases v<;>rfl
def GB (g:Nat→AV→AV):Prop:=∀p c,(∀e rows,c≠.fr e rows)→g p c=c
theorem vr (d i:Nat):GB fun p c=>kW d (p+i) c:=by intro p c hc;cases c<;>first|rfl|exact absurd rfl (hc _ _)
theorem uu {g:Nat→AV→AV} (hg:GB g):∀(cs:List AV) (j:Nat),fK j cs=[]→fF g j cs=cs
 |[],_,_=>rfl|c::cs,j,h=>by
  have hc:∀e rows,c≠.fr e rows:=by rintro e rows rfl;simp[fK]at h
  have h':fK (j+1) cs=[]:=by cases c<;>first|exact h|exact absurd rfl (hc _ _)
  simp only[fF];rw[hg _ _ hc,uu hg cs (j+1) h']
theorem vS {g:Nat→AV→AV} (hg:GB g) {v:AV} (h:lg v=[]):mO g v=v:=by
 have hv:∀e rows,v≠.fr e rows:=by rintro e rows rfl;simp[lg]at h
 cases v<;>first|exact congrArg AV.agg (uu hg _ _ h)|exact hg _ _ hv
theorem sj {d:Nat}:∀(vs:List AV) (i:Nat),lP i vs=[]→iI (kW d) i vs=vs|[],_,_=>rfl|v::vs,i,h=>by simp only[lP,List.append_eq_nil_iff,List.map_eq_nil_iff]at h;simp only[iI];rw[vS (vr d i) h.1,sj vs (i+1) h.2]
theorem qL {d:Nat}{r:AV} (h:AN r=[]):cI (kW d) r=r:=by
 have hr:(∃vs,r=.aJ vs)∨(AN r=lg r∧cI (kW d) r=mO (fun p c=>kW d (p+0) c) r):=by cases r<;>first|exact .inl ⟨_,rfl⟩|exact .inr ⟨rfl,rfl⟩
 rcases hr with⟨vs,rfl⟩|⟨h1,h2⟩;·exact congrArg AV.aJ (sj _ _ h)
 ·rw[h2];exact vS (vr d 0) (h1▸h)
theorem EC {ys:List AV}{aa:Nat→Option AO}:aj .lh ys aa=none:=by unfold aj;split<;>first|rfl|simp_all
theorem GU {e:TypeId}{sz:Nat}{zs:List Value}{ys:List AV}{aa:Nat→Option AO}:aj (.F8 e sz zs) ys aa=none:=by unfold aj;split<;>first|rfl|simp_all
theorem qn {P:Program}{b:Builtin}{ys xs:List Operand}{ts:List TypeId}{f:FuncId} (hc:cX P b ys ts=some (.call f,xs)):False:=by
 unfold cX at hc;repeat'(split at hc)
 all_goals(simp at hc)
theorem lV {P:Program}{o:Oper}{f:FuncId}{xs:List Operand} (hc:gI P o=some (.call f,xs)):∃args argTypes,o.op=.call {callee:=.value (.func f),args:=args,argTypes:=argTypes}∧fo P f=true∧xs=args.toList:=by
 rcases dP hc with hc|⟨x,h0,_⟩;rotate_left;·cases h0
 unfold gj at hc;split at hc;case h_22=>
  rename_i cl ho;obtain⟨callee,args,argTypes⟩:=cl;unfold gv at hc;simp only at hc;split at hc;·exact(qn hc).elim
  ·split at hc;·rename_i hf;simp only[Option.some.injEq,Prod.mk.injEq,AK.call.injEq]at hc;obtain⟨rfl,hx⟩:=hc;exact⟨args,argTypes,ho,hf,hx.symm⟩
   ·cases hc
  ·simp at hc
  ·cases hc
 all_goals
  exfalso;repeat'(split at hc)
  all_goals(simp at hc)
section
variable{P:Program}{Γ:bJ}{S0 L:Nat→Prop}{B0:Nat→Value}{w0 w:World}{N:Nat}{st:St}{a:Act}{β:Nat→Value}{o:Oper}{k:AK}{xs:List Operand}
theorem Rel.Ds (h:Rel P S0 L B0 w0 N st a w β) {vars:Nat→AV} (hv:∀s v,RV P (aS S0 w0.heap.size β st.aa w) w β (ay st.aa) v (st.vars s)→RV P (aS S0 w0.heap.size β st.aa w) w β (ay st.aa) v (vars s)):Rel P S0 L B0 w0 N ⟨vars,st.aa⟩ a w β:=⟨h.size,h.defers,fun s=>hv s _ (h.vars s),h.heap,h.old,h.pY,h.uI,h.bK⟩
theorem BQ {S:Nat→Prop}{D:Nat→Prop} (xs:List AV):RV P S w β D undef (zG xs):=by unfold zG;cases rowsOf (xs.map strip) with|none=>exact .au _|some rows=>exact .bY _ _ _ (fun e=>by cases e) fun _=>rfl
theorem Rel.yf {d:Option Nat}{c:Bool}{v:AV} (hc:c=true) (h:Rel P S0 L B0 w0 N ((bA.put v).on d st) a w β):Rel P S0 L B0 w0 N ((bA.put (.bY c v)).on d st) a w β:=by refine h.Ds (vars:=Ab.put d (.bY c v) st.vars) fun s u hu=>?_;cases d with|none=>exact hu|some d=>
 by_cases hs:s=d;·subst hs;simp only[bA.on,Ab.put,if_true]at hu ⊢;exact .bY c _ _ (fun _=>hu) (fun e=>by rw[hc]at e;cases e)
 ·simpa[bA.on,Ab.put,hs]using hu
theorem Rel.eX {d:Option Nat}{v:AV} (hd:∀s,d=some s→s<N) (h:Rel P S0 L B0 w0 N st a w β) (hv:RV P (aS S0 w0.heap.size β st.aa w) w β (ay st.aa) undef v):Rel P S0 L B0 w0 N ((bA.put v).on d st) (a.put d undef) w β:=h.put hd hv
theorem M4 (hΓ:dL P Γ) {Q:Exit→Act→World→Prop}{ops:Array Oper}{i:AI} (h:Rel P S0 L B0 w0 N st a w β) (hi:Core P N ops o i) {C:bA→Prop} (hs:dI P Γ i st.vars st.aa C):if Region.wanted o (yielded ops a.tmps) then o.wp P a w (fun a' w'=>∃e β',C e∧Rel P S0 L B0 w0 N (e.on i.d st) a' w' β') Q else∃e β',C e∧Rel P S0 L B0 w0 N (e.on i.d st) (a.put o.dst undef) w β':=by
 obtain⟨hc,hd,hdN,hg⟩:=hi;have hdN':∀s,o.dst=some s→s<N:=fun s e=>hdN s (hd.trans e);rcases hg with⟨hg,hig⟩|⟨j,want,s,hg,hj,hig⟩;·rw[en (P:=P) hg];simp only[if_true];unfold dI at hs;rw[hig]at hs;rw[hd]at hs ⊢;exact xU hΓ h hc hdN' hs
 ·unfold dI at hs;rw[hig]at hs;obtain⟨c,hcg,hs⟩:=ae hs;rw[dq hg hj (h.vars s) hcg];rw[hd]at hs ⊢;have hreg:∀(g:bA→bA),(∀e,∀{a' w' β'},Rel P S0 L B0 w0 N (e.on o.dst st) a' w' β'→Rel P S0 L B0 w0 N ((g e).on o.dst st) a' w' β')→aX P Γ o.dst i.k (i.xs.map (Ab.ev st.vars)) st.aa (fun e=>C (g e))→o.wp P a w (fun a' w'=>∃e β',C e∧Rel P S0 L B0 w0 N (e.on o.dst st) a' w' β') Q:=by intro g hgr hk;refine Oper.wp_mono ?_ (xU hΓ h hc hdN' hk);rintro a' w' ⟨e,β',hC,hR⟩;exact⟨g e,β',hC,hgr e hR⟩
  have hq:rY i.k=true→(ai (aj i.k ((i.xs.map (Ab.ev st.vars)).map strip) st.aa) fun x=>(c=true→ak (i.xs.map (Ab.ev st.vars))∧x.1)∧C (.put (.bY c x.2)))→if c=true then o.wp P a w (fun a' w'=>∃e β',C e∧Rel P S0 L B0 w0 N (e.on o.dst st) a' w' β') Q else∃e β',C e∧Rel P S0 L B0 w0 N (e.on o.dst st) (a.put o.dst undef) w β':=by intro hk hw;obtain⟨⟨φ,v⟩,he,hφ,hC⟩:=ae hw;cases c with|true=>obtain⟨r,hr,hv⟩:=GV h hc hk (hφ rfl).1 he (hφ rfl).2;exact aG hr ⟨_,β,hC,h.put hdN' (.bY _ _ _ (fun _=>hv) fun e=>by cases e)⟩|false=>exact⟨_,β,hC,h.eX hdN' (.bY _ _ _ (fun e=>by cases e) fun _=>rfl)⟩
  have hmk:∀{v:AV},RV P (aS S0 w0.heap.size β st.aa w) w β (ay st.aa) undef v→(c=true→aX P Γ o.dst i.k (i.xs.map (Ab.ev st.vars)) st.aa C)∧(c=false→C (.put v))→if c=true then o.wp P a w (fun a' w'=>∃e β',C e∧Rel P S0 L B0 w0 N (e.on o.dst st) a' w' β') Q else∃e β',C e∧Rel P S0 L B0 w0 N (e.on o.dst st) (a.put o.dst undef) w β':=by rintro v hv ⟨ht,hf⟩;cases c with|true=>exact hreg id (fun _ _ _ _ hR=>hR) (ht rfl)|false=>exact⟨_,β,hf rfl,h.eX hdN' hv⟩
  generalize hik:i.k=k at hc hs hreg hq hmk;cases k with
  |nS=>dsimp only[cd]at hs;obtain⟨x,hx,hl,hC⟩:=ae hs;cases c with
   |true=>
    refine hreg (fun e=>match e with|.put v=>.put (.bY true v)|e=>e) ?_ ?_;·intro e a' w' β' hR;cases e<;>first|exact hR.yf rfl|exact hR
    ·dsimp only[aX];rw[hx];exact⟨hl,hC⟩|false=>exact⟨_,β,hC,h.eX hdN' (.bY _ _ _ (fun e=>by cases e) fun _=>rfl)⟩
  |pick=>dsimp only[cd]at hs;obtain⟨x,hx,hl,hC⟩:=ae hs;cases c with
   |true=>
    refine hreg (fun e=>match e with|.put v=>.put (.bY true v)|e=>e) ?_ ?_;·intro e a' w' β' hR;cases e<;>first|exact hR.yf rfl|exact hR
    ·dsimp only[aX];rw[hx];exact⟨hl rfl,hC⟩|false=>exact⟨_,β,hC,h.eX hdN' (.bY _ _ _ (fun e=>by cases e) fun _=>rfl)⟩
  |gK e=>exact hmk (.au _) hs|box=>exact hmk (.au _) hs|alloc zs=>exact hmk (.au _) hs|rG e sz=>exact hmk (BQ _) hs|store n=>exact hmk (.au _) hs|app e sz bytes=>exact hmk (.au _) hs|call f=>
   dsimp only[cd]at hs;obtain⟨ys,hys,hs⟩:=ae hs;obtain⟨⟨φ,r⟩,hr,hs⟩:=ae hs;split at hs;rotate_left;·exact hmk (.bY _ _ _ (fun e=>by cases e) fun _=>rfl) hs
   obtain⟨hcon,hfl,hfr,hres,hC⟩:=hs;cases c with|true=>
    have hcall:=lV hc;obtain⟨args,argTypes,ho,hf,hx⟩:=hcall;rw[hx]at hys hcon;have htr:=Cz hfl;have hnil:∀d,jZ d r=[]:=fun d=>by rw[ue htr];unfold aM;rw[hfr];rfl
    refine sU (d:=0) h (by omega) ho hf (hcon rfl).1 hys (hΓ.con (gW hf) hr (hcon rfl).2) (.inr (by rw[qP htr];exact hfl)) (by rw[hnil];intro x hx;cases hx) (by rw[sd htr];exact hres) ?_;intro v w' β' hR hv;rw[hnil]at hR hv;rw[sD htr,qL hfr]at hv;exact⟨_,β',hC,hR.put hdN' (.bY _ _ _ (fun _=>hv) fun e=>by cases e)⟩|false=>exact⟨_,β,hC,h.eX hdN' (.bY _ _ _ (fun e=>by cases e) fun _=>rfl)⟩
  |lh=>have hs:ai (aj .lh ((i.xs.map (Ab.ev st.vars)).map strip) st.aa) fun x=>(c=true→ak (i.xs.map (Ab.ev st.vars))∧x.1)∧C (.put (.bY c x.2)):=hs;rw[EC]at hs;exact hs.elim|rH=>exact hq rfl hs|E4 mx=>exact hq rfl hs|eqs ne ks=>exact hq rfl hs|qw e=>have hs:ai (aj (.qw e) ((i.xs.map (Ab.ev st.vars)).map strip) st.aa) fun x=>(c=true→ak (i.xs.map (Ab.ev st.vars))∧x.1)∧C (.put (.bY c x.2)):=hs;cases c with
   |true=>
    refine hreg (fun e=>match e with|.put v=>.put (.bY true v)|e=>e) ?_ ?_;·intro e a' w' β' hR;cases e<;>first|exact hR.yf rfl|exact hR
    ·obtain⟨r,hr,hφ,hC⟩:=ae hs;show ak _∧ai (aj _ _ _) _;rw[hr];exact⟨(hφ rfl).1,(hφ rfl).2,hC⟩|false=>obtain⟨r,hr,hφ,hC⟩:=ae hs;exact⟨_,β,hC,h.eX hdN' (.bY _ _ _ (fun e=>by cases e) fun _=>rfl)⟩
  |ex x=>
   have hs:ai (aj (.ex x) ((i.xs.map (Ab.ev st.vars)).map strip) st.aa) fun x=>(c=true→ak (i.xs.map (Ab.ev st.vars))∧x.1)∧C (.put (.bY c x.2)):=hs;by_cases hq':rY (.ex x)=true;·exact hq hq' hs
   ·by_cases hb:∃e sz,x=.mJ e sz;·obtain⟨e,sz,rfl⟩:=hb;cases c with|true=>
     refine hreg (fun e=>match e with|.put v=>.put (.bY true v)|e=>e) ?_ ?_;·intro e a' w' β' hR;cases e<;>first|exact hR.yf rfl|exact hR
     ·obtain⟨r,hr,hφ,hC⟩:=ae hs;show ak _∧ai (aj _ _ _) _;rw[hr];exact⟨(hφ rfl).1,(hφ rfl).2,hC⟩|false=>obtain⟨r,hr,hφ,hC⟩:=ae hs;exact⟨_,β,hC,h.eX hdN' (.bY _ _ _ (fun e=>by cases e) fun _=>rfl)⟩
    ·rw[CY (by simpa using hq') fun e sz hx=>hb ⟨e,sz,hx⟩]at hs;exact hs.elim|F8 e sz zs=>have hs:ai (aj (.F8 e sz zs) ((i.xs.map (Ab.ev st.vars)).map strip) st.aa) fun x=>(c=true→ak (i.xs.map (Ab.ev st.vars))∧x.1)∧C (.put (.bY c x.2)):=hs;rw[GU]at hs;exact hs.elim|_=>exact hq rfl hs
end
theorem pw {P:Program}{Γ:bJ}{d:Option Nat}{k:AK}{xs:List AV}{aa:Nat→Option AO}{C:bA→Prop} (hs:aX P Γ d k xs aa C):∃e,C e∧aX P Γ d k xs aa fun e'=>e'=e:=by cases k with
 |nS=>dsimp only[aX]at hs ⊢;obtain⟨x,hx,hl,hC⟩:=ae hs;exact⟨_,hC,by rw[hx];exact⟨hl,rfl⟩⟩|pick=>dsimp only[aX]at hs ⊢;obtain⟨x,hx,hl,hC⟩:=ae hs;exact⟨_,hC,by rw[hx];exact⟨hl,rfl⟩⟩|gK e=>dsimp only[aX]at hs ⊢;obtain⟨d,hd,ha,hw⟩:=ae hs;obtain⟨x,hx,hl,hn,hC⟩:=ae hw;exact⟨_,hC,by rw[hd];exact⟨ha,by rw[hx];exact⟨hl,hn,rfl⟩⟩⟩|box=>dsimp only[aX]at hs ⊢;obtain⟨d,hd,ha,hw⟩:=ae hs;obtain⟨x,hx,hl,hn,hC⟩:=ae hw;exact⟨_,hC,by rw[hd];exact⟨ha,by rw[hx];exact⟨hl,hn,rfl⟩⟩⟩|alloc zs=>dsimp only[aX]at hs ⊢;obtain⟨d,hd,ha,hw⟩:=ae hs;obtain⟨x,hx,hl,hn,hC⟩:=ae hw;exact⟨_,hC,by rw[hd];exact⟨ha,by rw[hx];exact⟨hl,hn,rfl⟩⟩⟩|rG e sz=>dsimp only[aX]at hs ⊢;obtain⟨d,hd,ha,hw⟩:=ae hs;obtain⟨x,hx,hl,hn,hC⟩:=ae hw;exact⟨_,hC,by rw[hd];exact⟨ha,by rw[hx];exact⟨hl,hn,rfl⟩⟩⟩|store n=>dsimp only[aX]at hs ⊢;obtain⟨ha,hw⟩:=hs;obtain⟨x,hx,hl,hC⟩:=ae hw;exact⟨_,hC,ha,by rw[hx];exact⟨hl,rfl⟩⟩|app e sz bytes=>
  dsimp only[aX]at hs ⊢;obtain⟨ha,hw⟩:=hs;by_cases ho:oJ (xs.map strip)=true;·rw[if_pos ho]at hw;obtain⟨x,hx,hl,hC⟩:=ae hw;exact⟨_,hC,ha,by rw[if_pos ho,hx];exact⟨hl,rfl⟩⟩
  ·rw[if_neg ho]at hw;obtain⟨d,hd,hw⟩:=ae hw;obtain⟨x,hx,hl,hn,hC⟩:=ae hw;exact⟨_,hC,ha,by rw[if_neg ho,hd];show ai (ct _ d _ _) _;rw[hx];exact⟨hl,hn,rfl⟩⟩|call f=>dsimp only[aX,cx]at hs ⊢;obtain⟨d,hd,ha,hw⟩:=ae hs;obtain⟨ys,hys,hw⟩:=ae hw;obtain⟨⟨φ,r⟩,hr,h1,h2,h3,h4,hC⟩:=ae hw;exact⟨_,hC,by rw[hd];exact⟨ha,by rw[hys];show ai (gt Γ f ys) _;rw[hr];exact⟨h1,h2,h3,h4,rfl⟩⟩⟩|_=>obtain⟨ha,hw⟩:=hs;obtain⟨x,hx,hl,hC⟩:=ae hw;exact⟨_,hC,ha,by rw[hx];exact⟨hl,rfl⟩⟩
theorem wj {P:Program}{Γ:bJ}{c:Bool}{d:Option Nat}{k:AK}{xs:List AV}{aa:Nat→Option AO}{C:bA→Prop} (hs:cd P Γ c d k xs aa C):∃e,C e∧cd P Γ c d k xs aa fun e'=>e'=e:=by
 have hmk:∀{v:AV},((c=true→aX P Γ d k xs aa C)∧(c=false→C (.put v)))→∃e,C e∧((c=true→aX P Γ d k xs aa fun e'=>e'=e)∧(c=false→bA.put v=e)):=by rintro v ⟨ht,hf⟩;cases c with|true=>obtain⟨e,he,hs⟩:=pw (ht rfl);exact⟨e,he,fun _=>hs,fun h=>by cases h⟩|false=>exact⟨_,hf rfl,fun h=>(by cases h),fun _=>rfl⟩
 cases k with|nS=>dsimp only[cd]at hs ⊢;obtain⟨x,hx,hl,hC⟩:=ae hs;exact⟨_,hC,by rw[hx];exact⟨hl,rfl⟩⟩|pick=>dsimp only[cd]at hs ⊢;obtain⟨x,hx,hl,hC⟩:=ae hs;exact⟨_,hC,by rw[hx];exact⟨hl,rfl⟩⟩|gK e=>exact hmk hs|box=>exact hmk hs|alloc zs=>exact hmk hs|rG e sz=>exact hmk hs|store n=>exact hmk hs|app e sz bytes=>exact hmk hs|call f=>
  dsimp only[cd]at hs ⊢;obtain⟨ys,hys,hs⟩:=ae hs;obtain⟨⟨φ,r⟩,hr,hs⟩:=ae hs;split at hs;·rename_i hif;obtain⟨h1,h2,h3,h4,hC⟩:=hs;exact⟨_,hC,by rw[hys];show ai (gt Γ f ys) _;rw[hr];show ite _ _ _;rw[if_pos hif];exact⟨h1,h2,h3,h4,rfl⟩⟩
  ·rename_i hif;obtain⟨e,he,hs⟩:=hmk hs;exact⟨e,he,by rw[hys];show ai (gt Γ f ys) _;rw[hr];show ite _ _ _;rw[if_neg hif];exact hs⟩|_=>dsimp only[cd]at hs ⊢;obtain⟨x,hx,hl,hC⟩:=ae hs;exact⟨_,hC,by rw[hx];exact⟨hl,rfl⟩⟩
theorem Dj {P:Program}{Γ:bJ}{i:AI}{vars:Nat→AV}{aa:Nat→Option AO}{C:bA→Prop} (hs:dI P Γ i vars aa C):∃e,C e∧dI P Γ i vars aa fun e'=>e'=e:=by unfold dI at hs ⊢;cases hg:i.g with|none=>rw[hg]at hs;exact pw hs|some sw=>obtain⟨s,w⟩:=sw;rw[hg]at hs;dsimp only at hs ⊢;obtain⟨c,hc,hs⟩:=ae hs;obtain⟨e,he,hs⟩:=wj hs;exact⟨e,he,by rw[hc];exact hs⟩
theorem Ch (v:AV):(∃f cs,v=.bo f cs)∨((∀aa,oL aa v=eW aa v)∧∀T aa,qO T aa v=nu T aa v):=by cases v<;>first|exact .inl ⟨_,_,rfl⟩|exact .inr ⟨fun _=>rfl,fun _ _=>rfl⟩
theorem FC (v:AV):(∃t o,v=.ptr t o)∨(∃cs,v=.agg cs)∨∀T aa,nu T aa v=uO T v:=by cases v<;>first|exact .inl ⟨_,_,rfl⟩|exact .inr (.inl ⟨_,rfl⟩)|exact .inr (.inr fun _ _=>rfl)
theorem Wk (v:AV):((∃t,v=.own t)∨∃t e lo hi,v=.sub t e lo hi)∨∀aa objs',eA aa v=eA objs' v:=by cases v<;>first|exact .inl (.inl ⟨_,rfl⟩)|exact .inl (.inr ⟨_,_,_,_,rfl⟩)|exact .inr fun _ _=>rfl|(rename_i p;exact .inr fun _ _=>by cases p<;>rfl)
section
variable{T:List Nat}{aa objs':Nat→Option AO} (hag:∀t,jy T t→aa t=objs' t)
include hag
theorem nC {v:AV} (h:uO T v):eA aa v=eA objs' v:=by
 rcases Wk v with(⟨t,rfl⟩|⟨t,e,lo,hi,rfl⟩)|hv;·simp only[eA];rw[hag t h]
 ·simp only[eA];rw[hag t h]
 ·exact hv _ _
theorem l9:∀{cs:List AV},gL T cs→gO aa cs=gO objs' cs|[],_=>rfl|c::cs,h=>by simp only[gO];rw[nC hag h.1,l9 h.2]
omit hag in theorem sL:∀{cs:List AV} (n:Nat),gL T cs→gL T (cs.drop n)|[],n,_=>by simp[gL]|c::cs,0,h=>h|c::cs,n+1,h=>sL n h.2
theorem tv {v:AV} (h:nu T aa v):eW aa v=eW objs' v:=by cases v with
 |ptr t o=>obtain⟨h1,h2⟩:=h;simp only[eW];rw[←hag t h1];cases hb:eK (aa t) with|none=>rfl|some cs=>rw[hb]at h2;simp only[Option.getD_some]at h2;simp only[Option.bind_some];rw[l9 hag (sL o h2)]
 |agg cs=>simp only[eW];rw[l9 hag h]|bo f cs=>cases cs<;>rfl|rp cs=>rfl|pv p=>cases p<;>rfl|own t=>exact congrArg (Option.map AV.pv) (nC hag (v:=.own t) h)|aZ t e i o=>rfl|sub t e lo hi=>exact congrArg (Option.map AV.pv) (nC hag (v:=.sub t e lo hi) h)|aJ vs=>rfl|fr e rows=>rfl|bx cs=>rfl|mf es=>rfl|bY g v=>rfl|au=>rfl
theorem qU:∀{cs:List AV},kL T aa cs→kP aa cs=kP objs' cs|[],_=>rfl|c::cs,h=>by simp only[kP];rw[tv hag h.1,qU h.2]
theorem ER {v:AV} (h:qO T aa v):oL aa v=oL objs' v:=by
 rcases Ch v with⟨f,cs,rfl⟩|⟨h1,h2⟩;·exact congrArg (Option.map (AV.bo f)) (qU hag h)
 ·rw[h1,h1];rw[h2]at h;exact tv hag h
theorem nj:∀{cs:List AV},jE T aa cs→ft aa cs=ft objs' cs|[],_=>rfl|c::cs,h=>by simp only[ft];rw[ER hag h.1,nj h.2]
theorem tw {v:AV} (h:nu T aa v):nu T objs' v:=by
 rcases FC v with⟨t,o,rfl⟩|⟨cs,rfl⟩|h2;·exact⟨h.1,by rw[←hag t h.1];exact h.2⟩
 ·exact h
 ·rw[h2]at h ⊢;exact h
theorem rD:∀{cs:List AV},kL T aa cs→kL T objs' cs|[],_=>trivial|c::cs,h=>⟨tw hag h.1,rD h.2⟩
theorem DP {v:AV} (h:qO T aa v):qO T objs' v:=by
 rcases Ch v with⟨f,cs,rfl⟩|⟨h1,h2⟩;·exact rD hag h
 ·rw[h2]at h ⊢;exact tw hag h
theorem iB:∀{cs:List AV},jE T aa cs→jE T objs' cs|[],_=>trivial|c::cs,h=>⟨DP hag h.1,iB h.2⟩
end
section
variable{T U:List Nat}{aa:Nat→Option AO} (hsub:∀t,jy U t→jy T t)
include hsub
theorem As {v:AV} (h:uO U v):uO T v:=by cases v<;>first|trivial|exact hsub _ h
theorem pZ:∀{cs:List AV},gL U cs→gL T cs|[],_=>trivial|c::cs,h=>⟨As hsub h.1,pZ h.2⟩
theorem sG {v:AV} (h:nu U aa v):nu T aa v:=by
 rcases FC v with⟨t,o,rfl⟩|⟨cs,rfl⟩|h2;·exact⟨hsub _ h.1,pZ hsub h.2⟩
 ·exact pZ hsub h
 ·rw[h2]at h ⊢;exact As hsub h
theorem wC:∀{cs:List AV},kL U aa cs→kL T aa cs|[],_=>trivial|c::cs,h=>⟨sG hsub h.1,wC h.2⟩
theorem Df {v:AV} (h:qO U aa v):qO T aa v:=by
 rcases Ch v with⟨f,cs,rfl⟩|⟨h1,h2⟩;·exact wC hsub h
 ·rw[h2]at h ⊢;exact sG hsub h
theorem sv:∀{cs:List AV},jE U aa cs→jE T aa cs|[],_=>trivial|c::cs,h=>⟨Df hsub h.1,sv h.2⟩
end
theorem il {k:AK}{ys:List AV}{aa objs':Nat→Option AO}{r:Prop×AV} (hk:aK k=true) (h:aj k ys aa=some r):aj k ys objs'=some r:=by unfold aj at h;split at h<;>first|exact h|(simp[aK]at hk;done)|cases h
section
variable{T:List Nat}{aa objs':Nat→Option AO} (hag:∀t,jy T t→aa t=objs' t)
include hag
theorem yA {x:AV} (h:qO T aa x):eZ aa x=eZ objs' x:=by cases x with|own t=>simp only[eZ];rw[hag t h]|sub t e lo hi=>simp only[eZ];rw[hag t h]|pv p=>cases p<;>rfl|_=>rfl
theorem tO {k:AK}{ys:List AV}{r:Prop×AV} (hno:jE T aa ys) (h:aj k ys aa=some r):aj k ys objs'=some r:=by unfold aj at h;split at h<;>first|exact h|(simp only[aj];rw[←hag _ hno.1];exact h)|(simp only[aj];rw[←hag _ hno.1.1];exact h)|(simp only[aj];rw[←yA hag hno.1];exact h)|cases h
theorem BO {k:AK}{ys:List AV}{r:Prop×Nat×AO} (hk:isApp k=false) (hno:jE T aa ys) (h:eB k ys aa=some r):eB k ys objs'=some r:=by unfold eB at h;split at h<;>first|(simp only[eB];rw[←hag _ hno.1];exact h)|(simp only[eB];rw[←hag _ hno.1.1];exact h)|(simp[isApp]at hk;done)|cases h
omit hag in theorem Ey {k:AK}{d:Nat}{ys:List AV}{r:Prop×AV×AO} (hk:isApp k=false) (h:ct k d ys aa=some r):ct k d ys objs'=some r:=by unfold ct at h;split at h<;>first|exact h|(simp[isApp]at hk;done)|cases h
theorem te {P:Program}{Γ:bJ}{d:Option Nat}{k:AK}{xs:List AV}{C:bA→Prop} (hk:isApp k=false) (hd:∀s,d=some s→s<1000∧T.contains s=false) (hno:aK k=true∨jE T aa (xs.map strip)) (hs:aX P Γ d k xs aa C):aX P Γ d k xs objs' C:=by
 have hfree:∀s p,d=some s→aa (s+1000*p)=objs' (s+1000*p):=by intro s p hs;refine hag _ ?_;unfold jy;rw[Nat.add_mul_mod_self_left,Nat.mod_eq_of_lt (hd s hs).1];exact(hd s hs).2
 have hmk:∀{k:AK},isApp k=false→(ai d fun d=>ak xs∧ai (ct k d (xs.map strip) aa) fun x=>x.1∧aa d=none∧C (.new x.2.1 [(d,x.2.2)]))→ai d fun d=>ak xs∧ai (ct k d (xs.map strip) objs') fun x=>x.1∧objs' d=none∧C (.new x.2.1 [(d,x.2.2)]):=by intro k hk hw;obtain⟨s,hs,ha,hw⟩:=ae hw;obtain⟨x,hx,hφ,hn,hC⟩:=ae hw;rw[hs];refine⟨ha,?_⟩;rw[Ey (aa:=aa) (objs':=objs') hk hx];have:=hfree s 0 hs;simp only[Nat.mul_zero,Nat.add_zero]at this;exact⟨hφ,this▸hn,hC⟩
 cases k with|nS=>exact hs|pick=>exact hs|gK e=>exact hmk (k:=.gK e) rfl hs|box=>exact hmk (k:=.box) rfl hs|alloc zs=>exact hmk (k:=.alloc zs) rfl hs|rG e sz=>exact hmk (k:=.rG e sz) rfl hs|store n=>have hno:=hno.resolve_left (by simp[aK]);obtain⟨ha,hw⟩:=hs;refine⟨ha,?_⟩;obtain⟨x,hx,hC⟩:=ae hw;rw[BO hag hk hno hx];exact hC|app e sz bytes=>simp[isApp]at hk|call f=>have hno:=hno.resolve_left (by simp[aK]);dsimp only[aX,cx]at hs ⊢;obtain⟨s,hs',ha,hw⟩:=ae hs;obtain⟨ys,hys,hw⟩:=ae hw;obtain⟨⟨φ,r⟩,hr,h1,h2,h3,h4,hC⟩:=ae hw;rw[hs'];refine⟨ha,?_⟩;rw[←nj hag hno,hys];show ai (gt Γ f ys) _;rw[hr];refine⟨h1,h2,?_,h4,hC⟩;intro x hx;have:=h3 x hx;obtain⟨y,hy⟩:=wD s r x hx;rw[hy]at this ⊢;rw[←hfree s y hs'];exact this|_=>obtain⟨ha,hw⟩:=hs;refine⟨ha,?_⟩;obtain⟨x,hx,hC⟩:=ae hw;rw[hno.elim (fun h=>il (objs':=objs') h hx) (fun h=>tO hag h hx)];exact hC
theorem B2 {P:Program}{Γ:bJ}{c:Bool}{d:Option Nat}{k:AK}{xs:List AV}{C:bA→Prop} (hk:isApp k=false) (hd:∀s,d=some s→s<1000∧T.contains s=false) (hno:aK k=true∨jE T aa (xs.map strip)) (hs:cd P Γ c d k xs aa C):cd P Γ c d k xs objs' C:=by have hmk:∀{v:AV},((c=true→aX P Γ d k xs aa C)∧(c=false→C (.put v)))→((c=true→aX P Γ d k xs objs' C)∧(c=false→C (.put v))):=fun h=>⟨fun hc=>te hag hk hd hno (h.1 hc),h.2⟩;cases k with
 |nS=>exact hs|pick=>exact hs|gK e=>exact hmk hs|box=>exact hmk hs|alloc zs=>exact hmk hs|rG e sz=>exact hmk hs|store n=>exact hmk hs|app e sz bytes=>exact hmk hs|call f=>
  have hno:=hno.resolve_left (by simp[aK]);dsimp only[cd]at hs ⊢;rw[←nj hag hno];obtain⟨ys,hys,hs⟩:=ae hs;obtain⟨⟨φ,r⟩,hr,hs⟩:=ae hs;rw[hys];show ai (gt Γ f ys) _;rw[hr];show ite _ _ _;split at hs;·rename_i hif;rw[if_pos hif];exact hs
  ·rename_i hif;rw[if_neg hif];exact hmk hs|_=>dsimp only[cd]at hs ⊢;obtain⟨x,hx,hC⟩:=ae hs;rw[hno.elim (fun h=>il (objs':=objs') h hx) (fun h=>tO hag h hx)];exact hC
end
theorem ka (t:Nat):∀a:AV,strip (kill t a)=kill t (strip a)|.bY g v=>by simp only[kill,strip];exact ka t v|.pv p=>rfl|.own s=>by show strip (if s=t then .au else .own s)=(if s=t then .au else .own s);split<;>rfl|.ptr s o=>rfl|.aZ s e i o=>by show strip (if s=t then .au else .aZ s e i o)=(if s=t then .au else .aZ s e i o);split<;>rfl|.sub s e i o=>by show strip (if s=t then .au else .sub s e i o)=(if s=t then .au else .sub s e i o);split<;>rfl|.rp cs=>rfl|.agg cs=>rfl|.aJ vs=>rfl|.bo f []=>rfl|.bo f (c::cs)=>rfl|.fr e rows=>rfl|.bx _=>rfl|.mf _=>rfl|.au=>rfl
theorem vK (t:Nat):∀a:AV,asks (kill t a)=asks a|.bY g v=>by simp only[kill,asks];rw[vK t v]|.pv p=>rfl|.own s=>by show asks (if s=t then .au else .own s)=asks (.own s);split<;>rfl|.ptr s o=>rfl|.aZ s e i o=>by show asks (if s=t then .au else .aZ s e i o)=asks (.aZ s e i o);split<;>rfl|.sub s e i o=>by show asks (if s=t then .au else .sub s e i o)=asks (.sub s e i o);split<;>rfl|.rp cs=>rfl|.agg cs=>rfl|.aJ vs=>rfl|.bo f []=>rfl|.bo f (c::cs)=>rfl|.fr e rows=>rfl|.bx _=>rfl|.mf _=>rfl|.au=>rfl
theorem yV {t:Nat}{v:AV}{p:PV} (h:kill t v=.pv p):v=.pv p:=by cases v with|pv q=>exact h|own s=>have h:(if s=t then AV.au else .own s)=.pv p:=h;split at h<;>cases h|aZ s e i o=>have h:(if s=t then AV.au else .aZ s e i o)=.pv p:=h;split at h<;>cases h|sub s e i o=>have h:(if s=t then AV.au else .sub s e i o)=.pv p:=h;split at h<;>cases h|bo f cs=>cases cs<;>cases h|_=>cases h
theorem Jf (t:Nat) (v:Value):kill t (cv v)=cv v:=by unfold cv;split<;>rfl
theorem Kc (t:Nat) (vars:Nat→AV) (x:Operand):Ab.ev (cr t vars) x=kill t (Ab.ev vars x):=by cases x with|const v=>exact(Jf t v).symm|_=>rfl
theorem lz (t:Nat) (vars:Nat→AV) (xs:List Operand):xs.map (Ab.ev (cr t vars))=(xs.map (Ab.ev vars)).map (kill t):=by rw[List.map_map];exact List.map_congr_left fun x _=>Kc t vars x
theorem kp (t:Nat):∀xs:List AV,ak (xs.map (kill t))=ak xs|[]=>rfl|x::xs=>by simp only[List.map_cons,ak];rw[vK,kp t xs]
theorem qX {t:Nat}:∀{xs:List AV},(∀y∈xs.map strip,∃p,y=AV.pv p)→(xs.map (kill t)).map strip=xs.map strip|[],_=>rfl|x::xs,h=>by simp only[List.map_cons,List.mem_cons,forall_eq_or_imp]at h ⊢;obtain⟨⟨p,hp⟩,h⟩:=h;rw[qX h,ka,hp];rfl
theorem m8 {t:Nat}:∀{xs:List AV},(∀y∈(xs.map (kill t)).map strip,∃p,y=AV.pv p)→(xs.map (kill t)).map strip=xs.map strip|[],_=>rfl|x::xs,h=>by simp only[List.map_cons,List.mem_cons,forall_eq_or_imp]at h ⊢;obtain⟨⟨p,hp⟩,h⟩:=h;rw[m8 h,hp];rw[ka]at hp;rw[yV hp]
theorem CZ {k:AK}{ys:List AV}{aa:Nat→Option AO}{r:Prop×AV} (hk:aK k=true) (h:aj k ys aa=some r):(∀y∈ys,∃p,y=AV.pv p)∧∃q,r.2=.pv q:=by unfold aj at h;split at h<;>first|(simp[aK]at hk;done)|(obtain⟨x,_,rfl⟩:=Option.map_eq_some_iff.1 h;exact⟨by simp,_,rfl⟩)|(simp only[Option.some.injEq]at h;subst h;exact⟨by simp,_,rfl⟩)|cases h
section
variable{P:Program}{Γ:bJ}{d:Option Nat}{k:AK}{xs:List AV}{aa objs':Nat→Option AO}{e:bA}{t:Nat}
def uX (k:AK) (xs:List AV):Option (Prop×AV):=match k with
 |.nS=>match xs with|[x]=>some (True,x)|_=>none
 |k=>(aj k (xs.map strip) fun _=>none).map fun r=>(ak xs∧r.1,r.2)
theorem fZ (hk:aK k=true):aX P Γ d k xs aa (fun e'=>e'=e)↔∃φ v,uX k xs=some (φ,v)∧φ∧e=.put v:=by
 have hq:∀{k:AK},aK k=true→((ak xs∧ai (aj k (xs.map strip) aa) fun x=>x.1∧bA.put x.2=e)↔∃φ v,((aj k (xs.map strip) fun _=>none).map fun r=>(ak xs∧r.1,r.2))=some (φ,v)∧φ∧e=.put v):=by
  intro k hk;constructor;·rintro⟨ha,hw⟩;obtain⟨r,hr,hφ,he⟩:=ae hw;exact⟨ak xs∧r.1,r.2,by rw[il (objs':=fun _=>none) hk hr];rfl,⟨ha,hφ⟩,he.symm⟩
  ·rintro⟨φ,v,hs,hφ,he⟩;obtain⟨r,hr,hx⟩:=Option.map_eq_some_iff.1 hs;cases hx;exact⟨hφ.1,by rw[il (objs':=aa) hk hr];exact⟨hφ.2,he.symm⟩⟩
 cases k with
 |nS=>
  dsimp only[aX,uX];constructor;·intro h;obtain⟨x,hx,hl,he⟩:=ae h;obtain⟨y,rfl⟩:=List.length_eq_one_iff.1 hl;simp only[List.head?_cons,Option.some.injEq]at hx;subst hx;exact⟨_,_,rfl,trivial,he.symm⟩
  ·rintro⟨φ,v,hs,hφ,rfl⟩;split at hs;·cases hs;exact⟨rfl,rfl⟩
   ·cases hs|bin op=>exact hq rfl|beq ne=>exact hq rfl|not=>exact hq rfl|neg=>exact hq rfl|B3 k=>exact hq rfl|CV=>exact hq rfl|_=>simp[aK]at hk
theorem fT {c:Bool} (hk:aK k=true):cd P Γ c d k xs aa (fun e'=>e'=e)↔∃φ v,uX k xs=some (φ,v)∧(c=true→φ)∧e=.put (.bY c v):=by
 have hq:∀{k:AK},aK k=true→((ai (aj k (xs.map strip) aa) fun x=>(c=true→ak xs∧x.1)∧bA.put (.bY c x.2)=e)↔∃φ v,((aj k (xs.map strip) fun _=>none).map fun r=>(ak xs∧r.1,r.2))=some (φ,v)∧(c=true→φ)∧e=.put (.bY c v)):=by
  intro k hk;constructor;·intro hw;obtain⟨r,hr,hφ,he⟩:=ae hw;exact⟨ak xs∧r.1,r.2,by rw[il (objs':=fun _=>none) hk hr];rfl,hφ,he.symm⟩
  ·rintro⟨φ,v,hs,hφ,he⟩;obtain⟨r,hr,hx⟩:=Option.map_eq_some_iff.1 hs;cases hx;rw[il (objs':=aa) hk hr];exact⟨hφ,he.symm⟩
 cases k with
 |nS=>
  dsimp only[cd,uX];constructor;·intro h;obtain⟨x,hx,hl,he⟩:=ae h;obtain⟨y,rfl⟩:=List.length_eq_one_iff.1 hl;simp only[List.head?_cons,Option.some.injEq]at hx;subst hx;exact⟨_,_,rfl,fun _=>trivial,he.symm⟩
  ·rintro⟨φ,v,hs,hφ,rfl⟩;split at hs;·cases hs;exact⟨rfl,rfl⟩
   ·cases hs|bin op=>exact hq rfl|beq ne=>exact hq rfl|not=>exact hq rfl|neg=>exact hq rfl|B3 k=>exact hq rfl|CV=>exact hq rfl|_=>simp[aK]at hk
theorem wK {φ:Prop}{v:AV} (hk:aK k=true) (h:uX k xs=some (φ,v)):uX k (xs.map (kill t))=some (φ,kill t v):=by
 have hq:((aj k (xs.map strip) fun _=>none).map fun r=>(ak xs∧r.1,r.2))=some (φ,v)→((aj k ((xs.map (kill t)).map strip) fun _=>none).map fun r=>(ak (xs.map (kill t))∧r.1,r.2))=some (φ,kill t v):=by intro h;obtain⟨r,hr,hx⟩:=Option.map_eq_some_iff.1 h;obtain⟨hp,q,hq⟩:=CZ hk hr;cases hx;rw[qX hp,hr,kp,hq];show some (ak xs∧r.1,r.2)=_;rw[hq];rfl
 cases k with
 |nS=>
  dsimp only[uX]at h ⊢;split at h;·cases h;rfl
  ·cases h|bin op=>exact hq h|beq ne=>exact hq h|not=>exact hq h|neg=>exact hq h|B3 k=>exact hq h|CV=>exact hq h|_=>simp[aK]at hk
theorem qV {φ:Prop}{v:AV} (hk:aK k=true) (h:uX k (xs.map (kill t))=some (φ,v)):∃u,v=kill t u∧uX k xs=some (φ,u):=by
 have hq:((aj k ((xs.map (kill t)).map strip) fun _=>none).map fun r=>(ak (xs.map (kill t))∧r.1,r.2))=some (φ,v)→∃u,v=kill t u∧((aj k (xs.map strip) fun _=>none).map fun r=>(ak xs∧r.1,r.2))=some (φ,u):=by intro h;obtain⟨r,hr,hx⟩:=Option.map_eq_some_iff.1 h;obtain⟨hp,q,hq⟩:=CZ hk hr;rw[m8 hp]at hr;rw[kp]at hx;cases hx;exact⟨r.2,by rw[hq];rfl,by rw[hr];rfl⟩
 cases k with
 |nS=>
  dsimp only[uX]at h ⊢;rcases xs with _|⟨x,_|⟨y,xs⟩⟩;·cases h
  ·cases h;exact⟨x,rfl,rfl⟩
  ·cases h|bin op=>exact hq h|beq ne=>exact hq h|not=>exact hq h|neg=>exact hq h|B3 k=>exact hq h|CV=>exact hq h|_=>simp[aK]at hk
end
section
variable{P:Program}{Γ:bJ}{i:AI}{vars vars':Nat→AV}{aa objs':Nat→Option AO}{e:bA}{t:Nat}
theorem oW (w:Bool):∀v:AV,bE (kill t v) w=bE v w|.bY c v=>by simp only[kill,bE];rw[oW w v]|.own s|.aZ s _ _ _|.sub s _ _ _=>by simp only[kill,bW];split<;>rfl|.bo f cs=>by cases cs<;>rfl|.pv _|.ptr _ _|.rp _|.agg _|.aJ _|.fr _ _|.bx _|.mf _|.au=>rfl
theorem qF {v:AV}{w c:Bool}:bE (kill t v) w=some c↔bE v w=some c:=by rw[oW]
theorem sX (hk:aK i.k=true) (h:dI P Γ i vars aa fun e'=>e'=e):∃v,e=.put v∧∀t objs',dI P Γ i (cr t vars) objs' fun e'=>e'=.put (kill t v):=by unfold dI at h ⊢;cases hg:i.g with|none=>rw[hg]at h;obtain⟨φ,v,hs,hφ,rfl⟩:=(fZ hk).1 h;refine⟨v,rfl,fun t objs'=>?_⟩;rw[lz];exact(fZ hk).2 ⟨φ,_,wK hk hs,hφ,rfl⟩|some sw=>obtain⟨s,w⟩:=sw;rw[hg]at h;dsimp only at h ⊢;obtain⟨c,hc,h⟩:=ae h;obtain⟨φ,v,hs,hφ,rfl⟩:=(fT hk).1 h;refine⟨_,rfl,fun t objs'=>?_⟩;rw[show cr t vars s=kill t (vars s) from rfl,qF.2 hc,lz];exact(fT hk).2 ⟨φ,_,wK hk hs,hφ,rfl⟩
theorem pN (hk:aK i.k=true) (h:dI P Γ i (cr t vars) aa fun e'=>e'=e):∃v,e=.put (kill t v)∧∀objs',dI P Γ i vars objs' fun e'=>e'=.put v:=by unfold dI at h ⊢;cases hg:i.g with|none=>rw[hg]at h;dsimp only at h;rw[lz]at h;obtain⟨φ,v,hs,hφ,rfl⟩:=(fZ hk).1 h;obtain⟨u,rfl,hu⟩:=qV hk hs;exact⟨u,rfl,fun objs'=>(fZ hk).2 ⟨φ,_,hu,hφ,rfl⟩⟩|some sw=>obtain⟨s,w⟩:=sw;rw[hg]at h;dsimp only at h ⊢;obtain⟨c,hc,h⟩:=ae h;rw[lz]at h;obtain⟨φ,v,hs,hφ,rfl⟩:=(fT hk).1 h;obtain⟨u,rfl,hu⟩:=qV hk hs;refine⟨.bY c u,rfl,fun objs'=>?_⟩;rw[qF.1 hc];exact(fT hk).2 ⟨φ,_,hu,hφ,rfl⟩
theorem dC (hk:aK i.k=true) (h:dI P Γ i vars aa fun e'=>e'=e):(∃v,e=.put v)∧∀objs',dI P Γ i vars objs' fun e'=>e'=e:=by unfold dI at h ⊢;cases hg:i.g with|none=>rw[hg]at h;obtain⟨φ,v,hs,hφ,rfl⟩:=(fZ hk).1 h;exact⟨⟨v,rfl⟩,fun objs'=>(fZ hk).2 ⟨φ,_,hs,hφ,rfl⟩⟩|some sw=>obtain⟨s,w⟩:=sw;rw[hg]at h;dsimp only at h ⊢;obtain⟨c,hc,h⟩:=ae h;obtain⟨φ,v,hs,hφ,rfl⟩:=(fT hk).1 h;exact⟨⟨_,rfl⟩,fun objs'=>by rw[hc];exact(fT hk).2 ⟨φ,_,hs,hφ,rfl⟩⟩
theorem FE {x:Operand} (h:∀s∈tmpsOf [x],vars s=vars' s):Ab.ev vars x=Ab.ev vars' x:=by cases x with|tmp t=>exact h t (by simp[tmpsOf])|_=>rfl
theorem fM:∀{xs:List Operand},(∀s∈tmpsOf xs,vars s=vars' s)→xs.map (Ab.ev vars)=xs.map (Ab.ev vars')|[],_=>rfl|x::xs,h=>by have h1:Ab.ev vars x=Ab.ev vars' x:=FE fun s hs=>h s (by cases x<;>simp_all[tmpsOf]);have h2:xs.map (Ab.ev vars)=xs.map (Ab.ev vars'):=fM fun s hs=>h s (by cases x<;>simp_all[tmpsOf]);simp only[List.map_cons,h1,h2]
theorem dV {C:bA→Prop} (ha:∀s∈cF i,vars s=vars' s) (h:dI P Γ i vars aa C):dI P Γ i vars' aa C:=by have hx:=fM (vars:=vars) (vars':=vars') (xs:=i.xs) fun s hs=>ha s (List.mem_append_left _ hs);unfold dI at h ⊢;rw[←hx];cases hg:i.g with|none=>rw[hg]at h;exact h|some sw=>obtain⟨s,w⟩:=sw;rw[hg]at h;dsimp only at h ⊢;rw[←ha s (List.mem_append_right _ (by rw[hg];simp))];exact h
theorem uc {T:List Nat}{C:bA→Prop} (hag:∀t,jy T t→aa t=objs' t) (hk:isApp i.k=false) (hd:∀s,i.d=some s→s<1000∧T.contains s=false) (hno:aK i.k=true∨jE T aa ((i.xs.map (Ab.ev vars)).map strip)) (h:dI P Γ i vars aa C):dI P Γ i vars objs' C:=by unfold dI at h ⊢;cases hg:i.g with|none=>rw[hg]at h;exact te hag hk hd hno h|some sw=>obtain⟨s,w⟩:=sw;rw[hg]at h;dsimp only at h ⊢;obtain⟨c,hc,h⟩:=ae h;rw[hc];exact B2 hag hk hd hno h
def ox (i:AI) (e:bA):Prop:=(∃v,e=.put v)∨(makes i.k=true∧∃d v os,i.d=some d∧e=.new v os∧∀x∈os,∃p,x.1=d+1000*p)∨(writes i.k=true∧makes i.k=false∧∃t o,e=.vq t o)∨(isApp i.k=true∧∃t o,e=.app t o)
theorem zM {xs:List AV} (h:aX P Γ i.d i.k xs aa fun e'=>e'=e):ox i e:=by
 have hmk:∀{k:AK},makes i.k=true→(ai i.d fun d=>ak xs∧ai (ct k d (xs.map strip) aa) fun x=>x.1∧aa d=none∧bA.new x.2.1 [(d,x.2.2)]=e)→ox i e:=by intro k hk hw;obtain⟨d,hd,ha,hw⟩:=ae hw;obtain⟨x,hx,hφ,hn,rfl⟩:=ae hw;exact .inr (.inl ⟨hk,d,_,_,hd,rfl,fun x hx=>⟨0,by simp only[List.mem_singleton]at hx;rw[hx];rfl⟩⟩)
 cases hk:i.k with|nS=>rw[hk]at h;obtain⟨φ,v,_,_,rfl⟩:=(fZ rfl).1 h;exact .inl ⟨v,rfl⟩|pick=>rw[hk]at h;dsimp only[aX]at h;obtain⟨x,_,_,rfl⟩:=ae h;exact .inl ⟨_,rfl⟩|gK e=>rw[hk]at h;exact hmk (by rw[hk];rfl) h|box=>rw[hk]at h;exact hmk (by rw[hk];rfl) h|alloc zs=>rw[hk]at h;exact hmk (by rw[hk];rfl) h|rG e sz=>rw[hk]at h;exact hmk (by rw[hk];rfl) h|store n=>rw[hk]at h;obtain⟨_,hw⟩:=h;obtain⟨x,_,_,rfl⟩:=ae hw;exact .inr (.inr (.inl ⟨by rw[hk];rfl,by rw[hk];rfl,_,_,rfl⟩))|app e sz bytes=>
  rw[hk]at h;dsimp only[aX]at h;obtain⟨ha,hw⟩:=h;split at hw;·obtain⟨x,_,_,rfl⟩:=ae hw;exact .inr (.inr (.inr ⟨by rw[hk];rfl,_,_,rfl⟩))
  ·obtain⟨d,hd,hw⟩:=ae hw;obtain⟨x,hx,hφ,hn,rfl⟩:=ae hw;exact .inr (.inl ⟨by rw[hk];rfl,d,_,_,hd,rfl,fun x hx=>⟨0,by simp only[List.mem_singleton]at hx;rw[hx];rfl⟩⟩)|call f=>rw[hk]at h;dsimp only[aX,cx]at h;obtain⟨d,hd,ha,hw⟩:=ae h;obtain⟨ys,hys,hw⟩:=ae hw;obtain⟨⟨φ,r⟩,hr,h1,h2,h3,h4,rfl⟩:=ae hw;refine .inr (.inl ⟨by rw[hk];rfl,d,_,_,hd,rfl,fun x hx=>?_⟩);exact wD d r x hx|_=>rw[hk]at h;obtain⟨_,hw⟩:=h;obtain⟨x,_,_,rfl⟩:=ae hw;exact .inl ⟨_,rfl⟩
theorem yP (h:dI P Γ i vars aa fun e'=>e'=e):ox i e:=by unfold dI at h;cases hg:i.g with|none=>rw[hg]at h;exact zM h|some sw=>
 obtain⟨s,w⟩:=sw;rw[hg]at h;dsimp only at h;obtain⟨c,hc,h⟩:=ae h;have hmk:∀{v:AV},((c=true→aX P Γ i.d i.k (i.xs.map (Ab.ev vars)) aa fun e'=>e'=e)∧(c=false→bA.put v=e))→ox i e:=by rintro v ⟨ht,hf⟩;cases c with|true=>exact zM (ht rfl)|false=>exact .inl ⟨_,(hf rfl).symm⟩
 cases hk:i.k with
 |nS=>rw[hk]at h;obtain⟨φ,v,_,_,rfl⟩:=(fT rfl).1 h;exact .inl ⟨_,rfl⟩|pick=>rw[hk]at h;dsimp only[cd]at h;obtain⟨x,_,_,rfl⟩:=ae h;exact .inl ⟨_,rfl⟩|gK e=>rw[hk]at h hmk;exact hmk h|box=>rw[hk]at h hmk;exact hmk h|alloc zs=>rw[hk]at h hmk;exact hmk h|rG e sz=>rw[hk]at h hmk;exact hmk h|store n=>rw[hk]at h hmk;exact hmk h|app e sz bytes=>rw[hk]at h hmk;exact hmk h|call f=>
  rw[hk]at h hmk;dsimp only[cd]at h;obtain⟨ys,hys,h⟩:=ae h;obtain⟨⟨φ,r⟩,hr,h⟩:=ae h;split at h;·obtain⟨h1,h2,h3,h4,rfl⟩:=h;exact .inl ⟨_,rfl⟩
  ·exact hmk h|_=>rw[hk]at h;dsimp only[cd]at h;obtain⟨x,_,_,rfl⟩:=ae h;exact .inl ⟨_,rfl⟩
end
end Go.Proofs.YtlicclncicbajaaGreat.Ab
