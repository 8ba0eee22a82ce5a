/- The abstract machine is sound: a call of a function that takes objects whole, or borrows them. -/
import Derived.Test.YtlmkcmfmfahcfaaZ4
import Derived.Laws.StructEq
import Derived.MapKept
import Derived.Lib.LazyBuf
import Derived.Laws.Externs
import Derived.Lib.AppendZeros
import Derived.Laws.MakeOwn
set_option linter.unusedVariables false
set_option linter.unusedSimpArgs false
set_option linter.unnecessarySimpa false
set_option maxHeartbeats 40000000
set_option maxRecDepth 100000
namespace Go.Proofs.Ytlmkcmfmfahcfaa.Ab
open Go Go.RowKit
section
variable {P:Program}{S S':Nat→Prop}{w w':World}{β β':Nat→Value}{D D':Nat→Prop}{objs objs':Nat→Option AO}
theorem HT.mono (hS:∀b,S b→S' b) {v:Value}{y:AV}{bs:List Nat} (h:HT P S w v y bs):HT P S' w v y bs:=by
 have hS2:∀b,S b→S' b∧w.heap[b]? = w.heap[b]?:=fun b hb=>⟨hS b hb,rfl⟩
 induction h with
 |leaf v y h=>exact .leaf v y (h.mono hS2 fun _ hf=>hf.elim)
 |fr v e rows inf us h1 h2 h3 h4=>exact .fr v e rows inf us h1 h2 h3 fun i j r p a b=>by obtain⟨u,c,d,e⟩:=h4 i j r p a b;exact⟨u,c,d,e.mono hS2⟩
 |mf b us c es h1 hst h2 h3=>exact .mf b us c es h1 hst h2 fun i e u a b=>⟨(h3 i e u a b).1,(h3 i e u a b).2.1,(h3 i e u a b).2.2.1,(h3 i e u a b).2.2.2.mono hS2⟩
 |bx b us ty cs bss h1 h2 h3 h4 h5 ih=>exact .bx b us ty cs bss h1 h2 h3 h4 ih
 |agg us cs bss h1 h2 h3 ih=>exact .agg us cs bss h1 h2 ih
 |tup us cs bss h1 h2 h3 ih=>exact .tup us cs bss h1 h2 ih
theorem leaf_flat:∀(n:Nat) {v:Value}{y:AV},flatG n y→RV P S w (fun _=>undef) (fun _=>False) v y→RV P S' w (fun _=>undef) (fun _=>False) v y
 | 0,_,_,h,_=>h.elim
 |n+1,v,y,h,hv=>by
  unfold flatG at h
  split at h
  ·cases hv
  ·cases hv
  ·cases hv
  ·obtain⟨us,rfl,hl,hc⟩:=hv.agg_inv
   exact .agg _ us hl fun i c u a b=>leaf_flat n (h c (List.mem_of_getElem? a)) (hc i c u a b)
  ·obtain⟨us,rfl,hl,hc⟩:=hv.tup_inv
   exact .tup _ us hl fun i c u a b=>leaf_flat n (h c (List.mem_of_getElem? a)) (hc i c u a b)
  ·exact .pv _ _ (flatP_sound hv.pv_inv h)
  ·obtain⟨us,rfl,hl,_⟩:=hv.clo_inv
   exact .clo _ [] us hl fun i c u hc=>by simp at hc
  ·exact h.elim
theorem HT.flat:∀(n:Nat) {v:Value}{y:AV}{bs:List Nat},flatG n y→HT P S w v y bs→HT P S' w v y bs
 | 0,_,_,_,h,_=>h.elim
 |n+1,v,y,bs,hf,h=>by
  cases h with
  |leaf v y h=>exact .leaf v y (leaf_flat (n+1) hf h)
  |fr v e rows inf us h1 h2 h3 h4=>exact .fr v e rows inf us h1 h2 h3 fun i j r p a b=>by obtain⟨u,c,d,e⟩:=h4 i j r p a b;exact⟨u,c,d,flatP_sound e (hf r (List.mem_of_getElem? a) p (List.mem_of_getElem? b))⟩
  |mf b us c es h1 hst h2 h3=>exact .mf b us c es h1 hst h2 fun i e u a b=>⟨(h3 i e u a b).1,(h3 i e u a b).2.1,(h3 i e u a b).2.2.1,flatP_sound (h3 i e u a b).2.2.2 (hf e (List.mem_of_getElem? a))⟩
  |bx b us ty cs bss h1 h2 h3 h4 h5=>exact .bx b us ty cs bss h1 h2 h3 h4 fun i c u bs a b d=>HT.flat n (hf c (List.mem_of_getElem? a)) (h5 i c u bs a b d)
  |agg us cs bss h1 h2 h3=>exact .agg us cs bss h1 h2 fun i c u bs a b d=>HT.flat n (hf c (List.mem_of_getElem? a)) (h3 i c u bs a b d)
  |tup us cs bss h1 h2 h3=>exact .tup us cs bss h1 h2 fun i c u bs a b d=>HT.flat n (hf c (List.mem_of_getElem? a)) (h3 i c u bs a b d)
theorem rd_dom:∀(n:Nat) {x:AV}{r:AV × List Nat},rd n objs x=some r→(∀t∈r.2,dom objs t)∧∀l,r.1≠.tup l
 | 0,_,_,h=>by cases h
 |n+1,x,r,h=>by
  have lst:∀{l:List AV}{q:List AV × List Nat},rdW (rd n objs) l=some q→∀t∈q.2,dom objs t:=by
   intro l
   induction l with
   |nil=>intro q h;cases h;intro t ht;simp at ht
   |cons c l ih=>
    intro q h t ht
    obtain⟨r,hr,h⟩:=Option.bind_eq_some_iff.1 h
    obtain⟨q',hq,rfl⟩:=Option.map_eq_some_iff.1 h
    rcases List.mem_append.1 ht with ht | ht
    ·exact (rd_dom n hr).1 t ht
    ·exact ih hq t ht
  unfold rd at h
  split at h
  ·rename_i t
   obtain⟨y,hy,rfl⟩:=Option.map_eq_some_iff.1 h
   unfold rdO at hy
   split at hy
   ·rename_i ho
    cases hy
    exact⟨fun s hs=>by simp only [List.mem_singleton]at hs;rw [hs];exact⟨_,ho⟩,fun l e=>by cases e⟩
   ·rename_i ho
    cases hy
    exact⟨fun s hs=>by simp only [List.mem_singleton]at hs;rw [hs];exact⟨_,ho⟩,fun l e=>by cases e⟩
   ·cases hy
  ·obtain⟨cs,hc,h⟩:=Option.bind_eq_some_iff.1 h
   obtain⟨q,hq,rfl⟩:=Option.map_eq_some_iff.1 h
   refine⟨fun s hs=>?_,fun l e=>by cases e⟩
   rcases List.mem_cons.1 hs with rfl | hs
   ·exact⟨_,boxO_inv hc⟩
   ·exact lst hq s hs
  ·obtain⟨q,hq,rfl⟩:=Option.map_eq_some_iff.1 h
   exact⟨lst hq,fun l e=>by cases e⟩
  ·cases h;exact⟨fun t ht=>by simp at ht,fun l e=>by cases e⟩
  ·cases h;exact⟨fun t ht=>by simp at ht,fun l e=>by cases e⟩
  ·cases h;exact⟨fun t ht=>by simp at ht,fun l e=>by cases e⟩
  ·cases h
theorem rei_ne {x y:AV} (h:rei objs x=some y):∀l,y≠.tup l:=by
 intro l e
 subst e
 have h1:∀x,rei1 objs x≠some (.tup l):=by
  intro x h
  unfold rei1 at h
  split at h
  ·obtain⟨_,_,h⟩:=Option.bind_eq_some_iff.1 h
   obtain⟨_,_,h⟩:=Option.map_eq_some_iff.1 h
   cases h
  ·cases h
  ·obtain⟨_,_,h⟩:=Option.map_eq_some_iff.1 h
   cases h
  ·cases h
  ·obtain⟨_,_,h⟩:=Option.map_eq_some_iff.1 h
   cases h
 unfold rei at h
 split at h
 ·obtain⟨_,_,h⟩:=Option.map_eq_some_iff.1 h
  cases h
 ·exact h1 _ h
theorem isT_ne {y:AV} (h:∀l,y≠.tup l):isT y=false∧unT y=y:=by
 cases y<;>first | exact⟨rfl,rfl⟩ | exact absurd rfl (h _)
theorem args_G (hh:Heap P S w β objs) (hS:∀b,S b→S' b) {T:List Nat} (hh':Heap P S w β objs') (hw:∀{v x},RV P S w β (dom objs) v x→RV P S w β (dom objs') v (wipe T x)) :
  ∀{ks:List Nat}{xs ys:List AV}{vals:List Value},ysG objs objs' T ks xs=some ys→vals.length=xs.length→(∀(i:Nat) (v:Value) (x:AV),vals[i]? = some v→xs[i]? = some x→RV P S w β (dom objs) v x) →
  (puresG T ks xs=true∨∀t b,dom objs' t→blk (β t)=some b→S' b) →
  ∃bss,HTs P S' w vals (ys.map unT) bss∧bss.flatten=blks β (tagsG objs ks xs)∧(∀t∈tagsG objs ks xs,dom objs t) ∧
   (lent ys vals).length=(lentG ks xs).length∧∀(i:Nat) (c:AV) (u:Value),(lentG ks xs)[i]? = some c→(lent ys vals)[i]? = some u→RV P S w β (dom objs) u c
 | [],[],ys,vals,h,hl,_,_=>by
  cases h
  cases vals with
  |nil=>exact⟨[],⟨rfl,rfl,fun i y v bs h=>by simp at h⟩,rfl,fun t ht=>by simp [tagsG]at ht,rfl,fun i c u hc=>by simp [lentG]at hc⟩
  |cons v vs=>simp at hl
 | [],_::_,_,_,h,_,_,_=>by cases h
 | _::_,[],_,_,h,_,_,_=>by cases h
 |k::ks,x::xs,ys,vals,h,hl,hv,hp=>by
  obtain⟨y,hy,h⟩:=Option.bind_eq_some_iff.1 h
  obtain⟨ys,hys,rfl⟩:=Option.map_eq_some_iff.1 h
  match vals,hl with
  |v::vals,hl=>
   have hp':(k != 0 || pure1 (wipe T x))=true∧puresG T ks xs=true∨∀t b,dom objs' t→blk (β t)=some b→S' b:=by
    rcases hp with h | h
    ·left;simpa [puresG]using h
    ·exact .inr h
   obtain⟨bss,⟨l1,l2,hts⟩,hfl,hdm,hln,hlv⟩:=args_G hh hS hh' hw hys (by simpa using hl) (fun i v x a b=>hv (i+1) v x (by simpa using a) (by simpa using b)) (hp'.imp And.right id)
   have hvx:=hv 0 v x rfl rfl
   have one:∃bs,HT P S' w v (unT y) bs∧bs=blks β (if k=0 then [] else ((rd 5 objs x).map (·.2)).getD [])∧(∀t∈(if k=0 then [] else ((rd 5 objs x).map (·.2)).getD []),dom objs t)∧(isT y=true↔1 < k):=by
    by_cases h0:k=0
    ·subst h0
     simp only [if_true]at hy ⊢
     obtain⟨e1,e2⟩:=isT_ne (rei_ne hy)
     refine⟨[],.leaf _ _ ?_,rfl,fun t ht=>by simp at ht,by rw [e1];simp⟩
     rw [e2]
     exact rei_sound hh' hS (hw hvx) hy (hp'.imp (fun h=>by simpa using h.1) id)
    ·simp only [if_neg h0]at hy ⊢
     by_cases h1:k=1
     ·subst h1
      simp only [if_true]at hy
      obtain⟨r,hr,rfl⟩:=Option.map_eq_some_iff.1 hy
      obtain⟨e1,e2⟩:=isT_ne (rd_dom 5 hr).2
      obtain⟨m1,m2⟩:=rd_mt (P:=P) 5 hr
      refine⟨_,mt_sound hh hS 5 (y:=unT r.1) (by rw [e2];exact m1) hvx,by rw [hr,m2];rfl,fun t ht=>(rd_dom 5 hr).1 t (by simpa [hr]using ht),by rw [e1];simp⟩
     ·simp only [if_neg h1]at hy
      obtain⟨r,hr,rfl⟩:=Option.map_eq_some_iff.1 hy
      obtain⟨m1,m2⟩:=rd_mt (P:=P) 5 hr
      refine⟨_,mt_sound hh hS 5 (y:=unT (.tup [r.1])) m1 hvx,by rw [hr,m2];rfl,fun t ht=>(rd_dom 5 hr).1 t (by simpa [hr]using ht),by simp only [isT,true_iff];omega⟩
   obtain⟨bs,hbt,rfl,hbd,hk⟩:=one
   refine⟨_::bss,⟨by simpa using l1,by simpa using l2,fun i y' v' bs' a b c=>?_⟩,by rw [List.flatten_cons,hfl];exact (blks_append β _ _).symm,fun t ht=>?_,?_,fun i c u=>?_⟩
   ·cases i with
    |zero=>
     simp only [List.map_cons,List.getElem?_cons_zero,Option.some.injEq]at a b c
     rw [←a,←b,←c];exact hbt
    |succ i=>exact hts i y' v' bs' (by simpa using a) (by simpa using b) (by simpa using c)
   ·rcases List.mem_append.1 ht with ht | ht
    ·exact hbd t ht
    ·exact hdm t ht
   ·by_cases hc : 1 < k
    ·simp only [lent,hk.2 hc,lentG,hc,if_true,List.length_cons,hln]
    ·have:isT y=false:=by
      cases he:isT y with
      |false=>rfl
      |true=>exact absurd (hk.1 he) hc
     simp only [lent,this,lentG,hc,if_false,hln,Bool.false_eq_true]
   ·by_cases hc : 1 < k
    ·simp only [lent,hk.2 hc,lentG,hc,if_true]
     intro a b
     cases i with
     |zero=>
      simp only [List.getElem?_cons_zero,Option.some.injEq]at a b
      rw [←a,←b];exact hvx
     |succ i=>exact hlv i c u (by simpa using a) (by simpa using b)
    ·have:isT y=false:=by
      cases he:isT y with
      |false=>rfl
      |true=>exact absurd (hk.1 he) hc
     simp only [lent,this,lentG,hc,if_false,Bool.false_eq_true]
     exact hlv i c u
theorem topC_eq {D':Nat→Prop}{u:Value}{c:AV} (h:RV P S w β D u c) (h':RV P S' w' β' D' u c):∀t∈topC c,β' t=β t∧D' t:=by
 intro t ht
 unfold topC at ht
 split at ht
 ·simp only [List.mem_singleton]at ht
  subst ht
  exact⟨h'.own_inv.1.symm.trans h.own_inv.1,h'.own_inv.2⟩
 ·simp only [List.mem_singleton]at ht
  subst ht
  obtain⟨b,e1,_,hb⟩:=h.ptr_inv
  obtain⟨b',e2,hd,hb'⟩:=h'.ptr_inv
  rw [hb,hb',←e1,←e2];exact⟨rfl,hd⟩
 ·simp at ht
theorem tops_eq {D':Nat→Prop}{u:Value}{c:AV} (h:RV P S w β D u c) (h':RV P S' w' β' D' u c):∀t∈tops c,β' t=β t∧D' t:=by
 by_cases hx:∃cs,c=.agg cs
 ·obtain⟨cs,rfl⟩:=hx
  intro t ht
  obtain⟨c,hc,ht⟩:=List.mem_flatMap.1 ht
  obtain⟨us,rfl,hl,hcs⟩:=h.agg_inv
  obtain⟨us',e,hl',hcs'⟩:=h'.agg_inv
  have:us=us':=by simpa using e
  subst this
  obtain⟨i,hi⟩:=List.getElem?_of_mem hc
  have hlt:i < us.length:=by rw [hl];exact (List.getElem?_eq_some_iff.1 hi).1
  exact topC_eq (hcs i c _ hi (List.getElem?_eq_getElem hlt)) (hcs' i c _ hi (List.getElem?_eq_getElem hlt)) t ht
 ·have:tops c=topC c:=by cases c<;>first | rfl | exact absurd ⟨_,rfl⟩ hx
  rw [this];exact topC_eq h h'
theorem HTs.snoc {vs:List Value}{ys:List AV}{v:Value}{y:AV}{bss:List (List Nat)} (h:HTs P S w (vs++[v]) (ys++[y]) bss) (hl:vs.length=ys.length) :
  ∃b1 bl,bss=b1++[bl]∧HTs P S w vs ys b1∧HT P S w v y bl:=by
 obtain⟨h1,h2,h3⟩:=h
 have hl2:bss.length=ys.length+1:=by simpa using h2
 have hne:bss≠[]:=by intro e;rw [e]at hl2;simp at hl2
 obtain⟨b1,bl,rfl⟩:∃b1 bl,bss=b1++[bl]:=⟨bss.dropLast,bss.getLast hne,(List.dropLast_concat_getLast hne).symm⟩
 have hb1:b1.length=ys.length:=by simpa using hl2
 refine⟨b1,bl,rfl,⟨hl,hb1,fun i y' v' bs a b c=>?_⟩,h3 ys.length y v bl (by simp) (by rw [←hl];simp) (by rw [←hb1];simp)⟩
 have k1:=(List.getElem?_eq_some_iff.1 a).1
 exact h3 i y' v' bs (by rw [List.getElem?_append_left k1];exact a) (by rw [List.getElem?_append_left (by omega)];exact b) (by rw [List.getElem?_append_left (by omega)];exact c)
end
theorem tagsG_dom {objs:Nat→Option AO}:∀(ks:List Nat) (xs:List AV) (t:Nat),t∈tagsG objs ks xs→dom objs t
 | [],_,_,ht=>by simp [tagsG]at ht
 | _::_,[],_,ht=>by simp [tagsG]at ht
 |k::ks,x::xs,t,ht=>by
  rcases List.mem_append.1 ht with ht | ht
  ·by_cases h0:k=0
   ·simp [h0]at ht
   ·rw [if_neg h0]at ht
    cases hr:rd 5 objs x with
    |none=>rw [hr]at ht;simp at ht
    |some r=>rw [hr]at ht;exact (rd_dom 5 hr).1 t (by simpa using ht)
  ·exact tagsG_dom ks xs t ht
theorem lookO_mem2:∀{os:List (Nat × AO)}{t:Nat}{o:AO},lookO os t=some o→(t,o)∈os
 | [],_,_,h=>by cases h
 | (s,o')::os,t,o,h=>by
  simp only [lookO]at h
  split at h
  ·rename_i e;cases h;rw [e];exact List.mem_cons_self
  ·exact List.mem_cons_of_mem _ (lookO_mem2 h)
theorem lookO_dom:∀{os:List (Nat × AO)}{p:Nat × AO},p∈os→∃o,lookO os p.1=some o
 | [],_,h=>by simp at h
 | (s,o')::os,p,h=>by
  simp only [lookO]
  split
  ·exact⟨o',rfl⟩
  ·rename_i hne
   rcases List.mem_cons.1 h with rfl | h
   ·exact absurd rfl hne
   ·exact lookO_dom h
section
variable {P:Program}{S0 L:Nat→Prop}{B0:Nat→Value}{w0 w:World}{N:Nat}{st:St}{a:Act}{β:Nat→Value}
theorem call_G {T:List Nat} (hL:T≠[]→∀b,L b→S0 b) (h:Rel P S0 L B0 w0 N st a w β) {f:FuncId}{d:Nat} (hd9:d % 1000≠999) {ks:List Nat}{vals:List Value}{xs ys:List AV}{x:AV}{Q W:List Nat} (hl:vals.length=xs.length)
  (hv:∀(i:Nat) (v:Value) (x:AV),vals[i]? = some v→xs[i]? = some x→RV P (okS S0 w0.heap.size β st.objs w) w β (dom st.objs) v x)
  (hT:T=tagsG st.objs ks xs) (hQ:Q=(lentG ks xs).flatMap tops) (hW:W=T.filter fun t=>!Q.contains t) (hTn:T.Nodup) (hQT:∀t∈Q,t∈T) (hQn:(Q++poolG d T W).Nodup)
  (hys:ysG st.objs (wipeM T T st.objs) T ks xs=some ys) (hcon:ConG P f ys x) (hpf:puresG T ks xs=true∨∀y∈outG x++[retG x],flatG 5 y)
  {o:List AV × List (Nat × AO) × List Nat × List Nat} (ho:numW (num 5 true) (outG x) (Q,poolG d T W)=some o) (ho1:o.1=lentG ks xs)
  {r:AV × List (Nat × AO) × List Nat × List Nat} (hr:num 5 false (retG x) o.2.2=some r) (hfree:∀p∈o.2.1++r.2.1,T.contains p.1=true∨st.objs p.1=none) :
  Calls P f vals.toArray w fun e w'=>∃v β',e=.returned v∧Rel P S0 L B0 w0 N ⟨wipeV W st.vars,addL (o.2.1++r.2.1) (wipeM T W st.objs)⟩ a w' β' ∧
   RV P (okS S0 w0.heap.size β' (addL (o.2.1++r.2.1) (wipeM T W st.objs)) w') w' β' (dom (addL (o.2.1++r.2.1) (wipeM T W st.objs))) v r.1:=by
 classical
 let S:=okS S0 w0.heap.size β st.objs w
 have hTd:∀t∈T,dom st.objs t:=by
  intro t ht
  rw [hT]at ht
  exact tagsG_dom _ _ t ht
 have hTlive:∀b∈blks β T,live β st.objs b∧b < w.heap.size:=by
  intro b hb
  obtain⟨t,ht,hb⟩:=List.mem_filterMap.1 hb
  obtain⟨o,ho⟩:=hTd t ht
  exact⟨⟨t,o,ho,hb⟩,h.lt ⟨o,ho⟩ hb⟩
 have hTinj:∀t b,dom st.objs t→t∉T→blk (β t)=some b→b∉blks β T:=by
  intro t b ht hn hb hm
  obtain⟨s,hs,hb'⟩:=List.mem_filterMap.1 hm
  exact hn (h.heap.inj t s b ht (hTd s hs) hb hb' ▸ hs)
 have hTnd:(blks β T).Nodup:=by
  have:∀l:List Nat,l.Nodup→(∀t∈l,dom st.objs t)→(blks β l).Nodup:=by
   intro l
   induction l with
   |nil=>intro _ _;exact List.nodup_nil
   |cons t l ih=>
    intro hn hd
    rw [List.nodup_cons]at hn
    have e:blks β (t::l)=(blk (β t)).toList++blks β l:=by
     rw [←blks_one];exact blks_append β [t] l
    rw [e]
    cases hb:blk (β t) with
    |none=>exact ih hn.2 fun t ht=>hd t (List.mem_cons_of_mem _ ht)
    |some b=>
     show (b::blks β l).Nodup
     rw [List.nodup_cons]
     refine⟨fun hm=>?_,ih hn.2 fun t ht=>hd t (List.mem_cons_of_mem _ ht)⟩
     obtain⟨s,hs,hb'⟩:=List.mem_filterMap.1 hm
     exact hn.1 (h.heap.inj t s b (hd t List.mem_cons_self) (hd s (List.mem_cons_of_mem _ hs)) hb hb' ▸ hs)
  exact this T hTn hTd
 have hcT:∀t,T.contains t=true↔t∈T:=fun t=>by simp
 have hdom':∀t,dom (wipeM T T st.objs) t↔(t∉T∧dom st.objs t):=by
  intro t
  simp only [dom,wipeM]
  constructor
  ·rintro⟨o,ho⟩
   split at ho
   ·cases ho
   ·rename_i hc
    obtain⟨o',ho',_⟩:=Option.map_eq_some_iff.1 ho
    exact⟨fun hm=>hc ((hcT t).2 hm),o',ho'⟩
  ·rintro⟨hn,o,ho⟩
   exact⟨wipeO T o,by rw [if_neg (fun hc=>hn ((hcT t).1 hc)),ho];rfl⟩
 have hDw:∀s,dom st.objs s→T.contains s=false→dom (wipeM T T st.objs) s∧β s=β s:=fun s hs hc=>⟨(hdom' s).2 ⟨fun hm=>absurd ((hcT s).2 hm) (by rw [hc];exact Bool.false_ne_true),hs⟩,rfl⟩
 have hwp:∀{v x},RV P S w β (dom st.objs) v x→RV P S w β (dom (wipeM T T st.objs)) v (wipe T x):=fun hx=>hx.wipe (fun b hb=>⟨hb,rfl⟩) hDw
 have hh':Heap P S w β (wipeM T T st.objs):=by
  refine⟨fun t o ht=>?_,fun t t' b ht ht'=>h.heap.inj t t' b ((hdom' t).1 ht).2 ((hdom' t').1 ht').2⟩
  simp only [wipeM]at ht
  split at ht
  ·cases ht
  ·obtain⟨o',ho',rfl⟩:=Option.map_eq_some_iff.1 ht
   exact (h.heap.holds t o' ho').wipe (fun b hb=>⟨hb,rfl⟩) hDw rfl (fun _ _=>rfl)
 obtain⟨S1,hS1,hS1b,hcase⟩:∃S1:Nat→Prop,(∀b,S b→S1 b)∧(∀b,S1 b→b < w.heap.size∧b∉blks β T) ∧
   ((puresG T ks xs=true∧S1=S)∨((∀y∈outG x++[retG x],flatG 5 y)∧∀b,b < w.heap.size→b∉blks β T→S1 b)):=by
  have hSb:∀b,S b→b < w.heap.size∧b∉blks β T:=fun b hb=>⟨hb.2.1,fun hm=>hb.2.2 (hTlive b hm).1⟩
  rcases hpf with hp | hp
  ·exact⟨S,fun b hb=>hb,hSb,.inl ⟨hp,rfl⟩⟩
  ·exact⟨fun b=>b < w.heap.size∧b∉blks β T,hSb,fun b hb=>hb,.inr ⟨hp,fun b h1 h2=>⟨h1,h2⟩⟩⟩
 obtain⟨bss,hts,hbs,_,hln,hlv⟩:=args_G h.heap hS1 hh' hwp hys hl hv (hcase.imp And.left fun hc t b ht hb=>hc.2 b (h.lt ((hdom' t).1 ht).2 hb) (hTinj t b ((hdom' t).1 ht).2 ((hdom' t).1 ht).1 hb))
 rw [←hT]at hbs
 refine (hcon w S1 vals bss (fun b hb=>by rw [hbs];exact hS1b b hb) (by rw [hbs];exact hTnd) hts).mono ?_
 rw [hbs]
 rintro e w' ⟨v,bss',rfl,hfr,hnd,hloc,hres⟩
 let S3:Nat→Prop:=fun b=>(S0 b∨w0.heap.size≤b)∧b < w'.heap.size∧b∉bss'.flatten∧¬ ∃t,dom st.objs t∧t∉T∧blk (β t)=some b
 have hTold:∀b∈blks β T,S0 b∨w0.heap.size≤b:=by
  intro b hb
  obtain⟨t,ht,hb⟩:=List.mem_filterMap.1 hb
  exact (h.old t b (hTd t ht) hb).elim .inr fun hl=>.inl (hL (fun e=>by rw [e]at ht;cases ht) b hl)
 have hres3:HTs P S3 w' (lent ys vals++[v]) (outG x++[retG x]) bss':=by
  refine⟨hres.1,hres.2.1,fun i y u bs a1 a2 a3=>?_⟩
  have hx:=hres.2.2 i y u bs a1 a2 a3
  rcases hcase with ⟨_,hSe⟩ | ⟨hfl,_⟩
  ·refine hx.mono ?_
   rw [hSe]
   rintro b ⟨h1,h2,h3⟩
   refine⟨?_,h2,h3,?_⟩
   ·rcases h1 with h1 | h1 | h1
    ·exact h1.1
    ·exact hTold b h1
    ·exact .inr (Nat.le_trans h.fram.size h1)
   ·rintro⟨t,ht,hn,hb⟩
    rcases h1 with h1 | h1 | h1
    ·obtain⟨o,ho⟩:=ht;exact h1.2.2 ⟨t,o,ho,hb⟩
    ·exact hTinj t b ht hn hb h1
    ·have:=h.lt ht hb;omega
  ·exact hx.flat 5 (hfl y (List.mem_of_getElem? a1))
 obtain⟨p1,n1,l1⟩:=numW_ok (P:=P) (S:=S3) (S':=S3) (w:=w') (num_ok (fun b hb=>hb) 5 true) (outG x) _ o ho
 obtain⟨p2,l2⟩:=num_ok (P:=P) (S:=S3) (S':=S3) (w:=w') (fun b hb=>hb) 5 false _ _ r hr
 have hlen:(lent ys vals).length=(outG x).length:=by rw [hln,←ho1,n1]
 obtain⟨b1,bl,rfl,ht1,ht2⟩:=hres3.snoc hlen
 rw [List.flatten_append,List.nodup_append]at hnd
 have ebl:[bl].flatten=bl:=by simp
 rw [ebl]at hnd
 have hsn:=p1.nodup_iff.2 hQn
 rw [List.nodup_append]at hsn
 have k1:=l1 (lent ys vals) b1 ht1 hnd.1 hQn
 have k2:=l2 v bl ht2 hnd.2.1 hsn.2.1
 have hsub2:∀p∈r.2.1,p.1∈o.2.2.1++o.2.2.2:=fun p hp=>p2.mem_iff.1 (List.mem_append_left _ (List.mem_map_of_mem hp))
 obtain⟨βn,c1,c2,c3⟩:=k1.append k2 (fun b hb hb'=>hnd.2.2 b hb b hb' rfl) fun p hp q hq e=>hsn.2.2 _ (List.mem_map_of_mem hp) _ (hsub2 q hq) e
 have ebs:(b1++[bl]).flatten=b1.flatten++bl:=by rw [List.flatten_append,ebl]
 rw [ebs]at hloc
 have htag:∀p∈o.2.1++r.2.1,p.1∈Q++poolG d T W:=by
  intro p hp
  rcases List.mem_append.1 hp with hp | hp
  ·exact p1.mem_iff.1 (List.mem_append_left _ (List.mem_map_of_mem hp))
  ·exact p1.mem_iff.1 (List.mem_append_right _ (hsub2 p hp))
 generalize hos:o.2.1++r.2.1=os at *
 let β2:Nat→Value:=fun t=>if ∃p∈os,p.1=t then βn t else β t
 let objs2:Nat→Option AO:=addL os (wipeM T W st.objs)
 have hβn:∀p∈os,β2 p.1=βn p.1:=fun p hp=>if_pos ⟨p,hp,rfl⟩
 have hβo:∀t,(∀p∈os,p.1≠t)→β2 t=β t:=fun t ht=>if_neg fun ⟨p,hp,e⟩=>ht p hp e
 have hobj:∀t o',objs2 t=some o'→((t,o')∈os)∨((∀p∈os,p.1≠t)∧t∉T∧∃o0,st.objs t=some o0∧o'=wipeO W o0):=by
  intro t o' ho'
  simp only [objs2,addL]at ho'
  cases hlk:lookO os t with
  |some o1=>rw [hlk]at ho';cases ho';exact .inl (lookO_mem2 hlk)
  |none=>
   rw [hlk]at ho'
   simp only [wipeM]at ho'
   split at ho'
   ·cases ho'
   ·rename_i hc
    obtain⟨o0,h0,rfl⟩:=Option.map_eq_some_iff.1 ho'
    refine .inr ⟨fun p hp e=>?_,fun hm=>hc ((hcT t).2 hm),o0,h0,rfl⟩
    obtain⟨o1,h1⟩:=lookO_dom hp
    rw [e,hlk]at h1;cases h1
 have hdn:∀p∈os,dom objs2 p.1:=fun p hp=>by
  obtain⟨o1,h1⟩:=lookO_dom hp
  exact⟨o1,by simp only [objs2,addL,h1]⟩
 have hdo:∀t,dom st.objs t→t∉T→dom objs2 t∧β2 t=β t:=by
  rintro t ⟨o0,h0⟩ hn
  have hne:∀p∈os,p.1≠t:=fun p hp e=>by
   rcases hfree p hp with hc | hc
   ·exact hn (e ▸ (hcT _).1 hc)
   ·rw [e,h0]at hc;cases hc
  refine⟨?_,hβo t hne⟩
  cases hlk:lookO os t with
  |some o1=>exact absurd rfl (hne (t,o1) (lookO_mem2 hlk))
  |none=>exact⟨wipeO W o0,by simp only [objs2,addL,hlk,wipeM];rw [if_neg (fun hc=>hn ((hcT t).1 hc)),h0];rfl⟩
 have hlaid:=c1 β2 (dom objs2) fun p hp=>⟨hβn p hp,hdn p hp⟩
 have hpin:∀t∈Q,β2 t=β t∧dom objs2 t:=by
  intro t ht
  rw [hQ]at ht
  obtain⟨c,hc,ht⟩:=List.mem_flatMap.1 ht
  obtain⟨i,hi⟩:=List.getElem?_of_mem hc
  have hlt:i < (lent ys vals).length:=by rw [hln];exact (List.getElem?_eq_some_iff.1 hi).1
  have hu:=List.getElem?_eq_getElem hlt
  exact tops_eq (hlv i c _ hi hu) (hlaid.2.1 i c _ (by rw [ho1];exact hi) hu) t ht
 have hD:∀s,dom st.objs s→W.contains s=false→dom objs2 s∧β2 s=β s:=by
  intro s hs hc
  by_cases hm:s∈T
  ·have:s∈Q:=by
    by_cases hq:s∈Q
    ·exact hq
    ·have:s∈W:=by rw [hW];exact List.mem_filter.2 ⟨hm,by simpa using hq⟩
     rw [List.contains_iff_mem.2 this]at hc;cases hc
   exact⟨(hpin s this).2,(hpin s this).1⟩
  ·exact hdo s hs hm
 have hnewb:∀p∈os,∀b,blk (β2 p.1)=some b→b∈b1.flatten++bl:=fun p hp b hb=>by
  rw [hβn p hp]at hb
  exact c2 p hp b hb
 have hlive2:∀b,live β2 objs2 b→b∈b1.flatten++bl∨∃t,dom st.objs t∧t∉T∧blk (β t)=some b:=by
  rintro b ⟨t,o',ho',hb⟩
  rcases hobj t o' ho' with hm | ⟨h1,h2,o0,h3,_⟩
  ·exact .inl (hnewb _ hm b hb)
  ·rw [hβo t h1]at hb
   exact .inr ⟨t,⟨o0,h3⟩,h2,hb⟩
 have hsame:∀b,b < w.heap.size→b∉blks β T→w'.heap[b]? = w.heap[b]?:=fun b h1 h2=>hfr.block b h1 h2
 have hm:∀b,S b→okS S0 w0.heap.size β2 objs2 w' b∧w'.heap[b]? = w.heap[b]?:=by
  rintro b ⟨h1,h2,h3⟩
  have hnT:b∉blks β T:=fun hm=>h3 (hTlive b hm).1
  refine⟨⟨h1,Nat.lt_of_lt_of_le h2 hfr.size,fun hl=>?_⟩,hsame b h2 hnT⟩
  rcases hlive2 b hl with hb | ⟨t,⟨o0,h0⟩,_,hb⟩
  ·rcases hloc b hb with h4 | h4
   ·omega
   ·exact hnT h4
  ·exact h3 ⟨t,o0,h0,hb⟩
 have hm3:∀b,S3 b→okS S0 w0.heap.size β2 objs2 w' b∧w'.heap[b]? = w'.heap[b]?:=by
  rintro b ⟨h1,h2,h3,h4⟩
  refine⟨⟨h1,h2,fun hl=>?_⟩,rfl⟩
  rcases hlive2 b hl with hb | hb
  ·exact h3 (by rw [ebs];exact hb)
  ·exact h4 hb
 have hrel:Rel P S0 L B0 w0 N ⟨wipeV W st.vars,objs2⟩ a w' β2:=by
  refine⟨h.size,h.defers,fun s=>(h.vars s).wipe hm hD,⟨fun t o' ho'=>?_,fun t t' b ht ht' hb hb'=>?_⟩,fun t b ht hb=>?_,h.lim,fun t h9 ht=>?_,?_⟩
  ·rcases hobj t o' ho' with hmem | ⟨h1,h2,o0,h3,rfl⟩
   ·exact (hlaid.1 (t,o') hmem).mono hm3 (fun _ hd=>⟨hd,rfl⟩) rfl (fun _ _=>rfl)
   ·exact (h.heap.holds t o0 h3).wipe hm hD (hβo t h1) fun b hb=>hsame b (h.lt ⟨o0,h3⟩ hb) (hTinj t b ⟨o0,h3⟩ h2 hb)
  ·obtain⟨o1,ho1'⟩:=ht
   obtain⟨o2,ho2'⟩:=ht'
   rcases hobj t o1 ho1' with hm1 | ⟨g1,g2,o0,g3,_⟩<;>rcases hobj t' o2 ho2' with hm2 | ⟨g1',g2',o0',g3',_⟩
   ·rw [hβn _ hm1]at hb;rw [hβn _ hm2]at hb'
    exact c3 _ hm1 _ hm2 b hb hb'
   ·rw [hβo t' g1']at hb'
    rcases hloc b (hnewb _ hm1 b hb) with h4 | h4
    ·have:=h.lt ⟨o0',g3'⟩ hb';omega
    ·exact absurd h4 (hTinj t' b ⟨o0',g3'⟩ g2' hb')
   ·rw [hβo t g1]at hb
    rcases hloc b (hnewb _ hm2 b hb') with h4 | h4
    ·have:=h.lt ⟨o0,g3⟩ hb;omega
    ·exact absurd h4 (hTinj t b ⟨o0,g3⟩ g2 hb)
   ·rw [hβo t g1]at hb;rw [hβo t' g1']at hb'
    exact h.heap.inj t t' b ⟨o0,g3⟩ ⟨o0',g3'⟩ hb hb'
  ·obtain⟨o1,ho1'⟩:=ht
   rcases hobj t o1 ho1' with hm1 | ⟨g1,g2,o0,g3,_⟩
   ·rcases hloc b (hnewb _ hm1 b hb) with h4 | h4
    ·exact .inl (Nat.le_trans h.fram.size h4)
    ·obtain⟨s,hs,hb'⟩:=List.mem_filterMap.1 h4
     exact h.old s b (hTd s hs) hb'
   ·rw [hβo t g1]at hb
    exact h.old t b ⟨o0,g3⟩ hb
  ·obtain⟨o1,ho1'⟩:=ht
   rcases hobj t o1 ho1' with hm1 | ⟨g1,g2,o0,g3,_⟩
   ·have hq:t∈Q:=by
     rcases List.mem_append.1 (htag _ hm1) with hq | hq
     ·exact hq
     ·exfalso
      unfold poolG at hq
      rcases List.mem_append.1 hq with hq | hq
      ·have:=(List.mem_filter.1 hq).2
       simp only [bne_iff_ne,ne_eq]at this
       exact this h9
      ·have:=(List.mem_filter.1 hq).1
       simp only [List.mem_cons,List.not_mem_nil,or_false]at this
       omega
    rw [(hpin t hq).1]
    exact h.pin t h9 (hTd t (hQT t hq))
   ·rw [hβo t g1];exact h.pin t h9 ⟨o0,g3⟩
  ·exact⟨hfr.os.trans h.fram.os,hfr.tape.trans h.fram.tape,hfr.output.trans h.fram.output,Nat.le_trans h.fram.size hfr.size,fun b h1 h2=>(hsame b (by have:=h.fram.size;omega) fun hm=>by
    rcases List.mem_filterMap.1 hm with ⟨s,hs,hb'⟩
    rcases h.old s b (hTd s hs) hb' with h3 | h3
    ·omega
    ·exact h2 h3).trans (h.fram.block b h1 h2)⟩
 exact⟨v,β2,rfl,hrel,hlaid.2.2.mono hm3 fun _ hd=>⟨hd,rfl⟩⟩
theorem reis_ysG:∀{xs ys:List AV},reis st.objs xs=some ys→ysG st.objs st.objs [] (xs.map fun _=>0) xs=some ys
 | [],_,h=>h
 |x::xs,ys,h=>by
  obtain⟨y,hy,h⟩:=Option.bind_eq_some_iff.1 h
  obtain⟨l,hl,rfl⟩:=Option.map_eq_some_iff.1 h
  show (rei st.objs x).bind _=_
  rw [hy]
  show ((ysG st.objs st.objs [] (xs.map fun _=>0) xs).map _)=_
  rw [reis_ysG hl];rfl
theorem zeros_tags:∀xs:List AV,tagsG st.objs (xs.map fun _=>0) xs=[]
 | []=>rfl
 |x::xs=>by show []++tagsG st.objs (xs.map fun _=>0) xs=[];rw [zeros_tags xs];rfl
theorem zeros_lent:∀xs:List AV,lentG (xs.map fun _=>0) xs=[]
 | []=>rfl
 |x::xs=>by show lentG (xs.map fun _=>0) xs=[];exact zeros_lent xs
theorem zeros_pures:∀xs:List AV,puresG [] (xs.map fun _=>0) xs=pures xs
 | []=>rfl
 |x::xs=>by
  show ((0 != 0 || pure1 x) && puresG [] (xs.map fun _=>0) xs)=_
  rw [zeros_pures xs];rfl
theorem wipeM_nil (f:Nat→Option AO):wipeM [] [] f=f:=by
 funext t
 show (f t).map (wipeO [])=f t
 cases f t<;>rfl
theorem pool8_nodup (d:Nat):(pool8 d).Nodup:=by
 simp [pool8,List.nodup_cons]
theorem flat1_tr {r:AV} (h:flat1 r):trC r=false:=by
 by_cases hx:∃cs,r=.agg cs
 ·obtain⟨cs,rfl⟩:=hx
  have h:flatL cs:=h
  show cs.any _=false
  induction cs with
  |nil=>rfl
  |cons c cs ih=>
   rw [List.any_cons,ih h.2 h.2,Bool.or_false]
   have:=h.1
   cases c<;>first | rfl | exact this.elim
 ·have h:flatC r:=by rw [←flat1_ne r fun cs e=>hx ⟨cs,e⟩];exact h
  cases r<;>first | rfl | exact h.elim
theorem flat_tr {r:AV} (h:flat r):trR r=false:=by
 by_cases hx:∃vs,r=.tup vs
 ·obtain⟨vs,rfl⟩:=hx
  have h:flatV vs:=h
  show vs.any trC=false
  induction vs with
  |nil=>rfl
  |cons c cs ih=>rw [List.any_cons,ih h.2 h.2,Bool.or_false];exact flat1_tr h.1
 ·have h:flat1 r:=by rw [←flat_ne r fun cs e=>hx ⟨cs,e⟩];exact h
  have:trR r=trC r:=by cases r<;>first | rfl | exact absurd ⟨_,rfl⟩ hx
  rw [this];exact flat1_tr h
theorem newO_plain {r:AV} (h:trR r=false) (d:Nat):newO d r=frTags d r:=by unfold newO;rw [h];rfl
theorem newV_plain {r:AV} (h:trR r=false) (d:Nat):newV d r=mapTop (tagC d) r:=by unfold newV;rw [h];rfl
theorem resR_plain {r:AV} (h:trR r=false) (d:Nat):resR d r=resOK r:=by unfold resR;rw [h];rfl
theorem flatR_plain {r:AV} (h:trR r=false):flatR r=flat r:=by unfold flatR;rw [h];rfl
theorem numW_perm {f:AV→List Nat × List Nat→Option (AV × List (Nat × AO) × List Nat × List Nat)} (hf:∀y s q,f y s=some q→(q.2.1.map (·.1)++(q.2.2.1++q.2.2.2)).Perm (s.1++s.2)) :
  ∀(ys:List AV) (s:List Nat × List Nat) (q:List AV × List (Nat × AO) × List Nat × List Nat),numW f ys s=some q→(q.2.1.map (·.1)++(q.2.2.1++q.2.2.2)).Perm (s.1++s.2)
 | [],s,q,h=>by cases h;exact .refl _
 |y::ys,s,q,h=>by
  obtain⟨r,hr,h⟩:=Option.bind_eq_some_iff.1 h
  obtain⟨q',hq,rfl⟩:=Option.map_eq_some_iff.1 h
  rw [List.map_append,List.append_assoc]
  exact ((numW_perm hf ys r.2.2 q' hq).append_left _).trans (hf y s r hr)
theorem num_perm:∀(n:Nat) (top:Bool) (y:AV) (s:List Nat × List Nat) (q:AV × List (Nat × AO) × List Nat × List Nat),num n top y s=some q→(q.2.1.map (·.1)++(q.2.2.1++q.2.2.2)).Perm (s.1++s.2)
 | 0,_,_,_,_,h=>by cases h
 |n+1,top,y,s,q,h=>by
  unfold num at h
  split at h
  ·obtain⟨k,hk,rfl⟩:=Option.map_eq_some_iff.1 h;exact tk_perm hk
  ·obtain⟨k,hk,rfl⟩:=Option.map_eq_some_iff.1 h;exact tk_perm hk
  ·obtain⟨k,hk,h⟩:=Option.bind_eq_some_iff.1 h
   obtain⟨r,hr,rfl⟩:=Option.map_eq_some_iff.1 h
   exact ((numW_perm (num_perm n false) _ k.2 r hr).cons k.1).trans (tk_perm hk)
  ·obtain⟨r,hr,rfl⟩:=Option.map_eq_some_iff.1 h;exact numW_perm (num_perm n top) _ s r hr
  ·obtain⟨r,hr,rfl⟩:=Option.map_eq_some_iff.1 h;exact numW_perm (num_perm n top) _ s r hr
  ·cases h;exact .refl _
  ·cases h;exact .refl _
  ·split at h
   ·cases h;exact .refl _
   ·cases h
  ·cases h
theorem newO_tags (d:Nat) (r:AV):∀x∈newO d r,∃p,x.1=d+1000*p:=by
 intro x hx
 unfold newO at hx
 split at hx
 ·cases hn:num 5 false r ([],pool8 d) with
  |none=>rw [hn]at hx;simp at hx
  |some q=>
   rw [hn]at hx
   have hp:=num_perm 5 false r _ q hn
   have hm:x.1∈pool8 d:=by simpa using hp.mem_iff.1 (List.mem_append_left _ (List.mem_map_of_mem (by simpa using hx)))
   simp only [pool8,List.mem_cons,List.not_mem_nil,or_false]at hm
   rcases hm with h | h | h | h | h | h | h | h
   ·exact⟨0,h⟩
   ·exact⟨1,h⟩
   ·exact⟨2,h⟩
   ·exact⟨3,h⟩
   ·exact⟨4,h⟩
   ·exact⟨5,h⟩
   ·exact⟨6,h⟩
   ·exact⟨7,h⟩
 ·unfold frTags at hx
  obtain⟨y,_,rfl⟩:=List.mem_map.1 hx
  exact⟨y.1,rfl⟩
theorem call_soundR (h:Rel P S0 L B0 w0 N st a w β) {f:FuncId}{d:Nat} (hd9:d % 1000≠999) {vals:List Value}{xs ys:List AV}{r:AV} (hl:vals.length=xs.length)
  (hv:∀(i:Nat) (v:Value) (x:AV),vals[i]? = some v→xs[i]? = some x→RV P (okS S0 w0.heap.size β st.objs w) w β (dom st.objs) v x)
  (hre:reis st.objs xs=some ys) (hcon:ConR P f ys r) (hpf:pures xs=true∨flatR r) (hfree:∀x∈newO d r,st.objs x.1=none) (hres:resR d r=true) :
  Calls P f vals.toArray w fun e w'=>∃v β',e=.returned v∧Rel P S0 L B0 w0 N ⟨st.vars,addL (newO d r) st.objs⟩ a w' β' ∧
   RV P (okS S0 w0.heap.size β' (addL (newO d r) st.objs) w') w' β' (dom (addL (newO d r) st.objs)) v (newV d r):=by
 unfold newO at hfree ⊢
 unfold newV
 unfold resR at hres
 unfold flatR at hpf
 cases ht:trR r with
 |false=>
  simp only [ht,Bool.false_eq_true,if_false]at hfree hres hpf ⊢
  exact call_sound h hd9 hl hv hre (hcon.2 ht) hpf hfree hres
 |true=>
  simp only [ht,if_true]at hfree hres hpf ⊢
  obtain⟨q,hq⟩:=Option.isSome_iff_exists.1 hres
  rw [hq]at hfree ⊢
  simp only [Option.map_some,Option.getD_some]at hfree ⊢
  have:=call_G (T:=[]) (Q:=[]) (W:=[]) (fun e=>absurd rfl e) h hd9 (ks:=xs.map fun _=>0) hl hv (zeros_tags xs).symm (by rw [zeros_lent];rfl) rfl List.nodup_nil (fun t ht=>by cases ht) (pool8_nodup d)
   (by rw [wipeM_nil];exact reis_ysG hre) (hcon.1 ht) (by rw [zeros_pures];exact hpf.imp id fun hf y hy=>by simp only [outG,retG,List.nil_append,List.mem_singleton]at hy;rw [hy];exact hf)
   (o:=([],[],([],pool8 d))) rfl (zeros_lent xs).symm hq (fun p hp=>.inr (hfree p hp))
  rw [wipeM_nil]at this
  exact this
end
theorem kIdx_inj {k k':IntKind} (h:kIdx k=kIdx k'):k=k':=by
 cases k<;>cases k'<;>first | rfl | (simp [kIdx]at h)
theorem eqPs_append:∀{a c b d:List PV},a.length=c.length→eqPs (a++b) (c++d)=(eqPs a c && eqPs b d)
 | [],[],b,d,_=>by simp [eqPs]
 |x::a,y::c,b,d,h=>by
  simp only [List.cons_append,eqPs]
  rw [eqPs_append (by simpa using h),Bool.and_assoc]
 | [],_::_,_,_,h=>by simp at h
 | _::_,[],_,_,h=>by simp at h
section
variable {P:Program}
def mkT (P:Program) (t:TypeId) (us:List Value):Value:=
 match P.underlying t with
 |some (.struct _) | some (.array _ _)=>.agg us.toArray
 | _=>us.headD undef
theorem part_at (w:World) {t:TypeId}{n:Nat}{A us rest:List Value} (ht:(P.underlying t).isSome=true) (hn:sizeT P t=some n) (hl:us.length=n) (h1:(∃fs,P.underlying t=some (.struct fs))∨(us≠[]∧∀k e,P.underlying t≠some (.array k e))) :
  (part t (A++us++rest).toArray A.length).run P w=.ok (mkT P t us) w:=by
 obtain⟨d,hd⟩:=Option.isSome_iff_exists.1 ht
 obtain⟨i,hi,hsz⟩:∃i,P.info? t=some i∧i.size=n:=by
  unfold sizeT at hn
  obtain⟨i,hi,rfl⟩:=Option.map_eq_some_iff.1 hn
  exact⟨i,hi,rfl⟩
 have hs:(Go.sizeOf t).run P w=.ok n w:=by simp [Go.sizeOf,typeInfo,hi,hsz]
 have hagg:(∃fs,d=.struct fs)→(part t (A++us++rest).toArray A.length).run P w=.ok (.agg us.toArray) w:=by
  rintro⟨fs,rfl⟩
  have he:(A++us++rest).toArray.extract A.length (A.length+n)=us.toArray:=by
   apply Array.ext'
   simp only [List.extract_toArray,List.extract_eq_take_drop]
   rw [List.append_assoc,List.drop_left,Nat.add_sub_cancel_left,←hl,List.take_left]
  simp only [part,isAgg,Sem.run_bind,run_underlying hd,hs,Result.andThen_ok,Sem.run_pure,if_true,he]
 unfold mkT
 rw [hd]
 rcases h1 with ⟨fs,h1⟩ | ⟨h1,h2⟩
 ·rw [hd]at h1;cases h1;exact hagg ⟨fs,rfl⟩
 ·match us,h1 with
  |u::l,_=>
   have h4:(A++(u::l)++rest).toArray[A.length]? = some u:=by simp
   cases d with
   |struct fs=>exact hagg ⟨fs,rfl⟩
   |array k e=>exact absurd hd (h2 k e)
   | _=>simp [part,isAgg,run_underlying hd,Result.andThen]
theorem keyV_bool {p:PV} (h:srt p=0):∃b,p=.bool b:=by
 cases p<;>simp [srt]at h;exact⟨_,rfl⟩
theorem keyV_str {p:PV} (h:srt p=1):∃l,p=.str l:=by
 cases p with
 |str l=>exact⟨l,rfl⟩
 |int k n=>simp only [srt]at h;omega
 | _=>simp [srt]at h
theorem keyV_int {p:PV}{k:IntKind} (h:srt p=2+kIdx k):∃n,p=.int k n:=by
 have:kIdx k≤7:=by cases k<;>decide
 cases p with
 |int k' n=>
  simp only [srt]at h
  have:=kIdx_inj (show kIdx k'=kIdx k by omega)
  subst this
  exact⟨n,rfl⟩
 |bool b=>simp only [srt]at h;omega
 |str b=>simp only [srt]at h;omega
 | _=>simp only [srt]at h;omega
theorem bytes_eq (a b:List UInt8):((⟨a.toArray⟩:ByteArray).toList == (⟨b.toArray⟩:ByteArray).toList)=decide (a=b):=by
 rw [ByteArray.toList_eq,ByteArray.toList_eq]
 by_cases h:a=b
 ·subst h;simp
 ·simp [h]
theorem cellKs_len:∀(n:Nat) (t:TypeId) (ks:List Nat),cellKs P n t=some ks→(P.underlying t).isSome=true∧((∃fs,P.underlying t=some (.struct fs))∨(ks≠[]∧∀k e,P.underlying t≠some (.array k e)))
 | 0,t,ks,h=>by cases h
 |n+1,t,ks,h=>by
  unfold cellKs at h
  split at h
  ·rename_i hu;cases h;rw [hu];exact⟨rfl,.inr ⟨by simp,fun k e h=>by cases h⟩⟩
  ·rename_i hu;cases h;rw [hu];exact⟨rfl,.inr ⟨by simp,fun k e h=>by cases h⟩⟩
  ·rename_i hu;cases h;rw [hu];exact⟨rfl,.inr ⟨by simp,fun k e h=>by cases h⟩⟩
  ·rename_i fs hu;rw [hu];exact⟨rfl,.inl ⟨fs,rfl⟩⟩
  ·cases h
theorem eq_fields {f:TypeId→Option (List Nat)}{d:Nat} (hl:∀t ks,f t=some ks→(P.underlying t).isSome=true∧((∃fs,P.underlying t=some (.struct fs))∨(ks≠[]∧∀k e,P.underlying t≠some (.array k e))))
  (hf:∀t ks,f t=some ks→∀(w:World) (ps qs:List PV),ps.map srt=ks→qs.map srt=ks→(Op.equalIn d t (mkT P t (ps.map keyV)) (mkT P t (qs.map keyV))).run P w=.ok (eqPs ps qs) w) (w:World) :
  ∀(fs:List Field) (off:Nat) (ks:List Nat) (A B:List Value) (ps qs:List PV),fieldKs P f off fs=some ks→A.length=off→B.length=off→ps.map srt=ks→qs.map srt=ks →
   (Op.eqFields d (A++ps.map keyV).toArray (B++qs.map keyV).toArray fs).run P w=.ok (eqPs ps qs) w
 | [],off,ks,A,B,ps,qs,h,hA,hB,hp,hq=>by
  cases h
  have:ps=[]:=List.map_eq_nil_iff.1 hp
  have:qs=[]:=List.map_eq_nil_iff.1 hq
  subst_vars
  simp [Op.eqFields,eqPs]
 |fl::fs,off,ks,A,B,ps,qs,h,hA,hB,hp,hq=>by
  unfold fieldKs at h
  split at h
  ·rename_i hc
   obtain⟨hn,ho⟩:=hc
   obtain⟨a,ha,h⟩:=Option.bind_eq_some_iff.1 h
   split at h
   ·rename_i hs
    obtain⟨r,hr,rfl⟩:=Option.map_eq_some_iff.1 h
    have key:∀l:List PV,l.map srt=a++r→∃l1 l2,l=l1++l2∧l1.map srt=a∧l2.map srt=r:=by
     intro l h
     obtain⟨l1,l2,rfl,h1,h2⟩:=List.map_eq_append_iff.1 h
     exact⟨l1,l2,rfl,h1,h2⟩
    obtain⟨p1,p2,rfl,hp1,hp2⟩:=key ps hp
    obtain⟨q1,q2,rfl,hq1,hq2⟩:=key qs hq
    have l1:p1.length=a.length:=by rw [←hp1];simp
    have l2:q1.length=a.length:=by rw [←hq1];simp
    obtain⟨g1,g2⟩:=hl _ _ ha
    have e1:((fl.offset:Nat))=A.length:=by rw [hA,ho]
    have e2:A.length=B.length:=by rw [hA,hB]
    have hpa:=part_at (P:=P) (t:=fl.type) (n:=a.length) (A:=A) (us:=p1.map keyV) (rest:=p2.map keyV) w g1 hs (by simpa using l1) (g2.imp id fun h=>⟨by intro h0;apply h.1;rw [←hp1,List.map_eq_nil_iff.1 h0];rfl,h.2⟩)
    have hqa:=part_at (P:=P) (t:=fl.type) (n:=a.length) (A:=B) (us:=q1.map keyV) (rest:=q2.map keyV) w g1 hs (by simpa using l2) (g2.imp id fun h=>⟨by intro h0;apply h.1;rw [←hq1,List.map_eq_nil_iff.1 h0];rfl,h.2⟩)
    have ih:=eq_fields hl hf w fs (off+a.length) r (A++p1.map keyV) (B++q1.map keyV) p2 q2 hr (by simp [hA,l1]) (by simp [hB,l2]) hp2 hq2
    rw [List.map_append,List.map_append,←List.append_assoc,←List.append_assoc,eqPs_append (by rw [l1,l2])]
    unfold Op.eqFields
    rw [if_pos hn,e1]
    simp only [Sem.run_bind,hpa,Result.andThen_ok]
    rw [e2]
    simp only [hqa,Result.andThen_ok,hf _ _ ha w p1 q1 hp1 hq1]
    cases h1:eqPs p1 q1 with
    |true=>
     simp only [Bool.not_true,Bool.false_eq_true,if_false,Bool.true_and]
     exact ih
    |false=>simp
   ·cases h
  ·cases h
theorem eq_sound:∀(n:Nat) (t:TypeId) (ks:List Nat),cellKs P n t=some ks→∀(d:Nat),n≤d→∀(w:World) (ps qs:List PV),ps.map srt=ks→qs.map srt=ks →
  (Op.equalIn d t (mkT P t (ps.map keyV)) (mkT P t (qs.map keyV))).run P w=.ok (eqPs ps qs) w
 | 0,t,ks,h=>by cases h
 |n+1,t,ks,h=>by
  intro d hd w ps qs hp hq
  obtain⟨d,rfl⟩:∃e,d=e+1:=⟨d - 1,by omega⟩
  have one:∀k,ks=[k]→∃p q,ps=[p]∧qs=[q]∧srt p=k∧srt q=k:=by
   rintro k rfl
   rcases ps with _ | ⟨p,_ | ⟨p',ps⟩⟩<;>simp at hp
   rcases qs with _ | ⟨q,_ | ⟨q',qs⟩⟩<;>simp at hq
   exact⟨p,q,rfl,rfl,hp,hq⟩
  unfold cellKs at h
  split at h
  ·rename_i hu
   injection h with h
   obtain⟨p,q,rfl,rfl,h1,h2⟩:=one _ h.symm
   obtain⟨b,rfl⟩:=keyV_bool h1
   obtain⟨c,rfl⟩:=keyV_bool h2
   simp only [mkT,hu,List.map_cons,List.map_nil,List.headD_cons,keyV]
   rw [run_equalIn_bool' w d t b c hu]
   cases b<;>cases c<;>rfl
  ·rename_i hu
   injection h with h
   obtain⟨p,q,rfl,rfl,h1,h2⟩:=one _ h.symm
   obtain⟨b,rfl⟩:=keyV_str h1
   obtain⟨c,rfl⟩:=keyV_str h2
   simp only [mkT,hu,List.map_cons,List.map_nil,List.headD_cons,keyV]
   rw [run_equalIn_string w d t _ _ hu,bytes_eq]
   simp [eqPs,eqP]
  ·rename_i k hu
   injection h with h
   obtain⟨p,q,rfl,rfl,h1,h2⟩:=one _ h.symm
   obtain⟨b,rfl⟩:=keyV_int h1
   obtain⟨c,rfl⟩:=keyV_int h2
   simp only [mkT,hu,List.map_cons,List.map_nil,List.headD_cons,keyV]
   rw [run_equalIn_int w d t k k b c hu]
   simp only [eqPs,eqP,Bool.and_true]
   rfl
  ·rename_i fs hu
   split at h
   ·rename_i hst
    have hfo:P.fieldsOf t=fs:=by simp [Program.fieldsOf,hu]
    simp only [mkT,hu]
    rw [run_equalIn_struct w d t _ _ (by rw [hfo];exact hu) hst,hfo]
    have:=eq_fields (P:=P) (f:=cellKs P n) (d:=d) (fun t ks h=>cellKs_len n t ks h) (fun t ks h w ps qs=>eq_sound n t ks h d (by omega) w ps qs) w fs.toList 0 ks [] [] ps qs h rfl rfl hp hq
    simpa using this
   ·cases h
  ·cases h
end
section
variable {P:Program}{S:Nat→Prop}{w:World}{β:Nat→Value}{objs:Nat→Option AO}{a:Act}{o:Oper}{x y:Operand}
theorem pvsOf_inv:∀{cs:List AV}{ps:List PV},pvsOf cs=some ps→cs=ps.map .pv
 | [],ps,h=>by cases h;rfl
 |c::cs,ps,h=>by
  simp only [pvsOf,Option.bind_eq_some_iff,Option.map_eq_some_iff]at h
  obtain⟨p,hp,l,hl,rfl⟩:=h
  rw [pvsOf_inv hl]
  cases c<;>simp [pvOf]at hp
  subst hp;rfl
theorem cells_keyV {D:Nat→Prop}{ps:List PV}{ks:List Nat} (hks:∀k∈ks,k < 99) (hs:ps.map srt=ks) {us:List Value} (hl:us.length=(ps.map AV.pv).length)
  (hr:∀(i:Nat) (c:AV) (u:Value),(ps.map AV.pv)[i]? = some c→us[i]? = some u→RV P S w β D u c):us=ps.map keyV:=by
 subst hs
 have hl':us.length=ps.length:=by simpa using hl
 apply List.ext_getElem?
 intro i
 cases hu:us[i]? with
 |none=>
  have:us.length≤i:=List.getElem?_eq_none_iff.1 hu
  rw [List.getElem?_eq_none (by simp;omega)]
 |some u=>
  have hi:i < us.length:=(List.getElem?_eq_some_iff.1 hu).1
  obtain⟨p,hp⟩:∃p,ps[i]? = some p:=⟨ps[i],List.getElem?_eq_getElem (by omega)⟩
  have h3:=(hr i (.pv p) u (by simp [hp]) hu).pv_inv
  have h4:=hks (srt p) (by simp only [List.mem_map];exact⟨_,List.mem_of_getElem? hp,rfl⟩)
  rw [List.getElem?_map,hp]
  simp only [Option.map_some,Option.some.injEq]
  cases h3 with
  |int q n=>rfl
  |bool b=>rfl
  |str l=>rfl
  | _=>simp only [srt]at h4;omega
theorem q_eqs {ne:Bool}{t yt:TypeId}{fs:Array Field}{ks:List Nat} (ho:o.op=.binOp (if ne=true then .neq else .eql) t x y yt) (hu:P.underlying t=some (.struct fs)) (hk:cellKs P 8 t=some ks) (hks:ks.all (· < 99)=true) (hg:P.eqGuardType P.depth t=false)
  {X Y:AV} (hX:RV P S w β (dom objs) (a.eval x) X) (hY:RV P S w β (dom objs) (a.eval y) Y) {φ:Prop}{v:AV} (h:semQ (.eqs ne ks) [X,Y] objs=some (φ,v)) (hφ : φ) :
  ∃r,(execOp a.eval o).run P w=.ok (.value r) w∧RV P S w β (dom objs) r v:=by
 have hks':∀k∈ks,k < 99:=fun k hk=>by simpa using (List.all_eq_true.1 hks) k hk
 cases X with
 |agg xs=>
  cases Y with
  |agg ys=>
   simp only [semQ,Option.bind_eq_some_iff,Option.map_eq_some_iff]at h
   obtain⟨ps,hps,qs,hqs,he⟩:=h
   cases he
   cases pvsOf_inv hps
   cases pvsOf_inv hqs
   obtain⟨us,hxu,hul,hur⟩:=hX.agg_inv
   obtain⟨vs,hyv,hvl,hvr⟩:=hY.agg_inv
   have e1:=cells_keyV hks' hφ.1 hul hur
   have e2:=cells_keyV hks' hφ.2 hvl hvr
   have hrun:=eq_sound 8 t ks hk 10000 (by omega) w ps qs hφ.1 hφ.2
   simp only [mkT,hu]at hrun
   rw [e1]at hxu
   rw [e2]at hyv
   cases ne with
   |false=>exact⟨_,by simp [execOp,ho,hxu,hyv,run_eqGuard_agg w .eql t x y _ _ hg,run_eql_struct,hrun,Result.andThen],.pv _ _ (.bool _)⟩
   |true=>exact⟨_,by simp [execOp,ho,hxu,hyv,run_eqGuard_agg w .neq t x y _ _ hg,run_neq_struct,hrun,Result.andThen],.pv _ _ (.bool _)⟩
  | _=>simp [semQ]at h
 | _=>simp [semQ]at h
end
theorem srtT_key {P:Program}{kt:TypeId}{s:Nat} (h:srtT P kt=some s):∃d,P.underlying kt=some d∧∀k,srt k=s→MapKept.IsKey d (keyV k):=by
 unfold srtT at h
 split at h
 ·rename_i hu
  injection h with h;subst h
  refine⟨_,hu,fun k hk=>?_⟩
  cases k<;>first | trivial | (simp [srt]at hk)
 ·rename_i hu
  injection h with h;subst h
  refine⟨_,hu,fun k hk=>?_⟩
  cases k<;>first | trivial | (simp [srt]at hk;try omega)
 ·rename_i q hu
  injection h with h;subst h
  refine⟨_,hu,fun k hk=>?_⟩
  cases k with
  |int k n=>
   simp only [srt]at hk
   exact kIdx_inj (by omega)
  |bool b=>simp only [srt]at hk;omega
  |str l=>simp only [srt]at hk;omega
  | _=>simp only [srt]at hk;have:kIdx q≤7:=by cases q<;>decide
       omega
 ·cases h
theorem eqP_keyV {k k':PV}{s:Nat} (h:srt k=s) (h':srt k'=s) (hs:s < 99):eqP k k'=true↔keyV k'=keyV k:=by
 subst h
 cases k<;>cases k'<;>simp only [srt]at h' hs<;>first
  |omega
  | (have : _:=kIdx_inj (Nat.add_left_cancel h');subst this;simp [eqP,keyV,eq_comm])
  |simp [eqP,keyV,eq_comm]
theorem srt_lt {P:Program}{kt:TypeId}{s:Nat} (h:srtT P kt=some s):s < 99:=by
 unfold srtT at h
 split at h
 ·injection h with h;omega
 ·injection h with h;omega
 ·rename_i q _
  injection h with h
  have:kIdx q≤7:=by cases q<;>decide
  omega
 ·cases h
theorem key_val {P:Program}{S:Nat→Prop}{w:World}{β:Nat→Value}{D:Nat→Prop}{u:Value}{p:PV}{s:Nat} (h:RV P S w β D u (.pv p)) (hp:srt p=s) (hs:s < 99):u=keyV p:=by
 have h:=h.pv_inv
 cases h with
 |int q n=>rfl
 |bool b=>rfl
 |str l=>rfl
 | _=>simp only [srt]at hp;omega
theorem mapT_inv {P:Program}{t k e:TypeId} (h:mapT P t=some (k,e)):P.underlying t=some (.map k e):=by
 unfold mapT at h
 split at h
 ·rename_i hu;cases h;exact hu
 ·cases h
theorem find_mapV {d:TypeDesc}{k:PV}{s:Nat} (hd:∀k,srt k=s→MapKept.IsKey d (keyV k)) (hk:srt k=s) (hs:s < 99):∀(us:List MapEntry) (es:List (PV × PV)) (n:Nat),keysV s es→us.length=es.length→(∀(i:Nat) (e:PV × PV) (u:MapEntry),es[i]? = some e→us[i]? = some u→u.key=keyV e.1) →
  (Instr.findNow d (keyV k) us n=some none∧getV k es=none∧(∀v,putV k v es=es++[(k,v)])∧delV k es=es∧∀u∈us,u.key≠keyV k) ∨
  ∃j e u,Instr.findNow d (keyV k) us n=some (some (n+j,u.val))∧es[j]? = some e∧us[j]? = some u∧u.key=keyV k∧getV k es=some e.2∧(∀v,putV k v es=es.set j (k,v))∧delV k es=es.eraseIdx j
 | [],[],_,_,_,_=>.inl ⟨rfl,rfl,fun v=>rfl,rfl,fun u hu=>by simp at hu⟩
 | [],_::_,_,_,hl,_=>by simp at hl
 | _::_,[],_,_,hl,_=>by simp at hl
 |u::us,e::es,n,hks,hl,hu=>by
  have h1:=hu 0 e u rfl rfl
  have hke:=hks e (by simp)
  obtain⟨r,hr,hiff⟩:=MapKept.sameNow_of_keys (hd k hk) (hd e.1 hke)
  rw [←h1]at hr
  cases r with
  |true=>
   have h2:keyV k=keyV e.1:=hiff.1 rfl
   have h3:eqP k e.1=true:=(eqP_keyV hk hke hs).2 h2.symm
   exact .inr ⟨0,e,u,by simp [Instr.findNow,hr],rfl,rfl,h1.trans h2.symm,by simp only [getV];rw [if_pos h3],fun v=>by simp only [putV];rw [if_pos h3];rfl,by simp only [delV];rw [if_pos h3];rfl⟩
  |false=>
   have h3:¬ eqP k e.1=true:=fun h=>by have:=hiff.2 ((eqP_keyV hk hke hs).1 h).symm;cases this
   have h4:u.key≠keyV k:=fun h=>by have:=hiff.2 (h.symm.trans h1);cases this
   rcases find_mapV hd hk hs us es (n+1) (fun x hx=>hks x (by simp [hx])) (by simpa using hl) (fun i x y hx hy=>hu (i+1) x y (by simpa using hx) (by simpa using hy)) with ⟨g1,g2,g3,g4,g5⟩ | ⟨j,e',u',g1,g2,g3,g4,g5,g6,g7⟩
   ·refine .inl ⟨by simp [Instr.findNow,hr,g1],by simp only [getV];rw [if_neg h3];exact g2,fun v=>by simp only [putV];rw [if_neg h3,g3 v];rfl,by simp only [delV];rw [if_neg h3,g4],fun x hx=>?_⟩
    rcases List.mem_cons.1 hx with rfl | hx
    ·exact h4
    ·exact g5 x hx
   ·exact .inr ⟨j+1,e',u',by simp [Instr.findNow,hr,g1];omega,by simpa using g2,by simpa using g3,g4,by simp only [getV];rw [if_neg h3];exact g5,fun v=>by simp only [putV];rw [if_neg h3,g6 v];rfl,by simp only [delV];rw [if_neg h3,g7];rfl⟩
theorem compX_gev {P:Program}{o:Oper}{s:Nat}{z:Value}{ok:Bool}{xs:List Operand} (h:compXD P o=(.gev s z ok,xs)):∃t m k kt et,o.op=.lookup t m k ok∧mapT P t=some (kt,et)∧srtT P kt=some s∧zeroV P et=some z∧xs=[m,k]:=by
 unfold compXD at h
 split at h
 ·rename_i r hr
  subst h
  unfold compV at hr
  repeat' split at hr
  all_goals first
   | (cases hr;done)
   | (cases hr;exact⟨_,_,_,_,_,by assumption,by assumption,by assumption,by assumption,rfl⟩)
 ·cases hx:compX P o with
  |none=>rw [hx]at h;cases h
  |some r=>
   rw [hx]at h
   have h:r=(.gev s z ok,xs):=h
   subst h
   unfold compX compXB at hx
   repeat' split at hx
   all_goals cases hx
section
variable {P:Program}{S:Nat→Prop}{w:World}{β:Nat→Value}{objs:Nat→Option AO}{a:Act}{o:Oper}
theorem q_gev {t:TypeId}{m k:Operand}{kt et:TypeId}{s:Nat}{z:Value}{ok:Bool} (ho:o.op=.lookup t m k ok) (hm:mapT P t=some (kt,et)) (hsrt:srtT P kt=some s) (hz:zeroV P et=some z) (hz1:z.oneCell'=true)
  {p:PV}{es:List (PV × PV)} (hX:RV P S w β (dom objs) (a.eval m) (.pv (.mv es))) (hK:RV P S w β (dom objs) (a.eval k) (.pv p)) (hp:srt p=s) (hks:keysV s es) :
  ∃v,(execOp a.eval o).run P w=.ok (.value v) w∧RV P S w β (dom objs) v (gotV z ok (getV p es)):=by
 have h1:=hX.pv_inv
 generalize hmv:a.eval m=mv at h1
 cases h1 with
 |mv b us c es g1 hh hst hl g5 g6=>
 have hmt:=mapT_inv hm
 obtain⟨d,hdk,hkey⟩:=srtT_key hsrt
 have hs99:=srt_lt hsrt
 have hkv:a.eval k=Ab.keyV p:=key_val hK hp hs99
 have hzr:(zeroValue et).run P w=.ok z w:=by
  unfold zeroV at hz
  obtain⟨i,hi,hz⟩:=Option.bind_eq_some_iff.1 hz
  simp [zeroValue,typeInfo,hi,hz]
 have hfind:=find_mapV hkey hp hs99 us.toList es 0 hks hl fun i e u h1 h2=>(g5 i e u h1 h2).1
 have fin:∀(v:Value) (x:PV) (f:Bool),(Instr.lookup t (.map (some b)) (Ab.keyV p) ok).run P w=.ok (if ok=true then .tuple #[v,.bool f] else v) w→RPV S w v x →
   ∃v,(execOp a.eval o).run P w=.ok (.value v) w∧RV P S w β (dom objs) v (if ok=true then .tup [.pv x,.pv (.bool f)] else .pv x):=by
  intro v x f hrun hv
  refine⟨_,by simp only [execOp,ho,hmv,hkv];simp [hrun,Result.andThen];rfl,?_⟩
  cases ok with
  |false=>exact .pv _ _ hv
  |true=>
   refine .tup _ [v,.bool f] rfl fun i c u h1 h2=>?_
   match i with
   | 0=>simp at h1 h2;subst h1 h2;exact .pv _ _ hv
   | 1=>simp at h1 h2;subst h1 h2;exact .pv _ _ (.bool f)
   |i+2=>simp at h1
 unfold gotV
 rcases hfind with ⟨h1,h2,_⟩ | ⟨j,e,u,h1,h2,h3,h4,h5,_⟩
 ·rw [h2]
  refine fin z (cvp z) false ?_ (cvp_sound _ _ z hz1)
  simp [Instr.lookup,run_underlying hmt,MapKept.run_getObj_map hh,MapKept.run_checkKey hdk (hkey p hp),MapKept.run_findKey hdk h1,hzr,Result.andThen]
 ·rw [h5]
  refine fin u.val e.2 true ?_ (g6 j e u h2 h3)
  simp [Instr.lookup,run_underlying hmt,MapKept.run_getObj_map hh,MapKept.run_checkKey hdk (hkey p hp),MapKept.run_findKey hdk h1,Result.andThen]
end
theorem isFn_lt {P:Program}{f:FuncId} (h:isFn P f=true):f < P.funcs.size:=by
 unfold isFn at h
 split at h
 ·rename_i fn hfn;exact (Array.getElem?_eq_some_iff.1 hfn).1
 ·cases h
def isQ:AK→Bool
 |.ex (.gev _ _ _)=>true
 |.mov | .pick | .nilS _ | .box | .alloc _ | .bsl _ _ | .call _ | .calv | .store _ | .app _ _ _ | .stoB _ | .clr _ _ _ | .ex _=>false
 | _=>true
theorem semQ_ex {x:XK}{ys:List AV}{objs:Nat→Option AO} (h:isQ (.ex x)=false):semQ (.ex x) ys objs=none:=by
 unfold semQ;split<;>first | rfl | simp_all [isQ]
section
variable {P:Program}{Γ:Tab}{S0 L:Nat→Prop}{B0:Nat→Value}{w0 w:World}{N:Nat}{st:St}{a:Act}{β:Nat→Value}{o:Oper}{k:AK}{xs:List Operand}
theorem Rel.ev (h:Rel P S0 L B0 w0 N st a w β) (z:Operand):RV P (okS S0 w0.heap.size β st.objs w) w β (dom st.objs) (a.eval z) (ev st.vars z):=ev_sound h.vars z
theorem Rel.evs (h:Rel P S0 L B0 w0 N st a w β) (z:Operand) (ha:asks (Ab.ev st.vars z)):RV P (okS S0 w0.heap.size β st.objs w) w β (dom st.objs) (a.eval z) (strip (Ab.ev st.vars z)):=(h.ev z).strip ha
theorem soundQ (h:Rel P S0 L B0 w0 N st a w β) (hc:compOp P o=some (k,xs)) (hk:isQ k=true) (ha:asksL (xs.map (ev st.vars))) {φ:Prop}{v:AV}
  (hs:semQ k ((xs.map (ev st.vars)).map strip) st.objs=some (φ,v)) (hφ : φ) :
  ∃r,(execOp a.eval o).run P w=.ok (.value r) w∧RV P (okS S0 w0.heap.size β st.objs w) w β (dom st.objs) r v:=by
 rcases compOp_cases hc with hc | ⟨x,rfl,hx⟩
 rotate_left
 ·cases x with
  |gev s z ok=>
   obtain⟨t,m,k,kt,et,ho,hm,hsr,hz,rfl⟩:=compX_gev hx
   have h1:=h.evs m ha.1
   have h2:=h.evs k ha.2.1
   simp only [List.map_cons,List.map_nil]at hs
   generalize strip (Ab.ev st.vars m)=X at h1 hs
   generalize strip (Ab.ev st.vars k)=Y at h2 hs
   cases X with
   |pv p=>
    cases Y with
    |pv q=>
     cases p with
     |mv es=>
      simp only [semQ,Option.some.injEq,Prod.mk.injEq]at hs
      obtain⟨rfl,rfl⟩:=hs
      exact q_gev ho hm hsr hz hφ.1 h1 h2 hφ.2.1 hφ.2.2
     | _=>simp [semQ]at hs
    | _=>cases p<;>simp [semQ]at hs
   | _=>simp [semQ]at hs
  | _=>simp [isQ]at hk
 unfold compOp0 at hc
 split at hc
 ·
  split at hc
  ·split at hc
   ·split at hc
    ·cases hc;simp [isQ]at hk
    ·cases hc
   ·cases hc
  ·cases hc;simp [isQ]at hk
 ·split at hc
  ·split at hc
   ·split at hc
    ·cases hc;simp [isQ]at hk
    ·cases hc
   ·cases hc
  ·cases hc;simp [isQ]at hk
 ·cases hc;simp [isQ]at hk
 ·
  obtain⟨zs,_,he⟩:=Option.map_eq_some_iff.1 hc
  cases he;simp [isQ]at hk
 ·cases hc;simp [isQ]at hk
 ·
  rename_i t ps ho
  split at hc
  ·rename_i zs fs hz hu
   split at hc
   ·cases hc
   ·rename_i hall
    obtain⟨l,hl,he⟩:=Option.map_eq_some_iff.1 hc
    cases he
    exact q_bld ho hz hu (Bool.of_not_eq_false hall) hl h.heap h.evs ha hs hφ
  ·cases hc
 ·
  split at hc
  ·split at hc
   ·split at hc
    ·cases hc;simp [isQ]at hk
    ·cases hc
   ·cases hc
  ·cases hc
 ·
  rename_i t x ho
  obtain⟨n,hn,he⟩:=Option.map_eq_some_iff.1 hc
  cases he
  cases n with
  |none=>exact q_load1 ho hn h.heap (h.evs x ha.1) hs hφ
  |some n=>exact q_loadN ho hn h.heap (h.evs x ha.1) hs hφ
 ·
  split at hc
  ·split at hc
   ·cases hc;simp [isQ]at hk
   ·cases hc
  ·cases hc;simp [isQ]at hk
  ·cases hc
 ·
  rename_i op t x y yt ho
  split at hc
  ·rename_i hu
   split at hc
   ·cases hc;exact q_beq (ne:=false) ho hu (h.evs x ha.1) (h.evs y ha.2.1) hs hφ
   ·cases hc;exact q_beq (ne:=true) ho hu (h.evs x ha.1) (h.evs y ha.2.1) hs hφ
   ·cases hc
  ·cases hc;exact q_bin ho (h.evs x ha.1) (h.evs y ha.2.1) hs hφ
  ·cases hc;exact q_bin ho (h.evs x ha.1) (h.evs y ha.2.1) hs hφ
  ·rename_i fs hu
   split at hc
   ·rename_i ks hks
    split at hc
    ·rename_i hcond
     split at hc
     ·cases hc;exact q_eqs (ne:=false) ho hu hks hcond.1 hcond.2 (h.evs x ha.1) (h.evs y ha.2.1) hs hφ
     ·cases hc;exact q_eqs (ne:=true) ho hu hks hcond.1 hcond.2 (h.evs x ha.1) (h.evs y ha.2.1) hs hφ
     ·cases hc
    ·cases hc
   ·cases hc
  ·cases hc
 ·rename_i t x ho
  cases hc;exact q_not ho (h.evs x ha.1) hs hφ
 ·rename_i t x ho
  cases hc;exact q_neg ho (h.evs x ha.1) hs hφ
 ·
  rename_i src dst x ho
  split at hc
  ·rename_i k0 k1 hsr hds
   cases hc;exact q_cvi ho hsr hds (h.evs x ha.1) hs hφ
  ·rename_i hsr hds
   cases hc;exact q_scv ho hsr hds (h.evs x ha.1) hs hφ
  ·rename_i e hsr hds
   split at hc
   ·rename_i he
    cases hc
    exact q_btoS ho hsr he hds h.heap (h.evs x ha.1) hs
   ·cases hc
  ·split at hc
   ·cases hc;simp [isQ]at hk
   ·cases hc
  ·cases hc
 ·
  rename_i s x i ho
  split at hc
  ·rename_i fs hu
   split at hc
   ·rename_i f hf
    split at hc
    ·rename_i n hsz
     cases hc;exact q_fad ho hu hf hsz (h.evs x ha.1) hs hφ
    ·cases hc
   ·cases hc
  ·cases hc
 ·
  rename_i s x i ho
  split at hc
  ·rename_i fs hu
   split at hc
   ·rename_i f hf
    obtain⟨n,hn,he⟩:=Option.map_eq_some_iff.1 hc
    cases he
    cases n with
    |none=>exact q_fld1 ho hu hf hn (h.evs x ha.1) hs hφ
    |some n=>exact q_fldN ho hu hf hn (h.evs x ha.1) hs hφ
   ·cases hc
  ·cases hc
 ·
  rename_i t x y ho
  split at hc
  ·rename_i e hu
   obtain⟨sz,hsz,he⟩:=Option.map_eq_some_iff.1 hc
   cases he
   exact q_ixa ho hu hsz h.heap (h.evs x ha.1) (h.evs y ha.2.1) hs hφ
  ·rename_i n e hu
   obtain⟨sz,hsz,he⟩:=Option.map_eq_some_iff.1 hc
   cases he
   exact q_ixp ho hu hsz (h.evs x ha.1) (h.evs y ha.2.1) hs hφ
  ·cases hc
 ·
  rename_i t x y ho
  split at hc
  ·rename_i hu
   cases hc;exact q_sidx ho hu (h.evs x ha.1) (h.evs y ha.2.1) hs hφ
  ·cases hc
 ·
  rename_i t x lo hi ho
  split at hc
  ·rename_i hu
   cases hc
   simp only [List.singleton_append,List.cons_append,List.nil_append,List.map_cons,asksL]at ha hs
   exact q_ssl ho hu h.evs (h.evs x ha.1) ha.2 hs hφ
  ·rename_i e hu
   obtain⟨sz,hsz,he⟩:=Option.map_eq_some_iff.1 hc
   cases he
   simp only [List.singleton_append,List.cons_append,List.nil_append,List.map_cons,asksL]at ha hs
   exact q_slc ho hu hsz h.heap h.evs (h.evs x ha.1) ha.2 hs hφ
  ·cases hc
 ·rename_i x i ho
  cases hc;exact q_ext ho (h.evs x ha.1) hs hφ
 ·rename_i x ho
  cases hc;exact q_nck ho (h.evs x ha.1) hs hφ
 ·rename_i f first caps ho
  split at hc
  ·rename_i hf
   have hf':first = #[]:=by apply Array.ext';simpa using hf
   subst hf'
   cases hc;exact q_mkf ho h.evs ha hs hφ
  ·cases hc
 ·
  rename_i c ho
  obtain⟨callee,args,argTypes⟩:=c
  unfold compCall at hc
  simp only at hc
  split at hc
  ·rename_i b
   unfold compBuiltin at hc
   split at hc
   ·
    rename_i x t hx ht
    have hx':args = #[x]:=by apply Array.ext';simpa using hx
    have ht':argTypes = #[t]:=by apply Array.ext';simpa using ht
    subst hx' ht'
    split at hc
    ·rename_i hu
     cases hc;exact q_slen ho hu (h.evs x ha.1) hs hφ
    ·rename_i e hu
     cases hc;exact q_len ho hu h.heap (h.evs x ha.1) hs hφ
    ·cases hc
   ·split at hc
    ·split at hc
     ·split at hc
      ·cases hc;simp [isQ]at hk
      ·cases hc
     ·cases hc
    ·split at hc
     ·split at hc
      ·cases hc;simp [isQ]at hk
      ·cases hc
     ·cases hc
    ·cases hc
   ·rename_i x y t t' hx ht
    have hx':args = #[x,y]:=by apply Array.ext';simpa using hx
    have ht':argTypes = #[t,t']:=by apply Array.ext';simpa using ht
    subst hx' ht'
    cases hc
    exact q_mnx (mx:=false) ho (h.evs x ha.1) (h.evs y ha.2.1) hs
   ·rename_i x y t t' hx ht
    have hx':args = #[x,y]:=by apply Array.ext';simpa using hx
    have ht':argTypes = #[t,t']:=by apply Array.ext';simpa using ht
    subst hx' ht'
    cases hc
    exact q_mnx (mx:=true) ho (h.evs x ha.1) (h.evs y ha.2.1) hs
   ·repeat' (split at hc)
    all_goals first | (cases hc;simp [isQ]at hk;done) | cases hc
   ·cases hc
  ·split at hc
   ·cases hc;simp [isQ]at hk
   ·cases hc
  ·cases hc;simp [isQ]at hk
  ·cases hc
 ·cases hc
theorem wp_of_value {K:Act→World→Prop}{Q:Exit→Act→World→Prop}{r:Value}{w':World} (hr:(execOp a.eval o).run P w=.ok (.value r) w') (hK:K (a.put o.dst r) w'):o.wp P a w K Q:=by
 unfold Oper.wp;rw [hr];exact hK
theorem wp_of_skip {K:Act→World→Prop}{Q:Exit→Act→World→Prop}{w':World} (hr:(execOp a.eval o).run P w=.ok .skip w') (hK:K (a.put o.dst undef) w'):o.wp P a w K Q:=by
 unfold Oper.wp;rw [hr];exact hK
theorem wp_of_enter {K:Act→World→Prop}{Q:Exit→Act→World→Prop}{f:FuncId}{args:Array Value}{w':World} (hr:(execOp a.eval o).run P w=.ok (.enter f args) w')
  (hK:Calls P f args w' fun e w''=>∃v,e=.returned v∧K (a.put o.dst v) w''):o.wp P a w K Q:=by
 unfold Oper.wp;rw [hr]
 refine Calls.mono hK ?_
 rintro e w'' ⟨v,rfl,h⟩
 exact h
theorem withO_inv {α:Type}{q:Option α}{K : α→Prop} (h:withO q K):∃x,q=some x∧K x:=by
 cases q with
 |none=>exact h.elim
 |some x=>exact⟨x,rfl,h⟩
theorem nil_eval {x:Operand} (h:isNilSlice x=true):a.eval x=.slice none 0 0:=by
 unfold isNilSlice at h
 split at h
 ·rfl
 ·cases h
theorem run_callee {f:FuncId}{args:Array Operand}{argTypes:Array TypeId} (ho:o.op=.call { callee:=.value (.func f),args:=args,argTypes:=argTypes }) (hf:isFn P f=true) :
  (execOp a.eval o).run P w=.ok (.enter f (args.map a.eval)) w:=by
 unfold isFn at hf
 split at hf
 ·rename_i fn hfn
  simp only [Bool.and_eq_true,bne_iff_ne,ne_eq]at hf
  have hn:=hf.1
  have hb:¬ fn.body=none:=fun e=>by rw [e]at hf;simp at hf
  simp [execOp,ho,resolve,Act.eval,Deferred.ofValue,invoke,callFunc,hfn,hn,hb]
 ·cases hf
theorem evs_list (h:Rel P S0 L B0 w0 N st a w β):∀(l:List Operand),asksL (l.map (Ab.ev st.vars)) →
  ∀(i:Nat) (v:Value) (x:AV),(l.map a.eval)[i]? = some v→((l.map (Ab.ev st.vars)).map strip)[i]? = some x→RV P (okS S0 w0.heap.size β st.objs w) w β (dom st.objs) v x:=by
 intro l ha i v x hv hx
 rw [List.getElem?_map,Option.map_eq_some_iff]at hv
 obtain⟨z,hz,rfl⟩:=hv
 simp only [List.getElem?_map,hz,Option.map_some,Option.some.injEq]at hx
 subst hx
 exact h.evs z (asks_get l i z ha hz)
theorem sound_call {Q:Exit→Act→World→Prop}{f:FuncId}{args:Array Operand}{argTypes:Array TypeId} (h:Rel P S0 L B0 w0 N st a w β) {d:Nat} (hd9:d % 1000≠999) (ho:o.op=.call { callee:=.value (.func f),args:=args,argTypes:=argTypes }) (hf:isFn P f=true)
  {ys:List AV}{r:AV} (ha:asksL (args.toList.map (Ab.ev st.vars))) (hre:reis st.objs ((args.toList.map (Ab.ev st.vars)).map strip)=some ys) (hcon:ConR P f ys r)
  (hpf:pures ((args.toList.map (Ab.ev st.vars)).map strip)=true∨flatR r) (hfree:∀x∈newO d r,st.objs x.1=none) (hres:resR d r=true) {K:Act→World→Prop}
  (hK:∀v w' β',Rel P S0 L B0 w0 N ⟨st.vars,addL (newO d r) st.objs⟩ a w' β'→RV P (okS S0 w0.heap.size β' (addL (newO d r) st.objs) w') w' β' (dom (addL (newO d r) st.objs)) v (newV d r)→K (a.put o.dst v) w') :
  o.wp P a w K Q:=by
 refine wp_of_enter (run_callee ho hf) ?_
 have hv:args.map a.eval=(args.toList.map a.eval).toArray:=by apply Array.ext';simp
 rw [hv]
 refine (call_soundR (a:=a) h hd9 (by simp) (evs_list h args.toList ha) hre hcon hpf hfree hres).mono ?_
 rintro e w' ⟨v,β',rfl,hR,hrv⟩
 exact⟨v,rfl,hK v w' β' hR hrv⟩
theorem pick_sound (h:Rel P S0 L B0 w0 N st a w β) {c x y:Operand} (ho:o.op=.pick c x y) {φ:Prop}{v:AV} (hs:apick [Ab.ev st.vars c,Ab.ev st.vars x,Ab.ev st.vars y]=some (φ,v)) (hφ : φ) :
  ∃r,(execOp a.eval o).run P w=.ok (.value r) w∧RV P (okS S0 w0.heap.size β st.objs w) w β (dom st.objs) r v:=by
 simp only [apick,Option.bind_eq_some_iff,Option.map_eq_some_iff]at hs
 obtain⟨b,hb,r,hs,hr⟩:=hs
 cases hr
 obtain⟨hca,hφ⟩:=hφ
 obtain⟨φ,v⟩:=r
 have hc:=(h.ev c).strip hca
 have hX:=h.ev x
 have hY:=h.ev y
 generalize strip (Ab.ev st.vars c)=C at hb hc
 have hce:a.eval c=.bool b:=by
  cases C with
  |pv p=>cases p<;>simp [boolOf]at hb;subst hb;exact hc.bool_inv
  | _=>simp [boolOf]at hb
 unfold apick2 at hs
 split at hs
 ·rename_i p q hp hq
  simp only [Option.some.injEq,Prod.mk.injEq]at hs
  obtain⟨rfl,rfl⟩:=hs
  cases b with
  |true=>
   have hx:=hX.strip (hφ.1 rfl)
   rw [hp]at hx
   exact⟨a.eval x,by simp [execOp,ho,hce,asBool],by simpa using hx⟩
  |false=>
   have hy:=hY.strip (hφ.2 rfl)
   rw [hq]at hy
   exact⟨a.eval y,by simp [execOp,ho,hce,asBool],by simpa using hy⟩
 ·rename_i p hp _
  simp only [Option.some.injEq,Prod.mk.injEq]at hs
  obtain⟨rfl,rfl⟩:=hs
  obtain⟨rfl,hφ⟩:=hφ
  have hx:=hX.strip hφ
  rw [hp]at hx
  exact⟨a.eval x,by simp [execOp,ho,hce,asBool],hx⟩
 ·rename_i q hq _
  simp only [Option.some.injEq,Prod.mk.injEq]at hs
  obtain⟨rfl,rfl⟩:=hs
  obtain⟨rfl,hφ⟩:=hφ
  have hy:=hY.strip hφ
  rw [hq]at hy
  exact⟨a.eval y,by simp [execOp,ho,hce,asBool],hy⟩
 ·cases hs
theorem soundK (hΓ:TabOK P Γ) {Q:Exit→Act→World→Prop} (h:Rel P S0 L B0 w0 N st a w β) (hc:compOp P o=some (k,xs)) (hd:∀s,o.dst=some s→s < N) {C:Eff→Prop} (hs:semK P Γ o.dst k (xs.map (Ab.ev st.vars)) st.objs C) :
  o.wp P a w (fun a' w'=>∃e β',C e∧Rel P S0 L B0 w0 N (e.on o.dst st) a' w' β') Q:=by
 by_cases hq:isQ k=true
 ·
  have hs':asksL (xs.map (Ab.ev st.vars))∧withO (semQ k ((xs.map (Ab.ev st.vars)).map strip) st.objs) fun x=>x.1∧C (.put x.2):=by
   cases k<;>first | exact hs | (simp [isQ]at hq)
  obtain⟨ha,hw⟩:=hs'
  obtain⟨⟨φ,v⟩,he,hφ,hC⟩:=withO_inv hw
  obtain⟨r,hr,hv⟩:=soundQ h hc hq ha he hφ
  exact wp_of_value hr ⟨_,β,hC,h.put hd hv⟩
 ·have hmov:∀x:Operand,k=.mov→xs=[x]→(execOp a.eval o).run P w=.ok (.value (a.eval x)) w→o.wp P a w (fun a' w'=>∃e β',C e∧Rel P S0 L B0 w0 N (e.on o.dst st) a' w' β') Q:=by
   rintro x rfl rfl hr
   dsimp only [semK]at hs
   obtain⟨y,hy,_,hC⟩:=withO_inv hs
   simp at hy
   subst hy
   exact wp_of_value hr ⟨_,β,hC,h.put hd (h.ev x)⟩
  have hnil:∀(x:Operand) (e:TypeId),k=.nilS e→(P.info? e).isSome=true→isNilSlice x=true→(execOp a.eval o).run P w=.ok (.value (a.eval x)) w→o.wp P a w (fun a' w'=>∃e β',C e∧Rel P S0 L B0 w0 N (e.on o.dst st) a' w' β') Q:=by
   rintro x e rfl hi hx hr
   dsimp only [semK]at hs
   obtain⟨d,hdd,_,hw⟩:=withO_inv hs
   obtain⟨⟨φ,v,ao⟩,he,hφ,hn,hC⟩:=withO_inv hw
   simp only [semF,Option.some.injEq,Prod.mk.injEq]at he
   obtain⟨rfl,rfl,rfl⟩:=he
   rw [nil_eval hx]at hr
   obtain⟨β',hR⟩:=f_nil h (hd d hdd) hn hi
   refine wp_of_value hr ⟨_,β',hC,?_⟩
   rw [hdd];exact hR
  rcases compOp_cases hc with hc | ⟨x,rfl,_⟩
  rotate_left
  ·have hs:asksL (xs.map (Ab.ev st.vars))∧withO (semQ (.ex x) ((xs.map (Ab.ev st.vars)).map strip) st.objs) fun x=>x.1∧C (.put x.2):=hs
   rw [semQ_ex (by simpa using hq)]at hs
   exact hs.2.elim
  unfold compOp0 at hc
  split at hc
  ·rename_i x ho
   have hr:(execOp a.eval o).run P w=.ok (.value (a.eval x)) w:=by simp [execOp,ho]
   split at hc
   ·rename_i hx
    split at hc
    ·split at hc
     ·rename_i hi
      cases hc;exact hnil x _ rfl hi hx hr
     ·cases hc
    ·cases hc
   ·cases hc;exact hmov x rfl rfl hr
  ·rename_i x ho
   have hr:(execOp a.eval o).run P w=.ok (.value (a.eval x)) w:=by simp [execOp,ho]
   split at hc
   ·rename_i hx
    split at hc
    ·split at hc
     ·rename_i hi
      cases hc;exact hnil x _ rfl hi hx hr
     ·cases hc
    ·cases hc
   ·cases hc;exact hmov x rfl rfl hr
  ·rename_i c x y ho
   cases hc
   dsimp only [semK]at hs
   obtain⟨⟨φ,v⟩,he,hφ,hC⟩:=withO_inv hs
   obtain⟨r,hr,hv⟩:=pick_sound h ho he hφ
   exact wp_of_value hr ⟨_,β,hC,h.put hd hv⟩
  ·rename_i e ho
   obtain⟨zs,hz,he⟩:=Option.map_eq_some_iff.1 hc
   cases he
   dsimp only [semK]at hs
   obtain⟨d,hdd,_,hw⟩:=withO_inv hs
   obtain⟨⟨φ,v,ao⟩,he,hφ,hn,hC⟩:=withO_inv hw
   obtain⟨r,w',hr,β',hR⟩:=f_alloc ho hz h (hd d hdd) hn he
   refine wp_of_value hr ⟨_,β',hC,?_⟩
   rw [hdd];exact hR
  ·rename_i e x ho
   cases hc
   dsimp only [semK]at hs
   obtain⟨d,hdd,ha,hw⟩:=withO_inv hs
   obtain⟨⟨φ,v,ao⟩,he,hφ,hn,hC⟩:=withO_inv hw
   obtain⟨r,w',hr,β',hR⟩:=f_box ho h (hd d hdd) hn (h.evs x ha.1) he
   refine wp_of_value hr ⟨_,β',hC,?_⟩
   rw [hdd];exact hR
  ·split at hc
   ·split at hc
    ·cases hc
    ·obtain⟨l,hl,he⟩:=Option.map_eq_some_iff.1 hc
     cases he;exact absurd rfl hq
   ·cases hc
  ·rename_i t n ps ho
   split at hc
   ·rename_i e hu
    split at hc
    ·rename_i sz zs hsz hz
     split at hc
     ·rename_i hcond
      obtain⟨_,hord,hbig,hzl,hpos⟩:=hcond
      cases hc
      dsimp only [semK]at hs
      obtain⟨d,hdd,ha,hw⟩:=withO_inv hs
      obtain⟨⟨φ,v,ao⟩,he,hφ,hn,hC⟩:=withO_inv hw
      obtain⟨r,w',hr,β',hR⟩:=f_bsl ho hu hsz hz hord hbig hzl hpos h (hd d hdd) hn h.evs ha he hφ
      refine wp_of_value hr ⟨_,β',hC,?_⟩
      rw [hdd];exact hR
     ·cases hc
    ·cases hc
   ·cases hc
  ·obtain⟨n,hn,he⟩:=Option.map_eq_some_iff.1 hc
   cases he;exact absurd rfl hq
  ·rename_i t x y ho
   split at hc
   ·rename_i hn
    split at hc
    ·rename_i h1
     cases hc
     obtain⟨ha,hw⟩:=hs
     obtain⟨⟨φ,tg,ao⟩,he,hφ,hC⟩:=withO_inv hw
     obtain⟨w',hr,β',hR⟩:=m_store1 ho h1 h hd (h.evs x ha.1) (h.evs y ha.2.1) he hφ
     exact wp_of_skip hr ⟨_,β',hC,hR⟩
    ·cases hc
   ·rename_i n hn
    cases hc
    obtain⟨ha,hw⟩:=hs
    obtain⟨⟨φ,tg,ao⟩,he,hφ,hC⟩:=withO_inv hw
    obtain⟨w',hr,β',hR⟩:=m_storeN ho hn h hd (h.evs x ha.1) (h.evs y ha.2.1) he hφ
    exact wp_of_skip hr ⟨_,β',hC,hR⟩
   ·cases hc
  ·split at hc
   ·split at hc<;>first | (cases hc;exact absurd rfl hq) | cases hc
   ·cases hc;exact absurd rfl hq
   ·cases hc;exact absurd rfl hq
   ·split at hc
    ·split at hc
     ·split at hc<;>first | (cases hc;exact absurd rfl hq) | cases hc
     ·cases hc
    ·cases hc
   ·cases hc
  ·cases hc;exact absurd rfl hq
  ·cases hc;exact absurd rfl hq
  ·split at hc
   ·cases hc;exact absurd rfl hq
   ·cases hc;exact absurd rfl hq
   ·split at hc
    ·cases hc;exact absurd rfl hq
    ·cases hc
   ·split at hc
    ·cases hc;exact hs.2.elim
    ·cases hc
   ·cases hc
  ·split at hc
   ·split at hc
    ·split at hc
     ·cases hc;exact absurd rfl hq
     ·cases hc
    ·cases hc
   ·cases hc
  ·split at hc
   ·split at hc
    ·obtain⟨n,hn,he⟩:=Option.map_eq_some_iff.1 hc
     cases he;exact absurd rfl hq
    ·cases hc
   ·cases hc
  ·split at hc
   ·obtain⟨n,hn,he⟩:=Option.map_eq_some_iff.1 hc
    cases he;exact absurd rfl hq
   ·obtain⟨n,hn,he⟩:=Option.map_eq_some_iff.1 hc
    cases he;exact absurd rfl hq
   ·cases hc
  ·split at hc
   ·cases hc;exact absurd rfl hq
   ·cases hc
  ·split at hc
   ·cases hc;exact absurd rfl hq
   ·obtain⟨n,hn,he⟩:=Option.map_eq_some_iff.1 hc
    cases he;exact absurd rfl hq
   ·cases hc
  ·cases hc;exact absurd rfl hq
  ·cases hc;exact absurd rfl hq
  ·split at hc
   ·cases hc;exact absurd rfl hq
   ·cases hc
  ·rename_i c ho
   obtain⟨callee,args,argTypes⟩:=c
   unfold compCall at hc
   simp only at hc
   split at hc
   ·rename_i b
    unfold compBuiltin at hc
    split at hc
    ·split at hc<;>first | (cases hc;exact absurd rfl hq) | cases hc
    ·
     rename_i x y t tx hx ht
     have hx':args = #[x,y]:=by apply Array.ext';simpa using hx
     have ht':argTypes = #[t,tx]:=by apply Array.ext';simpa using ht
     subst hx' ht'
     have happ:∀(e:TypeId) (inf:TypeInfo),P.underlying t=some (.slice e)→((∃e',P.underlying tx=some (.slice e'))∨P.underlying tx=some .string)→P.info? e=some inf→0 < inf.size→(zeroT P e).isSome=true →
       semK P Γ o.dst (.app e inf.size inf.bytes) ([x,y].map (Ab.ev st.vars)) st.objs C→o.wp P a w (fun a' w'=>∃e β',C e∧Rel P S0 L B0 w0 N (e.on o.dst st) a' w' β') Q:=by
      intro e inf hu hux hi hpos hzt hs
      obtain⟨ha,hw⟩:=hs
      split at hw
      ·obtain⟨⟨φ,tg,ao⟩,he,hφ,hC⟩:=withO_inv hw
       obtain⟨r,w',hr,β',hR⟩:=m_app ho hu hux hi hpos hzt h hd (h.evs x ha.1) (h.evs y ha.2.1) he hφ
       exact wp_of_value hr ⟨_,β',hC,hR⟩
      ·obtain⟨d,hdd,hw⟩:=withO_inv hw
       obtain⟨⟨φ,v,ao⟩,he,hφ,hn,hC⟩:=withO_inv hw
       obtain⟨r,w',hr,β',hR⟩:=f_app ho hu hux hi hpos hzt h (hd d hdd) hn (h.evs x ha.1) (h.evs y ha.2.1) he hφ
       refine wp_of_value hr ⟨_,β',hC,?_⟩
       rw [hdd];exact hR
     split at hc
     ·rename_i e hu hux
      split at hc
      ·rename_i inf hi
       split at hc
       ·rename_i hcond
        cases hc
        exact happ e inf hu (.inr hux) hi (by omega) hcond.2 hs
       ·cases hc
      ·cases hc
     ·rename_i e e' hu hux
      split at hc
      ·rename_i inf hi
       split at hc
       ·rename_i hcond
        cases hc
        exact happ e inf hu (.inl ⟨e',hux⟩) hi hcond.1 hcond.2 hs
       ·cases hc
      ·cases hc
     ·cases hc
    ·cases hc;exact absurd rfl hq
    ·cases hc;exact absurd rfl hq
    ·repeat' (split at hc)
     all_goals first | (cases hc;exact hs.2.elim) | cases hc
    ·cases hc
   ·rename_i f
    split at hc
    ·rename_i hf
     cases hc
     dsimp only [semK]at hs
     dsimp only [semCall]at hs
     obtain⟨d,hdd,ha,hw⟩:=withO_inv hs
     obtain⟨ys,hys,hw⟩:=withO_inv hw
     obtain⟨⟨φ,r⟩,hr,hφ,hpf,hfree,hres,hC⟩:=withO_inv hw
     have hcon:=hΓ.con (isFn_lt hf) hr hφ
     have hdlt:d < N:=hd d hdd
     have hlim:=h.lim
     have hd9:d % 1000≠999:=by omega
     refine sound_call h hd9 ho hf ha hys hcon hpf hfree hres ?_
     intro v w' β' hR hv
     refine⟨_,β',hC,?_⟩
     exact hR.put hd hv
    ·cases hc
   ·cases hc;exact hs.2.elim
   ·cases hc
  ·cases hc
end
def Core (P:Program) (N:Nat) (ops:Array Oper) (o:Oper) (i:AI):Prop:=
 compOp P o=some (i.k,i.xs)∧i.d=o.dst∧(∀d,i.d=some d→d < N) ∧
 ((o.guard=none∧i.g=none)∨∃j want s,o.guard=some (j,want)∧(ops[j]?).bind (·.dst)=some s∧i.g=some (s,want))
theorem compI_core {P:Program}{N:Nat}{ops:Array Oper}{o:Oper}{i:AI} (h:compI P N ops o=some i):Core P N ops o i:=by
 unfold compI at h
 cases hk:compOp P o with
 |none=>rw [hk]at h;simp at h
 |some kx=>
  obtain⟨k,xs⟩:=kx
  rw [hk]at h
  dsimp only at h
  have key:∀b:Bool,(∀d,o.dst=some d→b=true→d < N)→(if (!b)=true then none else match o.guard with
    |none=>some (⟨o.dst,k,xs,none,[],none⟩:AI)
    |some (j,want)=>match (ops[j]?).bind (·.dst) with
     |some s=>some ⟨o.dst,k,xs,some (s,want),[],none⟩
     |none=>none)=some i→Core P N ops o i:=by
   intro b hb h
   cases b with
   |false=>simp at h
   |true=>
    simp only [Bool.not_true,Bool.false_eq_true,if_false]at h
    cases hg:o.guard with
    |none=>
     rw [hg]at h
     simp only [Option.some.injEq]at h
     subst h
     exact⟨hk,rfl,fun d e=>hb d e rfl,.inl ⟨hg,rfl⟩⟩
    |some jw=>
     obtain⟨j,want⟩:=jw
     rw [hg]at h
     dsimp only at h
     cases hs:(ops[j]?).bind (·.dst) with
     |none=>rw [hs]at h;cases h
     |some s=>
      rw [hs]at h
      simp only [Option.some.injEq]at h
      subst h
      exact⟨hk,rfl,fun d e=>hb d e rfl,.inr ⟨j,want,s,hg,hs,rfl⟩⟩
  refine key _ ?_ h
  intro d hd hb
  rw [hd]at hb
  simp at hb
  exact hb.1
theorem wanted_none {P:Program}{ops:Array Oper}{o:Oper}{a:Act} (h:o.guard=none):Region.wanted o (yielded ops a.tmps)=true:=by
 unfold Region.wanted;rw [h]
def yieldB:Value→Option Bool
 |.bool b=>some b
 | _=>none
theorem guardB_sound {P:Program}{w:World}{β:Nat→Value}{S:Nat→Prop}{D:Nat→Prop}{want:Bool}:∀{v:AV}{u:Value}{c:Bool},RV P S w β D u v→guardB v want=some c→(yieldB u == some want)=c
 |.pv p,u,c,hu,h=>by
  cases p with
  |bool b=>
   rw [hu.bool_inv]
   simp only [guardB,Option.some.injEq]at h
   subst h
   cases want<;>cases b<;>rfl
  | _=>simp [guardB]at h
 |.cnd g v,u,c,hu,h=>by
  cases hu with
  |cnd _ _ _ h1 h2=>
  cases g with
  |false=>
   rw [h2 rfl]
   simp only [guardB,condB,Option.some.injEq]at h
   subst h
   rfl
  |true=>exact guardB_sound (v:=v) (h1 rfl) (by simpa [guardB,condB]using h)
 |.own _,_,_,_,h | .ptr _ _,_,_,_,h | .eptr _ _ _ _,_,_,_,h | .sub _ _ _ _,_,_,_,h | .rp _,_,_,_,h | .agg _,_,_,_,h | .tup _,_,_,_,h | .clo _ _,_,_,_,h | .fr _ _,_,_,_,h | .junk,_,_,_,h=>by simp [guardB]at h
theorem wanted_guard {P:Program}{w:World}{β:Nat→Value}{S:Nat→Prop}{D:Nat→Prop}{ops:Array Oper}{o:Oper}{a:Act}{j:Nat}{want:Bool}{s:Nat}{v:AV}{c:Bool} (h:o.guard=some (j,want)) (hs:(ops[j]?).bind (·.dst)=some s)
  (hv:RV P S w β D (a.tmps.getD s undef) v) (hc:guardB v want=some c):Region.wanted o (yielded ops a.tmps)=c:=by
 rw [←guardB_sound hv hc]
 unfold Region.wanted
 rw [h]
 simp only [yielded,hs,Option.bind_some]
 rw [Array.getD_eq_getD_getElem?]
 cases a.tmps[s]? with
 |none=>rfl
 |some v=>cases v<;>rfl
def Skips (g:Nat→AV→AV):Prop:=∀p c,(∀e rows,c≠.fr e rows)→g p c=c
theorem skips_tag (d i:Nat):Skips fun p c=>tagC d (p+i) c:=by
 intro p c hc
 cases c<;>first | rfl | exact absurd rfl (hc _ _)
theorem mapCs_none {g:Nat→AV→AV} (hg:Skips g):∀(cs:List AV) (j:Nat),frsCs j cs=[]→mapCs g j cs=cs
 | [],_,_=>rfl
 |c::cs,j,h=>by
  have hc:∀e rows,c≠.fr e rows:=by
   rintro e rows rfl
   simp [frsCs]at h
  have h':frsCs (j+1) cs=[]:=by
   cases c<;>first | exact h | exact absurd rfl (hc _ _)
  simp only [mapCs]
  rw [hg _ _ hc,mapCs_none hg cs (j+1) h']
theorem map1_none {g:Nat→AV→AV} (hg:Skips g) {v:AV} (h:frs1 v=[]):map1 g v=v:=by
 have hv:∀e rows,v≠.fr e rows:=by
  rintro e rows rfl
  simp [frs1]at h
 cases v<;>first
  |exact congrArg AV.agg (mapCs_none hg _ _ h)
  |exact hg _ _ hv
theorem mapVs_none {d:Nat}:∀(vs:List AV) (i:Nat),frsVs i vs=[]→mapVs (tagC d) i vs=vs
 | [],_,_=>rfl
 |v::vs,i,h=>by
  simp only [frsVs,List.append_eq_nil_iff,List.map_eq_nil_iff]at h
  simp only [mapVs]
  rw [map1_none (skips_tag d i) h.1,mapVs_none vs (i+1) h.2]
theorem mapTop_none {d:Nat}{r:AV} (h:frs r=[]):mapTop (tagC d) r=r:=by
 have hr:(∃vs,r=.tup vs)∨(frs r=frs1 r∧mapTop (tagC d) r=map1 (fun p c=>tagC d (p+0) c) r):=by
  cases r<;>first | exact .inl ⟨_,rfl⟩ | exact .inr ⟨rfl,rfl⟩
 rcases hr with ⟨vs,rfl⟩ | ⟨h1,h2⟩
 ·exact congrArg AV.tup (mapVs_none _ _ h)
 ·rw [h2];exact map1_none (skips_tag d 0) (h1 ▸ h)
theorem semQ_calv {ys:List AV}{objs:Nat→Option AO}:semQ .calv ys objs=none:=by
 unfold semQ;split<;>first | rfl | simp_all
theorem semQ_clr {e:TypeId}{sz:Nat}{zs:List Value}{ys:List AV}{objs:Nat→Option AO}:semQ (.clr e sz zs) ys objs=none:=by
 unfold semQ;split<;>first | rfl | simp_all
theorem semQ_stoB {e:TypeId}{ys:List AV}{objs:Nat→Option AO}:semQ (.stoB e) ys objs=none:=by
 unfold semQ;split<;>first | rfl | simp_all
theorem compBuiltin_call {P:Program}{b:Builtin}{ys xs:List Operand}{ts:List TypeId}{f:FuncId} (hc:compBuiltin P b ys ts=some (.call f,xs)):False:=by
 unfold compBuiltin at hc
 repeat' (split at hc)
 all_goals (simp at hc)
theorem compOp_call {P:Program}{o:Oper}{f:FuncId}{xs:List Operand} (hc:compOp P o=some (.call f,xs)) :
  ∃args argTypes,o.op=.call { callee:=.value (.func f),args:=args,argTypes:=argTypes }∧isFn P f=true∧xs=args.toList:=by
 rcases compOp_cases hc with hc | ⟨x,h0,_⟩
 rotate_left
 ·cases h0
 unfold compOp0 at hc
 split at hc
 case h_22=>
  rename_i cl ho
  obtain⟨callee,args,argTypes⟩:=cl
  unfold compCall at hc
  simp only at hc
  split at hc
  ·exact (compBuiltin_call hc).elim
  ·split at hc
   ·rename_i hf
    simp only [Option.some.injEq,Prod.mk.injEq,AK.call.injEq]at hc
    obtain⟨rfl,hx⟩:=hc
    exact⟨args,argTypes,ho,hf,hx.symm⟩
   ·cases hc
  ·simp at hc
  ·cases hc
 all_goals
  exfalso
  repeat' (split at hc)
  all_goals (simp at hc)
section
variable {P:Program}{Γ:Tab}{S0 L:Nat→Prop}{B0:Nat→Value}{w0 w:World}{N:Nat}{st:St}{a:Act}{β:Nat→Value}{o:Oper}{k:AK}{xs:List Operand}
theorem Rel.vars_mono (h:Rel P S0 L B0 w0 N st a w β) {vars:Nat→AV} (hv:∀s v,RV P (okS S0 w0.heap.size β st.objs w) w β (dom st.objs) v (st.vars s)→RV P (okS S0 w0.heap.size β st.objs w) w β (dom st.objs) v (vars s)) :
  Rel P S0 L B0 w0 N ⟨vars,st.objs⟩ a w β:=
 ⟨h.size,h.defers,fun s=>hv s _ (h.vars s),h.heap,h.old,h.lim,h.pin,h.fram⟩
theorem void_sound {S:Nat→Prop}{D:Nat→Prop} (xs:List AV):RV P S w β D undef (voidB xs):=by
 unfold voidB
 cases rowsOf (xs.map strip) with
 |none=>exact .junk _
 |some rows=>exact .cnd _ _ _ (fun e=>by cases e) fun _=>rfl
theorem Rel.to_cnd {d:Option Nat}{c:Bool}{v:AV} (hc:c=true) (h:Rel P S0 L B0 w0 N ((Eff.put v).on d st) a w β):Rel P S0 L B0 w0 N ((Eff.put (.cnd c v)).on d st) a w β:=by
 refine h.vars_mono (vars:=Ab.put d (.cnd c v) st.vars) fun s u hu=>?_
 cases d with
 |none=>exact hu
 |some d=>
  by_cases hs:s=d
  ·subst hs
   simp only [Eff.on,Ab.put,if_true]at hu ⊢
   exact .cnd c _ _ (fun _=>hu) (fun e=>by rw [hc]at e;cases e)
  ·simpa [Eff.on,Ab.put,hs]using hu
theorem Rel.passed {d:Option Nat}{v:AV} (hd:∀s,d=some s→s < N) (h:Rel P S0 L B0 w0 N st a w β) (hv:RV P (okS S0 w0.heap.size β st.objs w) w β (dom st.objs) undef v):Rel P S0 L B0 w0 N ((Eff.put v).on d st) (a.put d undef) w β:=
 h.put hd hv
theorem soundI (hΓ:TabOK P Γ) {Q:Exit→Act→World→Prop}{ops:Array Oper}{i:AI} (h:Rel P S0 L B0 w0 N st a w β) (hi:Core P N ops o i) {C:Eff→Prop} (hs:semI P Γ i st.vars st.objs C) :
  if Region.wanted o (yielded ops a.tmps) then o.wp P a w (fun a' w'=>∃e β',C e∧Rel P S0 L B0 w0 N (e.on i.d st) a' w' β') Q
  else ∃e β',C e∧Rel P S0 L B0 w0 N (e.on i.d st) (a.put o.dst undef) w β':=by
 obtain⟨hc,hd,hdN,hg⟩:=hi
 have hdN':∀s,o.dst=some s→s < N:=fun s e=>hdN s (hd.trans e)
 rcases hg with ⟨hg,hig⟩ | ⟨j,want,s,hg,hj,hig⟩
 ·rw [wanted_none (P:=P) hg]
  simp only [if_true]
  unfold semI at hs
  rw [hig]at hs
  rw [hd]at hs ⊢
  exact soundK hΓ h hc hdN' hs
 ·unfold semI at hs
  rw [hig]at hs
  obtain⟨c,hcg,hs⟩:=withO_inv hs
  rw [wanted_guard hg hj (h.vars s) hcg]
  rw [hd]at hs ⊢
  have hreg:∀(g:Eff→Eff),(∀e,∀{a' w' β'},Rel P S0 L B0 w0 N (e.on o.dst st) a' w' β'→Rel P S0 L B0 w0 N ((g e).on o.dst st) a' w' β')→semK P Γ o.dst i.k (i.xs.map (Ab.ev st.vars)) st.objs (fun e=>C (g e)) →
    o.wp P a w (fun a' w'=>∃e β',C e∧Rel P S0 L B0 w0 N (e.on o.dst st) a' w' β') Q:=by
   intro g hgr hk
   refine Oper.wp_mono ?_ (soundK hΓ h hc hdN' hk)
   rintro a' w' ⟨e,β',hC,hR⟩
   exact⟨g e,β',hC,hgr e hR⟩
  have hq:isQ i.k=true→(withO (semQ i.k ((i.xs.map (Ab.ev st.vars)).map strip) st.objs) fun x=>(c=true→asksL (i.xs.map (Ab.ev st.vars))∧x.1)∧C (.put (.cnd c x.2))) →
    if c=true then o.wp P a w (fun a' w'=>∃e β',C e∧Rel P S0 L B0 w0 N (e.on o.dst st) a' w' β') Q
    else ∃e β',C e∧Rel P S0 L B0 w0 N (e.on o.dst st) (a.put o.dst undef) w β':=by
   intro hk hw
   obtain⟨⟨φ,v⟩,he,hφ,hC⟩:=withO_inv hw
   cases c with
   |true=>
    obtain⟨r,hr,hv⟩:=soundQ h hc hk (hφ rfl).1 he (hφ rfl).2
    exact wp_of_value hr ⟨_,β,hC,h.put hdN' (.cnd _ _ _ (fun _=>hv) fun e=>by cases e)⟩
   |false=>exact⟨_,β,hC,h.passed hdN' (.cnd _ _ _ (fun e=>by cases e) fun _=>rfl)⟩
  have hmk:∀{v:AV},RV P (okS S0 w0.heap.size β st.objs w) w β (dom st.objs) undef v→(c=true→semK P Γ o.dst i.k (i.xs.map (Ab.ev st.vars)) st.objs C)∧(c=false→C (.put v)) →
    if c=true then o.wp P a w (fun a' w'=>∃e β',C e∧Rel P S0 L B0 w0 N (e.on o.dst st) a' w' β') Q
    else ∃e β',C e∧Rel P S0 L B0 w0 N (e.on o.dst st) (a.put o.dst undef) w β':=by
   rintro v hv ⟨ht,hf⟩
   cases c with
   |true=>exact hreg id (fun _ _ _ _ hR=>hR) (ht rfl)
   |false=>exact⟨_,β,hf rfl,h.passed hdN' hv⟩
  generalize hik:i.k=k at hc hs hreg hq hmk
  cases k with
  |mov=>
   dsimp only [semG]at hs
   obtain⟨x,hx,hl,hC⟩:=withO_inv hs
   cases c with
   |true=>
    refine hreg (fun e=>match e with | .put v=>.put (.cnd true v) | e=>e) ?_ ?_
    ·intro e a' w' β' hR
     cases e<;>first | exact hR.to_cnd rfl | exact hR
    ·dsimp only [semK]
     rw [hx]
     exact⟨hl,hC⟩
   |false=>exact⟨_,β,hC,h.passed hdN' (.cnd _ _ _ (fun e=>by cases e) fun _=>rfl)⟩
  |pick=>
   dsimp only [semG]at hs
   obtain⟨x,hx,hl,hC⟩:=withO_inv hs
   cases c with
   |true=>
    refine hreg (fun e=>match e with | .put v=>.put (.cnd true v) | e=>e) ?_ ?_
    ·intro e a' w' β' hR
     cases e<;>first | exact hR.to_cnd rfl | exact hR
    ·dsimp only [semK]
     rw [hx]
     exact⟨hl rfl,hC⟩
   |false=>exact⟨_,β,hC,h.passed hdN' (.cnd _ _ _ (fun e=>by cases e) fun _=>rfl)⟩
  |nilS e=>exact hmk (.junk _) hs
  |box=>exact hmk (.junk _) hs
  |alloc zs=>exact hmk (.junk _) hs
  |bsl e sz=>exact hmk (void_sound _) hs
  |store n=>exact hmk (.junk _) hs
  |app e sz bytes=>exact hmk (.junk _) hs
  |call f=>
   dsimp only [semG]at hs
   obtain⟨ys,hys,hs⟩:=withO_inv hs
   obtain⟨⟨φ,r⟩,hr,hs⟩:=withO_inv hs
   split at hs
   rotate_left
   ·exact hmk (.cnd _ _ _ (fun e=>by cases e) fun _=>rfl) hs
   obtain⟨hcon,hfl,hfr,hres,hC⟩:=hs
   cases c with
   |true=>
    have hcall:=compOp_call hc
    obtain⟨args,argTypes,ho,hf,hx⟩:=hcall
    rw [hx]at hys hcon
    have htr:=flat_tr hfl
    have hnil:∀d,newO d r=[]:=fun d=>by rw [newO_plain htr];unfold frTags;rw [hfr];rfl
    refine sound_call (d:=0) h (by omega) ho hf (hcon rfl).1 hys (hΓ.con (isFn_lt hf) hr (hcon rfl).2) (.inr (by rw [flatR_plain htr];exact hfl)) (by rw [hnil];intro x hx;cases hx) (by rw [resR_plain htr];exact hres) ?_
    intro v w' β' hR hv
    rw [hnil]at hR hv
    rw [newV_plain htr,mapTop_none hfr]at hv
    exact⟨_,β',hC,hR.put hdN' (.cnd _ _ _ (fun _=>hv) fun e=>by cases e)⟩
   |false=>exact⟨_,β,hC,h.passed hdN' (.cnd _ _ _ (fun e=>by cases e) fun _=>rfl)⟩
  |calv=>
   have hs:withO (semQ .calv ((i.xs.map (Ab.ev st.vars)).map strip) st.objs) fun x=>(c=true→asksL (i.xs.map (Ab.ev st.vars))∧x.1)∧C (.put (.cnd c x.2)):=hs
   rw [semQ_calv]at hs;exact hs.elim
  |btoS=>exact hq rfl hs
  |mnx mx=>exact hq rfl hs
  |eqs ne ks=>exact hq rfl hs
  |stoB e=>
   have hs:withO (semQ (.stoB e) ((i.xs.map (Ab.ev st.vars)).map strip) st.objs) fun x=>(c=true→asksL (i.xs.map (Ab.ev st.vars))∧x.1)∧C (.put (.cnd c x.2)):=hs
   rw [semQ_stoB]at hs;exact hs.elim
  |ex x=>
   have hs:withO (semQ (.ex x) ((i.xs.map (Ab.ev st.vars)).map strip) st.objs) fun x=>(c=true→asksL (i.xs.map (Ab.ev st.vars))∧x.1)∧C (.put (.cnd c x.2)):=hs
   by_cases hq':isQ (.ex x)=true
   ·exact hq hq' hs
   ·rw [semQ_ex (by simpa using hq')]at hs;exact hs.elim
  |clr e sz zs=>
   have hs:withO (semQ (.clr e sz zs) ((i.xs.map (Ab.ev st.vars)).map strip) st.objs) fun x=>(c=true→asksL (i.xs.map (Ab.ev st.vars))∧x.1)∧C (.put (.cnd c x.2)):=hs
   rw [semQ_clr]at hs;exact hs.elim
  | _=>exact hq rfl hs
end
theorem semK_pick {P:Program}{Γ:Tab}{d:Option Nat}{k:AK}{xs:List AV}{objs:Nat→Option AO}{C:Eff→Prop} (hs:semK P Γ d k xs objs C):∃e,C e∧semK P Γ d k xs objs fun e'=>e'=e:=by
 cases k with
 |mov=>
  dsimp only [semK]at hs ⊢
  obtain⟨x,hx,hl,hC⟩:=withO_inv hs
  exact⟨_,hC,by rw [hx];exact⟨hl,rfl⟩⟩
 |pick=>
  dsimp only [semK]at hs ⊢
  obtain⟨x,hx,hl,hC⟩:=withO_inv hs
  exact⟨_,hC,by rw [hx];exact⟨hl,rfl⟩⟩
 |nilS e=>
  dsimp only [semK]at hs ⊢
  obtain⟨d,hd,ha,hw⟩:=withO_inv hs
  obtain⟨x,hx,hl,hn,hC⟩:=withO_inv hw
  exact⟨_,hC,by rw [hd];exact⟨ha,by rw [hx];exact⟨hl,hn,rfl⟩⟩⟩
 |box=>
  dsimp only [semK]at hs ⊢
  obtain⟨d,hd,ha,hw⟩:=withO_inv hs
  obtain⟨x,hx,hl,hn,hC⟩:=withO_inv hw
  exact⟨_,hC,by rw [hd];exact⟨ha,by rw [hx];exact⟨hl,hn,rfl⟩⟩⟩
 |alloc zs=>
  dsimp only [semK]at hs ⊢
  obtain⟨d,hd,ha,hw⟩:=withO_inv hs
  obtain⟨x,hx,hl,hn,hC⟩:=withO_inv hw
  exact⟨_,hC,by rw [hd];exact⟨ha,by rw [hx];exact⟨hl,hn,rfl⟩⟩⟩
 |bsl e sz=>
  dsimp only [semK]at hs ⊢
  obtain⟨d,hd,ha,hw⟩:=withO_inv hs
  obtain⟨x,hx,hl,hn,hC⟩:=withO_inv hw
  exact⟨_,hC,by rw [hd];exact⟨ha,by rw [hx];exact⟨hl,hn,rfl⟩⟩⟩
 |store n=>
  dsimp only [semK]at hs ⊢
  obtain⟨ha,hw⟩:=hs
  obtain⟨x,hx,hl,hC⟩:=withO_inv hw
  exact⟨_,hC,ha,by rw [hx];exact⟨hl,rfl⟩⟩
 |app e sz bytes=>
  dsimp only [semK]at hs ⊢
  obtain⟨ha,hw⟩:=hs
  by_cases ho:isOwn (xs.map strip)=true
  ·rw [if_pos ho]at hw
   obtain⟨x,hx,hl,hC⟩:=withO_inv hw
   exact⟨_,hC,ha,by rw [if_pos ho,hx];exact⟨hl,rfl⟩⟩
  ·rw [if_neg ho]at hw
   obtain⟨d,hd,hw⟩:=withO_inv hw
   obtain⟨x,hx,hl,hn,hC⟩:=withO_inv hw
   exact⟨_,hC,ha,by rw [if_neg ho,hd];show withO (semF _ d _ _) _;rw [hx];exact⟨hl,hn,rfl⟩⟩
 |call f=>
  dsimp only [semK,semCall]at hs ⊢
  obtain⟨d,hd,ha,hw⟩:=withO_inv hs
  obtain⟨ys,hys,hw⟩:=withO_inv hw
  obtain⟨⟨φ,r⟩,hr,h1,h2,h3,h4,hC⟩:=withO_inv hw
  exact⟨_,hC,by rw [hd];exact⟨ha,by rw [hys];show withO (gt Γ f ys) _;rw [hr];exact⟨h1,h2,h3,h4,rfl⟩⟩⟩
 | _=>
  obtain⟨ha,hw⟩:=hs
  obtain⟨x,hx,hl,hC⟩:=withO_inv hw
  exact⟨_,hC,ha,by rw [hx];exact⟨hl,rfl⟩⟩
theorem semG_pick {P:Program}{Γ:Tab}{c:Bool}{d:Option Nat}{k:AK}{xs:List AV}{objs:Nat→Option AO}{C:Eff→Prop} (hs:semG P Γ c d k xs objs C):∃e,C e∧semG P Γ c d k xs objs fun e'=>e'=e:=by
 have hmk:∀{v:AV},((c=true→semK P Γ d k xs objs C)∧(c=false→C (.put v)))→∃e,C e∧((c=true→semK P Γ d k xs objs fun e'=>e'=e)∧(c=false→Eff.put v=e)):=by
  rintro v ⟨ht,hf⟩
  cases c with
  |true=>
   obtain⟨e,he,hs⟩:=semK_pick (ht rfl)
   exact⟨e,he,fun _=>hs,fun h=>by cases h⟩
  |false=>exact⟨_,hf rfl,fun h=>(by cases h),fun _=>rfl⟩
 cases k with
 |mov=>
  dsimp only [semG]at hs ⊢
  obtain⟨x,hx,hl,hC⟩:=withO_inv hs
  exact⟨_,hC,by rw [hx];exact⟨hl,rfl⟩⟩
 |pick=>
  dsimp only [semG]at hs ⊢
  obtain⟨x,hx,hl,hC⟩:=withO_inv hs
  exact⟨_,hC,by rw [hx];exact⟨hl,rfl⟩⟩
 |nilS e=>exact hmk hs
 |box=>exact hmk hs
 |alloc zs=>exact hmk hs
 |bsl e sz=>exact hmk hs
 |store n=>exact hmk hs
 |app e sz bytes=>exact hmk hs
 |call f=>
  dsimp only [semG]at hs ⊢
  obtain⟨ys,hys,hs⟩:=withO_inv hs
  obtain⟨⟨φ,r⟩,hr,hs⟩:=withO_inv hs
  split at hs
  ·rename_i hif
   obtain⟨h1,h2,h3,h4,hC⟩:=hs
   exact⟨_,hC,by rw [hys];show withO (gt Γ f ys) _;rw [hr];show ite _ _ _;rw [if_pos hif];exact⟨h1,h2,h3,h4,rfl⟩⟩
  ·rename_i hif
   obtain⟨e,he,hs⟩:=hmk hs
   exact⟨e,he,by rw [hys];show withO (gt Γ f ys) _;rw [hr];show ite _ _ _;rw [if_neg hif];exact hs⟩
 | _=>
  dsimp only [semG]at hs ⊢
  obtain⟨x,hx,hl,hC⟩:=withO_inv hs
  exact⟨_,hC,by rw [hx];exact⟨hl,rfl⟩⟩
theorem semI_pick {P:Program}{Γ:Tab}{i:AI}{vars:Nat→AV}{objs:Nat→Option AO}{C:Eff→Prop} (hs:semI P Γ i vars objs C):∃e,C e∧semI P Γ i vars objs fun e'=>e'=e:=by
 unfold semI at hs ⊢
 cases hg:i.g with
 |none=>rw [hg]at hs;exact semK_pick hs
 |some sw=>
  obtain⟨s,w⟩:=sw
  rw [hg]at hs
  dsimp only at hs ⊢
  obtain⟨c,hc,hs⟩:=withO_inv hs
  obtain⟨e,he,hs⟩:=semG_pick hs
  exact⟨e,he,by rw [hc];exact hs⟩
theorem cloOr (v:AV):(∃f cs,v=.clo f cs)∨((∀objs,rei objs v=rei1 objs v)∧∀T objs,noM T objs v=noMP T objs v):=by
 cases v<;>first | exact .inl ⟨_,_,rfl⟩ | exact .inr ⟨fun _=>rfl,fun _ _=>rfl⟩
theorem ptrOr (v:AV):(∃t o,v=.ptr t o)∨(∃cs,v=.agg cs)∨∀T objs,noMP T objs v=noMC T v:=by
 cases v<;>first | exact .inl ⟨_,_,rfl⟩ | exact .inr (.inl ⟨_,rfl⟩) | exact .inr (.inr fun _ _=>rfl)
theorem ownOr (v:AV):((∃t,v=.own t)∨∃t e lo hi,v=.sub t e lo hi)∨∀objs objs',reiP objs v=reiP objs' v:=by
 cases v<;>first | exact .inl (.inl ⟨_,rfl⟩) | exact .inl (.inr ⟨_,_,_,_,rfl⟩) | exact .inr fun _ _=>rfl | (rename_i p;exact .inr fun _ _=>by cases p<;>rfl)
section
variable {T:List Nat}{objs objs':Nat→Option AO} (hag:∀t,noT T t→objs t=objs' t)
include hag
theorem reiP_local {v:AV} (h:noMC T v):reiP objs v=reiP objs' v:=by
 rcases ownOr v with (⟨t,rfl⟩ | ⟨t,e,lo,hi,rfl⟩) | hv
 ·simp only [reiP];rw [hag t h]
 ·simp only [reiP];rw [hag t h]
 ·exact hv _ _
theorem reiPs_local:∀{cs:List AV},noMCs T cs→reiPs objs cs=reiPs objs' cs
 | [],_=>rfl
 |c::cs,h=>by simp only [reiPs];rw [reiP_local hag h.1,reiPs_local h.2]
omit hag in
theorem noMCs_drop:∀{cs:List AV} (n:Nat),noMCs T cs→noMCs T (cs.drop n)
 | [],n,_=>by simp [noMCs]
 |c::cs,0,h=>h
 |c::cs,n+1,h=>noMCs_drop n h.2
theorem rei1_local {v:AV} (h:noMP T objs v):rei1 objs v=rei1 objs' v:=by
 cases v with
 |ptr t o=>
  obtain⟨h1,h2⟩:=h
  simp only [rei1]
  rw [←hag t h1]
  cases hb:boxO (objs t) with
  |none=>rfl
  |some cs=>
   rw [hb]at h2
   simp only [Option.getD_some]at h2
   simp only [Option.bind_some]
   rw [reiPs_local hag (noMCs_drop o h2)]
 |agg cs=>
  simp only [rei1]
  rw [reiPs_local hag h]
 |clo f cs=>cases cs<;>rfl
 |rp cs=>rfl
 |pv p=>cases p<;>rfl
 |own t=>exact congrArg (Option.map AV.pv) (reiP_local hag (v:=.own t) h)
 |eptr t e i o=>rfl
 |sub t e lo hi=>exact congrArg (Option.map AV.pv) (reiP_local hag (v:=.sub t e lo hi) h)
 |tup vs=>rfl
 |fr e rows=>rfl
 |bx cs=>rfl
 |mf es=>rfl
 |cnd g v=>rfl
 |junk=>rfl
theorem rei1s_local:∀{cs:List AV},noMPs T objs cs→rei1s objs cs=rei1s objs' cs
 | [],_=>rfl
 |c::cs,h=>by simp only [rei1s];rw [rei1_local hag h.1,rei1s_local h.2]
theorem rei_local {v:AV} (h:noM T objs v):rei objs v=rei objs' v:=by
 rcases cloOr v with ⟨f,cs,rfl⟩ | ⟨h1,h2⟩
 ·exact congrArg (Option.map (AV.clo f)) (rei1s_local hag h)
 ·rw [h1,h1];rw [h2]at h;exact rei1_local hag h
theorem reis_local:∀{cs:List AV},noMs T objs cs→reis objs cs=reis objs' cs
 | [],_=>rfl
 |c::cs,h=>by simp only [reis];rw [rei_local hag h.1,reis_local h.2]
theorem noMP_agree {v:AV} (h:noMP T objs v):noMP T objs' v:=by
 rcases ptrOr v with ⟨t,o,rfl⟩ | ⟨cs,rfl⟩ | h2
 ·exact⟨h.1,by rw [←hag t h.1];exact h.2⟩
 ·exact h
 ·rw [h2]at h ⊢;exact h
theorem noMPs_agree:∀{cs:List AV},noMPs T objs cs→noMPs T objs' cs
 | [],_=>trivial
 |c::cs,h=>⟨noMP_agree hag h.1,noMPs_agree h.2⟩
theorem noM_agree {v:AV} (h:noM T objs v):noM T objs' v:=by
 rcases cloOr v with ⟨f,cs,rfl⟩ | ⟨h1,h2⟩
 ·exact noMPs_agree hag h
 ·rw [h2]at h ⊢;exact noMP_agree hag h
theorem noMs_agree:∀{cs:List AV},noMs T objs cs→noMs T objs' cs
 | [],_=>trivial
 |c::cs,h=>⟨noM_agree hag h.1,noMs_agree h.2⟩
end
section
variable {T U:List Nat}{objs:Nat→Option AO} (hsub:∀t,noT U t→noT T t)
include hsub
theorem noMC_sub {v:AV} (h:noMC U v):noMC T v:=by
 cases v<;>first | trivial | exact hsub _ h
theorem noMCs_sub:∀{cs:List AV},noMCs U cs→noMCs T cs
 | [],_=>trivial
 |c::cs,h=>⟨noMC_sub hsub h.1,noMCs_sub h.2⟩
theorem noMP_sub {v:AV} (h:noMP U objs v):noMP T objs v:=by
 rcases ptrOr v with ⟨t,o,rfl⟩ | ⟨cs,rfl⟩ | h2
 ·exact⟨hsub _ h.1,noMCs_sub hsub h.2⟩
 ·exact noMCs_sub hsub h
 ·rw [h2]at h ⊢;exact noMC_sub hsub h
theorem noMPs_sub:∀{cs:List AV},noMPs U objs cs→noMPs T objs cs
 | [],_=>trivial
 |c::cs,h=>⟨noMP_sub hsub h.1,noMPs_sub h.2⟩
theorem noM_sub {v:AV} (h:noM U objs v):noM T objs v:=by
 rcases cloOr v with ⟨f,cs,rfl⟩ | ⟨h1,h2⟩
 ·exact noMPs_sub hsub h
 ·rw [h2]at h ⊢;exact noMP_sub hsub h
theorem noMs_sub:∀{cs:List AV},noMs U objs cs→noMs T objs cs
 | [],_=>trivial
 |c::cs,h=>⟨noM_sub hsub h.1,noMs_sub h.2⟩
end
theorem semQ_away {k:AK}{ys:List AV}{objs objs':Nat→Option AO}{r:Prop × AV} (hk:looksAway k=true) (h:semQ k ys objs=some r):semQ k ys objs'=some r:=by
 unfold semQ at h
 split at h<;>first | exact h | (simp [looksAway]at hk;done) | cases h
section
variable {T:List Nat}{objs objs':Nat→Option AO} (hag:∀t,noT T t→objs t=objs' t)
include hag
theorem rowsB_local {x:AV} (h:noM T objs x):rowsB objs x=rowsB objs' x:=by
 cases x with
 |own t=>simp only [rowsB];rw [hag t h]
 |sub t e lo hi=>simp only [rowsB];rw [hag t h]
 |pv p=>cases p<;>rfl
 | _=>rfl
theorem semQ_local {k:AK}{ys:List AV}{r:Prop × AV} (hno:noMs T objs ys) (h:semQ k ys objs=some r):semQ k ys objs'=some r:=by
 unfold semQ at h
 split at h<;>first
  |exact h
  | (simp only [semQ];rw [←hag _ hno.1];exact h)
  | (simp only [semQ];rw [←hag _ hno.1.1];exact h)
  | (simp only [semQ];rw [←rowsB_local hag hno.1];exact h)
  |cases h
theorem semM_local {k:AK}{ys:List AV}{r:Prop × Nat × AO} (hk:isApp k=false) (hno:noMs T objs ys) (h:semM k ys objs=some r):semM k ys objs'=some r:=by
 unfold semM at h
 split at h<;>first
  | (simp only [semM];rw [←hag _ hno.1];exact h)
  | (simp only [semM];rw [←hag _ hno.1.1];exact h)
  | (simp [isApp]at hk;done)
  |cases h
omit hag in
theorem semF_away {k:AK}{d:Nat}{ys:List AV}{r:Prop × AV × AO} (hk:isApp k=false) (h:semF k d ys objs=some r):semF k d ys objs'=some r:=by
 unfold semF at h
 split at h<;>first | exact h | (simp [isApp]at hk;done) | cases h
theorem semK_local {P:Program}{Γ:Tab}{d:Option Nat}{k:AK}{xs:List AV}{C:Eff→Prop} (hk:isApp k=false) (hd:∀s,d=some s→s < 1000∧T.contains s=false) (hno:looksAway k=true∨noMs T objs (xs.map strip))
  (hs:semK P Γ d k xs objs C):semK P Γ d k xs objs' C:=by
 have hfree:∀s p,d=some s→objs (s+1000*p)=objs' (s+1000*p):=by
  intro s p hs
  refine hag _ ?_
  unfold noT
  rw [Nat.add_mul_mod_self_left,Nat.mod_eq_of_lt (hd s hs).1]
  exact (hd s hs).2
 have hmk:∀{k:AK},isApp k=false→(withO d fun d=>asksL xs∧withO (semF k d (xs.map strip) objs) fun x=>x.1∧objs d=none∧C (.new x.2.1 [(d,x.2.2)])) →
   withO d fun d=>asksL xs∧withO (semF k d (xs.map strip) objs') fun x=>x.1∧objs' d=none∧C (.new x.2.1 [(d,x.2.2)]):=by
  intro k hk hw
  obtain⟨s,hs,ha,hw⟩:=withO_inv hw
  obtain⟨x,hx,hφ,hn,hC⟩:=withO_inv hw
  rw [hs]
  refine⟨ha,?_⟩
  rw [semF_away (objs:=objs) (objs':=objs') hk hx]
  have:=hfree s 0 hs
  simp only [Nat.mul_zero,Nat.add_zero]at this
  exact⟨hφ,this ▸ hn,hC⟩
 cases k with
 |mov=>exact hs
 |pick=>exact hs
 |nilS e=>exact hmk (k:=.nilS e) rfl hs
 |box=>exact hmk (k:=.box) rfl hs
 |alloc zs=>exact hmk (k:=.alloc zs) rfl hs
 |bsl e sz=>exact hmk (k:=.bsl e sz) rfl hs
 |store n=>
  have hno:=hno.resolve_left (by simp [looksAway])
  obtain⟨ha,hw⟩:=hs
  refine⟨ha,?_⟩
  obtain⟨x,hx,hC⟩:=withO_inv hw
  rw [semM_local hag hk hno hx]
  exact hC
 |app e sz bytes=>simp [isApp]at hk
 |call f=>
  have hno:=hno.resolve_left (by simp [looksAway])
  dsimp only [semK,semCall]at hs ⊢
  obtain⟨s,hs',ha,hw⟩:=withO_inv hs
  obtain⟨ys,hys,hw⟩:=withO_inv hw
  obtain⟨⟨φ,r⟩,hr,h1,h2,h3,h4,hC⟩:=withO_inv hw
  rw [hs']
  refine⟨ha,?_⟩
  rw [←reis_local hag hno,hys]
  show withO (gt Γ f ys) _
  rw [hr]
  refine⟨h1,h2,?_,h4,hC⟩
  intro x hx
  have:=h3 x hx
  obtain⟨y,hy⟩:=newO_tags s r x hx
  rw [hy]at this ⊢
  rw [←hfree s y hs']
  exact this
 | _=>
  obtain⟨ha,hw⟩:=hs
  refine⟨ha,?_⟩
  obtain⟨x,hx,hC⟩:=withO_inv hw
  rw [hno.elim (fun h=>semQ_away (objs':=objs') h hx) (fun h=>semQ_local hag h hx)]
  exact hC
theorem semG_local {P:Program}{Γ:Tab}{c:Bool}{d:Option Nat}{k:AK}{xs:List AV}{C:Eff→Prop} (hk:isApp k=false) (hd:∀s,d=some s→s < 1000∧T.contains s=false) (hno:looksAway k=true∨noMs T objs (xs.map strip))
  (hs:semG P Γ c d k xs objs C):semG P Γ c d k xs objs' C:=by
 have hmk:∀{v:AV},((c=true→semK P Γ d k xs objs C)∧(c=false→C (.put v)))→((c=true→semK P Γ d k xs objs' C)∧(c=false→C (.put v))):=
  fun h=>⟨fun hc=>semK_local hag hk hd hno (h.1 hc),h.2⟩
 cases k with
 |mov=>exact hs
 |pick=>exact hs
 |nilS e=>exact hmk hs
 |box=>exact hmk hs
 |alloc zs=>exact hmk hs
 |bsl e sz=>exact hmk hs
 |store n=>exact hmk hs
 |app e sz bytes=>exact hmk hs
 |call f=>
  have hno:=hno.resolve_left (by simp [looksAway])
  dsimp only [semG]at hs ⊢
  rw [←reis_local hag hno]
  obtain⟨ys,hys,hs⟩:=withO_inv hs
  obtain⟨⟨φ,r⟩,hr,hs⟩:=withO_inv hs
  rw [hys];show withO (gt Γ f ys) _;rw [hr];show ite _ _ _
  split at hs
  ·rename_i hif;rw [if_pos hif];exact hs
  ·rename_i hif;rw [if_neg hif];exact hmk hs
 | _=>
  dsimp only [semG]at hs ⊢
  obtain⟨x,hx,hC⟩:=withO_inv hs
  rw [hno.elim (fun h=>semQ_away (objs':=objs') h hx) (fun h=>semQ_local hag h hx)]
  exact hC
end
theorem strip_kill (t:Nat):∀a:AV,strip (kill t a)=kill t (strip a)
 |.cnd g v=>by simp only [kill,strip];exact strip_kill t v
 |.pv p=>rfl
 |.own s=>by show strip (if s=t then .junk else .own s)=(if s=t then .junk else .own s);split<;>rfl
 |.ptr s o=>rfl
 |.eptr s e i o=>by show strip (if s=t then .junk else .eptr s e i o)=(if s=t then .junk else .eptr s e i o);split<;>rfl
 |.sub s e i o=>by show strip (if s=t then .junk else .sub s e i o)=(if s=t then .junk else .sub s e i o);split<;>rfl
 |.rp cs=>rfl
 |.agg cs=>rfl
 |.tup vs=>rfl
 |.clo f []=>rfl
 |.clo f (c::cs)=>rfl
 |.fr e rows=>rfl
 |.bx _=>rfl
 |.mf _=>rfl
 |.junk=>rfl
theorem asks_kill (t:Nat):∀a:AV,asks (kill t a)=asks a
 |.cnd g v=>by simp only [kill,asks];rw [asks_kill t v]
 |.pv p=>rfl
 |.own s=>by show asks (if s=t then .junk else .own s)=asks (.own s);split<;>rfl
 |.ptr s o=>rfl
 |.eptr s e i o=>by show asks (if s=t then .junk else .eptr s e i o)=asks (.eptr s e i o);split<;>rfl
 |.sub s e i o=>by show asks (if s=t then .junk else .sub s e i o)=asks (.sub s e i o);split<;>rfl
 |.rp cs=>rfl
 |.agg cs=>rfl
 |.tup vs=>rfl
 |.clo f []=>rfl
 |.clo f (c::cs)=>rfl
 |.fr e rows=>rfl
 |.bx _=>rfl
 |.mf _=>rfl
 |.junk=>rfl
theorem kill_pv_inv {t:Nat}{v:AV}{p:PV} (h:kill t v=.pv p):v=.pv p:=by
 cases v with
 |pv q=>exact h
 |own s=>have h:(if s=t then AV.junk else .own s)=.pv p:=h;split at h<;>cases h
 |eptr s e i o=>have h:(if s=t then AV.junk else .eptr s e i o)=.pv p:=h;split at h<;>cases h
 |sub s e i o=>have h:(if s=t then AV.junk else .sub s e i o)=.pv p:=h;split at h<;>cases h
 |clo f cs=>cases cs<;>cases h
 | _=>cases h
theorem cv_kill (t:Nat) (v:Value):kill t (cv v)=cv v:=by
 unfold cv;split<;>rfl
theorem ev_kill (t:Nat) (vars:Nat→AV) (x:Operand):Ab.ev (killV t vars) x=kill t (Ab.ev vars x):=by
 cases x with
 |const v=>exact (cv_kill t v).symm
 | _=>rfl
theorem evs_kill (t:Nat) (vars:Nat→AV) (xs:List Operand):xs.map (Ab.ev (killV t vars))=(xs.map (Ab.ev vars)).map (kill t):=by
 rw [List.map_map]
 exact List.map_congr_left fun x _=>ev_kill t vars x
theorem asksL_kill (t:Nat):∀xs:List AV,asksL (xs.map (kill t))=asksL xs
 | []=>rfl
 |x::xs=>by simp only [List.map_cons,asksL];rw [asks_kill,asksL_kill t xs]
theorem strips_kill {t:Nat}:∀{xs:List AV},(∀y∈xs.map strip,∃p,y=AV.pv p)→(xs.map (kill t)).map strip=xs.map strip
 | [],_=>rfl
 |x::xs,h=>by
  simp only [List.map_cons,List.mem_cons,forall_eq_or_imp]at h ⊢
  obtain⟨⟨p,hp⟩,h⟩:=h
  rw [strips_kill h,strip_kill,hp]
  rfl
theorem strips_unkill {t:Nat}:∀{xs:List AV},(∀y∈(xs.map (kill t)).map strip,∃p,y=AV.pv p)→(xs.map (kill t)).map strip=xs.map strip
 | [],_=>rfl
 |x::xs,h=>by
  simp only [List.map_cons,List.mem_cons,forall_eq_or_imp]at h ⊢
  obtain⟨⟨p,hp⟩,h⟩:=h
  rw [strips_unkill h,hp]
  rw [strip_kill]at hp
  rw [kill_pv_inv hp]
theorem semQ_pv {k:AK}{ys:List AV}{objs:Nat→Option AO}{r:Prop × AV} (hk:looksAway k=true) (h:semQ k ys objs=some r):(∀y∈ys,∃p,y=AV.pv p)∧∃q,r.2=.pv q:=by
 unfold semQ at h
 split at h<;>first
  | (simp [looksAway]at hk;done)
  | (obtain⟨x,_,rfl⟩:=Option.map_eq_some_iff.1 h;exact⟨by simp,_,rfl⟩)
  | (simp only [Option.some.injEq]at h;subst h;exact⟨by simp,_,rfl⟩)
  |cases h
section
variable {P:Program}{Γ:Tab}{d:Option Nat}{k:AK}{xs:List AV}{objs objs':Nat→Option AO}{e:Eff}{t:Nat}
def semA (k:AK) (xs:List AV):Option (Prop × AV):=
 match k with
 |.mov=>match xs with
  | [x]=>some (True,x)
  | _=>none
 |k=>(semQ k (xs.map strip) fun _=>none).map fun r=>(asksL xs∧r.1,r.2)
theorem semK_away (hk:looksAway k=true):semK P Γ d k xs objs (fun e'=>e'=e)↔∃φ v,semA k xs=some (φ,v)∧φ∧e=.put v:=by
 have hq:∀{k:AK},looksAway k=true→((asksL xs∧withO (semQ k (xs.map strip) objs) fun x=>x.1∧Eff.put x.2=e) ↔
   ∃φ v,((semQ k (xs.map strip) fun _=>none).map fun r=>(asksL xs∧r.1,r.2))=some (φ,v)∧φ∧e=.put v):=by
  intro k hk
  constructor
  ·rintro⟨ha,hw⟩
   obtain⟨r,hr,hφ,he⟩:=withO_inv hw
   exact⟨asksL xs∧r.1,r.2,by rw [semQ_away (objs':=fun _=>none) hk hr];rfl,⟨ha,hφ⟩,he.symm⟩
  ·rintro⟨φ,v,hs,hφ,he⟩
   obtain⟨r,hr,hx⟩:=Option.map_eq_some_iff.1 hs
   cases hx
   exact⟨hφ.1,by rw [semQ_away (objs':=objs) hk hr];exact⟨hφ.2,he.symm⟩⟩
 cases k with
 |mov=>
  dsimp only [semK,semA]
  constructor
  ·intro h
   obtain⟨x,hx,hl,he⟩:=withO_inv h
   obtain⟨y,rfl⟩:=List.length_eq_one_iff.1 hl
   simp only [List.head?_cons,Option.some.injEq]at hx
   subst hx
   exact⟨_,_,rfl,trivial,he.symm⟩
  ·rintro⟨φ,v,hs,hφ,rfl⟩
   split at hs
   ·cases hs;exact⟨rfl,rfl⟩
   ·cases hs
 |bin op=>exact hq rfl
 |beq ne=>exact hq rfl
 |not=>exact hq rfl
 |neg=>exact hq rfl
 |cvi k=>exact hq rfl
 |scv=>exact hq rfl
 | _=>simp [looksAway]at hk
theorem semG_away {c:Bool} (hk:looksAway k=true):semG P Γ c d k xs objs (fun e'=>e'=e)↔∃φ v,semA k xs=some (φ,v)∧(c=true→φ)∧e=.put (.cnd c v):=by
 have hq:∀{k:AK},looksAway k=true→((withO (semQ k (xs.map strip) objs) fun x=>(c=true→asksL xs∧x.1)∧Eff.put (.cnd c x.2)=e) ↔
   ∃φ v,((semQ k (xs.map strip) fun _=>none).map fun r=>(asksL xs∧r.1,r.2))=some (φ,v)∧(c=true→φ)∧e=.put (.cnd c v)):=by
  intro k hk
  constructor
  ·intro hw
   obtain⟨r,hr,hφ,he⟩:=withO_inv hw
   exact⟨asksL xs∧r.1,r.2,by rw [semQ_away (objs':=fun _=>none) hk hr];rfl,hφ,he.symm⟩
  ·rintro⟨φ,v,hs,hφ,he⟩
   obtain⟨r,hr,hx⟩:=Option.map_eq_some_iff.1 hs
   cases hx
   rw [semQ_away (objs':=objs) hk hr];exact⟨hφ,he.symm⟩
 cases k with
 |mov=>
  dsimp only [semG,semA]
  constructor
  ·intro h
   obtain⟨x,hx,hl,he⟩:=withO_inv h
   obtain⟨y,rfl⟩:=List.length_eq_one_iff.1 hl
   simp only [List.head?_cons,Option.some.injEq]at hx
   subst hx
   exact⟨_,_,rfl,fun _=>trivial,he.symm⟩
  ·rintro⟨φ,v,hs,hφ,rfl⟩
   split at hs
   ·cases hs;exact⟨rfl,rfl⟩
   ·cases hs
 |bin op=>exact hq rfl
 |beq ne=>exact hq rfl
 |not=>exact hq rfl
 |neg=>exact hq rfl
 |cvi k=>exact hq rfl
 |scv=>exact hq rfl
 | _=>simp [looksAway]at hk
theorem semA_kill {φ:Prop}{v:AV} (hk:looksAway k=true) (h:semA k xs=some (φ,v)):semA k (xs.map (kill t))=some (φ,kill t v):=by
 have hq:((semQ k (xs.map strip) fun _=>none).map fun r=>(asksL xs∧r.1,r.2))=some (φ,v) →
   ((semQ k ((xs.map (kill t)).map strip) fun _=>none).map fun r=>(asksL (xs.map (kill t))∧r.1,r.2))=some (φ,kill t v):=by
  intro h
  obtain⟨r,hr,hx⟩:=Option.map_eq_some_iff.1 h
  obtain⟨hp,q,hq⟩:=semQ_pv hk hr
  cases hx
  rw [strips_kill hp,hr,asksL_kill,hq]
  show some (asksL xs∧r.1,r.2)=_
  rw [hq];rfl
 cases k with
 |mov=>
  dsimp only [semA]at h ⊢
  split at h
  ·cases h;rfl
  ·cases h
 |bin op=>exact hq h
 |beq ne=>exact hq h
 |not=>exact hq h
 |neg=>exact hq h
 |cvi k=>exact hq h
 |scv=>exact hq h
 | _=>simp [looksAway]at hk
theorem semA_unkill {φ:Prop}{v:AV} (hk:looksAway k=true) (h:semA k (xs.map (kill t))=some (φ,v)):∃u,v=kill t u∧semA k xs=some (φ,u):=by
 have hq:((semQ k ((xs.map (kill t)).map strip) fun _=>none).map fun r=>(asksL (xs.map (kill t))∧r.1,r.2))=some (φ,v) →
   ∃u,v=kill t u∧((semQ k (xs.map strip) fun _=>none).map fun r=>(asksL xs∧r.1,r.2))=some (φ,u):=by
  intro h
  obtain⟨r,hr,hx⟩:=Option.map_eq_some_iff.1 h
  obtain⟨hp,q,hq⟩:=semQ_pv hk hr
  rw [strips_unkill hp]at hr
  rw [asksL_kill]at hx
  cases hx
  exact⟨r.2,by rw [hq];rfl,by rw [hr];rfl⟩
 cases k with
 |mov=>
  dsimp only [semA]at h ⊢
  rcases xs with _ | ⟨x,_ | ⟨y,xs⟩⟩
  ·cases h
  ·cases h;exact⟨x,rfl,rfl⟩
  ·cases h
 |bin op=>exact hq h
 |beq ne=>exact hq h
 |not=>exact hq h
 |neg=>exact hq h
 |cvi k=>exact hq h
 |scv=>exact hq h
 | _=>simp [looksAway]at hk
end
section
variable {P:Program}{Γ:Tab}{i:AI}{vars vars':Nat→AV}{objs objs':Nat→Option AO}{e:Eff}{t:Nat}
theorem guardB_killE (w:Bool):∀v:AV,guardB (kill t v) w=guardB v w
 |.cnd c v=>by simp only [kill,guardB];rw [guardB_killE w v]
 |.own s | .eptr s _ _ _ | .sub s _ _ _=>by simp only [kill,killC];split<;>rfl
 |.clo f cs=>by cases cs<;>rfl
 |.pv _ | .ptr _ _ | .rp _ | .agg _ | .tup _ | .fr _ _ | .bx _ | .mf _ | .junk=>rfl
theorem guardB_kill {v:AV}{w c:Bool}:guardB (kill t v) w=some c↔guardB v w=some c:=by rw [guardB_killE]
theorem semI_away_kill (hk:looksAway i.k=true) (h:semI P Γ i vars objs fun e'=>e'=e):∃v,e=.put v∧∀t objs',semI P Γ i (killV t vars) objs' fun e'=>e'=.put (kill t v):=by
 unfold semI at h ⊢
 cases hg:i.g with
 |none=>
  rw [hg]at h
  obtain⟨φ,v,hs,hφ,rfl⟩:=(semK_away hk).1 h
  refine⟨v,rfl,fun t objs'=>?_⟩
  rw [evs_kill]
  exact (semK_away hk).2 ⟨φ,_,semA_kill hk hs,hφ,rfl⟩
 |some sw=>
  obtain⟨s,w⟩:=sw
  rw [hg]at h
  dsimp only at h ⊢
  obtain⟨c,hc,h⟩:=withO_inv h
  obtain⟨φ,v,hs,hφ,rfl⟩:=(semG_away hk).1 h
  refine⟨_,rfl,fun t objs'=>?_⟩
  rw [show killV t vars s=kill t (vars s) from rfl,guardB_kill.2 hc,evs_kill]
  exact (semG_away hk).2 ⟨φ,_,semA_kill hk hs,hφ,rfl⟩
theorem semI_away_unkill (hk:looksAway i.k=true) (h:semI P Γ i (killV t vars) objs fun e'=>e'=e):∃v,e=.put (kill t v)∧∀objs',semI P Γ i vars objs' fun e'=>e'=.put v:=by
 unfold semI at h ⊢
 cases hg:i.g with
 |none=>
  rw [hg]at h
  dsimp only at h
  rw [evs_kill]at h
  obtain⟨φ,v,hs,hφ,rfl⟩:=(semK_away hk).1 h
  obtain⟨u,rfl,hu⟩:=semA_unkill hk hs
  exact⟨u,rfl,fun objs'=>(semK_away hk).2 ⟨φ,_,hu,hφ,rfl⟩⟩
 |some sw=>
  obtain⟨s,w⟩:=sw
  rw [hg]at h
  dsimp only at h ⊢
  obtain⟨c,hc,h⟩:=withO_inv h
  rw [evs_kill]at h
  obtain⟨φ,v,hs,hφ,rfl⟩:=(semG_away hk).1 h
  obtain⟨u,rfl,hu⟩:=semA_unkill hk hs
  refine⟨.cnd c u,rfl,fun objs'=>?_⟩
  rw [guardB_kill.1 hc]
  exact (semG_away hk).2 ⟨φ,_,hu,hφ,rfl⟩
theorem semI_away_objs (hk:looksAway i.k=true) (h:semI P Γ i vars objs fun e'=>e'=e):(∃v,e=.put v)∧∀objs',semI P Γ i vars objs' fun e'=>e'=e:=by
 unfold semI at h ⊢
 cases hg:i.g with
 |none=>
  rw [hg]at h
  obtain⟨φ,v,hs,hφ,rfl⟩:=(semK_away hk).1 h
  exact⟨⟨v,rfl⟩,fun objs'=>(semK_away hk).2 ⟨φ,_,hs,hφ,rfl⟩⟩
 |some sw=>
  obtain⟨s,w⟩:=sw
  rw [hg]at h
  dsimp only at h ⊢
  obtain⟨c,hc,h⟩:=withO_inv h
  obtain⟨φ,v,hs,hφ,rfl⟩:=(semG_away hk).1 h
  exact⟨⟨_,rfl⟩,fun objs'=>by rw [hc];exact (semG_away hk).2 ⟨φ,_,hs,hφ,rfl⟩⟩
theorem ev_agree {x:Operand} (h:∀s∈tmpsOf [x],vars s=vars' s):Ab.ev vars x=Ab.ev vars' x:=by
 cases x with
 |tmp t=>exact h t (by simp [tmpsOf])
 | _=>rfl
theorem evs_agree:∀{xs:List Operand},(∀s∈tmpsOf xs,vars s=vars' s)→xs.map (Ab.ev vars)=xs.map (Ab.ev vars')
 | [],_=>rfl
 |x::xs,h=>by
  have h1:Ab.ev vars x=Ab.ev vars' x:=ev_agree fun s hs=>h s (by cases x<;>simp_all [tmpsOf])
  have h2:xs.map (Ab.ev vars)=xs.map (Ab.ev vars'):=evs_agree fun s hs=>h s (by cases x<;>simp_all [tmpsOf])
  simp only [List.map_cons,h1,h2]
theorem semI_vars {C:Eff→Prop} (ha:∀s∈usesOf i,vars s=vars' s) (h:semI P Γ i vars objs C):semI P Γ i vars' objs C:=by
 have hx:=evs_agree (vars:=vars) (vars':=vars') (xs:=i.xs) fun s hs=>ha s (List.mem_append_left _ hs)
 unfold semI at h ⊢
 rw [←hx]
 cases hg:i.g with
 |none=>rw [hg]at h;exact h
 |some sw=>
  obtain⟨s,w⟩:=sw
  rw [hg]at h
  dsimp only at h ⊢
  rw [←ha s (List.mem_append_right _ (by rw [hg];simp))]
  exact h
theorem semI_local {T:List Nat}{C:Eff→Prop} (hag:∀t,noT T t→objs t=objs' t) (hk:isApp i.k=false) (hd:∀s,i.d=some s→s < 1000∧T.contains s=false)
  (hno:looksAway i.k=true∨noMs T objs ((i.xs.map (Ab.ev vars)).map strip)) (h:semI P Γ i vars objs C):semI P Γ i vars objs' C:=by
 unfold semI at h ⊢
 cases hg:i.g with
 |none=>rw [hg]at h;exact semK_local hag hk hd hno h
 |some sw=>
  obtain⟨s,w⟩:=sw
  rw [hg]at h
  dsimp only at h ⊢
  obtain⟨c,hc,h⟩:=withO_inv h
  rw [hc]
  exact semG_local hag hk hd hno h
def EffOK (i:AI) (e:Eff):Prop:=
 (∃v,e=.put v)∨(makes i.k=true∧∃d v os,i.d=some d∧e=.new v os∧∀x∈os,∃p,x.1=d+1000*p)∨(writes i.k=true∧makes i.k=false∧∃t o,e=.upd t o)∨(isApp i.k=true∧∃t o,e=.app t o)
theorem semK_eff {xs:List AV} (h:semK P Γ i.d i.k xs objs fun e'=>e'=e):EffOK i e:=by
 have hmk:∀{k:AK},makes i.k=true→(withO i.d fun d=>asksL xs∧withO (semF k d (xs.map strip) objs) fun x=>x.1∧objs d=none∧Eff.new x.2.1 [(d,x.2.2)]=e)→EffOK i e:=by
  intro k hk hw
  obtain⟨d,hd,ha,hw⟩:=withO_inv hw
  obtain⟨x,hx,hφ,hn,rfl⟩:=withO_inv hw
  exact .inr (.inl ⟨hk,d,_,_,hd,rfl,fun x hx=>⟨0,by simp only [List.mem_singleton]at hx;rw [hx];rfl⟩⟩)
 cases hk:i.k with
 |mov=>
  rw [hk]at h
  obtain⟨φ,v,_,_,rfl⟩:=(semK_away rfl).1 h
  exact .inl ⟨v,rfl⟩
 |pick=>
  rw [hk]at h
  dsimp only [semK]at h
  obtain⟨x,_,_,rfl⟩:=withO_inv h
  exact .inl ⟨_,rfl⟩
 |nilS e=>rw [hk]at h;exact hmk (by rw [hk];rfl) h
 |box=>rw [hk]at h;exact hmk (by rw [hk];rfl) h
 |alloc zs=>rw [hk]at h;exact hmk (by rw [hk];rfl) h
 |bsl e sz=>rw [hk]at h;exact hmk (by rw [hk];rfl) h
 |store n=>
  rw [hk]at h
  obtain⟨_,hw⟩:=h
  obtain⟨x,_,_,rfl⟩:=withO_inv hw
  exact .inr (.inr (.inl ⟨by rw [hk];rfl,by rw [hk];rfl,_,_,rfl⟩))
 |app e sz bytes=>
  rw [hk]at h
  dsimp only [semK]at h
  obtain⟨ha,hw⟩:=h
  split at hw
  ·obtain⟨x,_,_,rfl⟩:=withO_inv hw
   exact .inr (.inr (.inr ⟨by rw [hk];rfl,_,_,rfl⟩))
  ·obtain⟨d,hd,hw⟩:=withO_inv hw
   obtain⟨x,hx,hφ,hn,rfl⟩:=withO_inv hw
   exact .inr (.inl ⟨by rw [hk];rfl,d,_,_,hd,rfl,fun x hx=>⟨0,by simp only [List.mem_singleton]at hx;rw [hx];rfl⟩⟩)
 |call f=>
  rw [hk]at h
  dsimp only [semK,semCall]at h
  obtain⟨d,hd,ha,hw⟩:=withO_inv h
  obtain⟨ys,hys,hw⟩:=withO_inv hw
  obtain⟨⟨φ,r⟩,hr,h1,h2,h3,h4,rfl⟩:=withO_inv hw
  refine .inr (.inl ⟨by rw [hk];rfl,d,_,_,hd,rfl,fun x hx=>?_⟩)
  exact newO_tags d r x hx
 | _=>
  rw [hk]at h
  obtain⟨_,hw⟩:=h
  obtain⟨x,_,_,rfl⟩:=withO_inv hw
  exact .inl ⟨_,rfl⟩
theorem semI_eff (h:semI P Γ i vars objs fun e'=>e'=e):EffOK i e:=by
 unfold semI at h
 cases hg:i.g with
 |none=>rw [hg]at h;exact semK_eff h
 |some sw=>
  obtain⟨s,w⟩:=sw
  rw [hg]at h
  dsimp only at h
  obtain⟨c,hc,h⟩:=withO_inv h
  have hmk:∀{v:AV},((c=true→semK P Γ i.d i.k (i.xs.map (Ab.ev vars)) objs fun e'=>e'=e)∧(c=false→Eff.put v=e))→EffOK i e:=by
   rintro v ⟨ht,hf⟩
   cases c with
   |true=>exact semK_eff (ht rfl)
   |false=>exact .inl ⟨_,(hf rfl).symm⟩
  cases hk:i.k with
  |mov=>
   rw [hk]at h
   obtain⟨φ,v,_,_,rfl⟩:=(semG_away rfl).1 h
   exact .inl ⟨_,rfl⟩
  |pick=>
   rw [hk]at h
   dsimp only [semG]at h
   obtain⟨x,_,_,rfl⟩:=withO_inv h
   exact .inl ⟨_,rfl⟩
  |nilS e=>rw [hk]at h hmk;exact hmk h
  |box=>rw [hk]at h hmk;exact hmk h
  |alloc zs=>rw [hk]at h hmk;exact hmk h
  |bsl e sz=>rw [hk]at h hmk;exact hmk h
  |store n=>rw [hk]at h hmk;exact hmk h
  |app e sz bytes=>rw [hk]at h hmk;exact hmk h
  |call f=>
   rw [hk]at h hmk
   dsimp only [semG]at h
   obtain⟨ys,hys,h⟩:=withO_inv h
   obtain⟨⟨φ,r⟩,hr,h⟩:=withO_inv h
   split at h
   ·obtain⟨h1,h2,h3,h4,rfl⟩:=h
    exact .inl ⟨_,rfl⟩
   ·exact hmk h
  | _=>
   rw [hk]at h
   dsimp only [semG]at h
   obtain⟨x,_,_,rfl⟩:=withO_inv h
   exact .inl ⟨_,rfl⟩
end
theorem St.ext' {a b:St} (h1:a.vars=b.vars) (h2:a.objs=b.objs):a=b:=by
 cases a;cases b;simp only at h1 h2;rw [h1,h2]
theorem put_off {d:Option Nat}{v:AV}{f:Nat→AV}{s:Nat} (h:d≠some s):Ab.put d v f s=f s:=by
 cases d with
 |none=>rfl
 |some d=>
  have:s≠d:=fun e=>h (by rw [e])
  simp [Ab.put,this]
theorem put_comm {d d':Option Nat}{v v':AV}{f:Nat→AV} (h:∀s,d=some s→d'≠some s):Ab.put d v (Ab.put d' v' f)=Ab.put d' v' (Ab.put d v f):=by
 cases d with
 |none=>rfl
 |some d=>
  cases d' with
  |none=>rfl
  |some d'=>
   have hne:d'≠d:=fun e=>h d rfl (by rw [e])
   funext s
   by_cases h1:s=d
   ·subst h1
    simp [Ab.put,hne.symm]
   ·simp [Ab.put,h1]
theorem kill_put {t:Nat}{d:Option Nat}{v:AV}{f:Nat→AV}:killV t (Ab.put d v f)=Ab.put d (kill t v) (killV t f):=by
 cases d with
 |none=>rfl
 |some d=>
  funext s
  by_cases h1:s=d
  ·simp [killV,Ab.put,h1]
  ·simp [killV,Ab.put,h1]
def ov:Eff→Nat→Option AO
 |.new _ os=>lookO os
 |.upd t o=>fun s=>if s=t then some o else none
 | _=>fun _=>none
def over (f g:Nat→Option AO):Nat→Option AO:=fun t=>match f t with
 |some o=>some o
 |none=>g t
def valE:Eff→AV
 |.put v=>v
 |.new v _=>v
 |.upd _ _=>.junk
 |.app t _=>.own t
def plain:Eff→Prop
 |.app _ _=>False
 | _=>True
theorem on_plain {e:Eff}{d:Option Nat}{st:St} (h:plain e):e.on d st=⟨Ab.put d (valE e) st.vars,over (ov e) st.objs⟩:=by
 cases e with
 |put v=>rfl
 |new v os=>rfl
 |upd t o=>
  refine St.ext' rfl ?_
  funext s
  by_cases hs:s=t<;>simp [Eff.on,over,ov,addO,hs]
 |app t o=>exact h.elim
theorem over_comm {f g h:Nat→Option AO} (hfg:∀t,f t=none∨g t=none):over f (over g h)=over g (over f h):=by
 funext t
 unfold over
 rcases hfg t with e | e<;>rw [e]<;>cases f t<;>cases g t<;>rfl
def Yi (P:Program) (Γ:Tab) (i:AI) (st:St) (e:Eff):Prop:=
 (i.un=[]∨noMs i.un st.objs ((i.xs.map (Ab.ev st.vars)).map strip))∧(semI P Γ i st.vars st.objs fun e'=>e'=e)∧tgU i.un i.tg e
theorem semK_mono {P:Program}{Γ:Tab}{d:Option Nat}{k:AK}{xs:List AV}{objs:Nat→Option AO}{e:Eff}{C:Eff→Prop} (hC:C e) (hs:semK P Γ d k xs objs fun e'=>e'=e):semK P Γ d k xs objs C:=by
 cases k with
 |mov=>
  dsimp only [semK]at hs ⊢
  obtain⟨x,hx,hl,rfl⟩:=withO_inv hs
  rw [hx];exact⟨hl,hC⟩
 |pick=>
  dsimp only [semK]at hs ⊢
  obtain⟨x,hx,hl,rfl⟩:=withO_inv hs
  rw [hx];exact⟨hl,hC⟩
 |nilS e=>
  dsimp only [semK]at hs ⊢
  obtain⟨d,hd,ha,hw⟩:=withO_inv hs
  obtain⟨x,hx,hl,hn,rfl⟩:=withO_inv hw
  rw [hd];exact⟨ha,by rw [hx];exact⟨hl,hn,hC⟩⟩
 |box=>
  dsimp only [semK]at hs ⊢
  obtain⟨d,hd,ha,hw⟩:=withO_inv hs
  obtain⟨x,hx,hl,hn,rfl⟩:=withO_inv hw
  rw [hd];exact⟨ha,by rw [hx];exact⟨hl,hn,hC⟩⟩
 |alloc zs=>
  dsimp only [semK]at hs ⊢
  obtain⟨d,hd,ha,hw⟩:=withO_inv hs
  obtain⟨x,hx,hl,hn,rfl⟩:=withO_inv hw
  rw [hd];exact⟨ha,by rw [hx];exact⟨hl,hn,hC⟩⟩
 |bsl e sz=>
  dsimp only [semK]at hs ⊢
  obtain⟨d,hd,ha,hw⟩:=withO_inv hs
  obtain⟨x,hx,hl,hn,rfl⟩:=withO_inv hw
  rw [hd];exact⟨ha,by rw [hx];exact⟨hl,hn,hC⟩⟩
 |store n=>
  dsimp only [semK]at hs ⊢
  obtain⟨ha,hw⟩:=hs
  obtain⟨x,hx,hl,rfl⟩:=withO_inv hw
  exact⟨ha,by rw [hx];exact⟨hl,hC⟩⟩
 |app e sz bytes=>
  dsimp only [semK]at hs ⊢
  obtain⟨ha,hw⟩:=hs
  refine⟨ha,?_⟩
  by_cases ho:isOwn (xs.map strip)=true
  ·rw [if_pos ho]at hw ⊢
   obtain⟨x,hx,hl,rfl⟩:=withO_inv hw
   rw [hx];exact⟨hl,hC⟩
  ·rw [if_neg ho]at hw ⊢
   obtain⟨d,hd,hw⟩:=withO_inv hw
   obtain⟨x,hx,hl,hn,rfl⟩:=withO_inv hw
   rw [hd]
   show withO (semF _ d _ _) _
   rw [hx];exact⟨hl,hn,hC⟩
 |call f=>
  dsimp only [semK,semCall]at hs ⊢
  obtain⟨d,hd,ha,hw⟩:=withO_inv hs
  obtain⟨ys,hys,hw⟩:=withO_inv hw
  obtain⟨⟨φ,r⟩,hr,h1,h2,h3,h4,rfl⟩:=withO_inv hw
  rw [hd];exact⟨ha,by rw [hys];show withO (gt Γ f ys) _;rw [hr];exact⟨h1,h2,h3,h4,hC⟩⟩
 | _=>
  obtain⟨ha,hw⟩:=hs
  obtain⟨x,hx,hl,rfl⟩:=withO_inv hw
  exact⟨ha,by rw [hx];exact⟨hl,hC⟩⟩
theorem semG_mono {P:Program}{Γ:Tab}{c:Bool}{d:Option Nat}{k:AK}{xs:List AV}{objs:Nat→Option AO}{e:Eff}{C:Eff→Prop} (hC:C e) (hs:semG P Γ c d k xs objs fun e'=>e'=e):semG P Γ c d k xs objs C:=by
 have hmk:∀{v:AV},((c=true→semK P Γ d k xs objs fun e'=>e'=e)∧(c=false→Eff.put v=e))→((c=true→semK P Γ d k xs objs C)∧(c=false→C (.put v))):=
  fun h=>⟨fun hc=>semK_mono hC (h.1 hc),fun hc=>by rw [h.2 hc];exact hC⟩
 cases k with
 |mov=>
  dsimp only [semG]at hs ⊢
  obtain⟨x,hx,hl,rfl⟩:=withO_inv hs
  rw [hx];exact⟨hl,hC⟩
 |pick=>
  dsimp only [semG]at hs ⊢
  obtain⟨x,hx,hl,rfl⟩:=withO_inv hs
  rw [hx];exact⟨hl,hC⟩
 |nilS e=>exact hmk hs
 |box=>exact hmk hs
 |alloc zs=>exact hmk hs
 |bsl e sz=>exact hmk hs
 |store n=>exact hmk hs
 |app e sz bytes=>exact hmk hs
 |call f=>
  dsimp only [semG]at hs ⊢
  obtain⟨ys,hys,hs⟩:=withO_inv hs
  obtain⟨⟨φ,r⟩,hr,hs⟩:=withO_inv hs
  rw [hys];show withO (gt Γ f ys) _;rw [hr];show ite _ _ _
  split at hs
  ·rename_i hif;obtain⟨h1,h2,h3,h4,rfl⟩:=hs;rw [if_pos hif];exact⟨h1,h2,h3,h4,hC⟩
  ·rename_i hif;rw [if_neg hif];exact hmk hs
 | _=>
  dsimp only [semG]at hs ⊢
  obtain⟨x,hx,hl,rfl⟩:=withO_inv hs
  rw [hx];exact⟨hl,hC⟩
theorem semI_mono {P:Program}{Γ:Tab}{i:AI}{vars:Nat→AV}{objs:Nat→Option AO}{e:Eff}{C:Eff→Prop} (hC:C e) (hs:semI P Γ i vars objs fun e'=>e'=e):semI P Γ i vars objs C:=by
 unfold semI at hs ⊢
 cases hg:i.g with
 |none=>rw [hg]at hs;exact semK_mono hC hs
 |some sw=>
  obtain⟨s,w⟩:=sw
  rw [hg]at hs
  dsimp only at hs ⊢
  obtain⟨c,hc,hs⟩:=withO_inv hs
  rw [hc]
  exact semG_mono hC hs
theorem stepI_iff {P:Program}{Γ:Tab}{i:AI}{K:St→Prop}{st:St}:stepI P Γ i K st↔∃e,Yi P Γ i st e∧K (e.on i.d st):=by
 constructor
 ·rintro⟨hu,hs⟩
  obtain⟨e,⟨ht,hK⟩,he⟩:=semI_pick hs
  exact⟨e,⟨hu,he,ht⟩,hK⟩
 ·rintro⟨e,⟨hu,he,ht⟩,hK⟩
  exact⟨hu,semI_mono (C:=fun e=>tgU i.un i.tg e∧K (e.on i.d st)) ⟨ht,hK⟩ he⟩
structure Apart (x y:AI):Prop where
 xd:∀d,x.d=some d→d∉usesOf y∧y.d≠some d∧y.tg≠some d∧d < 1000
 yd:∀d,y.d=some d→d∉usesOf x∧x.tg≠some d∧d < 1000
 ya:(looksAway y.k=true∧y.un=[])∨(isApp x.k=false∧(writes x.k=true→∃s,x.tg=some s)∧∀t∈tagsOf x,t < 1000∧y.un.contains t=true)
 xa:(looksAway x.k=true∧x.un=[])∨(isApp y.k=false∧(writes y.k=true→∃s,y.tg=some s)∧∀t∈tagsOf y,t < 1000∧x.un.contains t=true)
 both:looksAway x.k=true∨looksAway y.k=true∨writes x.k=false∨writes y.k=false∨x.tg≠y.tg
theorem isSome'_iff {o:Option Nat} (h:isSome' o=true):∃s,o=some s:=by
 cases o with
 |none=>cases h
 |some s=>exact⟨s,rfl⟩
theorem apart_spec {x y:AI} (h:apartO x y=true):Apart x y:=by
 unfold apartO at h
 simp only [Bool.and_eq_true]at h
 obtain⟨⟨⟨⟨h1,h2⟩,h3⟩,h4⟩,h5⟩:=h
 refine⟨fun d hd=>?_,fun d hd=>?_,?_,?_,?_⟩
 ·rw [hd]at h1
  simp only [Bool.and_eq_true,Bool.not_eq_true',List.contains_eq_mem,decide_eq_false_iff_not,bne_iff_ne,decide_eq_true_eq]at h1
  exact⟨h1.1.1.1,h1.1.1.2,h1.1.2,h1.2⟩
 ·rw [hd]at h2
  simp only [Bool.and_eq_true,Bool.not_eq_true',List.contains_eq_mem,decide_eq_false_iff_not,bne_iff_ne,decide_eq_true_eq]at h2
  exact⟨h2.1.1,h2.1.2,h2.2⟩
 ·simp only [Bool.or_eq_true,Bool.and_eq_true,Bool.not_eq_true',List.all_eq_true,decide_eq_true_eq,List.isEmpty_iff]at h3
  refine h3.imp id fun ⟨⟨ha,hb⟩,hc⟩=>⟨ha,fun hw=>?_,fun t ht=>hc t ht⟩
  rcases hb with hb | hb
  ·rw [hb]at hw;cases hw
  ·exact isSome'_iff hb
 ·simp only [Bool.or_eq_true,Bool.and_eq_true,Bool.not_eq_true',List.all_eq_true,decide_eq_true_eq,List.isEmpty_iff]at h4
  refine h4.imp id fun ⟨⟨ha,hb⟩,hc⟩=>⟨ha,fun hw=>?_,fun t ht=>hc t ht⟩
  rcases hb with hb | hb
  ·rw [hb]at hw;cases hw
  ·exact isSome'_iff hb
 ·simp only [Bool.or_eq_true,Bool.not_eq_true',bne_iff_ne]at h5
  rcases h5 with (((h | h) | h) | h) | h
  ·exact .inl h
  ·exact .inr (.inl h)
  ·exact .inr (.inr (.inl h))
  ·exact .inr (.inr (.inr (.inl h)))
  ·exact .inr (.inr (.inr (.inr h)))
section
variable {P:Program}{Γ:Tab}{x y:AI}{st:St}{e e':Eff}
theorem lookO_tag:∀{os:List (Nat × AO)}{t:Nat}{o:AO},lookO os t=some o→∃x∈os,x.1=t
 | [],_,_,h=>by cases h
 | (s,v)::os,t,o,h=>by
  simp only [lookO]at h
  split at h
  ·rename_i hs;exact⟨(s,v),List.mem_cons_self,hs.symm⟩
  ·obtain⟨x,hx,h⟩:=lookO_tag h
   exact⟨x,List.mem_cons_of_mem _ hx,h⟩
theorem ov_tags {i:AI}{e:Eff} (he:EffOK i e) (htg:tgOK i.tg e) (hlt:∀t∈tagsOf i,t < 1000) (hw:writes i.k=true→∃s,i.tg=some s) (ha:isApp i.k=false) {t:Nat} (h:ov e t≠none):(tagsOf i).contains (t % 1000)=true:=by
 rcases he with ⟨v,rfl⟩ | ⟨hm,d,v,os,hd,rfl,hos⟩ | ⟨hwr,hm,t',o,rfl⟩ | ⟨hap,t,o,rfl⟩
 ·exact absurd rfl h
 ·cases hl:lookO os t with
  |none=>exact absurd hl h
  |some o=>
   obtain⟨x,hx,rfl⟩:=lookO_tag hl
   obtain⟨p,hp⟩:=hos x hx
   have hmem:d∈tagsOf i:=by unfold tagsOf;rw [if_pos hm,hd];simp
   rw [hp,Nat.add_mul_mod_self_left,Nat.mod_eq_of_lt (hlt d hmem)]
   simpa using hmem
 ·obtain⟨s,hs⟩:=hw hwr
  have hmem:s∈tagsOf i:=by
   unfold tagsOf
   rw [hm,hwr,hs]
   simp
  rw [hs]at htg
  have htg:t'=s:=htg
  subst htg
  have:t=t':=by
   by_cases e:t=t'
   ·exact e
   ·exact absurd (by simp [ov,e]) h
  subst this
  rw [Nat.mod_eq_of_lt (hlt t hmem)]
  simpa using hmem
 ·rw [ha]at hap;cases hap
theorem over_agree {i:AI}{e:Eff}{objs:Nat→Option AO}{U:List Nat} (he:EffOK i e) (htg:tgOK i.tg e) (hlt:∀t∈tagsOf i,t < 1000) (hU:∀t,noT U t→noT (tagsOf i) t) (hw:writes i.k=true→∃s,i.tg=some s) (ha:isApp i.k=false) :
  ∀t,noT U t→objs t=over (ov e) objs t:=by
 intro t ht
 unfold over
 cases ho:ov e t with
 |none=>rfl
 |some o=>
  have h1:=ov_tags he htg hlt hw ha (t:=t) (by rw [ho];simp)
  have h2:=hU t ht
  unfold noT at h2
  rw [h1]at h2
  cases h2
theorem Yi.across (hyx:(looksAway y.k=true∧y.un=[])∨(isApp x.k=false∧(writes x.k=true→∃s,x.tg=some s)∧∀t∈tagsOf x,t < 1000∧y.un.contains t=true))
  (hax:looksAway y.k=true∨isApp y.k=false) (hyd:∀d,y.d=some d→x.d≠some d∧x.tg≠some d∧d < 1000) (hu:∀d,x.d=some d→d∉usesOf y)
  {vars:Nat→AV}{objs objs':Nat→Option AO}{v:AV} (hag:∀T,(∀t,noT T t→noT (tagsOf x) t)→(isApp x.k=false∧(writes x.k=true→∃s,x.tg=some s)∧∀t∈tagsOf x,t < 1000)→∀t,noT T t→objs t=objs' t) :
  Yi P Γ y ⟨Ab.put x.d v vars,objs⟩ e'↔Yi P Γ y ⟨vars,objs'⟩ e':=by
 have hvs:∀s∈usesOf y,Ab.put x.d v vars s=vars s:=fun s hs=>put_off fun hd=>hu s hd hs
 have hev:y.xs.map (Ab.ev (Ab.put x.d v vars))=y.xs.map (Ab.ev vars):=evs_agree fun s hs=>hvs s (List.mem_append_left _ hs)
 have hsym:∀{f g:Nat→Option AO}{T:List Nat},(∀t,noT T t→f t=g t)→∀t,noT T t→g t=f t:=fun h t ht=>(h t ht).symm
 unfold Yi
 simp only [hev]
 rcases hyx with ⟨hy,hun⟩ | ⟨hxa,hxw,hxt⟩
 ·constructor
  ·rintro⟨_,h,ht⟩
   exact⟨.inl hun,semI_vars hvs ((semI_away_objs hy h).2 _),ht⟩
  ·rintro⟨_,h,ht⟩
   exact⟨.inl hun,semI_vars (fun s hs=>(hvs s hs).symm) ((semI_away_objs hy h).2 _),ht⟩
 ·have hsub:∀t,noT y.un t→noT (tagsOf x) t:=by
   intro t ht
   unfold noT at ht ⊢
   cases hc:(tagsOf x).contains (t % 1000) with
   |false=>rfl
   |true=>rw [(hxt _ (by simpa using hc)).2]at ht;cases ht
  have hx3:=(⟨hxa,hxw,fun t ht=>(hxt t ht).1⟩:isApp x.k=false∧(writes x.k=true→∃s,x.tg=some s)∧∀t∈tagsOf x,t < 1000)
  have hA:=hag (tagsOf x) (fun _ h=>h) hx3
  have hB:=hag y.un hsub hx3
  have hd:∀s,y.d=some s→s < 1000∧(tagsOf x).contains s=false:=by
   intro s hs
   obtain⟨h1,h2,h3⟩:=hyd s hs
   refine⟨h3,?_⟩
   unfold tagsOf
   split
   ·cases hxd:x.d with
    |none=>rfl
    |some d=>
     have:¬ d=s:=fun e=>h1 (by rw [hxd,e])
     simpa [Option.toList,eq_comm]using this
   ·split
    ·cases hxd:x.tg with
     |none=>rfl
     |some d=>
      have:¬ d=s:=fun e=>h2 (by rw [hxd,e])
      simpa [Option.toList,eq_comm]using this
    ·rfl
  by_cases hy:looksAway y.k=true
  ·constructor
   ·rintro⟨hn,h,ht⟩
    exact⟨hn.imp id fun hn=>noMs_agree hB hn,semI_vars hvs ((semI_away_objs hy h).2 _),ht⟩
   ·rintro⟨hn,h,ht⟩
    exact⟨hn.imp id fun hn=>noMs_agree (hsym hB) hn,semI_vars (fun s hs=>(hvs s hs).symm) ((semI_away_objs hy h).2 _),ht⟩
  ·have hya:=hax.resolve_left hy
   have hne:y.un=[]→∀(f:Nat→Option AO) (l:List AV),noMs (tagsOf x) f l:=by
    intro hun f l
    have hnil:tagsOf x=[]:=by
     cases h:tagsOf x with
     |nil=>rfl
     |cons t ts=>
      have:=(hxt t (by rw [h];simp)).2
      rw [hun]at this
      simp at this
    rw [hnil]
    have hT:∀t,noT [] t:=fun t=>rfl
    have hC:∀v,noMC [] v:=fun v=>by cases v<;>first | trivial | exact hT _
    have hCs:∀cs,noMCs [] cs:=fun cs=>by induction cs with
     |nil=>trivial
     |cons c cs ih=>exact⟨hC c,ih⟩
    have hP:∀v,noMP [] f v:=fun v=>by
     rcases ptrOr v with ⟨t,o,rfl⟩ | ⟨cs,rfl⟩ | h2
     ·exact⟨hT _,hCs _⟩
     ·exact hCs _
     ·rw [h2];exact hC _
    have hPs:∀cs,noMPs [] f cs:=fun cs=>by induction cs with
     |nil=>trivial
     |cons c cs ih=>exact⟨hP c,ih⟩
    induction l with
    |nil=>trivial
    |cons c cs ih=>
     refine⟨?_,ih⟩
     rcases cloOr c with ⟨f,cs,rfl⟩ | ⟨_,h2⟩
     ·exact hPs _
     ·rw [h2];exact hP _
   constructor
   ·rintro⟨hn,h,ht⟩
    refine⟨hn.imp id fun hn=>noMs_agree hB hn,?_,ht⟩
    have h:=semI_vars hvs h
    refine semI_local hA hya hd (.inr ?_) h
    rcases hn with hn | hn
    ·exact hne hn _ _
    ·exact noMs_sub hsub hn
   ·rintro⟨hn,h,ht⟩
    refine⟨hn.imp id fun hn=>noMs_agree (hsym hB) hn,?_,ht⟩
    have h:=semI_vars (vars':=Ab.put x.d v vars) (fun s hs=>(hvs s hs).symm) h
    refine semI_local (hsym hA) hya hd (.inr ?_) h
    rw [hev]
    rcases hn with hn | hn
    ·exact hne hn _ _
    ·exact noMs_sub hsub hn
end
end Go.Proofs.Ytlmkcmfmfahcfaa.Ab
