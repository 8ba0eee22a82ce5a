/- The abstract machine is sound: a call of a function that takes objects whole, or borrows them. -/
import Derived.Test.YtifcndkhigakfaaGreatX5
import Derived.Laws.StructEq
import Derived.MapKept
import Derived.Lib.LazyBuf
import Derived.Laws.Externs
import Derived.Lib.AppendZeros
import Derived.Laws.MakeOwn
set_option linter.unusedVariables false
set_option linter.unusedSimpArgs false
set_option linter.unnecessarySimpa false
set_option maxHeartbeats 40000000
set_option maxRecDepth 100000
namespace Go.Proofs.YtifcndkhigakfaaGreat.Ab
open Go Go.RowKit
section
variable{P:Program}{S S':Nat→Prop}{w w':World}{β β':Nat→Value}{D D':Nat→Prop}{aa objs':Nat→Option AO}
theorem HT.mono (hS:∀b,S b→S' b) {v:Value}{y:AV}{bs:List Nat} (h:HT P S w v y bs):HT P S' w v y bs:=by have hS2:∀b,S b→S' b∧w.heap[b]?=w.heap[b]?:=fun b hb=>⟨hS b hb,rfl⟩;induction h with|leaf v y h=>exact .leaf v y (h.mono hS2 fun _ hf=>hf.elim)|fr v e rows inf us h1 h2 h3 h4=>exact .fr v e rows inf us h1 h2 h3 fun i j r p a b=>by obtain⟨u,c,d,e⟩:=h4 i j r p a b;exact⟨u,c,d,e.mono hS2⟩|mf b us c es h1 hst h2 h3=>exact .mf b us c es h1 hst h2 fun i e u a b=>⟨(h3 i e u a b).1,(h3 i e u a b).2.1,(h3 i e u a b).2.2.1,(h3 i e u a b).2.2.2.mono hS2⟩|bx b us ty cs bss h1 h2 h3 h4 h5 ih=>exact .bx b us ty cs bss h1 h2 h3 h4 ih|agg us cs bss h1 h2 h3 ih=>exact .agg us cs bss h1 h2 ih|aS us cs bss h1 h2 h3 ih=>exact .aS us cs bss h1 h2 ih
theorem qa:∀(n:Nat) {v:Value}{y:AV},jx n y→RV P S w (fun _=>undef) (fun _=>False) v y→RV P S' w (fun _=>undef) (fun _=>False) v y
 |0,_,_,h,_=>h.elim|n+1,v,y,h,hv=>by
  unfold jx at h;split at h;·cases hv
  ·cases hv
  ·cases hv
  ·obtain⟨us,rfl,hl,hc⟩:=hv.cN;exact .agg _ us hl fun i c u a b=>qa n (h c (List.mem_of_getElem? a)) (hc i c u a b)
  ·obtain⟨us,rfl,hl,hc⟩:=hv.iE;exact .aS _ us hl fun i c u a b=>qa n (h c (List.mem_of_getElem? a)) (hc i c u a b)
  ·exact .pv _ _ (fp hv.bm h)
  ·obtain⟨us,rfl,hl,_⟩:=hv.mP;exact .bZ _ [] us hl fun i c u hc=>by simp at hc
  ·exact h.elim
theorem HT.flat:∀(n:Nat) {v:Value}{y:AV}{bs:List Nat},jx n y→HT P S w v y bs→HT P S' w v y bs|0,_,_,_,h,_=>h.elim|n+1,v,y,bs,hf,h=>by cases h with|leaf v y h=>exact .leaf v y (qa (n+1) hf h)|fr v e rows inf us h1 h2 h3 h4=>exact .fr v e rows inf us h1 h2 h3 fun i j r p a b=>by obtain⟨u,c,d,e⟩:=h4 i j r p a b;exact⟨u,c,d,fp e (hf r (List.mem_of_getElem? a) p (List.mem_of_getElem? b))⟩|mf b us c es h1 hst h2 h3=>exact .mf b us c es h1 hst h2 fun i e u a b=>⟨(h3 i e u a b).1,(h3 i e u a b).2.1,(h3 i e u a b).2.2.1,fp (h3 i e u a b).2.2.2 (hf e (List.mem_of_getElem? a))⟩|bx b us ty cs bss h1 h2 h3 h4 h5=>exact .bx b us ty cs bss h1 h2 h3 h4 fun i c u bs a b d=>HT.flat n (hf c (List.mem_of_getElem? a)) (h5 i c u bs a b d)|agg us cs bss h1 h2 h3=>exact .agg us cs bss h1 h2 fun i c u bs a b d=>HT.flat n (hf c (List.mem_of_getElem? a)) (h3 i c u bs a b d)|aS us cs bss h1 h2 h3=>exact .aS us cs bss h1 h2 fun i c u bs a b d=>HT.flat n (hf c (List.mem_of_getElem? a)) (h3 i c u bs a b d)
theorem tf:∀(n:Nat) {x:AV}{r:AV×List Nat},rd n aa x=some r→(∀t∈r.2,aG aa t)∧∀l,r.1≠.aS l
 |0,_,_,h=>by cases h|n+1,x,r,h=>by
  have lst:∀{l:List AV}{q:List AV×List Nat},Ie (rd n aa) l=some q→∀t∈q.2,aG aa t:=by intro l;induction l with|nil=>intro q h;cases h;intro t ht;simp at ht|cons c l ih=>
   intro q h t ht;obtain⟨r,hr,h⟩:=Option.bind_eq_some_iff.1 h;obtain⟨q',hq,rfl⟩:=Option.map_eq_some_iff.1 h;rcases List.mem_append.1 ht with ht|ht;·exact(tf n hr).1 t ht
   ·exact ih hq t ht
  unfold rd at h;split at h
  ·rename_i t;obtain⟨y,hy,rfl⟩:=Option.map_eq_some_iff.1 h;unfold RS at hy;split at hy;·rename_i ho;cases hy;exact⟨fun s hs=>by simp only[List.mem_singleton]at hs;rw[hs];exact⟨_,ho⟩,fun l e=>by cases e⟩
   ·rename_i ho;cases hy;exact⟨fun s hs=>by simp only[List.mem_singleton]at hs;rw[hs];exact⟨_,ho⟩,fun l e=>by cases e⟩
   ·cases hy
  ·obtain⟨cs,hc,h⟩:=Option.bind_eq_some_iff.1 h;obtain⟨q,hq,rfl⟩:=Option.map_eq_some_iff.1 h;refine⟨fun s hs=>?_,fun l e=>by cases e⟩;rcases List.mem_cons.1 hs with rfl|hs;·exact⟨_,fD hc⟩
   ·exact lst hq s hs
  ·obtain⟨q,hq,rfl⟩:=Option.map_eq_some_iff.1 h;exact⟨lst hq,fun l e=>by cases e⟩
  ·cases h;exact⟨fun t ht=>by simp at ht,fun l e=>by cases e⟩
  ·cases h;exact⟨fun t ht=>by simp at ht,fun l e=>by cases e⟩
  ·cases h;exact⟨fun t ht=>by simp at ht,fun l e=>by cases e⟩
  ·cases h
theorem ND {x y:AV} (h:nW aa x=some y):∀l,y≠.aS l:=by
 intro l e;subst e;have h1:∀x,fg aa x≠some (.aS l):=by
  intro x h;unfold fg at h;split at h;·obtain⟨_,_,h⟩:=Option.bind_eq_some_iff.1 h;obtain⟨_,_,h⟩:=Option.map_eq_some_iff.1 h;cases h
  ·cases h
  ·obtain⟨_,_,h⟩:=Option.map_eq_some_iff.1 h;cases h
  ·cases h
  ·obtain⟨_,_,h⟩:=Option.map_eq_some_iff.1 h;cases h
 unfold nW at h;split at h;·obtain⟨_,_,h⟩:=Option.map_eq_some_iff.1 h;cases h
 ·exact h1 _ h
theorem Gu {y:AV} (h:∀l,y≠.aS l):Il y=false∧I1 y=y:=by cases y<;>first|exact⟨rfl,rfl⟩|exact absurd rfl (h _)
theorem G6 (hh:Heap P S w β aa) (hS:∀b,S b→S' b) {T:List Nat} (hh':Heap P S w β objs') (hw:∀{v x},RV P S w β (aG aa) v x→RV P S w β (aG objs') v (fB T x)):∀{ks:List Nat}{xs ys:List AV}{vals:List Value},E6 aa objs' T ks xs=some ys→vals.length=xs.length→(∀(i:Nat) (v:Value) (x:AV),vals[i]?=some v→xs[i]?=some x→RV P S w β (aG aa) v x)→(fk T ks xs=true∨∀t b,aG objs' t→ct (β t)=some b→S' b)→∃bss,FE P S' w vals (ys.map I1) bss∧bss.flatten=dm β (fu aa ks xs)∧(∀t∈fu aa ks xs,aG aa t)∧(ew ys vals).length=(eO ks xs).length∧∀(i:Nat) (c:AV) (u:Value),(eO ks xs)[i]?=some c→(ew ys vals)[i]?=some u→RV P S w β (aG aa) u c
 |[],[],ys,vals,h,hl,_,_=>by cases h;cases vals with|nil=>exact⟨[],⟨rfl,rfl,fun i y v bs h=>by simp at h⟩,rfl,fun t ht=>by simp[fu]at ht,rfl,fun i c u hc=>by simp[eO]at hc⟩|cons v vs=>simp at hl
 |[],_::_,_,_,h,_,_,_=>by cases h|_::_,[],_,_,h,_,_,_=>by cases h|k::ks,x::xs,ys,vals,h,hl,hv,hp=>by obtain⟨y,hy,h⟩:=Option.bind_eq_some_iff.1 h;obtain⟨ys,hys,rfl⟩:=Option.map_eq_some_iff.1 h;match vals,hl with
  |v::vals,hl=>
   have hp':(k !=0||dZ (fB T x))=true∧fk T ks xs=true∨∀t b,aG objs' t→ct (β t)=some b→S' b:=by
    rcases hp with h|h;·left;simpa[fk]using h
    ·exact .inr h
   obtain⟨bss,⟨l1,l2,hts⟩,hfl,hdm,hln,hlv⟩:=G6 hh hS hh' hw hys (by simpa using hl) (fun i v x a b=>hv (i+1) v x (by simpa using a) (by simpa using b)) (hp'.imp And.right id);have hvx:=hv 0 v x rfl rfl;have one:∃bs,HT P S' w v (I1 y) bs∧bs=dm β (if k=0 then[] else((rd 5 aa x).map (·.2)).getD [])∧(∀t∈(if k=0 then[] else((rd 5 aa x).map (·.2)).getD []),aG aa t)∧(Il y=true↔1<k):=by
    by_cases h0:k=0;·subst h0;simp only[if_true]at hy ⊢;obtain⟨e1,e2⟩:=Gu (ND hy);refine⟨[],.leaf _ _ ?_,rfl,fun t ht=>by simp at ht,by rw[e1];simp⟩;rw[e2];exact qb hh' hS (hw hvx) hy (hp'.imp (fun h=>by simpa using h.1) id)
    ·simp only[if_neg h0]at hy ⊢;by_cases h1:k=1;·subst h1;simp only[if_true]at hy;obtain⟨r,hr,rfl⟩:=Option.map_eq_some_iff.1 hy;obtain⟨e1,e2⟩:=Gu (tf 5 hr).2;obtain⟨m1,m2⟩:=DQ (P:=P) 5 hr;refine⟨_,lE hh hS 5 (y:=I1 r.1) (by rw[e2];exact m1) hvx,by rw[hr,m2];rfl,fun t ht=>(tf 5 hr).1 t (by simpa[hr]using ht),by rw[e1];simp⟩
     ·simp only[if_neg h1]at hy;obtain⟨r,hr,rfl⟩:=Option.map_eq_some_iff.1 hy;obtain⟨m1,m2⟩:=DQ (P:=P) 5 hr;refine⟨_,lE hh hS 5 (y:=I1 (.aS [r.1])) m1 hvx,by rw[hr,m2];rfl,fun t ht=>(tf 5 hr).1 t (by simpa[hr]using ht),by simp only[Il,true_iff];omega⟩
   obtain⟨bs,hbt,rfl,hbd,hk⟩:=one;refine⟨_::bss,⟨by simpa using l1,by simpa using l2,fun i y' v' bs' a b c=>?_⟩,by rw[List.flatten_cons,hfl];exact(ft β _ _).symm,fun t ht=>?_,?_,fun i c u=>?_⟩;·cases i with|zero=>simp only[List.map_cons,List.getElem?_cons_zero,Option.some.injEq]at a b c;rw[←a,←b,←c];exact hbt|succ i=>exact hts i y' v' bs' (by simpa using a) (by simpa using b) (by simpa using c)
   ·rcases List.mem_append.1 ht with ht|ht;·exact hbd t ht
    ·exact hdm t ht
   ·by_cases hc:1<k;·simp only[ew,hk.2 hc,eO,hc,if_true,List.length_cons,hln]
    ·have:Il y=false:=by cases he:Il y with|false=>rfl|true=>exact absurd (hk.1 he) hc
     simp only[ew,this,eO,hc,if_false,hln,Bool.false_eq_true]
   ·by_cases hc:1<k;·simp only[ew,hk.2 hc,eO,hc,if_true];intro a b;cases i with|zero=>simp only[List.getElem?_cons_zero,Option.some.injEq]at a b;rw[←a,←b];exact hvx|succ i=>exact hlv i c u (by simpa using a) (by simpa using b)
    ·have:Il y=false:=by cases he:Il y with|false=>rfl|true=>exact absurd (hk.1 he) hc
     simp only[ew,this,eO,hc,if_false,Bool.false_eq_true];exact hlv i c u
theorem DL {D':Nat→Prop}{u:Value}{c:AV} (h:RV P S w β D u c) (h':RV P S' w' β' D' u c):∀t∈rO c,β' t=β t∧D' t:=by
 intro t ht;unfold rO at ht;split at ht;·simp only[List.mem_singleton]at ht;subst ht;exact⟨h'.aT.1.symm.trans h.aT.1,h'.aT.2⟩
 ·simp only[List.mem_singleton]at ht;subst ht;obtain⟨b,e1,_,hb⟩:=h.eg;obtain⟨b',e2,hd,hb'⟩:=h'.eg;rw[hb,hb',←e1,←e2];exact⟨rfl,hd⟩
 ·simp at ht
theorem Jt {D':Nat→Prop}{u:Value}{c:AV} (h:RV P S w β D u c) (h':RV P S' w' β' D' u c):∀t∈sD c,β' t=β t∧D' t:=by
 by_cases hx:∃cs,c=.agg cs
 ·obtain⟨cs,rfl⟩:=hx;intro t ht;obtain⟨c,hc,ht⟩:=List.mem_flatMap.1 ht;obtain⟨us,rfl,hl,hcs⟩:=h.cN;obtain⟨us',e,hl',hcs'⟩:=h'.cN;have:us=us':=by simpa using e
  subst this;obtain⟨i,hi⟩:=List.getElem?_of_mem hc;have hlt:i<us.length:=by rw[hl];exact(List.getElem?_eq_some_iff.1 hi).1
  exact DL (hcs i c _ hi (List.getElem?_eq_getElem hlt)) (hcs' i c _ hi (List.getElem?_eq_getElem hlt)) t ht
 ·have:sD c=rO c:=by cases c<;>first|rfl|exact absurd ⟨_,rfl⟩ hx
  rw[this];exact DL h h'
theorem FE.snoc {vs:List Value}{ys:List AV}{v:Value}{y:AV}{bss:List (List Nat)} (h:FE P S w (vs++[v]) (ys++[y]) bss) (hl:vs.length=ys.length):∃b1 bl,bss=b1++[bl]∧FE P S w vs ys b1∧HT P S w v y bl:=by
 obtain⟨h1,h2,h3⟩:=h;have hl2:bss.length=ys.length+1:=by simpa using h2
 have hne:bss≠[]:=by intro e;rw[e]at hl2;simp at hl2
 obtain⟨b1,bl,rfl⟩:∃b1 bl,bss=b1++[bl]:=⟨bss.dropLast,bss.getLast hne,(List.dropLast_concat_getLast hne).symm⟩;have hb1:b1.length=ys.length:=by simpa using hl2
 refine⟨b1,bl,rfl,⟨hl,hb1,fun i y' v' bs a b c=>?_⟩,h3 ys.length y v bl (by simp) (by rw[←hl];simp) (by rw[←hb1];simp)⟩;have k1:=(List.getElem?_eq_some_iff.1 a).1;exact h3 i y' v' bs (by rw[List.getElem?_append_left k1];exact a) (by rw[List.getElem?_append_left (by omega)];exact b) (by rw[List.getElem?_append_left (by omega)];exact c)
end
theorem wg {aa:Nat→Option AO}:∀(ks:List Nat) (xs:List AV) (t:Nat),t∈fu aa ks xs→aG aa t
 |[],_,_,ht=>by simp[fu]at ht|_::_,[],_,ht=>by simp[fu]at ht|k::ks,x::xs,t,ht=>by
  rcases List.mem_append.1 ht with ht|ht
  ·by_cases h0:k=0;·simp[h0]at ht
   ·rw[if_neg h0]at ht;cases hr:rd 5 aa x with|none=>rw[hr]at ht;simp at ht|some r=>rw[hr]at ht;exact(tf 5 hr).1 t (by simpa using ht)
  ·exact wg ks xs t ht
theorem kP:∀{os:List (Nat×AO)}{t:Nat}{o:AO},ab os t=some o→(t,o)∈os
 |[],_,_,h=>by cases h|(s,o')::os,t,o,h=>by
  simp only[ab]at h;split at h;·rename_i e;cases h;rw[e];exact List.mem_cons_self
  ·exact List.mem_cons_of_mem _ (kP h)
theorem mH:∀{os:List (Nat×AO)}{p:Nat×AO},p∈os→∃o,ab os p.1=some o
 |[],_,h=>by simp at h|(s,o')::os,p,h=>by
  simp only[ab];split;·exact⟨o',rfl⟩
  ·rename_i hne;rcases List.mem_cons.1 h with rfl|h;·exact absurd rfl hne
   ·exact mH h
section
variable{P:Program}{S0 L:Nat→Prop}{B0:Nat→Value}{w0 w:World}{N:Nat}{st:St}{a:Act}{β:Nat→Value}
theorem G0 {T:List Nat} (hL:T≠[]→∀b,L b→S0 b) (h:Rel P S0 L B0 w0 N st a w β) {f:FuncId}{d:Nat} (hd9:d%1000≠999) {ks:List Nat}{vals:List Value}{xs ys:List AV}{x:AV}{Q W:List Nat} (hl:vals.length=xs.length) (hv:∀(i:Nat) (v:Value) (x:AV),vals[i]?=some v→xs[i]?=some x→RV P (aU S0 w0.heap.size β st.aa w) w β (aG st.aa) v x) (hT:T=fu st.aa ks xs) (hQ:Q=(eO ks xs).flatMap sD) (hW:W=T.filter fun t=>!Q.contains t) (hTn:T.Nodup) (hQT:∀t∈Q,t∈T) (hQn:(Q++pf d T W).Nodup) (hys:E6 st.aa (eY T T st.aa) T ks xs=some ys) (hcon:Bv P f ys x) (hpf:fk T ks xs=true∨∀y∈lC x++[kL x],jx 5 y) {o:List AV×List (Nat×AO)×List Nat×List Nat} (ho:pX (num 5 true) (lC x) (Q,pf d T W)=some o) (ho1:o.1=eO ks xs) {r:AV×List (Nat×AO)×List Nat×List Nat} (hr:num 5 false (kL x) o.2.2=some r) (hfree:∀p∈o.2.1++r.2.1,T.contains p.1=true∨st.aa p.1=none):Calls P f vals.toArray w fun e w'=>∃v β',e=.returned v∧Rel P S0 L B0 w0 N ⟨iy W st.vars,bA (o.2.1++r.2.1) (eY T W st.aa)⟩ a w' β'∧RV P (aU S0 w0.heap.size β' (bA (o.2.1++r.2.1) (eY T W st.aa)) w') w' β' (aG (bA (o.2.1++r.2.1) (eY T W st.aa))) v r.1:=by classical
 let S:=aU S0 w0.heap.size β st.aa w;have hTd:∀t∈T,aG st.aa t:=by intro t ht;rw[hT]at ht;exact wg _ _ t ht
 have hTlive:∀b∈dm β T,live β st.aa b∧b<w.heap.size:=by intro b hb;obtain⟨t,ht,hb⟩:=List.mem_filterMap.1 hb;obtain⟨o,ho⟩:=hTd t ht;exact⟨⟨t,o,ho,hb⟩,h.lt ⟨o,ho⟩ hb⟩
 have hTinj:∀t b,aG st.aa t→t∉T→ct (β t)=some b→b∉dm β T:=by intro t b ht hn hb hm;obtain⟨s,hs,hb'⟩:=List.mem_filterMap.1 hm;exact hn (h.heap.inj t s b ht (hTd s hs) hb hb'▸hs)
 have hTnd:(dm β T).Nodup:=by
  have:∀l:List Nat,l.Nodup→(∀t∈l,aG st.aa t)→(dm β l).Nodup:=by intro l;induction l with|nil=>intro _ _;exact List.nodup_nil|cons t l ih=>
   intro hn hd;rw[List.nodup_cons]at hn;have e:dm β (t::l)=(ct (β t)).toList++dm β l:=by rw[←ka];exact ft β [t] l
   rw[e];cases hb:ct (β t) with|none=>exact ih hn.2 fun t ht=>hd t (List.mem_cons_of_mem _ ht)|some b=>show(b::dm β l).Nodup;rw[List.nodup_cons];refine⟨fun hm=>?_,ih hn.2 fun t ht=>hd t (List.mem_cons_of_mem _ ht)⟩;obtain⟨s,hs,hb'⟩:=List.mem_filterMap.1 hm;exact hn.1 (h.heap.inj t s b (hd t List.mem_cons_self) (hd s (List.mem_cons_of_mem _ hs)) hb hb'▸hs)
  exact this T hTn hTd
 have hcT:∀t,T.contains t=true↔t∈T:=fun t=>by simp
 have hdom':∀t,aG (eY T T st.aa) t↔(t∉T∧aG st.aa t):=by
  intro t;simp only[aG,eY];constructor
  ·rintro⟨o,ho⟩;split at ho;·cases ho
   ·rename_i hc;obtain⟨o',ho',_⟩:=Option.map_eq_some_iff.1 ho;exact⟨fun hm=>hc ((hcT t).2 hm),o',ho'⟩
  ·rintro⟨hn,o,ho⟩;exact⟨kc T o,by rw[if_neg (fun hc=>hn ((hcT t).1 hc)),ho];rfl⟩
 have hDw:∀s,aG st.aa s→T.contains s=false→aG (eY T T st.aa) s∧β s=β s:=fun s hs hc=>⟨(hdom' s).2 ⟨fun hm=>absurd ((hcT s).2 hm) (by rw[hc];exact Bool.false_ne_true),hs⟩,rfl⟩;have hwp:∀{v x},RV P S w β (aG st.aa) v x→RV P S w β (aG (eY T T st.aa)) v (fB T x):=fun hx=>hx.fB (fun b hb=>⟨hb,rfl⟩) hDw;have hh':Heap P S w β (eY T T st.aa):=by
  refine⟨fun t o ht=>?_,fun t t' b ht ht'=>h.heap.inj t t' b ((hdom' t).1 ht).2 ((hdom' t').1 ht').2⟩;simp only[eY]at ht;split at ht;·cases ht
  ·obtain⟨o',ho',rfl⟩:=Option.map_eq_some_iff.1 ht;exact(h.heap.holds t o' ho').fB (fun b hb=>⟨hb,rfl⟩) hDw rfl (fun _ _=>rfl)
 obtain⟨S1,hS1,hS1b,hcase⟩:∃S1:Nat→Prop,(∀b,S b→S1 b)∧(∀b,S1 b→b<w.heap.size∧b∉dm β T)∧((fk T ks xs=true∧S1=S)∨((∀y∈lC x++[kL x],jx 5 y)∧∀b,b<w.heap.size→b∉dm β T→S1 b)):=by
  have hSb:∀b,S b→b<w.heap.size∧b∉dm β T:=fun b hb=>⟨hb.2.1,fun hm=>hb.2.2 (hTlive b hm).1⟩;rcases hpf with hp|hp;·exact⟨S,fun b hb=>hb,hSb,.inl ⟨hp,rfl⟩⟩
  ·exact⟨fun b=>b<w.heap.size∧b∉dm β T,hSb,fun b hb=>hb,.inr ⟨hp,fun b h1 h2=>⟨h1,h2⟩⟩⟩
 obtain⟨bss,hts,hbs,_,hln,hlv⟩:=G6 h.heap hS1 hh' hwp hys hl hv (hcase.imp And.left fun hc t b ht hb=>hc.2 b (h.lt ((hdom' t).1 ht).2 hb) (hTinj t b ((hdom' t).1 ht).2 ((hdom' t).1 ht).1 hb));rw[←hT]at hbs;refine(hcon w S1 vals bss (fun b hb=>by rw[hbs];exact hS1b b hb) (by rw[hbs];exact hTnd) hts).mono ?_;rw[hbs];rintro e w' ⟨v,bss',rfl,hfr,hnd,hloc,hres⟩;let S3:Nat→Prop:=fun b=>(S0 b∨w0.heap.size≤b)∧b<w'.heap.size∧b∉bss'.flatten∧¬∃t,aG st.aa t∧t∉T∧ct (β t)=some b;have hTold:∀b∈dm β T,S0 b∨w0.heap.size≤b:=by intro b hb;obtain⟨t,ht,hb⟩:=List.mem_filterMap.1 hb;exact(h.old t b (hTd t ht) hb).elim .inr fun hl=>.inl (hL (fun e=>by rw[e]at ht;cases ht) b hl)
 have hres3:FE P S3 w' (ew ys vals++[v]) (lC x++[kL x]) bss':=by
  refine⟨hres.1,hres.2.1,fun i y u bs a1 a2 a3=>?_⟩;have hx:=hres.2.2 i y u bs a1 a2 a3;rcases hcase with⟨_,hSe⟩|⟨hfl,_⟩
  ·refine hx.mono ?_;rw[hSe];rintro b ⟨h1,h2,h3⟩;refine⟨?_,h2,h3,?_⟩
   ·rcases h1 with h1|h1|h1;·exact h1.1
    ·exact hTold b h1
    ·exact .inr (Nat.le_trans h.bS.size h1)
   ·rintro⟨t,ht,hn,hb⟩;rcases h1 with h1|h1|h1;·obtain⟨o,ho⟩:=ht;exact h1.2.2 ⟨t,o,ho,hb⟩
    ·exact hTinj t b ht hn hb h1
    ·have:=h.lt ht hb;omega
  ·exact hx.flat 5 (hfl y (List.mem_of_getElem? a1))
 obtain⟨p1,n1,l1⟩:=og (P:=P) (S:=S3) (S':=S3) (w:=w') (pP (fun b hb=>hb) 5 true) (lC x) _ o ho;obtain⟨p2,l2⟩:=pP (P:=P) (S:=S3) (S':=S3) (w:=w') (fun b hb=>hb) 5 false _ _ r hr;have hlen:(ew ys vals).length=(lC x).length:=by rw[hln,←ho1,n1]
 obtain⟨b1,bl,rfl,ht1,ht2⟩:=hres3.snoc hlen;rw[List.flatten_append,List.nodup_append]at hnd;have ebl:[bl].flatten=bl:=by simp
 rw[ebl]at hnd;have hsn:=p1.nodup_iff.2 hQn;rw[List.nodup_append]at hsn;have k1:=l1 (ew ys vals) b1 ht1 hnd.1 hQn;have k2:=l2 v bl ht2 hnd.2.1 hsn.2.1;have hsub2:∀p∈r.2.1,p.1∈o.2.2.1++o.2.2.2:=fun p hp=>p2.mem_iff.1 (List.mem_append_left _ (List.mem_map_of_mem hp));obtain⟨βn,c1,c2,c3⟩:=k1.append k2 (fun b hb hb'=>hnd.2.2 b hb b hb' rfl) fun p hp q hq e=>hsn.2.2 _ (List.mem_map_of_mem hp) _ (hsub2 q hq) e;have ebs:(b1++[bl]).flatten=b1.flatten++bl:=by rw[List.flatten_append,ebl]
 rw[ebs]at hloc;have htag:∀p∈o.2.1++r.2.1,p.1∈Q++pf d T W:=by
  intro p hp;rcases List.mem_append.1 hp with hp|hp;·exact p1.mem_iff.1 (List.mem_append_left _ (List.mem_map_of_mem hp))
  ·exact p1.mem_iff.1 (List.mem_append_right _ (hsub2 p hp))
 generalize hos:o.2.1++r.2.1=os at*;let β2:Nat→Value:=fun t=>if∃p∈os,p.1=t then βn t else β t;let objs2:Nat→Option AO:=bA os (eY T W st.aa);have hβn:∀p∈os,β2 p.1=βn p.1:=fun p hp=>if_pos ⟨p,hp,rfl⟩;have hβo:∀t,(∀p∈os,p.1≠t)→β2 t=β t:=fun t ht=>if_neg fun⟨p,hp,e⟩=>ht p hp e;have hobj:∀t o',objs2 t=some o'→((t,o')∈os)∨((∀p∈os,p.1≠t)∧t∉T∧∃o0,st.aa t=some o0∧o'=kc W o0):=by intro t o' ho';simp only[objs2,bA]at ho';cases hlk:ab os t with|some o1=>rw[hlk]at ho';cases ho';exact .inl (kP hlk)|none=>
  rw[hlk]at ho';simp only[eY]at ho';split at ho';·cases ho'
  ·rename_i hc;obtain⟨o0,h0,rfl⟩:=Option.map_eq_some_iff.1 ho';refine .inr ⟨fun p hp e=>?_,fun hm=>hc ((hcT t).2 hm),o0,h0,rfl⟩;obtain⟨o1,h1⟩:=mH hp;rw[e,hlk]at h1;cases h1
 have hdn:∀p∈os,aG objs2 p.1:=fun p hp=>by obtain⟨o1,h1⟩:=mH hp;exact⟨o1,by simp only[objs2,bA,h1]⟩
 have hdo:∀t,aG st.aa t→t∉T→aG objs2 t∧β2 t=β t:=by
  rintro t ⟨o0,h0⟩ hn;have hne:∀p∈os,p.1≠t:=fun p hp e=>by
   rcases hfree p hp with hc|hc;·exact hn (e▸(hcT _).1 hc)
   ·rw[e,h0]at hc;cases hc
  refine⟨?_,hβo t hne⟩;cases hlk:ab os t with|some o1=>exact absurd rfl (hne (t,o1) (kP hlk))|none=>exact⟨kc W o0,by simp only[objs2,bA,hlk,eY];rw[if_neg (fun hc=>hn ((hcT t).1 hc)),h0];rfl⟩
 have hlaid:=c1 β2 (aG objs2) fun p hp=>⟨hβn p hp,hdn p hp⟩;have hpin:∀t∈Q,β2 t=β t∧aG objs2 t:=by
  intro t ht;rw[hQ]at ht;obtain⟨c,hc,ht⟩:=List.mem_flatMap.1 ht;obtain⟨i,hi⟩:=List.getElem?_of_mem hc;have hlt:i<(ew ys vals).length:=by rw[hln];exact(List.getElem?_eq_some_iff.1 hi).1
  have hu:=List.getElem?_eq_getElem hlt;exact Jt (hlv i c _ hi hu) (hlaid.2.1 i c _ (by rw[ho1];exact hi) hu) t ht
 have hD:∀s,aG st.aa s→W.contains s=false→aG objs2 s∧β2 s=β s:=by
  intro s hs hc;by_cases hm:s∈T
  ·have:s∈Q:=by
    by_cases hq:s∈Q;·exact hq
    ·have:s∈W:=by rw[hW];exact List.mem_filter.2 ⟨hm,by simpa using hq⟩
     rw[List.contains_iff_mem.2 this]at hc;cases hc
   exact⟨(hpin s this).2,(hpin s this).1⟩
  ·exact hdo s hs hm
 have hnewb:∀p∈os,∀b,ct (β2 p.1)=some b→b∈b1.flatten++bl:=fun p hp b hb=>by rw[hβn p hp]at hb;exact c2 p hp b hb
 have hlive2:∀b,live β2 objs2 b→b∈b1.flatten++bl∨∃t,aG st.aa t∧t∉T∧ct (β t)=some b:=by
  rintro b ⟨t,o',ho',hb⟩;rcases hobj t o' ho' with hm|⟨h1,h2,o0,h3,_⟩;·exact .inl (hnewb _ hm b hb)
  ·rw[hβo t h1]at hb;exact .inr ⟨t,⟨o0,h3⟩,h2,hb⟩
 have hsame:∀b,b<w.heap.size→b∉dm β T→w'.heap[b]?=w.heap[b]?:=fun b h1 h2=>hfr.block b h1 h2;have hm:∀b,S b→aU S0 w0.heap.size β2 objs2 w' b∧w'.heap[b]?=w.heap[b]?:=by
  rintro b ⟨h1,h2,h3⟩;have hnT:b∉dm β T:=fun hm=>h3 (hTlive b hm).1;refine⟨⟨h1,Nat.lt_of_lt_of_le h2 hfr.size,fun hl=>?_⟩,hsame b h2 hnT⟩;rcases hlive2 b hl with hb|⟨t,⟨o0,h0⟩,_,hb⟩
  ·rcases hloc b hb with h4|h4;·omega
   ·exact hnT h4
  ·exact h3 ⟨t,o0,h0,hb⟩
 have hm3:∀b,S3 b→aU S0 w0.heap.size β2 objs2 w' b∧w'.heap[b]?=w'.heap[b]?:=by
  rintro b ⟨h1,h2,h3,h4⟩;refine⟨⟨h1,h2,fun hl=>?_⟩,rfl⟩;rcases hlive2 b hl with hb|hb;·exact h3 (by rw[ebs];exact hb)
  ·exact h4 hb
 have hrel:Rel P S0 L B0 w0 N ⟨iy W st.vars,objs2⟩ a w' β2:=by
  refine⟨h.size,h.defers,fun s=>(h.vars s).fB hm hD,⟨fun t o' ho'=>?_,fun t t' b ht ht' hb hb'=>?_⟩,fun t b ht hb=>?_,h.qn,fun t h9 ht=>?_,?_⟩
  ·rcases hobj t o' ho' with hmem|⟨h1,h2,o0,h3,rfl⟩;·exact(hlaid.1 (t,o') hmem).mono hm3 (fun _ hd=>⟨hd,rfl⟩) rfl (fun _ _=>rfl)
   ·exact(h.heap.holds t o0 h3).fB hm hD (hβo t h1) fun b hb=>hsame b (h.lt ⟨o0,h3⟩ hb) (hTinj t b ⟨o0,h3⟩ h2 hb)
  ·obtain⟨o1,ho1'⟩:=ht;obtain⟨o2,ho2'⟩:=ht';rcases hobj t o1 ho1' with hm1|⟨g1,g2,o0,g3,_⟩<;>rcases hobj t' o2 ho2' with hm2|⟨g1',g2',o0',g3',_⟩;·rw[hβn _ hm1]at hb;rw[hβn _ hm2]at hb';exact c3 _ hm1 _ hm2 b hb hb'
   ·rw[hβo t' g1']at hb';rcases hloc b (hnewb _ hm1 b hb) with h4|h4;·have:=h.lt ⟨o0',g3'⟩ hb';omega
    ·exact absurd h4 (hTinj t' b ⟨o0',g3'⟩ g2' hb')
   ·rw[hβo t g1]at hb;rcases hloc b (hnewb _ hm2 b hb') with h4|h4;·have:=h.lt ⟨o0,g3⟩ hb;omega
    ·exact absurd h4 (hTinj t b ⟨o0,g3⟩ g2 hb)
   ·rw[hβo t g1]at hb;rw[hβo t' g1']at hb';exact h.heap.inj t t' b ⟨o0,g3⟩ ⟨o0',g3'⟩ hb hb'
  ·obtain⟨o1,ho1'⟩:=ht;rcases hobj t o1 ho1' with hm1|⟨g1,g2,o0,g3,_⟩
   ·rcases hloc b (hnewb _ hm1 b hb) with h4|h4;·exact .inl (Nat.le_trans h.bS.size h4)
    ·obtain⟨s,hs,hb'⟩:=List.mem_filterMap.1 h4;exact h.old s b (hTd s hs) hb'
   ·rw[hβo t g1]at hb;exact h.old t b ⟨o0,g3⟩ hb
  ·obtain⟨o1,ho1'⟩:=ht;rcases hobj t o1 ho1' with hm1|⟨g1,g2,o0,g3,_⟩
   ·have hq:t∈Q:=by
     rcases List.mem_append.1 (htag _ hm1) with hq|hq;·exact hq
     ·exfalso;unfold pf at hq;rcases List.mem_append.1 hq with hq|hq;·have:=(List.mem_filter.1 hq).2;simp only[bne_iff_ne,ne_eq]at this;exact this h9
      ·have:=(List.mem_filter.1 hq).1;simp only[List.mem_cons,List.not_mem_nil,or_false]at this;omega
    rw[(hpin t hq).1];exact h.u5 t h9 (hTd t (hQT t hq))
   ·rw[hβo t g1];exact h.u5 t h9 ⟨o0,g3⟩
  ·exact⟨hfr.os.trans h.bS.os,hfr.tape.trans h.bS.tape,hfr.output.trans h.bS.output,Nat.le_trans h.bS.size hfr.size,fun b h1 h2=>(hsame b (by have:=h.bS.size;omega) fun hm=>by
    rcases List.mem_filterMap.1 hm with⟨s,hs,hb'⟩;rcases h.old s b (hTd s hs) hb' with h3|h3;·omega
    ·exact h2 h3).trans (h.bS.block b h1 h2)⟩
 exact⟨v,β2,rfl,hrel,hlaid.2.2.mono hm3 fun _ hd=>⟨hd,rfl⟩⟩
theorem zu:∀{xs ys:List AV},fC st.aa xs=some ys→E6 st.aa st.aa [] (xs.map fun _=>0) xs=some ys|[],_,h=>h|x::xs,ys,h=>by obtain⟨y,hy,h⟩:=Option.bind_eq_some_iff.1 h;obtain⟨l,hl,rfl⟩:=Option.map_eq_some_iff.1 h;show(nW st.aa x).bind _=_;rw[hy];show((E6 st.aa st.aa [] (xs.map fun _=>0) xs).map _)=_;rw[zu hl];rfl
theorem tu:∀xs:List AV,fu st.aa (xs.map fun _=>0) xs=[]|[]=>rfl|x::xs=>by show[]++fu st.aa (xs.map fun _=>0) xs=[];rw[tu xs];rfl
theorem nL:∀xs:List AV,eO (xs.map fun _=>0) xs=[]|[]=>rfl|x::xs=>by show eO (xs.map fun _=>0) xs=[];exact nL xs
theorem rf:∀xs:List AV,fk [] (xs.map fun _=>0) xs=eR xs|[]=>rfl|x::xs=>by show((0 !=0||dZ x)&&fk [] (xs.map fun _=>0) xs)=_;rw[rf xs];rfl
theorem wT (f:Nat→Option AO):eY [] [] f=f:=by funext t;show(f t).map (kc [])=f t;cases f t<;>rfl
theorem qN (d:Nat):(j6 d).Nodup:=by simp[j6,List.nodup_cons]
theorem Br {r:AV} (h:lk r):GR r=false:=by
 by_cases hx:∃cs,r=.agg cs;·obtain⟨cs,rfl⟩:=hx;have h:nY cs:=h;show cs.any _=false;induction cs with|nil=>rfl|cons c cs ih=>rw[List.any_cons,ih h.2 h.2,Bool.or_false];have:=h.1;cases c<;>first|rfl|exact this.elim
 ·have h:nf r:=by rw[←zV r fun cs e=>hx ⟨cs,e⟩];exact h
  cases r<;>first|rfl|exact h.elim
theorem Dq {r:AV} (h:flat r):oq r=false:=by
 by_cases hx:∃vs,r=.aS vs;·obtain⟨vs,rfl⟩:=hx;have h:rM vs:=h;show vs.any GR=false;induction vs with|nil=>rfl|cons c cs ih=>rw[List.any_cons,ih h.2 h.2,Bool.or_false];exact Br h.1
 ·have h:lk r:=by rw[←DF r fun cs e=>hx ⟨cs,e⟩];exact h
  have:oq r=GR r:=by cases r<;>first|rfl|exact absurd ⟨_,rfl⟩ hx
  rw[this];exact Br h
theorem ue {r:AV} (h:oq r=false) (d:Nat):jU d r=aP d r:=by unfold jU;rw[h];rfl
theorem tT {r:AV} (h:oq r=false) (d:Nat):Ag d r=cR (lA d) r:=by unfold Ag;rw[h];rfl
theorem tq {r:AV} (h:oq r=false) (d:Nat):Bf d r=dA r:=by unfold Bf;rw[h];rfl
theorem qS {r:AV} (h:oq r=false):qP r=flat r:=by unfold qP;rw[h];rfl
theorem mF {f:AV→List Nat×List Nat→Option (AV×List (Nat×AO)×List Nat×List Nat)} (hf:∀y s q,f y s=some q→(q.2.1.map (·.1)++(q.2.2.1++q.2.2.2)).Perm (s.1++s.2)):∀(ys:List AV) (s:List Nat×List Nat) (q:List AV×List (Nat×AO)×List Nat×List Nat),pX f ys s=some q→(q.2.1.map (·.1)++(q.2.2.1++q.2.2.2)).Perm (s.1++s.2)|[],s,q,h=>by cases h;exact .refl _|y::ys,s,q,h=>by obtain⟨r,hr,h⟩:=Option.bind_eq_some_iff.1 h;obtain⟨q',hq,rfl⟩:=Option.map_eq_some_iff.1 h;rw[List.map_append,List.append_assoc];exact((mF hf ys r.2.2 q' hq).append_left _).trans (hf y s r hr)
theorem ox:∀(n:Nat) (top:Bool) (y:AV) (s:List Nat×List Nat) (q:AV×List (Nat×AO)×List Nat×List Nat),num n top y s=some q→(q.2.1.map (·.1)++(q.2.2.1++q.2.2.2)).Perm (s.1++s.2)
 |0,_,_,_,_,h=>by cases h|n+1,top,y,s,q,h=>by
  unfold num at h;split at h;·obtain⟨k,hk,rfl⟩:=Option.map_eq_some_iff.1 h;exact mG hk
  ·obtain⟨k,hk,rfl⟩:=Option.map_eq_some_iff.1 h;exact mG hk
  ·obtain⟨k,hk,h⟩:=Option.bind_eq_some_iff.1 h;obtain⟨r,hr,rfl⟩:=Option.map_eq_some_iff.1 h;exact((mF (ox n false) _ k.2 r hr).cons k.1).trans (mG hk)
  ·obtain⟨r,hr,rfl⟩:=Option.map_eq_some_iff.1 h;exact mF (ox n top) _ s r hr
  ·obtain⟨r,hr,rfl⟩:=Option.map_eq_some_iff.1 h;exact mF (ox n top) _ s r hr
  ·cases h;exact .refl _
  ·cases h;exact .refl _
  ·split at h;·cases h;exact .refl _
   ·cases h
  ·cases h
theorem wL (d:Nat) (r:AV):∀x∈jU d r,∃p,x.1=d+1000*p:=by
 intro x hx;unfold jU at hx;split at hx;·cases hn:num 5 false r ([],j6 d) with|none=>rw[hn]at hx;simp at hx|some q=>
  rw[hn]at hx;have hp:=ox 5 false r _ q hn;have hm:x.1∈j6 d:=by simpa using hp.mem_iff.1 (List.mem_append_left _ (List.mem_map_of_mem (by simpa using hx)))
  simp only[j6,List.mem_cons,List.not_mem_nil,or_false]at hm;rcases hm with h|h|h|h|h|h|h|h;·exact⟨0,h⟩
  ·exact⟨1,h⟩
  ·exact⟨2,h⟩
  ·exact⟨3,h⟩
  ·exact⟨4,h⟩
  ·exact⟨5,h⟩
  ·exact⟨6,h⟩
  ·exact⟨7,h⟩
 ·unfold aP at hx;obtain⟨y,_,rfl⟩:=List.mem_map.1 hx;exact⟨y.1,rfl⟩
theorem lR (h:Rel P S0 L B0 w0 N st a w β) {f:FuncId}{d:Nat} (hd9:d%1000≠999) {vals:List Value}{xs ys:List AV}{r:AV} (hl:vals.length=xs.length) (hv:∀(i:Nat) (v:Value) (x:AV),vals[i]?=some v→xs[i]?=some x→RV P (aU S0 w0.heap.size β st.aa w) w β (aG st.aa) v x) (hre:fC st.aa xs=some ys) (hcon:M6 P f ys r) (hpf:eR xs=true∨qP r) (hfree:∀x∈jU d r,st.aa x.1=none) (hres:Bf d r=true):Calls P f vals.toArray w fun e w'=>∃v β',e=.returned v∧Rel P S0 L B0 w0 N ⟨st.vars,bA (jU d r) st.aa⟩ a w' β'∧RV P (aU S0 w0.heap.size β' (bA (jU d r) st.aa) w') w' β' (aG (bA (jU d r) st.aa)) v (Ag d r):=by unfold jU at hfree ⊢;unfold Ag;unfold Bf at hres;unfold qP at hpf;cases ht:oq r with|false=>simp only[ht,Bool.false_eq_true,if_false]at hfree hres hpf ⊢;exact Ck h hd9 hl hv hre (hcon.2 ht) hpf hfree hres|true=>simp only[ht,if_true]at hfree hres hpf ⊢;obtain⟨q,hq⟩:=Option.isSome_iff_exists.1 hres;rw[hq]at hfree ⊢;simp only[Option.map_some,Option.getD_some]at hfree ⊢;have:=G0 (T:=[]) (Q:=[]) (W:=[]) (fun e=>absurd rfl e) h hd9 (ks:=xs.map fun _=>0) hl hv (tu xs).symm (by rw[nL];rfl) rfl List.nodup_nil (fun t ht=>by cases ht) (qN d) (by rw[wT];exact zu hre) (hcon.1 ht) (by rw[rf];exact hpf.imp id fun hf y hy=>by simp only[lC,kL,List.nil_append,List.mem_singleton]at hy;rw[hy];exact hf) (o:=([],[],([],j6 d))) rfl (nL xs).symm hq (fun p hp=>.inr (hfree p hp));rw[wT]at this;exact this
end
theorem uE {k k':IntKind} (h:m5 k=m5 k'):k=k':=by cases k<;>cases k'<;>first|rfl|(simp[m5]at h)
theorem qK:∀{a c b d:List PV},a.length=c.length→jl (a++b) (c++d)=(jl a c&&jl b d)|[],[],b,d,_=>by simp[jl]|x::a,y::c,b,d,h=>by simp only[List.cons_append,jl];rw[qK (by simpa using h),Bool.and_assoc]|[],_::_,_,_,h=>by simp at h|_::_,[],_,_,h=>by simp at h
section
variable{P:Program}
def GI (P:Program) (t:TypeId) (us:List Value):Value:=match P.underlying t with|some (.struct _)|some (.array _ _)=>.agg us.toArray|_=>us.headD undef
theorem Dn (w:World) {t:TypeId}{n:Nat}{A us rest:List Value} (ht:(P.underlying t).isSome=true) (hn:cy P t=some n) (hl:us.length=n) (h1:(∃fs,P.underlying t=some (.struct fs))∨(us≠[]∧∀k e,P.underlying t≠some (.array k e))):(part t (A++us++rest).toArray A.length).run P w=.ok (GI P t us) w:=by
 obtain⟨d,hd⟩:=Option.isSome_iff_exists.1 ht;obtain⟨i,hi,hsz⟩:∃i,P.info? t=some i∧i.size=n:=by unfold cy at hn;obtain⟨i,hi,rfl⟩:=Option.map_eq_some_iff.1 hn;exact⟨i,hi,rfl⟩
 have hs:(Go.sizeOf t).run P w=.ok n w:=by simp[Go.sizeOf,typeInfo,hi,hsz]
 have hagg:(∃fs,d=.struct fs)→(part t (A++us++rest).toArray A.length).run P w=.ok (.agg us.toArray) w:=by
  rintro⟨fs,rfl⟩;have he:(A++us++rest).toArray.extract A.length (A.length+n)=us.toArray:=by apply Array.ext';simp only[List.extract_toArray,List.extract_eq_take_drop];rw[List.append_assoc,List.drop_left,Nat.add_sub_cancel_left,←hl,List.take_left]
  simp only[part,isAgg,Sem.run_bind,run_underlying hd,hs,Result.andThen_ok,Sem.run_pure,if_true,he]
 unfold GI;rw[hd];rcases h1 with⟨fs,h1⟩|⟨h1,h2⟩;·rw[hd]at h1;cases h1;exact hagg ⟨fs,rfl⟩
 ·match us,h1 with
  |u::l,_=>
   have h4:(A++(u::l)++rest).toArray[A.length]?=some u:=by simp
   cases d with|struct fs=>exact hagg ⟨fs,rfl⟩|array k e=>exact absurd hd (h2 k e)|_=>simp[part,isAgg,run_underlying hd,Result.andThen]
theorem vM {p:PV} (h:dw p=0):∃b,p=.bool b:=by cases p<;>simp[dw]at h;exact⟨_,rfl⟩
theorem AX {p:PV} (h:dw p=1):∃l,p=.str l:=by cases p with|str l=>exact⟨l,rfl⟩|int k n=>simp only[dw]at h;omega|_=>simp[dw]at h
theorem Ay {p:PV}{k:IntKind} (h:dw p=2+m5 k):∃n,p=.int k n:=by
 have:m5 k≤7:=by cases k<;>decide
 cases p with|int k' n=>simp only[dw]at h;have:=uE (show m5 k'=m5 k by omega);subst this;exact⟨n,rfl⟩|bool b=>simp only[dw]at h;omega|str b=>simp only[dw]at h;omega|_=>simp only[dw]at h;omega
theorem HU (a b:List UInt8):((⟨a.toArray⟩:ByteArray).toList==(⟨b.toArray⟩:ByteArray).toList)=decide (a=b):=by
 rw[ByteArray.toList_eq,ByteArray.toList_eq];by_cases h:a=b;·subst h;simp
 ·simp[h]
theorem Cy:∀(n:Nat) (t:TypeId) (ks:List Nat),jM P n t=some ks→(P.underlying t).isSome=true∧((∃fs,P.underlying t=some (.struct fs))∨(ks≠[]∧∀k e,P.underlying t≠some (.array k e)))
 |0,t,ks,h=>by cases h|n+1,t,ks,h=>by
  unfold jM at h;split at h;·rename_i hu;cases h;rw[hu];exact⟨rfl,.inr ⟨by simp,fun k e h=>by cases h⟩⟩
  ·rename_i hu;cases h;rw[hu];exact⟨rfl,.inr ⟨by simp,fun k e h=>by cases h⟩⟩
  ·rename_i hu;cases h;rw[hu];exact⟨rfl,.inr ⟨by simp,fun k e h=>by cases h⟩⟩
  ·rename_i fs hu;rw[hu];exact⟨rfl,.inl ⟨fs,rfl⟩⟩
  ·cases h
theorem vY {f:TypeId→Option (List Nat)}{d:Nat} (hl:∀t ks,f t=some ks→(P.underlying t).isSome=true∧((∃fs,P.underlying t=some (.struct fs))∨(ks≠[]∧∀k e,P.underlying t≠some (.array k e)))) (hf:∀t ks,f t=some ks→∀(w:World) (ps qs:List PV),ps.map dw=ks→qs.map dw=ks→(Op.equalIn d t (GI P t (ps.map bY)) (GI P t (qs.map bY))).run P w=.ok (jl ps qs) w) (w:World):∀(fs:List Field) (off:Nat) (ks:List Nat) (A B:List Value) (ps qs:List PV),mE P f off fs=some ks→A.length=off→B.length=off→ps.map dw=ks→qs.map dw=ks→(Op.eqFields d (A++ps.map bY).toArray (B++qs.map bY).toArray fs).run P w=.ok (jl ps qs) w
 |[],off,ks,A,B,ps,qs,h,hA,hB,hp,hq=>by cases h;have:ps=[]:=List.map_eq_nil_iff.1 hp;have:qs=[]:=List.map_eq_nil_iff.1 hq;subst_vars;simp[Op.eqFields,jl]|fl::fs,off,ks,A,B,ps,qs,h,hA,hB,hp,hq=>by
  unfold mE at h;split at h
  ·rename_i hc;obtain⟨hn,ho⟩:=hc;obtain⟨a,ha,h⟩:=Option.bind_eq_some_iff.1 h;split at h
   ·rename_i hs;obtain⟨r,hr,rfl⟩:=Option.map_eq_some_iff.1 h;have key:∀l:List PV,l.map dw=a++r→∃l1 l2,l=l1++l2∧l1.map dw=a∧l2.map dw=r:=by intro l h;obtain⟨l1,l2,rfl,h1,h2⟩:=List.map_eq_append_iff.1 h;exact⟨l1,l2,rfl,h1,h2⟩
    obtain⟨p1,p2,rfl,hp1,hp2⟩:=key ps hp;obtain⟨q1,q2,rfl,hq1,hq2⟩:=key qs hq;have l1:p1.length=a.length:=by rw[←hp1];simp
    have l2:q1.length=a.length:=by rw[←hq1];simp
    obtain⟨g1,g2⟩:=hl _ _ ha;have e1:((fl.offset:Nat))=A.length:=by rw[hA,ho]
    have e2:A.length=B.length:=by rw[hA,hB]
    have hpa:=Dn (P:=P) (t:=fl.type) (n:=a.length) (A:=A) (us:=p1.map bY) (rest:=p2.map bY) w g1 hs (by simpa using l1) (g2.imp id fun h=>⟨by intro h0;apply h.1;rw[←hp1,List.map_eq_nil_iff.1 h0];rfl,h.2⟩);have hqa:=Dn (P:=P) (t:=fl.type) (n:=a.length) (A:=B) (us:=q1.map bY) (rest:=q2.map bY) w g1 hs (by simpa using l2) (g2.imp id fun h=>⟨by intro h0;apply h.1;rw[←hq1,List.map_eq_nil_iff.1 h0];rfl,h.2⟩);have ih:=vY hl hf w fs (off+a.length) r (A++p1.map bY) (B++q1.map bY) p2 q2 hr (by simp[hA,l1]) (by simp[hB,l2]) hp2 hq2;rw[List.map_append,List.map_append,←List.append_assoc,←List.append_assoc,qK (by rw[l1,l2])];unfold Op.eqFields;rw[if_pos hn,e1];simp only[Sem.run_bind,hpa,Result.andThen_ok];rw[e2];simp only[hqa,Result.andThen_ok,hf _ _ ha w p1 q1 hp1 hq1];cases h1:jl p1 q1 with|true=>simp only[Bool.not_true,Bool.false_eq_true,if_false,Bool.true_and];exact ih|false=>simp
   ·cases h
  ·cases h
theorem zI (hst:∀t,t<P.types.size∧Er P t=false→P.stoodInHeld t=false):∀(n:Nat) (t:TypeId) (ks:List Nat),jM P n t=some ks→∀(d:Nat),n≤d→∀(w:World) (ps qs:List PV),ps.map dw=ks→qs.map dw=ks→(Op.equalIn d t (GI P t (ps.map bY)) (GI P t (qs.map bY))).run P w=.ok (jl ps qs) w
 |0,t,ks,h=>by cases h|n+1,t,ks,h=>by
  intro d hd w ps qs hp hq;obtain⟨d,rfl⟩:∃e,d=e+1:=⟨d-1,by omega⟩;have one:∀k,ks=[k]→∃p q,ps=[p]∧qs=[q]∧dw p=k∧dw q=k:=by rintro k rfl;rcases ps with _|⟨p,_|⟨p',ps⟩⟩<;>simp at hp;rcases qs with _|⟨q,_|⟨q',qs⟩⟩<;>simp at hq;exact⟨p,q,rfl,rfl,hp,hq⟩
  unfold jM at h;split at h;·rename_i hu;injection h with h;obtain⟨p,q,rfl,rfl,h1,h2⟩:=one _ h.symm;obtain⟨b,rfl⟩:=vM h1;obtain⟨c,rfl⟩:=vM h2;simp only[GI,hu,List.map_cons,List.map_nil,List.headD_cons,bY];rw[run_equalIn_bool' w d t b c hu];cases b<;>cases c<;>rfl
  ·rename_i hu;injection h with h;obtain⟨p,q,rfl,rfl,h1,h2⟩:=one _ h.symm;obtain⟨b,rfl⟩:=AX h1;obtain⟨c,rfl⟩:=AX h2;simp only[GI,hu,List.map_cons,List.map_nil,List.headD_cons,bY];rw[run_equalIn_string w d t _ _ hu,HU];simp[jl,m8]
  ·rename_i k hu;injection h with h;obtain⟨p,q,rfl,rfl,h1,h2⟩:=one _ h.symm;obtain⟨b,rfl⟩:=Ay h1;obtain⟨c,rfl⟩:=Ay h2;simp only[GI,hu,List.map_cons,List.map_nil,List.headD_cons,bY];rw[run_equalIn_int w d t k k b c hu];simp only[jl,m8,Bool.and_true];rfl
  ·rename_i fs hu;split at h
   ·rename_i ht;have hfo:P.fieldsOf t=fs:=by simp[Program.fieldsOf,hu]
    simp only[GI,hu];rw[run_equalIn_struct w d t _ _ (by rw[hfo];exact hu) (hst t ht),hfo];have:=vY (P:=P) (f:=jM P n) (d:=d) (fun t ks h=>Cy n t ks h) (fun t ks h w ps qs=>zI hst n t ks h d (by omega) w ps qs) w fs.toList 0 ks [] [] ps qs h rfl rfl hp hq;simpa using this
   ·cases h
  ·cases h
end
section
variable{P:Program}{S:Nat→Prop}{w:World}{β:Nat→Value}{aa:Nat→Option AO}{a:Act}{o:Oper}{x y:Operand}
theorem qe:∀{cs:List AV}{ps:List PV},eU cs=some ps→cs=ps.map .pv|[],ps,h=>by cases h;rfl|c::cs,ps,h=>by simp only[eU,Option.bind_eq_some_iff,Option.map_eq_some_iff]at h;obtain⟨p,hp,l,hl,rfl⟩:=h;rw[qe hl];cases c<;>simp[Ee]at hp;subst hp;rfl
theorem uy {D:Nat→Prop}{ps:List PV}{ks:List Nat} (hks:∀k∈ks,k<99) (hs:ps.map dw=ks) {us:List Value} (hl:us.length=(ps.map AV.pv).length) (hr:∀(i:Nat) (c:AV) (u:Value),(ps.map AV.pv)[i]?=some c→us[i]?=some u→RV P S w β D u c):us=ps.map bY:=by
 subst hs;have hl':us.length=ps.length:=by simpa using hl
 apply List.ext_getElem?;intro i;cases hu:us[i]? with|none=>have:us.length≤i:=List.getElem?_eq_none_iff.1 hu;rw[List.getElem?_eq_none (by simp;omega)]|some u=>have hi:i<us.length:=(List.getElem?_eq_some_iff.1 hu).1;obtain⟨p,hp⟩:∃p,ps[i]?=some p:=⟨ps[i],List.getElem?_eq_getElem (by omega)⟩;have h3:=(hr i (.pv p) u (by simp[hp]) hu).bm;have h4:=hks (dw p) (by simp only[List.mem_map];exact⟨_,List.mem_of_getElem? hp,rfl⟩);rw[List.getElem?_map,hp];simp only[Option.map_some,Option.some.injEq];cases h3 with|int q n=>rfl|bool b=>rfl|str l=>rfl|_=>simp only[dw]at h4;omega
theorem oU {f:TypeId→Option (List Nat)}{d:Nat} (hf:∀t ks,f t=some ks→P.eqGuardType d t=false):∀(fs:List Field) (off:Nat) (ks:List Nat),mE P f off fs=some ks→∀fl∈fs,P.eqGuardType d fl.type=false
 |[],_,_,_,fl,hm=>by cases hm|f1::fs,off,ks,h,fl,hm=>by
  unfold mE at h;split at h
  ·obtain⟨a,ha,h⟩:=Option.bind_eq_some_iff.1 h;split at h
   ·obtain⟨r,hr,rfl⟩:=Option.map_eq_some_iff.1 h;rcases List.mem_cons.1 hm with rfl|hm;·exact hf _ _ ha
    ·exact oU hf fs _ _ hr fl hm
   ·cases h
  ·cases h
theorem guard_of:∀(n:Nat) (t:TypeId) (ks:List Nat),jM P n t=some ks→∀d,n≤d→P.eqGuardType d t=false
 |0,t,ks,h=>by cases h|n+1,t,ks,h=>by
  intro d hd;obtain⟨d,rfl⟩:∃e,d=e+1:=⟨d-1,by omega⟩;unfold jM at h;unfold Program.eqGuardType;split at h;·rename_i hu;rw[hu]
  ·rename_i hu;rw[hu]
  ·rename_i hu;rw[hu]
  ·rename_i fs hu;split at h;·simp only[hu,←Array.any_toList,List.any_eq_false];intro fl hfl;simp[oU (fun t ks h=>guard_of n t ks h d (by omega)) _ _ _ h fl hfl]
   ·cases h
  ·cases h
theorem KY (hst:∀t,t<P.types.size∧Er P t=false→P.stoodInHeld t=false) {ne:Bool}{t yt:TypeId}{fs:Array Field}{ks:List Nat} (ho:o.op=.binOp (if ne=true then .neq else .eql) t x y yt) (hu:P.underlying t=some (.struct fs)) (hk:jM P 8 t=some ks) (hks:ks.all (·<99)=true) {X Y:AV} (hX:RV P S w β (aG aa) (a.eval x) X) (hY:RV P S w β (aG aa) (a.eval y) Y) {φ:Prop}{v:AV} (h:al (.eqs ne ks) [X,Y] aa=some (φ,v)) (hφ:φ):∃r,(execOp a.eval o).run P w=.ok (.value r) w∧RV P S w β (aG aa) r v:=by
 have hg:P.eqGuardType P.depth t=false:=guard_of 8 t ks hk _ (by unfold Program.depth Made.depth;omega);have hks':∀k∈ks,k<99:=fun k hk=>by simpa using(List.all_eq_true.1 hks) k hk
 cases X with
 |agg xs=>cases Y with
  |agg ys=>simp only[al,Option.bind_eq_some_iff,Option.map_eq_some_iff]at h;obtain⟨ps,hps,qs,hqs,he⟩:=h;cases he;cases qe hps;cases qe hqs;obtain⟨us,hxu,hul,hur⟩:=hX.cN;obtain⟨vs,hyv,hvl,hvr⟩:=hY.cN;have e1:=uy hks' hφ.1 hul hur;have e2:=uy hks' hφ.2 hvl hvr;have hrun:=zI hst 8 t ks hk 10000 (by omega) w ps qs hφ.1 hφ.2;simp only[GI,hu]at hrun;rw[e1]at hxu;rw[e2]at hyv;cases ne with|false=>exact⟨_,by simp[execOp,ho,hxu,hyv,run_eqGuard_agg w .eql t x y _ _ hg,run_eql_struct,hrun,Result.andThen],.pv _ _ (.bool _)⟩|true=>exact⟨_,by simp[execOp,ho,hxu,hyv,run_eqGuard_agg w .neq t x y _ _ hg,run_neq_struct,hrun,Result.andThen],.pv _ _ (.bool _)⟩
  |_=>simp[al]at h
 |_=>simp[al]at h
end
theorem gH {P:Program}{kt:TypeId}{s:Nat} (h:kb P kt=some s):∃d,P.underlying kt=some d∧∀k,dw k=s→MapKept.IsKey d (bY k):=by
 unfold kb at h;split at h;·rename_i hu;injection h with h;subst h;refine⟨_,hu,fun k hk=>?_⟩;cases k<;>first|trivial|(simp[dw]at hk)
 ·rename_i hu;injection h with h;subst h;refine⟨_,hu,fun k hk=>?_⟩;cases k<;>first|trivial|(simp[dw]at hk;try omega)
 ·rename_i q hu;injection h with h;subst h;refine⟨_,hu,fun k hk=>?_⟩;cases k with
  |int k n=>simp only[dw]at hk;exact uE (by omega)|bool b=>simp only[dw]at hk;omega|str l=>simp only[dw]at hk;omega
  | _=>simp only[dw]at hk;have:m5 q≤7:=by cases q<;>decide
       omega
 ·cases h
theorem pr {k k':PV}{s:Nat} (h:dw k=s) (h':dw k'=s) (hs:s<99):m8 k k'=true↔bY k'=bY k:=by subst h;cases k<;>cases k'<;>simp only[dw]at h' hs<;>first|omega|(have:_:=uE (Nat.add_left_cancel h');subst this;simp[m8,bY,eq_comm])|simp[m8,bY,eq_comm]
theorem ns {P:Program}{kt:TypeId}{s:Nat} (h:kb P kt=some s):s<99:=by
 unfold kb at h;split at h;·injection h with h;omega
 ·injection h with h;omega
 ·rename_i q _;injection h with h;have:m5 q≤7:=by cases q<;>decide
  omega
 ·cases h
theorem ki {P:Program}{S:Nat→Prop}{w:World}{β:Nat→Value}{D:Nat→Prop}{u:Value}{p:PV}{s:Nat} (h:RV P S w β D u (.pv p)) (hp:dw p=s) (hs:s<99):u=bY p:=by have h:=h.bm;cases h with|int q n=>rfl|bool b=>rfl|str l=>rfl|_=>simp only[dw]at hp;omega
theorem fL {P:Program}{t k e:TypeId} (h:jm P t=some (k,e)):P.underlying t=some (.map k e):=by
 unfold jm at h;split at h;·rename_i hu;cases h;exact hu
 ·cases h
theorem iM {d:TypeDesc}{k:PV}{s:Nat} (hd:∀k,dw k=s→MapKept.IsKey d (bY k)) (hk:dw k=s) (hs:s<99):∀(us:List MapEntry) (es:List (PV×PV)) (n:Nat),fX s es→us.length=es.length→(∀(i:Nat) (e:PV×PV) (u:MapEntry),es[i]?=some e→us[i]?=some u→u.key=bY e.1)→(Instr.findNow d (bY k) us n=some none∧m6 k es=none∧(∀v,lP k v es=es++[(k,v)])∧qA k es=es∧∀u∈us,u.key≠bY k)∨∃j e u,Instr.findNow d (bY k) us n=some (some (n+j,u.val))∧es[j]?=some e∧us[j]?=some u∧u.key=bY k∧m6 k es=some e.2∧(∀v,lP k v es=es.set j (k,v))∧qA k es=es.eraseIdx j|[],[],_,_,_,_=>.inl ⟨rfl,rfl,fun v=>rfl,rfl,fun u hu=>by simp at hu⟩|[],_::_,_,_,hl,_=>by simp at hl|_::_,[],_,_,hl,_=>by simp at hl|u::us,e::es,n,hks,hl,hu=>by have h1:=hu 0 e u rfl rfl;have hke:=hks e (by simp);obtain⟨r,hr,hiff⟩:=MapKept.sameNow_of_keys (hd k hk) (hd e.1 hke);rw[←h1]at hr;cases r with|true=>have h2:bY k=bY e.1:=hiff.1 rfl;have h3:m8 k e.1=true:=(pr hk hke hs).2 h2.symm;exact .inr ⟨0,e,u,by simp[Instr.findNow,hr],rfl,rfl,h1.trans h2.symm,by simp only[m6];rw[if_pos h3],fun v=>by simp only[lP];rw[if_pos h3];rfl,by simp only[qA];rw[if_pos h3];rfl⟩|false=>
 have h3:¬m8 k e.1=true:=fun h=>by have:=hiff.2 ((pr hk hke hs).1 h).symm;cases this
 have h4:u.key≠bY k:=fun h=>by have:=hiff.2 (h.symm.trans h1);cases this
 rcases iM hd hk hs us es (n+1) (fun x hx=>hks x (by simp[hx])) (by simpa using hl) (fun i x y hx hy=>hu (i+1) x y (by simpa using hx) (by simpa using hy)) with⟨g1,g2,g3,g4,g5⟩|⟨j,e',u',g1,g2,g3,g4,g5,g6,g7⟩
 ·refine .inl ⟨by simp[Instr.findNow,hr,g1],by simp only[m6];rw[if_neg h3];exact g2,fun v=>by simp only[lP];rw[if_neg h3,g3 v];rfl,by simp only[qA];rw[if_neg h3,g4],fun x hx=>?_⟩;rcases List.mem_cons.1 hx with rfl|hx;·exact h4
  ·exact g5 x hx
 ·exact .inr ⟨j+1,e',u',by simp[Instr.findNow,hr,g1];omega,by simpa using g2,by simpa using g3,g4,by simp only[m6];rw[if_neg h3];exact g5,fun v=>by simp only[lP];rw[if_neg h3,g6 v];rfl,by simp only[qA];rw[if_neg h3,g7];rfl⟩
theorem E2 {P:Program}{o:Oper}{s:Nat}{z:Value}{ok:Bool}{xs:List Operand} (h:jE P o=(.Gi s z ok,xs)):∃t m k kt et,o.op=.lookup t m k ok∧jm P t=some (kt,et)∧kb P kt=some s∧zeroV P et=some z∧xs=[m,k]:=by
 unfold jE at h;split at h
 ·rename_i r hr;subst h;unfold zq at hr;repeat' split at hr
  all_goals first|(cases hr;done)|(cases hr;exact⟨_,_,_,_,_,by assumption,by assumption,by assumption,by assumption,rfl⟩)
 ·cases hx:tZ P o with|none=>rw[hx]at h;cases h|some r=>
   rw[hx]at h;have h:r=(.Gi s z ok,xs):=h;subst h;unfold tZ yL at hx;repeat' split at hx
   all_goals cases hx
theorem CJ {P:Program}{o:Oper}{e:TypeId}{sz:Nat}{xs:List Operand} (h:jE P o=(.mW e sz,xs)):∃t n ps zs,o.op=.buildSlice t n ps∧P.underlying t=some (.slice e)∧cy P e=some sz∧dN P e=some zs∧ps.toList.map (·.1)=List.range n∧n*sz≤2^24∧zs.length=sz∧0<sz∧xs=ps.toList.map (·.2):=by
 unfold jE at h;split at h
 ·rename_i r hr;subst h;unfold zq at hr;repeat' split at hr
  all_goals cases hr
 ·cases hx:tZ P o with|none=>rw[hx]at h;cases h|some r=>
   rw[hx]at h;have h:r=(.mW e sz,xs):=h;subst h;unfold tZ yL at hx;repeat' split at hx
   all_goals first|(cases hx;done)|(cases hx;rename_i hc;exact⟨_,_,_,_,by assumption,by assumption,by assumption,by assumption,hc.2.1,hc.2.2.1,hc.2.2.2.1,hc.2.2.2.2,rfl⟩)
section
variable{P:Program}{S:Nat→Prop}{w:World}{β:Nat→Value}{aa:Nat→Option AO}{a:Act}{o:Oper}
theorem UD {t:TypeId}{m k:Operand}{kt et:TypeId}{s:Nat}{z:Value}{ok:Bool} (ho:o.op=.lookup t m k ok) (hm:jm P t=some (kt,et)) (hsrt:kb P kt=some s) (hz:zeroV P et=some z) (hz1:z.oneCell'=true) {p:PV}{es:List (PV×PV)} (hX:RV P S w β (aG aa) (a.eval m) (.pv (.mv es))) (hK:RV P S w β (aG aa) (a.eval k) (.pv p)) (hp:dw p=s) (hks:fX s es):∃v,(execOp a.eval o).run P w=.ok (.value v) w∧RV P S w β (aG aa) v (Cl z ok (m6 p es)):=by have h1:=hX.bm;generalize hmv:a.eval m=mv at h1;cases h1 with|mv b us c es g1 hh hst hl g5 g6=>
 have hmt:=fL hm;obtain⟨d,hdk,hkey⟩:=gH hsrt;have hs99:=ns hsrt;have hkv:a.eval k=Ab.bY p:=ki hK hp hs99;have hzr:(zeroValue et).run P w=.ok z w:=by unfold zeroV at hz;obtain⟨i,hi,hz⟩:=Option.bind_eq_some_iff.1 hz;simp[zeroValue,typeInfo,hi,hz]
 have hfind:=iM hkey hp hs99 us.toList es 0 hks hl fun i e u h1 h2=>(g5 i e u h1 h2).1;have fin:∀(v:Value) (x:PV) (f:Bool),(Instr.lookup t (.map (some b)) (Ab.bY p) ok).run P w=.ok (if ok=true then .tuple #[v,.bool f] else v) w→da S w v x→∃v,(execOp a.eval o).run P w=.ok (.value v) w∧RV P S w β (aG aa) v (if ok=true then .aS [.pv x,.pv (.bool f)] else .pv x):=by intro v x f hrun hv;refine⟨_,by simp only[execOp,ho,hmv,hkv];simp[hrun,Result.andThen];rfl,?_⟩;cases ok with|false=>exact .pv _ _ hv|true=>refine .aS _ [v,.bool f] rfl fun i c u h1 h2=>?_;match i with|0=>simp at h1 h2;subst h1 h2;exact .pv _ _ hv|1=>simp at h1 h2;subst h1 h2;exact .pv _ _ (.bool f)|i+2=>simp at h1
 unfold Cl;rcases hfind with⟨h1,h2,_⟩|⟨j,e,u,h1,h2,h3,h4,h5,_⟩;·rw[h2];refine fin z (u7 z) false ?_ (iL _ _ z hz1);simp[Instr.lookup,run_underlying hmt,MapKept.run_getObj_map hh,MapKept.run_checkKey hdk (hkey p hp),MapKept.run_findKey hdk h1,hzr,Result.andThen]
 ·rw[h5];refine fin u.val e.2 true ?_ (g6 j e u h2 h3);simp[Instr.lookup,run_underlying hmt,MapKept.run_getObj_map hh,MapKept.run_checkKey hdk (hkey p hp),MapKept.run_findKey hdk h1,Result.andThen]
end
theorem iA {P:Program}{f:FuncId} (h:ib P f=true):f<P.funcs.size:=by
 unfold ib at h;split at h;·rename_i fn hfn;exact(Array.getElem?_eq_some_iff.1 hfn).1
 ·cases h
def sf:AK→Bool|.ex (.Gi _ _ _)=>true|.nX|.pick|.ij _|.box|.alloc _|.rT _ _|.call _|.ly|.store _|.app _ _ _|.ou _|.HR _ _ _|.ex _=>false|_=>true
theorem CY {x:XK}{ys:List AV}{aa:Nat→Option AO} (h:sf (.ex x)=false) (hb:∀e sz,x≠.mW e sz):al (.ex x) ys aa=none:=by unfold al;split<;>first|rfl|simp_all[sf]
section
variable{P:Program}{Γ:bR}{S0 L:Nat→Prop}{B0:Nat→Value}{w0 w:World}{N:Nat}{st:St}{a:Act}{β:Nat→Value}{o:Oper}{k:AK}{xs:List Operand}
theorem Rel.ev (h:Rel P S0 L B0 w0 N st a w β) (z:Operand):RV P (aU S0 w0.heap.size β st.aa w) w β (aG st.aa) (a.eval z) (ev st.vars z):=F3 h.vars z
theorem Rel.dr (h:Rel P S0 L B0 w0 N st a w β) (z:Operand) (ha:asks (Ab.ev st.vars z)):RV P (aU S0 w0.heap.size β st.aa w) w β (aG st.aa) (a.eval z) (strip (Ab.ev st.vars z)):=(h.ev z).strip ha
theorem Hs (h:Rel P S0 L B0 w0 N st a w β) (hc:gX P o=some (k,xs)) (hk:sf k=true) (ha:an (xs.map (ev st.vars))) {φ:Prop}{v:AV} (hs:al k ((xs.map (ev st.vars)).map strip) st.aa=some (φ,v)) (hφ:φ):∃r,(execOp a.eval o).run P w=.ok (.value r) w∧RV P (aU S0 w0.heap.size β st.aa w) w β (aG st.aa) r v:=by
 rcases dU hc with hc|⟨x,rfl,hx⟩;rotate_left;·cases x with
  |Gi s z ok=>obtain⟨t,m,k,kt,et,ho,hm,hsr,hz,rfl⟩:=E2 hx;have h1:=h.dr m ha.1;have h2:=h.dr k ha.2.1;simp only[List.map_cons,List.map_nil]at hs;generalize strip (Ab.ev st.vars m)=X at h1 hs;generalize strip (Ab.ev st.vars k)=Y at h2 hs;cases X with
   |pv p=>cases Y with
    |pv q=>cases p with|mv es=>simp only[al,Option.some.injEq,Prod.mk.injEq]at hs;obtain⟨rfl,rfl⟩:=hs;exact UD ho hm hsr hz hφ.1 h1 h2 hφ.2.1 hφ.2.2|_=>simp[al]at hs
    |_=>cases p<;>simp[al]at hs
   |_=>simp[al]at hs
  |_=>simp[sf]at hk
 unfold gD at hc;split at hc;·
  split at hc
  ·split at hc
   ·split at hc;·cases hc;simp[sf]at hk
    ·cases hc
   ·cases hc
  ·cases hc;simp[sf]at hk
 ·split at hc
  ·split at hc
   ·split at hc;·cases hc;simp[sf]at hk
    ·cases hc
   ·cases hc
  ·cases hc;simp[sf]at hk
 ·cases hc;simp[sf]at hk
 ·obtain⟨zs,_,he⟩:=Option.map_eq_some_iff.1 hc;cases he;simp[sf]at hk
 ·cases hc;simp[sf]at hk
 ·rename_i t ps ho;split at hc
  ·rename_i zs fs hz hu;split at hc;·cases hc
   ·rename_i hall;obtain⟨l,hl,he⟩:=Option.map_eq_some_iff.1 hc;cases he;exact aat ho hz hu (Bool.of_not_eq_false hall) hl h.heap h.dr ha hs hφ
  ·cases hc
 ·split at hc
  ·split at hc
   ·split at hc;·cases hc;simp[sf]at hk
    ·cases hc
   ·cases hc
  ·cases hc
 ·rename_i t x ho;obtain⟨n,hn,he⟩:=Option.map_eq_some_iff.1 hc;cases he;cases n with|none=>exact DA ho hn h.heap (h.dr x ha.1) hs hφ|some n=>exact DW ho hn h.heap (h.dr x ha.1) hs hφ
 ·split at hc
  ·split at hc;·cases hc;simp[sf]at hk
   ·cases hc
  ·cases hc;simp[sf]at hk
  ·cases hc
 ·rename_i op t x y yt ho;split at hc
  ·rename_i hu;split at hc;·cases hc;exact LJ (ne:=false) ho hu (h.dr x ha.1) (h.dr y ha.2.1) hs hφ
   ·cases hc;exact LJ (ne:=true) ho hu (h.dr x ha.1) (h.dr y ha.2.1) hs hφ
   ·cases hc
  ·cases hc;exact Lk ho (h.dr x ha.1) (h.dr y ha.2.1) hs hφ
  ·cases hc;exact Lk ho (h.dr x ha.1) (h.dr y ha.2.1) hs hφ
  ·rename_i fs hu;split at hc
   ·rename_i ks hks;split at hc
    ·rename_i hcond;split at hc;·cases hc;exact KY h.qn.2 (ne:=false) ho hu hks hcond (h.dr x ha.1) (h.dr y ha.2.1) hs hφ
     ·cases hc;exact KY h.qn.2 (ne:=true) ho hu hks hcond (h.dr x ha.1) (h.dr y ha.2.1) hs hφ
     ·cases hc
    ·cases hc
   ·cases hc
  ·cases hc
 ·rename_i t x ho;cases hc;exact We ho (h.dr x ha.1) hs hφ
 ·rename_i t x ho;cases hc;exact ZX ho (h.dr x ha.1) hs hφ
 ·rename_i src dst x ho;split at hc;·rename_i k0 k1 hsr hds;cases hc;exact Xo ho hsr hds (h.dr x ha.1) hs hφ
  ·rename_i hsr hds;cases hc;exact Wl ho hsr hds (h.dr x ha.1) hs hφ
  ·rename_i e hsr hds;split at hc;·rename_i he;cases hc;exact Px ho hsr he hds h.heap (h.dr x ha.1) hs
   ·cases hc
  ·split at hc;·cases hc;simp[sf]at hk
   ·cases hc
  ·cases hc
 ·rename_i s x i ho;split at hc
  ·rename_i fs hu;split at hc
   ·rename_i f hf;split at hc;·rename_i n hsz;cases hc;exact aao ho hu hf hsz (h.dr x ha.1) hs hφ
    ·cases hc
   ·cases hc
  ·cases hc
 ·rename_i s x i ho;split at hc
  ·rename_i fs hu;split at hc;·rename_i f hf;obtain⟨n,hn,he⟩:=Option.map_eq_some_iff.1 hc;cases he;cases n with|none=>exact Pw ho hu hf hn (h.dr x ha.1) hs hφ|some n=>exact NJ ho hu hf hn (h.dr x ha.1) hs hφ
   ·cases hc
  ·cases hc
 ·rename_i t x y ho;split at hc;·rename_i e hu;obtain⟨sz,hsz,he⟩:=Option.map_eq_some_iff.1 hc;cases he;exact Xp ho hu hsz h.heap (h.dr x ha.1) (h.dr y ha.2.1) hs hφ
  ·rename_i n e hu;obtain⟨sz,hsz,he⟩:=Option.map_eq_some_iff.1 hc;cases he;exact Zr ho hu hsz (h.dr x ha.1) (h.dr y ha.2.1) hs hφ
  ·cases hc
 ·rename_i t x y ho;split at hc;·rename_i hu;cases hc;exact Ox ho hu (h.dr x ha.1) (h.dr y ha.2.1) hs hφ
  ·cases hc
 ·rename_i t x lo hi ho;split at hc;·rename_i hu;cases hc;simp only[List.singleton_append,List.cons_append,List.nil_append,List.map_cons,an]at ha hs;exact YR ho hu h.dr (h.dr x ha.1) ha.2 hs hφ
  ·rename_i e hu;obtain⟨sz,hsz,he⟩:=Option.map_eq_some_iff.1 hc;cases he;simp only[List.singleton_append,List.cons_append,List.nil_append,List.map_cons,an]at ha hs;exact YJ ho hu hsz h.heap h.dr (h.dr x ha.1) ha.2 hs hφ
  ·cases hc
 ·rename_i x i ho;cases hc;exact YB ho (h.dr x ha.1) hs hφ
 ·rename_i x ho;cases hc;exact Za ho (h.dr x ha.1) hs hφ
 ·rename_i f first caps ho;split at hc
  ·rename_i hf;have hf':first=#[]:=by apply Array.ext';simpa using hf
   subst hf';cases hc;exact WM ho h.dr ha hs hφ
  ·cases hc
 ·rename_i c ho;obtain⟨callee,args,argTypes⟩:=c;unfold gK at hc;simp only at hc;split at hc
  ·rename_i b;unfold dj at hc;split at hc;·
    rename_i x t hx ht;have hx':args=#[x]:=by apply Array.ext';simpa using hx
    have ht':argTypes=#[t]:=by apply Array.ext';simpa using ht
    subst hx' ht';split at hc;·rename_i hu;cases hc;exact OQ ho hu (h.dr x ha.1) hs hφ
    ·rename_i e hu;cases hc;exact Vc ho hu h.heap (h.dr x ha.1) hs hφ
    ·cases hc
   ·split at hc
    ·split at hc
     ·split at hc;·cases hc;simp[sf]at hk
      ·cases hc
     ·cases hc
    ·split at hc
     ·split at hc;·cases hc;simp[sf]at hk
      ·cases hc
     ·cases hc
    ·cases hc
   ·rename_i x y t t' hx ht;have hx':args=#[x,y]:=by apply Array.ext';simpa using hx
    have ht':argTypes=#[t,t']:=by apply Array.ext';simpa using ht
    subst hx' ht';cases hc;exact L8 (mx:=false) ho (h.dr x ha.1) (h.dr y ha.2.1) hs
   ·rename_i x y t t' hx ht;have hx':args=#[x,y]:=by apply Array.ext';simpa using hx
    have ht':argTypes=#[t,t']:=by apply Array.ext';simpa using ht
    subst hx' ht';cases hc;exact L8 (mx:=true) ho (h.dr x ha.1) (h.dr y ha.2.1) hs
   ·repeat'(split at hc)
    all_goals first|(cases hc;simp[sf]at hk;done)|cases hc
   ·cases hc
  ·split at hc;·cases hc;simp[sf]at hk
   ·cases hc
  ·cases hc;simp[sf]at hk
  ·cases hc
 ·cases hc
theorem aJ {K:Act→World→Prop}{Q:Exit→Act→World→Prop}{r:Value}{w':World} (hr:(execOp a.eval o).run P w=.ok (.value r) w') (hK:K (a.put o.dst r) w'):o.wp P a w K Q:=by unfold Oper.wp;rw[hr];exact hK
theorem iQ {K:Act→World→Prop}{Q:Exit→Act→World→Prop}{w':World} (hr:(execOp a.eval o).run P w=.ok .skip w') (hK:K (a.put o.dst undef) w'):o.wp P a w K Q:=by unfold Oper.wp;rw[hr];exact hK
theorem dJ {K:Act→World→Prop}{Q:Exit→Act→World→Prop}{f:FuncId}{args:Array Value}{w':World} (hr:(execOp a.eval o).run P w=.ok (.enter f args) w') (hK:Calls P f args w' fun e w''=>∃v,e=.returned v∧K (a.put o.dst v) w''):o.wp P a w K Q:=by unfold Oper.wp;rw[hr];refine Calls.mono hK ?_;rintro e w'' ⟨v,rfl,h⟩;exact h
theorem ae {α:Type}{q:Option α}{K:α→Prop} (h:ai q K):∃x,q=some x∧K x:=by cases q with|none=>exact h.elim|some x=>exact⟨x,rfl,h⟩
theorem G4 {x:Operand} (h:fe x=true):a.eval x=.slice none 0 0:=by
 unfold fe at h;split at h;·rfl
 ·cases h
theorem jh {f:FuncId}{args:Array Operand}{argTypes:Array TypeId} (ho:o.op=.call {callee:=.value (.func f),args:=args,argTypes:=argTypes}) (hf:ib P f=true):(execOp a.eval o).run P w=.ok (.enter f (args.map a.eval)) w:=by
 unfold ib at hf;split at hf
 ·rename_i fn hfn;simp only[Bool.and_eq_true,bne_iff_ne,ne_eq]at hf;have hn:=hf.1;have hb:¬fn.body=none:=fun e=>by rw[e]at hf;simp at hf
  simp[execOp,ho,resolve,Act.eval,Deferred.ofValue,invoke,callFunc,hfn,hn,hb]
 ·cases hf
theorem jP (h:Rel P S0 L B0 w0 N st a w β):∀(l:List Operand),an (l.map (Ab.ev st.vars))→∀(i:Nat) (v:Value) (x:AV),(l.map a.eval)[i]?=some v→((l.map (Ab.ev st.vars)).map strip)[i]?=some x→RV P (aU S0 w0.heap.size β st.aa w) w β (aG st.aa) v x:=by intro l ha i v x hv hx;rw[List.getElem?_map,Option.map_eq_some_iff]at hv;obtain⟨z,hz,rfl⟩:=hv;simp only[List.getElem?_map,hz,Option.map_some,Option.some.injEq]at hx;subst hx;exact h.dr z (lJ l i z ha hz)
theorem uh {Q:Exit→Act→World→Prop}{f:FuncId}{args:Array Operand}{argTypes:Array TypeId} (h:Rel P S0 L B0 w0 N st a w β) {d:Nat} (hd9:d%1000≠999) (ho:o.op=.call {callee:=.value (.func f),args:=args,argTypes:=argTypes}) (hf:ib P f=true) {ys:List AV}{r:AV} (ha:an (args.toList.map (Ab.ev st.vars))) (hre:fC st.aa ((args.toList.map (Ab.ev st.vars)).map strip)=some ys) (hcon:M6 P f ys r) (hpf:eR ((args.toList.map (Ab.ev st.vars)).map strip)=true∨qP r) (hfree:∀x∈jU d r,st.aa x.1=none) (hres:Bf d r=true) {K:Act→World→Prop} (hK:∀v w' β',Rel P S0 L B0 w0 N ⟨st.vars,bA (jU d r) st.aa⟩ a w' β'→RV P (aU S0 w0.heap.size β' (bA (jU d r) st.aa) w') w' β' (aG (bA (jU d r) st.aa)) v (Ag d r)→K (a.put o.dst v) w'):o.wp P a w K Q:=by
 refine dJ (jh ho hf) ?_;have hv:args.map a.eval=(args.toList.map a.eval).toArray:=by apply Array.ext';simp
 rw[hv];refine(lR (a:=a) h hd9 (by simp) (jP h args.toList ha) hre hcon hpf hfree hres).mono ?_;rintro e w' ⟨v,β',rfl,hR,hrv⟩;exact⟨v,rfl,hK v w' β' hR hrv⟩
theorem B6 (h:Rel P S0 L B0 w0 N st a w β) {c x y:Operand} (ho:o.op=.pick c x y) {φ:Prop}{v:AV} (hs:tE [Ab.ev st.vars c,Ab.ev st.vars x,Ab.ev st.vars y]=some (φ,v)) (hφ:φ):∃r,(execOp a.eval o).run P w=.ok (.value r) w∧RV P (aU S0 w0.heap.size β st.aa w) w β (aG st.aa) r v:=by
 simp only[tE,Option.bind_eq_some_iff,Option.map_eq_some_iff]at hs;obtain⟨b,hb,r,hs,hr⟩:=hs;cases hr;obtain⟨hca,hφ⟩:=hφ;obtain⟨φ,v⟩:=r;have hc:=(h.ev c).strip hca;have hX:=h.ev x;have hY:=h.ev y;generalize strip (Ab.ev st.vars c)=C at hb hc;have hce:a.eval c=.bool b:=by cases C with|pv p=>cases p<;>simp[ja]at hb;subst hb;exact hc.eC|_=>simp[ja]at hb
 unfold qE at hs;split at hs;·rename_i p q hp hq;simp only[Option.some.injEq,Prod.mk.injEq]at hs;obtain⟨rfl,rfl⟩:=hs;cases b with|true=>have hx:=hX.strip (hφ.1 rfl);rw[hp]at hx;exact⟨a.eval x,by simp[execOp,ho,hce,asBool],by simpa using hx⟩|false=>have hy:=hY.strip (hφ.2 rfl);rw[hq]at hy;exact⟨a.eval y,by simp[execOp,ho,hce,asBool],by simpa using hy⟩
 ·rename_i p hp _;simp only[Option.some.injEq,Prod.mk.injEq]at hs;obtain⟨rfl,rfl⟩:=hs;obtain⟨rfl,hφ⟩:=hφ;have hx:=hX.strip hφ;rw[hp]at hx;exact⟨a.eval x,by simp[execOp,ho,hce,asBool],hx⟩
 ·rename_i q hq _;simp only[Option.some.injEq,Prod.mk.injEq]at hs;obtain⟨rfl,rfl⟩:=hs;obtain⟨rfl,hφ⟩:=hφ;have hy:=hY.strip hφ;rw[hq]at hy;exact⟨a.eval y,by simp[execOp,ho,hce,asBool],hy⟩
 ·cases hs
theorem xY (hΓ:dS P Γ) {Q:Exit→Act→World→Prop} (h:Rel P S0 L B0 w0 N st a w β) (hc:gX P o=some (k,xs)) (hd:∀s,o.dst=some s→s<N) {C:bE→Prop} (hs:aZ P Γ o.dst k (xs.map (Ab.ev st.vars)) st.aa C):o.wp P a w (fun a' w'=>∃e β',C e∧Rel P S0 L B0 w0 N (e.on o.dst st) a' w' β') Q:=by
 by_cases hq:sf k=true;·
  have hs':an (xs.map (Ab.ev st.vars))∧ai (al k ((xs.map (Ab.ev st.vars)).map strip) st.aa) fun x=>x.1∧C (.put x.2):=by cases k<;>first|exact hs|(simp[sf]at hq)
  obtain⟨ha,hw⟩:=hs';obtain⟨⟨φ,v⟩,he,hφ,hC⟩:=ae hw;obtain⟨r,hr,hv⟩:=Hs h hc hq ha he hφ;exact aJ hr ⟨_,β,hC,h.put hd hv⟩
 ·have hmov:∀x:Operand,k=.nX→xs=[x]→(execOp a.eval o).run P w=.ok (.value (a.eval x)) w→o.wp P a w (fun a' w'=>∃e β',C e∧Rel P S0 L B0 w0 N (e.on o.dst st) a' w' β') Q:=by rintro x rfl rfl hr;dsimp only[aZ]at hs;obtain⟨y,hy,_,hC⟩:=ae hs;simp at hy;subst hy;exact aJ hr ⟨_,β,hC,h.put hd (h.ev x)⟩
  have hnil:∀(x:Operand) (e:TypeId),k=.ij e→(P.info? e).isSome=true→fe x=true→(execOp a.eval o).run P w=.ok (.value (a.eval x)) w→o.wp P a w (fun a' w'=>∃e β',C e∧Rel P S0 L B0 w0 N (e.on o.dst st) a' w' β') Q:=by rintro x e rfl hi hx hr;dsimp only[aZ]at hs;obtain⟨d,hdd,_,hw⟩:=ae hs;obtain⟨⟨φ,v,ao⟩,he,hφ,hn,hC⟩:=ae hw;simp only[cD,Option.some.injEq,Prod.mk.injEq]at he;obtain⟨rfl,rfl,rfl⟩:=he;rw[G4 hx]at hr;obtain⟨β',hR⟩:=UC h (hd d hdd) hn hi;refine aJ hr ⟨_,β',hC,?_⟩;rw[hdd];exact hR
  rcases dU hc with hc|⟨x,rfl,hx⟩;rotate_left
  ·have hs:an (xs.map (Ab.ev st.vars))∧ai (al (.ex x) ((xs.map (Ab.ev st.vars)).map strip) st.aa) fun x=>x.1∧C (.put x.2):=hs;by_cases hb:∃e sz,x=.mW e sz;·obtain⟨e,sz,rfl⟩:=hb;obtain⟨ha,hw⟩:=hs;obtain⟨⟨φ,v⟩,he,hφ,hC⟩:=ae hw;obtain⟨t,n,ps,zs,ho,hu,hsz,hz,h1,h2,h3,h4,rfl⟩:=CJ hx;unfold al at he;simp only[Option.map_eq_some_iff]at he;obtain⟨rows,hrows,he⟩:=he;simp only[Prod.mk.injEq]at he;obtain⟨rfl,rfl⟩:=he;obtain⟨r,w',hr,hR,hv⟩:=NS ho hu hsz hz h1 h2 h3 h4 h h.dr ha hrows hφ;exact aJ hr ⟨_,β,hC,hR.put hd hv⟩
   rw[CY (by simpa using hq) fun e sz hx=>hb ⟨e,sz,hx⟩]at hs;exact hs.2.elim
  unfold gD at hc;split at hc
  ·rename_i x ho;have hr:(execOp a.eval o).run P w=.ok (.value (a.eval x)) w:=by simp[execOp,ho]
   split at hc
   ·rename_i hx;split at hc
    ·split at hc;·rename_i hi;cases hc;exact hnil x _ rfl hi hx hr
     ·cases hc
    ·cases hc
   ·cases hc;exact hmov x rfl rfl hr
  ·rename_i x ho;have hr:(execOp a.eval o).run P w=.ok (.value (a.eval x)) w:=by simp[execOp,ho]
   split at hc
   ·rename_i hx;split at hc
    ·split at hc;·rename_i hi;cases hc;exact hnil x _ rfl hi hx hr
     ·cases hc
    ·cases hc
   ·cases hc;exact hmov x rfl rfl hr
  ·rename_i c x y ho;cases hc;dsimp only[aZ]at hs;obtain⟨⟨φ,v⟩,he,hφ,hC⟩:=ae hs;obtain⟨r,hr,hv⟩:=B6 h ho he hφ;exact aJ hr ⟨_,β,hC,h.put hd hv⟩
  ·rename_i e ho;obtain⟨zs,hz,he⟩:=Option.map_eq_some_iff.1 hc;cases he;dsimp only[aZ]at hs;obtain⟨d,hdd,_,hw⟩:=ae hs;obtain⟨⟨φ,v,ao⟩,he,hφ,hn,hC⟩:=ae hw;obtain⟨r,w',hr,β',hR⟩:=Jb ho hz h (hd d hdd) hn he;refine aJ hr ⟨_,β',hC,?_⟩;rw[hdd];exact hR
  ·rename_i e x ho;cases hc;dsimp only[aZ]at hs;obtain⟨d,hdd,ha,hw⟩:=ae hs;obtain⟨⟨φ,v,ao⟩,he,hφ,hn,hC⟩:=ae hw;obtain⟨r,w',hr,β',hR⟩:=X8 ho h (hd d hdd) hn (h.dr x ha.1) he;refine aJ hr ⟨_,β',hC,?_⟩;rw[hdd];exact hR
  ·split at hc
   ·split at hc;·cases hc
    ·obtain⟨l,hl,he⟩:=Option.map_eq_some_iff.1 hc;cases he;exact absurd rfl hq
   ·cases hc
  ·rename_i t n ps ho;split at hc
   ·rename_i e hu;split at hc
    ·rename_i sz zs hsz hz;split at hc;·rename_i hcond;obtain⟨_,hord,hbig,hzl,hpos⟩:=hcond;cases hc;dsimp only[aZ]at hs;obtain⟨d,hdd,ha,hw⟩:=ae hs;obtain⟨⟨φ,v,ao⟩,he,hφ,hn,hC⟩:=ae hw;obtain⟨r,w',hr,β',hR⟩:=KJ ho hu hsz hz hord hbig hzl hpos h (hd d hdd) hn h.dr ha he hφ;refine aJ hr ⟨_,β',hC,?_⟩;rw[hdd];exact hR
     ·cases hc
    ·cases hc
   ·cases hc
  ·obtain⟨n,hn,he⟩:=Option.map_eq_some_iff.1 hc;cases he;exact absurd rfl hq
  ·rename_i t x y ho;split at hc
   ·rename_i hn;split at hc;·rename_i h1;cases hc;obtain⟨ha,hw⟩:=hs;obtain⟨⟨φ,tg,ao⟩,he,hφ,hC⟩:=ae hw;obtain⟨w',hr,β',hR⟩:=F2 ho h1 h hd (h.dr x ha.1) (h.dr y ha.2.1) he hφ;exact iQ hr ⟨_,β',hC,hR⟩
    ·cases hc
   ·rename_i n hn;cases hc;obtain⟨ha,hw⟩:=hs;obtain⟨⟨φ,tg,ao⟩,he,hφ,hC⟩:=ae hw;obtain⟨w',hr,β',hR⟩:=FY ho hn h hd (h.dr x ha.1) (h.dr y ha.2.1) he hφ;exact iQ hr ⟨_,β',hC,hR⟩
   ·cases hc
  ·split at hc;·split at hc<;>first|(cases hc;exact absurd rfl hq)|cases hc
   ·cases hc;exact absurd rfl hq
   ·cases hc;exact absurd rfl hq
   ·split at hc
    ·split at hc;·split at hc<;>first|(cases hc;exact absurd rfl hq)|cases hc
     ·cases hc
    ·cases hc
   ·cases hc
  ·cases hc;exact absurd rfl hq
  ·cases hc;exact absurd rfl hq
  ·rename_i src dst x ho;split at hc;·cases hc;exact absurd rfl hq
   ·cases hc;exact absurd rfl hq
   ·split at hc;·cases hc;exact absurd rfl hq
    ·cases hc
   ·rename_i e hsr hds;split at hc;·rename_i he;cases hc;obtain⟨ha,hw⟩:=hs;obtain⟨⟨φ,v⟩,heq,hφ,hC⟩:=ae hw;have hX:=h.dr x ha.1;have heq:al (.ou e) [strip (Ab.ev st.vars x)] st.aa=some (φ,v):=heq;generalize strip (Ab.ev st.vars x)=X at hX heq;cases X with
     |pv p=>cases p with|str l=>simp only[al,Option.some.injEq,Prod.mk.injEq]at heq;obtain⟨rfl,rfl⟩:=heq;obtain⟨r,w',hr,hR,hv⟩:=NA ho hsr hds he h hX.eL;exact aJ hr ⟨_,β,hC,hR.put hd hv⟩|_=>simp[al]at heq
     |_=>simp[al]at heq
    ·cases hc
   ·cases hc
  ·split at hc
   ·split at hc
    ·split at hc;·cases hc;exact absurd rfl hq
     ·cases hc
    ·cases hc
   ·cases hc
  ·split at hc
   ·split at hc;·obtain⟨n,hn,he⟩:=Option.map_eq_some_iff.1 hc;cases he;exact absurd rfl hq
    ·cases hc
   ·cases hc
  ·split at hc;·obtain⟨n,hn,he⟩:=Option.map_eq_some_iff.1 hc;cases he;exact absurd rfl hq
   ·obtain⟨n,hn,he⟩:=Option.map_eq_some_iff.1 hc;cases he;exact absurd rfl hq
   ·cases hc
  ·split at hc;·cases hc;exact absurd rfl hq
   ·cases hc
  ·split at hc;·cases hc;exact absurd rfl hq
   ·obtain⟨n,hn,he⟩:=Option.map_eq_some_iff.1 hc;cases he;exact absurd rfl hq
   ·cases hc
  ·cases hc;exact absurd rfl hq
  ·cases hc;exact absurd rfl hq
  ·split at hc;·cases hc;exact absurd rfl hq
   ·cases hc
  ·rename_i c ho;obtain⟨callee,args,argTypes⟩:=c;unfold gK at hc;simp only at hc;split at hc
   ·rename_i b;unfold dj at hc;split at hc;·split at hc<;>first|(cases hc;exact absurd rfl hq)|cases hc
    ·rename_i x y t tx hx ht;have hx':args=#[x,y]:=by apply Array.ext';simpa using hx
     have ht':argTypes=#[t,tx]:=by apply Array.ext';simpa using ht
     subst hx' ht';have happ:∀(e:TypeId) (inf:TypeInfo),P.underlying t=some (.slice e)→((∃e',P.underlying tx=some (.slice e'))∨P.underlying tx=some .string)→P.info? e=some inf→0<inf.size→(dN P e).isSome=true→aZ P Γ o.dst (.app e inf.size inf.bytes) ([x,y].map (Ab.ev st.vars)) st.aa C→o.wp P a w (fun a' w'=>∃e β',C e∧Rel P S0 L B0 w0 N (e.on o.dst st) a' w' β') Q:=by
      intro e inf hu hux hi hpos hzt hs;obtain⟨ha,hw⟩:=hs;split at hw;·obtain⟨⟨φ,tg,ao⟩,he,hφ,hC⟩:=ae hw;obtain⟨r,w',hr,β',hR⟩:=VD ho hu hux hi hpos hzt h hd (h.dr x ha.1) (h.dr y ha.2.1) he hφ;exact aJ hr ⟨_,β',hC,hR⟩
      ·obtain⟨d,hdd,hw⟩:=ae hw;obtain⟨⟨φ,v,ao⟩,he,hφ,hn,hC⟩:=ae hw;obtain⟨r,w',hr,β',hR⟩:=WT ho hu hux hi hpos hzt h (hd d hdd) hn (h.dr x ha.1) (h.dr y ha.2.1) he hφ;refine aJ hr ⟨_,β',hC,?_⟩;rw[hdd];exact hR
     split at hc
     ·rename_i e hu hux;split at hc
      ·rename_i inf hi;split at hc;·rename_i hcond;cases hc;exact happ e inf hu (.inr hux) hi (by omega) hcond.2 hs
       ·cases hc
      ·cases hc
     ·rename_i e e' hu hux;split at hc
      ·rename_i inf hi;split at hc;·rename_i hcond;cases hc;exact happ e inf hu (.inl ⟨e',hux⟩) hi hcond.1 hcond.2 hs
       ·cases hc
      ·cases hc
     ·cases hc
    ·cases hc;exact absurd rfl hq
    ·cases hc;exact absurd rfl hq
    ·repeat'(split at hc)
     all_goals first|(cases hc;exact hs.2.elim)|cases hc
    ·cases hc
   ·rename_i f;split at hc
    ·rename_i hf;cases hc;dsimp only[aZ]at hs;dsimp only[cH]at hs;obtain⟨d,hdd,ha,hw⟩:=ae hs;obtain⟨ys,hys,hw⟩:=ae hw;obtain⟨⟨φ,r⟩,hr,hφ,hpf,hfree,hres,hC⟩:=ae hw;have hcon:=hΓ.con (iA hf) hr hφ;have hdlt:d<N:=hd d hdd;have hlim:=h.qn.1;have hd9:d%1000≠999:=by omega
     refine uh h hd9 ho hf ha hys hcon hpf hfree hres ?_;intro v w' β' hR hv;refine⟨_,β',hC,?_⟩;exact hR.put hd hv
    ·cases hc
   ·cases hc;exact hs.2.elim
   ·cases hc
  ·cases hc
end
def Core (P:Program) (N:Nat) (ops:Array Oper) (o:Oper) (i:AI):Prop:=gX P o=some (i.k,i.xs)∧i.d=o.dst∧(∀d,i.d=some d→d<N)∧((o.guard=none∧i.g=none)∨∃j want s,o.guard=some (j,want)∧(ops[j]?).bind (·.dst)=some s∧i.g=some (s,want))
theorem B8 {P:Program}{N:Nat}{ops:Array Oper}{o:Oper}{i:AI} (h:GO P N ops o=some i):Core P N ops o i:=by unfold GO at h;cases hk:gX P o with|none=>rw[hk]at h;simp at h|some kx=>
 obtain⟨k,xs⟩:=kx;rw[hk]at h;dsimp only at h;have key:∀b:Bool,(∀d,o.dst=some d→b=true→d<N)→(if(!b)=true then none else match o.guard with|none=>some (⟨o.dst,k,xs,none,[],none⟩:AI)|some (j,want)=>match(ops[j]?).bind (·.dst) with|some s=>some ⟨o.dst,k,xs,some (s,want),[],none⟩|none=>none)=some i→Core P N ops o i:=by intro b hb h;cases b with|false=>simp at h|true=>simp only[Bool.not_true,Bool.false_eq_true,if_false]at h;cases hg:o.guard with|none=>rw[hg]at h;simp only[Option.some.injEq]at h;subst h;exact⟨hk,rfl,fun d e=>hb d e rfl,.inl ⟨hg,rfl⟩⟩|some jw=>obtain⟨j,want⟩:=jw;rw[hg]at h;dsimp only at h;cases hs:(ops[j]?).bind (·.dst) with|none=>rw[hs]at h;cases h|some s=>rw[hs]at h;simp only[Option.some.injEq]at h;subst h;exact⟨hk,rfl,fun d e=>hb d e rfl,.inr ⟨j,want,s,hg,hs,rfl⟩⟩
 refine key _ ?_ h;intro d hd hb;rw[hd]at hb;simp at hb;exact hb.1
theorem eG {P:Program}{ops:Array Oper}{o:Oper}{a:Act} (h:o.guard=none):Region.wanted o (yielded ops a.tmps)=true:=by unfold Region.wanted;rw[h]
def PX:Value→Option Bool|.bool b=>some b|_=>none
theorem n6 {P:Program}{w:World}{β:Nat→Value}{S:Nat→Prop}{D:Nat→Prop}{want:Bool}:∀{v:AV}{u:Value}{c:Bool},RV P S w β D u v→bJ v want=some c→(PX u==some want)=c
 |.pv p,u,c,hu,h=>by cases p with|bool b=>rw[hu.eC];simp only[bJ,Option.some.injEq]at h;subst h;cases want<;>cases b<;>rfl|_=>simp[bJ]at h
 |.ck g v,u,c,hu,h=>by cases hu with|ck _ _ _ h1 h2=>cases g with|false=>rw[h2 rfl];simp only[bJ,tQ,Option.some.injEq]at h;subst h;rfl|true=>exact n6 (v:=v) (h1 rfl) (by simpa[bJ,tQ]using h)
 |.own _,_,_,_,h|.ptr _ _,_,_,_,h|.aY _ _ _ _,_,_,_,h|.sub _ _ _ _,_,_,_,h|.rp _,_,_,_,h|.agg _,_,_,_,h|.aS _,_,_,_,h|.bZ _ _,_,_,_,h|.fr _ _,_,_,_,h|.ak,_,_,_,h=>by simp[bJ]at h
theorem dD {P:Program}{w:World}{β:Nat→Value}{S:Nat→Prop}{D:Nat→Prop}{ops:Array Oper}{o:Oper}{a:Act}{j:Nat}{want:Bool}{s:Nat}{v:AV}{c:Bool} (h:o.guard=some (j,want)) (hs:(ops[j]?).bind (·.dst)=some s) (hv:RV P S w β D (a.tmps.getD s undef) v) (hc:bJ v want=some c):Region.wanted o (yielded ops a.tmps)=c:=by rw[←n6 hv hc];unfold Region.wanted;rw[h];simp only[yielded,hs,Option.bind_some];rw[Array.getD_eq_getD_getElem?];cases a.tmps[s]? with|none=>rfl|some v=>cases v<;>rfl
def Hd (g:Nat→AV→AV):Prop:=∀p c,(∀e rows,c≠.fr e rows)→g p c=c
theorem vQ (d i:Nat):Hd fun p c=>lA d (p+i) c:=by intro p c hc;cases c<;>first|rfl|exact absurd rfl (hc _ _)
theorem tP {g:Nat→AV→AV} (hg:Hd g):∀(cs:List AV) (j:Nat),fY j cs=[]→fZ g j cs=cs
 |[],_,_=>rfl|c::cs,j,h=>by
  have hc:∀e rows,c≠.fr e rows:=by rintro e rows rfl;simp[fY]at h
  have h':fY (j+1) cs=[]:=by cases c<;>first|exact h|exact absurd rfl (hc _ _)
  simp only[fZ];rw[hg _ _ hc,tP hg cs (j+1) h']
theorem vP {g:Nat→AV→AV} (hg:Hd g) {v:AV} (h:lv v=[]):mX g v=v:=by
 have hv:∀e rows,v≠.fr e rows:=by rintro e rows rfl;simp[lv]at h
 cases v<;>first|exact congrArg AV.agg (tP hg _ _ h)|exact hg _ _ hv
theorem uB {d:Nat}:∀(vs:List AV) (i:Nat),my i vs=[]→iX (lA d) i vs=vs|[],_,_=>rfl|v::vs,i,h=>by simp only[my,List.append_eq_nil_iff,List.map_eq_nil_iff]at h;simp only[iX];rw[vP (vQ d i) h.1,uB vs (i+1) h.2]
theorem qX {d:Nat}{r:AV} (h:Bs r=[]):cR (lA d) r=r:=by
 have hr:(∃vs,r=.aS vs)∨(Bs r=lv r∧cR (lA d) r=mX (fun p c=>lA d (p+0) c) r):=by cases r<;>first|exact .inl ⟨_,rfl⟩|exact .inr ⟨rfl,rfl⟩
 rcases hr with⟨vs,rfl⟩|⟨h1,h2⟩;·exact congrArg AV.aS (uB _ _ h)
 ·rw[h2];exact vP (vQ d 0) (h1▸h)
theorem Fy {ys:List AV}{aa:Nat→Option AO}:al .ly ys aa=none:=by unfold al;split<;>first|rfl|simp_all
theorem FZ {e:TypeId}{sz:Nat}{zs:List Value}{ys:List AV}{aa:Nat→Option AO}:al (.HR e sz zs) ys aa=none:=by unfold al;split<;>first|rfl|simp_all
theorem pK {P:Program}{b:Builtin}{ys xs:List Operand}{ts:List TypeId}{f:FuncId} (hc:dj P b ys ts=some (.call f,xs)):False:=by
 unfold dj at hc;repeat'(split at hc)
 all_goals(simp at hc)
theorem lM {P:Program}{o:Oper}{f:FuncId}{xs:List Operand} (hc:gX P o=some (.call f,xs)):∃args argTypes,o.op=.call {callee:=.value (.func f),args:=args,argTypes:=argTypes}∧ib P f=true∧xs=args.toList:=by
 rcases dU hc with hc|⟨x,h0,_⟩;rotate_left;·cases h0
 unfold gD at hc;split at hc;case h_22=>
  rename_i cl ho;obtain⟨callee,args,argTypes⟩:=cl;unfold gK at hc;simp only at hc;split at hc;·exact(pK hc).elim
  ·split at hc;·rename_i hf;simp only[Option.some.injEq,Prod.mk.injEq,AK.call.injEq]at hc;obtain⟨rfl,hx⟩:=hc;exact⟨args,argTypes,ho,hf,hx.symm⟩
   ·cases hc
  ·simp at hc
  ·cases hc
 all_goals
  exfalso;repeat'(split at hc)
  all_goals(simp at hc)
section
variable{P:Program}{Γ:bR}{S0 L:Nat→Prop}{B0:Nat→Value}{w0 w:World}{N:Nat}{st:St}{a:Act}{β:Nat→Value}{o:Oper}{k:AK}{xs:List Operand}
theorem Rel.Fa (h:Rel P S0 L B0 w0 N st a w β) {vars:Nat→AV} (hv:∀s v,RV P (aU S0 w0.heap.size β st.aa w) w β (aG st.aa) v (st.vars s)→RV P (aU S0 w0.heap.size β st.aa w) w β (aG st.aa) v (vars s)):Rel P S0 L B0 w0 N ⟨vars,st.aa⟩ a w β:=⟨h.size,h.defers,fun s=>hv s _ (h.vars s),h.heap,h.old,h.qn,h.u5,h.bS⟩
theorem Cr {S:Nat→Prop}{D:Nat→Prop} (xs:List AV):RV P S w β D undef (Ac xs):=by unfold Ac;cases rowsOf (xs.map strip) with|none=>exact .ak _|some rows=>exact .ck _ _ _ (fun e=>by cases e) fun _=>rfl
theorem Rel.xZ {d:Option Nat}{c:Bool}{v:AV} (hc:c=true) (h:Rel P S0 L B0 w0 N ((bE.put v).on d st) a w β):Rel P S0 L B0 w0 N ((bE.put (.ck c v)).on d st) a w β:=by refine h.Fa (vars:=Ab.put d (.ck c v) st.vars) fun s u hu=>?_;cases d with|none=>exact hu|some d=>
 by_cases hs:s=d;·subst hs;simp only[bE.on,Ab.put,if_true]at hu ⊢;exact .ck c _ _ (fun _=>hu) (fun e=>by rw[hc]at e;cases e)
 ·simpa[bE.on,Ab.put,hs]using hu
theorem Rel.fi {d:Option Nat}{v:AV} (hd:∀s,d=some s→s<N) (h:Rel P S0 L B0 w0 N st a w β) (hv:RV P (aU S0 w0.heap.size β st.aa w) w β (aG st.aa) undef v):Rel P S0 L B0 w0 N ((bE.put v).on d st) (a.put d undef) w β:=h.put hd hv
theorem MJ (hΓ:dS P Γ) {Q:Exit→Act→World→Prop}{ops:Array Oper}{i:AI} (h:Rel P S0 L B0 w0 N st a w β) (hi:Core P N ops o i) {C:bE→Prop} (hs:dR P Γ i st.vars st.aa C):if Region.wanted o (yielded ops a.tmps) then o.wp P a w (fun a' w'=>∃e β',C e∧Rel P S0 L B0 w0 N (e.on i.d st) a' w' β') Q else∃e β',C e∧Rel P S0 L B0 w0 N (e.on i.d st) (a.put o.dst undef) w β':=by
 obtain⟨hc,hd,hdN,hg⟩:=hi;have hdN':∀s,o.dst=some s→s<N:=fun s e=>hdN s (hd.trans e);rcases hg with⟨hg,hig⟩|⟨j,want,s,hg,hj,hig⟩;·rw[eG (P:=P) hg];simp only[if_true];unfold dR at hs;rw[hig]at hs;rw[hd]at hs ⊢;exact xY hΓ h hc hdN' hs
 ·unfold dR at hs;rw[hig]at hs;obtain⟨c,hcg,hs⟩:=ae hs;rw[dD hg hj (h.vars s) hcg];rw[hd]at hs ⊢;have hreg:∀(g:bE→bE),(∀e,∀{a' w' β'},Rel P S0 L B0 w0 N (e.on o.dst st) a' w' β'→Rel P S0 L B0 w0 N ((g e).on o.dst st) a' w' β')→aZ P Γ o.dst i.k (i.xs.map (Ab.ev st.vars)) st.aa (fun e=>C (g e))→o.wp P a w (fun a' w'=>∃e β',C e∧Rel P S0 L B0 w0 N (e.on o.dst st) a' w' β') Q:=by intro g hgr hk;refine Oper.wp_mono ?_ (xY hΓ h hc hdN' hk);rintro a' w' ⟨e,β',hC,hR⟩;exact⟨g e,β',hC,hgr e hR⟩
  have hq:sf i.k=true→(ai (al i.k ((i.xs.map (Ab.ev st.vars)).map strip) st.aa) fun x=>(c=true→an (i.xs.map (Ab.ev st.vars))∧x.1)∧C (.put (.ck c x.2)))→if c=true then o.wp P a w (fun a' w'=>∃e β',C e∧Rel P S0 L B0 w0 N (e.on o.dst st) a' w' β') Q else∃e β',C e∧Rel P S0 L B0 w0 N (e.on o.dst st) (a.put o.dst undef) w β':=by intro hk hw;obtain⟨⟨φ,v⟩,he,hφ,hC⟩:=ae hw;cases c with|true=>obtain⟨r,hr,hv⟩:=Hs h hc hk (hφ rfl).1 he (hφ rfl).2;exact aJ hr ⟨_,β,hC,h.put hdN' (.ck _ _ _ (fun _=>hv) fun e=>by cases e)⟩|false=>exact⟨_,β,hC,h.fi hdN' (.ck _ _ _ (fun e=>by cases e) fun _=>rfl)⟩
  have hmk:∀{v:AV},RV P (aU S0 w0.heap.size β st.aa w) w β (aG st.aa) undef v→(c=true→aZ P Γ o.dst i.k (i.xs.map (Ab.ev st.vars)) st.aa C)∧(c=false→C (.put v))→if c=true then o.wp P a w (fun a' w'=>∃e β',C e∧Rel P S0 L B0 w0 N (e.on o.dst st) a' w' β') Q else∃e β',C e∧Rel P S0 L B0 w0 N (e.on o.dst st) (a.put o.dst undef) w β':=by rintro v hv ⟨ht,hf⟩;cases c with|true=>exact hreg id (fun _ _ _ _ hR=>hR) (ht rfl)|false=>exact⟨_,β,hf rfl,h.fi hdN' hv⟩
  generalize hik:i.k=k at hc hs hreg hq hmk;cases k with
  |nX=>dsimp only[cw]at hs;obtain⟨x,hx,hl,hC⟩:=ae hs;cases c with
   |true=>
    refine hreg (fun e=>match e with|.put v=>.put (.ck true v)|e=>e) ?_ ?_;·intro e a' w' β' hR;cases e<;>first|exact hR.xZ rfl|exact hR
    ·dsimp only[aZ];rw[hx];exact⟨hl,hC⟩|false=>exact⟨_,β,hC,h.fi hdN' (.ck _ _ _ (fun e=>by cases e) fun _=>rfl)⟩
  |pick=>dsimp only[cw]at hs;obtain⟨x,hx,hl,hC⟩:=ae hs;cases c with
   |true=>
    refine hreg (fun e=>match e with|.put v=>.put (.ck true v)|e=>e) ?_ ?_;·intro e a' w' β' hR;cases e<;>first|exact hR.xZ rfl|exact hR
    ·dsimp only[aZ];rw[hx];exact⟨hl rfl,hC⟩|false=>exact⟨_,β,hC,h.fi hdN' (.ck _ _ _ (fun e=>by cases e) fun _=>rfl)⟩
  |ij e=>exact hmk (.ak _) hs|box=>exact hmk (.ak _) hs|alloc zs=>exact hmk (.ak _) hs|rT e sz=>exact hmk (Cr _) hs|store n=>exact hmk (.ak _) hs|app e sz bytes=>exact hmk (.ak _) hs|call f=>
   dsimp only[cw]at hs;obtain⟨ys,hys,hs⟩:=ae hs;obtain⟨⟨φ,r⟩,hr,hs⟩:=ae hs;split at hs;rotate_left;·exact hmk (.ck _ _ _ (fun e=>by cases e) fun _=>rfl) hs
   obtain⟨hcon,hfl,hfr,hres,hC⟩:=hs;cases c with|true=>
    have hcall:=lM hc;obtain⟨args,argTypes,ho,hf,hx⟩:=hcall;rw[hx]at hys hcon;have htr:=Dq hfl;have hnil:∀d,jU d r=[]:=fun d=>by rw[ue htr];unfold aP;rw[hfr];rfl
    refine uh (d:=0) h (by omega) ho hf (hcon rfl).1 hys (hΓ.con (iA hf) hr (hcon rfl).2) (.inr (by rw[qS htr];exact hfl)) (by rw[hnil];intro x hx;cases hx) (by rw[tq htr];exact hres) ?_;intro v w' β' hR hv;rw[hnil]at hR hv;rw[tT htr,qX hfr]at hv;exact⟨_,β',hC,hR.put hdN' (.ck _ _ _ (fun _=>hv) fun e=>by cases e)⟩|false=>exact⟨_,β,hC,h.fi hdN' (.ck _ _ _ (fun e=>by cases e) fun _=>rfl)⟩
  |ly=>have hs:ai (al .ly ((i.xs.map (Ab.ev st.vars)).map strip) st.aa) fun x=>(c=true→an (i.xs.map (Ab.ev st.vars))∧x.1)∧C (.put (.ck c x.2)):=hs;rw[Fy]at hs;exact hs.elim|rW=>exact hq rfl hs|G3 mx=>exact hq rfl hs|eqs ne ks=>exact hq rfl hs|ou e=>have hs:ai (al (.ou e) ((i.xs.map (Ab.ev st.vars)).map strip) st.aa) fun x=>(c=true→an (i.xs.map (Ab.ev st.vars))∧x.1)∧C (.put (.ck c x.2)):=hs;cases c with
   |true=>
    refine hreg (fun e=>match e with|.put v=>.put (.ck true v)|e=>e) ?_ ?_;·intro e a' w' β' hR;cases e<;>first|exact hR.xZ rfl|exact hR
    ·obtain⟨r,hr,hφ,hC⟩:=ae hs;show an _∧ai (al _ _ _) _;rw[hr];exact⟨(hφ rfl).1,(hφ rfl).2,hC⟩|false=>obtain⟨r,hr,hφ,hC⟩:=ae hs;exact⟨_,β,hC,h.fi hdN' (.ck _ _ _ (fun e=>by cases e) fun _=>rfl)⟩
  |ex x=>
   have hs:ai (al (.ex x) ((i.xs.map (Ab.ev st.vars)).map strip) st.aa) fun x=>(c=true→an (i.xs.map (Ab.ev st.vars))∧x.1)∧C (.put (.ck c x.2)):=hs;by_cases hq':sf (.ex x)=true;·exact hq hq' hs
   ·by_cases hb:∃e sz,x=.mW e sz;·obtain⟨e,sz,rfl⟩:=hb;cases c with|true=>
     refine hreg (fun e=>match e with|.put v=>.put (.ck true v)|e=>e) ?_ ?_;·intro e a' w' β' hR;cases e<;>first|exact hR.xZ rfl|exact hR
     ·obtain⟨r,hr,hφ,hC⟩:=ae hs;show an _∧ai (al _ _ _) _;rw[hr];exact⟨(hφ rfl).1,(hφ rfl).2,hC⟩|false=>obtain⟨r,hr,hφ,hC⟩:=ae hs;exact⟨_,β,hC,h.fi hdN' (.ck _ _ _ (fun e=>by cases e) fun _=>rfl)⟩
    ·rw[CY (by simpa using hq') fun e sz hx=>hb ⟨e,sz,hx⟩]at hs;exact hs.elim|HR e sz zs=>have hs:ai (al (.HR e sz zs) ((i.xs.map (Ab.ev st.vars)).map strip) st.aa) fun x=>(c=true→an (i.xs.map (Ab.ev st.vars))∧x.1)∧C (.put (.ck c x.2)):=hs;rw[FZ]at hs;exact hs.elim|_=>exact hq rfl hs
end
theorem pF {P:Program}{Γ:bR}{d:Option Nat}{k:AK}{xs:List AV}{aa:Nat→Option AO}{C:bE→Prop} (hs:aZ P Γ d k xs aa C):∃e,C e∧aZ P Γ d k xs aa fun e'=>e'=e:=by cases k with
 |nX=>dsimp only[aZ]at hs ⊢;obtain⟨x,hx,hl,hC⟩:=ae hs;exact⟨_,hC,by rw[hx];exact⟨hl,rfl⟩⟩|pick=>dsimp only[aZ]at hs ⊢;obtain⟨x,hx,hl,hC⟩:=ae hs;exact⟨_,hC,by rw[hx];exact⟨hl,rfl⟩⟩|ij e=>dsimp only[aZ]at hs ⊢;obtain⟨d,hd,ha,hw⟩:=ae hs;obtain⟨x,hx,hl,hn,hC⟩:=ae hw;exact⟨_,hC,by rw[hd];exact⟨ha,by rw[hx];exact⟨hl,hn,rfl⟩⟩⟩|box=>dsimp only[aZ]at hs ⊢;obtain⟨d,hd,ha,hw⟩:=ae hs;obtain⟨x,hx,hl,hn,hC⟩:=ae hw;exact⟨_,hC,by rw[hd];exact⟨ha,by rw[hx];exact⟨hl,hn,rfl⟩⟩⟩|alloc zs=>dsimp only[aZ]at hs ⊢;obtain⟨d,hd,ha,hw⟩:=ae hs;obtain⟨x,hx,hl,hn,hC⟩:=ae hw;exact⟨_,hC,by rw[hd];exact⟨ha,by rw[hx];exact⟨hl,hn,rfl⟩⟩⟩|rT e sz=>dsimp only[aZ]at hs ⊢;obtain⟨d,hd,ha,hw⟩:=ae hs;obtain⟨x,hx,hl,hn,hC⟩:=ae hw;exact⟨_,hC,by rw[hd];exact⟨ha,by rw[hx];exact⟨hl,hn,rfl⟩⟩⟩|store n=>dsimp only[aZ]at hs ⊢;obtain⟨ha,hw⟩:=hs;obtain⟨x,hx,hl,hC⟩:=ae hw;exact⟨_,hC,ha,by rw[hx];exact⟨hl,rfl⟩⟩|app e sz bytes=>
  dsimp only[aZ]at hs ⊢;obtain⟨ha,hw⟩:=hs;by_cases ho:pg (xs.map strip)=true;·rw[if_pos ho]at hw;obtain⟨x,hx,hl,hC⟩:=ae hw;exact⟨_,hC,ha,by rw[if_pos ho,hx];exact⟨hl,rfl⟩⟩
  ·rw[if_neg ho]at hw;obtain⟨d,hd,hw⟩:=ae hw;obtain⟨x,hx,hl,hn,hC⟩:=ae hw;exact⟨_,hC,ha,by rw[if_neg ho,hd];show ai (cD _ d _ _) _;rw[hx];exact⟨hl,hn,rfl⟩⟩|call f=>dsimp only[aZ,cH]at hs ⊢;obtain⟨d,hd,ha,hw⟩:=ae hs;obtain⟨ys,hys,hw⟩:=ae hw;obtain⟨⟨φ,r⟩,hr,h1,h2,h3,h4,hC⟩:=ae hw;exact⟨_,hC,by rw[hd];exact⟨ha,by rw[hys];show ai (gt Γ f ys) _;rw[hr];exact⟨h1,h2,h3,h4,rfl⟩⟩⟩|_=>obtain⟨ha,hw⟩:=hs;obtain⟨x,hx,hl,hC⟩:=ae hw;exact⟨_,hC,ha,by rw[hx];exact⟨hl,rfl⟩⟩
theorem xo {P:Program}{Γ:bR}{c:Bool}{d:Option Nat}{k:AK}{xs:List AV}{aa:Nat→Option AO}{C:bE→Prop} (hs:cw P Γ c d k xs aa C):∃e,C e∧cw P Γ c d k xs aa fun e'=>e'=e:=by
 have hmk:∀{v:AV},((c=true→aZ P Γ d k xs aa C)∧(c=false→C (.put v)))→∃e,C e∧((c=true→aZ P Γ d k xs aa fun e'=>e'=e)∧(c=false→bE.put v=e)):=by rintro v ⟨ht,hf⟩;cases c with|true=>obtain⟨e,he,hs⟩:=pF (ht rfl);exact⟨e,he,fun _=>hs,fun h=>by cases h⟩|false=>exact⟨_,hf rfl,fun h=>(by cases h),fun _=>rfl⟩
 cases k with|nX=>dsimp only[cw]at hs ⊢;obtain⟨x,hx,hl,hC⟩:=ae hs;exact⟨_,hC,by rw[hx];exact⟨hl,rfl⟩⟩|pick=>dsimp only[cw]at hs ⊢;obtain⟨x,hx,hl,hC⟩:=ae hs;exact⟨_,hC,by rw[hx];exact⟨hl,rfl⟩⟩|ij e=>exact hmk hs|box=>exact hmk hs|alloc zs=>exact hmk hs|rT e sz=>exact hmk hs|store n=>exact hmk hs|app e sz bytes=>exact hmk hs|call f=>
  dsimp only[cw]at hs ⊢;obtain⟨ys,hys,hs⟩:=ae hs;obtain⟨⟨φ,r⟩,hr,hs⟩:=ae hs;split at hs;·rename_i hif;obtain⟨h1,h2,h3,h4,hC⟩:=hs;exact⟨_,hC,by rw[hys];show ai (gt Γ f ys) _;rw[hr];show ite _ _ _;rw[if_pos hif];exact⟨h1,h2,h3,h4,rfl⟩⟩
  ·rename_i hif;obtain⟨e,he,hs⟩:=hmk hs;exact⟨e,he,by rw[hys];show ai (gt Γ f ys) _;rw[hr];show ite _ _ _;rw[if_neg hif];exact hs⟩|_=>dsimp only[cw]at hs ⊢;obtain⟨x,hx,hl,hC⟩:=ae hs;exact⟨_,hC,by rw[hx];exact⟨hl,rfl⟩⟩
theorem Ff {P:Program}{Γ:bR}{i:AI}{vars:Nat→AV}{aa:Nat→Option AO}{C:bE→Prop} (hs:dR P Γ i vars aa C):∃e,C e∧dR P Γ i vars aa fun e'=>e'=e:=by unfold dR at hs ⊢;cases hg:i.g with|none=>rw[hg]at hs;exact pF hs|some sw=>obtain⟨s,w⟩:=sw;rw[hg]at hs;dsimp only at hs ⊢;obtain⟨c,hc,hs⟩:=ae hs;obtain⟨e,he,hs⟩:=xo hs;exact⟨e,he,by rw[hc];exact hs⟩
theorem C7 (v:AV):(∃f cs,v=.bZ f cs)∨((∀aa,nW aa v=fg aa v)∧∀T aa,rB T aa v=nQ T aa v):=by cases v<;>first|exact .inl ⟨_,_,rfl⟩|exact .inr ⟨fun _=>rfl,fun _ _=>rfl⟩
theorem GK (v:AV):(∃t o,v=.ptr t o)∨(∃cs,v=.agg cs)∨∀T aa,nQ T aa v=vw T v:=by cases v<;>first|exact .inl ⟨_,_,rfl⟩|exact .inr (.inl ⟨_,rfl⟩)|exact .inr (.inr fun _ _=>rfl)
theorem U9 (v:AV):((∃t,v=.own t)∨∃t e lo hi,v=.sub t e lo hi)∨∀aa objs',ei aa v=ei objs' v:=by cases v<;>first|exact .inl (.inl ⟨_,rfl⟩)|exact .inl (.inr ⟨_,_,_,_,rfl⟩)|exact .inr fun _ _=>rfl|(rename_i p;exact .inr fun _ _=>by cases p<;>rfl)
section
variable{T:List Nat}{aa objs':Nat→Option AO} (hag:∀t,jV T t→aa t=objs' t)
include hag
theorem nF {v:AV} (h:vw T v):ei aa v=ei objs' v:=by
 rcases U9 v with(⟨t,rfl⟩|⟨t,e,lo,hi,rfl⟩)|hv;·simp only[ei];rw[hag t h]
 ·simp only[ei];rw[hag t h]
 ·exact hv _ _
theorem lS:∀{cs:List AV},ir T cs→im aa cs=im objs' cs|[],_=>rfl|c::cs,h=>by simp only[im];rw[nF hag h.1,lS h.2]
omit hag in theorem sK:∀{cs:List AV} (n:Nat),ir T cs→ir T (cs.drop n)|[],n,_=>by simp[ir]|c::cs,0,h=>h|c::cs,n+1,h=>sK n h.2
theorem td {v:AV} (h:nQ T aa v):fg aa v=fg objs' v:=by cases v with
 |ptr t o=>obtain⟨h1,h2⟩:=h;simp only[fg];rw[←hag t h1];cases hb:eV (aa t) with|none=>rfl|some cs=>rw[hb]at h2;simp only[Option.getD_some]at h2;simp only[Option.bind_some];rw[lS hag (sK o h2)]
 |agg cs=>simp only[fg];rw[lS hag h]|bZ f cs=>cases cs<;>rfl|rp cs=>rfl|pv p=>cases p<;>rfl|own t=>exact congrArg (Option.map AV.pv) (nF hag (v:=.own t) h)|aY t e i o=>rfl|sub t e lo hi=>exact congrArg (Option.map AV.pv) (nF hag (v:=.sub t e lo hi) h)|aS vs=>rfl|fr e rows=>rfl|bx cs=>rfl|mf es=>rfl|ck g v=>rfl|ak=>rfl
theorem qW:∀{cs:List AV},ll T aa cs→lu aa cs=lu objs' cs|[],_=>rfl|c::cs,h=>by simp only[lu];rw[td hag h.1,qW h.2]
theorem Ek {v:AV} (h:rB T aa v):nW aa v=nW objs' v:=by
 rcases C7 v with⟨f,cs,rfl⟩|⟨h1,h2⟩;·exact congrArg (Option.map (AV.bZ f)) (qW hag h)
 ·rw[h1,h1];rw[h2]at h;exact td hag h
theorem nw:∀{cs:List AV},j8 T aa cs→fC aa cs=fC objs' cs|[],_=>rfl|c::cs,h=>by simp only[fC];rw[Ek hag h.1,nw h.2]
theorem uN {v:AV} (h:nQ T aa v):nQ T objs' v:=by
 rcases GK v with⟨t,o,rfl⟩|⟨cs,rfl⟩|h2;·exact⟨h.1,by rw[←hag t h.1];exact h.2⟩
 ·exact h
 ·rw[h2]at h ⊢;exact h
theorem qU:∀{cs:List AV},ll T aa cs→ll T objs' cs|[],_=>trivial|c::cs,h=>⟨uN hag h.1,qU h.2⟩
theorem EZ {v:AV} (h:rB T aa v):rB T objs' v:=by
 rcases C7 v with⟨f,cs,rfl⟩|⟨h1,h2⟩;·exact qU hag h
 ·rw[h2]at h ⊢;exact uN hag h
theorem jf:∀{cs:List AV},j8 T aa cs→j8 T objs' cs|[],_=>trivial|c::cs,h=>⟨EZ hag h.1,jf h.2⟩
end
section
variable{T U:List Nat}{aa:Nat→Option AO} (hsub:∀t,jV U t→jV T t)
include hsub
theorem zY {v:AV} (h:vw U v):vw T v:=by cases v<;>first|trivial|exact hsub _ h
theorem pR:∀{cs:List AV},ir U cs→ir T cs|[],_=>trivial|c::cs,h=>⟨zY hsub h.1,pR h.2⟩
theorem uf {v:AV} (h:nQ U aa v):nQ T aa v:=by
 rcases GK v with⟨t,o,rfl⟩|⟨cs,rfl⟩|h2;·exact⟨hsub _ h.1,pR hsub h.2⟩
 ·exact pR hsub h
 ·rw[h2]at h ⊢;exact zY hsub h
theorem vL:∀{cs:List AV},ll U aa cs→ll T aa cs|[],_=>trivial|c::cs,h=>⟨uf hsub h.1,vL h.2⟩
theorem D0 {v:AV} (h:rB U aa v):rB T aa v:=by
 rcases C7 v with⟨f,cs,rfl⟩|⟨h1,h2⟩;·exact vL hsub h
 ·rw[h2]at h ⊢;exact uf hsub h
theorem uu:∀{cs:List AV},j8 U aa cs→j8 T aa cs|[],_=>trivial|c::cs,h=>⟨D0 hsub h.1,uu h.2⟩
end
theorem iJ {k:AK}{ys:List AV}{aa objs':Nat→Option AO}{r:Prop×AV} (hk:aK k=true) (h:al k ys aa=some r):al k ys objs'=some r:=by unfold al at h;split at h<;>first|exact h|(simp[aK]at hk;done)|cases h
section
variable{T:List Nat}{aa objs':Nat→Option AO} (hag:∀t,jV T t→aa t=objs' t)
include hag
theorem AU {x:AV} (h:rB T aa x):fy aa x=fy objs' x:=by cases x with|own t=>simp only[fy];rw[hag t h]|sub t e lo hi=>simp only[fy];rw[hag t h]|pv p=>cases p<;>rfl|_=>rfl
theorem tN {k:AK}{ys:List AV}{r:Prop×AV} (hno:j8 T aa ys) (h:al k ys aa=some r):al k ys objs'=some r:=by unfold al at h;split at h<;>first|exact h|(simp only[al];rw[←hag _ hno.1];exact h)|(simp only[al];rw[←hag _ hno.1.1];exact h)|(simp only[al];rw[←AU hag hno.1];exact h)|cases h
theorem Ch {k:AK}{ys:List AV}{r:Prop×Nat×AO} (hk:isApp k=false) (hno:j8 T aa ys) (h:eS k ys aa=some r):eS k ys objs'=some r:=by unfold eS at h;split at h<;>first|(simp only[eS];rw[←hag _ hno.1];exact h)|(simp only[eS];rw[←hag _ hno.1.1];exact h)|(simp[isApp]at hk;done)|cases h
omit hag in theorem D5 {k:AK}{d:Nat}{ys:List AV}{r:Prop×AV×AO} (hk:isApp k=false) (h:cD k d ys aa=some r):cD k d ys objs'=some r:=by unfold cD at h;split at h<;>first|exact h|(simp[isApp]at hk;done)|cases h
theorem tA {P:Program}{Γ:bR}{d:Option Nat}{k:AK}{xs:List AV}{C:bE→Prop} (hk:isApp k=false) (hd:∀s,d=some s→s<1000∧T.contains s=false) (hno:aK k=true∨j8 T aa (xs.map strip)) (hs:aZ P Γ d k xs aa C):aZ P Γ d k xs objs' C:=by
 have hfree:∀s p,d=some s→aa (s+1000*p)=objs' (s+1000*p):=by intro s p hs;refine hag _ ?_;unfold jV;rw[Nat.add_mul_mod_self_left,Nat.mod_eq_of_lt (hd s hs).1];exact(hd s hs).2
 have hmk:∀{k:AK},isApp k=false→(ai d fun d=>an xs∧ai (cD k d (xs.map strip) aa) fun x=>x.1∧aa d=none∧C (.new x.2.1 [(d,x.2.2)]))→ai d fun d=>an xs∧ai (cD k d (xs.map strip) objs') fun x=>x.1∧objs' d=none∧C (.new x.2.1 [(d,x.2.2)]):=by intro k hk hw;obtain⟨s,hs,ha,hw⟩:=ae hw;obtain⟨x,hx,hφ,hn,hC⟩:=ae hw;rw[hs];refine⟨ha,?_⟩;rw[D5 (aa:=aa) (objs':=objs') hk hx];have:=hfree s 0 hs;simp only[Nat.mul_zero,Nat.add_zero]at this;exact⟨hφ,this▸hn,hC⟩
 cases k with|nX=>exact hs|pick=>exact hs|ij e=>exact hmk (k:=.ij e) rfl hs|box=>exact hmk (k:=.box) rfl hs|alloc zs=>exact hmk (k:=.alloc zs) rfl hs|rT e sz=>exact hmk (k:=.rT e sz) rfl hs|store n=>have hno:=hno.resolve_left (by simp[aK]);obtain⟨ha,hw⟩:=hs;refine⟨ha,?_⟩;obtain⟨x,hx,hC⟩:=ae hw;rw[Ch hag hk hno hx];exact hC|app e sz bytes=>simp[isApp]at hk|call f=>have hno:=hno.resolve_left (by simp[aK]);dsimp only[aZ,cH]at hs ⊢;obtain⟨s,hs',ha,hw⟩:=ae hs;obtain⟨ys,hys,hw⟩:=ae hw;obtain⟨⟨φ,r⟩,hr,h1,h2,h3,h4,hC⟩:=ae hw;rw[hs'];refine⟨ha,?_⟩;rw[←nw hag hno,hys];show ai (gt Γ f ys) _;rw[hr];refine⟨h1,h2,?_,h4,hC⟩;intro x hx;have:=h3 x hx;obtain⟨y,hy⟩:=wL s r x hx;rw[hy]at this ⊢;rw[←hfree s y hs'];exact this|_=>obtain⟨ha,hw⟩:=hs;refine⟨ha,?_⟩;obtain⟨x,hx,hC⟩:=ae hw;rw[hno.elim (fun h=>iJ (objs':=objs') h hx) (fun h=>tN hag h hx)];exact hC
theorem Cc {P:Program}{Γ:bR}{c:Bool}{d:Option Nat}{k:AK}{xs:List AV}{C:bE→Prop} (hk:isApp k=false) (hd:∀s,d=some s→s<1000∧T.contains s=false) (hno:aK k=true∨j8 T aa (xs.map strip)) (hs:cw P Γ c d k xs aa C):cw P Γ c d k xs objs' C:=by have hmk:∀{v:AV},((c=true→aZ P Γ d k xs aa C)∧(c=false→C (.put v)))→((c=true→aZ P Γ d k xs objs' C)∧(c=false→C (.put v))):=fun h=>⟨fun hc=>tA hag hk hd hno (h.1 hc),h.2⟩;cases k with
 |nX=>exact hs|pick=>exact hs|ij e=>exact hmk hs|box=>exact hmk hs|alloc zs=>exact hmk hs|rT e sz=>exact hmk hs|store n=>exact hmk hs|app e sz bytes=>exact hmk hs|call f=>
  have hno:=hno.resolve_left (by simp[aK]);dsimp only[cw]at hs ⊢;rw[←nw hag hno];obtain⟨ys,hys,hs⟩:=ae hs;obtain⟨⟨φ,r⟩,hr,hs⟩:=ae hs;rw[hys];show ai (gt Γ f ys) _;rw[hr];show ite _ _ _;split at hs;·rename_i hif;rw[if_pos hif];exact hs
  ·rename_i hif;rw[if_neg hif];exact hmk hs|_=>dsimp only[cw]at hs ⊢;obtain⟨x,hx,hC⟩:=ae hs;rw[hno.elim (fun h=>iJ (objs':=objs') h hx) (fun h=>tN hag h hx)];exact hC
end
end Go.Proofs.YtifcndkhigakfaaGreat.Ab
