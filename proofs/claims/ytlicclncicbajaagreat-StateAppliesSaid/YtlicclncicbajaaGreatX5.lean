/- The abstract machine is sound: a call of a function that takes objects whole, or borrows them. -/
import Derived.Test.YtlicclncicbajaaGreatX4
import Derived.Laws.StructEq
import Derived.MapKept
import Derived.Lib.LazyBuf
import Derived.Laws.Externs
import Derived.Lib.AppendZeros
import Derived.Laws.MakeOwn
set_option linter.unusedVariables false
set_option linter.unusedSimpArgs false
set_option linter.unnecessarySimpa false
set_option maxHeartbeats 40000000
set_option maxRecDepth 100000
set_option linter.defProp false
namespace Go.Proofs.YtlicclncicbajaaGreat.Ab
open Go Go.RowKit
def q92:=@List.not_mem_nil
def q99:=@MapKept.run_getObj_map
def q109:=@MapKept.run_checkKey
def q111:=@MapKept.run_findKey
def q115:=@Nat.mod_eq_of_lt
def q121:=@List.mem_cons_self
def q125:=@List.mem_filter
def q132:=@List.getElem?_eq_none
def q136:=@Bool.false_eq_true
def q141:=@List.any_eq_false
def q160:=@List.mem_filterMap
def q179:=@List.mem_flatMap
def q204:=@List.map_eq_nil_iff
def q211:=@List.ext_getElem?
def q222:=@List.any_cons
def q232:=@List.length_eq_one_iff
def q251:=@List.flatten_append
def q263:=@Bool.or_false
def q264:=@Bool.true_and
def q273:=@Nat.add_mul_mod_self_left
def q278:=@Oper.wp_mono
def q284:=@MapKept.sameNow_of_keys
def q286:=@List.headD_cons
def q287:=@List.head?_cons
def q298:=@List.nodup_nil
def q299:=@List.contains_iff_mem
def q300:=@List.drop_left
def q301:=@List.singleton_append
def q303:=@Bool.not_true
end Go.Proofs.YtlicclncicbajaaGreat.Ab
namespace Go.Proofs.YtlicclncicbajaaGreat.Ab
open Go Go.RowKit
variable {f:FuncId}{ys:List AV}{φ:Prop}{r v:AV}{C:bI→Prop}{p:PV}{sz:Nat}{ops:Array Oper}{Q:Exit→Act→World→Prop}{z:Value}{vals:List Value}{ok:Bool}{ks:List Nat}{kt:TypeId}{argTypes:Array TypeId}
section
variable{P:Program}{S S':Nat→Prop}{w w':World}{β β':Nat→Value}{D D':Nat→Prop}{aa objs':Nat→Option AO}
theorem HT.mono (hS:∀b,S b→S' b) {v:Value}{y:AV}{bs:List Nat} (h:HT P S w v y bs):HT P S' w v y bs:=by have hS2:∀b,S b→S' b∧w.heap[b]?=w.heap[b]?:=fun b hb=>⟨hS b hb,rfl⟩;induction h with|leaf v y h=>exact .leaf v y (h.mono hS2 fun _ hf=>hf.elim)|fr v e rows inf us h1 h2 h3 h4=>exact .fr v e rows inf us h1 h2 h3 fun i j r p a b=>by obtain⟨u,c,d,e⟩:=h4 i j r p a b;exact⟨u,c,d,e.mono hS2⟩|mf b us c es h1 hst h2 h3=>exact .mf b us c es h1 hst h2 fun i e u a b=>⟨(h3 i e u a b).1,(h3 i e u a b).2.1,(h3 i e u a b).2.2.1,(h3 i e u a b).2.2.2.mono hS2⟩|bx b us ty cs bss h1 h2 h3 h4 h5 ih=>exact .bx b us ty cs bss h1 h2 h3 h4 ih|agg us cs bss h1 h2 h3 ih=>exact .agg us cs bss h1 h2 ih|aO us cs bss h1 h2 h3 ih=>exact .aO us cs bss h1 h2 ih
theorem qy:∀(n:Nat) {v:Value}{y:AV},fT n y→RV P S w (fun _=>undef) (fun _=>False) v y→RV P S' w (fun _=>undef) (fun _=>False) v y
 |0,_,_,h,_=>h.elim|n+1,v,y,h,hv=>by
  unfold fT at h;split at h;·cases hv
  ·cases hv
  ·cases hv
  ·obtain⟨us,rfl,hl,hc⟩:=hv.da;exact .agg _ us hl fun i c u a b=>qy n (h c (List.mem_of_getElem? a)) (hc i c u a b)
  ·obtain⟨us,rfl,hl,hc⟩:=hv.jC;exact .aO _ us hl fun i c u a b=>qy n (h c (List.mem_of_getElem? a)) (hc i c u a b)
  ·exact .pv _ _ (fy hv.bq h)
  ·obtain⟨us,rfl,hl,_⟩:=hv.m9;exact .bE _ [] us hl fun i c u hc=>by simp at hc
  ·exact h.elim
theorem HT.flat:∀(n:Nat) {v:Value}{y:AV}{bs:List Nat},fT n y→HT P S w v y bs→HT P S' w v y bs|0,_,_,_,h,_=>h.elim|n+1,v,y,bs,hf,h=>by cases h with|leaf v y h=>exact .leaf v y (qy (n+1) hf h)|fr v e rows inf us h1 h2 h3 h4=>exact .fr v e rows inf us h1 h2 h3 fun i j r p a b=>by obtain⟨u,c,d,e⟩:=h4 i j r p a b;exact⟨u,c,d,fy e (hf r (List.mem_of_getElem? a) p (List.mem_of_getElem? b))⟩|mf b us c es h1 hst h2 h3=>exact .mf b us c es h1 hst h2 fun i e u a b=>⟨(h3 i e u a b).1,(h3 i e u a b).2.1,(h3 i e u a b).2.2.1,fy (h3 i e u a b).2.2.2 (hf e (List.mem_of_getElem? a))⟩|bx b us ty cs bss h1 h2 h3 h4 h5=>exact .bx b us ty cs bss h1 h2 h3 h4 fun i c u bs a b d=>HT.flat n (hf c (List.mem_of_getElem? a)) (h5 i c u bs a b d)|agg us cs bss h1 h2 h3=>exact .agg us cs bss h1 h2 fun i c u bs a b d=>HT.flat n (hf c (List.mem_of_getElem? a)) (h3 i c u bs a b d)|aO us cs bss h1 h2 h3=>exact .aO us cs bss h1 h2 fun i c u bs a b d=>HT.flat n (hf c (List.mem_of_getElem? a)) (h3 i c u bs a b d)
theorem uE:∀(n:Nat) {x:AV}{r:AV×List Nat},rd n aa x=some r→(∀t∈r.2,aG aa t)∧∀l,r.1≠.aO l
 |0,_,_,h=>by cases h|n+1,x,r,h=>by
  have lst:∀{l:List AV}{q:List AV×List Nat},H8 (rd n aa) l=some q→∀t∈q.2,aG aa t:=by intro l;induction l with|nil=>intro q h;cases h;intro t ht;simp at ht|cons c l ih=>
   intro q h t ht;obtain⟨r,hr,h⟩:=q63.1 h;obtain⟨q',hq,rfl⟩:=q0.1 h;rcases q80.1 ht with ht|ht;·exact(uE n hr).1 t ht
   ·exact ih hq t ht
  unfold rd at h;split at h
  ·rename_i t;obtain⟨y,hy,rfl⟩:=q0.1 h;unfold VX at hy;split at hy;·rename_i ho;cases hy;exact⟨fun s hs=>by simp only[q75]at hs;rw[hs];exact⟨_,ho⟩,fun l e=>by cases e⟩
   ·rename_i ho;cases hy;exact⟨fun s hs=>by simp only[q75]at hs;rw[hs];exact⟨_,ho⟩,fun l e=>by cases e⟩
   ·cases hy
  ·obtain⟨cs,hc,h⟩:=q63.1 h;obtain⟨q,hq,rfl⟩:=q0.1 h;refine⟨fun s hs=>?_,fun l e=>by cases e⟩;rcases q76.1 hs with rfl|hs;·exact⟨_,fH hc⟩
   ·exact lst hq s hs
  ·obtain⟨q,hq,rfl⟩:=q0.1 h;exact⟨lst hq,fun l e=>by cases e⟩
  ·cases h;exact⟨fun t ht=>by simp at ht,fun l e=>by cases e⟩
  ·cases h;exact⟨fun t ht=>by simp at ht,fun l e=>by cases e⟩
  ·cases h;exact⟨fun t ht=>by simp at ht,fun l e=>by cases e⟩
  ·cases h
theorem Rk {x y:AV} (h:pf aa x=some y):∀l,y≠.aO l:=by
 intro l e;subst e;have h1:∀x,fv aa x≠some (.aO l):=by
  intro x h;unfold fv at h;split at h;·obtain⟨_,_,h⟩:=q63.1 h;obtain⟨_,_,h⟩:=q0.1 h;cases h
  ·cases h
  ·obtain⟨_,_,h⟩:=q0.1 h;cases h
  ·cases h
  ·obtain⟨_,_,h⟩:=q0.1 h;cases h
 unfold pf at h;split at h;·obtain⟨_,_,h⟩:=q0.1 h;cases h
 ·exact h1 _ h
theorem F3 {y:AV} (h:∀l,y≠.aO l):I7 y=false∧Kp y=y:=by cases y<;>first|exact⟨rfl,rfl⟩|exact absurd rfl (h _)
theorem Iz (hh:Heap P S w β aa) (hS:∀b,S b→S' b) {T:List Nat} (hh':Heap P S w β objs') (hw:∀{v x},RV P S w β (aG aa) v x→RV P S w β (aG objs') v (fu T x)):∀{ks:List Nat}{xs ys:List AV}{vals:List Value},BC aa objs' T ks xs=some ys→vals.length=xs.length→(∀(i:Nat) (v:Value) (x:AV),vals[i]?=some v→xs[i]?=some x→RV P S w β (aG aa) v x)→(eH T ks xs=true∨∀t b,aG objs' t→cr (β t)=some b→S' b)→∃bss,FU P S' w vals (ys.map Kp) bss∧bss.flatten=dz β (eU aa ks xs)∧(∀t∈eU aa ks xs,aG aa t)∧(eI ys vals).length=(er ks xs).length∧∀(i:Nat) (c:AV) (u:Value),(er ks xs)[i]?=some c→(eI ys vals)[i]?=some u→RV P S w β (aG aa) u c
 |[],[],ys,vals,h,hl,_,_=>by cases h;cases vals with|nil=>exact⟨[],⟨rfl,rfl,fun i y v bs h=>by simp at h⟩,rfl,fun t ht=>by simp[eU]at ht,rfl,fun i c u hc=>by simp[er]at hc⟩|cons v vs=>simp at hl
 |[],_::_,_,_,h,_,_,_=>by cases h|_::_,[],_,_,h,_,_,_=>by cases h|k::ks,x::xs,ys,vals,h,hl,hv,hp=>by obtain⟨y,hy,h⟩:=q63.1 h;obtain⟨ys,hys,rfl⟩:=q0.1 h;match vals,hl with
  |v::vals,hl=>
   have hp':(k !=0||eC (fu T x))=true∧eH T ks xs=true∨∀t b,aG objs' t→cr (β t)=some b→S' b:=by
    rcases hp with h|h;·left;simpa[eH]using h
    ·exact .inr h
   obtain⟨bss,⟨l1,l2,hts⟩,hfl,hdm,hln,hlv⟩:=Iz hh hS hh' hw hys (by simpa using hl) (fun i v x a b=>hv (i+1) v x (by simpa using a) (by simpa using b)) (hp'.imp And.right id);have hvx:=hv 0 v x rfl rfl;have one:∃bs,HT P S' w v (Kp y) bs∧bs=dz β (if k=0 then[] else((rd 5 aa x).map (·.2)).getD [])∧(∀t∈(if k=0 then[] else((rd 5 aa x).map (·.2)).getD []),aG aa t)∧(I7 y=true↔1<k):=by
    by_cases h0:k=0;·subst h0;simp only[if_true]at hy ⊢;obtain⟨e1,e2⟩:=F3 (Rk hy);refine⟨[],.leaf _ _ ?_,rfl,fun t ht=>by simp at ht,by rw[e1];simp⟩;rw[e2];exact qW hh' hS (hw hvx) hy (hp'.imp (fun h=>by simpa using h.1) id)
    ·simp only[if_neg h0]at hy ⊢;by_cases h1:k=1;·subst h1;simp only[if_true]at hy;obtain⟨r,hr,rfl⟩:=q0.1 hy;obtain⟨e1,e2⟩:=F3 (uE 5 hr).2;obtain⟨m1,m2⟩:=DZ (P:=P) 5 hr;refine⟨_,mq hh hS 5 (y:=Kp r.1) (by rw[e2];exact m1) hvx,by rw[hr,m2];rfl,fun t ht=>(uE 5 hr).1 t (by simpa[hr]using ht),by rw[e1];simp⟩
     ·simp only[if_neg h1]at hy;obtain⟨r,hr,rfl⟩:=q0.1 hy;obtain⟨m1,m2⟩:=DZ (P:=P) 5 hr;refine⟨_,mq hh hS 5 (y:=Kp (.aO [r.1])) m1 hvx,by rw[hr,m2];rfl,fun t ht=>(uE 5 hr).1 t (by simpa[hr]using ht),by simp only[I7,true_iff];omega⟩
   obtain⟨bs,hbt,rfl,hbd,hk⟩:=one;refine⟨_::bss,⟨by simpa using l1,by simpa using l2,fun i y' v' bs' a b c=>?_⟩,by rw[q267,hfl];exact(fA β _ _).symm,fun t ht=>?_,?_,fun i c u=>?_⟩;·cases i with|zero=>simp only[q71,q69,qr]at a b c;rw[←a,←b,←c];exact hbt|succ i=>exact hts i y' v' bs' (by simpa using a) (by simpa using b) (by simpa using c)
   ·rcases q80.1 ht with ht|ht;·exact hbd t ht
    ·exact hdm t ht
   ·by_cases hc:1<k;·simp only[eI,hk.2 hc,er,hc,if_true,q79,hln]
    ·have:I7 y=false:=by cases he:I7 y with|false=>rfl|true=>exact absurd (hk.1 he) hc
     simp only[eI,this,er,hc,if_false,hln,q136]
   ·by_cases hc:1<k;·simp only[eI,hk.2 hc,er,hc,if_true];intro a b;cases i with|zero=>simp only[q69,qr]at a b;rw[←a,←b];exact hvx|succ i=>exact hlv i c u (by simpa using a) (by simpa using b)
    ·have:I7 y=false:=by cases he:I7 y with|false=>rfl|true=>exact absurd (hk.1 he) hc
     simp only[eI,this,er,hc,if_false,q136];exact hlv i c u
theorem DJ {D':Nat→Prop}{u:Value}{c:AV} (h:RV P S w β D u c) (h':RV P S' w' β' D' u c):∀t∈sG c,β' t=β t∧D' t:=by
 intro t ht;unfold sG at ht;split at ht;·simp only[q75]at ht;subst ht;exact⟨h'.aX.1.symm.trans h.aX.1,h'.aX.2⟩
 ·simp only[q75]at ht;subst ht;obtain⟨b,e1,_,hb⟩:=h.ew;obtain⟨b',e2,hd,hb'⟩:=h'.ew;rw[hb,hb',←e1,←e2];exact⟨rfl,hd⟩
 ·simp at ht
theorem J2 {D':Nat→Prop}{u:Value}{c:AV} (h:RV P S w β D u c) (h':RV P S' w' β' D' u c):∀t∈sy c,β' t=β t∧D' t:=by
 by_cases hx:∃cs,c=.agg cs
 ·obtain⟨cs,rfl⟩:=hx;intro t ht;obtain⟨c,hc,ht⟩:=q179.1 ht;obtain⟨us,rfl,hl,hcs⟩:=h.da;obtain⟨us',e,hl',hcs'⟩:=h'.da;have:us=us':=by simpa using e
  subst this;obtain⟨i,hi⟩:=q101 hc;have hlt:i<us.length:=by rw[hl];exact(q65.1 hi).1
  exact DJ (hcs i c _ hi (q64 hlt)) (hcs' i c _ hi (q64 hlt)) t ht
 ·have:sy c=sG c:=by cases c<;>first|rfl|exact absurd ⟨_,rfl⟩ hx
  rw[this];exact DJ h h'
theorem FU.snoc {vs:List Value}{v:Value}{y:AV}{bss:List (List Nat)} (h:FU P S w (vs++[v]) (ys++[y]) bss) (hl:vs.length=ys.length):∃b1 bl,bss=b1++[bl]∧FU P S w vs ys b1∧HT P S w v y bl:=by
 obtain⟨h1,h2,h3⟩:=h;have hl2:bss.length=ys.length+1:=by simpa using h2
 have hne:bss≠[]:=by intro e;rw[e]at hl2;simp at hl2
 obtain⟨b1,bl,rfl⟩:∃b1 bl,bss=b1++[bl]:=⟨bss.dropLast,bss.getLast hne,(List.dropLast_concat_getLast hne).symm⟩;have hb1:b1.length=ys.length:=by simpa using hl2
 refine⟨b1,bl,rfl,⟨hl,hb1,fun i y' v' bs a b c=>?_⟩,h3 ys.length y v bl (by simp) (by rw[←hl];simp) (by rw[←hb1];simp)⟩;have k1:=(q65.1 a).1;exact h3 i y' v' bs (by rw[q85 k1];exact a) (by rw[q85 (by omega)];exact b) (by rw[q85 (by omega)];exact c)
end
theorem wR {aa:Nat→Option AO}:∀(ks:List Nat) (xs:List AV) (t:Nat),t∈eU aa ks xs→aG aa t
 |[],_,_,ht=>by simp[eU]at ht|_::_,[],_,ht=>by simp[eU]at ht|k::ks,x::xs,t,ht=>by
  rcases q80.1 ht with ht|ht
  ·by_cases h0:k=0;·simp[h0]at ht
   ·rw[if_neg h0]at ht;cases hr:rd 5 aa x with|none=>rw[hr]at ht;simp at ht|some r=>rw[hr]at ht;exact(uE 5 hr).1 t (by simpa using ht)
  ·exact wR ks xs t ht
theorem lq:∀{os:List (Nat×AO)}{t:Nat}{o:AO},ab os t=some o→(t,o)∈os
 |[],_,_,h=>by cases h|(s,o')::os,t,o,h=>by
  simp only[ab]at h;split at h;·rename_i e;cases h;rw[e];exact q121
  ·exact q103 _ (lq h)
theorem nh:∀{os:List (Nat×AO)}{p:Nat×AO},p∈os→∃o,ab os p.1=some o
 |[],_,h=>by simp at h|(s,o')::os,p,h=>by
  simp only[ab];split;·exact⟨o',rfl⟩
  ·rename_i hne;rcases q76.1 h with rfl|h;·exact absurd rfl hne
   ·exact nh h
section
variable{P:Program}{S0 L:Nat→Prop}{B0:Nat→Value}{w0 w:World}{N:Nat}{st:St}{a:Act}{β:Nat→Value}
theorem H5 {T:List Nat} (hL:T≠[]→∀b,L b→S0 b) (h:Rel P S0 L B0 w0 N st a w β) {d:Nat} (hd9:d%1000≠999) {xs ys:List AV}{x:AV}{Q W:List Nat} (hl:vals.length=xs.length) (hv:∀(i:Nat) (v:Value) (x:AV),vals[i]?=some v→xs[i]?=some x→RV P (aZ S0 w0.heap.size β st.aa w) w β (aG st.aa) v x) (hT:T=eU st.aa ks xs) (hQ:Q=(er ks xs).flatMap sy) (hW:W=T.filter fun t=>!Q.contains t) (hTn:T.Nodup) (hQT:∀t∈Q,t∈T) (hQn:(Q++pd d T W).Nodup) (hys:BC st.aa (fm T T st.aa) T ks xs=some ys) (hcon:Da P f ys x) (hpf:eH T ks xs=true∨∀y∈lO x++[kS x],fT 5 y) {o:List AV×List (Nat×AO)×List Nat×List Nat} (ho:oa (num 5 true) (lO x) (Q,pd d T W)=some o) (ho1:o.1=er ks xs) {r:AV×List (Nat×AO)×List Nat×List Nat} (hr:num 5 false (kS x) o.2.2=some r) (hfree:∀p∈o.2.1++r.2.1,T.contains p.1=true∨st.aa p.1=none):Calls P f vals.toArray w fun e w'=>∃v β',e=.returned v∧Rel P S0 L B0 w0 N ⟨iq W st.vars,bG (o.2.1++r.2.1) (fm T W st.aa)⟩ a w' β'∧RV P (aZ S0 w0.heap.size β' (bG (o.2.1++r.2.1) (fm T W st.aa)) w') w' β' (aG (bG (o.2.1++r.2.1) (fm T W st.aa))) v r.1:=by classical
 let S:=aZ S0 w0.heap.size β st.aa w;have hTd:∀t∈T,aG st.aa t:=by intro t ht;rw[hT]at ht;exact wR _ _ t ht
 have hTlive:∀b∈dz β T,live β st.aa b∧b<w.heap.size:=by intro b hb;obtain⟨t,ht,hb⟩:=q160.1 hb;obtain⟨o,ho⟩:=hTd t ht;exact⟨⟨t,o,ho,hb⟩,h.lt ⟨o,ho⟩ hb⟩
 have hTinj:∀t b,aG st.aa t→t∉T→cr (β t)=some b→b∉dz β T:=by intro t b ht hn hb hm;obtain⟨s,hs,hb'⟩:=q160.1 hm;exact hn (h.heap.inj t s b ht (hTd s hs) hb hb'▸hs)
 have hTnd:(dz β T).Nodup:=by
  have:∀l:List Nat,l.Nodup→(∀t∈l,aG st.aa t)→(dz β l).Nodup:=by intro l;induction l with|nil=>intro _ _;exact q298|cons t l ih=>
   intro hn hd;rw[q173]at hn;have e:dz β (t::l)=(cr (β t)).toList++dz β l:=by rw[←kq];exact fA β [t] l
   rw[e];cases hb:cr (β t) with|none=>exact ih hn.2 fun t ht=>hd t (q103 _ ht)|some b=>show(b::dz β l).Nodup;rw[q173];refine⟨fun hm=>?_,ih hn.2 fun t ht=>hd t (q103 _ ht)⟩;obtain⟨s,hs,hb'⟩:=q160.1 hm;exact hn.1 (h.heap.inj t s b (hd t q121) (hd s (q103 _ hs)) hb hb'▸hs)
  exact this T hTn hTd
 have hcT:∀t,T.contains t=true↔t∈T:=fun t=>by simp
 have hdom':∀t,aG (fm T T st.aa) t↔(t∉T∧aG st.aa t):=by
  intro t;simp only[aG,fm];constructor
  ·rintro⟨o,ho⟩;split at ho;·cases ho
   ·rename_i hc;obtain⟨o',ho',_⟩:=q0.1 ho;exact⟨fun hm=>hc ((hcT t).2 hm),o',ho'⟩
  ·rintro⟨hn,o,ho⟩;exact⟨jG T o,by rw[if_neg (fun hc=>hn ((hcT t).1 hc)),ho];rfl⟩
 have hDw:∀s,aG st.aa s→T.contains s=false→aG (fm T T st.aa) s∧β s=β s:=fun s hs hc=>⟨(hdom' s).2 ⟨fun hm=>absurd ((hcT s).2 hm) (by rw[hc];exact q260),hs⟩,rfl⟩;have hwp:∀{v x},RV P S w β (aG st.aa) v x→RV P S w β (aG (fm T T st.aa)) v (fu T x):=fun hx=>hx.fu (fun b hb=>⟨hb,rfl⟩) hDw;have hh':Heap P S w β (fm T T st.aa):=by
  refine⟨fun t o ht=>?_,fun t t' b ht ht'=>h.heap.inj t t' b ((hdom' t).1 ht).2 ((hdom' t').1 ht').2⟩;simp only[fm]at ht;split at ht;·cases ht
  ·obtain⟨o',ho',rfl⟩:=q0.1 ht;exact(h.heap.holds t o' ho').fu (fun b hb=>⟨hb,rfl⟩) hDw rfl (fun _ _=>rfl)
 obtain⟨S1,hS1,hS1b,hcase⟩:∃S1:Nat→Prop,(∀b,S b→S1 b)∧(∀b,S1 b→b<w.heap.size∧b∉dz β T)∧((eH T ks xs=true∧S1=S)∨((∀y∈lO x++[kS x],fT 5 y)∧∀b,b<w.heap.size→b∉dz β T→S1 b)):=by
  have hSb:∀b,S b→b<w.heap.size∧b∉dz β T:=fun b hb=>⟨hb.2.1,fun hm=>hb.2.2 (hTlive b hm).1⟩;rcases hpf with hp|hp;·exact⟨S,fun b hb=>hb,hSb,.inl ⟨hp,rfl⟩⟩
  ·exact⟨fun b=>b<w.heap.size∧b∉dz β T,hSb,fun b hb=>hb,.inr ⟨hp,fun b h1 h2=>⟨h1,h2⟩⟩⟩
 obtain⟨bss,hts,hbs,_,hln,hlv⟩:=Iz h.heap hS1 hh' hwp hys hl hv (hcase.imp And.left fun hc t b ht hb=>hc.2 b (h.lt ((hdom' t).1 ht).2 hb) (hTinj t b ((hdom' t).1 ht).2 ((hdom' t).1 ht).1 hb));rw[←hT]at hbs;refine(hcon w S1 vals bss (fun b hb=>by rw[hbs];exact hS1b b hb) (by rw[hbs];exact hTnd) hts).mono ?_;rw[hbs];rintro e w' ⟨v,bss',rfl,hfr,hnd,hloc,hres⟩;let S3:Nat→Prop:=fun b=>(S0 b∨w0.heap.size≤b)∧b<w'.heap.size∧b∉bss'.flatten∧¬∃t,aG st.aa t∧t∉T∧cr (β t)=some b;have hTold:∀b∈dz β T,S0 b∨w0.heap.size≤b:=by intro b hb;obtain⟨t,ht,hb⟩:=q160.1 hb;exact(h.old t b (hTd t ht) hb).elim .inr fun hl=>.inl (hL (fun e=>by rw[e]at ht;cases ht) b hl)
 have hres3:FU P S3 w' (eI ys vals++[v]) (lO x++[kS x]) bss':=by
  refine⟨hres.1,hres.2.1,fun i y u bs a1 a2 a3=>?_⟩;have hx:=hres.2.2 i y u bs a1 a2 a3;rcases hcase with⟨_,hSe⟩|⟨hfl,_⟩
  ·refine hx.mono ?_;rw[hSe];rintro b ⟨h1,h2,h3⟩;refine⟨?_,h2,h3,?_⟩
   ·rcases h1 with h1|h1|h1;·exact h1.1
    ·exact hTold b h1
    ·exact .inr (q113 h.bZ.size h1)
   ·rintro⟨t,ht,hn,hb⟩;rcases h1 with h1|h1|h1;·obtain⟨o,ho⟩:=ht;exact h1.2.2 ⟨t,o,ho,hb⟩
    ·exact hTinj t b ht hn hb h1
    ·have:=h.lt ht hb;omega
  ·exact hx.flat 5 (hfl y (List.mem_of_getElem? a1))
 obtain⟨p1,n1,l1⟩:=pR (P:=P) (S:=S3) (S':=S3) (w:=w') (qQ (fun b hb=>hb) 5 true) (lO x) _ o ho;obtain⟨p2,l2⟩:=qQ (P:=P) (S:=S3) (S':=S3) (w:=w') (fun b hb=>hb) 5 false _ _ r hr;have hlen:(eI ys vals).length=(lO x).length:=by rw[hln,←ho1,n1]
 obtain⟨b1,bl,rfl,ht1,ht2⟩:=hres3.snoc hlen;rw[q251,q172]at hnd;have ebl:[bl].flatten=bl:=by simp
 rw[ebl]at hnd;have hsn:=p1.nodup_iff.2 hQn;rw[q172]at hsn;have k1:=l1 (eI ys vals) b1 ht1 hnd.1 hQn;have k2:=l2 v bl ht2 hnd.2.1 hsn.2.1;have hsub2:∀p∈r.2.1,p.1∈o.2.2.1++o.2.2.2:=fun p hp=>p2.mem_iff.1 (q108 _ (q138 hp));obtain⟨βn,c1,c2,c3⟩:=k1.append k2 (fun b hb hb'=>hnd.2.2 b hb b hb' rfl) fun p hp q hq e=>hsn.2.2 _ (q138 hp) _ (hsub2 q hq) e;have ebs:(b1++[bl]).flatten=b1.flatten++bl:=by rw[q251,ebl]
 rw[ebs]at hloc;have htag:∀p∈o.2.1++r.2.1,p.1∈Q++pd d T W:=by
  intro p hp;rcases q80.1 hp with hp|hp;·exact p1.mem_iff.1 (q108 _ (q138 hp))
  ·exact p1.mem_iff.1 (q180 _ (hsub2 p hp))
 generalize hos:o.2.1++r.2.1=os at*;let β2:Nat→Value:=fun t=>if∃p∈os,p.1=t then βn t else β t;let objs2:Nat→Option AO:=bG os (fm T W st.aa);have hβn:∀p∈os,β2 p.1=βn p.1:=fun p hp=>if_pos ⟨p,hp,rfl⟩;have hβo:∀t,(∀p∈os,p.1≠t)→β2 t=β t:=fun t ht=>if_neg fun⟨p,hp,e⟩=>ht p hp e;have hobj:∀t o',objs2 t=some o'→((t,o')∈os)∨((∀p∈os,p.1≠t)∧t∉T∧∃o0,st.aa t=some o0∧o'=jG W o0):=by intro t o' ho';simp only[objs2,bG]at ho';cases hlk:ab os t with|some o1=>rw[hlk]at ho';cases ho';exact .inl (lq hlk)|none=>
  rw[hlk]at ho';simp only[fm]at ho';split at ho';·cases ho'
  ·rename_i hc;obtain⟨o0,h0,rfl⟩:=q0.1 ho';refine .inr ⟨fun p hp e=>?_,fun hm=>hc ((hcT t).2 hm),o0,h0,rfl⟩;obtain⟨o1,h1⟩:=nh hp;rw[e,hlk]at h1;cases h1
 have hdn:∀p∈os,aG objs2 p.1:=fun p hp=>by obtain⟨o1,h1⟩:=nh hp;exact⟨o1,by simp only[objs2,bG,h1]⟩
 have hdo:∀t,aG st.aa t→t∉T→aG objs2 t∧β2 t=β t:=by
  rintro t ⟨o0,h0⟩ hn;have hne:∀p∈os,p.1≠t:=fun p hp e=>by
   rcases hfree p hp with hc|hc;·exact hn (e▸(hcT _).1 hc)
   ·rw[e,h0]at hc;cases hc
  refine⟨?_,hβo t hne⟩;cases hlk:ab os t with|some o1=>exact absurd rfl (hne (t,o1) (lq hlk))|none=>exact⟨jG W o0,by simp only[objs2,bG,hlk,fm];rw[if_neg (fun hc=>hn ((hcT t).1 hc)),h0];rfl⟩
 have hlaid:=c1 β2 (aG objs2) fun p hp=>⟨hβn p hp,hdn p hp⟩;have hpin:∀t∈Q,β2 t=β t∧aG objs2 t:=by
  intro t ht;rw[hQ]at ht;obtain⟨c,hc,ht⟩:=q179.1 ht;obtain⟨i,hi⟩:=q101 hc;have hlt:i<(eI ys vals).length:=by rw[hln];exact(q65.1 hi).1
  have hu:=q64 hlt;exact J2 (hlv i c _ hi hu) (hlaid.2.1 i c _ (by rw[ho1];exact hi) hu) t ht
 have hD:∀s,aG st.aa s→W.contains s=false→aG objs2 s∧β2 s=β s:=by
  intro s hs hc;by_cases hm:s∈T
  ·have:s∈Q:=by
    by_cases hq:s∈Q;·exact hq
    ·have:s∈W:=by rw[hW];exact q125.2 ⟨hm,by simpa using hq⟩
     rw[q299.2 this]at hc;cases hc
   exact⟨(hpin s this).2,(hpin s this).1⟩
  ·exact hdo s hs hm
 have hnewb:∀p∈os,∀b,cr (β2 p.1)=some b→b∈b1.flatten++bl:=fun p hp b hb=>by rw[hβn p hp]at hb;exact c2 p hp b hb
 have hlive2:∀b,live β2 objs2 b→b∈b1.flatten++bl∨∃t,aG st.aa t∧t∉T∧cr (β t)=some b:=by
  rintro b ⟨t,o',ho',hb⟩;rcases hobj t o' ho' with hm|⟨h1,h2,o0,h3,_⟩;·exact .inl (hnewb _ hm b hb)
  ·rw[hβo t h1]at hb;exact .inr ⟨t,⟨o0,h3⟩,h2,hb⟩
 have hsame:∀b,b<w.heap.size→b∉dz β T→w'.heap[b]?=w.heap[b]?:=fun b h1 h2=>hfr.block b h1 h2;have hm:∀b,S b→aZ S0 w0.heap.size β2 objs2 w' b∧w'.heap[b]?=w.heap[b]?:=by
  rintro b ⟨h1,h2,h3⟩;have hnT:b∉dz β T:=fun hm=>h3 (hTlive b hm).1;refine⟨⟨h1,q95 h2 hfr.size,fun hl=>?_⟩,hsame b h2 hnT⟩;rcases hlive2 b hl with hb|⟨t,⟨o0,h0⟩,_,hb⟩
  ·rcases hloc b hb with h4|h4;·omega
   ·exact hnT h4
  ·exact h3 ⟨t,o0,h0,hb⟩
 have hm3:∀b,S3 b→aZ S0 w0.heap.size β2 objs2 w' b∧w'.heap[b]?=w'.heap[b]?:=by
  rintro b ⟨h1,h2,h3,h4⟩;refine⟨⟨h1,h2,fun hl=>?_⟩,rfl⟩;rcases hlive2 b hl with hb|hb;·exact h3 (by rw[ebs];exact hb)
  ·exact h4 hb
 have hrel:Rel P S0 L B0 w0 N ⟨iq W st.vars,objs2⟩ a w' β2:=by
  refine⟨h.size,h.defers,fun s=>(h.vars s).fu hm hD,⟨fun t o' ho'=>?_,fun t t' b ht ht' hb hb'=>?_⟩,fun t b ht hb=>?_,h.qb,fun t h9 ht=>?_,?_⟩
  ·rcases hobj t o' ho' with hmem|⟨h1,h2,o0,h3,rfl⟩;·exact(hlaid.1 (t,o') hmem).mono hm3 (fun _ hd=>⟨hd,rfl⟩) rfl (fun _ _=>rfl)
   ·exact(h.heap.holds t o0 h3).fu hm hD (hβo t h1) fun b hb=>hsame b (h.lt ⟨o0,h3⟩ hb) (hTinj t b ⟨o0,h3⟩ h2 hb)
  ·obtain⟨o1,ho1'⟩:=ht;obtain⟨o2,ho2'⟩:=ht';rcases hobj t o1 ho1' with hm1|⟨g1,g2,o0,g3,_⟩<;>rcases hobj t' o2 ho2' with hm2|⟨g1',g2',o0',g3',_⟩;·rw[hβn _ hm1]at hb;rw[hβn _ hm2]at hb';exact c3 _ hm1 _ hm2 b hb hb'
   ·rw[hβo t' g1']at hb';rcases hloc b (hnewb _ hm1 b hb) with h4|h4;·have:=h.lt ⟨o0',g3'⟩ hb';omega
    ·exact absurd h4 (hTinj t' b ⟨o0',g3'⟩ g2' hb')
   ·rw[hβo t g1]at hb;rcases hloc b (hnewb _ hm2 b hb') with h4|h4;·have:=h.lt ⟨o0,g3⟩ hb;omega
    ·exact absurd h4 (hTinj t b ⟨o0,g3⟩ g2 hb)
   ·rw[hβo t g1]at hb;rw[hβo t' g1']at hb';exact h.heap.inj t t' b ⟨o0,g3⟩ ⟨o0',g3'⟩ hb hb'
  ·obtain⟨o1,ho1'⟩:=ht;rcases hobj t o1 ho1' with hm1|⟨g1,g2,o0,g3,_⟩
   ·rcases hloc b (hnewb _ hm1 b hb) with h4|h4;·exact .inl (q113 h.bZ.size h4)
    ·obtain⟨s,hs,hb'⟩:=q160.1 h4;exact h.old s b (hTd s hs) hb'
   ·rw[hβo t g1]at hb;exact h.old t b ⟨o0,g3⟩ hb
  ·obtain⟨o1,ho1'⟩:=ht;rcases hobj t o1 ho1' with hm1|⟨g1,g2,o0,g3,_⟩
   ·have hq:t∈Q:=by
     rcases q80.1 (htag _ hm1) with hq|hq;·exact hq
     ·exfalso;unfold pd at hq;rcases q80.1 hq with hq|hq;·have:=(q125.1 hq).2;simp only[bne_iff_ne,ne_eq]at this;exact this h9
      ·have:=(q125.1 hq).1;simp only[q76,q92,or_false]at this;omega
    rw[(hpin t hq).1];exact h.vw t h9 (hTd t (hQT t hq))
   ·rw[hβo t g1];exact h.vw t h9 ⟨o0,g3⟩
  ·exact⟨hfr.os.trans h.bZ.os,hfr.tape.trans h.bZ.tape,hfr.output.trans h.bZ.output,q113 h.bZ.size hfr.size,fun b h1 h2=>(hsame b (by have:=h.bZ.size;omega) fun hm=>by
    rcases q160.1 hm with⟨s,hs,hb'⟩;rcases h.old s b (hTd s hs) hb' with h3|h3;·omega
    ·exact h2 h3).trans (h.bZ.block b h1 h2)⟩
 exact⟨v,β2,rfl,hrel,hlaid.2.2.mono hm3 fun _ hd=>⟨hd,rfl⟩⟩
theorem Bw:∀{xs ys:List AV},fJ st.aa xs=some ys→BC st.aa st.aa [] (xs.map fun _=>0) xs=some ys|[],_,h=>h|x::xs,ys,h=>by obtain⟨y,hy,h⟩:=q63.1 h;obtain⟨l,hl,rfl⟩:=q0.1 h;show(pf st.aa x).bind _=_;rw[hy];show((BC st.aa st.aa [] (xs.map fun _=>0) xs).map _)=_;rw[Bw hl];rfl
theorem tQ:∀xs:List AV,eU st.aa (xs.map fun _=>0) xs=[]|[]=>rfl|x::xs=>by show[]++eU st.aa (xs.map fun _=>0) xs=[];rw[tQ xs];rfl
theorem nV:∀xs:List AV,er (xs.map fun _=>0) xs=[]|[]=>rfl|x::xs=>by show er (xs.map fun _=>0) xs=[];exact nV xs
theorem rE:∀xs:List AV,eH [] (xs.map fun _=>0) xs=eT xs|[]=>rfl|x::xs=>by show((0 !=0||eC x)&&eH [] (xs.map fun _=>0) xs)=_;rw[rE xs];rfl
theorem wc (f:Nat→Option AO):fm [] [] f=f:=by funext t;show(f t).map (jG [])=f t;cases f t<;>rfl
theorem rO (d:Nat):(ku d).Nodup:=by simp[ku,q173]
theorem zH (h:lH r):Gk r=false:=by
 by_cases hx:∃cs,r=.agg cs;·obtain⟨cs,rfl⟩:=hx;have h:pL cs:=h;show cs.any _=false;induction cs with|nil=>rfl|cons c cs ih=>rw[q222,ih h.2 h.2,q263];have:=h.1;cases c<;>first|rfl|exact this.elim
 ·have h:nL r:=by rw[←zq r fun cs e=>hx ⟨cs,e⟩];exact h
  cases r<;>first|rfl|exact h.elim
theorem Dr (h:flat r):pP r=false:=by
 by_cases hx:∃vs,r=.aO vs;·obtain⟨vs,rfl⟩:=hx;have h:rP vs:=h;show vs.any Gk=false;induction vs with|nil=>rfl|cons c cs ih=>rw[q222,ih h.2 h.2,q263];exact zH h.1
 ·have h:lH r:=by rw[←Dz r fun cs e=>hx ⟨cs,e⟩];exact h
  have:pP r=Gk r:=by cases r<;>first|rfl|exact absurd ⟨_,rfl⟩ hx
  rw[this];exact zH h
theorem tO (h:pP r=false) (d:Nat):j8 d r=aT d r:=by unfold j8;rw[h];rfl
theorem tL (h:pP r=false) (d:Nat):As d r=cS (lP d) r:=by unfold As;rw[h];rfl
theorem ti (h:pP r=false) (d:Nat):Bu d r=cY r:=by unfold Bu;rw[h];rfl
theorem sq (h:pP r=false):sn r=flat r:=by unfold sn;rw[h];rfl
theorem mT {f:AV→List Nat×List Nat→Option (AV×List (Nat×AO)×List Nat×List Nat)} (hf:∀y s q,f y s=some q→(q.2.1.map (·.1)++(q.2.2.1++q.2.2.2)).Perm (s.1++s.2)):∀(ys:List AV) (s:List Nat×List Nat) (q:List AV×List (Nat×AO)×List Nat×List Nat),oa f ys s=some q→(q.2.1.map (·.1)++(q.2.2.1++q.2.2.2)).Perm (s.1++s.2)|[],s,q,h=>by cases h;exact .refl _|y::ys,s,q,h=>by obtain⟨r,hr,h⟩:=q63.1 h;obtain⟨q',hq,rfl⟩:=q0.1 h;rw[q148,q96];exact((mT hf ys r.2.2 q' hq).append_left _).trans (hf y s r hr)
theorem oP:∀(n:Nat) (top:Bool) (y:AV) (s:List Nat×List Nat) (q:AV×List (Nat×AO)×List Nat×List Nat),num n top y s=some q→(q.2.1.map (·.1)++(q.2.2.1++q.2.2.2)).Perm (s.1++s.2)
 |0,_,_,_,_,h=>by cases h|n+1,top,y,s,q,h=>by
  unfold num at h;split at h;·obtain⟨k,hk,rfl⟩:=q0.1 h;exact mW hk
  ·obtain⟨k,hk,rfl⟩:=q0.1 h;exact mW hk
  ·obtain⟨k,hk,h⟩:=q63.1 h;obtain⟨r,hr,rfl⟩:=q0.1 h;exact((mT (oP n false) _ k.2 r hr).cons k.1).trans (mW hk)
  ·obtain⟨r,hr,rfl⟩:=q0.1 h;exact mT (oP n top) _ s r hr
  ·obtain⟨r,hr,rfl⟩:=q0.1 h;exact mT (oP n top) _ s r hr
  ·cases h;exact .refl _
  ·cases h;exact .refl _
  ·split at h;·cases h;exact .refl _
   ·cases h
  ·cases h
theorem xC (d:Nat) (r:AV):∀x∈j8 d r,∃p,x.1=d+1000*p:=by
 intro x hx;unfold j8 at hx;split at hx;·cases hn:num 5 false r ([],ku d) with|none=>rw[hn]at hx;simp at hx|some q=>
  rw[hn]at hx;have hp:=oP 5 false r _ q hn;have hm:x.1∈ku d:=by simpa using hp.mem_iff.1 (q108 _ (q138 (by simpa using hx)))
  simp only[ku,q76,q92,or_false]at hm;rcases hm with h|h|h|h|h|h|h|h;·exact⟨0,h⟩
  ·exact⟨1,h⟩
  ·exact⟨2,h⟩
  ·exact⟨3,h⟩
  ·exact⟨4,h⟩
  ·exact⟨5,h⟩
  ·exact⟨6,h⟩
  ·exact⟨7,h⟩
 ·unfold aT at hx;obtain⟨y,_,rfl⟩:=q84.1 hx;exact⟨y.1,rfl⟩
theorem ma (h:Rel P S0 L B0 w0 N st a w β) {d:Nat} (hd9:d%1000≠999) {xs ys:List AV} (hl:vals.length=xs.length) (hv:∀(i:Nat) (v:Value) (x:AV),vals[i]?=some v→xs[i]?=some x→RV P (aZ S0 w0.heap.size β st.aa w) w β (aG st.aa) v x) (hre:fJ st.aa xs=some ys) (hcon:Sb P f ys r) (hpf:eT xs=true∨sn r) (hfree:∀x∈j8 d r,st.aa x.1=none) (hres:Bu d r=true):Calls P f vals.toArray w fun e w'=>∃v β',e=.returned v∧Rel P S0 L B0 w0 N ⟨st.vars,bG (j8 d r) st.aa⟩ a w' β'∧RV P (aZ S0 w0.heap.size β' (bG (j8 d r) st.aa) w') w' β' (aG (bG (j8 d r) st.aa)) v (As d r):=by unfold j8 at hfree ⊢;unfold As;unfold Bu at hres;unfold sn at hpf;cases ht:pP r with|false=>simp only[ht,q136,if_false]at hfree hres hpf ⊢;exact Cw h hd9 hl hv hre (hcon.2 ht) hpf hfree hres|true=>simp only[ht,if_true]at hfree hres hpf ⊢;obtain⟨q,hq⟩:=q129.1 hres;rw[hq]at hfree ⊢;simp only[q116,q98]at hfree ⊢;have:=H5 (T:=[]) (Q:=[]) (W:=[]) (fun e=>absurd rfl e) h hd9 (ks:=xs.map fun _=>0) hl hv (tQ xs).symm (by rw[nV];rfl) rfl q298 (fun t ht=>by cases ht) (rO d) (by rw[wc];exact Bw hre) (hcon.1 ht) (by rw[rE];exact hpf.imp id fun hf y hy=>by simp only[lO,kS,q158,q75]at hy;rw[hy];exact hf) (o:=([],[],([],ku d))) rfl (nV xs).symm hq (fun p hp=>.inr (hfree p hp));rw[wc]at this;exact this
end
theorem tB {k k':IntKind} (h:ni k=ni k'):k=k':=by cases k<;>cases k'<;>first|rfl|(simp[ni]at h)
theorem rK:∀{a c b d:List PV},a.length=c.length→ju (a++b) (c++d)=(ju a c&&ju b d)|[],[],b,d,_=>by simp[ju]|x::a,y::c,b,d,h=>by simp only[q149,ju];rw[rK (by simpa using h),Bool.and_assoc]|[],_::_,_,_,h=>by simp at h|_::_,[],_,_,h=>by simp at h
section
variable{P:Program}
def Ii (P:Program) (t:TypeId) (us:List Value):Value:=match P.underlying t with|some (.struct _)|some (.array _ _)=>.agg us.toArray|_=>us.headD undef
theorem DM (w:World) {t:TypeId}{n:Nat}{A us rest:List Value} (ht:(P.underlying t).isSome=true) (hn:cz P t=some n) (hl:us.length=n) (h1:(∃fs,P.underlying t=some (.struct fs))∨(us≠[]∧∀k e,P.underlying t≠some (.array k e))):(part t (A++us++rest).toArray A.length).run P w=.ok (Ii P t us) w:=by
 obtain⟨d,hd⟩:=q129.1 ht;obtain⟨i,hi,hsz⟩:∃i,P.info? t=some i∧i.size=n:=by unfold cz at hn;obtain⟨i,hi,rfl⟩:=q0.1 hn;exact⟨i,hi,rfl⟩
 have hs:(Go.sizeOf t).run P w=.ok n w:=by simp[Go.sizeOf,typeInfo,hi,hsz]
 have hagg:(∃fs,d=.struct fs)→(part t (A++us++rest).toArray A.length).run P w=.ok (.agg us.toArray) w:=by
  rintro⟨fs,rfl⟩;have he:(A++us++rest).toArray.extract A.length (A.length+n)=us.toArray:=by apply q114;simp only[List.extract_toArray,q270];rw[q96,q300,q228,←hl,q154]
  simp only[part,isAgg,q185,run_underlying hd,hs,q153,q213,if_true,he]
 unfold Ii;rw[hd];rcases h1 with⟨fs,h1⟩|⟨h1,h2⟩;·rw[hd]at h1;cases h1;exact hagg ⟨fs,rfl⟩
 ·match us,h1 with
  |u::l,_=>
   have h4:(A++(u::l)++rest).toArray[A.length]?=some u:=by simp
   cases d with|struct fs=>exact hagg ⟨fs,rfl⟩|array k e=>exact absurd hd (h2 k e)|_=>simp[part,isAgg,run_underlying hd,Result.andThen]
theorem xj (h:dB p=0):∃b,p=.bool b:=by cases p<;>simp[dB]at h;exact⟨_,rfl⟩
theorem zN (h:dB p=1):∃l,p=.str l:=by cases p with|str l=>exact⟨l,rfl⟩|int k n=>simp only[dB]at h;omega|_=>simp[dB]at h
theorem A4 {k:IntKind} (h:dB p=2+ni k):∃n,p=.int k n:=by
 have:ni k≤7:=by cases k<;>decide
 cases p with|int k' n=>simp only[dB]at h;have:=tB (show ni k'=ni k by omega);subst this;exact⟨n,rfl⟩|bool b=>simp only[dB]at h;omega|str b=>simp only[dB]at h;omega|_=>simp only[dB]at h;omega
theorem Hg (a b:List UInt8):((⟨a.toArray⟩:ByteArray).toList==(⟨b.toArray⟩:ByteArray).toList)=decide (a=b):=by
 rw[ByteArray.toList_eq,ByteArray.toList_eq];by_cases h:a=b;·subst h;simp
 ·simp[h]
theorem BZ:∀(n:Nat) (t:TypeId) (ks:List Nat),jO P n t=some ks→(P.underlying t).isSome=true∧((∃fs,P.underlying t=some (.struct fs))∨(ks≠[]∧∀k e,P.underlying t≠some (.array k e)))
 |0,t,ks,h=>by cases h|n+1,t,ks,h=>by
  unfold jO at h;split at h;·rename_i hu;cases h;rw[hu];exact⟨rfl,.inr ⟨by simp,fun k e h=>by cases h⟩⟩
  ·rename_i hu;cases h;rw[hu];exact⟨rfl,.inr ⟨by simp,fun k e h=>by cases h⟩⟩
  ·rename_i hu;cases h;rw[hu];exact⟨rfl,.inr ⟨by simp,fun k e h=>by cases h⟩⟩
  ·rename_i fs hu;rw[hu];exact⟨rfl,.inl ⟨fs,rfl⟩⟩
  ·cases h
theorem xx {f:TypeId→Option (List Nat)}{d:Nat} (hl:∀t ks,f t=some ks→(P.underlying t).isSome=true∧((∃fs,P.underlying t=some (.struct fs))∨(ks≠[]∧∀k e,P.underlying t≠some (.array k e)))) (hf:∀t ks,f t=some ks→∀(w:World) (ps qs:List PV),ps.map dB=ks→qs.map dB=ks→(Op.equalIn d t (Ii P t (ps.map b8)) (Ii P t (qs.map b8))).run P w=.ok (ju ps qs) w) (w:World):∀(fs:List Field) (off:Nat) (ks:List Nat) (A B:List Value) (ps qs:List PV),nf P f off fs=some ks→A.length=off→B.length=off→ps.map dB=ks→qs.map dB=ks→(Op.eqFields d (A++ps.map b8).toArray (B++qs.map b8).toArray fs).run P w=.ok (ju ps qs) w
 |[],off,ks,A,B,ps,qs,h,hA,hB,hp,hq=>by cases h;have:ps=[]:=q204.1 hp;have:qs=[]:=q204.1 hq;subst_vars;simp[Op.eqFields,ju]|fl::fs,off,ks,A,B,ps,qs,h,hA,hB,hp,hq=>by
  unfold nf at h;split at h
  ·rename_i hc;obtain⟨hn,ho⟩:=hc;obtain⟨a,ha,h⟩:=q63.1 h;split at h
   ·rename_i hs;obtain⟨r,hr,rfl⟩:=q0.1 h;have key:∀l:List PV,l.map dB=a++r→∃l1 l2,l=l1++l2∧l1.map dB=a∧l2.map dB=r:=by intro l h;obtain⟨l1,l2,rfl,h1,h2⟩:=List.map_eq_append_iff.1 h;exact⟨l1,l2,rfl,h1,h2⟩
    obtain⟨p1,p2,rfl,hp1,hp2⟩:=key ps hp;obtain⟨q1,q2,rfl,hq1,hq2⟩:=key qs hq;have l1:p1.length=a.length:=by rw[←hp1];simp
    have l2:q1.length=a.length:=by rw[←hq1];simp
    obtain⟨g1,g2⟩:=hl _ _ ha;have e1:((fl.offset:Nat))=A.length:=by rw[hA,ho]
    have e2:A.length=B.length:=by rw[hA,hB]
    have hpa:=DM (P:=P) (t:=fl.type) (n:=a.length) (A:=A) (us:=p1.map b8) (rest:=p2.map b8) w g1 hs (by simpa using l1) (g2.imp id fun h=>⟨by intro h0;apply h.1;rw[←hp1,q204.1 h0];rfl,h.2⟩);have hqa:=DM (P:=P) (t:=fl.type) (n:=a.length) (A:=B) (us:=q1.map b8) (rest:=q2.map b8) w g1 hs (by simpa using l2) (g2.imp id fun h=>⟨by intro h0;apply h.1;rw[←hq1,q204.1 h0];rfl,h.2⟩);have ih:=xx hl hf w fs (off+a.length) r (A++p1.map b8) (B++q1.map b8) p2 q2 hr (by simp[hA,l1]) (by simp[hB,l2]) hp2 hq2;rw[q148,q148,←q96,←q96,rK (by rw[l1,l2])];unfold Op.eqFields;rw[if_pos hn,e1];simp only[q185,hpa,q153];rw[e2];simp only[hqa,q153,hf _ _ ha w p1 q1 hp1 hq1];cases h1:ju p1 q1 with|true=>simp only[q303,q136,if_false,q264];exact ih|false=>simp
   ·cases h
  ·cases h
theorem Aa (hst:∀t,t<P.types.size∧EO P t=false→P.stoodInHeld t=false):∀(n:Nat) (t:TypeId) (ks:List Nat),jO P n t=some ks→∀(d:Nat),n≤d→∀(w:World) (ps qs:List PV),ps.map dB=ks→qs.map dB=ks→(Op.equalIn d t (Ii P t (ps.map b8)) (Ii P t (qs.map b8))).run P w=.ok (ju ps qs) w
 |0,t,ks,h=>by cases h|n+1,t,ks,h=>by
  intro d hd w ps qs hp hq;obtain⟨d,rfl⟩:∃e,d=e+1:=⟨d-1,by omega⟩;have one:∀k,ks=[k]→∃p q,ps=[p]∧qs=[q]∧dB p=k∧dB q=k:=by rintro k rfl;rcases ps with _|⟨p,_|⟨p',ps⟩⟩<;>simp at hp;rcases qs with _|⟨q,_|⟨q',qs⟩⟩<;>simp at hq;exact⟨p,q,rfl,rfl,hp,hq⟩
  unfold jO at h;split at h;·rename_i hu;injection h with h;obtain⟨p,q,rfl,rfl,h1,h2⟩:=one _ h.symm;obtain⟨b,rfl⟩:=xj h1;obtain⟨c,rfl⟩:=xj h2;simp only[Ii,hu,q71,q117,q286,b8];rw[run_equalIn_bool' w d t b c hu];cases b<;>cases c<;>rfl
  ·rename_i hu;injection h with h;obtain⟨p,q,rfl,rfl,h1,h2⟩:=one _ h.symm;obtain⟨b,rfl⟩:=zN h1;obtain⟨c,rfl⟩:=zN h2;simp only[Ii,hu,q71,q117,q286,b8];rw[run_equalIn_string w d t _ _ hu,Hg];simp[ju,mU]
  ·rename_i k hu;injection h with h;obtain⟨p,q,rfl,rfl,h1,h2⟩:=one _ h.symm;obtain⟨b,rfl⟩:=A4 h1;obtain⟨c,rfl⟩:=A4 h2;simp only[Ii,hu,q71,q117,q286,b8];rw[run_equalIn_int w d t k k b c hu];simp only[ju,mU,Bool.and_true];rfl
  ·rename_i fs hu;split at h
   ·rename_i ht;have hfo:P.fieldsOf t=fs:=by simp[Program.fieldsOf,hu]
    simp only[Ii,hu];rw[run_equalIn_struct w d t _ _ (by rw[hfo];exact hu) (hst t ht),hfo];have:=xx (P:=P) (f:=jO P n) (d:=d) (fun t ks h=>BZ n t ks h) (fun t ks h w ps qs=>Aa hst n t ks h d (by omega) w ps qs) w fs.toList 0 ks [] [] ps qs h rfl rfl hp hq;simpa using this
   ·cases h
  ·cases h
end
section
variable{P:Program}{S:Nat→Prop}{w:World}{β:Nat→Value}{aa:Nat→Option AO}{a:Act}{o:Oper}{x y:Operand}
theorem qf:∀{cs:List AV}{ps:List PV},fc cs=some ps→cs=ps.map .pv|[],ps,h=>by cases h;rfl|c::cs,ps,h=>by simp only[fc,q63,q0]at h;obtain⟨p,hp,l,hl,rfl⟩:=h;rw[qf hl];cases c<;>simp[FQ]at hp;subst hp;rfl
theorem tf {D:Nat→Prop}{ps:List PV} (hks:∀k∈ks,k<99) (hs:ps.map dB=ks) {us:List Value} (hl:us.length=(ps.map AV.pv).length) (hr:∀(i:Nat) (c:AV) (u:Value),(ps.map AV.pv)[i]?=some c→us[i]?=some u→RV P S w β D u c):us=ps.map b8:=by
 subst hs;have hl':us.length=ps.length:=by simpa using hl
 apply q211;intro i;cases hu:us[i]? with|none=>have:us.length≤i:=q196.1 hu;rw[q132 (by simp;omega)]|some u=>have hi:i<us.length:=(q65.1 hu).1;obtain⟨p,hp⟩:∃p,ps[i]?=some p:=⟨ps[i],q64 (by omega)⟩;have h3:=(hr i (.pv p) u (by simp[hp]) hu).bq;have h4:=hks (dB p) (by simp only[q84];exact⟨_,List.mem_of_getElem? hp,rfl⟩);rw[q77,hp];simp only[q116,qr];cases h3 with|int q n=>rfl|bool b=>rfl|str l=>rfl|_=>simp only[dB]at h4;omega
theorem pI {f:TypeId→Option (List Nat)}{d:Nat} (hf:∀t ks,f t=some ks→P.eqGuardType d t=false):∀(fs:List Field) (off:Nat) (ks:List Nat),nf P f off fs=some ks→∀fl∈fs,P.eqGuardType d fl.type=false
 |[],_,_,_,fl,hm=>by cases hm|f1::fs,off,ks,h,fl,hm=>by
  unfold nf at h;split at h
  ·obtain⟨a,ha,h⟩:=q63.1 h;split at h
   ·obtain⟨r,hr,rfl⟩:=q0.1 h;rcases q76.1 hm with rfl|hm;·exact hf _ _ ha
    ·exact pI hf fs _ _ hr fl hm
   ·cases h
  ·cases h
theorem guard_of:∀(n:Nat) (t:TypeId) (ks:List Nat),jO P n t=some ks→∀d,n≤d→P.eqGuardType d t=false
 |0,t,ks,h=>by cases h|n+1,t,ks,h=>by
  intro d hd;obtain⟨d,rfl⟩:∃e,d=e+1:=⟨d-1,by omega⟩;unfold jO at h;unfold Program.eqGuardType;split at h;·rename_i hu;rw[hu]
  ·rename_i hu;rw[hu]
  ·rename_i hu;rw[hu]
  ·rename_i fs hu;split at h;·simp only[hu,←Array.any_toList,q141];intro fl hfl;simp[pI (fun t ks h=>guard_of n t ks h d (by omega)) _ _ _ h fl hfl]
   ·cases h
  ·cases h
theorem LV (hst:∀t,t<P.types.size∧EO P t=false→P.stoodInHeld t=false) {ne:Bool}{t yt:TypeId}{fs:Array Field} (ho:o.op=.binOp (if ne=true then .neq else .eql) t x y yt) (hu:P.underlying t=some (.struct fs)) (hk:jO P 8 t=some ks) (hks:ks.all (·<99)=true) {X Y:AV} (hX:RV P S w β (aG aa) (a.eval x) X) (hY:RV P S w β (aG aa) (a.eval y) Y)  (h:al (.eqs ne ks) [X,Y] aa=some (φ,v)) (hφ:φ):∃r,(execOp a.eval o).run P w=.ok (.value r) w∧RV P S w β (aG aa) r v:=by
 have hg:P.eqGuardType P.depth t=false:=guard_of 8 t ks hk _ (by unfold Program.depth Made.depth;omega);have hks':∀k∈ks,k<99:=fun k hk=>by simpa using(q90.1 hks) k hk
 cases X with
 |agg xs=>cases Y with
  |agg ys=>simp only[al,q63,q0]at h;obtain⟨ps,hps,qs,hqs,he⟩:=h;cases he;cases qf hps;cases qf hqs;obtain⟨us,hxu,hul,hur⟩:=hX.da;obtain⟨vs,hyv,hvl,hvr⟩:=hY.da;have e1:=tf hks' hφ.1 hul hur;have e2:=tf hks' hφ.2 hvl hvr;have hrun:=Aa hst 8 t ks hk 10000 (by omega) w ps qs hφ.1 hφ.2;simp only[Ii,hu]at hrun;rw[e1]at hxu;rw[e2]at hyv;cases ne with|false=>exact⟨_,by simp[execOp,ho,hxu,hyv,run_eqGuard_agg w .eql t x y _ _ hg,run_eql_struct,hrun,Result.andThen],.pv _ _ (.bool _)⟩|true=>exact⟨_,by simp[execOp,ho,hxu,hyv,run_eqGuard_agg w .neq t x y _ _ hg,run_neq_struct,hrun,Result.andThen],.pv _ _ (.bool _)⟩
  |_=>simp[al]at h
 |_=>simp[al]at h
end
theorem gG {P:Program}{s:Nat} (h:ko P kt=some s):∃d,P.underlying kt=some d∧∀k,dB k=s→MapKept.IsKey d (b8 k):=by
 unfold ko at h;split at h;·rename_i hu;injection h with h;subst h;refine⟨_,hu,fun k hk=>?_⟩;cases k<;>first|trivial|(simp[dB]at hk)
 ·rename_i hu;injection h with h;subst h;refine⟨_,hu,fun k hk=>?_⟩;cases k<;>first|trivial|(simp[dB]at hk;try omega)
 ·rename_i q hu;injection h with h;subst h;refine⟨_,hu,fun k hk=>?_⟩;cases k with
  |int k n=>simp only[dB]at hk;exact tB (by omega)|bool b=>simp only[dB]at hk;omega|str l=>simp only[dB]at hk;omega
  | _=>simp only[dB]at hk;have:ni q≤7:=by cases q<;>decide
       omega
 ·cases h
theorem pK {k k':PV}{s:Nat} (h:dB k=s) (h':dB k'=s) (hs:s<99):mU k k'=true↔b8 k'=b8 k:=by subst h;cases k<;>cases k'<;>simp only[dB]at h' hs<;>first|omega|(have:_:=tB (Nat.add_left_cancel h');subst this;simp[mU,b8,eq_comm])|simp[mU,b8,eq_comm]
theorem oG {P:Program}{s:Nat} (h:ko P kt=some s):s<99:=by
 unfold ko at h;split at h;·injection h with h;omega
 ·injection h with h;omega
 ·rename_i q _;injection h with h;have:ni q≤7:=by cases q<;>decide
  omega
 ·cases h
theorem lf {P:Program}{S:Nat→Prop}{w:World}{β:Nat→Value}{D:Nat→Prop}{u:Value}{s:Nat} (h:RV P S w β D u (.pv p)) (hp:dB p=s) (hs:s<99):u=b8 p:=by have h:=h.bq;cases h with|int q n=>rfl|bool b=>rfl|str l=>rfl|_=>simp only[dB]at hp;omega
theorem fP {P:Program}{t k e:TypeId} (h:jy P t=some (k,e)):P.underlying t=some (.map k e):=by
 unfold jy at h;split at h;·rename_i hu;cases h;exact hu
 ·cases h
theorem iH {d:TypeDesc}{k:PV}{s:Nat} (hd:∀k,dB k=s→MapKept.IsKey d (b8 k)) (hk:dB k=s) (hs:s<99):∀(us:List MapEntry) (es:List (PV×PV)) (n:Nat),fI s es→us.length=es.length→(∀(i:Nat) (e:PV×PV) (u:MapEntry),es[i]?=some e→us[i]?=some u→u.key=b8 e.1)→(Instr.findNow d (b8 k) us n=some none∧lK k es=none∧(∀v,mi k v es=es++[(k,v)])∧qk k es=es∧∀u∈us,u.key≠b8 k)∨∃j e u,Instr.findNow d (b8 k) us n=some (some (n+j,u.val))∧es[j]?=some e∧us[j]?=some u∧u.key=b8 k∧lK k es=some e.2∧(∀v,mi k v es=es.set j (k,v))∧qk k es=es.eraseIdx j|[],[],_,_,_,_=>.inl ⟨rfl,rfl,fun v=>rfl,rfl,fun u hu=>by simp at hu⟩|[],_::_,_,_,hl,_=>by simp at hl|_::_,[],_,_,hl,_=>by simp at hl|u::us,e::es,n,hks,hl,hu=>by have h1:=hu 0 e u rfl rfl;have hke:=hks e (by simp);obtain⟨r,hr,hiff⟩:=q284 (hd k hk) (hd e.1 hke);rw[←h1]at hr;cases r with|true=>have h2:b8 k=b8 e.1:=hiff.1 rfl;have h3:mU k e.1=true:=(pK hk hke hs).2 h2.symm;exact .inr ⟨0,e,u,by simp[Instr.findNow,hr],rfl,rfl,h1.trans h2.symm,by simp only[lK];rw[if_pos h3],fun v=>by simp only[mi];rw[if_pos h3];rfl,by simp only[qk];rw[if_pos h3];rfl⟩|false=>
 have h3:¬mU k e.1=true:=fun h=>by have:=hiff.2 ((pK hk hke hs).1 h).symm;cases this
 have h4:u.key≠b8 k:=fun h=>by have:=hiff.2 (h.symm.trans h1);cases this
 rcases iH hd hk hs us es (n+1) (fun x hx=>hks x (by simp[hx])) (by simpa using hl) (fun i x y hx hy=>hu (i+1) x y (by simpa using hx) (by simpa using hy)) with⟨g1,g2,g3,g4,g5⟩|⟨j,e',u',g1,g2,g3,g4,g5,g6,g7⟩
 ·refine .inl ⟨by simp[Instr.findNow,hr,g1],by simp only[lK];rw[if_neg h3];exact g2,fun v=>by simp only[mi];rw[if_neg h3,g3 v];rfl,by simp only[qk];rw[if_neg h3,g4],fun x hx=>?_⟩;rcases q76.1 hx with rfl|hx;·exact h4
  ·exact g5 x hx
 ·exact .inr ⟨j+1,e',u',by simp[Instr.findNow,hr,g1];omega,by simpa using g2,by simpa using g3,g4,by simp only[lK];rw[if_neg h3];exact g5,fun v=>by simp only[mi];rw[if_neg h3,g6 v];rfl,by simp only[qk];rw[if_neg h3,g7];rfl⟩
theorem EP {P:Program}{o:Oper}{s:Nat}{xs:List Operand} (h:jN P o=(.FT s z ok,xs)):∃t m k kt et,o.op=.lookup t m k ok∧jy P t=some (kt,et)∧ko P kt=some s∧zeroV P et=some z∧xs=[m,k]:=by
 unfold jN at h;split at h
 ·rename_i r hr;subst h;unfold Bo at hr;repeat' split at hr
  all_goals first|(cases hr;done)|(cases hr;exact⟨_,_,_,_,_,by assumption,by assumption,by assumption,by assumption,rfl⟩)
 ·cases hx:vn P o with|none=>rw[hx]at h;cases h|some r=>
   rw[hx]at h;have h:r=(.FT s z ok,xs):=h;subst h;unfold vn yj at hx;repeat' split at hx
   all_goals cases hx
theorem CP {P:Program}{o:Oper}{e:TypeId}{xs:List Operand} (h:jN P o=(.nn e sz,xs)):∃t n ps zs,o.op=.buildSlice t n ps∧P.underlying t=some (.slice e)∧cz P e=some sz∧dQ P e=some zs∧ps.toList.map (·.1)=List.range n∧n*sz≤2^24∧zs.length=sz∧0<sz∧xs=ps.toList.map (·.2):=by
 unfold jN at h;split at h
 ·rename_i r hr;subst h;unfold Bo at hr;repeat' split at hr
  all_goals cases hr
 ·cases hx:vn P o with|none=>rw[hx]at h;cases h|some r=>
   rw[hx]at h;have h:r=(.nn e sz,xs):=h;subst h;unfold vn yj at hx;repeat' split at hx
   all_goals first|(cases hx;done)|(cases hx;rename_i hc;exact⟨_,_,_,_,by assumption,by assumption,by assumption,by assumption,hc.2.1,hc.2.2.1,hc.2.2.2.1,hc.2.2.2.2,rfl⟩)
section
variable{P:Program}{S:Nat→Prop}{w:World}{β:Nat→Value}{aa:Nat→Option AO}{a:Act}{o:Oper}
theorem Zb {t:TypeId}{m k:Operand}{kt et:TypeId}{s:Nat} (ho:o.op=.lookup t m k ok) (hm:jy P t=some (kt,et)) (hsrt:ko P kt=some s) (hz:zeroV P et=some z) (hz1:z.oneCell'=true) {es:List (PV×PV)} (hX:RV P S w β (aG aa) (a.eval m) (.pv (.mv es))) (hK:RV P S w β (aG aa) (a.eval k) (.pv p)) (hp:dB p=s) (hks:fI s es):∃v,(execOp a.eval o).run P w=.ok (.value v) w∧RV P S w β (aG aa) v (ye z ok (lK p es)):=by have h1:=hX.bq;generalize hmv:a.eval m=mv at h1;cases h1 with|mv b us c es g1 hh hst hl g5 g6=>
 have hmt:=fP hm;obtain⟨d,hdk,hkey⟩:=gG hsrt;have hs99:=oG hsrt;have hkv:a.eval k=Ab.b8 p:=lf hK hp hs99;have hzr:(zeroValue et).run P w=.ok z w:=by unfold zeroV at hz;obtain⟨i,hi,hz⟩:=q63.1 hz;simp[zeroValue,typeInfo,hi,hz]
 have hfind:=iH hkey hp hs99 us.toList es 0 hks hl fun i e u h1 h2=>(g5 i e u h1 h2).1;have fin:∀(v:Value) (x:PV) (f:Bool),(Instr.lookup t (.map (some b)) (Ab.b8 p) ok).run P w=.ok (if ok=true then .tuple #[v,.bool f] else v) w→dt S w v x→∃v,(execOp a.eval o).run P w=.ok (.value v) w∧RV P S w β (aG aa) v (if ok=true then .aO [.pv x,.pv (.bool f)] else .pv x):=by intro v x f hrun hv;refine⟨_,by simp only[execOp,ho,hmv,hkv];simp[hrun,Result.andThen];rfl,?_⟩;cases ok with|false=>exact .pv _ _ hv|true=>refine .aO _ [v,.bool f] rfl fun i c u h1 h2=>?_;match i with|0=>simp at h1 h2;subst h1 h2;exact .pv _ _ hv|1=>simp at h1 h2;subst h1 h2;exact .pv _ _ (.bool f)|i+2=>simp at h1
 unfold ye;rcases hfind with⟨h1,h2,_⟩|⟨j,e,u,h1,h2,h3,h4,h5,_⟩;·rw[h2];refine fin z (su z) false ?_ (iG _ _ z hz1);simp[Instr.lookup,run_underlying hmt,q99 hh,q109 hdk (hkey p hp),q111 hdk h1,hzr,Result.andThen]
 ·rw[h5];refine fin u.val e.2 true ?_ (g6 j e u h2 h3);simp[Instr.lookup,run_underlying hmt,q99 hh,q109 hdk (hkey p hp),q111 hdk h1,Result.andThen]
end
theorem iA {P:Program} (h:fF P f=true):f<P.funcs.size:=by
 unfold fF at h;split at h;·rename_i fn hfn;exact(q66.1 hfn).1
 ·cases h
def sR:AK→Bool|.ex (.FT _ _ _)=>true|.oO|.pick|.gX _|.box|.alloc _|.sJ _ _|.call _|.lN|.store _|.app _ _ _|.qZ _|.F4 _ _ _|.ex _=>false|_=>true
theorem Ec {x:XK}{aa:Nat→Option AO} (h:sR (.ex x)=false) (hb:∀e sz,x≠.nn e sz):al (.ex x) ys aa=none:=by unfold al;split<;>first|rfl|simp_all[sR]
section
variable{P:Program}{Γ:bX}{S0 L:Nat→Prop}{B0:Nat→Value}{w0 w:World}{N:Nat}{st:St}{a:Act}{β:Nat→Value}{o:Oper}{k:AK}{xs:List Operand}
theorem Rel.ev (h:Rel P S0 L B0 w0 N st a w β) (z:Operand):RV P (aZ S0 w0.heap.size β st.aa w) w β (aG st.aa) (a.eval z) (ev st.vars z):=Gf h.vars z
theorem Rel.dA (h:Rel P S0 L B0 w0 N st a w β) (z:Operand) (ha:asks (Ab.ev st.vars z)):RV P (aZ S0 w0.heap.size β st.aa w) w β (aG st.aa) (a.eval z) (strip (Ab.ev st.vars z)):=(h.ev z).strip ha
theorem F8 (h:Rel P S0 L B0 w0 N st a w β) (hc:gW P o=some (k,xs)) (hk:sR k=true) (ha:aq (xs.map (ev st.vars)))  (hs:al k ((xs.map (ev st.vars)).map strip) st.aa=some (φ,v)) (hφ:φ):∃r,(execOp a.eval o).run P w=.ok (.value r) w∧RV P (aZ S0 w0.heap.size β st.aa w) w β (aG st.aa) r v:=by
 rcases ed hc with hc|⟨x,rfl,hx⟩;rotate_left;·cases x with
  |FT s z ok=>obtain⟨t,m,k,kt,et,ho,hm,hsr,hz,rfl⟩:=EP hx;have h1:=h.dA m ha.1;have h2:=h.dA k ha.2.1;simp only[q71,q117]at hs;generalize strip (Ab.ev st.vars m)=X at h1 hs;generalize strip (Ab.ev st.vars k)=Y at h2 hs;cases X with
   |pv p=>cases Y with
    |pv q=>cases p with|mv es=>simp only[al,qr,q70]at hs;obtain⟨rfl,rfl⟩:=hs;exact Zb ho hm hsr hz hφ.1 h1 h2 hφ.2.1 hφ.2.2|_=>simp[al]at hs
    |_=>cases p<;>simp[al]at hs
   |_=>simp[al]at hs
  |_=>simp[sR]at hk
 unfold gD at hc;split at hc;·
  split at hc
  ·split at hc
   ·split at hc;·cases hc;simp[sR]at hk
    ·cases hc
   ·cases hc
  ·cases hc;simp[sR]at hk
 ·split at hc
  ·split at hc
   ·split at hc;·cases hc;simp[sR]at hk
    ·cases hc
   ·cases hc
  ·cases hc;simp[sR]at hk
 ·cases hc;simp[sR]at hk
 ·obtain⟨zs,_,he⟩:=q0.1 hc;cases he;simp[sR]at hk
 ·cases hc;simp[sR]at hk
 ·rename_i t ps ho;split at hc
  ·rename_i zs fs hz hu;split at hc;·cases hc
   ·rename_i hall;obtain⟨l,hl,he⟩:=q0.1 hc;cases he;exact Wk ho hz hu (Bool.of_not_eq_false hall) hl h.heap h.dA ha hs hφ
  ·cases hc
 ·split at hc
  ·split at hc
   ·split at hc;·cases hc;simp[sR]at hk
    ·cases hc
   ·cases hc
  ·cases hc
 ·rename_i t x ho;obtain⟨n,hn,he⟩:=q0.1 hc;cases he;cases n with|none=>exact Dg ho hn h.heap (h.dA x ha.1) hs hφ|some n=>exact Dd ho hn h.heap (h.dA x ha.1) hs hφ
 ·split at hc
  ·split at hc;·cases hc;simp[sR]at hk
   ·cases hc
  ·cases hc;simp[sR]at hk
  ·cases hc
 ·rename_i op t x y yt ho;split at hc
  ·rename_i hu;split at hc;·cases hc;exact M3 (ne:=false) ho hu (h.dA x ha.1) (h.dA y ha.2.1) hs hφ
   ·cases hc;exact M3 (ne:=true) ho hu (h.dA x ha.1) (h.dA y ha.2.1) hs hφ
   ·cases hc
  ·cases hc;exact L9 ho (h.dA x ha.1) (h.dA y ha.2.1) hs hφ
  ·cases hc;exact L9 ho (h.dA x ha.1) (h.dA y ha.2.1) hs hφ
  ·rename_i fs hu;split at hc
   ·rename_i ks hks;split at hc
    ·rename_i hcond;split at hc;·cases hc;exact LV h.qb.2 (ne:=false) ho hu hks hcond (h.dA x ha.1) (h.dA y ha.2.1) hs hφ
     ·cases hc;exact LV h.qb.2 (ne:=true) ho hu hks hcond (h.dA x ha.1) (h.dA y ha.2.1) hs hφ
     ·cases hc
    ·cases hc
   ·cases hc
  ·cases hc
 ·rename_i t x ho;cases hc;exact Z6 ho (h.dA x ha.1) hs hφ
 ·rename_i t x ho;cases hc;exact Y4 ho (h.dA x ha.1) hs hφ
 ·rename_i src dst x ho;split at hc;·rename_i k0 k1 hsr hds;cases hc;exact WV ho hsr hds (h.dA x ha.1) hs hφ
  ·rename_i hsr hds;cases hc;exact Ze ho hsr hds (h.dA x ha.1) hs hφ
  ·rename_i e hsr hds;split at hc;·rename_i he;cases hc;exact RW ho hsr he hds h.heap (h.dA x ha.1) hs
   ·cases hc
  ·split at hc;·cases hc;simp[sR]at hk
   ·cases hc
  ·cases hc
 ·rename_i s x i ho;split at hc
  ·rename_i fs hu;split at hc
   ·rename_i f hf;split at hc;·rename_i n hsz;cases hc;exact q_fad ho hu hf hsz (h.dA x ha.1) hs hφ
    ·cases hc
   ·cases hc
  ·cases hc
 ·rename_i s x i ho;split at hc
  ·rename_i fs hu;split at hc;·rename_i f hf;obtain⟨n,hn,he⟩:=q0.1 hc;cases he;cases n with|none=>exact Oo ho hu hf hn (h.dA x ha.1) hs hφ|some n=>exact Rz ho hu hf hn (h.dA x ha.1) hs hφ
   ·cases hc
  ·cases hc
 ·rename_i t x y ho;split at hc;·rename_i e hu;obtain⟨sz,hsz,he⟩:=q0.1 hc;cases he;exact q_ixa ho hu hsz h.heap (h.dA x ha.1) (h.dA y ha.2.1) hs hφ
  ·rename_i n e hu;obtain⟨sz,hsz,he⟩:=q0.1 hc;cases he;exact Wv ho hu hsz (h.dA x ha.1) (h.dA y ha.2.1) hs hφ
  ·cases hc
 ·rename_i t x y ho;split at hc;·rename_i hu;cases hc;exact Qn ho hu (h.dA x ha.1) (h.dA y ha.2.1) hs hφ
  ·cases hc
 ·rename_i t x lo hi ho;split at hc;·rename_i hu;cases hc;simp only[q301,q149,q158,q71,aq]at ha hs;exact q_ssl ho hu h.dA (h.dA x ha.1) ha.2 hs hφ
  ·rename_i e hu;obtain⟨sz,hsz,he⟩:=q0.1 hc;cases he;simp only[q301,q149,q158,q71,aq]at ha hs;exact ZL ho hu hsz h.heap h.dA (h.dA x ha.1) ha.2 hs hφ
  ·cases hc
 ·rename_i x i ho;cases hc;exact q_ext ho (h.dA x ha.1) hs hφ
 ·rename_i x ho;cases hc;exact q_nck ho (h.dA x ha.1) hs hφ
 ·rename_i f first caps ho;split at hc
  ·rename_i hf;have hf':first=#[]:=by apply q114;simpa using hf
   subst hf';cases hc;exact Xi ho h.dA ha hs hφ
  ·cases hc
 ·rename_i c ho;obtain⟨callee,args,argTypes⟩:=c;unfold gN at hc;simp only at hc;split at hc
  ·rename_i b;unfold dv at hc;split at hc;·
    rename_i x t hx ht;have hx':args=#[x]:=by apply q114;simpa using hx
    have ht':argTypes=#[t]:=by apply q114;simpa using ht
    subst hx' ht';split at hc;·rename_i hu;cases hc;exact Oi ho hu (h.dA x ha.1) hs hφ
    ·rename_i e hu;cases hc;exact q_len ho hu h.heap (h.dA x ha.1) hs hφ
    ·cases hc
   ·split at hc
    ·split at hc
     ·split at hc;·cases hc;simp[sR]at hk
      ·cases hc
     ·cases hc
    ·split at hc
     ·split at hc;·cases hc;simp[sR]at hk
      ·cases hc
     ·cases hc
    ·cases hc
   ·rename_i x y t t' hx ht;have hx':args=#[x,y]:=by apply q114;simpa using hx
    have ht':argTypes=#[t,t']:=by apply q114;simpa using ht
    subst hx' ht';cases hc;exact L3 (mx:=false) ho (h.dA x ha.1) (h.dA y ha.2.1) hs
   ·rename_i x y t t' hx ht;have hx':args=#[x,y]:=by apply q114;simpa using hx
    have ht':argTypes=#[t,t']:=by apply q114;simpa using ht
    subst hx' ht';cases hc;exact L3 (mx:=true) ho (h.dA x ha.1) (h.dA y ha.2.1) hs
   ·repeat'(split at hc)
    all_goals first|(cases hc;simp[sR]at hk;done)|cases hc
   ·cases hc
  ·split at hc;·cases hc;simp[sR]at hk
   ·cases hc
  ·cases hc;simp[sR]at hk
  ·cases hc
 ·cases hc
theorem aK {K:Act→World→Prop}{r:Value}{w':World} (hr:(execOp a.eval o).run P w=.ok (.value r) w') (hK:K (a.put o.dst r) w'):o.wp P a w K Q:=by unfold Oper.wp;rw[hr];exact hK
theorem jm {K:Act→World→Prop}{w':World} (hr:(execOp a.eval o).run P w=.ok .skip w') (hK:K (a.put o.dst undef) w'):o.wp P a w K Q:=by unfold Oper.wp;rw[hr];exact hK
theorem dK {K:Act→World→Prop}{args:Array Value}{w':World} (hr:(execOp a.eval o).run P w=.ok (.enter f args) w') (hK:Calls P f args w' fun e w''=>∃v,e=.returned v∧K (a.put o.dst v) w''):o.wp P a w K Q:=by unfold Oper.wp;rw[hr];refine Calls.mono hK ?_;rintro e w'' ⟨v,rfl,h⟩;exact h
theorem ae {α:Type}{q:Option α}{K:α→Prop} (h:ai q K):∃x,q=some x∧K x:=by cases q with|none=>exact h.elim|some x=>exact⟨x,rfl,h⟩
theorem II {x:Operand} (h:fp x=true):a.eval x=.slice none 0 0:=by
 unfold fp at h;split at h;·rfl
 ·cases h
theorem ji {args:Array Operand} (ho:o.op=.call {callee:=.value (.func f),args:=args,argTypes:=argTypes}) (hf:fF P f=true):(execOp a.eval o).run P w=.ok (.enter f (args.map a.eval)) w:=by
 unfold fF at hf;split at hf
 ·rename_i fn hfn;simp only[q73,bne_iff_ne,ne_eq]at hf;have hn:=hf.1;have hb:¬fn.body=none:=fun e=>by rw[e]at hf;simp at hf
  simp[execOp,ho,resolve,Act.eval,Deferred.ofValue,invoke,callFunc,hfn,hn,hb]
 ·cases hf
theorem kk (h:Rel P S0 L B0 w0 N st a w β):∀(l:List Operand),aq (l.map (Ab.ev st.vars))→∀(i:Nat) (v:Value) (x:AV),(l.map a.eval)[i]?=some v→((l.map (Ab.ev st.vars)).map strip)[i]?=some x→RV P (aZ S0 w0.heap.size β st.aa w) w β (aG st.aa) v x:=by intro l ha i v x hv hx;rw[q77,q0]at hv;obtain⟨z,hz,rfl⟩:=hv;simp only[q77,hz,q116,qr]at hx;subst hx;exact h.dA z (lY l i z ha hz)
theorem tz {args:Array Operand} (h:Rel P S0 L B0 w0 N st a w β) {d:Nat} (hd9:d%1000≠999) (ho:o.op=.call {callee:=.value (.func f),args:=args,argTypes:=argTypes}) (hf:fF P f=true)  (ha:aq (args.toList.map (Ab.ev st.vars))) (hre:fJ st.aa ((args.toList.map (Ab.ev st.vars)).map strip)=some ys) (hcon:Sb P f ys r) (hpf:eT ((args.toList.map (Ab.ev st.vars)).map strip)=true∨sn r) (hfree:∀x∈j8 d r,st.aa x.1=none) (hres:Bu d r=true) {K:Act→World→Prop} (hK:∀v w' β',Rel P S0 L B0 w0 N ⟨st.vars,bG (j8 d r) st.aa⟩ a w' β'→RV P (aZ S0 w0.heap.size β' (bG (j8 d r) st.aa) w') w' β' (aG (bG (j8 d r) st.aa)) v (As d r)→K (a.put o.dst v) w'):o.wp P a w K Q:=by
 refine dK (ji ho hf) ?_;have hv:args.map a.eval=(args.toList.map a.eval).toArray:=by apply q114;simp
 rw[hv];refine(ma (a:=a) h hd9 (by simp) (kk h args.toList ha) hre hcon hpf hfree hres).mono ?_;rintro e w' ⟨v,β',rfl,hR,hrv⟩;exact⟨v,rfl,hK v w' β' hR hrv⟩
theorem BX (h:Rel P S0 L B0 w0 N st a w β) {c x y:Operand} (ho:o.op=.pick c x y)  (hs:u9 [Ab.ev st.vars c,Ab.ev st.vars x,Ab.ev st.vars y]=some (φ,v)) (hφ:φ):∃r,(execOp a.eval o).run P w=.ok (.value r) w∧RV P (aZ S0 w0.heap.size β st.aa w) w β (aG st.aa) r v:=by
 simp only[u9,q63,q0]at hs;obtain⟨b,hb,r,hs,hr⟩:=hs;cases hr;obtain⟨hca,hφ⟩:=hφ;obtain⟨φ,v⟩:=r;have hc:=(h.ev c).strip hca;have hX:=h.ev x;have hY:=h.ev y;generalize strip (Ab.ev st.vars c)=C at hb hc;have hce:a.eval c=.bool b:=by cases C with|pv p=>cases p<;>simp[jd]at hb;subst hb;exact hc.fb|_=>simp[jd]at hb
 unfold qP at hs;split at hs;·rename_i p q hp hq;simp only[qr,q70]at hs;obtain⟨rfl,rfl⟩:=hs;cases b with|true=>have hx:=hX.strip (hφ.1 rfl);rw[hp]at hx;exact⟨a.eval x,by simp[execOp,ho,hce,asBool],by simpa using hx⟩|false=>have hy:=hY.strip (hφ.2 rfl);rw[hq]at hy;exact⟨a.eval y,by simp[execOp,ho,hce,asBool],by simpa using hy⟩
 ·rename_i p hp _;simp only[qr,q70]at hs;obtain⟨rfl,rfl⟩:=hs;obtain⟨rfl,hφ⟩:=hφ;have hx:=hX.strip hφ;rw[hp]at hx;exact⟨a.eval x,by simp[execOp,ho,hce,asBool],hx⟩
 ·rename_i q hq _;simp only[qr,q70]at hs;obtain⟨rfl,rfl⟩:=hs;obtain⟨rfl,hφ⟩:=hφ;have hy:=hY.strip hφ;rw[hq]at hy;exact⟨a.eval y,by simp[execOp,ho,hce,asBool],hy⟩
 ·cases hs
theorem yQ (hΓ:eb P Γ) (h:Rel P S0 L B0 w0 N st a w β) (hc:gW P o=some (k,xs)) (hd:∀s,o.dst=some s→s<N) (hs:bf P Γ o.dst k (xs.map (Ab.ev st.vars)) st.aa C):o.wp P a w (fun a' w'=>∃e β',C e∧Rel P S0 L B0 w0 N (e.on o.dst st) a' w' β') Q:=by
 by_cases hq:sR k=true;·
  have hs':aq (xs.map (Ab.ev st.vars))∧ai (al k ((xs.map (Ab.ev st.vars)).map strip) st.aa) fun x=>x.1∧C (.put x.2):=by cases k<;>first|exact hs|(simp[sR]at hq)
  obtain⟨ha,hw⟩:=hs';obtain⟨⟨φ,v⟩,he,hφ,hC⟩:=ae hw;obtain⟨r,hr,hv⟩:=F8 h hc hq ha he hφ;exact aK hr ⟨_,β,hC,h.put hd hv⟩
 ·have hmov:∀x:Operand,k=.oO→xs=[x]→(execOp a.eval o).run P w=.ok (.value (a.eval x)) w→o.wp P a w (fun a' w'=>∃e β',C e∧Rel P S0 L B0 w0 N (e.on o.dst st) a' w' β') Q:=by rintro x rfl rfl hr;dsimp only[bf]at hs;obtain⟨y,hy,_,hC⟩:=ae hs;simp at hy;subst hy;exact aK hr ⟨_,β,hC,h.put hd (h.ev x)⟩
  have hnil:∀(x:Operand) (e:TypeId),k=.gX e→(P.info? e).isSome=true→fp x=true→(execOp a.eval o).run P w=.ok (.value (a.eval x)) w→o.wp P a w (fun a' w'=>∃e β',C e∧Rel P S0 L B0 w0 N (e.on o.dst st) a' w' β') Q:=by rintro x e rfl hi hx hr;dsimp only[bf]at hs;obtain⟨d,hdd,_,hw⟩:=ae hs;obtain⟨⟨φ,v,ao⟩,he,hφ,hn,hC⟩:=ae hw;simp only[cG,qr,q70]at he;obtain⟨rfl,rfl,rfl⟩:=he;rw[II hx]at hr;obtain⟨β',hR⟩:=aaF h (hd d hdd) hn hi;refine aK hr ⟨_,β',hC,?_⟩;rw[hdd];exact hR
  rcases ed hc with hc|⟨x,rfl,hx⟩;rotate_left
  ·have hs:aq (xs.map (Ab.ev st.vars))∧ai (al (.ex x) ((xs.map (Ab.ev st.vars)).map strip) st.aa) fun x=>x.1∧C (.put x.2):=hs;by_cases hb:∃e sz,x=.nn e sz;·obtain⟨e,sz,rfl⟩:=hb;obtain⟨ha,hw⟩:=hs;obtain⟨⟨φ,v⟩,he,hφ,hC⟩:=ae hw;obtain⟨t,n,ps,zs,ho,hu,hsz,hz,h1,h2,h3,h4,rfl⟩:=CP hx;unfold al at he;simp only[q0]at he;obtain⟨rows,hrows,he⟩:=he;simp only[q70]at he;obtain⟨rfl,rfl⟩:=he;obtain⟨r,w',hr,hR,hv⟩:=Oz ho hu hsz hz h1 h2 h3 h4 h h.dA ha hrows hφ;exact aK hr ⟨_,β,hC,hR.put hd hv⟩
   rw[Ec (by simpa using hq) fun e sz hx=>hb ⟨e,sz,hx⟩]at hs;exact hs.2.elim
  unfold gD at hc;split at hc
  ·rename_i x ho;have hr:(execOp a.eval o).run P w=.ok (.value (a.eval x)) w:=by simp[execOp,ho]
   split at hc
   ·rename_i hx;split at hc
    ·split at hc;·rename_i hi;cases hc;exact hnil x _ rfl hi hx hr
     ·cases hc
    ·cases hc
   ·cases hc;exact hmov x rfl rfl hr
  ·rename_i x ho;have hr:(execOp a.eval o).run P w=.ok (.value (a.eval x)) w:=by simp[execOp,ho]
   split at hc
   ·rename_i hx;split at hc
    ·split at hc;·rename_i hi;cases hc;exact hnil x _ rfl hi hx hr
     ·cases hc
    ·cases hc
   ·cases hc;exact hmov x rfl rfl hr
  ·rename_i c x y ho;cases hc;dsimp only[bf]at hs;obtain⟨⟨φ,v⟩,he,hφ,hC⟩:=ae hs;obtain⟨r,hr,hv⟩:=BX h ho he hφ;exact aK hr ⟨_,β,hC,h.put hd hv⟩
  ·rename_i e ho;obtain⟨zs,hz,he⟩:=q0.1 hc;cases he;dsimp only[bf]at hs;obtain⟨d,hdd,_,hw⟩:=ae hs;obtain⟨⟨φ,v,ao⟩,he,hφ,hn,hC⟩:=ae hw;obtain⟨r,w',hr,β',hR⟩:=JS ho hz h (hd d hdd) hn he;refine aK hr ⟨_,β',hC,?_⟩;rw[hdd];exact hR
  ·rename_i e x ho;cases hc;dsimp only[bf]at hs;obtain⟨d,hdd,ha,hw⟩:=ae hs;obtain⟨⟨φ,v,ao⟩,he,hφ,hn,hC⟩:=ae hw;obtain⟨r,w',hr,β',hR⟩:=XX ho h (hd d hdd) hn (h.dA x ha.1) he;refine aK hr ⟨_,β',hC,?_⟩;rw[hdd];exact hR
  ·split at hc
   ·split at hc;·cases hc
    ·obtain⟨l,hl,he⟩:=q0.1 hc;cases he;exact absurd rfl hq
   ·cases hc
  ·rename_i t n ps ho;split at hc
   ·rename_i e hu;split at hc
    ·rename_i sz zs hsz hz;split at hc;·rename_i hcond;obtain⟨_,hord,hbig,hzl,hpos⟩:=hcond;cases hc;dsimp only[bf]at hs;obtain⟨d,hdd,ha,hw⟩:=ae hs;obtain⟨⟨φ,v,ao⟩,he,hφ,hn,hC⟩:=ae hw;obtain⟨r,w',hr,β',hR⟩:=Nw ho hu hsz hz hord hbig hzl hpos h (hd d hdd) hn h.dA ha he hφ;refine aK hr ⟨_,β',hC,?_⟩;rw[hdd];exact hR
     ·cases hc
    ·cases hc
   ·cases hc
  ·obtain⟨n,hn,he⟩:=q0.1 hc;cases he;exact absurd rfl hq
  ·rename_i t x y ho;split at hc
   ·rename_i hn;split at hc;·rename_i h1;cases hc;obtain⟨ha,hw⟩:=hs;obtain⟨⟨φ,tg,ao⟩,he,hφ,hC⟩:=ae hw;obtain⟨w',hr,β',hR⟩:=Hf ho h1 h hd (h.dA x ha.1) (h.dA y ha.2.1) he hφ;exact jm hr ⟨_,β',hC,hR⟩
    ·cases hc
   ·rename_i n hn;cases hc;obtain⟨ha,hw⟩:=hs;obtain⟨⟨φ,tg,ao⟩,he,hφ,hC⟩:=ae hw;obtain⟨w',hr,β',hR⟩:=Iw ho hn h hd (h.dA x ha.1) (h.dA y ha.2.1) he hφ;exact jm hr ⟨_,β',hC,hR⟩
   ·cases hc
  ·split at hc;·split at hc<;>first|(cases hc;exact absurd rfl hq)|cases hc
   ·cases hc;exact absurd rfl hq
   ·cases hc;exact absurd rfl hq
   ·split at hc
    ·split at hc;·split at hc<;>first|(cases hc;exact absurd rfl hq)|cases hc
     ·cases hc
    ·cases hc
   ·cases hc
  ·cases hc;exact absurd rfl hq
  ·cases hc;exact absurd rfl hq
  ·rename_i src dst x ho;split at hc;·cases hc;exact absurd rfl hq
   ·cases hc;exact absurd rfl hq
   ·split at hc;·cases hc;exact absurd rfl hq
    ·cases hc
   ·rename_i e hsr hds;split at hc;·rename_i he;cases hc;obtain⟨ha,hw⟩:=hs;obtain⟨⟨φ,v⟩,heq,hφ,hC⟩:=ae hw;have hX:=h.dA x ha.1;have heq:al (.qZ e) [strip (Ab.ev st.vars x)] st.aa=some (φ,v):=heq;generalize strip (Ab.ev st.vars x)=X at hX heq;cases X with
     |pv p=>cases p with|str l=>simp only[al,qr,q70]at heq;obtain⟨rfl,rfl⟩:=heq;obtain⟨r,w',hr,hR,hv⟩:=Sa ho hsr hds he h hX.eS;exact aK hr ⟨_,β,hC,hR.put hd hv⟩|_=>simp[al]at heq
     |_=>simp[al]at heq
    ·cases hc
   ·cases hc
  ·split at hc
   ·split at hc
    ·split at hc;·cases hc;exact absurd rfl hq
     ·cases hc
    ·cases hc
   ·cases hc
  ·split at hc
   ·split at hc;·obtain⟨n,hn,he⟩:=q0.1 hc;cases he;exact absurd rfl hq
    ·cases hc
   ·cases hc
  ·split at hc;·obtain⟨n,hn,he⟩:=q0.1 hc;cases he;exact absurd rfl hq
   ·obtain⟨n,hn,he⟩:=q0.1 hc;cases he;exact absurd rfl hq
   ·cases hc
  ·split at hc;·cases hc;exact absurd rfl hq
   ·cases hc
  ·split at hc;·cases hc;exact absurd rfl hq
   ·obtain⟨n,hn,he⟩:=q0.1 hc;cases he;exact absurd rfl hq
   ·cases hc
  ·cases hc;exact absurd rfl hq
  ·cases hc;exact absurd rfl hq
  ·split at hc;·cases hc;exact absurd rfl hq
   ·cases hc
  ·rename_i c ho;obtain⟨callee,args,argTypes⟩:=c;unfold gN at hc;simp only at hc;split at hc
   ·rename_i b;unfold dv at hc;split at hc;·split at hc<;>first|(cases hc;exact absurd rfl hq)|cases hc
    ·rename_i x y t tx hx ht;have hx':args=#[x,y]:=by apply q114;simpa using hx
     have ht':argTypes=#[t,tx]:=by apply q114;simpa using ht
     subst hx' ht';have happ:∀(e:TypeId) (inf:TypeInfo),P.underlying t=some (.slice e)→((∃e',P.underlying tx=some (.slice e'))∨P.underlying tx=some .string)→P.info? e=some inf→0<inf.size→(dQ P e).isSome=true→bf P Γ o.dst (.app e inf.size inf.bytes) ([x,y].map (Ab.ev st.vars)) st.aa C→o.wp P a w (fun a' w'=>∃e β',C e∧Rel P S0 L B0 w0 N (e.on o.dst st) a' w' β') Q:=by
      intro e inf hu hux hi hpos hzt hs;obtain⟨ha,hw⟩:=hs;split at hw;·obtain⟨⟨φ,tg,ao⟩,he,hφ,hC⟩:=ae hw;obtain⟨r,w',hr,β',hR⟩:=m_app ho hu hux hi hpos hzt h hd (h.dA x ha.1) (h.dA y ha.2.1) he hφ;exact aK hr ⟨_,β',hC,hR⟩
      ·obtain⟨d,hdd,hw⟩:=ae hw;obtain⟨⟨φ,v,ao⟩,he,hφ,hn,hC⟩:=ae hw;obtain⟨r,w',hr,β',hR⟩:=aaY ho hu hux hi hpos hzt h (hd d hdd) hn (h.dA x ha.1) (h.dA y ha.2.1) he hφ;refine aK hr ⟨_,β',hC,?_⟩;rw[hdd];exact hR
     split at hc
     ·rename_i e hu hux;split at hc
      ·rename_i inf hi;split at hc;·rename_i hcond;cases hc;exact happ e inf hu (.inr hux) hi (by omega) hcond.2 hs
       ·cases hc
      ·cases hc
     ·rename_i e e' hu hux;split at hc
      ·rename_i inf hi;split at hc;·rename_i hcond;cases hc;exact happ e inf hu (.inl ⟨e',hux⟩) hi hcond.1 hcond.2 hs
       ·cases hc
      ·cases hc
     ·cases hc
    ·cases hc;exact absurd rfl hq
    ·cases hc;exact absurd rfl hq
    ·repeat'(split at hc)
     all_goals first|(cases hc;exact hs.2.elim)|cases hc
    ·cases hc
   ·rename_i f;split at hc
    ·rename_i hf;cases hc;dsimp only[bf]at hs;dsimp only[cH]at hs;obtain⟨d,hdd,ha,hw⟩:=ae hs;obtain⟨ys,hys,hw⟩:=ae hw;obtain⟨⟨φ,r⟩,hr,hφ,hpf,hfree,hres,hC⟩:=ae hw;have hcon:=hΓ.con (iA hf) hr hφ;have hdlt:d<N:=hd d hdd;have hlim:=h.qb.1;have hd9:d%1000≠999:=by omega
     refine tz h hd9 ho hf ha hys hcon hpf hfree hres ?_;intro v w' β' hR hv;refine⟨_,β',hC,?_⟩;exact hR.put hd hv
    ·cases hc
   ·cases hc;exact hs.2.elim
   ·cases hc
  ·cases hc
end
def Core (P:Program) (N:Nat) (ops:Array Oper) (o:Oper) (i:AI):Prop:=gW P o=some (i.k,i.xs)∧i.d=o.dst∧(∀d,i.d=some d→d<N)∧((o.guard=none∧i.g=none)∨∃j want s,o.guard=some (j,want)∧(ops[j]?).bind (·.dst)=some s∧i.g=some (s,want))
theorem Ck {P:Program}{N:Nat}{o:Oper}{i:AI} (h:Ha P N ops o=some i):Core P N ops o i:=by unfold Ha at h;cases hk:gW P o with|none=>rw[hk]at h;simp at h|some kx=>
 obtain⟨k,xs⟩:=kx;rw[hk]at h;dsimp only at h;have key:∀b:Bool,(∀d,o.dst=some d→b=true→d<N)→(if(!b)=true then none else match o.guard with|none=>some (⟨o.dst,k,xs,none,[],none⟩:AI)|some (j,want)=>match(ops[j]?).bind (·.dst) with|some s=>some ⟨o.dst,k,xs,some (s,want),[],none⟩|none=>none)=some i→Core P N ops o i:=by intro b hb h;cases b with|false=>simp at h|true=>simp only[q303,q136,if_false]at h;cases hg:o.guard with|none=>rw[hg]at h;simp only[qr]at h;subst h;exact⟨hk,rfl,fun d e=>hb d e rfl,.inl ⟨hg,rfl⟩⟩|some jw=>obtain⟨j,want⟩:=jw;rw[hg]at h;dsimp only at h;cases hs:(ops[j]?).bind (·.dst) with|none=>rw[hs]at h;cases h|some s=>rw[hs]at h;simp only[qr]at h;subst h;exact⟨hk,rfl,fun d e=>hb d e rfl,.inr ⟨j,want,s,hg,hs,rfl⟩⟩
 refine key _ ?_ h;intro d hd hb;rw[hd]at hb;simp at hb;exact hb.1
theorem eF {P:Program}{o:Oper}{a:Act} (h:o.guard=none):Region.wanted o (yielded ops a.tmps)=true:=by unfold Region.wanted;rw[h]
def Rt:Value→Option Bool|.bool b=>some b|_=>none
theorem py {P:Program}{w:World}{β:Nat→Value}{S:Nat→Prop}{D:Nat→Prop}{want:Bool}:∀{v:AV}{u:Value}{c:Bool},RV P S w β D u v→bN v want=some c→(Rt u==some want)=c
 |.pv p,u,c,hu,h=>by cases p with|bool b=>rw[hu.fb];simp only[bN,qr]at h;subst h;cases want<;>cases b<;>rfl|_=>simp[bN]at h
 |.cp g v,u,c,hu,h=>by cases hu with|cp _ _ _ h1 h2=>cases g with|false=>rw[h2 rfl];simp only[bN,s0,qr]at h;subst h;rfl|true=>exact py (v:=v) (h1 rfl) (by simpa[bN,s0]using h)
 |.own _,_,_,_,h|.ptr _ _,_,_,_,h|.bd _ _ _ _,_,_,_,h|.sub _ _ _ _,_,_,_,h|.rp _,_,_,_,h|.agg _,_,_,_,h|.aO _,_,_,_,h|.bE _ _,_,_,_,h|.fr _ _,_,_,_,h|.aw,_,_,_,h=>by simp[bN]at h
theorem dJ {P:Program}{w:World}{β:Nat→Value}{S:Nat→Prop}{D:Nat→Prop}{o:Oper}{a:Act}{j:Nat}{want:Bool}{s:Nat}{c:Bool} (h:o.guard=some (j,want)) (hs:(ops[j]?).bind (·.dst)=some s) (hv:RV P S w β D (a.tmps.getD s undef) v) (hc:bN v want=some c):Region.wanted o (yielded ops a.tmps)=c:=by rw[←py hv hc];unfold Region.wanted;rw[h];simp only[yielded,hs,q130];rw[q128];cases a.tmps[s]? with|none=>rfl|some v=>cases v<;>rfl
def IP (g:Nat→AV→AV):Prop:=∀p c,(∀e rows,c≠.fr e rows)→g p c=c
theorem wN (d i:Nat):IP fun p c=>lP d (p+i) c:=by intro p c hc;cases c<;>first|rfl|exact absurd rfl (hc _ _)
theorem tZ {g:Nat→AV→AV} (hg:IP g):∀(cs:List AV) (j:Nat),fY j cs=[]→fZ g j cs=cs
 |[],_,_=>rfl|c::cs,j,h=>by
  have hc:∀e rows,c≠.fr e rows:=by rintro e rows rfl;simp[fY]at h
  have h':fY (j+1) cs=[]:=by cases c<;>first|exact h|exact absurd rfl (hc _ _)
  simp only[fZ];rw[hg _ _ hc,tZ hg cs (j+1) h']
theorem vT {g:Nat→AV→AV} (hg:IP g) (h:lJ v=[]):nt g v=v:=by
 have hv:∀e rows,v≠.fr e rows:=by rintro e rows rfl;simp[lJ]at h
 cases v<;>first|exact congrArg AV.agg (tZ hg _ _ h)|exact hg _ _ hv
theorem uM {d:Nat}:∀(vs:List AV) (i:Nat),mL i vs=[]→jq (lP d) i vs=vs|[],_,_=>rfl|v::vs,i,h=>by simp only[mL,List.append_eq_nil_iff,q204]at h;simp only[jq];rw[vT (wN d i) h.1,uM vs (i+1) h.2]
theorem rW {d:Nat} (h:Bz r=[]):cS (lP d) r=r:=by
 have hr:(∃vs,r=.aO vs)∨(Bz r=lJ r∧cS (lP d) r=nt (fun p c=>lP d (p+0) c) r):=by cases r<;>first|exact .inl ⟨_,rfl⟩|exact .inr ⟨rfl,rfl⟩
 rcases hr with⟨vs,rfl⟩|⟨h1,h2⟩;·exact congrArg AV.aO (uM _ _ h)
 ·rw[h2];exact vT (wN d 0) (h1▸h)
theorem Fa {aa:Nat→Option AO}:al .lN ys aa=none:=by unfold al;split<;>first|rfl|simp_all
theorem Gl {e:TypeId}{zs:List Value}{aa:Nat→Option AO}:al (.F4 e sz zs) ys aa=none:=by unfold al;split<;>first|rfl|simp_all
theorem rf {P:Program}{b:Builtin}{ys xs:List Operand}{ts:List TypeId} (hc:dv P b ys ts=some (.call f,xs)):False:=by
 unfold dv at hc;repeat'(split at hc)
 all_goals(simp at hc)
theorem lV {P:Program}{o:Oper}{xs:List Operand} (hc:gW P o=some (.call f,xs)):∃args argTypes,o.op=.call {callee:=.value (.func f),args:=args,argTypes:=argTypes}∧fF P f=true∧xs=args.toList:=by
 rcases ed hc with hc|⟨x,h0,_⟩;rotate_left;·cases h0
 unfold gD at hc;split at hc;case h_22=>
  rename_i cl ho;obtain⟨callee,args,argTypes⟩:=cl;unfold gN at hc;simp only at hc;split at hc;·exact(rf hc).elim
  ·split at hc;·rename_i hf;simp only[qr,q70,AK.call.injEq]at hc;obtain⟨rfl,hx⟩:=hc;exact⟨args,argTypes,ho,hf,hx.symm⟩
   ·cases hc
  ·simp at hc
  ·cases hc
 all_goals
  exfalso;repeat'(split at hc)
  all_goals(simp at hc)
section
variable{P:Program}{Γ:bX}{S0 L:Nat→Prop}{B0:Nat→Value}{w0 w:World}{N:Nat}{st:St}{a:Act}{β:Nat→Value}{o:Oper}{k:AK}{xs:List Operand}
theorem Rel.EU (h:Rel P S0 L B0 w0 N st a w β) {vars:Nat→AV} (hv:∀s v,RV P (aZ S0 w0.heap.size β st.aa w) w β (aG st.aa) v (st.vars s)→RV P (aZ S0 w0.heap.size β st.aa w) w β (aG st.aa) v (vars s)):Rel P S0 L B0 w0 N ⟨vars,st.aa⟩ a w β:=⟨h.size,h.defers,fun s=>hv s _ (h.vars s),h.heap,h.old,h.qb,h.vw,h.bZ⟩
theorem Cm {S:Nat→Prop}{D:Nat→Prop} (xs:List AV):RV P S w β D undef (A8 xs):=by unfold A8;cases rowsOf (xs.map strip) with|none=>exact .aw _|some rows=>exact .cp _ _ _ (fun e=>by cases e) fun _=>rfl
theorem Rel.yc {d:Option Nat}{c:Bool} (hc:c=true) (h:Rel P S0 L B0 w0 N ((bI.put v).on d st) a w β):Rel P S0 L B0 w0 N ((bI.put (.cp c v)).on d st) a w β:=by refine h.EU (vars:=Ab.put d (.cp c v) st.vars) fun s u hu=>?_;cases d with|none=>exact hu|some d=>
 by_cases hs:s=d;·subst hs;simp only[bI.on,Ab.put,if_true]at hu ⊢;exact .cp c _ _ (fun _=>hu) (fun e=>by rw[hc]at e;cases e)
 ·simpa[bI.on,Ab.put,hs]using hu
theorem Rel.fq {d:Option Nat} (hd:∀s,d=some s→s<N) (h:Rel P S0 L B0 w0 N st a w β) (hv:RV P (aZ S0 w0.heap.size β st.aa w) w β (aG st.aa) undef v):Rel P S0 L B0 w0 N ((bI.put v).on d st) (a.put d undef) w β:=h.put hd hv
theorem PS (hΓ:eb P Γ) {i:AI} (h:Rel P S0 L B0 w0 N st a w β) (hi:Core P N ops o i) (hs:dW P Γ i st.vars st.aa C):if Region.wanted o (yielded ops a.tmps) then o.wp P a w (fun a' w'=>∃e β',C e∧Rel P S0 L B0 w0 N (e.on i.d st) a' w' β') Q else∃e β',C e∧Rel P S0 L B0 w0 N (e.on i.d st) (a.put o.dst undef) w β':=by
 obtain⟨hc,hd,hdN,hg⟩:=hi;have hdN':∀s,o.dst=some s→s<N:=fun s e=>hdN s (hd.trans e);rcases hg with⟨hg,hig⟩|⟨j,want,s,hg,hj,hig⟩;·rw[eF (P:=P) hg];simp only[if_true];unfold dW at hs;rw[hig]at hs;rw[hd]at hs ⊢;exact yQ hΓ h hc hdN' hs
 ·unfold dW at hs;rw[hig]at hs;obtain⟨c,hcg,hs⟩:=ae hs;rw[dJ hg hj (h.vars s) hcg];rw[hd]at hs ⊢;have hreg:∀(g:bI→bI),(∀e,∀{a' w' β'},Rel P S0 L B0 w0 N (e.on o.dst st) a' w' β'→Rel P S0 L B0 w0 N ((g e).on o.dst st) a' w' β')→bf P Γ o.dst i.k (i.xs.map (Ab.ev st.vars)) st.aa (fun e=>C (g e))→o.wp P a w (fun a' w'=>∃e β',C e∧Rel P S0 L B0 w0 N (e.on o.dst st) a' w' β') Q:=by intro g hgr hk;refine q278 ?_ (yQ hΓ h hc hdN' hk);rintro a' w' ⟨e,β',hC,hR⟩;exact⟨g e,β',hC,hgr e hR⟩
  have hq:sR i.k=true→(ai (al i.k ((i.xs.map (Ab.ev st.vars)).map strip) st.aa) fun x=>(c=true→aq (i.xs.map (Ab.ev st.vars))∧x.1)∧C (.put (.cp c x.2)))→if c=true then o.wp P a w (fun a' w'=>∃e β',C e∧Rel P S0 L B0 w0 N (e.on o.dst st) a' w' β') Q else∃e β',C e∧Rel P S0 L B0 w0 N (e.on o.dst st) (a.put o.dst undef) w β':=by intro hk hw;obtain⟨⟨φ,v⟩,he,hφ,hC⟩:=ae hw;cases c with|true=>obtain⟨r,hr,hv⟩:=F8 h hc hk (hφ rfl).1 he (hφ rfl).2;exact aK hr ⟨_,β,hC,h.put hdN' (.cp _ _ _ (fun _=>hv) fun e=>by cases e)⟩|false=>exact⟨_,β,hC,h.fq hdN' (.cp _ _ _ (fun e=>by cases e) fun _=>rfl)⟩
  have hmk:∀{v:AV},RV P (aZ S0 w0.heap.size β st.aa w) w β (aG st.aa) undef v→(c=true→bf P Γ o.dst i.k (i.xs.map (Ab.ev st.vars)) st.aa C)∧(c=false→C (.put v))→if c=true then o.wp P a w (fun a' w'=>∃e β',C e∧Rel P S0 L B0 w0 N (e.on o.dst st) a' w' β') Q else∃e β',C e∧Rel P S0 L B0 w0 N (e.on o.dst st) (a.put o.dst undef) w β':=by rintro v hv ⟨ht,hf⟩;cases c with|true=>exact hreg id (fun _ _ _ _ hR=>hR) (ht rfl)|false=>exact⟨_,β,hf rfl,h.fq hdN' hv⟩
  generalize hik:i.k=k at hc hs hreg hq hmk;cases k with
  |oO=>dsimp only[cu]at hs;obtain⟨x,hx,hl,hC⟩:=ae hs;cases c with
   |true=>
    refine hreg (fun e=>match e with|.put v=>.put (.cp true v)|e=>e) ?_ ?_;·intro e a' w' β' hR;cases e<;>first|exact hR.yc rfl|exact hR
    ·dsimp only[bf];rw[hx];exact⟨hl,hC⟩|false=>exact⟨_,β,hC,h.fq hdN' (.cp _ _ _ (fun e=>by cases e) fun _=>rfl)⟩
  |pick=>dsimp only[cu]at hs;obtain⟨x,hx,hl,hC⟩:=ae hs;cases c with
   |true=>
    refine hreg (fun e=>match e with|.put v=>.put (.cp true v)|e=>e) ?_ ?_;·intro e a' w' β' hR;cases e<;>first|exact hR.yc rfl|exact hR
    ·dsimp only[bf];rw[hx];exact⟨hl rfl,hC⟩|false=>exact⟨_,β,hC,h.fq hdN' (.cp _ _ _ (fun e=>by cases e) fun _=>rfl)⟩
  |gX e=>exact hmk (.aw _) hs|box=>exact hmk (.aw _) hs|alloc zs=>exact hmk (.aw _) hs|sJ e sz=>exact hmk (Cm _) hs|store n=>exact hmk (.aw _) hs|app e sz bytes=>exact hmk (.aw _) hs|call f=>
   dsimp only[cu]at hs;obtain⟨ys,hys,hs⟩:=ae hs;obtain⟨⟨φ,r⟩,hr,hs⟩:=ae hs;split at hs;rotate_left;·exact hmk (.cp _ _ _ (fun e=>by cases e) fun _=>rfl) hs
   obtain⟨hcon,hfl,hfr,hres,hC⟩:=hs;cases c with|true=>
    have hcall:=lV hc;obtain⟨args,argTypes,ho,hf,hx⟩:=hcall;rw[hx]at hys hcon;have htr:=Dr hfl;have hnil:∀d,j8 d r=[]:=fun d=>by rw[tO htr];unfold aT;rw[hfr];rfl
    refine tz (d:=0) h (by omega) ho hf (hcon rfl).1 hys (hΓ.con (iA hf) hr (hcon rfl).2) (.inr (by rw[sq htr];exact hfl)) (by rw[hnil];intro x hx;cases hx) (by rw[ti htr];exact hres) ?_;intro v w' β' hR hv;rw[hnil]at hR hv;rw[tL htr,rW hfr]at hv;exact⟨_,β',hC,hR.put hdN' (.cp _ _ _ (fun _=>hv) fun e=>by cases e)⟩|false=>exact⟨_,β,hC,h.fq hdN' (.cp _ _ _ (fun e=>by cases e) fun _=>rfl)⟩
  |lN=>have hs:ai (al .lN ((i.xs.map (Ab.ev st.vars)).map strip) st.aa) fun x=>(c=true→aq (i.xs.map (Ab.ev st.vars))∧x.1)∧C (.put (.cp c x.2)):=hs;rw[Fa]at hs;exact hs.elim|sE=>exact hq rfl hs|FX mx=>exact hq rfl hs|eqs ne ks=>exact hq rfl hs|qZ e=>have hs:ai (al (.qZ e) ((i.xs.map (Ab.ev st.vars)).map strip) st.aa) fun x=>(c=true→aq (i.xs.map (Ab.ev st.vars))∧x.1)∧C (.put (.cp c x.2)):=hs;cases c with
   |true=>
    refine hreg (fun e=>match e with|.put v=>.put (.cp true v)|e=>e) ?_ ?_;·intro e a' w' β' hR;cases e<;>first|exact hR.yc rfl|exact hR
    ·obtain⟨r,hr,hφ,hC⟩:=ae hs;show aq _∧ai (al _ _ _) _;rw[hr];exact⟨(hφ rfl).1,(hφ rfl).2,hC⟩|false=>obtain⟨r,hr,hφ,hC⟩:=ae hs;exact⟨_,β,hC,h.fq hdN' (.cp _ _ _ (fun e=>by cases e) fun _=>rfl)⟩
  |ex x=>
   have hs:ai (al (.ex x) ((i.xs.map (Ab.ev st.vars)).map strip) st.aa) fun x=>(c=true→aq (i.xs.map (Ab.ev st.vars))∧x.1)∧C (.put (.cp c x.2)):=hs;by_cases hq':sR (.ex x)=true;·exact hq hq' hs
   ·by_cases hb:∃e sz,x=.nn e sz;·obtain⟨e,sz,rfl⟩:=hb;cases c with|true=>
     refine hreg (fun e=>match e with|.put v=>.put (.cp true v)|e=>e) ?_ ?_;·intro e a' w' β' hR;cases e<;>first|exact hR.yc rfl|exact hR
     ·obtain⟨r,hr,hφ,hC⟩:=ae hs;show aq _∧ai (al _ _ _) _;rw[hr];exact⟨(hφ rfl).1,(hφ rfl).2,hC⟩|false=>obtain⟨r,hr,hφ,hC⟩:=ae hs;exact⟨_,β,hC,h.fq hdN' (.cp _ _ _ (fun e=>by cases e) fun _=>rfl)⟩
    ·rw[Ec (by simpa using hq') fun e sz hx=>hb ⟨e,sz,hx⟩]at hs;exact hs.elim|F4 e sz zs=>have hs:ai (al (.F4 e sz zs) ((i.xs.map (Ab.ev st.vars)).map strip) st.aa) fun x=>(c=true→aq (i.xs.map (Ab.ev st.vars))∧x.1)∧C (.put (.cp c x.2)):=hs;rw[Gl]at hs;exact hs.elim|_=>exact hq rfl hs
end
theorem qv {P:Program}{Γ:bX}{d:Option Nat}{k:AK}{xs:List AV}{aa:Nat→Option AO} (hs:bf P Γ d k xs aa C):∃e,C e∧bf P Γ d k xs aa fun e'=>e'=e:=by cases k with
 |oO=>dsimp only[bf]at hs ⊢;obtain⟨x,hx,hl,hC⟩:=ae hs;exact⟨_,hC,by rw[hx];exact⟨hl,rfl⟩⟩|pick=>dsimp only[bf]at hs ⊢;obtain⟨x,hx,hl,hC⟩:=ae hs;exact⟨_,hC,by rw[hx];exact⟨hl,rfl⟩⟩|gX e=>dsimp only[bf]at hs ⊢;obtain⟨d,hd,ha,hw⟩:=ae hs;obtain⟨x,hx,hl,hn,hC⟩:=ae hw;exact⟨_,hC,by rw[hd];exact⟨ha,by rw[hx];exact⟨hl,hn,rfl⟩⟩⟩|box=>dsimp only[bf]at hs ⊢;obtain⟨d,hd,ha,hw⟩:=ae hs;obtain⟨x,hx,hl,hn,hC⟩:=ae hw;exact⟨_,hC,by rw[hd];exact⟨ha,by rw[hx];exact⟨hl,hn,rfl⟩⟩⟩|alloc zs=>dsimp only[bf]at hs ⊢;obtain⟨d,hd,ha,hw⟩:=ae hs;obtain⟨x,hx,hl,hn,hC⟩:=ae hw;exact⟨_,hC,by rw[hd];exact⟨ha,by rw[hx];exact⟨hl,hn,rfl⟩⟩⟩|sJ e sz=>dsimp only[bf]at hs ⊢;obtain⟨d,hd,ha,hw⟩:=ae hs;obtain⟨x,hx,hl,hn,hC⟩:=ae hw;exact⟨_,hC,by rw[hd];exact⟨ha,by rw[hx];exact⟨hl,hn,rfl⟩⟩⟩|store n=>dsimp only[bf]at hs ⊢;obtain⟨ha,hw⟩:=hs;obtain⟨x,hx,hl,hC⟩:=ae hw;exact⟨_,hC,ha,by rw[hx];exact⟨hl,rfl⟩⟩|app e sz bytes=>
  dsimp only[bf]at hs ⊢;obtain⟨ha,hw⟩:=hs;by_cases ho:pQ (xs.map strip)=true;·rw[if_pos ho]at hw;obtain⟨x,hx,hl,hC⟩:=ae hw;exact⟨_,hC,ha,by rw[if_pos ho,hx];exact⟨hl,rfl⟩⟩
  ·rw[if_neg ho]at hw;obtain⟨d,hd,hw⟩:=ae hw;obtain⟨x,hx,hl,hn,hC⟩:=ae hw;exact⟨_,hC,ha,by rw[if_neg ho,hd];show ai (cG _ d _ _) _;rw[hx];exact⟨hl,hn,rfl⟩⟩|call f=>dsimp only[bf,cH]at hs ⊢;obtain⟨d,hd,ha,hw⟩:=ae hs;obtain⟨ys,hys,hw⟩:=ae hw;obtain⟨⟨φ,r⟩,hr,h1,h2,h3,h4,hC⟩:=ae hw;exact⟨_,hC,by rw[hd];exact⟨ha,by rw[hys];show ai (gt Γ f ys) _;rw[hr];exact⟨h1,h2,h3,h4,rfl⟩⟩⟩|_=>obtain⟨ha,hw⟩:=hs;obtain⟨x,hx,hl,hC⟩:=ae hw;exact⟨_,hC,ha,by rw[hx];exact⟨hl,rfl⟩⟩
theorem wK {P:Program}{Γ:bX}{c:Bool}{d:Option Nat}{k:AK}{xs:List AV}{aa:Nat→Option AO} (hs:cu P Γ c d k xs aa C):∃e,C e∧cu P Γ c d k xs aa fun e'=>e'=e:=by
 have hmk:∀{v:AV},((c=true→bf P Γ d k xs aa C)∧(c=false→C (.put v)))→∃e,C e∧((c=true→bf P Γ d k xs aa fun e'=>e'=e)∧(c=false→bI.put v=e)):=by rintro v ⟨ht,hf⟩;cases c with|true=>obtain⟨e,he,hs⟩:=qv (ht rfl);exact⟨e,he,fun _=>hs,fun h=>by cases h⟩|false=>exact⟨_,hf rfl,fun h=>(by cases h),fun _=>rfl⟩
 cases k with|oO=>dsimp only[cu]at hs ⊢;obtain⟨x,hx,hl,hC⟩:=ae hs;exact⟨_,hC,by rw[hx];exact⟨hl,rfl⟩⟩|pick=>dsimp only[cu]at hs ⊢;obtain⟨x,hx,hl,hC⟩:=ae hs;exact⟨_,hC,by rw[hx];exact⟨hl,rfl⟩⟩|gX e=>exact hmk hs|box=>exact hmk hs|alloc zs=>exact hmk hs|sJ e sz=>exact hmk hs|store n=>exact hmk hs|app e sz bytes=>exact hmk hs|call f=>
  dsimp only[cu]at hs ⊢;obtain⟨ys,hys,hs⟩:=ae hs;obtain⟨⟨φ,r⟩,hr,hs⟩:=ae hs;split at hs;·rename_i hif;obtain⟨h1,h2,h3,h4,hC⟩:=hs;exact⟨_,hC,by rw[hys];show ai (gt Γ f ys) _;rw[hr];show ite _ _ _;rw[if_pos hif];exact⟨h1,h2,h3,h4,rfl⟩⟩
  ·rename_i hif;obtain⟨e,he,hs⟩:=hmk hs;exact⟨e,he,by rw[hys];show ai (gt Γ f ys) _;rw[hr];show ite _ _ _;rw[if_neg hif];exact hs⟩|_=>dsimp only[cu]at hs ⊢;obtain⟨x,hx,hl,hC⟩:=ae hs;exact⟨_,hC,by rw[hx];exact⟨hl,rfl⟩⟩
theorem El {P:Program}{Γ:bX}{i:AI}{vars:Nat→AV}{aa:Nat→Option AO} (hs:dW P Γ i vars aa C):∃e,C e∧dW P Γ i vars aa fun e'=>e'=e:=by unfold dW at hs ⊢;cases hg:i.g with|none=>rw[hg]at hs;exact qv hs|some sw=>obtain⟨s,w⟩:=sw;rw[hg]at hs;dsimp only at hs ⊢;obtain⟨c,hc,hs⟩:=ae hs;obtain⟨e,he,hs⟩:=wK hs;exact⟨e,he,by rw[hc];exact hs⟩
theorem DU (v:AV):(∃f cs,v=.bE f cs)∨((∀aa,pf aa v=fv aa v)∧∀T aa,sr T aa v=nU T aa v):=by cases v<;>first|exact .inl ⟨_,_,rfl⟩|exact .inr ⟨fun _=>rfl,fun _ _=>rfl⟩
theorem G3 (v:AV):(∃t o,v=.ptr t o)∨(∃cs,v=.agg cs)∨∀T aa,nU T aa v=vB T v:=by cases v<;>first|exact .inl ⟨_,_,rfl⟩|exact .inr (.inl ⟨_,rfl⟩)|exact .inr (.inr fun _ _=>rfl)
theorem ownOr (v:AV):((∃t,v=.own t)∨∃t e lo hi,v=.sub t e lo hi)∨∀aa objs',eN aa v=eN objs' v:=by cases v<;>first|exact .inl (.inl ⟨_,rfl⟩)|exact .inl (.inr ⟨_,_,_,_,rfl⟩)|exact .inr fun _ _=>rfl|(rename_i p;exact .inr fun _ _=>by cases p<;>rfl)
section
variable{T:List Nat}{aa objs':Nat→Option AO} (hag:∀t,kp T t→aa t=objs' t)
include hag
theorem om (h:vB T v):eN aa v=eN objs' v:=by
 rcases ownOr v with(⟨t,rfl⟩|⟨t,e,lo,hi,rfl⟩)|hv;·simp only[eN];rw[hag t h]
 ·simp only[eN];rw[hag t h]
 ·exact hv _ _
theorem mF:∀{cs:List AV},hZ T cs→ic aa cs=ic objs' cs|[],_=>rfl|c::cs,h=>by simp only[ic];rw[om hag h.1,mF h.2]
omit hag in theorem uF:∀{cs:List AV} (n:Nat),hZ T cs→hZ T (cs.drop n)|[],n,_=>by simp[hZ]|c::cs,0,h=>h|c::cs,n+1,h=>uF n h.2
theorem uj (h:nU T aa v):fv aa v=fv objs' v:=by cases v with
 |ptr t o=>obtain⟨h1,h2⟩:=h;simp only[fv];rw[←hag t h1];cases hb:eY (aa t) with|none=>rfl|some cs=>rw[hb]at h2;simp only[q98]at h2;simp only[q130];rw[mF hag (uF o h2)]
 |agg cs=>simp only[fv];rw[mF hag h]|bE f cs=>cases cs<;>rfl|rp cs=>rfl|pv p=>cases p<;>rfl|own t=>exact congrArg (Option.map AV.pv) (om hag (v:=.own t) h)|bd t e i o=>rfl|sub t e lo hi=>exact congrArg (Option.map AV.pv) (om hag (v:=.sub t e lo hi) h)|aO vs=>rfl|fr e rows=>rfl|bx cs=>rfl|mf es=>rfl|cp g v=>rfl|aw=>rfl
theorem rY:∀{cs:List AV},lB T aa cs→ly aa cs=ly objs' cs|[],_=>rfl|c::cs,h=>by simp only[ly];rw[uj hag h.1,rY h.2]
theorem EF (h:sr T aa v):pf aa v=pf objs' v:=by
 rcases DU v with⟨f,cs,rfl⟩|⟨h1,h2⟩;·exact congrArg (Option.map (AV.bE f)) (rY hag h)
 ·rw[h1,h1];rw[h2]at h;exact uj hag h
theorem oE:∀{cs:List AV},kc T aa cs→fJ aa cs=fJ objs' cs|[],_=>rfl|c::cs,h=>by simp only[fJ];rw[EF hag h.1,oE h.2]
theorem uH (h:nU T aa v):nU T objs' v:=by
 rcases G3 v with⟨t,o,rfl⟩|⟨cs,rfl⟩|h2;·exact⟨h.1,by rw[←hag t h.1];exact h.2⟩
 ·exact h
 ·rw[h2]at h ⊢;exact h
theorem rQ:∀{cs:List AV},lB T aa cs→lB T objs' cs|[],_=>trivial|c::cs,h=>⟨uH hag h.1,rQ h.2⟩
theorem Ew (h:sr T aa v):sr T objs' v:=by
 rcases DU v with⟨f,cs,rfl⟩|⟨h1,h2⟩;·exact rQ hag h
 ·rw[h2]at h ⊢;exact uH hag h
theorem jl:∀{cs:List AV},kc T aa cs→kc T objs' cs|[],_=>trivial|c::cs,h=>⟨Ew hag h.1,jl h.2⟩
end
section
variable{T U:List Nat}{aa:Nat→Option AO} (hsub:∀t,kp U t→kp T t)
include hsub
theorem Ao (h:vB U v):vB T v:=by cases v<;>first|trivial|exact hsub _ h
theorem qG:∀{cs:List AV},hZ U cs→hZ T cs|[],_=>trivial|c::cs,h=>⟨Ao hsub h.1,qG h.2⟩
theorem tV (h:nU U aa v):nU T aa v:=by
 rcases G3 v with⟨t,o,rfl⟩|⟨cs,rfl⟩|h2;·exact⟨hsub _ h.1,qG hsub h.2⟩
 ·exact qG hsub h
 ·rw[h2]at h ⊢;exact Ao hsub h
theorem wC:∀{cs:List AV},lB U aa cs→lB T aa cs|[],_=>trivial|c::cs,h=>⟨tV hsub h.1,wC h.2⟩
theorem DG (h:sr U aa v):sr T aa v:=by
 rcases DU v with⟨f,cs,rfl⟩|⟨h1,h2⟩;·exact wC hsub h
 ·rw[h2]at h ⊢;exact tV hsub h
theorem sX:∀{cs:List AV},kc U aa cs→kc T aa cs|[],_=>trivial|c::cs,h=>⟨DG hsub h.1,sX h.2⟩
end
theorem iE {k:AK}{aa objs':Nat→Option AO}{r:Prop×AV} (hk:aQ k=true) (h:al k ys aa=some r):al k ys objs'=some r:=by unfold al at h;split at h<;>first|exact h|(simp[aQ]at hk;done)|cases h
section
variable{T:List Nat}{aa objs':Nat→Option AO} (hag:∀t,kp T t→aa t=objs' t)
include hag
theorem Bh {x:AV} (h:sr T aa x):fx aa x=fx objs' x:=by cases x with|own t=>simp only[fx];rw[hag t h]|sub t e lo hi=>simp only[fx];rw[hag t h]|pv p=>cases p<;>rfl|_=>rfl
theorem uX {k:AK}{r:Prop×AV} (hno:kc T aa ys) (h:al k ys aa=some r):al k ys objs'=some r:=by unfold al at h;split at h<;>first|exact h|(simp only[al];rw[←hag _ hno.1];exact h)|(simp only[al];rw[←hag _ hno.1.1];exact h)|(simp only[al];rw[←Bh hag hno.1];exact h)|cases h
theorem BW {k:AK}{r:Prop×Nat×AO} (hk:isApp k=false) (hno:kc T aa ys) (h:eM k ys aa=some r):eM k ys objs'=some r:=by unfold eM at h;split at h<;>first|(simp only[eM];rw[←hag _ hno.1];exact h)|(simp only[eM];rw[←hag _ hno.1.1];exact h)|(simp[isApp]at hk;done)|cases h
omit hag in theorem EN {k:AK}{d:Nat}{ys:List AV}{r:Prop×AV×AO} (hk:isApp k=false) (h:cG k d ys aa=some r):cG k d ys objs'=some r:=by unfold cG at h;split at h<;>first|exact h|(simp[isApp]at hk;done)|cases h
theorem te {P:Program}{Γ:bX}{d:Option Nat}{k:AK}{xs:List AV} (hk:isApp k=false) (hd:∀s,d=some s→s<1000∧T.contains s=false) (hno:aQ k=true∨kc T aa (xs.map strip)) (hs:bf P Γ d k xs aa C):bf P Γ d k xs objs' C:=by
 have hfree:∀s p,d=some s→aa (s+1000*p)=objs' (s+1000*p):=by intro s p hs;refine hag _ ?_;unfold kp;rw[q273,q115 (hd s hs).1];exact(hd s hs).2
 have hmk:∀{k:AK},isApp k=false→(ai d fun d=>aq xs∧ai (cG k d (xs.map strip) aa) fun x=>x.1∧aa d=none∧C (.new x.2.1 [(d,x.2.2)]))→ai d fun d=>aq xs∧ai (cG k d (xs.map strip) objs') fun x=>x.1∧objs' d=none∧C (.new x.2.1 [(d,x.2.2)]):=by intro k hk hw;obtain⟨s,hs,ha,hw⟩:=ae hw;obtain⟨x,hx,hφ,hn,hC⟩:=ae hw;rw[hs];refine⟨ha,?_⟩;rw[EN (aa:=aa) (objs':=objs') hk hx];have:=hfree s 0 hs;simp only[Nat.mul_zero,q155]at this;exact⟨hφ,this▸hn,hC⟩
 cases k with|oO=>exact hs|pick=>exact hs|gX e=>exact hmk (k:=.gX e) rfl hs|box=>exact hmk (k:=.box) rfl hs|alloc zs=>exact hmk (k:=.alloc zs) rfl hs|sJ e sz=>exact hmk (k:=.sJ e sz) rfl hs|store n=>have hno:=hno.resolve_left (by simp[aQ]);obtain⟨ha,hw⟩:=hs;refine⟨ha,?_⟩;obtain⟨x,hx,hC⟩:=ae hw;rw[BW hag hk hno hx];exact hC|app e sz bytes=>simp[isApp]at hk|call f=>have hno:=hno.resolve_left (by simp[aQ]);dsimp only[bf,cH]at hs ⊢;obtain⟨s,hs',ha,hw⟩:=ae hs;obtain⟨ys,hys,hw⟩:=ae hw;obtain⟨⟨φ,r⟩,hr,h1,h2,h3,h4,hC⟩:=ae hw;rw[hs'];refine⟨ha,?_⟩;rw[←oE hag hno,hys];show ai (gt Γ f ys) _;rw[hr];refine⟨h1,h2,?_,h4,hC⟩;intro x hx;have:=h3 x hx;obtain⟨y,hy⟩:=xC s r x hx;rw[hy]at this ⊢;rw[←hfree s y hs'];exact this|_=>obtain⟨ha,hw⟩:=hs;refine⟨ha,?_⟩;obtain⟨x,hx,hC⟩:=ae hw;rw[hno.elim (fun h=>iE (objs':=objs') h hx) (fun h=>uX hag h hx)];exact hC
theorem Cq {P:Program}{Γ:bX}{c:Bool}{d:Option Nat}{k:AK}{xs:List AV} (hk:isApp k=false) (hd:∀s,d=some s→s<1000∧T.contains s=false) (hno:aQ k=true∨kc T aa (xs.map strip)) (hs:cu P Γ c d k xs aa C):cu P Γ c d k xs objs' C:=by have hmk:∀{v:AV},((c=true→bf P Γ d k xs aa C)∧(c=false→C (.put v)))→((c=true→bf P Γ d k xs objs' C)∧(c=false→C (.put v))):=fun h=>⟨fun hc=>te hag hk hd hno (h.1 hc),h.2⟩;cases k with
 |oO=>exact hs|pick=>exact hs|gX e=>exact hmk hs|box=>exact hmk hs|alloc zs=>exact hmk hs|sJ e sz=>exact hmk hs|store n=>exact hmk hs|app e sz bytes=>exact hmk hs|call f=>
  have hno:=hno.resolve_left (by simp[aQ]);dsimp only[cu]at hs ⊢;rw[←oE hag hno];obtain⟨ys,hys,hs⟩:=ae hs;obtain⟨⟨φ,r⟩,hr,hs⟩:=ae hs;rw[hys];show ai (gt Γ f ys) _;rw[hr];show ite _ _ _;split at hs;·rename_i hif;rw[if_pos hif];exact hs
  ·rename_i hif;rw[if_neg hif];exact hmk hs|_=>dsimp only[cu]at hs ⊢;obtain⟨x,hx,hC⟩:=ae hs;rw[hno.elim (fun h=>iE (objs':=objs') h hx) (fun h=>uX hag h hx)];exact hC
end
theorem kP (t:Nat):∀a:AV,strip (kill t a)=kill t (strip a)|.cp g v=>by simp only[kill,strip];exact kP t v|.pv p=>rfl|.own s=>by show strip (if s=t then .aw else .own s)=(if s=t then .aw else .own s);split<;>rfl|.ptr s o=>rfl|.bd s e i o=>by show strip (if s=t then .aw else .bd s e i o)=(if s=t then .aw else .bd s e i o);split<;>rfl|.sub s e i o=>by show strip (if s=t then .aw else .sub s e i o)=(if s=t then .aw else .sub s e i o);split<;>rfl|.rp cs=>rfl|.agg cs=>rfl|.aO vs=>rfl|.bE f []=>rfl|.bE f (c::cs)=>rfl|.fr e rows=>rfl|.bx _=>rfl|.mf _=>rfl|.aw=>rfl
theorem wA (t:Nat):∀a:AV,asks (kill t a)=asks a|.cp g v=>by simp only[kill,asks];rw[wA t v]|.pv p=>rfl|.own s=>by show asks (if s=t then .aw else .own s)=asks (.own s);split<;>rfl|.ptr s o=>rfl|.bd s e i o=>by show asks (if s=t then .aw else .bd s e i o)=asks (.bd s e i o);split<;>rfl|.sub s e i o=>by show asks (if s=t then .aw else .sub s e i o)=asks (.sub s e i o);split<;>rfl|.rp cs=>rfl|.agg cs=>rfl|.aO vs=>rfl|.bE f []=>rfl|.bE f (c::cs)=>rfl|.fr e rows=>rfl|.bx _=>rfl|.mf _=>rfl|.aw=>rfl
theorem zQ {t:Nat} (h:kill t v=.pv p):v=.pv p:=by cases v with|pv q=>exact h|own s=>have h:(if s=t then AV.aw else .own s)=.pv p:=h;split at h<;>cases h|bd s e i o=>have h:(if s=t then AV.aw else .bd s e i o)=.pv p:=h;split at h<;>cases h|sub s e i o=>have h:(if s=t then AV.aw else .sub s e i o)=.pv p:=h;split at h<;>cases h|bE f cs=>cases cs<;>cases h|_=>cases h
theorem K8 (t:Nat) (v:Value):kill t (cv v)=cv v:=by unfold cv;split<;>rfl
theorem JE (t:Nat) (vars:Nat→AV) (x:Operand):Ab.ev (cE t vars) x=kill t (Ab.ev vars x):=by cases x with|const v=>exact(K8 t v).symm|_=>rfl
theorem mo (t:Nat) (vars:Nat→AV) (xs:List Operand):xs.map (Ab.ev (cE t vars))=(xs.map (Ab.ev vars)).map (kill t):=by rw[List.map_map];exact List.map_congr_left fun x _=>JE t vars x
theorem ln (t:Nat):∀xs:List AV,aq (xs.map (kill t))=aq xs|[]=>rfl|x::xs=>by simp only[q71,aq];rw[wA,ln t xs]
theorem rT {t:Nat}:∀{xs:List AV},(∀y∈xs.map strip,∃p,y=AV.pv p)→(xs.map (kill t)).map strip=xs.map strip|[],_=>rfl|x::xs,h=>by simp only[q71,q76,forall_eq_or_imp]at h ⊢;obtain⟨⟨p,hp⟩,h⟩:=h;rw[rT h,kP,hp];rfl
theorem nA {t:Nat}:∀{xs:List AV},(∀y∈(xs.map (kill t)).map strip,∃p,y=AV.pv p)→(xs.map (kill t)).map strip=xs.map strip|[],_=>rfl|x::xs,h=>by simp only[q71,q76,forall_eq_or_imp]at h ⊢;obtain⟨⟨p,hp⟩,h⟩:=h;rw[nA h,hp];rw[kP]at hp;rw[zQ hp]
theorem D5 {k:AK}{aa:Nat→Option AO}{r:Prop×AV} (hk:aQ k=true) (h:al k ys aa=some r):(∀y∈ys,∃p,y=AV.pv p)∧∃q,r.2=.pv q:=by unfold al at h;split at h<;>first|(simp[aQ]at hk;done)|(obtain⟨x,_,rfl⟩:=q0.1 h;exact⟨by simp,_,rfl⟩)|(simp only[qr]at h;subst h;exact⟨by simp,_,rfl⟩)|cases h
section
variable{P:Program}{Γ:bX}{d:Option Nat}{k:AK}{xs:List AV}{aa objs':Nat→Option AO}{e:bI}{t:Nat}
def vE (k:AK) (xs:List AV):Option (Prop×AV):=match k with
 |.oO=>match xs with|[x]=>some (True,x)|_=>none
 |k=>(al k (xs.map strip) fun _=>none).map fun r=>(aq xs∧r.1,r.2)
theorem gi (hk:aQ k=true):bf P Γ d k xs aa (fun e'=>e'=e)↔∃φ v,vE k xs=some (φ,v)∧φ∧e=.put v:=by
 have hq:∀{k:AK},aQ k=true→((aq xs∧ai (al k (xs.map strip) aa) fun x=>x.1∧bI.put x.2=e)↔∃φ v,((al k (xs.map strip) fun _=>none).map fun r=>(aq xs∧r.1,r.2))=some (φ,v)∧φ∧e=.put v):=by
  intro k hk;constructor;·rintro⟨ha,hw⟩;obtain⟨r,hr,hφ,he⟩:=ae hw;exact⟨aq xs∧r.1,r.2,by rw[iE (objs':=fun _=>none) hk hr];rfl,⟨ha,hφ⟩,he.symm⟩
  ·rintro⟨φ,v,hs,hφ,he⟩;obtain⟨r,hr,hx⟩:=q0.1 hs;cases hx;exact⟨hφ.1,by rw[iE (objs':=aa) hk hr];exact⟨hφ.2,he.symm⟩⟩
 cases k with
 |oO=>
  dsimp only[bf,vE];constructor;·intro h;obtain⟨x,hx,hl,he⟩:=ae h;obtain⟨y,rfl⟩:=q232.1 hl;simp only[q287,qr]at hx;subst hx;exact⟨_,_,rfl,trivial,he.symm⟩
  ·rintro⟨φ,v,hs,hφ,rfl⟩;split at hs;·cases hs;exact⟨rfl,rfl⟩
   ·cases hs|bin op=>exact hq rfl|beq ne=>exact hq rfl|not=>exact hq rfl|neg=>exact hq rfl|Cb k=>exact hq rfl|Dq=>exact hq rfl|_=>simp[aQ]at hk
theorem gn {c:Bool} (hk:aQ k=true):cu P Γ c d k xs aa (fun e'=>e'=e)↔∃φ v,vE k xs=some (φ,v)∧(c=true→φ)∧e=.put (.cp c v):=by
 have hq:∀{k:AK},aQ k=true→((ai (al k (xs.map strip) aa) fun x=>(c=true→aq xs∧x.1)∧bI.put (.cp c x.2)=e)↔∃φ v,((al k (xs.map strip) fun _=>none).map fun r=>(aq xs∧r.1,r.2))=some (φ,v)∧(c=true→φ)∧e=.put (.cp c v)):=by
  intro k hk;constructor;·intro hw;obtain⟨r,hr,hφ,he⟩:=ae hw;exact⟨aq xs∧r.1,r.2,by rw[iE (objs':=fun _=>none) hk hr];rfl,hφ,he.symm⟩
  ·rintro⟨φ,v,hs,hφ,he⟩;obtain⟨r,hr,hx⟩:=q0.1 hs;cases hx;rw[iE (objs':=aa) hk hr];exact⟨hφ,he.symm⟩
 cases k with
 |oO=>
  dsimp only[cu,vE];constructor;·intro h;obtain⟨x,hx,hl,he⟩:=ae h;obtain⟨y,rfl⟩:=q232.1 hl;simp only[q287,qr]at hx;subst hx;exact⟨_,_,rfl,fun _=>trivial,he.symm⟩
  ·rintro⟨φ,v,hs,hφ,rfl⟩;split at hs;·cases hs;exact⟨rfl,rfl⟩
   ·cases hs|bin op=>exact hq rfl|beq ne=>exact hq rfl|not=>exact hq rfl|neg=>exact hq rfl|Cb k=>exact hq rfl|Dq=>exact hq rfl|_=>simp[aQ]at hk
theorem xB  (hk:aQ k=true) (h:vE k xs=some (φ,v)):vE k (xs.map (kill t))=some (φ,kill t v):=by
 have hq:((al k (xs.map strip) fun _=>none).map fun r=>(aq xs∧r.1,r.2))=some (φ,v)→((al k ((xs.map (kill t)).map strip) fun _=>none).map fun r=>(aq (xs.map (kill t))∧r.1,r.2))=some (φ,kill t v):=by intro h;obtain⟨r,hr,hx⟩:=q0.1 h;obtain⟨hp,q,hq⟩:=D5 hk hr;cases hx;rw[rT hp,hr,ln,hq];show some (aq xs∧r.1,r.2)=_;rw[hq];rfl
 cases k with
 |oO=>
  dsimp only[vE]at h ⊢;split at h;·cases h;rfl
  ·cases h|bin op=>exact hq h|beq ne=>exact hq h|not=>exact hq h|neg=>exact hq h|Cb k=>exact hq h|Dq=>exact hq h|_=>simp[aQ]at hk
theorem rI  (hk:aQ k=true) (h:vE k (xs.map (kill t))=some (φ,v)):∃u,v=kill t u∧vE k xs=some (φ,u):=by
 have hq:((al k ((xs.map (kill t)).map strip) fun _=>none).map fun r=>(aq (xs.map (kill t))∧r.1,r.2))=some (φ,v)→∃u,v=kill t u∧((al k (xs.map strip) fun _=>none).map fun r=>(aq xs∧r.1,r.2))=some (φ,u):=by intro h;obtain⟨r,hr,hx⟩:=q0.1 h;obtain⟨hp,q,hq⟩:=D5 hk hr;rw[nA hp]at hr;rw[ln]at hx;cases hx;exact⟨r.2,by rw[hq];rfl,by rw[hr];rfl⟩
 cases k with
 |oO=>
  dsimp only[vE]at h ⊢;rcases xs with _|⟨x,_|⟨y,xs⟩⟩;·cases h
  ·cases h;exact⟨x,rfl,rfl⟩
  ·cases h|bin op=>exact hq h|beq ne=>exact hq h|not=>exact hq h|neg=>exact hq h|Cb k=>exact hq h|Dq=>exact hq h|_=>simp[aQ]at hk
end
section
variable{P:Program}{Γ:bX}{i:AI}{vars vars':Nat→AV}{aa objs':Nat→Option AO}{e:bI}{t:Nat}
theorem pc (w:Bool):∀v:AV,bN (kill t v) w=bN v w|.cp c v=>by simp only[kill,bN];rw[pc w v]|.own s|.bd s _ _ _|.sub s _ _ _=>by simp only[kill,cj];split<;>rfl|.bE f cs=>by cases cs<;>rfl|.pv _|.ptr _ _|.rp _|.agg _|.aO _|.fr _ _|.bx _|.mf _|.aw=>rfl
theorem sj {w c:Bool}:bN (kill t v) w=some c↔bN v w=some c:=by rw[pc]
theorem ub (hk:aQ i.k=true) (h:dW P Γ i vars aa fun e'=>e'=e):∃v,e=.put v∧∀t objs',dW P Γ i (cE t vars) objs' fun e'=>e'=.put (kill t v):=by unfold dW at h ⊢;cases hg:i.g with|none=>rw[hg]at h;obtain⟨φ,v,hs,hφ,rfl⟩:=(gi hk).1 h;refine⟨v,rfl,fun t objs'=>?_⟩;rw[mo];exact(gi hk).2 ⟨φ,_,xB hk hs,hφ,rfl⟩|some sw=>obtain⟨s,w⟩:=sw;rw[hg]at h;dsimp only at h ⊢;obtain⟨c,hc,h⟩:=ae h;obtain⟨φ,v,hs,hφ,rfl⟩:=(gn hk).1 h;refine⟨_,rfl,fun t objs'=>?_⟩;rw[show cE t vars s=kill t (vars s) from rfl,sj.2 hc,mo];exact(gn hk).2 ⟨φ,_,xB hk hs,hφ,rfl⟩
theorem qT (hk:aQ i.k=true) (h:dW P Γ i (cE t vars) aa fun e'=>e'=e):∃v,e=.put (kill t v)∧∀objs',dW P Γ i vars objs' fun e'=>e'=.put v:=by unfold dW at h ⊢;cases hg:i.g with|none=>rw[hg]at h;dsimp only at h;rw[mo]at h;obtain⟨φ,v,hs,hφ,rfl⟩:=(gi hk).1 h;obtain⟨u,rfl,hu⟩:=rI hk hs;exact⟨u,rfl,fun objs'=>(gi hk).2 ⟨φ,_,hu,hφ,rfl⟩⟩|some sw=>obtain⟨s,w⟩:=sw;rw[hg]at h;dsimp only at h ⊢;obtain⟨c,hc,h⟩:=ae h;rw[mo]at h;obtain⟨φ,v,hs,hφ,rfl⟩:=(gn hk).1 h;obtain⟨u,rfl,hu⟩:=rI hk hs;refine⟨.cp c u,rfl,fun objs'=>?_⟩;rw[sj.1 hc];exact(gn hk).2 ⟨φ,_,hu,hφ,rfl⟩
theorem dR (hk:aQ i.k=true) (h:dW P Γ i vars aa fun e'=>e'=e):(∃v,e=.put v)∧∀objs',dW P Γ i vars objs' fun e'=>e'=e:=by unfold dW at h ⊢;cases hg:i.g with|none=>rw[hg]at h;obtain⟨φ,v,hs,hφ,rfl⟩:=(gi hk).1 h;exact⟨⟨v,rfl⟩,fun objs'=>(gi hk).2 ⟨φ,_,hs,hφ,rfl⟩⟩|some sw=>obtain⟨s,w⟩:=sw;rw[hg]at h;dsimp only at h ⊢;obtain⟨c,hc,h⟩:=ae h;obtain⟨φ,v,hs,hφ,rfl⟩:=(gn hk).1 h;exact⟨⟨_,rfl⟩,fun objs'=>by rw[hc];exact(gn hk).2 ⟨φ,_,hs,hφ,rfl⟩⟩
theorem HV {x:Operand} (h:∀s∈tmpsOf [x],vars s=vars' s):Ab.ev vars x=Ab.ev vars' x:=by cases x with|tmp t=>exact h t (by simp[tmpsOf])|_=>rfl
theorem gm:∀{xs:List Operand},(∀s∈tmpsOf xs,vars s=vars' s)→xs.map (Ab.ev vars)=xs.map (Ab.ev vars')|[],_=>rfl|x::xs,h=>by have h1:Ab.ev vars x=Ab.ev vars' x:=HV fun s hs=>h s (by cases x<;>simp_all[tmpsOf]);have h2:xs.map (Ab.ev vars)=xs.map (Ab.ev vars'):=gm fun s hs=>h s (by cases x<;>simp_all[tmpsOf]);simp only[q71,h1,h2]
theorem ej (ha:∀s∈cU i,vars s=vars' s) (h:dW P Γ i vars aa C):dW P Γ i vars' aa C:=by have hx:=gm (vars:=vars) (vars':=vars') (xs:=i.xs) fun s hs=>ha s (q108 _ hs);unfold dW at h ⊢;rw[←hx];cases hg:i.g with|none=>rw[hg]at h;exact h|some sw=>obtain⟨s,w⟩:=sw;rw[hg]at h;dsimp only at h ⊢;rw[←ha s (q180 _ (by rw[hg];simp))];exact h
theorem tp {T:List Nat} (hag:∀t,kp T t→aa t=objs' t) (hk:isApp i.k=false) (hd:∀s,i.d=some s→s<1000∧T.contains s=false) (hno:aQ i.k=true∨kc T aa ((i.xs.map (Ab.ev vars)).map strip)) (h:dW P Γ i vars aa C):dW P Γ i vars objs' C:=by unfold dW at h ⊢;cases hg:i.g with|none=>rw[hg]at h;exact te hag hk hd hno h|some sw=>obtain⟨s,w⟩:=sw;rw[hg]at h;dsimp only at h ⊢;obtain⟨c,hc,h⟩:=ae h;rw[hc];exact Cq hag hk hd hno h
def px (i:AI) (e:bI):Prop:=(∃v,e=.put v)∨(makes i.k=true∧∃d v os,i.d=some d∧e=.new v os∧∀x∈os,∃p,x.1=d+1000*p)∨(writes i.k=true∧makes i.k=false∧∃t o,e=.wo t o)∨(isApp i.k=true∧∃t o,e=.app t o)
theorem zj {xs:List AV} (h:bf P Γ i.d i.k xs aa fun e'=>e'=e):px i e:=by
 have hmk:∀{k:AK},makes i.k=true→(ai i.d fun d=>aq xs∧ai (cG k d (xs.map strip) aa) fun x=>x.1∧aa d=none∧bI.new x.2.1 [(d,x.2.2)]=e)→px i e:=by intro k hk hw;obtain⟨d,hd,ha,hw⟩:=ae hw;obtain⟨x,hx,hφ,hn,rfl⟩:=ae hw;exact .inr (.inl ⟨hk,d,_,_,hd,rfl,fun x hx=>⟨0,by simp only[q75]at hx;rw[hx];rfl⟩⟩)
 cases hk:i.k with|oO=>rw[hk]at h;obtain⟨φ,v,_,_,rfl⟩:=(gi rfl).1 h;exact .inl ⟨v,rfl⟩|pick=>rw[hk]at h;dsimp only[bf]at h;obtain⟨x,_,_,rfl⟩:=ae h;exact .inl ⟨_,rfl⟩|gX e=>rw[hk]at h;exact hmk (by rw[hk];rfl) h|box=>rw[hk]at h;exact hmk (by rw[hk];rfl) h|alloc zs=>rw[hk]at h;exact hmk (by rw[hk];rfl) h|sJ e sz=>rw[hk]at h;exact hmk (by rw[hk];rfl) h|store n=>rw[hk]at h;obtain⟨_,hw⟩:=h;obtain⟨x,_,_,rfl⟩:=ae hw;exact .inr (.inr (.inl ⟨by rw[hk];rfl,by rw[hk];rfl,_,_,rfl⟩))|app e sz bytes=>
  rw[hk]at h;dsimp only[bf]at h;obtain⟨ha,hw⟩:=h;split at hw;·obtain⟨x,_,_,rfl⟩:=ae hw;exact .inr (.inr (.inr ⟨by rw[hk];rfl,_,_,rfl⟩))
  ·obtain⟨d,hd,hw⟩:=ae hw;obtain⟨x,hx,hφ,hn,rfl⟩:=ae hw;exact .inr (.inl ⟨by rw[hk];rfl,d,_,_,hd,rfl,fun x hx=>⟨0,by simp only[q75]at hx;rw[hx];rfl⟩⟩)|call f=>rw[hk]at h;dsimp only[bf,cH]at h;obtain⟨d,hd,ha,hw⟩:=ae h;obtain⟨ys,hys,hw⟩:=ae hw;obtain⟨⟨φ,r⟩,hr,h1,h2,h3,h4,rfl⟩:=ae hw;refine .inr (.inl ⟨by rw[hk];rfl,d,_,_,hd,rfl,fun x hx=>?_⟩);exact xC d r x hx|_=>rw[hk]at h;obtain⟨_,hw⟩:=h;obtain⟨x,_,_,rfl⟩:=ae hw;exact .inl ⟨_,rfl⟩
theorem zy (h:dW P Γ i vars aa fun e'=>e'=e):px i e:=by unfold dW at h;cases hg:i.g with|none=>rw[hg]at h;exact zj h|some sw=>
 obtain⟨s,w⟩:=sw;rw[hg]at h;dsimp only at h;obtain⟨c,hc,h⟩:=ae h;have hmk:∀{v:AV},((c=true→bf P Γ i.d i.k (i.xs.map (Ab.ev vars)) aa fun e'=>e'=e)∧(c=false→bI.put v=e))→px i e:=by rintro v ⟨ht,hf⟩;cases c with|true=>exact zj (ht rfl)|false=>exact .inl ⟨_,(hf rfl).symm⟩
 cases hk:i.k with
 |oO=>rw[hk]at h;obtain⟨φ,v,_,_,rfl⟩:=(gn rfl).1 h;exact .inl ⟨_,rfl⟩|pick=>rw[hk]at h;dsimp only[cu]at h;obtain⟨x,_,_,rfl⟩:=ae h;exact .inl ⟨_,rfl⟩|gX e=>rw[hk]at h hmk;exact hmk h|box=>rw[hk]at h hmk;exact hmk h|alloc zs=>rw[hk]at h hmk;exact hmk h|sJ e sz=>rw[hk]at h hmk;exact hmk h|store n=>rw[hk]at h hmk;exact hmk h|app e sz bytes=>rw[hk]at h hmk;exact hmk h|call f=>
  rw[hk]at h hmk;dsimp only[cu]at h;obtain⟨ys,hys,h⟩:=ae h;obtain⟨⟨φ,r⟩,hr,h⟩:=ae h;split at h;·obtain⟨h1,h2,h3,h4,rfl⟩:=h;exact .inl ⟨_,rfl⟩
  ·exact hmk h|_=>rw[hk]at h;dsimp only[cu]at h;obtain⟨x,_,_,rfl⟩:=ae h;exact .inl ⟨_,rfl⟩
end
end Go.Proofs.YtlicclncicbajaaGreat.Ab
