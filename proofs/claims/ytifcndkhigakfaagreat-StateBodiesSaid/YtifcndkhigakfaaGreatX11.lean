/- The abstract machine is sound: the contract of a function that takes objects whole, or borrows them. -/
import Derived.Test.YtifcndkhigakfaaGreatX10
import Derived.Test.YtifcndkhigakfaaGreatChecked
set_option linter.unusedVariables false
set_option linter.unusedSimpArgs false
set_option linter.unnecessarySimpa false
set_option maxHeartbeats 40000000
set_option maxRecDepth 100000
namespace Go.Proofs.YtifcndkhigakfaaGreat.Ab
open Go Go.RowKit
def OZ:List AV→List Nat×List Nat→Option (List AV×List (Nat×AO)×List Nat×List Nat)|[],s=>some ([],[],s)|y::ys,s=>(num 5 (Il y) (I1 y) s).bind fun r=>(OZ ys r.2.2).map fun q=>(r.1::q.1,r.2.1++q.2.1,q.2.2)
def YH:List Nat×List Nat:=([999,1999,2999,3999,4999,5999],[998,1998,2998,3998,4998,5998,6998,7998,8998,9998,10998,11998])
def Bt:AV→Bool|.own _|.ptr _ 0|.pv _|.rp _|.bZ _ []=>true|_=>false
def wS:AV→Bool|.agg cs=>cs.all Bt|x=>Bt x
def qw (P:Program) (rs:List (Nat×Option (Option Nat))) (L:List AV) (x:AV) (st:St):Prop:=cM st rs fun vs=>mt P st.aa 6 (bU vs) (kL x)∧yN (mt P st.aa 5) L (lC x)∧(L.flatMap (tg st.aa 5)++tg st.aa 6 (bU vs)).Nodup
def vK (P:Program) (rs:List (Nat×Option (Option Nat))) (L:List AV) (x:AV) (st:St):Prop:=cM st rs fun vs=>qw P rs L x (cE (mV (bU vs) (kL x)) st)
section
variable{P:Program}{S S':Nat→Prop}{w w':World}{β β':Nat→Value}{aa:Nat→Option AO}
theorem C4 (hS:∀b,S b→S' b):∀(ys:List AV) (s:List Nat×List Nat) (q:List AV×List (Nat×AO)×List Nat×List Nat),OZ ys s=some q→(q.2.1.map (·.1)++(q.2.2.1++q.2.2.2)).Perm (s.1++s.2)∧q.1.length=ys.length∧∀(vs:List Value) (bss:List (List Nat)),FE P S w vs (ys.map I1) bss→bss.flatten.Nodup→(s.1++s.2).Nodup→mz P S' w q.2.1 bss.flatten fun β D=>∀(i:Nat) (c:AV) (u:Value),q.1[i]?=some c→vs[i]?=some u→RV P S' w β D u c
 |[],s,q,h=>by cases h;exact⟨.refl _,rfl,fun vs bss _ _ _=>mz.none _ fun β D i c u hc=>by simp at hc⟩|y::ys,s,q,h=>by
  obtain⟨r,hr,h⟩:=Option.bind_eq_some_iff.1 h;obtain⟨q',hq,rfl⟩:=Option.map_eq_some_iff.1 h;obtain⟨p1,l1⟩:=pP (P:=P) (S:=S) (S':=S') (w:=w) hS 5 (Il y) (I1 y) s r hr;obtain⟨p2,n2,l2⟩:=C4 hS ys r.2.2 q' hq;have hp:((r.2.1++q'.2.1).map (·.1)++(q'.2.2.1++q'.2.2.2)).Perm (s.1++s.2):=by rw[List.map_append,List.append_assoc];exact(p2.append_left _).trans p1
  refine⟨hp,by simp[n2],fun vs bss ⟨hl1,hl2,hg⟩ hnd hs=>?_⟩;match vs,bss,hl1,hl2 with
  |v::vs,bs::bss,hl1,hl2=>
   rw[List.flatten_cons,List.nodup_append]at hnd;have hs1:=p1.nodup_iff.2 hs;rw[List.nodup_append]at hs1;have hs2:(r.2.2.1++r.2.2.2).Nodup:=hs1.2.1;have k1:=l1 v bs (hg 0 _ v bs rfl rfl rfl) hnd.1 hs;have k2:=l2 vs bss ⟨by simpa using hl1,by simpa using hl2,fun i y v bs h1 h2 h3=>hg (i+1) y v bs (by simpa using h1) (by simpa using h2) (by simpa using h3)⟩ hnd.2.1 hs2;refine(k1.append k2 (fun b hb hb'=>hnd.2.2 b hb b hb' rfl) fun p hp q hq e=>?_).imp (fun b hb=>by simpa using hb) fun β D ⟨a1,a2⟩ i c u hc hu=>?_;·have:q.1∈r.2.2.1++r.2.2.2:=p2.mem_iff.1 (List.mem_append_left _ (List.mem_map_of_mem hq));exact hs1.2.2 _ (List.mem_map_of_mem hp) _ this e
   ·cases i with|zero=>simp only[List.getElem?_cons_zero,Option.some.injEq]at hc hu;rw[←hc,←hu];exact a1|succ i=>exact a2 i c u (by simpa using hc) (by simpa using hu)
theorem nn (hinj:∀t t' b,aG aa t→aG aa t'→ct (β t)=some b→ct (β t')=some b→t=t'):∀l:List Nat,l.Nodup→(∀t∈l,aG aa t)→(dm β l).Nodup
 |[],_,_=>List.nodup_nil|t::l,hn,hd=>by
  rw[List.nodup_cons]at hn;have e:dm β (t::l)=(ct (β t)).toList++dm β l:=by rw[←ka];exact ft β [t] l
  rw[e];cases hb:ct (β t) with|none=>exact nn hinj l hn.2 fun t ht=>hd t (List.mem_cons_of_mem _ ht)|some b=>show(b::dm β l).Nodup;rw[List.nodup_cons];refine⟨fun hm=>?_,nn hinj l hn.2 fun t ht=>hd t (List.mem_cons_of_mem _ ht)⟩;obtain⟨s,hs,hb'⟩:=List.mem_filterMap.1 hm;exact hn.1 (hinj t s b (hd t List.mem_cons_self) (hd s (List.mem_cons_of_mem _ hs)) hb hb'▸hs)
theorem yJ:∀(n:Nat) {x y:AV},mt P aa n x y→∀t∈tg aa n x,aG aa t
 |0,_,_,h=>h.elim|n+1,x,y,h=>by
  have lst:∀{l cs:List AV},yN (mt P aa n) l cs→∀t∈l.flatMap (tg aa n),aG aa t:=by intro l;induction l with|nil=>intro cs _ t ht;simp at ht|cons c l ih=>intro cs hm t ht;cases cs with|nil=>exact hm.elim|cons y cs=>
   rw[List.flatMap_cons]at ht;rcases List.mem_append.1 ht with ht|ht;·exact yJ n hm.1 t ht
   ·exact ih hm.2 t ht
  unfold mt at h;intro s hs;split at h
  ·rcases h with⟨t,rfl,ht⟩|⟨rfl,_,_⟩|⟨t,hi,rs,rfl,ht,_⟩;·simp only[tg,List.mem_singleton]at hs;rw[hs];exact⟨_,ht⟩
   ·simp[tg]at hs
   ·simp only[tg,List.mem_singleton]at hs;rw[hs];exact⟨_,ht⟩
  ·obtain⟨t,rfl,ht⟩:=h;simp only[tg,List.mem_singleton]at hs;rw[hs];exact⟨_,ht⟩
  ·obtain⟨t,l,rfl,ht,hm⟩:=h;have e1:tg aa (n+1) (.ptr t 0)=t::l.flatMap (tg aa n):=by show t::((eV (aa t)).getD []).flatMap (tg aa n)=_;rw[ht];rfl
   rw[e1]at hs;rcases List.mem_cons.1 hs with rfl|hs;·exact⟨_,ht⟩
   ·exact lst hm s hs
  ·obtain⟨l,rfl,hm⟩:=h;exact lst hm s hs
  ·obtain⟨l,rfl,hm⟩:=h;exact lst hm s hs
  ·subst h;simp[tg]at hs
  ·subst h;simp[tg]at hs
  ·obtain⟨rfl,_⟩:=h;simp[tg]at hs
  ·exact h.elim
theorem zz {D:Nat→Prop}{v:Value}{x:AV} (hk:Bt x=true) (h:RV P S w β D v x):RV P S w β (·∈rO x) v x:=by cases h with
 |pv v p h=>exact .pv v p h|own t h=>exact .own t (by simp[rO])|ptr t o b h hb=>cases o with|zero=>exact .ptr t 0 b (by simp[rO]) hb|succ o=>simp[Bt]at hk
 |rp ad cs us h1 h2 h3 h4=>exact .rp ad cs us h1 h2 h3 h4|bZ f cs us hl h=>cases cs with|nil=>exact .bZ f [] us hl fun i c u hc=>by simp at hc|cons c cs=>simp[Bt]at hk
 |_=>simp[Bt]at hk
theorem EW {D:Nat→Prop}{v:Value}{x:AV} (hk:wS x=true) (h:RV P S w β D v x):RV P S w β (·∈sD x) v x:=by
 by_cases hx:∃cs,x=.agg cs;·obtain⟨cs,rfl⟩:=hx;obtain⟨us,rfl,hl,hc⟩:=h.cN;refine .agg cs us hl fun i c u a b=>?_;have hm:=List.mem_of_getElem? a;simp only[wS,List.all_eq_true]at hk;exact(zz (hk c hm) (hc i c u a b)).mono (fun b hb=>⟨hb,rfl⟩) fun t ht=>⟨List.mem_flatMap.2 ⟨c,hm,ht⟩,rfl⟩
 ·have e1:wS x=Bt x:=by cases x<;>first|rfl|exact absurd ⟨_,rfl⟩ hx
  have e2:sD x=rO x:=by cases x<;>first|rfl|exact absurd ⟨_,rfl⟩ hx
  rw[e1]at hk;rw[e2];exact zz hk h
theorem Je {n:Nat}{x y:AV} (h:mt P aa (n+2) x y) (hk:wS x=true):∀t∈sD x,aG aa t:=by
 intro t ht;refine yJ (n+2) h t ?_;have hC:∀{c:AV},t∈rO c→∀m,t∈tg aa (m+1) c:=by
  intro c hc m;unfold rO at hc;split at hc;·simpa[tg]using hc
  ·simp only[List.mem_singleton]at hc;subst hc;exact List.mem_cons_self
  ·simp at hc
 by_cases hx:∃cs,x=.agg cs;·obtain⟨cs,rfl⟩:=hx;obtain⟨c,hc,ht⟩:=List.mem_flatMap.1 ht;exact List.mem_flatMap.2 ⟨c,hc,hC ht n⟩
 ·have e2:sD x=rO x:=by cases x<;>first|rfl|exact absurd ⟨_,rfl⟩ hx
  rw[e2]at ht;exact hC ht (n+1)
theorem yY {R:Value→AV→Prop}:∀{ys xs:List AV}{vs:List Value},xs.length=ys.length→vs.length=ys.length→(∀(i:Nat) (c:AV) (u:Value),xs[i]?=some c→vs[i]?=some u→R u c)→(ew ys xs).length=(ew ys vs).length∧∀(i:Nat) (c:AV) (u:Value),(ew ys xs)[i]?=some c→(ew ys vs)[i]?=some u→R u c
 |[],[],[],_,_,_=>⟨rfl,fun i c u hc=>by simp[ew]at hc⟩|y::ys,x::xs,v::vs,h1,h2,h=>by
  obtain⟨k1,k2⟩:=yY (ys:=ys) (xs:=xs) (vs:=vs) (by simpa using h1) (by simpa using h2) fun i c u hc hu=>h (i+1) c u (by simpa using hc) (by simpa using hu);simp only[ew];split;·refine⟨by simp[k1],fun i c u hc hu=>?_⟩;cases i with|zero=>simp only[List.getElem?_cons_zero,Option.some.injEq]at hc hu;rw[←hc,←hu];exact h 0 x v rfl rfl|succ i=>exact k2 i c u (by simpa using hc) (by simpa using hu)
  ·exact⟨k1,k2⟩|[],_::_,_,h,_,_=>by simp at h|[],[],_::_,_,h,_=>by simp at h|_::_,[],_,h,_,_=>by simp at h|_::_,_::_,[],_,h,_=>by simp at h
end
theorem yv {P:Program}{Γ:bR} (hΓ:dS P Γ) {f:FuncId}{n k:Nat}{rs:List (Nat×Option (Option Nat))}{b:AC}{ys:List AV}{x:AV}{s:List AV×List (Nat×AO)×List Nat×List Nat} (hm:R0 P=true) (hc:aFn P f=some ⟨n,k,rs,b⟩) (hlen:ys.length≤n) (hnum:OZ ys YH=some s) (htop:∀c∈ew ys s.1,wS c=true∧∀t∈sD c,t%1000=999) (hs:iC P Γ b (vK P rs (ew ys s.1) x) (Bq (vK P rs (ew ys s.1) x)) ⟨look (nv 0 s.1),ab s.2.1⟩):Bv P f ys x:=by
 intro w S0 vals bss hS0 hnd hts;obtain⟨p1,n1,l1⟩:=C4 (P:=P) (S:=S0) (S':=S0) (w:=w) (fun b hb=>hb) ys YH s hnum;obtain⟨β,c1,c2,c3⟩:=l1 vals bss hts hnd (by decide);generalize hB:bss.flatten=B at*;obtain⟨d1,d2⟩:=c1 β (aG (ab s.2.1)) fun p hp=>⟨rfl,by obtain⟨o,ho⟩:=mH hp;exact⟨o,ho⟩⟩;have hvl:vals.length=ys.length:=by have:=hts.1;simpa using this
 have hblt:∀b∈B,b<w.heap.size:=by
  have hlt:∀{v y bs},HT P S0 w v y bs→∀b∈bs,b<w.heap.size:=by
   intro v y bs h;have hin:∀{b:Nat}{o:Obj},w.heap[b]?=some o→b<w.heap.size:=fun h=>(Array.getElem?_eq_some_iff.1 h).1;have lst:∀{us:List Value}{cs:List AV}{bss:List (List Nat)},us.length=cs.length→bss.length=cs.length→(∀(i:Nat) (c:AV) (u:Value) (bs:List Nat),cs[i]?=some c→us[i]?=some u→bss[i]?=some bs→∀b∈bs,b<w.heap.size)→∀b∈bss.flatten,b<w.heap.size:=by intro us cs bss h1 h2 h b hb;obtain⟨bs,hbs,hb⟩:=List.mem_flatten.1 hb;obtain⟨i,hi⟩:=List.getElem?_of_mem hbs;have hl:=(List.getElem?_eq_some_iff.1 hi).1;exact h i _ _ bs (List.getElem?_eq_getElem (by omega)) (List.getElem?_eq_getElem (by omega)) hi b hb
   induction h with|leaf v y h=>intro b hb;simp at hb|fr v e rows inf us h1 h2 h3 h4=>
    intro b hb;rcases h2.2 with⟨rfl,_⟩|⟨g,cap,cur,rfl,_,h5,_⟩;·simp[ct]at hb
    ·simp only[ct,Option.toList_some,List.mem_singleton]at hb;rw[hb];exact hin h5|mf b us c es h1 h2 h3=>intro b' hb;simp only[List.mem_singleton]at hb;rw[hb];exact hin h1|bx b us ty cs bss h1 h2 h3 h4 h5 ih=>
    intro b' hb;rcases List.mem_cons.1 hb with rfl|hb;·exact hin h1
    ·exact lst (us:=us.toList) (by simpa using h2) h3 (fun i c u bs a1 a2 a3=>ih i c u bs a1 (by simpa using a2) a3) b' hb|agg us cs bss h1 h2 h3 ih=>exact lst h1 h2 ih|aS us cs bss h1 h2 h3 ih=>exact lst h1 h2 ih
  rw[←hB];intro b hb;obtain⟨bs,hbs,hb⟩:=List.mem_flatten.1 hb;obtain⟨i,hi⟩:=List.getElem?_of_mem hbs;have hl:=(List.getElem?_eq_some_iff.1 hi).1;have h2:=hts.2.1;have h1:=hts.1;exact hlt (hts.2.2 i _ _ bs (List.getElem?_eq_getElem (by omega)) (List.getElem?_eq_getElem (by omega)) hi) b hb
 have hos:∀t o,ab s.2.1 t=some o→(t,o)∈s.2.1:=fun t o h=>kP h;have hlive:∀b,live β (ab s.2.1) b→b∈B:=by rintro b ⟨t,o,ho,hb⟩;exact c2 (t,o) (hos t o ho) b hb
 let S1:Nat→Prop:=fun b=>S0 b∨b∈B;have hS1:∀b,S0 b→aU S1 w.heap.size β (ab s.2.1) w b∧w.heap[b]?=w.heap[b]?:=fun b hb=>⟨⟨.inl (.inl hb),(hS0 b hb).1,fun hl=>(hS0 b hb).2 (hlive b hl)⟩,rfl⟩;have hvr:∀(i:Nat) (v:Value) (c:AV),vals[i]?=some v→s.1[i]?=some c→RV P S0 w β (aG (ab s.2.1)) v c:=fun i v c hv hc=>d2 i c v hc hv;unfold aFn xC at hc;split at hc
 ·rename_i fn hfn;split at hc
  ·rename_i c rs hb hrs;obtain⟨b,hcomp,hc⟩:=Option.bind_eq_some_iff.1 hc;split at hc;case isFalse=>cases hc
   rename_i hN;cases hc;refine calls_of_wp hfn hb ?_;have hrel:Rel P S1 (·∈B) β w fn.ntmps ⟨look (nv 0 s.1),ab s.2.1⟩ {tmps:=vals.toArray++Array.replicate (fn.ntmps-vals.toArray.size) undef,defers:=[]} w β:=by
    refine⟨by simp;omega,rfl,fun q=>?_,⟨fun t o ho=>?_,fun t t' b ht ht' hb hb'=>?_⟩,fun t b ht hb=>.inr ?_,⟨hN,Lq hm⟩,fun t _ _=>rfl,⟨rfl,rfl,rfl,Nat.le_refl _,fun _ _ _=>rfl⟩⟩;·show RV P _ w β _ _ (look (nv 0 s.1) q);rw[pW];simp only[Nat.zero_le,if_true,Nat.sub_zero];cases ha:s.1[q]? with|none=>exact .ak _|some x=>
     have hs1:=(List.getElem?_eq_some_iff.1 ha).1;have hs2:q<vals.length:=by omega
     have hv:vals[q]?=some vals[q]:=List.getElem?_eq_getElem hs2;have hget:(vals.toArray++Array.replicate (fn.ntmps-vals.toArray.size) undef).getD q undef=vals[q]:=by rw[Array.getD_eq_getD_getElem?,Array.getElem?_append_left (by simpa using hs2)];simp[hs2]
     rw[hget];exact(hvr q _ x hv ha).mono hS1 fun t ht=>⟨ht,rfl⟩
    ·exact(d1 (t,o) (hos t o ho)).mono hS1 (fun t ht=>⟨ht,rfl⟩) rfl (fun _ _=>rfl)
    ·obtain⟨o,ho⟩:=ht;obtain⟨o',ho'⟩:=ht';exact c3 (t,o) (hos t o ho) (t',o') (hos t' o' ho') b hb hb'
    ·obtain⟨o,ho⟩:=ht;exact c2 (t,o) (hos t o ho) b hb
   have fin:∀st a w' β',vK P rs (ew ys s.1) x st→Rel P S1 (·∈B) β w fn.ntmps st a w' β'→a.defers=[]∧∃v,(results fn a.tmps).run P w'=.ok v w'∧∃v0 bss',Ending.returned v=.returned v0∧zC (·∈B) w w'∧bss'.flatten.Nodup∧(∀b∈bss'.flatten,w.heap.size≤b∨b∈B)∧FE P (fun b=>(S0 b∨b∈B∨w.heap.size≤b)∧b<w'.heap.size∧b∉bss'.flatten) w' (ew ys vals++[v0]) (lC x++[kL x]) bss':=by
    intro st0 a w' β' hF0 hR0;obtain⟨_,vs0,hF,_,_⟩:=iG hrs hR0 hF0;have hR:=hR0.cE (fun b hb=>.inr hb) (mV (bU vs0) (kL x));change qw P rs (ew ys s.1) x (cE _ st0) at hF;generalize cE (mV (bU vs0) (kL x)) st0=st at hF hR;obtain⟨v,vs,⟨hmt,hmL,hnd'⟩,hrun,hv⟩:=iG hrs hR hF;refine⟨hR.defers,v,hrun,v,?_⟩;generalize bU vs=X at hmt hnd' hv;generalize hLL:ew ys s.1=L at*;have hLd:∀t∈L.flatMap (tg st.aa 5),aG st.aa t:=by intro t ht;obtain⟨c,hc,ht⟩:=List.mem_flatMap.1 ht;obtain⟨i,hi⟩:=List.getElem?_of_mem hc;obtain⟨g1,g2⟩:=gC hmL;exact yJ 5 (g2 i c _ hi (List.getElem?_eq_getElem (by have:=(List.getElem?_eq_some_iff.1 hi).1;omega))) t ht
    have hXd:∀t∈tg st.aa 6 X,aG st.aa t:=yJ 6 hmt;have ebs:((L.map fun c=>dm β' (tg st.aa 5 c))++[dm β' (tg st.aa 6 X)]).flatten=dm β' (L.flatMap (tg st.aa 5)++tg st.aa 6 X):=by rw[List.flatten_append,ft,fJ];simp
    have hall:∀t∈L.flatMap (tg st.aa 5)++tg st.aa 6 X,aG st.aa t:=fun t ht=>(List.mem_append.1 ht).elim (hLd t) (hXd t);refine⟨(L.map fun c=>dm β' (tg st.aa 5 c))++[dm β' (tg st.aa 6 X)],rfl,hR.bS,?_,?_,?_⟩;·rw[ebs];exact nn hR.heap.inj _ hnd' hall
    ·rw[ebs];intro b hb;obtain⟨t,ht,hb⟩:=List.mem_filterMap.1 hb;exact hR.old t b (hall t ht) hb
    rw[ebs];have hSS:∀b,aU S1 w.heap.size β' st.aa w' b→((S0 b∨b∈B∨w.heap.size≤b)∧b<w'.heap.size∧b∉dm β' (L.flatMap (tg st.aa 5)++tg st.aa 6 X)):=by
     rintro b ⟨h1,h2,h3⟩;refine⟨?_,h2,fun hb=>?_⟩
     ·rcases h1 with(h1|h1)|h1;·exact .inl h1
      ·exact .inr (.inl h1)
      ·exact .inr (.inr h1)
     ·obtain⟨t,ht,hb⟩:=List.mem_filterMap.1 hb;obtain⟨o,ho⟩:=hall t ht;exact h3 ⟨t,o,ho,hb⟩
    obtain⟨k1,k2⟩:=yY (R:=fun u c=>RV P S0 w β (aG (ab s.2.1)) u c) (ys:=ys) (xs:=s.1) (vs:=vals) n1 hvl fun i c u hc hu=>hvr i u c hu hc;rw[hLL]at k1 k2;obtain⟨g1,g2⟩:=gC hmL;have hlast:=lE hR.heap hSS 6 hmt hv;refine⟨by simp[←k1,g1],by simp[g1],fun i y u bs a1 a2 a3=>?_⟩;by_cases hi:i<(lC x).length
    ·rw[List.getElem?_append_left hi]at a1;rw[List.getElem?_append_left (by omega)]at a2;rw[List.getElem?_append_left (by rw[List.length_map];omega),List.getElem?_map]at a3;obtain⟨c,hc,rfl⟩:=Option.map_eq_some_iff.1 a3;have hcm:=List.mem_of_getElem? hc;obtain⟨t1,t2⟩:=htop c hcm;have hmc:=g2 i c y hc a1;refine lE hR.heap hSS 5 hmc ((EW t1 (k2 i c u hc a2)).mono (fun b hb=>?_) fun t ht=>?_)
     ·refine⟨⟨.inl (.inl hb),Nat.lt_of_lt_of_le (hS0 b hb).1 hR.bS.size,fun⟨t,o,ho,hbt⟩=>?_⟩,hR.bS.block b (hS0 b hb).1 (hS0 b hb).2⟩;rcases hR.old t b ⟨o,ho⟩ hbt with h4|h4;·have:=(hS0 b hb).1;omega
      ·exact(hS0 b hb).2 h4
     ·have hd:=Je (n:=3) hmc t1 t ht;exact⟨hd,hR.u5 t (t2 t ht) hd⟩
    ·have hi2:i=(lC x).length:=by have:=(List.getElem?_eq_some_iff.1 a1).1;simp at this;omega
     subst hi2;have e1:y=kL x:=by simpa using a1.symm
     have e2:u=v:=by rw[←g1,k1]at a2;simpa using a2.symm
     have e3:bs=dm β' (tg st.aa 6 X):=by rw[←g1,←@List.length_map _ _ L (fun c=>dm β' (tg st.aa 5 c))]at a3;simpa using a3.symm
     rw[e1,e2,e3];exact hlast
   refine tY hΓ (S0:=S1) (L:=(·∈B)) (fun b hb=>.inr hb) (w0:=w) (LA hm) _ c b hcomp (vK P rs (ew ys s.1) x) (Bq (vK P rs (ew ys s.1) x)) _ _ _ w β ?_ ?_ ?_ hrel hs;·intro st a w' β' hF hR;exact fin st a w' β' hF hR
   ·intro st a w' β' id hj;exact hj.elim
   ·intro st a w' β' hF hR;exact fin st a w' β' hF hR
  ·cases hc
 ·cases hc
end Go.Proofs.YtifcndkhigakfaaGreat.Ab
namespace Go.Proofs.YtifcndkhigakfaaGreat.Ab.R
open Go Go.RowKit
section
variable{P:Program}{Γ:bR}{K:St→Prop}{vs:List (Nat×AV)}{os:List (Nat×AO)}
@[simp↓] theorem NI {d:Nat}:aX (some d) .XX [] K ⟨look vs,ab os⟩=(ab os d=none∧K ⟨put (some d) (.own d) (look vs),bA [(d,.iF [])] (ab os)⟩):=rfl
@[simp↓] theorem NT {d:Option Nat}{s:Nat}{x y z:AV}:aX d (.Sv s) [x,y,z] K ⟨look vs,ab os⟩=qH d s (strip x) (strip y) (rQ (strip z)) [x,y,z] K ⟨look vs,ab os⟩:=rfl
@[congr] theorem Lw {d:Option Nat}{s:Nat}{x x' y y' z z':AV}{xs:List AV}{st:St} (h1:True→x=x') (h2:True→y=y') (h3:True→z=z'):qH d s x y z xs K st=qH d s x' y' z' xs K st:=by rw[h1 trivial,h2 trivial,h3 trivial]
@[simp↓] theorem YN {d:Option Nat}{s t:Nat}{k v:PV}{xs:List AV}:qH d s (.own t) (.pv k) (.pv v) xs K ⟨look vs,ab os⟩=(an xs∧ai (sd (ab os t)) fun es=>dw k=s∧fX s es∧K ⟨put d .ak (look vs),aN t (.iF (lP k v es)) (ab os)⟩):=rfl
@[simp↓] theorem PO {d:Option Nat}{s:Nat}{z:Value}{ok:Bool}{x y:AV}:aX d (.Gi s z ok) [x,y] K ⟨look vs,ab os⟩=vW d s z ok (strip x) (strip y) [x,y] K ⟨look vs,ab os⟩:=rfl
@[simp↓] theorem WQ {d:Option Nat}{s:Nat}{z:Value}{ok:Bool}{X:AV}{k:PV}{xs:List AV}:vW d s z ok X (.pv k) xs K ⟨look vs,ab os⟩=(an xs∧ai (GQ (ab os) X) fun es=>z.oneCell'=true∧dw k=s∧fX s es∧K ⟨put d (Cl z ok (m6 k es)) (look vs),ab os⟩):=rfl
@[simp↓] theorem Ot {d:Option Nat}{s:Nat}{x y:AV}:aX d (.dlv s) [x,y] K ⟨look vs,ab os⟩=wH d s (strip x) (strip y) [x,y] K ⟨look vs,ab os⟩:=rfl
@[simp↓] theorem Wd {d:Option Nat}{s t:Nat}{k:PV}{xs:List AV}:wH d s (.own t) (.pv k) xs K ⟨look vs,ab os⟩=(an xs∧ai (sd (ab os t)) fun es=>dw k=s∧fX s es∧K ⟨put d .ak (look vs),aN t (.iF (qA k es)) (ab os)⟩):=rfl
@[simp↓] theorem Lu {d:Option Nat}{ne:Bool}{x:AV}:aX d (.Fh ne) [x] K ⟨look vs,ab os⟩=(an [x]∧ai (uo (strip x)) fun b=>K ⟨put d (.pv (.bool (b !=ne))) (look vs),ab os⟩):=rfl
@[simp↓] theorem NG {d:Option Nat}{x:AV}:aX d .WS [x] K ⟨look vs,ab os⟩=xj d (strip x) [x] K ⟨look vs,ab os⟩:=rfl
@[simp↓] theorem Yn {d:Nat}{es:List (PV×PV)}{xs:List AV}:xj (some d) (.pv (.mv es)) xs K ⟨look vs,ab os⟩=(an xs∧ab os d=none∧K ⟨put (some d) (.ptr d 0) (look vs),bA [(d,.nC es none)] (ab os)⟩):=rfl
@[simp↓] theorem MQ {d:Option Nat}{x:AV}:aX d .nxt [x] K ⟨look vs,ab os⟩=vR d (strip x) [x] K ⟨look vs,ab os⟩:=rfl
@[simp↓] theorem Xm {d:Option Nat}{t:Nat}{xs:List AV}:vR d (.ptr t 0) xs K ⟨look vs,ab os⟩=(an xs∧ai (Fx (ab os t)) fun r=>(r.1=[]→K ⟨put d (.aS [.pv (.bool false)]) (look vs),ab os⟩)∧∀(e:PV×PV) (l m:List (PV×PV)),r.1=l++e::m→K ⟨put d (.aS [.pv (.bool true),.pv e.1,.pv e.2]) (look vs),aN t (.nC (l++m) (some e)) (ab os)⟩):=rfl
@[simp↓] theorem Oi {d:Option Nat}{x:AV}:aX d .ent [x] K ⟨look vs,ab os⟩=wA d (strip x) [x] K ⟨look vs,ab os⟩:=rfl
@[simp↓] theorem Wb {d:Option Nat}{t:Nat}{xs:List AV}:wA d (.ptr t 0) xs K ⟨look vs,ab os⟩=(an xs∧ai (Fx (ab os t)) fun r=>ai r.2 fun e=>K ⟨put d (.aS [.pv e.1,.pv e.2]) (look vs),ab os⟩):=rfl
@[simp↓] theorem Z3 {d f:Nat}{ks:List Nat}{xs:List AV}:stepG Γ (some d) f xs (some ks) K ⟨look vs,ab os⟩=(an xs∧xO Γ d f ks (xs.map strip) (fu (ab os) ks (xs.map strip)) ((eO ks (xs.map strip)).flatMap sD) K ⟨look vs,ab os⟩):=rfl
@[congr] theorem Ma {d:Option Nat}{f:Nat}{xs xs':List AV}{o o':Option (List Nat)}{st:St} (h1:True→xs=xs') (h2:True→o=o'):stepG Γ d f xs o K st=stepG Γ d f xs' o' K st:=by rw[h1 trivial,h2 trivial]
@[simp↓] theorem Qi {d f:Nat}{ks:List Nat}{xs:List AV}{T Q:List Nat}:xO Γ d f ks xs T Q K ⟨look vs,ab os⟩=(T.Nodup∧(∀t∈Q,t∈T)∧xN Γ d f ks xs T Q (T.filter fun t=>!Q.contains t) K ⟨look vs,ab os⟩):=rfl
@[simp↓] theorem S6 {d f:Nat}{ks:List Nat}{xs:List AV}{T Q W:List Nat}:xN Γ d f ks xs T Q W K ⟨look vs,ab os⟩=(Q.Nodup∧ai (E6 (ab os) (eY T T (ab os)) T ks xs) fun ys=>xW Γ d f ks xs T Q W K ⟨look vs,ab os⟩ ys):=rfl
@[simp↓] theorem QN {d f:Nat}{ks:List Nat}{xs ys:List AV}{T Q W:List Nat}:xW Γ d f ks xs T Q W K ⟨look vs,ab os⟩ ys=ai (Γ (f+2000000) ys) fun x=>x.1∧(fk T ks xs=true∨∀y∈lC x.2++[kL x.2],jx 5 y)∧ai (pX (num 5 true) (lC x.2) (Q,pf d T W)) fun o=>o.1=eO ks xs∧ai (num 5 false (kL x.2) o.2.2) fun r=>(∀p∈o.2.1++r.2.1,T.contains p.1=true∨ab os p.1=none)∧K ⟨put (some d) r.1 (iy W (look vs)),bA (o.2.1++r.2.1) (eY T W (ab os))⟩:=rfl
end
@[simp↓] theorem YS {P:Program}{Γ:bR}{d:Option Nat}{s:Nat}{z:Value}{ok:Bool}{x y:AV}{aa:Nat→Option AO}{C:bE→Prop}:aZ P Γ d (.ex (.Gi s z ok)) [x,y] aa C=(an [x,y]∧ai (al (.ex (.Gi s z ok)) [strip x,strip y] aa) fun r=>r.1∧C (.put r.2)):=rfl
@[simp↓] theorem SF {P:Program}{Γ:bR}{d:Option Nat}{e:TypeId}{sz:Nat}{xs:List AV}{aa:Nat→Option AO}{C:bE→Prop}:aZ P Γ d (.ex (.mW e sz)) xs aa C=(an xs∧ai (al (.ex (.mW e sz)) (xs.map strip) aa) fun r=>r.1∧C (.put r.2)):=rfl
@[simp↓] theorem R6 {P:Program}{Γ:bR}{d:Option Nat}{e:TypeId}{sz:Nat}{xs:List AV}{aa:Nat→Option AO}{C:bE→Prop}{c:Bool}:cw P Γ c d (.ex (.mW e sz)) xs aa C=ai (al (.ex (.mW e sz)) (xs.map strip) aa) fun x=>(c=true→an xs∧x.1)∧C (.put (.ck c x.2)):=rfl
@[simp] theorem QX {e:TypeId}{sz:Nat}{xs:List AV}{aa:Nat→Option AO}:al (.ex (.mW e sz)) xs aa=(rowsOf xs).map fun rows=>(∀r∈rows,r.length=sz,.pv (.ro rows)):=nr (by unfold al;rfl)
@[simp] theorem UG (k v:PV):lP k v []=[(k,v)]:=nr rfl
@[simp] theorem aaa (k k':IntKind) (a b:Int) (v x:PV) (l:List (PV×PV)):lP (.int k a) v ((.int k' b,x)::l)=if a=b then(.int k a,v)::l else(.int k' b,x)::lP (.int k a) v l:=by simp[lP,m8]
@[simp] theorem GL (k k':IntKind) (a b:Int) (x:PV) (l:List (PV×PV)):m6 (.int k a) ((.int k' b,x)::l)=if a=b then some x else m6 (.int k a) l:=by simp[m6,m8]
@[simp] theorem Cx (s:Nat) (e:PV×PV) (l:List (PV×PV)):fX s (e::l)=(dw e.1=s∧fX s l):=by simp[fX]
@[simp] theorem shP_own (t s:Nat) (es:List (PV×PV)):Z9 t es (.own s)=if s=t then .pv (.mv es) else .own s:=nr rfl
@[simp] theorem pubM_eq (vs:List (Nat×AV)) (os:List (Nat×AO)) (t:Nat):Ah t ⟨look vs,ab os⟩=match sd (ab os t) with|some es=>⟨look (vs.map fun x=>(x.1,Z9 t es x.2)),ab (I8 t os)⟩|none=>⟨look vs,ab os⟩:=by unfold Ah;dsimp only;cases sd (ab os t) with|none=>rfl|some es=>dsimp only;rw[sL];congr 1;funext s;induction vs with|nil=>rfl|cons x l ih=>
 simp only[List.map_cons,look];split;·rfl
 ·exact ih
@[simp] theorem Qb (es:List (PV×PV)):sd (some (.iF es))=some es:=nr rfl
@[simp] theorem Q6 (s:Nat):fX s []=True:=by simp[fX]
@[simp] theorem rdO_arr (e:TypeId) (rows:List (List PV)):RS (some (.arr e rows))=some (.fr e rows):=nr rfl
@[simp] theorem rdW_nil (f:AV→Option (AV×List Nat)):Ie f []=some ([],[]):=nr rfl
@[simp] theorem Um (f:AV→Option (AV×List Nat)) (c:AV) (cs:List AV):Ie f (c::cs)=(f c).bind fun r=>(Ie f cs).map fun q=>(r.1::q.1,r.2++q.2):=nr rfl
@[simp] theorem rd_own (n:Nat) (aa:Nat→Option AO) (t:Nat):rd (n+1) aa (.own t)=(RS (aa t)).map fun y=>(y,[t]):=nr rfl
@[simp] theorem rd_ptr (n:Nat) (aa:Nat→Option AO) (t:Nat):rd (n+1) aa (.ptr t 0)=(eV (aa t)).bind fun cs=>(Ie (rd n aa) cs).map fun r=>(.bx r.1,t::r.2):=nr rfl
@[simp] theorem rd_pv (n:Nat) (aa:Nat→Option AO) (p:PV):rd (n+1) aa (.pv p)=some (.pv p,[]):=nr rfl
@[simp] theorem tk_t (p:Nat) (ps us:List Nat):tk true (p::ps,us)=some (p,ps,us):=nr rfl
@[simp] theorem tk_f (u:Nat) (ps us:List Nat):tk false (ps,u::us)=some (u,ps,us):=nr rfl
@[simp] theorem ZP (f:AV→List Nat×List Nat→Option (AV×List (Nat×AO)×List Nat×List Nat)) (s:List Nat×List Nat):pX f [] s=some ([],[],s):=nr rfl
@[simp] theorem Tl (f:AV→List Nat×List Nat→Option (AV×List (Nat×AO)×List Nat×List Nat)) (c:AV) (cs:List AV) (s:List Nat×List Nat):pX f (c::cs) s=(f c s).bind fun r=>(pX f cs r.2.2).map fun q=>(r.1::q.1,r.2.1++q.2.1,q.2.2):=nr rfl
@[simp] theorem num_fr (n:Nat) (top:Bool) (e:TypeId) (rows:List (List PV)) (s:List Nat×List Nat):num (n+1) top (.fr e rows) s=(tk top s).map fun q=>(.own q.1,[(q.1,.arr e rows)],q.2):=nr rfl
@[simp] theorem num_bx (n:Nat) (top:Bool) (cs:List AV) (s:List Nat×List Nat):num (n+1) top (.bx cs) s=(tk top s).bind fun q=>(pX (num n false) cs q.2).map fun r=>(.ptr q.1 0,(q.1,.box r.1)::r.2.1,r.2.2):=nr rfl
@[simp] theorem num_pv (n:Nat) (top:Bool) (p:PV) (s:List Nat×List Nat):num (n+1) top (.pv p) s=some (.pv p,[],s):=nr rfl
@[simp] theorem VU (t:Nat):sD (.ptr t 0)=[t]:=nr rfl
@[simp] theorem ysG_nil (aa objs':Nat→Option AO) (T:List Nat):E6 aa objs' T [] []=some []:=nr rfl
@[simp] theorem ysG_0 (aa objs':Nat→Option AO) (T ks:List Nat) (x:AV) (xs:List AV):E6 aa objs' T (0::ks) (x::xs)=(nW objs' (fB T x)).bind fun y=>(E6 aa objs' T ks xs).map (y::·):=nr rfl
@[simp] theorem ysG_2 (aa objs':Nat→Option AO) (T ks:List Nat) (x:AV) (xs:List AV):E6 aa objs' T (2::ks) (x::xs)=((rd 5 aa x).map fun r=>.aS [r.1]).bind fun y=>(E6 aa objs' T ks xs).map (y::·):=nr rfl
@[simp] theorem Sl (aa:Nat→Option AO):fu aa [] []=[]:=nr rfl
@[simp] theorem tagsG_0 (aa:Nat→Option AO) (ks:List Nat) (x:AV) (xs:List AV):fu aa (0::ks) (x::xs)=fu aa ks xs:=nr rfl
@[simp] theorem tagsG_2 (aa:Nat→Option AO) (ks:List Nat) (x:AV) (xs:List AV):fu aa (2::ks) (x::xs)=((rd 5 aa x).map (·.2)).getD []++fu aa ks xs:=nr rfl
@[simp] theorem Tv:eO [] []=[]:=nr rfl
@[simp] theorem lentG_0 (ks:List Nat) (x:AV) (xs:List AV):eO (0::ks) (x::xs)=eO ks xs:=nr rfl
@[simp] theorem lentG_2 (ks:List Nat) (x:AV) (xs:List AV):eO (2::ks) (x::xs)=x::eO ks xs:=nr rfl
@[simp] theorem Nu (T:List Nat):fk T [] []=true:=nr rfl
@[simp] theorem aae (T ks:List Nat) (x:AV) (xs:List AV):fk T (0::ks) (x::xs)=(dZ (fB T x)&&fk T ks xs):=nr rfl
@[simp] theorem WX (T ks:List Nat) (x:AV) (xs:List AV):fk T (2::ks) (x::xs)=fk T ks xs:=nr rfl
@[simp] theorem UB (n:Nat) (e:TypeId) (rows:List (List PV)):jx (n+1) (.fr e rows)=cT rows:=nr rfl
@[simp] theorem WG (n:Nat) (cs:List AV):jx (n+1) (.bx cs)=∀c∈cs,jx n c:=nr rfl
@[simp] theorem aaq (n:Nat) (p:PV):jx (n+1) (.pv p)=(iv p=true):=nr rfl
@[simp] theorem aag (n:Nat) (r:AV) (l:List AV):lC (.bZ n (r::l))=l:=nr rfl
@[simp] theorem X5 (n:Nat) (r:AV) (l:List AV):kL (.bZ n (r::l))=r:=nr rfl
@[simp] theorem ksOf_rp (l:List PV):Nl (.rp l)=some (l.map fun p=>match p with|.int _ n=>n.toNat|_=>0):=nr rfl
@[simp] theorem Xt (d:Nat) (T W:List Nat):pf d T W=W.filter (fun t=>t%1000 !=999)++[d,d+1000,d+2000,d+3000,d+4000,d+5000,d+6000,d+7000].filter fun t=>!T.contains t:=nr rfl
@[simp] theorem Qz (t:Nat) (W:List Nat) (x:AV):fB (t::W) x=m7 (t::W) x:=nr rfl
@[simp] theorem Ro (W:List Nat) (cs:List AV):m7 W (.agg cs)=.agg (cs.map (eF W)):=nr rfl
@[simp] theorem QV (W:List Nat) (t o:Nat):m7 W (.ptr t o)=eF W (.ptr t o):=nr rfl
@[simp] theorem YV (W:List Nat) (p:PV):m7 W (.pv p)=.pv p:=nr rfl
@[simp] theorem Nm (W:List Nat):m7 W .ak=.ak:=nr rfl
@[simp] theorem SY (W:List Nat) (t o:Nat):eF W (.ptr t o)=if W.contains t then .ak else .ptr t o:=nr rfl
@[simp] theorem YP (W:List Nat) (p:PV):eF W (.pv p)=.pv p:=nr rfl
@[simp] theorem O0 (t:Nat) (W:List Nat) (o:AO):kc (t::W) o=BV (t::W) o:=nr rfl
@[simp] theorem O4 (W:List Nat) (cs:List AV):BV W (.box cs)=.box (cs.map (eF W)):=nr rfl
@[simp] theorem Nw (W:List Nat) (l:List (Nat×AV)):iy W (look l)=look (l.map fun x=>(x.1,fB W x.2)):=by funext s;unfold iy;induction l with|nil=>show fB W .ak=.ak;unfold fB;split<;>rfl|cons x l ih=>
 obtain⟨k,v⟩:=x;simp only[List.map_cons,look];split;·rfl
 ·exact ih
def Lm (T W:List Nat):List (Nat×AO)→List (Nat×AO)|[]=>[]|x::l=>if T.contains x.1=true then Lm T W l else(x.1,kc W x.2)::Lm T W l
@[simp] theorem rmG_nil (T W:List Nat):Lm T W []=[]:=nr rfl
@[simp] theorem HW (T W:List Nat) (s:Nat) (o:AO) (l:List (Nat×AO)):Lm T W ((s,o)::l)=if T.contains s=true then Lm T W l else(s,kc W o)::Lm T W l:=nr rfl
@[simp] theorem Ow (T W:List Nat) (l:List (Nat×AO)):eY T W (ab l)=ab (Lm T W l):=by funext s;unfold eY;induction l with|nil=>simp[Lm,ab]|cons x l ih=>
 obtain⟨k,v⟩:=x;simp only[HW,ab];by_cases hs:T.contains s=true
 ·rw[if_pos hs]at ih ⊢;by_cases hk:T.contains k=true;·rw[if_pos hk];exact ih
  ·have:¬s=k:=fun e=>hk (e▸hs);rw[if_neg hk];simp only[ab,if_neg this];exact ih
 ·rw[if_neg hs]at ih ⊢;by_cases hsk:s=k;·subst hsk;rw[if_neg hs];simp[ab]
  ·rw[if_neg hsk];by_cases hk:T.contains k=true;·rw[if_pos hk];exact ih
   ·rw[if_neg hk];simp only[ab,if_neg hsk];exact ih
@[simp] theorem DK (cs:List AV):GR (.agg cs)=cs.any fun c=>match c with|.bx _|.mf _=>true|_=>false:=nr rfl
@[simp] theorem trC_pv (p:PV):GR (.pv p)=false:=nr rfl
@[simp] theorem trC_fr (e:TypeId) (rows:List (List PV)):GR (.fr e rows)=false:=nr rfl
@[simp] theorem trR_tup (vs:List AV):oq (.aS vs)=vs.any GR:=nr rfl
@[simp] theorem trR_agg (cs:List AV):oq (.agg cs)=GR (.agg cs):=nr rfl
@[simp] theorem trR_pv (p:PV):oq (.pv p)=false:=nr rfl
@[simp] theorem trR_fr (e:TypeId) (rows:List (List PV)):oq (.fr e rows)=false:=nr rfl
@[simp] theorem WE (r:AV):qP r=if oq r=true then jx 5 r else flat r:=nr rfl
@[simp] theorem newO_eq (d:Nat) (r:AV):jU d r=if oq r=true then(((num 5 false r ([],j6 d)).map (·.2.1)).getD []) else aP d r:=nr rfl
@[simp] theorem newV_eq (d:Nat) (r:AV):Ag d r=if oq r=true then(((num 5 false r ([],j6 d)).map (·.1)).getD .ak) else cR (lA d) r:=nr rfl
@[simp] theorem resR_eq (d:Nat) (r:AV):Bf d r=if oq r=true then(num 5 false r ([],j6 d)).isSome else dA r:=nr rfl
@[simp] theorem aan (d:Nat):j6 d=[d,d+1000,d+2000,d+3000,d+4000,d+5000,d+6000,d+7000]:=nr rfl
@[congr] theorem I3 {P:Program}{rs:List (Nat×Option (Option Nat))}{L:List AV}{x:AV}{st st':St} (h:True→st=st'):qw P rs L x st=qw P rs L x st':=by rw[h trivial]
section
variable{P:Program}{aa:Nat→Option AO}
@[simp] theorem mtW_nil (f:AV→AV→Prop):yN f [] []=True:=nr rfl
@[simp] theorem Vg (f:AV→AV→Prop) (c y:AV) (cs ys:List AV):yN f (c::cs) (y::ys)=(f c y∧yN f cs ys):=nr rfl
@[simp] theorem mt_fr (n:Nat) (x:AV) (e:TypeId) (rows:List (List PV)):mt P aa (n+1) x (.fr e rows)=vn P aa x (.fr e rows):=nr rfl
@[simp] theorem mt_bx (n t:Nat) (cs:List AV):mt P aa (n+1) (.ptr t 0) (.bx cs)=ai (eV (aa t)) fun l=>yN (mt P aa n) l cs:=by
 show(∃t' l,AV.ptr t 0=.ptr t' 0∧aa t'=some (.box l)∧yN (mt P aa n) l cs)=_;apply propext;constructor;·rintro⟨t',l,h,h',h''⟩;cases h;rw[h'];exact h''
 ·intro h;obtain⟨l,hl,h⟩:=ae h;exact⟨t,l,rfl,fD hl,h⟩
@[simp] theorem mt_pv (n:Nat) (x:AV) (p:PV):mt P aa (n+1) x (.pv p)=(x=.pv p):=nr rfl
@[simp] theorem tg_own (n t:Nat):tg aa (n+1) (.own t)=[t]:=nr rfl
@[simp] theorem tg_ptr (n t:Nat):tg aa (n+1) (.ptr t 0)=t::((eV (aa t)).getD []).flatMap (tg aa n):=nr rfl
@[simp] theorem tg_pv (n:Nat) (p:PV):tg aa (n+1) (.pv p)=[]:=nr rfl
end
def JX (ks:List Nat) (G:List AV→Option (Prop×AV)) (ys:List AV):Option (Prop×AV):=match ys with|[.ak]=>some (True,.rp (ks.map fun k:Nat=>PV.int .i64 (k:Int)))|ys=>G ys
def Df (P:Program) (f:FuncId) (G:List AV→Option (Prop×AV)):Prop:=∀ys φ r,G ys=some (φ,r)→φ→Bv P f ys r
@[simp] theorem SE (ks:List Nat) (G:List AV→Option (Prop×AV)):JX ks G [.ak]=some (True,.rp (ks.map fun k:Nat=>PV.int .i64 (k:Int))):=nr rfl
@[simp] theorem Ud (ks:List Nat) (G:List AV→Option (Prop×AV)) (q l:List AV):JX ks G (.aS q::l)=G (.aS q::l):=nr rfl
@[simp↓] theorem gt_eq (Γ:bR) (f:FuncId) (ys:List AV):gt Γ f ys=Tc (Γ f ys) (Γ (f+3000000) ys):=rfl
@[congr] theorem QY {a a' b:Option (Prop×AV)} (h:True→a=a'):Tc a b=Tc a' b:=by rw[h trivial]
@[simp↓] theorem Zx (x:Prop×AV) (y:Option (Prop×AV)):Tc (some x) y=some (x.1∧oq x.2=false,x.2):=rfl
@[simp↓] theorem Xg (y:Option (Prop×AV)):Tc none y=y.map fun x=>(x.1∧oq x.2=true,x.2):=rfl
section
variable{P:Program}{Γ:bR}{vs:List (Nat×AV)}{os:List (Nat×AO)}{K:St→Prop}{rs:List (Nat×Option (Option Nat))}{r:AV}{aa:Nat→Option AO}{C:List AV→Prop}
@[simp↓] theorem U3:Bq K .ret ⟨look vs,ab os⟩=K ⟨look vs,ab os⟩:=rfl
@[simp↓] theorem Re {id:Nat}:Bq K (.exit id) ⟨look vs,ab os⟩=False:=rfl
@[simp↓] theorem Ends_eq {r:AV}:Ends P rs r ⟨look vs,ab os⟩=cM ⟨look vs,ab os⟩ rs fun xs=>xq P rs r (cE (mV (bU xs) r) ⟨look vs,ab os⟩):=rfl
@[congr] theorem KP {st st':St}{r:AV} (h:True→st=st'):xq P rs r st=xq P rs r st':=by rw[h trivial]
@[simp↓] theorem T4 {r:AV}{hout:List (Nat×AO)}:nc P rs r hout ⟨look vs,ab os⟩=cM ⟨look vs,ab os⟩ rs fun xs=>nq P rs r hout (cE (mV (bU xs) r) ⟨look vs,ab os⟩):=rfl
@[congr] theorem Kf {st st':St}{r:AV}{hout:List (Nat×AO)} (h:True→st=st'):nq P rs r hout st=nq P rs r hout st':=by rw[h trivial]
@[simp↓] theorem RP {r:AV}{hout:List (Nat×AO)}:nq P rs r hout ⟨look vs,ab os⟩=cM ⟨look vs,ab os⟩ rs fun xs=>fz P (ab os) (bU xs) r∧kI (pl (bU xs))∧pH (ab os) (pl (bU xs)) hout:=rfl
@[simp] theorem Ou (l:List (Nat×Nat)):pH aa l []=True:=nr rfl
@[simp] theorem mkA_pv (p:PV):LH (.pv p)=.pv p:=nr rfl
@[simp] theorem aaC:mY []=[]:=nr rfl
@[simp] theorem mkO_pv (p:PV) (l:List AV):mY (.pv p::l)=mY l:=nr rfl
@[simp↓] theorem Wj {r:AV}:xq P rs r ⟨look vs,ab os⟩=cM ⟨look vs,ab os⟩ rs fun xs=>fz P (ab os) (bU xs) r∧kI (pl (bU xs)):=rfl
@[simp↓] theorem XF {L:List AV}{x:AV}:vK P rs L x ⟨look vs,ab os⟩=cM ⟨look vs,ab os⟩ rs fun xs=>qw P rs L x (cE (mV (bU xs) (kL x)) ⟨look vs,ab os⟩):=rfl
@[simp↓] theorem QZ {L:List AV}{x:AV}:qw P rs L x ⟨look vs,ab os⟩=cM ⟨look vs,ab os⟩ rs fun xs=>mt P (ab os) 6 (bU xs) (kL x)∧yN (mt P (ab os) 5) L (lC x)∧(L.flatMap (tg (ab os) 5)++tg (ab os) 6 (bU xs)).Nodup:=rfl
@[simp] theorem Zp {f:FuncId}:jd Γ f=(Γ (f+2000000) [.ak]).bind fun x=>Nl x.2:=nr rfl
@[simp] theorem all_or {k:Nat}{o:AO}{R:Nat→AO→Prop}{p:Nat→AO→Prop}:(∀a b,a=k∧b=o∨R a b→p a b)=(p k o∧∀a b,R a b→p a b):=propext ⟨fun h=>⟨h k o (.inl ⟨rfl,rfl⟩),fun a b r=>h a b (.inr r)⟩,fun h a b r=>by
 rcases r with⟨rfl,rfl⟩|r;·exact h.1
 ·exact h.2 a b r⟩
@[simp] theorem WY {α:Type} (l:List α):ew [] l=[]:=nr rfl
@[simp] theorem ZO {α:Type} (y:AV) (ys:List AV) (v:α) (l:List α):ew (.aS [y]::ys) (v::l)=v::ew ys l:=nr rfl
@[simp] theorem lent_pv {α:Type} (p:PV) (ys:List AV) (v:α) (l:List α):ew (.pv p::ys) (v::l)=ew ys l:=nr rfl
@[simp] theorem X4 {α:Type} (cs ys:List AV) (v:α) (l:List α):ew (.agg cs::ys) (v::l)=ew ys l:=nr rfl
@[simp] theorem Qh (t:Nat):wS (.ptr t 0)=true:=nr rfl
@[simp] theorem UO (vs rs:List AV):mV (.aS vs) (.aS rs)=wY vs rs:=nr rfl
@[simp] theorem ZI (vs:List AV) (r:AV):mV (.agg vs) r=Cu (.agg vs) r:=by cases r<;>rfl
@[simp] theorem pubs_pv (p:PV) (r:AV):mV (.pv p) r=oh (.pv p) r:=by cases r<;>rfl
@[simp] theorem L4 (t:Nat) (e:TypeId) (rows:List (List PV)):mV (.own t) (.fr e rows)=[]:=nr rfl
@[simp] theorem Tr:wY [] []=[]:=nr rfl
@[simp] theorem PG (c r:AV) (cs rs:List AV):wY (c::cs) (r::rs)=Cu c r++wY cs rs:=nr rfl
@[simp] theorem Q9:tr [] []=[]:=nr rfl
@[simp] theorem Oz (c r:AV) (cs rs:List AV):tr (c::cs) (r::rs)=oh c r++tr cs rs:=nr rfl
@[simp] theorem VP (cs rs:List AV):Cu (.agg cs) (.agg rs)=tr cs rs:=nr rfl
@[simp] theorem pub1_pv (p:PV) (r:AV):Cu (.pv p) r=oh (.pv p) r:=by cases r<;>rfl
@[simp] theorem ZA (t:Nat) (r:AV):Cu (.own t) r=oh (.own t) r:=by cases r<;>rfl
@[simp] theorem K0 (t:Nat) (e:TypeId) (rows:List (List PV)):oh (.own t) (.fr e rows)=[]:=nr rfl
@[simp] theorem Ml (t:Nat) (rows:List (List PV)):oh (.own t) (.pv (.ro rows))=[t]:=nr rfl
@[simp] theorem Mk (t:Nat) (es:List (PV×PV)):mV (.own t) (.pv (.mv es))=[t+1000000000000000]:=nr rfl
@[simp] theorem NQ (rows:List (List PV)):oh (.pv .nil) (.pv (.ro rows))=[999996]:=nr rfl
@[simp] theorem RW (p:PV):oh (.pv p) (.pv p)=[]:=by cases p<;>rfl
@[simp] theorem RO (p:PV) (k:IntKind) (n:Int):oh (.pv p) (.pv (.int k n))=[]:=by cases p<;>rfl
@[simp] theorem Of (p:PV) (b:Bool):oh (.pv p) (.pv (.bool b))=[]:=by cases p<;>rfl
@[simp] theorem Qg (p:PV) (l:List UInt8):oh (.pv p) (.pv (.str l))=[]:=by cases p<;>rfl
@[simp] theorem TJ (p:PV) (e:TypeId) (rows:List (List PV)):oh (.pv p) (.fr e rows)=[]:=by cases p<;>rfl
@[simp↓] theorem K1:cM ⟨look vs,ab os⟩ [] C=C []:=rfl
@[simp↓] theorem L5 {t:Nat}:cM ⟨look vs,ab os⟩ ((t,none)::rs) C=cM ⟨look vs,ab os⟩ rs fun xs=>C (look vs t::xs):=rfl
@[simp↓] theorem Jz {t:Nat}{n:Option Nat}:cM ⟨look vs,ab os⟩ ((t,some n)::rs) C=ai (al (.load n) [look vs t] (ab os)) fun x=>x.1∧cM ⟨look vs,ab os⟩ rs fun xs=>C (x.2::xs):=rfl
@[simp] theorem LD (v:AV):bU [v]=v:=nr rfl
@[simp] theorem Mc (v u:AV) (l:List AV):bU (v::u::l)=.aS (v::u::l):=nr rfl
@[simp] theorem W9 (i:Nat):nv i []=[]:=nr rfl
@[simp] theorem R5 (i:Nat) (v:AV) (l:List AV):nv i (v::l)=(i,v)::nv (i+1) l:=nr rfl
@[simp] theorem fzC_own (t:Nat) (e:TypeId) (rows:List (List PV)):vn P aa (.own t) (.fr e rows)=(aa t=some (.arr e rows)):=by
 apply propext;constructor
 ·rintro(⟨s,h,h2⟩|⟨h,_⟩|⟨_,_,_,h,_⟩);·cases h;exact h2
  ·cases h
  ·cases h
 ·exact fun h=>.inl ⟨t,rfl,h⟩
@[simp] theorem fzC_sub (t:Nat) (e e1:TypeId) (hi:Nat) (rows:List (List PV)):vn P aa (.sub t e1 0 hi) (.fr e rows)=(e1=e∧∃rs,aa t=some (.arr e rs)∧rows=rs.take hi):=by
 apply propext;constructor
 ·rintro(⟨s,h,h2⟩|⟨h,_⟩|⟨s,hi',rs,h,h2,h3⟩);·cases h
  ·cases h
  ·cases h;exact⟨rfl,rs,h2,h3⟩
 ·rintro⟨rfl,rs,h2,h3⟩;exact .inr (.inr ⟨t,hi,rs,rfl,h2,h3⟩)
@[simp] theorem fz_sub (t:Nat) (e:TypeId) (lo hi:Nat) (r:AV):fz P aa (.sub t e lo hi) r=vn P aa (.sub t e lo hi) r:=nr rfl
@[simp] theorem T7 (t:Nat) (e:TypeId) (lo hi:Nat) (r:AV):mV (.sub t e lo hi) r=[]:=by cases r<;>rfl
@[simp] theorem fzC_nil (e:TypeId) (rows:List (List PV)):vn P aa (.pv .nil) (.fr e rows)=(rows=[]∧(P.info? e).isSome=true):=by
 apply propext;constructor
 ·rintro(⟨s,h,h2⟩|⟨_,h⟩|⟨_,_,_,h,_⟩);·cases h
  ·exact h
  ·cases h
 ·exact fun h=>.inr (.inl ⟨rfl,h⟩)
@[simp] theorem fzC_pv (p q:PV):vn P aa (.pv p) (.pv q)=(p=q):=by
 apply propext;constructor;·rintro⟨h,_⟩;cases h;rfl
 ·rintro rfl;exact⟨rfl,rfl⟩
@[simp] theorem WW:xA P aa [] []=True:=nr rfl
@[simp] theorem Qd (c d:AV) (cs ds:List AV):xA P aa (c::cs) (d::ds)=(vn P aa c d∧xA P aa cs ds):=nr rfl
@[simp] theorem fz1_agg (cs ds:List AV):Dm P aa (.agg cs) (.agg ds)=xA P aa cs ds:=nr rfl
@[simp] theorem fz1_pv (p:PV) (r:AV):Dm P aa (.pv p) r=vn P aa (.pv p) r:=nr rfl
@[simp] theorem fz1_own (t:Nat) (r:AV):Dm P aa (.own t) r=vn P aa (.own t) r:=nr rfl
@[simp] theorem Ym:zE P aa [] []=True:=nr rfl
@[simp] theorem QF (c d:AV) (cs ds:List AV):zE P aa (c::cs) (d::ds)=(Dm P aa c d∧zE P aa cs ds):=nr rfl
@[simp] theorem fz_tup (cs ds:List AV):fz P aa (.aS cs) (.aS ds)=(cs.length≤1000∧zE P aa cs ds):=nr rfl
@[simp] theorem fz_agg (cs:List AV) (r:AV):fz P aa (.agg cs) r=Dm P aa (.agg cs) r:=nr rfl
@[simp] theorem fz_pv (p:PV) (r:AV):fz P aa (.pv p) r=vn P aa (.pv p) r:=nr rfl
@[simp] theorem fz_own (t:Nat) (r:AV):fz P aa (.own t) r=vn P aa (.own t) r:=nr rfl
@[simp] theorem TP (j:Nat):qv j []=[]:=nr rfl
@[simp] theorem Wa (j t:Nat) (cs:List AV):qv j (.own t::cs)=(1000*j,t)::qv (j+1) cs:=nr rfl
@[simp] theorem pl_sub (t:Nat) (e:TypeId) (lo hi:Nat):pl (.sub t e lo hi)=[(0,t)]:=nr rfl
@[simp] theorem plCs_pv (j:Nat) (p:PV) (cs:List AV):qv j (.pv p::cs)=qv (j+1) cs:=nr rfl
@[simp] theorem pl1_agg (cs:List AV):PN (.agg cs)=qv 0 cs:=nr rfl
@[simp] theorem pl1_own (t:Nat):PN (.own t)=[(0,t)]:=nr rfl
@[simp] theorem pl1_pv (p:PV):PN (.pv p)=[]:=nr rfl
@[simp] theorem Vx (i:Nat):BN i []=[]:=nr rfl
@[simp] theorem Tt (i:Nat) (v:AV) (vs:List AV):BN i (v::vs)=(PN v).map (fun x=>(x.1+i,x.2))++BN (i+1) vs:=nr rfl
@[simp] theorem pl_tup (vs:List AV):pl (.aS vs)=BN 0 vs:=nr rfl
@[simp] theorem pl_agg (cs:List AV):pl (.agg cs)=qv 0 cs:=nr rfl
@[simp] theorem pl_own (t:Nat):pl (.own t)=[(0,t)]:=nr rfl
@[simp] theorem pl_pv (p:PV):pl (.pv p)=[]:=nr rfl
@[simp] theorem OR:kI []=True:=nr rfl
@[simp] theorem MD (x:Nat×Nat) (l:List (Nat×Nat)):kI (x::l)=((∀y∈l,y.2≠x.2)∧kI l):=nr rfl
end
section
variable{P:Program}{Γ:bR}{vs:List (Nat×AV)}{os:List (Nat×AO)}{st:St}{ad:List Nat}
theorem EC {K:St→Prop}{J:Exit→St→Prop}{a:AC}{α:Type} (I:α→Prop) (F:α→Fr) (μ:α→Nat) (ad shs:List Nat) (x0:α) (hI:I x0) (h0:wk P ad (cE shs st) (F x0)) (hr:∀x,I x→iC P Γ a (fun st'=>∃x',I x'∧wk P [] (cE shs st') (F x')∧μ x'<μ x) J (F x).st):iC P Γ (.loop a) K J st:=by
 refine⟨{x:α//I x},fun x=>F x.1,fun x=>μ x.1,ad,shs,⟨x0,hI⟩,h0,fun x=>?_⟩;have hK:(fun st'=>∃i':{x:α//I x},wk P [] (cE shs st') (F i'.1)∧μ i'.1<μ x.1)=fun st'=>∃x',I x'∧wk P [] (cE shs st') (F x')∧μ x'<μ x.1:=by
  funext st';apply propext;constructor;·rintro⟨⟨y,hy⟩,h⟩;exact⟨y,hy,h⟩
  ·rintro⟨y,hy,h⟩;exact⟨⟨y,hy⟩,h⟩
 show iC P Γ a (fun st'=>∃i':{x:α//I x},wk P [] (cE shs st') (F i'.1)∧μ i'.1<μ x.1) J (F x.1).st;rw[hK];exact hr x.1 x.2
theorem au {K:St→Prop}{J:Exit→St→Prop}{a:AC}{α:Type} (I:α→Prop) (F:α→Fr) (μ:α→Nat) (ad:List Nat) (x0:α) (hI:I x0) (h0:wk P ad st (F x0)) (hr:∀x,I x→iC P Γ a (fun st'=>∃x',I x'∧wk P [] st' (F x')∧μ x'<μ x) J (F x).st):iC P Γ (.loop a) K J st:=EC I F μ ad [] x0 hI h0 hr
@[simp] theorem Nd (st:St):cE [] st=st:=nr rfl
@[simp] theorem Mb (t:Nat) (l:List Nat) (st:St):cE (t::l) st=cE l (yz t st):=nr rfl
@[simp] theorem Sh (t:Nat) (st:St):yz t st=if t=999996 then uS st else if 1000000000000000≤t then Ah (t-1000000000000000) st else share1 st (.own t):=nr rfl
def AE:List (Nat×AO)→List (Nat×AO)|[]=>[]|x::l=>(x.1,ui x.2)::AE l
@[simp] theorem SI:AE []=[]:=nr rfl
@[simp] theorem Cv (t:Nat) (o:AO) (l:List (Nat×AO)):AE ((t,o)::l)=(t,ui o)::AE l:=nr rfl
@[simp] theorem Vr (vs:List (Nat×AV)) (os:List (Nat×AO)):uS ⟨look vs,ab os⟩=⟨look (vs.map fun x=>(x.1,vA x.2)),ab (AE os)⟩:=by
 unfold uS;congr 1;·funext s;induction vs with|nil=>rfl|cons x l ih=>obtain⟨k,v⟩:=x;simp only[List.map_cons,look];split<;>simp_all
 ·funext s;induction os with|nil=>rfl|cons x l ih=>obtain⟨k,v⟩:=x;simp only[Cv,ab];split<;>simp_all
@[simp] theorem nilV_pv (p:PV):vA (.pv p)=.pv (Cz p):=nr rfl
@[simp] theorem Zg (t:Nat):vA (.own t)=.own t:=nr rfl
@[simp] theorem TZ (t o:Nat):vA (.ptr t o)=.ptr t o:=nr rfl
@[simp] theorem SP:vA .ak=.ak:=nr rfl
@[simp] theorem Su:ml []=[]:=nr rfl
@[simp] theorem NV (c:AV) (cs:List AV):ml (c::cs)=sb c::ml cs:=nr rfl
@[simp] theorem nilC_pv (p:PV):sb (.pv p)=.pv (Cz p):=nr rfl
@[simp] theorem Vt (t:Nat):sb (.own t)=.own t:=nr rfl
@[simp] theorem UY:Cz .nil=.ro []:=nr rfl
@[simp] theorem nilP_ro (l:List (List PV)):Cz (.ro l)=.ro l:=nr rfl
@[simp] theorem Zc (k:IntKind) (n:Int):Cz (.int k n)=.int k n:=nr rfl
@[simp] theorem SS (b:Bool):Cz (.bool b)=.bool b:=nr rfl
@[simp] theorem Zv (cs:List AV):ui (.box cs)=.box (ml cs):=nr rfl
@[simp] theorem Xh (e:TypeId) (rows:List (List PV)):ui (.arr e rows)=.arr e rows:=nr rfl
@[simp] theorem wk_eq (vs':List (Nat×AV)) (os':List (Nat×AO)):wk P ad ⟨look vs,ab os⟩ ⟨vs',os'⟩=(OI ad ⟨look vs,ab os⟩ os' vs'∧Pp P ad ⟨look vs,ab os⟩ os' os'):=nr rfl
@[simp] theorem wkV_nil (os':List (Nat×AO)):OI ad ⟨look vs,ab os⟩ os' []=True:=nr rfl
@[simp] theorem Uy (os':List (Nat×AO)) (s:Nat) (v:AV) (l:List (Nat×AV)):OI ad ⟨look vs,ab os⟩ os' ((s,v)::l)=((v=.ak∨(look vs s=v∧mm os' v)∨(∃t,v=.own t∧ad.contains t=true∧aG (ab os') t∧look vs s=.pv .nil))∧OI ad ⟨look vs,ab os⟩ os' l):=nr rfl
@[simp] theorem wkO_nil (os':List (Nat×AO)):Pp P ad ⟨look vs,ab os⟩ os' []=True:=nr rfl
@[simp] theorem Yc (os':List (Nat×AO)) (t:Nat) (o:AO) (l:List (Nat×AO)):Pp P ad ⟨look vs,ab os⟩ os' ((t,o)::l)=(((ab os t=some o∧ad.contains t=false∧wJ os' o)∨(∃e,o=.arr e []∧ad.contains t=true∧ab os t=none∧(P.info? e).isSome=true∧t%1000≠999))∧Pp P ad ⟨look vs,ab os⟩ os' l):=nr rfl
@[simp] theorem Th (f:FuncId) (cs:List AV):mm os (.bZ f cs)=gx os cs:=nr rfl
@[simp] theorem ZG (p:PV):mm os (.pv p)=True:=nr rfl
@[simp] theorem aad (p:List PV):mm os (.rp p)=True:=nr rfl
@[simp] theorem SC (t:Nat):mm os (.own t)=aG (ab os) t:=nr rfl
@[simp] theorem QW (t o:Nat):mm os (.ptr t o)=aG (ab os) t:=nr rfl
@[simp] theorem Zi (p:PV):jS os (.pv p)=True:=nr rfl
@[simp] theorem TH (p:List PV):jS os (.rp p)=True:=nr rfl
@[simp] theorem RB (t:Nat):jS os (.own t)=aG (ab os) t:=nr rfl
@[simp] theorem Pq:gx os []=True:=nr rfl
@[simp] theorem KS (c:AV) (cs:List AV):gx os (c::cs)=(jS os c∧gx os cs):=nr rfl
@[simp] theorem Qf (cs:List AV):wJ os (.box cs)=gx os cs:=nr rfl
@[simp] theorem Rf (e:TypeId) (rows:List (List PV)):wJ os (.arr e rows)=True:=nr rfl
@[simp] theorem RG (es:List (PV×AV)):wJ os (.map es)=True:=nr rfl
@[simp] theorem dom_nil (t:Nat):aG (ab []) t=False:=by
 apply propext;constructor;·rintro⟨o,h⟩;cases h
 ·exact False.elim
@[simp] theorem XM (s t:Nat) (o:AO) (l:List (Nat×AO)):aG (ab ((s,o)::l)) t=(t=s∨aG (ab l) t):=by apply propext;unfold aG;simp only[BQ];by_cases h:t=s<;>simp[h]
end
@[simp↓] theorem Ol {P:Program}{Γ:bR}{d:Nat}{f:FuncId}{xs:List AV}{aa:Nat→Option AO}{C:bE→Prop}:cH P Γ (some d) f xs aa C=(an xs∧ai (fC aa (xs.map strip)) fun ys=>ai (gt Γ f ys) fun x=>x.1∧(eR (xs.map strip)=true∨qP x.2)∧(∀y∈jU d x.2,aa y.1=none)∧Bf d x.2=true∧C (.new (Ag d x.2) (jU d x.2))):=rfl
def aR (P:Program) (f:FuncId) (G:List AV→Option (Prop×AV)):Prop:=∀ys φ r,G ys=some (φ,r)→φ→u9 P f [] ys [] r
def tab:List (FuncId×(List AV→Option (Prop×AV)))→bR|[]=>fun _ _=>none|x::l=>fun g ys=>if g=x.1 then x.2 ys else tab l g ys
theorem aj {P:Program}:dS P (tab []):=fun _ _ _ _ h=>by cases h
def Ca (p k:Nat) (G:List AV→Option (Prop×AV)) (ys:List AV):Option (Prop×AV):=match ys with|[.ak]=>some (True,.ptr p k)|ys=>G ys
def Du (P:Program) (f:FuncId) (G:List AV→Option (Prop×AV)):Prop:=∀ys φ r,G ys=some (φ,r)→φ→CT P f ys r
theorem qj {P:Program}{f p k:Nat}{G:List AV→Option (Prop×AV)}{l:List (FuncId×(List AV→Option (Prop×AV)))} (h:Du P f G) (hP:Nat.ble P.funcs.size 1000000=true) (hl:dS P (tab l)) (hf:Nat.blt f 1000000=true:=by rfl):dS P (tab ((f+1000000,Ca p k G)::l)):=by
 intro g ys φ r hg hφ;simp only[tab]at hg;split at hg
 ·rename_i e;refine .inr (.inl ⟨Nat.le_of_ble_eq_true hP,by rw[e];exact Nat.le_add_left _ _,by rw[e];exact Nat.add_lt_add_right (Nat.le_of_ble_eq_true hf) 1000000,?_⟩);unfold Ca at hg;split at hg;·exact .inl rfl
  ·right;rw[show g-1000000=f from by rw[e];exact Nat.add_sub_cancel _ _];exact h ys φ r hg hφ
 ·exact hl g ys φ r hg hφ
theorem af {P:Program}{f:FuncId}{G:List AV→Option (Prop×AV)}{l:List (FuncId×(List AV→Option (Prop×AV)))} (h:aR P f G) (hl:dS P (tab l)) (hf:Nat.blt f 1000000=true:=by rfl):dS P (tab ((f,G)::l)):=by
 intro g ys φ r hg hφ;simp only[tab]at hg;split at hg;·rename_i e;subst e;exact .inl ⟨Nat.le_of_ble_eq_true hf,h ys φ r hg hφ⟩
 ·exact hl g ys φ r hg hφ
theorem pS {P:Program}{f:FuncId}{ks:List Nat}{G:List AV→Option (Prop×AV)}{l:List (FuncId×(List AV→Option (Prop×AV)))} (h:Df P f G) (hP:Nat.ble P.funcs.size 1000000=true) (hl:dS P (tab l)) (hf:Nat.blt f 1000000=true:=by rfl):dS P (tab ((f+1000000,Ca 0 996 fun _=>none)::(f+2000000,JX ks G)::l)):=by
 intro g ys φ r hg hφ;simp only[tab]at hg;split at hg
 ·rename_i e;refine .inr (.inl ⟨Nat.le_of_ble_eq_true hP,by rw[e];exact Nat.le_add_left _ _,by rw[e];exact Nat.add_lt_add_right (Nat.le_of_ble_eq_true hf) 1000000,?_⟩);unfold Ca at hg;split at hg;·exact .inl rfl
  ·cases hg
 ·split at hg
  ·rename_i e;refine .inr (.inr (.inl ⟨Nat.le_of_ble_eq_true hP,by rw[e];exact Nat.le_add_left _ _,by rw[e];exact Nat.add_lt_add_right (Nat.le_of_ble_eq_true hf) 2000000,?_⟩));unfold JX at hg;split at hg;·exact .inl rfl
   ·right;rw[show g-2000000=f from by rw[e];exact Nat.add_sub_cancel _ _];exact h ys φ r hg hφ
  ·exact hl g ys φ r hg hφ
@[simp] theorem UZ (f:FuncId) (ys:List AV):tab [] f ys=none:=nr rfl
@[simp] theorem Ts (p k:Nat) (G:List AV→Option (Prop×AV)):Ca p k G [.ak]=some (True,.ptr p k):=nr rfl
@[simp] theorem tabU_fr (p k:Nat) (G:List AV→Option (Prop×AV)) (e:TypeId) (rows:List (List PV)) (l:List AV):Ca p k G (.fr e rows::l)=G (.fr e rows::l):=nr rfl
@[simp] theorem tabU_pv (p k:Nat) (G:List AV→Option (Prop×AV)) (q:PV) (l:List AV):Ca p k G (.pv q::l)=G (.pv q::l):=nr rfl
@[simp] theorem Up (f g:FuncId) (G:List AV→Option (Prop×AV)) (l:List (FuncId×(List AV→Option (Prop×AV)))) (ys:List AV):tab ((f,G)::l) g ys=if g=f then G ys else tab l g ys:=nr rfl
end Go.Proofs.YtifcndkhigakfaaGreat.Ab.R
namespace Go.Proofs.YtifcndkhigakfaaGreat.Ab
open Go Go.RowKit
abbrev AI.a (d:Nat) (k:AK) (xs:List Operand):AI:=⟨some d,k,xs,none,[],none⟩
abbrev AI.s (k:AK) (xs:List Operand):AI:=⟨none,k,xs,none,[],none⟩
abbrev AI.m (d t:Nat):AI:=⟨some d,.nX,[.tmp t],none,[],none⟩
abbrev AI.b (d:Nat) (k:AK) (xs:List Operand) (g:Nat) (b:Bool):AI:=⟨some d,k,xs,some (g,b),[],none⟩
abbrev AI.pa (d x y:Nat):AI:=⟨some d,.pick,[.tmp x,.tmp y,.const (.bool false)],none,[],none⟩
abbrev AI.u (d:Nat) (k:AK) (t:Nat):AI:=⟨some d,k,[.tmp t],none,[],none⟩
abbrev AI.w (d:Nat) (k:AK) (t u:Nat):AI:=⟨some d,k,[.tmp t,.tmp u],none,[],none⟩
abbrev AI.c (d:Nat) (k:AK) (t:Nat) (n:Int):AI:=⟨some d,k,[.tmp t,.const (.int .i64 n)],none,[],none⟩
end Go.Proofs.YtifcndkhigakfaaGreat.Ab
namespace Go.Proofs.YtifcndkhigakfaaGreat.Ab.R
open Go Go.RowKit
theorem wrap_i64 {x:Int} (h:-9223372036854775808≤x∧x≤9223372036854775807):IntKind.i64.wrap x=x:=by simp only[IntKind.wrap,IntKind.bits,IntKind.signed];simp;omega
theorem wrap_u64 {x:Int} (h:0≤x∧x≤18446744073709551615):IntKind.u64.wrap x=x:=by simp only[IntKind.wrap,IntKind.bits,IntKind.signed];simp;omega
theorem wrap_u8 (x:Int):IntKind.u8.wrap x=x%256:=by simp only[IntKind.wrap,IntKind.bits,IntKind.signed];simp
@[simp] theorem R7:df none=none:=rfl
@[simp] theorem YI (cs:List AV):df (some (.box cs))=none:=rfl
@[simp] theorem Xv (k:IntKind) (n:Int):(Value.int k n).oneCell'=true:=rfl
@[simp] theorem SD (b:Bool):(Value.bool b).oneCell'=true:=rfl
@[simp] theorem XR (s:ByteArray):(Value.string s).oneCell'=true:=rfl
@[simp] theorem Ux (a:Option Addr):(Value.pointer a).oneCell'=true:=rfl
@[simp] theorem ML (a:Option Addr) (n c:Nat):(Value.slice a n c).oneCell'=true:=rfl
@[simp] theorem JQ:bytesRow []=[]:=rfl
@[simp] theorem FB (l:List UInt8):(bytesRow l).length=l.length:=by simp[bytesRow]
theorem aM (l m:List UInt8):bytesRow (l++m)=bytesRow l++bytesRow m:=by simp[bytesRow]
@[simp] theorem aL (l:List UInt8):∀r∈bytesRow l,r.length=1:=by intro r hr;simp only[bytesRow,List.mem_map]at hr;obtain⟨c,_,rfl⟩:=hr;rfl
theorem vu (c:UInt8) (l:List UInt8):bytesRow (c::l)=[.int .u8 (c.toNat:Int)]::bytesRow l:=rfl
theorem bytesRow_at {l:List UInt8}{i:Nat} (h:i<l.length):rowAt (bytesRow l) (i:Int)=[.int .u8 (l[i].toNat:Int)]:=by simp[rowAt,bytesRow,h]
@[simp] theorem ET (l:List UInt8):bytesOf (bytesRow l)=some l:=by induction l with|nil=>rfl|cons c l ih=>
 have hc:byteOf [.int .u8 (c.toNat:Int)]=some c:=by have:=c.toNat_lt;unfold byteOf;simp;omega
 rw[vu];simp only[bytesOf,hc,ih,Option.map_some,Option.bind_some]
theorem aw:maxLen=9223372036854775807:=rfl
end Go.Proofs.YtifcndkhigakfaaGreat.Ab.R
namespace Go.Proofs.YtifcndkhigakfaaGreat.Ab.R
open Go Go.RowKit
open Classical in noncomputable def dec {α:Type} (f:α→List PV) (rows:List (List PV)):Option (List α):=if h:∃l:List α,l.map f=rows then some h.choose else none
theorem map_inj {α β:Type}{f:α→β} (hf:∀a b,f a=f b→a=b):∀{l m:List α},l.map f=m.map f→l=m|[],[],_=>rfl|[],_::_,h=>by simp at h|_::_,[],h=>by simp at h|a::l,b::m,h=>by simp only[List.map_cons,List.cons.injEq]at h;rw[hf _ _ h.1,map_inj hf h.2]
theorem ld {α:Type}{f:α→List PV} (hf:∀a b,f a=f b→a=b) (l:List α):dec f (l.map f)=some l:=by unfold dec;have h:∃m:List α,m.map f=l.map f:=⟨l,rfl⟩;rw[dif_pos h];exact congrArg some (map_inj hf h.choose_spec)
theorem kF {α:Type}{f:α→List PV}{rows:List (List PV)}{l:List α} (h:dec f rows=some l):rows=l.map f:=by
 unfold dec at h;split at h;·rename_i h';simp only[Option.some.injEq]at h;rw[←h];exact h'.choose_spec.symm
 ·cases h
def di (c:UInt8):List PV:=[.int .u8 (c.toNat:Int)]
theorem Ev:∀a b,di a=di b→a=b:=by intro a b h;simp only[di,List.cons.injEq,PV.int.injEq,true_and,and_true]at h;exact UInt8.toNat_inj.1 (by omega)
@[simp] theorem Rt (l:List UInt8):dec di (bytesRow l)=some l:=ld Ev l
@[simp] theorem dec_nil {α:Type} (f:α→List PV):dec f []=some []:=by unfold dec;have h:∃m:List α,m.map f=[]:=⟨[],rfl⟩;rw[dif_pos h];have:=h.choose_spec;simpa using this
theorem aE {rows:List (List PV)}{l:List UInt8} (h:dec di rows=some l):rows=bytesRow l:=kF h
end Go.Proofs.YtifcndkhigakfaaGreat.Ab.R
namespace Go.Proofs.YtifcndkhigakfaaGreat.Ab
open Go Go.RowKit R
def bp (n:Nat):List UInt8:=if h:n<128 then[n.toUInt8] else(n%128+128).toUInt8::bp (n/128) termination_by n decreasing_by omega
def bd (n:Int):List UInt8:=bp n.toNat
theorem cj {n:Nat} (h:n<128):bp n=[n.toUInt8]:=by rw[bp,dif_pos h]
theorem eZ {n:Nat} (h:¬n<128):bp n=(n%128+128).toUInt8::bp (n/128):=by rw[bp,dif_neg h]
theorem P2 (m:Nat):fS .or .u8 ((m:Int)%256) 128=.int .u8 (((m%128+128).toUInt8.toNat:Nat):Int):=by
 have key:∀x:Fin 256,IntKind.u8.wrap ((BitVec.ofInt IntKind.u8.bits (x.val:Int)|||BitVec.ofInt IntKind.u8.bits 128).toNat:Nat)=(((x.val%128+128).toUInt8.toNat:Nat):Int):=by decide+kernel
 have h:=key ⟨m%256,by omega⟩;have e1:(m:Int)%256=((m%256:Nat):Int):=by omega
 have e2:m%256%128=m%128:=by omega
 rw[e1];simp only[e2]at h;unfold fS;exact congrArg _ h
def H2:List AV→Option (Prop×AV)|[.pv (.int .u64 n)]=>some (0≤n∧n≤18446744073709551615,.fr 5 (bytesRow (bd n)))|_=>none
@[simp] theorem Ju (n:Int):H2 [.pv (.int .u64 n)]=some (0≤n∧n≤18446744073709551615,.fr 5 (bytesRow (bd n))):=rfl
theorem xw:aR Tryz.prog 65 H2:=by
 intro ys φ r h hφ;unfold H2 at h;split at h
 ·rename_i N;cases h;obtain⟨n,rfl⟩:=Int.eq_ofNat_of_zero_le hφ.1;have hn:n≤18446744073709551615:=by omega
  refine aq aj (by kernel_rfl) (by conv=>lhs;reduce) (by simp) ?_;simp;refine au (fun x:Nat×List UInt8=>x.2++bp x.1=bp n∧x.1≤18446744073709551615∧(x.2.length≤10∧x.1*128^x.2.length≤n)) (fun x=>⟨[(0,.pv (.int .u64 x.1)),(3,.own 3)],[(3,.arr 5 (bytesRow x.2))]⟩) (fun x=>x.1) [] (n,[]) ?_ ?_ ?_;·simp[hn]
  ·simp
  ·rintro⟨m,acc⟩ ⟨h1,h2,h3,h4⟩;dsimp only at h1 h2 h3 h4;simp[wrap_u8,-Int.emod_emod_of_dvd,aw];rw[P2];refine⟨fun hm=>⟨by omega,m/128,acc++[(m%128+128).toUInt8],⟨?_,by omega,?_,?_⟩,⟨?_,?_⟩,by omega⟩,fun hm=>⟨by omega,?_⟩⟩;·rw[←h1,eZ (n:=m) (by omega)];simp
   ·simp only[List.length_append,List.length_singleton];have:¬9≤acc.length:=by intro h9;have h128:128^9≤128^acc.length:=Nat.pow_le_pow_right (by decide) h9;have:128*128^acc.length≤m*128^acc.length:=Nat.mul_le_mul_right _ (by omega);omega
    omega
   ·simp only[List.length_append,List.length_singleton,Nat.pow_succ];refine Nat.le_trans ?_ h4;have:m/128*128≤m:=by omega
    calc m/128*(128^acc.length*128)=(m/128*128)*128^acc.length:=by rw[Nat.mul_comm (128^acc.length) 128,Nat.mul_assoc]
     _≤m*128^acc.length:=Nat.mul_le_mul_right _ this
   ·simp[IntKind.bits,Int.fdiv_eq_ediv_of_nonneg]
   ·rw[aM];rfl
   ·rw[bd,Int.toNat_natCast,←h1,cj (n:=m) (by omega),aM];simp[bytesRow]
 ·cases h
theorem uc (n:Nat):1≤(bp n).length:=by rw[bp];split<;>simp
theorem tw:∀(k n:Nat),n<128^(k+1)→(bp n).length≤k+1
 |0,n,h=>by rw[cj (by simpa using h)];simp|k+1,n,h=>by
  by_cases h1:n<128;·rw[cj h1];simp
  ·rw[eZ h1];have:n/128<128^(k+1):=by rw[Nat.div_lt_iff_lt_mul (by decide)];rw[Nat.pow_succ]at h;exact h
   have:=tw k (n/128) this;simp;omega
theorem ed {n:Nat} (h:n≤18446744073709551615):(bp n).length≤10:=tw 9 n (by omega)
@[simp] def DE:List AV→Option (Prop×AV)|[.pv (.int .u64 n)]=>some (0≤n∧n≤18446744073709551615,.pv (.int .i64 (bd n).length))|_=>none
theorem H3:aR Tryz.prog 116 DE:=by
 intro ys φ r h hφ;unfold DE at h;split at h
 ·rename_i N;cases h;obtain⟨n,rfl⟩:=Int.eq_ofNat_of_zero_le hφ.1;have hn:n≤18446744073709551615:=by omega
  have hl:=ed hn;refine aq aj (by kernel_rfl) (by conv=>lhs;reduce) (by simp) ?_;simp;refine au (fun x:Nat×Nat=>x.2+(bp x.1).length=(bp n).length+1∧x.1≤18446744073709551615) (fun x=>⟨[(0,.pv (.int .u64 x.1)),(3,.pv (.int .i64 x.2))],[]⟩) (fun x=>x.1) [] (n,1) ?_ ?_ ?_;·simp[hn];omega
  ·simp
  ·rintro⟨m,k⟩ ⟨h1,h2⟩;dsimp only at h1 h2;have hl2:=uc m;simp(disch:=omega) [wrap_i64,wrap_u64];refine⟨fun hm=>⟨m/128,k+1,⟨?_,by omega⟩,⟨by omega,by omega⟩,by omega⟩,fun hm=>?_⟩;·rw[eZ (n:=m) (by omega)]at h1;simp at h1;omega
   ·rw[cj (n:=m) (by omega)]at h1;simp at h1;rw[bd,Int.toNat_natCast];omega
 ·cases h
theorem Kr (m:Nat) (h:m<128):(m.toUInt8.toNat:Int)=m:=by
 have:m.toUInt8.toNat=m:=by simp[Nat.toUInt8];omega
 omega
theorem Gs (m:Nat) (h:m<256):(m.toUInt8.toNat:Int)=m:=by
 have:m.toUInt8.toNat=m:=by simp[Nat.toUInt8];omega
 omega
theorem nD:aR Tryz.prog 68 H2:=by
 intro ys φ r h hφ;unfold H2 at h;split at h
 ·rename_i N;cases h;obtain⟨n,rfl⟩:=Int.eq_ofNat_of_zero_le hφ.1;have hn:n≤18446744073709551615:=by omega
  have hl:=ed hn;have hl1:=uc n;refine aq (af H3 aj) (by kernel_rfl) (by conv=>lhs;reduce) (by simp) ?_;simp[bd];refine⟨by omega,?_⟩;refine au (fun x:Nat×List UInt8=>x.2++(if x.2.length<(bp n).length then bp x.1 else[])=bp n∧x.1≤18446744073709551615∧x.2.length≤(bp n).length) (fun x=>⟨[(0,.pv (.int .u64 x.1)),(3,.own 3),(4,.pv (.int .i64 (bp n).length)),(5,.pv (.int .i64 x.2.length))],[(3,.arr 5 (bytesRow x.2))]⟩) (fun x=>(bp n).length-x.2.length) [] (n,[]) ?_ ?_ ?_;·refine⟨?_,hn,by simp⟩;rw[if_pos (by simp only[List.length_nil];omega),List.nil_append]
  ·simp
  ·rintro⟨m,acc⟩ ⟨h1,h2,h3⟩;dsimp only at h1 h2 h3;have w1:IntKind.i64.wrap ((acc.length:Int)+1)=(acc.length:Int)+1:=wrap_i64 (by omega);have w2:IntKind.u8.wrap ((m:Int)%128)=(m:Int)%128:=by rw[wrap_u8];omega
   have w3:IntKind.u8.wrap ((m:Int)%128+128)=(m:Int)%128+128:=by rw[wrap_u8];omega
   have w4:IntKind.u64.wrap ((m:Int)/128)=(m:Int)/128:=wrap_u64 (by omega);have w5:(m:Int).tmod 128=(m:Int)%128:=Int.tmod_eq_emod_of_nonneg (by omega);by_cases hlt:acc.length<(bp n).length
   ·rw[if_pos hlt]at h1;have hlen:acc.length+(bp m).length=(bp n).length:=by rw[←h1];simp
    by_cases hm:m<128
    ·have hv:=cj hm;rw[hv]at h1 hlen;simp at hlen;simp[w1,w2,w3,w4,w5,hlt,aw];refine⟨fun h=>by omega,fun h=>⟨by omega,m/128,acc++[m.toUInt8],⟨?_,by omega,by simp;omega⟩,⟨⟨by omega,by simp⟩,?_⟩,by simp;omega⟩⟩;·rw[if_neg (by simp;omega),List.append_nil];exact h1
     ·rw[aM];simp only[bytesRow,List.map_cons,List.map_nil];rw[Kr m hm];have:(m:Int)%128=m:=by omega
      rw[this]
    ·have hv:=eZ hm;have hl2:=uc (m/128);rw[hv]at h1 hlen;simp at hlen;simp[w1,w2,w3,w4,w5,hlt,aw];refine⟨fun h=>⟨by omega,m/128,acc++[(m%128+128).toUInt8],⟨?_,by omega,by simp;omega⟩,⟨⟨by omega,by simp⟩,?_⟩,by simp;omega⟩,fun h=>by omega⟩;·rw[if_pos (by simp;omega)];simpa using h1
     ·rw[aM];simp only[bytesRow,List.map_cons,List.map_nil];rw[Gs (m%128+128) (by omega)];simp
   ·rw[if_neg hlt,List.append_nil]at h1;simp[hlt];rw[h1]
 ·cases h
def dq (s:List UInt8):List UInt8:=bp s.length++s
@[simp] def DI:List AV→Option (Prop×AV)|[.pv (.str s)]=>some (s.length≤1000000,.fr 5 (bytesRow (dq s)))|_=>none
theorem Cb:aR Tryz.prog 107 DI:=by
 intro ys φ r h hφ;unfold DI at h;split at h;·rename_i s;cases h;refine aq (af xw aj) (by kernel_rfl) (by conv=>lhs;reduce) (by simp) ?_;have hl:=ed (n:=s.length) (by omega);have w1:IntKind.u64.wrap (s.length:Int)=(s.length:Int):=wrap_u64 (by omega);simp[w1,bd,aw,dq,aM];exact⟨by omega,by omega,by omega,aL s⟩
 ·cases h
theorem xL:aR Tryz.prog 70 DI:=by
 intro ys φ r h hφ;unfold DI at h;split at h
 ·rename_i s;cases h;refine aq (af nD aj) (by kernel_rfl) (by conv=>lhs;reduce) (by simp) ?_;have hl:=ed (n:=s.length) (by omega);have w1:IntKind.u64.wrap (s.length:Int)=(s.length:Int):=wrap_u64 (by omega);simp[w1,bd];refine⟨by omega,?_⟩;refine au (fun i:Nat=>i≤s.length) (fun i=>⟨[(0,.pv (.str s)),(3,.own 8),(4,.pv (.int .i64 i))],[(8,.arr 5 (bytesRow (bp s.length++s.take i)))]⟩) (fun i=>s.length-i) [] 0 (by omega) ?_ ?_;·simp
  ·intro i hi;have w2:IntKind.i64.wrap ((i:Int)+1)=(i:Int)+1:=wrap_i64 (by omega);by_cases hlt:i<s.length;·simp[w2,hlt,aw];refine⟨by omega,i+1,by omega,⟨by omega,?_⟩,by omega⟩;rw[List.take_succ_eq_append_getElem hlt,←List.append_assoc,aM _ [s[i]]];rfl
   ·simp[hlt];rw[List.take_of_length_le (by omega)];rfl
 ·cases h
@[simp] noncomputable def GJ:List AV→Option (Prop×AV)|[.pv (.ro a),.pv (.ro b)]=>(dec di a).bind fun la=>(dec di b).map fun lb=>(la.length≤1000000000,.pv (.bool (decide (la=lb))))|_=>none
theorem DV:aR Tryz.prog 14 GJ:=by
 intro ys φ r h hφ;unfold GJ at h;split at h
 ·rename_i ra rb;obtain⟨a,ha,h⟩:=Option.bind_eq_some_iff.1 h;obtain⟨b,hb,h⟩:=Option.map_eq_some_iff.1 h;cases h;cases aE ha;cases aE hb;refine aq aj (by kernel_rfl) (by conv=>lhs;reduce) (by simp) ?_;simp;refine⟨fun hne=>?_,fun hlen=>?_⟩;·intro e;exact hne (by rw[e])
  refine au (fun i:Nat=>i≤a.length∧a.take i=b.take i) (fun i=>⟨[(0,.pv (.ro (bytesRow a))),(1,.pv (.ro (bytesRow b))),(5,.pv (.int .i64 i))],[]⟩) (fun i=>a.length-i) [] 0 (by simp) ?_ ?_;·simp
  ·rintro i ⟨hi,ht⟩;have w2:IntKind.i64.wrap ((i:Int)+1)=(i:Int)+1:=wrap_i64 (by omega);by_cases hlt:i<a.length
   ·have r1:=R.bytesRow_at hlt;have hlb:i<b.length:=by omega
    have r2:=R.bytesRow_at hlb;simp[w2,hlt,hlb,r1,r2];refine⟨fun hne e=>hne (by subst e;rfl),fun heq=>⟨i+1,⟨by omega,?_⟩,by omega,by omega⟩⟩;rw[List.take_succ_eq_append_getElem hlt,List.take_succ_eq_append_getElem hlb,ht];congr 2;exact UInt8.toNat_inj.1 (by omega)
   ·simp[hlt];rw[List.take_of_length_le (by omega),List.take_of_length_le (by omega)]at ht;exact ht
 ·cases h
def bL:List UInt8→Nat→Nat→Nat×Nat×Int|[],_,_=>(0,0,10)|c::l,i,n=>if(i=9∧1<c.toNat)∨(c.toNat=0∧0<i) then(0,0,11) else if c.toNat<128 then(n+c.toNat%128*2^(7*i),i+1,0) else bL l (i+1) (n+c.toNat%128*2^(7*i))
def ah (b:List UInt8) (p:Int):Int×Int×Int:=if p<0∨(b.length:Int)≤p then(0,p,10) else(((bL (b.drop p.toNat) 0 0).1:Int),p+((bL (b.drop p.toNat) 0 0).2.1:Int),(bL (b.drop p.toNat) 0 0).2.2)
theorem rl:∀(l:List UInt8) (i n:Nat),i≤9→n<2^(7*i)→(bL l i n).1<2^64∧(bL l i n).2.1≤i+l.length∧((bL l i n).2.2=0→i<(bL l i n).2.1)∧((bL l i n).2.2≠0→(bL l i n).1=0∧(bL l i n).2.1=0)∧((bL l i n).2.2=0∨(bL l i n).2.2=10∨(bL l i n).2.2=11)
 |[],i,n,hi,hn=>by simp[bL]|c::l,i,n,hi,hn=>by
  unfold bL;have hc:=c.toNat_lt;have hcm:c.toNat%128≤127:=by omega
  have h1:n+c.toNat%128*2^(7*i)<2^(7*(i+1)):=by have:c.toNat%128*2^(7*i)≤127*2^(7*i):=Nat.mul_le_mul_right _ hcm;rw[Nat.mul_add,Nat.pow_add];omega
  split;·simp
  ·rename_i h0;split
   ·refine⟨?_,by simp,by simp,by simp,by simp⟩;dsimp only;by_cases h9:i=9
    ·subst h9;have hc1:c.toNat≤1:=by omega
     have:c.toNat%128*2^(7*9)≤1*2^(7*9):=Nat.mul_le_mul_right _ (by omega);omega
    ·have:2^(7*(i+1))≤2^63:=Nat.pow_le_pow_right (by decide) (by omega);omega
   ·rename_i hbig;have hi8:i≤8:=by omega
    obtain⟨a1,a2,a3,a4⟩:=rl l (i+1) _ (by omega) h1;refine⟨a1,?_,fun h=>?_,a4⟩;·simp only[List.length_cons];omega
    ·have:=a3 h;omega
theorem CR (c:UInt8):fS .andNot .u8 (c.toNat:Int) 128=.int .u8 ((c.toNat%128:Nat):Int):=by
 have key:∀x:Fin 256,IntKind.u8.wrap ((BitVec.ofInt IntKind.u8.bits (x.val:Int)&&&~~~BitVec.ofInt IntKind.u8.bits 128).toNat:Nat)=((x.val%128:Nat):Int):=by decide+kernel
 have h:=key ⟨c.toNat,c.toNat_lt⟩;unfold fS;exact congrArg _ h
theorem PJ {n m i:Nat} (hn:n<2^(7*i)) (hm:n+m*2^(7*i)<2^64):fS .or .u64 (n:Int) ((m:Int)*2^(7*i))=.int .u64 ((n+m*2^(7*i):Nat):Int):=by
 have e1:((m:Int)*2^(7*i))=((m*2^(7*i):Nat):Int):=by simp
 have hn64:n<2^64:=by omega
 have hm64:m*2^(7*i)<2^64:=by omega
 have h1:(BitVec.ofInt 64 (n:Int)).toNat=n:=by rw[BitVec.ofInt_natCast,BitVec.toNat_ofNat,Nat.mod_eq_of_lt hn64]
 have h2:(BitVec.ofInt 64 ((m*2^(7*i):Nat):Int)).toNat=m*2^(7*i):=by rw[BitVec.ofInt_natCast,BitVec.toNat_ofNat,Nat.mod_eq_of_lt hm64]
 have h3:n|||m*2^(7*i)=n+m*2^(7*i):=by rw[Nat.or_comm,←Nat.shiftLeft_eq,←Nat.shiftLeft_add_eq_or_of_lt hn,Nat.add_comm]
 rw[e1];unfold fS;have h4:(BitVec.ofInt IntKind.u64.bits (n:Int)|||BitVec.ofInt IntKind.u64.bits ((m*2^(7*i):Nat):Int)).toNat=n+m*2^(7*i):=by show(BitVec.ofInt 64 (n:Int)|||BitVec.ofInt 64 ((m*2^(7*i):Nat):Int)).toNat=_;rw[BitVec.toNat_or,h1,h2,h3]
 simp only[h4];refine congrArg _ ?_;exact wrap_u64 (by omega)
def val:List UInt8→Nat|[]=>0|c::l=>c.toNat%128+128*val l
theorem pj (l:List UInt8) (c:UInt8):val (l++[c])=val l+c.toNat%128*2^(7*l.length):=by induction l with|nil=>simp[val]|cons x l ih=>
 simp only[List.cons_append,val,ih,List.length_cons];have:2^(7*(l.length+1))=128*2^(7*l.length):=by rw[Nat.mul_add,Nat.pow_add];omega
 rw[this,Nat.mul_add,Nat.mul_left_comm];omega
theorem Oa (l:List UInt8):val l<2^(7*l.length):=by induction l with|nil=>simp[val]|cons x l ih=>
 simp only[val,List.length_cons];have:2^(7*(l.length+1))=128*2^(7*l.length):=by rw[Nat.mul_add,Nat.pow_add];omega
 omega
theorem sG:∀(l:List UInt8) (c:UInt8),(∀x∈l,128≤x.toNat)→c.toNat<128→(c.toNat≠0∨l=[])→bp (val (l++[c]))=l++[c]
 |[],c,_,hc,_=>by
  have:val ([]++[c])=c.toNat:=by simp[val];omega
  rw[this,cj hc];simp|x::l,c,hl,hc,h0=>by
  have hx:=hl x (by simp);have hx2:=x.toNat_lt;have h0:c.toNat≠0:=by rcases h0 with h|h;exact h;cases h
  have hv:0<val (l++[c]):=by rw[pj];have:0<c.toNat%128*2^(7*l.length):=Nat.mul_pos (by omega) (Nat.pow_pos (by decide));omega
  have ih:=sG l c (fun y hy=>hl y (by simp[hy])) hc (.inl h0);simp only[List.cons_append,val];rw[eZ (by omega),show(x.toNat%128+128*val (l++[c]))/128=val (l++[c]) from by omega,ih,show(x.toNat%128+128*val (l++[c]))%128+128=x.toNat from by omega];simp
theorem sk:∀(k n:Nat),n<2^(7*(k+1))→(bp n).length≤k+1
 |0,n,h=>by rw[cj (by simpa using h)];simp|k+1,n,h=>by
  by_cases hn:n<128;·rw[cj hn];simp
  ·rw[eZ hn];have:2^(7*(k+1+1))=128*2^(7*(k+1)):=by rw[Nat.mul_add 7 (k+1),Nat.pow_add];omega
   have:=sk k (n/128) (by omega);simp only[List.length_cons];omega
@[simp] noncomputable def zN:List AV→Option (Prop×AV)|[.pv (.ro b),.pv (.int .i64 p)]=>(dec di b).map fun l=>(l.length≤1000000000∧-9223372036854775808≤p∧p≤9223372036854775807,.aS [.pv (.int .u64 (ah l p).1),.pv (.int .i64 (ah l p).2.1),.pv (.int .i64 (ah l p).2.2)])|_=>none
theorem GA {n c i:Nat} (hn:n<2^(7*i)) (hc:c≤127):n+c*2^(7*i)<2^(7*(i+1)):=by have:c*2^(7*i)≤127*2^(7*i):=Nat.mul_le_mul_right _ hc;rw[Nat.mul_add,Nat.pow_add];omega
theorem wQ (l:List UInt8) (i:Nat):cut (bytesRow l) (i:Int) (l.length:Int)=bytesRow (l.drop i):=by have:List.take l.length (bytesRow l)=bytesRow l:=List.take_of_length_le (by simp[bytesRow]);unfold cut;rw[Int.toNat_natCast,Int.toNat_natCast,this];simp[bytesRow,List.map_drop]
theorem qi:aR Tryz.prog 79 zN:=by
 intro ys φ r h hφ;unfold zN at h;split at h
 ·rename_i rb p;obtain⟨b,hb,h⟩:=Option.map_eq_some_iff.1 h;cases h;cases aE hb;obtain⟨hl,hp1,hp2⟩:=hφ;refine aq aj (by kernel_rfl) (by conv=>lhs;reduce) (by simp) ?_;by_cases h0:p<0∨(b.length:Int)≤p
  ·have ht:ah b p=(0,p,10):=by unfold ah;rw[if_pos h0]
   by_cases hp0:p<0;·simp[hp0,ht]
   ·have hbp:(b.length:Int)≤p:=by omega
    simp[hp0,hbp,ht]
  ·obtain⟨q,rfl⟩:=Int.eq_ofNat_of_zero_le (show 0≤p by omega);have ht:ah b q=(((bL (b.drop q) 0 0).1:Int),(q:Int)+((bL (b.drop q) 0 0).2.1:Int),(bL (b.drop q) 0 0).2.2):=by unfold ah;rw[if_neg h0];rfl
   have hq0:¬(q:Int)<0:=by omega
   have hq1:¬(b.length:Int)≤q:=by omega
   have hq2:¬b.length≤q:=by omega
   have hc:=wQ b q;rw[ht];simp[hq0,hq1,hq2,hc];refine⟨⟨by omega,aL b⟩,?_⟩;generalize hD:b.drop q=D;have hDl:D.length+q=b.length:=by rw[←hD];simp;omega
   have hbD:(b.length:Int)-q=(D.length:Int):=by omega
   refine au (fun x:Nat×Nat=>x.1≤D.length∧x.1≤9∧x.2<2^(7*x.1)∧bL D 0 0=bL (D.drop x.1) x.1 x.2) (fun x=>⟨[(1,.pv (.int .i64 q)),(4,.pv (.int .u64 x.2)),(6,.pv (.int .i64 10)),(21,.pv (.ro (bytesRow D))),(22,.pv (.int .i64 D.length)),(23,.pv (.int .i64 x.1))],[]⟩) (fun x=>D.length-x.1) [] (0,0) ?_ ?_ ?_;·simp
   ·simp;omega
   ·rintro⟨i,n⟩ ⟨hi,hi9,hn,hG⟩;dsimp only at hi hi9 hn hG;have w1:IntKind.i64.wrap ((i:Int)+1)=(i:Int)+1:=wrap_i64 (by omega);have w2:IntKind.i64.wrap (7*(i:Int))=7*(i:Int):=wrap_i64 (by omega);have w3:IntKind.i64.wrap ((q:Int)+(i:Int))=(q:Int)+(i:Int):=wrap_i64 (by omega);have w4:IntKind.i64.wrap ((q:Int)+(i:Int)+1)=(q:Int)+(i:Int)+1:=wrap_i64 (by omega);by_cases hlt:i<D.length
    ·have r1:=R.bytesRow_at hlt;rw[List.drop_eq_getElem_cons hlt,bL]at hG;have hc:=D[i].toNat_lt;have ha:=CR D[i];simp[w1,w2,w3,w4,hlt,r1,ha];have hcm:D[i].toNat%128≤127:=by omega
     have hn':=GA hn hcm;have hor:∀hm:n+D[i].toNat%128*2^(7*i)<2^64,fS .or .u64 (n:Int) (IntKind.u64.wrap (IntKind.u64.wrap ((D[i].toNat:Int)%128)*2^min (7*(i:Int)).toNat IntKind.u64.bits))=.int .u64 ((n+D[i].toNat%128*2^(7*i):Nat):Int):=by
      intro hm;have e1:IntKind.u64.wrap ((D[i].toNat:Int)%128)=((D[i].toNat%128:Nat):Int):=by rw[wrap_u64 (by omega)];omega
      have e2:min (7*(i:Int)).toNat IntKind.u64.bits=7*i:=by
       have:(7*(i:Int)).toNat=7*i:=by omega
       rw[this];exact Nat.min_eq_left (show 7*i≤64 by omega)
      have e3:IntKind.u64.wrap (((D[i].toNat%128:Nat):Int)*2^(7*i))=((D[i].toNat%128:Nat):Int)*2^(7*i):=by
       have e4:(((D[i].toNat%128:Nat):Int)*2^(7*i))=((D[i].toNat%128*2^(7*i):Nat):Int):=by simp
       rw[e4];exact wrap_u64 (by omega)
      rw[e1,e2,e3];exact PJ hn hm
     have h63:i≤8→n+D[i].toNat%128*2^(7*i)<2^64:=fun h8=>by have:2^(7*(i+1))≤2^63:=Nat.pow_le_pow_right (by decide) (by omega);omega
     have h64:¬(i=9∧1<D[i].toNat)→n+D[i].toNat%128*2^(7*i)<2^64:=fun h=>by
      by_cases h9:i=9
      ·have hle:D[i].toNat%128*2^(7*i)≤1*2^(7*i):=Nat.mul_le_mul_right _ (by omega);have:2^(7*i)=2^63:=by rw[h9]
       omega
      ·exact h63 (by omega)
     have hA:(i=9∧1<D[i].toNat)∨(D[i].toNat=0∧0<i)→bL D 0 0=(0,0,11):=fun h=>by rw[hG,if_pos h]
     have hN:¬((i=9∧1<D[i].toNat)∨(D[i].toNat=0∧0<i))→bL D 0 0=if D[i].toNat<128 then(n+D[i].toNat%128*2^(7*i),i+1,0) else bL (D.drop (i+1)) (i+1) (n+D[i].toNat%128*2^(7*i)):=fun h=>by rw[hG,if_neg h]
     clear hG;generalize n+D[i].toNat%128*2^(7*i)=m at*;generalize D[i].toNat=c at*;refine⟨fun a1 a2=>⟨fun _ _=>?_,fun hx=>?_⟩,fun hx=>⟨fun b1 b2 b3=>?_,fun hy=>⟨by omega,fun h1=>?_,fun h2=>?_⟩⟩⟩;·rw[hA (.inl ⟨by omega,by omega⟩)];simp
     ·exfalso;have:=hx a1;omega
     ·rw[hA (.inr ⟨by omega,by omega⟩)];simp
     ·have hno:¬((i=9∧1<c)∨(c=0∧0<i)):=by
       rintro(⟨x,y⟩|⟨x,y⟩);·have:=hx (by omega);omega
       ·have:=hy h1 x;omega
      rw[hN hno,if_pos (by omega),hor (h64 fun h=>hno (.inl h))];exact⟨rfl,by simp;omega,rfl⟩
     ·have hno:¬((i=9∧1<c)∨(c=0∧0<i)):=by
       rintro(⟨x,y⟩|⟨x,y⟩);·have:=hx (by omega);omega
       ·omega
      have hi8:i≤8:=by
       have:¬i=9:=fun h=>by have:=hx (by omega);omega
       omega
      refine⟨i+1,m,⟨by omega,by omega,hn',?_⟩,⟨hor (h63 hi8),by omega⟩,by omega⟩;rw[hN hno,if_neg (by omega)]
    ·have hd:D.drop i=[]:=by rw[List.drop_eq_nil_iff];omega
     have he:bL D 0 0=(0,0,10):=by rw[hG,hd];rfl
     simp[w1,w2,hlt,he]
 ·cases h
theorem bT (b:List UInt8) (p:Int):((ah b p).2.2=0→0≤p∧p<(ah b p).2.1∧(ah b p).2.1≤b.length)∧0≤(ah b p).1∧(ah b p).1≤18446744073709551615∧((ah b p).2.2≠0→(ah b p).1=0∧(ah b p).2.1=p)∧((ah b p).2.2=0∨(ah b p).2.2=10∨(ah b p).2.2=11):=by
 unfold ah;split;·simp
 ·rename_i h0;obtain⟨h1,h2,h3,h4,h5⟩:=rl (b.drop p.toNat) 0 0 (by omega) (by simp);have hd:(b.drop p.toNat).length=b.length-p.toNat:=by simp
  rw[hd]at h2;dsimp only;refine⟨fun h=>?_,by omega,by omega,fun h=>?_,h5⟩;·have:=h3 h;omega
  ·have:=h4 h;omega
theorem L9 (l:List UInt8) (i j:Int):cut (bytesRow l) i j=bytesRow ((l.take j.toNat).drop i.toNat):=by simp[cut,bytesRow,List.map_drop,List.map_take]
def ay (b:List UInt8) (p:Int):List UInt8×Int×Int:=if(ah b p).2.2≠0 then([],p,(ah b p).2.2) else if(b.length:Int)-(ah b p).2.1<(ah b p).1 then([],p,10) else((b.drop (ah b p).2.1.toNat).take (ah b p).1.toNat,(ah b p).2.1+(ah b p).1,0)
@[simp] noncomputable def yE:List AV→Option (Prop×AV)|[.pv (.ro b),.pv (.int .i64 p)]=>(dec di b).map fun l=>(l.length≤1000000000∧-9223372036854775808≤p∧p≤9223372036854775807,.aS [.pv (.str (ay l p).1),.pv (.int .i64 (ay l p).2.1),.pv (.int .i64 (ay l p).2.2)])|_=>none
theorem yx:aR Tryz.prog 80 yE:=by
 intro ys φ r h hφ;unfold yE at h;split at h
 ·rename_i rb p;obtain⟨b,hb,h⟩:=Option.map_eq_some_iff.1 h;cases h;cases aE hb;obtain⟨hl,hp1,hp2⟩:=hφ;refine aq (af qi aj) (by kernel_rfl) (by conv=>lhs;reduce) (by simp) ?_;obtain⟨k1,k2,k3,k4,k5⟩:=bT b p;have hT:ay b p=if(ah b p).2.2≠0 then([],p,(ah b p).2.2) else if(b.length:Int)-(ah b p).2.1<(ah b p).1 then([],p,10) else((b.drop (ah b p).2.1.toNat).take (ah b p).1.toNat,(ah b p).2.1+(ah b p).1,0):=rfl;generalize ay b p=T at*;obtain⟨n,q,e,hL⟩:∃n q e,ah b p=(n,q,e):=⟨_,_,_,rfl⟩;rw[hL]at k1 k2 k3 k4 k5 hT;dsimp only at k1 k2 k3 k4 k5 hT;by_cases he:e=0
  ·obtain⟨j1,j2,j3⟩:=k1 he;subst he;have w1:IntKind.i64.wrap ((b.length:Int)-q)=(b.length:Int)-q:=wrap_i64 (by omega);have w2:IntKind.u64.wrap ((b.length:Int)-q)=(b.length:Int)-q:=wrap_u64 (by omega);by_cases hgt:(b.length:Int)-q<n;·rw[if_neg (by simp),if_pos hgt]at hT;subst hT;simp[hl,hp1,hp2,hL,w1,w2,hgt]
   ·rw[if_neg (by simp),if_neg hgt]at hT;subst hT;have w3:IntKind.i64.wrap n=n:=wrap_i64 (by omega);have w4:IntKind.i64.wrap (q+n)=q+n:=wrap_i64 (by omega);have hc:cut (bytesRow b) q (q+n)=bytesRow ((b.drop q.toNat).take n.toNat):=by rw[L9,List.drop_take,show(q+n).toNat-q.toNat=n.toNat from by omega]
    simp[hl,hp1,hp2,hL,w1,w2,w3,w4,hgt,hc];exact⟨by omega,by omega,by omega,aL b⟩
  ·rw[if_pos he]at hT;subst hT;simp[hl,hp1,hp2,hL,he]
 ·cases h
def kE (b:List UInt8) (at':Nat) (w:List UInt8):Bool:=decide (at'+w.length≤b.length∧(b.drop at').take w.length=w)
@[simp] noncomputable def Gc:List AV→Option (Prop×AV)|[.pv (.ro b),.pv (.int .i64 i),.pv (.ro w)]=>(dec di b).bind fun lb=>(dec di w).map fun lw=>(0≤i∧i≤1000000000∧lb.length≤1000000000∧lw.length≤1000000000,.pv (.bool (kE lb i.toNat lw)))|_=>none
theorem IZ:aR Tryz.prog 163 Gc:=by
 intro ys φ r h hφ;unfold Gc at h;split at h
 ·rename_i rb I rw';obtain⟨b,hb,h⟩:=Option.bind_eq_some_iff.1 h;obtain⟨l,hl,h⟩:=Option.map_eq_some_iff.1 h;cases h;cases aE hb;cases aE hl;obtain⟨p,rfl⟩:=Int.eq_ofNat_of_zero_le hφ.1;obtain⟨h0,h1,h2,h3⟩:=hφ;have w1:IntKind.i64.wrap ((p:Int)+(l.length:Int))=(p:Int)+(l.length:Int):=wrap_i64 (by omega);refine aq aj (by kernel_rfl) (by conv=>lhs;reduce) (by simp) ?_;by_cases hle:p+l.length≤b.length
  ·have hle':¬(b.length:Int)<(p:Int)+(l.length:Int):=by omega
   simp[w1,hle'];refine au (fun i:Nat=>i≤l.length∧(b.drop p).take i=l.take i) (fun i=>⟨[(0,.pv (.ro (bytesRow b))),(1,.pv (.int .i64 p)),(2,.pv (.ro (bytesRow l))),(7,.pv (.int .i64 i))],[]⟩) (fun i=>l.length-i) [] 0 (by simp) ?_ ?_;·simp
   ·rintro i ⟨hi,ht⟩;have w2:IntKind.i64.wrap ((i:Int)+1)=(i:Int)+1:=wrap_i64 (by omega);have w3:IntKind.i64.wrap ((p:Int)+(i:Int))=(p:Int)+(i:Int):=wrap_i64 (by omega);by_cases hlt:i<l.length
    ·have r1:=R.bytesRow_at hlt;have hlb:p+i<b.length:=by omega
     have hlb':(p:Int)+(i:Int)<(b.length:Int):=by omega
     have hp0:0≤(p:Int)+(i:Int):=by omega
     have r2:rowAt (bytesRow b) ((p:Int)+(i:Int))=[.int .u8 (b[p+i].toNat:Int)]:=by have:=R.bytesRow_at hlb;simpa using this
     have hdl:i<(b.drop p).length:=by simp;omega
     simp[w2,w3,hlt,hlb,hlb',hp0,r1,r2];have hg:(b.drop p)[i]=b[p+i]:=by rw[List.getElem_drop]
     refine⟨fun hne=>?_,fun he=>⟨i+1,⟨by omega,?_⟩,by omega,by omega⟩⟩
     ·unfold kE;rw[decide_eq_false_iff_not];rintro⟨_,e⟩;refine hne ?_;have e2:((b.drop p).take l.length)[i]?=l[i]?:=by rw[e]
      rw[List.getElem?_take,if_pos hlt,List.getElem?_eq_getElem hdl,List.getElem?_eq_getElem hlt,hg]at e2;simp only[Option.some.injEq]at e2;rw[e2]
     ·rw[List.take_succ_eq_append_getElem hlt,List.take_succ_eq_append_getElem hdl,ht,hg];congr 2;exact UInt8.toNat_inj.1 (by omega)
    ·simp[hlt];unfold kE;have hil:i=l.length:=by omega
     rw[hil,List.take_length]at ht;simp[hle,ht]
  ·have hle':(b.length:Int)<(p:Int)+(l.length:Int):=by omega
   have hno:kE b p l=false:=by unfold kE;simp[hle]
   simp[w1,hle',hno]
 ·cases h
theorem gz:aR Tryz.prog 122 zN:=by
 intro ys φ r h hφ;unfold zN at h;split at h
 ·rename_i rb p;obtain⟨b,hb,h⟩:=Option.map_eq_some_iff.1 h;cases h;cases aE hb;obtain⟨hl,hp1,hp2⟩:=hφ;refine aq (af nD (af IZ aj)) (by kernel_rfl) (by conv=>lhs;reduce) (by simp) ?_;by_cases h0:p<0∨(b.length:Int)≤p
  ·have ht:ah b p=(0,p,10):=by unfold ah;rw[if_pos h0]
   by_cases hp0:p<0;·simp[hp0,ht]
   ·have hbp:(b.length:Int)≤p:=by omega
    simp[hp0,hbp,ht]
  ·obtain⟨q,rfl⟩:=Int.eq_ofNat_of_zero_le (show 0≤p by omega);have ht:ah b q=(((bL (b.drop q) 0 0).1:Int),(q:Int)+((bL (b.drop q) 0 0).2.1:Int),(bL (b.drop q) 0 0).2.2):=by unfold ah;rw[if_neg h0];rfl
   have hq0:¬(q:Int)<0:=by omega
   have hq1:¬(b.length:Int)≤q:=by omega
   have hq2:¬b.length≤q:=by omega
   rw[ht];simp[hq0,hq1,hq2];generalize hD:b.drop q=D;have hDl:D.length+q=b.length:=by rw[←hD];simp;omega
   refine au (fun i:Nat=>i≤D.length∧i≤9∧(∀x∈D.take i,128≤x.toNat)∧bL D 0 0=bL (D.drop i) i (val (D.take i))) (fun i=>⟨[(0,.pv (.ro (bytesRow b))),(1,.pv (.int .i64 q)),(7,.pv (.int .u64 (val (D.take i)))),(8,.pv (.int .i64 i))],[]⟩) (fun i=>D.length-i) [] 0 ?_ ?_ ?_;·simp[val]
   ·simp[val]
   ·rintro i ⟨hi,hi9,hall,hG⟩;have w1:IntKind.i64.wrap ((i:Int)+1)=(i:Int)+1:=wrap_i64 (by omega);have w2:IntKind.i64.wrap (7*(i:Int))=7*(i:Int):=wrap_i64 (by omega);have w3:IntKind.i64.wrap ((q:Int)+(i:Int))=(q:Int)+(i:Int):=wrap_i64 (by omega);have w4:IntKind.i64.wrap ((q:Int)+(i:Int)+1)=(q:Int)+(i:Int)+1:=wrap_i64 (by omega);have hi10:(i:Int)<10:=by omega
    by_cases hlt:i<D.length
    ·have hlt1:(q:Int)+i<b.length:=by omega
     have hlt2:¬(b.length:Int)≤(q:Int)+i:=by omega
     have hqi:q+i<b.length:=by omega
     have r1:rowAt (bytesRow b) ((q:Int)+(i:Int))=[.int .u8 (D[i].toNat:Int)]:=by
      have h1:=R.bytesRow_at hqi;have h2:D[i]=b[q+i]:=by subst hD;rw[List.getElem_drop]
      rw[h2];simpa using h1
     have hq3:0≤(q:Int)+i:=by omega
     rw[List.drop_eq_getElem_cons hlt,bL]at hG;have hc:=D[i].toNat_lt;have hn:=Oa (D.take i);have htl:(D.take i).length=i:=by simp;omega
     rw[htl]at hn;have hcm:D[i].toNat%128≤127:=by omega
     have hn':=GA hn hcm;have hv:val (D.take (i+1))=val (D.take i)+D[i].toNat%128*2^(7*i):=by rw[List.take_succ_eq_append_getElem hlt,pj,htl]
     have h63:i≤8→val (D.take i)+D[i].toNat%128*2^(7*i)<2^64:=fun h8=>by have:2^(7*(i+1))≤2^63:=Nat.pow_le_pow_right (by decide) (by omega);omega
     have h64:¬(i=9∧1<D[i].toNat)→val (D.take i)+D[i].toNat%128*2^(7*i)<2^64:=fun h=>by
      by_cases h9:i=9
      ·have hle:D[i].toNat%128*2^(7*i)≤1*2^(7*i):=Nat.mul_le_mul_right _ (by omega);have:2^(7*i)=2^63:=by rw[h9]
       omega
      ·exact h63 (by omega)
     have c1:IntKind.u64.wrap (D[i].toNat:Int)=(D[i].toNat:Int):=wrap_u64 (by omega);have hpw:2^(7*i)≤2^63:=Nat.pow_le_pow_right (by decide) (by omega);have c2:IntKind.u64.wrap (2^min (7*(i:Int)).toNat IntKind.u64.bits)=((2^(7*i):Nat):Int):=by
      have e1:min (7*(i:Int)).toNat IntKind.u64.bits=7*i:=by
       have:(7*(i:Int)).toNat=7*i:=by omega
       rw[this];exact Nat.min_eq_left (show 7*i≤64 by omega)
      rw[e1,show((2:Int)^(7*i))=((2^(7*i):Nat):Int) from by simp];exact wrap_u64 (by omega)
     by_cases hA:i=9∧1<D[i].toNat
     ·rw[if_pos (.inl hA)]at hG;obtain⟨h9,h1c⟩:=hA;have h9':((i:Int)=9)=True:=eq_true (by omega);have h1c':(1:Int)<(D[i].toNat:Int):=by omega
      simp[w1,w2,w3,w4,hi10,hlt1,hlt2,hq3,r1,c1,c2,h9',h1c',hG];omega
     ·have hN:=h64 hA;obtain⟨M,hM⟩:∃M,M=D[i].toNat%128*2^(7*i):=⟨_,rfl⟩;have c3:IntKind.u64.wrap ((D[i].toNat:Int).tmod 128*2^(7*i))=(M:Int):=by
       have e0:(D[i].toNat:Int).tmod 128=((D[i].toNat%128:Nat):Int):=by rw[Int.tmod_eq_emod_of_nonneg (by omega)];omega
       rw[e0,hM,show((D[i].toNat%128:Nat):Int)*2^(7*i)=((D[i].toNat%128*2^(7*i):Nat):Int) from by simp];exact wrap_u64 (by omega)
      obtain⟨V,hV⟩:∃V,V=val (D.take (i+1)):=⟨_,rfl⟩;have hVM:V=val (D.take i)+M:=by rw[hV,hv,hM]
      have c4:IntKind.u64.wrap ((val (D.take i):Int)+(M:Int))=(V:Int):=by rw[show((val (D.take i):Int)+(M:Int))=((val (D.take i)+M:Nat):Int) from by simp,←hVM];exact wrap_u64 (by omega)
      have hV64:(V:Int)≤18446744073709551615:=by omega
      have hp:bd (V:Int)=bp V:=by rw[bd,Int.toNat_natCast]
      have hpl:(bp V).length≤10:=sk 9 V (by omega);have hpl9:(bp V).length≤1000000000:=by omega
      have h7:0≤7*(i:Int):=by omega
      have hq9:(q:Int)≤1000000000:=by omega
      have hA1:(i:Int)=9→¬1<(D[i].toNat:Int):=fun h1 h2=>hA ⟨by omega,by omega⟩;have hA2:((i:Int)=9→(D[i].toNat:Int)≤1)=True:=eq_true fun h1=>by have:=hA1 h1;omega
      by_cases h128:D[i].toNat<128
      ·have h128i:(D[i].toNat:Int)<128:=by omega
       by_cases h00:D[i].toNat=0∧0<i
       ·rw[if_pos (.inr h00)]at hG;have hlt7:(bp V).length≤i:=by
         obtain⟨k,rfl⟩:∃k,i=k+1:=⟨i-1,by omega⟩;refine sk k V ?_;have:M=0:=by rw[hM,h00.1];simp
         omega
        have hne:¬((i:Int)+1=((bp V).length:Int)):=by omega
        by_cases hst:kE b q (bp V)=true;·simp[w1,w2,w3,w4,hi10,hlt1,hlt2,hq3,r1,c1,c2,c3,c4,hV64,hp,hpl9,h7,hq9,hA2,h128i,hst,hne,hG,hl]
        ·have hst':kE b q (bp V)=false:=by simpa using hst
         simp[w1,w2,w3,w4,hi10,hlt1,hlt2,hq3,r1,c1,c2,c3,c4,hV64,hp,hpl9,h7,hq9,hA2,h128i,hst',hne,hG,hl]
       ·rw[if_neg (by rintro(h|h);exact hA h;exact h00 h),if_pos h128]at hG;rw[←hM,←hVM]at hG;have hpe:bp V=D.take (i+1):=by
         have:=sG (D.take i) D[i] hall h128 (by
          by_cases hc0:D[i].toNat=0
          ·right;have:i=0:=by omega
           subst this;simp
          ·exact .inl hc0);rw[←List.take_succ_eq_append_getElem hlt]at this;rw[hV,this]
        have hle1:(bp V).length=i+1:=by rw[hpe];simp;omega
        have heq:((i:Int)+1=((bp V).length:Int))=True:=eq_true (by omega);have hst:kE b q (bp V)=true:=by unfold kE;rw[hD,hle1,hpe];simp;omega
        simp[w1,w2,w3,w4,hi10,hlt1,hlt2,hq3,r1,c1,c2,c3,c4,hV64,hp,hpl9,h7,hq9,hA2,h128i,hst,heq,hG,hl];omega
      ·have h128i:¬(D[i].toNat:Int)<128:=by omega
       rw[if_neg (by rintro(h|h);exact hA h;omega),if_neg h128]at hG;rw[←hM,←hVM]at hG;simp[w1,w2,w3,w4,hi10,hlt1,hlt2,hq3,r1,c1,c2,c3,c4,hV64,hp,hpl9,h7,hq9,hA2,h128i];have hi8:i≤8:=by have:¬i=9:=fun h9=>hA ⟨h9,by omega⟩;omega
       have hall':∀x∈D.take (i+1),128≤x.toNat:=by
        intro x hx;rw[List.take_succ_eq_append_getElem hlt,List.mem_append]at hx;rcases hx with hx|hx;·exact hall x hx
        ·simp only[List.mem_singleton]at hx;subst hx;omega
       exact⟨fun a1 a2=>absurd a2 (hA1 a1),i+1,⟨by omega,by omega,hall',by rw[hG,hV]⟩,⟨by rw[hV],by omega⟩,by omega⟩
    ·have hd:D.drop i=[]:=by rw[List.drop_eq_nil_iff];omega
     have he:bL D 0 0=(0,0,10):=by rw[hG,hd];rfl
     have hlt2:(b.length:Int)≤(q:Int)+i:=by omega
     simp[w1,w2,w3,hi10,hlt2,he]
 ·cases h
theorem qy (gz:aR Tryz.prog 122 zN):aR Tryz.prog 123 yE:=by
 intro ys φ r h hφ;unfold yE at h;split at h
 ·rename_i rb p;obtain⟨b,hb,h⟩:=Option.map_eq_some_iff.1 h;cases h;cases aE hb;obtain⟨hl,hp1,hp2⟩:=hφ;refine aq (af gz aj) (by kernel_rfl) (by conv=>lhs;reduce) (by simp) ?_;obtain⟨k1,k2,k3,k4,k5⟩:=bT b p;have hT:ay b p=if(ah b p).2.2≠0 then([],p,(ah b p).2.2) else if(b.length:Int)-(ah b p).2.1<(ah b p).1 then([],p,10) else((b.drop (ah b p).2.1.toNat).take (ah b p).1.toNat,(ah b p).2.1+(ah b p).1,0):=rfl;generalize ay b p=T at*;obtain⟨n,q,e,hL⟩:∃n q e,ah b p=(n,q,e):=⟨_,_,_,rfl⟩;rw[hL]at k1 k2 k3 k4 k5 hT;dsimp only at k1 k2 k3 k4 k5 hT;have w2:IntKind.u64.wrap (b.length:Int)=(b.length:Int):=wrap_u64 (by omega);by_cases he:e=0
  ·obtain⟨j1,j2,j3⟩:=k1 he;subst he;by_cases hgt:(b.length:Int)<n;·rw[if_neg (by simp),if_pos (by omega)]at hT;subst hT;simp[hl,hp1,hp2,hL,w2,hgt]
   ·have w3:IntKind.i64.wrap n=n:=wrap_i64 (by omega);have w4:IntKind.i64.wrap (q+n)=q+n:=wrap_i64 (by omega);by_cases hgt2:(b.length:Int)<q+n;·rw[if_neg (by simp),if_pos (by omega)]at hT;subst hT;simp[hl,hp1,hp2,hL,w2,w3,w4,hgt,hgt2]
    ·rw[if_neg (by simp),if_neg (by omega)]at hT;subst hT;have hc:cut (bytesRow b) q (q+n)=bytesRow ((b.drop q.toNat).take n.toNat):=by rw[L9,List.drop_take,show(q+n).toNat-q.toNat=n.toNat from by omega]
     simp[hl,hp1,hp2,hL,w2,w3,w4,hgt,hgt2,hc];exact⟨by omega,by omega,by omega,aL b⟩
  ·rw[if_pos he]at hT;subst hT;simp[hl,hp1,hp2,hL,he]
 ·cases h
end Go.Proofs.YtifcndkhigakfaaGreat.Ab
