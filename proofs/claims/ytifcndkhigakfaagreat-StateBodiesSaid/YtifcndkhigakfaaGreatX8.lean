/- The abstract machine is sound: a call of a function that writes to a slice that is handed over. -/
import Derived.Test.YtifcndkhigakfaaGreatX7
import Derived.MapKept
import Derived.Maps.RangeRun
import Derived.Laws.Pointers
set_option linter.unusedVariables false
set_option linter.unusedSimpArgs false
set_option linter.unnecessarySimpa false
set_option maxHeartbeats 40000000
set_option maxRecDepth 100000
namespace Go.Proofs.YtifcndkhigakfaaGreat.Ab
open Go Go.RowKit
section
variable{P:Program}{S:Nat→Prop}{w:World}{β:Nat→Value}{D D':Nat→Prop}{t:Nat}
theorem RV.ua {v:Value}{x:AV} (hD:∀s,D s→s≠t→D' s) (hx:ua t x) (h:RV P S w β D v x):RV P S w β D' v x:=by cases h with
 |pv v p h=>exact .pv _ _ h|own s h=>exact .own s (hD s h hx)|ptr s o b h hb=>exact .ptr s o b (hD s h hx) hb|aY s e i o b n c inf h hi hb=>exact .aY s e i o b n c inf (hD s h hx) hi hb|sub v s e lo hi inf A A1 n c h hi' hb h1 h2 h3 h4 h5 hv=>exact .sub _ s e lo hi inf A A1 n c (hD s h hx) hi' hb h1 h2 h3 h4 h5 hv|rp ad cs us h1 h2 h3 h4=>exact .rp ad cs us h1 h2 h3 h4|agg cs us hl h=>exact hx.elim|aS cs us hl h=>exact hx.elim|bZ f cs us hl h=>cases cs with|nil=>exact .bZ f [] us hl fun i c u hc=>by simp at hc|cons c cs=>exact hx.elim
 |ck g v av h=>exact hx.elim|ak v=>exact .ak _
theorem ql:∀{cs:List AV},HK t cs→∀(i:Nat) (c:AV),cs[i]?=some c→Ab.ua t c|[],_,i,c,hc=>by simp at hc|x::cs,h,0,c,hc=>by simp only[List.getElem?_cons_zero,Option.some.injEq]at hc;subst hc;exact h.1|x::cs,h,i+1,c,hc=>ql h.2 i c (by simpa using hc)
theorem RV.vB {v:Value}{x:AV} (hD:∀s,D s→s≠t→D' s) (hx:vB t x) (h:RV P S w β D v x):RV P S w β D' v x:=by cases h with|agg cs us hl h=>exact .agg cs us hl fun i c u hc hu=>(h i c u hc hu).ua hD (ql hx i c hc)|bZ f cs us hl h=>exact .bZ f cs us hl fun i c u hc hu=>(h i c u hc hu).ua hD (ql hx i c hc)|pv v p h=>exact .pv _ _ h|own s h=>exact RV.ua (x:=.own s) hD hx (.own s h)|ptr s o b h hb=>exact RV.ua (x:=.ptr s o) hD hx (.ptr s o b h hb)|aY s e i o b n c inf h hi hb=>exact RV.ua (x:=.aY s e i o) hD hx (.aY s e i o b n c inf h hi hb)|sub v s e lo hi inf A A1 n c h hi' hb h1 h2 h3 h4 h5 hv=>exact RV.ua (x:=.sub s e lo hi) hD hx (.sub v s e lo hi inf A A1 n c h hi' hb h1 h2 h3 h4 h5 hv)|rp ad cs us h1 h2 h3 h4=>exact .rp ad cs us h1 h2 h3 h4|aS cs us hl h=>exact hx.elim|ck g v av h=>exact hx.elim|ak v=>exact .ak _
theorem uI:∀{vs:List AV},mA.nJ t vs→∀(i:Nat) (v:AV),vs[i]?=some v→Ab.vB t v|[],_,i,c,hc=>by simp at hc|x::cs,h,0,c,hc=>by simp only[List.getElem?_cons_zero,Option.some.injEq]at hc;subst hc;exact h.1|x::cs,h,i+1,c,hc=>uI h.2 i c (by simpa using hc)
theorem xb:∀{vs:List AV}{p:Nat},mA t p vs→∀(i:Nat) (v:AV),i≠p→vs[i]?=some v→Ab.vB t v|[],_,_,i,c,_,hc=>by simp at hc|x::cs,0,h,0,c,hne,hc=>absurd rfl hne|x::cs,0,h,i+1,c,hne,hc=>uI h i c (by simpa using hc)|x::cs,p+1,h,0,c,hne,hc=>by simp only[List.getElem?_cons_zero,Option.some.injEq]at hc;subst hc;exact h.1|x::cs,p+1,h,i+1,c,hne,hc=>xb h.2 i c (by omega) (by simpa using hc)
variable{aa:Nat→Option AO}
theorem pI {m:AV}:∀{p:Nat}{xs ys:List AV},rh aa m p xs=some ys→p<xs.length→ys.length=xs.length∧ys[p]?=some m∧∀(i:Nat) (y:AV),i≠p→ys[i]?=some y→∃x,xs[i]?=some x∧nW aa x=some y
 |_,[],_,_,hp=>by simp at hp|0,x::xs,ys,h,_=>by simp only[rh,Option.map_eq_some_iff]at h;obtain⟨zs,hz,rfl⟩:=h;obtain⟨h1,h2⟩:=om xs zs hz;refine⟨by simp[h1],rfl,fun i y hne hy=>?_⟩;cases i with|zero=>exact absurd rfl hne|succ i=>obtain⟨c,hc,hr⟩:=h2 i y (by simpa using hy);exact⟨c,by simpa using hc,hr⟩
 |p+1,x::xs,ys,h,hp=>by simp only[rh,Option.bind_eq_some_iff,Option.map_eq_some_iff]at h;obtain⟨y0,hy0,zs,hz,rfl⟩:=h;obtain⟨h1,h2,h3⟩:=pI hz (by simpa using hp);refine⟨by simp[h1],by simpa using h2,fun i y hne hy=>?_⟩;cases i with|zero=>simp only[List.getElem?_cons_zero,Option.some.injEq]at hy;subst hy;exact⟨x,rfl,hy0⟩|succ i=>obtain⟨c,hc,hr⟩:=h3 i y (by omega) (by simpa using hy);exact⟨c,by simpa using hc,hr⟩
theorem uz:∀{p:Nat}{xs:List AV},jG p xs=true→∀(i:Nat) (x:AV),i≠p→xs[i]?=some x→dZ x=true|_,[],_,i,c,_,hc=>by simp at hc|0,x::xs,h,0,c,hne,hc=>absurd rfl hne|0,x::xs,h,i+1,c,hne,hc=>qq xs i c h (by simpa using hc)|p+1,x::xs,h,0,c,hne,hc=>by simp only[jG,Bool.and_eq_true]at h;simp only[List.getElem?_cons_zero,Option.some.injEq]at hc;subst hc;exact h.1|p+1,x::xs,h,i+1,c,hne,hc=>by simp only[jG,Bool.and_eq_true]at h;exact uz h.2 i c (by omega) (by simpa using hc)
theorem km {x y:AV} (h:nW aa x=some y):LH y=y∧(∀e rows,y≠.fr e rows)∧∀e rows,y≠.aS [.fr e rows]:=by
 have hpv:∀{o:Option PV},o.map AV.pv=some y→∃p,y=.pv p:=fun h=>by obtain⟨p,_,rfl⟩:=Option.map_eq_some_iff.1 h;exact⟨p,rfl⟩
 have key:(∃p,y=.pv p)∨(∃cs,y=.rp cs)∨(∃cs,y=.agg cs)∨∃f cs,y=.bZ f cs:=by
  have h1:∀{x y:AV},fg aa x=some y→(∃p,y=.pv p)∨(∃cs,y=.rp cs)∨(∃cs,y=.agg cs)∨∃f cs,y=.bZ f cs:=by
   intro x y h;unfold fg at h;split at h;·obtain⟨cs,_,h⟩:=Option.bind_eq_some_iff.1 h;obtain⟨ps,_,rfl⟩:=Option.map_eq_some_iff.1 h;exact .inr (.inl ⟨_,rfl⟩)
   ·cases h;exact .inr (.inl ⟨_,rfl⟩)
   ·obtain⟨ps,_,rfl⟩:=Option.map_eq_some_iff.1 h;exact .inr (.inr (.inl ⟨_,rfl⟩))
   ·cases h;exact .inr (.inr (.inr ⟨_,_,rfl⟩))
   ·obtain⟨p,_,rfl⟩:=Option.map_eq_some_iff.1 h;exact .inl ⟨_,rfl⟩
  unfold nW at h;split at h;·obtain⟨ps,_,rfl⟩:=Option.map_eq_some_iff.1 h;exact .inr (.inr (.inr ⟨_,_,rfl⟩))
  ·exact h1 h
 rcases key with⟨p,rfl⟩|⟨cs,rfl⟩|⟨cs,rfl⟩|⟨f,cs,rfl⟩<;>exact⟨rfl,(fun e rows h=>by cases h),(fun e rows h=>by cases h)⟩
theorem qJ {x:AV} (h:nW aa x=some .ak):False:=by
 have hpv:∀{o:Option PV},¬o.map AV.pv=some .ak:=fun h=>by obtain⟨p,_,h⟩:=Option.map_eq_some_iff.1 h;cases h
 have h1:∀{x:AV},¬fg aa x=some .ak:=by
  intro x h;unfold fg at h;split at h;·obtain⟨cs,_,h⟩:=Option.bind_eq_some_iff.1 h;obtain⟨ps,_,h⟩:=Option.map_eq_some_iff.1 h;cases h
  ·cases h
  ·obtain⟨ps,_,h⟩:=Option.map_eq_some_iff.1 h;cases h
  ·cases h
  ·exact hpv h
 unfold nW at h;split at h;·obtain⟨ps,_,h⟩:=Option.map_eq_some_iff.1 h;cases h
 ·exact h1 h
theorem Be {e:TypeId}{rows:List (List PV)}{k:Nat} (hk:k=998∨k=999):∀{ys:List AV}{p:Nat},ys[p]?=some (yQ k e rows)→(∀(i:Nat) (y:AV),i≠p→ys[i]?=some y→(∀e rows,y≠.fr e rows)∧∀e rows,y≠.aS [.fr e rows])→mY ys=[(k,.arr e rows)]
 |[],p,h,_=>by simp at h|y::ys,0,h,ho=>by simp only[List.getElem?_cons_zero,Option.some.injEq]at h;subst h;rcases hk with rfl|rfl<;>rfl|y::ys,p+1,h,ho=>by
  have h0:=ho 0 y (by omega) rfl;have ih:=Be hk (ys:=ys) (p:=p) (by simpa using h) (fun i z hne hz=>ho (i+1) z (by omega) (by simpa using hz));unfold mY;split;·rename_i e;cases e
  ·rename_i e1 r1 _ e;cases e;exact absurd rfl (h0.1 _ _)
  ·rename_i e1 r1 _ e;cases e;exact absurd rfl (h0.2 _ _)
  ·rename_i e;cases e;exact ih
end
section
variable{P:Program}{S0 L:Nat→Prop}{B0:Nat→Value}{w0 w:World}{N:Nat}{st:St}{a:Act}{β:Nat→Value}
theorem xI (h:Rel P S0 L B0 w0 N st a w β) {k t:Nat}{e:TypeId}{rows:List (List PV)}{X:AV}{v:Value} (hX:RV P (aU S0 w0.heap.size β st.aa w) w β (aG st.aa) v X) (hs:hZ st.aa k X=some (t,e,rows)):∃rows0,st.aa t=some (.arr e rows0)∧ct v=ct (β t)∧(k=999→v=β t)∧∃inf us,P.info? e=some inf∧w.ownsRow 0 e inf.size v rows.length us∧(∀r,r∈rows→r.length=inf.size)∧∀(i j:Nat) (r:List PV) (p:PV),rows[i]?=some r→r[j]?=some p→∃u,us[i*inf.size+j]?=some u∧u.oneCell'=true∧da (aU S0 w0.heap.size β st.aa w) w u p:=by cases X with
 |own t'=>simp only[hZ,Option.map_eq_some_iff]at hs;obtain⟨⟨e',rows'⟩,har,he⟩:=hs;simp only[Prod.mk.injEq]at he;obtain⟨rfl,rfl,rfl⟩:=he;obtain⟨inf,us,hi,hown,hrl,hcs⟩:=h.heap.arr (bH har);have hv:=hX.aT.1;subst hv;exact⟨rows',bH har,rfl,fun _=>rfl,inf,us,hi,hown,hrl,hcs⟩|sub t' e1 lo hi=>cases lo with|succ lo=>simp[hZ]at hs|zero=>
   simp only[hZ]at hs;split at hs
   ·rename_i hk;obtain⟨⟨e',rows'⟩,har,hs⟩:=Option.bind_eq_some_iff.1 hs;split at hs
    ·rename_i hee;simp only at hee;subst hee;simp only[Option.some.injEq,Prod.mk.injEq]at hs;obtain⟨rfl,rfl,rfl⟩:=hs;obtain⟨inf,us,hi',hown,hrl,hcs⟩:=h.heap.arr (bH har);obtain⟨inf1,Ad,Ad1,n,c,hdt,hi1,hbt,g1,g2,g3,g4,g5,hx⟩:=hX.gF;obtain⟨A',c',hv,_⟩:=cB hown;have hn:n=rows'.length:=by rw[hbt]at hv;simp at hv;exact hv.2.1
     subst hn;have hA:=g4 rfl;subst hA;have hlen:(rows'.take hi).length=hi:=by rw[List.length_take];omega
     simp only[Nat.sub_zero]at hx;refine⟨rows',bH har,?_,fun hk9=>by omega,inf,us.take (hi*inf.size),hi',?_,fun r hr=>hrl r (List.mem_of_mem_take hr),fun i j r p hr hp=>?_⟩;·rw[hx,hbt];cases Ad1<;>rfl
     ·rw[hlen,hx];exact ky hown g2 hbt
     ·have hi2:i<hi:=by rw[←hlen];exact(List.getElem?_eq_some_iff.1 hr).1
      rw[List.getElem?_take,if_pos hi2]at hr;obtain⟨u,hu,h1,h2⟩:=hcs i j r p hr hp;have hj:j<inf.size:=by rw[←hrl r (List.mem_of_getElem? hr)];exact(List.getElem?_eq_some_iff.1 hp).1
      have hlt:i*inf.size+j<hi*inf.size:=by have:=Nat.mul_le_mul_right inf.size (show i+1≤hi from hi2);rw[Nat.succ_mul]at this;omega
      exact⟨u,by rw[List.getElem?_take,if_pos hlt];exact hu,h1,h2⟩
    ·cases hs
   ·cases hs|_=>simp[hZ]at hs
theorem qD {r:AV} (h:dA r=true):du (cellAt r 999)=none:=by cases r with|aS vs=>simp only[dA,Bool.and_eq_true,decide_eq_true_eq]at h;simp only[cellAt,show 999%1000=999 from rfl];rw[List.getElem?_eq_none (by omega)];rfl|_=>rfl
theorem vC {aa:Nat→Option AO}:∀{p:Nat}{xs ys:List AV},rG aa p xs=some ys→ys.length=xs.length∧∀(i:Nat) (y:AV),ys[i]?=some y→∃c,xs[i]?=some c∧(nW aa c=some y∨(c=.pv .nil∧y=.pv .nil))
 |p,[],ys,h=>by
  have:ys=[]:=by cases p<;>(simp[rG]at h;exact h)
  subst this;exact⟨rfl,fun i y hy=>by simp at hy⟩|0,x::xs,ys,h=>by
  unfold rG at h;split at h;·rename_i h1;cases h1
  ·rename_i vs h1;cases h1;obtain⟨zs,hz,rfl⟩:=Option.map_eq_some_iff.1 h;obtain⟨h1,h2⟩:=om _ zs hz;refine⟨by simp[h1],fun i y hy=>?_⟩;cases i with|zero=>simp at hy;subst hy;exact⟨_,rfl,.inr ⟨rfl,rfl⟩⟩|succ i=>obtain⟨c,h3,h4⟩:=h2 i y (by simpa using hy);exact⟨c,by simpa using h3,.inl h4⟩
  ·cases h
  ·rename_i h1 _;cases h1|p+1,x::xs,ys,h=>by simp only[rG,Option.bind_eq_some_iff,Option.map_eq_some_iff]at h;obtain⟨y0,hy0,zs,hz,rfl⟩:=h;obtain⟨h1,h2⟩:=vC hz;refine⟨by simp[h1],fun i y hy=>?_⟩;cases i with|zero=>simp at hy;subst hy;exact⟨_,rfl,.inl hy0⟩|succ i=>obtain⟨c,h3,h4⟩:=h2 i y (by simpa using hy);exact⟨c,by simpa using h3,h4⟩
theorem Fv {aa:Nat→Option AO}{ys xs:List AV} (hg:∀(i:Nat) (y:AV),ys[i]?=some y→∃c,xs[i]?=some c∧(nW aa c=some y∨(c=.pv .nil∧y=.pv .nil))):∀y∈ys,LH y=y∧(∀e rows,y≠.fr e rows)∧∀e rows,y≠.aS [.fr e rows]:=by
 intro y hy;obtain⟨i,hi⟩:=List.getElem?_of_mem hy;obtain⟨c,_,h|⟨_,rfl⟩⟩:=hg i y hi;·exact km h
 ·exact⟨rfl,(fun e rows h=>by cases h),fun e rows h=>by cases h⟩
theorem zo:∀{ys:List AV},(∀y∈ys,(∀e rows,y≠.fr e rows)∧∀e rows,y≠.aS [.fr e rows])→mY ys=[]
 |[],_=>rfl|y::ys,h=>by
  have ih:=zo (ys:=ys) fun z hz=>h z (by simp[hz]);obtain⟨h1,h2⟩:=h y (by simp);unfold mY;split;·rfl
  ·rename_i e rows l h3;cases h3;exact absurd rfl (h1 _ _)
  ·rename_i e rows l h3;cases h3;exact absurd rfl (h2 _ _)
  ·rename_i h3;cases h3;exact ih
theorem zM {f:FuncId}{ys:List AV}{r:AV} (hm:∀y∈ys,LH y=y∧(∀e rows,y≠.fr e rows)∧∀e rows,y≠.aS [.fr e rows]) (hres:dA r=true) (h:CT P f ys r):u9 P f [] ys [] r:=by
 have h0:mY ys=[]:=zo fun y hy=>(hm y hy).2;have h1:ys.map LH=ys:=by rw[List.map_congr_left fun y hy=>(hm y hy).1];simp
 have h2:b7 r=r∧en r=[]:=by cases r with|bZ f cs=>simp[dA,rP,lz]at hres|_=>exact⟨rfl,rfl⟩
 intro w S0 β vals a1 a2 a3 a4 a5;have hnl:∀b,¬live β (ab []) b:=fun b ⟨t,o,ho,_⟩=>by simp[ab]at ho
 have hS:(fun b=>S0 b∨live β (ab []) b)=S0:=by funext b;apply propext;exact⟨fun h=>h.resolve_right (hnl b),.inl⟩
 have h:=h w S0 β vals a1 (by rw[h0];exact a2) (by rw[h0];exact a3) a4 (by rw[h0,h1];exact a5);rw[h0,h2.1,h2.2,hS]at h;refine h.mono ?_;rintro e w' ⟨v,β',r1,r2,r3,r4,_,r5⟩;exact⟨v,β',r1,r2,r3,r4,r5⟩
theorem AL (hL:∀b,L b→S0 b) (h:Rel P S0 L B0 w0 N st a w β) {f:FuncId}{d:Nat} (hd9:d%1000≠999) {vals:List Value}{xs ys:List AV}{x X:AV}{p k t:Nat}{e:TypeId}{rows:List (List PV)} (hk:k=998∨k=999) (hl:vals.length=xs.length) (hv:∀(i:Nat) (v:Value) (x:AV),vals[i]?=some v→xs[i]?=some x→RV P (aU S0 w0.heap.size β st.aa w) w β (aG st.aa) v x) (hp:xs[p]?=some X) (hh:hZ st.aa k X=some (t,e,rows)) (hoff:mA t p xs) (hre:rh (gb t st.aa) (yQ k e rows) p xs=some ys) (hcon:CT P f ys x) (hpf:jG p xs=true∨(flat (b7 x)∧oR (en x))) (hfree:∀y∈aP d (b7 x),st.aa y.1=none) (hres:dA (b7 x)=true):Calls P f vals.toArray w fun e w'=>∃v β',e=.returned v∧Rel P S0 L B0 w0 N ⟨iV t x st.vars,bA (aP d (b7 x)) (cQ t x st.aa)⟩ a w' β'∧RV P (aU S0 w0.heap.size β' (bA (aP d (b7 x)) (cQ t x st.aa)) w') w' β' (aG (bA (aP d (b7 x)) (cQ t x st.aa))) v (cR (lA d) (b7 x)):=by
 have htup:=uY _ hres;have hpl:p<xs.length:=(List.getElem?_eq_some_iff.1 hp).1;have hvp:vals[p]?=some vals[p]:=List.getElem?_eq_getElem (by omega);generalize hvpe:vals[p]'(by omega)=vp at hvp;obtain⟨rows0,hot,hblk,hvpin,inf,us,hi,hown,hrl,hcs⟩:=xI h (hv p vp X hvp hp) hh;obtain⟨hyl,hyp,hyo⟩:=pI hre hpl;have hdt:aG st.aa t:=⟨_,hot⟩;have hmk:mY ys=[(k,.arr e rows)]:=Be hk hyp fun i y hne hy=>by obtain⟨z,_,hr⟩:=hyo i y hne hy;exact(km hr).2
 obtain⟨inf0,us0,hi0,hown0,hrl0,hcs0⟩:=h.heap.holds t _ hot;have hnp:∀b,β t≠.pointer (some ⟨b,0,none⟩):=(gE hown0).2;have hD1:∀s,aG st.aa s→s≠t→aG (gb t st.aa) s:=fun s hs hne=>cY.2 ⟨hne,hs⟩;have hh1:Heap P (aU S0 w0.heap.size β st.aa w) w β (gb t st.aa):=by
  refine⟨fun s o hs=>?_,fun s s' b hs hs'=>h.heap.inj s s' b (cY.1 hs).2 (cY.1 hs').2⟩;by_cases e':s=t;·simp[gb,e']at hs
  ·have hs':(st.aa s).map (dX t)=some o:=by simpa[gb,e']using hs
   obtain⟨o',ho',rfl⟩:=Option.map_eq_some_iff.1 hs';exact(h.heap.holds s o' ho').kill hnp (fun b hb=>⟨hb,rfl⟩) (fun s hs hne=>⟨hD1 s hs hne,rfl⟩) rfl (fun b hb=>rfl)
 let β0:Nat→Value:=fun _=>vp;have hhin:ab (mY ys)=ab [(k,.arr e rows)]:=by rw[hmk]
 have hlive0:∀b,live β0 (ab (mY ys)) b↔ct (β t)=some b:=by
  intro b;rw[hhin];constructor;·rintro⟨s,o,ho,hb⟩;rw[←hblk];exact hb
  ·intro hb;exact⟨k,.arr e rows,by simp[ab],by rw[←hblk]at hb;exact hb⟩
 have hnl:∀b,aU S0 w0.heap.size β st.aa w b→¬ct (β t)=some b:=fun b ⟨_,_,h3⟩ hb=>h3 ⟨t,_,hot,hb⟩;obtain⟨S1,hS1,hS1lt,hS1n,hcase⟩:∃S1:Nat→Prop,(∀b,aU S0 w0.heap.size β st.aa w b→S1 b)∧(∀b,S1 b→b<w.heap.size)∧(∀b,S1 b→¬ct (β t)=some b)∧((jG p xs=true∧S1=aU S0 w0.heap.size β st.aa w)∨((flat (b7 x)∧oR (en x))∧∀b,b<w.heap.size→¬ct (β t)=some b→S1 b)):=by
  rcases hpf with hp|hp;·exact⟨_,fun b hb=>hb,fun b hb=>hb.2.1,hnl,.inl ⟨hp,rfl⟩⟩
  ·exact⟨fun b=>b<w.heap.size∧¬ct (β t)=some b,fun b hb=>⟨hb.2.1,hnl b hb⟩,fun b hb=>hb.1,fun b hb=>hb.2,.inr ⟨hp,fun b h1 h2=>⟨h1,h2⟩⟩⟩
 have hS1eq:∀b,aU S1 w.heap.size β0 (ab (mY ys)) w b↔S1 b:=by
  intro b;constructor
  ·rintro⟨h1|h1,h2,_⟩;·exact h1
   ·omega
  ·intro hb;exact⟨.inl hb,hS1lt b hb,fun hl=>hS1n b hb ((hlive0 b).1 hl)⟩
 have htlt:∀b,ct (β t)=some b→b<w.heap.size:=fun b hb=>h.lt hdt hb;have hin:∀s o,ab (mY ys) s=some o→s=k∧o=.arr e rows:=by
  intro s o ho;rw[hhin]at ho;simp only[ab]at ho;split at ho;·rename_i e';cases ho;exact⟨e',rfl⟩
  ·cases ho
 have hHin:Heap P (aU S1 w.heap.size β0 (ab (mY ys)) w) w β0 (ab (mY ys)):=by refine⟨fun s o ho=>?_,fun s s' b ⟨o,ho⟩ ⟨o',ho'⟩ _ _=>(hin s o ho).1.trans (hin s' o' ho').1.symm⟩;obtain⟨rfl,rfl⟩:=hin s o ho;refine⟨inf,us,hi,hown,hrl,fun i j r q h1 h2=>?_⟩;obtain⟨u,hu,h3,h4⟩:=hcs i j r q h1 h2;exact⟨u,hu,h3,h4.mono fun b hb=>⟨(hS1eq b).2 (hS1 b hb),rfl⟩⟩
 refine(hcon w S1 β0 vals hS1lt (fun s b _ hb=>htlt b (by rw[←hblk];exact hb)) hHin (by omega) (fun i v y hvi hyi=>?_)).mono ?_
 ·rw[List.getElem?_map,Option.map_eq_some_iff]at hyi;obtain⟨z,hz,rfl⟩:=hyi;by_cases hip:i=p
  ·subst hip;rw[hyp]at hz;injection hz with hz;subst hz;rw[hvp]at hvi;injection hvi with hvi;subst hvi;have hdk:aG (ab (mY ys)) k:=⟨.arr e rows,by rw[hhin];simp[ab]⟩;rcases hk with rfl|rfl;·exact .own 998 hdk
   ·exact .own 999 hdk
  ·obtain⟨X',hX',hrx⟩:=hyo i z hip hz;rw[(km hrx).1];refine qb hh1 (fun b hb=>(hS1eq b).2 (hS1 b hb)) ((hv i v X' hvi hX').vB hD1 (xb hoff i X' hip hX')) hrx ?_;rcases hcase with⟨hpu,_⟩|⟨_,hall⟩;·exact .inl (uz hpu i X' hip hX')
   ·refine .inr fun s b hs hb=>(hS1eq b).2 (hall b (h.lt (cY.1 hs).2 hb) fun hbt=>(cY.1 hs).1 (h.heap.inj s t b (cY.1 hs).2 hdt hb hbt))
 ·rintro ee w' ⟨v,β1,rfl,hfr,hheap,hnew,hpinned,hrv⟩;have hout:en x=[]∨∃e' rows',en x=[(999,.arr e' rows')]:=by
   unfold en;split;·exact .inr ⟨_,_,rfl⟩
   ·exact .inl rfl
  have hsame:∀b,b<w.heap.size→¬ct (β t)=some b→w'.heap[b]?=w.heap[b]?:=fun b hb hn=>hfr.block b hb fun hl=>hn ((hlive0 b).1 hl);have hobj:cQ t x st.aa=(match en x with|(_,o)::_=>aN t o st.aa|[]=>gb t st.aa):=rfl;have hdomU:∀s,aG (cQ t x st.aa) s→aG st.aa s:=by
   intro s hs;rcases hout with ho|⟨e',rows',ho⟩;·rw[hobj,ho]at hs;exact(cY.1 hs).2
   ·rw[hobj,ho]at hs;rcases bP.1 hs with e1|e1;·rw[e1];exact hdt
    ·exact e1
  have hdomU':∀s,aG st.aa s→s≠t→aG (cQ t x st.aa) s:=by
   intro s hs hne;rcases hout with ho|⟨e',rows',ho⟩;·rw[hobj,ho];exact hD1 s hs hne
   ·rw[hobj,ho];exact bP.2 (.inr hs)
  have hfreeU:∀y∈aP d (b7 x),cQ t x st.aa y.1=none:=by intro y hy;cases hc:cQ t x st.aa y.1 with|none=>rfl|some o=>obtain⟨o',ho'⟩:=hdomU y.1 ⟨o,hc⟩;rw[hfree y hy]at ho';cases ho'
  let F:Nat→Option AO:=bo (ab (en x)) fun t=>du (cellAt (b7 x) t);have hFp:∀q o,du (cellAt (b7 x) q)=some o→F q=some o:=by
   intro q o hq;rcases hout with ho|⟨e',rows',ho⟩;·simp only[F,ho,bo,ab];exact hq
   ·simp only[F,ho,bo,ab];have:q≠999:=by rintro rfl;rw[qD hres]at hq;cases hq
    rw[if_neg this];exact hq
  let β2:Nat→Value:=fun s=>match ab (aP d (b7 x)) s with|some _=>β1 ((s-d)/1000)|none=>β s;have hβnew:∀q o,du (cellAt (b7 x) q)=some o→β2 (d+1000*q)=β1 q:=fun q o hq=>by simp only[β2,fv d (b7 x) htup,hq];congr 1;omega
  have hβold:∀s,aG st.aa s→β2 s=β s:=fun s ⟨o,ho⟩=>by cases hlk:ab (aP d (b7 x)) s with|none=>simp only[β2,hlk]|some o'=>obtain⟨z,hz,rfl⟩:=iN _ _ _ hlk;rw[hfree z hz]at ho;cases ho
  have hlook2:∀s,bA (aP d (b7 x)) (cQ t x st.aa) s=match ab (aP d (b7 x)) s with|some o=>some o|none=>cQ t x st.aa s:=fun s=>rfl;have hdomNew:∀q o,du (cellAt (b7 x) q)=some o→bA (aP d (b7 x)) (cQ t x st.aa) (d+1000*q)=some o:=fun q o hq=>by rw[hlook2,fv d (b7 x) htup,hq]
  have hdomOld:∀s o,cQ t x st.aa s=some o→bA (aP d (b7 x)) (cQ t x st.aa) s=some o:=fun s o ho=>by rw[hlook2];cases hlk:ab (aP d (b7 x)) s with|none=>exact ho|some o'=>obtain⟨z,hz,rfl⟩:=iN _ _ _ hlk;rw[hfreeU z hz]at ho;cases ho
  have hcases:∀s o,bA (aP d (b7 x)) (cQ t x st.aa) s=some o→(∃q,s=d+1000*q∧du (cellAt (b7 x) q)=some o)∨(cQ t x st.aa s=some o∧ab (aP d (b7 x)) s=none):=fun s o ho=>by rw[hlook2]at ho;cases hlk:ab (aP d (b7 x)) s with|none=>rw[hlk]at ho;exact .inr ⟨ho,rfl⟩|some o'=>rw[hlk]at ho;injection ho with ho;subst ho;obtain⟨q,rfl⟩:=uF d (b7 x) s hlk;rw[fv d (b7 x) htup]at hlk;exact .inl ⟨q,rfl,hlk⟩
  have hback:∀o,cQ t x st.aa t=some o→en x=[(999,o)]:=by
   intro o ho;rcases hout with h1|⟨e',rows',h1⟩;·rw[hobj,h1]at ho;simp[gb]at ho
   ·rw[hobj,h1]at ho;simp only[aN,if_true,Option.some.injEq]at ho;rw[h1,ho]
  have hkeep:∀s o,cQ t x st.aa s=some o→s≠t→∃o0,st.aa s=some o0∧(o=o0∨(en x=[]∧o=dX t o0)):=by
   intro s o ho hne;rcases hout with h1|⟨e',rows',h1⟩
   ·rw[hobj,h1]at ho;have:(st.aa s).map (dX t)=some o:=by simpa[gb,hne]using ho
    obtain⟨o',ho',rfl⟩:=Option.map_eq_some_iff.1 this;exact⟨o',ho',.inr ⟨h1,rfl⟩⟩
   ·rw[hobj,h1]at ho;exact⟨o,by simpa[aN,hne]using ho,.inl rfl⟩
  have hFt:∀o,cQ t x st.aa t=some o→F 999=some o∧β1 999=vp∧vp=β t:=by intro o ho;have h1:=hback o ho;have hd:aG (ab (en x)) 999:=⟨o,by rw[h1];simp[ab]⟩;obtain⟨hd2,hb⟩:=hpinned 999 hd;obtain⟨o2,ho2⟩:=hd2;obtain⟨rfl,_⟩:=hin 999 o2 ho2;exact⟨by simp only[F,h1,bo,ab];simp,hb,hvpin rfl⟩
  have hnewF:∀q o b,F q=some o→ct (β1 q)=some b→w.heap.size≤b∨ct (β t)=some b:=fun q o b hq hb=>by
   rcases hnew q b ⟨o,hq⟩ hb with h1|h1;·exact .inl h1
   ·exact .inr ((hlive0 b).1 h1)
  have hapart:∀q o b,du (cellAt (b7 x) q)=some o→ct (β1 q)=some b→ct (β t)=some b→∀o',cQ t x st.aa t≠some o':=by intro q o b hq hb hbt o' ho';obtain⟨h1,h2,h3⟩:=hFt o' ho';have:=hheap.inj q 999 b ⟨o,hFp q o hq⟩ ⟨o',h1⟩ hb (by rw[h2,h3];exact hbt);subst this;rw[qD hres]at hq;cases hq
  have hblk2:∀s o b,bA (aP d (b7 x)) (cQ t x st.aa) s=some o→ct (β2 s)=some b→(∃q,s=d+1000*q∧du (cellAt (b7 x) q)=some o∧ct (β1 q)=some b)∨(aG st.aa s∧cQ t x st.aa s=some o∧ct (β s)=some b):=by
   intro s o b ho hb;rcases hcases s o ho with⟨q,rfl,hq⟩|⟨h1,_⟩;·rw[hβnew q o hq]at hb;exact .inl ⟨q,rfl,hq,hb⟩
   ·have hs:=hdomU s ⟨o,h1⟩;rw[hβold s hs]at hb;exact .inr ⟨hs,h1,hb⟩
  have hm:∀b,aU S0 w0.heap.size β st.aa w b→aU S0 w0.heap.size β2 (bA (aP d (b7 x)) (cQ t x st.aa)) w' b∧w'.heap[b]?=w.heap[b]?:=by
   rintro b hb0;obtain⟨h1,h2,h3⟩:=hb0;refine⟨⟨h1,Nat.lt_of_lt_of_le h2 hfr.size,?_⟩,hsame b h2 fun hbt=>h3 ⟨t,_,hot,hbt⟩⟩;rintro⟨s,o,ho,hb⟩;rcases hblk2 s o b ho hb with⟨q,rfl,hq,hb1⟩|⟨⟨o',ho'⟩,_,hb1⟩
   ·rcases hnewF q o b (hFp q o hq) hb1 with h4|h4;·omega
    ·exact h3 ⟨t,_,hot,h4⟩
   ·exact h3 ⟨s,o',ho',hb1⟩
  have hD:∀s,aG st.aa s→s≠t→aG (bA (aP d (b7 x)) (cQ t x st.aa)) s∧β2 s=β s:=fun s hs hne=>by obtain⟨o,ho⟩:=hdomU' s hs hne;exact⟨⟨o,hdomOld s o ho⟩,hβold s hs⟩
  have hcalS:jG p xs=true→S1=aU S0 w0.heap.size β st.aa w→∀b,aU (fun b=>S1 b∨live β0 (ab (mY ys)) b) w.heap.size β1 F w' b→aU S0 w0.heap.size β2 (bA (aP d (b7 x)) (cQ t x st.aa)) w' b∧w'.heap[b]?=w'.heap[b]?:=by
   rintro _ hSe b ⟨h1,h2,h3⟩;refine⟨⟨?_,h2,?_⟩,rfl⟩
   ·rcases h1 with(h1|h1)|h1;·rw[hSe]at h1;exact h1.1
    ·rcases h.old t b hdt ((hlive0 b).1 h1) with h4|h4;·exact .inr h4
     ·exact .inl (hL b h4)
    ·have:=h.bS.size;exact .inr (by omega)
   ·rintro⟨s,o,ho,hb⟩;rcases hblk2 s o b ho hb with⟨q,rfl,hq,hb1⟩|⟨⟨o',ho'⟩,hou,hb1⟩;·exact h3 ⟨q,o,hFp q o hq,hb1⟩
    ·by_cases hst:s=t;·subst hst;obtain⟨g1,g2,g3⟩:=hFt o hou;exact h3 ⟨999,o,g1,by rw[g2,g3];exact hb1⟩
     ·rcases h1 with(h1|h1)|h1;·rw[hSe]at h1;exact h1.2.2 ⟨s,o',ho',hb1⟩
      ·exact hst (h.heap.inj s t b ⟨o',ho'⟩ hdt hb1 ((hlive0 b).1 h1))
      ·have:=h.lt ⟨o',ho'⟩ hb1;omega
  have hconv:∀(u:Value) (q:PV),da (aU (fun b=>S1 b∨live β0 (ab (mY ys)) b) w.heap.size β1 F w') w' u q→((flat (b7 x)∧oR (en x))→iv q=true)→da (aU S0 w0.heap.size β2 (bA (aP d (b7 x)) (cQ t x st.aa)) w') w' u q:=by
   intro u q hu hfl;rcases hcase with⟨hpu,hSe⟩|⟨hf,_⟩;·exact hu.mono (hcalS hpu hSe)
   ·exact fp hu (hfl hf)
  have hvars:∀s,RV P (aU S0 w0.heap.size β2 (bA (aP d (b7 x)) (cQ t x st.aa)) w') w' β2 (aG (bA (aP d (b7 x)) (cQ t x st.aa))) (a.tmps.getD s undef) (iV t x st.vars s):=by
   intro s;rcases hout with h1|⟨e',rows',h1⟩
   ·have:iV t x st.vars=cC t st.vars:=by unfold iV;rw[h1]
    rw[this];exact(h.vars s).kill hnp hm hD
   ·have:iV t x st.vars=st.vars:=by unfold iV;rw[h1]
    rw[this];refine(h.vars s).mono hm fun s' hs'=>?_;by_cases hst:s'=t;·subst hst;exact⟨⟨.arr e' rows',hdomOld _ _ (by rw[hobj,h1];simp[aN])⟩,hβold _ hs'⟩
    ·exact hD s' hs' hst
  have hrel:Rel P S0 L B0 w0 N ⟨iV t x st.vars,bA (aP d (b7 x)) (cQ t x st.aa)⟩ a w' β2:=by
   refine⟨h.size,h.defers,hvars,⟨fun s o ho=>?_,fun s s' b hs hs' hb hb'=>?_⟩,fun s b hs hb=>?_,h.qn,fun s h9 hs=>?_,?_⟩;·
    have harr:∀(q s:Nat) (o:AO),F q=some o→β2 s=β1 q→((∀cs,o≠.box cs)∧(∀es,o≠.map es)∧(∀e cs,o≠.rws e cs)∧(∀es,o≠.iF es)∧∀r c,o≠.nC r c)→((flat (b7 x)∧oR (en x))→∀e' rows',o=.arr e' rows'→cT rows')→bn P (aU S0 w0.heap.size β2 (bA (aP d (b7 x)) (cQ t x st.aa)) w') w' β2 (aG (bA (aP d (b7 x)) (cQ t x st.aa))) s o:=by intro q s o hq hβ hnb hfl;have hho:=hheap.holds q o hq;cases o with|box cs=>exact absurd rfl (hnb.1 cs)|map es=>exact absurd rfl (hnb.2.1 es)|rws e cs=>exact absurd rfl (hnb.2.2.1 e cs)|iF es=>exact absurd rfl (hnb.2.2.2.1 es)|nC r c=>exact absurd rfl (hnb.2.2.2.2 r c)|arr e' rows'=>obtain⟨inf',us',hi',hown',hrl',hcs'⟩:=hho;refine⟨inf',us',hi',by rw[hβ];exact hown',hrl',fun i j row q h1 h2=>?_⟩;obtain⟨u,hu,h3,h4⟩:=hcs' i j row q h1 h2;exact⟨u,hu,h3,hconv u q h4 fun hf=>hfl hf _ _ rfl row (List.mem_of_getElem? h1) q (List.mem_of_getElem? h2)⟩
    rcases hcases s o ho with⟨q,rfl,hq⟩|⟨h1,_⟩
    ·refine harr q _ o (hFp q o hq) (hβnew q o hq) ?_ ?_
     ·refine⟨?_,?_,?_,?_,?_⟩;·rintro cs rfl;unfold du at hq;split at hq<;>cases hq
      ·rintro cs rfl;unfold du at hq;split at hq<;>cases hq
      ·rintro e cs rfl;unfold du at hq;split at hq<;>cases hq
      ·rintro cs rfl;unfold du at hq;split at hq<;>cases hq
      ·rintro e cs rfl;unfold du at hq;split at hq<;>cases hq
     ·rintro⟨hf,_⟩ e' rows' rfl;have hcell:∃e',cellAt (b7 x) q=some (.fr e' rows'):=by
       unfold du at hq;split at hq;·rename_i e1 rows1 heq;injection hq with hq;injection hq with hq1 hq2;subst hq2;exact⟨e1,heq⟩
       ·cases hq
      obtain⟨e1,hce⟩:=hcell;exact(iI (b7 x) q _ hf hce:cT rows')
    ·by_cases hst:s=t
     ·subst hst;obtain⟨g1,g2,g3⟩:=hFt o h1;have hbk:=hback o h1;refine harr 999 _ o g1 (by rw[hβold _ hdt,g2,g3]) ?_ ?_
      ·refine⟨?_,?_,?_,?_,?_⟩
       ·rintro cs rfl;rcases hout with h5|⟨e',rows',h5⟩;·rw[h5]at hbk;cases hbk
        ·rw[h5]at hbk;simp at hbk
       ·rintro cs rfl;rcases hout with h5|⟨e',rows',h5⟩;·rw[h5]at hbk;cases hbk
        ·rw[h5]at hbk;simp at hbk
       ·rintro e cs rfl;rcases hout with h5|⟨e',rows',h5⟩;·rw[h5]at hbk;cases hbk
        ·rw[h5]at hbk;simp at hbk
       ·rintro cs rfl;rcases hout with h5|⟨e',rows',h5⟩;·rw[h5]at hbk;cases hbk
        ·rw[h5]at hbk;simp at hbk
       ·rintro e cs rfl;rcases hout with h5|⟨e',rows',h5⟩;·rw[h5]at hbk;cases hbk
        ·rw[h5]at hbk;simp at hbk
      ·rintro⟨_,hf⟩ e' rows' rfl;rw[hbk]at hf;exact hf.1
     ·obtain⟨o0,ho0,hor⟩:=hkeep s o h1 hst;have hbl:∀b,ct (β s)=some b→w'.heap[b]?=w.heap[b]?:=fun b hb=>hsame b (h.lt ⟨o0,ho0⟩ hb) fun hbt=>hst (h.heap.inj s t b ⟨o0,ho0⟩ hdt hb hbt);rcases hor with rfl|⟨h5,rfl⟩
      ·by_cases hx5:en x=[];·
        have h6:cQ t x st.aa s=some (dX t o):=by rw[hobj,hx5];simp[gb,hst,ho0]
        rw[h1]at h6;injection h6 with h6;rw[h6];exact(h.heap.holds s o ho0).kill hnp hm hD (hβold s ⟨o,ho0⟩) hbl
       ·refine(h.heap.holds s o ho0).mono hm (fun s' hs'=>?_) (hβold s ⟨o,ho0⟩) hbl;by_cases hst':s'=t
        ·subst hst';rcases hout with h5|⟨e',rows',h5⟩;·exact absurd h5 hx5
         ·exact⟨⟨.arr e' rows',hdomOld _ _ (by rw[hobj,h5];simp[aN])⟩,hβold _ hs'⟩
        ·exact hD s' hs' hst'
      ·exact(h.heap.holds s o0 ho0).kill hnp hm hD (hβold s ⟨o0,ho0⟩) hbl
   ·obtain⟨o,ho⟩:=hs;obtain⟨o',ho'⟩:=hs';have hfo:∀(q s:Nat) (o o':AO),du (cellAt (b7 x) q)=some o→ct (β1 q)=some b→aG st.aa s→cQ t x st.aa s=some o'→ct (β s)=some b→False:=by
     intro q s o o' hq hb1 hs hu hb2;rcases hnewF q o b (hFp q o hq) hb1 with h4|h4;·have:=h.lt hs hb2;omega
     ·have:=h.heap.inj s t b hs hdt hb2 h4;subst this;exact hapart q o b hq hb1 h4 o' hu
    rcases hblk2 s o b ho hb with⟨q,rfl,hq,hb1⟩|⟨h1,h2,h3⟩<;>rcases hblk2 s' o' b ho' hb' with⟨q',rfl,hq',hb1'⟩|⟨h1',h2',h3'⟩;·rw[hheap.inj q q' b ⟨o,hFp q o hq⟩ ⟨o',hFp q' o' hq'⟩ hb1 hb1']
    ·exact(hfo q s' o o' hq hb1 h1' h2' h3').elim
    ·exact(hfo q' s o' o hq' hb1' h1 h2 h3).elim
    ·exact h.heap.inj s s' b h1 h1' h3 h3'
   ·obtain⟨o,ho⟩:=hs;rcases hblk2 s o b ho hb with⟨q,rfl,hq,hb1⟩|⟨h1,_,h3⟩
    ·rcases hnewF q o b (hFp q o hq) hb1 with h4|h4;·have:=h.bS.size;exact .inl (by omega)
     ·exact h.old t b hdt h4
    ·exact h.old s b h1 h3
   ·obtain⟨o,ho⟩:=hs;rcases hcases s o ho with⟨q,rfl,_⟩|⟨h1,_⟩;·omega
    ·have hs:=hdomU s ⟨o,h1⟩;rw[hβold s hs];exact h.u5 s h9 hs
   ·refine⟨hfr.os.trans h.bS.os,hfr.tape.trans h.bS.tape,hfr.output.trans h.bS.output,Nat.le_trans h.bS.size hfr.size,fun b h1 h2=>?_⟩;refine(hsame b (by have:=h.bS.size;omega) fun hbt=>?_).trans (h.bS.block b h1 h2);rcases h.old t b hdt hbt with h4|h4;·omega
    ·exact h2 h4
  refine⟨v,β2,rfl,hrel,?_⟩;refine kV htup (fun q c u hc hu=>?_) hrv;have hrc:=zj (b7 x) q c hres hc;cases c with
  |fr e' rows'=>
   have hq:du (cellAt (b7 x) q)=some (.arr e' rows'):=by rw[hc];rfl
   obtain⟨hu1,hu2⟩:=RV.aT (show RV P _ w' β1 _ u (.own q) from hu);rw[hu1,←hβnew q _ hq];exact .own (d+1000*q) ⟨_,hdomNew q _ hq⟩|pv q'=>exact .pv _ _ (hconv u q' hu.bm fun hf=>iI (b7 x) q _ hf.1 hc)|rp cs=>
   rcases hcase with⟨hpu,hSe⟩|⟨hfl,_⟩;·obtain⟨ad,us',rfl,h1,h2,h3,h4⟩:=(show RV P _ w' β1 _ u (.rp cs) from hu).jb;exact .rp ad cs us' (hcalS hpu hSe _ h1).1 h2 h3 (fun j q hq=>(h4 j q hq).mono (hcalS hpu hSe))
   ·exact(iI (b7 x) q _ hfl.1 hc).elim|_=>simp[lz]at hrc
end
section
variable{P:Program}{S0 L:Nat→Prop}{B0:Nat→Value}{w0 w:World}{N:Nat}{st:St}{a:Act}{β:Nat→Value}
theorem F0 {aa objs':Nat→Option AO}{T ks:List Nat}{xs:List AV} (h:E6 aa objs' T ks xs=some [.ak]):False:=by
 have hr:∀{x:AV}{r:AV×List Nat},rd 5 aa x=some r→r.1≠.ak:=by
  intro x r h e;unfold rd at h;split at h;·obtain⟨y,hy,rfl⟩:=Option.map_eq_some_iff.1 h;simp only at e;subst e;unfold RS at hy;split at hy<;>cases hy
  ·obtain⟨_,_,h⟩:=Option.bind_eq_some_iff.1 h;obtain⟨_,_,rfl⟩:=Option.map_eq_some_iff.1 h;cases e
  ·obtain⟨_,_,rfl⟩:=Option.map_eq_some_iff.1 h;cases e
  ·cases h;cases e
  ·cases h;cases e
  ·cases h;cases e
  ·cases h
 match ks,xs with
 |[],[]=>cases h|[],_::_=>cases h|_::_,[]=>cases h|k::ks,x::xs=>
  obtain⟨y,hy,h⟩:=Option.bind_eq_some_iff.1 h;obtain⟨ys,_,h⟩:=Option.map_eq_some_iff.1 h;have e:y=.ak:=by injection h
  subst e;split at hy;·exact qJ hy
  ·split at hy;·obtain⟨r,h1,h2⟩:=Option.map_eq_some_iff.1 hy;exact hr h1 h2
   ·obtain⟨r,_,h2⟩:=Option.map_eq_some_iff.1 hy;cases h2
theorem noF {n f:Nat} (h0:n≤1000000) (h2:3000000≤f+2000000) (h:f<n):False:=by omega
theorem jq {Γ:bR} (hL:∀b,L b→S0 b) (hΓ:dS P Γ) (h:Rel P S0 L B0 w0 N st a w β) {d:Option Nat} (hd:∀s,d=some s→s<N) {f:FuncId} (hfn:ib P f=true) {K:St→Prop}{vals:List Value}{xs:List AV} (hl:vals.length=xs.length) (hv:an xs→∀(i:Nat) (v:Value) (x:AV),vals[i]?=some v→(xs.map strip)[i]?=some x→RV P (aU S0 w0.heap.size β st.aa w) w β (aG st.aa) v x) (hs:stepG Γ d f xs (jd Γ f) K st):Calls P f vals.toArray w fun e w'=>∃v β' st',e=.returned v∧K st'∧Rel P S0 L B0 w0 N st' (a.put d v) w' β':=by
 unfold stepG at hs;obtain⟨d,rfl,ha,hs⟩:=ae hs;obtain⟨ks,_,hs⟩:=ae hs;obtain⟨hTn,hQT,hs⟩:=hs;obtain⟨hQn0,hs⟩:=hs;obtain⟨ys,hys,hs⟩:=ae hs;obtain⟨⟨φ,x⟩,hx,hφ,hpf,hs⟩:=ae hs;obtain⟨o,ho,ho1,hs⟩:=ae hs;obtain⟨r,hr,hfree,hK⟩:=ae hs;have hdN:=hd d rfl;have hlim:=h.qn.1;have hcon:Bv P f ys x:=by
  rcases hΓ (f+2000000) ys φ x hx hφ with⟨h1,_⟩|⟨_,_,h1,_⟩|⟨_,_,_,h1|h1⟩|⟨h0,h1,_⟩;·exact absurd h1 (Nat.not_lt.2 (Nat.le_trans (by decide) (Nat.le_add_left 2000000 f)))
  ·exact absurd h1 (Nat.not_lt.2 (Nat.le_add_left 2000000 f))
  ·subst h1;exact(F0 hys).elim
  ·rw[show f+2000000-2000000=f from Nat.add_sub_cancel _ _]at h1;exact h1
  ·exact(noF h0 h1 (iA hfn)).elim
 have hQn:∀{T Q:List Nat},T.Nodup→Q.Nodup→(∀t∈Q,t∈T)→(Q++pf d T (T.filter fun t=>!Q.contains t)).Nodup:=by
  intro T Q hT hQ hQT;unfold pf;rw[List.nodup_append,List.nodup_append];refine⟨hQ,⟨List.Pairwise.filter _ (List.Pairwise.filter _ hT),List.Pairwise.filter _ (qN d),?_⟩,?_⟩;·rintro x hx y hy rfl;have h1:=(List.mem_filter.1 (List.mem_filter.1 hx).1).1;have h2:=(List.mem_filter.1 hy).2;simp at h2;exact h2 h1
  ·rintro x hx y hy rfl;rcases List.mem_append.1 hy with hy|hy;·have h2:=(List.mem_filter.1 (List.mem_filter.1 hy).1).2;simp at h2;exact h2 hx
   ·have h2:=(List.mem_filter.1 hy).2;simp at h2;exact h2 (hQT _ hx)
 refine(G0 (a:=a) (fun _=>hL) h (by omega) (by rw[hl,List.length_map]) (hv ha) rfl rfl rfl hTn hQT (hQn hTn hQn0 hQT) hys hcon hpf ho ho1 hr hfree).mono ?_;rintro e w' ⟨v,β',rfl,hR,hrv⟩;exact⟨v,β',_,rfl,hK,hR.put hd hrv⟩
end
theorem uq {q:Option AO}{es:List (PV×PV)} (h:sd q=some es):q=some (.iF es):=by
 unfold sd at h;split at h;·cases h;rfl
 ·cases h
theorem zX {q:Option AO}{r:List (PV×PV)×Option (PV×PV)} (h:Fx q=some r):q=some (.nC r.1 r.2):=by
 unfold Fx at h;split at h;·cases h;rfl
 ·cases h
theorem da.bY {S:Nat→Prop}{w:World}{p:PV} (h:dw p<99):da S w (bY p) p:=by cases p with|int k n=>exact .int k n|bool b=>exact .bool b|str l=>exact .str l|_=>simp[dw]at h
theorem da.oneC {S:Nat→Prop}{w:World}{u:Value}{p:PV} (h:da S w u p):u.oneCell'=true:=by cases h<;>first|rfl|assumption
section
variable{P:Program}{Γ:bR}{S0 L:Nat→Prop}{B0:Nat→Value}{w0 w:World}{N:Nat}{st:St}{a:Act}{β:Nat→Value}{o:Oper}{xs:List Operand}
theorem Rel.Pd (h:Rel P S0 L B0 w0 N st a w β) {t b:Nat}{q q':AO}{ob ob':Obj} (ht:st.aa t=some q) (hblk:ct (β t)=some b) (hh:w.heap[b]?=some ob) (hq:∀{S':Nat→Prop}{w':World},w'.heap[b]?=some ob'→(∀k,aU S0 w0.heap.size β st.aa w k→S' k∧w'.heap[k]?=w.heap[k]?)→bn P S' w' β (aG (aN t q' st.aa)) t q'):Rel P S0 L B0 w0 N ⟨st.vars,aN t q' st.aa⟩ a {w with heap:=w.heap.setIfInBounds b ob'} β∧∀k,aU S0 w0.heap.size β st.aa w k→aU S0 w0.heap.size β (aN t q' st.aa) {w with heap:=w.heap.setIfInBounds b ob'} k∧(w.heap.setIfInBounds b ob')[k]?=w.heap[k]?:=by
 have hset:=MapKept.heap_set (o':=ob') hh;have hmo:∀k,aU S0 w0.heap.size β st.aa w k→aU S0 w0.heap.size β (aN t q' st.aa) {w with heap:=w.heap.setIfInBounds b ob'} k∧(w.heap.setIfInBounds b ob')[k]?=w.heap[k]?:=by
  rintro k ⟨g1,g2,g3⟩;have hkb:k≠b:=fun e=>g3 ⟨t,_,ht,by rw[e];exact hblk⟩;refine⟨⟨g1,by simpa using g2,?_⟩,hset.2 k hkb⟩;rintro⟨s,q,hs,hk⟩;by_cases e:s=t;·subst e;exact hkb (by rw[hblk]at hk;injection hk with hk;exact hk.symm)
  ·exact g3 ⟨s,q,by simpa[aN,e]using hs,hk⟩
 exact⟨(h.wE (w':={w with heap:=w.heap.setIfInBounds b ob'}) (o':=q') ht hblk rfl rfl rfl (by simp) hset.2 (hq hset.1 hmo)).1,hmo⟩
theorem Nc {t:TypeId}{d:Nat} (ho:o.op=.makeMap t none) (h:Rel P S0 L B0 w0 N st a w β) (hd:d<N) (ht:st.aa d=none):∃v w' β',(execOp a.eval o).run P w=.ok (.value v) w'∧Rel P S0 L B0 w0 N ⟨Ab.put (some d) (.own d) st.vars,bA [(d,.iF [])] st.aa⟩ (a.put (some d) v) w' β':=by have hf:=h.fresh hd ht (cP w (.map #[] 0)) (v:=.map (some w.heap.size)) (fun b hb=>by simp[ct]at hb;omega) (o:=.iF []) ⟨w.heap.size,#[],0,aV _ _ _,heap_alloc_new w _,MapKept.stamped_empty 0,rfl,fun i e u h1=>by simp at h1⟩;rw[cx];refine⟨.map (some w.heap.size),w.alloc (.map #[] 0),_,by simp[execOp,ho,Instr.makeMap,Result.andThen],hf.put (d:=some d) (fun s hs=>by injection hs with hs;omega) ?_⟩;have:=RV.own (P:=P) (S:=aU S0 w0.heap.size (eD β d (.map (some w.heap.size))) (aN d (.iF []) st.aa) (w.alloc (.map #[] 0))) (w:=w.alloc (.map #[] 0)) (β:=eD β d (.map (some w.heap.size))) (D:=aG (aN d (.iF []) st.aa)) d (bP.2 (.inl rfl));rwa[aV]at this
theorem OK {t:TypeId}{m k x:Operand}{kt et:TypeId}{s:Nat} (ho:(execOp a.eval o).run P w=(do Instr.mapUpdate t (a.eval m) (a.eval k) (a.eval x);pure Next.skip:Sem Next).run P w) (hm:jm P t=some (kt,et)) (hsrt:kb P kt=some s) (h:Rel P S0 L B0 w0 N st a w β) (hd:∀s,o.dst=some s→s<N) {X K Y:AV} (hX:RV P (aU S0 w0.heap.size β st.aa w) w β (aG st.aa) (a.eval m) X) (hK:RV P (aU S0 w0.heap.size β st.aa w) w β (aG st.aa) (a.eval k) K) (hY:RV P (aU S0 w0.heap.size β st.aa w) w β (aG st.aa) (a.eval x) Y) {tg:Nat}{p v:PV}{es:List (PV×PV)} (e1:X=.own tg) (e2:K=.pv p) (e3:Y=.pv v) (hob:st.aa tg=some (.iF es)) (hp:dw p=s) (hks:fX s es):∃w',(execOp a.eval o).run P w=.ok .skip w'∧Rel P S0 L B0 w0 N ⟨Ab.put o.dst .ak st.vars,aN tg (.iF (lP p v es)) st.aa⟩ (a.put o.dst undef) w' β:=by
 subst e1 e2 e3;obtain⟨b,us,c,hb,hh,hst,hl,hc⟩:=h.heap.holds tg _ hob;have hmt:=fL hm;obtain⟨d,hdk,hkey⟩:=gH hsrt;have hs99:=ns hsrt;have hmv:a.eval m=.map (some b):=hX.aT.1.trans hb;have hkv:a.eval k=Ab.bY p:=ki hK hp hs99;have hblk:ct (β tg)=some b:=by rw[hb];rfl
 have hfind:=iM hkey hp hs99 us.toList es 0 hks hl fun i e u h1 h2=>(hc i e u h1 h2).1;have hv:=hY.bm;have main:∀(us':Array MapEntry) (c':Nat),(execOp a.eval o).run P w=.ok .skip {w with heap:=w.heap.setIfInBounds b (.map us' c')}→MapKept.Stamped us' c'→us'.toList.length=(lP p v es).length→(∀(i:Nat) (e:PV×PV) (u:MapEntry),(lP p v es)[i]?=some e→us'.toList[i]?=some u→(e=(p,v)∧u.key=Ab.bY p∧u.val=a.eval x)∨∃j:Nat,es[j]?=some e∧us.toList[j]?=some u)→∃w',(execOp a.eval o).run P w=.ok .skip w'∧Rel P S0 L B0 w0 N ⟨Ab.put o.dst .ak st.vars,aN tg (.iF (lP p v es)) st.aa⟩ (a.put o.dst undef) w' β:=by
  intro us' c' hrun hst' hl' hc';refine⟨_,hrun,(h.Pd (q':=.iF (lP p v es)) (ob':=.map us' c') hob hblk hh fun{S' w'} hw' hmo=>⟨b,us',c',hb,hw',hst',hl',fun i e u h1 h2=>?_⟩).1.put hd (.ak _)⟩;rcases hc' i e u h1 h2 with⟨rfl,g1,g2⟩|⟨j,g1,g2⟩;·rw[g2];exact⟨g1,by show dw p<99;omega,hv.oneC,hv.mono hmo⟩
  ·have:=hc j e u g1 g2;exact⟨this.1,this.2.1,this.2.2.1,this.2.2.2.mono hmo⟩
 rcases hfind with⟨h1,h2,h3,_,h5⟩|⟨j,e,u,h1,h2,h3,h4,h5,h6,_⟩
 ·refine main (us.push {key:=Ab.bY p,val:=a.eval x,born:=c}) (c+1) ?_ (MapKept.stamped_push hst h5) ?_ ?_;·rw[ho,hmv,hkv];simp[Instr.mapUpdate,run_underlying hmt,MapKept.run_getObj_map hh,MapKept.run_checkKey hdk (hkey p hp),MapKept.run_findKey hdk h1,MapKept.run_setObj_map _ hh,Result.andThen]
  ·rw[h3];simpa using hl
  ·intro i e u g1 g2;rw[h3]at g1;simp only[Array.toList_push]at g2;by_cases hi:i<es.length;·rw[List.getElem?_append_left hi]at g1;rw[List.getElem?_append_left (by omega)]at g2;exact .inr ⟨i,g1,g2⟩
   ·rw[List.getElem?_append_right (by omega)]at g1;rw[List.getElem?_append_right (by omega),hl]at g2;cases hz:i-es.length with|zero=>rw[hz]at g1 g2;simp only[List.getElem?_cons_zero,Option.some.injEq]at g1 g2;subst g1 g2;exact .inl ⟨rfl,rfl,rfl⟩|succ n=>rw[hz]at g1;simp at g1
 ·have hj:us[j]?=some u:=by simpa using h3
  refine main (us.modify j fun e=>{e with key:=Ab.bY p,val:=a.eval x}) c ?_ (MapKept.stamped_modify hst _ _ (fun _ _=>rfl) fun e' he' hje=>?_) ?_ ?_;·rw[ho,hmv,hkv];rw[Nat.zero_add]at h1;simp[Instr.mapUpdate,run_underlying hmt,MapKept.run_getObj_map hh,MapKept.run_checkKey hdk (hkey p hp),MapKept.run_findKey hdk h1,hj,h4,MapKept.run_keyThatStays (hkey p hp),MapKept.run_setObj_map _ hh,Result.andThen]
  ·rw[hj]at hje;cases hje;exact h4.symm
  ·rw[h6];simpa using hl
  ·intro i e' u' g1 g2;rw[h6]at g1;have g2':(us.modify j fun e=>{e with key:=Ab.bY p,val:=a.eval x})[i]?=some u':=by rw[←Array.getElem?_toList];exact g2
   rw[Array.getElem?_modify]at g2';rw[List.getElem?_set]at g1;by_cases hij:j=i
   ·subst hij;rw[if_pos rfl,hj]at g2';rw[if_pos rfl]at g1;split at g1;·simp only[Option.some.injEq,Option.map_some]at g1 g2';subst g1 g2';exact .inl ⟨rfl,rfl,rfl⟩
    ·cases g1
   ·rw[if_neg hij]at g1 g2';exact .inr ⟨i,g1,by simpa using g2'⟩
theorem P5 {t kt et:TypeId}{m k:Operand}{s:Nat} (ho:o.op=.call {callee:=.builtin .delete,args:=#[m,k],argTypes:=#[t,kt]}) (hm:jm P t=some (kt,et)) (hsrt:kb P kt=some s) (h:Rel P S0 L B0 w0 N st a w β) (hd:∀s,o.dst=some s→s<N) {X K:AV} (hX:RV P (aU S0 w0.heap.size β st.aa w) w β (aG st.aa) (a.eval m) X) (hK:RV P (aU S0 w0.heap.size β st.aa w) w β (aG st.aa) (a.eval k) K) {tg:Nat}{p:PV}{es:List (PV×PV)} (e1:X=.own tg) (e2:K=.pv p) (hob:st.aa tg=some (.iF es)) (hp:dw p=s) (hks:fX s es):∃v w',(execOp a.eval o).run P w=.ok (.value v) w'∧Rel P S0 L B0 w0 N ⟨Ab.put o.dst .ak st.vars,aN tg (.iF (qA p es)) st.aa⟩ (a.put o.dst v) w' β:=by
 subst e1 e2;obtain⟨b,us,c,hb,hh,hst,hl,hc⟩:=h.heap.holds tg _ hob;have hmt:=fL hm;obtain⟨d,hdk,hkey⟩:=gH hsrt;have hs99:=ns hsrt;have hmv:a.eval m=.map (some b):=hX.aT.1.trans hb;have hkv:a.eval k=Ab.bY p:=ki hK hp hs99;have hblk:ct (β tg)=some b:=by rw[hb];rfl
 have hfind:=iM hkey hp hs99 us.toList es 0 hks hl fun i e u h1 h2=>(hc i e u h1 h2).1;have main:∀(us':Array MapEntry),(execOp a.eval o).run P w=.ok (.value (.tuple #[])) {w with heap:=w.heap.setIfInBounds b (.map us' c)}→MapKept.Stamped us' c→us'.toList.length=(qA p es).length→(∀(i:Nat) (e:PV×PV) (u:MapEntry),(qA p es)[i]?=some e→us'.toList[i]?=some u→∃j:Nat,es[j]?=some e∧us.toList[j]?=some u)→∃v w',(execOp a.eval o).run P w=.ok (.value v) w'∧Rel P S0 L B0 w0 N ⟨Ab.put o.dst .ak st.vars,aN tg (.iF (qA p es)) st.aa⟩ (a.put o.dst v) w' β:=by intro us' hrun hst' hl' hc';refine⟨_,_,hrun,(h.Pd (q':=.iF (qA p es)) (ob':=.map us' c) hob hblk hh fun{S' w'} hw' hmo=>⟨b,us',c,hb,hw',hst',hl',fun i e u h1 h2=>?_⟩).1.put hd (.ak _)⟩;obtain⟨j,g1,g2⟩:=hc' i e u h1 h2;have:=hc j e u g1 g2;exact⟨this.1,this.2.1,this.2.2.1,this.2.2.2.mono hmo⟩
 rcases hfind with⟨h1,h2,h3,h4,h5⟩|⟨j,e,u,h1,h2,h3,h4,h5,h6,h7⟩;·refine main us ?_ hst (by rw[h4];exact hl) (by rw[h4];exact fun i e u g1 g2=>⟨i,g1,g2⟩);simp[execOp,ho,resolve,invoke,builtin,hmv,hkv,Builtin.delete_,run_underlying hmt,MapKept.run_getObj_map hh,MapKept.run_checkKey hdk (hkey p hp),MapKept.run_findKey hdk h1,MapKept.run_setObj_map _ hh,Result.andThen]
 ·have hj:us[j]?=some u:=by simpa using h3
  have hjl:j<us.size:=(Array.getElem?_eq_some_iff.1 hj).1;have hel:(us.eraseIdxIfInBounds j).toList=us.toList.eraseIdx j:=by unfold Array.eraseIdxIfInBounds;rw[dif_pos hjl,Array.toList_eraseIdx]
  refine main (us.eraseIdxIfInBounds j) ?_ (MapKept.stamped_erase hst j) ?_ ?_;·rw[Nat.zero_add]at h1;simp[execOp,ho,resolve,invoke,builtin,hmv,hkv,Builtin.delete_,run_underlying hmt,MapKept.run_getObj_map hh,MapKept.run_checkKey hdk (hkey p hp),MapKept.run_findKey hdk h1,MapKept.run_setObj_map _ hh,Result.andThen]
  ·have h8:j<es.length:=by rw[←hl];exact hjl
   rw[hel,h7,List.length_eraseIdx_of_lt hjl,List.length_eraseIdx_of_lt h8,hl]
  ·intro i e' u' g1 g2;rw[hel,List.getElem?_eraseIdx]at g2;rw[h7,List.getElem?_eraseIdx]at g1;split at g1;·rename_i hi;rw[if_pos hi]at g2;exact⟨i,g1,g2⟩
   ·rename_i hi;rw[if_neg hi]at g2;exact⟨i+1,g1,g2⟩
theorem BP (h:Rel P S0 L B0 w0 N st a w β) {v:Value}{X:AV} (hX:RV P (aU S0 w0.heap.size β st.aa w) w β (aG st.aa) v X) {es:List (PV×PV)} (hm:GQ st.aa X=some es):∃b us c,v=.map (some b)∧w.heap[b]?=some (.map us c)∧MapKept.Stamped us c∧us.toList.length=es.length∧∀(i:Nat) (e:PV×PV) (u:MapEntry),es[i]?=some e→us.toList[i]?=some u→u.key=Ab.bY e.1∧dw e.1<99∧u.val.oneCell'=true∧da (aU S0 w0.heap.size β st.aa w) w u.val e.2:=by
 unfold GQ at hm;split at hm;·rename_i t;obtain⟨b,us,c,hb,hh,hst,hl,hc⟩:=h.heap.holds t _ (uq hm);exact⟨b,us,c,hX.aT.1.trans hb,hh,hst,hl,hc⟩
 ·cases hm;have h1:=hX.bm;cases h1 with|mv b us c es g1 g2 g3 g4 g5 g6=>exact⟨b,us,c,rfl,g2,g3,g4,fun i e u a1 a2=>⟨(g5 i e u a1 a2).1,(g5 i e u a1 a2).2.1,(g5 i e u a1 a2).2.2,g6 i e u a1 a2⟩⟩
 ·cases hm
theorem Oj {t:TypeId}{m k:Operand}{kt et:TypeId}{s:Nat}{z:Value}{ok:Bool} (ho:o.op=.lookup t m k ok) (hm:jm P t=some (kt,et)) (hsrt:kb P kt=some s) (hz:zeroV P et=some z) (hz1:z.oneCell'=true) (h:Rel P S0 L B0 w0 N st a w β) (hd:∀s,o.dst=some s→s<N) {X K:AV} (hX:RV P (aU S0 w0.heap.size β st.aa w) w β (aG st.aa) (a.eval m) X) (hK:RV P (aU S0 w0.heap.size β st.aa w) w β (aG st.aa) (a.eval k) K) {p:PV}{es:List (PV×PV)} (e2:K=.pv p) (hob:GQ st.aa X=some es) (hp:dw p=s) (hks:fX s es):∃v,(execOp a.eval o).run P w=.ok (.value v) w∧Rel P S0 L B0 w0 N ⟨Ab.put o.dst (Cl z ok (m6 p es)) st.vars,st.aa⟩ (a.put o.dst v) w β:=by
 subst e2;obtain⟨b,us,c,hmv,hh,hst,hl,hc⟩:=BP h hX hob;have hmt:=fL hm;obtain⟨d,hdk,hkey⟩:=gH hsrt;have hs99:=ns hsrt;have hkv:a.eval k=Ab.bY p:=ki hK hp hs99;have hzr:(zeroValue et).run P w=.ok z w:=by unfold zeroV at hz;obtain⟨i,hi,hz⟩:=Option.bind_eq_some_iff.1 hz;simp[zeroValue,typeInfo,hi,hz]
 have hfind:=iM hkey hp hs99 us.toList es 0 hks hl fun i e u h1 h2=>(hc i e u h1 h2).1;have fin:∀(v:Value) (x:PV) (f:Bool),(Instr.lookup t (.map (some b)) (Ab.bY p) ok).run P w=.ok (if ok=true then .tuple #[v,.bool f] else v) w→da (aU S0 w0.heap.size β st.aa w) w v x→∃v,(execOp a.eval o).run P w=.ok (.value v) w∧Rel P S0 L B0 w0 N ⟨Ab.put o.dst (if ok=true then .aS [.pv x,.pv (.bool f)] else .pv x) st.vars,st.aa⟩ (a.put o.dst v) w β:=by intro v x f hrun hv;refine⟨_,by simp only[execOp,ho,hmv,hkv];simp[hrun,Result.andThen];rfl,h.put hd ?_⟩;cases ok with|false=>exact .pv _ _ hv|true=>refine .aS _ [v,.bool f] rfl fun i c u h1 h2=>?_;match i with|0=>simp at h1 h2;subst h1 h2;exact .pv _ _ hv|1=>simp at h1 h2;subst h1 h2;exact .pv _ _ (.bool f)|i+2=>simp at h1
 unfold Cl;rcases hfind with⟨h1,h2,_⟩|⟨j,e,u,h1,h2,h3,h4,h5,_⟩;·rw[h2];refine fin z (u7 z) false ?_ (iL _ _ z hz1);simp[Instr.lookup,run_underlying hmt,MapKept.run_getObj_map hh,MapKept.run_checkKey hdk (hkey p hp),MapKept.run_findKey hdk h1,hzr,Result.andThen]
 ·rw[h5];refine fin u.val e.2 true ?_ (hc j e u h2 h3).2.2.2;simp[Instr.lookup,run_underlying hmt,MapKept.run_getObj_map hh,MapKept.run_checkKey hdk (hkey p hp),MapKept.run_findKey hdk h1,Result.andThen]
theorem Io {ne:Bool}{t e yt:TypeId}{x:Operand} (ho:o.op=.binOp (if ne=true then .neq else .eql) t x (.const (.pointer none)) yt) (hu:P.underlying t=some (.pointer e)) (h:Rel P S0 L B0 w0 N st a w β) (hd:∀s,o.dst=some s→s<N) {X:AV} (hX:RV P (aU S0 w0.heap.size β st.aa w) w β (aG st.aa) (a.eval x) X) {b:Bool} (hb:uo X=some b):∃v,(execOp a.eval o).run P w=.ok (.value v) w∧Rel P S0 L B0 w0 N ⟨Ab.put o.dst (.pv (.bool (b !=ne))) st.vars,st.aa⟩ (a.put o.dst v) w β:=by
 have hv:∃A,a.eval x=.pointer A∧A.isNone=b:=by
  unfold uo at hb;split at hb;·cases hb;obtain⟨b',e,_⟩:=hX.eg;exact⟨_,e,rfl⟩
  ·cases hb;obtain⟨b',n,c,inf,e,_⟩:=hX.fP;exact⟨_,e,rfl⟩
  ·cases hb;obtain⟨ad,us,e,_⟩:=hX.jb;exact⟨_,e,rfl⟩
  ·cases hb;have h1:=hX.bm;generalize a.eval x=u at h1 ⊢;cases h1 with|pt ad cs us _ _ _ _=>exact⟨_,rfl,rfl⟩
  ·split at hb;·cases hb;have h1:=hX.bm;generalize a.eval x=u at h1 ⊢;cases h1 with|val v hv=>exact⟨none,rfl,rfl⟩
   ·cases hb
  ·cases hb
 obtain⟨A,hxv,hA⟩:=hv;have hu':P.underlying t=some (.pointer (P.pointee t)):=by rw[hu];unfold Program.pointee;rw[hu]
 have hg:∀op,(eqGuard op t x (.const (.pointer none)) (.pointer A) (.pointer none)).run P w=.ok () w:=by intro op;unfold eqGuard;cases op<;>simp<;>rfl
 refine⟨.bool (b !=ne),?_,h.put hd (.pv _ _ (.bool _))⟩;have hev:a.eval (.const (.pointer none))=.pointer none:=rfl;cases ne with|false=>simp[execOp,ho,hxv,hev,hg,run_eql_pointer_nil w t A hu',Result.andThen,hA]|true=>simp[execOp,ho,hxv,hev,hg,run_neq_pointer_nil w t A hu',Result.andThen,hA]
theorem N7 {t kt et:TypeId}{x:Operand}{d:Nat} (ho:o.op=.range t x) (hm:jm P t=some (kt,et)) (h:Rel P S0 L B0 w0 N st a w β) (hd:d<N) (ht:st.aa d=none) {es:List (PV×PV)} (hX:RV P (aU S0 w0.heap.size β st.aa w) w β (aG st.aa) (a.eval x) (.pv (.mv es))):∃v w' β',(execOp a.eval o).run P w=.ok (.value v) w'∧Rel P S0 L B0 w0 N ⟨Ab.put (some d) (.ptr d 0) st.vars,bA [(d,.nC es none)] st.aa⟩ (a.put (some d) v) w' β':=by have h1:=hX.bm;generalize hxv:a.eval x=xv at h1;cases h1 with|mv b us c es g1 g2 g3 g4 g5 g6=>
 have hmt:=fL hm;have hlo:leftOf us #[]=us:=by unfold leftOf;simp
 let it:Obj:=.mapIter (some b) c #[] c;have hbl:b<w.heap.size:=g1.2.1;have hgr:=cP w it;have hmono:∀k,aU S0 w0.heap.size β st.aa w k→aU S0 w0.heap.size (eD β d (.pointer (some ⟨w.heap.size,0,none⟩))) (aN d (.nC es none) st.aa) (w.alloc it) k∧(w.alloc it).heap[k]?=w.heap[k]?:=by
  intro k hk;refine⟨⟨hk.1,Nat.lt_of_lt_of_le hk.2.1 hgr.size,?_⟩,hgr.block k hk.2.1 (by simp)⟩;rintro⟨s,q,hs,hb⟩;by_cases e:s=d;·subst e;rw[aV]at hb;simp[ct]at hb;have:=hk.2.1;omega
  ·rw[cF _ _ e]at hb;exact hk.2.2 ⟨s,q,by simpa[aN,e]using hs,hb⟩
 have hf:=h.fresh hd ht hgr (v:=.pointer (some ⟨w.heap.size,0,none⟩)) (fun b hb=>by simp[ct]at hb;omega) (o:=.nC es none) ⟨w.heap.size,b,us,c,#[],aV _ _ _,heap_alloc_new w _,(hmono b g1).1,(hmono b g1).2.trans g2,g3,by rw[hlo];exact g4,fun i e u h1 h2=>by rw[hlo]at h2;exact⟨(g5 i e u h1 h2).1,(g5 i e u h1 h2).2.1,(g5 i e u h1 h2).2.2,(g6 i e u h1 h2).mono hmono⟩,fun e he=>by cases he⟩;rw[cx];refine⟨.pointer (some ⟨w.heap.size,0,none⟩),w.alloc it,_,by simp[execOp,ho,hxv,Instr.range,run_underlying hmt,MapKept.run_getObj_map g2,Result.andThen,it],hf.put (d:=some d) (fun s hs=>by injection hs with hs;omega) ?_⟩;exact .ptr d 0 w.heap.size (bP.2 (.inl rfl)) (aV _ _ _)
theorem O8 {x:Operand} (ho:o.op=.entry x) (h:Rel P S0 L B0 w0 N st a w β) (hd:∀s,o.dst=some s→s<N) {tg:Nat}{rem:List (PV×PV)}{e:PV×PV} (hob:st.aa tg=some (.nC rem (some e))) (hX:RV P (aU S0 w0.heap.size β st.aa w) w β (aG st.aa) (a.eval x) (.ptr tg 0)):∃v,(execOp a.eval o).run P w=.ok (.value v) w∧Rel P S0 L B0 w0 N ⟨Ab.put o.dst (.aS [.pv e.1,.pv e.2]) st.vars,st.aa⟩ (a.put o.dst v) w β:=by
 obtain⟨r,m,us,c,seen,hp,hh,hm,hmm,hst,hl,hc,hcur⟩:=h.heap.holds tg _ hob;obtain⟨u,s',rfl,hu,hk,hk99,hone,hv⟩:=hcur e rfl;obtain⟨b,hxv,_,hb⟩:=hX.eg;rw[hp]at hb;have hb:r=b:=by simpa using hb
 subst hb;refine⟨.tuple #[u.key,u.val],?_,h.put hd (.aS _ [u.key,u.val] rfl fun i c w1 h1 h2=>?_)⟩;·have hr:=run_entry_at (P:=P) w r m c s' us c u hh hmm hu hst.2.1;rw[←hxv]at hr;simp only[execOp,ho];simp[hr,Result.andThen]
 ·match i with|0=>simp at h1 h2;subst h1 h2;rw[hk];exact .pv _ _ (.bY hk99)|1=>simp at h1 h2;subst h1 h2;exact .pv _ _ hv|i+2=>simp at h1
theorem Rel.UL (h:Rel P S0 L B0 w0 N st a w β) {w1:World} (hw:w1=w∨w1=w.drew):Rel P S0 L B0 w0 N st a w1 β:=by
 rcases hw with rfl|rfl;·exact h
 ·exact h.drew
theorem Af (us:Array MapEntry) (seen:Array Nat) (b:Nat):(leftOf us (seen.push b)).toList=(leftOf us seen).toList.filter fun e=>e.born !=b:=by unfold leftOf;simp only[Array.toList_filter,List.filter_filter];congr 1;funext e;rw[Array.contains_push];cases h:seen.contains e.born<;>cases h2:(e.born==b)<;>simp[bne,h2]
theorem oN:∀(Ls:List MapEntry) (j:Nat) {e:MapEntry},Ls[j]?=some e→(Ls.map (·.born)).Nodup→Ls.filter (fun x=>x.born !=e.born)=Ls.eraseIdx j
 |[],j,e,hj,_=>by simp at hj|y::Ls,0,e,hj,hnd=>by rw[List.map_cons,List.nodup_cons]at hnd;simp only[List.getElem?_cons_zero,Option.some.injEq]at hj;subst hj;rw[List.filter_cons,if_neg (by simp),List.eraseIdx_cons_zero,List.filter_eq_self];intro z hz;simp only[bne_iff_ne,ne_eq];intro e;exact hnd.1 (e▸List.mem_map_of_mem hz)|y::Ls,j+1,e,hj,hnd=>by
  rw[List.map_cons,List.nodup_cons]at hnd;have hj':Ls[j]?=some e:=by simpa using hj
  have hne:y.born≠e.born:=fun eq=>hnd.1 (eq▸List.mem_map_of_mem (List.mem_of_getElem? hj'));rw[List.filter_cons,if_pos (by simpa using hne),List.eraseIdx_cons_succ,oN Ls j hj' hnd.2]
theorem PR {x:Operand} (ho:o.op=.next x false) (h:Rel P S0 L B0 w0 N st a w β) (hd:∀s,o.dst=some s→s<N) {tg:Nat}{rem:List (PV×PV)}{cur:Option (PV×PV)} (hob:st.aa tg=some (.nC rem cur)) (hX:RV P (aU S0 w0.heap.size β st.aa w) w β (aG st.aa) (a.eval x) (.ptr tg 0)):(rem=[]∧∃v,(execOp a.eval o).run P w=.ok (.value v) w∧Rel P S0 L B0 w0 N ⟨Ab.put o.dst (.aS [.pv (.bool false)]) st.vars,st.aa⟩ (a.put o.dst v) w β)∨∃e l m v w',rem=l++e::m∧(execOp a.eval o).run P w=.ok (.value v) w'∧Rel P S0 L B0 w0 N ⟨Ab.put o.dst (.aS [.pv (.bool true),.pv e.1,.pv e.2]) st.vars,aN tg (.nC (l++m) (some e)) st.aa⟩ (a.put o.dst v) w' β:=by
 obtain⟨r,m,us,c,seen,hp,hh,hm,hmm,hst,hl,hc,hcur⟩:=h.heap.holds tg _ hob;obtain⟨b,hxv,_,hb⟩:=hX.eg;rw[hp]at hb;have hb:r=b:=by simpa using hb
 subst hb;have hblk:ct (β tg)=some r:=by rw[hp];rfl
 rcases run_next_at (P:=P) w o.type r m c c seen us c hh hmm hst.1 (Nat.le_refl _) with⟨h0,hrun⟩|⟨e,he,w1,hw1,hrun⟩
 ·left;have hrem:rem=[]:=by apply List.eq_nil_of_length_eq_zero;rw[←hl,Array.length_toList,h0]
  rw[←hxv]at hrun;refine⟨hrem,.tuple #[.bool false],by simp only[execOp,ho];simp[hrun,Result.andThen],h.put hd (.aS _ [.bool false] rfl fun i c u h1 h2=>?_)⟩;match i with|0=>simp at h1 h2;subst h1 h2;exact .pv _ _ (.bool _)|i+1=>simp at h1
 ·right;obtain⟨j,hj⟩:=List.getElem?_of_mem he;have hjl:j<(leftOf us seen).toList.length:=(List.getElem?_eq_some_iff.1 hj).1;have hjr:j<rem.length:=by omega
  have hrj:rem[j]?=some rem[j]:=List.getElem?_eq_getElem hjr;have hfacts:=hc j rem[j] e hrj hj;have hh1:w1.heap[r]?=some (.mapIter (some m) c seen c):=by rcases hw1 with e|e<;>(rw[e];exact hh)
  have h1:=h.UL hw1;have hsplit:rem=rem.take j++rem[j]::rem.drop (j+1):=by rw[←List.drop_eq_getElem_cons hjr,List.take_append_drop]
  have hnd:((leftOf us seen).toList.map (·.born)).Nodup:=by
   have:(leftOf us seen).toList.Sublist us.toList:=by unfold leftOf;rw[Array.toList_filter];exact List.filter_sublist
   exact(this.map _).nodup hst.2.1
  have hleft:(leftOf us (seen.push e.born)).toList=(leftOf us seen).toList.eraseIdx j:=by rw[Af];exact oN _ j hj hnd
  have hremE:rem.take j++rem.drop (j+1)=rem.eraseIdx j:=by rw[List.eraseIdx_eq_take_drop_succ]
  rw[←hxv]at hrun;refine⟨rem[j],rem.take j,rem.drop (j+1),.tuple #[.bool true,e.key,e.val],ChangeMaps.setBlock w1 r (.mapIter (some m) c (seen.push e.born) c),hsplit,by simp only[execOp,ho];simp[hrun,Result.andThen],?_⟩;have hset:=h1.Pd (q':=.nC (rem.take j++rem.drop (j+1)) (some rem[j])) (ob':=.mapIter (some m) c (seen.push e.born) c) hob hblk hh1 fun{S' w'} hw' hmo=>?_;·refine Rel.put hset.1 hd (.aS [.pv (.bool true),.pv rem[j].1,.pv rem[j].2] [.bool true,e.key,e.val] rfl fun i c u h1 h2=>?_);match i with
   |0=>simp at h1 h2;subst h1 h2;exact .pv _ _ (.bool _)|1=>simp at h1 h2;subst h1 h2;rw[hfacts.1];exact .pv _ _ (.bY hfacts.2.1)|2=>
    simp at h1 h2;subst h1 h2;refine .pv _ _ (hfacts.2.2.2.mono fun k hk=>?_);have hk1:aU S0 w0.heap.size β st.aa w1 k:=by rcases hw1 with e|e<;>(rw[e];exact hk)
    have:=hset.2 k hk1;refine⟨this.1,this.2.trans ?_⟩;rcases hw1 with e|e<;>rw[e]<;>rfl|i+3=>simp at h1
  ·have hmo':∀k,aU S0 w0.heap.size β st.aa w k→S' k∧w'.heap[k]?=w.heap[k]?:=by rcases hw1 with e|e<;>(rw[e]at hmo;exact hmo)
   refine⟨r,m,us,c,seen.push e.born,hp,hw',(hmo' m hm).1,(hmo' m hm).2.trans hmm,hst,?_,fun i x u g1 g2=>?_,fun x hx=>?_⟩;·rw[hleft,hremE,List.length_eraseIdx_of_lt hjl,List.length_eraseIdx_of_lt hjr,hl]
   ·rw[hremE,List.getElem?_eraseIdx]at g1;rw[hleft,List.getElem?_eraseIdx]at g2;have:∃q:Nat,rem[q]?=some x∧(leftOf us seen).toList[q]?=some u:=by
     split at g1;·rename_i hi;rw[if_pos hi]at g2;exact⟨i,g1,g2⟩
     ·rename_i hi;rw[if_neg hi]at g2;exact⟨i+1,g1,g2⟩
    obtain⟨q,q1,q2⟩:=this;have:=hc q x u q1 q2;exact⟨this.1,this.2.1,this.2.2.1,this.2.2.2.mono hmo'⟩
   ·cases hx;refine⟨e,seen,rfl,?_,hfacts.1,hfacts.2.1,hfacts.2.2.1,hfacts.2.2.2.mono hmo'⟩;have:e∈(leftOf us seen).toList:=he;unfold leftOf at this;simp only[Array.toList_filter,List.mem_filter]at this;exact this.1
theorem EK {x:XK}{K:St→Prop}{K':Act→World→Prop}{Q:Exit→Act→World→Prop} (hc:zq P o=some (x,xs)) (hd:∀s,o.dst=some s→s<N) (h:Rel P S0 L B0 w0 N st a w β) (hK:∀st a w β,K st→Rel P S0 L B0 w0 N st a w β→K' a w) (hs:aX o.dst x (xs.map (Ab.ev st.vars)) K st):o.wp P a w K' Q:=by
 have hput:∀{t:TypeId}{m k y:Operand}{kt et:TypeId}{s:Nat},(execOp a.eval o).run P w=(do Instr.mapUpdate t (a.eval m) (a.eval k) (a.eval y);pure Next.skip:Sem Next).run P w→jm P t=some (kt,et)→kb P kt=some s→aX o.dst (.Sv s) ([m,k,y].map (Ab.ev st.vars)) K st→o.wp P a w K' Q:=by
  intro t m k y kt et s ho hm hsr hs;have hs:qH o.dst s (strip (Ab.ev st.vars m)) (strip (Ab.ev st.vars k)) (rQ (strip (Ab.ev st.vars y))) ([m,k,y].map (Ab.ev st.vars)) K st:=hs;unfold qH at hs;split at hs;·rename_i t' p v e1 e2 e3;obtain⟨ha,hs⟩:=hs;obtain⟨es,hes,hp,hks,hKs⟩:=ae hs;obtain⟨w',hrun,hR⟩:=OK ho hm hsr h hd (h.dr m ha.1) (h.dr k ha.2.1) (h.dr y ha.2.2.1).nrm e1 e2 e3 (uq hes) hp hks;exact iQ hrun (hK _ _ _ β hKs hR)
  ·exact hs.elim
 unfold zq at hc;split at hc
 ·rename_i t ho;split at hc
  ·split at hc;·cases hc;have hs:ai o.dst fun d=>st.aa d=none∧K ⟨Ab.put (some d) (.own d) st.vars,bA [(d,.iF [])] st.aa⟩:=hs;obtain⟨d,hdd,hn,hKs⟩:=ae hs;obtain⟨v,w',β',hrun,hR⟩:=Nc ho h (hd d hdd) hn;exact aJ hrun (hK _ _ _ β' hKs (by rw[hdd];exact hR))
   ·cases hc
  ·cases hc
 ·rename_i t m k y ho;split at hc
  ·rename_i kt et hm;split at hc
   ·rename_i s hsr;split at hc;·cases hc;exact hput (by simp only[execOp,ho]) hm hsr hs
    ·cases hc
   ·cases hc
  ·cases hc
 ·rename_i t m k y ho;split at hc
  ·rename_i kt et hm;split at hc
   ·rename_i s hsr;split at hc;·cases hc;exact hput (by simp only[execOp,ho]) hm hsr hs
    ·cases hc
   ·cases hc
  ·cases hc
 ·rename_i t m k ok ho;split at hc
  ·rename_i kt et hm;split at hc
   ·rename_i s z hsr hz;split at hc
    ·cases hc;have hs:vW o.dst s z ok (strip (Ab.ev st.vars m)) (strip (Ab.ev st.vars k)) ([m,k].map (Ab.ev st.vars)) K st:=hs;unfold vW at hs;split at hs;·rename_i p e2;obtain⟨ha,hs⟩:=hs;obtain⟨es,hes,hz1,hp,hks,hKs⟩:=ae hs;obtain⟨v,hrun,hR⟩:=Oj ho hm hsr hz hz1 h hd (h.dr m ha.1) (h.dr k ha.2.1) e2 hes hp hks;exact aJ hrun (hK _ _ _ β hKs hR)
     ·exact hs.elim
    ·cases hc
   ·cases hc
  ·cases hc
 ·rename_i op t x0 y yt ho;split at hc
  ·rename_i e hu;split at hc
   ·have fin:∀ne:Bool,o.op=.binOp (if ne=true then .neq else .eql) t x0 (.const (.pointer none)) yt→aX o.dst (.Fh ne) ([x0].map (Ab.ev st.vars)) K st→o.wp P a w K' Q:=by intro ne ho hs;have hs:an ([x0].map (Ab.ev st.vars))∧ai (uo (strip (Ab.ev st.vars x0))) fun b=>K ⟨Ab.put o.dst (.pv (.bool (b !=ne))) st.vars,st.aa⟩:=hs;obtain⟨ha,hs⟩:=hs;obtain⟨b,hb,hKs⟩:=ae hs;obtain⟨v,hrun,hR⟩:=Io ho hu h hd (h.dr x0 ha.1) hb;exact aJ hrun (hK _ _ _ β hKs hR)
    split at hc;·cases hc;exact fin false ho hs
    ·cases hc;exact fin true ho hs
    ·cases hc
   ·cases hc
  ·cases hc
 ·rename_i c ho;split at hc
  ·rename_i m k t kt' e1 e2 e3;split at hc
   ·rename_i kt et hm;split at hc
    ·rename_i s hsr;split at hc
     ·rename_i hone;cases hc;have hs:wH o.dst s (strip (Ab.ev st.vars m)) (strip (Ab.ev st.vars k)) ([m,k].map (Ab.ev st.vars)) K st:=hs;unfold wH at hs;split at hs
      ·rename_i t' p e4 e5;obtain⟨ha,hs⟩:=hs;obtain⟨es,hes,hp,hks,hKs⟩:=ae hs;obtain⟨cal,args,tys⟩:=c;simp only at e1 e2 e3;have e2':args=#[m,k]:=by apply Array.ext';simpa using e2
       have e3':tys=#[t,kt]:=by apply Array.ext';rw[hone.2]at e3;simpa using e3
       subst e1 e2' e3';obtain⟨v,w',hrun,hR⟩:=P5 ho hm hsr h hd (h.dr m ha.1) (h.dr k ha.2.1) e4 e5 (uq hes) hp hks;exact aJ hrun (hK _ _ _ β hKs hR)
      ·exact hs.elim
     ·cases hc
    ·cases hc
   ·cases hc
  ·cases hc
 ·rename_i t x0 ho;split at hc
  ·rename_i m hm;cases hc;have hs:xj o.dst (strip (Ab.ev st.vars x0)) ([x0].map (Ab.ev st.vars)) K st:=hs;unfold xj at hs;split at hs;·rename_i es e1;obtain⟨d,hdd,ha,hn,hKs⟩:=ae hs;have hX:=h.dr x0 ha.1;rw[e1]at hX;obtain⟨v,w',β',hrun,hR⟩:=N7 (kt:=m.1) (et:=m.2) ho hm h (hd d hdd) hn hX;exact aJ hrun (hK _ _ _ β' hKs (by rw[hdd];exact hR))
   ·exact hs.elim
  ·cases hc
 ·rename_i x0 ho;cases hc;have hs:vR o.dst (strip (Ab.ev st.vars x0)) ([x0].map (Ab.ev st.vars)) K st:=hs;unfold vR at hs;split at hs
  ·rename_i t e1;obtain⟨ha,hs⟩:=hs;obtain⟨⟨rem,cur⟩,hr,h1,h2⟩:=ae hs;have hX:=h.dr x0 ha.1;rw[e1]at hX;rcases PR ho h hd (zX hr) hX with⟨g1,v,hrun,hR⟩|⟨e,l,m,v,w',g1,hrun,hR⟩;·exact aJ hrun (hK _ _ _ β (h1 g1) hR)
   ·exact aJ hrun (hK _ _ _ β (h2 e l m g1) hR)
  ·exact hs.elim
 ·rename_i x0 ho;cases hc;have hs:wA o.dst (strip (Ab.ev st.vars x0)) ([x0].map (Ab.ev st.vars)) K st:=hs;unfold wA at hs;split at hs;·rename_i t e1;obtain⟨ha,hs⟩:=hs;obtain⟨⟨rem,cur⟩,hr,hs⟩:=ae hs;obtain⟨e,he,hKs⟩:=ae hs;have hX:=h.dr x0 ha.1;rw[e1]at hX;have hob:=zX hr;simp only at he hob;rw[he]at hob;obtain⟨v,hrun,hR⟩:=O8 ho h hd hob hX;exact aJ hrun (hK _ _ _ β hKs hR)
  ·exact hs.elim
 ·cases hc
end
end Go.Proofs.YtifcndkhigakfaaGreat.Ab
