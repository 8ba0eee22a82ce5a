/- The abstract machine is sound: a call of a function that writes to a slice that is handed over. -/
import Derived.Test.YtifcndkhigakfaaGreatY8
import Derived.Test.YtifcndkhigakfaaGreatY7
import Derived.Test.YtifcndkhigakfaaGreatY9
import Derived.MapKept
import Derived.Maps.RangeRun
import Derived.Laws.Pointers
import Derived.Lib.LazyBuf
import Derived.Laws.Externs
import Derived.Lib.AppendZeros
import Derived.Laws.MakeOwn
set_option linter.unusedVariables false
set_option linter.unusedSimpArgs false
set_option linter.unnecessarySimpa false
set_option maxHeartbeats 40000000
set_option maxRecDepth 100000
set_option linter.defProp false
namespace Go.Proofs.YtifcndkhigakfaaGreat.Ab
open Go Go.RowKit
def q66:=@Int.toNat_natCast
def q209:=@MapKept.run_setObj_map
def q218:=@Array.getElem?_modify
def q253:=@List.Pairwise.filter
def q284:=@MapKept.run_keyThatStays
end Go.Proofs.YtifcndkhigakfaaGreat.Ab
namespace Go.Proofs.YtifcndkhigakfaaGreat.Ab
open Go Go.RowKit
variable {f:FuncId}{r x X:AV}{e kt et:TypeId}{rows:List (List PV)}{vals zs:List Value}{p:PV}{K:St->Prop}{q:Option AO}{es:List (PV×PV)}{z:Value}{K':Act->World->Prop}{Q:Exit->Act->World->Prop}{inf:TypeInfo}
section
variable{P:Program}{S:Nat->Prop}{w:World}{β:Nat->Value}{D D':Nat->Prop}{t:Nat}
def RV.sv {v:Value} (hD:∀s,D s->s≠t->D' s) (hx:sv t x) (h:RV P S w β D v x):RV P S w β D' v x:=by cases h with
 |pv v p h=>exact .pv _ _ h|own s h=>exact .own s (hD s h hx)|ptr s o b h hb=>exact .ptr s o b (hD s h hx) hb|bd s e i o b n c inf h hi hb=>exact .bd s e i o b n c inf (hD s h hx) hi hb|sub v s e lo hi inf A A1 n c h hi' hb h1 h2 h3 h4 h5 hv=>exact .sub _ s e lo hi inf A A1 n c (hD s h hx) hi' hb h1 h2 h3 h4 h5 hv|rp ad cs us h1 h2 h3 h4=>exact .rp ad cs us h1 h2 h3 h4|agg cs us hl h=>exact hx.elim|aN cs us hl h=>exact hx.elim|bI f cs us hl h=>cases cs with|nil=>exact .bI f [] us hl fun i c u hc=>by simp at hc|cons c cs=>exact hx.elim
 |cx g v av h=>exact hx.elim|ak v=>exact .ak _
def sC:∀{cs:List AV},xH t cs->∀(i:Nat) (c:AV),cs[i]?=some c->Ab.sv t c|[],_,i,c,hc=>by simp at hc|x::cs,h,0,c,hc=>by simp only[q72,qr]at hc;subst hc;exact h.1|x::cs,h,i+1,c,hc=>sC h.2 i c (by simpa using hc)
def RV.vR {v:Value} (hD:∀s,D s->s≠t->D' s) (hx:vR t x) (h:RV P S w β D v x):RV P S w β D' v x:=by cases h with|agg cs us hl h=>exact .agg cs us hl fun i c u hc hu=>(h i c u hc hu).sv hD (sC hx i c hc)|bI f cs us hl h=>exact .bI f cs us hl fun i c u hc hu=>(h i c u hc hu).sv hD (sC hx i c hc)|pv v p h=>exact .pv _ _ h|own s h=>exact RV.sv (x:=.own s) hD hx (.own s h)|ptr s o b h hb=>exact RV.sv (x:=.ptr s o) hD hx (.ptr s o b h hb)|bd s e i o b n c inf h hi hb=>exact RV.sv (x:=.bd s e i o) hD hx (.bd s e i o b n c inf h hi hb)|sub v s e lo hi inf A A1 n c h hi' hb h1 h2 h3 h4 h5 hv=>exact RV.sv (x:=.sub s e lo hi) hD hx (.sub v s e lo hi inf A A1 n c h hi' hb h1 h2 h3 h4 h5 hv)|rp ad cs us h1 h2 h3 h4=>exact .rp ad cs us h1 h2 h3 h4|aN cs us hl h=>exact hx.elim|cx g v av h=>exact hx.elim|ak v=>exact .ak _
def wK:∀{vs:List AV},m5.pQ t vs->∀(i:Nat) (v:AV),vs[i]?=some v->Ab.vR t v|[],_,i,c,hc=>by simp at hc|x::cs,h,0,c,hc=>by simp only[q72,qr]at hc;subst hc;exact h.1|x::cs,h,i+1,c,hc=>wK h.2 i c (by simpa using hc)
def zw:∀{vs:List AV}{p:Nat},m5 t p vs->∀(i:Nat) (v:AV),i≠p->vs[i]?=some v->Ab.vR t v|[],_,_,i,c,_,hc=>by simp at hc|x::cs,0,h,0,c,hne,hc=>absurd rfl hne|x::cs,0,h,i+1,c,hne,hc=>wK h i c (by simpa using hc)|x::cs,p+1,h,0,c,hne,hc=>by simp only[q72,qr]at hc;subst hc;exact h.1|x::cs,p+1,h,i+1,c,hne,hc=>zw h.2 i c (by omega) (by simpa using hc)
variable{aa:Nat->Option AO}
def sx {m:AV}:∀{p:Nat}{xs ys:List AV},ud aa m p xs=some ys->p<xs.length->ys.length=xs.length/\ys[p]?=some m/\∀(i:Nat) (y:AV),i≠p->ys[i]?=some y->∃x,xs[i]?=some x/\qD aa x=some y
 |_,[],_,_,hp=>by simp at hp|0,x::xs,ys,h,_=>by simp only[ud,q900]at h;obtain⟨zs,hz,rfl⟩:=h;obtain⟨h1,h2⟩:=rF xs zs hz;refine⟨by simp[h1],rfl,fun i y hne hy=>?_⟩;cases i with|zero=>exact absurd rfl hne|succ i=>obtain⟨c,hc,hr⟩:=h2 i y (by simpa using hy);exact⟨c,by simpa using hc,hr⟩
 |p+1,x::xs,ys,h,hp=>by simp only[ud,qB,q900]at h;obtain⟨y0,hy0,zs,hz,rfl⟩:=h;obtain⟨h1,h2,h3⟩:=sx hz (by simpa using hp);refine⟨by simp[h1],by simpa using h2,fun i y hne hy=>?_⟩;cases i with|zero=>simp only[q72,qr]at hy;subst hy;exact⟨x,rfl,hy0⟩|succ i=>obtain⟨c,hc,hr⟩:=h3 i y (by omega) (by simpa using hy);exact⟨c,by simpa using hc,hr⟩
def vW:∀{p:Nat}{xs:List AV},kF p xs=true->∀(i:Nat) (x:AV),i≠p->xs[i]?=some x->eL x=true|_,[],_,i,c,_,hc=>by simp at hc|0,x::xs,h,0,c,hne,hc=>absurd rfl hne|0,x::xs,h,i+1,c,hne,hc=>sf xs i c h (by simpa using hc)|p+1,x::xs,h,0,c,hne,hc=>by simp only[kF,q71]at h;simp only[q72,qr]at hc;subst hc;exact h.1|p+1,x::xs,h,i+1,c,hne,hc=>by simp only[kF,q71]at h;exact vW h.2 i c (by omega) (by simpa using hc)
def lX {x y:AV} (h:qD aa x=some y):KJ y=y/\(∀e rows,y≠.fr e rows)/\∀e rows,y≠.aN [.fr e rows]:=by
 have hpv:∀{o:Option PV},o.map AV.pv=some y->∃p,y=.pv p:=fun h=>by obtain⟨p,_,rfl⟩:=q900.1 h;exact⟨p,rfl⟩
 have key:(∃p,y=.pv p)\/(∃cs,y=.rp cs)\/(∃cs,y=.agg cs)\/∃f cs,y=.bI f cs:=by
  have h1:∀{x y:AV},gj aa x=some y->(∃p,y=.pv p)\/(∃cs,y=.rp cs)\/(∃cs,y=.agg cs)\/∃f cs,y=.bI f cs:=by
   intro x y h;unfold gj at h;split at h;·obtain⟨cs,_,h⟩:=qB.1 h;obtain⟨ps,_,rfl⟩:=q900.1 h;exact .inr (.inl ⟨_,rfl⟩)
   ·cases h;exact .inr (.inl ⟨_,rfl⟩)
   ·obtain⟨ps,_,rfl⟩:=q900.1 h;exact .inr (.inr (.inl ⟨_,rfl⟩))
   ·cases h;exact .inr (.inr (.inr ⟨_,_,rfl⟩))
   ·obtain⟨p,_,rfl⟩:=q900.1 h;exact .inl ⟨_,rfl⟩
  unfold qD at h;split at h;·obtain⟨ps,_,rfl⟩:=q900.1 h;exact .inr (.inr (.inr ⟨_,_,rfl⟩))
  ·exact h1 h
 rcases key with⟨p,rfl⟩|⟨cs,rfl⟩|⟨cs,rfl⟩|⟨f,cs,rfl⟩<;>exact⟨rfl,(fun e rows h=>by cases h),(fun e rows h=>by cases h)⟩
def um (h:qD aa x=some .ak):False:=by
 have hpv:∀{o:Option PV},¬o.map AV.pv=some .ak:=fun h=>by obtain⟨p,_,h⟩:=q900.1 h;cases h
 have h1:∀{x:AV},¬gj aa x=some .ak:=by
  intro x h;unfold gj at h;split at h;·obtain⟨cs,_,h⟩:=qB.1 h;obtain⟨ps,_,h⟩:=q900.1 h;cases h
  ·cases h
  ·obtain⟨ps,_,h⟩:=q900.1 h;cases h
  ·cases h
  ·exact hpv h
 unfold qD at h;split at h;·obtain⟨ps,_,h⟩:=q900.1 h;cases h
 ·exact h1 h
def CP {e:TypeId}{rows:List (List PV)}{k:Nat} (hk:k=998\/k=999):∀{ys:List AV}{p:Nat},ys[p]?=some (yO k e rows)->(∀(i:Nat) (y:AV),i≠p->ys[i]?=some y->(∀e rows,y≠.fr e rows)/\∀e rows,y≠.aN [.fr e rows])->nb ys=[(k,.arr e rows)]
 |[],p,h,_=>by simp at h|y::ys,0,h,ho=>by simp only[q72,qr]at h;subst h;rcases hk with rfl|rfl<;>rfl|y::ys,p+1,h,ho=>by
  have h0:=ho 0 y (by omega) rfl;have ih:=CP hk (ys:=ys) (p:=p) (by simpa using h) (fun i z hne hz=>ho (i+1) z (by omega) (by simpa using hz));unfold nb;split;·rename_i e;cases e
  ·rename_i e1 r1 _ e;cases e;exact absurd rfl (h0.1 _ _)
  ·rename_i e1 r1 _ e;cases e;exact absurd rfl (h0.2 _ _)
  ·rename_i e;cases e;exact ih
end
section
variable{P:Program}{S0 L:Nat->Prop}{B0:Nat->Value}{w0 w:World}{N:Nat}{st:St}{a:Act}{β:Nat->Value}
def Av (h:Rel P S0 L B0 w0 N st a w β) {k t:Nat}{v:Value} (hX:RV P (bn S0 w0.heap.size β st.aa w) w β (aE st.aa) v X) (hs:hZ st.aa k X=some (t,e,rows)):∃rows0,st.aa t=some (.arr e rows0)/\cI v=cI (β t)/\(k=999->v=β t)/\∃inf us,P.info? e=some inf/\w.ownsRow 0 e inf.size v rows.length us/\(∀r,r∈rows->r.length=inf.size)/\∀(i j:Nat) (r:List PV) (p:PV),rows[i]?=some r->r[j]?=some p->∃u,us[i*inf.size+j]?=some u/\u.oneCell'=true/\dA (bn S0 w0.heap.size β st.aa w) w u p:=by cases X with
 |own t'=>simp only[hZ,q900]at hs;obtain⟨⟨e',rows'⟩,har,he⟩:=hs;simp only[q69]at he;obtain⟨rfl,rfl,rfl⟩:=he;obtain⟨inf,us,hi,hown,hrl,hcs⟩:=h.heap.arr (b9 har);have hv:=hX.bo.1;subst hv;exact⟨rows',b9 har,rfl,fun _=>rfl,inf,us,hi,hown,hrl,hcs⟩|sub t' e1 lo hi=>cases lo with|succ lo=>simp[hZ]at hs|zero=>
   simp only[hZ]at hs;split at hs
   ·rename_i hk;obtain⟨⟨e',rows'⟩,har,hs⟩:=qB.1 hs;split at hs
    ·rename_i hee;simp only at hee;subst hee;simp only[qr,q69]at hs;obtain⟨rfl,rfl,rfl⟩:=hs;obtain⟨inf,us,hi',hown,hrl,hcs⟩:=h.heap.arr (b9 har);obtain⟨inf1,Ad,Ad1,n,c,hdt,hi1,hbt,g1,g2,g3,g4,g5,hx⟩:=hX.iz;obtain⟨A',c',hv,_⟩:=cN hown;have hn:n=rows'.length:=by rw[hbt]at hv;simp at hv;exact hv.2.1
     subst hn;have hA:=g4 rfl;subst hA;have hlen:(rows'.take hi).length=hi:=by rw[q68];omega
     simp only[q282]at hx;refine⟨rows',b9 har,?_,fun hk9=>by omega,inf,us.take (hi*inf.size),hi',?_,fun r hr=>hrl r (q96 hr),fun i j r p hr hp=>?_⟩;·rw[hx,hbt];cases Ad1<;>rfl
     ·rw[hlen,hx];exact ml hown g2 hbt
     ·have hi2:i<hi:=by rw[<-hlen];exact(q63.1 hr).1
      rw[q81,if_pos hi2]at hr;obtain⟨u,hu,h1,h2⟩:=hcs i j r p hr hp;have hj:j<inf.size:=by rw[<-hrl r (List.mem_of_getElem? hr)];exact(q63.1 hp).1
      have hlt:i*inf.size+j<hi*inf.size:=by have:=q82 inf.size (show i+1<=hi from hi2);rw[q120]at this;omega
      exact⟨u,by rw[q81,if_pos hlt];exact hu,h1,h2⟩
    ·cases hs
   ·cases hs|_=>simp[hZ]at hs
def sg (h:dv r=true):dO (cellAt r 999)=none:=by cases r with|aN vs=>simp only[dv,q71,decide_eq_true_eq]at h;simp only[cellAt,show 999%1000=999 from rfl];rw[q134 (by omega)];rfl|_=>rfl
def zi {aa:Nat->Option AO}:∀{p:Nat}{xs ys:List AV},uh aa p xs=some ys->ys.length=xs.length/\∀(i:Nat) (y:AV),ys[i]?=some y->∃c,xs[i]?=some c/\(qD aa c=some y\/(c=.pv .nil/\y=.pv .nil))
 |p,[],ys,h=>by
  have:ys=[]:=by cases p<;>(simp[uh]at h;exact h)
  subst this;exact⟨rfl,fun i y hy=>by simp at hy⟩|0,x::xs,ys,h=>by
  unfold uh at h;split at h;·rename_i h1;cases h1
  ·rename_i vs h1;cases h1;obtain⟨zs,hz,rfl⟩:=q900.1 h;obtain⟨h1,h2⟩:=rF _ zs hz;refine⟨by simp[h1],fun i y hy=>?_⟩;cases i with|zero=>simp at hy;subst hy;exact⟨_,rfl,.inr ⟨rfl,rfl⟩⟩|succ i=>obtain⟨c,h3,h4⟩:=h2 i y (by simpa using hy);exact⟨c,by simpa using h3,.inl h4⟩
  ·cases h
  ·rename_i h1 _;cases h1|p+1,x::xs,ys,h=>by simp only[uh,qB,q900]at h;obtain⟨y0,hy0,zs,hz,rfl⟩:=h;obtain⟨h1,h2⟩:=zi hz;refine⟨by simp[h1],fun i y hy=>?_⟩;cases i with|zero=>simp at hy;subst hy;exact⟨_,rfl,.inl hy0⟩|succ i=>obtain⟨c,h3,h4⟩:=h2 i y (by simpa using hy);exact⟨c,by simpa using h3,h4⟩
def Hb {aa:Nat->Option AO}{ys xs:List AV} (hg:∀(i:Nat) (y:AV),ys[i]?=some y->∃c,xs[i]?=some c/\(qD aa c=some y\/(c=.pv .nil/\y=.pv .nil))):∀y∈ys,KJ y=y/\(∀e rows,y≠.fr e rows)/\∀e rows,y≠.aN [.fr e rows]:=by
 intro y hy;obtain⟨i,hi⟩:=q116 hy;obtain⟨c,_,h|⟨_,rfl⟩⟩:=hg i y hi;·exact lX h
 ·exact⟨rfl,(fun e rows h=>by cases h),fun e rows h=>by cases h⟩
def DO:∀{ys:List AV},(∀y∈ys,(∀e rows,y≠.fr e rows)/\∀e rows,y≠.aN [.fr e rows])->nb ys=[]
 |[],_=>rfl|y::ys,h=>by
  have ih:=DO (ys:=ys) fun z hz=>h z (by simp[hz]);obtain⟨h1,h2⟩:=h y (by simp);unfold nb;split;·rfl
  ·rename_i e rows l h3;cases h3;exact absurd rfl (h1 _ _)
  ·rename_i e rows l h3;cases h3;exact absurd rfl (h2 _ _)
  ·rename_i h3;cases h3;exact ih
def BY {ys:List AV} (hm:∀y∈ys,KJ y=y/\(∀e rows,y≠.fr e rows)/\∀e rows,y≠.aN [.fr e rows]) (hres:dv r=true) (h:EX P f ys r):yA P f [] ys [] r:=by
 have h0:nb ys=[]:=DO fun y hy=>(hm y hy).2;have h1:ys.map KJ=ys:=by rw[List.map_congr_left fun y hy=>(hm y hy).1];simp
 have h2:cj r=r/\eS r=[]:=by cases r with|bI f cs=>simp[dv,nL,j5]at hres|_=>exact⟨rfl,rfl⟩
 intro w S0 β vals a1 a2 a3 a4 a5;have hnl:∀b,¬live β (ab []) b:=fun b ⟨t,o,ho,_⟩=>by simp[ab]at ho
 have hS:(fun b=>S0 b\/live β (ab []) b)=S0:=by funext b;apply propext;exact⟨fun h=>h.resolve_right (hnl b),.inl⟩
 have h:=h w S0 β vals a1 (by rw[h0];exact a2) (by rw[h0];exact a3) a4 (by rw[h0,h1];exact a5);rw[h0,h2.1,h2.2,hS]at h;refine h.mono ?_;rintro e w' ⟨v,β',r1,r2,r3,r4,_,r5⟩;exact⟨v,β',r1,r2,r3,r4,r5⟩
def Da (hL:∀b,L b->S0 b) (h:Rel P S0 L B0 w0 N st a w β) {d:Nat} (hd9:d%1000≠999) {xs ys:List AV}{p k t:Nat} (hk:k=998\/k=999) (hl:vals.length=xs.length) (hv:∀(i:Nat) (v:Value) (x:AV),vals[i]?=some v->xs[i]?=some x->RV P (bn S0 w0.heap.size β st.aa w) w β (aE st.aa) v x) (hp:xs[p]?=some X) (hh:hZ st.aa k X=some (t,e,rows)) (hoff:m5 t p xs) (hre:ud (lq t st.aa) (yO k e rows) p xs=some ys) (hcon:EX P f ys x) (hpf:kF p xs=true\/(flat (cj x)/\rG (eS x))) (hfree:∀y∈aU d (cj x),st.aa y.1=none) (hres:dv (cj x)=true):Calls P f vals.toArray w fun e w'=>∃v β',e=.returned v/\Rel P S0 L B0 w0 N ⟨jd t x st.vars,bK (aU d (cj x)) (cZ t x st.aa)⟩ a w' β'/\RV P (bn S0 w0.heap.size β' (bK (aU d (cj x)) (cZ t x st.aa)) w') w' β' (aE (bK (aU d (cj x)) (cZ t x st.aa))) v (dn (mX d) (cj x)):=by
 have htup:=xW _ hres;have hpl:p<xs.length:=(q63.1 hp).1;have hvp:vals[p]?=some vals[p]:=q62 (by omega);generalize hvpe:vals[p]'(by omega)=vp at hvp;obtain⟨rows0,hot,hblk,hvpin,inf,us,hi,hown,hrl,hcs⟩:=Av h (hv p vp X hvp hp) hh;obtain⟨hyl,hyp,hyo⟩:=sx hre hpl;have hdt:aE st.aa t:=⟨_,hot⟩;have hmk:nb ys=[(k,.arr e rows)]:=CP hk hyp fun i y hne hy=>by obtain⟨z,_,hr⟩:=hyo i y hne hy;exact(lX hr).2
 obtain⟨inf0,us0,hi0,hown0,hrl0,hcs0⟩:=h.heap.holds t _ hot;have hnp:∀b,β t≠.pointer (some ⟨b,0,none⟩):=(iE hown0).2;have hD1:∀s,aE st.aa s->s≠t->aE (lq t st.aa) s:=fun s hs hne=>en.2 ⟨hne,hs⟩;have hh1:Heap P (bn S0 w0.heap.size β st.aa w) w β (lq t st.aa):=by
  refine⟨fun s o hs=>?_,fun s s' b hs hs'=>h.heap.inj s s' b (en.1 hs).2 (en.1 hs').2⟩;by_cases e':s=t;·simp[lq,e']at hs
  ·have hs':(st.aa s).map (eM t)=some o:=by simpa[lq,e']using hs
   obtain⟨o',ho',rfl⟩:=q900.1 hs';exact(h.heap.holds s o' ho').kill hnp (fun b hb=>⟨hb,rfl⟩) (fun s hs hne=>⟨hD1 s hs hne,rfl⟩) rfl (fun b hb=>rfl)
 let β0:Nat->Value:=fun _=>vp;have hhin:ab (nb ys)=ab [(k,.arr e rows)]:=by rw[hmk]
 have hlive0:∀b,live β0 (ab (nb ys)) b↔cI (β t)=some b:=by
  intro b;rw[hhin];constructor;·rintro⟨s,o,ho,hb⟩;rw[<-hblk];exact hb
  ·intro hb;exact⟨k,.arr e rows,by simp[ab],by rw[<-hblk]at hb;exact hb⟩
 have hnl:∀b,bn S0 w0.heap.size β st.aa w b->¬cI (β t)=some b:=fun b ⟨_,_,h3⟩ hb=>h3 ⟨t,_,hot,hb⟩;obtain⟨S1,hS1,hS1lt,hS1n,hcase⟩:∃S1:Nat->Prop,(∀b,bn S0 w0.heap.size β st.aa w b->S1 b)/\(∀b,S1 b->b<w.heap.size)/\(∀b,S1 b->¬cI (β t)=some b)/\((kF p xs=true/\S1=bn S0 w0.heap.size β st.aa w)\/((flat (cj x)/\rG (eS x))/\∀b,b<w.heap.size->¬cI (β t)=some b->S1 b)):=by
  rcases hpf with hp|hp;·exact⟨_,fun b hb=>hb,fun b hb=>hb.2.1,hnl,.inl ⟨hp,rfl⟩⟩
  ·exact⟨fun b=>b<w.heap.size/\¬cI (β t)=some b,fun b hb=>⟨hb.2.1,hnl b hb⟩,fun b hb=>hb.1,fun b hb=>hb.2,.inr ⟨hp,fun b h1 h2=>⟨h1,h2⟩⟩⟩
 have hS1eq:∀b,bn S1 w.heap.size β0 (ab (nb ys)) w b↔S1 b:=by
  intro b;constructor
  ·rintro⟨h1|h1,h2,_⟩;·exact h1
   ·omega
  ·intro hb;exact⟨.inl hb,hS1lt b hb,fun hl=>hS1n b hb ((hlive0 b).1 hl)⟩
 have htlt:∀b,cI (β t)=some b->b<w.heap.size:=fun b hb=>h.lt hdt hb;have hin:∀s o,ab (nb ys) s=some o->s=k/\o=.arr e rows:=by
  intro s o ho;rw[hhin]at ho;simp only[ab]at ho;split at ho;·rename_i e';cases ho;exact⟨e',rfl⟩
  ·cases ho
 have hHin:Heap P (bn S1 w.heap.size β0 (ab (nb ys)) w) w β0 (ab (nb ys)):=by refine⟨fun s o ho=>?_,fun s s' b ⟨o,ho⟩ ⟨o',ho'⟩ _ _=>(hin s o ho).1.trans (hin s' o' ho').1.symm⟩;obtain⟨rfl,rfl⟩:=hin s o ho;refine⟨inf,us,hi,hown,hrl,fun i j r q h1 h2=>?_⟩;obtain⟨u,hu,h3,h4⟩:=hcs i j r q h1 h2;exact⟨u,hu,h3,h4.mono fun b hb=>⟨(hS1eq b).2 (hS1 b hb),rfl⟩⟩
 refine(hcon w S1 β0 vals hS1lt (fun s b _ hb=>htlt b (by rw[<-hblk];exact hb)) hHin (by omega) (fun i v y hvi hyi=>?_)).mono ?_
 ·rw[q79,q900]at hyi;obtain⟨z,hz,rfl⟩:=hyi;by_cases hip:i=p
  ·subst hip;rw[hyp]at hz;injection hz with hz;subst hz;rw[hvp]at hvi;injection hvi with hvi;subst hvi;have hdk:aE (ab (nb ys)) k:=⟨.arr e rows,by rw[hhin];simp[ab]⟩;rcases hk with rfl|rfl;·exact .own 998 hdk
   ·exact .own 999 hdk
  ·obtain⟨X',hX',hrx⟩:=hyo i z hip hz;rw[(lX hrx).1];refine sr hh1 (fun b hb=>(hS1eq b).2 (hS1 b hb)) ((hv i v X' hvi hX').vR hD1 (zw hoff i X' hip hX')) hrx ?_;rcases hcase with⟨hpu,_⟩|⟨_,hall⟩;·exact .inl (vW hpu i X' hip hX')
   ·refine .inr fun s b hs hb=>(hS1eq b).2 (hall b (h.lt (en.1 hs).2 hb) fun hbt=>(en.1 hs).1 (h.heap.inj s t b (en.1 hs).2 hdt hb hbt))
 ·rintro ee w' ⟨v,β1,rfl,hfr,hheap,hnew,hpinned,hrv⟩;have hout:eS x=[]\/∃e' rows',eS x=[(999,.arr e' rows')]:=by
   unfold eS;split;·exact .inr ⟨_,_,rfl⟩
   ·exact .inl rfl
  have hsame:∀b,b<w.heap.size->¬cI (β t)=some b->w'.heap[b]?=w.heap[b]?:=fun b hb hn=>hfr.block b hb fun hl=>hn ((hlive0 b).1 hl);have hobj:cZ t x st.aa=(match eS x with|(_,o)::_=>ba t o st.aa|[]=>lq t st.aa):=rfl;have hdomU:∀s,aE (cZ t x st.aa) s->aE st.aa s:=by
   intro s hs;rcases hout with ho|⟨e',rows',ho⟩;·rw[hobj,ho]at hs;exact(en.1 hs).2
   ·rw[hobj,ho]at hs;rcases cD.1 hs with e1|e1;·rw[e1];exact hdt
    ·exact e1
  have hdomU':∀s,aE st.aa s->s≠t->aE (cZ t x st.aa) s:=by
   intro s hs hne;rcases hout with ho|⟨e',rows',ho⟩;·rw[hobj,ho];exact hD1 s hs hne
   ·rw[hobj,ho];exact cD.2 (.inr hs)
  have hfreeU:∀y∈aU d (cj x),cZ t x st.aa y.1=none:=by intro y hy;cases hc:cZ t x st.aa y.1 with|none=>rfl|some o=>obtain⟨o',ho'⟩:=hdomU y.1 ⟨o,hc⟩;rw[hfree y hy]at ho';cases ho'
  let F:Nat->Option AO:=bF (ab (eS x)) fun t=>dO (cellAt (cj x) t);have hFp:∀q o,dO (cellAt (cj x) q)=some o->F q=some o:=by
   intro q o hq;rcases hout with ho|⟨e',rows',ho⟩;·simp only[F,ho,bF,ab];exact hq
   ·simp only[F,ho,bF,ab];have:q≠999:=by rintro rfl;rw[sg hres]at hq;cases hq
    rw[if_neg this];exact hq
  let β2:Nat->Value:=fun s=>match ab (aU d (cj x)) s with|some _=>β1 ((s-d)/1000)|none=>β s;have hβnew:∀q o,dO (cellAt (cj x) q)=some o->β2 (d+1000*q)=β1 q:=fun q o hq=>by simp only[β2,gq d (cj x) htup,hq];congr 1;omega
  have hβold:∀s,aE st.aa s->β2 s=β s:=fun s ⟨o,ho⟩=>by cases hlk:ab (aU d (cj x)) s with|none=>simp only[β2,hlk]|some o'=>obtain⟨z,hz,rfl⟩:=ju _ _ _ hlk;rw[hfree z hz]at ho;cases ho
  have hlook2:∀s,bK (aU d (cj x)) (cZ t x st.aa) s=match ab (aU d (cj x)) s with|some o=>some o|none=>cZ t x st.aa s:=fun s=>rfl;have hdomNew:∀q o,dO (cellAt (cj x) q)=some o->bK (aU d (cj x)) (cZ t x st.aa) (d+1000*q)=some o:=fun q o hq=>by rw[hlook2,gq d (cj x) htup,hq]
  have hdomOld:∀s o,cZ t x st.aa s=some o->bK (aU d (cj x)) (cZ t x st.aa) s=some o:=fun s o ho=>by rw[hlook2];cases hlk:ab (aU d (cj x)) s with|none=>exact ho|some o'=>obtain⟨z,hz,rfl⟩:=ju _ _ _ hlk;rw[hfreeU z hz]at ho;cases ho
  have hcases:∀s o,bK (aU d (cj x)) (cZ t x st.aa) s=some o->(∃q,s=d+1000*q/\dO (cellAt (cj x) q)=some o)\/(cZ t x st.aa s=some o/\ab (aU d (cj x)) s=none):=fun s o ho=>by rw[hlook2]at ho;cases hlk:ab (aU d (cj x)) s with|none=>rw[hlk]at ho;exact .inr ⟨ho,rfl⟩|some o'=>rw[hlk]at ho;injection ho with ho;subst ho;obtain⟨q,rfl⟩:=we d (cj x) s hlk;rw[gq d (cj x) htup]at hlk;exact .inl ⟨q,rfl,hlk⟩
  have hback:∀o,cZ t x st.aa t=some o->eS x=[(999,o)]:=by
   intro o ho;rcases hout with h1|⟨e',rows',h1⟩;·rw[hobj,h1]at ho;simp[lq]at ho
   ·rw[hobj,h1]at ho;simp only[ba,if_true,qr]at ho;rw[h1,ho]
  have hkeep:∀s o,cZ t x st.aa s=some o->s≠t->∃o0,st.aa s=some o0/\(o=o0\/(eS x=[]/\o=eM t o0)):=by
   intro s o ho hne;rcases hout with h1|⟨e',rows',h1⟩
   ·rw[hobj,h1]at ho;have:(st.aa s).map (eM t)=some o:=by simpa[lq,hne]using ho
    obtain⟨o',ho',rfl⟩:=q900.1 this;exact⟨o',ho',.inr ⟨h1,rfl⟩⟩
   ·rw[hobj,h1]at ho;exact⟨o,by simpa[ba,hne]using ho,.inl rfl⟩
  have hFt:∀o,cZ t x st.aa t=some o->F 999=some o/\β1 999=vp/\vp=β t:=by intro o ho;have h1:=hback o ho;have hd:aE (ab (eS x)) 999:=⟨o,by rw[h1];simp[ab]⟩;obtain⟨hd2,hb⟩:=hpinned 999 hd;obtain⟨o2,ho2⟩:=hd2;obtain⟨rfl,_⟩:=hin 999 o2 ho2;exact⟨by simp only[F,h1,bF,ab];simp,hb,hvpin rfl⟩
  have hnewF:∀q o b,F q=some o->cI (β1 q)=some b->w.heap.size<=b\/cI (β t)=some b:=fun q o b hq hb=>by
   rcases hnew q b ⟨o,hq⟩ hb with h1|h1;·exact .inl h1
   ·exact .inr ((hlive0 b).1 h1)
  have hapart:∀q o b,dO (cellAt (cj x) q)=some o->cI (β1 q)=some b->cI (β t)=some b->∀o',cZ t x st.aa t≠some o':=by intro q o b hq hb hbt o' ho';obtain⟨h1,h2,h3⟩:=hFt o' ho';have:=hheap.inj q 999 b ⟨o,hFp q o hq⟩ ⟨o',h1⟩ hb (by rw[h2,h3];exact hbt);subst this;rw[sg hres]at hq;cases hq
  have hblk2:∀s o b,bK (aU d (cj x)) (cZ t x st.aa) s=some o->cI (β2 s)=some b->(∃q,s=d+1000*q/\dO (cellAt (cj x) q)=some o/\cI (β1 q)=some b)\/(aE st.aa s/\cZ t x st.aa s=some o/\cI (β s)=some b):=by
   intro s o b ho hb;rcases hcases s o ho with⟨q,rfl,hq⟩|⟨h1,_⟩;·rw[hβnew q o hq]at hb;exact .inl ⟨q,rfl,hq,hb⟩
   ·have hs:=hdomU s ⟨o,h1⟩;rw[hβold s hs]at hb;exact .inr ⟨hs,h1,hb⟩
  have hm:∀b,bn S0 w0.heap.size β st.aa w b->bn S0 w0.heap.size β2 (bK (aU d (cj x)) (cZ t x st.aa)) w' b/\w'.heap[b]?=w.heap[b]?:=by
   rintro b hb0;obtain⟨h1,h2,h3⟩:=hb0;refine⟨⟨h1,q97 h2 hfr.size,?_⟩,hsame b h2 fun hbt=>h3 ⟨t,_,hot,hbt⟩⟩;rintro⟨s,o,ho,hb⟩;rcases hblk2 s o b ho hb with⟨q,rfl,hq,hb1⟩|⟨⟨o',ho'⟩,_,hb1⟩
   ·rcases hnewF q o b (hFp q o hq) hb1 with h4|h4;·omega
    ·exact h3 ⟨t,_,hot,h4⟩
   ·exact h3 ⟨s,o',ho',hb1⟩
  have hD:∀s,aE st.aa s->s≠t->aE (bK (aU d (cj x)) (cZ t x st.aa)) s/\β2 s=β s:=fun s hs hne=>by obtain⟨o,ho⟩:=hdomU' s hs hne;exact⟨⟨o,hdomOld s o ho⟩,hβold s hs⟩
  have hcalS:kF p xs=true->S1=bn S0 w0.heap.size β st.aa w->∀b,bn (fun b=>S1 b\/live β0 (ab (nb ys)) b) w.heap.size β1 F w' b->bn S0 w0.heap.size β2 (bK (aU d (cj x)) (cZ t x st.aa)) w' b/\w'.heap[b]?=w'.heap[b]?:=by
   rintro _ hSe b ⟨h1,h2,h3⟩;refine⟨⟨?_,h2,?_⟩,rfl⟩
   ·rcases h1 with(h1|h1)|h1;·rw[hSe]at h1;exact h1.1
    ·rcases h.old t b hdt ((hlive0 b).1 h1) with h4|h4;·exact .inr h4
     ·exact .inl (hL b h4)
    ·have:=h.cu.size;exact .inr (by omega)
   ·rintro⟨s,o,ho,hb⟩;rcases hblk2 s o b ho hb with⟨q,rfl,hq,hb1⟩|⟨⟨o',ho'⟩,hou,hb1⟩;·exact h3 ⟨q,o,hFp q o hq,hb1⟩
    ·by_cases hst:s=t;·subst hst;obtain⟨g1,g2,g3⟩:=hFt o hou;exact h3 ⟨999,o,g1,by rw[g2,g3];exact hb1⟩
     ·rcases h1 with(h1|h1)|h1;·rw[hSe]at h1;exact h1.2.2 ⟨s,o',ho',hb1⟩
      ·exact hst (h.heap.inj s t b ⟨o',ho'⟩ hdt hb1 ((hlive0 b).1 h1))
      ·have:=h.lt ⟨o',ho'⟩ hb1;omega
  have hconv:∀(u:Value) (q:PV),dA (bn (fun b=>S1 b\/live β0 (ab (nb ys)) b) w.heap.size β1 F w') w' u q->((flat (cj x)/\rG (eS x))->jg q=true)->dA (bn S0 w0.heap.size β2 (bK (aU d (cj x)) (cZ t x st.aa)) w') w' u q:=by
   intro u q hu hfl;rcases hcase with⟨hpu,hSe⟩|⟨hf,_⟩;·exact hu.mono (hcalS hpu hSe)
   ·exact gw hu (hfl hf)
  have hvars:∀s,RV P (bn S0 w0.heap.size β2 (bK (aU d (cj x)) (cZ t x st.aa)) w') w' β2 (aE (bK (aU d (cj x)) (cZ t x st.aa))) (a.tmps.getD s undef) (jd t x st.vars s):=by
   intro s;rcases hout with h1|⟨e',rows',h1⟩
   ·have:jd t x st.vars=cO t st.vars:=by unfold jd;rw[h1]
    rw[this];exact(h.vars s).kill hnp hm hD
   ·have:jd t x st.vars=st.vars:=by unfold jd;rw[h1]
    rw[this];refine(h.vars s).mono hm fun s' hs'=>?_;by_cases hst:s'=t;·subst hst;exact⟨⟨.arr e' rows',hdomOld _ _ (by rw[hobj,h1];simp[ba])⟩,hβold _ hs'⟩
    ·exact hD s' hs' hst
  have hrel:Rel P S0 L B0 w0 N ⟨jd t x st.vars,bK (aU d (cj x)) (cZ t x st.aa)⟩ a w' β2:=by
   refine⟨h.size,h.defers,hvars,⟨fun s o ho=>?_,fun s s' b hs hs' hb hb'=>?_⟩,fun s b hs hb=>?_,h.uL,fun s h9 hs=>?_,?_⟩;·
    have harr:∀(q s:Nat) (o:AO),F q=some o->β2 s=β1 q->((∀cs,o≠.box cs)/\(∀es,o≠.map es)/\(∀e cs,o≠.rws e cs)/\(∀es,o≠.kk es)/\∀r c,o≠.yJ r c)->((flat (cj x)/\rG (eS x))->∀e' rows',o=.arr e' rows'->bP rows')->bE P (bn S0 w0.heap.size β2 (bK (aU d (cj x)) (cZ t x st.aa)) w') w' β2 (aE (bK (aU d (cj x)) (cZ t x st.aa))) s o:=by intro q s o hq hβ hnb hfl;have hho:=hheap.holds q o hq;cases o with|box cs=>exact absurd rfl (hnb.1 cs)|map es=>exact absurd rfl (hnb.2.1 es)|rws e cs=>exact absurd rfl (hnb.2.2.1 e cs)|kk es=>exact absurd rfl (hnb.2.2.2.1 es)|yJ r c=>exact absurd rfl (hnb.2.2.2.2 r c)|arr e' rows'=>obtain⟨inf',us',hi',hown',hrl',hcs'⟩:=hho;refine⟨inf',us',hi',by rw[hβ];exact hown',hrl',fun i j row q h1 h2=>?_⟩;obtain⟨u,hu,h3,h4⟩:=hcs' i j row q h1 h2;exact⟨u,hu,h3,hconv u q h4 fun hf=>hfl hf _ _ rfl row (List.mem_of_getElem? h1) q (List.mem_of_getElem? h2)⟩
    rcases hcases s o ho with⟨q,rfl,hq⟩|⟨h1,_⟩
    ·refine harr q _ o (hFp q o hq) (hβnew q o hq) ?_ ?_
     ·refine⟨?_,?_,?_,?_,?_⟩;·rintro cs rfl;unfold dO at hq;split at hq<;>cases hq
      ·rintro cs rfl;unfold dO at hq;split at hq<;>cases hq
      ·rintro e cs rfl;unfold dO at hq;split at hq<;>cases hq
      ·rintro cs rfl;unfold dO at hq;split at hq<;>cases hq
      ·rintro e cs rfl;unfold dO at hq;split at hq<;>cases hq
     ·rintro⟨hf,_⟩ e' rows' rfl;have hcell:∃e',cellAt (cj x) q=some (.fr e' rows'):=by
       unfold dO at hq;split at hq;·rename_i e1 rows1 heq;injection hq with hq;injection hq with hq1 hq2;subst hq2;exact⟨e1,heq⟩
       ·cases hq
      obtain⟨e1,hce⟩:=hcell;exact(jx (cj x) q _ hf hce:bP rows')
    ·by_cases hst:s=t
     ·subst hst;obtain⟨g1,g2,g3⟩:=hFt o h1;have hbk:=hback o h1;refine harr 999 _ o g1 (by rw[hβold _ hdt,g2,g3]) ?_ ?_
      ·refine⟨?_,?_,?_,?_,?_⟩
       ·rintro cs rfl;rcases hout with h5|⟨e',rows',h5⟩;·rw[h5]at hbk;cases hbk
        ·rw[h5]at hbk;simp at hbk
       ·rintro cs rfl;rcases hout with h5|⟨e',rows',h5⟩;·rw[h5]at hbk;cases hbk
        ·rw[h5]at hbk;simp at hbk
       ·rintro e cs rfl;rcases hout with h5|⟨e',rows',h5⟩;·rw[h5]at hbk;cases hbk
        ·rw[h5]at hbk;simp at hbk
       ·rintro cs rfl;rcases hout with h5|⟨e',rows',h5⟩;·rw[h5]at hbk;cases hbk
        ·rw[h5]at hbk;simp at hbk
       ·rintro e cs rfl;rcases hout with h5|⟨e',rows',h5⟩;·rw[h5]at hbk;cases hbk
        ·rw[h5]at hbk;simp at hbk
      ·rintro⟨_,hf⟩ e' rows' rfl;rw[hbk]at hf;exact hf.1
     ·obtain⟨o0,ho0,hor⟩:=hkeep s o h1 hst;have hbl:∀b,cI (β s)=some b->w'.heap[b]?=w.heap[b]?:=fun b hb=>hsame b (h.lt ⟨o0,ho0⟩ hb) fun hbt=>hst (h.heap.inj s t b ⟨o0,ho0⟩ hdt hb hbt);rcases hor with rfl|⟨h5,rfl⟩
      ·by_cases hx5:eS x=[];·
        have h6:cZ t x st.aa s=some (eM t o):=by rw[hobj,hx5];simp[lq,hst,ho0]
        rw[h1]at h6;injection h6 with h6;rw[h6];exact(h.heap.holds s o ho0).kill hnp hm hD (hβold s ⟨o,ho0⟩) hbl
       ·refine(h.heap.holds s o ho0).mono hm (fun s' hs'=>?_) (hβold s ⟨o,ho0⟩) hbl;by_cases hst':s'=t
        ·subst hst';rcases hout with h5|⟨e',rows',h5⟩;·exact absurd h5 hx5
         ·exact⟨⟨.arr e' rows',hdomOld _ _ (by rw[hobj,h5];simp[ba])⟩,hβold _ hs'⟩
        ·exact hD s' hs' hst'
      ·exact(h.heap.holds s o0 ho0).kill hnp hm hD (hβold s ⟨o0,ho0⟩) hbl
   ·obtain⟨o,ho⟩:=hs;obtain⟨o',ho'⟩:=hs';have hfo:∀(q s:Nat) (o o':AO),dO (cellAt (cj x) q)=some o->cI (β1 q)=some b->aE st.aa s->cZ t x st.aa s=some o'->cI (β s)=some b->False:=by
     intro q s o o' hq hb1 hs hu hb2;rcases hnewF q o b (hFp q o hq) hb1 with h4|h4;·have:=h.lt hs hb2;omega
     ·have:=h.heap.inj s t b hs hdt hb2 h4;subst this;exact hapart q o b hq hb1 h4 o' hu
    rcases hblk2 s o b ho hb with⟨q,rfl,hq,hb1⟩|⟨h1,h2,h3⟩<;>rcases hblk2 s' o' b ho' hb' with⟨q',rfl,hq',hb1'⟩|⟨h1',h2',h3'⟩;·rw[hheap.inj q q' b ⟨o,hFp q o hq⟩ ⟨o',hFp q' o' hq'⟩ hb1 hb1']
    ·exact(hfo q s' o o' hq hb1 h1' h2' h3').elim
    ·exact(hfo q' s o' o hq' hb1' h1 h2 h3).elim
    ·exact h.heap.inj s s' b h1 h1' h3 h3'
   ·obtain⟨o,ho⟩:=hs;rcases hblk2 s o b ho hb with⟨q,rfl,hq,hb1⟩|⟨h1,_,h3⟩
    ·rcases hnewF q o b (hFp q o hq) hb1 with h4|h4;·have:=h.cu.size;exact .inl (by omega)
     ·exact h.old t b hdt h4
    ·exact h.old s b h1 h3
   ·obtain⟨o,ho⟩:=hs;rcases hcases s o ho with⟨q,rfl,_⟩|⟨h1,_⟩;·omega
    ·have hs:=hdomU s ⟨o,h1⟩;rw[hβold s hs];exact h.Ar s h9 hs
   ·refine⟨hfr.os.trans h.cu.os,hfr.tape.trans h.cu.tape,hfr.output.trans h.cu.output,q113 h.cu.size hfr.size,fun b h1 h2=>?_⟩;refine(hsame b (by have:=h.cu.size;omega) fun hbt=>?_).trans (h.cu.block b h1 h2);rcases h.old t b hdt hbt with h4|h4;·omega
    ·exact h2 h4
  refine⟨v,β2,rfl,hrel,?_⟩;refine lM htup (fun q c u hc hu=>?_) hrv;have hrc:=Dw (cj x) q c hres hc;cases c with
  |fr e' rows'=>
   have hq:dO (cellAt (cj x) q)=some (.arr e' rows'):=by rw[hc];rfl
   obtain⟨hu1,hu2⟩:=RV.bo (show RV P _ w' β1 _ u (.own q) from hu);rw[hu1,<-hβnew q _ hq];exact .own (d+1000*q) ⟨_,hdomNew q _ hq⟩|pv q'=>exact .pv _ _ (hconv u q' hu.bL fun hf=>jx (cj x) q _ hf.1 hc)|rp cs=>
   rcases hcase with⟨hpu,hSe⟩|⟨hfl,_⟩;·obtain⟨ad,us',rfl,h1,h2,h3,h4⟩:=(show RV P _ w' β1 _ u (.rp cs) from hu).kH;exact .rp ad cs us' (hcalS hpu hSe _ h1).1 h2 h3 (fun j q hq=>(h4 j q hq).mono (hcalS hpu hSe))
   ·exact(jx (cj x) q _ hfl.1 hc).elim|_=>simp[j5]at hrc
end
section
variable{P:Program}{S0 L:Nat->Prop}{B0:Nat->Value}{w0 w:World}{N:Nat}{st:St}{a:Act}{β:Nat->Value}
def Jz {aa objs':Nat->Option AO}{T ks:List Nat}{xs:List AV} (h:Im aa objs' T ks xs=some [.ak]):False:=by
 have hr:∀{x:AV}{r:AV×List Nat},rd 5 aa x=some r->r.1≠.ak:=by
  intro x r h e;unfold rd at h;split at h;·obtain⟨y,hy,rfl⟩:=q900.1 h;simp only at e;subst e;unfold Vp at hy;split at hy<;>cases hy
  ·obtain⟨_,_,h⟩:=qB.1 h;obtain⟨_,_,rfl⟩:=q900.1 h;cases e
  ·obtain⟨_,_,rfl⟩:=q900.1 h;cases e
  ·cases h;cases e
  ·cases h;cases e
  ·cases h;cases e
  ·cases h
 match ks,xs with
 |[],[]=>cases h|[],_::_=>cases h|_::_,[]=>cases h|k::ks,x::xs=>
  obtain⟨y,hy,h⟩:=qB.1 h;obtain⟨ys,_,h⟩:=q900.1 h;have e:y=.ak:=by injection h
  subst e;split at hy;·exact um hy
  ·split at hy;·obtain⟨r,h1,h2⟩:=q900.1 hy;exact hr h1 h2
   ·obtain⟨r,_,h2⟩:=q900.1 hy;cases h2
def noF {n f:Nat} (h0:n<=1000000) (h2:3000000<=f+2000000) (h:f<n):False:=by omega
def kf {Γ:b7} (hL:∀b,L b->S0 b) (hΓ:eG P Γ) (h:Rel P S0 L B0 w0 N st a w β) {d:Option Nat} (hd:∀s,d=some s->s<N) (hfn:gz P f=true) {xs:List AV} (hl:vals.length=xs.length) (hv:aw xs->∀(i:Nat) (v:Value) (x:AV),vals[i]?=some v->(xs.map strip)[i]?=some x->RV P (bn S0 w0.heap.size β st.aa w) w β (aE st.aa) v x) (hs:stepG Γ d f xs (jO Γ f) K st):Calls P f vals.toArray w fun e w'=>∃v β' st',e=.returned v/\K st'/\Rel P S0 L B0 w0 N st' (a.put d v) w' β':=by
 unfold stepG at hs;obtain⟨d,rfl,ha,hs⟩:=af hs;obtain⟨ks,_,hs⟩:=af hs;obtain⟨hTn,hQT,hs⟩:=hs;obtain⟨hQn0,hs⟩:=hs;obtain⟨ys,hys,hs⟩:=af hs;obtain⟨⟨φ,x⟩,hx,hφ,hpf,hs⟩:=af hs;obtain⟨o,ho,ho1,hs⟩:=af hs;obtain⟨r,hr,hfree,hK⟩:=af hs;have hdN:=hd d rfl;have hlim:=h.uL.1;have hcon:Fe P f ys x:=by
  rcases hΓ (f+2000000) ys φ x hx hφ with⟨h1,_⟩|⟨_,_,h1,_⟩|⟨_,_,_,h1|h1⟩|⟨h0,h1,_⟩;·exact absurd h1 (q204.2 (q113 (by decide) (q172 2000000 f)))
  ·exact absurd h1 (q204.2 (q172 2000000 f))
  ·subst h1;exact(Jz hys).elim
  ·rw[show f+2000000-2000000=f from q163 _ _]at h1;exact h1
  ·exact(noF h0 h1 (jk hfn)).elim
 have hQn:∀{T Q:List Nat},T.Nodup->Q.Nodup->(∀t∈Q,t∈T)->(Q++rI d T (T.filter fun t=>!Q.contains t)).Nodup:=by
  intro T Q hT hQ hQT;unfold rI;rw[q178,q178];refine⟨hQ,⟨q253 _ (q253 _ hT),q253 _ (tO d),?_⟩,?_⟩;·rintro x hx y hy rfl;have h1:=(q94.1 (q94.1 hx).1).1;have h2:=(q94.1 hy).2;simp at h2;exact h2 h1
  ·rintro x hx y hy rfl;rcases q75.1 hy with hy|hy;·have h2:=(q94.1 (q94.1 hy).1).2;simp at h2;exact h2 hx
   ·have h2:=(q94.1 hy).2;simp at h2;exact h2 (hQT _ hx)
 refine(J9 (a:=a) (fun _=>hL) h (by omega) (by rw[hl,List.length_map]) (hv ha) rfl rfl rfl hTn hQT (hQn hTn hQn0 hQT) hys hcon hpf ho ho1 hr hfree).mono ?_;rintro e w' ⟨v,β',rfl,hR,hrv⟩;exact⟨v,β',_,rfl,hK,hR.put hd hrv⟩
end
def CX  (h:wQ q=some es):q=some (.kk es):=by
 unfold wQ at h;split at h;·cases h;rfl
 ·cases h
def dA.ct {S:Nat->Prop}{w:World} (h:dP p<99):dA S w (ct p) p:=by cases p with|int k n=>exact .int k n|bool b=>exact .bool b|str l=>exact .str l|_=>simp[dP]at h
def dA.oneC {S:Nat->Prop}{w:World}{u:Value} (h:dA S w u p):u.oneCell'=true:=by cases h<;>first|rfl|assumption
section
variable{P:Program}{Γ:b7}{S0 L:Nat->Prop}{B0:Nat->Value}{w0 w:World}{N:Nat}{st:St}{a:Act}{β:Nat->Value}{o:Oper}{xs:List Operand}
def Rel.setO (h:Rel P S0 L B0 w0 N st a w β) {t b:Nat}{q q':AO}{ob ob':Obj} (ht:st.aa t=some q) (hblk:cI (β t)=some b) (hh:w.heap[b]?=some ob) (hq:∀{S':Nat->Prop}{w':World},w'.heap[b]?=some ob'->(∀k,bn S0 w0.heap.size β st.aa w k->S' k/\w'.heap[k]?=w.heap[k]?)->bE P S' w' β (aE (ba t q' st.aa)) t q'):Rel P S0 L B0 w0 N ⟨st.vars,ba t q' st.aa⟩ a {w with heap:=w.heap.setIfInBounds b ob'} β/\∀k,bn S0 w0.heap.size β st.aa w k->bn S0 w0.heap.size β (ba t q' st.aa) {w with heap:=w.heap.setIfInBounds b ob'} k/\(w.heap.setIfInBounds b ob')[k]?=w.heap[k]?:=by
 have hset:=MapKept.heap_set (o':=ob') hh;have hmo:∀k,bn S0 w0.heap.size β st.aa w k->bn S0 w0.heap.size β (ba t q' st.aa) {w with heap:=w.heap.setIfInBounds b ob'} k/\(w.heap.setIfInBounds b ob')[k]?=w.heap[k]?:=by
  rintro k ⟨g1,g2,g3⟩;have hkb:k≠b:=fun e=>g3 ⟨t,_,ht,by rw[e];exact hblk⟩;refine⟨⟨g1,by simpa using g2,?_⟩,hset.2 k hkb⟩;rintro⟨s,q,hs,hk⟩;by_cases e:s=t;·subst e;exact hkb (by rw[hblk]at hk;injection hk with hk;exact hk.symm)
  ·exact g3 ⟨s,q,by simpa[ba,e]using hs,hk⟩
 exact⟨(h.yT (w':={w with heap:=w.heap.setIfInBounds b ob'}) (o':=q') ht hblk rfl rfl rfl (by simp) hset.2 (hq hset.1 hmo)).1,hmo⟩
def RU {t:TypeId}{d:Nat} (ho:o.op=.makeMap t none) (h:Rel P S0 L B0 w0 N st a w β) (hd:d<N) (ht:st.aa d=none):∃v w' β',(execOp a.eval o).run P w=.ok (.value v) w'/\Rel P S0 L B0 w0 N ⟨Ab.put (some d) (.own d) st.vars,bK [(d,.kk [])] st.aa⟩ (a.put (some d) v) w' β':=by have hf:=h.fresh hd ht (eF w (.map #[] 0)) (v:=.map (some w.heap.size)) (fun b hb=>by simp[cI]at hb;omega) (o:=.kk []) ⟨w.heap.size,#[],0,bp _ _ _,heap_alloc_new w _,MapKept.stamped_empty 0,rfl,fun i e u h1=>by simp at h1⟩;rw[cT];refine⟨.map (some w.heap.size),w.alloc (.map #[] 0),_,by simp[execOp,ho,Instr.makeMap,Result.andThen],hf.put (d:=some d) (fun s hs=>by injection hs with hs;omega) ?_⟩;have:=RV.own (P:=P) (S:=bn S0 w0.heap.size (fL β d (.map (some w.heap.size))) (ba d (.kk []) st.aa) (w.alloc (.map #[] 0))) (w:=w.alloc (.map #[] 0)) (β:=fL β d (.map (some w.heap.size))) (D:=aE (ba d (.kk []) st.aa)) d (cD.2 (.inl rfl));rwa[bp]at this
def SE {t:TypeId}{m k x:Operand}{s:Nat} (ho:(execOp a.eval o).run P w=(do Instr.mapUpdate t (a.eval m) (a.eval k) (a.eval x);pure Next.skip:Sem Next).run P w) (hm:mP P t=some (kt,et)) (hsrt:mR P kt=some s) (h:Rel P S0 L B0 w0 N st a w β) (hd:∀s,o.dst=some s->s<N) {X K Y:AV} (hX:RV P (bn S0 w0.heap.size β st.aa w) w β (aE st.aa) (a.eval m) X) (hK:RV P (bn S0 w0.heap.size β st.aa w) w β (aE st.aa) (a.eval k) K) (hY:RV P (bn S0 w0.heap.size β st.aa w) w β (aE st.aa) (a.eval x) Y) {tg:Nat}{p v:PV} (e1:X=.own tg) (e2:K=.pv p) (e3:Y=.pv v) (hob:st.aa tg=some (.kk es)) (hp:dP p=s) (hks:iP s es):∃w',(execOp a.eval o).run P w=.ok .skip w'/\Rel P S0 L B0 w0 N ⟨Ab.put o.dst .ak st.vars,ba tg (.kk (nJ p v es)) st.aa⟩ (a.put o.dst undef) w' β:=by
 subst e1 e2 e3;obtain⟨b,us,c,hb,hh,hst,hl,hc⟩:=h.heap.holds tg _ hob;have hmt:=jT hm;obtain⟨d,hdk,hkey⟩:=jF hsrt;have hs99:=sQ hsrt;have hmv:a.eval m=.map (some b):=hX.bo.1.trans hb;have hkv:a.eval k=Ab.ct p:=om hK hp hs99;have hblk:cI (β tg)=some b:=by rw[hb];rfl
 have hfind:=lD hkey hp hs99 us.toList es 0 hks hl fun i e u h1 h2=>(hc i e u h1 h2).1;have hv:=hY.bL;have main:∀(us':Array MapEntry) (c':Nat),(execOp a.eval o).run P w=.ok .skip {w with heap:=w.heap.setIfInBounds b (.map us' c')}->MapKept.Stamped us' c'->us'.toList.length=(nJ p v es).length->(∀(i:Nat) (e:PV×PV) (u:MapEntry),(nJ p v es)[i]?=some e->us'.toList[i]?=some u->(e=(p,v)/\u.key=Ab.ct p/\u.val=a.eval x)\/∃j:Nat,es[j]?=some e/\us.toList[j]?=some u)->∃w',(execOp a.eval o).run P w=.ok .skip w'/\Rel P S0 L B0 w0 N ⟨Ab.put o.dst .ak st.vars,ba tg (.kk (nJ p v es)) st.aa⟩ (a.put o.dst undef) w' β:=by
  intro us' c' hrun hst' hl' hc';refine⟨_,hrun,(h.setO (q':=.kk (nJ p v es)) (ob':=.map us' c') hob hblk hh fun{S' w'} hw' hmo=>⟨b,us',c',hb,hw',hst',hl',fun i e u h1 h2=>?_⟩).1.put hd (.ak _)⟩;rcases hc' i e u h1 h2 with⟨rfl,g1,g2⟩|⟨j,g1,g2⟩;·rw[g2];exact⟨g1,by show dP p<99;omega,hv.oneC,hv.mono hmo⟩
  ·have:=hc j e u g1 g2;exact⟨this.1,this.2.1,this.2.2.1,this.2.2.2.mono hmo⟩
 rcases hfind with⟨h1,h2,h3,_,h5⟩|⟨j,e,u,h1,h2,h3,h4,h5,h6,_⟩
 ·refine main (us.push {key:=Ab.ct p,val:=a.eval x,born:=c}) (c+1) ?_ (MapKept.stamped_push hst h5) ?_ ?_;·rw[ho,hmv,hkv];simp[Instr.mapUpdate,run_underlying hmt,q114 hh,q118 hdk (hkey p hp),q123 hdk h1,q209 _ hh,Result.andThen]
  ·rw[h3];simpa using hl
  ·intro i e u g1 g2;rw[h3]at g1;simp only[Array.toList_push]at g2;by_cases hi:i<es.length;·rw[q86 hi]at g1;rw[q86 (by omega)]at g2;exact .inr ⟨i,g1,g2⟩
   ·rw[q98 (by omega)]at g1;rw[q98 (by omega),hl]at g2;cases hz:i-es.length with|zero=>rw[hz]at g1 g2;simp only[q72,qr]at g1 g2;subst g1 g2;exact .inl ⟨rfl,rfl,rfl⟩|succ n=>rw[hz]at g1;simp at g1
 ·have hj:us[j]?=some u:=by simpa using h3
  refine main (us.modify j fun e=>{e with key:=Ab.ct p,val:=a.eval x}) c ?_ (MapKept.stamped_modify hst _ _ (fun _ _=>rfl) fun e' he' hje=>?_) ?_ ?_;·rw[ho,hmv,hkv];rw[q126]at h1;simp[Instr.mapUpdate,run_underlying hmt,q114 hh,q118 hdk (hkey p hp),q123 hdk h1,hj,h4,q284 (hkey p hp),q209 _ hh,Result.andThen]
  ·rw[hj]at hje;cases hje;exact h4.symm
  ·rw[h6];simpa using hl
  ·intro i e' u' g1 g2;rw[h6]at g1;have g2':(us.modify j fun e=>{e with key:=Ab.ct p,val:=a.eval x})[i]?=some u':=by rw[<-q216];exact g2
   rw[q218]at g2';rw[q268]at g1;by_cases hij:j=i
   ·subst hij;rw[if_pos rfl,hj]at g2';rw[if_pos rfl]at g1;split at g1;·simp only[qr,q121]at g1 g2';subst g1 g2';exact .inl ⟨rfl,rfl,rfl⟩
    ·cases g1
   ·rw[if_neg hij]at g1 g2';exact .inr ⟨i,g1,by simpa using g2'⟩
def FB (h:Rel P S0 L B0 w0 N st a w β) {v:Value} (hX:RV P (bn S0 w0.heap.size β st.aa w) w β (aE st.aa) v X) (hm:LC st.aa X=some es):∃b us c,v=.map (some b)/\w.heap[b]?=some (.map us c)/\MapKept.Stamped us c/\us.toList.length=es.length/\∀(i:Nat) (e:PV×PV) (u:MapEntry),es[i]?=some e->us.toList[i]?=some u->u.key=Ab.ct e.1/\dP e.1<99/\u.val.oneCell'=true/\dA (bn S0 w0.heap.size β st.aa w) w u.val e.2:=by
 unfold LC at hm;split at hm;·rename_i t;obtain⟨b,us,c,hb,hh,hst,hl,hc⟩:=h.heap.holds t _ (CX hm);exact⟨b,us,c,hX.bo.1.trans hb,hh,hst,hl,hc⟩
 ·cases hm;have h1:=hX.bL;cases h1 with|mv b us c es g1 g2 g3 g4 g5 g6=>exact⟨b,us,c,rfl,g2,g3,g4,fun i e u a1 a2=>⟨(g5 i e u a1 a2).1,(g5 i e u a1 a2).2.1,(g5 i e u a1 a2).2.2,g6 i e u a1 a2⟩⟩
 ·cases hm
def Rw {t:TypeId}{m k:Operand}{s:Nat}{ok:Bool} (ho:o.op=.lookup t m k ok) (hm:mP P t=some (kt,et)) (hsrt:mR P kt=some s) (hz:zeroV P et=some z) (hz1:z.oneCell'=true) (h:Rel P S0 L B0 w0 N st a w β) (hd:∀s,o.dst=some s->s<N) {X K:AV} (hX:RV P (bn S0 w0.heap.size β st.aa w) w β (aE st.aa) (a.eval m) X) (hK:RV P (bn S0 w0.heap.size β st.aa w) w β (aE st.aa) (a.eval k) K)  (e2:K=.pv p) (hob:LC st.aa X=some es) (hp:dP p=s) (hks:iP s es):∃v,(execOp a.eval o).run P w=.ok (.value v) w/\Rel P S0 L B0 w0 N ⟨Ab.put o.dst (Bk z ok (mS p es)) st.vars,st.aa⟩ (a.put o.dst v) w β:=by
 subst e2;obtain⟨b,us,c,hmv,hh,hst,hl,hc⟩:=FB h hX hob;have hmt:=jT hm;obtain⟨d,hdk,hkey⟩:=jF hsrt;have hs99:=sQ hsrt;have hkv:a.eval k=Ab.ct p:=om hK hp hs99;have hzr:(zeroValue et).run P w=.ok z w:=by unfold zeroV at hz;obtain⟨i,hi,hz⟩:=qB.1 hz;simp[zeroValue,typeInfo,hi,hz]
 have hfind:=lD hkey hp hs99 us.toList es 0 hks hl fun i e u h1 h2=>(hc i e u h1 h2).1;have fin:∀(v:Value) (x:PV) (f:Bool),(Instr.lookup t (.map (some b)) (Ab.ct p) ok).run P w=.ok (if ok=true then .tuple #[v,.bool f] else v) w->dA (bn S0 w0.heap.size β st.aa w) w v x->∃v,(execOp a.eval o).run P w=.ok (.value v) w/\Rel P S0 L B0 w0 N ⟨Ab.put o.dst (if ok=true then .aN [.pv x,.pv (.bool f)] else .pv x) st.vars,st.aa⟩ (a.put o.dst v) w β:=by intro v x f hrun hv;refine⟨_,by simp only[execOp,ho,hmv,hkv];simp[hrun,Result.andThen];rfl,h.put hd ?_⟩;cases ok with|false=>exact .pv _ _ hv|true=>refine .aN _ [v,.bool f] rfl fun i c u h1 h2=>?_;match i with|0=>simp at h1 h2;subst h1 h2;exact .pv _ _ hv|1=>simp at h1 h2;subst h1 h2;exact .pv _ _ (.bool f)|i+2=>simp at h1
 unfold Bk;rcases hfind with⟨h1,h2,_⟩|⟨j,e,u,h1,h2,h3,h4,h5,_⟩;·rw[h2];refine fin z (si z) false ?_ (jv _ _ z hz1);simp[Instr.lookup,run_underlying hmt,q114 hh,q118 hdk (hkey p hp),q123 hdk h1,hzr,Result.andThen]
 ·rw[h5];refine fin u.val e.2 true ?_ (hc j e u h2 h3).2.2.2;simp[Instr.lookup,run_underlying hmt,q114 hh,q118 hdk (hkey p hp),q123 hdk h1,Result.andThen]
def G6 {x:XK} (hc:Co P o=some (x,xs)) (hd:∀s,o.dst=some s->s<N) (h:Rel P S0 L B0 w0 N st a w β) (hK:∀st a w β,K st->Rel P S0 L B0 w0 N st a w β->K' a w) (hs:bH o.dst x (xs.map (Ab.ev st.vars)) K st):o.wp P a w K' Q:=by
 have hput:∀{t:TypeId}{m k y:Operand}{kt et:TypeId}{s:Nat},(execOp a.eval o).run P w=(do Instr.mapUpdate t (a.eval m) (a.eval k) (a.eval y);pure Next.skip:Sem Next).run P w->mP P t=some (kt,et)->mR P kt=some s->bH o.dst (.XF s) ([m,k,y].map (Ab.ev st.vars)) K st->o.wp P a w K' Q:=by
  intro t m k y kt et s ho hm hsr hs;have hs:tK o.dst s (strip (Ab.ev st.vars m)) (strip (Ab.ev st.vars k)) (sS (strip (Ab.ev st.vars y))) ([m,k,y].map (Ab.ev st.vars)) K st:=hs;unfold tK at hs;split at hs;·rename_i t' p v e1 e2 e3;obtain⟨ha,hs⟩:=hs;obtain⟨es,hes,hp,hks,hKs⟩:=af hs;obtain⟨w',hrun,hR⟩:=SE ho hm hsr h hd (h.eo m ha.1) (h.eo k ha.2.1) (h.eo y ha.2.2.1).nrm e1 e2 e3 (CX hes) hp hks;exact mn hrun (hK _ _ _ β hKs hR)
  ·exact hs.elim
 unfold Co at hc;split at hc
 ·rename_i t ho;split at hc
  ·split at hc;·cases hc;have hs:aj o.dst fun d=>st.aa d=none/\K ⟨Ab.put (some d) (.own d) st.vars,bK [(d,.kk [])] st.aa⟩:=hs;obtain⟨d,hdd,hn,hKs⟩:=af hs;obtain⟨v,w',β',hrun,hR⟩:=RU ho h (hd d hdd) hn;exact aY hrun (hK _ _ _ β' hKs (by rw[hdd];exact hR))
   ·cases hc
  ·cases hc
 ·rename_i t m k y ho;split at hc
  ·rename_i kt et hm;split at hc
   ·rename_i s hsr;split at hc;·cases hc;exact hput (by simp only[execOp,ho]) hm hsr hs
    ·cases hc
   ·cases hc
  ·cases hc
 ·rename_i t m k y ho;split at hc
  ·rename_i kt et hm;split at hc
   ·rename_i s hsr;split at hc;·cases hc;exact hput (by simp only[execOp,ho]) hm hsr hs
    ·cases hc
   ·cases hc
  ·cases hc
 ·rename_i t m k ok ho;split at hc
  ·rename_i kt et hm;split at hc
   ·rename_i s z hsr hz;split at hc
    ·cases hc;have hs:zG o.dst s z ok (strip (Ab.ev st.vars m)) (strip (Ab.ev st.vars k)) ([m,k].map (Ab.ev st.vars)) K st:=hs;unfold zG at hs;split at hs;·rename_i p e2;obtain⟨ha,hs⟩:=hs;obtain⟨es,hes,hz1,hp,hks,hKs⟩:=af hs;obtain⟨v,hrun,hR⟩:=Rw ho hm hsr hz hz1 h hd (h.eo m ha.1) (h.eo k ha.2.1) e2 hes hp hks;exact aY hrun (hK _ _ _ β hKs hR)
     ·exact hs.elim
    ·cases hc
   ·cases hc
  ·cases hc
 ·cases hc
end
def qJ {d:TypeDesc}{k:PV}{s:Nat} (hd:∀k,dP k=s->MapKept.IsKey d (ct k)) (hk:dP k=s) (hs:s<99):∀(us:List MapEntry) (es:List (PV×AV)) (n:Nat),gW s es->us.length=es.length->(∀(i:Nat) (e:PV×AV) (u:MapEntry),es[i]?=some e->us[i]?=some u->u.key=ct e.1)->(Instr.findNow d (ct k) us n=some none/\getM k es=none/\∀v,j7 k v es=es++[(k,v)])\/∃j e u,Instr.findNow d (ct k) us n=some (some (n+j,u.val))/\es[j]?=some e/\us[j]?=some u/\u.key=ct k/\getM k es=some e.2/\∀v,j7 k v es=es.set j (k,v)|[],[],_,_,_,_=>.inl ⟨rfl,rfl,fun v=>rfl⟩|[],_::_,_,_,hl,_=>by simp at hl|_::_,[],_,_,hl,_=>by simp at hl|u::us,e::es,n,hks,hl,hu=>by have h1:=hu 0 e u rfl rfl;have hke:=hks e (by simp);obtain⟨r,hr,hiff⟩:=q289 (hd k hk) (hd e.1 hke);rw[<-h1]at hr;cases r with|true=>have h2:ct k=ct e.1:=hiff.1 rfl;have h3:oH k e.1=true:=(rC hk hke hs).2 h2.symm;exact .inr ⟨0,e,u,by simp[Instr.findNow,hr],rfl,rfl,h1.trans h2.symm,by simp only[getM];rw[if_pos h3],fun v=>by simp only[j7];rw[if_pos h3];rfl⟩|false=>
 have h3:¬oH k e.1=true:=fun h=>by have:=hiff.2 ((rC hk hke hs).1 h).symm;cases this
 rcases qJ hd hk hs us es (n+1) (fun x hx=>hks x (by simp[hx])) (by simpa using hl) (fun i x y hx hy=>hu (i+1) x y (by simpa using hx) (by simpa using hy)) with⟨g1,g2,g3⟩|⟨j,e',u',g1,g2,g3,g4,g5,g6⟩;·exact .inl ⟨by simp[Instr.findNow,hr,g1],by simp only[getM];rw[if_neg h3];exact g2,fun v=>by simp only[j7];rw[if_neg h3,g3 v];rfl⟩
 ·exact .inr ⟨j+1,e',u',by simp[Instr.findNow,hr,g1];omega,by simpa using g2,by simpa using g3,g4,by simp only[getM];rw[if_neg h3];exact g5,fun v=>by simp only[j7];rw[if_neg h3,g6 v];rfl⟩
def RV.aaC {P:Program}{S:Nat->Prop}{w:World}{β:Nat->Value}{D:Nat->Prop}{u:Value}{v:AV} (h:RV P S w β D u v) (hp:eL v=true):RV P S w β (fun _=>False) u v:=by
 have hcell:∀{u:Value}{c:AV},RV P S w β D u c->iL c=true->RV P S w β (fun _=>False) u c:=by intro u c h hp;cases c with
  |pv p=>cases h with|pv _ _ h=>exact .pv _ _ h
  |rp cs=>cases h with|rp ad _ us h1 h2 h3 h4=>exact .rp ad _ us h1 h2 h3 h4
  |_=>simp[iL]at hp
 cases v with
 |agg cs=>cases h with|agg _ us hl hc=>exact .agg _ us hl fun i c u h1 h2=>hcell (hc i c u h1 h2) (jD cs i c hp h1)
 |bI f cs=>cases h with|bI _ _ us hl hc=>exact .bI f _ us hl fun i c u h1 h2=>hcell (hc i c u h1 h2) (jD cs i c hp h1)
 |_=>exact hcell h hp
def CT {es:List (PV×AV)} (h:BA q=some es):q=some (.map es):=by
 unfold BA at h;split at h;·cases h;rfl
 ·cases h
section
variable{P:Program}{Γ:b7}{S0 L:Nat->Prop}{B0:Nat->Value}{w0 w:World}{N:Nat}{st:St}{a:Act}{β:Nat->Value}{o:Oper}{xs:List Operand}
def Ip (S:Nat->Prop) (D:Nat->Prop) (z:Value):RV P S w β D z (IY z):=by cases z with|agg cs=>have:=mQ.cv_ (P:=P) (S:=S) (w:=w) (β:=β) D cs.toList;exact .agg _ cs.toList this.1 fun i c u h1 h2=>this.2 i c u h1 h2|_=>exact vK P S w β D _
def SZ {t:TypeId}{m k x:Operand}{s:Nat} (ho:(execOp a.eval o).run P w=(do Instr.mapUpdate t (a.eval m) (a.eval k) (a.eval x);pure Next.skip:Sem Next).run P w) (hm:mP P t=some (kt,et)) (hsrt:mR P kt=some s) (h:Rel P S0 L B0 w0 N st a w β) (hd:∀s,o.dst=some s->s<N) {X K Y:AV} (hX:RV P (bn S0 w0.heap.size β st.aa w) w β (aE st.aa) (a.eval m) X) (hK:RV P (bn S0 w0.heap.size β st.aa w) w β (aE st.aa) (a.eval k) K) (hY:RV P (bn S0 w0.heap.size β st.aa w) w β (aE st.aa) (a.eval x) Y) {tg:Nat}{es:List (PV×AV)} (e1:X=.own tg) (e2:K=.pv p) (hob:st.aa tg=some (.map es)) (hp:dP p=s) (hks:gW s es) (hpu:eL Y=true):∃w',(execOp a.eval o).run P w=.ok .skip w'/\Rel P S0 L B0 w0 N ⟨Ab.put o.dst .ak st.vars,ba tg (.map (j7 p Y es)) st.aa⟩ (a.put o.dst undef) w' β:=by
 subst e1 e2;obtain⟨b,us,c,hb,hh,hl,hc⟩:=h.heap.holds tg _ hob;have hmt:=jT hm;obtain⟨d,hdk,hkey⟩:=jF hsrt;have hs99:=sQ hsrt;have hmv:a.eval m=.map (some b):=hX.bo.1.trans hb;have hkv:a.eval k=ct p:=om hK hp hs99;have hblk:cI (β tg)=some b:=by rw[hb];rfl
 have hdt:aE st.aa tg:=⟨_,hob⟩;have hfind:=qJ hkey hp hs99 us.toList es 0 hks hl fun i e u h1 h2=>(hc i e u h1 h2).1;have main:∀(us':Array MapEntry) (c':Nat),(execOp a.eval o).run P w=.ok .skip {w with heap:=w.heap.setIfInBounds b (.map us' c')}->us'.toList.length=(j7 p Y es).length->(∀(i:Nat) (e:PV×AV) (u:MapEntry),(j7 p Y es)[i]?=some e->us'.toList[i]?=some u->(e=(p,Y)/\u.key=ct p/\u.val=a.eval x)\/∃j:Nat,es[j]?=some e/\us.toList[j]?=some u)->∃w',(execOp a.eval o).run P w=.ok .skip w'/\Rel P S0 L B0 w0 N ⟨Ab.put o.dst .ak st.vars,ba tg (.map (j7 p Y es)) st.aa⟩ (a.put o.dst undef) w' β:=by
  intro us' c' hrun hl' hc';have hset:=MapKept.heap_set (o':=.map us' c') hh;have hmo:∀k,bn S0 w0.heap.size β st.aa w k->bn S0 w0.heap.size β (ba tg (.map (j7 p Y es)) st.aa) {w with heap:=w.heap.setIfInBounds b (.map us' c')} k/\(w.heap.setIfInBounds b (.map us' c'))[k]?=w.heap[k]?:=by
   rintro k ⟨g1,g2,g3⟩;have hkb:k≠b:=fun e=>g3 ⟨tg,_,hob,by rw[e];exact hblk⟩;refine⟨⟨g1,by simpa using g2,?_⟩,hset.2 k hkb⟩;rintro⟨s,q,hs,hk⟩;by_cases e:s=tg;·subst e;exact hkb (by rw[hblk]at hk;injection hk with hk;exact hk.symm)
   ·exact g3 ⟨s,q,by simpa[ba,e]using hs,hk⟩
  have hR:=(h.yT (w':={w with heap:=w.heap.setIfInBounds b (.map us' c')}) (o':=.map (j7 p Y es)) hob hblk rfl rfl rfl (by simp) hset.2 ⟨b,us',c',hb,hset.1,hl',fun i e u h1 h2=>by
   rcases hc' i e u h1 h2 with⟨rfl,g1,g2⟩|⟨j,g1,g2⟩;·rw[g2];exact⟨g1,(hY.aaC hpu).mono hmo fun _ hf=>hf.elim⟩
   ·exact⟨(hc j e u g1 g2).1,(hc j e u g1 g2).2.mono hmo fun _ hf=>hf.elim⟩⟩).1;exact⟨_,hrun,hR.put hd (.ak _)⟩
 rcases hfind with⟨h1,h2,h3⟩|⟨j,e,u,h1,h2,h3,h4,h5,h6⟩
 ·refine main (us.push {key:=ct p,val:=a.eval x,born:=c}) (c+1) ?_ ?_ ?_;·rw[ho,hmv,hkv];simp[Instr.mapUpdate,run_underlying hmt,q114 hh,q118 hdk (hkey p hp),q123 hdk h1,q209 _ hh,Result.andThen]
  ·rw[h3];simpa using hl
  ·intro i e u g1 g2;rw[h3]at g1;simp only[Array.toList_push]at g2;by_cases hi:i<es.length;·rw[q86 hi]at g1;rw[q86 (by omega)]at g2;exact .inr ⟨i,g1,g2⟩
   ·rw[q98 (by omega)]at g1;rw[q98 (by omega),hl]at g2;cases hz:i-es.length with|zero=>rw[hz]at g1 g2;simp only[q72,qr]at g1 g2;subst g1 g2;exact .inl ⟨rfl,rfl,rfl⟩|succ n=>rw[hz]at g1;simp at g1
 ·have hj:us[j]?=some u:=by simpa using h3
  refine main (us.modify j fun e=>{e with key:=ct p,val:=a.eval x}) c ?_ ?_ ?_;·rw[ho,hmv,hkv];rw[q126]at h1;simp[Instr.mapUpdate,run_underlying hmt,q114 hh,q118 hdk (hkey p hp),q123 hdk h1,hj,h4,q284 (hkey p hp),q209 _ hh,Result.andThen]
  ·rw[h6];simpa using hl
  ·intro i e' u' g1 g2;rw[h6]at g1;have g2':(us.modify j fun e=>{e with key:=ct p,val:=a.eval x})[i]?=some u':=by rw[<-q216];exact g2
   rw[q218]at g2';rw[q268]at g1;by_cases hij:j=i
   ·subst hij;rw[if_pos rfl,hj]at g2';rw[if_pos rfl]at g1;split at g1;·simp only[qr,q121]at g1 g2';subst g1 g2';exact .inl ⟨rfl,rfl,rfl⟩
    ·cases g1
   ·rw[if_neg hij]at g1 g2';exact .inr ⟨i,g1,by simpa using g2'⟩
def SY {t:TypeId}{m k:Operand}{s:Nat}{ok:Bool} (ho:o.op=.lookup t m k ok) (hm:mP P t=some (kt,et)) (hsrt:mR P kt=some s) (hz:zeroV P et=some z) (h:Rel P S0 L B0 w0 N st a w β) (hd:∀s,o.dst=some s->s<N) {X K:AV} (hX:RV P (bn S0 w0.heap.size β st.aa w) w β (aE st.aa) (a.eval m) X) (hK:RV P (bn S0 w0.heap.size β st.aa w) w β (aE st.aa) (a.eval k) K) {tg:Nat}{es:List (PV×AV)} (e1:X=.own tg) (e2:K=.pv p) (hob:st.aa tg=some (.map es)) (hp:dP p=s) (hks:gW s es):∃v,(execOp a.eval o).run P w=.ok (.value v) w/\Rel P S0 L B0 w0 N ⟨Ab.put o.dst (if ok=true then .aN [(getM p es).getD (IY z),.pv (.bool (getM p es).isSome)] else(getM p es).getD (IY z)) st.vars,st.aa⟩ (a.put o.dst v) w β:=by
 subst e1 e2;obtain⟨b,us,c,hb,hh,hl,hc⟩:=h.heap.holds tg _ hob;have hmt:=jT hm;obtain⟨d,hdk,hkey⟩:=jF hsrt;have hs99:=sQ hsrt;have hmv:a.eval m=.map (some b):=hX.bo.1.trans hb;have hkv:a.eval k=ct p:=om hK hp hs99;have hzr:(zeroValue et).run P w=.ok z w:=by unfold zeroV at hz;obtain⟨i,hi,hz⟩:=qB.1 hz;simp[zeroValue,typeInfo,hi,hz]
 have hfind:=qJ hkey hp hs99 us.toList es 0 hks hl fun i e u h1 h2=>(hc i e u h1 h2).1;have fin:∀(v:Value) (x:AV) (f:Bool),(Instr.lookup t (.map (some b)) (ct p) ok).run P w=.ok (if ok=true then .tuple #[v,.bool f] else v) w->RV P (bn S0 w0.heap.size β st.aa w) w β (aE st.aa) v x->∃v,(execOp a.eval o).run P w=.ok (.value v) w/\Rel P S0 L B0 w0 N ⟨Ab.put o.dst (if ok=true then .aN [x,.pv (.bool f)] else x) st.vars,st.aa⟩ (a.put o.dst v) w β:=by intro v x f hrun hv;refine⟨_,by simp only[execOp,ho,hmv,hkv];simp[hrun,Result.andThen];rfl,h.put hd ?_⟩;cases ok with|false=>exact hv|true=>refine .aN _ [v,.bool f] rfl fun i c u h1 h2=>?_;match i with|0=>simp at h1 h2;subst h1 h2;exact hv|1=>simp at h1 h2;subst h1 h2;exact .pv _ _ (.bool f)|i+2=>simp at h1
 rcases hfind with⟨h1,h2,h3⟩|⟨j,e,u,h1,h2,h3,h4,h5,h6⟩;·rw[h2];refine fin z (IY z) false ?_ (Ip _ _ z);simp[Instr.lookup,run_underlying hmt,q114 hh,q118 hdk (hkey p hp),q123 hdk h1,hzr,Result.andThen]
 ·rw[h5];refine fin u.val e.2 true ?_ ((hc j e u h2 h3).2.mono (fun b hb=>⟨hb,rfl⟩) fun _ hf=>hf.elim);simp[Instr.lookup,run_underlying hmt,q114 hh,q118 hdk (hkey p hp),q123 hdk h1,Result.andThen]
def NW {t:TypeId}{m k:Operand}{s:Nat}{ok:Bool} (ho:o.op=.lookup t m k ok) (hm:mP P t=some (kt,et)) (hsrt:mR P kt=some s) (hz:zeroV P et=some z) (h:Rel P S0 L B0 w0 N st a w β) (hd:∀s,o.dst=some s->s<N) {X K:AV} (hX:RV P (bn S0 w0.heap.size β st.aa w) w β (aE st.aa) (a.eval m) X) (hK:RV P (bn S0 w0.heap.size β st.aa w) w β (aE st.aa) (a.eval k) K) {ks:List PV} (e1:X=.pv (.mp ks)) (e2:K=.pv p) (hzu:yS z=true) (hp:dP p=s) (hks:∀x∈ks,dP x=s):∃v,(execOp a.eval o).run P w=.ok (.value v) w/\Rel P S0 L B0 w0 N ⟨Ab.put o.dst (if ok=true then .aN [.agg [],.pv (.bool (ks.any (oH p)))] else .agg []) st.vars,st.aa⟩ (a.put o.dst v) w β:=by
 subst e1 e2;obtain⟨b,us,c,hmv,hh,hl,hc⟩:∃b us c,a.eval m=.map (some b)/\w.heap[b]?=some (.map us c)/\us.toList.length=ks.length/\∀(i:Nat) (k:PV) (u:MapEntry),ks[i]?=some k->us.toList[i]?=some u->u.key=ct k/\u.val=.agg #[]:=by have hx:=hX.bL;generalize a.eval m=V at hx;cases hx with|mp b us c ks h1 h2 h3 h4=>exact⟨b,us,c,rfl,h2,h3,h4⟩
 have hmt:=jT hm;obtain⟨d,hdk,hkey⟩:=jF hsrt;have hs99:=sQ hsrt;have hkv:a.eval k=ct p:=om hK hp hs99;have hzr:(zeroValue et).run P w=.ok z w:=by unfold zeroV at hz;obtain⟨i,hi,hz⟩:=qB.1 hz;simp[zeroValue,typeInfo,hi,hz]
 have hany:∀l:List PV,(getM p (l.map fun x=>(x,AV.ak))).isSome=l.any (oH p):=by intro l;induction l with|nil=>rfl|cons x l ih=>
  simp only[q74,getM,q243];by_cases hx:oH p x=true;·simp[hx]
  ·have hx':oH p x=false:=by simpa using hx
   rw[if_neg hx,hx',q266,ih]
 have hfind:=qJ hkey hp hs99 us.toList (ks.map fun x=>(x,AV.ak)) 0 (by intro e he;obtain⟨x,hx,rfl⟩:=q83.1 he;exact hks x hx) (by simpa using hl) fun i e u h1 h2=>by rw[q79]at h1;obtain⟨x,hx,rfl⟩:=q900.1 h1;exact(hc i x u hx h2).1
 have hzv:z=.agg #[]:=by
  unfold yS at hzu;split at hzu
  ·rename_i cs;have:cs=#[]:=by simpa using hzu
   rw[this]
  ·cases hzu
 have fin:∀(v:Value) (f:Bool),v=.agg #[]->(Instr.lookup t (.map (some b)) (ct p) ok).run P w=.ok (if ok=true then .tuple #[v,.bool f] else v) w->∃v,(execOp a.eval o).run P w=.ok (.value v) w/\Rel P S0 L B0 w0 N ⟨Ab.put o.dst (if ok=true then .aN [.agg [],.pv (.bool f)] else .agg []) st.vars,st.aa⟩ (a.put o.dst v) w β:=by
  intro v f hv0 hrun;subst hv0;have hag:RV P (bn S0 w0.heap.size β st.aa w) w β (aE st.aa) (.agg #[]) (.agg []):=.agg [] [] rfl fun i c u h1=>by simp at h1
  refine⟨_,by simp only[execOp,ho,hmv,hkv];simp[hrun,Result.andThen];rfl,h.put hd ?_⟩;cases ok with|false=>exact hag|true=>refine .aN _ [.agg #[],.bool f] rfl fun i c u h1 h2=>?_;match i with|0=>simp at h1 h2;subst h1 h2;exact hag|1=>simp at h1 h2;subst h1 h2;exact .pv _ _ (.bool f)|i+2=>simp at h1
 rw[<-hany];rcases hfind with⟨h1,h2,h3⟩|⟨j,e,u,h1,h2,h3,h4,h5,h6⟩;·rw[h2];refine fin z false hzv ?_;simp[Instr.lookup,run_underlying hmt,q114 hh,q118 hdk (hkey p hp),q123 hdk h1,hzr,Result.andThen]
 ·rw[h5];obtain⟨x,hx,rfl⟩:=q900.1 (by rw[q79]at h2;exact h2);refine fin u.val true (hc j x u hx h3).2 ?_;simp[Instr.lookup,run_underlying hmt,q114 hh,q118 hdk (hkey p hp),q123 hdk h1,Result.andThen]
def Oc {t:TypeId}{d:Nat} (ho:o.op=.makeMap t none) (h:Rel P S0 L B0 w0 N st a w β) (hd:d<N) (ht:st.aa d=none):∃v w' β',(execOp a.eval o).run P w=.ok (.value v) w'/\Rel P S0 L B0 w0 N ⟨Ab.put (some d) (.own d) st.vars,bK [(d,.map [])] st.aa⟩ (a.put (some d) v) w' β':=by have hf:=h.fresh hd ht (eF w (.map #[] 0)) (v:=.map (some w.heap.size)) (fun b hb=>by simp[cI]at hb;omega) (o:=.map []) ⟨w.heap.size,#[],0,bp _ _ _,heap_alloc_new w _,rfl,fun i e u h1=>by simp at h1⟩;rw[cT];refine⟨.map (some w.heap.size),w.alloc (.map #[] 0),_,by simp[execOp,ho,Instr.makeMap,Result.andThen],hf.put (d:=some d) (fun s hs=>by injection hs with hs;omega) ?_⟩;have:=RV.own (P:=P) (S:=bn S0 w0.heap.size (fL β d (.map (some w.heap.size))) (ba d (.map []) st.aa) (w.alloc (.map #[] 0))) (w:=w.alloc (.map #[] 0)) (β:=fL β d (.map (some w.heap.size))) (D:=aE (ba d (.map []) st.aa)) d (cD.2 (.inl rfl));rwa[bp]at this
def CE {ne:Bool}{t e yt:TypeId}{x y:Operand} (ho:o.op=.binOp (if ne=true then .neq else .eql) t x y yt) (hu:P.underlying t=some (.slice e)) (hy:gi y=true) (hd:∀s,o.dst=some s->s<N) (h:Rel P S0 L B0 w0 N st a w β) (hK:∀st a w β,K st->Rel P S0 L B0 w0 N st a w β->K' a w) (hs:bH o.dst (.yQ ne) ([x].map (Ab.ev st.vars)) K st):o.wp P a w K' Q:=by
 have hyv:a.eval y=.slice none 0 0:=by
  unfold gi at hy;split at hy;·rfl
  ·cases hy
 unfold bH at hs;split at hs;·rename_i h1 _;cases h1
 ·rename_i h1 _;cases h1
 ·rename_i h1 _;cases h1
 ·rename_i h1;cases h1
 ·rename_i ne' X h1 hl;cases h1;simp only[q74,q119,q112,and_true]at hl;subst hl;obtain⟨ha,hs⟩:=hs;obtain⟨rows,hr,hs⟩:=af hs;have hX:=h.eo x ha.1;have hv:∃A n c,a.eval x=.slice A n c/\(rows≠[]->A.isNone=false):=by
   have hro:∀{S':Nat->Prop}{rows:List (List PV)},dA S' w (a.eval x) (.ro rows)->∃A n c,a.eval x=.slice A n c/\(rows≠[]->A.isNone=false):=by intro S' rows hX;obtain⟨A,c,hv,hc,hne⟩:=hX.gJ;refine⟨A,rows.length,c,hv,fun h0=>?_⟩;obtain⟨ad,sz,us,rfl,_⟩:=hne h0;rfl
   generalize strip (Ab.ev st.vars x)=X at hX hr;cases X with
   |pv p=>cases p with|nil=>cases hr;exact⟨none,0,0,hX.bL.eT,fun h0=>absurd rfl h0⟩|ro rows'=>cases hr;exact hro hX.bL|_=>simp[gr]at hr
   |own t'=>simp only[gr,q900]at hr;obtain⟨⟨e',rows'⟩,hs',rfl⟩:=hr;obtain⟨hro',_⟩:=Bb (S':=fun _=>True) (h.heap.arr (b9 hs')) (fun _ _=>trivial) (fun _ _=>trivial);rw[<-hX.bo.1]at hro';exact hro hro'|sub t' e1 lo hi=>
    simp only[gr,qB]at hr;obtain⟨r,hs',hr⟩:=hr;split at hr;·rename_i he1;simp only[qr]at hr;subst hr he1;exact hro (EA (S':=fun _=>True) (h.heap.arr (b9 hs')) (fun _ _=>trivial) (fun _ _=>trivial) hX)
    ·cases hr|_=>simp[gr]at hr
  obtain⟨A,n,c,hxv,hA⟩:=hv;have hrun:(execOp a.eval o).run P w=.ok (.value (.bool (if ne=true then !A.isNone else A.isNone))) w:=by cases ne with|false=>simp[execOp,ho,hxv,hyv,eqGuard_at_slice,run_eql_slice_nil w t e A n c hu,Result.andThen]|true=>simp[execOp,ho,hxv,hyv,eqGuard_at_slice,run_neq_slice_nil w t e A n c hu,Result.andThen]
  exact aY hrun (hK _ _ _ β (hs A.isNone hA) (h.put hd (.pv _ _ (.bool _))))
 ·rename_i h1 _;cases h1
 ·rename_i h1;cases h1
 ·rename_i h1;cases h1
 ·rename_i h1;cases h1
 ·rename_i h1 _;cases h1
 ·rename_i h1 _;cases h1
 ·exact hs.elim
def EF {fn:Func} (h:fn.name= "math/bits.Add64"):Extern.find fn=some add64Entry:=by unfold Extern.find;simp only[h];rfl
def Lt {args:Array Operand}{argTypes:Array TypeId} (ho:o.op=.call {callee:=.value (.func f),args:=args,argTypes:=argTypes}) (hf:AS P f=true) (hd:∀s,o.dst=some s->s<N) (h:Rel P S0 L B0 w0 N st a w β) (hK:∀st a w β,K st->Rel P S0 L B0 w0 N st a w β->K' a w) (hs:bH o.dst .B7 (args.toList.map (Ab.ev st.vars)) K st):o.wp P a w K' Q:=by
 have hs:tX o.dst (args.toList.map (Ab.ev st.vars)) ((args.toList.map (Ab.ev st.vars)).map strip) K st:=hs
 ·unfold tX at hs;split at hs;rotate_left;·exact hs.elim
  rename_i p q r hl;obtain⟨ha,⟨c1,c2,c3,c4⟩,hs⟩:=hs;obtain⟨x,y,z,hxyz⟩:∃x y z,args.toList=[x,y,z]:=by
   have:args.toList.length=3:=by have:=congrArg List.length hl;simpa using this
   match args.toList,this with|[x,y,z],_=>exact⟨x,y,z,rfl⟩
  have harr:args=#[x,y,z]:=by apply q117;simpa using hxyz
  rw[hxyz]at hl ha;simp only[q74,q119,q112,and_true]at hl;obtain⟨e1,e2,e3⟩:=hl;have hx:=h.eo x ha.1;have hy:=h.eo y ha.2.1;have hz:=h.eo z ha.2.2.1;rw[e1]at hx;rw[e2]at hy;rw[e3]at hz;unfold AS at hf;split at hf
  ·rename_i fn hfn;simp only[q71,beq_iff_eq]at hf;obtain⟨⟨f1,f2⟩,f3⟩:=hf;have hrun:(execOp a.eval o).run P w=.ok (.value (.tuple #[.int .u64 ((p+q+r)%18446744073709551616),.int .u64 ((p+q+r)/18446744073709551616)])) w:=by have:=run_callFunc_extern (P:=P) hfn (by rw[f1];rfl) f2 (by simpa using f3) (EF f1) #[a.eval x,a.eval y,a.eval z] w;rw[hx.aG,hy.aG,hz.aG,run_add64 p q r c1 c2 c3 c4]at this;simp only[Result.andThen]at this;have hev:a.eval (.func f)=.func (.func f) #[] #[]:=rfl;simp[execOp,ho,resolve,hev,Deferred.ofValue,invoke,harr,hx.aG,hy.aG,hz.aG,this]
   refine aY hrun (hK _ _ _ β hs (h.put hd ?_));refine .aN _ [_,_] rfl fun i c u h1 h2=>?_;match i with|0=>simp at h1 h2;subst h1 h2;exact .pv _ _ (.int _ _)|1=>simp at h1 h2;subst h1 h2;exact .pv _ _ (.int _ _)|i+2=>simp at h1
  ·cases hf
def yv (z:Array Value) (n i j:Nat) (hi:i<n) (hj:j<z.size):(Builtin.zeroCells z n).toList[i*z.size+j]?=some z[j]:=by
 have hlt:i*z.size+j<n*z.size:=by have:=q82 z.size (show i+1<=n from hi);rw[q120]at this;omega
 have hm:(i*z.size+j)%z.size=j:=by rw[q168,q294,q109 hj]
 simp[Builtin.zeroCells,hlt,hm,hj]
def Ng {t:TypeId}{x:Operand} (ho:o.op=.call {callee:=.builtin .cap,args:=#[x],argTypes:=#[t]}) (ht:P.underlying t=some (.slice e)) (hd:∀s,o.dst=some s->s<N) (h:Rel P S0 L B0 w0 N st a w β) (hK:∀st a w β,K st->Rel P S0 L B0 w0 N st a w β->K' a w) (hs:bH o.dst .Li ([x].map (Ab.ev st.vars)) K st):o.wp P a w K' Q:=by
 have hs:nf o.dst (strip (Ab.ev st.vars x)) [Ab.ev st.vars x] K st:=by unfold bH at hs;unfold nf;simp only[q74,q119]at hs;generalize strip (Ab.ev st.vars x)=X at hs;cases X with
  |pv p=>cases p<;>first|exact hs|exact hs.elim
  |_=>exact hs.elim
 unfold nf at hs;split at hs;·rename_i hx;obtain⟨ha,hs⟩:=hs;have hX:=h.eo x ha.1;rw[hx]at hX;have hv:=hX.bL.eT;refine aY ?_ (hK _ _ _ β hs (h.put hd (.pv (.int .i64 0) _ (.int _ _))));simp[execOp,ho,resolve,invoke,builtin,Builtin.cap_,run_underlying ht,hv,goInt]
 ·exact hs.elim
def Nn {t tn e:TypeId}{kn:IntKind}{x y:Operand} (ho:o.op=.call {callee:=.builtin .append,args:=#[x,y],argTypes:=#[t,tn]}) (ht:P.underlying t=some (.slice e)) (htn:P.underlying tn=some (.int kn)) (hi:P.info? e=some inf) (hz:eB P e=some zs) (hpos:0<inf.size) (hz1:zs.all (·.oneCell')=true) (hd:∀s,o.dst=some s->s<N) (h:Rel P S0 L B0 w0 N st a w β) (hK:∀st a w β,K st->Rel P S0 L B0 w0 N st a w β->K' a w) (hs:bH o.dst (.IA e inf.size inf.bytes zs) ([x,y].map (Ab.ev st.vars)) K st):o.wp P a w K' Q:=by
 have hs:nu o.dst e inf.bytes zs [Ab.ev st.vars x,Ab.ev st.vars y] [strip (Ab.ev st.vars x),strip (Ab.ev st.vars y)] K st:=hs;unfold nu at hs;split at hs;rotate_left;·exact hs.elim
 rename_i n hl;simp only[q112,and_true]at hl;obtain⟨e1,e2⟩:=hl;obtain⟨d,hdd,⟨ha1,ha2,_⟩,⟨c1,c2,c3⟩,hn,hKs⟩:=af hs;have hX:=h.eo x ha1;have hY:=h.eo y ha2;rw[e1]at hX;rw[e2]at hY;have hxv:=hX.bL.eT;have hyv:=hY.aG;obtain⟨m,rfl⟩:∃m:Nat,n=(m:Int):=⟨n.toNat,by omega⟩;simp only[q66]at c3 hKs;obtain⟨i',zv,hi',hzv,hzs,rfl⟩:=eP hz;have:i'=inf:=by rw[hi]at hi';injection hi' with hi';exact hi'.symm
 subst this;rw[hdd]at hd;have key:∃v w',(Builtin.append_ #[t,tn] o.type #[.slice none 0 0,.int .i64 (m:Int)]).run P w=.ok v w'/\w.grownBy w' none/\(∀b,cI v=some b->w.heap.size<=b)/\w'.ownsRow 0 e i'.size v m (Builtin.zeroCells zv.cells m).toList:=by
  by_cases h0:m=0
  ·subst h0;refine⟨.slice none 0 0,w,?_,⟨rfl,rfl,rfl,q92 _,fun _ _ _=>rfl⟩,fun b hb=>by simp[cI]at hb,by simp[Builtin.zeroCells],.inl ⟨rfl,rfl⟩⟩;have hw0:IntKind.i64.wrap 0=0:=by decide
   simp[Builtin.append_,run_underlying ht,run_underlying htn,sizeOf,typeInfo,hi,asInt,asIntOf,hw0]
  ·have hr:=Lib.run_append_nil_zeros (P:=P) w t tn o.type e i' zv .i64 kn ht htn hi hzv m (by omega) hpos (by omega) (by omega);refine⟨_,_,hr,⟨rfl,rfl,rfl,by simp,fun k hk _=>q197 w.drew _ k hk⟩,fun b hb=>by simp[cI]at hb;omega,by simp[size_zeroCells,hzs],.inr ⟨w.heap.size,_,_,rfl,q95 _,heap_alloc_new w.drew _,grownCap_ge w m 0 e,grownCap_le_maxLen w m 0 e (by unfold maxLen;omega),?_,?_⟩⟩;·have:=grownCap_ge w m 0 e;simp only[q239,size_zeroCells,hzs,<-q151];congr 1;omega
   ·rw[q230,show m*i'.size=(Builtin.zeroCells zv.cells m).toList.length from by simp[size_zeroCells,hzs]];exact q138
 obtain⟨v',w',hrun,hg,hv,hown⟩:=key;have hf:=h.fresh (hd d rfl) hn hg hv (o:=.arr e (List.replicate m (zv.cells.toList.map si))) ⟨i',_,hi,by rw[bp,q217];exact hown,fun r hr=>by rw[q200 hr];simp[hzs],fun i j r p hr hp=>by
  rw[q238]at hr;split at hr
  ·rename_i him;cases hr;rw[q79,q900]at hp;obtain⟨u,hu,rfl⟩:=hp;have hj:j<zv.cells.size:=by rw[q63]at hu;obtain⟨hj,_⟩:=hu;simpa using hj
   have hu':zv.cells[j]=u:=by rw[q63]at hu;obtain⟨_,hu⟩:=hu;simpa using hu
   have hone:u.oneCell'=true:=by rw[q85]at hz1;exact hz1 u (List.mem_of_getElem? hu)
   refine⟨u,?_,hone,jv _ _ u hone⟩;rw[<-hu',<-hzs];exact yv zv.cells m i j him hj
  ·cases hr⟩;have hp:=hf.put (d:=some d) (r:=fL β d v' d) (v:=.own d) hd (.own d (cD.2 (.inl rfl)));rw[bp]at hp;refine aY (r:=v') (w':=w') ?_ (hK _ _ _ (fL β d v') hKs ?_);·simp[execOp,ho,resolve,invoke,builtin,hxv,hyv,hrun]
 ·rw[cT,hdd];exact hp
def TA {t e:TypeId}{x y:Operand} (ho:o.op=.makeSlice t x y) (ht:P.underlying t=some (.slice e)) (hi:P.info? e=some inf) (hz:eB P e=some zs) (hpos:0<inf.size) (hz1:zs.all (·.oneCell')=true) (hd:∀s,o.dst=some s->s<N) (h:Rel P S0 L B0 w0 N st a w β) (hK:∀st a w β,K st->Rel P S0 L B0 w0 N st a w β->K' a w) (hs:bH o.dst (.WZ e inf.bytes zs) ([x,y].map (Ab.ev st.vars)) K st):o.wp P a w K' Q:=by
 have hs:tB o.dst e inf.bytes zs [Ab.ev st.vars x,Ab.ev st.vars y] [strip (Ab.ev st.vars x),strip (Ab.ev st.vars y)] K st:=hs;unfold tB at hs;split at hs;rotate_left;·exact hs.elim
 rename_i k n k' c hl;simp only[q112,and_true]at hl;obtain⟨e1,e2⟩:=hl;obtain⟨d,hdd,⟨ha1,ha2,_⟩,⟨rfl,c1,c2,c3⟩,hn,hKs⟩:=af hs;have hX:=h.eo x ha1;have hY:=h.eo y ha2;rw[e1]at hX;rw[e2]at hY;have hxv:=hX.aG;have hyv:=hY.aG;obtain⟨m,rfl⟩:∃m:Nat,c=(m:Int):=⟨c.toNat,by omega⟩;simp only[q66]at c3 hKs;obtain⟨i',zv,hi',hzv,hzs,rfl⟩:=eP hz;have:i'=inf:=by rw[hi]at hi';injection hi' with hi';exact hi'.symm
 subst this;rw[hdd]at hd;have h63:((m:Nat):Int)<=9223372036854775807:=by omega
 have hbb:(i'.bytes:Int)*(m:Int)<=281474976710656:=by
  have h1:((i'.bytes*m:Nat):Int)<=281474976710656:=by rw[q168];omega
  rwa[Int.natCast_mul]at h1
 have hr:=run_make (P:=P) w t e i' zv ht hi hzv k k' (m:Int) (m:Int) c1 (q185 _) hbb h63;simp only[q66]at hr;have hcells:(madeCells zv.cells (m*i'.size)).size=m*i'.size:=size_madeCells _ _;have hget:∀i j,i<m->(hj:j<zv.cells.size)->(madeCells zv.cells (m*i'.size)).toList[i*zv.cells.size+j]?=some zv.cells[j]:=by
  intro i j hi hj;have hlt:i*zv.cells.size+j<m*zv.cells.size:=by have:=q82 zv.cells.size (show i+1<=m from hi);rw[q120]at this;omega
  have hm:(i*zv.cells.size+j)%zv.cells.size=j:=by rw[q168,q294,q109 hj]
  rw[<-hzs];simp[madeCells,hlt,hm,hj]
 have hf:=h.fresh (hd d rfl) hn (eF w (.cells (madeCells zv.cells (m*i'.size)) e)) (v:=.slice (some ⟨w.heap.size,0,none⟩) m m) (fun b hb=>by simp[cI]at hb;omega) (o:=.arr e (List.replicate m (zv.cells.toList.map si))) ⟨i',(madeCells zv.cells (m*i'.size)).toList,hi,by rw[bp,q217];refine⟨by simpa using hcells,.inr ⟨w.heap.size,m,_,rfl,q95 _,heap_alloc_new w _,q92 _,by unfold maxLen;omega,hcells,?_⟩⟩;rw[List.take_of_length_le (by simpa using Nat.le_of_eq hcells)],fun r hr=>by rw[q200 hr];simp[hzs],fun i j r p hr hp=>by
  rw[q238]at hr;split at hr
  ·rename_i him;cases hr;rw[q79,q900]at hp;obtain⟨u,hu,rfl⟩:=hp;have hj:j<zv.cells.size:=by rw[q63]at hu;obtain⟨hj,_⟩:=hu;simpa using hj
   have hu':zv.cells[j]=u:=by rw[q63]at hu;obtain⟨_,hu⟩:=hu;simpa using hu
   have hone:u.oneCell'=true:=by rw[q85]at hz1;exact hz1 u (List.mem_of_getElem? hu)
   refine⟨u,?_,hone,jv _ _ u hone⟩;have:=hget i j him hj;rw[hu',hzs]at this;exact this
  ·cases hr⟩;have hp:=hf.put (d:=some d) (r:=fL β d (.slice (some ⟨w.heap.size,0,none⟩) m m) d) (v:=.own d) hd (.own d (cD.2 (.inl rfl)));rw[bp]at hp;refine aY (r:=.slice (some ⟨w.heap.size,0,none⟩) m m) (w':=w.alloc (.cells (madeCells zv.cells (m*i'.size)) e)) ?_ (hK _ _ _ (fL β d (.slice (some ⟨w.heap.size,0,none⟩) m m)) hKs ?_);·simp[execOp,ho,hxv,hyv,hr,Result.andThen]
 ·rw[cT,hdd];exact hp
def MP {t e:TypeId}{sz n:Nat}{ops:Array (Nat×Operand)} (ho:o.op=.buildSlice t n ops) (hu:P.underlying t=some (.slice e)) (hsz:c7 P e=some sz) (hz:eB P e=some zs) (hord:ops.toList.map (·.1)=List.range n) (hbig:n*sz<=2^24) (hzl:zs.length=sz) (hpos:0<sz) (hd:∀s,o.dst=some s->s<N) (h:Rel P S0 L B0 w0 N st a w β) (hK:∀st a w β,K st->Rel P S0 L B0 w0 N st a w β->K' a w) (hs:bH o.dst (.pj e sz) ((ops.toList.map (·.2)).map (Ab.ev st.vars)) K st):o.wp P a w K' Q:=by have hs:sR o.dst e sz ((ops.toList.map (·.2)).map (Ab.ev st.vars)) (((ops.toList.map (·.2)).map (Ab.ev st.vars)).map strip) K st:=hs;unfold sR at hs;obtain⟨d,hdd,ha,hs⟩:=af hs;obtain⟨rows,hrows,hφ,hn,hKs⟩:=af hs;obtain⟨r,w',hr,β',hR⟩:=PB (d:=d) (φ:=∀r∈rows,r.length=sz) (v:=.own d) (ao:=.arr e rows) ho hu hsz hz hord hbig hzl hpos h (hd d hdd) hn h.eo ha (by show(rowsOf (((ops.toList.map (·.2)).map (Ab.ev st.vars)).map strip)).map _=_;rw[hrows];rfl) hφ;refine aY hr (hK _ _ _ β' hKs ?_);rw[hdd];exact hR
def BT (hL:∀b,L b->S0 b) {x:XK} (hc:kO P o=(x,xs)) (hd:∀s,o.dst=some s->s<N) (h:Rel P S0 L B0 w0 N st a w β) (hK:∀st a w β,K st->Rel P S0 L B0 w0 N st a w β->K' a w) (hs:bH o.dst x (xs.map (Ab.ev st.vars)) K st):o.wp P a w K' Q:=by
 have hput:∀{t:TypeId}{m k y:Operand}{kt et:TypeId}{s:Nat},(execOp a.eval o).run P w=(do Instr.mapUpdate t (a.eval m) (a.eval k) (a.eval y);pure Next.skip:Sem Next).run P w->mP P t=some (kt,et)->mR P kt=some s->bH o.dst (.Kk s) ([m,k,y].map (Ab.ev st.vars)) K st->o.wp P a w K' Q:=by
  intro t m k y kt et s ho hm hsr hs;unfold bH at hs;split at hs;·rename_i h1 _;cases h1
  ·rename_i s' t' p v h1 hl;cases h1;simp only[q74,q119,q112,and_true]at hl;obtain⟨e1,e2,e3⟩:=hl;obtain⟨ha,hs⟩:=hs;obtain⟨es,hes,hp,hks,hpu,hKs⟩:=af hs;obtain⟨w',hrun,hR⟩:=SZ ho hm hsr h hd (h.eo m ha.1) (h.eo k ha.2.1) (h.eo y ha.2.2.1) e1 e2 (CT hes) hp hks (by rw[e3];exact hpu);refine mn hrun (hK _ _ _ β hKs ?_);rw[e3]at hR;exact hR
  ·rename_i h1 _;cases h1
  ·rename_i h1;cases h1
  ·rename_i h1 _;cases h1
  ·rename_i h1 _;cases h1
  ·rename_i h1;cases h1
  ·rename_i h1;cases h1
  ·rename_i h1;cases h1
  ·rename_i h1 _;cases h1
  ·rename_i h1 _;cases h1
  ·exact hs.elim
 unfold kO at hc;split at hc;·rename_i r hr;subst hc;exact G6 hr hd h hK hs
 cases hcx:vz P o with
 |none=>rw[hcx]at hc;cases hc;unfold bH at hs;split at hs<;>first|exact hs.elim|(rename_i h1;cases h1;done)|(rename_i h1 _;cases h1;done)
 |some r=>
 rw[hcx]at hc;have hc:r=(x,xs):=hc;subst hc;replace hc:=hcx;unfold vz at hc;split at hc
 ·rename_i t ho;split at hc;·cases hc;unfold bH at hs;obtain⟨d,hdd,hn,hKs⟩:=af hs;obtain⟨v,w',β',hrun,hR⟩:=Oc ho h (hd d hdd) hn;refine aY hrun (hK _ _ _ β' hKs ?_);rw[hdd];exact hR
  ·cases hc
 ·rename_i t m k y ho;split at hc
  ·rename_i kt et hm;split at hc;·rename_i s hsr;cases hc;exact hput (by simp[execOp,ho]) hm hsr hs
   ·cases hc
  ·cases hc
 ·rename_i t m k y ho;split at hc
  ·rename_i kt et hm;split at hc;·rename_i s hsr;cases hc;exact hput (by simp[execOp,ho]) hm hsr hs
   ·cases hc
  ·cases hc
 ·rename_i t m k ok ho;split at hc
  ·rename_i kt et hm;split at hc
   ·rename_i s z hsr hz;cases hc;unfold bH at hs;split at hs;·rename_i h1 _;cases h1
    ·rename_i h1 _;cases h1
    ·rename_i s' z' ok' t' p h1 hl;cases h1;simp only[q74,q119,q112,and_true]at hl;obtain⟨e1,e2⟩:=hl;obtain⟨ha,hs⟩:=hs;obtain⟨es,hes,hp,hks,hKs⟩:=af hs;obtain⟨v,hrun,hR⟩:=SY ho hm hsr hz h hd (h.eo m ha.1) (h.eo k ha.2.1) e1 e2 (CT hes) hp hks;exact aY hrun (hK _ _ _ _ hKs hR)
    ·rename_i h1;cases h1
    ·rename_i h1 _;cases h1
    ·rename_i h1 _;cases h1
    ·rename_i h1;cases h1
    ·rename_i h1;cases h1
    ·rename_i h1;cases h1
    ·rename_i s' z' ok' ks p h1 hl;cases h1;simp only[q74,q119,q112,and_true]at hl;obtain⟨e1,e2⟩:=hl;obtain⟨ha,hzu,hp,hks,hKs⟩:=hs;obtain⟨v,hrun,hR⟩:=NW ho hm hsr hz h hd (h.eo m ha.1) (h.eo k ha.2.1) e1 e2 hzu hp hks;exact aY hrun (hK _ _ _ _ hKs hR)
    ·rename_i h1 _;cases h1
    ·exact hs.elim
   ·cases hc
  ·cases hc
 ·rename_i t n ps ho;split at hc
  ·rename_i e hu;split at hc
   ·rename_i sz zs hsz hz;split at hc;·rename_i hcond;cases hc;obtain⟨_,h1,h2,h3,h4⟩:=hcond;exact MP ho hu hsz hz h1 h2 h3 h4 hd h hK hs
    ·cases hc
   ·cases hc
  ·cases hc
 ·rename_i t x y ho;split at hc
  ·rename_i e hu;split at hc
   ·rename_i i zs hi hz;split at hc;·rename_i hcond;cases hc;exact TA ho hu hi hz hcond.1 hcond.2 hd h hK hs
    ·cases hc
   ·cases hc
  ·cases hc
 ·rename_i op t x y yt ho;split at hc
  ·rename_i e hu;split at hc
   ·rename_i hy;split at hc;·cases hc;exact CE (ne:=false) ho hu hy hd h hK hs
    ·cases hc;exact CE (ne:=true) ho hu hy hd h hK hs
    ·cases hc
   ·cases hc
  ·cases hc
 ·rename_i c ho;obtain⟨callee,args,argTypes⟩:=c;simp only at hc;split at hc
  ·rename_i f;split at hc;·rename_i hf;cases hc;exact Lt ho hf hd h hK hs
   ·cases hc
  ·rename_i b;unfold AZ at hc;split at hc
   ·rename_i y t hxs hts;have ha:args=#[y]:=by apply q117;simpa using hxs
    have hat:argTypes=#[t]:=by apply q117;simpa using hts
    subst ha hat;split at hc;·rename_i e ht;cases hc;exact Ng ho ht hd h hK hs
    ·cases hc
   ·rename_i s y t t' hxs hts;have ha:args=#[s,y]:=by apply q117;simpa using hxs
    have hat:argTypes=#[t,t']:=by apply q117;simpa using hts
    subst ha hat;split at hc
    ·rename_i e k ht htn;split at hc
     ·rename_i i zs hi hz;split at hc;·rename_i hpz;cases hc;exact Nn ho ht htn hi hz hpz.1 hpz.2 hd h hK hs
      ·cases hc
     ·cases hc
    ·cases hc
   ·cases hc
  ·cases hc
 ·cases hc
end
end Go.Proofs.YtifcndkhigakfaaGreat.Ab
