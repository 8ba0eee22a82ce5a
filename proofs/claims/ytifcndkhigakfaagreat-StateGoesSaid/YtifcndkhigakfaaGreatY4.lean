/- The abstract machine is sound, first part: what becomes of the plain reading of values and memory when memory changes. -/
import Derived.Test.YtifcndkhigakfaaGreatY2
import Derived.Deep.AppendLies
import Derived.Deep.Draws
import Derived.Maps.AppendAt
import Derived.Laws.OwnMore
import Derived.Deep.AppendSrc
import Derived.Deep.Upon
import Derived.Lib.MinMax
import Derived.Lib.BufferRead
import Derived.Laws.IdiomStrings
set_option linter.unusedVariables false
set_option linter.unusedSimpArgs false
set_option linter.unnecessarySimpa false
set_option maxHeartbeats 40000000
set_option maxRecDepth 100000
set_option linter.defProp false
namespace Go.Proofs.YtifcndkhigakfaaGreat.Ab
open Go Go.RowKit
def qB:=@Option.bind_eq_some_iff
def q62:=@List.getElem?_eq_getElem
def q63:=@List.getElem?_eq_some_iff
def q65:=@List.length_append
def q67:=@Array.getElem?_eq_some_iff
def q68:=@List.length_take
def q70:=@List.length_cons
def q72:=@List.getElem?_cons_zero
def q75:=@List.mem_append
def q76:=@List.eq_nil_of_length_eq_zero
def q77:=@List.append_assoc
def q81:=@List.getElem?_take
def q82:=@Nat.mul_le_mul_right
def q86:=@List.getElem?_append_left
def q87:=@Array.length_toList
def q88:=@List.length_drop
def q89:=@List.getElem?_drop
def q91:=@List.length_nil
def q92:=@Nat.le_refl
def q95:=@Nat.zero_le
def q96:=@List.mem_of_mem_take
def q97:=@Nat.lt_of_lt_of_le
def q98:=@List.getElem?_append_right
def q100:=@Addr.add_lit
def q101:=@Option.getD_some
def q107:=@List.size_toArray
def q110:=@List.mem_of_mem_drop
def q138:=@List.take_left
def q151:=@Nat.add_mul
def q157:=@List.exists_mem_of_ne_nil
def q167:=@Nat.add_zero
def q177:=@List.getElem?_cons_succ
def q186:=@Sem.run_bind
def q188:=@World.ownsRow_nil
def q193:=@Nat.add_assoc
def q197:=@Below.heap_alloc
def q202:=@List.length_pos_iff
def q206:=@Nat.mul_one
def q230:=@Array.toList_append
def q232:=@Bool.eq_iff_iff
def q239:=@Array.size_append
def q247:=@Or.inr
end Go.Proofs.YtifcndkhigakfaaGreat.Ab
namespace Go.Proofs.YtifcndkhigakfaaGreat.Ab
open Go Go.RowKit
variable {n sz:Nat}{φ:Prop}{e src dst:TypeId}{rows:List (List PV)}{X Y:AV}{p:PV}{q:Option AO}{cs:List AV}{us:List Value}{op:BinOp}
def bN (a:Addr) (n:Nat):(a.add n).block=a.block:=by unfold Addr.add;split<;>rfl
def gE (a:Addr) (i j:Nat):(a.add i).add j=a.add (i+j):=by unfold Addr.add;by_cases hi:i=0<;>by_cases hj:j=0<;>simp[hi,hj,q193]
section
variable{P:Program}{S S':Nat->Prop}{w w':World}{β β':Nat->Value}{D D':Nat->Prop}
def zV {ad:Addr} (h:w'.heap[ad.block]?=w.heap[ad.block]?) (n:Nat):w'.cell? (ad.add n)=w.cell? (ad.add n):=World.cell?_of_block (by rw[bN];exact h)
def B6 (w w':World) (b:Nat):Prop:=(∀ad:Addr,ad.block=b->w'.cell? ad=w.cell? ad)/\∀(us:Array MapEntry) (c:Nat),w.heap[b]?=some (.map us c)->w'.heap[b]?=some (.map us c)
def B6.of {b:Nat} (h:w'.heap[b]?=w.heap[b]?):B6 w w' b:=⟨fun ad e=>World.cell?_of_block (by rw[e];exact h),fun us c hm=>h.trans hm⟩
def dA.kj {v:Value} (h:dA S w v p) (hS:∀b,S b->S' b/\B6 w w' b):dA S' w' v p:=by induction h with|int k n=>exact .int k n|bool b=>exact .bool b|str l=>exact .str l|nil=>exact .nil|val v h=>exact .val v h|mp b us c ks h1 h2 h3 h4=>exact .mp b us c ks (hS _ h1).1 ((hS _ h1).2.2 _ _ h2) h3 h4|mv b us c es h1 h2 h3 h4 h5 h6 ih=>exact .mv b us c es (hS _ h1).1 ((hS _ h1).2.2 _ _ h2) h3 h4 h5 ih|pt ad cs us h1 h2 h3 h4 ih=>exact .pt ad cs us (hS _ h1).1 (fun j hj=>((hS _ h1).2.1 _ (bN _ _)).trans (h2 j hj)) h3 ih|zk A c=>exact .zk A c|ro ad c rows sz us h1 h2 h3 h4 h5 h6 ih=>exact .ro ad c rows sz us (hS _ h1).1 h2 h3 (fun i j hi hj=>((hS _ h1).2.1 _ (bN _ _)).trans (h4 i j hi hj)) h5 ih
def RV.kj {v:Value}{x:AV} (h:RV P S w β D v x) (hS:∀b,S b->S' b/\B6 w w' b) (hD:∀t,D t->D' t/\β' t=β t):RV P S' w' β' D' v x:=by induction h with|pv v p h=>exact .pv v p (h.kj hS)|own t h=>rw[<-(hD t h).2];exact .own t (hD t h).1|ptr t o b h hb=>exact .ptr t o b (hD t h).1 ((hD t h).2.trans hb)|bd t e i o b n c inf h hi hb=>exact .bd t e i o b n c inf (hD t h).1 hi ((hD t h).2.trans hb)|sub v t e lo hi inf A A1 n c h hi' hb h1 h2 h3 h4 h5 hv=>exact .sub v t e lo hi inf A A1 n c (hD t h).1 hi' ((hD t h).2.trans hb) h1 h2 h3 h4 h5 hv|rp ad cs us h1 h2 h3 h4=>exact .rp ad cs us (hS _ h1).1 (fun j hj=>((hS _ h1).2.1 _ (bN _ _)).trans (h2 j hj)) h3 (fun j p hp=>(h4 j p hp).kj hS)|agg cs us hl h ih=>exact .agg cs us hl ih|aN cs us hl h ih=>exact .aN cs us hl ih|bI f cs us hl h ih=>exact .bI f cs us hl ih|cx g v av h hu ih=>exact .cx g v av ih hu|ak v=>exact .ak v
def dA.mono {v:Value} (h:dA S w v p) (hS:∀b,S b->S' b/\w'.heap[b]?=w.heap[b]?):dA S' w' v p:=h.kj fun b hb=>⟨(hS b hb).1,.of (hS b hb).2⟩
def RV.mono {v:Value}{x:AV} (h:RV P S w β D v x) (hS:∀b,S b->S' b/\w'.heap[b]?=w.heap[b]?) (hD:∀t,D t->D' t/\β' t=β t):RV P S' w' β' D' v x:=h.kj (fun b hb=>⟨(hS b hb).1,.of (hS b hb).2⟩) hD
def RV.strip {v:Value}{x:AV} (h:RV P S w β D v x) (ha:asks x):RV P S w β D v (strip x):=by induction h with|cx g v av h hu ih=>exact ih ha.1 ha.2|pv v p h=>exact .pv v p h|own t h=>exact .own t h|ptr t o b h hb=>exact .ptr t o b h hb|bd t e i o b n c inf h hi hb=>exact .bd t e i o b n c inf h hi hb|sub v t e lo hi inf A A1 n c h hi' hb h1 h2 h3 h4 h5 hv=>exact .sub v t e lo hi inf A A1 n c h hi' hb h1 h2 h3 h4 h5 hv|rp ad cs us h1 h2 h3 h4=>exact .rp ad cs us h1 h2 h3 h4|agg cs us hl h _=>exact .agg cs us hl h|aN cs us hl h _=>exact .aN cs us hl h|bI f cs us hl h _=>exact .bI f cs us hl h|ak v=>exact .ak v
def bE.kj {t:Nat}{o:AO} (h:bE P S w β D t o) (hS:∀b,S b->S' b/\B6 w w' b) (hD:∀t,D t->D' t/\β' t=β t) (ht:β' t=β t) (hb:∀b,cI (β t)=some b->w'.heap[b]?=w.heap[b]?):bE P S' w' β' D' t o:=by cases o with
 |box cs=>obtain⟨b,us,ty,hp,hh,hl,hc⟩:=h;exact⟨b,us,ty,ht.trans hp,(hb b (by rw[hp];rfl)).trans hh,hl,fun i c u h1 h2=>⟨(hc i c u h1 h2).1,(hc i c u h1 h2).2.kj hS hD⟩⟩|arr e rows=>
  obtain⟨inf,us,hi,hown,hr,hc⟩:=h;refine⟨inf,us,hi,?_,hr,fun i j r p h1 h2=>?_⟩
  ·rw[ht];refine⟨hown.1,?_⟩;rcases hown.2 with h0|⟨g,cap,cur,hv,h1,h2,h3,h4,h5,h6⟩;·exact .inl h0
   ·exact .inr ⟨g,cap,cur,hv,h1,(hb g (by rw[hv];rfl)).trans h2,h3,h4,h5,h6⟩
  ·obtain⟨u,h3,h4,h5⟩:=hc i j r p h1 h2;exact⟨u,h3,h4,h5.kj hS⟩|map es=>obtain⟨b,us,c,hp,hh,hl,hc⟩:=h;exact⟨b,us,c,ht.trans hp,(hb b (by rw[hp];rfl)).trans hh,hl,fun i e u h1 h2=>⟨(hc i e u h1 h2).1,(hc i e u h1 h2).2.kj hS fun _ hf=>hf.elim⟩⟩|rws e cs=>
  obtain⟨inf,us,hi,h1s,hown,hc⟩:=h;refine⟨inf,us,hi,h1s,?_,fun i c u h1 h2=>⟨(hc i c u h1 h2).1,(hc i c u h1 h2).2.kj hS hD⟩⟩;rw[ht];refine⟨hown.1,?_⟩;rcases hown.2 with h0|⟨g,cap,cur,hv,h1,h2,h3,h4,h5,h6⟩;·exact .inl h0
  ·exact .inr ⟨g,cap,cur,hv,h1,(hb g (by rw[hv];rfl)).trans h2,h3,h4,h5,h6⟩|kk es=>obtain⟨b,us,c,hp,hh,hst,hl,hc⟩:=h;exact⟨b,us,c,ht.trans hp,(hb b (by rw[hp];rfl)).trans hh,hst,hl,fun i e u h1 h2=>⟨(hc i e u h1 h2).1,(hc i e u h1 h2).2.1,(hc i e u h1 h2).2.2.1,(hc i e u h1 h2).2.2.2.kj hS⟩⟩|yJ rem cur=>
  obtain⟨r,m,us,c,seen,hp,hh,hm,hmm,hst,hl,hc,hcur⟩:=h;refine⟨r,m,us,c,seen,ht.trans hp,(hb r (by rw[hp];rfl)).trans hh,(hS m hm).1,?_,hst,hl,fun i e u h1 h2=>⟨(hc i e u h1 h2).1,(hc i e u h1 h2).2.1,(hc i e u h1 h2).2.2.1,(hc i e u h1 h2).2.2.2.kj hS⟩,fun e he=>?_⟩;·have:=(hS m hm).2.2 us c hmm;first|exact this.trans hmm|exact this
  ·obtain⟨u,s',h1,h2,h3,h4,h5,h6⟩:=hcur e he;exact⟨u,s',h1,h2,h3,h4,h5,h6.kj hS⟩
def bE.mono {t:Nat}{o:AO} (h:bE P S w β D t o) (hS:∀b,S b->S' b/\w'.heap[b]?=w.heap[b]?) (hD:∀t,D t->D' t/\β' t=β t) (ht:β' t=β t) (hb:∀b,cI (β t)=some b->w'.heap[b]?=w.heap[b]?):bE P S' w' β' D' t o:=h.kj (fun b hb=>⟨(hS b hb).1,.of (hS b hb).2⟩) hD ht hb
end
section
variable{P:Program}{S0 L:Nat->Prop}{B0:Nat->Value}{w0 w w':World}{N:Nat}{st:St}{a:Act}{β:Nat->Value}
def DD (l:Array Value) (d s:Nat) (r:Value) (hd:d<l.size):(l.setIfInBounds d r).getD s undef=if s=d then r else l.getD s undef:=by
 by_cases h:s=d;·subst h;simp[q129,Array.getElem?_setIfInBounds_self_of_lt hd]
 ·simp[q129,Array.getElem?_setIfInBounds_ne (fun e=>h e.symm),h]
def Rel.put (h:Rel P S0 L B0 w0 N st a w β) {d:Option Nat}{r:Value}{v:AV} (hd:∀s,d=some s->s<N) (hr:RV P (bn S0 w0.heap.size β st.aa w) w β (aE st.aa) r v):Rel P S0 L B0 w0 N ⟨put d v st.vars,st.aa⟩ (a.put d r) w β:=by cases d with|none=>exact⟨h.size,h.defers,h.vars,h.heap,h.old,h.uL,h.Ar,h.cu⟩|some d=>
 have hd':d<a.tmps.size:=by rw[h.size];exact hd d rfl
 refine⟨by simp[Act.put,h.size],h.defers,fun s=>?_,h.heap,h.old,h.uL,h.Ar,h.cu⟩;simp only[Act.put,Ab.put];rw[DD _ _ _ _ hd'];split;·exact hr
 ·exact h.vars s
def Rel.bU (h:Rel P S0 L B0 w0 N st a w β) {vars:Nat->AV} (hv:∀s,vars s=st.vars s\/vars s=.ak):Rel P S0 L B0 w0 N ⟨vars,st.aa⟩ a w β:=⟨h.size,h.defers,fun s=>by
 rcases hv s with e|e;·rw[show(St.mk vars st.aa).vars s=vars s from rfl,e];exact h.vars s
 ·rw[show(St.mk vars st.aa).vars s=vars s from rfl,e];exact .ak _,h.heap,h.old,h.uL,h.Ar,h.cu⟩
structure Same (w w':World):Prop where
 heap:w'.heap=w.heap
 os:w'.os=w.os
 tape:w'.tape=w.tape
 output:w'.output=w.output
def Kh {S0:Nat->Prop}{n0:Nat}{aa:Nat->Option AO} (hw:w'.heap=w.heap):bn S0 n0 β aa w'=bn S0 n0 β aa w:=by funext b;simp[bn,hw]
def Rel.same (h:Rel P S0 L B0 w0 N st a w β) (hw:Same w w'):Rel P S0 L B0 w0 N st a w' β:=by have hm:∀b,bn S0 w0.heap.size β st.aa w b->bn S0 w0.heap.size β st.aa w' b/\w'.heap[b]?=w.heap[b]?:=fun b hb=>⟨by rw[Kh hw.heap];exact hb,by rw[hw.heap]⟩;have hD:∀t,aE st.aa t->aE st.aa t/\β t=β t:=fun t ht=>⟨ht,rfl⟩;exact⟨h.size,h.defers,fun s=>(h.vars s).mono hm hD,⟨fun t o ho=>(h.heap.holds t o ho).mono hm hD rfl (fun b _=>by rw[hw.heap]),h.heap.inj⟩,h.old,h.uL,h.Ar,⟨hw.os.trans h.cu.os,hw.tape.trans h.cu.tape,hw.output.trans h.cu.output,by rw[hw.heap];exact h.cu.size,fun b h1 h2=>by rw[hw.heap];exact h.cu.block b h1 h2⟩⟩
def Rel.drew (h:Rel P S0 L B0 w0 N st a w β):Rel P S0 L B0 w0 N st a w.drew β:=h.same ⟨rfl,rfl,rfl,rfl⟩
def bE.lt {S:Nat->Prop}{D:Nat->Prop}{t:Nat}{o:AO} (h:bE P S w β D t o):∀b,cI (β t)=some b->b<w.heap.size:=by intro b hb;cases o with
 |box cs=>obtain⟨b',us,ty,hp,hh,_⟩:=h;rw[hp]at hb;simp[cI]at hb;subst hb;exact(q67.1 hh).1|arr e rows=>
  obtain⟨inf,us,hi,hown,_⟩:=h;rcases hown.2 with⟨h0,_⟩|⟨g,cap,cur,hv,h1,h2,_⟩;·rw[h0]at hb;simp[cI]at hb
  ·rw[hv]at hb;simp[cI]at hb;subst hb;exact(q67.1 h2).1|map es=>obtain⟨b',us,c,hp,hh,_⟩:=h;rw[hp]at hb;simp[cI]at hb;subst hb;exact(q67.1 hh).1|rws e cs=>
  obtain⟨inf,us,hi,_,hown,_⟩:=h;rcases hown.2 with⟨h0,_⟩|⟨g,cap,cur,hv,h1,h2,_⟩;·rw[h0]at hb;simp[cI]at hb
  ·rw[hv]at hb;simp[cI]at hb;subst hb;exact(q67.1 h2).1|kk es=>obtain⟨b',us,c,hp,hh,_⟩:=h;rw[hp]at hb;simp[cI]at hb;subst hb;exact(q67.1 hh).1|yJ rem cur=>obtain⟨r,m,us,c,seen,hp,hh,_⟩:=h;rw[hp]at hb;simp[cI]at hb;subst hb;exact(q67.1 hh).1
def Rel.lt (h:Rel P S0 L B0 w0 N st a w β) {t:Nat} (ht:aE st.aa t) {b:Nat} (hb:cI (β t)=some b):b<w.heap.size:=by obtain⟨o,ho⟩:=ht;exact(h.heap.holds t o ho).lt b hb
def fL (β:Nat->Value) (t:Nat) (v:Value):Nat->Value:=fun s=>if s=t then v else β s
def bp (β:Nat->Value) (t:Nat) (v:Value):fL β t v t=v:=by simp[fL]
def df (β:Nat->Value) {t s:Nat} (v:Value) (h:s≠t):fL β t v s=β s:=by simp[fL,h]
def cD {t s:Nat}{o:AO}{aa:Nat->Option AO}:aE (ba t o aa) s↔s=t\/aE aa s:=by
 unfold aE ba;by_cases h:s=t;·simp[h]
 ·simp[h]
def Rel.fresh (h:Rel P S0 L B0 w0 N st a w β) {t:Nat} (htN:t<N) (ht:st.aa t=none) (hg:w.grownBy w' none) {v:Value} (hv:∀b,cI v=some b->w.heap.size<=b) {o:AO} (ho:bE P (bn S0 w0.heap.size (fL β t v) (ba t o st.aa) w') w' (fL β t v) (aE (ba t o st.aa)) t o):Rel P S0 L B0 w0 N ⟨st.vars,ba t o st.aa⟩ a w' (fL β t v):=by
 have hne:∀s,aE st.aa s->s≠t:=fun s ⟨o',ho'⟩ e=>by subst e;rw[ht]at ho';cases ho'
 have hsame:∀b,b<w.heap.size->w'.heap[b]?=w.heap[b]?:=fun b hb=>hg.block b hb (by simp);have hm:∀b,bn S0 w0.heap.size β st.aa w b->bn S0 w0.heap.size (fL β t v) (ba t o st.aa) w' b/\w'.heap[b]?=w.heap[b]?:=by
  intro b hb;obtain⟨h1,h2,h3⟩:=hb;refine⟨⟨h1,q97 h2 hg.size,?_⟩,hsame b h2⟩;rintro⟨s,o',hs,hbs⟩;by_cases e:s=t;·subst e;rw[bp]at hbs;have:=hv b hbs;omega
  ·rw[df _ _ e]at hbs;exact h3 ⟨s,o',by simpa[ba,e]using hs,hbs⟩
 have hD:∀s,aE st.aa s->aE (ba t o st.aa) s/\fL β t v s=β s:=fun s hs=>⟨cD.2 (.inr hs),df _ _ (hne s hs)⟩;refine⟨h.size,h.defers,fun s=>(h.vars s).mono hm hD,⟨fun s o' hs=>?_,?_⟩,?_,h.uL,fun s h9 hs=>?_,?_⟩
 ·by_cases e:s=t
  ·subst e;have:o'=o:=by simpa[ba]using hs.symm
   subst this;exact ho
  ·have hs':st.aa s=some o':=by simpa[ba,e]using hs
   exact(h.heap.holds s o' hs').mono hm hD (df _ _ e) (fun b hb=>hsame b (h.lt ⟨o',hs'⟩ hb))
 ·intro s s' b hs hs' hb hb';by_cases e:s=t<;>by_cases e':s'=t;·rw[e,e']
  ·subst e;rw[bp]at hb;rw[df _ _ e']at hb';have:=h.lt ((cD.1 hs').resolve_left e') hb';have:=hv b hb;omega
  ·subst e';rw[bp]at hb';rw[df _ _ e]at hb;have:=h.lt ((cD.1 hs).resolve_left e) hb;have:=hv b hb';omega
  ·rw[df _ _ e]at hb;rw[df _ _ e']at hb';exact h.heap.inj s s' b ((cD.1 hs).resolve_left e) ((cD.1 hs').resolve_left e') hb hb'
 ·intro s b hs hb;by_cases e:s=t;·subst e;rw[bp]at hb;have:=hv b hb;have:=h.cu.size;exact .inl (by omega)
  ·rw[df _ _ e]at hb;exact h.old s b ((cD.1 hs).resolve_left e) hb
 ·have hst:s≠t:=fun e=>by have:=h.uL.1;subst e;omega
  rw[df _ _ hst];exact h.Ar s h9 ((cD.1 hs).resolve_left hst)
 ·exact⟨hg.os.trans h.cu.os,hg.tape.trans h.cu.tape,hg.output.trans h.cu.output,q113 h.cu.size hg.size,fun b h1 h2=>(hsame b (by have:=h.cu.size;omega)).trans (h.cu.block b h1 h2)⟩
def Rel.qA (h:Rel P S0 L B0 w0 N st a w β) {t:Nat} (ht:st.aa t=none) (hg:w.grownBy w' none) {v:Value} (hv:∀b,cI v=some b->w.heap.size<=b) {o:AO}:(∀b,bn S0 w0.heap.size β st.aa w b->bn S0 w0.heap.size (fL β t v) (ba t o st.aa) w' b/\w'.heap[b]?=w.heap[b]?)/\(∀s,aE st.aa s->aE (ba t o st.aa) s/\fL β t v s=β s):=by
 have hne:∀s,aE st.aa s->s≠t:=fun s ⟨o',ho'⟩ e=>by subst e;rw[ht]at ho';cases ho'
 refine⟨fun b hb=>?_,fun s hs=>⟨cD.2 (.inr hs),df _ _ (hne s hs)⟩⟩;obtain⟨h1,h2,h3⟩:=hb;refine⟨⟨h1,q97 h2 hg.size,?_⟩,hg.block b h2 (by simp)⟩;rintro⟨s,o',hs,hbs⟩;by_cases e:s=t;·subst e;rw[bp]at hbs;have:=hv b hbs;omega
 ·rw[df _ _ e]at hbs;exact h3 ⟨s,o',by simpa[ba,e]using hs,hbs⟩
def Rel.yT (h:Rel P S0 L B0 w0 N st a w β) {t:Nat}{o o':AO} (ht:st.aa t=some o) {b:Nat} (hb:cI (β t)=some b) (hos:w'.os=w.os) (htape:w'.tape=w.tape) (hout:w'.output=w.output) (hsz:w'.heap.size=w.heap.size) (hother:∀k,k≠b->w'.heap[k]?=w.heap[k]?) (ho:bE P (bn S0 w0.heap.size β (ba t o' st.aa) w') w' β (aE (ba t o' st.aa)) t o'):Rel P S0 L B0 w0 N ⟨st.vars,ba t o' st.aa⟩ a w' β/\(∀u x,RV P (bn S0 w0.heap.size β st.aa w) w β (aE st.aa) u x->RV P (bn S0 w0.heap.size β (ba t o' st.aa) w') w' β (aE (ba t o' st.aa)) u x):=by
 have hlive:∀k,live β (ba t o' st.aa) k↔live β st.aa k:=by
  intro k;constructor
  ·rintro⟨s,x,hs,hk⟩;by_cases e:s=t;·subst e;exact⟨s,o,ht,hk⟩
   ·exact⟨s,x,by simpa[ba,e]using hs,hk⟩
  ·rintro⟨s,x,hs,hk⟩;by_cases e:s=t;·subst e;exact⟨s,o',by simp[ba],hk⟩
   ·exact⟨s,x,by simpa[ba,e]using hs,hk⟩
 have hm:∀k,bn S0 w0.heap.size β st.aa w k->bn S0 w0.heap.size β (ba t o' st.aa) w' k/\w'.heap[k]?=w.heap[k]?:=by intro k hk;obtain⟨h1,h2,h3⟩:=hk;have hkb:k≠b:=fun e=>h3 ⟨t,o,ht,by rw[e];exact hb⟩;exact⟨⟨h1,by omega,fun hl=>h3 ((hlive k).1 hl)⟩,hother k hkb⟩
 have hdt:aE st.aa t:=⟨o,ht⟩;have hD:∀s,aE st.aa s->aE (ba t o' st.aa) s/\β s=β s:=fun s hs=>⟨cD.2 (.inr hs),rfl⟩;have hdom:∀s,aE (ba t o' st.aa) s->aE st.aa s:=fun s hs=>by
  rcases cD.1 hs with e|e;·rw[e];exact hdt
  ·exact e
 refine⟨⟨h.size,h.defers,fun s=>(h.vars s).mono hm hD,⟨fun s x hs=>?_,fun s s' k hs hs'=>h.heap.inj s s' k (hdom s hs) (hdom s' hs')⟩,fun s k hs=>h.old s k (hdom s hs),h.uL,fun s h9 hs=>h.Ar s h9 (hdom s hs),?_⟩,fun u x hx=>hx.mono hm hD⟩
 ·by_cases e:s=t
  ·subst e;have:x=o':=by simpa[ba]using hs.symm
   subst this;exact ho
  ·have hs':st.aa s=some x:=by simpa[ba,e]using hs
   exact(h.heap.holds s x hs').mono hm hD rfl (fun k hk=>hother k fun ek=>e (h.heap.inj s t b ⟨x,hs'⟩ hdt (by rw[<-ek];exact hk) hb))
 ·exact⟨hos.trans h.cu.os,htape.trans h.cu.tape,hout.trans h.cu.output,by rw[hsz];exact h.cu.size,fun k h1 h2=>by
   have hkb:k≠b:=by
    rintro rfl;rcases h.old t k hdt hb with hx|hx;·omega
    ·exact h2 hx
   exact(hother k hkb).trans (h.cu.block k h1 h2)⟩
end
section
variable{P:Program} (w:World)
def rB (t tx ty e:TypeId) (i:TypeInfo) (z:Value) (ht:P.underlying t=some (.slice e)) (hi:P.info? e=some i) (hz:i.zero=some z) (hzs:z.cells.size=i.size) (hsz:0<i.size) (v:Value) (n:Nat) (xs:List Value) (hown:w.ownsRow 0 e i.size v n xs) (x:Value) (m:Nat) (news:List Value) (hs:Src P i.size tx x m news w) (h63:n+m<=maxLen) (hbytes:(n+m)*i.bytes<=140737488355328):∃v' w',(Builtin.append_ #[t,tx] ty #[v,x]).run P w=.ok v' w'/\w'.ownsRow 0 e i.size v' (n+m) (xs++news)/\w.grownBy w' v.ownBlock/\(v'.ownBlock=v.ownBlock\/v'.ownBlock=some w.heap.size)/\w'.ownsRow 0 e i.size v n xs:=by
 have hl:=hs.newsLen;have hlen:(xs++news).length=(n+m)*i.size:=by rw[q65,hown.1,hl,q151]
 have grown:∀(old:Nat),old<n+m->∀(row:Option Nat),(w.drew.alloc (.cells ((xs++news).toArray++Builtin.zeroCells z.cells (grownCap w (n+m) old e-(n+m))) e)).ownsRow 0 e i.size (.slice (some ⟨w.heap.size,0,none⟩) (n+m) (grownCap w (n+m) old e)) (n+m) (xs++news)/\w.grownBy (w.drew.alloc (.cells ((xs++news).toArray++Builtin.zeroCells z.cells (grownCap w (n+m) old e-(n+m))) e)) row:=by
  intro old ho row;have hge:=grownCap_ge w (n+m) old e;have hcm:grownCap w (n+m) old e<=maxLen:=grownCap_le_maxLen w (n+m) old e h63;refine⟨⟨hlen,.inr ⟨w.heap.size,_,_,rfl,q95 _,heap_alloc_new w.drew _,hge,hcm,?_,?_⟩⟩,⟨rfl,rfl,rfl,by simp,fun k hk _=>q197 w.drew _ k hk⟩⟩;·simp only[q239,q107,size_zeroCells,hzs,hlen,<-q151];congr 1;omega
  ·simp only[q230];rw[<-hlen];exact q138
 have hsmall:((n+m:Nat):Int)<=9223372036854775807:=by simp only[maxLen]at h63;omega
 rcases hown.2 with⟨rfl,rfl⟩|⟨g,cap,cur,rfl,hbg,hg,hnc,hcm,hcs,htake⟩
 ·have hx:xs=[]:=q76 (by simpa using hown.1);subst hx;by_cases hm:m=0;·subst hm;have hn:news=[]:=q76 (by simpa using hl);subst hn;exact⟨.slice none 0 0,w,run_append_nothing w t tx ty e i ht hi none 0 0 (q92 _) x hs,q188 w 0 e i.size,⟨rfl,rfl,rfl,q92 _,fun _ _ _=>rfl⟩,Or.inl rfl,hown⟩
  ·have hr:=run_append_grow_src (P:=P) w t tx ty e i z ht hi hz none 0 0 [] (by simp[Builtin.firstCells]) x m news hs (by omega) hsmall (growslice_fits (by omega) hbytes);have hgr:=grown 0 (by omega) (Value.ownBlock (.slice none 0 0));exact⟨_,_,hr,hgr.1,hgr.2,q247 rfl,by simp,.inl ⟨rfl,rfl⟩⟩
 ·by_cases hroom:n+m<=cap
  ·have hfit:n*i.size+news.length<=cur.size:=by rw[hl,hcs,<-q151];exact q82 _ hroom
   have hst:=run_storeCells_at P g (n*i.size) e news 0 cur w hg (by simpa using hfit) hs.one;simp only[q167]at hst;have hr:(Builtin.append_ #[t,tx] ty #[.slice (some ⟨g,0,none⟩) n cap,x]).run P w=.ok (.slice (some ⟨g,0,none⟩) (n+m) cap) (w.setRow g (cur.toList.take (n*i.size)++news++cur.toList.drop (n*i.size+news.length)).toArray):=by rcases hs.kind with⟨e',hk⟩|hk<;>simp[Builtin.append_,run_underlying ht,run_underlying hk,sizeOf,typeInfo,hi,hs.len,hroom,hs.cells,q100,hst]
   refine⟨_,_,hr,⟨hlen,.inr ⟨g,cap,_,rfl,q95 _,setRow_heap w g cur _ e _ hg,hroom,hcm,?_,?_⟩⟩,⟨rfl,rfl,rfl,by simp,fun k _ hk=>setRow_other w g k _ (fun e=>hk (by simp[Value.ownBlock,e]))⟩,Or.inl rfl,?_⟩;·simp only[q107,q65,q68,q88,q87];omega
   ·rw[htake,<-hlen];exact q138
   ·refine⟨hown.1,.inr ⟨g,cap,_,rfl,q95 _,setRow_heap w g cur _ e _ hg,hnc,hcm,?_,?_⟩⟩;·simp only[q107,q65,q68,q88,q87];omega
    ·rw[htake,<-hown.1];simp only[q77];exact q138
  ·have holds:∀j u,xs[j]?=some u->w.cell? ((⟨g,0,none⟩:Addr).add j)=some u:=hown.cells (g:=g) rfl;have hold:(Builtin.firstCells i.size n (.slice (some ⟨g,0,none⟩) n cap)).run P w.drew=.ok xs.toArray w.drew:=run_firstCells_some w.drew i.size n ⟨g,0,none⟩ n cap xs hown.1 (by simpa using holds);have hr:=run_append_grow_src (P:=P) w t tx ty e i z ht hi hz (some ⟨g,0,none⟩) n cap xs hold x m news hs (by omega) hsmall (growslice_fits (by omega) hbytes);have hgr:=grown cap (by omega) (Value.ownBlock (.slice (some ⟨g,0,none⟩) n cap));have hgn:=(grown cap (by omega) none).2;exact⟨_,_,hr,hgr.1,hgr.2,q247 rfl,hown.1,.inr ⟨g,cap,cur,rfl,hbg,(hgn.block g (q67.1 hg).1 (by simp)).trans hg,hnc,hcm,hcs,htake⟩⟩
end
def gb (t:Nat):∀(cs:List AV) (i:Nat),(cf t cs)[i]?=(cs[i]?).map (cq t)|[],i=>by simp[cf]|c::cs,0=>by simp[cf]|c::cs,i+1=>by simp[cf,gb t cs i]
def eO (t:Nat):∀cs:List AV,(cf t cs).length=cs.length|[]=>rfl|c::cs=>by simp[cf,eO t cs]
section
variable{P:Program}{S S':Nat->Prop}{w w':World}{β β':Nat->Value}{D D':Nat->Prop}{t:Nat}
def RV.cq {v:Value}{x:AV} (h:RV P S w β D v x) (hp:∀b,β t≠.pointer (some ⟨b,0,none⟩)) (hS:∀b,S b->S' b/\w'.heap[b]?=w.heap[b]?) (hD:∀s,D s->s≠t->D' s/\β' s=β s):RV P S' w' β' D' v (cq t x):=by cases h with
 |pv v p h=>exact .pv _ _ (h.mono hS)|own s h=>
  simp only[Ab.cq];split;·exact .ak _
  ·rename_i hne;rw[<-(hD s h hne).2];exact .own s (hD s h hne).1|ptr s o b h hb=>have hne:s≠t:=fun e=>hp b (by rw[<-e];exact hb);exact .ptr s o b (hD s h hne).1 ((hD s h hne).2.trans hb)|bd s e i o b n c inf h hi hb=>
  simp only[Ab.cq];split;·exact .ak _
  ·rename_i hne;exact .bd s e i o b n c inf (hD s h hne).1 hi ((hD s h hne).2.trans hb)|sub v s e lo hi inf A A1 n c h hi' hb h1 h2 h3 h4 h5 hv=>
  simp only[Ab.cq];split;·exact .ak _
  ·rename_i hne;exact .sub v s e lo hi inf A A1 n c (hD s h hne).1 hi' ((hD s h hne).2.trans hb) h1 h2 h3 h4 h5 hv|rp ad cs us h1 h2 h3 h4=>exact .rp ad cs us (hS _ h1).1 (fun j hj=>(zV (hS _ h1).2 _).trans (h2 j hj)) h3 (fun j p hp=>(h4 j p hp).mono hS)|agg cs us hl h=>exact .ak _|aN cs us hl h=>exact .ak _|bI f cs us hl h=>cases cs with|nil=>refine .bI f [] us hl ?_;intro i c u hc;simp at hc|cons c cs=>exact .ak _
 |cx g v av h=>exact .ak _|ak v=>exact .ak _
def RV.kill {v:Value}{x:AV} (h:RV P S w β D v x) (hp:∀b,β t≠.pointer (some ⟨b,0,none⟩)) (hS:∀b,S b->S' b/\w'.heap[b]?=w.heap[b]?) (hD:∀s,D s->s≠t->D' s/\β' s=β s):RV P S' w' β' D' v (kill t x):=by induction h with|agg cs us hl h _=>refine .agg _ us (by rw[eO];exact hl) fun i c u hc hu=>?_;rw[gb]at hc;obtain⟨c',hc',rfl⟩:=q900.1 hc;exact(h i c' u hc' hu).cq hp hS hD|aN cs us hl h _=>refine .aN _ us (by rw[eO];exact hl) fun i c u hc hu=>?_;rw[gb]at hc;obtain⟨c',hc',rfl⟩:=q900.1 hc;exact(h i c' u hc' hu).cq hp hS hD|pv v p h=>exact RV.cq (x:=.pv p) (.pv v p h) hp hS hD|own s h=>exact RV.cq (x:=.own s) (.own s h) hp hS hD|ptr s o b h hb=>exact RV.cq (x:=.ptr s o) (.ptr s o b h hb) hp hS hD|bd s e i o b n c inf h hi hb=>exact RV.cq (x:=.bd s e i o) (.bd s e i o b n c inf h hi hb) hp hS hD|sub v s e lo hi inf A A1 n c h hi' hb h1 h2 h3 h4 h5 hv=>exact RV.cq (x:=.sub s e lo hi) (.sub v s e lo hi inf A A1 n c h hi' hb h1 h2 h3 h4 h5 hv) hp hS hD|rp ad cs us h1 h2 h3 h4=>exact RV.cq (x:=.rp cs) (.rp ad cs us h1 h2 h3 h4) hp hS hD|bI f cs us hl h _=>exact RV.cq (x:=.bI f cs) (.bI f cs us hl h) hp hS hD|cx g v av h hu ih=>exact .cx g v _ (fun hg=>ih hg) hu|ak v=>exact .ak _
def bE.kill {s:Nat}{o:AO} (h:bE P S w β D s o) (hp:∀b,β t≠.pointer (some ⟨b,0,none⟩)) (hS:∀b,S b->S' b/\w'.heap[b]?=w.heap[b]?) (hD:∀s,D s->s≠t->D' s/\β' s=β s) (ht:β' s=β s) (hb:∀b,cI (β s)=some b->w'.heap[b]?=w.heap[b]?):bE P S' w' β' D' s (eM t o):=by cases o with
 |box cs=>obtain⟨b,us,ty,hpt,hh,hl,hc⟩:=h;refine⟨b,us,ty,ht.trans hpt,(hb b (by rw[hpt];rfl)).trans hh,by rw[eO];exact hl,fun i c u h1 h2=>?_⟩;rw[gb]at h1;obtain⟨c',hc',rfl⟩:=q900.1 h1;exact⟨(hc i c' u hc' h2).1,(hc i c' u hc' h2).2.cq hp hS hD⟩|arr e rows=>
  obtain⟨inf,us,hi,hown,hr,hc⟩:=h;refine⟨inf,us,hi,?_,hr,fun i j r p h1 h2=>?_⟩
  ·rw[ht];refine⟨hown.1,?_⟩;rcases hown.2 with h0|⟨g,cap,cur,hv,h1,h2,h3,h4,h5,h6⟩;·exact .inl h0
   ·exact .inr ⟨g,cap,cur,hv,h1,(hb g (by rw[hv];rfl)).trans h2,h3,h4,h5,h6⟩
  ·obtain⟨u,h3,h4,h5⟩:=hc i j r p h1 h2;exact⟨u,h3,h4,h5.mono hS⟩|map es=>obtain⟨b,us,c,hp',hh,hl,hc⟩:=h;exact⟨b,us,c,ht.trans hp',(hb b (by rw[hp'];rfl)).trans hh,hl,fun i e u h1 h2=>⟨(hc i e u h1 h2).1,(hc i e u h1 h2).2.mono hS fun _ hf=>hf.elim⟩⟩|kk es=>exact bE.mono (D:=fun _=>False) (show bE P S w β (fun _=>False) s (.kk es) from h) hS (fun _ hf=>hf.elim) ht hb|yJ rem cur=>exact bE.mono (D:=fun _=>False) (show bE P S w β (fun _=>False) s (.yJ rem cur) from h) hS (fun _ hf=>hf.elim) ht hb|rws e cs=>
  obtain⟨inf,us,hi,h1s,hown,hc⟩:=h;refine⟨inf,us,hi,h1s,?_,fun i c u h1 h2=>?_⟩
  ·rw[ht,eO];refine⟨hown.1,?_⟩;rcases hown.2 with h0|⟨g,cap,cur,hv,h1,h2,h3,h4,h5,h6⟩;·exact .inl h0
   ·exact .inr ⟨g,cap,cur,hv,h1,(hb g (by rw[hv];rfl)).trans h2,h3,h4,h5,h6⟩
  ·rw[gb]at h1;obtain⟨c',hc',rfl⟩:=q900.1 h1;exact⟨(hc i c' u hc' h2).1,(hc i c' u hc' h2).2.cq hp hS hD⟩
end
def iE {w:World}{b:Nat}{v:Value} (h:w.ownsRow b e sz v n us):cI v=v.ownBlock/\∀b',v≠.pointer (some ⟨b',0,none⟩):=by
 rcases h.2 with⟨rfl,_⟩|⟨g,cap,cur,rfl,_⟩;·exact⟨rfl,fun _ e=>by cases e⟩
 ·exact⟨rfl,fun _ e=>by cases e⟩
def sI {t s:Nat}{aa:Nat->Option AO}:aE (dU t aa) s↔aE aa s:=by
 unfold aE dU;constructor;·rintro⟨o,ho⟩;obtain⟨o',h,_⟩:=q900.1 ho;exact⟨o',h⟩
 ·rintro⟨o,ho⟩;exact⟨eM t o,by rw[ho];rfl⟩
section
variable{P:Program}{S0 L:Nat->Prop}{B0:Nat->Value}{w0 w w':World}{N:Nat}{st:St}{a:Act}{β:Nat->Value}
def Rel.app (h:Rel P S0 L B0 w0 N st a w β) {t:Nat}{rows more:List (List PV)} (ht9:t%1000≠999) (ht:st.aa t=some (.arr e rows)) {inf:TypeInfo}{us news:List Value} (hi:P.info? e=some inf) (hown:w.ownsRow 0 e inf.size (β t) rows.length us) (hrows:∀r,r∈rows->r.length=inf.size) (hcs:∀(i j:Nat) (r:List PV) (p:PV),rows[i]?=some r->r[j]?=some p->∃u,us[i*inf.size+j]?=some u/\u.oneCell'=true/\dA (bn S0 w0.heap.size β st.aa w) w u p) (hmore:∀r,r∈more->r.length=inf.size) (hms:∀(i j:Nat) (r:List PV) (p:PV),more[i]?=some r->r[j]?=some p->∃u,news[i*inf.size+j]?=some u/\u.oneCell'=true/\dA (bn S0 w0.heap.size β st.aa w) w u p) {v':Value} (hown':w'.ownsRow 0 e inf.size v' (rows.length+more.length) (us++news)) (hg:w.grownBy w' (β t).ownBlock) (hb:v'.ownBlock=(β t).ownBlock\/v'.ownBlock=some w.heap.size):Rel P S0 L B0 w0 N ⟨cO t st.vars,ba t (.arr e (rows++more)) (dU t st.aa)⟩ a w' (fL β t v'):=by
 have hdt:aE st.aa t:=⟨_,ht⟩;have hbt:=(iE hown).1;have hbt':=(iE hown').1;have hp:=(iE hown).2;have hdom:∀s,aE (ba t (.arr e (rows++more)) (dU t st.aa)) s->aE st.aa s:=fun s hs=>by
  rcases cD.1 hs with e|e;·rw[e];exact hdt
  ·exact sI.1 e
 have hv'lt:∀b,cI v'=some b->b<w'.heap.size:=fun b hb'=>(hown'.lt b (by rw[<-hbt'];exact hb')).2;have hm:∀b,bn S0 w0.heap.size β st.aa w b->bn S0 w0.heap.size (fL β t v') (ba t (.arr e (rows++more)) (dU t st.aa)) w' b/\w'.heap[b]?=w.heap[b]?:=by
  intro b ⟨h1,h2,h3⟩;have hbne:some b≠(β t).ownBlock:=fun e'=>h3 ⟨t,_,ht,by rw[hbt,<-e']⟩;refine⟨⟨h1,q97 h2 hg.size,?_⟩,hg.block b h2 hbne⟩;rintro⟨s,o,hs,hbs⟩;by_cases e':s=t
  ·subst e';rw[bp,hbt']at hbs;rcases hb with hb|hb;·exact hbne (by rw[<-hb,hbs])
   ·rw[hb]at hbs;injection hbs with hbs;omega
  ·rw[df _ _ e']at hbs;have hs':dU t st.aa s=some o:=by simpa[ba,e']using hs
   obtain⟨o',ho'⟩:=sI.1 ⟨o,hs'⟩;exact h3 ⟨s,_,ho',hbs⟩
 have hD:∀s,aE st.aa s->s≠t->aE (ba t (.arr e (rows++more)) (dU t st.aa)) s/\fL β t v' s=β s:=fun s hs hne=>⟨cD.2 (.inr (sI.2 hs)),df _ _ hne⟩;have hblkne:∀s,aE st.aa s->s≠t->∀b,cI (β s)=some b->w'.heap[b]?=w.heap[b]?:=fun s hs hne b hbs=>hg.block b (h.lt hs hbs) fun e'=>hne (h.heap.inj s t b hs hdt hbs (by rw[hbt,<-e']));refine⟨h.size,h.defers,fun s=>(h.vars s).kill hp hm hD,⟨fun s o hs=>?_,fun s s' b hs hs' hbs hbs'=>?_⟩,fun s b hs hbs=>?_,h.uL,fun s h9 hs=>?_,?_⟩
 ·by_cases e':s=t
  ·subst e';have:o=.arr e (rows++more):=by simpa[ba]using hs.symm
   subst this;refine⟨inf,us++news,hi,?_,fun r hr=>?_,fun i j r p h1 h2=>?_⟩;·rw[bp,q65];exact hown'
   ·rcases q75.1 hr with hr|hr;·exact hrows r hr
    ·exact hmore r hr
   ·by_cases hlt:i<rows.length;·rw[q86 hlt]at h1;obtain⟨u,hu,h1',hr⟩:=hcs i j r p h1 h2;have hul:i*inf.size+j<us.length:=(q63.1 hu).1;exact⟨u,by rw[q86 hul];exact hu,h1',hr.mono hm⟩
    ·rw[q98 (by omega)]at h1;obtain⟨u,hu,h1',hr⟩:=hms (i-rows.length) j r p h1 h2;have he:i*inf.size+j-us.length=(i-rows.length)*inf.size+j:=by rw[hown.1,Nat.sub_mul];have:=q82 inf.size (show rows.length<=i by omega);omega
     have hle:us.length<=i*inf.size+j:=by rw[hown.1];have:=q82 inf.size (show rows.length<=i by omega);omega
     exact⟨u,by rw[q98 hle,he];exact hu,h1',hr.mono hm⟩
  ·have hs':dU t st.aa s=some o:=by simpa[ba,e']using hs
   obtain⟨o',ho',rfl⟩:=q900.1 hs';exact(h.heap.holds s o' ho').kill hp hm hD (df _ _ e') (hblkne s ⟨_,ho'⟩ e')
 ·have hs1:=hdom s hs;have hs2:=hdom s' hs';by_cases e1:s=t<;>by_cases e2:s'=t;·rw[e1,e2]
  ·subst e1;rw[bp,hbt']at hbs;rw[df _ _ e2]at hbs';rcases hb with hb|hb;·exact h.heap.inj s s' b hs1 hs2 (by rw[hbt,<-hb,hbs]) hbs'
   ·have:=h.lt hs2 hbs';rw[hb]at hbs;injection hbs with hbs;omega
  ·subst e2;rw[bp,hbt']at hbs';rw[df _ _ e1]at hbs;rcases hb with hb|hb;·exact h.heap.inj s s' b hs1 hs2 hbs (by rw[hbt,<-hb,hbs'])
   ·have:=h.lt hs1 hbs;rw[hb]at hbs';injection hbs' with hbs';omega
  ·rw[df _ _ e1]at hbs;rw[df _ _ e2]at hbs';exact h.heap.inj s s' b hs1 hs2 hbs hbs'
 ·have hs1:=hdom s hs;by_cases e1:s=t
  ·subst e1;rw[bp,hbt']at hbs;rcases hb with hb|hb;·exact h.old s b hs1 (by rw[hbt,<-hb,hbs])
   ·rw[hb]at hbs;injection hbs with hbs;have:=h.cu.size;exact .inl (by omega)
  ·rw[df _ _ e1]at hbs;exact h.old s b hs1 hbs
 ·have hst:s≠t:=fun e=>by subst e;exact ht9 h9
  rw[df _ _ hst];exact h.Ar s h9 (hdom s hs)
 ·refine⟨hg.os.trans h.cu.os,hg.tape.trans h.cu.tape,hg.output.trans h.cu.output,q113 h.cu.size hg.size,fun b h1 h2=>?_⟩;refine(hg.block b (by have:=h.cu.size;omega) fun e'=>?_).trans (h.cu.block b h1 h2);rcases h.old t b hdt (by rw[hbt,<-e']) with hx|hx;·omega
  ·exact h2 hx
end
section
variable{P:Program}{S:Nat->Prop}{w:World}{β:Nat->Value}{D:Nat->Prop}{v:Value}
def dA.aG {k:IntKind}{n:Int} (h:dA S w v (.int k n)):v=.int k n:=by cases h;rfl
def dA.fj {b:Bool} (h:dA S w v (.bool b)):v=.bool b:=by cases h;rfl
def dA.fx {l:List UInt8} (h:dA S w v (.str l)):v=.string ⟨l.toArray⟩:=by cases h;rfl
def dA.eT (h:dA S w v .nil):v=.slice none 0 0:=by cases h;rfl
def RV.bL (h:RV P S w β D v (.pv p)):dA S w v p:=by cases h;assumption
def RV.aG {k:IntKind}{n:Int} (h:RV P S w β D v (.pv (.int k n))):v=.int k n:=h.bL.aG
def RV.fj {b:Bool} (h:RV P S w β D v (.pv (.bool b))):v=.bool b:=h.bL.fj
def RV.fx {l:List UInt8} (h:RV P S w β D v (.pv (.str l))):v=.string ⟨l.toArray⟩:=h.bL.fx
def RV.bo {t:Nat} (h:RV P S w β D v (.own t)):v=β t/\D t:=by cases h;exact⟨rfl,by assumption⟩
def RV.gM {t o:Nat} (h:RV P S w β D v (.ptr t o)):∃b,v=.pointer (some ⟨b,o,none⟩)/\D t/\β t=.pointer (some ⟨b,0,none⟩):=by cases h with|ptr _ _ b h hb=>exact⟨b,rfl,h,hb⟩
def RV.jQ {t:Nat}{i:Int}{o:Nat} (h:RV P S w β D v (.bd t e i o)):∃b n c inf,v=.pointer (some ⟨b,i.toNat*inf.size+o,none⟩)/\D t/\P.info? e=some inf/\β t=.slice (some ⟨b,0,none⟩) n c:=by cases h with|bd _ _ _ _ b n c inf h hi hb=>exact⟨b,n,c,inf,rfl,h,hi,hb⟩
def RV.kH {cs:List PV} (h:RV P S w β D v (.rp cs)):∃(ad:Addr) (us:Nat->Value),v=.pointer (some ad)/\S ad.block/\(∀j,j<cs.length->w.cell? (ad.add j)=some (us j))/\(∀(j:Nat) (p:PV),cs[j]?=some p->(us j).oneCell'=true)/\(∀(j:Nat) (p:PV),cs[j]?=some p->dA S w (us j) p):=by cases h with|rp ad _ us h1 h2 h3 h4=>exact⟨ad,us,rfl,h1,h2,h3,h4⟩
def RV.dg (h:RV P S w β D v (.agg cs)):∃us:List Value,v=.agg us.toArray/\us.length=cs.length/\(∀(i:Nat) (c:AV) (u:Value),cs[i]?=some c->us[i]?=some u->RV P S w β D u c):=by cases h with|agg _ us hl h=>exact⟨us,rfl,hl,h⟩
def RV.jt (h:RV P S w β D v (.aN cs)):∃us:List Value,v=.tuple us.toArray/\us.length=cs.length/\(∀(i:Nat) (c:AV) (u:Value),cs[i]?=some c->us[i]?=some u->RV P S w β D u c):=by cases h with|aN _ us hl h=>exact⟨us,rfl,hl,h⟩
def RV.oo {f:FuncId} (h:RV P S w β D v (.bI f cs)):∃us:List Value,v=.func (.func f) #[] us.toArray/\us.length=cs.length/\(∀(i:Nat) (c:AV) (u:Value),cs[i]?=some c->us[i]?=some u->RV P S w β D u c):=by cases h with|bI _ _ us hl h=>exact⟨us,rfl,hl,h⟩
def dA.gJ (h:dA S w v (.ro rows)):∃(A:Option Addr) (c:Nat),v=.slice A rows.length c/\rows.length<=c/\(rows≠[]->∃(ad:Addr) (sz:Nat) (us:Nat->Nat->Value),A=some ad/\S ad.block/\(∀r,r∈rows->r.length=sz)/\(∀i j,i<rows.length->j<sz->w.cell? (ad.add (i*sz+j))=some (us i j))/\(∀(i j:Nat) (r:List PV) (p:PV),rows[i]?=some r->r[j]?=some p->(us i j).oneCell'=true)/\(∀(i j:Nat) (r:List PV) (p:PV),rows[i]?=some r->r[j]?=some p->dA S w (us i j) p)):=by cases h with|zk A c=>exact⟨A,c,rfl,by simp,fun h=>absurd rfl h⟩|ro ad c _ sz us h1 h2 h3 h4 h5 h6=>exact⟨some ad,c,rfl,h2,fun _=>⟨ad,sz,us,rfl,h1,h3,h4,h5,h6⟩⟩
end
def jv (S:Nat->Prop) (w:World) (v:Value) (hv:v.oneCell'=true):dA S w v (si v):=by
 unfold si;split;·exact .int _ _
 ·exact .bool _
 ·rename_i s;have:s=⟨s.data.toList.toArray⟩:=by simp
  rw[show dA S w (.string s) (.str s.data.toList)=dA S w (.string ⟨s.data.toList.toArray⟩) (.str s.data.toList) from by rw[<-this]];exact .str _
 ·exact .nil
 ·exact .val _ hv
def vK (P:Program) (S:Nat->Prop) (w:World) (β:Nat->Value) (D:Nat->Prop) (v:Value):RV P S w β D v (cv v):=by
 unfold cv;split;·rename_i h;exact .pv _ _ (jv S w v h)
 ·exact .ak _
section
variable{P:Program}{S:Nat->Prop}{w:World}{β:Nat->Value}{aa:Nat->Option AO}{a:Act}{vars:Nat->AV}{N:Nat}{x y z:Operand}{o:Oper}
def KL (h:∀s,RV P S w β (aE aa) (a.tmps.getD s undef) (vars s)) (x:Operand):RV P S w β (aE aa) (a.eval x) (ev vars x):=by cases x with|tmp t=>exact h t|const v=>exact vK P S w β (aE aa) v|func f=>exact .bI f [] [] rfl (fun i c u hc=>by simp at hc)|global g=>exact .ak _
def EE {p q r:PV}{u v:Value} (hs:dN op p q=some (φ,r)) (hφ:φ) (hu:dA S w u p) (hv:dA S w v q):∃r',dA S w r' r/\∀(t:TypeId) (x y:Operand) (W:World),(do eqGuard op t x y u v;binOp op t u v:Sem Value).run P W=.ok r' W:=by cases p with
 |int k m=>cases q with|int k' n=>
   have eu:=hu.aG;have ev:=hv.aG;subst eu ev;by_cases hk:k=k'
   ·subst hk;cases op<;>simp only[dN,if_true,qr,q69]at hs<;>obtain⟨rfl,rfl⟩:=hs;·exact⟨_,.int _ _,fun t x y W=>by simp[eqGuard,binOp,Op.intArith]⟩
    ·exact⟨_,.int _ _,fun t x y W=>by simp[eqGuard,binOp,Op.intArith]⟩
    ·exact⟨_,.int _ _,fun t x y W=>by simp[eqGuard,binOp,Op.intArith]⟩
    ·exact⟨_,.int _ _,fun t x y W=>by simp[eqGuard,binOp,Op.intDiv,hφ]⟩
    ·exact⟨_,.int _ _,fun t x y W=>by simp[eqGuard,binOp,Op.intDiv,hφ]⟩
    ·exact⟨_,.int _ _,fun t x y W=>by simp[eqGuard,binOp,Op.intBits]⟩
    ·exact⟨_,.int _ _,fun t x y W=>by simp[eqGuard,binOp,Op.intBits]⟩
    ·exact⟨_,.int _ _,fun t x y W=>by simp[eqGuard,binOp,Op.intBits]⟩
    ·exact⟨_,.int _ _,fun t x y W=>by simp[eqGuard,binOp,Op.shift,show¬n<0 from by omega]⟩
    ·exact⟨_,.int _ _,fun t x y W=>by simp[eqGuard,binOp,Op.shift,show¬n<0 from by omega]⟩
    ·exact⟨_,.int _ _,fun t x y W=>by simp[eqGuard,binOp,Op.intBits]⟩
    ·exact⟨_,.bool _,fun t x y W=>by simp[eqGuard,binOp,Op.intCmp];rfl⟩
    ·exact⟨_,.bool _,fun t x y W=>by simp[eqGuard,binOp,Op.intCmp,bne];rfl⟩
    ·exact⟨_,.bool _,fun t x y W=>by simp[eqGuard,binOp,Op.intCmp]⟩
    ·exact⟨_,.bool _,fun t x y W=>by simp[eqGuard,binOp,Op.intCmp]⟩
    ·exact⟨_,.bool _,fun t x y W=>by simp[eqGuard,binOp,Op.intCmp]⟩
    ·exact⟨_,.bool _,fun t x y W=>by simp[eqGuard,binOp,Op.intCmp]⟩
   ·cases op<;>simp only[dN,if_neg hk,qr,q69,reduceCtorEq]at hs<;>obtain⟨rfl,rfl⟩:=hs;·exact⟨_,.int _ _,fun t x y W=>by simp[eqGuard,binOp,Op.shift,show¬n<0 from by omega]⟩
    ·exact⟨_,.int _ _,fun t x y W=>by simp[eqGuard,binOp,Op.shift,show¬n<0 from by omega]⟩|_=>simp[dN]at hs
 |str l=>cases q with|str m=>
   have eu:=hu.fx;have ev:=hv.fx;subst eu ev;have hl:∀k:List UInt8,(ByteArray.mk k.toArray).toList=k:=ByteArray.toList_mk;have hsz:∀k:List UInt8,(ByteArray.mk k.toArray).size=k.length:=fun k=>by simp[ByteArray.size]
   have he:(l==m)=decide (l=m):=by rw[q232];simp
   cases op<;>simp only[dN,qr,q69,reduceCtorEq]at hs<;>obtain⟨rfl,rfl⟩:=hs
   ·refine⟨_,.str _,fun t x y W=>?_⟩;have h1:¬(9223372036854775807<((l.length:Int)+(m.length:Int))):=by omega
    have h2:(ByteArray.mk l.toArray++ByteArray.mk m.toArray)=ByteArray.mk (l++m).toArray:=by apply ByteArray.ext;simp
    simp[eqGuard,binOp,Op.stringOp,hsz,h1,h2]
   ·exact⟨_,.bool _,fun t x y W=>by simp[eqGuard,binOp,Op.stringOp,he]⟩
   ·exact⟨_,.bool _,fun t x y W=>by simp[eqGuard,binOp,Op.stringOp,he]⟩
   ·exact⟨_,.bool _,fun t x y W=>by simp[eqGuard,binOp,Op.stringOp,hl]⟩
   ·exact⟨_,.bool _,fun t x y W=>by simp[eqGuard,binOp,Op.stringOp,hl,he]⟩
   ·exact⟨_,.bool _,fun t x y W=>by simp[eqGuard,binOp,Op.stringOp,hl,he]⟩
   ·exact⟨_,.bool _,fun t x y W=>by simp[eqGuard,binOp,Op.stringOp,hl]⟩|_=>simp[dN]at hs
 |_=>simp[dN]at hs
def Pr {t yt:TypeId} (ho:o.op=.binOp op t x y yt) (hX:RV P S w β (aE aa) (a.eval x) X) (hY:RV P S w β (aE aa) (a.eval y) Y) {v:AV} (h:al (.bin op) [X,Y] aa=some (φ,v)) (hφ:φ):∃r,(execOp a.eval o).run P w=.ok (.value r) w/\RV P S w β (aE aa) r v:=by cases X with
 |pv p=>cases Y with|pv q=>simp only[al,q900]at h;obtain⟨⟨φ',r⟩,hs,he⟩:=h;simp only[q69]at he;obtain⟨rfl,rfl⟩:=he;obtain⟨r',h1,h2⟩:=EE hs hφ hX.bL hY.bL;refine⟨r',?_,.pv _ _ h1⟩;have:=h2 t x y w;simp only[execOp,ho,q186]at this |-;rw[this];rfl|_=>simp[al]at h
 |_=>simp[al]at h
def DB {t:TypeId} (ht:P.underlying t=some .bool) (b c:Bool) (W:World):(Op.equal t (.bool b) (.bool c)).run P W=.ok (b==c) W:=by
 have h:∀d:Nat,(Op.equalIn (d+1) t (.bool b) (.bool c)).run P W=.ok (b==c) W:=fun d=>by simp[Op.equalIn,run_underlying ht]
 simp[Op.equal,Op.maxDepth,h 9999]
def QI (l:List UInt8):(ByteArray.mk l.toArray).size=l.length:=by simp[ByteArray.size]
def PA {ne:Bool}{t yt:TypeId} (ho:o.op=.binOp (if ne then .neq else .eql) t x y yt) (ht:P.underlying t=some .bool) (hX:RV P S w β (aE aa) (a.eval x) X) (hY:RV P S w β (aE aa) (a.eval y) Y) {v:AV} (h:al (.beq ne) [X,Y] aa=some (φ,v)) (hφ:φ):∃r,(execOp a.eval o).run P w=.ok (.value r) w/\RV P S w β (aE aa) r v:=by cases X with
 |pv p=>cases Y with
  |pv q=>cases p with
   |bool b=>cases q with|bool c=>simp only[al,qr,q69]at h;obtain⟨rfl,rfl⟩:=h;refine⟨_,?_,.pv _ _ (.bool _)⟩;cases ne<;>simp[execOp,ho,hX.fj,hY.fj,eqGuard,binOp,DB ht,bne]|_=>simp[al]at h
   |_=>cases q<;>simp[al]at h
  |_=>cases p<;>simp[al]at h
 |_=>simp[al]at h
def abu {t:TypeId} (ho:o.op=.unOp .not t x) (hX:RV P S w β (aE aa) (a.eval x) X) {v:AV} (h:al .not [X] aa=some (φ,v)) (hφ:φ):∃r,(execOp a.eval o).run P w=.ok (.value r) w/\RV P S w β (aE aa) r v:=by cases X with
 |pv p=>cases p with|bool b=>simp only[al,qr,q69]at h;obtain⟨rfl,rfl⟩:=h;exact⟨_,by simp[execOp,ho,hX.fj,Op.unary],.pv _ _ (.bool _)⟩|_=>simp[al]at h
 |_=>simp[al]at h
def aa7 {t:TypeId} (ho:o.op=.unOp .neg t x) (hX:RV P S w β (aE aa) (a.eval x) X) {v:AV} (h:al .neg [X] aa=some (φ,v)) (hφ:φ):∃r,(execOp a.eval o).run P w=.ok (.value r) w/\RV P S w β (aE aa) r v:=by cases X with
 |pv p=>cases p with|int k n=>simp only[al,qr,q69]at h;obtain⟨rfl,rfl⟩:=h;exact⟨_,by simp[execOp,ho,hX.aG,Op.unary,Op.intArith],.pv _ _ (.int _ _)⟩|_=>simp[al]at h
 |_=>simp[al]at h
def ZS {k k0:IntKind} (ho:o.op=.convert src dst x) (hs:P.underlying src=some (.int k0)) (hd:P.underlying dst=some (.int k)) (hX:RV P S w β (aE aa) (a.eval x) X) {v:AV} (h:al (.DY k) [X] aa=some (φ,v)) (hφ:φ):∃r,(execOp a.eval o).run P w=.ok (.value r) w/\RV P S w β (aE aa) r v:=by cases X with
 |pv p=>cases p with|int k' n=>simp only[al,qr,q69]at h;obtain⟨rfl,rfl⟩:=h;exact⟨_,by simp[execOp,ho,hX.aG,convert,run_underlying hs,run_underlying hd,Conv.intToInt],.pv _ _ (.int _ _)⟩|_=>simp[al]at h
 |_=>simp[al]at h
def q_scv (ho:o.op=.convert src dst x) (hs:P.underlying src=some .string) (hd:P.underlying dst=some .string) (hX:RV P S w β (aE aa) (a.eval x) X) {v:AV} (h:al .Gb [X] aa=some (φ,v)) (hφ:φ):∃r,(execOp a.eval o).run P w=.ok (.value r) w/\RV P S w β (aE aa) r v:=by cases X with
 |pv p=>cases p with|str l=>simp only[al,qr,q69]at h;obtain⟨rfl,rfl⟩:=h;exact⟨_,by simp[execOp,ho,hX.fx,convert,run_underlying hs,run_underlying hd],.pv _ _ (.str _)⟩|_=>simp[al]at h
 |_=>simp[al]at h
def b9 {r:TypeId×List (List PV)} (h:dx q=some r):q=some (.arr r.1 r.2):=by
 unfold dx at h;split at h;·injection h with h;subst h;rfl
 ·cases h
def gK  (h:fT q=some cs):q=some (.box cs):=by
 unfold fT at h;split at h;·injection h with h;subst h;rfl
 ·cases h
def RV.iz {D:Nat->Prop}{v:Value}{t:Nat}{lo hi:Nat} (h:RV P S w β D v (.sub t e lo hi)):∃inf A A1 n c,D t/\P.info? e=some inf/\β t=.slice A n c/\lo<=hi/\hi<=n/\n<=c/\(lo=0->A1=A)/\(c≠lo->A1=A.map (·.add (lo*inf.size)))/\v=.slice A1 (hi-lo) (c-lo):=by cases h with|sub v t e lo hi inf A A1 n c h hi' hb h1 h2 h3 h4 h5 hv=>exact⟨inf,A,A1,n,c,h,hi',hb,h1,h2,h3,h4,h5,hv⟩
def dA.cut {A A1:Option Addr}{c sz lo hi:Nat} (h:dA S w (.slice A rows.length c) (.ro rows)) (h1:lo<=hi) (h2:hi<=rows.length) (hc:rows.length<=c) (hsz:∀r∈rows,r.length=sz) (hA:c≠lo->A1=A.map (·.add (lo*sz))):dA S w (.slice A1 (hi-lo) (c-lo)) (.ro ((rows.take hi).drop lo)):=by
 obtain⟨A',c',hv,_,hne⟩:=h.gJ;have hAc:A=A'/\c=c':=by simpa using hv
 obtain⟨rfl,rfl⟩:=hAc;have hcl:((rows.take hi).drop lo).length=hi-lo:=by simp;omega
 by_cases hz:hi-lo=0;·have hnil:(rows.take hi).drop lo=[]:=q76 (hcl.trans hz);rw[hnil,hz];exact .zk _ _
 ·have hrn:rows≠[]:=by rintro rfl;simp at h2;omega
  obtain⟨ad,sz0,us,rfl,g1,g2,g3,g4,g5⟩:=hne hrn;have hsz0:sz0=sz:=by obtain⟨r,hr⟩:=q157 rows hrn;rw[<-g2 r hr,hsz r hr]
  subst hsz0;have hget:∀(i:Nat) (r:List PV),((rows.take hi).drop lo)[i]?=some r->rows[lo+i]?=some r:=by
   intro i r hr;simp only[q89,q81]at hr;split at hr;·exact hr
   ·cases hr
  rw[hA (by omega),<-hcl];refine .ro (ad.add (lo*sz0)) _ _ sz0 (fun i j=>us (lo+i) j) (by rw[bN];exact g1) (by omega) (fun r hr=>?_) (fun i j hi' hj=>?_) (fun i j r p hr hp=>?_) (fun i j r p hr hp=>?_);·exact g2 r (q96 (q110 hr))
  ·rw[gE,<-g3 (lo+i) j (by omega) hj,q151,q193]
  ·exact g4 _ j r p (hget i r hr) hp
  ·exact g5 _ j r p (hget i r hr) hp
def Heap.arr (hh:Heap P S w β aa) {t:Nat} (h:aa t=some (.arr e rows)):bE P S w β (aE aa) t (.arr e rows):=hh.holds t _ h
def cN {w:World}{b:Nat}{v:Value} (h:w.ownsRow b e sz v n us):∃A c,v=.slice A n c/\n<=c:=by
 rcases h.2 with⟨rfl,rfl⟩|⟨g,cap,cur,rfl,_,_,h,_⟩;·exact⟨none,0,rfl,q92 _⟩
 ·exact⟨_,cap,rfl,h⟩
def Bb {S':Nat->Prop}{D:Nat->Prop}{t:Nat} (h:bE P S w β D t (.arr e rows)) (hS:∀b,S b->S' b) (hb:∀b,cI (β t)=some b->S' b):dA S' w (β t) (.ro rows)/\∃inf A c,P.info? e=some inf/\β t=.slice A rows.length c/\rows.length<=c/\∀r∈rows,r.length=inf.size:=by
 obtain⟨inf,us,hi,hown,hrl,hcs⟩:=h;obtain⟨A,c,hv,hc⟩:=cN hown;refine⟨?_,inf,A,c,hi,hv,hc,hrl⟩;have hm:∀b,S b->S' b/\w.heap[b]?=w.heap[b]?:=fun b hb=>⟨hS b hb,rfl⟩;by_cases hz:rows=[];·subst hz;rw[hv];exact .zk A c
 ·rcases hown.2 with⟨_,hz0⟩|⟨g,cap,cur,hv,_,hheap,hnc,_⟩;·exact absurd (q76 hz0) hz
  ·have hob:(β t).ownBlock=some g:=by rw[hv];rfl
   have hcell:=hown.cells hob;have hg:=hb g (by rw[hv];rfl);rw[hv];have hlook:∀i j,i<rows.length->j<inf.size->∃u,us[i*inf.size+j]?=some u:=fun i j hi hj=>by
    have hr:rows[i]?=some rows[i]:=q62 hi;have hj':j<rows[i].length:=by rw[hrl _ (List.mem_of_getElem? hr)];exact hj
    obtain⟨u,hu,_⟩:=hcs i j _ _ hr (q62 hj');exact⟨u,hu⟩
   refine .ro ⟨g,0,none⟩ cap rows inf.size (fun i j=>us.getD (i*inf.size+j) undef) hg hnc hrl (fun i j hi hj=>?_) (fun i j r p h1 h2=>?_) (fun i j r p h1 h2=>?_);·obtain⟨u,hu⟩:=hlook i j hi hj;rw[hcell _ u hu];simp[q80,hu]
   ·obtain⟨u,hu,h3,_⟩:=hcs i j r p h1 h2;simp only[q80,hu,q101];exact h3
   ·obtain⟨u,hu,_,h3⟩:=hcs i j r p h1 h2;simp only[q80,hu,q101];exact h3.mono hm
def EA {S' S1:Nat->Prop}{D D1:Nat->Prop}{t lo hi:Nat}{v:Value} (h:bE P S w β D t (.arr e rows)) (hS:∀b,S b->S' b) (hb:∀b,cI (β t)=some b->S' b) (hv:RV P S1 w β D1 v (.sub t e lo hi)):dA S' w v (.ro ((rows.take hi).drop lo)):=by
 obtain⟨hro,inf,A,c,hi',hbt,hc,hrl⟩:=Bb h hS hb;obtain⟨inf1,A1,A2,n1,c1,_,hi1,hb1,h1,h2,h3,h4,h5,hv⟩:=hv.iz;rw[hi']at hi1;injection hi1 with hi1;subst hi1;rw[hbt]at hb1 hro;have hx:A=A1/\rows.length=n1/\c=c1:=by simpa using hb1
 obtain⟨rfl,rfl,rfl⟩:=hx;rw[hv];exact hro.cut h1 h2 h3 hrl h5
def Rs {t:TypeId} (ho:o.op=.call {callee:=.builtin .len,args:=#[x],argTypes:=#[t]}) (ht:P.underlying t=some .string) (hX:RV P S w β (aE aa) (a.eval x) X) {v:AV} (h:al .yb [X] aa=some (φ,v)) (hφ:φ):∃r,(execOp a.eval o).run P w=.ok (.value r) w/\RV P S w β (aE aa) r v:=by cases X with
 |pv p=>cases p with|str l=>simp only[al,qr,q69]at h;obtain⟨rfl,rfl⟩:=h;exact⟨_,by simp[execOp,ho,resolve,invoke,builtin,Builtin.len_,run_underlying ht,hX.fx,goInt,QI],.pv _ _ (.int _ _)⟩|_=>simp[al]at h
 |_=>simp[al]at h
def yY (hh:Heap P S w β aa) {t e:Nat} (h:FC (aa t)=some (e,n)):∃inf us,P.info? e=some inf/\w.ownsRow 0 e inf.size (β t) n us:=by
 unfold FC at h;split at h;·rename_i e' rows ho;cases h;obtain⟨inf,us,hi,hown,_⟩:=hh.holds t _ ho;exact⟨inf,us,hi,hown⟩
 ·rename_i e' cs ho;cases h;obtain⟨inf,us,hi,_,hown,_⟩:=hh.holds t _ ho;exact⟨inf,us,hi,hown⟩
 ·cases h
def q_len {t e:TypeId} (ho:o.op=.call {callee:=.builtin .len,args:=#[x],argTypes:=#[t]}) (ht:P.underlying t=some (.slice e)) (hh:Heap P S w β aa) (hX:RV P S w β (aE aa) (a.eval x) X) {v:AV} (h:al .len [X] aa=some (φ,v)) (hφ:φ):∃r,(execOp a.eval o).run P w=.ok (.value r) w/\RV P S w β (aE aa) r v:=by
 have hsl:∀(A:Option Addr) (n c:Nat),a.eval x=.slice A n c->(execOp a.eval o).run P w=.ok (.value (.int .i64 n)) w:=by intro A n c hv;simp[execOp,ho,resolve,invoke,builtin,Builtin.len_,run_underlying ht,hv,goInt]
 cases X with
 |pv p=>cases p with|nil=>simp only[al,qr,q69]at h;obtain⟨rfl,rfl⟩:=h;exact⟨_,hsl none 0 0 hX.bL.eT,.pv _ _ (.int _ _)⟩|ro rows=>simp only[al,qr,q69]at h;obtain⟨rfl,rfl⟩:=h;obtain⟨A,c,hv,_⟩:=hX.bL.gJ;exact⟨_,hsl A rows.length c hv,.pv _ _ (.int _ _)⟩|_=>simp[al]at h
 |own t'=>simp only[al,q900]at h;obtain⟨⟨e',n⟩,hs,he⟩:=h;simp only[q69]at he;obtain⟨rfl,rfl⟩:=he;obtain⟨inf,us,_,hown⟩:=yY hh hs;obtain⟨A,c,hv,_⟩:=cN hown;exact⟨_,hsl A n c (hX.bo.1.trans hv),.pv _ _ (.int _ _)⟩|sub t' e1 lo hi=>simp only[al,q900]at h;obtain⟨r,hs,he⟩:=h;simp only[q69]at he;obtain⟨rfl,rfl⟩:=he;obtain⟨inf,A,A1,n,c,_,_,hb,h1,h2,h3,h4,h5,hv⟩:=hX.iz;refine⟨_,hsl _ _ _ hv,?_⟩;rw[show((hi:Int)-(lo:Int))=((hi-lo:Nat):Int) from by omega];exact .pv _ _ (.int _ _)|_=>simp[al]at h
def Pu {mx:Bool}{t t':TypeId} (ho:o.op=.call {callee:=.builtin (if mx then .max else .min),args:=#[x,y],argTypes:=#[t,t']}) (hX:RV P S w β (aE aa) (a.eval x) X) (hY:RV P S w β (aE aa) (a.eval y) Y) {v:AV} (h:al (.IW mx) [X,Y] aa=some (φ,v)):∃r,(execOp a.eval o).run P w=.ok (.value r) w/\RV P S w β (aE aa) r v:=by cases X with
 |pv p=>cases p with
  |int k n=>cases Y with
   |pv q=>cases q with
    |int k' m=>
     simp only[al]at h;split at h;·rename_i hk;subst hk;simp only[qr,q69]at h;obtain⟨rfl,rfl⟩:=h;cases mx with|false=>exact⟨_,by simp[execOp,ho,resolve,invoke,builtin,hX.aG,hY.aG,Lib.run_min_ints,Result.andThen],.pv _ _ (.int _ _)⟩|true=>exact⟨_,by simp[execOp,ho,resolve,invoke,builtin,hX.aG,hY.aG,Lib.run_max_ints,Result.andThen],.pv _ _ (.int _ _)⟩
     ·cases h|_=>simp[al]at h
   |_=>simp[al]at h
  |_=>simp[al]at h
 |_=>simp[al]at h
def FA {r:List PV}{c:UInt8} (h:byteOf r=some c):r=[.int .u8 (c.toNat:Int)]:=by
 unfold byteOf at h;split at h
 ·rename_i n;split at h
  ·rename_i hn;simp only[qr]at h;subst h;have:(UInt8.ofNat n.toNat).toNat=n.toNat:=by simp;omega
   rw[this];have:(n.toNat:Int)=n:=by omega
   rw[this]
  ·cases h
 ·cases h
def uv:∀{rows:List (List PV)}{l:List UInt8},bytesOf rows=some l->rows.length=l.length/\∀(i:Nat) (c:UInt8),l[i]?=some c->rows[i]?=some [.int .u8 (c.toNat:Int)]|[],l,h=>by simp only[bytesOf,qr]at h;subst h;exact⟨rfl,fun i c h=>by simp at h⟩|r::rows,l,h=>by simp only[bytesOf,qB,q900]at h;obtain⟨c,hc,m,hm,rfl⟩:=h;obtain⟨h1,h2⟩:=uv hm;refine⟨by simp[h1],fun i d hd=>?_⟩;cases i with|zero=>simp only[q72,qr]at hd |-;subst hd;exact FA hc|succ i=>simpa using h2 i d (by simpa using hd)
def SQ (ho:o.op=.convert src dst x) (hs:P.underlying src=some (.slice e)) (he:P.underlying e=some (.int .u8)) (hd:P.underlying dst=some .string) (hh:Heap P S w β aa) (hX:RV P S w β (aE aa) (a.eval x) X) {v:AV} (h:al .uD [X] aa=some (φ,v)):∃r,(execOp a.eval o).run P w=.ok (.value r) w/\RV P S w β (aE aa) r v:=by
 simp only[al,qB,q900]at h;obtain⟨rows,hr,l,hl,he'⟩:=h;simp only[q69]at he';obtain⟨rfl,rfl⟩:=he';obtain⟨hlen,hget⟩:=uv hl;have hrocase:∀(S':Nat->Prop),dA S' w (a.eval x) (.ro rows)->∃r,(execOp a.eval o).run P w=.ok (.value r) w/\RV P S w β (aE aa) r (.pv (.str l)):=by
  intro S' hX;have hnil:∀(A:Option Addr) (c:Nat),l=[]->a.eval x=.slice A 0 c->∃r,(execOp a.eval o).run P w=.ok (.value r) w/\RV P S w β (aE aa) r (.pv (.str l)):=by rintro A c rfl hv;refine⟨.string ⟨#[]⟩,?_,.pv _ _ (.str [])⟩;cases A with|none=>simp only[execOp,ho,hv];have:=Lib.run_convert_nil_bytes (P:=P) w src dst e c hs he hd;simp[this]|some ad=>have:=run_convert_bytes_back (P:=P) w src dst e ad c [] hs he hd (fun j hj=>by simp at hj);simp only[q91]at this;simp[execOp,ho,hv,this]
  obtain⟨A,c,hv,hc,hne⟩:=hX.gJ;by_cases hrn:rows=[];·subst hrn;have:l=[]:=q76 (by simpa using hlen.symm);exact hnil A c this (by simpa using hv)
  ·obtain⟨ad,sz,us,rfl,g1,g2,g3,g4,g5⟩:=hne hrn;have hsz:sz=1:=by
    have h0:0<l.length:=by rw[<-hlen];exact q202.2 hrn
    have:=hget 0 l[0] (by simp[h0]);rw[<-g2 _ (List.mem_of_getElem? this)];rfl
   subst hsz;refine⟨.string ⟨l.toArray⟩,?_,.pv _ _ (.str l)⟩;have:=run_convert_bytes_back (P:=P) w src dst e ad c l hs he hd (fun j hj=>?_);·rw[hlen]at hv;simp[execOp,ho,hv,this]
   ·have hg:=hget j l[j] (by simp[hj]);have h3:=g3 j 0 (by rw[hlen];exact hj) (by omega);rw[q206,q167]at h3;rw[h3];have h5:=(g5 j 0 _ (.int .u8 (l[j].toNat:Int)) hg rfl).aG;rw[h5]
 have hnil:∀(A:Option Addr) (c:Nat),l=[]->a.eval x=.slice A 0 c->∃r,(execOp a.eval o).run P w=.ok (.value r) w/\RV P S w β (aE aa) r (.pv (.str l)):=by rintro A c rfl hv;refine⟨.string ⟨#[]⟩,?_,.pv _ _ (.str [])⟩;cases A with|none=>simp only[execOp,ho,hv];have:=Lib.run_convert_nil_bytes (P:=P) w src dst e c hs he hd;simp[this]|some ad=>have:=run_convert_bytes_back (P:=P) w src dst e ad c [] hs he hd (fun j hj=>by simp at hj);simp only[q91]at this;simp[execOp,ho,hv,this]
 cases X with
 |pv p=>cases p with|nil=>simp only[gr,qr]at hr;subst hr;have:l=[]:=q76 (by simpa using hlen.symm);exact hnil none 0 this hX.bL.eT|ro rows'=>
   simp only[gr,qr]at hr;subst hr;obtain⟨A,c,hv,hc,hne⟩:=hX.bL.gJ;by_cases hrn:rows'=[];·subst hrn;have:l=[]:=q76 (by simpa using hlen.symm);exact hnil A c this (by simpa using hv)
   ·obtain⟨ad,sz,us,rfl,g1,g2,g3,g4,g5⟩:=hne hrn;have hsz:sz=1:=by
     have h0:0<l.length:=by rw[<-hlen];exact q202.2 hrn
     have:=hget 0 l[0] (by simp[h0]);rw[<-g2 _ (List.mem_of_getElem? this)];rfl
    subst hsz;refine⟨.string ⟨l.toArray⟩,?_,.pv _ _ (.str l)⟩;have:=run_convert_bytes_back (P:=P) w src dst e ad c l hs he hd (fun j hj=>?_);·rw[hlen]at hv;simp[execOp,ho,hv,this]
    ·have hg:=hget j l[j] (by simp[hj]);have h3:=g3 j 0 (by rw[hlen];exact hj) (by omega);rw[q206,q167]at h3;rw[h3];have h5:=(g5 j 0 _ (.int .u8 (l[j].toNat:Int)) hg rfl).aG;rw[h5]|_=>simp[gr]at hr
 |own t'=>
  simp only[gr,q900]at hr;obtain⟨⟨e',rows'⟩,hs',rfl⟩:=hr;obtain⟨inf,us,hi,hown,hrl,hcs⟩:=hh.arr (b9 hs');have hv0:=hX.bo.1;rcases hown.2 with⟨hv,h0⟩|⟨g,cap,cur,hv,hrest⟩;·have:l=[]:=q76 (by rw[<-hlen];exact h0);exact hnil none 0 this (hv0.trans hv)
  ·by_cases hl0:l=[];·rw[hl0]at hlen;refine hnil (some ⟨g,0,none⟩) cap hl0 (hv0.trans ?_);rw[hv];simp only[q91]at hlen;rw[hlen]
   ·have hinf:inf.size=1:=by have h0:0<l.length:=q202.2 hl0;have:=hget 0 l[0] (by simp[h0]);rw[<-hrl _ (List.mem_of_getElem? this)];rfl
    refine⟨.string ⟨l.toArray⟩,?_,.pv _ _ (.str l)⟩;have:=run_convert_bytes_back (P:=P) w src dst e ⟨g,0,none⟩ cap l hs he hd (fun j hj=>?_);·have hv1:=hv0.trans hv;dsimp only at hlen;rw[hlen]at hv1;simp[execOp,ho,hv1,this]
    ·have hg:=hget j l[j] (by simp[hj]);obtain⟨u,hu,_,hru⟩:=hcs j 0 _ (.int .u8 (l[j].toNat:Int)) hg rfl;rw[hru.aG,hinf,q206,q167]at hu;obtain⟨_,hhp,_,_,_,htk⟩:=hrest;exact Lib.cells_of_row hhp _ j _ (by rw[htk];exact hu)|sub t' e1 lo hi=>
  simp only[gr,qB]at hr;obtain⟨r,hs',hr⟩:=hr;split at hr;·rename_i he1;simp only[qr]at hr;subst hr he1;exact hrocase (fun _=>True) (EA (hh.arr (b9 hs')) (fun _ _=>trivial) (fun _ _=>trivial) hX)
  ·cases hr|_=>simp[gr]at hr
def Sp {t:TypeId} (ho:o.op=.index t x y) (ht:P.underlying t=some .string) (hX:RV P S w β (aE aa) (a.eval x) X) (hY:RV P S w β (aE aa) (a.eval y) Y) {v:AV} (h:al .yC [X,Y] aa=some (φ,v)) (hφ:φ):∃r,(execOp a.eval o).run P w=.ok (.value r) w/\RV P S w β (aE aa) r v:=by cases X with
 |pv p=>cases Y with
  |pv q=>cases p with
   |str l=>cases q with|int k i=>
     simp only[al,qr,q69]at h;obtain⟨rfl,rfl⟩:=h;obtain⟨h0,h1⟩:=hφ;refine⟨_,?_,.pv _ _ (.int _ _)⟩;have hlt:i.toNat<l.length:=by omega
     have hg:(ByteArray.mk l.toArray)[i.toNat]?=some (l.getD i.toNat 0):=by rw[getElem?_pos (ByteArray.mk l.toArray) i.toNat (by rw[QI];exact hlt)];simp[q80,hlt];rfl
     simp[execOp,ho,Instr.index,asIntOf,run_underlying ht,hX.fx,hY.aG,h0,hg]|_=>simp[al]at h
   |_=>cases q<;>simp[al]at h
  |_=>cases p<;>simp[al]at h
 |_=>simp[al]at h
end
section
variable{P:Program}{S0 L:Nat->Prop}{B0:Nat->Value}{w0 w:World}{N:Nat}{st:St}{a:Act}{β:Nat->Value}
def en {t s:Nat}{aa:Nat->Option AO}:aE (lq t aa) s↔s≠t/\aE aa s:=by
 unfold aE lq;by_cases h:s=t;·simp[h]
 ·simp only[h,if_false,ne_eq,not_false_eq_true,true_and];constructor;·rintro⟨o,ho⟩;obtain⟨o',ho',_⟩:=q900.1 ho;exact⟨o',ho'⟩
  ·rintro⟨o,ho⟩;exact⟨eM t o,by rw[ho];rfl⟩
def nv (t:Nat) (e:TypeId) (rows:List (List PV)):∀cs:List AV,(uE t e rows cs).length=cs.length|[]=>rfl|c::cs=>by simp only[uE,q70,nv t e rows cs]
def vO (t:Nat) (e:TypeId) (rows:List (List PV)):∀(cs:List AV) (i:Nat),(uE t e rows cs)[i]?=cs[i]?.map (Xy t e rows)|[],_=>rfl|c::cs,0=>rfl|c::cs,i+1=>by simp only[uE,q177,vO t e rows cs i]
def Rel.J4 (hL:∀b,L b->S0 b) (h:Rel P S0 L B0 w0 N st a w β) {t:Nat} (ht:st.aa t=some (.arr e rows)) {vars':Nat->AV}{objs':Nat->Option AO} (hvars:∀s,vars' s=sh t e rows (st.vars s)\/vars' s=Gw t e rows (st.vars s)) (hdom:∀s,aE objs' s↔s≠t/\aE st.aa s) (hob:∀s o,objs' s=some o->∃o',st.aa s=some o'/\(o=eM t o'\/o=LU t e rows o')):Rel P S0 L B0 w0 N ⟨vars',objs'⟩ a w β:=by
 have hdt:aE st.aa t:=⟨_,ht⟩;obtain⟨inf,us,hi,hown,hrl,hcs⟩:=h.heap.holds t _ ht;have hbt:=(iE hown).1;have hp:=(iE hown).2;have hlive:∀b,live β (objs') b->live β st.aa b:=by rintro b ⟨s,o,hs,hb⟩;obtain⟨o',ho'⟩:=((hdom _).1 ⟨o,hs⟩).2;exact⟨s,o',ho',hb⟩
 have hm:∀b,bn S0 w0.heap.size β st.aa w b->bn S0 w0.heap.size β (objs') w b/\w.heap[b]?=w.heap[b]?:=fun b ⟨h1,h2,h3⟩=>⟨⟨h1,h2,fun hl=>h3 (hlive b hl)⟩,rfl⟩;have hbk:∀b,cI (β t)=some b->bn S0 w0.heap.size β (objs') w b:=by intro b hb;refine⟨(h.old t b hdt hb).elim .inr fun hx=>.inl (hL b hx),h.lt hdt hb,?_⟩;rintro⟨s,o,hs,hbs⟩;obtain⟨h1,h2⟩:=(hdom _).1 ⟨o,hs⟩;exact h1 (h.heap.inj s t b h2 hdt hbs hb)
 have hD:∀s,aE st.aa s->s≠t->aE (objs') s/\β s=β s:=fun s hs hne=>⟨(hdom _).2 ⟨hne,hs⟩,rfl⟩;have hro:dA (bn S0 w0.heap.size β (objs') w) w (β t) (.ro rows):=by
  by_cases hz:rows=[]
  ·subst hz;rcases hown.2 with⟨hv,_⟩|⟨g,cap,cur,hv,_⟩;·rw[hv];exact .zk none 0
   ·rw[hv];exact .zk _ _
  ·rcases hown.2 with⟨_,hz0⟩|⟨g,cap,cur,hv,_,hheap,hnc,_⟩;·exact absurd (q76 hz0) hz
   ·have hob:(β t).ownBlock=some g:=by rw[hv];rfl
    have hcell:=hown.cells hob;have hg:=hbk g (by rw[hbt];exact hob);rw[hv];have hlook:∀i j,i<rows.length->j<inf.size->∃u,us[i*inf.size+j]?=some u:=fun i j hi hj=>by
     have hr:rows[i]?=some rows[i]:=q62 hi;have hj':j<rows[i].length:=by rw[hrl _ (List.mem_of_getElem? hr)];exact hj
     obtain⟨u,hu,_⟩:=hcs i j _ _ hr (q62 hj');exact⟨u,hu⟩
    refine .ro ⟨g,0,none⟩ cap rows inf.size (fun i j=>us.getD (i*inf.size+j) undef) hg hnc hrl (fun i j hi hj=>?_) (fun i j r p h1 h2=>?_) (fun i j r p h1 h2=>?_);·obtain⟨u,hu⟩:=hlook i j hi hj;rw[hcell _ u hu];simp[q80,hu]
    ·obtain⟨u,hu,h3,_⟩:=hcs i j r p h1 h2;simp only[q80,hu,q101];exact h3
    ·obtain⟨u,hu,_,h3⟩:=hcs i j r p h1 h2;simp only[q80,hu,q101];exact h3.mono hm
 have hcell:∀(v:Value) (x:AV),RV P (bn S0 w0.heap.size β st.aa w) w β (aE st.aa) v x->RV P (bn S0 w0.heap.size β objs' w) w β (aE objs') v (Xy t e rows x)/\((∀cs,x≠.agg cs)->RV P (bn S0 w0.heap.size β objs' w) w β (aE objs') v (sh t e rows x)):=by intro v x hv;cases x with
  |own u=>
   have:RV P (bn S0 w0.heap.size β objs' w) w β (aE objs') v (sh t e rows (.own u)):=by
    simp only[sh];split;·rename_i e';subst e';rw[hv.bo.1];exact .pv _ _ hro
    ·rename_i hne;rw[hv.bo.1];exact .own u (hD u hv.bo.2 hne).1
   exact⟨this,fun _=>this⟩|sub u e1 lo hi=>
   have:RV P (bn S0 w0.heap.size β objs' w) w β (aE objs') v (sh t e rows (.sub u e1 lo hi)):=by
    simp only[sh];obtain⟨inf1,A,A1,n,c,hdu,hi1,hb,h1,h2,h3,h4,h5,hv1⟩:=hv.iz;split
    ·rename_i e';subst e';split
     ·rename_i e2;subst e2;rw[hv1];rw[hi]at hi1;injection hi1 with hi1;subst hi1;obtain⟨A',c',hv',hc'⟩:=cN hown;rw[hb]at hv';have hx:A=A'/\n=rows.length/\c=c':=by simpa using hv'
      obtain⟨rfl,rfl,rfl⟩:=hx;rw[hb]at hro;exact .pv _ _ (hro.cut h1 h2 h3 hrl h5)
     ·exact .ak _
    ·rename_i hne;exact .sub _ u e1 lo hi inf1 A A1 n c (hD u hdu hne).1 hi1 hb h1 h2 h3 h4 h5 hv1
   exact⟨this,fun _=>this⟩|_=>exact⟨hv.cq hp hm hD,fun _=>hv.kill hp hm hD⟩
 have hcs2:∀(v:Value) (x:AV),RV P (bn S0 w0.heap.size β st.aa w) w β (aE st.aa) v x->RV P (bn S0 w0.heap.size β objs' w) w β (aE objs') v (Gw t e rows x):=by intro v x hv;cases x with
  |agg cs=>cases hv with|agg _ us hl h=>refine .agg _ us (by rw[nv];exact hl) fun i c u hc hu=>?_;rw[vO]at hc;obtain⟨c',hc',rfl⟩:=q900.1 hc;exact(hcell u c' (h i c' u hc' hu)).1
  |_=>exact(hcell v _ hv).2 (fun _ e=>by cases e)
 refine⟨h.size,h.defers,fun s=>?_,⟨fun s o hs=>?_,fun s s' b hs hs' hbs hbs'=>?_⟩,fun s b hs hbs=>?_,h.uL,fun s h9 hs=>h.Ar s h9 ((hdom _).1 hs).2,h.cu⟩
 ·have hv:=h.vars s;show RV P _ w β _ _ (vars' s);rcases hvars s with hx|hx
  ·rw[hx];by_cases hag:∃cs,st.vars s=.agg cs;·obtain⟨cs,hag⟩:=hag;rw[hag]at hv |-;exact hv.kill hp hm hD
   ·exact(hcell _ _ hv).2 fun cs e=>hag ⟨cs,e⟩
  ·rw[hx];exact hcs2 _ _ hv
 ·obtain⟨o',ho',hx⟩:=hob s o hs;rcases hx with rfl|rfl;·exact(h.heap.holds s o' ho').kill hp hm hD rfl (fun b hb=>rfl)
  ·cases o' with|box cs=>obtain⟨b,us,ty,hpt,hh,hl,hc⟩:=h.heap.holds s _ ho';refine⟨b,us,ty,hpt,hh,by rw[nv];exact hl,fun i c u h1 h2=>?_⟩;rw[vO]at h1;obtain⟨c',hc',rfl⟩:=q900.1 h1;exact⟨(hc i c' u hc' h2).1,(hcell u c' (hc i c' u hc' h2).2).1⟩|_=>exact(h.heap.holds s _ ho').kill hp hm hD rfl (fun b hb=>rfl)
 ·exact h.heap.inj s s' b ((hdom _).1 hs).2 ((hdom _).1 hs').2 hbs hbs'
 ·exact h.old s b ((hdom _).1 hs).2 hbs
def Rel.share (hL:∀b,L b->S0 b) (h:Rel P S0 L B0 w0 N st a w β) {t:Nat} (ht:st.aa t=some (.arr e rows)):Rel P S0 L B0 w0 N ⟨Ms t e rows st.vars,lq t st.aa⟩ a w β:=by
 refine h.J4 hL ht (fun s=>.inl rfl) (fun s=>en) fun s o hs=>?_;by_cases e':s=t;·simp[lq,e']at hs
 ·have hs':(st.aa s).map (eM t)=some o:=by simpa[lq,e']using hs
  obtain⟨o',ho',rfl⟩:=q900.1 hs';exact⟨o',ho',.inl rfl⟩
def Rel.SL (hL:∀b,L b->S0 b) (h:Rel P S0 L B0 w0 N st a w β) {t:Nat} (ht:st.aa t=some (.arr e rows)):Rel P S0 L B0 w0 N ⟨shW t e rows st.vars,Fq t e rows st.aa⟩ a w β:=by
 refine h.J4 hL ht (fun s=>.inr rfl) (fun s=>?_) fun s o hs=>?_
 ·unfold aE Fq;by_cases h:s=t;·simp[h]
  ·simp only[h,if_false,ne_eq,not_false_eq_true,true_and];constructor;·rintro⟨o,ho⟩;obtain⟨o',ho',_⟩:=q900.1 ho;exact⟨o',ho'⟩
   ·rintro⟨o,ho⟩;exact⟨LU t e rows o,by rw[ho];rfl⟩
 ·by_cases e':s=t;·simp[Fq,e']at hs
  ·have hs':(st.aa s).map (LU t e rows)=some o:=by simpa[Fq,e']using hs
   obtain⟨o',ho',rfl⟩:=q900.1 hs';exact⟨o',ho',.inr rfl⟩
def Rel.drop (hL:∀b,L b->S0 b) (h:Rel P S0 L B0 w0 N st a w β) (t:Nat):Rel P S0 L B0 w0 N (xo t st) a w β:=by
 unfold xo;split
 ·rename_i r hr;obtain⟨e,rows⟩:=r;have ht:st.aa t=some (.arr e rows):=by
   unfold dx at hr;split at hr;·rename_i h1;cases hr;exact h1
   ·cases hr
  refine(h.share hL ht).bU fun s=>?_;show cO t st.vars s=Ms t e rows st.vars s\/_;unfold cO Ms;cases hv:st.vars s with
  |own u=>
   simp only[sh,kill,cq];split;·exact .inr rfl
   ·exact .inl rfl|sub u e1 lo hi=>
   simp only[sh,kill,cq];split;·exact .inr rfl
   ·exact .inl rfl|_=>exact .inl rfl
 ·exact h
def Rel.jS (hL:∀b,L b->S0 b) (h:Rel P S0 L B0 w0 N st a w β) (v:AV):Rel P S0 L B0 w0 N (jS st v) a w β:=by cases v with
 |own t=>
  simp only[Ab.jS];split
  ·rename_i r hr;obtain⟨e,rows⟩:=r;have:st.aa t=some (.arr e rows):=by
    unfold dx at hr;split at hr;·rename_i h1;cases hr;exact h1
    ·cases hr
   exact h.SL hL this
  ·exact h|_=>exact h
def Rel.iC (hL:∀b,L b->S0 b):∀(l:List AV) {st:St},Rel P S0 L B0 w0 N st a w β->Rel P S0 L B0 w0 N (iC st l) a w β|[],_,h=>h|v::l,_,h=>Rel.iC hL l (h.jS hL v)
def Rel.share1 (hL:∀b,L b->S0 b) (h:Rel P S0 L B0 w0 N st a w β) (v:AV):Rel P S0 L B0 w0 N (share1 st v) a w β:=by have h1:=h.jS hL v;cases v with|agg cs=>exact h.iC hL cs|_=>exact h1
def Rel.cU (hL:∀b,L b->S0 b):∀(l:List AV) {st:St},Rel P S0 L B0 w0 N st a w β->Rel P S0 L B0 w0 N (cU st l) a w β|[],_,h=>h|v::l,_,h=>Rel.cU hL l (h.share1 hL v)
def mm:∀cs:List AV,(nK cs).length=cs.length|[]=>rfl|c::cs=>by simp only[nK,q70,mm cs]
def tq:∀(cs:List AV) (i:Nat),(nK cs)[i]?=cs[i]?.map uI|[],_=>rfl|c::cs,0=>rfl|c::cs,i+1=>by simp only[nK,q177,tq cs i]
def RV.uI {S:Nat->Prop}{D:Nat->Prop}{v:Value}{x:AV} (h:RV P S w β D v x):RV P S w β D v (uI x):=by cases h with
 |pv _ p h=>cases h with|nil=>exact .pv _ _ (.zk none 0)|int k n=>exact .pv _ _ (.int k n)|bool b=>exact .pv _ _ (.bool b)|str l=>exact .pv _ _ (.str l)|val v hv=>exact .pv _ _ (.val v hv)|mp b us c ks h1 h2 h3 h4=>exact .pv _ _ (.mp b us c ks h1 h2 h3 h4)|mv b us c es h1 h2 h3 h4 h5 h6=>exact .pv _ _ (.mv b us c es h1 h2 h3 h4 h5 h6)|pt ad cs us h1 h2 h3 h4=>exact .pv _ _ (.pt ad cs us h1 h2 h3 h4)|zk A c=>exact .pv _ _ (.zk A c)|ro ad c rows sz us h1 h2 h3 h4 h5 h6=>exact .pv _ _ (.ro ad c rows sz us h1 h2 h3 h4 h5 h6)
 |own t h=>exact .own t h|ptr t o b h hb=>exact .ptr t o b h hb|bd t e i o b n c inf h hi hb=>exact .bd t e i o b n c inf h hi hb|sub v t e lo hi inf A A1 n c h hi' hb h1 h2 h3 h4 h5 hv=>exact .sub v t e lo hi inf A A1 n c h hi' hb h1 h2 h3 h4 h5 hv|rp ad cs us h1 h2 h3 h4=>exact .rp ad cs us h1 h2 h3 h4|agg cs us hl h=>exact .agg cs us hl h|aN cs us hl h=>exact .aN cs us hl h|bI f cs us hl h=>exact .bI f cs us hl h|cx g v av h hu=>exact .cx g v av h hu|ak v=>exact .ak v
def RV.yr {S:Nat->Prop}{D:Nat->Prop}{v:Value}{x:AV} (h:RV P S w β D v x):RV P S w β D v (yr x):=by
 by_cases hag:∃cs,x=.agg cs;·obtain⟨cs,rfl⟩:=hag;cases h with|agg _ us hl h=>refine .agg _ us (by rw[mm];exact hl) fun i c u hc hu=>?_;rw[tq]at hc;obtain⟨c',hc',rfl⟩:=q900.1 hc;exact(h i c' u hc' hu).uI
 ·have:Ab.yr x=Ab.uI x:=by cases x<;>first|rfl|exact absurd ⟨_,rfl⟩ hag
  rw[this];exact h.uI
def Rel.wX (h:Rel P S0 L B0 w0 N st a w β):Rel P S0 L B0 w0 N (wX st) a w β:=by
 have hdom:∀s,aE (fun s=>(st.aa s).map xZ) s↔aE st.aa s:=by
  intro s;unfold aE;constructor;·rintro⟨o,ho⟩;obtain⟨o',ho',_⟩:=q900.1 ho;exact⟨o',ho'⟩
  ·rintro⟨o,ho⟩;exact⟨xZ o,by show(st.aa s).map xZ=_;rw[ho];rfl⟩
 have hlive:∀b,live β (fun s=>(st.aa s).map xZ) b->live β st.aa b:=by rintro b ⟨s,o,hs,hb⟩;obtain⟨o',ho'⟩:=(hdom _).1 ⟨o,hs⟩;exact⟨s,o',ho',hb⟩
 have hm:∀b,bn S0 w0.heap.size β st.aa w b->bn S0 w0.heap.size β (fun s=>(st.aa s).map xZ) w b/\w.heap[b]?=w.heap[b]?:=fun b ⟨h1,h2,h3⟩=>⟨⟨h1,h2,fun hl=>h3 (hlive b hl)⟩,rfl⟩;have hD:∀s,aE st.aa s->aE (fun s=>(st.aa s).map xZ) s/\β s=β s:=fun s hs=>⟨(hdom _).2 hs,rfl⟩;refine⟨h.size,h.defers,fun s=>((h.vars s).mono hm hD).yr,⟨fun s o hs=>?_,fun s s' b hs hs' hbs hbs'=>?_⟩,fun s b hs hbs=>?_,h.uL,fun s h9 hs=>h.Ar s h9 ((hdom _).1 hs),h.cu⟩;·obtain⟨o',ho',rfl⟩:=q900.1 hs;have h1:=(h.heap.holds s o' ho').mono hm hD rfl (fun b hb=>rfl);cases o' with|box cs=>obtain⟨b,us,ty,hpt,hh,hl,hc⟩:=h1;refine⟨b,us,ty,hpt,hh,by rw[mm];exact hl,fun i c u h1 h2=>?_⟩;rw[tq]at h1;obtain⟨c',hc',rfl⟩:=q900.1 h1;exact⟨(hc i c' u hc' h2).1,(hc i c' u hc' h2).2.uI⟩|_=>exact h1
 ·exact h.heap.inj s s' b ((hdom _).1 hs) ((hdom _).1 hs') hbs hbs'
 ·exact h.old s b ((hdom _).1 hs) hbs
def Rel.CK (hL:∀b,L b->S0 b) (h:Rel P S0 L B0 w0 N st a w β) (t:Nat):Rel P S0 L B0 w0 N (CK t st) a w β:=by
 unfold Ab.CK;split;rotate_left;·exact h
 rename_i es hr;have ht:st.aa t=some (.kk es):=by
  unfold wQ at hr;split at hr;·rename_i h1;cases hr;exact h1
  ·cases hr
 have hdt:aE st.aa t:=⟨_,ht⟩;obtain⟨b,us,c,hb,hh,hst,hl,hc⟩:=h.heap.holds t _ ht;have hp:∀b',β t≠.pointer (some ⟨b',0,none⟩):=fun b' e=>by rw[hb]at e;cases e
 have hlive:∀b,live β (lq t st.aa) b->live β st.aa b:=by rintro b ⟨s,o,hs,hb⟩;obtain⟨o',ho'⟩:=(en.1 ⟨o,hs⟩).2;exact⟨s,o',ho',hb⟩
 have hm:∀b,bn S0 w0.heap.size β st.aa w b->bn S0 w0.heap.size β (lq t st.aa) w b/\w.heap[b]?=w.heap[b]?:=fun b ⟨h1,h2,h3⟩=>⟨⟨h1,h2,fun hl=>h3 (hlive b hl)⟩,rfl⟩;have hbb:cI (β t)=some b:=by rw[hb];rfl
 have hbk:bn S0 w0.heap.size β (lq t st.aa) w b:=by refine⟨(h.old t b hdt hbb).elim .inr fun hx=>.inl (hL b hx),h.lt hdt hbb,?_⟩;rintro⟨s,o,hs,hbs⟩;obtain⟨h1,h2⟩:=en.1 ⟨o,hs⟩;exact h1 (h.heap.inj s t b h2 hdt hbs hbb)
 have hD:∀s,aE st.aa s->s≠t->aE (lq t st.aa) s/\β s=β s:=fun s hs hne=>⟨en.2 ⟨hne,hs⟩,rfl⟩;have hmv:dA (bn S0 w0.heap.size β (lq t st.aa) w) w (β t) (.mv es):=by rw[hb];exact .mv b us c es hbk hh hst hl (fun i e u h1 h2=>⟨(hc i e u h1 h2).1,(hc i e u h1 h2).2.1,(hc i e u h1 h2).2.2.1⟩) fun i e u h1 h2=>(hc i e u h1 h2).2.2.2.mono hm
 refine⟨h.size,h.defers,fun s=>?_,⟨fun s o hs=>?_,fun s s' b hs hs' hbs hbs'=>?_⟩,fun s b hs hbs=>?_,h.uL,fun s h9 hs=>h.Ar s h9 (en.1 hs).2,h.cu⟩;·have hv:=h.vars s;show RV P _ w β _ _ (shP t es (st.vars s));cases hx:st.vars s with
  |own u=>
   rw[hx]at hv;simp only[shP];split;·rename_i e;subst e;rw[hv.bo.1];exact .pv _ _ hmv
   ·rename_i hne;rw[hv.bo.1];exact .own u (hD u hv.bo.2 hne).1|_=>rw[hx]at hv;exact hv.kill hp hm hD
 ·by_cases e':s=t;·simp[lq,e']at hs
  ·have hs':(st.aa s).map (eM t)=some o:=by simpa[lq,e']using hs
   obtain⟨o',ho',rfl⟩:=q900.1 hs';exact(h.heap.holds s o' ho').kill hp hm hD rfl (fun b hb=>rfl)
 ·exact h.heap.inj s s' b (en.1 hs).2 (en.1 hs').2 hbs hbs'
 ·exact h.old s b (en.1 hs).2 hbs
def Rel.cP (hL:∀b,L b->S0 b):∀(l:List Nat) {st:St},Rel P S0 L B0 w0 N st a w β->Rel P S0 L B0 w0 N (cP l st) a w β
 |[],_,h=>h|t::l,st,h=>by
  refine Rel.cP hL l ?_;unfold AQ;split;·exact h.wX
  ·split;·exact h.CK hL _
   ·exact h.share1 hL _
end
end Go.Proofs.YtifcndkhigakfaaGreat.Ab
