/- The abstract machine is sound: objects that are handed over whole, as trees. -/
import Derived.Test.YtifcndkhigakfaaGreatY4
import Derived.Test.YtifcndkhigakfaaGreatY6
import Derived.Laws.StructEq
import Derived.MapKept
import Derived.Lib.LazyBuf
import Derived.Laws.Externs
import Derived.Lib.AppendZeros
import Derived.Laws.MakeOwn
set_option linter.unusedVariables false
set_option linter.unusedSimpArgs false
set_option linter.unnecessarySimpa false
set_option maxHeartbeats 40000000
set_option maxRecDepth 100000
set_option linter.defProp false
namespace Go.Proofs.YtifcndkhigakfaaGreat.Ab
open Go Go.RowKit
def q73:=@List.mem_singleton
def q78:=@List.mem_cons
def q94:=@List.mem_filter
def q102:=@List.not_mem_nil
def q104:=@List.mem_append_left
def q106:=@List.drop_left
def q108:=@List.mem_cons_of_mem
def q114:=@MapKept.run_getObj_map
def q118:=@MapKept.run_checkKey
def q122:=@List.mem_cons_self
def q123:=@MapKept.run_findKey
def q134:=@List.getElem?_eq_none
def q140:=@Bool.false_eq_true
def q146:=@List.any_eq_false
def q159:=@List.mem_map_of_mem
def q162:=@List.map_append
def q164:=@List.mem_filterMap
def q178:=@List.nodup_append
def q179:=@List.mem_flatMap
def q180:=@List.mem_append_right
def q191:=@List.nodup_cons
def q203:=@List.map_eq_nil_iff
def q213:=@List.ext_getElem?
def q243:=@List.any_cons
def q256:=@List.flatten_append
def q265:=@Bool.true_and
def q269:=@List.flatten_cons
def q289:=@MapKept.sameNow_of_keys
def q292:=@List.headD_cons
def q302:=@List.nodup_nil
def q303:=@List.contains_iff_mem
def q305:=@Bool.not_true
end Go.Proofs.YtifcndkhigakfaaGreat.Ab
namespace Go.Proofs.YtifcndkhigakfaaGreat.Ab
open Go Go.RowKit
variable {n sz:Nat}{f:FuncId}{ys xs:List AV}{r:AV}{e kt:TypeId}{vals us:List Value}{p:PV}{ks bs bs':List Nat}{z:Value}{os:List (Nat×AO)}{R R':(Nat->Value)->(Nat->Prop)->Prop}
def ml {w:World}{b:Nat}{v:Value} (h:w.ownsRow b e sz v n us) {hi:Nat} (hle:hi<=n) {A:Option Addr}{c:Nat} (hv:v=.slice A n c):w.ownsRow b e sz (.slice A hi c) hi (us.take (hi*sz)):=by
 subst hv;have hm:hi*sz<=n*sz:=q82 _ hle;refine⟨by rw[q68,h.1];omega,?_⟩;rcases h.2 with⟨h1,h2⟩|⟨g,cap,cur,h1,h2,h3,h4,h5,h6,h7⟩
 ·have:A=none/\n=0/\c=0:=by simpa using h1
  obtain⟨rfl,rfl,rfl⟩:=this;obtain rfl:hi=0:=by omega
  exact .inl ⟨rfl,rfl⟩
 ·have:A=some ⟨g,0,none⟩/\c=cap:=by simpa using h1
  obtain⟨rfl,rfl⟩:=this;refine .inr ⟨g,c,cur,rfl,h2,h3,by omega,h5,h6,?_⟩;rw[<-h7,q148,q103 hm]
section
variable{P:Program}{S S':Nat->Prop}{w w':World}{β β':Nat->Value}{D D':Nat->Prop}{W:List Nat}
def RV.eX {v:Value}{x:AV} (h:RV P S w β D v x) (hS:∀b,S b->S' b/\w'.heap[b]?=w.heap[b]?) (hD:∀s,D s->W.contains s=false->D' s/\β' s=β s):RV P S' w' β' D' v (eX W x):=by cases h with
 |pv v p h=>exact .pv _ _ (h.mono hS)|own s h=>
  simp only[Ab.eX];split;·exact .ak _
  ·rename_i hne;have:=hD s h (by simpa using hne);rw[<-this.2];exact .own s this.1|ptr s o b h hb=>
  simp only[Ab.eX];split;·exact .ak _
  ·rename_i hne;have:=hD s h (by simpa using hne);exact .ptr s o b this.1 (this.2.trans hb)|bd s e i o b n c inf h hi hb=>
  simp only[Ab.eX];split;·exact .ak _
  ·rename_i hne;have:=hD s h (by simpa using hne);exact .bd s e i o b n c inf this.1 hi (this.2.trans hb)|sub v s e lo hi inf A A1 n c h hi' hb h1 h2 h3 h4 h5 hv=>
  simp only[Ab.eX];split;·exact .ak _
  ·rename_i hne;have:=hD s h (by simpa using hne);exact .sub v s e lo hi inf A A1 n c this.1 hi' (this.2.trans hb) h1 h2 h3 h4 h5 hv|rp ad cs us h1 h2 h3 h4=>exact .rp ad cs us (hS _ h1).1 (fun j hj=>(zV (hS _ h1).2 _).trans (h2 j hj)) h3 (fun j p hp=>(h4 j p hp).mono hS)|agg cs us hl h=>exact .ak _|aN cs us hl h=>exact .ak _|bI f cs us hl h=>cases cs with|nil=>refine .bI f [] us hl ?_;intro i c u hc;simp at hc|cons c cs=>exact .ak _
 |cx g v av h=>exact .ak _|ak v=>exact .ak _
def RV.jG {v:Value}{x:AV} (h:RV P S w β D v x) (hS:∀b,S b->S' b/\w'.heap[b]?=w.heap[b]?) (hD:∀s,D s->W.contains s=false->D' s/\β' s=β s):RV P S' w' β' D' v (jG W x):=by
 by_cases hx:∃cs,x=.agg cs;·obtain⟨cs,rfl⟩:=hx;obtain⟨us,rfl,hl,h⟩:=h.dg;refine .agg _ us (by rw[List.length_map];exact hl) fun i c u hc hu=>?_;rw[q79]at hc;obtain⟨c',hc',rfl⟩:=q900.1 hc;exact(h i c' u hc' hu).eX hS hD
 ·have:Ab.jG W x=Ab.eX W x:=by cases x<;>first|rfl|exact absurd ⟨_,rfl⟩ hx
  rw[this];exact h.eX hS hD
def RV.mL {v:Value}{x:AV} (h:RV P S w β D v x) (hS:∀b,S b->S' b/\w'.heap[b]?=w.heap[b]?) (hD:∀s,D s->W.contains s=false->D' s/\β' s=β s):RV P S' w' β' D' v (mL W x):=by induction h with|aN cs us hl h _=>refine .aN _ us (by rw[List.length_map];exact hl) fun i c u hc hu=>?_;rw[q79]at hc;obtain⟨c',hc',rfl⟩:=q900.1 hc;exact(h i c' u hc' hu).jG hS hD|bI f cs us hl h _=>refine .bI f _ us (by rw[List.length_map];exact hl) fun i c u hc hu=>?_;rw[q79]at hc;obtain⟨c',hc',rfl⟩:=q900.1 hc;exact(h i c' u hc' hu).jG hS hD|cx g v av h hu ih=>exact .cx g v _ (fun hg=>ih hg) hu|agg cs us hl h _=>exact RV.jG (x:=.agg cs) (.agg cs us hl h) hS hD|pv v p h=>exact RV.jG (x:=.pv p) (.pv v p h) hS hD|own s h=>exact RV.jG (x:=.own s) (.own s h) hS hD|ptr s o b h hb=>exact RV.jG (x:=.ptr s o) (.ptr s o b h hb) hS hD|bd s e i o b n c inf h hi hb=>exact RV.jG (x:=.bd s e i o) (.bd s e i o b n c inf h hi hb) hS hD|sub v s e lo hi inf A A1 n c h hi' hb h1 h2 h3 h4 h5 hv=>exact RV.jG (x:=.sub s e lo hi) (.sub v s e lo hi inf A A1 n c h hi' hb h1 h2 h3 h4 h5 hv) hS hD|rp ad cs us h1 h2 h3 h4=>exact RV.jG (x:=.rp cs) (.rp ad cs us h1 h2 h3 h4) hS hD|ak v=>exact .ak _
def RV.gg {v:Value}{x:AV} (h:RV P S w β D v x) (hS:∀b,S b->S' b/\w'.heap[b]?=w.heap[b]?) (hD:∀s,D s->W.contains s=false->D' s/\β' s=β s):RV P S' w' β' D' v (gg W x):=by
 unfold Ab.gg;split
 ·rename_i he;have:W=[]:=by simpa using he
  subst this;exact h.mono hS fun s hs=>hD s hs rfl
 ·exact h.mL hS hD
def bE.gg {s:Nat}{o:AO} (h:bE P S w β D s o) (hS:∀b,S b->S' b/\w'.heap[b]?=w.heap[b]?) (hD:∀s,D s->W.contains s=false->D' s/\β' s=β s) (ht:β' s=β s) (hb:∀b,cI (β s)=some b->w'.heap[b]?=w.heap[b]?):bE P S' w' β' D' s (ku W o):=by
 unfold ku;split
 ·rename_i he;have:W=[]:=by simpa using he
  subst this;exact h.mono hS (fun s hs=>hD s hs rfl) ht hb
 cases o with|box cs=>obtain⟨b,us,ty,hpt,hh,hl,hc⟩:=h;refine⟨b,us,ty,ht.trans hpt,(hb b (by rw[hpt];rfl)).trans hh,by rw[List.length_map];exact hl,fun i c u h1 h2=>?_⟩;rw[q79]at h1;obtain⟨c',hc',rfl⟩:=q900.1 h1;exact⟨(hc i c' u hc' h2).1,(hc i c' u hc' h2).2.eX hS hD⟩|arr e rows=>exact bE.mono (D:=fun _=>False) (show bE P S w β (fun _=>False) s (.arr e rows) from h) hS (fun _ hf=>hf.elim) ht hb|map es=>exact bE.mono (D:=fun _=>False) (show bE P S w β (fun _=>False) s (.map es) from h) hS (fun _ hf=>hf.elim) ht hb|kk es=>exact bE.mono (D:=fun _=>False) (show bE P S w β (fun _=>False) s (.kk es) from h) hS (fun _ hf=>hf.elim) ht hb|yJ rem cur=>exact bE.mono (D:=fun _=>False) (show bE P S w β (fun _=>False) s (.yJ rem cur) from h) hS (fun _ hf=>hf.elim) ht hb|rws e cs=>
  obtain⟨inf,us,hi,h1s,hown,hc⟩:=h;refine⟨inf,us,hi,h1s,?_,fun i c u h1 h2=>?_⟩
  ·rw[ht,List.length_map];refine⟨hown.1,?_⟩;rcases hown.2 with h0|⟨g,cap,cur,hv,h1,h2,h3,h4,h5,h6⟩;·exact .inl h0
   ·exact .inr ⟨g,cap,cur,hv,h1,(hb g (by rw[hv];rfl)).trans h2,h3,h4,h5,h6⟩
  ·rw[q79]at h1;obtain⟨c',hc',rfl⟩:=q900.1 h1;exact⟨(hc i c' u hc' h2).1,(hc i c' u hc' h2).2.eX hS hD⟩
end
def zR (f:AV->AV->Prop):List AV->List AV->Prop|[],[]=>True|c::cs,y::ys=>f c y/\zR f cs ys|_,_=>False
def mt (P:Program) (aa:Nat->Option AO):Nat->AV->AV->Prop|0,_,_=>False|n+1,x,y=>match y with|.fr e rows=>yj P aa x (.fr e rows)|.mf es=>∃t,x=.own t/\aa t=some (.kk es)|.bx cs=>∃t l,x=.ptr t 0/\aa t=some (.box l)/\zR (mt P aa n) l cs|.agg cs=>∃l,x=.agg l/\zR (mt P aa n) l cs|.aN cs=>∃l,x=.aN l/\zR (mt P aa n) l cs|.pv p=>x=.pv p|.rp cs=>x=.rp cs|.bI f cs=>x=.bI f []/\cs=[]|_=>False
def tg (aa:Nat->Option AO):Nat->AV->List Nat|0,_=>[]|n+1,x=>match x with|.own t=>[t]|.sub t _ _ _=>[t]|.ptr t 0=>t::((fT (aa t)).getD []).flatMap (tg aa n)|.agg cs=>cs.flatMap (tg aa n)|.aN cs=>cs.flatMap (tg aa n)|_=>[]
def iD {f:AV->AV->Prop}:∀{l ys:List AV},zR f l ys->l.length=ys.length/\∀(i:Nat) (c y:AV),l[i]?=some c->ys[i]?=some y->f c y
 |[],[],_=>⟨rfl,fun i c y hc=>by simp at hc⟩|c::cs,y::ys,h=>by obtain⟨h1,h2⟩:=iD h.2;refine⟨by simp[h1],fun i c' y' hc hy=>?_⟩;cases i with|zero=>simp at hc hy;rw[<-hc,<-hy];exact h.1|succ i=>exact h2 i c' y' (by simpa using hc) (by simpa using hy)
 |[],_::_,h=>h.elim|_::_,[],h=>h.elim
def dJ (β:Nat->Value) (ts:List Nat):List Nat:=ts.filterMap fun t=>cI (β t)
def gx (β:Nat->Value) (a b:List Nat):dJ β (a++b)=dJ β a++dJ β b:=List.filterMap_append
def lu (β:Nat->Value) (t:Nat):dJ β [t]=(cI (β t)).toList:=by unfold dJ;cases h:cI (β t)<;>simp[h]
def gH {α:Type} (β:Nat->Value) (f:α->List Nat):∀l:List α,dJ β (l.flatMap f)=(l.map fun c=>dJ β (f c)).flatten|[]=>rfl|c::l=>by rw[q99,gx,gH β f l];rfl
section
variable{P:Program}{S S':Nat->Prop}{w w':World}{β:Nat->Value}{aa:Nat->Option AO}
def nj (hh:Heap P S w β aa) (hS:∀b,S b->S' b):∀(n:Nat) {v:Value}{x y:AV},mt P aa n x y->RV P S w β (aE aa) v x->HT P S' w v y (dJ β (tg aa n x))
 |0,_,_,_,h,_=>h.elim|n+1,v,x,y,h,hv=>by
  have hS2:∀b,S b->S' b/\w.heap[b]?=w.heap[b]?:=fun b hb=>⟨hS b hb,rfl⟩;have lst:∀{l cs:List AV}{us:List Value},zR (mt P aa n) l cs->(∀(i:Nat) (c:AV) (u:Value),l[i]?=some c->us[i]?=some u->RV P S w β (aE aa) u c)->∀(i:Nat) (c:AV) (u:Value) (bs:List Nat),cs[i]?=some c->us[i]?=some u->(l.map fun c=>dJ β (tg aa n c))[i]?=some bs->HT P S' w u c bs:=by
   intro l cs us hm hc i c u bs h1 h2 h3;obtain⟨hl,hg⟩:=iD hm;have hi:i<l.length:=by rw[hl];exact(q63.1 h1).1
   have h4:l[i]?=some l[i]:=q62 hi;rw[q79,h4]at h3;simp only[q121,qr]at h3;rw[<-h3];exact nj hh hS n (hg i _ c h4 h1) (hc i _ u h4 h2)
  unfold mt at h;split at h
  ·rename_i e rows;rcases h with⟨t,rfl,ht⟩|⟨rfl,rfl,hi⟩|⟨t,hi,rs,rfl,ht,rfl⟩;·obtain⟨rfl,_⟩:=hv.bo;obtain⟨inf,us,h1,h2,h3,h4⟩:=hh.holds t _ ht;have:dJ β (tg aa (n+1) (.own t))=(cI (β t)).toList:=lu β t;rw[this];exact .fr _ e rows inf us h1 h2 h3 fun i j r p hr hp=>by obtain⟨u,hu,ho,hr⟩:=h4 i j r p hr hp;exact⟨u,hu,ho,hr.mono hS2⟩
   ·obtain⟨inf,hi⟩:=q124.1 hi;have hvn:=hv.bL.eT;subst hvn;exact .fr (.slice none 0 0) e [] inf [] hi (q188 w 0 e inf.size) (fun r hr=>by simp at hr) (fun i j r p hr=>by simp at hr)
   ·obtain⟨inf,us,hinf,how,hrl,hcl⟩:=hh.holds t _ ht;obtain⟨A,c,hbt,hcc⟩:=cN how;obtain⟨inf1,Ad,Ad1,n',c1,hdt,hi1,hb1,g1,g2,g3,g4,g5,hux⟩:=hv.iz;rw[hbt]at hb1;have h3:A=Ad/\rs.length=n'/\c=c1:=by simpa using hb1
    obtain⟨rfl,rfl,rfl⟩:=h3;have hlen:(rs.take hi).length=hi:=by rw[q68];omega
    have hv2:v=.slice A hi c:=by rw[hux,g4 rfl];simp
    subst hv2;have hb2:dJ β (tg aa (n+1) (.sub t e 0 hi))=(cI (.slice A hi c)).toList:=by refine(lu β t).trans ?_;rw[hbt];cases A<;>rfl
    rw[hb2];refine .fr _ e _ inf (us.take (hi*inf.size)) hinf ?_ (fun r hr=>hrl r (q96 hr)) fun i j r p hr hp=>?_;·rw[hlen];exact ml how g2 hbt
    ·have hi2:i<hi:=by rw[<-hlen];exact(q63.1 hr).1
     rw[q81,if_pos hi2]at hr;obtain⟨u,hu,h1,h2⟩:=hcl i j r p hr hp;have hj:j<inf.size:=by rw[<-hrl r (List.mem_of_getElem? hr)];exact(q63.1 hp).1
     have hlt:i*inf.size+j<hi*inf.size:=by have:=q82 inf.size (show i+1<=hi from hi2);rw[q120]at this;omega
     exact⟨u,by rw[q81,if_pos hlt];exact hu,h1,h2.mono hS2⟩
  ·rename_i es;obtain⟨t,rfl,ht⟩:=h;obtain⟨rfl,_⟩:=hv.bo;obtain⟨b,us,c,h1,h2,hst,h3,h4⟩:=hh.holds t _ ht;have:dJ β (tg aa (n+1) (.own t))=[b]:=(lu β t).trans (by rw[h1];rfl);rw[this,h1];exact .mf b us c es h2 hst h3 fun i e u he hu=>⟨(h4 i e u he hu).1,(h4 i e u he hu).2.1,(h4 i e u he hu).2.2.1,(h4 i e u he hu).2.2.2.mono hS2⟩
  ·rename_i cs;obtain⟨t,l,rfl,ht,hm⟩:=h;obtain⟨b,rfl,_,hb⟩:=hv.gM;obtain⟨b',us,ty,h1,h2,h3,h4⟩:=hh.holds t _ ht;rw[hb]at h1;injection h1 with h1;injection h1 with h1;injection h1 with h1;subst h1;have e1:dJ β (tg aa (n+1) (.ptr t 0))=b::(l.map fun c=>dJ β (tg aa n c)).flatten:=by show dJ β (t::((fT (aa t)).getD []).flatMap (tg aa n))=_;rw[ht];show dJ β ([t]++l.flatMap (tg aa n))=_;rw[gx,gH,lu,hb];rfl
   rw[e1];refine .bx b us ty cs _ h2 (h3.trans (iD hm).1) (by rw[List.length_map];exact(iD hm).1) (fun i u hu=>?_) fun i c u bs h5 h6 h7=>lst (us:=us.toList) hm (fun i c u hc hu=>(h4 i c u hc (by simpa using hu)).2) i c u bs h5 (by simpa using h6) h7;have hi:i<l.length:=by rw[<-h3];exact(q67.1 hu).1
   exact(h4 i _ u (q62 hi) hu).1
  ·rename_i cs;obtain⟨l,rfl,hm⟩:=h;obtain⟨us,rfl,hl,hc⟩:=hv.dg;have e1:dJ β (tg aa (n+1) (.agg l))=(l.map fun c=>dJ β (tg aa n c)).flatten:=gH β (tg aa n) l;rw[e1];exact .agg us cs _ (hl.trans (iD hm).1) (by rw[List.length_map];exact(iD hm).1) (lst hm hc)
  ·rename_i cs;obtain⟨l,rfl,hm⟩:=h;obtain⟨us,rfl,hl,hc⟩:=hv.jt;have e1:dJ β (tg aa (n+1) (.aN l))=(l.map fun c=>dJ β (tg aa n c)).flatten:=gH β (tg aa n) l;rw[e1];exact .aN us cs _ (hl.trans (iD hm).1) (by rw[List.length_map];exact(iD hm).1) (lst hm hc)
  ·subst h;cases hv with|pv v p h=>exact .leaf _ _ (.pv _ _ (h.mono hS2))
  ·subst h;obtain⟨ad,us,rfl,h1,h2,h3,h4⟩:=hv.kH;exact .leaf _ _ (.rp ad _ us (hS _ h1) h2 h3 fun j p hp=>(h4 j p hp).mono hS2)
  ·obtain⟨rfl,rfl⟩:=h;obtain⟨us,rfl,hl,_⟩:=hv.oo;exact .leaf _ _ (.bI _ [] us hl fun i c u hc=>by simp at hc)
  ·exact h.elim
def Gs {f:AV->Option (AV×List Nat)}{g:AV->List Nat} (hg:∀c r,f c=some r->g c=r.2):∀{l:List AV}{q:List AV×List Nat},LM f l=some q->zR (fun c y=>∃r,f c=some r/\r.1=y) l q.1/\l.flatMap g=q.2|[],q,h=>by cases h;exact⟨trivial,rfl⟩|c::l,q,h=>by obtain⟨r,hr,h⟩:=qB.1 h;obtain⟨q',hq,rfl⟩:=q900.1 h;obtain⟨h1,h2⟩:=Gs hg hq;exact⟨⟨⟨r,hr,rfl⟩,h1⟩,by rw[q99,hg c r hr,h2]⟩
def BN {f g:AV->AV->Prop} (h:∀c y,f c y->g c y):∀{l ys:List AV},zR f l ys->zR g l ys|[],[],_=>trivial|_::_,_::_,hm=>⟨h _ _ hm.1,BN h hm.2⟩|[],_::_,hm=>hm.elim|_::_,[],hm=>hm.elim
def GU:∀(n:Nat) {x:AV}{r:AV×List Nat},rd n aa x=some r->mt P aa n x r.1/\tg aa n x=r.2
 |0,_,_,h=>by cases h|n+1,x,r,h=>by
  have lst:∀{l:List AV}{q:List AV×List Nat},LM (rd n aa) l=some q->zR (mt P aa n) l q.1/\l.flatMap (tg aa n)=q.2:=fun{l q} h=>by obtain⟨h1,h2⟩:=Gs (g:=tg aa n) (fun c r hr=>(GU n hr).2) h;exact⟨BN (fun c y ⟨r,hr,e⟩=>e▸(GU n hr).1) h1,h2⟩
  unfold rd at h;split at h
  ·rename_i t;obtain⟨y,hy,rfl⟩:=q900.1 h;unfold Vp at hy;split at hy;·rename_i e rows ho;cases hy;exact⟨.inl ⟨t,rfl,ho⟩,rfl⟩
   ·rename_i es ho;cases hy;exact⟨⟨t,rfl,ho⟩,rfl⟩
   ·cases hy
  ·rename_i t;obtain⟨cs,hc,h⟩:=qB.1 h;obtain⟨q,hq,rfl⟩:=q900.1 h;obtain⟨h1,h2⟩:=lst hq;have ho:=gK hc;refine⟨⟨t,cs,rfl,ho,h1⟩,?_⟩;show t::((fT (aa t)).getD []).flatMap (tg aa n)=_;rw[hc,q101,h2]
  ·obtain⟨q,hq,rfl⟩:=q900.1 h;obtain⟨h1,h2⟩:=lst hq;exact⟨⟨_,rfl,h1⟩,h2⟩
  ·cases h;exact⟨rfl,rfl⟩
  ·cases h;exact⟨rfl,rfl⟩
  ·cases h;exact⟨⟨rfl,rfl⟩,rfl⟩
  ·cases h
end
def oQ {top:Bool}{s:List Nat×List Nat}{q:Nat×List Nat×List Nat} (h:tk top s=some q):(q.1::(q.2.1++q.2.2)).Perm (s.1++s.2):=by
 unfold tk at h;split at h;·cases h;exact .refl _
 ·cases h;exact List.perm_middle.symm
 ·cases h
def nw (P:Program) (S:Nat->Prop) (w:World) (os:List (Nat×AO)) (bs:List Nat) (R:(Nat->Value)->(Nat->Prop)->Prop):Prop:=∃βn:Nat->Value,(∀(β:Nat->Value) (D:Nat->Prop),(∀p∈os,β p.1=βn p.1/\D p.1)->(∀p∈os,bE P S w β D p.1 p.2)/\R β D)/\(∀p∈os,∀b,cI (βn p.1)=some b->b∈bs)/\(∀p∈os,∀q∈os,∀b,cI (βn p.1)=some b->cI (βn q.1)=some b->p.1=q.1)
def nw.none {P:Program}{S:Nat->Prop}{w:World} (bs:List Nat) (h:∀β D,R β D):nw P S w [] bs R:=⟨fun _=>undef,fun β D _=>⟨fun p hp=>by simp at hp,h β D⟩,fun p hp=>by simp at hp,fun p hp=>by simp at hp⟩
def nw.imp {P:Program}{S:Nat->Prop}{w:World} (h:nw P S w os bs R) (hb:∀b∈bs,b∈bs') (hR:∀β D,R β D->R' β D):nw P S w os bs' R':=by obtain⟨βn,h1,h2,h3⟩:=h;exact⟨βn,fun β D hp=>⟨(h1 β D hp).1,hR β D (h1 β D hp).2⟩,fun p hp b hpb=>hb b (h2 p hp b hpb),h3⟩
def nw.append {P:Program}{S:Nat->Prop}{w:World}{os os':List (Nat×AO)} (h:nw P S w os bs R) (h':nw P S w os' bs' R') (hb:∀b∈bs,b∉bs') (ht:∀p∈os,∀q∈os',p.1≠q.1):nw P S w (os++os') (bs++bs') (fun β D=>R β D/\R' β D):=by classical
 obtain⟨β1,a1,a2,a3⟩:=h;obtain⟨β2,b1,b2,b3⟩:=h';have e1:∀p∈os,(if∃q∈os,q.1=p.1 then β1 p.1 else β2 p.1)=β1 p.1:=fun p hp=>if_pos ⟨p,hp,rfl⟩;have e2:∀p∈os',(if∃q∈os,q.1=p.1 then β1 p.1 else β2 p.1)=β2 p.1:=fun p hp=>if_neg fun⟨q,hq,e⟩=>ht q hq p hp e;refine⟨fun t=>if∃q∈os,q.1=t then β1 t else β2 t,fun β D hp=>?_,fun p hp b hb'=>?_,fun p hp q hq b hpb hqb=>?_⟩
 ·have k1:=a1 β D fun p hpo=>⟨(hp p (q104 _ hpo)).1.trans (e1 p hpo),(hp p (q104 _ hpo)).2⟩;have k2:=b1 β D fun p hpo=>⟨(hp p (q180 _ hpo)).1.trans (e2 p hpo),(hp p (q180 _ hpo)).2⟩;refine⟨fun p hpo=>?_,k1.2,k2.2⟩;rcases q75.1 hpo with h|h;·exact k1.1 p h
  ·exact k2.1 p h
 ·dsimp only at hb';rcases q75.1 hp with h|h;·rw[e1 p h]at hb';exact q104 _ (a2 p h b hb')
  ·rw[e2 p h]at hb';exact q180 _ (b2 p h b hb')
 ·dsimp only at hpb hqb;rcases q75.1 hp with h|h<;>rcases q75.1 hq with g|g;·rw[e1 p h]at hpb;rw[e1 q g]at hqb;exact a3 p h q g b hpb hqb
  ·rw[e1 p h]at hpb;rw[e2 q g]at hqb;exact absurd (b2 q g b hqb) (hb b (a2 p h b hpb))
  ·rw[e2 p h]at hpb;rw[e1 q g]at hqb;exact absurd (b2 p h b hpb) (hb b (a2 q g b hqb))
  ·rw[e2 p h]at hpb;rw[e2 q g]at hqb;exact b3 p h q g b hpb hqb
section
variable{P:Program}{S S':Nat->Prop}{w:World}
def P7 (P:Program) (S S':Nat->Prop) (w:World) (f:AV->List Nat×List Nat->Option (AV×List (Nat×AO)×List Nat×List Nat)):Prop:=∀(y:AV) (s:List Nat×List Nat) (q:AV×List (Nat×AO)×List Nat×List Nat),f y s=some q->(q.2.1.map (·.1)++(q.2.2.1++q.2.2.2)).Perm (s.1++s.2)/\∀(v:Value) (bs:List Nat),HT P S w v y bs->bs.Nodup->(s.1++s.2).Nodup->nw P S' w q.2.1 bs fun β D=>RV P S' w β D v q.1
def qU {f:AV->List Nat×List Nat->Option (AV×List (Nat×AO)×List Nat×List Nat)} (hf:P7 P S S' w f):∀(ys:List AV) (s:List Nat×List Nat) (q:List AV×List (Nat×AO)×List Nat×List Nat),pS f ys s=some q->(q.2.1.map (·.1)++(q.2.2.1++q.2.2.2)).Perm (s.1++s.2)/\q.1.length=ys.length/\∀(vs:List Value) (bss:List (List Nat)),IQ P S w vs ys bss->bss.flatten.Nodup->(s.1++s.2).Nodup->nw P S' w q.2.1 bss.flatten fun β D=>∀(i:Nat) (c:AV) (u:Value),q.1[i]?=some c->vs[i]?=some u->RV P S' w β D u c
 |[],s,q,h=>by cases h;exact⟨.refl _,rfl,fun vs bss _ _ _=>nw.none _ fun β D i c u hc=>by simp at hc⟩|y::ys,s,q,h=>by
  obtain⟨r,hr,h⟩:=qB.1 h;obtain⟨q',hq,rfl⟩:=q900.1 h;obtain⟨p1,l1⟩:=hf y s r hr;obtain⟨p2,n2,l2⟩:=qU hf ys r.2.2 q' hq;have hp:((r.2.1++q'.2.1).map (·.1)++(q'.2.2.1++q'.2.2.2)).Perm (s.1++s.2):=by rw[q162,q77];exact(p2.append_left _).trans p1
  refine⟨hp,by simp[n2],fun vs bss ⟨hl1,hl2,hg⟩ hnd hs=>?_⟩;match vs,bss,hl1,hl2 with
  |v::vs,bs::bss,hl1,hl2=>
   rw[q269,q178]at hnd;have hs1:=p1.nodup_iff.2 hs;rw[q178]at hs1;have hs2:(r.2.2.1++r.2.2.2).Nodup:=hs1.2.1;have k1:=l1 v bs (hg 0 y v bs rfl rfl rfl) hnd.1 hs;have k2:=l2 vs bss ⟨by simpa using hl1,by simpa using hl2,fun i y v bs h1 h2 h3=>hg (i+1) y v bs (by simpa using h1) (by simpa using h2) (by simpa using h3)⟩ hnd.2.1 hs2;refine(k1.append k2 (fun b hb hb'=>hnd.2.2 b hb b hb' rfl) fun p hp q hq e=>?_).imp (fun b hb=>by simpa using hb) fun β D ⟨a1,a2⟩ i c u hc hu=>?_;·have:q.1∈r.2.2.1++r.2.2.2:=p2.mem_iff.1 (q104 _ (q159 hq));exact hs1.2.2 _ (q159 hp) _ this e
   ·cases i with|zero=>simp only[q72,qr]at hc hu;rw[<-hc,<-hu];exact a1|succ i=>exact a2 i c u (by simpa using hc) (by simpa using hu)
def HT.xO {v:Value}{y:AV} (h:HT P S w v y bs) (hy:(∃p,y=.pv p)\/(∃cs,y=.rp cs)\/∃f cs,y=.bI f cs):RV P S w (fun _=>undef) (fun _=>False) v y:=by cases h with|leaf v y h=>exact h|_=>rcases hy with⟨p,h⟩|⟨p,h⟩|⟨f,p,h⟩<;>cases h
def RV.xU {β:Nat->Value}{v:Value}{y:AV} (h:RV P S w β (fun _=>False) v y):(∀e rows,y≠.fr e rows)/\(∀cs,y≠.bx cs)/\∀es,y≠.mf es:=by cases h<;>exact⟨fun _ _ h=>(by cases h),fun _ h=>(by cases h),fun _ h=>(by cases h)⟩
def sD (hS:∀b,S b->S' b):∀(n:Nat) (top:Bool),P7 P S S' w (num n top)
 |0,_,_,_,_,h=>by cases h|n+1,top,y,s,q,h=>by
  have hS2:∀b,S b->S' b/\w.heap[b]?=w.heap[b]?:=fun b hb=>⟨hS b hb,rfl⟩;have leaf:∀{v:Value}{x:AV},RV P S w (fun _=>undef) (fun _=>False) v x->∀β D,RV P S' w β D v x:=fun h β D=>h.mono hS2 fun _ hf=>hf.elim;have lists:∀(v:Value) (cs:List AV) (bs:List Nat),(HT P S w v (.agg cs) bs->∃us bss,v=.agg us.toArray/\bs=bss.flatten/\IQ P S w us cs bss)/\(HT P S w v (.aN cs) bs->∃us bss,v=.tuple us.toArray/\bs=bss.flatten/\IQ P S w us cs bss):=by
   intro v cs bs;constructor;·intro h;cases h with|agg us cs bss h1 h2 h3=>exact⟨us,bss,rfl,rfl,h1,h2,fun i y v bs a b c=>h3 i y v bs a b c⟩|leaf v y h=>obtain⟨us,rfl,hl,hc⟩:=h.dg;refine⟨us,cs.map fun _=>[],rfl,by simp,hl,by simp,fun i y v bs h1 h2 h3=>?_⟩;rw[q79,h1]at h3;cases h3;exact .leaf _ _ (hc i y v h1 h2)
   ·intro h;cases h with|aN us cs bss h1 h2 h3=>exact⟨us,bss,rfl,rfl,h1,h2,fun i y v bs a b c=>h3 i y v bs a b c⟩|leaf v y h=>obtain⟨us,rfl,hl,hc⟩:=h.jt;refine⟨us,cs.map fun _=>[],rfl,by simp,hl,by simp,fun i y v bs h1 h2 h3=>?_⟩;rw[q79,h1]at h3;cases h3;exact .leaf _ _ (hc i y v h1 h2)
  unfold num at h;split at h;·rename_i e rows;obtain⟨k,hk,rfl⟩:=q900.1 h;refine⟨oQ hk,fun v bs hv hb hs=>?_⟩;cases hv with|leaf v y h=>exact absurd rfl (h.xU.1 _ _)|fr v e rows inf us h1 h2 h3 h4=>
   refine⟨fun _=>v,fun β D hp=>?_,fun p hp b hb=>?_,fun p hp q hq b _ _=>?_⟩
   ·obtain⟨e1,hd⟩:=hp (k.1,.arr e rows) (by simp);refine⟨fun p hp=>?_,?_⟩;·simp only[q73]at hp;subst hp;exact⟨inf,us,h1,by rw[e1];exact h2,h3,fun i j r p hr hp=>by obtain⟨u,a,b,c⟩:=h4 i j r p hr hp;exact⟨u,a,b,c.mono hS2⟩⟩
    ·have:=RV.own (P:=P) (S:=S') (w:=w) (β:=β) k.1 hd;rw[e1]at this;exact this
   ·simp only[hb,Option.toList_some,q73]
   ·simp only[q73]at hp hq;rw[hp,hq]
  ·rename_i es;obtain⟨k,hk,rfl⟩:=q900.1 h;refine⟨oQ hk,fun v bs hv hb hs=>?_⟩;cases hv with|leaf v y h=>exact absurd rfl (h.xU.2.2 _)|mf b us c es h1 hst h2 h3=>
    refine⟨fun _=>.map (some b),fun β D hp=>?_,fun p hp b' hb=>?_,fun p hp q hq b _ _=>?_⟩
    ·obtain⟨e1,hd⟩:=hp (k.1,.kk es) (by simp);refine⟨fun p hp=>?_,?_⟩;·simp only[q73]at hp;subst hp;exact⟨b,us,c,e1,h1,hst,h2,fun i e u he hu=>⟨(h3 i e u he hu).1,(h3 i e u he hu).2.1,(h3 i e u he hu).2.2.1,(h3 i e u he hu).2.2.2.mono hS2⟩⟩
     ·have:=RV.own (P:=P) (S:=S') (w:=w) (β:=β) k.1 hd;rw[e1]at this;exact this
    ·simp only[cI,qr]at hb;simp[hb]
    ·simp only[q73]at hp hq;rw[hp,hq]
  ·rename_i cs;obtain⟨k,hk,h⟩:=qB.1 h;obtain⟨r,hr,rfl⟩:=q900.1 h;obtain⟨p2,n2,l2⟩:=qU (sD hS n false) cs k.2 r hr;have p1:=oQ hk;refine⟨?_,fun v bs hv hb hs=>?_⟩;·exact((p2.cons k.1).trans p1)
   cases hv with|leaf v y h=>exact absurd rfl (h.xU.2.1 _)|bx b us ty cs bss h1 h2 h3 h4 h5=>
    rw[q191]at hb;have hs1:=p1.nodup_iff.2 hs;rw[q191]at hs1;have k2:=l2 us.toList bss ⟨by simpa using h2,h3,fun i y v bs a1 a2 a3=>h5 i y v bs a1 (by simpa using a2) a3⟩ hb.2 hs1.2;obtain⟨βn,a1,a2,a3⟩:=k2;have hne:∀p∈r.2.1,p.1≠k.1:=fun p hp e=>by have:p.1∈k.2.1++k.2.2:=p2.mem_iff.1 (q104 _ (q159 hp));exact hs1.1 (e▸this)
    have e2:∀p∈r.2.1,(if p.1=k.1 then Value.pointer (some ⟨b,0,none⟩) else βn p.1)=βn p.1:=fun p hp=>if_neg (hne p hp);refine⟨fun t=>if t=k.1 then .pointer (some ⟨b,0,none⟩) else βn t,fun β D hp=>?_,fun p hp b' hb'=>?_,fun p hp q hq b' hpb hqb=>?_⟩
    ·obtain⟨e1,hd⟩:=hp (k.1,.box r.1) (by simp);simp only[if_true]at e1;obtain⟨c1,c2⟩:=a1 β D fun p hpo=>⟨(hp p (q108 _ hpo)).1.trans (e2 p hpo),(hp p (q108 _ hpo)).2⟩;refine⟨fun p hpo=>?_,.ptr k.1 0 b hd e1⟩;rcases q78.1 hpo with rfl|hpo;·exact⟨b,us,ty,e1,h1,h2.trans n2.symm,fun i c u hc hu=>⟨h4 i u hu,c2 i c u hc (by simpa using hu)⟩⟩
     ·exact c1 p hpo
    ·dsimp only at hb';rcases q78.1 hp with rfl|hpo;·simp only[if_true,cI,qr]at hb';simp[hb']
     ·rw[e2 p hpo]at hb';exact q108 _ (a2 p hpo b' hb')
    ·dsimp only at hpb hqb;rcases q78.1 hp with rfl|hpo<;>rcases q78.1 hq with rfl|hqo;·rfl
     ·simp only[if_true,cI,qr]at hpb;rw[e2 q hqo]at hqb;exact absurd (a2 q hqo b' hqb) (hpb▸hb.1)
     ·simp only[if_true,cI,qr]at hqb;rw[e2 p hpo]at hpb;exact absurd (a2 p hpo b' hpb) (hqb▸hb.1)
     ·rw[e2 p hpo]at hpb;rw[e2 q hqo]at hqb;exact a3 p hpo q hqo b' hpb hqb
  ·rename_i cs;obtain⟨r,hr,rfl⟩:=q900.1 h;obtain⟨p2,n2,l2⟩:=qU (sD hS n top) cs s r hr;refine⟨p2,fun v bs hv hb hs=>?_⟩;obtain⟨us,bss,rfl,rfl,hts⟩:=(lists v cs bs).1 hv;exact(l2 us bss hts hb hs).imp (fun b hb=>hb) fun β D hc=>.agg r.1 us (hts.1.trans n2.symm) hc
  ·rename_i cs;obtain⟨r,hr,rfl⟩:=q900.1 h;obtain⟨p2,n2,l2⟩:=qU (sD hS n top) cs s r hr;refine⟨p2,fun v bs hv hb hs=>?_⟩;obtain⟨us,bss,rfl,rfl,hts⟩:=(lists v cs bs).2 hv;exact(l2 us bss hts hb hs).imp (fun b hb=>hb) fun β D hc=>.aN r.1 us (hts.1.trans n2.symm) hc
  ·cases h;exact⟨.refl _,fun v bs hv _ _=>nw.none _ (leaf (hv.xO (.inl ⟨_,rfl⟩)))⟩
  ·cases h;exact⟨.refl _,fun v bs hv _ _=>nw.none _ (leaf (hv.xO (.inr (.inl ⟨_,rfl⟩))))⟩
  ·split at h;·cases h;exact⟨.refl _,fun v bs hv _ _=>nw.none _ (leaf (hv.xO (.inr (.inr ⟨_,_,rfl⟩))))⟩
   ·cases h
  ·cases h
end
section
variable{P:Program}{S S':Nat->Prop}{w w':World}{β β':Nat->Value}{D D':Nat->Prop}{aa objs':Nat->Option AO}
def HT.mono (hS:∀b,S b->S' b) {v:Value}{y:AV} (h:HT P S w v y bs):HT P S' w v y bs:=by have hS2:∀b,S b->S' b/\w.heap[b]?=w.heap[b]?:=fun b hb=>⟨hS b hb,rfl⟩;induction h with|leaf v y h=>exact .leaf v y (h.mono hS2 fun _ hf=>hf.elim)|fr v e rows inf us h1 h2 h3 h4=>exact .fr v e rows inf us h1 h2 h3 fun i j r p a b=>by obtain⟨u,c,d,e⟩:=h4 i j r p a b;exact⟨u,c,d,e.mono hS2⟩|mf b us c es h1 hst h2 h3=>exact .mf b us c es h1 hst h2 fun i e u a b=>⟨(h3 i e u a b).1,(h3 i e u a b).2.1,(h3 i e u a b).2.2.1,(h3 i e u a b).2.2.2.mono hS2⟩|bx b us ty cs bss h1 h2 h3 h4 h5 ih=>exact .bx b us ty cs bss h1 h2 h3 h4 ih|agg us cs bss h1 h2 h3 ih=>exact .agg us cs bss h1 h2 ih|aN us cs bss h1 h2 h3 ih=>exact .aN us cs bss h1 h2 ih
def tw:∀(n:Nat) {v:Value}{y:AV},jf n y->RV P S w (fun _=>undef) (fun _=>False) v y->RV P S' w (fun _=>undef) (fun _=>False) v y
 |0,_,_,h,_=>h.elim|n+1,v,y,h,hv=>by
  unfold jf at h;split at h;·cases hv
  ·cases hv
  ·cases hv
  ·obtain⟨us,rfl,hl,hc⟩:=hv.dg;exact .agg _ us hl fun i c u a b=>tw n (h c (List.mem_of_getElem? a)) (hc i c u a b)
  ·obtain⟨us,rfl,hl,hc⟩:=hv.jt;exact .aN _ us hl fun i c u a b=>tw n (h c (List.mem_of_getElem? a)) (hc i c u a b)
  ·exact .pv _ _ (gw hv.bL h)
  ·obtain⟨us,rfl,hl,_⟩:=hv.oo;exact .bI _ [] us hl fun i c u hc=>by simp at hc
  ·exact h.elim
def HT.flat:∀(n:Nat) {v:Value}{y:AV}{bs:List Nat},jf n y->HT P S w v y bs->HT P S' w v y bs|0,_,_,_,h,_=>h.elim|n+1,v,y,bs,hf,h=>by cases h with|leaf v y h=>exact .leaf v y (tw (n+1) hf h)|fr v e rows inf us h1 h2 h3 h4=>exact .fr v e rows inf us h1 h2 h3 fun i j r p a b=>by obtain⟨u,c,d,e⟩:=h4 i j r p a b;exact⟨u,c,d,gw e (hf r (List.mem_of_getElem? a) p (List.mem_of_getElem? b))⟩|mf b us c es h1 hst h2 h3=>exact .mf b us c es h1 hst h2 fun i e u a b=>⟨(h3 i e u a b).1,(h3 i e u a b).2.1,(h3 i e u a b).2.2.1,gw (h3 i e u a b).2.2.2 (hf e (List.mem_of_getElem? a))⟩|bx b us ty cs bss h1 h2 h3 h4 h5=>exact .bx b us ty cs bss h1 h2 h3 h4 fun i c u bs a b d=>HT.flat n (hf c (List.mem_of_getElem? a)) (h5 i c u bs a b d)|agg us cs bss h1 h2 h3=>exact .agg us cs bss h1 h2 fun i c u bs a b d=>HT.flat n (hf c (List.mem_of_getElem? a)) (h3 i c u bs a b d)|aN us cs bss h1 h2 h3=>exact .aN us cs bss h1 h2 fun i c u bs a b d=>HT.flat n (hf c (List.mem_of_getElem? a)) (h3 i c u bs a b d)
def wH:∀(n:Nat) {x:AV}{r:AV×List Nat},rd n aa x=some r->(∀t∈r.2,aE aa t)/\∀l,r.1≠.aN l
 |0,_,_,h=>by cases h|n+1,x,r,h=>by
  have lst:∀{l:List AV}{q:List AV×List Nat},LM (rd n aa) l=some q->∀t∈q.2,aE aa t:=by intro l;induction l with|nil=>intro q h;cases h;intro t ht;simp at ht|cons c l ih=>
   intro q h t ht;obtain⟨r,hr,h⟩:=qB.1 h;obtain⟨q',hq,rfl⟩:=q900.1 h;rcases q75.1 ht with ht|ht;·exact(wH n hr).1 t ht
   ·exact ih hq t ht
  unfold rd at h;split at h
  ·rename_i t;obtain⟨y,hy,rfl⟩:=q900.1 h;unfold Vp at hy;split at hy;·rename_i ho;cases hy;exact⟨fun s hs=>by simp only[q73]at hs;rw[hs];exact⟨_,ho⟩,fun l e=>by cases e⟩
   ·rename_i ho;cases hy;exact⟨fun s hs=>by simp only[q73]at hs;rw[hs];exact⟨_,ho⟩,fun l e=>by cases e⟩
   ·cases hy
  ·obtain⟨cs,hc,h⟩:=qB.1 h;obtain⟨q,hq,rfl⟩:=q900.1 h;refine⟨fun s hs=>?_,fun l e=>by cases e⟩;rcases q78.1 hs with rfl|hs;·exact⟨_,gK hc⟩
   ·exact lst hq s hs
  ·obtain⟨q,hq,rfl⟩:=q900.1 h;exact⟨lst hq,fun l e=>by cases e⟩
  ·cases h;exact⟨fun t ht=>by simp at ht,fun l e=>by cases e⟩
  ·cases h;exact⟨fun t ht=>by simp at ht,fun l e=>by cases e⟩
  ·cases h;exact⟨fun t ht=>by simp at ht,fun l e=>by cases e⟩
  ·cases h
def Tf {x y:AV} (h:qD aa x=some y):∀l,y≠.aN l:=by
 intro l e;subst e;have h1:∀x,gj aa x≠some (.aN l):=by
  intro x h;unfold gj at h;split at h;·obtain⟨_,_,h⟩:=qB.1 h;obtain⟨_,_,h⟩:=q900.1 h;cases h
  ·cases h
  ·obtain⟨_,_,h⟩:=q900.1 h;cases h
  ·cases h
  ·obtain⟨_,_,h⟩:=q900.1 h;cases h
 unfold qD at h;split at h;·obtain⟨_,_,h⟩:=q900.1 h;cases h
 ·exact h1 _ h
def KA {y:AV} (h:∀l,y≠.aN l):LY y=false/\MW y=y:=by cases y<;>first|exact⟨rfl,rfl⟩|exact absurd rfl (h _)
def KI (hh:Heap P S w β aa) (hS:∀b,S b->S' b) {T:List Nat} (hh':Heap P S w β objs') (hw:∀{v x},RV P S w β (aE aa) v x->RV P S w β (aE objs') v (gg T x)):∀{ks:List Nat}{xs ys:List AV}{vals:List Value},Im aa objs' T ks xs=some ys->vals.length=xs.length->(∀(i:Nat) (v:Value) (x:AV),vals[i]?=some v->xs[i]?=some x->RV P S w β (aE aa) v x)->(gn T ks xs=true\/∀t b,aE objs' t->cI (β t)=some b->S' b)->∃bss,IQ P S' w vals (ys.map MW) bss/\bss.flatten=dJ β (gy aa ks xs)/\(∀t∈gy aa ks xs,aE aa t)/\(eW ys vals).length=(fC ks xs).length/\∀(i:Nat) (c:AV) (u:Value),(fC ks xs)[i]?=some c->(eW ys vals)[i]?=some u->RV P S w β (aE aa) u c
 |[],[],ys,vals,h,hl,_,_=>by cases h;cases vals with|nil=>exact⟨[],⟨rfl,rfl,fun i y v bs h=>by simp at h⟩,rfl,fun t ht=>by simp[gy]at ht,rfl,fun i c u hc=>by simp[fC]at hc⟩|cons v vs=>simp at hl
 |[],_::_,_,_,h,_,_,_=>by cases h|_::_,[],_,_,h,_,_,_=>by cases h|k::ks,x::xs,ys,vals,h,hl,hv,hp=>by obtain⟨y,hy,h⟩:=qB.1 h;obtain⟨ys,hys,rfl⟩:=q900.1 h;match vals,hl with
  |v::vals,hl=>
   have hp':(k !=0||eL (gg T x))=true/\gn T ks xs=true\/∀t b,aE objs' t->cI (β t)=some b->S' b:=by
    rcases hp with h|h;·left;simpa[gn]using h
    ·exact .inr h
   obtain⟨bss,⟨l1,l2,hts⟩,hfl,hdm,hln,hlv⟩:=KI hh hS hh' hw hys (by simpa using hl) (fun i v x a b=>hv (i+1) v x (by simpa using a) (by simpa using b)) (hp'.imp And.right id);have hvx:=hv 0 v x rfl rfl;have one:∃bs,HT P S' w v (MW y) bs/\bs=dJ β (if k=0 then[] else((rd 5 aa x).map (·.2)).getD [])/\(∀t∈(if k=0 then[] else((rd 5 aa x).map (·.2)).getD []),aE aa t)/\(LY y=true↔1<k):=by
    by_cases h0:k=0;·subst h0;simp only[if_true]at hy |-;obtain⟨e1,e2⟩:=KA (Tf hy);refine⟨[],.leaf _ _ ?_,rfl,fun t ht=>by simp at ht,by rw[e1];simp⟩;rw[e2];exact sr hh' hS (hw hvx) hy (hp'.imp (fun h=>by simpa using h.1) id)
    ·simp only[if_neg h0]at hy |-;by_cases h1:k=1;·subst h1;simp only[if_true]at hy;obtain⟨r,hr,rfl⟩:=q900.1 hy;obtain⟨e1,e2⟩:=KA (wH 5 hr).2;obtain⟨m1,m2⟩:=GU (P:=P) 5 hr;refine⟨_,nj hh hS 5 (y:=MW r.1) (by rw[e2];exact m1) hvx,by rw[hr,m2];rfl,fun t ht=>(wH 5 hr).1 t (by simpa[hr]using ht),by rw[e1];simp⟩
     ·simp only[if_neg h1]at hy;obtain⟨r,hr,rfl⟩:=q900.1 hy;obtain⟨m1,m2⟩:=GU (P:=P) 5 hr;refine⟨_,nj hh hS 5 (y:=MW (.aN [r.1])) m1 hvx,by rw[hr,m2];rfl,fun t ht=>(wH 5 hr).1 t (by simpa[hr]using ht),by simp only[LY,true_iff];omega⟩
   obtain⟨bs,hbt,rfl,hbd,hk⟩:=one;refine⟨_::bss,⟨by simpa using l1,by simpa using l2,fun i y' v' bs' a b c=>?_⟩,by rw[q269,hfl];exact(gx β _ _).symm,fun t ht=>?_,?_,fun i c u=>?_⟩;·cases i with|zero=>simp only[q74,q72,qr]at a b c;rw[<-a,<-b,<-c];exact hbt|succ i=>exact hts i y' v' bs' (by simpa using a) (by simpa using b) (by simpa using c)
   ·rcases q75.1 ht with ht|ht;·exact hbd t ht
    ·exact hdm t ht
   ·by_cases hc:1<k;·simp only[eW,hk.2 hc,fC,hc,if_true,q70,hln]
    ·have:LY y=false:=by cases he:LY y with|false=>rfl|true=>exact absurd (hk.1 he) hc
     simp only[eW,this,fC,hc,if_false,hln,q140]
   ·by_cases hc:1<k;·simp only[eW,hk.2 hc,fC,hc,if_true];intro a b;cases i with|zero=>simp only[q72,qr]at a b;rw[<-a,<-b];exact hvx|succ i=>exact hlv i c u (by simpa using a) (by simpa using b)
    ·have:LY y=false:=by cases he:LY y with|false=>rfl|true=>exact absurd (hk.1 he) hc
     simp only[eW,this,fC,hc,if_false,q140];exact hlv i c u
def Gq {D':Nat->Prop}{u:Value}{c:AV} (h:RV P S w β D u c) (h':RV P S' w' β' D' u c):∀t∈uB c,β' t=β t/\D' t:=by
 intro t ht;unfold uB at ht;split at ht;·simp only[q73]at ht;subst ht;exact⟨h'.bo.1.symm.trans h.bo.1,h'.bo.2⟩
 ·simp only[q73]at ht;subst ht;obtain⟨b,e1,_,hb⟩:=h.gM;obtain⟨b',e2,hd,hb'⟩:=h'.gM;rw[hb,hb',<-e1,<-e2];exact⟨rfl,hd⟩
 ·simp at ht
def Nm {D':Nat->Prop}{u:Value}{c:AV} (h:RV P S w β D u c) (h':RV P S' w' β' D' u c):∀t∈uK c,β' t=β t/\D' t:=by
 by_cases hx:∃cs,c=.agg cs
 ·obtain⟨cs,rfl⟩:=hx;intro t ht;obtain⟨c,hc,ht⟩:=q179.1 ht;obtain⟨us,rfl,hl,hcs⟩:=h.dg;obtain⟨us',e,hl',hcs'⟩:=h'.dg;have:us=us':=by simpa using e
  subst this;obtain⟨i,hi⟩:=q116 hc;have hlt:i<us.length:=by rw[hl];exact(q63.1 hi).1
  exact Gq (hcs i c _ hi (q62 hlt)) (hcs' i c _ hi (q62 hlt)) t ht
 ·have:uK c=uB c:=by cases c<;>first|rfl|exact absurd ⟨_,rfl⟩ hx
  rw[this];exact Gq h h'
def IQ.snoc {vs:List Value}{v:Value}{y:AV}{bss:List (List Nat)} (h:IQ P S w (vs++[v]) (ys++[y]) bss) (hl:vs.length=ys.length):∃b1 bl,bss=b1++[bl]/\IQ P S w vs ys b1/\HT P S w v y bl:=by
 obtain⟨h1,h2,h3⟩:=h;have hl2:bss.length=ys.length+1:=by simpa using h2
 have hne:bss≠[]:=by intro e;rw[e]at hl2;simp at hl2
 obtain⟨b1,bl,rfl⟩:∃b1 bl,bss=b1++[bl]:=⟨bss.dropLast,bss.getLast hne,(List.dropLast_concat_getLast hne).symm⟩;have hb1:b1.length=ys.length:=by simpa using hl2
 refine⟨b1,bl,rfl,⟨hl,hb1,fun i y' v' bs a b c=>?_⟩,h3 ys.length y v bl (by simp) (by rw[<-hl];simp) (by rw[<-hb1];simp)⟩;have k1:=(q63.1 a).1;exact h3 i y' v' bs (by rw[q86 k1];exact a) (by rw[q86 (by omega)];exact b) (by rw[q86 (by omega)];exact c)
end
def zI {aa:Nat->Option AO}:∀(ks:List Nat) (xs:List AV) (t:Nat),t∈gy aa ks xs->aE aa t
 |[],_,_,ht=>by simp[gy]at ht|_::_,[],_,ht=>by simp[gy]at ht|k::ks,x::xs,t,ht=>by
  rcases q75.1 ht with ht|ht
  ·by_cases h0:k=0;·simp[h0]at ht
   ·rw[if_neg h0]at ht;cases hr:rd 5 aa x with|none=>rw[hr]at ht;simp at ht|some r=>rw[hr]at ht;exact(wH 5 hr).1 t (by simpa using ht)
  ·exact zI ks xs t ht
def lR:∀{os:List (Nat×AO)}{t:Nat}{o:AO},ab os t=some o->(t,o)∈os
 |[],_,_,h=>by cases h|(s,o')::os,t,o,h=>by
  simp only[ab]at h;split at h;·rename_i e;cases h;rw[e];exact q122
  ·exact q108 _ (lR h)
def oG:∀{os:List (Nat×AO)}{p:Nat×AO},p∈os->∃o,ab os p.1=some o
 |[],_,h=>by simp at h|(s,o')::os,p,h=>by
  simp only[ab];split;·exact⟨o',rfl⟩
  ·rename_i hne;rcases q78.1 h with rfl|h;·exact absurd rfl hne
   ·exact oG h
section
variable{P:Program}{S0 L:Nat->Prop}{B0:Nat->Value}{w0 w:World}{N:Nat}{st:St}{a:Act}{β:Nat->Value}
def J9 {T:List Nat} (hL:T≠[]->∀b,L b->S0 b) (h:Rel P S0 L B0 w0 N st a w β) {d:Nat} (hd9:d%1000≠999) {x:AV}{Q W:List Nat} (hl:vals.length=xs.length) (hv:∀(i:Nat) (v:Value) (x:AV),vals[i]?=some v->xs[i]?=some x->RV P (bn S0 w0.heap.size β st.aa w) w β (aE st.aa) v x) (hT:T=gy st.aa ks xs) (hQ:Q=(fC ks xs).flatMap uK) (hW:W=T.filter fun t=>!Q.contains t) (hTn:T.Nodup) (hQT:∀t∈Q,t∈T) (hQn:(Q++rI d T W).Nodup) (hys:Im st.aa (fS T T st.aa) T ks xs=some ys) (hcon:Fe P f ys x) (hpf:gn T ks xs=true\/∀y∈mW x++[mr x],jf 5 y) {o:List AV×List (Nat×AO)×List Nat×List Nat} (ho:pS (num 5 true) (mW x) (Q,rI d T W)=some o) (ho1:o.1=fC ks xs) {r:AV×List (Nat×AO)×List Nat×List Nat} (hr:num 5 false (mr x) o.2.2=some r) (hfree:∀p∈o.2.1++r.2.1,T.contains p.1=true\/st.aa p.1=none):Calls P f vals.toArray w fun e w'=>∃v β',e=.returned v/\Rel P S0 L B0 w0 N ⟨ji W st.vars,bK (o.2.1++r.2.1) (fS T W st.aa)⟩ a w' β'/\RV P (bn S0 w0.heap.size β' (bK (o.2.1++r.2.1) (fS T W st.aa)) w') w' β' (aE (bK (o.2.1++r.2.1) (fS T W st.aa))) v r.1:=by classical
 let S:=bn S0 w0.heap.size β st.aa w;have hTd:∀t∈T,aE st.aa t:=by intro t ht;rw[hT]at ht;exact zI _ _ t ht
 have hTlive:∀b∈dJ β T,live β st.aa b/\b<w.heap.size:=by intro b hb;obtain⟨t,ht,hb⟩:=q164.1 hb;obtain⟨o,ho⟩:=hTd t ht;exact⟨⟨t,o,ho,hb⟩,h.lt ⟨o,ho⟩ hb⟩
 have hTinj:∀t b,aE st.aa t->t∉T->cI (β t)=some b->b∉dJ β T:=by intro t b ht hn hb hm;obtain⟨s,hs,hb'⟩:=q164.1 hm;exact hn (h.heap.inj t s b ht (hTd s hs) hb hb'▸hs)
 have hTnd:(dJ β T).Nodup:=by
  have:∀l:List Nat,l.Nodup->(∀t∈l,aE st.aa t)->(dJ β l).Nodup:=by intro l;induction l with|nil=>intro _ _;exact q302|cons t l ih=>
   intro hn hd;rw[q191]at hn;have e:dJ β (t::l)=(cI (β t)).toList++dJ β l:=by rw[<-lu];exact gx β [t] l
   rw[e];cases hb:cI (β t) with|none=>exact ih hn.2 fun t ht=>hd t (q108 _ ht)|some b=>show(b::dJ β l).Nodup;rw[q191];refine⟨fun hm=>?_,ih hn.2 fun t ht=>hd t (q108 _ ht)⟩;obtain⟨s,hs,hb'⟩:=q164.1 hm;exact hn.1 (h.heap.inj t s b (hd t q122) (hd s (q108 _ hs)) hb hb'▸hs)
  exact this T hTn hTd
 have hcT:∀t,T.contains t=true↔t∈T:=fun t=>by simp
 have hdom':∀t,aE (fS T T st.aa) t↔(t∉T/\aE st.aa t):=by
  intro t;simp only[aE,fS];constructor
  ·rintro⟨o,ho⟩;split at ho;·cases ho
   ·rename_i hc;obtain⟨o',ho',_⟩:=q900.1 ho;exact⟨fun hm=>hc ((hcT t).2 hm),o',ho'⟩
  ·rintro⟨hn,o,ho⟩;exact⟨ku T o,by rw[if_neg (fun hc=>hn ((hcT t).1 hc)),ho];rfl⟩
 have hDw:∀s,aE st.aa s->T.contains s=false->aE (fS T T st.aa) s/\β s=β s:=fun s hs hc=>⟨(hdom' s).2 ⟨fun hm=>absurd ((hcT s).2 hm) (by rw[hc];exact q261),hs⟩,rfl⟩;have hwp:∀{v x},RV P S w β (aE st.aa) v x->RV P S w β (aE (fS T T st.aa)) v (gg T x):=fun hx=>hx.gg (fun b hb=>⟨hb,rfl⟩) hDw;have hh':Heap P S w β (fS T T st.aa):=by
  refine⟨fun t o ht=>?_,fun t t' b ht ht'=>h.heap.inj t t' b ((hdom' t).1 ht).2 ((hdom' t').1 ht').2⟩;simp only[fS]at ht;split at ht;·cases ht
  ·obtain⟨o',ho',rfl⟩:=q900.1 ht;exact(h.heap.holds t o' ho').gg (fun b hb=>⟨hb,rfl⟩) hDw rfl (fun _ _=>rfl)
 obtain⟨S1,hS1,hS1b,hcase⟩:∃S1:Nat->Prop,(∀b,S b->S1 b)/\(∀b,S1 b->b<w.heap.size/\b∉dJ β T)/\((gn T ks xs=true/\S1=S)\/((∀y∈mW x++[mr x],jf 5 y)/\∀b,b<w.heap.size->b∉dJ β T->S1 b)):=by
  have hSb:∀b,S b->b<w.heap.size/\b∉dJ β T:=fun b hb=>⟨hb.2.1,fun hm=>hb.2.2 (hTlive b hm).1⟩;rcases hpf with hp|hp;·exact⟨S,fun b hb=>hb,hSb,.inl ⟨hp,rfl⟩⟩
  ·exact⟨fun b=>b<w.heap.size/\b∉dJ β T,hSb,fun b hb=>hb,.inr ⟨hp,fun b h1 h2=>⟨h1,h2⟩⟩⟩
 obtain⟨bss,hts,hbs,_,hln,hlv⟩:=KI h.heap hS1 hh' hwp hys hl hv (hcase.imp And.left fun hc t b ht hb=>hc.2 b (h.lt ((hdom' t).1 ht).2 hb) (hTinj t b ((hdom' t).1 ht).2 ((hdom' t).1 ht).1 hb));rw[<-hT]at hbs;refine(hcon w S1 vals bss (fun b hb=>by rw[hbs];exact hS1b b hb) (by rw[hbs];exact hTnd) hts).mono ?_;rw[hbs];rintro e w' ⟨v,bss',rfl,hfr,hnd,hloc,hres⟩;let S3:Nat->Prop:=fun b=>(S0 b\/w0.heap.size<=b)/\b<w'.heap.size/\b∉bss'.flatten/\¬∃t,aE st.aa t/\t∉T/\cI (β t)=some b;have hTold:∀b∈dJ β T,S0 b\/w0.heap.size<=b:=by intro b hb;obtain⟨t,ht,hb⟩:=q164.1 hb;exact(h.old t b (hTd t ht) hb).elim .inr fun hl=>.inl (hL (fun e=>by rw[e]at ht;cases ht) b hl)
 have hres3:IQ P S3 w' (eW ys vals++[v]) (mW x++[mr x]) bss':=by
  refine⟨hres.1,hres.2.1,fun i y u bs a1 a2 a3=>?_⟩;have hx:=hres.2.2 i y u bs a1 a2 a3;rcases hcase with⟨_,hSe⟩|⟨hfl,_⟩
  ·refine hx.mono ?_;rw[hSe];rintro b ⟨h1,h2,h3⟩;refine⟨?_,h2,h3,?_⟩
   ·rcases h1 with h1|h1|h1;·exact h1.1
    ·exact hTold b h1
    ·exact .inr (q113 h.cu.size h1)
   ·rintro⟨t,ht,hn,hb⟩;rcases h1 with h1|h1|h1;·obtain⟨o,ho⟩:=ht;exact h1.2.2 ⟨t,o,ho,hb⟩
    ·exact hTinj t b ht hn hb h1
    ·have:=h.lt ht hb;omega
  ·exact hx.flat 5 (hfl y (List.mem_of_getElem? a1))
 obtain⟨p1,n1,l1⟩:=qU (P:=P) (S:=S3) (S':=S3) (w:=w') (sD (fun b hb=>hb) 5 true) (mW x) _ o ho;obtain⟨p2,l2⟩:=sD (P:=P) (S:=S3) (S':=S3) (w:=w') (fun b hb=>hb) 5 false _ _ r hr;have hlen:(eW ys vals).length=(mW x).length:=by rw[hln,<-ho1,n1]
 obtain⟨b1,bl,rfl,ht1,ht2⟩:=hres3.snoc hlen;rw[q256,q178]at hnd;have ebl:[bl].flatten=bl:=by simp
 rw[ebl]at hnd;have hsn:=p1.nodup_iff.2 hQn;rw[q178]at hsn;have k1:=l1 (eW ys vals) b1 ht1 hnd.1 hQn;have k2:=l2 v bl ht2 hnd.2.1 hsn.2.1;have hsub2:∀p∈r.2.1,p.1∈o.2.2.1++o.2.2.2:=fun p hp=>p2.mem_iff.1 (q104 _ (q159 hp));obtain⟨βn,c1,c2,c3⟩:=k1.append k2 (fun b hb hb'=>hnd.2.2 b hb b hb' rfl) fun p hp q hq e=>hsn.2.2 _ (q159 hp) _ (hsub2 q hq) e;have ebs:(b1++[bl]).flatten=b1.flatten++bl:=by rw[q256,ebl]
 rw[ebs]at hloc;have htag:∀p∈o.2.1++r.2.1,p.1∈Q++rI d T W:=by
  intro p hp;rcases q75.1 hp with hp|hp;·exact p1.mem_iff.1 (q104 _ (q159 hp))
  ·exact p1.mem_iff.1 (q180 _ (hsub2 p hp))
 generalize hos:o.2.1++r.2.1=os at*;let β2:Nat->Value:=fun t=>if∃p∈os,p.1=t then βn t else β t;let objs2:Nat->Option AO:=bK os (fS T W st.aa);have hβn:∀p∈os,β2 p.1=βn p.1:=fun p hp=>if_pos ⟨p,hp,rfl⟩;have hβo:∀t,(∀p∈os,p.1≠t)->β2 t=β t:=fun t ht=>if_neg fun⟨p,hp,e⟩=>ht p hp e;have hobj:∀t o',objs2 t=some o'->((t,o')∈os)\/((∀p∈os,p.1≠t)/\t∉T/\∃o0,st.aa t=some o0/\o'=ku W o0):=by intro t o' ho';simp only[objs2,bK]at ho';cases hlk:ab os t with|some o1=>rw[hlk]at ho';cases ho';exact .inl (lR hlk)|none=>
  rw[hlk]at ho';simp only[fS]at ho';split at ho';·cases ho'
  ·rename_i hc;obtain⟨o0,h0,rfl⟩:=q900.1 ho';refine .inr ⟨fun p hp e=>?_,fun hm=>hc ((hcT t).2 hm),o0,h0,rfl⟩;obtain⟨o1,h1⟩:=oG hp;rw[e,hlk]at h1;cases h1
 have hdn:∀p∈os,aE objs2 p.1:=fun p hp=>by obtain⟨o1,h1⟩:=oG hp;exact⟨o1,by simp only[objs2,bK,h1]⟩
 have hdo:∀t,aE st.aa t->t∉T->aE objs2 t/\β2 t=β t:=by
  rintro t ⟨o0,h0⟩ hn;have hne:∀p∈os,p.1≠t:=fun p hp e=>by
   rcases hfree p hp with hc|hc;·exact hn (e▸(hcT _).1 hc)
   ·rw[e,h0]at hc;cases hc
  refine⟨?_,hβo t hne⟩;cases hlk:ab os t with|some o1=>exact absurd rfl (hne (t,o1) (lR hlk))|none=>exact⟨ku W o0,by simp only[objs2,bK,hlk,fS];rw[if_neg (fun hc=>hn ((hcT t).1 hc)),h0];rfl⟩
 have hlaid:=c1 β2 (aE objs2) fun p hp=>⟨hβn p hp,hdn p hp⟩;have hpin:∀t∈Q,β2 t=β t/\aE objs2 t:=by
  intro t ht;rw[hQ]at ht;obtain⟨c,hc,ht⟩:=q179.1 ht;obtain⟨i,hi⟩:=q116 hc;have hlt:i<(eW ys vals).length:=by rw[hln];exact(q63.1 hi).1
  have hu:=q62 hlt;exact Nm (hlv i c _ hi hu) (hlaid.2.1 i c _ (by rw[ho1];exact hi) hu) t ht
 have hD:∀s,aE st.aa s->W.contains s=false->aE objs2 s/\β2 s=β s:=by
  intro s hs hc;by_cases hm:s∈T
  ·have:s∈Q:=by
    by_cases hq:s∈Q;·exact hq
    ·have:s∈W:=by rw[hW];exact q94.2 ⟨hm,by simpa using hq⟩
     rw[q303.2 this]at hc;cases hc
   exact⟨(hpin s this).2,(hpin s this).1⟩
  ·exact hdo s hs hm
 have hnewb:∀p∈os,∀b,cI (β2 p.1)=some b->b∈b1.flatten++bl:=fun p hp b hb=>by rw[hβn p hp]at hb;exact c2 p hp b hb
 have hlive2:∀b,live β2 objs2 b->b∈b1.flatten++bl\/∃t,aE st.aa t/\t∉T/\cI (β t)=some b:=by
  rintro b ⟨t,o',ho',hb⟩;rcases hobj t o' ho' with hm|⟨h1,h2,o0,h3,_⟩;·exact .inl (hnewb _ hm b hb)
  ·rw[hβo t h1]at hb;exact .inr ⟨t,⟨o0,h3⟩,h2,hb⟩
 have hsame:∀b,b<w.heap.size->b∉dJ β T->w'.heap[b]?=w.heap[b]?:=fun b h1 h2=>hfr.block b h1 h2;have hm:∀b,S b->bn S0 w0.heap.size β2 objs2 w' b/\w'.heap[b]?=w.heap[b]?:=by
  rintro b ⟨h1,h2,h3⟩;have hnT:b∉dJ β T:=fun hm=>h3 (hTlive b hm).1;refine⟨⟨h1,q97 h2 hfr.size,fun hl=>?_⟩,hsame b h2 hnT⟩;rcases hlive2 b hl with hb|⟨t,⟨o0,h0⟩,_,hb⟩
  ·rcases hloc b hb with h4|h4;·omega
   ·exact hnT h4
  ·exact h3 ⟨t,o0,h0,hb⟩
 have hm3:∀b,S3 b->bn S0 w0.heap.size β2 objs2 w' b/\w'.heap[b]?=w'.heap[b]?:=by
  rintro b ⟨h1,h2,h3,h4⟩;refine⟨⟨h1,h2,fun hl=>?_⟩,rfl⟩;rcases hlive2 b hl with hb|hb;·exact h3 (by rw[ebs];exact hb)
  ·exact h4 hb
 have hrel:Rel P S0 L B0 w0 N ⟨ji W st.vars,objs2⟩ a w' β2:=by
  refine⟨h.size,h.defers,fun s=>(h.vars s).gg hm hD,⟨fun t o' ho'=>?_,fun t t' b ht ht' hb hb'=>?_⟩,fun t b ht hb=>?_,h.uL,fun t h9 ht=>?_,?_⟩
  ·rcases hobj t o' ho' with hmem|⟨h1,h2,o0,h3,rfl⟩;·exact(hlaid.1 (t,o') hmem).mono hm3 (fun _ hd=>⟨hd,rfl⟩) rfl (fun _ _=>rfl)
   ·exact(h.heap.holds t o0 h3).gg hm hD (hβo t h1) fun b hb=>hsame b (h.lt ⟨o0,h3⟩ hb) (hTinj t b ⟨o0,h3⟩ h2 hb)
  ·obtain⟨o1,ho1'⟩:=ht;obtain⟨o2,ho2'⟩:=ht';rcases hobj t o1 ho1' with hm1|⟨g1,g2,o0,g3,_⟩<;>rcases hobj t' o2 ho2' with hm2|⟨g1',g2',o0',g3',_⟩;·rw[hβn _ hm1]at hb;rw[hβn _ hm2]at hb';exact c3 _ hm1 _ hm2 b hb hb'
   ·rw[hβo t' g1']at hb';rcases hloc b (hnewb _ hm1 b hb) with h4|h4;·have:=h.lt ⟨o0',g3'⟩ hb';omega
    ·exact absurd h4 (hTinj t' b ⟨o0',g3'⟩ g2' hb')
   ·rw[hβo t g1]at hb;rcases hloc b (hnewb _ hm2 b hb') with h4|h4;·have:=h.lt ⟨o0,g3⟩ hb;omega
    ·exact absurd h4 (hTinj t b ⟨o0,g3⟩ g2 hb)
   ·rw[hβo t g1]at hb;rw[hβo t' g1']at hb';exact h.heap.inj t t' b ⟨o0,g3⟩ ⟨o0',g3'⟩ hb hb'
  ·obtain⟨o1,ho1'⟩:=ht;rcases hobj t o1 ho1' with hm1|⟨g1,g2,o0,g3,_⟩
   ·rcases hloc b (hnewb _ hm1 b hb) with h4|h4;·exact .inl (q113 h.cu.size h4)
    ·obtain⟨s,hs,hb'⟩:=q164.1 h4;exact h.old s b (hTd s hs) hb'
   ·rw[hβo t g1]at hb;exact h.old t b ⟨o0,g3⟩ hb
  ·obtain⟨o1,ho1'⟩:=ht;rcases hobj t o1 ho1' with hm1|⟨g1,g2,o0,g3,_⟩
   ·have hq:t∈Q:=by
     rcases q75.1 (htag _ hm1) with hq|hq;·exact hq
     ·exfalso;unfold rI at hq;rcases q75.1 hq with hq|hq;·have:=(q94.1 hq).2;simp only[bne_iff_ne,ne_eq]at this;exact this h9
      ·have:=(q94.1 hq).1;simp only[q78,q102,or_false]at this;omega
    rw[(hpin t hq).1];exact h.Ar t h9 (hTd t (hQT t hq))
   ·rw[hβo t g1];exact h.Ar t h9 ⟨o0,g3⟩
  ·exact⟨hfr.os.trans h.cu.os,hfr.tape.trans h.cu.tape,hfr.output.trans h.cu.output,q113 h.cu.size hfr.size,fun b h1 h2=>(hsame b (by have:=h.cu.size;omega) fun hm=>by
    rcases q164.1 hm with⟨s,hs,hb'⟩;rcases h.old s b (hTd s hs) hb' with h3|h3;·omega
    ·exact h2 h3).trans (h.cu.block b h1 h2)⟩
 exact⟨v,β2,rfl,hrel,hlaid.2.2.mono hm3 fun _ hd=>⟨hd,rfl⟩⟩
def C5:∀{xs ys:List AV},gB st.aa xs=some ys->Im st.aa st.aa [] (xs.map fun _=>0) xs=some ys|[],_,h=>h|x::xs,ys,h=>by obtain⟨y,hy,h⟩:=qB.1 h;obtain⟨l,hl,rfl⟩:=q900.1 h;show(qD st.aa x).bind _=_;rw[hy];show((Im st.aa st.aa [] (xs.map fun _=>0) xs).map _)=_;rw[C5 hl];rfl
def xl:∀xs:List AV,gy st.aa (xs.map fun _=>0) xs=[]|[]=>rfl|x::xs=>by show[]++gy st.aa (xs.map fun _=>0) xs=[];rw[xl xs];rfl
def qu:∀xs:List AV,fC (xs.map fun _=>0) xs=[]|[]=>rfl|x::xs=>by show fC (xs.map fun _=>0) xs=[];exact qu xs
def uw:∀xs:List AV,gn [] (xs.map fun _=>0) xs=fB xs|[]=>rfl|x::xs=>by show((0 !=0||eL x)&&gn [] (xs.map fun _=>0) xs)=_;rw[uw xs];rfl
def zO (f:Nat->Option AO):fS [] [] f=f:=by funext t;show(f t).map (ku [])=f t;cases f t<;>rfl
def tO (d:Nat):(lz d).Nodup:=by simp[lz,q191]
def DP (h:mA r):Jf r=false:=by
 by_cases hx:∃cs,r=.agg cs;·obtain⟨cs,rfl⟩:=hx;have h:qG cs:=h;show cs.any _=false;induction cs with|nil=>rfl|cons c cs ih=>rw[q243,ih h.2 h.2,Bool.or_false];have:=h.1;cases c<;>first|rfl|exact this.elim
 ·have h:pM r:=by rw[<-CH r fun cs e=>hx ⟨cs,e⟩];exact h
  cases r<;>first|rfl|exact h.elim
def Gf (h:flat r):rQ r=false:=by
 by_cases hx:∃vs,r=.aN vs;·obtain⟨vs,rfl⟩:=hx;have h:tD vs:=h;show vs.any Jf=false;induction vs with|nil=>rfl|cons c cs ih=>rw[q243,ih h.2 h.2,Bool.or_false];exact DP h.1
 ·have h:mA r:=by rw[<-Gd r fun cs e=>hx ⟨cs,e⟩];exact h
  have:rQ r=Jf r:=by cases r<;>first|rfl|exact absurd ⟨_,rfl⟩ hx
  rw[this];exact DP h
def wD (h:rQ r=false) (d:Nat):ly d r=aU d r:=by unfold ly;rw[h];rfl
def wJ (h:rQ r=false) (d:Nat):CO d r=dn (mX d) r:=by unfold CO;rw[h];rfl
def xL (h:rQ r=false) (d:Nat):BX d r=dv r:=by unfold BX;rw[h];rfl
def tC (h:rQ r=false):tN r=flat r:=by unfold tN;rw[h];rfl
def oi {f:AV->List Nat×List Nat->Option (AV×List (Nat×AO)×List Nat×List Nat)} (hf:∀y s q,f y s=some q->(q.2.1.map (·.1)++(q.2.2.1++q.2.2.2)).Perm (s.1++s.2)):∀(ys:List AV) (s:List Nat×List Nat) (q:List AV×List (Nat×AO)×List Nat×List Nat),pS f ys s=some q->(q.2.1.map (·.1)++(q.2.2.1++q.2.2.2)).Perm (s.1++s.2)|[],s,q,h=>by cases h;exact .refl _|y::ys,s,q,h=>by obtain⟨r,hr,h⟩:=qB.1 h;obtain⟨q',hq,rfl⟩:=q900.1 h;rw[q162,q77];exact((oi hf ys r.2.2 q' hq).append_left _).trans (hf y s r hr)
def rE:∀(n:Nat) (top:Bool) (y:AV) (s:List Nat×List Nat) (q:AV×List (Nat×AO)×List Nat×List Nat),num n top y s=some q->(q.2.1.map (·.1)++(q.2.2.1++q.2.2.2)).Perm (s.1++s.2)
 |0,_,_,_,_,h=>by cases h|n+1,top,y,s,q,h=>by
  unfold num at h;split at h;·obtain⟨k,hk,rfl⟩:=q900.1 h;exact oQ hk
  ·obtain⟨k,hk,rfl⟩:=q900.1 h;exact oQ hk
  ·obtain⟨k,hk,h⟩:=qB.1 h;obtain⟨r,hr,rfl⟩:=q900.1 h;exact((oi (rE n false) _ k.2 r hr).cons k.1).trans (oQ hk)
  ·obtain⟨r,hr,rfl⟩:=q900.1 h;exact oi (rE n top) _ s r hr
  ·obtain⟨r,hr,rfl⟩:=q900.1 h;exact oi (rE n top) _ s r hr
  ·cases h;exact .refl _
  ·cases h;exact .refl _
  ·split at h;·cases h;exact .refl _
   ·cases h
  ·cases h
def zd (d:Nat) (r:AV):∀x∈ly d r,∃p,x.1=d+1000*p:=by
 intro x hx;unfold ly at hx;split at hx;·cases hn:num 5 false r ([],lz d) with|none=>rw[hn]at hx;simp at hx|some q=>
  rw[hn]at hx;have hp:=rE 5 false r _ q hn;have hm:x.1∈lz d:=by simpa using hp.mem_iff.1 (q104 _ (q159 (by simpa using hx)))
  simp only[lz,q78,q102,or_false]at hm;rcases hm with h|h|h|h|h|h|h|h;·exact⟨0,h⟩
  ·exact⟨1,h⟩
  ·exact⟨2,h⟩
  ·exact⟨3,h⟩
  ·exact⟨4,h⟩
  ·exact⟨5,h⟩
  ·exact⟨6,h⟩
  ·exact⟨7,h⟩
 ·unfold aU at hx;obtain⟨y,_,rfl⟩:=q83.1 hx;exact⟨y.1,rfl⟩
def nt (h:Rel P S0 L B0 w0 N st a w β) {d:Nat} (hd9:d%1000≠999)  (hl:vals.length=xs.length) (hv:∀(i:Nat) (v:Value) (x:AV),vals[i]?=some v->xs[i]?=some x->RV P (bn S0 w0.heap.size β st.aa w) w β (aE st.aa) v x) (hre:gB st.aa xs=some ys) (hcon:Su P f ys r) (hpf:fB xs=true\/tN r) (hfree:∀x∈ly d r,st.aa x.1=none) (hres:BX d r=true):Calls P f vals.toArray w fun e w'=>∃v β',e=.returned v/\Rel P S0 L B0 w0 N ⟨st.vars,bK (ly d r) st.aa⟩ a w' β'/\RV P (bn S0 w0.heap.size β' (bK (ly d r) st.aa) w') w' β' (aE (bK (ly d r) st.aa)) v (CO d r):=by unfold ly at hfree |-;unfold CO;unfold BX at hres;unfold tN at hpf;cases ht:rQ r with|false=>simp only[ht,q140,if_false]at hfree hres hpf |-;exact D7 h hd9 hl hv hre (hcon.2 ht) hpf hfree hres|true=>simp only[ht,if_true]at hfree hres hpf |-;obtain⟨q,hq⟩:=q124.1 hres;rw[hq]at hfree |-;simp only[q121,q101]at hfree |-;have:=J9 (T:=[]) (Q:=[]) (W:=[]) (fun e=>absurd rfl e) h hd9 (ks:=xs.map fun _=>0) hl hv (xl xs).symm (by rw[qu];rfl) rfl q302 (fun t ht=>by cases ht) (tO d) (by rw[zO];exact C5 hre) (hcon.1 ht) (by rw[uw];exact hpf.imp id fun hf y hy=>by simp only[mW,mr,q153,q73]at hy;rw[hy];exact hf) (o:=([],[],([],lz d))) rfl (qu xs).symm hq (fun p hp=>.inr (hfree p hp));rw[zO]at this;exact this
end
def xF {k k':IntKind} (h:pq k=pq k'):k=k':=by cases k<;>cases k'<;>first|rfl|(simp[pq]at h)
def ux:∀{a c b d:List PV},a.length=c.length->kb (a++b) (c++d)=(kb a c&&kb b d)|[],[],b,d,_=>by simp[kb]|x::a,y::c,b,d,h=>by simp only[q137,kb];rw[ux (by simpa using h),Bool.and_assoc]|[],_::_,_,_,h=>by simp at h|_::_,[],_,_,h=>by simp at h
section
variable{P:Program}
def LJ (P:Program) (t:TypeId) (us:List Value):Value:=match P.underlying t with|some (.struct _)|some (.array _ _)=>.agg us.toArray|_=>us.headD undef
def F5 (w:World) {t:TypeId}{A us rest:List Value} (ht:(P.underlying t).isSome=true) (hn:c7 P t=some n) (hl:us.length=n) (h1:(∃fs,P.underlying t=some (.struct fs))\/(us≠[]/\∀k e,P.underlying t≠some (.array k e))):(part t (A++us++rest).toArray A.length).run P w=.ok (LJ P t us) w:=by
 obtain⟨d,hd⟩:=q124.1 ht;obtain⟨i,hi,hsz⟩:∃i,P.info? t=some i/\i.size=n:=by unfold c7 at hn;obtain⟨i,hi,rfl⟩:=q900.1 hn;exact⟨i,hi,rfl⟩
 have hs:(Go.sizeOf t).run P w=.ok n w:=by simp[Go.sizeOf,typeInfo,hi,hsz]
 have hagg:(∃fs,d=.struct fs)->(part t (A++us++rest).toArray A.length).run P w=.ok (.agg us.toArray) w:=by
  rintro⟨fs,rfl⟩;have he:(A++us++rest).toArray.extract A.length (A.length+n)=us.toArray:=by apply q117;simp only[List.extract_toArray,q273];rw[q77,q106,q237,<-hl,q138]
  simp only[part,isAgg,q186,run_underlying hd,hs,q160,q198,if_true,he]
 unfold LJ;rw[hd];rcases h1 with⟨fs,h1⟩|⟨h1,h2⟩;·rw[hd]at h1;cases h1;exact hagg ⟨fs,rfl⟩
 ·match us,h1 with
  |u::l,_=>
   have h4:(A++(u::l)++rest).toArray[A.length]?=some u:=by simp
   cases d with|struct fs=>exact hagg ⟨fs,rfl⟩|array k e=>exact absurd hd (h2 k e)|_=>simp[part,isAgg,run_underlying hd,Result.andThen]
def yM (h:dP p=0):∃b,p=.bool b:=by cases p<;>simp[dP]at h;exact⟨_,rfl⟩
def DS (h:dP p=1):∃l,p=.str l:=by cases p with|str l=>exact⟨l,rfl⟩|int k n=>simp only[dP]at h;omega|_=>simp[dP]at h
def CQ {k:IntKind} (h:dP p=2+pq k):∃n,p=.int k n:=by
 have:pq k<=7:=by cases k<;>decide
 cases p with|int k' n=>simp only[dP]at h;have:=xF (show pq k'=pq k by omega);subst this;exact⟨n,rfl⟩|bool b=>simp only[dP]at h;omega|str b=>simp only[dP]at h;omega|_=>simp only[dP]at h;omega
def Kd (a b:List UInt8):((⟨a.toArray⟩:ByteArray).toList==(⟨b.toArray⟩:ByteArray).toList)=decide (a=b):=by
 rw[ByteArray.toList_eq,ByteArray.toList_eq];by_cases h:a=b;·subst h;simp
 ·simp[h]
def EK:∀(n:Nat) (t:TypeId) (ks:List Nat),kL P n t=some ks->(P.underlying t).isSome=true/\((∃fs,P.underlying t=some (.struct fs))\/(ks≠[]/\∀k e,P.underlying t≠some (.array k e)))
 |0,t,ks,h=>by cases h|n+1,t,ks,h=>by
  unfold kL at h;split at h;·rename_i hu;cases h;rw[hu];exact⟨rfl,.inr ⟨by simp,fun k e h=>by cases h⟩⟩
  ·rename_i hu;cases h;rw[hu];exact⟨rfl,.inr ⟨by simp,fun k e h=>by cases h⟩⟩
  ·rename_i hu;cases h;rw[hu];exact⟨rfl,.inr ⟨by simp,fun k e h=>by cases h⟩⟩
  ·rename_i fs hu;rw[hu];exact⟨rfl,.inl ⟨fs,rfl⟩⟩
  ·cases h
def Ac {f:TypeId->Option (List Nat)}{d:Nat} (hl:∀t ks,f t=some ks->(P.underlying t).isSome=true/\((∃fs,P.underlying t=some (.struct fs))\/(ks≠[]/\∀k e,P.underlying t≠some (.array k e)))) (hf:∀t ks,f t=some ks->∀(w:World) (ps qs:List PV),ps.map dP=ks->qs.map dP=ks->(Op.equalIn d t (LJ P t (ps.map ct)) (LJ P t (qs.map ct))).run P w=.ok (kb ps qs) w) (w:World):∀(fs:List Field) (off:Nat) (ks:List Nat) (A B:List Value) (ps qs:List PV),oJ P f off fs=some ks->A.length=off->B.length=off->ps.map dP=ks->qs.map dP=ks->(Op.eqFields d (A++ps.map ct).toArray (B++qs.map ct).toArray fs).run P w=.ok (kb ps qs) w
 |[],off,ks,A,B,ps,qs,h,hA,hB,hp,hq=>by cases h;have:ps=[]:=q203.1 hp;have:qs=[]:=q203.1 hq;subst_vars;simp[Op.eqFields,kb]|fl::fs,off,ks,A,B,ps,qs,h,hA,hB,hp,hq=>by
  unfold oJ at h;split at h
  ·rename_i hc;obtain⟨hn,ho⟩:=hc;obtain⟨a,ha,h⟩:=qB.1 h;split at h
   ·rename_i hs;obtain⟨r,hr,rfl⟩:=q900.1 h;have key:∀l:List PV,l.map dP=a++r->∃l1 l2,l=l1++l2/\l1.map dP=a/\l2.map dP=r:=by intro l h;obtain⟨l1,l2,rfl,h1,h2⟩:=List.map_eq_append_iff.1 h;exact⟨l1,l2,rfl,h1,h2⟩
    obtain⟨p1,p2,rfl,hp1,hp2⟩:=key ps hp;obtain⟨q1,q2,rfl,hq1,hq2⟩:=key qs hq;have l1:p1.length=a.length:=by rw[<-hp1];simp
    have l2:q1.length=a.length:=by rw[<-hq1];simp
    obtain⟨g1,g2⟩:=hl _ _ ha;have e1:((fl.offset:Nat))=A.length:=by rw[hA,ho]
    have e2:A.length=B.length:=by rw[hA,hB]
    have hpa:=F5 (P:=P) (t:=fl.type) (n:=a.length) (A:=A) (us:=p1.map ct) (rest:=p2.map ct) w g1 hs (by simpa using l1) (g2.imp id fun h=>⟨by intro h0;apply h.1;rw[<-hp1,q203.1 h0];rfl,h.2⟩);have hqa:=F5 (P:=P) (t:=fl.type) (n:=a.length) (A:=B) (us:=q1.map ct) (rest:=q2.map ct) w g1 hs (by simpa using l2) (g2.imp id fun h=>⟨by intro h0;apply h.1;rw[<-hq1,q203.1 h0];rfl,h.2⟩);have ih:=Ac hl hf w fs (off+a.length) r (A++p1.map ct) (B++q1.map ct) p2 q2 hr (by simp[hA,l1]) (by simp[hB,l2]) hp2 hq2;rw[q162,q162,<-q77,<-q77,ux (by rw[l1,l2])];unfold Op.eqFields;rw[if_pos hn,e1];simp only[q186,hpa,q160];rw[e2];simp only[hqa,q160,hf _ _ ha w p1 q1 hp1 hq1];cases h1:kb p1 q1 with|true=>simp only[q305,q140,if_false,q265];exact ih|false=>simp
   ·cases h
  ·cases h
def Dj (hst:∀t,t<P.types.size/\Hh P t=false->P.stoodInHeld t=false):∀(n:Nat) (t:TypeId) (ks:List Nat),kL P n t=some ks->∀(d:Nat),n<=d->∀(w:World) (ps qs:List PV),ps.map dP=ks->qs.map dP=ks->(Op.equalIn d t (LJ P t (ps.map ct)) (LJ P t (qs.map ct))).run P w=.ok (kb ps qs) w
 |0,t,ks,h=>by cases h|n+1,t,ks,h=>by
  intro d hd w ps qs hp hq;obtain⟨d,rfl⟩:∃e,d=e+1:=⟨d-1,by omega⟩;have one:∀k,ks=[k]->∃p q,ps=[p]/\qs=[q]/\dP p=k/\dP q=k:=by rintro k rfl;rcases ps with _|⟨p,_|⟨p',ps⟩⟩<;>simp at hp;rcases qs with _|⟨q,_|⟨q',qs⟩⟩<;>simp at hq;exact⟨p,q,rfl,rfl,hp,hq⟩
  unfold kL at h;split at h;·rename_i hu;injection h with h;obtain⟨p,q,rfl,rfl,h1,h2⟩:=one _ h.symm;obtain⟨b,rfl⟩:=yM h1;obtain⟨c,rfl⟩:=yM h2;simp only[LJ,hu,q74,q119,q292,ct];rw[run_equalIn_bool' w d t b c hu];cases b<;>cases c<;>rfl
  ·rename_i hu;injection h with h;obtain⟨p,q,rfl,rfl,h1,h2⟩:=one _ h.symm;obtain⟨b,rfl⟩:=DS h1;obtain⟨c,rfl⟩:=DS h2;simp only[LJ,hu,q74,q119,q292,ct];rw[run_equalIn_string w d t _ _ hu,Kd];simp[kb,oH]
  ·rename_i k hu;injection h with h;obtain⟨p,q,rfl,rfl,h1,h2⟩:=one _ h.symm;obtain⟨b,rfl⟩:=CQ h1;obtain⟨c,rfl⟩:=CQ h2;simp only[LJ,hu,q74,q119,q292,ct];rw[run_equalIn_int w d t k k b c hu];simp only[kb,oH,Bool.and_true];rfl
  ·rename_i fs hu;split at h
   ·rename_i ht;have hfo:P.fieldsOf t=fs:=by simp[Program.fieldsOf,hu]
    simp only[LJ,hu];rw[run_equalIn_struct w d t _ _ (by rw[hfo];exact hu) (hst t ht),hfo];have:=Ac (P:=P) (f:=kL P n) (d:=d) (fun t ks h=>EK n t ks h) (fun t ks h w ps qs=>Dj hst n t ks h d (by omega) w ps qs) w fs.toList 0 ks [] [] ps qs h rfl rfl hp hq;simpa using this
   ·cases h
  ·cases h
end
section
variable{P:Program}{S:Nat->Prop}{w:World}{β:Nat->Value}{aa:Nat->Option AO}{a:Act}{o:Oper}{x y:Operand}
def sE:∀{cs:List AV}{ps:List PV},fR cs=some ps->cs=ps.map .pv|[],ps,h=>by cases h;rfl|c::cs,ps,h=>by simp only[fR,qB,q900]at h;obtain⟨p,hp,l,hl,rfl⟩:=h;rw[sE hl];cases c<;>simp[H9]at hp;subst hp;rfl
def vT {D:Nat->Prop}{ps:List PV} (hks:∀k∈ks,k<99) (hs:ps.map dP=ks) (hl:us.length=(ps.map AV.pv).length) (hr:∀(i:Nat) (c:AV) (u:Value),(ps.map AV.pv)[i]?=some c->us[i]?=some u->RV P S w β D u c):us=ps.map ct:=by
 subst hs;have hl':us.length=ps.length:=by simpa using hl
 apply q213;intro i;cases hu:us[i]? with|none=>have:us.length<=i:=q194.1 hu;rw[q134 (by simp;omega)]|some u=>have hi:i<us.length:=(q63.1 hu).1;obtain⟨p,hp⟩:∃p,ps[i]?=some p:=⟨ps[i],q62 (by omega)⟩;have h3:=(hr i (.pv p) u (by simp[hp]) hu).bL;have h4:=hks (dP p) (by simp only[q83];exact⟨_,List.mem_of_getElem? hp,rfl⟩);rw[q79,hp];simp only[q121,qr];cases h3 with|int q n=>rfl|bool b=>rfl|str l=>rfl|_=>simp only[dP]at h4;omega
def rf {f:TypeId->Option (List Nat)}{d:Nat} (hf:∀t ks,f t=some ks->P.eqGuardType d t=false):∀(fs:List Field) (off:Nat) (ks:List Nat),oJ P f off fs=some ks->∀fl∈fs,P.eqGuardType d fl.type=false
 |[],_,_,_,fl,hm=>by cases hm|f1::fs,off,ks,h,fl,hm=>by
  unfold oJ at h;split at h
  ·obtain⟨a,ha,h⟩:=qB.1 h;split at h
   ·obtain⟨r,hr,rfl⟩:=q900.1 h;rcases q78.1 hm with rfl|hm;·exact hf _ _ ha
    ·exact rf hf fs _ _ hr fl hm
   ·cases h
  ·cases h
def guard_of:∀(n:Nat) (t:TypeId) (ks:List Nat),kL P n t=some ks->∀d,n<=d->P.eqGuardType d t=false
 |0,t,ks,h=>by cases h|n+1,t,ks,h=>by
  intro d hd;obtain⟨d,rfl⟩:∃e,d=e+1:=⟨d-1,by omega⟩;unfold kL at h;unfold Program.eqGuardType;split at h;·rename_i hu;rw[hu]
  ·rename_i hu;rw[hu]
  ·rename_i hu;rw[hu]
  ·rename_i fs hu;split at h;·simp only[hu,<-Array.any_toList,q146];intro fl hfl;simp[rf (fun t ks h=>guard_of n t ks h d (by omega)) _ _ _ h fl hfl]
   ·cases h
  ·cases h
def On (hst:∀t,t<P.types.size/\Hh P t=false->P.stoodInHeld t=false) {ne:Bool}{t yt:TypeId}{fs:Array Field} (ho:o.op=.binOp (if ne=true then .neq else .eql) t x y yt) (hu:P.underlying t=some (.struct fs)) (hk:kL P 8 t=some ks) (hks:ks.all (·<99)=true) {X Y:AV} (hX:RV P S w β (aE aa) (a.eval x) X) (hY:RV P S w β (aE aa) (a.eval y) Y) {φ:Prop}{v:AV} (h:al (.eqs ne ks) [X,Y] aa=some (φ,v)) (hφ:φ):∃r,(execOp a.eval o).run P w=.ok (.value r) w/\RV P S w β (aE aa) r v:=by
 have hg:P.eqGuardType P.depth t=false:=guard_of 8 t ks hk _ (by unfold Program.depth Made.depth;omega);have hks':∀k∈ks,k<99:=fun k hk=>by simpa using(q85.1 hks) k hk
 cases X with
 |agg xs=>cases Y with
  |agg ys=>simp only[al,qB,q900]at h;obtain⟨ps,hps,qs,hqs,he⟩:=h;cases he;cases sE hps;cases sE hqs;obtain⟨us,hxu,hul,hur⟩:=hX.dg;obtain⟨vs,hyv,hvl,hvr⟩:=hY.dg;have e1:=vT hks' hφ.1 hul hur;have e2:=vT hks' hφ.2 hvl hvr;have hrun:=Dj hst 8 t ks hk 10000 (by omega) w ps qs hφ.1 hφ.2;simp only[LJ,hu]at hrun;rw[e1]at hxu;rw[e2]at hyv;cases ne with|false=>exact⟨_,by simp[execOp,ho,hxu,hyv,run_eqGuard_agg w .eql t x y _ _ hg,run_eql_struct,hrun,Result.andThen],.pv _ _ (.bool _)⟩|true=>exact⟨_,by simp[execOp,ho,hxu,hyv,run_eqGuard_agg w .neq t x y _ _ hg,run_neq_struct,hrun,Result.andThen],.pv _ _ (.bool _)⟩
  |_=>simp[al]at h
 |_=>simp[al]at h
end
def jF {P:Program}{s:Nat} (h:mR P kt=some s):∃d,P.underlying kt=some d/\∀k,dP k=s->MapKept.IsKey d (ct k):=by
 unfold mR at h;split at h;·rename_i hu;injection h with h;subst h;refine⟨_,hu,fun k hk=>?_⟩;cases k<;>first|trivial|(simp[dP]at hk)
 ·rename_i hu;injection h with h;subst h;refine⟨_,hu,fun k hk=>?_⟩;cases k<;>first|trivial|(simp[dP]at hk;try omega)
 ·rename_i q hu;injection h with h;subst h;refine⟨_,hu,fun k hk=>?_⟩;cases k with
  |int k n=>simp only[dP]at hk;exact xF (by omega)|bool b=>simp only[dP]at hk;omega|str l=>simp only[dP]at hk;omega
  | _=>simp only[dP]at hk;have:pq q<=7:=by cases q<;>decide
       omega
 ·cases h
def rC {k k':PV}{s:Nat} (h:dP k=s) (h':dP k'=s) (hs:s<99):oH k k'=true↔ct k'=ct k:=by subst h;cases k<;>cases k'<;>simp only[dP]at h' hs<;>first|omega|(have:_:=xF (Nat.add_left_cancel h');subst this;simp[oH,ct,eq_comm])|simp[oH,ct,eq_comm]
def sQ {P:Program}{s:Nat} (h:mR P kt=some s):s<99:=by
 unfold mR at h;split at h;·injection h with h;omega
 ·injection h with h;omega
 ·rename_i q _;injection h with h;have:pq q<=7:=by cases q<;>decide
  omega
 ·cases h
def om {P:Program}{S:Nat->Prop}{w:World}{β:Nat->Value}{D:Nat->Prop}{u:Value}{s:Nat} (h:RV P S w β D u (.pv p)) (hp:dP p=s) (hs:s<99):u=ct p:=by have h:=h.bL;cases h with|int q n=>rfl|bool b=>rfl|str l=>rfl|_=>simp only[dP]at hp;omega
def jT {P:Program}{t k e:TypeId} (h:mP P t=some (k,e)):P.underlying t=some (.map k e):=by
 unfold mP at h;split at h;·rename_i hu;cases h;exact hu
 ·cases h
def lD {d:TypeDesc}{k:PV}{s:Nat} (hd:∀k,dP k=s->MapKept.IsKey d (ct k)) (hk:dP k=s) (hs:s<99):∀(us:List MapEntry) (es:List (PV×PV)) (n:Nat),iP s es->us.length=es.length->(∀(i:Nat) (e:PV×PV) (u:MapEntry),es[i]?=some e->us[i]?=some u->u.key=ct e.1)->(Instr.findNow d (ct k) us n=some none/\mS k es=none/\(∀v,nJ k v es=es++[(k,v)])/\D4 k es=es/\∀u∈us,u.key≠ct k)\/∃j e u,Instr.findNow d (ct k) us n=some (some (n+j,u.val))/\es[j]?=some e/\us[j]?=some u/\u.key=ct k/\mS k es=some e.2/\(∀v,nJ k v es=es.set j (k,v))/\D4 k es=es.eraseIdx j|[],[],_,_,_,_=>.inl ⟨rfl,rfl,fun v=>rfl,rfl,fun u hu=>by simp at hu⟩|[],_::_,_,_,hl,_=>by simp at hl|_::_,[],_,_,hl,_=>by simp at hl|u::us,e::es,n,hks,hl,hu=>by have h1:=hu 0 e u rfl rfl;have hke:=hks e (by simp);obtain⟨r,hr,hiff⟩:=q289 (hd k hk) (hd e.1 hke);rw[<-h1]at hr;cases r with|true=>have h2:ct k=ct e.1:=hiff.1 rfl;have h3:oH k e.1=true:=(rC hk hke hs).2 h2.symm;exact .inr ⟨0,e,u,by simp[Instr.findNow,hr],rfl,rfl,h1.trans h2.symm,by simp only[mS];rw[if_pos h3],fun v=>by simp only[nJ];rw[if_pos h3];rfl,by simp only[D4];rw[if_pos h3];rfl⟩|false=>
 have h3:¬oH k e.1=true:=fun h=>by have:=hiff.2 ((rC hk hke hs).1 h).symm;cases this
 have h4:u.key≠ct k:=fun h=>by have:=hiff.2 (h.symm.trans h1);cases this
 rcases lD hd hk hs us es (n+1) (fun x hx=>hks x (by simp[hx])) (by simpa using hl) (fun i x y hx hy=>hu (i+1) x y (by simpa using hx) (by simpa using hy)) with⟨g1,g2,g3,g4,g5⟩|⟨j,e',u',g1,g2,g3,g4,g5,g6,g7⟩
 ·refine .inl ⟨by simp[Instr.findNow,hr,g1],by simp only[mS];rw[if_neg h3];exact g2,fun v=>by simp only[nJ];rw[if_neg h3,g3 v];rfl,by simp only[D4];rw[if_neg h3,g4],fun x hx=>?_⟩;rcases q78.1 hx with rfl|hx;·exact h4
  ·exact g5 x hx
 ·exact .inr ⟨j+1,e',u',by simp[Instr.findNow,hr,g1];omega,by simpa using g2,by simpa using g3,g4,by simp only[mS];rw[if_neg h3];exact g5,fun v=>by simp only[nJ];rw[if_neg h3,g6 v];rfl,by simp only[D4];rw[if_neg h3,g7];rfl⟩
def Ih {P:Program}{o:Oper}{s:Nat}{ok:Bool}{xs:List Operand} (h:kO P o=(.IS s z ok,xs)):∃t m k kt et,o.op=.lookup t m k ok/\mP P t=some (kt,et)/\mR P kt=some s/\zeroV P et=some z/\xs=[m,k]:=by
 unfold kO at h;split at h
 ·rename_i r hr;subst h;unfold Co at hr;repeat' split at hr
  all_goals first|(cases hr;done)|(cases hr;exact⟨_,_,_,_,_,by assumption,by assumption,by assumption,by assumption,rfl⟩)
 ·cases hx:vz P o with|none=>rw[hx]at h;cases h|some r=>
   rw[hx]at h;have h:r=(.IS s z ok,xs):=h;subst h;unfold vz AZ at hx;repeat' split at hx
   all_goals cases hx
def Em {P:Program}{o:Oper}{xs:List Operand} (h:kO P o=(.pj e sz,xs)):∃t n ps zs,o.op=.buildSlice t n ps/\P.underlying t=some (.slice e)/\c7 P e=some sz/\eB P e=some zs/\ps.toList.map (·.1)=List.range n/\n*sz<=2^24/\zs.length=sz/\0<sz/\xs=ps.toList.map (·.2):=by
 unfold kO at h;split at h
 ·rename_i r hr;subst h;unfold Co at hr;repeat' split at hr
  all_goals cases hr
 ·cases hx:vz P o with|none=>rw[hx]at h;cases h|some r=>
   rw[hx]at h;have h:r=(.pj e sz,xs):=h;subst h;unfold vz AZ at hx;repeat' split at hx
   all_goals first|(cases hx;done)|(cases hx;rename_i hc;exact⟨_,_,_,_,by assumption,by assumption,by assumption,by assumption,hc.2.1,hc.2.2.1,hc.2.2.2.1,hc.2.2.2.2,rfl⟩)
section
variable{P:Program}{S:Nat->Prop}{w:World}{β:Nat->Value}{aa:Nat->Option AO}{a:Act}{o:Oper}
def q_gev {t:TypeId}{m k:Operand}{kt et:TypeId}{s:Nat}{ok:Bool} (ho:o.op=.lookup t m k ok) (hm:mP P t=some (kt,et)) (hsrt:mR P kt=some s) (hz:zeroV P et=some z) (hz1:z.oneCell'=true) {es:List (PV×PV)} (hX:RV P S w β (aE aa) (a.eval m) (.pv (.mv es))) (hK:RV P S w β (aE aa) (a.eval k) (.pv p)) (hp:dP p=s) (hks:iP s es):∃v,(execOp a.eval o).run P w=.ok (.value v) w/\RV P S w β (aE aa) v (Bk z ok (mS p es)):=by have h1:=hX.bL;generalize hmv:a.eval m=mv at h1;cases h1 with|mv b us c es g1 hh hst hl g5 g6=>
 have hmt:=jT hm;obtain⟨d,hdk,hkey⟩:=jF hsrt;have hs99:=sQ hsrt;have hkv:a.eval k=Ab.ct p:=om hK hp hs99;have hzr:(zeroValue et).run P w=.ok z w:=by unfold zeroV at hz;obtain⟨i,hi,hz⟩:=qB.1 hz;simp[zeroValue,typeInfo,hi,hz]
 have hfind:=lD hkey hp hs99 us.toList es 0 hks hl fun i e u h1 h2=>(g5 i e u h1 h2).1;have fin:∀(v:Value) (x:PV) (f:Bool),(Instr.lookup t (.map (some b)) (Ab.ct p) ok).run P w=.ok (if ok=true then .tuple #[v,.bool f] else v) w->dA S w v x->∃v,(execOp a.eval o).run P w=.ok (.value v) w/\RV P S w β (aE aa) v (if ok=true then .aN [.pv x,.pv (.bool f)] else .pv x):=by intro v x f hrun hv;refine⟨_,by simp only[execOp,ho,hmv,hkv];simp[hrun,Result.andThen];rfl,?_⟩;cases ok with|false=>exact .pv _ _ hv|true=>refine .aN _ [v,.bool f] rfl fun i c u h1 h2=>?_;match i with|0=>simp at h1 h2;subst h1 h2;exact .pv _ _ hv|1=>simp at h1 h2;subst h1 h2;exact .pv _ _ (.bool f)|i+2=>simp at h1
 unfold Bk;rcases hfind with⟨h1,h2,_⟩|⟨j,e,u,h1,h2,h3,h4,h5,_⟩;·rw[h2];refine fin z (si z) false ?_ (jv _ _ z hz1);simp[Instr.lookup,run_underlying hmt,q114 hh,q118 hdk (hkey p hp),q123 hdk h1,hzr,Result.andThen]
 ·rw[h5];refine fin u.val e.2 true ?_ (g6 j e u h2 h3);simp[Instr.lookup,run_underlying hmt,q114 hh,q118 hdk (hkey p hp),q123 hdk h1,Result.andThen]
end
end Go.Proofs.YtifcndkhigakfaaGreat.Ab
