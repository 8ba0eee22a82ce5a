/- The abstract machine is sound: a function's contract. -/
import Derived.Test.YtifcndkhigakfaaGreatY3
import Derived.Test.YtifcndkhigakfaaGreatY11
import Derived.Test.YtifcndkhigakfaaGreatChecked
set_option linter.unusedVariables false
set_option linter.unusedSimpArgs false
set_option linter.unnecessarySimpa false
set_option maxHeartbeats 40000000
set_option maxRecDepth 100000
set_option linter.defProp false
namespace Go.Proofs.YtifcndkhigakfaaGreat.Ab
open Go Go.RowKit
def q174:=@Nat.le_of_ble_eq_true
def q192:=@UInt8.toNat_inj
def q254:=@Nat.add_lt_add_right
def q267:=@Array.getElem?_append_left
end Go.Proofs.YtifcndkhigakfaaGreat.Ab
namespace Go.Proofs.YtifcndkhigakfaaGreat.Ab
open Go Go.RowKit
section
variable{P:Program}{S0 L:Nat->Prop}{B0:Nat->Value}{w0 w:World}{N:Nat}{st:St}{a:Act}{β:Nat->Value}
def Dk (tmps:Array Value):ResultVar->Sem Value|.tmp t=>pure (tmps.getD t undef)|.cell a t=>do loadVar t (<-asAddr (tmps.getD a undef))
def Ew (fn:Func) (tmps:Array Value):results fn tmps=(do
 let vs<-fn.results.mapM (Dk tmps)
 pure (if h:vs.size=1 then vs[0] else .tuple vs)):=by
 unfold results;have:(fun(x:ResultVar)=>match x with|.tmp t=>(pure (tmps.getD t undef):Sem Value)|.cell a t=>do loadVar t (<-asAddr (tmps.getD a undef)))=Dk tmps:=by funext x;cases x<;>rfl
 rw[<-this];rfl
def JT {n:Option Nat}{S:Nat->Prop}{D:Nat->Prop}{aa:Nat->Option AO}{v:Value}{X:AV}{r:Prop×AV} (hX:RV P S w β D v X) (h:al (.load n) [X] aa=some r):∃ad,v=.pointer (some ad):=by cases hX with|ptr t o b h hb=>exact⟨_,rfl⟩|bd t e i o b n c inf h hi hb=>exact⟨_,rfl⟩|rp ad cs us h1 h2 h3 h4=>exact⟨_,rfl⟩|_=>cases n<;>simp[al]at h
def Lb {t:TypeId}{n:Option Nat}{s:Nat}{φ:Prop}{v:AV} (h:Rel P S0 L B0 w0 N st a w β) (ht:pf P t=some n) (hs:al (.load n) [st.vars s] st.aa=some (φ,v)) (hφ:φ):∃r,(Dk a.tmps (.cell s t)).run P w=.ok r w/\RV P (bn S0 w0.heap.size β st.aa w) w β (aE st.aa) r v:=by
 obtain⟨ad,had⟩:=JT (h.vars s) hs;let o:Oper:={(default:Oper) with op:=.load t (.tmp s)};have key:∃r,(execOp a.eval o).run P w=.ok (.value r) w/\RV P (bn S0 w0.heap.size β st.aa w) w β (aE st.aa) r v:=by cases n with|none=>exact GH (o:=o) rfl ht h.heap (h.ev (.tmp s)) hs hφ|some n=>exact GJ (o:=o) rfl ht h.heap (h.ev (.tmp s)) hs hφ
 obtain⟨r,hr,hv⟩:=key;refine⟨r,?_,hv⟩;have he:a.eval (.tmp s)=.pointer (some ad):=had;have h1:(execOp a.eval o).run P w=((loadVar t ad).run P w).andThen fun r w'=>.ok (.value r) w':=by simp[execOp,o,Instr.loadAt,he,Instr.sureAddr]
 have h2:(Dk a.tmps (.cell s t)).run P w=(loadVar t ad).run P w:=by simp[Dk,had,asAddr]
 rw[h2];rw[h1]at hr;cases hl:(loadVar t ad).run P w with|ok r' w'=>rw[hl]at hr;simp only[Result.andThen,Result.ok.injEq,Next.value.injEq]at hr;rw[hr.1,hr.2]|halt x w'=>rw[hl]at hr;cases hr
def sJ:∀(l:List ResultVar) (rs:List (Nat×Option (Option Nat))) (C:List AV->Prop),jm P l=some rs->Rel P S0 L B0 w0 N st a w β->da st rs C->∃us vs,C vs/\us.length=vs.length/\(∀(i:Nat) (v:AV) (u:Value),vs[i]?=some v->us[i]?=some u->RV P (bn S0 w0.heap.size β st.aa w) w β (aE st.aa) u v)/\(l.mapM (Dk a.tmps)).run P w=.ok us w
 |[],rs,C,hr,h,hC=>by simp only[jm,qr]at hr;subst hr;exact⟨[],[],hC,rfl,fun i v u h=>by simp at h,by simp⟩|.tmp t::l,rs,C,hr,h,hC=>by
  simp only[jm,q900]at hr;obtain⟨rs',hr',rfl⟩:=hr;obtain⟨us,vs,h1,h2,h3,h4⟩:=sJ l rs' _ hr' h hC;refine⟨a.tmps.getD t undef::us,st.vars t::vs,h1,by simp[h2],fun i v u hv hu=>?_,?_⟩;·cases i with|zero=>simp only[q72,qr]at hv hu;subst hv hu;exact h.vars t|succ i=>exact h3 i v u (by simpa using hv) (by simpa using hu)
  ·simp[q301,Dk,h4]|.cell s t::l,rs,C,hr,h,hC=>by
  simp only[jm,qB,q900]at hr;obtain⟨n,hn,rs',hr',rfl⟩:=hr;obtain⟨⟨φ,x⟩,hx,hφ,hC⟩:=af (show aj (al (.load n) [st.vars s] st.aa) _ from hC);obtain⟨us,vs,h1,h2,h3,h4⟩:=sJ l rs' _ hr' h hC;obtain⟨r,hrun,hv⟩:=Lb h hn hx hφ;refine⟨r::us,x::vs,h1,by simp[h2],fun i v u hv' hu=>?_,?_⟩;·cases i with|zero=>simp only[q72,qr]at hv' hu;subst hv' hu;exact hv|succ i=>exact h3 i v u (by simpa using hv') (by simpa using hu)
  ·rw[q301];simp[hrun,h4]
def jo {fn:Func}{rs:List (Nat×Option (Option Nat))}{C:List AV->Prop} (hr:jm P fn.results.toList=some rs) (h:Rel P S0 L B0 w0 N st a w β) (hC:da st rs C):∃v vs,C vs/\(results fn a.tmps).run P w=.ok v w/\RV P (bn S0 w0.heap.size β st.aa w) w β (aE st.aa) v (bZ vs):=by
 obtain⟨us,vs,h1,h2,h3,h4⟩:=sJ _ rs C hr h hC;have hrun:(fn.results.mapM (Dk a.tmps)).run P w=.ok us.toArray w:=by rw[q274];simp[h4]
 have hres:(results fn a.tmps).run P w=.ok (if h:us.toArray.size=1 then us.toArray[0] else .tuple us.toArray) w:=by rw[Ew];simp[hrun]
 refine⟨_,vs,h1,hres,?_⟩;rcases us with _|⟨u,_|⟨u2,us⟩⟩;·have:vs=[]:=q76 (by simpa using h2.symm);subst this;exact .aN [] [] rfl fun i c u h=>by simp at h
 ·rcases vs with _|⟨v,_|⟨v2,vs⟩⟩;·simp at h2
  ·exact h3 0 v u rfl rfl
  ·simp at h2
 ·rcases vs with _|⟨v,_|⟨v2,vs⟩⟩;·simp at h2
  ·simp at h2
  ·exact .aN (v::v2::vs) (u::u2::us) (by simpa using h2) fun i c u hc hu=>h3 i c u hc hu
end
section
variable{P:Program}{aa:Nat->Option AO}
def uM {x r:AV} (h:yj P aa x r):(∀cs,r≠.agg cs)/\(∀cs,r≠.aN cs):=by constructor<;>rintro cs rfl<;>(have h:x=_/\j5 _=true:=h;simp[j5]at h)
def xy:∀{cs rs:List AV},Bc P aa cs rs->cs.length=rs.length/\∀(k:Nat) (c:AV),rs[k]?=some c->∃x,cs[k]?=some x/\yj P aa x c
 |[],[],_=>⟨rfl,fun k c h=>by simp at h⟩|x::cs,r::rs,h=>by obtain⟨h1,h2⟩:=xy h.2;refine⟨by simp[h1],fun k c hk=>?_⟩;cases k with|zero=>simp only[q72,qr]at hk;subst hk;exact⟨x,rfl,h.1⟩|succ k=>exact h2 k c (by simpa using hk)
 |[],_::_,h=>h.elim|_::_,[],h=>h.elim
def rT:∀{cs rs:List AV},BR P aa cs rs->cs.length=rs.length/\∀(k:Nat) (c:AV),rs[k]?=some c->∃x,cs[k]?=some x/\Gm P aa x c
 |[],[],_=>⟨rfl,fun k c h=>by simp at h⟩|x::cs,r::rs,h=>by obtain⟨h1,h2⟩:=rT h.2;refine⟨by simp[h1],fun k c hk=>?_⟩;cases k with|zero=>simp only[q72,qr]at hk;subst hk;exact⟨x,rfl,h.1⟩|succ k=>exact h2 k c (by simpa using hk)
 |[],_::_,h=>h.elim|_::_,[],h=>h.elim
def td {v r:AV} (h:Gm P aa v r):(∃cs rs,v=.agg cs/\r=.agg rs/\Bc P aa cs rs)\/((∀cs,v≠.agg cs)/\yj P aa v r):=by cases v with
 |agg cs=>cases r with|agg rs=>exact .inl ⟨cs,rs,rfl,rfl,h⟩|_=>exact h.elim
 |_=>exact .inr ⟨fun cs e=>(by cases e),h⟩
def vk {v r:AV} (h:fz P aa v r):(∃cs rs,v=.aN cs/\r=.aN rs/\cs.length<=1000/\BR P aa cs rs)\/((∀cs,v≠.aN cs)/\(∀cs,r≠.aN cs)/\Gm P aa v r):=by
 have hr:∀{v:AV},(∀cs,v≠.aN cs)->Gm P aa v r->∀cs,r≠.aN cs:=by
  intro v hv h cs e;subst e;rcases td h with⟨cs',rs,_,h2,_⟩|⟨_,h2⟩;·cases h2
  ·exact(uM h2).2 _ rfl
 have hv:(∃cs,v=.aN cs)\/((∀cs,v≠.aN cs)/\fz P aa v r=Gm P aa v r):=by cases v<;>first|exact .inl ⟨_,rfl⟩|exact .inr ⟨fun cs e=>(by cases e),rfl⟩
 rcases hv with⟨cs,rfl⟩|⟨h1,h2⟩;·cases r with|aN rs=>exact .inl ⟨cs,rs,rfl,rfl,h⟩|_=>exact h.elim
 ·rw[h2]at h;exact .inr ⟨h1,hr h1 h,h⟩
def B8 {v r:AV} (h:Gm P aa v r) {j:Nat}{c:AV} (hc:bS r j=some c):∃x,bS v j=some x/\yj P aa x c:=by
 rcases td h with⟨cs,rs,rfl,rfl,h⟩|⟨h1,h2⟩;·exact(xy h).2 j c hc
 ·rw[ic r (uM h2).1]at hc;rw[ic v h1];split at hc;·rename_i hj;simp only[qr]at hc;subst hc;exact⟨v,by simp[hj],h2⟩
  ·cases hc
def GF {v r:AV} (h:fz P aa v r) {p:Nat}{c:AV} (hc:cellAt r p=some c):∃x,cellAt v p=some x/\yj P aa x c:=by
 rcases vk h with⟨cs,rs,rfl,rfl,hl,h⟩|⟨h1,h2,h3⟩;·obtain⟨y,hy,hc⟩:=qB.1 (show(rs[p%1000]?).bind _=some c from hc);obtain⟨x,hx,hf⟩:=(rT h).2 _ y hy;obtain⟨z,hz,hf⟩:=B8 hf hc;exact⟨z,by simp[cellAt,hx,hz],hf⟩
 ·rw[fq r h2]at hc;rw[fq v h1];split at hc;·rename_i hp;rw[if_pos hp];exact B8 h3 hc
  ·cases hc
def GN {v r:AV}{g:Nat->AV->AV} (h:Gm P aa v r) (hg:∀j c x,bS r j=some c->bS v j=some x->yj P aa x c->g (1000*j) c=x):v=pg g r:=by
 rcases td h with⟨cs,rs,rfl,rfl,h⟩|⟨h1,h2⟩;·obtain⟨hl,hk⟩:=xy h;refine congrArg AV.agg (q213 fun k=>?_);rw[ou,q126];cases hr:rs[k]? with|none=>rw[q194]at hr;rw[q134 (by omega)];rfl|some c=>obtain⟨x,hx,hf⟩:=hk k c hr;rw[hx];simp only[q121,qr];exact(hg k c x hr hx hf).symm
 ·have hm:pg g r=g 0 r:=by have:=(uM h2).1;cases r<;>first|rfl|exact absurd rfl (this _)
  rw[hm];refine(hg 0 r v ?_ ?_ h2).symm;·rw[ic r (uM h2).1];rfl
  ·rw[ic v h1];rfl
def Rp {v r:AV}{g:Nat->AV->AV} (h:fz P aa v r) (hg:∀p c x,cellAt r p=some c->cellAt v p=some x->yj P aa x c->g p c=x):v=dn g r:=by
 rcases vk h with⟨cs,rs,rfl,rfl,hl,h⟩|⟨h1,h2,h3⟩;·obtain⟨hl',hk⟩:=rT h;refine congrArg AV.aN (q213 fun k=>?_);rw[oh,q126];cases hr:rs[k]? with|none=>rw[q194]at hr;rw[q134 (by omega)];rfl|some c=>
  obtain⟨x,hx,hf⟩:=hk k c hr;rw[hx];simp only[q121,qr];have hk1:k<1000:=by have:=(q63.1 hx).1;omega
  refine GN hf fun j c' x' h1 h2 h3=>hg _ c' x' ?_ ?_ h3
  ·show(rs[(1000*j+k)%1000]?).bind _=_;have e1:(1000*j+k)%1000=k:=by omega
   have e2:(1000*j+k)/1000=j:=by omega
   rw[e1,e2,hr];exact h1
  ·show(cs[(1000*j+k)%1000]?).bind _=_;have e1:(1000*j+k)%1000=k:=by omega
   have e2:(1000*j+k)/1000=j:=by omega
   rw[e1,e2,hx];exact h2
 ·have hm:dn g r=pg g r:=by cases r<;>first|rfl|exact absurd rfl (h2 _)
  rw[hm];refine GN h3 fun j c x a1 a2 a3=>?_;refine hg _ c x ?_ ?_ a3;·rw[fq r h2];simp[a1]
  ·rw[fq v h1];simp[a2]
def sV (t:Nat) (c:AV):Prop:=c=.own t\/∃e lo hi,c=.sub t e lo hi
def C3:∀{cs:List AV}{n j t:Nat}{c:AV},cs[j]?=some c->sV t c->(1000*(n+j),t)∈sG n cs|[],n,j,t,c,h,_=>by simp at h|x::cs,n,j,t,c,h,hc=>by cases j with|zero=>simp only[q72,qr]at h;subst h;rcases hc with rfl|⟨e,lo,hi,rfl⟩<;>exact q122|succ j=>
 have:=C3 (n:=n+1) (j:=j) (cs:=cs) (t:=t) (by simpa using h) hc;have e:n+1+j=n+(j+1):=by omega
 rw[e]at this;cases x<;>first|exact q108 _ this|exact this
def FV {v c:AV}{j t:Nat} (h:bS v j=some c) (hc:sV t c):(1000*j,t)∈Tp v:=by cases v with
 |agg cs=>have:=C3 (n:=0) (j:=j) (cs:=cs) (t:=t) h hc;rw[q126]at this;exact this|own s=>
  simp only[bS]at h;split at h
  ·rename_i hj;simp only[qr]at h;subst hj h;rcases hc with h|⟨e,lo,hi,h⟩;·cases h;exact q122
   ·cases h
  ·cases h|sub s e lo hi=>
  simp only[bS]at h;split at h
  ·rename_i hj;simp only[qr]at h;subst hj h;rcases hc with h|⟨e,lo,hi,h⟩;·cases h
   ·cases h;exact q122
  ·cases h|_=>
  simp only[bS]at h;split at h;·simp only[qr]at h;subst h;rcases hc with h|⟨e,lo,hi,h⟩<;>cases h
  ·cases h
def CS:∀{vs:List AV}{n i j t:Nat}{c:AV},(vs[i]?).bind (fun v=>bS v j)=some c->sV t c->(1000*j+(n+i),t)∈EZ n vs|[],n,i,j,t,c,h,_=>by simp at h|v::vs,n,i,j,t,c,h,hc=>by cases i with|zero=>simp only[q72,q131]at h;exact q104 _ (q83.2 ⟨_,FV h hc,rfl⟩)|succ i=>
 have:=CS (n:=n+1) (i:=i) (j:=j) (vs:=vs) (t:=t) (by simpa using h) hc;have e:n+1+i=n+(i+1):=by omega
 rw[e]at this;exact q180 _ this
def A3 {v c:AV}{p t:Nat} (h:cellAt v p=some c) (hc:sV t c):(p,t)∈pl v:=by
 have hne:(∀cs,v≠.aN cs)->(p,t)∈pl v:=by
  intro hv;rw[fq v hv]at h;split at h
  ·have:=FV h hc;have e:1000*(p/1000)=p:=by omega
   rw[e]at this;cases v<;>first|exact this|exact absurd rfl (hv _)
  ·cases h
 cases v with|aN vs=>
  have:=CS (n:=0) (i:=p%1000) (j:=p/1000) (vs:=vs) (t:=t) h hc;have e:1000*(p/1000)+(0+p%1000)=p:=by omega
  rw[e]at this;exact this|_=>exact hne fun cs e=>by cases e
def zx:∀{l:List (Nat×Nat)},lZ l->∀{p q t:Nat},(p,t)∈l->(q,t)∈l->p=q
 |[],_,p,q,t,h1,_=>by cases h1|x::l,h,p,q,t,h1,h2=>by
  rcases q78.1 h1 with e1|h1<;>rcases q78.1 h2 with e2|h2;·have:=e1.trans e2.symm;simpa using this
  ·exact absurd (by rw[<-e1]) (h.1 _ h2)
  ·exact absurd (by rw[<-e2]) (h.1 _ h1)
  ·exact zx h.2 h1 h2
end
def qm (i:Nat):List AV->List (Nat×AV)|[]=>[]|v::vs=>(i,v)::qm (i+1) vs
def tp:∀(vs:List AV) (i s:Nat),look (qm i vs) s=if i<=s then(vs[s-i]?).getD .ak else .ak
 |[],i,s=>by simp[qm,look]|v::vs,i,s=>by
  simp only[qm,look,tp vs (i+1) s];by_cases h:s=i;·subst h;simp
  ·rw[if_neg h];by_cases h1:i<=s
   ·have h2:i+1<=s:=by omega
    have h3:s-i=(s-(i+1))+1:=by omega
    rw[if_pos h1,if_pos h2,h3];rfl
   ·rw[if_neg h1,if_neg (by omega)]
def CM {P:Program}{S:Nat->Prop}{w:World}{β:Nat->Value}{D:Nat->Prop}{v:Value}{X c:AV}{j:Nat} (h:RV P S w β D v X) (hc:bS X j=some c):∃u,RV P S w β D u c:=by cases X with
 |agg cs=>
  obtain⟨us,rfl,hl,hcs⟩:=h.dg;have hc:cs[j]?=some c:=hc;have hlt:j<us.length:=by rw[hl];exact(q63.1 hc).1
  exact⟨_,hcs j c _ hc (q62 hlt)⟩|_=>
  simp only[bS]at hc;split at hc;·simp only[qr]at hc;subst hc;exact⟨v,h⟩
  ·cases hc
def Nq {P:Program}{S:Nat->Prop}{w:World}{β:Nat->Value}{D:Nat->Prop}{v:Value}{X c:AV}{q:Nat} (h:RV P S w β D v X) (hc:cellAt X q=some c):∃u,RV P S w β D u c:=by
 by_cases hx:∃vs,X=.aN vs
 ·obtain⟨vs,rfl⟩:=hx;obtain⟨us,rfl,hl,hcs⟩:=h.jt;obtain⟨y,hy,hc⟩:=qB.1 (show(vs[q%1000]?).bind _=some c from hc);have hlt:q%1000<us.length:=by rw[hl];exact(q63.1 hy).1
  exact CM (hcs _ y _ hy (q62 hlt)) hc
 ·rw[fq X (fun vs e=>hx ⟨vs,e⟩)]at hc;split at hc;·exact CM h hc
  ·cases hc
def xf {aa:Nat->Option AO}{l:List (Nat×Nat)}:∀{hout:List (Nat×AO)},m8 aa l hout->∀t o,ab hout t=some o->aa t=some o/\∀y∈l,y.2≠t
 |[],_,t,o,h=>by cases h|(s,o')::hout,hb,t,o,h=>by
  simp only[ab]at h;split at h;·rename_i e;subst e;cases h;exact⟨hb.1,hb.2.1⟩
  ·exact xf hb.2.2 t o h
def CU {P:Program}{Γ:b7} (hΓ:eG P Γ) {f:FuncId}{bU:List Nat}{F:AFn}{hin hout:List (Nat×AO)}{args:List AV}{r:AV} (hm:LK P=true) (hc:A8 P f bU=some F) (hlen:args.length<=F.n) (hback:∀t o,ab hout t=some o->t%1000=999/\aE (ab hin) t/\dO (cellAt r t)=none/\∃e rows,o=.arr e rows) (hs:jn P Γ F.body (pK P F.res r hout) (CA (pK P F.res r hout)) ⟨look (qm 0 args),ab hin⟩) (w:World) (S0:Nat->Prop) (β:Nat->Value) (vals:List Value) (hS0:∀b,S0 b->b<w.heap.size) (hheap:Heap P (bn S0 w.heap.size β (ab hin) w) w β (ab hin)) (hvl:vals.length=args.length) (hvr:∀(i:Nat) (v:Value) (x:AV),vals[i]?=some v->args[i]?=some x->RV P (bn S0 w.heap.size β (ab hin) w) w β (aE (ab hin)) v x):Calls P f vals.toArray w fun e w'=>∃v β',e=.returned v/\DG (live β (ab hin)) w w'/\Heap P (bn (fun b=>S0 b\/live β (ab hin) b) w.heap.size β' (bF (ab hout) fun t=>dO (cellAt r t)) w') w' β' (bF (ab hout) fun t=>dO (cellAt r t))/\(∀t b,aE (bF (ab hout) fun t=>dO (cellAt r t)) t->cI (β' t)=some b->w.heap.size<=b\/live β (ab hin) b)/\(∀t,aE (ab hout) t->aE (ab hin) t/\β' t=β t)/\RV P (bn (fun b=>S0 b\/live β (ab hin) b) w.heap.size β' (bF (ab hout) fun t=>dO (cellAt r t)) w') w' β' (aE (bF (ab hout) fun t=>dO (cellAt r t))) v (dn LD r):=by
 unfold A8 at hc;split at hc
 ·rename_i fn hfn;split at hc
  ·rename_i c rs hb hrs;obtain⟨b,hcomp,hc⟩:=qB.1 hc;split at hc;case isFalse=>cases hc
   rename_i hN;simp only[qr]at hc;subst hc;simp only at hs hlen;refine calls_of_wp hfn hb ?_;let S1:Nat->Prop:=fun b=>S0 b\/live β (ab hin) b;have hS1:∀b,bn S0 w.heap.size β (ab hin) w b->bn S1 w.heap.size β (ab hin) w b/\w.heap[b]?=w.heap[b]?:=fun b ⟨h1,h2,h3⟩=>⟨⟨h1.imp .inl id,h2,h3⟩,rfl⟩;have hfram:DG (live β (ab hin)) w w:=⟨rfl,rfl,rfl,q92 _,fun _ _ _=>rfl⟩;have hrel:Rel P S1 (live β (ab hin)) β w fn.ntmps ⟨look (qm 0 args),ab hin⟩ {tmps:=vals.toArray++Array.replicate (fn.ntmps-vals.toArray.size) undef,defers:=[]} w β:=by
    refine⟨by simp;omega,rfl,fun s=>?_,⟨fun t o ho=>(hheap.holds t o ho).mono hS1 (fun s hs=>⟨hs,rfl⟩) rfl (fun b _=>rfl),hheap.inj⟩,fun t b ht hb=>.inr ?_,⟨hN,PU hm⟩,fun t _ _=>rfl,hfram⟩;·show RV P _ w β _ _ (look (qm 0 args) s);rw[tp];simp only[q95,if_true,q282];cases ha:args[s]? with|none=>exact .ak _|some x=>
     have hs1:=(q63.1 ha).1;have hs2:s<vals.length:=by omega
     have hv:vals[s]?=some vals[s]:=q62 hs2;have hget:(vals.toArray++Array.replicate (fn.ntmps-vals.toArray.size) undef).getD s undef=vals[s]:=by rw[q129,q267 (by simpa using hs2)];simp[hs2]
     rw[hget];exact(hvr s _ x hv ha).mono hS1 fun s hs=>⟨hs,rfl⟩
    ·obtain⟨o,ho⟩:=ht;exact⟨t,o,ho,hb⟩
   have fin:∀st a w' β',pK P rs r hout st->Rel P S1 (live β (ab hin)) β w fn.ntmps st a w' β'->a.defers=[]/\∃v,(results fn a.tmps).run P w'=.ok v w'/\∃v0 β'',Ending.returned v=.returned v0/\DG (live β (ab hin)) w w'/\Heap P (bn S1 w.heap.size β'' (bF (ab hout) fun t=>dO (cellAt r t)) w') w' β'' (bF (ab hout) fun t=>dO (cellAt r t))/\(∀t b,aE (bF (ab hout) fun t=>dO (cellAt r t)) t->cI (β'' t)=some b->w.heap.size<=b\/live β (ab hin) b)/\(∀t,aE (ab hout) t->aE (ab hin) t/\β'' t=β t)/\RV P (bn S1 w.heap.size β'' (bF (ab hout) fun t=>dO (cellAt r t)) w') w' β'' (aE (bF (ab hout) fun t=>dO (cellAt r t))) v0 (dn LD r):=by
    intro st0 a w' β' hF0 hR0;obtain⟨_,vs0,hF,_,_⟩:=jo hrs hR0 hF0;have hR:=hR0.cP (fun b hb=>.inr hb) (oW (bZ vs0) r);change qb P rs r hout (cP _ st0) at hF;generalize cP (oW (bZ vs0) r) st0=st at hF hR;obtain⟨v,vs,⟨hfz,hap,hbk⟩,hrun,hv⟩:=jo hrs hR hF;refine⟨hR.defers,v,hrun,v,?_⟩;generalize bZ vs=X at hfz hap hv hbk;have hbg:=xf hbk;let F:Nat->Option AO:=bF (ab hout) fun t=>dO (cellAt r t);let β2:Nat->Value:=fun q=>match ab hout q with|some _=>β' q|none=>match cellAt X q with|some (.own t)=>β' t|some (.sub t _ _ hi)=>(match β' t with|.slice A _ c=>.slice A hi c|v=>v)|_=>.slice none 0 0;have hFq:∀q o,F q=some o->ab hout q=some o\/(ab hout q=none/\dO (cellAt r q)=some o):=by intro q o ho;simp only[F,bF]at ho;cases hl:ab hout q with|some o'=>rw[hl]at ho;exact .inl ho|none=>rw[hl]at ho;exact .inr ⟨rfl,ho⟩
    have hβb:∀q o,ab hout q=some o->β2 q=β' q:=fun q o h=>by simp only[β2,h]
    have hfr:∀q o,ab hout q=none->dO (cellAt r q)=some o->∃e rows,cellAt r q=some (.fr e rows)/\o=.arr e rows/\((∃t c,cellAt X q=some c/\sV t c/\(∃rs,st.aa t=some (.arr e rs))/\cI (β2 q)=cI (β' t)/\bE P (bn S1 w.heap.size β' st.aa w') w' β2 (aE st.aa) q (.arr e rows)/\(∀u,RV P (bn S1 w.heap.size β' st.aa w') w' β' (aE st.aa) u c->u=β2 q))\/(cellAt X q=some (.pv .nil)/\rows=[]/\(P.info? e).isSome=true/\β2 q=.slice none 0 0)):=by
     intro q o hno ho;unfold dO at ho;split at ho
     ·rename_i e rows hcell;simp only[qr]at ho;refine⟨e,rows,hcell,ho.symm,?_⟩;obtain⟨x,hx,hf⟩:=GF hfz hcell;rcases hf with⟨t,rfl,ht⟩|⟨rfl,h1,h2⟩|⟨t,hi,rs',rfl,ht,hrr⟩
      ·have hβ2:β2 q=β' t:=by simp only[β2,hno,hx]
       refine .inl ⟨t,_,hx,.inl rfl,⟨_,ht⟩,by rw[hβ2],?_,fun u hu=>by rw[hβ2];exact hu.bo.1⟩;obtain⟨inf,us,hi,how,hrl,hcl⟩:=hR.heap.holds t _ ht;exact⟨inf,us,hi,by rw[hβ2];exact how,hrl,hcl⟩
      ·exact .inr ⟨hx,h1,h2,by simp only[β2,hno,hx]⟩
      ·obtain⟨inf,us,hinf,how,hrl,hcl⟩:=hR.heap.holds t _ ht;obtain⟨A,c,hbt,hcc⟩:=cN how;have hβ2:β2 q=.slice A hi c:=by simp only[β2,hno,hx,hbt]
       have hsub:∀u,RV P (bn S1 w.heap.size β' st.aa w') w' β' (aE st.aa) u (.sub t e 0 hi)->u=β2 q/\hi<=rs'.length:=by
        intro u hu;obtain⟨inf1,Ad,Ad1,n,c1,hdt,hi1,hb1,g1,g2,g3,g4,g5,hux⟩:=hu.iz;rw[hbt]at hb1;have h3:A=Ad/\rs'.length=n/\c=c1:=by simpa using hb1
        obtain⟨rfl,rfl,rfl⟩:=h3;rw[hβ2,hux,g4 rfl];exact⟨by simp,g2⟩
       obtain⟨u0,hu0⟩:=Nq hv hx;have hle:=(hsub u0 hu0).2;have hlen:(rs'.take hi).length=hi:=by rw[q68];omega
       refine .inl ⟨t,_,hx,.inr ⟨_,_,_,rfl⟩,⟨_,ht⟩,by rw[hβ2,hbt];cases A<;>rfl,?_,fun u hu=>(hsub u hu).1⟩;rw[hrr];refine⟨inf,us.take (hi*inf.size),hinf,?_,fun r hr=>hrl r (q96 hr),fun i j r p hr hp=>?_⟩;·rw[hlen,hβ2];exact ml how hle hbt
       ·have hi2:i<hi:=by rw[<-hlen];exact(q63.1 hr).1
        rw[q81,if_pos hi2]at hr;obtain⟨u,hu,h1,h2⟩:=hcl i j r p hr hp;have hj:j<inf.size:=by rw[<-hrl r (List.mem_of_getElem? hr)];exact(q63.1 hp).1
        have hlt:i*inf.size+j<hi*inf.size:=by have:=q82 inf.size (show i+1<=hi from hi2);rw[q120]at this;omega
        exact⟨u,by rw[q81,if_pos hlt];exact hu,h1,h2⟩
     ·cases ho
    have hlive:∀q b,aE F q->cI (β2 q)=some b->∃t,aE st.aa t/\cI (β' t)=some b/\((ab hout q≠none/\t=q)\/(ab hout q=none/\∃c,cellAt X q=some c/\sV t c)):=by
     rintro q b ⟨o,ho⟩ hb;rcases hFq q o ho with h1|⟨h0,h1⟩;·rw[hβb q o h1]at hb;exact⟨q,⟨o,(hbg q o h1).1⟩,hb,.inl ⟨by rw[h1];simp,rfl⟩⟩
     ·obtain⟨e,rows,_,_,h|h⟩:=hfr q o h0 h1;·obtain⟨t,c,h2,h3,⟨rs',h4⟩,h5,_⟩:=h;exact⟨t,⟨_,h4⟩,by rw[<-h5];exact hb,.inr ⟨h0,c,h2,h3⟩⟩
      ·rw[h.2.2.2]at hb;simp[cI]at hb
    have hS:∀b,bn S1 w.heap.size β' st.aa w' b->bn S1 w.heap.size β2 F w' b:=by rintro b ⟨h1,h2,h3⟩;refine⟨h1,h2,?_⟩;rintro⟨q,o,ho,hb⟩;obtain⟨t,⟨o',ho'⟩,hb',_⟩:=hlive q b ⟨o,ho⟩ hb;exact h3 ⟨t,o',ho',hb'⟩
    have hS':∀b,bn S1 w.heap.size β' st.aa w' b->bn S1 w.heap.size β2 F w' b/\w'.heap[b]?=w'.heap[b]?:=fun b hb=>⟨hS b hb,rfl⟩;have hcore:∀q t e rows,bE P (bn S1 w.heap.size β' st.aa w') w' t (aE st.aa) q (.arr e rows)->t q=β2 q->bE P (bn S1 w.heap.size β2 F w') w' β2 (aE F) q (.arr e rows):=by rintro q t e rows ⟨inf,us,hi,how,hrl,hcl⟩ ht;refine⟨inf,us,hi,by rw[<-ht];exact how,hrl,fun i j r p h1 h2=>?_⟩;obtain⟨u,hu,hone,hp⟩:=hcl i j r p h1 h2;exact⟨u,hu,hone,hp.mono hS'⟩
    refine⟨β2,rfl,hR.cu,⟨fun q o ho=>?_,fun q q' b hq hq' hb hb'=>?_⟩,fun q b hq hb=>?_,fun q ⟨o,ho⟩=>?_,?_⟩
    ·rcases hFq q o ho with h1|⟨h0,h1⟩;·have hho:=hR.heap.holds q o (hbg q o h1).1;cases o with|arr e rows=>exact hcore q β' e rows hho (hβb q _ h1).symm|box cs=>obtain⟨_,_,_,e,rows,he⟩:=hback q _ h1;cases he|map es=>obtain⟨_,_,_,e,rows,he⟩:=hback q _ h1;cases he|rws e cs=>obtain⟨_,_,_,e,rows,he⟩:=hback q _ h1;cases he|kk es=>obtain⟨_,_,_,e,rows,he⟩:=hback q _ h1;cases he|yJ rem cur=>obtain⟨_,_,_,e,rows,he⟩:=hback q _ h1;cases he
     ·obtain⟨e,rows,_,rfl,h|h⟩:=hfr q o h0 h1;·obtain⟨t,c,_,_,_,_,h6,_⟩:=h;exact hcore q β2 e rows h6 rfl
      ·obtain⟨_,rfl,hi,h3⟩:=h;obtain⟨inf,hi⟩:=q124.1 hi;exact⟨inf,[],hi,by rw[h3];exact q188 w' 0 e inf.size,fun r hr=>by simp at hr,fun i j r p hr=>by simp at hr⟩
    ·obtain⟨t,h2,h3,h4⟩:=hlive q b hq hb;obtain⟨t',h2',h3',h4'⟩:=hlive q' b hq' hb';have:t=t':=hR.heap.inj t t' b h2 h2' h3 h3';subst this;rcases h4 with⟨h5,rfl⟩|⟨h5,c,h6,h7⟩<;>rcases h4' with⟨h5',rfl⟩|⟨h5',c',h6',h7'⟩;·rfl
     ·cases hl:ab hout t with|none=>exact absurd hl h5|some o=>exact absurd rfl ((hbg t o hl).2 _ (A3 h6' h7'))
     ·cases hl:ab hout t with|none=>exact absurd hl h5'|some o=>exact absurd rfl ((hbg t o hl).2 _ (A3 h6 h7))
     ·exact zx hap (A3 h6 h7) (A3 h6' h7')
    ·obtain⟨t,h2,h3,_⟩:=hlive q b hq hb;exact hR.old t b h2 h3
    ·obtain⟨h9,hd,_,_⟩:=hback q o ho;exact⟨hd,(hβb q o ho).trans (hR.Ar q h9 ⟨o,(hbg q o ho).1⟩)⟩
    ·have hX:X=dn (fun p c=>match c with|.fr _ _=>(cellAt X p).getD .ak|c=>c) r:=by refine Rp hfz fun p c x hc hx hf=>?_;cases c with|fr e rows=>simp[hx]|_=>exact hf.1.symm
     have htup:qL r=true:=by
      rcases vk hfz with⟨cs,rs,_,rfl,hl,h⟩|⟨_,h2,_⟩;·simp only[qL,decide_eq_true_eq];rw[<-(rT h).1];exact hl
      ·cases r<;>first|rfl|exact absurd rfl (h2 _)
     rw[hX]at hv;refine lM htup ?_ hv;intro p c u hc hu;obtain⟨x,hx,hf⟩:=GF hfz hc;cases c with
     |fr e rows=>
      simp only[hx,q101]at hu;have hfp:dO (cellAt r p)=some (.arr e rows):=by simp[hc,dO]
      have hno:ab hout p=none:=by cases hl:ab hout p with|none=>rfl|some o=>rw[(hback p o hl).2.2.1]at hfp;cases hfp
      have hdom:aE F p:=⟨.arr e rows,by simp only[F,bF,hno];exact hfp⟩;have hgoal:u=β2 p:=by
       obtain⟨_,_,_,_,h|h⟩:=hfr p _ hno hfp;·obtain⟨t,c,h2,_,_,_,_,h7⟩:=h;rw[hx]at h2;injection h2 with h2;subst h2;exact h7 u hu
       ·obtain⟨h1,_,_,h3⟩:=h;rw[hx]at h1;injection h1 with h1;subst h1;rw[h3];exact hu.eT
      show RV P _ w' β2 _ u (.own p);rw[hgoal];exact .own p hdom|pv q=>cases hu with|pv v p h=>exact .pv _ _ (h.mono hS')
     |rp cs=>obtain⟨ad,us,rfl,h1,h2,h3,h4⟩:=RV.kH hu;exact .rp ad cs us (hS _ h1) h2 h3 (fun j p hp=>(h4 j p hp).mono hS')|_=>exact absurd hf.2 (by simp[j5])
   refine vS hΓ (S0:=S1) (L:=live β (ab hin)) (fun b hb=>.inr hb) (w0:=w) (P8 hm) bU c b hcomp (pK P rs r hout) (CA (pK P rs r hout)) _ _ _ w β ?_ ?_ ?_ hrel hs;·intro st a w' β' hF hR;exact fin st a w' β' hF hR
   ·intro st a w' β' id hj;exact hj.elim
   ·intro st a w' β' hF hR;exact fin st a w' β' hF hR
  ·cases hc
 ·cases hc
def G9 (P:Program) (rs:List (Nat×Option (Option Nat))) (r:AV):pK P rs r []=Ends P rs r:=by funext st;simp[pK,qb,Ends,zt,m8]
def aq {P:Program}{Γ:b7} (hΓ:eG P Γ) {f:FuncId}{n k:Nat}{rs:List (Nat×Option (Option Nat))}{b:AC}{args:List AV}{r:AV} (hm:LK P=true) (hc:aFn P f=some ⟨n,k,rs,b⟩) (hlen:args.length<=n) (hs:jn P Γ b (Ends P rs r) (CA (Ends P rs r)) ⟨look (qm 0 args),ab []⟩):yA P f [] args [] r:=by
 intro w S0 β vals hS0 hlt hheap hvl hvr;have hlv:(fun b=>S0 b\/live β (ab []) b)=S0:=by
  funext b;apply propext;constructor
  ·rintro(h|⟨t,o,ho,_⟩);·exact h
   ·cases ho
  ·exact .inl
 rw[<-G9]at hs;have:=CU hΓ (hin:=[]) (hout:=[]) hm hc hlen (fun t o h=>by cases h) hs w S0 β vals hS0 hheap hvl hvr;rw[hlv]at this;refine this.mono ?_;rintro e w' ⟨v,β',h1,h2,h3,h4,_,h5⟩;exact⟨v,β',h1,h2,h3,h4,h5⟩
def oL {P:Program}{Γ:b7} (hΓ:eG P Γ) {f:FuncId}{n k:Nat}{rs:List (Nat×Option (Option Nat))}{b:AC}{ys:List AV}{x:AV} (hm:LK P=true) (hc:aFn P f=some ⟨n,k,rs,b⟩) (hlen:ys.length<=n) (hres:dv (cj x)=true) (hb:∀t o,ab (eS x) t=some o->aE (ab (nb ys)) t) (hs:jn P Γ b (pK P rs (cj x) (eS x)) (CA (pK P rs (cj x) (eS x))) ⟨look (qm 0 (ys.map KJ)),ab (nb ys)⟩):EX P f ys x:=by
 intro w S0 β vals hS0 hlt hheap hvl hvr;refine CU hΓ (hin:=nb ys) (hout:=eS x) hm hc (by simpa using hlen) (fun t o h=>?_) hs w S0 β vals hS0 hheap (by simpa using hvl) hvr;have h9:t=999/\∃e rows,o=.arr e rows:=by
  unfold eS at h;split at h
  ·simp only[ab]at h;split at h;·rename_i e;cases h;exact⟨e,_,_,rfl⟩
   ·cases h
  ·cases h
 obtain⟨rfl,he⟩:=h9;exact⟨rfl,hb _ o h,sg hres,he⟩
def TE:List AV->List Nat×List Nat->Option (List AV×List (Nat×AO)×List Nat×List Nat)|[],s=>some ([],[],s)|y::ys,s=>(num 5 (LY y) (MW y) s).bind fun r=>(TE ys r.2.2).map fun q=>(r.1::q.1,r.2.1++q.2.1,q.2.2)
def Y7:List Nat×List Nat:=([999,1999,2999,3999,4999,5999],[998,1998,2998,3998,4998,5998,6998,7998,8998,9998,10998,11998])
def Ez:AV->Bool|.own _|.ptr _ 0|.pv _|.rp _|.bI _ []=>true|_=>false
def ve:AV->Bool|.agg cs=>cs.all Ez|x=>Ez x
def sN (P:Program) (rs:List (Nat×Option (Option Nat))) (L:List AV) (x:AV) (st:St):Prop:=da st rs fun vs=>mt P st.aa 6 (bZ vs) (mr x)/\zR (mt P st.aa 5) L (mW x)/\(L.flatMap (tg st.aa 5)++tg st.aa 6 (bZ vs)).Nodup
def ug (P:Program) (rs:List (Nat×Option (Option Nat))) (L:List AV) (x:AV) (st:St):Prop:=da st rs fun vs=>sN P rs L x (cP (oW (bZ vs) (mr x)) st)
section
variable{P:Program}{S S':Nat->Prop}{w w':World}{β β':Nat->Value}{aa:Nat->Option AO}
def GL (hS:∀b,S b->S' b):∀(ys:List AV) (s:List Nat×List Nat) (q:List AV×List (Nat×AO)×List Nat×List Nat),TE ys s=some q->(q.2.1.map (·.1)++(q.2.2.1++q.2.2.2)).Perm (s.1++s.2)/\q.1.length=ys.length/\∀(vs:List Value) (bss:List (List Nat)),IQ P S w vs (ys.map MW) bss->bss.flatten.Nodup->(s.1++s.2).Nodup->nw P S' w q.2.1 bss.flatten fun β D=>∀(i:Nat) (c:AV) (u:Value),q.1[i]?=some c->vs[i]?=some u->RV P S' w β D u c
 |[],s,q,h=>by cases h;exact⟨.refl _,rfl,fun vs bss _ _ _=>nw.none _ fun β D i c u hc=>by simp at hc⟩|y::ys,s,q,h=>by
  obtain⟨r,hr,h⟩:=qB.1 h;obtain⟨q',hq,rfl⟩:=q900.1 h;obtain⟨p1,l1⟩:=sD (P:=P) (S:=S) (S':=S') (w:=w) hS 5 (LY y) (MW y) s r hr;obtain⟨p2,n2,l2⟩:=GL hS ys r.2.2 q' hq;have hp:((r.2.1++q'.2.1).map (·.1)++(q'.2.2.1++q'.2.2.2)).Perm (s.1++s.2):=by rw[q162,q77];exact(p2.append_left _).trans p1
  refine⟨hp,by simp[n2],fun vs bss ⟨hl1,hl2,hg⟩ hnd hs=>?_⟩;match vs,bss,hl1,hl2 with
  |v::vs,bs::bss,hl1,hl2=>
   rw[q269,q178]at hnd;have hs1:=p1.nodup_iff.2 hs;rw[q178]at hs1;have hs2:(r.2.2.1++r.2.2.2).Nodup:=hs1.2.1;have k1:=l1 v bs (hg 0 _ v bs rfl rfl rfl) hnd.1 hs;have k2:=l2 vs bss ⟨by simpa using hl1,by simpa using hl2,fun i y v bs h1 h2 h3=>hg (i+1) y v bs (by simpa using h1) (by simpa using h2) (by simpa using h3)⟩ hnd.2.1 hs2;refine(k1.append k2 (fun b hb hb'=>hnd.2.2 b hb b hb' rfl) fun p hp q hq e=>?_).imp (fun b hb=>by simpa using hb) fun β D ⟨a1,a2⟩ i c u hc hu=>?_;·have:q.1∈r.2.2.1++r.2.2.2:=p2.mem_iff.1 (q104 _ (q159 hq));exact hs1.2.2 _ (q159 hp) _ this e
   ·cases i with|zero=>simp only[q72,qr]at hc hu;rw[<-hc,<-hu];exact a1|succ i=>exact a2 i c u (by simpa using hc) (by simpa using hu)
def pN (hinj:∀t t' b,aE aa t->aE aa t'->cI (β t)=some b->cI (β t')=some b->t=t'):∀l:List Nat,l.Nodup->(∀t∈l,aE aa t)->(dJ β l).Nodup
 |[],_,_=>q302|t::l,hn,hd=>by
  rw[q191]at hn;have e:dJ β (t::l)=(cI (β t)).toList++dJ β l:=by rw[<-lu];exact gx β [t] l
  rw[e];cases hb:cI (β t) with|none=>exact pN hinj l hn.2 fun t ht=>hd t (q108 _ ht)|some b=>show(b::dJ β l).Nodup;rw[q191];refine⟨fun hm=>?_,pN hinj l hn.2 fun t ht=>hd t (q108 _ ht)⟩;obtain⟨s,hs,hb'⟩:=q164.1 hm;exact hn.1 (hinj t s b (hd t q122) (hd s (q108 _ hs)) hb hb'▸hs)
def Bd:∀(n:Nat) {x y:AV},mt P aa n x y->∀t∈tg aa n x,aE aa t
 |0,_,_,h=>h.elim|n+1,x,y,h=>by
  have lst:∀{l cs:List AV},zR (mt P aa n) l cs->∀t∈l.flatMap (tg aa n),aE aa t:=by intro l;induction l with|nil=>intro cs _ t ht;simp at ht|cons c l ih=>intro cs hm t ht;cases cs with|nil=>exact hm.elim|cons y cs=>
   rw[q99]at ht;rcases q75.1 ht with ht|ht;·exact Bd n hm.1 t ht
   ·exact ih hm.2 t ht
  unfold mt at h;intro s hs;split at h
  ·rcases h with⟨t,rfl,ht⟩|⟨rfl,_,_⟩|⟨t,hi,rs,rfl,ht,_⟩;·simp only[tg,q73]at hs;rw[hs];exact⟨_,ht⟩
   ·simp[tg]at hs
   ·simp only[tg,q73]at hs;rw[hs];exact⟨_,ht⟩
  ·obtain⟨t,rfl,ht⟩:=h;simp only[tg,q73]at hs;rw[hs];exact⟨_,ht⟩
  ·obtain⟨t,l,rfl,ht,hm⟩:=h;have e1:tg aa (n+1) (.ptr t 0)=t::l.flatMap (tg aa n):=by show t::((fT (aa t)).getD []).flatMap (tg aa n)=_;rw[ht];rfl
   rw[e1]at hs;rcases q78.1 hs with rfl|hs;·exact⟨_,ht⟩
   ·exact lst hm s hs
  ·obtain⟨l,rfl,hm⟩:=h;exact lst hm s hs
  ·obtain⟨l,rfl,hm⟩:=h;exact lst hm s hs
  ·subst h;simp[tg]at hs
  ·subst h;simp[tg]at hs
  ·obtain⟨rfl,_⟩:=h;simp[tg]at hs
  ·exact h.elim
def BQ {D:Nat->Prop}{v:Value}{x:AV} (hk:Ez x=true) (h:RV P S w β D v x):RV P S w β (·∈uB x) v x:=by cases h with
 |pv v p h=>exact .pv v p h|own t h=>exact .own t (by simp[uB])|ptr t o b h hb=>cases o with|zero=>exact .ptr t 0 b (by simp[uB]) hb|succ o=>simp[Ez]at hk
 |rp ad cs us h1 h2 h3 h4=>exact .rp ad cs us h1 h2 h3 h4|bI f cs us hl h=>cases cs with|nil=>exact .bI f [] us hl fun i c u hc=>by simp at hc|cons c cs=>simp[Ez]at hk
 |_=>simp[Ez]at hk
def HZ {D:Nat->Prop}{v:Value}{x:AV} (hk:ve x=true) (h:RV P S w β D v x):RV P S w β (·∈uK x) v x:=by
 by_cases hx:∃cs,x=.agg cs;·obtain⟨cs,rfl⟩:=hx;obtain⟨us,rfl,hl,hc⟩:=h.dg;refine .agg cs us hl fun i c u a b=>?_;have hm:=List.mem_of_getElem? a;simp only[ve,q85]at hk;exact(BQ (hk c hm) (hc i c u a b)).mono (fun b hb=>⟨hb,rfl⟩) fun t ht=>⟨q179.2 ⟨c,hm,ht⟩,rfl⟩
 ·have e1:ve x=Ez x:=by cases x<;>first|rfl|exact absurd ⟨_,rfl⟩ hx
  have e2:uK x=uB x:=by cases x<;>first|rfl|exact absurd ⟨_,rfl⟩ hx
  rw[e1]at hk;rw[e2];exact BQ hk h
def M7 {n:Nat}{x y:AV} (h:mt P aa (n+2) x y) (hk:ve x=true):∀t∈uK x,aE aa t:=by
 intro t ht;refine Bd (n+2) h t ?_;have hC:∀{c:AV},t∈uB c->∀m,t∈tg aa (m+1) c:=by
  intro c hc m;unfold uB at hc;split at hc;·simpa[tg]using hc
  ·simp only[q73]at hc;subst hc;exact q122
  ·simp at hc
 by_cases hx:∃cs,x=.agg cs;·obtain⟨cs,rfl⟩:=hx;obtain⟨c,hc,ht⟩:=q179.1 ht;exact q179.2 ⟨c,hc,hC ht n⟩
 ·have e2:uK x=uB x:=by cases x<;>first|rfl|exact absurd ⟨_,rfl⟩ hx
  rw[e2]at ht;exact hC ht (n+1)
def CF {R:Value->AV->Prop}:∀{ys xs:List AV}{vs:List Value},xs.length=ys.length->vs.length=ys.length->(∀(i:Nat) (c:AV) (u:Value),xs[i]?=some c->vs[i]?=some u->R u c)->(eW ys xs).length=(eW ys vs).length/\∀(i:Nat) (c:AV) (u:Value),(eW ys xs)[i]?=some c->(eW ys vs)[i]?=some u->R u c
 |[],[],[],_,_,_=>⟨rfl,fun i c u hc=>by simp[eW]at hc⟩|y::ys,x::xs,v::vs,h1,h2,h=>by
  obtain⟨k1,k2⟩:=CF (ys:=ys) (xs:=xs) (vs:=vs) (by simpa using h1) (by simpa using h2) fun i c u hc hu=>h (i+1) c u (by simpa using hc) (by simpa using hu);simp only[eW];split;·refine⟨by simp[k1],fun i c u hc hu=>?_⟩;cases i with|zero=>simp only[q72,qr]at hc hu;rw[<-hc,<-hu];exact h 0 x v rfl rfl|succ i=>exact k2 i c u (by simpa using hc) (by simpa using hu)
  ·exact⟨k1,k2⟩|[],_::_,_,h,_,_=>by simp at h|[],[],_::_,_,h,_=>by simp at h|_::_,[],_,h,_,_=>by simp at h|_::_,_::_,[],_,h,_=>by simp at h
end
def cC {P:Program}{Γ:b7} (hΓ:eG P Γ) {f:FuncId}{n k:Nat}{rs:List (Nat×Option (Option Nat))}{b:AC}{ys:List AV}{x:AV}{s:List AV×List (Nat×AO)×List Nat×List Nat} (hm:LK P=true) (hc:aFn P f=some ⟨n,k,rs,b⟩) (hlen:ys.length<=n) (hnum:TE ys Y7=some s) (htop:∀c∈eW ys s.1,ve c=true/\∀t∈uK c,t%1000=999) (hs:jn P Γ b (ug P rs (eW ys s.1) x) (CA (ug P rs (eW ys s.1) x)) ⟨look (qm 0 s.1),ab s.2.1⟩):Fe P f ys x:=by
 intro w S0 vals bss hS0 hnd hts;obtain⟨p1,n1,l1⟩:=GL (P:=P) (S:=S0) (S':=S0) (w:=w) (fun b hb=>hb) ys Y7 s hnum;obtain⟨β,c1,c2,c3⟩:=l1 vals bss hts hnd (by decide);generalize hB:bss.flatten=B at*;obtain⟨d1,d2⟩:=c1 β (aE (ab s.2.1)) fun p hp=>⟨rfl,by obtain⟨o,ho⟩:=oG hp;exact⟨o,ho⟩⟩;have hvl:vals.length=ys.length:=by have:=hts.1;simpa using this
 have hblt:∀b∈B,b<w.heap.size:=by
  have hlt:∀{v y bs},HT P S0 w v y bs->∀b∈bs,b<w.heap.size:=by
   intro v y bs h;have hin:∀{b:Nat}{o:Obj},w.heap[b]?=some o->b<w.heap.size:=fun h=>(q67.1 h).1;have lst:∀{us:List Value}{cs:List AV}{bss:List (List Nat)},us.length=cs.length->bss.length=cs.length->(∀(i:Nat) (c:AV) (u:Value) (bs:List Nat),cs[i]?=some c->us[i]?=some u->bss[i]?=some bs->∀b∈bs,b<w.heap.size)->∀b∈bss.flatten,b<w.heap.size:=by intro us cs bss h1 h2 h b hb;obtain⟨bs,hbs,hb⟩:=List.mem_flatten.1 hb;obtain⟨i,hi⟩:=q116 hbs;have hl:=(q63.1 hi).1;exact h i _ _ bs (q62 (by omega)) (q62 (by omega)) hi b hb
   induction h with|leaf v y h=>intro b hb;simp at hb|fr v e rows inf us h1 h2 h3 h4=>
    intro b hb;rcases h2.2 with⟨rfl,_⟩|⟨g,cap,cur,rfl,_,h5,_⟩;·simp[cI]at hb
    ·simp only[cI,Option.toList_some,q73]at hb;rw[hb];exact hin h5|mf b us c es h1 h2 h3=>intro b' hb;simp only[q73]at hb;rw[hb];exact hin h1|bx b us ty cs bss h1 h2 h3 h4 h5 ih=>
    intro b' hb;rcases q78.1 hb with rfl|hb;·exact hin h1
    ·exact lst (us:=us.toList) (by simpa using h2) h3 (fun i c u bs a1 a2 a3=>ih i c u bs a1 (by simpa using a2) a3) b' hb|agg us cs bss h1 h2 h3 ih=>exact lst h1 h2 ih|aN us cs bss h1 h2 h3 ih=>exact lst h1 h2 ih
  rw[<-hB];intro b hb;obtain⟨bs,hbs,hb⟩:=List.mem_flatten.1 hb;obtain⟨i,hi⟩:=q116 hbs;have hl:=(q63.1 hi).1;have h2:=hts.2.1;have h1:=hts.1;exact hlt (hts.2.2 i _ _ bs (q62 (by omega)) (q62 (by omega)) hi) b hb
 have hos:∀t o,ab s.2.1 t=some o->(t,o)∈s.2.1:=fun t o h=>lR h;have hlive:∀b,live β (ab s.2.1) b->b∈B:=by rintro b ⟨t,o,ho,hb⟩;exact c2 (t,o) (hos t o ho) b hb
 let S1:Nat->Prop:=fun b=>S0 b\/b∈B;have hS1:∀b,S0 b->bn S1 w.heap.size β (ab s.2.1) w b/\w.heap[b]?=w.heap[b]?:=fun b hb=>⟨⟨.inl (.inl hb),(hS0 b hb).1,fun hl=>(hS0 b hb).2 (hlive b hl)⟩,rfl⟩;have hvr:∀(i:Nat) (v:Value) (c:AV),vals[i]?=some v->s.1[i]?=some c->RV P S0 w β (aE (ab s.2.1)) v c:=fun i v c hv hc=>d2 i c v hc hv;unfold aFn A8 at hc;split at hc
 ·rename_i fn hfn;split at hc
  ·rename_i c rs hb hrs;obtain⟨b,hcomp,hc⟩:=qB.1 hc;split at hc;case isFalse=>cases hc
   rename_i hN;cases hc;refine calls_of_wp hfn hb ?_;have hrel:Rel P S1 (·∈B) β w fn.ntmps ⟨look (qm 0 s.1),ab s.2.1⟩ {tmps:=vals.toArray++Array.replicate (fn.ntmps-vals.toArray.size) undef,defers:=[]} w β:=by
    refine⟨by simp;omega,rfl,fun q=>?_,⟨fun t o ho=>?_,fun t t' b ht ht' hb hb'=>?_⟩,fun t b ht hb=>.inr ?_,⟨hN,PU hm⟩,fun t _ _=>rfl,⟨rfl,rfl,rfl,q92 _,fun _ _ _=>rfl⟩⟩;·show RV P _ w β _ _ (look (qm 0 s.1) q);rw[tp];simp only[q95,if_true,q282];cases ha:s.1[q]? with|none=>exact .ak _|some x=>
     have hs1:=(q63.1 ha).1;have hs2:q<vals.length:=by omega
     have hv:vals[q]?=some vals[q]:=q62 hs2;have hget:(vals.toArray++Array.replicate (fn.ntmps-vals.toArray.size) undef).getD q undef=vals[q]:=by rw[q129,q267 (by simpa using hs2)];simp[hs2]
     rw[hget];exact(hvr q _ x hv ha).mono hS1 fun t ht=>⟨ht,rfl⟩
    ·exact(d1 (t,o) (hos t o ho)).mono hS1 (fun t ht=>⟨ht,rfl⟩) rfl (fun _ _=>rfl)
    ·obtain⟨o,ho⟩:=ht;obtain⟨o',ho'⟩:=ht';exact c3 (t,o) (hos t o ho) (t',o') (hos t' o' ho') b hb hb'
    ·obtain⟨o,ho⟩:=ht;exact c2 (t,o) (hos t o ho) b hb
   have fin:∀st a w' β',ug P rs (eW ys s.1) x st->Rel P S1 (·∈B) β w fn.ntmps st a w' β'->a.defers=[]/\∃v,(results fn a.tmps).run P w'=.ok v w'/\∃v0 bss',Ending.returned v=.returned v0/\DG (·∈B) w w'/\bss'.flatten.Nodup/\(∀b∈bss'.flatten,w.heap.size<=b\/b∈B)/\IQ P (fun b=>(S0 b\/b∈B\/w.heap.size<=b)/\b<w'.heap.size/\b∉bss'.flatten) w' (eW ys vals++[v0]) (mW x++[mr x]) bss':=by
    intro st0 a w' β' hF0 hR0;obtain⟨_,vs0,hF,_,_⟩:=jo hrs hR0 hF0;have hR:=hR0.cP (fun b hb=>.inr hb) (oW (bZ vs0) (mr x));change sN P rs (eW ys s.1) x (cP _ st0) at hF;generalize cP (oW (bZ vs0) (mr x)) st0=st at hF hR;obtain⟨v,vs,⟨hmt,hmL,hnd'⟩,hrun,hv⟩:=jo hrs hR hF;refine⟨hR.defers,v,hrun,v,?_⟩;generalize bZ vs=X at hmt hnd' hv;generalize hLL:eW ys s.1=L at*;have hLd:∀t∈L.flatMap (tg st.aa 5),aE st.aa t:=by intro t ht;obtain⟨c,hc,ht⟩:=q179.1 ht;obtain⟨i,hi⟩:=q116 hc;obtain⟨g1,g2⟩:=iD hmL;exact Bd 5 (g2 i c _ hi (q62 (by have:=(q63.1 hi).1;omega))) t ht
    have hXd:∀t∈tg st.aa 6 X,aE st.aa t:=Bd 6 hmt;have ebs:((L.map fun c=>dJ β' (tg st.aa 5 c))++[dJ β' (tg st.aa 6 X)]).flatten=dJ β' (L.flatMap (tg st.aa 5)++tg st.aa 6 X):=by rw[q256,gx,gH];simp
    have hall:∀t∈L.flatMap (tg st.aa 5)++tg st.aa 6 X,aE st.aa t:=fun t ht=>(q75.1 ht).elim (hLd t) (hXd t);refine⟨(L.map fun c=>dJ β' (tg st.aa 5 c))++[dJ β' (tg st.aa 6 X)],rfl,hR.cu,?_,?_,?_⟩;·rw[ebs];exact pN hR.heap.inj _ hnd' hall
    ·rw[ebs];intro b hb;obtain⟨t,ht,hb⟩:=q164.1 hb;exact hR.old t b (hall t ht) hb
    rw[ebs];have hSS:∀b,bn S1 w.heap.size β' st.aa w' b->((S0 b\/b∈B\/w.heap.size<=b)/\b<w'.heap.size/\b∉dJ β' (L.flatMap (tg st.aa 5)++tg st.aa 6 X)):=by
     rintro b ⟨h1,h2,h3⟩;refine⟨?_,h2,fun hb=>?_⟩
     ·rcases h1 with(h1|h1)|h1;·exact .inl h1
      ·exact .inr (.inl h1)
      ·exact .inr (.inr h1)
     ·obtain⟨t,ht,hb⟩:=q164.1 hb;obtain⟨o,ho⟩:=hall t ht;exact h3 ⟨t,o,ho,hb⟩
    obtain⟨k1,k2⟩:=CF (R:=fun u c=>RV P S0 w β (aE (ab s.2.1)) u c) (ys:=ys) (xs:=s.1) (vs:=vals) n1 hvl fun i c u hc hu=>hvr i u c hu hc;rw[hLL]at k1 k2;obtain⟨g1,g2⟩:=iD hmL;have hlast:=nj hR.heap hSS 6 hmt hv;refine⟨by simp[<-k1,g1],by simp[g1],fun i y u bs a1 a2 a3=>?_⟩;by_cases hi:i<(mW x).length
    ·rw[q86 hi]at a1;rw[q86 (by omega)]at a2;rw[q86 (by rw[List.length_map];omega),q79]at a3;obtain⟨c,hc,rfl⟩:=q900.1 a3;have hcm:=List.mem_of_getElem? hc;obtain⟨t1,t2⟩:=htop c hcm;have hmc:=g2 i c y hc a1;refine nj hR.heap hSS 5 hmc ((HZ t1 (k2 i c u hc a2)).mono (fun b hb=>?_) fun t ht=>?_)
     ·refine⟨⟨.inl (.inl hb),q97 (hS0 b hb).1 hR.cu.size,fun⟨t,o,ho,hbt⟩=>?_⟩,hR.cu.block b (hS0 b hb).1 (hS0 b hb).2⟩;rcases hR.old t b ⟨o,ho⟩ hbt with h4|h4;·have:=(hS0 b hb).1;omega
      ·exact(hS0 b hb).2 h4
     ·have hd:=M7 (n:=3) hmc t1 t ht;exact⟨hd,hR.Ar t (t2 t ht) hd⟩
    ·have hi2:i=(mW x).length:=by have:=(q63.1 a1).1;simp at this;omega
     subst hi2;have e1:y=mr x:=by simpa using a1.symm
     have e2:u=v:=by rw[<-g1,k1]at a2;simpa using a2.symm
     have e3:bs=dJ β' (tg st.aa 6 X):=by rw[<-g1,<-@List.length_map _ _ L (fun c=>dJ β' (tg st.aa 5 c))]at a3;simpa using a3.symm
     rw[e1,e2,e3];exact hlast
   refine vS hΓ (S0:=S1) (L:=(·∈B)) (fun b hb=>.inr hb) (w0:=w) (P8 hm) _ c b hcomp (ug P rs (eW ys s.1) x) (CA (ug P rs (eW ys s.1) x)) _ _ _ w β ?_ ?_ ?_ hrel hs;·intro st a w' β' hF hR;exact fin st a w' β' hF hR
   ·intro st a w' β' id hj;exact hj.elim
   ·intro st a w' β' hF hR;exact fin st a w' β' hF hR
  ·cases hc
 ·cases hc
end Go.Proofs.YtifcndkhigakfaaGreat.Ab
namespace Go.Proofs.YtifcndkhigakfaaGreat.Ab.R
open Go Go.RowKit
section
variable{P:Program}{Γ:b7}{K:St->Prop}{vs:List (Nat×AV)}{os:List (Nat×AO)}
@[simp↓] def RY {d:Nat}:bH (some d) .mkv [] K ⟨look vs,ab os⟩=(ab os d=none/\K ⟨put (some d) (.own d) (look vs),bK [(d,.kk [])] (ab os)⟩):=rfl
@[simp↓] def R1 {d:Option Nat}{s:Nat}{x y z:AV}:bH d (.XF s) [x,y,z] K ⟨look vs,ab os⟩=tK d s (strip x) (strip y) (sS (strip z)) [x,y,z] K ⟨look vs,ab os⟩:=rfl
@[congr] def P3 {d:Option Nat}{s:Nat}{x x' y y' z z':AV}{xs:List AV}{st:St} (h1:True->x=x') (h2:True->y=y') (h3:True->z=z'):tK d s x y z xs K st=tK d s x' y' z' xs K st:=by rw[h1 trivial,h2 trivial,h3 trivial]
@[simp↓] def Zp {d:Option Nat}{s t:Nat}{k v:PV}{xs:List AV}:tK d s (.own t) (.pv k) (.pv v) xs K ⟨look vs,ab os⟩=(aw xs/\aj (wQ (ab os t)) fun es=>dP k=s/\iP s es/\K ⟨put d .ak (look vs),ba t (.kk (nJ k v es)) (ab os)⟩):=rfl
@[simp↓] def Sb {d:Option Nat}{s:Nat}{z:Value}{ok:Bool}{x y:AV}:bH d (.IS s z ok) [x,y] K ⟨look vs,ab os⟩=zG d s z ok (strip x) (strip y) [x,y] K ⟨look vs,ab os⟩:=rfl
@[simp↓] def exGev_eq {d:Option Nat}{s:Nat}{z:Value}{ok:Bool}{X:AV}{k:PV}{xs:List AV}:zG d s z ok X (.pv k) xs K ⟨look vs,ab os⟩=(aw xs/\aj (LC (ab os) X) fun es=>z.oneCell'=true/\dP k=s/\iP s es/\K ⟨put d (Bk z ok (mS k es)) (look vs),ab os⟩):=rfl
@[simp↓] def stepG_eq {d f:Nat}{ks:List Nat}{xs:List AV}:stepG Γ (some d) f xs (some ks) K ⟨look vs,ab os⟩=(aw xs/\Bw Γ d f ks (xs.map strip) (gy (ab os) ks (xs.map strip)) ((fC ks (xs.map strip)).flatMap uK) K ⟨look vs,ab os⟩):=rfl
@[congr] def OS {d:Option Nat}{f:Nat}{xs xs':List AV}{o o':Option (List Nat)}{st:St} (h1:True->xs=xs') (h2:True->o=o'):stepG Γ d f xs o K st=stepG Γ d f xs' o' K st:=by rw[h1 trivial,h2 trivial]
@[simp↓] def VI {d f:Nat}{ks:List Nat}{xs:List AV}{T Q:List Nat}:Bw Γ d f ks xs T Q K ⟨look vs,ab os⟩=(T.Nodup/\(∀t∈Q,t∈T)/\AM Γ d f ks xs T Q (T.filter fun t=>!Q.contains t) K ⟨look vs,ab os⟩):=rfl
@[simp↓] def Vq {d f:Nat}{ks:List Nat}{xs:List AV}{T Q W:List Nat}:AM Γ d f ks xs T Q W K ⟨look vs,ab os⟩=(Q.Nodup/\aj (Im (ab os) (fS T T (ab os)) T ks xs) fun ys=>AU Γ d f ks xs T Q W K ⟨look vs,ab os⟩ ys):=rfl
@[simp↓] def XT {d f:Nat}{ks:List Nat}{xs ys:List AV}{T Q W:List Nat}:AU Γ d f ks xs T Q W K ⟨look vs,ab os⟩ ys=aj (Γ (f+2000000) ys) fun x=>x.1/\(gn T ks xs=true\/∀y∈mW x.2++[mr x.2],jf 5 y)/\aj (pS (num 5 true) (mW x.2) (Q,rI d T W)) fun o=>o.1=fC ks xs/\aj (num 5 false (mr x.2) o.2.2) fun r=>(∀p∈o.2.1++r.2.1,T.contains p.1=true\/ab os p.1=none)/\K ⟨put (some d) r.1 (ji W (look vs)),bK (o.2.1++r.2.1) (fS T W (ab os))⟩:=rfl
end
@[simp↓] def YZ {P:Program}{Γ:b7}{d:Option Nat}{s:Nat}{z:Value}{ok:Bool}{x y:AV}{aa:Nat->Option AO}{C:bR->Prop}:bf P Γ d (.ex (.IS s z ok)) [x,y] aa C=(aw [x,y]/\aj (al (.ex (.IS s z ok)) [strip x,strip y] aa) fun r=>r.1/\C (.put r.2)):=rfl
@[simp↓] def VE {P:Program}{Γ:b7}{d:Option Nat}{e:TypeId}{sz:Nat}{xs:List AV}{aa:Nat->Option AO}{C:bR->Prop}:bf P Γ d (.ex (.pj e sz)) xs aa C=(aw xs/\aj (al (.ex (.pj e sz)) (xs.map strip) aa) fun r=>r.1/\C (.put r.2)):=rfl
@[simp↓] def UN {P:Program}{Γ:b7}{d:Option Nat}{e:TypeId}{sz:Nat}{xs:List AV}{aa:Nat->Option AO}{C:bR->Prop}{c:Bool}:cE P Γ c d (.ex (.pj e sz)) xs aa C=aj (al (.ex (.pj e sz)) (xs.map strip) aa) fun x=>(c=true->aw xs/\x.1)/\C (.put (.cx c x.2)):=rfl
@[simp] def VQ {e:TypeId}{sz:Nat}{xs:List AV}{aa:Nat->Option AO}:al (.ex (.pj e sz)) xs aa=(rowsOf xs).map fun rows=>(∀r∈rows,r.length=sz,.pv (.ro rows)):=nr (by unfold al;rfl)
@[simp] def semQ_gev {s:Nat}{z:Value}{ok:Bool}{es:List (PV×PV)}{k:PV}{aa:Nat->Option AO}:al (.ex (.IS s z ok)) [.pv (.mv es),.pv k] aa=some (z.oneCell'=true/\dP k=s/\iP s es,Bk z ok (mS k es)):=nr rfl
@[simp] def Yn (k v:PV):nJ k v []=[(k,v)]:=nr rfl
@[simp] def putV_int (k k':IntKind) (a b:Int) (v x:PV) (l:List (PV×PV)):nJ (.int k a) v ((.int k' b,x)::l)=if a=b then(.int k a,v)::l else(.int k' b,x)::nJ (.int k a) v l:=by simp[nJ,oH]
@[simp] def KF (k k':IntKind) (a b:Int) (x:PV) (l:List (PV×PV)):mS (.int k a) ((.int k' b,x)::l)=if a=b then some x else mS (.int k a) l:=by simp[mS,oH]
@[simp] def FJ (s:Nat) (e:PV×PV) (l:List (PV×PV)):iP s (e::l)=(dP e.1=s/\iP s l):=by simp[iP]
@[simp] def WN {f:FuncId}{args:List AV}:mD (.pv (.val (.func (.func f) #[] #[]))::args)=some (f,args):=nr rfl
@[simp] def shP_own (t s:Nat) (es:List (PV×PV)):shP t es (.own s)=if s=t then .pv (.mv es) else .own s:=nr rfl
@[simp] def pubM_eq (vs:List (Nat×AV)) (os:List (Nat×AO)) (t:Nat):CK t ⟨look vs,ab os⟩=match wQ (ab os t) with|some es=>⟨look (vs.map fun x=>(x.1,shP t es x.2)),ab (M0 t os)⟩|none=>⟨look vs,ab os⟩:=by unfold CK;dsimp only;cases wQ (ab os t) with|none=>rfl|some es=>dsimp only;rw[vr];congr 1;funext s;induction vs with|nil=>rfl|cons x l ih=>
 simp only[q74,look];split;·rfl
 ·exact ih
@[simp] def VJ (es:List (PV×PV)):wQ (some (.kk es))=some es:=nr rfl
@[simp] def gotV_t (z:Value) (o:Option PV):Bk z true o=.aN [.pv (o.getD (si z)),.pv (.bool o.isSome)]:=nr rfl
@[simp] def XW (s:Nat):iP s []=True:=by simp[iP]
@[simp] def aam (k:PV):mS k []=none:=nr rfl
@[simp] def rdO_arr (e:TypeId) (rows:List (List PV)):Vp (some (.arr e rows))=some (.fr e rows):=nr rfl
@[simp] def rdW_nil (f:AV->Option (AV×List Nat)):LM f []=some ([],[]):=nr rfl
@[simp] def aa4 (f:AV->Option (AV×List Nat)) (c:AV) (cs:List AV):LM f (c::cs)=(f c).bind fun r=>(LM f cs).map fun q=>(r.1::q.1,r.2++q.2):=nr rfl
@[simp] def rd_own (n:Nat) (aa:Nat->Option AO) (t:Nat):rd (n+1) aa (.own t)=(Vp (aa t)).map fun y=>(y,[t]):=nr rfl
@[simp] def rd_ptr (n:Nat) (aa:Nat->Option AO) (t:Nat):rd (n+1) aa (.ptr t 0)=(fT (aa t)).bind fun cs=>(LM (rd n aa) cs).map fun r=>(.bx r.1,t::r.2):=nr rfl
@[simp] def rd_pv (n:Nat) (aa:Nat->Option AO) (p:PV):rd (n+1) aa (.pv p)=some (.pv p,[]):=nr rfl
@[simp] def tk_t (p:Nat) (ps us:List Nat):tk true (p::ps,us)=some (p,ps,us):=nr rfl
@[simp] def tk_f (u:Nat) (ps us:List Nat):tk false (ps,u::us)=some (u,ps,us):=nr rfl
@[simp] def YI (f:AV->List Nat×List Nat->Option (AV×List (Nat×AO)×List Nat×List Nat)) (s:List Nat×List Nat):pS f [] s=some ([],[],s):=nr rfl
@[simp] def Vb (f:AV->List Nat×List Nat->Option (AV×List (Nat×AO)×List Nat×List Nat)) (c:AV) (cs:List AV) (s:List Nat×List Nat):pS f (c::cs) s=(f c s).bind fun r=>(pS f cs r.2.2).map fun q=>(r.1::q.1,r.2.1++q.2.1,q.2.2):=nr rfl
@[simp] def num_fr (n:Nat) (top:Bool) (e:TypeId) (rows:List (List PV)) (s:List Nat×List Nat):num (n+1) top (.fr e rows) s=(tk top s).map fun q=>(.own q.1,[(q.1,.arr e rows)],q.2):=nr rfl
@[simp] def num_bx (n:Nat) (top:Bool) (cs:List AV) (s:List Nat×List Nat):num (n+1) top (.bx cs) s=(tk top s).bind fun q=>(pS (num n false) cs q.2).map fun r=>(.ptr q.1 0,(q.1,.box r.1)::r.2.1,r.2.2):=nr rfl
@[simp] def num_agg (n:Nat) (top:Bool) (cs:List AV) (s:List Nat×List Nat):num (n+1) top (.agg cs) s=(pS (num n top) cs s).map fun r=>(.agg r.1,r.2):=nr rfl
@[simp] def num_tup (n:Nat) (top:Bool) (cs:List AV) (s:List Nat×List Nat):num (n+1) top (.aN cs) s=(pS (num n top) cs s).map fun r=>(.aN r.1,r.2):=nr rfl
@[simp] def num_pv (n:Nat) (top:Bool) (p:PV) (s:List Nat×List Nat):num (n+1) top (.pv p) s=some (.pv p,[],s):=nr rfl
@[simp] def tops_own (t:Nat):uK (.own t)=[t]:=nr rfl
@[simp] def aaS (t:Nat):uK (.ptr t 0)=[t]:=nr rfl
@[simp] def ysG_nil (aa objs':Nat->Option AO) (T:List Nat):Im aa objs' T [] []=some []:=nr rfl
@[simp] def ysG_0 (aa objs':Nat->Option AO) (T ks:List Nat) (x:AV) (xs:List AV):Im aa objs' T (0::ks) (x::xs)=(qD objs' (gg T x)).bind fun y=>(Im aa objs' T ks xs).map (y::·):=nr rfl
@[simp] def ysG_2 (aa objs':Nat->Option AO) (T ks:List Nat) (x:AV) (xs:List AV):Im aa objs' T (2::ks) (x::xs)=((rd 5 aa x).map fun r=>.aN [r.1]).bind fun y=>(Im aa objs' T ks xs).map (y::·):=nr rfl
@[simp] def WW (aa:Nat->Option AO):gy aa [] []=[]:=nr rfl
@[simp] def tagsG_0 (aa:Nat->Option AO) (ks:List Nat) (x:AV) (xs:List AV):gy aa (0::ks) (x::xs)=gy aa ks xs:=nr rfl
@[simp] def tagsG_2 (aa:Nat->Option AO) (ks:List Nat) (x:AV) (xs:List AV):gy aa (2::ks) (x::xs)=((rd 5 aa x).map (·.2)).getD []++gy aa ks xs:=nr rfl
@[simp] def UB:fC [] []=[]:=nr rfl
@[simp] def lentG_0 (ks:List Nat) (x:AV) (xs:List AV):fC (0::ks) (x::xs)=fC ks xs:=nr rfl
@[simp] def lentG_2 (ks:List Nat) (x:AV) (xs:List AV):fC (2::ks) (x::xs)=x::fC ks xs:=nr rfl
@[simp] def T8 (T:List Nat):gn T [] []=true:=nr rfl
@[simp] def Zq (T ks:List Nat) (x:AV) (xs:List AV):gn T (0::ks) (x::xs)=(eL (gg T x)&&gn T ks xs):=nr rfl
@[simp] def puresG_2 (T ks:List Nat) (x:AV) (xs:List AV):gn T (2::ks) (x::xs)=gn T ks xs:=nr rfl
@[simp] def flatG_fr (n:Nat) (e:TypeId) (rows:List (List PV)):jf (n+1) (.fr e rows)=bP rows:=nr rfl
@[simp] def ZU (n:Nat) (cs:List AV):jf (n+1) (.bx cs)=∀c∈cs,jf n c:=nr rfl
@[simp] def UO (n:Nat) (cs:List AV):jf (n+1) (.aN cs)=∀c∈cs,jf n c:=nr rfl
@[simp] def Yz (n:Nat) (p:PV):jf (n+1) (.pv p)=(jg p=true):=nr rfl
@[simp] def outG_clo (n:Nat) (r:AV) (l:List AV):mW (.bI n (r::l))=l:=nr rfl
@[simp] def aat (n:Nat) (r:AV) (l:List AV):mr (.bI n (r::l))=r:=nr rfl
@[simp] def ksOf_rp (l:List PV):Ss (.rp l)=some (l.map fun p=>match p with|.int _ n=>n.toNat|_=>0):=nr rfl
@[simp] def poolG_eq (d:Nat) (T W:List Nat):rI d T W=W.filter (fun t=>t%1000 !=999)++[d,d+1000,d+2000,d+3000,d+4000,d+5000,d+6000,d+7000].filter fun t=>!T.contains t:=nr rfl
@[simp] def aaD (x:AV):gg [] x=x:=nr rfl
@[simp] def Vv (t:Nat) (W:List Nat) (x:AV):gg (t::W) x=mL (t::W) x:=nr rfl
@[simp] def U8 (W:List Nat) (g:Bool) (v:AV):mL W (.cx g v)=.cx g (mL W v):=nr rfl
@[simp] def Yc (W:List Nat) (cs:List AV):mL W (.agg cs)=.agg (cs.map (eX W)):=nr rfl
@[simp] def Ux (W:List Nat) (t o:Nat):mL W (.ptr t o)=eX W (.ptr t o):=nr rfl
@[simp] def wipe0_pv (W:List Nat) (p:PV):mL W (.pv p)=.pv p:=nr rfl
@[simp] def Tg (W:List Nat):mL W .ak=.ak:=nr rfl
@[simp] def Wm (W:List Nat) (t o:Nat):eX W (.ptr t o)=if W.contains t then .ak else .ptr t o:=nr rfl
@[simp] def wipeC_pv (W:List Nat) (p:PV):eX W (.pv p)=.pv p:=nr rfl
@[simp] def V8 (o:AO):ku [] o=o:=nr rfl
@[simp] def Q0 (t:Nat) (W:List Nat) (o:AO):ku (t::W) o=Aw (t::W) o:=nr rfl
@[simp] def Rt (W:List Nat) (cs:List AV):Aw W (.box cs)=.box (cs.map (eX W)):=nr rfl
@[simp] def TO (W:List Nat) (e:TypeId) (rows:List (List PV)):Aw W (.arr e rows)=.arr e rows:=nr rfl
@[simp] def Sf (W:List Nat) (l:List (Nat×AV)):ji W (look l)=look (l.map fun x=>(x.1,gg W x.2)):=by funext s;unfold ji;induction l with|nil=>show gg W .ak=.ak;unfold gg;split<;>rfl|cons x l ih=>
 obtain⟨k,v⟩:=x;simp only[q74,look];split;·rfl
 ·exact ih
def P2 (T W:List Nat):List (Nat×AO)->List (Nat×AO)|[]=>[]|x::l=>if T.contains x.1=true then P2 T W l else(x.1,ku W x.2)::P2 T W l
@[simp] def rmG_nil (T W:List Nat):P2 T W []=[]:=nr rfl
@[simp] def I4 (T W:List Nat) (s:Nat) (o:AO) (l:List (Nat×AO)):P2 T W ((s,o)::l)=if T.contains s=true then P2 T W l else(s,ku W o)::P2 T W l:=nr rfl
@[simp] def T3 (T W:List Nat) (l:List (Nat×AO)):fS T W (ab l)=ab (P2 T W l):=by funext s;unfold fS;induction l with|nil=>simp[P2,ab]|cons x l ih=>
 obtain⟨k,v⟩:=x;simp only[I4,ab];by_cases hs:T.contains s=true
 ·rw[if_pos hs]at ih |-;by_cases hk:T.contains k=true;·rw[if_pos hk];exact ih
  ·have:¬s=k:=fun e=>hk (e▸hs);rw[if_neg hk];simp only[ab,if_neg this];exact ih
 ·rw[if_neg hs]at ih |-;by_cases hsk:s=k;·subst hsk;rw[if_neg hs];simp[ab]
  ·rw[if_neg hsk];by_cases hk:T.contains k=true;·rw[if_pos hk];exact ih
   ·rw[if_neg hk];simp only[ab,if_neg hsk];exact ih
@[simp] def GK (cs:List AV):Jf (.agg cs)=cs.any fun c=>match c with|.bx _|.mf _=>true|_=>false:=nr rfl
@[simp] def trC_pv (p:PV):Jf (.pv p)=false:=nr rfl
@[simp] def trC_fr (e:TypeId) (rows:List (List PV)):Jf (.fr e rows)=false:=nr rfl
@[simp] def trR_tup (vs:List AV):rQ (.aN vs)=vs.any Jf:=nr rfl
@[simp] def trR_agg (cs:List AV):rQ (.agg cs)=Jf (.agg cs):=nr rfl
@[simp] def trR_pv (p:PV):rQ (.pv p)=false:=nr rfl
@[simp] def trR_fr (e:TypeId) (rows:List (List PV)):rQ (.fr e rows)=false:=nr rfl
@[simp] def flatR_eq (r:AV):tN r=if rQ r=true then jf 5 r else flat r:=nr rfl
@[simp] def newO_eq (d:Nat) (r:AV):ly d r=if rQ r=true then(((num 5 false r ([],lz d)).map (·.2.1)).getD []) else aU d r:=nr rfl
@[simp] def newV_eq (d:Nat) (r:AV):CO d r=if rQ r=true then(((num 5 false r ([],lz d)).map (·.1)).getD .ak) else dn (mX d) r:=nr rfl
@[simp] def resR_eq (d:Nat) (r:AV):BX d r=if rQ r=true then(num 5 false r ([],lz d)).isSome else dv r:=nr rfl
@[simp] def pool8_eq (d:Nat):lz d=[d,d+1000,d+2000,d+3000,d+4000,d+5000,d+6000,d+7000]:=nr rfl
@[congr] def Nc {P:Program}{rs:List (Nat×Option (Option Nat))}{L:List AV}{x:AV}{st st':St} (h:True->st=st'):sN P rs L x st=sN P rs L x st':=by rw[h trivial]
@[congr] def Qf {P:Program}{rs:List (Nat×Option (Option Nat))}{L:List AV}{x:AV}{st st':St} (h:True->st=st'):ug P rs L x st=ug P rs L x st':=by rw[h trivial]
section
variable{P:Program}{aa:Nat->Option AO}
@[simp] def mtW_nil (f:AV->AV->Prop):zR f [] []=True:=nr rfl
@[simp] def mtW_cons (f:AV->AV->Prop) (c y:AV) (cs ys:List AV):zR f (c::cs) (y::ys)=(f c y/\zR f cs ys):=nr rfl
@[simp] def mt_fr (n:Nat) (x:AV) (e:TypeId) (rows:List (List PV)):mt P aa (n+1) x (.fr e rows)=yj P aa x (.fr e rows):=nr rfl
@[simp] def mt_bx (n t:Nat) (cs:List AV):mt P aa (n+1) (.ptr t 0) (.bx cs)=aj (fT (aa t)) fun l=>zR (mt P aa n) l cs:=by
 show(∃t' l,AV.ptr t 0=.ptr t' 0/\aa t'=some (.box l)/\zR (mt P aa n) l cs)=_;apply propext;constructor;·rintro⟨t',l,h,h',h''⟩;cases h;rw[h'];exact h''
 ·intro h;obtain⟨l,hl,h⟩:=af h;exact⟨t,l,rfl,gK hl,h⟩
@[simp] def mt_tup (n:Nat) (l cs:List AV):mt P aa (n+1) (.aN l) (.aN cs)=zR (mt P aa n) l cs:=by show(∃l',AV.aN l=.aN l'/\zR (mt P aa n) l' cs)=_;apply propext;exact⟨fun⟨_,h,h'⟩=>by cases h;exact h',fun h=>⟨l,rfl,h⟩⟩
@[simp] def mt_pv (n:Nat) (x:AV) (p:PV):mt P aa (n+1) x (.pv p)=(x=.pv p):=nr rfl
@[simp] def tg_own (n t:Nat):tg aa (n+1) (.own t)=[t]:=nr rfl
@[simp] def tg_ptr (n t:Nat):tg aa (n+1) (.ptr t 0)=t::((fT (aa t)).getD []).flatMap (tg aa n):=nr rfl
@[simp] def tg_tup (n:Nat) (cs:List AV):tg aa (n+1) (.aN cs)=cs.flatMap (tg aa n):=nr rfl
@[simp] def tg_pv (n:Nat) (p:PV):tg aa (n+1) (.pv p)=[]:=nr rfl
end
def Je (ks:List Nat) (G:List AV->Option (Prop×AV)) (ys:List AV):Option (Prop×AV):=match ys with|[.ak]=>some (True,.rp (ks.map fun k:Nat=>PV.int .i64 (k:Int)))|ys=>G ys
def eE (P:Program) (f:FuncId) (G:List AV->Option (Prop×AV)):Prop:=∀ys φ r,G ys=some (φ,r)->φ->Fe P f ys r
@[simp] def Va (ks:List Nat) (G:List AV->Option (Prop×AV)):Je ks G [.ak]=some (True,.rp (ks.map fun k:Nat=>PV.int .i64 (k:Int))):=nr rfl
@[simp] def tabG_pv (ks:List Nat) (G:List AV->Option (Prop×AV)) (q:PV) (l:List AV):Je ks G (.pv q::l)=G (.pv q::l):=nr rfl
@[simp] def aaH (ks:List Nat) (G:List AV->Option (Prop×AV)) (q l:List AV):Je ks G (.aN q::l)=G (.aN q::l):=nr rfl
@[simp↓] def gt_eq (Γ:b7) (f:FuncId) (ys:List AV):gt Γ f ys=UC (Γ f ys) (Γ (f+3000000) ys):=rfl
@[congr] def V9 {a a' b:Option (Prop×AV)} (h:True->a=a'):UC a b=UC a' b:=by rw[h trivial]
@[simp↓] def Zt (x:Prop×AV) (y:Option (Prop×AV)):UC (some x) y=some (x.1/\rQ x.2=false,x.2):=rfl
@[simp↓] def gtO_none (y:Option (Prop×AV)):UC none y=y.map fun x=>(x.1/\rQ x.2=true,x.2):=rfl
section
variable{P:Program}{Γ:b7}{vs:List (Nat×AV)}{os:List (Nat×AO)}{K:St->Prop}{rs:List (Nat×Option (Option Nat))}{r:AV}{aa:Nat->Option AO}{C:List AV->Prop}
@[simp↓] def ZY:CA K .ret ⟨look vs,ab os⟩=K ⟨look vs,ab os⟩:=rfl
@[simp↓] def VF {id:Nat}:CA K (.exit id) ⟨look vs,ab os⟩=False:=rfl
@[simp↓] def Ends_eq {r:AV}:Ends P rs r ⟨look vs,ab os⟩=da ⟨look vs,ab os⟩ rs fun xs=>zt P rs r (cP (oW (bZ xs) r) ⟨look vs,ab os⟩):=rfl
@[congr] def Qn {st st':St}{r:AV} (h:True->st=st'):zt P rs r st=zt P rs r st':=by rw[h trivial]
@[simp↓] def ZV {r:AV}{hout:List (Nat×AO)}:pK P rs r hout ⟨look vs,ab os⟩=da ⟨look vs,ab os⟩ rs fun xs=>qb P rs r hout (cP (oW (bZ xs) r) ⟨look vs,ab os⟩):=rfl
@[congr] def Nl {st st':St}{r:AV}{hout:List (Nat×AO)} (h:True->st=st'):qb P rs r hout st=qb P rs r hout st':=by rw[h trivial]
@[simp↓] def UM {r:AV}{hout:List (Nat×AO)}:qb P rs r hout ⟨look vs,ab os⟩=da ⟨look vs,ab os⟩ rs fun xs=>fz P (ab os) (bZ xs) r/\lZ (pl (bZ xs))/\m8 (ab os) (pl (bZ xs)) hout:=rfl
@[simp] def TQ (l:List (Nat×Nat)):m8 aa l []=True:=nr rfl
@[simp] def Pg (l:List (Nat×Nat)) (x:Nat×AO) (hout:List (Nat×AO)):m8 aa l (x::hout)=(aa x.1=some x.2/\(∀y∈l,y.2≠x.1)/\m8 aa l hout):=nr rfl
@[simp] def mkA_fr (e:TypeId) (rows:List (List PV)):KJ (.fr e rows)=.own 998:=nr rfl
@[simp] def mkA_tup (e:TypeId) (rows:List (List PV)):KJ (.aN [.fr e rows])=.own 999:=nr rfl
@[simp] def mkA_pv (p:PV):KJ (.pv p)=.pv p:=nr rfl
@[simp] def mkA_clo (f:FuncId) (l:List AV):KJ (.bI f l)=.bI f l:=nr rfl
@[simp] def mkO_nil:nb []=[]:=nr rfl
@[simp] def mkO_fr (e:TypeId) (rows:List (List PV)) (l:List AV):nb (.fr e rows::l)=[(998,.arr e rows)]:=nr rfl
@[simp] def mkO_tup (e:TypeId) (rows:List (List PV)) (l:List AV):nb (.aN [.fr e rows]::l)=[(999,.arr e rows)]:=nr rfl
@[simp] def mkO_pv (p:PV) (l:List AV):nb (.pv p::l)=nb l:=nr rfl
@[simp↓] def YQ {r:AV}:zt P rs r ⟨look vs,ab os⟩=da ⟨look vs,ab os⟩ rs fun xs=>fz P (ab os) (bZ xs) r/\lZ (pl (bZ xs)):=rfl
@[simp↓] def EndsG_eq {L:List AV}{x:AV}:ug P rs L x ⟨look vs,ab os⟩=da ⟨look vs,ab os⟩ rs fun xs=>sN P rs L x (cP (oW (bZ xs) (mr x)) ⟨look vs,ab os⟩):=rfl
@[simp↓] def UF {L:List AV}{x:AV}:sN P rs L x ⟨look vs,ab os⟩=da ⟨look vs,ab os⟩ rs fun xs=>mt P (ab os) 6 (bZ xs) (mr x)/\zR (mt P (ab os) 5) L (mW x)/\(L.flatMap (tg (ab os) 5)++tg (ab os) 6 (bZ xs)).Nodup:=rfl
@[simp] def flagG_eq {f:FuncId}:jO Γ f=(Γ (f+2000000) [.ak]).bind fun x=>Ss x.2:=nr rfl
@[simp] def all_or {k:Nat}{o:AO}{R:Nat->AO->Prop}{p:Nat->AO->Prop}:(∀a b,a=k/\b=o\/R a b->p a b)=(p k o/\∀a b,R a b->p a b):=propext ⟨fun h=>⟨h k o (.inl ⟨rfl,rfl⟩),fun a b r=>h a b (.inr r)⟩,fun h a b r=>by
 rcases r with⟨rfl,rfl⟩|r;·exact h.1
 ·exact h.2 a b r⟩
@[simp] def lent_nil {α:Type} (l:List α):eW [] l=[]:=nr rfl
@[simp] def Zw {α:Type} (y:AV) (ys:List AV) (v:α) (l:List α):eW (.aN [y]::ys) (v::l)=v::eW ys l:=nr rfl
@[simp] def lent_pv {α:Type} (p:PV) (ys:List AV) (v:α) (l:List α):eW (.pv p::ys) (v::l)=eW ys l:=nr rfl
@[simp] def lent_agg {α:Type} (cs ys:List AV) (v:α) (l:List α):eW (.agg cs::ys) (v::l)=eW ys l:=nr rfl
@[simp] def Xx (t:Nat):ve (.own t)=true:=nr rfl
@[simp] def Wi (t:Nat):ve (.ptr t 0)=true:=nr rfl
@[simp] def pubs_tup (vs rs:List AV):oW (.aN vs) (.aN rs)=zZ vs rs:=nr rfl
@[simp] def ZM (vs:List AV) (r:AV):oW (.agg vs) r=FG (.agg vs) r:=by cases r<;>rfl
@[simp] def pubs_pv (p:PV) (r:AV):oW (.pv p) r=qM (.pv p) r:=by cases r<;>rfl
@[simp] def Qv (t:Nat) (e:TypeId) (rows:List (List PV)):oW (.own t) (.fr e rows)=[]:=nr rfl
@[simp] def Vy:zZ [] []=[]:=nr rfl
@[simp] def Se (c r:AV) (cs rs:List AV):zZ (c::cs) (r::rs)=FG c r++zZ cs rs:=nr rfl
@[simp] def Xi:wW [] []=[]:=nr rfl
@[simp] def Sg (c r:AV) (cs rs:List AV):wW (c::cs) (r::rs)=qM c r++wW cs rs:=nr rfl
@[simp] def pub1_agg (cs rs:List AV):FG (.agg cs) (.agg rs)=wW cs rs:=nr rfl
@[simp] def pub1_pv (p:PV) (r:AV):FG (.pv p) r=qM (.pv p) r:=by cases r<;>rfl
@[simp] def pub1_own (t:Nat) (r:AV):FG (.own t) r=qM (.own t) r:=by cases r<;>rfl
@[simp] def Oz (t:Nat) (e:TypeId) (rows:List (List PV)):qM (.own t) (.fr e rows)=[]:=nr rfl
@[simp] def Pt (t:Nat) (rows:List (List PV)):qM (.own t) (.pv (.ro rows))=[t]:=nr rfl
@[simp] def Qp (t:Nat) (es:List (PV×PV)):oW (.own t) (.pv (.mv es))=[t+1000000000000000]:=nr rfl
@[simp] def Rb (rows:List (List PV)):qM (.pv .nil) (.pv (.ro rows))=[999996]:=nr rfl
@[simp] def UX (p:PV):qM (.pv p) (.pv p)=[]:=by cases p<;>rfl
@[simp] def Yj (p:PV) (k:IntKind) (n:Int):qM (.pv p) (.pv (.int k n))=[]:=by cases p<;>rfl
@[simp] def TU (p:PV) (b:Bool):qM (.pv p) (.pv (.bool b))=[]:=by cases p<;>rfl
@[simp] def XD (p:PV) (l:List UInt8):qM (.pv p) (.pv (.str l))=[]:=by cases p<;>rfl
@[simp] def Z9 (p:PV) (e:TypeId) (rows:List (List PV)):qM (.pv p) (.fr e rows)=[]:=by cases p<;>rfl
@[simp↓] def Oq:da ⟨look vs,ab os⟩ [] C=C []:=rfl
@[simp↓] def OV {t:Nat}:da ⟨look vs,ab os⟩ ((t,none)::rs) C=da ⟨look vs,ab os⟩ rs fun xs=>C (look vs t::xs):=rfl
@[simp↓] def MF {t:Nat}{n:Option Nat}:da ⟨look vs,ab os⟩ ((t,some n)::rs) C=aj (al (.load n) [look vs t] (ab os)) fun x=>x.1/\da ⟨look vs,ab os⟩ rs fun xs=>C (x.2::xs):=rfl
@[simp] def Qw:bZ []=.aN []:=nr rfl
@[simp] def Qh (v:AV):bZ [v]=v:=nr rfl
@[simp] def OW (v u:AV) (l:List AV):bZ (v::u::l)=.aN (v::u::l):=nr rfl
@[simp] def argL_nil (i:Nat):qm i []=[]:=nr rfl
@[simp] def VK (i:Nat) (v:AV) (l:List AV):qm i (v::l)=(i,v)::qm (i+1) l:=nr rfl
@[simp] def fzC_own (t:Nat) (e:TypeId) (rows:List (List PV)):yj P aa (.own t) (.fr e rows)=(aa t=some (.arr e rows)):=by
 apply propext;constructor
 ·rintro(⟨s,h,h2⟩|⟨h,_⟩|⟨_,_,_,h,_⟩);·cases h;exact h2
  ·cases h
  ·cases h
 ·exact fun h=>.inl ⟨t,rfl,h⟩
@[simp] def fzC_sub (t:Nat) (e e1:TypeId) (hi:Nat) (rows:List (List PV)):yj P aa (.sub t e1 0 hi) (.fr e rows)=(e1=e/\∃rs,aa t=some (.arr e rs)/\rows=rs.take hi):=by
 apply propext;constructor
 ·rintro(⟨s,h,h2⟩|⟨h,_⟩|⟨s,hi',rs,h,h2,h3⟩);·cases h
  ·cases h
  ·cases h;exact⟨rfl,rs,h2,h3⟩
 ·rintro⟨rfl,rs,h2,h3⟩;exact .inr (.inr ⟨t,hi,rs,rfl,h2,h3⟩)
@[simp] def fz_sub (t:Nat) (e:TypeId) (lo hi:Nat) (r:AV):fz P aa (.sub t e lo hi) r=yj P aa (.sub t e lo hi) r:=nr rfl
@[simp] def pubs_sub (t:Nat) (e:TypeId) (lo hi:Nat) (r:AV):oW (.sub t e lo hi) r=[]:=by cases r<;>rfl
@[simp] def fzC_nil (e:TypeId) (rows:List (List PV)):yj P aa (.pv .nil) (.fr e rows)=(rows=[]/\(P.info? e).isSome=true):=by
 apply propext;constructor
 ·rintro(⟨s,h,h2⟩|⟨_,h⟩|⟨_,_,_,h,_⟩);·cases h
  ·exact h
  ·cases h
 ·exact fun h=>.inr (.inl ⟨rfl,h⟩)
@[simp] def fzC_pv (p q:PV):yj P aa (.pv p) (.pv q)=(p=q):=by
 apply propext;constructor;·rintro⟨h,_⟩;cases h;rfl
 ·rintro rfl;exact⟨rfl,rfl⟩
@[simp] def fzCs_nil:Bc P aa [] []=True:=nr rfl
@[simp] def XH (c d:AV) (cs ds:List AV):Bc P aa (c::cs) (d::ds)=(yj P aa c d/\Bc P aa cs ds):=nr rfl
@[simp] def fz1_agg (cs ds:List AV):Gm P aa (.agg cs) (.agg ds)=Bc P aa cs ds:=nr rfl
@[simp] def fz1_pv (p:PV) (r:AV):Gm P aa (.pv p) r=yj P aa (.pv p) r:=nr rfl
@[simp] def fz1_own (t:Nat) (r:AV):Gm P aa (.own t) r=yj P aa (.own t) r:=nr rfl
@[simp] def Ze:BR P aa [] []=True:=nr rfl
@[simp] def Xt (c d:AV) (cs ds:List AV):BR P aa (c::cs) (d::ds)=(Gm P aa c d/\BR P aa cs ds):=nr rfl
@[simp] def fz_tup (cs ds:List AV):fz P aa (.aN cs) (.aN ds)=(cs.length<=1000/\BR P aa cs ds):=nr rfl
@[simp] def fz_agg (cs:List AV) (r:AV):fz P aa (.agg cs) r=Gm P aa (.agg cs) r:=nr rfl
@[simp] def fz_pv (p:PV) (r:AV):fz P aa (.pv p) r=yj P aa (.pv p) r:=nr rfl
@[simp] def fz_own (t:Nat) (r:AV):fz P aa (.own t) r=yj P aa (.own t) r:=nr rfl
@[simp] def Yx (j:Nat):sG j []=[]:=nr rfl
@[simp] def abt (j t:Nat) (cs:List AV):sG j (.own t::cs)=(1000*j,t)::sG (j+1) cs:=nr rfl
@[simp] def pl_sub (t:Nat) (e:TypeId) (lo hi:Nat):pl (.sub t e lo hi)=[(0,t)]:=nr rfl
@[simp] def plCs_pv (j:Nat) (p:PV) (cs:List AV):sG j (.pv p::cs)=sG (j+1) cs:=nr rfl
@[simp] def pl1_agg (cs:List AV):Tp (.agg cs)=sG 0 cs:=nr rfl
@[simp] def pl1_own (t:Nat):Tp (.own t)=[(0,t)]:=nr rfl
@[simp] def pl1_pv (p:PV):Tp (.pv p)=[]:=nr rfl
@[simp] def plVs_nil (i:Nat):EZ i []=[]:=nr rfl
@[simp] def We (i:Nat) (v:AV) (vs:List AV):EZ i (v::vs)=(Tp v).map (fun x=>(x.1+i,x.2))++EZ (i+1) vs:=nr rfl
@[simp] def pl_tup (vs:List AV):pl (.aN vs)=EZ 0 vs:=nr rfl
@[simp] def pl_agg (cs:List AV):pl (.agg cs)=sG 0 cs:=nr rfl
@[simp] def pl_own (t:Nat):pl (.own t)=[(0,t)]:=nr rfl
@[simp] def pl_pv (p:PV):pl (.pv p)=[]:=nr rfl
@[simp] def Q7:lZ []=True:=nr rfl
@[simp] def QA (x:Nat×Nat) (l:List (Nat×Nat)):lZ (x::l)=((∀y∈l,y.2≠x.2)/\lZ l):=nr rfl
end
section
variable{P:Program}{Γ:b7}{vs:List (Nat×AV)}{os:List (Nat×AO)}{st:St}{ad:List Nat}
def Am {K:St->Prop}{J:Exit->St->Prop}{a:AC}{α:Type} (I:α->Prop) (F:α->Fr) (μ:α->Nat) (ad shs:List Nat) (x0:α) (hI:I x0) (h0:wk P ad (cP shs st) (F x0)) (hr:∀x,I x->jn P Γ a (fun st'=>∃x',I x'/\wk P [] (cP shs st') (F x')/\μ x'<μ x) J (F x).st):jn P Γ (.loop a) K J st:=by
 refine⟨{x:α//I x},fun x=>F x.1,fun x=>μ x.1,ad,shs,⟨x0,hI⟩,h0,fun x=>?_⟩;have hK:(fun st'=>∃i':{x:α//I x},wk P [] (cP shs st') (F i'.1)/\μ i'.1<μ x.1)=fun st'=>∃x',I x'/\wk P [] (cP shs st') (F x')/\μ x'<μ x.1:=by
  funext st';apply propext;constructor;·rintro⟨⟨y,hy⟩,h⟩;exact⟨y,hy,h⟩
  ·rintro⟨y,hy,h⟩;exact⟨⟨y,hy⟩,h⟩
 show jn P Γ a (fun st'=>∃i':{x:α//I x},wk P [] (cP shs st') (F i'.1)/\μ i'.1<μ x.1) J (F x.1).st;rw[hK];exact hr x.1 x.2
def au {K:St->Prop}{J:Exit->St->Prop}{a:AC}{α:Type} (I:α->Prop) (F:α->Fr) (μ:α->Nat) (ad:List Nat) (x0:α) (hI:I x0) (h0:wk P ad st (F x0)) (hr:∀x,I x->jn P Γ a (fun st'=>∃x',I x'/\wk P [] st' (F x')/\μ x'<μ x) J (F x).st):jn P Γ (.loop a) K J st:=Am I F μ ad [] x0 hI h0 hr
@[simp] def Rx (st:St):cP [] st=st:=nr rfl
@[simp] def QJ (t:Nat) (l:List Nat) (st:St):cP (t::l) st=cP l (AQ t st):=nr rfl
@[simp] def Xr (t:Nat) (st:St):AQ t st=if t=999996 then wX st else if 1000000000000000<=t then CK (t-1000000000000000) st else share1 st (.own t):=nr rfl
def C9:List (Nat×AO)->List (Nat×AO)|[]=>[]|x::l=>(x.1,xZ x.2)::C9 l
@[simp] def V0:C9 []=[]:=nr rfl
@[simp] def Fw (t:Nat) (o:AO) (l:List (Nat×AO)):C9 ((t,o)::l)=(t,xZ o)::C9 l:=nr rfl
@[simp] def aaZ (vs:List (Nat×AV)) (os:List (Nat×AO)):wX ⟨look vs,ab os⟩=⟨look (vs.map fun x=>(x.1,yr x.2)),ab (C9 os)⟩:=by
 unfold wX;congr 1;·funext s;induction vs with|nil=>rfl|cons x l ih=>obtain⟨k,v⟩:=x;simp only[q74,look];split<;>simp_all
 ·funext s;induction os with|nil=>rfl|cons x l ih=>obtain⟨k,v⟩:=x;simp only[Fw,ab];split<;>simp_all
@[simp] def nilV_pv (p:PV):yr (.pv p)=.pv (DZ p):=nr rfl
@[simp] def nilV_own (t:Nat):yr (.own t)=.own t:=nr rfl
@[simp] def aaX (t o:Nat):yr (.ptr t o)=.ptr t o:=nr rfl
@[simp] def U4:yr .ak=.ak:=nr rfl
@[simp] def XN:nK []=[]:=nr rfl
@[simp] def Sn (c:AV) (cs:List AV):nK (c::cs)=uI c::nK cs:=nr rfl
@[simp] def nilC_pv (p:PV):uI (.pv p)=.pv (DZ p):=nr rfl
@[simp] def nilC_own (t:Nat):uI (.own t)=.own t:=nr rfl
@[simp] def nilP_nil:DZ .nil=.ro []:=nr rfl
@[simp] def nilP_ro (l:List (List PV)):DZ (.ro l)=.ro l:=nr rfl
@[simp] def nilP_int (k:IntKind) (n:Int):DZ (.int k n)=.int k n:=nr rfl
@[simp] def U9 (b:Bool):DZ (.bool b)=.bool b:=nr rfl
@[simp] def nilO_box (cs:List AV):xZ (.box cs)=.box (nK cs):=nr rfl
@[simp] def nilO_arr (e:TypeId) (rows:List (List PV)):xZ (.arr e rows)=.arr e rows:=nr rfl
@[simp] def wk_eq (vs':List (Nat×AV)) (os':List (Nat×AO)):wk P ad ⟨look vs,ab os⟩ ⟨vs',os'⟩=(SB ad ⟨look vs,ab os⟩ os' vs'/\QL P ad ⟨look vs,ab os⟩ os' os'):=nr rfl
@[simp] def wkV_nil (os':List (Nat×AO)):SB ad ⟨look vs,ab os⟩ os' []=True:=nr rfl
@[simp] def wkV_cons (os':List (Nat×AO)) (s:Nat) (v:AV) (l:List (Nat×AV)):SB ad ⟨look vs,ab os⟩ os' ((s,v)::l)=((v=.ak\/(look vs s=v/\mF os' v)\/(∃t,v=.own t/\ad.contains t=true/\aE (ab os') t/\look vs s=.pv .nil))/\SB ad ⟨look vs,ab os⟩ os' l):=nr rfl
@[simp] def wkO_nil (os':List (Nat×AO)):QL P ad ⟨look vs,ab os⟩ os' []=True:=nr rfl
@[simp] def wkO_cons (os':List (Nat×AO)) (t:Nat) (o:AO) (l:List (Nat×AO)):QL P ad ⟨look vs,ab os⟩ os' ((t,o)::l)=(((ab os t=some o/\ad.contains t=false/\zQ os' o)\/(∃e,o=.arr e []/\ad.contains t=true/\ab os t=none/\(P.info? e).isSome=true/\t%1000≠999))/\QL P ad ⟨look vs,ab os⟩ os' l):=nr rfl
@[simp] def X4 (f:FuncId) (cs:List AV):mF os (.bI f cs)=iq os cs:=nr rfl
@[simp] def aar (p:PV):mF os (.pv p)=True:=nr rfl
@[simp] def Yr (p:List PV):mF os (.rp p)=True:=nr rfl
@[simp] def Uy (t:Nat):mF os (.own t)=aE (ab os) t:=nr rfl
@[simp] def VX (t o:Nat):mF os (.ptr t o)=aE (ab os) t:=nr rfl
@[simp] def WY (t:Nat) (e:TypeId) (lo hi:Nat):mF os (.sub t e lo hi)=aE (ab os) t:=nr rfl
@[simp] def liveC_pv (p:PV):lr os (.pv p)=True:=nr rfl
@[simp] def YD (p:List PV):lr os (.rp p)=True:=nr rfl
@[simp] def WQ (t:Nat):lr os (.own t)=aE (ab os) t:=nr rfl
@[simp] def TK:iq os []=True:=nr rfl
@[simp] def OQ (c:AV) (cs:List AV):iq os (c::cs)=(lr os c/\iq os cs):=nr rfl
@[simp] def Xv (cs:List AV):zQ os (.box cs)=iq os cs:=nr rfl
@[simp] def Xu (e:TypeId) (rows:List (List PV)):zQ os (.arr e rows)=True:=nr rfl
@[simp] def U2 (es:List (PV×AV)):zQ os (.map es)=True:=nr rfl
@[simp] def dom_nil (t:Nat):aE (ab []) t=False:=by
 apply propext;constructor;·rintro⟨o,h⟩;cases h
 ·exact False.elim
@[simp] def ZA (s t:Nat) (o:AO) (l:List (Nat×AO)):aE (ab ((s,o)::l)) t=(t=s\/aE (ab l) t):=by apply propext;unfold aE;simp only[Fj];by_cases h:t=s<;>simp[h]
end
@[simp↓] def SR {P:Program}{Γ:b7}{d:Nat}{f:FuncId}{xs:List AV}{aa:Nat->Option AO}{C:bR->Prop}:cS P Γ (some d) f xs aa C=(aw xs/\aj (gB aa (xs.map strip)) fun ys=>aj (gt Γ f ys) fun x=>x.1/\(fB (xs.map strip)=true\/tN x.2)/\(∀y∈ly d x.2,aa y.1=none)/\BX d x.2=true/\C (.new (CO d x.2) (ly d x.2))):=rfl
def aL (P:Program) (f:FuncId) (G:List AV->Option (Prop×AV)):Prop:=∀ys φ r,G ys=some (φ,r)->φ->yA P f [] ys [] r
def tab:List (FuncId×(List AV->Option (Prop×AV)))->b7|[]=>fun _ _=>none|x::l=>fun g ys=>if g=x.1 then x.2 ys else tab l g ys
def ah {P:Program}:eG P (tab []):=fun _ _ _ _ h=>by cases h
def Ds (p k:Nat) (G:List AV->Option (Prop×AV)) (ys:List AV):Option (Prop×AV):=match ys with|[.ak]=>some (True,.ptr p k)|ys=>G ys
def pL (P:Program) (f:FuncId) (G:List AV->Option (Prop×AV)):Prop:=∀ys φ r,G ys=some (φ,r)->φ->EX P f ys r
def ft {P:Program}{f p k:Nat}{G:List AV->Option (Prop×AV)}{l:List (FuncId×(List AV->Option (Prop×AV)))} (h:pL P f G) (hP:Nat.ble P.funcs.size 1000000=true) (hl:eG P (tab l)) (hf:Nat.blt f 1000000=true:=by rfl):eG P (tab ((f+1000000,Ds p k G)::l)):=by
 intro g ys φ r hg hφ;simp only[tab]at hg;split at hg
 ·rename_i e;refine .inr (.inl ⟨q174 hP,by rw[e];exact q172 _ _,by rw[e];exact q254 (q174 hf) 1000000,?_⟩);unfold Ds at hg;split at hg;·exact .inl rfl
  ·right;rw[show g-1000000=f from by rw[e];exact q163 _ _];exact h ys φ r hg hφ
 ·exact hl g ys φ r hg hφ
def ag {P:Program}{f:FuncId}{G:List AV->Option (Prop×AV)}{l:List (FuncId×(List AV->Option (Prop×AV)))} (h:aL P f G) (hl:eG P (tab l)) (hf:Nat.blt f 1000000=true:=by rfl):eG P (tab ((f,G)::l)):=by
 intro g ys φ r hg hφ;simp only[tab]at hg;split at hg;·rename_i e;subst e;exact .inl ⟨q174 hf,h ys φ r hg hφ⟩
 ·exact hl g ys φ r hg hφ
def bq {P:Program}{f:FuncId}{ks:List Nat}{G:List AV->Option (Prop×AV)}{l:List (FuncId×(List AV->Option (Prop×AV)))} (h:eE P f G) (hP:Nat.ble P.funcs.size 1000000=true) (hl:eG P (tab l)) (hf:Nat.blt f 1000000=true:=by rfl):eG P (tab ((f+1000000,Ds 0 996 fun _=>none)::(f+2000000,Je ks G)::l)):=by
 intro g ys φ r hg hφ;simp only[tab]at hg;split at hg
 ·rename_i e;refine .inr (.inl ⟨q174 hP,by rw[e];exact q172 _ _,by rw[e];exact q254 (q174 hf) 1000000,?_⟩);unfold Ds at hg;split at hg;·exact .inl rfl
  ·cases hg
 ·split at hg
  ·rename_i e;refine .inr (.inr (.inl ⟨q174 hP,by rw[e];exact q172 _ _,by rw[e];exact q254 (q174 hf) 2000000,?_⟩));unfold Je at hg;split at hg;·exact .inl rfl
   ·right;rw[show g-2000000=f from by rw[e];exact q163 _ _];exact h ys φ r hg hφ
  ·exact hl g ys φ r hg hφ
@[simp] def tab_none (f:FuncId) (ys:List AV):tab [] f ys=none:=nr rfl
@[simp] def WU (p k:Nat) (G:List AV->Option (Prop×AV)):Ds p k G [.ak]=some (True,.ptr p k):=nr rfl
@[simp] def tabU_fr (p k:Nat) (G:List AV->Option (Prop×AV)) (e:TypeId) (rows:List (List PV)) (l:List AV):Ds p k G (.fr e rows::l)=G (.fr e rows::l):=nr rfl
@[simp] def tabU_pv (p k:Nat) (G:List AV->Option (Prop×AV)) (q:PV) (l:List AV):Ds p k G (.pv q::l)=G (.pv q::l):=nr rfl
@[simp] def tabU_tup (p k:Nat) (G:List AV->Option (Prop×AV)) (q l:List AV):Ds p k G (.aN q::l)=G (.aN q::l):=nr rfl
@[simp] def tab_look (f g:FuncId) (G:List AV->Option (Prop×AV)) (l:List (FuncId×(List AV->Option (Prop×AV)))) (ys:List AV):tab ((f,G)::l) g ys=if g=f then G ys else tab l g ys:=nr rfl
end Go.Proofs.YtifcndkhigakfaaGreat.Ab.R
namespace Go.Proofs.YtifcndkhigakfaaGreat.Ab
open Go Go.RowKit
abbrev AI.a (d:Nat) (k:AK) (xs:List Operand):AI:=⟨some d,k,xs,none,[],none⟩
abbrev AI.s (k:AK) (xs:List Operand):AI:=⟨none,k,xs,none,[],none⟩
abbrev AI.m (d t:Nat):AI:=⟨some d,.qE,[.tmp t],none,[],none⟩
abbrev AI.b (d:Nat) (k:AK) (xs:List Operand) (g:Nat) (b:Bool):AI:=⟨some d,k,xs,some (g,b),[],none⟩
abbrev AI.pa (d x y:Nat):AI:=⟨some d,.pick,[.tmp x,.tmp y,.const (.bool false)],none,[],none⟩
abbrev AI.u (d:Nat) (k:AK) (t:Nat):AI:=⟨some d,k,[.tmp t],none,[],none⟩
abbrev AI.w (d:Nat) (k:AK) (t u:Nat):AI:=⟨some d,k,[.tmp t,.tmp u],none,[],none⟩
abbrev AI.c (d:Nat) (k:AK) (t:Nat) (n:Int):AI:=⟨some d,k,[.tmp t,.const (.int .i64 n)],none,[],none⟩
end Go.Proofs.YtifcndkhigakfaaGreat.Ab
namespace Go.Proofs.YtifcndkhigakfaaGreat.Ab.R
open Go Go.RowKit
def wrap_i64 {x:Int} (h:-9223372036854775808<=x/\x<=9223372036854775807):IntKind.i64.wrap x=x:=by simp only[IntKind.wrap,IntKind.bits,IntKind.signed];simp;omega
def wrap_u64 {x:Int} (h:0<=x/\x<=18446744073709551615):IntKind.u64.wrap x=x:=by simp only[IntKind.wrap,IntKind.bits,IntKind.signed];simp;omega
def wrap_u8 (x:Int):IntKind.u8.wrap x=x%256:=by simp only[IntKind.wrap,IntKind.bits,IntKind.signed];simp
@[simp] def U0:dx none=none:=rfl
@[simp] def arrO_box (cs:List AV):dx (some (.box cs))=none:=rfl
@[simp] def aau (k:IntKind) (n:Int):(Value.int k n).oneCell'=true:=rfl
@[simp] def XR (b:Bool):(Value.bool b).oneCell'=true:=rfl
@[simp] def vone_str (s:ByteArray):(Value.string s).oneCell'=true:=rfl
@[simp] def Yt (a:Option Addr):(Value.pointer a).oneCell'=true:=rfl
@[simp] def QN (a:Option Addr) (n c:Nat):(Value.slice a n c).oneCell'=true:=rfl
@[simp] def NN:bytesRow []=[]:=rfl
@[simp] def IP (l:List UInt8):(bytesRow l).length=l.length:=by simp[bytesRow]
def bY (l m:List UInt8):bytesRow (l++m)=bytesRow l++bytesRow m:=by simp[bytesRow]
@[simp] def bV (l:List UInt8):∀r∈bytesRow l,r.length=1:=by intro r hr;simp only[bytesRow,q83]at hr;obtain⟨c,_,rfl⟩:=hr;rfl
def yq (c:UInt8) (l:List UInt8):bytesRow (c::l)=[.int .u8 (c.toNat:Int)]::bytesRow l:=rfl
def bytesRow_at {l:List UInt8}{i:Nat} (h:i<l.length):rowAt (bytesRow l) (i:Int)=[.int .u8 (l[i].toNat:Int)]:=by simp[rowAt,bytesRow,h]
@[simp] def HC (l:List UInt8):bytesOf (bytesRow l)=some l:=by induction l with|nil=>rfl|cons c l ih=>
 have hc:byteOf [.int .u8 (c.toNat:Int)]=some c:=by have:=c.toNat_lt;unfold byteOf;simp;omega
 rw[yq];simp only[bytesOf,hc,ih,q121,q131]
def aF:maxLen=9223372036854775807:=rfl
end Go.Proofs.YtifcndkhigakfaaGreat.Ab.R
namespace Go.Proofs.YtifcndkhigakfaaGreat.Ab.R
open Go Go.RowKit
open Classical in noncomputable def dec {α:Type} (f:α->List PV) (rows:List (List PV)):Option (List α):=if h:∃l:List α,l.map f=rows then some h.choose else none
def map_inj {α β:Type}{f:α->β} (hf:∀a b,f a=f b->a=b):∀{l m:List α},l.map f=m.map f->l=m|[],[],_=>rfl|[],_::_,h=>by simp at h|_::_,[],h=>by simp at h|a::l,b::m,h=>by simp only[q74,q112]at h;rw[hf _ _ h.1,map_inj hf h.2]
def jl {α:Type}{f:α->List PV} (hf:∀a b,f a=f b->a=b) (l:List α):dec f (l.map f)=some l:=by unfold dec;have h:∃m:List α,m.map f=l.map f:=⟨l,rfl⟩;rw[dif_pos h];exact congrArg some (map_inj hf h.choose_spec)
def jq {α:Type}{f:α->List PV}{rows:List (List PV)}{l:List α} (h:dec f rows=some l):rows=l.map f:=by
 unfold dec at h;split at h;·rename_i h';simp only[qr]at h;rw[<-h];exact h'.choose_spec.symm
 ·cases h
def dZ (c:UInt8):List PV:=[.int .u8 (c.toNat:Int)]
def G8:∀a b,dZ a=dZ b->a=b:=by intro a b h;simp only[dZ,q112,PV.int.injEq,true_and,and_true]at h;exact q192.1 (by omega)
@[simp] def XL (l:List UInt8):dec dZ (bytesRow l)=some l:=jl G8 l
@[simp] def dec_nil {α:Type} (f:α->List PV):dec f []=some []:=by unfold dec;have h:∃m:List α,m.map f=[]:=⟨[],rfl⟩;rw[dif_pos h];have:=h.choose_spec;simpa using this
def aK {rows:List (List PV)}{l:List UInt8} (h:dec dZ rows=some l):rows=bytesRow l:=jq h
end Go.Proofs.YtifcndkhigakfaaGreat.Ab.R
