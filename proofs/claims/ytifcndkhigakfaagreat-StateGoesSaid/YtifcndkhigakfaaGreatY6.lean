/- The abstract machine is sound, seventh part: append and store. -/
import Derived.Test.YtifcndkhigakfaaGreatY5
set_option linter.unusedVariables false
set_option linter.unusedSimpArgs false
set_option linter.unnecessarySimpa false
set_option maxHeartbeats 40000000
set_option maxRecDepth 100000
set_option linter.defProp false
namespace Go.Proofs.YtifcndkhigakfaaGreat.Ab
open Go Go.RowKit
def q103:=@Nat.min_eq_left
def q148:=@List.take_take
def q168:=@Nat.mul_comm
def q199:=@List.take_append
def q248:=@Nat.div_add_mod
def q249:=@Nat.div_lt_of_lt_mul
def q268:=@List.getElem?_set
def q275:=@Nat.mod_lt
def q282:=@Nat.sub_zero
def q291:=@List.length_set
end Go.Proofs.YtifcndkhigakfaaGreat.Ab
namespace Go.Proofs.YtifcndkhigakfaaGreat.Ab
open Go Go.RowKit
variable {α:Type}{f:FuncId}{ys xs cs:List AV}{φ:Prop}{r X Y:AV}{rows more:List (List PV)}{vals us:List Value}{p:PV}{w':World}{ty:TypeId}{ao:AO}{od:Option Nat}{g1 g2:Nat->AV->AV}
section
variable{P:Program}{S0 L:Nat->Prop}{B0:Nat->Value}{w0 w:World}{N:Nat}{st:St}{a:Act}{β:Nat->Value}{x y z:Operand}{o:Oper}{d:Nat}
def Fo (hh:Heap P (bn S0 w0.heap.size β st.aa w) w β st.aa) {tx:TypeId} (htx:(∃e',P.underlying tx=some (.slice e'))\/P.underlying tx=some .string) {u:Value} (hX:RV P (bn S0 w0.heap.size β st.aa w) w β (aE st.aa) u X) (hm:dk st.aa X=some more) {sz:Nat} (hsz:∀r∈more,r.length=sz):∃news,Src P sz tx u more.length news w/\∀(i j:Nat) (r:List PV) (p:PV),more[i]?=some r->r[j]?=some p->∃c,news[i*sz+j]?=some c/\c.oneCell'=true/\dA (bn S0 w0.heap.size β st.aa w) w c p:=by
 have nilcase:∀(A:Option Addr) (c:Nat),Src P sz tx (.slice A 0 c) 0 [] w:=by intro A c;refine⟨htx,fun _=>rfl,?_,?_,by simp,fun _ h=>by cases h⟩<;>cases A<;>simp[Builtin.firstCells,loadCells,loadCellsFrom]
 cases X with
 |pv p=>cases p with
  |nil=>simp only[dk,qr]at hm;subst hm;rw[hX.bL.eT];exact⟨[],nilcase none 0,fun i j r p h=>by simp at h⟩|ro rows=>
   simp only[dk,qr]at hm;subst hm;obtain⟨A,c,rfl,hc,hne⟩:=hX.bL.gJ;by_cases hz:rows=[];·subst hz;exact⟨[],nilcase A c,fun i j r p h=>by simp at h⟩
   ·obtain⟨ad,sz0,us,rfl,g1,g2,g3,g4,g5⟩:=hne hz;have hs0:sz0=sz:=by obtain⟨r,hr⟩:=q157 rows hz;rw[<-g2 r hr,hsz r hr]
    subst hs0;let L:List (List Value):=(List.range rows.length).map fun i=>(List.range sz0).map (us i);have hL:∀r∈L,r.length=sz0:=fun r hr=>by obtain⟨i,_,rfl⟩:=q83.1 hr;simp
    have hget:∀i j,i<rows.length->j<sz0->(L.flatMap id)[i*sz0+j]?=some (us i j):=fun i j hi hj=>by rw[qZ sz0 L i j hL hj];simp[L,hi,hj]
    have hlen:(L.flatMap id).length=rows.length*sz0:=by
     have:∀M:List (List Value),(∀r∈M,r.length=sz0)->(M.flatMap id).length=M.length*sz0:=by intro M;induction M with|nil=>intro _;simp|cons r M ih=>intro h;simp only[q99,id,q65,h r (by simp),ih (fun q hq=>h q (by simp[hq])),q70,q120];omega
     rw[this L hL];simp[L]
    have hdm:∀k,k<rows.length*sz0->∃i j,k=i*sz0+j/\i<rows.length/\j<sz0:=fun k hk=>by
     have hp:0<sz0:=by
      rcases q154 sz0 with h|h;·rw[h]at hk;omega
      ·exact h
     exact⟨k/sz0,k%sz0,by rw[q168];exact(q248 k sz0).symm,q249 (by rw[q168];exact hk),q275 _ hp⟩
    have hcell:∀(k:Nat) (v:Value),(L.flatMap id)[k]?=some v->w.cell? (ad.add k)=some v:=fun k v hv=>by
     have hk:k<rows.length*sz0:=by rw[<-hlen];exact(q63.1 hv).1
     obtain⟨i,j,rfl,hi,hj⟩:=hdm k hk;rw[hget i j hi hj]at hv;injection hv with hv;rw[<-hv];exact g3 i j hi hj
    have hone:∀v∈L.flatMap id,v.oneCell'=true:=fun v hv=>by
     obtain⟨k,hk⟩:=q116 hv;have hk':k<rows.length*sz0:=by rw[<-hlen];exact(q63.1 hk).1
     obtain⟨i,j,rfl,hi,hj⟩:=hdm k hk';rw[hget i j hi hj]at hk;injection hk with hk;have hr:rows[i]?=some rows[i]:=q62 hi;have hrl:rows[i].length=sz0:=g2 _ (List.mem_of_getElem? hr);rw[<-hk];exact g4 i j _ _ hr (q62 (by omega))
    have hsrc:Src P sz0 tx (.slice (some ad) rows.length c) rows.length (L.flatMap id) w:=⟨htx,fun _=>rfl,run_firstCells_some w sz0 rows.length ad rows.length c _ hlen hcell,run_firstCells_some w.drew sz0 rows.length ad rows.length c _ hlen (by simpa using hcell),hlen,hone⟩;refine⟨L.flatMap id,hsrc,fun i j r p hr hp=>?_⟩;have hi:i<rows.length:=(q63.1 hr).1;have hj:j<sz0:=by rw[<-g2 r (List.mem_of_getElem? hr)];exact(q63.1 hp).1
    exact⟨us i j,hget i j hi hj,g4 i j r p hr hp,g5 i j r p hr hp⟩|str l=>
   simp only[dk,qr]at hm;subst hm;rw[hX.fx];have hll:(bytesRow l).length=l.length:=by simp[bytesRow]
   rw[hll];by_cases hz:l=[];·subst hz;refine⟨[],⟨htx,fun _=>rfl,?_,?_,by simp,fun _ h=>by cases h⟩,fun i j r p h=>by simp[bytesRow]at h⟩<;>simp[Builtin.firstCells]
   ·have hs1:sz=1:=by obtain⟨c,hc⟩:=q157 l hz;rw[<-hsz [.int .u8 (c.toNat:Int)] (by simp only[bytesRow,q83];exact⟨c,hc,rfl⟩)];rfl
    subst hs1;refine⟨byteCells ⟨l.toArray⟩,⟨htx,fun _=>by simp[Builtin.lenOf,QI],?_,?_,?_,?_⟩,fun i j r p hr hp=>?_⟩;·have:=firstCells_string (P:=P) ⟨l.toArray⟩ w;rwa[QI]at this
    ·have:=firstCells_string (P:=P) ⟨l.toArray⟩ w.drew;rwa[QI]at this
    ·rw[byteCells_length,QI,q206]
    ·intro u hu;obtain⟨_,_,rfl⟩:=q83.1 hu;rfl
    ·simp only[bytesRow,q79,q900]at hr;obtain⟨c,hc,rfl⟩:=hr;cases j with|zero=>simp at hp;subst hp;exact⟨.int .u8 c.toNat,by simp[byteCells,hc],rfl,.int _ _⟩|succ j=>simp at hp
  |_=>simp[dk]at hm
 |own t=>
  simp only[dk,q900]at hm;obtain⟨⟨e',rows⟩,hs,rfl⟩:=hm;obtain⟨inf,us,hi,hown,hrl,hcs⟩:=hh.arr (b9 hs);simp only at hown hrl hcs hsz;rw[hX.bo.1];by_cases hz:rows=[];·subst hz;obtain⟨A,c,hv,_⟩:=cN hown;rw[hv];exact⟨[],nilcase A c,fun i j r p h=>by simp at h⟩
  ·have hs0:inf.size=sz:=by obtain⟨r,hr⟩:=q157 rows hz;rw[<-hrl r hr,hsz r hr]
   rcases hown.2 with⟨_,hz0⟩|⟨g,cap,cur,hv,_⟩;·exact absurd (q76 hz0) hz
   ·have hob:(β t).ownBlock=some g:=by rw[hv];rfl
    have hcell:=hown.cells hob;rw[hv];have hone:∀v∈us,v.oneCell'=true:=fun v hv'=>by
     obtain⟨k,hk⟩:=q116 hv';have hk':k<rows.length*inf.size:=by rw[<-hown.1];exact(q63.1 hk).1
     have hp:0<inf.size:=by
      rcases q154 inf.size with h|h;·rw[h]at hk';omega
      ·exact h
     have hi':k/inf.size<rows.length:=q249 (by rw[q168];exact hk');have hr:rows[k/inf.size]?=some rows[k/inf.size]:=q62 hi';have hj:k%inf.size<rows[k/inf.size].length:=by rw[hrl _ (List.mem_of_getElem? hr)];exact q275 _ hp
     obtain⟨c,hc,h1,_⟩:=hcs _ _ _ _ hr (q62 hj);rw[show k/inf.size*inf.size+k%inf.size=k from by rw[q168];exact q248 k inf.size,hk]at hc;injection hc with hc;rw[hc];exact h1
    subst hs0;exact⟨us,⟨htx,fun _=>rfl,run_firstCells_some w inf.size rows.length ⟨g,0,none⟩ rows.length cap us hown.1 hcell,run_firstCells_some w.drew inf.size rows.length ⟨g,0,none⟩ rows.length cap us hown.1 (by simpa using hcell),hown.1,hone⟩,hcs⟩|sub t e1 lo hi=>
  simp only[dk,qB]at hm;obtain⟨⟨e',rows⟩,hs,hm⟩:=hm;split at hm
  ·rename_i hee;simp only at hee hm;subst hee;simp only[qr]at hm;subst hm;obtain⟨inf,us,hi',hown,hrl,hcs⟩:=hh.arr (b9 hs);simp only at hi' hown hrl hcs;obtain⟨inf1,Ad,Ad1,n,c,hdt,hi1,hbt,g1,g2,g3,g4,g5,hx⟩:=hX.iz;rw[hi']at hi1;injection hi1 with hi1;subst hi1;rw[hx];have hlen:((rows.take hi).drop lo).length=hi-lo:=by
    obtain⟨A',c',hv',_⟩:=cN hown;have hn:n=rows.length:=by rw[hbt]at hv';simp at hv';exact hv'.2.1
    simp;omega
   rw[hlen];by_cases hz:hi-lo=0;·rw[hz];refine⟨[],nilcase Ad1 _,fun i j r p h=>?_⟩;have:=(q63.1 h).1;omega
   ·rcases hown.2 with⟨hv,hz0⟩|⟨g,cap,cur,hv,_⟩;·rw[hv]at hbt;simp at hbt;omega
    ·have hob:(β t).ownBlock=some g:=by rw[hv];rfl
     have hcell:=hown.cells hob;rw[hv]at hbt;have hx3:some (⟨g,0,none⟩:Addr)=Ad/\rows.length=n/\cap=c:=by simpa using hbt
     obtain⟨rfl,rfl,rfl⟩:=hx3;have hget:∀(i:Nat) (r:List PV),((rows.take hi).drop lo)[i]?=some r->rows[lo+i]?=some r:=by
      intro i r hr;simp only[q89,q81]at hr;split at hr;·exact hr
      ·cases hr
     have hs0:inf.size=sz:=by
      have h0:rows[lo]?=some rows[lo]:=q62 (by omega);have hmem:rows[lo]∈(rows.take hi).drop lo:=by refine List.mem_of_getElem? (i:=0) ?_;simp only[q89,q81];rw[if_pos (by omega)];exact h0
      rw[<-hrl _ (List.mem_of_getElem? h0),hsz _ hmem]
     subst hs0;have hone:∀v∈us,v.oneCell'=true:=fun v hv'=>by
      obtain⟨k,hk⟩:=q116 hv';have hk':k<rows.length*inf.size:=by rw[<-hown.1];exact(q63.1 hk).1
      have hp:0<inf.size:=by
       rcases q154 inf.size with h|h;·rw[h]at hk';omega
       ·exact h
      have hi'':k/inf.size<rows.length:=q249 (by rw[q168];exact hk');have hr:rows[k/inf.size]?=some rows[k/inf.size]:=q62 hi'';have hj:k%inf.size<rows[k/inf.size].length:=by rw[hrl _ (List.mem_of_getElem? hr)];exact q275 _ hp
      obtain⟨c,hc,h1,_⟩:=hcs _ _ _ _ hr (q62 hj);rw[show k/inf.size*inf.size+k%inf.size=k from by rw[q168];exact q248 k inf.size,hk]at hc;injection hc with hc;rw[hc];exact h1
     let news:=(us.drop (lo*inf.size)).take ((hi-lo)*inf.size);have hfit:lo*inf.size+(hi-lo)*inf.size<=us.length:=by rw[hown.1,<-q151];exact q82 _ (by omega)
     have hnl:news.length=(hi-lo)*inf.size:=by simp only[news,q68,q88];omega
     have hng:∀k,k<(hi-lo)*inf.size->news[k]?=us[lo*inf.size+k]?:=fun k hk=>by simp only[news,q81,q89];rw[if_pos hk]
     have hnc:∀(k:Nat) (v:Value),news[k]?=some v->w.cell? ((⟨g,0,none⟩:Addr).add (lo*inf.size)|>.add k)=some v:=fun k v hk=>by
      have hk':k<(hi-lo)*inf.size:=by rw[<-hnl];exact(q63.1 hk).1
      rw[hng k hk']at hk;rw[gE];exact hcell _ v hk
     rw[g5 (by omega)];refine⟨news,⟨htx,fun _=>rfl,run_firstCells_some w inf.size (hi-lo) _ (hi-lo) _ news hnl hnc,run_firstCells_some w.drew inf.size (hi-lo) _ (hi-lo) _ news hnl (by simpa using hnc),hnl,fun v hv=>hone v (q110 (q96 hv))⟩,fun i j r p hr hp=>?_⟩;obtain⟨c',hc',h1,h2⟩:=hcs (lo+i) j r p (hget i r hr) hp;have hil:i<hi-lo:=by rw[<-hlen];exact(q63.1 hr).1
     have hjl:j<inf.size:=by rw[<-hrl r (List.mem_of_getElem? (hget i r hr))];exact(q63.1 hp).1
     have hlt:i*inf.size+j<(hi-lo)*inf.size:=by have:=q82 inf.size (show i+1<=hi-lo from hil);rw[q120]at this;omega
     exact⟨c',by rw[hng _ hlt,<-hc',q151,q193],h1,h2⟩
  ·cases hm|_=>simp[dk]at hm
variable{t tx e:TypeId}{inf:TypeInfo}
def f_app (ho:o.op=.call {callee:=.builtin .append,args:=#[x,y],argTypes:=#[t,tx]}) (ht:P.underlying t=some (.slice e)) (htx:(∃e',P.underlying tx=some (.slice e'))\/P.underlying tx=some .string) (hi:P.info? e=some inf) (hpos:0<inf.size) (hzt:(eB P e).isSome=true) (h:Rel P S0 L B0 w0 N st a w β) (hd:d<N) (hn:st.aa d=none) (hX:RV P (bn S0 w0.heap.size β st.aa w) w β (aE st.aa) (a.eval x) X) (hY:RV P (bn S0 w0.heap.size β st.aa w) w β (aE st.aa) (a.eval y) Y) {v:AV} (hs:cQ (.app e inf.size inf.bytes) d [X,Y] st.aa=some (φ,v,ao)) (hφ:φ):∃r w',(execOp a.eval o).run P w=.ok (.value r) w'/\∃β',Rel P S0 L B0 w0 N ⟨put (some d) v st.vars,bK [(d,ao)] st.aa⟩ (a.put (some d) r) w' β':=by
 have hXn:X=.pv .nil:=by cases X with
  |pv p=>cases p<;>first|rfl|(simp[cQ]at hs)
  |_=>simp[cQ]at hs
 subst hXn;simp only[cQ,q900]at hs;obtain⟨rows,hrows,he⟩:=hs;simp only[q69]at he;obtain⟨rfl,rfl,rfl⟩:=he;obtain⟨hb1,hb2,hb3⟩:=hφ;obtain⟨zs,hz⟩:=q124.1 hzt;obtain⟨i',zv,hi',hzv,hzs,rfl⟩:=eP hz;have:i'=inf:=by rw[hi]at hi';injection hi' with hi';exact hi'.symm
 subst this;obtain⟨news,hsrc,hms⟩:=Fo h.heap htx hY hrows hb3;obtain⟨v',w',hrun,hown',hg,hbl,_⟩:=rB w t tx o.type e i' zv ht hi hzv hzs hpos (.slice none 0 0) 0 [] (q188 w 0 e i'.size) (a.eval y) rows.length news hsrc (by omega) (by simpa using hb1);have hg':w.grownBy w' none:=hg;have hv:∀b,cI v'=some b->w.heap.size<=b:=fun b hb=>by
  rw[(iE hown').1]at hb;rcases hbl with hb'|hb'<;>rw[hb']at hb;·simp[Value.ownBlock]at hb
  ·injection hb with hb;omega
 have hm:=h.qA hn hg' hv (o:=.arr e rows);have hf:=h.fresh hd hn hg' hv (o:=.arr e rows) ⟨i',[]++news,hi,by rw[bp];simpa using hown',hb3,fun i j r p hr hp=>by obtain⟨c,h1,h2,h3⟩:=hms i j r p hr hp;exact⟨c,by simpa using h1,h2,h3.mono hm.1⟩⟩;rw[cT];have hp:=hf.put (d:=some d) (r:=fL β d v' d) (v:=.own d) (fun s hs=>by injection hs with hs;omega) (.own d (cD.2 (.inl rfl)));rw[bp]at hp;refine⟨v',w',?_,_,hp⟩;simp[execOp,ho,resolve,invoke,builtin,hX.bL.eT,hrun]
def m_app (ho:o.op=.call {callee:=.builtin .append,args:=#[x,y],argTypes:=#[t,tx]}) (ht:P.underlying t=some (.slice e)) (htx:(∃e',P.underlying tx=some (.slice e'))\/P.underlying tx=some .string) (hi:P.info? e=some inf) (hpos:0<inf.size) (hzt:(eB P e).isSome=true) (h:Rel P S0 L B0 w0 N st a w β) (hd:∀s,od=some s->s<N) (hX:RV P (bn S0 w0.heap.size β st.aa w) w β (aE st.aa) (a.eval x) X) (hY:RV P (bn S0 w0.heap.size β st.aa w) w β (aE st.aa) (a.eval y) Y) {tg:Nat} (hs:fo (.app e inf.size inf.bytes) [X,Y] st.aa=some (φ,tg,ao)) (hφ:φ):∃r w',(execOp a.eval o).run P w=.ok (.value r) w'/\∃β',Rel P S0 L B0 w0 N ⟨put od (.own tg) (cO tg st.vars),ba tg ao (dU tg st.aa)⟩ (a.put od r) w' β':=by cases X with
 |own t'=>
  simp only[fo,qB]at hs;obtain⟨⟨e',rows⟩,har,more,hmore,he⟩:=hs;split at he
  ·rename_i hee;simp only[qr,q69]at he;obtain⟨rfl,rfl,rfl⟩:=he;simp only at hee hφ;obtain⟨hee,ht9⟩:=hee;subst hee;obtain⟨hb1,hb2,hb3⟩:=hφ;have har':=b9 har;simp only at har';obtain⟨zs,hz⟩:=q124.1 hzt;obtain⟨i',zv,hi',hzv,hzs,rfl⟩:=eP hz;have:i'=inf:=by rw[hi]at hi';injection hi' with hi';exact hi'.symm
   subst this;obtain⟨inf',us,hinf',hown,hrl,hcs⟩:=h.heap.arr har';have:inf'=i':=by rw[hi]at hinf';injection hinf' with hinf';exact hinf'.symm
   subst this;obtain⟨news,hsrc,hms⟩:=Fo h.heap htx hY hmore hb3;obtain⟨v',w',hrun,hown',hg,hbl,_⟩:=rB w t tx o.type e' inf' zv ht hi hzv hzs hpos (β t') rows.length us hown (a.eval y) more.length news hsrc hb2 hb1;have hR:=h.app ht9 har' hi hown hrl hcs hb3 hms hown' hg hbl;have hp:=hR.put (d:=od) (r:=fL β t' v' t') (v:=.own t') hd (.own t' (cD.2 (.inl rfl)));rw[bp]at hp;refine⟨v',w',?_,_,hp⟩;simp[execOp,ho,resolve,invoke,builtin,hX.bo.1,hrun]
  ·cases he|_=>simp[fo]at hs
def ET (t:Nat) (c:AV):cq t (cq t c)=cq t c:=by cases c with|own s=>by_cases h:s=t<;>simp[cq,h]|bd s e i o=>by_cases h:s=t<;>simp[cq,h]|sub s e lo hi=>by_cases h:s=t<;>simp[cq,h]|bI f cs=>cases cs<;>rfl|_=>rfl
def kq (t:Nat):∀cs:List AV,cf t (cf t cs)=cf t cs|[]=>rfl|c::cs=>by simp only[cf,ET,kq t cs]
def zh (t:Nat) (x:AV):kill t (kill t x)=kill t x:=by cases x with|agg cs=>simp only[kill,kq]|aN cs=>simp only[kill,kq]|cx g v=>simp only[kill,zh t v]|own s=>by_cases h:s=t<;>simp[kill,cq,h]|bd s e i o=>by_cases h:s=t<;>simp[kill,cq,h]|sub s e lo hi=>by_cases h:s=t<;>simp[kill,cq,h]|bI f cs=>cases cs<;>rfl|_=>rfl
def El (t:Nat) (o:AO):eM t (eM t o)=eM t o:=by cases o<;>simp only[eM,kq]
def NL (t:Nat) (e:TypeId) (R:List (List PV)) (x:AV):sh t e R (kill t x)=kill t x:=by have h:=zh t x;cases x with|own s=>by_cases h:s=t<;>simp[sh,kill,cq,h]|sub s e lo hi=>by_cases h:s=t<;>simp[sh,kill,cq,h]|bd s e i o=>by_cases h:s=t<;>simp[sh,kill,cq,h]|bI f cs=>cases cs<;>rfl|agg cs=>exact h|aN cs=>exact h|cx g v=>exact h|_=>rfl
def abb (hL:∀b,L b->S0 b) (ho:o.op=.call {callee:=.builtin .append,args:=#[x,y],argTypes:=#[t,tx]}) (ht:P.underlying t=some (.slice e)) (htx:(∃e',P.underlying tx=some (.slice e'))\/P.underlying tx=some .string) (hi:P.info? e=some inf) (hpos:0<inf.size) (hzt:(eB P e).isSome=true) (h:Rel P S0 L B0 w0 N st a w β) (hd:∀s,od=some s->s<N) (hX:RV P (bn S0 w0.heap.size β st.aa w) w β (aE st.aa) (a.eval x) X) (hY:RV P (bn S0 w0.heap.size β st.aa w) w β (aE st.aa) (a.eval y) Y) {tg:Nat} (hs:Kr st.aa e [X,Y]=some (tg,rows,more)) (hb1:(rows.length+more.length)*inf.bytes<=140737488355328) (hb2:rows.length+more.length<=maxLen) (hb3:∀r∈more,r.length=inf.size) (ht9:tg%1000≠999):∃r w',(execOp a.eval o).run P w=.ok (.value r) w'/\∃β',Rel P S0 L B0 w0 N ⟨put od (.pv (.ro (rows++more))) (EW tg rows st.vars),lq tg st.aa⟩ (a.put od r) w' β':=by cases X with
 |own t'=>
  simp only[Kr,qB]at hs;obtain⟨⟨e',rows'⟩,har,more',hmore,he⟩:=hs;split at he;rotate_left;·cases he
  rename_i hee;simp only[qr,q69]at he;obtain⟨rfl,rfl,rfl⟩:=he;simp only at hee;subst hee;have har':=b9 har;simp only at har';obtain⟨zs,hz⟩:=q124.1 hzt;obtain⟨i',zv,hi',hzv,hzs,rfl⟩:=eP hz;have:i'=inf:=by rw[hi]at hi';injection hi' with hi';exact hi'.symm
  subst this;obtain⟨inf',us,hinf',hown,hrl,hcs⟩:=h.heap.arr har';have:inf'=i':=by rw[hi]at hinf';injection hinf' with hinf';exact hinf'.symm
  subst this;obtain⟨news,hsrc,hms⟩:=Fo h.heap htx hY hmore hb3;obtain⟨v',w',hrun,hown',hg,hbl,hold⟩:=rB w t tx o.type e' inf' zv ht hi hzv hzs hpos (β t') rows'.length us hown (a.eval y) more'.length news hsrc hb2 hb1;have hR:=h.app ht9 har' hi hown hrl hcs hb3 hms hown' hg hbl;have hp:=hR.put (d:=od) (r:=fL β t' v' t') (v:=.own t') hd (.own t' (cD.2 (.inl rfl)));rw[bp]at hp;have hS:=hp.share hL (t:=t') (e:=e') (rows:=rows'++more') (by simp[ba]);have hobj:lq t' (ba t' (.arr e' (rows'++more')) (dU t' st.aa))=lq t' st.aa:=by
   funext s;unfold lq ba dU;by_cases hs:s=t';·simp[hs]
   ·simp only[if_neg hs];cases st.aa s with|none=>rfl|some q=>simp[El]
  simp only at hS;rw[hobj]at hS;have hdt:aE st.aa t':=⟨_,har'⟩;have hblk:cI (β t')=(β t').ownBlock:=(iE hown).1;have hlive:∀b,live (fL β t' v') (lq t' st.aa) b->live β st.aa b/\cI (β t')≠some b:=by rintro b ⟨s,o,hs,hb⟩;obtain⟨hne,o',ho'⟩:=en.1 ⟨o,hs⟩;rw[df _ _ hne]at hb;exact⟨⟨s,o',ho',hb⟩,fun hb'=>hne (h.heap.inj s t' b ⟨o',ho'⟩ hdt hb hb')⟩
  have hm:∀b,bn S0 w0.heap.size β st.aa w b->bn S0 w0.heap.size (fL β t' v') (lq t' st.aa) w' b/\w'.heap[b]?=w.heap[b]?:=by rintro b ⟨h1,h2,h3⟩;refine⟨⟨h1,q97 h2 hg.size,fun hl=>h3 (hlive b hl).1⟩,hg.block b h2 fun hb=>h3 ⟨t',_,har',?_⟩⟩;rw[hblk,<-hb]
  have hbk:∀b,cI (β t')=some b->bn S0 w0.heap.size (fL β t' v') (lq t' st.aa) w' b:=by intro b hb;exact⟨(h.old t' b hdt hb).elim .inr fun hx=>.inl (hL b hx),q97 (h.lt hdt hb) hg.size,fun hl=>(hlive b hl).2 hb⟩
  have hw:bE P (bn S0 w0.heap.size (fL β t' v') (lq t' st.aa) w') w' β (fun _=>False) t' (.arr e' rows'):=by refine⟨inf',us,hi,hold,hrl,fun i j r p h1 h2=>?_⟩;obtain⟨u,hu,h3,h4⟩:=hcs i j r p h1 h2;exact⟨u,hu,h3,h4.mono hm⟩
  have hro:=(Bb hw (fun b hb=>hb) hbk).1;refine⟨v',w',by simp[execOp,ho,resolve,invoke,builtin,hX.bo.1,hrun],fL β t' v',hS.size,hS.defers,fun s=>?_,hS.heap,hS.old,hS.uL,hS.Ar,hS.cu⟩;have hv:=hS.vars s;by_cases hods:od=some s
  ·subst hods;have e1:Ms t' e' (rows'++more') (Ab.put (some s) (.own t') (cO t' st.vars)) s=.pv (.ro (rows'++more')):=by simp[Ms,Ab.put,sh]
   simp only at hv;rw[e1]at hv;have e2:Ab.put (some s) (.pv (.ro (rows'++more'))) (EW t' rows' st.vars) s=.pv (.ro (rows'++more')):=by simp[Ab.put]
   show RV P _ w' _ _ _ (Ab.put (some s) (.pv (.ro (rows'++more'))) (EW t' rows' st.vars) s);rw[e2];exact hv
  ·have e1:Ms t' e' (rows'++more') (Ab.put od (.own t') (cO t' st.vars)) s=kill t' (st.vars s):=by
    have:Ab.put od (.own t') (cO t' st.vars) s=kill t' (st.vars s):=by cases od with|none=>rfl|some q=>simp only[Ab.put];rw[if_neg (fun e=>hods (by rw[e]))];rfl
    unfold Ms;rw[this,NL]
   have e2:Ab.put od (.pv (.ro (rows'++more'))) (EW t' rows' st.vars) s=shA t' rows' (st.vars s):=by cases od with|none=>rfl|some q=>simp only[Ab.put];rw[if_neg (fun e=>hods (by rw[e]))];rfl
   simp only at hv;rw[e1]at hv;show RV P _ w' _ _ _ (Ab.put od (.pv (.ro (rows'++more'))) (EW t' rows' st.vars) s);rw[e2];have hval:(a.put od v').tmps.getD s undef=a.tmps.getD s undef:=by cases od with|none=>rfl|some q=>
    have hq:q<a.tmps.size:=by rw[h.size];exact hd q rfl
    simp only[Act.put];rw[DD _ _ _ _ hq,if_neg (fun e=>hods (by rw[e]))]
   cases hvs:st.vars s with|own u=>
    rw[hvs]at hv;simp only[shA];split;·rename_i hu;subst hu;have hv0:=h.vars s;rw[hvs]at hv0;rw[hval,hv0.bo.1];exact .pv _ _ hro
    ·rename_i hu;simp only[kill,cq,if_neg hu]at hv;exact hv|_=>rw[hvs]at hv;exact hv
 |_=>simp[Kr]at hs
def qp {b i:Nat}{us:Array Value}{vs:List Value} (hb:w.heap[b]?=some (.cells us ty (0,0))) (hi:i+vs.length<=us.size) (hv:∀v∈vs,v.oneCell'=true):(storeCells ⟨b,i,none⟩ vs).run P w=.ok () (w.setRow b (us.toList.take i++vs++us.toList.drop (i+vs.length)).toArray):=by have:=run_storeCells_at P b i ty vs 0 us w hb (by simpa using hi) hv;simpa using this
def DJ:∀(l:List AV) (i:Nat) (c:AV),gP l=true->l[i]?=some c->fk c=true|[],i,c,_,hc=>by simp at hc|y::l,0,c,h,hc=>by simp only[gP,q71]at h;simp at hc;subst hc;exact h.1|y::l,i+1,c,h,hc=>by simp only[gP,q71]at h;exact DJ l i c h.2 (by simpa using hc)
def mQ.gP (hh:Heap P (bn S0 w0.heap.size β st.aa w) w β st.aa)  (h:mQ P (bn S0 w0.heap.size β st.aa w) w β (aE st.aa) us cs) (ho:gP cs=true):∀v∈us,v.oneCell'=true:=fun v hv=>by
 obtain⟨k,hk⟩:=q116 hv;have hlt:k<cs.length:=by rw[<-h.1];exact(q63.1 hk).1
 have hc:cs[k]?=some cs[k]:=q62 hlt;exact(qy hh (h.2 k _ v hc hk) (DJ cs k _ ho hc)).1
def MR (h:Rel P S0 L B0 w0 N st a w β) {t' b:Nat}{cs cs':List AV}{us':Array Value} (hc:st.aa t'=some (.box cs)) (hp:β t'=.pointer (some ⟨b,0,none⟩)) (hos:w'.os=w.os) (htape:w'.tape=w.tape) (hout:w'.output=w.output) (hsz:w'.heap.size=w.heap.size) (hother:∀k,k≠b->w'.heap[k]?=w.heap[k]?) (hb':w'.heap[b]?=some (.cells us' ty (0,0))) (hr:mQ P (bn S0 w0.heap.size β st.aa w) w β (aE st.aa) us'.toList cs') (hone:∀v∈us'.toList,v.oneCell'=true):Rel P S0 L B0 w0 N ⟨st.vars,ba t' (.box cs') st.aa⟩ a w' β:=by
 have hdt:aE st.aa t':=⟨_,hc⟩;have hblk:cI (β t')=some b:=by rw[hp];rfl
 refine(h.yT (o':=.box cs') hc hblk hos htape hout hsz hother ⟨b,us',ty,hp,hb',by rw[<-q87];exact hr.1,fun i c u h1 h2=>?_⟩).1;have h2':us'.toList[i]?=some u:=by simpa using h2
 refine⟨hone u (List.mem_of_getElem? h2'),?_⟩;refine(hr.2 i c u h1 h2').mono (fun k hk=>?_) (fun s hs=>⟨cD.2 (.inr hs),rfl⟩);obtain⟨g1,g2,g3⟩:=hk;have hkb:k≠b:=fun e=>g3 ⟨t',_,hc,by rw[e];exact hblk⟩;refine⟨⟨g1,by omega,?_⟩,hother k hkb⟩;rintro⟨s,q,hs,hk⟩;by_cases e:s=t';·subst e;exact hkb (by rw[hblk]at hk;injection hk with hk;exact hk.symm)
 ·exact g3 ⟨s,q,by simpa[ba,e]using hs,hk⟩
def pR {α:Type}:∀(l:List α) (i:Nat) (v:α),i<l.length->l.set i v=cd l i [v]|[],i,v,h=>by simp at h|x::l,0,v,h=>by simp[cd]|x::l,i+1,v,h=>by have:=pR l i v (by simpa using h);simp only[List.set_cons_succ,this];simp[cd,Nat.add_right_comm]
def fY (l:List α) (i:Nat) (vs:List α) (h:i+vs.length<=l.length):(cd l i vs).length=l.length:=by simp[cd];omega
def j4 (l:List α) (i:Nat) (vs:List α) (h:i+vs.length<=l.length) (k:Nat):(cd l i vs)[k]?=if i<=k/\k<i+vs.length then vs[k-i]? else l[k]?:=by
 unfold cd;by_cases h1:k<i;·rw[q77,q86 (by rw[q68];omega),q81,if_pos h1,if_neg (by omega)]
 ·by_cases h2:k<i+vs.length;·rw[if_pos ⟨by omega,h2⟩,q77,q98 (by rw[q68];omega),q68,q86 (by omega)];congr 1;omega
  ·rw[if_neg (by omega),q98 (by simp;omega),q89];congr 1;simp;omega
def m9 (h:Rel P S0 L B0 w0 N st a w β) {t' b i:Nat}{cs vs:List AV} (hc:st.aa t'=some (.box cs)) (hb:β t'=.pointer (some ⟨b,0,none⟩)) (hone:gP vs=true) (hle:i+vs.length<=cs.length) (hr:mQ P (bn S0 w0.heap.size β st.aa w) w β (aE st.aa) us vs):∃w',(storeCells ⟨b,i,none⟩ us).run P w=.ok () w'/\Rel P S0 L B0 w0 N ⟨st.vars,ba t' (.box (cd cs i vs)) st.aa⟩ a w' β:=by
 obtain⟨b',cur,ty,hp,hheap,hl,hcells⟩:=h.heap.box hc;have hbb:b'=b:=by rw[hb]at hp;simpa using hp.symm
 subst hbb;have hv:=hr.gP h.heap hone;have hin:i+us.length<=cur.size:=by rw[hr.1,hl];exact hle
 refine⟨_,qp (P:=P) hheap hin hv,?_⟩;have hcs:mQ P (bn S0 w0.heap.size β st.aa w) w β (aE st.aa) cur.toList cs:=⟨by simpa using hl,fun k c u h1 h2=>(hcells k c u h1 (by simpa using h2)).2⟩;refine MR h hc hb (us':=(cur.toList.take i++us++cur.toList.drop (i+us.length)).toArray) (ty:=ty) rfl rfl rfl (by simp) (fun k hk=>setRow_other _ _ _ _ hk) (setRow_heap _ _ _ _ _ _ hheap) ?_ (fun v hv'=>?_);·have:cur.toList.take i++us++cur.toList.drop (i+us.length)=cd cur.toList i us:=rfl;rw[show(cur.toList.take i++us++cur.toList.drop (i+us.length)).toArray.toList=cur.toList.take i++us++cur.toList.drop (i+us.length) from rfl];unfold cd;rw[hr.1];exact((hcs.take i).append hr).append (hcs.drop _)
 ·have hv'':v∈cur.toList.take i++us++cur.toList.drop (i+us.length):=hv';simp only[q75]at hv'';have hold:v∈cur.toList->v.oneCell'=true:=fun hm=>by
   obtain⟨k,hk⟩:=q116 hm;have hk':k<cs.length:=by rw[<-hl];simpa using(q63.1 hk).1
   exact(hcells k _ v (q62 hk') (by simpa using hk)).1
  rcases hv'' with(h1|h1)|h1;·exact hold (q96 h1)
  ·exact hv v h1
  ·exact hold (q110 h1)
def nO (h:Rel P S0 L B0 w0 N st a w β) {t' b off:Nat}{i:Int}{n c:Nat}{e:TypeId}{inf:TypeInfo}{ps:List PV} (hc:st.aa t'=some (.arr e rows)) (hi:P.info? e=some inf) (hb:β t'=.slice (some ⟨b,0,none⟩) n c) (h0:0<=i) (h1:i<rows.length) (hle:off+ps.length<=(rowAt rows i).length) (hul:us.length=ps.length) (hr:∀(j:Nat) (p:PV),ps[j]?=some p->∃u,us[j]?=some u/\u.oneCell'=true/\dA (bn S0 w0.heap.size β st.aa w) w u p):∃w',(storeCells ⟨b,i.toNat*inf.size+off,none⟩ us).run P w=.ok () w'/\Rel P S0 L B0 w0 N ⟨st.vars,ba t' (.arr e (rows.set i.toNat (cd (rowAt rows i) off ps))) st.aa⟩ a w' β:=by
 obtain⟨inf',xs,hi',hown,hrl,hcells⟩:=h.heap.arr hc;have:inf'=inf:=by rw[hi]at hi';injection hi' with hi';exact hi'.symm
 subst this;have hg:=oz h0 h1;have hrow:(rowAt rows i).length=inf'.size:=hrl _ (List.mem_of_getElem? hg);have hit:i.toNat<rows.length:=by omega
 have hfit:i.toNat*inf'.size+inf'.size<=rows.length*inf'.size:=by rw[<-q120];exact q82 _ hit
 have hv:∀v∈us,v.oneCell'=true:=fun v hv=>by
  obtain⟨k,hk⟩:=q116 hv;have hk':k<ps.length:=by rw[<-hul];exact(q63.1 hk).1
  obtain⟨u,hu,h2,_⟩:=hr k _ (q62 hk');rw[hk]at hu;injection hu with hu;rw[hu];exact h2
 rcases hown.2 with⟨hnil,_⟩|⟨g,cap,cur,hv',_,hheap,hnc,hcm,hcs,htake⟩;·rw[hb]at hnil;cases hnil
 ·have hgb:g=b:=by rw[hb]at hv';simp at hv';exact hv'.1.symm
  subst hgb;have hnn:n=rows.length/\c=cap:=by rw[hb]at hv';simp at hv';exact hv'
  have hxl:xs.length=rows.length*inf'.size:=hown.1;have hcap:rows.length*inf'.size<=cur.size:=by rw[hcs];exact q82 _ hnc
  have hin:i.toNat*inf'.size+off+us.length<=cur.size:=by rw[hul];omega
  refine⟨_,qp (P:=P) hheap hin hv,?_⟩;have hblk:cI (β t')=some g:=by rw[hb];rfl
  have hmono:∀(cs':Array Value) (o':AO) (k:Nat),bn S0 w0.heap.size β st.aa w k->bn S0 w0.heap.size β (ba t' o' st.aa) (w.setRow g cs') k/\(w.setRow g cs').heap[k]?=w.heap[k]?:=by
   intro cs' o' k hk;obtain⟨g1,g2,g3⟩:=hk;have hkb:k≠g:=fun e=>g3 ⟨t',_,hc,by rw[e];exact hblk⟩;refine⟨⟨g1,by simpa using g2,?_⟩,setRow_other w g k cs' hkb⟩;rintro⟨s,q,hs,hk⟩;by_cases e:s=t';·subst e;exact hkb (by rw[hblk]at hk;injection hk with hk;exact hk.symm)
   ·exact g3 ⟨s,q,by simpa[ba,e]using hs,hk⟩
  refine(h.yT (w':=w.setRow g (cur.toList.take (i.toNat*inf'.size+off)++us++cur.toList.drop (i.toNat*inf'.size+off+us.length)).toArray) (o':=.arr e (rows.set i.toNat (cd (rowAt rows i) off ps))) hc hblk rfl rfl rfl (by simp) (fun k hk=>setRow_other _ _ _ _ hk) ⟨inf',cd xs (i.toNat*inf'.size+off) us,hi,?_,fun r hr'=>?_,fun k j r p hk hp=>?_⟩).1
  ·rw[q291];refine⟨by rw[fY _ _ _ (by rw[hxl,hul];omega)];exact hxl,.inr ⟨g,cap,_,hv',q95 _,setRow_heap _ _ _ _ _ _ hheap,hnc,hcm,?_,?_⟩⟩;·simp;omega
   ·rw[<-htake];simp only[cd];rw[q199,q199];simp only[q65,q68,q87];rw[List.take_of_length_le (l:=List.take (i.toNat*inf'.size+off) cur.toList) (by rw[q68];omega),q148,q103 (by omega)];rw[q103 (by omega)];rw[List.take_of_length_le (l:=us) (by omega)];congr 1;rw[q214]
  ·rcases List.mem_or_eq_of_mem_set hr' with h2|h2;·exact hrl r h2
   ·rw[h2,fY _ _ _ hle,hrow]
  ·rw[q268]at hk;by_cases e1:i.toNat=k
   ·rw[if_pos e1,if_pos hit]at hk;injection hk with hk;subst hk e1;have hjl:j<inf'.size:=by have:=(q63.1 hp).1;rwa[fY _ _ _ hle,hrow]at this
    rw[j4 _ _ _ hle]at hp;rw[j4 _ _ _ (by rw[hxl,hul];omega)];by_cases e2:off<=j/\j<off+ps.length;·rw[if_pos e2]at hp;rw[if_pos (by rw[hul];omega)];obtain⟨u,hu,h2,h3⟩:=hr _ p hp;exact⟨u,by rw[<-hu];congr 1;omega,h2,h3.mono (hmono _ _)⟩
    ·rw[if_neg e2]at hp;rw[if_neg (by rw[hul];omega)];obtain⟨u,hu,h2,h3⟩:=hcells _ j _ p hg hp;exact⟨u,hu,h2,h3.mono (hmono _ _)⟩
   ·rw[if_neg e1]at hk;obtain⟨u,hu,h2,h3⟩:=hcells k j r p hk hp;have hjl:j<inf'.size:=by rw[<-hrl r (List.mem_of_getElem? hk)];exact(q63.1 hp).1
    refine⟨u,?_,h2,h3.mono (hmono _ _)⟩;rw[j4 _ _ _ (by rw[hxl,hul];omega),if_neg ?_];·exact hu
    ·rintro⟨g1,g2⟩;rcases Nat.lt_or_gt_of_ne e1 with hlt|hgt;·have:(i.toNat+1)*inf'.size<=k*inf'.size:=q82 _ hlt;rw[q120]at this;omega
     ·have:(k+1)*inf'.size<=i.toNat*inf'.size:=q82 _ hgt;rw[q120]at this;omega
def ki {ts:TypeId} (ho:o.op=.store ts x y) {ad:Addr} (hx:a.eval x=.pointer (some ad)) (hsz:(sizeOf ts).run P w=.ok (a.eval y).cells.size w) (hst:(storeCells ad (a.eval y).cells.toList).run P w=.ok () w'):(execOp a.eval o).run P w=.ok .skip w':=by simp only[execOp,ho,Instr.storeAt,hx,Instr.sureAddr,storeVar,q186,q198,q160,hsz];simp[hst]
def yZ:∀(cs:List AV) (r:List PV),fR cs=some r->r.length=cs.length/\∀(j:Nat) (p:PV),r[j]?=some p->cs[j]?=some (.pv p)|[],r,hr=>by simp[fR]at hr;subst hr;exact⟨rfl,fun j p hp=>by simp at hp⟩|c::cs,r,hr=>by simp only[fR,qB,q900]at hr;obtain⟨p,hp,ps,hps,rfl⟩:=hr;obtain⟨h1,h2⟩:=yZ cs ps hps;refine⟨by simp[h1],fun j q hq=>?_⟩;cases j with|zero=>simp at hq;subst hq;cases c<;>simp[H9]at hp;subst hp;rfl|succ j=>simpa using h2 j q (by simpa using hq)
def Lc {ts:TypeId} (ho:o.op=.store ts x y) (h1:c7 P ts=some 1) (h:Rel P S0 L B0 w0 N st a w β) (hd:∀s,od=some s->s<N) (hX:RV P (bn S0 w0.heap.size β st.aa w) w β (aE st.aa) (a.eval x) X) (hY:RV P (bn S0 w0.heap.size β st.aa w) w β (aE st.aa) (a.eval y) Y) {tg:Nat} (hs:fo (.store none) [X,Y] st.aa=some (φ,tg,ao)) (hφ:φ):∃w',(execOp a.eval o).run P w=.ok .skip w'/\∃β',Rel P S0 L B0 w0 N ⟨put od .ak st.vars,ba tg ao st.aa⟩ (a.put od undef) w' β':=by cases X with
 |ptr t' i=>
  simp only[fo,qB]at hs;obtain⟨cs,hcs,he⟩:=hs;split at he;·rename_i hcond;obtain⟨hone,hlt⟩:=hcond;simp only[qr,q69]at he;obtain⟨rfl,rfl,rfl⟩:=he;obtain⟨b,hx,hdt,hb⟩:=hX.gM;have hv:=qy h.heap hY hone;obtain⟨w',hst,hR⟩:=m9 h (i:=i) (vs:=[Y]) (us:=[a.eval y]) (gK hcs) hb (by simp[Ab.gP,hone]) (by simp;omega) (.cons hY .nil);rw[<-pR _ _ _ hlt]at hR;exact⟨w',ki ho hx (by rw[hv.2];exact fw h1 w) (by rw[hv.2];exact hst),β,hR.put hd (.ak _)⟩
  ·cases he|bd t' e' i off=>cases Y with
  |pv p=>
   simp only[fo,qB]at hs;obtain⟨⟨e,rows⟩,har,he⟩:=hs;split at he;·rename_i hcond;obtain⟨hee,hlt,hone⟩:=hcond;simp only[qr,q69]at he;obtain⟨rfl,rfl,rfl⟩:=he;simp only at hee hφ hlt;subst hee;obtain⟨b,n,c,inf,hx,hdt,hi,hb⟩:=hX.jQ;have hv:=qy h.heap hY hone;obtain⟨w',hst,hR⟩:=nO h (off:=off) (ps:=[p]) (us:=[a.eval y]) (b9 har) hi hb hφ.1 hφ.2 (by simp;omega) rfl (fun j q hq=>by cases j with|zero=>simp at hq;subst hq;exact⟨_,rfl,hv.1,hY.bL⟩|succ j=>simp at hq);simp only at hR;rw[<-pR _ _ _ hlt]at hR;exact⟨w',ki ho hx (by rw[hv.2];exact fw h1 w) (by rw[hv.2];exact hst),β,hR.put hd (.ak _)⟩
   ·cases he|_=>simp[fo]at hs
 |_=>simp[fo]at hs
def JA {ts:TypeId}{n:Nat} (ho:o.op=.store ts x y) (hn:pf P ts=some (some n)) (h:Rel P S0 L B0 w0 N st a w β) (hd:∀s,od=some s->s<N) (hX:RV P (bn S0 w0.heap.size β st.aa w) w β (aE st.aa) (a.eval x) X) (hY:RV P (bn S0 w0.heap.size β st.aa w) w β (aE st.aa) (a.eval y) Y) {tg:Nat} (hs:fo (.store (some n)) [X,Y] st.aa=some (φ,tg,ao)) (hφ:φ):∃w',(execOp a.eval o).run P w=.ok .skip w'/\∃β',Rel P S0 L B0 w0 N ⟨put od .ak st.vars,ba tg ao st.aa⟩ (a.put od undef) w' β':=by have hsz:=(lJ hn w).2;cases Y with
 |agg vs=>
  obtain⟨us,hy,hl,hcs⟩:=hY.dg;have hcell:(a.eval y).cells=us.toArray:=by rw[hy];rfl
  cases X with
  |ptr t' i=>
   simp only[fo,qB]at hs;obtain⟨cs,hbox,he⟩:=hs;split at he;·rename_i hcond;obtain⟨hone,hvl,hle⟩:=hcond;simp only[qr,q69]at he;obtain⟨rfl,rfl,rfl⟩:=he;obtain⟨b,hx,hdt,hb⟩:=hX.gM;obtain⟨w',hst,hR⟩:=m9 h (i:=i) (vs:=vs) (us:=us) (gK hbox) hb hone (by omega) ⟨hl,hcs⟩;exact⟨w',ki ho hx (by rw[hcell];simpa[hl,hvl]using hsz) (by rw[hcell];exact hst),β,hR.put hd (.ak _)⟩
   ·cases he|bd t' e' i off=>
   simp only[fo,qB]at hs;obtain⟨⟨e,rows⟩,har,ps,hps,he⟩:=hs;split at he;·rename_i hcond;obtain⟨hee,hone,hpl,hle⟩:=hcond;simp only[qr,q69]at he;obtain⟨rfl,rfl,rfl⟩:=he;simp only at hee hφ hle;subst hee;obtain⟨b,n',c,inf,hx,hdt,hi,hb⟩:=hX.jQ;obtain⟨g1,g2⟩:=yZ vs ps hps;have hones:=mQ.gP h.heap (us:=us) (cs:=vs) ⟨hl,hcs⟩ hone;obtain⟨w',hst,hR⟩:=nO h (off:=off) (ps:=ps) (us:=us) (b9 har) hi hb hφ.1 hφ.2 (by simp only;omega) (by omega) (fun j q hq=>by
    have hvj:=g2 j q hq;have hlt:j<us.length:=by rw[hl];exact(q63.1 hvj).1
    have hu:us[j]?=some us[j]:=q62 hlt;exact⟨_,hu,hones _ (List.mem_of_getElem? hu),(hcs j _ _ hvj hu).bL⟩);exact⟨w',ki ho hx (by rw[hcell];simp only[q107,hl,<-g1,hpl];exact hsz) (by rw[hcell];exact hst),β,hR.put hd (.ak _)⟩
   ·cases he|_=>simp[fo]at hs
 |_=>cases X<;>simp[fo]at hs
end
def AP (l m:List (Nat×AO)) (t:Nat):ab (l++m) t=match ab l t with|some o=>some o|none=>ab m t:=by induction l with|nil=>rfl|cons x l ih=>
 obtain⟨k,v⟩:=x;simp only[q137,ab];by_cases h:t=k;·simp[h]
 ·simp only[if_neg h];exact ih
def kE (g:Nat->Nat) (hg:∀a b,g a=g b->a=b):∀(l:List (Nat×AO)) (t:Nat),ab (l.map fun x=>(g x.1,x.2)) (g t)=ab l t
 |[],t=>rfl|(k,v)::l,t=>by
  simp only[q74,ab];by_cases h:t=k;·simp[h]
  ·rw[if_neg (fun e=>h (hg _ _ e)),if_neg h];exact kE g hg l t
def jU (g:Nat->Nat):∀(l:List (Nat×AO)) (t:Nat),(∀s,g s≠t)->ab (l.map fun x=>(g x.1,x.2)) t=none|[],t,_=>rfl|(k,v)::l,t,h=>by simp only[q74,ab];rw[if_neg (fun e=>h k e.symm)];exact jU g l t h
def xJ:∀(cs:List AV) (k:Nat) (p:Nat),ab (gR k cs) p=if p%1000=0/\k<=p/1000 then dO (cs[p/1000-k]?) else none
 |[],k,p=>by simp[gR,ab,dO]|c::cs,k,p=>by
  have ih:=xJ cs (k+1) p;have hc:∀(q:Option AO),(q=dO (some c))->(if p=1000*k then q else ab (gR (k+1) cs) p)=if p%1000=0/\k<=p/1000 then dO ((c::cs)[p/1000-k]?) else none:=by
   intro q hq;by_cases h:p=1000*k
   ·subst h;have h1:1000*k%1000=0:=by omega
    have h2:1000*k/1000=k:=by omega
    simp[h1,h2,hq]
   ·rw[if_neg h,ih];by_cases h1:p%1000=0/\k<=p/1000
    ·have h2:k+1<=p/1000:=by omega
     rw[if_pos h1,if_pos ⟨h1.1,h2⟩];have:p/1000-k=(p/1000-(k+1))+1:=by omega
     rw[this];simp
    ·rw[if_neg h1,if_neg (by omega)]
  cases c with|fr e rows=>exact hc _ rfl|_=>
   have:=hc none rfl;simp only[gR];rw[ih]at this |-;rw[<-this];by_cases h:p=1000*k;·subst h;rw[if_pos rfl,if_neg (by omega)]
   ·rw[if_neg h]
def Ah (v:AV) (p:Nat):ab (mU v) p=if p%1000=0 then dO (bS v (p/1000)) else none:=by cases v with
 |agg cs=>simp only[mU,xJ,bS];by_cases h:p%1000=0<;>simp[h]|fr e rows=>
  simp only[mU,ab,bS];by_cases h:p=0;·subst h;rfl
  ·rw[if_neg h];by_cases h1:p%1000=0
   ·have:¬p/1000=0:=by omega
    simp[h1,this,dO]
   ·simp[h1]|_=>
  simp only[mU,ab,bS];split;·split<;>rfl
  ·rfl
def vQ:∀(vs:List AV) (k:Nat) (p:Nat),k+vs.length<=1000->ab (ng k vs) p=if k<=p%1000 then dO ((vs[p%1000-k]?).bind fun v=>bS v (p/1000)) else none
 |[],k,p,_=>by simp[ng,ab,dO]|v::vs,k,p,hk=>by
  simp only[q70]at hk;have ih:=vQ vs (k+1) p (by omega);simp only[ng,AP];have h1:ab ((mU v).map fun x=>(x.1+k,x.2)) p=if p%1000=k then dO (bS v (p/1000)) else none:=by
   by_cases hle:k<=p
   ·have he:p=(p-k)+k:=by omega
    rw[show ab ((mU v).map fun x=>(x.1+k,x.2)) p=ab ((mU v).map fun x=>(x.1+k,x.2)) ((p-k)+k) from by rw[<-he]];rw[kE (fun x=>x+k) (fun a b h=>by omega),Ah];by_cases h2:p%1000=k
    ·have h3:(p-k)%1000=0:=by omega
     have h4:(p-k)/1000=p/1000:=by omega
     rw[if_pos h3,if_pos h2,h4]
    ·have h3:¬(p-k)%1000=0:=by omega
     rw[if_neg h3,if_neg h2]
   ·rw[jU (fun x=>x+k) _ _ (fun s=>by omega)];rw[if_neg (by omega)]
  rw[h1,ih];by_cases h2:p%1000=k
  ·have h3:¬k+1<=p%1000:=by omega
   have h4:k<=p%1000:=by omega
   have h5:p%1000-k=0:=by omega
   rw[if_pos h2,if_neg h3,if_pos h4,h5];simp only[q72,q131];cases dO (bS v (p/1000))<;>rfl
  ·rw[if_neg h2];simp only;by_cases h3:k<=p%1000
   ·have h4:k+1<=p%1000:=by omega
    rw[if_pos h4,if_pos h3];have:p%1000-k=(p%1000-(k+1))+1:=by omega
    rw[this];simp
   ·have h4:¬k+1<=p%1000:=by omega
    rw[if_neg h4,if_neg h3]
def RT (r:AV) (h:∀vs,r≠.aN vs):DU r=mU r:=by cases r<;>first|rfl|exact absurd rfl (h _)
def fq (r:AV) (h:∀vs,r≠.aN vs) (p:Nat):cellAt r p=if p%1000=0 then bS r (p/1000) else none:=by cases r<;>first|rfl|exact absurd rfl (h _)
def Gd (r:AV) (h:∀vs,r≠.aN vs):flat r=mA r:=by cases r<;>first|rfl|exact absurd rfl (h _)
def CH (r:AV) (h:∀vs,r≠.agg vs):mA r=pM r:=by cases r<;>first|rfl|exact absurd rfl (h _)
def ic (r:AV) (h:∀vs,r≠.agg vs) (j:Nat):bS r j=if j=0 then some r else none:=by cases r<;>first|rfl|exact absurd rfl (h _)
def J8 (r:AV) (h:qL r=true) (p:Nat):ab (DU r) p=dO (cellAt r p):=by
 have key:∀v:AV,ab (mU v) p=dO (if p%1000=0 then bS v (p/1000) else none):=fun v=>by rw[Ah];split<;>rfl
 cases r with|aN vs=>simp only[qL,decide_eq_true_eq]at h;simp only[DU,vQ vs 0 p (by omega),q95,if_true,q282];rfl|_=>rw[RT _ (fun vs h=>by cases h),fq _ (fun vs h=>by cases h)];exact key _
def gq (d:Nat) (r:AV) (h:qL r=true) (p:Nat):ab (aU d r) (d+1000*p)=dO (cellAt r p):=by unfold aU;rw[kE (fun x=>d+1000*x) (fun a b h=>by omega),J8 r h]
def we (d:Nat) (r:AV) (t:Nat) {o:AO} (h:ab (aU d r) t=some o):∃p,t=d+1000*p:=by
 by_cases hx:∃p,d+1000*p=t;·obtain⟨p,hp⟩:=hx;exact⟨p,hp.symm⟩
 ·unfold aU at h;rw[jU (fun x=>d+1000*x) _ _ (fun s hs=>hx ⟨s,hs⟩)]at h;cases h
def ju:∀(l:List (Nat×AO)) (t:Nat) (o:AO),ab l t=some o->∃x∈l,x.1=t
 |[],t,o,h=>by simp[ab]at h|(k,v)::l,t,o,h=>by
  simp only[ab]at h;by_cases e:t=k;·exact⟨(k,v),by simp,e.symm⟩
  ·rw[if_neg e]at h;obtain⟨x,hx,hxt⟩:=ju l t o h;exact⟨x,by simp[hx],hxt⟩
section
variable{P:Program}{S1 S2:Nat->Prop}{w1 w2:World}{β1 β2:Nat->Value}{D1 D2:Nat->Prop}
def ou (g:Nat->AV->AV):∀(cs:List AV) (j k:Nat),(gQ g j cs)[k]?=(cs[k]?).map (g (1000*(j+k)))|[],j,k=>by simp[gQ]|c::cs,j,0=>by simp[gQ]|c::cs,j,k+1=>by simp only[gQ,q177,ou g cs (j+1) k];rw[show j+1+k=j+(k+1) from by omega]
def ma (g:Nat->AV->AV):∀(cs:List AV) (j:Nat),(gQ g j cs).length=cs.length|[],j=>rfl|c::cs,j=>by simp[gQ,ma g cs (j+1)]
def oh (g:Nat->AV->AV):∀(vs:List AV) (i k:Nat),(jN g i vs)[k]?=(vs[k]?).map (pg fun p c=>g (p+(i+k)) c)|[],i,k=>by simp[jN]|v::vs,i,0=>by simp[jN]|v::vs,i,k+1=>by simp only[jN,q177,oh g vs (i+1) k];rw[show i+1+k=i+(k+1) from by omega]
def lO (g:Nat->AV->AV):∀(vs:List AV) (i:Nat),(jN g i vs).length=vs.length|[],i=>rfl|v::vs,i=>by simp[jN,lO g vs (i+1)]
def xx {v:Value} (h:∀j c u,bS r j=some c->RV P S1 w1 β1 D1 u (g1 (1000*j) c)->RV P S2 w2 β2 D2 u (g2 (1000*j) c)) (hr:RV P S1 w1 β1 D1 v (pg g1 r)):RV P S2 w2 β2 D2 v (pg g2 r):=by cases r with|agg cs=>obtain⟨us,rfl,hl,hc⟩:=RV.dg (show RV P S1 w1 β1 D1 v (.agg (gQ g1 0 cs)) from hr);refine .agg _ us (by rw[ma];rw[ma]at hl;exact hl) fun i c u h1 h2=>?_;rw[ou]at h1;obtain⟨c',hc',rfl⟩:=q900.1 h1;rw[q126];refine h i c' u hc' ?_;have:=hc i _ u (by rw[ou,hc'];rfl) h2;rwa[q126]at this|_=>exact h 0 _ v rfl hr
def lM {v:Value} (ht:qL r=true) (h:∀p c u,cellAt r p=some c->RV P S1 w1 β1 D1 u (g1 p c)->RV P S2 w2 β2 D2 u (g2 p c)) (hr:RV P S1 w1 β1 D1 v (dn g1 r)):RV P S2 w2 β2 D2 v (dn g2 r):=by
 have key:∀r:AV,(∀vs,r≠.aN vs)->(∀p c u,cellAt r p=some c->RV P S1 w1 β1 D1 u (g1 p c)->RV P S2 w2 β2 D2 u (g2 p c))->RV P S1 w1 β1 D1 v (pg g1 r)->RV P S2 w2 β2 D2 v (pg g2 r):=by
  intro r hne h hr;refine xx (fun j c u hc hu=>h (1000*j) c u ?_ hu) hr;have h1:1000*j%1000=0:=by omega
  have h2:1000*j/1000=j:=by omega
  cases r<;>first|(exact absurd rfl (hne _))|(simp only[cellAt,h1,h2,if_true];exact hc)
 cases r with|aN vs=>
  obtain⟨us,rfl,hl,hc⟩:=RV.jt (show RV P S1 w1 β1 D1 v (.aN (jN g1 0 vs)) from hr);simp only[qL,decide_eq_true_eq]at ht;refine .aN _ us (by rw[lO];rw[lO]at hl;exact hl) fun i c u h1 h2=>?_;rw[oh]at h1;obtain⟨c',hc',rfl⟩:=q900.1 h1;have hlt:i<1000:=by have:=(q63.1 hc').1;omega
  refine xx (fun j c u hcell hu=>?_) (hc i _ u (by rw[oh,hc'];rfl) h2);refine h (1000*j+(0+i)) c u ?_ hu;have h1:(1000*j+(0+i))%1000=i:=by omega
  have h2:(1000*j+(0+i))/1000=j:=by omega
  simp only[cellAt,h1,h2,hc',q131];exact hcell|_=>exact key _ (fun vs h=>by cases h) h hr
end
def xW (r:AV) (h:dv r=true):qL r=true:=by cases r with|aN vs=>simp only[dv,q71,decide_eq_true_eq]at h;simp only[qL,decide_eq_true_eq];omega|_=>rfl
def Le (r:AV) (h:∀vs,r≠.aN vs):dv r=nL r:=by cases r<;>first|rfl|exact absurd rfl (h _)
def MJ (r:AV) (h:∀vs,r≠.agg vs):nL r=j5 r:=by cases r<;>first|rfl|exact absurd rfl (h _)
def Dw:∀(r:AV) (p:Nat) (c:AV),dv r=true->cellAt r p=some c->j5 c=true:=by
 have hL:∀(cs:List AV) (i:Nat) (c:AV),mZ cs=true->cs[i]?=some c->j5 c=true:=by intro cs;induction cs with|nil=>intro i c _ h;simp at h|cons x cs ih=>intro i c h hc;simp only[mZ,q71]at h;cases i with|zero=>simp at hc;subst hc;exact h.1|succ i=>exact ih i c h.2 (by simpa using hc)
 have h1:∀(v:AV) (j:Nat) (c:AV),nL v=true->bS v j=some c->j5 c=true:=by intro v j c h hc;cases v with|agg cs=>exact hL cs j c h hc|_=>
  rw[ic _ (fun vs h=>by cases h)]at hc;rw[MJ _ (fun vs h=>by cases h)]at h;split at hc;·injection hc with hc;subst hc;exact h
  ·cases hc
 have hV:∀(vs:List AV) (i:Nat) (v:AV),ui vs=true->vs[i]?=some v->nL v=true:=by intro vs;induction vs with|nil=>intro i v _ h;simp at h|cons x vs ih=>intro i v h hc;simp only[ui,q71]at h;cases i with|zero=>simp at hc;subst hc;exact h.1|succ i=>exact ih i v h.2 (by simpa using hc)
 intro r p c h hc;cases r with|aN vs=>simp only[cellAt,qB]at hc;obtain⟨v,hv,hc⟩:=hc;simp only[dv,q71]at h;exact h1 v _ c (hV vs _ v h.2 hv) hc|_=>
  rw[fq _ (fun vs h=>by cases h)]at hc;rw[Le _ (fun vs h=>by cases h)]at h;split at hc;·exact h1 _ _ c h hc
  ·cases hc
def gw {S1 S2:Nat->Prop}{w1 w2:World}{v:Value} (h:dA S1 w1 v p) (hf:jg p=true):dA S2 w2 v p:=by cases h with|int k n=>exact .int k n|bool b=>exact .bool b|str l=>exact .str l|nil=>exact .nil|val v h=>exact .val v h|mp b us c ks h1 h2 h3 h4=>cases hf|mv b us c es h1 h2 h3 h4 h5 h6=>cases hf|pt ad cs us h1 h2 h3 h4=>cases hf|zk A c=>exact .zk A c|ro ad c rows sz us h1 h2 h3 h4 h5 h6=>
 have:rows=[]:=by simpa[jg]using hf
 subst this;exact .zk _ _
def jx:∀(r:AV) (p:Nat) (c:AV),flat r->cellAt r p=some c->pM c:=by
 have hL:∀(cs:List AV) (i:Nat) (c:AV),qG cs->cs[i]?=some c->pM c:=by intro cs;induction cs with|nil=>intro i c _ h;simp at h|cons x cs ih=>intro i c h hc;cases i with|zero=>simp at hc;subst hc;exact h.1|succ i=>exact ih i c h.2 (by simpa using hc)
 have h1:∀(v:AV) (j:Nat) (c:AV),mA v->bS v j=some c->pM c:=by intro v j c h hc;cases v with|agg cs=>exact hL cs j c h hc|_=>
  rw[ic _ (fun vs h=>by cases h)]at hc;rw[CH _ (fun vs h=>by cases h)]at h;split at hc;·injection hc with hc;subst hc;exact h
  ·cases hc
 have hV:∀(vs:List AV) (i:Nat) (v:AV),tD vs->vs[i]?=some v->mA v:=by intro vs;induction vs with|nil=>intro i v _ h;simp at h|cons x vs ih=>intro i v h hc;cases i with|zero=>simp at hc;subst hc;exact h.1|succ i=>exact ih i v h.2 (by simpa using hc)
 intro r p c h hc;cases r with|aN vs=>simp only[cellAt,qB]at hc;obtain⟨v,hv,hc⟩:=hc;exact h1 v _ c (hV vs _ v h hv) hc|_=>
  rw[fq _ (fun vs h=>by cases h)]at hc;rw[Gd _ (fun vs h=>by cases h)]at h;split at hc;·exact h1 _ _ c h hc
  ·cases hc
section
variable{P:Program}{S S':Nat->Prop}{w:World}{β β':Nat->Value}{aa:Nat->Option AO}{D':Nat->Prop}
def qo (hh:Heap P S w β aa) (hS:∀b,S b->S' b) {u:Value}{c:AV} (h:RV P S w β (aE aa) u c) (hr:eU aa c=some p) (hp:iL c=true\/∀t b,aE aa t->cI (β t)=some b->S' b):dA S' w u p:=by have hm:∀b,S b->S' b/\w.heap[b]?=w.heap[b]?:=fun b hb=>⟨hS b hb,rfl⟩;cases c with
 |pv q=>have hq:=h.bL;cases q with|nil=>simp only[eU,qr]at hr;subst hr;rw[hq.eT];exact .zk none 0|_=>simp only[eU,qr]at hr;subst hr;exact hq.mono hm
 |own t=>
  have hall:∀t b,aE aa t->cI (β t)=some b->S' b:=by
   rcases hp with h|h;·simp[iL]at h
   ·exact h
  have hr:IH (aa t)=some p:=hr;unfold IH at hr;split at hr;rotate_left
  ·rename_i es hes;split at hr;rotate_left;·cases hr
   rename_i hun;rw[q85]at hun;simp only[qr]at hr;subst hr;obtain⟨b,us,c,hb,hbk,hl,hc⟩:=hh.holds t _ hes;rw[h.bo.1,hb];refine .mp b us c _ (hall t b ⟨_,hes⟩ (by rw[hb];rfl)) hbk (by simpa using hl) fun i k u h1 h2=>?_;rw[q79]at h1;obtain⟨e,he,rfl⟩:=q900.1 h1;obtain⟨g1,g2⟩:=hc i e u he h2;refine⟨g1,?_⟩;have hu:=hun e (List.mem_of_getElem? he);unfold Gv at hu;split at hu;·rename_i he2;rw[he2]at g2;generalize u.val=V at g2 |-;cases g2 with|agg cs vs hl0 _=>have:vs=[]:=q76 hl0;subst this;rfl
   ·cases hu
  ·rename_i es hes;simp only[qr]at hr;subst hr;obtain⟨b,us,c,hb,hbk,hst,hl,hc⟩:=hh.holds t _ hes;rw[h.bo.1,hb];exact .mv b us c es (hall t b ⟨_,hes⟩ (by rw[hb];rfl)) hbk hst hl (fun i e u h1 h2=>⟨(hc i e u h1 h2).1,(hc i e u h1 h2).2.1,(hc i e u h1 h2).2.2.1⟩) fun i e u h1 h2=>(hc i e u h1 h2).2.2.2.mono hm
  ·cases hr
  rename_i e rows har0;simp only[qr]at hr;subst hr;have har:dx (aa t)=some (e,rows):=by rw[har0];rfl
  obtain⟨inf,us,hi,hown,hrl,hcs⟩:=hh.arr (b9 har);simp only at hown hrl hcs;rw[h.bo.1];by_cases hz:rows=[];·subst hz;obtain⟨A,c,hv,_⟩:=cN hown;rw[hv];exact .zk A c
  ·rcases hown.2 with⟨_,hz0⟩|⟨g,cap,cur,hv,_,hheap,hnc,_⟩;·exact absurd (q76 hz0) hz
   ·have hob:(β t).ownBlock=some g:=by rw[hv];rfl
    have hcell:=hown.cells hob;rw[hv];have hlook:∀i j,i<rows.length->j<inf.size->∃u,us[i*inf.size+j]?=some u:=fun i j hi hj=>by
     have hr:rows[i]?=some rows[i]:=q62 hi;have hj':j<rows[i].length:=by rw[hrl _ (List.mem_of_getElem? hr)];exact hj
     obtain⟨u,hu,_⟩:=hcs i j _ _ hr (q62 hj');exact⟨u,hu⟩
    refine .ro ⟨g,0,none⟩ cap rows inf.size (fun i j=>us.getD (i*inf.size+j) undef) (hall t g ⟨_,b9 har⟩ (by rw[hv];rfl)) hnc hrl (fun i j hi hj=>?_) (fun i j r p h1 h2=>?_) (fun i j r p h1 h2=>?_);·obtain⟨u,hu⟩:=hlook i j hi hj;rw[hcell _ u hu];simp[q80,hu]
    ·obtain⟨u,hu,h3,_⟩:=hcs i j r p h1 h2;simp only[q80,hu,q101];exact h3
    ·obtain⟨u,hu,_,h3⟩:=hcs i j r p h1 h2;simp only[q80,hu,q101];exact h3.mono hm|sub t e1 lo hi=>
  simp only[eU,qB]at hr;obtain⟨⟨e,rows⟩,har,hr⟩:=hr;split at hr
  ·rename_i hee;simp only at hee;subst hee;simp only[qr]at hr;subst hr;have hall:∀t b,aE aa t->cI (β t)=some b->S' b:=by
    rcases hp with h|h;·simp[iL]at h
    ·exact h
   exact EA (hh.arr (b9 har)) hS (fun b hb=>hall t b ⟨_,b9 har⟩ hb) h
  ·cases hr|_=>simp[eU]at hr
def sO:∀(cs:List AV) (ps:List PV),ja aa cs=some ps->ps.length=cs.length/\∀(i:Nat) (p:PV),ps[i]?=some p->∃c,cs[i]?=some c/\eU aa c=some p|[],ps,h=>by simp[ja]at h;subst h;exact⟨rfl,fun i p hp=>by simp at hp⟩|c::cs,ps,h=>by simp only[ja,qB,q900]at h;obtain⟨p,hp,qs,hqs,rfl⟩:=h;obtain⟨h1,h2⟩:=sO cs qs hqs;refine⟨by simp[h1],fun i q hq=>?_⟩;cases i with|zero=>simp at hq;subst hq;exact⟨c,rfl,hp⟩|succ i=>obtain⟨c',h3,h4⟩:=h2 i q (by simpa using hq);exact⟨c',by simpa using h3,h4⟩
def jD:∀(cs:List AV) (i:Nat) (c:AV),iY cs=true->cs[i]?=some c->iL c=true|[],i,c,_,h=>by simp at h|x::cs,0,c,h,hc=>by simp only[iY,q71]at h;simp at hc;subst hc;exact h.1|x::cs,i+1,c,h,hc=>by simp only[iY,q71]at h;exact jD cs i c h.2 (by simpa using hc)
def wC (hh:Heap P S w β aa) (hS:∀b,S b->S' b) {u:Value}{x y:AV} (h:RV P S w β (aE aa) u x) (hr:gj aa x=some y) (hp:eL x=true\/∀t b,aE aa t->cI (β t)=some b->S' b):RV P S' w β' D' u y:=by
 have hm:∀b,S b->S' b/\w.heap[b]?=w.heap[b]?:=fun b hb=>⟨hS b hb,rfl⟩;have hgen:∀{x:AV}{q:Option PV},RV P S w β (aE aa) u x->eU aa x=q->(iL x=true\/∀t b,aE aa t->cI (β t)=some b->S' b)->q.map AV.pv=some y->RV P S' w β' D' u y:=by intro x q h hq hp hy;obtain⟨p,rfl,rfl⟩:=q900.1 hy;exact .pv _ _ (qo hh hS h hq hp)
 cases x with
 |ptr t o=>
  simp only[gj,qB,q900]at hr;obtain⟨cs,hcs,ps,hps,rfl⟩:=hr;have hall:∀t b,aE aa t->cI (β t)=some b->S' b:=by
   rcases hp with h|h;·simp[eL,iL]at h
   ·exact h
  obtain⟨b,rfl,hd,hb⟩:=h.gM;obtain⟨b',cur,ty,hpt,hheap,hl,hcells⟩:=hh.box (gK hcs);have hbb:b'=b:=by rw[hb]at hpt;simpa using hpt.symm
  subst hbb;obtain⟨h1,h2⟩:=sO _ ps hps;have hlook:∀(j:Nat) (p:PV),ps[j]?=some p->∃c v,cs[o+j]?=some c/\eU aa c=some p/\cur[o+j]?=some v/\v.oneCell'=true/\RV P S w β (aE aa) v c:=fun j p hj=>by
   obtain⟨c,hc,hrc⟩:=h2 j p hj;rw[q89]at hc;have hlt:o+j<cur.size:=by rw[hl];exact(q63.1 hc).1
   have hv:cur[o+j]?=some cur[o+j]:=q136 hlt;exact⟨c,_,hc,hrc,hv,(hcells _ c _ hc hv).1,(hcells _ c _ hc hv).2⟩
  refine .rp ⟨b',o,none⟩ ps (fun j=>cur.getD (o+j) undef) (hall t b' ⟨_,gK hcs⟩ (by rw[hpt];rfl)) (fun j hj=>?_) (fun j p hj=>?_) (fun j p hj=>?_);·obtain⟨c,v,_,_,hv,_⟩:=hlook j _ (q62 hj);rw[q100,cell_of_row w b' _ cur ty (0,0) hheap];simp[q129,hv]
  ·obtain⟨c,v,_,_,hv,h3,_⟩:=hlook j p hj;simp only[q129,hv,q101];exact h3
  ·obtain⟨c,v,_,hrc,hv,_,h3⟩:=hlook j p hj;simp only[q129,hv,q101];exact qo hh hS h3 hrc (.inr hall)|rp cs=>simp only[gj,qr]at hr;subst hr;obtain⟨ad,us,rfl,h1,h2,h3,h4⟩:=h.kH;exact .rp ad cs us (hS _ h1) h2 h3 (fun j p hj=>(h4 j p hj).mono hm)|agg cs=>
  simp only[gj,q900]at hr;obtain⟨ps,hps,rfl⟩:=hr;obtain⟨us,rfl,hl,hc⟩:=h.dg;obtain⟨h1,h2⟩:=sO _ ps hps;refine .agg _ us (by simp[hl,h1]) fun i c v hi hv=>?_;rw[q79,q900]at hi;obtain⟨p,hp',rfl⟩:=hi;obtain⟨c',hc',hrc⟩:=h2 i p hp';refine .pv _ _ (qo hh hS (hc i c' v hc' hv) hrc ?_);rcases hp with hp|hp;·exact .inl (jD cs i c' hp hc')
  ·exact .inr hp|bI f caps=>cases caps with|nil=>simp only[gj,qr]at hr;subst hr;obtain⟨us,rfl,hl,_⟩:=h.oo;exact .bI f [] us hl (fun i c u hc=>by simp at hc)|cons c cs=>simp[gj,eU]at hr
 |pv q=>exact hgen h rfl (.inl rfl) hr|own t=>exact hgen h rfl hp hr|bd t e i o=>simp[gj,eU]at hr|sub t e lo hi=>exact hgen h rfl hp hr|aN cs=>simp[gj,eU]at hr|fr e rows=>simp[gj,eU]at hr|bx cs=>simp[gj,eU]at hr|mf es=>simp[gj,eU]at hr|cx g v=>simp[gj,eU]at hr|ak=>simp[gj,eU]at hr
def yN:∀(cs ys:List AV),mE aa cs=some ys->ys.length=cs.length/\∀(i:Nat) (y:AV),ys[i]?=some y->∃c,cs[i]?=some c/\gj aa c=some y|[],ps,h=>by simp[mE]at h;subst h;exact⟨rfl,fun i p hp=>by simp at hp⟩|c::cs,ps,h=>by simp only[mE,qB,q900]at h;obtain⟨p,hp,qs,hqs,rfl⟩:=h;obtain⟨h1,h2⟩:=yN cs qs hqs;refine⟨by simp[h1],fun i q hq=>?_⟩;cases i with|zero=>simp at hq;subst hq;exact⟨c,rfl,hp⟩|succ i=>obtain⟨c',h3,h4⟩:=h2 i q (by simpa using hq);exact⟨c',by simpa using h3,h4⟩
def ym {c:AV} (h:iL c=true):eL c=true:=by cases c<;>first|exact h|(simp[iL]at h)
def sr (hh:Heap P S w β aa) (hS:∀b,S b->S' b) {u:Value}{x y:AV} (h:RV P S w β (aE aa) u x) (hr:qD aa x=some y) (hp:eL x=true\/∀t b,aE aa t->cI (β t)=some b->S' b):RV P S' w β' D' u y:=by cases x with
 |bI f caps=>
  simp only[qD,q900]at hr;obtain⟨ys,hys,rfl⟩:=hr;obtain⟨us,rfl,hl,hc⟩:=h.oo;obtain⟨h1,h2⟩:=yN _ ys hys;refine .bI f ys us (by omega) fun i c v hi hv=>?_;obtain⟨c',hc',hrc⟩:=h2 i c hi;refine wC hh hS (hc i c' v hc' hv) hrc ?_;rcases hp with hp|hp;·exact .inl (ym (jD caps i c' hp hc'))
  ·exact .inr hp|_=>exact wC hh hS h hr hp
def rF:∀(cs ys:List AV),gB aa cs=some ys->ys.length=cs.length/\∀(i:Nat) (y:AV),ys[i]?=some y->∃c,cs[i]?=some c/\qD aa c=some y|[],ps,h=>by simp[gB]at h;subst h;exact⟨rfl,fun i p hp=>by simp at hp⟩|c::cs,ps,h=>by simp only[gB,qB,q900]at h;obtain⟨p,hp,qs,hqs,rfl⟩:=h;obtain⟨h1,h2⟩:=rF cs qs hqs;refine⟨by simp[h1],fun i q hq=>?_⟩;cases i with|zero=>simp at hq;subst hq;exact⟨c,rfl,hp⟩|succ i=>obtain⟨c',h3,h4⟩:=h2 i q (by simpa using hq);exact⟨c',by simpa using h3,h4⟩
def sf:∀(cs:List AV) (i:Nat) (c:AV),fB cs=true->cs[i]?=some c->eL c=true|[],i,c,_,h=>by simp at h|x::cs,0,c,h,hc=>by simp only[fB,q71]at h;simp at hc;subst hc;exact h.1|x::cs,i+1,c,h,hc=>by simp only[fB,q71]at h;exact sf cs i c h.2 (by simpa using hc)
end
section
variable{P:Program}{S0 L:Nat->Prop}{B0:Nat->Value}{w0 w:World}{N:Nat}{st:St}{a:Act}{β:Nat->Value}
def ur (h:Rel P S0 L B0 w0 N st a w β) {d:Nat} (hd9:d%1000≠999)  (hl:vals.length=xs.length) (hv:∀(i:Nat) (v:Value) (x:AV),vals[i]?=some v->xs[i]?=some x->RV P (bn S0 w0.heap.size β st.aa w) w β (aE st.aa) v x) (hrl:ys.length=xs.length) (hrg:∀(i:Nat) (y:AV),ys[i]?=some y->∃c,xs[i]?=some c/\(qD st.aa c=some y\/(c=.pv .nil/\y=.pv .nil))) (hcon:yA P f [] ys [] r) (hpf:fB xs=true\/flat r) (hfree:∀x∈aU d r,st.aa x.1=none) (hres:dv r=true):Calls P f vals.toArray w fun e w'=>∃v β',e=.returned v/\Rel P S0 L B0 w0 N ⟨st.vars,bK (aU d r) st.aa⟩ a w' β'/\RV P (bn S0 w0.heap.size β' (bK (aU d r) st.aa) w') w' β' (aE (bK (aU d r) st.aa)) v (dn (mX d) r):=by
 have htup:=xW r hres;obtain⟨S1,hS1,hS1lt,hcase⟩:∃S1:Nat->Prop,(∀b,bn S0 w0.heap.size β st.aa w b->S1 b)/\(∀b,S1 b->b<w.heap.size)/\((fB xs=true/\S1=bn S0 w0.heap.size β st.aa w)\/(flat r/\∀b,b<w.heap.size->S1 b)):=by
  rcases hpf with hp|hp;·exact⟨_,fun b hb=>hb,fun b hb=>hb.2.1,.inl ⟨hp,rfl⟩⟩
  ·exact⟨fun b=>b<w.heap.size,fun b hb=>hb.2.1,fun b hb=>hb,.inr ⟨hp,fun b hb=>hb⟩⟩
 have hS1eq:∀b,bn S1 w.heap.size β (ab []) w b↔S1 b:=by
  intro b;constructor
  ·rintro⟨h1|h1,h2,_⟩;·exact h1
   ·omega
  ·intro hb;exact⟨.inl hb,hS1lt b hb,fun⟨t,o,ho,_⟩=>by simp[ab]at ho⟩
 refine(hcon w S1 β vals hS1lt (fun t b ⟨o,ho⟩=>by simp[ab]at ho) ⟨fun t o ho=>by simp[ab]at ho,fun t t' b ⟨o,ho⟩=>by simp[ab]at ho⟩ (by omega) (fun i v y hvi hyi=>?_)).mono ?_
 ·obtain⟨x,hx,hrx⟩:=hrg i y hyi;rcases hrx with hrx|⟨rfl,rfl⟩;rotate_left;·rw[(hv i v _ hvi hx).bL.eT];exact .pv _ _ .nil
  refine sr h.heap (fun b hb=>(hS1eq b).2 (hS1 b hb)) (hv i v x hvi hx) hrx ?_;rcases hcase with⟨hp,_⟩|⟨_,hall⟩;·exact .inl (sf xs i x hp hx)
  ·exact .inr fun t b ht hb=>(hS1eq b).2 (hall b (h.lt ht hb))
 ·rintro e w' ⟨v,β1,rfl,hfr,hheap,hnew,hrv⟩;have hnolive:∀b,¬live β (ab []) b:=fun b ⟨t,o,ho,_⟩=>by simp[ab]at ho
  have hobj1:(bF (ab []) fun t=>dO (cellAt r t))=fun t=>dO (cellAt r t):=by funext t;simp[bF,ab]
  rw[hobj1]at hheap hnew hrv;let β2:Nat->Value:=fun t=>match ab (aU d r) t with|some _=>β1 ((t-d)/1000)|none=>β t;have hβnew:∀p o,dO (cellAt r p)=some o->β2 (d+1000*p)=β1 p:=fun p o hp=>by simp only[β2,gq d r htup,hp];congr 1;omega
  have hβold:∀t,aE st.aa t->β2 t=β t:=fun t ⟨o,ho⟩=>by cases hlk:ab (aU d r) t with|none=>simp only[β2,hlk]|some o'=>obtain⟨x,hx,rfl⟩:=ju _ _ _ hlk;rw[hfree x hx]at ho;cases ho
  have hlook2:∀t,bK (aU d r) st.aa t=match ab (aU d r) t with|some o=>some o|none=>st.aa t:=fun t=>rfl;have hdomNew:∀p o,dO (cellAt r p)=some o->bK (aU d r) st.aa (d+1000*p)=some o:=fun p o hp=>by rw[hlook2,gq d r htup,hp]
  have hdomOld:∀t o,st.aa t=some o->bK (aU d r) st.aa t=some o:=fun t o ho=>by rw[hlook2];cases hlk:ab (aU d r) t with|none=>exact ho|some o'=>obtain⟨x,hx,rfl⟩:=ju _ _ _ hlk;rw[hfree x hx]at ho;cases ho
  have hcases:∀t o,bK (aU d r) st.aa t=some o->(∃p,t=d+1000*p/\dO (cellAt r p)=some o)\/(st.aa t=some o/\ab (aU d r) t=none):=fun t o ho=>by rw[hlook2]at ho;cases hlk:ab (aU d r) t with|none=>rw[hlk]at ho;exact .inr ⟨ho,rfl⟩|some o'=>rw[hlk]at ho;injection ho with ho;subst ho;obtain⟨p,rfl⟩:=we d r t hlk;rw[gq d r htup]at hlk;exact .inl ⟨p,rfl,hlk⟩
  have hnew':∀p o b,dO (cellAt r p)=some o->cI (β1 p)=some b->w.heap.size<=b:=fun p o b hp hb=>by
   rcases hnew p b ⟨o,hp⟩ hb with h1|h1;·exact h1
   ·exact absurd h1 (hnolive b)
  have hsame:∀b,b<w.heap.size->w'.heap[b]?=w.heap[b]?:=fun b hb=>hfr.block b hb (hnolive b);have holdblk:∀t o b,st.aa t=some o->cI (β t)=some b->b<w.heap.size:=fun t o b ho hb=>h.lt ⟨o,ho⟩ hb;have hlive2:∀b,live β2 (bK (aU d r) st.aa) b->(live β st.aa b/\b<w.heap.size)\/(live β1 (fun t=>dO (cellAt r t)) b/\w.heap.size<=b):=by
   rintro b ⟨t,o,ho,hb⟩;rcases hcases t o ho with⟨p,rfl,hp⟩|⟨ho',_⟩;·rw[hβnew p o hp]at hb;exact .inr ⟨⟨p,o,hp,hb⟩,hnew' p o b hp hb⟩
   ·rw[hβold t ⟨o,ho'⟩]at hb;exact .inl ⟨⟨t,o,ho',hb⟩,holdblk t o b ho' hb⟩
  have hm:∀b,bn S0 w0.heap.size β st.aa w b->bn S0 w0.heap.size β2 (bK (aU d r) st.aa) w' b/\w'.heap[b]?=w.heap[b]?:=by
   rintro b ⟨h1,h2,h3⟩;refine⟨⟨h1,q97 h2 hfr.size,fun hl=>?_⟩,hsame b h2⟩;rcases hlive2 b hl with⟨hx,_⟩|⟨_,hx⟩;·exact h3 hx
   ·omega
  have hD:∀t,aE st.aa t->aE (bK (aU d r) st.aa) t/\β2 t=β t:=fun t ht=>by obtain⟨o,ho⟩:=ht;exact⟨⟨o,hdomOld t o ho⟩,hβold t ⟨o,ho⟩⟩
  have hcalS:fB xs=true->S1=bn S0 w0.heap.size β st.aa w->∀b,bn S1 w.heap.size β1 (fun t=>dO (cellAt r t)) w' b->bn S0 w0.heap.size β2 (bK (aU d r) st.aa) w' b/\w'.heap[b]?=w'.heap[b]?:=by
   rintro _ hSe b ⟨h1,h2,h3⟩;refine⟨⟨?_,h2,fun hl=>?_⟩,rfl⟩
   ·rcases h1 with h1|h1;·rw[hSe]at h1;exact h1.1
    ·have:=h.cu.size;exact .inr (by omega)
   ·rcases hlive2 b hl with⟨hx,hy⟩|⟨hx,_⟩
    ·rcases h1 with h1|h1;·rw[hSe]at h1;exact h1.2.2 hx
     ·omega
    ·exact h3 hx
  have hrel:Rel P S0 L B0 w0 N ⟨st.vars,bK (aU d r) st.aa⟩ a w' β2:=by
   refine⟨h.size,h.defers,fun s=>(h.vars s).mono hm hD,⟨fun t o ho=>?_,fun t t' b ht ht' hb hb'=>?_⟩,fun t b ht hb=>?_,h.uL,fun t h9 ht=>?_,?_⟩
   ·rcases hcases t o ho with⟨p,rfl,hp⟩|⟨ho',_⟩;·have hho:=hheap.holds p o hp;cases o with
     |box cs=>
      exfalso;unfold dO at hp;split at hp;·cases hp
      ·cases hp|map es=>
      exfalso;unfold dO at hp;split at hp;·cases hp
      ·cases hp|rws e cs=>
      exfalso;unfold dO at hp;split at hp;·cases hp
      ·cases hp|kk es=>
      exfalso;unfold dO at hp;split at hp;·cases hp
      ·cases hp|yJ rem cur=>
      exfalso;unfold dO at hp;split at hp;·cases hp
      ·cases hp|arr e rows=>
      obtain⟨inf,us,hi,hown,hrl',hcs⟩:=hho;refine⟨inf,us,hi,by rw[hβnew p _ hp];exact hown,hrl',fun i j row q h1 h2=>?_⟩;obtain⟨u,hu,h3,h4⟩:=hcs i j row q h1 h2;refine⟨u,hu,h3,?_⟩;rcases hcase with⟨hpu,hSe⟩|⟨hfl,_⟩;·exact h4.mono (hcalS hpu hSe)
      ·refine gw h4 ?_;have hcell:∃e',cellAt r p=some (.fr e' rows):=by
        unfold dO at hp;split at hp;·rename_i e' rows' heq;injection hp with hp;injection hp with hp1 hp2;subst hp2;exact⟨e',heq⟩
        ·cases hp
       obtain⟨e',hce⟩:=hcell;have hfc:bP rows:=jx r p _ hfl hce;exact hfc row (List.mem_of_getElem? h1) q (List.mem_of_getElem? h2)
    ·exact(h.heap.holds t o ho').mono hm hD (hβold t ⟨o,ho'⟩) (fun b hb=>hsame b (holdblk t o b ho' hb))
   ·obtain⟨o,ho⟩:=ht;obtain⟨o',ho'⟩:=ht';rcases hcases t o ho with⟨p,rfl,hp⟩|⟨h1,_⟩<;>rcases hcases t' o' ho' with⟨p',rfl,hp'⟩|⟨h2,_⟩;·rw[hβnew p o hp]at hb;rw[hβnew p' o' hp']at hb';rw[hheap.inj p p' b ⟨o,hp⟩ ⟨o',hp'⟩ hb hb']
    ·rw[hβnew p o hp]at hb;rw[hβold t' ⟨o',h2⟩]at hb';have:=hnew' p o b hp hb;have:=holdblk t' o' b h2 hb';omega
    ·rw[hβold t ⟨o,h1⟩]at hb;rw[hβnew p' o' hp']at hb';have:=hnew' p' o' b hp' hb';have:=holdblk t o b h1 hb;omega
    ·rw[hβold t ⟨o,h1⟩]at hb;rw[hβold t' ⟨o',h2⟩]at hb';exact h.heap.inj t t' b ⟨o,h1⟩ ⟨o',h2⟩ hb hb'
   ·obtain⟨o,ho⟩:=ht;rcases hcases t o ho with⟨p,rfl,hp⟩|⟨h1,_⟩;·rw[hβnew p o hp]at hb;have:=hnew' p o b hp hb;have:=h.cu.size;exact .inl (by omega)
    ·rw[hβold t ⟨o,h1⟩]at hb;exact h.old t b ⟨o,h1⟩ hb
   ·obtain⟨o,ho⟩:=ht;rcases hcases t o ho with⟨p,rfl,hp⟩|⟨h1,_⟩;·omega
    ·rw[hβold t ⟨o,h1⟩];exact h.Ar t h9 ⟨o,h1⟩
   ·exact⟨hfr.os.trans h.cu.os,hfr.tape.trans h.cu.tape,hfr.output.trans h.cu.output,q113 h.cu.size hfr.size,fun b h1 h2=>(hsame b (by have:=h.cu.size;omega)).trans (h.cu.block b h1 h2)⟩
  refine⟨v,β2,rfl,hrel,?_⟩;refine lM htup (fun p c u hc hu=>?_) hrv;have hrc:=Dw r p c hres hc;cases c with
  |fr e rows=>
   have hp:dO (cellAt r p)=some (.arr e rows):=by rw[hc];rfl
   obtain⟨hu1,hu2⟩:=RV.bo (show RV P _ w' β1 _ u (.own p) from hu);rw[hu1,<-hβnew p _ hp];exact .own (d+1000*p) ⟨_,hdomNew p _ hp⟩|pv q=>
   refine .pv _ _ ?_;rcases hcase with⟨hp,hSe⟩|⟨hfl,_⟩;·exact hu.bL.mono (hcalS hp hSe)
   ·exact gw hu.bL (jx r p _ hfl hc)|rp cs=>
   rcases hcase with⟨hp,hSe⟩|⟨hfl,_⟩;·obtain⟨ad,us,rfl,h1,h2,h3,h4⟩:=(show RV P _ w' β1 _ u (.rp cs) from hu).kH;exact .rp ad cs us (hcalS hp hSe _ h1).1 h2 h3 (fun j q hq=>(h4 j q hq).mono (hcalS hp hSe))
   ·exact(jx r p _ hfl hc).elim|_=>simp[j5]at hrc
def D7 (h:Rel P S0 L B0 w0 N st a w β) {d:Nat} (hd9:d%1000≠999)  (hl:vals.length=xs.length) (hv:∀(i:Nat) (v:Value) (x:AV),vals[i]?=some v->xs[i]?=some x->RV P (bn S0 w0.heap.size β st.aa w) w β (aE st.aa) v x) (hre:gB st.aa xs=some ys) (hcon:yA P f [] ys [] r) (hpf:fB xs=true\/flat r) (hfree:∀x∈aU d r,st.aa x.1=none) (hres:dv r=true):Calls P f vals.toArray w fun e w'=>∃v β',e=.returned v/\Rel P S0 L B0 w0 N ⟨st.vars,bK (aU d r) st.aa⟩ a w' β'/\RV P (bn S0 w0.heap.size β' (bK (aU d r) st.aa) w') w' β' (aE (bK (aU d r) st.aa)) v (dn (mX d) r):=by obtain⟨hrl,hrg⟩:=rF _ ys hre;exact ur h hd9 hl hv hrl (fun i y hy=>by obtain⟨c,h1,h2⟩:=hrg i y hy;exact⟨c,h1,.inl h2⟩) hcon hpf hfree hres
end
end Go.Proofs.YtifcndkhigakfaaGreat.Ab
