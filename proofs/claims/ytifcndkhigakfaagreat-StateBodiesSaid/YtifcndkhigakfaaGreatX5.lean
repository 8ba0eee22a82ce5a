/- The abstract machine is sound, seventh part: append and store. -/
import Derived.Test.YtifcndkhigakfaaGreatX4
set_option linter.unusedVariables false
set_option linter.unusedSimpArgs false
set_option linter.unnecessarySimpa false
set_option maxHeartbeats 40000000
set_option maxRecDepth 100000
namespace Go.Proofs.YtifcndkhigakfaaGreat.Ab
open Go Go.RowKit
section
variable{P:Program}{S0 L:Nat→Prop}{B0:Nat→Value}{w0 w:World}{N:Nat}{st:St}{a:Act}{β:Nat→Value}{x y z:Operand}{o:Oper}{d:Nat}
theorem B2 (hh:Heap P (aU S0 w0.heap.size β st.aa w) w β st.aa) {tx:TypeId} (htx:(∃e',P.underlying tx=some (.slice e'))∨P.underlying tx=some .string) {u:Value}{X:AV} (hX:RV P (aU S0 w0.heap.size β st.aa w) w β (aG st.aa) u X) {more:List (List PV)} (hm:cU st.aa X=some more) {sz:Nat} (hsz:∀r∈more,r.length=sz):∃news,Src P sz tx u more.length news w∧∀(i j:Nat) (r:List PV) (p:PV),more[i]?=some r→r[j]?=some p→∃c,news[i*sz+j]?=some c∧c.oneCell'=true∧da (aU S0 w0.heap.size β st.aa w) w c p:=by
 have nilcase:∀(A:Option Addr) (c:Nat),Src P sz tx (.slice A 0 c) 0 [] w:=by intro A c;refine⟨htx,fun _=>rfl,?_,?_,by simp,fun _ h=>by cases h⟩<;>cases A<;>simp[Builtin.firstCells,loadCells,loadCellsFrom]
 cases X with
 |pv p=>cases p with
  |nil=>simp only[cU,Option.some.injEq]at hm;subst hm;rw[hX.bm.ef];exact⟨[],nilcase none 0,fun i j r p h=>by simp at h⟩|ro rows=>
   simp only[cU,Option.some.injEq]at hm;subst hm;obtain⟨A,c,rfl,hc,hne⟩:=hX.bm.fM;by_cases hz:rows=[];·subst hz;exact⟨[],nilcase A c,fun i j r p h=>by simp at h⟩
   ·obtain⟨ad,sz0,us,rfl,g1,g2,g3,g4,g5⟩:=hne hz;have hs0:sz0=sz:=by obtain⟨r,hr⟩:=List.exists_mem_of_ne_nil rows hz;rw[←g2 r hr,hsz r hr]
    subst hs0;let L:List (List Value):=(List.range rows.length).map fun i=>(List.range sz0).map (us i);have hL:∀r∈L,r.length=sz0:=fun r hr=>by obtain⟨i,_,rfl⟩:=List.mem_map.1 hr;simp
    have hget:∀i j,i<rows.length→j<sz0→(L.flatMap id)[i*sz0+j]?=some (us i j):=fun i j hi hj=>by rw[oi sz0 L i j hL hj];simp[L,hi,hj]
    have hlen:(L.flatMap id).length=rows.length*sz0:=by
     have:∀M:List (List Value),(∀r∈M,r.length=sz0)→(M.flatMap id).length=M.length*sz0:=by intro M;induction M with|nil=>intro _;simp|cons r M ih=>intro h;simp only[List.flatMap_cons,id,List.length_append,h r (by simp),ih (fun q hq=>h q (by simp[hq])),List.length_cons,Nat.succ_mul];omega
     rw[this L hL];simp[L]
    have hdm:∀k,k<rows.length*sz0→∃i j,k=i*sz0+j∧i<rows.length∧j<sz0:=fun k hk=>by
     have hp:0<sz0:=by
      rcases Nat.eq_zero_or_pos sz0 with h|h;·rw[h]at hk;omega
      ·exact h
     exact⟨k/sz0,k%sz0,by rw[Nat.mul_comm];exact(Nat.div_add_mod k sz0).symm,Nat.div_lt_of_lt_mul (by rw[Nat.mul_comm];exact hk),Nat.mod_lt _ hp⟩
    have hcell:∀(k:Nat) (v:Value),(L.flatMap id)[k]?=some v→w.cell? (ad.add k)=some v:=fun k v hv=>by
     have hk:k<rows.length*sz0:=by rw[←hlen];exact(List.getElem?_eq_some_iff.1 hv).1
     obtain⟨i,j,rfl,hi,hj⟩:=hdm k hk;rw[hget i j hi hj]at hv;injection hv with hv;rw[←hv];exact g3 i j hi hj
    have hone:∀v∈L.flatMap id,v.oneCell'=true:=fun v hv=>by
     obtain⟨k,hk⟩:=List.getElem?_of_mem hv;have hk':k<rows.length*sz0:=by rw[←hlen];exact(List.getElem?_eq_some_iff.1 hk).1
     obtain⟨i,j,rfl,hi,hj⟩:=hdm k hk';rw[hget i j hi hj]at hk;injection hk with hk;have hr:rows[i]?=some rows[i]:=List.getElem?_eq_getElem hi;have hrl:rows[i].length=sz0:=g2 _ (List.mem_of_getElem? hr);rw[←hk];exact g4 i j _ _ hr (List.getElem?_eq_getElem (by omega))
    have hsrc:Src P sz0 tx (.slice (some ad) rows.length c) rows.length (L.flatMap id) w:=⟨htx,fun _=>rfl,run_firstCells_some w sz0 rows.length ad rows.length c _ hlen hcell,run_firstCells_some w.drew sz0 rows.length ad rows.length c _ hlen (by simpa using hcell),hlen,hone⟩;refine⟨L.flatMap id,hsrc,fun i j r p hr hp=>?_⟩;have hi:i<rows.length:=(List.getElem?_eq_some_iff.1 hr).1;have hj:j<sz0:=by rw[←g2 r (List.mem_of_getElem? hr)];exact(List.getElem?_eq_some_iff.1 hp).1
    exact⟨us i j,hget i j hi hj,g4 i j r p hr hp,g5 i j r p hr hp⟩|str l=>
   simp only[cU,Option.some.injEq]at hm;subst hm;rw[hX.eL];have hll:(bytesRow l).length=l.length:=by simp[bytesRow]
   rw[hll];by_cases hz:l=[];·subst hz;refine⟨[],⟨htx,fun _=>rfl,?_,?_,by simp,fun _ h=>by cases h⟩,fun i j r p h=>by simp[bytesRow]at h⟩<;>simp[Builtin.firstCells]
   ·have hs1:sz=1:=by obtain⟨c,hc⟩:=List.exists_mem_of_ne_nil l hz;rw[←hsz [.int .u8 (c.toNat:Int)] (by simp only[bytesRow,List.mem_map];exact⟨c,hc,rfl⟩)];rfl
    subst hs1;refine⟨byteCells ⟨l.toArray⟩,⟨htx,fun _=>by simp[Builtin.lenOf,KC],?_,?_,?_,?_⟩,fun i j r p hr hp=>?_⟩;·have:=firstCells_string (P:=P) ⟨l.toArray⟩ w;rwa[KC]at this
    ·have:=firstCells_string (P:=P) ⟨l.toArray⟩ w.drew;rwa[KC]at this
    ·rw[byteCells_length,KC,Nat.mul_one]
    ·intro u hu;obtain⟨_,_,rfl⟩:=List.mem_map.1 hu;rfl
    ·simp only[bytesRow,List.getElem?_map,Option.map_eq_some_iff]at hr;obtain⟨c,hc,rfl⟩:=hr;cases j with|zero=>simp at hp;subst hp;exact⟨.int .u8 c.toNat,by simp[byteCells,hc],rfl,.int _ _⟩|succ j=>simp at hp
  |_=>simp[cU]at hm
 |own t=>
  simp only[cU,Option.map_eq_some_iff]at hm;obtain⟨⟨e',rows⟩,hs,rfl⟩:=hm;obtain⟨inf,us,hi,hown,hrl,hcs⟩:=hh.arr (bH hs);simp only at hown hrl hcs hsz;rw[hX.aT.1];by_cases hz:rows=[];·subst hz;obtain⟨A,c,hv,_⟩:=cB hown;rw[hv];exact⟨[],nilcase A c,fun i j r p h=>by simp at h⟩
  ·have hs0:inf.size=sz:=by obtain⟨r,hr⟩:=List.exists_mem_of_ne_nil rows hz;rw[←hrl r hr,hsz r hr]
   rcases hown.2 with⟨_,hz0⟩|⟨g,cap,cur,hv,_⟩;·exact absurd (List.eq_nil_of_length_eq_zero hz0) hz
   ·have hob:(β t).ownBlock=some g:=by rw[hv];rfl
    have hcell:=hown.cells hob;rw[hv];have hone:∀v∈us,v.oneCell'=true:=fun v hv'=>by
     obtain⟨k,hk⟩:=List.getElem?_of_mem hv';have hk':k<rows.length*inf.size:=by rw[←hown.1];exact(List.getElem?_eq_some_iff.1 hk).1
     have hp:0<inf.size:=by
      rcases Nat.eq_zero_or_pos inf.size with h|h;·rw[h]at hk';omega
      ·exact h
     have hi':k/inf.size<rows.length:=Nat.div_lt_of_lt_mul (by rw[Nat.mul_comm];exact hk');have hr:rows[k/inf.size]?=some rows[k/inf.size]:=List.getElem?_eq_getElem hi';have hj:k%inf.size<rows[k/inf.size].length:=by rw[hrl _ (List.mem_of_getElem? hr)];exact Nat.mod_lt _ hp
     obtain⟨c,hc,h1,_⟩:=hcs _ _ _ _ hr (List.getElem?_eq_getElem hj);rw[show k/inf.size*inf.size+k%inf.size=k from by rw[Nat.mul_comm];exact Nat.div_add_mod k inf.size,hk]at hc;injection hc with hc;rw[hc];exact h1
    subst hs0;exact⟨us,⟨htx,fun _=>rfl,run_firstCells_some w inf.size rows.length ⟨g,0,none⟩ rows.length cap us hown.1 hcell,run_firstCells_some w.drew inf.size rows.length ⟨g,0,none⟩ rows.length cap us hown.1 (by simpa using hcell),hown.1,hone⟩,hcs⟩|sub t e1 lo hi=>
  simp only[cU,Option.bind_eq_some_iff]at hm;obtain⟨⟨e',rows⟩,hs,hm⟩:=hm;split at hm
  ·rename_i hee;simp only at hee hm;subst hee;simp only[Option.some.injEq]at hm;subst hm;obtain⟨inf,us,hi',hown,hrl,hcs⟩:=hh.arr (bH hs);simp only at hi' hown hrl hcs;obtain⟨inf1,Ad,Ad1,n,c,hdt,hi1,hbt,g1,g2,g3,g4,g5,hx⟩:=hX.gF;rw[hi']at hi1;injection hi1 with hi1;subst hi1;rw[hx];have hlen:((rows.take hi).drop lo).length=hi-lo:=by
    obtain⟨A',c',hv',_⟩:=cB hown;have hn:n=rows.length:=by rw[hbt]at hv';simp at hv';exact hv'.2.1
    simp;omega
   rw[hlen];by_cases hz:hi-lo=0;·rw[hz];refine⟨[],nilcase Ad1 _,fun i j r p h=>?_⟩;have:=(List.getElem?_eq_some_iff.1 h).1;omega
   ·rcases hown.2 with⟨hv,hz0⟩|⟨g,cap,cur,hv,_⟩;·rw[hv]at hbt;simp at hbt;omega
    ·have hob:(β t).ownBlock=some g:=by rw[hv];rfl
     have hcell:=hown.cells hob;rw[hv]at hbt;have hx3:some (⟨g,0,none⟩:Addr)=Ad∧rows.length=n∧cap=c:=by simpa using hbt
     obtain⟨rfl,rfl,rfl⟩:=hx3;have hget:∀(i:Nat) (r:List PV),((rows.take hi).drop lo)[i]?=some r→rows[lo+i]?=some r:=by
      intro i r hr;simp only[List.getElem?_drop,List.getElem?_take]at hr;split at hr;·exact hr
      ·cases hr
     have hs0:inf.size=sz:=by
      have h0:rows[lo]?=some rows[lo]:=List.getElem?_eq_getElem (by omega);have hmem:rows[lo]∈(rows.take hi).drop lo:=by refine List.mem_of_getElem? (i:=0) ?_;simp only[List.getElem?_drop,List.getElem?_take];rw[if_pos (by omega)];exact h0
      rw[←hrl _ (List.mem_of_getElem? h0),hsz _ hmem]
     subst hs0;have hone:∀v∈us,v.oneCell'=true:=fun v hv'=>by
      obtain⟨k,hk⟩:=List.getElem?_of_mem hv';have hk':k<rows.length*inf.size:=by rw[←hown.1];exact(List.getElem?_eq_some_iff.1 hk).1
      have hp:0<inf.size:=by
       rcases Nat.eq_zero_or_pos inf.size with h|h;·rw[h]at hk';omega
       ·exact h
      have hi'':k/inf.size<rows.length:=Nat.div_lt_of_lt_mul (by rw[Nat.mul_comm];exact hk');have hr:rows[k/inf.size]?=some rows[k/inf.size]:=List.getElem?_eq_getElem hi'';have hj:k%inf.size<rows[k/inf.size].length:=by rw[hrl _ (List.mem_of_getElem? hr)];exact Nat.mod_lt _ hp
      obtain⟨c,hc,h1,_⟩:=hcs _ _ _ _ hr (List.getElem?_eq_getElem hj);rw[show k/inf.size*inf.size+k%inf.size=k from by rw[Nat.mul_comm];exact Nat.div_add_mod k inf.size,hk]at hc;injection hc with hc;rw[hc];exact h1
     let news:=(us.drop (lo*inf.size)).take ((hi-lo)*inf.size);have hfit:lo*inf.size+(hi-lo)*inf.size≤us.length:=by rw[hown.1,←Nat.add_mul];exact Nat.mul_le_mul_right _ (by omega)
     have hnl:news.length=(hi-lo)*inf.size:=by simp only[news,List.length_take,List.length_drop];omega
     have hng:∀k,k<(hi-lo)*inf.size→news[k]?=us[lo*inf.size+k]?:=fun k hk=>by simp only[news,List.getElem?_take,List.getElem?_drop];rw[if_pos hk]
     have hnc:∀(k:Nat) (v:Value),news[k]?=some v→w.cell? ((⟨g,0,none⟩:Addr).add (lo*inf.size)|>.add k)=some v:=fun k v hk=>by
      have hk':k<(hi-lo)*inf.size:=by rw[←hnl];exact(List.getElem?_eq_some_iff.1 hk).1
      rw[hng k hk']at hk;rw[fI];exact hcell _ v hk
     rw[g5 (by omega)];refine⟨news,⟨htx,fun _=>rfl,run_firstCells_some w inf.size (hi-lo) _ (hi-lo) _ news hnl hnc,run_firstCells_some w.drew inf.size (hi-lo) _ (hi-lo) _ news hnl (by simpa using hnc),hnl,fun v hv=>hone v (List.mem_of_mem_drop (List.mem_of_mem_take hv))⟩,fun i j r p hr hp=>?_⟩;obtain⟨c',hc',h1,h2⟩:=hcs (lo+i) j r p (hget i r hr) hp;have hil:i<hi-lo:=by rw[←hlen];exact(List.getElem?_eq_some_iff.1 hr).1
     have hjl:j<inf.size:=by rw[←hrl r (List.mem_of_getElem? (hget i r hr))];exact(List.getElem?_eq_some_iff.1 hp).1
     have hlt:i*inf.size+j<(hi-lo)*inf.size:=by have:=Nat.mul_le_mul_right inf.size (show i+1≤hi-lo from hil);rw[Nat.succ_mul]at this;omega
     exact⟨c',by rw[hng _ hlt,←hc',Nat.add_mul,Nat.add_assoc],h1,h2⟩
  ·cases hm|_=>simp[cU]at hm
variable{t tx e:TypeId}{inf:TypeInfo}
theorem WT (ho:o.op=.call {callee:=.builtin .append,args:=#[x,y],argTypes:=#[t,tx]}) (ht:P.underlying t=some (.slice e)) (htx:(∃e',P.underlying tx=some (.slice e'))∨P.underlying tx=some .string) (hi:P.info? e=some inf) (hpos:0<inf.size) (hzt:(dN P e).isSome=true) (h:Rel P S0 L B0 w0 N st a w β) (hd:d<N) (hn:st.aa d=none) {X Y:AV} (hX:RV P (aU S0 w0.heap.size β st.aa w) w β (aG st.aa) (a.eval x) X) (hY:RV P (aU S0 w0.heap.size β st.aa w) w β (aG st.aa) (a.eval y) Y) {φ:Prop}{v:AV}{ao:AO} (hs:cD (.app e inf.size inf.bytes) d [X,Y] st.aa=some (φ,v,ao)) (hφ:φ):∃r w',(execOp a.eval o).run P w=.ok (.value r) w'∧∃β',Rel P S0 L B0 w0 N ⟨put (some d) v st.vars,bA [(d,ao)] st.aa⟩ (a.put (some d) r) w' β':=by
 have hXn:X=.pv .nil:=by cases X with
  |pv p=>cases p<;>first|rfl|(simp[cD]at hs)
  |_=>simp[cD]at hs
 subst hXn;simp only[cD,Option.map_eq_some_iff]at hs;obtain⟨rows,hrows,he⟩:=hs;simp only[Prod.mk.injEq]at he;obtain⟨rfl,rfl,rfl⟩:=he;obtain⟨hb1,hb2,hb3⟩:=hφ;obtain⟨zs,hz⟩:=Option.isSome_iff_exists.1 hzt;obtain⟨i',zv,hi',hzv,hzs,rfl⟩:=dO hz;have:i'=inf:=by rw[hi]at hi';injection hi' with hi';exact hi'.symm
 subst this;obtain⟨news,hsrc,hms⟩:=B2 h.heap htx hY hrows hb3;obtain⟨v',w',hrun,hown',hg,hbl,_⟩:=pd w t tx o.type e i' zv ht hi hzv hzs hpos (.slice none 0 0) 0 [] (World.ownsRow_nil w 0 e i'.size) (a.eval y) rows.length news hsrc (by omega) (by simpa using hb1);have hg':w.grownBy w' none:=hg;have hv:∀b,ct v'=some b→w.heap.size≤b:=fun b hb=>by
  rw[(gE hown').1]at hb;rcases hbl with hb'|hb'<;>rw[hb']at hb;·simp[Value.ownBlock]at hb
  ·injection hb with hb;omega
 have hm:=h.ko hn hg' hv (o:=.arr e rows);have hf:=h.fresh hd hn hg' hv (o:=.arr e rows) ⟨i',[]++news,hi,by rw[aV];simpa using hown',hb3,fun i j r p hr hp=>by obtain⟨c,h1,h2,h3⟩:=hms i j r p hr hp;exact⟨c,by simpa using h1,h2,h3.mono hm.1⟩⟩;rw[cx];have hp:=hf.put (d:=some d) (r:=eD β d v' d) (v:=.own d) (fun s hs=>by injection hs with hs;omega) (.own d (bP.2 (.inl rfl)));rw[aV]at hp;refine⟨v',w',?_,_,hp⟩;simp[execOp,ho,resolve,invoke,builtin,hX.bm.ef,hrun]
theorem VD (ho:o.op=.call {callee:=.builtin .append,args:=#[x,y],argTypes:=#[t,tx]}) (ht:P.underlying t=some (.slice e)) (htx:(∃e',P.underlying tx=some (.slice e'))∨P.underlying tx=some .string) (hi:P.info? e=some inf) (hpos:0<inf.size) (hzt:(dN P e).isSome=true) (h:Rel P S0 L B0 w0 N st a w β) {od:Option Nat} (hd:∀s,od=some s→s<N) {X Y:AV} (hX:RV P (aU S0 w0.heap.size β st.aa w) w β (aG st.aa) (a.eval x) X) (hY:RV P (aU S0 w0.heap.size β st.aa w) w β (aG st.aa) (a.eval y) Y) {φ:Prop}{tg:Nat}{ao:AO} (hs:eS (.app e inf.size inf.bytes) [X,Y] st.aa=some (φ,tg,ao)) (hφ:φ):∃r w',(execOp a.eval o).run P w=.ok (.value r) w'∧∃β',Rel P S0 L B0 w0 N ⟨put od (.own tg) (cC tg st.vars),aN tg ao (dz tg st.aa)⟩ (a.put od r) w' β':=by cases X with
 |own t'=>
  simp only[eS,Option.bind_eq_some_iff]at hs;obtain⟨⟨e',rows⟩,har,more,hmore,he⟩:=hs;split at he
  ·rename_i hee;simp only[Option.some.injEq,Prod.mk.injEq]at he;obtain⟨rfl,rfl,rfl⟩:=he;simp only at hee hφ;obtain⟨hee,ht9⟩:=hee;subst hee;obtain⟨hb1,hb2,hb3⟩:=hφ;have har':=bH har;simp only at har';obtain⟨zs,hz⟩:=Option.isSome_iff_exists.1 hzt;obtain⟨i',zv,hi',hzv,hzs,rfl⟩:=dO hz;have:i'=inf:=by rw[hi]at hi';injection hi' with hi';exact hi'.symm
   subst this;obtain⟨inf',us,hinf',hown,hrl,hcs⟩:=h.heap.arr har';have:inf'=i':=by rw[hi]at hinf';injection hinf' with hinf';exact hinf'.symm
   subst this;obtain⟨news,hsrc,hms⟩:=B2 h.heap htx hY hmore hb3;obtain⟨v',w',hrun,hown',hg,hbl,_⟩:=pd w t tx o.type e' inf' zv ht hi hzv hzs hpos (β t') rows.length us hown (a.eval y) more.length news hsrc hb2 hb1;have hR:=h.app ht9 har' hi hown hrl hcs hb3 hms hown' hg hbl;have hp:=hR.put (d:=od) (r:=eD β t' v' t') (v:=.own t') hd (.own t' (bP.2 (.inl rfl)));rw[aV]at hp;refine⟨v',w',?_,_,hp⟩;simp[execOp,ho,resolve,invoke,builtin,hX.aT.1,hrun]
  ·cases he|_=>simp[eS]at hs
theorem CO (t:Nat) (c:AV):b8 t (b8 t c)=b8 t c:=by cases c with|own s=>by_cases h:s=t<;>simp[b8,h]|aY s e i o=>by_cases h:s=t<;>simp[b8,h]|sub s e lo hi=>by_cases h:s=t<;>simp[b8,h]|bZ f cs=>cases cs<;>rfl|_=>rfl
theorem jn (t:Nat):∀cs:List AV,bW t (bW t cs)=bW t cs|[]=>rfl|c::cs=>by simp only[bW,CO,jn t cs]
theorem wP (t:Nat) (x:AV):kill t (kill t x)=kill t x:=by cases x with|agg cs=>simp only[kill,jn]|aS cs=>simp only[kill,jn]|ck g v=>simp only[kill,wP t v]|own s=>by_cases h:s=t<;>simp[kill,b8,h]|aY s e i o=>by_cases h:s=t<;>simp[kill,b8,h]|sub s e lo hi=>by_cases h:s=t<;>simp[kill,b8,h]|bZ f cs=>cases cs<;>rfl|_=>rfl
theorem BZ (t:Nat) (o:AO):dX t (dX t o)=dX t o:=by cases o<;>simp only[dX,jn]
theorem JV (t:Nat) (e:TypeId) (R:List (List PV)) (x:AV):sh t e R (kill t x)=kill t x:=by have h:=wP t x;cases x with|own s=>by_cases h:s=t<;>simp[sh,kill,b8,h]|sub s e lo hi=>by_cases h:s=t<;>simp[sh,kill,b8,h]|aY s e i o=>by_cases h:s=t<;>simp[sh,kill,b8,h]|bZ f cs=>cases cs<;>rfl|agg cs=>exact h|aS cs=>exact h|ck g v=>exact h|_=>rfl
theorem Xl (hL:∀b,L b→S0 b) (ho:o.op=.call {callee:=.builtin .append,args:=#[x,y],argTypes:=#[t,tx]}) (ht:P.underlying t=some (.slice e)) (htx:(∃e',P.underlying tx=some (.slice e'))∨P.underlying tx=some .string) (hi:P.info? e=some inf) (hpos:0<inf.size) (hzt:(dN P e).isSome=true) (h:Rel P S0 L B0 w0 N st a w β) {od:Option Nat} (hd:∀s,od=some s→s<N) {X Y:AV} (hX:RV P (aU S0 w0.heap.size β st.aa w) w β (aG st.aa) (a.eval x) X) (hY:RV P (aU S0 w0.heap.size β st.aa w) w β (aG st.aa) (a.eval y) Y) {tg:Nat}{rows more:List (List PV)} (hs:HZ st.aa e [X,Y]=some (tg,rows,more)) (hb1:(rows.length+more.length)*inf.bytes≤140737488355328) (hb2:rows.length+more.length≤maxLen) (hb3:∀r∈more,r.length=inf.size) (ht9:tg%1000≠999):∃r w',(execOp a.eval o).run P w=.ok (.value r) w'∧∃β',Rel P S0 L B0 w0 N ⟨put od (.pv (.ro (rows++more))) (Cj tg rows st.vars),gb tg st.aa⟩ (a.put od r) w' β':=by cases X with
 |own t'=>
  simp only[HZ,Option.bind_eq_some_iff]at hs;obtain⟨⟨e',rows'⟩,har,more',hmore,he⟩:=hs;split at he;rotate_left;·cases he
  rename_i hee;simp only[Option.some.injEq,Prod.mk.injEq]at he;obtain⟨rfl,rfl,rfl⟩:=he;simp only at hee;subst hee;have har':=bH har;simp only at har';obtain⟨zs,hz⟩:=Option.isSome_iff_exists.1 hzt;obtain⟨i',zv,hi',hzv,hzs,rfl⟩:=dO hz;have:i'=inf:=by rw[hi]at hi';injection hi' with hi';exact hi'.symm
  subst this;obtain⟨inf',us,hinf',hown,hrl,hcs⟩:=h.heap.arr har';have:inf'=i':=by rw[hi]at hinf';injection hinf' with hinf';exact hinf'.symm
  subst this;obtain⟨news,hsrc,hms⟩:=B2 h.heap htx hY hmore hb3;obtain⟨v',w',hrun,hown',hg,hbl,hold⟩:=pd w t tx o.type e' inf' zv ht hi hzv hzs hpos (β t') rows'.length us hown (a.eval y) more'.length news hsrc hb2 hb1;have hR:=h.app ht9 har' hi hown hrl hcs hb3 hms hown' hg hbl;have hp:=hR.put (d:=od) (r:=eD β t' v' t') (v:=.own t') hd (.own t' (bP.2 (.inl rfl)));rw[aV]at hp;have hS:=hp.share hL (t:=t') (e:=e') (rows:=rows'++more') (by simp[aN]);have hobj:gb t' (aN t' (.arr e' (rows'++more')) (dz t' st.aa))=gb t' st.aa:=by
   funext s;unfold gb aN dz;by_cases hs:s=t';·simp[hs]
   ·simp only[if_neg hs];cases st.aa s with|none=>rfl|some q=>simp[BZ]
  simp only at hS;rw[hobj]at hS;have hdt:aG st.aa t':=⟨_,har'⟩;have hblk:ct (β t')=(β t').ownBlock:=(gE hown).1;have hlive:∀b,live (eD β t' v') (gb t' st.aa) b→live β st.aa b∧ct (β t')≠some b:=by rintro b ⟨s,o,hs,hb⟩;obtain⟨hne,o',ho'⟩:=cY.1 ⟨o,hs⟩;rw[cF _ _ hne]at hb;exact⟨⟨s,o',ho',hb⟩,fun hb'=>hne (h.heap.inj s t' b ⟨o',ho'⟩ hdt hb hb')⟩
  have hm:∀b,aU S0 w0.heap.size β st.aa w b→aU S0 w0.heap.size (eD β t' v') (gb t' st.aa) w' b∧w'.heap[b]?=w.heap[b]?:=by rintro b ⟨h1,h2,h3⟩;refine⟨⟨h1,Nat.lt_of_lt_of_le h2 hg.size,fun hl=>h3 (hlive b hl).1⟩,hg.block b h2 fun hb=>h3 ⟨t',_,har',?_⟩⟩;rw[hblk,←hb]
  have hbk:∀b,ct (β t')=some b→aU S0 w0.heap.size (eD β t' v') (gb t' st.aa) w' b:=by intro b hb;exact⟨(h.old t' b hdt hb).elim .inr fun hx=>.inl (hL b hx),Nat.lt_of_lt_of_le (h.lt hdt hb) hg.size,fun hl=>(hlive b hl).2 hb⟩
  have hw:bn P (aU S0 w0.heap.size (eD β t' v') (gb t' st.aa) w') w' β (fun _=>False) t' (.arr e' rows'):=by refine⟨inf',us,hi,hold,hrl,fun i j r p h1 h2=>?_⟩;obtain⟨u,hu,h3,h4⟩:=hcs i j r p h1 h2;exact⟨u,hu,h3,h4.mono hm⟩
  have hro:=(qp hw (fun b hb=>hb) hbk).1;refine⟨v',w',by simp[execOp,ho,resolve,invoke,builtin,hX.aT.1,hrun],eD β t' v',hS.size,hS.defers,fun s=>?_,hS.heap,hS.old,hS.qn,hS.u5,hS.bS⟩;have hv:=hS.vars s;by_cases hods:od=some s
  ·subst hods;have e1:Ik t' e' (rows'++more') (Ab.put (some s) (.own t') (cC t' st.vars)) s=.pv (.ro (rows'++more')):=by simp[Ik,Ab.put,sh]
   simp only at hv;rw[e1]at hv;have e2:Ab.put (some s) (.pv (.ro (rows'++more'))) (Cj t' rows' st.vars) s=.pv (.ro (rows'++more')):=by simp[Ab.put]
   show RV P _ w' _ _ _ (Ab.put (some s) (.pv (.ro (rows'++more'))) (Cj t' rows' st.vars) s);rw[e2];exact hv
  ·have e1:Ik t' e' (rows'++more') (Ab.put od (.own t') (cC t' st.vars)) s=kill t' (st.vars s):=by
    have:Ab.put od (.own t') (cC t' st.vars) s=kill t' (st.vars s):=by cases od with|none=>rfl|some q=>simp only[Ab.put];rw[if_neg (fun e=>hods (by rw[e]))];rfl
    unfold Ik;rw[this,JV]
   have e2:Ab.put od (.pv (.ro (rows'++more'))) (Cj t' rows' st.vars) s=shA t' rows' (st.vars s):=by cases od with|none=>rfl|some q=>simp only[Ab.put];rw[if_neg (fun e=>hods (by rw[e]))];rfl
   simp only at hv;rw[e1]at hv;show RV P _ w' _ _ _ (Ab.put od (.pv (.ro (rows'++more'))) (Cj t' rows' st.vars) s);rw[e2];have hval:(a.put od v').tmps.getD s undef=a.tmps.getD s undef:=by cases od with|none=>rfl|some q=>
    have hq:q<a.tmps.size:=by rw[h.size];exact hd q rfl
    simp only[Act.put];rw[Bi _ _ _ _ hq,if_neg (fun e=>hods (by rw[e]))]
   cases hvs:st.vars s with|own u=>
    rw[hvs]at hv;simp only[shA];split;·rename_i hu;subst hu;have hv0:=h.vars s;rw[hvs]at hv0;rw[hval,hv0.aT.1];exact .pv _ _ hro
    ·rename_i hu;simp only[kill,b8,if_neg hu]at hv;exact hv|_=>rw[hvs]at hv;exact hv
 |_=>simp[HZ]at hs
theorem nz {b i:Nat}{us:Array Value}{ty:TypeId}{vs:List Value} (hb:w.heap[b]?=some (.cells us ty (0,0))) (hi:i+vs.length≤us.size) (hv:∀v∈vs,v.oneCell'=true):(storeCells ⟨b,i,none⟩ vs).run P w=.ok () (w.setRow b (us.toList.take i++vs++us.toList.drop (i+vs.length)).toArray):=by have:=run_storeCells_at P b i ty vs 0 us w hb (by simpa using hi) hv;simpa using this
theorem AW:∀(l:List AV) (i:Nat) (c:AV),fA l=true→l[i]?=some c→eE c=true|[],i,c,_,hc=>by simp at hc|y::l,0,c,h,hc=>by simp only[fA,Bool.and_eq_true]at h;simp at hc;subst hc;exact h.1|y::l,i+1,c,h,hc=>by simp only[fA,Bool.and_eq_true]at h;exact AW l i c h.2 (by simpa using hc)
theorem lx.fA (hh:Heap P (aU S0 w0.heap.size β st.aa w) w β st.aa) {us:List Value}{cs:List AV} (h:lx P (aU S0 w0.heap.size β st.aa w) w β (aG st.aa) us cs) (ho:fA cs=true):∀v∈us,v.oneCell'=true:=fun v hv=>by
 obtain⟨k,hk⟩:=List.getElem?_of_mem hv;have hlt:k<cs.length:=by rw[←h.1];exact(List.getElem?_eq_some_iff.1 hk).1
 have hc:cs[k]?=some cs[k]:=List.getElem?_eq_getElem hlt;exact(kW hh (h.2 k _ v hc hk) (AW cs k _ ho hc)).1
theorem JA (h:Rel P S0 L B0 w0 N st a w β) {t' b:Nat}{cs cs':List AV}{us':Array Value}{ty:TypeId} (hc:st.aa t'=some (.box cs)) (hp:β t'=.pointer (some ⟨b,0,none⟩)) {w':World} (hos:w'.os=w.os) (htape:w'.tape=w.tape) (hout:w'.output=w.output) (hsz:w'.heap.size=w.heap.size) (hother:∀k,k≠b→w'.heap[k]?=w.heap[k]?) (hb':w'.heap[b]?=some (.cells us' ty (0,0))) (hr:lx P (aU S0 w0.heap.size β st.aa w) w β (aG st.aa) us'.toList cs') (hone:∀v∈us'.toList,v.oneCell'=true):Rel P S0 L B0 w0 N ⟨st.vars,aN t' (.box cs') st.aa⟩ a w' β:=by
 have hdt:aG st.aa t':=⟨_,hc⟩;have hblk:ct (β t')=some b:=by rw[hp];rfl
 refine(h.wE (o':=.box cs') hc hblk hos htape hout hsz hother ⟨b,us',ty,hp,hb',by rw[←Array.length_toList];exact hr.1,fun i c u h1 h2=>?_⟩).1;have h2':us'.toList[i]?=some u:=by simpa using h2
 refine⟨hone u (List.mem_of_getElem? h2'),?_⟩;refine(hr.2 i c u h1 h2').mono (fun k hk=>?_) (fun s hs=>⟨bP.2 (.inr hs),rfl⟩);obtain⟨g1,g2,g3⟩:=hk;have hkb:k≠b:=fun e=>g3 ⟨t',_,hc,by rw[e];exact hblk⟩;refine⟨⟨g1,by omega,?_⟩,hother k hkb⟩;rintro⟨s,q,hs,hk⟩;by_cases e:s=t';·subst e;exact hkb (by rw[hblk]at hk;injection hk with hk;exact hk.symm)
 ·exact g3 ⟨s,q,by simpa[aN,e]using hs,hk⟩
theorem nk {α:Type}:∀(l:List α) (i:Nat) (v:α),i<l.length→l.set i v=bX l i [v]|[],i,v,h=>by simp at h|x::l,0,v,h=>by simp[bX]|x::l,i+1,v,h=>by have:=nk l i v (by simpa using h);simp only[List.set_cons_succ,this];simp[bX,Nat.add_right_comm]
theorem fb {α:Type} (l:List α) (i:Nat) (vs:List α) (h:i+vs.length≤l.length):(bX l i vs).length=l.length:=by simp[bX];omega
theorem iS {α:Type} (l:List α) (i:Nat) (vs:List α) (h:i+vs.length≤l.length) (k:Nat):(bX l i vs)[k]?=if i≤k∧k<i+vs.length then vs[k-i]? else l[k]?:=by
 unfold bX;by_cases h1:k<i;·rw[List.append_assoc,List.getElem?_append_left (by rw[List.length_take];omega),List.getElem?_take,if_pos h1,if_neg (by omega)]
 ·by_cases h2:k<i+vs.length;·rw[if_pos ⟨by omega,h2⟩,List.append_assoc,List.getElem?_append_right (by rw[List.length_take];omega),List.length_take,List.getElem?_append_left (by omega)];congr 1;omega
  ·rw[if_neg (by omega),List.getElem?_append_right (by simp;omega),List.getElem?_drop];congr 1;simp;omega
theorem mu (h:Rel P S0 L B0 w0 N st a w β) {t' b i:Nat}{cs vs:List AV}{us:List Value} (hc:st.aa t'=some (.box cs)) (hb:β t'=.pointer (some ⟨b,0,none⟩)) (hone:fA vs=true) (hle:i+vs.length≤cs.length) (hr:lx P (aU S0 w0.heap.size β st.aa w) w β (aG st.aa) us vs):∃w',(storeCells ⟨b,i,none⟩ us).run P w=.ok () w'∧Rel P S0 L B0 w0 N ⟨st.vars,aN t' (.box (bX cs i vs)) st.aa⟩ a w' β:=by
 obtain⟨b',cur,ty,hp,hheap,hl,hcells⟩:=h.heap.box hc;have hbb:b'=b:=by rw[hb]at hp;simpa using hp.symm
 subst hbb;have hv:=hr.fA h.heap hone;have hin:i+us.length≤cur.size:=by rw[hr.1,hl];exact hle
 refine⟨_,nz (P:=P) hheap hin hv,?_⟩;have hcs:lx P (aU S0 w0.heap.size β st.aa w) w β (aG st.aa) cur.toList cs:=⟨by simpa using hl,fun k c u h1 h2=>(hcells k c u h1 (by simpa using h2)).2⟩;refine JA h hc hb (us':=(cur.toList.take i++us++cur.toList.drop (i+us.length)).toArray) (ty:=ty) rfl rfl rfl (by simp) (fun k hk=>setRow_other _ _ _ _ hk) (setRow_heap _ _ _ _ _ _ hheap) ?_ (fun v hv'=>?_);·have:cur.toList.take i++us++cur.toList.drop (i+us.length)=bX cur.toList i us:=rfl;rw[show(cur.toList.take i++us++cur.toList.drop (i+us.length)).toArray.toList=cur.toList.take i++us++cur.toList.drop (i+us.length) from rfl];unfold bX;rw[hr.1];exact((hcs.take i).append hr).append (hcs.drop _)
 ·have hv'':v∈cur.toList.take i++us++cur.toList.drop (i+us.length):=hv';simp only[List.mem_append]at hv'';have hold:v∈cur.toList→v.oneCell'=true:=fun hm=>by
   obtain⟨k,hk⟩:=List.getElem?_of_mem hm;have hk':k<cs.length:=by rw[←hl];simpa using(List.getElem?_eq_some_iff.1 hk).1
   exact(hcells k _ v (List.getElem?_eq_getElem hk') (by simpa using hk)).1
  rcases hv'' with(h1|h1)|h1;·exact hold (List.mem_of_mem_take h1)
  ·exact hv v h1
  ·exact hold (List.mem_of_mem_drop h1)
theorem iR (h:Rel P S0 L B0 w0 N st a w β) {t' b off:Nat}{i:Int}{n c:Nat}{e:TypeId}{inf:TypeInfo}{rows:List (List PV)}{ps:List PV}{us:List Value} (hc:st.aa t'=some (.arr e rows)) (hi:P.info? e=some inf) (hb:β t'=.slice (some ⟨b,0,none⟩) n c) (h0:0≤i) (h1:i<rows.length) (hle:off+ps.length≤(rowAt rows i).length) (hul:us.length=ps.length) (hr:∀(j:Nat) (p:PV),ps[j]?=some p→∃u,us[j]?=some u∧u.oneCell'=true∧da (aU S0 w0.heap.size β st.aa w) w u p):∃w',(storeCells ⟨b,i.toNat*inf.size+off,none⟩ us).run P w=.ok () w'∧Rel P S0 L B0 w0 N ⟨st.vars,aN t' (.arr e (rows.set i.toNat (bX (rowAt rows i) off ps))) st.aa⟩ a w' β:=by
 obtain⟨inf',xs,hi',hown,hrl,hcells⟩:=h.heap.arr hc;have:inf'=inf:=by rw[hi]at hi';injection hi' with hi';exact hi'.symm
 subst this;have hg:=jR h0 h1;have hrow:(rowAt rows i).length=inf'.size:=hrl _ (List.mem_of_getElem? hg);have hit:i.toNat<rows.length:=by omega
 have hfit:i.toNat*inf'.size+inf'.size≤rows.length*inf'.size:=by rw[←Nat.succ_mul];exact Nat.mul_le_mul_right _ hit
 have hv:∀v∈us,v.oneCell'=true:=fun v hv=>by
  obtain⟨k,hk⟩:=List.getElem?_of_mem hv;have hk':k<ps.length:=by rw[←hul];exact(List.getElem?_eq_some_iff.1 hk).1
  obtain⟨u,hu,h2,_⟩:=hr k _ (List.getElem?_eq_getElem hk');rw[hk]at hu;injection hu with hu;rw[hu];exact h2
 rcases hown.2 with⟨hnil,_⟩|⟨g,cap,cur,hv',_,hheap,hnc,hcm,hcs,htake⟩;·rw[hb]at hnil;cases hnil
 ·have hgb:g=b:=by rw[hb]at hv';simp at hv';exact hv'.1.symm
  subst hgb;have hnn:n=rows.length∧c=cap:=by rw[hb]at hv';simp at hv';exact hv'
  have hxl:xs.length=rows.length*inf'.size:=hown.1;have hcap:rows.length*inf'.size≤cur.size:=by rw[hcs];exact Nat.mul_le_mul_right _ hnc
  have hin:i.toNat*inf'.size+off+us.length≤cur.size:=by rw[hul];omega
  refine⟨_,nz (P:=P) hheap hin hv,?_⟩;have hblk:ct (β t')=some g:=by rw[hb];rfl
  have hmono:∀(cs':Array Value) (o':AO) (k:Nat),aU S0 w0.heap.size β st.aa w k→aU S0 w0.heap.size β (aN t' o' st.aa) (w.setRow g cs') k∧(w.setRow g cs').heap[k]?=w.heap[k]?:=by
   intro cs' o' k hk;obtain⟨g1,g2,g3⟩:=hk;have hkb:k≠g:=fun e=>g3 ⟨t',_,hc,by rw[e];exact hblk⟩;refine⟨⟨g1,by simpa using g2,?_⟩,setRow_other w g k cs' hkb⟩;rintro⟨s,q,hs,hk⟩;by_cases e:s=t';·subst e;exact hkb (by rw[hblk]at hk;injection hk with hk;exact hk.symm)
   ·exact g3 ⟨s,q,by simpa[aN,e]using hs,hk⟩
  refine(h.wE (w':=w.setRow g (cur.toList.take (i.toNat*inf'.size+off)++us++cur.toList.drop (i.toNat*inf'.size+off+us.length)).toArray) (o':=.arr e (rows.set i.toNat (bX (rowAt rows i) off ps))) hc hblk rfl rfl rfl (by simp) (fun k hk=>setRow_other _ _ _ _ hk) ⟨inf',bX xs (i.toNat*inf'.size+off) us,hi,?_,fun r hr'=>?_,fun k j r p hk hp=>?_⟩).1
  ·rw[List.length_set];refine⟨by rw[fb _ _ _ (by rw[hxl,hul];omega)];exact hxl,.inr ⟨g,cap,_,hv',Nat.zero_le _,setRow_heap _ _ _ _ _ _ hheap,hnc,hcm,?_,?_⟩⟩;·simp;omega
   ·rw[←htake];simp only[bX];rw[List.take_append,List.take_append];simp only[List.length_append,List.length_take,Array.length_toList];rw[List.take_of_length_le (l:=List.take (i.toNat*inf'.size+off) cur.toList) (by rw[List.length_take];omega),List.take_take,Nat.min_eq_left (by omega)];rw[Nat.min_eq_left (by omega)];rw[List.take_of_length_le (l:=us) (by omega)];congr 1;rw[List.drop_take]
  ·rcases List.mem_or_eq_of_mem_set hr' with h2|h2;·exact hrl r h2
   ·rw[h2,fb _ _ _ hle,hrow]
  ·rw[List.getElem?_set]at hk;by_cases e1:i.toNat=k
   ·rw[if_pos e1,if_pos hit]at hk;injection hk with hk;subst hk e1;have hjl:j<inf'.size:=by have:=(List.getElem?_eq_some_iff.1 hp).1;rwa[fb _ _ _ hle,hrow]at this
    rw[iS _ _ _ hle]at hp;rw[iS _ _ _ (by rw[hxl,hul];omega)];by_cases e2:off≤j∧j<off+ps.length;·rw[if_pos e2]at hp;rw[if_pos (by rw[hul];omega)];obtain⟨u,hu,h2,h3⟩:=hr _ p hp;exact⟨u,by rw[←hu];congr 1;omega,h2,h3.mono (hmono _ _)⟩
    ·rw[if_neg e2]at hp;rw[if_neg (by rw[hul];omega)];obtain⟨u,hu,h2,h3⟩:=hcells _ j _ p hg hp;exact⟨u,hu,h2,h3.mono (hmono _ _)⟩
   ·rw[if_neg e1]at hk;obtain⟨u,hu,h2,h3⟩:=hcells k j r p hk hp;have hjl:j<inf'.size:=by rw[←hrl r (List.mem_of_getElem? hk)];exact(List.getElem?_eq_some_iff.1 hp).1
    refine⟨u,?_,h2,h3.mono (hmono _ _)⟩;rw[iS _ _ _ (by rw[hxl,hul];omega),if_neg ?_];·exact hu
    ·rintro⟨g1,g2⟩;rcases Nat.lt_or_gt_of_ne e1 with hlt|hgt;·have:(i.toNat+1)*inf'.size≤k*inf'.size:=Nat.mul_le_mul_right _ hlt;rw[Nat.succ_mul]at this;omega
     ·have:(k+1)*inf'.size≤i.toNat*inf'.size:=Nat.mul_le_mul_right _ hgt;rw[Nat.succ_mul]at this;omega
theorem gW {ts:TypeId} (ho:o.op=.store ts x y) {ad:Addr} (hx:a.eval x=.pointer (some ad)) (hsz:(sizeOf ts).run P w=.ok (a.eval y).cells.size w) {w':World} (hst:(storeCells ad (a.eval y).cells.toList).run P w=.ok () w'):(execOp a.eval o).run P w=.ok .skip w':=by simp only[execOp,ho,Instr.storeAt,hx,Instr.sureAddr,storeVar,Sem.run_bind,Sem.run_pure,Result.andThen_ok,hsz];simp[hst]
theorem qg:∀(cs:List AV) (r:List PV),eU cs=some r→r.length=cs.length∧∀(j:Nat) (p:PV),r[j]?=some p→cs[j]?=some (.pv p)|[],r,hr=>by simp[eU]at hr;subst hr;exact⟨rfl,fun j p hp=>by simp at hp⟩|c::cs,r,hr=>by simp only[eU,Option.bind_eq_some_iff,Option.map_eq_some_iff]at hr;obtain⟨p,hp,ps,hps,rfl⟩:=hr;obtain⟨h1,h2⟩:=qg cs ps hps;refine⟨by simp[h1],fun j q hq=>?_⟩;cases j with|zero=>simp at hq;subst hq;cases c<;>simp[Ee]at hp;subst hp;rfl|succ j=>simpa using h2 j q (by simpa using hq)
theorem F2 {ts:TypeId} (ho:o.op=.store ts x y) (h1:cy P ts=some 1) (h:Rel P S0 L B0 w0 N st a w β) {od:Option Nat} (hd:∀s,od=some s→s<N) {X Y:AV} (hX:RV P (aU S0 w0.heap.size β st.aa w) w β (aG st.aa) (a.eval x) X) (hY:RV P (aU S0 w0.heap.size β st.aa w) w β (aG st.aa) (a.eval y) Y) {φ:Prop}{tg:Nat}{ao:AO} (hs:eS (.store none) [X,Y] st.aa=some (φ,tg,ao)) (hφ:φ):∃w',(execOp a.eval o).run P w=.ok .skip w'∧∃β',Rel P S0 L B0 w0 N ⟨put od .ak st.vars,aN tg ao st.aa⟩ (a.put od undef) w' β':=by cases X with
 |ptr t' i=>
  simp only[eS,Option.bind_eq_some_iff]at hs;obtain⟨cs,hcs,he⟩:=hs;split at he;·rename_i hcond;obtain⟨hone,hlt⟩:=hcond;simp only[Option.some.injEq,Prod.mk.injEq]at he;obtain⟨rfl,rfl,rfl⟩:=he;obtain⟨b,hx,hdt,hb⟩:=hX.eg;have hv:=kW h.heap hY hone;obtain⟨w',hst,hR⟩:=mu h (i:=i) (vs:=[Y]) (us:=[a.eval y]) (fD hcs) hb (by simp[Ab.fA,hone]) (by simp;omega) (.cons hY .nil);rw[←nk _ _ _ hlt]at hR;exact⟨w',gW ho hx (by rw[hv.2];exact eh h1 w) (by rw[hv.2];exact hst),β,hR.put hd (.ak _)⟩
  ·cases he|aY t' e' i off=>cases Y with
  |pv p=>
   simp only[eS,Option.bind_eq_some_iff]at hs;obtain⟨⟨e,rows⟩,har,he⟩:=hs;split at he;·rename_i hcond;obtain⟨hee,hlt,hone⟩:=hcond;simp only[Option.some.injEq,Prod.mk.injEq]at he;obtain⟨rfl,rfl,rfl⟩:=he;simp only at hee hφ hlt;subst hee;obtain⟨b,n,c,inf,hx,hdt,hi,hb⟩:=hX.fP;have hv:=kW h.heap hY hone;obtain⟨w',hst,hR⟩:=iR h (off:=off) (ps:=[p]) (us:=[a.eval y]) (bH har) hi hb hφ.1 hφ.2 (by simp;omega) rfl (fun j q hq=>by cases j with|zero=>simp at hq;subst hq;exact⟨_,rfl,hv.1,hY.bm⟩|succ j=>simp at hq);simp only at hR;rw[←nk _ _ _ hlt]at hR;exact⟨w',gW ho hx (by rw[hv.2];exact eh h1 w) (by rw[hv.2];exact hst),β,hR.put hd (.ak _)⟩
   ·cases he|_=>simp[eS]at hs
 |_=>simp[eS]at hs
theorem FY {ts:TypeId}{n:Nat} (ho:o.op=.store ts x y) (hn:mZ P ts=some (some n)) (h:Rel P S0 L B0 w0 N st a w β) {od:Option Nat} (hd:∀s,od=some s→s<N) {X Y:AV} (hX:RV P (aU S0 w0.heap.size β st.aa w) w β (aG st.aa) (a.eval x) X) (hY:RV P (aU S0 w0.heap.size β st.aa w) w β (aG st.aa) (a.eval y) Y) {φ:Prop}{tg:Nat}{ao:AO} (hs:eS (.store (some n)) [X,Y] st.aa=some (φ,tg,ao)) (hφ:φ):∃w',(execOp a.eval o).run P w=.ok .skip w'∧∃β',Rel P S0 L B0 w0 N ⟨put od .ak st.vars,aN tg ao st.aa⟩ (a.put od undef) w' β':=by have hsz:=(jZ hn w).2;cases Y with
 |agg vs=>
  obtain⟨us,hy,hl,hcs⟩:=hY.cN;have hcell:(a.eval y).cells=us.toArray:=by rw[hy];rfl
  cases X with
  |ptr t' i=>
   simp only[eS,Option.bind_eq_some_iff]at hs;obtain⟨cs,hbox,he⟩:=hs;split at he;·rename_i hcond;obtain⟨hone,hvl,hle⟩:=hcond;simp only[Option.some.injEq,Prod.mk.injEq]at he;obtain⟨rfl,rfl,rfl⟩:=he;obtain⟨b,hx,hdt,hb⟩:=hX.eg;obtain⟨w',hst,hR⟩:=mu h (i:=i) (vs:=vs) (us:=us) (fD hbox) hb hone (by omega) ⟨hl,hcs⟩;exact⟨w',gW ho hx (by rw[hcell];simpa[hl,hvl]using hsz) (by rw[hcell];exact hst),β,hR.put hd (.ak _)⟩
   ·cases he|aY t' e' i off=>
   simp only[eS,Option.bind_eq_some_iff]at hs;obtain⟨⟨e,rows⟩,har,ps,hps,he⟩:=hs;split at he;·rename_i hcond;obtain⟨hee,hone,hpl,hle⟩:=hcond;simp only[Option.some.injEq,Prod.mk.injEq]at he;obtain⟨rfl,rfl,rfl⟩:=he;simp only at hee hφ hle;subst hee;obtain⟨b,n',c,inf,hx,hdt,hi,hb⟩:=hX.fP;obtain⟨g1,g2⟩:=qg vs ps hps;have hones:=lx.fA h.heap (us:=us) (cs:=vs) ⟨hl,hcs⟩ hone;obtain⟨w',hst,hR⟩:=iR h (off:=off) (ps:=ps) (us:=us) (bH har) hi hb hφ.1 hφ.2 (by simp only;omega) (by omega) (fun j q hq=>by
    have hvj:=g2 j q hq;have hlt:j<us.length:=by rw[hl];exact(List.getElem?_eq_some_iff.1 hvj).1
    have hu:us[j]?=some us[j]:=List.getElem?_eq_getElem hlt;exact⟨_,hu,hones _ (List.mem_of_getElem? hu),(hcs j _ _ hvj hu).bm⟩);exact⟨w',gW ho hx (by rw[hcell];simp only[List.size_toArray,hl,←g1,hpl];exact hsz) (by rw[hcell];exact hst),β,hR.put hd (.ak _)⟩
   ·cases he|_=>simp[eS]at hs
 |_=>cases X<;>simp[eS]at hs
end
theorem xP (l m:List (Nat×AO)) (t:Nat):ab (l++m) t=match ab l t with|some o=>some o|none=>ab m t:=by induction l with|nil=>rfl|cons x l ih=>
 obtain⟨k,v⟩:=x;simp only[List.cons_append,ab];by_cases h:t=k;·simp[h]
 ·simp only[if_neg h];exact ih
theorem jK (g:Nat→Nat) (hg:∀a b,g a=g b→a=b):∀(l:List (Nat×AO)) (t:Nat),ab (l.map fun x=>(g x.1,x.2)) (g t)=ab l t
 |[],t=>rfl|(k,v)::l,t=>by
  simp only[List.map_cons,ab];by_cases h:t=k;·simp[h]
  ·rw[if_neg (fun e=>h (hg _ _ e)),if_neg h];exact jK g hg l t
theorem iP (g:Nat→Nat):∀(l:List (Nat×AO)) (t:Nat),(∀s,g s≠t)→ab (l.map fun x=>(g x.1,x.2)) t=none|[],t,_=>rfl|(k,v)::l,t,h=>by simp only[List.map_cons,ab];rw[if_neg (fun e=>h k e.symm)];exact iP g l t h
theorem tC:∀(cs:List AV) (k:Nat) (p:Nat),ab (fY k cs) p=if p%1000=0∧k≤p/1000 then du (cs[p/1000-k]?) else none
 |[],k,p=>by simp[fY,ab,du]|c::cs,k,p=>by
  have ih:=tC cs (k+1) p;have hc:∀(q:Option AO),(q=du (some c))→(if p=1000*k then q else ab (fY (k+1) cs) p)=if p%1000=0∧k≤p/1000 then du ((c::cs)[p/1000-k]?) else none:=by
   intro q hq;by_cases h:p=1000*k
   ·subst h;have h1:1000*k%1000=0:=by omega
    have h2:1000*k/1000=k:=by omega
    simp[h1,h2,hq]
   ·rw[if_neg h,ih];by_cases h1:p%1000=0∧k≤p/1000
    ·have h2:k+1≤p/1000:=by omega
     rw[if_pos h1,if_pos ⟨h1.1,h2⟩];have:p/1000-k=(p/1000-(k+1))+1:=by omega
     rw[this];simp
    ·rw[if_neg h1,if_neg (by omega)]
  cases c with|fr e rows=>exact hc _ rfl|_=>
   have:=hc none rfl;simp only[fY];rw[ih]at this ⊢;rw[←this];by_cases h:p=1000*k;·subst h;rw[if_pos rfl,if_neg (by omega)]
   ·rw[if_neg h]
theorem wG (v:AV) (p:Nat):ab (lv v) p=if p%1000=0 then du (bI v (p/1000)) else none:=by cases v with
 |agg cs=>simp only[lv,tC,bI];by_cases h:p%1000=0<;>simp[h]|fr e rows=>
  simp only[lv,ab,bI];by_cases h:p=0;·subst h;rfl
  ·rw[if_neg h];by_cases h1:p%1000=0
   ·have:¬p/1000=0:=by omega
    simp[h1,this,du]
   ·simp[h1]|_=>
  simp only[lv,ab,bI];split;·split<;>rfl
  ·rfl
theorem sM:∀(vs:List AV) (k:Nat) (p:Nat),k+vs.length≤1000→ab (my k vs) p=if k≤p%1000 then du ((vs[p%1000-k]?).bind fun v=>bI v (p/1000)) else none
 |[],k,p,_=>by simp[my,ab,du]|v::vs,k,p,hk=>by
  simp only[List.length_cons]at hk;have ih:=sM vs (k+1) p (by omega);simp only[my,xP];have h1:ab ((lv v).map fun x=>(x.1+k,x.2)) p=if p%1000=k then du (bI v (p/1000)) else none:=by
   by_cases hle:k≤p
   ·have he:p=(p-k)+k:=by omega
    rw[show ab ((lv v).map fun x=>(x.1+k,x.2)) p=ab ((lv v).map fun x=>(x.1+k,x.2)) ((p-k)+k) from by rw[←he]];rw[jK (fun x=>x+k) (fun a b h=>by omega),wG];by_cases h2:p%1000=k
    ·have h3:(p-k)%1000=0:=by omega
     have h4:(p-k)/1000=p/1000:=by omega
     rw[if_pos h3,if_pos h2,h4]
    ·have h3:¬(p-k)%1000=0:=by omega
     rw[if_neg h3,if_neg h2]
   ·rw[iP (fun x=>x+k) _ _ (fun s=>by omega)];rw[if_neg (by omega)]
  rw[h1,ih];by_cases h2:p%1000=k
  ·have h3:¬k+1≤p%1000:=by omega
   have h4:k≤p%1000:=by omega
   have h5:p%1000-k=0:=by omega
   rw[if_pos h2,if_neg h3,if_pos h4,h5];simp only[List.getElem?_cons_zero,Option.bind_some];cases du (bI v (p/1000))<;>rfl
  ·rw[if_neg h2];simp only;by_cases h3:k≤p%1000
   ·have h4:k+1≤p%1000:=by omega
    rw[if_pos h4,if_pos h3];have:p%1000-k=(p%1000-(k+1))+1:=by omega
    rw[this];simp
   ·have h4:¬k+1≤p%1000:=by omega
    rw[if_neg h4,if_neg h3]
theorem OV (r:AV) (h:∀vs,r≠.aS vs):Bs r=lv r:=by cases r<;>first|rfl|exact absurd rfl (h _)
theorem eM (r:AV) (h:∀vs,r≠.aS vs) (p:Nat):cellAt r p=if p%1000=0 then bI r (p/1000) else none:=by cases r<;>first|rfl|exact absurd rfl (h _)
theorem DF (r:AV) (h:∀vs,r≠.aS vs):flat r=lk r:=by cases r<;>first|rfl|exact absurd rfl (h _)
theorem zV (r:AV) (h:∀vs,r≠.agg vs):lk r=nf r:=by cases r<;>first|rfl|exact absurd rfl (h _)
theorem gg (r:AV) (h:∀vs,r≠.agg vs) (j:Nat):bI r j=if j=0 then some r else none:=by cases r<;>first|rfl|exact absurd rfl (h _)
theorem HN (r:AV) (h:oT r=true) (p:Nat):ab (Bs r) p=du (cellAt r p):=by
 have key:∀v:AV,ab (lv v) p=du (if p%1000=0 then bI v (p/1000) else none):=fun v=>by rw[wG];split<;>rfl
 cases r with|aS vs=>simp only[oT,decide_eq_true_eq]at h;simp only[Bs,sM vs 0 p (by omega),Nat.zero_le,if_true,Nat.sub_zero];rfl|_=>rw[OV _ (fun vs h=>by cases h),eM _ (fun vs h=>by cases h)];exact key _
theorem fv (d:Nat) (r:AV) (h:oT r=true) (p:Nat):ab (aP d r) (d+1000*p)=du (cellAt r p):=by unfold aP;rw[jK (fun x=>d+1000*x) (fun a b h=>by omega),HN r h]
theorem uF (d:Nat) (r:AV) (t:Nat) {o:AO} (h:ab (aP d r) t=some o):∃p,t=d+1000*p:=by
 by_cases hx:∃p,d+1000*p=t;·obtain⟨p,hp⟩:=hx;exact⟨p,hp.symm⟩
 ·unfold aP at h;rw[iP (fun x=>d+1000*x) _ _ (fun s hs=>hx ⟨s,hs⟩)]at h;cases h
theorem iN:∀(l:List (Nat×AO)) (t:Nat) (o:AO),ab l t=some o→∃x∈l,x.1=t
 |[],t,o,h=>by simp[ab]at h|(k,v)::l,t,o,h=>by
  simp only[ab]at h;by_cases e:t=k;·exact⟨(k,v),by simp,e.symm⟩
  ·rw[if_neg e]at h;obtain⟨x,hx,hxt⟩:=iN l t o h;exact⟨x,by simp[hx],hxt⟩
section
variable{P:Program}{S1 S2:Nat→Prop}{w1 w2:World}{β1 β2:Nat→Value}{D1 D2:Nat→Prop}
theorem mK (g:Nat→AV→AV):∀(cs:List AV) (j k:Nat),(fZ g j cs)[k]?=(cs[k]?).map (g (1000*(j+k)))|[],j,k=>by simp[fZ]|c::cs,j,0=>by simp[fZ]|c::cs,j,k+1=>by simp only[fZ,List.getElem?_cons_succ,mK g cs (j+1) k];rw[show j+1+k=j+(k+1) from by omega]
theorem kh (g:Nat→AV→AV):∀(cs:List AV) (j:Nat),(fZ g j cs).length=cs.length|[],j=>rfl|c::cs,j=>by simp[fZ,kh g cs (j+1)]
theorem mT (g:Nat→AV→AV):∀(vs:List AV) (i k:Nat),(iX g i vs)[k]?=(vs[k]?).map (mX fun p c=>g (p+(i+k)) c)|[],i,k=>by simp[iX]|v::vs,i,0=>by simp[iX]|v::vs,i,k+1=>by simp only[iX,List.getElem?_cons_succ,mT g vs (i+1) k];rw[show i+1+k=i+(k+1) from by omega]
theorem kR (g:Nat→AV→AV):∀(vs:List AV) (i:Nat),(iX g i vs).length=vs.length|[],i=>rfl|v::vs,i=>by simp[iX,kR g vs (i+1)]
theorem tU {g1 g2:Nat→AV→AV}{r:AV}{v:Value} (h:∀j c u,bI r j=some c→RV P S1 w1 β1 D1 u (g1 (1000*j) c)→RV P S2 w2 β2 D2 u (g2 (1000*j) c)) (hr:RV P S1 w1 β1 D1 v (mX g1 r)):RV P S2 w2 β2 D2 v (mX g2 r):=by cases r with|agg cs=>obtain⟨us,rfl,hl,hc⟩:=RV.cN (show RV P S1 w1 β1 D1 v (.agg (fZ g1 0 cs)) from hr);refine .agg _ us (by rw[kh];rw[kh]at hl;exact hl) fun i c u h1 h2=>?_;rw[mK]at h1;obtain⟨c',hc',rfl⟩:=Option.map_eq_some_iff.1 h1;rw[Nat.zero_add];refine h i c' u hc' ?_;have:=hc i _ u (by rw[mK,hc'];rfl) h2;rwa[Nat.zero_add]at this|_=>exact h 0 _ v rfl hr
theorem kV {g1 g2:Nat→AV→AV}{r:AV}{v:Value} (ht:oT r=true) (h:∀p c u,cellAt r p=some c→RV P S1 w1 β1 D1 u (g1 p c)→RV P S2 w2 β2 D2 u (g2 p c)) (hr:RV P S1 w1 β1 D1 v (cR g1 r)):RV P S2 w2 β2 D2 v (cR g2 r):=by
 have key:∀r:AV,(∀vs,r≠.aS vs)→(∀p c u,cellAt r p=some c→RV P S1 w1 β1 D1 u (g1 p c)→RV P S2 w2 β2 D2 u (g2 p c))→RV P S1 w1 β1 D1 v (mX g1 r)→RV P S2 w2 β2 D2 v (mX g2 r):=by
  intro r hne h hr;refine tU (fun j c u hc hu=>h (1000*j) c u ?_ hu) hr;have h1:1000*j%1000=0:=by omega
  have h2:1000*j/1000=j:=by omega
  cases r<;>first|(exact absurd rfl (hne _))|(simp only[cellAt,h1,h2,if_true];exact hc)
 cases r with|aS vs=>
  obtain⟨us,rfl,hl,hc⟩:=RV.iE (show RV P S1 w1 β1 D1 v (.aS (iX g1 0 vs)) from hr);simp only[oT,decide_eq_true_eq]at ht;refine .aS _ us (by rw[kR];rw[kR]at hl;exact hl) fun i c u h1 h2=>?_;rw[mT]at h1;obtain⟨c',hc',rfl⟩:=Option.map_eq_some_iff.1 h1;have hlt:i<1000:=by have:=(List.getElem?_eq_some_iff.1 hc').1;omega
  refine tU (fun j c u hcell hu=>?_) (hc i _ u (by rw[mT,hc'];rfl) h2);refine h (1000*j+(0+i)) c u ?_ hu;have h1:(1000*j+(0+i))%1000=i:=by omega
  have h2:(1000*j+(0+i))/1000=j:=by omega
  simp only[cellAt,h1,h2,hc',Option.bind_some];exact hcell|_=>exact key _ (fun vs h=>by cases h) h hr
end
theorem uY (r:AV) (h:dA r=true):oT r=true:=by cases r with|aS vs=>simp only[dA,Bool.and_eq_true,decide_eq_true_eq]at h;simp only[oT,decide_eq_true_eq];omega|_=>rfl
theorem FO (r:AV) (h:∀vs,r≠.aS vs):dA r=rP r:=by cases r<;>first|rfl|exact absurd rfl (h _)
theorem Jh (r:AV) (h:∀vs,r≠.agg vs):rP r=lz r:=by cases r<;>first|rfl|exact absurd rfl (h _)
theorem zj:∀(r:AV) (p:Nat) (c:AV),dA r=true→cellAt r p=some c→lz c=true:=by
 have hL:∀(cs:List AV) (i:Nat) (c:AV),mc cs=true→cs[i]?=some c→lz c=true:=by intro cs;induction cs with|nil=>intro i c _ h;simp at h|cons x cs ih=>intro i c h hc;simp only[mc,Bool.and_eq_true]at h;cases i with|zero=>simp at hc;subst hc;exact h.1|succ i=>exact ih i c h.2 (by simpa using hc)
 have h1:∀(v:AV) (j:Nat) (c:AV),rP v=true→bI v j=some c→lz c=true:=by intro v j c h hc;cases v with|agg cs=>exact hL cs j c h hc|_=>
  rw[gg _ (fun vs h=>by cases h)]at hc;rw[Jh _ (fun vs h=>by cases h)]at h;split at hc;·injection hc with hc;subst hc;exact h
  ·cases hc
 have hV:∀(vs:List AV) (i:Nat) (v:AV),rE vs=true→vs[i]?=some v→rP v=true:=by intro vs;induction vs with|nil=>intro i v _ h;simp at h|cons x vs ih=>intro i v h hc;simp only[rE,Bool.and_eq_true]at h;cases i with|zero=>simp at hc;subst hc;exact h.1|succ i=>exact ih i v h.2 (by simpa using hc)
 intro r p c h hc;cases r with|aS vs=>simp only[cellAt,Option.bind_eq_some_iff]at hc;obtain⟨v,hv,hc⟩:=hc;simp only[dA,Bool.and_eq_true]at h;exact h1 v _ c (hV vs _ v h.2 hv) hc|_=>
  rw[eM _ (fun vs h=>by cases h)]at hc;rw[FO _ (fun vs h=>by cases h)]at h;split at hc;·exact h1 _ _ c h hc
  ·cases hc
theorem fp {S1 S2:Nat→Prop}{w1 w2:World}{v:Value}{p:PV} (h:da S1 w1 v p) (hf:iv p=true):da S2 w2 v p:=by cases h with|int k n=>exact .int k n|bool b=>exact .bool b|str l=>exact .str l|nil=>exact .nil|val v h=>exact .val v h|mp b us c ks h1 h2 h3 h4=>cases hf|mv b us c es h1 h2 h3 h4 h5 h6=>cases hf|pt ad cs us h1 h2 h3 h4=>cases hf|wB A c=>exact .wB A c|ro ad c rows sz us h1 h2 h3 h4 h5 h6=>
 have:rows=[]:=by simpa[iv]using hf
 subst this;exact .wB _ _
theorem iI:∀(r:AV) (p:Nat) (c:AV),flat r→cellAt r p=some c→nf c:=by
 have hL:∀(cs:List AV) (i:Nat) (c:AV),nY cs→cs[i]?=some c→nf c:=by intro cs;induction cs with|nil=>intro i c _ h;simp at h|cons x cs ih=>intro i c h hc;cases i with|zero=>simp at hc;subst hc;exact h.1|succ i=>exact ih i c h.2 (by simpa using hc)
 have h1:∀(v:AV) (j:Nat) (c:AV),lk v→bI v j=some c→nf c:=by intro v j c h hc;cases v with|agg cs=>exact hL cs j c h hc|_=>
  rw[gg _ (fun vs h=>by cases h)]at hc;rw[zV _ (fun vs h=>by cases h)]at h;split at hc;·injection hc with hc;subst hc;exact h
  ·cases hc
 have hV:∀(vs:List AV) (i:Nat) (v:AV),rM vs→vs[i]?=some v→lk v:=by intro vs;induction vs with|nil=>intro i v _ h;simp at h|cons x vs ih=>intro i v h hc;cases i with|zero=>simp at hc;subst hc;exact h.1|succ i=>exact ih i v h.2 (by simpa using hc)
 intro r p c h hc;cases r with|aS vs=>simp only[cellAt,Option.bind_eq_some_iff]at hc;obtain⟨v,hv,hc⟩:=hc;exact h1 v _ c (hV vs _ v h hv) hc|_=>
  rw[eM _ (fun vs h=>by cases h)]at hc;rw[DF _ (fun vs h=>by cases h)]at h;split at hc;·exact h1 _ _ c h hc
  ·cases hc
section
variable{P:Program}{S S':Nat→Prop}{w:World}{β β':Nat→Value}{aa:Nat→Option AO}{D':Nat→Prop}
theorem nG (hh:Heap P S w β aa) (hS:∀b,S b→S' b) {u:Value}{c:AV}{p:PV} (h:RV P S w β (aG aa) u c) (hr:ei aa c=some p) (hp:gM c=true∨∀t b,aG aa t→ct (β t)=some b→S' b):da S' w u p:=by have hm:∀b,S b→S' b∧w.heap[b]?=w.heap[b]?:=fun b hb=>⟨hS b hb,rfl⟩;cases c with
 |pv q=>have hq:=h.bm;cases q with|nil=>simp only[ei,Option.some.injEq]at hr;subst hr;rw[hq.ef];exact .wB none 0|_=>simp only[ei,Option.some.injEq]at hr;subst hr;exact hq.mono hm
 |own t=>
  have hall:∀t b,aG aa t→ct (β t)=some b→S' b:=by
   rcases hp with h|h;·simp[gM]at h
   ·exact h
  have hr:FJ (aa t)=some p:=hr;unfold FJ at hr;split at hr;rotate_left
  ·rename_i es hes;split at hr;rotate_left;·cases hr
   rename_i hun;rw[List.all_eq_true]at hun;simp only[Option.some.injEq]at hr;subst hr;obtain⟨b,us,c,hb,hbk,hl,hc⟩:=hh.holds t _ hes;rw[h.aT.1,hb];refine .mp b us c _ (hall t b ⟨_,hes⟩ (by rw[hb];rfl)) hbk (by simpa using hl) fun i k u h1 h2=>?_;rw[List.getElem?_map]at h1;obtain⟨e,he,rfl⟩:=Option.map_eq_some_iff.1 h1;obtain⟨g1,g2⟩:=hc i e u he h2;refine⟨g1,?_⟩;have hu:=hun e (List.mem_of_getElem? he);unfold KR at hu;split at hu;·rename_i he2;rw[he2]at g2;generalize u.val=V at g2 ⊢;cases g2 with|agg cs vs hl0 _=>have:vs=[]:=List.eq_nil_of_length_eq_zero hl0;subst this;rfl
   ·cases hu
  ·rename_i es hes;simp only[Option.some.injEq]at hr;subst hr;obtain⟨b,us,c,hb,hbk,hst,hl,hc⟩:=hh.holds t _ hes;rw[h.aT.1,hb];exact .mv b us c es (hall t b ⟨_,hes⟩ (by rw[hb];rfl)) hbk hst hl (fun i e u h1 h2=>⟨(hc i e u h1 h2).1,(hc i e u h1 h2).2.1,(hc i e u h1 h2).2.2.1⟩) fun i e u h1 h2=>(hc i e u h1 h2).2.2.2.mono hm
  ·cases hr
  rename_i e rows har0;simp only[Option.some.injEq]at hr;subst hr;have har:df (aa t)=some (e,rows):=by rw[har0];rfl
  obtain⟨inf,us,hi,hown,hrl,hcs⟩:=hh.arr (bH har);simp only at hown hrl hcs;rw[h.aT.1];by_cases hz:rows=[];·subst hz;obtain⟨A,c,hv,_⟩:=cB hown;rw[hv];exact .wB A c
  ·rcases hown.2 with⟨_,hz0⟩|⟨g,cap,cur,hv,_,hheap,hnc,_⟩;·exact absurd (List.eq_nil_of_length_eq_zero hz0) hz
   ·have hob:(β t).ownBlock=some g:=by rw[hv];rfl
    have hcell:=hown.cells hob;rw[hv];have hlook:∀i j,i<rows.length→j<inf.size→∃u,us[i*inf.size+j]?=some u:=fun i j hi hj=>by
     have hr:rows[i]?=some rows[i]:=List.getElem?_eq_getElem hi;have hj':j<rows[i].length:=by rw[hrl _ (List.mem_of_getElem? hr)];exact hj
     obtain⟨u,hu,_⟩:=hcs i j _ _ hr (List.getElem?_eq_getElem hj');exact⟨u,hu⟩
    refine .ro ⟨g,0,none⟩ cap rows inf.size (fun i j=>us.getD (i*inf.size+j) undef) (hall t g ⟨_,bH har⟩ (by rw[hv];rfl)) hnc hrl (fun i j hi hj=>?_) (fun i j r p h1 h2=>?_) (fun i j r p h1 h2=>?_);·obtain⟨u,hu⟩:=hlook i j hi hj;rw[hcell _ u hu];simp[List.getD_eq_getElem?_getD,hu]
    ·obtain⟨u,hu,h3,_⟩:=hcs i j r p h1 h2;simp only[List.getD_eq_getElem?_getD,hu,Option.getD_some];exact h3
    ·obtain⟨u,hu,_,h3⟩:=hcs i j r p h1 h2;simp only[List.getD_eq_getElem?_getD,hu,Option.getD_some];exact h3.mono hm|sub t e1 lo hi=>
  simp only[ei,Option.bind_eq_some_iff]at hr;obtain⟨⟨e,rows⟩,har,hr⟩:=hr;split at hr
  ·rename_i hee;simp only at hee;subst hee;simp only[Option.some.injEq]at hr;subst hr;have hall:∀t b,aG aa t→ct (β t)=some b→S' b:=by
    rcases hp with h|h;·simp[gM]at h
    ·exact h
   exact Cf (hh.arr (bH har)) hS (fun b hb=>hall t b ⟨_,bH har⟩ hb) h
  ·cases hr|_=>simp[ei]at hr
theorem pN:∀(cs:List AV) (ps:List PV),im aa cs=some ps→ps.length=cs.length∧∀(i:Nat) (p:PV),ps[i]?=some p→∃c,cs[i]?=some c∧ei aa c=some p|[],ps,h=>by simp[im]at h;subst h;exact⟨rfl,fun i p hp=>by simp at hp⟩|c::cs,ps,h=>by simp only[im,Option.bind_eq_some_iff,Option.map_eq_some_iff]at h;obtain⟨p,hp,qs,hqs,rfl⟩:=h;obtain⟨h1,h2⟩:=pN cs qs hqs;refine⟨by simp[h1],fun i q hq=>?_⟩;cases i with|zero=>simp at hq;subst hq;exact⟨c,rfl,hp⟩|succ i=>obtain⟨c',h3,h4⟩:=h2 i q (by simpa using hq);exact⟨c',by simpa using h3,h4⟩
theorem iY:∀(cs:List AV) (i:Nat) (c:AV),ic cs=true→cs[i]?=some c→gM c=true|[],i,c,_,h=>by simp at h|x::cs,0,c,h,hc=>by simp only[ic,Bool.and_eq_true]at h;simp at hc;subst hc;exact h.1|x::cs,i+1,c,h,hc=>by simp only[ic,Bool.and_eq_true]at h;exact iY cs i c h.2 (by simpa using hc)
theorem uP (hh:Heap P S w β aa) (hS:∀b,S b→S' b) {u:Value}{x y:AV} (h:RV P S w β (aG aa) u x) (hr:fg aa x=some y) (hp:dZ x=true∨∀t b,aG aa t→ct (β t)=some b→S' b):RV P S' w β' D' u y:=by
 have hm:∀b,S b→S' b∧w.heap[b]?=w.heap[b]?:=fun b hb=>⟨hS b hb,rfl⟩;have hgen:∀{x:AV}{q:Option PV},RV P S w β (aG aa) u x→ei aa x=q→(gM x=true∨∀t b,aG aa t→ct (β t)=some b→S' b)→q.map AV.pv=some y→RV P S' w β' D' u y:=by intro x q h hq hp hy;obtain⟨p,rfl,rfl⟩:=Option.map_eq_some_iff.1 hy;exact .pv _ _ (nG hh hS h hq hp)
 cases x with
 |ptr t o=>
  simp only[fg,Option.bind_eq_some_iff,Option.map_eq_some_iff]at hr;obtain⟨cs,hcs,ps,hps,rfl⟩:=hr;have hall:∀t b,aG aa t→ct (β t)=some b→S' b:=by
   rcases hp with h|h;·simp[dZ,gM]at h
   ·exact h
  obtain⟨b,rfl,hd,hb⟩:=h.eg;obtain⟨b',cur,ty,hpt,hheap,hl,hcells⟩:=hh.box (fD hcs);have hbb:b'=b:=by rw[hb]at hpt;simpa using hpt.symm
  subst hbb;obtain⟨h1,h2⟩:=pN _ ps hps;have hlook:∀(j:Nat) (p:PV),ps[j]?=some p→∃c v,cs[o+j]?=some c∧ei aa c=some p∧cur[o+j]?=some v∧v.oneCell'=true∧RV P S w β (aG aa) v c:=fun j p hj=>by
   obtain⟨c,hc,hrc⟩:=h2 j p hj;rw[List.getElem?_drop]at hc;have hlt:o+j<cur.size:=by rw[hl];exact(List.getElem?_eq_some_iff.1 hc).1
   have hv:cur[o+j]?=some cur[o+j]:=Array.getElem?_eq_getElem hlt;exact⟨c,_,hc,hrc,hv,(hcells _ c _ hc hv).1,(hcells _ c _ hc hv).2⟩
  refine .rp ⟨b',o,none⟩ ps (fun j=>cur.getD (o+j) undef) (hall t b' ⟨_,fD hcs⟩ (by rw[hpt];rfl)) (fun j hj=>?_) (fun j p hj=>?_) (fun j p hj=>?_);·obtain⟨c,v,_,_,hv,_⟩:=hlook j _ (List.getElem?_eq_getElem hj);rw[Addr.add_lit,cell_of_row w b' _ cur ty (0,0) hheap];simp[Array.getD_eq_getD_getElem?,hv]
  ·obtain⟨c,v,_,_,hv,h3,_⟩:=hlook j p hj;simp only[Array.getD_eq_getD_getElem?,hv,Option.getD_some];exact h3
  ·obtain⟨c,v,_,hrc,hv,_,h3⟩:=hlook j p hj;simp only[Array.getD_eq_getD_getElem?,hv,Option.getD_some];exact nG hh hS h3 hrc (.inr hall)|rp cs=>simp only[fg,Option.some.injEq]at hr;subst hr;obtain⟨ad,us,rfl,h1,h2,h3,h4⟩:=h.jb;exact .rp ad cs us (hS _ h1) h2 h3 (fun j p hj=>(h4 j p hj).mono hm)|agg cs=>
  simp only[fg,Option.map_eq_some_iff]at hr;obtain⟨ps,hps,rfl⟩:=hr;obtain⟨us,rfl,hl,hc⟩:=h.cN;obtain⟨h1,h2⟩:=pN _ ps hps;refine .agg _ us (by simp[hl,h1]) fun i c v hi hv=>?_;rw[List.getElem?_map,Option.map_eq_some_iff]at hi;obtain⟨p,hp',rfl⟩:=hi;obtain⟨c',hc',hrc⟩:=h2 i p hp';refine .pv _ _ (nG hh hS (hc i c' v hc' hv) hrc ?_);rcases hp with hp|hp;·exact .inl (iY cs i c' hp hc')
  ·exact .inr hp|bZ f caps=>cases caps with|nil=>simp only[fg,Option.some.injEq]at hr;subst hr;obtain⟨us,rfl,hl,_⟩:=h.mP;exact .bZ f [] us hl (fun i c u hc=>by simp at hc)|cons c cs=>simp[fg,ei]at hr
 |pv q=>exact hgen h rfl (.inl rfl) hr|own t=>exact hgen h rfl hp hr|aY t e i o=>simp[fg,ei]at hr|sub t e lo hi=>exact hgen h rfl hp hr|aS cs=>simp[fg,ei]at hr|fr e rows=>simp[fg,ei]at hr|bx cs=>simp[fg,ei]at hr|mf es=>simp[fg,ei]at hr|ck g v=>simp[fg,ei]at hr|ak=>simp[fg,ei]at hr
theorem wV:∀(cs ys:List AV),lu aa cs=some ys→ys.length=cs.length∧∀(i:Nat) (y:AV),ys[i]?=some y→∃c,cs[i]?=some c∧fg aa c=some y|[],ps,h=>by simp[lu]at h;subst h;exact⟨rfl,fun i p hp=>by simp at hp⟩|c::cs,ps,h=>by simp only[lu,Option.bind_eq_some_iff,Option.map_eq_some_iff]at h;obtain⟨p,hp,qs,hqs,rfl⟩:=h;obtain⟨h1,h2⟩:=wV cs qs hqs;refine⟨by simp[h1],fun i q hq=>?_⟩;cases i with|zero=>simp at hq;subst hq;exact⟨c,rfl,hp⟩|succ i=>obtain⟨c',h3,h4⟩:=h2 i q (by simpa using hq);exact⟨c',by simpa using h3,h4⟩
theorem vr {c:AV} (h:gM c=true):dZ c=true:=by cases c<;>first|exact h|(simp[gM]at h)
theorem qb (hh:Heap P S w β aa) (hS:∀b,S b→S' b) {u:Value}{x y:AV} (h:RV P S w β (aG aa) u x) (hr:nW aa x=some y) (hp:dZ x=true∨∀t b,aG aa t→ct (β t)=some b→S' b):RV P S' w β' D' u y:=by cases x with
 |bZ f caps=>
  simp only[nW,Option.map_eq_some_iff]at hr;obtain⟨ys,hys,rfl⟩:=hr;obtain⟨us,rfl,hl,hc⟩:=h.mP;obtain⟨h1,h2⟩:=wV _ ys hys;refine .bZ f ys us (by omega) fun i c v hi hv=>?_;obtain⟨c',hc',hrc⟩:=h2 i c hi;refine uP hh hS (hc i c' v hc' hv) hrc ?_;rcases hp with hp|hp;·exact .inl (vr (iY caps i c' hp hc'))
  ·exact .inr hp|_=>exact uP hh hS h hr hp
theorem om:∀(cs ys:List AV),fC aa cs=some ys→ys.length=cs.length∧∀(i:Nat) (y:AV),ys[i]?=some y→∃c,cs[i]?=some c∧nW aa c=some y|[],ps,h=>by simp[fC]at h;subst h;exact⟨rfl,fun i p hp=>by simp at hp⟩|c::cs,ps,h=>by simp only[fC,Option.bind_eq_some_iff,Option.map_eq_some_iff]at h;obtain⟨p,hp,qs,hqs,rfl⟩:=h;obtain⟨h1,h2⟩:=om cs qs hqs;refine⟨by simp[h1],fun i q hq=>?_⟩;cases i with|zero=>simp at hq;subst hq;exact⟨c,rfl,hp⟩|succ i=>obtain⟨c',h3,h4⟩:=h2 i q (by simpa using hq);exact⟨c',by simpa using h3,h4⟩
theorem qq:∀(cs:List AV) (i:Nat) (c:AV),eR cs=true→cs[i]?=some c→dZ c=true|[],i,c,_,h=>by simp at h|x::cs,0,c,h,hc=>by simp only[eR,Bool.and_eq_true]at h;simp at hc;subst hc;exact h.1|x::cs,i+1,c,h,hc=>by simp only[eR,Bool.and_eq_true]at h;exact qq cs i c h.2 (by simpa using hc)
end
section
variable{P:Program}{S0 L:Nat→Prop}{B0:Nat→Value}{w0 w:World}{N:Nat}{st:St}{a:Act}{β:Nat→Value}
theorem rL (h:Rel P S0 L B0 w0 N st a w β) {f:FuncId}{d:Nat} (hd9:d%1000≠999) {vals:List Value}{xs ys:List AV}{r:AV} (hl:vals.length=xs.length) (hv:∀(i:Nat) (v:Value) (x:AV),vals[i]?=some v→xs[i]?=some x→RV P (aU S0 w0.heap.size β st.aa w) w β (aG st.aa) v x) (hrl:ys.length=xs.length) (hrg:∀(i:Nat) (y:AV),ys[i]?=some y→∃c,xs[i]?=some c∧(nW st.aa c=some y∨(c=.pv .nil∧y=.pv .nil))) (hcon:u9 P f [] ys [] r) (hpf:eR xs=true∨flat r) (hfree:∀x∈aP d r,st.aa x.1=none) (hres:dA r=true):Calls P f vals.toArray w fun e w'=>∃v β',e=.returned v∧Rel P S0 L B0 w0 N ⟨st.vars,bA (aP d r) st.aa⟩ a w' β'∧RV P (aU S0 w0.heap.size β' (bA (aP d r) st.aa) w') w' β' (aG (bA (aP d r) st.aa)) v (cR (lA d) r):=by
 have htup:=uY r hres;obtain⟨S1,hS1,hS1lt,hcase⟩:∃S1:Nat→Prop,(∀b,aU S0 w0.heap.size β st.aa w b→S1 b)∧(∀b,S1 b→b<w.heap.size)∧((eR xs=true∧S1=aU S0 w0.heap.size β st.aa w)∨(flat r∧∀b,b<w.heap.size→S1 b)):=by
  rcases hpf with hp|hp;·exact⟨_,fun b hb=>hb,fun b hb=>hb.2.1,.inl ⟨hp,rfl⟩⟩
  ·exact⟨fun b=>b<w.heap.size,fun b hb=>hb.2.1,fun b hb=>hb,.inr ⟨hp,fun b hb=>hb⟩⟩
 have hS1eq:∀b,aU S1 w.heap.size β (ab []) w b↔S1 b:=by
  intro b;constructor
  ·rintro⟨h1|h1,h2,_⟩;·exact h1
   ·omega
  ·intro hb;exact⟨.inl hb,hS1lt b hb,fun⟨t,o,ho,_⟩=>by simp[ab]at ho⟩
 refine(hcon w S1 β vals hS1lt (fun t b ⟨o,ho⟩=>by simp[ab]at ho) ⟨fun t o ho=>by simp[ab]at ho,fun t t' b ⟨o,ho⟩=>by simp[ab]at ho⟩ (by omega) (fun i v y hvi hyi=>?_)).mono ?_
 ·obtain⟨x,hx,hrx⟩:=hrg i y hyi;rcases hrx with hrx|⟨rfl,rfl⟩;rotate_left;·rw[(hv i v _ hvi hx).bm.ef];exact .pv _ _ .nil
  refine qb h.heap (fun b hb=>(hS1eq b).2 (hS1 b hb)) (hv i v x hvi hx) hrx ?_;rcases hcase with⟨hp,_⟩|⟨_,hall⟩;·exact .inl (qq xs i x hp hx)
  ·exact .inr fun t b ht hb=>(hS1eq b).2 (hall b (h.lt ht hb))
 ·rintro e w' ⟨v,β1,rfl,hfr,hheap,hnew,hrv⟩;have hnolive:∀b,¬live β (ab []) b:=fun b ⟨t,o,ho,_⟩=>by simp[ab]at ho
  have hobj1:(bo (ab []) fun t=>du (cellAt r t))=fun t=>du (cellAt r t):=by funext t;simp[bo,ab]
  rw[hobj1]at hheap hnew hrv;let β2:Nat→Value:=fun t=>match ab (aP d r) t with|some _=>β1 ((t-d)/1000)|none=>β t;have hβnew:∀p o,du (cellAt r p)=some o→β2 (d+1000*p)=β1 p:=fun p o hp=>by simp only[β2,fv d r htup,hp];congr 1;omega
  have hβold:∀t,aG st.aa t→β2 t=β t:=fun t ⟨o,ho⟩=>by cases hlk:ab (aP d r) t with|none=>simp only[β2,hlk]|some o'=>obtain⟨x,hx,rfl⟩:=iN _ _ _ hlk;rw[hfree x hx]at ho;cases ho
  have hlook2:∀t,bA (aP d r) st.aa t=match ab (aP d r) t with|some o=>some o|none=>st.aa t:=fun t=>rfl;have hdomNew:∀p o,du (cellAt r p)=some o→bA (aP d r) st.aa (d+1000*p)=some o:=fun p o hp=>by rw[hlook2,fv d r htup,hp]
  have hdomOld:∀t o,st.aa t=some o→bA (aP d r) st.aa t=some o:=fun t o ho=>by rw[hlook2];cases hlk:ab (aP d r) t with|none=>exact ho|some o'=>obtain⟨x,hx,rfl⟩:=iN _ _ _ hlk;rw[hfree x hx]at ho;cases ho
  have hcases:∀t o,bA (aP d r) st.aa t=some o→(∃p,t=d+1000*p∧du (cellAt r p)=some o)∨(st.aa t=some o∧ab (aP d r) t=none):=fun t o ho=>by rw[hlook2]at ho;cases hlk:ab (aP d r) t with|none=>rw[hlk]at ho;exact .inr ⟨ho,rfl⟩|some o'=>rw[hlk]at ho;injection ho with ho;subst ho;obtain⟨p,rfl⟩:=uF d r t hlk;rw[fv d r htup]at hlk;exact .inl ⟨p,rfl,hlk⟩
  have hnew':∀p o b,du (cellAt r p)=some o→ct (β1 p)=some b→w.heap.size≤b:=fun p o b hp hb=>by
   rcases hnew p b ⟨o,hp⟩ hb with h1|h1;·exact h1
   ·exact absurd h1 (hnolive b)
  have hsame:∀b,b<w.heap.size→w'.heap[b]?=w.heap[b]?:=fun b hb=>hfr.block b hb (hnolive b);have holdblk:∀t o b,st.aa t=some o→ct (β t)=some b→b<w.heap.size:=fun t o b ho hb=>h.lt ⟨o,ho⟩ hb;have hlive2:∀b,live β2 (bA (aP d r) st.aa) b→(live β st.aa b∧b<w.heap.size)∨(live β1 (fun t=>du (cellAt r t)) b∧w.heap.size≤b):=by
   rintro b ⟨t,o,ho,hb⟩;rcases hcases t o ho with⟨p,rfl,hp⟩|⟨ho',_⟩;·rw[hβnew p o hp]at hb;exact .inr ⟨⟨p,o,hp,hb⟩,hnew' p o b hp hb⟩
   ·rw[hβold t ⟨o,ho'⟩]at hb;exact .inl ⟨⟨t,o,ho',hb⟩,holdblk t o b ho' hb⟩
  have hm:∀b,aU S0 w0.heap.size β st.aa w b→aU S0 w0.heap.size β2 (bA (aP d r) st.aa) w' b∧w'.heap[b]?=w.heap[b]?:=by
   rintro b ⟨h1,h2,h3⟩;refine⟨⟨h1,Nat.lt_of_lt_of_le h2 hfr.size,fun hl=>?_⟩,hsame b h2⟩;rcases hlive2 b hl with⟨hx,_⟩|⟨_,hx⟩;·exact h3 hx
   ·omega
  have hD:∀t,aG st.aa t→aG (bA (aP d r) st.aa) t∧β2 t=β t:=fun t ht=>by obtain⟨o,ho⟩:=ht;exact⟨⟨o,hdomOld t o ho⟩,hβold t ⟨o,ho⟩⟩
  have hcalS:eR xs=true→S1=aU S0 w0.heap.size β st.aa w→∀b,aU S1 w.heap.size β1 (fun t=>du (cellAt r t)) w' b→aU S0 w0.heap.size β2 (bA (aP d r) st.aa) w' b∧w'.heap[b]?=w'.heap[b]?:=by
   rintro _ hSe b ⟨h1,h2,h3⟩;refine⟨⟨?_,h2,fun hl=>?_⟩,rfl⟩
   ·rcases h1 with h1|h1;·rw[hSe]at h1;exact h1.1
    ·have:=h.bS.size;exact .inr (by omega)
   ·rcases hlive2 b hl with⟨hx,hy⟩|⟨hx,_⟩
    ·rcases h1 with h1|h1;·rw[hSe]at h1;exact h1.2.2 hx
     ·omega
    ·exact h3 hx
  have hrel:Rel P S0 L B0 w0 N ⟨st.vars,bA (aP d r) st.aa⟩ a w' β2:=by
   refine⟨h.size,h.defers,fun s=>(h.vars s).mono hm hD,⟨fun t o ho=>?_,fun t t' b ht ht' hb hb'=>?_⟩,fun t b ht hb=>?_,h.qn,fun t h9 ht=>?_,?_⟩
   ·rcases hcases t o ho with⟨p,rfl,hp⟩|⟨ho',_⟩;·have hho:=hheap.holds p o hp;cases o with
     |box cs=>
      exfalso;unfold du at hp;split at hp;·cases hp
      ·cases hp|map es=>
      exfalso;unfold du at hp;split at hp;·cases hp
      ·cases hp|rws e cs=>
      exfalso;unfold du at hp;split at hp;·cases hp
      ·cases hp|iF es=>
      exfalso;unfold du at hp;split at hp;·cases hp
      ·cases hp|nC rem cur=>
      exfalso;unfold du at hp;split at hp;·cases hp
      ·cases hp|arr e rows=>
      obtain⟨inf,us,hi,hown,hrl',hcs⟩:=hho;refine⟨inf,us,hi,by rw[hβnew p _ hp];exact hown,hrl',fun i j row q h1 h2=>?_⟩;obtain⟨u,hu,h3,h4⟩:=hcs i j row q h1 h2;refine⟨u,hu,h3,?_⟩;rcases hcase with⟨hpu,hSe⟩|⟨hfl,_⟩;·exact h4.mono (hcalS hpu hSe)
      ·refine fp h4 ?_;have hcell:∃e',cellAt r p=some (.fr e' rows):=by
        unfold du at hp;split at hp;·rename_i e' rows' heq;injection hp with hp;injection hp with hp1 hp2;subst hp2;exact⟨e',heq⟩
        ·cases hp
       obtain⟨e',hce⟩:=hcell;have hfc:cT rows:=iI r p _ hfl hce;exact hfc row (List.mem_of_getElem? h1) q (List.mem_of_getElem? h2)
    ·exact(h.heap.holds t o ho').mono hm hD (hβold t ⟨o,ho'⟩) (fun b hb=>hsame b (holdblk t o b ho' hb))
   ·obtain⟨o,ho⟩:=ht;obtain⟨o',ho'⟩:=ht';rcases hcases t o ho with⟨p,rfl,hp⟩|⟨h1,_⟩<;>rcases hcases t' o' ho' with⟨p',rfl,hp'⟩|⟨h2,_⟩;·rw[hβnew p o hp]at hb;rw[hβnew p' o' hp']at hb';rw[hheap.inj p p' b ⟨o,hp⟩ ⟨o',hp'⟩ hb hb']
    ·rw[hβnew p o hp]at hb;rw[hβold t' ⟨o',h2⟩]at hb';have:=hnew' p o b hp hb;have:=holdblk t' o' b h2 hb';omega
    ·rw[hβold t ⟨o,h1⟩]at hb;rw[hβnew p' o' hp']at hb';have:=hnew' p' o' b hp' hb';have:=holdblk t o b h1 hb;omega
    ·rw[hβold t ⟨o,h1⟩]at hb;rw[hβold t' ⟨o',h2⟩]at hb';exact h.heap.inj t t' b ⟨o,h1⟩ ⟨o',h2⟩ hb hb'
   ·obtain⟨o,ho⟩:=ht;rcases hcases t o ho with⟨p,rfl,hp⟩|⟨h1,_⟩;·rw[hβnew p o hp]at hb;have:=hnew' p o b hp hb;have:=h.bS.size;exact .inl (by omega)
    ·rw[hβold t ⟨o,h1⟩]at hb;exact h.old t b ⟨o,h1⟩ hb
   ·obtain⟨o,ho⟩:=ht;rcases hcases t o ho with⟨p,rfl,hp⟩|⟨h1,_⟩;·omega
    ·rw[hβold t ⟨o,h1⟩];exact h.u5 t h9 ⟨o,h1⟩
   ·exact⟨hfr.os.trans h.bS.os,hfr.tape.trans h.bS.tape,hfr.output.trans h.bS.output,Nat.le_trans h.bS.size hfr.size,fun b h1 h2=>(hsame b (by have:=h.bS.size;omega)).trans (h.bS.block b h1 h2)⟩
  refine⟨v,β2,rfl,hrel,?_⟩;refine kV htup (fun p c u hc hu=>?_) hrv;have hrc:=zj r p c hres hc;cases c with
  |fr e rows=>
   have hp:du (cellAt r p)=some (.arr e rows):=by rw[hc];rfl
   obtain⟨hu1,hu2⟩:=RV.aT (show RV P _ w' β1 _ u (.own p) from hu);rw[hu1,←hβnew p _ hp];exact .own (d+1000*p) ⟨_,hdomNew p _ hp⟩|pv q=>
   refine .pv _ _ ?_;rcases hcase with⟨hp,hSe⟩|⟨hfl,_⟩;·exact hu.bm.mono (hcalS hp hSe)
   ·exact fp hu.bm (iI r p _ hfl hc)|rp cs=>
   rcases hcase with⟨hp,hSe⟩|⟨hfl,_⟩;·obtain⟨ad,us,rfl,h1,h2,h3,h4⟩:=(show RV P _ w' β1 _ u (.rp cs) from hu).jb;exact .rp ad cs us (hcalS hp hSe _ h1).1 h2 h3 (fun j q hq=>(h4 j q hq).mono (hcalS hp hSe))
   ·exact(iI r p _ hfl hc).elim|_=>simp[lz]at hrc
theorem Ck (h:Rel P S0 L B0 w0 N st a w β) {f:FuncId}{d:Nat} (hd9:d%1000≠999) {vals:List Value}{xs ys:List AV}{r:AV} (hl:vals.length=xs.length) (hv:∀(i:Nat) (v:Value) (x:AV),vals[i]?=some v→xs[i]?=some x→RV P (aU S0 w0.heap.size β st.aa w) w β (aG st.aa) v x) (hre:fC st.aa xs=some ys) (hcon:u9 P f [] ys [] r) (hpf:eR xs=true∨flat r) (hfree:∀x∈aP d r,st.aa x.1=none) (hres:dA r=true):Calls P f vals.toArray w fun e w'=>∃v β',e=.returned v∧Rel P S0 L B0 w0 N ⟨st.vars,bA (aP d r) st.aa⟩ a w' β'∧RV P (aU S0 w0.heap.size β' (bA (aP d r) st.aa) w') w' β' (aG (bA (aP d r) st.aa)) v (cR (lA d) r):=by obtain⟨hrl,hrg⟩:=om _ ys hre;exact rL h hd9 hl hv hrl (fun i y hy=>by obtain⟨c,h1,h2⟩:=hrg i y hy;exact⟨c,h1,.inl h2⟩) hcon hpf hfree hres
end
theorem ky {w:World}{b:Nat}{e:TypeId}{sz n:Nat}{v:Value}{us:List Value} (h:w.ownsRow b e sz v n us) {hi:Nat} (hle:hi≤n) {A:Option Addr}{c:Nat} (hv:v=.slice A n c):w.ownsRow b e sz (.slice A hi c) hi (us.take (hi*sz)):=by
 subst hv;have hm:hi*sz≤n*sz:=Nat.mul_le_mul_right _ hle;refine⟨by rw[List.length_take,h.1];omega,?_⟩;rcases h.2 with⟨h1,h2⟩|⟨g,cap,cur,h1,h2,h3,h4,h5,h6,h7⟩
 ·have:A=none∧n=0∧c=0:=by simpa using h1
  obtain⟨rfl,rfl,rfl⟩:=this;obtain rfl:hi=0:=by omega
  exact .inl ⟨rfl,rfl⟩
 ·have:A=some ⟨g,0,none⟩∧c=cap:=by simpa using h1
  obtain⟨rfl,rfl⟩:=this;refine .inr ⟨g,c,cur,rfl,h2,h3,by omega,h5,h6,?_⟩;rw[←h7,List.take_take,Nat.min_eq_left hm]
section
variable{P:Program}{S S':Nat→Prop}{w w':World}{β β':Nat→Value}{D D':Nat→Prop}{W:List Nat}
theorem RV.eF {v:Value}{x:AV} (h:RV P S w β D v x) (hS:∀b,S b→S' b∧w'.heap[b]?=w.heap[b]?) (hD:∀s,D s→W.contains s=false→D' s∧β' s=β s):RV P S' w' β' D' v (eF W x):=by cases h with
 |pv v p h=>exact .pv _ _ (h.mono hS)|own s h=>
  simp only[Ab.eF];split;·exact .ak _
  ·rename_i hne;have:=hD s h (by simpa using hne);rw[←this.2];exact .own s this.1|ptr s o b h hb=>
  simp only[Ab.eF];split;·exact .ak _
  ·rename_i hne;have:=hD s h (by simpa using hne);exact .ptr s o b this.1 (this.2.trans hb)|aY s e i o b n c inf h hi hb=>
  simp only[Ab.eF];split;·exact .ak _
  ·rename_i hne;have:=hD s h (by simpa using hne);exact .aY s e i o b n c inf this.1 hi (this.2.trans hb)|sub v s e lo hi inf A A1 n c h hi' hb h1 h2 h3 h4 h5 hv=>
  simp only[Ab.eF];split;·exact .ak _
  ·rename_i hne;have:=hD s h (by simpa using hne);exact .sub v s e lo hi inf A A1 n c this.1 hi' (this.2.trans hb) h1 h2 h3 h4 h5 hv|rp ad cs us h1 h2 h3 h4=>exact .rp ad cs us (hS _ h1).1 (fun j hj=>(vV (hS _ h1).2 _).trans (h2 j hj)) h3 (fun j p hp=>(h4 j p hp).mono hS)|agg cs us hl h=>exact .ak _|aS cs us hl h=>exact .ak _|bZ f cs us hl h=>cases cs with|nil=>refine .bZ f [] us hl ?_;intro i c u hc;simp at hc|cons c cs=>exact .ak _
 |ck g v av h=>exact .ak _|ak v=>exact .ak _
theorem RV.jk {v:Value}{x:AV} (h:RV P S w β D v x) (hS:∀b,S b→S' b∧w'.heap[b]?=w.heap[b]?) (hD:∀s,D s→W.contains s=false→D' s∧β' s=β s):RV P S' w' β' D' v (jk W x):=by
 by_cases hx:∃cs,x=.agg cs;·obtain⟨cs,rfl⟩:=hx;obtain⟨us,rfl,hl,h⟩:=h.cN;refine .agg _ us (by rw[List.length_map];exact hl) fun i c u hc hu=>?_;rw[List.getElem?_map]at hc;obtain⟨c',hc',rfl⟩:=Option.map_eq_some_iff.1 hc;exact(h i c' u hc' hu).eF hS hD
 ·have:Ab.jk W x=Ab.eF W x:=by cases x<;>first|rfl|exact absurd ⟨_,rfl⟩ hx
  rw[this];exact h.eF hS hD
theorem RV.m7 {v:Value}{x:AV} (h:RV P S w β D v x) (hS:∀b,S b→S' b∧w'.heap[b]?=w.heap[b]?) (hD:∀s,D s→W.contains s=false→D' s∧β' s=β s):RV P S' w' β' D' v (m7 W x):=by induction h with|aS cs us hl h _=>refine .aS _ us (by rw[List.length_map];exact hl) fun i c u hc hu=>?_;rw[List.getElem?_map]at hc;obtain⟨c',hc',rfl⟩:=Option.map_eq_some_iff.1 hc;exact(h i c' u hc' hu).jk hS hD|bZ f cs us hl h _=>refine .bZ f _ us (by rw[List.length_map];exact hl) fun i c u hc hu=>?_;rw[List.getElem?_map]at hc;obtain⟨c',hc',rfl⟩:=Option.map_eq_some_iff.1 hc;exact(h i c' u hc' hu).jk hS hD|ck g v av h hu ih=>exact .ck g v _ (fun hg=>ih hg) hu|agg cs us hl h _=>exact RV.jk (x:=.agg cs) (.agg cs us hl h) hS hD|pv v p h=>exact RV.jk (x:=.pv p) (.pv v p h) hS hD|own s h=>exact RV.jk (x:=.own s) (.own s h) hS hD|ptr s o b h hb=>exact RV.jk (x:=.ptr s o) (.ptr s o b h hb) hS hD|aY s e i o b n c inf h hi hb=>exact RV.jk (x:=.aY s e i o) (.aY s e i o b n c inf h hi hb) hS hD|sub v s e lo hi inf A A1 n c h hi' hb h1 h2 h3 h4 h5 hv=>exact RV.jk (x:=.sub s e lo hi) (.sub v s e lo hi inf A A1 n c h hi' hb h1 h2 h3 h4 h5 hv) hS hD|rp ad cs us h1 h2 h3 h4=>exact RV.jk (x:=.rp cs) (.rp ad cs us h1 h2 h3 h4) hS hD|ak v=>exact .ak _
theorem RV.fB {v:Value}{x:AV} (h:RV P S w β D v x) (hS:∀b,S b→S' b∧w'.heap[b]?=w.heap[b]?) (hD:∀s,D s→W.contains s=false→D' s∧β' s=β s):RV P S' w' β' D' v (fB W x):=by
 unfold Ab.fB;split
 ·rename_i he;have:W=[]:=by simpa using he
  subst this;exact h.mono hS fun s hs=>hD s hs rfl
 ·exact h.m7 hS hD
theorem bn.fB {s:Nat}{o:AO} (h:bn P S w β D s o) (hS:∀b,S b→S' b∧w'.heap[b]?=w.heap[b]?) (hD:∀s,D s→W.contains s=false→D' s∧β' s=β s) (ht:β' s=β s) (hb:∀b,ct (β s)=some b→w'.heap[b]?=w.heap[b]?):bn P S' w' β' D' s (kc W o):=by
 unfold kc;split
 ·rename_i he;have:W=[]:=by simpa using he
  subst this;exact h.mono hS (fun s hs=>hD s hs rfl) ht hb
 cases o with|box cs=>obtain⟨b,us,ty,hpt,hh,hl,hc⟩:=h;refine⟨b,us,ty,ht.trans hpt,(hb b (by rw[hpt];rfl)).trans hh,by rw[List.length_map];exact hl,fun i c u h1 h2=>?_⟩;rw[List.getElem?_map]at h1;obtain⟨c',hc',rfl⟩:=Option.map_eq_some_iff.1 h1;exact⟨(hc i c' u hc' h2).1,(hc i c' u hc' h2).2.eF hS hD⟩|arr e rows=>exact bn.mono (D:=fun _=>False) (show bn P S w β (fun _=>False) s (.arr e rows) from h) hS (fun _ hf=>hf.elim) ht hb|map es=>exact bn.mono (D:=fun _=>False) (show bn P S w β (fun _=>False) s (.map es) from h) hS (fun _ hf=>hf.elim) ht hb|iF es=>exact bn.mono (D:=fun _=>False) (show bn P S w β (fun _=>False) s (.iF es) from h) hS (fun _ hf=>hf.elim) ht hb|nC rem cur=>exact bn.mono (D:=fun _=>False) (show bn P S w β (fun _=>False) s (.nC rem cur) from h) hS (fun _ hf=>hf.elim) ht hb|rws e cs=>
  obtain⟨inf,us,hi,h1s,hown,hc⟩:=h;refine⟨inf,us,hi,h1s,?_,fun i c u h1 h2=>?_⟩
  ·rw[ht,List.length_map];refine⟨hown.1,?_⟩;rcases hown.2 with h0|⟨g,cap,cur,hv,h1,h2,h3,h4,h5,h6⟩;·exact .inl h0
   ·exact .inr ⟨g,cap,cur,hv,h1,(hb g (by rw[hv];rfl)).trans h2,h3,h4,h5,h6⟩
  ·rw[List.getElem?_map]at h1;obtain⟨c',hc',rfl⟩:=Option.map_eq_some_iff.1 h1;exact⟨(hc i c' u hc' h2).1,(hc i c' u hc' h2).2.eF hS hD⟩
end
def yN (f:AV→AV→Prop):List AV→List AV→Prop|[],[]=>True|c::cs,y::ys=>f c y∧yN f cs ys|_,_=>False
def mt (P:Program) (aa:Nat→Option AO):Nat→AV→AV→Prop|0,_,_=>False|n+1,x,y=>match y with|.fr e rows=>vn P aa x (.fr e rows)|.mf es=>∃t,x=.own t∧aa t=some (.iF es)|.bx cs=>∃t l,x=.ptr t 0∧aa t=some (.box l)∧yN (mt P aa n) l cs|.agg cs=>∃l,x=.agg l∧yN (mt P aa n) l cs|.aS cs=>∃l,x=.aS l∧yN (mt P aa n) l cs|.pv p=>x=.pv p|.rp cs=>x=.rp cs|.bZ f cs=>x=.bZ f []∧cs=[]|_=>False
def tg (aa:Nat→Option AO):Nat→AV→List Nat|0,_=>[]|n+1,x=>match x with|.own t=>[t]|.sub t _ _ _=>[t]|.ptr t 0=>t::((eV (aa t)).getD []).flatMap (tg aa n)|.agg cs=>cs.flatMap (tg aa n)|.aS cs=>cs.flatMap (tg aa n)|_=>[]
theorem gC {f:AV→AV→Prop}:∀{l ys:List AV},yN f l ys→l.length=ys.length∧∀(i:Nat) (c y:AV),l[i]?=some c→ys[i]?=some y→f c y
 |[],[],_=>⟨rfl,fun i c y hc=>by simp at hc⟩|c::cs,y::ys,h=>by obtain⟨h1,h2⟩:=gC h.2;refine⟨by simp[h1],fun i c' y' hc hy=>?_⟩;cases i with|zero=>simp at hc hy;rw[←hc,←hy];exact h.1|succ i=>exact h2 i c' y' (by simpa using hc) (by simpa using hy)
 |[],_::_,h=>h.elim|_::_,[],h=>h.elim
def dm (β:Nat→Value) (ts:List Nat):List Nat:=ts.filterMap fun t=>ct (β t)
theorem ft (β:Nat→Value) (a b:List Nat):dm β (a++b)=dm β a++dm β b:=List.filterMap_append
theorem ka (β:Nat→Value) (t:Nat):dm β [t]=(ct (β t)).toList:=by unfold dm;cases h:ct (β t)<;>simp[h]
theorem fJ {α:Type} (β:Nat→Value) (f:α→List Nat):∀l:List α,dm β (l.flatMap f)=(l.map fun c=>dm β (f c)).flatten|[]=>rfl|c::l=>by rw[List.flatMap_cons,ft,fJ β f l];rfl
section
variable{P:Program}{S S':Nat→Prop}{w w':World}{β:Nat→Value}{aa:Nat→Option AO}
theorem lE (hh:Heap P S w β aa) (hS:∀b,S b→S' b):∀(n:Nat) {v:Value}{x y:AV},mt P aa n x y→RV P S w β (aG aa) v x→HT P S' w v y (dm β (tg aa n x))
 |0,_,_,_,h,_=>h.elim|n+1,v,x,y,h,hv=>by
  have hS2:∀b,S b→S' b∧w.heap[b]?=w.heap[b]?:=fun b hb=>⟨hS b hb,rfl⟩;have lst:∀{l cs:List AV}{us:List Value},yN (mt P aa n) l cs→(∀(i:Nat) (c:AV) (u:Value),l[i]?=some c→us[i]?=some u→RV P S w β (aG aa) u c)→∀(i:Nat) (c:AV) (u:Value) (bs:List Nat),cs[i]?=some c→us[i]?=some u→(l.map fun c=>dm β (tg aa n c))[i]?=some bs→HT P S' w u c bs:=by
   intro l cs us hm hc i c u bs h1 h2 h3;obtain⟨hl,hg⟩:=gC hm;have hi:i<l.length:=by rw[hl];exact(List.getElem?_eq_some_iff.1 h1).1
   have h4:l[i]?=some l[i]:=List.getElem?_eq_getElem hi;rw[List.getElem?_map,h4]at h3;simp only[Option.map_some,Option.some.injEq]at h3;rw[←h3];exact lE hh hS n (hg i _ c h4 h1) (hc i _ u h4 h2)
  unfold mt at h;split at h
  ·rename_i e rows;rcases h with⟨t,rfl,ht⟩|⟨rfl,rfl,hi⟩|⟨t,hi,rs,rfl,ht,rfl⟩;·obtain⟨rfl,_⟩:=hv.aT;obtain⟨inf,us,h1,h2,h3,h4⟩:=hh.holds t _ ht;have:dm β (tg aa (n+1) (.own t))=(ct (β t)).toList:=ka β t;rw[this];exact .fr _ e rows inf us h1 h2 h3 fun i j r p hr hp=>by obtain⟨u,hu,ho,hr⟩:=h4 i j r p hr hp;exact⟨u,hu,ho,hr.mono hS2⟩
   ·obtain⟨inf,hi⟩:=Option.isSome_iff_exists.1 hi;have hvn:=hv.bm.ef;subst hvn;exact .fr (.slice none 0 0) e [] inf [] hi (World.ownsRow_nil w 0 e inf.size) (fun r hr=>by simp at hr) (fun i j r p hr=>by simp at hr)
   ·obtain⟨inf,us,hinf,how,hrl,hcl⟩:=hh.holds t _ ht;obtain⟨A,c,hbt,hcc⟩:=cB how;obtain⟨inf1,Ad,Ad1,n',c1,hdt,hi1,hb1,g1,g2,g3,g4,g5,hux⟩:=hv.gF;rw[hbt]at hb1;have h3:A=Ad∧rs.length=n'∧c=c1:=by simpa using hb1
    obtain⟨rfl,rfl,rfl⟩:=h3;have hlen:(rs.take hi).length=hi:=by rw[List.length_take];omega
    have hv2:v=.slice A hi c:=by rw[hux,g4 rfl];simp
    subst hv2;have hb2:dm β (tg aa (n+1) (.sub t e 0 hi))=(ct (.slice A hi c)).toList:=by refine(ka β t).trans ?_;rw[hbt];cases A<;>rfl
    rw[hb2];refine .fr _ e _ inf (us.take (hi*inf.size)) hinf ?_ (fun r hr=>hrl r (List.mem_of_mem_take hr)) fun i j r p hr hp=>?_;·rw[hlen];exact ky how g2 hbt
    ·have hi2:i<hi:=by rw[←hlen];exact(List.getElem?_eq_some_iff.1 hr).1
     rw[List.getElem?_take,if_pos hi2]at hr;obtain⟨u,hu,h1,h2⟩:=hcl i j r p hr hp;have hj:j<inf.size:=by rw[←hrl r (List.mem_of_getElem? hr)];exact(List.getElem?_eq_some_iff.1 hp).1
     have hlt:i*inf.size+j<hi*inf.size:=by have:=Nat.mul_le_mul_right inf.size (show i+1≤hi from hi2);rw[Nat.succ_mul]at this;omega
     exact⟨u,by rw[List.getElem?_take,if_pos hlt];exact hu,h1,h2.mono hS2⟩
  ·rename_i es;obtain⟨t,rfl,ht⟩:=h;obtain⟨rfl,_⟩:=hv.aT;obtain⟨b,us,c,h1,h2,hst,h3,h4⟩:=hh.holds t _ ht;have:dm β (tg aa (n+1) (.own t))=[b]:=(ka β t).trans (by rw[h1];rfl);rw[this,h1];exact .mf b us c es h2 hst h3 fun i e u he hu=>⟨(h4 i e u he hu).1,(h4 i e u he hu).2.1,(h4 i e u he hu).2.2.1,(h4 i e u he hu).2.2.2.mono hS2⟩
  ·rename_i cs;obtain⟨t,l,rfl,ht,hm⟩:=h;obtain⟨b,rfl,_,hb⟩:=hv.eg;obtain⟨b',us,ty,h1,h2,h3,h4⟩:=hh.holds t _ ht;rw[hb]at h1;injection h1 with h1;injection h1 with h1;injection h1 with h1;subst h1;have e1:dm β (tg aa (n+1) (.ptr t 0))=b::(l.map fun c=>dm β (tg aa n c)).flatten:=by show dm β (t::((eV (aa t)).getD []).flatMap (tg aa n))=_;rw[ht];show dm β ([t]++l.flatMap (tg aa n))=_;rw[ft,fJ,ka,hb];rfl
   rw[e1];refine .bx b us ty cs _ h2 (h3.trans (gC hm).1) (by rw[List.length_map];exact(gC hm).1) (fun i u hu=>?_) fun i c u bs h5 h6 h7=>lst (us:=us.toList) hm (fun i c u hc hu=>(h4 i c u hc (by simpa using hu)).2) i c u bs h5 (by simpa using h6) h7;have hi:i<l.length:=by rw[←h3];exact(Array.getElem?_eq_some_iff.1 hu).1
   exact(h4 i _ u (List.getElem?_eq_getElem hi) hu).1
  ·rename_i cs;obtain⟨l,rfl,hm⟩:=h;obtain⟨us,rfl,hl,hc⟩:=hv.cN;have e1:dm β (tg aa (n+1) (.agg l))=(l.map fun c=>dm β (tg aa n c)).flatten:=fJ β (tg aa n) l;rw[e1];exact .agg us cs _ (hl.trans (gC hm).1) (by rw[List.length_map];exact(gC hm).1) (lst hm hc)
  ·rename_i cs;obtain⟨l,rfl,hm⟩:=h;obtain⟨us,rfl,hl,hc⟩:=hv.iE;have e1:dm β (tg aa (n+1) (.aS l))=(l.map fun c=>dm β (tg aa n c)).flatten:=fJ β (tg aa n) l;rw[e1];exact .aS us cs _ (hl.trans (gC hm).1) (by rw[List.length_map];exact(gC hm).1) (lst hm hc)
  ·subst h;cases hv with|pv v p h=>exact .leaf _ _ (.pv _ _ (h.mono hS2))
  ·subst h;obtain⟨ad,us,rfl,h1,h2,h3,h4⟩:=hv.jb;exact .leaf _ _ (.rp ad _ us (hS _ h1) h2 h3 fun j p hp=>(h4 j p hp).mono hS2)
  ·obtain⟨rfl,rfl⟩:=h;obtain⟨us,rfl,hl,_⟩:=hv.mP;exact .leaf _ _ (.bZ _ [] us hl fun i c u hc=>by simp at hc)
  ·exact h.elim
theorem D4 {f:AV→Option (AV×List Nat)}{g:AV→List Nat} (hg:∀c r,f c=some r→g c=r.2):∀{l:List AV}{q:List AV×List Nat},Ie f l=some q→yN (fun c y=>∃r,f c=some r∧r.1=y) l q.1∧l.flatMap g=q.2|[],q,h=>by cases h;exact⟨trivial,rfl⟩|c::l,q,h=>by obtain⟨r,hr,h⟩:=Option.bind_eq_some_iff.1 h;obtain⟨q',hq,rfl⟩:=Option.map_eq_some_iff.1 h;obtain⟨h1,h2⟩:=D4 hg hq;exact⟨⟨⟨r,hr,rfl⟩,h1⟩,by rw[List.flatMap_cons,hg c r hr,h2]⟩
theorem AS {f g:AV→AV→Prop} (h:∀c y,f c y→g c y):∀{l ys:List AV},yN f l ys→yN g l ys|[],[],_=>trivial|_::_,_::_,hm=>⟨h _ _ hm.1,AS h hm.2⟩|[],_::_,hm=>hm.elim|_::_,[],hm=>hm.elim
theorem DQ:∀(n:Nat) {x:AV}{r:AV×List Nat},rd n aa x=some r→mt P aa n x r.1∧tg aa n x=r.2
 |0,_,_,h=>by cases h|n+1,x,r,h=>by
  have lst:∀{l:List AV}{q:List AV×List Nat},Ie (rd n aa) l=some q→yN (mt P aa n) l q.1∧l.flatMap (tg aa n)=q.2:=fun{l q} h=>by obtain⟨h1,h2⟩:=D4 (g:=tg aa n) (fun c r hr=>(DQ n hr).2) h;exact⟨AS (fun c y ⟨r,hr,e⟩=>e▸(DQ n hr).1) h1,h2⟩
  unfold rd at h;split at h
  ·rename_i t;obtain⟨y,hy,rfl⟩:=Option.map_eq_some_iff.1 h;unfold RS at hy;split at hy;·rename_i e rows ho;cases hy;exact⟨.inl ⟨t,rfl,ho⟩,rfl⟩
   ·rename_i es ho;cases hy;exact⟨⟨t,rfl,ho⟩,rfl⟩
   ·cases hy
  ·rename_i t;obtain⟨cs,hc,h⟩:=Option.bind_eq_some_iff.1 h;obtain⟨q,hq,rfl⟩:=Option.map_eq_some_iff.1 h;obtain⟨h1,h2⟩:=lst hq;have ho:=fD hc;refine⟨⟨t,cs,rfl,ho,h1⟩,?_⟩;show t::((eV (aa t)).getD []).flatMap (tg aa n)=_;rw[hc,Option.getD_some,h2]
  ·obtain⟨q,hq,rfl⟩:=Option.map_eq_some_iff.1 h;obtain⟨h1,h2⟩:=lst hq;exact⟨⟨_,rfl,h1⟩,h2⟩
  ·cases h;exact⟨rfl,rfl⟩
  ·cases h;exact⟨rfl,rfl⟩
  ·cases h;exact⟨⟨rfl,rfl⟩,rfl⟩
  ·cases h
end
theorem mG {top:Bool}{s:List Nat×List Nat}{q:Nat×List Nat×List Nat} (h:tk top s=some q):(q.1::(q.2.1++q.2.2)).Perm (s.1++s.2):=by
 unfold tk at h;split at h;·cases h;exact .refl _
 ·cases h;exact List.perm_middle.symm
 ·cases h
def mz (P:Program) (S:Nat→Prop) (w:World) (os:List (Nat×AO)) (bs:List Nat) (R:(Nat→Value)→(Nat→Prop)→Prop):Prop:=∃βn:Nat→Value,(∀(β:Nat→Value) (D:Nat→Prop),(∀p∈os,β p.1=βn p.1∧D p.1)→(∀p∈os,bn P S w β D p.1 p.2)∧R β D)∧(∀p∈os,∀b,ct (βn p.1)=some b→b∈bs)∧(∀p∈os,∀q∈os,∀b,ct (βn p.1)=some b→ct (βn q.1)=some b→p.1=q.1)
theorem mz.none {P:Program}{S:Nat→Prop}{w:World}{R:(Nat→Value)→(Nat→Prop)→Prop} (bs:List Nat) (h:∀β D,R β D):mz P S w [] bs R:=⟨fun _=>undef,fun β D _=>⟨fun p hp=>by simp at hp,h β D⟩,fun p hp=>by simp at hp,fun p hp=>by simp at hp⟩
theorem mz.imp {P:Program}{S:Nat→Prop}{w:World}{os:List (Nat×AO)}{bs bs':List Nat}{R R':(Nat→Value)→(Nat→Prop)→Prop} (h:mz P S w os bs R) (hb:∀b∈bs,b∈bs') (hR:∀β D,R β D→R' β D):mz P S w os bs' R':=by obtain⟨βn,h1,h2,h3⟩:=h;exact⟨βn,fun β D hp=>⟨(h1 β D hp).1,hR β D (h1 β D hp).2⟩,fun p hp b hpb=>hb b (h2 p hp b hpb),h3⟩
theorem mz.append {P:Program}{S:Nat→Prop}{w:World}{os os':List (Nat×AO)}{bs bs':List Nat}{R R':(Nat→Value)→(Nat→Prop)→Prop} (h:mz P S w os bs R) (h':mz P S w os' bs' R') (hb:∀b∈bs,b∉bs') (ht:∀p∈os,∀q∈os',p.1≠q.1):mz P S w (os++os') (bs++bs') (fun β D=>R β D∧R' β D):=by classical
 obtain⟨β1,a1,a2,a3⟩:=h;obtain⟨β2,b1,b2,b3⟩:=h';have e1:∀p∈os,(if∃q∈os,q.1=p.1 then β1 p.1 else β2 p.1)=β1 p.1:=fun p hp=>if_pos ⟨p,hp,rfl⟩;have e2:∀p∈os',(if∃q∈os,q.1=p.1 then β1 p.1 else β2 p.1)=β2 p.1:=fun p hp=>if_neg fun⟨q,hq,e⟩=>ht q hq p hp e;refine⟨fun t=>if∃q∈os,q.1=t then β1 t else β2 t,fun β D hp=>?_,fun p hp b hb'=>?_,fun p hp q hq b hpb hqb=>?_⟩
 ·have k1:=a1 β D fun p hpo=>⟨(hp p (List.mem_append_left _ hpo)).1.trans (e1 p hpo),(hp p (List.mem_append_left _ hpo)).2⟩;have k2:=b1 β D fun p hpo=>⟨(hp p (List.mem_append_right _ hpo)).1.trans (e2 p hpo),(hp p (List.mem_append_right _ hpo)).2⟩;refine⟨fun p hpo=>?_,k1.2,k2.2⟩;rcases List.mem_append.1 hpo with h|h;·exact k1.1 p h
  ·exact k2.1 p h
 ·dsimp only at hb';rcases List.mem_append.1 hp with h|h;·rw[e1 p h]at hb';exact List.mem_append_left _ (a2 p h b hb')
  ·rw[e2 p h]at hb';exact List.mem_append_right _ (b2 p h b hb')
 ·dsimp only at hpb hqb;rcases List.mem_append.1 hp with h|h<;>rcases List.mem_append.1 hq with g|g;·rw[e1 p h]at hpb;rw[e1 q g]at hqb;exact a3 p h q g b hpb hqb
  ·rw[e1 p h]at hpb;rw[e2 q g]at hqb;exact absurd (b2 q g b hqb) (hb b (a2 p h b hpb))
  ·rw[e2 p h]at hpb;rw[e1 q g]at hqb;exact absurd (b2 p h b hpb) (hb b (a2 q g b hqb))
  ·rw[e2 p h]at hpb;rw[e2 q g]at hqb;exact b3 p h q g b hpb hqb
section
variable{P:Program}{S S':Nat→Prop}{w:World}
def Kz (P:Program) (S S':Nat→Prop) (w:World) (f:AV→List Nat×List Nat→Option (AV×List (Nat×AO)×List Nat×List Nat)):Prop:=∀(y:AV) (s:List Nat×List Nat) (q:AV×List (Nat×AO)×List Nat×List Nat),f y s=some q→(q.2.1.map (·.1)++(q.2.2.1++q.2.2.2)).Perm (s.1++s.2)∧∀(v:Value) (bs:List Nat),HT P S w v y bs→bs.Nodup→(s.1++s.2).Nodup→mz P S' w q.2.1 bs fun β D=>RV P S' w β D v q.1
theorem og {f:AV→List Nat×List Nat→Option (AV×List (Nat×AO)×List Nat×List Nat)} (hf:Kz P S S' w f):∀(ys:List AV) (s:List Nat×List Nat) (q:List AV×List (Nat×AO)×List Nat×List Nat),pX f ys s=some q→(q.2.1.map (·.1)++(q.2.2.1++q.2.2.2)).Perm (s.1++s.2)∧q.1.length=ys.length∧∀(vs:List Value) (bss:List (List Nat)),FE P S w vs ys bss→bss.flatten.Nodup→(s.1++s.2).Nodup→mz P S' w q.2.1 bss.flatten fun β D=>∀(i:Nat) (c:AV) (u:Value),q.1[i]?=some c→vs[i]?=some u→RV P S' w β D u c
 |[],s,q,h=>by cases h;exact⟨.refl _,rfl,fun vs bss _ _ _=>mz.none _ fun β D i c u hc=>by simp at hc⟩|y::ys,s,q,h=>by
  obtain⟨r,hr,h⟩:=Option.bind_eq_some_iff.1 h;obtain⟨q',hq,rfl⟩:=Option.map_eq_some_iff.1 h;obtain⟨p1,l1⟩:=hf y s r hr;obtain⟨p2,n2,l2⟩:=og hf ys r.2.2 q' hq;have hp:((r.2.1++q'.2.1).map (·.1)++(q'.2.2.1++q'.2.2.2)).Perm (s.1++s.2):=by rw[List.map_append,List.append_assoc];exact(p2.append_left _).trans p1
  refine⟨hp,by simp[n2],fun vs bss ⟨hl1,hl2,hg⟩ hnd hs=>?_⟩;match vs,bss,hl1,hl2 with
  |v::vs,bs::bss,hl1,hl2=>
   rw[List.flatten_cons,List.nodup_append]at hnd;have hs1:=p1.nodup_iff.2 hs;rw[List.nodup_append]at hs1;have hs2:(r.2.2.1++r.2.2.2).Nodup:=hs1.2.1;have k1:=l1 v bs (hg 0 y v bs rfl rfl rfl) hnd.1 hs;have k2:=l2 vs bss ⟨by simpa using hl1,by simpa using hl2,fun i y v bs h1 h2 h3=>hg (i+1) y v bs (by simpa using h1) (by simpa using h2) (by simpa using h3)⟩ hnd.2.1 hs2;refine(k1.append k2 (fun b hb hb'=>hnd.2.2 b hb b hb' rfl) fun p hp q hq e=>?_).imp (fun b hb=>by simpa using hb) fun β D ⟨a1,a2⟩ i c u hc hu=>?_;·have:q.1∈r.2.2.1++r.2.2.2:=p2.mem_iff.1 (List.mem_append_left _ (List.mem_map_of_mem hq));exact hs1.2.2 _ (List.mem_map_of_mem hp) _ this e
   ·cases i with|zero=>simp only[List.getElem?_cons_zero,Option.some.injEq]at hc hu;rw[←hc,←hu];exact a1|succ i=>exact a2 i c u (by simpa using hc) (by simpa using hu)
theorem HT.sS {v:Value}{y:AV}{bs:List Nat} (h:HT P S w v y bs) (hy:(∃p,y=.pv p)∨(∃cs,y=.rp cs)∨∃f cs,y=.bZ f cs):RV P S w (fun _=>undef) (fun _=>False) v y:=by cases h with|leaf v y h=>exact h|_=>rcases hy with⟨p,h⟩|⟨p,h⟩|⟨f,p,h⟩<;>cases h
theorem RV.tL {β:Nat→Value}{v:Value}{y:AV} (h:RV P S w β (fun _=>False) v y):(∀e rows,y≠.fr e rows)∧(∀cs,y≠.bx cs)∧∀es,y≠.mf es:=by cases h<;>exact⟨fun _ _ h=>(by cases h),fun _ h=>(by cases h),fun _ h=>(by cases h)⟩
theorem pP (hS:∀b,S b→S' b):∀(n:Nat) (top:Bool),Kz P S S' w (num n top)
 |0,_,_,_,_,h=>by cases h|n+1,top,y,s,q,h=>by
  have hS2:∀b,S b→S' b∧w.heap[b]?=w.heap[b]?:=fun b hb=>⟨hS b hb,rfl⟩;have leaf:∀{v:Value}{x:AV},RV P S w (fun _=>undef) (fun _=>False) v x→∀β D,RV P S' w β D v x:=fun h β D=>h.mono hS2 fun _ hf=>hf.elim;have lists:∀(v:Value) (cs:List AV) (bs:List Nat),(HT P S w v (.agg cs) bs→∃us bss,v=.agg us.toArray∧bs=bss.flatten∧FE P S w us cs bss)∧(HT P S w v (.aS cs) bs→∃us bss,v=.tuple us.toArray∧bs=bss.flatten∧FE P S w us cs bss):=by
   intro v cs bs;constructor;·intro h;cases h with|agg us cs bss h1 h2 h3=>exact⟨us,bss,rfl,rfl,h1,h2,fun i y v bs a b c=>h3 i y v bs a b c⟩|leaf v y h=>obtain⟨us,rfl,hl,hc⟩:=h.cN;refine⟨us,cs.map fun _=>[],rfl,by simp,hl,by simp,fun i y v bs h1 h2 h3=>?_⟩;rw[List.getElem?_map,h1]at h3;cases h3;exact .leaf _ _ (hc i y v h1 h2)
   ·intro h;cases h with|aS us cs bss h1 h2 h3=>exact⟨us,bss,rfl,rfl,h1,h2,fun i y v bs a b c=>h3 i y v bs a b c⟩|leaf v y h=>obtain⟨us,rfl,hl,hc⟩:=h.iE;refine⟨us,cs.map fun _=>[],rfl,by simp,hl,by simp,fun i y v bs h1 h2 h3=>?_⟩;rw[List.getElem?_map,h1]at h3;cases h3;exact .leaf _ _ (hc i y v h1 h2)
  unfold num at h;split at h;·rename_i e rows;obtain⟨k,hk,rfl⟩:=Option.map_eq_some_iff.1 h;refine⟨mG hk,fun v bs hv hb hs=>?_⟩;cases hv with|leaf v y h=>exact absurd rfl (h.tL.1 _ _)|fr v e rows inf us h1 h2 h3 h4=>
   refine⟨fun _=>v,fun β D hp=>?_,fun p hp b hb=>?_,fun p hp q hq b _ _=>?_⟩
   ·obtain⟨e1,hd⟩:=hp (k.1,.arr e rows) (by simp);refine⟨fun p hp=>?_,?_⟩;·simp only[List.mem_singleton]at hp;subst hp;exact⟨inf,us,h1,by rw[e1];exact h2,h3,fun i j r p hr hp=>by obtain⟨u,a,b,c⟩:=h4 i j r p hr hp;exact⟨u,a,b,c.mono hS2⟩⟩
    ·have:=RV.own (P:=P) (S:=S') (w:=w) (β:=β) k.1 hd;rw[e1]at this;exact this
   ·simp only[hb,Option.toList_some,List.mem_singleton]
   ·simp only[List.mem_singleton]at hp hq;rw[hp,hq]
  ·rename_i es;obtain⟨k,hk,rfl⟩:=Option.map_eq_some_iff.1 h;refine⟨mG hk,fun v bs hv hb hs=>?_⟩;cases hv with|leaf v y h=>exact absurd rfl (h.tL.2.2 _)|mf b us c es h1 hst h2 h3=>
    refine⟨fun _=>.map (some b),fun β D hp=>?_,fun p hp b' hb=>?_,fun p hp q hq b _ _=>?_⟩
    ·obtain⟨e1,hd⟩:=hp (k.1,.iF es) (by simp);refine⟨fun p hp=>?_,?_⟩;·simp only[List.mem_singleton]at hp;subst hp;exact⟨b,us,c,e1,h1,hst,h2,fun i e u he hu=>⟨(h3 i e u he hu).1,(h3 i e u he hu).2.1,(h3 i e u he hu).2.2.1,(h3 i e u he hu).2.2.2.mono hS2⟩⟩
     ·have:=RV.own (P:=P) (S:=S') (w:=w) (β:=β) k.1 hd;rw[e1]at this;exact this
    ·simp only[ct,Option.some.injEq]at hb;simp[hb]
    ·simp only[List.mem_singleton]at hp hq;rw[hp,hq]
  ·rename_i cs;obtain⟨k,hk,h⟩:=Option.bind_eq_some_iff.1 h;obtain⟨r,hr,rfl⟩:=Option.map_eq_some_iff.1 h;obtain⟨p2,n2,l2⟩:=og (pP hS n false) cs k.2 r hr;have p1:=mG hk;refine⟨?_,fun v bs hv hb hs=>?_⟩;·exact((p2.cons k.1).trans p1)
   cases hv with|leaf v y h=>exact absurd rfl (h.tL.2.1 _)|bx b us ty cs bss h1 h2 h3 h4 h5=>
    rw[List.nodup_cons]at hb;have hs1:=p1.nodup_iff.2 hs;rw[List.nodup_cons]at hs1;have k2:=l2 us.toList bss ⟨by simpa using h2,h3,fun i y v bs a1 a2 a3=>h5 i y v bs a1 (by simpa using a2) a3⟩ hb.2 hs1.2;obtain⟨βn,a1,a2,a3⟩:=k2;have hne:∀p∈r.2.1,p.1≠k.1:=fun p hp e=>by have:p.1∈k.2.1++k.2.2:=p2.mem_iff.1 (List.mem_append_left _ (List.mem_map_of_mem hp));exact hs1.1 (e▸this)
    have e2:∀p∈r.2.1,(if p.1=k.1 then Value.pointer (some ⟨b,0,none⟩) else βn p.1)=βn p.1:=fun p hp=>if_neg (hne p hp);refine⟨fun t=>if t=k.1 then .pointer (some ⟨b,0,none⟩) else βn t,fun β D hp=>?_,fun p hp b' hb'=>?_,fun p hp q hq b' hpb hqb=>?_⟩
    ·obtain⟨e1,hd⟩:=hp (k.1,.box r.1) (by simp);simp only[if_true]at e1;obtain⟨c1,c2⟩:=a1 β D fun p hpo=>⟨(hp p (List.mem_cons_of_mem _ hpo)).1.trans (e2 p hpo),(hp p (List.mem_cons_of_mem _ hpo)).2⟩;refine⟨fun p hpo=>?_,.ptr k.1 0 b hd e1⟩;rcases List.mem_cons.1 hpo with rfl|hpo;·exact⟨b,us,ty,e1,h1,h2.trans n2.symm,fun i c u hc hu=>⟨h4 i u hu,c2 i c u hc (by simpa using hu)⟩⟩
     ·exact c1 p hpo
    ·dsimp only at hb';rcases List.mem_cons.1 hp with rfl|hpo;·simp only[if_true,ct,Option.some.injEq]at hb';simp[hb']
     ·rw[e2 p hpo]at hb';exact List.mem_cons_of_mem _ (a2 p hpo b' hb')
    ·dsimp only at hpb hqb;rcases List.mem_cons.1 hp with rfl|hpo<;>rcases List.mem_cons.1 hq with rfl|hqo;·rfl
     ·simp only[if_true,ct,Option.some.injEq]at hpb;rw[e2 q hqo]at hqb;exact absurd (a2 q hqo b' hqb) (hpb▸hb.1)
     ·simp only[if_true,ct,Option.some.injEq]at hqb;rw[e2 p hpo]at hpb;exact absurd (a2 p hpo b' hpb) (hqb▸hb.1)
     ·rw[e2 p hpo]at hpb;rw[e2 q hqo]at hqb;exact a3 p hpo q hqo b' hpb hqb
  ·rename_i cs;obtain⟨r,hr,rfl⟩:=Option.map_eq_some_iff.1 h;obtain⟨p2,n2,l2⟩:=og (pP hS n top) cs s r hr;refine⟨p2,fun v bs hv hb hs=>?_⟩;obtain⟨us,bss,rfl,rfl,hts⟩:=(lists v cs bs).1 hv;exact(l2 us bss hts hb hs).imp (fun b hb=>hb) fun β D hc=>.agg r.1 us (hts.1.trans n2.symm) hc
  ·rename_i cs;obtain⟨r,hr,rfl⟩:=Option.map_eq_some_iff.1 h;obtain⟨p2,n2,l2⟩:=og (pP hS n top) cs s r hr;refine⟨p2,fun v bs hv hb hs=>?_⟩;obtain⟨us,bss,rfl,rfl,hts⟩:=(lists v cs bs).2 hv;exact(l2 us bss hts hb hs).imp (fun b hb=>hb) fun β D hc=>.aS r.1 us (hts.1.trans n2.symm) hc
  ·cases h;exact⟨.refl _,fun v bs hv _ _=>mz.none _ (leaf (hv.sS (.inl ⟨_,rfl⟩)))⟩
  ·cases h;exact⟨.refl _,fun v bs hv _ _=>mz.none _ (leaf (hv.sS (.inr (.inl ⟨_,rfl⟩))))⟩
  ·split at h;·cases h;exact⟨.refl _,fun v bs hv _ _=>mz.none _ (leaf (hv.sS (.inr (.inr ⟨_,_,rfl⟩))))⟩
   ·cases h
  ·cases h
end
end Go.Proofs.YtifcndkhigakfaaGreat.Ab
