/- The abstract machine is sound, fourth part: operations that read (slices, structs, addresses). -/
import Derived.Test.YtifcndkhigakfaaGreatY4
import Derived.Lib.Strings
set_option linter.unusedVariables false
set_option linter.unusedSimpArgs false
set_option linter.unnecessarySimpa false
set_option maxHeartbeats 40000000
set_option maxRecDepth 100000
set_option linter.defProp false
namespace Go.Proofs.YtifcndkhigakfaaGreat.Ab
open Go Go.RowKit
def q64:=@List.take_succ_eq_append_getElem
def q71:=@Bool.and_eq_true
def q79:=@List.getElem?_map
def q83:=@List.mem_map
def q99:=@List.flatMap_cons
def q111:=@List.take_append_of_le_length
def q112:=@List.cons.injEq
def q116:=@List.getElem?_of_mem
def q117:=@Array.ext'
def q119:=@List.map_nil
def q120:=@Nat.succ_mul
def q121:=@Option.map_some
def q124:=@Option.isSome_iff_exists
def q126:=@Nat.zero_add
def q130:=@List.append_nil
def q131:=@Option.bind_some
def q136:=@Array.getElem?_eq_getElem
def q139:=@Array.toArray_toList
def q153:=@List.nil_append
def q154:=@Nat.eq_zero_or_pos
def q160:=@Result.andThen_ok
def q185:=@Int.le_refl
def q194:=@List.getElem?_eq_none_iff
def q198:=@Sem.run_pure
def q214:=@List.drop_take
def q237:=@Nat.add_sub_cancel_left
def q244:=@List.flatMap_nil
def q273:=@List.extract_eq_take_drop
def q274:=@Array.mapM_eq_mapM_toList
def q281:=@List.flatMap_map
def q297:=@Nat.one_mul
def q301:=@List.mapM_cons
end Go.Proofs.YtifcndkhigakfaaGreat.Ab
namespace Go.Proofs.YtifcndkhigakfaaGreat.Ab
open Go Go.RowKit
variable {α:Type}{n sz i:Nat}{φ:Prop}{v X Y:AV}{e:TypeId}{rows:List (List PV)}{D:Nat->Prop}{zs us:List Value}{ad:Addr}{cs:List AV}{fs:Array Field}{ao:AO}
section
variable{P:Program}{S:Nat->Prop}{w:World}{β:Nat->Value}{aa:Nat->Option AO}{a:Act}{vars:Nat->AV}{N:Nat}{x y z:Operand}{o:Oper}
def se {t:TypeId}{i:TypeInfo} (h:P.info? t=some i) (w:World):(sizeOf t).run P w=.ok i.size w:=by simp[sizeOf,typeInfo,h]
def jz {t:TypeId} (h:c7 P t=some n):∃i,P.info? t=some i/\i.size=n:=by unfold c7 at h;obtain⟨i,hi,he⟩:=q900.1 h;exact⟨i,hi,he⟩
def fw {t:TypeId} (h:c7 P t=some n) (w:World):(sizeOf t).run P w=.ok n w:=by obtain⟨i,hi,rfl⟩:=jz h;exact se hi w
def zf {t:TypeId} (h:pf P t=some none) (w:World):(isAgg t).run P w=.ok false w:=by unfold pf at h;cases hu:P.underlying t with|none=>rw[hu]at h;cases h|some d=>rw[hu]at h;cases d<;>simp[isAgg,run_underlying hu]<;>simp at h
def lJ {t:TypeId} (h:pf P t=some (some n)) (w:World):(isAgg t).run P w=.ok true w/\(sizeOf t).run P w=.ok n w:=by unfold pf at h;cases hu:P.underlying t with|none=>rw[hu]at h;cases h|some d=>
 rw[hu]at h;cases d<;>simp at h;·obtain⟨i,hi,rfl⟩:=h;exact⟨by simp[isAgg,run_underlying hu],se hi w⟩
 ·obtain⟨i,hi,rfl⟩:=h;exact⟨by simp[isAgg,run_underlying hu],se hi w⟩
def Bf {t:TypeId} (h:pf P t=some none) {v:Value}{w:World} (hc:w.cell? ad=some v):(loadVar t ad).run P w=.ok v w:=by simp[loadVar,zf h,hc]
def Bu {t:TypeId} (h:pf P t=some (some n)) {w:World} (hl:us.length=n) (hc:∀(j:Nat) (v:Value),us[j]?=some v->w.cell? (ad.add j)=some v):(loadVar t ad).run P w=.ok (.agg us.toArray) w:=by subst hl;simp[loadVar,(lJ h w).1,(lJ h w).2,run_loadCells_list (P:=P) w ad us hc]
def wy (sl:Bool) (n cap:Nat) {lo hi:Option Value}{A B:Int} (hlo:(lo=none/\A=0)\/∃k,lo=some (.int k A)) (hhi:(hi=none/\B=n)\/∃k,hi=some (.int k B)) (h0:0<=A) (h1:A<=B) (h2:B<=n) (hc:n<=cap):(Instr.sliceBounds sl n cap lo hi none).run P w=.ok (A.toNat,B.toNat,cap) w:=by
 have e1:(max B 0:Int)=B:=by omega
 rcases hlo with⟨rfl,rfl⟩|⟨k,rfl⟩<;>rcases hhi with⟨rfl,rfl⟩|⟨k',rfl⟩;·simp[Instr.sliceBounds]
 ·simp[Instr.sliceBounds,Instr.sliceBound,asIntOf,show 0<=B/\B<=(cap:Int) from by omega]
 ·simp[Instr.sliceBounds,Instr.sliceBound,asIntOf,show 0<=A/\A<=(n:Int) from by omega]
 ·simp[Instr.sliceBounds,Instr.sliceBound,asIntOf,show 0<=B/\B<=(cap:Int) from by omega,show 0<=A/\A<=B from by omega,e1]
def jV {lo hi:Option Operand}{A B:Int} (hev:∀z:Operand,asks (ev vars z)->RV P S w β (aE aa) (a.eval z) (strip (ev vars z))) (ha:aw ((lo.toList++hi.toList).map (ev vars))) (h:bounds n lo.isSome hi.isSome (((lo.toList++hi.toList).map (ev vars)).map strip)=some (A,B)):((lo.map a.eval=none/\A=0)\/∃k,lo.map a.eval=some (.int k A))/\((hi.map a.eval=none/\B=n)\/∃k,hi.map a.eval=some (.int k B)):=by cases lo with
 |none=>cases hi with|none=>simp[bounds]at h;simp[h.1.symm,h.2.symm]|some z=>simp only[Option.toList,q153,q74,q119,aw,Option.isSome]at h ha;have hz:=hev z ha.1;generalize strip (ev vars z)=Z at h hz;cases Z with
   |pv p=>cases p with|int k i=>simp[bounds]at h;obtain⟨rfl,rfl⟩:=h;exact⟨.inl ⟨rfl,rfl⟩,.inr ⟨k,by simp[hz.aG]⟩⟩|_=>simp[bounds]at h
   |_=>simp[bounds]at h
 |some y=>cases hi with
  |none=>simp only[Option.toList,q130,q74,q119,aw,Option.isSome]at h ha;have hy:=hev y ha.1;generalize strip (ev vars y)=Y at h hy;cases Y with
   |pv p=>cases p with|int k i=>simp[bounds]at h;obtain⟨rfl,rfl⟩:=h;exact⟨.inr ⟨k,by simp[hy.aG]⟩,.inl ⟨rfl,rfl⟩⟩|_=>simp[bounds]at h
   |_=>simp[bounds]at h
  |some z=>simp only[Option.toList,q137,q153,q74,q119,aw,Option.isSome]at h ha;have hy:=hev y ha.1;have hz:=hev z ha.2.1;generalize strip (ev vars y)=Y at h hy;generalize strip (ev vars z)=Z at h hz;cases Y with
   |pv p=>cases p with
    |int k i=>cases Z with
     |pv q=>cases q with|int k' j=>simp[bounds]at h;obtain⟨rfl,rfl⟩:=h;exact⟨.inr ⟨k,by simp[hy.aG]⟩,.inr ⟨k',by simp[hz.aG]⟩⟩|_=>simp[bounds]at h
     |_=>simp[bounds]at h
    |_=>cases Z<;>simp[bounds]at h
   |_=>simp[bounds]at h
def q_ssl {t:TypeId}{lo hi:Option Operand} (ho:o.op=.slice t x lo hi none) (ht:P.underlying t=some .string) (hev:∀z:Operand,asks (ev vars z)->RV P S w β (aE aa) (a.eval z) (strip (ev vars z))) (hX:RV P S w β (aE aa) (a.eval x) X) (ha:aw ((lo.toList++hi.toList).map (ev vars)))  (h:al (.L9 lo.isSome hi.isSome) (X::((lo.toList++hi.toList).map (ev vars)).map strip) aa=some (φ,v)) (hφ:φ):∃r,(execOp a.eval o).run P w=.ok (.value r) w/\RV P S w β (aE aa) r v:=by cases X with
 |pv p=>cases p with|str l=>
   simp only[al,q900]at h;obtain⟨⟨A,B⟩,hb,he⟩:=h;simp only[q69]at he;obtain⟨rfl,rfl⟩:=he;obtain⟨h0,h1,h2⟩:=hφ;obtain⟨hlo,hhi⟩:=jV hev ha hb;refine⟨.string ⟨(cut l A B).toArray⟩,?_,.pv _ _ (.str _)⟩;have hs:=wy (P:=P) (w:=w) false (ByteArray.mk l.toArray).size (ByteArray.mk l.toArray).size hlo (by rw[QI];exact hhi) h0 h1 (by rw[QI];exact h2) (q92 _);have he:(ByteArray.mk l.toArray).extract A.toNat B.toNat=⟨(cut l A B).toArray⟩:=by rw[Lib.extract_eq];simp[cut,q214]
   simp[execOp,ho,Instr.sliceAt,Instr.slice,run_underlying ht,hX.fx,hs,he]|_=>simp[al]at h
 |_=>simp[al]at h
def EG (l:List α) {A B:Int} (h0:0<=A) (h1:A<=B) (h2:B<=l.length):(cut l A B).length=B.toNat-A.toNat:=by simp[cut,q88,q68];omega
def Gz (l:List α) {A B:Int} (i:Nat) {r:α} (h:(cut l A B)[i]?=some r):l[A.toNat+i]?=some r:=by
 simp only[cut,q89,q81]at h;split at h;·exact h
 ·cases h
def add_zero' (a:Addr):a.add 0=a:=by unfold Addr.add;simp
def q_slc {t e:TypeId}{lo hi:Option Operand} (ho:o.op=.slice t x lo hi none) (ht:P.underlying t=some (.slice e)) (hsz:c7 P e=some sz) (hh:Heap P S w β aa) (hev:∀z:Operand,asks (ev vars z)->RV P S w β (aE aa) (a.eval z) (strip (ev vars z))) (hX:RV P S w β (aE aa) (a.eval x) X) (ha:aw ((lo.toList++hi.toList).map (ev vars)))  (h:al (.Fh sz lo.isSome hi.isSome) (X::((lo.toList++hi.toList).map (ev vars)).map strip) aa=some (φ,v)) (hφ:φ):∃r,(execOp a.eval o).run P w=.ok (.value r) w/\RV P S w β (aE aa) r v:=by cases X with
 |pv p=>cases p with|ro rows=>
   simp only[al,q900]at h;obtain⟨⟨A,B⟩,hb,he⟩:=h;simp only[q69]at he;obtain⟨rfl,rfl⟩:=he;obtain⟨h0,h1,h2,h3⟩:=hφ;obtain⟨hlo,hhi⟩:=jV hev ha hb;obtain⟨Ad,c,hv,hc,hne⟩:=hX.bL.gJ;have hs:=wy (P:=P) (w:=w) true rows.length c hlo hhi h0 h1 h2 hc;refine⟨.slice (if c=A.toNat then Ad else Ad.map (·.add (A.toNat*sz))) (B.toNat-A.toNat) (c-A.toNat),?_,.pv _ _ ?_⟩;·simp[execOp,ho,Instr.sliceAt,Instr.slice,run_underlying ht,hv,hs,fw hsz]
   ·have hcl:=EG rows h0 h1 h2;by_cases hz:B.toNat-A.toNat=0;·have hnil:cut rows A B=[]:=q76 (hcl.trans hz);rw[hnil,hz];exact .zk _ _
    ·have hrn:rows≠[]:=by rintro rfl;simp at h2;omega
     obtain⟨ad,sz0,us,rfl,g1,g2,g3,g4,g5⟩:=hne hrn;have hsz0:sz0=sz:=by obtain⟨r,hr⟩:=q157 rows hrn;rw[<-g2 r hr,h3 r hr]
     subst hsz0;rw[if_neg (by omega),<-hcl];refine .ro (ad.add (A.toNat*sz0)) _ _ sz0 (fun i j=>us (A.toNat+i) j) (by rw[bN];exact g1) (by omega) (fun r hr=>?_) (fun i j hi hj=>?_) (fun i j r p hr hp=>?_) (fun i j r p hr hp=>?_);·exact g2 r (q96 (q110 hr))
     ·rw[gE,<-g3 (A.toNat+i) j (by omega) hj,q151,q193]
     ·exact g4 _ j r p (Gz rows i hr) hp
     ·exact g5 _ j r p (Gz rows i hr) hp|nil=>simp only[al,q900]at h;obtain⟨⟨A,B⟩,hb,he⟩:=h;simp only[q69]at he;obtain⟨rfl,rfl⟩:=he;obtain⟨h0,h1⟩:=hφ;subst h0 h1;obtain⟨hlo,hhi⟩:=jV hev ha hb;have hv:=hX.bL.eT;have hs:=wy (P:=P) (w:=w) true 0 0 hlo hhi (q185 0) (q185 0) (by simp) (q92 0);refine⟨.slice none 0 0,?_,.pv _ _ .nil⟩;simp[execOp,ho,Instr.sliceAt,Instr.slice,run_underlying ht,hv,hs,fw hsz]|_=>simp[al]at h
 |own t'=>
  simp only[al,qB,q900]at h;obtain⟨⟨e',rows⟩,hs,⟨A,B⟩,hb,he⟩:=h;simp only[q69]at he;obtain⟨rfl,rfl⟩:=he;obtain⟨h0,h1,h2,h3⟩:=hφ;obtain⟨hlo,hhi⟩:=jV hev ha hb;obtain⟨inf,us,hi',hown,hrl,_⟩:=hh.arr (b9 hs);simp only at hi' hown hrl;obtain⟨Ad,c,hv,hc⟩:=cN hown;have hx:=hX.bo.1.trans hv;have hsb:=wy (P:=P) (w:=w) true rows.length c hlo hhi h0 h1 h2 hc;have hmul:A.toNat*sz=A.toNat*inf.size:=by
   by_cases hz:rows=[];·subst hz;simp only[q91]at h2;rw[show A.toNat=0 from by omega];simp
   ·obtain⟨r,hr⟩:=q157 rows hz;rw[<-h3 r hr,hrl r hr]
  refine⟨.slice (if c=A.toNat then Ad else Ad.map (·.add (A.toNat*sz))) (B.toNat-A.toNat) (c-A.toNat),?_,.sub _ t' e' A.toNat B.toNat inf Ad _ rows.length c hX.bo.2 hi' hv (by omega) (by omega) hc (fun e0=>?_) (fun hne=>?_) rfl⟩;·simp[execOp,ho,Instr.sliceAt,Instr.slice,run_underlying ht,hx,hsb,fw hsz]
  ·rw[e0];split;·rfl
   ·cases Ad with|none=>rfl|some ad=>simp[add_zero']
  ·rw[if_neg hne,hmul]|sub t' e1 l m=>
  have hsem:=h;simp only[al,qB]at hsem;obtain⟨⟨e',rows⟩,hs,hsem⟩:=hsem;split at hsem
  ·rename_i hee;simp only at hee;subst hee;obtain⟨⟨A,B⟩,hb,he⟩:=q900.1 hsem;simp only[q69]at he;obtain⟨rfl,rfl⟩:=he;obtain⟨h0,h1,h2,h3⟩:=hφ;obtain⟨hlo,hhi⟩:=jV hev ha hb;obtain⟨inf,us,hi',hown,hrl,_⟩:=hh.arr (b9 hs);simp only at hi' hown hrl;obtain⟨inf1,Ad,Ad1,n,c,hdt,hi1,hbt,g1,g2,g3,g4,g5,hx⟩:=hX.iz;rw[hi']at hi1;injection hi1 with hi1;subst hi1;obtain⟨Ad',c',hv',_⟩:=cN hown;have hn:n=rows.length:=by rw[hbt]at hv';simp at hv';exact hv'.2.1
   subst hn;have hsb:=wy (P:=P) (w:=w) true (m-l) (c-l) hlo hhi h0 h1 h2 (by omega);have hmul:A.toNat*sz=A.toNat*inf.size:=by
    by_cases hz:rows=[];·subst hz;simp only[q91]at g2;rw[show A.toNat=0 from by omega];simp
    ·obtain⟨r,hr⟩:=q157 rows hz;rw[<-h3 r hr,hrl r hr]
   refine⟨.slice (if c-l=A.toNat then Ad1 else Ad1.map (·.add (A.toNat*sz))) (B.toNat-A.toNat) (c-l-A.toNat),?_,.sub _ t' e' (l+A.toNat) (l+B.toNat) inf Ad (if c-l=A.toNat then Ad1 else Ad1.map (·.add (A.toNat*sz))) rows.length c hdt hi' hbt (by omega) (by omega) g3 (fun e0=>?_) (fun hne=>?_) ?_⟩;·simp[execOp,ho,Instr.sliceAt,Instr.slice,run_underlying ht,hx,hsb,fw hsz]
   ·rw[show A.toNat=0 from by omega];rw[g4 (by omega)];split;·rfl
    ·cases Ad with|none=>rfl|some ad=>simp[add_zero']
   ·rw[if_neg (by omega),g5 (by omega),hmul];cases Ad with|none=>rfl|some ad=>simp[gE,q151]
   ·rw[show l+B.toNat-(l+A.toNat)=B.toNat-A.toNat from by omega,show c-(l+A.toNat)=c-l-A.toNat from by omega]
  ·cases hsem|_=>simp[al]at h
def oz {i:Int} (h0:0<=i) (h1:i<rows.length):rows[i.toNat]?=some (rowAt rows i):=by
 have:i.toNat<rows.length:=by omega
 simp[rowAt,q80,this]
def ZH {t e:TypeId} (ho:o.op=.indexAddr t x y) (ht:P.underlying t=some (.slice e)) (hsz:c7 P e=some sz) (hh:Heap P S w β aa) (hX:RV P S w β (aE aa) (a.eval x) X) (hY:RV P S w β (aE aa) (a.eval y) Y)  (h:al (.Gi e sz) [X,Y] aa=some (φ,v)) (hφ:φ):∃r,(execOp a.eval o).run P w=.ok (.value r) w/\RV P S w β (aE aa) r v:=by cases X with
 |pv p=>cases Y with
  |pv q=>cases p with
   |ro rows=>cases q with|int k i=>
     simp only[al,qr,q69]at h;obtain⟨rfl,rfl⟩:=h;obtain⟨h0,h1,h2⟩:=hφ;obtain⟨Ad,c,hv,hc,hne⟩:=hX.bL.gJ;have hrn:rows≠[]:=by rintro rfl;simp at h1;omega
     obtain⟨ad,sz0,us,rfl,g1,g2,g3,g4,g5⟩:=hne hrn;have hg:=oz h0 h1;have hsz0:sz0=sz:=by rw[<-g2 _ (List.mem_of_getElem? hg),h2]
     subst hsz0;refine⟨.pointer (some (ad.add (i.toNat*sz0))),?_,.rp _ _ (fun j=>us i.toNat j) (by rw[bN];exact g1) (fun j hj=>?_) (fun j p hp=>g4 _ j _ p hg hp) (fun j p hp=>g5 _ j _ p hg hp)⟩;·simp[execOp,ho,Instr.indexAt,asIntOf,run_underlying ht,hv,hY.aG,h0,h1,fw hsz]
     ·rw[gE];exact g3 i.toNat j (by omega) (by omega)|_=>simp[al]at h
   |_=>cases q<;>simp[al]at h
  |_=>cases p<;>simp[al]at h
 |own t'=>cases Y with
  |pv q=>cases q with
   |int k i=>
    simp only[al,qB]at h;obtain⟨⟨e',n⟩,hs,he⟩:=h;split at he
    ·rename_i hee;simp only[qr,q69]at he;obtain⟨rfl,rfl⟩:=he;obtain⟨h0,h1⟩:=hφ;simp only at hee h1;subst hee;obtain⟨inf,us,hi,hown⟩:=yY hh hs;have hinf:inf.size=sz:=by obtain⟨i',hi',rfl⟩:=jz hsz;rw[hi]at hi';injection hi' with hi';rw[hi']
     rcases hown.2 with⟨_,hz⟩|⟨g,cap,cur,hv,_⟩;·omega
     ·have hx:a.eval x=.slice (some ⟨g,0,none⟩) n cap:=hX.bo.1.trans hv;have hE:RV P S w β (aE aa) (.pointer (some ⟨g,i.toNat*inf.size+0,none⟩)) (.bd t' e' i 0):=.bd t' e' i 0 g n cap inf hX.bo.2 hi hv;refine⟨_,?_,hE⟩;simp[execOp,ho,Instr.indexAt,asIntOf,run_underlying ht,hx,hY.aG,h0,h1,fw hsz,hinf,q100]
    ·cases he|_=>simp[al]at h
  |_=>simp[al]at h
 |sub t' e1 lo hi=>cases Y with
  |pv q=>cases q with
   |int k i=>
    simp only[al,qB]at h;obtain⟨⟨e',rows⟩,hs,he⟩:=h;have hs':=b9 hs;split at he
    ·rename_i hee;simp only[qr,q69]at he;obtain⟨rfl,rfl⟩:=he;obtain⟨h0,h1⟩:=hφ;simp only at hee hs';obtain⟨rfl,rfl⟩:=hee;obtain⟨inf,us,hi',hown,hr,hc⟩:=hh.arr hs';have hinf:inf.size=sz:=by obtain⟨i',hi1,rfl⟩:=jz hsz;rw[hi']at hi1;injection hi1 with hi1;rw[hi1]
     obtain⟨inf1,Ad,Ad1,n,c,hdt,hi1,hbt,g1,g2,g3,g4,g5,hx⟩:=hX.iz;rw[hi']at hi1;injection hi1 with hi1;subst hi1;rcases hown.2 with⟨hv,hz⟩|⟨g,cap,cur,hv,_⟩;·rw[hv]at hbt;simp at hbt;omega
     ·rw[hv]at hbt;have hx3:some (⟨g,0,none⟩:Addr)=Ad/\rows.length=n/\cap=c:=by simpa using hbt
      obtain⟨rfl,rfl,rfl⟩:=hx3;have hx:=hx;rw[g5 (by omega)]at hx;have hE:RV P S w β (aE aa) (.pointer (some ⟨g,((lo:Int)+i).toNat*inf.size+0,none⟩)) (.bd t' e1 ((lo:Int)+i) 0):=.bd t' e1 _ 0 g rows.length cap inf hdt hi' hv;refine⟨_,?_,hE⟩;have hlen:i<((hi-lo:Nat):Int):=by omega
      have hadd:((lo:Int)+i).toNat*inf.size=lo*inf.size+i.toNat*inf.size:=by rw[show((lo:Int)+i).toNat=lo+i.toNat from by omega,q151]
      rw[hadd];simp[execOp,ho,Instr.indexAt,asIntOf,run_underlying ht,hx,hY.aG,h0,hlen,fw hsz,<-hinf,q100]
    ·cases he|_=>simp[al]at h
  |_=>simp[al]at h
 |_=>simp[al]at h
def q_fad {s:TypeId}{f:Field} (ho:o.op=.fieldAddr s x i) (ht:P.underlying s=some (.struct fs)) (hf:fs[i]?=some f) (hsz:c7 P f.type=some (n+1)) (hX:RV P S w β (aE aa) (a.eval x) X)  (h:al (.uV f.offset) [X] aa=some (φ,v)) (hφ:φ):∃r,(execOp a.eval o).run P w=.ok (.value r) w/\RV P S w β (aE aa) r v:=by
 have hr:∀ad:Addr,a.eval x=.pointer (some ad)->(execOp a.eval o).run P w=.ok (.value (.pointer (some (ad.add f.offset)))) w:=by intro ad hv;simp[execOp,ho,Instr.fieldAt,run_underlying ht,hf,hv,Instr.sureAddr,fieldPlace,fw hsz]
 cases X with|ptr t' o'=>simp only[al,qr,q69]at h;obtain⟨rfl,rfl⟩:=h;obtain⟨b,hv,hd,hb⟩:=hX.gM;refine⟨_,hr _ hv,?_⟩;rw[q100];exact .ptr t' _ b hd hb|bd t' e' i' o'=>simp only[al,qr,q69]at h;obtain⟨rfl,rfl⟩:=h;obtain⟨b,n',c,inf,hv,hd,hi,hb⟩:=hX.jQ;refine⟨_,hr _ hv,?_⟩;rw[q100,q193];exact .bd t' e' i' _ b n' c inf hd hi hb|rp cs=>
  simp only[al,qr,q69]at h;obtain⟨rfl,rfl⟩:=h;obtain⟨ad,us,hv,h1,h2,h3,h4⟩:=hX.kH;refine⟨_,hr _ hv,.rp _ _ (fun j=>us (f.offset+j)) (by rw[bN];exact h1) (fun j hj=>?_) (fun j p hp=>?_) (fun j p hp=>?_)⟩;·rw[gE];exact h2 _ (by simp at hj;omega)
  ·exact h3 _ p (by rw[<-hp,q89])
  ·exact h4 _ p (by rw[<-hp,q89])|_=>simp[al]at h
def q_ixp {t e:TypeId} (ho:o.op=.indexAddr t x y) (ht:P.underlying t=some (.array n e)) (hsz:c7 P e=some sz) (hX:RV P S w β (aE aa) (a.eval x) X) (hY:RV P S w β (aE aa) (a.eval y) Y)  (h:al (.IV n sz) [X,Y] aa=some (φ,v)) (hφ:φ):∃r,(execOp a.eval o).run P w=.ok (.value r) w/\RV P S w β (aE aa) r v:=by
 have hr:∀(ad:Addr) (k:IntKind) (i:Int),a.eval x=.pointer (some ad)->a.eval y=.int k i->0<=i->i<(n:Int)->(execOp a.eval o).run P w=.ok (.value (.pointer (some (ad.add (i.toNat*sz))))) w:=by intro ad k i hv hi h0 h1;simp[execOp,ho,Instr.indexAt,asIntOf,run_underlying ht,hv,hi,Instr.sureAddr,h0,h1,fw hsz]
 cases X with
 |ptr t' o'=>cases Y with
  |pv q=>cases q with|int k i=>simp only[al,qr,q69]at h;obtain⟨rfl,rfl⟩:=h;obtain⟨b,hv,hd,hb⟩:=hX.gM;refine⟨_,hr _ k i hv hY.aG hφ.1 hφ.2,?_⟩;rw[q100];exact .ptr t' _ b hd hb|_=>simp[al]at h
  |_=>simp[al]at h
 |rp cs=>cases Y with
  |pv q=>cases q with|int k i=>
    simp only[al,qr,q69]at h;obtain⟨rfl,rfl⟩:=h;obtain⟨ad,us,hv,h1,h2,h3,h4⟩:=hX.kH;refine⟨_,hr _ k i hv hY.aG hφ.1 hφ.2,.rp _ _ (fun j=>us (i.toNat*sz+j)) (by rw[bN];exact h1) (fun j hj=>?_) (fun j p hp=>?_) (fun j p hp=>?_)⟩;·rw[gE];exact h2 _ (by simp at hj;omega)
    ·exact h3 _ p (by rw[<-hp,q89])
    ·exact h4 _ p (by rw[<-hp,q89])|_=>simp[al]at h
  |_=>simp[al]at h
 |_=>simp[al]at h
def ZQ (ho:o.op=.nilCheck x) (hX:RV P S w β (aE aa) (a.eval x) X)  (h:al .HD [X] aa=some (φ,v)) (hφ:φ):∃r,(execOp a.eval o).run P w=.ok (.value r) w/\RV P S w β (aE aa) r v:=by
 have hr:∀ad:Addr,a.eval x=.pointer (some ad)->(execOp a.eval o).run P w=.ok (.value (.pointer (some ad))) w:=by intro ad hv;simp[execOp,ho,hv]
 cases X with|ptr t' o'=>simp only[al,qr,q69]at h;obtain⟨rfl,rfl⟩:=h;have hX':=hX;obtain⟨b,hv,hd,hb⟩:=hX.gM;exact⟨_,hr _ hv,by rw[<-hv];exact hX'⟩|bd t' e' i' o'=>simp only[al,qr,q69]at h;obtain⟨rfl,rfl⟩:=h;have hX':=hX;obtain⟨b,n',c,inf,hv,hd,hi,hb⟩:=hX.jQ;exact⟨_,hr _ hv,by rw[<-hv];exact hX'⟩|rp cs=>simp only[al,qr,q69]at h;obtain⟨rfl,rfl⟩:=h;have hX':=hX;obtain⟨ad,us,hv,h1,h2,h3,h4⟩:=hX.kH;exact⟨_,hr _ hv,by rw[<-hv];exact hX'⟩|_=>simp[al]at h
def Heap.box (hh:Heap P S w β aa) {t:Nat} (h:aa t=some (.box cs)):bE P S w β (aE aa) t (.box cs):=hh.holds t _ h
def GH {t:TypeId} (ho:o.op=.load t x) (ht:pf P t=some none) (hh:Heap P S w β aa) (hX:RV P S w β (aE aa) (a.eval x) X)  (h:al (.load none) [X] aa=some (φ,v)) (hφ:φ):∃r,(execOp a.eval o).run P w=.ok (.value r) w/\RV P S w β (aE aa) r v:=by
 have hr:∀(ad:Addr) (u:Value),a.eval x=.pointer (some ad)->w.cell? ad=some u->(execOp a.eval o).run P w=.ok (.value u) w:=by intro ad u hv hc;simp[execOp,ho,Instr.loadAt,hv,Instr.sureAddr,Bf ht hc]
 cases X with
 |ptr t' o'=>
  simp only[al,qB]at h;obtain⟨cs,hcs,c,hc,he⟩:=h;split at he;rotate_left;·cases he
  simp only[qr,q69]at he;obtain⟨rfl,rfl⟩:=he;obtain⟨b,hv,hd,hb⟩:=hX.gM;obtain⟨b',us,ty,hp,hheap,hl,hcells⟩:=hh.box (gK hcs);have hbb:b'=b:=by rw[hb]at hp;simpa using hp.symm
  subst hbb;have hlt:o'<us.size:=by rw[hl];exact(q63.1 hc).1
  have hu:us[o']?=some us[o']:=q136 hlt;exact⟨us[o'],hr _ _ hv ((cell_of_row w b' o' us ty (0,0) hheap).trans hu),(hcells o' c _ hc hu).2⟩|bd t' e' i' o'=>
  have he:nR e' i' o' (aa t')=some (φ,v):=h;unfold nR at he;split at he;rotate_left
  ·rename_i e cs hs';split at he;rotate_left;·cases he
   rename_i hee;obtain⟨rfl,rfl⟩:=hee;obtain⟨c,hc,he⟩:=qB.1 he;split at he;rotate_left;·cases he
   simp only[qr,q69]at he;obtain⟨rfl,rfl⟩:=he;obtain⟨b,n',c',inf,hv,hd,hi,hb⟩:=hX.jQ;obtain⟨inf',us,hi',h1s,hown,hcells⟩:=hh.holds t' _ hs';have:inf'=inf:=by rw[hi]at hi';injection hi' with hi';exact hi'.symm
   subst this;have hlt:i'.toNat<us.length:=by rw[hown.1,h1s,q206];exact(q63.1 hc).1
   have hu:us[i'.toNat]?=some us[i'.toNat]:=q62 hlt;have hob:(β t').ownBlock=some b:=by rw[hb];rfl
   have hcell:=hown.cells hob _ _ hu;rw[q100,q126]at hcell;refine⟨us[i'.toNat],hr _ _ hv ?_,(hcells _ c _ hc hu).2⟩;rw[h1s,q206,q167];exact hcell
  ·cases he
  rename_i e rows hs';split at he
  ·rename_i hee;subst hee;simp only[qr,q69]at he;obtain⟨rfl,rfl⟩:=he;obtain⟨hφ0,hφ1,hφ2⟩:=hφ;have hc:(rowAt rows i')[o']?=some ((rowAt rows i').getD o' (.int .u8 0)):=by simp[q80,hφ2]
   generalize(rowAt rows i').getD o' (.int .u8 0)=c at hc;obtain⟨b,n',c',inf,hv,hd,hi,hb⟩:=hX.jQ;obtain⟨inf',us,hi',hown,hrl,hcells⟩:=hh.arr hs';have:inf'=inf:=by rw[hi]at hi';injection hi' with hi';exact hi'.symm
   subst this;obtain⟨u,hu,h1,h2⟩:=hcells _ o' _ c (oz hφ0 hφ1) hc;have hob:(β t').ownBlock=some b:=by rw[hb];rfl
   have hcell:=hown.cells hob _ u hu;rw[q100,q126]at hcell;exact⟨u,hr _ _ hv hcell,.pv _ _ h2⟩
  ·cases he|rp cs=>cases cs with|nil=>simp only[al,qr,q69]at h;obtain⟨rfl,rfl⟩:=h;exact hφ.elim|cons c cs=>simp only[al,qr,q69]at h;obtain⟨rfl,rfl⟩:=h;obtain⟨ad,us,hv,h1,h2,h3,h4⟩:=hX.kH;have hcell:=h2 0 (by simp);exact⟨us 0,hr _ _ hv (by simpa[Addr.add]using hcell),.pv _ _ (h4 0 c rfl)⟩
 |_=>simp[al]at h
def GJ {t:TypeId} (ho:o.op=.load t x) (ht:pf P t=some (some n)) (hh:Heap P S w β aa) (hX:RV P S w β (aE aa) (a.eval x) X)  (h:al (.load (some n)) [X] aa=some (φ,v)) (hφ:φ):∃r,(execOp a.eval o).run P w=.ok (.value r) w/\RV P S w β (aE aa) r v:=by
 have hr:∀(ad:Addr) (us:List Value),a.eval x=.pointer (some ad)->us.length=n->(∀(j:Nat) (u:Value),us[j]?=some u->w.cell? (ad.add j)=some u)->(execOp a.eval o).run P w=.ok (.value (.agg us.toArray)) w:=by intro ad us hv hl hc;simp[execOp,ho,Instr.loadAt,hv,Instr.sureAddr,Bu ht hl hc]
 cases X with
 |ptr t' o'=>
  simp only[al,qB]at h;obtain⟨cs,hcs,he⟩:=h;split at he
  ·rename_i hle;simp only[qr,q69]at he;obtain⟨rfl,rfl⟩:=he;obtain⟨b,hv,hd,hb⟩:=hX.gM;obtain⟨b',us,ty,hp,hheap,hl,hcells⟩:=hh.box (gK hcs);have hbb:b'=b:=by rw[hb]at hp;simpa using hp.symm
   subst hbb;have hlen:((us.toList.drop o').take n).length=n:=by simp;omega
   refine⟨_,hr _ ((us.toList.drop o').take n) hv hlen (fun j u hu=>?_),.agg _ _ (by simp[hl]) (fun j c u hc hu=>?_)⟩
   ·rw[q100,cell_of_row w b' _ us ty (0,0) hheap];rw[q81]at hu;split at hu;·rw[q89]at hu;simpa using hu
    ·cases hu
   ·rw[q81]at hu hc;split at hu;·rw[q89]at hu;rename_i hj;rw[if_pos hj,q89]at hc;exact(hcells _ c u hc (by simpa using hu)).2
    ·cases hu
  ·cases he|bd t' e' i' o'=>
  simp only[al,qB]at h;obtain⟨⟨e,rows⟩,hs,he⟩:=h;have hs':=b9 hs;simp only at he hs';split at he
  ·rename_i hee;obtain⟨rfl,hle⟩:=hee;simp only[qr,q69]at he;obtain⟨rfl,rfl⟩:=he;obtain⟨b,n',c',inf,hv,hd,hi,hb⟩:=hX.jQ;obtain⟨inf',us,hi',hown,hrl,hcells⟩:=hh.arr hs';have:inf'=inf:=by rw[hi]at hi';injection hi' with hi';exact hi'.symm
   subst this;have hg:=oz hφ.1 hφ.2;have hrs:(rowAt rows i').length=inf'.size:=hrl _ (List.mem_of_getElem? hg);have hob:(β t').ownBlock=some b:=by rw[hb];rfl
   have hone:∀j,j<n->∃u,us[i'.toNat*inf'.size+(o'+j)]?=some u:=fun j hj=>by obtain⟨u,hu,_⟩:=hcells _ (o'+j) _ _ hg (q62 (show o'+j<(rowAt rows i').length by omega));exact⟨u,hu⟩
   have hlen:((us.drop (i'.toNat*inf'.size+o')).take n).length=n:=by
    rw[q68,q88];rcases q154 n with h0|h0;·omega
    ·obtain⟨u,hu⟩:=hone (n-1) (by omega);have:=(q63.1 hu).1;omega
   refine⟨_,hr _ ((us.drop (i'.toNat*inf'.size+o')).take n) hv hlen (fun j u hu=>?_),.agg _ _ (by rw[hlen];simp;omega) (fun j c u hc hu=>?_)⟩
   ·rw[q81]at hu;split at hu;·rw[q89]at hu;have hcell:=hown.cells hob _ u hu;rw[q100,q126]at hcell;rw[q100];exact hcell
    ·cases hu
   ·rw[q81]at hu;split at hu;·rename_i hj;rw[q89,q193]at hu;rw[q79,q900]at hc;obtain⟨p,hp,rfl⟩:=hc;rw[q81,if_pos hj,q89]at hp;obtain⟨u',hu',_,h2⟩:=hcells _ (o'+j) _ p hg hp;rw[hu]at hu';injection hu' with hu';rw[hu'];exact .pv _ _ h2
    ·cases hu
  ·cases he|rp cs=>
  simp only[al]at h;split at h
  ·rename_i hle;simp only[qr,q69]at h;obtain⟨rfl,rfl⟩:=h;obtain⟨ad,us,hv,h1,h2,h3,h4⟩:=hX.kH;have hg:∀(j:Nat) (u:Value),((List.range n).map us)[j]?=some u->j<n/\u=us j:=fun j u hu=>by
    simp only[q79,q900]at hu;obtain⟨k,hk,rfl⟩:=hu;have hjn:j<n:=by have:=(q63.1 hk).1;simpa using this
    rw[List.getElem?_range hjn]at hk;injection hk with hk;exact⟨hjn,by rw[hk]⟩
   refine⟨_,hr _ ((List.range n).map us) hv (by simp) (fun j u hu=>?_),.agg _ _ (by simp;omega) (fun j c u hc hu=>?_)⟩;·obtain⟨hj,rfl⟩:=hg j u hu;exact h2 j (by omega)
   ·obtain⟨hj,rfl⟩:=hg j u hu;rw[q79,q900]at hc;obtain⟨p,hp,rfl⟩:=hc;rw[q81,if_pos hj]at hp;exact .pv _ _ (h4 j p hp)
  ·cases h|_=>simp[al]at h
def TV {s:TypeId}{f:Field} (ho:o.op=.field s x i) (ht:P.underlying s=some (.struct fs)) (hf:fs[i]?=some f) (hn:pf P f.type=some none) (hX:RV P S w β (aE aa) (a.eval x) X)  (h:al (.Ja f.offset none) [X] aa=some (φ,v)) (hφ:φ):∃r,(execOp a.eval o).run P w=.ok (.value r) w/\RV P S w β (aE aa) r v:=by cases X with
 |agg cs=>
  simp only[al,q900]at h;obtain⟨c,hc,he⟩:=h;simp only[q69]at he;obtain⟨rfl,rfl⟩:=he;obtain⟨us,hv,hl,hcs⟩:=hX.dg;have hlt:f.offset<us.length:=by rw[hl];exact(q63.1 hc).1
  have hu:us[f.offset]?=some us[f.offset]:=q62 hlt;refine⟨us[f.offset],?_,hcs _ c _ hc hu⟩;simp[execOp,ho,Instr.field,run_underlying ht,hf,hv,asAgg,part,zf hn,hlt]|_=>simp[al]at h
def TM {s:TypeId}{f:Field} (ho:o.op=.field s x i) (ht:P.underlying s=some (.struct fs)) (hf:fs[i]?=some f) (hn:pf P f.type=some (some n)) (hX:RV P S w β (aE aa) (a.eval x) X)  (h:al (.Ja f.offset (some n)) [X] aa=some (φ,v)) (hφ:φ):∃r,(execOp a.eval o).run P w=.ok (.value r) w/\RV P S w β (aE aa) r v:=by cases X with
 |agg cs=>
  simp only[al]at h;split at h
  ·rename_i hle;simp only[qr,q69]at h;obtain⟨rfl,rfl⟩:=h;obtain⟨us,hv,hl,hcs⟩:=hX.dg;refine⟨.agg ((us.drop f.offset).take n).toArray,?_,.agg _ _ (by simp[hl]) (fun j c u hc hu=>?_)⟩
   ·have he:us.toArray.extract f.offset (f.offset+n)=((us.drop f.offset).take n).toArray:=by simp[List.extract_toArray,q273]
    simp[execOp,ho,Instr.field,run_underlying ht,hf,hv,asAgg,part,(lJ hn w).1,(lJ hn w).2,he]
   ·rw[q81]at hu hc;split at hu;·rename_i hj;rw[if_pos hj,q89]at hc;rw[q89]at hu;exact hcs _ c u hc hu
    ·cases hu
  ·cases h|_=>simp[al]at h
def aaF (ho:o.op=.extract x i) (hX:RV P S w β (aE aa) (a.eval x) X)  (h:al (.ext i) [X] aa=some (φ,v)) (hφ:φ):∃r,(execOp a.eval o).run P w=.ok (.value r) w/\RV P S w β (aE aa) r v:=by cases X with
 |aN cs=>
  simp only[al,q900]at h;obtain⟨c,hc,he⟩:=h;simp only[q69]at he;obtain⟨rfl,rfl⟩:=he;obtain⟨us,hv,hl,hcs⟩:=hX.jt;have hlt:i<us.length:=by rw[hl];exact(q63.1 hc).1
  have hu:us[i]?=some us[i]:=q62 hlt;refine⟨us[i],?_,hcs _ c _ hc hu⟩;simp[execOp,ho,Instr.extract,hv,hlt]|_=>simp[al]at h
end
def zo:∀(vs:List Value) (k off:Nat) (cells:List Value),off+k+vs.length<=cells.length->(vs.zipIdx k).foldl (fun(cs:Array Value) (p:Value×Nat)=>cs.setIfInBounds (off+p.2) p.1) cells.toArray=(cells.take (off+k)++vs++cells.drop (off+k+vs.length)).toArray
 |[],k,off,cells,_=>by simp|v::vs,k,off,cells,h=>by
  simp only[List.zipIdx_cons,List.foldl_cons,q70]at h |-;have hs:cells.toArray.setIfInBounds (off+k) v=(cells.set (off+k) v).toArray:=by simp
  rw[hs,zo vs (k+1) off (cells.set (off+k) v) (by simp;omega)];have hk:off+k<cells.length:=by omega
  have e1:(cells.set (off+k) v).take (off+(k+1))=cells.take (off+k)++[v]:=by rw[show off+(k+1)=off+k+1 from by omega];rw[q64 (by simpa using hk)];rw[List.take_set,List.set_eq_of_length_le (by simp;omega)];simp
  have e2:(cells.set (off+k) v).drop (off+(k+1)+vs.length)=cells.drop (off+k+(vs.length+1)):=by rw[List.drop_set,if_pos (by omega)];congr 1;omega
  rw[e1,e2];simp
def tM (vs:Array Value) (off:Nat) (cells:List Value) (h:off+vs.size<=cells.length):vs.zipIdx.foldl (fun(cs:Array Value) (p:Value×Nat)=>cs.setIfInBounds (off+p.2) p.1) cells.toArray=(cells.take off++vs.toList++cells.drop (off+vs.size)).toArray:=by
 have hz:vs.zipIdx=(vs.toList.zipIdx 0).toArray:=by apply q117;simp
 rw[hz];have:=zo vs.toList 0 off cells (by simpa using h);simpa using this
section
variable{P:Program}{S:Nat->Prop}{w:World}{β:Nat->Value}{aa:Nat->Option AO}{a:Act}{vars:Nat->AV}{N:Nat}{x y z:Operand}{o:Oper}
def mQ (P:Program) (S:Nat->Prop) (w:World) (β:Nat->Value) (D:Nat->Prop) (us:List Value) (cs:List AV):Prop:=us.length=cs.length/\∀(i:Nat) (c:AV) (u:Value),cs[i]?=some c->us[i]?=some u->RV P S w β D u c
def mQ.append {us us':List Value}{cs cs':List AV} (h:mQ P S w β D us cs) (h':mQ P S w β D us' cs'):mQ P S w β D (us++us') (cs++cs'):=by
 refine⟨by simp[h.1,h'.1],fun i c u hc hu=>?_⟩;by_cases hi:i<cs.length;·rw[q86 hi]at hc;rw[q86 (by rw[h.1];exact hi)]at hu;exact h.2 i c u hc hu
 ·rw[q98 (by omega)]at hc;rw[q98 (by rw[h.1];omega),h.1]at hu;exact h'.2 _ c u hc hu
def mQ.take  (h:mQ P S w β D us cs) (n:Nat):mQ P S w β D (us.take n) (cs.take n):=by
 refine⟨by simp[h.1],fun i c u hc hu=>?_⟩;rw[q81]at hc hu;split at hc;·rename_i hi;rw[if_pos hi]at hu;exact h.2 i c u hc hu
 ·cases hc
def mQ.drop  (h:mQ P S w β D us cs) (n:Nat):mQ P S w β D (us.drop n) (cs.drop n):=by refine⟨by simp[h.1],fun i c u hc hu=>?_⟩;rw[q89]at hc hu;exact h.2 _ c u hc hu
def mQ.cons {u:Value}{c:AV} (h:RV P S w β D u c) (h':mQ P S w β D us cs):mQ P S w β D (u::us) (c::cs):=by refine⟨by simp[h'.1],fun i c' u' hc hu=>?_⟩;cases i with|zero=>simp at hc hu;subst hc hu;exact h|succ i=>exact h'.2 i c' u' (by simpa using hc) (by simpa using hu)
def mQ.nil :mQ P S w β D [] []:=⟨rfl,fun i c u hc=>by simp at hc⟩
def mQ.cv_ (D:Nat->Prop):∀zs:List Value,mQ P S w β D zs (zs.map cv)|[]=>.nil|z::zs=>.cons (vK P S w β D z) (mQ.cv_ D zs)
def qy (hh:Heap P S w β aa) {u:Value}{c:AV} (h:RV P S w β (aE aa) u c) (ho:fk c=true):u.oneCell'=true/\u.cells=#[u]:=by cases h with
 |pv v p h=>cases h with
  |val v h=>cases u<;>first|exact⟨rfl,rfl⟩|(simp[Value.oneCell']at h)
  |_=>exact⟨rfl,rfl⟩
 |own t h=>obtain⟨o,ho'⟩:=h;cases o with|box cs=>obtain⟨b,us,ty,hp,_⟩:=hh.holds t _ ho';rw[hp];exact⟨rfl,rfl⟩|arr e rows=>obtain⟨inf,us,_,hown,_⟩:=hh.holds t _ ho';obtain⟨A,c,hv,_⟩:=cN hown;rw[hv];exact⟨rfl,rfl⟩|map es=>obtain⟨b,us,c,hp,_⟩:=hh.holds t _ ho';rw[hp];exact⟨rfl,rfl⟩|rws e cs=>obtain⟨inf,us,_,_,hown,_⟩:=hh.holds t _ ho';obtain⟨A,c,hv,_⟩:=cN hown;rw[hv];exact⟨rfl,rfl⟩|kk es=>obtain⟨b,us,c,hp,_⟩:=hh.holds t _ ho';rw[hp];exact⟨rfl,rfl⟩|yJ rem cur=>obtain⟨r,m,us,c,seen,hp,_⟩:=hh.holds t _ ho';rw[hp];exact⟨rfl,rfl⟩
 |ptr t o b h hb=>exact⟨rfl,rfl⟩|bd t e i o b n c inf h hi hb=>exact⟨rfl,rfl⟩|sub v t e lo hi inf A A1 n c h hi' hb h1 h2 h3 h4 h5 hv=>rw[hv];exact⟨rfl,rfl⟩|rp ad cs us h1 h2 h3 h4=>exact⟨rfl,rfl⟩|bI f cs us hl h=>exact⟨rfl,rfl⟩|agg cs us hl h=>simp[fk]at ho|aN cs us hl h=>simp[fk]at ho|cx g v av h=>simp[fk]at ho|ak v=>simp[fk]at ho
def Ce (hh:Heap P S w β aa) {u:Value}{x:AV} (h:RV P S w β (aE aa) u x) (ho:nk x=true):mQ P S w β (aE aa) u.cells.toList (cellsOf x):=by cases x with|agg cs=>obtain⟨us,rfl,hl,hc⟩:=h.dg;exact⟨by simpa[Value.cells,cellsOf]using hl,by simpa[Value.cells,cellsOf]using hc⟩|_=>have h1:=(qy hh h ho).2;rw[h1];exact mQ.cons h mQ.nil
def RV.nrm {S:Nat->Prop}{u:Value}{c:AV} (h:RV P S w β D u c):RV P S w β D u (sS c):=by
 unfold sS;split;·obtain⟨us,rfl,hl,_⟩:=h.oo;have:us=[]:=q76 hl;subst this;exact .pv _ _ (.val _ rfl)
 ·exact h
def mQ.nrm {S:Nat->Prop} (h:mQ P S w β D us cs):mQ P S w β D us (cs.map sS):=⟨by rw[List.length_map];exact h.1,fun i c u hc hu=>by rw[q79]at hc;obtain⟨c',hc',rfl⟩:=q900.1 hc;exact(h.2 i c' u hc' hu).nrm⟩
def vf (hh:Heap P S w β aa) (place:Nat->Option (Nat×Nat)):∀(ops:List (Nat×Operand)) (ps:List (Nat×Nat)) (xs:List AV) (us:List Value) (cs out:List AV),(∀k:Nat,(ops[k]?).bind (fun p=>place p.1)=ps[k]?\/ps[k]?=none)->ps.length=ops.length->xs.length=ops.length->(∀(k:Nat) (p:Nat×Operand) (X:AV),ops[k]?=some p->xs[k]?=some X->RV P S w β (aE aa) (a.eval p.2) X)->mQ P S w β (aE aa) us cs->mu cs ps xs=some out->∃us':List Value,Instr.fill place us.toArray (ops.map fun p=>(p.1,a.eval p.2))=some us'.toArray/\mQ P S w β (aE aa) us' out
 |[],[],[],us,cs,out,_,_,_,_,hr,h=>by simp only[mu,qr]at h;subst h;exact⟨us,rfl,hr⟩|(i,z)::ops,(off,n)::ps,X::xs,us,cs,out,hp,hl1,hl2,hrv,hr,h=>by
  simp only[mu]at h;split at h
  ·rename_i hc;obtain⟨hok,hlen,hle⟩:=hc;have h0:=hp 0;simp at h0;have hX:=hrv 0 (i,z) X rfl rfl;have hcells:=(Ce hh hX hok).nrm;have hlen:((cellsOf X).map sS).length=n:=by rw[List.length_map];exact hlen
   have hsz:(a.eval z).cells.size=n:=by rw[<-q87,hcells.1,hlen]
   have hin:off+(a.eval z).cells.size<=us.length:=by rw[hsz,hr.1];exact hle
   have hnext:=vf hh place ops ps xs (us.take off++(a.eval z).cells.toList++us.drop (off+(a.eval z).cells.size)) (lay cs off ((cellsOf X).map sS)) out (fun k=>by simpa using hp (k+1)) (by simpa using hl1) (by simpa using hl2) (fun k p Y h1 h2=>hrv (k+1) p Y h1 h2) (by unfold lay;rw[hsz,<-hlen];exact((hr.take off).append hcells).append (hr.drop _)) h;obtain⟨us',hf,hr'⟩:=hnext;refine⟨us',?_,hr'⟩;simp only[q74,Instr.fill,h0];rw[if_neg (by simp[hsz];omega)];rw[show(fun(cs:Array Value) (x:Value×Nat)=>match x with|(c,j)=>cs.setIfInBounds (off+j) c)=fun(cs:Array Value) (p:Value×Nat)=>cs.setIfInBounds (off+p.2) p.1 from rfl];rw[tM _ off us hin];exact hf
  ·cases h
def xQ {fs:Array Field}:∀(ops:List (Nat×Operand)) (ps:List (Nat×Nat)),te P fs ops=some ps->ps.length=ops.length/\∀(k:Nat) (p:Nat×Operand),ops[k]?=some p->∃f n,fs[p.1]?=some f/\c7 P f.type=some n/\ps[k]?=some (f.offset,n)
 |[],ps,h=>by simp[te]at h;subst h;exact⟨rfl,fun k p hk=>by simp at hk⟩|(i,z)::ops,ps,h=>by
  simp only[te]at h;split at h;·rename_i f r hf hr;obtain⟨n,hn,rfl⟩:=q900.1 h;obtain⟨h1,h2⟩:=xQ ops r hr;refine⟨by simp[h1],fun k p hk=>?_⟩;cases k with|zero=>simp at hk;subst hk;exact⟨f,n,hf,hn,rfl⟩|succ k=>obtain⟨f',n',a1,a2,a3⟩:=h2 k p (by simpa using hk);exact⟨f',n',a1,a2,by simpa using a3⟩
  ·cases h
def run_places (fs:Array Field) (w:World) (h:fs.toList.all (fun f=>(P.info? f.type).isSome)=true):(fs.mapM fun f=>do pure (f.offset,<-sizeOf f.type):Sem (Array (Nat×Nat))).run P w=.ok (fs.map fun f=>(f.offset,(c7 P f.type).getD 0)) w:=by
 have key:∀(l:List Field),(∀f∈l,(P.info? f.type).isSome=true)->(l.mapM fun f=>do pure (f.offset,<-sizeOf f.type):Sem (List (Nat×Nat))).run P w=.ok (l.map fun f=>(f.offset,(c7 P f.type).getD 0)) w:=by intro l;induction l with|nil=>intro _;rfl|cons f l ih=>
  intro hl;obtain⟨i,hi⟩:=q124.1 (hl f (by simp));have hsz:c7 P f.type=some i.size:=by simp[c7,hi]
  have ih':=ih (fun g hg=>hl g (by simp[hg]));simp only[q301,q186,se hi w,q160,q198,ih',q74,hsz,q101]
 have hl:∀f∈fs.toList,(P.info? f.type).isSome=true:=q85.1 h;rw[q274];rw[Sem.run_map,key fs.toList hl];simp[Result.andThen];apply q117;simp
def eP {t:TypeId} (h:eB P t=some zs):∃i z,P.info? t=some i/\i.zero=some z/\z.cells.size=i.size/\zs=z.cells.toList:=by
 unfold eB at h;obtain⟨i,hi,h⟩:=qB.1 h;obtain⟨z,hz,h⟩:=qB.1 h;split at h;·rename_i hs;injection h with h;exact⟨i,z,hi,hz,hs,h.symm⟩
 ·cases h
def q_bld {t:TypeId}{ops:Array (Nat×Operand)}{ps:List (Nat×Nat)} (ho:o.op=.build t ops) (hz:eB P t=some zs) (ht:P.underlying t=some (.struct fs)) (hall:fs.toList.all (fun f=>(P.info? f.type).isSome)=true) (hps:te P fs ops.toList=some ps) (hh:Heap P S w β aa) (hev:∀z:Operand,asks (ev vars z)->RV P S w β (aE aa) (a.eval z) (strip (ev vars z))) (ha:aw ((ops.toList.map (·.2)).map (ev vars)))  (h:al (.L0 zs ps) (((ops.toList.map (·.2)).map (ev vars)).map strip) aa=some (φ,v)) (hφ:φ):∃r,(execOp a.eval o).run P w=.ok (.value r) w/\RV P S w β (aE aa) r v:=by
 unfold al at h;simp only[q900]at h;obtain⟨cs,hcs,he⟩:=h;simp only[q69]at he;obtain⟨rfl,rfl⟩:=he;obtain⟨i,zv,hi,hzv,hzs,rfl⟩:=eP hz;obtain⟨hpl,hpg⟩:=xQ ops.toList ps hps;have hasks:∀(l:List Operand) (k:Nat) (z:Operand),aw (l.map (ev vars))->l[k]?=some z->asks (ev vars z):=by intro l;induction l with|nil=>intro k z _ hk;simp at hk|cons y l ih=>intro k z h hk;cases k with|zero=>simp at hk;subst hk;exact h.1|succ k=>exact ih k z h.2 (by simpa using hk)
 have hplace:∀(k:Nat) (f:Field),fs[k]?=some f->(fs.map fun f=>(f.offset,(c7 P f.type).getD 0))[k]?=some (f.offset,(c7 P f.type).getD 0):=fun k f hf=>by simp[hf]
 obtain⟨us',hf,hr⟩:=vf (a:=a) hh (fun k=>(fs.map fun f=>(f.offset,(c7 P f.type).getD 0))[k]?) ops.toList ps (((ops.toList.map (·.2)).map (ev vars)).map strip) zv.cells.toList (zv.cells.toList.map cv) cs (fun k=>by cases hk:ops.toList[k]? with|none=>refine .inr ?_;rw[q194]at hk |-;omega|some p=>obtain⟨f,n,h1,h2,h3⟩:=hpg k p hk;refine .inl ?_;rw[h3];simp only[q131];rw[hplace _ f h1,h2];rfl) hpl (by simp) (fun k p X h1 h2=>by
  have hk2:(ops.toList.map (·.2))[k]?=some p.2:=by simp[h1]
  have hX:X=strip (ev vars p.2):=by simp only[q79,h1,q121,qr]at h2;exact h2.symm
  subst hX;exact hev p.2 (hasks _ k _ ha hk2)) (mQ.cv_ _ _) hcs;refine⟨.agg us'.toArray,?_,.agg _ _ hr.1 hr.2⟩;have hf':Instr.fill (fun k=>(fs.map fun f=>(f.offset,(c7 P f.type).getD 0))[k]?) zv.cells (ops.toList.map fun p=>(p.1,a.eval p.2))=some us'.toArray:=by rw[<-hf]
 have hzr:(zeroValue t).run P w=.ok zv w:=by simp[zeroValue,typeInfo,hi,hzv]
 have hml:(ops.map fun x=>(x.1,a.eval x.2)).toList=ops.toList.map fun p=>(p.1,a.eval p.2):=by simp
 simp only[execOp,ho];simp only[Instr.build,q186,hzr,q160,run_underlying ht,run_places fs w hall];rw[show(fun(x:Nat×Operand)=>match x with|(i,x)=>(i,a.eval x))=fun x=>(x.1,a.eval x.2) from rfl];rw[hml];simp only[hf',q186,q198,q160]
def q_mkf {f:FuncId}{caps:Array Operand} (ho:o.op=.makeFunc (.func f) #[] caps) (hev:∀z:Operand,asks (ev vars z)->RV P S w β (aE aa) (a.eval z) (strip (ev vars z))) (ha:aw (caps.toList.map (ev vars)))  (h:al (.LR f) ((caps.toList.map (ev vars)).map strip) aa=some (φ,v)) (hφ:φ):∃r,(execOp a.eval o).run P w=.ok (.value r) w/\RV P S w β (aE aa) r v:=by
 unfold al at h;simp only[qr,q69]at h;obtain⟨rfl,rfl⟩:=h;have key:∀l:List Operand,aw (l.map (ev vars))->mQ P S w β (aE aa) (l.map a.eval) ((l.map (ev vars)).map strip):=by intro l;induction l with|nil=>intro _;exact .nil|cons z l ih=>intro h;exact .cons (hev z h.1) (ih h.2)
 have hr:=key caps.toList ha;refine⟨.func (.func f) #[] (caps.toList.map a.eval).toArray,?_,.bI f _ _ hr.1 hr.2⟩;have:(caps.toList.map a.eval).toArray=caps.map a.eval:=by apply q117;simp
 rw[this];simp[execOp,ho,Instr.makeFunc]
end
def cT (d:Nat) (o:AO) (aa:Nat->Option AO):bK [(d,o)] aa=ba d o aa:=by
 funext t;unfold bK ba ab;by_cases h:t=d;·simp[h]
 ·simp[h,ab]
section
variable{P:Program}{S0 L:Nat->Prop}{B0:Nat->Value}{w0 w:World}{N:Nat}{st:St}{a:Act}{β:Nat->Value}{x y z:Operand}{o:Oper}{d:Nat}
def uz (w:World):w.grownBy w none:=⟨rfl,rfl,rfl,q92 _,fun _ _ _=>rfl⟩
def f_nil (h:Rel P S0 L B0 w0 N st a w β) (hd:d<N) (ht:st.aa d=none) (hi:(P.info? e).isSome=true):∃β',Rel P S0 L B0 w0 N ⟨put (some d) (.own d) st.vars,bK [(d,.arr e [])] st.aa⟩ (a.put (some d) (.slice none 0 0)) w β':=by obtain⟨inf,hi⟩:=q124.1 hi;have hf:=h.fresh hd ht (uz w) (v:=.slice none 0 0) (fun b hb=>by simp[cI]at hb) (o:=.arr e []) ⟨inf,[],hi,by rw[bp];exact q188 w 0 e inf.size,fun r hr=>by simp at hr,fun i j r p hr=>by simp at hr⟩;rw[cT];have hp:=hf.put (d:=some d) (r:=fL β d (.slice none 0 0) d) (v:=.own d) (fun s hs=>by injection hs with hs;omega) (.own d (cD.2 (.inl rfl)));rw[bp]at hp;exact⟨_,hp⟩
def eF (w:World) (o:Obj):w.grownBy (w.alloc o) none:=World.grownBy_alloc w o none
def GR (h:Rel P S0 L B0 w0 N st a w β) (hd:d<N) (ht:st.aa d=none) {us:Array Value}{ty:TypeId} (hone:gP cs=true) (hhp:Heap P (bn S0 w0.heap.size β st.aa w) w β st.aa) (hr:mQ P (bn S0 w0.heap.size β st.aa w) w β (aE st.aa) us.toList cs):∃β',Rel P S0 L B0 w0 N ⟨put (some d) (.ptr d 0) st.vars,bK [(d,.box cs)] st.aa⟩ (a.put (some d) (.pointer (some ⟨w.heap.size,0,none⟩))) (w.alloc (.cells us ty)) β':=by
 have hb:∀b,cI (.pointer (some ⟨w.heap.size,0,none⟩))=some b->w.heap.size<=b:=fun b hb=>by simp[cI]at hb;omega
 have hm:=h.qA ht (eF w (.cells us ty)) (v:=.pointer (some ⟨w.heap.size,0,none⟩)) hb (o:=.box cs);have honeAt:∀(l:List AV) (i:Nat) (c:AV),gP l=true->l[i]?=some c->fk c=true:=by intro l;induction l with|nil=>intro i c _ hc;simp at hc|cons y l ih=>intro i c h hc;simp only[gP,q71]at h;cases i with|zero=>simp at hc;subst hc;exact h.1|succ i=>exact ih i c h.2 (by simpa using hc)
 have hf:=h.fresh hd ht (eF w (.cells us ty)) (v:=.pointer (some ⟨w.heap.size,0,none⟩)) hb (o:=.box cs) ⟨w.heap.size,us,ty,bp _ _ _,heap_alloc_new w _,by rw[<-q87];exact hr.1,fun i c u hc hu=>by have hrv:=hr.2 i c u hc (by simpa using hu);exact⟨(qy hhp hrv (honeAt cs i c hone hc)).1,hrv.mono hm.1 hm.2⟩⟩;rw[cT];exact⟨_,hf.put (d:=some d) (fun s hs=>by injection hs with hs;omega) (.ptr d 0 w.heap.size (cD.2 (.inl rfl)) (bp _ _ _))⟩
def f_box (ho:o.op=.box e x) (h:Rel P S0 L B0 w0 N st a w β) (hd:d<N) (ht:st.aa d=none) (hX:RV P (bn S0 w0.heap.size β st.aa w) w β (aE st.aa) (a.eval x) X)  (hs:cQ .box d [X] st.aa=some (φ,v,ao)):∃r w',(execOp a.eval o).run P w=.ok (.value r) w'/\∃β',Rel P S0 L B0 w0 N ⟨put (some d) v st.vars,bK [(d,ao)] st.aa⟩ (a.put (some d) r) w' β':=by
 simp only[cQ]at hs;split at hs
 ·rename_i hone;simp only[qr,q69]at hs;obtain⟨rfl,rfl,rfl⟩:=hs;have hpo:nk X=true:=by cases X with|agg cs=>rfl|_=>simpa[cellsOf,gP,nk]using hone
  have hr:=Ce h.heap hX hpo;obtain⟨β',hR⟩:=GR (ty:=e) h hd ht hone h.heap hr;exact⟨_,_,by simp[execOp,ho,Instr.box,newVar,newRow],β',hR⟩
 ·cases hs
def Gc:∀zs:List Value,zs.all (fun z=>z.oneCell')=true->gP (zs.map cv)=true|[],_=>rfl|z::zs,h=>by simp only[List.all_cons,q71]at h;simp only[q74,gP,q71];refine⟨?_,Gc zs h.2⟩;unfold cv;rw[if_pos h.1];unfold si;split<;>first|rfl|exact h.1
def Mc  (ho:o.op=.alloc e) (hz:eB P e=some zs) (h:Rel P S0 L B0 w0 N st a w β) (hd:d<N) (ht:st.aa d=none) {xs:List AV} (hs:cQ (.alloc zs) d xs st.aa=some (φ,v,ao)):∃r w',(execOp a.eval o).run P w=.ok (.value r) w'/\∃β',Rel P S0 L B0 w0 N ⟨put (some d) v st.vars,bK [(d,ao)] st.aa⟩ (a.put (some d) r) w' β':=by
 obtain⟨i,zv,hi,hzv,hzs,rfl⟩:=eP hz;unfold cQ at hs;simp only at hs;split at hs
 ·rename_i hone;simp only[qr,q69]at hs;obtain⟨rfl,rfl,rfl⟩:=hs;obtain⟨β',hR⟩:=GR (ty:=e) (us:=zv.cells) h hd ht (Gc _ hone) h.heap (mQ.cv_ _ _);have hzr:(zeroValue e).run P w=.ok zv w:=by simp[zeroValue,typeInfo,hi,hzv]
  exact⟨_,_,by simp[execOp,ho,Instr.alloc,hzr,newVar,newRow],β',hR⟩
 ·cases hs
def dA.one {S:Nat->Prop}{u:Value}{p:PV} (h:dA S w u p):fk (.pv p)=true:=by cases h with|val v h=>exact h|_=>rfl
def kp (hh:Heap P (bn S0 w0.heap.size β st.aa w) w β st.aa) {S:Nat->Prop} (hS:S=bn S0 w0.heap.size β st.aa w) {u:Value}{r:List PV} (h:RV P S w β (aE st.aa) u X) (hr:rowOf X=some r):u.cells.toList.length=r.length/\∀(j:Nat) (p:PV),r[j]?=some p->∃c,u.cells.toList[j]?=some c/\c.oneCell'=true/\dA S w c p:=by subst hS;cases X with
 |pv p=>simp only[rowOf,qr]at hr;subst hr;have h1:=qy hh h h.bL.one;rw[h1.2];refine⟨rfl,fun j q hq=>?_⟩;cases j with|zero=>simp at hq;subst hq;exact⟨u,rfl,h1.1,h.bL⟩|succ j=>simp at hq
 |agg cs=>
  obtain⟨us,rfl,hl,hc⟩:=h.dg;have key:∀(cs:List AV) (r:List PV),fR cs=some r->r.length=cs.length/\∀(j:Nat) (p:PV),r[j]?=some p->cs[j]?=some (.pv p):=by intro cs;induction cs with|nil=>intro r hr;simp[fR]at hr;subst hr;exact⟨rfl,fun j p hp=>by simp at hp⟩|cons c cs ih=>intro r hr;simp only[fR,qB,q900]at hr;obtain⟨p,hp,ps,hps,rfl⟩:=hr;obtain⟨h1,h2⟩:=ih ps hps;refine⟨by simp[h1],fun j q hq=>?_⟩;cases j with|zero=>simp at hq;subst hq;cases c<;>simp[H9]at hp;subst hp;rfl|succ j=>simpa using h2 j q (by simpa using hq)
  obtain⟨k1,k2⟩:=key cs r hr;refine⟨by simp[Value.cells,hl,k1],fun j p hp=>?_⟩;have hcj:=k2 j p hp;have hlt:j<us.length:=by rw[hl];exact(q63.1 hcj).1
  have hu:us[j]?=some us[j]:=q62 hlt;have hrv:=hc j _ _ hcj hu;refine⟨us[j],by simp[Value.cells,hlt],?_,hrv.bL⟩;exact(qy hh hrv hrv.bL.one).1|_=>simp[rowOf]at hr
def Ak (sz:Nat) (ev:Operand->Value):∀(ops:List (Nat×Operand)) (k:Nat) (us:List Value),(ops.map (·.1))=List.range' k ops.length->us.length=(k+ops.length)*sz->(∀p∈ops,(ev p.2).cells.size=sz)->Instr.fill (fun i=>some (i*sz,sz)) us.toArray (ops.map fun p=>(p.1,ev p.2))=some (us.take (k*sz)++ops.flatMap fun p=>(ev p.2).cells.toList).toArray
 |[],k,us,_,hl,_=>by simp only[q119,Instr.fill,q244,q130];rw[List.take_of_length_le (by simp at hl;omega)]|(i,z)::ops,k,us,hr,hl,hsz=>by
  simp only[q74,q70,List.range'_succ,q112]at hr;obtain⟨rfl,hr⟩:=hr;have hz:=hsz (i,z) (by simp);have hz':(ev z).cells.size=sz:=hz;have hin:i*sz+(ev z).cells.size<=us.length:=by rw[hz',hl];simp only[q70];rw[<-q120];exact q82 _ (by omega)
  simp only[q74,Instr.fill];rw[if_neg (by simp[hz'];omega)];rw[show(fun(cs:Array Value) (x:Value×Nat)=>match x with|(c,j)=>cs.setIfInBounds (i*sz+j) c)=fun(cs:Array Value) (p:Value×Nat)=>cs.setIfInBounds (i*sz+p.2) p.1 from rfl];rw[tM _ (i*sz) us hin];have hlt:(us.take (i*sz)).length=i*sz:=by rw[q68];omega
  have hlc:(ev z).cells.toList.length=sz:=by simpa using hz'
  rw[Ak sz ev ops (i+1) _ hr (by
   simp only[q65,q88,hlt,hlc,hz',hl,q70];have:(i+(ops.length+1))*sz=i*sz+(ops.length+1)*sz:=q151 _ _ _;have h2:(ops.length+1)*sz=ops.length*sz+sz:=q120 _ _;have h3:(i+1+ops.length)*sz=i*sz+sz+ops.length*sz:=by rw[q151,q151,q297]
   omega) (fun p hp=>hsz p (by simp[hp]))];have:(i+1)*sz=i*sz+sz:=q120 _ _;rw[this];have e1:List.take (i*sz+sz) (List.take (i*sz) us++(ev z).cells.toList++List.drop (i*sz+(ev z).cells.size) us)=List.take (i*sz) us++(ev z).cells.toList:=by rw[q111 (by simp[hlt,hlc])];rw[List.take_of_length_le (by rw[q65,hlt,hlc];omega)]
  rw[e1];simp
def qZ (sz:Nat):∀(l:List (List Value)) (i j:Nat),(∀r∈l,r.length=sz)->j<sz->(l.flatMap id)[i*sz+j]?=(l[i]?).bind (·[j]?)
 |[],i,j,_,_=>by simp|r::l,0,j,h,hj=>by simp only[Nat.zero_mul,q126,q99,id,q72,q131];rw[q86 (by rw[h r (by simp)];exact hj)]|r::l,i+1,j,h,hj=>by
  have hr:=h r (by simp);have hm:(i+1)*sz+j=r.length+(i*sz+j):=by rw[hr,q120];omega
  simp only[q99,id,q177];rw[hm,q98 (by omega),q237];exact qZ sz l i j (fun r hr=>h r (by simp[hr])) hj
def qd:∀(xs:List AV) (rows:List (List PV)),rowsOf xs=some rows->rows.length=xs.length/\∀(i:Nat) (r:List PV),rows[i]?=some r->∃X,xs[i]?=some X/\rowOf X=some r|[],rows,h=>by simp[rowsOf]at h;subst h;exact⟨rfl,fun i r hr=>by simp at hr⟩|X::xs,rows,h=>by simp only[rowsOf,qB,q900]at h;obtain⟨p,hp,ps,hps,rfl⟩:=h;obtain⟨h1,h2⟩:=qd xs ps hps;refine⟨by simp[h1],fun i r hr=>?_⟩;cases i with|zero=>simp at hr;subst hr;exact⟨X,rfl,hp⟩|succ i=>obtain⟨Y,h3,h4⟩:=h2 i r (by simpa using hr);exact⟨Y,by simpa using h3,h4⟩
def rH {vars:Nat->AV}:∀(l:List Operand) (k:Nat) (z:Operand),aw (l.map (ev vars))->l[k]?=some z->asks (ev vars z)|[],k,z,_,hk=>by simp at hk|y::l,0,z,h,hk=>by simp at hk;subst hk;exact h.1|y::l,k+1,z,h,hk=>rH l k z h.2 (by simpa using hk)
def F3 {t e:TypeId}{i:TypeInfo}{zv:Value}{ops:Array (Nat×Operand)} (ho:o.op=.buildSlice t n ops) (hu:P.underlying t=some (.slice e)) (hsz:c7 P e=some sz) (hi:P.info? e=some i) (hzv:i.zero=some zv) (hzl:zv.cells.toList.length=sz) (hord:ops.toList.map (·.1)=List.range n) (hbig:n*sz<=2^24) (hlen:ops.toList.length=n) (hcsz:∀p∈ops.toList,(a.eval p.2).cells.size=sz):(ops.toList.flatMap fun p=>(a.eval p.2).cells.toList).length=n*sz/\(execOp a.eval o).run P w=.ok (.value (.slice (some ⟨w.heap.size,0,none⟩) n n)) (w.alloc (.cells (ops.toList.flatMap fun p=>(a.eval p.2).cells.toList).toArray e)):=by
 let us:List Value:=ops.toList.flatMap fun p=>(a.eval p.2).cells.toList;have hus:us=(ops.toList.map fun p=>(a.eval p.2).cells.toList).flatMap id:=by simp[us,q281]
 have hsum:∀l:List (Nat×Operand),(∀p∈l,(a.eval p.2).cells.size=sz)->(l.flatMap fun p=>(a.eval p.2).cells.toList).length=l.length*sz:=by intro l;induction l with|nil=>intro _;simp|cons p l ih=>intro hl;simp only[q99,q65,q87,hl p (by simp),ih (fun q hq=>hl q (by simp[hq])),q70,q120];omega
 have husl:us.length=n*sz:=by rw[hsum ops.toList hcsz,hlen]
 have hfill:=Ak sz a.eval ops.toList 0 ((Array.range (n*sz)).map (fun i=>zv.cells[i%zv.cells.size]!)).toList (by rw[hord,hlen,List.range_eq_range']) (by simp[hlen]) hcsz;have hzr:(zeroValue e).run P w=.ok zv w:=by simp[zeroValue,typeInfo,hi,hzv]
 have hml:(ops.map fun x=>(x.1,a.eval x.2)).toList=ops.toList.map fun p=>(p.1,a.eval p.2):=by simp
 have hfn:(fun(x:Nat×Operand)=>match x with|(i,x)=>(i,a.eval x))=fun x=>(x.1,a.eval x.2):=rfl;have hrun:(execOp a.eval o).run P w=.ok (.value (.slice (some ⟨w.heap.size,0,none⟩) n n)) (w.alloc (.cells us.toArray e)):=by
  simp only[execOp,ho,hfn];have hnb:¬(n*sz>2^24):=by omega
  by_cases h0:n*sz=0
  ·have hfill0:Instr.fill (fun i=>some (i*sz,sz)) ((Array.range 0).map fun i=>(#[]:Array Value)[i%(#[]:Array Value).size]!) (ops.map fun x=>(x.1,a.eval x.2)).toList=some us.toArray:=by
    rw[hml];have h2:((Array.range (n*sz)).map (fun i=>zv.cells[i%zv.cells.size]!)).toList.toArray=(Array.range 0).map fun i=>(#[]:Array Value)[i%(#[]:Array Value).size]!:=by rw[h0];simp
    rw[<-h2];simpa[us]using hfill
   simp only[Instr.buildSlice,q186,run_underlying hu,q160,fw hsz,hnb,if_false,h0,if_true,q198,hfill0,newRow,run_newObj,show¬(0:Nat)>2^24 from by omega];rfl
  ·have hfill1:Instr.fill (fun i=>some (i*sz,sz)) ((Array.range (n*sz)).map fun i=>zv.cells[i%zv.cells.size]!) (ops.map fun x=>(x.1,a.eval x.2)).toList=some us.toArray:=by rw[hml,show((Array.range (n*sz)).map fun i=>zv.cells[i%zv.cells.size]!)=((Array.range (n*sz)).map fun i=>zv.cells[i%zv.cells.size]!).toList.toArray from by rw[q139]];rw[hfill];simp[us]
   simp only[Instr.buildSlice,q186,run_underlying hu,q160,fw hsz,hnb,if_false,h0,q198,hzr,hfill1,newRow,run_newObj];rfl
 exact⟨husl,hrun⟩
def PB {t e:TypeId}{ops:Array (Nat×Operand)} (ho:o.op=.buildSlice t n ops) (hu:P.underlying t=some (.slice e)) (hsz:c7 P e=some sz) (hz:eB P e=some zs) (hord:ops.toList.map (·.1)=List.range n) (hbig:n*sz<=2^24) (hzl:zs.length=sz) (hpos:0<sz) (h:Rel P S0 L B0 w0 N st a w β) (hd:d<N) (ht:st.aa d=none) (hev:∀z:Operand,asks (ev st.vars z)->RV P (bn S0 w0.heap.size β st.aa w) w β (aE st.aa) (a.eval z) (strip (ev st.vars z))) (ha:aw ((ops.toList.map (·.2)).map (ev st.vars)))  (hs:cQ (.uF e sz) d (((ops.toList.map (·.2)).map (ev st.vars)).map strip) st.aa=some (φ,v,ao)) (hφ:φ):∃r w',(execOp a.eval o).run P w=.ok (.value r) w'/\∃β',Rel P S0 L B0 w0 N ⟨put (some d) v st.vars,bK [(d,ao)] st.aa⟩ (a.put (some d) r) w' β':=by
 obtain⟨inf,hi,hinf⟩:=jz hsz;obtain⟨i,zv,hi',hzv,hzs,rfl⟩:=eP hz;have:i=inf:=by rw[hi]at hi';injection hi' with hi';exact hi'.symm
 subst this;unfold cQ at hs;simp only[q900]at hs;obtain⟨rows,hrows,he⟩:=hs;simp only[q69]at he;obtain⟨rfl,rfl,rfl⟩:=he;have hlen:ops.toList.length=n:=by have:=congrArg List.length hord;simpa using this
 obtain⟨hrl,hrg⟩:=qd _ rows hrows;have hrl':rows.length=n:=by rw[hrl];simp[hlen]
 have hrv:∀(k:Nat) (p:Nat×Operand),ops.toList[k]?=some p->∃r,rows[k]?=some r/\RV P (bn S0 w0.heap.size β st.aa w) w β (aE st.aa) (a.eval p.2) (strip (ev st.vars p.2))/\rowOf (strip (ev st.vars p.2))=some r:=by
  intro k p hk;have hlt:k<rows.length:=by rw[hrl',<-hlen];exact(q63.1 hk).1
  have hr:rows[k]?=some rows[k]:=q62 hlt;obtain⟨X,hX,hro⟩:=hrg k _ hr;have hXe:X=strip (ev st.vars p.2):=by simp only[q79,hk,q121,qr]at hX;exact hX.symm
  subst hXe;have hk2:(ops.toList.map (·.2))[k]?=some p.2:=by simp[hk]
  exact⟨_,hr,hev p.2 (rH _ k _ ha hk2),hro⟩
 have hcsz:∀p∈ops.toList,(a.eval p.2).cells.size=sz:=by intro p hp;obtain⟨k,hk⟩:=q116 hp;obtain⟨r,h1,h2,h3⟩:=hrv k p hk;have:=(kp h.heap rfl h2 h3).1;rw[hφ r (List.mem_of_getElem? h1)]at this;simpa using this
 let us:List Value:=ops.toList.flatMap fun p=>(a.eval p.2).cells.toList;have hus:us=(ops.toList.map fun p=>(a.eval p.2).cells.toList).flatMap id:=by simp[us,q281]
 obtain⟨husl,hrun⟩:us.length=n*sz/\(execOp a.eval o).run P w=.ok (.value (.slice (some ⟨w.heap.size,0,none⟩) n n)) (w.alloc (.cells us.toArray e)):=F3 (w:=w) ho hu hsz hi hzv hzl hord hbig hlen hcsz;have hb:∀b,cI (.slice (some ⟨w.heap.size,0,none⟩) n n)=some b->w.heap.size<=b:=fun b hb=>by simp[cI]at hb;omega
 have hm:=h.qA ht (eF w (.cells us.toArray e)) (v:=.slice (some ⟨w.heap.size,0,none⟩) n n) hb (o:=.arr e rows);have hnm:n<=maxLen:=by have:n*1<=n*sz:=Nat.mul_le_mul_left _ hpos;simp only[maxLen];omega
 have hf:=h.fresh hd ht (eF w (.cells us.toArray e)) (v:=.slice (some ⟨w.heap.size,0,none⟩) n n) hb (o:=.arr e rows) ⟨i,us,hi,by rw[bp,hrl',hinf];exact⟨husl,.inr ⟨w.heap.size,n,us.toArray,rfl,q95 _,heap_alloc_new w _,q92 _,hnm,by simpa using husl,by rw[<-husl];simp⟩⟩,fun r hr=>by rw[hinf];exact hφ r hr,fun k j r p hr hp=>by
  have hlt:k<ops.toList.length:=by rw[hlen,<-hrl'];exact(q63.1 hr).1
  have hk:ops.toList[k]?=some ops.toList[k]:=q62 hlt;obtain⟨r',h1,h2,h3⟩:=hrv k _ hk;rw[hr]at h1;injection h1 with h1;subst h1;have hc:=kp h.heap rfl h2 h3;obtain⟨c,hc1,hc2,hc3⟩:=hc.2 j p hp;have hj:j<sz:=by rw[<-hφ r (List.mem_of_getElem? hr)];exact(q63.1 hp).1
  refine⟨c,?_,hc2,hc3.mono hm.1⟩;rw[hus,hinf,qZ sz _ k j (fun q hq=>by obtain⟨p',hp',rfl⟩:=q83.1 hq;simpa using hcsz p' hp') hj];rw[q79,hk];simpa using hc1⟩;rw[cT];have hp:=hf.put (d:=some d) (r:=fL β d (.slice (some ⟨w.heap.size,0,none⟩) n n) d) (v:=.own d) (fun s hs=>by injection hs with hs;omega) (.own d (cD.2 (.inl rfl)));rw[bp]at hp;exact⟨_,_,hrun,_,hp⟩
def Rel.grow {w':World} (h:Rel P S0 L B0 w0 N st a w β) (hg:w.grownBy w' none):Rel P S0 L B0 w0 N st a w' β/\(∀b,bn S0 w0.heap.size β st.aa w b->bn S0 w0.heap.size β st.aa w' b/\w'.heap[b]?=w.heap[b]?):=by have hsame:∀b,b<w.heap.size->w'.heap[b]?=w.heap[b]?:=fun b hb=>hg.block b hb (by simp);have hm:∀b,bn S0 w0.heap.size β st.aa w b->bn S0 w0.heap.size β st.aa w' b/\w'.heap[b]?=w.heap[b]?:=fun b hb=>⟨⟨hb.1,q97 hb.2.1 hg.size,hb.2.2⟩,hsame b hb.2.1⟩;have hD:∀s,aE st.aa s->aE st.aa s/\β s=β s:=fun s hs=>⟨hs,rfl⟩;exact⟨⟨h.size,h.defers,fun s=>(h.vars s).mono hm hD,⟨fun s o hs=>(h.heap.holds s o hs).mono hm hD rfl (fun b hb=>hsame b (h.lt ⟨o,hs⟩ hb)),h.heap.inj⟩,h.old,h.uL,h.Ar,⟨hg.os.trans h.cu.os,hg.tape.trans h.cu.tape,hg.output.trans h.cu.output,q113 h.cu.size hg.size,fun b h1 h2=>(hsame b (by have:=h.cu.size;omega)).trans (h.cu.block b h1 h2)⟩⟩,hm⟩
def TR {t e:TypeId}{ops:Array (Nat×Operand)} (ho:o.op=.buildSlice t n ops) (hu:P.underlying t=some (.slice e)) (hsz:c7 P e=some sz) (hz:eB P e=some zs) (hord:ops.toList.map (·.1)=List.range n) (hbig:n*sz<=2^24) (hzl:zs.length=sz) (hpos:0<sz) (h:Rel P S0 L B0 w0 N st a w β) (hev:∀z:Operand,asks (ev st.vars z)->RV P (bn S0 w0.heap.size β st.aa w) w β (aE st.aa) (a.eval z) (strip (ev st.vars z))) (ha:aw ((ops.toList.map (·.2)).map (ev st.vars))) (hrows:rowsOf (((ops.toList.map (·.2)).map (ev st.vars)).map strip)=some rows) (hφ:∀r∈rows,r.length=sz):∃r w',(execOp a.eval o).run P w=.ok (.value r) w'/\Rel P S0 L B0 w0 N st a w' β/\RV P (bn S0 w0.heap.size β st.aa w') w' β (aE st.aa) r (.pv (.ro rows)):=by
 obtain⟨inf,hi,hinf⟩:=jz hsz;obtain⟨i,zv,hi',hzv,hzs,rfl⟩:=eP hz;have:i=inf:=by rw[hi]at hi';injection hi' with hi';exact hi'.symm
 subst this;have hlen:ops.toList.length=n:=by have:=congrArg List.length hord;simpa using this
 obtain⟨hrl,hrg⟩:=qd _ rows hrows;have hrl':rows.length=n:=by rw[hrl];simp[hlen]
 have hrv:∀(k:Nat) (p:Nat×Operand),ops.toList[k]?=some p->∃r,rows[k]?=some r/\RV P (bn S0 w0.heap.size β st.aa w) w β (aE st.aa) (a.eval p.2) (strip (ev st.vars p.2))/\rowOf (strip (ev st.vars p.2))=some r:=by
  intro k p hk;have hlt:k<rows.length:=by rw[hrl',<-hlen];exact(q63.1 hk).1
  have hr:rows[k]?=some rows[k]:=q62 hlt;obtain⟨X,hX,hro⟩:=hrg k _ hr;have hXe:X=strip (ev st.vars p.2):=by simp only[q79,hk,q121,qr]at hX;exact hX.symm
  subst hXe;have hk2:(ops.toList.map (·.2))[k]?=some p.2:=by simp[hk]
  exact⟨_,hr,hev p.2 (rH _ k _ ha hk2),hro⟩
 have hcsz:∀p∈ops.toList,(a.eval p.2).cells.size=sz:=by intro p hp;obtain⟨k,hk⟩:=q116 hp;obtain⟨r,h1,h2,h3⟩:=hrv k p hk;have:=(kp h.heap rfl h2 h3).1;rw[hφ r (List.mem_of_getElem? h1)]at this;simpa using this
 let us:List Value:=ops.toList.flatMap fun p=>(a.eval p.2).cells.toList;have hus:us=(ops.toList.map fun p=>(a.eval p.2).cells.toList).flatMap id:=by simp[us,q281]
 obtain⟨husl,hrun⟩:us.length=n*sz/\(execOp a.eval o).run P w=.ok (.value (.slice (some ⟨w.heap.size,0,none⟩) n n)) (w.alloc (.cells us.toArray e)):=F3 (w:=w) ho hu hsz hi hzv hzl hord hbig hlen hcsz;obtain⟨hR,hm⟩:=h.grow (eF w (.cells us.toArray e));refine⟨_,_,hrun,hR,.pv _ _ ?_⟩;have hcell:∀k j,k<rows.length->j<sz->∃(r:List PV) (p:PV) (c:Value),rows[k]?=some r/\r[j]?=some p/\us[k*sz+j]?=some c/\c.oneCell'=true/\dA (bn S0 w0.heap.size β st.aa w) w c p:=by
  intro k j hkl hj;have hlt:k<ops.toList.length:=by omega
  have hk:ops.toList[k]?=some ops.toList[k]:=q62 hlt;obtain⟨r,h1,h2,h3⟩:=hrv k _ hk;have hrj:j<r.length:=by rw[hφ r (List.mem_of_getElem? h1)];exact hj
  have hc:=kp h.heap rfl h2 h3;obtain⟨c,hc1,hc2,hc3⟩:=hc.2 j r[j] (q62 hrj);refine⟨r,r[j],c,h1,q62 hrj,?_,hc2,hc3⟩;rw[hus,qZ sz _ k j (fun q hq=>by obtain⟨p',hp',rfl⟩:=q83.1 hq;simpa using hcsz p' hp') hj];rw[q79,hk];simpa using hc1
 rw[<-hrl'];refine .ro ⟨w.heap.size,0,none⟩ rows.length rows sz (fun k j=>us.getD (k*sz+j) .nilIface) ⟨.inr h.cu.size,?_,?_⟩ (q92 _) hφ (fun k j hk hj=>?_) (fun k j r p hr hp=>?_) (fun k j r p hr hp=>?_);·show w.heap.size<(w.heap.push _).size;simp
 ·rintro⟨s,o',hs,hb⟩;exact Nat.lt_irrefl _ (h.lt ⟨o',hs⟩ hb)
 ·obtain⟨r,p,c,_,_,hc,_⟩:=hcell k j hk hj;rw[q100];show World.cell? _ _=_;simp only[World.cell?,heap_alloc_new,q80,hc];simp[hc]
 ·have hk:=(q63.1 hr).1;have hj:j<sz:=by rw[<-hφ r (List.mem_of_getElem? hr)];exact(q63.1 hp).1
  obtain⟨r',p',c,h1,h2,hc,hone,_⟩:=hcell k j hk hj;simp only[q80,hc,q101];exact hone
 ·have hk:=(q63.1 hr).1;have hj:j<sz:=by rw[<-hφ r (List.mem_of_getElem? hr)];exact(q63.1 hp).1
  obtain⟨r',p',c,h1,h2,hc,_,hv⟩:=hcell k j hk hj;rw[hr]at h1;injection h1 with h1;subst h1;rw[hp]at h2;injection h2 with h2;subst h2;simp only[q80,hc,q101];exact hv.mono hm
def SA {src dst e:TypeId}{x:Operand} (ho:o.op=.convert src dst x) (hs:P.underlying src=some .string) (hd:P.underlying dst=some (.slice e)) (he:P.underlying e=some (.int .u8)) (h:Rel P S0 L B0 w0 N st a w β) {l:List UInt8} (hx:a.eval x=.string ⟨l.toArray⟩):∃r w',(execOp a.eval o).run P w=.ok (.value r) w'/\Rel P S0 L B0 w0 N st a w' β/\RV P (bn S0 w0.heap.size β st.aa w') w' β (aE st.aa) r (.pv (.ro (bytesRow l))):=by
 have hsz:(⟨l.toArray⟩:ByteArray).size=l.length:=by show l.toArray.size=_;simp
 have hrun:=run_bytes_of_string (P:=P) w src dst e ⟨l.toArray⟩ hs hd he;rw[hsz]at hrun;generalize hob:Obj.cells (_root_.Go.bytesRow ⟨l.toArray⟩ (grownCap w l.length 0 e)) e ((_root_.Go.bytesRow ⟨l.toArray⟩ (grownCap w l.length 0 e)).size,(_root_.Go.bytesRow ⟨l.toArray⟩ (grownCap w l.length 0 e)).size+1)=ob at hrun;have hg:w.grownBy (w.drew.alloc ob) none:=⟨rfl,rfl,rfl,by simp,fun k hk _=>q197 w.drew _ k hk⟩;obtain⟨hR,hm⟩:=h.grow hg;have hlen:(bytesRow l).length=l.length:=by simp[bytesRow]
 have hrun2:(execOp a.eval o).run P w=.ok (.value (.slice (some ⟨w.heap.size,0,none⟩) l.length (grownCap w l.length 0 e))) (w.drew.alloc ob):=by simp[execOp,ho,hx,hrun]
 refine⟨_,_,hrun2,hR,.pv _ _ ?_⟩;have hat:∀i,i<l.length->(bytesRow l)[i]?=some [.int .u8 ((l.getD i 0).toNat:Int)]:=by intro i hi;simp[bytesRow,hi]
 have hge:l.length<=grownCap w l.length 0 e:=grownCap_ge w _ 0 e;rw[<-hlen]at hge;rw[<-hlen];refine .ro ⟨w.heap.size,0,none⟩ _ (bytesRow l) 1 (fun k _=>.int .u8 ((l.getD k 0).toNat:Int)) ⟨.inr h.cu.size,?_,?_⟩ ?_ (fun r hr=>?_) (fun k j hk hj=>?_) (fun k j r p hr hp=>rfl) (fun k j r p hr hp=>?_);·show w.heap.size<(w.heap.push _).size;simp
 ·rintro⟨s,o',hs,hb⟩;exact Nat.lt_irrefl _ (h.lt ⟨o',hs⟩ hb)
 ·rw[hlen]at hge |-;exact hge
 ·simp only[bytesRow,q83]at hr;obtain⟨c,_,rfl⟩:=hr;rfl
 ·rw[hlen]at hk;have hj:j=0:=by omega
  subst hj;rw[q100];show World.cell? _ _=_;have hnew:(w.drew.alloc ob).heap[w.heap.size]?=some ob:=heap_alloc_new w.drew _;simp only[World.cell?,hnew];rw[<-hob];show(_root_.Go.bytesRow ⟨l.toArray⟩ (grownCap w l.length 0 e))[0+(k*1+0)]?=_;simp[_root_.Go.bytesRow,hk,Array.getElem?_append]
 ·have hk:=(q63.1 hr).1;rw[hlen]at hk;rw[hat k hk]at hr;cases hr;have hj:j<1:=(q63.1 hp).1;have hj:j=0:=by omega
  subst hj;cases hp;exact .int _ _
end
end Go.Proofs.YtifcndkhigakfaaGreat.Ab
