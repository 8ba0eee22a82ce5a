/- slices.Sort at uint64: rows as arrays; insertionSortOrdered, in general. -/
import Derived.Test.YtifcndkhigakfaaGreatY12
import Derived.Test.YtifcndkhigakfaaGreatY14
import Derived.Sort.Defs
import Derived.Sort.WalkC
import Derived.Sort.WalkC4
import Derived.Sort.WalkA6
set_option linter.unusedVariables false
set_option linter.unusedSimpArgs false
set_option linter.unnecessarySimpa false
set_option maxHeartbeats 40000000
set_option maxRecDepth 100000
set_option linter.defProp false
namespace Go.Proofs.YtifcndkhigakfaaGreat.Ab
open Go Go.RowKit
def q105:=@Array.size_setIfInBounds
def q152:=@Int.tdiv_eq_ediv_of_nonneg
def q259:=@UInt64.toNat_ofNat'
def q263:=@Int.natCast_nonneg
def q286:=@BitVec.toNat_xor
end Go.Proofs.YtifcndkhigakfaaGreat.Ab
namespace Go.Proofs.YtifcndkhigakfaaGreat.Ab
open Go Go.RowKit Go.Sort R
variable {ys:List AV}{φ:Prop}{r:AV}{i:Nat}{F:Array Int->Nat->Nat->Array Int}
@[simp] noncomputable def Yq:List AV->Option (Prop×AV)|[.pv (.int .u64 a)]=>some (True,.pv (.bool false))|_=>none
def abk:aL Tryz.prog 154 Yq:=by
 intro ys φ r h hφ;unfold Yq at h;split at h;·cases h;refine aq ah (by kernel_rfl) (by conv=>lhs;reduce) (by simp) ?_;simp
 ·cases h
@[simp] noncomputable def Pq:List AV->Option (Prop×AV)|[.pv (.int k a),.pv (.int m b)]=>some (k=.u64/\m=.u64,.pv (.bool (ltInt a b)))|_=>none
def pV:aL Tryz.prog 257 Pq:=by
 intro ys φ r h hφ;unfold Pq at h;split at h;·cases h;obtain⟨rfl,rfl⟩:=hφ;refine aq (ag abk ah) (by kernel_rfl) (by conv=>lhs;reduce) (by simp) ?_;simp[ltInt]
 ·cases h
def rA (d:Array Int):List (List PV):=b6 d.toList
@[simp] def GZ (d:Array Int):(rA d).length=d.size:=by simp[rA]
def gA (d:Array Int) (i:Nat):Int:=d[i]!
def bC {d:Array Int} (h:i<d.size):rowAt (rA d) (i:Int)=[.int .u64 (gA d i)]:=by have:=jE (l:=d.toList) (i:=i) (by simpa using h);unfold rA gA;rw[this,getElem!_pos d i h];rfl
@[simp] def rA_set (d:Array Int) (i:Nat) (x:Int):(rA d).set i [.int .u64 x]=rA (d.setIfInBounds i x):=by unfold rA b6;rw[Array.toList_setIfInBounds,q219];rfl
def DN (l:List Int):b6 l=rA l.toArray:=rfl
def size_swp (d:Array Int) (i j:Nat):(swp d i j).size=d.size:=by simp[swp]
noncomputable def Ia (F:Array Int->Nat->Nat->Array Int):List AV->Option (Prop×AV)|[.aN [.fr e a],.pv (.int .i64 p),.pv (.int .i64 q)]=>if e=22 then(dec ez a).map fun l=>(0<=p/\p<=q/\q<=(l.length:Int)/\l.length<=1000000,.bI 0 [.aN [],.fr 22 (rA (F l.toArray p.toNat q.toNat))]) else none|_=>none
def jB (d:Array Int):dec ez (rA d)=some d.toList:=oy _
@[simp] def Ginp_eq (F:Array Int->Nat->Nat->Array Int) (e:TypeId) (d:Array Int) (p q:Int):Ia F [.aN [.fr e (rA d)],.pv (.int .i64 p),.pv (.int .i64 q)]=if e=22 then some (0<=p/\p<=q/\q<=(d.size:Int)/\d.size<=1000000,.bI 0 [.aN [],.fr 22 (rA (F d p.toNat q.toNat))]) else none:=by show(if e=22 then(dec ez (rA d)).map _ else none)=_;rw[jB];simp
def vP  (h:Ia F ys=some (φ,r)):∃(d:Array Int) (p q:Int),ys=[.aN [.fr 22 (rA d)],.pv (.int .i64 p),.pv (.int .i64 q)]/\φ=(0<=p/\p<=q/\q<=(d.size:Int)/\d.size<=1000000)/\r=.bI 0 [.aN [],.fr 22 (rA (F d p.toNat q.toNat))]:=by
 unfold Ia at h;split at h
 ·split at h;·rename_i e;subst e;obtain⟨l,hl,h⟩:=q900.1 h;cases h;cases eg hl;exact⟨l.toArray,_,_,by rw[DN],by simp,rfl⟩
  ·cases h
 ·cases h
def pA (a:Nat):∀(j:Nat) (d:Array Int),(insInner ltInt a j d).size=d.size
 |0,d=>rfl|j+1,d=>by
  unfold insInner;split;·rw[pA a j,size_swp]
  ·rfl
def Q5:eE Tryz.prog 251 (Ia (insertionSort ltInt)):=by
 intro ys φ r h hφ;obtain⟨d,p,q,rfl,rfl,rfl⟩:=vP h;obtain⟨h1,h2,h3,h4⟩:=hφ;obtain⟨a,rfl⟩:∃a:Nat,p=a:=⟨p.toNat,by omega⟩;obtain⟨b,rfl⟩:∃b:Nat,q=b:=⟨q.toNat,by omega⟩;rw[q66,q66];refine cC (ag pV ah) (by kernel_rfl) (by conv=>lhs;reduce) (by simp) rfl (by simp) ?_;have w0:IntKind.i64.wrap ((a:Int)+1)=(a:Int)+1:=wrap_i64 (by omega);generalize hW:insertionSort ltInt d a b=W;simp[w0];refine au (fun x:Nat×Array Int=>(a+1<=x.1/\x.1<=max (a+1) b)/\x.2.size=d.size/\insOuter ltInt a b x.1 x.2=W) (fun x=>⟨[(0,.own 999),(1,.pv (.int .i64 (a:Int))),(2,.pv (.int .i64 (b:Int))),(6,.pv (.int .i64 (x.1:Int)))],[(999,.arr 22 (rA x.2))]⟩) (fun x=>max (a+1) b-x.1) [] (a+1,d) ⟨⟨q92 _,Nat.le_max_left _ _⟩,rfl,hW⟩ ?_ ?_;·simp
 ·rintro⟨i,D⟩ ⟨⟨hi1,hi2⟩,hD,hI⟩;have hi1:a+1<=i:=hi1;have hi2:i<=max (a+1) b:=hi2;have hD:D.size=d.size:=hD;have hI:insOuter ltInt a b i D=W:=hI;have w2:IntKind.i64.wrap ((i:Int)+1)=(i:Int)+1:=wrap_i64 (by omega);by_cases hlt:i<b
  ·unfold insOuter at hI;rw[if_pos hlt]at hI;obtain⟨T,hT⟩:∃T,T=insInner ltInt a i D:=⟨_,rfl⟩;rw[<-hT]at hI;have hTs:T.size=d.size:=by rw[hT,pA,hD]
   apply ae;·simp[hlt];exact⟨rfl,rfl⟩
   rw[bh];rw[aR];apply ae;·simp;exact⟨rfl,rfl⟩
   rw[aR];refine au (fun y:Nat×Array Int=>(a<=y.1/\y.1<=i)/\y.2.size=d.size/\insInner ltInt a y.1 y.2=T) (fun y=>⟨[(0,.own 999),(1,.pv (.int .i64 (a:Int))),(2,.pv (.int .i64 (b:Int))),(6,.pv (.int .i64 (i:Int))),(7,.pv (.int .i64 (y.1:Int)))],[(999,.arr 22 (rA y.2))]⟩) (fun y=>y.1) [] (i,D) ⟨⟨by omega,q92 _⟩,hD,hT.symm⟩ ?_ ?_;·simp
   ·rintro⟨j,E⟩ ⟨⟨hj1,hj2⟩,hE,hJ⟩;have hj1:a<=j:=hj1;have hj2:j<=i:=hj2;have hE:E.size=d.size:=hE;have hJ:insInner ltInt a j E=T:=hJ;have q3:(j:Int)<(E.size:Int):=by omega
    have r1:=bC (d:=E) (i:=j) (by omega);cases j with|zero=>
     have ha0:a=0:=by omega
     subst ha0;have hJ:E=T:=hJ;subst hJ;have w3:IntKind.i64.wrap (-1)=-1:=wrap_i64 (by omega);have r2:rowAt (rA E) (-1)=[.int .u64 (gA E 0)]:=bC (d:=E) (i:=0) (by omega);have r1:rowAt (rA E) 0=[.int .u64 (gA E 0)]:=r1;simp[w3,r1,r2,w2];exact⟨i+1,E,⟨by omega,hE,hI⟩,⟨by omega,rfl⟩,by omega⟩|succ k=>
     have w3:IntKind.i64.wrap ((k:Int)+1-1)=(k:Int):=by rw[wrap_i64 (by omega)];omega
     have w4:IntKind.i64.wrap (k:Int)=(k:Int):=wrap_i64 (by omega);have r1:rowAt (rA E) ((k:Int)+1)=[.int .u64 (gA E (k+1))]:=by simpa using r1
     have r2:=bC (d:=E) (i:=k) (by omega);have q2:(0:Int)<=(k:Int)+1:=by omega
     have q3:(k:Int)+1<(E.size:Int):=by omega
     have q4:(k:Int)<(E.size:Int):=by omega
     unfold insInner at hJ;by_cases hja:a<k+1
     ·have q1:(a:Int)<(k:Int)+1:=by omega
      cases hl:ltInt E[k+1]! E[k]! with|true=>have hl2:ltInt (gA E (k+1)) (gA E k)=true:=hl;rw[hl,if_pos (by simp;omega)]at hJ;have r3:=bC (d:=E.setIfInBounds (k+1) (gA E k)) (i:=k) (by rw[q105];omega);simp[w3,w4,r1,r2,r3,q1,q2,q3,q4,hl2];exact⟨by omega,k,swp E (k+1) k,⟨by omega,by rw[size_swp,hE],hJ⟩,⟨rfl,rfl⟩,by omega⟩|false=>have hl2:ltInt (gA E (k+1)) (gA E k)=false:=hl;rw[hl,if_neg (by simp)]at hJ;subst hJ;simp[w3,w4,r1,r2,q1,q2,q3,q4,hl2,w2];exact⟨by omega,i+1,E,⟨by omega,hE,hI⟩,⟨by omega,rfl⟩,by omega⟩
     ·have q1:¬(a:Int)<(k:Int)+1:=by omega
      rw[if_neg (by simp;omega)]at hJ;subst hJ;simp[w3,w4,r1,r2,q1,q2,q3,q4,w2];exact⟨i+1,E,⟨by omega,hE,hI⟩,⟨by omega,rfl⟩,by omega⟩
  ·unfold insOuter at hI;rw[if_neg hlt]at hI;subst hI;simp[hlt]
def m6 {d:Array Int} (h:d.size<=i):rowAt (rA d) (i:Int)=[]:=by unfold rowAt;rw[q66,q80,q134 (by rw[GZ];exact h)];rfl
def ke (f:Fr):f.st=⟨look f.vs,ab f.os⟩:=rfl
noncomputable def T1:List AV->Option (Prop×AV)|[.aN [.fr e a],.pv (.int .i64 lo),.pv (.int .i64 hi),.pv (.int .i64 fi)]=>if e=22 then(dec ez a).map fun l=>((0<=lo/\lo<=1000000)/\0<=hi/\0<=fi/\fi+hi<=(l.length:Int)/\l.length<=1000000,.bI 0 [.aN [],.fr 22 (rA (siftDown ltInt hi.toNat fi.toNat lo.toNat l.toArray))]) else none|_=>none
@[simp] def Gsft_eq (e:TypeId) (d:Array Int) (lo hi fi:Int):T1 [.aN [.fr e (rA d)],.pv (.int .i64 lo),.pv (.int .i64 hi),.pv (.int .i64 fi)]=if e=22 then some ((0<=lo/\lo<=1000000)/\0<=hi/\0<=fi/\fi+hi<=(d.size:Int)/\d.size<=1000000,.bI 0 [.aN [],.fr 22 (rA (siftDown ltInt hi.toNat fi.toNat lo.toNat d))]) else none:=by show(if e=22 then(dec ez (rA d)).map _ else none)=_;rw[jB];simp
def c_sft:eE Tryz.prog 262 T1:=by
 intro ys φ r h hφ;unfold T1 at h;split at h
 ·rename_i e ra lo hi fi;split at h
  ·rename_i he;subst he;obtain⟨l,hl,h⟩:=q900.1 h;cases h;cases eg hl;obtain⟨⟨h1,h2⟩,h3,h4,h5,h6⟩:=hφ;obtain⟨lo,rfl⟩:∃a:Nat,lo=a:=⟨lo.toNat,by omega⟩;obtain⟨hi,rfl⟩:∃a:Nat,hi=a:=⟨hi.toNat,by omega⟩;obtain⟨fi,rfl⟩:∃a:Nat,fi=a:=⟨fi.toNat,by omega⟩;rw[q66,q66,q66,DN];obtain⟨d,hd⟩:∃d,d=l.toArray:=⟨_,rfl⟩;have hds:d.size=l.length:=by rw[hd];simp
   rw[<-hd];generalize hW:siftDown ltInt hi fi lo d=W;refine cC (ag pV ah) (by kernel_rfl) (by conv=>lhs;reduce) (by simp) rfl (by simp) ?_;simp;refine au (fun x:Nat×Array Int=>x.1<=1000000/\x.2.size=l.length/\siftDown ltInt hi fi x.1 x.2=W) (fun x=>⟨[(0,.own 999),(1,.pv (.int .i64 (lo:Int))),(2,.pv (.int .i64 (hi:Int))),(3,.pv (.int .i64 (fi:Int))),(8,.pv (.int .i64 (x.1:Int)))],[(999,.arr 22 (rA x.2))]⟩) (fun x=>hi-x.1) [] (lo,d) ⟨by show lo<=_;omega,hds,hW⟩ ?_ ?_;·simp
   ·rintro⟨i,D⟩ ⟨hi1,hD,hI⟩;have hi1:i<=1000000:=hi1;have hD:D.size=l.length:=hD;have hI:siftDown ltInt hi fi i D=W:=hI;have w1:IntKind.i64.wrap (2*(i:Int))=2*(i:Int):=wrap_i64 (by omega);have w2:IntKind.i64.wrap (2*(i:Int)+1)=2*(i:Int)+1:=wrap_i64 (by omega);have w3:IntKind.i64.wrap (2*(i:Int)+1+1)=2*(i:Int)+2:=by rw[wrap_i64 (by omega)];omega
    obtain⟨r0,e0⟩:∃r0,r0=fi+i:=⟨_,rfl⟩;obtain⟨c1,e1⟩:∃c1,c1=fi+(2*i+1):=⟨_,rfl⟩;obtain⟨c2,e2⟩:∃c2,c2=fi+(2*i+2):=⟨_,rfl⟩;have w4:IntKind.i64.wrap ((fi:Int)+(2*(i:Int)+1))=(c1:Int):=by rw[wrap_i64 (by omega)];omega
    have w5:IntKind.i64.wrap ((c1:Int)+1)=(c2:Int):=by rw[wrap_i64 (by omega)];omega
    have w6:IntKind.i64.wrap ((fi:Int)+(i:Int))=(r0:Int):=by rw[wrap_i64 (by omega)];omega
    have w7:IntKind.i64.wrap ((fi:Int)+(2*(i:Int)+2))=(c2:Int):=by rw[wrap_i64 (by omega)];omega
    unfold siftDown at hI;rw[<-e0,<-e1,<-e2,show c1+1=c2 by omega]at hI;by_cases hc:2*i+1>=hi
    ·rw[dif_pos hc]at hI;subst hI;have hc2:(hi:Int)<=2*(i:Int)+1:=by omega
     simp[w1,w2,hc2]
    ·rw[dif_neg hc]at hI;have hc2:¬(hi:Int)<=2*(i:Int)+1:=by omega
     have q1:r0<D.size:=by omega
     have r1:=bC q1;have q2:c1<D.size:=by omega
     have r2:=bC q2;rw[ke,aR];apply ae;·simp[w1,w2];exact⟨rfl,rfl⟩
     apply ae;·simp[hc2];exact⟨rfl,rfl⟩
     by_cases hg1:2*i+2<hi
     ·have g1:2*(i:Int)+2<(hi:Int):=by omega
      have q4:c2<D.size:=by omega
      have r4:=bC q4;cases hg2:ltInt D[c1]! D[c2]! with
      |true=>
       have hg3:ltInt (gA D c1) (gA D c2)=true:=hg2;rw[if_pos (by rw[hg2];simp;omega),dif_pos hg1]at hI;apply ae;·simp[w3,w4,w5,g1,q2,q4,r2,r4,hg3];exact⟨rfl,rfl⟩
       cases hb:ltInt D[r0]! D[c2]! with|false=>have hb2:ltInt (gA D r0) (gA D c2)=false:=hb;rw[hb,if_pos (by simp)]at hI;subst hI;simp[w6,w7,q1,q4,r1,r4,hb2]|true=>
        have hb2:ltInt (gA D r0) (gA D c2)=true:=hb;rw[hb,if_neg (by simp)]at hI;have z1:=bC (d:=D.setIfInBounds r0 (gA D c2)) (i:=c2) (by rw[q105];omega);apply ae;·simp[w6,w7,q1,q4,r1,r4,hb2];exact⟨rfl,rfl⟩
        simp[w6,w7,q1,q4,r1,r4,z1];exact⟨2*i+2,swp D r0 c2,⟨by omega,by rw[size_swp,hD],hI⟩,⟨by omega,rfl⟩,by omega⟩
      |false=>
       have hg3:ltInt (gA D c1) (gA D c2)=false:=hg2;rw[if_neg (by rw[hg2];simp)]at hI;apply ae;·simp[w3,w4,w5,g1,q2,q4,r2,r4,hg3];exact⟨rfl,rfl⟩
       cases hb:ltInt D[r0]! D[c1]! with|false=>have hb2:ltInt (gA D r0) (gA D c1)=false:=hb;rw[hb,if_pos (by simp)]at hI;subst hI;simp[w6,w4,q1,q2,r1,r2,hb2]|true=>
        have hb2:ltInt (gA D r0) (gA D c1)=true:=hb;rw[hb,if_neg (by simp)]at hI;have z1:=bC (d:=D.setIfInBounds r0 (gA D c1)) (i:=c1) (by rw[q105];omega);apply ae;·simp[w6,w4,q1,q2,r1,r2,hb2];exact⟨rfl,rfl⟩
        simp[w6,w4,q1,q2,r1,r2,z1];exact⟨2*i+1,swp D r0 c1,⟨by omega,by rw[size_swp,hD],hI⟩,⟨by omega,rfl⟩,by omega⟩
     ·have g1:¬2*(i:Int)+2<(hi:Int):=by omega
      rw[if_neg (by simp;omega)]at hI;rcases q141 c2 D.size with q4|q4
      ·have r4:=bC q4;apply ae;·simp[w3,w4,w5,g1,q2,q4,r2,r4];exact⟨rfl,rfl⟩
       cases hb:ltInt D[r0]! D[c1]! with|false=>have hb2:ltInt (gA D r0) (gA D c1)=false:=hb;rw[hb,if_pos (by simp)]at hI;subst hI;simp[w6,w4,q1,q2,r1,r2,hb2]|true=>
        have hb2:ltInt (gA D r0) (gA D c1)=true:=hb;rw[hb,if_neg (by simp)]at hI;have z1:=bC (d:=D.setIfInBounds r0 (gA D c1)) (i:=c1) (by rw[q105];omega);apply ae;·simp[w6,w4,q1,q2,r1,r2,hb2];exact⟨rfl,rfl⟩
        simp[w6,w4,q1,q2,r1,r2,z1];exact⟨2*i+1,swp D r0 c1,⟨by omega,by rw[size_swp,hD],hI⟩,⟨by omega,rfl⟩,by omega⟩
      ·have r4:=m6 q4;apply ae;·simp[w3,w4,w5,g1,q2,r2,r4];exact⟨rfl,rfl⟩
       cases hb:ltInt D[r0]! D[c1]! with|false=>have hb2:ltInt (gA D r0) (gA D c1)=false:=hb;rw[hb,if_pos (by simp)]at hI;subst hI;simp[w6,w4,q1,q2,r1,r2,hb2]|true=>
        have hb2:ltInt (gA D r0) (gA D c1)=true:=hb;rw[hb,if_neg (by simp)]at hI;have z1:=bC (d:=D.setIfInBounds r0 (gA D c1)) (i:=c1) (by rw[q105];omega);apply ae;·simp[w6,w4,q1,q2,r1,r2,hb2];exact⟨rfl,rfl⟩
        simp[w6,w4,q1,q2,r1,r2,z1];exact⟨2*i+1,swp D r0 c1,⟨by omega,by rw[size_swp,hD],hI⟩,⟨by omega,rfl⟩,by omega⟩
  ·cases h
 ·cases h
def wx (hi fi:Nat):∀(n root:Nat) (d:Array Int),hi-root<=n->(siftDown ltInt hi fi root d).size=d.size:=by intro n;induction n with|zero=>intro root d h;unfold siftDown;rw[dif_pos (by omega)]|succ n ih=>
 intro root d h;unfold siftDown;split;·rfl
 ·split
  ·split;·rfl
   ·split;·rw[ih _ _ (by omega),size_swp]
    ·rfl
  ·split;·rfl
   ·rw[ih _ _ (by omega),size_swp]
def xX (hi fi:Nat):∀(k:Nat) (d:Array Int),(heapBuild ltInt hi fi k d).size=d.size|0,d=>rfl|k+1,d=>by unfold heapBuild;rw[xX hi fi k,wx hi fi hi k d (by omega)]
def T0:eE Tryz.prog 252 (Ia (heapSort ltInt)):=by
 intro ys φ r h hφ;obtain⟨d,p,q,rfl,rfl,rfl⟩:=vP h;obtain⟨h1,h2,h3,h4⟩:=hφ;obtain⟨a,rfl⟩:∃a:Nat,p=a:=⟨p.toNat,by omega⟩;obtain⟨b,rfl⟩:∃b:Nat,q=b:=⟨q.toNat,by omega⟩;rw[q66,q66];refine cC (bq (ks:=[2,0,0,0]) c_sft (by kernel_rfl) ah) (by kernel_rfl) (by conv=>lhs;reduce) (by simp) rfl (by simp) ?_;obtain⟨m,hm⟩:∃m,m=b-a:=⟨_,rfl⟩;have w0:IntKind.i64.wrap ((b:Int)-(a:Int))=(m:Int):=by rw[wrap_i64 (by omega)];omega
 have w1:IntKind.i64.wrap ((m:Int)-1)=(m:Int)-1:=wrap_i64 (by omega);obtain⟨k0,hk0⟩:∃k0,k0=(m-1)/2+1:=⟨_,rfl⟩;have w2:((m:Int)-1).tdiv 2=(k0:Int)-1:=by
  rcases q154 m with h0|h0
  ·have:k0=1:=by omega
   rw[h0,this];decide
  ·rw[q152 (by omega)];omega
 have w3:IntKind.i64.wrap ((k0:Int)-1)=(k0:Int)-1:=wrap_i64 (by omega);unfold heapSort;rw[<-hm,<-hk0];generalize hW:heapPop ltInt a m (heapBuild ltInt m a k0 d)=W;generalize hB:heapBuild ltInt m a k0 d=B at hW;apply ae;·simp;exact⟨rfl,rfl⟩
 apply ae;·simp;exact⟨rfl,rfl⟩
 apply ae;·simp[w0];exact⟨rfl,rfl⟩
 apply ae
 ·simp[w1,w2,w3];refine au (fun x:Nat×Array Int=>x.1<=k0/\x.2.size=d.size/\heapBuild ltInt m a x.1 x.2=B) (fun x=>⟨[(0,.own 999),(6,.pv (.int .i64 (a:Int))),(7,.pv (.int .i64 0)),(8,.pv (.int .i64 (m:Int))),(9,.pv (.int .i64 ((x.1:Int)-1)))],[(999,.arr 22 (rA x.2))]⟩) (fun x=>x.1) [] (k0,d) ⟨q92 _,rfl,hB⟩ ?_ ?_;·simp
  ·rintro⟨k,D⟩ ⟨hk,hD,hI⟩;have hk:k<=k0:=hk;have hD:D.size=d.size:=hD;have hI:heapBuild ltInt m a k D=B:=hI;cases k with|zero=>have hI:D=B:=hI;rw[hI];simp;exact⟨rfl,rfl⟩|succ k=>
    have hI:heapBuild ltInt m a k (siftDown ltInt m a k D)=B:=hI;have hs:=wx m a m k D (by omega);have v1:(k:Int)+1-1=(k:Int):=by omega
    have v2:IntKind.i64.wrap ((k:Int)-1)=(k:Int)-1:=wrap_i64 (by omega);have v3:(k:Int)<=1000000:=by omega
    have v4:(a:Int)+(m:Int)<=(D.size:Int):=by omega
    have v5:D.size<=1000000:=by omega
    simp[v1,v2,v3,v4,v5];exact⟨k,siftDown ltInt m a k D,⟨by omega,by rw[hs,hD],hI⟩,⟨rfl,rfl⟩,by omega⟩
 have hBs:B.size=d.size:=by rw[<-hB,xX]
 apply ae;·simp[w1];exact⟨rfl,rfl⟩
 rw[aR];refine au (fun x:Nat×Array Int=>x.1<=m/\x.2.size=d.size/\heapPop ltInt a x.1 x.2=W) (fun x=>⟨[(0,.own 999),(6,.pv (.int .i64 (a:Int))),(7,.pv (.int .i64 0)),(10,.pv (.int .i64 ((x.1:Int)-1)))],[(999,.arr 22 (rA x.2))]⟩) (fun x=>x.1) [] (m,B) ⟨q92 _,hBs,hW⟩ ?_ ?_;·simp
 ·rintro⟨k,D⟩ ⟨hk,hD,hI⟩;have hk:k<=m:=hk;have hD:D.size=d.size:=hD;have hI:heapPop ltInt a k D=W:=hI;cases k with|zero=>have hI:D=W:=hI;rw[hI];simp|succ k=>
   have hI:heapPop ltInt a k (siftDown ltInt k a 0 (swp D a (a+k)))=W:=hI;have hs:=wx k a k 0 (swp D a (a+k)) (by omega);have v1:(k:Int)+1-1=(k:Int):=by omega
   have v2:IntKind.i64.wrap ((k:Int)-1)=(k:Int)-1:=wrap_i64 (by omega);obtain⟨c,hc⟩:∃c,c=a+k:=⟨_,rfl⟩;rw[<-hc]at hI hs;have v3:IntKind.i64.wrap ((a:Int)+(k:Int))=(c:Int):=by rw[wrap_i64 (by omega)];omega
   have q1:a<D.size:=by omega
   have q2:c<D.size:=by omega
   have r1:=bC q1;have r2:=bC q2;have r3:=bC (d:=D.setIfInBounds a (gA D c)) (i:=c) (by rw[q105];omega);have v4:(a:Int)+(k:Int)<=(D.size:Int):=by omega
   have v5:D.size<=1000000:=by omega
   apply ae;·simp[v1];exact⟨rfl,rfl⟩
   rw[bh];rw[aR];apply ae;·simp[v1,v3,q1,q2,r1,r2,r3];exact⟨rfl,rfl⟩
   rw[show(D.setIfInBounds a (gA D c)).setIfInBounds c (gA D a)=swp D a c from rfl];have v6:(swp D a c).size=D.size:=size_swp _ _ _;simp[v1,v2,v4,v5,v6];exact⟨k,siftDown ltInt k a 0 (swp D a c),⟨by omega,by rw[hs,size_swp,hD],hI⟩,⟨rfl,rfl⟩,by omega⟩
def abm:eE Tryz.prog 255 (Ia reverseRange):=by
 intro ys φ r h hφ;obtain⟨d,p,q,rfl,rfl,rfl⟩:=vP h;obtain⟨h1,h2,h3,h4⟩:=hφ;obtain⟨a,rfl⟩:∃a:Nat,p=a:=⟨p.toNat,by omega⟩;obtain⟨b,rfl⟩:∃b:Nat,q=b:=⟨q.toNat,by omega⟩;rw[q66,q66];refine cC ah (by kernel_rfl) (by conv=>lhs;reduce) (by simp) rfl (by simp) ?_;have w0:IntKind.i64.wrap ((b:Int)-1)=(b:Int)-1:=wrap_i64 (by omega);unfold reverseRange;generalize hW:reverseLoop a (b-1) d=W;simp[w0];refine au (fun x:(Nat×Nat)×Array Int=>(a<=x.1.1/\x.1.1<=b)/\x.1.2<=b/\x.2.size=d.size/\reverseLoop x.1.1 (x.1.2-1) x.2=W) (fun x=>⟨[(0,.own 999),(6,.pv (.int .i64 (x.1.1:Int))),(7,.pv (.int .i64 ((x.1.2:Int)-1)))],[(999,.arr 22 (rA x.2))]⟩) (fun x=>x.1.2) [] ((a,b),d) ⟨⟨q92 _,by show a<=b;omega⟩,q92 _,rfl,hW⟩ ?_ ?_;·simp
 ·rintro⟨⟨i,j⟩,D⟩ ⟨⟨hi1,hi2⟩,hj,hD,hI⟩;have hi1:a<=i:=hi1;have hi2:i<=b:=hi2;have hj:j<=b:=hj;have hD:D.size=d.size:=hD;have hI:reverseLoop i (j-1) D=W:=hI;unfold reverseLoop at hI;by_cases hlt:i<j-1
  ·rw[if_pos hlt]at hI;obtain⟨c,hc⟩:∃c,c=j-1:=⟨_,rfl⟩;rw[<-hc]at hI;have e1:(j:Int)-1=(c:Int):=by omega
   have g1:i<c:=by omega
   have w1:IntKind.i64.wrap ((i:Int)+1)=(i:Int)+1:=wrap_i64 (by omega);have w2:IntKind.i64.wrap ((c:Int)-1)=(c:Int)-1:=wrap_i64 (by omega);have q1:i<D.size:=by omega
   have q2:c<D.size:=by omega
   have r1:=bC q1;have r2:=bC q2;have r3:=bC (d:=D.setIfInBounds i (gA D c)) (i:=c) (by rw[q105];omega);simp[e1,g1,w1,w2,q1,q2,r1,r2,r3];exact⟨i+1,c,swp D i c,⟨by omega,by omega,by rw[size_swp,hD],hI⟩,⟨⟨by omega,rfl⟩,rfl⟩,by omega⟩
  ·rw[if_neg hlt]at hI;subst hI;have g1:¬(i:Int)<(j:Int)-1:=by omega
   simp[g1]
def nQ {rows:List (List PV)}{l:List Int} (h:dec ez rows=some l):∃d:Array Int,rows=rA d/\l=d.toList:=⟨l.toArray,by rw[eg h,DN],by simp⟩
noncomputable def Go2:List AV->Option (Prop×AV)|[.pv (.ro a),.pv (.int .i64 p),.pv (.int .i64 q),.aN [.bx [.pv (.int .i64 s)]]]=>(dec ez a).map fun l=>((0<=p/\p<(l.length:Int))/\(0<=q/\q<(l.length:Int))/\(0<=s/\s<=1000)/\l.length<=1000000,.bI 0 [.aN [.pv (.int .i64 ((order2 ltInt l.toArray p.toNat q.toNat s.toNat).1:Int)),.pv (.int .i64 ((order2 ltInt l.toArray p.toNat q.toNat s.toNat).2.1:Int))],.bx [.pv (.int .i64 ((order2 ltInt l.toArray p.toNat q.toNat s.toNat).2.2:Int))]])|_=>none
@[simp] def Go2_eq (d:Array Int) (p q s:Int):Go2 [.pv (.ro (rA d)),.pv (.int .i64 p),.pv (.int .i64 q),.aN [.bx [.pv (.int .i64 s)]]]=some ((0<=p/\p<(d.size:Int))/\(0<=q/\q<(d.size:Int))/\(0<=s/\s<=1000)/\d.size<=1000000,.bI 0 [.aN [.pv (.int .i64 ((order2 ltInt d p.toNat q.toNat s.toNat).1:Int)),.pv (.int .i64 ((order2 ltInt d p.toNat q.toNat s.toNat).2.1:Int))],.bx [.pv (.int .i64 ((order2 ltInt d p.toNat q.toNat s.toNat).2.2:Int))]]):=by show(dec ez (rA d)).map _=_;rw[jB];simp
def c_ord:eE Tryz.prog 267 Go2:=by
 intro ys φ r h hφ;unfold Go2 at h;split at h
 ·rename_i ra p q s;obtain⟨l,hl,h⟩:=q900.1 h;cases h;obtain⟨d,rfl,rfl⟩:=nQ hl;obtain⟨⟨h1,h2⟩,⟨h3,h4⟩,⟨h5,h6⟩,h7⟩:=hφ;obtain⟨a,rfl⟩:∃a:Nat,p=a:=⟨p.toNat,by omega⟩;obtain⟨b,rfl⟩:∃a:Nat,q=a:=⟨q.toNat,by omega⟩;obtain⟨m,rfl⟩:∃a:Nat,s=a:=⟨s.toNat,by omega⟩;rw[q87]at h2 h4 h7;rw[q66,q66,q66,q139];have q1:a<d.size:=by omega
  have q2:b<d.size:=by omega
  have r1:=bC q1;have r2:=bC q2;have w1:IntKind.i64.wrap ((m:Int)+1)=(m:Int)+1:=wrap_i64 (by omega);refine cC (ag pV ah) (by kernel_rfl) (by conv=>lhs;reduce) (by simp) rfl (by simp) ?_;cases hb:ltInt d[b]! d[a]! with
  |true=>
   have hb2:ltInt (gA d b) (gA d a)=true:=hb;have hx:order2 ltInt d a b m=(b,a,m+1):=by unfold order2;rw[hb,if_pos rfl]
   simp[q1,q2,r1,r2,hb2,hx,w1]|false=>
   have hb2:ltInt (gA d b) (gA d a)=false:=hb;have hx:order2 ltInt d a b m=(a,b,m):=by unfold order2;rw[hb,if_neg (by simp)]
   simp[q1,q2,r1,r2,hb2,hx,w1]
 ·cases h
def oO (d:Array Int) (a b s:Nat):(order2 ltInt d a b s).2.2<=s+1/\(((order2 ltInt d a b s).1=a/\(order2 ltInt d a b s).2.1=b)\/((order2 ltInt d a b s).1=b/\(order2 ltInt d a b s).2.1=a)):=by
 unfold order2;split;·exact⟨q92 _,.inr ⟨rfl,rfl⟩⟩
 ·exact⟨Nat.le_add_right _ _,.inl ⟨rfl,rfl⟩⟩
noncomputable def T4:List AV->Option (Prop×AV)|[.pv (.ro a),.pv (.int .i64 p),.pv (.int .i64 q),.pv (.int .i64 u),.aN [.bx [.pv (.int .i64 s)]]]=>(dec ez a).map fun l=>((0<=p/\p<(l.length:Int))/\(0<=q/\q<(l.length:Int))/\(0<=u/\u<(l.length:Int))/\(0<=s/\s<=900)/\l.length<=1000000,.bI 0 [.pv (.int .i64 ((median ltInt l.toArray p.toNat q.toNat u.toNat s.toNat).1:Int)),.bx [.pv (.int .i64 ((median ltInt l.toArray p.toNat q.toNat u.toNat s.toNat).2:Int))]])|_=>none
@[simp] def Gmed_eq (d:Array Int) (p q u s:Int):T4 [.pv (.ro (rA d)),.pv (.int .i64 p),.pv (.int .i64 q),.pv (.int .i64 u),.aN [.bx [.pv (.int .i64 s)]]]=some ((0<=p/\p<(d.size:Int))/\(0<=q/\q<(d.size:Int))/\(0<=u/\u<(d.size:Int))/\(0<=s/\s<=900)/\d.size<=1000000,.bI 0 [.pv (.int .i64 ((median ltInt d p.toNat q.toNat u.toNat s.toNat).1:Int)),.bx [.pv (.int .i64 ((median ltInt d p.toNat q.toNat u.toNat s.toNat).2:Int))]]):=by show(dec ez (rA d)).map _=_;rw[jB];simp
def KO (d:Array Int) (a b c s:Nat):median ltInt d a b c s=((order2 ltInt d (order2 ltInt d a b s).1 (order2 ltInt d (order2 ltInt d a b s).2.1 c (order2 ltInt d a b s).2.2).1 (order2 ltInt d (order2 ltInt d a b s).2.1 c (order2 ltInt d a b s).2.2).2.2).2.1,(order2 ltInt d (order2 ltInt d a b s).1 (order2 ltInt d (order2 ltInt d a b s).2.1 c (order2 ltInt d a b s).2.2).1 (order2 ltInt d (order2 ltInt d a b s).2.1 c (order2 ltInt d a b s).2.2).2.2).2.2):=rfl
def Mp (d:Array Int) (a b c s n:Nat) (ha:a<n) (hb:b<n) (hc:c<n):(median ltInt d a b c s).1<n/\(median ltInt d a b c s).2<=s+3:=by rw[KO];have h1:=oO d a b s;generalize order2 ltInt d a b s=r1 at*;have h2:=oO d r1.2.1 c r1.2.2;generalize order2 ltInt d r1.2.1 c r1.2.2=r2 at*;have h3:=oO d r1.1 r2.1 r2.2.2;show(order2 ltInt d r1.1 r2.1 r2.2.2).2.1<n/\(order2 ltInt d r1.1 r2.1 r2.2.2).2.2<=s+3;generalize order2 ltInt d r1.1 r2.1 r2.2.2=r3 at*;omega
def OX:eE Tryz.prog 266 T4:=by
 intro ys φ r h hφ;unfold T4 at h;split at h
 ·rename_i ra p q u s;obtain⟨l,hl,h⟩:=q900.1 h;cases h;obtain⟨d,rfl,rfl⟩:=nQ hl;obtain⟨⟨h1,h2⟩,⟨h3,h4⟩,⟨h8,h9⟩,⟨h5,h6⟩,h7⟩:=hφ;obtain⟨a,rfl⟩:∃a:Nat,p=a:=⟨p.toNat,by omega⟩;obtain⟨b,rfl⟩:∃a:Nat,q=a:=⟨q.toNat,by omega⟩;obtain⟨c,rfl⟩:∃a:Nat,u=a:=⟨u.toNat,by omega⟩;obtain⟨m,rfl⟩:∃a:Nat,s=a:=⟨s.toNat,by omega⟩;rw[q87]at h2 h4 h7 h9;rw[q66,q66,q66,q66,q139];refine cC (bq (ks:=[0,0,0,2]) c_ord (by kernel_rfl) ah) (by kernel_rfl) (by conv=>lhs;reduce) (by simp) rfl (by simp) ?_;have e1:=oO d a b m;generalize hr1:order2 ltInt d a b m=r1 at*;have e2:=oO d r1.2.1 c r1.2.2;generalize hr2:order2 ltInt d r1.2.1 c r1.2.2=r2 at*;have e3:=oO d r1.1 r2.1 r2.2.2;have hx:median ltInt d a b c m=((order2 ltInt d r1.1 r2.1 r2.2.2).2.1,(order2 ltInt d r1.1 r2.1 r2.2.2).2.2):=by rw[KO,hr1,hr2]
  generalize hr3:order2 ltInt d r1.1 r2.1 r2.2.2=r3 at*;rw[hx];have n1:a<d.size:=by omega
  have n2:b<d.size:=by omega
  have n3:c<d.size:=by omega
  have n4:r1.1<d.size:=by omega
  have n5:r1.2.1<d.size:=by omega
  have n6:r2.1<d.size:=by omega
  have n7:(m:Int)<=1000:=by omega
  have n8:(r1.2.2:Int)<=1000:=by omega
  have n9:(r2.2.2:Int)<=1000:=by omega
  apply ae;·simp;exact⟨rfl,rfl⟩
  apply ae;·simp[n1,n2,n7,h7,hr1];exact⟨rfl,rfl⟩
  apply ae;·simp[n3,n5,n8,h7,hr2];exact⟨rfl,rfl⟩
  apply ae;·simp[n4,n6,n9,h7,hr3];exact⟨rfl,rfl⟩
  simp
 ·cases h
noncomputable def S6:List AV->Option (Prop×AV)|[.pv (.ro a),.pv (.int .i64 p),.aN [.bx [.pv (.int .i64 s)]]]=>(dec ez a).map fun l=>((1<=p/\p+1<(l.length:Int))/\(0<=s/\s<=900)/\l.length<=1000000,.bI 0 [.pv (.int .i64 ((medianAdjacent ltInt l.toArray p.toNat s.toNat).1:Int)),.bx [.pv (.int .i64 ((medianAdjacent ltInt l.toArray p.toNat s.toNat).2:Int))]])|_=>none
@[simp] def Gadj_eq (d:Array Int) (p s:Int):S6 [.pv (.ro (rA d)),.pv (.int .i64 p),.aN [.bx [.pv (.int .i64 s)]]]=some ((1<=p/\p+1<(d.size:Int))/\(0<=s/\s<=900)/\d.size<=1000000,.bI 0 [.pv (.int .i64 ((medianAdjacent ltInt d p.toNat s.toNat).1:Int)),.bx [.pv (.int .i64 ((medianAdjacent ltInt d p.toNat s.toNat).2:Int))]]):=by show(dec ez (rA d)).map _=_;rw[jB];simp
def c_adj:eE Tryz.prog 265 S6:=by
 intro ys φ r h hφ;unfold S6 at h;split at h
 ·rename_i ra p s;obtain⟨l,hl,h⟩:=q900.1 h;cases h;obtain⟨d,rfl,rfl⟩:=nQ hl;obtain⟨⟨h1,h2⟩,⟨h5,h6⟩,h7⟩:=hφ;obtain⟨a,rfl⟩:∃a:Nat,p=a:=⟨p.toNat,by omega⟩;obtain⟨m,rfl⟩:∃a:Nat,s=a:=⟨s.toNat,by omega⟩;rw[q87]at h2 h7;rw[q66,q66,q139];have w1:IntKind.i64.wrap ((a:Int)-1)=((a-1:Nat):Int):=by rw[wrap_i64 (by omega)];omega
  have w2:IntKind.i64.wrap ((a:Int)+1)=((a+1:Nat):Int):=by rw[wrap_i64 (by omega)];omega
  unfold medianAdjacent;obtain⟨x,hx⟩:∃x,x=a-1:=⟨_,rfl⟩;obtain⟨y,hy⟩:∃y,y=a+1:=⟨_,rfl⟩;rw[<-hx]at w1 |-;rw[<-hy]at w2 |-;generalize hR:median ltInt d x a y m=R;have n1:x<d.size:=by omega
  have n2:a<d.size:=by omega
  have n3:y<d.size:=by omega
  have n4:(m:Int)<=900:=by omega
  refine cC (bq (ks:=[0,0,0,0,2]) OX (by kernel_rfl) ah) (by kernel_rfl) (by conv=>lhs;reduce) (by simp) rfl (by simp) ?_;simp[w1,w2,n1,n2,n3,n4,h7,hR]
 ·cases h
def gC:Hint->Int|.unknown=>0|.increasing=>1|.decreasing=>2
def AY (d:Array Int) (a s n:Nat) (h1:1<=a) (h2:a+1<n):(medianAdjacent ltInt d a s).1<n/\(medianAdjacent ltInt d a s).2<=s+3:=Mp d _ _ _ s n (by omega) (by omega) h2
def IG {d:Array Int}{a b:Nat} (h:¬b-a>=8):choosePivot ltInt d a b=(a+(b-a)/4*2,.increasing):=by unfold choosePivot;simp only[if_neg h];rfl
def MI {d:Array Int}{a b:Nat} (h:b-a>=8) (h2:¬b-a>=50):choosePivot ltInt d a b=((median ltInt d (a+(b-a)/4*1) (a+(b-a)/4*2) (a+(b-a)/4*3) 0).1,if(median ltInt d (a+(b-a)/4*1) (a+(b-a)/4*2) (a+(b-a)/4*3) 0).2=0 then .increasing else if(median ltInt d (a+(b-a)/4*1) (a+(b-a)/4*2) (a+(b-a)/4*3) 0).2=12 then .decreasing else .unknown):=by unfold choosePivot;simp only[if_pos h,if_neg h2]
def N1 {d:Array Int}{a b:Nat} (h2:b-a>=50) {ri rj rk m:Nat×Nat} (e1:medianAdjacent ltInt d (a+(b-a)/4*1) 0=ri) (e2:medianAdjacent ltInt d (a+(b-a)/4*2) ri.2=rj) (e3:medianAdjacent ltInt d (a+(b-a)/4*3) rj.2=rk) (e4:median ltInt d ri.1 rj.1 rk.1 rk.2=m):choosePivot ltInt d a b=(m.1,if m.2=0 then .increasing else if m.2=12 then .decreasing else .unknown):=by unfold choosePivot;simp only[if_pos (show b-a>=8 by omega),if_pos h2,e1,e2,e3,e4]
noncomputable def RC:List AV->Option (Prop×AV)|[.pv (.ro a),.pv (.int .i64 p),.pv (.int .i64 q)]=>(dec ez a).map fun l=>(0<=p/\p<=q/\q<=(l.length:Int)/\l.length<=1000000,.aN [.pv (.int .i64 ((choosePivot ltInt l.toArray p.toNat q.toNat).1:Int)),.pv (.int .i64 (gC (choosePivot ltInt l.toArray p.toNat q.toNat).2))])|_=>none
@[simp] def Gchp_eq (d:Array Int) (p q:Int):RC [.pv (.ro (rA d)),.pv (.int .i64 p),.pv (.int .i64 q)]=some (0<=p/\p<=q/\q<=(d.size:Int)/\d.size<=1000000,.aN [.pv (.int .i64 ((choosePivot ltInt d p.toNat q.toNat).1:Int)),.pv (.int .i64 (gC (choosePivot ltInt d p.toNat q.toNat).2))]):=by show(dec ez (rA d)).map _=_;rw[jB];simp
def aaB:aL Tryz.prog 254 RC:=by
 intro ys φ r h hφ;unfold RC at h;split at h
 ·rename_i ra p q;obtain⟨l,hl,h⟩:=q900.1 h;cases h;obtain⟨d,rfl,rfl⟩:=nQ hl;obtain⟨h1,h2,h3,h7⟩:=hφ;obtain⟨a,rfl⟩:∃a:Nat,p=a:=⟨p.toNat,by omega⟩;obtain⟨b,rfl⟩:∃a:Nat,q=a:=⟨q.toNat,by omega⟩;rw[q87]at h3 h7;rw[q66,q66,q139];obtain⟨n,hn⟩:∃n,n=b-a:=⟨_,rfl⟩;obtain⟨f,hf⟩:∃f,f=n/4:=⟨_,rfl⟩;obtain⟨i,hi⟩:∃i,i=a+f*1:=⟨_,rfl⟩;obtain⟨j,hj⟩:∃j,j=a+f*2:=⟨_,rfl⟩;obtain⟨k,hk⟩:∃k,k=a+f*3:=⟨_,rfl⟩;have w0:IntKind.i64.wrap ((b:Int)-(a:Int))=(n:Int):=by rw[wrap_i64 (by omega)];omega
  have w1:(n:Int).tdiv 4=(f:Int):=by rw[q152 (by omega)];omega
  have w2:IntKind.i64.wrap (f:Int)=(f:Int):=wrap_i64 (by omega);have w3:IntKind.i64.wrap ((f:Int)*2)=(f:Int)*2:=wrap_i64 (by omega);have w4:IntKind.i64.wrap ((f:Int)*3)=(f:Int)*3:=wrap_i64 (by omega);have w5:IntKind.i64.wrap ((a:Int)+(f:Int))=(i:Int):=by rw[wrap_i64 (by omega)];omega
  have w6:IntKind.i64.wrap ((a:Int)+(f:Int)*2)=(j:Int):=by rw[wrap_i64 (by omega)];omega
  have w7:IntKind.i64.wrap ((a:Int)+(f:Int)*3)=(k:Int):=by rw[wrap_i64 (by omega)];omega
  refine aq (bq (ks:=[0,0,2]) c_adj (by kernel_rfl) (bq (ks:=[0,0,0,0,2]) OX (by kernel_rfl) ah)) (by kernel_rfl) (by conv=>lhs;reduce) (by simp) ?_;generalize hC:choosePivot ltInt d a b=C;apply ae;·simp;exact⟨rfl,rfl⟩
  apply ae;·simp[w0];exact⟨rfl,rfl⟩
  apply ae;·simp;exact⟨rfl,rfl⟩
  apply ae;·simp[w1,w2,w5];exact⟨rfl,rfl⟩
  apply ae;·simp[w1,w2,w3,w6];exact⟨rfl,rfl⟩
  apply ae;·simp[w1,w2,w4,w7];exact⟨rfl,rfl⟩
  by_cases g8:n>=8
  ·have c8:(8:Int)<=(n:Int):=by omega
   by_cases g50:n>=50
   ·have c50:(50:Int)<=(n:Int):=by omega
    obtain⟨ri,e1⟩:∃ri,medianAdjacent ltInt d i 0=ri:=⟨_,rfl⟩;obtain⟨rj,e2⟩:∃rj,medianAdjacent ltInt d j ri.2=rj:=⟨_,rfl⟩;obtain⟨rk,e3⟩:∃rk,medianAdjacent ltInt d k rj.2=rk:=⟨_,rfl⟩;obtain⟨m,e4⟩:∃m,median ltInt d ri.1 rj.1 rk.1 rk.2=m:=⟨_,rfl⟩;have m1:=AY d i 0 d.size (by omega) (by omega);have m2:=AY d j ri.2 d.size (by omega) (by omega);have m3:=AY d k rj.2 d.size (by omega) (by omega);rw[e1]at m1;rw[e2]at m2;rw[e3]at m3;have hx:=N1 (d:=d) (a:=a) (b:=b) (by omega) (ri:=ri) (rj:=rj) (rk:=rk) (m:=m) (by rw[<-hn,<-hf,<-hi,e1]) (by rw[<-hn,<-hf,<-hj,e2]) (by rw[<-hn,<-hf,<-hk,e3]) e4;rw[hC]at hx;have p1:(1:Int)<=(i:Int)/\(i:Int)+1<(d.size:Int):=by omega
    have p2:(1:Int)<=(j:Int)/\(j:Int)+1<(d.size:Int):=by omega
    have p3:(1:Int)<=(k:Int)/\(k:Int)+1<(d.size:Int):=by omega
    have s1:(ri.2:Int)<=900:=by omega
    have s2:(rj.2:Int)<=900:=by omega
    have s3:(rk.2:Int)<=900:=by omega
    have t1:ri.1<d.size:=m1.1;have t2:rj.1<d.size:=m2.1;have t3:rk.1<d.size:=m3.1;apply ae
    ·apply ae;·simp[c8];exact⟨rfl,rfl⟩
     apply cm rfl;apply ae
     ·apply ae;·simp[c50];exact⟨rfl,rfl⟩
      apply cm rfl;apply ae;·simp[p1,h7,e1];exact⟨rfl,rfl⟩
      apply ae;·simp[p2,s1,h7,e2];exact⟨rfl,rfl⟩
      simp[p3,s2,h7,e3];exact⟨rfl,rfl⟩
     simp[t1,t2,t3,s3,h7,e4];exact⟨rfl,rfl⟩
    by_cases z0:m.2=0
    ·rw[if_pos z0]at hx;subst hx;have y0:(m.2:Int)=0:=by omega
     simp[y0,gC]
    ·rw[if_neg z0]at hx;have y0:¬(m.2:Int)=0:=by omega
     by_cases z1:m.2=12
     ·rw[if_pos z1]at hx;subst hx;have y1:(m.2:Int)=12:=by omega
      simp[z0,y0,y1,gC]
     ·rw[if_neg z1]at hx;subst hx;have y1:¬(m.2:Int)=12:=by omega
      simp[z0,z1,y0,y1,gC]
   ·have c50:¬(50:Int)<=(n:Int):=by omega
    have hx:=MI (d:=d) (a:=a) (b:=b) (by omega) (by omega);rw[<-hn,<-hf,<-hi,<-hj,<-hk,hC]at hx;obtain⟨m,e4⟩:∃m,median ltInt d i j k 0=m:=⟨_,rfl⟩;rw[e4]at hx;have t1:i<d.size:=by omega
    have t2:j<d.size:=by omega
    have t3:k<d.size:=by omega
    apply ae
    ·apply ae;·simp[c8];exact⟨rfl,rfl⟩
     apply cm rfl;apply ae;·simp[c50];exact⟨rfl,rfl⟩
     simp[t1,t2,t3,h7,e4];exact⟨rfl,rfl⟩
    by_cases z0:m.2=0
    ·rw[if_pos z0]at hx;subst hx;have y0:(m.2:Int)=0:=by omega
     simp[y0,gC]
    ·rw[if_neg z0]at hx;have y0:¬(m.2:Int)=0:=by omega
     by_cases z1:m.2=12
     ·rw[if_pos z1]at hx;subst hx;have y1:(m.2:Int)=12:=by omega
      simp[z0,y0,y1,gC]
     ·rw[if_neg z1]at hx;subst hx;have y1:¬(m.2:Int)=12:=by omega
      simp[z0,z1,y0,y1,gC]
  ·have c8:¬(8:Int)<=(n:Int):=by omega
   have hx:=IG (d:=d) (a:=a) (b:=b) (by omega);rw[<-hn,<-hf,<-hj,hC]at hx;subst hx;simp[c8,gC]
 ·cases h
def Jw:List UInt8:=0::1::(List.replicate 2 2++(List.replicate 4 3++(List.replicate 8 4++(List.replicate 16 5++(List.replicate 32 6++(List.replicate 64 7++List.replicate 128 8))))))
def L6:∀n:Nat,n<256->1<=n->1<<<bitsLen n<=2*n:=by decide+kernel
@[simp] noncomputable def L5:List AV->Option (Prop×AV)|[.pv (.int .u64 n)]=>some (0<=n/\n<256,.pv (.int .i64 (bitsLen n.toNat:Int)))|_=>none
def oF:∀n:Nat,n<256->Jw[n]?=some (bitsLen n).toUInt8/\bitsLen n<=8:=by decide+kernel
def Oi:aL Tryz.prog 261 L5:=by
 intro ys φ r h hφ;unfold L5 at h;split at h
 ·rename_i x;cases h;obtain⟨h1,h2⟩:=hφ;obtain⟨n,rfl⟩:∃n:Nat,x=n:=⟨x.toNat,by omega⟩;rw[q66];obtain⟨e1,e2⟩:=oF n (by omega);have w1:IntKind.u8.wrap (n:Int)=(n:Int):=by rw[wrap_u8];omega
  have c1:¬(4294967296:Int)<=(n:Int):=by omega
  have c2:¬(65536:Int)<=(n:Int):=by omega
  have c3:¬(256:Int)<=(n:Int):=by omega
  refine aq ah (by kernel_rfl) (by conv=>lhs;reduce) (by simp) ?_;apply ae;·simp;exact⟨rfl,rfl⟩
  apply ae;·simp[c1];exact⟨rfl,rfl⟩
  apply ae;·simp[c2];exact⟨rfl,rfl⟩
  apply ae;·simp[c3];exact⟨rfl,rfl⟩
  simp[w1];refine⟨by omega,?_⟩;show IntKind.i64.wrap (IntKind.i64.wrap ((Jw[n]?.getD 0).toNat:Int))=_;rw[e1];have e3:((bitsLen n).toUInt8.toNat:Int)=(bitsLen n:Int):=by rw[show(bitsLen n).toUInt8.toNat=bitsLen n%256 from rfl,q109 (by omega)]
  show IntKind.i64.wrap (IntKind.i64.wrap ((bitsLen n).toUInt8.toNat:Int))=_;have e4:IntKind.i64.wrap (bitsLen n:Int)=(bitsLen n:Int):=wrap_i64 (by omega);rw[e3,e4,e4]
 ·cases h
def PI:aL Tryz.prog 250 L5:=by
 intro ys φ r h hφ;unfold L5 at h;split at h;·rename_i x;cases h;refine aq (ag Oi ah) (by kernel_rfl) (by conv=>lhs;reduce) (by simp) ?_;simp[hφ]
 ·cases h
def Bh (a b:UInt64):fE .xor .u64 (a.toNat:Int) (b.toNat:Int)=.int .u64 ((a^^^b).toNat:Int):=by
 have h1:(BitVec.ofInt 64 (a.toNat:Int)).toNat=a.toNat:=by rw[q176,q181,q109 a.toNat_lt]
 have h2:(BitVec.ofInt 64 (b.toNat:Int)).toNat=b.toNat:=by rw[q176,q181,q109 b.toNat_lt]
 unfold fE;have h4:(BitVec.ofInt IntKind.u64.bits (a.toNat:Int)^^^BitVec.ofInt IntKind.u64.bits (b.toNat:Int)).toNat=(a^^^b).toNat:=by show(BitVec.ofInt 64 (a.toNat:Int)^^^BitVec.ofInt 64 (b.toNat:Int)).toNat=_;rw[q286,h1,h2,UInt64.toNat_xor]
 simp only[h4];refine congrArg _ ?_;exact wrap_u64 (by have:=(a^^^b).toNat_lt;omega)
def NX (a b:UInt64):fE .and .u64 (a.toNat:Int) (b.toNat:Int)=.int .u64 ((a.toNat&&&b.toNat:Nat):Int):=by
 have h1:(BitVec.ofInt 64 (a.toNat:Int)).toNat=a.toNat:=by rw[q176,q181,q109 a.toNat_lt]
 have h2:(BitVec.ofInt 64 (b.toNat:Int)).toNat=b.toNat:=by rw[q176,q181,q109 b.toNat_lt]
 unfold fE;have h4:(BitVec.ofInt IntKind.u64.bits (a.toNat:Int)&&&BitVec.ofInt IntKind.u64.bits (b.toNat:Int)).toNat=a.toNat&&&b.toNat:=by show(BitVec.ofInt 64 (a.toNat:Int)&&&BitVec.ofInt 64 (b.toNat:Int)).toNat=_;rw[BitVec.toNat_and,h1,h2]
 simp only[h4];refine congrArg _ ?_;exact wrap_u64 (by have:=(a&&&b).toNat_lt;rw[UInt64.toNat_and]at this;omega)
def BJ (n:Nat):IntKind.u64.wrap (n:Int)=((n%2^64:Nat):Int):=by simp only[IntKind.wrap,IntKind.bits,IntKind.signed];simp
def Gr (a:UInt64) (k:UInt64) (h:k.toNat<64):IntKind.u64.wrap ((a.toNat:Int)*2^k.toNat)=((a<<<k).toNat:Int):=by rw[show(a.toNat:Int)*2^k.toNat=((a.toNat*2^k.toNat:Nat):Int) by simp,BJ,UInt64.toNat_shiftLeft,q109 h,q245]
def Md (a:UInt64) (k:UInt64) (h:k.toNat<64):(a.toNat:Int).fdiv (2^k.toNat)=((a>>>k).toNat:Int):=by rw[UInt64.toNat_shiftRight,q109 h,Nat.shiftRight_eq_div_pow,show((2:Int)^k.toNat)=((2^k.toNat:Nat):Int) by simp];rw[Int.natCast_ediv];exact q143 _ (q263 _)
@[simp] noncomputable def Gxor:List AV->Option (Prop×AV)|[.aN [.bx [.pv (.int .u64 n)]]]=>some (0<=n/\n<18446744073709551616,.bI 0 [.pv (.int .u64 ((xorNext (UInt64.ofNat n.toNat)).toNat:Int)),.bx [.pv (.int .u64 ((xorNext (UInt64.ofNat n.toNat)).toNat:Int))]])|_=>none
def YK:eE Tryz.prog 264 Gxor:=by
 intro ys φ r h hφ;unfold Gxor at h;split at h
 ·rename_i x;cases h;obtain⟨h1,h2⟩:=hφ;obtain⟨a,rfl⟩:∃a:UInt64,x=a.toNat:=⟨UInt64.ofNat x.toNat,by rw[q259];omega⟩;rw[q66,UInt64.ofNat_toNat];obtain⟨b1,hb1⟩:∃b1,b1=a<<<13:=⟨_,rfl⟩;obtain⟨c1,hc1⟩:∃c1,c1=a^^^b1:=⟨_,rfl⟩;obtain⟨b2,hb2⟩:∃b2,b2=c1>>>7:=⟨_,rfl⟩;obtain⟨c2,hc2⟩:∃c2,c2=c1^^^b2:=⟨_,rfl⟩;obtain⟨b3,hb3⟩:∃b3,b3=c2<<<17:=⟨_,rfl⟩;obtain⟨c3,hc3⟩:∃c3,c3=c2^^^b3:=⟨_,rfl⟩;have s1:IntKind.u64.wrap ((a.toNat:Int)*2^min 13 IntKind.u64.bits)=(b1.toNat:Int):=by rw[hb1];exact Gr a 13 (by decide)
  have s2:(c1.toNat:Int).fdiv (2^min 7 IntKind.u64.bits)=(b2.toNat:Int):=by rw[hb2];exact Md c1 7 (by decide)
  have s3:IntKind.u64.wrap ((c2.toNat:Int)*2^min 17 IntKind.u64.bits)=(b3.toNat:Int):=by rw[hb3];exact Gr c2 17 (by decide)
  have x1:=Bh a b1;have x2:=Bh c1 b2;have x3:=Bh c2 b3;rw[<-hc1]at x1;rw[<-hc2]at x2;rw[<-hc3]at x3;have hx:xorNext a=c3:=by rw[hc3,hb3,hc2,hb2,hc1,hb1];rfl
  rw[hx];refine cC ah (by kernel_rfl) (by conv=>lhs;reduce) (by simp) rfl (by simp) ?_;apply ae;·simp;exact⟨rfl,rfl⟩
  apply ae;·simp[s1,x1];exact⟨rfl,rfl⟩
  apply ae;·simp[s2,x2];exact⟨rfl,rfl⟩
  apply ae;·simp[s3,x3];exact⟨rfl,rfl⟩
  simp
 ·cases h
@[simp] noncomputable def YP:List AV->Option (Prop×AV)|[.pv (.int .i64 n)]=>some (0<=n/\n<256,.pv (.int .u64 ((1<<<bitsLen n.toNat:Nat):Int)))|_=>none
def c_np2:aL Tryz.prog 263 YP:=by
 intro ys φ r h hφ;unfold YP at h;split at h
 ·rename_i x;cases h;obtain⟨h1,h2⟩:=hφ;obtain⟨n,rfl⟩:∃n:Nat,x=n:=⟨x.toNat,by omega⟩;rw[q66];have e2:=(oF n (by omega)).2;have w1:IntKind.u64.wrap (n:Int)=(n:Int):=wrap_u64 (by omega);have h3:n<256:=by omega
  obtain⟨m,hm⟩:∃m,m=bitsLen n:=⟨_,rfl⟩;rw[<-hm]at e2 |-;have hp:1<<<m=2^m:=by rw[q245,q297]
  have hle:2^m<=2^8:=q175 (by omega) e2;have w2:IntKind.u64.wrap (2^min m IntKind.u64.bits)=((1<<<m:Nat):Int):=by rw[show min m IntKind.u64.bits=m from q103 (by show m<=64;omega),hp,show((2:Int)^m)=((2^m:Nat):Int) by simp];exact wrap_u64 ⟨q263 _,Int.le_trans (Int.ofNat_le.2 hle) (by decide)⟩
  generalize 1<<<m=M at*;refine aq (ag PI ah) (by kernel_rfl) (by conv=>lhs;reduce) (by simp) ?_;simp[w1,h3,<-hm,w2];exact h2
 ·cases h
def Lf (a n m:Nat) (st:UInt64×Array Int) (idx:Nat):(breakStep a n m st idx).2.size=st.2.size:=by unfold breakStep;exact size_swp _ _ _
noncomputable def Gj (F:Array Int->Nat->Nat->Array Int):List AV->Option (Prop×AV)|[.aN [.fr e a],.pv (.int .i64 p),.pv (.int .i64 q)]=>if e=22 then(dec ez a).map fun l=>(0<=p/\p<=q/\q<=(l.length:Int)/\l.length<=200,.bI 0 [.aN [],.fr 22 (rA (F l.toArray p.toNat q.toNat))]) else none|_=>none
@[simp] def GinpS_eq (F:Array Int->Nat->Nat->Array Int) (e:TypeId) (d:Array Int) (p q:Int):Gj F [.aN [.fr e (rA d)],.pv (.int .i64 p),.pv (.int .i64 q)]=if e=22 then some (0<=p/\p<=q/\q<=(d.size:Int)/\d.size<=200,.bI 0 [.aN [],.fr 22 (rA (F d p.toNat q.toNat))]) else none:=by show(if e=22 then(dec ez (rA d)).map _ else none)=_;rw[jB];simp
def HJ  (h:Gj F ys=some (φ,r)):∃(d:Array Int) (p q:Int),ys=[.aN [.fr 22 (rA d)],.pv (.int .i64 p),.pv (.int .i64 q)]/\φ=(0<=p/\p<=q/\q<=(d.size:Int)/\d.size<=200)/\r=.bI 0 [.aN [],.fr 22 (rA (F d p.toNat q.toNat))]:=by
 unfold Gj at h;split at h
 ·split at h;·rename_i e;subst e;obtain⟨l,hl,h⟩:=q900.1 h;cases h;cases eg hl;exact⟨l.toArray,_,_,by rw[DN],by simp,rfl⟩
  ·cases h
 ·cases h
def c_brk:eE Tryz.prog 253 (Gj breakPatterns):=by
 intro ys φ r h hφ;obtain⟨d,p,q,rfl,rfl,rfl⟩:=HJ h;obtain⟨h1,h2,h3,h4⟩:=hφ;obtain⟨a,rfl⟩:∃a:Nat,p=a:=⟨p.toNat,by omega⟩;obtain⟨b,rfl⟩:∃b:Nat,q=b:=⟨q.toNat,by omega⟩;rw[q66,q66];obtain⟨n,hn⟩:∃n,n=b-a:=⟨_,rfl⟩;have w0:IntKind.i64.wrap ((b:Int)-(a:Int))=(n:Int):=by rw[wrap_i64 (by omega)];omega
 refine cC (ag c_np2 (bq (ks:=[2]) YK (by kernel_rfl) ah)) (by kernel_rfl) (by conv=>lhs;reduce) (by simp) rfl (by simp) ?_;generalize hW:breakPatterns d a b=W;unfold breakPatterns at hW;rw[<-hn]at hW;apply ae;·simp[w0];exact⟨rfl,rfl⟩
 by_cases h8:n>=8
 ·have c8:(8:Int)<=(n:Int):=by omega
  simp only[if_pos h8]at hW;obtain⟨f,hf⟩:∃f,f=n/4:=⟨_,rfl⟩;obtain⟨ix,hix⟩:∃ix,ix=a+f*2-1:=⟨_,rfl⟩;obtain⟨M,hM⟩:∃M,M=1<<<bitsLen n:=⟨_,rfl⟩;rw[<-hf,<-hix,<-hM]at hW;have h2b:=(oF n (by omega)).2;have hMp:1<=M/\M<=256:=by
   have hp:M=2^bitsLen n:=by rw[hM,q245,q297]
   have hle:2^bitsLen n<=2^8:=q175 (by omega) h2b;have:0<2^bitsLen n:=Nat.pow_pos (by omega);omega
  have v1:(n:Int).tdiv 4=(f:Int):=by rw[q152 (by omega)];omega
  have v2:IntKind.i64.wrap (f:Int)=(f:Int):=wrap_i64 (by omega);have v3:IntKind.i64.wrap ((f:Int)*2)=(f:Int)*2:=wrap_i64 (by omega);obtain⟨y,hy⟩:∃y,y=a+f*2:=⟨_,rfl⟩;have v4:IntKind.i64.wrap ((a:Int)+(f:Int)*2)=(y:Int):=by rw[wrap_i64 (by omega)];omega
  have v5:IntKind.i64.wrap ((y:Int)-1)=(ix:Int):=by rw[wrap_i64 (by omega)];omega
  have v6:IntKind.i64.wrap ((y:Int)+1)=(y:Int)+1:=wrap_i64 (by omega);have v7:IntKind.u64.wrap (n:Int)=(n:Int):=wrap_u64 (by omega);have v8:(n:Int)<256:=by omega
  obtain⟨r0,hr0⟩:∃r0,r0=UInt64.ofNat n:=⟨_,rfl⟩;have hr1:(r0.toNat:Int)=(n:Int):=by rw[hr0,q259,q109 (by omega)]
  rw[<-hr0]at hW;obtain⟨st,hst⟩:∃st:Nat->UInt64×Array Int,(st 0=(r0,d))/\∀t,st (t+1)=breakStep a n M (st t) (ix+t):=⟨Nat.rec (r0,d) fun t s=>breakStep a n M s (ix+t),rfl,fun _=>rfl⟩;have hW3:(st 3).2=W:=by rw[hst.2 2,hst.2 1,hst.2 0,hst.1];exact hW
  have hsz:∀t,(st t).2.size=d.size:=by intro t;induction t with|zero=>rw[hst.1]|succ t ih=>rw[hst.2,Lf,ih]
  apply ae;·simp[c8];exact⟨rfl,rfl⟩
  apply cm rfl;apply ae;·simp[v7];exact⟨rfl,rfl⟩
  apply ae;·simp[v8,<-hM];exact⟨rfl,rfl⟩
  apply ae;·simp[v1,v2,v3,v4,v5];exact⟨rfl,rfl⟩
  rw[aR];refine au (fun t:Nat=>t<=3) (fun t=>⟨[(0,.own 999),(1,.pv (.int .i64 (a:Int))),(6,.pv (.int .i64 (n:Int))),(7,.ptr 7 0),(8,.pv (.int .u64 (M:Int))),(9,.pv (.int .i64 ((ix:Int)+(t:Int))))],[(999,.arr 22 (rA (st t).2)),(7,.box [.pv (.int .u64 ((st t).1.toNat:Int))])]⟩) (fun t=>3-t) [] 0 (by omega) ?_ ?_;·simp[hst.1,hr1]
  ·intro t ht;have hD:=hsz t;have hs:=hst.2 t;have hM2:M<=2*n:=by rw[hM];exact L6 n (by omega) (by omega)
   rcases hq:st t with⟨r,D⟩;rw[hq]at hD hs;have hD:D.size=d.size:=hD;rw[ke];dsimp only;by_cases ht3:t<3
   ·obtain⟨i,hi⟩:∃i,i=ix+t:=⟨_,rfl⟩;obtain⟨r',hr'⟩:∃r',r'=xorNext r:=⟨_,rfl⟩;obtain⟨o,ho⟩:∃o,o=r'.toNat&&&(M-1):=⟨_,rfl⟩;obtain⟨o2,ho2⟩:∃o2,o2=if o>=n then o-n else o:=⟨_,rfl⟩;have hs:st (t+1)=(r',swp D i (a+o2)):=by rw[hs,ho2,ho,hr',hi];rfl
    have ole:o<=M-1:=by rw[ho];exact Nat.and_le_right
    have o2lt:o2<n:=by rw[ho2];split<;>omega
    obtain⟨c,hc⟩:∃c,c=a+o2:=⟨_,rfl⟩;rw[<-hc]at hs;have z1:(ix:Int)+(t:Int)=(i:Int):=by omega
    have z2:(i:Int)<=(y:Int)+1:=by omega
    have z3:(r.toNat:Int)<18446744073709551616:=by have:=r.toNat_lt;omega
    have z4:IntKind.u64.wrap ((M:Int)-1)=(M:Int)-1:=wrap_u64 (by omega);have z5:fE .and .u64 (r'.toNat:Int) ((M:Int)-1)=.int .u64 (o:Int):=by have:=NX r' (UInt64.ofNat (M-1));rw[q259,q109 (by omega:M-1<2^64)]at this;rw[show(M:Int)-1=((M-1:Nat):Int) by omega,this,ho]
    have z6:IntKind.i64.wrap (o:Int)=(o:Int):=wrap_i64 (by omega);have z7:IntKind.i64.wrap ((i:Int)+1)=(i:Int)+1:=wrap_i64 (by omega);have z8:IntKind.i64.wrap ((a:Int)+(o2:Int))=(c:Int):=by rw[wrap_i64 (by omega)];omega
    have q1:i<D.size:=by omega
    have q2:c<D.size:=by omega
    have r1:=bC q1;have r2:=bC q2;have r3:=bC (d:=D.setIfInBounds i (gA D c)) (i:=c) (by rw[q105];omega);apply ae;·simp[v1,v2,v3,v4,v6,z1,z2];exact⟨rfl,rfl⟩
    rw[bh];rw[aR];apply ae;·simp[z3,<-hr',z4,z5,z6,z1];exact⟨rfl,rfl⟩
    by_cases hon:o>=n
    ·rw[if_pos hon]at ho2;have k1:(n:Int)<=(o:Int):=by omega
     have k2:IntKind.i64.wrap ((o:Int)-(n:Int))=(o2:Int):=by rw[wrap_i64 (by omega)];omega
     apply ae;·simp[k1,k2];exact⟨rfl,rfl⟩
     simp[z8,z7,q1,q2,r1,r2,r3];exact⟨t+1,by omega,⟨by omega,by rw[hs];rfl,by rw[hs]⟩,by omega⟩
    ·rw[if_neg hon]at ho2;subst ho2;have k1:¬(n:Int)<=(o2:Int):=by omega
     apply ae;·simp[k1];exact⟨rfl,rfl⟩
     simp[z8,z7,q1,q2,r1,r2,r3];exact⟨t+1,by omega,⟨by omega,by rw[hs];rfl,by rw[hs]⟩,by omega⟩
   ·have:t=3:=by omega
    subst this;have z1:¬(ix:Int)+3<=(y:Int)+1:=by omega
    rw[hq]at hW3;have hW3:D=W:=hW3;subst hW3;simp[v1,v2,v3,v4,v6,z1]
 ·have c8:¬(8:Int)<=(n:Int):=by omega
  simp only[if_neg h8]at hW;subst hW;simp[c8]
noncomputable def TY:List AV->Option (Prop×AV)|[.aN [.fr e a],.pv (.int .i64 p),.pv (.int .i64 q),.pv (.int .i64 v)]=>if e=22 then(dec ez a).map fun l=>((0<=p/\p<=v)/\v<q/\q<=(l.length:Int)/\l.length<=1000000,.bI 0 [.pv (.int .i64 ((partitionEqual ltInt l.toArray p.toNat q.toNat v.toNat).1:Int)),.fr 22 (rA (partitionEqual ltInt l.toArray p.toNat q.toNat v.toNat).2)]) else none|_=>none
@[simp] def Gpeq_eq (e:TypeId) (d:Array Int) (p q v:Int):TY [.aN [.fr e (rA d)],.pv (.int .i64 p),.pv (.int .i64 q),.pv (.int .i64 v)]=if e=22 then some ((0<=p/\p<=v)/\v<q/\q<=(d.size:Int)/\d.size<=1000000,.bI 0 [.pv (.int .i64 ((partitionEqual ltInt d p.toNat q.toNat v.toNat).1:Int)),.fr 22 (rA (partitionEqual ltInt d p.toNat q.toNat v.toNat).2)]) else none:=by show(if e=22 then(dec ez (rA d)).map _ else none)=_;rw[jB];simp
def c_peq:eE Tryz.prog 258 TY:=by
 intro ys φ r h hφ;unfold TY at h;split at h
 ·rename_i e ra p q v;split at h
  ·rename_i he;subst he;obtain⟨l,hl,h⟩:=q900.1 h;cases h;obtain⟨d,rfl,rfl⟩:=nQ hl;obtain⟨⟨h1,h2⟩,h3,h4,h5⟩:=hφ;rw[q87]at h4 h5;obtain⟨a,rfl⟩:∃a:Nat,p=a:=⟨p.toNat,by omega⟩;obtain⟨b,rfl⟩:∃a:Nat,q=a:=⟨q.toNat,by omega⟩;obtain⟨c,rfl⟩:∃a:Nat,v=a:=⟨v.toNat,by omega⟩;rw[q66,q66,q66,q139];refine cC (ag pV ah) (by kernel_rfl) (by conv=>lhs;reduce) (by simp) rfl (by simp) ?_;unfold partitionEqual;generalize hW:partEqLoop ltInt a (a+1) (b-1) (swp d a c)=W;have q1:a<d.size:=by omega
   have q2:c<d.size:=by omega
   have r1:=bC q1;have r2:=bC q2;have r3:=bC (d:=d.setIfInBounds a (gA d c)) (i:=c) (by rw[q105];omega);obtain⟨i0,hi0⟩:∃i0,i0=a+1:=⟨_,rfl⟩;obtain⟨j0,hj0⟩:∃j0,j0=b-1:=⟨_,rfl⟩;have w1:IntKind.i64.wrap ((a:Int)+1)=(i0:Int):=by rw[wrap_i64 (by omega)];omega
   have w2:IntKind.i64.wrap ((b:Int)-1)=(j0:Int):=by rw[wrap_i64 (by omega)];omega
   rw[<-hi0,<-hj0]at hW;apply ae;·simp;exact⟨rfl,rfl⟩
   apply ae;·simp[q1,q2,r1,r2,r3];exact⟨rfl,rfl⟩
   rw[show(d.setIfInBounds a (gA d c)).setIfInBounds c (gA d a)=swp d a c from rfl];apply ae;·simp[w1,w2];exact⟨rfl,rfl⟩
   rw[bh]
   ·rw[aR];refine au (fun x:(Nat×Nat)×Array Int=>(a<x.1.1/\x.1.1<=x.1.2+1)/\x.1.2<b/\x.2.size=d.size/\partEqLoop ltInt a x.1.1 x.1.2 x.2=W) (fun x=>⟨[(0,.own 999),(1,.pv (.int .i64 (a:Int))),(9,.pv (.int .i64 (x.1.1:Int))),(10,.pv (.int .i64 (x.1.2:Int)))],[(999,.arr 22 (rA x.2))]⟩) (fun x=>x.1.2) [] ((i0,j0),swp d a c) ⟨⟨by show a<i0;omega,by show i0<=j0+1;omega⟩,by show j0<b;omega,size_swp _ _ _,hW⟩ ?_ ?_;·simp
    ·rintro⟨⟨i,j⟩,D⟩ ⟨⟨g1,g2⟩,g3,g4,g5⟩;have g1:a<i:=g1;have g2:i<=j+1:=g2;have g3:j<b:=g3;have g4:D.size=d.size:=g4;have g5:partEqLoop ltInt a i j D=W:=g5;have qa:a<D.size:=by omega
     have ra:=bC qa;obtain⟨pU,hpU⟩:∃pU:Int->Bool,pU=fun x=>!ltInt D[a]! x:=⟨_,rfl⟩;obtain⟨pD,hpD⟩:∃pD:Int->Bool,pD=fun x=>ltInt D[a]! x:=⟨_,rfl⟩;obtain⟨i2,hi2⟩:∃i2,i2=scanUp pU D j i:=⟨_,rfl⟩;obtain⟨j2,hj2⟩:∃j2,j2=scanDown pD D i2 j:=⟨_,rfl⟩;have u1:=scanUp_spec pU D j _ i rfl;rw[<-hi2]at u1;have u2:=scanDown_spec pD D i2 j;rw[<-hj2]at u2;have u3:i<=i2/\i2<=j+1:=⟨u1.1,u1.2.1 g2⟩;have u4:j2<=j/\i2<=j2+1:=⟨u2.1,u2.2.1 u3.2⟩;rw[ke];dsimp only;rw[aR];apply ae
     ·rw[aR];refine au (fun s:Nat=>i<=s/\s<=j+1/\scanUp pU D j s=i2) (fun s=>⟨[(0,.own 999),(1,.pv (.int .i64 (a:Int))),(9,.pv (.int .i64 (s:Int))),(10,.pv (.int .i64 (j:Int)))],[(999,.arr 22 (rA D))]⟩) (fun s=>j+1-s) [] i (by refine⟨?_,?_,?_⟩<;>first|omega|exact hi2.symm) ?_ ?_;·simp
      ·rintro s ⟨l1,l2,l3⟩;by_cases hc:s<=j
       ·have ws:IntKind.i64.wrap ((s:Int)+1)=((s+1:Nat):Int):=by rw[wrap_i64 (by omega)];omega
        have c1:(s:Int)<=(j:Int):=by omega
        have q1:s<D.size:=by omega
        have r1:=bC q1;cases hb:(!ltInt (gA D a) (gA D s)) with|true=>have e:=scanUp_go pU D j s hc (by rw[hpU];exact hb);rw[e]at l3;obtain⟨s',hs'⟩:∃s',s'=s+1:=⟨_,rfl⟩;rw[<-hs']at ws l3;simp[c1,q1,qa,r1,ra,hb,ws];exact⟨s',⟨by omega,by omega,l3⟩,rfl,by omega⟩|false=>have e:=scanUp_end pU D j s (.inr (by rw[hpU];exact hb));rw[e]at l3;subst l3;simp[c1,q1,qa,r1,ra,hb];try exact⟨rfl,rfl⟩
       ·have c1:¬(s:Int)<=(j:Int):=by omega
        have e:=scanUp_end pU D j s (.inl hc);rw[e]at l3;subst l3;rcases q141 s D.size with q1|q1;·have r1:=bC q1;simp[c1,q1,qa,r1,ra];try exact⟨rfl,rfl⟩
        ·have r1:=m6 q1;simp[c1,qa,r1,ra];try exact⟨rfl,rfl⟩
     apply ae
     ·rw[aR];refine au (fun s:Nat=>i2<=s+1/\s<=j/\scanDown pD D i2 s=j2) (fun s=>⟨[(0,.own 999),(1,.pv (.int .i64 (a:Int))),(9,.pv (.int .i64 (i2:Int))),(10,.pv (.int .i64 (s:Int)))],[(999,.arr 22 (rA D))]⟩) (fun s=>s) [] j (by refine⟨?_,?_,?_⟩<;>first|omega|exact hj2.symm) ?_ ?_;·simp
      ·rintro s ⟨l1,l2,l3⟩;by_cases hc:i2<=s
       ·have ws:IntKind.i64.wrap ((s:Int)-1)=((s-1:Nat):Int):=by rw[wrap_i64 (by omega)];omega
        have c1:(i2:Int)<=(s:Int):=by omega
        have q1:s<D.size:=by omega
        have r1:=bC q1;cases hb:ltInt (gA D a) (gA D s) with|true=>have e:=scanDown_go pD D i2 s hc (by omega) (by rw[hpD];exact hb);rw[e]at l3;obtain⟨s',hs'⟩:∃s',s'=s-1:=⟨_,rfl⟩;rw[<-hs']at ws l3;simp[c1,q1,qa,r1,ra,hb,ws];exact⟨s',⟨by omega,by omega,l3⟩,rfl,by omega⟩|false=>have e:=scanDown_end pD D i2 s (.inr (by rw[hpD];exact hb));rw[e]at l3;subst l3;simp[c1,q1,qa,r1,ra,hb];try exact⟨rfl,rfl⟩
       ·have c1:¬(i2:Int)<=(s:Int):=by omega
        have e:=scanDown_end pD D i2 s (.inl hc);rw[e]at l3;subst l3;rcases q141 s D.size with q1|q1;·have r1:=bC q1;simp[c1,q1,qa,r1,ra];try exact⟨rfl,rfl⟩
        ·have r1:=m6 q1;simp[c1,qa,r1,ra];try exact⟨rfl,rfl⟩
     by_cases hgt:i2>j2
     ·have k1:(j2:Int)<(i2:Int):=by omega
      have e:=partEq_break ltInt a i j D (by rw[hi2,hpU]) (by rw[hj2,hpD]) hgt;rw[e]at g5;have e1:(i2:Int)=(W.1:Int):=by rw[<-g5]
      have e2:rA D=rA W.2:=by rw[<-g5]
      simp[k1];exact⟨e1,e2⟩
     ·have k1:¬(j2:Int)<(i2:Int):=by omega
      have e:=partEq_go ltInt a i j D (by rw[hi2,hpU]) (by rw[hj2,hpD]) hgt;rw[e]at g5;have lt2:=scans_lt ltInt a i j D (by omega) (i2:=i2) (j2:=j2) (by rw[hi2,hpU]) (by rw[hj2,hpD]) (by omega);have z1:i2<D.size:=by omega
      have z2:j2<D.size:=by omega
      have r1:=bC z1;have r2:=bC z2;have r3:=bC (d:=D.setIfInBounds i2 (gA D j2)) (i:=j2) (by rw[q105];omega);have v1:IntKind.i64.wrap ((i2:Int)+1)=(i2:Int)+1:=wrap_i64 (by omega);obtain⟨j3,hj3⟩:∃j3,j3=j2-1:=⟨_,rfl⟩;have v2:IntKind.i64.wrap ((j2:Int)-1)=(j3:Int):=by rw[wrap_i64 (by omega)];omega
      rw[<-hj3]at g5;apply ae;·simp[k1];exact⟨rfl,rfl⟩
      apply ae;·simp[z1,z2,r1,r2,r3];exact⟨rfl,rfl⟩
      simp[v1,v2];exact⟨i2+1,j3,swp D i2 j2,⟨⟨by omega,by omega⟩,by omega,by rw[size_swp,g4],g5⟩,⟨⟨by omega,rfl⟩,rfl⟩,by omega⟩
  ·cases h
 ·cases h
noncomputable def SV:List AV->Option (Prop×AV)|[.aN [.fr e a],.pv (.int .i64 p),.pv (.int .i64 q),.pv (.int .i64 v)]=>if e=22 then(dec ez a).map fun l=>((0<=p/\p<=v)/\v<q/\q<=(l.length:Int)/\l.length<=1000000,.bI 0 [.aN [.pv (.int .i64 ((partition ltInt l.toArray p.toNat q.toNat v.toNat).1:Int)),.pv (.bool (partition ltInt l.toArray p.toNat q.toNat v.toNat).2.1)],.fr 22 (rA (partition ltInt l.toArray p.toNat q.toNat v.toNat).2.2)]) else none|_=>none
@[simp] def Gprt_eq (e:TypeId) (d:Array Int) (p q v:Int):SV [.aN [.fr e (rA d)],.pv (.int .i64 p),.pv (.int .i64 q),.pv (.int .i64 v)]=if e=22 then some ((0<=p/\p<=v)/\v<q/\q<=(d.size:Int)/\d.size<=1000000,.bI 0 [.aN [.pv (.int .i64 ((partition ltInt d p.toNat q.toNat v.toNat).1:Int)),.pv (.bool (partition ltInt d p.toNat q.toNat v.toNat).2.1)],.fr 22 (rA (partition ltInt d p.toNat q.toNat v.toNat).2.2)]) else none:=by show(if e=22 then(dec ez (rA d)).map _ else none)=_;rw[jB];simp
def c_prt:eE Tryz.prog 259 SV:=by
 intro ys φ r h hφ;unfold SV at h;split at h
 ·rename_i e ra p q v;split at h
  ·rename_i he;subst he;obtain⟨l,hl,h⟩:=q900.1 h;cases h;obtain⟨d,rfl,rfl⟩:=nQ hl;obtain⟨⟨h1,h2⟩,h3,h4,h5⟩:=hφ;rw[q87]at h4 h5;obtain⟨a,rfl⟩:∃a:Nat,p=a:=⟨p.toNat,by omega⟩;obtain⟨b,rfl⟩:∃a:Nat,q=a:=⟨q.toNat,by omega⟩;obtain⟨c,rfl⟩:∃a:Nat,v=a:=⟨v.toNat,by omega⟩;rw[q66,q66,q66,q139];refine cC (ag pV ah) (by kernel_rfl) (by conv=>lhs;reduce) (by simp) rfl (by simp) ?_;generalize hW:partition ltInt d a b c=W;have q1:a<d.size:=by omega
   have q2:c<d.size:=by omega
   have r1:=bC q1;have r2:=bC q2;have r3:=bC (d:=d.setIfInBounds a (gA d c)) (i:=c) (by rw[q105];omega);obtain⟨i,hi⟩:∃i,i=a+1:=⟨_,rfl⟩;obtain⟨j,hj⟩:∃j,j=b-1:=⟨_,rfl⟩;have w1:IntKind.i64.wrap ((a:Int)+1)=(i:Int):=by rw[wrap_i64 (by omega)];omega
   have w2:IntKind.i64.wrap ((b:Int)-1)=(j:Int):=by rw[wrap_i64 (by omega)];omega
   apply ae;·simp;exact⟨rfl,rfl⟩
   apply ae;·simp[q1,q2,r1,r2,r3];exact⟨rfl,rfl⟩
   rw[show(d.setIfInBounds a (gA d c)).setIfInBounds c (gA d a)=swp d a c from rfl];obtain⟨D,hDD⟩:∃D,D=swp d a c:=⟨_,rfl⟩;have g4:D.size=d.size:=by rw[hDD,size_swp]
   rw[<-hDD];clear r1 r2 r3;apply ae;·simp[w1,w2];exact⟨rfl,rfl⟩
   have g1:a<i:=by omega
   have g2:i<=j+1:=by omega
   have g3:j<b:=by omega
   have qa:a<D.size:=by omega
   have ra:=bC qa;obtain⟨pU,hpU⟩:∃pU:Int->Bool,pU=fun x=>ltInt x D[a]!:=⟨_,rfl⟩;obtain⟨pD,hpD⟩:∃pD:Int->Bool,pD=fun x=>!ltInt x D[a]!:=⟨_,rfl⟩;obtain⟨i2,hi2⟩:∃i2,i2=scanUp pU D j i:=⟨_,rfl⟩;obtain⟨j2,hj2⟩:∃j2,j2=scanDown pD D i2 j:=⟨_,rfl⟩;have u1:=scanUp_spec pU D j _ i rfl;rw[<-hi2]at u1;have u2:=scanDown_spec pD D i2 j;rw[<-hj2]at u2;have u3:i<=i2/\i2<=j+1:=⟨u1.1,u1.2.1 g2⟩;have u4:j2<=j/\i2<=j2+1:=⟨u2.1,u2.2.1 u3.2⟩;apply ae
   ·rw[aR];refine au (fun s:Nat=>i<=s/\s<=j+1/\scanUp pU D j s=i2) (fun s=>⟨[(0,.own 999),(1,.pv (.int .i64 (a:Int))),(10,.pv (.int .i64 (s:Int))),(11,.pv (.int .i64 (j:Int)))],[(999,.arr 22 (rA D))]⟩) (fun s=>j+1-s) [] i (by refine⟨?_,?_,?_⟩<;>first|omega|exact hi2.symm) ?_ ?_;·simp
    ·rintro s ⟨l1,l2,l3⟩;by_cases hc:s<=j
     ·have ws:IntKind.i64.wrap ((s:Int)+1)=((s+1:Nat):Int):=by rw[wrap_i64 (by omega)];omega
      have c1:(s:Int)<=(j:Int):=by omega
      have q1:s<D.size:=by omega
      have r1:=bC q1;cases hb:ltInt (gA D s) (gA D a) with|true=>have e:=scanUp_go pU D j s hc (by rw[hpU];exact hb);rw[e]at l3;obtain⟨s',hs'⟩:∃s',s'=s+1:=⟨_,rfl⟩;rw[<-hs']at ws l3;simp[c1,q1,qa,r1,ra,hb,ws];exact⟨s',⟨by omega,by omega,l3⟩,rfl,by omega⟩|false=>have e:=scanUp_end pU D j s (.inr (by rw[hpU];exact hb));rw[e]at l3;subst l3;simp[c1,q1,qa,r1,ra,hb];try exact⟨rfl,rfl⟩
     ·have c1:¬(s:Int)<=(j:Int):=by omega
      have e:=scanUp_end pU D j s (.inl hc);rw[e]at l3;subst l3;rcases q141 s D.size with q1|q1;·have r1:=bC q1;simp[c1,q1,qa,r1,ra];try exact⟨rfl,rfl⟩
      ·have r1:=m6 q1;simp[c1,qa,r1,ra];try exact⟨rfl,rfl⟩
   apply ae
   ·rw[aR];refine au (fun s:Nat=>i2<=s+1/\s<=j/\scanDown pD D i2 s=j2) (fun s=>⟨[(0,.own 999),(1,.pv (.int .i64 (a:Int))),(10,.pv (.int .i64 (i2:Int))),(11,.pv (.int .i64 (s:Int)))],[(999,.arr 22 (rA D))]⟩) (fun s=>s) [] j (by refine⟨?_,?_,?_⟩<;>first|omega|exact hj2.symm) ?_ ?_;·simp
    ·rintro s ⟨l1,l2,l3⟩;by_cases hc:i2<=s
     ·have ws:IntKind.i64.wrap ((s:Int)-1)=((s-1:Nat):Int):=by rw[wrap_i64 (by omega)];omega
      have c1:(i2:Int)<=(s:Int):=by omega
      have q1:s<D.size:=by omega
      have r1:=bC q1;cases hb:(!ltInt (gA D s) (gA D a)) with|true=>have e:=scanDown_go pD D i2 s hc (by omega) (by rw[hpD];exact hb);rw[e]at l3;obtain⟨s',hs'⟩:∃s',s'=s-1:=⟨_,rfl⟩;rw[<-hs']at ws l3;simp[c1,q1,qa,r1,ra,hb,ws];exact⟨s',⟨by omega,by omega,l3⟩,rfl,by omega⟩|false=>have e:=scanDown_end pD D i2 s (.inr (by rw[hpD];exact hb));rw[e]at l3;subst l3;simp[c1,q1,qa,r1,ra,hb];try exact⟨rfl,rfl⟩
     ·have c1:¬(i2:Int)<=(s:Int):=by omega
      have e:=scanDown_end pD D i2 s (.inl hc);rw[e]at l3;subst l3;rcases q141 s D.size with q1|q1;·have r1:=bC q1;simp[c1,q1,qa,r1,ra];try exact⟨rfl,rfl⟩
      ·have r1:=m6 q1;simp[c1,qa,r1,ra];try exact⟨rfl,rfl⟩
   have z2:j2<D.size:=by omega
   have r2:=bC z2;by_cases hgt:i2>j2
   ·have k1:(j2:Int)<(i2:Int):=by omega
    have e:=part_first_break ltInt d a b c hi hj hDD (by rw[hi2,hpU]) (by rw[hj2,hpD]) hgt;rw[hW]at e;subst e;have r3:=bC (d:=D.setIfInBounds j2 (gA D a)) (i:=a) (by rw[q105];omega);simp[k1,qa,z2,ra,r2,r3];rfl
   ·have k1:¬(j2:Int)<(i2:Int):=by omega
    have e:=part_first_go ltInt d a b c hi hj hDD (by rw[hi2,hpU]) (by rw[hj2,hpD]) hgt;rw[hW]at e;have lt2:=part_scans_lt ltInt a i j D (by omega) (i2:=i2) (j2:=j2) (by rw[hi2,hpU]) (by rw[hj2,hpD]) (by omega);obtain⟨V,hV⟩:∃V,V=partLoop ltInt a (i2+1) (j2-1) (swp D i2 j2):=⟨_,rfl⟩;rw[<-hV]at e;subst e;obtain⟨i3,hi3⟩:∃i3,i3=i2+1:=⟨_,rfl⟩;obtain⟨j3,hj3⟩:∃j3,j3=j2-1:=⟨_,rfl⟩;rw[<-hi3,<-hj3]at hV;have z1:i2<D.size:=by omega
    have r1:=bC z1;have r3:=bC (d:=D.setIfInBounds i2 (gA D j2)) (i:=j2) (by rw[q105];omega);have v1:IntKind.i64.wrap ((i2:Int)+1)=(i3:Int):=by rw[wrap_i64 (by omega)];omega
    have v2:IntKind.i64.wrap ((j2:Int)-1)=(j3:Int):=by rw[wrap_i64 (by omega)];omega
    apply ae;·simp[k1];exact⟨rfl,rfl⟩
    apply ae;·simp[z1,z2,r1,r2,r3];exact⟨rfl,rfl⟩
    rw[show(D.setIfInBounds i2 (gA D j2)).setIfInBounds j2 (gA D i2)=swp D i2 j2 from rfl];apply ae;·simp[v1];exact⟨rfl,rfl⟩
    apply ae;·simp[v2];exact⟨rfl,rfl⟩
    rw[bh];rw[aR];refine au (fun x:(Nat×Nat)×Array Int=>(a<x.1.1/\x.1.1<=x.1.2+1)/\x.1.2<b/\x.2.size=d.size/\V=partLoop ltInt a x.1.1 x.1.2 x.2) (fun x=>⟨[(0,.own 999),(1,.pv (.int .i64 (a:Int))),(10,.pv (.int .i64 (x.1.1:Int))),(11,.pv (.int .i64 (x.1.2:Int)))],[(999,.arr 22 (rA x.2))]⟩) (fun x=>x.1.2) [] ((i3,j3),swp D i2 j2) ⟨⟨by show a<i3;omega,by show i3<=j3+1;omega⟩,by show j3<b;omega,by rw[size_swp,g4],hV⟩ ?_ ?_;·simp
    ·clear hV hi2 hj2 u1 u2 u3 u4 hi hj hi3 hj3 v1 v2 r1 r2 r3 z1 z2 k1 hgt lt2 w1 w2 g1 g2 g3 q1 q2 hDD g4 qa ra hpU hpD hW i2 j2 pU pD;clear D;rintro⟨⟨i,j⟩,D⟩ ⟨⟨g1,g2⟩,g3,g4,g5⟩;have g1:a<i:=g1;have g2:i<=j+1:=g2;have g3:j<b:=g3;have g4:D.size=d.size:=g4;have g5:V=partLoop ltInt a i j D:=g5;have qa:a<D.size:=by omega
     have ra:=bC qa;obtain⟨pU,hpU⟩:∃pU:Int->Bool,pU=fun x=>ltInt x D[a]!:=⟨_,rfl⟩;obtain⟨pD,hpD⟩:∃pD:Int->Bool,pD=fun x=>!ltInt x D[a]!:=⟨_,rfl⟩;obtain⟨i2,hi2⟩:∃i2,i2=scanUp pU D j i:=⟨_,rfl⟩;obtain⟨j2,hj2⟩:∃j2,j2=scanDown pD D i2 j:=⟨_,rfl⟩;have u1:=scanUp_spec pU D j _ i rfl;rw[<-hi2]at u1;have u2:=scanDown_spec pD D i2 j;rw[<-hj2]at u2;have u3:i<=i2/\i2<=j+1:=⟨u1.1,u1.2.1 g2⟩;have u4:j2<=j/\i2<=j2+1:=⟨u2.1,u2.2.1 u3.2⟩;rw[ke];dsimp only;rw[aR];apply ae
     ·rw[aR];refine au (fun s:Nat=>i<=s/\s<=j+1/\scanUp pU D j s=i2) (fun s=>⟨[(0,.own 999),(1,.pv (.int .i64 (a:Int))),(10,.pv (.int .i64 (s:Int))),(11,.pv (.int .i64 (j:Int)))],[(999,.arr 22 (rA D))]⟩) (fun s=>j+1-s) [] i (by refine⟨?_,?_,?_⟩<;>first|omega|exact hi2.symm) ?_ ?_;·simp
      ·rintro s ⟨l1,l2,l3⟩;by_cases hc:s<=j
       ·have ws:IntKind.i64.wrap ((s:Int)+1)=((s+1:Nat):Int):=by rw[wrap_i64 (by omega)];omega
        have c1:(s:Int)<=(j:Int):=by omega
        have q1:s<D.size:=by omega
        have r1:=bC q1;cases hb:ltInt (gA D s) (gA D a) with|true=>have e:=scanUp_go pU D j s hc (by rw[hpU];exact hb);rw[e]at l3;obtain⟨s',hs'⟩:∃s',s'=s+1:=⟨_,rfl⟩;rw[<-hs']at ws l3;simp[c1,q1,qa,r1,ra,hb,ws];exact⟨s',⟨by omega,by omega,l3⟩,rfl,by omega⟩|false=>have e:=scanUp_end pU D j s (.inr (by rw[hpU];exact hb));rw[e]at l3;subst l3;simp[c1,q1,qa,r1,ra,hb];try exact⟨rfl,rfl⟩
       ·have c1:¬(s:Int)<=(j:Int):=by omega
        have e:=scanUp_end pU D j s (.inl hc);rw[e]at l3;subst l3;rcases q141 s D.size with q1|q1;·have r1:=bC q1;simp[c1,q1,qa,r1,ra];try exact⟨rfl,rfl⟩
        ·have r1:=m6 q1;simp[c1,qa,r1,ra];try exact⟨rfl,rfl⟩
     apply ae
     ·rw[aR];refine au (fun s:Nat=>i2<=s+1/\s<=j/\scanDown pD D i2 s=j2) (fun s=>⟨[(0,.own 999),(1,.pv (.int .i64 (a:Int))),(10,.pv (.int .i64 (i2:Int))),(11,.pv (.int .i64 (s:Int)))],[(999,.arr 22 (rA D))]⟩) (fun s=>s) [] j (by refine⟨?_,?_,?_⟩<;>first|omega|exact hj2.symm) ?_ ?_;·simp
      ·rintro s ⟨l1,l2,l3⟩;by_cases hc:i2<=s
       ·have ws:IntKind.i64.wrap ((s:Int)-1)=((s-1:Nat):Int):=by rw[wrap_i64 (by omega)];omega
        have c1:(i2:Int)<=(s:Int):=by omega
        have q1:s<D.size:=by omega
        have r1:=bC q1;cases hb:(!ltInt (gA D s) (gA D a)) with|true=>have e:=scanDown_go pD D i2 s hc (by omega) (by rw[hpD];exact hb);rw[e]at l3;obtain⟨s',hs'⟩:∃s',s'=s-1:=⟨_,rfl⟩;rw[<-hs']at ws l3;simp[c1,q1,qa,r1,ra,hb,ws];exact⟨s',⟨by omega,by omega,l3⟩,rfl,by omega⟩|false=>have e:=scanDown_end pD D i2 s (.inr (by rw[hpD];exact hb));rw[e]at l3;subst l3;simp[c1,q1,qa,r1,ra,hb];try exact⟨rfl,rfl⟩
       ·have c1:¬(i2:Int)<=(s:Int):=by omega
        have e:=scanDown_end pD D i2 s (.inl hc);rw[e]at l3;subst l3;rcases q141 s D.size with q1|q1;·have r1:=bC q1;simp[c1,q1,qa,r1,ra];try exact⟨rfl,rfl⟩
        ·have r1:=m6 q1;simp[c1,qa,r1,ra];try exact⟨rfl,rfl⟩
     have z2:j2<D.size:=by omega
     have r2:=bC z2;by_cases hgt:i2>j2
     ·have k1:(j2:Int)<(i2:Int):=by omega
      have e:=part_break ltInt a i j D (i2:=i2) (j2:=j2) (by rw[hi2,hpU]) (by rw[hj2,hpD]) hgt;rw[<-g5]at e;have e1:(j2:Int)=(V.1:Int):=by rw[e]
      have e2:rA (swp D j2 a)=rA (swp V.2 V.1 a):=by rw[e]
      have r3:=bC (d:=D.setIfInBounds j2 (gA D a)) (i:=a) (by rw[q105];omega);simp[k1,qa,z2,ra,r2,r3];exact⟨e1,e2⟩
     ·have k1:¬(j2:Int)<(i2:Int):=by omega
      have e:=part_go ltInt a i j D (i2:=i2) (j2:=j2) (by rw[hi2,hpU]) (by rw[hj2,hpD]) hgt;rw[e]at g5;have lt2:=part_scans_lt ltInt a i j D (by omega) (i2:=i2) (j2:=j2) (by rw[hi2,hpU]) (by rw[hj2,hpD]) (by omega);have z1:i2<D.size:=by omega
      have r1:=bC z1;have r3:=bC (d:=D.setIfInBounds i2 (gA D j2)) (i:=j2) (by rw[q105];omega);have v1:IntKind.i64.wrap ((i2:Int)+1)=(i2:Int)+1:=wrap_i64 (by omega);obtain⟨j3,hj3⟩:∃j3,j3=j2-1:=⟨_,rfl⟩;have v2:IntKind.i64.wrap ((j2:Int)-1)=(j3:Int):=by rw[wrap_i64 (by omega)];omega
      rw[<-hj3]at g5;apply ae;·simp[k1];exact⟨rfl,rfl⟩
      apply ae;·simp[z1,z2,r1,r2,r3];exact⟨rfl,rfl⟩
      simp[v1,v2];exact⟨i2+1,j3,swp D i2 j2,⟨⟨by omega,by omega⟩,by omega,by rw[size_swp,g4],g5⟩,⟨⟨by omega,rfl⟩,rfl⟩,by omega⟩
  ·cases h
 ·cases h
noncomputable def R9:List AV->Option (Prop×AV)|[.aN [.fr e a],.pv (.int .i64 p),.pv (.int .i64 q)]=>if e=22 then(dec ez a).map fun l=>((0<=p/\p<q)/\q<=(l.length:Int)/\l.length<50,.bI 0 [.pv (.bool (partialInsertionSort ltInt l.toArray p.toNat q.toNat).2),.fr 22 (rA (partialInsertionSort ltInt l.toArray p.toNat q.toNat).1)]) else none|_=>none
@[simp] def Gpis_eq (e:TypeId) (d:Array Int) (p q:Int):R9 [.aN [.fr e (rA d)],.pv (.int .i64 p),.pv (.int .i64 q)]=if e=22 then some ((0<=p/\p<q)/\q<=(d.size:Int)/\d.size<50,.bI 0 [.pv (.bool (partialInsertionSort ltInt d p.toNat q.toNat).2),.fr 22 (rA (partialInsertionSort ltInt d p.toNat q.toNat).1)]) else none:=by show(if e=22 then(dec ez (rA d)).map _ else none)=_;rw[jB];simp
def Eo {d:Array Int}{a b:Nat} (h:b-a<50):partialInsertionSort ltInt d a b=(d,decide (scanSorted ltInt d b (a+1)=b)):=by
 unfold partialInsertionSort partialIns;by_cases hs:scanSorted ltInt d b (a+1)=b;·simp only[if_pos hs,decide_eq_true hs]
 ·simp only[if_neg hs,if_pos h,decide_eq_false hs]
def Ui (d:Array Int) (b:Nat):∀(n i:Nat),b-i=n->i<=b->scanSorted ltInt d b i<=b:=by intro n;induction n with|zero=>intro i h1 h2;rw[scanSorted_stop ltInt d b i (.inl (by omega))];exact h2|succ n ih=>intro i h1 h2;cases hl:ltInt d[i]! d[i-1]! with|true=>rw[scanSorted_stop ltInt d b i (.inr hl)];exact h2|false=>rw[scanSorted_go ltInt d b i (by omega) hl];exact ih (i+1) (by omega) (by omega)
def c_pis:eE Tryz.prog 256 R9:=by
 intro ys φ r h hφ;unfold R9 at h;split at h
 ·rename_i e ra p q;split at h
  ·rename_i he;subst he;obtain⟨l,hl,h⟩:=q900.1 h;cases h;obtain⟨D,rfl,rfl⟩:=nQ hl;obtain⟨⟨h1,h2⟩,h3,h5⟩:=hφ;rw[q87]at h3 h5;obtain⟨a,rfl⟩:∃a:Nat,p=a:=⟨p.toNat,by omega⟩;obtain⟨b,rfl⟩:∃a:Nat,q=a:=⟨q.toNat,by omega⟩;rw[q66,q66,q139,Eo (by omega)];obtain⟨i0,hi0⟩:∃i0,i0=a+1:=⟨_,rfl⟩;obtain⟨i2,hi2⟩:∃i2,i2=scanSorted ltInt D b i0:=⟨_,rfl⟩;have le2:i2<=b:=by rw[hi2];exact Ui D b _ i0 rfl (by omega)
   rw[<-hi0,<-hi2];have w1:IntKind.i64.wrap ((a:Int)+1)=(i0:Int):=by rw[wrap_i64 (by omega)];omega
   have w2:IntKind.i64.wrap ((b:Int)-(a:Int))=(b:Int)-(a:Int):=wrap_i64 (by omega);refine cC (ag pV ah) (by kernel_rfl) (by conv=>lhs;reduce) (by simp) rfl (by simp) ?_;apply ae;·simp;exact⟨rfl,rfl⟩
   apply ae;·simp[w1];exact⟨rfl,rfl⟩
   rw[bh];apply ae;·simp;exact⟨rfl,rfl⟩
   rw[aR];refine au (fun _:Unit=>True) (fun _=>⟨[(0,.own 999),(1,.pv (.int .i64 (a:Int))),(2,.pv (.int .i64 (b:Int))),(6,.pv (.bool false)),(7,.pv (.int .i64 (i0:Int))),(8,.pv (.int .i64 0))],[(999,.arr 22 (rA D))]⟩) (fun _=>0) [] () trivial ?_ ?_;·simp
   ·intro _ _;apply ae;·simp;exact⟨rfl,rfl⟩
    rw[bh];rw[aR];apply ae
    ·rw[aR];refine au (fun s:Nat=>i0<=s/\s<=b/\scanSorted ltInt D b s=i2) (fun s=>⟨[(0,.own 999),(1,.pv (.int .i64 (a:Int))),(2,.pv (.int .i64 (b:Int))),(6,.pv (.bool false)),(7,.pv (.int .i64 (s:Int)))],[(999,.arr 22 (rA D))]⟩) (fun s=>b-s) [] i0 ⟨q92 _,by omega,hi2.symm⟩ ?_ ?_;·simp
     ·rintro s ⟨l1,l2,l3⟩;obtain⟨t,ht⟩:∃t,s=t+1:=⟨s-1,by omega⟩;have ws:IntKind.i64.wrap ((s:Int)-1)=(t:Int):=by rw[wrap_i64 (by omega)];omega
      have wp:IntKind.i64.wrap ((s:Int)+1)=(s:Int)+1:=wrap_i64 (by omega);have q2:t<D.size:=by omega
      have r2:=bC q2;by_cases hc:s<b
      ·have c1:(s:Int)<(b:Int):=by omega
       have q1:s<D.size:=by omega
       have r1:=bC q1;cases hb:ltInt D[s]! D[s-1]! with|false=>
        rw[scanSorted_go ltInt D b s hc hb]at l3;have hb2:ltInt (gA D s) (gA D t)=false:=by rw[<-hb,show t=s-1 by omega];rfl
        simp[c1,q1,q2,r1,r2,hb2,ws,wp];exact⟨s+1,⟨by omega,by omega,l3⟩,by omega,by omega⟩|true=>
        rw[scanSorted_stop ltInt D b s (.inr hb)]at l3;have hb2:ltInt (gA D s) (gA D t)=true:=by rw[<-hb,show t=s-1 by omega];rfl
        subst l3;simp[c1,q1,q2,r1,r2,hb2,ws];exact⟨rfl,rfl⟩
      ·have c1:¬(s:Int)<(b:Int):=by omega
       rw[scanSorted_stop ltInt D b s (.inl hc)]at l3;subst l3;rcases q141 s D.size with q1|q1;·have r1:=bC q1;simp[c1,q1,q2,r1,r2,ws];try exact⟨rfl,rfl⟩
       ·have r1:=m6 q1;simp[c1,q2,r1,r2,ws];try exact⟨rfl,rfl⟩
    by_cases hz:i2=b
    ·have c1:(i2:Int)=(b:Int):=by omega
     simp[c1,hz]
    ·have c1:¬(i2:Int)=(b:Int):=by omega
     have c2:(b:Int)-(a:Int)<50:=by omega
     apply ae;·simp[c1,hz];exact⟨rfl,rfl⟩
     simp[c2,w2,hz]
  ·cases h
 ·cases h
end Go.Proofs.YtifcndkhigakfaaGreat.Ab
