/- slices.Sort at uint64: siftDownOrdered, heapSortOrdered. -/
import Derived.Test.YtlicclncicbajaaGreatY11
import Derived.Sort.WalkC
import Derived.Sort.WalkC4
import Derived.Sort.WalkA6
import Derived.Sort.LotD3
import Derived.Sort.LotB
import Derived.Sort.LotA
set_option linter.unusedVariables false
set_option linter.unusedSimpArgs false
set_option linter.unnecessarySimpa false
set_option maxHeartbeats 40000000
set_option maxRecDepth 100000
namespace Go.Proofs.YtlicclncicbajaaGreat.Ab
open Go Go.RowKit Go.Sort R
theorem ma {d:Array Int}{i:Nat} (h:d.size≤i):rowAt (rA d) (i:Int)=[]:=by unfold rowAt;rw[Int.toNat_natCast,List.getD_eq_getElem?_getD,List.getElem?_eq_none (by rw[Ed];exact h)];rfl
theorem jW (f:Fr):f.st=⟨look f.vs,ab f.os⟩:=rfl
noncomputable def Ou:List AV→Option (Prop×AV)|[.aJ [.fr e a],.pv (.int .i64 lo),.pv (.int .i64 hi),.pv (.int .i64 fi)]=>if e=22 then(dec dH a).map fun l=>((0≤lo∧lo≤1000000)∧0≤hi∧0≤fi∧fi+hi≤(l.length:Int)∧l.length≤1000000,.bo 0 [.aJ [],.fr 22 (rA (siftDown ltInt hi.toNat fi.toNat lo.toNat l.toArray))]) else none|_=>none
@[simp] theorem Gsft_eq (e:TypeId) (d:Array Int) (lo hi fi:Int):Ou [.aJ [.fr e (rA d)],.pv (.int .i64 lo),.pv (.int .i64 hi),.pv (.int .i64 fi)]=if e=22 then some ((0≤lo∧lo≤1000000)∧0≤hi∧0≤fi∧fi+hi≤(d.size:Int)∧d.size≤1000000,.bo 0 [.aJ [],.fr 22 (rA (siftDown ltInt hi.toNat fi.toNat lo.toNat d))]) else none:=by show(if e=22 then(dec dH (rA d)).map _ else none)=_;rw[ir];simp
theorem Z8:dr Tryz.prog 219 Ou:=by
 intro ys φ r h hφ;unfold Ou at h;split at h
 ·rename_i e ra lo hi fi;split at h
  ·rename_i he;subst he;obtain⟨l,hl,h⟩:=Option.map_eq_some_iff.1 h;cases h;cases dz hl;obtain⟨⟨h1,h2⟩,h3,h4,h5,h6⟩:=hφ;obtain⟨lo,rfl⟩:∃a:Nat,lo=a:=⟨lo.toNat,by omega⟩;obtain⟨hi,rfl⟩:∃a:Nat,hi=a:=⟨hi.toNat,by omega⟩;obtain⟨fi,rfl⟩:∃a:Nat,fi=a:=⟨fi.toNat,by omega⟩;rw[Int.toNat_natCast,Int.toNat_natCast,Int.toNat_natCast,Af];obtain⟨d,hd⟩:∃d,d=l.toArray:=⟨_,rfl⟩;have hds:d.size=l.length:=by rw[hd];simp
   rw[←hd];generalize hW:siftDown ltInt hi fi lo d=W;refine bU (ag nd ah) (by kernel_rfl) (by conv=>lhs;reduce) (by simp) rfl (by simp) ?_;simp(config := { maxSteps := 3000000 });refine al (fun x:Nat×Array Int=>x.1≤1000000∧x.2.size=l.length∧siftDown ltInt hi fi x.1 x.2=W) (fun x=>⟨[(0,.own 999),(1,.pv (.int .i64 (lo:Int))),(2,.pv (.int .i64 (hi:Int))),(3,.pv (.int .i64 (fi:Int))),(8,.pv (.int .i64 (x.1:Int)))],[(999,.arr 22 (rA x.2))]⟩) (fun x=>hi-x.1) [] (lo,d) ⟨by show lo≤_;omega,hds,hW⟩ ?_ ?_;·simp
   ·rintro⟨i,D⟩ ⟨hi1,hD,hI⟩;have hi1:i≤1000000:=hi1;have hD:D.size=l.length:=hD;have hI:siftDown ltInt hi fi i D=W:=hI;have w1:IntKind.i64.wrap (2*(i:Int))=2*(i:Int):=wrap_i64 (by omega);have w2:IntKind.i64.wrap (2*(i:Int)+1)=2*(i:Int)+1:=wrap_i64 (by omega);have w3:IntKind.i64.wrap (2*(i:Int)+1+1)=2*(i:Int)+2:=by rw[wrap_i64 (by omega)];omega
    obtain⟨r0,e0⟩:∃r0,r0=fi+i:=⟨_,rfl⟩;obtain⟨c1,e1⟩:∃c1,c1=fi+(2*i+1):=⟨_,rfl⟩;obtain⟨c2,e2⟩:∃c2,c2=fi+(2*i+2):=⟨_,rfl⟩;have w4:IntKind.i64.wrap ((fi:Int)+(2*(i:Int)+1))=(c1:Int):=by rw[wrap_i64 (by omega)];omega
    have w5:IntKind.i64.wrap ((c1:Int)+1)=(c2:Int):=by rw[wrap_i64 (by omega)];omega
    have w6:IntKind.i64.wrap ((fi:Int)+(i:Int))=(r0:Int):=by rw[wrap_i64 (by omega)];omega
    have w7:IntKind.i64.wrap ((fi:Int)+(2*(i:Int)+2))=(c2:Int):=by rw[wrap_i64 (by omega)];omega
    unfold siftDown at hI;rw[←e0,←e1,←e2,show c1+1=c2 by omega]at hI;by_cases hc:2*i+1≥hi
    ·rw[dif_pos hc]at hI;subst hI;have hc2:(hi:Int)≤2*(i:Int)+1:=by omega
     simp(config := { maxSteps := 3000000 }) [w1,w2,hc2]
    ·rw[dif_neg hc]at hI;have hc2:¬(hi:Int)≤2*(i:Int)+1:=by omega
     have q1:r0<D.size:=by omega
     have r1:=bm q1;have q2:c1<D.size:=by omega
     have r2:=bm q2;rw[jW,bd];apply af;·simp(config := { maxSteps := 3000000 }) [w1,w2];exact⟨rfl,rfl⟩
     apply af;·simp(config := { maxSteps := 3000000 }) [hc2];exact⟨rfl,rfl⟩
     by_cases hg1:2*i+2<hi
     ·have g1:2*(i:Int)+2<(hi:Int):=by omega
      have q4:c2<D.size:=by omega
      have r4:=bm q4;cases hg2:ltInt D[c1]! D[c2]! with
      |true=>
       have hg3:ltInt (gA D c1) (gA D c2)=true:=hg2;rw[if_pos (by rw[hg2];simp;omega),dif_pos hg1]at hI;apply af;·simp(config := { maxSteps := 3000000 }) [w3,w4,w5,g1,q2,q4,r2,r4,hg3];exact⟨rfl,rfl⟩
       cases hb:ltInt D[r0]! D[c2]! with|false=>have hb2:ltInt (gA D r0) (gA D c2)=false:=hb;rw[hb,if_pos (by simp)]at hI;subst hI;simp(config := { maxSteps := 3000000 }) [w6,w7,q1,q4,r1,r4,hb2]|true=>
        have hb2:ltInt (gA D r0) (gA D c2)=true:=hb;rw[hb,if_neg (by simp)]at hI;have z1:=bm (d:=D.setIfInBounds r0 (gA D c2)) (i:=c2) (by rw[Array.size_setIfInBounds];omega);apply af;·simp(config := { maxSteps := 3000000 }) [w6,w7,q1,q4,r1,r4,hb2];exact⟨rfl,rfl⟩
        simp(config := { maxSteps := 3000000 }) [w6,w7,q1,q4,r1,r4,z1];exact⟨2*i+2,swp D r0 c2,⟨by omega,by rw[size_swp,hD],hI⟩,⟨by omega,rfl⟩,by omega⟩
      |false=>
       have hg3:ltInt (gA D c1) (gA D c2)=false:=hg2;rw[if_neg (by rw[hg2];simp)]at hI;apply af;·simp(config := { maxSteps := 3000000 }) [w3,w4,w5,g1,q2,q4,r2,r4,hg3];exact⟨rfl,rfl⟩
       cases hb:ltInt D[r0]! D[c1]! with|false=>have hb2:ltInt (gA D r0) (gA D c1)=false:=hb;rw[hb,if_pos (by simp)]at hI;subst hI;simp(config := { maxSteps := 3000000 }) [w6,w4,q1,q2,r1,r2,hb2]|true=>
        have hb2:ltInt (gA D r0) (gA D c1)=true:=hb;rw[hb,if_neg (by simp)]at hI;have z1:=bm (d:=D.setIfInBounds r0 (gA D c1)) (i:=c1) (by rw[Array.size_setIfInBounds];omega);apply af;·simp(config := { maxSteps := 3000000 }) [w6,w4,q1,q2,r1,r2,hb2];exact⟨rfl,rfl⟩
        simp(config := { maxSteps := 3000000 }) [w6,w4,q1,q2,r1,r2,z1];exact⟨2*i+1,swp D r0 c1,⟨by omega,by rw[size_swp,hD],hI⟩,⟨by omega,rfl⟩,by omega⟩
     ·have g1:¬2*(i:Int)+2<(hi:Int):=by omega
      rw[if_neg (by simp;omega)]at hI;rcases Nat.lt_or_ge c2 D.size with q4|q4
      ·have r4:=bm q4;apply af;·simp(config := { maxSteps := 3000000 }) [w3,w4,w5,g1,q2,q4,r2,r4];exact⟨rfl,rfl⟩
       cases hb:ltInt D[r0]! D[c1]! with|false=>have hb2:ltInt (gA D r0) (gA D c1)=false:=hb;rw[hb,if_pos (by simp)]at hI;subst hI;simp(config := { maxSteps := 3000000 }) [w6,w4,q1,q2,r1,r2,hb2]|true=>
        have hb2:ltInt (gA D r0) (gA D c1)=true:=hb;rw[hb,if_neg (by simp)]at hI;have z1:=bm (d:=D.setIfInBounds r0 (gA D c1)) (i:=c1) (by rw[Array.size_setIfInBounds];omega);apply af;·simp(config := { maxSteps := 3000000 }) [w6,w4,q1,q2,r1,r2,hb2];exact⟨rfl,rfl⟩
        simp(config := { maxSteps := 3000000 }) [w6,w4,q1,q2,r1,r2,z1];exact⟨2*i+1,swp D r0 c1,⟨by omega,by rw[size_swp,hD],hI⟩,⟨by omega,rfl⟩,by omega⟩
      ·have r4:=ma q4;apply af;·simp(config := { maxSteps := 3000000 }) [w3,w4,w5,g1,q2,r2,r4];exact⟨rfl,rfl⟩
       cases hb:ltInt D[r0]! D[c1]! with|false=>have hb2:ltInt (gA D r0) (gA D c1)=false:=hb;rw[hb,if_pos (by simp)]at hI;subst hI;simp(config := { maxSteps := 3000000 }) [w6,w4,q1,q2,r1,r2,hb2]|true=>
        have hb2:ltInt (gA D r0) (gA D c1)=true:=hb;rw[hb,if_neg (by simp)]at hI;have z1:=bm (d:=D.setIfInBounds r0 (gA D c1)) (i:=c1) (by rw[Array.size_setIfInBounds];omega);apply af;·simp(config := { maxSteps := 3000000 }) [w6,w4,q1,q2,r1,r2,hb2];exact⟨rfl,rfl⟩
        simp(config := { maxSteps := 3000000 }) [w6,w4,q1,q2,r1,r2,z1];exact⟨2*i+1,swp D r0 c1,⟨by omega,by rw[size_swp,hD],hI⟩,⟨by omega,rfl⟩,by omega⟩
  ·cases h
 ·cases h
theorem tu (hi fi:Nat):∀(n root:Nat) (d:Array Int),hi-root≤n→(siftDown ltInt hi fi root d).size=d.size:=by intro n;induction n with|zero=>intro root d h;unfold siftDown;rw[dif_pos (by omega)]|succ n ih=>
 intro root d h;unfold siftDown;split;·rfl
 ·split
  ·split;·rfl
   ·split;·rw[ih _ _ (by omega),size_swp]
    ·rfl
  ·split;·rfl
   ·rw[ih _ _ (by omega),size_swp]
theorem sS (hi fi:Nat):∀(k:Nat) (d:Array Int),(heapBuild ltInt hi fi k d).size=d.size|0,d=>rfl|k+1,d=>by unfold heapBuild;rw[sS hi fi k,tu hi fi hi k d (by omega)]
theorem NZ:dr Tryz.prog 209 (Ek (heapSort ltInt)):=by
 intro ys φ r h hφ;obtain⟨d,p,q,rfl,rfl,rfl⟩:=tr h;obtain⟨h1,h2,h3,h4⟩:=hφ;obtain⟨a,rfl⟩:∃a:Nat,p=a:=⟨p.toNat,by omega⟩;obtain⟨b,rfl⟩:∃b:Nat,q=b:=⟨q.toNat,by omega⟩;rw[Int.toNat_natCast,Int.toNat_natCast];refine bU (ba (ks:=[2,0,0,0]) Z8 (by kernel_rfl) ah) (by kernel_rfl) (by conv=>lhs;reduce) (by simp) rfl (by simp) ?_;obtain⟨m,hm⟩:∃m,m=b-a:=⟨_,rfl⟩;have w0:IntKind.i64.wrap ((b:Int)-(a:Int))=(m:Int):=by rw[wrap_i64 (by omega)];omega
 have w1:IntKind.i64.wrap ((m:Int)-1)=(m:Int)-1:=wrap_i64 (by omega);obtain⟨k0,hk0⟩:∃k0,k0=(m-1)/2+1:=⟨_,rfl⟩;have w2:((m:Int)-1).tdiv 2=(k0:Int)-1:=by
  rcases Nat.eq_zero_or_pos m with h0|h0
  ·have:k0=1:=by omega
   rw[h0,this];decide
  ·rw[Int.tdiv_eq_ediv_of_nonneg (by omega)];omega
 have w3:IntKind.i64.wrap ((k0:Int)-1)=(k0:Int)-1:=wrap_i64 (by omega);unfold heapSort;rw[←hm,←hk0];generalize hW:heapPop ltInt a m (heapBuild ltInt m a k0 d)=W;generalize hB:heapBuild ltInt m a k0 d=B at hW;apply af;·simp(config := { maxSteps := 3000000 });exact⟨rfl,rfl⟩
 apply af;·simp(config := { maxSteps := 3000000 });exact⟨rfl,rfl⟩
 apply af;·simp(config := { maxSteps := 3000000 }) [w0];exact⟨rfl,rfl⟩
 apply af
 ·simp(config := { maxSteps := 3000000 }) [w1,w2,w3];refine al (fun x:Nat×Array Int=>x.1≤k0∧x.2.size=d.size∧heapBuild ltInt m a x.1 x.2=B) (fun x=>⟨[(0,.own 999),(6,.pv (.int .i64 (a:Int))),(7,.pv (.int .i64 0)),(8,.pv (.int .i64 (m:Int))),(9,.pv (.int .i64 ((x.1:Int)-1)))],[(999,.arr 22 (rA x.2))]⟩) (fun x=>x.1) [] (k0,d) ⟨Nat.le_refl _,rfl,hB⟩ ?_ ?_;·simp
  ·rintro⟨k,D⟩ ⟨hk,hD,hI⟩;have hk:k≤k0:=hk;have hD:D.size=d.size:=hD;have hI:heapBuild ltInt m a k D=B:=hI;cases k with|zero=>have hI:D=B:=hI;rw[hI];simp(config := { maxSteps := 3000000 });exact⟨rfl,rfl⟩|succ k=>
    have hI:heapBuild ltInt m a k (siftDown ltInt m a k D)=B:=hI;have hs:=tu m a m k D (by omega);have v1:(k:Int)+1-1=(k:Int):=by omega
    have v2:IntKind.i64.wrap ((k:Int)-1)=(k:Int)-1:=wrap_i64 (by omega);have v3:(k:Int)≤1000000:=by omega
    have v4:(a:Int)+(m:Int)≤(D.size:Int):=by omega
    have v5:D.size≤1000000:=by omega
    simp(config := { maxSteps := 3000000 }) [v1,v2,v3,v4,v5];exact⟨k,siftDown ltInt m a k D,⟨by omega,by rw[hs,hD],hI⟩,⟨rfl,rfl⟩,by omega⟩
 have hBs:B.size=d.size:=by rw[←hB,sS]
 apply af;·simp(config := { maxSteps := 3000000 }) [w1];exact⟨rfl,rfl⟩
 rw[bd];refine al (fun x:Nat×Array Int=>x.1≤m∧x.2.size=d.size∧heapPop ltInt a x.1 x.2=W) (fun x=>⟨[(0,.own 999),(6,.pv (.int .i64 (a:Int))),(7,.pv (.int .i64 0)),(10,.pv (.int .i64 ((x.1:Int)-1)))],[(999,.arr 22 (rA x.2))]⟩) (fun x=>x.1) [] (m,B) ⟨Nat.le_refl _,hBs,hW⟩ ?_ ?_;·simp
 ·rintro⟨k,D⟩ ⟨hk,hD,hI⟩;have hk:k≤m:=hk;have hD:D.size=d.size:=hD;have hI:heapPop ltInt a k D=W:=hI;cases k with|zero=>have hI:D=W:=hI;rw[hI];simp(config := { maxSteps := 3000000 })|succ k=>
   have hI:heapPop ltInt a k (siftDown ltInt k a 0 (swp D a (a+k)))=W:=hI;have hs:=tu k a k 0 (swp D a (a+k)) (by omega);have v1:(k:Int)+1-1=(k:Int):=by omega
   have v2:IntKind.i64.wrap ((k:Int)-1)=(k:Int)-1:=wrap_i64 (by omega);obtain⟨c,hc⟩:∃c,c=a+k:=⟨_,rfl⟩;rw[←hc]at hI hs;have v3:IntKind.i64.wrap ((a:Int)+(k:Int))=(c:Int):=by rw[wrap_i64 (by omega)];omega
   have q1:a<D.size:=by omega
   have q2:c<D.size:=by omega
   have r1:=bm q1;have r2:=bm q2;have r3:=bm (d:=D.setIfInBounds a (gA D c)) (i:=c) (by rw[Array.size_setIfInBounds];omega);have v4:(a:Int)+(k:Int)≤(D.size:Int):=by omega
   have v5:D.size≤1000000:=by omega
   apply af;·simp(config := { maxSteps := 3000000 }) [v1];exact⟨rfl,rfl⟩
   rw[bg];rw[bd];apply af;·simp(config := { maxSteps := 3000000 }) [v1,v3,q1,q2,r1,r2,r3];exact⟨rfl,rfl⟩
   rw[show(D.setIfInBounds a (gA D c)).setIfInBounds c (gA D a)=swp D a c from rfl];have v6:(swp D a c).size=D.size:=size_swp _ _ _;simp(config := { maxSteps := 3000000 }) [v1,v2,v4,v5,v6];exact⟨k,siftDown ltInt k a 0 (swp D a c),⟨by omega,by rw[hs,size_swp,hD],hI⟩,⟨rfl,rfl⟩,by omega⟩
theorem XW:dr Tryz.prog 212 (Ek reverseRange):=by
 intro ys φ r h hφ;obtain⟨d,p,q,rfl,rfl,rfl⟩:=tr h;obtain⟨h1,h2,h3,h4⟩:=hφ;obtain⟨a,rfl⟩:∃a:Nat,p=a:=⟨p.toNat,by omega⟩;obtain⟨b,rfl⟩:∃b:Nat,q=b:=⟨q.toNat,by omega⟩;rw[Int.toNat_natCast,Int.toNat_natCast];refine bU ah (by kernel_rfl) (by conv=>lhs;reduce) (by simp) rfl (by simp) ?_;have w0:IntKind.i64.wrap ((b:Int)-1)=(b:Int)-1:=wrap_i64 (by omega);unfold reverseRange;generalize hW:reverseLoop a (b-1) d=W;simp(config := { maxSteps := 3000000 }) [w0];refine al (fun x:(Nat×Nat)×Array Int=>(a≤x.1.1∧x.1.1≤b)∧x.1.2≤b∧x.2.size=d.size∧reverseLoop x.1.1 (x.1.2-1) x.2=W) (fun x=>⟨[(0,.own 999),(6,.pv (.int .i64 (x.1.1:Int))),(7,.pv (.int .i64 ((x.1.2:Int)-1)))],[(999,.arr 22 (rA x.2))]⟩) (fun x=>x.1.2) [] ((a,b),d) ⟨⟨Nat.le_refl _,by show a≤b;omega⟩,Nat.le_refl _,rfl,hW⟩ ?_ ?_;·simp
 ·rintro⟨⟨i,j⟩,D⟩ ⟨⟨hi1,hi2⟩,hj,hD,hI⟩;have hi1:a≤i:=hi1;have hi2:i≤b:=hi2;have hj:j≤b:=hj;have hD:D.size=d.size:=hD;have hI:reverseLoop i (j-1) D=W:=hI;unfold reverseLoop at hI;by_cases hlt:i<j-1
  ·rw[if_pos hlt]at hI;obtain⟨c,hc⟩:∃c,c=j-1:=⟨_,rfl⟩;rw[←hc]at hI;have e1:(j:Int)-1=(c:Int):=by omega
   have g1:i<c:=by omega
   have w1:IntKind.i64.wrap ((i:Int)+1)=(i:Int)+1:=wrap_i64 (by omega);have w2:IntKind.i64.wrap ((c:Int)-1)=(c:Int)-1:=wrap_i64 (by omega);have q1:i<D.size:=by omega
   have q2:c<D.size:=by omega
   have r1:=bm q1;have r2:=bm q2;have r3:=bm (d:=D.setIfInBounds i (gA D c)) (i:=c) (by rw[Array.size_setIfInBounds];omega);simp(config := { maxSteps := 3000000 }) [e1,g1,w1,w2,q1,q2,r1,r2,r3];exact⟨i+1,c,swp D i c,⟨by omega,by omega,by rw[size_swp,hD],hI⟩,⟨⟨by omega,rfl⟩,rfl⟩,by omega⟩
  ·rw[if_neg hlt]at hI;subst hI;have g1:¬(i:Int)<(j:Int)-1:=by omega
   simp(config := { maxSteps := 3000000 }) [g1]
theorem lG {rows:List (List PV)}{l:List Int} (h:dec dH rows=some l):∃d:Array Int,rows=rA d∧l=d.toList:=⟨l.toArray,by rw[dz h,Af],by simp⟩
noncomputable def Go2:List AV→Option (Prop×AV)|[.pv (.ro a),.pv (.int .i64 p),.pv (.int .i64 q),.aJ [.bx [.pv (.int .i64 s)]]]=>(dec dH a).map fun l=>((0≤p∧p<(l.length:Int))∧(0≤q∧q<(l.length:Int))∧(0≤s∧s≤1000)∧l.length≤1000000,.bo 0 [.aJ [.pv (.int .i64 ((order2 ltInt l.toArray p.toNat q.toNat s.toNat).1:Int)),.pv (.int .i64 ((order2 ltInt l.toArray p.toNat q.toNat s.toNat).2.1:Int))],.bx [.pv (.int .i64 ((order2 ltInt l.toArray p.toNat q.toNat s.toNat).2.2:Int))]])|_=>none
@[simp] theorem Go2_eq (d:Array Int) (p q s:Int):Go2 [.pv (.ro (rA d)),.pv (.int .i64 p),.pv (.int .i64 q),.aJ [.bx [.pv (.int .i64 s)]]]=some ((0≤p∧p<(d.size:Int))∧(0≤q∧q<(d.size:Int))∧(0≤s∧s≤1000)∧d.size≤1000000,.bo 0 [.aJ [.pv (.int .i64 ((order2 ltInt d p.toNat q.toNat s.toNat).1:Int)),.pv (.int .i64 ((order2 ltInt d p.toNat q.toNat s.toNat).2.1:Int))],.bx [.pv (.int .i64 ((order2 ltInt d p.toNat q.toNat s.toNat).2.2:Int))]]):=by show(dec dH (rA d)).map _=_;rw[ir];simp
theorem XJ:dr Tryz.prog 224 Go2:=by
 intro ys φ r h hφ;unfold Go2 at h;split at h
 ·rename_i ra p q s;obtain⟨l,hl,h⟩:=Option.map_eq_some_iff.1 h;cases h;obtain⟨d,rfl,rfl⟩:=lG hl;obtain⟨⟨h1,h2⟩,⟨h3,h4⟩,⟨h5,h6⟩,h7⟩:=hφ;obtain⟨a,rfl⟩:∃a:Nat,p=a:=⟨p.toNat,by omega⟩;obtain⟨b,rfl⟩:∃a:Nat,q=a:=⟨q.toNat,by omega⟩;obtain⟨m,rfl⟩:∃a:Nat,s=a:=⟨s.toNat,by omega⟩;rw[Array.length_toList]at h2 h4 h7;rw[Int.toNat_natCast,Int.toNat_natCast,Int.toNat_natCast,Array.toArray_toList];have q1:a<d.size:=by omega
  have q2:b<d.size:=by omega
  have r1:=bm q1;have r2:=bm q2;have w1:IntKind.i64.wrap ((m:Int)+1)=(m:Int)+1:=wrap_i64 (by omega);refine bU (ag nd ah) (by kernel_rfl) (by conv=>lhs;reduce) (by simp) rfl (by simp) ?_;cases hb:ltInt d[b]! d[a]! with
  |true=>
   have hb2:ltInt (gA d b) (gA d a)=true:=hb;have hx:order2 ltInt d a b m=(b,a,m+1):=by unfold order2;rw[hb,if_pos rfl]
   simp(config := { maxSteps := 3000000 }) [q1,q2,r1,r2,hb2,hx,w1]|false=>
   have hb2:ltInt (gA d b) (gA d a)=false:=hb;have hx:order2 ltInt d a b m=(a,b,m):=by unfold order2;rw[hb,if_neg (by simp)]
   simp(config := { maxSteps := 3000000 }) [q1,q2,r1,r2,hb2,hx,w1]
 ·cases h
theorem mE (d:Array Int) (a b s:Nat):(order2 ltInt d a b s).2.2≤s+1∧(((order2 ltInt d a b s).1=a∧(order2 ltInt d a b s).2.1=b)∨((order2 ltInt d a b s).1=b∧(order2 ltInt d a b s).2.1=a)):=by
 unfold order2;split;·exact⟨Nat.le_refl _,.inr ⟨rfl,rfl⟩⟩
 ·exact⟨Nat.le_add_right _ _,.inl ⟨rfl,rfl⟩⟩
noncomputable def P3:List AV→Option (Prop×AV)|[.pv (.ro a),.pv (.int .i64 p),.pv (.int .i64 q),.pv (.int .i64 u),.aJ [.bx [.pv (.int .i64 s)]]]=>(dec dH a).map fun l=>((0≤p∧p<(l.length:Int))∧(0≤q∧q<(l.length:Int))∧(0≤u∧u<(l.length:Int))∧(0≤s∧s≤900)∧l.length≤1000000,.bo 0 [.pv (.int .i64 ((median ltInt l.toArray p.toNat q.toNat u.toNat s.toNat).1:Int)),.bx [.pv (.int .i64 ((median ltInt l.toArray p.toNat q.toNat u.toNat s.toNat).2:Int))]])|_=>none
@[simp] theorem Gmed_eq (d:Array Int) (p q u s:Int):P3 [.pv (.ro (rA d)),.pv (.int .i64 p),.pv (.int .i64 q),.pv (.int .i64 u),.aJ [.bx [.pv (.int .i64 s)]]]=some ((0≤p∧p<(d.size:Int))∧(0≤q∧q<(d.size:Int))∧(0≤u∧u<(d.size:Int))∧(0≤s∧s≤900)∧d.size≤1000000,.bo 0 [.pv (.int .i64 ((median ltInt d p.toNat q.toNat u.toNat s.toNat).1:Int)),.bx [.pv (.int .i64 ((median ltInt d p.toNat q.toNat u.toNat s.toNat).2:Int))]]):=by show(dec dH (rA d)).map _=_;rw[ir];simp
theorem Fy (d:Array Int) (a b c s:Nat):median ltInt d a b c s=((order2 ltInt d (order2 ltInt d a b s).1 (order2 ltInt d (order2 ltInt d a b s).2.1 c (order2 ltInt d a b s).2.2).1 (order2 ltInt d (order2 ltInt d a b s).2.1 c (order2 ltInt d a b s).2.2).2.2).2.1,(order2 ltInt d (order2 ltInt d a b s).1 (order2 ltInt d (order2 ltInt d a b s).2.1 c (order2 ltInt d a b s).2.2).1 (order2 ltInt d (order2 ltInt d a b s).2.1 c (order2 ltInt d a b s).2.2).2.2).2.2):=rfl
theorem Iy (d:Array Int) (a b c s n:Nat) (ha:a<n) (hb:b<n) (hc:c<n):(median ltInt d a b c s).1<n∧(median ltInt d a b c s).2≤s+3:=by rw[Fy];have h1:=mE d a b s;generalize order2 ltInt d a b s=r1 at*;have h2:=mE d r1.2.1 c r1.2.2;generalize order2 ltInt d r1.2.1 c r1.2.2=r2 at*;have h3:=mE d r1.1 r2.1 r2.2.2;show(order2 ltInt d r1.1 r2.1 r2.2.2).2.1<n∧(order2 ltInt d r1.1 r2.1 r2.2.2).2.2≤s+3;generalize order2 ltInt d r1.1 r2.1 r2.2.2=r3 at*;omega
theorem Ly:dr Tryz.prog 223 P3:=by
 intro ys φ r h hφ;unfold P3 at h;split at h
 ·rename_i ra p q u s;obtain⟨l,hl,h⟩:=Option.map_eq_some_iff.1 h;cases h;obtain⟨d,rfl,rfl⟩:=lG hl;obtain⟨⟨h1,h2⟩,⟨h3,h4⟩,⟨h8,h9⟩,⟨h5,h6⟩,h7⟩:=hφ;obtain⟨a,rfl⟩:∃a:Nat,p=a:=⟨p.toNat,by omega⟩;obtain⟨b,rfl⟩:∃a:Nat,q=a:=⟨q.toNat,by omega⟩;obtain⟨c,rfl⟩:∃a:Nat,u=a:=⟨u.toNat,by omega⟩;obtain⟨m,rfl⟩:∃a:Nat,s=a:=⟨s.toNat,by omega⟩;rw[Array.length_toList]at h2 h4 h7 h9;rw[Int.toNat_natCast,Int.toNat_natCast,Int.toNat_natCast,Int.toNat_natCast,Array.toArray_toList];refine bU (ba (ks:=[0,0,0,2]) XJ (by kernel_rfl) ah) (by kernel_rfl) (by conv=>lhs;reduce) (by simp) rfl (by simp) ?_;have e1:=mE d a b m;generalize hr1:order2 ltInt d a b m=r1 at*;have e2:=mE d r1.2.1 c r1.2.2;generalize hr2:order2 ltInt d r1.2.1 c r1.2.2=r2 at*;have e3:=mE d r1.1 r2.1 r2.2.2;have hx:median ltInt d a b c m=((order2 ltInt d r1.1 r2.1 r2.2.2).2.1,(order2 ltInt d r1.1 r2.1 r2.2.2).2.2):=by rw[Fy,hr1,hr2]
  generalize hr3:order2 ltInt d r1.1 r2.1 r2.2.2=r3 at*;rw[hx];have n1:a<d.size:=by omega
  have n2:b<d.size:=by omega
  have n3:c<d.size:=by omega
  have n4:r1.1<d.size:=by omega
  have n5:r1.2.1<d.size:=by omega
  have n6:r2.1<d.size:=by omega
  have n7:(m:Int)≤1000:=by omega
  have n8:(r1.2.2:Int)≤1000:=by omega
  have n9:(r2.2.2:Int)≤1000:=by omega
  apply af;·simp(config := { maxSteps := 3000000 });exact⟨rfl,rfl⟩
  apply af;·simp(config := { maxSteps := 3000000 }) [n1,n2,n7,h7,hr1];exact⟨rfl,rfl⟩
  apply af;·simp(config := { maxSteps := 3000000 }) [n3,n5,n8,h7,hr2];exact⟨rfl,rfl⟩
  apply af;·simp(config := { maxSteps := 3000000 }) [n4,n6,n9,h7,hr3];exact⟨rfl,rfl⟩
  simp(config := { maxSteps := 3000000 })
 ·cases h
noncomputable def Pg:List AV→Option (Prop×AV)|[.pv (.ro a),.pv (.int .i64 p),.aJ [.bx [.pv (.int .i64 s)]]]=>(dec dH a).map fun l=>((1≤p∧p+1<(l.length:Int))∧(0≤s∧s≤900)∧l.length≤1000000,.bo 0 [.pv (.int .i64 ((medianAdjacent ltInt l.toArray p.toNat s.toNat).1:Int)),.bx [.pv (.int .i64 ((medianAdjacent ltInt l.toArray p.toNat s.toNat).2:Int))]])|_=>none
@[simp] theorem Gadj_eq (d:Array Int) (p s:Int):Pg [.pv (.ro (rA d)),.pv (.int .i64 p),.aJ [.bx [.pv (.int .i64 s)]]]=some ((1≤p∧p+1<(d.size:Int))∧(0≤s∧s≤900)∧d.size≤1000000,.bo 0 [.pv (.int .i64 ((medianAdjacent ltInt d p.toNat s.toNat).1:Int)),.bx [.pv (.int .i64 ((medianAdjacent ltInt d p.toNat s.toNat).2:Int))]]):=by show(dec dH (rA d)).map _=_;rw[ir];simp
theorem ZW:dr Tryz.prog 222 Pg:=by
 intro ys φ r h hφ;unfold Pg at h;split at h
 ·rename_i ra p s;obtain⟨l,hl,h⟩:=Option.map_eq_some_iff.1 h;cases h;obtain⟨d,rfl,rfl⟩:=lG hl;obtain⟨⟨h1,h2⟩,⟨h5,h6⟩,h7⟩:=hφ;obtain⟨a,rfl⟩:∃a:Nat,p=a:=⟨p.toNat,by omega⟩;obtain⟨m,rfl⟩:∃a:Nat,s=a:=⟨s.toNat,by omega⟩;rw[Array.length_toList]at h2 h7;rw[Int.toNat_natCast,Int.toNat_natCast,Array.toArray_toList];have w1:IntKind.i64.wrap ((a:Int)-1)=((a-1:Nat):Int):=by rw[wrap_i64 (by omega)];omega
  have w2:IntKind.i64.wrap ((a:Int)+1)=((a+1:Nat):Int):=by rw[wrap_i64 (by omega)];omega
  unfold medianAdjacent;obtain⟨x,hx⟩:∃x,x=a-1:=⟨_,rfl⟩;obtain⟨y,hy⟩:∃y,y=a+1:=⟨_,rfl⟩;rw[←hx]at w1 ⊢;rw[←hy]at w2 ⊢;generalize hR:median ltInt d x a y m=R;have n1:x<d.size:=by omega
  have n2:a<d.size:=by omega
  have n3:y<d.size:=by omega
  have n4:(m:Int)≤900:=by omega
  refine bU (ba (ks:=[0,0,0,0,2]) Ly (by kernel_rfl) ah) (by kernel_rfl) (by conv=>lhs;reduce) (by simp) rfl (by simp) ?_;simp(config := { maxSteps := 3000000 }) [w1,w2,n1,n2,n3,n4,h7,hR]
 ·cases h
def fy:Hint→Int|.unknown=>0|.increasing=>1|.decreasing=>2
theorem xK (d:Array Int) (a s n:Nat) (h1:1≤a) (h2:a+1<n):(medianAdjacent ltInt d a s).1<n∧(medianAdjacent ltInt d a s).2≤s+3:=Iy d _ _ _ s n (by omega) (by omega) h2
theorem D4 {d:Array Int}{a b:Nat} (h:¬b-a≥8):choosePivot ltInt d a b=(a+(b-a)/4*2,.increasing):=by unfold choosePivot;simp only[if_neg h];rfl
theorem IH {d:Array Int}{a b:Nat} (h:b-a≥8) (h2:¬b-a≥50):choosePivot ltInt d a b=((median ltInt d (a+(b-a)/4*1) (a+(b-a)/4*2) (a+(b-a)/4*3) 0).1,if(median ltInt d (a+(b-a)/4*1) (a+(b-a)/4*2) (a+(b-a)/4*3) 0).2=0 then .increasing else if(median ltInt d (a+(b-a)/4*1) (a+(b-a)/4*2) (a+(b-a)/4*3) 0).2=12 then .decreasing else .unknown):=by unfold choosePivot;simp only[if_pos h,if_neg h2]
theorem Ja {d:Array Int}{a b:Nat} (h2:b-a≥50) {ri rj rk m:Nat×Nat} (e1:medianAdjacent ltInt d (a+(b-a)/4*1) 0=ri) (e2:medianAdjacent ltInt d (a+(b-a)/4*2) ri.2=rj) (e3:medianAdjacent ltInt d (a+(b-a)/4*3) rj.2=rk) (e4:median ltInt d ri.1 rj.1 rk.1 rk.2=m):choosePivot ltInt d a b=(m.1,if m.2=0 then .increasing else if m.2=12 then .decreasing else .unknown):=by unfold choosePivot;simp only[if_pos (show b-a≥8 by omega),if_pos h2,e1,e2,e3,e4]
noncomputable def MR:List AV→Option (Prop×AV)|[.pv (.ro a),.pv (.int .i64 p),.pv (.int .i64 q)]=>(dec dH a).map fun l=>(0≤p∧p≤q∧q≤(l.length:Int)∧l.length≤1000000,.aJ [.pv (.int .i64 ((choosePivot ltInt l.toArray p.toNat q.toNat).1:Int)),.pv (.int .i64 (fy (choosePivot ltInt l.toArray p.toNat q.toNat).2))])|_=>none
@[simp] theorem Gchp_eq (d:Array Int) (p q:Int):MR [.pv (.ro (rA d)),.pv (.int .i64 p),.pv (.int .i64 q)]=some (0≤p∧p≤q∧q≤(d.size:Int)∧d.size≤1000000,.aJ [.pv (.int .i64 ((choosePivot ltInt d p.toNat q.toNat).1:Int)),.pv (.int .i64 (fy (choosePivot ltInt d p.toNat q.toNat).2))]):=by show(dec dH (rA d)).map _=_;rw[ir];simp
theorem aad:aN Tryz.prog 211 MR:=by
 intro ys φ r h hφ;unfold MR at h;split at h
 ·rename_i ra p q;obtain⟨l,hl,h⟩:=Option.map_eq_some_iff.1 h;cases h;obtain⟨d,rfl,rfl⟩:=lG hl;obtain⟨h1,h2,h3,h7⟩:=hφ;obtain⟨a,rfl⟩:∃a:Nat,p=a:=⟨p.toNat,by omega⟩;obtain⟨b,rfl⟩:∃a:Nat,q=a:=⟨q.toNat,by omega⟩;rw[Array.length_toList]at h3 h7;rw[Int.toNat_natCast,Int.toNat_natCast,Array.toArray_toList];obtain⟨n,hn⟩:∃n,n=b-a:=⟨_,rfl⟩;obtain⟨f,hf⟩:∃f,f=n/4:=⟨_,rfl⟩;obtain⟨i,hi⟩:∃i,i=a+f*1:=⟨_,rfl⟩;obtain⟨j,hj⟩:∃j,j=a+f*2:=⟨_,rfl⟩;obtain⟨k,hk⟩:∃k,k=a+f*3:=⟨_,rfl⟩;have w0:IntKind.i64.wrap ((b:Int)-(a:Int))=(n:Int):=by rw[wrap_i64 (by omega)];omega
  have w1:(n:Int).tdiv 4=(f:Int):=by rw[Int.tdiv_eq_ediv_of_nonneg (by omega)];omega
  have w2:IntKind.i64.wrap (f:Int)=(f:Int):=wrap_i64 (by omega);have w3:IntKind.i64.wrap ((f:Int)*2)=(f:Int)*2:=wrap_i64 (by omega);have w4:IntKind.i64.wrap ((f:Int)*3)=(f:Int)*3:=wrap_i64 (by omega);have w5:IntKind.i64.wrap ((a:Int)+(f:Int))=(i:Int):=by rw[wrap_i64 (by omega)];omega
  have w6:IntKind.i64.wrap ((a:Int)+(f:Int)*2)=(j:Int):=by rw[wrap_i64 (by omega)];omega
  have w7:IntKind.i64.wrap ((a:Int)+(f:Int)*3)=(k:Int):=by rw[wrap_i64 (by omega)];omega
  refine aq (ba (ks:=[0,0,2]) ZW (by kernel_rfl) (ba (ks:=[0,0,0,0,2]) Ly (by kernel_rfl) ah)) (by kernel_rfl) (by conv=>lhs;reduce) (by simp) ?_;generalize hC:choosePivot ltInt d a b=C;apply af;·simp(config := { maxSteps := 3000000 });exact⟨rfl,rfl⟩
  apply af;·simp(config := { maxSteps := 3000000 }) [w0];exact⟨rfl,rfl⟩
  apply af;·simp(config := { maxSteps := 3000000 });exact⟨rfl,rfl⟩
  apply af;·simp(config := { maxSteps := 3000000 }) [w1,w2,w5];exact⟨rfl,rfl⟩
  apply af;·simp(config := { maxSteps := 3000000 }) [w1,w2,w3,w6];exact⟨rfl,rfl⟩
  apply af;·simp(config := { maxSteps := 3000000 }) [w1,w2,w4,w7];exact⟨rfl,rfl⟩
  by_cases g8:n≥8
  ·have c8:(8:Int)≤(n:Int):=by omega
   by_cases g50:n≥50
   ·have c50:(50:Int)≤(n:Int):=by omega
    obtain⟨ri,e1⟩:∃ri,medianAdjacent ltInt d i 0=ri:=⟨_,rfl⟩;obtain⟨rj,e2⟩:∃rj,medianAdjacent ltInt d j ri.2=rj:=⟨_,rfl⟩;obtain⟨rk,e3⟩:∃rk,medianAdjacent ltInt d k rj.2=rk:=⟨_,rfl⟩;obtain⟨m,e4⟩:∃m,median ltInt d ri.1 rj.1 rk.1 rk.2=m:=⟨_,rfl⟩;have m1:=xK d i 0 d.size (by omega) (by omega);have m2:=xK d j ri.2 d.size (by omega) (by omega);have m3:=xK d k rj.2 d.size (by omega) (by omega);rw[e1]at m1;rw[e2]at m2;rw[e3]at m3;have hx:=Ja (d:=d) (a:=a) (b:=b) (by omega) (ri:=ri) (rj:=rj) (rk:=rk) (m:=m) (by rw[←hn,←hf,←hi,e1]) (by rw[←hn,←hf,←hj,e2]) (by rw[←hn,←hf,←hk,e3]) e4;rw[hC]at hx;have p1:(1:Int)≤(i:Int)∧(i:Int)+1<(d.size:Int):=by omega
    have p2:(1:Int)≤(j:Int)∧(j:Int)+1<(d.size:Int):=by omega
    have p3:(1:Int)≤(k:Int)∧(k:Int)+1<(d.size:Int):=by omega
    have s1:(ri.2:Int)≤900:=by omega
    have s2:(rj.2:Int)≤900:=by omega
    have s3:(rk.2:Int)≤900:=by omega
    have t1:ri.1<d.size:=m1.1;have t2:rj.1<d.size:=m2.1;have t3:rk.1<d.size:=m3.1;apply af
    ·apply af;·simp(config := { maxSteps := 3000000 }) [c8];exact⟨rfl,rfl⟩
     apply cj rfl;apply af
     ·apply af;·simp(config := { maxSteps := 3000000 }) [c50];exact⟨rfl,rfl⟩
      apply cj rfl;apply af;·simp(config := { maxSteps := 3000000 }) [p1,h7,e1];exact⟨rfl,rfl⟩
      apply af;·simp(config := { maxSteps := 3000000 }) [p2,s1,h7,e2];exact⟨rfl,rfl⟩
      simp(config := { maxSteps := 3000000 }) [p3,s2,h7,e3];exact⟨rfl,rfl⟩
     simp(config := { maxSteps := 3000000 }) [t1,t2,t3,s3,h7,e4];exact⟨rfl,rfl⟩
    by_cases z0:m.2=0
    ·rw[if_pos z0]at hx;subst hx;have y0:(m.2:Int)=0:=by omega
     simp(config := { maxSteps := 3000000 }) [y0,fy]
    ·rw[if_neg z0]at hx;have y0:¬(m.2:Int)=0:=by omega
     by_cases z1:m.2=12
     ·rw[if_pos z1]at hx;subst hx;have y1:(m.2:Int)=12:=by omega
      simp(config := { maxSteps := 3000000 }) [z0,y0,y1,fy]
     ·rw[if_neg z1]at hx;subst hx;have y1:¬(m.2:Int)=12:=by omega
      simp(config := { maxSteps := 3000000 }) [z0,z1,y0,y1,fy]
   ·have c50:¬(50:Int)≤(n:Int):=by omega
    have hx:=IH (d:=d) (a:=a) (b:=b) (by omega) (by omega);rw[←hn,←hf,←hi,←hj,←hk,hC]at hx;obtain⟨m,e4⟩:∃m,median ltInt d i j k 0=m:=⟨_,rfl⟩;rw[e4]at hx;have t1:i<d.size:=by omega
    have t2:j<d.size:=by omega
    have t3:k<d.size:=by omega
    apply af
    ·apply af;·simp(config := { maxSteps := 3000000 }) [c8];exact⟨rfl,rfl⟩
     apply cj rfl;apply af;·simp(config := { maxSteps := 3000000 }) [c50];exact⟨rfl,rfl⟩
     simp(config := { maxSteps := 3000000 }) [t1,t2,t3,h7,e4];exact⟨rfl,rfl⟩
    by_cases z0:m.2=0
    ·rw[if_pos z0]at hx;subst hx;have y0:(m.2:Int)=0:=by omega
     simp(config := { maxSteps := 3000000 }) [y0,fy]
    ·rw[if_neg z0]at hx;have y0:¬(m.2:Int)=0:=by omega
     by_cases z1:m.2=12
     ·rw[if_pos z1]at hx;subst hx;have y1:(m.2:Int)=12:=by omega
      simp(config := { maxSteps := 3000000 }) [z0,y0,y1,fy]
     ·rw[if_neg z1]at hx;subst hx;have y1:¬(m.2:Int)=12:=by omega
      simp(config := { maxSteps := 3000000 }) [z0,z1,y0,y1,fy]
  ·have c8:¬(8:Int)≤(n:Int):=by omega
   have hx:=D4 (d:=d) (a:=a) (b:=b) (by omega);rw[←hn,←hf,←hj,hC]at hx;subst hx;simp(config := { maxSteps := 3000000 }) [c8,fy]
 ·cases h
def G8:List UInt8:=0::1::(List.replicate 2 2++(List.replicate 4 3++(List.replicate 8 4++(List.replicate 16 5++(List.replicate 32 6++(List.replicate 64 7++List.replicate 128 8))))))
theorem Kf:∀n:Nat,n<256→1≤n→1<<<bitsLen n≤2*n:=by decide+kernel
@[simp] noncomputable def Ju:List AV→Option (Prop×AV)|[.pv (.int .u64 n)]=>some (0≤n∧n<256,.pv (.int .i64 (bitsLen n.toNat:Int)))|_=>none
theorem mj:∀n:Nat,n<256→G8[n]?=some (bitsLen n).toUInt8∧bitsLen n≤8:=by decide+kernel
theorem Jw:aN Tryz.prog 218 Ju:=by
 intro ys φ r h hφ;unfold Ju at h;split at h
 ·rename_i x;cases h;obtain⟨h1,h2⟩:=hφ;obtain⟨n,rfl⟩:∃n:Nat,x=n:=⟨x.toNat,by omega⟩;rw[Int.toNat_natCast];obtain⟨e1,e2⟩:=mj n (by omega);have w1:IntKind.u8.wrap (n:Int)=(n:Int):=by rw[wrap_u8];omega
  have c1:¬(4294967296:Int)≤(n:Int):=by omega
  have c2:¬(65536:Int)≤(n:Int):=by omega
  have c3:¬(256:Int)≤(n:Int):=by omega
  refine aq ah (by kernel_rfl) (by conv=>lhs;reduce) (by simp) ?_;apply af;·simp(config := { maxSteps := 3000000 });exact⟨rfl,rfl⟩
  apply af;·simp(config := { maxSteps := 3000000 }) [c1];exact⟨rfl,rfl⟩
  apply af;·simp(config := { maxSteps := 3000000 }) [c2];exact⟨rfl,rfl⟩
  apply af;·simp(config := { maxSteps := 3000000 }) [c3];exact⟨rfl,rfl⟩
  simp(config := { maxSteps := 3000000 }) [w1];refine⟨by omega,?_⟩;show IntKind.i64.wrap (IntKind.i64.wrap ((G8[n]?.getD 0).toNat:Int))=_;rw[e1];have e3:((bitsLen n).toUInt8.toNat:Int)=(bitsLen n:Int):=by rw[show(bitsLen n).toUInt8.toNat=bitsLen n%256 from rfl,Nat.mod_eq_of_lt (by omega)]
  show IntKind.i64.wrap (IntKind.i64.wrap ((bitsLen n).toUInt8.toNat:Int))=_;have e4:IntKind.i64.wrap (bitsLen n:Int)=(bitsLen n:Int):=wrap_i64 (by omega);rw[e3,e4,e4]
 ·cases h
theorem L0:aN Tryz.prog 207 Ju:=by
 intro ys φ r h hφ;unfold Ju at h;split at h;·rename_i x;cases h;refine aq (ag Jw ah) (by kernel_rfl) (by conv=>lhs;reduce) (by simp) ?_;simp(config := { maxSteps := 3000000 }) [hφ]
 ·cases h
theorem yh (a b:UInt64):gb .xor .u64 (a.toNat:Int) (b.toNat:Int)=.int .u64 ((a^^^b).toNat:Int):=by
 have h1:(BitVec.ofInt 64 (a.toNat:Int)).toNat=a.toNat:=by rw[BitVec.ofInt_natCast,BitVec.toNat_ofNat,Nat.mod_eq_of_lt a.toNat_lt]
 have h2:(BitVec.ofInt 64 (b.toNat:Int)).toNat=b.toNat:=by rw[BitVec.ofInt_natCast,BitVec.toNat_ofNat,Nat.mod_eq_of_lt b.toNat_lt]
 unfold gb;have h4:(BitVec.ofInt IntKind.u64.bits (a.toNat:Int)^^^BitVec.ofInt IntKind.u64.bits (b.toNat:Int)).toNat=(a^^^b).toNat:=by show(BitVec.ofInt 64 (a.toNat:Int)^^^BitVec.ofInt 64 (b.toNat:Int)).toNat=_;rw[BitVec.toNat_xor,h1,h2,UInt64.toNat_xor]
 simp only[h4];refine congrArg _ ?_;exact wrap_u64 (by have:=(a^^^b).toNat_lt;omega)
theorem Jl (a b:UInt64):gb .and .u64 (a.toNat:Int) (b.toNat:Int)=.int .u64 ((a.toNat&&&b.toNat:Nat):Int):=by
 have h1:(BitVec.ofInt 64 (a.toNat:Int)).toNat=a.toNat:=by rw[BitVec.ofInt_natCast,BitVec.toNat_ofNat,Nat.mod_eq_of_lt a.toNat_lt]
 have h2:(BitVec.ofInt 64 (b.toNat:Int)).toNat=b.toNat:=by rw[BitVec.ofInt_natCast,BitVec.toNat_ofNat,Nat.mod_eq_of_lt b.toNat_lt]
 unfold gb;have h4:(BitVec.ofInt IntKind.u64.bits (a.toNat:Int)&&&BitVec.ofInt IntKind.u64.bits (b.toNat:Int)).toNat=a.toNat&&&b.toNat:=by show(BitVec.ofInt 64 (a.toNat:Int)&&&BitVec.ofInt 64 (b.toNat:Int)).toNat=_;rw[BitVec.toNat_and,h1,h2]
 simp only[h4];refine congrArg _ ?_;exact wrap_u64 (by have:=(a&&&b).toNat_lt;rw[UInt64.toNat_and]at this;omega)
theorem xN (n:Nat):IntKind.u64.wrap (n:Int)=((n%2^64:Nat):Int):=by simp only[IntKind.wrap,IntKind.bits,IntKind.signed];simp
theorem CE (a:UInt64) (k:UInt64) (h:k.toNat<64):IntKind.u64.wrap ((a.toNat:Int)*2^k.toNat)=((a<<<k).toNat:Int):=by rw[show(a.toNat:Int)*2^k.toNat=((a.toNat*2^k.toNat:Nat):Int) by simp,xN,UInt64.toNat_shiftLeft,Nat.mod_eq_of_lt h,Nat.shiftLeft_eq]
theorem IM (a:UInt64) (k:UInt64) (h:k.toNat<64):(a.toNat:Int).fdiv (2^k.toNat)=((a>>>k).toNat:Int):=by rw[UInt64.toNat_shiftRight,Nat.mod_eq_of_lt h,Nat.shiftRight_eq_div_pow,show((2:Int)^k.toNat)=((2^k.toNat:Nat):Int) by simp];rw[Int.natCast_ediv];exact Int.fdiv_eq_ediv_of_nonneg _ (Int.natCast_nonneg _)
@[simp] noncomputable def Yv:List AV→Option (Prop×AV)|[.aJ [.bx [.pv (.int .u64 n)]]]=>some (0≤n∧n<18446744073709551616,.bo 0 [.pv (.int .u64 ((xorNext (UInt64.ofNat n.toNat)).toNat:Int)),.bx [.pv (.int .u64 ((xorNext (UInt64.ofNat n.toNat)).toNat:Int))]])|_=>none
theorem UO:dr Tryz.prog 221 Yv:=by
 intro ys φ r h hφ;unfold Yv at h;split at h
 ·rename_i x;cases h;obtain⟨h1,h2⟩:=hφ;obtain⟨a,rfl⟩:∃a:UInt64,x=a.toNat:=⟨UInt64.ofNat x.toNat,by rw[UInt64.toNat_ofNat'];omega⟩;rw[Int.toNat_natCast,UInt64.ofNat_toNat];obtain⟨b1,hb1⟩:∃b1,b1=a<<<13:=⟨_,rfl⟩;obtain⟨c1,hc1⟩:∃c1,c1=a^^^b1:=⟨_,rfl⟩;obtain⟨b2,hb2⟩:∃b2,b2=c1>>>7:=⟨_,rfl⟩;obtain⟨c2,hc2⟩:∃c2,c2=c1^^^b2:=⟨_,rfl⟩;obtain⟨b3,hb3⟩:∃b3,b3=c2<<<17:=⟨_,rfl⟩;obtain⟨c3,hc3⟩:∃c3,c3=c2^^^b3:=⟨_,rfl⟩;have s1:IntKind.u64.wrap ((a.toNat:Int)*2^min 13 IntKind.u64.bits)=(b1.toNat:Int):=by rw[hb1];exact CE a 13 (by decide)
  have s2:(c1.toNat:Int).fdiv (2^min 7 IntKind.u64.bits)=(b2.toNat:Int):=by rw[hb2];exact IM c1 7 (by decide)
  have s3:IntKind.u64.wrap ((c2.toNat:Int)*2^min 17 IntKind.u64.bits)=(b3.toNat:Int):=by rw[hb3];exact CE c2 17 (by decide)
  have x1:=yh a b1;have x2:=yh c1 b2;have x3:=yh c2 b3;rw[←hc1]at x1;rw[←hc2]at x2;rw[←hc3]at x3;have hx:xorNext a=c3:=by rw[hc3,hb3,hc2,hb2,hc1,hb1];rfl
  rw[hx];refine bU ah (by kernel_rfl) (by conv=>lhs;reduce) (by simp) rfl (by simp) ?_;apply af;·simp(config := { maxSteps := 3000000 });exact⟨rfl,rfl⟩
  apply af;·simp(config := { maxSteps := 3000000 }) [s1,x1];exact⟨rfl,rfl⟩
  apply af;·simp(config := { maxSteps := 3000000 }) [s2,x2];exact⟨rfl,rfl⟩
  apply af;·simp(config := { maxSteps := 3000000 }) [s3,x3];exact⟨rfl,rfl⟩
  simp(config := { maxSteps := 3000000 })
 ·cases h
@[simp] noncomputable def Vo:List AV→Option (Prop×AV)|[.pv (.int .i64 n)]=>some (0≤n∧n<256,.pv (.int .u64 ((1<<<bitsLen n.toNat:Nat):Int)))|_=>none
theorem Z0:aN Tryz.prog 220 Vo:=by
 intro ys φ r h hφ;unfold Vo at h;split at h
 ·rename_i x;cases h;obtain⟨h1,h2⟩:=hφ;obtain⟨n,rfl⟩:∃n:Nat,x=n:=⟨x.toNat,by omega⟩;rw[Int.toNat_natCast];have e2:=(mj n (by omega)).2;have w1:IntKind.u64.wrap (n:Int)=(n:Int):=wrap_u64 (by omega);have h3:n<256:=by omega
  obtain⟨m,hm⟩:∃m,m=bitsLen n:=⟨_,rfl⟩;rw[←hm]at e2 ⊢;have hp:1<<<m=2^m:=by rw[Nat.shiftLeft_eq,Nat.one_mul]
  have hle:2^m≤2^8:=Nat.pow_le_pow_right (by omega) e2;have w2:IntKind.u64.wrap (2^min m IntKind.u64.bits)=((1<<<m:Nat):Int):=by rw[show min m IntKind.u64.bits=m from Nat.min_eq_left (by show m≤64;omega),hp,show((2:Int)^m)=((2^m:Nat):Int) by simp];exact wrap_u64 ⟨Int.natCast_nonneg _,Int.le_trans (Int.ofNat_le.2 hle) (by decide)⟩
  generalize 1<<<m=M at*;refine aq (ag L0 ah) (by kernel_rfl) (by conv=>lhs;reduce) (by simp) ?_;simp(config := { maxSteps := 3000000 }) [w1,h3,←hm,w2];exact h2
 ·cases h
theorem GN (a n m:Nat) (st:UInt64×Array Int) (idx:Nat):(breakStep a n m st idx).2.size=st.2.size:=by unfold breakStep;exact size_swp _ _ _
noncomputable def Da (F:Array Int→Nat→Nat→Array Int):List AV→Option (Prop×AV)|[.aJ [.fr e a],.pv (.int .i64 p),.pv (.int .i64 q)]=>if e=22 then(dec dH a).map fun l=>(0≤p∧p≤q∧q≤(l.length:Int)∧l.length≤200,.bo 0 [.aJ [],.fr 22 (rA (F l.toArray p.toNat q.toNat))]) else none|_=>none
@[simp] theorem GinpS_eq (F:Array Int→Nat→Nat→Array Int) (e:TypeId) (d:Array Int) (p q:Int):Da F [.aJ [.fr e (rA d)],.pv (.int .i64 p),.pv (.int .i64 q)]=if e=22 then some (0≤p∧p≤q∧q≤(d.size:Int)∧d.size≤200,.bo 0 [.aJ [],.fr 22 (rA (F d p.toNat q.toNat))]) else none:=by show(if e=22 then(dec dH (rA d)).map _ else none)=_;rw[ir];simp
theorem DQ {F:Array Int→Nat→Nat→Array Int}{ys:List AV}{φ:Prop}{r:AV} (h:Da F ys=some (φ,r)):∃(d:Array Int) (p q:Int),ys=[.aJ [.fr 22 (rA d)],.pv (.int .i64 p),.pv (.int .i64 q)]∧φ=(0≤p∧p≤q∧q≤(d.size:Int)∧d.size≤200)∧r=.bo 0 [.aJ [],.fr 22 (rA (F d p.toNat q.toNat))]:=by
 unfold Da at h;split at h
 ·split at h;·rename_i e;subst e;obtain⟨l,hl,h⟩:=Option.map_eq_some_iff.1 h;cases h;cases dz hl;exact⟨l.toArray,_,_,by rw[Af],by simp,rfl⟩
  ·cases h
 ·cases h
theorem UF:dr Tryz.prog 210 (Da breakPatterns):=by
 intro ys φ r h hφ;obtain⟨d,p,q,rfl,rfl,rfl⟩:=DQ h;obtain⟨h1,h2,h3,h4⟩:=hφ;obtain⟨a,rfl⟩:∃a:Nat,p=a:=⟨p.toNat,by omega⟩;obtain⟨b,rfl⟩:∃b:Nat,q=b:=⟨q.toNat,by omega⟩;rw[Int.toNat_natCast,Int.toNat_natCast];obtain⟨n,hn⟩:∃n,n=b-a:=⟨_,rfl⟩;have w0:IntKind.i64.wrap ((b:Int)-(a:Int))=(n:Int):=by rw[wrap_i64 (by omega)];omega
 refine bU (ag Z0 (ba (ks:=[2]) UO (by kernel_rfl) ah)) (by kernel_rfl) (by conv=>lhs;reduce) (by simp) rfl (by simp) ?_;generalize hW:breakPatterns d a b=W;unfold breakPatterns at hW;rw[←hn]at hW;apply af;·simp(config := { maxSteps := 3000000 }) [w0];exact⟨rfl,rfl⟩
 by_cases h8:n≥8
 ·have c8:(8:Int)≤(n:Int):=by omega
  simp only[if_pos h8]at hW;obtain⟨f,hf⟩:∃f,f=n/4:=⟨_,rfl⟩;obtain⟨ix,hix⟩:∃ix,ix=a+f*2-1:=⟨_,rfl⟩;obtain⟨M,hM⟩:∃M,M=1<<<bitsLen n:=⟨_,rfl⟩;rw[←hf,←hix,←hM]at hW;have h2b:=(mj n (by omega)).2;have hMp:1≤M∧M≤256:=by
   have hp:M=2^bitsLen n:=by rw[hM,Nat.shiftLeft_eq,Nat.one_mul]
   have hle:2^bitsLen n≤2^8:=Nat.pow_le_pow_right (by omega) h2b;have:0<2^bitsLen n:=Nat.pow_pos (by omega);omega
  have v1:(n:Int).tdiv 4=(f:Int):=by rw[Int.tdiv_eq_ediv_of_nonneg (by omega)];omega
  have v2:IntKind.i64.wrap (f:Int)=(f:Int):=wrap_i64 (by omega);have v3:IntKind.i64.wrap ((f:Int)*2)=(f:Int)*2:=wrap_i64 (by omega);obtain⟨y,hy⟩:∃y,y=a+f*2:=⟨_,rfl⟩;have v4:IntKind.i64.wrap ((a:Int)+(f:Int)*2)=(y:Int):=by rw[wrap_i64 (by omega)];omega
  have v5:IntKind.i64.wrap ((y:Int)-1)=(ix:Int):=by rw[wrap_i64 (by omega)];omega
  have v6:IntKind.i64.wrap ((y:Int)+1)=(y:Int)+1:=wrap_i64 (by omega);have v7:IntKind.u64.wrap (n:Int)=(n:Int):=wrap_u64 (by omega);have v8:(n:Int)<256:=by omega
  obtain⟨r0,hr0⟩:∃r0,r0=UInt64.ofNat n:=⟨_,rfl⟩;have hr1:(r0.toNat:Int)=(n:Int):=by rw[hr0,UInt64.toNat_ofNat',Nat.mod_eq_of_lt (by omega)]
  rw[←hr0]at hW;obtain⟨st,hst⟩:∃st:Nat→UInt64×Array Int,(st 0=(r0,d))∧∀t,st (t+1)=breakStep a n M (st t) (ix+t):=⟨Nat.rec (r0,d) fun t s=>breakStep a n M s (ix+t),rfl,fun _=>rfl⟩;have hW3:(st 3).2=W:=by rw[hst.2 2,hst.2 1,hst.2 0,hst.1];exact hW
  have hsz:∀t,(st t).2.size=d.size:=by intro t;induction t with|zero=>rw[hst.1]|succ t ih=>rw[hst.2,GN,ih]
  apply af;·simp(config := { maxSteps := 3000000 }) [c8];exact⟨rfl,rfl⟩
  apply cj rfl;apply af;·simp(config := { maxSteps := 3000000 }) [v7];exact⟨rfl,rfl⟩
  apply af;·simp(config := { maxSteps := 3000000 }) [v8,←hM];exact⟨rfl,rfl⟩
  apply af;·simp(config := { maxSteps := 3000000 }) [v1,v2,v3,v4,v5];exact⟨rfl,rfl⟩
  rw[bd];refine al (fun t:Nat=>t≤3) (fun t=>⟨[(0,.own 999),(1,.pv (.int .i64 (a:Int))),(6,.pv (.int .i64 (n:Int))),(7,.ptr 7 0),(8,.pv (.int .u64 (M:Int))),(9,.pv (.int .i64 ((ix:Int)+(t:Int))))],[(999,.arr 22 (rA (st t).2)),(7,.box [.pv (.int .u64 ((st t).1.toNat:Int))])]⟩) (fun t=>3-t) [] 0 (by omega) ?_ ?_;·simp[hst.1,hr1]
  ·intro t ht;have hD:=hsz t;have hs:=hst.2 t;have hM2:M≤2*n:=by rw[hM];exact Kf n (by omega) (by omega)
   rcases hq:st t with⟨r,D⟩;rw[hq]at hD hs;have hD:D.size=d.size:=hD;rw[jW];dsimp only;by_cases ht3:t<3
   ·obtain⟨i,hi⟩:∃i,i=ix+t:=⟨_,rfl⟩;obtain⟨r',hr'⟩:∃r',r'=xorNext r:=⟨_,rfl⟩;obtain⟨o,ho⟩:∃o,o=r'.toNat&&&(M-1):=⟨_,rfl⟩;obtain⟨o2,ho2⟩:∃o2,o2=if o≥n then o-n else o:=⟨_,rfl⟩;have hs:st (t+1)=(r',swp D i (a+o2)):=by rw[hs,ho2,ho,hr',hi];rfl
    have ole:o≤M-1:=by rw[ho];exact Nat.and_le_right
    have o2lt:o2<n:=by rw[ho2];split<;>omega
    obtain⟨c,hc⟩:∃c,c=a+o2:=⟨_,rfl⟩;rw[←hc]at hs;have z1:(ix:Int)+(t:Int)=(i:Int):=by omega
    have z2:(i:Int)≤(y:Int)+1:=by omega
    have z3:(r.toNat:Int)<18446744073709551616:=by have:=r.toNat_lt;omega
    have z4:IntKind.u64.wrap ((M:Int)-1)=(M:Int)-1:=wrap_u64 (by omega);have z5:gb .and .u64 (r'.toNat:Int) ((M:Int)-1)=.int .u64 (o:Int):=by have:=Jl r' (UInt64.ofNat (M-1));rw[UInt64.toNat_ofNat',Nat.mod_eq_of_lt (by omega:M-1<2^64)]at this;rw[show(M:Int)-1=((M-1:Nat):Int) by omega,this,ho]
    have z6:IntKind.i64.wrap (o:Int)=(o:Int):=wrap_i64 (by omega);have z7:IntKind.i64.wrap ((i:Int)+1)=(i:Int)+1:=wrap_i64 (by omega);have z8:IntKind.i64.wrap ((a:Int)+(o2:Int))=(c:Int):=by rw[wrap_i64 (by omega)];omega
    have q1:i<D.size:=by omega
    have q2:c<D.size:=by omega
    have r1:=bm q1;have r2:=bm q2;have r3:=bm (d:=D.setIfInBounds i (gA D c)) (i:=c) (by rw[Array.size_setIfInBounds];omega);apply af;·simp(config := { maxSteps := 3000000 }) [v1,v2,v3,v4,v6,z1,z2];exact⟨rfl,rfl⟩
    rw[bg];rw[bd];apply af;·simp(config := { maxSteps := 3000000 }) [z3,←hr',z4,z5,z6,z1];exact⟨rfl,rfl⟩
    by_cases hon:o≥n
    ·rw[if_pos hon]at ho2;have k1:(n:Int)≤(o:Int):=by omega
     have k2:IntKind.i64.wrap ((o:Int)-(n:Int))=(o2:Int):=by rw[wrap_i64 (by omega)];omega
     apply af;·simp(config := { maxSteps := 3000000 }) [k1,k2];exact⟨rfl,rfl⟩
     simp(config := { maxSteps := 3000000 }) [z8,z7,q1,q2,r1,r2,r3];exact⟨t+1,by omega,⟨by omega,by rw[hs];rfl,by rw[hs]⟩,by omega⟩
    ·rw[if_neg hon]at ho2;subst ho2;have k1:¬(n:Int)≤(o2:Int):=by omega
     apply af;·simp(config := { maxSteps := 3000000 }) [k1];exact⟨rfl,rfl⟩
     simp(config := { maxSteps := 3000000 }) [z8,z7,q1,q2,r1,r2,r3];exact⟨t+1,by omega,⟨by omega,by rw[hs];rfl,by rw[hs]⟩,by omega⟩
   ·have:t=3:=by omega
    subst this;have z1:¬(ix:Int)+3≤(y:Int)+1:=by omega
    rw[hq]at hW3;have hW3:D=W:=hW3;subst hW3;simp(config := { maxSteps := 3000000 }) [v1,v2,v3,v4,v6,z1]
 ·have c8:¬(8:Int)≤(n:Int):=by omega
  simp only[if_neg h8]at hW;subst hW;simp(config := { maxSteps := 3000000 }) [c8]
noncomputable def MC:List AV→Option (Prop×AV)|[.aJ [.fr e a],.pv (.int .i64 p),.pv (.int .i64 q),.pv (.int .i64 v)]=>if e=22 then(dec dH a).map fun l=>((0≤p∧p≤v)∧v<q∧q≤(l.length:Int)∧l.length≤1000000,.bo 0 [.pv (.int .i64 ((partitionEqual ltInt l.toArray p.toNat q.toNat v.toNat).1:Int)),.fr 22 (rA (partitionEqual ltInt l.toArray p.toNat q.toNat v.toNat).2)]) else none|_=>none
@[simp] theorem Gpeq_eq (e:TypeId) (d:Array Int) (p q v:Int):MC [.aJ [.fr e (rA d)],.pv (.int .i64 p),.pv (.int .i64 q),.pv (.int .i64 v)]=if e=22 then some ((0≤p∧p≤v)∧v<q∧q≤(d.size:Int)∧d.size≤1000000,.bo 0 [.pv (.int .i64 ((partitionEqual ltInt d p.toNat q.toNat v.toNat).1:Int)),.fr 22 (rA (partitionEqual ltInt d p.toNat q.toNat v.toNat).2)]) else none:=by show(if e=22 then(dec dH (rA d)).map _ else none)=_;rw[ir];simp
theorem aan:dr Tryz.prog 215 MC:=by
 intro ys φ r h hφ;unfold MC at h;split at h
 ·rename_i e ra p q v;split at h
  ·rename_i he;subst he;obtain⟨l,hl,h⟩:=Option.map_eq_some_iff.1 h;cases h;obtain⟨d,rfl,rfl⟩:=lG hl;obtain⟨⟨h1,h2⟩,h3,h4,h5⟩:=hφ;rw[Array.length_toList]at h4 h5;obtain⟨a,rfl⟩:∃a:Nat,p=a:=⟨p.toNat,by omega⟩;obtain⟨b,rfl⟩:∃a:Nat,q=a:=⟨q.toNat,by omega⟩;obtain⟨c,rfl⟩:∃a:Nat,v=a:=⟨v.toNat,by omega⟩;rw[Int.toNat_natCast,Int.toNat_natCast,Int.toNat_natCast,Array.toArray_toList];refine bU (ag nd ah) (by kernel_rfl) (by conv=>lhs;reduce) (by simp) rfl (by simp) ?_;unfold partitionEqual;generalize hW:partEqLoop ltInt a (a+1) (b-1) (swp d a c)=W;have q1:a<d.size:=by omega
   have q2:c<d.size:=by omega
   have r1:=bm q1;have r2:=bm q2;have r3:=bm (d:=d.setIfInBounds a (gA d c)) (i:=c) (by rw[Array.size_setIfInBounds];omega);obtain⟨i0,hi0⟩:∃i0,i0=a+1:=⟨_,rfl⟩;obtain⟨j0,hj0⟩:∃j0,j0=b-1:=⟨_,rfl⟩;have w1:IntKind.i64.wrap ((a:Int)+1)=(i0:Int):=by rw[wrap_i64 (by omega)];omega
   have w2:IntKind.i64.wrap ((b:Int)-1)=(j0:Int):=by rw[wrap_i64 (by omega)];omega
   rw[←hi0,←hj0]at hW;apply af;·simp(config := { maxSteps := 3000000 });exact⟨rfl,rfl⟩
   apply af;·simp(config := { maxSteps := 3000000 }) [q1,q2,r1,r2,r3];exact⟨rfl,rfl⟩
   rw[show(d.setIfInBounds a (gA d c)).setIfInBounds c (gA d a)=swp d a c from rfl];apply af;·simp(config := { maxSteps := 3000000 }) [w1,w2];exact⟨rfl,rfl⟩
   rw[bg]
   ·rw[bd];refine al (fun x:(Nat×Nat)×Array Int=>(a<x.1.1∧x.1.1≤x.1.2+1)∧x.1.2<b∧x.2.size=d.size∧partEqLoop ltInt a x.1.1 x.1.2 x.2=W) (fun x=>⟨[(0,.own 999),(1,.pv (.int .i64 (a:Int))),(9,.pv (.int .i64 (x.1.1:Int))),(10,.pv (.int .i64 (x.1.2:Int)))],[(999,.arr 22 (rA x.2))]⟩) (fun x=>x.1.2) [] ((i0,j0),swp d a c) ⟨⟨by show a<i0;omega,by show i0≤j0+1;omega⟩,by show j0<b;omega,size_swp _ _ _,hW⟩ ?_ ?_;·simp
    ·rintro⟨⟨i,j⟩,D⟩ ⟨⟨g1,g2⟩,g3,g4,g5⟩;have g1:a<i:=g1;have g2:i≤j+1:=g2;have g3:j<b:=g3;have g4:D.size=d.size:=g4;have g5:partEqLoop ltInt a i j D=W:=g5;have qa:a<D.size:=by omega
     have ra:=bm qa;obtain⟨pU,hpU⟩:∃pU:Int→Bool,pU=fun x=>!ltInt D[a]! x:=⟨_,rfl⟩;obtain⟨pD,hpD⟩:∃pD:Int→Bool,pD=fun x=>ltInt D[a]! x:=⟨_,rfl⟩;obtain⟨i2,hi2⟩:∃i2,i2=scanUp pU D j i:=⟨_,rfl⟩;obtain⟨j2,hj2⟩:∃j2,j2=scanDown pD D i2 j:=⟨_,rfl⟩;have u1:=scanUp_spec pU D j _ i rfl;rw[←hi2]at u1;have u2:=scanDown_spec pD D i2 j;rw[←hj2]at u2;have u3:i≤i2∧i2≤j+1:=⟨u1.1,u1.2.1 g2⟩;have u4:j2≤j∧i2≤j2+1:=⟨u2.1,u2.2.1 u3.2⟩;rw[jW];dsimp only;rw[bd];apply af
     ·rw[bd];refine al (fun s:Nat=>i≤s∧s≤j+1∧scanUp pU D j s=i2) (fun s=>⟨[(0,.own 999),(1,.pv (.int .i64 (a:Int))),(9,.pv (.int .i64 (s:Int))),(10,.pv (.int .i64 (j:Int)))],[(999,.arr 22 (rA D))]⟩) (fun s=>j+1-s) [] i (by refine⟨?_,?_,?_⟩<;>first|omega|exact hi2.symm) ?_ ?_;·simp
      ·rintro s ⟨l1,l2,l3⟩;by_cases hc:s≤j
       ·have ws:IntKind.i64.wrap ((s:Int)+1)=((s+1:Nat):Int):=by rw[wrap_i64 (by omega)];omega
        have c1:(s:Int)≤(j:Int):=by omega
        have q1:s<D.size:=by omega
        have r1:=bm q1;cases hb:(!ltInt (gA D a) (gA D s)) with|true=>have e:=scanUp_go pU D j s hc (by rw[hpU];exact hb);rw[e]at l3;obtain⟨s',hs'⟩:∃s',s'=s+1:=⟨_,rfl⟩;rw[←hs']at ws l3;simp(config := { maxSteps := 3000000 }) [c1,q1,qa,r1,ra,hb,ws];exact⟨s',⟨by omega,by omega,l3⟩,rfl,by omega⟩|false=>have e:=scanUp_end pU D j s (.inr (by rw[hpU];exact hb));rw[e]at l3;subst l3;simp(config := { maxSteps := 3000000 }) [c1,q1,qa,r1,ra,hb];try exact⟨rfl,rfl⟩
       ·have c1:¬(s:Int)≤(j:Int):=by omega
        have e:=scanUp_end pU D j s (.inl hc);rw[e]at l3;subst l3;rcases Nat.lt_or_ge s D.size with q1|q1;·have r1:=bm q1;simp(config := { maxSteps := 3000000 }) [c1,q1,qa,r1,ra];try exact⟨rfl,rfl⟩
        ·have r1:=ma q1;simp(config := { maxSteps := 3000000 }) [c1,qa,r1,ra];try exact⟨rfl,rfl⟩
     apply af
     ·rw[bd];refine al (fun s:Nat=>i2≤s+1∧s≤j∧scanDown pD D i2 s=j2) (fun s=>⟨[(0,.own 999),(1,.pv (.int .i64 (a:Int))),(9,.pv (.int .i64 (i2:Int))),(10,.pv (.int .i64 (s:Int)))],[(999,.arr 22 (rA D))]⟩) (fun s=>s) [] j (by refine⟨?_,?_,?_⟩<;>first|omega|exact hj2.symm) ?_ ?_;·simp
      ·rintro s ⟨l1,l2,l3⟩;by_cases hc:i2≤s
       ·have ws:IntKind.i64.wrap ((s:Int)-1)=((s-1:Nat):Int):=by rw[wrap_i64 (by omega)];omega
        have c1:(i2:Int)≤(s:Int):=by omega
        have q1:s<D.size:=by omega
        have r1:=bm q1;cases hb:ltInt (gA D a) (gA D s) with|true=>have e:=scanDown_go pD D i2 s hc (by omega) (by rw[hpD];exact hb);rw[e]at l3;obtain⟨s',hs'⟩:∃s',s'=s-1:=⟨_,rfl⟩;rw[←hs']at ws l3;simp(config := { maxSteps := 3000000 }) [c1,q1,qa,r1,ra,hb,ws];exact⟨s',⟨by omega,by omega,l3⟩,rfl,by omega⟩|false=>have e:=scanDown_end pD D i2 s (.inr (by rw[hpD];exact hb));rw[e]at l3;subst l3;simp(config := { maxSteps := 3000000 }) [c1,q1,qa,r1,ra,hb];try exact⟨rfl,rfl⟩
       ·have c1:¬(i2:Int)≤(s:Int):=by omega
        have e:=scanDown_end pD D i2 s (.inl hc);rw[e]at l3;subst l3;rcases Nat.lt_or_ge s D.size with q1|q1;·have r1:=bm q1;simp(config := { maxSteps := 3000000 }) [c1,q1,qa,r1,ra];try exact⟨rfl,rfl⟩
        ·have r1:=ma q1;simp(config := { maxSteps := 3000000 }) [c1,qa,r1,ra];try exact⟨rfl,rfl⟩
     by_cases hgt:i2>j2
     ·have k1:(j2:Int)<(i2:Int):=by omega
      have e:=partEq_break ltInt a i j D (by rw[hi2,hpU]) (by rw[hj2,hpD]) hgt;rw[e]at g5;have e1:(i2:Int)=(W.1:Int):=by rw[←g5]
      have e2:rA D=rA W.2:=by rw[←g5]
      simp(config := { maxSteps := 3000000 }) [k1];exact⟨e1,e2⟩
     ·have k1:¬(j2:Int)<(i2:Int):=by omega
      have e:=partEq_go ltInt a i j D (by rw[hi2,hpU]) (by rw[hj2,hpD]) hgt;rw[e]at g5;have lt2:=scans_lt ltInt a i j D (by omega) (i2:=i2) (j2:=j2) (by rw[hi2,hpU]) (by rw[hj2,hpD]) (by omega);have z1:i2<D.size:=by omega
      have z2:j2<D.size:=by omega
      have r1:=bm z1;have r2:=bm z2;have r3:=bm (d:=D.setIfInBounds i2 (gA D j2)) (i:=j2) (by rw[Array.size_setIfInBounds];omega);have v1:IntKind.i64.wrap ((i2:Int)+1)=(i2:Int)+1:=wrap_i64 (by omega);obtain⟨j3,hj3⟩:∃j3,j3=j2-1:=⟨_,rfl⟩;have v2:IntKind.i64.wrap ((j2:Int)-1)=(j3:Int):=by rw[wrap_i64 (by omega)];omega
      rw[←hj3]at g5;apply af;·simp(config := { maxSteps := 3000000 }) [k1];exact⟨rfl,rfl⟩
      apply af;·simp(config := { maxSteps := 3000000 }) [z1,z2,r1,r2,r3];exact⟨rfl,rfl⟩
      simp(config := { maxSteps := 3000000 }) [v1,v2];exact⟨i2+1,j3,swp D i2 j2,⟨⟨by omega,by omega⟩,by omega,by rw[size_swp,g4],g5⟩,⟨⟨by omega,rfl⟩,rfl⟩,by omega⟩
  ·cases h
 ·cases h
noncomputable def OY:List AV→Option (Prop×AV)|[.aJ [.fr e a],.pv (.int .i64 p),.pv (.int .i64 q),.pv (.int .i64 v)]=>if e=22 then(dec dH a).map fun l=>((0≤p∧p≤v)∧v<q∧q≤(l.length:Int)∧l.length≤1000000,.bo 0 [.aJ [.pv (.int .i64 ((partition ltInt l.toArray p.toNat q.toNat v.toNat).1:Int)),.pv (.bool (partition ltInt l.toArray p.toNat q.toNat v.toNat).2.1)],.fr 22 (rA (partition ltInt l.toArray p.toNat q.toNat v.toNat).2.2)]) else none|_=>none
@[simp] theorem Gprt_eq (e:TypeId) (d:Array Int) (p q v:Int):OY [.aJ [.fr e (rA d)],.pv (.int .i64 p),.pv (.int .i64 q),.pv (.int .i64 v)]=if e=22 then some ((0≤p∧p≤v)∧v<q∧q≤(d.size:Int)∧d.size≤1000000,.bo 0 [.aJ [.pv (.int .i64 ((partition ltInt d p.toNat q.toNat v.toNat).1:Int)),.pv (.bool (partition ltInt d p.toNat q.toNat v.toNat).2.1)],.fr 22 (rA (partition ltInt d p.toNat q.toNat v.toNat).2.2)]) else none:=by show(if e=22 then(dec dH (rA d)).map _ else none)=_;rw[ir];simp
theorem WM:dr Tryz.prog 216 OY:=by
 intro ys φ r h hφ;unfold OY at h;split at h
 ·rename_i e ra p q v;split at h
  ·rename_i he;subst he;obtain⟨l,hl,h⟩:=Option.map_eq_some_iff.1 h;cases h;obtain⟨d,rfl,rfl⟩:=lG hl;obtain⟨⟨h1,h2⟩,h3,h4,h5⟩:=hφ;rw[Array.length_toList]at h4 h5;obtain⟨a,rfl⟩:∃a:Nat,p=a:=⟨p.toNat,by omega⟩;obtain⟨b,rfl⟩:∃a:Nat,q=a:=⟨q.toNat,by omega⟩;obtain⟨c,rfl⟩:∃a:Nat,v=a:=⟨v.toNat,by omega⟩;rw[Int.toNat_natCast,Int.toNat_natCast,Int.toNat_natCast,Array.toArray_toList];refine bU (ag nd ah) (by kernel_rfl) (by conv=>lhs;reduce) (by simp) rfl (by simp) ?_;generalize hW:partition ltInt d a b c=W;have q1:a<d.size:=by omega
   have q2:c<d.size:=by omega
   have r1:=bm q1;have r2:=bm q2;have r3:=bm (d:=d.setIfInBounds a (gA d c)) (i:=c) (by rw[Array.size_setIfInBounds];omega);obtain⟨i,hi⟩:∃i,i=a+1:=⟨_,rfl⟩;obtain⟨j,hj⟩:∃j,j=b-1:=⟨_,rfl⟩;have w1:IntKind.i64.wrap ((a:Int)+1)=(i:Int):=by rw[wrap_i64 (by omega)];omega
   have w2:IntKind.i64.wrap ((b:Int)-1)=(j:Int):=by rw[wrap_i64 (by omega)];omega
   apply af;·simp(config := { maxSteps := 3000000 });exact⟨rfl,rfl⟩
   apply af;·simp(config := { maxSteps := 3000000 }) [q1,q2,r1,r2,r3];exact⟨rfl,rfl⟩
   rw[show(d.setIfInBounds a (gA d c)).setIfInBounds c (gA d a)=swp d a c from rfl];obtain⟨D,hDD⟩:∃D,D=swp d a c:=⟨_,rfl⟩;have g4:D.size=d.size:=by rw[hDD,size_swp]
   rw[←hDD];clear r1 r2 r3;apply af;·simp(config := { maxSteps := 3000000 }) [w1,w2];exact⟨rfl,rfl⟩
   have g1:a<i:=by omega
   have g2:i≤j+1:=by omega
   have g3:j<b:=by omega
   have qa:a<D.size:=by omega
   have ra:=bm qa;obtain⟨pU,hpU⟩:∃pU:Int→Bool,pU=fun x=>ltInt x D[a]!:=⟨_,rfl⟩;obtain⟨pD,hpD⟩:∃pD:Int→Bool,pD=fun x=>!ltInt x D[a]!:=⟨_,rfl⟩;obtain⟨i2,hi2⟩:∃i2,i2=scanUp pU D j i:=⟨_,rfl⟩;obtain⟨j2,hj2⟩:∃j2,j2=scanDown pD D i2 j:=⟨_,rfl⟩;have u1:=scanUp_spec pU D j _ i rfl;rw[←hi2]at u1;have u2:=scanDown_spec pD D i2 j;rw[←hj2]at u2;have u3:i≤i2∧i2≤j+1:=⟨u1.1,u1.2.1 g2⟩;have u4:j2≤j∧i2≤j2+1:=⟨u2.1,u2.2.1 u3.2⟩;apply af
   ·rw[bd];refine al (fun s:Nat=>i≤s∧s≤j+1∧scanUp pU D j s=i2) (fun s=>⟨[(0,.own 999),(1,.pv (.int .i64 (a:Int))),(10,.pv (.int .i64 (s:Int))),(11,.pv (.int .i64 (j:Int)))],[(999,.arr 22 (rA D))]⟩) (fun s=>j+1-s) [] i (by refine⟨?_,?_,?_⟩<;>first|omega|exact hi2.symm) ?_ ?_;·simp
    ·rintro s ⟨l1,l2,l3⟩;by_cases hc:s≤j
     ·have ws:IntKind.i64.wrap ((s:Int)+1)=((s+1:Nat):Int):=by rw[wrap_i64 (by omega)];omega
      have c1:(s:Int)≤(j:Int):=by omega
      have q1:s<D.size:=by omega
      have r1:=bm q1;cases hb:ltInt (gA D s) (gA D a) with|true=>have e:=scanUp_go pU D j s hc (by rw[hpU];exact hb);rw[e]at l3;obtain⟨s',hs'⟩:∃s',s'=s+1:=⟨_,rfl⟩;rw[←hs']at ws l3;simp(config := { maxSteps := 3000000 }) [c1,q1,qa,r1,ra,hb,ws];exact⟨s',⟨by omega,by omega,l3⟩,rfl,by omega⟩|false=>have e:=scanUp_end pU D j s (.inr (by rw[hpU];exact hb));rw[e]at l3;subst l3;simp(config := { maxSteps := 3000000 }) [c1,q1,qa,r1,ra,hb];try exact⟨rfl,rfl⟩
     ·have c1:¬(s:Int)≤(j:Int):=by omega
      have e:=scanUp_end pU D j s (.inl hc);rw[e]at l3;subst l3;rcases Nat.lt_or_ge s D.size with q1|q1;·have r1:=bm q1;simp(config := { maxSteps := 3000000 }) [c1,q1,qa,r1,ra];try exact⟨rfl,rfl⟩
      ·have r1:=ma q1;simp(config := { maxSteps := 3000000 }) [c1,qa,r1,ra];try exact⟨rfl,rfl⟩
   apply af
   ·rw[bd];refine al (fun s:Nat=>i2≤s+1∧s≤j∧scanDown pD D i2 s=j2) (fun s=>⟨[(0,.own 999),(1,.pv (.int .i64 (a:Int))),(10,.pv (.int .i64 (i2:Int))),(11,.pv (.int .i64 (s:Int)))],[(999,.arr 22 (rA D))]⟩) (fun s=>s) [] j (by refine⟨?_,?_,?_⟩<;>first|omega|exact hj2.symm) ?_ ?_;·simp
    ·rintro s ⟨l1,l2,l3⟩;by_cases hc:i2≤s
     ·have ws:IntKind.i64.wrap ((s:Int)-1)=((s-1:Nat):Int):=by rw[wrap_i64 (by omega)];omega
      have c1:(i2:Int)≤(s:Int):=by omega
      have q1:s<D.size:=by omega
      have r1:=bm q1;cases hb:(!ltInt (gA D s) (gA D a)) with|true=>have e:=scanDown_go pD D i2 s hc (by omega) (by rw[hpD];exact hb);rw[e]at l3;obtain⟨s',hs'⟩:∃s',s'=s-1:=⟨_,rfl⟩;rw[←hs']at ws l3;simp(config := { maxSteps := 3000000 }) [c1,q1,qa,r1,ra,hb,ws];exact⟨s',⟨by omega,by omega,l3⟩,rfl,by omega⟩|false=>have e:=scanDown_end pD D i2 s (.inr (by rw[hpD];exact hb));rw[e]at l3;subst l3;simp(config := { maxSteps := 3000000 }) [c1,q1,qa,r1,ra,hb];try exact⟨rfl,rfl⟩
     ·have c1:¬(i2:Int)≤(s:Int):=by omega
      have e:=scanDown_end pD D i2 s (.inl hc);rw[e]at l3;subst l3;rcases Nat.lt_or_ge s D.size with q1|q1;·have r1:=bm q1;simp(config := { maxSteps := 3000000 }) [c1,q1,qa,r1,ra];try exact⟨rfl,rfl⟩
      ·have r1:=ma q1;simp(config := { maxSteps := 3000000 }) [c1,qa,r1,ra];try exact⟨rfl,rfl⟩
   have z2:j2<D.size:=by omega
   have r2:=bm z2;by_cases hgt:i2>j2
   ·have k1:(j2:Int)<(i2:Int):=by omega
    have e:=part_first_break ltInt d a b c hi hj hDD (by rw[hi2,hpU]) (by rw[hj2,hpD]) hgt;rw[hW]at e;subst e;have r3:=bm (d:=D.setIfInBounds j2 (gA D a)) (i:=a) (by rw[Array.size_setIfInBounds];omega);simp(config := { maxSteps := 3000000 }) [k1,qa,z2,ra,r2,r3];rfl
   ·have k1:¬(j2:Int)<(i2:Int):=by omega
    have e:=part_first_go ltInt d a b c hi hj hDD (by rw[hi2,hpU]) (by rw[hj2,hpD]) hgt;rw[hW]at e;have lt2:=part_scans_lt ltInt a i j D (by omega) (i2:=i2) (j2:=j2) (by rw[hi2,hpU]) (by rw[hj2,hpD]) (by omega);obtain⟨V,hV⟩:∃V,V=partLoop ltInt a (i2+1) (j2-1) (swp D i2 j2):=⟨_,rfl⟩;rw[←hV]at e;subst e;obtain⟨i3,hi3⟩:∃i3,i3=i2+1:=⟨_,rfl⟩;obtain⟨j3,hj3⟩:∃j3,j3=j2-1:=⟨_,rfl⟩;rw[←hi3,←hj3]at hV;have z1:i2<D.size:=by omega
    have r1:=bm z1;have r3:=bm (d:=D.setIfInBounds i2 (gA D j2)) (i:=j2) (by rw[Array.size_setIfInBounds];omega);have v1:IntKind.i64.wrap ((i2:Int)+1)=(i3:Int):=by rw[wrap_i64 (by omega)];omega
    have v2:IntKind.i64.wrap ((j2:Int)-1)=(j3:Int):=by rw[wrap_i64 (by omega)];omega
    apply af;·simp(config := { maxSteps := 3000000 }) [k1];exact⟨rfl,rfl⟩
    apply af;·simp(config := { maxSteps := 3000000 }) [z1,z2,r1,r2,r3];exact⟨rfl,rfl⟩
    rw[show(D.setIfInBounds i2 (gA D j2)).setIfInBounds j2 (gA D i2)=swp D i2 j2 from rfl];apply af;·simp(config := { maxSteps := 3000000 }) [v1];exact⟨rfl,rfl⟩
    apply af;·simp(config := { maxSteps := 3000000 }) [v2];exact⟨rfl,rfl⟩
    rw[bg];rw[bd];refine al (fun x:(Nat×Nat)×Array Int=>(a<x.1.1∧x.1.1≤x.1.2+1)∧x.1.2<b∧x.2.size=d.size∧V=partLoop ltInt a x.1.1 x.1.2 x.2) (fun x=>⟨[(0,.own 999),(1,.pv (.int .i64 (a:Int))),(10,.pv (.int .i64 (x.1.1:Int))),(11,.pv (.int .i64 (x.1.2:Int)))],[(999,.arr 22 (rA x.2))]⟩) (fun x=>x.1.2) [] ((i3,j3),swp D i2 j2) ⟨⟨by show a<i3;omega,by show i3≤j3+1;omega⟩,by show j3<b;omega,by rw[size_swp,g4],hV⟩ ?_ ?_;·simp
    ·clear hV hi2 hj2 u1 u2 u3 u4 hi hj hi3 hj3 v1 v2 r1 r2 r3 z1 z2 k1 hgt lt2 w1 w2 g1 g2 g3 q1 q2 hDD g4 qa ra hpU hpD hW i2 j2 pU pD;clear D;rintro⟨⟨i,j⟩,D⟩ ⟨⟨g1,g2⟩,g3,g4,g5⟩;have g1:a<i:=g1;have g2:i≤j+1:=g2;have g3:j<b:=g3;have g4:D.size=d.size:=g4;have g5:V=partLoop ltInt a i j D:=g5;have qa:a<D.size:=by omega
     have ra:=bm qa;obtain⟨pU,hpU⟩:∃pU:Int→Bool,pU=fun x=>ltInt x D[a]!:=⟨_,rfl⟩;obtain⟨pD,hpD⟩:∃pD:Int→Bool,pD=fun x=>!ltInt x D[a]!:=⟨_,rfl⟩;obtain⟨i2,hi2⟩:∃i2,i2=scanUp pU D j i:=⟨_,rfl⟩;obtain⟨j2,hj2⟩:∃j2,j2=scanDown pD D i2 j:=⟨_,rfl⟩;have u1:=scanUp_spec pU D j _ i rfl;rw[←hi2]at u1;have u2:=scanDown_spec pD D i2 j;rw[←hj2]at u2;have u3:i≤i2∧i2≤j+1:=⟨u1.1,u1.2.1 g2⟩;have u4:j2≤j∧i2≤j2+1:=⟨u2.1,u2.2.1 u3.2⟩;rw[jW];dsimp only;rw[bd];apply af
     ·rw[bd];refine al (fun s:Nat=>i≤s∧s≤j+1∧scanUp pU D j s=i2) (fun s=>⟨[(0,.own 999),(1,.pv (.int .i64 (a:Int))),(10,.pv (.int .i64 (s:Int))),(11,.pv (.int .i64 (j:Int)))],[(999,.arr 22 (rA D))]⟩) (fun s=>j+1-s) [] i (by refine⟨?_,?_,?_⟩<;>first|omega|exact hi2.symm) ?_ ?_;·simp
      ·rintro s ⟨l1,l2,l3⟩;by_cases hc:s≤j
       ·have ws:IntKind.i64.wrap ((s:Int)+1)=((s+1:Nat):Int):=by rw[wrap_i64 (by omega)];omega
        have c1:(s:Int)≤(j:Int):=by omega
        have q1:s<D.size:=by omega
        have r1:=bm q1;cases hb:ltInt (gA D s) (gA D a) with|true=>have e:=scanUp_go pU D j s hc (by rw[hpU];exact hb);rw[e]at l3;obtain⟨s',hs'⟩:∃s',s'=s+1:=⟨_,rfl⟩;rw[←hs']at ws l3;simp(config := { maxSteps := 3000000 }) [c1,q1,qa,r1,ra,hb,ws];exact⟨s',⟨by omega,by omega,l3⟩,rfl,by omega⟩|false=>have e:=scanUp_end pU D j s (.inr (by rw[hpU];exact hb));rw[e]at l3;subst l3;simp(config := { maxSteps := 3000000 }) [c1,q1,qa,r1,ra,hb];try exact⟨rfl,rfl⟩
       ·have c1:¬(s:Int)≤(j:Int):=by omega
        have e:=scanUp_end pU D j s (.inl hc);rw[e]at l3;subst l3;rcases Nat.lt_or_ge s D.size with q1|q1;·have r1:=bm q1;simp(config := { maxSteps := 3000000 }) [c1,q1,qa,r1,ra];try exact⟨rfl,rfl⟩
        ·have r1:=ma q1;simp(config := { maxSteps := 3000000 }) [c1,qa,r1,ra];try exact⟨rfl,rfl⟩
     apply af
     ·rw[bd];refine al (fun s:Nat=>i2≤s+1∧s≤j∧scanDown pD D i2 s=j2) (fun s=>⟨[(0,.own 999),(1,.pv (.int .i64 (a:Int))),(10,.pv (.int .i64 (i2:Int))),(11,.pv (.int .i64 (s:Int)))],[(999,.arr 22 (rA D))]⟩) (fun s=>s) [] j (by refine⟨?_,?_,?_⟩<;>first|omega|exact hj2.symm) ?_ ?_;·simp
      ·rintro s ⟨l1,l2,l3⟩;by_cases hc:i2≤s
       ·have ws:IntKind.i64.wrap ((s:Int)-1)=((s-1:Nat):Int):=by rw[wrap_i64 (by omega)];omega
        have c1:(i2:Int)≤(s:Int):=by omega
        have q1:s<D.size:=by omega
        have r1:=bm q1;cases hb:(!ltInt (gA D s) (gA D a)) with|true=>have e:=scanDown_go pD D i2 s hc (by omega) (by rw[hpD];exact hb);rw[e]at l3;obtain⟨s',hs'⟩:∃s',s'=s-1:=⟨_,rfl⟩;rw[←hs']at ws l3;simp(config := { maxSteps := 3000000 }) [c1,q1,qa,r1,ra,hb,ws];exact⟨s',⟨by omega,by omega,l3⟩,rfl,by omega⟩|false=>have e:=scanDown_end pD D i2 s (.inr (by rw[hpD];exact hb));rw[e]at l3;subst l3;simp(config := { maxSteps := 3000000 }) [c1,q1,qa,r1,ra,hb];try exact⟨rfl,rfl⟩
       ·have c1:¬(i2:Int)≤(s:Int):=by omega
        have e:=scanDown_end pD D i2 s (.inl hc);rw[e]at l3;subst l3;rcases Nat.lt_or_ge s D.size with q1|q1;·have r1:=bm q1;simp(config := { maxSteps := 3000000 }) [c1,q1,qa,r1,ra];try exact⟨rfl,rfl⟩
        ·have r1:=ma q1;simp(config := { maxSteps := 3000000 }) [c1,qa,r1,ra];try exact⟨rfl,rfl⟩
     have z2:j2<D.size:=by omega
     have r2:=bm z2;by_cases hgt:i2>j2
     ·have k1:(j2:Int)<(i2:Int):=by omega
      have e:=part_break ltInt a i j D (i2:=i2) (j2:=j2) (by rw[hi2,hpU]) (by rw[hj2,hpD]) hgt;rw[←g5]at e;have e1:(j2:Int)=(V.1:Int):=by rw[e]
      have e2:rA (swp D j2 a)=rA (swp V.2 V.1 a):=by rw[e]
      have r3:=bm (d:=D.setIfInBounds j2 (gA D a)) (i:=a) (by rw[Array.size_setIfInBounds];omega);simp(config := { maxSteps := 3000000 }) [k1,qa,z2,ra,r2,r3];exact⟨e1,e2⟩
     ·have k1:¬(j2:Int)<(i2:Int):=by omega
      have e:=part_go ltInt a i j D (i2:=i2) (j2:=j2) (by rw[hi2,hpU]) (by rw[hj2,hpD]) hgt;rw[e]at g5;have lt2:=part_scans_lt ltInt a i j D (by omega) (i2:=i2) (j2:=j2) (by rw[hi2,hpU]) (by rw[hj2,hpD]) (by omega);have z1:i2<D.size:=by omega
      have r1:=bm z1;have r3:=bm (d:=D.setIfInBounds i2 (gA D j2)) (i:=j2) (by rw[Array.size_setIfInBounds];omega);have v1:IntKind.i64.wrap ((i2:Int)+1)=(i2:Int)+1:=wrap_i64 (by omega);obtain⟨j3,hj3⟩:∃j3,j3=j2-1:=⟨_,rfl⟩;have v2:IntKind.i64.wrap ((j2:Int)-1)=(j3:Int):=by rw[wrap_i64 (by omega)];omega
      rw[←hj3]at g5;apply af;·simp(config := { maxSteps := 3000000 }) [k1];exact⟨rfl,rfl⟩
      apply af;·simp(config := { maxSteps := 3000000 }) [z1,z2,r1,r2,r3];exact⟨rfl,rfl⟩
      simp(config := { maxSteps := 3000000 }) [v1,v2];exact⟨i2+1,j3,swp D i2 j2,⟨⟨by omega,by omega⟩,by omega,by rw[size_swp,g4],g5⟩,⟨⟨by omega,rfl⟩,rfl⟩,by omega⟩
  ·cases h
 ·cases h
noncomputable def Qc:List AV→Option (Prop×AV)|[.aJ [.fr e a],.pv (.int .i64 p),.pv (.int .i64 q)]=>if e=22 then(dec dH a).map fun l=>((0≤p∧p<q)∧q≤(l.length:Int)∧l.length<50,.bo 0 [.pv (.bool (partialInsertionSort ltInt l.toArray p.toNat q.toNat).2),.fr 22 (rA (partialInsertionSort ltInt l.toArray p.toNat q.toNat).1)]) else none|_=>none
@[simp] theorem Gpis_eq (e:TypeId) (d:Array Int) (p q:Int):Qc [.aJ [.fr e (rA d)],.pv (.int .i64 p),.pv (.int .i64 q)]=if e=22 then some ((0≤p∧p<q)∧q≤(d.size:Int)∧d.size<50,.bo 0 [.pv (.bool (partialInsertionSort ltInt d p.toNat q.toNat).2),.fr 22 (rA (partialInsertionSort ltInt d p.toNat q.toNat).1)]) else none:=by show(if e=22 then(dec dH (rA d)).map _ else none)=_;rw[ir];simp
theorem Bc {d:Array Int}{a b:Nat} (h:b-a<50):partialInsertionSort ltInt d a b=(d,decide (scanSorted ltInt d b (a+1)=b)):=by
 unfold partialInsertionSort partialIns;by_cases hs:scanSorted ltInt d b (a+1)=b;·simp only[if_pos hs,decide_eq_true hs]
 ·simp only[if_neg hs,if_pos h,decide_eq_false hs]
theorem N7 (d:Array Int) (b:Nat):∀(n i:Nat),b-i=n→i≤b→scanSorted ltInt d b i≤b:=by intro n;induction n with|zero=>intro i h1 h2;rw[scanSorted_stop ltInt d b i (.inl (by omega))];exact h2|succ n ih=>intro i h1 h2;cases hl:ltInt d[i]! d[i-1]! with|true=>rw[scanSorted_stop ltInt d b i (.inr hl)];exact h2|false=>rw[scanSorted_go ltInt d b i (by omega) hl];exact ih (i+1) (by omega) (by omega)
theorem c_pis:dr Tryz.prog 213 Qc:=by
 intro ys φ r h hφ;unfold Qc at h;split at h
 ·rename_i e ra p q;split at h
  ·rename_i he;subst he;obtain⟨l,hl,h⟩:=Option.map_eq_some_iff.1 h;cases h;obtain⟨D,rfl,rfl⟩:=lG hl;obtain⟨⟨h1,h2⟩,h3,h5⟩:=hφ;rw[Array.length_toList]at h3 h5;obtain⟨a,rfl⟩:∃a:Nat,p=a:=⟨p.toNat,by omega⟩;obtain⟨b,rfl⟩:∃a:Nat,q=a:=⟨q.toNat,by omega⟩;rw[Int.toNat_natCast,Int.toNat_natCast,Array.toArray_toList,Bc (by omega)];obtain⟨i0,hi0⟩:∃i0,i0=a+1:=⟨_,rfl⟩;obtain⟨i2,hi2⟩:∃i2,i2=scanSorted ltInt D b i0:=⟨_,rfl⟩;have le2:i2≤b:=by rw[hi2];exact N7 D b _ i0 rfl (by omega)
   rw[←hi0,←hi2];have w1:IntKind.i64.wrap ((a:Int)+1)=(i0:Int):=by rw[wrap_i64 (by omega)];omega
   have w2:IntKind.i64.wrap ((b:Int)-(a:Int))=(b:Int)-(a:Int):=wrap_i64 (by omega);refine bU (ag nd ah) (by kernel_rfl) (by conv=>lhs;reduce) (by simp) rfl (by simp) ?_;apply af;·simp(config := { maxSteps := 3000000 });exact⟨rfl,rfl⟩
   apply af;·simp(config := { maxSteps := 3000000 }) [w1];exact⟨rfl,rfl⟩
   rw[bg];apply af;·simp(config := { maxSteps := 3000000 });exact⟨rfl,rfl⟩
   rw[bd];refine al (fun _:Unit=>True) (fun _=>⟨[(0,.own 999),(1,.pv (.int .i64 (a:Int))),(2,.pv (.int .i64 (b:Int))),(6,.pv (.bool false)),(7,.pv (.int .i64 (i0:Int))),(8,.pv (.int .i64 0))],[(999,.arr 22 (rA D))]⟩) (fun _=>0) [] () trivial ?_ ?_;·simp
   ·intro _ _;apply af;·simp(config := { maxSteps := 3000000 });exact⟨rfl,rfl⟩
    rw[bg];rw[bd];apply af
    ·rw[bd];refine al (fun s:Nat=>i0≤s∧s≤b∧scanSorted ltInt D b s=i2) (fun s=>⟨[(0,.own 999),(1,.pv (.int .i64 (a:Int))),(2,.pv (.int .i64 (b:Int))),(6,.pv (.bool false)),(7,.pv (.int .i64 (s:Int)))],[(999,.arr 22 (rA D))]⟩) (fun s=>b-s) [] i0 ⟨Nat.le_refl _,by omega,hi2.symm⟩ ?_ ?_;·simp
     ·rintro s ⟨l1,l2,l3⟩;obtain⟨t,ht⟩:∃t,s=t+1:=⟨s-1,by omega⟩;have ws:IntKind.i64.wrap ((s:Int)-1)=(t:Int):=by rw[wrap_i64 (by omega)];omega
      have wp:IntKind.i64.wrap ((s:Int)+1)=(s:Int)+1:=wrap_i64 (by omega);have q2:t<D.size:=by omega
      have r2:=bm q2;by_cases hc:s<b
      ·have c1:(s:Int)<(b:Int):=by omega
       have q1:s<D.size:=by omega
       have r1:=bm q1;cases hb:ltInt D[s]! D[s-1]! with|false=>
        rw[scanSorted_go ltInt D b s hc hb]at l3;have hb2:ltInt (gA D s) (gA D t)=false:=by rw[←hb,show t=s-1 by omega];rfl
        simp(config := { maxSteps := 3000000 }) [c1,q1,q2,r1,r2,hb2,ws,wp];exact⟨s+1,⟨by omega,by omega,l3⟩,by omega,by omega⟩|true=>
        rw[scanSorted_stop ltInt D b s (.inr hb)]at l3;have hb2:ltInt (gA D s) (gA D t)=true:=by rw[←hb,show t=s-1 by omega];rfl
        subst l3;simp(config := { maxSteps := 3000000 }) [c1,q1,q2,r1,r2,hb2,ws];exact⟨rfl,rfl⟩
      ·have c1:¬(s:Int)<(b:Int):=by omega
       rw[scanSorted_stop ltInt D b s (.inl hc)]at l3;subst l3;rcases Nat.lt_or_ge s D.size with q1|q1;·have r1:=bm q1;simp(config := { maxSteps := 3000000 }) [c1,q1,q2,r1,r2,ws];try exact⟨rfl,rfl⟩
       ·have r1:=ma q1;simp(config := { maxSteps := 3000000 }) [c1,q2,r1,r2,ws];try exact⟨rfl,rfl⟩
    by_cases hz:i2=b
    ·have c1:(i2:Int)=(b:Int):=by omega
     simp(config := { maxSteps := 3000000 }) [c1,hz]
    ·have c1:¬(i2:Int)=(b:Int):=by omega
     have c2:(b:Int)-(a:Int)<50:=by omega
     apply af;·simp(config := { maxSteps := 3000000 }) [c1,hz];exact⟨rfl,rfl⟩
     simp(config := { maxSteps := 3000000 }) [c2,w2,hz]
  ·cases h
 ·cases h
theorem xG:SWO ltInt where
 irrefl x:=by unfold ltInt;simp
 trans x y z h1 h2:=by unfold ltInt at*;simp at*;omega
 ntrans x y z h1 h2:=by unfold ltInt at*;simp at*;omega
theorem vy (a b:Nat):∀(n i j:Nat) (d:Array Int),j=n→a<i→i≤j+1→j<b→a<(partEqLoop ltInt a i j d).1∧(partEqLoop ltInt a i j d).1≤b∧(partEqLoop ltInt a i j d).2.size=d.size:=by intro n;induction n using Nat.strongRecOn with|_ n ih=>
 intro i j d hn h1 h2 h3;have u1:=scanUp_spec (fun x=>!ltInt d[a]! x) d j _ i rfl;obtain⟨i2,hi2⟩:∃i2,i2=scanUp (fun x=>!ltInt d[a]! x) d j i:=⟨_,rfl⟩;rw[←hi2]at u1;have u2:=scanDown_spec (fun x=>ltInt d[a]! x) d i2 j;obtain⟨j2,hj2⟩:∃j2,j2=scanDown (fun x=>ltInt d[a]! x) d i2 j:=⟨_,rfl⟩;rw[←hj2]at u2;have u3:i≤i2∧i2≤j+1:=⟨u1.1,u1.2.1 h2⟩;have u4:j2≤j∧i2≤j2+1:=⟨u2.1,u2.2.1 u3.2⟩;by_cases hgt:i2>j2;·rw[partEq_break ltInt a i j d hi2 hj2 hgt];exact⟨by show a<i2;omega,by show i2≤b;omega,rfl⟩
 ·have lt2:=scans_lt ltInt a i j d (by omega) hi2 hj2 (by omega);rw[partEq_go ltInt a i j d hi2 hj2 hgt];have:=ih (j2-1) (by omega) (i2+1) (j2-1) (swp d i2 j2) rfl (by omega) (by omega) (by omega);rw[size_swp]at this;exact this
theorem vE {d:Array Int}{a b c:Nat} (h1:a≤c) (h2:c<b) (h3:b≤d.size):a≤(partition ltInt d a b c).1∧(partition ltInt d a b c).1<b∧(partition ltInt d a b c).2.2.size=d.size:=by obtain⟨x1,x2,x3,_⟩:=partition_holds (lt:=ltInt) xG d a b c h1 h2 h3;exact⟨x1,x2,x3.1⟩
theorem Au {D D1 D2:Array Int}{a b lm lm1 pv:Nat}{wb wp:Bool}{c:Nat×Hint}{hint:Hint}{pi:Array Int×Bool} (h12:¬b-a≤12) (hl:¬lm=0) (e1:D1=if(!wb)=true then breakPatterns D a b else D) (e2:lm1=if(!wb)=true then lm-1 else lm) (e3:c=choosePivot ltInt D1 a b) (e4:D2=if c.2=.decreasing then reverseRange D1 a b else D1) (e5:pv=if c.2=.decreasing then(b-1)-(c.1-a) else c.1) (e6:hint=if c.2=.decreasing then Hint.increasing else c.2) (e7:pi=if(wb&&wp&&decide (hint=.increasing))=true then partialInsertionSort ltInt D2 a b else(D2,false)):pdq ltInt D a b lm wb wp=if pi.2=true then pi.1 else if(decide (a>0)&&!ltInt pi.1[a-1]! pi.1[pv]!)=true then(if a<(partitionEqual ltInt pi.1 a b pv).1∧(partitionEqual ltInt pi.1 a b pv).1≤b then pdq ltInt (partitionEqual ltInt pi.1 a b pv).2 (partitionEqual ltInt pi.1 a b pv).1 b lm1 wb wp else(partitionEqual ltInt pi.1 a b pv).2) else(if a≤(partition ltInt pi.1 a b pv).1∧(partition ltInt pi.1 a b pv).1<b then(if(partition ltInt pi.1 a b pv).1-a<b-(partition ltInt pi.1 a b pv).1 then pdq ltInt (pdq ltInt (partition ltInt pi.1 a b pv).2.2 a (partition ltInt pi.1 a b pv).1 lm1 true true) ((partition ltInt pi.1 a b pv).1+1) b lm1 (decide ((partition ltInt pi.1 a b pv).1-a≥(b-a)/8)) (partition ltInt pi.1 a b pv).2.1 else pdq ltInt (pdq ltInt (partition ltInt pi.1 a b pv).2.2 ((partition ltInt pi.1 a b pv).1+1) b lm1 true true) a (partition ltInt pi.1 a b pv).1 lm1 (decide (b-(partition ltInt pi.1 a b pv).1≥(b-a)/8)) (partition ltInt pi.1 a b pv).2.1) else(partition ltInt pi.1 a b pv).2.2):=by subst e1 e2 e3 e4 e5 e6 e7;rw[pdq];dsimp only;rw[if_neg h12,if_neg hl];rfl
theorem Ho {D:Array Int}{a b c:Nat} (h1:a≤c) (h2:c<b):a<(partitionEqual ltInt D a b c).1∧(partitionEqual ltInt D a b c).1≤b∧(partitionEqual ltInt D a b c).2.size=D.size:=by have:=vy a b _ (a+1) (b-1) (swp D a c) rfl (by omega) (by omega) (by omega);rw[size_swp]at this;exact this
theorem zZ:∀(n:Nat) (D:Array Int) (a b lm:Nat) (wb wp:Bool),b-a=n→a≤b→b≤D.size→b-a<50→(pdq ltInt D a b lm wb wp).size=D.size:=by intro n;induction n using Nat.strongRecOn with|_ n ih=>
 intro D a b lm wb wp hn h1 h2 h50;by_cases h12:b-a≤12;·rw[pdq,if_pos h12];exact(insertionSort_holds (lt:=ltInt) xG D a b h1 h2).1.1
 by_cases hl:lm=0;·rw[pdq,if_neg h12,if_pos hl];exact(heapSort_holds (lt:=ltInt) xG D a b h1 h2).1.1
 obtain⟨D1,e1⟩:∃D1,D1=if(!wb)=true then breakPatterns D a b else D:=⟨_,rfl⟩;obtain⟨lm1,e2⟩:∃lm1,lm1=if(!wb)=true then lm-1 else lm:=⟨_,rfl⟩;obtain⟨c,e3⟩:∃c,c=choosePivot ltInt D1 a b:=⟨_,rfl⟩;obtain⟨D2,e4⟩:∃D2,D2=if c.2=.decreasing then reverseRange D1 a b else D1:=⟨_,rfl⟩;obtain⟨pv,e5⟩:∃pv,pv=if c.2=.decreasing then(b-1)-(c.1-a) else c.1:=⟨_,rfl⟩;obtain⟨hint,e6⟩:∃hint,hint=if c.2=.decreasing then Hint.increasing else c.2:=⟨_,rfl⟩;obtain⟨pi,e7⟩:∃pi,pi=if(wb&&wp&&decide (hint=.increasing))=true then partialInsertionSort ltInt D2 a b else(D2,false):=⟨_,rfl⟩;rw[Au h12 hl e1 e2 e3 e4 e5 e6 e7];have t1:D1.size=D.size:=by
  rw[e1];split;·exact(breakPatterns_holds D a b h1 h2).1
  ·rfl
 have t2:=choosePivot_holds ltInt D1 a b (by omega);rw[←e3]at t2;have t3:D2.size=D.size:=by
  rw[e4];split;·rw[(reverseRange_holds D1 a b h1 (by omega)).1,t1]
  ·exact t1
 have t4:a≤pv∧pv<b:=by rw[e5];split<;>omega
 have t6:pi.1.size=D.size:=by
  rw[e7];split;·rw[Bc h50];exact t3
  ·exact t3
 have p1:=Ho (D:=pi.1) t4.1 t4.2;have p2:=vE (d:=pi.1) t4.1 t4.2 (by omega);split;·exact t6
 split;·rw[if_pos ⟨p1.1,p1.2.1⟩,ih _ (by omega) _ _ _ _ _ _ rfl (by omega) (by omega) (by omega)];omega
 ·rw[if_pos ⟨p2.1,p2.2.1⟩];split;·rw[ih _ (by omega) _ _ _ _ _ _ rfl (by omega) (by rw[ih _ (by omega) _ _ _ _ _ _ rfl (by omega) (by omega) (by omega)];omega) (by omega),ih _ (by omega) _ _ _ _ _ _ rfl (by omega) (by omega) (by omega)];omega
  ·rw[ih _ (by omega) _ _ _ _ _ _ rfl (by omega) (by rw[ih _ (by omega) _ _ _ _ _ _ rfl (by omega) (by omega) (by omega)];omega) (by omega),ih _ (by omega) _ _ _ _ _ _ rfl (by omega) (by omega) (by omega)];omega
noncomputable def Gpd (N:Nat):List AV→Option (Prop×AV)|[.aJ [.fr e a],.pv (.int .i64 p),.pv (.int .i64 q),.pv (.int .i64 m)]=>if e=22∧N≠0 then(dec dH a).map fun l=>((0≤p∧p≤q)∧q-p<(N:Int)∧(q≤(l.length:Int)∧l.length<50)∧0≤m∧m≤1000,.bo 0 [.aJ [],.fr 22 (rA (pdq ltInt l.toArray p.toNat q.toNat m.toNat true true))]) else none|_=>none
@[simp] theorem Gpd_eq (N:Nat) (e:TypeId) (d:Array Int) (p q m:Int):Gpd N [.aJ [.fr e (rA d)],.pv (.int .i64 p),.pv (.int .i64 q),.pv (.int .i64 m)]=if e=22∧N≠0 then some ((0≤p∧p≤q)∧q-p<(N:Int)∧(q≤(d.size:Int)∧d.size<50)∧0≤m∧m≤1000,.bo 0 [.aJ [],.fr 22 (rA (pdq ltInt d p.toNat q.toNat m.toNat true true))]) else none:=by show(if e=22∧N≠0 then(dec dH (rA d)).map _ else none)=_;rw[ir];simp
theorem Vt:∀N,dr Tryz.prog 206 (Gpd N)
 |0=>by
  intro ys φ r h hφ;unfold Gpd at h;split at h;·rw[if_neg (by simp)]at h;cases h
  ·cases h|N+1=>by
  have hrec:=Vt N;intro ys φ r h hφ;unfold Gpd at h;split at h
  ·rename_i e ra p q m;split at h
   ·rename_i he;obtain⟨rfl,_⟩:=he;obtain⟨l,hl,h⟩:=Option.map_eq_some_iff.1 h;cases h;obtain⟨d,rfl,rfl⟩:=lG hl;obtain⟨⟨h1,h2⟩,h3,⟨h4,h5⟩,h6,h7⟩:=hφ;rw[Array.length_toList]at h4 h5;obtain⟨a,rfl⟩:∃a:Nat,p=a:=⟨p.toNat,by omega⟩;obtain⟨b,rfl⟩:∃a:Nat,q=a:=⟨q.toNat,by omega⟩;obtain⟨lm,rfl⟩:∃a:Nat,m=a:=⟨m.toNat,by omega⟩;rw[Int.toNat_natCast,Int.toNat_natCast,Int.toNat_natCast,Array.toArray_toList];generalize hW:pdq ltInt d a b lm true true=W;refine bU (ba (ks:=[2,0,0,0]) hrec (by kernel_rfl) (ba (ks:=[2,0,0]) MH (by kernel_rfl) (ba (ks:=[2,0,0]) NZ (by kernel_rfl) (ba (ks:=[2,0,0]) UF (by kernel_rfl) (ag aad (ba (ks:=[2,0,0]) XW (by kernel_rfl) (ba (ks:=[2,0,0]) c_pis (by kernel_rfl) (ag nd (ba (ks:=[2,0,0,0]) aan (by kernel_rfl) (ba (ks:=[2,0,0,0]) WM (by kernel_rfl) ah)))))))))) (by kernel_rfl) (by conv=>lhs;reduce) (by simp) rfl (by simp) ?_;apply af;·simp(config := { maxSteps := 3000000 });exact⟨rfl,rfl⟩
    apply af;·simp(config := { maxSteps := 3000000 });exact⟨rfl,rfl⟩
    rw[bd];refine al (fun x:((Nat×Nat)×Nat)×(Bool×Bool)×Array Int=>(x.1.1.1≤x.1.1.2∧x.1.1.2≤d.size)∧x.1.1.2-x.1.1.1<N+1∧x.1.2≤1000∧x.2.2.size=d.size∧pdq ltInt x.2.2 x.1.1.1 x.1.1.2 x.1.2 x.2.1.1 x.2.1.2=W) (fun x=>⟨[(0,.own 999),(1,.pv (.int .i64 (x.1.1.1:Int))),(2,.pv (.int .i64 (x.1.1.2:Int))),(3,.pv (.int .i64 (x.1.2:Int))),(8,.pv (.bool x.2.1.1)),(9,.pv (.bool x.2.1.2))],[(999,.arr 22 (rA x.2.2))]⟩) (fun x=>x.1.1.2-x.1.1.1) [] (((a,b),lm),(true,true),d) ⟨⟨by show a≤b;omega,by show b≤d.size;omega⟩,by show b-a<N+1;omega,by show lm≤1000;omega,rfl,hW⟩ ?_ ?_;·simp
    ·rintro⟨⟨⟨a,b⟩,lm⟩,⟨wb,wp⟩,D⟩ ⟨⟨g1,g2⟩,g3,g4,g5,g6⟩;have g1:a≤b:=g1;have g2:b≤d.size:=g2;have g3:b-a<N+1:=g3;have g4:lm≤1000:=g4;have g5:D.size=d.size:=g5;have g6:pdq ltInt D a b lm wb wp=W:=g6;obtain⟨n,hn⟩:∃n,n=b-a:=⟨_,rfl⟩;have w0:IntKind.i64.wrap ((b:Int)-(a:Int))=(n:Int):=by rw[wrap_i64 (by omega)];omega
     have s1:(a:Int)≤(b:Int):=by omega
     have s2:(b:Int)≤(D.size:Int):=by omega
     have s3:D.size≤1000000:=by omega
     have s4:D.size≤200:=by omega
     have s5:D.size<50:=by omega
     rw[jW];dsimp only;rw[bd];apply af;·simp(config := { maxSteps := 3000000 }) [w0];exact⟨rfl,rfl⟩
     by_cases h12:b-a≤12
     ·have hx:pdq ltInt D a b lm wb wp=insertionSort ltInt D a b:=by rw[pdq,if_pos h12]
      rw[hx]at g6;have c12:(n:Int)≤12:=by omega
      subst g6;simp(config := { maxSteps := 3000000 }) [c12,s1,s2,s3]
     have c12:¬(n:Int)≤12:=by omega
     apply af;·simp(config := { maxSteps := 3000000 }) [c12];exact⟨rfl,rfl⟩
     by_cases hl0:lm=0
     ·have hx:pdq ltInt D a b lm wb wp=heapSort ltInt D a b:=by rw[pdq,if_neg h12,if_pos hl0]
      rw[hx]at g6;subst g6;subst hl0;simp(config := { maxSteps := 3000000 }) [s1,s2,s3]
     have cl0:¬(lm:Int)=0:=by omega
     apply af;·simp(config := { maxSteps := 3000000 }) [cl0,hl0];exact⟨rfl,rfl⟩
     obtain⟨D1,e1⟩:∃D1,D1=if(!wb)=true then breakPatterns D a b else D:=⟨_,rfl⟩;obtain⟨lm1,e2⟩:∃lm1,lm1=if(!wb)=true then lm-1 else lm:=⟨_,rfl⟩;obtain⟨c,e3⟩:∃c,c=choosePivot ltInt D1 a b:=⟨_,rfl⟩;obtain⟨D2,e4⟩:∃D2,D2=if c.2=.decreasing then reverseRange D1 a b else D1:=⟨_,rfl⟩;obtain⟨pv,e5⟩:∃pv,pv=if c.2=.decreasing then(b-1)-(c.1-a) else c.1:=⟨_,rfl⟩;obtain⟨hint,e6⟩:∃hint,hint=if c.2=.decreasing then Hint.increasing else c.2:=⟨_,rfl⟩;obtain⟨pi,e7⟩:∃pi,pi=if(wb&&wp&&decide (hint=.increasing))=true then partialInsertionSort ltInt D2 a b else(D2,false):=⟨_,rfl⟩;rw[Au h12 hl0 e1 e2 e3 e4 e5 e6 e7]at g6;have t1:D1.size=D.size:=by
      rw[e1];split;·exact(breakPatterns_holds D a b g1 (by omega)).1
      ·rfl
     have t2:=choosePivot_holds ltInt D1 a b (by omega);rw[←e3]at t2;have t3:D2.size=D.size:=by
      rw[e4];split;·rw[(reverseRange_holds D1 a b g1 (by omega)).1,t1]
      ·exact t1
     have t4:a≤pv∧pv<b:=by rw[e5];split<;>omega
     have t5:lm1≤lm:=by rw[e2];split<;>omega
     have v1:IntKind.i64.wrap ((lm:Int)-1)=((lm-1:Nat):Int):=by rw[wrap_i64 (by omega)];omega
     apply b6 (fun st'=>∃x:AV,st'=⟨look [(0,.own 999),(1,.pv (.int .i64 (a:Int))),(2,.pv (.int .i64 (b:Int))),(3,.pv (.int .i64 (lm1:Int))),(8,.pv (.bool wb)),(9,.pv (.bool wp)),(10,.pv (.int .i64 (n:Int))),(11,.au),(12,.au),(13,.au),(14,.au),(15,.au),(16,.au),(17,.au),(18,.au),(23,.pv (.bool false)),(29,.pv (.bool false)),(35,x),(50,.au),(68,.au),(72,.au),(87,.au),(113,.au)],ab [(999,.arr 22 (rA D1))]⟩);·cases wb with|true=>have e1:D1=D:=e1;have e2:lm1=lm:=e2;rw[e1,e2];simp(config := { maxSteps := 3000000 });exact⟨_,rfl⟩|false=>have e1:D1=breakPatterns D a b:=e1;have e2:lm1=lm-1:=e2;rw[e1,e2];simp(config := { maxSteps := 3000000 }) [s1,s2,s4,v1];exact⟨_,rfl⟩
     rintro st' ⟨x35,rfl⟩;have s2a:(b:Int)≤(D1.size:Int):=by omega
     have s3a:D1.size≤1000000:=by omega
     apply af;·simp(config := { maxSteps := 3000000 }) [s1,s2a,s3a,←e3];exact⟨rfl,rfl⟩
     apply b6 (fun st'=>∃x:AV,st'=⟨look [(0,.own 999),(1,.pv (.int .i64 (a:Int))),(2,.pv (.int .i64 (b:Int))),(3,.pv (.int .i64 (lm1:Int))),(8,.pv (.bool wb)),(9,.pv (.bool wp)),(10,.pv (.int .i64 (n:Int))),(11,.pv (.int .i64 (pv:Int))),(12,.pv (.int .i64 (fy hint))),(13,.au),(14,.au),(15,.au),(16,.au),(17,.au),(18,.au),(23,.pv (.bool false)),(29,.pv (.bool false)),(35,x35),(50,x),(68,.au),(72,.au),(87,.au),(113,.au)],ab [(999,.arr 22 (rA D2))]⟩)
     ·by_cases hd:c.2=.decreasing
      ·rw[if_pos hd]at e4 e5 e6;have k1:fy c.2=2:=by rw[hd];rfl
       have k2:fy hint=1:=by rw[e6];rfl
       have v2:IntKind.i64.wrap ((b:Int)-1)=(b:Int)-1:=wrap_i64 (by omega);have v3:IntKind.i64.wrap ((c.1:Int)-(a:Int))=(c.1:Int)-(a:Int):=wrap_i64 (by omega);have v4:IntKind.i64.wrap ((b:Int)-1-((c.1:Int)-(a:Int)))=(pv:Int):=by rw[wrap_i64 (by omega)];omega
       rw[k1,k2];simp(config := { maxSteps := 3000000 }) [s1,s2a,s3a,v2,v3,v4,←e4];exact⟨_,rfl⟩
      ·rw[if_neg hd]at e4 e5 e6;have k1:¬fy c.2=2:=by revert hd;cases c.2<;>simp[fy]
       rw[e4,e5,e6];simp(config := { maxSteps := 3000000 }) [k1];exact⟨_,rfl⟩
     rintro st' ⟨x50,rfl⟩;have s2b:(b:Int)≤(D2.size:Int):=by omega
     have s5b:D2.size<50:=by omega
     have s1b:(a:Int)<(b:Int):=by omega
     have t6:pi.1.size=D.size:=by
      rw[e7];split;·rw[Bc (by omega)];exact t3
      ·exact t3
     apply b6 (fun st'=>pi.2=false∧∃x y:AV,st'=⟨look [(0,.own 999),(1,.pv (.int .i64 (a:Int))),(2,.pv (.int .i64 (b:Int))),(3,.pv (.int .i64 (lm1:Int))),(8,.pv (.bool wb)),(9,.pv (.bool wp)),(10,.pv (.int .i64 (n:Int))),(11,.pv (.int .i64 (pv:Int))),(12,.pv (.int .i64 (fy hint))),(13,.au),(14,.au),(15,.au),(16,.au),(17,.au),(18,.au),(23,.pv (.bool false)),(29,.pv (.bool false)),(35,x35),(50,x50),(68,x),(72,y),(87,.au),(113,.au)],ab [(999,.arr 22 (rA pi.1))]⟩);·cases hb:(wb&&wp&&decide (hint=.increasing)) with
      |true=>
       rw[hb,if_pos rfl]at e7;simp only[Bool.and_eq_true,decide_eq_true_eq]at hb;obtain⟨⟨rfl,rfl⟩,hh⟩:=hb;have k2:fy hint=1:=by rw[hh];rfl
       rw[k2];apply af;·simp(config := { maxSteps := 3000000 });exact⟨rfl,rfl⟩
       apply cj rfl;apply af;·simp(config := { maxSteps := 3000000 }) [s1b,s2b,s5b,←e7];exact⟨rfl,rfl⟩
       cases hp:pi.2 with|true=>rw[hp,if_pos rfl]at g6;simp(config := { maxSteps := 3000000 }) [g6]|false=>simp(config := { maxSteps := 3000000 });exact⟨_,_,rfl⟩
      |false=>rw[hb,if_neg (by simp)]at e7;rw[e7];refine eR (fun _ h=>⟨rfl,h⟩) (fun _ _ h=>h) ?_;cases wb with|false=>simp(config := { maxSteps := 3000000 });exact⟨_,_,rfl⟩|true=>cases wp with|false=>simp(config := { maxSteps := 3000000 });exact⟨_,_,rfl⟩|true=>
        have k1:¬fy hint=1:=by revert hb;cases hint<;>simp[fy]
        simp(config := { maxSteps := 3000000 }) [k1];exact⟨_,_,rfl⟩
     rintro st' ⟨hp,x68,x72,rfl⟩;rw[hp,if_neg (by simp)]at g6;obtain⟨D3,e8⟩:∃D3,D3=pi.1:=⟨_,rfl⟩;rw[←e8]at g6 t6 ⊢;obtain⟨u,hu⟩:∃u,u=a-1:=⟨_,rfl⟩;have q1:pv<D3.size:=by omega
     have q2:u<D3.size:=by omega
     have r1:=bm q1;have r2:=bm q2;have s2c:(b:Int)≤(D3.size:Int):=by omega
     have s3c:D3.size≤1000000:=by omega
     have s6:(a:Int)≤(pv:Int):=by omega
     have s7:(pv:Int)<(b:Int):=by omega
     rw[←hu]at g6;cases hc:decide (a>0)&&!ltInt D3[u]! D3[pv]! with|true=>
      rw[hc,if_pos rfl]at g6;simp only[Bool.and_eq_true,decide_eq_true_eq,Bool.not_eq_true']at hc;obtain⟨ha0,hl1⟩:=hc;have hl2:ltInt (gA D3 u) (gA D3 pv)=false:=hl1;have c1:0<a:=ha0;have v2:IntKind.i64.wrap ((a:Int)-1)=(u:Int):=by rw[wrap_i64 (by omega)];omega
      obtain⟨E,hE⟩:∃E,E=partitionEqual ltInt D3 a b pv:=⟨_,rfl⟩;have hr:=vy a b _ (a+1) (b-1) (swp D3 a pv) rfl (by omega) (by omega) (by omega);rw[show partEqLoop ltInt a (a+1) (b-1) (swp D3 a pv)=E from hE.symm,size_swp]at hr;rw[←hE,if_pos ⟨hr.1,hr.2.1⟩]at g6;rw[bg]
      ·apply af;·simp(config := { maxSteps := 3000000 }) [c1,v2,q1,q2,r1,r2,hl2];exact⟨rfl,rfl⟩
       apply cj rfl;apply af;·simp(config := { maxSteps := 3000000 }) [s6,s7,s1,s2c,s3c,←hE];exact⟨rfl,rfl⟩
       apply af;·simp(config := { maxSteps := 3000000 });exact⟨rfl,rfl⟩
       rw[FV];simp only[oE,if_true];refine⟨(((E.1,b),lm1),(wb,wp),E.2),⟨⟨by show E.1≤b;omega,by show b≤d.size;omega⟩,by show b-E.1<N+1;omega,by show lm1≤1000;omega,by show E.2.size=d.size;omega,g6⟩,?_,by show b-E.1<b-a;omega⟩;simp|false=>
      rw[hc,if_neg (by simp)]at g6;obtain⟨E,hE⟩:∃E,E=partition ltInt D3 a b pv:=⟨_,rfl⟩;have hr:=vE (d:=D3) (a:=a) (b:=b) (c:=pv) (by omega) (by omega) (by omega);rw[←hE]at hr g6;rw[if_pos ⟨hr.1,hr.2.1⟩]at g6;apply b6 (fun st'=>∃x:AV,st'=⟨look [(0,.own 999),(1,.pv (.int .i64 (a:Int))),(2,.pv (.int .i64 (b:Int))),(3,.pv (.int .i64 (lm1:Int))),(8,.pv (.bool wb)),(9,.pv (.bool wp)),(10,.pv (.int .i64 (n:Int))),(11,.pv (.int .i64 (pv:Int))),(12,.pv (.int .i64 (fy hint))),(13,.au),(14,.au),(15,.au),(16,.au),(17,.au),(18,.au),(23,.pv (.bool false)),(29,.pv (.bool false)),(35,x35),(50,x50),(68,x68),(72,x72),(87,x),(113,.au)],ab [(999,.arr 22 (rA D3))]⟩)
      ·rcases Nat.eq_zero_or_pos a with ha0|ha0
       ·have c1:¬0<a:=by omega
        have v2:IntKind.i64.wrap ((a:Int)-1)=-1:=by rw[ha0];decide
        have r0:rowAt (rA D3) (-1)=[.int .u64 (gA D3 0)]:=bm (d:=D3) (i:=0) (by omega);simp(config := { maxSteps := 3000000 }) [c1,v2,q1,r1,r0];exact⟨_,rfl⟩
       ·have hl1:ltInt D3[u]! D3[pv]! =true:=by cases hl:ltInt D3[u]! D3[pv]! with|true=>rfl|false=>rw[hl]at hc;simp at hc;omega
        have hl2:ltInt (gA D3 u) (gA D3 pv)=true:=hl1;have c1:0<a:=ha0;have v2:IntKind.i64.wrap ((a:Int)-1)=(u:Int):=by rw[wrap_i64 (by omega)];omega
        simp(config := { maxSteps := 3000000 }) [c1,v2,q1,q2,r1,r2,hl2];exact⟨_,rfl⟩
      rintro st' ⟨x87,rfl⟩;obtain⟨m1,hm1⟩:∃m1,m1=E.1-a:=⟨_,rfl⟩;obtain⟨m2,hm2⟩:∃m2,m2=b-E.1:=⟨_,rfl⟩;obtain⟨n8,hn8⟩:∃n8,n8=(b-a)/8:=⟨_,rfl⟩;rw[←hm1,←hm2,←hn8]at g6;have y1:IntKind.i64.wrap ((E.1:Int)-(a:Int))=(m1:Int):=by rw[wrap_i64 (by omega)];omega
      have y2:IntKind.i64.wrap ((b:Int)-(E.1:Int))=(m2:Int):=by rw[wrap_i64 (by omega)];omega
      have y3:(n:Int).tdiv 8=(n8:Int):=by rw[Int.tdiv_eq_ediv_of_nonneg (by omega)];omega
      have y4:IntKind.i64.wrap (n8:Int)=(n8:Int):=wrap_i64 (by omega);have y5:IntKind.i64.wrap ((E.1:Int)+1)=((E.1+1:Nat):Int):=by rw[wrap_i64 (by omega)];omega
      have N0:N≠0:=by omega
      apply af;·simp(config := { maxSteps := 3000000 }) [s6,s7,s1,s2c,s3c,←hE];exact⟨rfl,rfl⟩
      apply af;·simp(config := { maxSteps := 3000000 });exact⟨rfl,rfl⟩
      apply af;·simp(config := { maxSteps := 3000000 }) [y1,y2];exact⟨rfl,rfl⟩
      apply af;·simp(config := { maxSteps := 3000000 }) [y3,y4];exact⟨rfl,rfl⟩
      obtain⟨G,hG⟩:∃G,G=E.2.2:=⟨_,rfl⟩;obtain⟨k,hk⟩:∃k,k=E.1:=⟨_,rfl⟩;rw[←hG,←hk]at g6 hr;rw[←hG,←hk];rw[←hk]at y5 hm1 hm2;by_cases hlt:m1<m2
      ·rw[if_pos hlt]at g6;apply af;·simp(config := { maxSteps := 3000000 }) [hlt];exact⟨rfl,rfl⟩
       apply cj rfl;apply af;·simp(config := { maxSteps := 3000000 });exact⟨rfl,rfl⟩
       obtain⟨P,hP⟩:∃P,P=pdq ltInt G a k lm1 true true:=⟨_,rfl⟩;have zP:P.size=d.size:=by rw[hP,zZ _ _ _ _ _ _ _ rfl (by omega) (by omega) (by omega)];omega
       rw[←hP]at g6;have o1:(a:Int)≤(k:Int):=by omega
       have o2:(k:Int)-(a:Int)<(N:Int):=by omega
       have o3:(k:Int)≤(G.size:Int):=by omega
       have o4:G.size<50:=by omega
       have o5:(lm1:Int)≤1000:=by omega
       apply af;·simp(config := { maxSteps := 3000000 }) [N0,o1,o2,o3,o4,o5,←hP];exact⟨rfl,rfl⟩
       apply GX;·simp(config := { maxSteps := 3000000 }) [y5];exact⟨rfl,rfl⟩
       refine⟨(((k+1,b),lm1),(decide (m1≥n8),E.2.1),P),⟨⟨by show k+1≤b;omega,by show b≤d.size;omega⟩,by show b-(k+1)<N+1;omega,by show lm1≤1000;omega,zP,g6⟩,?_,by show b-(k+1)<b-a;omega⟩;simp
      ·rw[if_neg hlt]at g6;have hge:m2≤m1:=by omega
       apply af;·simp(config := { maxSteps := 3000000 }) [hlt];exact⟨rfl,rfl⟩
       apply eI rfl;apply af;·simp(config := { maxSteps := 3000000 });exact⟨rfl,rfl⟩
       obtain⟨k1,hk1⟩:∃k1,k1=k+1:=⟨_,rfl⟩;rw[←hk1]at g6 y5;obtain⟨P,hP⟩:∃P,P=pdq ltInt G k1 b lm1 true true:=⟨_,rfl⟩;have zP:P.size=d.size:=by rw[hP,zZ _ _ _ _ _ _ _ rfl (by omega) (by omega) (by omega)];omega
       rw[←hP]at g6;have o1:(k1:Int)≤(b:Int):=by omega
       have o2:(b:Int)-(k1:Int)<(N:Int):=by omega
       have o3:(b:Int)≤(G.size:Int):=by omega
       have o4:G.size<50:=by omega
       have o5:(lm1:Int)≤1000:=by omega
       apply af;·simp(config := { maxSteps := 3000000 }) [N0,o1,o2,o3,o4,o5,y5,←hP];exact⟨rfl,rfl⟩
       apply GX;·simp(config := { maxSteps := 3000000 });exact⟨rfl,rfl⟩
       refine⟨(((a,k),lm1),(decide (m2≥n8),E.2.1),P),⟨⟨by show a≤k;omega,by show k≤d.size;omega⟩,by show k-a<N+1;omega,by show lm1≤1000;omega,zP,g6⟩,?_,by show k-a<b-a;omega⟩;simp
   ·cases h
  ·cases h
theorem Kd (l:List Int):(Go.Sort.sort ltInt l.toArray).toList=yj l:=sortInt_holds (sort_holds (pdq_holds insertionSort_holds heapSort_holds partialInsertionSort_holds (partition_holds _) (partitionEqual_holds _) reverseRange_holds)) l
@[simp] noncomputable def GSo:List AV→Option (Prop×AV)|[.aJ [.fr e a]]=>if e=22 then(dec dH a).map fun l=>(l.length<50,.bo 0 [.aJ [],.fr 22 (cC (yj l))]) else none|_=>none
theorem IZ:dr Tryz.prog 197 GSo:=by
 intro ys φ r h hφ;unfold GSo at h;split at h
 ·rename_i e ra;split at h
  ·rename_i he;subst he;obtain⟨l,hl,h⟩:=Option.map_eq_some_iff.1 h;cases h;cases dz hl;have hφ:l.length<50:=hφ;have hx:cC (yj l)=rA (pdq ltInt l.toArray 0 l.length (bitsLen l.length) true true):=by rw[←Kd];unfold Go.Sort.sort rA;simp
   rw[hx,Af];have h8:=(mj l.length (by omega)).2;obtain⟨d,hd⟩:∃d,d=l.toArray:=⟨_,rfl⟩;have hds:d.size=l.length:=by rw[hd];simp
   rw[←hd,←hds];rw[←hds]at h8 hφ;obtain⟨m,hm⟩:∃m,m=bitsLen d.size:=⟨_,rfl⟩;rw[←hm]at h8 ⊢;have w1:IntKind.u64.wrap (d.size:Int)=(d.size:Int):=wrap_u64 (by omega);have w2:(d.size:Int)<256:=by omega
   have w3:(m:Int)≤1000:=by omega
   refine bU (ag L0 (ba (ks:=[2,0,0,0]) (Vt 50) (by kernel_rfl) ah)) (by kernel_rfl) (by conv=>lhs;reduce) (by simp) rfl (by simp) ?_;simp(config := { maxSteps := 3000000 }) [w1,w2,w3,hφ,←hm];omega
  ·cases h
 ·cases h
end Go.Proofs.YtlicclncicbajaaGreat.Ab
namespace Go.Proofs.YtlicclncicbajaaGreat.Ab
open Go Go.RowKit R
@[simp] noncomputable def GpV:List AV→Option (Prop×AV)|[.agg [.pv (.ro a)]]=>(dec rowP a).map fun l=>(l.length<50,.fr 22 (cC (wx (l.map Pn.v))))|_=>none
theorem c_pV:aN Tryz.prog 177 GpV:=by
 intro ys φ r h hφ;unfold GpV at h;split at h
 ·rename_i ra;obtain⟨a,ha,h⟩:=Option.map_eq_some_iff.1 h;cases h;cases aE ha;have hl5:a.length<50:=hφ;refine aq (ba (ks:=[2]) IZ (by kernel_rfl) (eD (p:=0) (k:=998) ZV (by kernel_rfl) ah)) (by kernel_rfl) (by conv=>lhs;reduce) (by simp) ?_;simp(config := { maxSteps := 3000000 });refine al (fun i:Nat=>i≤a.length) (fun i=>⟨[(3,.own 3),(7,.pv (.ro (aw a))),(8,.pv (.int .i64 a.length)),(9,.pv (.int .i64 i))],[(3,.arr 22 (cC ((a.take i).map Pn.v)))]⟩) (fun i=>a.length-i) [] 0 (by simp) ?_ ?_;·simp
  ·intro i hi;have w2:IntKind.i64.wrap ((i:Int)+1)=(i:Int)+1:=wrap_i64 (by omega);by_cases hlt:i<a.length
   ·have r1:=bM hlt;have hll:((a.take i).map Pn.v).length=i:=by simp;omega
    have htk:(a.take (i+1)).map Pn.v=(a.take i).map Pn.v++[a[i].v]:=by rw[List.take_succ_eq_append_getElem hlt,List.map_append];rfl
    simp(config := { maxSteps := 3000000 }) [w2,hlt,r1,aH];refine⟨⟨by omega,by omega⟩,i+1,by omega,⟨by omega,by have:=congrArg cC htk;rw[xx,List.map_take,List.map_take]at this;exact this.symm⟩,by omega⟩
   ·have hia:i=a.length:=by omega
    subst hia;have hsl:(yj (a.map Pn.v)).length≤1000000:=by simp[yj];omega
    have hml:(a.map Pn.v).length<50:=by simp;omega
    simp(config := { maxSteps := 3000000 }) [hsl,hml,hl5];rfl
 ·cases h
def My:List AV→Option (Prop×AV)|[]=>some (True,.pv (.bool true))|_=>none
@[simp] theorem Q7:My []=some (True,.pv (.bool true)):=rfl
def F1 (l m:List Vn) (i:Nat):Prop:=m.length=l.length∧∀k (h:k<m.length) (h':k<l.length) (h'':l.length-1-k<l.length),(k<i∨l.length-i≤k→m[k]=l[l.length-1-k])∧(i≤k∧k<l.length-i→m[k]=l[k])
theorem Dp (l:List Vn):F1 l l 0:=⟨rfl,fun k h h' h''=>⟨fun h1=>by omega,fun _=>rfl⟩⟩
theorem Fv {l m:List Vn}{i:Nat} (h:F1 l m i) (hi:l.length≤2*i+1):m=l.reverse:=by
 obtain⟨hl,hk⟩:=h;apply List.ext_getElem;·simp[hl]
 ·intro k h1 h2;rw[List.getElem_reverse];have h3:=hk k h1 (by omega) (by omega);by_cases hc:k<i∨l.length-i≤k;·exact h3.1 hc
  ·have:=h3.2 (by omega);rw[this];congr 1;omega
theorem DI {l m:List Vn}{i:Nat} (h:F1 l m i) (hi:2*i+1<l.length) (h1:i<m.length) (h2:l.length-1-i<m.length):F1 l ((m.set i m[l.length-1-i]).set (l.length-1-i) m[i]) (i+1):=by
 obtain⟨hl,hk⟩:=h;refine⟨by simp[hl],fun k h3 h4 h5=>?_⟩;have ha:=(hk i h1 (by omega) (by omega)).2 (by omega);have hb:=(hk (l.length-1-i) h2 (by omega) (by omega)).2 (by omega);simp only[List.getElem_set];constructor
 ·intro hc;by_cases e1:l.length-1-i=k;·rw[if_pos e1,ha];congr 1;omega
  ·rw[if_neg e1];by_cases e2:i=k;·subst e2;rw[if_pos rfl,hb]
   ·rw[if_neg e2];exact(hk k (by omega) h4 h5).1 (by omega)
 ·intro hc;rw[if_neg (by omega),if_neg (by omega)];exact(hk k (by omega) h4 h5).2 (by omega)
@[simp] noncomputable def Vf:List AV→Option (Prop×AV)|[.aJ [.fr e a]]=>if e=108 then(dec cL a).map fun l=>(l.length≤1000000,.bo 0 [.aJ [],.fr 108 (az l.reverse)]) else none|_=>none
theorem UZ:m7 Tryz.prog 205 Vf:=by
 intro ys φ r h hφ;unfold Vf at h;split at h
 ·rename_i e ra;split at h
  ·rename_i hef;subst hef;obtain⟨a,ha,h⟩:=Option.map_eq_some_iff.1 h;cases h;cases aF ha;have w0:IntKind.i64.wrap ((a.length:Int)-1)=(a.length:Int)-1:=wrap_i64 (by omega);refine mn ah (by kernel_rfl) (by conv=>lhs;reduce) (by simp) (by simp[cP,lZ,iA]) (by simp) ?_;simp(config := { maxSteps := 3000000 }) [w0];refine al (fun x:Nat×List Vn=>F1 a x.2 x.1∧2*x.1≤a.length+1) (fun x=>⟨[(0,.own 999),(2,.pv (.int .i64 x.1)),(3,.pv (.int .i64 ((a.length:Int)-1-x.1)))],[(999,.arr 108 (az x.2))]⟩) (fun x=>a.length-x.1) [] (0,a) ⟨Dp a,by simp⟩ ?_ ?_;·simp
   ·rintro⟨i,m⟩ ⟨hm,h2⟩;dsimp only at hm h2;have hml:=hm.1;have w1:IntKind.i64.wrap ((i:Int)+1)=(i:Int)+1:=wrap_i64 (by omega);have w2:IntKind.i64.wrap ((a.length:Int)-1-i-1)=(a.length:Int)-1-i-1:=wrap_i64 (by omega);by_cases hlt:(i:Int)<(a.length:Int)-1-i
    ·have hi:i<m.length:=by omega
     have hj:a.length-1-i<m.length:=by omega
     have hst:=DI hm (by omega) hi hj;have r1:=bq hi;have r2:=bq hj;have hc:((a.length-1-i:Nat):Int)=(a.length:Int)-1-i:=by omega
     rw[hc]at r2;have b1:0≤(a.length:Int)-1-i:=by omega
     have b2:(a.length:Int)-1-i<m.length:=by omega
     have b3:(i:Int)≤(a.length:Int)-1:=by omega
     have r3:rowAt ((az m).set i [.int .u64 m[a.length-1-i].n,.int .u64 m[a.length-1-i].b,.int .u64 m[a.length-1-i].p,.int .u64 m[a.length-1-i].i,.int .u64 m[a.length-1-i].s,.int .u64 m[a.length-1-i].z,.int .u64 m[a.length-1-i].m,.str m[a.length-1-i].t,.bool m[a.length-1-i].inl,.bool m[a.length-1-i].eG]) ((a.length:Int)-1-i)=[.int .u64 m[a.length-1-i].n,.int .u64 m[a.length-1-i].b,.int .u64 m[a.length-1-i].p,.int .u64 m[a.length-1-i].i,.int .u64 m[a.length-1-i].s,.int .u64 m[a.length-1-i].z,.int .u64 m[a.length-1-i].m,.str m[a.length-1-i].t,.bool m[a.length-1-i].inl,.bool m[a.length-1-i].eG]:=by rw[←r2];unfold rowAt;rw[show((a.length:Int)-1-i).toNat=a.length-1-i from by omega,List.getD_eq_getElem?_getD,List.getD_eq_getElem?_getD,List.getElem?_set_ne (by omega)]
     have hrows:((az m).set i (cL m[a.length-1-i])).set (a.length-1-i) (cL m[i])=az ((m.set i m[a.length-1-i]).set (a.length-1-i) m[i]):=by simp only[az,List.map_set]
     simp only[cL]at hrows;simp(config := { maxSteps := 3000000 }) [w1,w2,hlt,r1,r2,hi,b1,b2,b3,r3];exact⟨i+1,_,⟨hst,by omega⟩,⟨⟨by omega,by omega⟩,hrows⟩,by omega⟩
    ·have he:=Fv hm (by omega);simp(config := { maxSteps := 3000000 }) [hlt,he]
  ·cases h
 ·cases h
def FP (l:List Vn) (i:Nat):Vn:=(l[i]?).getD v0
theorem lr {l:List Vn}{i:Nat} (h:i<l.length):FP l i=l[i]:=by unfold FP;rw[List.getElem?_eq_getElem h];rfl
def fG (l:List Vn):Nat→Nat→List Vn|0,i=>[FP l i]|f+1,i=>if cY (FP l i)=0 then[FP l i] else fG l f (tz l (cY (FP l i))).toNat++[FP l i]
def gy (l:List Vn) (n:Int):List Vn×Int:=if bQ l=false then([],2) else match lp l n with|none=>([],150)|some v=>(fG l l.length (tz l v.n).toNat,0)
theorem Ih {l:List Vn} (hr:bQ l=true) {i:Nat} (h:i<l.length) (hb:cY l[i]≠0):∃j,∃hj:j<i,tz l (cY l[i])=(j:Int)∧l[j].n=cY l[i]:=by
 have hok:=(iE l).1 hr i h;unfold jb at hok;rw[List.getElem?_eq_getElem h]at hok;simp only[Option.getD_some,Bool.and_eq_true,Bool.or_eq_true,decide_eq_true_eq]at hok;have h0:=hok.2.resolve_left hb;rcases pG (l.take i) (cY l[i]) with⟨j,hj,h1,h2,h3⟩|⟨h1,_⟩
 ·rw[List.length_take]at hj;have hji:j<i:=by omega
  have hjl:j<l.length:=by omega
  rw[List.getElem_take]at h2;refine⟨j,hji,xB hjl h2 fun v hv=>h3 v ?_,h2⟩;rwa[List.take_take,Nat.min_eq_left (by omega)]
 ·omega
theorem G2 {l:List Vn} (hr:bQ l=true) {i j:Nat} (hi:i<l.length) (hj:j<l.length) (h:l[i].n=l[j].n):i=j:=by
 rcases Nat.lt_trichotomy i j with hlt|he|hlt
 ·have h1:=nI hr (i:=i) (j-1-i) (by omega);have e1:i+(j-1-i)=j-1:=by omega
  simp only[e1]at h1;have h2:=nN hr (i:=j-1) (by omega);have e2:j-1+1=j:=by omega
  simp only[e2]at h2;omega
 ·exact he
 ·have h1:=nI hr (i:=j) (i-1-j) (by omega);have e1:j+(i-1-j)=i-1:=by omega
  simp only[e1]at h1;have h2:=nN hr (i:=i-1) (by omega);have e2:i-1+1=i:=by omega
  simp only[e2]at h2;omega
theorem xA {l:List Vn} (hr:bQ l=true) {i:Nat} (h:i<l.length):tz l l[i].n=i:=by
 rcases pG l l[i].n with⟨j,hj,h1,h2,_⟩|⟨_,h2⟩;·rw[h1,G2 hr hj h h2]
 ·exact absurd rfl (h2 l[i] (List.getElem_mem h))
theorem get_at {l:List Vn}{n:Int}{v:Vn} (h:lp l n=some v):∃i,∃h:i<l.length,v=l[i]∧v.n=n:=by unfold lp at h;have h1:=List.mem_of_find?_eq_some h;have h2:=List.find?_some h;obtain⟨i,hi,rfl⟩:=List.getElem_of_mem (List.mem_filter.1 h1).1;exact⟨i,hi,rfl,by simpa using h2⟩
@[simp] noncomputable def Mi (e:TypeId):List AV→Option (Prop×AV)|[.pv (.ro a),.pv (.int .u64 n)]=>(dec cL a).map fun l=>(l.length≤100000∧(∀v∈l,jC v),.aJ [.fr e (az (gy l n).1),.pv (.int .i64 (gy l n).2)])|_=>none
theorem NG:aN Tryz.prog 194 (Mi 108):=by
 intro ys φ r h hφ;unfold Mi at h;split at h
 ·rename_i ra n;obtain⟨a,ha,h⟩:=Option.map_eq_some_iff.1 h;cases h;cases aF ha;obtain⟨hl5,hov⟩:=hφ;have hl9:a.length≤1000000000:=by omega
  have hl6:a.length≤1000000:=by omega
  have fl:∀l,bz (az l):=aP;refine aq (ag Fj (ag N3 (ag BS (ag PB (eD (p:=0) (k:=999) UZ (by kernel_rfl) ah))))) (by kernel_rfl) (by conv=>lhs;reduce) (by simp) ?_;cases hr:bQ a with
  |false=>
   have hp:gy a n=([],2):=by simp[gy,hr]
   simp(config := { maxSteps := 3000000 }) [hl9,hr,hp]|true=>cases hg:lp a n with
  |none=>
   have hp:gy a n=([],150):=by simp[gy,hr,hg]
   simp(config := { maxSteps := 3000000 }) [hl9,hl6,hr,hp,hg,cT,v0]|some v=>
  obtain⟨i0,hi0,hv,hvn⟩:=get_at hg;have hp:gy a n=(fG a a.length i0,0):=by simp only[gy,hr,hg];rw[if_neg (by simp),hv,xA hr hi0,Int.toNat_natCast]
  rw[hp];generalize hW:fG a a.length i0=W;apply af;·simp(config := { maxSteps := 3000000 });exact⟨rfl,rfl⟩
  apply af;·simp(config := { maxSteps := 3000000 }) [hl9,hr];exact⟨rfl,rfl⟩
  apply af;·simp(config := { maxSteps := 3000000 }) [hl9,hl6,hg,cT];exact⟨rfl,rfl⟩
  apply af;·simp(config := { maxSteps := 3000000 });exact⟨rfl,rfl⟩
  simp(config := { maxSteps := 3000000 });refine al (fun x:Nat×Nat×List Vn=>x.1<a.length∧x.1≤x.2.1∧x.2.2.length+x.1≤a.length∧W=fG a x.2.1 x.1++x.2.2.reverse) (fun x=>⟨[(0,.pv (.ro (az a))),(6,.ptr 6 0),(8,.own 8)],[(6,.box (cT (FP a x.1))),(8,.arr 108 (az x.2.2))]⟩) (fun x=>x.1) [] (i0,a.length,[]) ?_ ?_ ?_;·exact⟨hi0,by show i0≤a.length;omega,by simp;omega,by simp[hW]⟩
  ·simp[cT,lr hi0,hv]
  ·rintro⟨i,f,o⟩ ⟨hi,hf,hol,hWe⟩;dsimp only at hi hf hol hWe;rw[lr hi];have hbv:(if a[i].inl=true then 0 else a[i].b)=cY a[i]:=rfl;have hol6:o.length≤100000:=by omega
   have hrow:az o++[[PV.int .u64 a[i].n,.int .u64 a[i].b,.int .u64 a[i].p,.int .u64 a[i].i,.int .u64 a[i].s,.int .u64 a[i].z,.int .u64 a[i].m,.str a[i].t,.bool a[i].inl,.bool a[i].eG]]=az (o++[a[i]]):=by rw[dN];rfl
   have b1:(o.length+1)*80≤140737488355328:=by omega
   have b2:o.length≤9223372036854775806:=by omega
   by_cases hb:cY a[i]=0
   ·have hWr:W=(o++[a[i]]).reverse:=by
     have hpl:fG a f i=[a[i]]:=by cases f with|zero=>rw[fG,lr hi]|succ f=>rw[fG,lr hi,if_pos hb]
     rw[hWe,hpl];simp
    have hon:o.length+1≤1000000:=by omega
    simp(config := { maxSteps := 3000000 }) [cT,hbv,hb,aH,hrow,b1,b2,fl,hon];rw[hWr,List.reverse_append];rfl
   ·obtain⟨j,hji,hjx,hjn⟩:=Ih hr hi hb;have hjl:j<a.length:=by omega
    obtain⟨f,rfl⟩:∃g,f=g+1:=⟨f-1,by omega⟩;have hpl:fG a (f+1) i=fG a f j++[a[i]]:=by rw[fG,lr hi,if_neg hb,hjx,Int.toNat_natCast]
    have r1:=bq hjl;simp(config := { maxSteps := 3000000 }) [cT,hbv,hb,aH,hrow,b1,b2,hl9,hjx,r1,hjl];refine⟨j,f,o++[a[i]],⟨hjl,by omega,by rw[List.length_append,List.length_singleton];omega,?_⟩,⟨?_,rfl⟩,hji⟩;·rw[hWe,hpl];simp
    ·rw[lr hjl];exact⟨rfl,rfl,rfl,rfl,rfl,rfl,rfl,rfl,rfl,rfl⟩
 ·cases h
theorem vH {l:List Vn}:∀(f i:Nat),(fG l f i).length≤f+1
 |0,i=>by simp[fG]|f+1,i=>by
  rw[fG];split;·simp
  ·have:=vH (l:=l) f (tz l (cY (FP l i))).toNat;simp only[List.length_append,List.length_singleton];omega
@[simp] noncomputable def Grp (k:Nat):List AV→Option (Prop×AV)|[.pv (.ro a),.agg [.pv (.int .u64 n),.pv (.int .u64 b),.pv (.int .u64 p),.pv (.int .u64 i),.pv (.int .u64 s),.pv (.int .u64 z),.pv (.int .u64 m),.pv (.str t),.pv (.bool inl),.pv (.bool eG)]]=>(dec cL a).map fun l=>(l.length≤100000∧bQ l=true∧(∀v∈l,jC v)∧∃q,q<k∧q<l.length∧FP l q=⟨n,b,p,i,s,z,m,t,inl,eG⟩,.fr 144 (az (fG l l.length (tz l n).toNat)))|_=>none
end Go.Proofs.YtlicclncicbajaaGreat.Ab
