/- slices.Sort at uint64: partitionOrdered. -/
import Derived.Test.YtlmkcmfmfahcfaaGreatX12
import Derived.Sort.WalkC4
import Derived.Sort.WalkA6
import Derived.Sort.LotD3
import Derived.Sort.LotB
import Derived.Sort.LotA
import Derived.WalkKit
set_option linter.unusedVariables false
set_option linter.unusedSimpArgs false
set_option linter.unnecessarySimpa false
set_option maxHeartbeats 40000000
set_option maxRecDepth 100000
namespace Go.Proofs.YtlmkcmfmfahcfaaGreat.Ab
open Go Go.RowKit Go.Sort R
noncomputable def Jf:List AV→Option (Prop×AV)|[.aK [.fr e a],.pv (.int .i64 p),.pv (.int .i64 q),.pv (.int .i64 v)]=>if e=22 then(dec dq a).map fun l=>((0≤p∧p≤v)∧v<q∧q≤(l.length:Int)∧l.length≤1000000,.bB 0 [.aK [.pv (.int .i64 ((partition ltInt l.toArray p.toNat q.toNat v.toNat).1:Int)),.pv (.bool (partition ltInt l.toArray p.toNat q.toNat v.toNat).2.1)],.fr 22 (rA (partition ltInt l.toArray p.toNat q.toNat v.toNat).2.2)]) else none|_=>none
@[simp] theorem V3 (e:TypeId) (d:Array Int) (p q v:Int):Jf [.aK [.fr e (rA d)],.pv (.int .i64 p),.pv (.int .i64 q),.pv (.int .i64 v)]=if e=22 then some ((0≤p∧p≤v)∧v<q∧q≤(d.size:Int)∧d.size≤1000000,.bB 0 [.aK [.pv (.int .i64 ((partition ltInt d p.toNat q.toNat v.toNat).1:Int)),.pv (.bool (partition ltInt d p.toNat q.toNat v.toNat).2.1)],.fr 22 (rA (partition ltInt d p.toNat q.toNat v.toNat).2.2)]) else none:=by show(if e=22 then(dec dq (rA d)).map _ else none)=_;rw[gx];simp
theorem NG:df Tryz.prog 157 Jf:=by
 intro ys φ r h hφ;unfold Jf at h;split at h
 ·rename_i e ra p q v;split at h
  ·rename_i he;subst he;obtain⟨l,hl,h⟩:=Option.map_eq_some_iff.1 h;cases h;obtain⟨d,rfl,rfl⟩:=j8 hl;obtain⟨⟨h1,h2⟩,h3,h4,h5⟩:=hφ;rw[Array.length_toList]at h4 h5;obtain⟨a,rfl⟩:∃a:Nat,p=a:=⟨p.toNat,by omega⟩;obtain⟨b,rfl⟩:∃a:Nat,q=a:=⟨q.toNat,by omega⟩;obtain⟨c,rfl⟩:∃a:Nat,v=a:=⟨v.toNat,by omega⟩;rw[Int.toNat_natCast,Int.toNat_natCast,Int.toNat_natCast,Array.toArray_toList];refine b5 (ai lF aj) (by kernel_rfl) fn157 (by simp) rfl (by simp) ?_;unfold body157;generalize hW:partition ltInt d a b c=W;have q1:a<d.size:=by omega
   have q2:c<d.size:=by omega
   have r1:=bd q1;have r2:=bd q2;have r3:=bd (d:=d.setIfInBounds a (gA d c)) (i:=c) (by rw[Array.size_setIfInBounds];omega);obtain⟨i,hi⟩:∃i,i=a+1:=⟨_,rfl⟩;obtain⟨j,hj⟩:∃j,j=b-1:=⟨_,rfl⟩;have w1:IntKind.i64.wrap ((a:Int)+1)=(i:Int):=by rw[wrap_i64 (by omega)];omega
   have w2:IntKind.i64.wrap ((b:Int)-1)=(j:Int):=by rw[wrap_i64 (by omega)];omega
   apply af;·simp(config := { maxSteps := 3000000 });exact⟨rfl,rfl⟩
   apply af;·simp(config := { maxSteps := 3000000 }) [q1,q2,r1,r2,r3];exact⟨rfl,rfl⟩
   rw[show(d.setIfInBounds a (gA d c)).setIfInBounds c (gA d a)=swp d a c from rfl];obtain⟨D,hDD⟩:∃D,D=swp d a c:=⟨_,rfl⟩;have g4:D.size=d.size:=by rw[hDD,size_swp]
   rw[←hDD];clear r1 r2 r3;apply af;·simp(config := { maxSteps := 3000000 }) [w1,w2];exact⟨rfl,rfl⟩
   have g1:a<i:=by omega
   have g2:i≤j+1:=by omega
   have g3:j<b:=by omega
   have qa:a<D.size:=by omega
   have ra:=bd qa;obtain⟨pU,hpU⟩:∃pU:Int→Bool,pU=fun x=>ltInt x D[a]!:=⟨_,rfl⟩;obtain⟨pD,hpD⟩:∃pD:Int→Bool,pD=fun x=>!ltInt x D[a]!:=⟨_,rfl⟩;obtain⟨i2,hi2⟩:∃i2,i2=scanUp pU D j i:=⟨_,rfl⟩;obtain⟨j2,hj2⟩:∃j2,j2=scanDown pD D i2 j:=⟨_,rfl⟩;have u1:=scanUp_spec pU D j _ i rfl;rw[←hi2]at u1;have u2:=scanDown_spec pD D i2 j;rw[←hj2]at u2;have u3:i≤i2∧i2≤j+1:=⟨u1.1,u1.2.1 g2⟩;have u4:j2≤j∧i2≤j2+1:=⟨u2.1,u2.2.1 u3.2⟩;apply af
   ·rw[aP];refine ay (fun s:Nat=>i≤s∧s≤j+1∧scanUp pU D j s=i2) (fun s=>⟨[(0,.own 999),(1,.pv (.int .i64 (a:Int))),(10,.pv (.int .i64 (s:Int))),(11,.pv (.int .i64 (j:Int)))],[(999,.arr 22 (rA D))]⟩) (fun s=>j+1-s) [] i (by refine⟨?_,?_,?_⟩<;>first|omega|exact hi2.symm) ?_ ?_;·simp
    ·rintro s ⟨l1,l2,l3⟩;by_cases hc:s≤j
     ·have ws:IntKind.i64.wrap ((s:Int)+1)=((s+1:Nat):Int):=by rw[wrap_i64 (by omega)];omega
      have c1:(s:Int)≤(j:Int):=by omega
      have q1:s<D.size:=by omega
      have r1:=bd q1;cases hb:ltInt (gA D s) (gA D a) with|true=>have e:=scanUp_go pU D j s hc (by rw[hpU];exact hb);rw[e]at l3;obtain⟨s',hs'⟩:∃s',s'=s+1:=⟨_,rfl⟩;rw[←hs']at ws l3;simp(config := { maxSteps := 3000000 }) [c1,q1,qa,r1,ra,hb,ws];exact⟨s',⟨by omega,by omega,l3⟩,rfl,by omega⟩|false=>have e:=scanUp_end pU D j s (.inr (by rw[hpU];exact hb));rw[e]at l3;subst l3;simp(config := { maxSteps := 3000000 }) [c1,q1,qa,r1,ra,hb];try exact⟨rfl,rfl⟩
     ·have c1:¬(s:Int)≤(j:Int):=by omega
      have e:=scanUp_end pU D j s (.inl hc);rw[e]at l3;subst l3;rcases Nat.lt_or_ge s D.size with q1|q1;·have r1:=bd q1;simp(config := { maxSteps := 3000000 }) [c1,q1,qa,r1,ra];try exact⟨rfl,rfl⟩
      ·have r1:=kg q1;simp(config := { maxSteps := 3000000 }) [c1,qa,r1,ra];try exact⟨rfl,rfl⟩
   apply af
   ·rw[aP];refine ay (fun s:Nat=>i2≤s+1∧s≤j∧scanDown pD D i2 s=j2) (fun s=>⟨[(0,.own 999),(1,.pv (.int .i64 (a:Int))),(10,.pv (.int .i64 (i2:Int))),(11,.pv (.int .i64 (s:Int)))],[(999,.arr 22 (rA D))]⟩) (fun s=>s) [] j (by refine⟨?_,?_,?_⟩<;>first|omega|exact hj2.symm) ?_ ?_;·simp
    ·rintro s ⟨l1,l2,l3⟩;by_cases hc:i2≤s
     ·have ws:IntKind.i64.wrap ((s:Int)-1)=((s-1:Nat):Int):=by rw[wrap_i64 (by omega)];omega
      have c1:(i2:Int)≤(s:Int):=by omega
      have q1:s<D.size:=by omega
      have r1:=bd q1;cases hb:(!ltInt (gA D s) (gA D a)) with|true=>have e:=scanDown_go pD D i2 s hc (by omega) (by rw[hpD];exact hb);rw[e]at l3;obtain⟨s',hs'⟩:∃s',s'=s-1:=⟨_,rfl⟩;rw[←hs']at ws l3;simp(config := { maxSteps := 3000000 }) [c1,q1,qa,r1,ra,hb,ws];exact⟨s',⟨by omega,by omega,l3⟩,rfl,by omega⟩|false=>have e:=scanDown_end pD D i2 s (.inr (by rw[hpD];exact hb));rw[e]at l3;subst l3;simp(config := { maxSteps := 3000000 }) [c1,q1,qa,r1,ra,hb];try exact⟨rfl,rfl⟩
     ·have c1:¬(i2:Int)≤(s:Int):=by omega
      have e:=scanDown_end pD D i2 s (.inl hc);rw[e]at l3;subst l3;rcases Nat.lt_or_ge s D.size with q1|q1;·have r1:=bd q1;simp(config := { maxSteps := 3000000 }) [c1,q1,qa,r1,ra];try exact⟨rfl,rfl⟩
      ·have r1:=kg q1;simp(config := { maxSteps := 3000000 }) [c1,qa,r1,ra];try exact⟨rfl,rfl⟩
   have z2:j2<D.size:=by omega
   have r2:=bd z2;by_cases hgt:i2>j2
   ·have k1:(j2:Int)<(i2:Int):=by omega
    have e:=part_first_break ltInt d a b c hi hj hDD (by rw[hi2,hpU]) (by rw[hj2,hpD]) hgt;rw[hW]at e;subst e;have r3:=bd (d:=D.setIfInBounds j2 (gA D a)) (i:=a) (by rw[Array.size_setIfInBounds];omega);simp(config := { maxSteps := 3000000 }) [k1,qa,z2,ra,r2,r3];rfl
   ·have k1:¬(j2:Int)<(i2:Int):=by omega
    have e:=part_first_go ltInt d a b c hi hj hDD (by rw[hi2,hpU]) (by rw[hj2,hpD]) hgt;rw[hW]at e;have lt2:=part_scans_lt ltInt a i j D (by omega) (i2:=i2) (j2:=j2) (by rw[hi2,hpU]) (by rw[hj2,hpD]) (by omega);obtain⟨V,hV⟩:∃V,V=partLoop ltInt a (i2+1) (j2-1) (swp D i2 j2):=⟨_,rfl⟩;rw[←hV]at e;subst e;obtain⟨i3,hi3⟩:∃i3,i3=i2+1:=⟨_,rfl⟩;obtain⟨j3,hj3⟩:∃j3,j3=j2-1:=⟨_,rfl⟩;rw[←hi3,←hj3]at hV;have z1:i2<D.size:=by omega
    have r1:=bd z1;have r3:=bd (d:=D.setIfInBounds i2 (gA D j2)) (i:=j2) (by rw[Array.size_setIfInBounds];omega);have v1:IntKind.i64.wrap ((i2:Int)+1)=(i3:Int):=by rw[wrap_i64 (by omega)];omega
    have v2:IntKind.i64.wrap ((j2:Int)-1)=(j3:Int):=by rw[wrap_i64 (by omega)];omega
    apply af;·simp(config := { maxSteps := 3000000 }) [k1];exact⟨rfl,rfl⟩
    apply af;·simp(config := { maxSteps := 3000000 }) [z1,z2,r1,r2,r3];exact⟨rfl,rfl⟩
    rw[show(D.setIfInBounds i2 (gA D j2)).setIfInBounds j2 (gA D i2)=swp D i2 j2 from rfl];apply af;·simp(config := { maxSteps := 3000000 }) [v1];exact⟨rfl,rfl⟩
    apply af;·simp(config := { maxSteps := 3000000 }) [v2];exact⟨rfl,rfl⟩
    rw[bA];rw[aP];refine ay (fun x:(Nat×Nat)×Array Int=>(a<x.1.1∧x.1.1≤x.1.2+1)∧x.1.2<b∧x.2.size=d.size∧V=partLoop ltInt a x.1.1 x.1.2 x.2) (fun x=>⟨[(0,.own 999),(1,.pv (.int .i64 (a:Int))),(10,.pv (.int .i64 (x.1.1:Int))),(11,.pv (.int .i64 (x.1.2:Int)))],[(999,.arr 22 (rA x.2))]⟩) (fun x=>x.1.2) [] ((i3,j3),swp D i2 j2) ⟨⟨by show a<i3;omega,by show i3≤j3+1;omega⟩,by show j3<b;omega,by rw[size_swp,g4],hV⟩ ?_ ?_;·simp
    ·clear hV hi2 hj2 u1 u2 u3 u4 hi hj hi3 hj3 v1 v2 r1 r2 r3 z1 z2 k1 hgt lt2 w1 w2 g1 g2 g3 q1 q2 hDD g4 qa ra hpU hpD hW i2 j2 pU pD;clear D;rintro⟨⟨i,j⟩,D⟩ ⟨⟨g1,g2⟩,g3,g4,g5⟩;have g1:a<i:=g1;have g2:i≤j+1:=g2;have g3:j<b:=g3;have g4:D.size=d.size:=g4;have g5:V=partLoop ltInt a i j D:=g5;have qa:a<D.size:=by omega
     have ra:=bd qa;obtain⟨pU,hpU⟩:∃pU:Int→Bool,pU=fun x=>ltInt x D[a]!:=⟨_,rfl⟩;obtain⟨pD,hpD⟩:∃pD:Int→Bool,pD=fun x=>!ltInt x D[a]!:=⟨_,rfl⟩;obtain⟨i2,hi2⟩:∃i2,i2=scanUp pU D j i:=⟨_,rfl⟩;obtain⟨j2,hj2⟩:∃j2,j2=scanDown pD D i2 j:=⟨_,rfl⟩;have u1:=scanUp_spec pU D j _ i rfl;rw[←hi2]at u1;have u2:=scanDown_spec pD D i2 j;rw[←hj2]at u2;have u3:i≤i2∧i2≤j+1:=⟨u1.1,u1.2.1 g2⟩;have u4:j2≤j∧i2≤j2+1:=⟨u2.1,u2.2.1 u3.2⟩;rw[lX];dsimp only;rw[aP];apply af
     ·rw[aP];refine ay (fun s:Nat=>i≤s∧s≤j+1∧scanUp pU D j s=i2) (fun s=>⟨[(0,.own 999),(1,.pv (.int .i64 (a:Int))),(10,.pv (.int .i64 (s:Int))),(11,.pv (.int .i64 (j:Int)))],[(999,.arr 22 (rA D))]⟩) (fun s=>j+1-s) [] i (by refine⟨?_,?_,?_⟩<;>first|omega|exact hi2.symm) ?_ ?_;·simp
      ·rintro s ⟨l1,l2,l3⟩;by_cases hc:s≤j
       ·have ws:IntKind.i64.wrap ((s:Int)+1)=((s+1:Nat):Int):=by rw[wrap_i64 (by omega)];omega
        have c1:(s:Int)≤(j:Int):=by omega
        have q1:s<D.size:=by omega
        have r1:=bd q1;cases hb:ltInt (gA D s) (gA D a) with|true=>have e:=scanUp_go pU D j s hc (by rw[hpU];exact hb);rw[e]at l3;obtain⟨s',hs'⟩:∃s',s'=s+1:=⟨_,rfl⟩;rw[←hs']at ws l3;simp(config := { maxSteps := 3000000 }) [c1,q1,qa,r1,ra,hb,ws];exact⟨s',⟨by omega,by omega,l3⟩,rfl,by omega⟩|false=>have e:=scanUp_end pU D j s (.inr (by rw[hpU];exact hb));rw[e]at l3;subst l3;simp(config := { maxSteps := 3000000 }) [c1,q1,qa,r1,ra,hb];try exact⟨rfl,rfl⟩
       ·have c1:¬(s:Int)≤(j:Int):=by omega
        have e:=scanUp_end pU D j s (.inl hc);rw[e]at l3;subst l3;rcases Nat.lt_or_ge s D.size with q1|q1;·have r1:=bd q1;simp(config := { maxSteps := 3000000 }) [c1,q1,qa,r1,ra];try exact⟨rfl,rfl⟩
        ·have r1:=kg q1;simp(config := { maxSteps := 3000000 }) [c1,qa,r1,ra];try exact⟨rfl,rfl⟩
     apply af
     ·rw[aP];refine ay (fun s:Nat=>i2≤s+1∧s≤j∧scanDown pD D i2 s=j2) (fun s=>⟨[(0,.own 999),(1,.pv (.int .i64 (a:Int))),(10,.pv (.int .i64 (i2:Int))),(11,.pv (.int .i64 (s:Int)))],[(999,.arr 22 (rA D))]⟩) (fun s=>s) [] j (by refine⟨?_,?_,?_⟩<;>first|omega|exact hj2.symm) ?_ ?_;·simp
      ·rintro s ⟨l1,l2,l3⟩;by_cases hc:i2≤s
       ·have ws:IntKind.i64.wrap ((s:Int)-1)=((s-1:Nat):Int):=by rw[wrap_i64 (by omega)];omega
        have c1:(i2:Int)≤(s:Int):=by omega
        have q1:s<D.size:=by omega
        have r1:=bd q1;cases hb:(!ltInt (gA D s) (gA D a)) with|true=>have e:=scanDown_go pD D i2 s hc (by omega) (by rw[hpD];exact hb);rw[e]at l3;obtain⟨s',hs'⟩:∃s',s'=s-1:=⟨_,rfl⟩;rw[←hs']at ws l3;simp(config := { maxSteps := 3000000 }) [c1,q1,qa,r1,ra,hb,ws];exact⟨s',⟨by omega,by omega,l3⟩,rfl,by omega⟩|false=>have e:=scanDown_end pD D i2 s (.inr (by rw[hpD];exact hb));rw[e]at l3;subst l3;simp(config := { maxSteps := 3000000 }) [c1,q1,qa,r1,ra,hb];try exact⟨rfl,rfl⟩
       ·have c1:¬(i2:Int)≤(s:Int):=by omega
        have e:=scanDown_end pD D i2 s (.inl hc);rw[e]at l3;subst l3;rcases Nat.lt_or_ge s D.size with q1|q1;·have r1:=bd q1;simp(config := { maxSteps := 3000000 }) [c1,q1,qa,r1,ra];try exact⟨rfl,rfl⟩
        ·have r1:=kg q1;simp(config := { maxSteps := 3000000 }) [c1,qa,r1,ra];try exact⟨rfl,rfl⟩
     have z2:j2<D.size:=by omega
     have r2:=bd z2;by_cases hgt:i2>j2
     ·have k1:(j2:Int)<(i2:Int):=by omega
      have e:=part_break ltInt a i j D (i2:=i2) (j2:=j2) (by rw[hi2,hpU]) (by rw[hj2,hpD]) hgt;rw[←g5]at e;have e1:(j2:Int)=(V.1:Int):=by rw[e]
      have e2:rA (swp D j2 a)=rA (swp V.2 V.1 a):=by rw[e]
      have r3:=bd (d:=D.setIfInBounds j2 (gA D a)) (i:=a) (by rw[Array.size_setIfInBounds];omega);simp(config := { maxSteps := 3000000 }) [k1,qa,z2,ra,r2,r3];exact⟨e1,e2⟩
     ·have k1:¬(j2:Int)<(i2:Int):=by omega
      have e:=part_go ltInt a i j D (i2:=i2) (j2:=j2) (by rw[hi2,hpU]) (by rw[hj2,hpD]) hgt;rw[e]at g5;have lt2:=part_scans_lt ltInt a i j D (by omega) (i2:=i2) (j2:=j2) (by rw[hi2,hpU]) (by rw[hj2,hpD]) (by omega);have z1:i2<D.size:=by omega
      have r1:=bd z1;have r3:=bd (d:=D.setIfInBounds i2 (gA D j2)) (i:=j2) (by rw[Array.size_setIfInBounds];omega);have v1:IntKind.i64.wrap ((i2:Int)+1)=(i2:Int)+1:=wrap_i64 (by omega);obtain⟨j3,hj3⟩:∃j3,j3=j2-1:=⟨_,rfl⟩;have v2:IntKind.i64.wrap ((j2:Int)-1)=(j3:Int):=by rw[wrap_i64 (by omega)];omega
      rw[←hj3]at g5;apply af;·simp(config := { maxSteps := 3000000 }) [k1];exact⟨rfl,rfl⟩
      apply af;·simp(config := { maxSteps := 3000000 }) [z1,z2,r1,r2,r3];exact⟨rfl,rfl⟩
      simp(config := { maxSteps := 3000000 }) [v1,v2];exact⟨i2+1,j3,swp D i2 j2,⟨⟨by omega,by omega⟩,by omega,by rw[size_swp,g4],g5⟩,⟨⟨by omega,rfl⟩,rfl⟩,by omega⟩
  ·cases h
 ·cases h
noncomputable def JW:List AV→Option (Prop×AV)|[.aK [.fr e a],.pv (.int .i64 p),.pv (.int .i64 q)]=>if e=22 then(dec dq a).map fun l=>((0≤p∧p<q)∧q≤(l.length:Int)∧l.length<50,.bB 0 [.pv (.bool (partialInsertionSort ltInt l.toArray p.toNat q.toNat).2),.fr 22 (rA (partialInsertionSort ltInt l.toArray p.toNat q.toNat).1)]) else none|_=>none
@[simp] theorem U8 (e:TypeId) (d:Array Int) (p q:Int):JW [.aK [.fr e (rA d)],.pv (.int .i64 p),.pv (.int .i64 q)]=if e=22 then some ((0≤p∧p<q)∧q≤(d.size:Int)∧d.size<50,.bB 0 [.pv (.bool (partialInsertionSort ltInt d p.toNat q.toNat).2),.fr 22 (rA (partialInsertionSort ltInt d p.toNat q.toNat).1)]) else none:=by show(if e=22 then(dec dq (rA d)).map _ else none)=_;rw[gx];simp
theorem xE {d:Array Int}{a b:Nat} (h:b-a<50):partialInsertionSort ltInt d a b=(d,decide (scanSorted ltInt d b (a+1)=b)):=by
 unfold partialInsertionSort partialIns;by_cases hs:scanSorted ltInt d b (a+1)=b;·simp only[if_pos hs,decide_eq_true hs]
 ·simp only[if_neg hs,if_pos h,decide_eq_false hs]
theorem JA (d:Array Int) (b:Nat):∀(n i:Nat),b-i=n→i≤b→scanSorted ltInt d b i≤b:=by intro n;induction n with|zero=>intro i h1 h2;rw[scanSorted_stop ltInt d b i (.inl (by omega))];exact h2|succ n ih=>intro i h1 h2;cases hl:ltInt d[i]! d[i-1]! with|true=>rw[scanSorted_stop ltInt d b i (.inr hl)];exact h2|false=>rw[scanSorted_go ltInt d b i (by omega) hl];exact ih (i+1) (by omega) (by omega)
theorem Ou:df Tryz.prog 154 JW:=by
 intro ys φ r h hφ;unfold JW at h;split at h
 ·rename_i e ra p q;split at h
  ·rename_i he;subst he;obtain⟨l,hl,h⟩:=Option.map_eq_some_iff.1 h;cases h;obtain⟨D,rfl,rfl⟩:=j8 hl;obtain⟨⟨h1,h2⟩,h3,h5⟩:=hφ;rw[Array.length_toList]at h3 h5;obtain⟨a,rfl⟩:∃a:Nat,p=a:=⟨p.toNat,by omega⟩;obtain⟨b,rfl⟩:∃a:Nat,q=a:=⟨q.toNat,by omega⟩;rw[Int.toNat_natCast,Int.toNat_natCast,Array.toArray_toList,xE (by omega)];obtain⟨i0,hi0⟩:∃i0,i0=a+1:=⟨_,rfl⟩;obtain⟨i2,hi2⟩:∃i2,i2=scanSorted ltInt D b i0:=⟨_,rfl⟩;have le2:i2≤b:=by rw[hi2];exact JA D b _ i0 rfl (by omega)
   rw[←hi0,←hi2];have w1:IntKind.i64.wrap ((a:Int)+1)=(i0:Int):=by rw[wrap_i64 (by omega)];omega
   have w2:IntKind.i64.wrap ((b:Int)-(a:Int))=(b:Int)-(a:Int):=wrap_i64 (by omega);refine b5 (ai lF aj) (by kernel_rfl) fn154 (by simp) rfl (by simp) ?_;unfold body154;apply af;·simp(config := { maxSteps := 3000000 });exact⟨rfl,rfl⟩
   apply af;·simp(config := { maxSteps := 3000000 }) [w1];exact⟨rfl,rfl⟩
   rw[bA];apply af;·simp(config := { maxSteps := 3000000 });exact⟨rfl,rfl⟩
   rw[aP];refine ay (fun _:Unit=>True) (fun _=>⟨[(0,.own 999),(1,.pv (.int .i64 (a:Int))),(2,.pv (.int .i64 (b:Int))),(6,.pv (.bool false)),(7,.pv (.int .i64 (i0:Int))),(8,.pv (.int .i64 0))],[(999,.arr 22 (rA D))]⟩) (fun _=>0) [] () trivial ?_ ?_;·simp
   ·intro _ _;apply af;·simp(config := { maxSteps := 3000000 });exact⟨rfl,rfl⟩
    rw[bA];rw[aP];apply af
    ·rw[aP];refine ay (fun s:Nat=>i0≤s∧s≤b∧scanSorted ltInt D b s=i2) (fun s=>⟨[(0,.own 999),(1,.pv (.int .i64 (a:Int))),(2,.pv (.int .i64 (b:Int))),(6,.pv (.bool false)),(7,.pv (.int .i64 (s:Int)))],[(999,.arr 22 (rA D))]⟩) (fun s=>b-s) [] i0 ⟨Nat.le_refl _,by omega,hi2.symm⟩ ?_ ?_;·simp
     ·rintro s ⟨l1,l2,l3⟩;obtain⟨t,ht⟩:∃t,s=t+1:=⟨s-1,by omega⟩;have ws:IntKind.i64.wrap ((s:Int)-1)=(t:Int):=by rw[wrap_i64 (by omega)];omega
      have wp:IntKind.i64.wrap ((s:Int)+1)=(s:Int)+1:=wrap_i64 (by omega);have q2:t<D.size:=by omega
      have r2:=bd q2;by_cases hc:s<b
      ·have c1:(s:Int)<(b:Int):=by omega
       have q1:s<D.size:=by omega
       have r1:=bd q1;cases hb:ltInt D[s]! D[s-1]! with|false=>
        rw[scanSorted_go ltInt D b s hc hb]at l3;have hb2:ltInt (gA D s) (gA D t)=false:=by rw[←hb,show t=s-1 by omega];rfl
        simp(config := { maxSteps := 3000000 }) [c1,q1,q2,r1,r2,hb2,ws,wp];exact⟨s+1,⟨by omega,by omega,l3⟩,by omega,by omega⟩|true=>
        rw[scanSorted_stop ltInt D b s (.inr hb)]at l3;have hb2:ltInt (gA D s) (gA D t)=true:=by rw[←hb,show t=s-1 by omega];rfl
        subst l3;simp(config := { maxSteps := 3000000 }) [c1,q1,q2,r1,r2,hb2,ws];exact⟨rfl,rfl⟩
      ·have c1:¬(s:Int)<(b:Int):=by omega
       rw[scanSorted_stop ltInt D b s (.inl hc)]at l3;subst l3;rcases Nat.lt_or_ge s D.size with q1|q1;·have r1:=bd q1;simp(config := { maxSteps := 3000000 }) [c1,q1,q2,r1,r2,ws];try exact⟨rfl,rfl⟩
       ·have r1:=kg q1;simp(config := { maxSteps := 3000000 }) [c1,q2,r1,r2,ws];try exact⟨rfl,rfl⟩
    by_cases hz:i2=b
    ·have c1:(i2:Int)=(b:Int):=by omega
     simp(config := { maxSteps := 3000000 }) [c1,hz]
    ·have c1:¬(i2:Int)=(b:Int):=by omega
     have c2:(b:Int)-(a:Int)<50:=by omega
     apply af;·simp(config := { maxSteps := 3000000 }) [c1,hz];exact⟨rfl,rfl⟩
     simp(config := { maxSteps := 3000000 }) [c2,w2,hz]
  ·cases h
 ·cases h
theorem uB:SWO ltInt where
 irrefl x:=by unfold ltInt;simp
 trans x y z h1 h2:=by unfold ltInt at*;simp at*;omega
 ntrans x y z h1 h2:=by unfold ltInt at*;simp at*;omega
theorem td (a b:Nat):∀(n i j:Nat) (d:Array Int),j=n→a<i→i≤j+1→j<b→a<(partEqLoop ltInt a i j d).1∧(partEqLoop ltInt a i j d).1≤b∧(partEqLoop ltInt a i j d).2.size=d.size:=by intro n;induction n using Nat.strongRecOn with|_ n ih=>
 intro i j d hn h1 h2 h3;have u1:=scanUp_spec (fun x=>!ltInt d[a]! x) d j _ i rfl;obtain⟨i2,hi2⟩:∃i2,i2=scanUp (fun x=>!ltInt d[a]! x) d j i:=⟨_,rfl⟩;rw[←hi2]at u1;have u2:=scanDown_spec (fun x=>ltInt d[a]! x) d i2 j;obtain⟨j2,hj2⟩:∃j2,j2=scanDown (fun x=>ltInt d[a]! x) d i2 j:=⟨_,rfl⟩;rw[←hj2]at u2;have u3:i≤i2∧i2≤j+1:=⟨u1.1,u1.2.1 h2⟩;have u4:j2≤j∧i2≤j2+1:=⟨u2.1,u2.2.1 u3.2⟩;by_cases hgt:i2>j2;·rw[partEq_break ltInt a i j d hi2 hj2 hgt];exact⟨by show a<i2;omega,by show i2≤b;omega,rfl⟩
 ·have lt2:=scans_lt ltInt a i j d (by omega) hi2 hj2 (by omega);rw[partEq_go ltInt a i j d hi2 hj2 hgt];have:=ih (j2-1) (by omega) (i2+1) (j2-1) (swp d i2 j2) rfl (by omega) (by omega) (by omega);rw[size_swp]at this;exact this
theorem sM {d:Array Int}{a b c:Nat} (h1:a≤c) (h2:c<b) (h3:b≤d.size):a≤(partition ltInt d a b c).1∧(partition ltInt d a b c).1<b∧(partition ltInt d a b c).2.2.size=d.size:=by obtain⟨x1,x2,x3,_⟩:=partition_holds (lt:=ltInt) uB d a b c h1 h2 h3;exact⟨x1,x2,x3.1⟩
theorem vY {D D1 D2:Array Int}{a b lm lm1 pv:Nat}{wb wp:Bool}{c:Nat×Hint}{hint:Hint}{pi:Array Int×Bool} (h12:¬b-a≤12) (hl:¬lm=0) (e1:D1=if(!wb)=true then breakPatterns D a b else D) (e2:lm1=if(!wb)=true then lm-1 else lm) (e3:c=choosePivot ltInt D1 a b) (e4:D2=if c.2=.decreasing then reverseRange D1 a b else D1) (e5:pv=if c.2=.decreasing then(b-1)-(c.1-a) else c.1) (e6:hint=if c.2=.decreasing then Hint.increasing else c.2) (e7:pi=if(wb&&wp&&decide (hint=.increasing))=true then partialInsertionSort ltInt D2 a b else(D2,false)):pdq ltInt D a b lm wb wp=if pi.2=true then pi.1 else if(decide (a>0)&&!ltInt pi.1[a-1]! pi.1[pv]!)=true then(if a<(partitionEqual ltInt pi.1 a b pv).1∧(partitionEqual ltInt pi.1 a b pv).1≤b then pdq ltInt (partitionEqual ltInt pi.1 a b pv).2 (partitionEqual ltInt pi.1 a b pv).1 b lm1 wb wp else(partitionEqual ltInt pi.1 a b pv).2) else(if a≤(partition ltInt pi.1 a b pv).1∧(partition ltInt pi.1 a b pv).1<b then(if(partition ltInt pi.1 a b pv).1-a<b-(partition ltInt pi.1 a b pv).1 then pdq ltInt (pdq ltInt (partition ltInt pi.1 a b pv).2.2 a (partition ltInt pi.1 a b pv).1 lm1 true true) ((partition ltInt pi.1 a b pv).1+1) b lm1 (decide ((partition ltInt pi.1 a b pv).1-a≥(b-a)/8)) (partition ltInt pi.1 a b pv).2.1 else pdq ltInt (pdq ltInt (partition ltInt pi.1 a b pv).2.2 ((partition ltInt pi.1 a b pv).1+1) b lm1 true true) a (partition ltInt pi.1 a b pv).1 lm1 (decide (b-(partition ltInt pi.1 a b pv).1≥(b-a)/8)) (partition ltInt pi.1 a b pv).2.1) else(partition ltInt pi.1 a b pv).2.2):=by subst e1 e2 e3 e4 e5 e6 e7;rw[pdq];dsimp only;rw[if_neg h12,if_neg hl];rfl
theorem CQ {D:Array Int}{a b c:Nat} (h1:a≤c) (h2:c<b):a<(partitionEqual ltInt D a b c).1∧(partitionEqual ltInt D a b c).1≤b∧(partitionEqual ltInt D a b c).2.size=D.size:=by have:=td a b _ (a+1) (b-1) (swp D a c) rfl (by omega) (by omega) (by omega);rw[size_swp]at this;exact this
theorem wj:∀(n:Nat) (D:Array Int) (a b lm:Nat) (wb wp:Bool),b-a=n→a≤b→b≤D.size→b-a<50→(pdq ltInt D a b lm wb wp).size=D.size:=by intro n;induction n using Nat.strongRecOn with|_ n ih=>
 intro D a b lm wb wp hn h1 h2 h50;by_cases h12:b-a≤12;·rw[pdq,if_pos h12];exact(insertionSort_holds (lt:=ltInt) uB D a b h1 h2).1.1
 by_cases hl:lm=0;·rw[pdq,if_neg h12,if_pos hl];exact(heapSort_holds (lt:=ltInt) uB D a b h1 h2).1.1
 obtain⟨D1,e1⟩:∃D1,D1=if(!wb)=true then breakPatterns D a b else D:=⟨_,rfl⟩;obtain⟨lm1,e2⟩:∃lm1,lm1=if(!wb)=true then lm-1 else lm:=⟨_,rfl⟩;obtain⟨c,e3⟩:∃c,c=choosePivot ltInt D1 a b:=⟨_,rfl⟩;obtain⟨D2,e4⟩:∃D2,D2=if c.2=.decreasing then reverseRange D1 a b else D1:=⟨_,rfl⟩;obtain⟨pv,e5⟩:∃pv,pv=if c.2=.decreasing then(b-1)-(c.1-a) else c.1:=⟨_,rfl⟩;obtain⟨hint,e6⟩:∃hint,hint=if c.2=.decreasing then Hint.increasing else c.2:=⟨_,rfl⟩;obtain⟨pi,e7⟩:∃pi,pi=if(wb&&wp&&decide (hint=.increasing))=true then partialInsertionSort ltInt D2 a b else(D2,false):=⟨_,rfl⟩;rw[vY h12 hl e1 e2 e3 e4 e5 e6 e7];have t1:D1.size=D.size:=by
  rw[e1];split;·exact(breakPatterns_holds D a b h1 h2).1
  ·rfl
 have t2:=choosePivot_holds ltInt D1 a b (by omega);rw[←e3]at t2;have t3:D2.size=D.size:=by
  rw[e4];split;·rw[(reverseRange_holds D1 a b h1 (by omega)).1,t1]
  ·exact t1
 have t4:a≤pv∧pv<b:=by rw[e5];split<;>omega
 have t6:pi.1.size=D.size:=by
  rw[e7];split;·rw[xE h50];exact t3
  ·exact t3
 have p1:=CQ (D:=pi.1) t4.1 t4.2;have p2:=sM (d:=pi.1) t4.1 t4.2 (by omega);split;·exact t6
 split;·rw[if_pos ⟨p1.1,p1.2.1⟩,ih _ (by omega) _ _ _ _ _ _ rfl (by omega) (by omega) (by omega)];omega
 ·rw[if_pos ⟨p2.1,p2.2.1⟩];split;·rw[ih _ (by omega) _ _ _ _ _ _ rfl (by omega) (by rw[ih _ (by omega) _ _ _ _ _ _ rfl (by omega) (by omega) (by omega)];omega) (by omega),ih _ (by omega) _ _ _ _ _ _ rfl (by omega) (by omega) (by omega)];omega
  ·rw[ih _ (by omega) _ _ _ _ _ _ rfl (by omega) (by rw[ih _ (by omega) _ _ _ _ _ _ rfl (by omega) (by omega) (by omega)];omega) (by omega),ih _ (by omega) _ _ _ _ _ _ rfl (by omega) (by omega) (by omega)];omega
noncomputable def Uw (N:Nat):List AV→Option (Prop×AV)|[.aK [.fr e a],.pv (.int .i64 p),.pv (.int .i64 q),.pv (.int .i64 m)]=>if e=22∧N≠0 then(dec dq a).map fun l=>((0≤p∧p≤q)∧q-p<(N:Int)∧(q≤(l.length:Int)∧l.length<50)∧0≤m∧m≤1000,.bB 0 [.aK [],.fr 22 (rA (pdq ltInt l.toArray p.toNat q.toNat m.toNat true true))]) else none|_=>none
@[simp] theorem Xm (N:Nat) (e:TypeId) (d:Array Int) (p q m:Int):Uw N [.aK [.fr e (rA d)],.pv (.int .i64 p),.pv (.int .i64 q),.pv (.int .i64 m)]=if e=22∧N≠0 then some ((0≤p∧p≤q)∧q-p<(N:Int)∧(q≤(d.size:Int)∧d.size<50)∧0≤m∧m≤1000,.bB 0 [.aK [],.fr 22 (rA (pdq ltInt d p.toNat q.toNat m.toNat true true))]) else none:=by show(if e=22∧N≠0 then(dec dq (rA d)).map _ else none)=_;rw[gx];simp
theorem Rv:∀N,df Tryz.prog 147 (Uw N)
 |0=>by
  intro ys φ r h hφ;unfold Uw at h;split at h;·rw[if_neg (by simp)]at h;cases h
  ·cases h|N+1=>by
  have hrec:=Rv N;intro ys φ r h hφ;unfold Uw at h;split at h
  ·rename_i e ra p q m;split at h
   ·rename_i he;obtain⟨rfl,_⟩:=he;obtain⟨l,hl,h⟩:=Option.map_eq_some_iff.1 h;cases h;obtain⟨d,rfl,rfl⟩:=j8 hl;obtain⟨⟨h1,h2⟩,h3,⟨h4,h5⟩,h6,h7⟩:=hφ;rw[Array.length_toList]at h4 h5;obtain⟨a,rfl⟩:∃a:Nat,p=a:=⟨p.toNat,by omega⟩;obtain⟨b,rfl⟩:∃a:Nat,q=a:=⟨q.toNat,by omega⟩;obtain⟨lm,rfl⟩:∃a:Nat,m=a:=⟨m.toNat,by omega⟩;rw[Int.toNat_natCast,Int.toNat_natCast,Int.toNat_natCast,Array.toArray_toList];generalize hW:pdq ltInt d a b lm true true=W;refine b5 (aZ (ks:=[2,0,0,0]) hrec (by kernel_rfl) (aZ (ks:=[2,0,0]) H9 (by kernel_rfl) (aZ (ks:=[2,0,0]) Ir (by kernel_rfl) (aZ (ks:=[2,0,0]) SH (by kernel_rfl) (ai Qz (aZ (ks:=[2,0,0]) Sc (by kernel_rfl) (aZ (ks:=[2,0,0]) Ou (by kernel_rfl) (ai lF (aZ (ks:=[2,0,0,0]) RY (by kernel_rfl) (aZ (ks:=[2,0,0,0]) NG (by kernel_rfl) aj)))))))))) (by kernel_rfl) fn147 (by simp) rfl (by simp) ?_;unfold body147;apply af;·simp(config := { maxSteps := 3000000 });exact⟨rfl,rfl⟩
    apply af;·simp(config := { maxSteps := 3000000 });exact⟨rfl,rfl⟩
    rw[aP];refine ay (fun x:((Nat×Nat)×Nat)×(Bool×Bool)×Array Int=>(x.1.1.1≤x.1.1.2∧x.1.1.2≤d.size)∧x.1.1.2-x.1.1.1<N+1∧x.1.2≤1000∧x.2.2.size=d.size∧pdq ltInt x.2.2 x.1.1.1 x.1.1.2 x.1.2 x.2.1.1 x.2.1.2=W) (fun x=>⟨[(0,.own 999),(1,.pv (.int .i64 (x.1.1.1:Int))),(2,.pv (.int .i64 (x.1.1.2:Int))),(3,.pv (.int .i64 (x.1.2:Int))),(8,.pv (.bool x.2.1.1)),(9,.pv (.bool x.2.1.2))],[(999,.arr 22 (rA x.2.2))]⟩) (fun x=>x.1.1.2-x.1.1.1) [] (((a,b),lm),(true,true),d) ⟨⟨by show a≤b;omega,by show b≤d.size;omega⟩,by show b-a<N+1;omega,by show lm≤1000;omega,rfl,hW⟩ ?_ ?_;·simp
    ·rintro⟨⟨⟨a,b⟩,lm⟩,⟨wb,wp⟩,D⟩ ⟨⟨g1,g2⟩,g3,g4,g5,g6⟩;have g1:a≤b:=g1;have g2:b≤d.size:=g2;have g3:b-a<N+1:=g3;have g4:lm≤1000:=g4;have g5:D.size=d.size:=g5;have g6:pdq ltInt D a b lm wb wp=W:=g6;obtain⟨n,hn⟩:∃n,n=b-a:=⟨_,rfl⟩;have w0:IntKind.i64.wrap ((b:Int)-(a:Int))=(n:Int):=by rw[wrap_i64 (by omega)];omega
     have s1:(a:Int)≤(b:Int):=by omega
     have s2:(b:Int)≤(D.size:Int):=by omega
     have s3:D.size≤1000000:=by omega
     have s4:D.size≤200:=by omega
     have s5:D.size<50:=by omega
     rw[lX];dsimp only;rw[aP];apply af;·simp(config := { maxSteps := 3000000 }) [w0];exact⟨rfl,rfl⟩
     by_cases h12:b-a≤12
     ·have hx:pdq ltInt D a b lm wb wp=insertionSort ltInt D a b:=by rw[pdq,if_pos h12]
      rw[hx]at g6;have c12:(n:Int)≤12:=by omega
      subst g6;simp(config := { maxSteps := 3000000 }) [c12,s1,s2,s3]
     have c12:¬(n:Int)≤12:=by omega
     apply af;·simp(config := { maxSteps := 3000000 }) [c12];exact⟨rfl,rfl⟩
     by_cases hl0:lm=0
     ·have hx:pdq ltInt D a b lm wb wp=heapSort ltInt D a b:=by rw[pdq,if_neg h12,if_pos hl0]
      rw[hx]at g6;subst g6;subst hl0;simp(config := { maxSteps := 3000000 }) [s1,s2,s3]
     have cl0:¬(lm:Int)=0:=by omega
     apply af;·simp(config := { maxSteps := 3000000 }) [cl0,hl0];exact⟨rfl,rfl⟩
     obtain⟨D1,e1⟩:∃D1,D1=if(!wb)=true then breakPatterns D a b else D:=⟨_,rfl⟩;obtain⟨lm1,e2⟩:∃lm1,lm1=if(!wb)=true then lm-1 else lm:=⟨_,rfl⟩;obtain⟨c,e3⟩:∃c,c=choosePivot ltInt D1 a b:=⟨_,rfl⟩;obtain⟨D2,e4⟩:∃D2,D2=if c.2=.decreasing then reverseRange D1 a b else D1:=⟨_,rfl⟩;obtain⟨pv,e5⟩:∃pv,pv=if c.2=.decreasing then(b-1)-(c.1-a) else c.1:=⟨_,rfl⟩;obtain⟨hint,e6⟩:∃hint,hint=if c.2=.decreasing then Hint.increasing else c.2:=⟨_,rfl⟩;obtain⟨pi,e7⟩:∃pi,pi=if(wb&&wp&&decide (hint=.increasing))=true then partialInsertionSort ltInt D2 a b else(D2,false):=⟨_,rfl⟩;rw[vY h12 hl0 e1 e2 e3 e4 e5 e6 e7]at g6;have t1:D1.size=D.size:=by
      rw[e1];split;·exact(breakPatterns_holds D a b g1 (by omega)).1
      ·rfl
     have t2:=choosePivot_holds ltInt D1 a b (by omega);rw[←e3]at t2;have t3:D2.size=D.size:=by
      rw[e4];split;·rw[(reverseRange_holds D1 a b g1 (by omega)).1,t1]
      ·exact t1
     have t4:a≤pv∧pv<b:=by rw[e5];split<;>omega
     have t5:lm1≤lm:=by rw[e2];split<;>omega
     have v1:IntKind.i64.wrap ((lm:Int)-1)=((lm-1:Nat):Int):=by rw[wrap_i64 (by omega)];omega
     apply mA (fun st'=>∃x:AV,st'=⟨look [(0,.own 999),(1,.pv (.int .i64 (a:Int))),(2,.pv (.int .i64 (b:Int))),(3,.pv (.int .i64 (lm1:Int))),(8,.pv (.bool wb)),(9,.pv (.bool wp)),(10,.pv (.int .i64 (n:Int))),(11,.aq),(12,.aq),(13,.aq),(14,.aq),(15,.aq),(16,.aq),(17,.aq),(18,.aq),(23,.pv (.bool false)),(29,.pv (.bool false)),(35,x),(50,.aq),(68,.aq),(72,.aq),(87,.aq),(113,.aq)],ab [(999,.arr 22 (rA D1))]⟩);·cases wb with|true=>have e1:D1=D:=e1;have e2:lm1=lm:=e2;rw[e1,e2];simp(config := { maxSteps := 3000000 });exact⟨_,rfl⟩|false=>have e1:D1=breakPatterns D a b:=e1;have e2:lm1=lm-1:=e2;rw[e1,e2];simp(config := { maxSteps := 3000000 }) [s1,s2,s4,v1];exact⟨_,rfl⟩
     rintro st' ⟨x35,rfl⟩;have s2a:(b:Int)≤(D1.size:Int):=by omega
     have s3a:D1.size≤1000000:=by omega
     apply af;·simp(config := { maxSteps := 3000000 }) [s1,s2a,s3a,←e3];exact⟨rfl,rfl⟩
     apply mA (fun st'=>∃x:AV,st'=⟨look [(0,.own 999),(1,.pv (.int .i64 (a:Int))),(2,.pv (.int .i64 (b:Int))),(3,.pv (.int .i64 (lm1:Int))),(8,.pv (.bool wb)),(9,.pv (.bool wp)),(10,.pv (.int .i64 (n:Int))),(11,.pv (.int .i64 (pv:Int))),(12,.pv (.int .i64 (ey hint))),(13,.aq),(14,.aq),(15,.aq),(16,.aq),(17,.aq),(18,.aq),(23,.pv (.bool false)),(29,.pv (.bool false)),(35,x35),(50,x),(68,.aq),(72,.aq),(87,.aq),(113,.aq)],ab [(999,.arr 22 (rA D2))]⟩)
     ·by_cases hd:c.2=.decreasing
      ·rw[if_pos hd]at e4 e5 e6;have k1:ey c.2=2:=by rw[hd];rfl
       have k2:ey hint=1:=by rw[e6];rfl
       have v2:IntKind.i64.wrap ((b:Int)-1)=(b:Int)-1:=wrap_i64 (by omega);have v3:IntKind.i64.wrap ((c.1:Int)-(a:Int))=(c.1:Int)-(a:Int):=wrap_i64 (by omega);have v4:IntKind.i64.wrap ((b:Int)-1-((c.1:Int)-(a:Int)))=(pv:Int):=by rw[wrap_i64 (by omega)];omega
       rw[k1,k2];simp(config := { maxSteps := 3000000 }) [s1,s2a,s3a,v2,v3,v4,←e4];exact⟨_,rfl⟩
      ·rw[if_neg hd]at e4 e5 e6;have k1:¬ey c.2=2:=by revert hd;cases c.2<;>simp[ey]
       rw[e4,e5,e6];simp(config := { maxSteps := 3000000 }) [k1];exact⟨_,rfl⟩
     rintro st' ⟨x50,rfl⟩;have s2b:(b:Int)≤(D2.size:Int):=by omega
     have s5b:D2.size<50:=by omega
     have s1b:(a:Int)<(b:Int):=by omega
     have t6:pi.1.size=D.size:=by
      rw[e7];split;·rw[xE (by omega)];exact t3
      ·exact t3
     apply mA (fun st'=>pi.2=false∧∃x y:AV,st'=⟨look [(0,.own 999),(1,.pv (.int .i64 (a:Int))),(2,.pv (.int .i64 (b:Int))),(3,.pv (.int .i64 (lm1:Int))),(8,.pv (.bool wb)),(9,.pv (.bool wp)),(10,.pv (.int .i64 (n:Int))),(11,.pv (.int .i64 (pv:Int))),(12,.pv (.int .i64 (ey hint))),(13,.aq),(14,.aq),(15,.aq),(16,.aq),(17,.aq),(18,.aq),(23,.pv (.bool false)),(29,.pv (.bool false)),(35,x35),(50,x50),(68,x),(72,y),(87,.aq),(113,.aq)],ab [(999,.arr 22 (rA pi.1))]⟩);·cases hb:(wb&&wp&&decide (hint=.increasing)) with
      |true=>
       rw[hb,if_pos rfl]at e7;simp only[Bool.and_eq_true,decide_eq_true_eq]at hb;obtain⟨⟨rfl,rfl⟩,hh⟩:=hb;have k2:ey hint=1:=by rw[hh];rfl
       rw[k2];apply af;·simp(config := { maxSteps := 3000000 });exact⟨rfl,rfl⟩
       apply ie rfl;apply af;·simp(config := { maxSteps := 3000000 }) [s1b,s2b,s5b,←e7];exact⟨rfl,rfl⟩
       cases hp:pi.2 with|true=>rw[hp,if_pos rfl]at g6;simp(config := { maxSteps := 3000000 }) [g6]|false=>simp(config := { maxSteps := 3000000 });exact⟨_,_,rfl⟩
      |false=>rw[hb,if_neg (by simp)]at e7;rw[e7];refine ec (fun _ h=>⟨rfl,h⟩) (fun _ _ h=>h) ?_;cases wb with|false=>simp(config := { maxSteps := 3000000 });exact⟨_,_,rfl⟩|true=>cases wp with|false=>simp(config := { maxSteps := 3000000 });exact⟨_,_,rfl⟩|true=>
        have k1:¬ey hint=1:=by revert hb;cases hint<;>simp[ey]
        simp(config := { maxSteps := 3000000 }) [k1];exact⟨_,_,rfl⟩
     rintro st' ⟨hp,x68,x72,rfl⟩;rw[hp,if_neg (by simp)]at g6;obtain⟨D3,e8⟩:∃D3,D3=pi.1:=⟨_,rfl⟩;rw[←e8]at g6 t6 ⊢;obtain⟨u,hu⟩:∃u,u=a-1:=⟨_,rfl⟩;have q1:pv<D3.size:=by omega
     have q2:u<D3.size:=by omega
     have r1:=bd q1;have r2:=bd q2;have s2c:(b:Int)≤(D3.size:Int):=by omega
     have s3c:D3.size≤1000000:=by omega
     have s6:(a:Int)≤(pv:Int):=by omega
     have s7:(pv:Int)<(b:Int):=by omega
     rw[←hu]at g6;cases hc:decide (a>0)&&!ltInt D3[u]! D3[pv]! with|true=>
      rw[hc,if_pos rfl]at g6;simp only[Bool.and_eq_true,decide_eq_true_eq,Bool.not_eq_true']at hc;obtain⟨ha0,hl1⟩:=hc;have hl2:ltInt (gA D3 u) (gA D3 pv)=false:=hl1;have c1:0<a:=ha0;have v2:IntKind.i64.wrap ((a:Int)-1)=(u:Int):=by rw[wrap_i64 (by omega)];omega
      obtain⟨E,hE⟩:∃E,E=partitionEqual ltInt D3 a b pv:=⟨_,rfl⟩;have hr:=td a b _ (a+1) (b-1) (swp D3 a pv) rfl (by omega) (by omega) (by omega);rw[show partEqLoop ltInt a (a+1) (b-1) (swp D3 a pv)=E from hE.symm,size_swp]at hr;rw[←hE,if_pos ⟨hr.1,hr.2.1⟩]at g6;rw[bA]
      ·apply af;·simp(config := { maxSteps := 3000000 }) [c1,v2,q1,q2,r1,r2,hl2];exact⟨rfl,rfl⟩
       apply ie rfl;apply af;·simp(config := { maxSteps := 3000000 }) [s6,s7,s1,s2c,s3c,←hE];exact⟨rfl,rfl⟩
       apply af;·simp(config := { maxSteps := 3000000 });exact⟨rfl,rfl⟩
       rw[CC];simp only[mD,if_true];refine⟨(((E.1,b),lm1),(wb,wp),E.2),⟨⟨by show E.1≤b;omega,by show b≤d.size;omega⟩,by show b-E.1<N+1;omega,by show lm1≤1000;omega,by show E.2.size=d.size;omega,g6⟩,?_,by show b-E.1<b-a;omega⟩;simp|false=>
      rw[hc,if_neg (by simp)]at g6;obtain⟨E,hE⟩:∃E,E=partition ltInt D3 a b pv:=⟨_,rfl⟩;have hr:=sM (d:=D3) (a:=a) (b:=b) (c:=pv) (by omega) (by omega) (by omega);rw[←hE]at hr g6;rw[if_pos ⟨hr.1,hr.2.1⟩]at g6;apply mA (fun st'=>∃x:AV,st'=⟨look [(0,.own 999),(1,.pv (.int .i64 (a:Int))),(2,.pv (.int .i64 (b:Int))),(3,.pv (.int .i64 (lm1:Int))),(8,.pv (.bool wb)),(9,.pv (.bool wp)),(10,.pv (.int .i64 (n:Int))),(11,.pv (.int .i64 (pv:Int))),(12,.pv (.int .i64 (ey hint))),(13,.aq),(14,.aq),(15,.aq),(16,.aq),(17,.aq),(18,.aq),(23,.pv (.bool false)),(29,.pv (.bool false)),(35,x35),(50,x50),(68,x68),(72,x72),(87,x),(113,.aq)],ab [(999,.arr 22 (rA D3))]⟩)
      ·rcases Nat.eq_zero_or_pos a with ha0|ha0
       ·have c1:¬0<a:=by omega
        have v2:IntKind.i64.wrap ((a:Int)-1)=-1:=by rw[ha0];decide
        have r0:rowAt (rA D3) (-1)=[.int .u64 (gA D3 0)]:=bd (d:=D3) (i:=0) (by omega);simp(config := { maxSteps := 3000000 }) [c1,v2,q1,r1,r0];exact⟨_,rfl⟩
       ·have hl1:ltInt D3[u]! D3[pv]! =true:=by cases hl:ltInt D3[u]! D3[pv]! with|true=>rfl|false=>rw[hl]at hc;simp at hc;omega
        have hl2:ltInt (gA D3 u) (gA D3 pv)=true:=hl1;have c1:0<a:=ha0;have v2:IntKind.i64.wrap ((a:Int)-1)=(u:Int):=by rw[wrap_i64 (by omega)];omega
        simp(config := { maxSteps := 3000000 }) [c1,v2,q1,q2,r1,r2,hl2];exact⟨_,rfl⟩
      rintro st' ⟨x87,rfl⟩;obtain⟨m1,hm1⟩:∃m1,m1=E.1-a:=⟨_,rfl⟩;obtain⟨m2,hm2⟩:∃m2,m2=b-E.1:=⟨_,rfl⟩;obtain⟨n8,hn8⟩:∃n8,n8=(b-a)/8:=⟨_,rfl⟩;rw[←hm1,←hm2,←hn8]at g6;have y1:IntKind.i64.wrap ((E.1:Int)-(a:Int))=(m1:Int):=by rw[wrap_i64 (by omega)];omega
      have y2:IntKind.i64.wrap ((b:Int)-(E.1:Int))=(m2:Int):=by rw[wrap_i64 (by omega)];omega
      have y3:(n:Int).tdiv 8=(n8:Int):=by rw[Int.tdiv_eq_ediv_of_nonneg (by omega)];omega
      have y4:IntKind.i64.wrap (n8:Int)=(n8:Int):=wrap_i64 (by omega);have y5:IntKind.i64.wrap ((E.1:Int)+1)=((E.1+1:Nat):Int):=by rw[wrap_i64 (by omega)];omega
      have N0:N≠0:=by omega
      apply af;·simp(config := { maxSteps := 3000000 }) [s6,s7,s1,s2c,s3c,←hE];exact⟨rfl,rfl⟩
      apply af;·simp(config := { maxSteps := 3000000 });exact⟨rfl,rfl⟩
      apply af;·simp(config := { maxSteps := 3000000 }) [y1,y2];exact⟨rfl,rfl⟩
      apply af;·simp(config := { maxSteps := 3000000 }) [y3,y4];exact⟨rfl,rfl⟩
      obtain⟨G,hG⟩:∃G,G=E.2.2:=⟨_,rfl⟩;obtain⟨k,hk⟩:∃k,k=E.1:=⟨_,rfl⟩;rw[←hG,←hk]at g6 hr;rw[←hG,←hk];rw[←hk]at y5 hm1 hm2;by_cases hlt:m1<m2
      ·rw[if_pos hlt]at g6;apply af;·simp(config := { maxSteps := 3000000 }) [hlt];exact⟨rfl,rfl⟩
       apply ie rfl;apply af;·simp(config := { maxSteps := 3000000 });exact⟨rfl,rfl⟩
       obtain⟨P,hP⟩:∃P,P=pdq ltInt G a k lm1 true true:=⟨_,rfl⟩;have zP:P.size=d.size:=by rw[hP,wj _ _ _ _ _ _ _ rfl (by omega) (by omega) (by omega)];omega
       rw[←hP]at g6;have o1:(a:Int)≤(k:Int):=by omega
       have o2:(k:Int)-(a:Int)<(N:Int):=by omega
       have o3:(k:Int)≤(G.size:Int):=by omega
       have o4:G.size<50:=by omega
       have o5:(lm1:Int)≤1000:=by omega
       apply af;·simp(config := { maxSteps := 3000000 }) [N0,o1,o2,o3,o4,o5,←hP];exact⟨rfl,rfl⟩
       apply qz;·simp(config := { maxSteps := 3000000 }) [y5];exact⟨rfl,rfl⟩
       refine⟨(((k+1,b),lm1),(decide (m1≥n8),E.2.1),P),⟨⟨by show k+1≤b;omega,by show b≤d.size;omega⟩,by show b-(k+1)<N+1;omega,by show lm1≤1000;omega,zP,g6⟩,?_,by show b-(k+1)<b-a;omega⟩;simp
      ·rw[if_neg hlt]at g6;have hge:m2≤m1:=by omega
       apply af;·simp(config := { maxSteps := 3000000 }) [hlt];exact⟨rfl,rfl⟩
       apply tR rfl;apply af;·simp(config := { maxSteps := 3000000 });exact⟨rfl,rfl⟩
       obtain⟨k1,hk1⟩:∃k1,k1=k+1:=⟨_,rfl⟩;rw[←hk1]at g6 y5;obtain⟨P,hP⟩:∃P,P=pdq ltInt G k1 b lm1 true true:=⟨_,rfl⟩;have zP:P.size=d.size:=by rw[hP,wj _ _ _ _ _ _ _ rfl (by omega) (by omega) (by omega)];omega
       rw[←hP]at g6;have o1:(k1:Int)≤(b:Int):=by omega
       have o2:(b:Int)-(k1:Int)<(N:Int):=by omega
       have o3:(b:Int)≤(G.size:Int):=by omega
       have o4:G.size<50:=by omega
       have o5:(lm1:Int)≤1000:=by omega
       apply af;·simp(config := { maxSteps := 3000000 }) [N0,o1,o2,o3,o4,o5,y5,←hP];exact⟨rfl,rfl⟩
       apply qz;·simp(config := { maxSteps := 3000000 });exact⟨rfl,rfl⟩
       refine⟨(((a,k),lm1),(decide (m2≥n8),E.2.1),P),⟨⟨by show a≤k;omega,by show k≤d.size;omega⟩,by show k-a<N+1;omega,by show lm1≤1000;omega,zP,g6⟩,?_,by show k-a<b-a;omega⟩;simp
   ·cases h
  ·cases h
theorem Ex (l:List Int):(Go.Sort.sort ltInt l.toArray).toList=qg l:=sortInt_holds (sort_holds (pdq_holds insertionSort_holds heapSort_holds partialInsertionSort_holds (partition_holds _) (partitionEqual_holds _) reverseRange_holds)) l
@[simp] noncomputable def Ys:List AV→Option (Prop×AV)|[.aK [.fr e a]]=>if e=22 then(dec dq a).map fun l=>(l.length<50,.bB 0 [.aK [],.fr 22 (bU (qg l))]) else none|_=>none
theorem D7:df Tryz.prog 140 Ys:=by
 intro ys φ r h hφ;unfold Ys at h;split at h
 ·rename_i e ra;split at h
  ·rename_i he;subst he;obtain⟨l,hl,h⟩:=Option.map_eq_some_iff.1 h;cases h;cases dm hl;have hφ:l.length<50:=hφ;have hx:bU (qg l)=rA (pdq ltInt l.toArray 0 l.length (bitsLen l.length) true true):=by rw[←Ex];unfold Go.Sort.sort rA;simp
   rw[hx,vQ];have h8:=(kk l.length (by omega)).2;obtain⟨d,hd⟩:∃d,d=l.toArray:=⟨_,rfl⟩;have hds:d.size=l.length:=by rw[hd];simp
   rw[←hd,←hds];rw[←hds]at h8 hφ;obtain⟨m,hm⟩:∃m,m=bitsLen d.size:=⟨_,rfl⟩;rw[←hm]at h8 ⊢;have w1:IntKind.u64.wrap (d.size:Int)=(d.size:Int):=wrap_u64 (by omega);have w2:(d.size:Int)<256:=by omega
   have w3:(m:Int)≤1000:=by omega
   refine b5 (ai F3 (aZ (ks:=[2,0,0,0]) (Rv 50) (by kernel_rfl) aj)) (by kernel_rfl) fn140 (by simp) rfl (by simp) ?_;unfold body140;simp(config := { maxSteps := 3000000 }) [w1,w2,w3,hφ,←hm];omega
  ·cases h
 ·cases h
end Go.Proofs.YtlmkcmfmfahcfaaGreat.Ab
namespace Go.Proofs.YtlmkcmfmfahcfaaGreat.Ab
open Go Go.RowKit R
@[simp] noncomputable def XX:List AV→Option (Prop×AV)|[.agg [.pv (.ro a)]]=>(dec rowP a).map fun l=>(l.length<50,.fr 22 (bU (lj (l.map Pn.v))))|_=>none
theorem WZ:bn Tryz.prog 121 XX:=by
 intro ys φ r h hφ;unfold XX at h;split at h
 ·rename_i ra;obtain⟨a,ha,h⟩:=Option.map_eq_some_iff.1 h;cases h;cases aL ha;have hl5:a.length<50:=hφ;refine aB (aZ (ks:=[2]) D7 (by kernel_rfl) (ir (p:=0) (k:=998) Ri (by kernel_rfl) aj)) (by kernel_rfl) fn121 (by simp) ?_;unfold body121;simp(config := { maxSteps := 3000000 });refine ay (fun i:Nat=>i≤a.length) (fun i=>⟨[(3,.own 3),(7,.pv (.ro (aD a))),(8,.pv (.int .i64 a.length)),(9,.pv (.int .i64 i))],[(3,.arr 22 (bU ((a.take i).map Pn.v)))]⟩) (fun i=>a.length-i) [] 0 (by simp) ?_ ?_;·simp
  ·intro i hi;have w2:IntKind.i64.wrap ((i:Int)+1)=(i:Int)+1:=wrap_i64 (by omega);by_cases hlt:i<a.length
   ·have r1:=cC hlt;have hll:((a.take i).map Pn.v).length=i:=by simp;omega
    have htk:(a.take (i+1)).map Pn.v=(a.take i).map Pn.v++[a[i].v]:=by rw[List.take_succ_eq_append_getElem hlt,List.map_append];rfl
    simp(config := { maxSteps := 3000000 }) [w2,hlt,r1,aQ];refine⟨⟨by omega,by omega⟩,i+1,by omega,⟨by omega,by have:=congrArg bU htk;rw[l9,List.map_take,List.map_take]at this;exact this.symm⟩,by omega⟩
   ·have hia:i=a.length:=by omega
    subst hia;have hsl:(qg (a.map Pn.v)).length≤1000000:=by simp[qg];omega
    have hml:(a.map Pn.v).length<50:=by simp;omega
    simp(config := { maxSteps := 3000000 }) [hsl,hml,hl5];rfl
 ·cases h
def Jz:List AV→Option (Prop×AV)|[]=>some (True,.pv (.bool true))|_=>none
@[simp] theorem MN:Jz []=some (True,.pv (.bool true)):=rfl
def CY (l m:List Vn) (i:Nat):Prop:=m.length=l.length∧∀k (h:k<m.length) (h':k<l.length) (h'':l.length-1-k<l.length),(k<i∨l.length-i≤k→m[k]=l[l.length-1-k])∧(i≤k∧k<l.length-i→m[k]=l[k])
theorem A4 (l:List Vn):CY l l 0:=⟨rfl,fun k h h' h''=>⟨fun h1=>by omega,fun _=>rfl⟩⟩
theorem Cl {l m:List Vn}{i:Nat} (h:CY l m i) (hi:l.length≤2*i+1):m=l.reverse:=by
 obtain⟨hl,hk⟩:=h;apply List.ext_getElem;·simp[hl]
 ·intro k h1 h2;rw[List.getElem_reverse];have h3:=hk k h1 (by omega) (by omega);by_cases hc:k<i∨l.length-i≤k;·exact h3.1 hc
  ·have:=h3.2 (by omega);rw[this];congr 1;omega
theorem zI {l m:List Vn}{i:Nat} (h:CY l m i) (hi:2*i+1<l.length) (h1:i<m.length) (h2:l.length-1-i<m.length):CY l ((m.set i m[l.length-1-i]).set (l.length-1-i) m[i]) (i+1):=by
 obtain⟨hl,hk⟩:=h;refine⟨by simp[hl],fun k h3 h4 h5=>?_⟩;have ha:=(hk i h1 (by omega) (by omega)).2 (by omega);have hb:=(hk (l.length-1-i) h2 (by omega) (by omega)).2 (by omega);simp only[List.getElem_set];constructor
 ·intro hc;by_cases e1:l.length-1-i=k;·rw[if_pos e1,ha];congr 1;omega
  ·rw[if_neg e1];by_cases e2:i=k;·subst e2;rw[if_pos rfl,hb]
   ·rw[if_neg e2];exact(hk k (by omega) h4 h5).1 (by omega)
 ·intro hc;rw[if_neg (by omega),if_neg (by omega)];exact(hk k (by omega) h4 h5).2 (by omega)
@[simp] noncomputable def Pz:List AV→Option (Prop×AV)|[.aK [.fr e a]]=>if e=73 then(dec cF a).map fun l=>(l.length≤1000000,.bB 0 [.aK [],.fr 73 (aC l.reverse)]) else none|_=>none
theorem Tl:si Tryz.prog 146 Pz:=by
 intro ys φ r h hφ;unfold Pz at h;split at h
 ·rename_i e ra;split at h
  ·rename_i hef;subst hef;obtain⟨a,ha,h⟩:=Option.map_eq_some_iff.1 h;cases h;cases aI ha;have w0:IntKind.i64.wrap ((a.length:Int)-1)=(a.length:Int)-1:=wrap_i64 (by omega);refine mr aj (by kernel_rfl) fn146 (by simp) (by simp[cB,kL,il]) (by simp) ?_;unfold body146;simp(config := { maxSteps := 3000000 }) [w0];refine ay (fun x:Nat×List Vn=>CY a x.2 x.1∧2*x.1≤a.length+1) (fun x=>⟨[(0,.own 999),(2,.pv (.int .i64 x.1)),(3,.pv (.int .i64 ((a.length:Int)-1-x.1)))],[(999,.arr 73 (aC x.2))]⟩) (fun x=>a.length-x.1) [] (0,a) ⟨A4 a,by simp⟩ ?_ ?_;·simp
   ·rintro⟨i,m⟩ ⟨hm,h2⟩;dsimp only at hm h2;have hml:=hm.1;have w1:IntKind.i64.wrap ((i:Int)+1)=(i:Int)+1:=wrap_i64 (by omega);have w2:IntKind.i64.wrap ((a.length:Int)-1-i-1)=(a.length:Int)-1-i-1:=wrap_i64 (by omega);by_cases hlt:(i:Int)<(a.length:Int)-1-i
    ·have hi:i<m.length:=by omega
     have hj:a.length-1-i<m.length:=by omega
     have hst:=zI hm (by omega) hi hj;have r1:=bh hi;have r2:=bh hj;have hc:((a.length-1-i:Nat):Int)=(a.length:Int)-1-i:=by omega
     rw[hc]at r2;have b1:0≤(a.length:Int)-1-i:=by omega
     have b2:(a.length:Int)-1-i<m.length:=by omega
     have b3:(i:Int)≤(a.length:Int)-1:=by omega
     have r3:rowAt ((aC m).set i [.int .u64 m[a.length-1-i].n,.int .u64 m[a.length-1-i].b,.int .u64 m[a.length-1-i].p,.int .u64 m[a.length-1-i].i,.int .u64 m[a.length-1-i].s,.int .u64 m[a.length-1-i].z,.int .u64 m[a.length-1-i].m,.str m[a.length-1-i].t,.bool m[a.length-1-i].inl,.bool m[a.length-1-i].dT]) ((a.length:Int)-1-i)=[.int .u64 m[a.length-1-i].n,.int .u64 m[a.length-1-i].b,.int .u64 m[a.length-1-i].p,.int .u64 m[a.length-1-i].i,.int .u64 m[a.length-1-i].s,.int .u64 m[a.length-1-i].z,.int .u64 m[a.length-1-i].m,.str m[a.length-1-i].t,.bool m[a.length-1-i].inl,.bool m[a.length-1-i].dT]:=by rw[←r2];unfold rowAt;rw[show((a.length:Int)-1-i).toNat=a.length-1-i from by omega,List.getD_eq_getElem?_getD,List.getD_eq_getElem?_getD,List.getElem?_set_ne (by omega)]
     have hrows:((aC m).set i (cF m[a.length-1-i])).set (a.length-1-i) (cF m[i])=aC ((m.set i m[a.length-1-i]).set (a.length-1-i) m[i]):=by simp only[aC,List.map_set]
     simp only[cF]at hrows;simp(config := { maxSteps := 3000000 }) [w1,w2,hlt,r1,r2,hi,b1,b2,b3,r3];exact⟨i+1,_,⟨hst,by omega⟩,⟨⟨by omega,by omega⟩,hrows⟩,by omega⟩
    ·have he:=Cl hm (by omega);simp(config := { maxSteps := 3000000 }) [hlt,he]
  ·cases h
 ·cases h
def xQ (l:List Vn) (i:Nat):Vn:=(l[i]?).getD v0
theorem dQ {l:List Vn}{i:Nat} (h:i<l.length):xQ l i=l[i]:=by unfold xQ;rw[List.getElem?_eq_getElem h];rfl
def cx (l:List Vn):Nat→Nat→List Vn|0,i=>[xQ l i]|f+1,i=>if bH (xQ l i)=0 then[xQ l i] else cx l f (mR l (bH (xQ l i))).toNat++[xQ l i]
def fw (l:List Vn) (n:Int):List Vn×Int:=if bE l=false then([],2) else match fy l n with|none=>([],150)|some v=>(cx l l.length (mR l v.n).toNat,0)
theorem uA {l:List Vn} (hr:bE l=true) {i:Nat} (h:i<l.length) (hb:bH l[i]≠0):∃j,∃hj:j<i,mR l (bH l[i])=(j:Int)∧l[j].n=bH l[i]:=by
 have hok:=(gl l).1 hr i h;unfold gO at hok;rw[List.getElem?_eq_getElem h]at hok;simp only[Option.getD_some,Bool.and_eq_true,Bool.or_eq_true,decide_eq_true_eq]at hok;have h0:=hok.2.resolve_left hb;rcases ky (l.take i) (bH l[i]) with⟨j,hj,h1,h2,h3⟩|⟨h1,_⟩
 ·rw[List.length_take]at hj;have hji:j<i:=by omega
  have hjl:j<l.length:=by omega
  rw[List.getElem_take]at h2;refine⟨j,hji,tT hjl h2 fun v hv=>h3 v ?_,h2⟩;rwa[List.take_take,Nat.min_eq_left (by omega)]
 ·omega
theorem BX {l:List Vn} (hr:bE l=true) {i j:Nat} (hi:i<l.length) (hj:j<l.length) (h:l[i].n=l[j].n):i=j:=by
 rcases Nat.lt_trichotomy i j with hlt|he|hlt
 ·have h1:=iU hr (i:=i) (j-1-i) (by omega);have e1:i+(j-1-i)=j-1:=by omega
  simp only[e1]at h1;have h2:=lW hr (i:=j-1) (by omega);have e2:j-1+1=j:=by omega
  simp only[e2]at h2;omega
 ·exact he
 ·have h1:=iU hr (i:=j) (i-1-j) (by omega);have e1:j+(i-1-j)=i-1:=by omega
  simp only[e1]at h1;have h2:=lW hr (i:=i-1) (by omega);have e2:i-1+1=i:=by omega
  simp only[e2]at h2;omega
theorem kH {l:List Vn} (hr:bE l=true) {i:Nat} (h:i<l.length):mR l l[i].n=i:=by
 rcases ky l l[i].n with⟨j,hj,h1,h2,_⟩|⟨_,h2⟩;·rw[h1,BX hr hj h h2]
 ·exact absurd rfl (h2 l[i] (List.getElem_mem h))
theorem get_at {l:List Vn}{n:Int}{v:Vn} (h:fy l n=some v):∃i,∃h:i<l.length,v=l[i]∧v.n=n:=by unfold fy at h;have h1:=List.mem_of_find?_eq_some h;have h2:=List.find?_some h;obtain⟨i,hi,rfl⟩:=List.getElem_of_mem (List.mem_filter.1 h1).1;exact⟨i,hi,rfl,by simpa using h2⟩
@[simp] noncomputable def G5 (e:TypeId):List AV→Option (Prop×AV)|[.pv (.ro a),.pv (.int .u64 n)]=>(dec cF a).map fun l=>(l.length≤100000∧(∀v∈l,gZ v),.aK [.fr e (aC (fw l n).1),.pv (.int .i64 (fw l n).2)])|_=>none
theorem Ii:bn Tryz.prog 137 (G5 73):=by
 intro ys φ r h hφ;unfold G5 at h;split at h
 ·rename_i ra n;obtain⟨a,ha,h⟩:=Option.map_eq_some_iff.1 h;cases h;cases aI ha;obtain⟨hl5,hov⟩:=hφ;have hl9:a.length≤1000000000:=by omega
  have hl6:a.length≤1000000:=by omega
  have fl:∀l,bq (aC l):=ax;refine aB (ai HD (ai JO (ai xS (ai Iu (ir (p:=0) (k:=999) Tl (by kernel_rfl) aj))))) (by kernel_rfl) fn137 (by simp) ?_;unfold body137;cases hr:bE a with
  |false=>
   have hp:fw a n=([],2):=by simp[fw,hr]
   simp(config := { maxSteps := 3000000 }) [hl9,hr,hp]|true=>cases hg:fy a n with
  |none=>
   have hp:fw a n=([],150):=by simp[fw,hr,hg]
   simp(config := { maxSteps := 3000000 }) [hl9,hl6,hr,hp,hg,bD,v0]|some v=>
  obtain⟨i0,hi0,hv,hvn⟩:=get_at hg;have hp:fw a n=(cx a a.length i0,0):=by simp only[fw,hr,hg];rw[if_neg (by simp),hv,kH hr hi0,Int.toNat_natCast]
  rw[hp];generalize hW:cx a a.length i0=W;apply af;·simp(config := { maxSteps := 3000000 });exact⟨rfl,rfl⟩
  apply af;·simp(config := { maxSteps := 3000000 }) [hl9,hr];exact⟨rfl,rfl⟩
  apply af;·simp(config := { maxSteps := 3000000 }) [hl9,hl6,hg,bD];exact⟨rfl,rfl⟩
  apply af;·simp(config := { maxSteps := 3000000 });exact⟨rfl,rfl⟩
  simp(config := { maxSteps := 3000000 });refine ay (fun x:Nat×Nat×List Vn=>x.1<a.length∧x.1≤x.2.1∧x.2.2.length+x.1≤a.length∧W=cx a x.2.1 x.1++x.2.2.reverse) (fun x=>⟨[(0,.pv (.ro (aC a))),(6,.ptr 6 0),(8,.own 8)],[(6,.box (bD (xQ a x.1))),(8,.arr 73 (aC x.2.2))]⟩) (fun x=>x.1) [] (i0,a.length,[]) ?_ ?_ ?_;·exact⟨hi0,by show i0≤a.length;omega,by simp;omega,by simp[hW]⟩
  ·simp[bD,dQ hi0,hv]
  ·rintro⟨i,f,o⟩ ⟨hi,hf,hol,hWe⟩;dsimp only at hi hf hol hWe;rw[dQ hi];have hbv:(if a[i].inl=true then 0 else a[i].b)=bH a[i]:=rfl;have hol6:o.length≤100000:=by omega
   have hrow:aC o++[[PV.int .u64 a[i].n,.int .u64 a[i].b,.int .u64 a[i].p,.int .u64 a[i].i,.int .u64 a[i].s,.int .u64 a[i].z,.int .u64 a[i].m,.str a[i].t,.bool a[i].inl,.bool a[i].dT]]=aC (o++[a[i]]):=by rw[cr];rfl
   have b1:(o.length+1)*80≤140737488355328:=by omega
   have b2:o.length≤9223372036854775806:=by omega
   by_cases hb:bH a[i]=0
   ·have hWr:W=(o++[a[i]]).reverse:=by
     have hpl:cx a f i=[a[i]]:=by cases f with|zero=>rw[cx,dQ hi]|succ f=>rw[cx,dQ hi,if_pos hb]
     rw[hWe,hpl];simp
    have hon:o.length+1≤1000000:=by omega
    simp(config := { maxSteps := 3000000 }) [bD,hbv,hb,aQ,hrow,b1,b2,fl,hon];rw[hWr,List.reverse_append];rfl
   ·obtain⟨j,hji,hjx,hjn⟩:=uA hr hi hb;have hjl:j<a.length:=by omega
    obtain⟨f,rfl⟩:∃g,f=g+1:=⟨f-1,by omega⟩;have hpl:cx a (f+1) i=cx a f j++[a[i]]:=by rw[cx,dQ hi,if_neg hb,hjx,Int.toNat_natCast]
    have r1:=bh hjl;simp(config := { maxSteps := 3000000 }) [bD,hbv,hb,aQ,hrow,b1,b2,hl9,hjx,r1,hjl];refine⟨j,f,o++[a[i]],⟨hjl,by omega,by rw[List.length_append,List.length_singleton];omega,?_⟩,⟨?_,rfl⟩,hji⟩;·rw[hWe,hpl];simp
    ·rw[dQ hjl];exact⟨rfl,rfl,rfl,rfl,rfl,rfl,rfl,rfl,rfl,rfl⟩
 ·cases h
theorem lI {l:List Vn}{i:Nat} (hb:bH (xQ l i)=0) (f:Nat):cx l f i=[xQ l i]:=by cases f with|zero=>rfl|succ f=>rw[cx,if_pos hb]
theorem Ce {l:List Vn} (hr:bE l=true):∀(i f g:Nat),i<l.length→i≤f→i≤g→cx l f i=cx l g i:=by intro i;induction i using Nat.strongRecOn with|_ i ih=>
 intro f g hi hf hg;by_cases hb:bH (xQ l i)=0;·rw[lI hb,lI hb]
 ·obtain⟨j,hj,hx,_⟩:=uA hr hi (by rw[←dQ hi];exact hb);rw[←dQ hi]at hx;obtain⟨f,rfl⟩:∃q,f=q+1:=⟨f-1,by omega⟩;obtain⟨g,rfl⟩:∃q,g=q+1:=⟨g-1,by omega⟩;rw[cx,cx,if_neg hb,if_neg hb,hx,Int.toNat_natCast,ih j hj f g (by omega) (by omega) (by omega)]
theorem xf {l:List Vn} (hr:bE l=true) {i j:Nat} (hi:i<l.length) (hb:bH l[i]≠0) (hj:j<i) (hx:mR l (bH l[i])=(j:Int)):cx l l.length i=cx l l.length j++[l[i]]:=by rw[Ce hr i l.length (l.length+1) hi (by omega) (by omega),cx,dQ hi,if_neg hb,hx,Int.toNat_natCast]
theorem kr {l:List Vn}:∀(f i:Nat),(cx l f i).length≤f+1
 |0,i=>by simp[cx]|f+1,i=>by
  rw[cx];split;·simp
  ·have:=kr (l:=l) f (mR l (bH (xQ l i))).toNat;simp only[List.length_append,List.length_singleton];omega
@[simp] noncomputable def Xt (k:Nat):List AV→Option (Prop×AV)|[.pv (.ro a),.agg [.pv (.int .u64 n),.pv (.int .u64 b),.pv (.int .u64 p),.pv (.int .u64 i),.pv (.int .u64 s),.pv (.int .u64 z),.pv (.int .u64 m),.pv (.str t),.pv (.bool inl),.pv (.bool dT)]]=>(dec cF a).map fun l=>(l.length≤100000∧bE l=true∧(∀v∈l,gZ v)∧∃q,q<k∧q<l.length∧xQ l q=⟨n,b,p,i,s,z,m,t,inl,dT⟩,.fr 92 (aC (cx l l.length (mR l n).toNat)))|_=>none
theorem Wc:∀k,bn Tryz.prog 110 (Xt k):=by intro k;induction k with
 |zero=>
  intro ys φ r h hφ;unfold Xt at h;split at h;·obtain⟨a,ha,h⟩:=Option.map_eq_some_iff.1 h;cases h;obtain⟨_,_,_,q,hq,_⟩:=hφ;omega
  ·cases h|succ k ih=>
  intro ys φ r h hφ;unfold Xt at h;split at h
  ·rename_i ra n b p i s z m t inl dT;obtain⟨a,ha,h⟩:=Option.map_eq_some_iff.1 h;cases h;cases aI ha;obtain⟨hl5,hr,hov,q,hqk,hq,hat⟩:=hφ;have hl9:a.length≤1000000000:=by omega
   have fl:∀l,bq (aC l):=ax;rw[dQ hq]at hat;have hn:a[q].n=n:=by rw[hat]
   have hix:mR a n=(q:Int):=by rw[←hn];exact kH hr hq
   rw[hix,Int.toNat_natCast];have hbv:(if inl=true then 0 else b)=bH a[q]:=by rw[hat];rfl
   have hbp:=m5 (hov a[q] (List.getElem_mem hq));have hrow:[PV.int .u64 n,.int .u64 b,.int .u64 p,.int .u64 i,.int .u64 s,.int .u64 z,.int .u64 m,.str t,.bool inl,.bool dT]=cF a[q]:=by rw[hat];rfl
   refine aB (ai xG (ai yc (ai ih aj))) (by kernel_rfl) fn110 (by simp) ?_;unfold body110;by_cases hb:bH a[q]=0
   ·have hpl:cx a a.length q=[a[q]]:=by rw[lI (by rw[dQ hq];exact hb),dQ hq]
    simp(config := { maxSteps := 3000000 }) [hbv,hb,aQ,hpl];rw[hrow];rfl
   ·obtain⟨j,hji,hjx,hjn⟩:=uA hr hq hb;have hjl:j<a.length:=by omega
    have hb':0<bH a[q]:=by omega
    have hpl:=xf hr hq hb hji hjx;have r1:=bh hjl;have hlen:=kr (l:=a) a.length j;have hjix:mR a a[j].n=(j:Int):=kH hr hjl;have htk:a.take a.length=a:=List.take_length;simp(config := { maxSteps := 3000000 }) [hbv,hb',aQ,hpl,hl9,htk,hjx,r1,hjl,fl,hjix];refine⟨⟨hl5,hr,hov,j,by omega,hjl,by rw[dQ hjl]⟩,⟨by omega,by omega⟩,?_⟩;rw[hrow,cr];rfl
  ·cases h
def rO (n:Int):List PV:=[.int .u64 n]
theorem Bn:∀a b,rO a=rO b→a=b:=by intro a b h;simpa[rO]using h
def gg (l:List Int):List (List PV):=l.map rO
@[simp] theorem K9:gg []=[]:=rfl
@[simp] theorem ET (l:List Int):(gg l).length=l.length:=by simp[gg]
theorem uI {l:List Int}{i:Nat} (h:i<l.length):rowAt (gg l) (i:Int)=[.int .u64 l[i]]:=by simp[rowAt,gg,h,rO]
@[simp] theorem Nx (l:List Int):dec rO (gg l)=some l:=pb Bn l
theorem dZ {rows:List (List PV)}{l:List Int} (h:dec rO rows=some l):rows=gg l:=oW h
def Cc (l:List Int) (n:Int):Bool:=decide (n∈l)
theorem Cq {l:List Int}{n:Int}{i:Nat} (h:i<l.length) (hq:l[i]=n):Cc l n=true:=by unfold Cc;rw[decide_eq_true_eq,←hq];exact List.getElem_mem h
theorem uH {l:List Int}{n:Int} (h:∀x∈l,¬x=n):Cc l n=false:=by unfold Cc;rw[decide_eq_false_iff_not];exact fun hn=>h n hn rfl
def Iv (l:List Int) (n:Int):Int:=if Cc l n=true then(l.findIdx (fun x=>decide (x=n)):Int) else-1
theorem Ho {l:List Int}{n:Int}{i:Nat} (h:i<l.length) (hq:l[i]=n) (ht:∀x∈l.take i,¬x=n):Iv l n=i:=by
 have hf:l.findIdx (fun x=>decide (x=n))=i:=by
  rw[List.findIdx_eq h];refine⟨by simpa using hq,fun j hj=>?_⟩;have:l[j]∈l.take i:=by rw[List.mem_take_iff_getElem];exact⟨j,by omega,rfl⟩
  simpa using ht _ this
 unfold Iv;rw[Cq h hq,if_pos rfl,hf]
theorem BO {l:List Int}{n:Int} (h:∀x∈l,¬x=n):Iv l n=-1:=by unfold Iv;rw[uH h,if_neg (by simp)]
theorem IE (l:List Int) (n:Int):decide (0≤Iv l n)=Cc l n:=by unfold Iv;cases Cc l n<;>simp
@[simp] noncomputable def PJ:List AV→Option (Prop×AV)|[.pv (.ro a),.pv (.int .u64 n)]=>(dec rO a).map fun l=>(l.length≤1000000000,.pv (.int .i64 (Iv l n)))|_=>none
theorem Tf:bn Tryz.prog 145 PJ:=by
 intro ys φ r h hφ;unfold PJ at h;split at h
 ·rename_i ra n;obtain⟨a,ha,h⟩:=Option.map_eq_some_iff.1 h;cases h;cases dZ ha;refine aB aj (by kernel_rfl) fn145 (by simp) ?_;unfold body145;simp(config := { maxSteps := 3000000 });refine ay (fun i:Nat=>i≤a.length∧∀x∈a.take i,¬x=n) (fun i=>⟨[(0,.pv (.ro (gg a))),(1,.pv (.int .u64 n)),(7,.pv (.int .i64 a.length)),(8,.pv (.int .i64 i))],[]⟩) (fun i=>a.length-i) [] 0 (by simp) ?_ ?_;·simp
  ·rintro i ⟨hi,ht⟩;have w2:IntKind.i64.wrap ((i:Int)+1)=(i:Int)+1:=wrap_i64 (by omega);by_cases hlt:i<a.length
   ·have r1:=uI hlt;by_cases hq:a[i]=n;·have hx:=Ho hlt hq ht;simp(config := { maxSteps := 3000000 }) [w2,hlt,r1,hq,hx]
    ·have hq':¬n=a[i]:=fun e=>hq e.symm;simp(config := { maxSteps := 3000000 }) [w2,hlt,r1,hq'];refine⟨i+1,⟨by omega,fun x hx=>?_⟩,by omega,by omega⟩;rw[List.take_succ_eq_append_getElem hlt,List.mem_append]at hx;rcases hx with hx|hx;·exact ht x hx
     ·rw[List.mem_singleton]at hx;rw[hx];exact hq
   ·rw[List.take_of_length_le (by omega)]at ht;have hx:=BO ht;simp(config := { maxSteps := 3000000 }) [hlt,hx]
 ·cases h
@[simp] noncomputable def EJ:List AV→Option (Prop×AV)|[.pv (.ro a),.pv (.int .u64 n)]=>(dec rO a).map fun l=>(l.length≤1000000000,.pv (.bool (Cc l n)))|_=>none
theorem PH:bn Tryz.prog 136 EJ:=by
 intro ys φ r h hφ;unfold EJ at h;split at h;·rename_i ra n;obtain⟨a,ha,h⟩:=Option.map_eq_some_iff.1 h;cases h;cases dZ ha;have hq:=IE a n;refine aB (ai Tf aj) (by kernel_rfl) fn136 (by simp) ?_;unfold body136;simp(config := { maxSteps := 3000000 }) [hφ,hq]
 ·cases h
theorem JZ:bn Tryz.prog 108 EJ:=by
 intro ys φ r h hφ;unfold EJ at h;split at h
 ·rename_i ra n;obtain⟨a,ha,h⟩:=Option.map_eq_some_iff.1 h;cases h;cases dZ ha;refine aB aj (by kernel_rfl) fn108 (by simp) ?_;unfold body108;simp(config := { maxSteps := 3000000 });refine ay (fun i:Nat=>i≤a.length∧∀x∈a.take i,¬x=n) (fun i=>⟨[(0,.pv (.ro (gg a))),(1,.pv (.int .u64 n)),(5,.pv (.int .i64 i))],[]⟩) (fun i=>a.length-i) [] 0 (by simp) ?_ ?_;·simp
  ·rintro i ⟨hi,ht⟩;have w2:IntKind.i64.wrap ((i:Int)+1)=(i:Int)+1:=wrap_i64 (by omega);by_cases hlt:i<a.length
   ·have r1:=uI hlt;by_cases hq:a[i]=n;·have hx:=Cq hlt hq;simp(config := { maxSteps := 3000000 }) [w2,hlt,r1,hq,hx]
    ·simp(config := { maxSteps := 3000000 }) [w2,hlt,r1,hq];refine⟨i+1,⟨by omega,fun x hx=>?_⟩,by omega,by omega⟩;rw[List.take_succ_eq_append_getElem hlt,List.mem_append]at hx;rcases hx with hx|hx;·exact ht x hx
     ·rw[List.mem_singleton]at hx;rw[hx];exact hq
   ·rw[List.take_of_length_le (by omega)]at ht;have hx:=uH ht;simp(config := { maxSteps := 3000000 }) [hlt,hx]
 ·cases h
def AQ (ks:List PV) (n:Int):Bool:=ks.any (lM (.int .u64 n))
@[simp] def Sy:List AV→Option (Prop×AV)|[.agg [.pv (.int .u64 n),.pv (.int .u64 _),.pv (.int .u64 _),.pv (.int .u64 _),.pv (.int .u64 _),.pv (.int .u64 _),.pv (.int .u64 _),.pv (.str _),.pv (.bool _),.pv (.bool _)],.rp [.mp ks]]=>some ((∀x∈ks,cL x=9),.pv (.bool (!AQ ks n)))|_=>none
theorem F2:bn Tryz.prog 139 Sy:=by
 intro ys φ r h hφ;unfold Sy at h;split at h;·cases h;refine aB aj (by kernel_rfl) fn139 (by simp) ?_;unfold body139;simp(config := { maxSteps := 3000000 }) [bR];exact⟨hφ,rfl⟩
 ·cases h
theorem zz:gI Tryz.prog 139=true:=by kernel_rfl
def Cj (p:Vn→Bool) (l:List Vn):Int:=if l.findIdx p<l.length then(l.findIdx p:Int) else-1
theorem JV {p:Vn→Bool}{l:List Vn}{i:Nat} (h:i<l.length) (hq:p l[i]=true) (ht:∀v∈l.take i,p v=false):Cj p l=i:=by
 have hf:l.findIdx p=i:=by
  rw[List.findIdx_eq h];refine⟨hq,fun j hj=>?_⟩;have:l[j]∈l.take i:=by rw[List.mem_take_iff_getElem];exact⟨j,by omega,rfl⟩
  exact ht _ this
 unfold Cj;rw[hf,if_pos h]
theorem vW {p:Vn→Bool}{l:List Vn} (ht:∀v∈l,p v=false):Cj p l=-1:=by
 have hf:l.findIdx p=l.length:=by rw[List.findIdx_eq_length];exact ht
 unfold Cj;rw[hf,if_neg (by omega)]
theorem DY (p:Vn→Bool) (l:List Vn):0≤Cj p l↔l.any p=true:=by
 unfold Cj;split;·rename_i h;have:=List.findIdx_lt_length.1 h;simp only[List.any_eq_true];exact⟨fun _=>this,fun _=>by omega⟩
 ·rename_i h;rw[List.findIdx_lt_length]at h;simp only[List.any_eq_true];exact⟨fun h'=>by omega,fun h'=>absurd h' h⟩
theorem xW {p:Vn→Bool}{l:List Vn}{k:Nat} (h:Cj p l=(k:Int)):k<l.length∧(l.take (k+1)).filter (fun e=>!p e)=l.take k:=by
 unfold Cj at h;split at h
 ·rename_i hlt;have hk:l.findIdx p=k:=by omega
  rw[hk]at hlt;refine⟨hlt,?_⟩;obtain⟨h1,h2⟩:=(List.findIdx_eq hlt).1 hk;rw[List.take_succ_eq_append_getElem hlt,List.filter_append];have hf:(l.take k).filter (fun e=>!p e)=l.take k:=by rw[List.filter_eq_self];intro e he;rw[List.mem_take_iff_getElem]at he;obtain⟨j,hj,rfl⟩:=he;have:=h2 j (by omega);simpa using this
  rw[hf];simp[h1]
 ·omega
def kI (ks:List PV) (v:Vn):Bool:=!AQ ks v.n
@[simp] noncomputable def Rr:List AV→Option (Prop×AV)|[.pv (.ro a),.bB f [.rp [.mp ks]]]=>if f=139 then(dec cF a).map fun l=>(l.length≤1000000000∧∀x∈ks,cL x=9,.pv (.int .i64 (Cj (kI ks) l))) else none|_=>none
theorem QP:bn Tryz.prog 124 Rr:=by
 intro ys φ r h hφ;unfold Rr at h;split at h
 ·rename_i ra f ks;split at h
  ·rename_i hf;subst hf;obtain⟨a,ha,h⟩:=Option.map_eq_some_iff.1 h;cases h;cases aI ha;obtain⟨hφ,hks⟩:=hφ;refine aB (ai F2 aj) (by kernel_rfl) fn124 (by simp) ?_;unfold body124;simp(config := { maxSteps := 3000000 });refine ay (fun i:Nat=>i≤a.length∧∀v∈a.take i,kI ks v=false) (fun i=>⟨[(0,.pv (.ro (aC a))),(1,.bB 139 [.rp [.mp ks]]),(7,.pv (.int .i64 a.length)),(8,.pv (.int .i64 i))],[]⟩) (fun i=>a.length-i) [] 0 (by simp) ?_ ?_;·simp
   ·rintro i ⟨hi,ht⟩;have w2:IntKind.i64.wrap ((i:Int)+1)=(i:Int)+1:=wrap_i64 (by omega);by_cases hlt:i<a.length
    ·have r1:=bh hlt;have hr:kI ks a[i]=false→∀v∈a.take (i+1),kI ks v=false:=by
      intro h0 e he;rw[List.take_succ_eq_append_getElem hlt,List.mem_append]at he;rcases he with he|he;·exact ht e he
      ·rw[List.mem_singleton]at he;rw[he];exact h0
     simp(config := { maxSteps := 3000000 }) [w2,hlt,r1,zz];refine⟨hks,fun h=>(JV hlt (by simp[kI,h]) ht).symm,fun h=>⟨i+1,⟨by omega,hr (by simp[kI,h])⟩,by omega,by omega⟩⟩
    ·simp(config := { maxSteps := 3000000 }) [hlt];rw[List.take_of_length_le (by omega)]at ht;exact(vW ht).symm
  ·cases h
 ·cases h
theorem mX (l:List Vn) (i:Nat) (e:Vn):(aC l).set i [.int .u64 e.n,.int .u64 e.b,.int .u64 e.p,.int .u64 e.i,.int .u64 e.s,.int .u64 e.z,.int .u64 e.m,.str e.t,.bool e.inl,.bool e.dT]=aC (l.set i e):=by unfold aC;rw[List.map_set];rfl
def Lo (ks:List PV) (l:List Vn):List Vn:=l.filter fun v=>!kI ks v
@[simp] noncomputable def Gu:List AV→Option (Prop×AV)|[.fr e a,.bB f [.rp [.mp ks]]]=>if e=73∧f=139 then(dec cF a).map fun l=>(l.length≤1000000∧∀x∈ks,cL x=9,.fr 73 (aC (Lo ks l))) else none|_=>none
theorem IW:si Tryz.prog 138 Gu:=by
 intro ys φ r h hφ;unfold Gu at h;split at h
 ·rename_i e ra f ks;split at h
  ·rename_i hef;obtain⟨rfl,rfl⟩:=hef;obtain⟨a,ha,h⟩:=Option.map_eq_some_iff.1 h;cases h;cases aI ha;obtain⟨hl6,hks⟩:=hφ;refine mr (ai QP (ai F2 aj)) (by kernel_rfl) fn138 (by simp) (by simp[cB,kL,il]) (by simp) ?_;unfold body138;have hl9:a.length≤1000000000:=by omega
   have isfn3:=zz;by_cases hr:a.any (kI ks)=true
   ·have hw:0≤Cj (kI ks) a:=(DY _ _).2 hr;obtain⟨k,hk⟩:=Int.eq_ofNat_of_zero_le hw;obtain⟨hkl,hkf⟩:=xW hk;have hne:¬((k:Int)=-1):=by omega
    have w1:IntKind.i64.wrap ((k:Int)+1)=(k:Int)+1:=wrap_i64 (by omega);simp(config := { maxSteps := 3000000 }) [hk,hne,w1,hl9];refine⟨hks,?_⟩;refine ay (fun x:Nat×Nat×List Vn=>x.1<x.2.1∧x.2.1≤a.length∧x.2.2.length=a.length∧x.2.2.take x.1=(a.take x.2.1).filter (fun e=>!kI ks e)∧x.2.2.drop x.2.1=a.drop x.2.1) (fun x=>⟨[(0,.own 998),(1,.bB 139 [.rp [.mp ks]]),(5,.pv (.int .i64 x.1)),(6,.pv (.int .i64 x.2.1))],[(998,.arr 73 (aC x.2.2))]⟩) (fun x=>a.length-x.2.1) [] (k,k+1,a) ?_ ?_ ?_;·exact⟨by simp,by simp;omega,rfl,by simp[hkf],rfl⟩
    ·simp
    ·rintro⟨i,j,b⟩ ⟨h1,h2,h3,h4,h5⟩;dsimp only at h1 h2 h3 h4 h5;have w2:IntKind.i64.wrap ((j:Int)+1)=(j:Int)+1:=wrap_i64 (by omega);have w3:IntKind.i64.wrap ((i:Int)+1)=(i:Int)+1:=wrap_i64 (by omega);by_cases hlt:j<a.length
     ·have hjb:j<b.length:=by omega
      have hib:i<b.length:=by omega
      have hbj:b[j]=a[j]:=by have e1:=List.drop_eq_getElem_cons hjb;have e2:=List.drop_eq_getElem_cons hlt;rw[h5,e2]at e1;injection e1 with e1 _;exact e1.symm
      have r1:=bh hjb;rw[hbj]at r1;have r2:=bh hib;have hib':(i:Int)<a.length:=by omega
      have hdrop:∀e,(b.set i e).drop (j+1)=a.drop (j+1):=by
       intro e;rw[List.drop_set_of_lt (by omega)];have e1:(b.drop j).drop 1=(a.drop j).drop 1:=by rw[h5]
       simpa[List.drop_drop]using e1
      by_cases hq:kI ks a[j]=true
      ·have hq':AQ ks a[j].n=false:=by simpa[kI]using hq
       simp(config := { maxSteps := 3000000 }) [w2,w3,hlt,hjb,r1,r2,h3,hq',mX,hib',isfn3];refine⟨hks,i,j+1,b,⟨by omega,by omega,h3,?_,?_⟩,⟨⟨rfl,by omega⟩,rfl⟩,by omega⟩;·rw[List.take_succ_eq_append_getElem hlt,List.filter_append,←h4];simp[hq]
       ·have e1:(b.drop j).drop 1=(a.drop j).drop 1:=by rw[h5]
        simpa[List.drop_drop]using e1
      ·have hq0:kI ks a[j]=false:=by simpa using hq
       have hq':AQ ks a[j].n=true:=by simpa[kI]using hq
       simp(config := { maxSteps := 3000000 }) [w2,w3,hlt,hjb,r1,r2,h3,hq',mX,hib',isfn3];refine⟨hks,by omega,i+1,j+1,b.set i a[j],⟨by omega,by omega,by simp[h3],?_,hdrop _⟩,⟨⟨by omega,by omega⟩,rfl⟩,by omega⟩;rw[List.take_succ_eq_append_getElem hlt,List.filter_append,←h4,List.take_succ_eq_append_getElem (by simp;omega)];simp[hq0,List.take_set_of_le]
     ·simp(config := { maxSteps := 3000000 }) [hlt,h3];have hja:j=a.length:=by omega
      subst hja;rw[List.take_length]at h4;have h3r:=fV b;refine⟨⟨by omega,h3r⟩,⟨by omega,?_⟩,?_⟩
      ·rintro x (hx|⟨_,rfl⟩|hx);·exact h3r x (List.mem_of_mem_take hx)
       ·rfl
       ·exact h3r x (List.mem_of_mem_drop hx)
      ·rw[List.take_append_of_le_length (by simp;omega),List.take_take,Nat.min_self];unfold Lo;rw[←h4];simp[aC,List.map_take]
   ·have hw:Cj (kI ks) a=-1:=by apply vW;have:=hr;simp only[List.any_eq_true,not_exists,not_and]at this;intro e he;simpa using this e he
    have hfil:Lo ks a=a:=by unfold Lo;rw[List.filter_eq_self];intro e he;have:=hr;simp only[List.any_eq_true,not_exists,not_and]at this;simpa using this e he
    simp(config := { maxSteps := 3000000 }) [hw,hfil,hl9];exact hks
  ·cases h
 ·cases h
def iK (c:Int) (bS:List Int) (v:Vn):Vn:={v with dT:=v.dT||(!decide (v.n=c)&&!Cc bS v.n)}
def fx (l:List Vn):Int:=((lK l).getD v0).n
def kO (l:List Vn) (bS:List Int):List Vn:=l.map (iK (fx l) bS)
def iy (o:List Vn) (n:Int):Bool:=(List.range o.length).any fun k=>!(xQ o k).dT&&(cx o o.length k).any fun w=>decide (w.n=n)
def dL (l:List Vn) (bS:List Int):List Vn:=if bE l=false then[] else(kO l bS).filter fun v=>iy (kO l bS) v.n
theorem Ez {f:Vn→Vn} (hf:∀v,(f v).n=v.n) (l:List Vn) (n:Int):mR (l.map f) n=mR l n:=by
 unfold mR;rw[List.findIdx_map];have:((fun v:Vn=>decide (v.n=n))∘f)=fun v:Vn=>decide (v.n=n):=by funext v;simp[hf]
 rw[this,List.length_map]
theorem zO {f:Vn→Vn} (hf:∀v,(f v).n=v.n) (hb:∀v,bH (f v)=bH v) (l:List Vn):bE (l.map f)=bE l:=by
 have key:∀i,i<l.length→gO (l.map f) i=gO l i:=by
  intro i hi;have h1:(l.map f)[i]?=some (f l[i]):=by simp[hi]
  have h2:l[i]?=some l[i]:=List.getElem?_eq_getElem hi;have h3:eR (l.map f) i=eR l i:=by unfold eR;cases i with|zero=>rfl|succ i=>
   have hi':i<l.length:=by omega
   simp[hi',hf]
  unfold gO;rw[h1,h2,h3];simp only[Option.getD_some,hf,hb];rw[←List.map_take,Ez hf]
 unfold bE;rw[List.length_map];have:∀l':List Nat,(∀i∈l',i<l.length)→l'.all (gO (l.map f))=l'.all (gO l):=by intro l';induction l' with|nil=>intro _;rfl|cons x l' ih=>intro h;simp only[List.all_cons];rw[key x (h x (by simp)),ih fun i hi=>h i (by simp[hi])]
 exact this _ fun i hi=>List.mem_range.1 hi
theorem th (l:List Vn) (bS:List Int):bE (kO l bS)=bE l:=zO (f:=iK (fx l) bS) (fun _=>rfl) (fun _=>rfl) l
theorem zA {l:List Vn} (h:∀v∈l,gZ v) (bS:List Int):∀v∈kO l bS,gZ v:=by intro v hv;obtain⟨w,hw,rfl⟩:=List.mem_map.1 hv;exact h w hw
theorem rq (l:List Vn) (bS:List Int):(kO l bS).length=l.length:=by simp[kO]
def pK (ns:List Int):List (PV×AV):=ns.map fun n=>(.int .u64 n,.agg [])
def ye (n:Int) (ns:List Int):List Int:=if n∈ns then ns else ns++[n]
theorem u7 (n:Int):∀ns:List Int,jA (.int .u64 n) (.agg []) (pK ns)=pK (ye n ns)
 |[]=>by simp[pK,ye,jA]|m::ns=>by
  have ih:=u7 n ns;unfold pK at ih ⊢;simp only[List.map_cons,jA,lM];by_cases h:n=m;·subst h;simp[ye]
  ·have h':decide (n=m)=false:=by simpa using h
   simp only[h',Bool.false_eq_true,if_false,ih];unfold ye;by_cases hn:n∈ns;·simp[hn]
   ·simp[hn,h]
theorem zN (ns:List Int):hZ 9 (pK ns):=by intro e he;obtain⟨n,_,rfl⟩:=List.mem_map.1 he;rfl
theorem A8 (ns:List Int):(pK ns).all (fun e=>yQ e.2)=true:=by rw[List.all_eq_true];intro e he;obtain⟨n,_,rfl⟩:=List.mem_map.1 he;rfl
def tf (ns:List Int):List PV:=ns.map (.int .u64)
theorem BL (ns:List Int):(pK ns).map (·.1)=tf ns:=by simp[pK,tf]
theorem Ao (ns:List Int):∀x∈tf ns,cL x=9:=by intro x hx;obtain⟨n,_,rfl⟩:=List.mem_map.1 hx;rfl
theorem Aj (ns:List Int) (n:Int):AQ (tf ns) n=decide (n∈ns):=by unfold AQ tf;induction ns with|nil=>simp|cons m ns ih=>simp only[List.map_cons,List.any_cons,ih,lM,List.mem_cons];by_cases h:n=m<;>simp[h]
theorem Cw (m n:Int) (ns:List Int):m∈ye n ns↔m=n∨m∈ns:=by
 unfold ye;split;·rename_i h;exact⟨.inr,fun h'=>h'.elim (fun e=>e▸h) id⟩
 ·simp only[List.mem_append,List.mem_singleton];exact⟨fun h=>h.elim .inr .inl,fun h=>h.elim .inr .inl⟩
def rD (o:List Vn) (v:Vn):List Int:=(fw o v.n).1.map (·.n)
theorem Cm {o:List Vn} (hr:bE o=true) (n:Int):iy o n=true↔∃v∈aY o,n∈rD o v:=by
 unfold iy;simp only[List.any_eq_true,List.mem_range,Bool.and_eq_true,Bool.not_eq_true',decide_eq_true_eq];constructor
 ·rintro⟨k,hk,hh,w,hw,hn⟩;rw[dQ hk]at hh;have hs:o[k]∈aY o:=by unfold aY;simp[hh]
  refine⟨o[k],hs,?_⟩;have hg:∃v,fy o o[k].n=some v:=by unfold fy;cases hf:(aY o).find? fun v=>decide (v.n=o[k].n) with|some v=>exact⟨v,rfl⟩|none=>rw[List.find?_eq_none]at hf;exact absurd (decide_eq_true rfl) (hf _ hs)
  obtain⟨v,hg⟩:=hg;obtain⟨i,hi,hv,hvn⟩:=get_at hg;have hp:fw o o[k].n=(cx o o.length k,0):=by simp only[fw,hr,hg];rw[if_neg (by simp),hvn,kH hr hk,Int.toNat_natCast]
  unfold rD;rw[hp];exact List.mem_map.2 ⟨w,hw,hn⟩
 ·rintro⟨v,hv,hn⟩;have hv':v∈o∧v.dT=false:=by unfold aY at hv;simpa using hv
  obtain⟨k,hk,rfl⟩:=List.getElem_of_mem hv'.1;have hg:∃v,fy o o[k].n=some v:=by unfold fy;cases hf:(aY o).find? fun v=>decide (v.n=o[k].n) with|some v=>exact⟨v,rfl⟩|none=>rw[List.find?_eq_none]at hf;exact absurd (decide_eq_true rfl) (hf _ hv)
  obtain⟨v,hg⟩:=hg;obtain⟨i,hi,hv1,hvn⟩:=get_at hg;have hp:fw o o[k].n=(cx o o.length k,0):=by simp only[fw,hr,hg];rw[if_neg (by simp),hvn,kH hr hk,Int.toNat_natCast]
  unfold rD at hn;rw[hp]at hn;obtain⟨w,hw,hwn⟩:=List.mem_map.1 hn;exact⟨k,hk,by rw[dQ hk];exact hv'.2,w,hw,hwn⟩
theorem zD {o:List Vn} (n:Int):(fw o n).1.length≤o.length+1:=by
 unfold fw;split;·simp
 ·split;·simp
  ·exact kr _ _
def lP (f:Vn→Vn) (a:List Vn) (i:Nat):List Vn:=(a.take i).map f++a.drop i
theorem vH (f:Vn→Vn) (a:List Vn) (i:Nat):(lP f a i).length=a.length:=by simp[lP];omega
theorem BR (f:Vn→Vn) {a:List Vn}{i:Nat} (h:i<a.length):(lP f a i).set i (f a[i])=lP f a (i+1):=by unfold lP;rw[List.set_append,if_neg (by simp;omega)];simp only[List.length_map,List.length_take];rw[Nat.min_eq_left (show i≤a.length by omega),Nat.sub_self,List.drop_eq_getElem_cons h,List.set_cons_zero,List.take_succ_eq_append_getElem h,List.map_append];simp only[List.map_cons,List.map_nil,List.append_assoc,List.cons_append,List.nil_append]
theorem Dw (f:Vn→Vn) {a:List Vn}{i:Nat} (h:i<a.length):(lP f a i)[i]'(by rw[vH];exact h)=a[i]:=by unfold lP;rw[List.getElem_append_right (by simp;omega)];simp only[List.length_map,List.length_take,Nat.min_eq_left (show i≤a.length by omega),Nat.sub_self];simp
@[simp] noncomputable def pe (e:TypeId):List AV→Option (Prop×AV)|[.pv (.ro a),.pv (.ro k)]=>(dec cF a).bind fun l=>(dec rO k).map fun ks=>(l.length≤100000∧ks.length≤1000000∧(∀v∈l,gZ v),.fr e (aC (dL l ks)))|_=>none
theorem CZ:bn Tryz.prog 120 (pe 73):=by
 intro ys φ r h hφ;unfold pe at h;split at h
 ·rename_i ra rk;obtain⟨a,ha,h⟩:=Option.bind_eq_some_iff.1 h;obtain⟨ks,hk,h⟩:=Option.map_eq_some_iff.1 h;cases h;cases aI ha;cases dZ hk;obtain⟨hl5,hk6,hov⟩:=hφ;have hl9:a.length≤1000000000:=by omega
  have hl6:a.length≤1000000:=by omega
  have hk9:ks.length≤1000000000:=by omega
  have fl:∀l,bq (aC l):=ax;refine aB (ai HD (ai BE (ai Wz (ai PH (ai tF (ai Ii (ir (p:=0) (k:=998) IW (by kernel_rfl) aj))))))) (by kernel_rfl) fn120 (by simp) ?_;unfold body120;cases hr:bE a with
  |false=>
   have hp:dL a ks=[]:=by simp[dL,hr]
   simp(config := { maxSteps := 3000000 }) [hl9,hr,hp]|true=>
  have hp:dL a ks=(kO a ks).filter fun v=>iy (kO a ks) v.n:=by simp[dL,hr]
  rw[hp];have hrO:=(th a ks).trans hr;have hovO:=zA hov ks;have hlO:=rq a ks;have hO:kO a ks=a.map (iK (fx a) ks):=rfl;have hcur:((lK a).getD v0).n=fx a:=rfl;generalize kO a ks=O at hrO hovO hlO hO;generalize hcc:(lK a).getD v0=cc at hcur;simp(config := { maxSteps := 3000000 }) [hl9,hl6,hr,hcc,bD];refine ay (fun i:Nat=>i≤a.length) (fun i=>⟨[(1,.pv (.ro (gg ks))),(5,.own 21),(6,.ptr 6 0),(27,.own 21),(28,.pv (.int .i64 a.length)),(29,.pv (.int .i64 i))],[(21,.arr 73 (aC (lP (iK (fx a) ks) a i))),(6,.box (bD cc))]⟩) (fun i=>a.length-i) [] 0 (by simp) ?_ ?_;·simp[lP,bD]
  ·rintro i hi;have w2:IntKind.i64.wrap ((i:Int)+1)=(i:Int)+1:=wrap_i64 (by omega);have hml:=vH (iK (fx a) ks) a i;by_cases hlt:i<a.length
   ·have r1:=bh (l:=lP (iK (fx a) ks) a i) (i:=i) (by omega);rw[Dw _ hlt]at r1;have hst:=BR (iK (fx a) ks) hlt;have hrs:=fun e=>mX (lP (iK (fx a) ks) a i) i e;have hfin:∀b,b=(iK (fx a) ks a[i]).dT→(aC (lP (iK (fx a) ks) a i)).set i [.int .u64 a[i].n,.int .u64 a[i].b,.int .u64 a[i].p,.int .u64 a[i].i,.int .u64 a[i].s,.int .u64 a[i].z,.int .u64 a[i].m,.str a[i].t,.bool a[i].inl,.bool b]=aC (lP (iK (fx a) ks) a (i+1)):=by intro b hb;rw[←hst,←hrs];subst hb;rfl
    have hhid:(iK (fx a) ks a[i]).dT=(a[i].dT||(!decide (a[i].n=fx a)&&!Cc ks a[i].n)):=rfl;cases hh:a[i].dT with|true=>rw[hh]at r1 hhid;simp(config := { maxSteps := 3000000 }) [w2,hlt,hml,r1,bD];exact⟨i+1,by omega,⟨by omega,hfin _ (by rw[hhid];rfl)⟩,by omega⟩|false=>
     rw[hh]at r1 hhid;by_cases hn:a[i].n=fx a;·simp(config := { maxSteps := 3000000 }) [w2,hlt,hml,r1,bD,hcur,hn];refine⟨i+1,by omega,⟨by omega,?_⟩,by omega⟩;rw[←hfin false (by rw[hhid];simp[hn]),hn]
     ·simp(config := { maxSteps := 3000000 }) [w2,hlt,hml,r1,bD,hcur,hn];exact⟨hk9,i+1,by omega,⟨by omega,hfin _ (by rw[hhid];simp[hn])⟩,by omega⟩
   ·have hie:i=a.length:=by omega
    subst hie;have hmx:lP (iK (fx a) ks) a a.length=O:=by rw[hO];unfold lP;simp
    rw[hmx];have hm1:(Value.map none).oneCell'=true:=rfl;have hm2:cv (Value.map none)=.pv (.val (.map none)):=rfl;have hlO6:O.length≤1000000:=by omega
    simp(config := { maxSteps := 3000000 }) [bD,hm1,hm2,hlO6,fl];have hs6:(aY O).length≤1000000:=Nat.le_trans (List.length_filter_le _ _) hlO6;have hO5:O.length≤100000:=by omega
    refine ay (fun x:Nat×List Int=>x.1≤(aY O).length∧∀n,n∈x.2↔∃v∈(aY O).take x.1,n∈rD O v) (fun x=>⟨[(5,.own 21),(10,.ptr 10 0),(57,.own 57),(58,.pv (.int .i64 (aY O).length)),(59,.pv (.int .i64 x.1))],[(57,.arr 73 (aC (aY O))),(10,.box [.own 55]),(55,.map (pK x.2)),(21,.arr 73 (aC O))]⟩) (fun x=>(aY O).length-x.1) [] (0,[]) ?_ ?_ ?_;·exact⟨by simp,by simp⟩
    ·simp[pK]
    ·rintro⟨j,ns⟩ ⟨hj,hns⟩;dsimp only at hj hns;have w4:IntKind.i64.wrap ((j:Int)+1)=(j:Int)+1:=wrap_i64 (by omega);by_cases hjl:j<(aY O).length
     ·have r2:=bh hjl;have hpl:=zD (o:=O) (aY O)[j].n;have hpN:rD O (aY O)[j]=(fw O (aY O)[j].n).1.map (fun v:Vn=>v.n):=rfl;have hnext:∀ns':List Int,(∀n:Int,n∈ns'↔n∈ns∨n∈rD O (aY O)[j])→∀n:Int,n∈ns'↔∃v∈(aY O).take (j+1),n∈rD O v:=by
       intro ns' hn' n;rw[hn',hns,List.take_succ_eq_append_getElem hjl];constructor
       ·rintro(⟨v,hv,hm⟩|hm);·exact⟨v,List.mem_append.2 (.inl hv),hm⟩
        ·exact⟨_,List.mem_append.2 (.inr (List.mem_singleton.2 rfl)),hm⟩
       ·rintro⟨v,hv,hm⟩;rw[List.mem_append,List.mem_singleton]at hv;rcases hv with hv|rfl;·exact .inl ⟨v,hv,hm⟩
        ·exact .inr hm
      simp(config := { maxSteps := 3000000 }) [w4,hjl,r2,fl,hO5,hovO];generalize hW:(fw O (aY O)[j].n).1=W at hpl hpN;refine⟨hovO,?_⟩;refine ay (fun x:Nat×List Int=>x.1≤W.length∧∀n,n∈x.2↔n∈ns∨n∈(W.take x.1).map (fun v:Vn=>v.n)) (fun x=>⟨[(5,.own 21),(10,.ptr 10 0),(57,.own 57),(58,.pv (.int .i64 (aY O).length)),(59,.pv (.int .i64 j)),(70,.own 67),(71,.pv (.int .i64 W.length)),(72,.pv (.int .i64 x.1))],[(67,.arr 73 (aC W)),(57,.arr 73 (aC (aY O))),(10,.box [.own 55]),(55,.map (pK x.2)),(21,.arr 73 (aC O))]⟩) (fun x=>W.length-x.1) [] (0,ns) ?_ ?_ ?_;·exact⟨by simp,by simp⟩
      ·simp
      ·rintro⟨k,ms⟩ ⟨hk',hms⟩;dsimp only at hk' hms;have w5:IntKind.i64.wrap ((k:Int)+1)=(k:Int)+1:=wrap_i64 (by omega);have hks9:=zN ms;by_cases hkl:k<W.length
       ·have r3:=bh hkl;have hput:=u7 W[k].n ms;simp(config := { maxSteps := 3000000 }) [w5,hkl,r3,hks9,hput];refine⟨k+1,ye W[k].n ms,⟨by omega,fun n=>?_⟩,⟨by omega,rfl⟩,by omega⟩;rw[Cw,hms,←List.map_take,List.take_succ_eq_append_getElem hkl];simp only[List.map_append,List.map_cons,List.map_nil,List.mem_append,List.mem_singleton];constructor
        ·rintro(h|h|h);·exact .inr (.inr h)
         ·exact .inl h
         ·exact .inr (.inl h)
        ·rintro(h|h|h);·exact .inr (.inl h)
         ·exact .inr (.inr h)
         ·exact .inl h
       ·have hke:k=W.length:=by omega
        subst hke;simp(config := { maxSteps := 3000000 }) [w4,hjl];exact⟨j+1,ms,⟨by omega,hnext ms fun n=>by rw[hms,List.take_length,hpN]⟩,⟨by omega,rfl⟩,by omega⟩
     ·have hje:j=(aY O).length:=by omega
      subst hje;rw[List.take_length]at hns;have hun:=A8 ns;have hfs:=BL ns;have hkk:=Ao ns;have hin:Lo (tf ns) O=O.filter fun v=>iy O v.n:=by unfold Lo;congr 1;funext v;simp only[kI,Aj,Bool.not_not];rw[Bool.eq_iff_iff,decide_eq_true_eq,hns,Cm hrO]
      have hkm:∀t es,cZ t (.map es)=.map es:=fun _ _=>rfl;simp(config := { maxSteps := 3000000 }) [hun,hfs,hin,hlO6,fl,hkm];exact hkk
 ·cases h
def mb (o:List Vn) (n:Int) (k:Nat):Bool:=!(xQ o k).dT&&(cx o o.length k).any fun w=>decide (w.n=n)
theorem Du (l:List Vn) (n:Int):decide (0≤mR l n)=l.any fun w=>decide (w.n=n):=by
 rcases ky l n with⟨i,h,h1,h2,_⟩|⟨h1,h2⟩
 ·rw[h1];have:(l.any fun w=>decide (w.n=n))=true:=by rw[List.any_eq_true];exact⟨l[i],List.getElem_mem h,by simpa using h2⟩
  rw[this];simp
 ·rw[h1];have:(l.any fun w=>decide (w.n=n))=false:=by rw[List.any_eq_false];intro w hw;simpa using h2 w hw
  rw[this];simp
theorem Ag:bn Tryz.prog 76 (pe 92):=by
 intro ys φ r h hφ;unfold pe at h;split at h
 ·rename_i ra rk;obtain⟨a,ha,h⟩:=Option.bind_eq_some_iff.1 h;obtain⟨ks,hk,h⟩:=Option.map_eq_some_iff.1 h;cases h;cases aI ha;cases dZ hk;obtain⟨hl5,hk6,hov⟩:=hφ;have hl9:a.length≤1000000000:=by omega
  have hl6:a.length≤1000000:=by omega
  have hk9:ks.length≤1000000000:=by omega
  have fl:∀l,bq (aC l):=ax;refine aB (ai F9 (ai QM (ai JZ (ai (Wc a.length) (ai yc aj))))) (by kernel_rfl) fn76 (by simp) ?_;unfold body76;cases hr:bE a with
  |false=>
   have hp:dL a ks=[]:=by simp[dL,hr]
   simp(config := { maxSteps := 3000000 }) [hl9,hr,hp];exact hov|true=>
  have hp:dL a ks=(kO a ks).filter fun v=>iy (kO a ks) v.n:=by simp[dL,hr]
  rw[hp];have hrO:=(th a ks).trans hr;have hovO:=zA hov ks;have hlO:=rq a ks;have hO:kO a ks=a.map (iK (fx a) ks):=rfl;have hcur:((lK a).getD v0).n=fx a:=rfl;generalize kO a ks=O at hrO hovO hlO hO;generalize hcc:(lK a).getD v0=cc at hcur;simp(config := { maxSteps := 3000000 }) [hl9,hl6,hr,hcc,bD];refine⟨hov,?_⟩;refine ay (fun i:Nat=>i≤a.length) (fun i=>⟨[(0,.pv (.ro (aC a))),(1,.pv (.ro (gg ks))),(5,.ptr 5 0),(7,.own 7),(8,.own 8),(9,.pv (.int .i64 i))],[(7,.arr 92 (aC ((a.take i).map (iK (fx a) ks)))),(8,.arr 92 []),(5,.box (bD cc))]⟩) (fun i=>a.length-i) [] 0 (by simp) ?_ ?_;·simp[bD]
  ·rintro i hi;have w2:IntKind.i64.wrap ((i:Int)+1)=(i:Int)+1:=wrap_i64 (by omega);have b1:(i+1)*80≤140737488355328:=by omega
   have b2:i≤9223372036854775806:=by omega
   have bm:min i a.length=i:=Nat.min_eq_left hi;by_cases hlt:i<a.length
   ·have r1:=bh hlt;have hrow:∀b,b=(iK (fx a) ks a[i]).dT→aC ((a.take i).map (iK (fx a) ks))++[[PV.int .u64 a[i].n,.int .u64 a[i].b,.int .u64 a[i].p,.int .u64 a[i].i,.int .u64 a[i].s,.int .u64 a[i].z,.int .u64 a[i].m,.str a[i].t,.bool a[i].inl,.bool b]]=aC ((a.take (i+1)).map (iK (fx a) ks)):=by intro b hb;subst hb;rw[List.take_succ_eq_append_getElem hlt,List.map_append,cr];rfl
    have hhid:(iK (fx a) ks a[i]).dT=(a[i].dT||(!decide (a[i].n=fx a)&&!Cc ks a[i].n)):=rfl;cases hh:a[i].dT with|true=>rw[hh]at r1 hhid;simp(config := { maxSteps := 3000000 }) [w2,hlt,r1,bD,b1,b2,bm,aQ];refine⟨i+1,by omega,⟨by omega,?_⟩,by omega⟩;rw[←List.map_take,←List.map_take];exact hrow _ (by rw[hhid];rfl)|false=>
     rw[hh]at r1 hhid;by_cases hn:a[i].n=fx a;·simp(config := { maxSteps := 3000000 }) [w2,hlt,r1,bD,hcur,hn,b1,b2,bm,aQ];refine⟨i+1,by omega,⟨by omega,?_⟩,by omega⟩;rw[←List.map_take,←List.map_take,←hrow false (by rw[hhid];simp[hn]),hn]
     ·simp(config := { maxSteps := 3000000 }) [w2,hlt,r1,bD,hcur,hn,b1,b2,bm,aQ];refine⟨hk9,i+1,by omega,⟨by omega,?_⟩,by omega⟩;rw[←List.map_take,←List.map_take];exact hrow _ (by rw[hhid];simp[hn])
   ·have hie:i=a.length:=by omega
    subst hie;have hmx:(a.take a.length).map (iK (fx a) ks)=O:=by rw[hO,List.take_length]
    rw[hmx];have hlO6:O.length≤1000000:=by omega
    have hlO9:O.length≤1000000000:=by omega
    have hO5:O.length≤100000:=by omega
    simp(config := { maxSteps := 3000000 }) [bD];refine ay (fun i:Nat=>i≤O.length) (fun i=>⟨[(7,.own 7),(8,.own 8),(11,.pv (.int .i64 i))],[(7,.arr 92 (aC O)),(8,.arr 92 (aC ((O.take i).filter fun v=>iy O v.n)))]⟩) (fun i=>O.length-i) [] 0 (by simp) ?_ ?_;·simp
    ·rintro i hi;have w4:IntKind.i64.wrap ((i:Int)+1)=(i:Int)+1:=wrap_i64 (by omega);by_cases hil:i<O.length
     ·have r2:=bh hil;simp(config := { maxSteps := 3000000 }) [hil];refine ay (fun k:Nat=>k≤O.length) (fun k=>⟨[(7,.own 7),(8,.own 8),(11,.pv (.int .i64 i)),(12,.pv (.bool ((List.range k).any (mb O O[i].n)))),(13,.pv (.int .i64 k))],[(7,.arr 92 (aC O)),(8,.arr 92 (aC ((O.take i).filter fun v=>iy O v.n)))]⟩) (fun k=>O.length-k) [] 0 (by simp) ?_ ?_;·simp
      ·rintro k hk';have w5:IntKind.i64.wrap ((k:Int)+1)=(k:Int)+1:=wrap_i64 (by omega);by_cases hkl:k<O.length
       ·have r3:=bh hkl;have hix:mR O O[k].n=(k:Int):=kH hrO hkl;have hpl:=kr (l:=O) O.length k;have hat:=dQ hkl;have hn1:(List.range (k+1)).any (mb O O[i].n)=((List.range k).any (mb O O[i].n)||mb O O[i].n k):=by rw[List.range_succ,List.any_append];simp
        cases hh:O[k].dT with|true=>
         rw[hh]at r3;have hq:mb O O[i].n k=false:=by unfold mb;rw[hat,hh];rfl
         simp(config := { maxSteps := 3000000 }) [w5,hkl,r3,hil,r2];exact⟨k+1,by omega,⟨by rw[hn1,hq,Bool.or_false],by omega⟩,by omega⟩|false=>
         rw[hh]at r3;have hq:mb O O[i].n k=(cx O O.length k).any fun w=>decide (w.n=O[i].n):=by unfold mb;rw[hat,hh];rfl
         rw[←Du]at hq;have hp9:(cx O O.length k).length≤1000000000:=by omega
         have htk:(cx O O.length k).take (cx O O.length k).length=cx O O.length k:=List.take_length;simp(config := { maxSteps := 3000000 }) [w5,hkl,r3,hil,r2,hix,hp9,htk,fl];refine⟨⟨hO5,hrO,hovO,k,by omega,hkl,by rw[hat,←hh]⟩,fun h0=>⟨k+1,by omega,⟨⟨k,by omega,by rw[hq];simpa using h0⟩,by omega⟩,by omega⟩,fun h0=>⟨k+1,by omega,⟨?_,by omega⟩,by omega⟩⟩;rw[hn1,hq,decide_eq_false (by omega),Bool.or_false]
       ·have hke:k=O.length:=by omega
        subst hke;have hnb:(List.range O.length).any (mb O O[i].n)=iy O O[i].n:=rfl;rw[hnb];have b3:(((O.take i).filter fun v=>iy O v.n).length+1)*80≤140737488355328:=by have:=List.length_filter_le (fun v=>iy O v.n) (O.take i);rw[List.length_take]at this;omega
        cases hnd:iy O O[i].n with|true=>simp(config := { maxSteps := 3000000 }) [w4,hil,r2,aQ,b3];refine⟨by omega,i+1,by omega,⟨by omega,?_⟩,by omega⟩;rw[List.take_succ_eq_append_getElem hil,List.filter_append,cr];congr 1;simp only[List.filter_cons,hnd,List.filter_nil,if_true];rfl|false=>simp(config := { maxSteps := 3000000 }) [w4,hil];refine⟨i+1,by omega,⟨by omega,?_⟩,by omega⟩;rw[List.take_succ_eq_append_getElem hil,List.filter_append];simp[hnd]
     ·have hie:i=O.length:=by omega
      subst hie;simp(config := { maxSteps := 3000000 }) [List.take_length,fl]
 ·cases h
def lN (a:Ap):Ap×Bool:=(⟨a.l,(nu a.ps a.r.v).1,a.vs,a.sl,a.r,a.n,a.s⟩,decide ((nu a.ps a.r.v).2=0))
def yb (a:Ap):Ap×Bool:=(⟨a.l,(nv a.ps ⟨a.n,a.r.v,a.r.u⟩).1,a.vs,a.sl,a.r,a.n,a.s⟩,(fy a.vs a.r.v).isSome&&decide ((nv a.ps ⟨a.n,a.r.v,a.r.u⟩).2=0))
def en (a:Ap):Vn:=⟨a.n,a.r.v,a.r.p,a.r.i,a.r.s,a.r.z,a.r.m,[],false,false⟩
def iS (a:Ap):Ap×Bool:=(⟨a.l,a.ps,(cM a.vs (en a)).1,a.sl,a.r,a.n,a.s⟩,!a.sl&&dc a.l a.r.p a.r.i a.r.e&&decide ((cM a.vs (en a)).2=0))
noncomputable def gG (a:Ap):Ap×Bool:=(⟨a.l,cU a.ps a.r.c a.s,dL a.vs (lj ((cU a.ps a.r.c a.s).map Pn.v)),a.sl,a.r,a.n,a.s⟩,true)
theorem Cv:df Tryz.prog 85 (wD (fun a=>a.ps.length≤100000) lN):=by
 intro ys φ r h hφ;unfold wD at h;split at h;·obtain⟨a,ha,h⟩:=Option.map_eq_some_iff.1 h;cases h;cases eJ ha;obtain⟨⟨e,p,i,u,h'⟩,ps,vs,sl,⟨k,rp,ri,rs,re,ru,rv,rc,rz,rm,rn,rt⟩,n,s⟩:=a;refine b5 (ai JY aj) (by kernel_rfl) fn85 (by simp) rfl (by simp[lA]) ?_;unfold body85;have h1:ps.length≤100000:=hφ;simp(config := { maxSteps := 3000000 }) [lA,lN,h1,aE]
 ·cases h
theorem JF:df Tryz.prog 84 (wD (fun a=>a.ps.length≤1000000∧a.vs.length≤1000000) yb):=by
 intro ys φ r h hφ;unfold wD at h;split at h;·obtain⟨a,ha,h⟩:=Option.map_eq_some_iff.1 h;cases h;cases eJ ha;obtain⟨⟨e,p,i,u,h'⟩,ps,vs,sl,⟨k,rp,ri,rs,re,ru,rv,rc,rz,rm,rn,rt⟩,n,s⟩:=a;refine b5 (ai IV (ai JO aj)) (by kernel_rfl) fn84 (by simp) rfl (by simp[lA]) ?_;unfold body84;obtain⟨h1,h2⟩:=hφ;have h1:ps.length≤1000000:=h1;have h2:vs.length≤1000000:=h2;simp(config := { maxSteps := 3000000 }) [lA,yb,h1,h2,aE,bD]
 ·cases h
theorem At:df Tryz.prog 83 (wD (fun a=>a.vs.length≤100000∧(∀v∈a.vs,gZ v)∧gZ (en a)) iS):=by
 intro ys φ r h hφ;unfold wD at h;split at h
 ·obtain⟨a,ha,h⟩:=Option.map_eq_some_iff.1 h;cases h;cases eJ ha;obtain⟨⟨e,p,i,u,h'⟩,ps,vs,sl,⟨k,rp,ri,rs,re,ru,rv,rc,rz,rm,rn,rt⟩,n,s⟩:=a;refine b5 (ai Jh (ai HE aj)) (by kernel_rfl) fn83 (by simp) rfl (by simp[lA]) ?_;unfold body83;obtain⟨h1,h2,h3⟩:=hφ;have h1:vs.length≤100000:=h1;have h2:∀v∈vs,gZ v:=h2;have h3:gZ ⟨n,rv,rp,ri,rs,rz,rm,[],false,false⟩:=h3;cases sl<;>simp(config := { maxSteps := 3000000 }) [lA,iS,en,h1,h3,ax];·exact⟨⟨h2,h3⟩,rfl⟩
  ·exact⟨h2,h3⟩
 ·cases h
theorem yu:df Tryz.prog 87 (wD (fun a=>a.ps.length<50∧(∀e∈a.ps,gM e)∧cY a.r.c∧cY a.s∧a.vs.length≤100000∧∀v∈a.vs,gZ v) gG):=by
 intro ys φ r h hφ;unfold wD at h;split at h
 ·obtain⟨a,ha,h⟩:=Option.map_eq_some_iff.1 h;cases h;cases eJ ha;obtain⟨⟨e,p,i,u,h'⟩,ps,vs,sl,⟨k,rp,ri,rs,re,ru,rv,rc,rz,rm,rn,rt⟩,n,s⟩:=a;refine b5 (ai IG (ai WZ (ai CZ aj))) (by kernel_rfl) fn87 (by simp) rfl (by simp[lA]) ?_;unfold body87;obtain⟨h1,h2,h3,h4,h5,h6⟩:=hφ;have h1:ps.length<50:=h1;have h3:cY rc:=h3;have h4:cY s:=h4;have h5:vs.length≤100000:=h5;have h7:ps.length≤1000000:=by omega
  have h8:(cU ps rc s).length<50:=by have:=List.length_filter_le (fun e=>!dY rc s e) ps;unfold cU;omega
  have h9:(lj ((cU ps rc s).map Pn.v)).length≤1000000:=by have:=tB ((cU ps rc s).map Pn.v);rw[List.length_map]at this;omega
  have hU:∀l:List Int,bU l=gg l:=fun _=>rfl;have fU:∀l:List Int,bq (gg l):=pQ;have h10:∀e∈ps,cY e.u:=fun e he=>(h2 e he).2.2;have h11:(∀e∈ps,cY e.u)=True:=eq_true h10;simp(config := { maxSteps := 3000000 }) [lA,gG,h1,h3,h4,h5,h7,h8,h9,hU,fU,aE,ax];exact⟨h10,h6⟩
 ·cases h
structure Wr (w w':World) (b:Nat) (us:Array Value) (ty:TypeId):Prop where
 os:w'.os=w.os
 tape:w'.tape=w.tape
 output:w'.output=w.output
 size:w'.heap.size=w.heap.size
 here:w'.heap[b]?=some (.cells us ty (0,0))
 block:∀k,k≠b→w'.heap[k]?=w.heap[k]?
theorem pG {w:World}{b:Nat}{us:Array Value}{ty:TypeId} (h:w.heap[b]?=some (.cells us ty (0,0))) (o:Nat) (v:Value):Wr w (w.setCell ⟨b,o,none⟩ v) b (us.setIfInBounds o v) ty:=by
 refine⟨rfl,rfl,rfl,by simp[World.setCell],?_,fun k hk=>?_⟩;·simp[World.setCell,Array.getElem?_modify,h]
 ·simp[World.setCell,Array.getElem?_modify,Ne.symm hk]
theorem eC (a:Value) (b o:Nat) (x:Int) (us:Array Value) (ty:TypeId) (w:World) (h:w.heap[b]?=some (.cells us ty (0,0))) (hx:us[o]?=some (.int .u64 x)):Calls Tryz.prog 184 #[a,.pointer (some ⟨b,o,none⟩)] w fun e w'=>e=.returned (.tuple #[])∧Wr w w' b (us.setIfInBounds o (.int .u64 0)) ty:=by
 have hc:w.cell? ⟨b,o,none⟩=some (.int .u64 x):=by rw[Lib.cell_of_heap h];exact hx
 have hf:w.frozen? ⟨b,o,none⟩=false:=by simp[World.frozen?,h]
 go_enter Tryz.func184,Tryz.ntmps184;go_wp2;exact⟨rfl,_,by kernel_rfl,rfl,pG h o _⟩
theorem vN (b o bt:Nat) (n:List UInt8) (bad:Bool) (us:Array Value) (ty tt:TypeId) (w:World) (hne:b≠bt) (h:w.heap[b]?=some (.cells us ty (0,0))) (hx:us[o]?=some (.string ⟨n.toArray⟩)) (ht:w.heap[bt]?=some (.cells #[.bool bad] tt (0,0))):Calls Tryz.prog 185 #[.pointer (some ⟨bt,0,none⟩),.pointer (some ⟨b,o,none⟩)] w fun e w'=>e=.returned (.tuple #[])∧∃w1,Wr w w1 bt #[.bool (bad||decide (n=[])||decide (64<n.length))] tt∧Wr w1 w' b (us.setIfInBounds o (.string ⟨#[]⟩)) ty:=by
 have hc:w.cell? ⟨b,o,none⟩=some (.string ⟨n.toArray⟩):=by rw[Lib.cell_of_heap h];exact hx
 have hb:w.cell? ⟨bt,0,none⟩=some (.bool bad):=by rw[Lib.cell_of_heap ht];rfl
 have hf:w.frozen? ⟨b,o,none⟩=false:=by simp[World.frozen?,h]
 have hg:w.frozen? ⟨bt,0,none⟩=false:=by simp[World.frozen?,ht]
 have hd:∀v,(w.setCell ⟨bt,0,none⟩ v).cell? ⟨b,o,none⟩=some (.string ⟨n.toArray⟩):=fun v=>by rw[Lib.cell_of_heap (((pG ht 0 v).block b hne).trans h)];exact hx
 have fin:∀v,v=(bad||decide (n=[])||decide (64<n.length))→∃w1,Wr w w1 bt #[.bool (bad||decide (n=[])||decide (64<n.length))] tt∧Wr w1 ((w.setCell ⟨bt,0,none⟩ (.bool v)).setCell ⟨b,o,none⟩ (.string ⟨#[]⟩)) b (us.setIfInBounds o (.string ⟨#[]⟩)) ty:=by rintro v rfl;exact⟨_,pG ht 0 _,pG (((pG ht 0 _).block b hne).trans h) o _⟩
 go_enter Tryz.func185,Tryz.ntmps185;have hd1:=hd (.bool true);have hd2:=hd (.bool false);clear hd;cases bad with|true=>go_wp2;exact⟨rfl,_,by kernel_rfl,rfl,fin _ rfl⟩|false=>
  by_cases h1:n=[];·subst h1;go_wp2;exact⟨rfl,_,by kernel_rfl,rfl,fin _ rfl⟩
  ·go_wp2;refine⟨rfl,_,by kernel_rfl,rfl,fin _ ?_⟩;have:(n.isEmpty||decide (64<(n.length:Int)))=(decide (n=[])||decide (64<n.length)):=by cases n with|nil=>rfl|cons x l=>simp only[List.isEmpty_cons,Bool.false_or,reduceCtorEq,decide_false];exact decide_eq_decide.2 (by omega)
   rw[this,Bool.false_or]
def recC (r:Rc):Array Value:=#[.int .u8 r.k,.int .u64 r.p,.int .u64 r.i,.int .u64 r.s,.int .u64 r.e,.int .u64 r.u,.int .u64 r.v,.int .u64 r.c,.int .u64 r.z,.int .u64 r.m,.string ⟨r.n.toArray⟩,.string ⟨r.t.toArray⟩]
def rP:Nat→Rc→Rc|0,r=>{r with e:=0}|1,r=>{r with u:=0}|2,r=>{r with v:=0}|3,r=>{r with c:=0}|4,r=>{r with z:=0}|5,r=>{r with m:=0}|6,r=>{r with n:=[]}|7,r=>{r with t:=[]}|_,r=>r
def Qc:Nat→Rc→Bool→Bool|6,r,b=>b||decide (r.n=[])||decide (64<r.n.length)|7,r,b=>b||decide (r.t=[])||decide (64<r.t.length)|_,_,b=>b
def oN:List Nat→Rc×Bool→Rc×Bool|[],x=>x|q::l,x=>oN l (rP q x.1,Qc q x.1 x.2)
theorem QQ (a b c:Value) (w:World):(Instr.index 191 (.agg #[a,b,c]) (.int .i64 0)).run Tryz.prog w=.ok a w:=by kernel_rfl
theorem NH (a b c:Value) (w:World):(Instr.index 191 (.agg #[a,b,c]) (.int .i64 1)).run Tryz.prog w=.ok b w:=by kernel_rfl
theorem PE (a b c:Value) (w:World):(Instr.index 191 (.agg #[a,b,c]) (.int .i64 2)).run Tryz.prog w=.ok c w:=by kernel_rfl
theorem GC (n:Nat) (a:Addr) (w:World):(method (n+1) 149 (.pointer (some a)) "chartroom/record.number").run Tryz.prog w=.ok (184,.pointer (some a)) w:=by kernel_rfl
theorem Rm (n:Nat) (a:Addr) (w:World):(method (n+1) 149 (.pointer (some a)) "chartroom/record.text").run Tryz.prog w=.ok (185,.pointer (some a)) w:=by kernel_rfl
theorem Qi (n:Nat) (a:Addr) (w:World):(nilAhead (n+1) 149 (.pointer (some a)) "chartroom/record.number").run Tryz.prog w=.ok (some false) w:=by kernel_rfl
theorem PT (n:Nat) (a:Addr) (w:World):(nilAhead (n+1) 149 (.pointer (some a)) "chartroom/record.text").run Tryz.prog w=.ok (some false) w:=by kernel_rfl
def Wi:Value→Nat|.int _ n=>n.toNat|_=>0
structure Vs (w0 w:World) (br bt:Nat) (r:Rc) (bad:Bool):Prop where
 os:w.os=w0.os
 tape:w.tape=w0.tape
 output:w.output=w0.output
 size:w0.heap.size<w.heap.size
 hr:w.heap[br]?=some (.cells (recC r) 33 (0,0))
 ht:w.heap[bt]?=some (.cells #[.bool bad] 151 (0,0))
 ha:w.heap[w0.heap.size]?=some (.cells #[.pointer (some ⟨br,4,none⟩),.pointer (some ⟨br,5,none⟩),.pointer (some ⟨br,6,none⟩),.pointer (some ⟨br,7,none⟩),.pointer (some ⟨br,8,none⟩),.pointer (some ⟨br,9,none⟩)] 190 (0,0))
 block:∀k,k<w0.heap.size→k≠br→k≠bt→w.heap[k]?=w0.heap[k]?
theorem Vs.drew {w0 w:World}{br bt:Nat}{r:Rc}{bad:Bool} (h:Vs w0 w br bt r bad):Vs w0 w.drew br bt r bad:=⟨h.os,h.tape,h.output,h.size,h.hr,h.ht,h.ha,h.block⟩
theorem Vs.num {w0 w w':World}{br bt:Nat}{r r':Rc}{bad:Bool} (h:Vs w0 w br bt r bad) (hlr:br<w0.heap.size) (hlt:bt<w0.heap.size) (hne:br≠bt) {us:Array Value} (hw:Wr w w' br us 33) (hu:us=recC r'):Vs w0 w' br bt r' bad:=⟨hw.os.trans h.os,hw.tape.trans h.tape,hw.output.trans h.output,by rw[hw.size];exact h.size,by rw[hw.here,hu],(hw.block bt (Ne.symm hne)).trans h.ht,(hw.block _ (by omega)).trans h.ha,fun k h1 h2 h3=>(hw.block k h2).trans (h.block k h1 h2 h3)⟩
theorem Vs.Yq {w0 w w':World}{br bt:Nat}{r:Rc}{bad bad':Bool} (h:Vs w0 w br bt r bad) (hlr:br<w0.heap.size) (hlt:bt<w0.heap.size) (hne:br≠bt) (hw:Wr w w' bt #[.bool bad'] 151):Vs w0 w' br bt r bad':=⟨hw.os.trans h.os,hw.tape.trans h.tape,hw.output.trans h.output,by rw[hw.size];exact h.size,(hw.block br hne).trans h.hr,hw.here,(hw.block _ (by omega)).trans h.ha,fun k h1 h2 h3=>(hw.block k h3).trans (h.block k h1 h2 h3)⟩
theorem Kh (r:Rc) (bad:Bool) (ps:List Nat) (hps:∀q∈ps,q<8) (hlen:ps.length≤8) (w:World) (br bt:Nat) (hne:br≠bt) (hlr:br<w.heap.size) (hlt:bt<w.heap.size) (A:Option Addr) (c:Nat) (hc:ps.length≤c) (hA:0<ps.length→∃b o,A=some ⟨b,o,none⟩∧b≠br∧b≠bt∧b<w.heap.size∧∀i (h:i<ps.length),w.cell? ⟨b,o+i,none⟩=some (.int .u8 ps[i])) (h1:w.heap[br]?=some (.cells (recC r) 33 (0,0))) (h2:w.heap[bt]?=some (.cells #[.bool bad] 151 (0,0))):Calls Tryz.prog 89 #[.pointer (some ⟨br,0,none⟩),.iface 149 (.pointer (some ⟨bt,0,none⟩)),.slice A ps.length c] w fun e w'=>e=.returned (.tuple #[])∧Vs w w' br bt (oN ps ({r with p:=0,i:=0,s:=0},bad)).1 (oN ps ({r with p:=0,i:=0,s:=0},bad)).2:=by
 go_enter Tryz.func89,Tryz.ntmps89;go_wp2;go_region;have hv0:Vs w ((w.alloc (Obj.cells #[.pointer (some ⟨br,4,none⟩),.pointer (some ⟨br,5,none⟩),.pointer (some ⟨br,6,none⟩),.pointer (some ⟨br,7,none⟩),.pointer (some ⟨br,8,none⟩),.pointer (some ⟨br,9,none⟩)] 190)).drew) br bt r bad:=by
  have g:∀k,k<w.heap.size→((w.alloc (Obj.cells #[.pointer (some ⟨br,4,none⟩),.pointer (some ⟨br,5,none⟩),.pointer (some ⟨br,6,none⟩),.pointer (some ⟨br,7,none⟩),.pointer (some ⟨br,8,none⟩),.pointer (some ⟨br,9,none⟩)] 190)).drew).heap[k]?=w.heap[k]?:=fun k hk=>by show(w.heap.push _)[k]?=_;rw[Array.getElem?_push,if_neg (by omega)]
  refine⟨rfl,rfl,rfl,?_,(g br hlr).trans h1,(g bt hlt).trans h2,?_,fun k hk _ _=>g k hk⟩;·show w.heap.size<(w.heap.push _).size;simp
  ·show(w.heap.push _)[w.heap.size]?=_;simp
 generalize((w.alloc (Obj.cells #[.pointer (some ⟨br,4,none⟩),.pointer (some ⟨br,5,none⟩),.pointer (some ⟨br,6,none⟩),.pointer (some ⟨br,7,none⟩),.pointer (some ⟨br,8,none⟩),.pointer (some ⟨br,9,none⟩)] 190)).drew)=W0 at hv0 ⊢;go_wp2;go_region;replace hv0:=hv0.drew;generalize W0.drew=W1 at hv0 ⊢;go_wp2;have j0:=QQ;have j1:=NH;have j2:=PE;have j3:=GC;refine wp_loop_rounds 4 ?_;rw[rounds_succ];go_wp2_with(go_at_call 184;refine(eC _ br 1 r.p (recC r) _ _ hv0.hr rfl).mono ?_);rintro e W2 ⟨rfl,hw⟩;replace hv0:=hv0.num hlr hlt hne hw (r':={r with p:=0}) rfl;clear hw;go_wp2;rw[rounds_succ];go_wp2_with(go_at_call 184;refine(eC _ br 2 r.i _ _ _ hv0.hr rfl).mono ?_);rintro e W3 ⟨rfl,hw⟩;replace hv0:=hv0.num hlr hlt hne hw (r':={r with p:=0,i:=0}) rfl;clear hw;go_wp2;rw[rounds_succ];go_wp2_with(go_at_call 184;refine(eC _ br 3 r.s _ _ _ hv0.hr rfl).mono ?_);rintro e W4 ⟨rfl,hw⟩;replace hv0:=hv0.num hlr hlt hne hw (r':={r with p:=0,i:=0,s:=0}) rfl;clear hw;go_wp2;rw[rounds_succ];go_wp2;clear j0 j1 j2;go_loopw[49] (fun vi wr=>∃(i:Nat) (x:Rc×Bool),i≤ps.length∧vi=.int .i64 i∧Vs w wr br bt x.1 x.2∧oN (ps.drop i) x=oN ps ({r with p:=0,i:=0,s:=0},bad)) (fun vi _=>ps.length-Wi vi);case atStart=>exact⟨0,({r with p:=0,i:=0,s:=0},bad),by omega,rfl,hv0,rfl⟩
 case round=>
  obtain⟨i,⟨x,bx⟩,hi,rfl,hv,hvis⟩:=hrel;by_cases hlt':i<ps.length
  ·have hli:(i:Int)<(ps.length:Int):=by omega
   obtain⟨b,o,rfl,hb1,hb2,hb3,hcell⟩:=hA (by omega);have hq:=hps _ (List.getElem_mem hlt');have hcc:=hcell i hlt';have hcw:wr.cell? ⟨b,o+i,none⟩=some (.int .u8 ps[i]):=by rw[←hcc];unfold World.cell?;rw[hv.block b hb3 hb1 hb2]
   rw[List.drop_eq_getElem_cons hlt']at hvis;clear hcc hcell hv0 hps;revert hvis hcw hq;generalize ps[i]=q;intro hvis hcw hq;have hq8:q=0∨q=1∨q=2∨q=3∨q=4∨q=5∨q=6∨q=7:=by omega
   have hme:ps.length-Wi (.int .i64 ((i+1:Nat):Int))<ps.length-Wi (.int .i64 (i:Int)):=by show ps.length-(((i+1:Nat):Int)).toNat<ps.length-((i:Int)).toNat;omega
   have k1:=GC;have k2:=Qi;have k3:=Rm;have k4:=PT;rcases hq8 with rfl|rfl|rfl|rfl|rfl|rfl|rfl|rfl
   ·have hp:wr.cell? ⟨w.heap.size,0,none⟩=some (.pointer (some ⟨br,4,none⟩)):=by rw[Lib.cell_of_heap hv.ha];rfl
    go_wp2;go_region_with(go_at_call 184;refine(eC _ br 4 x.e _ _ _ hv.drew.hr rfl).mono ?_;rintro e W2 ⟨rfl,hw⟩);all_goals replace hv:=hv.drew.num hlr hlt hne hw (r':=rP 0 x) rfl;go_wp2;refine⟨⟨i+1,(_,_),hlt',congrArg (Value.int .i64) (by omega),hv,hvis⟩,hme⟩
   ·have hp:wr.cell? ⟨w.heap.size,1,none⟩=some (.pointer (some ⟨br,5,none⟩)):=by rw[Lib.cell_of_heap hv.ha];rfl
    go_wp2;go_region_with(go_at_call 184;refine(eC _ br 5 x.u _ _ _ hv.drew.hr rfl).mono ?_;rintro e W2 ⟨rfl,hw⟩);all_goals replace hv:=hv.drew.num hlr hlt hne hw (r':=rP 1 x) rfl;go_wp2;refine⟨⟨i+1,(_,_),hlt',congrArg (Value.int .i64) (by omega),hv,hvis⟩,hme⟩
   ·have hp:wr.cell? ⟨w.heap.size,2,none⟩=some (.pointer (some ⟨br,6,none⟩)):=by rw[Lib.cell_of_heap hv.ha];rfl
    go_wp2;go_region_with(go_at_call 184;refine(eC _ br 6 x.v _ _ _ hv.drew.hr rfl).mono ?_;rintro e W2 ⟨rfl,hw⟩);all_goals replace hv:=hv.drew.num hlr hlt hne hw (r':=rP 2 x) rfl;go_wp2;refine⟨⟨i+1,(_,_),hlt',congrArg (Value.int .i64) (by omega),hv,hvis⟩,hme⟩
   ·have hp:wr.cell? ⟨w.heap.size,3,none⟩=some (.pointer (some ⟨br,7,none⟩)):=by rw[Lib.cell_of_heap hv.ha];rfl
    go_wp2;go_region_with(go_at_call 184;refine(eC _ br 7 x.c _ _ _ hv.drew.hr rfl).mono ?_;rintro e W2 ⟨rfl,hw⟩);all_goals replace hv:=hv.drew.num hlr hlt hne hw (r':=rP 3 x) rfl;go_wp2;refine⟨⟨i+1,(_,_),hlt',congrArg (Value.int .i64) (by omega),hv,hvis⟩,hme⟩
   ·have hp:wr.cell? ⟨w.heap.size,4,none⟩=some (.pointer (some ⟨br,8,none⟩)):=by rw[Lib.cell_of_heap hv.ha];rfl
    go_wp2;go_region_with(go_at_call 184;refine(eC _ br 8 x.z _ _ _ hv.drew.hr rfl).mono ?_;rintro e W2 ⟨rfl,hw⟩);all_goals replace hv:=hv.drew.num hlr hlt hne hw (r':=rP 4 x) rfl;go_wp2;refine⟨⟨i+1,(_,_),hlt',congrArg (Value.int .i64) (by omega),hv,hvis⟩,hme⟩
   ·have hp:wr.cell? ⟨w.heap.size,5,none⟩=some (.pointer (some ⟨br,9,none⟩)):=by rw[Lib.cell_of_heap hv.ha];rfl
    go_wp2;go_region_with(go_at_call 184;refine(eC _ br 9 x.m _ _ _ hv.drew.hr rfl).mono ?_;rintro e W2 ⟨rfl,hw⟩);all_goals replace hv:=hv.drew.num hlr hlt hne hw (r':=rP 5 x) rfl;go_wp2;refine⟨⟨i+1,(_,_),hlt',congrArg (Value.int .i64) (by omega),hv,hvis⟩,hme⟩
   ·go_wp2;go_region_with(go_at_call 185;refine(vN br 10 bt x.n bx _ _ _ _ hne hv.drew.hr rfl hv.drew.ht).mono ?_;rintro e W2 ⟨rfl,W3,hw,hw2⟩);all_goals replace hv:=(hv.drew.Yq hlr hlt hne hw).num hlr hlt hne hw2 (r':=rP 6 x) rfl;go_wp2;refine⟨⟨i+1,(_,_),hlt',congrArg (Value.int .i64) (by omega),hv,hvis⟩,hme⟩
   ·go_wp2;go_region_with(go_at_call 185;refine(vN br 11 bt x.t bx _ _ _ _ hne hv.drew.hr rfl hv.drew.ht).mono ?_;rintro e W2 ⟨rfl,W3,hw,hw2⟩);all_goals replace hv:=(hv.drew.Yq hlr hlt hne hw).num hlr hlt hne hw2 (r':=rP 7 x) rfl;go_wp2;refine⟨⟨i+1,(_,_),hlt',congrArg (Value.int .i64) (by omega),hv,hvis⟩,hme⟩
  ·have hia:i=ps.length:=by omega
   subst hia;rw[List.drop_eq_nil_of_le (Nat.le_refl ps.length)]at hvis;go_wp2;refine⟨rfl,_,by kernel_rfl,rfl,?_⟩;rw[←hvis];exact hv
end Go.Proofs.YtlmkcmfmfahcfaaGreat.Ab
