/- slices.Sort at uint64: partitionOrdered. -/
import Derived.Test.YtlmkcmfmfahcfaaGreatX12
import Derived.Sort.WalkC4
import Derived.Sort.WalkA6
import Derived.Sort.LotD3
import Derived.Sort.LotB
import Derived.Sort.LotA
import Derived.WalkKit
set_option linter.unusedVariables false
set_option linter.unusedSimpArgs false
set_option linter.unnecessarySimpa false
set_option maxHeartbeats 40000000
set_option maxRecDepth 100000
namespace Go.Proofs.YtlmkcmfmfahcfaaGreat.Ab
open Go Go.RowKit Go.Sort R
noncomputable def Jj:List AV→Option (Prop×AV)|[.aL [.fr e a],.pv (.int .i64 p),.pv (.int .i64 q),.pv (.int .i64 v)]=>if e=22 then(dec dm a).map fun l=>((0≤p∧p≤v)∧v<q∧q≤(l.length:Int)∧l.length≤1000000,.bA 0 [.aL [.pv (.int .i64 ((partition ltInt l.toArray p.toNat q.toNat v.toNat).1:Int)),.pv (.bool (partition ltInt l.toArray p.toNat q.toNat v.toNat).2.1)],.fr 22 (rA (partition ltInt l.toArray p.toNat q.toNat v.toNat).2.2)]) else none|_=>none
@[simp] theorem Xu (e:TypeId) (d:Array Int) (p q v:Int):Jj [.aL [.fr e (rA d)],.pv (.int .i64 p),.pv (.int .i64 q),.pv (.int .i64 v)]=if e=22 then some ((0≤p∧p≤v)∧v<q∧q≤(d.size:Int)∧d.size≤1000000,.bA 0 [.aL [.pv (.int .i64 ((partition ltInt d p.toNat q.toNat v.toNat).1:Int)),.pv (.bool (partition ltInt d p.toNat q.toNat v.toNat).2.1)],.fr 22 (rA (partition ltInt d p.toNat q.toNat v.toNat).2.2)]) else none:=by show(if e=22 then(dec dm (rA d)).map _ else none)=_;rw[gG];simp
theorem Ui:dH Tryz.prog 157 Jj:=by
 intro ys φ r h hφ;unfold Jj at h;split at h
 ·rename_i e ra p q v;split at h
  ·rename_i he;subst he;obtain⟨l,hl,h⟩:=Option.map_eq_some_iff.1 h;cases h;obtain⟨d,rfl,rfl⟩:=kR hl;obtain⟨⟨h1,h2⟩,h3,h4,h5⟩:=hφ;rw[Array.length_toList]at h4 h5;obtain⟨a,rfl⟩:∃a:Nat,p=a:=⟨p.toNat,by omega⟩;obtain⟨b,rfl⟩:∃a:Nat,q=a:=⟨q.toNat,by omega⟩;obtain⟨c,rfl⟩:∃a:Nat,v=a:=⟨v.toNat,by omega⟩;rw[Int.toNat_natCast,Int.toNat_natCast,Int.toNat_natCast,Array.toArray_toList];refine cq (ah mw aj) (by kernel_rfl) fn157 (by simp) rfl (by simp) ?_;unfold body157;generalize hW:partition ltInt d a b c=W;have q1:a<d.size:=by omega
   have q2:c<d.size:=by omega
   have r1:=bg q1;have r2:=bg q2;have r3:=bg (d:=d.setIfInBounds a (gA d c)) (i:=c) (by rw[Array.size_setIfInBounds];omega);obtain⟨i,hi⟩:∃i,i=a+1:=⟨_,rfl⟩;obtain⟨j,hj⟩:∃j,j=b-1:=⟨_,rfl⟩;have w1:IntKind.i64.wrap ((a:Int)+1)=(i:Int):=by rw[wrap_i64 (by omega)];omega
   have w2:IntKind.i64.wrap ((b:Int)-1)=(j:Int):=by rw[wrap_i64 (by omega)];omega
   apply af;·simp(config := { maxSteps := 3000000 });exact⟨rfl,rfl⟩
   apply af;·simp(config := { maxSteps := 3000000 }) [q1,q2,r1,r2,r3];exact⟨rfl,rfl⟩
   rw[show(d.setIfInBounds a (gA d c)).setIfInBounds c (gA d a)=swp d a c from rfl];obtain⟨D,hDD⟩:∃D,D=swp d a c:=⟨_,rfl⟩;have g4:D.size=d.size:=by rw[hDD,size_swp]
   rw[←hDD];clear r1 r2 r3;apply af;·simp(config := { maxSteps := 3000000 }) [w1,w2];exact⟨rfl,rfl⟩
   have g1:a<i:=by omega
   have g2:i≤j+1:=by omega
   have g3:j<b:=by omega
   have qa:a<D.size:=by omega
   have ra:=bg qa;obtain⟨pU,hpU⟩:∃pU:Int→Bool,pU=fun x=>ltInt x D[a]!:=⟨_,rfl⟩;obtain⟨pD,hpD⟩:∃pD:Int→Bool,pD=fun x=>!ltInt x D[a]!:=⟨_,rfl⟩;obtain⟨i2,hi2⟩:∃i2,i2=scanUp pU D j i:=⟨_,rfl⟩;obtain⟨j2,hj2⟩:∃j2,j2=scanDown pD D i2 j:=⟨_,rfl⟩;have u1:=scanUp_spec pU D j _ i rfl;rw[←hi2]at u1;have u2:=scanDown_spec pD D i2 j;rw[←hj2]at u2;have u3:i≤i2∧i2≤j+1:=⟨u1.1,u1.2.1 g2⟩;have u4:j2≤j∧i2≤j2+1:=⟨u2.1,u2.2.1 u3.2⟩;apply af
   ·rw[bq];refine au (fun s:Nat=>i≤s∧s≤j+1∧scanUp pU D j s=i2) (fun s=>⟨[(0,.own 999),(1,.pv (.int .i64 (a:Int))),(10,.pv (.int .i64 (s:Int))),(11,.pv (.int .i64 (j:Int)))],[(999,.arr 22 (rA D))]⟩) (fun s=>j+1-s) [] i (by refine⟨?_,?_,?_⟩<;>first|omega|exact hi2.symm) ?_ ?_;·simp
    ·rintro s ⟨l1,l2,l3⟩;by_cases hc:s≤j
     ·have ws:IntKind.i64.wrap ((s:Int)+1)=((s+1:Nat):Int):=by rw[wrap_i64 (by omega)];omega
      have c1:(s:Int)≤(j:Int):=by omega
      have q1:s<D.size:=by omega
      have r1:=bg q1;cases hb:ltInt (gA D s) (gA D a) with|true=>have e:=scanUp_go pU D j s hc (by rw[hpU];exact hb);rw[e]at l3;obtain⟨s',hs'⟩:∃s',s'=s+1:=⟨_,rfl⟩;rw[←hs']at ws l3;simp(config := { maxSteps := 3000000 }) [c1,q1,qa,r1,ra,hb,ws];exact⟨s',⟨by omega,by omega,l3⟩,rfl,by omega⟩|false=>have e:=scanUp_end pU D j s (.inr (by rw[hpU];exact hb));rw[e]at l3;subst l3;simp(config := { maxSteps := 3000000 }) [c1,q1,qa,r1,ra,hb];try exact⟨rfl,rfl⟩
     ·have c1:¬(s:Int)≤(j:Int):=by omega
      have e:=scanUp_end pU D j s (.inl hc);rw[e]at l3;subst l3;rcases Nat.lt_or_ge s D.size with q1|q1;·have r1:=bg q1;simp(config := { maxSteps := 3000000 }) [c1,q1,qa,r1,ra];try exact⟨rfl,rfl⟩
      ·have r1:=j5 q1;simp(config := { maxSteps := 3000000 }) [c1,qa,r1,ra];try exact⟨rfl,rfl⟩
   apply af
   ·rw[bq];refine au (fun s:Nat=>i2≤s+1∧s≤j∧scanDown pD D i2 s=j2) (fun s=>⟨[(0,.own 999),(1,.pv (.int .i64 (a:Int))),(10,.pv (.int .i64 (i2:Int))),(11,.pv (.int .i64 (s:Int)))],[(999,.arr 22 (rA D))]⟩) (fun s=>s) [] j (by refine⟨?_,?_,?_⟩<;>first|omega|exact hj2.symm) ?_ ?_;·simp
    ·rintro s ⟨l1,l2,l3⟩;by_cases hc:i2≤s
     ·have ws:IntKind.i64.wrap ((s:Int)-1)=((s-1:Nat):Int):=by rw[wrap_i64 (by omega)];omega
      have c1:(i2:Int)≤(s:Int):=by omega
      have q1:s<D.size:=by omega
      have r1:=bg q1;cases hb:(!ltInt (gA D s) (gA D a)) with|true=>have e:=scanDown_go pD D i2 s hc (by omega) (by rw[hpD];exact hb);rw[e]at l3;obtain⟨s',hs'⟩:∃s',s'=s-1:=⟨_,rfl⟩;rw[←hs']at ws l3;simp(config := { maxSteps := 3000000 }) [c1,q1,qa,r1,ra,hb,ws];exact⟨s',⟨by omega,by omega,l3⟩,rfl,by omega⟩|false=>have e:=scanDown_end pD D i2 s (.inr (by rw[hpD];exact hb));rw[e]at l3;subst l3;simp(config := { maxSteps := 3000000 }) [c1,q1,qa,r1,ra,hb];try exact⟨rfl,rfl⟩
     ·have c1:¬(i2:Int)≤(s:Int):=by omega
      have e:=scanDown_end pD D i2 s (.inl hc);rw[e]at l3;subst l3;rcases Nat.lt_or_ge s D.size with q1|q1;·have r1:=bg q1;simp(config := { maxSteps := 3000000 }) [c1,q1,qa,r1,ra];try exact⟨rfl,rfl⟩
      ·have r1:=j5 q1;simp(config := { maxSteps := 3000000 }) [c1,qa,r1,ra];try exact⟨rfl,rfl⟩
   have z2:j2<D.size:=by omega
   have r2:=bg z2;by_cases hgt:i2>j2
   ·have k1:(j2:Int)<(i2:Int):=by omega
    have e:=part_first_break ltInt d a b c hi hj hDD (by rw[hi2,hpU]) (by rw[hj2,hpD]) hgt;rw[hW]at e;subst e;have r3:=bg (d:=D.setIfInBounds j2 (gA D a)) (i:=a) (by rw[Array.size_setIfInBounds];omega);simp(config := { maxSteps := 3000000 }) [k1,qa,z2,ra,r2,r3];rfl
   ·have k1:¬(j2:Int)<(i2:Int):=by omega
    have e:=part_first_go ltInt d a b c hi hj hDD (by rw[hi2,hpU]) (by rw[hj2,hpD]) hgt;rw[hW]at e;have lt2:=part_scans_lt ltInt a i j D (by omega) (i2:=i2) (j2:=j2) (by rw[hi2,hpU]) (by rw[hj2,hpD]) (by omega);obtain⟨V,hV⟩:∃V,V=partLoop ltInt a (i2+1) (j2-1) (swp D i2 j2):=⟨_,rfl⟩;rw[←hV]at e;subst e;obtain⟨i3,hi3⟩:∃i3,i3=i2+1:=⟨_,rfl⟩;obtain⟨j3,hj3⟩:∃j3,j3=j2-1:=⟨_,rfl⟩;rw[←hi3,←hj3]at hV;have z1:i2<D.size:=by omega
    have r1:=bg z1;have r3:=bg (d:=D.setIfInBounds i2 (gA D j2)) (i:=j2) (by rw[Array.size_setIfInBounds];omega);have v1:IntKind.i64.wrap ((i2:Int)+1)=(i3:Int):=by rw[wrap_i64 (by omega)];omega
    have v2:IntKind.i64.wrap ((j2:Int)-1)=(j3:Int):=by rw[wrap_i64 (by omega)];omega
    apply af;·simp(config := { maxSteps := 3000000 }) [k1];exact⟨rfl,rfl⟩
    apply af;·simp(config := { maxSteps := 3000000 }) [z1,z2,r1,r2,r3];exact⟨rfl,rfl⟩
    rw[show(D.setIfInBounds i2 (gA D j2)).setIfInBounds j2 (gA D i2)=swp D i2 j2 from rfl];apply af;·simp(config := { maxSteps := 3000000 }) [v1];exact⟨rfl,rfl⟩
    apply af;·simp(config := { maxSteps := 3000000 }) [v2];exact⟨rfl,rfl⟩
    rw[cF];rw[bq];refine au (fun x:(Nat×Nat)×Array Int=>(a<x.1.1∧x.1.1≤x.1.2+1)∧x.1.2<b∧x.2.size=d.size∧V=partLoop ltInt a x.1.1 x.1.2 x.2) (fun x=>⟨[(0,.own 999),(1,.pv (.int .i64 (a:Int))),(10,.pv (.int .i64 (x.1.1:Int))),(11,.pv (.int .i64 (x.1.2:Int)))],[(999,.arr 22 (rA x.2))]⟩) (fun x=>x.1.2) [] ((i3,j3),swp D i2 j2) ⟨⟨by show a<i3;omega,by show i3≤j3+1;omega⟩,by show j3<b;omega,by rw[size_swp,g4],hV⟩ ?_ ?_;·simp
    ·clear hV hi2 hj2 u1 u2 u3 u4 hi hj hi3 hj3 v1 v2 r1 r2 r3 z1 z2 k1 hgt lt2 w1 w2 g1 g2 g3 q1 q2 hDD g4 qa ra hpU hpD hW i2 j2 pU pD;clear D;rintro⟨⟨i,j⟩,D⟩ ⟨⟨g1,g2⟩,g3,g4,g5⟩;have g1:a<i:=g1;have g2:i≤j+1:=g2;have g3:j<b:=g3;have g4:D.size=d.size:=g4;have g5:V=partLoop ltInt a i j D:=g5;have qa:a<D.size:=by omega
     have ra:=bg qa;obtain⟨pU,hpU⟩:∃pU:Int→Bool,pU=fun x=>ltInt x D[a]!:=⟨_,rfl⟩;obtain⟨pD,hpD⟩:∃pD:Int→Bool,pD=fun x=>!ltInt x D[a]!:=⟨_,rfl⟩;obtain⟨i2,hi2⟩:∃i2,i2=scanUp pU D j i:=⟨_,rfl⟩;obtain⟨j2,hj2⟩:∃j2,j2=scanDown pD D i2 j:=⟨_,rfl⟩;have u1:=scanUp_spec pU D j _ i rfl;rw[←hi2]at u1;have u2:=scanDown_spec pD D i2 j;rw[←hj2]at u2;have u3:i≤i2∧i2≤j+1:=⟨u1.1,u1.2.1 g2⟩;have u4:j2≤j∧i2≤j2+1:=⟨u2.1,u2.2.1 u3.2⟩;rw[rR];dsimp only;rw[bq];apply af
     ·rw[bq];refine au (fun s:Nat=>i≤s∧s≤j+1∧scanUp pU D j s=i2) (fun s=>⟨[(0,.own 999),(1,.pv (.int .i64 (a:Int))),(10,.pv (.int .i64 (s:Int))),(11,.pv (.int .i64 (j:Int)))],[(999,.arr 22 (rA D))]⟩) (fun s=>j+1-s) [] i (by refine⟨?_,?_,?_⟩<;>first|omega|exact hi2.symm) ?_ ?_;·simp
      ·rintro s ⟨l1,l2,l3⟩;by_cases hc:s≤j
       ·have ws:IntKind.i64.wrap ((s:Int)+1)=((s+1:Nat):Int):=by rw[wrap_i64 (by omega)];omega
        have c1:(s:Int)≤(j:Int):=by omega
        have q1:s<D.size:=by omega
        have r1:=bg q1;cases hb:ltInt (gA D s) (gA D a) with|true=>have e:=scanUp_go pU D j s hc (by rw[hpU];exact hb);rw[e]at l3;obtain⟨s',hs'⟩:∃s',s'=s+1:=⟨_,rfl⟩;rw[←hs']at ws l3;simp(config := { maxSteps := 3000000 }) [c1,q1,qa,r1,ra,hb,ws];exact⟨s',⟨by omega,by omega,l3⟩,rfl,by omega⟩|false=>have e:=scanUp_end pU D j s (.inr (by rw[hpU];exact hb));rw[e]at l3;subst l3;simp(config := { maxSteps := 3000000 }) [c1,q1,qa,r1,ra,hb];try exact⟨rfl,rfl⟩
       ·have c1:¬(s:Int)≤(j:Int):=by omega
        have e:=scanUp_end pU D j s (.inl hc);rw[e]at l3;subst l3;rcases Nat.lt_or_ge s D.size with q1|q1;·have r1:=bg q1;simp(config := { maxSteps := 3000000 }) [c1,q1,qa,r1,ra];try exact⟨rfl,rfl⟩
        ·have r1:=j5 q1;simp(config := { maxSteps := 3000000 }) [c1,qa,r1,ra];try exact⟨rfl,rfl⟩
     apply af
     ·rw[bq];refine au (fun s:Nat=>i2≤s+1∧s≤j∧scanDown pD D i2 s=j2) (fun s=>⟨[(0,.own 999),(1,.pv (.int .i64 (a:Int))),(10,.pv (.int .i64 (i2:Int))),(11,.pv (.int .i64 (s:Int)))],[(999,.arr 22 (rA D))]⟩) (fun s=>s) [] j (by refine⟨?_,?_,?_⟩<;>first|omega|exact hj2.symm) ?_ ?_;·simp
      ·rintro s ⟨l1,l2,l3⟩;by_cases hc:i2≤s
       ·have ws:IntKind.i64.wrap ((s:Int)-1)=((s-1:Nat):Int):=by rw[wrap_i64 (by omega)];omega
        have c1:(i2:Int)≤(s:Int):=by omega
        have q1:s<D.size:=by omega
        have r1:=bg q1;cases hb:(!ltInt (gA D s) (gA D a)) with|true=>have e:=scanDown_go pD D i2 s hc (by omega) (by rw[hpD];exact hb);rw[e]at l3;obtain⟨s',hs'⟩:∃s',s'=s-1:=⟨_,rfl⟩;rw[←hs']at ws l3;simp(config := { maxSteps := 3000000 }) [c1,q1,qa,r1,ra,hb,ws];exact⟨s',⟨by omega,by omega,l3⟩,rfl,by omega⟩|false=>have e:=scanDown_end pD D i2 s (.inr (by rw[hpD];exact hb));rw[e]at l3;subst l3;simp(config := { maxSteps := 3000000 }) [c1,q1,qa,r1,ra,hb];try exact⟨rfl,rfl⟩
       ·have c1:¬(i2:Int)≤(s:Int):=by omega
        have e:=scanDown_end pD D i2 s (.inl hc);rw[e]at l3;subst l3;rcases Nat.lt_or_ge s D.size with q1|q1;·have r1:=bg q1;simp(config := { maxSteps := 3000000 }) [c1,q1,qa,r1,ra];try exact⟨rfl,rfl⟩
        ·have r1:=j5 q1;simp(config := { maxSteps := 3000000 }) [c1,qa,r1,ra];try exact⟨rfl,rfl⟩
     have z2:j2<D.size:=by omega
     have r2:=bg z2;by_cases hgt:i2>j2
     ·have k1:(j2:Int)<(i2:Int):=by omega
      have e:=part_break ltInt a i j D (i2:=i2) (j2:=j2) (by rw[hi2,hpU]) (by rw[hj2,hpD]) hgt;rw[←g5]at e;have e1:(j2:Int)=(V.1:Int):=by rw[e]
      have e2:rA (swp D j2 a)=rA (swp V.2 V.1 a):=by rw[e]
      have r3:=bg (d:=D.setIfInBounds j2 (gA D a)) (i:=a) (by rw[Array.size_setIfInBounds];omega);simp(config := { maxSteps := 3000000 }) [k1,qa,z2,ra,r2,r3];exact⟨e1,e2⟩
     ·have k1:¬(j2:Int)<(i2:Int):=by omega
      have e:=part_go ltInt a i j D (i2:=i2) (j2:=j2) (by rw[hi2,hpU]) (by rw[hj2,hpD]) hgt;rw[e]at g5;have lt2:=part_scans_lt ltInt a i j D (by omega) (i2:=i2) (j2:=j2) (by rw[hi2,hpU]) (by rw[hj2,hpD]) (by omega);have z1:i2<D.size:=by omega
      have r1:=bg z1;have r3:=bg (d:=D.setIfInBounds i2 (gA D j2)) (i:=j2) (by rw[Array.size_setIfInBounds];omega);have v1:IntKind.i64.wrap ((i2:Int)+1)=(i2:Int)+1:=wrap_i64 (by omega);obtain⟨j3,hj3⟩:∃j3,j3=j2-1:=⟨_,rfl⟩;have v2:IntKind.i64.wrap ((j2:Int)-1)=(j3:Int):=by rw[wrap_i64 (by omega)];omega
      rw[←hj3]at g5;apply af;·simp(config := { maxSteps := 3000000 }) [k1];exact⟨rfl,rfl⟩
      apply af;·simp(config := { maxSteps := 3000000 }) [z1,z2,r1,r2,r3];exact⟨rfl,rfl⟩
      simp(config := { maxSteps := 3000000 }) [v1,v2];exact⟨i2+1,j3,swp D i2 j2,⟨⟨by omega,by omega⟩,by omega,by rw[size_swp,g4],g5⟩,⟨⟨by omega,rfl⟩,rfl⟩,by omega⟩
  ·cases h
 ·cases h
noncomputable def JJ:List AV→Option (Prop×AV)|[.aL [.fr e a],.pv (.int .i64 p),.pv (.int .i64 q)]=>if e=22 then(dec dm a).map fun l=>((0≤p∧p<q)∧q≤(l.length:Int)∧l.length<50,.bA 0 [.pv (.bool (partialInsertionSort ltInt l.toArray p.toNat q.toNat).2),.fr 22 (rA (partialInsertionSort ltInt l.toArray p.toNat q.toNat).1)]) else none|_=>none
@[simp] theorem V2 (e:TypeId) (d:Array Int) (p q:Int):JJ [.aL [.fr e (rA d)],.pv (.int .i64 p),.pv (.int .i64 q)]=if e=22 then some ((0≤p∧p<q)∧q≤(d.size:Int)∧d.size<50,.bA 0 [.pv (.bool (partialInsertionSort ltInt d p.toNat q.toNat).2),.fr 22 (rA (partialInsertionSort ltInt d p.toNat q.toNat).1)]) else none:=by show(if e=22 then(dec dm (rA d)).map _ else none)=_;rw[gG];simp
theorem yM {d:Array Int}{a b:Nat} (h:b-a<50):partialInsertionSort ltInt d a b=(d,decide (scanSorted ltInt d b (a+1)=b)):=by
 unfold partialInsertionSort partialIns;by_cases hs:scanSorted ltInt d b (a+1)=b;·simp only[if_pos hs,decide_eq_true hs]
 ·simp only[if_neg hs,if_pos h,decide_eq_false hs]
theorem KY (d:Array Int) (b:Nat):∀(n i:Nat),b-i=n→i≤b→scanSorted ltInt d b i≤b:=by intro n;induction n with|zero=>intro i h1 h2;rw[scanSorted_stop ltInt d b i (.inl (by omega))];exact h2|succ n ih=>intro i h1 h2;cases hl:ltInt d[i]! d[i-1]! with|true=>rw[scanSorted_stop ltInt d b i (.inr hl)];exact h2|false=>rw[scanSorted_go ltInt d b i (by omega) hl];exact ih (i+1) (by omega) (by omega)
theorem Qw:dH Tryz.prog 154 JJ:=by
 intro ys φ r h hφ;unfold JJ at h;split at h
 ·rename_i e ra p q;split at h
  ·rename_i he;subst he;obtain⟨l,hl,h⟩:=Option.map_eq_some_iff.1 h;cases h;obtain⟨D,rfl,rfl⟩:=kR hl;obtain⟨⟨h1,h2⟩,h3,h5⟩:=hφ;rw[Array.length_toList]at h3 h5;obtain⟨a,rfl⟩:∃a:Nat,p=a:=⟨p.toNat,by omega⟩;obtain⟨b,rfl⟩:∃a:Nat,q=a:=⟨q.toNat,by omega⟩;rw[Int.toNat_natCast,Int.toNat_natCast,Array.toArray_toList,yM (by omega)];obtain⟨i0,hi0⟩:∃i0,i0=a+1:=⟨_,rfl⟩;obtain⟨i2,hi2⟩:∃i2,i2=scanSorted ltInt D b i0:=⟨_,rfl⟩;have le2:i2≤b:=by rw[hi2];exact KY D b _ i0 rfl (by omega)
   rw[←hi0,←hi2];have w1:IntKind.i64.wrap ((a:Int)+1)=(i0:Int):=by rw[wrap_i64 (by omega)];omega
   have w2:IntKind.i64.wrap ((b:Int)-(a:Int))=(b:Int)-(a:Int):=wrap_i64 (by omega);refine cq (ah mw aj) (by kernel_rfl) fn154 (by simp) rfl (by simp) ?_;unfold body154;apply af;·simp(config := { maxSteps := 3000000 });exact⟨rfl,rfl⟩
   apply af;·simp(config := { maxSteps := 3000000 }) [w1];exact⟨rfl,rfl⟩
   rw[cF];apply af;·simp(config := { maxSteps := 3000000 });exact⟨rfl,rfl⟩
   rw[bq];refine au (fun _:Unit=>True) (fun _=>⟨[(0,.own 999),(1,.pv (.int .i64 (a:Int))),(2,.pv (.int .i64 (b:Int))),(6,.pv (.bool false)),(7,.pv (.int .i64 (i0:Int))),(8,.pv (.int .i64 0))],[(999,.arr 22 (rA D))]⟩) (fun _=>0) [] () trivial ?_ ?_;·simp
   ·intro _ _;apply af;·simp(config := { maxSteps := 3000000 });exact⟨rfl,rfl⟩
    rw[cF];rw[bq];apply af
    ·rw[bq];refine au (fun s:Nat=>i0≤s∧s≤b∧scanSorted ltInt D b s=i2) (fun s=>⟨[(0,.own 999),(1,.pv (.int .i64 (a:Int))),(2,.pv (.int .i64 (b:Int))),(6,.pv (.bool false)),(7,.pv (.int .i64 (s:Int)))],[(999,.arr 22 (rA D))]⟩) (fun s=>b-s) [] i0 ⟨Nat.le_refl _,by omega,hi2.symm⟩ ?_ ?_;·simp
     ·rintro s ⟨l1,l2,l3⟩;obtain⟨t,ht⟩:∃t,s=t+1:=⟨s-1,by omega⟩;have ws:IntKind.i64.wrap ((s:Int)-1)=(t:Int):=by rw[wrap_i64 (by omega)];omega
      have wp:IntKind.i64.wrap ((s:Int)+1)=(s:Int)+1:=wrap_i64 (by omega);have q2:t<D.size:=by omega
      have r2:=bg q2;by_cases hc:s<b
      ·have c1:(s:Int)<(b:Int):=by omega
       have q1:s<D.size:=by omega
       have r1:=bg q1;cases hb:ltInt D[s]! D[s-1]! with|false=>
        rw[scanSorted_go ltInt D b s hc hb]at l3;have hb2:ltInt (gA D s) (gA D t)=false:=by rw[←hb,show t=s-1 by omega];rfl
        simp(config := { maxSteps := 3000000 }) [c1,q1,q2,r1,r2,hb2,ws,wp];exact⟨s+1,⟨by omega,by omega,l3⟩,by omega,by omega⟩|true=>
        rw[scanSorted_stop ltInt D b s (.inr hb)]at l3;have hb2:ltInt (gA D s) (gA D t)=true:=by rw[←hb,show t=s-1 by omega];rfl
        subst l3;simp(config := { maxSteps := 3000000 }) [c1,q1,q2,r1,r2,hb2,ws];exact⟨rfl,rfl⟩
      ·have c1:¬(s:Int)<(b:Int):=by omega
       rw[scanSorted_stop ltInt D b s (.inl hc)]at l3;subst l3;rcases Nat.lt_or_ge s D.size with q1|q1;·have r1:=bg q1;simp(config := { maxSteps := 3000000 }) [c1,q1,q2,r1,r2,ws];try exact⟨rfl,rfl⟩
       ·have r1:=j5 q1;simp(config := { maxSteps := 3000000 }) [c1,q2,r1,r2,ws];try exact⟨rfl,rfl⟩
    by_cases hz:i2=b
    ·have c1:(i2:Int)=(b:Int):=by omega
     simp(config := { maxSteps := 3000000 }) [c1,hz]
    ·have c1:¬(i2:Int)=(b:Int):=by omega
     have c2:(b:Int)-(a:Int)<50:=by omega
     apply af;·simp(config := { maxSteps := 3000000 }) [c1,hz];exact⟨rfl,rfl⟩
     simp(config := { maxSteps := 3000000 }) [c2,w2,hz]
  ·cases h
 ·cases h
theorem vM:SWO ltInt where
 irrefl x:=by unfold ltInt;simp
 trans x y z h1 h2:=by unfold ltInt at*;simp at*;omega
 ntrans x y z h1 h2:=by unfold ltInt at*;simp at*;omega
theorem tN (a b:Nat):∀(n i j:Nat) (d:Array Int),j=n→a<i→i≤j+1→j<b→a<(partEqLoop ltInt a i j d).1∧(partEqLoop ltInt a i j d).1≤b∧(partEqLoop ltInt a i j d).2.size=d.size:=by intro n;induction n using Nat.strongRecOn with|_ n ih=>
 intro i j d hn h1 h2 h3;have u1:=scanUp_spec (fun x=>!ltInt d[a]! x) d j _ i rfl;obtain⟨i2,hi2⟩:∃i2,i2=scanUp (fun x=>!ltInt d[a]! x) d j i:=⟨_,rfl⟩;rw[←hi2]at u1;have u2:=scanDown_spec (fun x=>ltInt d[a]! x) d i2 j;obtain⟨j2,hj2⟩:∃j2,j2=scanDown (fun x=>ltInt d[a]! x) d i2 j:=⟨_,rfl⟩;rw[←hj2]at u2;have u3:i≤i2∧i2≤j+1:=⟨u1.1,u1.2.1 h2⟩;have u4:j2≤j∧i2≤j2+1:=⟨u2.1,u2.2.1 u3.2⟩;by_cases hgt:i2>j2;·rw[partEq_break ltInt a i j d hi2 hj2 hgt];exact⟨by show a<i2;omega,by show i2≤b;omega,rfl⟩
 ·have lt2:=scans_lt ltInt a i j d (by omega) hi2 hj2 (by omega);rw[partEq_go ltInt a i j d hi2 hj2 hgt];have:=ih (j2-1) (by omega) (i2+1) (j2-1) (swp d i2 j2) rfl (by omega) (by omega) (by omega);rw[size_swp]at this;exact this
theorem uk {d:Array Int}{a b c:Nat} (h1:a≤c) (h2:c<b) (h3:b≤d.size):a≤(partition ltInt d a b c).1∧(partition ltInt d a b c).1<b∧(partition ltInt d a b c).2.2.size=d.size:=by obtain⟨x1,x2,x3,_⟩:=partition_holds (lt:=ltInt) vM d a b c h1 h2 h3;exact⟨x1,x2,x3.1⟩
theorem we {D D1 D2:Array Int}{a b lm lm1 pv:Nat}{wb wp:Bool}{c:Nat×Hint}{hint:Hint}{pi:Array Int×Bool} (h12:¬b-a≤12) (hl:¬lm=0) (e1:D1=if(!wb)=true then breakPatterns D a b else D) (e2:lm1=if(!wb)=true then lm-1 else lm) (e3:c=choosePivot ltInt D1 a b) (e4:D2=if c.2=.decreasing then reverseRange D1 a b else D1) (e5:pv=if c.2=.decreasing then(b-1)-(c.1-a) else c.1) (e6:hint=if c.2=.decreasing then Hint.increasing else c.2) (e7:pi=if(wb&&wp&&decide (hint=.increasing))=true then partialInsertionSort ltInt D2 a b else(D2,false)):pdq ltInt D a b lm wb wp=if pi.2=true then pi.1 else if(decide (a>0)&&!ltInt pi.1[a-1]! pi.1[pv]!)=true then(if a<(partitionEqual ltInt pi.1 a b pv).1∧(partitionEqual ltInt pi.1 a b pv).1≤b then pdq ltInt (partitionEqual ltInt pi.1 a b pv).2 (partitionEqual ltInt pi.1 a b pv).1 b lm1 wb wp else(partitionEqual ltInt pi.1 a b pv).2) else(if a≤(partition ltInt pi.1 a b pv).1∧(partition ltInt pi.1 a b pv).1<b then(if(partition ltInt pi.1 a b pv).1-a<b-(partition ltInt pi.1 a b pv).1 then pdq ltInt (pdq ltInt (partition ltInt pi.1 a b pv).2.2 a (partition ltInt pi.1 a b pv).1 lm1 true true) ((partition ltInt pi.1 a b pv).1+1) b lm1 (decide ((partition ltInt pi.1 a b pv).1-a≥(b-a)/8)) (partition ltInt pi.1 a b pv).2.1 else pdq ltInt (pdq ltInt (partition ltInt pi.1 a b pv).2.2 ((partition ltInt pi.1 a b pv).1+1) b lm1 true true) a (partition ltInt pi.1 a b pv).1 lm1 (decide (b-(partition ltInt pi.1 a b pv).1≥(b-a)/8)) (partition ltInt pi.1 a b pv).2.1) else(partition ltInt pi.1 a b pv).2.2):=by subst e1 e2 e3 e4 e5 e6 e7;rw[pdq];dsimp only;rw[if_neg h12,if_neg hl];rfl
theorem DZ {D:Array Int}{a b c:Nat} (h1:a≤c) (h2:c<b):a<(partitionEqual ltInt D a b c).1∧(partitionEqual ltInt D a b c).1≤b∧(partitionEqual ltInt D a b c).2.size=D.size:=by have:=tN a b _ (a+1) (b-1) (swp D a c) rfl (by omega) (by omega) (by omega);rw[size_swp]at this;exact this
theorem wY:∀(n:Nat) (D:Array Int) (a b lm:Nat) (wb wp:Bool),b-a=n→a≤b→b≤D.size→b-a<50→(pdq ltInt D a b lm wb wp).size=D.size:=by intro n;induction n using Nat.strongRecOn with|_ n ih=>
 intro D a b lm wb wp hn h1 h2 h50;by_cases h12:b-a≤12;·rw[pdq,if_pos h12];exact(insertionSort_holds (lt:=ltInt) vM D a b h1 h2).1.1
 by_cases hl:lm=0;·rw[pdq,if_neg h12,if_pos hl];exact(heapSort_holds (lt:=ltInt) vM D a b h1 h2).1.1
 obtain⟨D1,e1⟩:∃D1,D1=if(!wb)=true then breakPatterns D a b else D:=⟨_,rfl⟩;obtain⟨lm1,e2⟩:∃lm1,lm1=if(!wb)=true then lm-1 else lm:=⟨_,rfl⟩;obtain⟨c,e3⟩:∃c,c=choosePivot ltInt D1 a b:=⟨_,rfl⟩;obtain⟨D2,e4⟩:∃D2,D2=if c.2=.decreasing then reverseRange D1 a b else D1:=⟨_,rfl⟩;obtain⟨pv,e5⟩:∃pv,pv=if c.2=.decreasing then(b-1)-(c.1-a) else c.1:=⟨_,rfl⟩;obtain⟨hint,e6⟩:∃hint,hint=if c.2=.decreasing then Hint.increasing else c.2:=⟨_,rfl⟩;obtain⟨pi,e7⟩:∃pi,pi=if(wb&&wp&&decide (hint=.increasing))=true then partialInsertionSort ltInt D2 a b else(D2,false):=⟨_,rfl⟩;rw[we h12 hl e1 e2 e3 e4 e5 e6 e7];have t1:D1.size=D.size:=by
  rw[e1];split;·exact(breakPatterns_holds D a b h1 h2).1
  ·rfl
 have t2:=choosePivot_holds ltInt D1 a b (by omega);rw[←e3]at t2;have t3:D2.size=D.size:=by
  rw[e4];split;·rw[(reverseRange_holds D1 a b h1 (by omega)).1,t1]
  ·exact t1
 have t4:a≤pv∧pv<b:=by rw[e5];split<;>omega
 have t6:pi.1.size=D.size:=by
  rw[e7];split;·rw[yM h50];exact t3
  ·exact t3
 have p1:=DZ (D:=pi.1) t4.1 t4.2;have p2:=uk (d:=pi.1) t4.1 t4.2 (by omega);split;·exact t6
 split;·rw[if_pos ⟨p1.1,p1.2.1⟩,ih _ (by omega) _ _ _ _ _ _ rfl (by omega) (by omega) (by omega)];omega
 ·rw[if_pos ⟨p2.1,p2.2.1⟩];split;·rw[ih _ (by omega) _ _ _ _ _ _ rfl (by omega) (by rw[ih _ (by omega) _ _ _ _ _ _ rfl (by omega) (by omega) (by omega)];omega) (by omega),ih _ (by omega) _ _ _ _ _ _ rfl (by omega) (by omega) (by omega)];omega
  ·rw[ih _ (by omega) _ _ _ _ _ _ rfl (by omega) (by rw[ih _ (by omega) _ _ _ _ _ _ rfl (by omega) (by omega) (by omega)];omega) (by omega),ih _ (by omega) _ _ _ _ _ _ rfl (by omega) (by omega) (by omega)];omega
noncomputable def Vo (N:Nat):List AV→Option (Prop×AV)|[.aL [.fr e a],.pv (.int .i64 p),.pv (.int .i64 q),.pv (.int .i64 m)]=>if e=22∧N≠0 then(dec dm a).map fun l=>((0≤p∧p≤q)∧q-p<(N:Int)∧(q≤(l.length:Int)∧l.length<50)∧0≤m∧m≤1000,.bA 0 [.aL [],.fr 22 (rA (pdq ltInt l.toArray p.toNat q.toNat m.toNat true true))]) else none|_=>none
@[simp] theorem Yk (N:Nat) (e:TypeId) (d:Array Int) (p q m:Int):Vo N [.aL [.fr e (rA d)],.pv (.int .i64 p),.pv (.int .i64 q),.pv (.int .i64 m)]=if e=22∧N≠0 then some ((0≤p∧p≤q)∧q-p<(N:Int)∧(q≤(d.size:Int)∧d.size<50)∧0≤m∧m≤1000,.bA 0 [.aL [],.fr 22 (rA (pdq ltInt d p.toNat q.toNat m.toNat true true))]) else none:=by show(if e=22∧N≠0 then(dec dm (rA d)).map _ else none)=_;rw[gG];simp
theorem U2:∀N,dH Tryz.prog 147 (Vo N)
 |0=>by
  intro ys φ r h hφ;unfold Vo at h;split at h;·rw[if_neg (by simp)]at h;cases h
  ·cases h|N+1=>by
  have hrec:=U2 N;intro ys φ r h hφ;unfold Vo at h;split at h
  ·rename_i e ra p q m;split at h
   ·rename_i he;obtain⟨rfl,_⟩:=he;obtain⟨l,hl,h⟩:=Option.map_eq_some_iff.1 h;cases h;obtain⟨d,rfl,rfl⟩:=kR hl;obtain⟨⟨h1,h2⟩,h3,⟨h4,h5⟩,h6,h7⟩:=hφ;rw[Array.length_toList]at h4 h5;obtain⟨a,rfl⟩:∃a:Nat,p=a:=⟨p.toNat,by omega⟩;obtain⟨b,rfl⟩:∃a:Nat,q=a:=⟨q.toNat,by omega⟩;obtain⟨lm,rfl⟩:∃a:Nat,m=a:=⟨m.toNat,by omega⟩;rw[Int.toNat_natCast,Int.toNat_natCast,Int.toNat_natCast,Array.toArray_toList];generalize hW:pdq ltInt d a b lm true true=W;refine cq (bp (ks:=[2,0,0,0]) hrec (by kernel_rfl) (bp (ks:=[2,0,0]) J5 (by kernel_rfl) (bp (ks:=[2,0,0]) LA (by kernel_rfl) (bp (ks:=[2,0,0]) SA (by kernel_rfl) (ah To (bp (ks:=[2,0,0]) SC (by kernel_rfl) (bp (ks:=[2,0,0]) Qw (by kernel_rfl) (ah mw (bp (ks:=[2,0,0,0]) TZ (by kernel_rfl) (bp (ks:=[2,0,0,0]) Ui (by kernel_rfl) aj)))))))))) (by kernel_rfl) fn147 (by simp) rfl (by simp) ?_;unfold body147;apply af;·simp(config := { maxSteps := 3000000 });exact⟨rfl,rfl⟩
    apply af;·simp(config := { maxSteps := 3000000 });exact⟨rfl,rfl⟩
    rw[bq];refine au (fun x:((Nat×Nat)×Nat)×(Bool×Bool)×Array Int=>(x.1.1.1≤x.1.1.2∧x.1.1.2≤d.size)∧x.1.1.2-x.1.1.1<N+1∧x.1.2≤1000∧x.2.2.size=d.size∧pdq ltInt x.2.2 x.1.1.1 x.1.1.2 x.1.2 x.2.1.1 x.2.1.2=W) (fun x=>⟨[(0,.own 999),(1,.pv (.int .i64 (x.1.1.1:Int))),(2,.pv (.int .i64 (x.1.1.2:Int))),(3,.pv (.int .i64 (x.1.2:Int))),(8,.pv (.bool x.2.1.1)),(9,.pv (.bool x.2.1.2))],[(999,.arr 22 (rA x.2.2))]⟩) (fun x=>x.1.1.2-x.1.1.1) [] (((a,b),lm),(true,true),d) ⟨⟨by show a≤b;omega,by show b≤d.size;omega⟩,by show b-a<N+1;omega,by show lm≤1000;omega,rfl,hW⟩ ?_ ?_;·simp
    ·rintro⟨⟨⟨a,b⟩,lm⟩,⟨wb,wp⟩,D⟩ ⟨⟨g1,g2⟩,g3,g4,g5,g6⟩;have g1:a≤b:=g1;have g2:b≤d.size:=g2;have g3:b-a<N+1:=g3;have g4:lm≤1000:=g4;have g5:D.size=d.size:=g5;have g6:pdq ltInt D a b lm wb wp=W:=g6;obtain⟨n,hn⟩:∃n,n=b-a:=⟨_,rfl⟩;have w0:IntKind.i64.wrap ((b:Int)-(a:Int))=(n:Int):=by rw[wrap_i64 (by omega)];omega
     have s1:(a:Int)≤(b:Int):=by omega
     have s2:(b:Int)≤(D.size:Int):=by omega
     have s3:D.size≤1000000:=by omega
     have s4:D.size≤200:=by omega
     have s5:D.size<50:=by omega
     rw[rR];dsimp only;rw[bq];apply af;·simp(config := { maxSteps := 3000000 }) [w0];exact⟨rfl,rfl⟩
     by_cases h12:b-a≤12
     ·have hx:pdq ltInt D a b lm wb wp=insertionSort ltInt D a b:=by rw[pdq,if_pos h12]
      rw[hx]at g6;have c12:(n:Int)≤12:=by omega
      subst g6;simp(config := { maxSteps := 3000000 }) [c12,s1,s2,s3]
     have c12:¬(n:Int)≤12:=by omega
     apply af;·simp(config := { maxSteps := 3000000 }) [c12];exact⟨rfl,rfl⟩
     by_cases hl0:lm=0
     ·have hx:pdq ltInt D a b lm wb wp=heapSort ltInt D a b:=by rw[pdq,if_neg h12,if_pos hl0]
      rw[hx]at g6;subst g6;subst hl0;simp(config := { maxSteps := 3000000 }) [s1,s2,s3]
     have cl0:¬(lm:Int)=0:=by omega
     apply af;·simp(config := { maxSteps := 3000000 }) [cl0,hl0];exact⟨rfl,rfl⟩
     obtain⟨D1,e1⟩:∃D1,D1=if(!wb)=true then breakPatterns D a b else D:=⟨_,rfl⟩;obtain⟨lm1,e2⟩:∃lm1,lm1=if(!wb)=true then lm-1 else lm:=⟨_,rfl⟩;obtain⟨c,e3⟩:∃c,c=choosePivot ltInt D1 a b:=⟨_,rfl⟩;obtain⟨D2,e4⟩:∃D2,D2=if c.2=.decreasing then reverseRange D1 a b else D1:=⟨_,rfl⟩;obtain⟨pv,e5⟩:∃pv,pv=if c.2=.decreasing then(b-1)-(c.1-a) else c.1:=⟨_,rfl⟩;obtain⟨hint,e6⟩:∃hint,hint=if c.2=.decreasing then Hint.increasing else c.2:=⟨_,rfl⟩;obtain⟨pi,e7⟩:∃pi,pi=if(wb&&wp&&decide (hint=.increasing))=true then partialInsertionSort ltInt D2 a b else(D2,false):=⟨_,rfl⟩;rw[we h12 hl0 e1 e2 e3 e4 e5 e6 e7]at g6;have t1:D1.size=D.size:=by
      rw[e1];split;·exact(breakPatterns_holds D a b g1 (by omega)).1
      ·rfl
     have t2:=choosePivot_holds ltInt D1 a b (by omega);rw[←e3]at t2;have t3:D2.size=D.size:=by
      rw[e4];split;·rw[(reverseRange_holds D1 a b g1 (by omega)).1,t1]
      ·exact t1
     have t4:a≤pv∧pv<b:=by rw[e5];split<;>omega
     have t5:lm1≤lm:=by rw[e2];split<;>omega
     have v1:IntKind.i64.wrap ((lm:Int)-1)=((lm-1:Nat):Int):=by rw[wrap_i64 (by omega)];omega
     apply gT (fun st'=>∃x:AV,st'=⟨look [(0,.own 999),(1,.pv (.int .i64 (a:Int))),(2,.pv (.int .i64 (b:Int))),(3,.pv (.int .i64 (lm1:Int))),(8,.pv (.bool wb)),(9,.pv (.bool wp)),(10,.pv (.int .i64 (n:Int))),(11,.ar),(12,.ar),(13,.ar),(14,.ar),(15,.ar),(16,.ar),(17,.ar),(18,.ar),(23,.pv (.bool false)),(29,.pv (.bool false)),(35,x),(50,.ar),(68,.ar),(72,.ar),(87,.ar),(113,.ar)],ab [(999,.arr 22 (rA D1))]⟩);·cases wb with|true=>have e1:D1=D:=e1;have e2:lm1=lm:=e2;rw[e1,e2];simp(config := { maxSteps := 3000000 });exact⟨_,rfl⟩|false=>have e1:D1=breakPatterns D a b:=e1;have e2:lm1=lm-1:=e2;rw[e1,e2];simp(config := { maxSteps := 3000000 }) [s1,s2,s4,v1];exact⟨_,rfl⟩
     rintro st' ⟨x35,rfl⟩;have s2a:(b:Int)≤(D1.size:Int):=by omega
     have s3a:D1.size≤1000000:=by omega
     apply af;·simp(config := { maxSteps := 3000000 }) [s1,s2a,s3a,←e3];exact⟨rfl,rfl⟩
     apply gT (fun st'=>∃x:AV,st'=⟨look [(0,.own 999),(1,.pv (.int .i64 (a:Int))),(2,.pv (.int .i64 (b:Int))),(3,.pv (.int .i64 (lm1:Int))),(8,.pv (.bool wb)),(9,.pv (.bool wp)),(10,.pv (.int .i64 (n:Int))),(11,.pv (.int .i64 (pv:Int))),(12,.pv (.int .i64 (eJ hint))),(13,.ar),(14,.ar),(15,.ar),(16,.ar),(17,.ar),(18,.ar),(23,.pv (.bool false)),(29,.pv (.bool false)),(35,x35),(50,x),(68,.ar),(72,.ar),(87,.ar),(113,.ar)],ab [(999,.arr 22 (rA D2))]⟩)
     ·by_cases hd:c.2=.decreasing
      ·rw[if_pos hd]at e4 e5 e6;have k1:eJ c.2=2:=by rw[hd];rfl
       have k2:eJ hint=1:=by rw[e6];rfl
       have v2:IntKind.i64.wrap ((b:Int)-1)=(b:Int)-1:=wrap_i64 (by omega);have v3:IntKind.i64.wrap ((c.1:Int)-(a:Int))=(c.1:Int)-(a:Int):=wrap_i64 (by omega);have v4:IntKind.i64.wrap ((b:Int)-1-((c.1:Int)-(a:Int)))=(pv:Int):=by rw[wrap_i64 (by omega)];omega
       rw[k1,k2];simp(config := { maxSteps := 3000000 }) [s1,s2a,s3a,v2,v3,v4,←e4];exact⟨_,rfl⟩
      ·rw[if_neg hd]at e4 e5 e6;have k1:¬eJ c.2=2:=by revert hd;cases c.2<;>simp[eJ]
       rw[e4,e5,e6];simp(config := { maxSteps := 3000000 }) [k1];exact⟨_,rfl⟩
     rintro st' ⟨x50,rfl⟩;have s2b:(b:Int)≤(D2.size:Int):=by omega
     have s5b:D2.size<50:=by omega
     have s1b:(a:Int)<(b:Int):=by omega
     have t6:pi.1.size=D.size:=by
      rw[e7];split;·rw[yM (by omega)];exact t3
      ·exact t3
     apply gT (fun st'=>pi.2=false∧∃x y:AV,st'=⟨look [(0,.own 999),(1,.pv (.int .i64 (a:Int))),(2,.pv (.int .i64 (b:Int))),(3,.pv (.int .i64 (lm1:Int))),(8,.pv (.bool wb)),(9,.pv (.bool wp)),(10,.pv (.int .i64 (n:Int))),(11,.pv (.int .i64 (pv:Int))),(12,.pv (.int .i64 (eJ hint))),(13,.ar),(14,.ar),(15,.ar),(16,.ar),(17,.ar),(18,.ar),(23,.pv (.bool false)),(29,.pv (.bool false)),(35,x35),(50,x50),(68,x),(72,y),(87,.ar),(113,.ar)],ab [(999,.arr 22 (rA pi.1))]⟩);·cases hb:(wb&&wp&&decide (hint=.increasing)) with
      |true=>
       rw[hb,if_pos rfl]at e7;simp only[Bool.and_eq_true,decide_eq_true_eq]at hb;obtain⟨⟨rfl,rfl⟩,hh⟩:=hb;have k2:eJ hint=1:=by rw[hh];rfl
       rw[k2];apply af;·simp(config := { maxSteps := 3000000 });exact⟨rfl,rfl⟩
       apply kO rfl;apply af;·simp(config := { maxSteps := 3000000 }) [s1b,s2b,s5b,←e7];exact⟨rfl,rfl⟩
       cases hp:pi.2 with|true=>rw[hp,if_pos rfl]at g6;simp(config := { maxSteps := 3000000 }) [g6]|false=>simp(config := { maxSteps := 3000000 });exact⟨_,_,rfl⟩
      |false=>rw[hb,if_neg (by simp)]at e7;rw[e7];refine ed (fun _ h=>⟨rfl,h⟩) (fun _ _ h=>h) ?_;cases wb with|false=>simp(config := { maxSteps := 3000000 });exact⟨_,_,rfl⟩|true=>cases wp with|false=>simp(config := { maxSteps := 3000000 });exact⟨_,_,rfl⟩|true=>
        have k1:¬eJ hint=1:=by revert hb;cases hint<;>simp[eJ]
        simp(config := { maxSteps := 3000000 }) [k1];exact⟨_,_,rfl⟩
     rintro st' ⟨hp,x68,x72,rfl⟩;rw[hp,if_neg (by simp)]at g6;obtain⟨D3,e8⟩:∃D3,D3=pi.1:=⟨_,rfl⟩;rw[←e8]at g6 t6 ⊢;obtain⟨u,hu⟩:∃u,u=a-1:=⟨_,rfl⟩;have q1:pv<D3.size:=by omega
     have q2:u<D3.size:=by omega
     have r1:=bg q1;have r2:=bg q2;have s2c:(b:Int)≤(D3.size:Int):=by omega
     have s3c:D3.size≤1000000:=by omega
     have s6:(a:Int)≤(pv:Int):=by omega
     have s7:(pv:Int)<(b:Int):=by omega
     rw[←hu]at g6;cases hc:decide (a>0)&&!ltInt D3[u]! D3[pv]! with|true=>
      rw[hc,if_pos rfl]at g6;simp only[Bool.and_eq_true,decide_eq_true_eq,Bool.not_eq_true']at hc;obtain⟨ha0,hl1⟩:=hc;have hl2:ltInt (gA D3 u) (gA D3 pv)=false:=hl1;have c1:0<a:=ha0;have v2:IntKind.i64.wrap ((a:Int)-1)=(u:Int):=by rw[wrap_i64 (by omega)];omega
      obtain⟨E,hE⟩:∃E,E=partitionEqual ltInt D3 a b pv:=⟨_,rfl⟩;have hr:=tN a b _ (a+1) (b-1) (swp D3 a pv) rfl (by omega) (by omega) (by omega);rw[show partEqLoop ltInt a (a+1) (b-1) (swp D3 a pv)=E from hE.symm,size_swp]at hr;rw[←hE,if_pos ⟨hr.1,hr.2.1⟩]at g6;rw[cF]
      ·apply af;·simp(config := { maxSteps := 3000000 }) [c1,v2,q1,q2,r1,r2,hl2];exact⟨rfl,rfl⟩
       apply kO rfl;apply af;·simp(config := { maxSteps := 3000000 }) [s6,s7,s1,s2c,s3c,←hE];exact⟨rfl,rfl⟩
       apply af;·simp(config := { maxSteps := 3000000 });exact⟨rfl,rfl⟩
       rw[DR];simp only[mL,if_true];refine⟨(((E.1,b),lm1),(wb,wp),E.2),⟨⟨by show E.1≤b;omega,by show b≤d.size;omega⟩,by show b-E.1<N+1;omega,by show lm1≤1000;omega,by show E.2.size=d.size;omega,g6⟩,?_,by show b-E.1<b-a;omega⟩;simp|false=>
      rw[hc,if_neg (by simp)]at g6;obtain⟨E,hE⟩:∃E,E=partition ltInt D3 a b pv:=⟨_,rfl⟩;have hr:=uk (d:=D3) (a:=a) (b:=b) (c:=pv) (by omega) (by omega) (by omega);rw[←hE]at hr g6;rw[if_pos ⟨hr.1,hr.2.1⟩]at g6;apply gT (fun st'=>∃x:AV,st'=⟨look [(0,.own 999),(1,.pv (.int .i64 (a:Int))),(2,.pv (.int .i64 (b:Int))),(3,.pv (.int .i64 (lm1:Int))),(8,.pv (.bool wb)),(9,.pv (.bool wp)),(10,.pv (.int .i64 (n:Int))),(11,.pv (.int .i64 (pv:Int))),(12,.pv (.int .i64 (eJ hint))),(13,.ar),(14,.ar),(15,.ar),(16,.ar),(17,.ar),(18,.ar),(23,.pv (.bool false)),(29,.pv (.bool false)),(35,x35),(50,x50),(68,x68),(72,x72),(87,x),(113,.ar)],ab [(999,.arr 22 (rA D3))]⟩)
      ·rcases Nat.eq_zero_or_pos a with ha0|ha0
       ·have c1:¬0<a:=by omega
        have v2:IntKind.i64.wrap ((a:Int)-1)=-1:=by rw[ha0];decide
        have r0:rowAt (rA D3) (-1)=[.int .u64 (gA D3 0)]:=bg (d:=D3) (i:=0) (by omega);simp(config := { maxSteps := 3000000 }) [c1,v2,q1,r1,r0];exact⟨_,rfl⟩
       ·have hl1:ltInt D3[u]! D3[pv]! =true:=by cases hl:ltInt D3[u]! D3[pv]! with|true=>rfl|false=>rw[hl]at hc;simp at hc;omega
        have hl2:ltInt (gA D3 u) (gA D3 pv)=true:=hl1;have c1:0<a:=ha0;have v2:IntKind.i64.wrap ((a:Int)-1)=(u:Int):=by rw[wrap_i64 (by omega)];omega
        simp(config := { maxSteps := 3000000 }) [c1,v2,q1,q2,r1,r2,hl2];exact⟨_,rfl⟩
      rintro st' ⟨x87,rfl⟩;obtain⟨m1,hm1⟩:∃m1,m1=E.1-a:=⟨_,rfl⟩;obtain⟨m2,hm2⟩:∃m2,m2=b-E.1:=⟨_,rfl⟩;obtain⟨n8,hn8⟩:∃n8,n8=(b-a)/8:=⟨_,rfl⟩;rw[←hm1,←hm2,←hn8]at g6;have y1:IntKind.i64.wrap ((E.1:Int)-(a:Int))=(m1:Int):=by rw[wrap_i64 (by omega)];omega
      have y2:IntKind.i64.wrap ((b:Int)-(E.1:Int))=(m2:Int):=by rw[wrap_i64 (by omega)];omega
      have y3:(n:Int).tdiv 8=(n8:Int):=by rw[Int.tdiv_eq_ediv_of_nonneg (by omega)];omega
      have y4:IntKind.i64.wrap (n8:Int)=(n8:Int):=wrap_i64 (by omega);have y5:IntKind.i64.wrap ((E.1:Int)+1)=((E.1+1:Nat):Int):=by rw[wrap_i64 (by omega)];omega
      have N0:N≠0:=by omega
      apply af;·simp(config := { maxSteps := 3000000 }) [s6,s7,s1,s2c,s3c,←hE];exact⟨rfl,rfl⟩
      apply af;·simp(config := { maxSteps := 3000000 });exact⟨rfl,rfl⟩
      apply af;·simp(config := { maxSteps := 3000000 }) [y1,y2];exact⟨rfl,rfl⟩
      apply af;·simp(config := { maxSteps := 3000000 }) [y3,y4];exact⟨rfl,rfl⟩
      obtain⟨G,hG⟩:∃G,G=E.2.2:=⟨_,rfl⟩;obtain⟨k,hk⟩:∃k,k=E.1:=⟨_,rfl⟩;rw[←hG,←hk]at g6 hr;rw[←hG,←hk];rw[←hk]at y5 hm1 hm2;by_cases hlt:m1<m2
      ·rw[if_pos hlt]at g6;apply af;·simp(config := { maxSteps := 3000000 }) [hlt];exact⟨rfl,rfl⟩
       apply kO rfl;apply af;·simp(config := { maxSteps := 3000000 });exact⟨rfl,rfl⟩
       obtain⟨P,hP⟩:∃P,P=pdq ltInt G a k lm1 true true:=⟨_,rfl⟩;have zP:P.size=d.size:=by rw[hP,wY _ _ _ _ _ _ _ rfl (by omega) (by omega) (by omega)];omega
       rw[←hP]at g6;have o1:(a:Int)≤(k:Int):=by omega
       have o2:(k:Int)-(a:Int)<(N:Int):=by omega
       have o3:(k:Int)≤(G.size:Int):=by omega
       have o4:G.size<50:=by omega
       have o5:(lm1:Int)≤1000:=by omega
       apply af;·simp(config := { maxSteps := 3000000 }) [N0,o1,o2,o3,o4,o5,←hP];exact⟨rfl,rfl⟩
       apply CG;·simp(config := { maxSteps := 3000000 }) [y5];exact⟨rfl,rfl⟩
       refine⟨(((k+1,b),lm1),(decide (m1≥n8),E.2.1),P),⟨⟨by show k+1≤b;omega,by show b≤d.size;omega⟩,by show b-(k+1)<N+1;omega,by show lm1≤1000;omega,zP,g6⟩,?_,by show b-(k+1)<b-a;omega⟩;simp
      ·rw[if_neg hlt]at g6;have hge:m2≤m1:=by omega
       apply af;·simp(config := { maxSteps := 3000000 }) [hlt];exact⟨rfl,rfl⟩
       apply K5 rfl;apply af;·simp(config := { maxSteps := 3000000 });exact⟨rfl,rfl⟩
       obtain⟨k1,hk1⟩:∃k1,k1=k+1:=⟨_,rfl⟩;rw[←hk1]at g6 y5;obtain⟨P,hP⟩:∃P,P=pdq ltInt G k1 b lm1 true true:=⟨_,rfl⟩;have zP:P.size=d.size:=by rw[hP,wY _ _ _ _ _ _ _ rfl (by omega) (by omega) (by omega)];omega
       rw[←hP]at g6;have o1:(k1:Int)≤(b:Int):=by omega
       have o2:(b:Int)-(k1:Int)<(N:Int):=by omega
       have o3:(b:Int)≤(G.size:Int):=by omega
       have o4:G.size<50:=by omega
       have o5:(lm1:Int)≤1000:=by omega
       apply af;·simp(config := { maxSteps := 3000000 }) [N0,o1,o2,o3,o4,o5,y5,←hP];exact⟨rfl,rfl⟩
       apply CG;·simp(config := { maxSteps := 3000000 });exact⟨rfl,rfl⟩
       refine⟨(((a,k),lm1),(decide (m2≥n8),E.2.1),P),⟨⟨by show a≤k;omega,by show k≤d.size;omega⟩,by show k-a<N+1;omega,by show lm1≤1000;omega,zP,g6⟩,?_,by show k-a<b-a;omega⟩;simp
   ·cases h
  ·cases h
theorem EG (l:List Int):(Go.Sort.sort ltInt l.toArray).toList=vy l:=sortInt_holds (sort_holds (pdq_holds insertionSort_holds heapSort_holds partialInsertionSort_holds (partition_holds _) (partitionEqual_holds _) reverseRange_holds)) l
@[simp] noncomputable def ZT:List AV→Option (Prop×AV)|[.aL [.fr e a]]=>if e=22 then(dec dm a).map fun l=>(l.length<50,.bA 0 [.aL [],.fr 22 (bH (vy l))]) else none|_=>none
theorem F1:dH Tryz.prog 140 ZT:=by
 intro ys φ r h hφ;unfold ZT at h;split at h
 ·rename_i e ra;split at h
  ·rename_i he;subst he;obtain⟨l,hl,h⟩:=Option.map_eq_some_iff.1 h;cases h;cases cO hl;have hφ:l.length<50:=hφ;have hx:bH (vy l)=rA (pdq ltInt l.toArray 0 l.length (bitsLen l.length) true true):=by rw[←EG];unfold Go.Sort.sort rA;simp
   rw[hx,wj];have h8:=(ly l.length (by omega)).2;obtain⟨d,hd⟩:∃d,d=l.toArray:=⟨_,rfl⟩;have hds:d.size=l.length:=by rw[hd];simp
   rw[←hd,←hds];rw[←hds]at h8 hφ;obtain⟨m,hm⟩:∃m,m=bitsLen d.size:=⟨_,rfl⟩;rw[←hm]at h8 ⊢;have w1:IntKind.u64.wrap (d.size:Int)=(d.size:Int):=wrap_u64 (by omega);have w2:(d.size:Int)<256:=by omega
   have w3:(m:Int)≤1000:=by omega
   refine cq (ah HA (bp (ks:=[2,0,0,0]) (U2 50) (by kernel_rfl) aj)) (by kernel_rfl) fn140 (by simp) rfl (by simp) ?_;unfold body140;simp(config := { maxSteps := 3000000 }) [w1,w2,w3,hφ,←hm];omega
  ·cases h
 ·cases h
end Go.Proofs.YtlmkcmfmfahcfaaGreat.Ab
namespace Go.Proofs.YtlmkcmfmfahcfaaGreat.Ab
open Go Go.RowKit R
@[simp] noncomputable def ZK:List AV→Option (Prop×AV)|[.agg [.pv (.ro a)]]=>(dec rowP a).map fun l=>(l.length<50,.fr 22 (bH (ur (l.map Pn.v))))|_=>none
theorem YA:aV Tryz.prog 121 ZK:=by
 intro ys φ r h hφ;unfold ZK at h;split at h
 ·rename_i ra;obtain⟨a,ha,h⟩:=Option.map_eq_some_iff.1 h;cases h;cases aJ ha;have hl5:a.length<50:=hφ;refine ax (bp (ks:=[2]) F1 (by kernel_rfl) (gv (p:=0) (k:=998) RK (by kernel_rfl) aj)) (by kernel_rfl) fn121 (by simp) ?_;unfold body121;simp(config := { maxSteps := 3000000 });refine au (fun i:Nat=>i≤a.length) (fun i=>⟨[(3,.own 3),(7,.pv (.ro (aC a))),(8,.pv (.int .i64 a.length)),(9,.pv (.int .i64 i))],[(3,.arr 22 (bH ((a.take i).map Pn.v)))]⟩) (fun i=>a.length-i) [] 0 (by simp) ?_ ?_;·simp
  ·intro i hi;have w2:IntKind.i64.wrap ((i:Int)+1)=(i:Int)+1:=wrap_i64 (by omega);by_cases hlt:i<a.length
   ·have r1:=cL hlt;have hll:((a.take i).map Pn.v).length=i:=by simp;omega
    have htk:(a.take (i+1)).map Pn.v=(a.take i).map Pn.v++[a[i].v]:=by rw[List.take_succ_eq_append_getElem hlt,List.map_append];rfl
    simp(config := { maxSteps := 3000000 }) [w2,hlt,r1,aI];refine⟨⟨by omega,by omega⟩,i+1,by omega,⟨by omega,by have:=congrArg bH htk;rw[jG,List.map_take,List.map_take]at this;exact this.symm⟩,by omega⟩
   ·have hia:i=a.length:=by omega
    subst hia;have hsl:(vy (a.map Pn.v)).length≤1000000:=by simp[vy];omega
    have hml:(a.map Pn.v).length<50:=by simp;omega
    simp(config := { maxSteps := 3000000 }) [hsl,hml,hl5];rfl
 ·cases h
def Kq:List AV→Option (Prop×AV)|[]=>some (True,.pv (.bool true))|_=>none
@[simp] theorem L4:Kq []=some (True,.pv (.bool true)):=rfl
def fI (l:List Vn) (v:Vn):List Vn×Int:=if bD l=false∨v.fO=true∨v.n=0∨(0<l.length∧v.n≤Ar l) then([],2) else if cM v≠0∧(jX l (cM v)).isSome=false then([],150) else(l++[v],0)
@[simp] noncomputable def Sg (e:TypeId):List AV→Option (Prop×AV)|[.pv (.ro a),.agg [.pv (.int .u64 n),.pv (.int .u64 b),.pv (.int .u64 p),.pv (.int .u64 i),.pv (.int .u64 s),.pv (.int .u64 z),.pv (.int .u64 m),.pv (.str t),.pv (.bool inl),.pv (.bool fO)]]=>(dec cQ a).map fun l=>(l.length≤100000∧(∀v∈l,iq v)∧iq ⟨n,b,p,i,s,z,m,t,inl,fO⟩,.aL [.fr e (aF (fI l ⟨n,b,p,i,s,z,m,t,inl,fO⟩).1),.pv (.int .i64 (fI l ⟨n,b,p,i,s,z,m,t,inl,fO⟩).2)])|_=>none
theorem Js:aV Tryz.prog 116 (Sg 73):=by
 intro ys φ r h hφ;unfold Sg at h;split at h
 ·rename_i ra n b p i s z m t inl fO;obtain⟨a,ha,h⟩:=Option.map_eq_some_iff.1 h;cases h;cases aG ha;obtain⟨hl5,hov,hvv⟩:=hφ;have hl9:a.length≤1000000000:=by omega
  have hl6:a.length≤1000000:=by omega
  have fl:∀l,bV (aF l):=aO;have hbv:(if inl=true then 0 else b)=cM ⟨n,b,p,i,s,z,m,t,inl,fO⟩:=rfl;refine ax (ah CS (ah zm (ah K8 (ah DT aj)))) (by kernel_rfl) fn116 (by simp) ?_;unfold body116;by_cases h0:0<a.length
  ·have w1:IntKind.i64.wrap ((a.length:Int)-1)=(a.length:Int)-1:=wrap_i64 (by omega);have hlt:a.length-1<a.length:=by omega
   have r1:=bB hlt;rw[show((a.length-1:Nat):Int)=(a.length:Int)-1 from by omega]at r1;have hln:a[a.length-1].n=Ar a:=by unfold Ar;rw[List.getLast?_eq_getElem?,List.getElem?_eq_getElem hlt];rfl
   rw[hln]at r1;have b1:1≤(a.length:Int):=by omega
   have b2:(a.length:Int)-1<a.length:=by omega
   cases hr:bD a with|false=>
    have hi:fI a ⟨n,b,p,i,s,z,m,t,inl,fO⟩=([],2):=by simp[fI,hr]
    simp(config := { maxSteps := 3000000 }) [hl9,hl6,hr,hi,fl,w1,r1,h0,b1,b2]|true=>cases fO with
   |true=>
    have hi:fI a ⟨n,b,p,i,s,z,m,t,inl,true⟩=([],2):=by simp[fI,hr]
    simp(config := { maxSteps := 3000000 }) [hl9,hl6,hr,hi,fl,w1,r1,h0,b1,b2]|false=>
   by_cases hn:n=0
   ·have hi:fI a ⟨n,b,p,i,s,z,m,t,inl,false⟩=([],2):=by simp[fI,hr,hn]
    simp(config := { maxSteps := 3000000 }) [hl9,hl6,hr,hi,fl,w1,r1,h0,b1,b2,hn];try(rw[←hn];simp[hi])
   by_cases hle:n≤Ar a
   ·have hi:fI a ⟨n,b,p,i,s,z,m,t,inl,false⟩=([],2):=by simp[fI,hr,hn,hle,h0]
    simp(config := { maxSteps := 3000000 }) [hl9,hl6,hr,hi,fl,w1,r1,h0,b1,b2,hn,hle]
   by_cases hb:cM ⟨n,b,p,i,s,z,m,t,inl,false⟩=0
   ·have hi:fI a ⟨n,b,p,i,s,z,m,t,inl,false⟩=(a++[⟨n,b,p,i,s,z,m,t,inl,false⟩],0):=by simp[fI,hr,hn,hle,h0,hb]
    simp(config := { maxSteps := 3000000 }) [hl9,hl6,hr,fl,w1,r1,h0,b1,b2,hn,hle,hbv,cK,hb,hi,aI];exact⟨⟨by omega,by omega⟩,by rw[c7];rfl⟩
   ·cases hg:(jX a (cM ⟨n,b,p,i,s,z,m,t,inl,false⟩)).isSome with|false=>
     have hi:fI a ⟨n,b,p,i,s,z,m,t,inl,false⟩=([],150):=by simp[fI,hr,hn,hle,h0,hb,hg]
     simp(config := { maxSteps := 3000000 }) [hl9,hl6,hr,fl,w1,r1,h0,b1,b2,hn,hle,hbv,cK,hb,hi,hg]|true=>
     have hi:fI a ⟨n,b,p,i,s,z,m,t,inl,false⟩=(a++[⟨n,b,p,i,s,z,m,t,inl,false⟩],0):=by simp[fI,hr,hn,hle,h0,hb,hg]
     simp(config := { maxSteps := 3000000 }) [hl9,hl6,hr,fl,w1,r1,h0,b1,b2,hn,hle,hbv,cK,hb,hi,hg,aI];exact⟨⟨by omega,by omega⟩,by rw[c7];rfl⟩
  ·have:a=[]:=List.eq_nil_of_length_eq_zero (by omega);subst this;have hr:bD []=true:=rfl;have r0:∀k:Int,rowAt [] k=[]:=fun k=>by simp[rowAt]
   have hd0:dec cQ []=some []:=BJ [];have hg0:∀q,jX [] q=none:=fun q=>rfl;have f0:bV []:=aO [];cases fO with
   |true=>
    have hi:fI [] ⟨n,b,p,i,s,z,m,t,inl,true⟩=([],2):=by simp[fI,hr]
    simp(config := { maxSteps := 3000000 }) [hr,hi,r0,hd0,f0]|false=>
   by_cases hn:n=0
   ·have hi:fI [] ⟨n,b,p,i,s,z,m,t,inl,false⟩=([],2):=by simp[fI,hr,hn]
    simp(config := { maxSteps := 3000000 }) [hr,hi,r0,hd0,f0,hn];try(rw[←hn];simp[hi])
   by_cases hb:cM ⟨n,b,p,i,s,z,m,t,inl,false⟩=0
   ·have hi:fI [] ⟨n,b,p,i,s,z,m,t,inl,false⟩=([⟨n,b,p,i,s,z,m,t,inl,false⟩],0):=by simp[fI,hr,hn,hb]
    simp(config := { maxSteps := 3000000 }) [hr,hi,r0,hd0,f0,hg0,hn,hb,hbv,aI,v0,cK];rfl
   ·have hi:fI [] ⟨n,b,p,i,s,z,m,t,inl,false⟩=([],150):=by simp[fI,hr,hn,hb,hg0]
    simp(config := { maxSteps := 3000000 }) [hr,hi,r0,hd0,f0,hg0,hn,hb,hbv,v0,cK]
 ·cases h
def YI (l:List Vn) (ts:List (List UInt8)):List Vn:=List.zipWith (fun(v:Vn) t=>dA v.n t) l ts
def kT (l:List Vn) (ts:List (List UInt8)):List Vn×Int:=if bD l=false∨ts.length≠(bh l).length then([],2) else(YI (bh l) ts,0)
@[simp] noncomputable def aaa (e:TypeId):List AV→Option (Prop×AV)|[.pv (.ro a),.pv (.ro ts)]=>(dec cQ a).bind fun l=>(dec CY ts).map fun ts=>(l.length≤100000∧(∀v∈l,iq v),.aL [.fr e (aF (kT l ts).1),.pv (.int .i64 (kT l ts).2)])|_=>none
def DI (l m:List Vn) (i:Nat):Prop:=m.length=l.length∧∀k (h:k<m.length) (h':k<l.length) (h'':l.length-1-k<l.length),(k<i∨l.length-i≤k→m[k]=l[l.length-1-k])∧(i≤k∧k<l.length-i→m[k]=l[k])
theorem BN (l:List Vn):DI l l 0:=⟨rfl,fun k h h' h''=>⟨fun h1=>by omega,fun _=>rfl⟩⟩
theorem Cy {l m:List Vn}{i:Nat} (h:DI l m i) (hi:l.length≤2*i+1):m=l.reverse:=by
 obtain⟨hl,hk⟩:=h;apply List.ext_getElem;·simp[hl]
 ·intro k h1 h2;rw[List.getElem_reverse];have h3:=hk k h1 (by omega) (by omega);by_cases hc:k<i∨l.length-i≤k;·exact h3.1 hc
  ·have:=h3.2 (by omega);rw[this];congr 1;omega
theorem BM {l m:List Vn}{i:Nat} (h:DI l m i) (hi:2*i+1<l.length) (h1:i<m.length) (h2:l.length-1-i<m.length):DI l ((m.set i m[l.length-1-i]).set (l.length-1-i) m[i]) (i+1):=by
 obtain⟨hl,hk⟩:=h;refine⟨by simp[hl],fun k h3 h4 h5=>?_⟩;have ha:=(hk i h1 (by omega) (by omega)).2 (by omega);have hb:=(hk (l.length-1-i) h2 (by omega) (by omega)).2 (by omega);simp only[List.getElem_set];constructor
 ·intro hc;by_cases e1:l.length-1-i=k;·rw[if_pos e1,ha];congr 1;omega
  ·rw[if_neg e1];by_cases e2:i=k;·subst e2;rw[if_pos rfl,hb]
   ·rw[if_neg e2];exact(hk k (by omega) h4 h5).1 (by omega)
 ·intro hc;rw[if_neg (by omega),if_neg (by omega)];exact(hk k (by omega) h4 h5).2 (by omega)
@[simp] noncomputable def P4:List AV→Option (Prop×AV)|[.aL [.fr e a]]=>if e=73 then(dec cQ a).map fun l=>(l.length≤1000000,.bA 0 [.aL [],.fr 73 (aF l.reverse)]) else none|_=>none
theorem Rf:sd Tryz.prog 146 P4:=by
 intro ys φ r h hφ;unfold P4 at h;split at h
 ·rename_i e ra;split at h
  ·rename_i hef;subst hef;obtain⟨a,ha,h⟩:=Option.map_eq_some_iff.1 h;cases h;cases aG ha;have w0:IntKind.i64.wrap ((a.length:Int)-1)=(a.length:Int)-1:=wrap_i64 (by omega);refine lu aj (by kernel_rfl) fn146 (by simp) (by simp[cH,kl,ij]) (by simp) ?_;unfold body146;simp(config := { maxSteps := 3000000 }) [w0];refine au (fun x:Nat×List Vn=>DI a x.2 x.1∧2*x.1≤a.length+1) (fun x=>⟨[(0,.own 999),(2,.pv (.int .i64 x.1)),(3,.pv (.int .i64 ((a.length:Int)-1-x.1)))],[(999,.arr 73 (aF x.2))]⟩) (fun x=>a.length-x.1) [] (0,a) ⟨BN a,by simp⟩ ?_ ?_;·simp
   ·rintro⟨i,m⟩ ⟨hm,h2⟩;dsimp only at hm h2;have hml:=hm.1;have w1:IntKind.i64.wrap ((i:Int)+1)=(i:Int)+1:=wrap_i64 (by omega);have w2:IntKind.i64.wrap ((a.length:Int)-1-i-1)=(a.length:Int)-1-i-1:=wrap_i64 (by omega);by_cases hlt:(i:Int)<(a.length:Int)-1-i
    ·have hi:i<m.length:=by omega
     have hj:a.length-1-i<m.length:=by omega
     have hst:=BM hm (by omega) hi hj;have r1:=bB hi;have r2:=bB hj;have hc:((a.length-1-i:Nat):Int)=(a.length:Int)-1-i:=by omega
     rw[hc]at r2;have b1:0≤(a.length:Int)-1-i:=by omega
     have b2:(a.length:Int)-1-i<m.length:=by omega
     have b3:(i:Int)≤(a.length:Int)-1:=by omega
     have r3:rowAt ((aF m).set i [.int .u64 m[a.length-1-i].n,.int .u64 m[a.length-1-i].b,.int .u64 m[a.length-1-i].p,.int .u64 m[a.length-1-i].i,.int .u64 m[a.length-1-i].s,.int .u64 m[a.length-1-i].z,.int .u64 m[a.length-1-i].m,.str m[a.length-1-i].t,.bool m[a.length-1-i].inl,.bool m[a.length-1-i].fO]) ((a.length:Int)-1-i)=[.int .u64 m[a.length-1-i].n,.int .u64 m[a.length-1-i].b,.int .u64 m[a.length-1-i].p,.int .u64 m[a.length-1-i].i,.int .u64 m[a.length-1-i].s,.int .u64 m[a.length-1-i].z,.int .u64 m[a.length-1-i].m,.str m[a.length-1-i].t,.bool m[a.length-1-i].inl,.bool m[a.length-1-i].fO]:=by rw[←r2];unfold rowAt;rw[show((a.length:Int)-1-i).toNat=a.length-1-i from by omega,List.getD_eq_getElem?_getD,List.getD_eq_getElem?_getD,List.getElem?_set_ne (by omega)]
     have hrows:((aF m).set i (cQ m[a.length-1-i])).set (a.length-1-i) (cQ m[i])=aF ((m.set i m[a.length-1-i]).set (a.length-1-i) m[i]):=by simp only[aF,List.map_set]
     simp only[cQ]at hrows;simp(config := { maxSteps := 3000000 }) [w1,w2,hlt,r1,r2,hi,b1,b2,b3,r3];exact⟨i+1,_,⟨hst,by omega⟩,⟨⟨by omega,by omega⟩,hrows⟩,by omega⟩
    ·have he:=Cy hm (by omega);simp(config := { maxSteps := 3000000 }) [hlt,he]
  ·cases h
 ·cases h
def DP (l:List Vn) (i:Nat):Vn:=(l[i]?).getD v0
theorem kJ {l:List Vn}{i:Nat} (h:i<l.length):DP l i=l[i]:=by unfold DP;rw[List.getElem?_eq_getElem h];rfl
def eW (l:List Vn):Nat→Nat→List Vn|0,i=>[DP l i]|f+1,i=>if cM (DP l i)=0 then[DP l i] else eW l f (sM l (cM (DP l i))).toNat++[DP l i]
def fB (l:List Vn) (n:Int):List Vn×Int:=if bD l=false then([],2) else match jX l n with|none=>([],150)|some v=>(eW l l.length (sM l v.n).toNat,0)
theorem FH {l:List Vn} (hr:bD l=true) {i:Nat} (h:i<l.length) (hb:cM l[i]≠0):∃j,∃hj:j<i,sM l (cM l[i])=(j:Int)∧l[j].n=cM l[i]:=by
 have hok:=(gY l).1 hr i h;unfold im at hok;rw[List.getElem?_eq_getElem h]at hok;simp only[Option.getD_some,Bool.and_eq_true,Bool.or_eq_true,decide_eq_true_eq]at hok;have h0:=hok.2.resolve_left hb;rcases nZ (l.take i) (cM l[i]) with⟨j,hj,h1,h2,h3⟩|⟨h1,_⟩
 ·rw[List.length_take]at hj;have hji:j<i:=by omega
  have hjl:j<l.length:=by omega
  rw[List.getElem_take]at h2;refine⟨j,hji,vK hjl h2 fun v hv=>h3 v ?_,h2⟩;rwa[List.take_take,Nat.min_eq_left (by omega)]
 ·omega
theorem CI {l:List Vn} (hr:bD l=true) {i j:Nat} (hi:i<l.length) (hj:j<l.length) (h:l[i].n=l[j].n):i=j:=by
 rcases Nat.lt_trichotomy i j with hlt|he|hlt
 ·have h1:=mq hr (i:=i) (j-1-i) (by omega);have e1:i+(j-1-i)=j-1:=by omega
  simp only[e1]at h1;have h2:=mD hr (i:=j-1) (by omega);have e2:j-1+1=j:=by omega
  simp only[e2]at h2;omega
 ·exact he
 ·have h1:=mq hr (i:=j) (i-1-j) (by omega);have e1:j+(i-1-j)=i-1:=by omega
  simp only[e1]at h1;have h2:=mD hr (i:=i-1) (by omega);have e2:i-1+1=i:=by omega
  simp only[e2]at h2;omega
theorem uR {l:List Vn} (hr:bD l=true) {i:Nat} (h:i<l.length):sM l l[i].n=i:=by
 rcases nZ l l[i].n with⟨j,hj,h1,h2,_⟩|⟨_,h2⟩;·rw[h1,CI hr hj h h2]
 ·exact absurd rfl (h2 l[i] (List.getElem_mem h))
theorem get_at {l:List Vn}{n:Int}{v:Vn} (h:jX l n=some v):∃i,∃h:i<l.length,v=l[i]∧v.n=n:=by unfold jX at h;have h1:=List.mem_of_find?_eq_some h;have h2:=List.find?_some h;obtain⟨i,hi,rfl⟩:=List.getElem_of_mem (List.mem_filter.1 h1).1;exact⟨i,hi,rfl,by simpa using h2⟩
@[simp] noncomputable def Ho (e:TypeId):List AV→Option (Prop×AV)|[.pv (.ro a),.pv (.int .u64 n)]=>(dec cQ a).map fun l=>(l.length≤100000∧(∀v∈l,iq v),.aL [.fr e (aF (fB l n).1),.pv (.int .i64 (fB l n).2)])|_=>none
theorem Jm:aV Tryz.prog 137 (Ho 73):=by
 intro ys φ r h hφ;unfold Ho at h;split at h
 ·rename_i ra n;obtain⟨a,ha,h⟩:=Option.map_eq_some_iff.1 h;cases h;cases aG ha;obtain⟨hl5,hov⟩:=hφ;have hl9:a.length≤1000000000:=by omega
  have hl6:a.length≤1000000:=by omega
  have fl:∀l,bV (aF l):=aO;refine ax (ah CS (ah K8 (ah zm (ah IA (gv (p:=0) (k:=999) Rf (by kernel_rfl) aj))))) (by kernel_rfl) fn137 (by simp) ?_;unfold body137;cases hr:bD a with
  |false=>
   have hp:fB a n=([],2):=by simp[fB,hr]
   simp(config := { maxSteps := 3000000 }) [hl9,hr,hp]|true=>cases hg:jX a n with
  |none=>
   have hp:fB a n=([],150):=by simp[fB,hr,hg]
   simp(config := { maxSteps := 3000000 }) [hl9,hl6,hr,hp,hg,cK,v0]|some v=>
  obtain⟨i0,hi0,hv,hvn⟩:=get_at hg;have hp:fB a n=(eW a a.length i0,0):=by simp only[fB,hr,hg];rw[if_neg (by simp),hv,uR hr hi0,Int.toNat_natCast]
  rw[hp];generalize hW:eW a a.length i0=W;apply af;·simp(config := { maxSteps := 3000000 });exact⟨rfl,rfl⟩
  apply af;·simp(config := { maxSteps := 3000000 }) [hl9,hr];exact⟨rfl,rfl⟩
  apply af;·simp(config := { maxSteps := 3000000 }) [hl9,hl6,hg,cK];exact⟨rfl,rfl⟩
  apply af;·simp(config := { maxSteps := 3000000 });exact⟨rfl,rfl⟩
  simp(config := { maxSteps := 3000000 });refine au (fun x:Nat×Nat×List Vn=>x.1<a.length∧x.1≤x.2.1∧x.2.2.length+x.1≤a.length∧W=eW a x.2.1 x.1++x.2.2.reverse) (fun x=>⟨[(0,.pv (.ro (aF a))),(6,.ptr 6 0),(8,.own 8)],[(6,.box (cK (DP a x.1))),(8,.arr 73 (aF x.2.2))]⟩) (fun x=>x.1) [] (i0,a.length,[]) ?_ ?_ ?_;·exact⟨hi0,by show i0≤a.length;omega,by simp;omega,by simp[hW]⟩
  ·simp[cK,kJ hi0,hv]
  ·rintro⟨i,f,o⟩ ⟨hi,hf,hol,hWe⟩;dsimp only at hi hf hol hWe;rw[kJ hi];have hbv:(if a[i].inl=true then 0 else a[i].b)=cM a[i]:=rfl;have hol6:o.length≤100000:=by omega
   have hrow:aF o++[[PV.int .u64 a[i].n,.int .u64 a[i].b,.int .u64 a[i].p,.int .u64 a[i].i,.int .u64 a[i].s,.int .u64 a[i].z,.int .u64 a[i].m,.str a[i].t,.bool a[i].inl,.bool a[i].fO]]=aF (o++[a[i]]):=by rw[c7];rfl
   have b1:(o.length+1)*80≤140737488355328:=by omega
   have b2:o.length≤9223372036854775806:=by omega
   by_cases hb:cM a[i]=0
   ·have hWr:W=(o++[a[i]]).reverse:=by
     have hpl:eW a f i=[a[i]]:=by cases f with|zero=>rw[eW,kJ hi]|succ f=>rw[eW,kJ hi,if_pos hb]
     rw[hWe,hpl];simp
    have hon:o.length+1≤1000000:=by omega
    simp(config := { maxSteps := 3000000 }) [cK,hbv,hb,aI,hrow,b1,b2,fl,hon];rw[hWr,List.reverse_append];rfl
   ·obtain⟨j,hji,hjx,hjn⟩:=FH hr hi hb;have hjl:j<a.length:=by omega
    obtain⟨f,rfl⟩:∃g,f=g+1:=⟨f-1,by omega⟩;have hpl:eW a (f+1) i=eW a f j++[a[i]]:=by rw[eW,kJ hi,if_neg hb,hjx,Int.toNat_natCast]
    have r1:=bB hjl;simp(config := { maxSteps := 3000000 }) [cK,hbv,hb,aI,hrow,b1,b2,hl9,hjx,r1,hjl];refine⟨j,f,o++[a[i]],⟨hjl,by omega,by rw[List.length_append,List.length_singleton];omega,?_⟩,⟨?_,rfl⟩,hji⟩;·rw[hWe,hpl];simp
    ·rw[kJ hjl];exact⟨rfl,rfl,rfl,rfl,rfl,rfl,rfl,rfl,rfl,rfl⟩
 ·cases h
theorem tC {l:List Vn}:∀(f i:Nat),(eW l f i).length≤f+1
 |0,i=>by simp[eW]|f+1,i=>by
  rw[eW];split;·simp
  ·have:=tC (l:=l) f (sM l (cM (DP l i))).toNat;simp only[List.length_append,List.length_singleton];omega
@[simp] noncomputable def Grp (k:Nat):List AV→Option (Prop×AV)|[.pv (.ro a),.agg [.pv (.int .u64 n),.pv (.int .u64 b),.pv (.int .u64 p),.pv (.int .u64 i),.pv (.int .u64 s),.pv (.int .u64 z),.pv (.int .u64 m),.pv (.str t),.pv (.bool inl),.pv (.bool fO)]]=>(dec cQ a).map fun l=>(l.length≤100000∧bD l=true∧(∀v∈l,iq v)∧∃q,q<k∧q<l.length∧DP l q=⟨n,b,p,i,s,z,m,t,inl,fO⟩,.fr 92 (aF (eW l l.length (sM l n).toNat)))|_=>none
def tj (n:Int):List PV:=[.int .u64 n]
theorem DY:∀a b,tj a=tj b→a=b:=by intro a b h;simpa[tj]using h
def kL (l:List Int):List (List PV):=l.map tj
@[simp] theorem MZ:kL []=[]:=rfl
@[simp] theorem GL (l:List Int):(kL l).length=l.length:=by simp[kL]
theorem C9 {l:List Int}{i:Nat} (h:i<l.length):rowAt (kL l) (i:Int)=[.int .u64 l[i]]:=by simp[rowAt,kL,h,tj]
@[simp] theorem OC (l:List Int):dec tj (kL l)=some l:=ni DY l
theorem iJ {rows:List (List PV)}{l:List Int} (h:dec tj rows=some l):rows=kL l:=mP h
def EA (l:List Int) (n:Int):Bool:=decide (n∈l)
theorem Ju {l:List Int}{n:Int}{i:Nat} (h:i<l.length) (hq:l[i]=n):EA l n=true:=by unfold EA;rw[decide_eq_true_eq,←hq];exact List.getElem_mem h
theorem CZ {l:List Int}{n:Int} (h:∀x∈l,¬x=n):EA l n=false:=by unfold EA;rw[decide_eq_false_iff_not];exact fun hn=>h n hn rfl
def Jz (l:List Int) (n:Int):Int:=if EA l n=true then(l.findIdx (fun x=>decide (x=n)):Int) else-1
theorem JS {l:List Int}{n:Int}{i:Nat} (h:i<l.length) (hq:l[i]=n) (ht:∀x∈l.take i,¬x=n):Jz l n=i:=by
 have hf:l.findIdx (fun x=>decide (x=n))=i:=by
  rw[List.findIdx_eq h];refine⟨by simpa using hq,fun j hj=>?_⟩;have:l[j]∈l.take i:=by rw[List.mem_take_iff_getElem];exact⟨j,by omega,rfl⟩
  simpa using ht _ this
 unfold Jz;rw[Ju h hq,if_pos rfl,hf]
theorem Ed {l:List Int}{n:Int} (h:∀x∈l,¬x=n):Jz l n=-1:=by unfold Jz;rw[CZ h,if_neg (by simp)]
theorem KG (l:List Int) (n:Int):decide (0≤Jz l n)=EA l n:=by unfold Jz;cases EA l n<;>simp
@[simp] noncomputable def P0:List AV→Option (Prop×AV)|[.pv (.ro a),.pv (.int .u64 n)]=>(dec tj a).map fun l=>(l.length≤1000000000,.pv (.int .i64 (Jz l n)))|_=>none
theorem UU:aV Tryz.prog 145 P0:=by
 intro ys φ r h hφ;unfold P0 at h;split at h
 ·rename_i ra n;obtain⟨a,ha,h⟩:=Option.map_eq_some_iff.1 h;cases h;cases iJ ha;refine ax aj (by kernel_rfl) fn145 (by simp) ?_;unfold body145;simp(config := { maxSteps := 3000000 });refine au (fun i:Nat=>i≤a.length∧∀x∈a.take i,¬x=n) (fun i=>⟨[(0,.pv (.ro (kL a))),(1,.pv (.int .u64 n)),(7,.pv (.int .i64 a.length)),(8,.pv (.int .i64 i))],[]⟩) (fun i=>a.length-i) [] 0 (by simp) ?_ ?_;·simp
  ·rintro i ⟨hi,ht⟩;have w2:IntKind.i64.wrap ((i:Int)+1)=(i:Int)+1:=wrap_i64 (by omega);by_cases hlt:i<a.length
   ·have r1:=C9 hlt;by_cases hq:a[i]=n;·have hx:=JS hlt hq ht;simp(config := { maxSteps := 3000000 }) [w2,hlt,r1,hq,hx]
    ·have hq':¬n=a[i]:=fun e=>hq e.symm;simp(config := { maxSteps := 3000000 }) [w2,hlt,r1,hq'];refine⟨i+1,⟨by omega,fun x hx=>?_⟩,by omega,by omega⟩;rw[List.take_succ_eq_append_getElem hlt,List.mem_append]at hx;rcases hx with hx|hx;·exact ht x hx
     ·rw[List.mem_singleton]at hx;rw[hx];exact hq
   ·rw[List.take_of_length_le (by omega)]at ht;have hx:=Ed ht;simp(config := { maxSteps := 3000000 }) [hlt,hx]
 ·cases h
@[simp] noncomputable def Rq:List AV→Option (Prop×AV)|[.pv (.ro a),.pv (.int .u64 n)]=>(dec tj a).map fun l=>(l.length≤1000000000,.pv (.bool (EA l n)))|_=>none
theorem SO:aV Tryz.prog 136 Rq:=by
 intro ys φ r h hφ;unfold Rq at h;split at h;·rename_i ra n;obtain⟨a,ha,h⟩:=Option.map_eq_some_iff.1 h;cases h;cases iJ ha;have hq:=KG a n;refine ax (ah UU aj) (by kernel_rfl) fn136 (by simp) ?_;unfold body136;simp(config := { maxSteps := 3000000 }) [hφ,hq]
 ·cases h
def Cm (ks:List PV) (n:Int):Bool:=ks.any (lJ (.int .u64 n))
@[simp] def TE:List AV→Option (Prop×AV)|[.agg [.pv (.int .u64 n),.pv (.int .u64 _),.pv (.int .u64 _),.pv (.int .u64 _),.pv (.int .u64 _),.pv (.int .u64 _),.pv (.int .u64 _),.pv (.str _),.pv (.bool _),.pv (.bool _)],.rp [.mp ks]]=>some ((∀x∈ks,cX x=9),.pv (.bool (!Cm ks n)))|_=>none
theorem GW:aV Tryz.prog 139 TE:=by
 intro ys φ r h hφ;unfold TE at h;split at h;·cases h;refine ax aj (by kernel_rfl) fn139 (by simp) ?_;unfold body139;simp(config := { maxSteps := 3000000 }) [bY];exact⟨hφ,rfl⟩
 ·cases h
theorem AU:fQ Tryz.prog 139=true:=by kernel_rfl
def D5 (p:Vn→Bool) (l:List Vn):Int:=if l.findIdx p<l.length then(l.findIdx p:Int) else-1
theorem IC {p:Vn→Bool}{l:List Vn}{i:Nat} (h:i<l.length) (hq:p l[i]=true) (ht:∀v∈l.take i,p v=false):D5 p l=i:=by
 have hf:l.findIdx p=i:=by
  rw[List.findIdx_eq h];refine⟨hq,fun j hj=>?_⟩;have:l[j]∈l.take i:=by rw[List.mem_take_iff_getElem];exact⟨j,by omega,rfl⟩
  exact ht _ this
 unfold D5;rw[hf,if_pos h]
theorem wT {p:Vn→Bool}{l:List Vn} (ht:∀v∈l,p v=false):D5 p l=-1:=by
 have hf:l.findIdx p=l.length:=by rw[List.findIdx_eq_length];exact ht
 unfold D5;rw[hf,if_neg (by omega)]
theorem E8 (p:Vn→Bool) (l:List Vn):0≤D5 p l↔l.any p=true:=by
 unfold D5;split;·rename_i h;have:=List.findIdx_lt_length.1 h;simp only[List.any_eq_true];exact⟨fun _=>this,fun _=>by omega⟩
 ·rename_i h;rw[List.findIdx_lt_length]at h;simp only[List.any_eq_true];exact⟨fun h'=>by omega,fun h'=>absurd h' h⟩
theorem zq {p:Vn→Bool}{l:List Vn}{k:Nat} (h:D5 p l=(k:Int)):k<l.length∧(l.take (k+1)).filter (fun e=>!p e)=l.take k:=by
 unfold D5 at h;split at h
 ·rename_i hlt;have hk:l.findIdx p=k:=by omega
  rw[hk]at hlt;refine⟨hlt,?_⟩;obtain⟨h1,h2⟩:=(List.findIdx_eq hlt).1 hk;rw[List.take_succ_eq_append_getElem hlt,List.filter_append];have hf:(l.take k).filter (fun e=>!p e)=l.take k:=by rw[List.filter_eq_self];intro e he;rw[List.mem_take_iff_getElem]at he;obtain⟨j,hj,rfl⟩:=he;have:=h2 j (by omega);simpa using this
  rw[hf];simp[h1]
 ·omega
def lG (ks:List PV) (v:Vn):Bool:=!Cm ks v.n
@[simp] noncomputable def Vg:List AV→Option (Prop×AV)|[.pv (.ro a),.bA f [.rp [.mp ks]]]=>if f=139 then(dec cQ a).map fun l=>(l.length≤1000000000∧∀x∈ks,cX x=9,.pv (.int .i64 (D5 (lG ks) l))) else none|_=>none
theorem Qt:aV Tryz.prog 124 Vg:=by
 intro ys φ r h hφ;unfold Vg at h;split at h
 ·rename_i ra f ks;split at h
  ·rename_i hf;subst hf;obtain⟨a,ha,h⟩:=Option.map_eq_some_iff.1 h;cases h;cases aG ha;obtain⟨hφ,hks⟩:=hφ;refine ax (ah GW aj) (by kernel_rfl) fn124 (by simp) ?_;unfold body124;simp(config := { maxSteps := 3000000 });refine au (fun i:Nat=>i≤a.length∧∀v∈a.take i,lG ks v=false) (fun i=>⟨[(0,.pv (.ro (aF a))),(1,.bA 139 [.rp [.mp ks]]),(7,.pv (.int .i64 a.length)),(8,.pv (.int .i64 i))],[]⟩) (fun i=>a.length-i) [] 0 (by simp) ?_ ?_;·simp
   ·rintro i ⟨hi,ht⟩;have w2:IntKind.i64.wrap ((i:Int)+1)=(i:Int)+1:=wrap_i64 (by omega);by_cases hlt:i<a.length
    ·have r1:=bB hlt;have hr:lG ks a[i]=false→∀v∈a.take (i+1),lG ks v=false:=by
      intro h0 e he;rw[List.take_succ_eq_append_getElem hlt,List.mem_append]at he;rcases he with he|he;·exact ht e he
      ·rw[List.mem_singleton]at he;rw[he];exact h0
     simp(config := { maxSteps := 3000000 }) [w2,hlt,r1,AU];refine⟨hks,fun h=>(IC hlt (by simp[lG,h]) ht).symm,fun h=>⟨i+1,⟨by omega,hr (by simp[lG,h])⟩,by omega,by omega⟩⟩
    ·simp(config := { maxSteps := 3000000 }) [hlt];rw[List.take_of_length_le (by omega)]at ht;exact(wT ht).symm
  ·cases h
 ·cases h
theorem oo (l:List Vn) (i:Nat) (e:Vn):(aF l).set i [.int .u64 e.n,.int .u64 e.b,.int .u64 e.p,.int .u64 e.i,.int .u64 e.s,.int .u64 e.z,.int .u64 e.m,.str e.t,.bool e.inl,.bool e.fO]=aF (l.set i e):=by unfold aF;rw[List.map_set];rfl
def NS (ks:List PV) (l:List Vn):List Vn:=l.filter fun v=>!lG ks v
@[simp] noncomputable def H0:List AV→Option (Prop×AV)|[.fr e a,.bA f [.rp [.mp ks]]]=>if e=73∧f=139 then(dec cQ a).map fun l=>(l.length≤1000000∧∀x∈ks,cX x=9,.fr 73 (aF (NS ks l))) else none|_=>none
theorem JR:sd Tryz.prog 138 H0:=by
 intro ys φ r h hφ;unfold H0 at h;split at h
 ·rename_i e ra f ks;split at h
  ·rename_i hef;obtain⟨rfl,rfl⟩:=hef;obtain⟨a,ha,h⟩:=Option.map_eq_some_iff.1 h;cases h;cases aG ha;obtain⟨hl6,hks⟩:=hφ;refine lu (ah Qt (ah GW aj)) (by kernel_rfl) fn138 (by simp) (by simp[cH,kl,ij]) (by simp) ?_;unfold body138;have hl9:a.length≤1000000000:=by omega
   have isfn3:=AU;by_cases hr:a.any (lG ks)=true
   ·have hw:0≤D5 (lG ks) a:=(E8 _ _).2 hr;obtain⟨k,hk⟩:=Int.eq_ofNat_of_zero_le hw;obtain⟨hkl,hkf⟩:=zq hk;have hne:¬((k:Int)=-1):=by omega
    have w1:IntKind.i64.wrap ((k:Int)+1)=(k:Int)+1:=wrap_i64 (by omega);simp(config := { maxSteps := 3000000 }) [hk,hne,w1,hl9];refine⟨hks,?_⟩;refine au (fun x:Nat×Nat×List Vn=>x.1<x.2.1∧x.2.1≤a.length∧x.2.2.length=a.length∧x.2.2.take x.1=(a.take x.2.1).filter (fun e=>!lG ks e)∧x.2.2.drop x.2.1=a.drop x.2.1) (fun x=>⟨[(0,.own 998),(1,.bA 139 [.rp [.mp ks]]),(5,.pv (.int .i64 x.1)),(6,.pv (.int .i64 x.2.1))],[(998,.arr 73 (aF x.2.2))]⟩) (fun x=>a.length-x.2.1) [] (k,k+1,a) ?_ ?_ ?_;·exact⟨by simp,by simp;omega,rfl,by simp[hkf],rfl⟩
    ·simp
    ·rintro⟨i,j,b⟩ ⟨h1,h2,h3,h4,h5⟩;dsimp only at h1 h2 h3 h4 h5;have w2:IntKind.i64.wrap ((j:Int)+1)=(j:Int)+1:=wrap_i64 (by omega);have w3:IntKind.i64.wrap ((i:Int)+1)=(i:Int)+1:=wrap_i64 (by omega);by_cases hlt:j<a.length
     ·have hjb:j<b.length:=by omega
      have hib:i<b.length:=by omega
      have hbj:b[j]=a[j]:=by have e1:=List.drop_eq_getElem_cons hjb;have e2:=List.drop_eq_getElem_cons hlt;rw[h5,e2]at e1;injection e1 with e1 _;exact e1.symm
      have r1:=bB hjb;rw[hbj]at r1;have r2:=bB hib;have hib':(i:Int)<a.length:=by omega
      have hdrop:∀e,(b.set i e).drop (j+1)=a.drop (j+1):=by
       intro e;rw[List.drop_set_of_lt (by omega)];have e1:(b.drop j).drop 1=(a.drop j).drop 1:=by rw[h5]
       simpa[List.drop_drop]using e1
      by_cases hq:lG ks a[j]=true
      ·have hq':Cm ks a[j].n=false:=by simpa[lG]using hq
       simp(config := { maxSteps := 3000000 }) [w2,w3,hlt,hjb,r1,r2,h3,hq',oo,hib',isfn3];refine⟨hks,i,j+1,b,⟨by omega,by omega,h3,?_,?_⟩,⟨⟨rfl,by omega⟩,rfl⟩,by omega⟩;·rw[List.take_succ_eq_append_getElem hlt,List.filter_append,←h4];simp[hq]
       ·have e1:(b.drop j).drop 1=(a.drop j).drop 1:=by rw[h5]
        simpa[List.drop_drop]using e1
      ·have hq0:lG ks a[j]=false:=by simpa using hq
       have hq':Cm ks a[j].n=true:=by simpa[lG]using hq
       simp(config := { maxSteps := 3000000 }) [w2,w3,hlt,hjb,r1,r2,h3,hq',oo,hib',isfn3];refine⟨hks,by omega,i+1,j+1,b.set i a[j],⟨by omega,by omega,by simp[h3],?_,hdrop _⟩,⟨⟨by omega,by omega⟩,rfl⟩,by omega⟩;rw[List.take_succ_eq_append_getElem hlt,List.filter_append,←h4,List.take_succ_eq_append_getElem (by simp;omega)];simp[hq0,List.take_set_of_le]
     ·simp(config := { maxSteps := 3000000 }) [hlt,h3];have hja:j=a.length:=by omega
      subst hja;rw[List.take_length]at h4;have h3r:=oh b;refine⟨⟨by omega,h3r⟩,⟨by omega,?_⟩,?_⟩
      ·rintro x (hx|⟨_,rfl⟩|hx);·exact h3r x (List.mem_of_mem_take hx)
       ·rfl
       ·exact h3r x (List.mem_of_mem_drop hx)
      ·rw[List.take_append_of_le_length (by simp;omega),List.take_take,Nat.min_self];unfold NS;rw[←h4];simp[aF,List.map_take]
   ·have hw:D5 (lG ks) a=-1:=by apply wT;have:=hr;simp only[List.any_eq_true,not_exists,not_and]at this;intro e he;simpa using this e he
    have hfil:NS ks a=a:=by unfold NS;rw[List.filter_eq_self];intro e he;have:=hr;simp only[List.any_eq_true,not_exists,not_and]at this;simpa using this e he
    simp(config := { maxSteps := 3000000 }) [hw,hfil,hl9];exact hks
  ·cases h
 ·cases h
def nW (c:Int) (b8:List Int) (v:Vn):Vn:={v with fO:=v.fO||(!decide (v.n=c)&&!EA b8 v.n)}
def lz (l:List Vn):Int:=((vu l).getD v0).n
def ti (l:List Vn) (b8:List Int):List Vn:=l.map (nW (lz l) b8)
def xI (o:List Vn) (n:Int):Bool:=(List.range o.length).any fun k=>!(DP o k).fO&&(eW o o.length k).any fun w=>decide (w.n=n)
def ln (l:List Vn) (b8:List Int):List Vn:=if bD l=false then[] else(ti l b8).filter fun v=>xI (ti l b8) v.n
theorem F3 {f:Vn→Vn} (hf:∀v,(f v).n=v.n) (l:List Vn) (n:Int):sM (l.map f) n=sM l n:=by
 unfold sM;rw[List.findIdx_map];have:((fun v:Vn=>decide (v.n=n))∘f)=fun v:Vn=>decide (v.n=n):=by funext v;simp[hf]
 rw[this,List.length_map]
theorem Bc {f:Vn→Vn} (hf:∀v,(f v).n=v.n) (hb:∀v,cM (f v)=cM v) (l:List Vn):bD (l.map f)=bD l:=by
 have key:∀i,i<l.length→im (l.map f) i=im l i:=by
  intro i hi;have h1:(l.map f)[i]?=some (f l[i]):=by simp[hi]
  have h2:l[i]?=some l[i]:=List.getElem?_eq_getElem hi;have h3:eX (l.map f) i=eX l i:=by unfold eX;cases i with|zero=>rfl|succ i=>
   have hi':i<l.length:=by omega
   simp[hi',hf]
  unfold im;rw[h1,h2,h3];simp only[Option.getD_some,hf,hb];rw[←List.map_take,F3 hf]
 unfold bD;rw[List.length_map];have:∀l':List Nat,(∀i∈l',i<l.length)→l'.all (im (l.map f))=l'.all (im l):=by intro l';induction l' with|nil=>intro _;rfl|cons x l' ih=>intro h;simp only[List.all_cons];rw[key x (h x (by simp)),ih fun i hi=>h i (by simp[hi])]
 exact this _ fun i hi=>List.mem_range.1 hi
theorem Cg (l:List Vn) (b8:List Int):bD (ti l b8)=bD l:=Bc (f:=nW (lz l) b8) (fun _=>rfl) (fun _=>rfl) l
theorem EH {l:List Vn} (h:∀v∈l,iq v) (b8:List Int):∀v∈ti l b8,iq v:=by intro v hv;obtain⟨w,hw,rfl⟩:=List.mem_map.1 hv;exact h w hw
theorem Dl (l:List Vn) (b8:List Int):(ti l b8).length=l.length:=by simp[ti]
def qW (ns:List Int):List (PV×AV):=ns.map fun n=>(.int .u64 n,.agg [])
def zd (n:Int) (ns:List Int):List Int:=if n∈ns then ns else ns++[n]
theorem xE (n:Int):∀ns:List Int,jZ (.int .u64 n) (.agg []) (qW ns)=qW (zd n ns)
 |[]=>by simp[qW,zd,jZ]|m::ns=>by
  have ih:=xE n ns;unfold qW at ih ⊢;simp only[List.map_cons,jZ,lJ];by_cases h:n=m;·subst h;simp[zd]
  ·have h':decide (n=m)=false:=by simpa using h
   simp only[h',Bool.false_eq_true,if_false,ih];unfold zd;by_cases hn:n∈ns;·simp[hn]
   ·simp[hn,h]
theorem B6 (ns:List Int):iN 9 (qW ns):=by intro e he;obtain⟨n,_,rfl⟩:=List.mem_map.1 he;rfl
theorem BI (ns:List Int):(qW ns).all (fun e=>As e.2)=true:=by rw[List.all_eq_true];intro e he;obtain⟨n,_,rfl⟩:=List.mem_map.1 he;rfl
def ub (ns:List Int):List PV:=ns.map (.int .u64)
theorem Dq (ns:List Int):(qW ns).map (·.1)=ub ns:=by simp[qW,ub]
theorem Ba (ns:List Int):∀x∈ub ns,cX x=9:=by intro x hx;obtain⟨n,_,rfl⟩:=List.mem_map.1 hx;rfl
theorem Cp (ns:List Int) (n:Int):Cm (ub ns) n=decide (n∈ns):=by unfold Cm ub;induction ns with|nil=>simp|cons m ns ih=>simp only[List.map_cons,List.any_cons,ih,lJ,List.mem_cons];by_cases h:n=m<;>simp[h]
theorem Eh (m n:Int) (ns:List Int):m∈zd n ns↔m=n∨m∈ns:=by
 unfold zd;split;·rename_i h;exact⟨.inr,fun h'=>h'.elim (fun e=>e▸h) id⟩
 ·simp only[List.mem_append,List.mem_singleton];exact⟨fun h=>h.elim .inr .inl,fun h=>h.elim .inr .inl⟩
def qD (o:List Vn) (v:Vn):List Int:=(fB o v.n).1.map (·.n)
theorem Df {o:List Vn} (hr:bD o=true) (n:Int):xI o n=true↔∃v∈bh o,n∈qD o v:=by
 unfold xI;simp only[List.any_eq_true,List.mem_range,Bool.and_eq_true,Bool.not_eq_true',decide_eq_true_eq];constructor
 ·rintro⟨k,hk,hh,w,hw,hn⟩;rw[kJ hk]at hh;have hs:o[k]∈bh o:=by unfold bh;simp[hh]
  refine⟨o[k],hs,?_⟩;have hg:∃v,jX o o[k].n=some v:=by unfold jX;cases hf:(bh o).find? fun v=>decide (v.n=o[k].n) with|some v=>exact⟨v,rfl⟩|none=>rw[List.find?_eq_none]at hf;exact absurd (decide_eq_true rfl) (hf _ hs)
  obtain⟨v,hg⟩:=hg;obtain⟨i,hi,hv,hvn⟩:=get_at hg;have hp:fB o o[k].n=(eW o o.length k,0):=by simp only[fB,hr,hg];rw[if_neg (by simp),hvn,uR hr hk,Int.toNat_natCast]
  unfold qD;rw[hp];exact List.mem_map.2 ⟨w,hw,hn⟩
 ·rintro⟨v,hv,hn⟩;have hv':v∈o∧v.fO=false:=by unfold bh at hv;simpa using hv
  obtain⟨k,hk,rfl⟩:=List.getElem_of_mem hv'.1;have hg:∃v,jX o o[k].n=some v:=by unfold jX;cases hf:(bh o).find? fun v=>decide (v.n=o[k].n) with|some v=>exact⟨v,rfl⟩|none=>rw[List.find?_eq_none]at hf;exact absurd (decide_eq_true rfl) (hf _ hv)
  obtain⟨v,hg⟩:=hg;obtain⟨i,hi,hv1,hvn⟩:=get_at hg;have hp:fB o o[k].n=(eW o o.length k,0):=by simp only[fB,hr,hg];rw[if_neg (by simp),hvn,uR hr hk,Int.toNat_natCast]
  unfold qD at hn;rw[hp]at hn;obtain⟨w,hw,hwn⟩:=List.mem_map.1 hn;exact⟨k,hk,by rw[kJ hk];exact hv'.2,w,hw,hwn⟩
theorem BS {o:List Vn} (n:Int):(fB o n).1.length≤o.length+1:=by
 unfold fB;split;·simp
 ·split;·simp
  ·exact tC _ _
def lW (f:Vn→Vn) (a:List Vn) (i:Nat):List Vn:=(a.take i).map f++a.drop i
theorem wy (f:Vn→Vn) (a:List Vn) (i:Nat):(lW f a i).length=a.length:=by simp[lW];omega
theorem CF (f:Vn→Vn) {a:List Vn}{i:Nat} (h:i<a.length):(lW f a i).set i (f a[i])=lW f a (i+1):=by unfold lW;rw[List.set_append,if_neg (by simp;omega)];simp only[List.length_map,List.length_take];rw[Nat.min_eq_left (show i≤a.length by omega),Nat.sub_self,List.drop_eq_getElem_cons h,List.set_cons_zero,List.take_succ_eq_append_getElem h,List.map_append];simp only[List.map_cons,List.map_nil,List.append_assoc,List.cons_append,List.nil_append]
theorem GI (f:Vn→Vn) {a:List Vn}{i:Nat} (h:i<a.length):(lW f a i)[i]'(by rw[wy];exact h)=a[i]:=by unfold lW;rw[List.getElem_append_right (by simp;omega)];simp only[List.length_map,List.length_take,Nat.min_eq_left (show i≤a.length by omega),Nat.sub_self];simp
@[simp] noncomputable def AA (e:TypeId):List AV→Option (Prop×AV)|[.pv (.ro a),.pv (.ro k)]=>(dec cQ a).bind fun l=>(dec tj k).map fun ks=>(l.length≤100000∧ks.length≤1000000∧(∀v∈l,iq v),.fr e (aF (ln l ks)))|_=>none
theorem DQ:aV Tryz.prog 120 (AA 73):=by
 intro ys φ r h hφ;unfold AA at h;split at h
 ·rename_i ra rk;obtain⟨a,ha,h⟩:=Option.bind_eq_some_iff.1 h;obtain⟨ks,hk,h⟩:=Option.map_eq_some_iff.1 h;cases h;cases aG ha;cases iJ hk;obtain⟨hl5,hk6,hov⟩:=hφ;have hl9:a.length≤1000000000:=by omega
  have hl6:a.length≤1000000:=by omega
  have hk9:ks.length≤1000000000:=by omega
  have fl:∀l,bV (aF l):=aO;refine ax (ah CS (ah DT (ah YY (ah SO (ah vP (ah Jm (gv (p:=0) (k:=998) JR (by kernel_rfl) aj))))))) (by kernel_rfl) fn120 (by simp) ?_;unfold body120;cases hr:bD a with
  |false=>
   have hp:ln a ks=[]:=by simp[ln,hr]
   simp(config := { maxSteps := 3000000 }) [hl9,hr,hp]|true=>
  have hp:ln a ks=(ti a ks).filter fun v=>xI (ti a ks) v.n:=by simp[ln,hr]
  rw[hp];have hrO:=(Cg a ks).trans hr;have hovO:=EH hov ks;have hlO:=Dl a ks;have hO:ti a ks=a.map (nW (lz a) ks):=rfl;have hcur:((vu a).getD v0).n=lz a:=rfl;generalize ti a ks=O at hrO hovO hlO hO;generalize hcc:(vu a).getD v0=cc at hcur;simp(config := { maxSteps := 3000000 }) [hl9,hl6,hr,hcc,cK];refine au (fun i:Nat=>i≤a.length) (fun i=>⟨[(1,.pv (.ro (kL ks))),(5,.own 21),(6,.ptr 6 0),(27,.own 21),(28,.pv (.int .i64 a.length)),(29,.pv (.int .i64 i))],[(21,.arr 73 (aF (lW (nW (lz a) ks) a i))),(6,.box (cK cc))]⟩) (fun i=>a.length-i) [] 0 (by simp) ?_ ?_;·simp[lW,cK]
  ·rintro i hi;have w2:IntKind.i64.wrap ((i:Int)+1)=(i:Int)+1:=wrap_i64 (by omega);have hml:=wy (nW (lz a) ks) a i;by_cases hlt:i<a.length
   ·have r1:=bB (l:=lW (nW (lz a) ks) a i) (i:=i) (by omega);rw[GI _ hlt]at r1;have hst:=CF (nW (lz a) ks) hlt;have hrs:=fun e=>oo (lW (nW (lz a) ks) a i) i e;have hfin:∀b,b=(nW (lz a) ks a[i]).fO→(aF (lW (nW (lz a) ks) a i)).set i [.int .u64 a[i].n,.int .u64 a[i].b,.int .u64 a[i].p,.int .u64 a[i].i,.int .u64 a[i].s,.int .u64 a[i].z,.int .u64 a[i].m,.str a[i].t,.bool a[i].inl,.bool b]=aF (lW (nW (lz a) ks) a (i+1)):=by intro b hb;rw[←hst,←hrs];subst hb;rfl
    have hhid:(nW (lz a) ks a[i]).fO=(a[i].fO||(!decide (a[i].n=lz a)&&!EA ks a[i].n)):=rfl;cases hh:a[i].fO with|true=>rw[hh]at r1 hhid;simp(config := { maxSteps := 3000000 }) [w2,hlt,hml,r1,cK];exact⟨i+1,by omega,⟨by omega,hfin _ (by rw[hhid];rfl)⟩,by omega⟩|false=>
     rw[hh]at r1 hhid;by_cases hn:a[i].n=lz a;·simp(config := { maxSteps := 3000000 }) [w2,hlt,hml,r1,cK,hcur,hn];refine⟨i+1,by omega,⟨by omega,?_⟩,by omega⟩;rw[←hfin false (by rw[hhid];simp[hn]),hn]
     ·simp(config := { maxSteps := 3000000 }) [w2,hlt,hml,r1,cK,hcur,hn];exact⟨hk9,i+1,by omega,⟨by omega,hfin _ (by rw[hhid];simp[hn])⟩,by omega⟩
   ·have hie:i=a.length:=by omega
    subst hie;have hmx:lW (nW (lz a) ks) a a.length=O:=by rw[hO];unfold lW;simp
    rw[hmx];have hm1:(Value.map none).oneCell'=true:=rfl;have hm2:cv (Value.map none)=.pv (.val (.map none)):=rfl;have hlO6:O.length≤1000000:=by omega
    simp(config := { maxSteps := 3000000 }) [cK,hm1,hm2,hlO6,fl];have hs6:(bh O).length≤1000000:=Nat.le_trans (List.length_filter_le _ _) hlO6;have hO5:O.length≤100000:=by omega
    refine au (fun x:Nat×List Int=>x.1≤(bh O).length∧∀n,n∈x.2↔∃v∈(bh O).take x.1,n∈qD O v) (fun x=>⟨[(5,.own 21),(10,.ptr 10 0),(57,.own 57),(58,.pv (.int .i64 (bh O).length)),(59,.pv (.int .i64 x.1))],[(57,.arr 73 (aF (bh O))),(10,.box [.own 55]),(55,.map (qW x.2)),(21,.arr 73 (aF O))]⟩) (fun x=>(bh O).length-x.1) [] (0,[]) ?_ ?_ ?_;·exact⟨by simp,by simp⟩
    ·simp[qW]
    ·rintro⟨j,ns⟩ ⟨hj,hns⟩;dsimp only at hj hns;have w4:IntKind.i64.wrap ((j:Int)+1)=(j:Int)+1:=wrap_i64 (by omega);by_cases hjl:j<(bh O).length
     ·have r2:=bB hjl;have hpl:=BS (o:=O) (bh O)[j].n;have hpN:qD O (bh O)[j]=(fB O (bh O)[j].n).1.map (fun v:Vn=>v.n):=rfl;have hnext:∀ns':List Int,(∀n:Int,n∈ns'↔n∈ns∨n∈qD O (bh O)[j])→∀n:Int,n∈ns'↔∃v∈(bh O).take (j+1),n∈qD O v:=by
       intro ns' hn' n;rw[hn',hns,List.take_succ_eq_append_getElem hjl];constructor
       ·rintro(⟨v,hv,hm⟩|hm);·exact⟨v,List.mem_append.2 (.inl hv),hm⟩
        ·exact⟨_,List.mem_append.2 (.inr (List.mem_singleton.2 rfl)),hm⟩
       ·rintro⟨v,hv,hm⟩;rw[List.mem_append,List.mem_singleton]at hv;rcases hv with hv|rfl;·exact .inl ⟨v,hv,hm⟩
        ·exact .inr hm
      simp(config := { maxSteps := 3000000 }) [w4,hjl,r2,fl,hO5,hovO];generalize hW:(fB O (bh O)[j].n).1=W at hpl hpN;refine⟨hovO,?_⟩;refine au (fun x:Nat×List Int=>x.1≤W.length∧∀n,n∈x.2↔n∈ns∨n∈(W.take x.1).map (fun v:Vn=>v.n)) (fun x=>⟨[(5,.own 21),(10,.ptr 10 0),(57,.own 57),(58,.pv (.int .i64 (bh O).length)),(59,.pv (.int .i64 j)),(70,.own 67),(71,.pv (.int .i64 W.length)),(72,.pv (.int .i64 x.1))],[(67,.arr 73 (aF W)),(57,.arr 73 (aF (bh O))),(10,.box [.own 55]),(55,.map (qW x.2)),(21,.arr 73 (aF O))]⟩) (fun x=>W.length-x.1) [] (0,ns) ?_ ?_ ?_;·exact⟨by simp,by simp⟩
      ·simp
      ·rintro⟨k,ms⟩ ⟨hk',hms⟩;dsimp only at hk' hms;have w5:IntKind.i64.wrap ((k:Int)+1)=(k:Int)+1:=wrap_i64 (by omega);have hks9:=B6 ms;by_cases hkl:k<W.length
       ·have r3:=bB hkl;have hput:=xE W[k].n ms;simp(config := { maxSteps := 3000000 }) [w5,hkl,r3,hks9,hput];refine⟨k+1,zd W[k].n ms,⟨by omega,fun n=>?_⟩,⟨by omega,rfl⟩,by omega⟩;rw[Eh,hms,←List.map_take,List.take_succ_eq_append_getElem hkl];simp only[List.map_append,List.map_cons,List.map_nil,List.mem_append,List.mem_singleton];constructor
        ·rintro(h|h|h);·exact .inr (.inr h)
         ·exact .inl h
         ·exact .inr (.inl h)
        ·rintro(h|h|h);·exact .inr (.inl h)
         ·exact .inr (.inr h)
         ·exact .inl h
       ·have hke:k=W.length:=by omega
        subst hke;simp(config := { maxSteps := 3000000 }) [w4,hjl];exact⟨j+1,ms,⟨by omega,hnext ms fun n=>by rw[hms,List.take_length,hpN]⟩,⟨by omega,rfl⟩,by omega⟩
     ·have hje:j=(bh O).length:=by omega
      subst hje;rw[List.take_length]at hns;have hun:=BI ns;have hfs:=Dq ns;have hkk:=Ba ns;have hin:NS (ub ns) O=O.filter fun v=>xI O v.n:=by unfold NS;congr 1;funext v;simp only[lG,Cp,Bool.not_not];rw[Bool.eq_iff_iff,decide_eq_true_eq,hns,Df hrO]
      have hkm:∀t es,dp t (.map es)=.map es:=fun _ _=>rfl;simp(config := { maxSteps := 3000000 }) [hun,hfs,hin,hlO6,fl,hkm];exact hkk
 ·cases h
def nP (a:Ap):Ap×Bool:=(⟨a.l,(ze a.ps a.r.v).1,a.vs,a.sl,a.r,a.n,a.s⟩,decide ((ze a.ps a.r.v).2=0))
def BH (a:Ap):Ap×Bool:=(⟨a.l,(yS a.ps ⟨a.n,a.r.v,a.r.u⟩).1,a.vs,a.sl,a.r,a.n,a.s⟩,(jX a.vs a.r.v).isSome&&decide ((yS a.ps ⟨a.n,a.r.v,a.r.u⟩).2=0))
def iu (a:Ap):Vn:=⟨a.n,a.r.v,a.r.p,a.r.i,a.r.s,a.r.z,a.r.m,[],false,false⟩
def lr (a:Ap):Ap×Bool:=(⟨a.l,a.ps,(fI a.vs (iu a)).1,a.sl,a.r,a.n,a.s⟩,!a.sl&&ib a.l a.r.p a.r.i a.r.e&&decide ((fI a.vs (iu a)).2=0))
noncomputable def ja (a:Ap):Ap×Bool:=(⟨a.l,jP a.ps a.r.c a.s,ln a.vs (ur ((jP a.ps a.r.c a.s).map Pn.v)),a.sl,a.r,a.n,a.s⟩,true)
theorem Dr:dH Tryz.prog 85 (yr (fun a=>a.ps.length≤100000) nP):=by
 intro ys φ r h hφ;unfold yr at h;split at h;·obtain⟨a,ha,h⟩:=Option.map_eq_some_iff.1 h;cases h;cases eN ha;obtain⟨⟨e,p,i,u,h'⟩,ps,vs,sl,⟨k,rp,ri,rs,re,ru,rv,rc,rz,rm,rn,rt⟩,n,s⟩:=a;refine cq (ah Ld aj) (by kernel_rfl) fn85 (by simp) rfl (by simp[mC]) ?_;unfold body85;have h1:ps.length≤100000:=hφ;simp(config := { maxSteps := 3000000 }) [mC,nP,h1,bF]
 ·cases h
theorem J8:dH Tryz.prog 84 (yr (fun a=>a.ps.length≤1000000∧a.vs.length≤1000000) BH):=by
 intro ys φ r h hφ;unfold yr at h;split at h;·obtain⟨a,ha,h⟩:=Option.map_eq_some_iff.1 h;cases h;cases eN ha;obtain⟨⟨e,p,i,u,h'⟩,ps,vs,sl,⟨k,rp,ri,rs,re,ru,rv,rc,rz,rm,rn,rt⟩,n,s⟩:=a;refine cq (ah Ku (ah K8 aj)) (by kernel_rfl) fn84 (by simp) rfl (by simp[mC]) ?_;unfold body84;obtain⟨h1,h2⟩:=hφ;have h1:ps.length≤1000000:=h1;have h2:vs.length≤1000000:=h2;simp(config := { maxSteps := 3000000 }) [mC,BH,h1,h2,bF,cK]
 ·cases h
theorem BW:dH Tryz.prog 83 (yr (fun a=>a.vs.length≤100000∧(∀v∈a.vs,iq v)∧iq (iu a)) lr):=by
 intro ys φ r h hφ;unfold yr at h;split at h
 ·obtain⟨a,ha,h⟩:=Option.map_eq_some_iff.1 h;cases h;cases eN ha;obtain⟨⟨e,p,i,u,h'⟩,ps,vs,sl,⟨k,rp,ri,rs,re,ru,rv,rc,rz,rm,rn,rt⟩,n,s⟩:=a;refine cq (ah Js (ah Lf aj)) (by kernel_rfl) fn83 (by simp) rfl (by simp[mC]) ?_;unfold body83;obtain⟨h1,h2,h3⟩:=hφ;have h1:vs.length≤100000:=h1;have h2:∀v∈vs,iq v:=h2;have h3:iq ⟨n,rv,rp,ri,rs,rz,rm,[],false,false⟩:=h3;cases sl<;>simp(config := { maxSteps := 3000000 }) [mC,lr,iu,h1,h3,aO];·exact⟨⟨h2,h3⟩,rfl⟩
  ·exact⟨h2,h3⟩
 ·cases h
theorem yD:dH Tryz.prog 87 (yr (fun a=>a.ps.length<50∧(∀e∈a.ps,eG e)∧cW a.r.c∧cW a.s∧a.vs.length≤100000∧∀v∈a.vs,iq v) ja):=by
 intro ys φ r h hφ;unfold yr at h;split at h
 ·obtain⟨a,ha,h⟩:=Option.map_eq_some_iff.1 h;cases h;cases eN ha;obtain⟨⟨e,p,i,u,h'⟩,ps,vs,sl,⟨k,rp,ri,rs,re,ru,rv,rc,rz,rm,rn,rt⟩,n,s⟩:=a;refine cq (ah IY (ah YA (ah DQ aj))) (by kernel_rfl) fn87 (by simp) rfl (by simp[mC]) ?_;unfold body87;obtain⟨h1,h2,h3,h4,h5,h6⟩:=hφ;have h1:ps.length<50:=h1;have h3:cW rc:=h3;have h4:cW s:=h4;have h5:vs.length≤100000:=h5;have h7:ps.length≤1000000:=by omega
  have h8:(jP ps rc s).length<50:=by have:=List.length_filter_le (fun e=>!iB rc s e) ps;unfold jP;omega
  have h9:(ur ((jP ps rc s).map Pn.v)).length≤1000000:=by have:=Bs ((jP ps rc s).map Pn.v);rw[List.length_map]at this;omega
  have hU:∀l:List Int,bH l=kL l:=fun _=>rfl;have fU:∀l:List Int,bV (kL l):=zr;have h10:∀e∈ps,cW e.u:=fun e he=>(h2 e he).2.2;have h11:(∀e∈ps,cW e.u)=True:=eq_true h10;simp(config := { maxSteps := 3000000 }) [mC,ja,h1,h3,h4,h5,h7,h8,h9,hU,fU,bF,aO];exact⟨h10,h6⟩
 ·cases h
structure Wr (w w':World) (b:Nat) (us:Array Value) (ty:TypeId):Prop where
 os:w'.os=w.os
 tape:w'.tape=w.tape
 output:w'.output=w.output
 size:w'.heap.size=w.heap.size
 here:w'.heap[b]?=some (.cells us ty (0,0))
 block:∀k,k≠b→w'.heap[k]?=w.heap[k]?
theorem sj {w:World}{b:Nat}{us:Array Value}{ty:TypeId} (h:w.heap[b]?=some (.cells us ty (0,0))) (o:Nat) (v:Value):Wr w (w.setCell ⟨b,o,none⟩ v) b (us.setIfInBounds o v) ty:=by
 refine⟨rfl,rfl,rfl,by simp[World.setCell],?_,fun k hk=>?_⟩;·simp[World.setCell,Array.getElem?_modify,h]
 ·simp[World.setCell,Array.getElem?_modify,Ne.symm hk]
theorem eU (a:Value) (b o:Nat) (x:Int) (us:Array Value) (ty:TypeId) (w:World) (h:w.heap[b]?=some (.cells us ty (0,0))) (hx:us[o]?=some (.int .u64 x)):Calls Tryz.prog 184 #[a,.pointer (some ⟨b,o,none⟩)] w fun e w'=>e=.returned (.tuple #[])∧Wr w w' b (us.setIfInBounds o (.int .u64 0)) ty:=by
 have hc:w.cell? ⟨b,o,none⟩=some (.int .u64 x):=by rw[Lib.cell_of_heap h];exact hx
 have hf:w.frozen? ⟨b,o,none⟩=false:=by simp[World.frozen?,h]
 go_enter Tryz.func184,Tryz.ntmps184;go_wp2;exact⟨rfl,_,by kernel_rfl,rfl,sj h o _⟩
theorem wS (b o bt:Nat) (n:List UInt8) (bad:Bool) (us:Array Value) (ty tt:TypeId) (w:World) (hne:b≠bt) (h:w.heap[b]?=some (.cells us ty (0,0))) (hx:us[o]?=some (.string ⟨n.toArray⟩)) (ht:w.heap[bt]?=some (.cells #[.bool bad] tt (0,0))):Calls Tryz.prog 185 #[.pointer (some ⟨bt,0,none⟩),.pointer (some ⟨b,o,none⟩)] w fun e w'=>e=.returned (.tuple #[])∧∃w1,Wr w w1 bt #[.bool (bad||decide (n=[])||decide (64<n.length))] tt∧Wr w1 w' b (us.setIfInBounds o (.string ⟨#[]⟩)) ty:=by
 have hc:w.cell? ⟨b,o,none⟩=some (.string ⟨n.toArray⟩):=by rw[Lib.cell_of_heap h];exact hx
 have hb:w.cell? ⟨bt,0,none⟩=some (.bool bad):=by rw[Lib.cell_of_heap ht];rfl
 have hf:w.frozen? ⟨b,o,none⟩=false:=by simp[World.frozen?,h]
 have hg:w.frozen? ⟨bt,0,none⟩=false:=by simp[World.frozen?,ht]
 have hd:∀v,(w.setCell ⟨bt,0,none⟩ v).cell? ⟨b,o,none⟩=some (.string ⟨n.toArray⟩):=fun v=>by rw[Lib.cell_of_heap (((sj ht 0 v).block b hne).trans h)];exact hx
 have fin:∀v,v=(bad||decide (n=[])||decide (64<n.length))→∃w1,Wr w w1 bt #[.bool (bad||decide (n=[])||decide (64<n.length))] tt∧Wr w1 ((w.setCell ⟨bt,0,none⟩ (.bool v)).setCell ⟨b,o,none⟩ (.string ⟨#[]⟩)) b (us.setIfInBounds o (.string ⟨#[]⟩)) ty:=by rintro v rfl;exact⟨_,sj ht 0 _,sj (((sj ht 0 _).block b hne).trans h) o _⟩
 go_enter Tryz.func185,Tryz.ntmps185;have hd1:=hd (.bool true);have hd2:=hd (.bool false);clear hd;cases bad with|true=>go_wp2;exact⟨rfl,_,by kernel_rfl,rfl,fin _ rfl⟩|false=>
  by_cases h1:n=[];·subst h1;go_wp2;exact⟨rfl,_,by kernel_rfl,rfl,fin _ rfl⟩
  ·go_wp2;refine⟨rfl,_,by kernel_rfl,rfl,fin _ ?_⟩;have:(n.isEmpty||decide (64<(n.length:Int)))=(decide (n=[])||decide (64<n.length)):=by cases n with|nil=>rfl|cons x l=>simp only[List.isEmpty_cons,Bool.false_or,reduceCtorEq,decide_false];exact decide_eq_decide.2 (by omega)
   rw[this,Bool.false_or]
def recC (r:Rc):Array Value:=#[.int .u8 r.k,.int .u64 r.p,.int .u64 r.i,.int .u64 r.s,.int .u64 r.e,.int .u64 r.u,.int .u64 r.v,.int .u64 r.c,.int .u64 r.z,.int .u64 r.m,.string ⟨r.n.toArray⟩,.string ⟨r.t.toArray⟩]
def vz:Nat→Rc→Rc|0,r=>{r with e:=0}|1,r=>{r with u:=0}|2,r=>{r with v:=0}|3,r=>{r with c:=0}|4,r=>{r with z:=0}|5,r=>{r with m:=0}|6,r=>{r with n:=[]}|7,r=>{r with t:=[]}|_,r=>r
def YK:Nat→Rc→Bool→Bool|6,r,b=>b||decide (r.n=[])||decide (64<r.n.length)|7,r,b=>b||decide (r.t=[])||decide (64<r.t.length)|_,_,b=>b
def qz:List Nat→Rc×Bool→Rc×Bool|[],x=>x|q::l,x=>qz l (vz q x.1,YK q x.1 x.2)
theorem Um (a b c:Value) (w:World):(Instr.index 191 (.agg #[a,b,c]) (.int .i64 0)).run Tryz.prog w=.ok a w:=by kernel_rfl
theorem Tu (a b c:Value) (w:World):(Instr.index 191 (.agg #[a,b,c]) (.int .i64 1)).run Tryz.prog w=.ok b w:=by kernel_rfl
theorem Sw (a b c:Value) (w:World):(Instr.index 191 (.agg #[a,b,c]) (.int .i64 2)).run Tryz.prog w=.ok c w:=by kernel_rfl
theorem Hp (n:Nat) (a:Addr) (w:World):(method (n+1) 149 (.pointer (some a)) "chartroom/record.number").run Tryz.prog w=.ok (184,.pointer (some a)) w:=by kernel_rfl
theorem RT (n:Nat) (a:Addr) (w:World):(method (n+1) 149 (.pointer (some a)) "chartroom/record.text").run Tryz.prog w=.ok (185,.pointer (some a)) w:=by kernel_rfl
theorem T5 (n:Nat) (a:Addr) (w:World):(nilAhead (n+1) 149 (.pointer (some a)) "chartroom/record.number").run Tryz.prog w=.ok (some false) w:=by kernel_rfl
theorem Sf (n:Nat) (a:Addr) (w:World):(nilAhead (n+1) 149 (.pointer (some a)) "chartroom/record.text").run Tryz.prog w=.ok (some false) w:=by kernel_rfl
def Zf:Value→Nat|.int _ n=>n.toNat|_=>0
structure Vs (w0 w:World) (br bt:Nat) (r:Rc) (bad:Bool):Prop where
 os:w.os=w0.os
 tape:w.tape=w0.tape
 output:w.output=w0.output
 size:w0.heap.size<w.heap.size
 hr:w.heap[br]?=some (.cells (recC r) 33 (0,0))
 ht:w.heap[bt]?=some (.cells #[.bool bad] 151 (0,0))
 ha:w.heap[w0.heap.size]?=some (.cells #[.pointer (some ⟨br,4,none⟩),.pointer (some ⟨br,5,none⟩),.pointer (some ⟨br,6,none⟩),.pointer (some ⟨br,7,none⟩),.pointer (some ⟨br,8,none⟩),.pointer (some ⟨br,9,none⟩)] 190 (0,0))
 block:∀k,k<w0.heap.size→k≠br→k≠bt→w.heap[k]?=w0.heap[k]?
theorem Vs.drew {w0 w:World}{br bt:Nat}{r:Rc}{bad:Bool} (h:Vs w0 w br bt r bad):Vs w0 w.drew br bt r bad:=⟨h.os,h.tape,h.output,h.size,h.hr,h.ht,h.ha,h.block⟩
theorem Vs.num {w0 w w':World}{br bt:Nat}{r r':Rc}{bad:Bool} (h:Vs w0 w br bt r bad) (hlr:br<w0.heap.size) (hlt:bt<w0.heap.size) (hne:br≠bt) {us:Array Value} (hw:Wr w w' br us 33) (hu:us=recC r'):Vs w0 w' br bt r' bad:=⟨hw.os.trans h.os,hw.tape.trans h.tape,hw.output.trans h.output,by rw[hw.size];exact h.size,by rw[hw.here,hu],(hw.block bt (Ne.symm hne)).trans h.ht,(hw.block _ (by omega)).trans h.ha,fun k h1 h2 h3=>(hw.block k h2).trans (h.block k h1 h2 h3)⟩
theorem Vs.Zl {w0 w w':World}{br bt:Nat}{r:Rc}{bad bad':Bool} (h:Vs w0 w br bt r bad) (hlr:br<w0.heap.size) (hlt:bt<w0.heap.size) (hne:br≠bt) (hw:Wr w w' bt #[.bool bad'] 151):Vs w0 w' br bt r bad':=⟨hw.os.trans h.os,hw.tape.trans h.tape,hw.output.trans h.output,by rw[hw.size];exact h.size,(hw.block br hne).trans h.hr,hw.here,(hw.block _ (by omega)).trans h.ha,fun k h1 h2 h3=>(hw.block k h3).trans (h.block k h1 h2 h3)⟩
theorem I5 (r:Rc) (bad:Bool) (ps:List Nat) (hps:∀q∈ps,q<8) (hlen:ps.length≤8) (w:World) (br bt:Nat) (hne:br≠bt) (hlr:br<w.heap.size) (hlt:bt<w.heap.size) (A:Option Addr) (c:Nat) (hc:ps.length≤c) (hA:0<ps.length→∃b o,A=some ⟨b,o,none⟩∧b≠br∧b≠bt∧b<w.heap.size∧∀i (h:i<ps.length),w.cell? ⟨b,o+i,none⟩=some (.int .u8 ps[i])) (h1:w.heap[br]?=some (.cells (recC r) 33 (0,0))) (h2:w.heap[bt]?=some (.cells #[.bool bad] 151 (0,0))):Calls Tryz.prog 89 #[.pointer (some ⟨br,0,none⟩),.iface 149 (.pointer (some ⟨bt,0,none⟩)),.slice A ps.length c] w fun e w'=>e=.returned (.tuple #[])∧Vs w w' br bt (qz ps ({r with p:=0,i:=0,s:=0},bad)).1 (qz ps ({r with p:=0,i:=0,s:=0},bad)).2:=by
 go_enter Tryz.func89,Tryz.ntmps89;go_wp2;go_region;have hv0:Vs w ((w.alloc (Obj.cells #[.pointer (some ⟨br,4,none⟩),.pointer (some ⟨br,5,none⟩),.pointer (some ⟨br,6,none⟩),.pointer (some ⟨br,7,none⟩),.pointer (some ⟨br,8,none⟩),.pointer (some ⟨br,9,none⟩)] 190)).drew) br bt r bad:=by
  have g:∀k,k<w.heap.size→((w.alloc (Obj.cells #[.pointer (some ⟨br,4,none⟩),.pointer (some ⟨br,5,none⟩),.pointer (some ⟨br,6,none⟩),.pointer (some ⟨br,7,none⟩),.pointer (some ⟨br,8,none⟩),.pointer (some ⟨br,9,none⟩)] 190)).drew).heap[k]?=w.heap[k]?:=fun k hk=>by show(w.heap.push _)[k]?=_;rw[Array.getElem?_push,if_neg (by omega)]
  refine⟨rfl,rfl,rfl,?_,(g br hlr).trans h1,(g bt hlt).trans h2,?_,fun k hk _ _=>g k hk⟩;·show w.heap.size<(w.heap.push _).size;simp
  ·show(w.heap.push _)[w.heap.size]?=_;simp
 generalize((w.alloc (Obj.cells #[.pointer (some ⟨br,4,none⟩),.pointer (some ⟨br,5,none⟩),.pointer (some ⟨br,6,none⟩),.pointer (some ⟨br,7,none⟩),.pointer (some ⟨br,8,none⟩),.pointer (some ⟨br,9,none⟩)] 190)).drew)=W0 at hv0 ⊢;go_wp2;go_region;replace hv0:=hv0.drew;generalize W0.drew=W1 at hv0 ⊢;go_wp2;have j0:=Um;have j1:=Tu;have j2:=Sw;have j3:=Hp;refine wp_loop_rounds 4 ?_;rw[rounds_succ];go_wp2_with(go_at_call 184;refine(eU _ br 1 r.p (recC r) _ _ hv0.hr rfl).mono ?_);rintro e W2 ⟨rfl,hw⟩;replace hv0:=hv0.num hlr hlt hne hw (r':={r with p:=0}) rfl;clear hw;go_wp2;rw[rounds_succ];go_wp2_with(go_at_call 184;refine(eU _ br 2 r.i _ _ _ hv0.hr rfl).mono ?_);rintro e W3 ⟨rfl,hw⟩;replace hv0:=hv0.num hlr hlt hne hw (r':={r with p:=0,i:=0}) rfl;clear hw;go_wp2;rw[rounds_succ];go_wp2_with(go_at_call 184;refine(eU _ br 3 r.s _ _ _ hv0.hr rfl).mono ?_);rintro e W4 ⟨rfl,hw⟩;replace hv0:=hv0.num hlr hlt hne hw (r':={r with p:=0,i:=0,s:=0}) rfl;clear hw;go_wp2;rw[rounds_succ];go_wp2;clear j0 j1 j2;go_loopw[49] (fun vi wr=>∃(i:Nat) (x:Rc×Bool),i≤ps.length∧vi=.int .i64 i∧Vs w wr br bt x.1 x.2∧qz (ps.drop i) x=qz ps ({r with p:=0,i:=0,s:=0},bad)) (fun vi _=>ps.length-Zf vi);case atStart=>exact⟨0,({r with p:=0,i:=0,s:=0},bad),by omega,rfl,hv0,rfl⟩
 case round=>
  obtain⟨i,⟨x,bx⟩,hi,rfl,hv,hvis⟩:=hrel;by_cases hlt':i<ps.length
  ·have hli:(i:Int)<(ps.length:Int):=by omega
   obtain⟨b,o,rfl,hb1,hb2,hb3,hcell⟩:=hA (by omega);have hq:=hps _ (List.getElem_mem hlt');have hcc:=hcell i hlt';have hcw:wr.cell? ⟨b,o+i,none⟩=some (.int .u8 ps[i]):=by rw[←hcc];unfold World.cell?;rw[hv.block b hb3 hb1 hb2]
   rw[List.drop_eq_getElem_cons hlt']at hvis;clear hcc hcell hv0 hps;revert hvis hcw hq;generalize ps[i]=q;intro hvis hcw hq;have hq8:q=0∨q=1∨q=2∨q=3∨q=4∨q=5∨q=6∨q=7:=by omega
   have hme:ps.length-Zf (.int .i64 ((i+1:Nat):Int))<ps.length-Zf (.int .i64 (i:Int)):=by show ps.length-(((i+1:Nat):Int)).toNat<ps.length-((i:Int)).toNat;omega
   have k1:=Hp;have k2:=T5;have k3:=RT;have k4:=Sf;rcases hq8 with rfl|rfl|rfl|rfl|rfl|rfl|rfl|rfl
   ·have hp:wr.cell? ⟨w.heap.size,0,none⟩=some (.pointer (some ⟨br,4,none⟩)):=by rw[Lib.cell_of_heap hv.ha];rfl
    go_wp2;go_region_with(go_at_call 184;refine(eU _ br 4 x.e _ _ _ hv.drew.hr rfl).mono ?_;rintro e W2 ⟨rfl,hw⟩);all_goals replace hv:=hv.drew.num hlr hlt hne hw (r':=vz 0 x) rfl;go_wp2;refine⟨⟨i+1,(_,_),hlt',congrArg (Value.int .i64) (by omega),hv,hvis⟩,hme⟩
   ·have hp:wr.cell? ⟨w.heap.size,1,none⟩=some (.pointer (some ⟨br,5,none⟩)):=by rw[Lib.cell_of_heap hv.ha];rfl
    go_wp2;go_region_with(go_at_call 184;refine(eU _ br 5 x.u _ _ _ hv.drew.hr rfl).mono ?_;rintro e W2 ⟨rfl,hw⟩);all_goals replace hv:=hv.drew.num hlr hlt hne hw (r':=vz 1 x) rfl;go_wp2;refine⟨⟨i+1,(_,_),hlt',congrArg (Value.int .i64) (by omega),hv,hvis⟩,hme⟩
   ·have hp:wr.cell? ⟨w.heap.size,2,none⟩=some (.pointer (some ⟨br,6,none⟩)):=by rw[Lib.cell_of_heap hv.ha];rfl
    go_wp2;go_region_with(go_at_call 184;refine(eU _ br 6 x.v _ _ _ hv.drew.hr rfl).mono ?_;rintro e W2 ⟨rfl,hw⟩);all_goals replace hv:=hv.drew.num hlr hlt hne hw (r':=vz 2 x) rfl;go_wp2;refine⟨⟨i+1,(_,_),hlt',congrArg (Value.int .i64) (by omega),hv,hvis⟩,hme⟩
   ·have hp:wr.cell? ⟨w.heap.size,3,none⟩=some (.pointer (some ⟨br,7,none⟩)):=by rw[Lib.cell_of_heap hv.ha];rfl
    go_wp2;go_region_with(go_at_call 184;refine(eU _ br 7 x.c _ _ _ hv.drew.hr rfl).mono ?_;rintro e W2 ⟨rfl,hw⟩);all_goals replace hv:=hv.drew.num hlr hlt hne hw (r':=vz 3 x) rfl;go_wp2;refine⟨⟨i+1,(_,_),hlt',congrArg (Value.int .i64) (by omega),hv,hvis⟩,hme⟩
   ·have hp:wr.cell? ⟨w.heap.size,4,none⟩=some (.pointer (some ⟨br,8,none⟩)):=by rw[Lib.cell_of_heap hv.ha];rfl
    go_wp2;go_region_with(go_at_call 184;refine(eU _ br 8 x.z _ _ _ hv.drew.hr rfl).mono ?_;rintro e W2 ⟨rfl,hw⟩);all_goals replace hv:=hv.drew.num hlr hlt hne hw (r':=vz 4 x) rfl;go_wp2;refine⟨⟨i+1,(_,_),hlt',congrArg (Value.int .i64) (by omega),hv,hvis⟩,hme⟩
   ·have hp:wr.cell? ⟨w.heap.size,5,none⟩=some (.pointer (some ⟨br,9,none⟩)):=by rw[Lib.cell_of_heap hv.ha];rfl
    go_wp2;go_region_with(go_at_call 184;refine(eU _ br 9 x.m _ _ _ hv.drew.hr rfl).mono ?_;rintro e W2 ⟨rfl,hw⟩);all_goals replace hv:=hv.drew.num hlr hlt hne hw (r':=vz 5 x) rfl;go_wp2;refine⟨⟨i+1,(_,_),hlt',congrArg (Value.int .i64) (by omega),hv,hvis⟩,hme⟩
   ·go_wp2;go_region_with(go_at_call 185;refine(wS br 10 bt x.n bx _ _ _ _ hne hv.drew.hr rfl hv.drew.ht).mono ?_;rintro e W2 ⟨rfl,W3,hw,hw2⟩);all_goals replace hv:=(hv.drew.Zl hlr hlt hne hw).num hlr hlt hne hw2 (r':=vz 6 x) rfl;go_wp2;refine⟨⟨i+1,(_,_),hlt',congrArg (Value.int .i64) (by omega),hv,hvis⟩,hme⟩
   ·go_wp2;go_region_with(go_at_call 185;refine(wS br 11 bt x.t bx _ _ _ _ hne hv.drew.hr rfl hv.drew.ht).mono ?_;rintro e W2 ⟨rfl,W3,hw,hw2⟩);all_goals replace hv:=(hv.drew.Zl hlr hlt hne hw).num hlr hlt hne hw2 (r':=vz 7 x) rfl;go_wp2;refine⟨⟨i+1,(_,_),hlt',congrArg (Value.int .i64) (by omega),hv,hvis⟩,hme⟩
  ·have hia:i=ps.length:=by omega
   subst hia;rw[List.drop_eq_nil_of_le (Nat.le_refl ps.length)]at hvis;go_wp2;refine⟨rfl,_,by kernel_rfl,rfl,?_⟩;rw[←hvis];exact hv
end Go.Proofs.YtlmkcmfmfahcfaaGreat.Ab
