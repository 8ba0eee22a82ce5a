/- slices.Sort at uint64: partitionOrdered. -/
import Derived.Test.YtlmkcmfmfahcfaaGreatX11
import Derived.Sort.WalkC4
import Derived.Sort.WalkA6
import Derived.Sort.LotD3
import Derived.Sort.LotB
import Derived.Sort.LotA
set_option linter.unusedVariables false
set_option linter.unusedSimpArgs false
set_option linter.unnecessarySimpa false
set_option maxHeartbeats 40000000
set_option maxRecDepth 100000
namespace Go.Proofs.YtlmkcmfmfahcfaaGreat.Ab
open Go Go.RowKit Go.Sort R
noncomputable def OQ:List AV→Option (Prop×AV)|[.aQ [.fr e a],.pv (.int .i64 p),.pv (.int .i64 q),.pv (.int .i64 v)]=>if e=22 then(dec dF a).map fun l=>((0≤p∧p≤v)∧v<q∧q≤(l.length:Int)∧l.length≤1000000,.bJ 0 [.aQ [.pv (.int .i64 ((partition ltInt l.toArray p.toNat q.toNat v.toNat).1:Int)),.pv (.bool (partition ltInt l.toArray p.toNat q.toNat v.toNat).2.1)],.fr 22 (rA (partition ltInt l.toArray p.toNat q.toNat v.toNat).2.2)]) else none|_=>none
@[simp] theorem aaf (e:TypeId) (d:Array Int) (p q v:Int):OQ [.aQ [.fr e (rA d)],.pv (.int .i64 p),.pv (.int .i64 q),.pv (.int .i64 v)]=if e=22 then some ((0≤p∧p≤v)∧v<q∧q≤(d.size:Int)∧d.size≤1000000,.bJ 0 [.aQ [.pv (.int .i64 ((partition ltInt d p.toNat q.toNat v.toNat).1:Int)),.pv (.bool (partition ltInt d p.toNat q.toNat v.toNat).2.1)],.fr 22 (rA (partition ltInt d p.toNat q.toNat v.toNat).2.2)]) else none:=by show(if e=22 then(dec dF (rA d)).map _ else none)=_;rw[iA];simp
theorem VH:dR Tryz.prog 157 OQ:=by
 intro ys φ r h hφ;unfold OQ at h;split at h
 ·rename_i e ra p q v;split at h
  ·rename_i he;subst he;obtain⟨l,hl,h⟩:=Option.map_eq_some_iff.1 h;cases h;obtain⟨d,rfl,rfl⟩:=lj hl;obtain⟨⟨h1,h2⟩,h3,h4,h5⟩:=hφ;rw[Array.length_toList]at h4 h5;obtain⟨a,rfl⟩:∃a:Nat,p=a:=⟨p.toNat,by omega⟩;obtain⟨b,rfl⟩:∃a:Nat,q=a:=⟨q.toNat,by omega⟩;obtain⟨c,rfl⟩:∃a:Nat,v=a:=⟨v.toNat,by omega⟩;rw[Int.toNat_natCast,Int.toNat_natCast,Int.toNat_natCast,Array.toArray_toList];refine cu (ag nn ah) (by kernel_rfl) (by conv=>lhs;reduce) (by simp) rfl (by simp) ?_;generalize hW:partition ltInt d a b c=W;have q1:a<d.size:=by omega
   have q2:c<d.size:=by omega
   have r1:=bz q1;have r2:=bz q2;have r3:=bz (d:=d.setIfInBounds a (gA d c)) (i:=c) (by rw[Array.size_setIfInBounds];omega);obtain⟨i,hi⟩:∃i,i=a+1:=⟨_,rfl⟩;obtain⟨j,hj⟩:∃j,j=b-1:=⟨_,rfl⟩;have w1:IntKind.i64.wrap ((a:Int)+1)=(i:Int):=by rw[wrap_i64 (by omega)];omega
   have w2:IntKind.i64.wrap ((b:Int)-1)=(j:Int):=by rw[wrap_i64 (by omega)];omega
   apply af;·simp(config := { maxSteps := 3000000 });exact⟨rfl,rfl⟩
   apply af;·simp(config := { maxSteps := 3000000 }) [q1,q2,r1,r2,r3];exact⟨rfl,rfl⟩
   rw[show(d.setIfInBounds a (gA d c)).setIfInBounds c (gA d a)=swp d a c from rfl];obtain⟨D,hDD⟩:∃D,D=swp d a c:=⟨_,rfl⟩;have g4:D.size=d.size:=by rw[hDD,size_swp]
   rw[←hDD];clear r1 r2 r3;apply af;·simp(config := { maxSteps := 3000000 }) [w1,w2];exact⟨rfl,rfl⟩
   have g1:a<i:=by omega
   have g2:i≤j+1:=by omega
   have g3:j<b:=by omega
   have qa:a<D.size:=by omega
   have ra:=bz qa;obtain⟨pU,hpU⟩:∃pU:Int→Bool,pU=fun x=>ltInt x D[a]!:=⟨_,rfl⟩;obtain⟨pD,hpD⟩:∃pD:Int→Bool,pD=fun x=>!ltInt x D[a]!:=⟨_,rfl⟩;obtain⟨i2,hi2⟩:∃i2,i2=scanUp pU D j i:=⟨_,rfl⟩;obtain⟨j2,hj2⟩:∃j2,j2=scanDown pD D i2 j:=⟨_,rfl⟩;have u1:=scanUp_spec pU D j _ i rfl;rw[←hi2]at u1;have u2:=scanDown_spec pD D i2 j;rw[←hj2]at u2;have u3:i≤i2∧i2≤j+1:=⟨u1.1,u1.2.1 g2⟩;have u4:j2≤j∧i2≤j2+1:=⟨u2.1,u2.2.1 u3.2⟩;apply af
   ·rw[aM];refine aq (fun s:Nat=>i≤s∧s≤j+1∧scanUp pU D j s=i2) (fun s=>⟨[(0,.own 999),(1,.pv (.int .i64 (a:Int))),(10,.pv (.int .i64 (s:Int))),(11,.pv (.int .i64 (j:Int)))],[(999,.arr 22 (rA D))]⟩) (fun s=>j+1-s) [] i (by refine⟨?_,?_,?_⟩<;>first|omega|exact hi2.symm) ?_ ?_;·simp
    ·rintro s ⟨l1,l2,l3⟩;by_cases hc:s≤j
     ·have ws:IntKind.i64.wrap ((s:Int)+1)=((s+1:Nat):Int):=by rw[wrap_i64 (by omega)];omega
      have c1:(s:Int)≤(j:Int):=by omega
      have q1:s<D.size:=by omega
      have r1:=bz q1;cases hb:ltInt (gA D s) (gA D a) with|true=>have e:=scanUp_go pU D j s hc (by rw[hpU];exact hb);rw[e]at l3;obtain⟨s',hs'⟩:∃s',s'=s+1:=⟨_,rfl⟩;rw[←hs']at ws l3;simp(config := { maxSteps := 3000000 }) [c1,q1,qa,r1,ra,hb,ws];exact⟨s',⟨by omega,by omega,l3⟩,rfl,by omega⟩|false=>have e:=scanUp_end pU D j s (.inr (by rw[hpU];exact hb));rw[e]at l3;subst l3;simp(config := { maxSteps := 3000000 }) [c1,q1,qa,r1,ra,hb];try exact⟨rfl,rfl⟩
     ·have c1:¬(s:Int)≤(j:Int):=by omega
      have e:=scanUp_end pU D j s (.inl hc);rw[e]at l3;subst l3;rcases Nat.lt_or_ge s D.size with q1|q1;·have r1:=bz q1;simp(config := { maxSteps := 3000000 }) [c1,q1,qa,r1,ra];try exact⟨rfl,rfl⟩
      ·have r1:=lJ q1;simp(config := { maxSteps := 3000000 }) [c1,qa,r1,ra];try exact⟨rfl,rfl⟩
   apply af
   ·rw[aM];refine aq (fun s:Nat=>i2≤s+1∧s≤j∧scanDown pD D i2 s=j2) (fun s=>⟨[(0,.own 999),(1,.pv (.int .i64 (a:Int))),(10,.pv (.int .i64 (i2:Int))),(11,.pv (.int .i64 (s:Int)))],[(999,.arr 22 (rA D))]⟩) (fun s=>s) [] j (by refine⟨?_,?_,?_⟩<;>first|omega|exact hj2.symm) ?_ ?_;·simp
    ·rintro s ⟨l1,l2,l3⟩;by_cases hc:i2≤s
     ·have ws:IntKind.i64.wrap ((s:Int)-1)=((s-1:Nat):Int):=by rw[wrap_i64 (by omega)];omega
      have c1:(i2:Int)≤(s:Int):=by omega
      have q1:s<D.size:=by omega
      have r1:=bz q1;cases hb:(!ltInt (gA D s) (gA D a)) with|true=>have e:=scanDown_go pD D i2 s hc (by omega) (by rw[hpD];exact hb);rw[e]at l3;obtain⟨s',hs'⟩:∃s',s'=s-1:=⟨_,rfl⟩;rw[←hs']at ws l3;simp(config := { maxSteps := 3000000 }) [c1,q1,qa,r1,ra,hb,ws];exact⟨s',⟨by omega,by omega,l3⟩,rfl,by omega⟩|false=>have e:=scanDown_end pD D i2 s (.inr (by rw[hpD];exact hb));rw[e]at l3;subst l3;simp(config := { maxSteps := 3000000 }) [c1,q1,qa,r1,ra,hb];try exact⟨rfl,rfl⟩
     ·have c1:¬(i2:Int)≤(s:Int):=by omega
      have e:=scanDown_end pD D i2 s (.inl hc);rw[e]at l3;subst l3;rcases Nat.lt_or_ge s D.size with q1|q1;·have r1:=bz q1;simp(config := { maxSteps := 3000000 }) [c1,q1,qa,r1,ra];try exact⟨rfl,rfl⟩
      ·have r1:=lJ q1;simp(config := { maxSteps := 3000000 }) [c1,qa,r1,ra];try exact⟨rfl,rfl⟩
   have z2:j2<D.size:=by omega
   have r2:=bz z2;by_cases hgt:i2>j2
   ·have k1:(j2:Int)<(i2:Int):=by omega
    have e:=part_first_break ltInt d a b c hi hj hDD (by rw[hi2,hpU]) (by rw[hj2,hpD]) hgt;rw[hW]at e;subst e;have r3:=bz (d:=D.setIfInBounds j2 (gA D a)) (i:=a) (by rw[Array.size_setIfInBounds];omega);simp(config := { maxSteps := 3000000 }) [k1,qa,z2,ra,r2,r3];rfl
   ·have k1:¬(j2:Int)<(i2:Int):=by omega
    have e:=part_first_go ltInt d a b c hi hj hDD (by rw[hi2,hpU]) (by rw[hj2,hpD]) hgt;rw[hW]at e;have lt2:=part_scans_lt ltInt a i j D (by omega) (i2:=i2) (j2:=j2) (by rw[hi2,hpU]) (by rw[hj2,hpD]) (by omega);obtain⟨V,hV⟩:∃V,V=partLoop ltInt a (i2+1) (j2-1) (swp D i2 j2):=⟨_,rfl⟩;rw[←hV]at e;subst e;obtain⟨i3,hi3⟩:∃i3,i3=i2+1:=⟨_,rfl⟩;obtain⟨j3,hj3⟩:∃j3,j3=j2-1:=⟨_,rfl⟩;rw[←hi3,←hj3]at hV;have z1:i2<D.size:=by omega
    have r1:=bz z1;have r3:=bz (d:=D.setIfInBounds i2 (gA D j2)) (i:=j2) (by rw[Array.size_setIfInBounds];omega);have v1:IntKind.i64.wrap ((i2:Int)+1)=(i3:Int):=by rw[wrap_i64 (by omega)];omega
    have v2:IntKind.i64.wrap ((j2:Int)-1)=(j3:Int):=by rw[wrap_i64 (by omega)];omega
    apply af;·simp(config := { maxSteps := 3000000 }) [k1];exact⟨rfl,rfl⟩
    apply af;·simp(config := { maxSteps := 3000000 }) [z1,z2,r1,r2,r3];exact⟨rfl,rfl⟩
    rw[show(D.setIfInBounds i2 (gA D j2)).setIfInBounds j2 (gA D i2)=swp D i2 j2 from rfl];apply af;·simp(config := { maxSteps := 3000000 }) [v1];exact⟨rfl,rfl⟩
    apply af;·simp(config := { maxSteps := 3000000 }) [v2];exact⟨rfl,rfl⟩
    rw[bd];rw[aM];refine aq (fun x:(Nat×Nat)×Array Int=>(a<x.1.1∧x.1.1≤x.1.2+1)∧x.1.2<b∧x.2.size=d.size∧V=partLoop ltInt a x.1.1 x.1.2 x.2) (fun x=>⟨[(0,.own 999),(1,.pv (.int .i64 (a:Int))),(10,.pv (.int .i64 (x.1.1:Int))),(11,.pv (.int .i64 (x.1.2:Int)))],[(999,.arr 22 (rA x.2))]⟩) (fun x=>x.1.2) [] ((i3,j3),swp D i2 j2) ⟨⟨by show a<i3;omega,by show i3≤j3+1;omega⟩,by show j3<b;omega,by rw[size_swp,g4],hV⟩ ?_ ?_;·simp
    ·clear hV hi2 hj2 u1 u2 u3 u4 hi hj hi3 hj3 v1 v2 r1 r2 r3 z1 z2 k1 hgt lt2 w1 w2 g1 g2 g3 q1 q2 hDD g4 qa ra hpU hpD hW i2 j2 pU pD;clear D;rintro⟨⟨i,j⟩,D⟩ ⟨⟨g1,g2⟩,g3,g4,g5⟩;have g1:a<i:=g1;have g2:i≤j+1:=g2;have g3:j<b:=g3;have g4:D.size=d.size:=g4;have g5:V=partLoop ltInt a i j D:=g5;have qa:a<D.size:=by omega
     have ra:=bz qa;obtain⟨pU,hpU⟩:∃pU:Int→Bool,pU=fun x=>ltInt x D[a]!:=⟨_,rfl⟩;obtain⟨pD,hpD⟩:∃pD:Int→Bool,pD=fun x=>!ltInt x D[a]!:=⟨_,rfl⟩;obtain⟨i2,hi2⟩:∃i2,i2=scanUp pU D j i:=⟨_,rfl⟩;obtain⟨j2,hj2⟩:∃j2,j2=scanDown pD D i2 j:=⟨_,rfl⟩;have u1:=scanUp_spec pU D j _ i rfl;rw[←hi2]at u1;have u2:=scanDown_spec pD D i2 j;rw[←hj2]at u2;have u3:i≤i2∧i2≤j+1:=⟨u1.1,u1.2.1 g2⟩;have u4:j2≤j∧i2≤j2+1:=⟨u2.1,u2.2.1 u3.2⟩;rw[kG];dsimp only;rw[aM];apply af
     ·rw[aM];refine aq (fun s:Nat=>i≤s∧s≤j+1∧scanUp pU D j s=i2) (fun s=>⟨[(0,.own 999),(1,.pv (.int .i64 (a:Int))),(10,.pv (.int .i64 (s:Int))),(11,.pv (.int .i64 (j:Int)))],[(999,.arr 22 (rA D))]⟩) (fun s=>j+1-s) [] i (by refine⟨?_,?_,?_⟩<;>first|omega|exact hi2.symm) ?_ ?_;·simp
      ·rintro s ⟨l1,l2,l3⟩;by_cases hc:s≤j
       ·have ws:IntKind.i64.wrap ((s:Int)+1)=((s+1:Nat):Int):=by rw[wrap_i64 (by omega)];omega
        have c1:(s:Int)≤(j:Int):=by omega
        have q1:s<D.size:=by omega
        have r1:=bz q1;cases hb:ltInt (gA D s) (gA D a) with|true=>have e:=scanUp_go pU D j s hc (by rw[hpU];exact hb);rw[e]at l3;obtain⟨s',hs'⟩:∃s',s'=s+1:=⟨_,rfl⟩;rw[←hs']at ws l3;simp(config := { maxSteps := 3000000 }) [c1,q1,qa,r1,ra,hb,ws];exact⟨s',⟨by omega,by omega,l3⟩,rfl,by omega⟩|false=>have e:=scanUp_end pU D j s (.inr (by rw[hpU];exact hb));rw[e]at l3;subst l3;simp(config := { maxSteps := 3000000 }) [c1,q1,qa,r1,ra,hb];try exact⟨rfl,rfl⟩
       ·have c1:¬(s:Int)≤(j:Int):=by omega
        have e:=scanUp_end pU D j s (.inl hc);rw[e]at l3;subst l3;rcases Nat.lt_or_ge s D.size with q1|q1;·have r1:=bz q1;simp(config := { maxSteps := 3000000 }) [c1,q1,qa,r1,ra];try exact⟨rfl,rfl⟩
        ·have r1:=lJ q1;simp(config := { maxSteps := 3000000 }) [c1,qa,r1,ra];try exact⟨rfl,rfl⟩
     apply af
     ·rw[aM];refine aq (fun s:Nat=>i2≤s+1∧s≤j∧scanDown pD D i2 s=j2) (fun s=>⟨[(0,.own 999),(1,.pv (.int .i64 (a:Int))),(10,.pv (.int .i64 (i2:Int))),(11,.pv (.int .i64 (s:Int)))],[(999,.arr 22 (rA D))]⟩) (fun s=>s) [] j (by refine⟨?_,?_,?_⟩<;>first|omega|exact hj2.symm) ?_ ?_;·simp
      ·rintro s ⟨l1,l2,l3⟩;by_cases hc:i2≤s
       ·have ws:IntKind.i64.wrap ((s:Int)-1)=((s-1:Nat):Int):=by rw[wrap_i64 (by omega)];omega
        have c1:(i2:Int)≤(s:Int):=by omega
        have q1:s<D.size:=by omega
        have r1:=bz q1;cases hb:(!ltInt (gA D s) (gA D a)) with|true=>have e:=scanDown_go pD D i2 s hc (by omega) (by rw[hpD];exact hb);rw[e]at l3;obtain⟨s',hs'⟩:∃s',s'=s-1:=⟨_,rfl⟩;rw[←hs']at ws l3;simp(config := { maxSteps := 3000000 }) [c1,q1,qa,r1,ra,hb,ws];exact⟨s',⟨by omega,by omega,l3⟩,rfl,by omega⟩|false=>have e:=scanDown_end pD D i2 s (.inr (by rw[hpD];exact hb));rw[e]at l3;subst l3;simp(config := { maxSteps := 3000000 }) [c1,q1,qa,r1,ra,hb];try exact⟨rfl,rfl⟩
       ·have c1:¬(i2:Int)≤(s:Int):=by omega
        have e:=scanDown_end pD D i2 s (.inl hc);rw[e]at l3;subst l3;rcases Nat.lt_or_ge s D.size with q1|q1;·have r1:=bz q1;simp(config := { maxSteps := 3000000 }) [c1,q1,qa,r1,ra];try exact⟨rfl,rfl⟩
        ·have r1:=lJ q1;simp(config := { maxSteps := 3000000 }) [c1,qa,r1,ra];try exact⟨rfl,rfl⟩
     have z2:j2<D.size:=by omega
     have r2:=bz z2;by_cases hgt:i2>j2
     ·have k1:(j2:Int)<(i2:Int):=by omega
      have e:=part_break ltInt a i j D (i2:=i2) (j2:=j2) (by rw[hi2,hpU]) (by rw[hj2,hpD]) hgt;rw[←g5]at e;have e1:(j2:Int)=(V.1:Int):=by rw[e]
      have e2:rA (swp D j2 a)=rA (swp V.2 V.1 a):=by rw[e]
      have r3:=bz (d:=D.setIfInBounds j2 (gA D a)) (i:=a) (by rw[Array.size_setIfInBounds];omega);simp(config := { maxSteps := 3000000 }) [k1,qa,z2,ra,r2,r3];exact⟨e1,e2⟩
     ·have k1:¬(j2:Int)<(i2:Int):=by omega
      have e:=part_go ltInt a i j D (i2:=i2) (j2:=j2) (by rw[hi2,hpU]) (by rw[hj2,hpD]) hgt;rw[e]at g5;have lt2:=part_scans_lt ltInt a i j D (by omega) (i2:=i2) (j2:=j2) (by rw[hi2,hpU]) (by rw[hj2,hpD]) (by omega);have z1:i2<D.size:=by omega
      have r1:=bz z1;have r3:=bz (d:=D.setIfInBounds i2 (gA D j2)) (i:=j2) (by rw[Array.size_setIfInBounds];omega);have v1:IntKind.i64.wrap ((i2:Int)+1)=(i2:Int)+1:=wrap_i64 (by omega);obtain⟨j3,hj3⟩:∃j3,j3=j2-1:=⟨_,rfl⟩;have v2:IntKind.i64.wrap ((j2:Int)-1)=(j3:Int):=by rw[wrap_i64 (by omega)];omega
      rw[←hj3]at g5;apply af;·simp(config := { maxSteps := 3000000 }) [k1];exact⟨rfl,rfl⟩
      apply af;·simp(config := { maxSteps := 3000000 }) [z1,z2,r1,r2,r3];exact⟨rfl,rfl⟩
      simp(config := { maxSteps := 3000000 }) [v1,v2];exact⟨i2+1,j3,swp D i2 j2,⟨⟨by omega,by omega⟩,by omega,by rw[size_swp,g4],g5⟩,⟨⟨by omega,rfl⟩,rfl⟩,by omega⟩
  ·cases h
 ·cases h
noncomputable def Nw:List AV→Option (Prop×AV)|[.aQ [.fr e a],.pv (.int .i64 p),.pv (.int .i64 q)]=>if e=22 then(dec dF a).map fun l=>((0≤p∧p<q)∧q≤(l.length:Int)∧l.length<50,.bJ 0 [.pv (.bool (partialInsertionSort ltInt l.toArray p.toNat q.toNat).2),.fr 22 (rA (partialInsertionSort ltInt l.toArray p.toNat q.toNat).1)]) else none|_=>none
@[simp] theorem Zn (e:TypeId) (d:Array Int) (p q:Int):Nw [.aQ [.fr e (rA d)],.pv (.int .i64 p),.pv (.int .i64 q)]=if e=22 then some ((0≤p∧p<q)∧q≤(d.size:Int)∧d.size<50,.bJ 0 [.pv (.bool (partialInsertionSort ltInt d p.toNat q.toNat).2),.fr 22 (rA (partialInsertionSort ltInt d p.toNat q.toNat).1)]) else none:=by show(if e=22 then(dec dF (rA d)).map _ else none)=_;rw[iA];simp
theorem B8 {d:Array Int}{a b:Nat} (h:b-a<50):partialInsertionSort ltInt d a b=(d,decide (scanSorted ltInt d b (a+1)=b)):=by
 unfold partialInsertionSort partialIns;by_cases hs:scanSorted ltInt d b (a+1)=b;·simp only[if_pos hs,decide_eq_true hs]
 ·simp only[if_neg hs,if_pos h,decide_eq_false hs]
theorem MV (d:Array Int) (b:Nat):∀(n i:Nat),b-i=n→i≤b→scanSorted ltInt d b i≤b:=by intro n;induction n with|zero=>intro i h1 h2;rw[scanSorted_stop ltInt d b i (.inl (by omega))];exact h2|succ n ih=>intro i h1 h2;cases hl:ltInt d[i]! d[i-1]! with|true=>rw[scanSorted_stop ltInt d b i (.inr hl)];exact h2|false=>rw[scanSorted_go ltInt d b i (by omega) hl];exact ih (i+1) (by omega) (by omega)
theorem TL:dR Tryz.prog 154 Nw:=by
 intro ys φ r h hφ;unfold Nw at h;split at h
 ·rename_i e ra p q;split at h
  ·rename_i he;subst he;obtain⟨l,hl,h⟩:=Option.map_eq_some_iff.1 h;cases h;obtain⟨D,rfl,rfl⟩:=lj hl;obtain⟨⟨h1,h2⟩,h3,h5⟩:=hφ;rw[Array.length_toList]at h3 h5;obtain⟨a,rfl⟩:∃a:Nat,p=a:=⟨p.toNat,by omega⟩;obtain⟨b,rfl⟩:∃a:Nat,q=a:=⟨q.toNat,by omega⟩;rw[Int.toNat_natCast,Int.toNat_natCast,Array.toArray_toList,B8 (by omega)];obtain⟨i0,hi0⟩:∃i0,i0=a+1:=⟨_,rfl⟩;obtain⟨i2,hi2⟩:∃i2,i2=scanSorted ltInt D b i0:=⟨_,rfl⟩;have le2:i2≤b:=by rw[hi2];exact MV D b _ i0 rfl (by omega)
   rw[←hi0,←hi2];have w1:IntKind.i64.wrap ((a:Int)+1)=(i0:Int):=by rw[wrap_i64 (by omega)];omega
   have w2:IntKind.i64.wrap ((b:Int)-(a:Int))=(b:Int)-(a:Int):=wrap_i64 (by omega);refine cu (ag nn ah) (by kernel_rfl) (by conv=>lhs;reduce) (by simp) rfl (by simp) ?_;apply af;·simp(config := { maxSteps := 3000000 });exact⟨rfl,rfl⟩
   apply af;·simp(config := { maxSteps := 3000000 }) [w1];exact⟨rfl,rfl⟩
   rw[bd];apply af;·simp(config := { maxSteps := 3000000 });exact⟨rfl,rfl⟩
   rw[aM];refine aq (fun _:Unit=>True) (fun _=>⟨[(0,.own 999),(1,.pv (.int .i64 (a:Int))),(2,.pv (.int .i64 (b:Int))),(6,.pv (.bool false)),(7,.pv (.int .i64 (i0:Int))),(8,.pv (.int .i64 0))],[(999,.arr 22 (rA D))]⟩) (fun _=>0) [] () trivial ?_ ?_;·simp
   ·intro _ _;apply af;·simp(config := { maxSteps := 3000000 });exact⟨rfl,rfl⟩
    rw[bd];rw[aM];apply af
    ·rw[aM];refine aq (fun s:Nat=>i0≤s∧s≤b∧scanSorted ltInt D b s=i2) (fun s=>⟨[(0,.own 999),(1,.pv (.int .i64 (a:Int))),(2,.pv (.int .i64 (b:Int))),(6,.pv (.bool false)),(7,.pv (.int .i64 (s:Int)))],[(999,.arr 22 (rA D))]⟩) (fun s=>b-s) [] i0 ⟨Nat.le_refl _,by omega,hi2.symm⟩ ?_ ?_;·simp
     ·rintro s ⟨l1,l2,l3⟩;obtain⟨t,ht⟩:∃t,s=t+1:=⟨s-1,by omega⟩;have ws:IntKind.i64.wrap ((s:Int)-1)=(t:Int):=by rw[wrap_i64 (by omega)];omega
      have wp:IntKind.i64.wrap ((s:Int)+1)=(s:Int)+1:=wrap_i64 (by omega);have q2:t<D.size:=by omega
      have r2:=bz q2;by_cases hc:s<b
      ·have c1:(s:Int)<(b:Int):=by omega
       have q1:s<D.size:=by omega
       have r1:=bz q1;cases hb:ltInt D[s]! D[s-1]! with|false=>
        rw[scanSorted_go ltInt D b s hc hb]at l3;have hb2:ltInt (gA D s) (gA D t)=false:=by rw[←hb,show t=s-1 by omega];rfl
        simp(config := { maxSteps := 3000000 }) [c1,q1,q2,r1,r2,hb2,ws,wp];exact⟨s+1,⟨by omega,by omega,l3⟩,by omega,by omega⟩|true=>
        rw[scanSorted_stop ltInt D b s (.inr hb)]at l3;have hb2:ltInt (gA D s) (gA D t)=true:=by rw[←hb,show t=s-1 by omega];rfl
        subst l3;simp(config := { maxSteps := 3000000 }) [c1,q1,q2,r1,r2,hb2,ws];exact⟨rfl,rfl⟩
      ·have c1:¬(s:Int)<(b:Int):=by omega
       rw[scanSorted_stop ltInt D b s (.inl hc)]at l3;subst l3;rcases Nat.lt_or_ge s D.size with q1|q1;·have r1:=bz q1;simp(config := { maxSteps := 3000000 }) [c1,q1,q2,r1,r2,ws];try exact⟨rfl,rfl⟩
       ·have r1:=lJ q1;simp(config := { maxSteps := 3000000 }) [c1,q2,r1,r2,ws];try exact⟨rfl,rfl⟩
    by_cases hz:i2=b
    ·have c1:(i2:Int)=(b:Int):=by omega
     simp(config := { maxSteps := 3000000 }) [c1,hz]
    ·have c1:¬(i2:Int)=(b:Int):=by omega
     have c2:(b:Int)-(a:Int)<50:=by omega
     apply af;·simp(config := { maxSteps := 3000000 }) [c1,hz];exact⟨rfl,rfl⟩
     simp(config := { maxSteps := 3000000 }) [c2,w2,hz]
  ·cases h
 ·cases h
theorem yh:SWO ltInt where
 irrefl x:=by unfold ltInt;simp
 trans x y z h1 h2:=by unfold ltInt at*;simp at*;omega
 ntrans x y z h1 h2:=by unfold ltInt at*;simp at*;omega
theorem v9 (a b:Nat):∀(n i j:Nat) (d:Array Int),j=n→a<i→i≤j+1→j<b→a<(partEqLoop ltInt a i j d).1∧(partEqLoop ltInt a i j d).1≤b∧(partEqLoop ltInt a i j d).2.size=d.size:=by intro n;induction n using Nat.strongRecOn with|_ n ih=>
 intro i j d hn h1 h2 h3;have u1:=scanUp_spec (fun x=>!ltInt d[a]! x) d j _ i rfl;obtain⟨i2,hi2⟩:∃i2,i2=scanUp (fun x=>!ltInt d[a]! x) d j i:=⟨_,rfl⟩;rw[←hi2]at u1;have u2:=scanDown_spec (fun x=>ltInt d[a]! x) d i2 j;obtain⟨j2,hj2⟩:∃j2,j2=scanDown (fun x=>ltInt d[a]! x) d i2 j:=⟨_,rfl⟩;rw[←hj2]at u2;have u3:i≤i2∧i2≤j+1:=⟨u1.1,u1.2.1 h2⟩;have u4:j2≤j∧i2≤j2+1:=⟨u2.1,u2.2.1 u3.2⟩;by_cases hgt:i2>j2;·rw[partEq_break ltInt a i j d hi2 hj2 hgt];exact⟨by show a<i2;omega,by show i2≤b;omega,rfl⟩
 ·have lt2:=scans_lt ltInt a i j d (by omega) hi2 hj2 (by omega);rw[partEq_go ltInt a i j d hi2 hj2 hgt];have:=ih (j2-1) (by omega) (i2+1) (j2-1) (swp d i2 j2) rfl (by omega) (by omega) (by omega);rw[size_swp]at this;exact this
theorem vv {d:Array Int}{a b c:Nat} (h1:a≤c) (h2:c<b) (h3:b≤d.size):a≤(partition ltInt d a b c).1∧(partition ltInt d a b c).1<b∧(partition ltInt d a b c).2.2.size=d.size:=by obtain⟨x1,x2,x3,_⟩:=partition_holds (lt:=ltInt) yh d a b c h1 h2 h3;exact⟨x1,x2,x3.1⟩
theorem Aw {D D1 D2:Array Int}{a b lm lm1 pv:Nat}{wb wp:Bool}{c:Nat×Hint}{hint:Hint}{pi:Array Int×Bool} (h12:¬b-a≤12) (hl:¬lm=0) (e1:D1=if(!wb)=true then breakPatterns D a b else D) (e2:lm1=if(!wb)=true then lm-1 else lm) (e3:c=choosePivot ltInt D1 a b) (e4:D2=if c.2=.decreasing then reverseRange D1 a b else D1) (e5:pv=if c.2=.decreasing then(b-1)-(c.1-a) else c.1) (e6:hint=if c.2=.decreasing then Hint.increasing else c.2) (e7:pi=if(wb&&wp&&decide (hint=.increasing))=true then partialInsertionSort ltInt D2 a b else(D2,false)):pdq ltInt D a b lm wb wp=if pi.2=true then pi.1 else if(decide (a>0)&&!ltInt pi.1[a-1]! pi.1[pv]!)=true then(if a<(partitionEqual ltInt pi.1 a b pv).1∧(partitionEqual ltInt pi.1 a b pv).1≤b then pdq ltInt (partitionEqual ltInt pi.1 a b pv).2 (partitionEqual ltInt pi.1 a b pv).1 b lm1 wb wp else(partitionEqual ltInt pi.1 a b pv).2) else(if a≤(partition ltInt pi.1 a b pv).1∧(partition ltInt pi.1 a b pv).1<b then(if(partition ltInt pi.1 a b pv).1-a<b-(partition ltInt pi.1 a b pv).1 then pdq ltInt (pdq ltInt (partition ltInt pi.1 a b pv).2.2 a (partition ltInt pi.1 a b pv).1 lm1 true true) ((partition ltInt pi.1 a b pv).1+1) b lm1 (decide ((partition ltInt pi.1 a b pv).1-a≥(b-a)/8)) (partition ltInt pi.1 a b pv).2.1 else pdq ltInt (pdq ltInt (partition ltInt pi.1 a b pv).2.2 ((partition ltInt pi.1 a b pv).1+1) b lm1 true true) a (partition ltInt pi.1 a b pv).1 lm1 (decide (b-(partition ltInt pi.1 a b pv).1≥(b-a)/8)) (partition ltInt pi.1 a b pv).2.1) else(partition ltInt pi.1 a b pv).2.2):=by subst e1 e2 e3 e4 e5 e6 e7;rw[pdq];dsimp only;rw[if_neg h12,if_neg hl];rfl
theorem Gm {D:Array Int}{a b c:Nat} (h1:a≤c) (h2:c<b):a<(partitionEqual ltInt D a b c).1∧(partitionEqual ltInt D a b c).1≤b∧(partitionEqual ltInt D a b c).2.size=D.size:=by have:=v9 a b _ (a+1) (b-1) (swp D a c) rfl (by omega) (by omega) (by omega);rw[size_swp]at this;exact this
theorem zO:∀(n:Nat) (D:Array Int) (a b lm:Nat) (wb wp:Bool),b-a=n→a≤b→b≤D.size→b-a<50→(pdq ltInt D a b lm wb wp).size=D.size:=by intro n;induction n using Nat.strongRecOn with|_ n ih=>
 intro D a b lm wb wp hn h1 h2 h50;by_cases h12:b-a≤12;·rw[pdq,if_pos h12];exact(insertionSort_holds (lt:=ltInt) yh D a b h1 h2).1.1
 by_cases hl:lm=0;·rw[pdq,if_neg h12,if_pos hl];exact(heapSort_holds (lt:=ltInt) yh D a b h1 h2).1.1
 obtain⟨D1,e1⟩:∃D1,D1=if(!wb)=true then breakPatterns D a b else D:=⟨_,rfl⟩;obtain⟨lm1,e2⟩:∃lm1,lm1=if(!wb)=true then lm-1 else lm:=⟨_,rfl⟩;obtain⟨c,e3⟩:∃c,c=choosePivot ltInt D1 a b:=⟨_,rfl⟩;obtain⟨D2,e4⟩:∃D2,D2=if c.2=.decreasing then reverseRange D1 a b else D1:=⟨_,rfl⟩;obtain⟨pv,e5⟩:∃pv,pv=if c.2=.decreasing then(b-1)-(c.1-a) else c.1:=⟨_,rfl⟩;obtain⟨hint,e6⟩:∃hint,hint=if c.2=.decreasing then Hint.increasing else c.2:=⟨_,rfl⟩;obtain⟨pi,e7⟩:∃pi,pi=if(wb&&wp&&decide (hint=.increasing))=true then partialInsertionSort ltInt D2 a b else(D2,false):=⟨_,rfl⟩;rw[Aw h12 hl e1 e2 e3 e4 e5 e6 e7];have t1:D1.size=D.size:=by
  rw[e1];split;·exact(breakPatterns_holds D a b h1 h2).1
  ·rfl
 have t2:=choosePivot_holds ltInt D1 a b (by omega);rw[←e3]at t2;have t3:D2.size=D.size:=by
  rw[e4];split;·rw[(reverseRange_holds D1 a b h1 (by omega)).1,t1]
  ·exact t1
 have t4:a≤pv∧pv<b:=by rw[e5];split<;>omega
 have t6:pi.1.size=D.size:=by
  rw[e7];split;·rw[B8 h50];exact t3
  ·exact t3
 have p1:=Gm (D:=pi.1) t4.1 t4.2;have p2:=vv (d:=pi.1) t4.1 t4.2 (by omega);split;·exact t6
 split;·rw[if_pos ⟨p1.1,p1.2.1⟩,ih _ (by omega) _ _ _ _ _ _ rfl (by omega) (by omega) (by omega)];omega
 ·rw[if_pos ⟨p2.1,p2.2.1⟩];split;·rw[ih _ (by omega) _ _ _ _ _ _ rfl (by omega) (by rw[ih _ (by omega) _ _ _ _ _ _ rfl (by omega) (by omega) (by omega)];omega) (by omega),ih _ (by omega) _ _ _ _ _ _ rfl (by omega) (by omega) (by omega)];omega
  ·rw[ih _ (by omega) _ _ _ _ _ _ rfl (by omega) (by rw[ih _ (by omega) _ _ _ _ _ _ rfl (by omega) (by omega) (by omega)];omega) (by omega),ih _ (by omega) _ _ _ _ _ _ rfl (by omega) (by omega) (by omega)];omega
noncomputable def Gpd (N:Nat):List AV→Option (Prop×AV)|[.aQ [.fr e a],.pv (.int .i64 p),.pv (.int .i64 q),.pv (.int .i64 m)]=>if e=22∧N≠0 then(dec dF a).map fun l=>((0≤p∧p≤q)∧q-p<(N:Int)∧(q≤(l.length:Int)∧l.length<50)∧0≤m∧m≤1000,.bJ 0 [.aQ [],.fr 22 (rA (pdq ltInt l.toArray p.toNat q.toNat m.toNat true true))]) else none|_=>none
@[simp] theorem Gpd_eq (N:Nat) (e:TypeId) (d:Array Int) (p q m:Int):Gpd N [.aQ [.fr e (rA d)],.pv (.int .i64 p),.pv (.int .i64 q),.pv (.int .i64 m)]=if e=22∧N≠0 then some ((0≤p∧p≤q)∧q-p<(N:Int)∧(q≤(d.size:Int)∧d.size<50)∧0≤m∧m≤1000,.bJ 0 [.aQ [],.fr 22 (rA (pdq ltInt d p.toNat q.toNat m.toNat true true))]) else none:=by show(if e=22∧N≠0 then(dec dF (rA d)).map _ else none)=_;rw[iA];simp
theorem Vl:∀N,dR Tryz.prog 147 (Gpd N)
 |0=>by
  intro ys φ r h hφ;unfold Gpd at h;split at h;·rw[if_neg (by simp)]at h;cases h
  ·cases h|N+1=>by
  have hrec:=Vl N;intro ys φ r h hφ;unfold Gpd at h;split at h
  ·rename_i e ra p q m;split at h
   ·rename_i he;obtain⟨rfl,_⟩:=he;obtain⟨l,hl,h⟩:=Option.map_eq_some_iff.1 h;cases h;obtain⟨d,rfl,rfl⟩:=lj hl;obtain⟨⟨h1,h2⟩,h3,⟨h4,h5⟩,h6,h7⟩:=hφ;rw[Array.length_toList]at h4 h5;obtain⟨a,rfl⟩:∃a:Nat,p=a:=⟨p.toNat,by omega⟩;obtain⟨b,rfl⟩:∃a:Nat,q=a:=⟨q.toNat,by omega⟩;obtain⟨lm,rfl⟩:∃a:Nat,m=a:=⟨m.toNat,by omega⟩;rw[Int.toNat_natCast,Int.toNat_natCast,Int.toNat_natCast,Array.toArray_toList];generalize hW:pdq ltInt d a b lm true true=W;refine cu (bk (ks:=[2,0,0,0]) hrec (by kernel_rfl) (bk (ks:=[2,0,0]) OZ (by kernel_rfl) (bk (ks:=[2,0,0]) Me (by kernel_rfl) (bk (ks:=[2,0,0]) Wo (by kernel_rfl) (ag Uj (bk (ks:=[2,0,0]) Tk (by kernel_rfl) (bk (ks:=[2,0,0]) TL (by kernel_rfl) (ag nn (bk (ks:=[2,0,0,0]) SX (by kernel_rfl) (bk (ks:=[2,0,0,0]) VH (by kernel_rfl) ah)))))))))) (by kernel_rfl) (by conv=>lhs;reduce) (by simp) rfl (by simp) ?_;apply af;·simp(config := { maxSteps := 3000000 });exact⟨rfl,rfl⟩
    apply af;·simp(config := { maxSteps := 3000000 });exact⟨rfl,rfl⟩
    rw[aM];refine aq (fun x:((Nat×Nat)×Nat)×(Bool×Bool)×Array Int=>(x.1.1.1≤x.1.1.2∧x.1.1.2≤d.size)∧x.1.1.2-x.1.1.1<N+1∧x.1.2≤1000∧x.2.2.size=d.size∧pdq ltInt x.2.2 x.1.1.1 x.1.1.2 x.1.2 x.2.1.1 x.2.1.2=W) (fun x=>⟨[(0,.own 999),(1,.pv (.int .i64 (x.1.1.1:Int))),(2,.pv (.int .i64 (x.1.1.2:Int))),(3,.pv (.int .i64 (x.1.2:Int))),(8,.pv (.bool x.2.1.1)),(9,.pv (.bool x.2.1.2))],[(999,.arr 22 (rA x.2.2))]⟩) (fun x=>x.1.1.2-x.1.1.1) [] (((a,b),lm),(true,true),d) ⟨⟨by show a≤b;omega,by show b≤d.size;omega⟩,by show b-a<N+1;omega,by show lm≤1000;omega,rfl,hW⟩ ?_ ?_;·simp
    ·rintro⟨⟨⟨a,b⟩,lm⟩,⟨wb,wp⟩,D⟩ ⟨⟨g1,g2⟩,g3,g4,g5,g6⟩;have g1:a≤b:=g1;have g2:b≤d.size:=g2;have g3:b-a<N+1:=g3;have g4:lm≤1000:=g4;have g5:D.size=d.size:=g5;have g6:pdq ltInt D a b lm wb wp=W:=g6;obtain⟨n,hn⟩:∃n,n=b-a:=⟨_,rfl⟩;have w0:IntKind.i64.wrap ((b:Int)-(a:Int))=(n:Int):=by rw[wrap_i64 (by omega)];omega
     have s1:(a:Int)≤(b:Int):=by omega
     have s2:(b:Int)≤(D.size:Int):=by omega
     have s3:D.size≤1000000:=by omega
     have s4:D.size≤200:=by omega
     have s5:D.size<50:=by omega
     rw[kG];dsimp only;rw[aM];apply af;·simp(config := { maxSteps := 3000000 }) [w0];exact⟨rfl,rfl⟩
     by_cases h12:b-a≤12
     ·have hx:pdq ltInt D a b lm wb wp=insertionSort ltInt D a b:=by rw[pdq,if_pos h12]
      rw[hx]at g6;have c12:(n:Int)≤12:=by omega
      subst g6;simp(config := { maxSteps := 3000000 }) [c12,s1,s2,s3]
     have c12:¬(n:Int)≤12:=by omega
     apply af;·simp(config := { maxSteps := 3000000 }) [c12];exact⟨rfl,rfl⟩
     by_cases hl0:lm=0
     ·have hx:pdq ltInt D a b lm wb wp=heapSort ltInt D a b:=by rw[pdq,if_neg h12,if_pos hl0]
      rw[hx]at g6;subst g6;subst hl0;simp(config := { maxSteps := 3000000 }) [s1,s2,s3]
     have cl0:¬(lm:Int)=0:=by omega
     apply af;·simp(config := { maxSteps := 3000000 }) [cl0,hl0];exact⟨rfl,rfl⟩
     obtain⟨D1,e1⟩:∃D1,D1=if(!wb)=true then breakPatterns D a b else D:=⟨_,rfl⟩;obtain⟨lm1,e2⟩:∃lm1,lm1=if(!wb)=true then lm-1 else lm:=⟨_,rfl⟩;obtain⟨c,e3⟩:∃c,c=choosePivot ltInt D1 a b:=⟨_,rfl⟩;obtain⟨D2,e4⟩:∃D2,D2=if c.2=.decreasing then reverseRange D1 a b else D1:=⟨_,rfl⟩;obtain⟨pv,e5⟩:∃pv,pv=if c.2=.decreasing then(b-1)-(c.1-a) else c.1:=⟨_,rfl⟩;obtain⟨hint,e6⟩:∃hint,hint=if c.2=.decreasing then Hint.increasing else c.2:=⟨_,rfl⟩;obtain⟨pi,e7⟩:∃pi,pi=if(wb&&wp&&decide (hint=.increasing))=true then partialInsertionSort ltInt D2 a b else(D2,false):=⟨_,rfl⟩;rw[Aw h12 hl0 e1 e2 e3 e4 e5 e6 e7]at g6;have t1:D1.size=D.size:=by
      rw[e1];split;·exact(breakPatterns_holds D a b g1 (by omega)).1
      ·rfl
     have t2:=choosePivot_holds ltInt D1 a b (by omega);rw[←e3]at t2;have t3:D2.size=D.size:=by
      rw[e4];split;·rw[(reverseRange_holds D1 a b g1 (by omega)).1,t1]
      ·exact t1
     have t4:a≤pv∧pv<b:=by rw[e5];split<;>omega
     have t5:lm1≤lm:=by rw[e2];split<;>omega
     have v1:IntKind.i64.wrap ((lm:Int)-1)=((lm-1:Nat):Int):=by rw[wrap_i64 (by omega)];omega
     apply gD (fun st'=>∃x:AV,st'=⟨look [(0,.own 999),(1,.pv (.int .i64 (a:Int))),(2,.pv (.int .i64 (b:Int))),(3,.pv (.int .i64 (lm1:Int))),(8,.pv (.bool wb)),(9,.pv (.bool wp)),(10,.pv (.int .i64 (n:Int))),(11,.ay),(12,.ay),(13,.ay),(14,.ay),(15,.ay),(16,.ay),(17,.ay),(18,.ay),(23,.pv (.bool false)),(29,.pv (.bool false)),(35,x),(50,.ay),(68,.ay),(72,.ay),(87,.ay),(113,.ay)],ab [(999,.arr 22 (rA D1))]⟩);·cases wb with|true=>have e1:D1=D:=e1;have e2:lm1=lm:=e2;rw[e1,e2];simp(config := { maxSteps := 3000000 });exact⟨_,rfl⟩|false=>have e1:D1=breakPatterns D a b:=e1;have e2:lm1=lm-1:=e2;rw[e1,e2];simp(config := { maxSteps := 3000000 }) [s1,s2,s4,v1];exact⟨_,rfl⟩
     rintro st' ⟨x35,rfl⟩;have s2a:(b:Int)≤(D1.size:Int):=by omega
     have s3a:D1.size≤1000000:=by omega
     apply af;·simp(config := { maxSteps := 3000000 }) [s1,s2a,s3a,←e3];exact⟨rfl,rfl⟩
     apply gD (fun st'=>∃x:AV,st'=⟨look [(0,.own 999),(1,.pv (.int .i64 (a:Int))),(2,.pv (.int .i64 (b:Int))),(3,.pv (.int .i64 (lm1:Int))),(8,.pv (.bool wb)),(9,.pv (.bool wp)),(10,.pv (.int .i64 (n:Int))),(11,.pv (.int .i64 (pv:Int))),(12,.pv (.int .i64 (fD hint))),(13,.ay),(14,.ay),(15,.ay),(16,.ay),(17,.ay),(18,.ay),(23,.pv (.bool false)),(29,.pv (.bool false)),(35,x35),(50,x),(68,.ay),(72,.ay),(87,.ay),(113,.ay)],ab [(999,.arr 22 (rA D2))]⟩)
     ·by_cases hd:c.2=.decreasing
      ·rw[if_pos hd]at e4 e5 e6;have k1:fD c.2=2:=by rw[hd];rfl
       have k2:fD hint=1:=by rw[e6];rfl
       have v2:IntKind.i64.wrap ((b:Int)-1)=(b:Int)-1:=wrap_i64 (by omega);have v3:IntKind.i64.wrap ((c.1:Int)-(a:Int))=(c.1:Int)-(a:Int):=wrap_i64 (by omega);have v4:IntKind.i64.wrap ((b:Int)-1-((c.1:Int)-(a:Int)))=(pv:Int):=by rw[wrap_i64 (by omega)];omega
       rw[k1,k2];simp(config := { maxSteps := 3000000 }) [s1,s2a,s3a,v2,v3,v4,←e4];exact⟨_,rfl⟩
      ·rw[if_neg hd]at e4 e5 e6;have k1:¬fD c.2=2:=by revert hd;cases c.2<;>simp[fD]
       rw[e4,e5,e6];simp(config := { maxSteps := 3000000 }) [k1];exact⟨_,rfl⟩
     rintro st' ⟨x50,rfl⟩;have s2b:(b:Int)≤(D2.size:Int):=by omega
     have s5b:D2.size<50:=by omega
     have s1b:(a:Int)<(b:Int):=by omega
     have t6:pi.1.size=D.size:=by
      rw[e7];split;·rw[B8 (by omega)];exact t3
      ·exact t3
     apply gD (fun st'=>pi.2=false∧∃x y:AV,st'=⟨look [(0,.own 999),(1,.pv (.int .i64 (a:Int))),(2,.pv (.int .i64 (b:Int))),(3,.pv (.int .i64 (lm1:Int))),(8,.pv (.bool wb)),(9,.pv (.bool wp)),(10,.pv (.int .i64 (n:Int))),(11,.pv (.int .i64 (pv:Int))),(12,.pv (.int .i64 (fD hint))),(13,.ay),(14,.ay),(15,.ay),(16,.ay),(17,.ay),(18,.ay),(23,.pv (.bool false)),(29,.pv (.bool false)),(35,x35),(50,x50),(68,x),(72,y),(87,.ay),(113,.ay)],ab [(999,.arr 22 (rA pi.1))]⟩);·cases hb:(wb&&wp&&decide (hint=.increasing)) with
      |true=>
       rw[hb,if_pos rfl]at e7;simp only[Bool.and_eq_true,decide_eq_true_eq]at hb;obtain⟨⟨rfl,rfl⟩,hh⟩:=hb;have k2:fD hint=1:=by rw[hh];rfl
       rw[k2];apply af;·simp(config := { maxSteps := 3000000 });exact⟨rfl,rfl⟩
       apply gN rfl;apply af;·simp(config := { maxSteps := 3000000 }) [s1b,s2b,s5b,←e7];exact⟨rfl,rfl⟩
       cases hp:pi.2 with|true=>rw[hp,if_pos rfl]at g6;simp(config := { maxSteps := 3000000 }) [g6]|false=>simp(config := { maxSteps := 3000000 });exact⟨_,_,rfl⟩
      |false=>rw[hb,if_neg (by simp)]at e7;rw[e7];refine eW (fun _ h=>⟨rfl,h⟩) (fun _ _ h=>h) ?_;cases wb with|false=>simp(config := { maxSteps := 3000000 });exact⟨_,_,rfl⟩|true=>cases wp with|false=>simp(config := { maxSteps := 3000000 });exact⟨_,_,rfl⟩|true=>
        have k1:¬fD hint=1:=by revert hb;cases hint<;>simp[fD]
        simp(config := { maxSteps := 3000000 }) [k1];exact⟨_,_,rfl⟩
     rintro st' ⟨hp,x68,x72,rfl⟩;rw[hp,if_neg (by simp)]at g6;obtain⟨D3,e8⟩:∃D3,D3=pi.1:=⟨_,rfl⟩;rw[←e8]at g6 t6 ⊢;obtain⟨u,hu⟩:∃u,u=a-1:=⟨_,rfl⟩;have q1:pv<D3.size:=by omega
     have q2:u<D3.size:=by omega
     have r1:=bz q1;have r2:=bz q2;have s2c:(b:Int)≤(D3.size:Int):=by omega
     have s3c:D3.size≤1000000:=by omega
     have s6:(a:Int)≤(pv:Int):=by omega
     have s7:(pv:Int)<(b:Int):=by omega
     rw[←hu]at g6;cases hc:decide (a>0)&&!ltInt D3[u]! D3[pv]! with|true=>
      rw[hc,if_pos rfl]at g6;simp only[Bool.and_eq_true,decide_eq_true_eq,Bool.not_eq_true']at hc;obtain⟨ha0,hl1⟩:=hc;have hl2:ltInt (gA D3 u) (gA D3 pv)=false:=hl1;have c1:0<a:=ha0;have v2:IntKind.i64.wrap ((a:Int)-1)=(u:Int):=by rw[wrap_i64 (by omega)];omega
      obtain⟨E,hE⟩:∃E,E=partitionEqual ltInt D3 a b pv:=⟨_,rfl⟩;have hr:=v9 a b _ (a+1) (b-1) (swp D3 a pv) rfl (by omega) (by omega) (by omega);rw[show partEqLoop ltInt a (a+1) (b-1) (swp D3 a pv)=E from hE.symm,size_swp]at hr;rw[←hE,if_pos ⟨hr.1,hr.2.1⟩]at g6;rw[bd]
      ·apply af;·simp(config := { maxSteps := 3000000 }) [c1,v2,q1,q2,r1,r2,hl2];exact⟨rfl,rfl⟩
       apply gN rfl;apply af;·simp(config := { maxSteps := 3000000 }) [s6,s7,s1,s2c,s3c,←hE];exact⟨rfl,rfl⟩
       apply af;·simp(config := { maxSteps := 3000000 });exact⟨rfl,rfl⟩
       rw[FT];simp only[oq,if_true];refine⟨(((E.1,b),lm1),(wb,wp),E.2),⟨⟨by show E.1≤b;omega,by show b≤d.size;omega⟩,by show b-E.1<N+1;omega,by show lm1≤1000;omega,by show E.2.size=d.size;omega,g6⟩,?_,by show b-E.1<b-a;omega⟩;simp|false=>
      rw[hc,if_neg (by simp)]at g6;obtain⟨E,hE⟩:∃E,E=partition ltInt D3 a b pv:=⟨_,rfl⟩;have hr:=vv (d:=D3) (a:=a) (b:=b) (c:=pv) (by omega) (by omega) (by omega);rw[←hE]at hr g6;rw[if_pos ⟨hr.1,hr.2.1⟩]at g6;apply gD (fun st'=>∃x:AV,st'=⟨look [(0,.own 999),(1,.pv (.int .i64 (a:Int))),(2,.pv (.int .i64 (b:Int))),(3,.pv (.int .i64 (lm1:Int))),(8,.pv (.bool wb)),(9,.pv (.bool wp)),(10,.pv (.int .i64 (n:Int))),(11,.pv (.int .i64 (pv:Int))),(12,.pv (.int .i64 (fD hint))),(13,.ay),(14,.ay),(15,.ay),(16,.ay),(17,.ay),(18,.ay),(23,.pv (.bool false)),(29,.pv (.bool false)),(35,x35),(50,x50),(68,x68),(72,x72),(87,x),(113,.ay)],ab [(999,.arr 22 (rA D3))]⟩)
      ·rcases Nat.eq_zero_or_pos a with ha0|ha0
       ·have c1:¬0<a:=by omega
        have v2:IntKind.i64.wrap ((a:Int)-1)=-1:=by rw[ha0];decide
        have r0:rowAt (rA D3) (-1)=[.int .u64 (gA D3 0)]:=bz (d:=D3) (i:=0) (by omega);simp(config := { maxSteps := 3000000 }) [c1,v2,q1,r1,r0];exact⟨_,rfl⟩
       ·have hl1:ltInt D3[u]! D3[pv]! =true:=by cases hl:ltInt D3[u]! D3[pv]! with|true=>rfl|false=>rw[hl]at hc;simp at hc;omega
        have hl2:ltInt (gA D3 u) (gA D3 pv)=true:=hl1;have c1:0<a:=ha0;have v2:IntKind.i64.wrap ((a:Int)-1)=(u:Int):=by rw[wrap_i64 (by omega)];omega
        simp(config := { maxSteps := 3000000 }) [c1,v2,q1,q2,r1,r2,hl2];exact⟨_,rfl⟩
      rintro st' ⟨x87,rfl⟩;obtain⟨m1,hm1⟩:∃m1,m1=E.1-a:=⟨_,rfl⟩;obtain⟨m2,hm2⟩:∃m2,m2=b-E.1:=⟨_,rfl⟩;obtain⟨n8,hn8⟩:∃n8,n8=(b-a)/8:=⟨_,rfl⟩;rw[←hm1,←hm2,←hn8]at g6;have y1:IntKind.i64.wrap ((E.1:Int)-(a:Int))=(m1:Int):=by rw[wrap_i64 (by omega)];omega
      have y2:IntKind.i64.wrap ((b:Int)-(E.1:Int))=(m2:Int):=by rw[wrap_i64 (by omega)];omega
      have y3:(n:Int).tdiv 8=(n8:Int):=by rw[Int.tdiv_eq_ediv_of_nonneg (by omega)];omega
      have y4:IntKind.i64.wrap (n8:Int)=(n8:Int):=wrap_i64 (by omega);have y5:IntKind.i64.wrap ((E.1:Int)+1)=((E.1+1:Nat):Int):=by rw[wrap_i64 (by omega)];omega
      have N0:N≠0:=by omega
      apply af;·simp(config := { maxSteps := 3000000 }) [s6,s7,s1,s2c,s3c,←hE];exact⟨rfl,rfl⟩
      apply af;·simp(config := { maxSteps := 3000000 });exact⟨rfl,rfl⟩
      apply af;·simp(config := { maxSteps := 3000000 }) [y1,y2];exact⟨rfl,rfl⟩
      apply af;·simp(config := { maxSteps := 3000000 }) [y3,y4];exact⟨rfl,rfl⟩
      obtain⟨G,hG⟩:∃G,G=E.2.2:=⟨_,rfl⟩;obtain⟨k,hk⟩:∃k,k=E.1:=⟨_,rfl⟩;rw[←hG,←hk]at g6 hr;rw[←hG,←hk];rw[←hk]at y5 hm1 hm2;by_cases hlt:m1<m2
      ·rw[if_pos hlt]at g6;apply af;·simp(config := { maxSteps := 3000000 }) [hlt];exact⟨rfl,rfl⟩
       apply gN rfl;apply af;·simp(config := { maxSteps := 3000000 });exact⟨rfl,rfl⟩
       obtain⟨P,hP⟩:∃P,P=pdq ltInt G a k lm1 true true:=⟨_,rfl⟩;have zP:P.size=d.size:=by rw[hP,zO _ _ _ _ _ _ _ rfl (by omega) (by omega) (by omega)];omega
       rw[←hP]at g6;have o1:(a:Int)≤(k:Int):=by omega
       have o2:(k:Int)-(a:Int)<(N:Int):=by omega
       have o3:(k:Int)≤(G.size:Int):=by omega
       have o4:G.size<50:=by omega
       have o5:(lm1:Int)≤1000:=by omega
       apply af;·simp(config := { maxSteps := 3000000 }) [N0,o1,o2,o3,o4,o5,←hP];exact⟨rfl,rfl⟩
       apply ue;·simp(config := { maxSteps := 3000000 }) [y5];exact⟨rfl,rfl⟩
       refine⟨(((k+1,b),lm1),(decide (m1≥n8),E.2.1),P),⟨⟨by show k+1≤b;omega,by show b≤d.size;omega⟩,by show b-(k+1)<N+1;omega,by show lm1≤1000;omega,zP,g6⟩,?_,by show b-(k+1)<b-a;omega⟩;simp
      ·rw[if_neg hlt]at g6;have hge:m2≤m1:=by omega
       apply af;·simp(config := { maxSteps := 3000000 }) [hlt];exact⟨rfl,rfl⟩
       apply jv rfl;apply af;·simp(config := { maxSteps := 3000000 });exact⟨rfl,rfl⟩
       obtain⟨k1,hk1⟩:∃k1,k1=k+1:=⟨_,rfl⟩;rw[←hk1]at g6 y5;obtain⟨P,hP⟩:∃P,P=pdq ltInt G k1 b lm1 true true:=⟨_,rfl⟩;have zP:P.size=d.size:=by rw[hP,zO _ _ _ _ _ _ _ rfl (by omega) (by omega) (by omega)];omega
       rw[←hP]at g6;have o1:(k1:Int)≤(b:Int):=by omega
       have o2:(b:Int)-(k1:Int)<(N:Int):=by omega
       have o3:(b:Int)≤(G.size:Int):=by omega
       have o4:G.size<50:=by omega
       have o5:(lm1:Int)≤1000:=by omega
       apply af;·simp(config := { maxSteps := 3000000 }) [N0,o1,o2,o3,o4,o5,y5,←hP];exact⟨rfl,rfl⟩
       apply ue;·simp(config := { maxSteps := 3000000 });exact⟨rfl,rfl⟩
       refine⟨(((a,k),lm1),(decide (m2≥n8),E.2.1),P),⟨⟨by show a≤k;omega,by show k≤d.size;omega⟩,by show k-a<N+1;omega,by show lm1≤1000;omega,zP,g6⟩,?_,by show k-a<b-a;omega⟩;simp
   ·cases h
  ·cases h
theorem HY (l:List Int):(Go.Sort.sort ltInt l.toArray).toList=tF l:=sortInt_holds (sort_holds (pdq_holds insertionSort_holds heapSort_holds partialInsertionSort_holds (partition_holds _) (partitionEqual_holds _) reverseRange_holds)) l
@[simp] noncomputable def GSo:List AV→Option (Prop×AV)|[.aQ [.fr e a]]=>if e=22 then(dec dF a).map fun l=>(l.length<50,.bJ 0 [.aQ [],.fr 22 (bA (tF l))]) else none|_=>none
theorem Jj:dR Tryz.prog 140 GSo:=by
 intro ys φ r h hφ;unfold GSo at h;split at h
 ·rename_i e ra;split at h
  ·rename_i he;subst he;obtain⟨l,hl,h⟩:=Option.map_eq_some_iff.1 h;cases h;cases cZ hl;have hφ:l.length<50:=hφ;have hx:bA (tF l)=rA (pdq ltInt l.toArray 0 l.length (bitsLen l.length) true true):=by rw[←HY];unfold Go.Sort.sort rA;simp
   rw[hx,zq];have h8:=(mn l.length (by omega)).2;obtain⟨d,hd⟩:∃d,d=l.toArray:=⟨_,rfl⟩;have hds:d.size=l.length:=by rw[hd];simp
   rw[←hd,←hds];rw[←hds]at h8 hφ;obtain⟨m,hm⟩:∃m,m=bitsLen d.size:=⟨_,rfl⟩;rw[←hm]at h8 ⊢;have w1:IntKind.u64.wrap (d.size:Int)=(d.size:Int):=wrap_u64 (by omega);have w2:(d.size:Int)<256:=by omega
   have w3:(m:Int)≤1000:=by omega
   refine cu (ag KW (bk (ks:=[2,0,0,0]) (Vl 50) (by kernel_rfl) ah)) (by kernel_rfl) (by conv=>lhs;reduce) (by simp) rfl (by simp) ?_;simp(config := { maxSteps := 3000000 }) [w1,w2,w3,hφ,←hm];omega
  ·cases h
 ·cases h
end Go.Proofs.YtlmkcmfmfahcfaaGreat.Ab
namespace Go.Proofs.YtlmkcmfmfahcfaaGreat.Ab
open Go Go.RowKit R
@[simp] noncomputable def GpV:List AV→Option (Prop×AV)|[.agg [.pv (.ro a)]]=>(dec rowP a).map fun l=>(l.length<50,.fr 22 (bA (kI (l.map Pn.v))))|_=>none
theorem c_pV:aO Tryz.prog 121 GpV:=by
 intro ys φ r h hφ;unfold GpV at h;split at h
 ·rename_i ra;obtain⟨a,ha,h⟩:=Option.map_eq_some_iff.1 h;cases h;cases aG ha;have hl5:a.length<50:=hφ;refine aw (bk (ks:=[2]) Jj (by kernel_rfl) (il (p:=0) (k:=998) SS (by kernel_rfl) ah)) (by kernel_rfl) (by conv=>lhs;reduce) (by simp) ?_;simp(config := { maxSteps := 3000000 });refine aq (fun i:Nat=>i≤a.length) (fun i=>⟨[(3,.own 3),(7,.pv (.ro (aF a))),(8,.pv (.int .i64 a.length)),(9,.pv (.int .i64 i))],[(3,.arr 22 (bA ((a.take i).map Pn.v)))]⟩) (fun i=>a.length-i) [] 0 (by simp) ?_ ?_;·simp
  ·intro i hi;have w2:IntKind.i64.wrap ((i:Int)+1)=(i:Int)+1:=wrap_i64 (by omega);by_cases hlt:i<a.length
   ·have r1:=cr hlt;have hll:((a.take i).map Pn.v).length=i:=by simp;omega
    have htk:(a.take (i+1)).map Pn.v=(a.take i).map Pn.v++[a[i].v]:=by rw[List.take_succ_eq_append_getElem hlt,List.map_append];rfl
    simp(config := { maxSteps := 3000000 }) [w2,hlt,r1,aB];refine⟨⟨by omega,by omega⟩,i+1,by omega,⟨by omega,by have:=congrArg bA htk;rw[gX,List.map_take,List.map_take]at this;exact this.symm⟩,by omega⟩
   ·have hia:i=a.length:=by omega
    subst hia;have hsl:(tF (a.map Pn.v)).length≤1000000:=by simp[tF];omega
    have hml:(a.map Pn.v).length<50:=by simp;omega
    simp(config := { maxSteps := 3000000 }) [hsl,hml,hl5];rfl
 ·cases h
def On:List AV→Option (Prop×AV)|[]=>some (True,.pv (.bool true))|_=>none
@[simp] theorem Pz:On []=some (True,.pv (.bool true)):=rfl
def cW (l:List Vn) (v:Vn):List Vn×Int:=if aK l=false∨v.dm=true∨v.n=0∨(0<l.length∧v.n≤kN l) then([],2) else if bh v≠0∧(dE l (bh v)).isSome=false then([],150) else(l++[v],0)
@[simp] noncomputable def I9 (e:TypeId):List AV→Option (Prop×AV)|[.pv (.ro a),.agg [.pv (.int .u64 n),.pv (.int .u64 b),.pv (.int .u64 p),.pv (.int .u64 i),.pv (.int .u64 s),.pv (.int .u64 z),.pv (.int .u64 m),.pv (.str t),.pv (.bool inl),.pv (.bool dm)]]=>(dec cM a).map fun l=>(l.length≤100000∧(∀v∈l,eL v)∧eL ⟨n,b,p,i,s,z,m,t,inl,dm⟩,.aQ [.fr e (aC (cW l ⟨n,b,p,i,s,z,m,t,inl,dm⟩).1),.pv (.int .i64 (cW l ⟨n,b,p,i,s,z,m,t,inl,dm⟩).2)])|_=>none
theorem LU:aO Tryz.prog 116 (I9 73):=by
 intro ys φ r h hφ;unfold I9 at h;split at h
 ·rename_i ra n b p i s z m t inl dm;obtain⟨a,ha,h⟩:=Option.map_eq_some_iff.1 h;cases h;cases aD ha;obtain⟨hl5,hov,hvv⟩:=hφ;have hl9:a.length≤1000000000:=by omega
  have hl6:a.length≤1000000:=by omega
  have fl:∀l,bE (aC l):=ax;have hbv:(if inl=true then 0 else b)=bh ⟨n,b,p,i,s,z,m,t,inl,dm⟩:=rfl;refine aw (ag Dq (ag BL (ag HM (ag E0 ah)))) (by kernel_rfl) (by conv=>lhs;reduce) (by simp) ?_;by_cases h0:0<a.length
  ·have w1:IntKind.i64.wrap ((a.length:Int)-1)=(a.length:Int)-1:=wrap_i64 (by omega);have hlt:a.length-1<a.length:=by omega
   have r1:=aV hlt;rw[show((a.length-1:Nat):Int)=(a.length:Int)-1 from by omega]at r1;have hln:a[a.length-1].n=kN a:=by unfold kN;rw[List.getLast?_eq_getElem?,List.getElem?_eq_getElem hlt];rfl
   rw[hln]at r1;have b1:1≤(a.length:Int):=by omega
   have b2:(a.length:Int)-1<a.length:=by omega
   cases hr:aK a with|false=>
    have hi:cW a ⟨n,b,p,i,s,z,m,t,inl,dm⟩=([],2):=by simp[cW,hr]
    simp(config := { maxSteps := 3000000 }) [hl9,hl6,hr,hi,fl,w1,r1,h0,b1,b2]|true=>cases dm with
   |true=>
    have hi:cW a ⟨n,b,p,i,s,z,m,t,inl,true⟩=([],2):=by simp[cW,hr]
    simp(config := { maxSteps := 3000000 }) [hl9,hl6,hr,hi,fl,w1,r1,h0,b1,b2]|false=>
   by_cases hn:n=0
   ·have hi:cW a ⟨n,b,p,i,s,z,m,t,inl,false⟩=([],2):=by simp[cW,hr,hn]
    simp(config := { maxSteps := 3000000 }) [hl9,hl6,hr,hi,fl,w1,r1,h0,b1,b2,hn];try(rw[←hn];simp[hi])
   by_cases hle:n≤kN a
   ·have hi:cW a ⟨n,b,p,i,s,z,m,t,inl,false⟩=([],2):=by simp[cW,hr,hn,hle,h0]
    simp(config := { maxSteps := 3000000 }) [hl9,hl6,hr,hi,fl,w1,r1,h0,b1,b2,hn,hle]
   by_cases hb:bh ⟨n,b,p,i,s,z,m,t,inl,false⟩=0
   ·have hi:cW a ⟨n,b,p,i,s,z,m,t,inl,false⟩=(a++[⟨n,b,p,i,s,z,m,t,inl,false⟩],0):=by simp[cW,hr,hn,hle,h0,hb]
    simp(config := { maxSteps := 3000000 }) [hl9,hl6,hr,fl,w1,r1,h0,b1,b2,hn,hle,hbv,bG,hb,hi,aB];exact⟨⟨by omega,by omega⟩,by rw[bO];rfl⟩
   ·cases hg:(dE a (bh ⟨n,b,p,i,s,z,m,t,inl,false⟩)).isSome with|false=>
     have hi:cW a ⟨n,b,p,i,s,z,m,t,inl,false⟩=([],150):=by simp[cW,hr,hn,hle,h0,hb,hg]
     simp(config := { maxSteps := 3000000 }) [hl9,hl6,hr,fl,w1,r1,h0,b1,b2,hn,hle,hbv,bG,hb,hi,hg]|true=>
     have hi:cW a ⟨n,b,p,i,s,z,m,t,inl,false⟩=(a++[⟨n,b,p,i,s,z,m,t,inl,false⟩],0):=by simp[cW,hr,hn,hle,h0,hb,hg]
     simp(config := { maxSteps := 3000000 }) [hl9,hl6,hr,fl,w1,r1,h0,b1,b2,hn,hle,hbv,bG,hb,hi,hg,aB];exact⟨⟨by omega,by omega⟩,by rw[bO];rfl⟩
  ·have:a=[]:=List.eq_nil_of_length_eq_zero (by omega);subst this;have hr:aK []=true:=rfl;have r0:∀k:Int,rowAt [] k=[]:=fun k=>by simp[rowAt]
   have hd0:dec cM []=some []:=pg [];have hg0:∀q,dE [] q=none:=fun q=>rfl;have f0:bE []:=ax [];cases dm with
   |true=>
    have hi:cW [] ⟨n,b,p,i,s,z,m,t,inl,true⟩=([],2):=by simp[cW,hr]
    simp(config := { maxSteps := 3000000 }) [hr,hi,r0,hd0,f0]|false=>
   by_cases hn:n=0
   ·have hi:cW [] ⟨n,b,p,i,s,z,m,t,inl,false⟩=([],2):=by simp[cW,hr,hn]
    simp(config := { maxSteps := 3000000 }) [hr,hi,r0,hd0,f0,hn];try(rw[←hn];simp[hi])
   by_cases hb:bh ⟨n,b,p,i,s,z,m,t,inl,false⟩=0
   ·have hi:cW [] ⟨n,b,p,i,s,z,m,t,inl,false⟩=([⟨n,b,p,i,s,z,m,t,inl,false⟩],0):=by simp[cW,hr,hn,hb]
    simp(config := { maxSteps := 3000000 }) [hr,hi,r0,hd0,f0,hg0,hn,hb,hbv,aB,v0,bG];rfl
   ·have hi:cW [] ⟨n,b,p,i,s,z,m,t,inl,false⟩=([],150):=by simp[cW,hr,hn,hb,hg0]
    simp(config := { maxSteps := 3000000 }) [hr,hi,r0,hd0,f0,hg0,hn,hb,hbv,v0,bG]
 ·cases h
theorem Is:aO Tryz.prog 71 (I9 92):=by
 intro ys φ r h hφ;unfold I9 at h;split at h
 ·rename_i ra n b p i s z m t inl dm;obtain⟨a,ha,h⟩:=Option.map_eq_some_iff.1 h;cases h;cases aD ha;obtain⟨hl5,hov,hvv⟩:=hφ;have hl9:a.length≤1000000000:=by omega
  have hl6:a.length≤1000000:=by omega
  have fl:∀l,bE (aC l):=ax;have hbv:(if inl=true then 0 else b)=bh ⟨n,b,p,i,s,z,m,t,inl,dm⟩:=rfl;have hbp:0≤bh ⟨n,b,p,i,s,z,m,t,inl,dm⟩:=oU hvv;refine aw (ag yF (ag B7 (ag KJ ah))) (by kernel_rfl) (by conv=>lhs;reduce) (by simp) ?_;cases hr:aK a with
  |false=>
   have hi:cW a ⟨n,b,p,i,s,z,m,t,inl,dm⟩=([],2):=by simp[cW,hr]
   simp(config := { maxSteps := 3000000 }) [hl9,hl6,hr,hi,fl];exact hov|true=>cases dm with
  |true=>
   have hi:cW a ⟨n,b,p,i,s,z,m,t,inl,true⟩=([],2):=by simp[cW,hr]
   simp(config := { maxSteps := 3000000 }) [hl9,hl6,hr,hi,fl];exact hov|false=>
  by_cases hn:n=0
  ·have hi:cW a ⟨n,b,p,i,s,z,m,t,inl,false⟩=([],2):=by simp[cW,hr,hn]
   simp(config := { maxSteps := 3000000 }) [hl9,hl6,hr,hi,fl,hn];refine⟨hov,?_⟩;try(rw[←hn];simp[hi])
  simp(config := { maxSteps := 3000000 }) [hl9,hl6,hr,fl,hn];refine⟨hov,?_⟩;refine aq (fun i:Nat=>i≤a.length∧∀j (h:j<a.length),j<i→a[j].n<n) (fun i'=>⟨[(0,.pv (.ro (aC a))),(3,.ptr 3 0),(6,.pv (.int .i64 i'))],[(3,.box [.pv (.int .u64 n),.pv (.int .u64 b),.pv (.int .u64 p),.pv (.int .u64 i),.pv (.int .u64 s),.pv (.int .u64 z),.pv (.int .u64 m),.pv (.str t),.pv (.bool inl),.pv (.bool false)])]⟩) (fun i=>a.length-i) [] 0 (by simp) ?_ ?_;·simp
  ·rintro k ⟨hk,ht⟩;have w2:IntKind.i64.wrap ((k:Int)+1)=(k:Int)+1:=wrap_i64 (by omega);by_cases hlt:k<a.length
   ·have r1:=aV hlt;by_cases hge:n≤a[k].n
    ·have hla:=B5 hr hlt;have hi:cW a ⟨n,b,p,i,s,z,m,t,inl,false⟩=([],2):=by
      have h1:0<a.length:=by omega
      have h2:n≤kN a:=by omega
      simp[cW,h1,h2]
     simp(config := { maxSteps := 3000000 }) [w2,hlt,r1,hge,hi]
    ·simp(config := { maxSteps := 3000000 }) [w2,hlt,r1,hge];refine⟨k+1,⟨by omega,fun j hj hjk=>?_⟩,by omega,by omega⟩;by_cases hjk':j=k;·subst hjk';omega
     ·exact ht j hj (by omega)
   ·have hle:¬(0<a.length∧n≤kN a):=by
     rintro⟨h0,hle⟩;have hlt':a.length-1<a.length:=by omega
     have h1:=ht (a.length-1) hlt' (by omega);have h2:kN a=a[a.length-1].n:=by unfold kN;rw[List.getLast?_eq_getElem?,List.getElem?_eq_getElem hlt'];rfl
     omega
    have hle':0<a.length→kN a<n:=fun h1=>by
     by_cases h2:n≤kN a;·exact absurd ⟨h1,h2⟩ hle
     ·omega
    by_cases hb:bh ⟨n,b,p,i,s,z,m,t,inl,false⟩=0
    ·have hi:cW a ⟨n,b,p,i,s,z,m,t,inl,false⟩=(a++[⟨n,b,p,i,s,z,m,t,inl,false⟩],0):=by simp[cW,hr,hn,hb];exact fun h1=>hle' (by first|exact h1|exact List.length_pos_iff.2 h1)
     simp(config := { maxSteps := 3000000 }) [hlt,hl6,hbv,hb,hi,aB];exact⟨⟨by omega,by omega,fS a⟩,⟨by omega,by omega⟩,by rw[bO];rfl⟩
    ·have hb':0<bh ⟨n,b,p,i,s,z,m,t,inl,false⟩:=by omega
     cases hg:(dE a (bh ⟨n,b,p,i,s,z,m,t,inl,false⟩)).isSome with|false=>
      have hi:cW a ⟨n,b,p,i,s,z,m,t,inl,false⟩=([],150):=by simp[cW,hr,hn,hb,hg];exact fun h1=>hle' (by first|exact h1|exact List.length_pos_iff.2 h1)
      simp(config := { maxSteps := 3000000 }) [hlt,hl6,hbv,hb,hb',hi,hg,bG]|true=>
      have hi:cW a ⟨n,b,p,i,s,z,m,t,inl,false⟩=(a++[⟨n,b,p,i,s,z,m,t,inl,false⟩],0):=by simp[cW,hr,hn,hb,hg];exact fun h1=>hle' (by first|exact h1|exact List.length_pos_iff.2 h1)
      simp(config := { maxSteps := 3000000 }) [hlt,hl6,hbv,hb,hb',hi,hg,bG,aB];exact⟨⟨by omega,by omega,fS a⟩,⟨by omega,by omega⟩,by rw[bO];rfl⟩
 ·cases h
def jR (l:List Vn) (ts:List (List UInt8)):List Vn:=List.zipWith (fun(v:Vn) t=>df v.n t) l ts
def bL (l:List Vn) (ts:List (List UInt8)):List Vn×Int:=if aK l=false∨ts.length≠(aN l).length then([],2) else(jR (aN l) ts,0)
theorem vl {l:List Vn}{ts:List (List UInt8)}{i:Nat} (h1:i<l.length) (h2:i<ts.length):jR (l.take (i+1)) (ts.take (i+1))=jR (l.take i) (ts.take i)++[df l[i].n ts[i]]:=by unfold jR;rw[List.take_succ_eq_append_getElem h1,List.take_succ_eq_append_getElem h2,List.zipWith_append (by simp;omega)];rfl
@[simp] noncomputable def JF (e:TypeId):List AV→Option (Prop×AV)|[.pv (.ro a),.pv (.ro ts)]=>(dec cM a).bind fun l=>(dec ln ts).map fun ts=>(l.length≤100000∧(∀v∈l,eL v),.aQ [.fr e (aC (bL l ts).1),.pv (.int .i64 (bL l ts).2)])|_=>none
theorem LM:aO Tryz.prog 103 (JF 92):=by
 intro ys φ r h hφ;unfold JF at h;split at h
 ·rename_i ra rts;obtain⟨a,ha,h⟩:=Option.bind_eq_some_iff.1 h;obtain⟨ts,hts,h⟩:=Option.map_eq_some_iff.1 h;cases h;cases aD ha;cases ej hts;obtain⟨hl5,hov⟩:=hφ;have hl9:a.length≤1000000000:=by omega
  have hl6:a.length≤1000000:=by omega
  have hsl:=dW a;have fl:∀l,bE (aC l):=ax;refine aw (ag Jf (ag yF ah)) (by kernel_rfl) (by conv=>lhs;reduce) (by simp) ?_;cases hr:aK a with
  |false=>
   have hi:bL a ts=([],2):=by simp[bL,hr]
   simp(config := { maxSteps := 3000000 }) [hl9,hl6,hr,hi,fl];exact hov|true=>
   by_cases hq:ts.length=(aN a).length
   ·have hi:bL a ts=(jR (aN a) ts,0):=by simp[bL,hr,hq]
    simp(config := { maxSteps := 3000000 }) [hl9,hl6,hr,hi,fl,hq];refine⟨hov,?_⟩;refine aq (fun i:Nat=>i≤ts.length) (fun i=>⟨[(1,.pv (.ro (eZ ts))),(6,.own 10),(7,.own 7),(8,.pv (.int .i64 i))],[(10,.arr 92 (aC (aN a))),(7,.arr 92 (aC (jR ((aN a).take i) (ts.take i))))]⟩) (fun i=>ts.length-i) [] 0 (by simp) ?_ ?_;·simp[jR]
    ·intro i hi;have w2:IntKind.i64.wrap ((i:Int)+1)=(i:Int)+1:=wrap_i64 (by omega);by_cases hlt:i<ts.length
     ·have hls:i<(aN a).length:=by omega
      have r1:=aV hls;have r2:=pV hlt;have hil:(jR ((aN a).take i) (ts.take i)).length=i:=by simp[jR];omega
      simp(config := { maxSteps := 3000000 }) [w2,hlt,hls,r1,r2,aB,hil];refine⟨⟨by omega,by omega⟩,i+1,by omega,⟨by omega,?_⟩,by omega⟩;rw[vl hls hlt,bO];rfl
     ·simp(config := { maxSteps := 3000000 }) [hlt];refine⟨by omega,fun _=>?_⟩;rw[List.take_of_length_le (by omega),List.take_of_length_le (by omega)]
   ·have hi:bL a ts=([],2):=by simp[bL,hr,hq]
    have hq':¬((aN a).length:Int)=ts.length:=by omega
    simp(config := { maxSteps := 3000000 }) [hl9,hl6,hr,hi,fl,hq'];exact hov
 ·cases h
def uB (l:List Vn) (ts:List (List UInt8)) (i:Nat):List Vn:=jR (l.take i) (ts.take i)++l.drop i
theorem Gc {l:List Vn}{ts:List (List UInt8)}{i:Nat} (h:ts.length=l.length) (hi:i≤l.length):(uB l ts i).length=l.length:=by simp[uB,jR];omega
theorem IU {l:List Vn}{ts:List (List UInt8)}{i:Nat} (h:ts.length=l.length) (hi:i<l.length):rowAt (aC (uB l ts i)) (i:Int)=cM l[i]:=by
 have hlen:(jR (l.take i) (ts.take i)).length=i:=by simp[jR];omega
 have hm:(uB l ts i)[i]?=some l[i]:=by unfold uB;rw[List.getElem?_append_right (by omega),hlen,Nat.sub_self,List.getElem?_drop,Nat.add_zero,List.getElem?_eq_getElem hi]
 simp[rowAt,aC,hm]
theorem Fz {l:List Vn}{ts:List (List UInt8)}{i:Nat} (h:ts.length=l.length) (hi:i<l.length):(aC (uB l ts i)).set i (cM (df l[i].n (ts[i]'(by omega))))=aC (uB l ts (i+1)):=by
 have hlen:(jR (l.take i) (ts.take i)).length=i:=by simp[jR];omega
 have hts:i<ts.length:=by omega
 unfold uB;rw[vl hi hts,List.drop_eq_getElem_cons hi];simp only[aC,List.map_append,List.map_cons,List.map_nil];rw[List.set_append_right _ _ (by simp[hlen])];simp[hlen]
theorem XJ:aO Tryz.prog 59 (JF 73):=by
 intro ys φ r h hφ;unfold JF at h;split at h
 ·rename_i ra rts;obtain⟨a,ha,h⟩:=Option.bind_eq_some_iff.1 h;obtain⟨ts,hts,h⟩:=Option.map_eq_some_iff.1 h;cases h;cases aD ha;cases ej hts;obtain⟨hl5,hov⟩:=hφ;have hl9:a.length≤1000000000:=by omega
  have hl6:a.length≤1000000:=by omega
  have hsl:=dW a;have fl:∀l,bE (aC l):=ax;refine aw (ag nj (ag Dq (ag Dg ah))) (by kernel_rfl) (by conv=>lhs;reduce) (by simp) ?_;cases hr:aK a with
  |false=>
   have hi:bL a ts=([],2):=by simp[bL,hr]
   simp(config := { maxSteps := 3000000 }) [hl9,hl6,hr,hi,fl]|true=>
   by_cases hq:ts.length=(aN a).length
   ·have hi:bL a ts=(jR (aN a) ts,0):=by simp[bL,hr,hq]
    simp(config := { maxSteps := 3000000 }) [hl9,hl6,hr,hi,fl,hq];refine aq (fun i:Nat=>i≤(aN a).length) (fun i=>⟨[(1,.pv (.ro (eZ ts))),(6,.own 10),(21,.own 10),(22,.pv (.int .i64 (aN a).length)),(23,.pv (.int .i64 i))],[(10,.arr 73 (aC (uB (aN a) ts i)))]⟩) (fun i=>(aN a).length-i) [] 0 (by simp) ?_ ?_;·simp[uB,jR]
    ·intro i hi;have w2:IntKind.i64.wrap ((i:Int)+1)=(i:Int)+1:=wrap_i64 (by omega);have hml:=Gc (i:=i) hq hi;by_cases hlt:i<(aN a).length
     ·have hls:i<ts.length:=by omega
      have r1:=IU hq hlt;have r2:=pV hls;have hset:=Fz hq hlt;simp only[cM,df]at r1 hset;simp(config := { maxSteps := 3000000 }) [w2,hlt,hls,r1,r2,hml];exact⟨i+1,by omega,⟨by omega,hset⟩,by omega⟩
     ·simp(config := { maxSteps := 3000000 }) [hlt,hml];unfold uB;rw[List.take_of_length_le (by omega),List.take_of_length_le (by omega),List.drop_eq_nil_of_le (by omega),List.append_nil]
   ·have hi:bL a ts=([],2):=by simp[bL,hr,hq]
    have hq':¬(ts.length:Int)=(aN a).length:=by omega
    simp(config := { maxSteps := 3000000 }) [hl9,hl6,hr,hi,fl,hq']
 ·cases h
def Gz (l m:List Vn) (i:Nat):Prop:=m.length=l.length∧∀k (h:k<m.length) (h':k<l.length) (h'':l.length-1-k<l.length),(k<i∨l.length-i≤k→m[k]=l[l.length-1-k])∧(i≤k∧k<l.length-i→m[k]=l[k])
theorem EI (l:List Vn):Gz l l 0:=⟨rfl,fun k h h' h''=>⟨fun h1=>by omega,fun _=>rfl⟩⟩
theorem Fw {l m:List Vn}{i:Nat} (h:Gz l m i) (hi:l.length≤2*i+1):m=l.reverse:=by
 obtain⟨hl,hk⟩:=h;apply List.ext_getElem;·simp[hl]
 ·intro k h1 h2;rw[List.getElem_reverse];have h3:=hk k h1 (by omega) (by omega);by_cases hc:k<i∨l.length-i≤k;·exact h3.1 hc
  ·have:=h3.2 (by omega);rw[this];congr 1;omega
theorem D0 {l m:List Vn}{i:Nat} (h:Gz l m i) (hi:2*i+1<l.length) (h1:i<m.length) (h2:l.length-1-i<m.length):Gz l ((m.set i m[l.length-1-i]).set (l.length-1-i) m[i]) (i+1):=by
 obtain⟨hl,hk⟩:=h;refine⟨by simp[hl],fun k h3 h4 h5=>?_⟩;have ha:=(hk i h1 (by omega) (by omega)).2 (by omega);have hb:=(hk (l.length-1-i) h2 (by omega) (by omega)).2 (by omega);simp only[List.getElem_set];constructor
 ·intro hc;by_cases e1:l.length-1-i=k;·rw[if_pos e1,ha];congr 1;omega
  ·rw[if_neg e1];by_cases e2:i=k;·subst e2;rw[if_pos rfl,hb]
   ·rw[if_neg e2];exact(hk k (by omega) h4 h5).1 (by omega)
 ·intro hc;rw[if_neg (by omega),if_neg (by omega)];exact(hk k (by omega) h4 h5).2 (by omega)
@[simp] noncomputable def U6:List AV→Option (Prop×AV)|[.aQ [.fr e a]]=>if e=73 then(dec cM a).map fun l=>(l.length≤1000000,.bJ 0 [.aQ [],.fr 73 (aC l.reverse)]) else none|_=>none
theorem WH:rW Tryz.prog 146 U6:=by
 intro ys φ r h hφ;unfold U6 at h;split at h
 ·rename_i e ra;split at h
  ·rename_i hef;subst hef;obtain⟨a,ha,h⟩:=Option.map_eq_some_iff.1 h;cases h;cases aD ha;have w0:IntKind.i64.wrap ((a.length:Int)-1)=(a.length:Int)-1:=wrap_i64 (by omega);refine mu ah (by kernel_rfl) (by conv=>lhs;reduce) (by simp) (by simp[cU,ll,jh]) (by simp) ?_;simp(config := { maxSteps := 3000000 }) [w0];refine aq (fun x:Nat×List Vn=>Gz a x.2 x.1∧2*x.1≤a.length+1) (fun x=>⟨[(0,.own 999),(2,.pv (.int .i64 x.1)),(3,.pv (.int .i64 ((a.length:Int)-1-x.1)))],[(999,.arr 73 (aC x.2))]⟩) (fun x=>a.length-x.1) [] (0,a) ⟨EI a,by simp⟩ ?_ ?_;·simp
   ·rintro⟨i,m⟩ ⟨hm,h2⟩;dsimp only at hm h2;have hml:=hm.1;have w1:IntKind.i64.wrap ((i:Int)+1)=(i:Int)+1:=wrap_i64 (by omega);have w2:IntKind.i64.wrap ((a.length:Int)-1-i-1)=(a.length:Int)-1-i-1:=wrap_i64 (by omega);by_cases hlt:(i:Int)<(a.length:Int)-1-i
    ·have hi:i<m.length:=by omega
     have hj:a.length-1-i<m.length:=by omega
     have hst:=D0 hm (by omega) hi hj;have r1:=aV hi;have r2:=aV hj;have hc:((a.length-1-i:Nat):Int)=(a.length:Int)-1-i:=by omega
     rw[hc]at r2;have b1:0≤(a.length:Int)-1-i:=by omega
     have b2:(a.length:Int)-1-i<m.length:=by omega
     have b3:(i:Int)≤(a.length:Int)-1:=by omega
     have r3:rowAt ((aC m).set i [.int .u64 m[a.length-1-i].n,.int .u64 m[a.length-1-i].b,.int .u64 m[a.length-1-i].p,.int .u64 m[a.length-1-i].i,.int .u64 m[a.length-1-i].s,.int .u64 m[a.length-1-i].z,.int .u64 m[a.length-1-i].m,.str m[a.length-1-i].t,.bool m[a.length-1-i].inl,.bool m[a.length-1-i].dm]) ((a.length:Int)-1-i)=[.int .u64 m[a.length-1-i].n,.int .u64 m[a.length-1-i].b,.int .u64 m[a.length-1-i].p,.int .u64 m[a.length-1-i].i,.int .u64 m[a.length-1-i].s,.int .u64 m[a.length-1-i].z,.int .u64 m[a.length-1-i].m,.str m[a.length-1-i].t,.bool m[a.length-1-i].inl,.bool m[a.length-1-i].dm]:=by rw[←r2];unfold rowAt;rw[show((a.length:Int)-1-i).toNat=a.length-1-i from by omega,List.getD_eq_getElem?_getD,List.getD_eq_getElem?_getD,List.getElem?_set_ne (by omega)]
     have hrows:((aC m).set i (cM m[a.length-1-i])).set (a.length-1-i) (cM m[i])=aC ((m.set i m[a.length-1-i]).set (a.length-1-i) m[i]):=by simp only[aC,List.map_set]
     simp only[cM]at hrows;simp(config := { maxSteps := 3000000 }) [w1,w2,hlt,r1,r2,hi,b1,b2,b3,r3];exact⟨i+1,_,⟨hst,by omega⟩,⟨⟨by omega,by omega⟩,hrows⟩,by omega⟩
    ·have he:=Fw hm (by omega);simp(config := { maxSteps := 3000000 }) [hlt,he]
  ·cases h
 ·cases h
def A8 (l:List Vn) (i:Nat):Vn:=(l[i]?).getD v0
theorem dX {l:List Vn}{i:Nat} (h:i<l.length):A8 l i=l[i]:=by unfold A8;rw[List.getElem?_eq_getElem h];rfl
def cJ (l:List Vn):Nat→Nat→List Vn|0,i=>[A8 l i]|f+1,i=>if bh (A8 l i)=0 then[A8 l i] else cJ l f (oR l (bh (A8 l i))).toNat++[A8 l i]
def eP (l:List Vn) (n:Int):List Vn×Int:=if aK l=false then([],2) else match dE l n with|none=>([],150)|some v=>(cJ l l.length (oR l v.n).toNat,0)
theorem oP {l:List Vn} (hr:aK l=true) {i:Nat} (h:i<l.length) (hb:bh l[i]≠0):∃j,∃hj:j<i,oR l (bh l[i])=(j:Int)∧l[j].n=bh l[i]:=by
 have hok:=(ez l).1 hr i h;unfold gI at hok;rw[List.getElem?_eq_getElem h]at hok;simp only[Option.getD_some,Bool.and_eq_true,Bool.or_eq_true,decide_eq_true_eq]at hok;have h0:=hok.2.resolve_left hb;rcases jV (l.take i) (bh l[i]) with⟨j,hj,h1,h2,h3⟩|⟨h1,_⟩
 ·rw[List.length_take]at hj;have hji:j<i:=by omega
  have hjl:j<l.length:=by omega
  rw[List.getElem_take]at h2;refine⟨j,hji,xo hjl h2 fun v hv=>h3 v ?_,h2⟩;rwa[List.take_take,Nat.min_eq_left (by omega)]
 ·omega
theorem Af {l:List Vn} (hr:aK l=true) {i j:Nat} (hi:i<l.length) (hj:j<l.length) (h:l[i].n=l[j].n):i=j:=by
 rcases Nat.lt_trichotomy i j with hlt|he|hlt
 ·have h1:=iM hr (i:=i) (j-1-i) (by omega);have e1:i+(j-1-i)=j-1:=by omega
  simp only[e1]at h1;have h2:=kl hr (i:=j-1) (by omega);have e2:j-1+1=j:=by omega
  simp only[e2]at h2;omega
 ·exact he
 ·have h1:=iM hr (i:=j) (i-1-j) (by omega);have e1:j+(i-1-j)=i-1:=by omega
  simp only[e1]at h1;have h2:=kl hr (i:=i-1) (by omega);have e2:i-1+1=i:=by omega
  simp only[e2]at h2;omega
theorem ko {l:List Vn} (hr:aK l=true) {i:Nat} (h:i<l.length):oR l l[i].n=i:=by
 rcases jV l l[i].n with⟨j,hj,h1,h2,_⟩|⟨_,h2⟩;·rw[h1,Af hr hj h h2]
 ·exact absurd rfl (h2 l[i] (List.getElem_mem h))
theorem get_at {l:List Vn}{n:Int}{v:Vn} (h:dE l n=some v):∃i,∃h:i<l.length,v=l[i]∧v.n=n:=by unfold dE at h;have h1:=List.mem_of_find?_eq_some h;have h2:=List.find?_some h;obtain⟨i,hi,rfl⟩:=List.getElem_of_mem (List.mem_filter.1 h1).1;exact⟨i,hi,rfl,by simpa using h2⟩
@[simp] noncomputable def Kg (e:TypeId):List AV→Option (Prop×AV)|[.pv (.ro a),.pv (.int .u64 n)]=>(dec cM a).map fun l=>(l.length≤100000∧(∀v∈l,eL v),.aQ [.fr e (aC (eP l n).1),.pv (.int .i64 (eP l n).2)])|_=>none
theorem OB:aO Tryz.prog 137 (Kg 73):=by
 intro ys φ r h hφ;unfold Kg at h;split at h
 ·rename_i ra n;obtain⟨a,ha,h⟩:=Option.map_eq_some_iff.1 h;cases h;cases aD ha;obtain⟨hl5,hov⟩:=hφ;have hl9:a.length≤1000000000:=by omega
  have hl6:a.length≤1000000:=by omega
  have fl:∀l,bE (aC l):=ax;refine aw (ag Dq (ag HM (ag BL (ag Nn (il (p:=0) (k:=999) WH (by kernel_rfl) ah))))) (by kernel_rfl) (by conv=>lhs;reduce) (by simp) ?_;cases hr:aK a with
  |false=>
   have hp:eP a n=([],2):=by simp[eP,hr]
   simp(config := { maxSteps := 3000000 }) [hl9,hr,hp]|true=>cases hg:dE a n with
  |none=>
   have hp:eP a n=([],150):=by simp[eP,hr,hg]
   simp(config := { maxSteps := 3000000 }) [hl9,hl6,hr,hp,hg,bG,v0]|some v=>
  obtain⟨i0,hi0,hv,hvn⟩:=get_at hg;have hp:eP a n=(cJ a a.length i0,0):=by simp only[eP,hr,hg];rw[if_neg (by simp),hv,ko hr hi0,Int.toNat_natCast]
  rw[hp];generalize hW:cJ a a.length i0=W;apply af;·simp(config := { maxSteps := 3000000 });exact⟨rfl,rfl⟩
  apply af;·simp(config := { maxSteps := 3000000 }) [hl9,hr];exact⟨rfl,rfl⟩
  apply af;·simp(config := { maxSteps := 3000000 }) [hl9,hl6,hg,bG];exact⟨rfl,rfl⟩
  apply af;·simp(config := { maxSteps := 3000000 });exact⟨rfl,rfl⟩
  simp(config := { maxSteps := 3000000 });refine aq (fun x:Nat×Nat×List Vn=>x.1<a.length∧x.1≤x.2.1∧x.2.2.length+x.1≤a.length∧W=cJ a x.2.1 x.1++x.2.2.reverse) (fun x=>⟨[(0,.pv (.ro (aC a))),(6,.ptr 6 0),(8,.own 8)],[(6,.box (bG (A8 a x.1))),(8,.arr 73 (aC x.2.2))]⟩) (fun x=>x.1) [] (i0,a.length,[]) ?_ ?_ ?_;·exact⟨hi0,by show i0≤a.length;omega,by simp;omega,by simp[hW]⟩
  ·simp[bG,dX hi0,hv]
  ·rintro⟨i,f,o⟩ ⟨hi,hf,hol,hWe⟩;dsimp only at hi hf hol hWe;rw[dX hi];have hbv:(if a[i].inl=true then 0 else a[i].b)=bh a[i]:=rfl;have hol6:o.length≤100000:=by omega
   have hrow:aC o++[[PV.int .u64 a[i].n,.int .u64 a[i].b,.int .u64 a[i].p,.int .u64 a[i].i,.int .u64 a[i].s,.int .u64 a[i].z,.int .u64 a[i].m,.str a[i].t,.bool a[i].inl,.bool a[i].dm]]=aC (o++[a[i]]):=by rw[bO];rfl
   have b1:(o.length+1)*80≤140737488355328:=by omega
   have b2:o.length≤9223372036854775806:=by omega
   by_cases hb:bh a[i]=0
   ·have hWr:W=(o++[a[i]]).reverse:=by
     have hpl:cJ a f i=[a[i]]:=by cases f with|zero=>rw[cJ,dX hi]|succ f=>rw[cJ,dX hi,if_pos hb]
     rw[hWe,hpl];simp
    have hon:o.length+1≤1000000:=by omega
    simp(config := { maxSteps := 3000000 }) [bG,hbv,hb,aB,hrow,b1,b2,fl,hon];rw[hWr,List.reverse_append];rfl
   ·obtain⟨j,hji,hjx,hjn⟩:=oP hr hi hb;have hjl:j<a.length:=by omega
    obtain⟨f,rfl⟩:∃g,f=g+1:=⟨f-1,by omega⟩;have hpl:cJ a (f+1) i=cJ a f j++[a[i]]:=by rw[cJ,dX hi,if_neg hb,hjx,Int.toNat_natCast]
    have r1:=aV hjl;simp(config := { maxSteps := 3000000 }) [bG,hbv,hb,aB,hrow,b1,b2,hl9,hjx,r1,hjl];refine⟨j,f,o++[a[i]],⟨hjl,by omega,by rw[List.length_append,List.length_singleton];omega,?_⟩,⟨?_,rfl⟩,hji⟩;·rw[hWe,hpl];simp
    ·rw[dX hjl];exact⟨rfl,rfl,rfl,rfl,rfl,rfl,rfl,rfl,rfl,rfl⟩
 ·cases h
theorem ku {l:List Vn}{i:Nat} (hb:bh (A8 l i)=0) (f:Nat):cJ l f i=[A8 l i]:=by cases f with|zero=>rfl|succ f=>rw[cJ,if_pos hb]
theorem GD {l:List Vn} (hr:aK l=true):∀(i f g:Nat),i<l.length→i≤f→i≤g→cJ l f i=cJ l g i:=by intro i;induction i using Nat.strongRecOn with|_ i ih=>
 intro f g hi hf hg;by_cases hb:bh (A8 l i)=0;·rw[ku hb,ku hb]
 ·obtain⟨j,hj,hx,_⟩:=oP hr hi (by rw[←dX hi];exact hb);rw[←dX hi]at hx;obtain⟨f,rfl⟩:∃q,f=q+1:=⟨f-1,by omega⟩;obtain⟨g,rfl⟩:∃q,g=q+1:=⟨g-1,by omega⟩;rw[cJ,cJ,if_neg hb,if_neg hb,hx,Int.toNat_natCast,ih j hj f g (by omega) (by omega) (by omega)]
theorem tI {l:List Vn} (hr:aK l=true) {i j:Nat} (hi:i<l.length) (hb:bh l[i]≠0) (hj:j<i) (hx:oR l (bh l[i])=(j:Int)):cJ l l.length i=cJ l l.length j++[l[i]]:=by rw[GD hr i l.length (l.length+1) hi (by omega) (by omega),cJ,dX hi,if_neg hb,hx,Int.toNat_natCast]
theorem my {l:List Vn}:∀(f i:Nat),(cJ l f i).length≤f+1
 |0,i=>by simp[cJ]|f+1,i=>by
  rw[cJ];split;·simp
  ·have:=my (l:=l) f (oR l (bh (A8 l i))).toNat;simp only[List.length_append,List.length_singleton];omega
@[simp] noncomputable def Grp (k:Nat):List AV→Option (Prop×AV)|[.pv (.ro a),.agg [.pv (.int .u64 n),.pv (.int .u64 b),.pv (.int .u64 p),.pv (.int .u64 i),.pv (.int .u64 s),.pv (.int .u64 z),.pv (.int .u64 m),.pv (.str t),.pv (.bool inl),.pv (.bool dm)]]=>(dec cM a).map fun l=>(l.length≤100000∧aK l=true∧(∀v∈l,eL v)∧∃q,q<k∧q<l.length∧A8 l q=⟨n,b,p,i,s,z,m,t,inl,dm⟩,.fr 92 (aC (cJ l l.length (oR l n).toNat)))|_=>none
theorem c_rp:∀k,aO Tryz.prog 110 (Grp k):=by intro k;induction k with
 |zero=>
  intro ys φ r h hφ;unfold Grp at h;split at h;·obtain⟨a,ha,h⟩:=Option.map_eq_some_iff.1 h;cases h;obtain⟨_,_,_,q,hq,_⟩:=hφ;omega
  ·cases h|succ k ih=>
  intro ys φ r h hφ;unfold Grp at h;split at h
  ·rename_i ra n b p i s z m t inl dm;obtain⟨a,ha,h⟩:=Option.map_eq_some_iff.1 h;cases h;cases aD ha;obtain⟨hl5,hr,hov,q,hqk,hq,hat⟩:=hφ;have hl9:a.length≤1000000000:=by omega
   have fl:∀l,bE (aC l):=ax;rw[dX hq]at hat;have hn:a[q].n=n:=by rw[hat]
   have hix:oR a n=(q:Int):=by rw[←hn];exact ko hr hq
   rw[hix,Int.toNat_natCast];have hbv:(if inl=true then 0 else b)=bh a[q]:=by rw[hat];rfl
   have hbp:=oU (hov a[q] (List.getElem_mem hq));have hrow:[PV.int .u64 n,.int .u64 b,.int .u64 p,.int .u64 i,.int .u64 s,.int .u64 z,.int .u64 m,.str t,.bool inl,.bool dm]=cM a[q]:=by rw[hat];rfl
   refine aw (ag B7 (ag BJ (ag ih ah))) (by kernel_rfl) (by conv=>lhs;reduce) (by simp) ?_;by_cases hb:bh a[q]=0
   ·have hpl:cJ a a.length q=[a[q]]:=by rw[ku (by rw[dX hq];exact hb),dX hq]
    simp(config := { maxSteps := 3000000 }) [hbv,hb,aB,hpl];rw[hrow];rfl
   ·obtain⟨j,hji,hjx,hjn⟩:=oP hr hq hb;have hjl:j<a.length:=by omega
    have hb':0<bh a[q]:=by omega
    have hpl:=tI hr hq hb hji hjx;have r1:=aV hjl;have hlen:=my (l:=a) a.length j;have hjix:oR a a[j].n=(j:Int):=ko hr hjl;have htk:a.take a.length=a:=List.take_length;simp(config := { maxSteps := 3000000 }) [hbv,hb',aB,hpl,hl9,htk,hjx,r1,hjl,fl,hjix];refine⟨⟨hl5,hr,hov,j,by omega,hjl,by rw[dX hjl]⟩,⟨by omega,by omega⟩,?_⟩;rw[hrow,bO];rfl
  ·cases h
def uI (n:Int):List PV:=[.int .u64 n]
theorem GG:∀a b,uI a=uI b→a=b:=by intro a b h;simpa[uI]using h
def iU (l:List Int):List (List PV):=l.map uI
@[simp] theorem Rn:iU []=[]:=rfl
@[simp] theorem IW (l:List Int):(iU l).length=l.length:=by simp[iU]
theorem zd {l:List Int}{i:Nat} (h:i<l.length):rowAt (iU l) (i:Int)=[.int .u64 l[i]]:=by simp[rowAt,iU,h,uI]
@[simp] theorem Ql (l:List Int):dec uI (iU l)=some l:=kg GG l
theorem eT {rows:List (List PV)}{l:List Int} (h:dec uI rows=some l):rows=iU l:=ke h
def CC (l:List Int) (n:Int):Bool:=decide (n∈l)
theorem Ga {l:List Int}{n:Int}{i:Nat} (h:i<l.length) (hq:l[i]=n):CC l n=true:=by unfold CC;rw[decide_eq_true_eq,←hq];exact List.getElem_mem h
theorem yW {l:List Int}{n:Int} (h:∀x∈l,¬x=n):CC l n=false:=by unfold CC;rw[decide_eq_false_iff_not];exact fun hn=>h n hn rfl
def NS (l:List Int) (n:Int):Int:=if CC l n=true then(l.findIdx (fun x=>decide (x=n)):Int) else-1
theorem N8 {l:List Int}{n:Int}{i:Nat} (h:i<l.length) (hq:l[i]=n) (ht:∀x∈l.take i,¬x=n):NS l n=i:=by
 have hf:l.findIdx (fun x=>decide (x=n))=i:=by
  rw[List.findIdx_eq h];refine⟨by simpa using hq,fun j hj=>?_⟩;have:l[j]∈l.take i:=by rw[List.mem_take_iff_getElem];exact⟨j,by omega,rfl⟩
  simpa using ht _ this
 unfold NS;rw[Ga h hq,if_pos rfl,hf]
theorem Fg {l:List Int}{n:Int} (h:∀x∈l,¬x=n):NS l n=-1:=by unfold NS;rw[yW h,if_neg (by simp)]
theorem L7 (l:List Int) (n:Int):decide (0≤NS l n)=CC l n:=by unfold NS;cases CC l n<;>simp
@[simp] noncomputable def Y5:List AV→Option (Prop×AV)|[.pv (.ro a),.pv (.int .u64 n)]=>(dec uI a).map fun l=>(l.length≤1000000000,.pv (.int .i64 (NS l n)))|_=>none
theorem YG:aO Tryz.prog 145 Y5:=by
 intro ys φ r h hφ;unfold Y5 at h;split at h
 ·rename_i ra n;obtain⟨a,ha,h⟩:=Option.map_eq_some_iff.1 h;cases h;cases eT ha;refine aw ah (by kernel_rfl) (by conv=>lhs;reduce) (by simp) ?_;simp(config := { maxSteps := 3000000 });refine aq (fun i:Nat=>i≤a.length∧∀x∈a.take i,¬x=n) (fun i=>⟨[(0,.pv (.ro (iU a))),(1,.pv (.int .u64 n)),(7,.pv (.int .i64 a.length)),(8,.pv (.int .i64 i))],[]⟩) (fun i=>a.length-i) [] 0 (by simp) ?_ ?_;·simp
  ·rintro i ⟨hi,ht⟩;have w2:IntKind.i64.wrap ((i:Int)+1)=(i:Int)+1:=wrap_i64 (by omega);by_cases hlt:i<a.length
   ·have r1:=zd hlt;by_cases hq:a[i]=n;·have hx:=N8 hlt hq ht;simp(config := { maxSteps := 3000000 }) [w2,hlt,r1,hq,hx]
    ·have hq':¬n=a[i]:=fun e=>hq e.symm;simp(config := { maxSteps := 3000000 }) [w2,hlt,r1,hq'];refine⟨i+1,⟨by omega,fun x hx=>?_⟩,by omega,by omega⟩;rw[List.take_succ_eq_append_getElem hlt,List.mem_append]at hx;rcases hx with hx|hx;·exact ht x hx
     ·rw[List.mem_singleton]at hx;rw[hx];exact hq
   ·rw[List.take_of_length_le (by omega)]at ht;have hx:=Fg ht;simp(config := { maxSteps := 3000000 }) [hlt,hx]
 ·cases h
@[simp] noncomputable def Ju:List AV→Option (Prop×AV)|[.pv (.ro a),.pv (.int .u64 n)]=>(dec uI a).map fun l=>(l.length≤1000000000,.pv (.bool (CC l n)))|_=>none
theorem Y9:aO Tryz.prog 136 Ju:=by
 intro ys φ r h hφ;unfold Ju at h;split at h;·rename_i ra n;obtain⟨a,ha,h⟩:=Option.map_eq_some_iff.1 h;cases h;cases eT ha;have hq:=L7 a n;refine aw (ag YG ah) (by kernel_rfl) (by conv=>lhs;reduce) (by simp) ?_;simp(config := { maxSteps := 3000000 }) [hφ,hq]
 ·cases h
theorem NZ:aO Tryz.prog 108 Ju:=by
 intro ys φ r h hφ;unfold Ju at h;split at h
 ·rename_i ra n;obtain⟨a,ha,h⟩:=Option.map_eq_some_iff.1 h;cases h;cases eT ha;refine aw ah (by kernel_rfl) (by conv=>lhs;reduce) (by simp) ?_;simp(config := { maxSteps := 3000000 });refine aq (fun i:Nat=>i≤a.length∧∀x∈a.take i,¬x=n) (fun i=>⟨[(0,.pv (.ro (iU a))),(1,.pv (.int .u64 n)),(5,.pv (.int .i64 i))],[]⟩) (fun i=>a.length-i) [] 0 (by simp) ?_ ?_;·simp
  ·rintro i ⟨hi,ht⟩;have w2:IntKind.i64.wrap ((i:Int)+1)=(i:Int)+1:=wrap_i64 (by omega);by_cases hlt:i<a.length
   ·have r1:=zd hlt;by_cases hq:a[i]=n;·have hx:=Ga hlt hq;simp(config := { maxSteps := 3000000 }) [w2,hlt,r1,hq,hx]
    ·simp(config := { maxSteps := 3000000 }) [w2,hlt,r1,hq];refine⟨i+1,⟨by omega,fun x hx=>?_⟩,by omega,by omega⟩;rw[List.take_succ_eq_append_getElem hlt,List.mem_append]at hx;rcases hx with hx|hx;·exact ht x hx
     ·rw[List.mem_singleton]at hx;rw[hx];exact hq
   ·rw[List.take_of_length_le (by omega)]at ht;have hx:=yW ht;simp(config := { maxSteps := 3000000 }) [hlt,hx]
 ·cases h
def DK (ks:List PV) (n:Int):Bool:=ks.any (mU (.int .u64 n))
@[simp] def Ve:List AV→Option (Prop×AV)|[.agg [.pv (.int .u64 n),.pv (.int .u64 _),.pv (.int .u64 _),.pv (.int .u64 _),.pv (.int .u64 _),.pv (.int .u64 _),.pv (.int .u64 _),.pv (.str _),.pv (.bool _),.pv (.bool _)],.rp [.mp ks]]=>some ((∀x∈ks,dk x=9),.pv (.bool (!DK ks n)))|_=>none
theorem Le:aO Tryz.prog 139 Ve:=by
 intro ys φ r h hφ;unfold Ve at h;split at h;·cases h;refine aw ah (by kernel_rfl) (by conv=>lhs;reduce) (by simp) ?_;simp(config := { maxSteps := 3000000 }) [cd];exact⟨hφ,rfl⟩
 ·cases h
theorem Cl:gM Tryz.prog 139=true:=by kernel_rfl
def Fs (p:Vn→Bool) (l:List Vn):Int:=if l.findIdx p<l.length then(l.findIdx p:Int) else-1
theorem OO {p:Vn→Bool}{l:List Vn}{i:Nat} (h:i<l.length) (hq:p l[i]=true) (ht:∀v∈l.take i,p v=false):Fs p l=i:=by
 have hf:l.findIdx p=i:=by
  rw[List.findIdx_eq h];refine⟨hq,fun j hj=>?_⟩;have:l[j]∈l.take i:=by rw[List.mem_take_iff_getElem];exact⟨j,by omega,rfl⟩
  exact ht _ this
 unfold Fs;rw[hf,if_pos h]
theorem yZ {p:Vn→Bool}{l:List Vn} (ht:∀v∈l,p v=false):Fs p l=-1:=by
 have hf:l.findIdx p=l.length:=by rw[List.findIdx_eq_length];exact ht
 unfold Fs;rw[hf,if_neg (by omega)]
theorem JI (p:Vn→Bool) (l:List Vn):0≤Fs p l↔l.any p=true:=by
 unfold Fs;split;·rename_i h;have:=List.findIdx_lt_length.1 h;simp only[List.any_eq_true];exact⟨fun _=>this,fun _=>by omega⟩
 ·rename_i h;rw[List.findIdx_lt_length]at h;simp only[List.any_eq_true];exact⟨fun h'=>by omega,fun h'=>absurd h' h⟩
theorem Bi {p:Vn→Bool}{l:List Vn}{k:Nat} (h:Fs p l=(k:Int)):k<l.length∧(l.take (k+1)).filter (fun e=>!p e)=l.take k:=by
 unfold Fs at h;split at h
 ·rename_i hlt;have hk:l.findIdx p=k:=by omega
  rw[hk]at hlt;refine⟨hlt,?_⟩;obtain⟨h1,h2⟩:=(List.findIdx_eq hlt).1 hk;rw[List.take_succ_eq_append_getElem hlt,List.filter_append];have hf:(l.take k).filter (fun e=>!p e)=l.take k:=by rw[List.filter_eq_self];intro e he;rw[List.mem_take_iff_getElem]at he;obtain⟨j,hj,rfl⟩:=he;have:=h2 j (by omega);simpa using this
  rw[hf];simp[h1]
 ·omega
def mN (ks:List PV) (v:Vn):Bool:=!DK ks v.n
@[simp] noncomputable def XW:List AV→Option (Prop×AV)|[.pv (.ro a),.bJ f [.rp [.mp ks]]]=>if f=139 then(dec cM a).map fun l=>(l.length≤1000000000∧∀x∈ks,dk x=9,.pv (.int .i64 (Fs (mN ks) l))) else none|_=>none
theorem SH:aO Tryz.prog 124 XW:=by
 intro ys φ r h hφ;unfold XW at h;split at h
 ·rename_i ra f ks;split at h
  ·rename_i hf;subst hf;obtain⟨a,ha,h⟩:=Option.map_eq_some_iff.1 h;cases h;cases aD ha;obtain⟨hφ,hks⟩:=hφ;refine aw (ag Le ah) (by kernel_rfl) (by conv=>lhs;reduce) (by simp) ?_;simp(config := { maxSteps := 3000000 });refine aq (fun i:Nat=>i≤a.length∧∀v∈a.take i,mN ks v=false) (fun i=>⟨[(0,.pv (.ro (aC a))),(1,.bJ 139 [.rp [.mp ks]]),(7,.pv (.int .i64 a.length)),(8,.pv (.int .i64 i))],[]⟩) (fun i=>a.length-i) [] 0 (by simp) ?_ ?_;·simp
   ·rintro i ⟨hi,ht⟩;have w2:IntKind.i64.wrap ((i:Int)+1)=(i:Int)+1:=wrap_i64 (by omega);by_cases hlt:i<a.length
    ·have r1:=aV hlt;have hr:mN ks a[i]=false→∀v∈a.take (i+1),mN ks v=false:=by
      intro h0 e he;rw[List.take_succ_eq_append_getElem hlt,List.mem_append]at he;rcases he with he|he;·exact ht e he
      ·rw[List.mem_singleton]at he;rw[he];exact h0
     simp(config := { maxSteps := 3000000 }) [w2,hlt,r1,Cl];refine⟨hks,fun h=>(OO hlt (by simp[mN,h]) ht).symm,fun h=>⟨i+1,⟨by omega,hr (by simp[mN,h])⟩,by omega,by omega⟩⟩
    ·simp(config := { maxSteps := 3000000 }) [hlt];rw[List.take_of_length_le (by omega)]at ht;exact(yZ ht).symm
  ·cases h
 ·cases h
theorem pQ (l:List Vn) (i:Nat) (e:Vn):(aC l).set i [.int .u64 e.n,.int .u64 e.b,.int .u64 e.p,.int .u64 e.i,.int .u64 e.s,.int .u64 e.z,.int .u64 e.m,.str e.t,.bool e.inl,.bool e.dm]=aC (l.set i e):=by unfold aC;rw[List.map_set];rfl
def RQ (ks:List PV) (l:List Vn):List Vn:=l.filter fun v=>!mN ks v
@[simp] noncomputable def KP:List AV→Option (Prop×AV)|[.fr e a,.bJ f [.rp [.mp ks]]]=>if e=73∧f=139 then(dec cM a).map fun l=>(l.length≤1000000∧∀x∈ks,dk x=9,.fr 73 (aC (RQ ks l))) else none|_=>none
theorem M4:rW Tryz.prog 138 KP:=by
 intro ys φ r h hφ;unfold KP at h;split at h
 ·rename_i e ra f ks;split at h
  ·rename_i hef;obtain⟨rfl,rfl⟩:=hef;obtain⟨a,ha,h⟩:=Option.map_eq_some_iff.1 h;cases h;cases aD ha;obtain⟨hl6,hks⟩:=hφ;refine mu (ag SH (ag Le ah)) (by kernel_rfl) (by conv=>lhs;reduce) (by simp) (by simp[cU,ll,jh]) (by simp) ?_;have hl9:a.length≤1000000000:=by omega
   have isfn3:=Cl;by_cases hr:a.any (mN ks)=true
   ·have hw:0≤Fs (mN ks) a:=(JI _ _).2 hr;obtain⟨k,hk⟩:=Int.eq_ofNat_of_zero_le hw;obtain⟨hkl,hkf⟩:=Bi hk;have hne:¬((k:Int)=-1):=by omega
    have w1:IntKind.i64.wrap ((k:Int)+1)=(k:Int)+1:=wrap_i64 (by omega);simp(config := { maxSteps := 3000000 }) [hk,hne,w1,hl9];refine⟨hks,?_⟩;refine aq (fun x:Nat×Nat×List Vn=>x.1<x.2.1∧x.2.1≤a.length∧x.2.2.length=a.length∧x.2.2.take x.1=(a.take x.2.1).filter (fun e=>!mN ks e)∧x.2.2.drop x.2.1=a.drop x.2.1) (fun x=>⟨[(0,.own 998),(1,.bJ 139 [.rp [.mp ks]]),(5,.pv (.int .i64 x.1)),(6,.pv (.int .i64 x.2.1))],[(998,.arr 73 (aC x.2.2))]⟩) (fun x=>a.length-x.2.1) [] (k,k+1,a) ?_ ?_ ?_;·exact⟨by simp,by simp;omega,rfl,by simp[hkf],rfl⟩
    ·simp
    ·rintro⟨i,j,b⟩ ⟨h1,h2,h3,h4,h5⟩;dsimp only at h1 h2 h3 h4 h5;have w2:IntKind.i64.wrap ((j:Int)+1)=(j:Int)+1:=wrap_i64 (by omega);have w3:IntKind.i64.wrap ((i:Int)+1)=(i:Int)+1:=wrap_i64 (by omega);by_cases hlt:j<a.length
     ·have hjb:j<b.length:=by omega
      have hib:i<b.length:=by omega
      have hbj:b[j]=a[j]:=by have e1:=List.drop_eq_getElem_cons hjb;have e2:=List.drop_eq_getElem_cons hlt;rw[h5,e2]at e1;injection e1 with e1 _;exact e1.symm
      have r1:=aV hjb;rw[hbj]at r1;have r2:=aV hib;have hib':(i:Int)<a.length:=by omega
      have hdrop:∀e,(b.set i e).drop (j+1)=a.drop (j+1):=by
       intro e;rw[List.drop_set_of_lt (by omega)];have e1:(b.drop j).drop 1=(a.drop j).drop 1:=by rw[h5]
       simpa[List.drop_drop]using e1
      by_cases hq:mN ks a[j]=true
      ·have hq':DK ks a[j].n=false:=by simpa[mN]using hq
       simp(config := { maxSteps := 3000000 }) [w2,w3,hlt,hjb,r1,r2,h3,hq',pQ,hib',isfn3];refine⟨hks,i,j+1,b,⟨by omega,by omega,h3,?_,?_⟩,⟨⟨rfl,by omega⟩,rfl⟩,by omega⟩;·rw[List.take_succ_eq_append_getElem hlt,List.filter_append,←h4];simp[hq]
       ·have e1:(b.drop j).drop 1=(a.drop j).drop 1:=by rw[h5]
        simpa[List.drop_drop]using e1
      ·have hq0:mN ks a[j]=false:=by simpa using hq
       have hq':DK ks a[j].n=true:=by simpa[mN]using hq
       simp(config := { maxSteps := 3000000 }) [w2,w3,hlt,hjb,r1,r2,h3,hq',pQ,hib',isfn3];refine⟨hks,by omega,i+1,j+1,b.set i a[j],⟨by omega,by omega,by simp[h3],?_,hdrop _⟩,⟨⟨by omega,by omega⟩,rfl⟩,by omega⟩;rw[List.take_succ_eq_append_getElem hlt,List.filter_append,←h4,List.take_succ_eq_append_getElem (by simp;omega)];simp[hq0,List.take_set_of_le]
     ·simp(config := { maxSteps := 3000000 }) [hlt,h3];have hja:j=a.length:=by omega
      subst hja;rw[List.take_length]at h4;have h3r:=fS b;refine⟨⟨by omega,h3r⟩,⟨by omega,?_⟩,?_⟩
      ·rintro x (hx|⟨_,rfl⟩|hx);·exact h3r x (List.mem_of_mem_take hx)
       ·rfl
       ·exact h3r x (List.mem_of_mem_drop hx)
      ·rw[List.take_append_of_le_length (by simp;omega),List.take_take,Nat.min_self];unfold RQ;rw[←h4];simp[aC,List.map_take]
   ·have hw:Fs (mN ks) a=-1:=by apply yZ;have:=hr;simp only[List.any_eq_true,not_exists,not_and]at this;intro e he;simpa using this e he
    have hfil:RQ ks a=a:=by unfold RQ;rw[List.filter_eq_self];intro e he;have:=hr;simp only[List.any_eq_true,not_exists,not_and]at this;simpa using this e he
    simp(config := { maxSteps := 3000000 }) [hw,hfil,hl9];exact hks
  ·cases h
 ·cases h
def gH (c:Int) (bB:List Int) (v:Vn):Vn:={v with dm:=v.dm||(!decide (v.n=c)&&!CC bB v.n)}
def eN (l:List Vn):Int:=((nE l).getD v0).n
def jG (l:List Vn) (bB:List Int):List Vn:=l.map (gH (eN l) bB)
def iZ (o:List Vn) (n:Int):Bool:=(List.range o.length).any fun k=>!(A8 o k).dm&&(cJ o o.length k).any fun w=>decide (w.n=n)
def cm (l:List Vn) (bB:List Int):List Vn:=if aK l=false then[] else(jG l bB).filter fun v=>iZ (jG l bB) v.n
theorem M3 (c:Int) (bB:List Int) (v:Vn):(gH c bB v).n=v.n:=rfl
theorem I5 {f:Vn→Vn} (hf:∀v,(f v).n=v.n) (l:List Vn) (n:Int):oR (l.map f) n=oR l n:=by
 unfold oR;rw[List.findIdx_map];have:((fun v:Vn=>decide (v.n=n))∘f)=fun v:Vn=>decide (v.n=n):=by funext v;simp[hf]
 rw[this,List.length_map]
theorem DA {f:Vn→Vn} (hf:∀v,(f v).n=v.n) (hb:∀v,bh (f v)=bh v) (l:List Vn):aK (l.map f)=aK l:=by
 have key:∀i,i<l.length→gI (l.map f) i=gI l i:=by
  intro i hi;have h1:(l.map f)[i]?=some (f l[i]):=by simp[hi]
  have h2:l[i]?=some l[i]:=List.getElem?_eq_getElem hi;have h3:eS (l.map f) i=eS l i:=by unfold eS;cases i with|zero=>rfl|succ i=>
   have hi':i<l.length:=by omega
   simp[hi',hf]
  unfold gI;rw[h1,h2,h3];simp only[Option.getD_some,hf,hb];rw[←List.map_take,I5 hf]
 unfold aK;rw[List.length_map];have:∀l':List Nat,(∀i∈l',i<l.length)→l'.all (gI (l.map f))=l'.all (gI l):=by intro l';induction l' with|nil=>intro _;rfl|cons x l' ih=>intro h;simp only[List.all_cons];rw[key x (h x (by simp)),ih fun i hi=>h i (by simp[hi])]
 exact this _ fun i hi=>List.mem_range.1 hi
theorem pz (l:List Vn) (bB:List Int):aK (jG l bB)=aK l:=DA (f:=gH (eN l) bB) (fun _=>rfl) (fun _=>rfl) l
theorem xV {l:List Vn} (h:∀v∈l,eL v) (bB:List Int):∀v∈jG l bB,eL v:=by intro v hv;obtain⟨w,hw,rfl⟩:=List.mem_map.1 hv;exact h w hw
theorem tB (l:List Vn) (bB:List Int):(jG l bB).length=l.length:=by simp[jG]
def tZ (ns:List Int):List (PV×AV):=ns.map fun n=>(.int .u64 n,.agg [])
def BQ (n:Int) (ns:List Int):List Int:=if n∈ns then ns else ns++[n]
theorem Am (n:Int):∀ns:List Int,kT (.int .u64 n) (.agg []) (tZ ns)=tZ (BQ n ns)
 |[]=>by simp[tZ,BQ,kT]|m::ns=>by
  have ih:=Am n ns;unfold tZ at ih ⊢;simp only[List.map_cons,kT,mU];by_cases h:n=m;·subst h;simp[BQ]
  ·have h':decide (n=m)=false:=by simpa using h
   simp only[h',Bool.false_eq_true,if_false,ih];unfold BQ;by_cases hn:n∈ns;·simp[hn]
   ·simp[hn,h]
theorem D9 (ns:List Int):jz 9 (tZ ns):=by intro e he;obtain⟨n,_,rfl⟩:=List.mem_map.1 he;rfl
theorem DD (ns:List Int):(tZ ns).all (fun e=>C7 e.2)=true:=by rw[List.all_eq_true];intro e he;obtain⟨n,_,rfl⟩:=List.mem_map.1 he;rfl
def vh (ns:List Int):List PV:=ns.map (.int .u64)
theorem FU (ns:List Int):(tZ ns).map (·.1)=vh ns:=by simp[tZ,vh]
theorem EF (ns:List Int):∀x∈vh ns,dk x=9:=by intro x hx;obtain⟨n,_,rfl⟩:=List.mem_map.1 hx;rfl
theorem Ds (ns:List Int) (n:Int):DK (vh ns) n=decide (n∈ns):=by unfold DK vh;induction ns with|nil=>simp|cons m ns ih=>simp only[List.map_cons,List.any_cons,ih,mU,List.mem_cons];by_cases h:n=m<;>simp[h]
theorem Gd (m n:Int) (ns:List Int):m∈BQ n ns↔m=n∨m∈ns:=by
 unfold BQ;split;·rename_i h;exact⟨.inr,fun h'=>h'.elim (fun e=>e▸h) id⟩
 ·simp only[List.mem_append,List.mem_singleton];exact⟨fun h=>h.elim .inr .inl,fun h=>h.elim .inr .inl⟩
def oN (o:List Vn) (v:Vn):List Int:=(eP o v.n).1.map (·.n)
theorem zX {o:List Vn} (hr:aK o=true) (n:Int):iZ o n=true↔∃v∈aN o,n∈oN o v:=by
 unfold iZ;simp only[List.any_eq_true,List.mem_range,Bool.and_eq_true,Bool.not_eq_true',decide_eq_true_eq];constructor
 ·rintro⟨k,hk,hh,w,hw,hn⟩;rw[dX hk]at hh;have hs:o[k]∈aN o:=by unfold aN;simp[hh]
  refine⟨o[k],hs,?_⟩;have hg:∃v,dE o o[k].n=some v:=by unfold dE;cases hf:(aN o).find? fun v=>decide (v.n=o[k].n) with|some v=>exact⟨v,rfl⟩|none=>rw[List.find?_eq_none]at hf;exact absurd (decide_eq_true rfl) (hf _ hs)
  obtain⟨v,hg⟩:=hg;obtain⟨i,hi,hv,hvn⟩:=get_at hg;have hp:eP o o[k].n=(cJ o o.length k,0):=by simp only[eP,hr,hg];rw[if_neg (by simp),hvn,ko hr hk,Int.toNat_natCast]
  unfold oN;rw[hp];exact List.mem_map.2 ⟨w,hw,hn⟩
 ·rintro⟨v,hv,hn⟩;have hv':v∈o∧v.dm=false:=by unfold aN at hv;simpa using hv
  obtain⟨k,hk,rfl⟩:=List.getElem_of_mem hv'.1;have hg:∃v,dE o o[k].n=some v:=by unfold dE;cases hf:(aN o).find? fun v=>decide (v.n=o[k].n) with|some v=>exact⟨v,rfl⟩|none=>rw[List.find?_eq_none]at hf;exact absurd (decide_eq_true rfl) (hf _ hv)
  obtain⟨v,hg⟩:=hg;obtain⟨i,hi,hv1,hvn⟩:=get_at hg;have hp:eP o o[k].n=(cJ o o.length k,0):=by simp only[eP,hr,hg];rw[if_neg (by simp),hvn,ko hr hk,Int.toNat_natCast]
  unfold oN at hn;rw[hp]at hn;obtain⟨w,hw,hwn⟩:=List.mem_map.1 hn;exact⟨k,hk,by rw[dX hk];exact hv'.2,w,hw,hwn⟩
theorem Eg {o:List Vn} (n:Int):(eP o n).1.length≤o.length+1:=by
 unfold eP;split;·simp
 ·split;·simp
  ·exact my _ _
def nb (f:Vn→Vn) (a:List Vn) (i:Nat):List Vn:=(a.take i).map f++a.drop i
theorem Ah (f:Vn→Vn) (a:List Vn) (i:Nat):(nb f a i).length=a.length:=by simp[nb];omega
theorem GL (f:Vn→Vn) {a:List Vn}{i:Nat} (h:i<a.length):(nb f a i).set i (f a[i])=nb f a (i+1):=by unfold nb;rw[List.set_append,if_neg (by simp;omega)];simp only[List.length_map,List.length_take];rw[Nat.min_eq_left (show i≤a.length by omega),Nat.sub_self,List.drop_eq_getElem_cons h,List.set_cons_zero,List.take_succ_eq_append_getElem h,List.map_append];simp only[List.map_cons,List.map_nil,List.append_assoc,List.cons_append,List.nil_append]
theorem HD (f:Vn→Vn) {a:List Vn}{i:Nat} (h:i<a.length):(nb f a i)[i]'(by rw[Ah];exact h)=a[i]:=by unfold nb;rw[List.getElem_append_right (by simp;omega)];simp only[List.length_map,List.length_take,Nat.min_eq_left (show i≤a.length by omega),Nat.sub_self];simp
@[simp] noncomputable def rK (e:TypeId):List AV→Option (Prop×AV)|[.pv (.ro a),.pv (.ro k)]=>(dec cM a).bind fun l=>(dec uI k).map fun ks=>(l.length≤100000∧ks.length≤1000000∧(∀v∈l,eL v),.fr e (aC (cm l ks)))|_=>none
theorem E7:aO Tryz.prog 120 (rK 73):=by
 intro ys φ r h hφ;unfold rK at h;split at h
 ·rename_i ra rk;obtain⟨a,ha,h⟩:=Option.bind_eq_some_iff.1 h;obtain⟨ks,hk,h⟩:=Option.map_eq_some_iff.1 h;cases h;cases aD ha;cases eT hk;obtain⟨hl5,hk6,hov⟩:=hφ;have hl9:a.length≤1000000000:=by omega
  have hl6:a.length≤1000000:=by omega
  have hk9:ks.length≤1000000000:=by omega
  have fl:∀l,bE (aC l):=ax;refine aw (ag Dq (ag E0 (ag c_Cv (ag Y9 (ag nj (ag OB (il (p:=0) (k:=998) M4 (by kernel_rfl) ah))))))) (by kernel_rfl) (by conv=>lhs;reduce) (by simp) ?_;cases hr:aK a with
  |false=>
   have hp:cm a ks=[]:=by simp[cm,hr]
   simp(config := { maxSteps := 3000000 }) [hl9,hr,hp]|true=>
  have hp:cm a ks=(jG a ks).filter fun v=>iZ (jG a ks) v.n:=by simp[cm,hr]
  rw[hp];have hrO:=(pz a ks).trans hr;have hovO:=xV hov ks;have hlO:=tB a ks;have hO:jG a ks=a.map (gH (eN a) ks):=rfl;have hcur:((nE a).getD v0).n=eN a:=rfl;generalize jG a ks=O at hrO hovO hlO hO;generalize hcc:(nE a).getD v0=cc at hcur;simp(config := { maxSteps := 3000000 }) [hl9,hl6,hr,hcc,bG];refine aq (fun i:Nat=>i≤a.length) (fun i=>⟨[(1,.pv (.ro (iU ks))),(5,.own 21),(6,.ptr 6 0),(27,.own 21),(28,.pv (.int .i64 a.length)),(29,.pv (.int .i64 i))],[(21,.arr 73 (aC (nb (gH (eN a) ks) a i))),(6,.box (bG cc))]⟩) (fun i=>a.length-i) [] 0 (by simp) ?_ ?_;·simp[nb,bG]
  ·rintro i hi;have w2:IntKind.i64.wrap ((i:Int)+1)=(i:Int)+1:=wrap_i64 (by omega);have hml:=Ah (gH (eN a) ks) a i;by_cases hlt:i<a.length
   ·have r1:=aV (l:=nb (gH (eN a) ks) a i) (i:=i) (by omega);rw[HD _ hlt]at r1;have hst:=GL (gH (eN a) ks) hlt;have hrs:=fun e=>pQ (nb (gH (eN a) ks) a i) i e;have hfin:∀b,b=(gH (eN a) ks a[i]).dm→(aC (nb (gH (eN a) ks) a i)).set i [.int .u64 a[i].n,.int .u64 a[i].b,.int .u64 a[i].p,.int .u64 a[i].i,.int .u64 a[i].s,.int .u64 a[i].z,.int .u64 a[i].m,.str a[i].t,.bool a[i].inl,.bool b]=aC (nb (gH (eN a) ks) a (i+1)):=by intro b hb;rw[←hst,←hrs];subst hb;rfl
    have hhid:(gH (eN a) ks a[i]).dm=(a[i].dm||(!decide (a[i].n=eN a)&&!CC ks a[i].n)):=rfl;cases hh:a[i].dm with|true=>rw[hh]at r1 hhid;simp(config := { maxSteps := 3000000 }) [w2,hlt,hml,r1,bG];exact⟨i+1,by omega,⟨by omega,hfin _ (by rw[hhid];rfl)⟩,by omega⟩|false=>
     rw[hh]at r1 hhid;by_cases hn:a[i].n=eN a;·simp(config := { maxSteps := 3000000 }) [w2,hlt,hml,r1,bG,hcur,hn];refine⟨i+1,by omega,⟨by omega,?_⟩,by omega⟩;rw[←hfin false (by rw[hhid];simp[hn]),hn]
     ·simp(config := { maxSteps := 3000000 }) [w2,hlt,hml,r1,bG,hcur,hn];exact⟨hk9,i+1,by omega,⟨by omega,hfin _ (by rw[hhid];simp[hn])⟩,by omega⟩
   ·have hie:i=a.length:=by omega
    subst hie;have hmx:nb (gH (eN a) ks) a a.length=O:=by rw[hO];unfold nb;simp
    rw[hmx];have hm1:(Value.map none).oneCell'=true:=rfl;have hm2:cv (Value.map none)=.pv (.val (.map none)):=rfl;have hlO6:O.length≤1000000:=by omega
    simp(config := { maxSteps := 3000000 }) [bG,hm1,hm2,hlO6,fl];have hs6:(aN O).length≤1000000:=Nat.le_trans (List.length_filter_le _ _) hlO6;have hO5:O.length≤100000:=by omega
    refine aq (fun x:Nat×List Int=>x.1≤(aN O).length∧∀n,n∈x.2↔∃v∈(aN O).take x.1,n∈oN O v) (fun x=>⟨[(5,.own 21),(10,.ptr 10 0),(57,.own 57),(58,.pv (.int .i64 (aN O).length)),(59,.pv (.int .i64 x.1))],[(57,.arr 73 (aC (aN O))),(10,.box [.own 55]),(55,.map (tZ x.2)),(21,.arr 73 (aC O))]⟩) (fun x=>(aN O).length-x.1) [] (0,[]) ?_ ?_ ?_;·exact⟨by simp,by simp⟩
    ·simp[tZ]
    ·rintro⟨j,ns⟩ ⟨hj,hns⟩;dsimp only at hj hns;have w4:IntKind.i64.wrap ((j:Int)+1)=(j:Int)+1:=wrap_i64 (by omega);by_cases hjl:j<(aN O).length
     ·have r2:=aV hjl;have hpl:=Eg (o:=O) (aN O)[j].n;have hpN:oN O (aN O)[j]=(eP O (aN O)[j].n).1.map (fun v:Vn=>v.n):=rfl;have hnext:∀ns':List Int,(∀n:Int,n∈ns'↔n∈ns∨n∈oN O (aN O)[j])→∀n:Int,n∈ns'↔∃v∈(aN O).take (j+1),n∈oN O v:=by
       intro ns' hn' n;rw[hn',hns,List.take_succ_eq_append_getElem hjl];constructor
       ·rintro(⟨v,hv,hm⟩|hm);·exact⟨v,List.mem_append.2 (.inl hv),hm⟩
        ·exact⟨_,List.mem_append.2 (.inr (List.mem_singleton.2 rfl)),hm⟩
       ·rintro⟨v,hv,hm⟩;rw[List.mem_append,List.mem_singleton]at hv;rcases hv with hv|rfl;·exact .inl ⟨v,hv,hm⟩
        ·exact .inr hm
      simp(config := { maxSteps := 3000000 }) [w4,hjl,r2,fl,hO5,hovO];generalize hW:(eP O (aN O)[j].n).1=W at hpl hpN;refine⟨hovO,?_⟩;refine aq (fun x:Nat×List Int=>x.1≤W.length∧∀n,n∈x.2↔n∈ns∨n∈(W.take x.1).map (fun v:Vn=>v.n)) (fun x=>⟨[(5,.own 21),(10,.ptr 10 0),(57,.own 57),(58,.pv (.int .i64 (aN O).length)),(59,.pv (.int .i64 j)),(70,.own 67),(71,.pv (.int .i64 W.length)),(72,.pv (.int .i64 x.1))],[(67,.arr 73 (aC W)),(57,.arr 73 (aC (aN O))),(10,.box [.own 55]),(55,.map (tZ x.2)),(21,.arr 73 (aC O))]⟩) (fun x=>W.length-x.1) [] (0,ns) ?_ ?_ ?_;·exact⟨by simp,by simp⟩
      ·simp
      ·rintro⟨k,ms⟩ ⟨hk',hms⟩;dsimp only at hk' hms;have w5:IntKind.i64.wrap ((k:Int)+1)=(k:Int)+1:=wrap_i64 (by omega);have hks9:=D9 ms;by_cases hkl:k<W.length
       ·have r3:=aV hkl;have hput:=Am W[k].n ms;simp(config := { maxSteps := 3000000 }) [w5,hkl,r3,hks9,hput];refine⟨k+1,BQ W[k].n ms,⟨by omega,fun n=>?_⟩,⟨by omega,rfl⟩,by omega⟩;rw[Gd,hms,←List.map_take,List.take_succ_eq_append_getElem hkl];simp only[List.map_append,List.map_cons,List.map_nil,List.mem_append,List.mem_singleton];constructor
        ·rintro(h|h|h);·exact .inr (.inr h)
         ·exact .inl h
         ·exact .inr (.inl h)
        ·rintro(h|h|h);·exact .inr (.inl h)
         ·exact .inr (.inr h)
         ·exact .inl h
       ·have hke:k=W.length:=by omega
        subst hke;simp(config := { maxSteps := 3000000 }) [w4,hjl];exact⟨j+1,ms,⟨by omega,hnext ms fun n=>by rw[hms,List.take_length,hpN]⟩,⟨by omega,rfl⟩,by omega⟩
     ·have hje:j=(aN O).length:=by omega
      subst hje;rw[List.take_length]at hns;have hun:=DD ns;have hfs:=FU ns;have hkk:=EF ns;have hin:RQ (vh ns) O=O.filter fun v=>iZ O v.n:=by unfold RQ;congr 1;funext v;simp only[mN,Ds,Bool.not_not];rw[Bool.eq_iff_iff,decide_eq_true_eq,hns,zX hrO]
      have hkm:∀t es,dI t (.map es)=.map es:=fun _ _=>rfl;simp(config := { maxSteps := 3000000 }) [hun,hfs,hin,hlO6,fl,hkm];exact hkk
 ·cases h
def nT (o:List Vn) (n:Int) (k:Nat):Bool:=!(A8 o k).dm&&(cJ o o.length k).any fun w=>decide (w.n=n)
theorem Jd (l:List Vn) (n:Int):decide (0≤oR l n)=l.any fun w=>decide (w.n=n):=by
 rcases jV l n with⟨i,h,h1,h2,_⟩|⟨h1,h2⟩
 ·rw[h1];have:(l.any fun w=>decide (w.n=n))=true:=by rw[List.any_eq_true];exact⟨l[i],List.getElem_mem h,by simpa using h2⟩
  rw[this];simp
 ·rw[h1];have:(l.any fun w=>decide (w.n=n))=false:=by rw[List.any_eq_false];intro w hw;simpa using h2 w hw
  rw[this];simp
theorem DG:aO Tryz.prog 76 (rK 92):=by
 intro ys φ r h hφ;unfold rK at h;split at h
 ·rename_i ra rk;obtain⟨a,ha,h⟩:=Option.bind_eq_some_iff.1 h;obtain⟨ks,hk,h⟩:=Option.map_eq_some_iff.1 h;cases h;cases aD ha;cases eT hk;obtain⟨hl5,hk6,hov⟩:=hφ;have hl9:a.length≤1000000000:=by omega
  have hl6:a.length≤1000000:=by omega
  have hk9:ks.length≤1000000000:=by omega
  have fl:∀l,bE (aC l):=ax;refine aw (ag yF (ag Vm (ag NZ (ag (c_rp a.length) (ag BJ ah))))) (by kernel_rfl) (by conv=>lhs;reduce) (by simp) ?_;cases hr:aK a with
  |false=>
   have hp:cm a ks=[]:=by simp[cm,hr]
   simp(config := { maxSteps := 3000000 }) [hl9,hr,hp];exact hov|true=>
  have hp:cm a ks=(jG a ks).filter fun v=>iZ (jG a ks) v.n:=by simp[cm,hr]
  rw[hp];have hrO:=(pz a ks).trans hr;have hovO:=xV hov ks;have hlO:=tB a ks;have hO:jG a ks=a.map (gH (eN a) ks):=rfl;have hcur:((nE a).getD v0).n=eN a:=rfl;generalize jG a ks=O at hrO hovO hlO hO;generalize hcc:(nE a).getD v0=cc at hcur;simp(config := { maxSteps := 3000000 }) [hl9,hl6,hr,hcc,bG];refine⟨hov,?_⟩;refine aq (fun i:Nat=>i≤a.length) (fun i=>⟨[(0,.pv (.ro (aC a))),(1,.pv (.ro (iU ks))),(5,.ptr 5 0),(7,.own 7),(8,.own 8),(9,.pv (.int .i64 i))],[(7,.arr 92 (aC ((a.take i).map (gH (eN a) ks)))),(8,.arr 92 []),(5,.box (bG cc))]⟩) (fun i=>a.length-i) [] 0 (by simp) ?_ ?_;·simp[bG]
  ·rintro i hi;have w2:IntKind.i64.wrap ((i:Int)+1)=(i:Int)+1:=wrap_i64 (by omega);have b1:(i+1)*80≤140737488355328:=by omega
   have b2:i≤9223372036854775806:=by omega
   have bm:min i a.length=i:=Nat.min_eq_left hi;by_cases hlt:i<a.length
   ·have r1:=aV hlt;have hrow:∀b,b=(gH (eN a) ks a[i]).dm→aC ((a.take i).map (gH (eN a) ks))++[[PV.int .u64 a[i].n,.int .u64 a[i].b,.int .u64 a[i].p,.int .u64 a[i].i,.int .u64 a[i].s,.int .u64 a[i].z,.int .u64 a[i].m,.str a[i].t,.bool a[i].inl,.bool b]]=aC ((a.take (i+1)).map (gH (eN a) ks)):=by intro b hb;subst hb;rw[List.take_succ_eq_append_getElem hlt,List.map_append,bO];rfl
    have hhid:(gH (eN a) ks a[i]).dm=(a[i].dm||(!decide (a[i].n=eN a)&&!CC ks a[i].n)):=rfl;cases hh:a[i].dm with|true=>rw[hh]at r1 hhid;simp(config := { maxSteps := 3000000 }) [w2,hlt,r1,bG,b1,b2,bm,aB];refine⟨i+1,by omega,⟨by omega,?_⟩,by omega⟩;rw[←List.map_take,←List.map_take];exact hrow _ (by rw[hhid];rfl)|false=>
     rw[hh]at r1 hhid;by_cases hn:a[i].n=eN a;·simp(config := { maxSteps := 3000000 }) [w2,hlt,r1,bG,hcur,hn,b1,b2,bm,aB];refine⟨i+1,by omega,⟨by omega,?_⟩,by omega⟩;rw[←List.map_take,←List.map_take,←hrow false (by rw[hhid];simp[hn]),hn]
     ·simp(config := { maxSteps := 3000000 }) [w2,hlt,r1,bG,hcur,hn,b1,b2,bm,aB];refine⟨hk9,i+1,by omega,⟨by omega,?_⟩,by omega⟩;rw[←List.map_take,←List.map_take];exact hrow _ (by rw[hhid];simp[hn])
   ·have hie:i=a.length:=by omega
    subst hie;have hmx:(a.take a.length).map (gH (eN a) ks)=O:=by rw[hO,List.take_length]
    rw[hmx];have hlO6:O.length≤1000000:=by omega
    have hlO9:O.length≤1000000000:=by omega
    have hO5:O.length≤100000:=by omega
    simp(config := { maxSteps := 3000000 }) [bG];refine aq (fun i:Nat=>i≤O.length) (fun i=>⟨[(7,.own 7),(8,.own 8),(11,.pv (.int .i64 i))],[(7,.arr 92 (aC O)),(8,.arr 92 (aC ((O.take i).filter fun v=>iZ O v.n)))]⟩) (fun i=>O.length-i) [] 0 (by simp) ?_ ?_;·simp
    ·rintro i hi;have w4:IntKind.i64.wrap ((i:Int)+1)=(i:Int)+1:=wrap_i64 (by omega);by_cases hil:i<O.length
     ·have r2:=aV hil;simp(config := { maxSteps := 3000000 }) [hil];refine aq (fun k:Nat=>k≤O.length) (fun k=>⟨[(7,.own 7),(8,.own 8),(11,.pv (.int .i64 i)),(12,.pv (.bool ((List.range k).any (nT O O[i].n)))),(13,.pv (.int .i64 k))],[(7,.arr 92 (aC O)),(8,.arr 92 (aC ((O.take i).filter fun v=>iZ O v.n)))]⟩) (fun k=>O.length-k) [] 0 (by simp) ?_ ?_;·simp
      ·rintro k hk';have w5:IntKind.i64.wrap ((k:Int)+1)=(k:Int)+1:=wrap_i64 (by omega);by_cases hkl:k<O.length
       ·have r3:=aV hkl;have hix:oR O O[k].n=(k:Int):=ko hrO hkl;have hpl:=my (l:=O) O.length k;have hat:=dX hkl;have hn1:(List.range (k+1)).any (nT O O[i].n)=((List.range k).any (nT O O[i].n)||nT O O[i].n k):=by rw[List.range_succ,List.any_append];simp
        cases hh:O[k].dm with|true=>
         rw[hh]at r3;have hq:nT O O[i].n k=false:=by unfold nT;rw[hat,hh];rfl
         simp(config := { maxSteps := 3000000 }) [w5,hkl,r3,hil,r2];exact⟨k+1,by omega,⟨by rw[hn1,hq,Bool.or_false],by omega⟩,by omega⟩|false=>
         rw[hh]at r3;have hq:nT O O[i].n k=(cJ O O.length k).any fun w=>decide (w.n=O[i].n):=by unfold nT;rw[hat,hh];rfl
         rw[←Jd]at hq;have hp9:(cJ O O.length k).length≤1000000000:=by omega
         have htk:(cJ O O.length k).take (cJ O O.length k).length=cJ O O.length k:=List.take_length;simp(config := { maxSteps := 3000000 }) [w5,hkl,r3,hil,r2,hix,hp9,htk,fl];refine⟨⟨hO5,hrO,hovO,k,by omega,hkl,by rw[hat,←hh]⟩,fun h0=>⟨k+1,by omega,⟨⟨k,by omega,by rw[hq];simpa using h0⟩,by omega⟩,by omega⟩,fun h0=>⟨k+1,by omega,⟨?_,by omega⟩,by omega⟩⟩;rw[hn1,hq,decide_eq_false (by omega),Bool.or_false]
       ·have hke:k=O.length:=by omega
        subst hke;have hnb:(List.range O.length).any (nT O O[i].n)=iZ O O[i].n:=rfl;rw[hnb];have b3:(((O.take i).filter fun v=>iZ O v.n).length+1)*80≤140737488355328:=by have:=List.length_filter_le (fun v=>iZ O v.n) (O.take i);rw[List.length_take]at this;omega
        cases hnd:iZ O O[i].n with|true=>simp(config := { maxSteps := 3000000 }) [w4,hil,r2,aB,b3];refine⟨by omega,i+1,by omega,⟨by omega,?_⟩,by omega⟩;rw[List.take_succ_eq_append_getElem hil,List.filter_append,bO];congr 1;simp only[List.filter_cons,hnd,List.filter_nil,if_true];rfl|false=>simp(config := { maxSteps := 3000000 }) [w4,hil];refine⟨i+1,by omega,⟨by omega,?_⟩,by omega⟩;rw[List.take_succ_eq_append_getElem hil,List.filter_append];simp[hnd]
     ·have hie:i=O.length:=by omega
      subst hie;simp(config := { maxSteps := 3000000 }) [List.take_length,fl]
 ·cases h
def lr (a:Ap):Ap×Bool:=(⟨a.l,(mO a.ps a.r.v).1,a.vs,a.sl,a.r,a.n,a.s⟩,decide ((mO a.ps a.r.v).2=0))
def xb (a:Ap):Ap×Bool:=(⟨a.l,(mS a.ps ⟨a.n,a.r.v,a.r.u⟩).1,a.vs,a.sl,a.r,a.n,a.s⟩,(dE a.vs a.r.v).isSome&&decide ((mS a.ps ⟨a.n,a.r.v,a.r.u⟩).2=0))
def ed (a:Ap):Vn:=⟨a.n,a.r.v,a.r.p,a.r.i,a.r.s,a.r.z,a.r.m,[],false,false⟩
def gZ (a:Ap):Ap×Bool:=(⟨a.l,a.ps,(cW a.vs (ed a)).1,a.sl,a.r,a.n,a.s⟩,!a.sl&&dQ a.l a.r.p a.r.i a.r.e&&decide ((cW a.vs (ed a)).2=0))
noncomputable def iP (a:Ap):Ap×Bool:=(⟨a.l,cY a.ps a.r.c a.s,cm a.vs (kI ((cY a.ps a.r.c a.s).map Pn.v)),a.sl,a.r,a.n,a.s⟩,true)
theorem GR:dR Tryz.prog 85 (AG (fun a=>a.ps.length≤100000) lr):=by
 intro ys φ r h hφ;unfold AG at h;split at h;·obtain⟨a,ha,h⟩:=Option.map_eq_some_iff.1 h;cases h;cases fw ha;obtain⟨⟨e,p,i,u,h'⟩,ps,vs,sl,⟨k,rp,ri,rs,re,ru,rv,rc,rz,rm,rn,rt⟩,n,s⟩:=a;refine cu (ag Of ah) (by kernel_rfl) (by conv=>lhs;reduce) (by simp) rfl (by simp[nd]) ?_;have h1:ps.length≤100000:=hφ;simp(config := { maxSteps := 3000000 }) [nd,lr,h1,aA]
 ·cases h
theorem NR:dR Tryz.prog 84 (AG (fun a=>a.ps.length≤1000000∧a.vs.length≤1000000) xb):=by
 intro ys φ r h hφ;unfold AG at h;split at h;·obtain⟨a,ha,h⟩:=Option.map_eq_some_iff.1 h;cases h;cases fw ha;obtain⟨⟨e,p,i,u,h'⟩,ps,vs,sl,⟨k,rp,ri,rs,re,ru,rv,rc,rz,rm,rn,rt⟩,n,s⟩:=a;refine cu (ag L8 (ag HM ah)) (by kernel_rfl) (by conv=>lhs;reduce) (by simp) rfl (by simp[nd]) ?_;obtain⟨h1,h2⟩:=hφ;have h1:ps.length≤1000000:=h1;have h2:vs.length≤1000000:=h2;simp(config := { maxSteps := 3000000 }) [nd,xb,h1,h2,aA,bG]
 ·cases h
theorem D6:dR Tryz.prog 83 (AG (fun a=>a.vs.length≤100000∧(∀v∈a.vs,eL v)∧eL (ed a)) gZ):=by
 intro ys φ r h hφ;unfold AG at h;split at h
 ·obtain⟨a,ha,h⟩:=Option.map_eq_some_iff.1 h;cases h;cases fw ha;obtain⟨⟨e,p,i,u,h'⟩,ps,vs,sl,⟨k,rp,ri,rs,re,ru,rv,rc,rz,rm,rn,rt⟩,n,s⟩:=a;refine cu (ag LU (ag OX ah)) (by kernel_rfl) (by conv=>lhs;reduce) (by simp) rfl (by simp[nd]) ?_;obtain⟨h1,h2,h3⟩:=hφ;have h1:vs.length≤100000:=h1;have h2:∀v∈vs,eL v:=h2;have h3:eL ⟨n,rv,rp,ri,rs,rz,rm,[],false,false⟩:=h3;cases sl<;>simp(config := { maxSteps := 3000000 }) [nd,gZ,ed,h1,h3,ax];·exact⟨⟨h2,h3⟩,rfl⟩
  ·exact⟨h2,h3⟩
 ·cases h
theorem B6:dR Tryz.prog 87 (AG (fun a=>a.ps.length<50∧(∀e∈a.ps,e9 e)∧bQ a.r.c∧bQ a.s∧a.vs.length≤100000∧∀v∈a.vs,eL v) iP):=by
 intro ys φ r h hφ;unfold AG at h;split at h
 ·obtain⟨a,ha,h⟩:=Option.map_eq_some_iff.1 h;cases h;cases fw ha;obtain⟨⟨e,p,i,u,h'⟩,ps,vs,sl,⟨k,rp,ri,rs,re,ru,rv,rc,rz,rm,rn,rt⟩,n,s⟩:=a;refine cu (ag Mw (ag c_pV (ag E7 ah))) (by kernel_rfl) (by conv=>lhs;reduce) (by simp) rfl (by simp[nd]) ?_;obtain⟨h1,h2,h3,h4,h5,h6⟩:=hφ;have h1:ps.length<50:=h1;have h3:bQ rc:=h3;have h4:bQ s:=h4;have h5:vs.length≤100000:=h5;have h7:ps.length≤1000000:=by omega
  have h8:(cY ps rc s).length<50:=by have:=List.length_filter_le (fun e=>!eJ rc s e) ps;unfold cY;omega
  have h9:(kI ((cY ps rc s).map Pn.v)).length≤1000000:=by have:=wg ((cY ps rc s).map Pn.v);rw[List.length_map]at this;omega
  have hU:∀l:List Int,bA l=iU l:=fun _=>rfl;have fU:∀l:List Int,bE (iU l):=tj;have h10:∀e∈ps,bQ e.u:=fun e he=>(h2 e he).2.2;have h11:(∀e∈ps,bQ e.u)=True:=eq_true h10;simp(config := { maxSteps := 3000000 }) [nd,iP,h1,h3,h4,h5,h7,h8,h9,hU,fU,aA,ax];exact⟨h10,h6⟩
 ·cases h
end Go.Proofs.YtlmkcmfmfahcfaaGreat.Ab
