/- slices.Sort at uint64: partitionOrdered. -/
import Derived.Test.YtlicclncicbajaaGreatX12
import Derived.Sort.WalkC4
import Derived.Sort.WalkA6
import Derived.Sort.LotD3
import Derived.Sort.LotB
import Derived.Sort.LotA
set_option linter.unusedVariables false
set_option linter.unusedSimpArgs false
set_option linter.unnecessarySimpa false
set_option maxHeartbeats 40000000
set_option maxRecDepth 100000
set_option linter.defProp false
namespace Go.Proofs.YtlicclncicbajaaGreat.Ab
open Go Go.RowKit
def q247:=@Nat.sub_self
def q282:=@List.ext_getElem
end Go.Proofs.YtlicclncicbajaaGreat.Ab
namespace Go.Proofs.YtlicclncicbajaaGreat.Ab
open Go Go.RowKit Go.Sort R
variable {i j:Nat}{l:List Vn}
noncomputable def Re:List AV→Option (Prop×AV)|[.aO [.fr e a],.pv (.int .i64 p),.pv (.int .i64 q),.pv (.int .i64 v)]=>if e=22 then(dec dX a).map fun l=>((0≤p∧p≤v)∧v<q∧q≤(l.length:Int)∧l.length≤1000000,.bE 0 [.aO [.pv (.int .i64 ((partition ltInt l.toArray p.toNat q.toNat v.toNat).1:Int)),.pv (.bool (partition ltInt l.toArray p.toNat q.toNat v.toNat).2.1)],.fr 22 (rA (partition ltInt l.toArray p.toNat q.toNat v.toNat).2.2)]) else none|_=>none
@[simp] theorem Gprt_eq (e:TypeId) (d:Array Int) (p q v:Int):Re [.aO [.fr e (rA d)],.pv (.int .i64 p),.pv (.int .i64 q),.pv (.int .i64 v)]=if e=22 then some ((0≤p∧p≤v)∧v<q∧q≤(d.size:Int)∧d.size≤1000000,.bE 0 [.aO [.pv (.int .i64 ((partition ltInt d p.toNat q.toNat v.toNat).1:Int)),.pv (.bool (partition ltInt d p.toNat q.toNat v.toNat).2.1)],.fr 22 (rA (partition ltInt d p.toNat q.toNat v.toNat).2.2)]) else none:=by show(if e=22 then(dec dX (rA d)).map _ else none)=_;rw[jg];simp
theorem Y9:dI Tryz.prog 216 Re:=by
 intro ys φ r h hφ;unfold Re at h;split at h
 ·rename_i e ra p q v;split at h
  ·rename_i he;subst he;obtain⟨l,hl,h⟩:=q0.1 h;cases h;obtain⟨d,rfl,rfl⟩:=lT hl;obtain⟨⟨h1,h2⟩,h3,h4,h5⟩:=hφ;rw[q83]at h4 h5;obtain⟨a,rfl⟩:∃a:Nat,p=a:=⟨p.toNat,by omega⟩;obtain⟨b,rfl⟩:∃a:Nat,q=a:=⟨q.toNat,by omega⟩;obtain⟨c,rfl⟩:∃a:Nat,v=a:=⟨v.toNat,by omega⟩;rw[q68,q68,q68,q135];refine cf (ag oc ah) (by kernel_rfl) (by conv=>lhs;reduce) (by simp) rfl (by simp) ?_;generalize hW:partition ltInt d a b c=W;have q1:a<d.size:=by omega
   have q2:c<d.size:=by omega
   have r1:=bB q1;have r2:=bB q2;have r3:=bB (d:=d.setIfInBounds a (gA d c)) (i:=c) (by rw[q102];omega);obtain⟨i,hi⟩:∃i,i=a+1:=⟨_,rfl⟩;obtain⟨j,hj⟩:∃j,j=b-1:=⟨_,rfl⟩;have w1:IntKind.i64.wrap ((a:Int)+1)=(i:Int):=by rw[wrap_i64 (by omega)];omega
   have w2:IntKind.i64.wrap ((b:Int)-1)=(j:Int):=by rw[wrap_i64 (by omega)];omega
   apply af;·simp(config := { maxSteps := 3000000 });exact⟨rfl,rfl⟩
   apply af;·simp(config := { maxSteps := 3000000 }) [q1,q2,r1,r2,r3];exact⟨rfl,rfl⟩
   rw[show(d.setIfInBounds a (gA d c)).setIfInBounds c (gA d a)=swp d a c from rfl];obtain⟨D,hDD⟩:∃D,D=swp d a c:=⟨_,rfl⟩;have g4:D.size=d.size:=by rw[hDD,size_swp]
   rw[←hDD];clear r1 r2 r3;apply af;·simp(config := { maxSteps := 3000000 }) [w1,w2];exact⟨rfl,rfl⟩
   have g1:a<i:=by omega
   have g2:i≤j+1:=by omega
   have g3:j<b:=by omega
   have qa:a<D.size:=by omega
   have ra:=bB qa;obtain⟨pU,hpU⟩:∃pU:Int→Bool,pU=fun x=>ltInt x D[a]!:=⟨_,rfl⟩;obtain⟨pD,hpD⟩:∃pD:Int→Bool,pD=fun x=>!ltInt x D[a]!:=⟨_,rfl⟩;obtain⟨i2,hi2⟩:∃i2,i2=scanUp pU D j i:=⟨_,rfl⟩;obtain⟨j2,hj2⟩:∃j2,j2=scanDown pD D i2 j:=⟨_,rfl⟩;have u1:=scanUp_spec pU D j _ i rfl;rw[←hi2]at u1;have u2:=scanDown_spec pD D i2 j;rw[←hj2]at u2;have u3:i≤i2∧i2≤j+1:=⟨u1.1,u1.2.1 g2⟩;have u4:j2≤j∧i2≤j2+1:=⟨u2.1,u2.2.1 u3.2⟩;apply af
   ·rw[aW];refine aj (fun s:Nat=>i≤s∧s≤j+1∧scanUp pU D j s=i2) (fun s=>⟨[(0,.own 999),(1,.pv (.int .i64 (a:Int))),(10,.pv (.int .i64 (s:Int))),(11,.pv (.int .i64 (j:Int)))],[(999,.arr 22 (rA D))]⟩) (fun s=>j+1-s) [] i (by refine⟨?_,?_,?_⟩<;>first|omega|exact hi2.symm) ?_ ?_;·simp
    ·rintro s ⟨l1,l2,l3⟩;by_cases hc:s≤j
     ·have ws:IntKind.i64.wrap ((s:Int)+1)=((s+1:Nat):Int):=by rw[wrap_i64 (by omega)];omega
      have c1:(s:Int)≤(j:Int):=by omega
      have q1:s<D.size:=by omega
      have r1:=bB q1;cases hb:ltInt (gA D s) (gA D a) with|true=>have e:=scanUp_go pU D j s hc (by rw[hpU];exact hb);rw[e]at l3;obtain⟨s',hs'⟩:∃s',s'=s+1:=⟨_,rfl⟩;rw[←hs']at ws l3;simp(config := { maxSteps := 3000000 }) [c1,q1,qa,r1,ra,hb,ws];exact⟨s',⟨by omega,by omega,l3⟩,rfl,by omega⟩|false=>have e:=scanUp_end pU D j s (.inr (by rw[hpU];exact hb));rw[e]at l3;subst l3;simp(config := { maxSteps := 3000000 }) [c1,q1,qa,r1,ra,hb];try exact⟨rfl,rfl⟩
     ·have c1:¬(s:Int)≤(j:Int):=by omega
      have e:=scanUp_end pU D j s (.inl hc);rw[e]at l3;subst l3;rcases q137 s D.size with q1|q1;·have r1:=bB q1;simp(config := { maxSteps := 3000000 }) [c1,q1,qa,r1,ra];try exact⟨rfl,rfl⟩
      ·have r1:=mw q1;simp(config := { maxSteps := 3000000 }) [c1,qa,r1,ra];try exact⟨rfl,rfl⟩
   apply af
   ·rw[aW];refine aj (fun s:Nat=>i2≤s+1∧s≤j∧scanDown pD D i2 s=j2) (fun s=>⟨[(0,.own 999),(1,.pv (.int .i64 (a:Int))),(10,.pv (.int .i64 (i2:Int))),(11,.pv (.int .i64 (s:Int)))],[(999,.arr 22 (rA D))]⟩) (fun s=>s) [] j (by refine⟨?_,?_,?_⟩<;>first|omega|exact hj2.symm) ?_ ?_;·simp
    ·rintro s ⟨l1,l2,l3⟩;by_cases hc:i2≤s
     ·have ws:IntKind.i64.wrap ((s:Int)-1)=((s-1:Nat):Int):=by rw[wrap_i64 (by omega)];omega
      have c1:(i2:Int)≤(s:Int):=by omega
      have q1:s<D.size:=by omega
      have r1:=bB q1;cases hb:(!ltInt (gA D s) (gA D a)) with|true=>have e:=scanDown_go pD D i2 s hc (by omega) (by rw[hpD];exact hb);rw[e]at l3;obtain⟨s',hs'⟩:∃s',s'=s-1:=⟨_,rfl⟩;rw[←hs']at ws l3;simp(config := { maxSteps := 3000000 }) [c1,q1,qa,r1,ra,hb,ws];exact⟨s',⟨by omega,by omega,l3⟩,rfl,by omega⟩|false=>have e:=scanDown_end pD D i2 s (.inr (by rw[hpD];exact hb));rw[e]at l3;subst l3;simp(config := { maxSteps := 3000000 }) [c1,q1,qa,r1,ra,hb];try exact⟨rfl,rfl⟩
     ·have c1:¬(i2:Int)≤(s:Int):=by omega
      have e:=scanDown_end pD D i2 s (.inl hc);rw[e]at l3;subst l3;rcases q137 s D.size with q1|q1;·have r1:=bB q1;simp(config := { maxSteps := 3000000 }) [c1,q1,qa,r1,ra];try exact⟨rfl,rfl⟩
      ·have r1:=mw q1;simp(config := { maxSteps := 3000000 }) [c1,qa,r1,ra];try exact⟨rfl,rfl⟩
   have z2:j2<D.size:=by omega
   have r2:=bB z2;by_cases hgt:i2>j2
   ·have k1:(j2:Int)<(i2:Int):=by omega
    have e:=part_first_break ltInt d a b c hi hj hDD (by rw[hi2,hpU]) (by rw[hj2,hpD]) hgt;rw[hW]at e;subst e;have r3:=bB (d:=D.setIfInBounds j2 (gA D a)) (i:=a) (by rw[q102];omega);simp(config := { maxSteps := 3000000 }) [k1,qa,z2,ra,r2,r3];rfl
   ·have k1:¬(j2:Int)<(i2:Int):=by omega
    have e:=part_first_go ltInt d a b c hi hj hDD (by rw[hi2,hpU]) (by rw[hj2,hpD]) hgt;rw[hW]at e;have lt2:=part_scans_lt ltInt a i j D (by omega) (i2:=i2) (j2:=j2) (by rw[hi2,hpU]) (by rw[hj2,hpD]) (by omega);obtain⟨V,hV⟩:∃V,V=partLoop ltInt a (i2+1) (j2-1) (swp D i2 j2):=⟨_,rfl⟩;rw[←hV]at e;subst e;obtain⟨i3,hi3⟩:∃i3,i3=i2+1:=⟨_,rfl⟩;obtain⟨j3,hj3⟩:∃j3,j3=j2-1:=⟨_,rfl⟩;rw[←hi3,←hj3]at hV;have z1:i2<D.size:=by omega
    have r1:=bB z1;have r3:=bB (d:=D.setIfInBounds i2 (gA D j2)) (i:=j2) (by rw[q102];omega);have v1:IntKind.i64.wrap ((i2:Int)+1)=(i3:Int):=by rw[wrap_i64 (by omega)];omega
    have v2:IntKind.i64.wrap ((j2:Int)-1)=(j3:Int):=by rw[wrap_i64 (by omega)];omega
    apply af;·simp(config := { maxSteps := 3000000 }) [k1];exact⟨rfl,rfl⟩
    apply af;·simp(config := { maxSteps := 3000000 }) [z1,z2,r1,r2,r3];exact⟨rfl,rfl⟩
    rw[show(D.setIfInBounds i2 (gA D j2)).setIfInBounds j2 (gA D i2)=swp D i2 j2 from rfl];apply af;·simp(config := { maxSteps := 3000000 }) [v1];exact⟨rfl,rfl⟩
    apply af;·simp(config := { maxSteps := 3000000 }) [v2];exact⟨rfl,rfl⟩
    rw[aL];rw[aW];refine aj (fun x:(Nat×Nat)×Array Int=>(a<x.1.1∧x.1.1≤x.1.2+1)∧x.1.2<b∧x.2.size=d.size∧V=partLoop ltInt a x.1.1 x.1.2 x.2) (fun x=>⟨[(0,.own 999),(1,.pv (.int .i64 (a:Int))),(10,.pv (.int .i64 (x.1.1:Int))),(11,.pv (.int .i64 (x.1.2:Int)))],[(999,.arr 22 (rA x.2))]⟩) (fun x=>x.1.2) [] ((i3,j3),swp D i2 j2) ⟨⟨by show a<i3;omega,by show i3≤j3+1;omega⟩,by show j3<b;omega,by rw[size_swp,g4],hV⟩ ?_ ?_;·simp
    ·clear hV hi2 hj2 u1 u2 u3 u4 hi hj hi3 hj3 v1 v2 r1 r2 r3 z1 z2 k1 hgt lt2 w1 w2 g1 g2 g3 q1 q2 hDD g4 qa ra hpU hpD hW i2 j2 pU pD;clear D;rintro⟨⟨i,j⟩,D⟩ ⟨⟨g1,g2⟩,g3,g4,g5⟩;have g1:a<i:=g1;have g2:i≤j+1:=g2;have g3:j<b:=g3;have g4:D.size=d.size:=g4;have g5:V=partLoop ltInt a i j D:=g5;have qa:a<D.size:=by omega
     have ra:=bB qa;obtain⟨pU,hpU⟩:∃pU:Int→Bool,pU=fun x=>ltInt x D[a]!:=⟨_,rfl⟩;obtain⟨pD,hpD⟩:∃pD:Int→Bool,pD=fun x=>!ltInt x D[a]!:=⟨_,rfl⟩;obtain⟨i2,hi2⟩:∃i2,i2=scanUp pU D j i:=⟨_,rfl⟩;obtain⟨j2,hj2⟩:∃j2,j2=scanDown pD D i2 j:=⟨_,rfl⟩;have u1:=scanUp_spec pU D j _ i rfl;rw[←hi2]at u1;have u2:=scanDown_spec pD D i2 j;rw[←hj2]at u2;have u3:i≤i2∧i2≤j+1:=⟨u1.1,u1.2.1 g2⟩;have u4:j2≤j∧i2≤j2+1:=⟨u2.1,u2.2.1 u3.2⟩;rw[jt];dsimp only;rw[aW];apply af
     ·rw[aW];refine aj (fun s:Nat=>i≤s∧s≤j+1∧scanUp pU D j s=i2) (fun s=>⟨[(0,.own 999),(1,.pv (.int .i64 (a:Int))),(10,.pv (.int .i64 (s:Int))),(11,.pv (.int .i64 (j:Int)))],[(999,.arr 22 (rA D))]⟩) (fun s=>j+1-s) [] i (by refine⟨?_,?_,?_⟩<;>first|omega|exact hi2.symm) ?_ ?_;·simp
      ·rintro s ⟨l1,l2,l3⟩;by_cases hc:s≤j
       ·have ws:IntKind.i64.wrap ((s:Int)+1)=((s+1:Nat):Int):=by rw[wrap_i64 (by omega)];omega
        have c1:(s:Int)≤(j:Int):=by omega
        have q1:s<D.size:=by omega
        have r1:=bB q1;cases hb:ltInt (gA D s) (gA D a) with|true=>have e:=scanUp_go pU D j s hc (by rw[hpU];exact hb);rw[e]at l3;obtain⟨s',hs'⟩:∃s',s'=s+1:=⟨_,rfl⟩;rw[←hs']at ws l3;simp(config := { maxSteps := 3000000 }) [c1,q1,qa,r1,ra,hb,ws];exact⟨s',⟨by omega,by omega,l3⟩,rfl,by omega⟩|false=>have e:=scanUp_end pU D j s (.inr (by rw[hpU];exact hb));rw[e]at l3;subst l3;simp(config := { maxSteps := 3000000 }) [c1,q1,qa,r1,ra,hb];try exact⟨rfl,rfl⟩
       ·have c1:¬(s:Int)≤(j:Int):=by omega
        have e:=scanUp_end pU D j s (.inl hc);rw[e]at l3;subst l3;rcases q137 s D.size with q1|q1;·have r1:=bB q1;simp(config := { maxSteps := 3000000 }) [c1,q1,qa,r1,ra];try exact⟨rfl,rfl⟩
        ·have r1:=mw q1;simp(config := { maxSteps := 3000000 }) [c1,qa,r1,ra];try exact⟨rfl,rfl⟩
     apply af
     ·rw[aW];refine aj (fun s:Nat=>i2≤s+1∧s≤j∧scanDown pD D i2 s=j2) (fun s=>⟨[(0,.own 999),(1,.pv (.int .i64 (a:Int))),(10,.pv (.int .i64 (i2:Int))),(11,.pv (.int .i64 (s:Int)))],[(999,.arr 22 (rA D))]⟩) (fun s=>s) [] j (by refine⟨?_,?_,?_⟩<;>first|omega|exact hj2.symm) ?_ ?_;·simp
      ·rintro s ⟨l1,l2,l3⟩;by_cases hc:i2≤s
       ·have ws:IntKind.i64.wrap ((s:Int)-1)=((s-1:Nat):Int):=by rw[wrap_i64 (by omega)];omega
        have c1:(i2:Int)≤(s:Int):=by omega
        have q1:s<D.size:=by omega
        have r1:=bB q1;cases hb:(!ltInt (gA D s) (gA D a)) with|true=>have e:=scanDown_go pD D i2 s hc (by omega) (by rw[hpD];exact hb);rw[e]at l3;obtain⟨s',hs'⟩:∃s',s'=s-1:=⟨_,rfl⟩;rw[←hs']at ws l3;simp(config := { maxSteps := 3000000 }) [c1,q1,qa,r1,ra,hb,ws];exact⟨s',⟨by omega,by omega,l3⟩,rfl,by omega⟩|false=>have e:=scanDown_end pD D i2 s (.inr (by rw[hpD];exact hb));rw[e]at l3;subst l3;simp(config := { maxSteps := 3000000 }) [c1,q1,qa,r1,ra,hb];try exact⟨rfl,rfl⟩
       ·have c1:¬(i2:Int)≤(s:Int):=by omega
        have e:=scanDown_end pD D i2 s (.inl hc);rw[e]at l3;subst l3;rcases q137 s D.size with q1|q1;·have r1:=bB q1;simp(config := { maxSteps := 3000000 }) [c1,q1,qa,r1,ra];try exact⟨rfl,rfl⟩
        ·have r1:=mw q1;simp(config := { maxSteps := 3000000 }) [c1,qa,r1,ra];try exact⟨rfl,rfl⟩
     have z2:j2<D.size:=by omega
     have r2:=bB z2;by_cases hgt:i2>j2
     ·have k1:(j2:Int)<(i2:Int):=by omega
      have e:=part_break ltInt a i j D (i2:=i2) (j2:=j2) (by rw[hi2,hpU]) (by rw[hj2,hpD]) hgt;rw[←g5]at e;have e1:(j2:Int)=(V.1:Int):=by rw[e]
      have e2:rA (swp D j2 a)=rA (swp V.2 V.1 a):=by rw[e]
      have r3:=bB (d:=D.setIfInBounds j2 (gA D a)) (i:=a) (by rw[q102];omega);simp(config := { maxSteps := 3000000 }) [k1,qa,z2,ra,r2,r3];exact⟨e1,e2⟩
     ·have k1:¬(j2:Int)<(i2:Int):=by omega
      have e:=part_go ltInt a i j D (i2:=i2) (j2:=j2) (by rw[hi2,hpU]) (by rw[hj2,hpD]) hgt;rw[e]at g5;have lt2:=part_scans_lt ltInt a i j D (by omega) (i2:=i2) (j2:=j2) (by rw[hi2,hpU]) (by rw[hj2,hpD]) (by omega);have z1:i2<D.size:=by omega
      have r1:=bB z1;have r3:=bB (d:=D.setIfInBounds i2 (gA D j2)) (i:=j2) (by rw[q102];omega);have v1:IntKind.i64.wrap ((i2:Int)+1)=(i2:Int)+1:=wrap_i64 (by omega);obtain⟨j3,hj3⟩:∃j3,j3=j2-1:=⟨_,rfl⟩;have v2:IntKind.i64.wrap ((j2:Int)-1)=(j3:Int):=by rw[wrap_i64 (by omega)];omega
      rw[←hj3]at g5;apply af;·simp(config := { maxSteps := 3000000 }) [k1];exact⟨rfl,rfl⟩
      apply af;·simp(config := { maxSteps := 3000000 }) [z1,z2,r1,r2,r3];exact⟨rfl,rfl⟩
      simp(config := { maxSteps := 3000000 }) [v1,v2];exact⟨i2+1,j3,swp D i2 j2,⟨⟨by omega,by omega⟩,by omega,by rw[size_swp,g4],g5⟩,⟨⟨by omega,rfl⟩,rfl⟩,by omega⟩
  ·cases h
 ·cases h
noncomputable def Pf:List AV→Option (Prop×AV)|[.aO [.fr e a],.pv (.int .i64 p),.pv (.int .i64 q)]=>if e=22 then(dec dX a).map fun l=>((0≤p∧p<q)∧q≤(l.length:Int)∧l.length<50,.bE 0 [.pv (.bool (partialInsertionSort ltInt l.toArray p.toNat q.toNat).2),.fr 22 (rA (partialInsertionSort ltInt l.toArray p.toNat q.toNat).1)]) else none|_=>none
@[simp] theorem Gpis_eq (e:TypeId) (d:Array Int) (p q:Int):Pf [.aO [.fr e (rA d)],.pv (.int .i64 p),.pv (.int .i64 q)]=if e=22 then some ((0≤p∧p<q)∧q≤(d.size:Int)∧d.size<50,.bE 0 [.pv (.bool (partialInsertionSort ltInt d p.toNat q.toNat).2),.fr 22 (rA (partialInsertionSort ltInt d p.toNat q.toNat).1)]) else none:=by show(if e=22 then(dec dX (rA d)).map _ else none)=_;rw[jg];simp
theorem Cy {d:Array Int}{a b:Nat} (h:b-a<50):partialInsertionSort ltInt d a b=(d,decide (scanSorted ltInt d b (a+1)=b)):=by
 unfold partialInsertionSort partialIns;by_cases hs:scanSorted ltInt d b (a+1)=b;·simp only[if_pos hs,decide_eq_true hs]
 ·simp only[if_neg hs,if_pos h,decide_eq_false hs]
theorem Ro (d:Array Int) (b:Nat):∀(n i:Nat),b-i=n→i≤b→scanSorted ltInt d b i≤b:=by intro n;induction n with|zero=>intro i h1 h2;rw[scanSorted_stop ltInt d b i (.inl (by omega))];exact h2|succ n ih=>intro i h1 h2;cases hl:ltInt d[i]! d[i-1]! with|true=>rw[scanSorted_stop ltInt d b i (.inr hl)];exact h2|false=>rw[scanSorted_go ltInt d b i (by omega) hl];exact ih (i+1) (by omega) (by omega)
theorem aag:dI Tryz.prog 213 Pf:=by
 intro ys φ r h hφ;unfold Pf at h;split at h
 ·rename_i e ra p q;split at h
  ·rename_i he;subst he;obtain⟨l,hl,h⟩:=q0.1 h;cases h;obtain⟨D,rfl,rfl⟩:=lT hl;obtain⟨⟨h1,h2⟩,h3,h5⟩:=hφ;rw[q83]at h3 h5;obtain⟨a,rfl⟩:∃a:Nat,p=a:=⟨p.toNat,by omega⟩;obtain⟨b,rfl⟩:∃a:Nat,q=a:=⟨q.toNat,by omega⟩;rw[q68,q68,q135,Cy (by omega)];obtain⟨i0,hi0⟩:∃i0,i0=a+1:=⟨_,rfl⟩;obtain⟨i2,hi2⟩:∃i2,i2=scanSorted ltInt D b i0:=⟨_,rfl⟩;have le2:i2≤b:=by rw[hi2];exact Ro D b _ i0 rfl (by omega)
   rw[←hi0,←hi2];have w1:IntKind.i64.wrap ((a:Int)+1)=(i0:Int):=by rw[wrap_i64 (by omega)];omega
   have w2:IntKind.i64.wrap ((b:Int)-(a:Int))=(b:Int)-(a:Int):=wrap_i64 (by omega);refine cf (ag oc ah) (by kernel_rfl) (by conv=>lhs;reduce) (by simp) rfl (by simp) ?_;apply af;·simp(config := { maxSteps := 3000000 });exact⟨rfl,rfl⟩
   apply af;·simp(config := { maxSteps := 3000000 }) [w1];exact⟨rfl,rfl⟩
   rw[aL];apply af;·simp(config := { maxSteps := 3000000 });exact⟨rfl,rfl⟩
   rw[aW];refine aj (fun _:Unit=>True) (fun _=>⟨[(0,.own 999),(1,.pv (.int .i64 (a:Int))),(2,.pv (.int .i64 (b:Int))),(6,.pv (.bool false)),(7,.pv (.int .i64 (i0:Int))),(8,.pv (.int .i64 0))],[(999,.arr 22 (rA D))]⟩) (fun _=>0) [] () trivial ?_ ?_;·simp
   ·intro _ _;apply af;·simp(config := { maxSteps := 3000000 });exact⟨rfl,rfl⟩
    rw[aL];rw[aW];apply af
    ·rw[aW];refine aj (fun s:Nat=>i0≤s∧s≤b∧scanSorted ltInt D b s=i2) (fun s=>⟨[(0,.own 999),(1,.pv (.int .i64 (a:Int))),(2,.pv (.int .i64 (b:Int))),(6,.pv (.bool false)),(7,.pv (.int .i64 (s:Int)))],[(999,.arr 22 (rA D))]⟩) (fun s=>b-s) [] i0 ⟨q93 _,by omega,hi2.symm⟩ ?_ ?_;·simp
     ·rintro s ⟨l1,l2,l3⟩;obtain⟨t,ht⟩:∃t,s=t+1:=⟨s-1,by omega⟩;have ws:IntKind.i64.wrap ((s:Int)-1)=(t:Int):=by rw[wrap_i64 (by omega)];omega
      have wp:IntKind.i64.wrap ((s:Int)+1)=(s:Int)+1:=wrap_i64 (by omega);have q2:t<D.size:=by omega
      have r2:=bB q2;by_cases hc:s<b
      ·have c1:(s:Int)<(b:Int):=by omega
       have q1:s<D.size:=by omega
       have r1:=bB q1;cases hb:ltInt D[s]! D[s-1]! with|false=>
        rw[scanSorted_go ltInt D b s hc hb]at l3;have hb2:ltInt (gA D s) (gA D t)=false:=by rw[←hb,show t=s-1 by omega];rfl
        simp(config := { maxSteps := 3000000 }) [c1,q1,q2,r1,r2,hb2,ws,wp];exact⟨s+1,⟨by omega,by omega,l3⟩,by omega,by omega⟩|true=>
        rw[scanSorted_stop ltInt D b s (.inr hb)]at l3;have hb2:ltInt (gA D s) (gA D t)=true:=by rw[←hb,show t=s-1 by omega];rfl
        subst l3;simp(config := { maxSteps := 3000000 }) [c1,q1,q2,r1,r2,hb2,ws];exact⟨rfl,rfl⟩
      ·have c1:¬(s:Int)<(b:Int):=by omega
       rw[scanSorted_stop ltInt D b s (.inl hc)]at l3;subst l3;rcases q137 s D.size with q1|q1;·have r1:=bB q1;simp(config := { maxSteps := 3000000 }) [c1,q1,q2,r1,r2,ws];try exact⟨rfl,rfl⟩
       ·have r1:=mw q1;simp(config := { maxSteps := 3000000 }) [c1,q2,r1,r2,ws];try exact⟨rfl,rfl⟩
    by_cases hz:i2=b
    ·have c1:(i2:Int)=(b:Int):=by omega
     simp(config := { maxSteps := 3000000 }) [c1,hz]
    ·have c1:¬(i2:Int)=(b:Int):=by omega
     have c2:(b:Int)-(a:Int)<50:=by omega
     apply af;·simp(config := { maxSteps := 3000000 }) [c1,hz];exact⟨rfl,rfl⟩
     simp(config := { maxSteps := 3000000 }) [c2,w2,hz]
  ·cases h
 ·cases h
theorem xS:SWO ltInt where
 irrefl x:=by unfold ltInt;simp
 trans x y z h1 h2:=by unfold ltInt at*;simp at*;omega
 ntrans x y z h1 h2:=by unfold ltInt at*;simp at*;omega
theorem vS (a b:Nat):∀(n i j:Nat) (d:Array Int),j=n→a<i→i≤j+1→j<b→a<(partEqLoop ltInt a i j d).1∧(partEqLoop ltInt a i j d).1≤b∧(partEqLoop ltInt a i j d).2.size=d.size:=by intro n;induction n using Nat.strongRecOn with|_ n ih=>
 intro i j d hn h1 h2 h3;have u1:=scanUp_spec (fun x=>!ltInt d[a]! x) d j _ i rfl;obtain⟨i2,hi2⟩:∃i2,i2=scanUp (fun x=>!ltInt d[a]! x) d j i:=⟨_,rfl⟩;rw[←hi2]at u1;have u2:=scanDown_spec (fun x=>ltInt d[a]! x) d i2 j;obtain⟨j2,hj2⟩:∃j2,j2=scanDown (fun x=>ltInt d[a]! x) d i2 j:=⟨_,rfl⟩;rw[←hj2]at u2;have u3:i≤i2∧i2≤j+1:=⟨u1.1,u1.2.1 h2⟩;have u4:j2≤j∧i2≤j2+1:=⟨u2.1,u2.2.1 u3.2⟩;by_cases hgt:i2>j2;·rw[partEq_break ltInt a i j d hi2 hj2 hgt];exact⟨by show a<i2;omega,by show i2≤b;omega,rfl⟩
 ·have lt2:=scans_lt ltInt a i j d (by omega) hi2 hj2 (by omega);rw[partEq_go ltInt a i j d hi2 hj2 hgt];have:=ih (j2-1) (by omega) (i2+1) (j2-1) (swp d i2 j2) rfl (by omega) (by omega) (by omega);rw[size_swp]at this;exact this
theorem xN {d:Array Int}{a b c:Nat} (h1:a≤c) (h2:c<b) (h3:b≤d.size):a≤(partition ltInt d a b c).1∧(partition ltInt d a b c).1<b∧(partition ltInt d a b c).2.2.size=d.size:=by obtain⟨x1,x2,x3,_⟩:=partition_holds (lt:=ltInt) xS d a b c h1 h2 h3;exact⟨x1,x2,x3.1⟩
theorem Bc {D D1 D2:Array Int}{a b lm lm1 pv:Nat}{wb wp:Bool}{c:Nat×Hint}{hint:Hint}{pi:Array Int×Bool} (h12:¬b-a≤12) (hl:¬lm=0) (e1:D1=if(!wb)=true then breakPatterns D a b else D) (e2:lm1=if(!wb)=true then lm-1 else lm) (e3:c=choosePivot ltInt D1 a b) (e4:D2=if c.2=.decreasing then reverseRange D1 a b else D1) (e5:pv=if c.2=.decreasing then(b-1)-(c.1-a) else c.1) (e6:hint=if c.2=.decreasing then Hint.increasing else c.2) (e7:pi=if(wb&&wp&&decide (hint=.increasing))=true then partialInsertionSort ltInt D2 a b else(D2,false)):pdq ltInt D a b lm wb wp=if pi.2=true then pi.1 else if(decide (a>0)&&!ltInt pi.1[a-1]! pi.1[pv]!)=true then(if a<(partitionEqual ltInt pi.1 a b pv).1∧(partitionEqual ltInt pi.1 a b pv).1≤b then pdq ltInt (partitionEqual ltInt pi.1 a b pv).2 (partitionEqual ltInt pi.1 a b pv).1 b lm1 wb wp else(partitionEqual ltInt pi.1 a b pv).2) else(if a≤(partition ltInt pi.1 a b pv).1∧(partition ltInt pi.1 a b pv).1<b then(if(partition ltInt pi.1 a b pv).1-a<b-(partition ltInt pi.1 a b pv).1 then pdq ltInt (pdq ltInt (partition ltInt pi.1 a b pv).2.2 a (partition ltInt pi.1 a b pv).1 lm1 true true) ((partition ltInt pi.1 a b pv).1+1) b lm1 (decide ((partition ltInt pi.1 a b pv).1-a≥(b-a)/8)) (partition ltInt pi.1 a b pv).2.1 else pdq ltInt (pdq ltInt (partition ltInt pi.1 a b pv).2.2 ((partition ltInt pi.1 a b pv).1+1) b lm1 true true) a (partition ltInt pi.1 a b pv).1 lm1 (decide (b-(partition ltInt pi.1 a b pv).1≥(b-a)/8)) (partition ltInt pi.1 a b pv).2.1) else(partition ltInt pi.1 a b pv).2.2):=by subst e1 e2 e3 e4 e5 e6 e7;rw[pdq];dsimp only;rw[if_neg h12,if_neg hl];rfl
theorem Hl {D:Array Int}{a b c:Nat} (h1:a≤c) (h2:c<b):a<(partitionEqual ltInt D a b c).1∧(partitionEqual ltInt D a b c).1≤b∧(partitionEqual ltInt D a b c).2.size=D.size:=by have:=vS a b _ (a+1) (b-1) (swp D a c) rfl (by omega) (by omega) (by omega);rw[size_swp]at this;exact this
theorem zx:∀(n:Nat) (D:Array Int) (a b lm:Nat) (wb wp:Bool),b-a=n→a≤b→b≤D.size→b-a<50→(pdq ltInt D a b lm wb wp).size=D.size:=by intro n;induction n using Nat.strongRecOn with|_ n ih=>
 intro D a b lm wb wp hn h1 h2 h50;by_cases h12:b-a≤12;·rw[pdq,if_pos h12];exact(insertionSort_holds (lt:=ltInt) xS D a b h1 h2).1.1
 by_cases hl:lm=0;·rw[pdq,if_neg h12,if_pos hl];exact(heapSort_holds (lt:=ltInt) xS D a b h1 h2).1.1
 obtain⟨D1,e1⟩:∃D1,D1=if(!wb)=true then breakPatterns D a b else D:=⟨_,rfl⟩;obtain⟨lm1,e2⟩:∃lm1,lm1=if(!wb)=true then lm-1 else lm:=⟨_,rfl⟩;obtain⟨c,e3⟩:∃c,c=choosePivot ltInt D1 a b:=⟨_,rfl⟩;obtain⟨D2,e4⟩:∃D2,D2=if c.2=.decreasing then reverseRange D1 a b else D1:=⟨_,rfl⟩;obtain⟨pv,e5⟩:∃pv,pv=if c.2=.decreasing then(b-1)-(c.1-a) else c.1:=⟨_,rfl⟩;obtain⟨hint,e6⟩:∃hint,hint=if c.2=.decreasing then Hint.increasing else c.2:=⟨_,rfl⟩;obtain⟨pi,e7⟩:∃pi,pi=if(wb&&wp&&decide (hint=.increasing))=true then partialInsertionSort ltInt D2 a b else(D2,false):=⟨_,rfl⟩;rw[Bc h12 hl e1 e2 e3 e4 e5 e6 e7];have t1:D1.size=D.size:=by
  rw[e1];split;·exact(breakPatterns_holds D a b h1 h2).1
  ·rfl
 have t2:=choosePivot_holds ltInt D1 a b (by omega);rw[←e3]at t2;have t3:D2.size=D.size:=by
  rw[e4];split;·rw[(reverseRange_holds D1 a b h1 (by omega)).1,t1]
  ·exact t1
 have t4:a≤pv∧pv<b:=by rw[e5];split<;>omega
 have t6:pi.1.size=D.size:=by
  rw[e7];split;·rw[Cy h50];exact t3
  ·exact t3
 have p1:=Hl (D:=pi.1) t4.1 t4.2;have p2:=xN (d:=pi.1) t4.1 t4.2 (by omega);split;·exact t6
 split;·rw[if_pos ⟨p1.1,p1.2.1⟩,ih _ (by omega) _ _ _ _ _ _ rfl (by omega) (by omega) (by omega)];omega
 ·rw[if_pos ⟨p2.1,p2.2.1⟩];split;·rw[ih _ (by omega) _ _ _ _ _ _ rfl (by omega) (by rw[ih _ (by omega) _ _ _ _ _ _ rfl (by omega) (by omega) (by omega)];omega) (by omega),ih _ (by omega) _ _ _ _ _ _ rfl (by omega) (by omega) (by omega)];omega
  ·rw[ih _ (by omega) _ _ _ _ _ _ rfl (by omega) (by rw[ih _ (by omega) _ _ _ _ _ _ rfl (by omega) (by omega) (by omega)];omega) (by omega),ih _ (by omega) _ _ _ _ _ _ rfl (by omega) (by omega) (by omega)];omega
noncomputable def Gpd (N:Nat):List AV→Option (Prop×AV)|[.aO [.fr e a],.pv (.int .i64 p),.pv (.int .i64 q),.pv (.int .i64 m)]=>if e=22∧N≠0 then(dec dX a).map fun l=>((0≤p∧p≤q)∧q-p<(N:Int)∧(q≤(l.length:Int)∧l.length<50)∧0≤m∧m≤1000,.bE 0 [.aO [],.fr 22 (rA (pdq ltInt l.toArray p.toNat q.toNat m.toNat true true))]) else none|_=>none
@[simp] theorem Gpd_eq (N:Nat) (e:TypeId) (d:Array Int) (p q m:Int):Gpd N [.aO [.fr e (rA d)],.pv (.int .i64 p),.pv (.int .i64 q),.pv (.int .i64 m)]=if e=22∧N≠0 then some ((0≤p∧p≤q)∧q-p<(N:Int)∧(q≤(d.size:Int)∧d.size<50)∧0≤m∧m≤1000,.bE 0 [.aO [],.fr 22 (rA (pdq ltInt d p.toNat q.toNat m.toNat true true))]) else none:=by show(if e=22∧N≠0 then(dec dX (rA d)).map _ else none)=_;rw[jg];simp
theorem Z2:∀N,dI Tryz.prog 206 (Gpd N)
 |0=>by
  intro ys φ r h hφ;unfold Gpd at h;split at h;·rw[if_neg (by simp)]at h;cases h
  ·cases h|N+1=>by
  have hrec:=Z2 N;intro ys φ r h hφ;unfold Gpd at h;split at h
  ·rename_i e ra p q m;split at h
   ·rename_i he;obtain⟨rfl,_⟩:=he;obtain⟨l,hl,h⟩:=q0.1 h;cases h;obtain⟨d,rfl,rfl⟩:=lT hl;obtain⟨⟨h1,h2⟩,h3,⟨h4,h5⟩,h6,h7⟩:=hφ;rw[q83]at h4 h5;obtain⟨a,rfl⟩:∃a:Nat,p=a:=⟨p.toNat,by omega⟩;obtain⟨b,rfl⟩:∃a:Nat,q=a:=⟨q.toNat,by omega⟩;obtain⟨lm,rfl⟩:∃a:Nat,m=a:=⟨m.toNat,by omega⟩;rw[q68,q68,q68,q135];generalize hW:pdq ltInt d a b lm true true=W;refine cf (bg (ks:=[2,0,0,0]) hrec (by kernel_rfl) (bg (ks:=[2,0,0]) QQ (by kernel_rfl) (bg (ks:=[2,0,0]) RM (by kernel_rfl) (bg (ks:=[2,0,0]) c_brk (by kernel_rfl) (ag Wa (bg (ks:=[2,0,0]) XN (by kernel_rfl) (bg (ks:=[2,0,0]) aag (by kernel_rfl) (ag oc (bg (ks:=[2,0,0,0]) YY (by kernel_rfl) (bg (ks:=[2,0,0,0]) Y9 (by kernel_rfl) ah)))))))))) (by kernel_rfl) (by conv=>lhs;reduce) (by simp) rfl (by simp) ?_;apply af;·simp(config := { maxSteps := 3000000 });exact⟨rfl,rfl⟩
    apply af;·simp(config := { maxSteps := 3000000 });exact⟨rfl,rfl⟩
    rw[aW];refine aj (fun x:((Nat×Nat)×Nat)×(Bool×Bool)×Array Int=>(x.1.1.1≤x.1.1.2∧x.1.1.2≤d.size)∧x.1.1.2-x.1.1.1<N+1∧x.1.2≤1000∧x.2.2.size=d.size∧pdq ltInt x.2.2 x.1.1.1 x.1.1.2 x.1.2 x.2.1.1 x.2.1.2=W) (fun x=>⟨[(0,.own 999),(1,.pv (.int .i64 (x.1.1.1:Int))),(2,.pv (.int .i64 (x.1.1.2:Int))),(3,.pv (.int .i64 (x.1.2:Int))),(8,.pv (.bool x.2.1.1)),(9,.pv (.bool x.2.1.2))],[(999,.arr 22 (rA x.2.2))]⟩) (fun x=>x.1.1.2-x.1.1.1) [] (((a,b),lm),(true,true),d) ⟨⟨by show a≤b;omega,by show b≤d.size;omega⟩,by show b-a<N+1;omega,by show lm≤1000;omega,rfl,hW⟩ ?_ ?_;·simp
    ·rintro⟨⟨⟨a,b⟩,lm⟩,⟨wb,wp⟩,D⟩ ⟨⟨g1,g2⟩,g3,g4,g5,g6⟩;have g1:a≤b:=g1;have g2:b≤d.size:=g2;have g3:b-a<N+1:=g3;have g4:lm≤1000:=g4;have g5:D.size=d.size:=g5;have g6:pdq ltInt D a b lm wb wp=W:=g6;obtain⟨n,hn⟩:∃n,n=b-a:=⟨_,rfl⟩;have w0:IntKind.i64.wrap ((b:Int)-(a:Int))=(n:Int):=by rw[wrap_i64 (by omega)];omega
     have s1:(a:Int)≤(b:Int):=by omega
     have s2:(b:Int)≤(D.size:Int):=by omega
     have s3:D.size≤1000000:=by omega
     have s4:D.size≤200:=by omega
     have s5:D.size<50:=by omega
     rw[jt];dsimp only;rw[aW];apply af;·simp(config := { maxSteps := 3000000 }) [w0];exact⟨rfl,rfl⟩
     by_cases h12:b-a≤12
     ·have hx:pdq ltInt D a b lm wb wp=insertionSort ltInt D a b:=by rw[pdq,if_pos h12]
      rw[hx]at g6;have c12:(n:Int)≤12:=by omega
      subst g6;simp(config := { maxSteps := 3000000 }) [c12,s1,s2,s3]
     have c12:¬(n:Int)≤12:=by omega
     apply af;·simp(config := { maxSteps := 3000000 }) [c12];exact⟨rfl,rfl⟩
     by_cases hl0:lm=0
     ·have hx:pdq ltInt D a b lm wb wp=heapSort ltInt D a b:=by rw[pdq,if_neg h12,if_pos hl0]
      rw[hx]at g6;subst g6;subst hl0;simp(config := { maxSteps := 3000000 }) [s1,s2,s3]
     have cl0:¬(lm:Int)=0:=by omega
     apply af;·simp(config := { maxSteps := 3000000 }) [cl0,hl0];exact⟨rfl,rfl⟩
     obtain⟨D1,e1⟩:∃D1,D1=if(!wb)=true then breakPatterns D a b else D:=⟨_,rfl⟩;obtain⟨lm1,e2⟩:∃lm1,lm1=if(!wb)=true then lm-1 else lm:=⟨_,rfl⟩;obtain⟨c,e3⟩:∃c,c=choosePivot ltInt D1 a b:=⟨_,rfl⟩;obtain⟨D2,e4⟩:∃D2,D2=if c.2=.decreasing then reverseRange D1 a b else D1:=⟨_,rfl⟩;obtain⟨pv,e5⟩:∃pv,pv=if c.2=.decreasing then(b-1)-(c.1-a) else c.1:=⟨_,rfl⟩;obtain⟨hint,e6⟩:∃hint,hint=if c.2=.decreasing then Hint.increasing else c.2:=⟨_,rfl⟩;obtain⟨pi,e7⟩:∃pi,pi=if(wb&&wp&&decide (hint=.increasing))=true then partialInsertionSort ltInt D2 a b else(D2,false):=⟨_,rfl⟩;rw[Bc h12 hl0 e1 e2 e3 e4 e5 e6 e7]at g6;have t1:D1.size=D.size:=by
      rw[e1];split;·exact(breakPatterns_holds D a b g1 (by omega)).1
      ·rfl
     have t2:=choosePivot_holds ltInt D1 a b (by omega);rw[←e3]at t2;have t3:D2.size=D.size:=by
      rw[e4];split;·rw[(reverseRange_holds D1 a b g1 (by omega)).1,t1]
      ·exact t1
     have t4:a≤pv∧pv<b:=by rw[e5];split<;>omega
     have t5:lm1≤lm:=by rw[e2];split<;>omega
     have v1:IntKind.i64.wrap ((lm:Int)-1)=((lm-1:Nat):Int):=by rw[wrap_i64 (by omega)];omega
     apply bA (fun st'=>∃x:AV,st'=⟨look [(0,.own 999),(1,.pv (.int .i64 (a:Int))),(2,.pv (.int .i64 (b:Int))),(3,.pv (.int .i64 (lm1:Int))),(8,.pv (.bool wb)),(9,.pv (.bool wp)),(10,.pv (.int .i64 (n:Int))),(11,.aw),(12,.aw),(13,.aw),(14,.aw),(15,.aw),(16,.aw),(17,.aw),(18,.aw),(23,.pv (.bool false)),(29,.pv (.bool false)),(35,x),(50,.aw),(68,.aw),(72,.aw),(87,.aw),(113,.aw)],ab [(999,.arr 22 (rA D1))]⟩);·cases wb with|true=>have e1:D1=D:=e1;have e2:lm1=lm:=e2;rw[e1,e2];simp(config := { maxSteps := 3000000 });exact⟨_,rfl⟩|false=>have e1:D1=breakPatterns D a b:=e1;have e2:lm1=lm-1:=e2;rw[e1,e2];simp(config := { maxSteps := 3000000 }) [s1,s2,s4,v1];exact⟨_,rfl⟩
     rintro st' ⟨x35,rfl⟩;have s2a:(b:Int)≤(D1.size:Int):=by omega
     have s3a:D1.size≤1000000:=by omega
     apply af;·simp(config := { maxSteps := 3000000 }) [s1,s2a,s3a,←e3];exact⟨rfl,rfl⟩
     apply bA (fun st'=>∃x:AV,st'=⟨look [(0,.own 999),(1,.pv (.int .i64 (a:Int))),(2,.pv (.int .i64 (b:Int))),(3,.pv (.int .i64 (lm1:Int))),(8,.pv (.bool wb)),(9,.pv (.bool wp)),(10,.pv (.int .i64 (n:Int))),(11,.pv (.int .i64 (pv:Int))),(12,.pv (.int .i64 (fL hint))),(13,.aw),(14,.aw),(15,.aw),(16,.aw),(17,.aw),(18,.aw),(23,.pv (.bool false)),(29,.pv (.bool false)),(35,x35),(50,x),(68,.aw),(72,.aw),(87,.aw),(113,.aw)],ab [(999,.arr 22 (rA D2))]⟩)
     ·by_cases hd:c.2=.decreasing
      ·rw[if_pos hd]at e4 e5 e6;have k1:fL c.2=2:=by rw[hd];rfl
       have k2:fL hint=1:=by rw[e6];rfl
       have v2:IntKind.i64.wrap ((b:Int)-1)=(b:Int)-1:=wrap_i64 (by omega);have v3:IntKind.i64.wrap ((c.1:Int)-(a:Int))=(c.1:Int)-(a:Int):=wrap_i64 (by omega);have v4:IntKind.i64.wrap ((b:Int)-1-((c.1:Int)-(a:Int)))=(pv:Int):=by rw[wrap_i64 (by omega)];omega
       rw[k1,k2];simp(config := { maxSteps := 3000000 }) [s1,s2a,s3a,v2,v3,v4,←e4];exact⟨_,rfl⟩
      ·rw[if_neg hd]at e4 e5 e6;have k1:¬fL c.2=2:=by revert hd;cases c.2<;>simp[fL]
       rw[e4,e5,e6];simp(config := { maxSteps := 3000000 }) [k1];exact⟨_,rfl⟩
     rintro st' ⟨x50,rfl⟩;have s2b:(b:Int)≤(D2.size:Int):=by omega
     have s5b:D2.size<50:=by omega
     have s1b:(a:Int)<(b:Int):=by omega
     have t6:pi.1.size=D.size:=by
      rw[e7];split;·rw[Cy (by omega)];exact t3
      ·exact t3
     apply bA (fun st'=>pi.2=false∧∃x y:AV,st'=⟨look [(0,.own 999),(1,.pv (.int .i64 (a:Int))),(2,.pv (.int .i64 (b:Int))),(3,.pv (.int .i64 (lm1:Int))),(8,.pv (.bool wb)),(9,.pv (.bool wp)),(10,.pv (.int .i64 (n:Int))),(11,.pv (.int .i64 (pv:Int))),(12,.pv (.int .i64 (fL hint))),(13,.aw),(14,.aw),(15,.aw),(16,.aw),(17,.aw),(18,.aw),(23,.pv (.bool false)),(29,.pv (.bool false)),(35,x35),(50,x50),(68,x),(72,y),(87,.aw),(113,.aw)],ab [(999,.arr 22 (rA pi.1))]⟩);·cases hb:(wb&&wp&&decide (hint=.increasing)) with
      |true=>
       rw[hb,if_pos rfl]at e7;simp only[q73,decide_eq_true_eq]at hb;obtain⟨⟨rfl,rfl⟩,hh⟩:=hb;have k2:fL hint=1:=by rw[hh];rfl
       rw[k2];apply af;·simp(config := { maxSteps := 3000000 });exact⟨rfl,rfl⟩
       apply bJ rfl;apply af;·simp(config := { maxSteps := 3000000 }) [s1b,s2b,s5b,←e7];exact⟨rfl,rfl⟩
       cases hp:pi.2 with|true=>rw[hp,if_pos rfl]at g6;simp(config := { maxSteps := 3000000 }) [g6]|false=>simp(config := { maxSteps := 3000000 });exact⟨_,_,rfl⟩
      |false=>rw[hb,if_neg (by simp)]at e7;rw[e7];refine fj (fun _ h=>⟨rfl,h⟩) (fun _ _ h=>h) ?_;cases wb with|false=>simp(config := { maxSteps := 3000000 });exact⟨_,_,rfl⟩|true=>cases wp with|false=>simp(config := { maxSteps := 3000000 });exact⟨_,_,rfl⟩|true=>
        have k1:¬fL hint=1:=by revert hb;cases hint<;>simp[fL]
        simp(config := { maxSteps := 3000000 }) [k1];exact⟨_,_,rfl⟩
     rintro st' ⟨hp,x68,x72,rfl⟩;rw[hp,if_neg (by simp)]at g6;obtain⟨D3,e8⟩:∃D3,D3=pi.1:=⟨_,rfl⟩;rw[←e8]at g6 t6 ⊢;obtain⟨u,hu⟩:∃u,u=a-1:=⟨_,rfl⟩;have q1:pv<D3.size:=by omega
     have q2:u<D3.size:=by omega
     have r1:=bB q1;have r2:=bB q2;have s2c:(b:Int)≤(D3.size:Int):=by omega
     have s3c:D3.size≤1000000:=by omega
     have s6:(a:Int)≤(pv:Int):=by omega
     have s7:(pv:Int)<(b:Int):=by omega
     rw[←hu]at g6;cases hc:decide (a>0)&&!ltInt D3[u]! D3[pv]! with|true=>
      rw[hc,if_pos rfl]at g6;simp only[q73,decide_eq_true_eq,q142]at hc;obtain⟨ha0,hl1⟩:=hc;have hl2:ltInt (gA D3 u) (gA D3 pv)=false:=hl1;have c1:0<a:=ha0;have v2:IntKind.i64.wrap ((a:Int)-1)=(u:Int):=by rw[wrap_i64 (by omega)];omega
      obtain⟨E,hE⟩:∃E,E=partitionEqual ltInt D3 a b pv:=⟨_,rfl⟩;have hr:=vS a b _ (a+1) (b-1) (swp D3 a pv) rfl (by omega) (by omega) (by omega);rw[show partEqLoop ltInt a (a+1) (b-1) (swp D3 a pv)=E from hE.symm,size_swp]at hr;rw[←hE,if_pos ⟨hr.1,hr.2.1⟩]at g6;rw[aL]
      ·apply af;·simp(config := { maxSteps := 3000000 }) [c1,v2,q1,q2,r1,r2,hl2];exact⟨rfl,rfl⟩
       apply bJ rfl;apply af;·simp(config := { maxSteps := 3000000 }) [s6,s7,s1,s2c,s3c,←hE];exact⟨rfl,rfl⟩
       apply af;·simp(config := { maxSteps := 3000000 });exact⟨rfl,rfl⟩
       rw[HX];simp only[pw,if_true];refine⟨(((E.1,b),lm1),(wb,wp),E.2),⟨⟨by show E.1≤b;omega,by show b≤d.size;omega⟩,by show b-E.1<N+1;omega,by show lm1≤1000;omega,by show E.2.size=d.size;omega,g6⟩,?_,by show b-E.1<b-a;omega⟩;simp|false=>
      rw[hc,if_neg (by simp)]at g6;obtain⟨E,hE⟩:∃E,E=partition ltInt D3 a b pv:=⟨_,rfl⟩;have hr:=xN (d:=D3) (a:=a) (b:=b) (c:=pv) (by omega) (by omega) (by omega);rw[←hE]at hr g6;rw[if_pos ⟨hr.1,hr.2.1⟩]at g6;apply bA (fun st'=>∃x:AV,st'=⟨look [(0,.own 999),(1,.pv (.int .i64 (a:Int))),(2,.pv (.int .i64 (b:Int))),(3,.pv (.int .i64 (lm1:Int))),(8,.pv (.bool wb)),(9,.pv (.bool wp)),(10,.pv (.int .i64 (n:Int))),(11,.pv (.int .i64 (pv:Int))),(12,.pv (.int .i64 (fL hint))),(13,.aw),(14,.aw),(15,.aw),(16,.aw),(17,.aw),(18,.aw),(23,.pv (.bool false)),(29,.pv (.bool false)),(35,x35),(50,x50),(68,x68),(72,x72),(87,x),(113,.aw)],ab [(999,.arr 22 (rA D3))]⟩)
      ·rcases q169 a with ha0|ha0
       ·have c1:¬0<a:=by omega
        have v2:IntKind.i64.wrap ((a:Int)-1)=-1:=by rw[ha0];decide
        have r0:rowAt (rA D3) (-1)=[.int .u64 (gA D3 0)]:=bB (d:=D3) (i:=0) (by omega);simp(config := { maxSteps := 3000000 }) [c1,v2,q1,r1,r0];exact⟨_,rfl⟩
       ·have hl1:ltInt D3[u]! D3[pv]! =true:=by cases hl:ltInt D3[u]! D3[pv]! with|true=>rfl|false=>rw[hl]at hc;simp at hc;omega
        have hl2:ltInt (gA D3 u) (gA D3 pv)=true:=hl1;have c1:0<a:=ha0;have v2:IntKind.i64.wrap ((a:Int)-1)=(u:Int):=by rw[wrap_i64 (by omega)];omega
        simp(config := { maxSteps := 3000000 }) [c1,v2,q1,q2,r1,r2,hl2];exact⟨_,rfl⟩
      rintro st' ⟨x87,rfl⟩;obtain⟨m1,hm1⟩:∃m1,m1=E.1-a:=⟨_,rfl⟩;obtain⟨m2,hm2⟩:∃m2,m2=b-E.1:=⟨_,rfl⟩;obtain⟨n8,hn8⟩:∃n8,n8=(b-a)/8:=⟨_,rfl⟩;rw[←hm1,←hm2,←hn8]at g6;have y1:IntKind.i64.wrap ((E.1:Int)-(a:Int))=(m1:Int):=by rw[wrap_i64 (by omega)];omega
      have y2:IntKind.i64.wrap ((b:Int)-(E.1:Int))=(m2:Int):=by rw[wrap_i64 (by omega)];omega
      have y3:(n:Int).tdiv 8=(n8:Int):=by rw[q146 (by omega)];omega
      have y4:IntKind.i64.wrap (n8:Int)=(n8:Int):=wrap_i64 (by omega);have y5:IntKind.i64.wrap ((E.1:Int)+1)=((E.1+1:Nat):Int):=by rw[wrap_i64 (by omega)];omega
      have N0:N≠0:=by omega
      apply af;·simp(config := { maxSteps := 3000000 }) [s6,s7,s1,s2c,s3c,←hE];exact⟨rfl,rfl⟩
      apply af;·simp(config := { maxSteps := 3000000 });exact⟨rfl,rfl⟩
      apply af;·simp(config := { maxSteps := 3000000 }) [y1,y2];exact⟨rfl,rfl⟩
      apply af;·simp(config := { maxSteps := 3000000 }) [y3,y4];exact⟨rfl,rfl⟩
      obtain⟨G,hG⟩:∃G,G=E.2.2:=⟨_,rfl⟩;obtain⟨k,hk⟩:∃k,k=E.1:=⟨_,rfl⟩;rw[←hG,←hk]at g6 hr;rw[←hG,←hk];rw[←hk]at y5 hm1 hm2;by_cases hlt:m1<m2
      ·rw[if_pos hlt]at g6;apply af;·simp(config := { maxSteps := 3000000 }) [hlt];exact⟨rfl,rfl⟩
       apply bJ rfl;apply af;·simp(config := { maxSteps := 3000000 });exact⟨rfl,rfl⟩
       obtain⟨P,hP⟩:∃P,P=pdq ltInt G a k lm1 true true:=⟨_,rfl⟩;have zP:P.size=d.size:=by rw[hP,zx _ _ _ _ _ _ _ rfl (by omega) (by omega) (by omega)];omega
       rw[←hP]at g6;have o1:(a:Int)≤(k:Int):=by omega
       have o2:(k:Int)-(a:Int)<(N:Int):=by omega
       have o3:(k:Int)≤(G.size:Int):=by omega
       have o4:G.size<50:=by omega
       have o5:(lm1:Int)≤1000:=by omega
       apply af;·simp(config := { maxSteps := 3000000 }) [N0,o1,o2,o3,o4,o5,←hP];exact⟨rfl,rfl⟩
       apply og;·simp(config := { maxSteps := 3000000 }) [y5];exact⟨rfl,rfl⟩
       refine⟨(((k+1,b),lm1),(decide (m1≥n8),E.2.1),P),⟨⟨by show k+1≤b;omega,by show b≤d.size;omega⟩,by show b-(k+1)<N+1;omega,by show lm1≤1000;omega,zP,g6⟩,?_,by show b-(k+1)<b-a;omega⟩;simp
      ·rw[if_neg hlt]at g6;have hge:m2≤m1:=by omega
       apply af;·simp(config := { maxSteps := 3000000 }) [hlt];exact⟨rfl,rfl⟩
       apply cM rfl;apply af;·simp(config := { maxSteps := 3000000 });exact⟨rfl,rfl⟩
       obtain⟨k1,hk1⟩:∃k1,k1=k+1:=⟨_,rfl⟩;rw[←hk1]at g6 y5;obtain⟨P,hP⟩:∃P,P=pdq ltInt G k1 b lm1 true true:=⟨_,rfl⟩;have zP:P.size=d.size:=by rw[hP,zx _ _ _ _ _ _ _ rfl (by omega) (by omega) (by omega)];omega
       rw[←hP]at g6;have o1:(k1:Int)≤(b:Int):=by omega
       have o2:(b:Int)-(k1:Int)<(N:Int):=by omega
       have o3:(b:Int)≤(G.size:Int):=by omega
       have o4:G.size<50:=by omega
       have o5:(lm1:Int)≤1000:=by omega
       apply af;·simp(config := { maxSteps := 3000000 }) [N0,o1,o2,o3,o4,o5,y5,←hP];exact⟨rfl,rfl⟩
       apply og;·simp(config := { maxSteps := 3000000 });exact⟨rfl,rfl⟩
       refine⟨(((a,k),lm1),(decide (m2≥n8),E.2.1),P),⟨⟨by show a≤k;omega,by show k≤d.size;omega⟩,by show k-a<N+1;omega,by show lm1≤1000;omega,zP,g6⟩,?_,by show k-a<b-a;omega⟩;simp
   ·cases h
  ·cases h
theorem Ju (l:List Int):(Go.Sort.sort ltInt l.toArray).toList=vj l:=sortInt_holds (sort_holds (pdq_holds insertionSort_holds heapSort_holds partialInsertionSort_holds (partition_holds _) (partitionEqual_holds _) reverseRange_holds)) l
@[simp] noncomputable def GSo:List AV→Option (Prop×AV)|[.aO [.fr e a]]=>if e=22 then(dec dX a).map fun l=>(l.length<50,.bE 0 [.aO [],.fr 22 (cm (vj l))]) else none|_=>none
theorem K9:dI Tryz.prog 197 GSo:=by
 intro ys φ r h hφ;unfold GSo at h;split at h
 ·rename_i e ra;split at h
  ·rename_i he;subst he;obtain⟨l,hl,h⟩:=q0.1 h;cases h;cases dM hl;have hφ:l.length<50:=hφ;have hx:cm (vj l)=rA (pdq ltInt l.toArray 0 l.length (bitsLen l.length) true true):=by rw[←Ju];unfold Go.Sort.sort rA;simp
   rw[hx,Am];have h8:=(nd l.length (by omega)).2;obtain⟨d,hd⟩:∃d,d=l.toArray:=⟨_,rfl⟩;have hds:d.size=l.length:=by rw[hd];simp
   rw[←hd,←hds];rw[←hds]at h8 hφ;obtain⟨m,hm⟩:∃m,m=bitsLen d.size:=⟨_,rfl⟩;rw[←hm]at h8 ⊢;have w1:IntKind.u64.wrap (d.size:Int)=(d.size:Int):=wrap_u64 (by omega);have w2:(d.size:Int)<256:=by omega
   have w3:(m:Int)≤1000:=by omega
   refine cf (ag MI (bg (ks:=[2,0,0,0]) (Z2 50) (by kernel_rfl) ah)) (by kernel_rfl) (by conv=>lhs;reduce) (by simp) rfl (by simp) ?_;simp(config := { maxSteps := 3000000 }) [w1,w2,w3,hφ,←hm];omega
  ·cases h
 ·cases h
end Go.Proofs.YtlicclncicbajaaGreat.Ab
namespace Go.Proofs.YtlicclncicbajaaGreat.Ab
open Go Go.RowKit R
variable {i j:Nat}{l:List Vn}
@[simp] noncomputable def GpV:List AV→Option (Prop×AV)|[.agg [.pv (.ro a)]]=>(dec rowP a).map fun l=>(l.length<50,.fr 22 (cm (nG (l.map Pn.v))))|_=>none
theorem c_pV:aJ Tryz.prog 177 GpV:=by
 intro ys φ r h hφ;unfold GpV at h;split at h
 ·rename_i ra;obtain⟨a,ha,h⟩:=q0.1 h;cases h;cases az ha;have hl5:a.length<50:=hφ;refine ak (bg (ks:=[2]) K9 (by kernel_rfl) (eQ (p:=0) (k:=998) aas (by kernel_rfl) ah)) (by kernel_rfl) (by conv=>lhs;reduce) (by simp) ?_;simp(config := { maxSteps := 3000000 });refine aj (fun i:Nat=>i≤a.length) (fun i=>⟨[(3,.own 3),(7,.pv (.ro (au a))),(8,.pv (.int .i64 a.length)),(9,.pv (.int .i64 i))],[(3,.arr 22 (cm ((a.take i).map Pn.v)))]⟩) (fun i=>a.length-i) [] 0 (by simp) ?_ ?_;·simp
  ·intro i hi;have w2:IntKind.i64.wrap ((i:Int)+1)=(i:Int)+1:=wrap_i64 (by omega);by_cases hlt:i<a.length
   ·have r1:=bo hlt;have hll:((a.take i).map Pn.v).length=i:=by simp;omega
    have htk:(a.take (i+1)).map Pn.v=(a.take i).map Pn.v++[a[i].v]:=by rw[q62 hlt,q148];rfl
    simp(config := { maxSteps := 3000000 }) [w2,hlt,r1,ax];refine⟨⟨by omega,by omega⟩,i+1,by omega,⟨by omega,by have:=congrArg cm htk;rw[pW,q124,q124]at this;exact this.symm⟩,by omega⟩
   ·have hia:i=a.length:=by omega
    subst hia;have hsl:(vj (a.map Pn.v)).length≤1000000:=by simp[vj];omega
    have hml:(a.map Pn.v).length<50:=by simp;omega
    simp(config := { maxSteps := 3000000 }) [hsl,hml,hl5];rfl
 ·cases h
def P9:List AV→Option (Prop×AV)|[]=>some (True,.pv (.bool true))|_=>none
@[simp] theorem Sl:P9 []=some (True,.pv (.bool true)):=rfl
def H7 (l m:List Vn) (i:Nat):Prop:=m.length=l.length∧∀k (h:k<m.length) (h':k<l.length) (h'':l.length-1-k<l.length),(k<i∨l.length-i≤k→m[k]=l[l.length-1-k])∧(i≤k∧k<l.length-i→m[k]=l[k])
theorem Ft (l:List Vn):H7 l l 0:=⟨rfl,fun k h h' h''=>⟨fun h1=>by omega,fun _=>rfl⟩⟩
theorem It {l m:List Vn} (h:H7 l m i) (hi:l.length≤2*i+1):m=l.reverse:=by
 obtain⟨hl,hk⟩:=h;apply q282;·simp[hl]
 ·intro k h1 h2;rw[List.getElem_reverse];have h3:=hk k h1 (by omega) (by omega);by_cases hc:k<i∨l.length-i≤k;·exact h3.1 hc
  ·have:=h3.2 (by omega);rw[this];congr 1;omega
theorem E4 {l m:List Vn} (h:H7 l m i) (hi:2*i+1<l.length) (h1:i<m.length) (h2:l.length-1-i<m.length):H7 l ((m.set i m[l.length-1-i]).set (l.length-1-i) m[i]) (i+1):=by
 obtain⟨hl,hk⟩:=h;refine⟨by simp[hl],fun k h3 h4 h5=>?_⟩;have ha:=(hk i h1 (by omega) (by omega)).2 (by omega);have hb:=(hk (l.length-1-i) h2 (by omega) (by omega)).2 (by omega);simp only[List.getElem_set];constructor
 ·intro hc;by_cases e1:l.length-1-i=k;·rw[if_pos e1,ha];congr 1;omega
  ·rw[if_neg e1];by_cases e2:i=k;·subst e2;rw[if_pos rfl,hb]
   ·rw[if_neg e2];exact(hk k (by omega) h4 h5).1 (by omega)
 ·intro hc;rw[if_neg (by omega),if_neg (by omega)];exact(hk k (by omega) h4 h5).2 (by omega)
@[simp] noncomputable def GRev:List AV→Option (Prop×AV)|[.aO [.fr e a]]=>if e=108 then(dec dj a).map fun l=>(l.length≤1000000,.bE 0 [.aO [],.fr 108 (aH l.reverse)]) else none|_=>none
theorem W9:nM Tryz.prog 205 GRev:=by
 intro ys φ r h hφ;unfold GRev at h;split at h
 ·rename_i e ra;split at h
  ·rename_i hef;subst hef;obtain⟨a,ha,h⟩:=q0.1 h;cases h;cases aI ha;have w0:IntKind.i64.wrap ((a.length:Int)-1)=(a.length:Int)-1:=wrap_i64 (by omega);refine na ah (by kernel_rfl) (by conv=>lhs;reduce) (by simp) (by simp[cY,mn,iL]) (by simp) ?_;simp(config := { maxSteps := 3000000 }) [w0];refine aj (fun x:Nat×List Vn=>H7 a x.2 x.1∧2*x.1≤a.length+1) (fun x=>⟨[(0,.own 999),(2,.pv (.int .i64 x.1)),(3,.pv (.int .i64 ((a.length:Int)-1-x.1)))],[(999,.arr 108 (aH x.2))]⟩) (fun x=>a.length-x.1) [] (0,a) ⟨Ft a,by simp⟩ ?_ ?_;·simp
   ·rintro⟨i,m⟩ ⟨hm,h2⟩;dsimp only at hm h2;have hml:=hm.1;have w1:IntKind.i64.wrap ((i:Int)+1)=(i:Int)+1:=wrap_i64 (by omega);have w2:IntKind.i64.wrap ((a.length:Int)-1-i-1)=(a.length:Int)-1-i-1:=wrap_i64 (by omega);by_cases hlt:(i:Int)<(a.length:Int)-1-i
    ·have hi:i<m.length:=by omega
     have hj:a.length-1-i<m.length:=by omega
     have hst:=E4 hm (by omega) hi hj;have r1:=bj hi;have r2:=bj hj;have hc:((a.length-1-i:Nat):Int)=(a.length:Int)-1-i:=by omega
     rw[hc]at r2;have b1:0≤(a.length:Int)-1-i:=by omega
     have b2:(a.length:Int)-1-i<m.length:=by omega
     have b3:(i:Int)≤(a.length:Int)-1:=by omega
     have r3:rowAt ((aH m).set i [.int .u64 m[a.length-1-i].n,.int .u64 m[a.length-1-i].b,.int .u64 m[a.length-1-i].p,.int .u64 m[a.length-1-i].i,.int .u64 m[a.length-1-i].s,.int .u64 m[a.length-1-i].z,.int .u64 m[a.length-1-i].m,.str m[a.length-1-i].t,.bool m[a.length-1-i].inl,.bool m[a.length-1-i].dm]) ((a.length:Int)-1-i)=[.int .u64 m[a.length-1-i].n,.int .u64 m[a.length-1-i].b,.int .u64 m[a.length-1-i].p,.int .u64 m[a.length-1-i].i,.int .u64 m[a.length-1-i].s,.int .u64 m[a.length-1-i].z,.int .u64 m[a.length-1-i].m,.str m[a.length-1-i].t,.bool m[a.length-1-i].inl,.bool m[a.length-1-i].dm]:=by rw[←r2];unfold rowAt;rw[show((a.length:Int)-1-i).toNat=a.length-1-i from by omega,q78,q78,List.getElem?_set_ne (by omega)]
     have hrows:((aH m).set i (dj m[a.length-1-i])).set (a.length-1-i) (dj m[i])=aH ((m.set i m[a.length-1-i]).set (a.length-1-i) m[i]):=by simp only[aH,q217]
     simp only[dj]at hrows;simp(config := { maxSteps := 3000000 }) [w1,w2,hlt,r1,r2,hi,b1,b2,b3,r3];exact⟨i+1,_,⟨hst,by omega⟩,⟨⟨by omega,by omega⟩,hrows⟩,by omega⟩
    ·have he:=It hm (by omega);simp(config := { maxSteps := 3000000 }) [hlt,he]
  ·cases h
 ·cases h
def CC (l:List Vn) (i:Nat):Vn:=(l[i]?).getD v0
theorem eX  (h:i<l.length):CC l i=l[i]:=by unfold CC;rw[q64 h];rfl
def db (l:List Vn):Nat→Nat→List Vn|0,i=>[CC l i]|f+1,i=>if bT (CC l i)=0 then[CC l i] else db l f (pZ l (bT (CC l i))).toNat++[CC l i]
def gP (l:List Vn) (n:Int):List Vn×Int:=if bS l=false then([],2) else match iw l n with|none=>([],150)|some v=>(db l l.length (pZ l v.n).toNat,0)
theorem yT (hr:bS l=true) (h:i<l.length) (hb:bT l[i]≠0):∃j,∃hj:j<i,pZ l (bT l[i])=(j:Int)∧l[j].n=bT l[i]:=by
 have hok:=(iR l).1 hr i h;unfold jx at hok;rw[q64 h]at hok;simp only[q98,q73,q134,decide_eq_true_eq]at hok;have h0:=hok.2.resolve_left hb;rcases mR (l.take i) (bT l[i]) with⟨j,hj,h1,h2,h3⟩|⟨h1,_⟩
 ·rw[q67]at hj;have hji:j<i:=by omega
  have hjl:j<l.length:=by omega
  rw[List.getElem_take]at h2;refine⟨j,hji,xU hjl h2 fun v hv=>h3 v ?_,h2⟩;rwa[q145,q120 (by omega)]
 ·omega
theorem GP (hr:bS l=true) (hi:i<l.length) (hj:j<l.length) (h:l[i].n=l[j].n):i=j:=by
 rcases q212 i j with hlt|he|hlt
 ·have h1:=kG hr (i:=i) (j-1-i) (by omega);have e1:i+(j-1-i)=j-1:=by omega
  simp only[e1]at h1;have h2:=oy hr (i:=j-1) (by omega);have e2:j-1+1=j:=by omega
  simp only[e2]at h2;omega
 ·exact he
 ·have h1:=kG hr (i:=j) (i-1-j) (by omega);have e1:j+(i-1-j)=i-1:=by omega
  simp only[e1]at h1;have h2:=oy hr (i:=i-1) (by omega);have e2:i-1+1=i:=by omega
  simp only[e2]at h2;omega
theorem m6 (hr:bS l=true) (h:i<l.length):pZ l l[i].n=i:=by
 rcases mR l l[i].n with⟨j,hj,h1,h2,_⟩|⟨_,h2⟩;·rw[h1,GP hr hj h h2]
 ·exact absurd rfl (h2 l[i] (q82 h))
theorem get_at {n:Int}{v:Vn} (h:iw l n=some v):∃i,∃h:i<l.length,v=l[i]∧v.n=n:=by unfold iw at h;have h1:=List.mem_of_find?_eq_some h;have h2:=List.find?_some h;obtain⟨i,hi,rfl⟩:=q192 (q125.1 h1).1;exact⟨i,hi,rfl,by simpa using h2⟩
@[simp] noncomputable def MZ (e:TypeId):List AV→Option (Prop×AV)|[.pv (.ro a),.pv (.int .u64 n)]=>(dec dj a).map fun l=>(l.length≤100000∧(∀v∈l,lg v),.aO [.fr e (aH (gP l n).1),.pv (.int .i64 (gP l n).2)])|_=>none
theorem QU:aJ Tryz.prog 194 (MZ 108):=by
 intro ys φ r h hφ;unfold MZ at h;split at h
 ·rename_i ra n;obtain⟨a,ha,h⟩:=q0.1 h;cases h;cases aI ha;obtain⟨hl5,hov⟩:=hφ;have hl9:a.length≤1000000000:=by omega
  have hl6:a.length≤1000000:=by omega
  have fl:∀l,bp (aH l):=aE;refine ak (ag Ky (ag P2 (ag B9 (ag RA (eQ (p:=0) (k:=999) W9 (by kernel_rfl) ah))))) (by kernel_rfl) (by conv=>lhs;reduce) (by simp) ?_;cases hr:bS a with
  |false=>
   have hp:gP a n=([],2):=by simp[gP,hr]
   simp(config := { maxSteps := 3000000 }) [hl9,hr,hp]|true=>cases hg:iw a n with
  |none=>
   have hp:gP a n=([],150):=by simp[gP,hr,hg]
   simp(config := { maxSteps := 3000000 }) [hl9,hl6,hr,hp,hg,bP,v0]|some v=>
  obtain⟨i0,hi0,hv,hvn⟩:=get_at hg;have hp:gP a n=(db a a.length i0,0):=by simp only[gP,hr,hg];rw[if_neg (by simp),hv,m6 hr hi0,q68]
  rw[hp];generalize hW:db a a.length i0=W;apply af;·simp(config := { maxSteps := 3000000 });exact⟨rfl,rfl⟩
  apply af;·simp(config := { maxSteps := 3000000 }) [hl9,hr];exact⟨rfl,rfl⟩
  apply af;·simp(config := { maxSteps := 3000000 }) [hl9,hl6,hg,bP];exact⟨rfl,rfl⟩
  apply af;·simp(config := { maxSteps := 3000000 });exact⟨rfl,rfl⟩
  simp(config := { maxSteps := 3000000 });refine aj (fun x:Nat×Nat×List Vn=>x.1<a.length∧x.1≤x.2.1∧x.2.2.length+x.1≤a.length∧W=db a x.2.1 x.1++x.2.2.reverse) (fun x=>⟨[(0,.pv (.ro (aH a))),(6,.ptr 6 0),(8,.own 8)],[(6,.box (bP (CC a x.1))),(8,.arr 108 (aH x.2.2))]⟩) (fun x=>x.1) [] (i0,a.length,[]) ?_ ?_ ?_;·exact⟨hi0,by show i0≤a.length;omega,by simp;omega,by simp[hW]⟩
  ·simp[bP,eX hi0,hv]
  ·rintro⟨i,f,o⟩ ⟨hi,hf,hol,hWe⟩;dsimp only at hi hf hol hWe;rw[eX hi];have hbv:(if a[i].inl=true then 0 else a[i].b)=bT a[i]:=rfl;have hol6:o.length≤100000:=by omega
   have hrow:aH o++[[PV.int .u64 a[i].n,.int .u64 a[i].b,.int .u64 a[i].p,.int .u64 a[i].i,.int .u64 a[i].s,.int .u64 a[i].z,.int .u64 a[i].m,.str a[i].t,.bool a[i].inl,.bool a[i].dm]]=aH (o++[a[i]]):=by rw[cP];rfl
   have b1:(o.length+1)*80≤140737488355328:=by omega
   have b2:o.length≤9223372036854775806:=by omega
   by_cases hb:bT a[i]=0
   ·have hWr:W=(o++[a[i]]).reverse:=by
     have hpl:db a f i=[a[i]]:=by cases f with|zero=>rw[db,eX hi]|succ f=>rw[db,eX hi,if_pos hb]
     rw[hWe,hpl];simp
    have hon:o.length+1≤1000000:=by omega
    simp(config := { maxSteps := 3000000 }) [bP,hbv,hb,ax,hrow,b1,b2,fl,hon];rw[hWr,List.reverse_append];rfl
   ·obtain⟨j,hji,hjx,hjn⟩:=yT hr hi hb;have hjl:j<a.length:=by omega
    obtain⟨f,rfl⟩:∃g,f=g+1:=⟨f-1,by omega⟩;have hpl:db a (f+1) i=db a f j++[a[i]]:=by rw[db,eX hi,if_neg hb,hjx,q68]
    have r1:=bj hjl;simp(config := { maxSteps := 3000000 }) [bP,hbv,hb,ax,hrow,b1,b2,hl9,hjx,r1,hjl];refine⟨j,f,o++[a[i]],⟨hjl,by omega,by rw[q74,q157];omega,?_⟩,⟨?_,rfl⟩,hji⟩;·rw[hWe,hpl];simp
    ·rw[eX hjl];exact⟨rfl,rfl,rfl,rfl,rfl,rfl,rfl,rfl,rfl,rfl⟩
 ·cases h
theorem oq  (hb:bT (CC l i)=0) (f:Nat):db l f i=[CC l i]:=by cases f with|zero=>rfl|succ f=>rw[db,if_pos hb]
theorem Gp (hr:bS l=true):∀(i f g:Nat),i<l.length→i≤f→i≤g→db l f i=db l g i:=by intro i;induction i using Nat.strongRecOn with|_ i ih=>
 intro f g hi hf hg;by_cases hb:bT (CC l i)=0;·rw[oq hb,oq hb]
 ·obtain⟨j,hj,hx,_⟩:=yT hr hi (by rw[←eX hi];exact hb);rw[←eX hi]at hx;obtain⟨f,rfl⟩:∃q,f=q+1:=⟨f-1,by omega⟩;obtain⟨g,rfl⟩:∃q,g=q+1:=⟨g-1,by omega⟩;rw[db,db,if_neg hb,if_neg hb,hx,q68,ih j hj f g (by omega) (by omega) (by omega)]
theorem CS (hr:bS l=true) (hi:i<l.length) (hb:bT l[i]≠0) (hj:j<i) (hx:pZ l (bT l[i])=(j:Int)):db l l.length i=db l l.length j++[l[i]]:=by rw[Gp hr i l.length (l.length+1) hi (by omega) (by omega),db,eX hi,if_neg hb,hx,q68]
theorem mY {l:List Vn}:∀(f i:Nat),(db l f i).length≤f+1
 |0,i=>by simp[db]|f+1,i=>by
  rw[db];split;·simp
  ·have:=mY (l:=l) f (pZ l (bT (CC l i))).toNat;simp only[q74,q157];omega
@[simp] noncomputable def Grp (k:Nat):List AV→Option (Prop×AV)|[.pv (.ro a),.agg [.pv (.int .u64 n),.pv (.int .u64 b),.pv (.int .u64 p),.pv (.int .u64 i),.pv (.int .u64 s),.pv (.int .u64 z),.pv (.int .u64 m),.pv (.str t),.pv (.bool inl),.pv (.bool dm)]]=>(dec dj a).map fun l=>(l.length≤100000∧bS l=true∧(∀v∈l,lg v)∧∃q,q<k∧q<l.length∧CC l q=⟨n,b,p,i,s,z,m,t,inl,dm⟩,.fr 144 (aH (db l l.length (pZ l n).toNat)))|_=>none
theorem c_rp:∀k,aJ Tryz.prog 131 (Grp k):=by intro k;induction k with
 |zero=>
  intro ys φ r h hφ;unfold Grp at h;split at h;·obtain⟨a,ha,h⟩:=q0.1 h;cases h;obtain⟨_,_,_,q,hq,_⟩:=hφ;omega
  ·cases h|succ k ih=>
  intro ys φ r h hφ;unfold Grp at h;split at h
  ·rename_i ra n b p i s z m t inl dm;obtain⟨a,ha,h⟩:=q0.1 h;cases h;cases aI ha;obtain⟨hl5,hr,hov,q,hqk,hq,hat⟩:=hφ;have hl9:a.length≤1000000000:=by omega
   have fl:∀l,bp (aH l):=aE;rw[eX hq]at hat;have hn:a[q].n=n:=by rw[hat]
   have hix:pZ a n=(q:Int):=by rw[←hn];exact m6 hr hq
   rw[hix,q68];have hbv:(if inl=true then 0 else b)=bT a[q]:=by rw[hat];rfl
   have hbp:=qt (hov a[q] (q82 hq));have hrow:[PV.int .u64 n,.int .u64 b,.int .u64 p,.int .u64 i,.int .u64 s,.int .u64 z,.int .u64 m,.str t,.bool inl,.bool dm]=dj a[q]:=by rw[hat];rfl
   refine ak (ag C4 (ag CG (ag ih ah))) (by kernel_rfl) (by conv=>lhs;reduce) (by simp) ?_;by_cases hb:bT a[q]=0
   ·have hpl:db a a.length q=[a[q]]:=by rw[oq (by rw[eX hq];exact hb),eX hq]
    simp(config := { maxSteps := 3000000 }) [hbv,hb,ax,hpl];rw[hrow];rfl
   ·obtain⟨j,hji,hjx,hjn⟩:=yT hr hq hb;have hjl:j<a.length:=by omega
    have hb':0<bT a[q]:=by omega
    have hpl:=CS hr hq hb hji hjx;have r1:=bj hjl;have hlen:=mY (l:=a) a.length j;have hjix:pZ a a[j].n=(j:Int):=m6 hr hjl;have htk:a.take a.length=a:=q104;simp(config := { maxSteps := 3000000 }) [hbv,hb',ax,hpl,hl9,htk,hjx,r1,hjl,fl,hjix];refine⟨⟨hl5,hr,hov,j,by omega,hjl,by rw[eX hjl]⟩,⟨by omega,by omega⟩,?_⟩;rw[hrow,cP];rfl
  ·cases h
def vM (n:Int):List PV:=[.int .u64 n]
theorem G0:∀a b,vM a=vM b→a=b:=by intro a b h;simpa[vM]using h
def iN (l:List Int):List (List PV):=l.map vM
@[simp] theorem Ut:iN []=[]:=rfl
@[simp] theorem KR (l:List Int):(iN l).length=l.length:=by simp[iN]
theorem zS {l:List Int} (h:i<l.length):rowAt (iN l) (i:Int)=[.int .u64 l[i]]:=by simp[rowAt,iN,h,vM]
@[simp] theorem VF (l:List Int):dec vM (iN l)=some l:=jH G0 l
theorem fk {rows:List (List PV)}{l:List Int} (h:dec vM rows=some l):rows=iN l:=jz h
def IL (l:List Int) (n:Int):Bool:=decide (n∈l)
theorem GQ {l:List Int}{n:Int} (h:i<l.length) (hq:l[i]=n):IL l n=true:=by unfold IL;rw[decide_eq_true_eq,←hq];exact q82 h
theorem AE {l:List Int}{n:Int} (h:∀x∈l,¬x=n):IL l n=false:=by unfold IL;rw[decide_eq_false_iff_not];exact fun hn=>h n hn rfl
def Sf (l:List Int) (n:Int):Int:=if IL l n=true then(l.findIdx (fun x=>decide (x=n)):Int) else-1
theorem Sd {l:List Int}{n:Int} (h:i<l.length) (hq:l[i]=n) (ht:∀x∈l.take i,¬x=n):Sf l n=i:=by
 have hf:l.findIdx (fun x=>decide (x=n))=i:=by
  rw[q166 h];refine⟨by simpa using hq,fun j hj=>?_⟩;have:l[j]∈l.take i:=by rw[q91];exact⟨j,by omega,rfl⟩
  simpa using ht _ this
 unfold Sf;rw[GQ h hq,if_pos rfl,hf]
theorem GJ {l:List Int}{n:Int} (h:∀x∈l,¬x=n):Sf l n=-1:=by unfold Sf;rw[AE h,if_neg (by simp)]
theorem PF (l:List Int) (n:Int):decide (0≤Sf l n)=IL l n:=by unfold Sf;cases IL l n<;>simp
@[simp] noncomputable def GixU:List AV→Option (Prop×AV)|[.pv (.ro a),.pv (.int .u64 n)]=>(dec vM a).map fun l=>(l.length≤1000000000,.pv (.int .i64 (Sf l n)))|_=>none
theorem WM:aJ Tryz.prog 204 GixU:=by
 intro ys φ r h hφ;unfold GixU at h;split at h
 ·rename_i ra n;obtain⟨a,ha,h⟩:=q0.1 h;cases h;cases fk ha;refine ak ah (by kernel_rfl) (by conv=>lhs;reduce) (by simp) ?_;simp(config := { maxSteps := 3000000 });refine aj (fun i:Nat=>i≤a.length∧∀x∈a.take i,¬x=n) (fun i=>⟨[(0,.pv (.ro (iN a))),(1,.pv (.int .u64 n)),(7,.pv (.int .i64 a.length)),(8,.pv (.int .i64 i))],[]⟩) (fun i=>a.length-i) [] 0 (by simp) ?_ ?_;·simp
  ·rintro i ⟨hi,ht⟩;have w2:IntKind.i64.wrap ((i:Int)+1)=(i:Int)+1:=wrap_i64 (by omega);by_cases hlt:i<a.length
   ·have r1:=zS hlt;by_cases hq:a[i]=n;·have hx:=Sd hlt hq ht;simp(config := { maxSteps := 3000000 }) [w2,hlt,r1,hq,hx]
    ·have hq':¬n=a[i]:=fun e=>hq e.symm;simp(config := { maxSteps := 3000000 }) [w2,hlt,r1,hq'];refine⟨i+1,⟨by omega,fun x hx=>?_⟩,by omega,by omega⟩;rw[q62 hlt,q80]at hx;rcases hx with hx|hx;·exact ht x hx
     ·rw[q75]at hx;rw[hx];exact hq
   ·rw[List.take_of_length_le (by omega)]at ht;have hx:=GJ ht;simp(config := { maxSteps := 3000000 }) [hlt,hx]
 ·cases h
@[simp] noncomputable def Lo:List AV→Option (Prop×AV)|[.pv (.ro a),.pv (.int .u64 n)]=>(dec vM a).map fun l=>(l.length≤1000000000,.pv (.bool (IL l n)))|_=>none
theorem c_cnU:aJ Tryz.prog 193 Lo:=by
 intro ys φ r h hφ;unfold Lo at h;split at h;·rename_i ra n;obtain⟨a,ha,h⟩:=q0.1 h;cases h;cases fk ha;have hq:=PF a n;refine ak (ag WM ah) (by kernel_rfl) (by conv=>lhs;reduce) (by simp) ?_;simp(config := { maxSteps := 3000000 }) [hφ,hq]
 ·cases h
theorem RY:aJ Tryz.prog 129 Lo:=by
 intro ys φ r h hφ;unfold Lo at h;split at h
 ·rename_i ra n;obtain⟨a,ha,h⟩:=q0.1 h;cases h;cases fk ha;refine ak ah (by kernel_rfl) (by conv=>lhs;reduce) (by simp) ?_;simp(config := { maxSteps := 3000000 });refine aj (fun i:Nat=>i≤a.length∧∀x∈a.take i,¬x=n) (fun i=>⟨[(0,.pv (.ro (iN a))),(1,.pv (.int .u64 n)),(5,.pv (.int .i64 i))],[]⟩) (fun i=>a.length-i) [] 0 (by simp) ?_ ?_;·simp
  ·rintro i ⟨hi,ht⟩;have w2:IntKind.i64.wrap ((i:Int)+1)=(i:Int)+1:=wrap_i64 (by omega);by_cases hlt:i<a.length
   ·have r1:=zS hlt;by_cases hq:a[i]=n;·have hx:=GQ hlt hq;simp(config := { maxSteps := 3000000 }) [w2,hlt,r1,hq,hx]
    ·simp(config := { maxSteps := 3000000 }) [w2,hlt,r1,hq];refine⟨i+1,⟨by omega,fun x hx=>?_⟩,by omega,by omega⟩;rw[q62 hlt,q80]at hx;rcases hx with hx|hx;·exact ht x hx
     ·rw[q75]at hx;rw[hx];exact hq
   ·rw[List.take_of_length_le (by omega)]at ht;have hx:=AE ht;simp(config := { maxSteps := 3000000 }) [hlt,hx]
 ·cases h
def Ez (ks:List PV) (n:Int):Bool:=ks.any (mU (.int .u64 n))
@[simp] def Zp:List AV→Option (Prop×AV)|[.agg [.pv (.int .u64 n),.pv (.int .u64 _),.pv (.int .u64 _),.pv (.int .u64 _),.pv (.int .u64 _),.pv (.int .u64 _),.pv (.int .u64 _),.pv (.str _),.pv (.bool _),.pv (.bool _)],.rp [.mp ks]]=>some ((∀x∈ks,dB x=9),.pv (.bool (!Ez ks n)))|_=>none
theorem M4:aJ Tryz.prog 196 Zp:=by
 intro ys φ r h hφ;unfold Zp at h;split at h;·cases h;refine ak ah (by kernel_rfl) (by conv=>lhs;reduce) (by simp) ?_;simp(config := { maxSteps := 3000000 }) [bY];exact⟨hφ,rfl⟩
 ·cases h
theorem DB:fF Tryz.prog 196=true:=by kernel_rfl
def GV (p:Vn→Bool) (l:List Vn):Int:=if l.findIdx p<l.length then(l.findIdx p:Int) else-1
theorem RE {p:Vn→Bool} (h:i<l.length) (hq:p l[i]=true) (ht:∀v∈l.take i,p v=false):GV p l=i:=by
 have hf:l.findIdx p=i:=by
  rw[q166 h];refine⟨hq,fun j hj=>?_⟩;have:l[j]∈l.take i:=by rw[q91];exact⟨j,by omega,rfl⟩
  exact ht _ this
 unfold GV;rw[hf,if_pos h]
theorem Ax {p:Vn→Bool} (ht:∀v∈l,p v=false):GV p l=-1:=by
 have hf:l.findIdx p=l.length:=by rw[q208];exact ht
 unfold GV;rw[hf,if_neg (by omega)]
theorem KC (p:Vn→Bool) (l:List Vn):0≤GV p l↔l.any p=true:=by
 unfold GV;split;·rename_i h;have:=q209.1 h;simp only[q112];exact⟨fun _=>this,fun _=>by omega⟩
 ·rename_i h;rw[q209]at h;simp only[q112];exact⟨fun h'=>by omega,fun h'=>absurd h' h⟩
theorem Ca {p:Vn→Bool}{k:Nat} (h:GV p l=(k:Int)):k<l.length∧(l.take (k+1)).filter (fun e=>!p e)=l.take k:=by
 unfold GV at h;split at h
 ·rename_i hlt;have hk:l.findIdx p=k:=by omega
  rw[hk]at hlt;refine⟨hlt,?_⟩;obtain⟨h1,h2⟩:=(q166 hlt).1 hk;rw[q62 hlt,q131];have hf:(l.take k).filter (fun e=>!p e)=l.take k:=by rw[q174];intro e he;rw[q91]at he;obtain⟨j,hj,rfl⟩:=he;have:=h2 j (by omega);simpa using this
  rw[hf];simp[h1]
 ·omega
def np (ks:List PV) (v:Vn):Bool:=!Ez ks v.n
@[simp] noncomputable def Wu:List AV→Option (Prop×AV)|[.pv (.ro a),.bE f [.rp [.mp ks]]]=>if f=196 then(dec dj a).map fun l=>(l.length≤1000000000∧∀x∈ks,dB x=9,.pv (.int .i64 (GV (np ks) l))) else none|_=>none
theorem c_ixK:aJ Tryz.prog 178 Wu:=by
 intro ys φ r h hφ;unfold Wu at h;split at h
 ·rename_i ra f ks;split at h
  ·rename_i hf;subst hf;obtain⟨a,ha,h⟩:=q0.1 h;cases h;cases aI ha;obtain⟨hφ,hks⟩:=hφ;refine ak (ag M4 ah) (by kernel_rfl) (by conv=>lhs;reduce) (by simp) ?_;simp(config := { maxSteps := 3000000 });refine aj (fun i:Nat=>i≤a.length∧∀v∈a.take i,np ks v=false) (fun i=>⟨[(0,.pv (.ro (aH a))),(1,.bE 196 [.rp [.mp ks]]),(7,.pv (.int .i64 a.length)),(8,.pv (.int .i64 i))],[]⟩) (fun i=>a.length-i) [] 0 (by simp) ?_ ?_;·simp
   ·rintro i ⟨hi,ht⟩;have w2:IntKind.i64.wrap ((i:Int)+1)=(i:Int)+1:=wrap_i64 (by omega);by_cases hlt:i<a.length
    ·have r1:=bj hlt;have hr:np ks a[i]=false→∀v∈a.take (i+1),np ks v=false:=by
      intro h0 e he;rw[q62 hlt,q80]at he;rcases he with he|he;·exact ht e he
      ·rw[q75]at he;rw[he];exact h0
     simp(config := { maxSteps := 3000000 }) [w2,hlt,r1,DB];refine⟨hks,fun h=>(RE hlt (by simp[np,h]) ht).symm,fun h=>⟨i+1,⟨by omega,hr (by simp[np,h])⟩,by omega,by omega⟩⟩
    ·simp(config := { maxSteps := 3000000 }) [hlt];rw[List.take_of_length_le (by omega)]at ht;exact(Ax ht).symm
  ·cases h
 ·cases h
theorem qg (l:List Vn) (i:Nat) (e:Vn):(aH l).set i [.int .u64 e.n,.int .u64 e.b,.int .u64 e.p,.int .u64 e.i,.int .u64 e.s,.int .u64 e.z,.int .u64 e.m,.str e.t,.bool e.inl,.bool e.dm]=aH (l.set i e):=by unfold aH;rw[q217];rfl
def U1 (ks:List PV) (l:List Vn):List Vn:=l.filter fun v=>!np ks v
@[simp] noncomputable def MR:List AV→Option (Prop×AV)|[.fr e a,.bE f [.rp [.mp ks]]]=>if e=108∧f=196 then(dec dj a).map fun l=>(l.length≤1000000∧∀x∈ks,dB x=9,.fr 108 (aH (U1 ks l))) else none|_=>none
theorem OR:nM Tryz.prog 195 MR:=by
 intro ys φ r h hφ;unfold MR at h;split at h
 ·rename_i e ra f ks;split at h
  ·rename_i hef;obtain⟨rfl,rfl⟩:=hef;obtain⟨a,ha,h⟩:=q0.1 h;cases h;cases aI ha;obtain⟨hl6,hks⟩:=hφ;refine na (ag c_ixK (ag M4 ah)) (by kernel_rfl) (by conv=>lhs;reduce) (by simp) (by simp[cY,mn,iL]) (by simp) ?_;have hl9:a.length≤1000000000:=by omega
   have isfn3:=DB;by_cases hr:a.any (np ks)=true
   ·have hw:0≤GV (np ks) a:=(KC _ _).2 hr;obtain⟨k,hk⟩:=q191 hw;obtain⟨hkl,hkf⟩:=Ca hk;have hne:¬((k:Int)=-1):=by omega
    have w1:IntKind.i64.wrap ((k:Int)+1)=(k:Int)+1:=wrap_i64 (by omega);simp(config := { maxSteps := 3000000 }) [hk,hne,w1,hl9];refine⟨hks,?_⟩;refine aj (fun x:Nat×Nat×List Vn=>x.1<x.2.1∧x.2.1≤a.length∧x.2.2.length=a.length∧x.2.2.take x.1=(a.take x.2.1).filter (fun e=>!np ks e)∧x.2.2.drop x.2.1=a.drop x.2.1) (fun x=>⟨[(0,.own 998),(1,.bE 196 [.rp [.mp ks]]),(5,.pv (.int .i64 x.1)),(6,.pv (.int .i64 x.2.1))],[(998,.arr 108 (aH x.2.2))]⟩) (fun x=>a.length-x.2.1) [] (k,k+1,a) ?_ ?_ ?_;·exact⟨by simp,by simp;omega,rfl,by simp[hkf],rfl⟩
    ·simp
    ·rintro⟨i,j,b⟩ ⟨h1,h2,h3,h4,h5⟩;dsimp only at h1 h2 h3 h4 h5;have w2:IntKind.i64.wrap ((j:Int)+1)=(j:Int)+1:=wrap_i64 (by omega);have w3:IntKind.i64.wrap ((i:Int)+1)=(i:Int)+1:=wrap_i64 (by omega);by_cases hlt:j<a.length
     ·have hjb:j<b.length:=by omega
      have hib:i<b.length:=by omega
      have hbj:b[j]=a[j]:=by have e1:=q88 hjb;have e2:=q88 hlt;rw[h5,e2]at e1;injection e1 with e1 _;exact e1.symm
      have r1:=bj hjb;rw[hbj]at r1;have r2:=bj hib;have hib':(i:Int)<a.length:=by omega
      have hdrop:∀e,(b.set i e).drop (j+1)=a.drop (j+1):=by
       intro e;rw[q253 (by omega)];have e1:(b.drop j).drop 1=(a.drop j).drop 1:=by rw[h5]
       simpa[q258]using e1
      by_cases hq:np ks a[j]=true
      ·have hq':Ez ks a[j].n=false:=by simpa[np]using hq
       simp(config := { maxSteps := 3000000 }) [w2,w3,hlt,hjb,r1,r2,h3,hq',qg,hib',isfn3];refine⟨hks,i,j+1,b,⟨by omega,by omega,h3,?_,?_⟩,⟨⟨rfl,by omega⟩,rfl⟩,by omega⟩;·rw[q62 hlt,q131,←h4];simp[hq]
       ·have e1:(b.drop j).drop 1=(a.drop j).drop 1:=by rw[h5]
        simpa[q258]using e1
      ·have hq0:np ks a[j]=false:=by simpa using hq
       have hq':Ez ks a[j].n=true:=by simpa[np]using hq
       simp(config := { maxSteps := 3000000 }) [w2,w3,hlt,hjb,r1,r2,h3,hq',qg,hib',isfn3];refine⟨hks,by omega,i+1,j+1,b.set i a[j],⟨by omega,by omega,by simp[h3],?_,hdrop _⟩,⟨⟨by omega,by omega⟩,rfl⟩,by omega⟩;rw[q62 hlt,q131,←h4,q62 (by simp;omega)];simp[hq0,q254]
     ·simp(config := { maxSteps := 3000000 }) [hlt,h3];have hja:j=a.length:=by omega
      subst hja;rw[q104]at h4;have h3r:=iI b;refine⟨⟨by omega,h3r⟩,⟨by omega,?_⟩,?_⟩
      ·rintro x (hx|⟨_,rfl⟩|hx);·exact h3r x (q107 hx)
       ·rfl
       ·exact h3r x (q123 hx)
      ·rw[q122 (by simp;omega),q145,Nat.min_self];unfold U1;rw[←h4];simp[aH,q124]
   ·have hw:GV (np ks) a=-1:=by apply Ax;have:=hr;simp only[q112,not_exists,not_and]at this;intro e he;simpa using this e he
    have hfil:U1 ks a=a:=by unfold U1;rw[q174];intro e he;have:=hr;simp only[q112,not_exists,not_and]at this;simpa using this e he
    simp(config := { maxSteps := 3000000 }) [hw,hfil,hl9];exact hks
  ·cases h
 ·cases h
def j7 (c:Int) (cw:List Int) (v:Vn):Vn:={v with dm:=v.dm||(!decide (v.n=c)&&!IL cw v.n)}
def gR (l:List Vn):Int:=((ox l).getD v0).n
def nu (l:List Vn) (cw:List Int):List Vn:=l.map (j7 (gR l) cw)
def ky (o:List Vn) (n:Int):Bool:=(List.range o.length).any fun k=>!(CC o k).dm&&(db o o.length k).any fun w=>decide (w.n=n)
def eL (l:List Vn) (cw:List Int):List Vn:=if bS l=false then[] else(nu l cw).filter fun v=>ky (nu l cw) v.n
theorem Ka {f:Vn→Vn} (hf:∀v,(f v).n=v.n) (l:List Vn) (n:Int):pZ (l.map f) n=pZ l n:=by
 unfold pZ;rw[List.findIdx_map];have:((fun v:Vn=>decide (v.n=n))∘f)=fun v:Vn=>decide (v.n=n):=by funext v;simp[hf]
 rw[this,List.length_map]
theorem FC {f:Vn→Vn} (hf:∀v,(f v).n=v.n) (hb:∀v,bT (f v)=bT v) (l:List Vn):bS (l.map f)=bS l:=by
 have key:∀i,i<l.length→jx (l.map f) i=jx l i:=by
  intro i hi;have h1:(l.map f)[i]?=some (f l[i]):=by simp[hi]
  have h2:l[i]?=some l[i]:=q64 hi;have h3:fW (l.map f) i=fW l i:=by unfold fW;cases i with|zero=>rfl|succ i=>
   have hi':i<l.length:=by omega
   simp[hi',hf]
  unfold jx;rw[h1,h2,h3];simp only[q98,hf,hb];rw[←q124,Ka hf]
 unfold bS;rw[List.length_map];have:∀l':List Nat,(∀i∈l',i<l.length)→l'.all (jx (l.map f))=l'.all (jx l):=by intro l';induction l' with|nil=>intro _;rfl|cons x l' ih=>intro h;simp only[List.all_cons];rw[key x (h x (by simp)),ih fun i hi=>h i (by simp[hi])]
 exact this _ fun i hi=>q162.1 hi
theorem wX (l:List Vn) (cw:List Int):bS (nu l cw)=bS l:=FC (f:=j7 (gR l) cw) (fun _=>rfl) (fun _=>rfl) l
theorem DW (h:∀v∈l,lg v) (cw:List Int):∀v∈nu l cw,lg v:=by intro v hv;obtain⟨w,hw,rfl⟩:=q84.1 hv;exact h w hw
theorem tJ (l:List Vn) (cw:List Int):(nu l cw).length=l.length:=by simp[nu]
def tG (ns:List Int):List (PV×AV):=ns.map fun n=>(.int .u64 n,.agg [])
def Cl (n:Int) (ns:List Int):List Int:=if n∈ns then ns else ns++[n]
theorem zD (n:Int):∀ns:List Int,jv (.int .u64 n) (.agg []) (tG ns)=tG (Cl n ns)
 |[]=>by simp[tG,Cl,jv]|m::ns=>by
  have ih:=zD n ns;unfold tG at ih ⊢;simp only[q71,jv,mU];by_cases h:n=m;·subst h;simp[Cl]
  ·have h':decide (n=m)=false:=by simpa using h
   simp only[h',q136,if_false,ih];unfold Cl;by_cases hn:n∈ns;·simp[hn]
   ·simp[hn,h]
theorem ER (ns:List Int):gu 9 (tG ns):=by intro e he;obtain⟨n,_,rfl⟩:=q84.1 he;rfl
theorem EV (ns:List Int):(tG ns).all (fun e=>DF e.2)=true:=by rw[q90];intro e he;obtain⟨n,_,rfl⟩:=q84.1 he;rfl
def xb (ns:List Int):List PV:=ns.map (.int .u64)
theorem Hm (ns:List Int):(tG ns).map (·.1)=xb ns:=by simp[tG,xb]
theorem E0 (ns:List Int):∀x∈xb ns,dB x=9:=by intro x hx;obtain⟨n,_,rfl⟩:=q84.1 hx;rfl
theorem Ey (ns:List Int) (n:Int):Ez (xb ns) n=decide (n∈ns):=by unfold Ez xb;induction ns with|nil=>simp|cons m ns ih=>simp only[q71,q222,ih,mU,q76];by_cases h:n=m<;>simp[h]
theorem Ir (m n:Int) (ns:List Int):m∈Cl n ns↔m=n∨m∈ns:=by
 unfold Cl;split;·rename_i h;exact⟨.inr,fun h'=>h'.elim (fun e=>e▸h) id⟩
 ·simp only[q80,q75];exact⟨fun h=>h.elim .inr .inl,fun h=>h.elim .inr .inl⟩
def tq (o:List Vn) (v:Vn):List Int:=(gP o v.n).1.map (·.n)
theorem GM {o:List Vn} (hr:bS o=true) (n:Int):ky o n=true↔∃v∈bD o,n∈tq o v:=by
 unfold ky;simp only[q112,q162,q73,q142,decide_eq_true_eq];constructor
 ·rintro⟨k,hk,hh,w,hw,hn⟩;rw[eX hk]at hh;have hs:o[k]∈bD o:=by unfold bD;simp[hh]
  refine⟨o[k],hs,?_⟩;have hg:∃v,iw o o[k].n=some v:=by unfold iw;cases hf:(bD o).find? fun v=>decide (v.n=o[k].n) with|some v=>exact⟨v,rfl⟩|none=>rw[q181]at hf;exact absurd (decide_eq_true rfl) (hf _ hs)
  obtain⟨v,hg⟩:=hg;obtain⟨i,hi,hv,hvn⟩:=get_at hg;have hp:gP o o[k].n=(db o o.length k,0):=by simp only[gP,hr,hg];rw[if_neg (by simp),hvn,m6 hr hk,q68]
  unfold tq;rw[hp];exact q84.2 ⟨w,hw,hn⟩
 ·rintro⟨v,hv,hn⟩;have hv':v∈o∧v.dm=false:=by unfold bD at hv;simpa using hv
  obtain⟨k,hk,rfl⟩:=q192 hv'.1;have hg:∃v,iw o o[k].n=some v:=by unfold iw;cases hf:(bD o).find? fun v=>decide (v.n=o[k].n) with|some v=>exact⟨v,rfl⟩|none=>rw[q181]at hf;exact absurd (decide_eq_true rfl) (hf _ hv)
  obtain⟨v,hg⟩:=hg;obtain⟨i,hi,hv1,hvn⟩:=get_at hg;have hp:gP o o[k].n=(db o o.length k,0):=by simp only[gP,hr,hg];rw[if_neg (by simp),hvn,m6 hr hk,q68]
  unfold tq at hn;rw[hp]at hn;obtain⟨w,hw,hwn⟩:=q84.1 hn;exact⟨k,hk,by rw[eX hk];exact hv'.2,w,hw,hwn⟩
theorem FA {o:List Vn} (n:Int):(gP o n).1.length≤o.length+1:=by
 unfold gP;split;·simp
 ·split;·simp
  ·exact mY _ _
def oH (f:Vn→Vn) (a:List Vn) (i:Nat):List Vn:=(a.take i).map f++a.drop i
theorem Av (f:Vn→Vn) (a:List Vn) (i:Nat):(oH f a i).length=a.length:=by simp[oH];omega
theorem IT (f:Vn→Vn) {a:List Vn} (h:i<a.length):(oH f a i).set i (f a[i])=oH f a (i+1):=by unfold oH;rw[List.set_append,if_neg (by simp;omega)];simp only[List.length_map,q67];rw[q120 (show i≤a.length by omega),q247,q88 h,List.set_cons_zero,q62 h,q148];simp only[q71,q117,q96,q149,q158]
theorem KN (f:Vn→Vn) {a:List Vn} (h:i<a.length):(oH f a i)[i]'(by rw[Av];exact h)=a[i]:=by unfold oH;rw[q184 (by simp;omega)];simp only[List.length_map,q67,q120 (show i≤a.length by omega),q247];simp
@[simp] noncomputable def sK (e:TypeId):List AV→Option (Prop×AV)|[.pv (.ro a),.pv (.ro k)]=>(dec dj a).bind fun l=>(dec vM k).map fun ks=>(l.length≤100000∧ks.length≤1000000∧(∀v∈l,lg v),.fr e (aH (eL l ks)))|_=>none
theorem Ie:aJ Tryz.prog 176 (sK 108):=by
 intro ys φ r h hφ;unfold sK at h;split at h
 ·rename_i ra rk;obtain⟨a,ha,h⟩:=q63.1 h;obtain⟨ks,hk,h⟩:=q0.1 h;cases h;cases aI ha;cases fk hk;obtain⟨hl5,hk6,hov⟩:=hφ;have hl9:a.length≤1000000000:=by omega
  have hl6:a.length≤1000000:=by omega
  have hk9:ks.length≤1000000000:=by omega
  have fl:∀l,bp (aH l):=aE;refine ak (ag Ky (ag Ed (ag c_Cv (ag c_cnU (ag BO (ag QU (eQ (p:=0) (k:=998) OR (by kernel_rfl) ah))))))) (by kernel_rfl) (by conv=>lhs;reduce) (by simp) ?_;cases hr:bS a with
  |false=>
   have hp:eL a ks=[]:=by simp[eL,hr]
   simp(config := { maxSteps := 3000000 }) [hl9,hr,hp]|true=>
  have hp:eL a ks=(nu a ks).filter fun v=>ky (nu a ks) v.n:=by simp[eL,hr]
  rw[hp];have hrO:=(wX a ks).trans hr;have hovO:=DW hov ks;have hlO:=tJ a ks;have hO:nu a ks=a.map (j7 (gR a) ks):=rfl;have hcur:((ox a).getD v0).n=gR a:=rfl;generalize nu a ks=O at hrO hovO hlO hO;generalize hcc:(ox a).getD v0=cc at hcur;simp(config := { maxSteps := 3000000 }) [hl9,hl6,hr,hcc,bP];refine aj (fun i:Nat=>i≤a.length) (fun i=>⟨[(1,.pv (.ro (iN ks))),(5,.own 21),(6,.ptr 6 0),(27,.own 21),(28,.pv (.int .i64 a.length)),(29,.pv (.int .i64 i))],[(21,.arr 108 (aH (oH (j7 (gR a) ks) a i))),(6,.box (bP cc))]⟩) (fun i=>a.length-i) [] 0 (by simp) ?_ ?_;·simp[oH,bP]
  ·rintro i hi;have w2:IntKind.i64.wrap ((i:Int)+1)=(i:Int)+1:=wrap_i64 (by omega);have hml:=Av (j7 (gR a) ks) a i;by_cases hlt:i<a.length
   ·have r1:=bj (l:=oH (j7 (gR a) ks) a i) (i:=i) (by omega);rw[KN _ hlt]at r1;have hst:=IT (j7 (gR a) ks) hlt;have hrs:=fun e=>qg (oH (j7 (gR a) ks) a i) i e;have hfin:∀b,b=(j7 (gR a) ks a[i]).dm→(aH (oH (j7 (gR a) ks) a i)).set i [.int .u64 a[i].n,.int .u64 a[i].b,.int .u64 a[i].p,.int .u64 a[i].i,.int .u64 a[i].s,.int .u64 a[i].z,.int .u64 a[i].m,.str a[i].t,.bool a[i].inl,.bool b]=aH (oH (j7 (gR a) ks) a (i+1)):=by intro b hb;rw[←hst,←hrs];subst hb;rfl
    have hhid:(j7 (gR a) ks a[i]).dm=(a[i].dm||(!decide (a[i].n=gR a)&&!IL ks a[i].n)):=rfl;cases hh:a[i].dm with|true=>rw[hh]at r1 hhid;simp(config := { maxSteps := 3000000 }) [w2,hlt,hml,r1,bP];exact⟨i+1,by omega,⟨by omega,hfin _ (by rw[hhid];rfl)⟩,by omega⟩|false=>
     rw[hh]at r1 hhid;by_cases hn:a[i].n=gR a;·simp(config := { maxSteps := 3000000 }) [w2,hlt,hml,r1,bP,hcur,hn];refine⟨i+1,by omega,⟨by omega,?_⟩,by omega⟩;rw[←hfin false (by rw[hhid];simp[hn]),hn]
     ·simp(config := { maxSteps := 3000000 }) [w2,hlt,hml,r1,bP,hcur,hn];exact⟨hk9,i+1,by omega,⟨by omega,hfin _ (by rw[hhid];simp[hn])⟩,by omega⟩
   ·have hie:i=a.length:=by omega
    subst hie;have hmx:oH (j7 (gR a) ks) a a.length=O:=by rw[hO];unfold oH;simp
    rw[hmx];have hm1:(Value.map none).oneCell'=true:=rfl;have hm2:cv (Value.map none)=.pv (.val (.map none)):=rfl;have hlO6:O.length≤1000000:=by omega
    simp(config := { maxSteps := 3000000 }) [bP,hm1,hm2,hlO6,fl];have hs6:(bD O).length≤1000000:=q113 (q144 _ _) hlO6;have hO5:O.length≤100000:=by omega
    refine aj (fun x:Nat×List Int=>x.1≤(bD O).length∧∀n,n∈x.2↔∃v∈(bD O).take x.1,n∈tq O v) (fun x=>⟨[(5,.own 21),(10,.ptr 10 0),(57,.own 57),(58,.pv (.int .i64 (bD O).length)),(59,.pv (.int .i64 x.1))],[(57,.arr 108 (aH (bD O))),(10,.box [.own 55]),(55,.map (tG x.2)),(21,.arr 108 (aH O))]⟩) (fun x=>(bD O).length-x.1) [] (0,[]) ?_ ?_ ?_;·exact⟨by simp,by simp⟩
    ·simp[tG]
    ·rintro⟨j,ns⟩ ⟨hj,hns⟩;dsimp only at hj hns;have w4:IntKind.i64.wrap ((j:Int)+1)=(j:Int)+1:=wrap_i64 (by omega);by_cases hjl:j<(bD O).length
     ·have r2:=bj hjl;have hpl:=FA (o:=O) (bD O)[j].n;have hpN:tq O (bD O)[j]=(gP O (bD O)[j].n).1.map (fun v:Vn=>v.n):=rfl;have hnext:∀ns':List Int,(∀n:Int,n∈ns'↔n∈ns∨n∈tq O (bD O)[j])→∀n:Int,n∈ns'↔∃v∈(bD O).take (j+1),n∈tq O v:=by
       intro ns' hn' n;rw[hn',hns,q62 hjl];constructor
       ·rintro(⟨v,hv,hm⟩|hm);·exact⟨v,q80.2 (.inl hv),hm⟩
        ·exact⟨_,q80.2 (.inr (q75.2 rfl)),hm⟩
       ·rintro⟨v,hv,hm⟩;rw[q80,q75]at hv;rcases hv with hv|rfl;·exact .inl ⟨v,hv,hm⟩
        ·exact .inr hm
      simp(config := { maxSteps := 3000000 }) [w4,hjl,r2,fl,hO5,hovO];generalize hW:(gP O (bD O)[j].n).1=W at hpl hpN;refine⟨hovO,?_⟩;refine aj (fun x:Nat×List Int=>x.1≤W.length∧∀n,n∈x.2↔n∈ns∨n∈(W.take x.1).map (fun v:Vn=>v.n)) (fun x=>⟨[(5,.own 21),(10,.ptr 10 0),(57,.own 57),(58,.pv (.int .i64 (bD O).length)),(59,.pv (.int .i64 j)),(70,.own 67),(71,.pv (.int .i64 W.length)),(72,.pv (.int .i64 x.1))],[(67,.arr 108 (aH W)),(57,.arr 108 (aH (bD O))),(10,.box [.own 55]),(55,.map (tG x.2)),(21,.arr 108 (aH O))]⟩) (fun x=>W.length-x.1) [] (0,ns) ?_ ?_ ?_;·exact⟨by simp,by simp⟩
      ·simp
      ·rintro⟨k,ms⟩ ⟨hk',hms⟩;dsimp only at hk' hms;have w5:IntKind.i64.wrap ((k:Int)+1)=(k:Int)+1:=wrap_i64 (by omega);have hks9:=ER ms;by_cases hkl:k<W.length
       ·have r3:=bj hkl;have hput:=zD W[k].n ms;simp(config := { maxSteps := 3000000 }) [w5,hkl,r3,hks9,hput];refine⟨k+1,Cl W[k].n ms,⟨by omega,fun n=>?_⟩,⟨by omega,rfl⟩,by omega⟩;rw[Ir,hms,←q124,q62 hkl];simp only[q148,q71,q117,q80,q75];constructor
        ·rintro(h|h|h);·exact .inr (.inr h)
         ·exact .inl h
         ·exact .inr (.inl h)
        ·rintro(h|h|h);·exact .inr (.inl h)
         ·exact .inr (.inr h)
         ·exact .inl h
       ·have hke:k=W.length:=by omega
        subst hke;simp(config := { maxSteps := 3000000 }) [w4,hjl];exact⟨j+1,ms,⟨by omega,hnext ms fun n=>by rw[hms,q104,hpN]⟩,⟨by omega,rfl⟩,by omega⟩
     ·have hje:j=(bD O).length:=by omega
      subst hje;rw[q104]at hns;have hun:=EV ns;have hfs:=Hm ns;have hkk:=E0 ns;have hin:U1 (xb ns) O=O.filter fun v=>ky O v.n:=by unfold U1;congr 1;funext v;simp only[np,Ey,Bool.not_not];rw[q194,decide_eq_true_eq,hns,GM hrO]
      have hkm:∀t es,dY t (.map es)=.map es:=fun _ _=>rfl;simp(config := { maxSteps := 3000000 }) [hun,hfs,hin,hlO6,fl,hkm];exact hkk
 ·cases h
def pg (o:List Vn) (n:Int) (k:Nat):Bool:=!(CC o k).dm&&(db o o.length k).any fun w=>decide (w.n=n)
theorem Lq (l:List Vn) (n:Int):decide (0≤pZ l n)=l.any fun w=>decide (w.n=n):=by
 rcases mR l n with⟨i,h,h1,h2,_⟩|⟨h1,h2⟩
 ·rw[h1];have:(l.any fun w=>decide (w.n=n))=true:=by rw[q112];exact⟨l[i],q82 h,by simpa using h2⟩
  rw[this];simp
 ·rw[h1];have:(l.any fun w=>decide (w.n=n))=false:=by rw[q141];intro w hw;simpa using h2 w hw
  rw[this];simp
theorem Fu:aJ Tryz.prog 93 (sK 144):=by
 intro ys φ r h hφ;unfold sK at h;split at h
 ·rename_i ra rk;obtain⟨a,ha,h⟩:=q63.1 h;obtain⟨ks,hk,h⟩:=q0.1 h;cases h;cases aI ha;cases fk hk;obtain⟨hl5,hk6,hov⟩:=hφ;have hl9:a.length≤1000000000:=by omega
  have hl6:a.length≤1000000:=by omega
  have hk9:ks.length≤1000000000:=by omega
  have fl:∀l,bp (aH l):=aE;refine ak (ag NQ (ag aa8 (ag RY (ag (c_rp a.length) (ag CG ah))))) (by kernel_rfl) (by conv=>lhs;reduce) (by simp) ?_;cases hr:bS a with
  |false=>
   have hp:eL a ks=[]:=by simp[eL,hr]
   simp(config := { maxSteps := 3000000 }) [hl9,hr,hp];exact hov|true=>
  have hp:eL a ks=(nu a ks).filter fun v=>ky (nu a ks) v.n:=by simp[eL,hr]
  rw[hp];have hrO:=(wX a ks).trans hr;have hovO:=DW hov ks;have hlO:=tJ a ks;have hO:nu a ks=a.map (j7 (gR a) ks):=rfl;have hcur:((ox a).getD v0).n=gR a:=rfl;generalize nu a ks=O at hrO hovO hlO hO;generalize hcc:(ox a).getD v0=cc at hcur;simp(config := { maxSteps := 3000000 }) [hl9,hl6,hr,hcc,bP];refine⟨hov,?_⟩;refine aj (fun i:Nat=>i≤a.length) (fun i=>⟨[(0,.pv (.ro (aH a))),(1,.pv (.ro (iN ks))),(5,.ptr 5 0),(7,.own 7),(8,.own 8),(9,.pv (.int .i64 i))],[(7,.arr 144 (aH ((a.take i).map (j7 (gR a) ks)))),(8,.arr 144 []),(5,.box (bP cc))]⟩) (fun i=>a.length-i) [] 0 (by simp) ?_ ?_;·simp[bP]
  ·rintro i hi;have w2:IntKind.i64.wrap ((i:Int)+1)=(i:Int)+1:=wrap_i64 (by omega);have b1:(i+1)*80≤140737488355328:=by omega
   have b2:i≤9223372036854775806:=by omega
   have bm:min i a.length=i:=q120 hi;by_cases hlt:i<a.length
   ·have r1:=bj hlt;have hrow:∀b,b=(j7 (gR a) ks a[i]).dm→aH ((a.take i).map (j7 (gR a) ks))++[[PV.int .u64 a[i].n,.int .u64 a[i].b,.int .u64 a[i].p,.int .u64 a[i].i,.int .u64 a[i].s,.int .u64 a[i].z,.int .u64 a[i].m,.str a[i].t,.bool a[i].inl,.bool b]]=aH ((a.take (i+1)).map (j7 (gR a) ks)):=by intro b hb;subst hb;rw[q62 hlt,q148,cP];rfl
    have hhid:(j7 (gR a) ks a[i]).dm=(a[i].dm||(!decide (a[i].n=gR a)&&!IL ks a[i].n)):=rfl;cases hh:a[i].dm with|true=>rw[hh]at r1 hhid;simp(config := { maxSteps := 3000000 }) [w2,hlt,r1,bP,b1,b2,bm,ax];refine⟨i+1,by omega,⟨by omega,?_⟩,by omega⟩;rw[←q124,←q124];exact hrow _ (by rw[hhid];rfl)|false=>
     rw[hh]at r1 hhid;by_cases hn:a[i].n=gR a;·simp(config := { maxSteps := 3000000 }) [w2,hlt,r1,bP,hcur,hn,b1,b2,bm,ax];refine⟨i+1,by omega,⟨by omega,?_⟩,by omega⟩;rw[←q124,←q124,←hrow false (by rw[hhid];simp[hn]),hn]
     ·simp(config := { maxSteps := 3000000 }) [w2,hlt,r1,bP,hcur,hn,b1,b2,bm,ax];refine⟨hk9,i+1,by omega,⟨by omega,?_⟩,by omega⟩;rw[←q124,←q124];exact hrow _ (by rw[hhid];simp[hn])
   ·have hie:i=a.length:=by omega
    subst hie;have hmx:(a.take a.length).map (j7 (gR a) ks)=O:=by rw[hO,q104]
    rw[hmx];have hlO6:O.length≤1000000:=by omega
    have hlO9:O.length≤1000000000:=by omega
    have hO5:O.length≤100000:=by omega
    simp(config := { maxSteps := 3000000 }) [bP];refine aj (fun i:Nat=>i≤O.length) (fun i=>⟨[(7,.own 7),(8,.own 8),(11,.pv (.int .i64 i))],[(7,.arr 144 (aH O)),(8,.arr 144 (aH ((O.take i).filter fun v=>ky O v.n)))]⟩) (fun i=>O.length-i) [] 0 (by simp) ?_ ?_;·simp
    ·rintro i hi;have w4:IntKind.i64.wrap ((i:Int)+1)=(i:Int)+1:=wrap_i64 (by omega);by_cases hil:i<O.length
     ·have r2:=bj hil;simp(config := { maxSteps := 3000000 }) [hil];refine aj (fun k:Nat=>k≤O.length) (fun k=>⟨[(7,.own 7),(8,.own 8),(11,.pv (.int .i64 i)),(12,.pv (.bool ((List.range k).any (pg O O[i].n)))),(13,.pv (.int .i64 k))],[(7,.arr 144 (aH O)),(8,.arr 144 (aH ((O.take i).filter fun v=>ky O v.n)))]⟩) (fun k=>O.length-k) [] 0 (by simp) ?_ ?_;·simp
      ·rintro k hk';have w5:IntKind.i64.wrap ((k:Int)+1)=(k:Int)+1:=wrap_i64 (by omega);by_cases hkl:k<O.length
       ·have r3:=bj hkl;have hix:pZ O O[k].n=(k:Int):=m6 hrO hkl;have hpl:=mY (l:=O) O.length k;have hat:=eX hkl;have hn1:(List.range (k+1)).any (pg O O[i].n)=((List.range k).any (pg O O[i].n)||pg O O[i].n k):=by rw[List.range_succ,q225];simp
        cases hh:O[k].dm with|true=>
         rw[hh]at r3;have hq:pg O O[i].n k=false:=by unfold pg;rw[hat,hh];rfl
         simp(config := { maxSteps := 3000000 }) [w5,hkl,r3,hil,r2];exact⟨k+1,by omega,⟨by rw[hn1,hq,q263],by omega⟩,by omega⟩|false=>
         rw[hh]at r3;have hq:pg O O[i].n k=(db O O.length k).any fun w=>decide (w.n=O[i].n):=by unfold pg;rw[hat,hh];rfl
         rw[←Lq]at hq;have hp9:(db O O.length k).length≤1000000000:=by omega
         have htk:(db O O.length k).take (db O O.length k).length=db O O.length k:=q104;simp(config := { maxSteps := 3000000 }) [w5,hkl,r3,hil,r2,hix,hp9,htk,fl];refine⟨⟨hO5,hrO,hovO,k,by omega,hkl,by rw[hat,←hh]⟩,fun h0=>⟨k+1,by omega,⟨⟨k,by omega,by rw[hq];simpa using h0⟩,by omega⟩,by omega⟩,fun h0=>⟨k+1,by omega,⟨?_,by omega⟩,by omega⟩⟩;rw[hn1,hq,decide_eq_false (by omega),q263]
       ·have hke:k=O.length:=by omega
        subst hke;have hnb:(List.range O.length).any (pg O O[i].n)=ky O O[i].n:=rfl;rw[hnb];have b3:(((O.take i).filter fun v=>ky O v.n).length+1)*80≤140737488355328:=by have:=q144 (fun v=>ky O v.n) (O.take i);rw[q67]at this;omega
        cases hnd:ky O O[i].n with|true=>simp(config := { maxSteps := 3000000 }) [w4,hil,r2,ax,b3];refine⟨by omega,i+1,by omega,⟨by omega,?_⟩,by omega⟩;rw[q62 hil,q131,cP];congr 1;simp only[q220,hnd,List.filter_nil,if_true];rfl|false=>simp(config := { maxSteps := 3000000 }) [w4,hil];refine⟨i+1,by omega,⟨by omega,?_⟩,by omega⟩;rw[q62 hil,q131];simp[hnd]
     ·have hie:i=O.length:=by omega
      subst hie;simp(config := { maxSteps := 3000000 }) [q104,fl]
 ·cases h
def oF (a:Ap):Ap×Bool:=(⟨a.l,(rh a.ps a.r.v).1,a.vs,a.sl,a.r,a.n,a.s⟩,decide ((rh a.ps a.r.v).2=0))
def C8 (a:Ap):Ap×Bool:=(⟨a.l,(qn a.ps ⟨a.n,a.r.v,a.r.u⟩).1,a.vs,a.sl,a.r,a.n,a.s⟩,(iw a.vs a.r.v).isSome&&decide ((qn a.ps ⟨a.n,a.r.v,a.r.u⟩).2=0))
def lz (a:Ap):Vn:=⟨a.n,a.r.v,a.r.p,a.r.i,a.r.s,a.r.z,a.r.m,[],false,false⟩
def kV (a:Ap):Ap×Bool:=(⟨a.l,a.ps,(dD a.vs (lz a)).1,a.sl,a.r,a.n,a.s⟩,!a.sl&&fV a.l a.r.p a.r.i a.r.e&&decide ((dD a.vs (lz a)).2=0))
noncomputable def iZ (a:Ap):Ap×Bool:=(⟨a.l,dP a.ps a.r.c a.s,eL a.vs (nG ((dP a.ps a.r.c a.s).map Pn.v)),a.sl,a.r,a.n,a.s⟩,true)
theorem GI:dI Tryz.prog 147 (BB (fun a=>a.ps.length≤100000) oF):=by
 intro ys φ r h hφ;unfold BB at h;split at h;·obtain⟨a,ha,h⟩:=q0.1 h;cases h;cases ef ha;obtain⟨⟨e,p,i,u,h'⟩,ps,vs,sl,⟨k,rp,ri,rs,re,ru,rv,rc,rz,rm,rn,rt⟩,n,s⟩:=a;refine cf (ag QD ah) (by kernel_rfl) (by conv=>lhs;reduce) (by simp) rfl (by simp[ot]) ?_;have h1:ps.length≤100000:=hφ;simp(config := { maxSteps := 3000000 }) [ot,oF,h1,aF]
 ·cases h
theorem QE:dI Tryz.prog 146 (BB (fun a=>a.ps.length≤1000000∧a.vs.length≤1000000) C8):=by
 intro ys φ r h hφ;unfold BB at h;split at h;·obtain⟨a,ha,h⟩:=q0.1 h;cases h;cases ef ha;obtain⟨⟨e,p,i,u,h'⟩,ps,vs,sl,⟨k,rp,ri,rs,re,ru,rv,rc,rz,rm,rn,rt⟩,n,s⟩:=a;refine cf (ag O8 (ag P2 ah)) (by kernel_rfl) (by conv=>lhs;reduce) (by simp) rfl (by simp[ot]) ?_;obtain⟨h1,h2⟩:=hφ;have h1:ps.length≤1000000:=h1;have h2:vs.length≤1000000:=h2;simp(config := { maxSteps := 3000000 }) [ot,C8,h1,h2,aF,bP]
 ·cases h
theorem ES:dI Tryz.prog 145 (BB (fun a=>a.vs.length≤100000∧(∀v∈a.vs,lg v)∧lg (lz a)) kV):=by
 intro ys φ r h hφ;unfold BB at h;split at h
 ·obtain⟨a,ha,h⟩:=q0.1 h;cases h;cases ef ha;obtain⟨⟨e,p,i,u,h'⟩,ps,vs,sl,⟨k,rp,ri,rs,re,ru,rv,rc,rz,rm,rn,rt⟩,n,s⟩:=a;refine cf (ag Pe (ag QP ah)) (by kernel_rfl) (by conv=>lhs;reduce) (by simp) rfl (by simp[ot]) ?_;obtain⟨h1,h2,h3⟩:=hφ;have h1:vs.length≤100000:=h1;have h2:∀v∈vs,lg v:=h2;have h3:lg ⟨n,rv,rp,ri,rs,rz,rm,[],false,false⟩:=h3;cases sl<;>simp(config := { maxSteps := 3000000 }) [ot,kV,lz,h1,h3,aE];·exact⟨⟨h2,h3⟩,rfl⟩
  ·exact⟨h2,h3⟩
 ·cases h
theorem CB:dI Tryz.prog 149 (BB (fun a=>a.ps.length<50∧(∀e∈a.ps,ki e)∧cy a.r.c∧cy a.s∧a.vs.length≤100000∧∀v∈a.vs,lg v) iZ):=by
 intro ys φ r h hφ;unfold BB at h;split at h
 ·obtain⟨a,ha,h⟩:=q0.1 h;cases h;cases ef ha;obtain⟨⟨e,p,i,u,h'⟩,ps,vs,sl,⟨k,rp,ri,rs,re,ru,rv,rc,rz,rm,rn,rt⟩,n,s⟩:=a;refine cf (ag Om (ag c_pV (ag Ie ah))) (by kernel_rfl) (by conv=>lhs;reduce) (by simp) rfl (by simp[ot]) ?_;obtain⟨h1,h2,h3,h4,h5,h6⟩:=hφ;have h1:ps.length<50:=h1;have h3:cy rc:=h3;have h4:cy s:=h4;have h5:vs.length≤100000:=h5;have h7:ps.length≤1000000:=by omega
  have h8:(dP ps rc s).length<50:=by have:=q144 (fun e=>!fg rc s e) ps;unfold dP;omega
  have h9:(nG ((dP ps rc s).map Pn.v)).length≤1000000:=by have:=wF ((dP ps rc s).map Pn.v);rw[List.length_map]at this;omega
  have hU:∀l:List Int,cm l=iN l:=fun _=>rfl;have fU:∀l:List Int,bp (iN l):=uC;have h10:∀e∈ps,cy e.u:=fun e he=>(h2 e he).2.2;have h11:(∀e∈ps,cy e.u)=True:=eq_true h10;simp(config := { maxSteps := 3000000 }) [ot,iZ,h1,h3,h4,h5,h7,h8,h9,hU,fU,aF,aE];exact⟨h10,h6⟩
 ·cases h
noncomputable def CD (a:Ap):Option (Ap×Bool):=if a.r.k=1 then some (mC a) else if a.r.k=2 then some (nZ a) else if a.r.k=3 then some (iW a) else if a.r.k=4 then some (kV a) else if a.r.k=5 then some (C8 a) else if a.r.k=6 then some (oF a) else if a.r.k=7 then some (ui a) else if a.r.k=8 then some (iZ a) else none
def cd (a:Ap):List AV:=[.pv (.int .u64 a.l.e),.pv (.int .u64 a.l.p),.pv (.int .u64 a.l.i),.pv (.int .u64 a.l.u),.pv (.bool a.l.h),.fr 134 (au a.ps),.fr 108 (aH a.vs),.pv (.bool a.sl)]
noncomputable def bh (a:Ap):Ap×Int:=match CD a with|none=>(a,220)|some x=>if bn a.r=true∧x.2=true then(x.1,0) else(a,220)
def XP (a:Ap):Prop:=cy a.l.e∧a.ps.length<50∧a.vs.length≤100000∧(∀e∈a.ps,ki e)∧(∀v∈a.vs,lg v)∧cy a.r.c∧cy a.s∧lg (lz a)
noncomputable def RZ:List AV→Option (Prop×AV)|[.agg [.pv (.int .u64 e),.pv (.int .u64 p),.pv (.int .u64 i),.pv (.int .u64 u),.pv (.bool h),.pv (.ro a),.pv (.ro b),.pv (.bool sl)],.agg [.pv (.int .u8 k),.pv (.int .u64 rp),.pv (.int .u64 ri),.pv (.int .u64 rs),.pv (.int .u64 re),.pv (.int .u64 ru),.pv (.int .u64 rv),.pv (.int .u64 rc),.pv (.int .u64 rz),.pv (.int .u64 rm),.pv (.str rn),.pv (.str rt)],.pv (.int .u64 n),.pv (.int .u64 s)]=>(dec rowP a).bind fun ps=>(dec dj b).map fun vs=>(XP ⟨⟨e,p,i,u,h⟩,ps,vs,sl,⟨k,rp,ri,rs,re,ru,rv,rc,rz,rm,rn,rt⟩,n,s⟩,.aO [.agg (cd (bh ⟨⟨e,p,i,u,h⟩,ps,vs,sl,⟨k,rp,ri,rs,re,ru,rv,rc,rz,rm,rn,rt⟩,n,s⟩).1),.pv (.int .i64 (bh ⟨⟨e,p,i,u,h⟩,ps,vs,sl,⟨k,rp,ri,rs,re,ru,rv,rc,rz,rm,rn,rt⟩,n,s⟩).2)])|_=>none
theorem XJ:aJ Tryz.prog 64 RZ:=by
 intro ys φ r h hφ;unfold RZ at h;split at h
 ·rename_i e p i u h' ra rb sl k rp ri rs re ru rv rc rz rm rn rt n s;obtain⟨ps,hp,h⟩:=q63.1 h;obtain⟨vs,hv,h⟩:=q0.1 h;cases h;cases az hp;cases aI hv;obtain⟨h1,h2,h3,h4,h5,h6,h7,h8⟩:=hφ;have h2:ps.length<50:=h2;have h3:vs.length≤100000:=h3;have h9:ps.length≤100000:=by omega
  refine ak (ag aaO (ag PT (ag Dn (bg (ks:=[2]) Hv (by kernel_rfl) (bg (ks:=[2]) HQ (by kernel_rfl) (bg (ks:=[2]) BE (by kernel_rfl) (bg (ks:=[2]) ES (by kernel_rfl) (bg (ks:=[2]) QE (by kernel_rfl) (bg (ks:=[2]) GI (by kernel_rfl) (bg (ks:=[2]) K0 (by kernel_rfl) (bg (ks:=[2]) CB (by kernel_rfl) ah))))))))))) (by kernel_rfl) (by conv=>lhs;reduce) (by simp) ?_;apply af;·simp(config := { maxSteps := 3000000 });exact⟨rfl,rfl⟩
  apply af;·simp(config := { maxSteps := 3000000 }) [h9,h3];exact⟨rfl,rfl⟩
  have hE:cy e:=h1;have hP:(∀e∈ps,ki e)=True:=eq_true h4;have hV:(∀v∈vs,lg v)=True:=eq_true h5;have hC:cy rc:=h6;have hS:cy s:=h7;have hP6:ps.length≤1000000:=by omega
  have hV6:vs.length≤1000000:=by omega
  clear hp hv;have hk:k=1∨k=2∨k=3∨k=4∨k=5∨k=6∨k=7∨k=8∨((k≠1∧k≠2∧k≠3∧k≠4)∧k≠5∧k≠6∧k≠7∧k≠8):=by omega
  rcases hk with rfl|rfl|rfl|rfl|rfl|rfl|rfl|rfl|⟨⟨k1,k2,k3,k4⟩,k5,k6,k7,k8⟩
  ·have hA:bh ⟨⟨e,p,i,u,h'⟩,ps,vs,sl,⟨1,rp,ri,rs,re,ru,rv,rc,rz,rm,rn,rt⟩,n,s⟩=if bn ⟨1,rp,ri,rs,re,ru,rv,rc,rz,rm,rn,rt⟩=true∧(mC ⟨⟨e,p,i,u,h'⟩,ps,vs,sl,⟨1,rp,ri,rs,re,ru,rv,rc,rz,rm,rn,rt⟩,n,s⟩).2=true then((mC ⟨⟨e,p,i,u,h'⟩,ps,vs,sl,⟨1,rp,ri,rs,re,ru,rv,rc,rz,rm,rn,rt⟩,n,s⟩).1,0) else(⟨⟨e,p,i,u,h'⟩,ps,vs,sl,⟨1,rp,ri,rs,re,ru,rv,rc,rz,rm,rn,rt⟩,n,s⟩,220):=rfl;rw[hA];apply af;·simp(config := { maxSteps := 3000000 }) [lA,zi];exact⟨rfl,rfl,rfl⟩
   generalize hx:mC ⟨⟨e,p,i,u,h'⟩,ps,vs,sl,⟨1,rp,ri,rs,re,ru,rv,rc,rz,rm,rn,rt⟩,n,s⟩=x;obtain⟨⟨⟨e',p',i',u',h''⟩,ps',vs',sl',⟨k',rp',ri',rs',re',ru',rv',rc',rz',rm',rn',rt'⟩,n',s'⟩,b⟩:=x;rw[aL];cases hR:bn ⟨1,rp,ri,rs,re,ru,rv,rc,rz,rm,rn,rt⟩ with
   |false=>
    apply af;·simp(config := { maxSteps := 3000000 }) [hR];exact⟨rfl,rfl⟩
    simp(config := { maxSteps := 3000000 }) [hR,h9,h3,cd]|true=>
    apply af;·simp(config := { maxSteps := 3000000 }) [hR,hx,ot,hE];exact⟨by kernel_rfl,rfl,rfl⟩
    cases b with|false=>simp(config := { maxSteps := 3000000 }) [hR,h9,h3,cd]|true=>simp(config := { maxSteps := 3000000 }) [hR,cd]
  ·have hA:bh ⟨⟨e,p,i,u,h'⟩,ps,vs,sl,⟨2,rp,ri,rs,re,ru,rv,rc,rz,rm,rn,rt⟩,n,s⟩=if bn ⟨2,rp,ri,rs,re,ru,rv,rc,rz,rm,rn,rt⟩=true∧(nZ ⟨⟨e,p,i,u,h'⟩,ps,vs,sl,⟨2,rp,ri,rs,re,ru,rv,rc,rz,rm,rn,rt⟩,n,s⟩).2=true then((nZ ⟨⟨e,p,i,u,h'⟩,ps,vs,sl,⟨2,rp,ri,rs,re,ru,rv,rc,rz,rm,rn,rt⟩,n,s⟩).1,0) else(⟨⟨e,p,i,u,h'⟩,ps,vs,sl,⟨2,rp,ri,rs,re,ru,rv,rc,rz,rm,rn,rt⟩,n,s⟩,220):=rfl;rw[hA];apply af;·simp(config := { maxSteps := 3000000 }) [lA,zi];exact⟨rfl,rfl,rfl⟩
   generalize hx:nZ ⟨⟨e,p,i,u,h'⟩,ps,vs,sl,⟨2,rp,ri,rs,re,ru,rv,rc,rz,rm,rn,rt⟩,n,s⟩=x;obtain⟨⟨⟨e',p',i',u',h''⟩,ps',vs',sl',⟨k',rp',ri',rs',re',ru',rv',rc',rz',rm',rn',rt'⟩,n',s'⟩,b⟩:=x;rw[aL];cases hR:bn ⟨2,rp,ri,rs,re,ru,rv,rc,rz,rm,rn,rt⟩ with
   |false=>
    apply af;·simp(config := { maxSteps := 3000000 }) [hR];exact⟨rfl,rfl⟩
    simp(config := { maxSteps := 3000000 }) [hR,h9,h3,cd]|true=>
    apply af;·simp(config := { maxSteps := 3000000 }) [hR,hx,ot];exact⟨by kernel_rfl,rfl,rfl⟩
    cases b with|false=>simp(config := { maxSteps := 3000000 }) [hR,h9,h3,cd]|true=>simp(config := { maxSteps := 3000000 }) [hR,cd]
  ·have hA:bh ⟨⟨e,p,i,u,h'⟩,ps,vs,sl,⟨3,rp,ri,rs,re,ru,rv,rc,rz,rm,rn,rt⟩,n,s⟩=if bn ⟨3,rp,ri,rs,re,ru,rv,rc,rz,rm,rn,rt⟩=true∧(iW ⟨⟨e,p,i,u,h'⟩,ps,vs,sl,⟨3,rp,ri,rs,re,ru,rv,rc,rz,rm,rn,rt⟩,n,s⟩).2=true then((iW ⟨⟨e,p,i,u,h'⟩,ps,vs,sl,⟨3,rp,ri,rs,re,ru,rv,rc,rz,rm,rn,rt⟩,n,s⟩).1,0) else(⟨⟨e,p,i,u,h'⟩,ps,vs,sl,⟨3,rp,ri,rs,re,ru,rv,rc,rz,rm,rn,rt⟩,n,s⟩,220):=rfl;rw[hA];apply af;·simp(config := { maxSteps := 3000000 }) [lA,zi];exact⟨rfl,rfl,rfl⟩
   generalize hx:iW ⟨⟨e,p,i,u,h'⟩,ps,vs,sl,⟨3,rp,ri,rs,re,ru,rv,rc,rz,rm,rn,rt⟩,n,s⟩=x;obtain⟨⟨⟨e',p',i',u',h''⟩,ps',vs',sl',⟨k',rp',ri',rs',re',ru',rv',rc',rz',rm',rn',rt'⟩,n',s'⟩,b⟩:=x;rw[aL];cases hR:bn ⟨3,rp,ri,rs,re,ru,rv,rc,rz,rm,rn,rt⟩ with
   |false=>
    apply af;·simp(config := { maxSteps := 3000000 }) [hR];exact⟨rfl,rfl⟩
    simp(config := { maxSteps := 3000000 }) [hR,h9,h3,cd]|true=>
    apply af;·simp(config := { maxSteps := 3000000 }) [hR,hx,ot];exact⟨by kernel_rfl,rfl,rfl⟩
    cases b with|false=>simp(config := { maxSteps := 3000000 }) [hR,h9,h3,cd]|true=>simp(config := { maxSteps := 3000000 }) [hR,cd]
  ·have hA:bh ⟨⟨e,p,i,u,h'⟩,ps,vs,sl,⟨4,rp,ri,rs,re,ru,rv,rc,rz,rm,rn,rt⟩,n,s⟩=if bn ⟨4,rp,ri,rs,re,ru,rv,rc,rz,rm,rn,rt⟩=true∧(kV ⟨⟨e,p,i,u,h'⟩,ps,vs,sl,⟨4,rp,ri,rs,re,ru,rv,rc,rz,rm,rn,rt⟩,n,s⟩).2=true then((kV ⟨⟨e,p,i,u,h'⟩,ps,vs,sl,⟨4,rp,ri,rs,re,ru,rv,rc,rz,rm,rn,rt⟩,n,s⟩).1,0) else(⟨⟨e,p,i,u,h'⟩,ps,vs,sl,⟨4,rp,ri,rs,re,ru,rv,rc,rz,rm,rn,rt⟩,n,s⟩,220):=rfl;rw[hA];have hN:lg (lz ⟨⟨e,p,i,u,h'⟩,ps,vs,sl,⟨4,rp,ri,rs,re,ru,rv,rc,rz,rm,rn,rt⟩,n,s⟩):=h8;apply af;·simp(config := { maxSteps := 3000000 }) [lA,zi];exact⟨rfl,rfl,rfl⟩
   generalize hx:kV ⟨⟨e,p,i,u,h'⟩,ps,vs,sl,⟨4,rp,ri,rs,re,ru,rv,rc,rz,rm,rn,rt⟩,n,s⟩=x;obtain⟨⟨⟨e',p',i',u',h''⟩,ps',vs',sl',⟨k',rp',ri',rs',re',ru',rv',rc',rz',rm',rn',rt'⟩,n',s'⟩,b⟩:=x;rw[aL];cases hR:bn ⟨4,rp,ri,rs,re,ru,rv,rc,rz,rm,rn,rt⟩ with
   |false=>
    apply af;·simp(config := { maxSteps := 3000000 }) [hR];exact⟨rfl,rfl⟩
    simp(config := { maxSteps := 3000000 }) [hR,h9,h3,cd]|true=>
    apply af;·simp(config := { maxSteps := 3000000 }) [hR,hx,ot,h3,hV,hN];exact⟨by kernel_rfl,rfl,rfl⟩
    cases b with|false=>simp(config := { maxSteps := 3000000 }) [hR,h9,h3,cd]|true=>simp(config := { maxSteps := 3000000 }) [hR,cd]
  ·have hA:bh ⟨⟨e,p,i,u,h'⟩,ps,vs,sl,⟨5,rp,ri,rs,re,ru,rv,rc,rz,rm,rn,rt⟩,n,s⟩=if bn ⟨5,rp,ri,rs,re,ru,rv,rc,rz,rm,rn,rt⟩=true∧(C8 ⟨⟨e,p,i,u,h'⟩,ps,vs,sl,⟨5,rp,ri,rs,re,ru,rv,rc,rz,rm,rn,rt⟩,n,s⟩).2=true then((C8 ⟨⟨e,p,i,u,h'⟩,ps,vs,sl,⟨5,rp,ri,rs,re,ru,rv,rc,rz,rm,rn,rt⟩,n,s⟩).1,0) else(⟨⟨e,p,i,u,h'⟩,ps,vs,sl,⟨5,rp,ri,rs,re,ru,rv,rc,rz,rm,rn,rt⟩,n,s⟩,220):=rfl;rw[hA];apply af;·simp(config := { maxSteps := 3000000 }) [lA,zi];exact⟨rfl,rfl,rfl⟩
   generalize hx:C8 ⟨⟨e,p,i,u,h'⟩,ps,vs,sl,⟨5,rp,ri,rs,re,ru,rv,rc,rz,rm,rn,rt⟩,n,s⟩=x;obtain⟨⟨⟨e',p',i',u',h''⟩,ps',vs',sl',⟨k',rp',ri',rs',re',ru',rv',rc',rz',rm',rn',rt'⟩,n',s'⟩,b⟩:=x;rw[aL];cases hR:bn ⟨5,rp,ri,rs,re,ru,rv,rc,rz,rm,rn,rt⟩ with
   |false=>
    apply af;·simp(config := { maxSteps := 3000000 }) [hR];exact⟨rfl,rfl⟩
    simp(config := { maxSteps := 3000000 }) [hR,h9,h3,cd]|true=>
    apply af;·simp(config := { maxSteps := 3000000 }) [hR,hx,ot,hP6,hV6];exact⟨by kernel_rfl,rfl,rfl⟩
    cases b with|false=>simp(config := { maxSteps := 3000000 }) [hR,h9,h3,cd]|true=>simp(config := { maxSteps := 3000000 }) [hR,cd]
  ·have hA:bh ⟨⟨e,p,i,u,h'⟩,ps,vs,sl,⟨6,rp,ri,rs,re,ru,rv,rc,rz,rm,rn,rt⟩,n,s⟩=if bn ⟨6,rp,ri,rs,re,ru,rv,rc,rz,rm,rn,rt⟩=true∧(oF ⟨⟨e,p,i,u,h'⟩,ps,vs,sl,⟨6,rp,ri,rs,re,ru,rv,rc,rz,rm,rn,rt⟩,n,s⟩).2=true then((oF ⟨⟨e,p,i,u,h'⟩,ps,vs,sl,⟨6,rp,ri,rs,re,ru,rv,rc,rz,rm,rn,rt⟩,n,s⟩).1,0) else(⟨⟨e,p,i,u,h'⟩,ps,vs,sl,⟨6,rp,ri,rs,re,ru,rv,rc,rz,rm,rn,rt⟩,n,s⟩,220):=rfl;rw[hA];apply af;·simp(config := { maxSteps := 3000000 }) [lA,zi];exact⟨rfl,rfl,rfl⟩
   generalize hx:oF ⟨⟨e,p,i,u,h'⟩,ps,vs,sl,⟨6,rp,ri,rs,re,ru,rv,rc,rz,rm,rn,rt⟩,n,s⟩=x;obtain⟨⟨⟨e',p',i',u',h''⟩,ps',vs',sl',⟨k',rp',ri',rs',re',ru',rv',rc',rz',rm',rn',rt'⟩,n',s'⟩,b⟩:=x;rw[aL];cases hR:bn ⟨6,rp,ri,rs,re,ru,rv,rc,rz,rm,rn,rt⟩ with
   |false=>
    apply af;·simp(config := { maxSteps := 3000000 }) [hR];exact⟨rfl,rfl⟩
    simp(config := { maxSteps := 3000000 }) [hR,h9,h3,cd]|true=>
    apply af;·simp(config := { maxSteps := 3000000 }) [hR,hx,ot,h9];exact⟨by kernel_rfl,rfl,rfl⟩
    cases b with|false=>simp(config := { maxSteps := 3000000 }) [hR,h9,h3,cd]|true=>simp(config := { maxSteps := 3000000 }) [hR,cd]
  ·have hA:bh ⟨⟨e,p,i,u,h'⟩,ps,vs,sl,⟨7,rp,ri,rs,re,ru,rv,rc,rz,rm,rn,rt⟩,n,s⟩=if bn ⟨7,rp,ri,rs,re,ru,rv,rc,rz,rm,rn,rt⟩=true∧(ui ⟨⟨e,p,i,u,h'⟩,ps,vs,sl,⟨7,rp,ri,rs,re,ru,rv,rc,rz,rm,rn,rt⟩,n,s⟩).2=true then((ui ⟨⟨e,p,i,u,h'⟩,ps,vs,sl,⟨7,rp,ri,rs,re,ru,rv,rc,rz,rm,rn,rt⟩,n,s⟩).1,0) else(⟨⟨e,p,i,u,h'⟩,ps,vs,sl,⟨7,rp,ri,rs,re,ru,rv,rc,rz,rm,rn,rt⟩,n,s⟩,220):=rfl;rw[hA];apply af;·simp(config := { maxSteps := 3000000 }) [lA,zi];exact⟨rfl,rfl,rfl⟩
   generalize hx:ui ⟨⟨e,p,i,u,h'⟩,ps,vs,sl,⟨7,rp,ri,rs,re,ru,rv,rc,rz,rm,rn,rt⟩,n,s⟩=x;obtain⟨⟨⟨e',p',i',u',h''⟩,ps',vs',sl',⟨k',rp',ri',rs',re',ru',rv',rc',rz',rm',rn',rt'⟩,n',s'⟩,b⟩:=x;rw[aL];cases hR:bn ⟨7,rp,ri,rs,re,ru,rv,rc,rz,rm,rn,rt⟩ with
   |false=>
    apply af;·simp(config := { maxSteps := 3000000 }) [hR];exact⟨rfl,rfl⟩
    simp(config := { maxSteps := 3000000 }) [hR,h9,h3,cd]|true=>
    apply af;·simp(config := { maxSteps := 3000000 }) [hR,hx,ot];exact⟨by kernel_rfl,rfl,rfl⟩
    cases b with|false=>simp(config := { maxSteps := 3000000 }) [hR,h9,h3,cd]|true=>simp(config := { maxSteps := 3000000 }) [hR,cd]
  ·have hA:bh ⟨⟨e,p,i,u,h'⟩,ps,vs,sl,⟨8,rp,ri,rs,re,ru,rv,rc,rz,rm,rn,rt⟩,n,s⟩=if bn ⟨8,rp,ri,rs,re,ru,rv,rc,rz,rm,rn,rt⟩=true∧(iZ ⟨⟨e,p,i,u,h'⟩,ps,vs,sl,⟨8,rp,ri,rs,re,ru,rv,rc,rz,rm,rn,rt⟩,n,s⟩).2=true then((iZ ⟨⟨e,p,i,u,h'⟩,ps,vs,sl,⟨8,rp,ri,rs,re,ru,rv,rc,rz,rm,rn,rt⟩,n,s⟩).1,0) else(⟨⟨e,p,i,u,h'⟩,ps,vs,sl,⟨8,rp,ri,rs,re,ru,rv,rc,rz,rm,rn,rt⟩,n,s⟩,220):=rfl;rw[hA];apply af;·simp(config := { maxSteps := 3000000 }) [lA,zi];exact⟨rfl,rfl,rfl⟩
   generalize hx:iZ ⟨⟨e,p,i,u,h'⟩,ps,vs,sl,⟨8,rp,ri,rs,re,ru,rv,rc,rz,rm,rn,rt⟩,n,s⟩=x;obtain⟨⟨⟨e',p',i',u',h''⟩,ps',vs',sl',⟨k',rp',ri',rs',re',ru',rv',rc',rz',rm',rn',rt'⟩,n',s'⟩,b⟩:=x;rw[aL];cases hR:bn ⟨8,rp,ri,rs,re,ru,rv,rc,rz,rm,rn,rt⟩ with
   |false=>
    apply af;·simp(config := { maxSteps := 3000000 }) [hR];exact⟨rfl,rfl⟩
    simp(config := { maxSteps := 3000000 }) [hR,h9,h3,cd]|true=>
    apply af;·simp(config := { maxSteps := 3000000 }) [hR,hx,ot,h2,hP,hC,hS,h3,hV];exact⟨by kernel_rfl,rfl,rfl⟩
    cases b with|false=>simp(config := { maxSteps := 3000000 }) [hR,h9,h3,cd]|true=>simp(config := { maxSteps := 3000000 }) [hR,cd]
  ·have hA:bh ⟨⟨e,p,i,u,h'⟩,ps,vs,sl,⟨k,rp,ri,rs,re,ru,rv,rc,rz,rm,rn,rt⟩,n,s⟩=(⟨⟨e,p,i,u,h'⟩,ps,vs,sl,⟨k,rp,ri,rs,re,ru,rv,rc,rz,rm,rn,rt⟩,n,s⟩,220):=by simp only[bh,CD,k1,k2,k3,k4,k5,k6,k7,k8,if_false]
   rw[hA];apply af;·simp(config := { maxSteps := 3000000 }) [lA,zi,k1,k2,k3,k4,k5,k6,k7,k8];exact⟨rfl,rfl,rfl⟩
   have hnf:su Value.nilFunc=PV.val Value.nilFunc:=rfl;simp(config := { maxSteps := 3000000 }) [h9,h3,cd,hnf]
 ·cases h
end Go.Proofs.YtlicclncicbajaaGreat.Ab
