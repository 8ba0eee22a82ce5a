/- slices.Sort at uint64: partitionOrdered. -/
import Derived.Test.YthblkhafehanfaaY11
import Derived.Sort.WalkC4
import Derived.Sort.WalkA6
import Derived.Sort.LotD3
import Derived.Sort.LotB
import Derived.Sort.LotA
import Derived.Test.YthblkhafehanfaaChecked
import Derived.ProofKit
import Derived.Below
import Derived.ChangeSame
import Derived.Carry
import Derived.Deep.Slices
import Derived.Deep.Fields
import Derived.Test.YthblkhafehanfaaRows
set_option linter.unusedVariables false
set_option linter.unusedSimpArgs false
set_option linter.unnecessarySimpa false
set_option maxHeartbeats 40000000
set_option maxRecDepth 100000
namespace Go.Proofs.Ythblkhafehanfaa.Ab
open Go Go.RowKit Go.Sort R
noncomputable def Gprt:List AV→Option (Prop × AV)
 | [.tup [.fr e a],.pv (.int .i64 p),.pv (.int .i64 q),.pv (.int .i64 v)]=>if e = 81 then (dec rowN a).map fun l=>((0≤p∧p≤v)∧v < q∧q≤(l.length:Int)∧l.length≤1000000,.clo 0 [.tup [.pv (.int .i64 ((partition ltInt l.toArray p.toNat q.toNat v.toNat).1:Int)),.pv (.bool (partition ltInt l.toArray p.toNat q.toNat v.toNat).2.1)],.fr 81 (rA (partition ltInt l.toArray p.toNat q.toNat v.toNat).2.2)]) else none
 | _=>none
@[simp] theorem Gprt_eq (e:TypeId) (d:Array Int) (p q v:Int):Gprt [.tup [.fr e (rA d)],.pv (.int .i64 p),.pv (.int .i64 q),.pv (.int .i64 v)] = if e = 81 then some ((0≤p∧p≤v)∧v < q∧q≤(d.size:Int)∧d.size≤1000000,.clo 0 [.tup [.pv (.int .i64 ((partition ltInt d p.toNat q.toNat v.toNat).1:Int)),.pv (.bool (partition ltInt d p.toNat q.toNat v.toNat).2.1)],.fr 81 (rA (partition ltInt d p.toNat q.toNat v.toNat).2.2)]) else none:=by
 show (if e = 81 then (dec rowN (rA d)).map _ else none) = _
 rw [dec_rA]
 simp
theorem c_prt:ConTG Try.prog 179 Gprt:=by
 intro ys φ r h hφ
 unfold Gprt at h
 split at h
 ·rename_i e ra p q v
  split at h
  ·rename_i he
   subst he
   obtain ⟨l,hl,h⟩:=Option.map_eq_some_iff.1 h
   cases h
   obtain ⟨d,rfl,rfl⟩:=rA_all hl
   obtain ⟨⟨h1,h2⟩,h3,h4,h5⟩:=hφ
   rw [Array.length_toList] at h4 h5
   obtain ⟨a,rfl⟩:∃ a:Nat,p = a:=⟨p.toNat,by omega⟩
   obtain ⟨b,rfl⟩:∃ a:Nat,q = a:=⟨q.toNat,by omega⟩
   obtain ⟨c,rfl⟩:∃ a:Nat,v = a:=⟨v.toNat,by omega⟩
   rw [Int.toNat_natCast,Int.toNat_natCast,Int.toNat_natCast,Array.toArray_toList]
   refine con_ofG (tab_cons c_less tab_nil) (by kernel_rfl) fn179 (by simp) rfl (by simp) ?_
   unfold body179
   generalize hW:partition ltInt d a b c = W
   have q1:a < d.size:=by omega
   have q2:c < d.size:=by omega
   have r1:=rA_at q1
   have r2:=rA_at q2
   have r3:=rA_at (d:=d.setIfInBounds a (gA d c)) (i:=c) (by rw [Array.size_setIfInBounds];omega)
   obtain ⟨i,hi⟩:∃ i,i = a + 1:=⟨_,rfl⟩
   obtain ⟨j,hj⟩:∃ j,j = b - 1:=⟨_,rfl⟩
   have w1:IntKind.i64.wrap ((a:Int) + 1) = (i:Int):=by rw [wrap_i64 (by omega)];omega
   have w2:IntKind.i64.wrap ((b:Int) - 1) = (j:Int):=by rw [wrap_i64 (by omega)];omega
   apply vwp_cut
   ·simp (config := { maxSteps := 3000000 })
    exact ⟨rfl,rfl⟩
   apply vwp_cut
   ·simp (config := { maxSteps := 3000000 }) [q1,q2,r1,r2,r3]
    exact ⟨rfl,rfl⟩
   rw [show (d.setIfInBounds a (gA d c)).setIfInBounds c (gA d a) = swp d a c from rfl]
   obtain ⟨D,hDD⟩:∃ D,D = swp d a c:=⟨_,rfl⟩
   have g4:D.size = d.size:=by rw [hDD,size_swp]
   rw [← hDD]
   clear r1 r2 r3
   apply vwp_cut
   ·simp (config := { maxSteps := 3000000 }) [w1,w2]
    exact ⟨rfl,rfl⟩
   have g1:a < i:=by omega
   have g2:i≤j + 1:=by omega
   have g3:j < b:=by omega
   have qa:a < D.size:=by omega
   have ra:=rA_at qa
   obtain ⟨pU,hpU⟩:∃ pU:Int→Bool,pU = fun x=>ltInt x D[a]!:=⟨_,rfl⟩
   obtain ⟨pD,hpD⟩:∃ pD:Int→Bool,pD = fun x=>!ltInt x D[a]!:=⟨_,rfl⟩
   obtain ⟨i2,hi2⟩:∃ i2,i2 = scanUp pU D j i:=⟨_,rfl⟩
   obtain ⟨j2,hj2⟩:∃ j2,j2 = scanDown pD D i2 j:=⟨_,rfl⟩
   have u1:=scanUp_spec pU D j _ i rfl
   rw [← hi2] at u1
   have u2:=scanDown_spec pD D i2 j
   rw [← hj2] at u2
   have u3:i≤i2∧i2≤j + 1:=⟨u1.1,u1.2.1 g2⟩
   have u4:j2≤j∧i2≤j2 + 1:=⟨u2.1,u2.2.1 u3.2⟩
   apply vwp_cut
   ·rw [vwp_block]
    refine vwp_loop (fun s:Nat=>i≤s∧s≤j + 1∧scanUp pU D j s = i2) (fun s=>⟨[(0,.own 999),(1,.pv (.int .i64 (a:Int))),(10,.pv (.int .i64 (s:Int))),(11,.pv (.int .i64 (j:Int)))],[(999,.arr 81 (rA D))]⟩) (fun s=>j + 1 - s) [] i (by refine ⟨?_,?_,?_⟩<;>first | omega | exact hi2.symm) ?_ ?_
    ·simp
    ·rintro s ⟨l1,l2,l3⟩
     by_cases hc:s≤j
     ·have ws:IntKind.i64.wrap ((s:Int) + 1) = ((s + 1:Nat):Int):=by rw [wrap_i64 (by omega)];omega
      have c1:(s:Int)≤(j:Int):=by omega
      have q1:s < D.size:=by omega
      have r1:=rA_at q1
      cases hb:ltInt (gA D s) (gA D a) with
      | true=>
       have e:=scanUp_go pU D j s hc (by rw [hpU];exact hb)
       rw [e] at l3
       obtain ⟨s',hs'⟩:∃ s',s' = s + 1:=⟨_,rfl⟩
       rw [← hs'] at ws l3
       simp (config := { maxSteps := 3000000 }) [c1,q1,qa,r1,ra,hb,ws]
       exact ⟨s',⟨by omega,by omega,l3⟩,rfl,by omega⟩
      | false=>
       have e:=scanUp_end pU D j s (.inr (by rw [hpU];exact hb))
       rw [e] at l3
       subst l3
       simp (config := { maxSteps := 3000000 }) [c1,q1,qa,r1,ra,hb]
       try exact ⟨rfl,rfl⟩
     ·have c1:¬ (s:Int)≤(j:Int):=by omega
      have e:=scanUp_end pU D j s (.inl hc)
      rw [e] at l3
      subst l3
      rcases Nat.lt_or_ge s D.size with q1 | q1
      ·have r1:=rA_at q1
       simp (config := { maxSteps := 3000000 }) [c1,q1,qa,r1,ra]
       try exact ⟨rfl,rfl⟩
      ·have r1:=rA_out q1
       simp (config := { maxSteps := 3000000 }) [c1,qa,r1,ra]
       try exact ⟨rfl,rfl⟩
   apply vwp_cut
   ·rw [vwp_block]
    refine vwp_loop (fun s:Nat=>i2≤s + 1∧s≤j∧scanDown pD D i2 s = j2) (fun s=>⟨[(0,.own 999),(1,.pv (.int .i64 (a:Int))),(10,.pv (.int .i64 (i2:Int))),(11,.pv (.int .i64 (s:Int)))],[(999,.arr 81 (rA D))]⟩) (fun s=>s) [] j (by refine ⟨?_,?_,?_⟩<;>first | omega | exact hj2.symm) ?_ ?_
    ·simp
    ·rintro s ⟨l1,l2,l3⟩
     by_cases hc:i2≤s
     ·have ws:IntKind.i64.wrap ((s:Int) - 1) = ((s - 1:Nat):Int):=by rw [wrap_i64 (by omega)];omega
      have c1:(i2:Int)≤(s:Int):=by omega
      have q1:s < D.size:=by omega
      have r1:=rA_at q1
      cases hb:(!ltInt (gA D s) (gA D a)) with
      | true=>
       have e:=scanDown_go pD D i2 s hc (by omega) (by rw [hpD];exact hb)
       rw [e] at l3
       obtain ⟨s',hs'⟩:∃ s',s' = s - 1:=⟨_,rfl⟩
       rw [← hs'] at ws l3
       simp (config := { maxSteps := 3000000 }) [c1,q1,qa,r1,ra,hb,ws]
       exact ⟨s',⟨by omega,by omega,l3⟩,rfl,by omega⟩
      | false=>
       have e:=scanDown_end pD D i2 s (.inr (by rw [hpD];exact hb))
       rw [e] at l3
       subst l3
       simp (config := { maxSteps := 3000000 }) [c1,q1,qa,r1,ra,hb]
       try exact ⟨rfl,rfl⟩
     ·have c1:¬ (i2:Int)≤(s:Int):=by omega
      have e:=scanDown_end pD D i2 s (.inl hc)
      rw [e] at l3
      subst l3
      rcases Nat.lt_or_ge s D.size with q1 | q1
      ·have r1:=rA_at q1
       simp (config := { maxSteps := 3000000 }) [c1,q1,qa,r1,ra]
       try exact ⟨rfl,rfl⟩
      ·have r1:=rA_out q1
       simp (config := { maxSteps := 3000000 }) [c1,qa,r1,ra]
       try exact ⟨rfl,rfl⟩
   have z2:j2 < D.size:=by omega
   have r2:=rA_at z2
   by_cases hgt:i2 > j2
   ·have k1:(j2:Int) < (i2:Int):=by omega
    have e:=part_first_break ltInt d a b c hi hj hDD (by rw [hi2,hpU]) (by rw [hj2,hpD]) hgt
    rw [hW] at e
    subst e
    have r3:=rA_at (d:=D.setIfInBounds j2 (gA D a)) (i:=a) (by rw [Array.size_setIfInBounds];omega)
    simp (config := { maxSteps := 3000000 }) [k1,qa,z2,ra,r2,r3]
    rfl
   ·have k1:¬ (j2:Int) < (i2:Int):=by omega
    have e:=part_first_go ltInt d a b c hi hj hDD (by rw [hi2,hpU]) (by rw [hj2,hpD]) hgt
    rw [hW] at e
    have lt2:=part_scans_lt ltInt a i j D (by omega) (i2:=i2) (j2:=j2) (by rw [hi2,hpU]) (by rw [hj2,hpD]) (by omega)
    obtain ⟨V,hV⟩:∃ V,V = partLoop ltInt a (i2 + 1) (j2 - 1) (swp D i2 j2):=⟨_,rfl⟩
    rw [← hV] at e
    subst e
    obtain ⟨i3,hi3⟩:∃ i3,i3 = i2 + 1:=⟨_,rfl⟩
    obtain ⟨j3,hj3⟩:∃ j3,j3 = j2 - 1:=⟨_,rfl⟩
    rw [← hi3,← hj3] at hV
    have z1:i2 < D.size:=by omega
    have r1:=rA_at z1
    have r3:=rA_at (d:=D.setIfInBounds i2 (gA D j2)) (i:=j2) (by rw [Array.size_setIfInBounds];omega)
    have v1:IntKind.i64.wrap ((i2:Int) + 1) = (i3:Int):=by rw [wrap_i64 (by omega)];omega
    have v2:IntKind.i64.wrap ((j2:Int) - 1) = (j3:Int):=by rw [wrap_i64 (by omega)];omega
    apply vwp_cut
    ·simp (config := { maxSteps := 3000000 }) [k1]
     exact ⟨rfl,rfl⟩
    apply vwp_cut
    ·simp (config := { maxSteps := 3000000 }) [z1,z2,r1,r2,r3]
     exact ⟨rfl,rfl⟩
    rw [show (D.setIfInBounds i2 (gA D j2)).setIfInBounds j2 (gA D i2) = swp D i2 j2 from rfl]
    apply vwp_cut
    ·simp (config := { maxSteps := 3000000 }) [v1]
     exact ⟨rfl,rfl⟩
    apply vwp_cut
    ·simp (config := { maxSteps := 3000000 }) [v2]
     exact ⟨rfl,rfl⟩
    rw [vwp_seq]
    rw [vwp_block]
    refine vwp_loop (fun x:(Nat × Nat) × Array Int=>(a < x.1.1∧x.1.1≤x.1.2 + 1)∧x.1.2 < b∧x.2.size = d.size∧V = partLoop ltInt a x.1.1 x.1.2 x.2) (fun x=>⟨[(0,.own 999),(1,.pv (.int .i64 (a:Int))),(10,.pv (.int .i64 (x.1.1:Int))),(11,.pv (.int .i64 (x.1.2:Int)))],[(999,.arr 81 (rA x.2))]⟩) (fun x=>x.1.2) [] ((i3,j3),swp D i2 j2) ⟨⟨by show a < i3;omega,by show i3≤j3 + 1;omega⟩,by show j3 < b;omega,by rw [size_swp,g4],hV⟩ ?_ ?_
    ·simp
    ·clear hV hi2 hj2 u1 u2 u3 u4 hi hj hi3 hj3 v1 v2 r1 r2 r3 z1 z2 k1 hgt lt2 w1 w2 g1 g2 g3 q1 q2 hDD g4 qa ra hpU hpD hW i2 j2 pU pD
     clear D
     rintro ⟨⟨i,j⟩,D⟩ ⟨⟨g1,g2⟩,g3,g4,g5⟩
     have g1:a < i:=g1
     have g2:i≤j + 1:=g2
     have g3:j < b:=g3
     have g4:D.size = d.size:=g4
     have g5:V = partLoop ltInt a i j D:=g5
     have qa:a < D.size:=by omega
     have ra:=rA_at qa
     obtain ⟨pU,hpU⟩:∃ pU:Int→Bool,pU = fun x=>ltInt x D[a]!:=⟨_,rfl⟩
     obtain ⟨pD,hpD⟩:∃ pD:Int→Bool,pD = fun x=>!ltInt x D[a]!:=⟨_,rfl⟩
     obtain ⟨i2,hi2⟩:∃ i2,i2 = scanUp pU D j i:=⟨_,rfl⟩
     obtain ⟨j2,hj2⟩:∃ j2,j2 = scanDown pD D i2 j:=⟨_,rfl⟩
     have u1:=scanUp_spec pU D j _ i rfl
     rw [← hi2] at u1
     have u2:=scanDown_spec pD D i2 j
     rw [← hj2] at u2
     have u3:i≤i2∧i2≤j + 1:=⟨u1.1,u1.2.1 g2⟩
     have u4:j2≤j∧i2≤j2 + 1:=⟨u2.1,u2.2.1 u3.2⟩
     rw [Fr_st]
     dsimp only
     rw [vwp_block]
     apply vwp_cut
     ·rw [vwp_block]
      refine vwp_loop (fun s:Nat=>i≤s∧s≤j + 1∧scanUp pU D j s = i2) (fun s=>⟨[(0,.own 999),(1,.pv (.int .i64 (a:Int))),(10,.pv (.int .i64 (s:Int))),(11,.pv (.int .i64 (j:Int)))],[(999,.arr 81 (rA D))]⟩) (fun s=>j + 1 - s) [] i (by refine ⟨?_,?_,?_⟩<;>first | omega | exact hi2.symm) ?_ ?_
      ·simp
      ·rintro s ⟨l1,l2,l3⟩
       by_cases hc:s≤j
       ·have ws:IntKind.i64.wrap ((s:Int) + 1) = ((s + 1:Nat):Int):=by rw [wrap_i64 (by omega)];omega
        have c1:(s:Int)≤(j:Int):=by omega
        have q1:s < D.size:=by omega
        have r1:=rA_at q1
        cases hb:ltInt (gA D s) (gA D a) with
        | true=>
         have e:=scanUp_go pU D j s hc (by rw [hpU];exact hb)
         rw [e] at l3
         obtain ⟨s',hs'⟩:∃ s',s' = s + 1:=⟨_,rfl⟩
         rw [← hs'] at ws l3
         simp (config := { maxSteps := 3000000 }) [c1,q1,qa,r1,ra,hb,ws]
         exact ⟨s',⟨by omega,by omega,l3⟩,rfl,by omega⟩
        | false=>
         have e:=scanUp_end pU D j s (.inr (by rw [hpU];exact hb))
         rw [e] at l3
         subst l3
         simp (config := { maxSteps := 3000000 }) [c1,q1,qa,r1,ra,hb]
         try exact ⟨rfl,rfl⟩
       ·have c1:¬ (s:Int)≤(j:Int):=by omega
        have e:=scanUp_end pU D j s (.inl hc)
        rw [e] at l3
        subst l3
        rcases Nat.lt_or_ge s D.size with q1 | q1
        ·have r1:=rA_at q1
         simp (config := { maxSteps := 3000000 }) [c1,q1,qa,r1,ra]
         try exact ⟨rfl,rfl⟩
        ·have r1:=rA_out q1
         simp (config := { maxSteps := 3000000 }) [c1,qa,r1,ra]
         try exact ⟨rfl,rfl⟩
     apply vwp_cut
     ·rw [vwp_block]
      refine vwp_loop (fun s:Nat=>i2≤s + 1∧s≤j∧scanDown pD D i2 s = j2) (fun s=>⟨[(0,.own 999),(1,.pv (.int .i64 (a:Int))),(10,.pv (.int .i64 (i2:Int))),(11,.pv (.int .i64 (s:Int)))],[(999,.arr 81 (rA D))]⟩) (fun s=>s) [] j (by refine ⟨?_,?_,?_⟩<;>first | omega | exact hj2.symm) ?_ ?_
      ·simp
      ·rintro s ⟨l1,l2,l3⟩
       by_cases hc:i2≤s
       ·have ws:IntKind.i64.wrap ((s:Int) - 1) = ((s - 1:Nat):Int):=by rw [wrap_i64 (by omega)];omega
        have c1:(i2:Int)≤(s:Int):=by omega
        have q1:s < D.size:=by omega
        have r1:=rA_at q1
        cases hb:(!ltInt (gA D s) (gA D a)) with
        | true=>
         have e:=scanDown_go pD D i2 s hc (by omega) (by rw [hpD];exact hb)
         rw [e] at l3
         obtain ⟨s',hs'⟩:∃ s',s' = s - 1:=⟨_,rfl⟩
         rw [← hs'] at ws l3
         simp (config := { maxSteps := 3000000 }) [c1,q1,qa,r1,ra,hb,ws]
         exact ⟨s',⟨by omega,by omega,l3⟩,rfl,by omega⟩
        | false=>
         have e:=scanDown_end pD D i2 s (.inr (by rw [hpD];exact hb))
         rw [e] at l3
         subst l3
         simp (config := { maxSteps := 3000000 }) [c1,q1,qa,r1,ra,hb]
         try exact ⟨rfl,rfl⟩
       ·have c1:¬ (i2:Int)≤(s:Int):=by omega
        have e:=scanDown_end pD D i2 s (.inl hc)
        rw [e] at l3
        subst l3
        rcases Nat.lt_or_ge s D.size with q1 | q1
        ·have r1:=rA_at q1
         simp (config := { maxSteps := 3000000 }) [c1,q1,qa,r1,ra]
         try exact ⟨rfl,rfl⟩
        ·have r1:=rA_out q1
         simp (config := { maxSteps := 3000000 }) [c1,qa,r1,ra]
         try exact ⟨rfl,rfl⟩
     have z2:j2 < D.size:=by omega
     have r2:=rA_at z2
     by_cases hgt:i2 > j2
     ·have k1:(j2:Int) < (i2:Int):=by omega
      have e:=part_break ltInt a i j D (i2:=i2) (j2:=j2) (by rw [hi2,hpU]) (by rw [hj2,hpD]) hgt
      rw [← g5] at e
      have e1:(j2:Int) = (V.1:Int):=by rw [e]
      have e2:rA (swp D j2 a) = rA (swp V.2 V.1 a):=by rw [e]
      have r3:=rA_at (d:=D.setIfInBounds j2 (gA D a)) (i:=a) (by rw [Array.size_setIfInBounds];omega)
      simp (config := { maxSteps := 3000000 }) [k1,qa,z2,ra,r2,r3]
      exact ⟨e1,e2⟩
     ·have k1:¬ (j2:Int) < (i2:Int):=by omega
      have e:=part_go ltInt a i j D (i2:=i2) (j2:=j2) (by rw [hi2,hpU]) (by rw [hj2,hpD]) hgt
      rw [e] at g5
      have lt2:=part_scans_lt ltInt a i j D (by omega) (i2:=i2) (j2:=j2) (by rw [hi2,hpU]) (by rw [hj2,hpD]) (by omega)
      have z1:i2 < D.size:=by omega
      have r1:=rA_at z1
      have r3:=rA_at (d:=D.setIfInBounds i2 (gA D j2)) (i:=j2) (by rw [Array.size_setIfInBounds];omega)
      have v1:IntKind.i64.wrap ((i2:Int) + 1) = (i2:Int) + 1:=wrap_i64 (by omega)
      obtain ⟨j3,hj3⟩:∃ j3,j3 = j2 - 1:=⟨_,rfl⟩
      have v2:IntKind.i64.wrap ((j2:Int) - 1) = (j3:Int):=by rw [wrap_i64 (by omega)];omega
      rw [← hj3] at g5
      apply vwp_cut
      ·simp (config := { maxSteps := 3000000 }) [k1]
       exact ⟨rfl,rfl⟩
      apply vwp_cut
      ·simp (config := { maxSteps := 3000000 }) [z1,z2,r1,r2,r3]
       exact ⟨rfl,rfl⟩
      simp (config := { maxSteps := 3000000 }) [v1,v2]
      exact ⟨i2 + 1,j3,swp D i2 j2,⟨⟨by omega,by omega⟩,by omega,by rw [size_swp,g4],g5⟩,⟨⟨by omega,rfl⟩,rfl⟩,by omega⟩
  ·cases h
 ·cases h
noncomputable def Gpis:List AV→Option (Prop × AV)
 | [.tup [.fr e a],.pv (.int .i64 p),.pv (.int .i64 q)]=>if e = 81 then (dec rowN a).map fun l=>((0≤p∧p < q)∧q≤(l.length:Int)∧l.length < 50,.clo 0 [.pv (.bool (partialInsertionSort ltInt l.toArray p.toNat q.toNat).2),.fr 81 (rA (partialInsertionSort ltInt l.toArray p.toNat q.toNat).1)]) else none
 | _=>none
@[simp] theorem Gpis_eq (e:TypeId) (d:Array Int) (p q:Int):Gpis [.tup [.fr e (rA d)],.pv (.int .i64 p),.pv (.int .i64 q)] = if e = 81 then some ((0≤p∧p < q)∧q≤(d.size:Int)∧d.size < 50,.clo 0 [.pv (.bool (partialInsertionSort ltInt d p.toNat q.toNat).2),.fr 81 (rA (partialInsertionSort ltInt d p.toNat q.toNat).1)]) else none:=by
 show (if e = 81 then (dec rowN (rA d)).map _ else none) = _
 rw [dec_rA]
 simp
theorem pis_eq {d:Array Int} {a b:Nat} (h:b - a < 50):partialInsertionSort ltInt d a b = (d,decide (scanSorted ltInt d b (a + 1) = b)):=by
 unfold partialInsertionSort partialIns
 by_cases hs:scanSorted ltInt d b (a + 1) = b
 ·simp only [if_pos hs,decide_eq_true hs]
 ·simp only [if_neg hs,if_pos h,decide_eq_false hs]
theorem scn_le (d:Array Int) (b:Nat):∀ (n i:Nat),b - i = n→i≤b→scanSorted ltInt d b i≤b:=by
 intro n
 induction n with
 | zero=>
  intro i h1 h2
  rw [scanSorted_stop ltInt d b i (.inl (by omega))];exact h2
 | succ n ih=>
  intro i h1 h2
  cases hl:ltInt d[i]! d[i - 1]! with
  | true=>rw [scanSorted_stop ltInt d b i (.inr hl)];exact h2
  | false=>rw [scanSorted_go ltInt d b i (by omega) hl];exact ih (i + 1) (by omega) (by omega)
theorem c_pis:ConTG Try.prog 176 Gpis:=by
 intro ys φ r h hφ
 unfold Gpis at h
 split at h
 ·rename_i e ra p q
  split at h
  ·rename_i he
   subst he
   obtain ⟨l,hl,h⟩:=Option.map_eq_some_iff.1 h
   cases h
   obtain ⟨D,rfl,rfl⟩:=rA_all hl
   obtain ⟨⟨h1,h2⟩,h3,h5⟩:=hφ
   rw [Array.length_toList] at h3 h5
   obtain ⟨a,rfl⟩:∃ a:Nat,p = a:=⟨p.toNat,by omega⟩
   obtain ⟨b,rfl⟩:∃ a:Nat,q = a:=⟨q.toNat,by omega⟩
   rw [Int.toNat_natCast,Int.toNat_natCast,Array.toArray_toList,pis_eq (by omega)]
   obtain ⟨i0,hi0⟩:∃ i0,i0 = a + 1:=⟨_,rfl⟩
   obtain ⟨i2,hi2⟩:∃ i2,i2 = scanSorted ltInt D b i0:=⟨_,rfl⟩
   have le2:i2≤b:=by rw [hi2];exact scn_le D b _ i0 rfl (by omega)
   rw [← hi0,← hi2]
   have w1:IntKind.i64.wrap ((a:Int) + 1) = (i0:Int):=by rw [wrap_i64 (by omega)];omega
   have w2:IntKind.i64.wrap ((b:Int) - (a:Int)) = (b:Int) - (a:Int):=wrap_i64 (by omega)
   refine con_ofG (tab_cons c_less tab_nil) (by kernel_rfl) fn176 (by simp) rfl (by simp) ?_
   unfold body176
   apply vwp_cut
   ·simp (config := { maxSteps := 3000000 })
    exact ⟨rfl,rfl⟩
   apply vwp_cut
   ·simp (config := { maxSteps := 3000000 }) [w1]
    exact ⟨rfl,rfl⟩
   rw [vwp_seq]
   apply vwp_cut
   ·simp (config := { maxSteps := 3000000 })
    exact ⟨rfl,rfl⟩
   rw [vwp_block]
   refine vwp_loop (fun _:Unit=>True) (fun _=>⟨[(0,.own 999),(1,.pv (.int .i64 (a:Int))),(2,.pv (.int .i64 (b:Int))),(6,.pv (.bool false)),(7,.pv (.int .i64 (i0:Int))),(8,.pv (.int .i64 0))],[(999,.arr 81 (rA D))]⟩) (fun _=>0) [] () trivial ?_ ?_
   ·simp
   ·intro _ _
    apply vwp_cut
    ·simp (config := { maxSteps := 3000000 })
     exact ⟨rfl,rfl⟩
    rw [vwp_seq]
    rw [vwp_block]
    apply vwp_cut
    ·rw [vwp_block]
     refine vwp_loop (fun s:Nat=>i0≤s∧s≤b∧scanSorted ltInt D b s = i2) (fun s=>⟨[(0,.own 999),(1,.pv (.int .i64 (a:Int))),(2,.pv (.int .i64 (b:Int))),(6,.pv (.bool false)),(7,.pv (.int .i64 (s:Int)))],[(999,.arr 81 (rA D))]⟩) (fun s=>b - s) [] i0 ⟨Nat.le_refl _,by omega,hi2.symm⟩ ?_ ?_
     ·simp
     ·rintro s ⟨l1,l2,l3⟩
      obtain ⟨t,ht⟩:∃ t,s = t + 1:=⟨s - 1,by omega⟩
      have ws:IntKind.i64.wrap ((s:Int) - 1) = (t:Int):=by rw [wrap_i64 (by omega)];omega
      have wp:IntKind.i64.wrap ((s:Int) + 1) = (s:Int) + 1:=wrap_i64 (by omega)
      have q2:t < D.size:=by omega
      have r2:=rA_at q2
      by_cases hc:s < b
      ·have c1:(s:Int) < (b:Int):=by omega
       have q1:s < D.size:=by omega
       have r1:=rA_at q1
       cases hb:ltInt D[s]! D[s - 1]! with
       | false=>
        rw [scanSorted_go ltInt D b s hc hb] at l3
        have hb2:ltInt (gA D s) (gA D t) = false:=by rw [← hb,show t = s - 1 by omega];rfl
        simp (config := { maxSteps := 3000000 }) [c1,q1,q2,r1,r2,hb2,ws,wp]
        exact ⟨s + 1,⟨by omega,by omega,l3⟩,by omega,by omega⟩
       | true=>
        rw [scanSorted_stop ltInt D b s (.inr hb)] at l3
        have hb2:ltInt (gA D s) (gA D t) = true:=by rw [← hb,show t = s - 1 by omega];rfl
        subst l3
        simp (config := { maxSteps := 3000000 }) [c1,q1,q2,r1,r2,hb2,ws]
        exact ⟨rfl,rfl⟩
      ·have c1:¬ (s:Int) < (b:Int):=by omega
       rw [scanSorted_stop ltInt D b s (.inl hc)] at l3
       subst l3
       rcases Nat.lt_or_ge s D.size with q1 | q1
       ·have r1:=rA_at q1
        simp (config := { maxSteps := 3000000 }) [c1,q1,q2,r1,r2,ws]
        try exact ⟨rfl,rfl⟩
       ·have r1:=rA_out q1
        simp (config := { maxSteps := 3000000 }) [c1,q2,r1,r2,ws]
        try exact ⟨rfl,rfl⟩
    by_cases hz:i2 = b
    ·have c1:(i2:Int) = (b:Int):=by omega
     simp (config := { maxSteps := 3000000 }) [c1,hz]
    ·have c1:¬ (i2:Int) = (b:Int):=by omega
     have c2:(b:Int) - (a:Int) < 50:=by omega
     apply vwp_cut
     ·simp (config := { maxSteps := 3000000 }) [c1,hz]
      exact ⟨rfl,rfl⟩
     simp (config := { maxSteps := 3000000 }) [c2,w2,hz]
  ·cases h
 ·cases h
theorem swo_int:SWO ltInt where
 irrefl x:=by unfold ltInt;simp
 trans x y z h1 h2:=by unfold ltInt at *;simp at *;omega
 ntrans x y z h1 h2:=by unfold ltInt at *;simp at *;omega
theorem peq_range (a b:Nat):∀ (n i j:Nat) (d:Array Int),j = n→a < i→i≤j + 1→j < b →
  a < (partEqLoop ltInt a i j d).1∧(partEqLoop ltInt a i j d).1≤b∧(partEqLoop ltInt a i j d).2.size = d.size:=by
 intro n
 induction n using Nat.strongRecOn with
 | _ n ih=>
  intro i j d hn h1 h2 h3
  have u1:=scanUp_spec (fun x=>!ltInt d[a]! x) d j _ i rfl
  obtain ⟨i2,hi2⟩:∃ i2,i2 = scanUp (fun x=>!ltInt d[a]! x) d j i:=⟨_,rfl⟩
  rw [← hi2] at u1
  have u2:=scanDown_spec (fun x=>ltInt d[a]! x) d i2 j
  obtain ⟨j2,hj2⟩:∃ j2,j2 = scanDown (fun x=>ltInt d[a]! x) d i2 j:=⟨_,rfl⟩
  rw [← hj2] at u2
  have u3:i≤i2∧i2≤j + 1:=⟨u1.1,u1.2.1 h2⟩
  have u4:j2≤j∧i2≤j2 + 1:=⟨u2.1,u2.2.1 u3.2⟩
  by_cases hgt:i2 > j2
  ·rw [partEq_break ltInt a i j d hi2 hj2 hgt]
   exact ⟨by show a < i2;omega,by show i2≤b;omega,rfl⟩
  ·have lt2:=scans_lt ltInt a i j d (by omega) hi2 hj2 (by omega)
   rw [partEq_go ltInt a i j d hi2 hj2 hgt]
   have:=ih (j2 - 1) (by omega) (i2 + 1) (j2 - 1) (swp d i2 j2) rfl (by omega) (by omega) (by omega)
   rw [size_swp] at this
   exact this
theorem prt_range {d:Array Int} {a b c:Nat} (h1:a≤c) (h2:c < b) (h3:b≤d.size):a≤(partition ltInt d a b c).1∧(partition ltInt d a b c).1 < b∧(partition ltInt d a b c).2.2.size = d.size:=by
 obtain ⟨x1,x2,x3,_⟩:=partition_holds (lt:=ltInt) swo_int d a b c h1 h2 h3
 exact ⟨x1,x2,x3.1⟩
theorem pdq_step {D D1 D2:Array Int} {a b lm lm1 pv:Nat} {wb wp:Bool} {c:Nat × Hint} {hint:Hint} {pi:Array Int × Bool} (h12:¬ b - a≤12) (hl:¬ lm = 0)
  (e1:D1 = if (!wb) = true then breakPatterns D a b else D) (e2:lm1 = if (!wb) = true then lm - 1 else lm) (e3:c = choosePivot ltInt D1 a b)
  (e4:D2 = if c.2 = .decreasing then reverseRange D1 a b else D1) (e5:pv = if c.2 = .decreasing then (b - 1) - (c.1 - a) else c.1) (e6:hint = if c.2 = .decreasing then Hint.increasing else c.2)
  (e7:pi = if (wb && wp && decide (hint = .increasing)) = true then partialInsertionSort ltInt D2 a b else (D2,false)) :
  pdq ltInt D a b lm wb wp = if pi.2 = true then pi.1 else
   if (decide (a > 0) && !ltInt pi.1[a - 1]! pi.1[pv]!) = true then
    (if a < (partitionEqual ltInt pi.1 a b pv).1∧(partitionEqual ltInt pi.1 a b pv).1≤b then pdq ltInt (partitionEqual ltInt pi.1 a b pv).2 (partitionEqual ltInt pi.1 a b pv).1 b lm1 wb wp else (partitionEqual ltInt pi.1 a b pv).2)
   else
    (if a≤(partition ltInt pi.1 a b pv).1∧(partition ltInt pi.1 a b pv).1 < b then
     (if (partition ltInt pi.1 a b pv).1 - a < b - (partition ltInt pi.1 a b pv).1 then
      pdq ltInt (pdq ltInt (partition ltInt pi.1 a b pv).2.2 a (partition ltInt pi.1 a b pv).1 lm1 true true) ((partition ltInt pi.1 a b pv).1 + 1) b lm1 (decide ((partition ltInt pi.1 a b pv).1 - a≥(b - a) / 8)) (partition ltInt pi.1 a b pv).2.1
     else
      pdq ltInt (pdq ltInt (partition ltInt pi.1 a b pv).2.2 ((partition ltInt pi.1 a b pv).1 + 1) b lm1 true true) a (partition ltInt pi.1 a b pv).1 lm1 (decide (b - (partition ltInt pi.1 a b pv).1≥(b - a) / 8)) (partition ltInt pi.1 a b pv).2.1)
    else (partition ltInt pi.1 a b pv).2.2):=by
 subst e1 e2 e3 e4 e5 e6 e7
 rw [pdq]
 dsimp only
 rw [if_neg h12,if_neg hl]
 rfl
theorem peq_size {D:Array Int} {a b c:Nat} (h1:a≤c) (h2:c < b):a < (partitionEqual ltInt D a b c).1∧(partitionEqual ltInt D a b c).1≤b∧(partitionEqual ltInt D a b c).2.size = D.size:=by
 have:=peq_range a b _ (a + 1) (b - 1) (swp D a c) rfl (by omega) (by omega) (by omega)
 rw [size_swp] at this
 exact this
theorem pdq_size:∀ (n:Nat) (D:Array Int) (a b lm:Nat) (wb wp:Bool),b - a = n→a≤b→b≤D.size→b - a < 50→(pdq ltInt D a b lm wb wp).size = D.size:=by
 intro n
 induction n using Nat.strongRecOn with
 | _ n ih=>
  intro D a b lm wb wp hn h1 h2 h50
  by_cases h12:b - a≤12
  ·rw [pdq,if_pos h12]
   exact (insertionSort_holds (lt:=ltInt) swo_int D a b h1 h2).1.1
  by_cases hl:lm = 0
  ·rw [pdq,if_neg h12,if_pos hl]
   exact (heapSort_holds (lt:=ltInt) swo_int D a b h1 h2).1.1
  obtain ⟨D1,e1⟩:∃ D1,D1 = if (!wb) = true then breakPatterns D a b else D:=⟨_,rfl⟩
  obtain ⟨lm1,e2⟩:∃ lm1,lm1 = if (!wb) = true then lm - 1 else lm:=⟨_,rfl⟩
  obtain ⟨c,e3⟩:∃ c,c = choosePivot ltInt D1 a b:=⟨_,rfl⟩
  obtain ⟨D2,e4⟩:∃ D2,D2 = if c.2 = .decreasing then reverseRange D1 a b else D1:=⟨_,rfl⟩
  obtain ⟨pv,e5⟩:∃ pv,pv = if c.2 = .decreasing then (b - 1) - (c.1 - a) else c.1:=⟨_,rfl⟩
  obtain ⟨hint,e6⟩:∃ hint,hint = if c.2 = .decreasing then Hint.increasing else c.2:=⟨_,rfl⟩
  obtain ⟨pi,e7⟩:∃ pi,pi = if (wb && wp && decide (hint = .increasing)) = true then partialInsertionSort ltInt D2 a b else (D2,false):=⟨_,rfl⟩
  rw [pdq_step h12 hl e1 e2 e3 e4 e5 e6 e7]
  have t1:D1.size = D.size:=by
   rw [e1];split
   ·exact (breakPatterns_holds D a b h1 h2).1
   ·rfl
  have t2:=choosePivot_holds ltInt D1 a b (by omega)
  rw [← e3] at t2
  have t3:D2.size = D.size:=by
   rw [e4];split
   ·rw [(reverseRange_holds D1 a b h1 (by omega)).1,t1]
   ·exact t1
  have t4:a≤pv∧pv < b:=by rw [e5];split<;>omega
  have t6:pi.1.size = D.size:=by
   rw [e7];split
   ·rw [pis_eq h50];exact t3
   ·exact t3
  have p1:=peq_size (D:=pi.1) t4.1 t4.2
  have p2:=prt_range (d:=pi.1) t4.1 t4.2 (by omega)
  split
  ·exact t6
  split
  ·rw [if_pos ⟨p1.1,p1.2.1⟩,ih _ (by omega) _ _ _ _ _ _ rfl (by omega) (by omega) (by omega)]
   omega
  ·rw [if_pos ⟨p2.1,p2.2.1⟩]
   split
   ·rw [ih _ (by omega) _ _ _ _ _ _ rfl (by omega) (by rw [ih _ (by omega) _ _ _ _ _ _ rfl (by omega) (by omega) (by omega)];omega) (by omega),ih _ (by omega) _ _ _ _ _ _ rfl (by omega) (by omega) (by omega)]
    omega
   ·rw [ih _ (by omega) _ _ _ _ _ _ rfl (by omega) (by rw [ih _ (by omega) _ _ _ _ _ _ rfl (by omega) (by omega) (by omega)];omega) (by omega),ih _ (by omega) _ _ _ _ _ _ rfl (by omega) (by omega) (by omega)]
    omega
noncomputable def Gpd (N:Nat):List AV→Option (Prop × AV)
 | [.tup [.fr e a],.pv (.int .i64 p),.pv (.int .i64 q),.pv (.int .i64 m)]=>if e = 81∧N≠0 then (dec rowN a).map fun l=>((0≤p∧p≤q)∧q - p < (N:Int)∧(q≤(l.length:Int)∧l.length < 50)∧0≤m∧m≤1000,.clo 0 [.tup [],.fr 81 (rA (pdq ltInt l.toArray p.toNat q.toNat m.toNat true true))]) else none
 | _=>none
@[simp] theorem Gpd_eq (N:Nat) (e:TypeId) (d:Array Int) (p q m:Int):Gpd N [.tup [.fr e (rA d)],.pv (.int .i64 p),.pv (.int .i64 q),.pv (.int .i64 m)] = if e = 81∧N≠0 then some ((0≤p∧p≤q)∧q - p < (N:Int)∧(q≤(d.size:Int)∧d.size < 50)∧0≤m∧m≤1000,.clo 0 [.tup [],.fr 81 (rA (pdq ltInt d p.toNat q.toNat m.toNat true true))]) else none:=by
 show (if e = 81∧N≠0 then (dec rowN (rA d)).map _ else none) = _
 rw [dec_rA]
 simp
theorem c_pd:∀ N,ConTG Try.prog 140 (Gpd N)
 | 0=>by
  intro ys φ r h hφ
  unfold Gpd at h
  split at h
  ·rw [if_neg (by simp)] at h;cases h
  ·cases h
 | N + 1=>by
  have hrec:=c_pd N
  intro ys φ r h hφ
  unfold Gpd at h
  split at h
  ·rename_i e ra p q m
   split at h
   ·rename_i he
    obtain ⟨rfl,_⟩:=he
    obtain ⟨l,hl,h⟩:=Option.map_eq_some_iff.1 h
    cases h
    obtain ⟨d,rfl,rfl⟩:=rA_all hl
    obtain ⟨⟨h1,h2⟩,h3,⟨h4,h5⟩,h6,h7⟩:=hφ
    rw [Array.length_toList] at h4 h5
    obtain ⟨a,rfl⟩:∃ a:Nat,p = a:=⟨p.toNat,by omega⟩
    obtain ⟨b,rfl⟩:∃ a:Nat,q = a:=⟨q.toNat,by omega⟩
    obtain ⟨lm,rfl⟩:∃ a:Nat,m = a:=⟨m.toNat,by omega⟩
    rw [Int.toNat_natCast,Int.toNat_natCast,Int.toNat_natCast,Array.toArray_toList]
    generalize hW:pdq ltInt d a b lm true true = W
    refine con_ofG (tab_consG (ks:=[2,0,0,0]) hrec (by kernel_rfl) (tab_consG (ks:=[2,0,0]) c_insG (by kernel_rfl) (tab_consG (ks:=[2,0,0]) c_heap (by kernel_rfl) (tab_consG (ks:=[2,0,0]) c_brk (by kernel_rfl) (tab_cons c_chp (tab_consG (ks:=[2,0,0]) c_rev (by kernel_rfl) (tab_consG (ks:=[2,0,0]) c_pis (by kernel_rfl) (tab_cons c_less (tab_consG (ks:=[2,0,0,0]) c_peq (by kernel_rfl) (tab_consG (ks:=[2,0,0,0]) c_prt (by kernel_rfl) tab_nil)))))))))) (by kernel_rfl) fn140 (by simp) rfl (by simp) ?_
    unfold body140
    apply vwp_cut
    ·simp (config := { maxSteps := 3000000 })
     exact ⟨rfl,rfl⟩
    apply vwp_cut
    ·simp (config := { maxSteps := 3000000 })
     exact ⟨rfl,rfl⟩
    rw [vwp_block]
    refine vwp_loop (fun x:((Nat × Nat) × Nat) × (Bool × Bool) × Array Int=>(x.1.1.1≤x.1.1.2∧x.1.1.2≤d.size)∧x.1.1.2 - x.1.1.1 < N + 1∧x.1.2≤1000∧x.2.2.size = d.size∧pdq ltInt x.2.2 x.1.1.1 x.1.1.2 x.1.2 x.2.1.1 x.2.1.2 = W)
     (fun x=>⟨[(0,.own 999),(1,.pv (.int .i64 (x.1.1.1:Int))),(2,.pv (.int .i64 (x.1.1.2:Int))),(3,.pv (.int .i64 (x.1.2:Int))),(8,.pv (.bool x.2.1.1)),(9,.pv (.bool x.2.1.2))],[(999,.arr 81 (rA x.2.2))]⟩) (fun x=>x.1.1.2 - x.1.1.1) [] (((a,b),lm),(true,true),d) ⟨⟨by show a≤b;omega,by show b≤d.size;omega⟩,by show b - a < N + 1;omega,by show lm≤1000;omega,rfl,hW⟩ ?_ ?_
    ·simp
    ·rintro ⟨⟨⟨a,b⟩,lm⟩,⟨wb,wp⟩,D⟩ ⟨⟨g1,g2⟩,g3,g4,g5,g6⟩
     have g1:a≤b:=g1
     have g2:b≤d.size:=g2
     have g3:b - a < N + 1:=g3
     have g4:lm≤1000:=g4
     have g5:D.size = d.size:=g5
     have g6:pdq ltInt D a b lm wb wp = W:=g6
     obtain ⟨n,hn⟩:∃ n,n = b - a:=⟨_,rfl⟩
     have w0:IntKind.i64.wrap ((b:Int) - (a:Int)) = (n:Int):=by rw [wrap_i64 (by omega)];omega
     have s1:(a:Int)≤(b:Int):=by omega
     have s2:(b:Int)≤(D.size:Int):=by omega
     have s3:D.size≤1000000:=by omega
     have s4:D.size≤200:=by omega
     have s5:D.size < 50:=by omega
     rw [Fr_st]
     dsimp only
     rw [vwp_block]
     apply vwp_cut
     ·simp (config := { maxSteps := 3000000 }) [w0]
      exact ⟨rfl,rfl⟩
     by_cases h12:b - a≤12
     ·have hx:pdq ltInt D a b lm wb wp = insertionSort ltInt D a b:=by rw [pdq,if_pos h12]
      rw [hx] at g6
      have c12:(n:Int)≤12:=by omega
      subst g6
      simp (config := { maxSteps := 3000000 }) [c12,s1,s2,s3]
     have c12:¬ (n:Int)≤12:=by omega
     apply vwp_cut
     ·simp (config := { maxSteps := 3000000 }) [c12]
      exact ⟨rfl,rfl⟩
     by_cases hl0:lm = 0
     ·have hx:pdq ltInt D a b lm wb wp = heapSort ltInt D a b:=by rw [pdq,if_neg h12,if_pos hl0]
      rw [hx] at g6
      subst g6
      subst hl0
      simp (config := { maxSteps := 3000000 }) [s1,s2,s3]
     have cl0:¬ (lm:Int) = 0:=by omega
     apply vwp_cut
     ·simp (config := { maxSteps := 3000000 }) [cl0,hl0]
      exact ⟨rfl,rfl⟩
     obtain ⟨D1,e1⟩:∃ D1,D1 = if (!wb) = true then breakPatterns D a b else D:=⟨_,rfl⟩
     obtain ⟨lm1,e2⟩:∃ lm1,lm1 = if (!wb) = true then lm - 1 else lm:=⟨_,rfl⟩
     obtain ⟨c,e3⟩:∃ c,c = choosePivot ltInt D1 a b:=⟨_,rfl⟩
     obtain ⟨D2,e4⟩:∃ D2,D2 = if c.2 = .decreasing then reverseRange D1 a b else D1:=⟨_,rfl⟩
     obtain ⟨pv,e5⟩:∃ pv,pv = if c.2 = .decreasing then (b - 1) - (c.1 - a) else c.1:=⟨_,rfl⟩
     obtain ⟨hint,e6⟩:∃ hint,hint = if c.2 = .decreasing then Hint.increasing else c.2:=⟨_,rfl⟩
     obtain ⟨pi,e7⟩:∃ pi,pi = if (wb && wp && decide (hint = .increasing)) = true then partialInsertionSort ltInt D2 a b else (D2,false):=⟨_,rfl⟩
     rw [pdq_step h12 hl0 e1 e2 e3 e4 e5 e6 e7] at g6
     have t1:D1.size = D.size:=by
      rw [e1];split
      ·exact (breakPatterns_holds D a b g1 (by omega)).1
      ·rfl
     have t2:=choosePivot_holds ltInt D1 a b (by omega)
     rw [← e3] at t2
     have t3:D2.size = D.size:=by
      rw [e4];split
      ·rw [(reverseRange_holds D1 a b g1 (by omega)).1,t1]
      ·exact t1
     have t4:a≤pv∧pv < b:=by rw [e5];split<;>omega
     have t5:lm1≤lm:=by rw [e2];split<;>omega
     have v1:IntKind.i64.wrap ((lm:Int) - 1) = ((lm - 1:Nat):Int):=by rw [wrap_i64 (by omega)];omega
     apply vwp_cutB (fun st'=>∃ x:AV,st' = ⟨look [(0,.own 999),(1,.pv (.int .i64 (a:Int))),(2,.pv (.int .i64 (b:Int))),(3,.pv (.int .i64 (lm1:Int))),(8,.pv (.bool wb)),(9,.pv (.bool wp)),(10,.pv (.int .i64 (n:Int))),(11,.junk),(12,.junk),(13,.junk),(14,.junk),(15,.junk),(16,.junk),(17,.junk),(18,.junk),(23,.pv (.bool false)),(29,.pv (.bool false)),(35,x),(50,.junk),(68,.junk),(72,.junk),(87,.junk),(113,.junk)],lookO [(999,.arr 81 (rA D1))]⟩)
     ·cases wb with
      | true=>
       have e1:D1 = D:=e1
       have e2:lm1 = lm:=e2
       rw [e1,e2]
       simp (config := { maxSteps := 3000000 })
       exact ⟨_,rfl⟩
      | false=>
       have e1:D1 = breakPatterns D a b:=e1
       have e2:lm1 = lm - 1:=e2
       rw [e1,e2]
       simp (config := { maxSteps := 3000000 }) [s1,s2,s4,v1]
       exact ⟨_,rfl⟩
     rintro st' ⟨x35,rfl⟩
     have s2a:(b:Int)≤(D1.size:Int):=by omega
     have s3a:D1.size≤1000000:=by omega
     apply vwp_cut
     ·simp (config := { maxSteps := 3000000 }) [s1,s2a,s3a,← e3]
      exact ⟨rfl,rfl⟩
     apply vwp_cutB (fun st'=>∃ x:AV,st' = ⟨look [(0,.own 999),(1,.pv (.int .i64 (a:Int))),(2,.pv (.int .i64 (b:Int))),(3,.pv (.int .i64 (lm1:Int))),(8,.pv (.bool wb)),(9,.pv (.bool wp)),(10,.pv (.int .i64 (n:Int))),(11,.pv (.int .i64 (pv:Int))),(12,.pv (.int .i64 (hintN hint))),(13,.junk),(14,.junk),(15,.junk),(16,.junk),(17,.junk),(18,.junk),(23,.pv (.bool false)),(29,.pv (.bool false)),(35,x35),(50,x),(68,.junk),(72,.junk),(87,.junk),(113,.junk)],lookO [(999,.arr 81 (rA D2))]⟩)
     ·by_cases hd:c.2 = .decreasing
      ·rw [if_pos hd] at e4 e5 e6
       have k1:hintN c.2 = 2:=by rw [hd];rfl
       have k2:hintN hint = 1:=by rw [e6];rfl
       have v2:IntKind.i64.wrap ((b:Int) - 1) = (b:Int) - 1:=wrap_i64 (by omega)
       have v3:IntKind.i64.wrap ((c.1:Int) - (a:Int)) = (c.1:Int) - (a:Int):=wrap_i64 (by omega)
       have v4:IntKind.i64.wrap ((b:Int) - 1 - ((c.1:Int) - (a:Int))) = (pv:Int):=by rw [wrap_i64 (by omega)];omega
       rw [k1,k2]
       simp (config := { maxSteps := 3000000 }) [s1,s2a,s3a,v2,v3,v4,← e4]
       exact ⟨_,rfl⟩
      ·rw [if_neg hd] at e4 e5 e6
       have k1:¬ hintN c.2 = 2:=by
        revert hd
        cases c.2<;>simp [hintN]
       rw [e4,e5,e6]
       simp (config := { maxSteps := 3000000 }) [k1]
       exact ⟨_,rfl⟩
     rintro st' ⟨x50,rfl⟩
     have s2b:(b:Int)≤(D2.size:Int):=by omega
     have s5b:D2.size < 50:=by omega
     have s1b:(a:Int) < (b:Int):=by omega
     have t6:pi.1.size = D.size:=by
      rw [e7];split
      ·rw [pis_eq (by omega)];exact t3
      ·exact t3
     apply vwp_cutB (fun st'=>pi.2 = false∧∃ x y:AV,st' = ⟨look [(0,.own 999),(1,.pv (.int .i64 (a:Int))),(2,.pv (.int .i64 (b:Int))),(3,.pv (.int .i64 (lm1:Int))),(8,.pv (.bool wb)),(9,.pv (.bool wp)),(10,.pv (.int .i64 (n:Int))),(11,.pv (.int .i64 (pv:Int))),(12,.pv (.int .i64 (hintN hint))),(13,.junk),(14,.junk),(15,.junk),(16,.junk),(17,.junk),(18,.junk),(23,.pv (.bool false)),(29,.pv (.bool false)),(35,x35),(50,x50),(68,x),(72,y),(87,.junk),(113,.junk)],lookO [(999,.arr 81 (rA pi.1))]⟩)
     ·cases hb:(wb && wp && decide (hint = .increasing)) with
      | true=>
       rw [hb,if_pos rfl] at e7
       simp only [Bool.and_eq_true,decide_eq_true_eq] at hb
       obtain ⟨⟨rfl,rfl⟩,hh⟩:=hb
       have k2:hintN hint = 1:=by rw [hh];rfl
       rw [k2]
       apply vwp_cut
       ·simp (config := { maxSteps := 3000000 })
        exact ⟨rfl,rfl⟩
       apply vwp_cT rfl
       apply vwp_cut
       ·simp (config := { maxSteps := 3000000 }) [s1b,s2b,s5b,← e7]
        exact ⟨rfl,rfl⟩
       cases hp:pi.2 with
       | true=>
        rw [hp,if_pos rfl] at g6
        simp (config := { maxSteps := 3000000 }) [g6]
       | false=>
        simp (config := { maxSteps := 3000000 })
        exact ⟨_,_,rfl⟩
      | false=>
       rw [hb,if_neg (by simp)] at e7
       rw [e7]
       refine vwp_mono (fun _ h=>⟨rfl,h⟩) (fun _ _ h=>h) ?_
       cases wb with
       | false=>simp (config := { maxSteps := 3000000 });exact ⟨_,_,rfl⟩
       | true=>
        cases wp with
        | false=>simp (config := { maxSteps := 3000000 });exact ⟨_,_,rfl⟩
        | true=>
         have k1:¬ hintN hint = 1:=by
          revert hb
          cases hint<;>simp [hintN]
         simp (config := { maxSteps := 3000000 }) [k1]
         exact ⟨_,_,rfl⟩
     rintro st' ⟨hp,x68,x72,rfl⟩
     rw [hp,if_neg (by simp)] at g6
     obtain ⟨D3,e8⟩:∃ D3,D3 = pi.1:=⟨_,rfl⟩
     rw [← e8] at g6 t6 ⊢
     obtain ⟨u,hu⟩:∃ u,u = a - 1:=⟨_,rfl⟩
     have q1:pv < D3.size:=by omega
     have q2:u < D3.size:=by omega
     have r1:=rA_at q1
     have r2:=rA_at q2
     have s2c:(b:Int)≤(D3.size:Int):=by omega
     have s3c:D3.size≤1000000:=by omega
     have s6:(a:Int)≤(pv:Int):=by omega
     have s7:(pv:Int) < (b:Int):=by omega
     rw [← hu] at g6
     cases hc:decide (a > 0) && !ltInt D3[u]! D3[pv]! with
     | true=>
      rw [hc,if_pos rfl] at g6
      simp only [Bool.and_eq_true,decide_eq_true_eq,Bool.not_eq_true'] at hc
      obtain ⟨ha0,hl1⟩:=hc
      have hl2:ltInt (gA D3 u) (gA D3 pv) = false:=hl1
      have c1 : 0 < a:=ha0
      have v2:IntKind.i64.wrap ((a:Int) - 1) = (u:Int):=by rw [wrap_i64 (by omega)];omega
      obtain ⟨E,hE⟩:∃ E,E = partitionEqual ltInt D3 a b pv:=⟨_,rfl⟩
      have hr:=peq_range a b _ (a + 1) (b - 1) (swp D3 a pv) rfl (by omega) (by omega) (by omega)
      rw [show partEqLoop ltInt a (a + 1) (b - 1) (swp D3 a pv) = E from hE.symm,size_swp] at hr
      rw [← hE,if_pos ⟨hr.1,hr.2.1⟩] at g6
      rw [vwp_seq]
      ·apply vwp_cut
       ·simp (config := { maxSteps := 3000000 }) [c1,v2,q1,q2,r1,r2,hl2]
        exact ⟨rfl,rfl⟩
       apply vwp_cT rfl
       apply vwp_cut
       ·simp (config := { maxSteps := 3000000 }) [s6,s7,s1,s2c,s3c,← hE]
        exact ⟨rfl,rfl⟩
       apply vwp_cut
       ·simp (config := { maxSteps := 3000000 })
        exact ⟨rfl,rfl⟩
       rw [vwp_exit]
       simp only [inBlk,if_true]
       refine ⟨(((E.1,b),lm1),(wb,wp),E.2),⟨⟨by show E.1≤b;omega,by show b≤d.size;omega⟩,by show b - E.1 < N + 1;omega,by show lm1≤1000;omega,by show E.2.size = d.size;omega,g6⟩,?_,by show b - E.1 < b - a;omega⟩
       simp
     | false=>
      rw [hc,if_neg (by simp)] at g6
      obtain ⟨E,hE⟩:∃ E,E = partition ltInt D3 a b pv:=⟨_,rfl⟩
      have hr:=prt_range (d:=D3) (a:=a) (b:=b) (c:=pv) (by omega) (by omega) (by omega)
      rw [← hE] at hr g6
      rw [if_pos ⟨hr.1,hr.2.1⟩] at g6
      apply vwp_cutB (fun st'=>∃ x:AV,st' = ⟨look [(0,.own 999),(1,.pv (.int .i64 (a:Int))),(2,.pv (.int .i64 (b:Int))),(3,.pv (.int .i64 (lm1:Int))),(8,.pv (.bool wb)),(9,.pv (.bool wp)),(10,.pv (.int .i64 (n:Int))),(11,.pv (.int .i64 (pv:Int))),(12,.pv (.int .i64 (hintN hint))),(13,.junk),(14,.junk),(15,.junk),(16,.junk),(17,.junk),(18,.junk),(23,.pv (.bool false)),(29,.pv (.bool false)),(35,x35),(50,x50),(68,x68),(72,x72),(87,x),(113,.junk)],lookO [(999,.arr 81 (rA D3))]⟩)
      ·rcases Nat.eq_zero_or_pos a with ha0 | ha0
       ·have c1:¬ 0 < a:=by omega
        have v2:IntKind.i64.wrap ((a:Int) - 1) = -1:=by rw [ha0];decide
        have r0:rowAt (rA D3) (-1) = [.int .u64 (gA D3 0)]:=rA_at (d:=D3) (i:=0) (by omega)
        simp (config := { maxSteps := 3000000 }) [c1,v2,q1,r1,r0]
        exact ⟨_,rfl⟩
       ·have hl1:ltInt D3[u]! D3[pv]! = true:=by
         cases hl:ltInt D3[u]! D3[pv]! with
         | true=>rfl
         | false=>rw [hl] at hc;simp at hc;omega
        have hl2:ltInt (gA D3 u) (gA D3 pv) = true:=hl1
        have c1 : 0 < a:=ha0
        have v2:IntKind.i64.wrap ((a:Int) - 1) = (u:Int):=by rw [wrap_i64 (by omega)];omega
        simp (config := { maxSteps := 3000000 }) [c1,v2,q1,q2,r1,r2,hl2]
        exact ⟨_,rfl⟩
      rintro st' ⟨x87,rfl⟩
      obtain ⟨m1,hm1⟩:∃ m1,m1 = E.1 - a:=⟨_,rfl⟩
      obtain ⟨m2,hm2⟩:∃ m2,m2 = b - E.1:=⟨_,rfl⟩
      obtain ⟨n8,hn8⟩:∃ n8,n8 = (b - a) / 8:=⟨_,rfl⟩
      rw [← hm1,← hm2,← hn8] at g6
      have y1:IntKind.i64.wrap ((E.1:Int) - (a:Int)) = (m1:Int):=by rw [wrap_i64 (by omega)];omega
      have y2:IntKind.i64.wrap ((b:Int) - (E.1:Int)) = (m2:Int):=by rw [wrap_i64 (by omega)];omega
      have y3:(n:Int).tdiv 8 = (n8:Int):=by rw [Int.tdiv_eq_ediv_of_nonneg (by omega)];omega
      have y4:IntKind.i64.wrap (n8:Int) = (n8:Int):=wrap_i64 (by omega)
      have y5:IntKind.i64.wrap ((E.1:Int) + 1) = ((E.1 + 1:Nat):Int):=by rw [wrap_i64 (by omega)];omega
      have N0:N≠0:=by omega
      apply vwp_cut
      ·simp (config := { maxSteps := 3000000 }) [s6,s7,s1,s2c,s3c,← hE]
       exact ⟨rfl,rfl⟩
      apply vwp_cut
      ·simp (config := { maxSteps := 3000000 })
       exact ⟨rfl,rfl⟩
      apply vwp_cut
      ·simp (config := { maxSteps := 3000000 }) [y1,y2]
       exact ⟨rfl,rfl⟩
      apply vwp_cut
      ·simp (config := { maxSteps := 3000000 }) [y3,y4]
       exact ⟨rfl,rfl⟩
      obtain ⟨G,hG⟩:∃ G,G = E.2.2:=⟨_,rfl⟩
      obtain ⟨k,hk⟩:∃ k,k = E.1:=⟨_,rfl⟩
      rw [← hG,← hk] at g6 hr
      rw [← hG,← hk]
      rw [← hk] at y5 hm1 hm2
      by_cases hlt:m1 < m2
      ·rw [if_pos hlt] at g6
       apply vwp_cut
       ·simp (config := { maxSteps := 3000000 }) [hlt]
        exact ⟨rfl,rfl⟩
       apply vwp_cT rfl
       apply vwp_cut
       ·simp (config := { maxSteps := 3000000 })
        exact ⟨rfl,rfl⟩
       obtain ⟨P,hP⟩:∃ P,P = pdq ltInt G a k lm1 true true:=⟨_,rfl⟩
       have zP:P.size = d.size:=by rw [hP,pdq_size _ _ _ _ _ _ _ rfl (by omega) (by omega) (by omega)];omega
       rw [← hP] at g6
       have o1:(a:Int)≤(k:Int):=by omega
       have o2:(k:Int) - (a:Int) < (N:Int):=by omega
       have o3:(k:Int)≤(G.size:Int):=by omega
       have o4:G.size < 50:=by omega
       have o5:(lm1:Int)≤1000:=by omega
       apply vwp_cut
       ·simp (config := { maxSteps := 3000000 }) [N0,o1,o2,o3,o4,o5,← hP]
        exact ⟨rfl,rfl⟩
       apply vwp_at
       ·simp (config := { maxSteps := 3000000 }) [y5]
        exact ⟨rfl,rfl⟩
       refine ⟨(((k + 1,b),lm1),(decide (m1≥n8),E.2.1),P),⟨⟨by show k + 1≤b;omega,by show b≤d.size;omega⟩,by show b - (k + 1) < N + 1;omega,by show lm1≤1000;omega,zP,g6⟩,?_,by show b - (k + 1) < b - a;omega⟩
       simp
      ·rw [if_neg hlt] at g6
       have hge:m2≤m1:=by omega
       apply vwp_cut
       ·simp (config := { maxSteps := 3000000 }) [hlt]
        exact ⟨rfl,rfl⟩
       apply vwp_cF rfl
       apply vwp_cut
       ·simp (config := { maxSteps := 3000000 })
        exact ⟨rfl,rfl⟩
       obtain ⟨k1,hk1⟩:∃ k1,k1 = k + 1:=⟨_,rfl⟩
       rw [← hk1] at g6 y5
       obtain ⟨P,hP⟩:∃ P,P = pdq ltInt G k1 b lm1 true true:=⟨_,rfl⟩
       have zP:P.size = d.size:=by rw [hP,pdq_size _ _ _ _ _ _ _ rfl (by omega) (by omega) (by omega)];omega
       rw [← hP] at g6
       have o1:(k1:Int)≤(b:Int):=by omega
       have o2:(b:Int) - (k1:Int) < (N:Int):=by omega
       have o3:(b:Int)≤(G.size:Int):=by omega
       have o4:G.size < 50:=by omega
       have o5:(lm1:Int)≤1000:=by omega
       apply vwp_cut
       ·simp (config := { maxSteps := 3000000 }) [N0,o1,o2,o3,o4,o5,y5,← hP]
        exact ⟨rfl,rfl⟩
       apply vwp_at
       ·simp (config := { maxSteps := 3000000 })
        exact ⟨rfl,rfl⟩
       refine ⟨(((a,k),lm1),(decide (m2≥n8),E.2.1),P),⟨⟨by show a≤k;omega,by show k≤d.size;omega⟩,by show k - a < N + 1;omega,by show lm1≤1000;omega,zP,g6⟩,?_,by show k - a < b - a;omega⟩
       simp
   ·cases h
  ·cases h
theorem sort_eq (l:List Int):(Go.Sort.sort ltInt l.toArray).toList = srtU l:=
 sortInt_holds (sort_holds (pdq_holds insertionSort_holds heapSort_holds partialInsertionSort_holds (partition_holds _) (partitionEqual_holds _) reverseRange_holds)) l
noncomputable def GSo:List AV→Option (Prop × AV)
 | [.tup [.fr e a]]=>if e = 81 then (dec rowN a).map fun l=>(l.length < 50,.clo 0 [.tup [],.fr 81 (rowsN (srtU l))]) else none
 | _=>none
@[simp] theorem GSo_eq (e:TypeId) (a:List (List PV)):GSo [.tup [.fr e a]] = if e = 81 then (dec rowN a).map fun l=>(l.length < 50,.clo 0 [.tup [],.fr 81 (rowsN (srtU l))]) else none:=rfl
theorem c_SortG:ConTG Try.prog 102 GSo:=by
 intro ys φ r h hφ
 unfold GSo at h
 split at h
 ·rename_i e ra
  split at h
  ·rename_i he
   subst he
   obtain ⟨l,hl,h⟩:=Option.map_eq_some_iff.1 h
   cases h
   cases dec_rowsN_inv hl
   have hφ:l.length < 50:=hφ
   have hx:rowsN (srtU l) = rA (pdq ltInt l.toArray 0 l.length (bitsLen l.length) true true):=by
    rw [← sort_eq];unfold Go.Sort.sort rA;simp
   rw [hx,rA_of]
   have h8:=(lenTab_at l.length (by omega)).2
   obtain ⟨d,hd⟩:∃ d,d = l.toArray:=⟨_,rfl⟩
   have hds:d.size = l.length:=by rw [hd];simp
   rw [← hd,← hds]
   rw [← hds] at h8 hφ
   obtain ⟨m,hm⟩:∃ m,m = bitsLen d.size:=⟨_,rfl⟩
   rw [← hm] at h8 ⊢
   have w1:IntKind.u64.wrap (d.size:Int) = (d.size:Int):=wrap_u64 (by omega)
   have w2:(d.size:Int) < 256:=by omega
   have w3:(m:Int)≤1000:=by omega
   refine con_ofG (tab_cons c_Len (tab_consG (ks:=[2,0,0,0]) (c_pd 50) (by kernel_rfl) tab_nil)) (by kernel_rfl) fn102 (by simp) rfl (by simp) ?_
   unfold body102
   simp (config := { maxSteps := 3000000 }) [w1,w2,w3,hφ,← hm]
   omega
  ·cases h
 ·cases h
end Go.Proofs.Ythblkhafehanfaa.Ab
namespace Go.Proofs.Ythblkhafehanfaa.Ab
open Go Go.RowKit R
noncomputable def GpV:List AV→Option (Prop × AV)
 | [.agg [.pv (.ro a)]]=>(dec rowP a).map fun l=>(l.length < 50,.fr 81 (rowsN (versL (l.map Pn.v))))
 | _=>none
@[simp] theorem GpV_eq (a:List (List PV)):GpV [.agg [.pv (.ro a)]] = (dec rowP a).map fun l=>(l.length < 50,.fr 81 (rowsN (versL (l.map Pn.v)))):=rfl
theorem c_pV:ConT Try.prog 50 GpV:=by
 intro ys φ r h hφ
 unfold GpV at h
 split at h
 ·rename_i ra
  obtain ⟨a,ha,h⟩:=Option.map_eq_some_iff.1 h
  cases h
  cases dec_rowsP_inv ha
  have hl5:a.length < 50:=hφ
  refine con_of (tab_consG (ks:=[2]) c_SortG (by kernel_rfl) (tab_consU (p:=0) (k:=998) c_Cmp (by kernel_rfl) tab_nil)) (by kernel_rfl) fn50 (by simp) ?_
  unfold body50
  simp (config := { maxSteps := 3000000 })
  refine vwp_loop (fun i:Nat=>i≤a.length) (fun i=>⟨[(3,.own 3),(7,.pv (.ro (rowsP a))),(8,.pv (.int .i64 a.length)),(9,.pv (.int .i64 i))],[(3,.arr 81 (rowsN ((a.take i).map Pn.v)))]⟩) (fun i=>a.length - i) [] 0 (by simp) ?_ ?_
  ·simp
  ·intro i hi
   have w2:IntKind.i64.wrap ((i:Int) + 1) = (i:Int) + 1:=wrap_i64 (by omega)
   by_cases hlt:i < a.length
   ·have r1:=rowsP_at hlt
    have hll:((a.take i).map Pn.v).length = i:=by simp;omega
    have htk:(a.take (i + 1)).map Pn.v = (a.take i).map Pn.v ++ [a[i].v]:=by
     rw [List.take_succ_eq_append_getElem hlt,List.map_append];rfl
    simp (config := { maxSteps := 3000000 }) [w2,hlt,r1,maxLen_eq]
    refine ⟨⟨by omega,by omega⟩,i + 1,by omega,⟨by omega,by have:=congrArg rowsN htk;rw [rowsN_append,List.map_take,List.map_take] at this;exact this.symm⟩,by omega⟩
   ·have hia:i = a.length:=by omega
    subst hia
    have hsl:(srtU (a.map Pn.v)).length≤1000000:=by simp [srtU];omega
    have hml:(a.map Pn.v).length < 50:=by simp;omega
    simp (config := { maxSteps := 3000000 }) [hsl,hml,hl5]
    rfl
 ·cases h
theorem e_add1:addP [] ⟨3,1,10⟩ = ([⟨3,1,10⟩],0):=by decide
theorem e_add2:addP [⟨3,1,10⟩] ⟨3,2,5⟩ = ([],2):=by decide
theorem e_add3:addP [⟨3,1,10⟩] ⟨4,1,7⟩ = ([⟨3,1,10⟩,⟨4,1,7⟩],0):=by decide
theorem e_live1:liveL [⟨3,1,10⟩,⟨4,1,7⟩] 8 0 = [⟨3,1,10⟩]:=by decide
theorem e_live2:liveL [⟨3,1,10⟩,⟨4,1,7⟩] 8 1 = [⟨3,1,10⟩,⟨4,1,7⟩]:=by decide
theorem vputP_1:vputP 1 = [1]:=by unfold vputP;rw [vput_small (by decide)];rfl
theorem vputP_3:vputP 3 = [3]:=by unfold vputP;rw [vput_small (by decide)];rfl
theorem vputP_10:vputP 10 = [10]:=by unfold vputP;rw [vput_small (by decide)];rfl
theorem e_pput:putPs [⟨3,1,10⟩] = [1,3,1,10]:=by
 simp [putPs,pinsB,pinB,vputP_1,vputP_3,vputP_10]
theorem e_vers:versL [1,1] = [1]:=(versL_eq (a:=[1]) (by simp) (by simp)).symm
def Gworks:List AV→Option (Prop × AV)
 | []=>some (True,.pv (.bool true))
 | _=>none
@[simp] theorem Gworks_eq:Gworks [] = some (True,.pv (.bool true)):=rfl
theorem c_works:ConT Try.prog 43 Gworks:=by
 intro ys φ r h hφ
 unfold Gworks at h
 split at h
 ·cases h
  refine con_of (tab_cons c_pAdd (tab_cons c_Live (tab_cons c_pSame (tab_cons c_pV (tab_cons c_nums (tab_cons c_pPut (tab_cons c_sameB tab_nil))))))) (by kernel_rfl) fn43 (by simp) ?_
  unfold body43
  have hb:dec byteR [[.int .u8 1],[.int .u8 3],[.int .u8 1],[.int .u8 10]] = some [1,3,1,10]:=dec_bytes [1,3,1,10]
  have hd1:dec rowN [[PV.int .u64 1]] = some [1]:=dec_rowsN [1]
  have hd0:dec rowP [] = some []:=dec_rowsP []
  have fl0:flatRows []:=flat_rowsP []
  have fl1:∀ l,flatRows (rowsP l):=flat_rowsP
  apply vwp_cut
  ·simp (config := { maxSteps := 3000000 }) [maxLen_eq]
   exact ⟨rfl,rfl⟩
  apply vwp_cut
  ·simp (config := { maxSteps := 3000000 }) [hd0,fl0,fl1,e_add1,maxLen_eq]
   exact ⟨rfl,rfl⟩
  apply vwp_cut
  ·simp (config := { maxSteps := 3000000 }) [hd0,fl0,fl1,e_add2,maxLen_eq]
   exact ⟨rfl,rfl⟩
  apply vwp_cut
  ·simp (config := { maxSteps := 3000000 }) [hd0,fl0,fl1,e_add3,maxLen_eq]
   exact ⟨rfl,rfl⟩
  apply vwp_cut
  ·refine (show steps _ _ _ _ _ from ?_)
   apply steps_spl 11 rfl rfl
   ·simp (config := { maxSteps := 3000000 }) [fl0,fl1,hd1,hd0,okN,okP',e_vers,maxLen_eq]
    exact ⟨rfl,rfl⟩
   apply steps_spl 6 rfl rfl
   ·simp (config := { maxSteps := 3000000 }) [fl0,fl1,hd1,hd0,okN,okP',e_vers,maxLen_eq,e_live1]
    exact ⟨rfl,rfl⟩
   apply steps_spl 6 rfl rfl
   ·simp (config := { maxSteps := 3000000 }) [fl0,fl1,hd1,hd0,okN,okP',e_vers,maxLen_eq,e_live2]
    exact ⟨rfl,rfl⟩
   apply steps_spl 12 rfl rfl
   ·simp (config := { maxSteps := 3000000 }) [fl0,fl1,hd1,hd0,okN,okP',e_vers,maxLen_eq]
    exact ⟨rfl,rfl⟩
   apply steps_spl 6 rfl rfl
   ·simp (config := { maxSteps := 3000000 }) [fl0,fl1,hd1,hd0,okN,okP',e_vers,maxLen_eq]
    exact ⟨flat_rowsN [1],rfl,rfl⟩
   simp (config := { maxSteps := 3000000 }) [fl0,fl1,hd1,hd0,okN,okP',e_vers,maxLen_eq,e_pput,hb]
   exact ⟨flat_bytes _,rfl,rfl⟩
  simp (config := { maxSteps := 3000000 })
 ·cases h
end Go.Proofs.Ythblkhafehanfaa.Ab
namespace Go.Proofs.Ythblkhafehanfaa.Ab
open Go Go.RowKit
abbrev keep9:List Nat:=[0,1,2,3,4,5,6,7,10,11,12,13,14,15,16,17,18,19,20,21,22,23,24,34,59,119,129]
def body9:AC:=
 .seq (.reg [.u 5 .box 0,.u 6 .box 1,.u 7 .box 2,.a 10 .mov [.const (.bool false)]] false keep9)
 (.seq (.seq (.reg [.u 25 (.fad 0) 5,.u 26 (.load none) 25,.u 27 .len 26,.c 28 (.bin .gtr) 27 40,.m 29 28,.bu 30 (.fad 0) 6 29 false,.bu 31 (.load none) 30 29 false,.bu 32 .len 31 29 false,.bc 33 (.bin .gtr) 32 40 29 false,.po 34 29 33] false keep9)
 (.cond (.tmp 34) (.seq (.reg [.a 35 (.call 43) [],.m 10 35] false keep9)
 (.ret)) (.skip)))
 (.seq (.reg [.u 36 (.load (some 1)) 5,.u 37 (.call 44) 36,.m 11 37] false keep9)
 (.seq (.reg [.u 38 (.fad 0) 7,.u 39 (.load none) 38,.u 40 (.fad 1) 7,.u 41 (.load none) 40,.u 42 (.fad 2) 7,.u 43 (.load none) 42,.a 44 (.bld [(.int .u64 0),(.int .u64 0),(.int .u64 0)] [(0,1),(1,1),(2,1)]) [.tmp 39,.tmp 41,.tmp 43],.a 12 (.alloc [(.int .u64 0),(.int .u64 0),(.int .u64 0)]) [],.s (.store (some 3)) [.tmp 12,.tmp 44]] false keep9)
 (.seq (.reg [.m 46 11,.u 47 (.load (some 3)) 12,.w 48 (.call 45) 46 47,.m 45 48,.u 49 (.ext 0) 45,.u 50 (.ext 1) 45,.m 13 49,.m 14 50] false keep9)
 (.seq (.reg [.m 52 11,.u 53 (.fad 0) 7,.u 54 (.load none) 53,.w 55 (.call 46) 52 54,.m 51 55,.u 56 (.ext 0) 51,.u 57 (.ext 1) 51,.m 15 56,.m 16 57] false keep9)
 (.seq (.seq (.reg [.a 17 .mov [ci 0]] false keep9)
 (.block 0 (.loop (.seq (.seq (.reg [.m 58 17,.c 59 (.bin .lss) 58 2] false keep9)
 (.cond (.tmp 59) (.skip) (.exit 0)))
 (.seq (.block 1 (.seq (.reg [.u 63 (.load (some 1)) 5,.u 64 (.load (some 3)) 7,.w 65 (.call 47) 63 64,.m 62 65,.u 66 (.ext 0) 62,.u 67 (.ext 1) 62,.a 18 (.alloc [(.slice none 0 0)]) [],.s (.store (some 1)) [.tmp 18,.tmp 66],.m 19 67] false keep9)
 (.seq (.reg [.u 69 (.load (some 1)) 5,.u 70 (.fad 0) 7,.u 71 (.load none) 70,.w 72 (.call 48) 69 71,.m 68 72,.u 73 (.ext 0) 68,.u 74 (.ext 1) 68,.a 20 (.alloc [(.slice none 0 0)]) [],.s (.store (some 1)) [.tmp 20,.tmp 73],.m 21 74] false keep9)
 (.seq (.reg [⟨some 75,(.load (some 1)),[.tmp 5],none,[22],none⟩,.m 76 3,.m 77 4,⟨some 78,(.call 49),[.tmp 75,.tmp 76,.tmp 77],none,[22],none⟩,⟨some 79,(.load (some 1)),[.tmp 5],none,[78,22],none⟩,⟨some 80,(.call 50),[.tmp 79],none,[22],none⟩,⟨some 22,(.alloc [(.slice none 0 0)]),[],none,[78,80],none⟩,⟨none,(.store (some 1)),[.tmp 22,.tmp 78],none,[],(some 22)⟩,.m 23 80] true keep9)
 (.seq (.seq (.reg (
  .m 81 19 :: .m 82 14 :: .w 83 (.bin .neq) 81 82 :: .m 84 83 :: .mg 85 21 84 false :: .mg 86 16 84 false :: .bw 87 (.bin .neq) 85 86 84 false :: .po 88 84 87 :: .m 89 88 :: .bu 90 (.load (some 1)) 18 89 false :: .bu 91 (.call 44) 90 89 false :: .mg 92 13 89 false :: .bw 93 (.call 51) 91 92 89 false :: .bu 94 .not 93 89 false :: .po 95 89 94 :: .m 96 95 :: .bu 97 (.load (some 1)) 20 96 false :: .bu 98 (.call 44) 97 96 false :: .mg 99 15 96 false :: .bw 100 (.call 51) 98 99 96 false :: .bu 101 .not 100 96 false :: .po 102 96 101 :: .m 103 102 :: .bu 104 (.load (some 1)) 22 103 false :: .bu 105 (.call 44) 104 103 false :: .mg 106 11 103 false :: .mg 107 3 103 false :: .mg 108 4 103 false :: .b 109 (.call 52) [.tmp 106,.tmp 107,.tmp 108] 103 false :: .bw 110 (.call 51) 105 109 103 false :: .bu 111 .not 110 103 false :: .po 112 103 111 :: .m 113 112 :: .mg 114 23 113 false :: .mg 115 11 113 false :: .bu 116 (.call 54) 115 113 false :: .bw 117 (.call 53) 114 116 113 false :: .bu 118 .not 117 113 false :: .po 119 113 118 :: []) false keep9)
 (.cond (.tmp 119) (.seq (.reg [.a 10 .mov [.const (.bool false)]] false keep9)
 (.ret)) (.skip)))
 (.seq (.reg [.u 120 (.load (some 1)) 18,.u 121 (.call 55) 120] false keep9)
 (.seq (.reg [.u 122 (.load (some 1)) 20,.u 123 (.call 55) 122] false keep9)
 (.seq (.reg [.u 124 (.load (some 1)) 22,.u 125 (.call 55) 124] false keep9)
 (.seq (.reg [.a 24 .mov [ci 0]] false keep9)
 (.block 2 (.loop (.seq (.seq (.reg [.m 126 24,.m 127 23,.u 128 .len 127,.w 129 (.bin .lss) 126 128] false keep9)
 (.cond (.tmp 129) (.skip) (.exit 2)))
 (.seq (.block 3 (.reg [.m 132 23,.m 133 24,.w 134 (.ixa 81 1) 132 133,.s (.store none) [.tmp 134,.const (.int .u64 99)]] false keep9))
 (.reg [.m 130 24,.c 131 (.bin .add) 130 1,.m 24 131] false keep9))))))))))))))
 (.reg [.m 60 17,.c 61 (.bin .add) 60 1,.m 17 61] false keep9))))))
 (.seq (.reg (
 .u 135 (.load (some 1)) 5 :: ⟨some 136,(.call 56),[.tmp 135],none,[],(some 999999)⟩ :: .m 137 11 :: ⟨some 138,(.call 57),[.tmp 137],none,[],(some 999999)⟩ :: .w 139 (.beq false) 136 138 :: .m 140 139 :: .bu 141 (.load (some 1)) 5 140 true :: .bu 142 (.fad 1) 7 140 true :: .bu 143 (.load none) 142 140 true :: .bw 144 (.call 58) 141 143 140 true :: .mg 145 11 140 true :: ⟨some 146,(.fad 1),[.tmp 7],some (140,true),[144],none⟩ :: ⟨some 147,(.load none),[.tmp 146],some (140,true),[144],none⟩ :: .bw 148 (.call 59) 145 147 140 true :: .bw 149 (.beq false) 144 148 140 true :: .pa 150 140 149 :: .m 151 150 :: .bu 152 (.load (some 1)) 5 151 true :: .bu 153 (.load (some 1)) 6 151 true :: .bw 154 (.call 60) 152 153 151 true :: .mg 155 11 151 true :: ⟨some 156,(.load (some 1)),[.tmp 6],some (151,true),[154],none⟩ :: .bu 157 (.call 44) 156 151 true :: .bw 158 (.call 51) 155 157 151 true :: .bw 159 (.beq false) 154 158 151 true :: .pa 160 151 159 :: .m 161 160 :: .bu 162 (.load (some 1)) 5 161 true :: .bu 163 (.load (some 1)) 5 161 true :: .bw 164 (.call 60) 162 163 161 true :: .pa 165 161 164 :: .m 166 165 :: .bu 167 (.load (some 1)) 5 166 true :: .bu 168 (.call 44) 167 166 true :: .mg 169 11 166 true :: .bw 170 (.call 51) 168 169 166 true :: .pa 171 166 170 :: .m 172 171 :: .b 173 (.call 43) [] 172 true :: .pa 174 172 173 :: .m 10 174 :: []) true keep9)
 (.ret))))))))
theorem fn9:compFn Try.prog 9 keep9 = some ⟨175,5,[(10,none)],body9⟩:=by kernel_rfl
end Go.Proofs.Ythblkhafehanfaa.Ab
namespace Go.Proofs.Ythblkhafehanfaa.Ab
open Go Go.RowKit R
theorem c_pinsTell (l m:List Pn) (x y z now s:Int) (hok:∀ e∈l,okP' e) (hn:okN now) (hs:okN s) :
  Con Try.prog 9 [] [.agg [.pv (.ro (rowsP l))],.agg [.pv (.ro (rowsP m))],.agg [.pv (.int .u64 x),.pv (.int .u64 y),.pv (.int .u64 z)],.pv (.int .u64 now),.pv (.int .u64 s)] [] (.pv (.bool true)):=by
 refine con_of (tab_cons c_works (tab_cons c_pref (tab_cons c_rAdd (tab_cons c_rRem (tab_cons c_pAdd (tab_cons c_pRem (tab_cons c_Live (tab_cons c_pV (tab_cons c_rSame (tab_cons c_rLive (tab_cons c_nums (tab_cons c_rV (tab_consG (ks:=[2]) c_spoil (by kernel_rfl) (tab_cons c_pRight (tab_cons c_rRight (tab_cons c_pOf (tab_cons c_rOf (tab_cons c_pSame tab_nil)))))))))))))))))) (by kernel_rfl) fn9 (by simp) ?_
 unfold body9
 by_cases hl:(40:Int) < l.length
 ·simp (config := { maxSteps := 3000000 }) [hl]
 by_cases hm:(40:Int) < m.length
 ·simp (config := { maxSteps := 3000000 }) [hl,hm]
 have hm8:m.length≤100000000:=by omega
 have hl9:l.length≤1000000000:=by omega
 have hl8:l.length≤100000000:=by omega
 have hl6:l.length≤1000000:=by omega
 have hl5:l.length≤100000:=by omega
 have hl50:l.length < 50:=by omega
 have fl:∀ l,flatRows (rowsP l):=flat_rowsP
 have fn:∀ l,flatRows (rowsN l):=flat_rowsN
 have ou:∀ e∈l,okN e.u:=fun e he=>(hok e he).2.2
 obtain ⟨A,hA⟩:∃ A,A = addP l ⟨x,y,z⟩:=⟨_,rfl⟩
 obtain ⟨R,hR⟩:∃ R,R = remP l x:=⟨_,rfl⟩
 obtain ⟨V,hV⟩:∃ V,V = liveL l now s:=⟨_,rfl⟩
 obtain ⟨W,hW⟩:∃ W,W = versL (l.map Pn.v):=⟨_,rfl⟩
 have zA:A.1.length≤41:=by
  subst hA
  unfold addP
  split<;>simp<;>omega
 have zR:R.1.length≤41:=by
  subst hR
  have:=remL_len x l
  unfold remP
  split
  ·show (remL x l).length≤41
   omega
  ·simp
 have zV:V.length≤41:=by
  subst hV
  have:=List.length_filter_le (fun e=>!pastP now s e) l
  unfold liveL
  omega
 have zW:W.length≤41:=by
  subst hW
  have:=versL_len (l.map Pn.v)
  rw [List.length_map] at this
  omega
 apply vwp_cut
 ·simp (config := { maxSteps := 3000000 })
  exact ⟨rfl,rfl⟩
 apply vwp_cut
 ·simp (config := { maxSteps := 3000000 }) [hl,hm]
  exact ⟨rfl,rfl⟩
 apply vwp_cut
 ·simp (config := { maxSteps := 3000000 }) [hl8]
  exact ⟨rfl,rfl⟩
 apply vwp_cut
 ·simp (config := { maxSteps := 3000000 })
  exact ⟨rfl,rfl⟩
 apply vwp_cut
 ·simp (config := { maxSteps := 3000000 }) [hl6,← hA,fl]
  exact ⟨rfl,rfl⟩
 apply vwp_cut
 ·simp (config := { maxSteps := 3000000 }) [hl5,← hR,fl]
  exact ⟨rfl,rfl⟩
 apply vwp_cut
 ·apply vwp_cut
  ·simp (config := { maxSteps := 3000000 })
   exact ⟨rfl,rfl⟩
  rw [vwp_block]
  refine vwp_loop (fun t:Nat=>t≤2) (fun t=>⟨[(3,.pv (.int .u64 now)),(4,.pv (.int .u64 s)),(5,.ptr 5 0),(6,.ptr 6 0),(7,.ptr 7 0),(11,.own 37),(13,.own 48),(14,.pv (.int .i64 A.2)),(15,.own 55),(16,.pv (.int .i64 R.2)),(17,.pv (.int .i64 (t:Int)))],
   [(55,.arr 86 (rowsP R.1)),(48,.arr 86 (rowsP A.1)),(37,.arr 86 (rowsP l)),(7,.box [.pv (.int .u64 x),.pv (.int .u64 y),.pv (.int .u64 z)]),(6,.box [.pv (.ro (rowsP m))]),(5,.box [.pv (.ro (rowsP l))])]⟩) (fun t=>2 - t) [] 0 (by omega) ?_ ?_
  ·simp
  ·intro t ht
   have w2:IntKind.i64.wrap ((t:Int) + 1) = (t:Int) + 1:=wrap_i64 (by omega)
   by_cases hlt:t < 2
   ·have hlt':(t:Int) < 2:=by omega
    apply vwp_cut
    ·simp (config := { maxSteps := 3000000 }) [hlt,hlt']
     exact ⟨rfl,rfl⟩
    rw [vwp_seq,vwp_block]
    apply vwp_cut
    ·simp (config := { maxSteps := 3000000 }) [hl6,← hA,fl]
     exact ⟨rfl,rfl⟩
    apply vwp_cut
    ·simp (config := { maxSteps := 3000000 }) [hl5,← hR,fl]
     exact ⟨rfl,rfl⟩
    apply vwp_cut
    ·simp (config := { maxSteps := 3000000 }) [hl6,hl50,← hV,← hW,fl,fn,hn,hs]
     exact ⟨ou,rfl,rfl⟩
    have z8:∀ k:Nat,k≤41→k≤100000000:=fun k h=>by omega
    have z9:∀ k:Nat,k≤41→k≤1000000000:=fun k h=>by omega
    have zA8:=z8 _ zA
    have zA9:=z9 _ zA
    have zR8:=z8 _ zR
    have zR9:=z9 _ zR
    have zV8:=z8 _ zV
    have zV9:=z9 _ zV
    have zW9:=z9 _ zW
    apply vwp_cut
    ·apply vwp_cut
     ·refine (show stepsX _ _ _ _ _ from ?_)
      apply stepsX_spl 9 rfl rfl
      ·simp (config := { maxSteps := 3000000 })
       exact ⟨rfl,rfl⟩
      apply stepsX_spl 7 rfl rfl
      ·simp (config := { maxSteps := 3000000 }) [fl,zA8,zA9]
       exact ⟨rfl,rfl⟩
      apply stepsX_spl 7 rfl rfl
      ·simp (config := { maxSteps := 3000000 }) [fl,zR8,zR9]
       exact ⟨rfl,rfl⟩
      apply stepsX_spl 10 rfl rfl
      ·simp (config := { maxSteps := 3000000 }) [fl,zV8,zV9,hl6,hn,hs,← hV]
       exact ⟨ou,rfl,rfl⟩
      simp (config := { maxSteps := 3000000 }) [fn,hl6,zW9,← hW]
      exact ⟨rfl,rfl⟩
     simp (config := { maxSteps := 3000000 })
     exact ⟨rfl,rfl⟩
    have z6:∀ k:Nat,k≤41→k≤1000000:=fun k h=>by omega
    have zA6:=z6 _ zA
    have zR6:=z6 _ zR
    have zV6:=z6 _ zV
    apply vwp_cut
    ·simp (config := { maxSteps := 3000000 }) [zA6]
     exact ⟨rfl,rfl⟩
    apply vwp_cut
    ·simp (config := { maxSteps := 3000000 }) [zR6]
     exact ⟨rfl,rfl⟩
    apply vwp_cut
    ·simp (config := { maxSteps := 3000000 }) [zV6]
     exact ⟨rfl,rfl⟩
    apply vwp_cut
    ·simp (config := { maxSteps := 3000000 })
     exact ⟨rfl,rfl⟩
    rw [vwp_block]
    refine vwp_loop (fun q:Nat × List Int=>q.1≤W.length∧q.2.length = W.length) (fun q=>⟨[(3,.pv (.int .u64 now)),(4,.pv (.int .u64 s)),(5,.ptr 5 0),(6,.ptr 6 0),(7,.ptr 7 0),(11,.own 37),(13,.own 48),(14,.pv (.int .i64 A.2)),(15,.own 55),(16,.pv (.int .i64 R.2)),(17,.pv (.int .i64 (t:Int))),(23,.own 80),(24,.pv (.int .i64 (q.1:Int)))],
     [(80,.arr 81 (rowsN q.2)),(55,.arr 86 (rowsP R.1)),(48,.arr 86 (rowsP A.1)),(37,.arr 86 (rowsP l)),(7,.box [.pv (.int .u64 x),.pv (.int .u64 y),.pv (.int .u64 z)]),(6,.box [.pv (.ro (rowsP m))]),(5,.box [.pv (.ro (rowsP l))])]⟩) (fun q=>W.length - q.1) [] (0,W) ⟨by simp,rfl⟩ ?_ ?_
    ·simp
    ·rintro ⟨i,b⟩ ⟨hi,hb⟩
     have hi:i≤W.length:=hi
     have hb:b.length = W.length:=hb
     have w3:IntKind.i64.wrap ((i:Int) + 1) = (i:Int) + 1:=wrap_i64 (by omega)
     by_cases hil:i < W.length
     ·have r1:=rowsN_at (l:=b) (i:=i) (by omega)
      simp (config := { maxSteps := 3000000 }) [w3,hil,hb,r1,rowsN_set]
      exact ⟨i + 1,b.set i 99,⟨by omega,by rw [List.length_set];exact hb⟩,⟨by omega,rfl⟩,by omega⟩
     ·have hiw:i = W.length:=by omega
      subst hiw
      simp (config := { maxSteps := 3000000 }) [w2,hb]
      exact ⟨t + 1,by omega,by omega,by omega⟩
   ·have ht2:t = 2:=by omega
    subst ht2
    simp (config := { maxSteps := 3000000 })
    exact ⟨rfl,rfl⟩
 apply vwp_cut
 ·refine (show steps _ _ _ _ _ from ?_)
  apply steps_spl 6 rfl rfl
  ·simp (config := { maxSteps := 3000000 }) [fl,hl9]
   exact ⟨rfl,rfl⟩
  apply steps_spl 11 rfl rfl
  ·simp (config := { maxSteps := 3000000 }) [fl,hl9]
   exact ⟨rfl,rfl⟩
  apply steps_spl 10 rfl rfl
  ·simp (config := { maxSteps := 3000000 }) [fl,hl9,hm8]
   exact ⟨rfl,rfl⟩
  apply steps_spl 5 rfl rfl
  ·simp (config := { maxSteps := 3000000 }) [fl,hl9]
   exact ⟨rfl,rfl⟩
  apply steps_spl 6 rfl rfl
  ·simp (config := { maxSteps := 3000000 }) [fl,hl9,hl8]
   exact ⟨rfl,rfl⟩
  simp (config := { maxSteps := 3000000 })
  exact ⟨rfl,rfl⟩
 simp (config := { maxSteps := 3000000 })
theorem takePG_len (b:List UInt8):∀ (k:Nat) (n p:Int),(takePG b k n p).1.length≤k
 | 0,n,p=>by simp [takePG]
 | k + 1,n,p=>by
  unfold takePG
  split
  ·simp
  ·split
   ·simp
   ·split
    ·simp
    ·have:=takePG_len b k (n - 1) (takeAG b 3 p).2.1
     simp only [List.length_cons]
     omega
theorem takeP_len (b:List UInt8) (p:Int):(takeP b p).1.length≤b.length + 1:=by
 unfold takeP
 split
 ·simp
 ·split
  ·simp
  ·split
   ·simp
   ·exact takePG_len b _ _ _
theorem c_pinsWrite (l:List Pn) (b:List UInt8) (p:Int) (hok:∀ e∈l,okP' e) (hp1 : -9223372036854775808≤p) (hp2:p≤9223372036854775807) :
  Con Try.prog 63 [] [.agg [.pv (.ro (rowsP l))],.pv (.ro (bytesRow b)),.pv (.int .i64 p)] [] (.pv (.bool true)):=by
 refine con_of (tab_cons c_works (tab_cons c_pTk (tab_cons c_rTk (tab_cons c_pPut (tab_cons c_pref (tab_cons c_rPut (tab_cons c_sameB (tab_cons c_rSame tab_nil)))))))) (by kernel_rfl) fn63 (by simp) ?_
 unfold body63
 by_cases hl:(40:Int) < l.length
 ·simp (config := { maxSteps := 3000000 }) [hl]
 ·by_cases hb:(300:Int) < b.length
  ·simp (config := { maxSteps := 3000000 }) [hl,hb]
  ·have hl6:l.length≤1000000:=by omega
   have hl8:l.length≤100000000:=by omega
   have hb8:b.length≤100000000:=by omega
   have hb9:b.length≤1000000000:=by omega
   have hpl:(putPs l).length≤1000000000:=by
    have h1:=pinsB_len hok
    have h2:(vputP (l.length:Int)).length≤10:=vputP_len ⟨by omega,by omega⟩
    unfold putPs
    rw [List.length_append]
    omega
   have ht:=takeP_len b p
   have ht8:(takeP b p).1.length≤100000000:=by omega
   have ht9:(takeP b p).1.length≤1000000000:=by omega
   simp (config := { maxSteps := 3000000 }) [hl,hb,hl6,hl8,hb8,hb9,hpl,ht8,ht9,hp1,hp2,maxLen_eq]
   refine ⟨⟨by omega,by omega,bytesRow_one b⟩,?_⟩
   and_intros
   all_goals first | exact flat_rowsP _ | exact flat_bytes _ | exact hok | exact ht8 | exact ht9
theorem pow7 (i:Nat):2 ^ (7 * (i + 1)) = 128 * 2 ^ (7 * i):=by rw [Nat.mul_add,Nat.pow_add];omega
theorem takeG_vput (rest:List UInt8):∀ (N n i acc:Nat),n≤N→n * 2 ^ (7 * i) < 2 ^ 64→i≤9→(0 < n∨i = 0)→takeG (vput n ++ rest) i acc = (acc + n * 2 ^ (7 * i),i + (vput n).length,0):=by
 intro N
 induction N with
 | zero=>
  intro n i acc hN h1 h2 h3
  have:n = 0:=by omega
  subst this
  have:i = 0:=by omega
  subst this
  rw [vput_small (by omega)]
  simp [takeG]
 | succ N ih=>
  intro n i acc hN h1 h2 h3
  by_cases hs:n < 128
  ·rw [vput_small hs]
   have hc:n.toUInt8.toNat = n:=by simp;omega
   simp only [List.singleton_append,takeG,hc]
   have hno:¬ ((i = 9∧1 < n)∨(n = 0∧0 < i)):=by
    rintro (⟨rfl,h⟩ | ⟨h,h'⟩)
    ·omega
    ·omega
   rw [if_neg hno,if_pos hs,Nat.mod_eq_of_lt hs]
   rfl
  ·rw [vput_big hs]
   have hc:(n % 128 + 128).toUInt8.toNat = n % 128 + 128:=by simp;omega
   simp only [List.cons_append,takeG,hc]
   have hi9:¬ i = 9:=by rintro rfl;omega
   have hno:¬ ((i = 9∧1 < n % 128 + 128)∨(n % 128 + 128 = 0∧0 < i)):=by
    rintro (⟨h,_⟩ | ⟨h,_⟩)
    ·exact hi9 h
    ·omega
   have hp:=pow7 i
   have hd:n = n % 128 + 128 * (n / 128):=by omega
   have hm:n * 2 ^ (7 * i) = n % 128 * 2 ^ (7 * i) + n / 128 * 2 ^ (7 * (i + 1)):=by
    rw [hp]
    calc n * 2 ^ (7 * i) = (n % 128 + 128 * (n / 128)) * 2 ^ (7 * i):=by rw [← hd]
     _ = n % 128 * 2 ^ (7 * i) + n / 128 * (128 * 2 ^ (7 * i)):=by rw [Nat.add_mul,Nat.mul_comm 128 (n / 128),Nat.mul_assoc]
   rw [if_neg hno,if_neg (by omega),show (n % 128 + 128) % 128 = n % 128 from by omega]
   rw [ih (n / 128) (i + 1) _ (by omega) (by omega) (by omega) (.inl (by omega))]
   simp only [List.length_cons,Prod.mk.injEq,and_true]
   omega
theorem take_vput (n:Nat) (rest:List UInt8) (h:n < 2 ^ 64):takeG (vput n ++ rest) 0 0 = (n,(vput n).length,0):=by
 have:=takeG_vput rest n n 0 0 (Nat.le_refl _) (by simpa using h) (by omega) (.inr rfl)
 simpa using this
theorem vput_pos (n:Nat):0 < (vput n).length:=by
 by_cases h:n < 128
 ·rw [vput_small h];simp
 ·rw [vput_big h];simp
theorem drop_len {b r:List UInt8} {p:Nat} (h:b.drop p = r) (hr : 0 < r.length):p < b.length∧b.length = p + r.length:=by
 have:=congrArg List.length h
 simp at this
 omega
theorem takeL_vput {b:List UInt8} {p n:Nat} {r:List UInt8} (h:b.drop p = vput n ++ r) (hn:n < 2 ^ 64):takeL b p = ((n:Int),(p:Int) + ((vput n).length:Int),0):=by
 have hp:=vput_pos n
 have hl:=(drop_len h (by simp;omega)).1
 unfold takeL
 rw [if_neg (by omega),Int.toNat_natCast,h,take_vput n r hn]
theorem takeAG_all {b:List UInt8}:∀ (l:List Int) (p:Nat) (r:List UInt8),b.drop p = allL l ++ r→(∀ n∈l,okN n)→takeAG b l.length (p:Int) = (l,((p + (allL l).length:Nat):Int),0)
 | [],p,r,_,_=>by simp [takeAG,allL]
 | n :: l,p,r,h,hn=>by
  obtain ⟨o1,o2⟩:=hn n (by simp)
  have hc:allL (n :: l) = vputP n ++ allL l:=by simp [allL]
  rw [hc,List.append_assoc] at h
  have hL:=takeL_vput (p:=p) (n:=n.toNat) h (by omega)
  have hd:b.drop (p + (vputP n).length) = allL l ++ r:=by rw [← List.drop_drop,h,List.drop_left]
  have ih:=takeAG_all l _ r hd fun m hm=>hn m (by simp [hm])
  have e1:(p:Int) + ((vput n.toNat).length:Int) = ((p + (vputP n).length:Nat):Int):=by unfold vputP;omega
  have e2:((n.toNat:Nat):Int) = n:=by omega
  rw [e1,e2] at hL
  rw [List.length_cons,takeAG,hL]
  dsimp only
  rw [ih,if_neg (by simp),if_neg (by simp),hc]
  simp only [List.length_append,Prod.mk.injEq,true_and,and_true]
  omega
theorem pinB_pos (e:Pn):0 < (pinB e).length:=by
 have:=vput_pos e.i.toNat
 unfold pinB vputP
 simp only [List.length_append]
 omega
theorem pinsB_pos:∀ l:List Pn,l.length≤(pinsB l).length
 | []=>by simp
 | e :: l=>by
  have h1:=pinB_pos e
  have h2:=pinsB_pos l
  unfold pinsB at h2 ⊢
  simp only [List.flatMap_cons,List.length_append,List.length_cons]
  omega
theorem takePG_all {b:List UInt8}:∀ (l:List Pn) (k p:Nat) (r:List UInt8),l.length≤k→b.drop p = pinsB l ++ r→(∀ e∈l,okP' e)→takePG b k (l.length:Int) (p:Int) = (l,((p + (pinsB l).length:Nat):Int),0)
 | [],k,p,r,_,_,_=>by cases k<;>simp [takePG,pinsB]
 | e :: l,0,p,r,hk,_,_=>absurd hk (by simp)
 | e :: l,k + 1,p,r,hk,h,ho=>by
  have hc:pinsB (e :: l) = pinB e ++ pinsB l:=by simp [pinsB]
  rw [hc,List.append_assoc] at h
  obtain ⟨o1,o2,o3⟩:=ho e (by simp)
  have hA:=takeAG_all [e.i,e.v,e.u] p (pinsB l ++ r) (by rw [pinB_all];exact h) (by
   intro n hn
   simp only [List.mem_cons,List.not_mem_nil,or_false] at hn
   rcases hn with rfl | rfl | rfl
   ·exact o1
   ·exact o2
   ·exact o3)
  rw [pinB_all] at hA
  have hA:takeAG b 3 (p:Int) = ([e.i,e.v,e.u],((p + (pinB e).length:Nat):Int),0):=hA
  have hd:b.drop (p + (pinB e).length) = pinsB l ++ r:=by rw [← List.drop_drop,h,List.drop_left]
  have ih:=takePG_all l k _ r (by simpa using hk) hd fun m hm=>ho m (by simp [hm])
  have e1:(((e :: l).length:Nat):Int) - 1 = (l.length:Int):=by simp
  rw [takePG,if_neg (by simp only [List.length_cons];omega),hA,e1]
  dsimp only
  rw [ih,if_neg (by simp),if_neg (by simp),hc]
  simp only [pnOf,List.length_append,Prod.mk.injEq,true_and,and_true]
  omega
theorem takeP_put {b:List UInt8} {p:Nat} {l:List Pn} {r:List UInt8} (h:b.drop p = putPs l ++ r) (ho:∀ e∈l,okP' e) (hl:l.length < 2 ^ 64) (hr:riseP l = true):takeP b (p:Int) = (l,((p + (putPs l).length:Nat):Int),0):=by
 unfold putPs at h
 rw [List.append_assoc] at h
 have hv:vputP (l.length:Int) = vput l.length:=by unfold vputP;rw [Int.toNat_natCast]
 rw [hv] at h
 have hL:=takeL_vput (p:=p) h hl
 have hd:b.drop (p + (vput l.length).length) = pinsB l ++ r:=by rw [← List.drop_drop,h,List.drop_left]
 have hlen:l.length≤b.length + 1:=by
  have h1:=pinsB_pos l
  have h2:=congrArg List.length hd
  simp only [List.length_drop,List.length_append] at h2
  omega
 have hG:=takePG_all l (b.length + 1) _ r hlen hd ho
 have e1:(p:Int) + ((vput l.length).length:Int) = ((p + (vput l.length).length:Nat):Int):=by omega
 rw [e1] at hL
 unfold takeP
 rw [hL]
 dsimp only
 rw [hG,if_neg (by simp),if_neg (by simp),if_neg (by simp [hr])]
 unfold putPs
 rw [hv]
 simp only [List.length_append,Prod.mk.injEq,true_and,and_true]
 omega
theorem riseP_pw (l:List Pn):riseP l = true↔l.Pairwise (fun a b=>a.i < b.i):=by
 rw [riseP_iff,List.pairwise_iff_getElem]
 constructor
 ·intro h i j hi hj hij
  obtain ⟨k,rfl⟩:∃ k,j = i + 1 + k:=⟨j - (i + 1),by omega⟩
  clear hij
  induction k with
  | zero=>exact h i hj
  | succ k ih=>
   have h1:=ih (by omega)
   have h2:=h (i + 1 + k) hj
   exact Int.lt_trans h1 h2
 ·intro h k hk
  exact h k (k + 1) (by omega) hk (by omega)
theorem riseP_live {l:List Pn} (n s:Int) (h:riseP l = true):riseP (liveL l n s) = true:=by
 rw [riseP_pw] at h ⊢
 exact h.filter _
theorem live_live {l:List Pn} {n m s:Int} (h:n≤m):liveL (liveL l n s) m s = liveL l m s:=by
 unfold liveL
 rw [List.filter_filter]
 apply List.filter_congr
 intro e _
 unfold pastP pastB
 by_cases h1:e.u + s < n
 ·have h2:e.u + s < m:=by omega
  simp [h2]
 ·simp [h1]
theorem remL_last {e:Pn}:∀ {l:List Pn},(∀ x∈l,¬ x.i = e.i)→remL e.i (l ++ [e]) = l
 | [],_=>by simp [remL]
 | x :: l,h=>by
  have h1:=h x (by simp)
  have ih:=remL_last (e:=e) (l:=l) fun y hy=>h y (by simp [hy])
  simp only [List.cons_append,remL,if_neg h1,ih]
theorem rem_add {l:List Pn} {e:Pn} (h:riseP (l ++ [e]) = true):remP (l ++ [e]) e.i = (l,0):=by
 rw [riseP_pw] at h
 obtain ⟨_,_,h3⟩:=List.pairwise_append.1 h
 have hn:∀ x∈l,¬ x.i = e.i:=fun x hx hh=>by have:=h3 x hx e (by simp);omega
 unfold remP
 rw [if_pos (by simp [hasI]),remL_last hn]
theorem live_len (l:List Pn) (n s:Int):(liveL l n s).length≤l.length:=List.length_filter_le _ _
theorem putPs_len {l:List Pn} (ho:∀ e∈l,okP' e) (hl:l.length≤40):(putPs l).length≤1300:=by
 have h1:=pinsB_len ho
 have h2:(vputP (l.length:Int)).length≤10:=vputP_len ⟨by omega,by omega⟩
 unfold putPs
 rw [List.length_append]
 omega
theorem c_pinsBack (l:List Pn) (x y z now s more:Int) (b1 b2:List UInt8) (hok:∀ e∈l,okP' e) (hx:okP' ⟨x,y,z⟩) (hn:okN now) (hs:okN s) (hm:okN more) :
  Con Try.prog 61 [] [.agg [.pv (.ro (rowsP l))],.agg [.pv (.int .u64 x),.pv (.int .u64 y),.pv (.int .u64 z)],.pv (.int .u64 now),.pv (.int .u64 s),.pv (.int .u64 more),.pv (.ro (bytesRow b1)),.pv (.ro (bytesRow b2))] [] (.pv (.bool true)):=by
 refine con_of (tab_cons c_works (tab_cons c_pTk (tab_cons c_pPut (tab_cons c_pSame (tab_cons c_Live (tab_cons c_pRight (tab_cons c_pAdd (tab_cons c_pRem (tab_cons c_pOf tab_nil))))))))) (by kernel_rfl) fn61 (by simp) ?_
 unfold body61
 apply vwp_cut
 ·simp (config := { maxSteps := 3000000 })
  exact ⟨rfl,rfl⟩
 by_cases hl:(40:Int) < l.length
 ·rw [vwp_seq]
  apply vwp_cut
  ·refine (show stepsX _ _ _ _ _ from ?_)
   apply stepsX_spl 5 rfl rfl
   ·simp (config := { maxSteps := 3000000 }) [hl]
    exact ⟨rfl,rfl⟩
   apply stepsX_spl 5 rfl rfl
   ·simp (config := { maxSteps := 3000000 })
    exact ⟨rfl,rfl⟩
   apply stepsX_spl 5 rfl rfl
   ·simp (config := { maxSteps := 3000000 })
    exact ⟨rfl,rfl⟩
   simp (config := { maxSteps := 3000000 })
   exact ⟨rfl,rfl⟩
  apply vwp_cT rfl
  simp (config := { maxSteps := 3000000 })
 have hl9:l.length≤1000000000:=by omega
 by_cases hb1:(100:Int) < b1.length
 ·rw [vwp_seq]
  apply vwp_cut
  ·refine (show stepsX _ _ _ _ _ from ?_)
   apply stepsX_spl 5 rfl rfl
   ·simp (config := { maxSteps := 3000000 }) [hl]
    exact ⟨rfl,rfl⟩
   apply stepsX_spl 5 rfl rfl
   ·simp (config := { maxSteps := 3000000 }) [hb1]
    exact ⟨rfl,rfl⟩
   apply stepsX_spl 5 rfl rfl
   ·simp (config := { maxSteps := 3000000 })
    exact ⟨rfl,rfl⟩
   simp (config := { maxSteps := 3000000 })
   exact ⟨rfl,rfl⟩
  apply vwp_cT rfl
  simp (config := { maxSteps := 3000000 })
 by_cases hb2:(100:Int) < b2.length
 ·rw [vwp_seq]
  apply vwp_cut
  ·refine (show stepsX _ _ _ _ _ from ?_)
   apply stepsX_spl 5 rfl rfl
   ·simp (config := { maxSteps := 3000000 }) [hl]
    exact ⟨rfl,rfl⟩
   apply stepsX_spl 5 rfl rfl
   ·simp (config := { maxSteps := 3000000 }) [hb1]
    exact ⟨rfl,rfl⟩
   apply stepsX_spl 5 rfl rfl
   ·simp (config := { maxSteps := 3000000 }) [hb2]
    exact ⟨rfl,rfl⟩
   simp (config := { maxSteps := 3000000 })
   exact ⟨rfl,rfl⟩
  apply vwp_cT rfl
  simp (config := { maxSteps := 3000000 })
 by_cases hr:riseP l = true
 rotate_left
 ·have hr':riseP l = false:=by simpa using hr
  rw [vwp_seq]
  apply vwp_cut
  ·refine (show stepsX _ _ _ _ _ from ?_)
   apply stepsX_spl 5 rfl rfl
   ·simp (config := { maxSteps := 3000000 }) [hl]
    exact ⟨rfl,rfl⟩
   apply stepsX_spl 5 rfl rfl
   ·simp (config := { maxSteps := 3000000 }) [hb1]
    exact ⟨rfl,rfl⟩
   apply stepsX_spl 5 rfl rfl
   ·simp (config := { maxSteps := 3000000 }) [hb2]
    exact ⟨rfl,rfl⟩
   simp (config := { maxSteps := 3000000 }) [hr',hl9]
   exact ⟨rfl,rfl⟩
  apply vwp_cT rfl
  simp (config := { maxSteps := 3000000 })
 apply vwp_cut
 ·apply vwp_cut
  ·refine (show stepsX _ _ _ _ _ from ?_)
   apply stepsX_spl 5 rfl rfl
   ·simp (config := { maxSteps := 3000000 }) [hl]
    exact ⟨rfl,rfl⟩
   apply stepsX_spl 5 rfl rfl
   ·simp (config := { maxSteps := 3000000 }) [hb1]
    exact ⟨rfl,rfl⟩
   apply stepsX_spl 5 rfl rfl
   ·simp (config := { maxSteps := 3000000 }) [hb2]
    exact ⟨rfl,rfl⟩
   simp (config := { maxSteps := 3000000 }) [hr,hl9]
   exact ⟨rfl,rfl⟩
  simp (config := { maxSteps := 3000000 })
  exact ⟨rfl,rfl⟩
 have hl6:l.length≤1000000:=by omega
 have hpl:=putPs_len hok (by omega)
 have fl:∀ l,flatRows (rowsP l):=flat_rowsP
 have fb:∀ l,flatRows (bytesRow l):=flat_bytes
 have ou:∀ e∈l,okN e.u:=fun e he=>(hok e he).2.2
 have ouL:∀ e∈liveL l now s,okN e.u:=fun e he=>ou e (List.mem_filter.1 he).1
 obtain ⟨n1,n2⟩:=hn
 obtain ⟨m1,m2⟩:=hm
 have w1:IntKind.u64.wrap (18446744073709551615 - now) = 18446744073709551615 - now:=wrap_u64 (by omega)
 have w2:IntKind.u64.wrap (now + min more (18446744073709551615 - now)) = now + min more (18446744073709551615 - now):=wrap_u64 (by omega)
 have on:okN now:=⟨n1,n2⟩
 have on2:okN (now + min more (18446744073709551615 - now)):=⟨by omega,by omega⟩
 have hle:now≤now + min more (18446744073709551615 - now):=by omega
 have L0:=live_len l now s
 have L6:(liveL l now s).length≤1000000:=by omega
 have L9:(liveL l now s).length≤1000000000:=by omega
 have L1:riseP (liveL l now s) = true:=riseP_live now s hr
 have L2:liveL (liveL l now s) now s = liveL l now s:=live_live (Int.le_refl now)
 have L3:liveL (liveL l now s) (now + min more (18446744073709551615 - now)) s = liveL l (now + min more (18446744073709551615 - now)) s:=live_live hle
 have L4:=live_len l (now + min more (18446744073709551615 - now)) s
 have L5:(liveL l (now + min more (18446744073709551615 - now)) s).length≤1000000000:=by omega
 have hT:takeP (b1 ++ (putPs l ++ b2)) (b1.length:Int) = (l,((b1.length + (putPs l).length:Nat):Int),0):=takeP_put (r:=b2) List.drop_left hok (by omega) hr
 have hbl:(b1 ++ (putPs l ++ b2)).length≤100000000:=by simp only [List.length_append];omega
 have hB:bytesRow b1 ++ (bytesRow (putPs l) ++ bytesRow b2) = bytesRow (b1 ++ (putPs l ++ b2)):=by rw [bytesRow_append,bytesRow_append]
 have one:=fun l=>bytesRow_one l
 have p1 : -9223372036854775808≤(b1.length:Int):=by omega
 have p2:(b1.length:Int)≤9223372036854775807:=by omega
 have key:∀ (K:St→Prop) (J:Exit→St→Prop),True:=fun _ _=>trivial
 by_cases hr2:riseP (l ++ [⟨x,y,z⟩]) = true
 case' pos=>
  have hadd:addP l ⟨x,y,z⟩ = (l ++ [⟨x,y,z⟩],0):=by unfold addP;rw [if_pos hr2]
  have hrem:remP (l ++ [⟨x,y,z⟩]) x = (l,0):=rem_add hr2
  have hof:ofP (l ++ [⟨x,y,z⟩]) y = true:=by simp [ofP]
  have a5:l.length≤99999:=by omega
  have a9:l.length≤999999999:=by omega
  apply vwp_cut
  ·simp (config := { maxSteps := 3000000 }) [hl6,hadd,fl]
   exact ⟨rfl,rfl⟩
  apply vwp_cut
  ·apply vwp_cut
   ·simp (config := { maxSteps := 3000000 })
    exact ⟨rfl,rfl⟩
   apply vwp_cT rfl
   apply vwp_cut
   ·simp (config := { maxSteps := 3000000 }) [hrem,a5,fl]
    exact ⟨rfl,rfl⟩
   apply vwp_cut
   ·refine (show stepsX _ _ _ _ _ from ?_)
    apply stepsX_spl 9 rfl rfl
    ·simp (config := { maxSteps := 3000000 }) [hl9]
     exact ⟨rfl,rfl⟩
    apply stepsX_spl 5 rfl rfl
    ·simp (config := { maxSteps := 3000000 }) [hr2,a9]
     exact ⟨rfl,rfl⟩
    simp (config := { maxSteps := 3000000 }) [hof,a9]
    exact ⟨rfl,rfl⟩
   simp (config := { maxSteps := 3000000 })
   exact ⟨rfl,rfl⟩
 case' neg=>
  have hr3:riseP (l ++ [⟨x,y,z⟩]) = false:=by simpa using hr2
  have hadd:addP l ⟨x,y,z⟩ = ([],2):=by unfold addP;rw [if_neg hr2]
  have fl0:flatRows []:=flat_rowsP []
  apply vwp_cut
  ·simp (config := { maxSteps := 3000000 }) [hl6,hadd,fl0]
   exact ⟨rfl,rfl⟩
  apply vwp_cut
  ·simp (config := { maxSteps := 3000000 })
   exact ⟨rfl,rfl⟩
 all_goals
  apply vwp_cut
  ·simp (config := { maxSteps := 3000000 }) [hl6,on,hs,fl]
   exact ⟨ou,rfl,rfl⟩
  apply vwp_cut
  ·simp (config := { maxSteps := 3000000 }) [hl6,w1,w2,on2,hs,fl]
   exact ⟨ou,rfl,rfl⟩
  apply vwp_cut
  ·apply vwp_cut
   ·refine (show steps _ _ _ _ _ from ?_)
    apply steps_spl 4 rfl rfl
    ·simp (config := { maxSteps := 3000000 }) [L9,L1,fl]
     exact ⟨rfl,rfl⟩
    apply steps_spl 9 rfl rfl
    ·simp (config := { maxSteps := 3000000 }) [L6,L9,L2,on,hs,fl]
     exact ⟨ouL,rfl,rfl⟩
    simp (config := { maxSteps := 3000000 }) [L6,L5,L3,w1,w2,on2,hs,fl]
    exact ⟨ouL,rfl,rfl⟩
   simp (config := { maxSteps := 3000000 })
   exact ⟨rfl,rfl⟩
  apply vwp_cut
  ·simp (config := { maxSteps := 3000000 })
   exact ⟨rfl,rfl⟩
  apply vwp_cut
  ·simp (config := { maxSteps := 3000000 }) [maxLen_eq]
   exact ⟨⟨by omega,by omega,one _⟩,rfl,rfl⟩
  apply vwp_cut
  ·simp (config := { maxSteps := 3000000 }) [maxLen_eq,hl6]
   exact ⟨hok,⟨by omega,by omega,one _⟩,rfl,rfl⟩
  apply vwp_cut
  ·simp (config := { maxSteps := 3000000 })
   exact ⟨rfl,rfl⟩
  apply vwp_cut
  ·simp (config := { maxSteps := 3000000 }) [maxLen_eq]
   exact ⟨⟨by omega,by omega,one _⟩,rfl,rfl⟩
  apply vwp_cut
  ·simp (config := { maxSteps := 3000000 }) [hT,hbl,hB,p1,p2,fb,fl]
   exact ⟨by omega,rfl,rfl⟩
  apply vwp_cut
  ·refine (show stepsX _ _ _ _ _ from ?_)
   apply stepsX_spl 8 rfl rfl
   ·simp (config := { maxSteps := 3000000 })
    exact ⟨rfl,rfl⟩
   apply stepsX_spl 5 rfl rfl
   ·simp (config := { maxSteps := 3000000 }) [hl9]
    exact ⟨rfl,rfl⟩
   simp (config := { maxSteps := 3000000 })
   exact ⟨rfl,rfl⟩
  simp (config := { maxSteps := 3000000 })
end Go.Proofs.Ythblkhafehanfaa.Ab
namespace Go.Proofs.Ythblkhafehanfaa.Ab
open Go Go.RowKit
abbrev keep10:List Nat:=[0,1,2,3,4,5,6,7,8,16,22,29,42,46,76,83,98]
def body10:AC:=
 .seq (.reg [.a 0 .mov [.const (.bool false)]] false keep10)
 (.seq (.reg [.a 9 (.bld [(.int .u64 0),(.int .u64 0),(.int .u64 0)] [(0,1),(1,1),(2,1)]) [.const (.int .u64 1),.const (.int .u64 5),.const (.int .u64 9)],.a 10 (.bld [(.int .u64 0),(.int .u64 0),(.int .u64 0)] [(0,1),(1,1),(2,1)]) [.const (.int .u64 2),.const (.int .u64 3),.const (.int .u64 18446744073709551615)],.a 11 (.bld [(.int .u64 0),(.int .u64 0),(.int .u64 0)] [(0,1),(1,1),(2,1)]) [.const (.int .u64 2),.const (.int .u64 5),.const (.int .u64 0)],.a 12 (.bld [(.int .u64 0),(.int .u64 0),(.int .u64 0)] [(0,1),(1,1),(2,1)]) [.const (.int .u64 300),.const (.int .u64 1),.const (.int .u64 10)],.a 13 (.bld [(.int .u64 0),(.int .u64 0),(.int .u64 0)] [(0,1),(1,1),(2,1)]) [.const (.int .u64 18446744073709551615),.const (.int .u64 0),.const (.int .u64 3)],.a 14 (.bsl 83 3) [.tmp 9,.tmp 10,.tmp 11,.tmp 12,.tmp 13],.m 1 14] false keep10)
 (.seq (.seq (.reg [.a 2 .mov [ci 0]] false keep10)
 (.block 0 (.loop (.seq (.seq (.reg [.m 15 2,.c 16 (.bin .lss) 15 32] false keep10)
 (.cond (.tmp 16) (.skip) (.exit 0)))
 (.seq (.block 1 (.seq (.reg [.a 3 (.alloc [(.slice none 0 0)]) []] false keep10)
 (.seq (.seq (.reg [.a 4 .mov [ci 0]] false keep10)
 (.block 2 (.loop (.seq (.seq (.reg [.m 19 4,.m 20 1,.u 21 .len 20,.w 22 (.bin .lss) 19 21] false keep10)
 (.cond (.tmp 22) (.skip) (.exit 2)))
 (.seq (.block 3 (.seq (.reg [.m 25 2,.m 26 4,.w 27 (.bin .shr) 25 26,.c 28 (.bin .and) 27 1,.c 29 (.bin .eql) 28 1] false keep10)
 (.cond (.tmp 29) (.reg [⟨some 30,(.fad 0),[.tmp 3],none,[36],none⟩,⟨some 31,(.load none),[.tmp 30],none,[36],none⟩,.m 32 1,.m 33 4,.w 34 (.ixa 83 3) 32 33,.u 35 (.load (some 3)) 34,.u 36 (.bsl 83 3) 35,.w 37 (.app 83 3 24) 31 36,.u 38 (.fad 0) 3,.s (.store none) [.tmp 38,.tmp 37]] true keep10) (.skip))))
 (.reg [.m 23 4,.c 24 (.bin .add) 23 1,.m 4 24] false keep10))))))
 (.seq (.seq (.reg [.a 5 .mov [ci 0]] false keep10)
 (.block 4 (.loop (.seq (.seq (.reg [.m 39 5,.m 40 1,.u 41 .len 40,.w 42 (.bin .lss) 39 41] false keep10)
 (.cond (.tmp 42) (.skip) (.exit 4)))
 (.seq (.block 5 (.seq (.reg [.a 6 .mov [.const (.int .u64 0)]] false keep10)
 (.block 6 (.loop (.seq (.seq (.reg [.m 45 6,.a 46 (.bin .lss) [.tmp 45,.const (.int .u64 14)]] false keep10)
 (.cond (.tmp 46) (.skip) (.exit 6)))
 (.seq (.block 7 (.seq (.reg [.u 49 (.load (some 1)) 3,.m 50 1,.m 51 5,.w 52 (.slc 3 false true) 50 51,.a 53 (.bld [(.slice none 0 0)] [(0,1)]) [.tmp 52],.m 54 1,.m 55 5,.w 56 (.ixa 83 3) 54 55,.u 57 (.load (some 3)) 56,.m 58 6,.m 59 5,.u 60 (.cvi .u64) 59,⟨some 61,(.call 9),[.tmp 49,.tmp 53,.tmp 57,.tmp 58,.tmp 60],none,[],(some 999999)⟩,.u 62 .not 61,.m 63 62,⟨some 64,(.load (some 1)),[.tmp 3],some (63,false),[72,73],none⟩,.mg 65 1 63 false,.mg 66 5 63 false,⟨some 67,(.ixa 83 3),[.tmp 65,.tmp 66],some (63,false),[72,73],none⟩,⟨some 68,(.load (some 3)),[.tmp 67],some (63,false),[72,73],none⟩,.mg 69 6 63 false,.mg 70 5 63 false,.bu 71 (.cvi .u64) 70 63 false,⟨some 72,(.bsl 5 1),[.const (.int .u8 1)],some (63,false),[73],none⟩,⟨some 73,(.bsl 5 1),[.const (.int .u8 2),.const (.int .u8 3)],some (63,false),[72],none⟩,.b 74 (.call 61) [.tmp 64,.tmp 68,.tmp 69,.tmp 71,.const (.int .u64 3),.tmp 72,.tmp 73] 63 false,.bu 75 .not 74 63 false,.po 76 63 75] true keep10)
 (.cond (.tmp 76) (.seq (.reg [.a 0 .mov [.const (.bool false)]] false keep10)
 (.ret)) (.skip))))
 (.reg [.m 47 6,.a 48 (.bin .add) [.tmp 47,.const (.int .u64 3)],.m 6 48] false keep10)))))))
 (.reg [.m 43 5,.c 44 (.bin .add) 43 1,.m 5 44] false keep10))))))
 (.seq (.reg [.u 77 (.load (some 1)) 3,.u 78 (.call 44) 77,.u 79 (.call 62) 78,.m 7 79] false keep10)
 (.seq (.reg [.a 8 .mov [ci 0]] false keep10)
 (.block 8 (.loop (.seq (.seq (.reg [.m 80 8,.m 81 7,.u 82 .len 81,.w 83 (.bin .leq) 80 82] false keep10)
 (.cond (.tmp 83) (.skip) (.exit 8)))
 (.seq (.block 9 (.seq (.reg [.u 86 (.load (some 1)) 3,.m 87 7,.m 88 8,.w 89 (.slc 1 false true) 87 88,⟨some 90,(.call 63),[.tmp 86,.tmp 89,ci 0],none,[],(some 999999)⟩,.u 91 .not 90,.m 92 91,.bu 93 (.load (some 1)) 3 92 false,.mg 94 7 92 false,.mg 95 8 92 false,.b 96 (.call 63) [.tmp 93,.tmp 94,.tmp 95] 92 false,.bu 97 .not 96 92 false,.po 98 92 97] true keep10)
 (.cond (.tmp 98) (.seq (.reg [.a 0 .mov [.const (.bool false)]] false keep10)
 (.ret)) (.skip))))
 (.reg [.m 84 8,.c 85 (.bin .add) 84 1,.m 8 85] false keep10)))))))))))
 (.reg [.m 17 2,.c 18 (.bin .add) 17 1,.m 2 18] false keep10))))))
 (.seq (.reg [.a 99 (.bld [(.slice none 0 0)] []) [],.a 100 (.bsl 5 1) [.const (.int .u8 255),.const (.int .u8 255),.const (.int .u8 255),.const (.int .u8 255),.const (.int .u8 255),.const (.int .u8 255),.const (.int .u8 255),.const (.int .u8 255),.const (.int .u8 255),.const (.int .u8 1)],.a 101 (.call 63) [.tmp 99,.tmp 100,ci 0],.m 102 101,.b 103 (.bld [(.slice none 0 0)] []) [] 102 true,.b 104 (.bsl 5 1) [.const (.int .u8 2),.const (.int .u8 1),.const (.int .u8 1),.const (.int .u8 1),.const (.int .u8 1),.const (.int .u8 1),.const (.int .u8 1)] 102 true,.b 105 (.call 63) [.tmp 103,.tmp 104,.const (.int .i64 (-1))] 102 true,.pa 106 102 105,.m 107 106,.b 108 (.call 43) [] 107 true,.pa 109 107 108,.m 0 109] false keep10)
 (.ret))))
theorem fn10:compFn Try.prog 10 keep10 = some ⟨110,0,[(0,none)],body10⟩:=by kernel_rfl
end Go.Proofs.Ythblkhafehanfaa.Ab
namespace Go.Proofs.Ythblkhafehanfaa.Ab
open Go Go.RowKit R
noncomputable def GTeK:List AV→Option (Prop × AV)
 | [.agg [.pv (.ro a)],.agg [.pv (.ro b)],.agg [.pv (.int .u64 x),.pv (.int .u64 y),.pv (.int .u64 z)],.pv (.int .u64 n),.pv (.int .u64 s)]=>(dec rowP a).bind fun l=>(dec rowP b).map fun m=>((∀ e∈l,okP' e)∧okN n∧okN s,.pv (.bool true))
 | _=>none
@[simp] theorem GTeK_eq (a b:List (List PV)) (x y z n s:Int):GTeK [.agg [.pv (.ro a)],.agg [.pv (.ro b)],.agg [.pv (.int .u64 x),.pv (.int .u64 y),.pv (.int .u64 z)],.pv (.int .u64 n),.pv (.int .u64 s)] = (dec rowP a).bind fun l=>(dec rowP b).map fun m=>((∀ e∈l,okP' e)∧okN n∧okN s,.pv (.bool true)):=rfl
theorem c_TeK:ConT Try.prog 9 GTeK:=by
 intro ys φ r h hφ
 unfold GTeK at h
 split at h
 ·obtain ⟨a,ha,h⟩:=Option.bind_eq_some_iff.1 h
  obtain ⟨b,hb,h⟩:=Option.map_eq_some_iff.1 h
  cases h
  cases dec_rowsP_inv ha
  cases dec_rowsP_inv hb
  exact c_pinsTell _ _ _ _ _ _ _ hφ.1 hφ.2.1 hφ.2.2
 ·cases h
noncomputable def GBaK:List AV→Option (Prop × AV)
 | [.agg [.pv (.ro a)],.agg [.pv (.int .u64 x),.pv (.int .u64 y),.pv (.int .u64 z)],.pv (.int .u64 n),.pv (.int .u64 s),.pv (.int .u64 m),.pv (.ro b),.pv (.ro c)]=>(dec rowP a).bind fun l=>(dec byteR b).bind fun _=>(dec byteR c).map fun _=>((∀ e∈l,okP' e)∧okP' ⟨x,y,z⟩∧okN n∧okN s∧okN m,.pv (.bool true))
 | _=>none
@[simp] theorem GBaK_eq (a b c:List (List PV)) (x y z n s m:Int):GBaK [.agg [.pv (.ro a)],.agg [.pv (.int .u64 x),.pv (.int .u64 y),.pv (.int .u64 z)],.pv (.int .u64 n),.pv (.int .u64 s),.pv (.int .u64 m),.pv (.ro b),.pv (.ro c)] = (dec rowP a).bind fun l=>(dec byteR b).bind fun _=>(dec byteR c).map fun _=>((∀ e∈l,okP' e)∧okP' ⟨x,y,z⟩∧okN n∧okN s∧okN m,.pv (.bool true)):=rfl
theorem c_BaK:ConT Try.prog 61 GBaK:=by
 intro ys φ r h hφ
 unfold GBaK at h
 split at h
 ·obtain ⟨a,ha,h⟩:=Option.bind_eq_some_iff.1 h
  obtain ⟨b,hb,h⟩:=Option.bind_eq_some_iff.1 h
  obtain ⟨c,hc,h⟩:=Option.map_eq_some_iff.1 h
  cases h
  cases dec_rowsP_inv ha
  cases dec_bytes_inv hb
  cases dec_bytes_inv hc
  exact c_pinsBack _ _ _ _ _ _ _ _ _ hφ.1 hφ.2.1 hφ.2.2.1 hφ.2.2.2.1 hφ.2.2.2.2
 ·cases h
noncomputable def GWrK:List AV→Option (Prop × AV)
 | [.agg [.pv (.ro a)],.pv (.ro b),.pv (.int .i64 p)]=>(dec rowP a).bind fun l=>(dec byteR b).map fun _=>((∀ e∈l,okP' e)∧-9223372036854775808≤p∧p≤9223372036854775807,.pv (.bool true))
 | _=>none
@[simp] theorem GWrK_eq (a b:List (List PV)) (p:Int):GWrK [.agg [.pv (.ro a)],.pv (.ro b),.pv (.int .i64 p)] = (dec rowP a).bind fun l=>(dec byteR b).map fun _=>((∀ e∈l,okP' e)∧-9223372036854775808≤p∧p≤9223372036854775807,.pv (.bool true)):=rfl
theorem c_WrK:ConT Try.prog 63 GWrK:=by
 intro ys φ r h hφ
 unfold GWrK at h
 split at h
 ·obtain ⟨a,ha,h⟩:=Option.bind_eq_some_iff.1 h
  obtain ⟨b,hb,h⟩:=Option.map_eq_some_iff.1 h
  cases h
  cases dec_rowsP_inv ha
  cases dec_bytes_inv hb
  exact c_pinsWrite _ _ _ hφ.1 hφ.2.1 hφ.2.2
 ·cases h
def LPk:List Pn:=[⟨1,5,9⟩,⟨2,3,18446744073709551615⟩,⟨2,5,0⟩,⟨300,1,10⟩,⟨18446744073709551615,0,3⟩]
theorem LPk_rows:rowsP LPk = [[.int .u64 1,.int .u64 5,.int .u64 9],[.int .u64 2,.int .u64 3,.int .u64 18446744073709551615],[.int .u64 2,.int .u64 5,.int .u64 0],[.int .u64 300,.int .u64 1,.int .u64 10],[.int .u64 18446744073709551615,.int .u64 0,.int .u64 3]]:=rfl
theorem LPk_len:LPk.length = 5:=rfl
theorem LPk_ok:∀ e∈LPk,okP' e:=by
 unfold LPk okP' okN
 decide
def osK:List Pn→List (Nat × AO)
 | []=>[(3,.box [.pv .nil])]
 | x :: l=>[(3,.box [.own 37]),(37,.arr 83 (rowsP (x :: l)))]
theorem osK_nil:osK [] = [(3,.box [.pv .nil])]:=rfl
theorem osK_cons (x:Pn) (l:List Pn):osK (x :: l) = [(3,.box [.own 37]),(37,.arr 83 (rowsP (x :: l)))]:=rfl
theorem osK_cases (l:List Pn):(osK l = [(3,.box [.pv .nil])]∧l = [])∨osK l = [(3,.box [.own 37]),(37,.arr 83 (rowsP l))]:=by
 cases l with
 | nil=>exact .inl ⟨rfl,rfl⟩
 | cons x l=>exact .inr rfl
theorem take_bytes (l:List UInt8) (i:Nat):(bytesRow l).take i = bytesRow (l.take i):=by simp [bytesRow,List.map_take]
theorem take_rowsP (l:List Pn) (i:Nat):(rowsP l).take i = rowsP (l.take i):=by simp [rowsP,List.map_take]
theorem c_pinsKnown:Con Try.prog 10 [] [] [] (.pv (.bool true)):=by
 refine con_of (tab_cons c_TeK (tab_cons c_BaK (tab_cons c_WrK (tab_cons c_works (tab_cons c_pref (tab_cons c_rPut tab_nil)))))) (by kernel_rfl) fn10 (by simp) ?_
 unfold body10
 have fl:∀ l,flatRows (rowsP l):=flat_rowsP
 have fb:∀ l,flatRows (bytesRow l):=flat_bytes
 apply vwp_cut
 ·simp (config := { maxSteps := 3000000 })
  exact ⟨rfl,rfl⟩
 apply vwp_cut
 ·simp (config := { maxSteps := 3000000 })
  exact ⟨rfl,rfl⟩
 apply vwp_cut
 ·apply vwp_cut
  ·simp (config := { maxSteps := 3000000 })
   exact ⟨rfl,rfl⟩
  rw [vwp_block]
  refine vwp_loop (fun n:Nat=>n≤32) (fun n=>⟨[(1,.own 14),(2,.pv (.int .i64 n))],[(14,.arr 83 (rowsP LPk))]⟩) (fun n=>32 - n) [] 0 (by simp) ?_ ?_
  ·simp [LPk_rows]
  intro n hn
  have wn:IntKind.i64.wrap ((n:Int) + 1) = (n:Int) + 1:=wrap_i64 (by omega)
  by_cases hlt:(n:Int) < 32
  rotate_left
  ·have:n = 32:=by omega
   subst this
   simp (config := { maxSteps := 3000000 })
   exact ⟨rfl,rfl⟩
  simp (config := { maxSteps := 3000000 }) [hlt]
  have hinf:(Try.prog.info? 83).isSome = true:=by kernel_rfl
  refine vwp_loop (fun x:Nat × List Pn=>x.1≤5∧x.2.length≤x.1∧∀ e∈x.2,okP' e) (fun x=>⟨[(1,.own 14),(2,.pv (.int .i64 n)),(3,.ptr 3 0),(4,.pv (.int .i64 (x.1:Int)))],osK x.2 ++ [(14,.arr 83 (rowsP LPk))]⟩) (fun x=>5 - x.1) [] (0,[]) (by simp) ?_ ?_
  ·simp [osK_nil]
  rintro ⟨i,l⟩ ⟨h5,hl,ho⟩
  have h5:i≤5:=h5
  have hl:l.length≤i:=hl
  have ho:∀ e∈l,okP' e:=ho
  have wi:IntKind.i64.wrap ((i:Int) + 1) = (i:Int) + 1:=wrap_i64 (by omega)
  by_cases hi:i < 5
  ·have hiL:i < LPk.length:=hi
   have hi':(i:Int) < 5:=by omega
   have r1:=rowsP_at hiL
   have oi:okP' LPk[i]:=LPk_ok _ (List.getElem_mem hiL)
   obtain ⟨E,hE⟩:∃ E,E = LPk[i]:=⟨_,rfl⟩
   rw [← hE] at r1 oi
   have hoA:∀ e∈l ++ [E],okP' e:=by
    intro e he
    rcases List.mem_append.1 he with he | he
    ·exact ho e he
    ·rw [List.mem_singleton] at he
     subst he;exact oi
   obtain ⟨w,hw⟩:∃ w,sbit .and .i64 ((n:Int).fdiv (2 ^ min i IntKind.i64.bits)) 1 = .int .i64 w:=⟨_,rfl⟩
   cases l with
   | nil=>
    simp (config := { maxSteps := 3000000 }) [osK_nil,LPk_len,hi,hi',r1,wi,hinf,maxLen_eq,hw]
    refine ⟨fun _=>⟨i + 1,[E],⟨by omega,by simp,hoA⟩,?_,by omega⟩,fun _=>⟨i + 1,[],⟨by omega,by simp,by simp⟩,?_,by omega⟩⟩
    ·simp [osK_cons,rowsP,rowP]
    ·simp [osK_nil]
   | cons c l=>
    simp (config := { maxSteps := 3000000 }) [osK_cons,LPk_len,hi,hi',r1,wi,hinf,maxLen_eq,hw]
    simp only [List.length_cons] at hl
    refine ⟨fun _=>⟨⟨by omega,by omega⟩,i + 1,c :: (l ++ [E]),⟨by omega,by simp;omega,hoA⟩,?_,by omega⟩,fun _=>⟨i + 1,c :: l,⟨by omega,by simp;omega,ho⟩,?_,by omega⟩⟩
    ·simp [osK_cons,rowsP,rowP]
    ·simp [osK_cons]
  ·have:i = 5:=by omega
   subst this
   have hpl:=putPs_len ho (by omega)
   have hl6:l.length≤1000000:=by omega
   have hl8:l.length≤100000000:=by omega
   have hd0:dec rowP [] = some []:=dec_rowsP []
   have e0:∀ e∈([]:List Pn),okP' e:=by simp
   have tk:=take_rowsP
   have hb1:dec byteR [[.int .u8 1]] = some [1]:=dec_bytes [1]
   have hb2:dec byteR [[.int .u8 2],[.int .u8 3]] = some [2,3]:=dec_bytes [2,3]
   obtain ⟨Q,hQ⟩:∃ Q,Q = putPs l:=⟨_,rfl⟩
   have hQ3:Q.length≤1300:=by rw [hQ];exact hpl
   rcases osK_cases l with ⟨hos,hl0⟩ | hos
   case' inl=>have hp0:putPs [] = Q:=by rw [hQ,hl0]
   case' inr=>have hp0:putPs l = Q:=hQ.symm
   all_goals
    simp (config := { maxSteps := 3000000 }) [LPk_len,hos]
    refine vwp_loop (fun i:Nat=>i≤5) (fun i=>⟨[(1,.own 14),(2,.pv (.int .i64 n)),(3,.ptr 3 0),(5,.pv (.int .i64 (i:Int)))],osK l ++ [(14,.arr 83 (rowsP LPk))]⟩) (fun i=>5 - i) [] 0 (by simp) ?_ ?_
    ·simp [hos]
    intro i hi5
    have wi:IntKind.i64.wrap ((i:Int) + 1) = (i:Int) + 1:=wrap_i64 (by omega)
    by_cases hi:i < 5
    ·have hiL:i < LPk.length:=hi
     have hi':(i:Int) < 5:=by omega
     have r1:=rowsP_at hiL
     have oi:okP' LPk[i]:=LPk_ok _ (List.getElem_mem hiL)
     obtain ⟨E,hE⟩:∃ E,E = LPk[i]:=⟨_,rfl⟩
     rw [← hE] at r1 oi
     have wu:IntKind.u64.wrap (i:Int) = (i:Int):=wrap_u64 (by omega)
     have oI:okN (i:Int):=⟨by omega,by omega⟩
     have oE:okP' ⟨E.i,E.v,E.u⟩:=oi
     apply vwp_cut
     ·simp (config := { maxSteps := 3000000 }) [hos,LPk_len,hi,hi']
      exact ⟨rfl,rfl⟩
     rw [vwp_seq,vwp_block]
     apply vwp_cut
     ·simp (config := { maxSteps := 3000000 })
      exact ⟨rfl,rfl⟩
     rw [vwp_block]
     refine vwp_loop (fun k:Nat=>k≤5) (fun k=>⟨[(1,.own 14),(2,.pv (.int .i64 n)),(3,.ptr 3 0),(5,.pv (.int .i64 (i:Int))),(6,.pv (.int .u64 (3 * (k:Int))))],osK l ++ [(14,.arr 83 (rowsP LPk))]⟩) (fun k=>5 - k) [] 0 (by simp) ?_ ?_
     ·simp [hos]
     intro k hk5
     have wk:IntKind.u64.wrap (3 * (k:Int) + 3) = 3 * (k:Int) + 3:=wrap_u64 (by omega)
     have oK:okN (3 * (k:Int)):=⟨by omega,by omega⟩
     have o3:okN 3:=⟨by omega,by omega⟩
     by_cases hk:k < 5
     ·have hk' : 3 * (k:Int) < 14:=by omega
      apply vwp_cut
      ·simp (config := { maxSteps := 3000000 }) [hos,hk']
       exact ⟨rfl,rfl⟩
      rw [vwp_seq,vwp_block]
      apply vwp_cut
      ·refine (show steps _ _ _ _ _ from ?_)
       apply steps_spl 15 rfl rfl
       ·simp (config := { maxSteps := 3000000 }) [hos,LPk_len,hi,hi',r1,wu,tk,hd0,oK,oI]
        first | exact ⟨⟨by omega,rowsP_three _⟩,rfl,rfl⟩ | exact ⟨⟨by omega,rowsP_three _⟩,ho,rfl,rfl⟩
       simp (config := { maxSteps := 3000000 }) [hos,LPk_len,hi,hi',r1,wu,tk,hd0,oK,oI,oE,o3,hb1,hb2]
       first | exact ⟨rfl,rfl⟩ | exact ⟨ho,rfl,rfl⟩
      simp (config := { maxSteps := 3000000 }) [hos,wk]
      exact ⟨k + 1,by omega,by omega,by omega⟩
     ·have:k = 5:=by omega
      subst this
      simp (config := { maxSteps := 3000000 }) [hos,wi]
      exact ⟨i + 1,by omega,by omega,by omega⟩
    ·have:i = 5:=by omega
     subst this
     simp (config := { maxSteps := 3000000 }) [hos,LPk_len,hl6,hl8,fl,fb,hp0]
     first | refine ⟨ho,?_⟩ | skip
     refine vwp_loop (fun j:Nat=>j≤Q.length + 1) (fun j=>⟨[(1,.own 14),(2,.pv (.int .i64 n)),(3,.ptr 3 0),(7,.own 79),(8,.pv (.int .i64 (j:Int)))],osK l ++ [(79,.arr 5 (bytesRow Q)),(14,.arr 83 (rowsP LPk))]⟩) (fun j=>Q.length + 1 - j) [] 0 (by simp) ?_ ?_
     ·simp [hos]
     intro j hj
     have wj:IntKind.i64.wrap ((j:Int) + 1) = (j:Int) + 1:=wrap_i64 (by omega)
     by_cases hjl:j≤Q.length
     ·have j1 : -9223372036854775808≤(j:Int):=by omega
      have j2:(j:Int)≤9223372036854775807:=by omega
      apply vwp_cut
      ·simp (config := { maxSteps := 3000000 }) [hos,hjl]
       exact ⟨rfl,rfl⟩
      rw [vwp_seq,vwp_block]
      apply vwp_cut
      ·refine (show steps _ _ _ _ _ from ?_)
       apply steps_spl 7 rfl rfl
       ·simp (config := { maxSteps := 3000000 }) [hos,hjl,hd0,take_bytes]
        first | exact ⟨bytesRow_one Q,rfl,rfl⟩ | exact ⟨bytesRow_one Q,ho,rfl,rfl⟩
       simp (config := { maxSteps := 3000000 }) [hos,hjl,hd0,j1,j2]
       first | exact ⟨rfl,rfl⟩ | exact ⟨ho,rfl,rfl⟩
      simp (config := { maxSteps := 3000000 }) [hos,wj]
      exact ⟨j + 1,by omega,by omega,by omega⟩
     ·simp (config := { maxSteps := 3000000 }) [hos,hjl,wn]
      exact ⟨n + 1,by omega,by omega,by omega⟩
 have hd0:dec rowP [] = some []:=dec_rowsP []
 have hc1:dec byteR [[.int .u8 255],[.int .u8 255],[.int .u8 255],[.int .u8 255],[.int .u8 255],[.int .u8 255],[.int .u8 255],[.int .u8 255],[.int .u8 255],[.int .u8 1]] = some [255,255,255,255,255,255,255,255,255,1]:=dec_bytes [255,255,255,255,255,255,255,255,255,1]
 have hc2:dec byteR [[.int .u8 2],[.int .u8 1],[.int .u8 1],[.int .u8 1],[.int .u8 1],[.int .u8 1],[.int .u8 1]] = some [2,1,1,1,1,1,1]:=dec_bytes [2,1,1,1,1,1,1]
 apply vwp_cut
 ·refine (show stepsX _ _ _ _ _ from ?_)
  apply stepsX_spl 4 rfl rfl
  ·simp (config := { maxSteps := 3000000 }) [hd0,hc1]
   exact ⟨rfl,rfl⟩
  apply stepsX_spl 5 rfl rfl
  ·simp (config := { maxSteps := 3000000 }) [hd0,hc2]
   exact ⟨rfl,rfl⟩
  simp (config := { maxSteps := 3000000 })
  exact ⟨rfl,rfl⟩
 simp (config := { maxSteps := 3000000 })
end Go.Proofs.Ythblkhafehanfaa.Ab
namespace Go.Proofs.Ythblkhafehanfaa.Ab
open Go Go.RowKit Go.WideShapes Go.ChangeShapes
def isV (P:Program):Nat→TypeId→List PV→Prop
 | 0,_,_=>False
 | n + 1,t,row=>match P.underlying t with
  | some .bool=>∃ b,row = [.bool b]
  | some (.int k)=>∃ m,row = [.int k m]∧(Lit.int k m).wf = true
  | some .string=>∃ l,row = [.str l]∧l.length≤maxLen
  | some (.slice e)=>∃ rows,row = [.ro rows]∧rows.length≤maxLen∧∀ r∈rows,isV P n e r
  | some (.struct fs)=>row.length = P.cellsOf t∧∀ f∈fs.toList,isV P n f.type ((row.drop f.offset).take (P.cellsOf f.type))
  | _=>False
def tiles (P:Program) (T:Nat):Nat→List Field→Bool
 | o,[]=>o == T
 | o,f :: fs=>f.offset == o && tiles P T (o + P.cellsOf f.type) fs
def plainT (P:Program):Nat→TypeId→Bool
 | 0,_=>false
 | n + 1,t=>match P.underlying t with
  | some .bool | some (.int _) | some .string=>true
  | some (.slice e)=>decide (0 < P.cellsOf e) && plainT P n e
  | some (.struct fs)=>tiles P (P.cellsOf t) 0 fs.toList && fs.toList.all fun f=>plainT P n f.type
  | _=>false
section
variable {H:Type} {enc:TypeId × Value→H} {P:Program} {w:World} {base:Nat} {spare:Nat→Bool} {held:Bool}
def CellsR (w:World) (cs:List Value) (row:List PV):Prop:=∀ (i:Nat) (v:Value) (p:PV),cs[i]? = some v→row[i]? = some p→v.oneCell' = true∧RPV (fun b=>b < w.heap.size) w v p
theorem tiles_le {T:Nat}:∀ {fs:List Field} {o:Nat},tiles P T o fs = true→o≤T
 | [],o,h=>by simp only [tiles,beq_iff_eq] at h;omega
 | f :: fs,o,h=>by
  simp only [tiles,Bool.and_eq_true,beq_iff_eq] at h
  have:=tiles_le h.2
  omega
theorem rows_fields {n T:Nat} {cs:List Value} (hT:cs.length = T):∀ (fs:List Field) (o:Nat),tiles P T o fs = true →
  (∀ f∈fs,∃ r:List PV,r.length = ((cs.drop f.offset).take (P.cellsOf f.type)).length∧isV P n f.type r∧CellsR w ((cs.drop f.offset).take (P.cellsOf f.type)) r) →
  ∃ row:List PV,row.length = T - o∧(∀ f∈fs,o≤f.offset∧isV P n f.type ((row.drop (f.offset - o)).take (P.cellsOf f.type)))∧CellsR w (cs.drop o) row
 | [],o,h,_=>by
  simp only [tiles,beq_iff_eq] at h
  exact ⟨[],by simp;omega,fun f hf=>by simp at hf,fun i v p _ hp=>by simp at hp⟩
 | f :: fs,o,h,hf=>by
  simp only [tiles,Bool.and_eq_true,beq_iff_eq] at h
  obtain ⟨h1,h2⟩:=h
  have hle:=tiles_le h2
  obtain ⟨r,hr1,hr2,hr3⟩:=hf f (by simp)
  obtain ⟨row,g1,g2,g3⟩:=rows_fields hT fs _ h2 fun f' hf'=>hf f' (by simp [hf'])
  have hrl:r.length = P.cellsOf f.type:=by rw [hr1,h1];simp;omega
  refine ⟨r ++ row,by simp [hrl,g1];omega,fun f' hf'=>?_,fun i v p hv hp=>?_⟩
  ·rcases List.mem_cons.1 hf' with rfl | hf'
   ·refine ⟨by omega,?_⟩
    rw [h1,Nat.sub_self,List.drop_zero,← hrl,List.take_left']
    exact hr2
    rfl
   ·obtain ⟨k1,k2⟩:=g2 f' hf'
    refine ⟨by omega,?_⟩
    rw [show f'.offset - o = r.length + (f'.offset - (o + P.cellsOf f.type)) from by omega,List.drop_append,List.drop_eq_nil_of_le (by omega),List.nil_append,Nat.add_sub_cancel_left]
    exact k2
  ·by_cases hi:i < r.length
   ·rw [List.getElem?_append_left hi] at hp
    refine hr3 i v p ?_ hp
    rw [h1,List.getElem?_take,if_pos (by omega)]
    exact hv
   ·rw [List.getElem?_append_right (by omega)] at hp
    refine g3 (i - r.length) v p ?_ hp
    rw [List.getElem?_drop] at hv ⊢
    rw [← hv]
    congr 1
    omega
theorem trod_row:∀ (n:Nat) (fuel:Nat) (t:TypeId) (cs:List Value) (x:DataW H × List MemPlace),plainT P n t = true→DataW.trod enc P w base spare held fuel t cs = some x →
  ∃ row:List PV,row.length = cs.length∧isV P n t row∧CellsR w cs row:=by
 intro n
 induction n with
 | zero=>intro fuel t cs x hp;simp [plainT] at hp
 | succ n ih=>
  intro fuel t cs x hp h
  have hone:∀ (v:Value) (p:PV),cs = [v]→v.oneCell' = true→RPV (fun b=>b < w.heap.size) w v p→CellsR w cs [p]:=by
   rintro v p rfl h1 h2 i v' p' hv hp
   cases i with
   | zero=>simp at hv hp;subst hv hp;exact ⟨h1,h2⟩
   | succ i=>simp at hp
  unfold plainT at hp
  split at hp
  ·
   rename_i hu
   cases fuel with
   | zero=>simp [DataW.trod] at h
   | succ fuel=>
    simp only [DataW.trod,hu] at h
    split at h
    all_goals (try (simp_all;done))
    rename_i b hb
    exact ⟨[.bool b],rfl,by unfold isV;rw [hu];exact ⟨b,rfl⟩,hone _ _ rfl rfl (.bool b)⟩
  ·rename_i k hu
   cases fuel with
   | zero=>simp [DataW.trod] at h
   | succ fuel=>
    simp only [DataW.trod,hu] at h
    split at h
    all_goals (try (simp_all;done))
    rename_i _ k3 k2 m hk
    simp only [Option.some.injEq,TypeDesc.int.injEq] at hk
    subst hk
    split at h
    ·rename_i hw
     obtain ⟨rfl,hw⟩:=hw
     exact ⟨[.int k2 m],rfl,by unfold isV;rw [hu];exact ⟨m,rfl,hw⟩,hone _ _ rfl rfl (.int k2 m)⟩
    ·cases h
  ·rename_i hu
   cases fuel with
   | zero=>simp [DataW.trod] at h
   | succ fuel=>
    simp only [DataW.trod,hu] at h
    split at h
    all_goals (try (simp_all;done))
    rename_i s hcs
    split at h
    ·rename_i hs
     refine ⟨[.str s.data.toList],rfl,by unfold isV;rw [hu];exact ⟨_,rfl,by rw [Array.length_toList];exact hs⟩,hone _ _ rfl rfl ?_⟩
     have:RPV (fun b=>b < w.heap.size) w (.string ⟨s.data.toList.toArray⟩) (.str s.data.toList):=.str _
     rwa [Array.toArray_toList] at this
    ·cases h
  ·rename_i e hu
   simp only [Bool.and_eq_true,decide_eq_true_eq] at hp
   obtain ⟨hC,hp⟩:=hp
   rcases Go.Deep.open_slice hu h with ⟨rfl,_⟩ | ⟨a,len,cap,m,n',D,Pl,rfl,hb,hl,hm,hmm,_,hi⟩
   ·exact ⟨[.ro []],rfl,by unfold isV;rw [hu];exact ⟨[],rfl,by simp,fun r hr=>by simp at hr⟩,hone _ _ rfl rfl (.ro0 none 0)⟩
   ·have hlm:len≤m:=by rw [hmm];split<;>omega
    have hrow:∀ i,i < len→∃ (cs':List Value) (row:List PV),w.cells? base (a.add (i * P.cellsOf e)) (P.cellsOf e) = some cs'∧row.length = cs'.length∧isV P n e row∧CellsR w cs' row:=fun i hil=>by
     obtain ⟨cs',hc,ht⟩:=hi i (by omega)
     obtain ⟨row,h1,h2,h3⟩:=ih n' e cs' _ hp ht
     exact ⟨cs',row,hc,h1,h2,h3⟩
    have hrow':∀ i:Nat,∃ (cs':List Value) (row:List PV),i < len→w.cells? base (a.add (i * P.cellsOf e)) (P.cellsOf e) = some cs'∧row.length = cs'.length∧isV P n e row∧CellsR w cs' row:=fun i=>by
     by_cases hil:i < len
     ·obtain ⟨cs',row,h1⟩:=hrow i hil
      exact ⟨cs',row,fun _=>h1⟩
     ·exact ⟨[],[],fun h=>absurd h hil⟩
    let F:Nat→List Value:=fun i=>(hrow' i).choose
    let R:Nat→List PV:=fun i=>(hrow' i).choose_spec.choose
    have hFR:∀ i,i < len→w.cells? base (a.add (i * P.cellsOf e)) (P.cellsOf e) = some (F i)∧(R i).length = (F i).length∧isV P n e (R i)∧CellsR w (F i) (R i):=fun i hil=>(hrow' i).choose_spec.choose_spec hil
    have hRl:∀ i,i < len→(R i).length = P.cellsOf e∧∀ j,j < P.cellsOf e→w.cell? ((a.add (i * P.cellsOf e)).add j) = (F i)[j]?:=fun i hil=>by
     obtain ⟨h1,h2,_⟩:=hFR i hil
     obtain ⟨_,h4,h5⟩:=World.cells?_some h1
     exact ⟨by rw [h2,h4],h5⟩
    have hll:((List.range len).map R).length = len:=by simp
    have hget:∀ (i:Nat) (r:List PV),((List.range len).map R)[i]? = some r→i < len∧r = R i:=fun i r hr=>by
     rw [List.getElem?_map,Option.map_eq_some_iff] at hr
     obtain ⟨k,hk,rfl⟩:=hr
     have hil:i < len:=by have:=(List.getElem?_eq_some_iff.1 hk).1;simpa using this
     rw [List.getElem?_range hil] at hk
     injection hk with hk
     exact ⟨hil,by rw [hk]⟩
    refine ⟨[.ro ((List.range len).map R)],rfl,?_,hone _ _ rfl rfl ?_⟩
    ·unfold isV
     rw [hu]
     refine ⟨_,rfl,by rw [hll];omega,fun r hr=>?_⟩
     obtain ⟨i,hi1,rfl⟩:=List.mem_map.1 hr
     exact (hFR i (by simpa using hi1)).2.2.1
    ·by_cases hz:len = 0
     ·subst hz;exact .ro0 _ _
     ·have hS:a.block < w.heap.size:=by
       have h0:=(hRl 0 (by omega)).2 0 hC
       obtain ⟨h1,h2,h3,_⟩:=hFR 0 (by omega)
       have hlen:(F 0).length = P.cellsOf e:=(World.cells?_some h1).2.1
       rw [List.getElem?_eq_getElem (by omega)] at h0
       rw [add_add'] at h0
       rcases Nat.lt_or_ge a.block w.heap.size with h' | h'
       ·exact h'
       ·exfalso
        have hbk:=add_block a (0 * P.cellsOf e + 0)
        unfold World.cell? at h0
        rw [hbk,Array.getElem?_eq_none h'] at h0
        simp at h0
      have key:=RPV.ro (S:=fun b=>b < w.heap.size) (w:=w) a cap ((List.range len).map R) (P.cellsOf e) (fun i j=>(F i).getD j undef) hS (by rw [hll];exact hl) (fun r hr=>by
        obtain ⟨i,hi1,rfl⟩:=List.mem_map.1 hr
        exact (hRl i (by simpa using hi1)).1) (fun i j hi1 hj=>by
        rw [hll] at hi1
        have h5:=(hRl i hi1).2 j hj
        rw [add_add'] at h5
        rw [h5]
        obtain ⟨h1,h2,h3,_⟩:=hFR i hi1
        have hlen:(F i).length = P.cellsOf e:=(World.cells?_some h1).2.1
        rw [List.getD_eq_getElem?_getD,List.getElem?_eq_getElem (by omega)]
        rfl)
       (fun i j r p hr hp=>by
        obtain ⟨hil,rfl⟩:=hget i r hr
        obtain ⟨h1,h2,h3,h4⟩:=hFR i hil
        have hj:j < (F i).length:=by rw [← h2];exact (List.getElem?_eq_some_iff.1 hp).1
        have hv:(F i)[j]? = some (F i)[j]:=List.getElem?_eq_getElem hj
        rw [List.getD_eq_getElem?_getD,hv]
        exact (h4 j _ p hv hp).1)
       (fun i j r p hr hp=>by
        obtain ⟨hil,rfl⟩:=hget i r hr
        obtain ⟨h1,h2,h3,h4⟩:=hFR i hil
        have hj:j < (F i).length:=by rw [← h2];exact (List.getElem?_eq_some_iff.1 hp).1
        have hv:(F i)[j]? = some (F i)[j]:=List.getElem?_eq_getElem hj
        rw [List.getD_eq_getElem?_getD,hv]
        exact (h4 j _ p hv hp).2)
      rw [hll] at key
      exact key
  ·rename_i fs hu
   simp only [Bool.and_eq_true,List.all_eq_true] at hp
   obtain ⟨ht,hall⟩:=hp
   obtain ⟨ys,n',hn',hy,hlen,hyl,hf⟩:=DataW.trod_struct hu h
   obtain ⟨row,g1,g2,g3⟩:=rows_fields (w:=w) (P:=P) (n:=n) hlen fs.toList 0 ht fun f hfm=>by
    obtain ⟨j,hj⟩:=List.getElem?_of_mem hfm
    have hj':fs[j]? = some f:=by simpa using hj
    have h1:=hf j f hj'
    have hjl:j < ys.length:=by rw [hyl];exact (Array.getElem?_eq_some_iff.1 hj').1
    rw [List.getElem?_eq_getElem hjl] at h1
    exact ih n' f.type _ _ (hall f hfm) h1
   refine ⟨row,by rw [g1];omega,?_,by simpa using g3⟩
   unfold isV
   rw [hu]
   exact ⟨by rw [g1];omega,fun f hfm=>by simpa using (g2 f hfm).2⟩
  ·cases hp
end
def isSt (P:Program) (t:TypeId):Bool:=match P.underlying t with
 | some (.struct _)=>true
 | _=>false
def argV (P:Program) (t:TypeId) (row:List PV):AV:=if isSt P t = true then .agg (row.map .pv) else match row with
 | [p]=>.pv p
 | _=>.junk
def argVs (P:Program):List TypeId→List (List PV)→List AV
 | t :: ts,r :: rs=>argV P t r :: argVs P ts rs
 | _,_=>[]
section
variable {H:Type} {enc:TypeId × Value→H} {P:Program} {w:World}
theorem arg_row {n base b0:Nat} {spare:Nat→Bool} {held:Bool} {r:Reach} {t:TypeId} {v:Value} {d:DataW H} {ps:List MemPlace} (hp:plainT P n t = true) (hv:Value.okWide P w r b0 t v) (h:DataW.Trod enc P w base spare held t v d ps) (β:Nat→Value) (D:Nat→Prop) :
  ∃ row,isV P n t row∧RV P (fun b=>b < w.heap.size) w β D v (argV P t row):=by
 obtain ⟨fuel,h⟩:=h
 obtain ⟨row,h1,h2,h3⟩:=trod_row n fuel t _ _ hp h
 refine ⟨row,h2,?_⟩
 have hone:v.cells = #[v]→isSt P t = false→RV P (fun b=>b < w.heap.size) w β D v (argV P t row):=by
  intro hc hs
  rw [hc] at h1 h3
  match row,h1 with
  | [p],_=>
   simp only [argV,hs]
   exact .pv _ _ (h3 0 v p rfl rfl).2
 cases n with
 | zero=>simp [plainT] at hp
 | succ n=>
  unfold plainT at hp
  split at hp
  ·rename_i hu
   obtain ⟨b,rfl⟩:=okWide_bool hu hv
   exact hone rfl (by simp [isSt,hu])
  ·rename_i k hu
   obtain ⟨m,rfl⟩:=okWide_int hu hv
   exact hone rfl (by simp [isSt,hu])
  ·rename_i hu
   obtain ⟨s,rfl⟩:=okWide_string hu hv
   exact hone rfl (by simp [isSt,hu])
  ·rename_i e hu
   obtain ⟨a,len,cap,rfl⟩:=okWide_slice hu hv
   exact hone rfl (by simp [isSt,hu])
  ·rename_i fs hu
   obtain ⟨cs,rfl,hsz⟩:=okWide_struct hu hv
   have hs:isSt P t = true:=by simp [isSt,hu]
   simp only [argV,hs,if_true]
   have hcs:(Value.agg cs).cells.toList = cs.toList:=rfl
   rw [hcs] at h1 h3
   have:=RV.agg (P:=P) (S:=fun b=>b < w.heap.size) (w:=w) (β:=β) (D:=D) (row.map .pv) cs.toList (by simp [h1]) (fun i c u hc hu=>by
    rw [List.getElem?_map,Option.map_eq_some_iff] at hc
    obtain ⟨p,hp,rfl⟩:=hc
    exact .pv _ _ (h3 i u p hu hp).2)
   rwa [Array.toArray_toList] at this
  ·cases hp
theorem args_rows {n base b0:Nat} {spare:Nat→Bool} {held:Bool} {r:Reach} (β:Nat→Value) (D:Nat→Prop):∀ (ts:List TypeId) (vs:List Value) (ds:List (DataW H)) (ps:List MemPlace),DataW.TrodAll enc P w base spare held ts vs ds ps →
  (∀ t∈ts,plainT P n t = true)→(∀ (j:Nat) (t:TypeId) (v:Value),ts[j]? = some t→vs[j]? = some v→Value.okWide P w r b0 t v) →
  ∃ rows:List (List PV),rows.length = ts.length∧vs.length = ts.length∧ds.length = ts.length∧(∀ (j:Nat) (t:TypeId) (r:List PV),ts[j]? = some t→rows[j]? = some r→isV P n t r)∧(argVs P ts rows).length = ts.length ∧
   ∀ (i:Nat) (v:Value) (y:AV),vs[i]? = some v→(argVs P ts rows)[i]? = some y→RV P (fun b=>b < w.heap.size) w β D v y
 | [],[],[],ps,h,_,_=>⟨[],rfl,rfl,rfl,fun j t r h=>by simp at h,rfl,fun i v y h=>by simp at h⟩
 | t :: ts,v :: vs,d :: ds,ps,h,hp,hv=>by
  obtain ⟨p,q,h1,h2,rfl⟩:=h
  obtain ⟨rows,g1,g2,g3,g4,g5,g6⟩:=args_rows β D ts vs ds q h2 (fun t ht=>hp t (by simp [ht])) (fun j t v h1 h2=>hv (j + 1) t v (by simpa using h1) (by simpa using h2))
  obtain ⟨row,k1,k2⟩:=arg_row (hp t (by simp)) (hv 0 t v rfl rfl) h1 β D
  refine ⟨row :: rows,by simp [g1],by simp [g2],by simp [g3],fun j t' r ht hr=>?_,by simp [argVs,g5],fun i v' y hv' hy=>?_⟩
  ·cases j with
   | zero=>simp at ht hr;subst ht hr;exact k1
   | succ j=>exact g4 j t' r (by simpa using ht) (by simpa using hr)
  ·cases i with
   | zero=>simp [argVs] at hv' hy;subst hv' hy;exact k2
   | succ i=>exact g6 i v' y (by simpa using hv') (by simpa [argVs] using hy)
 | [],[],_ :: _,_,h,_,_=>h.elim
 | [],_ :: _,_,_,h,_,_=>h.elim
 | _ :: _,[],_,_,h,_,_=>h.elim
 | _ :: _,_ :: _,[],_,h,_,_=>h.elim
def LawCon (P:Program) (n:Nat) (f:FuncId) (ts:List TypeId):Prop:=∀ rows:List (List PV),rows.length = ts.length→(∀ (j:Nat) (t:TypeId) (r:List PV),ts[j]? = some t→rows[j]? = some r→isV P n t r)→Con P f [] (argVs P ts rows) [] (.pv (.bool true))
theorem law_calls {n b0:Nat} {r:Reach} {f:FuncId} {ts:List TypeId} {vs:List Value} {ds:List (DataW H)} {ps:List MemPlace} (hcon:LawCon P n f ts) (hA:DataW.TrodAll enc P w 0 (fun _=>true) true ts vs ds ps)
  (hp:∀ t∈ts,plainT P n t = true) (hv:∀ (j:Nat) (t:TypeId) (v:Value),ts[j]? = some t→vs[j]? = some v→Value.okWide P w r b0 t v) :
  Calls P f vs.toArray w fun e w'=>e = .returned (.bool true)∧Below w.heap.size w w':=by
 obtain ⟨rows,g1,g2,g3,g4,g5,g6⟩:=args_rows (fun _=>.nilIface) (fun _=>False) ts vs ds ps hA hp hv
 have hS:∀ b,okS (fun b=>b < w.heap.size) w.heap.size (fun _=>.nilIface) (lookO []) w b↔b < w.heap.size:=by
  intro b
  constructor
  ·exact fun h=>h.2.1
  ·exact fun h=>⟨.inl h,h,fun ⟨t,o,ho,_⟩=>by cases ho⟩
 have hD:dom (lookO []) = fun _=>False:=by
  funext t;apply propext;constructor
  ·rintro ⟨o,ho⟩;cases ho
  ·exact False.elim
 refine (hcon rows g1 g4 w (fun b=>b < w.heap.size) (fun _=>.nilIface) vs (fun b h=>h) (fun t b ⟨o,ho⟩=>by cases ho) ⟨(fun t o ho=>by cases ho),(fun t t' b ⟨o,ho⟩=>by cases ho)⟩ (by rw [g2,g5]) (fun i v y h1 h2=>?_)).mono ?_
 ·rw [hD]
  exact (g6 i v y h1 h2).mono (fun b hb=>⟨(hS b).2 hb,rfl⟩) (fun t ht=>ht.elim)
 ·rintro e w' ⟨v,β',rfl,hf,_,_,hr⟩
  have hvb:v = .bool true:=by
   have hr:RV P _ w' β' _ v (.pv (.bool true)):=hr
   exact hr.bool_inv
  subst hvb
  exact ⟨rfl,hf.os,hf.tape,hf.output,hf.size,fun k hk=>hf.block k hk fun ⟨t,o,ho,_⟩=>by cases ho⟩
theorem trodAll_below (hl:laidOutB P = true) {W W':World} (hb:Below W.heap.size W W'):∀ (ts:List TypeId) (vs:List Value) (ds:List (DataW H)) (ps:List MemPlace),DataW.TrodAll enc P W 0 (fun _=>true) true ts vs ds ps→(∀ t∈ts,P.readableRec t = true∧t < P.types.size) →
  (∀ x∈ps,x.block < W.heap.size)→∀ sp:Nat→Bool,(∀ x∈ps,sp x.block = true)→DataW.TrodAll enc P W' 0 sp true ts vs ds ps
 | [],[],[],ps,h,_,_,_,_=>h
 | t :: ts,v :: vs,d :: ds,ps,h,hr,hlt,sp,hsp=>by
  obtain ⟨p,q,h1,h2,rfl⟩:=h
  obtain ⟨hr1,hr2⟩:=hr t (by simp)
  exact ⟨p,q,WideElems.Trod_stays hl hr1 hr2 h1 (fun x hx=>hb.same (hlt x (by simp [hx]))) (fun x hx=>hsp x (by simp [hx])),
   trodAll_below hl hb ts vs ds q h2 (fun t ht=>hr t (by simp [ht])) (fun x hx=>hlt x (by simp [hx])) sp (fun x hx=>hsp x (by simp [hx])),rfl⟩
 | [],[],_ :: _,_,h,_,_,_,_=>h.elim
 | [],_ :: _,_,_,h,_,_,_,_=>h.elim
 | _ :: _,[],_,_,h,_,_,_,_=>h.elim
 | _ :: _,_ :: _,[],_,h,_,_,_,_=>h.elim
theorem post_of_below {f:Func} {s:ChangeSpec} {apart fresh handsOn again:Bool} {W W':World} {args:Array Value} {v:Value} {ds gs:List (DataW H)} {before pa pv:List MemPlace}
  (hW:DataW.Whole enc P f.params.toList s.vars apart W args.toList ds gs before)
  (hres:∀ (b:Nat) (sp:Nat→Bool) (hd:Bool),DataW.TrodAll enc P W' b sp hd f.resultTypes.toList (v.resultList f.resultTypes.size) (s.fn H (ds ++ gs)).results [])
  (hargs:∀ sp:Nat→Bool,(∀ p∈before,sp p.block = true)→DataW.TrodAll enc P W' 0 sp true f.params.toList args.toList (s.fn H (ds ++ gs)).args pa)
  (hvars:∀ sp:Nat→Bool,(∀ p∈before,sp p.block = true)→DataW.TrodVars enc P W' sp s.vars (s.fn H (ds ++ gs)).vars pv)
  (hps:before = pa ++ pv) (hb:Below W.heap.size W W')
  (hok:∀ (j:Nat) (t:TypeId) (r:Value),f.resultTypes[j]? = some t→(v.resultList f.resultTypes.size)[j]? = some r→Value.okWide P W' .any 0 t r) :
  s.post enc P f apart fresh handsOn again W args v W':=by
 have hlt:∀ p∈before,p.block < W.heap.size:=fun p hp=>hW.lt p hp
 have hold:∀ p∈before,(fun b=>decide (b < W.heap.size)) p.block = true:=fun p hp=>by simpa using hlt p hp
 refine ⟨ds,gs,before,[],pa,pv,hW,hres _ _ _,hargs _ hold,hvars _ hold,World.keptBut_mono (fun p hp=>⟨hp,?_⟩) (hb.frame (·∈before)),fun _=>?_⟩
 ·rw [hps,List.mem_append] at hp
  exact Or.inr hp
 ·obtain ⟨_,_,_,_,_,hz,hn⟩:=hW
  refine ⟨hok,_,_,([] ++ pa) ++ pv,⟨[] ++ pa,pv,trodAll_append (hargs _ (fun _ _=>rfl)) (hres _ _ _),hvars _ (fun _ _=>rfl),rfl,?_,?_⟩,?_⟩
  ·intro b off hp
   have hin:MemPlace.cell b off∈before:=by rw [hps];simpa using hp
   rw [hb.frozen (hlt _ hin)]
   exact hz b off hin
  ·intro ha
   have:=hn ha
   rw [hps] at this
   simpa using this
  ·intro p hp _
   rw [hps]
   simpa using hp
theorem law_post {n:Nat} {f:FuncId} {fn:Func} {s:ChangeSpec} {apart fresh handsOn again:Bool} {W:World} {base:Nat} {args:Array Value} {ds gs:List (DataW H)} {before:List MemPlace} {tb:TypeId} (hl:laidOutB P = true)
  (hcon:LawCon P n f fn.params.toList) (hpl:∀ t∈fn.params.toList,plainT P n t = true∧P.readableRec t = true∧t < P.types.size) (hrt:fn.resultTypes = #[tb]) (htb:P.underlying tb = some .bool) (hsv:s.vars = [])
  (hspec:∀ ds:List (DataW H),ds.length = fn.params.toList.length→s.fn H (ds ++ []) = { results:=[.lit (.bool true)],args:=ds })
  (hval:∀ (j:Nat) t v,fn.params[j]? = some t→args[j]? = some v→Value.okWide P W .any base t v) (hW:DataW.Whole enc P fn.params.toList s.vars apart W args.toList ds gs before) :
  Calls P f args W fun e W'=>∃ v,e = .returned v∧s.post enc P fn apart fresh handsOn again W args v W':=by
 have hW':=hW
 obtain ⟨p,q,hA,hV,hpq,hfz,hnd⟩:=hW'
 rw [hsv] at hV
 obtain ⟨rfl,rfl⟩:gs = []∧q = []:=by
  cases gs with
  | nil=>exact ⟨rfl,hV⟩
  | cons g gs=>exact hV.elim
 have hval':∀ (j:Nat) (t:TypeId) (v:Value),fn.params.toList[j]? = some t→args.toList[j]? = some v→Value.okWide P W .any base t v:=fun j t v h1 h2=>hval j t v (by simpa using h1) (by simpa using h2)
 obtain ⟨rows,_,_,hdl,_⟩:=args_rows (fun _=>.nilIface) (fun _=>False) _ _ _ _ hA (fun t ht=>(hpl t ht).1) hval'
 have hsp:=hspec ds hdl
 have hc:=law_calls hcon hA (fun t ht=>(hpl t ht).1) hval'
 have hargs:args.toList.toArray = args:=by simp
 rw [hargs] at hc
 refine hc.mono ?_
 rintro e W' ⟨rfl,hb⟩
 refine ⟨_,rfl,post_of_below (pa:=p) (pv:=[]) hW ?_ ?_ ?_ hpq hb ?_⟩
 ·intro b sp hd
  rw [hsp,hrt]
  exact trodAll_mk1 ⟨1,by simp [DataW.trod,Value.cells,htb]⟩
 ·intro sp hs
  rw [hsp]
  exact trodAll_below hl hb _ _ _ _ hA (fun t ht=>(hpl t ht).2) (fun x hx=>hW.lt x (by rw [hpq];simpa using hx)) sp (fun x hx=>hs x (by rw [hpq];simpa using hx))
 ·intro sp hs
  rw [hsp,hsv]
  exact rfl
 ·exact ok_one hrt rfl (okWide_bool_mk htb true)
end
end Go.Proofs.Ythblkhafehanfaa.Ab
namespace Go.Proofs.Ythblkhafehanfaa.Ab
open Go Go.RowKit R
theorem Try.own:ownKnob Try.prog.godebug = none:=by kernel_rfl
theorem Try.laidOut:laidOutB Try.prog = true:=by kernel_rfl
end Go.Proofs.Ythblkhafehanfaa.Ab
