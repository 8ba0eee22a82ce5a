/- Chapter 8: a call of both. -/
import Derived.Test.YthblkhafehanfaaR9
namespace Go.Proofs.Ythblkhafehanfaa.Ab
open Go Go.RowKit R
set_option linter.unusedVariables false
set_option linter.unusedSimpArgs false
set_option maxHeartbeats 4000000
set_option maxRecDepth 100000

/-- a call of both: the directories behind it, and whether they answer alike -/
def bothP (p : Pd) (q : Cl) : Pd := if q.d % 6 = 4 then failP p q.k.toNat else doP p q
def bothR (r : Dr) (q : Cl) : Dr := if q.d % 6 = 4 then failR r q.k else doR r q
def bothB (p : Pd) (r : Dr) (q : Cl) : Bool :=
  if q.d % 6 = 0 then decide ((addP p q.n q.k).2 = (addR r q.n q.k).2) else
  if q.d % 6 = 1 then decide ((remP p q.n).2.1 = (remR r q.n).2.1) && decide ((remP p q.n).2.2 = (remR r q.n).2.2) else
  if q.d % 6 = 2 then decide ((getN p.now q.n).getD 0 = (getN r.now q.n).getD 0) && ((getN p.now q.n).isSome == (getN r.now q.n).isSome) else true
noncomputable def GDo : List AV → Option (Prop × AV)
  | [y, .agg [.pv (.ro a), .pv (.ro b)], .agg [.pv (.int .i64 d), .pv (.str n), .pv (.int .i64 k)]] => (decT y).bind fun p => (dec rowN a).bind fun l => (dec rowA b).map fun m =>
      (p.pend.length ≤ 100000 ∧ l.length ≤ 1000 ∧ m.length ≤ 1000, .clo 0 [.tup [pdT (bothP p ⟨d, n, k⟩), drV (bothR ⟨l, m⟩ ⟨d, n, k⟩), .pv (.bool (bothB p ⟨l, m⟩ ⟨d, n, k⟩))]])
  | _ => none
@[simp] theorem GDo_eq (y : AV) (a b : List (List PV)) (d k : Int) (n : List UInt8) : GDo [y, .agg [.pv (.ro a), .pv (.ro b)], .agg [.pv (.int .i64 d), .pv (.str n), .pv (.int .i64 k)]] = (decT y).bind fun p => (dec rowN a).bind fun l => (dec rowA b).map fun m =>
      (p.pend.length ≤ 100000 ∧ l.length ≤ 1000 ∧ m.length ≤ 1000, .clo 0 [.tup [pdT (bothP p ⟨d, n, k⟩), drV (bothR ⟨l, m⟩ ⟨d, n, k⟩), .pv (.bool (bothB p ⟨l, m⟩ ⟨d, n, k⟩))]]) := rfl
theorem c_does : ConTG Try.prog 22 GDo := by
  intro ys φ r h hφ
  unfold GDo at h
  split at h
  · rename_i y ra rb d n k
    rw [Option.bind_eq_some_iff] at h
    obtain ⟨p, hp, h⟩ := h
    rw [Option.bind_eq_some_iff] at h
    obtain ⟨l, ha, h⟩ := h
    obtain ⟨m, hb, h⟩ := Option.map_eq_some_iff.1 h
    cases h
    cases decT_inv hp
    cases dec_rowsN_inv ha
    cases dec_rowsA_inv hb
    obtain ⟨a, b, c⟩ := p
    obtain ⟨g1, g2, g3⟩ : c.length ≤ 100000 ∧ l.length ≤ 1000 ∧ m.length ≤ 1000 := hφ
    have g4 : c.length ≤ 1000000 := by omega
    have g5 : l.length ≤ 10000 := by omega
    have g6 : m.length ≤ 10000 := by omega
    have g7 : l.length ≤ 100000 := by omega
    have g8 : m.length ≤ 100000 := by omega
    refine con_ofG (tab_cons c_Pk (tab_consG (ks := [2, 0, 0]) c_Add (by kernel_rfl) (tab_consG (ks := [2, 0]) c_Rem (by kernel_rfl) (tab_consG (ks := [2]) c_Sync (by kernel_rfl) (tab_consG (ks := [2, 0]) c_Fail (by kernel_rfl) (tab_cons c_Get (tab_consR c_Cop (by kernel_rfl) (tab_cons c_rAdd (tab_cons c_rRem (tab_cons c_rGt (tab_cons c_rLi (tab_cons c_rFail tab_nil)))))))))))) (by kernel_rfl) fn22 (by simp) rfl (by simp [pdT]) ?_
    unfold body22
    simp only [pdT, drV]
    apply vwp_cut
    · simp (config := { maxSteps := 3000000 })
      exact ⟨rfl, rfl⟩
    have b4 : ∀ (h : ¬ d % 6 = 4), bothP ⟨a, b, c⟩ ⟨d, n, k⟩ = doP ⟨a, b, c⟩ ⟨d, n, k⟩ ∧ bothR ⟨l, m⟩ ⟨d, n, k⟩ = doR ⟨l, m⟩ ⟨d, n, k⟩ := fun h => ⟨if_neg h, if_neg h⟩
    by_cases h0 : d % 6 = 0
    · have hx : bothP ⟨a, b, c⟩ ⟨d, n, k⟩ = (addP ⟨a, b, c⟩ n k).1 := (b4 (by omega)).1.trans (if_pos h0)
      have hy : bothR ⟨l, m⟩ ⟨d, n, k⟩ = (addR ⟨l, m⟩ n k).1 := (b4 (by omega)).2.trans (if_pos h0)
      have hz : bothB ⟨a, b, c⟩ ⟨l, m⟩ ⟨d, n, k⟩ = decide ((addP ⟨a, b, c⟩ n k).2 = (addR ⟨l, m⟩ n k).2) := if_pos h0
      rw [hx, hy, hz]
      generalize hP : addP ⟨a, b, c⟩ n k = P
      generalize hR : addR ⟨l, m⟩ n k = R
      rw [vwp_seq]
      apply vwp_cut
      · simp (config := { maxSteps := 3000000 }) [h0]
        exact ⟨rfl, rfl⟩
      rw [vwp_block]
      apply vwp_cut
      · simp (config := { maxSteps := 3000000 }) [h0]
        exact ⟨rfl, rfl⟩
      apply vwp_cT rfl
      apply vwp_cut
      · simp (config := { maxSteps := 3000000 }) [h0, g4, g5, g6, hR, drV]
        exact ⟨rfl, rfl⟩
      apply vwp_cut
      · simp (config := { maxSteps := 3000000 }) [h0, g4, g5, g6, hP, pdT]
        exact ⟨rfl, rfl⟩
      simp (config := { maxSteps := 3000000 })
    by_cases h1 : d % 6 = 1
    · have hx : bothP ⟨a, b, c⟩ ⟨d, n, k⟩ = (remP ⟨a, b, c⟩ n).1 := (b4 (by omega)).1.trans ((if_neg h0).trans (if_pos h1))
      have hy : bothR ⟨l, m⟩ ⟨d, n, k⟩ = (remR ⟨l, m⟩ n).1 := (b4 (by omega)).2.trans ((if_neg h0).trans (if_pos h1))
      have hz : bothB ⟨a, b, c⟩ ⟨l, m⟩ ⟨d, n, k⟩ = (decide ((remP ⟨a, b, c⟩ n).2.1 = (remR ⟨l, m⟩ n).2.1) && decide ((remP ⟨a, b, c⟩ n).2.2 = (remR ⟨l, m⟩ n).2.2)) := (if_neg h0).trans (if_pos h1)
      rw [hx, hy, hz]
      generalize hP : remP ⟨a, b, c⟩ n = P
      generalize hR : remR ⟨l, m⟩ n = R
      rw [vwp_seq]
      apply vwp_cut
      · simp (config := { maxSteps := 3000000 }) [h0, h1]
        exact ⟨rfl, rfl⟩
      rw [vwp_block]
      apply vwp_cut
      · simp (config := { maxSteps := 3000000 }) [h0, h1]
        exact ⟨rfl, rfl⟩
      apply vwp_cF rfl
      apply vwp_cut
      · simp (config := { maxSteps := 3000000 }) [h0, h1]
        exact ⟨rfl, rfl⟩
      apply vwp_cT rfl
      apply vwp_cut
      · simp (config := { maxSteps := 3000000 }) [h1, g4, g5, g6, hR, drV]
        exact ⟨rfl, rfl⟩
      apply vwp_cut
      · simp (config := { maxSteps := 3000000 }) [h1, g4, g5, g6, hP, pdT]
        exact ⟨rfl, rfl⟩
      apply vwp_cut
      · simp (config := { maxSteps := 3000000 })
        exact ⟨rfl, rfl⟩
      simp (config := { maxSteps := 3000000 })
    by_cases h2 : d % 6 = 2
    · have hx : bothP ⟨a, b, c⟩ ⟨d, n, k⟩ = ⟨a, b, c⟩ := (b4 (by omega)).1.trans ((if_neg h0).trans ((if_neg h1).trans (if_neg (by show ¬ d % 6 = 3; omega))))
      have hy : bothR ⟨l, m⟩ ⟨d, n, k⟩ = ⟨l, m⟩ := (b4 (by omega)).2.trans ((if_neg h0).trans ((if_neg h1).trans (if_neg (by show ¬ d % 6 = 3; omega))))
      have hz : bothB ⟨a, b, c⟩ ⟨l, m⟩ ⟨d, n, k⟩ = (decide ((getN b n).getD 0 = (getN (aftA l m) n).getD 0) && ((getN b n).isSome == (getN (aftA l m) n).isSome)) := (if_neg h0).trans ((if_neg h1).trans (if_pos h2))
      rw [hx, hy, hz]
      rw [vwp_seq]
      apply vwp_cut
      · simp (config := { maxSteps := 3000000 }) [h0, h1, h2]
        exact ⟨rfl, rfl⟩
      rw [vwp_block]
      apply vwp_cut
      · simp (config := { maxSteps := 3000000 }) [h0, h1, h2]
        exact ⟨rfl, rfl⟩
      apply vwp_cF rfl
      apply vwp_cut
      · simp (config := { maxSteps := 3000000 }) [h0, h1, h2]
        exact ⟨rfl, rfl⟩
      apply vwp_cF rfl
      apply vwp_cut
      · simp (config := { maxSteps := 3000000 }) [h0, h1, h2]
        exact ⟨rfl, rfl⟩
      apply vwp_cT rfl
      apply vwp_cut
      · simp (config := { maxSteps := 3000000 }) [h2, g4, g7, g8]
        exact ⟨rfl, rfl⟩
      apply vwp_cut
      · simp (config := { maxSteps := 3000000 }) [h2, g4, g7, g8]
        exact ⟨rfl, rfl⟩
      apply vwp_cut
      · simp (config := { maxSteps := 3000000 })
        exact ⟨rfl, rfl⟩
      simp (config := { maxSteps := 3000000 })
    by_cases h3 : d % 6 = 3
    · have hx : bothP ⟨a, b, c⟩ ⟨d, n, k⟩ = failP ⟨a, b, c⟩ c.length := (b4 (by omega)).1.trans ((if_neg h0).trans ((if_neg h1).trans (if_pos h3)))
      have hy : bothR ⟨l, m⟩ ⟨d, n, k⟩ = ⟨aftA l m, []⟩ := (b4 (by omega)).2.trans ((if_neg h0).trans ((if_neg h1).trans (if_pos h3)))
      have hz : bothB ⟨a, b, c⟩ ⟨l, m⟩ ⟨d, n, k⟩ = true := (if_neg h0).trans ((if_neg h1).trans (if_neg h2))
      rw [hx, hy, hz]
      generalize hP : failP ⟨a, b, c⟩ c.length = P
      rw [vwp_seq]
      apply vwp_cut
      · simp (config := { maxSteps := 3000000 }) [h0, h1, h2, h3]
        exact ⟨rfl, rfl⟩
      rw [vwp_block]
      apply vwp_cut
      · simp (config := { maxSteps := 3000000 }) [h0, h1, h2, h3]
        exact ⟨rfl, rfl⟩
      apply vwp_cF rfl
      apply vwp_cut
      · simp (config := { maxSteps := 3000000 }) [h0, h1, h2, h3]
        exact ⟨rfl, rfl⟩
      apply vwp_cF rfl
      apply vwp_cut
      · simp (config := { maxSteps := 3000000 }) [h0, h1, h2, h3]
        exact ⟨rfl, rfl⟩
      apply vwp_cF rfl
      apply vwp_cut
      · simp (config := { maxSteps := 3000000 }) [h0, h1, h2, h3]
        exact ⟨rfl, rfl⟩
      apply vwp_cT rfl
      apply vwp_cut
      · simp (config := { maxSteps := 3000000 }) [h3, g4, hP, pdT]
        exact ⟨rfl, rfl⟩
      apply vwp_cut
      · simp (config := { maxSteps := 3000000 }) [h3, g7, g8, pdT]
        exact ⟨rfl, rfl⟩
      simp (config := { maxSteps := 3000000 })
    by_cases h4 : d % 6 = 4
    · have hx : bothP ⟨a, b, c⟩ ⟨d, n, k⟩ = failP ⟨a, b, c⟩ k.toNat := if_pos h4
      have hy : bothR ⟨l, m⟩ ⟨d, n, k⟩ = failR ⟨l, m⟩ k := if_pos h4
      have hz : bothB ⟨a, b, c⟩ ⟨l, m⟩ ⟨d, n, k⟩ = true := (if_neg h0).trans ((if_neg h1).trans (if_neg h2))
      rw [hx, hy, hz]
      generalize hP : failP ⟨a, b, c⟩ k.toNat = P
      generalize hR : failR ⟨l, m⟩ k = R
      rw [vwp_seq]
      apply vwp_cut
      · simp (config := { maxSteps := 3000000 }) [h0, h1, h2, h3, h4]
        exact ⟨rfl, rfl⟩
      rw [vwp_block]
      apply vwp_cut
      · simp (config := { maxSteps := 3000000 }) [h0, h1, h2, h3, h4]
        exact ⟨rfl, rfl⟩
      apply vwp_cF rfl
      apply vwp_cut
      · simp (config := { maxSteps := 3000000 }) [h0, h1, h2, h3, h4]
        exact ⟨rfl, rfl⟩
      apply vwp_cF rfl
      apply vwp_cut
      · simp (config := { maxSteps := 3000000 }) [h0, h1, h2, h3, h4]
        exact ⟨rfl, rfl⟩
      apply vwp_cF rfl
      apply vwp_cut
      · simp (config := { maxSteps := 3000000 }) [h0, h1, h2, h3, h4]
        exact ⟨rfl, rfl⟩
      apply vwp_cF rfl
      apply vwp_cut
      · simp (config := { maxSteps := 3000000 }) [h0, h1, h2, h3, h4]
        exact ⟨rfl, rfl⟩
      apply vwp_cT rfl
      apply vwp_cut
      · simp (config := { maxSteps := 3000000 }) [h4, g4, hP, pdT]
        exact ⟨rfl, rfl⟩
      apply vwp_cut
      · simp (config := { maxSteps := 3000000 }) [h4, g5, g6, hR, drV, pdT]
        exact ⟨rfl, rfl⟩
      simp (config := { maxSteps := 3000000 })
    · have hx : bothP ⟨a, b, c⟩ ⟨d, n, k⟩ = ⟨a, b, c⟩ := (b4 h4).1.trans ((if_neg h0).trans ((if_neg h1).trans (if_neg h3)))
      have hy : bothR ⟨l, m⟩ ⟨d, n, k⟩ = ⟨l, m⟩ := (b4 h4).2.trans ((if_neg h0).trans ((if_neg h1).trans (if_neg h3)))
      have hz : bothB ⟨a, b, c⟩ ⟨l, m⟩ ⟨d, n, k⟩ = true := (if_neg h0).trans ((if_neg h1).trans (if_neg h2))
      rw [hx, hy, hz]
      apply vwp_cut
      · simp (config := { maxSteps := 3000000 }) [h0, h1, h2, h3, h4]
        exact ⟨rfl, rfl⟩
      apply vwp_cut
      · simp (config := { maxSteps := 3000000 }) [g4, pdT]
        exact ⟨rfl, rfl⟩
      generalize hP : addP ⟨a, b, c⟩ [97, 110, 111, 116, 104, 101, 114, 32, 111, 110, 101] 3 = P
      have hp : P.1.pend.length ≤ 1000000 := by
        rw [← hP]
        unfold addP
        split
        · exact g4
        split
        · exact g4
        · show (c ++ [_]).length ≤ _
          rw [List.length_append]
          simp only [List.length_cons, List.length_nil]
          omega
      apply vwp_cut
      · simp (config := { maxSteps := 3000000 }) [g4, hP, pdT]
        exact ⟨rfl, rfl⟩
      apply vwp_cut
      · simp (config := { maxSteps := 3000000 }) [hp, pdT]
        exact ⟨rfl, rfl⟩
      apply vwp_cut
      · simp (config := { maxSteps := 3000000 }) [pdT]
        exact ⟨rfl, rfl⟩
      simp (config := { maxSteps := 3000000 })
  · cases h

end Go.Proofs.Ythblkhafehanfaa.Ab
