/- Chapter 14: several numbers read, as the program and the reference do it. -/
import Derived.Test.YtfpmjcdcpicmaaaP3
namespace Go.Proofs.Ytfpmjcdcpicmaaa.Ab
open Go Go.RowKit R
set_option linter.unusedVariables false
set_option linter.unusedSimpArgs false
set_option maxHeartbeats 4000000
set_option maxRecDepth 100000

/-- So many numbers from a place: the numbers, the place behind them, the first error. -/
def takeAG (b : List UInt8) : Nat → Int → List Int × Int × Int
  | 0, p => ([], p, 0)
  | k + 1, p => if (takeL b p).2.2 ≠ 0 then ([], 0, (takeL b p).2.2) else
      if (takeAG b k (takeL b p).2.1).2.2 ≠ 0 then ([], 0, (takeAG b k (takeL b p).2.1).2.2) else ((takeL b p).1 :: (takeAG b k (takeL b p).2.1).1, (takeAG b k (takeL b p).2.1).2.1, 0)
def takeA (b : List UInt8) (p : Int) (k : Nat) : List Int × Int × Int := if (takeAG b k p).2.2 ≠ 0 then ([], p, (takeAG b k p).2.2) else takeAG b k p
/-- What is read ahead of it. -/
def ahead (L : List Int) (q : List Int × Int × Int) : List Int × Int × Int := if q.2.2 ≠ 0 then ([], 0, q.2.2) else (L ++ q.1, q.2.1, 0)
theorem takeAG_form (b : List UInt8) : ∀ (k : Nat) (p : Int), (takeAG b k p).2.2 ≠ 0 → takeAG b k p = ([], 0, (takeAG b k p).2.2)
  | 0, p, h => absurd rfl h
  | k + 1, p, h => by
    unfold takeAG at h ⊢
    split
    · rfl
    · split
      · rfl
      · rename_i h1 h2
        rw [if_neg h1, if_neg h2] at h
        exact absurd rfl h
theorem takeAG_ok (b : List UInt8) : ∀ (k : Nat) (p : Int), (takeAG b k p).2.2 = 0 → (takeAG b k p).1.length = k ∧ (∀ n ∈ (takeAG b k p).1, okN n) ∧ p + k ≤ (takeAG b k p).2.1 ∧ (0 < k → 0 ≤ p ∧ (takeAG b k p).2.1 ≤ b.length)
  | 0, p, h => by
    refine ⟨rfl, fun n hn => ?_, by simp [takeAG], fun h => absurd h (by omega)⟩
    simp [takeAG] at hn
  | k + 1, p, h => by
    unfold takeAG at h ⊢
    split at h
    · rename_i h1; exact absurd h h1
    · rename_i h1
      rw [if_neg h1]
      split at h
      · rename_i h2; exact absurd h h2
      · rename_i h2
        rw [if_neg h2]
        have e1 : (takeL b p).2.2 = 0 := by simpa using h1
        have e2 : (takeAG b k (takeL b p).2.1).2.2 = 0 := by simpa using h2
        obtain ⟨g1, g2, g3, g4⟩ := takeAG_ok b k _ e2
        obtain ⟨o1, o2, o3, _⟩ := takeL_ok b p
        obtain ⟨o1, o4, o5⟩ := o1 e1
        refine ⟨by simp [g1], fun n hn => ?_, by simp only; omega, fun _ => ⟨o1, ?_⟩⟩
        · simp only [List.mem_cons] at hn
          rcases hn with rfl | hn
          · exact ⟨o2, o3⟩
          · exact g2 n hn
        · by_cases hk : 0 < k
          · exact (g4 hk).2
          · have : k = 0 := by omega
            subst this
            exact o5
theorem ahead_nil (b : List UInt8) (k : Nat) (p : Int) : ahead [] (takeAG b k p) = takeAG b k p := by
  unfold ahead
  split
  · rename_i h; exact (takeAG_form b k p h).symm
  · rename_i h
    have : (takeAG b k p).2.2 = 0 := by simpa using h
    rw [← this]; rfl
theorem ahead_step (b : List UInt8) (L : List Int) (k : Nat) (p : Int) (h : (takeL b p).2.2 = 0) : ahead L (takeAG b (k + 1) p) = ahead (L ++ [(takeL b p).1]) (takeAG b k (takeL b p).2.1) := by
  rw [takeAG, if_neg (by simpa using h)]
  by_cases h2 : (takeAG b k (takeL b p).2.1).2.2 = 0
  · rw [if_neg (by simpa using h2)]
    simp [ahead, h2]
  · rw [if_pos h2]
    simp [ahead, h2]
theorem ahead_err (b : List UInt8) (L : List Int) (k : Nat) (p : Int) (h : (takeL b p).2.2 ≠ 0) : ahead L (takeAG b (k + 1) p) = ([], 0, (takeL b p).2.2) := by
  rw [takeAG, if_pos h]
  simp [ahead, h]

noncomputable def GtA : List AV → Option (Prop × AV)
  | [.pv (.ro b), .pv (.int .i64 p), .pv (.int .i64 k)] => (dec byteR b).map fun l => (l.length ≤ 1000000000 ∧ -9223372036854775808 ≤ p ∧ p ≤ 9223372036854775807 ∧ 0 ≤ k ∧ k ≤ 1000, .tup [.fr 24 (rowsN (takeA l p k.toNat).1), .pv (.int .i64 (takeA l p k.toNat).2.1), .pv (.int .i64 (takeA l p k.toNat).2.2)])
  | _ => none
@[simp] theorem GtA_eq (b : List (List PV)) (p k : Int) : GtA [.pv (.ro b), .pv (.int .i64 p), .pv (.int .i64 k)] = (dec byteR b).map fun l => (l.length ≤ 1000000000 ∧ -9223372036854775808 ≤ p ∧ p ≤ 9223372036854775807 ∧ 0 ≤ k ∧ k ≤ 1000, .tup [.fr 24 (rowsN (takeA l p k.toNat).1), .pv (.int .i64 (takeA l p k.toNat).2.1), .pv (.int .i64 (takeA l p k.toNat).2.2)]) := rfl

theorem c_takeA : ConT Try.prog 143 GtA := by
  intro ys φ r h hφ
  unfold GtA at h
  split at h
  · rename_i rb p K
    obtain ⟨b, hb, h⟩ := Option.map_eq_some_iff.1 h
    cases h
    cases dec_bytes_inv hb
    obtain ⟨hl, hp1, hp2, hk1, hk2⟩ := hφ
    obtain ⟨k, rfl⟩ := Int.eq_ofNat_of_zero_le hk1
    have hkk : ((k : Nat) : Int).toNat = k := by simp
    rw [hkk]
    have hT : takeA b p k = if (takeAG b k p).2.2 ≠ 0 then ([], p, (takeAG b k p).2.2) else takeAG b k p := rfl
    generalize takeA b p k = T at *
    refine con_of (tab_cons c_take tab_nil) (by kernel_rfl) fn143 (by simp) ?_
    unfold body143
    simp (config := { maxSteps := 3000000 })
    refine vwp_loop (fun x : Nat × Int × List Int => x.1 ≤ k ∧ x.2.2.length = x.1 ∧ -9223372036854775808 ≤ x.2.1 ∧ x.2.1 ≤ 9223372036854775807 ∧ takeAG b k p = ahead x.2.2 (takeAG b (k - x.1) x.2.1))
      (fun x => ⟨[(0, .pv (.ro (bytesRow b))), (1, .pv (.int .i64 p)), (6, .own 6), (7, .pv (.int .i64 x.2.1)), (13, .pv (.int .i64 k)), (14, .pv (.int .i64 x.1))], [(6, .arr 24 (rowsN x.2.2))]⟩) (fun x => k - x.1) [] (0, p, []) ?_ ?_ ?_
    · exact ⟨Nat.zero_le _, rfl, hp1, hp2, by rw [ahead_nil]; rfl⟩
    · simp
    · rintro ⟨i, q, L⟩ ⟨hi, hL, hq1, hq2, hG⟩
      dsimp only at hi hL hq1 hq2 hG
      have w2 : IntKind.i64.wrap ((i : Int) + 1) = (i : Int) + 1 := wrap_i64 (by omega)
      by_cases hlt : i < k
      · have hlti : (i : Int) < (k : Int) := by omega
        obtain ⟨m, hm⟩ : ∃ m, k - i = m + 1 := ⟨k - i - 1, by omega⟩
        rw [hm] at hG
        obtain ⟨k1, k2, k3, k4, k5⟩ := takeL_ok b q
        by_cases he : (takeL b q).2.2 = 0
        · obtain ⟨j1, j2, j3⟩ := k1 he
          rw [ahead_step b L m q he] at hG
          simp (config := { maxSteps := 3000000 }) [w2, hlti, hl, hq1, hq2, he, maxLen_eq]
          exact ⟨⟨by omega, by omega⟩, i + 1, (takeL b q).2.1, L ++ [(takeL b q).1], ⟨by omega, by simp [hL], by omega, by omega, by rw [hG, show k - (i + 1) = m from by omega]⟩, ⟨⟨rfl, by omega⟩, by rw [rowsN_append]; rfl⟩, by omega⟩
        · rw [ahead_err b L m q he] at hG
          have hTe : T = ([], p, (takeL b q).2.2) := by rw [hT, hG]; simp [he]
          simp (config := { maxSteps := 3000000 }) [w2, hlti, hl, hq1, hq2, he, hTe]
      · have hltn : ¬ (i : Int) < (k : Int) := by omega
        have hik : k - i = 0 := by omega
        rw [hik] at hG
        have hTe : T = (L, q, 0) := by rw [hT, hG]; simp [ahead, takeAG]
        simp (config := { maxSteps := 3000000 }) [hltn, hTe]
  · cases h

theorem c_rtakeA : ConT Try.prog 144 GtA := by
  intro ys φ r h hφ
  unfold GtA at h
  split at h
  · rename_i rb p K
    obtain ⟨b, hb, h⟩ := Option.map_eq_some_iff.1 h
    cases h
    cases dec_bytes_inv hb
    obtain ⟨hl, hp1, hp2, hk1, hk2⟩ := hφ
    obtain ⟨k, rfl⟩ := Int.eq_ofNat_of_zero_le hk1
    have hkk : ((k : Nat) : Int).toNat = k := by simp
    rw [hkk]
    have hT : takeA b p k = if (takeAG b k p).2.2 ≠ 0 then ([], p, (takeAG b k p).2.2) else takeAG b k p := rfl
    generalize takeA b p k = T at *
    refine con_of (tab_cons c_rtake tab_nil) (by kernel_rfl) fn144 (by simp) ?_
    unfold body144
    simp (config := { maxSteps := 3000000 })
    refine vwp_loop (fun x : Nat × Int × List Int => x.1 ≤ k ∧ x.2.2.length = x.1 ∧ -9223372036854775808 ≤ x.2.1 ∧ x.2.1 ≤ 9223372036854775807 ∧ takeAG b k p = ahead x.2.2 (takeAG b (k - x.1) x.2.1))
      (fun x => ⟨[(0, .pv (.ro (bytesRow b))), (1, .pv (.int .i64 p)), (2, .pv (.int .i64 k)), (9, .own 9), (10, .pv (.int .i64 x.2.1)), (11, .pv (.int .i64 x.1))], [(9, .arr 24 (rowsN x.2.2))]⟩) (fun x => k - x.1) [] (0, p, []) ?_ ?_ ?_
    · exact ⟨Nat.zero_le _, rfl, hp1, hp2, by rw [ahead_nil]; rfl⟩
    · simp
    · rintro ⟨i, q, L⟩ ⟨hi, hL, hq1, hq2, hG⟩
      dsimp only at hi hL hq1 hq2 hG
      have w2 : IntKind.i64.wrap ((i : Int) + 1) = (i : Int) + 1 := wrap_i64 (by omega)
      by_cases hlt : i < k
      · have hlti : (i : Int) < (k : Int) := by omega
        obtain ⟨m, hm⟩ : ∃ m, k - i = m + 1 := ⟨k - i - 1, by omega⟩
        rw [hm] at hG
        obtain ⟨k1, k2, k3, k4, k5⟩ := takeL_ok b q
        by_cases he : (takeL b q).2.2 = 0
        · obtain ⟨j1, j2, j3⟩ := k1 he
          rw [ahead_step b L m q he] at hG
          simp (config := { maxSteps := 3000000 }) [w2, hlti, hl, hq1, hq2, he, maxLen_eq]
          exact ⟨⟨by omega, by omega⟩, i + 1, (takeL b q).2.1, L ++ [(takeL b q).1], ⟨by omega, by simp [hL], by omega, by omega, by rw [hG, show k - (i + 1) = m from by omega]⟩, ⟨⟨rfl, by omega⟩, by rw [rowsN_append]; rfl⟩, by omega⟩
        · rw [ahead_err b L m q he] at hG
          have hTe : T = ([], p, (takeL b q).2.2) := by rw [hT, hG]; simp [he]
          simp (config := { maxSteps := 3000000 }) [w2, hlti, hl, hq1, hq2, he, hTe]
      · have hltn : ¬ (i : Int) < (k : Int) := by omega
        have hik : k - i = 0 := by omega
        rw [hik] at hG
        have hTe : T = (L, q, 0) := by rw [hT, hG]; simp [ahead, takeAG]
        simp (config := { maxSteps := 3000000 }) [hltn, hTe]
  · cases h

end Go.Proofs.Ytfpmjcdcpicmaaa.Ab
