/- Chapter 14: pins read, as the program and the reference do it. -/
import Derived.Test.YtfpmjcdcpicmaaaP4
namespace Go.Proofs.Ytfpmjcdcpicmaaa.Ab
open Go Go.RowKit R
set_option linter.unusedVariables false
set_option linter.unusedSimpArgs false
set_option maxHeartbeats 4000000
set_option maxRecDepth 100000

def pnOf : List Int → Pn
  | [a, b, c] => ⟨a, b, c⟩
  | _ => ⟨0, 0, 0⟩
/-- So many pins from a place. -/
def takePG (b : List UInt8) : Nat → Int → Int → List Pn × Int × Int
  | 0, _, q => ([], q, 0)
  | f + 1, n, q => if n ≤ 0 then ([], q, 0) else if (takeAG b 3 q).2.2 ≠ 0 then ([], 0, (takeAG b 3 q).2.2) else
      if (takePG b f (n - 1) (takeAG b 3 q).2.1).2.2 ≠ 0 then ([], 0, (takePG b f (n - 1) (takeAG b 3 q).2.1).2.2)
      else (pnOf (takeAG b 3 q).1 :: (takePG b f (n - 1) (takeAG b 3 q).2.1).1, (takePG b f (n - 1) (takeAG b 3 q).2.1).2.1, 0)
def takeP (b : List UInt8) (p : Int) : List Pn × Int × Int :=
  if (takeL b p).2.2 ≠ 0 then ([], p, (takeL b p).2.2) else
    if (takePG b (b.length + 1) (takeL b p).1 (takeL b p).2.1).2.2 ≠ 0 then ([], p, (takePG b (b.length + 1) (takeL b p).1 (takeL b p).2.1).2.2) else
      if riseP (takePG b (b.length + 1) (takeL b p).1 (takeL b p).2.1).1 = false then ([], p, 2) else takePG b (b.length + 1) (takeL b p).1 (takeL b p).2.1
def aheadP (L : List Pn) (q : List Pn × Int × Int) : List Pn × Int × Int := if q.2.2 ≠ 0 then ([], 0, q.2.2) else (L ++ q.1, q.2.1, 0)
theorem takePG_form (b : List UInt8) : ∀ (k : Nat) (n p : Int), (takePG b k n p).2.2 ≠ 0 → takePG b k n p = ([], 0, (takePG b k n p).2.2)
  | 0, n, p, h => absurd rfl h
  | k + 1, n, p, h => by
    unfold takePG at h ⊢
    split
    · rename_i h0; rw [if_pos h0] at h; exact absurd rfl h
    · rename_i h0
      rw [if_neg h0] at h
      split
      · rfl
      · split
        · rfl
        · rename_i h1 h2
          rw [if_neg h1, if_neg h2] at h
          exact absurd rfl h
theorem aheadP_nil (b : List UInt8) (k : Nat) (n p : Int) : aheadP [] (takePG b k n p) = takePG b k n p := by
  unfold aheadP
  split
  · rename_i h; exact (takePG_form b k n p h).symm
  · rename_i h
    have : (takePG b k n p).2.2 = 0 := by simpa using h
    rw [← this]; rfl
theorem aheadP_step (b : List UInt8) (L : List Pn) (k : Nat) (n p : Int) (hn : 0 < n) (h : (takeAG b 3 p).2.2 = 0) : aheadP L (takePG b (k + 1) n p) = aheadP (L ++ [pnOf (takeAG b 3 p).1]) (takePG b k (n - 1) (takeAG b 3 p).2.1) := by
  rw [takePG, if_neg (by omega), if_neg (by simpa using h)]
  by_cases h2 : (takePG b k (n - 1) (takeAG b 3 p).2.1).2.2 = 0
  · rw [if_neg (by simpa using h2)]
    simp [aheadP, h2]
  · rw [if_pos h2]
    simp [aheadP, h2]
theorem aheadP_err (b : List UInt8) (L : List Pn) (k : Nat) (n p : Int) (hn : 0 < n) (h : (takeAG b 3 p).2.2 ≠ 0) : aheadP L (takePG b (k + 1) n p) = ([], 0, (takeAG b 3 p).2.2) := by
  rw [takePG, if_neg (by omega), if_pos h]
  simp [aheadP, h]
theorem aheadP_end (b : List UInt8) (L : List Pn) (k : Nat) (n p : Int) (hn : n ≤ 0) : aheadP L (takePG b k n p) = (L, p, 0) := by
  cases k with
  | zero => simp [takePG, aheadP]
  | succ k => rw [takePG, if_pos hn]; simp [aheadP]
theorem takeA_three {b : List UInt8} {q : Int} (h : (takeAG b 3 q).2.2 = 0) : ∃ x y z, (takeAG b 3 q).1 = [x, y, z] ∧ okN x ∧ okN y ∧ okN z := by
  obtain ⟨h1, h2, _⟩ := takeAG_ok b 3 q h
  match hl : (takeAG b 3 q).1, h1 with
  | [x, y, z], _ =>
    rw [hl] at h2
    exact ⟨x, y, z, rfl, h2 x (by simp), h2 y (by simp), h2 z (by simp)⟩

noncomputable def GrTk : List AV → Option (Prop × AV)
  | [.pv (.ro b), .pv (.int .i64 p)] => (dec byteR b).map fun l => (l.length ≤ 100000000 ∧ -9223372036854775808 ≤ p ∧ p ≤ 9223372036854775807, .tup [.fr 120 (rowsP (takeP l p).1), .pv (.int .i64 (takeP l p).2.1), .pv (.int .i64 (takeP l p).2.2)])
  | _ => none
@[simp] theorem GrTk_eq (b : List (List PV)) (p : Int) : GrTk [.pv (.ro b), .pv (.int .i64 p)] = (dec byteR b).map fun l => (l.length ≤ 100000000 ∧ -9223372036854775808 ≤ p ∧ p ≤ 9223372036854775807, .tup [.fr 120 (rowsP (takeP l p).1), .pv (.int .i64 (takeP l p).2.1), .pv (.int .i64 (takeP l p).2.2)]) := rfl

theorem c_rTk : ConT Try.prog 91 GrTk := by
  intro ys φ r h hφ
  unfold GrTk at h
  split at h
  · rename_i rb p
    obtain ⟨b, hb, h⟩ := Option.map_eq_some_iff.1 h
    cases h
    cases dec_bytes_inv hb
    obtain ⟨hl8, hp1, hp2⟩ := hφ
    have hl : b.length ≤ 1000000000 := by omega
    refine con_of (tab_cons c_rtake (tab_cons c_rtakeA (tab_cons c_rRight tab_nil))) (by kernel_rfl) fn91 (by simp) ?_
    unfold body91
    by_cases he : (takeL b p).2.2 = 0
    · have hT : takeP b p = if (takePG b (b.length + 1) (takeL b p).1 (takeL b p).2.1).2.2 ≠ 0 then ([], p, (takePG b (b.length + 1) (takeL b p).1 (takeL b p).2.1).2.2) else
          if riseP (takePG b (b.length + 1) (takeL b p).1 (takeL b p).2.1).1 = false then ([], p, 2) else takePG b (b.length + 1) (takeL b p).1 (takeL b p).2.1 := by
        unfold takeP; rw [if_neg (by simpa using he)]
      obtain ⟨k1, k2, k3, k4, k5⟩ := takeL_ok b p
      obtain ⟨j1, j2, j3⟩ := k1 he
      generalize hP : takeP b p = T at *
      simp (config := { maxSteps := 3000000 }) [hl, hp1, hp2, he]
      generalize (takeL b p).1 = n at *
      generalize (takeL b p).2.1 = q0 at *
      refine vwp_loop (fun x : Nat × Int × List Pn => (x.2.2.length : Int) ≤ n ∧ 0 ≤ x.2.1 ∧ x.2.1 ≤ b.length ∧ (b.length : Int) < x.1 + x.2.1 ∧ x.2.2.length ≤ x.2.1 ∧ takePG b (b.length + 1) n q0 = aheadP x.2.2 (takePG b x.1 (n - x.2.2.length) x.2.1))
        (fun x => ⟨[(0, .pv (.ro (bytesRow b))), (1, .pv (.int .i64 p)), (7, .pv (.int .u64 n)), (8, .pv (.int .i64 x.2.1)), (10, .own 10)], [(10, .arr 120 (rowsP x.2.2))]⟩) (fun x => (b.length - x.2.1).toNat) [] (b.length + 1, q0, []) ?_ ?_ ?_
      · exact ⟨by simpa using k2, by show 0 ≤ q0; omega, j3, by simp; omega, by simp; omega, by rw [aheadP_nil]; simp⟩
      · simp
      · rintro ⟨f, q, acc⟩ ⟨hn, hq0, hq1, hf, hacc, hG⟩
        dsimp only at hn hq0 hq1 hf hacc hG
        have wl : IntKind.u64.wrap (acc.length : Int) = (acc.length : Int) := wrap_u64 (by omega)
        have hq2 : -9223372036854775808 ≤ q := by omega
        have hq3 : q ≤ 9223372036854775807 := by omega
        by_cases hlt : (acc.length : Int) < n
        · obtain ⟨f, rfl⟩ : ∃ g, f = g + 1 := ⟨f - 1, by omega⟩
          have h3 : (3 : Int).toNat = 3 := rfl
          by_cases h0 : (takeAG b 3 q).2.2 = 0
          · obtain ⟨x, y, z, hx, o1, o2, o3⟩ := takeA_three h0
            obtain ⟨_, _, g3, g4⟩ := takeAG_ok b 3 q h0
            have g4 := (g4 (by omega)).2
            have hA : takeA b q 3 = ([x, y, z], (takeAG b 3 q).2.1, 0) := by
              unfold takeA; rw [if_neg (by simpa using h0), ← hx, ← h0]
            rw [aheadP_step b acc f (n - acc.length) q (by omega) h0, hx] at hG
            have hr : rowsN [x, y, z] = [[.int .u64 x], [.int .u64 y], [.int .u64 z]] := rfl
            have r0 : rowAt [[PV.int .u64 x], [.int .u64 y], [.int .u64 z]] 0 = [.int .u64 x] := rfl
            have r1 : rowAt [[PV.int .u64 x], [.int .u64 y], [.int .u64 z]] 1 = [.int .u64 y] := rfl
            have r2 : rowAt [[PV.int .u64 x], [.int .u64 y], [.int .u64 z]] 2 = [.int .u64 z] := rfl
            simp (config := { maxSteps := 3000000 }) [wl, hlt, hl, hq2, hq3, h3, hA, hr, maxLen_eq, r0, r1, r2]
            refine ⟨by omega, f, (takeAG b 3 q).2.1, acc ++ [pnOf [x, y, z]], ?_⟩
            have hlen : ((acc ++ [pnOf [x, y, z]]).length : Int) = acc.length + 1 := by simp
            have hi : n - ((acc ++ [pnOf [x, y, z]]).length : Int) = n - acc.length - 1 := by omega
            refine ⟨⟨by omega, by omega, g4, by omega, by omega, by rw [hi]; exact hG⟩, ⟨rfl, ?_⟩, by omega⟩
            rw [rowsP_append]; rfl
          · have hA : takeA b q 3 = ([], q, (takeAG b 3 q).2.2) := by unfold takeA; rw [if_pos h0]
            rw [aheadP_err b acc f _ q (by omega) h0] at hG
            have hTe : T = ([], p, (takeAG b 3 q).2.2) := by rw [hT, hG]; simp [h0]
            simp (config := { maxSteps := 3000000 }) [wl, hlt, hl, hq2, hq3, h3, hA, h0, hTe]
        · have hle : n - acc.length ≤ 0 := by omega
          rw [aheadP_end b acc f _ q hle] at hG
          have ha9 : acc.length ≤ 1000000000 := by omega
          by_cases hrs : riseP acc = false
          · have hTe : T = ([], p, 2) := by rw [hT, hG]; simp [hrs]
            simp (config := { maxSteps := 3000000 }) [wl, hlt, ha9, hrs, hTe]
          · have hrs' : riseP acc = true := by simpa using hrs
            have hTe : T = (acc, q, 0) := by rw [hT, hG]; simp [hrs']
            simp (config := { maxSteps := 3000000 }) [wl, hlt, ha9, hrs', hTe]
    · have hT : takeP b p = ([], p, (takeL b p).2.2) := by unfold takeP; rw [if_pos he]
      simp (config := { maxSteps := 3000000 }) [hl, hp1, hp2, he, hT]
  · cases h

end Go.Proofs.Ytfpmjcdcpicmaaa.Ab
