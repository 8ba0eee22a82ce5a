/- Edits read: as the program does it. -/
import Derived.Test.YtcgllachkjnlgaaD31
namespace Go.Proofs.Ytcgllachkjnlgaa.Ab
open Go Go.RowKit R
set_option linter.unusedVariables false
set_option linter.unusedSimpArgs false
set_option maxHeartbeats 4000000
set_option maxRecDepth 100000

theorem takeT_ok {b : List UInt8} {p : Int} (h : (takeT b p).2.2 = 0) : 0 ≤ p ∧ p < (takeT b p).2.1 ∧ (takeT b p).2.1 ≤ b.length := by
  obtain ⟨k1, k2, k3, k4, k5⟩ := takeL_ok b p
  unfold takeT at h ⊢
  split at h
  · rename_i h0; exact absurd h h0
  · rename_i h0
    rw [if_neg h0]
    split at h
    · cases h
    · rename_i h1
      rw [if_neg h1]
      have := k1 (by simpa using h0)
      dsimp only
      omega
theorem takeE_ok {b : List UInt8} {p : Int} (h : (takeE b p).2.2 = 0) : 0 ≤ p + 1 ∧ p + 1 < (takeE b p).2.1 ∧ (takeE b p).2.1 ≤ b.length := by
  unfold takeE takeK at h ⊢
  split at h
  · rename_i h0
    rw [if_pos h0]
    dsimp only at h ⊢
    split at h
    · cases h
    · exact takeT_ok h
  · rename_i h0
    rw [if_neg h0]
    split at h
    · rename_i h1
      rw [if_pos h1]
      split at h
      · cases h
      · rename_i h2
        rw [if_neg h2]
        dsimp only at h ⊢
        split at h
        · cases h
        · exact (takeL_ok b (p + 1)).1 h
    · cases h

/-- Edits that stand in bytes from a place on; how many steps may be taken. -/
def parseG : Nat → List UInt8 → Int → List Ed × Int
  | 0, _, _ => ([], 0)
  | f + 1, b, p => if (b.length : Int) ≤ p then ([], 0) else if (takeE b p).2.2 ≠ 0 then ([], (takeE b p).2.2) else
    (if (parseG f b (takeE b p).2.1).2 ≠ 0 then ([], (parseG f b (takeE b p).2.1).2) else ((takeE b p).1 :: (parseG f b (takeE b p).2.1).1, 0))
def parseL (b : List UInt8) : List Ed × Int := parseG (b.length + 1) b 0
/-- What is read, behind what is read already. -/
def behind (acc : List Ed) (r : List Ed × Int) : List Ed × Int := if r.2 ≠ 0 then ([], r.2) else (acc ++ r.1, 0)
theorem behind_nil (f : Nat) (b : List UInt8) (p : Int) : behind [] (parseG f b p) = parseG f b p := by
  unfold behind
  cases f with
  | zero => rfl
  | succ f =>
    unfold parseG
    split
    · rfl
    · split
      · rename_i h; simp [h]
      · split
        · rename_i h; simp [h]
        · rfl

noncomputable def GParse : List AV → Option (Prop × AV)
  | [.pv (.ro b)] => (dec byteR b).map fun l => (l.length ≤ 100000000, .tup [.fr 47 (rowsE (parseL l).1), .pv (.int .i64 (parseL l).2)])
  | _ => none
@[simp] theorem GParse_eq (b : List (List PV)) : GParse [.pv (.ro b)] = (dec byteR b).map fun l => (l.length ≤ 100000000, .tup [.fr 47 (rowsE (parseL l).1), .pv (.int .i64 (parseL l).2)]) := rfl

theorem c_Parse : ConT Try.prog 26 GParse := by
  intro ys φ r h hl
  unfold GParse at h
  split at h
  · rename_i rb
    obtain ⟨b, hb, h⟩ := Option.map_eq_some_iff.1 h
    cases h
    cases dec_bytes_inv hb
    refine con_of (tab_cons c_takeE tab_nil) (by kernel_rfl) fn26 (by simp) ?_
    unfold body26
    simp (config := { maxSteps := 3000000 })
    refine vwp_loop (fun x : Nat × Nat × List Ed => x.1 ≤ b.length ∧ b.length < x.2.1 + x.1 ∧ x.2.2.length ≤ x.1 ∧ parseL b = behind x.2.2 (parseG x.2.1 b x.1))
      (fun x => ⟨[(0, .pv (.ro (bytesRow b))), (4, .own 4), (5, .pv (.int .i64 x.1))], [(4, .arr 47 (rowsE x.2.2))]⟩) (fun x => b.length - x.1) [] (0, b.length + 1, []) ?_ ?_ ?_
    · refine ⟨by simp, by simp, by simp, ?_⟩
      rw [behind_nil]; rfl
    · simp
    · rintro ⟨p, f, acc⟩ ⟨hp, hf, hacc, hP⟩
      dsimp only at hp hf hacc hP
      by_cases hlt : p < b.length
      · obtain ⟨f, rfl⟩ : ∃ g, f = g + 1 := ⟨f - 1, by omega⟩
        have hle : ¬ (b.length : Int) ≤ (p : Int) := by omega
        rw [parseG, if_neg hle] at hP
        obtain ⟨⟨k, n, t⟩, x, e, hE⟩ : ∃ ed x e, takeE b p = (ed, x, e) := ⟨_, _, _, rfl⟩
        have hok := @takeE_ok b p
        rw [hE] at hP hok
        dsimp only at hP hok
        by_cases he : e = 0
        · subst he
          obtain ⟨o1, o2, o3⟩ := hok rfl
          obtain ⟨y, rfl⟩ := Int.eq_ofNat_of_zero_le (show 0 ≤ x by omega)
          simp (config := { maxSteps := 3000000 }) [hlt, hE, hl, maxLen_eq]
          refine ⟨⟨by omega, by omega⟩, y, f, acc ++ [⟨k, n, t⟩], ⟨by omega, by omega, by simp; omega, ?_⟩, ⟨rfl, by rw [rowsE_append]; rfl⟩, by omega⟩
          rw [hP, if_neg (by simp)]
          unfold behind
          by_cases h0 : (parseG f b (y : Int)).2 = 0
          · simp [h0]
          · simp [h0]
        · rw [if_pos he] at hP
          have hP' : parseL b = ([], e) := by rw [hP]; unfold behind; rw [if_pos he]
          simp (config := { maxSteps := 3000000 }) [hlt, hE, hl, he, hP']
      · have hle : (b.length : Int) ≤ (p : Int) := by omega
        have hP' : parseL b = (acc, 0) := by
          rw [hP]
          cases f with
          | zero => simp [parseG, behind]
          | succ f => rw [parseG, if_pos hle]; simp [behind]
        simp (config := { maxSteps := 3000000 }) [hlt, hP']
  · cases h

end Go.Proofs.Ytcgllachkjnlgaa.Ab
