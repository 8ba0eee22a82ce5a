/- Chapter 17: catalogs read, as the program and the reference do it. -/
import Derived.Test.YtfpmjcdcpicmaaaC2
namespace Go.Proofs.Ytfpmjcdcpicmaaa.Ab
open Go Go.RowKit R
set_option linter.unusedVariables false
set_option linter.unusedSimpArgs false
set_option maxHeartbeats 4000000
set_option maxRecDepth 100000

theorem takeT_ok (b : List UInt8) (q : Int) : ((takeT b q).2.2 = 0 → 0 ≤ q ∧ q < (takeT b q).2.1 ∧ (takeT b q).2.1 ≤ b.length) ∧ ((takeT b q).2.2 ≠ 0 → (takeT b q).2.1 = q) := by
  obtain ⟨h1, h2, h3, h4, _⟩ := takeL_ok b q
  unfold takeT
  split
  · rename_i h; exact ⟨fun h' => absurd h' h, fun _ => rfl⟩
  · rename_i h
    have h0 : (takeL b q).2.2 = 0 := by simpa using h
    obtain ⟨g1, g2, g3⟩ := h1 h0
    split
    · exact ⟨fun h' => by simp at h', fun _ => rfl⟩
    · rename_i h'
      refine ⟨fun _ => ?_, fun h => absurd rfl h⟩
      dsimp only
      omega
/-- One entry. -/
def takeE1 (b : List UInt8) (q : Int) : En × Int × Int :=
  if (takeT b q).2.2 ≠ 0 then (⟨[], 0⟩, 0, (takeT b q).2.2) else
    if (takeL b (takeT b q).2.1).2.2 ≠ 0 then (⟨[], 0⟩, 0, (takeL b (takeT b q).2.1).2.2) else
      (⟨(takeT b q).1, (takeL b (takeT b q).2.1).1⟩, (takeL b (takeT b q).2.1).2.1, 0)
/-- So many entries from a place. -/
def takeCG (b : List UInt8) : Nat → Int → Int → List En × Int × Int
  | 0, _, q => ([], q, 0)
  | f + 1, n, q => if n ≤ 0 then ([], q, 0) else if (takeE1 b q).2.2 ≠ 0 then ([], 0, (takeE1 b q).2.2) else
      if (takeCG b f (n - 1) (takeE1 b q).2.1).2.2 ≠ 0 then ([], 0, (takeCG b f (n - 1) (takeE1 b q).2.1).2.2)
      else ((takeE1 b q).1 :: (takeCG b f (n - 1) (takeE1 b q).2.1).1, (takeCG b f (n - 1) (takeE1 b q).2.1).2.1, 0)
def finC (b : List UInt8) (R : List En × Int × Int) : List En × Int := if R.2.2 ≠ 0 then ([], R.2.2) else if R.2.1 = b.length ∧ rightC R.1 = true then (R.1, 0) else ([], 2)
def parseC (b : List UInt8) : List En × Int := if (takeL b 0).2.2 ≠ 0 then ([], (takeL b 0).2.2) else finC b (takeCG b (b.length + 1) (takeL b 0).1 (takeL b 0).2.1)
def aheadC (L : List En) (q : List En × Int × Int) : List En × Int × Int := if q.2.2 ≠ 0 then ([], 0, q.2.2) else (L ++ q.1, q.2.1, 0)
theorem takeCG_form (b : List UInt8) : ∀ (k : Nat) (n p : Int), (takeCG b k n p).2.2 ≠ 0 → takeCG b k n p = ([], 0, (takeCG b k n p).2.2)
  | 0, n, p, h => absurd rfl h
  | k + 1, n, p, h => by
    unfold takeCG at h ⊢
    split
    · rename_i h0; rw [if_pos h0] at h; exact absurd rfl h
    · rename_i h0
      rw [if_neg h0] at h
      split
      · rfl
      · split
        · rfl
        · rename_i h1 h2
          rw [if_neg h1, if_neg h2] at h
          exact absurd rfl h
theorem aheadC_nil (b : List UInt8) (k : Nat) (n p : Int) : aheadC [] (takeCG b k n p) = takeCG b k n p := by
  unfold aheadC
  split
  · rename_i h; exact (takeCG_form b k n p h).symm
  · rename_i h
    have : (takeCG b k n p).2.2 = 0 := by simpa using h
    rw [← this]; rfl
theorem aheadC_step (b : List UInt8) (L : List En) (k : Nat) (n p : Int) (hn : 0 < n) (h : (takeE1 b p).2.2 = 0) : aheadC L (takeCG b (k + 1) n p) = aheadC (L ++ [(takeE1 b p).1]) (takeCG b k (n - 1) (takeE1 b p).2.1) := by
  rw [takeCG, if_neg (by omega), if_neg (by simpa using h)]
  by_cases h2 : (takeCG b k (n - 1) (takeE1 b p).2.1).2.2 = 0
  · rw [if_neg (by simpa using h2)]
    simp [aheadC, h2]
  · rw [if_pos h2]
    simp [aheadC, h2]
theorem aheadC_err (b : List UInt8) (L : List En) (k : Nat) (n p : Int) (hn : 0 < n) (h : (takeE1 b p).2.2 ≠ 0) : aheadC L (takeCG b (k + 1) n p) = ([], 0, (takeE1 b p).2.2) := by
  rw [takeCG, if_neg (by omega), if_pos h]
  simp [aheadC, h]
theorem aheadC_end (b : List UInt8) (L : List En) (k : Nat) (n p : Int) (hn : n ≤ 0) : aheadC L (takeCG b k n p) = (L, p, 0) := by
  cases k with
  | zero => simp [takeCG, aheadC]
  | succ k => rw [takeCG, if_pos hn]; simp [aheadC]

noncomputable def GCpar (e : TypeId) : List AV → Option (Prop × AV)
  | [.pv (.ro b)] => (dec byteR b).map fun l => (l.length ≤ 100000000, .tup [.fr e (rowsC (parseC l).1), .pv (.int .i64 (parseC l).2)])
  | _ => none
@[simp] theorem GCpar_eq (e : TypeId) (b : List (List PV)) : GCpar e [.pv (.ro b)] = (dec byteR b).map fun l => (l.length ≤ 100000000, .tup [.fr e (rowsC (parseC l).1), .pv (.int .i64 (parseC l).2)]) := rfl

theorem c_rCpar : ConT Try.prog 38 (GCpar 147) := by
  intro ys φ r h hφ
  unfold GCpar at h
  split at h
  · rename_i rb
    obtain ⟨b, hb, h⟩ := Option.map_eq_some_iff.1 h
    cases h
    cases dec_bytes_inv hb
    have hl : b.length ≤ 1000000000 := by omega
    refine con_of (tab_cons c_rtake (tab_cons (rtakeT_of c_rtake) (tab_cons c_rRt tab_nil))) (by kernel_rfl) fn38 (by simp) ?_
    unfold body38
    by_cases he : (takeL b 0).2.2 = 0
    · have hT : parseC b = finC b (takeCG b (b.length + 1) (takeL b 0).1 (takeL b 0).2.1) := by
        unfold parseC; rw [if_neg (by simpa using he)]
      obtain ⟨k1, k2, k3, k4, k5⟩ := takeL_ok b 0
      obtain ⟨j1, j2, j3⟩ := k1 he
      generalize hP : parseC b = T at *
      simp (config := { maxSteps := 3000000 }) [hl, he]
      generalize (takeL b 0).1 = n at *
      generalize (takeL b 0).2.1 = q0 at *
      refine vwp_loop (fun x : Nat × Int × List En => (x.2.2.length : Int) ≤ n ∧ 0 ≤ x.2.1 ∧ x.2.1 ≤ b.length ∧ (b.length : Int) < x.1 + x.2.1 ∧ x.2.2.length ≤ x.2.1 ∧ T = finC b (aheadC x.2.2 (takeCG b x.1 (n - x.2.2.length) x.2.1)))
        (fun x => ⟨[(0, .pv (.ro (bytesRow b))), (4, .pv (.int .u64 n)), (5, .pv (.int .i64 x.2.1)), (7, .own 7)], [(7, .arr 147 (rowsC x.2.2))]⟩) (fun x => (b.length - x.2.1).toNat) [] (b.length + 1, q0, []) ?_ ?_ ?_
      · exact ⟨by simpa using k2, by show 0 ≤ q0; omega, j3, by simp; omega, by simp; omega, by rw [aheadC_nil]; simpa using hT⟩
      · simp
      · rintro ⟨f, q, acc⟩ ⟨hn, hq0, hq1, hf, hacc, hG⟩
        dsimp only at hn hq0 hq1 hf hacc hG
        have wl : IntKind.u64.wrap (acc.length : Int) = (acc.length : Int) := wrap_u64 (by omega)
        have hq2 : -9223372036854775808 ≤ q := by omega
        have hq3 : q ≤ 9223372036854775807 := by omega
        by_cases hlt : (acc.length : Int) < n
        · obtain ⟨f, rfl⟩ : ∃ g, f = g + 1 := ⟨f - 1, by omega⟩
          obtain ⟨t1, t2⟩ := takeT_ok b q
          by_cases h0 : (takeT b q).2.2 = 0
          · obtain ⟨t3, t4, t5⟩ := t1 h0
            obtain ⟨l1, l2, l3, l4, l5⟩ := takeL_ok b (takeT b q).2.1
            have hq4 : -9223372036854775808 ≤ (takeT b q).2.1 := by omega
            have hq5 : (takeT b q).2.1 ≤ 9223372036854775807 := by omega
            by_cases h1 : (takeL b (takeT b q).2.1).2.2 = 0
            · obtain ⟨l6, l7, l8⟩ := l1 h1
              have hE : takeE1 b q = (⟨(takeT b q).1, (takeL b (takeT b q).2.1).1⟩, (takeL b (takeT b q).2.1).2.1, 0) := by
                unfold takeE1; rw [if_neg (by simpa using h0), if_neg (by simpa using h1)]
              rw [aheadC_step b acc f (n - acc.length) q (by omega) (by rw [hE]), hE] at hG
              simp (config := { maxSteps := 3000000 }) [wl, hlt, hl, hq2, hq3, hq4, hq5, h0, h1, maxLen_eq]
              refine ⟨by omega, f, (takeL b (takeT b q).2.1).2.1, acc ++ [⟨(takeT b q).1, (takeL b (takeT b q).2.1).1⟩], ?_⟩
              have hlen : ((acc ++ [(⟨(takeT b q).1, (takeL b (takeT b q).2.1).1⟩ : En)]).length : Int) = acc.length + 1 := by simp
              have hi : n - ((acc ++ [(⟨(takeT b q).1, (takeL b (takeT b q).2.1).1⟩ : En)]).length : Int) = n - acc.length - 1 := by omega
              refine ⟨⟨by omega, by omega, l8, by omega, by omega, by rw [hi]; exact hG⟩, ⟨rfl, ?_⟩, by omega⟩
              rw [rowsC_append]; rfl
            · have hE : takeE1 b q = (⟨[], 0⟩, 0, (takeL b (takeT b q).2.1).2.2) := by
                unfold takeE1; rw [if_neg (by simpa using h0), if_pos h1]
              rw [aheadC_err b acc f _ q (by omega) (by rw [hE]; exact h1), hE] at hG
              have hTe : T = ([], (takeL b (takeT b q).2.1).2.2) := by rw [hG]; simp [finC, h1]
              simp (config := { maxSteps := 3000000 }) [wl, hlt, hl, hq2, hq3, hq4, hq5, h0, h1, hTe]
          · have hE : takeE1 b q = (⟨[], 0⟩, 0, (takeT b q).2.2) := by unfold takeE1; rw [if_pos h0]
            rw [aheadC_err b acc f _ q (by omega) (by rw [hE]; exact h0), hE] at hG
            have hTe : T = ([], (takeT b q).2.2) := by rw [hG]; simp [finC, h0]
            simp (config := { maxSteps := 3000000 }) [wl, hlt, hl, hq2, hq3, h0, hTe]
        · have hle : n - acc.length ≤ 0 := by omega
          rw [aheadC_end b acc f _ q hle] at hG
          have ha9 : acc.length ≤ 1000000000 := by omega
          by_cases hqb : q = b.length
          · cases hrs : rightC acc with
            | false =>
              have hTe : T = ([], 2) := by rw [hG]; simp [finC, hrs]
              simp (config := { maxSteps := 3000000 }) [wl, hlt, ha9, hrs, hqb, hTe]
            | true =>
              have hTe : T = (acc, 0) := by rw [hG]; simp [finC, hrs, hqb]
              simp (config := { maxSteps := 3000000 }) [wl, hlt, ha9, hrs, hqb, hTe]
          · have hTe : T = ([], 2) := by rw [hG]; simp [finC, hqb]
            simp (config := { maxSteps := 3000000 }) [wl, hlt, ha9, hqb, hTe]
    · have hT : parseC b = ([], (takeL b 0).2.2) := by unfold parseC; rw [if_pos he]
      simp (config := { maxSteps := 3000000 }) [hl, he, hT]
  · cases h

theorem c_Cpar : ConT Try.prog 37 (GCpar 51) := by
  intro ys φ r h hφ
  unfold GCpar at h
  split at h
  · rename_i rb
    obtain ⟨b, hb, h⟩ := Option.map_eq_some_iff.1 h
    cases h
    cases dec_bytes_inv hb
    have hl : b.length ≤ 1000000000 := by omega
    refine con_of (tab_cons c_take (tab_cons c_takeT (tab_cons c_Rt tab_nil))) (by kernel_rfl) fn37 (by simp) ?_
    unfold body37
    obtain ⟨k1, k2, k3, k4, k5⟩ := takeL_ok b 0
    have hT1 : (takeL b 0).2.2 = 0 → parseC b = finC b (takeCG b (b.length + 1) (takeL b 0).1 (takeL b 0).2.1) := fun h => by
      unfold parseC; rw [if_neg (by simpa using h)]
    have hT2 : (takeL b 0).2.2 ≠ 0 → parseC b = ([], (takeL b 0).2.2) := fun h => by unfold parseC; rw [if_pos h]
    generalize hP : parseC b = T at *
    simp (config := { maxSteps := 3000000 }) [hl]
    generalize (takeL b 0).1 = n at *
    generalize (takeL b 0).2.1 = q0 at *
    generalize (takeL b 0).2.2 = e0 at *
    refine vwp_loop (fun x : Nat × Int × List En × Int × Int => 0 ≤ x.2.2.2.1 ∧ x.2.2.2.1 ≤ n ∧
        (x.2.2.2.2 = 0 → T = finC b (aheadC x.2.2.1 (takeCG b x.1 (n - x.2.2.2.1) x.2.1)) ∧ 0 ≤ x.2.1 ∧ x.2.1 ≤ b.length ∧ (b.length : Int) < x.1 + x.2.1 ∧ (x.2.2.1.length : Int) ≤ x.2.1) ∧ (x.2.2.2.2 ≠ 0 → T = ([], x.2.2.2.2)))
      (fun x => ⟨[(0, .pv (.ro (bytesRow b))), (4, .pv (.int .u64 n)), (5, .pv (.int .i64 x.2.1)), (6, .pv (.int .i64 x.2.2.2.2)), (7, .own 7), (8, .pv (.int .u64 x.2.2.2.1))], [(7, .arr 51 (rowsC x.2.2.1))]⟩)
      (fun x => if x.2.2.2.2 = 0 then (b.length - x.2.1).toNat + 1 else 0) [] (b.length + 1, q0, [], 0, e0) ?_ ?_ ?_
    · refine ⟨by show (0 : Int) ≤ 0; omega, k2, fun h => ⟨?_, ?_⟩, hT2⟩
      · rw [aheadC_nil]; simpa using hT1 h
      · have := k1 h
        exact ⟨by show 0 ≤ q0; omega, by show q0 ≤ b.length; omega, by show (b.length : Int) < (b.length + 1 : Nat) + q0; omega, by show (0 : Int) ≤ q0; omega⟩
    · simp
    · rintro ⟨f, q, acc, m, e⟩ ⟨hm0, hm1, hz, hnz⟩
      dsimp only at hm0 hm1 hz hnz
      by_cases he : e = 0
      · subst he
        obtain ⟨hG, g1, g2, g3, g4⟩ := hz rfl
        clear hz hnz
        have hacc : acc.length ≤ 1000000000 := by omega
        have hq2 : -9223372036854775808 ≤ q := by omega
        have hq3 : q ≤ 9223372036854775807 := by omega
        by_cases hlt : m < n
        · obtain ⟨f, rfl⟩ : ∃ g, f = g + 1 := ⟨f - 1, by omega⟩
          have wl : IntKind.u64.wrap (m + 1) = m + 1 := wrap_u64 (by omega)
          obtain ⟨t1, t2⟩ := takeT_ok b q
          by_cases h0 : (takeT b q).2.2 = 0
          · obtain ⟨t3, t4, t5⟩ := t1 h0
            obtain ⟨l1, l2, l3, l4, l5⟩ := takeL_ok b (takeT b q).2.1
            have hq4 : -9223372036854775808 ≤ (takeT b q).2.1 := by omega
            have hq5 : (takeT b q).2.1 ≤ 9223372036854775807 := by omega
            by_cases h1 : (takeL b (takeT b q).2.1).2.2 = 0
            · obtain ⟨l6, l7, l8⟩ := l1 h1
              have hE : takeE1 b q = (⟨(takeT b q).1, (takeL b (takeT b q).2.1).1⟩, (takeL b (takeT b q).2.1).2.1, 0) := by
                unfold takeE1; rw [if_neg (by simpa using h0), if_neg (by simpa using h1)]
              rw [aheadC_step b acc f (n - m) q (by omega) (by rw [hE]), hE] at hG
              simp (config := { maxSteps := 3000000 }) [wl, hlt, hl, hq2, hq3, hq4, hq5, h0, h1, maxLen_eq]
              refine ⟨⟨by omega, by omega⟩, f, (takeL b (takeT b q).2.1).2.1, acc ++ [⟨(takeT b q).1, (takeL b (takeT b q).2.1).1⟩], m + 1, 0, ⟨by omega, by omega, fun _ => ⟨by rw [show n - (m + 1) = n - m - 1 from by omega]; exact hG, by omega, l8, by omega, by simp; omega⟩, fun h => absurd rfl h⟩, ⟨⟨rfl, rfl, rfl⟩, by rw [rowsC_append]; rfl⟩, ?_⟩
              rw [if_pos rfl]; omega
            · have hE : takeE1 b q = (⟨[], 0⟩, 0, (takeL b (takeT b q).2.1).2.2) := by
                unfold takeE1; rw [if_neg (by simpa using h0), if_pos h1]
              rw [aheadC_err b acc f _ q (by omega) (by rw [hE]; exact h1), hE] at hG
              have hTe : T = ([], (takeL b (takeT b q).2.1).2.2) := by rw [hG]; simp [finC, h1]
              simp (config := { maxSteps := 3000000 }) [wl, hlt, hl, hq2, hq3, hq4, hq5, h0, h1, hTe, maxLen_eq]
              refine ⟨⟨by omega, by omega⟩, f, (takeL b (takeT b q).2.1).2.1, acc ++ [⟨(takeT b q).1, (takeL b (takeT b q).2.1).1⟩], m + 1, (takeL b (takeT b q).2.1).2.2, ⟨by omega, by omega, fun h => absurd h h1, fun _ => rfl⟩, ⟨⟨rfl, rfl, rfl⟩, by rw [rowsC_append]; rfl⟩, ?_⟩
              rw [if_neg h1]; omega
          · have hE : takeE1 b q = (⟨[], 0⟩, 0, (takeT b q).2.2) := by unfold takeE1; rw [if_pos h0]
            rw [aheadC_err b acc f _ q (by omega) (by rw [hE]; exact h0), hE] at hG
            have hTe : T = ([], (takeT b q).2.2) := by rw [hG]; simp [finC, h0]
            simp (config := { maxSteps := 3000000 }) [wl, hlt, hl, hq2, hq3, h0, hTe]
        · rw [aheadC_end b acc f _ q (by omega)] at hG
          by_cases hqb : q = b.length
          · cases hrs : rightC acc with
            | false =>
              have hTe : T = ([], 2) := by rw [hG]; simp [finC, hrs]
              simp (config := { maxSteps := 3000000 }) [hlt, hacc, hrs, hqb, hTe]
            | true =>
              have hTe : T = (acc, 0) := by rw [hG]; simp [finC, hrs, hqb]
              simp (config := { maxSteps := 3000000 }) [hlt, hacc, hrs, hqb, hTe]
          · have hTe : T = ([], 2) := by rw [hG]; simp [finC, hqb]
            simp (config := { maxSteps := 3000000 }) [hlt, hacc, hqb, hTe]
      · have hTe := hnz he
        simp (config := { maxSteps := 3000000 }) [he, hTe]
  · cases h

end Go.Proofs.Ytfpmjcdcpicmaaa.Ab
