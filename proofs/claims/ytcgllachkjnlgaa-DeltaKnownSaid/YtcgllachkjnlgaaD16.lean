/- What two texts have alike; the reference's difference. -/
import Derived.Test.YtcgllachkjnlgaaD13
namespace Go.Proofs.Ytcgllachkjnlgaa.Ab
open Go Go.RowKit R
set_option linter.unusedVariables false
set_option linter.unusedSimpArgs false
set_option maxHeartbeats 4000000
set_option maxRecDepth 100000

def lcp : List UInt8 → List UInt8 → Nat
  | x :: a, y :: b => if x = y then lcp a b + 1 else 0
  | _, _ => 0
theorem lcp_le : ∀ a b : List UInt8, lcp a b ≤ a.length ∧ lcp a b ≤ b.length
  | [], b => by simp [lcp]
  | x :: a, [] => by simp [lcp]
  | x :: a, y :: b => by
    have := lcp_le a b
    unfold lcp
    split <;> simp <;> omega
theorem lcp_step {a b : List UInt8} {n : Nat} (ha : n < a.length) (hb : n < b.length) (h : a[n] = b[n]) : n + lcp (a.drop n) (b.drop n) = n + 1 + lcp (a.drop (n + 1)) (b.drop (n + 1)) := by
  rw [List.drop_eq_getElem_cons ha, List.drop_eq_getElem_cons hb, lcp, if_pos h]; omega
theorem lcp_ne {a b : List UInt8} {n : Nat} (ha : n < a.length) (hb : n < b.length) (h : ¬ a[n] = b[n]) : n + lcp (a.drop n) (b.drop n) = n := by
  rw [List.drop_eq_getElem_cons ha, List.drop_eq_getElem_cons hb, lcp, if_neg h]; rfl
theorem lcp_end {a b : List UInt8} {n : Nat} (h : ¬ (n < a.length ∧ n < b.length)) : n + lcp (a.drop n) (b.drop n) = n := by
  by_cases ha : n < a.length
  · rw [List.drop_eq_nil_of_le (show b.length ≤ n by omega)]
    cases a.drop n <;> rfl
  · rw [List.drop_eq_nil_of_le (show a.length ≤ n by omega)]
    rfl

noncomputable def Gat : List AV → Option (Prop × AV)
  | [.pv (.str s), .pv (.int .i64 i)] => some (0 ≤ i ∧ i < s.length, .pv (.int .u8 ((s.getD i.toNat 0).toNat : Int)))
  | _ => none
@[simp] theorem Gat_eq (s : List UInt8) (i : Int) : Gat [.pv (.str s), .pv (.int .i64 i)] = some (0 ≤ i ∧ i < s.length, .pv (.int .u8 ((s.getD i.toNat 0).toNat : Int))) := rfl
theorem c_at1 : ConT Try.prog 45 Gat := by
  intro ys φ r h hφ
  unfold Gat at h
  split at h
  · cases h
    refine con_of tab_nil (by kernel_rfl) fn45 (by simp) ?_
    unfold body45
    simp (config := { maxSteps := 3000000 }) [hφ]
  · cases h
noncomputable def Gat2 : List AV → Option (Prop × AV)
  | [.pv (.str s), .pv (.int .i64 i)] => some (0 ≤ i ∧ i < s.length ∧ s.length ≤ 1000000000, .pv (.int .u8 ((s.reverse.getD i.toNat 0).toNat : Int)))
  | _ => none
@[simp] theorem Gat2_eq (s : List UInt8) (i : Int) : Gat2 [.pv (.str s), .pv (.int .i64 i)] = some (0 ≤ i ∧ i < s.length ∧ s.length ≤ 1000000000, .pv (.int .u8 ((s.reverse.getD i.toNat 0).toNat : Int))) := rfl
theorem c_at2 : ConT Try.prog 46 Gat2 := by
  intro ys φ r h hφ
  unfold Gat2 at h
  split at h
  · rename_i s I
    cases h
    obtain ⟨i, rfl⟩ := Int.eq_ofNat_of_zero_le hφ.1
    obtain ⟨h1, h2, h3⟩ := hφ
    have hi : i < s.length := by omega
    have w1 : IntKind.i64.wrap ((s.length : Int) - 1) = (s.length : Int) - 1 := wrap_i64 (by omega)
    have w2 : IntKind.i64.wrap ((s.length : Int) - 1 - (i : Int)) = (s.length : Int) - 1 - (i : Int) := wrap_i64 (by omega)
    refine con_of tab_nil (by kernel_rfl) fn46 (by simp) ?_
    unfold body46
    simp (config := { maxSteps := 3000000 }) [w1, w2]
    have e1 : s.length - 1 - i < s.length := by omega
    refine ⟨⟨by omega, by omega⟩, ?_⟩
    simp [e1, hi]
  · cases h

noncomputable def Gcommon : List AV → Option (Prop × AV)
  | [.pv (.str a), .pv (.str b), .clo f []] => if f = 45 then some (a.length ≤ 1000000000 ∧ b.length ≤ 1000000000, .pv (.int .i64 (lcp a b : Nat))) else
      if f = 46 then some (a.length ≤ 1000000000 ∧ b.length ≤ 1000000000, .pv (.int .i64 (lcp a.reverse b.reverse : Nat))) else none
  | _ => none
@[simp] theorem Gcommon_eq (a b : List UInt8) (f : FuncId) : Gcommon [.pv (.str a), .pv (.str b), .clo f []] = if f = 45 then some (a.length ≤ 1000000000 ∧ b.length ≤ 1000000000, .pv (.int .i64 (lcp a b : Nat))) else
      if f = 46 then some (a.length ≤ 1000000000 ∧ b.length ≤ 1000000000, .pv (.int .i64 (lcp a.reverse b.reverse : Nat))) else none := rfl
theorem isfnD1 : isFn Try.prog 45 = true := by kernel_rfl
theorem isfnD2 : isFn Try.prog 46 = true := by kernel_rfl
theorem c_common1 (a b : List UInt8) (hφ : a.length ≤ 1000000000 ∧ b.length ≤ 1000000000) : Con Try.prog 44 [] [.pv (.str a), .pv (.str b), .clo 45 []] [] (.pv (.int .i64 (lcp a b : Nat))) := by
  obtain ⟨hla, hlb⟩ := hφ
  refine con_of (tab_cons c_at1 tab_nil) (by kernel_rfl) fn44 (by simp) ?_
  unfold body44
  simp (config := { maxSteps := 3000000 })
  refine vwp_loop (fun n : Nat => n ≤ a.length ∧ n ≤ b.length ∧ lcp a b = n + lcp (a.drop n) (b.drop n)) (fun n => ⟨[(0, .pv (.str a)), (1, .pv (.str b)), (2, .clo 45 []), (7, .pv (.int .i64 n))], []⟩) (fun n => a.length - n) [] 0 (by simp) ?_ ?_
  · simp
  · rintro n ⟨hna, hnb, hn⟩
    have w2 : IntKind.i64.wrap ((n : Int) + 1) = (n : Int) + 1 := wrap_i64 (by omega)
    by_cases hlt : n < a.length ∧ n < b.length
    · obtain ⟨h1, h2⟩ := hlt
      simp (config := { maxSteps := 3000000 }) [w2, h1, h2, isfnD1]
      refine ⟨fun he => ⟨n + 1, ⟨by omega, by omega, ?_⟩, by omega, by omega⟩, fun he => ?_⟩
      · rw [hn]; exact lcp_step h1 h2 (UInt8.toNat_inj.1 (by omega))
      · rw [hn, lcp_ne h1 h2 (fun e => he (by rw [e]))]
    · by_cases h1 : n < a.length
      · have h2 : ¬ n < b.length := fun h => hlt ⟨h1, h⟩
        simp (config := { maxSteps := 3000000 }) [w2, h1, h2, isfnD1]
        rw [hn, lcp_end hlt]
      · simp (config := { maxSteps := 3000000 }) [w2, h1, isfnD1]
        rw [hn, lcp_end hlt]
theorem c_common2 (a b : List UInt8) (hφ : a.length ≤ 1000000000 ∧ b.length ≤ 1000000000) : Con Try.prog 44 [] [.pv (.str a), .pv (.str b), .clo 46 []] [] (.pv (.int .i64 (lcp a.reverse b.reverse : Nat))) := by
  obtain ⟨hla, hlb⟩ := hφ
  refine con_of (tab_cons c_at2 tab_nil) (by kernel_rfl) fn44 (by simp) ?_
  unfold body44
  simp (config := { maxSteps := 3000000 })
  refine vwp_loop (fun n : Nat => n ≤ a.length ∧ n ≤ b.length ∧ lcp a.reverse b.reverse = n + lcp (a.reverse.drop n) (b.reverse.drop n)) (fun n => ⟨[(0, .pv (.str a)), (1, .pv (.str b)), (2, .clo 46 []), (7, .pv (.int .i64 n))], []⟩) (fun n => a.length - n) [] 0 (by simp) ?_ ?_
  · simp
  · rintro n ⟨hna, hnb, hn⟩
    have w2 : IntKind.i64.wrap ((n : Int) + 1) = (n : Int) + 1 := wrap_i64 (by omega)
    by_cases hlt : n < a.length ∧ n < b.length
    · obtain ⟨h1, h2⟩ := hlt
      have h1' : n < a.reverse.length := by simpa using h1
      have h2' : n < b.reverse.length := by simpa using h2
      have hs := @lcp_step a.reverse b.reverse n h1' h2'
      have hd := @lcp_ne a.reverse b.reverse n h1' h2'
      rw [List.getElem_reverse, List.getElem_reverse] at hs hd
      simp (config := { maxSteps := 3000000 }) [w2, h1, h2, isfnD2]
      refine ⟨hla, hlb, fun he => ⟨n + 1, ⟨by omega, by omega, ?_⟩, by omega, by omega⟩, fun he => ?_⟩
      · rw [hn]; exact hs (UInt8.toNat_inj.1 (by omega))
      · rw [hn, hd (fun e => he (by rw [e]))]
    · have hend := @lcp_end a.reverse b.reverse n (by simpa using hlt)
      by_cases h1 : n < a.length
      · have h2 : ¬ n < b.length := fun h => hlt ⟨h1, h⟩
        simp (config := { maxSteps := 3000000 }) [w2, h1, h2, isfnD2]
        rw [hn, hend]
      · simp (config := { maxSteps := 3000000 }) [w2, h1, isfnD2]
        rw [hn, hend]

theorem c_common : ConT Try.prog 44 Gcommon := by
  intro ys φ r h hφ
  unfold Gcommon at h
  split at h
  · rename_i a b f
    split at h
    · rename_i hf
      subst hf
      cases h
      exact c_common1 a b hφ
    · split at h
      · rename_i hf
        subst hf
        cases h
        exact c_common2 a b hφ
      · cases h
  · cases h

end Go.Proofs.Ytcgllachkjnlgaa.Ab
