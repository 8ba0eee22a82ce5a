/- What the reference's functions for numbers do, second part. -/
import Derived.Test.YtcgllachkjnlgaaD2
namespace Go.Proofs.Ytcgllachkjnlgaa.Ab
open Go Go.RowKit R
set_option linter.unusedVariables false
set_option maxHeartbeats 4000000

theorem byte_of (m : Nat) (h : m < 128) : (m.toUInt8.toNat : Int) = m := by
  have : m.toUInt8.toNat = m := by simp [Nat.toUInt8]; omega
  omega
theorem byte_of' (m : Nat) (h : m < 256) : (m.toUInt8.toNat : Int) = m := by
  have : m.toUInt8.toNat = m := by simp [Nat.toUInt8]; omega
  omega

theorem c_rput : ConT Try.prog 41 Gput := by
  intro ys φ r h hφ
  unfold Gput at h
  split at h
  · rename_i N
    cases h
    obtain ⟨n, rfl⟩ := Int.eq_ofNat_of_zero_le hφ.1
    have hn : n ≤ 18446744073709551615 := by omega
    have hl := vput_le10 hn
    have hl1 := vput_len n
    refine con_of (tab_cons c_groups tab_nil) (by kernel_rfl) fn41 (by simp) ?_
    unfold body41
    simp (config := { maxSteps := 3000000 }) [vputP]
    refine ⟨by omega, ?_⟩
    refine vwp_loop (fun x : Nat × List UInt8 => x.2 ++ (if x.2.length < (vput n).length then vput x.1 else []) = vput n ∧ x.1 ≤ 18446744073709551615 ∧ x.2.length ≤ (vput n).length)
      (fun x => ⟨[(0, .pv (.int .u64 x.1)), (3, .own 3), (4, .pv (.int .i64 (vput n).length)), (5, .pv (.int .i64 x.2.length))], [(3, .arr 5 (bytesRow x.2))]⟩) (fun x => (vput n).length - x.2.length) [] (n, []) ?_ ?_ ?_
    · refine ⟨?_, hn, by simp⟩
      rw [if_pos (by simp only [List.length_nil]; omega), List.nil_append]
    · simp
    · rintro ⟨m, acc⟩ ⟨h1, h2, h3⟩
      dsimp only at h1 h2 h3
      have w1 : IntKind.i64.wrap ((acc.length : Int) + 1) = (acc.length : Int) + 1 := wrap_i64 (by omega)
      have w2 : IntKind.u8.wrap ((m : Int) % 128) = (m : Int) % 128 := by rw [wrap_u8]; omega
      have w3 : IntKind.u8.wrap ((m : Int) % 128 + 128) = (m : Int) % 128 + 128 := by rw [wrap_u8]; omega
      have w4 : IntKind.u64.wrap ((m : Int) / 128) = (m : Int) / 128 := wrap_u64 (by omega)
      have w5 : (m : Int).tmod 128 = (m : Int) % 128 := Int.tmod_eq_emod_of_nonneg (by omega)
      by_cases hlt : acc.length < (vput n).length
      · rw [if_pos hlt] at h1
        have hlen : acc.length + (vput m).length = (vput n).length := by rw [← h1]; simp
        by_cases hm : m < 128
        · have hv := vput_small hm
          rw [hv] at h1 hlen
          simp at hlen
          simp (config := { maxSteps := 3000000 }) [w1, w2, w3, w4, w5, hlt, maxLen_eq]
          refine ⟨fun h => by omega, fun h => ⟨by omega, m / 128, acc ++ [m.toUInt8], ⟨?_, by omega, by simp; omega⟩, ⟨⟨by omega, by simp⟩, ?_⟩, by simp; omega⟩⟩
          · rw [if_neg (by simp; omega), List.append_nil]; exact h1
          · rw [bytesRow_append]; simp only [bytesRow, List.map_cons, List.map_nil]; rw [byte_of m hm]
            have : (m : Int) % 128 = m := by omega
            rw [this]
        · have hv := vput_big hm
          have hl2 := vput_len (m / 128)
          rw [hv] at h1 hlen
          simp at hlen
          simp (config := { maxSteps := 3000000 }) [w1, w2, w3, w4, w5, hlt, maxLen_eq]
          refine ⟨fun h => ⟨by omega, m / 128, acc ++ [(m % 128 + 128).toUInt8], ⟨?_, by omega, by simp; omega⟩, ⟨⟨by omega, by simp⟩, ?_⟩, by simp; omega⟩, fun h => by omega⟩
          · rw [if_pos (by simp; omega)]; simpa using h1
          · rw [bytesRow_append]; simp only [bytesRow, List.map_cons, List.map_nil]; rw [byte_of' (m % 128 + 128) (by omega)]
            simp
      · rw [if_neg hlt, List.append_nil] at h1
        simp (config := { maxSteps := 3000000 }) [hlt]
        rw [h1]
  · cases h

end Go.Proofs.Ytcgllachkjnlgaa.Ab
