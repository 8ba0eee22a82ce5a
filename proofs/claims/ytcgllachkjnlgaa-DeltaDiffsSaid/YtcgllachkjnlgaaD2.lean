/- What the reference's functions for numbers do. -/
import Derived.Test.YtcgllachkjnlgaaD1
namespace Go.Proofs.Ytcgllachkjnlgaa.Ab
open Go Go.RowKit R
set_option linter.unusedVariables false
set_option maxHeartbeats 4000000

theorem vput_len (n : Nat) : 1 ≤ (vput n).length := by
  rw [vput]; split <;> simp
theorem vput_len10 : ∀ (k n : Nat), n < 128 ^ (k + 1) → (vput n).length ≤ k + 1
  | 0, n, h => by rw [vput_small (by simpa using h)]; simp
  | k + 1, n, h => by
    by_cases h1 : n < 128
    · rw [vput_small h1]; simp
    · rw [vput_big h1]
      have : n / 128 < 128 ^ (k + 1) := by
        rw [Nat.div_lt_iff_lt_mul (by decide)]
        rw [Nat.pow_succ] at h
        exact h
      have := vput_len10 k (n / 128) this
      simp; omega
theorem vput_le10 {n : Nat} (h : n ≤ 18446744073709551615) : (vput n).length ≤ 10 := vput_len10 9 n (by omega)

def Ggroups : List AV → Option (Prop × AV)
  | [.pv (.int .u64 n)] => some (0 ≤ n ∧ n ≤ 18446744073709551615, .pv (.int .i64 (vputP n).length))
  | _ => none
@[simp] theorem Ggroups_eq (n : Int) : Ggroups [.pv (.int .u64 n)] = some (0 ≤ n ∧ n ≤ 18446744073709551615, .pv (.int .i64 (vputP n).length)) := rfl

theorem c_groups : ConT Try.prog 54 Ggroups := by
  intro ys φ r h hφ
  unfold Ggroups at h
  split at h
  · rename_i N
    cases h
    obtain ⟨n, rfl⟩ := Int.eq_ofNat_of_zero_le hφ.1
    have hn : n ≤ 18446744073709551615 := by omega
    have hl := vput_le10 hn
    refine con_of tab_nil (by kernel_rfl) fn54 (by simp) ?_
    unfold body54
    simp (config := { maxSteps := 3000000 })
    refine vwp_loop (fun x : Nat × Nat => x.2 + (vput x.1).length = (vput n).length + 1 ∧ x.1 ≤ 18446744073709551615) (fun x => ⟨[(0, .pv (.int .u64 x.1)), (3, .pv (.int .i64 x.2))], []⟩) (fun x => x.1) [] (n, 1) ?_ ?_ ?_
    · simp [hn]; omega
    · simp
    · rintro ⟨m, k⟩ ⟨h1, h2⟩
      dsimp only at h1 h2
      have hl2 := vput_len m
      simp (config := { maxSteps := 3000000 }) (disch := omega) [wrap_i64, wrap_u64]
      refine ⟨fun hm => ⟨m / 128, k + 1, ⟨?_, by omega⟩, ⟨by omega, by omega⟩, by omega⟩, fun hm => ?_⟩
      · rw [vput_big (n := m) (by omega)] at h1
        simp at h1; omega
      · rw [vput_small (n := m) (by omega)] at h1
        simp at h1
        rw [vputP, Int.toNat_natCast]; omega
  · cases h

end Go.Proofs.Ytcgllachkjnlgaa.Ab
