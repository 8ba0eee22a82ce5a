/- What the functions of package varint do (as far as the deltas need them). -/
import Derived.Test.YtcgllachkjnlgaaCode
import Derived.Test.YtcgllachkjnlgaaAb22
namespace Go.Proofs.Ytcgllachkjnlgaa.Ab
open Go Go.RowKit R
set_option linter.unusedVariables false
set_option maxHeartbeats 4000000

/-- A number, seven digits a byte. -/
def vput (n : Nat) : List UInt8 :=
  if h : n < 128 then [n.toUInt8] else (n % 128 + 128).toUInt8 :: vput (n / 128)
termination_by n
decreasing_by omega

def vputP (n : Int) : List UInt8 := vput n.toNat

theorem vput_small {n : Nat} (h : n < 128) : vput n = [n.toUInt8] := by rw [vput, dif_pos h]
theorem vput_big {n : Nat} (h : ¬ n < 128) : vput n = (n % 128 + 128).toUInt8 :: vput (n / 128) := by rw [vput, dif_neg h]

theorem or_128 (m : Nat) : sbit .or .u8 ((m : Int) % 256) 128 = .int .u8 (((m % 128 + 128).toUInt8.toNat : Nat) : Int) := by
  have key : ∀ x : Fin 256, IntKind.u8.wrap ((BitVec.ofInt IntKind.u8.bits (x.val : Int) ||| BitVec.ofInt IntKind.u8.bits 128).toNat : Nat) = (((x.val % 128 + 128).toUInt8.toNat : Nat) : Int) := by decide +kernel
  have h := key ⟨m % 256, by omega⟩
  have e1 : (m : Int) % 256 = ((m % 256 : Nat) : Int) := by omega
  have e2 : m % 256 % 128 = m % 128 := by omega
  rw [e1]
  simp only [e2] at h
  unfold sbit
  exact congrArg _ h

def Gput : List AV → Option (Prop × AV)
  | [.pv (.int .u64 n)] => some (0 ≤ n ∧ n ≤ 18446744073709551615, .fr 5 (bytesRow (vputP n)))
  | _ => none
@[simp] theorem Gput_eq (n : Int) : Gput [.pv (.int .u64 n)] = some (0 ≤ n ∧ n ≤ 18446744073709551615, .fr 5 (bytesRow (vputP n))) := rfl

theorem c_put : ConT Try.prog 39 Gput := by
  intro ys φ r h hφ
  unfold Gput at h
  split at h
  · rename_i N
    cases h
    obtain ⟨n, rfl⟩ := Int.eq_ofNat_of_zero_le hφ.1
    have hn : n ≤ 18446744073709551615 := by omega
    refine con_of tab_nil (by kernel_rfl) fn39 (by simp) ?_
    unfold body39
    simp (config := { maxSteps := 3000000 })
    refine vwp_loop (fun x : Nat × List UInt8 => x.2 ++ vput x.1 = vput n ∧ x.1 ≤ 18446744073709551615 ∧ (x.2.length ≤ 10 ∧ x.1 * 128 ^ x.2.length ≤ n)) (fun x => ⟨[(0, .pv (.int .u64 x.1)), (3, .own 3)], [(3, .arr 5 (bytesRow x.2))]⟩) (fun x => x.1) [] (n, []) ?_ ?_ ?_
    · simp [hn]
    · simp
    · rintro ⟨m, acc⟩ ⟨h1, h2, h3, h4⟩
      dsimp only at h1 h2 h3 h4
      simp (config := { maxSteps := 3000000 }) [wrap_u8, -Int.emod_emod_of_dvd, maxLen_eq]
      rw [or_128]
      refine ⟨fun hm => ⟨by omega, m / 128, acc ++ [(m % 128 + 128).toUInt8], ⟨?_, by omega, ?_, ?_⟩, ⟨?_, ?_⟩, by omega⟩, fun hm => ⟨by omega, ?_⟩⟩
      · rw [← h1, vput_big (n := m) (by omega)]; simp
      · simp only [List.length_append, List.length_singleton]
        have : ¬ 9 ≤ acc.length := by
          intro h9
          have h128 : 128 ^ 9 ≤ 128 ^ acc.length := Nat.pow_le_pow_right (by decide) h9
          have : 128 * 128 ^ acc.length ≤ m * 128 ^ acc.length := Nat.mul_le_mul_right _ (by omega)
          omega
        omega
      · simp only [List.length_append, List.length_singleton, Nat.pow_succ]
        refine Nat.le_trans ?_ h4
        have : m / 128 * 128 ≤ m := by omega
        calc m / 128 * (128 ^ acc.length * 128) = (m / 128 * 128) * 128 ^ acc.length := by rw [Nat.mul_comm (128 ^ acc.length) 128, Nat.mul_assoc]
          _ ≤ m * 128 ^ acc.length := Nat.mul_le_mul_right _ this
      · simp [IntKind.bits, Int.fdiv_eq_ediv_of_nonneg]
      · rw [bytesRow_append]; rfl
      · rw [vputP, Int.toNat_natCast, ← h1, vput_small (n := m) (by omega), bytesRow_append]
        simp [bytesRow]
  · cases h

end Go.Proofs.Ytcgllachkjnlgaa.Ab
