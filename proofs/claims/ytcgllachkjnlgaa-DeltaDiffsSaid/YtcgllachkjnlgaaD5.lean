/- Bytes compared. -/
import Derived.Test.YtcgllachkjnlgaaD4
import Derived.Test.YtcgllachkjnlgaaAb23
namespace Go.Proofs.Ytcgllachkjnlgaa.Ab
open Go Go.RowKit R
set_option linter.unusedVariables false
set_option maxHeartbeats 4000000

noncomputable def GsameB : List AV → Option (Prop × AV)
  | [.pv (.ro a), .pv (.ro b)] => (dec byteR a).bind fun la => (dec byteR b).map fun lb => (la.length ≤ 1000000000, .pv (.bool (decide (la = lb))))
  | _ => none
@[simp] theorem GsameB_eq (a b : List (List PV)) : GsameB [.pv (.ro a), .pv (.ro b)] = (dec byteR a).bind fun la => (dec byteR b).map fun lb => (la.length ≤ 1000000000, .pv (.bool (decide (la = lb)))) := rfl

theorem c_sameB : ConT Try.prog 20 GsameB := by
  intro ys φ r h hφ
  unfold GsameB at h
  split at h
  · rename_i ra rb
    obtain ⟨a, ha, h⟩ := Option.bind_eq_some_iff.1 h
    obtain ⟨b, hb, h⟩ := Option.map_eq_some_iff.1 h
    cases h
    cases dec_bytes_inv ha
    cases dec_bytes_inv hb
    refine con_of tab_nil (by kernel_rfl) fn20 (by simp) ?_
    unfold body20
    simp (config := { maxSteps := 3000000 })
    refine ⟨fun hne => ?_, fun hlen => ?_⟩
    · intro e; exact hne (by rw [e])
    refine vwp_loop (fun i : Nat => i ≤ a.length ∧ a.take i = b.take i) (fun i => ⟨[(0, .pv (.ro (bytesRow a))), (1, .pv (.ro (bytesRow b))), (5, .pv (.int .i64 i))], []⟩) (fun i => a.length - i) [] 0 (by simp) ?_ ?_
    · simp
    · rintro i ⟨hi, ht⟩
      have w2 : IntKind.i64.wrap ((i : Int) + 1) = (i : Int) + 1 := wrap_i64 (by omega)
      by_cases hlt : i < a.length
      · have r1 := R.bytesRow_at hlt
        have hlb : i < b.length := by omega
        have r2 := R.bytesRow_at hlb
        simp (config := { maxSteps := 3000000 }) [w2, hlt, hlb, r1, r2]
        refine ⟨fun hne e => hne (by subst e; rfl), fun heq => ⟨i + 1, ⟨by omega, ?_⟩, by omega, by omega⟩⟩
        rw [List.take_succ_eq_append_getElem hlt, List.take_succ_eq_append_getElem hlb, ht]
        congr 2
        exact UInt8.toNat_inj.1 (by omega)
      · simp (config := { maxSteps := 3000000 }) [hlt]
        rw [List.take_of_length_le (by omega), List.take_of_length_le (by omega)] at ht
        exact ht
  · cases h

end Go.Proofs.Ytcgllachkjnlgaa.Ab
