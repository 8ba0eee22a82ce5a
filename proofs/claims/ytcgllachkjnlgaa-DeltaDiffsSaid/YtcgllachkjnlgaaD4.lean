/- What the functions for texts do. -/
import Derived.Test.YtcgllachkjnlgaaD3
namespace Go.Proofs.Ytcgllachkjnlgaa.Ab
open Go Go.RowKit R
set_option linter.unusedVariables false
set_option maxHeartbeats 4000000

def vtext (s : List UInt8) : List UInt8 := vput s.length ++ s

def Gtext : List AV → Option (Prop × AV)
  | [.pv (.str s)] => some (s.length ≤ 1000000, .fr 5 (bytesRow (vtext s)))
  | _ => none
@[simp] theorem Gtext_eq (s : List UInt8) : Gtext [.pv (.str s)] = some (s.length ≤ 1000000, .fr 5 (bytesRow (vtext s))) := rfl

theorem c_text : ConT Try.prog 38 Gtext := by
  intro ys φ r h hφ
  unfold Gtext at h
  split at h
  · rename_i s
    cases h
    refine con_of (tab_cons c_put tab_nil) (by kernel_rfl) fn38 (by simp) ?_
    have hl := vput_le10 (n := s.length) (by omega)
    have w1 : IntKind.u64.wrap (s.length : Int) = (s.length : Int) := wrap_u64 (by omega)
    unfold body38
    simp (config := { maxSteps := 3000000 }) [w1, vputP, maxLen_eq, vtext, bytesRow_append]
    exact ⟨by omega, by omega, by omega, bytesRow_one s⟩
  · cases h

theorem c_rtext : ConT Try.prog 40 Gtext := by
  intro ys φ r h hφ
  unfold Gtext at h
  split at h
  · rename_i s
    cases h
    refine con_of (tab_cons c_rput tab_nil) (by kernel_rfl) fn40 (by simp) ?_
    have hl := vput_le10 (n := s.length) (by omega)
    have w1 : IntKind.u64.wrap (s.length : Int) = (s.length : Int) := wrap_u64 (by omega)
    unfold body40
    simp (config := { maxSteps := 3000000 }) [w1, vputP]
    refine ⟨by omega, ?_⟩
    refine vwp_loop (fun i : Nat => i ≤ s.length) (fun i => ⟨[(0, .pv (.str s)), (3, .own 8), (4, .pv (.int .i64 i))], [(8, .arr 5 (bytesRow (vput s.length ++ s.take i)))]⟩) (fun i => s.length - i) [] 0 (by omega) ?_ ?_
    · simp
    · intro i hi
      have w2 : IntKind.i64.wrap ((i : Int) + 1) = (i : Int) + 1 := wrap_i64 (by omega)
      by_cases hlt : i < s.length
      · simp (config := { maxSteps := 3000000 }) [w2, hlt, maxLen_eq]
        refine ⟨by omega, i + 1, by omega, ⟨by omega, ?_⟩, by omega⟩
        rw [List.take_succ_eq_append_getElem hlt, ← List.append_assoc, bytesRow_append _ [s[i]]]
        rfl
      · simp (config := { maxSteps := 3000000 }) [hlt]
        rw [List.take_of_length_le (by omega)]
        rfl
  · cases h

end Go.Proofs.Ytcgllachkjnlgaa.Ab
