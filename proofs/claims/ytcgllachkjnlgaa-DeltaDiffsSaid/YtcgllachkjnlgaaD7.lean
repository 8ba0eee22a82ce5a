/- Few edits; the reference's edits. -/
import Derived.Test.YtcgllachkjnlgaaD6
namespace Go.Proofs.Ytcgllachkjnlgaa.Ab
open Go Go.RowKit R
set_option linter.unusedVariables false
set_option maxHeartbeats 4000000
set_option maxRecDepth 100000

def few (l : List Ed) : Bool := decide (l.length ≤ 30) && l.all fun e => decide (e.t.length ≤ 200)

noncomputable def Gfew : List AV → Option (Prop × AV)
  | [.pv (.ro a)] => (dec rowE a).map fun l => (True, .pv (.bool (few l)))
  | _ => none
@[simp] theorem Gfew_eq (a : List (List PV)) : Gfew [.pv (.ro a)] = (dec rowE a).map fun l => (True, .pv (.bool (few l))) := rfl

theorem c_few : ConT Try.prog 8 Gfew := by
  intro ys φ r h hφ
  unfold Gfew at h
  split at h
  · rename_i ra
    obtain ⟨a, ha, h⟩ := Option.map_eq_some_iff.1 h
    cases h
    cases dec_rowsE_inv ha
    refine con_of tab_nil (by kernel_rfl) fn8 (by simp) ?_
    unfold body8
    simp (config := { maxSteps := 3000000 })
    refine vwp_loop (fun i : Nat => i ≤ a.length ∧ i ≤ 31 ∧ ∀ e ∈ a.take i, e.t.length ≤ 200) (fun i => ⟨[(0, .pv (.ro (rowsE a))), (3, .pv (.int .i64 i))], []⟩) (fun i => a.length - i) [] 0 (by simp) ?_ ?_
    · simp
    · rintro i ⟨hi, hi2, ht⟩
      have w2 : IntKind.i64.wrap ((i : Int) + 1) = (i : Int) + 1 := wrap_i64 (by omega)
      by_cases hlt : i < a.length ∧ i < 31
      · obtain ⟨hl1, hl2⟩ := hlt
        have hl2' : (i : Int) < 31 := by omega
        have r1 := rowsE_at hl1
        simp (config := { maxSteps := 3000000 }) [w2, hl1, hl2', r1]
        refine ⟨fun h200 => ?_, fun h200 => ⟨i + 1, ⟨by omega, by omega, ?_⟩, by omega, by omega⟩⟩
        · unfold few
          simp only [Bool.and_eq_false_iff, List.all_eq_false]
          exact .inr ⟨a[i], List.getElem_mem hl1, by simp; omega⟩
        · intro e he
          rw [List.take_succ_eq_append_getElem hl1, List.mem_append] at he
          rcases he with he | he
          · exact ht e he
          · simp only [List.mem_singleton] at he; subst he; omega
      · have hd : (decide ((i : Int) < (a.length : Int)) && decide ((i : Int) < 31)) = false := by
          simp; omega
        simp (config := { maxSteps := 3000000 })
        refine ⟨fun h1 h2 => absurd ⟨h1, by omega⟩ hlt, fun _ => ?_⟩
        unfold few
        by_cases hle : a.length ≤ 30
        · have : i = a.length := by omega
          subst this
          rw [List.take_length] at ht
          have : a.all (fun e => decide (e.t.length ≤ 200)) = true := by simpa using ht
          rw [this, Bool.and_true]
          congr 1
          apply propext; omega
        · have h1 : decide (a.length ≤ 30) = false := by simpa using hle
          rw [h1, Bool.false_and]
          simp; omega
  · cases h

noncomputable def Grefs : List AV → Option (Prop × AV)
  | [.pv (.ro a)] => (dec rowE a).map fun l => (l.length ≤ 1000000, .fr 61 (rowsE l))
  | _ => none
@[simp] theorem Grefs_eq (a : List (List PV)) : Grefs [.pv (.ro a)] = (dec rowE a).map fun l => (l.length ≤ 1000000, .fr 61 (rowsE l)) := rfl

theorem c_refs : ConT Try.prog 10 Grefs := by
  intro ys φ r h hφ
  unfold Grefs at h
  split at h
  · rename_i ra
    obtain ⟨a, ha, h⟩ := Option.map_eq_some_iff.1 h
    cases h
    cases dec_rowsE_inv ha
    refine con_of tab_nil (by kernel_rfl) fn10 (by simp) ?_
    unfold body10
    simp (config := { maxSteps := 3000000 })
    refine vwp_loop (fun i : Nat => i ≤ a.length) (fun i => ⟨[(0, .pv (.ro (rowsE a))), (3, .own 3), (4, .pv (.int .i64 i))], [(3, .arr 61 (rowsE (a.take i)))]⟩) (fun i => a.length - i) [] 0 (by simp) ?_ ?_
    · simp
    · rintro i hi
      have w2 : IntKind.i64.wrap ((i : Int) + 1) = (i : Int) + 1 := wrap_i64 (by omega)
      by_cases hlt : i < a.length
      · have r1 := rowsE_at hlt
        simp (config := { maxSteps := 3000000 }) [w2, hlt, r1, maxLen_eq]
        refine ⟨by omega, i + 1, by omega, ⟨by omega, ?_⟩, by omega⟩
        rw [List.take_succ_eq_append_getElem hlt, rowsE_append]; rfl
      · simp (config := { maxSteps := 3000000 }) [hlt]
        rw [List.take_of_length_le (by omega)]
  · cases h

end Go.Proofs.Ytcgllachkjnlgaa.Ab
