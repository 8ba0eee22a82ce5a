/- Chapter 8: the law DirectNone. -/
import Derived.Test.YthblkhafehanfaaR11
namespace Go.Proofs.Ythblkhafehanfaa.Ab
open Go Go.RowKit R
set_option linter.unusedVariables false
set_option linter.unusedSimpArgs false
set_option maxHeartbeats 4000000
set_option maxRecDepth 100000

@[simp] theorem reiP_val (objs : Nat → Option AO) (v : Value) : reiP objs (.pv (.val v)) = some (.val v) := nr rfl
theorem c_dirNone (s : List UInt8) (n : Int) : Con Try.prog 5 [] [.pv (.str s), .pv (.int .i64 n)] [] (.pv (.bool true)) := by
  refine con_of (tab_consG (ks := [2, 0, 0]) c_Add (by kernel_rfl) (tab_consG (ks := [2, 0]) c_Rem (by kernel_rfl) (tab_consG (ks := [2]) c_Sync (by kernel_rfl) (tab_consG (ks := [2, 0]) c_Fail (by kernel_rfl) (tab_cons c_Con (tab_cons c_Pen (tab_cons c_Li (tab_cons c_Get (tab_cons c_wk tab_nil))))))))) (by kernel_rfl) fn5 (by simp) ?_
  unfold body5
  apply vwp_cut
  · simp (config := { maxSteps := 3000000 })
    exact ⟨rfl, rfl⟩
  apply vwp_cut
  · simp (config := { maxSteps := 3000000 })
    exact ⟨rfl, rfl⟩
  apply vwp_cut
  · simp (config := { maxSteps := 3000000 })
    exact ⟨rfl, rfl⟩
  apply vwp_cut
  · simp (config := { maxSteps := 3000000 })
    exact ⟨rfl, rfl⟩
  apply vwp_cut
  · simp (config := { maxSteps := 3000000 })
    exact ⟨rfl, rfl⟩
  apply vwp_cut
  · simp (config := { maxSteps := 3000000 })
    exact ⟨rfl, rfl⟩
  apply vwp_cut
  · refine (show stepsX _ _ _ _ _ from ?_)
    apply stepsX_spl 10 rfl rfl
    · simp (config := { maxSteps := 3000000 })
      exact ⟨rfl, rfl⟩
    apply stepsX_spl 7 rfl rfl
    · simp (config := { maxSteps := 3000000 })
      exact ⟨rfl, rfl⟩
    apply stepsX_spl 4 rfl rfl
    · simp (config := { maxSteps := 3000000 })
      exact ⟨rfl, rfl⟩
    apply stepsX_spl 6 rfl rfl
    · simp (config := { maxSteps := 3000000 })
      exact ⟨rfl, rfl⟩
    apply stepsX_spl 5 rfl rfl
    · simp (config := { maxSteps := 3000000 })
      exact ⟨rfl, rfl⟩
    apply stepsX_spl 5 rfl rfl
    · simp (config := { maxSteps := 3000000 })
      exact ⟨rfl, rfl⟩
    simp (config := { maxSteps := 3000000 })
    exact ⟨rfl, rfl⟩
  simp (config := { maxSteps := 3000000 })

end Go.Proofs.Ythblkhafehanfaa.Ab
