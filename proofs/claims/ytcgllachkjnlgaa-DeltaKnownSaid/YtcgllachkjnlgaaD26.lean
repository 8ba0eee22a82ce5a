/- Any two texts: their difference is the document's, it makes the one the other, is normal, and as long as the two. -/
import Derived.Test.YtcgllachkjnlgaaD25
import Derived.Test.YtcgllachkjnlgaaD21
namespace Go.Proofs.Ytcgllachkjnlgaa.Ab
open Go Go.RowKit R
set_option linter.unusedVariables false
set_option linter.unusedSimpArgs false
set_option maxHeartbeats 40000000
set_option maxRecDepth 100000

theorem okL_of {l : List Ed} (h : okP l) : okL l := ⟨h.1, fun e he => by have := h.2 e he; omega⟩

theorem c_diffs (a b : List UInt8) : Con Try.prog 4 [] [.pv (.str a), .pv (.str b)] [] (.pv (.bool true)) := by
  refine con_of (tab_cons c_works (tab_cons c_refs (tab_cons c_apply (tab_cons c_sizes (tab_cons c_normal (tab_cons c_same (tab_cons c_diff (tab_cons c_rDiff tab_nil)))))))) (by kernel_rfl) L.fn4 (by simp) ?_
  unfold L.body4
  by_cases ha : (2000 : Int) < a.length
  · simp (config := { maxSteps := 3000000 }) [ha]
  · by_cases hb : (2000 : Int) < b.length
    · simp (config := { maxSteps := 3000000 }) [ha, hb]
    · have hab : a.length ≤ 1000000 ∧ b.length ≤ 1000000 := by omega
      obtain ⟨ha6, hb6⟩ := hab
      have hP := diff_okP a b ⟨ha6, hb6⟩
      have hL := okL_of hP
      have hA : okA a (diffL a b) := ⟨ha6, hP⟩
      have h4 := diff_len a b ⟨ha6, hb6⟩
      have h9 : (diffL a b).length ≤ 1000000000 := by omega
      have h6 : (diffL a b).length ≤ 1000000 := by omega
      have e1 := diff_apply a b ⟨ha6, hb6⟩
      have e2 := diff_again a b ⟨ha6, hb6⟩
      have e3 := diff_sizes a b ⟨ha6, hb6⟩
      simp (config := { maxSteps := 3000000 }) [ha, hb, ha6, hb6, hP, hL, hA, h9, h6, e1, e2, e3]
      exact flat_rowsE _

end Go.Proofs.Ytcgllachkjnlgaa.Ab
