/- Chapter 15: the law VersionBytes. -/
import Derived.Test.YtfpmjcdcpicmaaaW12
import Derived.Test.YtfpmjcdcpicmaaaW22
import Derived.Test.YtfpmjcdcpicmaaaCodeL10
namespace Go.Proofs.Ytfpmjcdcpicmaaa.Ab
open Go Go.RowKit R
set_option linter.unusedVariables false
set_option linter.unusedSimpArgs false
set_option maxHeartbeats 40000000
set_option maxRecDepth 100000

theorem vwp_condT' {P : Program} {Γ : Tab} {x : Operand} {a b : AC} {K : St → Prop} {J : Exit → St → Prop} {vs : List (Nat × AV)} {os : List (Nat × AO)} (h : boolOf (ev (look vs) x) = some true) (h1 : vwp P Γ a K J ⟨look vs, lookO os⟩) : vwp P Γ (.cond x a b) K J ⟨look vs, lookO os⟩ := by
  rw [vwp_cond, h]
  exact ⟨fun _ => h1, fun h => by cases h⟩
theorem few_len {l : List Vn} (h : fewV l = true) : l.length ≤ 12 ∧ ∀ v ∈ l, v.t.length ≤ 100 := by
  unfold fewV at h
  rw [Bool.and_eq_true, decide_eq_true_eq, List.all_eq_true] at h
  exact ⟨h.1, fun v hv => by simpa using h.2 v hv⟩

theorem c_verBytes (l : List Vn) (b : List UInt8) (hi : ∀ v ∈ l, okV v) :
    Con Try.prog 10 [] [.pv (.ro (rowsV l)), .pv (.ro (bytesRow b))] [] (.pv (.bool true)) := by
  refine con_of (tab_cons c_worksV (tab_cons c_FewV (tab_cons c_putV (tab_cons c_rputV (tab_cons c_RefV (tab_cons c_Vpar (tab_cons c_rVpar (tab_cons c_sameB (tab_cons c_SmV tab_nil))))))))) (by kernel_rfl) fn10 (by simp) ?_
  unfold body10
  cases hfw : fewV l with
  | false => simp (config := { maxSteps := 3000000 }) [hfw]
  | true =>
  by_cases hb : (1000 : Int) < b.length
  · simp (config := { maxSteps := 3000000 }) [hfw, hb]
  obtain ⟨hl12, htx⟩ := few_len hfw
  have hl9 : l.length ≤ 1000000000 := by omega
  have hl3 : l.length ≤ 1000 := by omega
  have hl6 : l.length ≤ 1000000 := by omega
  have hb8 : b.length ≤ 100000000 := by omega
  have hb9 : b.length ≤ 1000000000 := by omega
  have hpl := parse_lenV b
  have hpl6 : (parseV b).1.length ≤ 1000000 := by omega
  have hpl3 : (parseV b).1.length ≤ 1000 := by omega
  have hot : ∀ v ∈ l, okV v ∧ v.t.length ≤ 1000000 := fun v hv => ⟨hi v hv, by have := htx v hv; omega⟩
  have fl : ∀ l, flatRows (rowsV l) := flat_rowsV
  have fb : ∀ l, flatRows (bytesRow l) := flat_byR
  have hal : (allVB l).length ≤ 20000000 := by
    have h1 := entsVB_len hot
    have h2 := vputP_lenW (n := (l.length : Int)) ⟨by omega, by omega⟩
    unfold allVB
    rw [List.length_append]
    omega
  have hal9 : (putVt l).1.length ≤ 1000000000 := by
    unfold putVt
    split
    · show (allVB l).length ≤ _
      omega
    · simp
  apply vwp_cut
  · simp (config := { maxSteps := 3000000 })
    exact ⟨rfl, rfl⟩
  apply vwp_cut
  · simp (config := { maxSteps := 3000000 }) [hfw, hb]
    exact ⟨rfl, rfl⟩
  apply vwp_cut
  · simp (config := { maxSteps := 3000000 }) [hl3, fl, fb]
    exact ⟨hot, rfl, rfl⟩
  apply vwp_cut
  · simp (config := { maxSteps := 3000000 }) [hl3, hl6, fl, fb]
    exact ⟨hot, rfl, rfl⟩
  apply vwp_cut
  · simp (config := { maxSteps := 3000000 }) [hb8, fb]
    exact ⟨rfl, rfl⟩
  apply vwp_cut
  · simp (config := { maxSteps := 3000000 }) [hb8, fb]
    exact ⟨rfl, rfl⟩
  apply vwp_cut
  · simp (config := { maxSteps := 3000000 }) [hal9, hpl6, fl, fb]
    exact ⟨rfl, rfl⟩
  by_cases hr : rightV l = true ∧ allPl l = true
  rotate_left
  · have hp : putVt l = ([], 2) := by unfold putVt; rw [if_neg hr]
    apply vwp_cut
    · simp (config := { maxSteps := 3000000 }) [hp]
      exact ⟨rfl, rfl⟩
    by_cases hq : (parseV b).2 = 0
    · obtain ⟨q1, q2, q3, q4⟩ := put_parseV hq
      have hqt := parse_txt hq
      have hqo : ∀ v ∈ (parseV b).1, okV v ∧ v.t.length ≤ 1000000 := fun v hv => ⟨(q3 v hv).1, by have := hqt v hv; omega⟩
      have hqp : putVt (parseV b).1 = (b, 0) := by unfold putVt; rw [if_pos ⟨q1, allPl_of q3⟩, q2]
      apply vwp_cut
      · apply vwp_cut
        · simp (config := { maxSteps := 3000000 }) [hq]
          exact ⟨rfl, rfl⟩
        apply vwp_condT' rfl
        apply vwp_cut
        · simp (config := { maxSteps := 3000000 }) [hpl3, hqp, fb, fl]
          exact ⟨hqo, rfl, rfl⟩
        simp (config := { maxSteps := 3000000 }) [hb9, hqp, fb, fl]
        exact ⟨rfl, rfl⟩
      simp (config := { maxSteps := 3000000 })
    · simp (config := { maxSteps := 3000000 }) [hq]
  · have hp : putVt l = (allVB l, 0) := by unfold putVt; rw [if_pos hr]
    have hpp := parse_putV hr.1 (fun e he => ⟨okW_of hr.2 hi e he, by have := htx e he; omega⟩) (by omega)
    have ha8 : (allVB l).length ≤ 100000000 := by omega
    apply vwp_cut
    · apply vwp_cut
      · simp (config := { maxSteps := 3000000 }) [hp]
        exact ⟨rfl, rfl⟩
      apply vwp_condT' rfl
      apply vwp_cut
      · simp (config := { maxSteps := 3000000 }) [ha8, hpp, hp, fb, fl]
        exact ⟨rfl, rfl⟩
      simp (config := { maxSteps := 3000000 }) [hl6, hl9, hpp, hp, fb, fl]
      exact ⟨rfl, rfl⟩
    by_cases hq : (parseV b).2 = 0
    · obtain ⟨q1, q2, q3, q4⟩ := put_parseV hq
      have hqt := parse_txt hq
      have hqo : ∀ v ∈ (parseV b).1, okV v ∧ v.t.length ≤ 1000000 := fun v hv => ⟨(q3 v hv).1, by have := hqt v hv; omega⟩
      have hqp : putVt (parseV b).1 = (b, 0) := by unfold putVt; rw [if_pos ⟨q1, allPl_of q3⟩, q2]
      apply vwp_cut
      · apply vwp_cut
        · simp (config := { maxSteps := 3000000 }) [hq]
          exact ⟨rfl, rfl⟩
        apply vwp_condT' rfl
        apply vwp_cut
        · simp (config := { maxSteps := 3000000 }) [hpl3, hqp, fb, fl]
          exact ⟨hqo, rfl, rfl⟩
        simp (config := { maxSteps := 3000000 }) [hb9, hqp, fb, fl]
        exact ⟨rfl, rfl⟩
      simp (config := { maxSteps := 3000000 })
    · simp (config := { maxSteps := 3000000 }) [hq]

end Go.Proofs.Ytfpmjcdcpicmaaa.Ab
