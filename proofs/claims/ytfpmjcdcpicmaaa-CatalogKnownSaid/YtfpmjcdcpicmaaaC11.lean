/- Chapter 17: the law CatalogBytes. -/
import Derived.Test.YtfpmjcdcpicmaaaC5
import Derived.Test.YtfpmjcdcpicmaaaC10
namespace Go.Proofs.Ytfpmjcdcpicmaaa.Ab
open Go Go.RowKit R
set_option linter.unusedVariables false
set_option linter.unusedSimpArgs false
set_option maxHeartbeats 40000000
set_option maxRecDepth 100000

theorem vwp_condT' {P : Program} {Γ : Tab} {x : Operand} {a b : AC} {K : St → Prop} {J : Exit → St → Prop} {vs : List (Nat × AV)} {os : List (Nat × AO)} (h : boolOf (ev (look vs) x) = some true) (h1 : vwp P Γ a K J ⟨look vs, lookO os⟩) : vwp P Γ (.cond x a b) K J ⟨look vs, lookO os⟩ := by
  rw [vwp_cond, h]
  exact ⟨fun _ => h1, fun h => by cases h⟩

theorem c_catBytes (l : List En) (b : List UInt8) (hi : ∀ e ∈ l, okI e) :
    Con Try.prog 5 [] [.pv (.ro (rowsC l)), .pv (.ro (bytesRow b))] [] (.pv (.bool true)) := by
  refine con_of (tab_cons c_worksC (tab_cons c_Few (tab_cons c_Cput (tab_cons c_rCput (tab_cons c_RefC (tab_cons c_Cpar (tab_cons c_rCpar (tab_cons c_sameB (tab_cons c_SmC tab_nil))))))))) (by kernel_rfl) fn5 (by simp) ?_
  unfold body5
  cases hfw : fewC l with
  | false => simp (config := { maxSteps := 3000000 }) [hfw]
  | true =>
  by_cases hb : (1000 : Int) < b.length
  · simp (config := { maxSteps := 3000000 }) [hfw, hb]
  have hl20 : l.length ≤ 20 := by
    unfold fewC at hfw
    rw [Bool.and_eq_true] at hfw
    simpa using hfw.1
  have hl9 : l.length ≤ 1000000000 := by omega
  have hl8 : l.length ≤ 100000000 := by omega
  have hl6 : l.length ≤ 1000000 := by omega
  have hb8 : b.length ≤ 100000000 := by omega
  have hpl := parse_len b
  have hpl9 : (parseC b).1.length ≤ 1000000000 := by omega
  have hpl6 : (parseC b).1.length ≤ 1000000 := by omega
  have fl : ∀ l, flatRows (rowsC l) := flat_rowsC
  have fb : ∀ l, flatRows (bytesRow l) := flat_bytesC
  have hal : rightC l = true → (allC l).length ≤ 2000 := fun hr => by
    have h1 := entsB_len (l := l) fun e he => ⟨hi e he, right_nm hr e he⟩
    have h2 := vputP_len' (n := (l.length : Int)) ⟨by omega, by omega⟩
    unfold allC
    rw [List.length_append]
    omega
  have hal9 : (putCt l).1.length ≤ 1000000000 := by
    cases hr : rightC l with
    | false => simp [putCt, hr]
    | true => have := hal hr; simp [putCt, hr]; omega
  apply vwp_cut
  · simp (config := { maxSteps := 3000000 })
    exact ⟨rfl, rfl⟩
  apply vwp_cut
  · simp (config := { maxSteps := 3000000 }) [hfw, hb]
    exact ⟨rfl, rfl⟩
  apply vwp_cut
  · simp (config := { maxSteps := 3000000 }) [hl6, fl]
    exact ⟨hi, rfl, rfl⟩
  apply vwp_cut
  · simp (config := { maxSteps := 3000000 }) [hl8, hl6, fl, fb]
    exact ⟨hi, rfl, rfl⟩
  apply vwp_cut
  · simp (config := { maxSteps := 3000000 }) [hb8, fb]
    exact ⟨rfl, rfl⟩
  apply vwp_cut
  · simp (config := { maxSteps := 3000000 }) [hb8, fb]
    exact ⟨rfl, rfl⟩
  apply vwp_cut
  · simp (config := { maxSteps := 3000000 }) [hal9, hpl9, fl, fb]
    exact ⟨rfl, rfl⟩
  cases hr : rightC l with
  | false =>
    have hp : putCt l = ([], 2) := by simp [putCt, hr]
    apply vwp_cut
    · simp (config := { maxSteps := 3000000 }) [hp]
      exact ⟨rfl, rfl⟩
    by_cases hq : (parseC b).2 = 0
    · obtain ⟨q1, q2, q3, q4⟩ := put_parse hq
      have hqp : putCt (parseC b).1 = (b, 0) := by simp [putCt, q1, q2]
      have hb9 : b.length ≤ 1000000000 := by omega
      apply vwp_cut
      · apply vwp_cut
        · simp (config := { maxSteps := 3000000 }) [hq]
          exact ⟨rfl, rfl⟩
        apply vwp_condT' rfl
        apply vwp_cut
        · simp (config := { maxSteps := 3000000 }) [hpl6, hqp, fb, fl]
          exact ⟨q3, rfl, rfl⟩
        simp (config := { maxSteps := 3000000 }) [hb9, hqp, fb, fl]
        exact ⟨rfl, rfl⟩
      simp (config := { maxSteps := 3000000 })
    · simp (config := { maxSteps := 3000000 }) [hq]
  | true =>
    have hp : putCt l = (allC l, 0) := by simp [putCt, hr]
    have hpp := parse_put hr hi (by omega)
    have ha8 : (allC l).length ≤ 100000000 := by have := hal hr; omega
    apply vwp_cut
    · apply vwp_cut
      · simp (config := { maxSteps := 3000000 }) [hp]
        exact ⟨rfl, rfl⟩
      apply vwp_condT' rfl
      apply vwp_cut
      · simp (config := { maxSteps := 3000000 }) [ha8, hpp, hp, fb, fl]
        exact ⟨rfl, rfl⟩
      simp (config := { maxSteps := 3000000 }) [hl8, hl9, hpp, hp, fb, fl]
      exact ⟨rfl, rfl⟩
    by_cases hq : (parseC b).2 = 0
    · obtain ⟨q1, q2, q3, q4⟩ := put_parse hq
      have hqp : putCt (parseC b).1 = (b, 0) := by simp [putCt, q1, q2]
      have hb9 : b.length ≤ 1000000000 := by omega
      apply vwp_cut
      · apply vwp_cut
        · simp (config := { maxSteps := 3000000 }) [hq]
          exact ⟨rfl, rfl⟩
        apply vwp_condT' rfl
        apply vwp_cut
        · simp (config := { maxSteps := 3000000 }) [hpl6, hqp, fb, fl]
          exact ⟨q3, rfl, rfl⟩
        simp (config := { maxSteps := 3000000 }) [hb9, hqp, fb, fl]
        exact ⟨rfl, rfl⟩
      simp (config := { maxSteps := 3000000 })
    · simp (config := { maxSteps := 3000000 }) [hq]

end Go.Proofs.Ytfpmjcdcpicmaaa.Ab
