/- Chapter 15: the law VersionTells. -/
import Derived.Test.YtfpmjcdcpicmaaaW24
import Derived.Test.YtfpmjcdcpicmaaaCodeL7
namespace Go.Proofs.Ytfpmjcdcpicmaaa.Ab
open Go Go.RowKit R
set_option linter.unusedVariables false
set_option linter.unusedSimpArgs false
set_option maxHeartbeats 40000000
set_option maxRecDepth 100000

theorem eq_cellsI (v : Vn) : eqPs [.int .u64 v.n, .int .u64 v.b, .int .u64 v.p, .int .u64 v.i, .int .u64 v.s, .int .u64 v.z, .int .u64 v.m, .str v.t, .bool v.inl, .bool v.hid] [.int .u64 v.n, .int .u64 v.b, .int .u64 v.p, .int .u64 v.i, .int .u64 v.s, .int .u64 v.z, .int .u64 v.m, .str v.t, .bool v.inl, .bool v.hid] = true := by
  rw [eq_cells]; simp
theorem steps_cut {P : Program} {Γ : Tab} {is js : List AI} {K : St → Prop} {st : St} (vs : List (Nat × AV)) (os : List (Nat × AO)) (h1 : steps P Γ is (fun st' => st' = ⟨look vs, lookO os⟩) st) (h2 : steps P Γ js K ⟨look vs, lookO os⟩) : steps P Γ (is ++ js) K st := by
  have key : ∀ (is : List AI) (st : St), steps P Γ is (fun st' => steps P Γ js K st') st → steps P Γ (is ++ js) K st := by
    intro is
    induction is with
    | nil => exact fun st h => h
    | cons i is ih => exact fun st h => stepD_mono (fun st hs => ih st hs) h
  exact key is st (steps_wk (fun st' (hs : st' = _) => by rw [hs]; exact h2) h1)
/-- A row of operations of a drawn region, cut behind the first k. -/
theorem steps_spl {P : Program} {Γ : Tab} (k : Nat) {is l1 l2 : List AI} {K : St → Prop} {st : St} {vs : List (Nat × AV)} {os : List (Nat × AO)} (e1 : is.take k = l1) (e2 : is.drop k = l2) (h1 : steps P Γ l1 (fun st' => st' = ⟨look vs, lookO os⟩) st) (h2 : steps P Γ l2 K ⟨look vs, lookO os⟩) : steps P Γ is K st := by
  subst e1 e2
  have := steps_cut vs os h1 h2
  rwa [List.take_append_drop] at this

theorem c_verTells (l : List Vn) (n : Int) (hi : ∀ v ∈ l, okV v) :
    Con Try.prog 7 [] [.pv (.ro (rowsV l)), .pv (.int .u64 n)] [] (.pv (.bool true)) := by
  refine con_of (tab_cons c_worksV (tab_cons c_FewV (tab_cons c_RefV (tab_cons c_Gv (tab_cons c_rGv (tab_cons c_Cv (tab_cons c_rCv (tab_cons c_Plan (tab_cons c_rPlan (tab_cons c_Seen (tab_cons c_rSeen (tab_cons c_one (tab_cons c_SmV (tab_cons c_Rv (tab_cons c_rRv tab_nil))))))))))))))) (by kernel_rfl) fn7 (by simp) ?_
  unfold body7
  cases hfw : fewV l with
  | false => simp (config := { maxSteps := 3000000 }) [hfw]
  | true =>
  obtain ⟨hl12, htx⟩ := few_len hfw
  have hl9 : l.length ≤ 1000000000 := by omega
  have hl5 : l.length ≤ 100000 := by omega
  have hl6 : l.length ≤ 1000000 := by omega
  have fl : ∀ l, flatRows (rowsV l) := flat_rowsV
  have hpl := planV_len (o := l) n
  have hsl := seenV_len (l := l)
  have hpl6 : (planV l n).1.length ≤ 1000000 := by omega
  have hsl6 : (seenV l).length ≤ 1000000 := by omega
  apply vwp_cut
  · simp (config := { maxSteps := 3000000 })
    exact ⟨rfl, rfl⟩
  apply vwp_cut
  · simp (config := { maxSteps := 3000000 }) [hfw]
    exact ⟨rfl, rfl⟩
  apply vwp_cut
  · simp (config := { maxSteps := 3000000 }) [hl6, fl]
    exact ⟨rfl, rfl⟩
  generalize hgA : (getV l n).getD v0 = A
  generalize hgO : (getV l n).isSome = o1
  generalize hcA : (curV l).getD v0 = B
  generalize hcO : (curV l).isSome = o2
  generalize hPW : planV l n = PW at hpl hpl6
  generalize hSW : seenV l = SW at hsl hsl6
  apply vwp_cut
  · simp (config := { maxSteps := 3000000 }) [hl6, hgA, hgO, cellsV]
    exact ⟨rfl, rfl⟩
  apply vwp_cut
  · simp (config := { maxSteps := 3000000 }) [hl6, hgA, hgO, cellsV]
    exact ⟨rfl, rfl⟩
  apply vwp_cut
  · simp (config := { maxSteps := 3000000 }) [hl6, hcA, hcO, cellsV]
    exact ⟨rfl, rfl⟩
  apply vwp_cut
  · simp (config := { maxSteps := 3000000 }) [hl6, hcA, hcO, cellsV]
    exact ⟨rfl, rfl⟩
  apply vwp_cut
  · simp (config := { maxSteps := 3000000 }) [hl5, hPW, fl]
    exact ⟨hi, rfl, rfl⟩
  apply vwp_cut
  · simp (config := { maxSteps := 3000000 }) [hl5, hPW, fl]
    exact ⟨hi, rfl, rfl⟩
  apply vwp_cut
  · simp (config := { maxSteps := 3000000 }) [hl6, hSW, fl]
    exact ⟨rfl, rfl⟩
  have eI := eq_cellsI A
  have eJ := eq_cellsI B
  apply vwp_cut
  · apply vwp_cut
    · refine (show steps _ _ _ _ _ from ?_)
      apply steps_spl 9 rfl rfl
      · simp (config := { maxSteps := 3000000 }) [eI]
        exact ⟨rfl, rfl⟩
      apply steps_spl 11 rfl rfl
      · simp (config := { maxSteps := 3000000 }) [eJ]
        exact ⟨rfl, rfl⟩
      apply steps_spl 11 rfl rfl
      · simp (config := { maxSteps := 3000000 }) [hpl6]
        exact ⟨rfl, rfl⟩
      apply steps_spl 7 rfl rfl
      · simp (config := { maxSteps := 3000000 }) [hl6, hSW, hsl6, fl]
        exact ⟨rfl, rfl⟩
      simp (config := { maxSteps := 3000000 }) [hl9]
      exact ⟨hi, rfl, rfl⟩
    simp (config := { maxSteps := 3000000 })
    exact ⟨rfl, rfl⟩
  have hz : ∀ (m : List Vn) (i : Nat), (rowsV m).set i [.int .u64 0, .int .u64 0, .int .u64 0, .int .u64 0, .int .u64 0, .int .u64 0, .int .u64 0, .str [], .bool false, .bool false] = rowsV (m.set i v0) := fun m i => rowsV_set m i v0
  have hten := fun (m : List Vn) (i : Nat) (h : i < m.length) => rowsV_at h
  simp (config := { maxSteps := 3000000 })
  refine vwp_loop (fun x : Nat × List Vn => x.1 ≤ SW.length ∧ x.2.length = SW.length) (fun x => ⟨[(0, .pv (.ro (rowsV l))), (5, .own 26), (14, .own 52), (18, .own 62), (19, .pv (.int .i64 x.1))], [(26, .arr 75 (rowsV l)), (52, .arr 70 (rowsV PW.1)), (62, .arr 70 (rowsV x.2))]⟩) (fun x => SW.length - x.1) [] (0, SW) ?_ ?_ ?_
  · exact ⟨by simp, rfl⟩
  · simp
  · rintro ⟨i, m⟩ ⟨hi1, hm⟩
    dsimp only at hi1 hm
    have w2 : IntKind.i64.wrap ((i : Int) + 1) = (i : Int) + 1 := wrap_i64 (by omega)
    by_cases hlt : i < SW.length
    · have r1 := hten m i (by omega)
      simp (config := { maxSteps := 3000000 }) [w2, hlt, hm, r1, hz]
      exact ⟨i + 1, m.set i v0, ⟨by omega, by simpa using hm⟩, ⟨by omega, rfl⟩, by omega⟩
    · simp (config := { maxSteps := 3000000 }) [hlt, hm]
      refine vwp_loop (fun x : Nat × List Vn => x.1 ≤ PW.1.length ∧ x.2.length = PW.1.length) (fun x => ⟨[(0, .pv (.ro (rowsV l))), (5, .own 26), (14, .own 52), (20, .pv (.int .i64 x.1))], [(26, .arr 75 (rowsV l)), (52, .arr 70 (rowsV x.2))]⟩) (fun x => PW.1.length - x.1) [] (0, PW.1) ?_ ?_ ?_
      · exact ⟨by simp, rfl⟩
      · simp
      · rintro ⟨j, m'⟩ ⟨hj1, hm'⟩
        dsimp only at hj1 hm'
        have w3 : IntKind.i64.wrap ((j : Int) + 1) = (j : Int) + 1 := wrap_i64 (by omega)
        by_cases hjl : j < PW.1.length
        · have r2 := hten m' j (by omega)
          simp (config := { maxSteps := 3000000 }) [w3, hjl, hm', r2, hz]
          exact ⟨j + 1, m'.set j v0, ⟨by omega, by simpa using hm'⟩, ⟨by omega, rfl⟩, by omega⟩
        · simp (config := { maxSteps := 3000000 }) [hjl, hm', hl6]

end Go.Proofs.Ytfpmjcdcpicmaaa.Ab
