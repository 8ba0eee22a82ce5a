/- Chapter 15: the law VersionChanges. -/
import Derived.Test.YtfpmjcdcpicmaaaW23
import Derived.Test.YtfpmjcdcpicmaaaW5
import Derived.Test.YtfpmjcdcpicmaaaCodeL9
namespace Go.Proofs.Ytfpmjcdcpicmaaa.Ab
open Go Go.RowKit R
set_option linter.unusedVariables false
set_option linter.unusedSimpArgs false
set_option maxHeartbeats 40000000
set_option maxRecDepth 100000

theorem addV_len (l : List Vn) (v : Vn) : (addV l v).1.length ≤ l.length + 1 := by
  unfold addV; split
  · simp
  · split <;> simp
theorem inlinedV_len (l : List Vn) (ts : List (List UInt8)) : (inlinedV l ts).1.length ≤ l.length := by
  unfold inlinedV; split
  · simp
  · have := seenV_len (l := l)
    simp [inlV]; omega
theorem forgetV_len (l : List Vn) (keep : List Int) : (forgetV l keep).length ≤ l.length := by
  unfold forgetV; split
  · simp
  · have := List.length_filter_le (fun v => needB (hidL l keep) v.n) (hidL l keep)
    rw [hidL_len] at this; exact this

theorem c_verChanges (l : List Vn) (v : Vn) (keep : List Int) (ts : List (List UInt8)) (hi : ∀ x ∈ l, okV x) (hv : okV v) :
    Con Try.prog 9 [] [.pv (.ro (rowsV l)), .agg (cellsV v), .pv (.ro (rowsU keep)), .pv (.ro (rowsSt ts))] [] (.pv (.bool true)) := by
  refine con_of (tab_cons c_worksV (tab_cons c_FewV (tab_cons c_RefV (tab_cons c_AddV (tab_cons c_rAddV (tab_cons c_Inl (tab_cons c_rInl (tab_cons c_Forget (tab_cons c_rForget (tab_cons c_one (tab_cons c_SmV tab_nil))))))))))) (by kernel_rfl) fn9 (by simp) ?_
  unfold body9
  cases hfw : fewV l with
  | false =>
    simp (config := { maxSteps := 3000000 }) [hfw, cellsV]
  | true =>
  obtain ⟨hl12, htx⟩ := few_len hfw
  by_cases hvt : (100 : Int) < v.t.length
  · simp (config := { maxSteps := 3000000 }) [hfw, cellsV, hvt]
  by_cases hkp : (20 : Int) < keep.length
  · simp (config := { maxSteps := 3000000 }) [hfw, cellsV, hvt, hkp]
  by_cases htl : (20 : Int) < ts.length
  · simp (config := { maxSteps := 3000000 }) [hfw, cellsV, hvt, hkp, htl]
  have hl9 : l.length ≤ 1000000000 := by omega
  have hl5 : l.length ≤ 100000 := by omega
  have hl6 : l.length ≤ 1000000 := by omega
  have hk6 : keep.length ≤ 1000000 := by omega
  have fl : ∀ l, flatRows (rowsV l) := flat_rowsV
  have hv' : okV ⟨v.n, v.b, v.p, v.i, v.s, v.z, v.m, v.t, v.inl, v.hid⟩ := hv
  apply vwp_cut
  · simp (config := { maxSteps := 3000000 }) [cellsV]
    exact ⟨rfl, rfl⟩
  apply vwp_cut
  · simp (config := { maxSteps := 3000000 }) [hfw, hvt, hkp, htl]
    exact ⟨rfl, rfl⟩
  apply vwp_cut
  · simp (config := { maxSteps := 3000000 })
    refine vwp_loop (fun i : Nat => i ≤ ts.length) (fun i => ⟨[(0, .pv (.ro (rowsV l))), (2, .pv (.ro (rowsU keep))), (3, .pv (.ro (rowsSt ts))), (5, .ptr 5 0), (9, .pv (.int .i64 i))], [(5, .box (cellsV v))]⟩) (fun i => ts.length - i) [] 0 (by simp) ?_ ?_
    · simp [cellsV]
    · rintro i hi'
      have w2 : IntKind.i64.wrap ((i : Int) + 1) = (i : Int) + 1 := wrap_i64 (by omega)
      by_cases hlt : i < ts.length
      · have r1 := rowsSt_at hlt
        by_cases h100 : (100 : Int) < ts[i].length
        · simp (config := { maxSteps := 3000000 }) [w2, hlt, r1, h100]
        · simp (config := { maxSteps := 3000000 }) [w2, hlt, r1, h100, cellsV]
          exact ⟨i + 1, by omega, by omega, by omega⟩
      · have hie : i = ts.length := by omega
        subst hie
        simp (config := { maxSteps := 3000000 }) [cellsV]
        exact ⟨rfl, rfl⟩
  have hal := addV_len l v
  have hil := inlinedV_len l ts
  have hfl := forgetV_len l keep
  generalize hPA : addV l v = PA at hal
  generalize hPX : inlinedV l ts = PX at hil
  generalize hPK : forgetV l keep = PK at hfl
  have hve : addV l ⟨v.n, v.b, v.p, v.i, v.s, v.z, v.m, v.t, v.inl, v.hid⟩ = PA := hPA
  have hal6 : PA.1.length ≤ 1000000 := by omega
  have hil6 : PX.1.length ≤ 1000000 := by omega
  have hfl6 : PK.length ≤ 1000000 := by omega
  apply vwp_cut
  · simp (config := { maxSteps := 3000000 }) [hl6, fl]
    exact ⟨rfl, rfl⟩
  apply vwp_cut
  · simp (config := { maxSteps := 3000000 }) [hl5, hv', hve, fl]
    exact ⟨hi, rfl, rfl⟩
  apply vwp_cut
  · simp (config := { maxSteps := 3000000 }) [hl5, hv', hve, fl]
    exact ⟨hi, rfl, rfl⟩
  apply vwp_cut
  · simp (config := { maxSteps := 3000000 }) [hl5, hPX, fl]
    exact ⟨hi, rfl, rfl⟩
  apply vwp_cut
  · simp (config := { maxSteps := 3000000 }) [hl5, hPX, fl]
    exact ⟨hi, rfl, rfl⟩
  apply vwp_cut
  · simp (config := { maxSteps := 3000000 }) [hl5, hk6, hPK, fl]
    exact ⟨hi, rfl, rfl⟩
  apply vwp_cut
  · apply vwp_cut
    · refine (show stepsX _ _ _ _ _ from ?_)
      apply stepsX_spl 9 rfl rfl
      · simp (config := { maxSteps := 3000000 }) [hal6]
        exact ⟨rfl, rfl⟩
      apply stepsX_spl 11 rfl rfl
      · simp (config := { maxSteps := 3000000 }) [hil6]
        exact ⟨rfl, rfl⟩
      simp (config := { maxSteps := 3000000 }) [hl5, hk6, hPK, hfl6, fl]
      exact ⟨hi, rfl, rfl⟩
    simp (config := { maxSteps := 3000000 })
    exact ⟨rfl, rfl⟩
  have hz : ∀ (m : List Vn) (i : Nat), (rowsV m).set i [.int .u64 0, .int .u64 0, .int .u64 0, .int .u64 0, .int .u64 0, .int .u64 0, .int .u64 0, .str [], .bool false, .bool false] = rowsV (m.set i v0) := fun m i => rowsV_set m i v0
  have hten := fun (m : List Vn) (i : Nat) (h : i < m.length) => rowsV_at h
  simp (config := { maxSteps := 3000000 })
  refine vwp_loop (fun x : Nat × List Vn => x.1 ≤ PA.1.length ∧ x.2.length = PA.1.length) (fun x => ⟨[(0, .pv (.ro (rowsV l))), (10, .own 57), (11, .own 61), (15, .own 74), (19, .own 85), (20, .pv (.int .i64 x.1))], [(57, .arr 75 (rowsV l)), (61, .arr 70 (rowsV x.2)), (74, .arr 70 (rowsV PX.1)), (85, .arr 70 (rowsV PK))]⟩) (fun x => PA.1.length - x.1) [] (0, PA.1) ?_ ?_ ?_
  · exact ⟨by simp, rfl⟩
  · simp
  · rintro ⟨i, m⟩ ⟨hi1, hm⟩
    dsimp only at hi1 hm
    have w2 : IntKind.i64.wrap ((i : Int) + 1) = (i : Int) + 1 := wrap_i64 (by omega)
    by_cases hlt : i < PA.1.length
    · have r1 := hten m i (by omega)
      simp (config := { maxSteps := 3000000 }) [w2, hlt, hm, r1, hz]
      exact ⟨i + 1, m.set i v0, ⟨by omega, by simpa using hm⟩, ⟨by omega, rfl⟩, by omega⟩
    · simp (config := { maxSteps := 3000000 }) [hlt, hm]
      refine vwp_loop (fun x : Nat × List Vn => x.1 ≤ PK.length ∧ x.2.length = PK.length) (fun x => ⟨[(0, .pv (.ro (rowsV l))), (10, .own 57), (15, .own 74), (19, .own 85), (21, .pv (.int .i64 x.1))], [(57, .arr 75 (rowsV l)), (74, .arr 70 (rowsV PX.1)), (85, .arr 70 (rowsV x.2))]⟩) (fun x => PK.length - x.1) [] (0, PK) ?_ ?_ ?_
      · exact ⟨by simp, rfl⟩
      · simp
      · rintro ⟨j, m2⟩ ⟨hj1, hm2⟩
        dsimp only at hj1 hm2
        have w3 : IntKind.i64.wrap ((j : Int) + 1) = (j : Int) + 1 := wrap_i64 (by omega)
        by_cases hjl : j < PK.length
        · have r2 := hten m2 j (by omega)
          simp (config := { maxSteps := 3000000 }) [w3, hjl, hm2, r2, hz]
          exact ⟨j + 1, m2.set j v0, ⟨by omega, by simpa using hm2⟩, ⟨by omega, rfl⟩, by omega⟩
        · simp (config := { maxSteps := 3000000 }) [hjl, hm2]
          refine vwp_loop (fun x : Nat × List Vn => x.1 ≤ PX.1.length ∧ x.2.length = PX.1.length) (fun x => ⟨[(0, .pv (.ro (rowsV l))), (10, .own 57), (15, .own 74), (22, .pv (.int .i64 x.1))], [(57, .arr 75 (rowsV l)), (74, .arr 70 (rowsV x.2))]⟩) (fun x => PX.1.length - x.1) [] (0, PX.1) ?_ ?_ ?_
          · exact ⟨by simp, rfl⟩
          · simp
          · rintro ⟨k, m3⟩ ⟨hk1, hm3⟩
            dsimp only at hk1 hm3
            have w4 : IntKind.i64.wrap ((k : Int) + 1) = (k : Int) + 1 := wrap_i64 (by omega)
            by_cases hkl : k < PX.1.length
            · have r3 := hten m3 k (by omega)
              simp (config := { maxSteps := 3000000 }) [w4, hkl, hm3, r3, hz]
              exact ⟨k + 1, m3.set k v0, ⟨by omega, by simpa using hm3⟩, ⟨by omega, rfl⟩, by omega⟩
            · simp (config := { maxSteps := 3000000 }) [hkl, hm3, hl6]

end Go.Proofs.Ytfpmjcdcpicmaaa.Ab
