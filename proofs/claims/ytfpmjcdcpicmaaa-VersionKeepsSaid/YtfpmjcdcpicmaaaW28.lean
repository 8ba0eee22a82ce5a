/- Chapter 15: the law VersionKeeps. -/
import Derived.Test.YtfpmjcdcpicmaaaW23
import Derived.Test.YtfpmjcdcpicmaaaW27
import Derived.Test.YtfpmjcdcpicmaaaCodeL8
namespace Go.Proofs.Ytfpmjcdcpicmaaa.Ab
open Go Go.RowKit R
set_option linter.unusedVariables false
set_option linter.unusedSimpArgs false
set_option maxHeartbeats 40000000
set_option maxRecDepth 100000

theorem forget_okV {l : List Vn} (hi : ∀ v ∈ l, okV v) (keep : List Int) : ∀ v ∈ forgetV l keep, okV v := by
  intro v hv
  unfold forgetV at hv
  split at hv
  · cases hv
  · exact okV_hid hi keep v (List.mem_filter.1 hv).1
theorem some_of {l : List Vn} {keep : List Int} {n : Int} (hr : rightV l = true) (h : (getV (forgetV l keep) n).isSome = true) : (getV l n).isSome = true := by
  obtain ⟨v, hv⟩ := Option.isSome_iff_exists.1 h
  obtain ⟨u, hu, _⟩ := forget_get hr hv
  rw [hu]; rfl

theorem c_verKeeps (l : List Vn) (keep again : List Int) (hi : ∀ v ∈ l, okV v) :
    Con Try.prog 8 [] [.pv (.ro (rowsV l)), .pv (.ro (rowsU keep)), .pv (.ro (rowsU again))] [] (.pv (.bool true)) := by
  refine con_of (tab_cons c_worksV (tab_cons c_FewV (tab_cons c_Rv (tab_cons c_Forget (tab_cons c_Cv (tab_cons c_Gv (tab_cons c_Plan (tab_cons c_numsV (tab_cons c_SmI tab_nil))))))))) (by kernel_rfl) fn8 (by simp) ?_
  unfold body8
  cases hfw : fewV l with
  | false => simp (config := { maxSteps := 3000000 }) [hfw]
  | true =>
  obtain ⟨hl12, htx⟩ := few_len hfw
  have hl9 : l.length ≤ 1000000000 := by omega
  by_cases hkp : (20 : Int) < keep.length
  · simp (config := { maxSteps := 3000000 }) [hfw, hkp]
  by_cases hag : (20 : Int) < again.length
  · simp (config := { maxSteps := 3000000 }) [hfw, hkp, hag]
  cases hr : rightV l with
  | false => simp (config := { maxSteps := 3000000 }) [hfw, hkp, hag, hr, hl9]
  | true =>
  have hl5 : l.length ≤ 100000 := by omega
  have hl6 : l.length ≤ 1000000 := by omega
  have hk6 : keep.length ≤ 1000000 := by omega
  have ha6 : again.length ≤ 1000000 := by omega
  have fl : ∀ l, flatRows (rowsV l) := flat_rowsV
  have fi : ∀ l, flatRows (rowsI l) := flat_rowsI
  have hrA := forget_right hr keep
  have hrB := forget_right hrA again
  have hlA := forget_len hr keep
  have hlB := forget_len hrA again
  have hoA := forget_okV hi keep
  have hcA := forget_cur hr keep
  have hplan := fun n v (h : getV (forgetV l keep) n = some v) => forget_plan hr h
  have hget := fun n (h : (getV (forgetV l keep) n).isSome = true) => some_of (n := n) hr h
  have hget2 := fun n (h : (getV (forgetV (forgetV l keep) again) n).isSome = true) => some_of (n := n) hrA h
  have hplA := fun n => planV_len (o := forgetV l keep) n
  have hplL := fun n => planV_len (o := l) n
  generalize hAA : forgetV l keep = A at hrA hrB hlA hlB hoA hcA hplan hget hget2 hplA
  generalize hBB : forgetV A again = B at hrB hlB hget2
  have hA5 : A.length ≤ 100000 := by omega
  have hA6 : A.length ≤ 1000000 := by omega
  have hA9 : A.length ≤ 1000000000 := by omega
  have hB6 : B.length ≤ 1000000 := by omega
  have hB9 : B.length ≤ 1000000000 := by omega
  apply vwp_cut
  · simp (config := { maxSteps := 3000000 })
    exact ⟨rfl, rfl⟩
  apply vwp_cut
  · simp (config := { maxSteps := 3000000 }) [hfw, hkp, hag, hr, hl9]
    exact ⟨rfl, rfl⟩
  apply vwp_cut
  · simp (config := { maxSteps := 3000000 }) [hl5, hk6, hAA, fl]
    exact ⟨hi, rfl, rfl⟩
  apply vwp_cut
  · simp (config := { maxSteps := 3000000 }) [hA5, ha6, hBB, fl]
    exact ⟨hoA, rfl, rfl⟩
  have hn1 : ¬ ((A.length : Int) < (B.length : Int)) := by omega
  have hn2 : ¬ ((l.length : Int) < (A.length : Int)) := by omega
  have hn1' : ¬ (A.length < B.length) := by omega
  have hn2' : ¬ (l.length < A.length) := by omega
  apply vwp_cut
  · simp (config := { maxSteps := 3000000 }) [hA9, hB9, hrA, hrB, hn1, hn2, hn1', hn2']
    exact ⟨rfl, rfl⟩
  generalize hcV : (curV l).getD v0 = C
  generalize hcS : (curV l).isSome = c1
  have eC := eq_cellsI C
  apply vwp_cut
  · simp (config := { maxSteps := 3000000 }) [hl6, hcV, hcS, cellsV]
    exact ⟨rfl, rfl⟩
  apply vwp_cut
  · simp (config := { maxSteps := 3000000 }) [hA6, hcA, hcV, hcS, cellsV]
    exact ⟨rfl, rfl⟩
  apply vwp_cut
  · simp (config := { maxSteps := 3000000 }) [eC]
    exact ⟨rfl, rfl⟩
  apply vwp_cut
  · simp (config := { maxSteps := 3000000 })
    refine vwp_loop (fun i : Nat => i ≤ l.length) (fun i => ⟨[(0, .pv (.ro (rowsV l))), (7, .own 48), (8, .own 51), (13, .pv (.int .i64 i))], [(48, .arr 70 (rowsV A)), (51, .arr 70 (rowsV B))]⟩) (fun i => l.length - i) [] 0 (by simp) ?_ ?_
    · simp
    · rintro i hi1
      have w2 : IntKind.i64.wrap ((i : Int) + 1) = (i : Int) + 1 := wrap_i64 (by omega)
      by_cases hlt : i < l.length
      rotate_left
      · have hie : i = l.length := by omega
        subst hie
        simp (config := { maxSteps := 3000000 })
        exact ⟨rfl, rfl⟩
      have r1 := rowsV_at hlt
      have hon := hi _ (List.getElem_mem hlt)
      have hln : l[i].n = l[i].n := rfl
      generalize hnn : l[i].n = n at r1
      apply vwp_cut
      · simp (config := { maxSteps := 3000000 }) [hlt]
        exact ⟨rfl, rfl⟩
      refine (show vwp _ _ (.block 1 _) _ _ _ from ?_)
      refine (show vwp _ _ (.seq _ _) _ (inBlk 1 _ _) _ from ?_)
      apply vwp_cut
      · simp (config := { maxSteps := 3000000 }) [hlt, r1]
        exact ⟨rfl, rfl⟩
      apply vwp_cut
      · simp (config := { maxSteps := 3000000 }) [hl6, cellsV]
        exact ⟨rfl, rfl⟩
      apply vwp_cut
      · simp (config := { maxSteps := 3000000 }) [hA6, cellsV]
        exact ⟨rfl, rfl⟩
      apply vwp_cut
      · simp (config := { maxSteps := 3000000 }) [hB6, cellsV]
        exact ⟨rfl, rfl⟩
      cases hb2 : (getV A n).isSome with
      | false =>
        have hb3 : (getV B n).isSome = false := by
          cases h3 : (getV B n).isSome with
          | false => rfl
          | true => rw [hget2 n h3] at hb2; cases hb2
        cases hb1 : (getV l n).isSome <;>
        · apply vwp_cut
          · simp (config := { maxSteps := 3000000 }) [hb1, hb2, hb3]
            exact ⟨rfl, rfl⟩
          simp (config := { maxSteps := 3000000 }) [w2]
          exact ⟨i + 1, by omega, by omega, by omega⟩
      | true =>
        have hb1 := hget n hb2
        obtain ⟨a, ha⟩ := Option.isSome_iff_exists.1 hb2
        obtain ⟨u, hu⟩ := Option.isSome_iff_exists.1 hb1
        have hnm := hplan n a ha
        obtain ⟨p1, hch⟩ := plan_of hr hu
        obtain ⟨p2, _⟩ := plan_of hrA ha
        have hpl := hplL n
        have hpa := hplA n
        have hun := (get_inv hu).2.1
        have hPl : planV l n = ((planV l n).1, 0) := by rw [← p1]
        have hPa : planV A n = ((planV A n).1, 0) := by rw [← p2]
        generalize (planV l n).1 = W at hnm hch hpl hPl
        generalize (planV A n).1 = X at hnm hpa hPa
        have hW6 : W.length ≤ 1000000 := by omega
        have hX6 : X.length ≤ 1000000 := by omega
        have hnW9 : (numsV W).length ≤ 1000000000 := by simp [numsV]; omega
        obtain ⟨q, hq⟩ := hch.self
        have hWl : W.length = q.length + 1 := by rw [hq]; simp
        have hql : q.length < W.length := by omega
        have hlast : W[q.length].n = n := by
          have : W[q.length] = u := by simp [hq]
          rw [this, hun]
        have hshape := hch.shape
        have r4 := rowsV_at hql
        rw [hlast] at r4
        have w5 : IntKind.i64.wrap (q.length : Int) = (q.length : Int) := wrap_i64 (by omega)
        have hq0 : ¬ ((q.length : Int) + 1 = 0) := by omega
        generalize (getV B n).isSome = b3
        apply vwp_cut
        · simp (config := { maxSteps := 3000000 }) [hb1, hb2]
          exact ⟨rfl, rfl⟩
        apply vwp_cut
        · simp (config := { maxSteps := 3000000 }) [hb2]
          exact ⟨rfl, rfl⟩
        apply vwp_cut
        · simp (config := { maxSteps := 3000000 }) [hl5, hPl, fl]
          exact ⟨hi, rfl, rfl⟩
        apply vwp_cut
        · simp (config := { maxSteps := 3000000 }) [hA5, hPa, fl]
          exact ⟨hoA, rfl, rfl⟩
        apply vwp_cut
        · apply vwp_cut
          · refine (show stepsX _ _ _ _ _ from ?_)
            apply stepsX_spl 14 rfl rfl
            · simp (config := { maxSteps := 3000000 }) [hW6, hX6, hnm, hnW9, fi]
              exact ⟨rfl, rfl⟩
            simp (config := { maxSteps := 3000000 }) [hWl, w5, r4, hq0]
            exact ⟨by omega, rfl, rfl⟩
          simp (config := { maxSteps := 3000000 })
          exact ⟨rfl, rfl⟩
        simp (config := { maxSteps := 3000000 })
        refine vwp_loop (fun k : Nat => k ≤ W.length) (fun k => ⟨[(0, .pv (.ro (rowsV l))), (7, .own 48), (8, .own 51), (13, .pv (.int .i64 i)), (21, .own 138), (25, .pv (.int .i64 k))], [(138, .arr 70 (rowsV W)), (48, .arr 70 (rowsV A)), (51, .arr 70 (rowsV B))]⟩) (fun k => W.length - k) [] 0 (by simp) ?_ ?_
        · simp
        · rintro k hk
          have w6 : IntKind.i64.wrap ((k : Int) + 1) = (k : Int) + 1 := wrap_i64 (by omega)
          by_cases hkl : k < W.length
          · have r5 := rowsV_at hkl
            obtain ⟨s1, s2⟩ := hshape k hkl
            by_cases hk0 : k = 0
            · subst hk0
              have hb0 := s1.2 rfl
              rw [show ((0 : Nat) : Int) = 0 from rfl] at r5
              have rm : rowAt (rowsV W) (-1) = rowAt (rowsV W) 0 := rfl
              have w8 : IntKind.i64.wrap (-1) = -1 := by decide
              have w9 : IntKind.i64.wrap 1 = 1 := by decide
              cases hin : W[0].inl with
              | true =>
                rw [hin] at r5
                simp (config := { maxSteps := 3000000 }) [hkl, r5, rm, w8, w9]
                exact ⟨1, by omega, by omega, by omega⟩
              | false =>
                rw [hin] at r5
                have hbb : W[0].b = 0 := by unfold baseV at hb0; rw [hin] at hb0; simpa using hb0
                rw [hbb] at r5
                simp (config := { maxSteps := 3000000 }) [hkl, r5, rm, w8, w9]
                exact ⟨1, by omega, by omega, by omega⟩
            · have hkp1 : 0 < k := by omega
              have hb := s2 hkp1
              have hbn : ¬ baseV W[k] = 0 := fun e => hk0 (s1.1 e)
              have hin : W[k].inl = false := by
                cases h : W[k].inl with
                | false => rfl
                | true => exfalso; apply hbn; unfold baseV; rw [h]; rfl
              have hbk : baseV W[k] = W[k].b := by unfold baseV; rw [hin]; simp
              rw [hbk] at hb hbn
              have hk1 : k - 1 < W.length := by omega
              have r6 := rowsV_at hk1
              rw [hin] at r5
              have w7 : IntKind.i64.wrap ((k : Int) - 1) = ((k - 1 : Nat) : Int) := by rw [wrap_i64 (by omega)]; omega
              have hk0' : ¬ ((k : Int) = 0) := by omega
              have hk0s : (0 : Int) < (k : Int) := by omega
              obtain ⟨k1, hk1e⟩ : ∃ m, m = k - 1 := ⟨_, rfl⟩
              simp only [← hk1e] at r6 w7 hk1 hb
              have hk1' : (k1 : Int) < W.length := by omega
              simp (config := { maxSteps := 3000000 }) [w6, hkl, r5, r6, w7, hk0, hk0', hk0s, hkp1, hbn, hb, hk1']
              have hne : ¬ W[k1].n = 0 := by rw [← hb]; exact hbn
              exact ⟨fun _ => ⟨hne, hk1⟩, hne, fun _ => ⟨k + 1, by omega, by omega, by omega⟩⟩
          · have hke : k = W.length := by omega
            subst hke
            simp (config := { maxSteps := 3000000 }) [w2]
            exact ⟨i + 1, by omega, by omega, by omega⟩
  simp (config := { maxSteps := 3000000 })

end Go.Proofs.Ytfpmjcdcpicmaaa.Ab
