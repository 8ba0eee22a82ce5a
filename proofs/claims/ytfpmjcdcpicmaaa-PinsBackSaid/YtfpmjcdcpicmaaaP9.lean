/- Chapter 14: Live, as the program and the reference do it. -/
import Derived.Test.YtfpmjcdcpicmaaaP8
namespace Go.Proofs.Ytfpmjcdcpicmaaa.Ab
open Go Go.RowKit R
set_option linter.unusedVariables false
set_option linter.unusedSimpArgs false
set_option maxHeartbeats 4000000
set_option maxRecDepth 100000

noncomputable def GpLive : List AV → Option (Prop × AV)
  | [.agg [.pv (.ro a)], .pv (.int .u64 n), .pv (.int .u64 s)] => (dec rowP a).map fun l => (l.length ≤ 1000000 ∧ okN n ∧ okN s ∧ ∀ e ∈ l, okN e.u, .agg [.fr 117 (rowsP (liveL l n s))])
  | _ => none
@[simp] theorem GpLive_eq (a : List (List PV)) (n s : Int) : GpLive [.agg [.pv (.ro a)], .pv (.int .u64 n), .pv (.int .u64 s)] = (dec rowP a).map fun l => (l.length ≤ 1000000 ∧ okN n ∧ okN s ∧ ∀ e ∈ l, okN e.u, .agg [.fr 117 (rowsP (liveL l n s))]) := rfl
theorem c_Live : ConT Try.prog 78 GpLive := by
  intro ys φ r h hφ
  unfold GpLive at h
  split at h
  · rename_i ra n s
    obtain ⟨a, ha, h⟩ := Option.map_eq_some_iff.1 h
    cases h
    cases dec_rowsP_inv ha
    obtain ⟨hl6, o1, o2, o3⟩ := hφ
    have hl8 : a.length ≤ 100000000 := by omega
    refine con_of (tab_cons c_pClone (tab_consU (p := 0) (k := 998) c_delP (by kernel_rfl) tab_nil)) (by kernel_rfl) fn78 (by simp) ?_
    unfold body78
    simp (config := { maxSteps := 3000000 }) [hl6, hl8, o1, o2]
    exact ⟨o3, flat_rowsP _⟩
  · cases h

noncomputable def GrLive : List AV → Option (Prop × AV)
  | [.pv (.ro a), .pv (.int .u64 n), .pv (.int .u64 s)] => (dec rowP a).map fun l => (l.length ≤ 1000000 ∧ okN n ∧ okN s ∧ ∀ e ∈ l, okN e.u, .fr 120 (rowsP (liveL l n s)))
  | _ => none
@[simp] theorem GrLive_eq (a : List (List PV)) (n s : Int) : GrLive [.pv (.ro a), .pv (.int .u64 n), .pv (.int .u64 s)] = (dec rowP a).map fun l => (l.length ≤ 1000000 ∧ okN n ∧ okN s ∧ ∀ e ∈ l, okN e.u, .fr 120 (rowsP (liveL l n s))) := rfl
theorem c_rLive : ConT Try.prog 81 GrLive := by
  intro ys φ r h hφ
  unfold GrLive at h
  split at h
  · rename_i ra n s
    obtain ⟨a, ha, h⟩ := Option.map_eq_some_iff.1 h
    cases h
    cases dec_rowsP_inv ha
    obtain ⟨hl6, o1, o2, o3⟩ := hφ
    refine con_of (tab_cons c_rpast tab_nil) (by kernel_rfl) fn81 (by simp) ?_
    unfold body81
    simp (config := { maxSteps := 3000000 })
    refine vwp_loop (fun i : Nat => i ≤ a.length) (fun i => ⟨[(0, .pv (.ro (rowsP a))), (1, .pv (.int .u64 n)), (2, .pv (.int .u64 s)), (7, .own 7), (8, .pv (.int .i64 i))], [(7, .arr 120 (rowsP (liveL (a.take i) n s)))]⟩) (fun i => a.length - i) [] 0 (by simp) ?_ ?_
    · simp [liveL]
    · intro i hi
      have w2 : IntKind.i64.wrap ((i : Int) + 1) = (i : Int) + 1 := wrap_i64 (by omega)
      by_cases hlt : i < a.length
      · have r1 := rowsP_at hlt
        have o4 : okN a[i].u := o3 _ (List.getElem_mem hlt)
        have hln : (liveL (a.take i) n s).length ≤ i := by
          unfold liveL
          have := List.length_filter_le (fun e => !pastP n s e) (a.take i)
          simp at this; omega
        have hst : liveL (a.take (i + 1)) n s = liveL (a.take i) n s ++ (if pastP n s a[i] = true then [] else [a[i]]) := by
          unfold liveL
          rw [List.take_succ_eq_append_getElem hlt, List.filter_append]
          cases hp : pastP n s a[i] <;> simp [hp]
        by_cases hq : pastP n s a[i] = true
        · have hq' : pastB n a[i].u s = true := hq
          rw [if_pos hq, List.append_nil] at hst
          simp (config := { maxSteps := 3000000 }) [w2, hlt, r1, hq', o1, o2, o4]
          refine ⟨i + 1, by omega, ⟨by omega, by rw [hst]⟩, by omega⟩
        · have hq0 : pastP n s a[i] = false := by simpa using hq
          have hq' : pastB n a[i].u s = false := hq0
          rw [if_neg hq] at hst
          simp (config := { maxSteps := 3000000 }) [w2, hlt, r1, hq', o1, o2, o4, maxLen_eq]
          refine ⟨⟨by omega, by omega⟩, i + 1, by omega, ⟨by omega, by rw [hst, rowsP_append]; rfl⟩, by omega⟩
      · have hia : i = a.length := by omega
        subst hia
        simp (config := { maxSteps := 3000000 })
  · cases h

end Go.Proofs.Ytfpmjcdcpicmaaa.Ab
