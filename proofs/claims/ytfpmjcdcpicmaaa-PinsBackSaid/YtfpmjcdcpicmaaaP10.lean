/- Chapter 14: Add, as the program and the reference do it. -/
import Derived.Test.YtfpmjcdcpicmaaaP9
namespace Go.Proofs.Ytfpmjcdcpicmaaa.Ab
open Go Go.RowKit R
set_option linter.unusedVariables false
set_option linter.unusedSimpArgs false
set_option maxHeartbeats 4000000
set_option maxRecDepth 100000

def addP (l : List Pn) (e : Pn) : List Pn × Int := if riseP (l ++ [e]) = true then (l ++ [e], 0) else ([], 2)
noncomputable def GpAdd : List AV → Option (Prop × AV)
  | [.agg [.pv (.ro a)], .agg [.pv (.int .u64 x), .pv (.int .u64 y), .pv (.int .u64 z)]] => (dec rowP a).map fun l => (l.length ≤ 1000000, .tup [.agg [.fr 117 (rowsP (addP l ⟨x, y, z⟩).1)], .pv (.int .i64 (addP l ⟨x, y, z⟩).2)])
  | _ => none
@[simp] theorem GpAdd_eq (a : List (List PV)) (x y z : Int) : GpAdd [.agg [.pv (.ro a)], .agg [.pv (.int .u64 x), .pv (.int .u64 y), .pv (.int .u64 z)]] = (dec rowP a).map fun l => (l.length ≤ 1000000, .tup [.agg [.fr 117 (rowsP (addP l ⟨x, y, z⟩).1)], .pv (.int .i64 (addP l ⟨x, y, z⟩).2)]) := rfl
theorem c_pAdd : ConT Try.prog 76 GpAdd := by
  intro ys φ r h hφ
  unfold GpAdd at h
  split at h
  · rename_i ra x y z
    obtain ⟨a, ha, h⟩ := Option.map_eq_some_iff.1 h
    cases h
    cases dec_rowsP_inv ha
    have hl8 : a.length ≤ 100000000 := by omega
    have hinf : (Try.prog.info? 117).isSome = true := by kernel_rfl
    have hap : rowsP a ++ [[PV.int .u64 x, .int .u64 y, .int .u64 z]] = rowsP (a ++ [⟨x, y, z⟩]) := by rw [rowsP_append]; rfl
    refine con_of (tab_cons c_pClone (tab_cons c_pRight tab_nil)) (by kernel_rfl) fn76 (by simp) ?_
    unfold body76
    unfold addP
    by_cases hr : riseP (a ++ [⟨x, y, z⟩]) = true
    · simp (config := { maxSteps := 3000000 }) [hl8, hr, hap, hinf, maxLen_eq]
      exact ⟨⟨by omega, by omega⟩, by omega⟩
    · simp (config := { maxSteps := 3000000 }) [hl8, hr, hap, hinf, maxLen_eq]
      exact ⟨⟨by omega, by omega⟩, by omega⟩
  · cases h

noncomputable def GrAdd : List AV → Option (Prop × AV)
  | [.pv (.ro a), .agg [.pv (.int .u64 x), .pv (.int .u64 y), .pv (.int .u64 z)]] => (dec rowP a).map fun l => (l.length ≤ 1000000, .tup [.fr 120 (rowsP (addP l ⟨x, y, z⟩).1), .pv (.int .i64 (addP l ⟨x, y, z⟩).2)])
  | _ => none
@[simp] theorem GrAdd_eq (a : List (List PV)) (x y z : Int) : GrAdd [.pv (.ro a), .agg [.pv (.int .u64 x), .pv (.int .u64 y), .pv (.int .u64 z)]] = (dec rowP a).map fun l => (l.length ≤ 1000000, .tup [.fr 120 (rowsP (addP l ⟨x, y, z⟩).1), .pv (.int .i64 (addP l ⟨x, y, z⟩).2)]) := rfl
theorem c_rAdd : ConT Try.prog 74 GrAdd := by
  intro ys φ r h hφ
  unfold GrAdd at h
  split at h
  · rename_i ra x y z
    obtain ⟨a, ha, h⟩ := Option.map_eq_some_iff.1 h
    cases h
    cases dec_rowsP_inv ha
    have hl8 : a.length ≤ 100000000 := by omega
    have h3 := rowsP_three a
    have hap : rowsP a ++ [[PV.int .u64 x, .int .u64 y, .int .u64 z]] = rowsP (a ++ [⟨x, y, z⟩]) := by rw [rowsP_append]; rfl
    refine con_of (tab_cons c_rRight tab_nil) (by kernel_rfl) fn74 (by simp) ?_
    unfold body74
    unfold addP
    by_cases hr : riseP (a ++ [⟨x, y, z⟩]) = true
    · simp (config := { maxSteps := 3000000 }) [hl8, hr, hap, maxLen_eq]
      exact ⟨⟨by omega, by omega, h3⟩, ⟨by omega, by omega⟩, by omega⟩
    · simp (config := { maxSteps := 3000000 }) [hl8, hr, hap, maxLen_eq]
      exact ⟨⟨by omega, by omega, h3⟩, ⟨by omega, by omega⟩, by omega⟩
  · cases h

end Go.Proofs.Ytfpmjcdcpicmaaa.Ab
