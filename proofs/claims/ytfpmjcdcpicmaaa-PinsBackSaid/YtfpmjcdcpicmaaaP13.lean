/- Chapter 14: Versions at two pins of one version; the chapter's examples. -/
import Derived.Test.YtfpmjcdcpicmaaaP12
namespace Go.Proofs.Ytfpmjcdcpicmaaa.Ab
open Go Go.RowKit R
set_option linter.unusedVariables false
set_option linter.unusedSimpArgs false
set_option maxHeartbeats 4000000
set_option maxRecDepth 100000

noncomputable def GVer : List AV → Option (Prop × AV)
  | [.agg [.pv (.ro [[.int .u64 a, .int .u64 b, .int .u64 c], [.int .u64 d, .int .u64 e, .int .u64 f]])]] => if b = e then some (True, .fr 24 [[.int .u64 b]]) else none
  | _ => none
@[simp] theorem GVer_eq (a b c d e f : Int) : GVer [.agg [.pv (.ro [[.int .u64 a, .int .u64 b, .int .u64 c], [.int .u64 d, .int .u64 e, .int .u64 f]])]] = if b = e then some (True, .fr 24 [[.int .u64 b]]) else none := rfl
theorem c_Ver : ConT Try.prog 79 GVer := by
  intro ys φ r h hφ
  unfold GVer at h
  split at h
  · rename_i a b c d e f
    split at h
    · rename_i hbe
      subst hbe
      cases h
      have r0 : rowAt [[PV.int .u64 a, .int .u64 b, .int .u64 c], [.int .u64 d, .int .u64 b, .int .u64 f]] 0 = [.int .u64 a, .int .u64 b, .int .u64 c] := rfl
      have r1 : rowAt [[PV.int .u64 a, .int .u64 b, .int .u64 c], [.int .u64 d, .int .u64 b, .int .u64 f]] 1 = [.int .u64 d, .int .u64 b, .int .u64 f] := rfl
      have w1 : IntKind.i64.wrap 1 = 1 := wrap_i64 (by omega)
      have w2 : IntKind.i64.wrap 2 = 2 := wrap_i64 (by omega)
      have hd : dec rowN [[PV.int .u64 b], [.int .u64 b]] = some [b, b] := dec_rowsN [b, b]
      have hs : sortedN [b, b] := by
        intro k h
        have hk : k = 0 := by simp at h; omega
        subst hk
        simp
      have hrs : rowsN [b, b] = [[.int .u64 b], [.int .u64 b]] := rfl
      refine con_of (tab_consU (p := 0) (k := 999) c_Sort (by kernel_rfl) (tab_consU (p := 0) (k := 998) c_Cmp (by kernel_rfl) tab_nil)) (by kernel_rfl) fn79 (by simp) ?_
      unfold body79
      simp (config := { maxSteps := 3000000 })
      refine vwp_loop (fun i : Nat => i = 0 ∨ i = 1 ∨ i = 2) (fun i => ⟨[(3, .own 3), (7, .pv (.ro [[PV.int .u64 a, .int .u64 b, .int .u64 c], [.int .u64 d, .int .u64 b, .int .u64 f]])), (8, .pv (.int .i64 2)), (9, .pv (.int .i64 i))], [(3, .arr 24 (([[.int .u64 b], [.int .u64 b]] : List (List PV)).take i))]⟩) (fun i => 2 - i) [] 0 (.inl rfl) ?_ ?_
      · simp
      · rintro i (rfl | rfl | rfl)
        · simp (config := { maxSteps := 3000000 }) [r0, w1, maxLen_eq]
        · simp (config := { maxSteps := 3000000 }) [r1, w2, maxLen_eq]
        · simp (config := { maxSteps := 3000000 }) [hd, hs, hrs]
    · cases h
  · cases h

end Go.Proofs.Ytfpmjcdcpicmaaa.Ab
