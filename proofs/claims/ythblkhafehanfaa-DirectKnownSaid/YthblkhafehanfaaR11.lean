/- Chapter 8: the examples. -/
import Derived.Test.YthblkhafehanfaaR9
namespace Go.Proofs.Ythblkhafehanfaa.Ab
open Go Go.RowKit R
set_option linter.unusedVariables false
set_option linter.unusedSimpArgs false
set_option maxHeartbeats 4000000
set_option maxRecDepth 100000

def ea : Nm := ⟨[97], 1⟩
def eb : Nm := ⟨[98], 2⟩
def pA : Pd := ⟨[], [ea], [⟨true, ea⟩]⟩
def pB : Pd := ⟨[ea], [ea], []⟩
def pC : Pd := ⟨[ea], [ea, eb], [⟨true, eb⟩]⟩
def pD : Pd := ⟨[ea], [eb], [⟨true, eb⟩, ⟨false, ea⟩]⟩
theorem k1 : addP ⟨[], [], []⟩ [97] 1 = (⟨[], [ea], [⟨true, ea⟩]⟩, 0) := rfl
theorem k2 : failP ⟨[], [ea], [⟨true, ea⟩]⟩ 1 = ⟨[ea], [ea], []⟩ := rfl
theorem k3 : addP ⟨[ea], [ea], []⟩ [98] 2 = (⟨[ea], [ea, eb], [⟨true, eb⟩]⟩, 0) := rfl
theorem k4 : remP ⟨[ea], [ea, eb], [⟨true, eb⟩]⟩ [97] = (⟨[ea], [eb], [⟨true, eb⟩, ⟨false, ea⟩]⟩, 1, 0) := rfl
theorem k5 : failP ⟨[ea], [eb], [⟨true, eb⟩, ⟨false, ea⟩]⟩ 1 = ⟨[ea, eb], [ea, eb], []⟩ := rfl
theorem k6 : failP ⟨[ea], [eb], [⟨true, eb⟩, ⟨false, ea⟩]⟩ 0 = ⟨[ea], [ea], []⟩ := rfl
theorem k7 : failP ⟨[ea], [eb], [⟨true, eb⟩, ⟨false, ea⟩]⟩ 2 = ⟨[eb], [eb], []⟩ := rfl
theorem k8 : remP ⟨[ea], [eb], [⟨true, eb⟩, ⟨false, ea⟩]⟩ [120] = (⟨[ea], [eb], [⟨true, eb⟩, ⟨false, ea⟩]⟩, 0, 80) := rfl
theorem k9 : addP ⟨[ea], [eb], [⟨true, eb⟩, ⟨false, ea⟩]⟩ [98] 1 = (⟨[ea], [eb], [⟨true, eb⟩, ⟨false, ea⟩]⟩, 81) := rfl
theorem k10 : addP ⟨[ea], [eb], [⟨true, eb⟩, ⟨false, ea⟩]⟩ [] 1 = (⟨[ea], [eb], [⟨true, eb⟩, ⟨false, ea⟩]⟩, 2) := rfl
theorem srt_ab : srtN [ea, eb] := by simp [srtN, ea, eb, Op.bytesLess]
theorem srt_a : srtN [ea] := by simp [srtN]
theorem srt_b : srtN [eb] := by simp [srtN]
theorem s1 : sortN [ea, eb] = [ea, eb] := Rm.sort ⟨List.Perm.refl _, srt_ab⟩
theorem s2 : sortN [ea] = [ea] := Rm.sort ⟨List.Perm.refl _, srt_a⟩
theorem s3 : sortN [eb] = [eb] := Rm.sort ⟨List.Perm.refl _, srt_b⟩
theorem n1 : ndN [ea, eb] := srtN_nd srt_ab
theorem n2 : ndN [ea] := srtN_nd srt_a
theorem n3 : ndN [eb] := srtN_nd srt_b
theorem r_ab : ([[.str [97], .int .i64 1], [.str [98], .int .i64 2]] : List (List PV)) = rowsN [ea, eb] := rfl
theorem r_a : ([[.str [97], .int .i64 1]] : List (List PV)) = rowsN [ea] := rfl
theorem r_b : ([[.str [98], .int .i64 2]] : List (List PV)) = rowsN [eb] := rfl

noncomputable def GWk : List AV → Option (Prop × AV)
  | [] => some (True, .pv (.bool true))
  | _ => none
@[simp] theorem GWk_eq : GWk [] = some (True, .pv (.bool true)) := rfl
theorem c_wk : ConT Try.prog 12 GWk := by
  intro ys φ r h hφ
  unfold GWk at h
  split at h
  · cases h
    refine con_of (tab_consG (ks := [2, 0, 0]) c_Add (by kernel_rfl) (tab_consG (ks := [2, 0]) c_Rem (by kernel_rfl) (tab_consG (ks := [2]) c_Sync (by kernel_rfl) (tab_consG (ks := [2, 0]) c_Fail (by kernel_rfl) (tab_consR c_Cop (by kernel_rfl) (tab_consR c_New (by kernel_rfl) (tab_cons c_Pen (tab_cons c_Li (tab_cons c_Sa tab_nil))))))))) (by kernel_rfl) fn12 (by simp) ?_
    unfold body12
    apply vwp_cut
    · simp (config := { maxSteps := 3000000 })
      exact ⟨rfl, rfl⟩
    apply vwp_cut
    · simp (config := { maxSteps := 3000000 }) [pdT]
      exact ⟨rfl, rfl⟩
    apply vwp_cut
    · simp (config := { maxSteps := 3000000 }) [k1, pdT]
      exact ⟨rfl, rfl⟩
    apply vwp_cut
    · simp (config := { maxSteps := 3000000 }) [k2, pdT]
      exact ⟨rfl, rfl⟩
    apply vwp_cut
    · simp (config := { maxSteps := 3000000 }) [k3, pdT]
      exact ⟨rfl, rfl⟩
    apply vwp_cut
    · simp (config := { maxSteps := 3000000 }) [k4, pdT]
      exact ⟨rfl, rfl⟩
    apply vwp_cut
    · simp (config := { maxSteps := 3000000 })
      exact ⟨rfl, rfl⟩
    apply vwp_cut
    · simp (config := { maxSteps := 3000000 }) [pdT]
      exact ⟨rfl, rfl⟩
    apply vwp_cut
    · simp (config := { maxSteps := 3000000 }) [k5, pdT]
      exact ⟨rfl, rfl⟩
    apply vwp_cut
    · simp (config := { maxSteps := 3000000 }) [k6, pdT]
      exact ⟨rfl, rfl⟩
    apply vwp_cut
    · simp (config := { maxSteps := 3000000 }) [k7, pdT]
      exact ⟨rfl, rfl⟩
    apply vwp_cut
    · simp (config := { maxSteps := 3000000 }) [k8, pdT]
      exact ⟨rfl, rfl⟩
    apply vwp_cut
    · refine (show stepsX _ _ _ _ _ from ?_)
      apply stepsX_spl 7 rfl rfl
      · simp (config := { maxSteps := 3000000 }) [s1, n1, r_ab, flat_rowsN]
        exact ⟨rowsN_two _, rfl, rfl⟩
      apply stepsX_spl 7 rfl rfl
      · simp (config := { maxSteps := 3000000 }) [s2, n2, r_a, flat_rowsN]
        exact ⟨rowsN_two _, rfl, rfl⟩
      apply stepsX_spl 7 rfl rfl
      · simp (config := { maxSteps := 3000000 }) [s3, n3, r_b, flat_rowsN]
        exact ⟨rowsN_two _, rfl, rfl⟩
      apply stepsX_spl 5 rfl rfl
      · simp (config := { maxSteps := 3000000 }) [k9, pdT]
        exact ⟨rfl, rfl⟩
      apply stepsX_spl 4 rfl rfl
      · simp (config := { maxSteps := 3000000 })
        exact ⟨rfl, rfl⟩
      simp (config := { maxSteps := 3000000 }) [k10, pdT]
      exact ⟨rfl, rfl⟩
    simp (config := { maxSteps := 3000000 })
  · cases h

end Go.Proofs.Ythblkhafehanfaa.Ab
