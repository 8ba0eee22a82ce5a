/- Chapter 14: the examples come out as they should. -/
import Derived.Test.YtfpmjcdcpicmaaaP13
import Derived.Test.YtfpmjcdcpicmaaaAb24
namespace Go.Proofs.Ytfpmjcdcpicmaaa.Ab
open Go Go.RowKit R
set_option linter.unusedVariables false
set_option linter.unusedSimpArgs false
set_option maxHeartbeats 40000000
set_option maxRecDepth 100000

theorem e_add1 : addP [] ⟨3, 1, 10⟩ = ([⟨3, 1, 10⟩], 0) := by decide
theorem e_add2 : addP [⟨3, 1, 10⟩] ⟨3, 2, 5⟩ = ([], 2) := by decide
theorem e_add3 : addP [⟨3, 1, 10⟩] ⟨4, 1, 7⟩ = ([⟨3, 1, 10⟩, ⟨4, 1, 7⟩], 0) := by decide
theorem e_live1 : liveL [⟨3, 1, 10⟩, ⟨4, 1, 7⟩] 8 0 = [⟨3, 1, 10⟩] := by decide
theorem e_live2 : liveL [⟨3, 1, 10⟩, ⟨4, 1, 7⟩] 8 1 = [⟨3, 1, 10⟩, ⟨4, 1, 7⟩] := by decide
theorem vputP_1 : vputP 1 = [1] := by unfold vputP; rw [vput_small (by decide)]; rfl
theorem vputP_3 : vputP 3 = [3] := by unfold vputP; rw [vput_small (by decide)]; rfl
theorem vputP_10 : vputP 10 = [10] := by unfold vputP; rw [vput_small (by decide)]; rfl
theorem e_pput : putPs [⟨3, 1, 10⟩] = [1, 3, 1, 10] := by
  simp [putPs, pinsB, pinB, vputP_1, vputP_3, vputP_10]
theorem GVer_rows (a b c d e f : Int) : GVer [.agg [.pv (.ro (rowsP [⟨a, b, c⟩, ⟨d, e, f⟩]))]] = if b = e then some (True, .fr 24 [[.int .u64 b]]) else none := rfl

def Gworks : List AV → Option (Prop × AV)
  | [] => some (True, .pv (.bool true))
  | _ => none
@[simp] theorem Gworks_eq : Gworks [] = some (True, .pv (.bool true)) := rfl

theorem c_works : ConT Try.prog 72 Gworks := by
  intro ys φ r h hφ
  unfold Gworks at h
  split at h
  · cases h
    refine con_of (tab_cons c_pAdd (tab_cons c_Live (tab_cons c_pSame (tab_cons c_Ver (tab_cons c_nums (tab_cons c_pPut (tab_cons c_sameB tab_nil))))))) (by kernel_rfl) fn72 (by simp) ?_
    unfold body72
    have hb : dec byteR [[.int .u8 1], [.int .u8 3], [.int .u8 1], [.int .u8 10]] = some [1, 3, 1, 10] := dec_bytes [1, 3, 1, 10]
    have hd1 : dec rowN [[PV.int .u64 1]] = some [1] := dec_rowsN [1]
    have hd0 : dec rowP [] = some [] := dec_rowsP []
    have fl0 : flatRows [] := flat_rowsP []
    have fl1 : ∀ l, flatRows (rowsP l) := flat_rowsP
    apply vwp_cut
    · simp (config := { maxSteps := 3000000 }) [maxLen_eq]
      exact ⟨rfl, rfl⟩
    apply vwp_cut
    · simp (config := { maxSteps := 3000000 }) [hd0, fl0, fl1, e_add1, maxLen_eq]
      exact ⟨rfl, rfl⟩
    apply vwp_cut
    · simp (config := { maxSteps := 3000000 }) [hd0, fl0, fl1, e_add2, maxLen_eq]
      exact ⟨rfl, rfl⟩
    apply vwp_cut
    · simp (config := { maxSteps := 3000000 }) [hd0, fl0, fl1, e_add3, maxLen_eq]
      exact ⟨rfl, rfl⟩
    simp (config := { maxSteps := 3000000 }) [fl0, fl1, e_live1, e_live2, e_pput, hb, hd1, hd0, okN, okP', GVer_rows, maxLen_eq]
    exact ⟨flat_rowsN [1], flat_bytes _⟩
  · cases h

end Go.Proofs.Ytfpmjcdcpicmaaa.Ab
