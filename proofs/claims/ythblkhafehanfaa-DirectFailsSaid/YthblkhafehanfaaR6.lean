/- Chapter 8, the program: Fail, Sync, New, List, Copy. -/
import Derived.Test.YthblkhafehanfaaR5
namespace Go.Proofs.Ythblkhafehanfaa.Ab
open Go Go.RowKit R
set_option linter.unusedVariables false
set_option linter.unusedSimpArgs false
set_option maxHeartbeats 4000000
set_option maxRecDepth 100000

noncomputable def GNew : List AV → Option (Prop × AV)
  | [] => some (True, pdT ⟨[], [], []⟩)
  | _ => none
@[simp] theorem GNew_eq : GNew [] = some (True, pdT ⟨[], [], []⟩) := rfl
theorem c_New : ConTR Try.prog 13 GNew := by
  intro ys φ r h hφ
  unfold GNew at h
  split at h
  · cases h
    refine con_ofG tab_nil (by kernel_rfl) fn13 (by simp) rfl (by simp) ?_
    unfold body13
    simp (config := { maxSteps := 3000000 }) [pdT, mfN_nil, rowsP_nil]
    kernel_rfl
  · cases h

noncomputable def GScl : List AV → Option (Prop × AV)
  | [.pv (.ro a)] => (dec rowP a).map fun l => (l.length ≤ 1000000, .fr 124 (rowsP l))
  | _ => none
@[simp] theorem GScl_eq (a : List (List PV)) : GScl [.pv (.ro a)] = (dec rowP a).map fun l => (l.length ≤ 1000000, .fr 124 (rowsP l)) := rfl
@[simp] theorem dec_rowsP (l : List Ac) : dec rowP (rowsP l) = some l := dec_map rowP_inj l
theorem c_Scl : ConT Try.prog 69 GScl := by
  intro ys φ r h hφ
  unfold GScl at h
  split at h
  · rename_i ra
    obtain ⟨a, ha, h⟩ := Option.map_eq_some_iff.1 h
    cases h
    cases (dec_inv ha : ra = rowsP a)
    refine con_of tab_nil (by kernel_rfl) fn69 (by simp) ?_
    unfold body69
    cases a with
    | nil =>
      simp (config := { maxSteps := 3000000 }) [exNil_eq, rowsP_nil]
    | cons x l =>
      have hx : rowsP (x :: l) = rowP x :: rowsP l := rfl
      have hx3 : (rowP x).length = 3 := rfl
      simp (config := { maxSteps := 3000000 }) [hx, hx3, maxLen_eq]
      simp only [List.length_cons] at hφ
      exact ⟨⟨by omega, by omega, fun a _ => rfl⟩, rfl⟩
  · cases h

open Classical in
noncomputable def GCop : List AV → Option (Prop × AV)
  | [y] => (decR y).map fun p => (p.pend.length ≤ 1000000, pdT p)
  | _ => none
@[simp] theorem GCop_eq (y : AV) : GCop [y] = (decR y).map fun p => (p.pend.length ≤ 1000000, pdT p) := rfl
theorem c_Cop : ConTR Try.prog 19 GCop := by
  intro ys φ r h hφ
  unfold GCop at h
  split at h
  · rename_i y
    obtain ⟨p, hp, h⟩ := Option.map_eq_some_iff.1 h
    cases h
    cases decR_inv hp
    obtain ⟨a, b, c⟩ := p
    have hφ : c.length ≤ 1000000 := hφ
    refine con_ofG (tab_consR c_Mcl (by kernel_rfl) (tab_cons c_Scl tab_nil)) (by kernel_rfl) fn19 (by simp) rfl (by simp [pdR]) ?_
    unfold body19
    simp (config := { maxSteps := 3000000 }) [pdR, pdT, hφ]
  · cases h
noncomputable def GCon : List AV → Option (Prop × AV)
  | [.pv (.val (.pointer none))] => some (True, .pv nilD)
  | _ => none
@[simp] theorem GCon_eq : GCon [.pv (.val (.pointer none))] = some (True, .pv nilD) := rfl
@[simp] theorem GCon_rp (cs : List PV) : GCon [.rp cs] = none := rfl
theorem c_Con : ConT Try.prog 19 GCon := by
  intro ys φ r h hφ
  unfold GCon at h
  split at h
  · cases h
    refine con_of tab_nil (by kernel_rfl) fn19 (by simp) ?_
    unfold body19
    simp (config := { maxSteps := 3000000 })
  · cases h

open Classical in
noncomputable def GLi : List AV → Option (Prop × AV)
  | [y] => if y = .pv nilD then some (True, .fr 116 []) else (decR y).map fun p => (ndN p.now ∧ p.now.length ≤ 1000000, .fr 116 (rowsN (sortN p.now)))
  | _ => none
@[simp] theorem GLi_eq (cs : List PV) : GLi [.rp cs] = (decR (.rp cs)).map fun p => (ndN p.now ∧ p.now.length ≤ 1000000, .fr 116 (rowsN (sortN p.now))) := by
  unfold GLi; simp
@[simp] theorem GLi_nil : GLi [.pv nilD] = some (True, .fr 116 []) := by
  unfold GLi; simp
theorem c_Li : ConT Try.prog 16 GLi := by
  intro ys φ r h hφ
  unfold GLi at h
  split at h
  · rename_i y
    split at h
    · rename_i hy
      subst hy
      cases h
      refine con_of (tab_consG (ks := [2, 0]) c_Srt (by kernel_rfl) tab_nil) (by kernel_rfl) fn16 (by simp) ?_
      unfold body16
      simp (config := { maxSteps := 3000000 })
    · obtain ⟨p, hp, h⟩ := Option.map_eq_some_iff.1 h
      cases h
      cases decR_inv hp
      obtain ⟨a, b, c⟩ := p
      obtain ⟨hn, h6⟩ : ndN b ∧ b.length ≤ 1000000 := hφ
      refine con_of (tab_consG (ks := [2, 0]) c_Srt (by kernel_rfl) tab_nil) (by kernel_rfl) fn16 (by simp) ?_
      unfold body16
      simp (config := { maxSteps := 3000000 }) [pdR]
      refine vwp_loop (fun i : List Nm × List Nm × Option (PV × PV) => (i.1 ++ i.2.1).Perm b) (fun i => ⟨[(3, .own 3), (12, .ptr 12 0)], [(3, .arr 116 (rowsN i.1)), (12, .itr (mfN i.2.1) i.2.2)]⟩) (fun i => i.2.1.length) [] ([], b, none) (by simp) ?_ ?_
      · simp
      · rintro ⟨l, m, cur⟩ hlm
        have hlm : (l ++ m).Perm b := hlm
        have hll := hlm.length_eq
        rw [List.length_append] at hll
        simp (config := { maxSteps := 3000000 })
        refine ⟨fun hm => ?_, fun k v l1 m1 hm => ?_⟩
        · have : m = [] := by cases m with | nil => rfl | cons _ _ => cases hm
          subst this
          rw [List.append_nil] at hlm
          have hnl : ndN l := by
            have h1 : (b.map (fun e : Nm => e.n)).Nodup := hn
            exact (hlm.map (fun e : Nm => e.n)).nodup_iff.2 h1
          refine ⟨⟨hnl, by rw [hlm.length_eq]; exact h6⟩, ?_⟩
          rw [srtN_uniq ((sortN_perm l).trans (hlm.trans (sortN_perm b).symm)) (sortN_srt hnl) (sortN_srt hn)]
        · obtain ⟨l2, m2, rfl, rfl, h2⟩ := List.map_eq_append_iff.1 hm
          obtain ⟨x, m3, rfl, hx, rfl⟩ := List.map_eq_cons_iff.1 h2
          cases hx
          have hap : rowsN l ++ [[PV.str x.n, .int .i64 x.i]] = rowsN (l ++ [x]) := by rw [rowsN_append]; rfl
          simp (config := { maxSteps := 3000000 }) [hap, maxLen_eq]
          have hp2 : ((l ++ [x]) ++ (l2 ++ m3)).Perm b := by
            refine List.Perm.trans ?_ hlm
            rw [List.append_assoc]
            exact List.Perm.append_left l ((List.perm_middle (l₁ := l2) (a := x) (l₂ := m3)).symm)
          simp only [List.length_append, List.length_cons] at hll
          refine ⟨⟨by omega, by omega⟩, l ++ [x], l2 ++ m3, hp2, ⟨rfl, ?_⟩, by simp⟩
          simp [mfN]
  · cases h

end Go.Proofs.Ythblkhafehanfaa.Ab
