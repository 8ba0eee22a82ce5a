/- Chapter 8, the program: Add, Remove, Fail, Sync, New; List, Get, Pending, Copy. -/
import Derived.Test.YthblkhafehanfaaR3b
import Derived.Test.YthblkhafehanfaaS1
namespace Go.Proofs.Ythblkhafehanfaa.Ab
open Go Go.RowKit R
set_option linter.unusedVariables false
set_option linter.unusedSimpArgs false
set_option maxHeartbeats 4000000
set_option maxRecDepth 100000

open Classical in
noncomputable def GAdd : List AV → Option (Prop × AV)
  | [.tup [y], .pv (.str s), .pv (.int .i64 n)] => if y = .pv nilD then some (True, .clo 0 [.pv (.int .i64 1), .pv nilD]) else (decT y).map fun p => (p.pend.length ≤ 1000000, .clo 0 [.pv (.int .i64 (addP p s n).2), pdT (addP p s n).1])
  | _ => none
@[simp] theorem GAdd_eq (cs : List AV) (s : List UInt8) (n : Int) : GAdd [.tup [.bx cs], .pv (.str s), .pv (.int .i64 n)] = (decT (.bx cs)).map fun p => (p.pend.length ≤ 1000000, .clo 0 [.pv (.int .i64 (addP p s n).2), pdT (addP p s n).1]) := by
  unfold GAdd; simp
@[simp] theorem GAdd_nil (s : List UInt8) (n : Int) : GAdd [.tup [.pv nilD], .pv (.str s), .pv (.int .i64 n)] = some (True, .clo 0 [.pv (.int .i64 1), .pv nilD]) := by
  unfold GAdd; simp
theorem c_Add : ConTG Try.prog 26 GAdd := by
  intro ys φ r h hφ
  unfold GAdd at h
  split at h
  · rename_i y s n
    split at h
    · rename_i hy
      subst hy
      cases h
      refine con_ofG (tab_consG (ks := [2, 0, 0]) c_act (by kernel_rfl) tab_nil) (by kernel_rfl) fn26 (by simp) rfl (by simp) ?_
      unfold body26
      simp (config := { maxSteps := 3000000 })
    · obtain ⟨p, hp, h⟩ := Option.map_eq_some_iff.1 h
      cases h
      cases decT_inv hp
      obtain ⟨a, b, c⟩ := p
      have hφ : c.length ≤ 1000000 := hφ
      refine con_ofG (tab_consG (ks := [2, 0, 0]) c_act (by kernel_rfl) tab_nil) (by kernel_rfl) fn26 (by simp) rfl (by simp [pdT]) ?_
      unfold body26
      by_cases h1 : s = []
      · subst h1
        have hx : addP ⟨a, b, c⟩ [] n = (⟨a, b, c⟩, 2) := by unfold addP; rw [if_pos (.inl rfl)]
        simp (config := { maxSteps := 3000000 }) [hx, pdT]
      · by_cases h2 : n < 0
        · have hx : addP ⟨a, b, c⟩ s n = (⟨a, b, c⟩, 2) := by unfold addP; rw [if_pos (.inr h2)]
          simp (config := { maxSteps := 3000000 }) [h1, h2, hx, pdT]
        · cases hg : getN b s with
          | some k =>
            have hx : addP ⟨a, b, c⟩ s n = (⟨a, b, c⟩, 81) := by unfold addP; rw [if_neg (by simp [h1, h2]), if_pos (by simp [hg])]
            simp (config := { maxSteps := 3000000 }) [h1, h2, hx, hg, pdT]
          | none =>
            have hx : addP ⟨a, b, c⟩ s n = (actP ⟨a, b, c⟩ true s n, 0) := by unfold addP; rw [if_neg (by simp [h1, h2]), if_neg (by simp [hg])]; rfl
            simp (config := { maxSteps := 3000000 }) [h1, h2, hx, hg, hφ, pdT, actP]
  · cases h

open Classical in
noncomputable def GRem : List AV → Option (Prop × AV)
  | [.tup [y], .pv (.str s)] => if y = .pv nilD then some (True, .clo 0 [.tup [.pv (.int .i64 0), .pv (.int .i64 1)], .pv nilD]) else (decT y).map fun p => (p.pend.length ≤ 1000000, .clo 0 [.tup [.pv (.int .i64 (remP p s).2.1), .pv (.int .i64 (remP p s).2.2)], pdT (remP p s).1])
  | _ => none
@[simp] theorem GRem_eq (cs : List AV) (s : List UInt8) : GRem [.tup [.bx cs], .pv (.str s)] = (decT (.bx cs)).map fun p => (p.pend.length ≤ 1000000, .clo 0 [.tup [.pv (.int .i64 (remP p s).2.1), .pv (.int .i64 (remP p s).2.2)], pdT (remP p s).1]) := by
  unfold GRem; simp
@[simp] theorem GRem_nil (s : List UInt8) : GRem [.tup [.pv nilD], .pv (.str s)] = some (True, .clo 0 [.tup [.pv (.int .i64 0), .pv (.int .i64 1)], .pv nilD]) := by
  unfold GRem; simp
theorem c_Rem : ConTG Try.prog 24 GRem := by
  intro ys φ r h hφ
  unfold GRem at h
  split at h
  · rename_i y s
    split at h
    · rename_i hy
      subst hy
      cases h
      refine con_ofG (tab_consG (ks := [2, 0, 0]) c_act (by kernel_rfl) tab_nil) (by kernel_rfl) fn24 (by simp) rfl (by simp) ?_
      unfold body24
      simp (config := { maxSteps := 3000000 })
    · obtain ⟨p, hp, h⟩ := Option.map_eq_some_iff.1 h
      cases h
      cases decT_inv hp
      obtain ⟨a, b, c⟩ := p
      have hφ : c.length ≤ 1000000 := hφ
      refine con_ofG (tab_consG (ks := [2, 0, 0]) c_act (by kernel_rfl) tab_nil) (by kernel_rfl) fn24 (by simp) rfl (by simp [pdT]) ?_
      unfold body24
      cases hg : getN b s with
      | none =>
        have hx : remP ⟨a, b, c⟩ s = (⟨a, b, c⟩, 0, 80) := by unfold remP; simp only [hg]
        simp (config := { maxSteps := 3000000 }) [hx, hg, pdT]
      | some k =>
        have hx : remP ⟨a, b, c⟩ s = (actP ⟨a, b, c⟩ false s k, k, 0) := by unfold remP; simp only [hg]; rfl
        simp (config := { maxSteps := 3000000 }) [hx, hg, hφ, pdT, actP]
  · cases h

/-! ### Readers -/
open Classical in
noncomputable def GGet : List AV → Option (Prop × AV)
  | [y, .pv (.str s)] => if y = .pv nilD then some (True, .tup [.pv (.int .i64 0), .pv (.bool false)]) else (decR y).map fun p => (True, .tup [.pv (.int .i64 ((getN p.now s).getD 0)), .pv (.bool (getN p.now s).isSome)])
  | _ => none
@[simp] theorem GGet_eq (cs : List PV) (s : List UInt8) : GGet [.rp cs, .pv (.str s)] = (decR (.rp cs)).map fun p => (True, .tup [.pv (.int .i64 ((getN p.now s).getD 0)), .pv (.bool (getN p.now s).isSome)]) := by
  unfold GGet; simp
@[simp] theorem GGet_nil (s : List UInt8) : GGet [.pv nilD, .pv (.str s)] = some (True, .tup [.pv (.int .i64 0), .pv (.bool false)]) := by
  unfold GGet; simp
theorem c_Get : ConT Try.prog 25 GGet := by
  intro ys φ r h hφ
  unfold GGet at h
  split at h
  · rename_i y s
    split at h
    · rename_i hy
      subst hy
      cases h
      refine con_of tab_nil (by kernel_rfl) fn25 (by simp) ?_
      unfold body25
      simp (config := { maxSteps := 3000000 })
    · obtain ⟨p, hp, h⟩ := Option.map_eq_some_iff.1 h
      cases h
      cases decR_inv hp
      obtain ⟨a, b, c⟩ := p
      refine con_of tab_nil (by kernel_rfl) fn25 (by simp) ?_
      unfold body25
      cases hg : getN b s with
      | none =>
        simp (config := { maxSteps := 3000000 }) [hg, pdR]
        rfl
      | some k => simp (config := { maxSteps := 3000000 }) [hg, pdR]
  · cases h

open Classical in
noncomputable def GPen : List AV → Option (Prop × AV)
  | [y] => if y = .pv nilD then some (True, .pv (.int .i64 0)) else (decR y).map fun p => (True, .pv (.int .i64 (p.pend.length : Int)))
  | _ => none
@[simp] theorem GPen_eq (cs : List PV) : GPen [.rp cs] = (decR (.rp cs)).map fun p => (True, .pv (.int .i64 (p.pend.length : Int))) := by
  unfold GPen; simp
@[simp] theorem GPen_nil : GPen [.pv nilD] = some (True, .pv (.int .i64 0)) := by
  unfold GPen; simp
theorem c_Pen : ConT Try.prog 17 GPen := by
  intro ys φ r h hφ
  unfold GPen at h
  split at h
  · rename_i y
    split at h
    · rename_i hy
      subst hy
      cases h
      refine con_of tab_nil (by kernel_rfl) fn17 (by simp) ?_
      unfold body17
      simp (config := { maxSteps := 3000000 })
    · obtain ⟨p, hp, h⟩ := Option.map_eq_some_iff.1 h
      cases h
      cases decR_inv hp
      obtain ⟨a, b, c⟩ := p
      refine con_of tab_nil (by kernel_rfl) fn17 (by simp) ?_
      unfold body17
      simp (config := { maxSteps := 3000000 }) [pdR]
  · cases h

end Go.Proofs.Ythblkhafehanfaa.Ab
/- Chapter 8, the program: Fail, Sync, New, List, Copy. -/
namespace Go.Proofs.Ythblkhafehanfaa.Ab
open Go Go.RowKit R
set_option linter.unusedVariables false
set_option linter.unusedSimpArgs false
set_option maxHeartbeats 4000000
set_option maxRecDepth 100000

noncomputable def GNew : List AV → Option (Prop × AV)
  | [] => some (True, pdT ⟨[], [], []⟩)
  | _ => none
@[simp] theorem GNew_eq : GNew [] = some (True, pdT ⟨[], [], []⟩) := rfl
theorem c_New : ConTR Try.prog 13 GNew := by
  intro ys φ r h hφ
  unfold GNew at h
  split at h
  · cases h
    refine con_ofG tab_nil (by kernel_rfl) fn13 (by simp) rfl (by simp) ?_
    unfold body13
    simp (config := { maxSteps := 3000000 }) [pdT, mfN_nil, rowsP_nil]
    kernel_rfl
  · cases h

noncomputable def GScl : List AV → Option (Prop × AV)
  | [.pv (.ro a)] => (dec rowP a).map fun l => (l.length ≤ 1000000, .fr 124 (rowsP l))
  | _ => none
@[simp] theorem GScl_eq (a : List (List PV)) : GScl [.pv (.ro a)] = (dec rowP a).map fun l => (l.length ≤ 1000000, .fr 124 (rowsP l)) := rfl
@[simp] theorem dec_rowsP (l : List Ac) : dec rowP (rowsP l) = some l := dec_map rowP_inj l
theorem c_Scl : ConT Try.prog 69 GScl := by
  intro ys φ r h hφ
  unfold GScl at h
  split at h
  · rename_i ra
    obtain ⟨a, ha, h⟩ := Option.map_eq_some_iff.1 h
    cases h
    cases (dec_inv ha : ra = rowsP a)
    refine con_of tab_nil (by kernel_rfl) fn69 (by simp) ?_
    unfold body69
    cases a with
    | nil =>
      simp (config := { maxSteps := 3000000 }) [exNil_eq, rowsP_nil]
    | cons x l =>
      have hx : rowsP (x :: l) = rowP x :: rowsP l := rfl
      have hx3 : (rowP x).length = 3 := rfl
      simp (config := { maxSteps := 3000000 }) [hx, hx3, maxLen_eq]
      simp only [List.length_cons] at hφ
      exact ⟨⟨by omega, by omega, fun a _ => rfl⟩, rfl⟩
  · cases h

open Classical in
noncomputable def GCop : List AV → Option (Prop × AV)
  | [y] => (decR y).map fun p => (p.pend.length ≤ 1000000, pdT p)
  | _ => none
@[simp] theorem GCop_eq (y : AV) : GCop [y] = (decR y).map fun p => (p.pend.length ≤ 1000000, pdT p) := rfl
theorem c_Cop : ConTR Try.prog 19 GCop := by
  intro ys φ r h hφ
  unfold GCop at h
  split at h
  · rename_i y
    obtain ⟨p, hp, h⟩ := Option.map_eq_some_iff.1 h
    cases h
    cases decR_inv hp
    obtain ⟨a, b, c⟩ := p
    have hφ : c.length ≤ 1000000 := hφ
    refine con_ofG (tab_consR c_Mcl (by kernel_rfl) (tab_cons c_Scl tab_nil)) (by kernel_rfl) fn19 (by simp) rfl (by simp [pdR]) ?_
    unfold body19
    simp (config := { maxSteps := 3000000 }) [pdR, pdT, hφ]
  · cases h
noncomputable def GCon : List AV → Option (Prop × AV)
  | [.pv (.val (.pointer none))] => some (True, .pv nilD)
  | _ => none
@[simp] theorem GCon_eq : GCon [.pv (.val (.pointer none))] = some (True, .pv nilD) := rfl
@[simp] theorem GCon_rp (cs : List PV) : GCon [.rp cs] = none := rfl
theorem c_Con : ConT Try.prog 19 GCon := by
  intro ys φ r h hφ
  unfold GCon at h
  split at h
  · cases h
    refine con_of tab_nil (by kernel_rfl) fn19 (by simp) ?_
    unfold body19
    simp (config := { maxSteps := 3000000 })
  · cases h

open Classical in
noncomputable def GLi : List AV → Option (Prop × AV)
  | [y] => if y = .pv nilD then some (True, .fr 116 []) else (decR y).map fun p => (ndN p.now ∧ p.now.length ≤ 1000000, .fr 116 (rowsN (sortN p.now)))
  | _ => none
@[simp] theorem GLi_eq (cs : List PV) : GLi [.rp cs] = (decR (.rp cs)).map fun p => (ndN p.now ∧ p.now.length ≤ 1000000, .fr 116 (rowsN (sortN p.now))) := by
  unfold GLi; simp
@[simp] theorem GLi_nil : GLi [.pv nilD] = some (True, .fr 116 []) := by
  unfold GLi; simp
theorem c_Li : ConT Try.prog 16 GLi := by
  intro ys φ r h hφ
  unfold GLi at h
  split at h
  · rename_i y
    split at h
    · rename_i hy
      subst hy
      cases h
      refine con_of (tab_consG (ks := [2, 0]) c_Srt (by kernel_rfl) tab_nil) (by kernel_rfl) fn16 (by simp) ?_
      unfold body16
      simp (config := { maxSteps := 3000000 })
    · obtain ⟨p, hp, h⟩ := Option.map_eq_some_iff.1 h
      cases h
      cases decR_inv hp
      obtain ⟨a, b, c⟩ := p
      obtain ⟨hn, h6⟩ : ndN b ∧ b.length ≤ 1000000 := hφ
      refine con_of (tab_consG (ks := [2, 0]) c_Srt (by kernel_rfl) tab_nil) (by kernel_rfl) fn16 (by simp) ?_
      unfold body16
      simp (config := { maxSteps := 3000000 }) [pdR]
      refine vwp_loop (fun i : List Nm × List Nm × Option (PV × PV) => (i.1 ++ i.2.1).Perm b) (fun i => ⟨[(3, .own 3), (12, .ptr 12 0)], [(3, .arr 116 (rowsN i.1)), (12, .itr (mfN i.2.1) i.2.2)]⟩) (fun i => i.2.1.length) [] ([], b, none) (by simp) ?_ ?_
      · simp
      · rintro ⟨l, m, cur⟩ hlm
        have hlm : (l ++ m).Perm b := hlm
        have hll := hlm.length_eq
        rw [List.length_append] at hll
        simp (config := { maxSteps := 3000000 })
        refine ⟨fun hm => ?_, fun k v l1 m1 hm => ?_⟩
        · have : m = [] := by cases m with | nil => rfl | cons _ _ => cases hm
          subst this
          rw [List.append_nil] at hlm
          have hnl : ndN l := by
            have h1 : (b.map (fun e : Nm => e.n)).Nodup := hn
            exact (hlm.map (fun e : Nm => e.n)).nodup_iff.2 h1
          refine ⟨⟨hnl, by rw [hlm.length_eq]; exact h6⟩, ?_⟩
          rw [srtN_uniq ((sortN_perm l).trans (hlm.trans (sortN_perm b).symm)) (sortN_srt hnl) (sortN_srt hn)]
        · obtain ⟨l2, m2, rfl, rfl, h2⟩ := List.map_eq_append_iff.1 hm
          obtain ⟨x, m3, rfl, hx, rfl⟩ := List.map_eq_cons_iff.1 h2
          cases hx
          have hap : rowsN l ++ [[PV.str x.n, .int .i64 x.i]] = rowsN (l ++ [x]) := by rw [rowsN_append]; rfl
          simp (config := { maxSteps := 3000000 }) [hap, maxLen_eq]
          have hp2 : ((l ++ [x]) ++ (l2 ++ m3)).Perm b := by
            refine List.Perm.trans ?_ hlm
            rw [List.append_assoc]
            exact List.Perm.append_left l ((List.perm_middle (l₁ := l2) (a := x) (l₂ := m3)).symm)
          simp only [List.length_append, List.length_cons] at hll
          refine ⟨⟨by omega, by omega⟩, l ++ [x], l2 ++ m3, hp2, ⟨rfl, ?_⟩, by simp⟩
          simp [mfN]
  · cases h

end Go.Proofs.Ythblkhafehanfaa.Ab
/- Chapter 8, the program: Fail, Sync. -/
namespace Go.Proofs.Ythblkhafehanfaa.Ab
open Go Go.RowKit R
set_option linter.unusedVariables false
set_option linter.unusedSimpArgs false
set_option maxHeartbeats 4000000
set_option maxRecDepth 100000

@[simp] theorem one_nf : Value.nilFunc.oneCell' = true := rfl
@[simp] theorem cv_nf : cv Value.nilFunc = .pv (.val Value.nilFunc) := rfl
@[simp] theorem one_op (b : Bool) : oneAV (.pv (opF b)) = true := rfl
@[simp] theorem cell_op (b : Bool) : cellB (.pv (opF b)) = true := rfl
@[simp] theorem roR_mf (es : List (PV × PV)) : roR (.mf es) = false := rfl
@[simp] theorem roR_bx (cs : List AV) : roR (.bx cs) = false := rfl
@[simp] theorem flat_mfN2 (l : List Nm) : (∀ a b, (a, b) ∈ mfN l → flatP b = true) = True := by
  simp only [eq_iff_iff, iff_true]
  intro a b h
  have := flat_mfN l
  simp only [eq_iff_iff, iff_true] at this
  exact this (a, b) h
theorem info_act : (Try.prog.info? 124).isSome = true := by kernel_rfl
@[simp] theorem clo_add (xs : List AV) : cloOf (.pv (opF true) :: xs) = some (77, xs) := rfl
@[simp] theorem clo_rem (xs : List AV) : cloOf (.pv (opF false) :: xs) = some (76, xs) := rfl
theorem runM_take {l : List Nm} {m : List Ac} {i : Nat} (h : i < m.length) : runM l (m.take (i + 1)) = stM (runM l (m.take i)) m[i] := by
  rw [List.take_succ_eq_append_getElem h, runM_snoc]

open Classical in
noncomputable def GFail : List AV → Option (Prop × AV)
  | [.tup [y], .pv (.int .i64 k)] => if y = .pv nilD then some (True, .clo 0 [.tup [], .pv nilD]) else (decT y).map fun p => (p.pend.length ≤ 1000000, .clo 0 [.tup [], pdT (failP p k.toNat)])
  | _ => none
@[simp] theorem GFail_eq (cs : List AV) (k : Int) : GFail [.tup [.bx cs], .pv (.int .i64 k)] = (decT (.bx cs)).map fun p => (p.pend.length ≤ 1000000, .clo 0 [.tup [], pdT (failP p k.toNat)]) := by
  unfold GFail; simp
@[simp] theorem GFail_nil (k : Int) : GFail [.tup [.pv nilD], .pv (.int .i64 k)] = some (True, .clo 0 [.tup [], .pv nilD]) := by
  unfold GFail; simp
theorem c_Fail : ConTG Try.prog 20 GFail := by
  intro ys φ r h hφ
  unfold GFail at h
  split at h
  · rename_i y k
    split at h
    · rename_i hy
      subst hy
      cases h
      refine con_ofG (tab_consG (ks := [2, 0]) c_dAdd (by kernel_rfl) (tab_consG (ks := [2, 0]) c_dDel (by kernel_rfl) (tab_consR c_Mcl (by kernel_rfl) tab_nil))) (by kernel_rfl) fn20 (by simp) rfl (by simp) ?_
      unfold body20
      simp (config := { maxSteps := 3000000 })
    · obtain ⟨p, hp, h⟩ := Option.map_eq_some_iff.1 h
      cases h
      cases decT_inv hp
      obtain ⟨a, b, c⟩ := p
      have hφ : c.length ≤ 1000000 := hφ
      obtain ⟨K, hK⟩ : ∃ K, K = min k.toNat c.length := ⟨_, rfl⟩
      have hKc : K ≤ c.length := by omega
      have hmx : max 0 (min k (c.length : Int)) = (K : Int) := by omega
      have hfin : failP ⟨a, b, c⟩ k.toNat = ⟨runM a (c.take K), runM a (c.take K), []⟩ := by
        have : c.take k.toNat = c.take K := by
          rcases Nat.le_total k.toNat c.length with h1 | h1
          · rw [show K = k.toNat by omega]
          · rw [show K = c.length by omega, List.take_of_length_le h1, List.take_of_length_le (Nat.le_refl _)]
        unfold failP
        rw [this]
      refine con_ofG (tab_consG (ks := [2, 0]) c_dAdd (by kernel_rfl) (tab_consG (ks := [2, 0]) c_dDel (by kernel_rfl) (tab_consR c_Mcl (by kernel_rfl) tab_nil))) (by kernel_rfl) fn20 (by simp) rfl (by simp [pdT]) ?_
      unfold body20
      simp (config := { maxSteps := 3000000 }) [pdT, hfin, hmx, hKc]
      refine ⟨rowsP_three c, ?_⟩
      refine vwp_loop (fun i : Nat => i ≤ K) (fun i => ⟨[(0, .ptr 999 0), (20, .sub 2998 124 0 K), (21, .pv (.int .i64 (K : Int))), (22, .pv (.int .i64 (i : Int)))], [(999, .box [.own 998, .own 1998, .own 2998]), (998, .mpv (mfN (runM a (c.take i)))), (1998, .mpv (mfN b)), (2998, .arr 124 (rowsP c))]⟩) (fun i => K - i) [] 0 (by simp) ?_ ?_
      · simp
        rfl
      · intro i hi
        have w2 : IntKind.i64.wrap ((i : Int) + 1) = (i : Int) + 1 := wrap_i64 (by omega)
        by_cases hlt : i < K
        · have hlc : i < c.length := by omega
          have r1 := rowsP_at hlc
          have hst := runM_take (l := a) hlc
          cases hca : c[i].a with
          | true =>
            have hs2 : stM (runM a (c.take i)) c[i] = nmPut (runM a (c.take i)) ⟨c[i].e.n, c[i].e.i⟩ := by unfold stM; rw [if_pos hca]
            simp (config := { maxSteps := 3000000 }) [hlt, hlc, r1, w2, hca, isfn_add]
            exact ⟨i + 1, by omega, ⟨by omega, by rw [hst, hs2]⟩, by omega⟩
          | false =>
            have hs2 : stM (runM a (c.take i)) c[i] = nmDel (runM a (c.take i)) c[i].e.n := by unfold stM; rw [if_neg (by simp [hca])]
            simp (config := { maxSteps := 3000000 }) [hlt, hlc, r1, w2, hca, isfn_rem]
            exact ⟨i + 1, by omega, ⟨by omega, by rw [hst, hs2]⟩, by omega⟩
        · have hia : i = K := by omega
          subst hia
          simp (config := { maxSteps := 3000000 }) [rowsP_nil]
          exact info_act
  · cases h

open Classical in
noncomputable def GSync : List AV → Option (Prop × AV)
  | [.tup [y]] => if y = .pv nilD then some (True, .clo 0 [.tup [], .pv nilD]) else (decT y).map fun p => (p.pend.length ≤ 1000000, .clo 0 [.tup [], pdT (failP p p.pend.length)])
  | _ => none
@[simp] theorem GSync_eq (cs : List AV) : GSync [.tup [.bx cs]] = (decT (.bx cs)).map fun p => (p.pend.length ≤ 1000000, .clo 0 [.tup [], pdT (failP p p.pend.length)]) := by
  unfold GSync; simp
@[simp] theorem GSync_nil : GSync [.tup [.pv nilD]] = some (True, .clo 0 [.tup [], .pv nilD]) := by
  unfold GSync; simp
theorem c_Sync : ConTG Try.prog 15 GSync := by
  intro ys φ r h hφ
  unfold GSync at h
  split at h
  · rename_i y
    split at h
    · rename_i hy
      subst hy
      cases h
      refine con_ofG (tab_consG (ks := [2, 0]) c_Fail (by kernel_rfl) tab_nil) (by kernel_rfl) fn15 (by simp) rfl (by simp) ?_
      unfold body15
      simp (config := { maxSteps := 3000000 })
    · obtain ⟨p, hp, h⟩ := Option.map_eq_some_iff.1 h
      cases h
      cases decT_inv hp
      obtain ⟨a, b, c⟩ := p
      have hφ : c.length ≤ 1000000 := hφ
      refine con_ofG (tab_consG (ks := [2, 0]) c_Fail (by kernel_rfl) tab_nil) (by kernel_rfl) fn15 (by simp) rfl (by simp [pdT]) ?_
      unfold body15
      simp (config := { maxSteps := 3000000 }) [pdT, hφ, failP]
  · cases h

end Go.Proofs.Ythblkhafehanfaa.Ab
