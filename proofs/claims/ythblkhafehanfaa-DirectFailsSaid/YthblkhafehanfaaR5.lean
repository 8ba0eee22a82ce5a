/- Chapter 8, the program: Add, Remove, Fail, Sync, New; List, Get, Pending, Copy. -/
import Derived.Test.YthblkhafehanfaaR3b
import Derived.Test.YthblkhafehanfaaS1
namespace Go.Proofs.Ythblkhafehanfaa.Ab
open Go Go.RowKit R
set_option linter.unusedVariables false
set_option linter.unusedSimpArgs false
set_option maxHeartbeats 4000000
set_option maxRecDepth 100000

open Classical in
noncomputable def GAdd : List AV → Option (Prop × AV)
  | [.tup [y], .pv (.str s), .pv (.int .i64 n)] => if y = .pv nilD then some (True, .clo 0 [.pv (.int .i64 1), .pv nilD]) else (decT y).map fun p => (p.pend.length ≤ 1000000, .clo 0 [.pv (.int .i64 (addP p s n).2), pdT (addP p s n).1])
  | _ => none
@[simp] theorem GAdd_eq (cs : List AV) (s : List UInt8) (n : Int) : GAdd [.tup [.bx cs], .pv (.str s), .pv (.int .i64 n)] = (decT (.bx cs)).map fun p => (p.pend.length ≤ 1000000, .clo 0 [.pv (.int .i64 (addP p s n).2), pdT (addP p s n).1]) := by
  unfold GAdd; simp
@[simp] theorem GAdd_nil (s : List UInt8) (n : Int) : GAdd [.tup [.pv nilD], .pv (.str s), .pv (.int .i64 n)] = some (True, .clo 0 [.pv (.int .i64 1), .pv nilD]) := by
  unfold GAdd; simp
theorem c_Add : ConTG Try.prog 26 GAdd := by
  intro ys φ r h hφ
  unfold GAdd at h
  split at h
  · rename_i y s n
    split at h
    · rename_i hy
      subst hy
      cases h
      refine con_ofG (tab_consG (ks := [2, 0, 0]) c_act (by kernel_rfl) tab_nil) (by kernel_rfl) fn26 (by simp) rfl (by simp) ?_
      unfold body26
      simp (config := { maxSteps := 3000000 })
    · obtain ⟨p, hp, h⟩ := Option.map_eq_some_iff.1 h
      cases h
      cases decT_inv hp
      obtain ⟨a, b, c⟩ := p
      have hφ : c.length ≤ 1000000 := hφ
      refine con_ofG (tab_consG (ks := [2, 0, 0]) c_act (by kernel_rfl) tab_nil) (by kernel_rfl) fn26 (by simp) rfl (by simp [pdT]) ?_
      unfold body26
      by_cases h1 : s = []
      · subst h1
        have hx : addP ⟨a, b, c⟩ [] n = (⟨a, b, c⟩, 2) := by unfold addP; rw [if_pos (.inl rfl)]
        simp (config := { maxSteps := 3000000 }) [hx, pdT]
      · by_cases h2 : n < 0
        · have hx : addP ⟨a, b, c⟩ s n = (⟨a, b, c⟩, 2) := by unfold addP; rw [if_pos (.inr h2)]
          simp (config := { maxSteps := 3000000 }) [h1, h2, hx, pdT]
        · cases hg : getN b s with
          | some k =>
            have hx : addP ⟨a, b, c⟩ s n = (⟨a, b, c⟩, 81) := by unfold addP; rw [if_neg (by simp [h1, h2]), if_pos (by simp [hg])]
            simp (config := { maxSteps := 3000000 }) [h1, h2, hx, hg, pdT]
          | none =>
            have hx : addP ⟨a, b, c⟩ s n = (actP ⟨a, b, c⟩ true s n, 0) := by unfold addP; rw [if_neg (by simp [h1, h2]), if_neg (by simp [hg])]; rfl
            simp (config := { maxSteps := 3000000 }) [h1, h2, hx, hg, hφ, pdT, actP]
  · cases h

open Classical in
noncomputable def GRem : List AV → Option (Prop × AV)
  | [.tup [y], .pv (.str s)] => if y = .pv nilD then some (True, .clo 0 [.tup [.pv (.int .i64 0), .pv (.int .i64 1)], .pv nilD]) else (decT y).map fun p => (p.pend.length ≤ 1000000, .clo 0 [.tup [.pv (.int .i64 (remP p s).2.1), .pv (.int .i64 (remP p s).2.2)], pdT (remP p s).1])
  | _ => none
@[simp] theorem GRem_eq (cs : List AV) (s : List UInt8) : GRem [.tup [.bx cs], .pv (.str s)] = (decT (.bx cs)).map fun p => (p.pend.length ≤ 1000000, .clo 0 [.tup [.pv (.int .i64 (remP p s).2.1), .pv (.int .i64 (remP p s).2.2)], pdT (remP p s).1]) := by
  unfold GRem; simp
@[simp] theorem GRem_nil (s : List UInt8) : GRem [.tup [.pv nilD], .pv (.str s)] = some (True, .clo 0 [.tup [.pv (.int .i64 0), .pv (.int .i64 1)], .pv nilD]) := by
  unfold GRem; simp
theorem c_Rem : ConTG Try.prog 24 GRem := by
  intro ys φ r h hφ
  unfold GRem at h
  split at h
  · rename_i y s
    split at h
    · rename_i hy
      subst hy
      cases h
      refine con_ofG (tab_consG (ks := [2, 0, 0]) c_act (by kernel_rfl) tab_nil) (by kernel_rfl) fn24 (by simp) rfl (by simp) ?_
      unfold body24
      simp (config := { maxSteps := 3000000 })
    · obtain ⟨p, hp, h⟩ := Option.map_eq_some_iff.1 h
      cases h
      cases decT_inv hp
      obtain ⟨a, b, c⟩ := p
      have hφ : c.length ≤ 1000000 := hφ
      refine con_ofG (tab_consG (ks := [2, 0, 0]) c_act (by kernel_rfl) tab_nil) (by kernel_rfl) fn24 (by simp) rfl (by simp [pdT]) ?_
      unfold body24
      cases hg : getN b s with
      | none =>
        have hx : remP ⟨a, b, c⟩ s = (⟨a, b, c⟩, 0, 80) := by unfold remP; simp only [hg]
        simp (config := { maxSteps := 3000000 }) [hx, hg, pdT]
      | some k =>
        have hx : remP ⟨a, b, c⟩ s = (actP ⟨a, b, c⟩ false s k, k, 0) := by unfold remP; simp only [hg]; rfl
        simp (config := { maxSteps := 3000000 }) [hx, hg, hφ, pdT, actP]
  · cases h

/-! ### Readers -/
open Classical in
noncomputable def GGet : List AV → Option (Prop × AV)
  | [y, .pv (.str s)] => if y = .pv nilD then some (True, .tup [.pv (.int .i64 0), .pv (.bool false)]) else (decR y).map fun p => (True, .tup [.pv (.int .i64 ((getN p.now s).getD 0)), .pv (.bool (getN p.now s).isSome)])
  | _ => none
@[simp] theorem GGet_eq (cs : List PV) (s : List UInt8) : GGet [.rp cs, .pv (.str s)] = (decR (.rp cs)).map fun p => (True, .tup [.pv (.int .i64 ((getN p.now s).getD 0)), .pv (.bool (getN p.now s).isSome)]) := by
  unfold GGet; simp
@[simp] theorem GGet_nil (s : List UInt8) : GGet [.pv nilD, .pv (.str s)] = some (True, .tup [.pv (.int .i64 0), .pv (.bool false)]) := by
  unfold GGet; simp
theorem c_Get : ConT Try.prog 25 GGet := by
  intro ys φ r h hφ
  unfold GGet at h
  split at h
  · rename_i y s
    split at h
    · rename_i hy
      subst hy
      cases h
      refine con_of tab_nil (by kernel_rfl) fn25 (by simp) ?_
      unfold body25
      simp (config := { maxSteps := 3000000 })
    · obtain ⟨p, hp, h⟩ := Option.map_eq_some_iff.1 h
      cases h
      cases decR_inv hp
      obtain ⟨a, b, c⟩ := p
      refine con_of tab_nil (by kernel_rfl) fn25 (by simp) ?_
      unfold body25
      cases hg : getN b s with
      | none =>
        simp (config := { maxSteps := 3000000 }) [hg, pdR]
        rfl
      | some k => simp (config := { maxSteps := 3000000 }) [hg, pdR]
  · cases h

open Classical in
noncomputable def GPen : List AV → Option (Prop × AV)
  | [y] => if y = .pv nilD then some (True, .pv (.int .i64 0)) else (decR y).map fun p => (True, .pv (.int .i64 (p.pend.length : Int)))
  | _ => none
@[simp] theorem GPen_eq (cs : List PV) : GPen [.rp cs] = (decR (.rp cs)).map fun p => (True, .pv (.int .i64 (p.pend.length : Int))) := by
  unfold GPen; simp
@[simp] theorem GPen_nil : GPen [.pv nilD] = some (True, .pv (.int .i64 0)) := by
  unfold GPen; simp
theorem c_Pen : ConT Try.prog 17 GPen := by
  intro ys φ r h hφ
  unfold GPen at h
  split at h
  · rename_i y
    split at h
    · rename_i hy
      subst hy
      cases h
      refine con_of tab_nil (by kernel_rfl) fn17 (by simp) ?_
      unfold body17
      simp (config := { maxSteps := 3000000 })
    · obtain ⟨p, hp, h⟩ := Option.map_eq_some_iff.1 h
      cases h
      cases decR_inv hp
      obtain ⟨a, b, c⟩ := p
      refine con_of tab_nil (by kernel_rfl) fn17 (by simp) ?_
      unfold body17
      simp (config := { maxSteps := 3000000 }) [pdR]
  · cases h

end Go.Proofs.Ythblkhafehanfaa.Ab
