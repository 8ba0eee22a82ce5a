/- t -/
import Derived.Test.YthblkhafehanfaaR3a
namespace Go.Proofs.Ythblkhafehanfaa.Ab
open Go Go.RowKit R
set_option linter.unusedVariables false
set_option linter.unusedSimpArgs false
set_option maxHeartbeats 4000000
set_option maxRecDepth 100000

theorem isfn_add : isFn Try.prog 77 = true := by kernel_rfl
theorem isfn_rem : isFn Try.prog 76 = true := by kernel_rfl
def actP (p : Pd) (b : Bool) (s : List UInt8) (n : Int) : Pd := ⟨p.dur, stM p.now ⟨b, s, n⟩, p.pend ++ [⟨b, s, n⟩]⟩
noncomputable def Gact : List AV → Option (Prop × AV)
  | [.tup [y], .agg [.pv (.str s), .pv (.int .i64 n)], .clo f []] => (decT y).bind fun p =>
      if f = 77 then some (p.pend.length ≤ 1000000, .clo 0 [.tup [], pdT (actP p true s n)]) else
      if f = 76 then some (p.pend.length ≤ 1000000, .clo 0 [.tup [], pdT (actP p false s n)]) else none
  | _ => none
@[simp] theorem Gact_eq (y : AV) (s : List UInt8) (n : Int) (f : FuncId) : Gact [.tup [y], .agg [.pv (.str s), .pv (.int .i64 n)], .clo f []] = (decT y).bind fun p =>
      if f = 77 then some (p.pend.length ≤ 1000000, .clo 0 [.tup [], pdT (actP p true s n)]) else
      if f = 76 then some (p.pend.length ≤ 1000000, .clo 0 [.tup [], pdT (actP p false s n)]) else none := rfl
theorem c_act : ConTG Try.prog 75 Gact := by
  intro ys φ r h hφ
  unfold Gact at h
  split at h
  · rename_i y s n f
    rw [Option.bind_eq_some_iff] at h
    obtain ⟨p, hp, h⟩ := h
    cases decT_inv hp
    obtain ⟨a, b, c⟩ := p
    have m2 := rowsP_three c
    split at h
    · rename_i hf
      subst hf
      cases h
      refine con_ofG (tab_consG (ks := [2, 0]) c_dAdd (by kernel_rfl) (tab_consG (ks := [2, 0]) c_dDel (by kernel_rfl) tab_nil)) (by kernel_rfl) fn75 (by simp) rfl (by simp) ?_
      unfold body75
      have hφ : c.length ≤ 1000000 := hφ
      unfold pdT
      apply vwp_cut
      · simp (config := { maxSteps := 3000000 })
        exact ⟨rfl, rfl⟩
      apply vwp_cut
      · simp (config := { maxSteps := 3000000 }) [maxLen_eq]
        exact ⟨⟨by omega, by omega⟩, rfl, rfl⟩
      simp (config := { maxSteps := 3000000 }) [pdT, actP, stM, isfn_add]
    · split at h
      · rename_i hf
        subst hf
        cases h
        refine con_ofG (tab_consG (ks := [2, 0]) c_dAdd (by kernel_rfl) (tab_consG (ks := [2, 0]) c_dDel (by kernel_rfl) tab_nil)) (by kernel_rfl) fn75 (by simp) rfl (by simp) ?_
        unfold body75
        have hφ : c.length ≤ 1000000 := hφ
        unfold pdT
        apply vwp_cut
        · simp (config := { maxSteps := 3000000 })
          exact ⟨rfl, rfl⟩
        apply vwp_cut
        · simp (config := { maxSteps := 3000000 }) [maxLen_eq]
          exact ⟨⟨by omega, by omega⟩, rfl, rfl⟩
        simp (config := { maxSteps := 3000000 }) [pdT, actP, stM, isfn_rem]
      · cases h
  · cases h

end Go.Proofs.Ythblkhafehanfaa.Ab
