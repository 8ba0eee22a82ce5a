/- Chapter 8, the program: Fail, Sync. -/
import Derived.Test.YthblkhafehanfaaR6
namespace Go.Proofs.Ythblkhafehanfaa.Ab
open Go Go.RowKit R
set_option linter.unusedVariables false
set_option linter.unusedSimpArgs false
set_option maxHeartbeats 4000000
set_option maxRecDepth 100000

@[simp] theorem one_nf : Value.nilFunc.oneCell' = true := rfl
@[simp] theorem cv_nf : cv Value.nilFunc = .pv (.val Value.nilFunc) := rfl
@[simp] theorem one_op (b : Bool) : oneAV (.pv (opF b)) = true := rfl
@[simp] theorem cell_op (b : Bool) : cellB (.pv (opF b)) = true := rfl
@[simp] theorem roR_mf (es : List (PV × PV)) : roR (.mf es) = false := rfl
@[simp] theorem roR_bx (cs : List AV) : roR (.bx cs) = false := rfl
@[simp] theorem flat_mfN2 (l : List Nm) : (∀ a b, (a, b) ∈ mfN l → flatP b = true) = True := by
  simp only [eq_iff_iff, iff_true]
  intro a b h
  have := flat_mfN l
  simp only [eq_iff_iff, iff_true] at this
  exact this (a, b) h
theorem info_act : (Try.prog.info? 124).isSome = true := by kernel_rfl
@[simp] theorem clo_add (xs : List AV) : cloOf (.pv (opF true) :: xs) = some (77, xs) := rfl
@[simp] theorem clo_rem (xs : List AV) : cloOf (.pv (opF false) :: xs) = some (76, xs) := rfl
theorem runM_take {l : List Nm} {m : List Ac} {i : Nat} (h : i < m.length) : runM l (m.take (i + 1)) = stM (runM l (m.take i)) m[i] := by
  rw [List.take_succ_eq_append_getElem h, runM_snoc]

open Classical in
noncomputable def GFail : List AV → Option (Prop × AV)
  | [.tup [y], .pv (.int .i64 k)] => if y = .pv nilD then some (True, .clo 0 [.tup [], .pv nilD]) else (decT y).map fun p => (p.pend.length ≤ 1000000, .clo 0 [.tup [], pdT (failP p k.toNat)])
  | _ => none
@[simp] theorem GFail_eq (cs : List AV) (k : Int) : GFail [.tup [.bx cs], .pv (.int .i64 k)] = (decT (.bx cs)).map fun p => (p.pend.length ≤ 1000000, .clo 0 [.tup [], pdT (failP p k.toNat)]) := by
  unfold GFail; simp
@[simp] theorem GFail_nil (k : Int) : GFail [.tup [.pv nilD], .pv (.int .i64 k)] = some (True, .clo 0 [.tup [], .pv nilD]) := by
  unfold GFail; simp
theorem c_Fail : ConTG Try.prog 20 GFail := by
  intro ys φ r h hφ
  unfold GFail at h
  split at h
  · rename_i y k
    split at h
    · rename_i hy
      subst hy
      cases h
      refine con_ofG (tab_consG (ks := [2, 0]) c_dAdd (by kernel_rfl) (tab_consG (ks := [2, 0]) c_dDel (by kernel_rfl) (tab_consR c_Mcl (by kernel_rfl) tab_nil))) (by kernel_rfl) fn20 (by simp) rfl (by simp) ?_
      unfold body20
      simp (config := { maxSteps := 3000000 })
    · obtain ⟨p, hp, h⟩ := Option.map_eq_some_iff.1 h
      cases h
      cases decT_inv hp
      obtain ⟨a, b, c⟩ := p
      have hφ : c.length ≤ 1000000 := hφ
      obtain ⟨K, hK⟩ : ∃ K, K = min k.toNat c.length := ⟨_, rfl⟩
      have hKc : K ≤ c.length := by omega
      have hmx : max 0 (min k (c.length : Int)) = (K : Int) := by omega
      have hfin : failP ⟨a, b, c⟩ k.toNat = ⟨runM a (c.take K), runM a (c.take K), []⟩ := by
        have : c.take k.toNat = c.take K := by
          rcases Nat.le_total k.toNat c.length with h1 | h1
          · rw [show K = k.toNat by omega]
          · rw [show K = c.length by omega, List.take_of_length_le h1, List.take_of_length_le (Nat.le_refl _)]
        unfold failP
        rw [this]
      refine con_ofG (tab_consG (ks := [2, 0]) c_dAdd (by kernel_rfl) (tab_consG (ks := [2, 0]) c_dDel (by kernel_rfl) (tab_consR c_Mcl (by kernel_rfl) tab_nil))) (by kernel_rfl) fn20 (by simp) rfl (by simp [pdT]) ?_
      unfold body20
      simp (config := { maxSteps := 3000000 }) [pdT, hfin, hmx, hKc]
      refine ⟨rowsP_three c, ?_⟩
      refine vwp_loop (fun i : Nat => i ≤ K) (fun i => ⟨[(0, .ptr 999 0), (20, .sub 2998 124 0 K), (21, .pv (.int .i64 (K : Int))), (22, .pv (.int .i64 (i : Int)))], [(999, .box [.own 998, .own 1998, .own 2998]), (998, .mpv (mfN (runM a (c.take i)))), (1998, .mpv (mfN b)), (2998, .arr 124 (rowsP c))]⟩) (fun i => K - i) [] 0 (by simp) ?_ ?_
      · simp
        rfl
      · intro i hi
        have w2 : IntKind.i64.wrap ((i : Int) + 1) = (i : Int) + 1 := wrap_i64 (by omega)
        by_cases hlt : i < K
        · have hlc : i < c.length := by omega
          have r1 := rowsP_at hlc
          have hst := runM_take (l := a) hlc
          cases hca : c[i].a with
          | true =>
            have hs2 : stM (runM a (c.take i)) c[i] = nmPut (runM a (c.take i)) ⟨c[i].e.n, c[i].e.i⟩ := by unfold stM; rw [if_pos hca]
            simp (config := { maxSteps := 3000000 }) [hlt, hlc, r1, w2, hca, isfn_add]
            exact ⟨i + 1, by omega, ⟨by omega, by rw [hst, hs2]⟩, by omega⟩
          | false =>
            have hs2 : stM (runM a (c.take i)) c[i] = nmDel (runM a (c.take i)) c[i].e.n := by unfold stM; rw [if_neg (by simp [hca])]
            simp (config := { maxSteps := 3000000 }) [hlt, hlc, r1, w2, hca, isfn_rem]
            exact ⟨i + 1, by omega, ⟨by omega, by rw [hst, hs2]⟩, by omega⟩
        · have hia : i = K := by omega
          subst hia
          simp (config := { maxSteps := 3000000 }) [rowsP_nil]
          exact info_act
  · cases h

open Classical in
noncomputable def GSync : List AV → Option (Prop × AV)
  | [.tup [y]] => if y = .pv nilD then some (True, .clo 0 [.tup [], .pv nilD]) else (decT y).map fun p => (p.pend.length ≤ 1000000, .clo 0 [.tup [], pdT (failP p p.pend.length)])
  | _ => none
@[simp] theorem GSync_eq (cs : List AV) : GSync [.tup [.bx cs]] = (decT (.bx cs)).map fun p => (p.pend.length ≤ 1000000, .clo 0 [.tup [], pdT (failP p p.pend.length)]) := by
  unfold GSync; simp
@[simp] theorem GSync_nil : GSync [.tup [.pv nilD]] = some (True, .clo 0 [.tup [], .pv nilD]) := by
  unfold GSync; simp
theorem c_Sync : ConTG Try.prog 15 GSync := by
  intro ys φ r h hφ
  unfold GSync at h
  split at h
  · rename_i y
    split at h
    · rename_i hy
      subst hy
      cases h
      refine con_ofG (tab_consG (ks := [2, 0]) c_Fail (by kernel_rfl) tab_nil) (by kernel_rfl) fn15 (by simp) rfl (by simp) ?_
      unfold body15
      simp (config := { maxSteps := 3000000 })
    · obtain ⟨p, hp, h⟩ := Option.map_eq_some_iff.1 h
      cases h
      cases decT_inv hp
      obtain ⟨a, b, c⟩ := p
      have hφ : c.length ≤ 1000000 := hφ
      refine con_ofG (tab_consG (ks := [2, 0]) c_Fail (by kernel_rfl) tab_nil) (by kernel_rfl) fn15 (by simp) rfl (by simp [pdT]) ?_
      unfold body15
      simp (config := { maxSteps := 3000000 }) [pdT, hφ, failP]
  · cases h

end Go.Proofs.Ythblkhafehanfaa.Ab
