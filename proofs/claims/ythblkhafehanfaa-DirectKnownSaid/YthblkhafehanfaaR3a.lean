/- Chapter 8, the program: add, remove, an operation of a directory; what reads a directory. -/
import Derived.Test.YthblkhafehanfaaR4
import Derived.Test.YthblkhafehanfaaCodeD
namespace Go.Proofs.Ythblkhafehanfaa.Ab
open Go Go.RowKit R
set_option linter.unusedVariables false
set_option linter.unusedSimpArgs false
set_option maxHeartbeats 4000000
set_option maxRecDepth 100000

/-! ### Maps of names, rows of operations, directories -/

def entN (e : Nm) : PV × PV := (.str e.n, .int .i64 e.i)
def mfN (l : List Nm) : List (PV × PV) := l.map entN
theorem entN_inj : ∀ a b, entN a = entN b → a = b := by
  rintro ⟨k, n⟩ ⟨k', n'⟩ h
  simp only [entN, Prod.mk.injEq, PV.int.injEq, PV.str.injEq, true_and] at h
  rw [h.1, h.2]
theorem mfN_nil : mfN [] = [] := rfl
@[simp] theorem keys_mfN (l : List Nm) : keysV 1 (mfN l) = True := by
  simp only [eq_iff_iff, iff_true]
  intro e he
  obtain ⟨x, _, rfl⟩ := List.mem_map.1 he
  rfl
@[simp] theorem putV_mfN (s : List UInt8) (n : Int) : ∀ l : List Nm, putV (.str s) (.int .i64 n) (mfN l) = mfN (nmPut l ⟨s, n⟩)
  | [] => rfl
  | e :: l => by
    have ih := putV_mfN s n l
    show (if eqP (.str s) (.str e.n) = true then _ else _) = mfN (if s = e.n then _ else _)
    by_cases h : s = e.n
    · simp only [eqP, h, decide_true, if_true]; rfl
    · simp only [eqP, h, decide_false, if_false, Bool.false_eq_true]
      exact congrArg (entN e :: ·) ih
@[simp] theorem delV_mfN (s : List UInt8) : ∀ l : List Nm, delV (.str s) (mfN l) = mfN (nmDel l s)
  | [] => rfl
  | e :: l => by
    have ih := delV_mfN s l
    show (if eqP (.str s) (.str e.n) = true then _ else _) = mfN (if s = e.n then _ else _)
    by_cases h : s = e.n
    · simp only [eqP, h, decide_true, if_true]; rfl
    · simp only [eqP, h, decide_false, if_false, Bool.false_eq_true]
      exact congrArg (entN e :: ·) ih
@[simp] theorem getV_mfN (s : List UInt8) : ∀ l : List Nm, getV (.str s) (mfN l) = (getN l s).map (PV.int .i64)
  | [] => rfl
  | e :: l => by
    have ih := getV_mfN s l
    rw [getN_cons]
    show (if eqP (.str s) (.str e.n) = true then _ else _) = _
    by_cases h : s = e.n
    · simp only [eqP, h, decide_true, if_true]; rfl
    · have h' : ¬ e.n = s := fun e => h e.symm
      simp only [eqP, h, h', decide_false, if_false, Bool.false_eq_true]
      exact ih
@[simp] theorem flat_mfN (l : List Nm) : (∀ e ∈ mfN l, flatP e.2 = true) = True := by
  simp only [eq_iff_iff, iff_true]
  intro e he
  obtain ⟨x, _, rfl⟩ := List.mem_map.1 he
  rfl
def opF (b : Bool) : PV := .val (.func (.func (if b = true then 77 else 76)) #[] #[])
def rowP (x : Ac) : List PV := [.str x.e.n, .int .i64 x.e.i, opF x.a]
theorem opF_inj {a b : Bool} (h : opF a = opF b) : a = b := by
  cases a <;> cases b <;> first | rfl | (exact absurd h (by simp [opF]))
theorem rowP_inj : ∀ a b, rowP a = rowP b → a = b := by
  rintro ⟨k, n, i⟩ ⟨k', n', i'⟩ h
  simp only [rowP, List.cons.injEq, PV.int.injEq, PV.str.injEq, true_and, and_true] at h
  rw [h.1, h.2.1, opF_inj h.2.2]
def rowsP (l : List Ac) : List (List PV) := l.map rowP
theorem rowsP_nil : rowsP [] = [] := rfl
@[simp] theorem rowsP_length (l : List Ac) : (rowsP l).length = l.length := by simp [rowsP]
theorem rowsP_append (l m : List Ac) : rowsP (l ++ m) = rowsP l ++ rowsP m := by simp [rowsP]
theorem rowsP_at {l : List Ac} {i : Nat} (h : i < l.length) : rowAt (rowsP l) (i : Int) = [.str l[i].e.n, .int .i64 l[i].e.i, opF l[i].a] := by
  simp [rowAt, rowsP, h, rowP]
@[simp] theorem snoc_rowsP (l : List Ac) (s : List UInt8) (n : Int) (b : Bool) : rowsP l ++ [[.str s, .int .i64 n, opF b]] = rowsP (l ++ [⟨b, s, n⟩]) := by rw [rowsP_append]; rfl
@[simp] theorem flat_rowsP (l : List Ac) : flatRows (rowsP l) = True := by
  simp only [eq_iff_iff, iff_true]
  intro r hr p hp
  simp only [rowsP, List.mem_map] at hr
  obtain ⟨c, _, rfl⟩ := hr
  simp only [rowP, List.mem_cons, List.not_mem_nil, or_false] at hp
  rcases hp with rfl | rfl | rfl <;> rfl
theorem rowsP_three (l : List Ac) : ∀ r ∈ rowsP l, r.length = 3 := by
  intro r hr
  simp only [rowsP, List.mem_map] at hr
  obtain ⟨c, _, rfl⟩ := hr
  rfl
@[simp] theorem fn_add : PV.val (.func (.func 77) #[] #[]) = opF true := rfl
@[simp] theorem fn_rem : PV.val (.func (.func 76) #[] #[]) = opF false := rfl

/-- a directory, as a tree; as what is read -/
def pdT (p : Pd) : AV := .bx [.mf (mfN p.dur), .mf (mfN p.now), .fr 124 (rowsP p.pend)]
def pdR (p : Pd) : AV := .rp [.mv (mfN p.dur), .mv (mfN p.now), .ro (rowsP p.pend)]
theorem pdT_inj : ∀ p q, pdT p = pdT q → p = q := by
  rintro ⟨a, b, c⟩ ⟨a', b', c'⟩ h
  simp only [pdT, AV.bx.injEq, List.cons.injEq, AV.mf.injEq, AV.fr.injEq, true_and, and_true] at h
  rw [map_inj entN_inj h.1, map_inj entN_inj h.2.1, map_inj rowP_inj h.2.2]
theorem pdR_inj : ∀ p q, pdR p = pdR q → p = q := by
  rintro ⟨a, b, c⟩ ⟨a', b', c'⟩ h
  simp only [pdR, AV.rp.injEq, List.cons.injEq, PV.mv.injEq, PV.ro.injEq, true_and, and_true] at h
  rw [map_inj entN_inj h.1, map_inj entN_inj h.2.1, map_inj rowP_inj h.2.2]
noncomputable def decT (y : AV) : Option Pd := open Classical in if h : ∃ p, pdT p = y then some h.choose else none
noncomputable def decR (y : AV) : Option Pd := open Classical in if h : ∃ p, pdR p = y then some h.choose else none
theorem decT_inv {y : AV} {p : Pd} (h : decT y = some p) : y = pdT p := by
  unfold decT at h
  split at h
  · rename_i h'
    cases h
    exact h'.choose_spec.symm
  · cases h
theorem decR_inv {y : AV} {p : Pd} (h : decR y = some p) : y = pdR p := by
  unfold decR at h
  split at h
  · rename_i h'
    cases h
    exact h'.choose_spec.symm
  · cases h
@[simp] theorem decT_eq (a b : List Nm) (c : List Ac) : decT (.bx [.mf (mfN a), .mf (mfN b), .fr 124 (rowsP c)]) = some ⟨a, b, c⟩ := by
  unfold decT
  have h : ∃ p, pdT p = .bx [.mf (mfN a), .mf (mfN b), .fr 124 (rowsP c)] := ⟨⟨a, b, c⟩, rfl⟩
  rw [dif_pos h]
  exact congrArg some (pdT_inj _ _ (h.choose_spec.trans rfl))
@[simp] theorem decR_eq (a b : List Nm) (c : List Ac) : decR (.rp [.mv (mfN a), .mv (mfN b), .ro (rowsP c)]) = some ⟨a, b, c⟩ := by
  unfold decR
  have h : ∃ p, pdR p = .rp [.mv (mfN a), .mv (mfN b), .ro (rowsP c)] := ⟨⟨a, b, c⟩, rfl⟩
  rw [dif_pos h]
  exact congrArg some (pdR_inj _ _ (h.choose_spec.trans rfl))
abbrev nilD : PV := .val (.pointer none)

/-! ### Writers -/
noncomputable def GdDel : List AV → Option (Prop × AV)
  | [.tup [.mf es], .agg [.pv (.str s), .pv (.int .i64 n)]] => some (keysV 1 es, .clo 0 [.tup [], .mf (delV (.str s) es)])
  | _ => none
@[simp] theorem GdDel_eq (es : List (PV × PV)) (s : List UInt8) (n : Int) : GdDel [.tup [.mf es], .agg [.pv (.str s), .pv (.int .i64 n)]] = some (keysV 1 es, .clo 0 [.tup [], .mf (delV (.str s) es)]) := rfl
theorem c_dDel : ConTG Try.prog 76 GdDel := by
  intro ys φ r h hφ
  unfold GdDel at h
  split at h
  · rename_i es s n
    cases h
    refine con_ofG tab_nil (by kernel_rfl) fn76 (by simp) rfl (by simp) ?_
    unfold body76
    simp (config := { maxSteps := 3000000 }) [hφ]
  · cases h

noncomputable def GdAdd : List AV → Option (Prop × AV)
  | [.tup [.mf es], .agg [.pv (.str s), .pv (.int .i64 n)]] => some (keysV 1 es, .clo 0 [.tup [], .mf (putV (.str s) (.int .i64 n) es)])
  | _ => none
@[simp] theorem GdAdd_eq (es : List (PV × PV)) (s : List UInt8) (n : Int) : GdAdd [.tup [.mf es], .agg [.pv (.str s), .pv (.int .i64 n)]] = some (keysV 1 es, .clo 0 [.tup [], .mf (putV (.str s) (.int .i64 n) es)]) := rfl
theorem c_dAdd : ConTG Try.prog 77 GdAdd := by
  intro ys φ r h hφ
  unfold GdAdd at h
  split at h
  · rename_i es s n
    cases h
    refine con_ofG tab_nil (by kernel_rfl) fn77 (by simp) rfl (by simp) ?_
    unfold body77
    simp (config := { maxSteps := 3000000 }) [hφ]
  · cases h

end Go.Proofs.Ythblkhafehanfaa.Ab
