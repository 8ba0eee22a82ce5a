/- Chapter 8: what the laws share: Pick, few, same, alike, is. -/
import Derived.Test.YthblkhafehanfaaR7
import Derived.Test.YthblkhafehanfaaCodeE
namespace Go.Proofs.Ythblkhafehanfaa.Ab
open Go Go.RowKit R
set_option linter.unusedVariables false
set_option linter.unusedSimpArgs false
set_option maxHeartbeats 4000000
set_option maxRecDepth 100000

/-! ### Rows of calls -/
def rowQ (x : Cl) : List PV := [.int .i64 x.d, .str x.n, .int .i64 x.k]
theorem rowQ_inj : ∀ a b, rowQ a = rowQ b → a = b := by
  rintro ⟨d, n, k⟩ ⟨d', n', k'⟩ h
  simp only [rowQ, List.cons.injEq, PV.int.injEq, PV.str.injEq, true_and, and_true] at h
  rw [h.1, h.2.1, h.2.2]
def rowsQ (l : List Cl) : List (List PV) := l.map rowQ
@[simp] theorem rowsQ_nil : rowsQ [] = [] := rfl
@[simp] theorem rowsQ_length (l : List Cl) : (rowsQ l).length = l.length := by simp [rowsQ]
theorem rowsQ_append (l m : List Cl) : rowsQ (l ++ m) = rowsQ l ++ rowsQ m := by simp [rowsQ]
theorem rowsQ_at {l : List Cl} {i : Nat} (h : i < l.length) : rowAt (rowsQ l) (i : Int) = [.int .i64 l[i].d, .str l[i].n, .int .i64 l[i].k] := by
  simp [rowAt, rowsQ, h, rowQ]
@[simp] theorem dec_rowsQ (l : List Cl) : dec rowQ (rowsQ l) = some l := dec_map rowQ_inj l

theorem dec_rowsQ_inv {rows : List (List PV)} {l : List Cl} (h : dec rowQ rows = some l) : rows = rowsQ l := dec_inv h

/-! ### Pick -/
theorem pick_eq (i : Int) : (IntKind.i64.wrap (i.tmod 6 + 6)).tmod 6 = i % 6 := by
  have h1 : i.tmod 6 = if 0 ≤ i then i % 6 else -((-i) % 6) := by
    split
    · rename_i h; exact Int.tmod_eq_emod_of_nonneg h
    · rename_i h
      have e := Int.neg_tmod (-i) 6
      rw [Int.neg_neg] at e
      rw [e, Int.tmod_eq_emod_of_nonneg (by omega)]
  have h2 : 0 ≤ i.tmod 6 + 6 ∧ i.tmod 6 + 6 < 12 := by rw [h1]; split <;> omega
  rw [wrap_i64 (by omega), Int.tmod_eq_emod_of_nonneg h2.1, h1]
  split <;> omega
noncomputable def GPk : List AV → Option (Prop × AV)
  | [.pv (.int .i64 i), .pv (.int .i64 m)] => if m = 6 then some (True, .pv (.int .i64 (i % 6))) else none
  | _ => none
@[simp] theorem GPk_eq (i m : Int) : GPk [.pv (.int .i64 i), .pv (.int .i64 m)] = if m = 6 then some (True, .pv (.int .i64 (i % 6))) else none := rfl
theorem c_Pk : ConT Try.prog 18 GPk := by
  intro ys φ r h hφ
  unfold GPk at h
  split at h
  · rename_i i m
    split at h
    · rename_i hm
      subst hm
      cases h
      refine con_of tab_nil (by kernel_rfl) fn18 (by simp) ?_
      unfold body18
      simp (config := { maxSteps := 3000000 })
      exact pick_eq i
    · cases h
  · cases h

/-! ### few -/
def fewQ (l : List Cl) (m : Int) : Bool := l.all (fun x => decide (x.n.length ≤ 80)) && decide ((l.length : Int) ≤ m)
noncomputable def GFw : List AV → Option (Prop × AV)
  | [.pv (.ro a), .pv (.int .i64 m)] => (dec rowQ a).map fun l => (l.length ≤ maxLen, .pv (.bool (fewQ l m)))
  | _ => none
@[simp] theorem GFw_eq (a : List (List PV)) (m : Int) : GFw [.pv (.ro a), .pv (.int .i64 m)] = (dec rowQ a).map fun l => (l.length ≤ maxLen, .pv (.bool (fewQ l m))) := rfl
theorem c_Fw : ConT Try.prog 11 GFw := by
  intro ys φ r h hφ
  unfold GFw at h
  split at h
  · rename_i ra m
    obtain ⟨a, ha, h⟩ := Option.map_eq_some_iff.1 h
    cases h
    cases dec_rowsQ_inv ha
    refine con_of tab_nil (by kernel_rfl) fn11 (by simp) ?_
    unfold body11
    simp (config := { maxSteps := 3000000 })
    refine vwp_loop (fun i : Nat => i ≤ a.length ∧ ∀ (j : Nat) (h : j < a.length), j < i → a[j].n.length ≤ 80) (fun i => ⟨[(0, .pv (.ro (rowsQ a))), (1, .pv (.int .i64 m)), (4, .pv (.bool false)), (5, .pv (.int .i64 i))], []⟩) (fun i => a.length - i) [] 0 (by simp) ?_ ?_
    · simp
    · rintro i ⟨hi, hj⟩
      by_cases hlt : i < a.length
      · have w2 : IntKind.i64.wrap ((i : Int) + 1) = (i : Int) + 1 := wrap_i64 (by rw [maxLen_eq] at hφ; omega)
        have r1 := rowsQ_at hlt
        by_cases he : a[i].n.length ≤ 80
        · have he2 : ((a[i].n.length : Int) ≤ 80) = True := by simp; omega
          have he3 : ¬ (80 : Int) < (a[i].n.length : Int) := by omega
          simp (config := { maxSteps := 3000000 }) [hlt, r1, he2, he3, w2]
          refine ⟨i + 1, ⟨by omega, fun j h hji => ?_⟩, by omega, by omega⟩
          rcases Nat.lt_or_eq_of_le (Nat.le_of_lt_succ hji) with h1 | rfl
          · exact hj j h h1
          · exact he
        · have he2 : ((a[i].n.length : Int) ≤ 80) = False := by simp; omega
          have he3 : (80 : Int) < (a[i].n.length : Int) := by omega
          have hx : fewQ a m = false := by
            unfold fewQ
            rw [List.all_eq_false.2 ⟨a[i], List.getElem_mem hlt, by simpa using he⟩]
            rfl
          simp (config := { maxSteps := 3000000 }) [hlt, r1, he2, he3, hx]
      · have hia : i = a.length := by omega
        subst hia
        have hx : fewQ a m = decide ((a.length : Int) ≤ m) := by
          unfold fewQ
          rw [List.all_eq_true.2 fun x hx => by
            obtain ⟨j, h, rfl⟩ := List.getElem_of_mem hx
            simpa using hj j h h]
          rfl
        simp (config := { maxSteps := 3000000 }) [hx]
  · cases h

/-! ### same, alike -/
theorem rows_ne {a b : List Nm} (h : a.length = b.length) (hn : a ≠ b) : ∃ (i : Nat) (h1 : i < a.length) (h2 : i < b.length), a[i] ≠ b[i] := by
  apply Classical.byContradiction
  intro hc
  exact hn (List.ext_getElem h fun i h1 h2 => Classical.byContradiction fun hne => hc ⟨i, h1, h2, hne⟩)
noncomputable def GSa : List AV → Option (Prop × AV)
  | [.pv (.ro a), .pv (.ro b)] => (dec rowN a).bind fun l => (dec rowN b).map fun m => (l.length ≤ 1000000000 ∧ m.length ≤ 1000000000, .pv (.bool (decide (l = m))))
  | _ => none
@[simp] theorem GSa_eq (a b : List (List PV)) : GSa [.pv (.ro a), .pv (.ro b)] = (dec rowN a).bind fun l => (dec rowN b).map fun m => (l.length ≤ 1000000000 ∧ m.length ≤ 1000000000, .pv (.bool (decide (l = m)))) := rfl
theorem c_Sa : ConT Try.prog 64 GSa := by
  intro ys φ r h hφ
  unfold GSa at h
  split at h
  · rename_i ra rb
    obtain ⟨a, ha, h⟩ := Option.bind_eq_some_iff.1 h
    obtain ⟨b, hb, h⟩ := Option.map_eq_some_iff.1 h
    cases h
    cases dec_rowsN_inv ha
    cases dec_rowsN_inv hb
    obtain ⟨h5, h6⟩ := hφ
    refine con_of tab_nil (by kernel_rfl) fn64 (by simp) ?_
    unfold body64
    by_cases hl : a.length = b.length
    · simp (config := { maxSteps := 3000000 }) [hl]
      refine vwp_loop (fun i : Nat => i ≤ a.length ∧ ∀ (j : Nat) (h : j < a.length) (h2 : j < b.length), j < i → a[j] = b[j]) (fun i => ⟨[(0, .pv (.ro (rowsN a))), (1, .pv (.ro (rowsN b))), (4, .pv (.bool false)), (5, .pv (.int .i64 i))], []⟩) (fun i => a.length - i) [] 0 (by simp) ?_ ?_
      · simp
      · rintro i ⟨hi, hj⟩
        have w2 : IntKind.i64.wrap ((i : Int) + 1) = (i : Int) + 1 := wrap_i64 (by omega)
        by_cases hlt : i < a.length
        · have hlb : i < b.length := by omega
          have r1 := rowsN_at hlt
          have r2 := rowsN_at hlb
          by_cases he : a[i] = b[i]
          · have e1 : a[i].n = b[i].n := by rw [he]
            have e2 : a[i].i = b[i].i := by rw [he]
            simp (config := { maxSteps := 3000000 }) [hl, hlt, hlb, r1, r2, e1, e2, w2]
            refine ⟨i + 1, ⟨by omega, fun j h h2 hji => ?_⟩, by omega, by omega⟩
            rcases Nat.lt_or_eq_of_le (Nat.le_of_lt_succ hji) with h1 | rfl
            · exact hj j (by omega) (by omega) h1
            · exact he
          · have hx : ¬ a = b := fun e => by subst e; exact he rfl
            by_cases e1 : a[i].n = b[i].n
            · have e2 : ¬ a[i].i = b[i].i := fun e2 => he (by
                have : ∀ x y : Nm, x.n = y.n → x.i = y.i → x = y := by rintro ⟨_, _⟩ ⟨_, _⟩ rfl rfl; rfl
                exact this _ _ e1 e2)
              simp (config := { maxSteps := 3000000 }) [hl, hlt, hlb, r1, r2, e1, e2, hx]
            · simp (config := { maxSteps := 3000000 }) [hl, hlt, hlb, r1, r2, e1, hx]
        · have hia : i = a.length := by omega
          subst hia
          have hx : a = b := List.ext_getElem hl fun j h1 h2 => hj j h1 h2 h1
          simp (config := { maxSteps := 3000000 }) [hx]
    · have hx : ¬ a = b := fun e => hl (by rw [e])
      have hl2 : ¬ (a.length : Int) = (b.length : Int) := by omega
      simp (config := { maxSteps := 3000000 }) [hl, hl2, hx]
  · cases h

theorem c_Al : ConT Try.prog 21 GSa := by
  intro ys φ r h hφ
  unfold GSa at h
  split at h
  · rename_i ra rb
    obtain ⟨a, ha, h⟩ := Option.bind_eq_some_iff.1 h
    obtain ⟨b, hb, h⟩ := Option.map_eq_some_iff.1 h
    cases h
    cases dec_rowsN_inv ha
    cases dec_rowsN_inv hb
    obtain ⟨h5, h6⟩ := hφ
    refine con_of tab_nil (by kernel_rfl) fn21 (by simp) ?_
    unfold body21
    by_cases hl : a.length = b.length
    · simp (config := { maxSteps := 3000000 }) [hl]
      refine vwp_loop (fun i : Nat => i ≤ a.length ∧ ∀ (j : Nat) (h : j < a.length) (h2 : j < b.length), j < i → a[j] = b[j]) (fun i => ⟨[(0, .pv (.ro (rowsN a))), (1, .pv (.ro (rowsN b))), (4, .pv (.bool false)), (5, .pv (.int .i64 i))], []⟩) (fun i => a.length - i) [] 0 (by simp) ?_ ?_
      · simp
      · rintro i ⟨hi, hj⟩
        have w2 : IntKind.i64.wrap ((i : Int) + 1) = (i : Int) + 1 := wrap_i64 (by omega)
        by_cases hlt : i < a.length
        · have hlb : i < b.length := by omega
          have r1 := rowsN_at hlt
          have r2 := rowsN_at hlb
          by_cases he : a[i] = b[i]
          · have e1 : a[i].n = b[i].n := by rw [he]
            have e2 : a[i].i = b[i].i := by rw [he]
            simp (config := { maxSteps := 3000000 }) [hl, hlt, hlb, r1, r2, e1, e2, w2, eqPs, eqP]
            refine ⟨i + 1, ⟨by omega, fun j h h2 hji => ?_⟩, by omega, by omega⟩
            rcases Nat.lt_or_eq_of_le (Nat.le_of_lt_succ hji) with h1 | rfl
            · exact hj j (by omega) (by omega) h1
            · exact he
          · have hx : ¬ a = b := fun e => by subst e; exact he rfl
            by_cases e1 : a[i].n = b[i].n
            · have e2 : ¬ a[i].i = b[i].i := fun e2 => he (by
                have : ∀ x y : Nm, x.n = y.n → x.i = y.i → x = y := by rintro ⟨_, _⟩ ⟨_, _⟩ rfl rfl; rfl
                exact this _ _ e1 e2)
              simp (config := { maxSteps := 3000000 }) [hl, hlt, hlb, r1, r2, e1, e2, hx, eqPs, eqP]
            · simp (config := { maxSteps := 3000000 }) [hl, hlt, hlb, r1, r2, e1, hx, eqPs, eqP]
        · have hia : i = a.length := by omega
          subst hia
          have hx : a = b := List.ext_getElem hl fun j h1 h2 => hj j h1 h2 h1
          simp (config := { maxSteps := 3000000 }) [hx]
    · have hx : ¬ a = b := fun e => hl (by rw [e])
      have hl2 : ¬ (a.length : Int) = (b.length : Int) := by omega
      simp (config := { maxSteps := 3000000 }) [hl, hl2, hx]
  · cases h

end Go.Proofs.Ythblkhafehanfaa.Ab
