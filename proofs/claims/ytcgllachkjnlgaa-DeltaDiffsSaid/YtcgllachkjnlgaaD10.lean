/- How many bytes edits are. -/
import Derived.Test.YtcgllachkjnlgaaD9
namespace Go.Proofs.Ytcgllachkjnlgaa.Ab
open Go Go.RowKit R
set_option linter.unusedVariables false
set_option linter.unusedSimpArgs false
set_option maxHeartbeats 4000000
set_option maxRecDepth 100000

def sizesE (e : Ed) : Int × Int := sizesI e.k.toNat e.n e.t
theorem sizesE_eq (e : Ed) : sizesI e.k.toNat e.n e.t = sizesE e := rfl
def sizesL : List Ed → Int × Int
  | [] => (0, 0)
  | e :: l => ((sizesE e).1 + (sizesL l).1, (sizesE e).2 + (sizesL l).2)
theorem sizesL_append (l m : List Ed) : sizesL (l ++ m) = ((sizesL l).1 + (sizesL m).1, (sizesL l).2 + (sizesL m).2) := by
  induction l with
  | nil => simp [sizesL]
  | cons e l ih => simp only [List.cons_append, sizesL, ih]; ext <;> simp <;> omega
theorem sizesE_bound (e : Ed) (h : e.t.length ≤ 2147483647) : 0 ≤ (sizesE e).1 ∧ (sizesE e).1 ≤ 2147483647 ∧ 0 ≤ (sizesE e).2 ∧ (sizesE e).2 ≤ 2147483647 := by
  unfold sizesE sizesI
  split
  · simp
  · rename_i hr
    have hr : rightI e.k.toNat e.n e.t = true := by simpa using hr
    unfold rightI at hr
    split
    · simp; omega
    · rename_i h2
      rw [if_neg h2] at hr
      simp only [Bool.and_eq_true, decide_eq_true_eq] at hr
      split
      · simp; omega
      · simp; omega
theorem sizesL_bound : ∀ (l : List Ed), (∀ e ∈ l, e.t.length ≤ 2147483647) → 0 ≤ (sizesL l).1 ∧ (sizesL l).1 ≤ 2147483647 * l.length ∧ 0 ≤ (sizesL l).2 ∧ (sizesL l).2 ≤ 2147483647 * l.length
  | [], _ => by simp [sizesL]
  | e :: l, h => by
    have h1 := sizesE_bound e (h e (by simp))
    have h2 := sizesL_bound l (fun x hx => h x (by simp [hx]))
    simp only [sizesL, List.length_cons]
    omega

/-- Edits of a bounded number, with texts of a bounded length. -/
def okL (l : List Ed) : Prop := l.length ≤ 10000 ∧ ∀ e ∈ l, e.t.length ≤ 2147483647

noncomputable def GSizes : List AV → Option (Prop × AV)
  | [.pv (.ro a)] => (dec rowE a).map fun l => (okL l, .tup [.pv (.int .i64 (sizesL l).1), .pv (.int .i64 (sizesL l).2)])
  | _ => none
@[simp] theorem GSizes_eq (a : List (List PV)) : GSizes [.pv (.ro a)] = (dec rowE a).map fun l => (okL l, .tup [.pv (.int .i64 (sizesL l).1), .pv (.int .i64 (sizesL l).2)]) := rfl

theorem c_sizes : ConT Try.prog 13 GSizes := by
  intro ys φ r h hφ
  unfold GSizes at h
  split at h
  · rename_i ra
    obtain ⟨a, ha, h⟩ := Option.map_eq_some_iff.1 h
    cases h
    cases dec_rowsE_inv ha
    obtain ⟨hlen, htx⟩ := hφ
    refine con_of (tab_cons c_esizes tab_nil) (by kernel_rfl) fn13 (by simp) ?_
    unfold body13
    simp (config := { maxSteps := 3000000 })
    refine vwp_loop (fun i : Nat => i ≤ a.length) (fun i => ⟨[(8, .pv (.ro (rowsE a))), (9, .pv (.int .i64 a.length)), (10, .pv (.int .i64 i)), (2, .pv (.int .i64 (sizesL (a.take i)).1)), (3, .pv (.int .i64 (sizesL (a.take i)).2))], []⟩) (fun i => a.length - i) [] 0 (by simp) ?_ ?_
    · simp [sizesL]
    · intro i hi
      have w2 : IntKind.i64.wrap ((i : Int) + 1) = (i : Int) + 1 := wrap_i64 (by omega)
      by_cases hlt : i < a.length
      · have r1 := rowsE_at hlt
        have hb := sizesL_bound (a.take i) (fun e he => htx e (List.mem_of_mem_take he))
        have hb2 := sizesE_bound a[i] (htx _ (List.getElem_mem hlt))
        have hl2 : (a.take i).length ≤ 10000 := by simp; omega
        have w3 : IntKind.i64.wrap ((sizesL (a.take i)).1 + (sizesE a[i]).1) = (sizesL (a.take i)).1 + (sizesE a[i]).1 := wrap_i64 (by omega)
        have w4 : IntKind.i64.wrap ((sizesL (a.take i)).2 + (sizesE a[i]).2) = (sizesL (a.take i)).2 + (sizesE a[i]).2 := wrap_i64 (by omega)
        simp (config := { maxSteps := 3000000 }) [w2, hlt, r1, sizesE_eq, w3, w4]
        refine ⟨i + 1, by omega, ⟨by omega, ?_, ?_⟩, by omega⟩ <;> rw [List.take_succ_eq_append_getElem hlt, sizesL_append] <;> simp [sizesL]
      · simp (config := { maxSteps := 3000000 }) [hlt]
        rw [List.take_of_length_le (by omega)]
        simp
  · cases h

theorem c_rsizes : ConT Try.prog 14 GSizes := by
  intro ys φ r h hφ
  unfold GSizes at h
  split at h
  · rename_i ra
    obtain ⟨a, ha, h⟩ := Option.map_eq_some_iff.1 h
    cases h
    cases dec_rowsE_inv ha
    obtain ⟨hlen, htx⟩ := hφ
    refine con_of (tab_cons c_rright tab_nil) (by kernel_rfl) fn14 (by simp) ?_
    unfold body14
    simp (config := { maxSteps := 3000000 })
    refine vwp_loop (fun i : Nat => i ≤ a.length) (fun i => ⟨[(0, .pv (.ro (rowsE a))), (6, .pv (.int .i64 i)), (4, .pv (.int .i64 (sizesL (a.take i)).1)), (5, .pv (.int .i64 (sizesL (a.take i)).2))], []⟩) (fun i => a.length - i) [] 0 (by simp) ?_ ?_
    · simp [sizesL]
    · intro i hi
      have w2 : IntKind.i64.wrap ((i : Int) + 1) = (i : Int) + 1 := wrap_i64 (by omega)
      by_cases hlt : i < a.length
      · have r1 := rowsE_at hlt
        have hb := sizesL_bound (a.take i) (fun e he => htx e (List.mem_of_mem_take he))
        have htl := htx _ (List.getElem_mem hlt)
        have hb2 := sizesE_bound a[i] htl
        have hl2 : (a.take i).length ≤ 10000 := by simp; omega
        have hgo : ∀ x y, sizesE a[i] = (x, y) → ∃ x' : Nat, x' ≤ a.length ∧ ((i : Int) + 1 = x' ∧ (sizesL (a.take i)).1 + x = (sizesL (a.take x')).1 ∧ (sizesL (a.take i)).2 + y = (sizesL (a.take x')).2) ∧ a.length - x' < a.length - i := by
          intro x y hxy
          refine ⟨i + 1, by omega, ⟨by omega, ?_, ?_⟩, by omega⟩ <;> rw [List.take_succ_eq_append_getElem hlt, sizesL_append] <;> simp [sizesL, hxy]
        by_cases hr : rightE a[i] = true
        · have hr' : rightI a[i].k.toNat a[i].n a[i].t = true := hr
          have hse : sizesE a[i] = if (a[i].k.toNat : Int) = 2 then (0, (a[i].t.length : Int)) else if (a[i].k.toNat : Int) = 3 then (a[i].n, 0) else (a[i].n, a[i].n) := by
            unfold sizesE sizesI; rw [if_neg (by simp [hr'])]
          unfold rightI at hr'
          by_cases h2 : (a[i].k.toNat : Int) = 2
          · rw [if_pos h2] at hr' hse
            simp only [Bool.and_eq_true, decide_eq_true_eq] at hr'
            have w4 : IntKind.i64.wrap ((sizesL (a.take i)).2 + a[i].n) = (sizesL (a.take i)).2 := by rw [hr'.1, Int.add_zero]; exact wrap_i64 (by omega)
            have w5 : IntKind.i64.wrap ((sizesL (a.take i)).2 + (a[i].t.length : Int)) = (sizesL (a.take i)).2 + (a[i].t.length : Int) := wrap_i64 (by omega)
            have hr2 : rightI 2 a[i].n a[i].t = true := by rw [← h2]; exact hr
            have := hgo _ _ hse
            simp (config := { maxSteps := 3000000 }) [w2, hlt, r1, rightE_eq, hr2, h2, w4, w5]
            simpa using this
          · rw [if_neg h2] at hr' hse
            simp only [Bool.and_eq_true, Bool.or_eq_true, decide_eq_true_eq] at hr'
            have w3 : IntKind.i64.wrap ((sizesL (a.take i)).1 + a[i].n) = (sizesL (a.take i)).1 + a[i].n := wrap_i64 (by omega)
            by_cases h3 : (a[i].k.toNat : Int) = 3
            · rw [if_pos h3] at hse
              have hr2 : rightI 3 a[i].n a[i].t = true := by rw [← h3]; exact hr
              have := hgo _ _ hse
              simp (config := { maxSteps := 3000000 }) [w2, hlt, r1, rightE_eq, hr2, h3, w3]
              simpa using this
            · rw [if_neg h3] at hse
              have w4 : IntKind.i64.wrap ((sizesL (a.take i)).2 + a[i].n) = (sizesL (a.take i)).2 + a[i].n := wrap_i64 (by omega)
              have w5 : IntKind.i64.wrap ((sizesL (a.take i)).2 + a[i].n + (a[i].t.length : Int)) = (sizesL (a.take i)).2 + a[i].n := by rw [hr'.2]; simp; exact w4
              have := hgo _ _ hse
              simp (config := { maxSteps := 3000000 }) [w2, hlt, r1, rightE_eq, hr, h2, h3, w3, w4, w5]
              simpa using this
        · have hr' : rightE a[i] = false := by simpa using hr
          have hse : sizesE a[i] = (0, 0) := by
            unfold sizesE sizesI; rw [if_pos (show rightI a[i].k.toNat a[i].n a[i].t = false from hr')]
          have := hgo _ _ hse
          simp (config := { maxSteps := 3000000 }) [w2, hlt, r1, rightE_eq, hr']
          simpa using this
      · simp (config := { maxSteps := 3000000 }) [hlt]
        rw [List.take_of_length_le (by omega)]
        simp
  · cases h

end Go.Proofs.Ytcgllachkjnlgaa.Ab
