/- Edits applied, as the reference does it. -/
import Derived.Test.YtcgllachkjnlgaaD14
import Derived.Test.YtcgllachkjnlgaaD12
namespace Go.Proofs.Ytcgllachkjnlgaa.Ab
open Go Go.RowKit R
set_option linter.unusedVariables false
set_option linter.unusedSimpArgs false
set_option maxHeartbeats 4000000
set_option maxRecDepth 100000

def outL : List UInt8 → List Ed → List UInt8
  | _, [] => []
  | base, e :: l => if e.k = 1 then base.take e.n.toNat ++ outL (base.drop e.n.toNat) l else if e.k = 2 then e.t ++ outL base l else outL (base.drop e.n.toNat) l
def applyL (base : List UInt8) (l : List Ed) : List UInt8 × Int := if rightL l = true ∧ (sizesL l).1 = base.length then (outL base l, 0) else ([], 50)
theorem outL_len : ∀ {l : List Ed} {base : List UInt8}, (∀ e ∈ l, e.t.length ≤ 1000000) → (outL base l).length ≤ base.length + 1000000 * l.length
  | [], _, _ => by simp [outL]
  | e :: l, base, h => by
    have h0 := h e (by simp)
    have h1 := fun b : List UInt8 => outL_len (l := l) (base := b) fun x hx => h x (by simp [hx])
    unfold outL
    split
    · have := h1 (base.drop e.n.toNat)
      simp at this ⊢; omega
    · split
      · have := h1 base
        simp; omega
      · have := h1 (base.drop e.n.toNat)
        simp at this ⊢; omega
def okA (base : List UInt8) (l : List Ed) : Prop := base.length ≤ 1000000 ∧ okP l

theorem sizesE_one (e : Ed) (h : rightE e = true) : (sizesE e).1 = e.n ∧ 0 ≤ e.n ∧ (e.k = 2 → e.n = 0) ∧ (e.k ≠ 2 → e.t = []) ∧ (e.k = 1 ∨ e.k = 2 ∨ e.k = 3) := by
  have ho := okE_of h
  have hs : sizesE e = if (e.k.toNat : Int) = 2 then (0, (e.t.length : Int)) else if (e.k.toNat : Int) = 3 then (e.n, 0) else (e.n, e.n) := by
    unfold sizesE sizesI; rw [if_neg (by rw [show rightI e.k.toNat e.n e.t = true from h]; simp)]
  rcases ho with ⟨h1, h2, h3⟩ | ⟨h1 | h1, h2, h3⟩
  · rw [hs, h1]; simp [h2]
  · rw [hs, h1]; simp [h3]; omega
  · rw [hs, h1]; simp [h3]; omega

noncomputable def GApply : List AV → Option (Prop × AV)
  | [.pv (.str base), .pv (.ro a)] => (dec rowE a).map fun l => (okA base l, .tup [.pv (.str (applyL base l).1), .pv (.int .i64 (applyL base l).2)])
  | _ => none
@[simp] theorem GApply_eq (base : List UInt8) (a : List (List PV)) : GApply [.pv (.str base), .pv (.ro a)] = (dec rowE a).map fun l => (okA base l, .tup [.pv (.str (applyL base l).1), .pv (.int .i64 (applyL base l).2)]) := rfl

theorem c_rApply : ConT Try.prog 12 GApply := by
  intro ys φ r h hφ
  unfold GApply at h
  split at h
  · rename_i base ra
    obtain ⟨a, ha, h⟩ := Option.map_eq_some_iff.1 h
    cases h
    cases dec_rowsE_inv ha
    obtain ⟨hbl, hlen, htx⟩ := hφ
    have hoL : okL a := ⟨hlen, fun e he => by have := htx e he; omega⟩
    have hM := outL_len (l := a) (base := base) htx
    refine con_of (tab_cons c_rRight (tab_cons c_rsizes tab_nil)) (by kernel_rfl) fn12 (by simp) ?_
    unfold body12
    have hl9 : a.length ≤ 1000000000 := by omega
    by_cases hcond : rightL a = true ∧ (sizesL a).1 = base.length
    · have hno : applyL base a = (outL base a, 0) := by unfold applyL; rw [if_pos hcond]
      obtain ⟨hr, hs⟩ := hcond
      have hra : ∀ e ∈ a, rightE e = true := by unfold rightL at hr; rw [List.all_eq_true] at hr; exact hr
      simp (config := { maxSteps := 3000000 }) [hr, hs, hno, hoL, hl9]
      refine vwp_loop (fun x : Nat × Nat × List UInt8 => x.1 ≤ a.length ∧ (x.2.1 : Int) + (sizesL (a.drop x.1)).1 = base.length ∧ x.2.2 ++ outL (base.drop x.2.1) (a.drop x.1) = outL base a)
        (fun x => ⟨[(0, .pv (.str base)), (1, .pv (.ro (rowsE a))), (10, .pv (.int .i64 x.1)), (9, .pv (.int .i64 x.2.1)), (8, .own 8)], [(8, .arr 5 (bytesRow x.2.2))]⟩) (fun x => a.length - x.1) [] (0, 0, []) ?_ ?_ ?_
      · simp [hs]
      · simp
      · rintro ⟨i, pos, out⟩ ⟨hi, hpos, hout⟩
        dsimp only at hi hpos hout
        have w2 : IntKind.i64.wrap ((i : Int) + 1) = (i : Int) + 1 := wrap_i64 (by omega)
        by_cases hlt : i < a.length
        · have r1 := rowsE_at hlt
          have hrl := hra _ (List.getElem_mem hlt)
          have htl := htx _ (List.getElem_mem hlt)
          obtain ⟨hs1, hs2, hs3, hs4, hs5⟩ := sizesE_one _ hrl
          rw [List.drop_eq_getElem_cons hlt] at hpos hout
          simp only [sizesL, hs1] at hpos
          have hsb := (sizesL_bound (a.drop (i + 1)) fun e he => by have := htx e (List.mem_of_mem_drop he); omega).1
          simp (config := { maxSteps := 3000000 }) [hlt]
          have hol : out.length ≤ (outL base a).length := by rw [← hout]; simp
          -- what is retained, or deleted
          refine vwp_loop (fun k : Nat => (k : Int) ≤ a[i].n)
            (fun k => ⟨[(0, .pv (.str base)), (1, .pv (.ro (rowsE a))), (10, .pv (.int .i64 i)), (9, .pv (.int .i64 ((pos + k : Nat) : Int))), (8, .own 8), (11, .pv (.int .i64 k))], [(8, .arr 5 (bytesRow (out ++ if a[i].k = 1 then (base.drop pos).take k else [])))]⟩) (fun k => a[i].n.toNat - k) [] 0 ?_ ?_ ?_
          · simpa using hs2
          · simp
          · intro k hk
            have w3 : IntKind.i64.wrap ((k : Int) + 1) = (k : Int) + 1 := wrap_i64 (by omega)
            have w4 : IntKind.i64.wrap ((pos : Int) + (k : Int) + 1) = (pos : Int) + (k : Int) + 1 := wrap_i64 (by omega)
            by_cases hkn : (k : Int) < a[i].n
            · have hpk : pos + k < base.length := by omega
              have hpk' : (pos : Int) + (k : Int) < (base.length : Int) := by omega
              by_cases h1 : (a[i].k.toNat : Int) = 1
              · have hk1 : a[i].k = 1 := UInt8.toNat_inj.1 (show a[i].k.toNat = 1 by omega)
                simp (config := { maxSteps := 3000000 }) [w3, w4, hlt, r1, hkn, h1, hk1, hpk, hpk', maxLen_eq]
                have hb : ((pos : Int) + (k : Int)).toNat = pos + k := by omega
                refine ⟨by omega, ⟨by omega, by omega⟩, k + 1, by omega, ⟨⟨by omega, by omega⟩, ?_⟩, by omega⟩
                have hdk : k < (base.drop pos).length := by simp; omega
                rw [hb, List.take_succ_eq_append_getElem hdk, ← List.append_assoc, bytesRow_append]
                simp [bytesRow, hpk]
              · have hk1 : ¬ a[i].k = 1 := fun e => h1 (by rw [e]; rfl)
                simp (config := { maxSteps := 3000000 }) [w3, w4, hlt, r1, hkn, h1, hk1, hpk, hpk', maxLen_eq]
                exact ⟨k + 1, by omega, ⟨by omega, by omega⟩, by omega⟩
            · simp (config := { maxSteps := 3000000 }) [hlt, r1, hkn]
              have hkn' : (k : Int) = a[i].n := by omega
              have hkt : a[i].n.toNat = k := by omega
              refine vwp_loop (fun j : Nat => j ≤ a[i].t.length)
                (fun j => ⟨[(0, .pv (.str base)), (1, .pv (.ro (rowsE a))), (10, .pv (.int .i64 i)), (9, .pv (.int .i64 ((pos + k : Nat) : Int))), (8, .own 8), (12, .pv (.int .i64 j))], [(8, .arr 5 (bytesRow (out ++ (if a[i].k = 1 then (base.drop pos).take k else []) ++ a[i].t.take j)))]⟩) (fun j => a[i].t.length - j) [] 0 (by simp) ?_ ?_
              · simp
              · intro j hj
                have w5 : IntKind.i64.wrap ((j : Int) + 1) = (j : Int) + 1 := wrap_i64 (by omega)
                have hpre : (out ++ if a[i].k = 1 then (base.drop pos).take k else []).length ≤ 2000000 + 1000000 * a.length := by
                  rw [List.length_append]
                  split <;> simp <;> omega
                generalize hG : (out ++ if a[i].k = 1 then (base.drop pos).take k else []) = G at *
                by_cases hjn : j < a[i].t.length
                · simp (config := { maxSteps := 3000000 }) [w5, hlt, r1, hjn, maxLen_eq]
                  refine ⟨⟨by omega, by omega⟩, j + 1, by omega, ⟨by omega, ?_⟩, by omega⟩
                  rw [List.take_succ_eq_append_getElem hjn, ← List.append_assoc, bytesRow_append (G ++ _)]; rfl
                · simp (config := { maxSteps := 3000000 }) [w2, hlt, r1, hjn, maxLen_eq]
                  refine ⟨i + 1, pos + k, G ++ a[i].t, ⟨by omega, by omega, ?_⟩, ⟨⟨by omega, by omega⟩, by rw [List.take_of_length_le (by omega)]⟩, by omega⟩
                  rw [← hout, ← hG]
                  rcases hs5 with h5 | h5 | h5
                  · have ht := hs4 (by rw [h5]; decide)
                    simp [outL, h5, hkt, ht, List.drop_drop]
                  · have hk0 : k = 0 := by have := hs3 h5; omega
                    subst hk0
                    simp [outL, h5]
                  · have ht := hs4 (by rw [h5]; decide)
                    simp [outL, h5, hkt, ht, List.drop_drop]
        · simp (config := { maxSteps := 3000000 }) [hlt]
          rw [List.drop_eq_nil_of_le (show a.length ≤ i by omega)] at hout
          simp only [outL, List.append_nil] at hout
          exact hout
    · have hno : applyL base a = ([], 50) := by unfold applyL; rw [if_neg hcond]
      by_cases hr : rightL a = true
      · have hs : ¬ (sizesL a).1 = base.length := fun e => hcond ⟨hr, e⟩
        simp (config := { maxSteps := 3000000 }) [hr, hs, hno, hoL, hl9]
      · have hr' : rightL a = false := by simpa using hr
        simp (config := { maxSteps := 3000000 }) [hr', hno, hoL, hl9]
  · cases h

end Go.Proofs.Ytcgllachkjnlgaa.Ab
