/- Chapter 14: Remove and Of, as the program and the reference do it. -/
import Derived.Test.YtfpmjcdcpicmaaaP10
namespace Go.Proofs.Ytfpmjcdcpicmaaa.Ab
open Go Go.RowKit R
set_option linter.unusedVariables false
set_option linter.unusedSimpArgs false
set_option maxHeartbeats 4000000
set_option maxRecDepth 100000

/-- Without the first one of that number. -/
def remL (n : Int) : List Pn → List Pn
  | [] => []
  | e :: l => if e.i = n then l else e :: remL n l
def hasI (l : List Pn) (n : Int) : Bool := l.any fun e => decide (e.i = n)
def remP (l : List Pn) (n : Int) : List Pn × Int := if hasI l n = true then (remL n l, 0) else ([], 80)
theorem remL_len (n : Int) : ∀ l : List Pn, (remL n l).length ≤ l.length
  | [] => by simp [remL]
  | e :: l => by
    have := remL_len n l
    unfold remL
    split
    · simp
    · simp; exact this
theorem remL_snoc (n : Int) (e : Pn) : ∀ l : List Pn, remL n (l ++ [e]) = if hasI l n = true then remL n l ++ [e] else if e.i = n then l else l ++ [e]
  | [] => by simp [remL, hasI]
  | x :: l => by
    have ih := remL_snoc n e l
    by_cases hx : x.i = n
    · simp [remL, hasI, hx]
    · have : hasI (x :: l) n = hasI l n := by simp [hasI, hx]
      simp only [List.cons_append, remL, if_neg hx, ih, this]
      split
      · rfl
      · split <;> rfl
theorem remL_none {n : Int} : ∀ {l : List Pn}, hasI l n = false → remL n l = l
  | [], _ => rfl
  | x :: l, h => by
    simp only [hasI, List.any_cons, Bool.or_eq_false_iff, decide_eq_false_iff_not] at h
    simp only [remL, if_neg h.1, remL_none (n := n) (l := l) h.2]
theorem hasI_snoc (l : List Pn) (e : Pn) (n : Int) : hasI (l ++ [e]) n = (hasI l n || decide (e.i = n)) := by simp [hasI]
/-- .. by its place. -/
theorem remL_idx (n : Int) : ∀ l : List Pn, hasI l n = true → ∃ k : Nat, idxP (fun e => decide (e.i = n)) l = (k : Int) ∧ k < l.length ∧ remL n l = l.take k ++ l.drop (k + 1)
  | [], h => by simp [hasI] at h
  | x :: l, h => by
    by_cases hx : x.i = n
    · refine ⟨0, ?_, by simp, by simp [remL, hx]⟩
      exact idxP_at (i := 0) (by simp) (by simpa using hx) (by simp)
    · have h' : hasI l n = true := by simpa [hasI, hx] using h
      obtain ⟨k, h1, h2, h3⟩ := remL_idx n l h'
      refine ⟨k + 1, ?_, by simp; omega, by simp [remL, hx, h3]⟩
      unfold idxP at h1 ⊢
      split at h1
      · rename_i hlt
        have hf : (x :: l).findIdx (fun e => decide (e.i = n)) = l.findIdx (fun e => decide (e.i = n)) + 1 := by
          rw [List.findIdx_cons]; simp [hx]
        rw [hf, if_pos (by rw [List.length_cons]; omega)]
        omega
      · omega

noncomputable def GGrow : List AV → Option (Prop × AV)
  | [.pv .nil, .pv (.int .i64 n)] => some (0 ≤ n ∧ n ≤ 1000000, .fr 117 [])
  | _ => none
@[simp] theorem GGrow_eq (n : Int) : GGrow [.pv .nil, .pv (.int .i64 n)] = some (0 ≤ n ∧ n ≤ 1000000, .fr 117 []) := rfl
theorem c_Grow : ConTU Try.prog 166 GGrow := by
  intro ys φ r h hφ
  unfold GGrow at h
  split at h
  · rename_i n
    cases h
    obtain ⟨h1, h2⟩ := hφ
    have hinf : (Try.prog.info? 117).isSome = true := by kernel_rfl
    have w0 : IntKind.i64.wrap 0 = 0 := wrap_i64 (by omega)
    have w1 : IntKind.i64.wrap n = n := wrap_i64 (by omega)
    refine con_ofU tab_nil (by kernel_rfl) fn166 (by simp) (by simp [resOK, res1, resC]) (by simp) ?_
    unfold body166
    have hn0 : ¬ n < 0 := by omega
    by_cases h0 : 0 < n
    · simp (config := { maxSteps := 3000000 }) [hn0, h0, w0, w1, hinf]
      exact ⟨h1, by omega, by omega⟩
    · simp (config := { maxSteps := 3000000 }) [hn0, h0, w0, w1, hinf]
  · cases h
noncomputable def GCat : List AV → Option (Prop × AV)
  | [.pv (.ro [[.ro a], [.ro b]])] => (dec rowP a).bind fun la => (dec rowP b).map fun lb => (la.length ≤ 100000 ∧ lb.length ≤ 100000, .fr 117 (rowsP (la ++ lb)))
  | _ => none
@[simp] theorem GCat_eq (a b : List (List PV)) : GCat [.pv (.ro [[.ro a], [.ro b]])] = (dec rowP a).bind fun la => (dec rowP b).map fun lb => (la.length ≤ 100000 ∧ lb.length ≤ 100000, .fr 117 (rowsP (la ++ lb))) := rfl
theorem c_Cat : ConT Try.prog 132 GCat := by
  intro ys φ r h hφ
  unfold GCat at h
  split at h
  · rename_i ra rb
    obtain ⟨a, ha, h⟩ := Option.bind_eq_some_iff.1 h
    obtain ⟨b, hb, h⟩ := Option.map_eq_some_iff.1 h
    cases h
    cases dec_rowsP_inv ha
    cases dec_rowsP_inv hb
    obtain ⟨hla, hlb⟩ := hφ
    have h3a := rowsP_three a
    have h3b := rowsP_three b
    have w1 : IntKind.i64.wrap 1 = 1 := wrap_i64 (by omega)
    have w2 : IntKind.i64.wrap 2 = 2 := wrap_i64 (by omega)
    have wa : IntKind.i64.wrap (a.length : Int) = a.length := wrap_i64 (by omega)
    have wab : IntKind.i64.wrap ((a.length : Int) + (b.length : Int)) = (a.length : Int) + (b.length : Int) := wrap_i64 (by omega)
    have r0 : rowAt [[PV.ro (rowsP a)], [PV.ro (rowsP b)]] 0 = [.ro (rowsP a)] := rfl
    have r1 : rowAt [[PV.ro (rowsP a)], [PV.ro (rowsP b)]] 1 = [.ro (rowsP b)] := rfl
    have ga : ¬ ((a.length : Int) < 0) := by omega
    have gab : ¬ ((a.length : Int) + (b.length : Int) < 0) := by omega
    have gc : (a.length : Int) + (b.length : Int) ≤ 1000000 := by omega
    have gd : (0 : Int) ≤ (a.length : Int) + (b.length : Int) := by omega
    refine con_of (tab_consU (p := 0) (k := 997) c_Grow (by kernel_rfl) tab_nil) (by kernel_rfl) fn132 (by simp) ?_
    unfold body132
    simp (config := { maxSteps := 3000000 })
    refine vwp_loop (fun i : Nat => i = 0 ∨ i = 1 ∨ i = 2) (fun i => ⟨[(0, .pv (.ro [[.ro (rowsP a)], [.ro (rowsP b)]])), (2, .own 2), (3, .pv (.int .i64 (if i = 0 then 0 else if i = 1 then (a.length : Int) else (a.length : Int) + (b.length : Int)))), (9, .pv (.ro [[.ro (rowsP a)], [.ro (rowsP b)]])), (10, .pv (.int .i64 2)), (11, .pv (.int .i64 i))], [(2, .arr 117 [])]⟩) (fun i => 2 - i) [] 0 (by simp) ?_ ?_
    · simp
    · rintro i (rfl | rfl | rfl)
      · simp (config := { maxSteps := 3000000 }) [r0, wa, ga, w1]
      · simp (config := { maxSteps := 3000000 }) [r1, wab, gab, w2]
      · simp (config := { maxSteps := 3000000 }) [gc, gd]
        refine vwp_loop (fun i : Nat => i = 0 ∨ i = 1 ∨ i = 2) (fun i => ⟨[(0, .pv (.ro [[.ro (rowsP a)], [.ro (rowsP b)]])), (2, .own 2), (6, .own 24), (25, .pv (.ro [[.ro (rowsP a)], [.ro (rowsP b)]])), (26, .pv (.int .i64 2)), (27, .pv (.int .i64 i))], [(2, .arr 117 []), (24, .arr 117 (if i = 0 then [] else if i = 1 then rowsP a else rowsP (a ++ b)))]⟩) (fun i => 2 - i) [] 0 (by simp) ?_ ?_
        · simp
        · rintro i (rfl | rfl | rfl)
          · simp (config := { maxSteps := 3000000 }) [r0, w1, maxLen_eq]
            exact ⟨by omega, by omega, h3a⟩
          · simp (config := { maxSteps := 3000000 }) [r1, w2, maxLen_eq]
            exact ⟨⟨by omega, by omega, h3b⟩, (rowsP_append a b).symm⟩
          · simp (config := { maxSteps := 3000000 })
  · cases h

noncomputable def GpRem : List AV → Option (Prop × AV)
  | [.agg [.pv (.ro a)], .pv (.int .u64 n)] => (dec rowP a).map fun l => (l.length ≤ 100000, .tup [.agg [.fr 117 (rowsP (remP l n).1)], .pv (.int .i64 (remP l n).2)])
  | _ => none
@[simp] theorem GpRem_eq (a : List (List PV)) (n : Int) : GpRem [.agg [.pv (.ro a)], .pv (.int .u64 n)] = (dec rowP a).map fun l => (l.length ≤ 100000, .tup [.agg [.fr 117 (rowsP (remP l n).1)], .pv (.int .i64 (remP l n).2)]) := rfl
theorem cut_rowsP (l : List Pn) (i j : Int) : cut (rowsP l) i j = rowsP ((l.take j.toNat).drop i.toNat) := by
  unfold cut rowsP
  rw [List.map_drop, List.map_take]
theorem c_pRem : ConT Try.prog 77 GpRem := by
  intro ys φ r h hφ
  unfold GpRem at h
  split at h
  · rename_i ra n
    obtain ⟨a, ha, h⟩ := Option.map_eq_some_iff.1 h
    cases h
    cases dec_rowsP_inv ha
    have hl9 : a.length ≤ 1000000000 := by omega
    have hinf : (Try.prog.info? 117).isSome = true := by kernel_rfl
    have h3 := rowsP_three a
    have his : isP 131 n = fun e => decide (e.i = n) := by
      funext e
      unfold isP
      rw [if_neg (by decide)]
    refine con_of (tab_cons c_Ix (tab_cons c_Cat tab_nil)) (by kernel_rfl) fn77 (by simp) ?_
    unfold body77
    unfold remP
    by_cases hh : hasI a n = true
    · obtain ⟨k, hk, hkl, hke⟩ := remL_idx n a hh
      have hn0 : ¬ ((k : Int) < 0) := by omega
      have w1 : IntKind.i64.wrap ((k : Int) + 1) = (k : Int) + 1 := wrap_i64 (by omega)
      have c1 : cut (rowsP a) 0 (k : Int) = rowsP (a.take k) := by rw [cut_rowsP]; simp
      have c2 : cut (rowsP a) ((k : Int) + 1) (a.length : Int) = rowsP (a.drop (k + 1)) := by
        rw [cut_rowsP, show ((k : Int) + 1).toNat = k + 1 from by omega]; simp
      have hl1 : (a.take k).length ≤ 100000 := by rw [List.length_take]; omega
      have hl2 : (a.drop (k + 1)).length ≤ 100000 := by rw [List.length_drop]; omega
      have hf : ∀ l, flatRows (rowsP l) := flat_rowsP
      simp (config := { maxSteps := 3000000 }) [hh, hl9, his, hk, hn0, w1, c1, c2, hl1, hl2, hke, hf, hinf]
      exact ⟨⟨by omega, h3⟩, ⟨by omega, by omega, h3⟩, by omega, by omega⟩
    · have hh' : hasI a n = false := by simpa using hh
      have hk : idxP (fun e => decide (e.i = n)) a = -1 := by
        apply idxP_none
        intro e he
        unfold hasI at hh'
        rw [List.any_eq_false] at hh'
        simpa using hh' e he
      simp (config := { maxSteps := 3000000 }) [hh, hl9, his, hk, hinf]
  · cases h

noncomputable def GrRem : List AV → Option (Prop × AV)
  | [.pv (.ro a), .pv (.int .u64 n)] => (dec rowP a).map fun l => (l.length ≤ 100000, .tup [.fr 120 (rowsP (remP l n).1), .pv (.int .i64 (remP l n).2)])
  | _ => none
@[simp] theorem GrRem_eq (a : List (List PV)) (n : Int) : GrRem [.pv (.ro a), .pv (.int .u64 n)] = (dec rowP a).map fun l => (l.length ≤ 100000, .tup [.fr 120 (rowsP (remP l n).1), .pv (.int .i64 (remP l n).2)]) := rfl
theorem c_rRem : ConT Try.prog 75 GrRem := by
  intro ys φ r h hφ
  unfold GrRem at h
  split at h
  · rename_i ra n
    obtain ⟨a, ha, h⟩ := Option.map_eq_some_iff.1 h
    cases h
    cases dec_rowsP_inv ha
    refine con_of tab_nil (by kernel_rfl) fn75 (by simp) ?_
    unfold body75
    simp (config := { maxSteps := 3000000 })
    refine vwp_loop (fun i : Nat => i ≤ a.length) (fun i => ⟨[(0, .pv (.ro (rowsP a))), (1, .pv (.int .u64 n)), (4, .own 4), (6, .own 6), (7, .pv (.bool (hasI (a.take i) n))), (8, .pv (.int .i64 i))], [(4, .arr 120 []), (6, .arr 120 (rowsP (remL n (a.take i))))]⟩) (fun i => a.length - i) [] 0 (by simp) ?_ ?_
    · simp [remL, hasI]
    · intro i hi
      have w2 : IntKind.i64.wrap ((i : Int) + 1) = (i : Int) + 1 := wrap_i64 (by omega)
      by_cases hlt : i < a.length
      · have r1 := rowsP_at hlt
        have hs := remL_snoc n a[i] (a.take i)
        have ht := hasI_snoc (a.take i) a[i] n
        rw [← List.take_succ_eq_append_getElem hlt] at hs ht
        have hll := remL_len n (a.take i)
        rw [List.length_take] at hll
        have hap : ∀ m : List Pn, rowsP m ++ [[PV.int .u64 a[i].i, .int .u64 a[i].v, .int .u64 a[i].u]] = rowsP (m ++ [a[i]]) := fun m => by rw [rowsP_append]; rfl
        cases hg : hasI (a.take i) n with
        | true =>
          rw [hg] at hs ht
          rw [if_pos rfl] at hs
          by_cases he : a[i].i = n
          · simp (config := { maxSteps := 3000000 }) [w2, hlt, r1, he, maxLen_eq]
            exact ⟨⟨by omega, by omega⟩, i + 1, by omega, ⟨⟨by simp [ht], by omega⟩, by rw [hs, rowsP_append]; simp [rowsP, rowP, he]⟩, by omega⟩
          · simp (config := { maxSteps := 3000000 }) [w2, hlt, r1, he, maxLen_eq]
            exact ⟨⟨by omega, by omega⟩, i + 1, by omega, ⟨⟨by simp [ht], by omega⟩, by rw [hs, rowsP_append]; rfl⟩, by omega⟩
        | false =>
          rw [hg] at hs ht
          rw [if_neg (by simp)] at hs
          have hrn := remL_none hg
          by_cases he : a[i].i = n
          · rw [if_pos he] at hs
            simp (config := { maxSteps := 3000000 }) [w2, hlt, r1, he]
            exact ⟨i + 1, by omega, ⟨⟨by simp [ht, he], by omega⟩, by rw [hs, hrn]⟩, by omega⟩
          · rw [if_neg he] at hs
            simp (config := { maxSteps := 3000000 }) [w2, hlt, r1, he, maxLen_eq]
            exact ⟨⟨by omega, by omega⟩, i + 1, by omega, ⟨⟨by simp [ht, he], by omega⟩, by rw [hs, hrn, List.take_succ_eq_append_getElem hlt, rowsP_append]; rfl⟩, by omega⟩
      · have hia : i = a.length := by omega
        subst hia
        have hinf : (Try.prog.info? 120).isSome = true := by kernel_rfl
        unfold remP
        by_cases hh : hasI a n = true
        · simp (config := { maxSteps := 3000000 }) [hh]
        · have hh' : hasI a n = false := by simpa using hh
          simp (config := { maxSteps := 3000000 }) [hh', hinf]
  · cases h

/-! ### Of -/

def ofP (l : List Pn) (n : Int) : Bool := l.any fun e => decide (e.v = n)
noncomputable def GpOfC : List AV → Option (Prop × AV)
  | [.pv (.ro a), .clo f [.rp [.int .u64 n]]] => if f = 140 then (dec rowP a).map fun l => (l.length ≤ 1000000000, .pv (.bool (ofP l n))) else none
  | _ => none
@[simp] theorem GpOfC_eq (a : List (List PV)) (f : FuncId) (n : Int) : GpOfC [.pv (.ro a), .clo f [.rp [.int .u64 n]]] = if f = 140 then (dec rowP a).map fun l => (l.length ≤ 1000000000, .pv (.bool (ofP l n))) else none := rfl
theorem c_OfC : ConT Try.prog 139 GpOfC := by
  intro ys φ r h hφ
  unfold GpOfC at h
  split at h
  · rename_i ra f n
    split at h
    · rename_i hf
      subst hf
      obtain ⟨a, ha, h⟩ := Option.map_eq_some_iff.1 h
      cases h
      cases dec_rowsP_inv ha
      have hq : decide (0 ≤ idxP (isP 140 n) a) = ofP a n := by
        have := idxP_neg (isP 140 n) a
        have he : a.any (isP 140 n) = ofP a n := rfl
        rw [he] at this
        cases ho : ofP a n <;> rw [ho] at this <;> simp [this]
      refine con_of (tab_cons c_Ix tab_nil) (by kernel_rfl) fn139 (by simp) ?_
      unfold body139
      simp (config := { maxSteps := 3000000 }) [hφ, hq]
    · cases h
  · cases h
noncomputable def GpOf : List AV → Option (Prop × AV)
  | [.agg [.pv (.ro a)], .pv (.int .u64 n)] => (dec rowP a).map fun l => (l.length ≤ 1000000000, .pv (.bool (ofP l n)))
  | _ => none
@[simp] theorem GpOf_eq (a : List (List PV)) (n : Int) : GpOf [.agg [.pv (.ro a)], .pv (.int .u64 n)] = (dec rowP a).map fun l => (l.length ≤ 1000000000, .pv (.bool (ofP l n))) := rfl
theorem c_pOf : ConT Try.prog 87 GpOf := by
  intro ys φ r h hφ
  unfold GpOf at h
  split at h
  · rename_i ra n
    obtain ⟨a, ha, h⟩ := Option.map_eq_some_iff.1 h
    cases h
    cases dec_rowsP_inv ha
    refine con_of (tab_cons c_OfC tab_nil) (by kernel_rfl) fn87 (by simp) ?_
    unfold body87
    simp (config := { maxSteps := 3000000 }) [hφ]
  · cases h
noncomputable def GrOf : List AV → Option (Prop × AV)
  | [.pv (.ro a), .pv (.int .u64 n)] => (dec rowP a).map fun l => (l.length ≤ 1000000000, .pv (.bool (ofP l n)))
  | _ => none
@[simp] theorem GrOf_eq (a : List (List PV)) (n : Int) : GrOf [.pv (.ro a), .pv (.int .u64 n)] = (dec rowP a).map fun l => (l.length ≤ 1000000000, .pv (.bool (ofP l n))) := rfl
theorem c_rOf : ConT Try.prog 88 GrOf := by
  intro ys φ r h hφ
  unfold GrOf at h
  split at h
  · rename_i ra n
    obtain ⟨a, ha, h⟩ := Option.map_eq_some_iff.1 h
    cases h
    cases dec_rowsP_inv ha
    refine con_of tab_nil (by kernel_rfl) fn88 (by simp) ?_
    unfold body88
    simp (config := { maxSteps := 3000000 })
    refine vwp_loop (fun i : Nat => i ≤ a.length ∧ ofP (a.take i) n = false) (fun i => ⟨[(0, .pv (.ro (rowsP a))), (1, .pv (.int .u64 n)), (4, .pv (.bool false)), (5, .pv (.int .i64 i))], []⟩) (fun i => a.length - i) [] 0 (by simp [ofP]) ?_ ?_
    · simp
    · rintro i ⟨hi, ht⟩
      have w2 : IntKind.i64.wrap ((i : Int) + 1) = (i : Int) + 1 := wrap_i64 (by omega)
      by_cases hlt : i < a.length
      · have r1 := rowsP_at hlt
        by_cases he : a[i].v = n
        · have hv : ofP a n = true := by
            unfold ofP
            rw [List.any_eq_true]
            exact ⟨a[i], List.getElem_mem hlt, by simpa using he⟩
          simp (config := { maxSteps := 3000000 }) [w2, hlt, r1, he, hv]
        · simp (config := { maxSteps := 3000000 }) [w2, hlt, r1, he]
          refine ⟨i + 1, ⟨by omega, ?_⟩, by omega, by omega⟩
          rw [List.take_succ_eq_append_getElem hlt]
          unfold ofP at ht ⊢
          rw [List.any_append, ht]
          simp [he]
      · rw [List.take_of_length_le (by omega)] at ht
        simp (config := { maxSteps := 3000000 }) [hlt, ht]
  · cases h

end Go.Proofs.Ytfpmjcdcpicmaaa.Ab
