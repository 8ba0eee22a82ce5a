/- Chapter 14: two rows of pins held against each other; the reference's rows; which pin is of a number; a copy. -/
import Derived.Test.YtfpmjcdcpicmaaaP1
namespace Go.Proofs.Ytfpmjcdcpicmaaa.Ab
open Go Go.RowKit R
set_option linter.unusedVariables false
set_option linter.unusedSimpArgs false
set_option maxHeartbeats 4000000
set_option maxRecDepth 100000

noncomputable def GEq : List AV → Option (Prop × AV)
  | [.pv (.ro a), .pv (.ro b), .clo f []] => if f = 142 then (dec rowP a).bind fun la => (dec rowP b).map fun lb => (la.length ≤ 1000000000, .pv (.bool (decide (la = lb)))) else none
  | _ => none
@[simp] theorem GEq_eq (a b : List (List PV)) (f : FuncId) : GEq [.pv (.ro a), .pv (.ro b), .clo f []] = if f = 142 then (dec rowP a).bind fun la => (dec rowP b).map fun lb => (la.length ≤ 1000000000, .pv (.bool (decide (la = lb)))) else none := rfl
theorem isfnS1 : isFn Try.prog 142 = true := by kernel_rfl
theorem c_Eq : ConT Try.prog 141 GEq := by
  intro ys φ r h hφ
  unfold GEq at h
  split at h
  · rename_i ra rb f
    split at h
    · rename_i hf
      subst hf
      obtain ⟨a, ha, h⟩ := Option.bind_eq_some_iff.1 h
      obtain ⟨b, hb, h⟩ := Option.map_eq_some_iff.1 h
      cases h
      cases dec_rowsP_inv ha
      cases dec_rowsP_inv hb
      refine con_of (tab_cons c_S1 tab_nil) (by kernel_rfl) fn141 (by simp) ?_
      unfold body141
      simp (config := { maxSteps := 3000000 })
      refine ⟨fun hne => ?_, fun hlen => ?_⟩
      · intro e; exact hne (by rw [e])
      refine vwp_loop (fun i : Nat => i ≤ a.length ∧ a.take i = b.take i) (fun i => ⟨[(0, .pv (.ro (rowsP a))), (1, .pv (.ro (rowsP b))), (2, .clo 142 []), (15, .pv (.ro (rowsP a))), (16, .pv (.int .i64 a.length)), (17, .pv (.int .i64 i))], []⟩) (fun i => a.length - i) [] 0 (by simp) ?_ ?_
      · simp
      · rintro i ⟨hi, ht⟩
        have w2 : IntKind.i64.wrap ((i : Int) + 1) = (i : Int) + 1 := wrap_i64 (by omega)
        by_cases hlt : i < a.length
        · have r1 := rowsP_at hlt
          have hlb : i < b.length := by omega
          have r2 := rowsP_at hlb
          simp (config := { maxSteps := 3000000 }) [w2, hlt, hlb, r1, r2, isfnS1]
          refine ⟨fun hne e => by subst e; simp at hne, fun h1 h2 h3 => ⟨i + 1, ⟨by omega, ?_⟩, by omega, by omega⟩⟩
          rw [List.take_succ_eq_append_getElem hlt, List.take_succ_eq_append_getElem hlb, ht]
          congr 2
          exact rowP_inj _ _ (by simp only [rowP, h1, h2, h3])
        · simp (config := { maxSteps := 3000000 }) [hlt]
          rw [List.take_of_length_le (by omega), List.take_of_length_le (by omega)] at ht
          exact ht
    · cases h
  · cases h

noncomputable def GpS : List AV → Option (Prop × AV)
  | [.agg [.pv (.ro a)], .agg [.pv (.ro b)]] => (dec rowP a).bind fun la => (dec rowP b).map fun lb => (la.length ≤ 1000000000, .pv (.bool (decide (la = lb))))
  | _ => none
@[simp] theorem GpS_eq (a b : List (List PV)) : GpS [.agg [.pv (.ro a)], .agg [.pv (.ro b)]] = (dec rowP a).bind fun la => (dec rowP b).map fun lb => (la.length ≤ 1000000000, .pv (.bool (decide (la = lb)))) := rfl
theorem c_pSame : ConT Try.prog 89 GpS := by
  intro ys φ r h hφ
  unfold GpS at h
  split at h
  · rename_i ra rb
    obtain ⟨a, ha, h⟩ := Option.bind_eq_some_iff.1 h
    obtain ⟨b, hb, h⟩ := Option.map_eq_some_iff.1 h
    cases h
    cases dec_rowsP_inv ha
    cases dec_rowsP_inv hb
    refine con_of (tab_cons c_Eq tab_nil) (by kernel_rfl) fn89 (by simp) ?_
    unfold body89
    simp (config := { maxSteps := 3000000 })
    exact hφ
  · cases h

/-! ### The reference's rows -/

noncomputable def Gpref : List AV → Option (Prop × AV)
  | [.agg [.pv (.ro a)]] => (dec rowP a).map fun l => (l.length ≤ 100000000, .fr 120 (rowsP l))
  | _ => none
@[simp] theorem Gpref_eq (a : List (List PV)) : Gpref [.agg [.pv (.ro a)]] = (dec rowP a).map fun l => (l.length ≤ 100000000, .fr 120 (rowsP l)) := rfl
theorem c_pref : ConT Try.prog 73 Gpref := by
  intro ys φ r h hφ
  unfold Gpref at h
  split at h
  · rename_i ra
    obtain ⟨a, ha, h⟩ := Option.map_eq_some_iff.1 h
    cases h
    cases dec_rowsP_inv ha
    refine con_of tab_nil (by kernel_rfl) fn73 (by simp) ?_
    unfold body73
    simp (config := { maxSteps := 3000000 })
    refine vwp_loop (fun i : Nat => i ≤ a.length) (fun i => ⟨[(1, .ptr 1 0), (3, .own 3), (4, .pv (.int .i64 i))], [(1, .box [.pv (.ro (rowsP a))]), (3, .arr 120 (rowsP (a.take i)))]⟩) (fun i => a.length - i) [] 0 (by simp) ?_ ?_
    · simp
    · rintro i hi
      have w2 : IntKind.i64.wrap ((i : Int) + 1) = (i : Int) + 1 := wrap_i64 (by omega)
      by_cases hlt : i < a.length
      · have r1 := rowsP_at hlt
        simp (config := { maxSteps := 3000000 }) [w2, hlt, r1, maxLen_eq]
        refine ⟨⟨by omega, by omega⟩, i + 1, by omega, ⟨by omega, ?_⟩, by omega⟩
        rw [List.take_succ_eq_append_getElem hlt, rowsP_append]; rfl
      · simp (config := { maxSteps := 3000000 }) [hlt]
        rw [List.take_of_length_le (by omega)]
  · cases h

/-! ### A copy -/

noncomputable def GpCl : List AV → Option (Prop × AV)
  | [.pv (.ro a)] => (dec rowP a).map fun l => (l.length ≤ 100000000, .fr 117 (rowsP l))
  | _ => none
@[simp] theorem GpCl_eq (a : List (List PV)) : GpCl [.pv (.ro a)] = (dec rowP a).map fun l => (l.length ≤ 100000000, .fr 117 (rowsP l)) := rfl
theorem c_pClone : ConT Try.prog 129 GpCl := by
  intro ys φ r h hφ
  unfold GpCl at h
  split at h
  · rename_i ra
    obtain ⟨a, ha, h⟩ := Option.map_eq_some_iff.1 h
    cases h
    cases dec_rowsP_inv ha
    refine con_of tab_nil (by kernel_rfl) fn129 (by simp) ?_
    unfold body129
    cases a with
    | nil =>
      simp (config := { maxSteps := 3000000 }) [exNil_eq]
    | cons x l =>
      have hx : rowsP (x :: l) = rowP x :: rowsP l := rfl
      simp (config := { maxSteps := 3000000 }) [hx, maxLen_eq]
      simp only [List.length_cons] at hφ
      exact ⟨by omega, by omega, rfl, rowsP_three l⟩
  · cases h

/-! ### Which one is of a number -/

noncomputable def GOf1 : List AV → Option (Prop × AV)
  | [.agg [.pv (.int .u64 a), .pv (.int .u64 b), .pv (.int .u64 c)], .rp [.int .u64 n]] => some (True, .pv (.bool (decide (b = n))))
  | _ => none
@[simp] theorem GOf1_eq (a b c n : Int) : GOf1 [.agg [.pv (.int .u64 a), .pv (.int .u64 b), .pv (.int .u64 c)], .rp [.int .u64 n]] = some (True, .pv (.bool (decide (b = n)))) := rfl
theorem c_Of1 : ConT Try.prog 140 GOf1 := by
  intro ys φ r h hφ
  unfold GOf1 at h
  split at h
  · cases h
    refine con_of tab_nil (by kernel_rfl) fn140 (by simp) ?_
    unfold body140
    simp (config := { maxSteps := 3000000 })
  · cases h
noncomputable def GRm1 : List AV → Option (Prop × AV)
  | [.agg [.pv (.int .u64 a), .pv (.int .u64 b), .pv (.int .u64 c)], .rp [.int .u64 n]] => some (True, .pv (.bool (decide (a = n))))
  | _ => none
@[simp] theorem GRm1_eq (a b c n : Int) : GRm1 [.agg [.pv (.int .u64 a), .pv (.int .u64 b), .pv (.int .u64 c)], .rp [.int .u64 n]] = some (True, .pv (.bool (decide (a = n)))) := rfl
theorem c_Rm1 : ConT Try.prog 131 GRm1 := by
  intro ys φ r h hφ
  unfold GRm1 at h
  split at h
  · cases h
    refine con_of tab_nil (by kernel_rfl) fn131 (by simp) ?_
    unfold body131
    simp (config := { maxSteps := 3000000 })
  · cases h

/-- Is it that one? -/
def isP (f : FuncId) (n : Int) (e : Pn) : Bool := if f = 140 then decide (e.v = n) else decide (e.i = n)
def idxP (p : Pn → Bool) (l : List Pn) : Int := if l.findIdx p < l.length then (l.findIdx p : Nat) else -1
theorem idxP_at {p : Pn → Bool} {l : List Pn} {i : Nat} (hi : i < l.length) (h : p l[i] = true) (ha : ∀ e ∈ l.take i, p e = false) : idxP p l = (i : Int) := by
  have : l.findIdx p = i := by
    rw [List.findIdx_eq hi]
    refine ⟨h, fun j hj => ?_⟩
    exact ha l[j] (by rw [List.mem_take_iff_getElem]; exact ⟨j, by omega, rfl⟩)
  unfold idxP
  rw [this, if_pos hi]
theorem idxP_none {p : Pn → Bool} {l : List Pn} (ha : ∀ e ∈ l, p e = false) : idxP p l = -1 := by
  have : l.findIdx p = l.length := by
    rw [List.findIdx_eq_length]
    exact ha
  unfold idxP
  rw [this, if_neg (by omega)]
theorem idxP_neg (p : Pn → Bool) (l : List Pn) : (0 ≤ idxP p l) = (l.any p = true) := by
  apply propext
  by_cases h : l.any p = true
  · obtain ⟨e, he, hr⟩ := List.any_eq_true.1 h
    have : l.findIdx p < l.length := by
      rw [List.findIdx_lt_length]
      exact ⟨e, he, hr⟩
    unfold idxP
    rw [if_pos this]
    simp [h]
  · have h' : l.any p = false := by simpa using h
    rw [List.any_eq_false] at h'
    rw [idxP_none fun e he => by simpa using h' e he]
    simp [h]

noncomputable def GIx : List AV → Option (Prop × AV)
  | [.pv (.ro a), .clo f [.rp [.int .u64 n]]] => if f = 140 ∨ f = 131 then (dec rowP a).map fun l => (l.length ≤ 1000000000, .pv (.int .i64 (idxP (isP f n) l))) else none
  | _ => none
@[simp] theorem GIx_eq (a : List (List PV)) (f : FuncId) (n : Int) : GIx [.pv (.ro a), .clo f [.rp [.int .u64 n]]] = if f = 140 ∨ f = 131 then (dec rowP a).map fun l => (l.length ≤ 1000000000, .pv (.int .i64 (idxP (isP f n) l))) else none := rfl
theorem isfnOf1 : isFn Try.prog 140 = true := by kernel_rfl
theorem isfnRm1 : isFn Try.prog 131 = true := by kernel_rfl

theorem c_Ix : ConT Try.prog 130 GIx := by
  intro ys φ r h hφ
  unfold GIx at h
  split at h
  · rename_i ra f n
    split at h
    · rename_i hf
      obtain ⟨a, ha, h⟩ := Option.map_eq_some_iff.1 h
      cases h
      cases dec_rowsP_inv ha
      have hfn : isFn Try.prog f = true := by rcases hf with rfl | rfl; exact isfnOf1; exact isfnRm1
      refine con_of (tab_cons c_Of1 (tab_cons c_Rm1 tab_nil)) (by kernel_rfl) fn130 (by simp) ?_
      unfold body130
      simp (config := { maxSteps := 3000000 })
      refine vwp_loop (fun i : Nat => i ≤ a.length ∧ ∀ e ∈ a.take i, isP f n e = false) (fun i => ⟨[(0, .pv (.ro (rowsP a))), (1, .clo f [.rp [.int .u64 n]]), (7, .pv (.int .i64 a.length)), (8, .pv (.int .i64 i))], []⟩) (fun i => a.length - i) [] 0 (by simp) ?_ ?_
      · simp
      · rintro i ⟨hi, ht⟩
        have w2 : IntKind.i64.wrap ((i : Int) + 1) = (i : Int) + 1 := wrap_i64 (by omega)
        by_cases hlt : i < a.length
        · have r1 := rowsP_at hlt
          have hr : isP f n a[i] = false → ∀ e ∈ a.take (i + 1), isP f n e = false := by
            intro h0 e he
            rw [List.take_succ_eq_append_getElem hlt, List.mem_append] at he
            rcases he with he | he
            · exact ht e he
            · rw [List.mem_singleton] at he; rw [he]; exact h0
          rcases hf with rfl | rfl
          · have hp : isP 140 n a[i] = decide (a[i].v = n) := rfl
            simp (config := { maxSteps := 3000000 }) [w2, hlt, r1, hfn]
            refine ⟨fun h => (idxP_at hlt (by rw [hp]; simpa using h) ht).symm, fun h => ⟨i + 1, ⟨by omega, hr (by rw [hp]; simpa using h)⟩, by omega, by omega⟩⟩
          · have hp : isP 131 n a[i] = decide (a[i].i = n) := rfl
            simp (config := { maxSteps := 3000000 }) [w2, hlt, r1, hfn]
            refine ⟨fun h => (idxP_at hlt (by rw [hp]; simpa using h) ht).symm, fun h => ⟨i + 1, ⟨by omega, hr (by rw [hp]; simpa using h)⟩, by omega, by omega⟩⟩
        · simp (config := { maxSteps := 3000000 }) [hlt]
          rw [List.take_of_length_le (by omega)] at ht
          exact (idxP_none ht).symm
    · cases h
  · cases h

end Go.Proofs.Ytfpmjcdcpicmaaa.Ab
