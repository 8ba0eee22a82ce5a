/- Chapter 14: rows of pins; whether ids rise; whether two are the same; the reference's rows. -/
import Derived.Test.YtfpmjcdcpicmaaaV1
import Derived.Test.YtfpmjcdcpicmaaaCodeP
namespace Go.Proofs.Ytfpmjcdcpicmaaa.Ab
open Go Go.RowKit R
set_option linter.unusedVariables false
set_option linter.unusedSimpArgs false
set_option maxHeartbeats 4000000
set_option maxRecDepth 100000

structure Pn where
  i : Int
  v : Int
  u : Int
  deriving DecidableEq

def rowP (e : Pn) : List PV := [.int .u64 e.i, .int .u64 e.v, .int .u64 e.u]
theorem rowP_inj : ∀ a b, rowP a = rowP b → a = b := by
  rintro ⟨k, n, t⟩ ⟨k', n', t'⟩ h
  simp only [rowP, List.cons.injEq, PV.int.injEq, true_and, and_true] at h
  obtain ⟨h1, h2, h3⟩ := h
  rw [h1, h2, h3]
def rowsP (l : List Pn) : List (List PV) := l.map rowP
@[simp] theorem rowsP_nil : rowsP [] = [] := rfl
@[simp] theorem rowsP_length (l : List Pn) : (rowsP l).length = l.length := by simp [rowsP]
theorem rowsP_append (l m : List Pn) : rowsP (l ++ m) = rowsP l ++ rowsP m := by simp [rowsP]
theorem rowsP_three (l : List Pn) : ∀ r ∈ rowsP l, r.length = 3 := by
  intro r hr
  simp only [rowsP, List.mem_map] at hr
  obtain ⟨c, _, rfl⟩ := hr
  rfl
theorem rowsP_at {l : List Pn} {i : Nat} (h : i < l.length) : rowAt (rowsP l) (i : Int) = [.int .u64 l[i].i, .int .u64 l[i].v, .int .u64 l[i].u] := by
  simp [rowAt, rowsP, h, rowP]
@[simp] theorem dec_rowsP (l : List Pn) : dec rowP (rowsP l) = some l := dec_map rowP_inj l
theorem dec_rowsP_inv {rows : List (List PV)} {l : List Pn} (h : dec rowP rows = some l) : rows = rowsP l := dec_inv h
theorem flat_rowsP (l : List Pn) : flatRows (rowsP l) := by
  intro r hr p hp
  simp only [rowsP, List.mem_map] at hr
  obtain ⟨c, _, rfl⟩ := hr
  simp only [rowP, List.mem_cons, List.not_mem_nil, or_false] at hp
  rcases hp with rfl | rfl | rfl <;> rfl

/-- Do ids rise? -/
def riseP (l : List Pn) : Bool := (List.range (l.length - 1)).all fun k => match l[k]?, l[k + 1]? with
  | some a, some b => decide (a.i < b.i)
  | _, _ => true
theorem riseP_iff (l : List Pn) : riseP l = true ↔ ∀ (k : Nat) (h : k + 1 < l.length), l[k].i < l[k + 1].i := by
  unfold riseP
  rw [List.all_eq_true]
  constructor
  · intro h k hk
    have := h k (by rw [List.mem_range]; omega)
    rw [List.getElem?_eq_getElem (by omega), List.getElem?_eq_getElem hk] at this
    simpa using this
  · intro h k hk
    rw [List.mem_range] at hk
    rw [List.getElem?_eq_getElem (by omega), List.getElem?_eq_getElem (show k + 1 < l.length by omega)]
    simpa using h k (by omega)
theorem riseP_not {l : List Pn} {k : Nat} (h : k + 1 < l.length) (hk : l[k + 1].i ≤ l[k].i) : riseP l = false := by
  cases hr : riseP l with
  | false => rfl
  | true => have := (riseP_iff l).1 hr k h; omega

noncomputable def GpR : List AV → Option (Prop × AV)
  | [.agg [.pv (.ro a)]] => (dec rowP a).map fun l => (l.length ≤ 1000000000, .pv (.bool (riseP l)))
  | _ => none
@[simp] theorem GpR_eq (a : List (List PV)) : GpR [.agg [.pv (.ro a)]] = (dec rowP a).map fun l => (l.length ≤ 1000000000, .pv (.bool (riseP l))) := rfl
noncomputable def GrR : List AV → Option (Prop × AV)
  | [.pv (.ro a)] => (dec rowP a).map fun l => (l.length ≤ 1000000000, .pv (.bool (riseP l)))
  | _ => none
@[simp] theorem GrR_eq (a : List (List PV)) : GrR [.pv (.ro a)] = (dec rowP a).map fun l => (l.length ≤ 1000000000, .pv (.bool (riseP l))) := rfl

theorem c_pRight : ConT Try.prog 85 GpR := by
  intro ys φ r h hφ
  unfold GpR at h
  split at h
  · rename_i ra
    obtain ⟨a, ha, h⟩ := Option.map_eq_some_iff.1 h
    cases h
    cases dec_rowsP_inv ha
    refine con_of tab_nil (by kernel_rfl) fn85 (by simp) ?_
    unfold body85
    simp (config := { maxSteps := 3000000 })
    refine vwp_loop (fun i : Nat => i ≤ a.length ∧ ∀ (k : Nat) (h : k + 1 < a.length), k + 1 < i → a[k].i < a[k + 1].i) (fun i => ⟨[(1, .ptr 1 0), (6, .pv (.int .i64 a.length)), (7, .pv (.int .i64 i))], [(1, .box [.pv (.ro (rowsP a))])]⟩) (fun i => a.length - i) [] 0 ?_ ?_ ?_
    · exact ⟨Nat.zero_le _, fun k h h2 => absurd h2 (by omega)⟩
    · simp
    · rintro i ⟨hi, ht⟩
      have w2 : IntKind.i64.wrap ((i : Int) + 1) = (i : Int) + 1 := wrap_i64 (by omega)
      have w3 : IntKind.i64.wrap ((i : Int) - 1) = (i : Int) - 1 := wrap_i64 (by omega)
      by_cases hlt : i < a.length
      · have r1 := rowsP_at hlt
        by_cases h0 : i = 0
        · subst h0
          have wm : IntKind.i64.wrap (-1) = -1 := wrap_i64 (by omega)
          have rm : rowAt (rowsP a) (-1) = [.int .u64 a[0].i, .int .u64 a[0].v, .int .u64 a[0].u] := r1
          have rz : rowAt (rowsP a) 0 = [.int .u64 a[0].i, .int .u64 a[0].v, .int .u64 a[0].u] := r1
          simp (config := { maxSteps := 3000000 }) [hlt, rm, rz, wm]
          exact ⟨1, ⟨by omega, fun k h h2 => absurd h2 (by omega)⟩, by rw [wrap_i64 (by omega)]; rfl, by omega⟩
        · obtain ⟨k, hik⟩ : ∃ k, i = k + 1 := ⟨i - 1, by omega⟩
          have hk : k < a.length := by omega
          have r2 := rowsP_at hk
          have w3 : IntKind.i64.wrap ((i : Int) - 1) = (k : Int) := by rw [wrap_i64 (by omega)]; omega
          have h0i : 0 < i := by omega
          simp (config := { maxSteps := 3000000 }) [w2, w3, hlt, hk, r1, r2, h0i]
          subst hik
          refine ⟨fun h => riseP_not (k := k) hlt h, fun h => ⟨k + 2, ⟨by omega, fun j hj h2 => ?_⟩, by omega, by omega⟩⟩
          by_cases hjk : j = k
          · subst hjk; exact h
          · exact ht j hj (by omega)
      · simp (config := { maxSteps := 3000000 }) [hlt]
        rw [riseP_iff]
        exact fun k h => ht k h (by omega)
  · cases h

theorem c_rRight : ConT Try.prog 86 GrR := by
  intro ys φ r h hφ
  unfold GrR at h
  split at h
  · rename_i ra
    obtain ⟨a, ha, h⟩ := Option.map_eq_some_iff.1 h
    cases h
    cases dec_rowsP_inv ha
    refine con_of tab_nil (by kernel_rfl) fn86 (by simp) ?_
    unfold body86
    simp (config := { maxSteps := 3000000 })
    refine vwp_loop (fun i : Nat => 1 ≤ i ∧ i ≤ a.length + 1 ∧ ∀ (k : Nat) (h : k + 1 < a.length), k + 1 < i → a[k].i < a[k + 1].i) (fun i => ⟨[(0, .pv (.ro (rowsP a))), (3, .pv (.int .i64 i))], []⟩) (fun i => a.length + 1 - i) [] 1 ?_ ?_ ?_
    · exact ⟨by omega, by omega, fun k h h2 => absurd h2 (by omega)⟩
    · simp
    · rintro i ⟨hi1, hi, ht⟩
      obtain ⟨k, hik⟩ : ∃ k, i = k + 1 := ⟨i - 1, by omega⟩
      have w2 : IntKind.i64.wrap ((i : Int) + 1) = (i : Int) + 1 := wrap_i64 (by omega)
      have w3 : IntKind.i64.wrap ((i : Int) - 1) = (k : Int) := by rw [wrap_i64 (by omega)]; omega
      by_cases hlt : i < a.length
      · have r1 := rowsP_at hlt
        have hk : k < a.length := by omega
        have r2 := rowsP_at hk
        simp (config := { maxSteps := 3000000 }) [w2, w3, hlt, hk, r1, r2]
        subst hik
        refine ⟨fun h => riseP_not (k := k) hlt h, fun h => ⟨k + 2, ⟨by omega, by omega, fun j hj h2 => ?_⟩, by omega, by omega⟩⟩
        by_cases hjk : j = k
        · subst hjk; exact h
        · exact ht j hj (by omega)
      · simp (config := { maxSteps := 3000000 }) [hlt]
        rw [riseP_iff]
        exact fun k h => ht k h (by omega)
  · cases h

/-! ### The same? -/

noncomputable def GS1 : List AV → Option (Prop × AV)
  | [.agg [.pv (.int .u64 a), .pv (.int .u64 b), .pv (.int .u64 c)], .agg [.pv (.int .u64 d), .pv (.int .u64 e), .pv (.int .u64 f)]] => some (True, .pv (.bool (decide (a = d) && (decide (b = e) && decide (c = f)))))
  | _ => none
@[simp] theorem GS1_eq (a b c d e f : Int) : GS1 [.agg [.pv (.int .u64 a), .pv (.int .u64 b), .pv (.int .u64 c)], .agg [.pv (.int .u64 d), .pv (.int .u64 e), .pv (.int .u64 f)]] = some (True, .pv (.bool (decide (a = d) && (decide (b = e) && decide (c = f))))) := rfl
theorem c_S1 : ConT Try.prog 142 GS1 := by
  intro ys φ r h hφ
  unfold GS1 at h
  split at h
  · cases h
    refine con_of tab_nil (by kernel_rfl) fn142 (by simp) ?_
    unfold body142
    simp (config := { maxSteps := 3000000 })
  · cases h

noncomputable def GrS : List AV → Option (Prop × AV)
  | [.pv (.ro a), .pv (.ro b)] => (dec rowP a).bind fun la => (dec rowP b).map fun lb => (la.length ≤ 1000000000, .pv (.bool (decide (la = lb))))
  | _ => none
@[simp] theorem GrS_eq (a b : List (List PV)) : GrS [.pv (.ro a), .pv (.ro b)] = (dec rowP a).bind fun la => (dec rowP b).map fun lb => (la.length ≤ 1000000000, .pv (.bool (decide (la = lb)))) := rfl
theorem c_rSame : ConT Try.prog 80 GrS := by
  intro ys φ r h hφ
  unfold GrS at h
  split at h
  · rename_i ra rb
    obtain ⟨a, ha, h⟩ := Option.bind_eq_some_iff.1 h
    obtain ⟨b, hb, h⟩ := Option.map_eq_some_iff.1 h
    cases h
    cases dec_rowsP_inv ha
    cases dec_rowsP_inv hb
    refine con_of tab_nil (by kernel_rfl) fn80 (by simp) ?_
    unfold body80
    simp (config := { maxSteps := 3000000 })
    refine ⟨fun hne => ?_, fun hlen => ?_⟩
    · intro e; exact hne (by rw [e])
    refine vwp_loop (fun i : Nat => i ≤ a.length ∧ a.take i = b.take i) (fun i => ⟨[(0, .pv (.ro (rowsP a))), (1, .pv (.ro (rowsP b))), (5, .pv (.int .i64 i))], []⟩) (fun i => a.length - i) [] 0 (by simp) ?_ ?_
    · simp
    · rintro i ⟨hi, ht⟩
      have w2 : IntKind.i64.wrap ((i : Int) + 1) = (i : Int) + 1 := wrap_i64 (by omega)
      by_cases hlt : i < a.length
      · have r1 := rowsP_at hlt
        have hlb : i < b.length := by omega
        have r2 := rowsP_at hlb
        simp (config := { maxSteps := 3000000 }) [w2, hlt, hlb, r1, r2]
        refine ⟨fun hne e => by subst e; simp at hne, fun h1 h2 h3 => ⟨i + 1, ⟨by omega, ?_⟩, by omega, by omega⟩⟩
        rw [List.take_succ_eq_append_getElem hlt, List.take_succ_eq_append_getElem hlb, ht]
        congr 2
        exact rowP_inj _ _ (by simp only [rowP, h1, h2, h3])
      · simp (config := { maxSteps := 3000000 }) [hlt]
        rw [List.take_of_length_le (by omega), List.take_of_length_le (by omega)] at ht
        exact ht
  · cases h

end Go.Proofs.Ytfpmjcdcpicmaaa.Ab
