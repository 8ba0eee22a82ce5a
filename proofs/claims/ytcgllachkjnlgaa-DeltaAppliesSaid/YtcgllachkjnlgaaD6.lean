/- Edits as plain data; rows of edits compared; few edits; the reference's edits. -/
import Derived.Test.YtcgllachkjnlgaaD5
namespace Go.Proofs.Ytcgllachkjnlgaa.Ab
open Go Go.RowKit R
set_option linter.unusedVariables false
set_option maxHeartbeats 4000000
set_option maxRecDepth 100000

structure Ed where
  k : UInt8
  n : Int
  t : List UInt8
  deriving DecidableEq

def rowE (e : Ed) : List PV := [.int .u8 (e.k.toNat : Int), .int .i64 e.n, .str e.t]
theorem rowE_inj : ∀ a b, rowE a = rowE b → a = b := by
  rintro ⟨k, n, t⟩ ⟨k', n', t'⟩ h
  simp only [rowE, List.cons.injEq, PV.int.injEq, PV.str.injEq, true_and, and_true] at h
  obtain ⟨h1, h2, h3⟩ := h
  have : k = k' := UInt8.toNat_inj.1 (by omega)
  rw [this, h2, h3]
def rowsE (l : List Ed) : List (List PV) := l.map rowE
@[simp] theorem rowsE_nil : rowsE [] = [] := rfl
@[simp] theorem rowsE_length (l : List Ed) : (rowsE l).length = l.length := by simp [rowsE]
theorem rowsE_append (l m : List Ed) : rowsE (l ++ m) = rowsE l ++ rowsE m := by simp [rowsE]
theorem rowsE_three (l : List Ed) : ∀ r ∈ rowsE l, r.length = 3 := by
  intro r hr
  simp only [rowsE, List.mem_map] at hr
  obtain ⟨c, _, rfl⟩ := hr
  rfl
theorem rowsE_at {l : List Ed} {i : Nat} (h : i < l.length) : rowAt (rowsE l) (i : Int) = [.int .u8 (l[i].k.toNat : Int), .int .i64 l[i].n, .str l[i].t] := by
  simp [rowAt, rowsE, h, rowE]
@[simp] theorem dec_rowsE (l : List Ed) : dec rowE (rowsE l) = some l := dec_map rowE_inj l
theorem dec_rowsE_inv {rows : List (List PV)} {l : List Ed} (h : dec rowE rows = some l) : rows = rowsE l := dec_inv h

noncomputable def Gsame : List AV → Option (Prop × AV)
  | [.pv (.ro a), .pv (.ro b)] => (dec rowE a).bind fun la => (dec rowE b).map fun lb => (la.length ≤ 1000000000, .pv (.bool (decide (la = lb))))
  | _ => none
@[simp] theorem Gsame_eq (a b : List (List PV)) : Gsame [.pv (.ro a), .pv (.ro b)] = (dec rowE a).bind fun la => (dec rowE b).map fun lb => (la.length ≤ 1000000000, .pv (.bool (decide (la = lb)))) := rfl

theorem c_same : ConT Try.prog 19 Gsame := by
  intro ys φ r h hφ
  unfold Gsame at h
  split at h
  · rename_i ra rb
    obtain ⟨a, ha, h⟩ := Option.bind_eq_some_iff.1 h
    obtain ⟨b, hb, h⟩ := Option.map_eq_some_iff.1 h
    cases h
    cases dec_rowsE_inv ha
    cases dec_rowsE_inv hb
    refine con_of tab_nil (by kernel_rfl) fn19 (by simp) ?_
    unfold body19
    simp (config := { maxSteps := 3000000 })
    refine ⟨fun hne => ?_, fun hlen => ?_⟩
    · intro e; exact hne (by rw [e])
    refine vwp_loop (fun i : Nat => i ≤ a.length ∧ a.take i = b.take i) (fun i => ⟨[(0, .pv (.ro (rowsE a))), (1, .pv (.ro (rowsE b))), (5, .pv (.int .i64 i))], []⟩) (fun i => a.length - i) [] 0 (by simp) ?_ ?_
    · simp
    · rintro i ⟨hi, ht⟩
      have w2 : IntKind.i64.wrap ((i : Int) + 1) = (i : Int) + 1 := wrap_i64 (by omega)
      by_cases hlt : i < a.length
      · have r1 := rowsE_at hlt
        have hlb : i < b.length := by omega
        have r2 := rowsE_at hlb
        simp (config := { maxSteps := 3000000 }) [w2, hlt, hlb, r1, r2]
        refine ⟨fun hne e => by subst e; simp at hne, fun h1 h2 h3 => ⟨i + 1, ⟨by omega, ?_⟩, by omega, by omega⟩⟩
        rw [List.take_succ_eq_append_getElem hlt, List.take_succ_eq_append_getElem hlb, ht]
        congr 2
        exact rowE_inj _ _ (by simp only [rowE, h1, h2, h3])
      · simp (config := { maxSteps := 3000000 }) [hlt]
        rw [List.take_of_length_le (by omega), List.take_of_length_le (by omega)] at ht
        exact ht
  · cases h

end Go.Proofs.Ytcgllachkjnlgaa.Ab
