/- Edits looked at: whether all may be. -/
import Derived.Test.YtcgllachkjnlgaaD8
namespace Go.Proofs.Ytcgllachkjnlgaa.Ab
open Go Go.RowKit R
set_option linter.unusedVariables false
set_option maxHeartbeats 4000000
set_option maxRecDepth 100000

def rightE (e : Ed) : Bool := rightI e.k.toNat e.n e.t
theorem rightE_eq (e : Ed) : rightI e.k.toNat e.n e.t = rightE e := rfl
def rightL (l : List Ed) : Bool := l.all rightE
def wrongIdx (l : List Ed) : Int := if l.findIdx (fun e => !rightE e) < l.length then (l.findIdx (fun e => !rightE e) : Nat) else -1
theorem wrongIdx_at {l : List Ed} {i : Nat} (hi : i < l.length) (h : rightE l[i] = false) (ha : ∀ e ∈ l.take i, rightE e = true) : wrongIdx l = (i : Int) := by
  have : l.findIdx (fun e => !rightE e) = i := by
    rw [List.findIdx_eq hi]
    refine ⟨by simp [h], fun j hj => ?_⟩
    have := ha l[j] (by rw [List.mem_take_iff_getElem]; exact ⟨j, by omega, rfl⟩)
    simp [this]
  unfold wrongIdx
  rw [this, if_pos hi]
theorem wrongIdx_none {l : List Ed} (ha : rightL l = true) : wrongIdx l = -1 := by
  have : l.findIdx (fun e => !rightE e) = l.length := by
    rw [List.findIdx_eq_length]
    intro e he
    unfold rightL at ha
    rw [List.all_eq_true] at ha
    simp [ha e he]
  unfold wrongIdx
  rw [this, if_neg (by omega)]
theorem wrongIdx_neg (l : List Ed) : (0 ≤ wrongIdx l) = (rightL l = false) := by
  apply propext
  by_cases h : rightL l = true
  · rw [wrongIdx_none h]; simp [h]
  · have h' : rightL l = false := by simpa using h
    unfold rightL at h'
    rw [List.all_eq_false] at h'
    obtain ⟨e, he, hr⟩ := h'
    have : l.findIdx (fun e => !rightE e) < l.length := by
      rw [List.findIdx_lt_length]
      exact ⟨e, he, by simpa using hr⟩
    unfold wrongIdx
    rw [if_pos this]
    simp [h]

noncomputable def Gindex : List AV → Option (Prop × AV)
  | [.pv (.ro a), .clo f []] => if f = 43 ∨ f = 49 then (dec rowE a).map fun l => (l.length ≤ 1000000000, .pv (.int .i64 (wrongIdx l))) else none
  | _ => none
@[simp] theorem Gindex_eq (a : List (List PV)) (f : FuncId) : Gindex [.pv (.ro a), .clo f []] = if f = 43 ∨ f = 49 then (dec rowE a).map fun l => (l.length ≤ 1000000000, .pv (.int .i64 (wrongIdx l))) else none := rfl

theorem isfn1 : isFn Try.prog 43 = true := by kernel_rfl
theorem isfn3 : isFn Try.prog 49 = true := by kernel_rfl

theorem c_index : ConT Try.prog 55 Gindex := by
  intro ys φ r h hφ
  unfold Gindex at h
  split at h
  · rename_i ra f
    have hall : ∀ f, (f = 43 ∨ f = 49) → ∀ a : List Ed, a.length ≤ 1000000000 → Con Try.prog 55 [] [.pv (.ro (rowsE a)), .clo f []] [] (.pv (.int .i64 (wrongIdx a))) := by
      intro f hf a hφ
      have hfn : isFn Try.prog f = true := by rcases hf with rfl | rfl; exact isfn1; exact isfn3
      refine con_of (tab_cons c_wrong1 (tab_cons c_wrong3 tab_nil)) (by kernel_rfl) fn55 (by simp) ?_
      unfold body55
      simp (config := { maxSteps := 3000000 })
      refine vwp_loop (fun i : Nat => i ≤ a.length ∧ ∀ e ∈ a.take i, rightE e = true) (fun i => ⟨[(0, .pv (.ro (rowsE a))), (1, .clo f []), (7, .pv (.int .i64 a.length)), (8, .pv (.int .i64 i))], []⟩) (fun i => a.length - i) [] 0 (by simp) ?_ ?_
      · simp
      · rintro i ⟨hi, ht⟩
        have w2 : IntKind.i64.wrap ((i : Int) + 1) = (i : Int) + 1 := wrap_i64 (by omega)
        by_cases hlt : i < a.length
        · have r1 := rowsE_at hlt
          have hr : ∀ e ∈ a.take (i + 1), rightE e = true ∨ e = a[i] := by
            intro e he
            rw [List.take_succ_eq_append_getElem hlt, List.mem_append] at he
            rcases he with he | he
            · exact .inl (ht e he)
            · exact .inr (by simpa using he)
          rcases hf with rfl | rfl
          · simp (config := { maxSteps := 3000000 }) [w2, hlt, r1, hfn, rightE_eq]
            refine ⟨fun h => wrongIdx_at hlt h ht ▸ rfl, fun h => ⟨i + 1, ⟨by omega, fun e he => ?_⟩, by omega, by omega⟩⟩
            rcases hr e he with h1 | h1
            · exact h1
            · rw [h1]; exact h
          · simp (config := { maxSteps := 3000000 }) [w2, hlt, r1, hfn, rightE_eq]
            refine ⟨fun h => wrongIdx_at hlt h ht ▸ rfl, fun h => ⟨i + 1, ⟨by omega, fun e he => ?_⟩, by omega, by omega⟩⟩
            rcases hr e he with h1 | h1
            · exact h1
            · rw [h1]; exact h
        · simp (config := { maxSteps := 3000000 }) [hlt]
          rw [List.take_of_length_le (by omega)] at ht
          rw [wrongIdx_none (by unfold rightL; rw [List.all_eq_true]; exact ht)]
    split at h
    · rename_i hf
      obtain ⟨a, ha, h⟩ := Option.map_eq_some_iff.1 h
      cases h
      cases dec_rowsE_inv ha
      exact hall f hf a hφ
    · cases h
  · cases h

noncomputable def Gcontains : List AV → Option (Prop × AV)
  | [.pv (.ro a), .clo f []] => if f = 43 then (dec rowE a).map fun l => (l.length ≤ 1000000000, .pv (.bool (!rightL l))) else none
  | _ => none
@[simp] theorem Gcontains_eq (a : List (List PV)) (f : FuncId) : Gcontains [.pv (.ro a), .clo f []] = if f = 43 then (dec rowE a).map fun l => (l.length ≤ 1000000000, .pv (.bool (!rightL l))) else none := rfl

theorem c_contains : ConT Try.prog 42 Gcontains := by
  intro ys φ r h hφ
  unfold Gcontains at h
  split at h
  · rename_i ra f
    split at h
    · rename_i hf
      subst hf
      obtain ⟨a, ha, h⟩ := Option.map_eq_some_iff.1 h
      cases h
      cases dec_rowsE_inv ha
      refine con_of (tab_cons c_index tab_nil) (by kernel_rfl) fn42 (by simp) ?_
      unfold body42
      simp (config := { maxSteps := 3000000 }) [wrongIdx_neg]
      exact hφ
    · cases h
  · cases h

noncomputable def GRight : List AV → Option (Prop × AV)
  | [.pv (.ro a)] => (dec rowE a).map fun l => (l.length ≤ 1000000000, .pv (.bool (rightL l)))
  | _ => none
@[simp] theorem GRight_eq (a : List (List PV)) : GRight [.pv (.ro a)] = (dec rowE a).map fun l => (l.length ≤ 1000000000, .pv (.bool (rightL l))) := rfl

theorem c_right : ConT Try.prog 21 GRight := by
  intro ys φ r h hφ
  unfold GRight at h
  split at h
  · rename_i ra
    obtain ⟨a, ha, h⟩ := Option.map_eq_some_iff.1 h
    cases h
    cases dec_rowsE_inv ha
    refine con_of (tab_cons c_contains tab_nil) (by kernel_rfl) fn21 (by simp) ?_
    unfold body21
    simp (config := { maxSteps := 3000000 })
    exact hφ
  · cases h

theorem c_rRight : ConT Try.prog 22 GRight := by
  intro ys φ r h hφ
  unfold GRight at h
  split at h
  · rename_i ra
    obtain ⟨a, ha, h⟩ := Option.map_eq_some_iff.1 h
    cases h
    cases dec_rowsE_inv ha
    refine con_of (tab_cons c_rright tab_nil) (by kernel_rfl) fn22 (by simp) ?_
    unfold body22
    simp (config := { maxSteps := 3000000 })
    refine vwp_loop (fun i : Nat => i ≤ a.length ∧ ∀ e ∈ a.take i, rightE e = true) (fun i => ⟨[(0, .pv (.ro (rowsE a))), (3, .pv (.int .i64 i))], []⟩) (fun i => a.length - i) [] 0 (by simp) ?_ ?_
    · simp
    · rintro i ⟨hi, ht⟩
      have w2 : IntKind.i64.wrap ((i : Int) + 1) = (i : Int) + 1 := wrap_i64 (by omega)
      by_cases hlt : i < a.length
      · have r1 := rowsE_at hlt
        simp (config := { maxSteps := 3000000 }) [w2, hlt, r1, rightE_eq]
        refine ⟨fun h => ?_, fun h => ⟨i + 1, ⟨by omega, fun e he => ?_⟩, by omega, by omega⟩⟩
        · have : rightL a = false := by
            unfold rightL; rw [List.all_eq_false]; exact ⟨a[i], List.getElem_mem hlt, by simp [h]⟩
          simp [this]
        · rw [List.take_succ_eq_append_getElem hlt, List.mem_append] at he
          rcases he with he | he
          · exact ht e he
          · simp only [List.mem_singleton] at he; rw [he]; exact h
      · simp (config := { maxSteps := 3000000 }) [hlt]
        rw [List.take_of_length_le (by omega)] at ht
        unfold rightL; rw [List.all_eq_true]; exact ht
  · cases h

end Go.Proofs.Ytcgllachkjnlgaa.Ab
