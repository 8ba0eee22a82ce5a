/- Chapter 14: slices.Sort on what is in order, and a row of few. -/
import Derived.Test.YtfpmjcdcpicmaaaP10
import Derived.Test.YtfpmjcdcpicmaaaCodeS
namespace Go.Proofs.Ytfpmjcdcpicmaaa.Ab
open Go Go.RowKit R
set_option linter.unusedVariables false
set_option linter.unusedSimpArgs false
set_option maxHeartbeats 4000000
set_option maxRecDepth 100000

noncomputable def Gnan : List AV → Option (Prop × AV)
  | [.pv (.int .u64 a)] => some (True, .pv (.bool false))
  | _ => none
@[simp] theorem Gnan_eq (a : Int) : Gnan [.pv (.int .u64 a)] = some (True, .pv (.bool false)) := rfl
theorem c_nan : ConT Try.prog 203 Gnan := by
  intro ys φ r h hφ
  unfold Gnan at h
  split at h
  · cases h
    refine con_of tab_nil (by kernel_rfl) fn203 (by simp) ?_
    unfold body203
    simp (config := { maxSteps := 3000000 })
  · cases h
noncomputable def Gless : List AV → Option (Prop × AV)
  | [.pv (.int .u64 a), .pv (.int .u64 b)] => some (True, .pv (.bool (decide (a < b))))
  | _ => none
@[simp] theorem Gless_eq (a b : Int) : Gless [.pv (.int .u64 a), .pv (.int .u64 b)] = some (True, .pv (.bool (decide (a < b)))) := rfl
theorem c_less : ConT Try.prog 189 Gless := by
  intro ys φ r h hφ
  unfold Gless at h
  split at h
  · cases h
    refine con_of (tab_cons c_nan tab_nil) (by kernel_rfl) fn189 (by simp) ?_
    unfold body189
    simp (config := { maxSteps := 3000000 })
  · cases h

def sortedN (l : List Int) : Prop := ∀ (k : Nat) (h : k + 1 < l.length), l[k] ≤ l[k + 1]
noncomputable def Gins : List AV → Option (Prop × AV)
  | [.tup [.fr e a], .pv (.int .i64 p), .pv (.int .i64 q)] => if e = 24 ∧ p = 0 then (dec rowN a).map fun l => (l.length ≤ 1000000 ∧ q = l.length ∧ sortedN l, .clo 0 [.tup [], .fr 24 (rowsN l)]) else none
  | _ => none
@[simp] theorem Gins_eq (e : TypeId) (a : List (List PV)) (p q : Int) : Gins [.tup [.fr e a], .pv (.int .i64 p), .pv (.int .i64 q)] = if e = 24 ∧ p = 0 then (dec rowN a).map fun l => (l.length ≤ 1000000 ∧ q = l.length ∧ sortedN l, .clo 0 [.tup [], .fr 24 (rowsN l)]) else none := rfl
theorem c_ins : ConTU Try.prog 183 Gins := by
  intro ys φ r h hφ
  unfold Gins at h
  split at h
  · rename_i e ra p q
    split at h
    · rename_i hef
      obtain ⟨rfl, rfl⟩ := hef
      obtain ⟨a, ha, h⟩ := Option.map_eq_some_iff.1 h
      cases h
      cases dec_rowsN_inv ha
      obtain ⟨hl6, rfl, hs⟩ := hφ
      refine con_ofU (tab_cons c_less tab_nil) (by kernel_rfl) fn183 (by simp) (by simp [resOK, res1, resC]) (by simp) ?_
      unfold body183
      simp (config := { maxSteps := 3000000 })
      refine vwp_loop (fun i : Nat => 1 ≤ i ∧ i ≤ a.length + 1) (fun i => ⟨[(0, .own 999), (1, .pv (.int .i64 0)), (2, .pv (.int .i64 a.length)), (6, .pv (.int .i64 i))], [(999, .arr 24 (rowsN a))]⟩) (fun i => a.length + 1 - i) [] 1 (by simp) ?_ ?_
      · have w1 : IntKind.i64.wrap 1 = 1 := wrap_i64 (by omega)
        simp [w1]
      · intro i ⟨hi1, hi⟩
        have w2 : IntKind.i64.wrap ((i : Int) + 1) = (i : Int) + 1 := wrap_i64 (by omega)
        have w3 : IntKind.i64.wrap ((i : Int) - 1) = (i : Int) - 1 := wrap_i64 (by omega)
        by_cases hlt : i < a.length
        · simp (config := { maxSteps := 3000000 }) [hlt]
          refine vwp_loop (fun _ : Unit => True) (fun _ => ⟨[(0, .own 999), (1, .pv (.int .i64 0)), (2, .pv (.int .i64 a.length)), (6, .pv (.int .i64 i)), (7, .pv (.int .i64 i))], [(999, .arr 24 (rowsN a))]⟩) (fun _ => 0) [] () trivial ?_ ?_
          · simp
          · intro _ _
            obtain ⟨k, rfl⟩ : ∃ k, i = k + 1 := ⟨i - 1, by omega⟩
            have hk := hs k hlt
            have hn : ¬ (a[k + 1] < a[k]) := by omega
            have r1 : rowAt (rowsN a) ((k : Int) + 1) = [.int .u64 a[k + 1]] := by have := rowsN_at hlt; simpa using this
            have r2 := rowsN_at (show k < a.length by omega)
            have hp : (0 : Int) < (k : Int) + 1 := by omega
            have hp0 : (0 : Int) ≤ (k : Int) + 1 := by omega
            have hp1 : (k : Int) + 1 < a.length := by omega
            have hp2 : (k : Int) < a.length := by omega
            have w4 : IntKind.i64.wrap (k : Int) = (k : Int) := wrap_i64 (by omega)
            simp (config := { maxSteps := 3000000 }) [w4, r1, r2, hn, hp, hp0, hp1, hp2]
            exact ⟨by omega, k + 2, ⟨by omega, by omega⟩, by rw [wrap_i64 (by omega)]; omega, by omega⟩
        · simp (config := { maxSteps := 3000000 }) [hlt]
    · cases h
  · cases h

noncomputable def Gpdq : List AV → Option (Prop × AV)
  | [.tup [.fr e a], .pv (.int .i64 p), .pv (.int .i64 q), .pv (.int .i64 m)] => if e = 24 ∧ p = 0 then (dec rowN a).map fun l => (l.length ≤ 12 ∧ q = l.length ∧ sortedN l, .clo 0 [.tup [], .fr 24 (rowsN l)]) else none
  | _ => none
@[simp] theorem Gpdq_eq (e : TypeId) (a : List (List PV)) (p q m : Int) : Gpdq [.tup [.fr e a], .pv (.int .i64 p), .pv (.int .i64 q), .pv (.int .i64 m)] = if e = 24 ∧ p = 0 then (dec rowN a).map fun l => (l.length ≤ 12 ∧ q = l.length ∧ sortedN l, .clo 0 [.tup [], .fr 24 (rowsN l)]) else none := rfl
theorem c_pdq : ConTU Try.prog 168 Gpdq := by
  intro ys φ r h hφ
  unfold Gpdq at h
  split at h
  · rename_i e ra p q m
    split at h
    · rename_i hef
      obtain ⟨rfl, rfl⟩ := hef
      obtain ⟨a, ha, h⟩ := Option.map_eq_some_iff.1 h
      cases h
      cases dec_rowsN_inv ha
      obtain ⟨hl6, rfl, hs⟩ := hφ
      have hl7 : a.length ≤ 1000000 := by omega
      have hl8 : (a.length : Int) ≤ 12 := by omega
      have w1 : IntKind.i64.wrap (a.length : Int) = a.length := wrap_i64 (by omega)
      refine con_ofU (tab_consU (p := 0) (k := 999) c_ins (by kernel_rfl) tab_nil) (by kernel_rfl) fn168 (by simp) (by simp [resOK, res1, resC]) (by simp) ?_
      unfold body168
      simp (config := { maxSteps := 3000000 })
      refine vwp_loop (fun _ : Unit => True) (fun _ => ⟨[(0, .own 999), (1, .pv (.int .i64 0)), (2, .pv (.int .i64 a.length)), (3, .pv (.int .i64 m)), (8, .pv (.bool true)), (9, .pv (.bool true))], [(999, .arr 24 (rowsN a))]⟩) (fun _ => 0) [] () trivial ?_ ?_
      · simp
      · intro _ _
        simp (config := { maxSteps := 3000000 }) [w1, hl6, hl7, hl8, hs]
    · cases h
  · cases h

noncomputable def GLen8 : List AV → Option (Prop × AV)
  | [.pv (.int .u64 n)] => some (n = 2, .pv (.int .i64 2))
  | _ => none
@[simp] theorem GLen8_eq (n : Int) : GLen8 [.pv (.int .u64 n)] = some (n = 2, .pv (.int .i64 2)) := rfl
theorem c_Len64 : ConT Try.prog 193 GLen8 := by
  intro ys φ r h hφ
  unfold GLen8 at h
  split at h
  · cases h
    subst hφ
    have w1 : IntKind.i64.wrap 2 = 2 := wrap_i64 (by omega)
    have w2 : IntKind.u8.wrap 2 = 2 := by decide
    refine con_of tab_nil (by kernel_rfl) fn193 (by simp) ?_
    unfold body193
    simp (config := { maxSteps := 3000000 }) [w1, w2]
  · cases h
theorem c_Len : ConT Try.prog 169 GLen8 := by
  intro ys φ r h hφ
  unfold GLen8 at h
  split at h
  · cases h
    subst hφ
    refine con_of (tab_cons c_Len64 tab_nil) (by kernel_rfl) fn169 (by simp) ?_
    unfold body169
    simp (config := { maxSteps := 3000000 })
  · cases h

end Go.Proofs.Ytfpmjcdcpicmaaa.Ab
