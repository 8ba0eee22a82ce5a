/- Chapter 14: Versions at two pins of one version; numbers. -/
import Derived.Test.YtfpmjcdcpicmaaaP11
namespace Go.Proofs.Ytfpmjcdcpicmaaa.Ab
open Go Go.RowKit R
set_option linter.unusedVariables false
set_option linter.unusedSimpArgs false
set_option maxHeartbeats 4000000
set_option maxRecDepth 100000

noncomputable def GSort : List AV → Option (Prop × AV)
  | [.tup [.fr e a]] => if e = 24 then (dec rowN a).map fun l => (l.length = 2 ∧ sortedN l, .clo 0 [.tup [], .fr 24 (rowsN l)]) else none
  | _ => none
@[simp] theorem GSort_eq (e : TypeId) (a : List (List PV)) : GSort [.tup [.fr e a]] = if e = 24 then (dec rowN a).map fun l => (l.length = 2 ∧ sortedN l, .clo 0 [.tup [], .fr 24 (rowsN l)]) else none := rfl
theorem c_Sort : ConTU Try.prog 136 GSort := by
  intro ys φ r h hφ
  unfold GSort at h
  split at h
  · rename_i e ra
    split at h
    · rename_i hef
      subst hef
      obtain ⟨a, ha, h⟩ := Option.map_eq_some_iff.1 h
      cases h
      cases dec_rowsN_inv ha
      obtain ⟨hl, hs⟩ := hφ
      have w1 : IntKind.u64.wrap 2 = 2 := wrap_u64 (by omega)
      refine con_ofU (tab_cons c_Len (tab_consU (p := 0) (k := 999) c_pdq (by kernel_rfl) tab_nil)) (by kernel_rfl) fn136 (by simp) (by simp [resOK, res1, resC]) (by simp) ?_
      unfold body136
      simp (config := { maxSteps := 3000000 }) [hl, hs, w1]
    · cases h
  · cases h

noncomputable def GCmp : List AV → Option (Prop × AV)
  | [.fr e [[.int .u64 v], [.int .u64 w]]] => if e = 24 ∧ v = w then some (True, .fr 24 [[.int .u64 v]]) else none
  | _ => none
@[simp] theorem GCmp_eq (e : TypeId) (v w : Int) : GCmp [.fr e [[.int .u64 v], [.int .u64 w]]] = if e = 24 ∧ v = w then some (True, .fr 24 [[.int .u64 v]]) else none := rfl
theorem c_Cmp : ConTU Try.prog 137 GCmp := by
  intro ys φ r h hφ
  unfold GCmp at h
  split at h
  · rename_i e v w
    split at h
    · rename_i hef
      obtain ⟨rfl, rfl⟩ := hef
      cases h
      have w1 : IntKind.i64.wrap 1 = 1 := wrap_i64 (by omega)
      have w0 : IntKind.i64.wrap 0 = 0 := wrap_i64 (by omega)
      have r0 : rowAt [[PV.int .u64 v], [PV.int .u64 v]] 0 = [.int .u64 v] := rfl
      have r1 : rowAt [[PV.int .u64 v], [PV.int .u64 v]] 1 = [.int .u64 v] := rfl
      refine con_ofU tab_nil (by kernel_rfl) fn137 (by simp) (by simp [resOK, res1, resC]) (by simp) ?_
      unfold body137
      simp (config := { maxSteps := 3000000 })
      refine vwp_loop (fun _ : Unit => True) (fun _ => ⟨[(0, .own 998), (3, .pv (.int .i64 1))], [(998, .arr 24 [[.int .u64 v], [.int .u64 v]])]⟩) (fun _ => 0) [] () trivial ?_ ?_
      · simp
      · intro _ _
        simp (config := { maxSteps := 3000000 }) [w1, w0, r0, r1]
        refine vwp_loop (fun _ : Unit => True) (fun _ => ⟨[(0, .own 998), (3, .pv (.int .i64 1)), (4, .sub 998 24 1 2), (5, .pv (.int .i64 1))], [(998, .arr 24 [[.int .u64 v], [.int .u64 v]])]⟩) (fun _ => 0) [] () trivial ?_ ?_
        · simp
        · intro _ _
          simp (config := { maxSteps := 3000000 }) [w1, w0, r0, r1]
    · cases h
  · cases h

noncomputable def Gnums : List AV → Option (Prop × AV)
  | [.pv (.ro a), .pv (.ro b)] => (dec rowN a).bind fun la => (dec rowN b).map fun lb => (la.length ≤ 1000000000, .pv (.bool (decide (la = lb))))
  | _ => none
@[simp] theorem Gnums_eq (a b : List (List PV)) : Gnums [.pv (.ro a), .pv (.ro b)] = (dec rowN a).bind fun la => (dec rowN b).map fun lb => (la.length ≤ 1000000000, .pv (.bool (decide (la = lb)))) := rfl
theorem c_nums : ConT Try.prog 82 Gnums := by
  intro ys φ r h hφ
  unfold Gnums at h
  split at h
  · rename_i ra rb
    obtain ⟨a, ha, h⟩ := Option.bind_eq_some_iff.1 h
    obtain ⟨b, hb, h⟩ := Option.map_eq_some_iff.1 h
    cases h
    cases dec_rowsN_inv ha
    cases dec_rowsN_inv hb
    refine con_of tab_nil (by kernel_rfl) fn82 (by simp) ?_
    unfold body82
    by_cases hl : a.length = b.length
    · have hli : (a.length : Int) = b.length := by omega
      simp (config := { maxSteps := 3000000 }) [hl]
      refine vwp_loop (fun i : Nat => i ≤ a.length ∧ a.take i = b.take i) (fun i => ⟨[(0, .pv (.ro (rowsN a))), (1, .pv (.ro (rowsN b))), (5, .pv (.int .i64 i))], []⟩) (fun i => a.length - i) [] 0 (by simp) ?_ ?_
      · simp
      · rintro i ⟨hi, ht⟩
        have w2 : IntKind.i64.wrap ((i : Int) + 1) = (i : Int) + 1 := wrap_i64 (by omega)
        by_cases hlt : i < a.length
        · have hltb : i < b.length := by omega
          have r1 := rowsN_at hlt
          have r2 := rowsN_at hltb
          by_cases hq : a[i] = b[i]
          · simp (config := { maxSteps := 3000000 }) [w2, hltb, r1, r2, hq, hl]
            refine ⟨i + 1, ⟨by omega, ?_⟩, by omega, by omega⟩
            rw [List.take_succ_eq_append_getElem hlt, List.take_succ_eq_append_getElem hltb, ht, hq]
          · have hne : ¬ (a = b) := by intro h; subst h; exact hq rfl
            simp (config := { maxSteps := 3000000 }) [w2, hltb, r1, r2, hq, hl, hne]
        · have hltb : ¬ i < b.length := by omega
          have hab : a = b := by
            rw [List.take_of_length_le (by omega), List.take_of_length_le (by omega)] at ht; exact ht
          subst hab
          simp (config := { maxSteps := 3000000 }) [hlt]
    · have hne : ¬ (a = b) := by intro h; subst h; exact hl rfl
      have hli : ¬ ((a.length : Int) = b.length) := by omega
      simp (config := { maxSteps := 3000000 }) [hli, hne]
  · cases h

end Go.Proofs.Ytfpmjcdcpicmaaa.Ab
