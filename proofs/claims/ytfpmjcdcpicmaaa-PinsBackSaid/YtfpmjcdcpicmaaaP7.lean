/- Chapter 14: has a pin's time run out? -/
import Derived.Test.YtfpmjcdcpicmaaaP6
import Derived.Test.YtfpmjcdcpicmaaaCodeQ
namespace Go.Proofs.Ytfpmjcdcpicmaaa.Ab
open Go Go.RowKit R
set_option linter.unusedVariables false
set_option linter.unusedSimpArgs false
set_option maxHeartbeats 4000000
set_option maxRecDepth 100000

/-- Behind a time, so long? -/
def pastB (n u s : Int) : Bool := decide (u + s < n)
noncomputable def GPast : List AV → Option (Prop × AV)
  | [.pv (.int .u64 n), .pv (.int .u64 u), .pv (.int .u64 s)] => some (okN n ∧ okN u ∧ okN s, .pv (.bool (pastB n u s)))
  | _ => none
@[simp] theorem GPast_eq (n u s : Int) : GPast [.pv (.int .u64 n), .pv (.int .u64 u), .pv (.int .u64 s)] = some (okN n ∧ okN u ∧ okN s, .pv (.bool (pastB n u s))) := rfl
theorem c_past : ConT Try.prog 134 GPast := by
  intro ys φ r h hφ
  unfold GPast at h
  split at h
  · rename_i n u s
    cases h
    obtain ⟨⟨n1, n2⟩, ⟨u1, u2⟩, ⟨s1, s2⟩⟩ := hφ
    refine con_of tab_nil (by kernel_rfl) fn134 (by simp) ?_
    unfold body134
    unfold pastB
    by_cases hc : u + s < 18446744073709551616
    · have e1 : (u + s) / 18446744073709551616 = 0 := by omega
      have e2 : (u + s) % 18446744073709551616 = u + s := by omega
      simp (config := { maxSteps := 3000000 }) [e1, e2, u1, s1]
    · have e1 : (u + s) / 18446744073709551616 = 1 := by omega
      have e2 : ¬ (u + s < n) := by omega
      simp (config := { maxSteps := 3000000 }) [e1, e2, u1, s1]
  · cases h
theorem c_rpast : ConT Try.prog 138 GPast := by
  intro ys φ r h hφ
  unfold GPast at h
  split at h
  · rename_i n u s
    cases h
    obtain ⟨⟨n1, n2⟩, ⟨u1, u2⟩, ⟨s1, s2⟩⟩ := hφ
    refine con_of tab_nil (by kernel_rfl) fn138 (by simp) ?_
    unfold body138
    unfold pastB
    have w1 : IntKind.u64.wrap (18446744073709551615 - u) = 18446744073709551615 - u := wrap_u64 (by omega)
    by_cases hc : s ≤ 18446744073709551615 - u
    · have w2 : IntKind.u64.wrap (u + s) = u + s := wrap_u64 (by omega)
      simp (config := { maxSteps := 3000000 }) [w1, w2, hc]
    · have e2 : ¬ (u + s < n) := by omega
      simp (config := { maxSteps := 3000000 }) [w1, hc, e2]
  · cases h

noncomputable def GLv1 : List AV → Option (Prop × AV)
  | [.agg [.pv (.int .u64 a), .pv (.int .u64 b), .pv (.int .u64 c)], .rp [.int .u64 n], .rp [.int .u64 s]] => some (okN n ∧ okN c ∧ okN s, .pv (.bool (pastB n c s)))
  | _ => none
@[simp] theorem GLv1_eq (a b c n s : Int) : GLv1 [.agg [.pv (.int .u64 a), .pv (.int .u64 b), .pv (.int .u64 c)], .rp [.int .u64 n], .rp [.int .u64 s]] = some (okN n ∧ okN c ∧ okN s, .pv (.bool (pastB n c s))) := rfl
theorem c_Lv1 : ConT Try.prog 133 GLv1 := by
  intro ys φ r h hφ
  unfold GLv1 at h
  split at h
  · cases h
    obtain ⟨h1, h2, h3⟩ := hφ
    refine con_of (tab_cons c_past tab_nil) (by kernel_rfl) fn133 (by simp) ?_
    unfold body133
    simp (config := { maxSteps := 3000000 }) [h1, h2, h3]
  · cases h
theorem isfnLv1 : isFn Try.prog 133 = true := by kernel_rfl

def pastP (n s : Int) (e : Pn) : Bool := pastB n e.u s
noncomputable def GIxL : List AV → Option (Prop × AV)
  | [.pv (.ro a), .clo f [.rp [.int .u64 n], .rp [.int .u64 s]]] => if f = 133 then (dec rowP a).map fun l => (l.length ≤ 1000000000 ∧ okN n ∧ okN s ∧ ∀ e ∈ l, okN e.u, .pv (.int .i64 (idxP (pastP n s) l))) else none
  | _ => none
@[simp] theorem GIxL_eq (a : List (List PV)) (f : FuncId) (n s : Int) : GIxL [.pv (.ro a), .clo f [.rp [.int .u64 n], .rp [.int .u64 s]]] = if f = 133 then (dec rowP a).map fun l => (l.length ≤ 1000000000 ∧ okN n ∧ okN s ∧ ∀ e ∈ l, okN e.u, .pv (.int .i64 (idxP (pastP n s) l))) else none := rfl

theorem c_IxL : ConT Try.prog 130 GIxL := by
  intro ys φ r h hφ
  unfold GIxL at h
  split at h
  · rename_i ra f n s
    split at h
    · rename_i hf
      subst hf
      obtain ⟨a, ha, h⟩ := Option.map_eq_some_iff.1 h
      cases h
      cases dec_rowsP_inv ha
      obtain ⟨hl, o1, o2, o3⟩ := hφ
      have hfn := isfnLv1
      refine con_of (tab_cons c_Lv1 tab_nil) (by kernel_rfl) fn130 (by simp) ?_
      unfold body130
      simp (config := { maxSteps := 3000000 })
      refine vwp_loop (fun i : Nat => i ≤ a.length ∧ ∀ e ∈ a.take i, pastP n s e = false) (fun i => ⟨[(0, .pv (.ro (rowsP a))), (1, .clo 133 [.rp [.int .u64 n], .rp [.int .u64 s]]), (7, .pv (.int .i64 a.length)), (8, .pv (.int .i64 i))], []⟩) (fun i => a.length - i) [] 0 (by simp) ?_ ?_
      · simp
      · rintro i ⟨hi, ht⟩
        have w2 : IntKind.i64.wrap ((i : Int) + 1) = (i : Int) + 1 := wrap_i64 (by omega)
        by_cases hlt : i < a.length
        · have r1 := rowsP_at hlt
          have o4 : okN a[i].u := o3 _ (List.getElem_mem hlt)
          have hr : pastP n s a[i] = false → ∀ e ∈ a.take (i + 1), pastP n s e = false := by
            intro h0 e he
            rw [List.take_succ_eq_append_getElem hlt, List.mem_append] at he
            rcases he with he | he
            · exact ht e he
            · rw [List.mem_singleton] at he; rw [he]; exact h0
          by_cases hp : pastP n s a[i] = true
          · have hp' : pastB n a[i].u s = true := hp
            simp (config := { maxSteps := 3000000 }) [w2, hlt, r1, hfn, o1, o2, o4, hp']
            exact (idxP_at hlt hp ht).symm
          · have hp0 : pastP n s a[i] = false := by simpa using hp
            have hp' : pastB n a[i].u s = false := hp0
            simp (config := { maxSteps := 3000000 }) [w2, hlt, r1, hfn, o1, o2, o4, hp']
            exact ⟨i + 1, ⟨by omega, hr hp0⟩, by omega, by omega⟩
        · simp (config := { maxSteps := 3000000 }) [hlt]
          rw [List.take_of_length_le (by omega)] at ht
          exact (idxP_none ht).symm
    · cases h
  · cases h

end Go.Proofs.Ytfpmjcdcpicmaaa.Ab
