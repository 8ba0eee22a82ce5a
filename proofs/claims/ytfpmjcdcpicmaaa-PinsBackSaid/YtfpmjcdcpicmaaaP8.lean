/- Chapter 14: the pins that live. -/
import Derived.Test.YtfpmjcdcpicmaaaP7
namespace Go.Proofs.Ytfpmjcdcpicmaaa.Ab
open Go Go.RowKit R
set_option linter.unusedVariables false
set_option linter.unusedSimpArgs false
set_option maxHeartbeats 4000000
set_option maxRecDepth 100000

theorem idxP_filter {p : Pn → Bool} {l : List Pn} {k : Nat} (h : idxP p l = (k : Int)) : k < l.length ∧ (l.take (k + 1)).filter (fun e => !p e) = l.take k := by
  unfold idxP at h
  split at h
  · rename_i hlt
    have hk : l.findIdx p = k := by omega
    rw [hk] at hlt
    refine ⟨hlt, ?_⟩
    obtain ⟨h1, h2⟩ := (List.findIdx_eq hlt).1 hk
    rw [List.take_succ_eq_append_getElem hlt, List.filter_append]
    have hf : (l.take k).filter (fun e => !p e) = l.take k := by
      rw [List.filter_eq_self]
      intro e he
      rw [List.mem_take_iff_getElem] at he
      obtain ⟨j, hj, rfl⟩ := he
      have := h2 j (by omega)
      simpa using this
    rw [hf]
    simp [h1]
  · omega
theorem rowsP_set (l : List Pn) (i : Nat) (e : Pn) : (rowsP l).set i [.int .u64 e.i, .int .u64 e.v, .int .u64 e.u] = rowsP (l.set i e) := by
  unfold rowsP
  rw [List.map_set]
  rfl
def liveL (l : List Pn) (n s : Int) : List Pn := l.filter fun e => !pastP n s e

noncomputable def GdelP : List AV → Option (Prop × AV)
  | [.fr e a, .clo f [.rp [.int .u64 n], .rp [.int .u64 s]]] => if e = 117 ∧ f = 133 then (dec rowP a).map fun l => (l.length ≤ 1000000 ∧ okN n ∧ okN s ∧ ∀ e ∈ l, okN e.u, .fr 117 (rowsP (liveL l n s))) else none
  | _ => none
@[simp] theorem GdelP_eq (e : TypeId) (a : List (List PV)) (f : FuncId) (n s : Int) : GdelP [.fr e a, .clo f [.rp [.int .u64 n], .rp [.int .u64 s]]] = if e = 117 ∧ f = 133 then (dec rowP a).map fun l => (l.length ≤ 1000000 ∧ okN n ∧ okN s ∧ ∀ e ∈ l, okN e.u, .fr 117 (rowsP (liveL l n s))) else none := rfl

theorem c_delP : ConTU Try.prog 135 GdelP := by
  intro ys φ r h hφ
  unfold GdelP at h
  split at h
  · rename_i e ra f n s
    split at h
    · rename_i hef
      obtain ⟨rfl, rfl⟩ := hef
      obtain ⟨a, ha, h⟩ := Option.map_eq_some_iff.1 h
      cases h
      cases dec_rowsP_inv ha
      obtain ⟨hl6, o1, o2, o3⟩ := hφ
      refine con_ofU (tab_cons c_IxL (tab_cons c_Lv1 tab_nil)) (by kernel_rfl) fn135 (by simp) (by simp [resOK, res1, resC]) (by simp) ?_
      unfold body135
      have hl9 : a.length ≤ 1000000000 := by omega
      have isfn3 := isfnLv1
      by_cases hr : a.any (pastP n s) = true
      · have hw : 0 ≤ idxP (pastP n s) a := by rw [idxP_neg]; exact hr
        obtain ⟨k, hk⟩ := Int.eq_ofNat_of_zero_le hw
        obtain ⟨hkl, hkf⟩ := idxP_filter hk
        have hne : ¬ ((k : Int) = -1) := by omega
        have w1 : IntKind.i64.wrap ((k : Int) + 1) = (k : Int) + 1 := wrap_i64 (by omega)
        simp (config := { maxSteps := 3000000 }) [hk, hne, w1, hl9, o1, o2]
        refine ⟨o3, ?_⟩
        refine vwp_loop (fun x : Nat × Nat × List Pn => x.1 < x.2.1 ∧ x.2.1 ≤ a.length ∧ x.2.2.length = a.length ∧ x.2.2.take x.1 = (a.take x.2.1).filter (fun e => !pastP n s e) ∧ x.2.2.drop x.2.1 = a.drop x.2.1)
          (fun x => ⟨[(0, .own 998), (1, .clo 133 [.rp [.int .u64 n], .rp [.int .u64 s]]), (5, .pv (.int .i64 x.1)), (6, .pv (.int .i64 x.2.1))], [(998, .arr 117 (rowsP x.2.2))]⟩) (fun x => a.length - x.2.1) [] (k, k + 1, a) ?_ ?_ ?_
        · exact ⟨by simp, by simp; omega, rfl, by simp [hkf], rfl⟩
        · simp
        · rintro ⟨i, j, b⟩ ⟨h1, h2, h3, h4, h5⟩
          dsimp only at h1 h2 h3 h4 h5
          have w2 : IntKind.i64.wrap ((j : Int) + 1) = (j : Int) + 1 := wrap_i64 (by omega)
          have w3 : IntKind.i64.wrap ((i : Int) + 1) = (i : Int) + 1 := wrap_i64 (by omega)
          by_cases hlt : j < a.length
          · have hjb : j < b.length := by omega
            have hib : i < b.length := by omega
            have o4 : okN a[j].u := o3 _ (List.getElem_mem hlt)
            have hbj : b[j] = a[j] := by
              have e1 := List.drop_eq_getElem_cons hjb
              have e2 := List.drop_eq_getElem_cons hlt
              rw [h5, e2] at e1
              injection e1 with e1 _; exact e1.symm
            have r1 := rowsP_at hjb
            rw [hbj] at r1
            have r2 := rowsP_at hib
            have hib' : (i : Int) < a.length := by omega
            have hdrop : ∀ e, (b.set i e).drop (j + 1) = a.drop (j + 1) := by
              intro e
              rw [List.drop_set_of_lt (by omega)]
              have e1 : (b.drop j).drop 1 = (a.drop j).drop 1 := by rw [h5]
              simpa [List.drop_drop] using e1
            by_cases hq : pastP n s a[j] = true
            · have hq' : pastB n a[j].u s = true := hq
              simp (config := { maxSteps := 3000000 }) [w2, w3, hlt, hjb, r1, r2, h3, hq', rowsP_set, hib', o1, o2, o4, isfn3]
              refine ⟨i, j + 1, b, ⟨by omega, by omega, h3, ?_, ?_⟩, ⟨⟨rfl, by omega⟩, rfl⟩, by omega⟩
              · rw [List.take_succ_eq_append_getElem hlt, List.filter_append, ← h4]
                simp [hq]
              · have e1 : (b.drop j).drop 1 = (a.drop j).drop 1 := by rw [h5]
                simpa [List.drop_drop] using e1
            · have hq0 : pastP n s a[j] = false := by simpa using hq
              have hq' : pastB n a[j].u s = false := hq0
              simp (config := { maxSteps := 3000000 }) [w2, w3, hlt, hjb, r1, r2, h3, hq', rowsP_set, hib', o1, o2, o4, isfn3]
              refine ⟨by omega, i + 1, j + 1, b.set i a[j], ⟨by omega, by omega, by simp [h3], ?_, hdrop _⟩, ⟨⟨by omega, by omega⟩, rfl⟩, by omega⟩
              rw [List.take_succ_eq_append_getElem hlt, List.filter_append, ← h4, List.take_succ_eq_append_getElem (by simp; omega)]
              simp [hq0, List.take_set_of_le]
          · simp (config := { maxSteps := 3000000 }) [hlt, h3]
            have hja : j = a.length := by omega
            subst hja
            rw [List.take_length] at h4
            have h3r := rowsP_three b
            refine ⟨⟨by omega, h3r⟩, ⟨by omega, ?_⟩, ?_⟩
            · rintro x (hx | ⟨_, rfl⟩ | hx)
              · exact h3r x (List.mem_of_mem_take hx)
              · rfl
              · exact h3r x (List.mem_of_mem_drop hx)
            · rw [List.take_append_of_le_length (by simp; omega), List.take_take, Nat.min_self]
              unfold liveL
              rw [← h4]
              simp [rowsP, List.map_take]
      · have hw : idxP (pastP n s) a = -1 := by
          apply idxP_none
          have := hr
          simp only [List.any_eq_true, not_exists, not_and] at this
          intro e he; simpa using this e he
        have hfil : liveL a n s = a := by
          unfold liveL; rw [List.filter_eq_self]; intro e he
          have := hr
          simp only [List.any_eq_true, not_exists, not_and] at this
          simpa using this e he
        simp (config := { maxSteps := 3000000 }) [hw, hfil, hl9, o1, o2]
        exact o3
    · cases h
  · cases h

end Go.Proofs.Ytfpmjcdcpicmaaa.Ab
