/- Any edits are looked at, applied to any text, made normal, and written, as the document says. -/
import Derived.Test.YtcgllachkjnlgaaD21
namespace Go.Proofs.Ytcgllachkjnlgaa.Ab
open Go Go.RowKit R
set_option linter.unusedVariables false
set_option linter.unusedSimpArgs false
set_option maxHeartbeats 40000000
set_option maxRecDepth 100000

theorem few_ok {l : List Ed} (h : few l = true) : okP l ∧ okL l ∧ l.length ≤ 30 := by
  unfold few at h
  simp only [Bool.and_eq_true, decide_eq_true_eq, List.all_eq_true] at h
  obtain ⟨h1, h2⟩ := h
  exact ⟨⟨by omega, fun e he => by have := h2 e he; omega⟩, ⟨by omega, fun e he => by have := h2 e he; omega⟩, h1⟩

theorem normF_nb : ∀ (m : List Ed) (s : List Ed × List UInt8 × Int) (i : Nat), NB s i → (∀ e ∈ m, rightE e = true ∧ e.t.length ≤ 2147483647) → NB (m.foldl normStep s) (i + m.length)
  | [], s, i, h, _ => h
  | e :: m, s, i, h, hm => by
    have h1 := h.step (hm e (by simp)).1 (hm e (by simp)).2
    have h2 := normF_nb m _ _ h1 fun x hx => hm x (by simp [hx])
    rw [List.length_cons, show i + (m.length + 1) = i + 1 + m.length from by omega]
    exact h2
theorem normal_len {l : List Ed} (h : okL l) : (normal l).1.length ≤ 3 * l.length + 2 := by
  unfold normal
  split
  · simp
  · rename_i hr
    have hr : rightL l = true := by simpa using hr
    split
    · simp
    · have h0 : NB (([], [], 0) : List Ed × List UInt8 × Int) 0 := by constructor <;> simp
      have := normF_nb l _ 0 h0 fun e he => ⟨List.all_eq_true.1 hr e he, h.2 e he⟩
      have h1 := this.len
      have h2 := runE_len (normF l).2.1 (normF l).2.2
      simp only [normOut, List.length_append]
      unfold normF at h2 ⊢
      omega
theorem putL_len {l : List Ed} (h : okP l) : (putL l).1.length ≤ 1000011 * l.length := by
  unfold putL
  split
  · simp
  · rename_i hr
    have hr : rightL l = true := by simpa using hr
    exact putB_len fun e he => ⟨h.2 e he, List.all_eq_true.1 hr e he⟩

theorem c_applies (base : List UInt8) (l : List Ed) : Con Try.prog 3 [] [.pv (.str base), .pv (.ro (rowsE l))] [] (.pv (.bool true)) := by
  refine con_of (tab_cons c_few (tab_cons c_works (tab_cons c_refs (tab_cons c_apply (tab_cons c_rApply (tab_cons c_sizes (tab_cons c_rsizes (tab_cons c_normal (tab_cons c_rnormal (tab_cons c_Put (tab_cons c_rPut (tab_cons c_same (tab_cons c_sameB (tab_cons c_right (tab_cons c_rRight tab_nil))))))))))))))) (by kernel_rfl) L.fn3 (by simp) ?_
  unfold L.body3
  by_cases hb : (2000 : Int) < base.length
  · simp (config := { maxSteps := 3000000 }) [hb]
  · by_cases hf : few l = true
    · obtain ⟨h1, h2, h3⟩ := few_ok hf
      have hA : okA base l := ⟨by omega, h1⟩
      have hl9 : l.length ≤ 1000000000 := by omega
      have hl6 : l.length ≤ 1000000 := by omega
      simp (config := { maxSteps := 3000000 }) [hb, hf, hA, h1, h2, hl9, hl6]
      have hn := normal_len h2
      have hp := putL_len h1
      refine ⟨by omega, by omega, ?_⟩
      refine vwp_loop (fun x : Nat × List Ed => x.1 ≤ (normal l).1.length ∧ x.2.length = (normal l).1.length)
        (fun x => ⟨[(1, .pv (.ro (rowsE l))), (5, .pv (.ro (rowsE l))), (14, .own 58), (22, .pv (.int .i64 x.1))], [(58, .arr 47 (rowsE x.2))]⟩) (fun x => (normal l).1.length - x.1) [] (0, (normal l).1) ?_ ?_ ?_
      · exact ⟨Nat.zero_le _, rfl⟩
      · simp
      · rintro ⟨j, b⟩ ⟨hj, hbl⟩
        dsimp only at hj hbl
        have w2 : IntKind.i64.wrap ((j : Int) + 1) = (j : Int) + 1 := wrap_i64 (by omega)
        by_cases hlt : j < (normal l).1.length
        · have r1 := rowsE_at (show j < b.length by omega)
          have hset := rowsE_set b j ⟨0, 0, []⟩
          simp (config := { maxSteps := 3000000 }) [w2, hlt, hbl, r1]
          exact ⟨j + 1, b.set j ⟨0, 0, []⟩, ⟨by omega, by simp [hbl]⟩, ⟨by omega, hset⟩, by omega⟩
        · simp (config := { maxSteps := 3000000 }) [w2, hlt, hbl, hl9]
    · have hf' : few l = false := by simpa using hf
      simp (config := { maxSteps := 3000000 }) [hb, hf']

end Go.Proofs.Ytcgllachkjnlgaa.Ab
