/- The law DeltaBack. NOT BUILT YET where NOTES says so. -/
import Derived.Test.YtcgllachkjnlgaaD38
import Derived.Test.YtcgllachkjnlgaaD35
namespace Go.Proofs.Ytcgllachkjnlgaa.Ab
open Go Go.RowKit R
set_option linter.unusedVariables false
set_option linter.unusedSimpArgs false
set_option maxHeartbeats 40000000
set_option maxRecDepth 100000

theorem putB_txt : ∀ {l : List Ed}, rightL l = true → ∀ e ∈ l, e.t.length ≤ (putB l).length
  | [], _, e, h => by cases h
  | x :: l, hr, e, h => by
    unfold rightL at hr
    simp only [List.all_cons, Bool.and_eq_true] at hr
    have ih := putB_txt (l := l) hr.2
    unfold putB at ih ⊢
    simp only [List.flatMap_cons, List.length_append]
    rcases List.mem_cons.1 h with rfl | h
    · rcases okE_of hr.1 with ⟨h1, _, _⟩ | ⟨_, _, h3⟩
      · unfold putE vtext
        rw [if_pos h1]
        simp; omega
      · rw [h3]; simp
    · have := ih e h; omega
theorem parse_okP {b : List UInt8} (h : (parseL b).2 = 0) (hb : b.length ≤ 10000) : okP (parseL b).1 := by
  have h1 := parseL_len b
  have h2 := put_parse h
  refine ⟨by omega, fun e he => ?_⟩
  unfold putL at h2
  split at h2
  · cases h2
  · rename_i hr
    have hr : rightL (parseL b).1 = true := by simpa using hr
    have h3 : putB (parseL b).1 = b := by injection h2
    have := putB_txt hr e he
    rw [h3] at this
    omega
theorem flat_bytes (l : List UInt8) : flatRows (bytesRow l) := by
  intro r hr p hp
  simp only [bytesRow, List.mem_map] at hr
  obtain ⟨c, _, rfl⟩ := hr
  simp only [List.mem_singleton] at hp
  subst hp; rfl
theorem few_txt {l : List Ed} (h : few l = true) : l.length ≤ 30 ∧ ttL l ≤ 6000 := by
  unfold few at h
  simp only [Bool.and_eq_true, decide_eq_true_eq, List.all_eq_true] at h
  obtain ⟨h1, h2⟩ := h
  have := ttL_le (l := l) (c := 200) fun e he => by have := h2 e he; omega
  exact ⟨h1, by omega⟩
theorem c_back (base : List UInt8) (l : List Ed) (b : List UInt8) : Con Try.prog 6 [] [.pv (.str base), .pv (.ro (rowsE l)), .pv (.ro (bytesRow b))] [] (.pv (.bool true)) := by
  refine con_of (tab_cons c_few (tab_cons c_works (tab_cons c_refs (tab_cons c_apply (tab_cons c_sizes (tab_cons c_normal (tab_cons c_Put (tab_cons c_Parse (tab_cons c_same (tab_cons c_sameB tab_nil)))))))))) (by kernel_rfl) L.fn6 (by simp) ?_
  unfold L.body6
  by_cases hb : (2000 : Int) < base.length
  · simp (config := { maxSteps := 3000000 }) [hb]
  · by_cases hf : few l = true
    · by_cases hbb : (500 : Int) < b.length
      · simp (config := { maxSteps := 3000000 }) [hb, hf, hbb]
      · obtain ⟨h1, h2, h3⟩ := few_ok hf
        have hA : okA base l := ⟨by omega, h1⟩
        have hl9 : l.length ≤ 1000000000 := by omega
        have hl6 : l.length ≤ 1000000 := by omega
        have hb8 : b.length ≤ 100000000 := by omega
        have hb9 : b.length ≤ 1000000000 := by omega
        have hpl := putL_len h1
        have hp8 : (putL l).1.length ≤ 100000000 := by omega
        obtain ⟨t1, t2⟩ := few_txt hf
        have hput : (putL l).2 = 0 → parseL (putL l).1 = (l, 0) := fun h => parse_put h h1.2
        have hpar : (parseL b).2 = 0 → putL (parseL b).1 = (b, 0) ∧ okP (parseL b).1 := fun h => ⟨put_parse h, parse_okP h (by omega)⟩
        by_cases hn : (normal l).2 = 0
        · have n1 := normal_again hn
          have n2 := normal_sizes hn
          have n3 := normal_apply hn base
          have n4 := normal_le hn
          have n4' : ¬ (l.length : Int) < (normal l).1.length := by omega
          have n5 := normal_tt hn
          have nP : okP (normal l).1 := ⟨by omega, fun e he => by have := ttL_mem he; omega⟩
          have nL := okL_of nP
          have nA : okA base (normal l).1 := ⟨by omega, nP⟩
          have n9 : (normal l).1.length ≤ 1000000000 := by omega
          have n6 : (normal l).1.length ≤ 1000000 := by omega
          have hr := (normal_ok hn).1
          have hz := @applyL_zero l base
          have hz2 := @applyL_len l base
          by_cases hk : (applyL base l).2 = 0
          · have s1 := (hz.1 hk).2
            have s2 := hz2 hk
            by_cases hp0 : (putL l).2 = 0 <;> by_cases hq0 : (parseL b).2 = 0
            all_goals simp (config := { maxSteps := 3000000 }) [hb, hf, hbb, hA, h1, h2, hl9, hl6, hb8, hb9, hp8, hp0, hq0, hput, hpar, hn, n1, n2, n3, n4', nP, nL, nA, n9, n6, hk, s1, s2]
            all_goals (repeat' (first | exact flat_rowsE _ | exact flat_bytes _ | refine ⟨?_, ?_⟩))
          · have s1 : ¬ (sizesL l).1 = (base.length : Int) := fun h => hk (hz.2 ⟨hr, h⟩)
            by_cases hp0 : (putL l).2 = 0 <;> by_cases hq0 : (parseL b).2 = 0
            all_goals simp (config := { maxSteps := 3000000 }) [hb, hf, hbb, hA, h1, h2, hl9, hl6, hb8, hb9, hp8, hp0, hq0, hput, hpar, hn, n1, n2, n3, n4', nP, nL, nA, n9, n6, hk, s1]
            all_goals (repeat' (first | exact flat_rowsE _ | exact flat_bytes _ | refine ⟨?_, ?_⟩))
        · by_cases hp0 : (putL l).2 = 0 <;> by_cases hq0 : (parseL b).2 = 0
          all_goals simp (config := { maxSteps := 3000000 }) [hb, hf, hbb, hA, h1, h2, hl9, hl6, hb8, hb9, hp8, hp0, hq0, hput, hpar, hn]
          all_goals (repeat' (first | exact flat_rowsE _ | exact flat_bytes _ | refine ⟨?_, ?_⟩))
    · have hf' : few l = false := by simpa using hf
      simp (config := { maxSteps := 3000000 }) [hb, hf']

end Go.Proofs.Ytcgllachkjnlgaa.Ab
