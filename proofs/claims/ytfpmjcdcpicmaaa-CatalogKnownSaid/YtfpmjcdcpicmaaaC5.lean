/- Chapter 17: what the laws hold against each other; the examples come out as they should. -/
import Derived.Test.YtfpmjcdcpicmaaaC4
namespace Go.Proofs.Ytfpmjcdcpicmaaa.Ab
open Go Go.RowKit R
set_option linter.unusedVariables false
set_option linter.unusedSimpArgs false
set_option maxHeartbeats 40000000
set_option maxRecDepth 100000

def fewC (l : List En) : Bool := decide (l.length ≤ 20) && l.all fun e => decide (e.n.length ≤ 100)
noncomputable def GFew : List AV → Option (Prop × AV)
  | [.pv (.ro a)] => (dec rowC a).map fun l => (True, .pv (.bool (fewC l)))
  | _ => none
@[simp] theorem GFew_eq (a : List (List PV)) : GFew [.pv (.ro a)] = (dec rowC a).map fun l => (True, .pv (.bool (fewC l))) := rfl
theorem c_Few : ConT Try.prog 16 GFew := by
  intro ys φ r h hφ
  unfold GFew at h
  split at h
  · rename_i ra
    obtain ⟨a, ha, h⟩ := Option.map_eq_some_iff.1 h
    cases h
    cases dec_rowsC_inv ha
    refine con_of tab_nil (by kernel_rfl) fn16 (by simp) ?_
    unfold body16
    simp (config := { maxSteps := 3000000 })
    refine vwp_loop (fun i : Nat => i ≤ a.length ∧ i ≤ 21 ∧ ∀ e ∈ a.take i, e.n.length ≤ 100) (fun i => ⟨[(0, .pv (.ro (rowsC a))), (2, .pv (.bool false)), (3, .pv (.int .i64 i))], []⟩) (fun i => a.length - i) [] 0 (by simp) ?_ ?_
    · simp
    · rintro i ⟨hi, hi21, ht⟩
      have w2 : IntKind.i64.wrap ((i : Int) + 1) = (i : Int) + 1 := wrap_i64 (by omega)
      by_cases hlt : i < a.length
      · have r1 := rowsC_at hlt
        by_cases h21 : (i : Int) < 21
        · by_cases hn : (100 : Int) < (a[i].n.length : Int)
          · have hf : fewC a = false := by
              unfold fewC
              rw [Bool.and_eq_false_iff]
              right
              rw [List.all_eq_false]
              exact ⟨a[i], List.getElem_mem hlt, by simp; omega⟩
            simp (config := { maxSteps := 3000000 }) [hlt, h21, r1, hn, hf]
          · simp (config := { maxSteps := 3000000 }) [hlt, h21, r1, hn, w2]
            refine ⟨i + 1, ⟨by omega, by omega, fun e he => ?_⟩, by omega, by omega⟩
            rw [List.take_succ_eq_append_getElem hlt, List.mem_append, List.mem_singleton] at he
            rcases he with he | rfl
            · exact ht e he
            · omega
        · have hl20 : ¬ (a.length : Int) ≤ 20 := by omega
          have hf : fewC a = false := by
            unfold fewC
            rw [Bool.and_eq_false_iff]
            left
            simp; omega
          simp (config := { maxSteps := 3000000 }) [hlt, h21, hl20, hf]
      · rw [List.take_of_length_le (by omega)] at ht
        have hq : decide ((a.length : Int) ≤ 20) = fewC a := by
          unfold fewC
          have : (a.all fun e => decide (e.n.length ≤ 100)) = true := by
            rw [List.all_eq_true]; intro e he; simpa using ht e he
          rw [this, Bool.and_true]
          congr 1
          apply propext
          omega
        simp (config := { maxSteps := 3000000 }) [hlt, hq]
  · cases h

noncomputable def GRefC : List AV → Option (Prop × AV)
  | [.pv (.ro a)] => (dec rowC a).map fun l => (l.length ≤ 100000000, .fr 147 (rowsC l))
  | _ => none
@[simp] theorem GRefC_eq (a : List (List PV)) : GRefC [.pv (.ro a)] = (dec rowC a).map fun l => (l.length ≤ 100000000, .fr 147 (rowsC l)) := rfl
theorem c_RefC : ConT Try.prog 18 GRefC := by
  intro ys φ r h hφ
  unfold GRefC at h
  split at h
  · rename_i ra
    obtain ⟨a, ha, h⟩ := Option.map_eq_some_iff.1 h
    cases h
    cases dec_rowsC_inv ha
    refine con_of tab_nil (by kernel_rfl) fn18 (by simp) ?_
    unfold body18
    simp (config := { maxSteps := 3000000 })
    refine vwp_loop (fun i : Nat => i ≤ a.length) (fun i => ⟨[(0, .pv (.ro (rowsC a))), (2, .own 2), (3, .own 3), (4, .pv (.int .i64 i))], [(2, .arr 147 []), (3, .arr 147 (rowsC (a.take i)))]⟩) (fun i => a.length - i) [] 0 (by simp) ?_ ?_
    · simp
    · intro i hi
      have w2 : IntKind.i64.wrap ((i : Int) + 1) = (i : Int) + 1 := wrap_i64 (by omega)
      by_cases hlt : i < a.length
      · have r1 := rowsC_at hlt
        simp (config := { maxSteps := 3000000 }) [w2, hlt, r1, maxLen_eq]
        refine ⟨⟨by omega, by omega⟩, i + 1, by omega, ⟨by omega, ?_⟩, by omega⟩
        rw [List.take_succ_eq_append_getElem hlt, rowsC_append]; rfl
      · simp (config := { maxSteps := 3000000 }) [hlt]
        rw [List.take_of_length_le (by omega)]
  · cases h

noncomputable def GSmC : List AV → Option (Prop × AV)
  | [.pv (.ro a), .pv (.ro b)] => (dec rowC a).bind fun la => (dec rowC b).map fun lb => (la.length ≤ 1000000000, .pv (.bool (decide (la = lb))))
  | _ => none
@[simp] theorem GSmC_eq (a b : List (List PV)) : GSmC [.pv (.ro a), .pv (.ro b)] = (dec rowC a).bind fun la => (dec rowC b).map fun lb => (la.length ≤ 1000000000, .pv (.bool (decide (la = lb)))) := rfl
theorem c_SmC : ConT Try.prog 27 GSmC := by
  intro ys φ r h hφ
  unfold GSmC at h
  split at h
  · rename_i ra rb
    obtain ⟨a, ha, h⟩ := Option.bind_eq_some_iff.1 h
    obtain ⟨b, hb, h⟩ := Option.map_eq_some_iff.1 h
    cases h
    cases dec_rowsC_inv ha
    cases dec_rowsC_inv hb
    refine con_of tab_nil (by kernel_rfl) fn27 (by simp) ?_
    unfold body27
    by_cases hl : a.length = b.length
    · simp (config := { maxSteps := 3000000 }) [hl]
      refine vwp_loop (fun i : Nat => i ≤ a.length ∧ a.take i = b.take i) (fun i => ⟨[(0, .pv (.ro (rowsC a))), (1, .pv (.ro (rowsC b))), (4, .pv (.bool false)), (5, .pv (.int .i64 i))], []⟩) (fun i => a.length - i) [] 0 (by simp) ?_ ?_
      · simp
      · rintro i ⟨hi, ht⟩
        have w2 : IntKind.i64.wrap ((i : Int) + 1) = (i : Int) + 1 := wrap_i64 (by omega)
        by_cases hlt : i < a.length
        · have hltb : i < b.length := by omega
          have r1 := rowsC_at hlt
          have r2 := rowsC_at hltb
          have hne : a[i] ≠ b[i] → decide (a = b) = false := fun hq => by
            rw [decide_eq_false_iff_not]; intro e; subst e; exact hq rfl
          by_cases hn : a[i].n = b[i].n
          · by_cases hid : a[i].i = b[i].i
            · simp (config := { maxSteps := 3000000 }) [w2, hlt, hltb, r1, r2, hn, hid, hl]
              refine ⟨i + 1, ⟨by omega, ?_⟩, by omega, by omega⟩
              have hab : a[i] = b[i] := by
                generalize a[i] = x at *
                generalize b[i] = y at *
                cases x; cases y; simp only at hn hid; rw [hn, hid]
              rw [List.take_succ_eq_append_getElem hlt, List.take_succ_eq_append_getElem hltb, ht, hab]
            · have hd := hne (fun e => hid (by rw [e]))
              simp (config := { maxSteps := 3000000 }) [w2, hlt, hltb, r1, r2, hn, hid, hl, hd]
              try (intro e; subst e; exact hid rfl)
          · have hd := hne (fun e => hn (by rw [e]))
            simp (config := { maxSteps := 3000000 }) [w2, hlt, hltb, r1, r2, hn, hl, hd]
            try (intro e; subst e; exact hn rfl)
        · have hltb : ¬ i < b.length := by omega
          have hab : a = b := by
            rw [List.take_of_length_le (by omega), List.take_of_length_le (by omega)] at ht; exact ht
          subst hab
          simp (config := { maxSteps := 3000000 }) [hlt]
    · have hne : ¬ (a = b) := by intro h; subst h; exact hl rfl
      have hli : ¬ ((a.length : Int) = b.length) := by omega
      simp (config := { maxSteps := 3000000 }) [hli, hne]
  · cases h

noncomputable def GSmT : List AV → Option (Prop × AV)
  | [.pv (.ro a), .pv (.ro b)] => (dec rowS a).bind fun la => (dec rowS b).map fun lb => (la.length ≤ 1000000000, .pv (.bool (decide (la = lb))))
  | _ => none
@[simp] theorem GSmT_eq (a b : List (List PV)) : GSmT [.pv (.ro a), .pv (.ro b)] = (dec rowS a).bind fun la => (dec rowS b).map fun lb => (la.length ≤ 1000000000, .pv (.bool (decide (la = lb)))) := rfl
theorem c_SmT : ConT Try.prog 30 GSmT := by
  intro ys φ r h hφ
  unfold GSmT at h
  split at h
  · rename_i ra rb
    obtain ⟨a, ha, h⟩ := Option.bind_eq_some_iff.1 h
    obtain ⟨b, hb, h⟩ := Option.map_eq_some_iff.1 h
    cases h
    cases dec_rowsS_inv ha
    cases dec_rowsS_inv hb
    refine con_of tab_nil (by kernel_rfl) fn30 (by simp) ?_
    unfold body30
    by_cases hl : a.length = b.length
    · simp (config := { maxSteps := 3000000 }) [hl]
      refine vwp_loop (fun i : Nat => i ≤ a.length ∧ a.take i = b.take i) (fun i => ⟨[(0, .pv (.ro (rowsS a))), (1, .pv (.ro (rowsS b))), (4, .pv (.bool false)), (5, .pv (.int .i64 i))], []⟩) (fun i => a.length - i) [] 0 (by simp) ?_ ?_
      · simp
      · rintro i ⟨hi, ht⟩
        have w2 : IntKind.i64.wrap ((i : Int) + 1) = (i : Int) + 1 := wrap_i64 (by omega)
        by_cases hlt : i < a.length
        · have hltb : i < b.length := by omega
          have r1 := rowsS_at hlt
          have r2 := rowsS_at hltb
          by_cases hq : a[i] = b[i]
          · simp (config := { maxSteps := 3000000 }) [w2, hlt, hltb, r1, r2, hq, hl]
            refine ⟨i + 1, ⟨by omega, ?_⟩, by omega, by omega⟩
            rw [List.take_succ_eq_append_getElem hlt, List.take_succ_eq_append_getElem hltb, ht, hq]
          · have hne : ¬ (a = b) := by intro h; subst h; exact hq rfl
            simp (config := { maxSteps := 3000000 }) [w2, hlt, hltb, r1, r2, hq, hl, hne]
        · have hltb : ¬ i < b.length := by omega
          have hab : a = b := by
            rw [List.take_of_length_le (by omega), List.take_of_length_le (by omega)] at ht; exact ht
          subst hab
          simp (config := { maxSteps := 3000000 }) [hlt]
    · have hne : ¬ (a = b) := by intro h; subst h; exact hl rfl
      have hli : ¬ ((a.length : Int) = b.length) := by omega
      simp (config := { maxSteps := 3000000 }) [hli, hne]
  · cases h

/-! ### The examples -/

def exC : List En := [⟨[98], 2⟩, ⟨[100], 4⟩]
theorem x1 : bindC [⟨[98], 2⟩, ⟨[100], 4⟩] [99] 3 = ([⟨[98], 2⟩, ⟨[99], 3⟩, ⟨[100], 4⟩], 0) := by decide
theorem x2 : bindC [⟨[98], 2⟩, ⟨[100], 4⟩] [98] 5 = ([], 81) := by decide
theorem x3 : bindC [⟨[98], 2⟩, ⟨[100], 4⟩] [101] 4 = ([], 2) := by decide
theorem x4 : renC [⟨[98], 2⟩, ⟨[100], 4⟩] [98] [101] = ([⟨[100], 4⟩, ⟨[101], 2⟩], 0) := by decide
theorem x5 : renC [⟨[98], 2⟩, ⟨[100], 4⟩] [98] [100] = ([], 81) := by decide
theorem x6 : renC [⟨[98], 2⟩, ⟨[100], 4⟩] [120] [100] = ([], 80) := by decide
theorem x7 : unbC [⟨[98], 2⟩, ⟨[100], 4⟩] [100] = ([⟨[98], 2⟩], 0) := by decide

def GworksC : List AV → Option (Prop × AV)
  | [] => some (True, .pv (.bool true))
  | _ => none
@[simp] theorem GworksC_eq : GworksC [] = some (True, .pv (.bool true)) := rfl
theorem c_worksC : ConT Try.prog 17 GworksC := by
  intro ys φ r h hφ
  unfold GworksC at h
  split at h
  · cases h
    refine con_of (tab_cons c_Bind (tab_cons c_Ren (tab_cons c_Unb (tab_cons c_Names (tab_cons c_SmT (tab_cons c_SmC tab_nil)))))) (by kernel_rfl) fn17 (by simp) ?_
    unfold body17
    have hd : dec rowC [[PV.str [98], .int .u64 2], [.str [100], .int .u64 4]] = some [⟨[98], 2⟩, ⟨[100], 4⟩] := dec_rowsC [⟨[98], 2⟩, ⟨[100], 4⟩]
    have hd2 : dec rowC [[PV.str [100], .int .u64 4], [.str [101], .int .u64 2]] = some [⟨[100], 4⟩, ⟨[101], 2⟩] := dec_rowsC [⟨[100], 4⟩, ⟨[101], 2⟩]
    have hs3 : dec rowS [[PV.str [98]], [.str [99]], [.str [100]]] = some [[98], [99], [100]] := dec_rowsS [[98], [99], [100]]
    have hs1 : dec rowS [[PV.str [98]]] = some [[98]] := dec_rowsS [[98]]
    have fl : ∀ l, flatRows (rowsC l) := flat_rowsC
    have fl0 : flatRows [] := flat_rowsC []
    have fs : ∀ l, flatRows (rowsS l) := flat_rowsS
    apply vwp_cut
    · simp (config := { maxSteps := 3000000 })
      exact ⟨rfl, rfl⟩
    apply vwp_cut
    · simp (config := { maxSteps := 3000000 })
      exact ⟨rfl, rfl⟩
    apply vwp_cut
    · simp (config := { maxSteps := 3000000 }) [hd, fl, x1]
      exact ⟨rfl, rfl⟩
    apply vwp_cut
    · simp (config := { maxSteps := 3000000 }) [hd, fl, fl0, x2]
      exact ⟨rfl, rfl⟩
    apply vwp_cut
    · simp (config := { maxSteps := 3000000 }) [hd, fl, fl0, x3]
      exact ⟨rfl, rfl⟩
    apply vwp_cut
    · simp (config := { maxSteps := 3000000 }) [hd, fl, x4]
      exact ⟨rfl, rfl⟩
    apply vwp_cut
    · simp (config := { maxSteps := 3000000 }) [hd, fl, fl0, x5]
      exact ⟨rfl, rfl⟩
    apply vwp_cut
    · simp (config := { maxSteps := 3000000 }) [hd, fl, fl0, x6]
      exact ⟨rfl, rfl⟩
    apply vwp_cut
    · simp (config := { maxSteps := 3000000 }) [hd, fl, x7]
      exact ⟨rfl, rfl⟩
    simp (config := { maxSteps := 3000000 }) [fl, fs, hd2, hs3, hs1]
    try exact ()
  · cases h

end Go.Proofs.Ytfpmjcdcpicmaaa.Ab
