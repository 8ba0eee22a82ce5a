/- Few edits; the reference's edits. -/
import Derived.Test.YtcgllachkjnlgaaD6
namespace Go.Proofs.Ytcgllachkjnlgaa.Ab
open Go Go.RowKit R
set_option linter.unusedVariables false
set_option maxHeartbeats 4000000
set_option maxRecDepth 100000

def few (l : List Ed) : Bool := decide (l.length ≤ 30) && l.all fun e => decide (e.t.length ≤ 200)

noncomputable def Gfew : List AV → Option (Prop × AV)
  | [.pv (.ro a)] => (dec rowE a).map fun l => (True, .pv (.bool (few l)))
  | _ => none
@[simp] theorem Gfew_eq (a : List (List PV)) : Gfew [.pv (.ro a)] = (dec rowE a).map fun l => (True, .pv (.bool (few l))) := rfl

theorem c_few : ConT Try.prog 8 Gfew := by
  intro ys φ r h hφ
  unfold Gfew at h
  split at h
  · rename_i ra
    obtain ⟨a, ha, h⟩ := Option.map_eq_some_iff.1 h
    cases h
    cases dec_rowsE_inv ha
    refine con_of tab_nil (by kernel_rfl) fn8 (by simp) ?_
    unfold body8
    simp (config := { maxSteps := 3000000 })
    refine vwp_loop (fun i : Nat => i ≤ a.length ∧ i ≤ 31 ∧ ∀ e ∈ a.take i, e.t.length ≤ 200) (fun i => ⟨[(0, .pv (.ro (rowsE a))), (3, .pv (.int .i64 i))], []⟩) (fun i => a.length - i) [] 0 (by simp) ?_ ?_
    · simp
    · rintro i ⟨hi, hi2, ht⟩
      have w2 : IntKind.i64.wrap ((i : Int) + 1) = (i : Int) + 1 := wrap_i64 (by omega)
      by_cases hlt : i < a.length ∧ i < 31
      · obtain ⟨hl1, hl2⟩ := hlt
        have hl2' : (i : Int) < 31 := by omega
        have r1 := rowsE_at hl1
        simp (config := { maxSteps := 3000000 }) [w2, hl1, hl2', r1]
        refine ⟨fun h200 => ?_, fun h200 => ⟨i + 1, ⟨by omega, by omega, ?_⟩, by omega, by omega⟩⟩
        · unfold few
          simp only [Bool.and_eq_false_iff, List.all_eq_false]
          exact .inr ⟨a[i], List.getElem_mem hl1, by simp; omega⟩
        · intro e he
          rw [List.take_succ_eq_append_getElem hl1, List.mem_append] at he
          rcases he with he | he
          · exact ht e he
          · simp only [List.mem_singleton] at he; subst he; omega
      · have hd : (decide ((i : Int) < (a.length : Int)) && decide ((i : Int) < 31)) = false := by
          simp; omega
        simp (config := { maxSteps := 3000000 })
        refine ⟨fun h1 h2 => absurd ⟨h1, by omega⟩ hlt, fun _ => ?_⟩
        unfold few
        by_cases hle : a.length ≤ 30
        · have : i = a.length := by omega
          subst this
          rw [List.take_length] at ht
          have : a.all (fun e => decide (e.t.length ≤ 200)) = true := by simpa using ht
          rw [this, Bool.and_true]
          congr 1
          apply propext; omega
        · have h1 : decide (a.length ≤ 30) = false := by simpa using hle
          rw [h1, Bool.false_and]
          simp; omega
  · cases h

noncomputable def Grefs : List AV → Option (Prop × AV)
  | [.pv (.ro a)] => (dec rowE a).map fun l => (l.length ≤ 1000000, .fr 61 (rowsE l))
  | _ => none
@[simp] theorem Grefs_eq (a : List (List PV)) : Grefs [.pv (.ro a)] = (dec rowE a).map fun l => (l.length ≤ 1000000, .fr 61 (rowsE l)) := rfl

theorem c_refs : ConT Try.prog 10 Grefs := by
  intro ys φ r h hφ
  unfold Grefs at h
  split at h
  · rename_i ra
    obtain ⟨a, ha, h⟩ := Option.map_eq_some_iff.1 h
    cases h
    cases dec_rowsE_inv ha
    refine con_of tab_nil (by kernel_rfl) fn10 (by simp) ?_
    unfold body10
    simp (config := { maxSteps := 3000000 })
    refine vwp_loop (fun i : Nat => i ≤ a.length) (fun i => ⟨[(0, .pv (.ro (rowsE a))), (3, .own 3), (4, .pv (.int .i64 i))], [(3, .arr 61 (rowsE (a.take i)))]⟩) (fun i => a.length - i) [] 0 (by simp) ?_ ?_
    · simp
    · rintro i hi
      have w2 : IntKind.i64.wrap ((i : Int) + 1) = (i : Int) + 1 := wrap_i64 (by omega)
      by_cases hlt : i < a.length
      · have r1 := rowsE_at hlt
        simp (config := { maxSteps := 3000000 }) [w2, hlt, r1, maxLen_eq]
        refine ⟨by omega, i + 1, by omega, ⟨by omega, ?_⟩, by omega⟩
        rw [List.take_succ_eq_append_getElem hlt, rowsE_append]; rfl
      · simp (config := { maxSteps := 3000000 }) [hlt]
        rw [List.take_of_length_le (by omega)]
  · cases h

end Go.Proofs.Ytcgllachkjnlgaa.Ab
/- An edit looked at: whether it may be, and how many bytes it is. -/
namespace Go.Proofs.Ytcgllachkjnlgaa.Ab
open Go Go.RowKit R
set_option linter.unusedVariables false
set_option maxHeartbeats 4000000
set_option maxRecDepth 100000

/-- May an edit be? -/
def rightI (k n : Int) (t : List UInt8) : Bool :=
  if k = 2 then decide (n = 0) && decide (0 < t.length) else (decide (k = 1) || decide (k = 3)) && decide (1 ≤ n) && decide (n ≤ 2147483647) && decide (t.length = 0)

noncomputable def Gright : List AV → Option (Prop × AV)
  | [.agg [.pv (.int .u8 k), .pv (.int .i64 n), .pv (.str t)]] => some (True, .pv (.bool (rightI k n t)))
  | _ => none
@[simp] theorem Gright_eq (k n : Int) (t : List UInt8) : Gright [.agg [.pv (.int .u8 k), .pv (.int .i64 n), .pv (.str t)]] = some (True, .pv (.bool (rightI k n t))) := rfl

theorem c_eright : ConT Try.prog 32 Gright := by
  intro ys φ r h hφ
  unfold Gright at h
  split at h
  · rename_i k n t
    cases h
    refine con_of tab_nil (by kernel_rfl) fn32 (by simp) ?_
    unfold body32
    simp (config := { maxSteps := 3000000 })
    have e1 : (0 < n) = (1 ≤ n) := propext (by omega)
    have e2 : decide (0 < t.length) = !decide (t = []) := by cases t <;> simp
    by_cases h1 : k = 1
    · subst h1; simp [rightI, e1]
    · by_cases h2 : k = 2
      · subst h2; simp [rightI, e2]
      · by_cases h3 : k = 3
        · subst h3; simp [rightI, e1]
        · simp [rightI, h1, h2, h3]
  · cases h

theorem c_rright : ConT Try.prog 35 Gright := by
  intro ys φ r h hφ
  unfold Gright at h
  split at h
  · rename_i k n t
    cases h
    refine con_of tab_nil (by kernel_rfl) fn35 (by simp) ?_
    unfold body35
    simp (config := { maxSteps := 3000000 })
    by_cases h2 : k = 2
    · subst h2; simp [rightI]
    · simp [rightI, h2]
  · cases h

def sizesI (k n : Int) (t : List UInt8) : Int × Int :=
  if rightI k n t = false then (0, 0) else if k = 2 then (0, t.length) else if k = 3 then (n, 0) else (n, n)

noncomputable def Gsizes : List AV → Option (Prop × AV)
  | [.agg [.pv (.int .u8 k), .pv (.int .i64 n), .pv (.str t)]] => some (True, .tup [.pv (.int .i64 (sizesI k n t).1), .pv (.int .i64 (sizesI k n t).2)])
  | _ => none
@[simp] theorem Gsizes_eq (k n : Int) (t : List UInt8) : Gsizes [.agg [.pv (.int .u8 k), .pv (.int .i64 n), .pv (.str t)]] = some (True, .tup [.pv (.int .i64 (sizesI k n t).1), .pv (.int .i64 (sizesI k n t).2)]) := rfl

theorem c_esizes : ConT Try.prog 31 Gsizes := by
  intro ys φ r h hφ
  unfold Gsizes at h
  split at h
  · rename_i k n t
    cases h
    refine con_of (tab_cons c_eright tab_nil) (by kernel_rfl) fn31 (by simp) ?_
    unfold body31
    simp (config := { maxSteps := 3000000 })
    unfold sizesI
    refine ⟨fun h => ?_, fun h => ⟨fun h2 => ?_, fun h2 => ⟨fun h3 => ?_, fun h3 => ?_⟩⟩⟩ <;> (try subst h2) <;> (try subst h3) <;> simp [*]
  · cases h

noncomputable def Gwrong : List AV → Option (Prop × AV)
  | [.agg [.pv (.int .u8 k), .pv (.int .i64 n), .pv (.str t)]] => some (True, .pv (.bool (!rightI k n t)))
  | _ => none
@[simp] theorem Gwrong_eq (k n : Int) (t : List UInt8) : Gwrong [.agg [.pv (.int .u8 k), .pv (.int .i64 n), .pv (.str t)]] = some (True, .pv (.bool (!rightI k n t))) := rfl
theorem c_wrong1 : ConT Try.prog 43 Gwrong := by
  intro ys φ r h hφ
  unfold Gwrong at h
  split at h
  · rename_i k n t
    cases h
    refine con_of (tab_cons c_eright tab_nil) (by kernel_rfl) fn43 (by simp) ?_
    unfold body43
    simp (config := { maxSteps := 3000000 })
  · cases h
theorem c_wrong3 : ConT Try.prog 49 Gwrong := by
  intro ys φ r h hφ
  unfold Gwrong at h
  split at h
  · rename_i k n t
    cases h
    refine con_of (tab_cons c_eright tab_nil) (by kernel_rfl) fn49 (by simp) ?_
    unfold body49
    simp (config := { maxSteps := 3000000 })
  · cases h

noncomputable def Gretain : List AV → Option (Prop × AV)
  | [.pv (.int .i64 n)] => some (True, .agg [.pv (.int .u8 1), .pv (.int .i64 n), .pv (.str [])])
  | _ => none
@[simp] theorem Gretain_eq (n : Int) : Gretain [.pv (.int .i64 n)] = some (True, .agg [.pv (.int .u8 1), .pv (.int .i64 n), .pv (.str [])]) := rfl
theorem c_retain : ConT Try.prog 28 Gretain := by
  intro ys φ r h hφ
  unfold Gretain at h
  split at h
  · cases h
    refine con_of tab_nil (by kernel_rfl) fn28 (by simp) ?_
    unfold body28
    simp (config := { maxSteps := 3000000 })
  · cases h
noncomputable def Gdrop : List AV → Option (Prop × AV)
  | [.pv (.int .i64 n)] => some (True, .agg [.pv (.int .u8 3), .pv (.int .i64 n), .pv (.str [])])
  | _ => none
@[simp] theorem Gdrop_eq (n : Int) : Gdrop [.pv (.int .i64 n)] = some (True, .agg [.pv (.int .u8 3), .pv (.int .i64 n), .pv (.str [])]) := rfl
theorem c_drop : ConT Try.prog 30 Gdrop := by
  intro ys φ r h hφ
  unfold Gdrop at h
  split at h
  · cases h
    refine con_of tab_nil (by kernel_rfl) fn30 (by simp) ?_
    unfold body30
    simp (config := { maxSteps := 3000000 })
  · cases h
noncomputable def Ginsert : List AV → Option (Prop × AV)
  | [.pv (.str t)] => some (True, .agg [.pv (.int .u8 2), .pv (.int .i64 0), .pv (.str t)])
  | _ => none
@[simp] theorem Ginsert_eq (t : List UInt8) : Ginsert [.pv (.str t)] = some (True, .agg [.pv (.int .u8 2), .pv (.int .i64 0), .pv (.str t)]) := rfl
theorem c_insert : ConT Try.prog 29 Ginsert := by
  intro ys φ r h hφ
  unfold Ginsert at h
  split at h
  · cases h
    refine con_of tab_nil (by kernel_rfl) fn29 (by simp) ?_
    unfold body29
    simp (config := { maxSteps := 3000000 })
  · cases h

end Go.Proofs.Ytcgllachkjnlgaa.Ab
/- Edits looked at: whether all may be. -/
namespace Go.Proofs.Ytcgllachkjnlgaa.Ab
open Go Go.RowKit R
set_option linter.unusedVariables false
set_option maxHeartbeats 4000000
set_option maxRecDepth 100000

def rightE (e : Ed) : Bool := rightI e.k.toNat e.n e.t
theorem rightE_eq (e : Ed) : rightI e.k.toNat e.n e.t = rightE e := rfl
def rightL (l : List Ed) : Bool := l.all rightE
def wrongIdx (l : List Ed) : Int := if l.findIdx (fun e => !rightE e) < l.length then (l.findIdx (fun e => !rightE e) : Nat) else -1
theorem wrongIdx_at {l : List Ed} {i : Nat} (hi : i < l.length) (h : rightE l[i] = false) (ha : ∀ e ∈ l.take i, rightE e = true) : wrongIdx l = (i : Int) := by
  have : l.findIdx (fun e => !rightE e) = i := by
    rw [List.findIdx_eq hi]
    refine ⟨by simp [h], fun j hj => ?_⟩
    have := ha l[j] (by rw [List.mem_take_iff_getElem]; exact ⟨j, by omega, rfl⟩)
    simp [this]
  unfold wrongIdx
  rw [this, if_pos hi]
theorem wrongIdx_none {l : List Ed} (ha : rightL l = true) : wrongIdx l = -1 := by
  have : l.findIdx (fun e => !rightE e) = l.length := by
    rw [List.findIdx_eq_length]
    intro e he
    unfold rightL at ha
    rw [List.all_eq_true] at ha
    simp [ha e he]
  unfold wrongIdx
  rw [this, if_neg (by omega)]
theorem wrongIdx_neg (l : List Ed) : (0 ≤ wrongIdx l) = (rightL l = false) := by
  apply propext
  by_cases h : rightL l = true
  · rw [wrongIdx_none h]; simp [h]
  · have h' : rightL l = false := by simpa using h
    unfold rightL at h'
    rw [List.all_eq_false] at h'
    obtain ⟨e, he, hr⟩ := h'
    have : l.findIdx (fun e => !rightE e) < l.length := by
      rw [List.findIdx_lt_length]
      exact ⟨e, he, by simpa using hr⟩
    unfold wrongIdx
    rw [if_pos this]
    simp [h]

noncomputable def Gindex : List AV → Option (Prop × AV)
  | [.pv (.ro a), .clo f []] => if f = 43 ∨ f = 49 then (dec rowE a).map fun l => (l.length ≤ 1000000000, .pv (.int .i64 (wrongIdx l))) else none
  | _ => none
@[simp] theorem Gindex_eq (a : List (List PV)) (f : FuncId) : Gindex [.pv (.ro a), .clo f []] = if f = 43 ∨ f = 49 then (dec rowE a).map fun l => (l.length ≤ 1000000000, .pv (.int .i64 (wrongIdx l))) else none := rfl

theorem isfn1 : isFn Try.prog 43 = true := by kernel_rfl
theorem isfn3 : isFn Try.prog 49 = true := by kernel_rfl

theorem c_index : ConT Try.prog 55 Gindex := by
  intro ys φ r h hφ
  unfold Gindex at h
  split at h
  · rename_i ra f
    have hall : ∀ f, (f = 43 ∨ f = 49) → ∀ a : List Ed, a.length ≤ 1000000000 → Con Try.prog 55 [] [.pv (.ro (rowsE a)), .clo f []] [] (.pv (.int .i64 (wrongIdx a))) := by
      intro f hf a hφ
      have hfn : isFn Try.prog f = true := by rcases hf with rfl | rfl; exact isfn1; exact isfn3
      refine con_of (tab_cons c_wrong1 (tab_cons c_wrong3 tab_nil)) (by kernel_rfl) fn55 (by simp) ?_
      unfold body55
      simp (config := { maxSteps := 3000000 })
      refine vwp_loop (fun i : Nat => i ≤ a.length ∧ ∀ e ∈ a.take i, rightE e = true) (fun i => ⟨[(0, .pv (.ro (rowsE a))), (1, .clo f []), (7, .pv (.int .i64 a.length)), (8, .pv (.int .i64 i))], []⟩) (fun i => a.length - i) [] 0 (by simp) ?_ ?_
      · simp
      · rintro i ⟨hi, ht⟩
        have w2 : IntKind.i64.wrap ((i : Int) + 1) = (i : Int) + 1 := wrap_i64 (by omega)
        by_cases hlt : i < a.length
        · have r1 := rowsE_at hlt
          have hr : ∀ e ∈ a.take (i + 1), rightE e = true ∨ e = a[i] := by
            intro e he
            rw [List.take_succ_eq_append_getElem hlt, List.mem_append] at he
            rcases he with he | he
            · exact .inl (ht e he)
            · exact .inr (by simpa using he)
          rcases hf with rfl | rfl
          · simp (config := { maxSteps := 3000000 }) [w2, hlt, r1, hfn, rightE_eq]
            refine ⟨fun h => wrongIdx_at hlt h ht ▸ rfl, fun h => ⟨i + 1, ⟨by omega, fun e he => ?_⟩, by omega, by omega⟩⟩
            rcases hr e he with h1 | h1
            · exact h1
            · rw [h1]; exact h
          · simp (config := { maxSteps := 3000000 }) [w2, hlt, r1, hfn, rightE_eq]
            refine ⟨fun h => wrongIdx_at hlt h ht ▸ rfl, fun h => ⟨i + 1, ⟨by omega, fun e he => ?_⟩, by omega, by omega⟩⟩
            rcases hr e he with h1 | h1
            · exact h1
            · rw [h1]; exact h
        · simp (config := { maxSteps := 3000000 }) [hlt]
          rw [List.take_of_length_le (by omega)] at ht
          rw [wrongIdx_none (by unfold rightL; rw [List.all_eq_true]; exact ht)]
    split at h
    · rename_i hf
      obtain ⟨a, ha, h⟩ := Option.map_eq_some_iff.1 h
      cases h
      cases dec_rowsE_inv ha
      exact hall f hf a hφ
    · cases h
  · cases h

noncomputable def Gcontains : List AV → Option (Prop × AV)
  | [.pv (.ro a), .clo f []] => if f = 43 then (dec rowE a).map fun l => (l.length ≤ 1000000000, .pv (.bool (!rightL l))) else none
  | _ => none
@[simp] theorem Gcontains_eq (a : List (List PV)) (f : FuncId) : Gcontains [.pv (.ro a), .clo f []] = if f = 43 then (dec rowE a).map fun l => (l.length ≤ 1000000000, .pv (.bool (!rightL l))) else none := rfl

theorem c_contains : ConT Try.prog 42 Gcontains := by
  intro ys φ r h hφ
  unfold Gcontains at h
  split at h
  · rename_i ra f
    split at h
    · rename_i hf
      subst hf
      obtain ⟨a, ha, h⟩ := Option.map_eq_some_iff.1 h
      cases h
      cases dec_rowsE_inv ha
      refine con_of (tab_cons c_index tab_nil) (by kernel_rfl) fn42 (by simp) ?_
      unfold body42
      simp (config := { maxSteps := 3000000 }) [wrongIdx_neg]
      exact hφ
    · cases h
  · cases h

noncomputable def GRight : List AV → Option (Prop × AV)
  | [.pv (.ro a)] => (dec rowE a).map fun l => (l.length ≤ 1000000000, .pv (.bool (rightL l)))
  | _ => none
@[simp] theorem GRight_eq (a : List (List PV)) : GRight [.pv (.ro a)] = (dec rowE a).map fun l => (l.length ≤ 1000000000, .pv (.bool (rightL l))) := rfl

theorem c_right : ConT Try.prog 21 GRight := by
  intro ys φ r h hφ
  unfold GRight at h
  split at h
  · rename_i ra
    obtain ⟨a, ha, h⟩ := Option.map_eq_some_iff.1 h
    cases h
    cases dec_rowsE_inv ha
    refine con_of (tab_cons c_contains tab_nil) (by kernel_rfl) fn21 (by simp) ?_
    unfold body21
    simp (config := { maxSteps := 3000000 })
    exact hφ
  · cases h

theorem c_rRight : ConT Try.prog 22 GRight := by
  intro ys φ r h hφ
  unfold GRight at h
  split at h
  · rename_i ra
    obtain ⟨a, ha, h⟩ := Option.map_eq_some_iff.1 h
    cases h
    cases dec_rowsE_inv ha
    refine con_of (tab_cons c_rright tab_nil) (by kernel_rfl) fn22 (by simp) ?_
    unfold body22
    simp (config := { maxSteps := 3000000 })
    refine vwp_loop (fun i : Nat => i ≤ a.length ∧ ∀ e ∈ a.take i, rightE e = true) (fun i => ⟨[(0, .pv (.ro (rowsE a))), (3, .pv (.int .i64 i))], []⟩) (fun i => a.length - i) [] 0 (by simp) ?_ ?_
    · simp
    · rintro i ⟨hi, ht⟩
      have w2 : IntKind.i64.wrap ((i : Int) + 1) = (i : Int) + 1 := wrap_i64 (by omega)
      by_cases hlt : i < a.length
      · have r1 := rowsE_at hlt
        simp (config := { maxSteps := 3000000 }) [w2, hlt, r1, rightE_eq]
        refine ⟨fun h => ?_, fun h => ⟨i + 1, ⟨by omega, fun e he => ?_⟩, by omega, by omega⟩⟩
        · have : rightL a = false := by
            unfold rightL; rw [List.all_eq_false]; exact ⟨a[i], List.getElem_mem hlt, by simp [h]⟩
          simp [this]
        · rw [List.take_succ_eq_append_getElem hlt, List.mem_append] at he
          rcases he with he | he
          · exact ht e he
          · simp only [List.mem_singleton] at he; rw [he]; exact h
      · simp (config := { maxSteps := 3000000 }) [hlt]
        rw [List.take_of_length_le (by omega)] at ht
        unfold rightL; rw [List.all_eq_true]; exact ht
  · cases h

end Go.Proofs.Ytcgllachkjnlgaa.Ab
/- How many bytes edits are. -/
namespace Go.Proofs.Ytcgllachkjnlgaa.Ab
open Go Go.RowKit R
set_option linter.unusedVariables false
set_option linter.unusedSimpArgs false
set_option maxHeartbeats 4000000
set_option maxRecDepth 100000

def sizesE (e : Ed) : Int × Int := sizesI e.k.toNat e.n e.t
theorem sizesE_eq (e : Ed) : sizesI e.k.toNat e.n e.t = sizesE e := rfl
def sizesL : List Ed → Int × Int
  | [] => (0, 0)
  | e :: l => ((sizesE e).1 + (sizesL l).1, (sizesE e).2 + (sizesL l).2)
theorem sizesL_append (l m : List Ed) : sizesL (l ++ m) = ((sizesL l).1 + (sizesL m).1, (sizesL l).2 + (sizesL m).2) := by
  induction l with
  | nil => simp [sizesL]
  | cons e l ih => simp only [List.cons_append, sizesL, ih]; ext <;> simp <;> omega
theorem sizesE_bound (e : Ed) (h : e.t.length ≤ 2147483647) : 0 ≤ (sizesE e).1 ∧ (sizesE e).1 ≤ 2147483647 ∧ 0 ≤ (sizesE e).2 ∧ (sizesE e).2 ≤ 2147483647 := by
  unfold sizesE sizesI
  split
  · simp
  · rename_i hr
    have hr : rightI e.k.toNat e.n e.t = true := by simpa using hr
    unfold rightI at hr
    split
    · simp; omega
    · rename_i h2
      rw [if_neg h2] at hr
      simp only [Bool.and_eq_true, decide_eq_true_eq] at hr
      split
      · simp; omega
      · simp; omega
theorem sizesL_bound : ∀ (l : List Ed), (∀ e ∈ l, e.t.length ≤ 2147483647) → 0 ≤ (sizesL l).1 ∧ (sizesL l).1 ≤ 2147483647 * l.length ∧ 0 ≤ (sizesL l).2 ∧ (sizesL l).2 ≤ 2147483647 * l.length
  | [], _ => by simp [sizesL]
  | e :: l, h => by
    have h1 := sizesE_bound e (h e (by simp))
    have h2 := sizesL_bound l (fun x hx => h x (by simp [hx]))
    simp only [sizesL, List.length_cons]
    omega

/-- Edits of a bounded number, with texts of a bounded length. -/
def okL (l : List Ed) : Prop := l.length ≤ 10000 ∧ ∀ e ∈ l, e.t.length ≤ 2147483647

noncomputable def GSizes : List AV → Option (Prop × AV)
  | [.pv (.ro a)] => (dec rowE a).map fun l => (okL l, .tup [.pv (.int .i64 (sizesL l).1), .pv (.int .i64 (sizesL l).2)])
  | _ => none
@[simp] theorem GSizes_eq (a : List (List PV)) : GSizes [.pv (.ro a)] = (dec rowE a).map fun l => (okL l, .tup [.pv (.int .i64 (sizesL l).1), .pv (.int .i64 (sizesL l).2)]) := rfl

theorem c_sizes : ConT Try.prog 13 GSizes := by
  intro ys φ r h hφ
  unfold GSizes at h
  split at h
  · rename_i ra
    obtain ⟨a, ha, h⟩ := Option.map_eq_some_iff.1 h
    cases h
    cases dec_rowsE_inv ha
    obtain ⟨hlen, htx⟩ := hφ
    refine con_of (tab_cons c_esizes tab_nil) (by kernel_rfl) fn13 (by simp) ?_
    unfold body13
    simp (config := { maxSteps := 3000000 })
    refine vwp_loop (fun i : Nat => i ≤ a.length) (fun i => ⟨[(8, .pv (.ro (rowsE a))), (9, .pv (.int .i64 a.length)), (10, .pv (.int .i64 i)), (2, .pv (.int .i64 (sizesL (a.take i)).1)), (3, .pv (.int .i64 (sizesL (a.take i)).2))], []⟩) (fun i => a.length - i) [] 0 (by simp) ?_ ?_
    · simp [sizesL]
    · intro i hi
      have w2 : IntKind.i64.wrap ((i : Int) + 1) = (i : Int) + 1 := wrap_i64 (by omega)
      by_cases hlt : i < a.length
      · have r1 := rowsE_at hlt
        have hb := sizesL_bound (a.take i) (fun e he => htx e (List.mem_of_mem_take he))
        have hb2 := sizesE_bound a[i] (htx _ (List.getElem_mem hlt))
        have hl2 : (a.take i).length ≤ 10000 := by simp; omega
        have w3 : IntKind.i64.wrap ((sizesL (a.take i)).1 + (sizesE a[i]).1) = (sizesL (a.take i)).1 + (sizesE a[i]).1 := wrap_i64 (by omega)
        have w4 : IntKind.i64.wrap ((sizesL (a.take i)).2 + (sizesE a[i]).2) = (sizesL (a.take i)).2 + (sizesE a[i]).2 := wrap_i64 (by omega)
        simp (config := { maxSteps := 3000000 }) [w2, hlt, r1, sizesE_eq, w3, w4]
        refine ⟨i + 1, by omega, ⟨by omega, ?_, ?_⟩, by omega⟩ <;> rw [List.take_succ_eq_append_getElem hlt, sizesL_append] <;> simp [sizesL]
      · simp (config := { maxSteps := 3000000 }) [hlt]
        rw [List.take_of_length_le (by omega)]
        simp
  · cases h

theorem c_rsizes : ConT Try.prog 14 GSizes := by
  intro ys φ r h hφ
  unfold GSizes at h
  split at h
  · rename_i ra
    obtain ⟨a, ha, h⟩ := Option.map_eq_some_iff.1 h
    cases h
    cases dec_rowsE_inv ha
    obtain ⟨hlen, htx⟩ := hφ
    refine con_of (tab_cons c_rright tab_nil) (by kernel_rfl) fn14 (by simp) ?_
    unfold body14
    simp (config := { maxSteps := 3000000 })
    refine vwp_loop (fun i : Nat => i ≤ a.length) (fun i => ⟨[(0, .pv (.ro (rowsE a))), (6, .pv (.int .i64 i)), (4, .pv (.int .i64 (sizesL (a.take i)).1)), (5, .pv (.int .i64 (sizesL (a.take i)).2))], []⟩) (fun i => a.length - i) [] 0 (by simp) ?_ ?_
    · simp [sizesL]
    · intro i hi
      have w2 : IntKind.i64.wrap ((i : Int) + 1) = (i : Int) + 1 := wrap_i64 (by omega)
      by_cases hlt : i < a.length
      · have r1 := rowsE_at hlt
        have hb := sizesL_bound (a.take i) (fun e he => htx e (List.mem_of_mem_take he))
        have htl := htx _ (List.getElem_mem hlt)
        have hb2 := sizesE_bound a[i] htl
        have hl2 : (a.take i).length ≤ 10000 := by simp; omega
        have hgo : ∀ x y, sizesE a[i] = (x, y) → ∃ x' : Nat, x' ≤ a.length ∧ ((i : Int) + 1 = x' ∧ (sizesL (a.take i)).1 + x = (sizesL (a.take x')).1 ∧ (sizesL (a.take i)).2 + y = (sizesL (a.take x')).2) ∧ a.length - x' < a.length - i := by
          intro x y hxy
          refine ⟨i + 1, by omega, ⟨by omega, ?_, ?_⟩, by omega⟩ <;> rw [List.take_succ_eq_append_getElem hlt, sizesL_append] <;> simp [sizesL, hxy]
        by_cases hr : rightE a[i] = true
        · have hr' : rightI a[i].k.toNat a[i].n a[i].t = true := hr
          have hse : sizesE a[i] = if (a[i].k.toNat : Int) = 2 then (0, (a[i].t.length : Int)) else if (a[i].k.toNat : Int) = 3 then (a[i].n, 0) else (a[i].n, a[i].n) := by
            unfold sizesE sizesI; rw [if_neg (by simp [hr'])]
          unfold rightI at hr'
          by_cases h2 : (a[i].k.toNat : Int) = 2
          · rw [if_pos h2] at hr' hse
            simp only [Bool.and_eq_true, decide_eq_true_eq] at hr'
            have w4 : IntKind.i64.wrap ((sizesL (a.take i)).2 + a[i].n) = (sizesL (a.take i)).2 := by rw [hr'.1, Int.add_zero]; exact wrap_i64 (by omega)
            have w5 : IntKind.i64.wrap ((sizesL (a.take i)).2 + (a[i].t.length : Int)) = (sizesL (a.take i)).2 + (a[i].t.length : Int) := wrap_i64 (by omega)
            have hr2 : rightI 2 a[i].n a[i].t = true := by rw [← h2]; exact hr
            have := hgo _ _ hse
            simp (config := { maxSteps := 3000000 }) [w2, hlt, r1, rightE_eq, hr2, h2, w4, w5]
            simpa using this
          · rw [if_neg h2] at hr' hse
            simp only [Bool.and_eq_true, Bool.or_eq_true, decide_eq_true_eq] at hr'
            have w3 : IntKind.i64.wrap ((sizesL (a.take i)).1 + a[i].n) = (sizesL (a.take i)).1 + a[i].n := wrap_i64 (by omega)
            by_cases h3 : (a[i].k.toNat : Int) = 3
            · rw [if_pos h3] at hse
              have hr2 : rightI 3 a[i].n a[i].t = true := by rw [← h3]; exact hr
              have := hgo _ _ hse
              simp (config := { maxSteps := 3000000 }) [w2, hlt, r1, rightE_eq, hr2, h3, w3]
              simpa using this
            · rw [if_neg h3] at hse
              have w4 : IntKind.i64.wrap ((sizesL (a.take i)).2 + a[i].n) = (sizesL (a.take i)).2 + a[i].n := wrap_i64 (by omega)
              have w5 : IntKind.i64.wrap ((sizesL (a.take i)).2 + a[i].n + (a[i].t.length : Int)) = (sizesL (a.take i)).2 + a[i].n := by rw [hr'.2]; simp; exact w4
              have := hgo _ _ hse
              simp (config := { maxSteps := 3000000 }) [w2, hlt, r1, rightE_eq, hr, h2, h3, w3, w4, w5]
              simpa using this
        · have hr' : rightE a[i] = false := by simpa using hr
          have hse : sizesE a[i] = (0, 0) := by
            unfold sizesE sizesI; rw [if_pos (show rightI a[i].k.toNat a[i].n a[i].t = false from hr')]
          have := hgo _ _ hse
          simp (config := { maxSteps := 3000000 }) [w2, hlt, r1, rightE_eq, hr']
          simpa using this
      · simp (config := { maxSteps := 3000000 }) [hlt]
        rw [List.take_of_length_le (by omega)]
        simp
  · cases h

end Go.Proofs.Ytcgllachkjnlgaa.Ab
