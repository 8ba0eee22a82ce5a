/- Chapter 14: pins written: several numbers, pins; as the program and the reference do it. -/
import Derived.Test.YtfpmjcdcpicmaaaP2
namespace Go.Proofs.Ytfpmjcdcpicmaaa.Ab
open Go Go.RowKit R
set_option linter.unusedVariables false
set_option linter.unusedSimpArgs false
set_option maxHeartbeats 4000000
set_option maxRecDepth 100000

/-- A number in a row. -/
def rowN (n : Int) : List PV := [.int .u64 n]
theorem rowN_inj : ∀ a b, rowN a = rowN b → a = b := by
  intro a b h
  simpa [rowN] using h
def rowsN (l : List Int) : List (List PV) := l.map rowN
@[simp] theorem rowsN_nil : rowsN [] = [] := rfl
@[simp] theorem rowsN_length (l : List Int) : (rowsN l).length = l.length := by simp [rowsN]
theorem rowsN_append (l m : List Int) : rowsN (l ++ m) = rowsN l ++ rowsN m := by simp [rowsN]
theorem rowsN_at {l : List Int} {i : Nat} (h : i < l.length) : rowAt (rowsN l) (i : Int) = [.int .u64 l[i]] := by
  simp [rowAt, rowsN, h, rowN]
@[simp] theorem dec_rowsN (l : List Int) : dec rowN (rowsN l) = some l := dec_map rowN_inj l
theorem dec_rowsN_inv {rows : List (List PV)} {l : List Int} (h : dec rowN rows = some l) : rows = rowsN l := dec_inv h

theorem flat_bytes (l : List UInt8) : flatRows (bytesRow l) := by
  intro r hr p hp
  simp only [bytesRow, List.mem_map] at hr
  obtain ⟨c, _, rfl⟩ := hr
  simp only [List.mem_singleton] at hp
  subst hp; rfl
theorem flat_rowsN (l : List Int) : flatRows (rowsN l) := by
  intro r hr p hp
  simp only [rowsN, List.mem_map] at hr
  obtain ⟨c, _, rfl⟩ := hr
  simp only [rowN, List.mem_singleton] at hp
  subst hp; rfl
def okN (n : Int) : Prop := 0 ≤ n ∧ n ≤ 18446744073709551615
def allL (l : List Int) : List UInt8 := l.flatMap vputP
theorem vputP_len {n : Int} (h : okN n) : (vputP n).length ≤ 10 := by
  obtain ⟨h1, h2⟩ := h
  unfold vputP
  exact vput_le 9 _ (by omega)
theorem allL_len : ∀ {l : List Int}, (∀ n ∈ l, okN n) → (allL l).length ≤ 10 * l.length
  | [], _ => by simp [allL]
  | n :: l, h => by
    have h1 := vputP_len (h n (by simp))
    have h2 := allL_len (l := l) fun m hm => h m (by simp [hm])
    unfold allL at h2 ⊢
    simp only [List.flatMap_cons, List.length_append, List.length_cons]
    omega
theorem allL_snoc (l : List Int) (n : Int) : allL (l ++ [n]) = allL l ++ vputP n := by simp [allL]

noncomputable def GAll : List AV → Option (Prop × AV)
  | [.pv (.ro a)] => (dec rowN a).map fun l => (l.length ≤ 1000000 ∧ (∀ n ∈ l, okN n), .fr 5 (bytesRow (allL l)))
  | _ => none
@[simp] theorem GAll_eq (a : List (List PV)) : GAll [.pv (.ro a)] = (dec rowN a).map fun l => (l.length ≤ 1000000 ∧ (∀ n ∈ l, okN n), .fr 5 (bytesRow (allL l))) := rfl

theorem c_All : ConT Try.prog 145 GAll := by
  intro ys φ r h hφ
  unfold GAll at h
  split at h
  · rename_i ra
    obtain ⟨a, ha, h⟩ := Option.map_eq_some_iff.1 h
    cases h
    cases dec_rowsN_inv ha
    obtain ⟨hl, hn⟩ := hφ
    refine con_of (tab_cons c_put tab_nil) (by kernel_rfl) fn145 (by simp) ?_
    unfold body145
    simp (config := { maxSteps := 3000000 })
    refine vwp_loop (fun i : Nat => i ≤ a.length) (fun i => ⟨[(2, .own 2), (5, .pv (.ro (rowsN a))), (6, .pv (.int .i64 a.length)), (7, .pv (.int .i64 i))], [(2, .arr 5 (bytesRow (allL (a.take i))))]⟩) (fun i => a.length - i) [] 0 (by simp) ?_ ?_
    · simp [allL]
    · rintro i hi
      have w2 : IntKind.i64.wrap ((i : Int) + 1) = (i : Int) + 1 := wrap_i64 (by omega)
      by_cases hlt : i < a.length
      · have r1 := rowsN_at hlt
        have ho := hn _ (List.getElem_mem hlt)
        have h1 := vputP_len ho
        have h2 := allL_len (l := a.take i) fun n h => hn n (List.mem_of_mem_take h)
        rw [List.length_take] at h2
        obtain ⟨o1, o2⟩ := ho
        simp (config := { maxSteps := 3000000 }) [w2, hlt, r1, maxLen_eq, o1, o2]
        refine ⟨⟨by omega, by omega, bytesRow_one _⟩, i + 1, by omega, ⟨by omega, ?_⟩, by omega⟩
        rw [List.take_succ_eq_append_getElem hlt, allL_snoc, bytesRow_append]
      · simp (config := { maxSteps := 3000000 }) [hlt]
        rw [List.take_of_length_le (by omega)]
  · cases h

theorem c_rAll : ConT Try.prog 146 GAll := by
  intro ys φ r h hφ
  unfold GAll at h
  split at h
  · rename_i ra
    obtain ⟨a, ha, h⟩ := Option.map_eq_some_iff.1 h
    cases h
    cases dec_rowsN_inv ha
    obtain ⟨hl, hn⟩ := hφ
    refine con_of (tab_cons c_rput tab_nil) (by kernel_rfl) fn146 (by simp) ?_
    unfold body146
    simp (config := { maxSteps := 3000000 })
    refine vwp_loop (fun i : Nat => i ≤ a.length) (fun i => ⟨[(0, .pv (.ro (rowsN a))), (3, .own 3), (4, .pv (.int .i64 i))], [(3, .arr 5 (bytesRow (allL (a.take i))))]⟩) (fun i => a.length - i) [] 0 (by simp) ?_ ?_
    · simp [allL]
    · rintro i hi
      have w2 : IntKind.i64.wrap ((i : Int) + 1) = (i : Int) + 1 := wrap_i64 (by omega)
      by_cases hlt : i < a.length
      · have r1 := rowsN_at hlt
        have ho := hn _ (List.getElem_mem hlt)
        have h1 := vputP_len ho
        have h2 := allL_len (l := a.take i) fun n h => hn n (List.mem_of_mem_take h)
        rw [List.length_take] at h2
        obtain ⟨o1, o2⟩ := ho
        simp (config := { maxSteps := 3000000 }) [w2, hlt, r1, maxLen_eq, o1, o2]
        refine ⟨⟨by omega, by omega, bytesRow_one _⟩, i + 1, by omega, ⟨by omega, ?_⟩, by omega⟩
        rw [List.take_succ_eq_append_getElem hlt, allL_snoc, bytesRow_append]
      · simp (config := { maxSteps := 3000000 }) [hlt]
        rw [List.take_of_length_le (by omega)]
  · cases h

/-! ### Pins -/

def okP' (e : Pn) : Prop := okN e.i ∧ okN e.v ∧ okN e.u
def pinB (e : Pn) : List UInt8 := vputP e.i ++ (vputP e.v ++ vputP e.u)
def pinsB (l : List Pn) : List UInt8 := l.flatMap pinB
def putPs (l : List Pn) : List UInt8 := vputP l.length ++ pinsB l
theorem pinB_all (e : Pn) : allL [e.i, e.v, e.u] = pinB e := by simp [allL, pinB]
theorem pinB_len {e : Pn} (h : okP' e) : (pinB e).length ≤ 30 := by
  have h1 := vputP_len h.1
  have h2 := vputP_len h.2.1
  have h3 := vputP_len h.2.2
  simp [pinB]; omega
theorem pinsB_len : ∀ {l : List Pn}, (∀ n ∈ l, okP' n) → (pinsB l).length ≤ 30 * l.length
  | [], _ => by simp [pinsB]
  | n :: l, h => by
    have h1 := pinB_len (h n (by simp))
    have h2 := pinsB_len (l := l) fun m hm => h m (by simp [hm])
    unfold pinsB at h2 ⊢
    simp only [List.flatMap_cons, List.length_append, List.length_cons]
    omega
theorem pinsB_snoc (l : List Pn) (n : Pn) : pinsB (l ++ [n]) = pinsB l ++ pinB n := by simp [pinsB]
theorem dec_three (a b c : Int) : dec rowN [[.int .u64 a], [.int .u64 b], [.int .u64 c]] = some [a, b, c] := dec_rowsN [a, b, c]

noncomputable def GpPut : List AV → Option (Prop × AV)
  | [.agg [.pv (.ro a)]] => (dec rowP a).map fun l => (l.length ≤ 1000000 ∧ (∀ n ∈ l, okP' n), .fr 5 (bytesRow (putPs l)))
  | _ => none
@[simp] theorem GpPut_eq (a : List (List PV)) : GpPut [.agg [.pv (.ro a)]] = (dec rowP a).map fun l => (l.length ≤ 1000000 ∧ (∀ n ∈ l, okP' n), .fr 5 (bytesRow (putPs l))) := rfl
theorem c_pPut : ConT Try.prog 92 GpPut := by
  intro ys φ r h hφ
  unfold GpPut at h
  split at h
  · rename_i ra
    obtain ⟨a, ha, h⟩ := Option.map_eq_some_iff.1 h
    cases h
    cases dec_rowsP_inv ha
    obtain ⟨hl, hn⟩ := hφ
    refine con_of (tab_cons c_put (tab_cons c_All tab_nil)) (by kernel_rfl) fn92 (by simp) ?_
    unfold body92
    have wl : IntKind.u64.wrap (a.length : Int) = (a.length : Int) := wrap_u64 (by omega)
    have l0 : (0 : Int) ≤ (a.length : Int) := by omega
    have l1 : (a.length : Int) ≤ 18446744073709551615 := by omega
    have hv := vputP_len (n := (a.length : Int)) ⟨by omega, by omega⟩
    simp (config := { maxSteps := 3000000 }) [wl, l0, l1]
    refine vwp_loop (fun i : Nat => i ≤ a.length) (fun i => ⟨[(1, .ptr 1 0), (3, .own 10), (12, .pv (.ro (rowsP a))), (13, .pv (.int .i64 a.length)), (14, .pv (.int .i64 i))], [(1, .box [.pv (.ro (rowsP a))]), (10, .arr 5 (bytesRow (vputP a.length ++ pinsB (a.take i))))]⟩) (fun i => a.length - i) [] 0 (by simp) ?_ ?_
    · simp [pinsB]
    · rintro i hi
      have w2 : IntKind.i64.wrap ((i : Int) + 1) = (i : Int) + 1 := wrap_i64 (by omega)
      by_cases hlt : i < a.length
      · have r1 := rowsP_at hlt
        have ho := hn _ (List.getElem_mem hlt)
        have h1 := pinB_len ho
        have h2 := pinsB_len (l := a.take i) fun n h => hn n (List.mem_of_mem_take h)
        rw [List.length_take] at h2
        obtain ⟨o1, o2, o3⟩ := ho
        simp (config := { maxSteps := 3000000 }) [w2, hlt, r1, maxLen_eq, o1, o2, o3, dec_three, pinB_all]
        refine ⟨flat_bytes _, ⟨by omega, by omega, bytesRow_one _⟩, i + 1, by omega, ⟨by omega, ?_⟩, by omega⟩
        rw [List.take_succ_eq_append_getElem hlt, pinsB_snoc, ← List.append_assoc, bytesRow_append (vputP _ ++ _)]
      · simp (config := { maxSteps := 3000000 }) [hlt]
        rw [List.take_of_length_le (by omega)]
        rfl
  · cases h

noncomputable def GrPut : List AV → Option (Prop × AV)
  | [.pv (.ro a)] => (dec rowP a).map fun l => (l.length ≤ 1000000 ∧ (∀ n ∈ l, okP' n), .fr 5 (bytesRow (putPs l)))
  | _ => none
@[simp] theorem GrPut_eq (a : List (List PV)) : GrPut [.pv (.ro a)] = (dec rowP a).map fun l => (l.length ≤ 1000000 ∧ (∀ n ∈ l, okP' n), .fr 5 (bytesRow (putPs l))) := rfl
theorem c_rPut : ConT Try.prog 93 GrPut := by
  intro ys φ r h hφ
  unfold GrPut at h
  split at h
  · rename_i ra
    obtain ⟨a, ha, h⟩ := Option.map_eq_some_iff.1 h
    cases h
    cases dec_rowsP_inv ha
    obtain ⟨hl, hn⟩ := hφ
    refine con_of (tab_cons c_rput (tab_cons c_rAll tab_nil)) (by kernel_rfl) fn93 (by simp) ?_
    unfold body93
    have wl : IntKind.u64.wrap (a.length : Int) = (a.length : Int) := wrap_u64 (by omega)
    have l0 : (0 : Int) ≤ (a.length : Int) := by omega
    have l1 : (a.length : Int) ≤ 18446744073709551615 := by omega
    have hv := vputP_len (n := (a.length : Int)) ⟨by omega, by omega⟩
    simp (config := { maxSteps := 3000000 }) [wl, l0, l1]
    refine vwp_loop (fun i : Nat => i ≤ a.length) (fun i => ⟨[(0, .pv (.ro (rowsP a))), (3, .own 8), (4, .pv (.int .i64 i))], [(8, .arr 5 (bytesRow (vputP a.length ++ pinsB (a.take i))))]⟩) (fun i => a.length - i) [] 0 (by simp) ?_ ?_
    · simp [pinsB]
    · rintro i hi
      have w2 : IntKind.i64.wrap ((i : Int) + 1) = (i : Int) + 1 := wrap_i64 (by omega)
      by_cases hlt : i < a.length
      · have r1 := rowsP_at hlt
        have ho := hn _ (List.getElem_mem hlt)
        have h1 := pinB_len ho
        have h2 := pinsB_len (l := a.take i) fun n h => hn n (List.mem_of_mem_take h)
        rw [List.length_take] at h2
        obtain ⟨o1, o2, o3⟩ := ho
        simp (config := { maxSteps := 3000000 }) [w2, hlt, r1, maxLen_eq, o1, o2, o3, dec_three, pinB_all]
        refine ⟨flat_bytes _, ⟨by omega, by omega, bytesRow_one _⟩, i + 1, by omega, ⟨by omega, ?_⟩, by omega⟩
        rw [List.take_succ_eq_append_getElem hlt, pinsB_snoc, ← List.append_assoc, bytesRow_append (vputP _ ++ _)]
      · simp (config := { maxSteps := 3000000 }) [hlt]
        rw [List.take_of_length_le (by omega)]
        rfl
  · cases h

end Go.Proofs.Ytfpmjcdcpicmaaa.Ab
