/- What is handed in to the laws of chapter 8: rows of calls, texts, numbers. -/
import Derived.Test.YthblkhafehanfaaR9
import Derived.Test.YthblkhafehanfaaFr1
import Derived.Test.YthblkhafehanfaaRows
namespace Go.Proofs.Ythblkhafehanfaa.Ab
open Go Go.RowKit R
set_option linter.unusedVariables false
set_option linter.unusedSimpArgs false
set_option maxRecDepth 100000

theorem Try.own : ownKnob Try.prog.godebug = none := by kernel_rfl
theorem Try.laidOut : laidOutB Try.prog = true := by kernel_rfl

theorem int_row {n : Nat} {row : List PV} (h : isV Try.prog (n + 1) 3 row) : ∃ m, row = [.int .i64 m] := by
  unfold isV at h
  rw [Try.underlying3] at h
  obtain ⟨m, rfl, hw⟩ := h
  exact ⟨m, rfl⟩
theorem str_row {n : Nat} {row : List PV} (h : isV Try.prog (n + 1) 9 row) : ∃ l, row = [.str l] := by
  unfold isV at h
  rw [Try.underlying9] at h
  obtain ⟨l, h, _⟩ := h
  exact ⟨l, h⟩
theorem act_row {n : Nat} {row : List PV} (h : isV Try.prog (n + 2) 33 row) : ∃ e, row = rowQ e := by
  unfold isV at h
  rw [Try.underlying33] at h
  have c0 : Try.prog.cellsOf 33 = 3 := by kernel_rfl
  have c1 : Try.prog.cellsOf 3 = 1 := by kernel_rfl
  have c2 : Try.prog.cellsOf 9 = 1 := by kernel_rfl
  simp only [c0, List.mem_cons, List.not_mem_nil, or_false, forall_eq_or_imp, forall_eq, c1, c2] at h
  obtain ⟨hl, h1, h2, h3⟩ := h
  match row, hl with
  | [a, b, c], _ =>
    obtain ⟨d, hd⟩ := int_row h1
    obtain ⟨s, hs⟩ := str_row h2
    obtain ⟨k, hk⟩ := int_row h3
    simp at hd hs hk
    subst hd hs hk
    exact ⟨⟨d, s, k⟩, rfl⟩
theorem acts_rows {n : Nat} : ∀ {rows : List (List PV)}, (∀ r ∈ rows, isV Try.prog (n + 2) 33 r) → ∃ l, rows = rowsQ l
  | [], _ => ⟨[], rfl⟩
  | r :: rows, h => by
    obtain ⟨c, rfl⟩ := act_row (h r (by simp))
    obtain ⟨l, rfl⟩ := acts_rows (rows := rows) fun r hr => h r (by simp [hr])
    exact ⟨c :: l, rfl⟩
theorem acts_row {n : Nat} {row : List PV} (h : isV Try.prog (n + 3) 22 row) : ∃ l, row = [.ro (rowsQ l)] ∧ l.length ≤ maxLen := by
  unfold isV at h
  rw [Try.underlying22] at h
  obtain ⟨rows, rfl, hm, h⟩ := h
  obtain ⟨l, rfl⟩ := acts_rows h
  exact ⟨l, rfl, by simpa using hm⟩
theorem st_int : isSt Try.prog 3 = false := by unfold isSt; rw [Try.underlying3]
theorem st_str : isSt Try.prog 9 = false := by unfold isSt; rw [Try.underlying9]
theorem st_acts : isSt Try.prog 22 = false := by unfold isSt; rw [Try.underlying22]
theorem pl_int : plainT Try.prog 5 3 = true := by kernel_rfl
theorem pl_str : plainT Try.prog 5 9 = true := by kernel_rfl
theorem pl_acts : plainT Try.prog 5 22 = true := by kernel_rfl
theorem rd_int : Try.prog.readableRec 3 = true := by kernel_rfl
theorem rd_str : Try.prog.readableRec 9 = true := by kernel_rfl
theorem rd_acts : Try.prog.readableRec 22 = true := by kernel_rfl

end Go.Proofs.Ythblkhafehanfaa.Ab
