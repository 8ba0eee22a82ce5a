/- What is handed in to the laws of this seat: texts, bytes, edits. -/
import Derived.Test.YtcgllachkjnlgaaD6
import Derived.Test.YtcgllachkjnlgaaFr1
import Derived.Test.YtcgllachkjnlgaaRows
namespace Go.Proofs.Ytcgllachkjnlgaa.Ab
open Go Go.RowKit R
set_option linter.unusedVariables false
set_option linter.unusedSimpArgs false

theorem Try.own : ownKnob Try.prog.godebug = none := by kernel_rfl
theorem Try.laidOut : laidOutB Try.prog = true := by kernel_rfl

theorem str_row {n : Nat} {row : List PV} (h : isV Try.prog (n + 1) 9 row) : ∃ l, row = [.str l] := by
  unfold isV at h
  rw [Try.underlying9] at h
  obtain ⟨l, h, _⟩ := h
  exact ⟨l, h⟩
theorem int_row {n : Nat} {row : List PV} (h : isV Try.prog (n + 1) 3 row) : ∃ m, row = [.int .i64 m] := by
  unfold isV at h
  rw [Try.underlying3] at h
  obtain ⟨l, h, _⟩ := h
  exact ⟨l, h⟩
theorem byte_row {n : Nat} {row : List PV} (h : isV Try.prog (n + 1) 5 row) : ∃ c : UInt8, row = [.int .u8 (c.toNat : Int)] := by
  unfold isV at h
  rw [Try.underlying5] at h
  obtain ⟨m, rfl, hw⟩ := h
  have hm : 0 ≤ m ∧ m < 256 := by
    have : IntKind.u8.min ≤ m ∧ m ≤ IntKind.u8.max := by simpa [Lit.wf] using hw
    simp [IntKind.min, IntKind.max, IntKind.signed, IntKind.bits] at this
    omega
  refine ⟨UInt8.ofNat m.toNat, ?_⟩
  have : (UInt8.ofNat m.toNat).toNat = m.toNat := by simp; omega
  rw [this]
  congr 2
  omega
theorem bytes_rows {n : Nat} : ∀ {rows : List (List PV)}, (∀ r ∈ rows, isV Try.prog (n + 1) 5 r) → ∃ l, rows = bytesRow l
  | [], _ => ⟨[], rfl⟩
  | r :: rows, h => by
    obtain ⟨c, rfl⟩ := byte_row (h r (by simp))
    obtain ⟨l, rfl⟩ := bytes_rows (rows := rows) fun r hr => h r (by simp [hr])
    exact ⟨c :: l, rfl⟩
theorem ed_row {n : Nat} {row : List PV} (h : isV Try.prog (n + 2) 47 row) : ∃ e, row = rowE e := by
  unfold isV at h
  rw [Try.underlying47] at h
  have c0 : Try.prog.cellsOf 47 = 3 := by kernel_rfl
  have c1 : Try.prog.cellsOf 5 = 1 := by kernel_rfl
  have c2 : Try.prog.cellsOf 3 = 1 := by kernel_rfl
  have c3 : Try.prog.cellsOf 9 = 1 := by kernel_rfl
  simp only [c0, List.mem_cons, List.not_mem_nil, or_false, forall_eq_or_imp, forall_eq, c1, c2, c3] at h
  obtain ⟨hl, h1, h2, h3⟩ := h
  match row, hl with
  | [a, b, c], _ =>
    obtain ⟨k, hk⟩ := byte_row h1
    obtain ⟨n, hn⟩ := int_row h2
    obtain ⟨t, ht⟩ := str_row h3
    simp at hk hn ht
    subst hk hn ht
    exact ⟨⟨k, n, t⟩, rfl⟩
theorem eds_rows {n : Nat} : ∀ {rows : List (List PV)}, (∀ r ∈ rows, isV Try.prog (n + 2) 47 r) → ∃ l, rows = rowsE l
  | [], _ => ⟨[], rfl⟩
  | r :: rows, h => by
    obtain ⟨c, rfl⟩ := ed_row (h r (by simp))
    obtain ⟨l, rfl⟩ := eds_rows (rows := rows) fun r hr => h r (by simp [hr])
    exact ⟨c :: l, rfl⟩
theorem eds_row {n : Nat} {row : List PV} (h : isV Try.prog (n + 3) 22 row) : ∃ l, row = [.ro (rowsE l)] := by
  unfold isV at h
  rw [Try.underlying22] at h
  obtain ⟨rows, rfl, _, h⟩ := h
  obtain ⟨l, rfl⟩ := eds_rows h
  exact ⟨l, rfl⟩
theorem bs_row {n : Nat} {row : List PV} (h : isV Try.prog (n + 2) 38 row) : ∃ l, row = [.ro (bytesRow l)] := by
  unfold isV at h
  rw [Try.underlying38] at h
  obtain ⟨rows, rfl, _, h⟩ := h
  obtain ⟨l, rfl⟩ := bytes_rows h
  exact ⟨l, rfl⟩
theorem st_str : isSt Try.prog 9 = false := by unfold isSt; rw [Try.underlying9]
theorem st_eds : isSt Try.prog 22 = false := by unfold isSt; rw [Try.underlying22]
theorem st_bs : isSt Try.prog 38 = false := by unfold isSt; rw [Try.underlying38]
theorem pl_str : plainT Try.prog 5 9 = true := by kernel_rfl
theorem pl_eds : plainT Try.prog 5 22 = true := by kernel_rfl
theorem pl_bs : plainT Try.prog 5 38 = true := by kernel_rfl
theorem rd_str : Try.prog.readableRec 9 = true := by kernel_rfl
theorem rd_eds : Try.prog.readableRec 22 = true := by kernel_rfl
theorem rd_bs : Try.prog.readableRec 38 = true := by kernel_rfl

end Go.Proofs.Ytcgllachkjnlgaa.Ab
