/- What is handed in to the laws of chapter 17: catalogs, texts, numbers, bytes. -/
import Derived.Test.YtfpmjcdcpicmaaaC1
import Derived.Test.YtfpmjcdcpicmaaaFr1
import Derived.Test.YtfpmjcdcpicmaaaRows
namespace Go.Proofs.Ytfpmjcdcpicmaaa.Ab
open Go Go.RowKit R
set_option linter.unusedVariables false
set_option linter.unusedSimpArgs false
set_option maxRecDepth 100000

theorem Try.own : ownKnob Try.prog.godebug = none := by kernel_rfl
theorem Try.laidOut : laidOutB Try.prog = true := by kernel_rfl

def okE (e : En) : Prop := 0 ≤ e.i ∧ e.i < 18446744073709551616
theorem str_row {n : Nat} {row : List PV} (h : isV Try.prog (n + 1) 9 row) : ∃ l, row = [.str l] := by
  unfold isV at h
  rw [Try.underlying9] at h
  obtain ⟨l, h, _⟩ := h
  exact ⟨l, h⟩
theorem u64_row {n : Nat} {row : List PV} (h : isV Try.prog (n + 1) 24 row) : ∃ m, row = [.int .u64 m] ∧ 0 ≤ m ∧ m < 18446744073709551616 := by
  unfold isV at h
  rw [Try.underlying24] at h
  obtain ⟨m, rfl, hw⟩ := h
  refine ⟨m, rfl, ?_⟩
  have : IntKind.u64.min ≤ m ∧ m ≤ IntKind.u64.max := by simpa [Lit.wf] using hw
  simp [IntKind.min, IntKind.max, IntKind.signed, IntKind.bits] at this
  omega
theorem byte_row {n : Nat} {row : List PV} (h : isV Try.prog (n + 1) 5 row) : ∃ c : UInt8, row = [.int .u8 (c.toNat : Int)] := by
  unfold isV at h
  rw [Try.underlying5] at h
  obtain ⟨m, rfl, hw⟩ := h
  have hm : 0 ≤ m ∧ m < 256 := by
    have : IntKind.u8.min ≤ m ∧ m ≤ IntKind.u8.max := by simpa [Lit.wf] using hw
    simp [IntKind.min, IntKind.max, IntKind.signed, IntKind.bits] at this
    omega
  refine ⟨UInt8.ofNat m.toNat, ?_⟩
  have : (UInt8.ofNat m.toNat).toNat = m.toNat := by simp; omega
  rw [this]
  congr 2
  omega
theorem bytes_rows {n : Nat} : ∀ {rows : List (List PV)}, (∀ r ∈ rows, isV Try.prog (n + 1) 5 r) → ∃ l, rows = bytesRow l
  | [], _ => ⟨[], rfl⟩
  | r :: rows, h => by
    obtain ⟨c, rfl⟩ := byte_row (h r (by simp))
    obtain ⟨l, rfl⟩ := bytes_rows (rows := rows) fun r hr => h r (by simp [hr])
    exact ⟨c :: l, rfl⟩
theorem bs_row {n : Nat} {row : List PV} (h : isV Try.prog (n + 2) 54 row) : ∃ l, row = [.ro (bytesRow l)] := by
  unfold isV at h
  rw [Try.underlying54] at h
  obtain ⟨rows, rfl, _, h⟩ := h
  obtain ⟨l, rfl⟩ := bytes_rows h
  exact ⟨l, rfl⟩
theorem en_row {n : Nat} {row : List PV} (h : isV Try.prog (n + 2) 51 row) : ∃ e, row = rowC e ∧ okE e := by
  unfold isV at h
  rw [Try.underlying51] at h
  have c0 : Try.prog.cellsOf 51 = 2 := by kernel_rfl
  have c1 : Try.prog.cellsOf 24 = 1 := by kernel_rfl
  have c2 : Try.prog.cellsOf 9 = 1 := by kernel_rfl
  simp only [c0, List.mem_cons, List.not_mem_nil, or_false, forall_eq_or_imp, forall_eq, c1, c2] at h
  obtain ⟨hl, h1, h2⟩ := h
  match row, hl with
  | [a, b], _ =>
    obtain ⟨k, hk⟩ := str_row h1
    obtain ⟨n, hn, o2⟩ := u64_row h2
    simp at hk hn
    subst hk hn
    exact ⟨⟨k, n⟩, rfl, o2⟩
theorem ens_rows {n : Nat} : ∀ {rows : List (List PV)}, (∀ r ∈ rows, isV Try.prog (n + 2) 51 r) → ∃ l, rows = rowsC l ∧ ∀ e ∈ l, okE e
  | [], _ => ⟨[], rfl, fun e he => by cases he⟩
  | r :: rows, h => by
    obtain ⟨c, rfl, hc⟩ := en_row (h r (by simp))
    obtain ⟨l, rfl, hl⟩ := ens_rows (rows := rows) fun r hr => h r (by simp [hr])
    refine ⟨c :: l, rfl, fun e he => ?_⟩
    rcases List.mem_cons.1 he with rfl | he
    · exact hc
    · exact hl e he
theorem cat_row {n : Nat} {row : List PV} (h : isV Try.prog (n + 3) 23 row) : ∃ l, row = [.ro (rowsC l)] ∧ ∀ e ∈ l, okE e := by
  unfold isV at h
  rw [Try.underlying23] at h
  obtain ⟨rows, rfl, _, h⟩ := h
  obtain ⟨l, rfl, hl⟩ := ens_rows h
  exact ⟨l, rfl, hl⟩
theorem st_cat : isSt Try.prog 23 = false := by unfold isSt; rw [Try.underlying23]
theorem st_str : isSt Try.prog 9 = false := by unfold isSt; rw [Try.underlying9]
theorem st_u64 : isSt Try.prog 24 = false := by unfold isSt; rw [Try.underlying24]
theorem st_bs : isSt Try.prog 54 = false := by unfold isSt; rw [Try.underlying54]
theorem pl_cat : plainT Try.prog 5 23 = true := by kernel_rfl
theorem pl_str : plainT Try.prog 5 9 = true := by kernel_rfl
theorem pl_u64 : plainT Try.prog 5 24 = true := by kernel_rfl
theorem pl_bs : plainT Try.prog 5 54 = true := by kernel_rfl
theorem rd_cat : Try.prog.readableRec 23 = true := by kernel_rfl
theorem rd_str : Try.prog.readableRec 9 = true := by kernel_rfl
theorem rd_u64 : Try.prog.readableRec 24 = true := by kernel_rfl
theorem rd_bs : Try.prog.readableRec 54 = true := by kernel_rfl

end Go.Proofs.Ytfpmjcdcpicmaaa.Ab
