/- What is handed in to the laws of chapter 14: pins, bytes, numbers. -/
import Derived.Test.YtfpmjcdcpicmaaaP3
import Derived.Test.YtfpmjcdcpicmaaaFr1
import Derived.Test.YtfpmjcdcpicmaaaRows
namespace Go.Proofs.Ytfpmjcdcpicmaaa.Ab
open Go Go.RowKit R
set_option linter.unusedVariables false
set_option linter.unusedSimpArgs false
set_option maxRecDepth 100000

theorem Try.own : ownKnob Try.prog.godebug = none := by kernel_rfl
theorem Try.laidOut : laidOutB Try.prog = true := by kernel_rfl

theorem int_row {n : Nat} {row : List PV} (h : isV Try.prog (n + 1) 3 row) : ∃ m, row = [.int .i64 m] ∧ -9223372036854775808 ≤ m ∧ m ≤ 9223372036854775807 := by
  unfold isV at h
  rw [Try.underlying3] at h
  obtain ⟨m, rfl, hw⟩ := h
  refine ⟨m, rfl, ?_⟩
  have : IntKind.i64.min ≤ m ∧ m ≤ IntKind.i64.max := by simpa [Lit.wf] using hw
  simp [IntKind.min, IntKind.max, IntKind.signed, IntKind.bits] at this
  exact this
theorem u64_row {n : Nat} {row : List PV} (h : isV Try.prog (n + 1) 24 row) : ∃ m, row = [.int .u64 m] ∧ okN m := by
  unfold isV at h
  rw [Try.underlying24] at h
  obtain ⟨m, rfl, hw⟩ := h
  refine ⟨m, rfl, ?_⟩
  have : IntKind.u64.min ≤ m ∧ m ≤ IntKind.u64.max := by simpa [Lit.wf] using hw
  simp [IntKind.min, IntKind.max, IntKind.signed, IntKind.bits] at this
  unfold okN
  omega
theorem byte_row {n : Nat} {row : List PV} (h : isV Try.prog (n + 1) 5 row) : ∃ c : UInt8, row = [.int .u8 (c.toNat : Int)] := by
  unfold isV at h
  rw [Try.underlying5] at h
  obtain ⟨m, rfl, hw⟩ := h
  have hm : 0 ≤ m ∧ m < 256 := by
    have : IntKind.u8.min ≤ m ∧ m ≤ IntKind.u8.max := by simpa [Lit.wf] using hw
    simp [IntKind.min, IntKind.max, IntKind.signed, IntKind.bits] at this
    omega
  refine ⟨UInt8.ofNat m.toNat, ?_⟩
  have : (UInt8.ofNat m.toNat).toNat = m.toNat := by simp; omega
  rw [this]
  congr 2
  omega
theorem bytes_rows {n : Nat} : ∀ {rows : List (List PV)}, (∀ r ∈ rows, isV Try.prog (n + 1) 5 r) → ∃ l, rows = bytesRow l
  | [], _ => ⟨[], rfl⟩
  | r :: rows, h => by
    obtain ⟨c, rfl⟩ := byte_row (h r (by simp))
    obtain ⟨l, rfl⟩ := bytes_rows (rows := rows) fun r hr => h r (by simp [hr])
    exact ⟨c :: l, rfl⟩
theorem bs_row {n : Nat} {row : List PV} (h : isV Try.prog (n + 2) 54 row) : ∃ l, row = [.ro (bytesRow l)] := by
  unfold isV at h
  rw [Try.underlying54] at h
  obtain ⟨rows, rfl, _, h⟩ := h
  obtain ⟨l, rfl⟩ := bytes_rows h
  exact ⟨l, rfl⟩
theorem pin_row {n : Nat} {row : List PV} (h : isV Try.prog (n + 2) 117 row) : ∃ e, row = rowP e ∧ okP' e := by
  unfold isV at h
  rw [Try.underlying117] at h
  have c0 : Try.prog.cellsOf 117 = 3 := by kernel_rfl
  have c1 : Try.prog.cellsOf 24 = 1 := by kernel_rfl
  simp only [c0, List.mem_cons, List.not_mem_nil, or_false, forall_eq_or_imp, forall_eq, c1] at h
  obtain ⟨hl, h1, h2, h3⟩ := h
  match row, hl with
  | [a, b, c], _ =>
    obtain ⟨k, hk, o1⟩ := u64_row h1
    obtain ⟨n, hn, o2⟩ := u64_row h2
    obtain ⟨t, ht, o3⟩ := u64_row h3
    simp at hk hn ht
    subst hk hn ht
    exact ⟨⟨k, n, t⟩, rfl, o1, o2, o3⟩
theorem pins_rows {n : Nat} : ∀ {rows : List (List PV)}, (∀ r ∈ rows, isV Try.prog (n + 2) 117 r) → ∃ l, rows = rowsP l ∧ ∀ e ∈ l, okP' e
  | [], _ => ⟨[], rfl, fun e he => by cases he⟩
  | r :: rows, h => by
    obtain ⟨c, rfl, hc⟩ := pin_row (h r (by simp))
    obtain ⟨l, rfl, hl⟩ := pins_rows (rows := rows) fun r hr => h r (by simp [hr])
    refine ⟨c :: l, rfl, fun e he => ?_⟩
    rcases List.mem_cons.1 he with rfl | he
    · exact hc
    · exact hl e he
theorem pns_row {n : Nat} {row : List PV} (h : isV Try.prog (n + 3) 113 row) : ∃ l, row = [.ro (rowsP l)] ∧ ∀ e ∈ l, okP' e := by
  unfold isV at h
  rw [Try.underlying113] at h
  obtain ⟨rows, rfl, _, h⟩ := h
  obtain ⟨l, rfl, hl⟩ := pins_rows h
  exact ⟨l, rfl, hl⟩
theorem pins_row {n : Nat} {row : List PV} (h : isV Try.prog (n + 4) 115 row) : ∃ l, row = [.ro (rowsP l)] ∧ ∀ e ∈ l, okP' e := by
  unfold isV at h
  rw [Try.underlying115] at h
  have c0 : Try.prog.cellsOf 115 = 1 := by kernel_rfl
  have c1 : Try.prog.cellsOf 113 = 1 := by kernel_rfl
  simp only [c0, List.mem_cons, List.not_mem_nil, or_false, forall_eq, c1] at h
  obtain ⟨hl, h1⟩ := h
  match row, hl with
  | [a], _ => exact pns_row h1
theorem st_pins : isSt Try.prog 115 = true := by unfold isSt; rw [Try.underlying115]
theorem st_pin : isSt Try.prog 117 = true := by unfold isSt; rw [Try.underlying117]
theorem pl_pin : plainT Try.prog 5 117 = true := by kernel_rfl
theorem rd_pin : Try.prog.readableRec 117 = true := by kernel_rfl
theorem st_int : isSt Try.prog 3 = false := by unfold isSt; rw [Try.underlying3]
theorem st_u64 : isSt Try.prog 24 = false := by unfold isSt; rw [Try.underlying24]
theorem st_bs : isSt Try.prog 54 = false := by unfold isSt; rw [Try.underlying54]
theorem pl_pins : plainT Try.prog 5 115 = true := by kernel_rfl
theorem pl_int : plainT Try.prog 5 3 = true := by kernel_rfl
theorem pl_u64 : plainT Try.prog 5 24 = true := by kernel_rfl
theorem pl_bs : plainT Try.prog 5 54 = true := by kernel_rfl
theorem rd_pins : Try.prog.readableRec 115 = true := by kernel_rfl
theorem rd_int : Try.prog.readableRec 3 = true := by kernel_rfl
theorem rd_u64 : Try.prog.readableRec 24 = true := by kernel_rfl
theorem rd_bs : Try.prog.readableRec 54 = true := by kernel_rfl

end Go.Proofs.Ytfpmjcdcpicmaaa.Ab
