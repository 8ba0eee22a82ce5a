import Derived.Test.YtfpmjcdcpicmaaaW4
import Derived.Test.YtfpmjcdcpicmaaaW19
import Derived.Test.YtfpmjcdcpicmaaaFr1
import Derived.Test.YtfpmjcdcpicmaaaRows
namespace Go.Proofs.Ytfpmjcdcpicmaaa.Ab
open Go Go.RowKit R
set_option linter.unusedVariables false
set_option linter.unusedSimpArgs false
set_option maxRecDepth 100000
theorem Try.own : ownKnob Try.prog.godebug = none := by kernel_rfl
theorem Try.laidOut : laidOutB Try.prog = true := by kernel_rfl
theorem str_row {n : Nat} {row : List PV} (h : isV Try.prog (n + 1) 9 row) : ∃ l, row = [.str l] := by
 unfold isV at h
 rw [Try.underlying9] at h
 obtain ⟨l, h, _⟩ := h
 exact ⟨l, h⟩
theorem u64_row {n : Nat} {row : List PV} (h : isV Try.prog (n + 1) 24 row) : ∃ m, row = [.int .u64 m] ∧ 0 ≤ m ∧ m < 18446744073709551616 := by
 unfold isV at h
 rw [Try.underlying24] at h
 obtain ⟨m, rfl, hw⟩ := h
 refine ⟨m, rfl, ?_⟩
 have : IntKind.u64.min ≤ m ∧ m ≤ IntKind.u64.max := by simpa [Lit.wf] using hw
 simp [IntKind.min, IntKind.max, IntKind.signed, IntKind.bits] at this
 omega
theorem byte_row {n : Nat} {row : List PV} (h : isV Try.prog (n + 1) 5 row) : ∃ c : UInt8, row = [.int .u8 (c.toNat : Int)] := by
 unfold isV at h
 rw [Try.underlying5] at h
 obtain ⟨m, rfl, hw⟩ := h
 have hm : 0 ≤ m ∧ m < 256 := by
   have : IntKind.u8.min ≤ m ∧ m ≤ IntKind.u8.max := by simpa [Lit.wf] using hw
   simp [IntKind.min, IntKind.max, IntKind.signed, IntKind.bits] at this
   omega
 refine ⟨UInt8.ofNat m.toNat, ?_⟩
 have : (UInt8.ofNat m.toNat).toNat = m.toNat := by simp; omega
 rw [this]
 congr 2
 omega
theorem bytes_rows {n : Nat} : ∀ {rows : List (List PV)}, (∀ r ∈ rows, isV Try.prog (n + 1) 5 r) → ∃ l, rows = bytesRow l
 | [], _ => ⟨[], rfl⟩
 | r :: rows, h => by
   obtain ⟨c, rfl⟩ := byte_row (h r (by simp))
   obtain ⟨l, rfl⟩ := bytes_rows (rows := rows) fun r hr => h r (by simp [hr])
   exact ⟨c :: l, rfl⟩
theorem bs_row {n : Nat} {row : List PV} (h : isV Try.prog (n + 2) 54 row) : ∃ l, row = [.ro (bytesRow l)] := by
 unfold isV at h
 rw [Try.underlying54] at h
 obtain ⟨rows, rfl, _, h⟩ := h
 obtain ⟨l, rfl⟩ := bytes_rows h
 exact ⟨l, rfl⟩
theorem bool_row {n : Nat} {row : List PV} (h : isV Try.prog (n + 1) 4 row) : ∃ b, row = [.bool b] := by
 unfold isV at h
 rw [Try.underlying4] at h
 exact h
theorem ref_row {n : Nat} {row : List PV} (h : isV Try.prog (n + 2) 68 row) : ∃ z m, row = [.int .u64 z, .int .u64 m] := by
 unfold isV at h
 rw [Try.underlying68] at h
 have c0 : Try.prog.cellsOf 68 = 2 := by kernel_rfl
 have c1 : Try.prog.cellsOf 24 = 1 := by kernel_rfl
 simp only [c0, List.mem_cons, List.not_mem_nil, or_false, forall_eq_or_imp, forall_eq, c1] at h
 obtain ⟨hl, h1, h2⟩ := h
 match row, hl with
 | [a, b], _ =>
   obtain ⟨z, hz, _⟩ := u64_row h1
   obtain ⟨m, hm, _⟩ := u64_row h2
   simp at hz hm
   subst hz hm
   exact ⟨z, m, rfl⟩
theorem vn_row {n : Nat} {row : List PV} (h : isV Try.prog (n + 3) 70 row) : ∃ v, row = rowV v ∧ okV v := by
 unfold isV at h
 rw [Try.underlying70] at h
 have c0 : Try.prog.cellsOf 70 = 10 := by kernel_rfl
 have c1 : Try.prog.cellsOf 24 = 1 := by kernel_rfl
 have c2 : Try.prog.cellsOf 9 = 1 := by kernel_rfl
 have c3 : Try.prog.cellsOf 4 = 1 := by kernel_rfl
 have c4 : Try.prog.cellsOf 68 = 2 := by kernel_rfl
 simp only [c0, List.mem_cons, List.not_mem_nil, or_false, forall_eq_or_imp, forall_eq, c1, c2, c3, c4] at h
 obtain ⟨hl, h1, h2, h3, h4, h5, h6, h7, h8, h9⟩ := h
 match row, hl with
 | [a1, a2, a3, a4, a5, a6, a7, a8, a9, a10], _ =>
   obtain ⟨x1, e1, o1⟩ := u64_row h1
   obtain ⟨x2, e2, o2⟩ := u64_row h2
   obtain ⟨x3, e3, o3⟩ := u64_row h3
   obtain ⟨x4, e4, o4⟩ := u64_row h4
   obtain ⟨x5, e5, o5⟩ := u64_row h5
   obtain ⟨x6, x7, e6⟩ := ref_row h6
   obtain ⟨x8, e8⟩ := str_row h7
   obtain ⟨x9, e9⟩ := bool_row h8
   obtain ⟨x10, e10⟩ := bool_row h9
   simp at e1 e2 e3 e4 e5 e6 e8 e9 e10
   obtain ⟨e6, e7⟩ := e6
   subst e1 e2 e3 e4 e5 e6 e7 e8 e9 e10
   exact ⟨⟨x1, x2, x3, x4, x5, x6, x7, x8, x9, x10⟩, rfl, by unfold okV; simp only; omega⟩
theorem vns_rows {n : Nat} : ∀ {rows : List (List PV)}, (∀ r ∈ rows, isV Try.prog (n + 3) 70 r) → ∃ l, rows = rowsV l ∧ ∀ e ∈ l, okV e
 | [], _ => ⟨[], rfl, fun e he => by cases he⟩
 | r :: rows, h => by
   obtain ⟨c, rfl, hc⟩ := vn_row (h r (by simp))
   obtain ⟨l, rfl, hl⟩ := vns_rows (rows := rows) fun r hr => h r (by simp [hr])
   refine ⟨c :: l, rfl, fun e he => ?_⟩
   rcases List.mem_cons.1 he with rfl | he
   · exact hc
   · exact hl e he
theorem ver_row {n : Nat} {row : List PV} (h : isV Try.prog (n + 4) 63 row) : ∃ l, row = [.ro (rowsV l)] ∧ ∀ e ∈ l, okV e := by
 unfold isV at h
 rw [Try.underlying63] at h
 obtain ⟨rows, rfl, _, h⟩ := h
 obtain ⟨l, rfl, hl⟩ := vns_rows h
 exact ⟨l, rfl, hl⟩
theorem us_rows {n : Nat} : ∀ {rows : List (List PV)}, (∀ r ∈ rows, isV Try.prog (n + 1) 24 r) → ∃ l, rows = rowsU l
 | [], _ => ⟨[], rfl⟩
 | r :: rows, h => by
   obtain ⟨c, rfl, _⟩ := u64_row (h r (by simp))
   obtain ⟨l, rfl⟩ := us_rows (rows := rows) fun r hr => h r (by simp [hr])
   exact ⟨c :: l, rfl⟩
theorem us_row {n : Nat} {row : List PV} (h : isV Try.prog (n + 2) 90 row) : ∃ l, row = [.ro (rowsU l)] := by
 unfold isV at h
 rw [Try.underlying90] at h
 obtain ⟨rows, rfl, _, h⟩ := h
 obtain ⟨l, rfl⟩ := us_rows h
 exact ⟨l, rfl⟩
theorem ss_rows {n : Nat} : ∀ {rows : List (List PV)}, (∀ r ∈ rows, isV Try.prog (n + 1) 9 r) → ∃ l, rows = rowsSt l
 | [], _ => ⟨[], rfl⟩
 | r :: rows, h => by
   obtain ⟨c, rfl⟩ := str_row (h r (by simp))
   obtain ⟨l, rfl⟩ := ss_rows (rows := rows) fun r hr => h r (by simp [hr])
   exact ⟨c :: l, rfl⟩
theorem ss_row {n : Nat} {row : List PV} (h : isV Try.prog (n + 2) 44 row) : ∃ l, row = [.ro (rowsSt l)] := by
 unfold isV at h
 rw [Try.underlying44] at h
 obtain ⟨rows, rfl, _, h⟩ := h
 obtain ⟨l, rfl⟩ := ss_rows h
 exact ⟨l, rfl⟩
theorem st_ver : isSt Try.prog 63 = false := by unfold isSt; rw [Try.underlying63]
theorem st_u64 : isSt Try.prog 24 = false := by unfold isSt; rw [Try.underlying24]
theorem st_bs : isSt Try.prog 54 = false := by unfold isSt; rw [Try.underlying54]
theorem st_us : isSt Try.prog 90 = false := by unfold isSt; rw [Try.underlying90]
theorem st_ss : isSt Try.prog 44 = false := by unfold isSt; rw [Try.underlying44]
theorem st_vn : isSt Try.prog 70 = true := by unfold isSt; rw [Try.underlying70]
theorem pl_ver : plainT Try.prog 5 63 = true := by kernel_rfl
theorem rd_ver : Try.prog.readableRec 63 = true := by kernel_rfl
theorem pl_u64 : plainT Try.prog 5 24 = true := by kernel_rfl
theorem rd_u64 : Try.prog.readableRec 24 = true := by kernel_rfl
theorem pl_bs : plainT Try.prog 5 54 = true := by kernel_rfl
theorem rd_bs : Try.prog.readableRec 54 = true := by kernel_rfl
theorem pl_us : plainT Try.prog 5 90 = true := by kernel_rfl
theorem rd_us : Try.prog.readableRec 90 = true := by kernel_rfl
theorem pl_ss : plainT Try.prog 5 44 = true := by kernel_rfl
theorem rd_ss : Try.prog.readableRec 44 = true := by kernel_rfl
theorem pl_vn : plainT Try.prog 5 70 = true := by kernel_rfl
theorem rd_vn : Try.prog.readableRec 70 = true := by kernel_rfl
end Go.Proofs.Ytfpmjcdcpicmaaa.Ab
