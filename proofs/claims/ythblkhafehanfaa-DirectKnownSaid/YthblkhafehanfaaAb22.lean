/- Plain laws that the reckoning asks for: numbers within their kinds; bytes as rows. -/
import Derived.Test.YthblkhafehanfaaAb21
namespace Go.Proofs.Ythblkhafehanfaa.Ab
open Go Go.RowKit

/-! The printed code's short forms -/

abbrev AI.a (d : Nat) (k : AK) (xs : List Operand) : AI := ⟨some d, k, xs, none, [], none⟩
abbrev AI.s (k : AK) (xs : List Operand) : AI := ⟨none, k, xs, none, [], none⟩
abbrev AI.m (d t : Nat) : AI := ⟨some d, .mov, [.tmp t], none, [], none⟩
abbrev AI.mg (d t g : Nat) (b : Bool) : AI := ⟨some d, .mov, [.tmp t], some (g, b), [], none⟩
abbrev AI.b (d : Nat) (k : AK) (xs : List Operand) (g : Nat) (b : Bool) : AI := ⟨some d, k, xs, some (g, b), [], none⟩
abbrev AI.pa (d x y : Nat) : AI := ⟨some d, .pick, [.tmp x, .tmp y, .const (.bool false)], none, [], none⟩
abbrev AI.po (d x y : Nat) : AI := ⟨some d, .pick, [.tmp x, .const (.bool true), .tmp y], none, [], none⟩
abbrev AI.u (d : Nat) (k : AK) (t : Nat) : AI := ⟨some d, k, [.tmp t], none, [], none⟩
abbrev AI.w (d : Nat) (k : AK) (t u : Nat) : AI := ⟨some d, k, [.tmp t, .tmp u], none, [], none⟩
abbrev AI.bu (d : Nat) (k : AK) (t g : Nat) (b : Bool) : AI := ⟨some d, k, [.tmp t], some (g, b), [], none⟩
abbrev AI.bw (d : Nat) (k : AK) (t u g : Nat) (b : Bool) : AI := ⟨some d, k, [.tmp t, .tmp u], some (g, b), [], none⟩
abbrev AI.c (d : Nat) (k : AK) (t : Nat) (n : Int) : AI := ⟨some d, k, [.tmp t, .const (.int .i64 n)], none, [], none⟩
abbrev AI.bc (d : Nat) (k : AK) (t : Nat) (n : Int) (g : Nat) (b : Bool) : AI := ⟨some d, k, [.tmp t, .const (.int .i64 n)], some (g, b), [], none⟩
abbrev ci (n : Int) : Operand := .const (.int .i64 n)

end Go.Proofs.Ythblkhafehanfaa.Ab
namespace Go.Proofs.Ythblkhafehanfaa.Ab.R
open Go Go.RowKit
set_option linter.unusedVariables false

theorem wrap_i64 {x : Int} (h : -9223372036854775808 ≤ x ∧ x ≤ 9223372036854775807) : IntKind.i64.wrap x = x := by
  simp only [IntKind.wrap, IntKind.bits, IntKind.signed]
  simp
  omega
theorem wrap_u64 {x : Int} (h : 0 ≤ x ∧ x ≤ 18446744073709551615) : IntKind.u64.wrap x = x := by
  simp only [IntKind.wrap, IntKind.bits, IntKind.signed]
  simp
  omega
theorem wrap_u8 (x : Int) : IntKind.u8.wrap x = x % 256 := by
  simp only [IntKind.wrap, IntKind.bits, IntKind.signed]
  simp

@[simp] theorem arrO_none : arrO none = none := rfl
@[simp] theorem arrO_box (cs : List AV) : arrO (some (.box cs)) = none := rfl
@[simp] theorem vone_int (k : IntKind) (n : Int) : (Value.int k n).oneCell' = true := rfl
@[simp] theorem vone_bool (b : Bool) : (Value.bool b).oneCell' = true := rfl
@[simp] theorem vone_str (s : ByteArray) : (Value.string s).oneCell' = true := rfl
@[simp] theorem vone_ptr (a : Option Addr) : (Value.pointer a).oneCell' = true := rfl
@[simp] theorem vone_slice (a : Option Addr) (n c : Nat) : (Value.slice a n c).oneCell' = true := rfl
@[simp] theorem bytesRow_nil : bytesRow [] = [] := rfl
@[simp] theorem bytesRow_length (l : List UInt8) : (bytesRow l).length = l.length := by simp [bytesRow]
theorem bytesRow_append (l m : List UInt8) : bytesRow (l ++ m) = bytesRow l ++ bytesRow m := by simp [bytesRow]
@[simp] theorem bytesRow_one (l : List UInt8) : ∀ r ∈ bytesRow l, r.length = 1 := by
  intro r hr
  simp only [bytesRow, List.mem_map] at hr
  obtain ⟨c, _, rfl⟩ := hr
  rfl
theorem bytesRow_cons (c : UInt8) (l : List UInt8) : bytesRow (c :: l) = [.int .u8 (c.toNat : Int)] :: bytesRow l := rfl
theorem bytesRow_at {l : List UInt8} {i : Nat} (h : i < l.length) : rowAt (bytesRow l) (i : Int) = [.int .u8 (l[i].toNat : Int)] := by
  simp [rowAt, bytesRow, h]
theorem bytesRow_inj {l m : List UInt8} (h : bytesRow l = bytesRow m) : l = m := by
  induction l generalizing m with
  | nil => cases m with
    | nil => rfl
    | cons c m => cases h
  | cons c l ih => cases m with
    | nil => cases h
    | cons d m =>
      simp only [bytesRow_cons, List.cons.injEq, PV.int.injEq, true_and, and_true] at h
      rw [ih h.2]
      congr 1
      exact UInt8.toNat_inj.1 (by omega)
@[simp] theorem bytesOf_bytesRow (l : List UInt8) : bytesOf (bytesRow l) = some l := by
  induction l with
  | nil => rfl
  | cons c l ih =>
    have hc : byteOf [.int .u8 (c.toNat : Int)] = some c := by
      have := c.toNat_lt
      unfold byteOf
      simp
      omega
    rw [bytesRow_cons]
    simp only [bytesOf, hc, ih, Option.map_some, Option.bind_some]
theorem maxLen_eq : maxLen = 9223372036854775807 := rfl

end Go.Proofs.Ythblkhafehanfaa.Ab.R
