/- Rows of plain data read back. -/
import Derived.Test.YthblkhafehanfaaAb22
namespace Go.Proofs.Ythblkhafehanfaa.Ab.R
open Go Go.RowKit
set_option linter.unusedVariables false

open Classical in
/-- The list whose rows these are. -/
noncomputable def dec {α : Type} (f : α → List PV) (rows : List (List PV)) : Option (List α) :=
  if h : ∃ l : List α, l.map f = rows then some h.choose else none
theorem map_inj {α β : Type} {f : α → β} (hf : ∀ a b, f a = f b → a = b) : ∀ {l m : List α}, l.map f = m.map f → l = m
  | [], [], _ => rfl
  | [], _ :: _, h => by simp at h
  | _ :: _, [], h => by simp at h
  | a :: l, b :: m, h => by
    simp only [List.map_cons, List.cons.injEq] at h
    rw [hf _ _ h.1, map_inj hf h.2]
theorem dec_map {α : Type} {f : α → List PV} (hf : ∀ a b, f a = f b → a = b) (l : List α) : dec f (l.map f) = some l := by
  unfold dec
  have h : ∃ m : List α, m.map f = l.map f := ⟨l, rfl⟩
  rw [dif_pos h]
  exact congrArg some (map_inj hf h.choose_spec)
theorem dec_inv {α : Type} {f : α → List PV} {rows : List (List PV)} {l : List α} (h : dec f rows = some l) : rows = l.map f := by
  unfold dec at h
  split at h
  · rename_i h'
    simp only [Option.some.injEq] at h
    rw [← h]
    exact h'.choose_spec.symm
  · cases h

/-- A byte's row. -/
def byteR (c : UInt8) : List PV := [.int .u8 (c.toNat : Int)]
theorem byteR_inj : ∀ a b, byteR a = byteR b → a = b := by
  intro a b h
  simp only [byteR, List.cons.injEq, PV.int.injEq, true_and, and_true] at h
  exact UInt8.toNat_inj.1 (by omega)
@[simp] theorem dec_bytes (l : List UInt8) : dec byteR (bytesRow l) = some l := dec_map byteR_inj l
@[simp] theorem dec_nil {α : Type} (f : α → List PV) : dec f [] = some [] := by
  unfold dec
  have h : ∃ m : List α, m.map f = [] := ⟨[], rfl⟩
  rw [dif_pos h]
  have := h.choose_spec
  simpa using this
theorem dec_bytes_inv {rows : List (List PV)} {l : List UInt8} (h : dec byteR rows = some l) : rows = bytesRow l := dec_inv h

end Go.Proofs.Ythblkhafehanfaa.Ab.R
