/- The abstract machine is sound: keys of maps. -/
import Derived.Test.YthblkhafehanfaaAb14
import Derived.MapKept
import Derived.Lib.LazyBuf
import Derived.Laws.Externs
import Derived.Lib.AppendZeros
import Derived.Laws.MakeOwn
namespace Go.Proofs.Ythblkhafehanfaa.Ab
open Go Go.RowKit
set_option linter.unusedVariables false
set_option linter.unusedSimpArgs false

theorem srtT_key {P : Program} {kt : TypeId} {s : Nat} (h : srtT P kt = some s) : ∃ d, P.underlying kt = some d ∧ ∀ k, srt k = s → MapKept.IsKey d (keyV k) := by
  unfold srtT at h
  split at h
  · rename_i hu
    injection h with h; subst h
    refine ⟨_, hu, fun k hk => ?_⟩
    cases k <;> first | trivial | (simp [srt] at hk)
  · rename_i hu
    injection h with h; subst h
    refine ⟨_, hu, fun k hk => ?_⟩
    cases k <;> first | trivial | (simp [srt] at hk; try omega)
  · rename_i q hu
    injection h with h; subst h
    refine ⟨_, hu, fun k hk => ?_⟩
    cases k with
    | int k n =>
      simp only [srt] at hk
      exact kIdx_inj (by omega)
    | bool b => simp only [srt] at hk; omega
    | str l => simp only [srt] at hk; omega
    | _ => simp only [srt] at hk; have : kIdx q ≤ 7 := by cases q <;> decide
           omega
  · cases h

theorem eqP_keyV {k k' : PV} {s : Nat} (h : srt k = s) (h' : srt k' = s) (hs : s < 99) : eqP k k' = true ↔ keyV k' = keyV k := by
  subst h
  cases k <;> cases k' <;> simp only [srt] at h' hs <;> first
    | omega
    | (have : _ := kIdx_inj (Nat.add_left_cancel h'); subst this; simp [eqP, keyV, eq_comm])
    | simp [eqP, keyV, eq_comm]

theorem srt_lt {P : Program} {kt : TypeId} {s : Nat} (h : srtT P kt = some s) : s < 99 := by
  unfold srtT at h
  split at h
  · injection h with h; omega
  · injection h with h; omega
  · rename_i q _
    injection h with h
    have : kIdx q ≤ 7 := by cases q <;> decide
    omega
  · cases h

theorem key_val {P : Program} {S : Nat → Prop} {w : World} {β : Nat → Value} {D : Nat → Prop} {u : Value} {p : PV} {s : Nat} (h : RV P S w β D u (.pv p)) (hp : srt p = s) (hs : s < 99) : u = keyV p := by
  have h := h.pv_inv
  cases h with
  | int q n => rfl
  | bool b => rfl
  | str l => rfl
  | _ => simp only [srt] at hp; omega

theorem mapT_inv {P : Program} {t k e : TypeId} (h : mapT P t = some (k, e)) : P.underlying t = some (.map k e) := by
  unfold mapT at h
  split at h
  · rename_i hu; cases h; exact hu
  · cases h


end Go.Proofs.Ythblkhafehanfaa.Ab
