/- Failing with all that is pending changes no name; with none of it brings back what was there at the last Sync; what is there behind any failure was there behind some operation since, or ahead of all. The law's call returns true, and what is handed in reads behind it as it did. No condition. -/
import Derived.Test.YthblkhafehanfaaR13
import Derived.Test.YthblkhafehanfaaF4
namespace Go.Proofs.Ythblkhafehanfaa
open Go Go.RowKit Go.WideShapes Go.ChangeShapes Ab
set_option maxRecDepth 100000

theorem directFails_con : LawCon Try.prog 5 3 [22, 22, 3] := by
  intro rows hl hv
  match rows, hl with
  | [r0, r1, r2], _ =>
    obtain ⟨x0, rfl, h0⟩ := acts_row (n := 2) (hv 0 22 r0 rfl rfl)
    obtain ⟨x1, rfl, h1⟩ := acts_row (n := 2) (hv 1 22 r1 rfl rfl)
    obtain ⟨x2, rfl⟩ := int_row (n := 4) (hv 2 3 r2 rfl rfl)
    have : argVs Try.prog [22, 22, 3] [[.ro (rowsQ x0)], [.ro (rowsQ x1)], [.int .i64 x2]] = [.pv (.ro (rowsQ x0)), .pv (.ro (rowsQ x1)), .pv (.int .i64 x2)] := by
      simp [argVs, argV, st_acts, st_int]
    rw [this]
    exact c_dirFails x0 x1 x2 h0 h1

theorem directFails_lifted (os : Os) (started : os.Started) (H : Type) (enc : TypeId × Value → H) :
    ReturnsInHanded {} Try.checked os 3 .any (Rows.directFailsSpec.pre6 enc Try.prog Try.f3 Rows.directFailsRow.domain false) (Rows.directFailsSpec.post enc Try.prog Try.f3 false true false false) := by
  refine returnsInHanded_of_change (C := Try.checked) Try.own started (by kernel_rfl) Try.func3
    (ChangeSpec.witness6 (enc := enc) (C := Try.checked) false ⟨#[], #[.slice none 0 0, .slice none 0 0, .int .i64 0], []⟩ 8 (by kernel_rfl) (by kernel_rfl) (by kernel_rfl) (by kernel_rfl)) ?_
  intro W base args ds gs before hval hW hcnd _
  have hpar : Try.f3.params.toList = [22, 22, 3] := by rw [Try.params3]
  refine law_post (P := Try.prog) (n := 5) (tb := 4) Try.laidOut ?_ ?_ (by kernel_rfl) Try.underlying4 rfl ?_ hval hW
  · rw [hpar]; exact directFails_con
  · rw [hpar]
    intro t ht
    simp only [List.mem_cons, List.not_mem_nil, or_false] at ht
    rcases ht with rfl | rfl | rfl
    · exact ⟨pl_acts, rd_acts, of_decide_eq_true (by kernel_rfl)⟩
    · exact ⟨pl_acts, rd_acts, of_decide_eq_true (by kernel_rfl)⟩
    · exact ⟨pl_int, rd_int, of_decide_eq_true (by kernel_rfl)⟩
  · intro ds hd
    rw [hpar] at hd
    match ds, hd with
    | [d0, d1, d2], _ => rfl

theorem directFails_holds : Rows.DirectFailsSaid :=
  OpenClaim.holds_of_wide 3 Try.f3 rfl rfl rfl rfl rfl rfl rfl ⟨rfl, rfl, rfl, rfl, rfl⟩ rfl rfl rfl rfl rfl (by kernel_rfl) Try.func3 (by kernel_rfl)
    (of_decide_eq_true (by kernel_rfl)) (by unfold Func.isWrapper; rw [if_neg (by decide +kernel)]; exact ⟨rfl, rfl⟩)
    (fun os started H enc _ => directFails_lifted os started H enc)

end Go.Proofs.Ythblkhafehanfaa
