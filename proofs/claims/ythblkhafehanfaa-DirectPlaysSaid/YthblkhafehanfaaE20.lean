/- Whatever is called, a directory answers what the document says, and has the names that it should. The law's call returns true, and what is handed in reads behind it as it did. No condition. -/
import Derived.Test.YthblkhafehanfaaR14
import Derived.Test.YthblkhafehanfaaF4
namespace Go.Proofs.Ythblkhafehanfaa
open Go Go.RowKit Go.WideShapes Go.ChangeShapes Ab
set_option maxRecDepth 100000

theorem directPlays_con : LawCon Try.prog 5 4 [22] := by
  intro rows hl hv
  match rows, hl with
  | [r0], _ =>
    obtain ⟨x0, rfl, h0⟩ := acts_row (n := 2) (hv 0 22 r0 rfl rfl)
    have : argVs Try.prog [22] [[.ro (rowsQ x0)]] = [.pv (.ro (rowsQ x0))] := by
      simp [argVs, argV, st_acts]
    rw [this]
    exact c_dirPlays x0 h0

theorem directPlays_lifted (os : Os) (started : os.Started) (H : Type) (enc : TypeId × Value → H) :
    ReturnsInHanded {} Try.checked os 4 .any (Rows.directPlaysSpec.pre6 enc Try.prog Try.f4 Rows.directPlaysRow.domain false) (Rows.directPlaysSpec.post enc Try.prog Try.f4 false true false false) := by
  refine returnsInHanded_of_change (C := Try.checked) Try.own started (by kernel_rfl) Try.func4
    (ChangeSpec.witness6 (enc := enc) (C := Try.checked) false ⟨#[], #[.slice none 0 0], []⟩ 8 (by kernel_rfl) (by kernel_rfl) (by kernel_rfl) (by kernel_rfl)) ?_
  intro W base args ds gs before hval hW hcnd _
  have hpar : Try.f4.params.toList = [22] := by rw [Try.params4]
  refine law_post (P := Try.prog) (n := 5) (tb := 4) Try.laidOut ?_ ?_ (by kernel_rfl) Try.underlying4 rfl ?_ hval hW
  · rw [hpar]; exact directPlays_con
  · rw [hpar]
    intro t ht
    simp only [List.mem_cons, List.not_mem_nil, or_false] at ht
    subst ht
    exact ⟨pl_acts, rd_acts, of_decide_eq_true (by kernel_rfl)⟩
  · intro ds hd
    rw [hpar] at hd
    match ds, hd with
    | [d0], _ => rfl

theorem directPlays_holds : Rows.DirectPlaysSaid :=
  OpenClaim.holds_of_wide 4 Try.f4 rfl rfl rfl rfl rfl rfl rfl ⟨rfl, rfl, rfl, rfl, rfl⟩ rfl rfl rfl rfl rfl (by kernel_rfl) Try.func4 (by kernel_rfl)
    (of_decide_eq_true (by kernel_rfl)) (by unfold Func.isWrapper; rw [if_neg (by decide +kernel)]; exact ⟨rfl, rfl⟩)
    (fun os started H enc _ => directPlays_lifted os started H enc)

end Go.Proofs.Ythblkhafehanfaa
