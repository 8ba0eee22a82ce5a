/- The examples of the chapter; all rows of six calls of few names. The law's call returns true, and what is handed in reads behind it as it did. No condition. -/
import Derived.Test.YthblkhafehanfaaR15
import Derived.Test.YthblkhafehanfaaF4
namespace Go.Proofs.Ythblkhafehanfaa
open Go Go.RowKit Go.WideShapes Go.ChangeShapes Ab
set_option maxRecDepth 100000

theorem directKnown_con : LawCon Try.prog 5 6 [] := by
  intro rows hl hv
  match rows, hl with
  | [], _ =>
    have : argVs Try.prog [] [] = [] := by
      simp [argVs]
    rw [this]
    exact c_dirKnown 

theorem directKnown_lifted (os : Os) (started : os.Started) (H : Type) (enc : TypeId × Value → H) :
    ReturnsInHanded {} Try.checked os 6 .any (Rows.directKnownSpec.pre6 enc Try.prog Try.f6 Rows.directKnownRow.domain false) (Rows.directKnownSpec.post enc Try.prog Try.f6 false true false false) := by
  refine returnsInHanded_of_change (C := Try.checked) Try.own started (by kernel_rfl) Try.func6
    (ChangeSpec.witness6 (enc := enc) (C := Try.checked) false ⟨#[], #[], []⟩ 8 (by kernel_rfl) (by kernel_rfl) (by kernel_rfl) (by kernel_rfl)) ?_
  intro W base args ds gs before hval hW hcnd _
  have hpar : Try.f6.params.toList = [] := by rw [Try.params6]
  refine law_post (P := Try.prog) (n := 5) (tb := 4) Try.laidOut ?_ ?_ (by kernel_rfl) Try.underlying4 rfl ?_ hval hW
  · rw [hpar]; exact directKnown_con
  · rw [hpar]
    intro t ht
    cases ht
  · intro ds hd
    rw [hpar] at hd
    match ds, hd with
    | [], _ => rfl

theorem directKnown_holds : Rows.DirectKnownSaid :=
  OpenClaim.holds_of_wide 6 Try.f6 rfl rfl rfl rfl rfl rfl rfl ⟨rfl, rfl, rfl, rfl, rfl⟩ rfl rfl rfl rfl rfl (by kernel_rfl) Try.func6 (by kernel_rfl)
    (of_decide_eq_true (by kernel_rfl)) (by unfold Func.isWrapper; rw [if_neg (by decide +kernel)]; exact ⟨rfl, rfl⟩)
    (fun os started H enc _ => directKnown_lifted os started H enc)

end Go.Proofs.Ythblkhafehanfaa
