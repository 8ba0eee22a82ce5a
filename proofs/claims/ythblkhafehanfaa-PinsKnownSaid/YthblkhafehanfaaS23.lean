/- The chapter's examples come out as they should, and all rows of few pins answer the three laws, at each place of their bytes. The law's call returns true, and what is handed in reads behind it as it did. No condition. -/
import Derived.Test.YthblkhafehanfaaY12
namespace Go.Proofs.Ythblkhafehanfaa
open Go Go.RowKit Go.WideShapes Go.ChangeShapes Ab
set_option maxRecDepth 100000

theorem pinsKnown_con : LawCon Try.prog 5 10 [] := by
  intro rows hl hv
  match rows, hl with
  | [], _ =>
    have : argVs Try.prog [] [] = [] := by
      simp [argVs]
    rw [this]
    exact c_pinsKnown

theorem pinsKnown_lifted (os : Os) (started : os.Started) (H : Type) (enc : TypeId × Value → H) :
    ReturnsInHanded {} Try.checked os 10 .any (Rows.pinsKnownSpec.pre6 enc Try.prog Try.f10 Rows.pinsKnownRow.domain false) (Rows.pinsKnownSpec.post enc Try.prog Try.f10 false true false false) := by
  refine returnsInHanded_of_change (C := Try.checked) Try.own started (by kernel_rfl) Try.func10
    (ChangeSpec.witness6 (enc := enc) (C := Try.checked) false ⟨#[], #[], []⟩ 8 (by kernel_rfl) (by kernel_rfl) (by kernel_rfl) (by kernel_rfl)) ?_
  intro W base args ds gs before hval hW hcnd _
  have hpar : Try.f10.params.toList = [] := by rw [Try.params10]
  refine law_post (P := Try.prog) (n := 5) (tb := 4) Try.laidOut ?_ ?_ (by kernel_rfl) Try.underlying4 rfl ?_ hval hW
  · rw [hpar]; exact pinsKnown_con
  · rw [hpar]
    intro t ht
    cases ht
  · intro ds hd
    rw [hpar] at hd
    match ds, hd with
    | [], _ => rfl

theorem pinsKnown_holds : Rows.PinsKnownSaid :=
  OpenClaim.holds_of_wide 10 Try.f10 rfl rfl rfl rfl rfl rfl rfl ⟨rfl, rfl, rfl, rfl, rfl⟩ rfl rfl rfl rfl rfl (by kernel_rfl) Try.func10 (by kernel_rfl)
    (of_decide_eq_true (by kernel_rfl)) (by unfold Func.isWrapper; rw [if_neg (by decide +kernel)]; exact ⟨rfl, rfl⟩)
    (fun os started H enc _ => pinsKnown_lifted os started H enc)

end Go.Proofs.Ythblkhafehanfaa
