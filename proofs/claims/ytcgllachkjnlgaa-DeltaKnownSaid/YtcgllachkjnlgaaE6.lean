/- DeltaKnown: a closed statement. The law's call returns true, and what is handed in reads behind it as it did. No condition. -/
import Derived.Test.YtcgllachkjnlgaaD42
import Derived.Test.YtcgllachkjnlgaaE1
namespace Go.Proofs.Ytcgllachkjnlgaa
open Go Go.RowKit Go.WideShapes Go.ChangeShapes Ab

theorem deltaKnown_con : LawCon Try.prog 5 7 [] := by
  intro rows hl hv
  match rows, hl with
  | [], _ =>
    have : argVs Try.prog [] [] = [] := by
      simp [argVs]
    rw [this]
    exact c_known

theorem deltaKnown_lifted (os : Os) (started : os.Started) (H : Type) (enc : TypeId × Value → H) :
    ReturnsInHanded {} Try.checked os 7 .any (Rows.deltaKnownSpec.pre6 enc Try.prog Try.f7 Rows.deltaKnownRow.domain false) (Rows.deltaKnownSpec.post enc Try.prog Try.f7 false true false false) := by
  refine returnsInHanded_of_change (C := Try.checked) Try.own started (by kernel_rfl) Try.func7
    (ChangeSpec.witness6 (enc := enc) (C := Try.checked) false ⟨#[], #[], []⟩ 8 (by kernel_rfl) (by kernel_rfl) (by kernel_rfl) (by kernel_rfl)) ?_
  intro W base args ds gs before hval hW hcnd _
  have hpar : Try.f7.params.toList = [] := by rw [Try.params7]
  refine law_post (P := Try.prog) (n := 5) (tb := 4) Try.laidOut ?_ ?_ (by kernel_rfl) Try.underlying4 rfl ?_ hval hW
  · rw [hpar]; exact deltaKnown_con
  · rw [hpar]
    intro t ht
    cases ht
  · intro ds hd
    rw [hpar] at hd
    match ds, hd with
    | [], _ => rfl

theorem deltaKnown_holds : Rows.DeltaKnownSaid :=
  OpenClaim.holds_of_wide 7 Try.f7 rfl rfl rfl rfl rfl rfl rfl ⟨rfl, rfl, rfl, rfl, rfl⟩ rfl rfl rfl rfl rfl (by kernel_rfl) Try.func7 (by kernel_rfl)
    (of_decide_eq_true (by kernel_rfl)) (by unfold Func.isWrapper; rw [if_neg (by decide +kernel)]; exact ⟨rfl, rfl⟩)
    (fun os started H enc _ => deltaKnown_lifted os started H enc)

end Go.Proofs.Ytcgllachkjnlgaa
