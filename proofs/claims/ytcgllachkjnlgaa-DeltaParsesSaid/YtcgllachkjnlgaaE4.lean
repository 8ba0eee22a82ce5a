/- DeltaParses: for any bytes. The law's call returns true, and what is handed in reads behind it as it did. No condition. -/
import Derived.Test.YtcgllachkjnlgaaD40
import Derived.Test.YtcgllachkjnlgaaE1
namespace Go.Proofs.Ytcgllachkjnlgaa
open Go Go.RowKit Go.WideShapes Go.ChangeShapes Ab

theorem deltaParses_con : LawCon Try.prog 5 5 [38] := by
  intro rows hl hv
  match rows, hl with
  | [r0], _ =>
    obtain ⟨x0, rfl⟩ := bs_row (hv 0 38 r0 rfl rfl)
    have : argVs Try.prog [38] [[.ro (Ab.bytesRow x0)]] = [.pv (.ro (Ab.bytesRow x0))] := by
      simp [argVs, argV, st_bs]
    rw [this]
    exact c_parses x0

theorem deltaParses_lifted (os : Os) (started : os.Started) (H : Type) (enc : TypeId × Value → H) :
    ReturnsInHanded {} Try.checked os 5 .any (Rows.deltaParsesSpec.pre6 enc Try.prog Try.f5 Rows.deltaParsesRow.domain false) (Rows.deltaParsesSpec.post enc Try.prog Try.f5 false true false false) := by
  refine returnsInHanded_of_change (C := Try.checked) Try.own started (by kernel_rfl) Try.func5
    (ChangeSpec.witness6 (enc := enc) (C := Try.checked) false ⟨#[], #[.slice none 0 0], []⟩ 8 (by kernel_rfl) (by kernel_rfl) (by kernel_rfl) (by kernel_rfl)) ?_
  intro W base args ds gs before hval hW hcnd _
  have hpar : Try.f5.params.toList = [38] := by rw [Try.params5]
  refine law_post (P := Try.prog) (n := 5) (tb := 4) Try.laidOut ?_ ?_ (by kernel_rfl) Try.underlying4 rfl ?_ hval hW
  · rw [hpar]; exact deltaParses_con
  · rw [hpar]
    intro t ht
    simp only [List.mem_cons, List.not_mem_nil, or_false] at ht
    subst ht
    exact ⟨pl_bs, rd_bs, of_decide_eq_true (by kernel_rfl)⟩
  · intro ds hd
    rw [hpar] at hd
    match ds, hd with
    | [d0], _ => rfl

theorem deltaParses_holds : Rows.DeltaParsesSaid :=
  OpenClaim.holds_of_wide 5 Try.f5 rfl rfl rfl rfl rfl rfl rfl ⟨rfl, rfl, rfl, rfl, rfl⟩ rfl rfl rfl rfl rfl (by kernel_rfl) Try.func5 (by kernel_rfl)
    (of_decide_eq_true (by kernel_rfl)) (by unfold Func.isWrapper; rw [if_neg (by decide +kernel)]; exact ⟨rfl, rfl⟩)
    (fun os started H enc _ => deltaParses_lifted os started H enc)

end Go.Proofs.Ytcgllachkjnlgaa
