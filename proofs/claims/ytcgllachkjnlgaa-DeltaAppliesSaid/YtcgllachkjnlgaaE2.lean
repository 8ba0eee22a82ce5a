/- DeltaApplies: for every text and all edits, the law's call returns true, and what is handed in reads behind it as it did. No condition. -/
import Derived.Test.YtcgllachkjnlgaaD24
import Derived.Test.YtcgllachkjnlgaaE1
namespace Go.Proofs.Ytcgllachkjnlgaa
open Go Go.RowKit Go.WideShapes Go.ChangeShapes Ab

theorem applies_con : LawCon Try.prog 5 3 [9, 22] := by
  intro rows hl hv
  match rows, hl with
  | [r0, r1], _ =>
    obtain ⟨s, rfl⟩ := str_row (hv 0 9 r0 rfl rfl)
    obtain ⟨l, rfl⟩ := eds_row (hv 1 22 r1 rfl rfl)
    have : argVs Try.prog [9, 22] [[.str s], [.ro (rowsE l)]] = [.pv (.str s), .pv (.ro (rowsE l))] := by
      simp [argVs, argV, st_str, st_eds]
    rw [this]
    exact c_applies s l

theorem f3_lifted (os : Os) (started : os.Started) (H : Type) (enc : TypeId × Value → H) :
    ReturnsInHanded {} Try.checked os 3 .any (Rows.deltaAppliesSpec.pre6 enc Try.prog Try.f3 Rows.deltaAppliesRow.domain false) (Rows.deltaAppliesSpec.post enc Try.prog Try.f3 false true false false) := by
  refine returnsInHanded_of_change (C := Try.checked) Try.own started (by kernel_rfl) Try.func3
    (ChangeSpec.witness6 (enc := enc) (C := Try.checked) false ⟨#[], #[.string ⟨#[]⟩, .slice none 0 0], []⟩ 8 (by kernel_rfl) (by kernel_rfl) (by kernel_rfl) (by kernel_rfl)) ?_
  intro W base args ds gs before hval hW hcnd _
  have hpar : Try.f3.params.toList = [9, 22] := by rw [Try.params3]
  refine law_post (P := Try.prog) (n := 5) (tb := 4) Try.laidOut ?_ ?_ (by kernel_rfl) Try.underlying4 rfl ?_ hval hW
  · rw [hpar]; exact applies_con
  · rw [hpar]
    intro t ht
    simp only [List.mem_cons, List.not_mem_nil, or_false] at ht
    rcases ht with rfl | rfl
    · exact ⟨pl_str, rd_str, of_decide_eq_true (by kernel_rfl)⟩
    · exact ⟨pl_eds, rd_eds, of_decide_eq_true (by kernel_rfl)⟩
  · intro ds hd
    rw [hpar] at hd
    match ds, hd with
    | [d0, d1], _ => rfl

theorem deltaApplies_holds : Rows.DeltaAppliesSaid :=
  OpenClaim.holds_of_wide 3 Try.f3 rfl rfl rfl rfl rfl rfl rfl ⟨rfl, rfl, rfl, rfl, rfl⟩ rfl rfl rfl rfl rfl (by kernel_rfl) Try.func3 (by kernel_rfl)
    (of_decide_eq_true (by kernel_rfl)) (by unfold Func.isWrapper; rw [if_neg (by decide +kernel)]; exact ⟨rfl, rfl⟩)
    (fun os started H enc _ => f3_lifted os started H enc)

end Go.Proofs.Ytcgllachkjnlgaa
