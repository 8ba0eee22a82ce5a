/- DeltaDiffs: for any two texts, the law's call returns true. No condition. -/
import Derived.Test.YtcgllachkjnlgaaD26
import Derived.Test.YtcgllachkjnlgaaE1
namespace Go.Proofs.Ytcgllachkjnlgaa
open Go Go.RowKit Go.WideShapes Go.ChangeShapes Ab

theorem diffs_con : LawCon Try.prog 5 4 [9, 9] := by
  intro rows hl hv
  match rows, hl with
  | [r0, r1], _ =>
    obtain ⟨s, rfl⟩ := str_row (hv 0 9 r0 rfl rfl)
    obtain ⟨l, rfl⟩ := str_row (hv 1 9 r1 rfl rfl)
    have : argVs Try.prog [9, 9] [[.str s], [.str l]] = [.pv (.str s), .pv (.str l)] := by
      simp [argVs, argV, st_str]
    rw [this]
    exact c_diffs s l

theorem f4_lifted (os : Os) (started : os.Started) (H : Type) (enc : TypeId × Value → H) :
    ReturnsInHanded {} Try.checked os 4 .any (Rows.deltaDiffsSpec.pre6 enc Try.prog Try.f4 Rows.deltaDiffsRow.domain false) (Rows.deltaDiffsSpec.post enc Try.prog Try.f4 false true false false) := by
  refine returnsInHanded_of_change (C := Try.checked) Try.own started (by kernel_rfl) Try.func4
    (ChangeSpec.witness6 (enc := enc) (C := Try.checked) false ⟨#[], #[.string ⟨#[]⟩, .string ⟨#[]⟩], []⟩ 8 (by kernel_rfl) (by kernel_rfl) (by kernel_rfl) (by kernel_rfl)) ?_
  intro W base args ds gs before hval hW hcnd _
  have hpar : Try.f4.params.toList = [9, 9] := by rw [Try.params4]
  refine law_post (P := Try.prog) (n := 5) (tb := 4) Try.laidOut ?_ ?_ (by kernel_rfl) Try.underlying4 rfl ?_ hval hW
  · rw [hpar]; exact diffs_con
  · rw [hpar]
    intro t ht
    simp only [List.mem_cons, List.not_mem_nil, or_false] at ht
    rcases ht with rfl | rfl <;> exact ⟨pl_str, rd_str, of_decide_eq_true (by kernel_rfl)⟩
  · intro ds hd
    rw [hpar] at hd
    match ds, hd with
    | [d0, d1], _ => rfl

theorem deltaDiffs_holds : Rows.DeltaDiffsSaid :=
  OpenClaim.holds_of_wide 4 Try.f4 rfl rfl rfl rfl rfl rfl rfl ⟨rfl, rfl, rfl, rfl, rfl⟩ rfl rfl rfl rfl rfl (by kernel_rfl) Try.func4 (by kernel_rfl)
    (of_decide_eq_true (by kernel_rfl)) (by unfold Func.isWrapper; rw [if_neg (by decide +kernel)]; exact ⟨rfl, rfl⟩)
    (fun os started H enc _ => f4_lifted os started H enc)

end Go.Proofs.Ytcgllachkjnlgaa
