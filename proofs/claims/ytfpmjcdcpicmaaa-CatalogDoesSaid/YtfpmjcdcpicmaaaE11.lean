/- Any catalog is looked at, bound, unbound and renamed as the document says; it stays, and what is answered may be written over. The law's call returns true, and what is handed in reads behind it as it did. No condition. -/
import Derived.Test.YtfpmjcdcpicmaaaC12
import Derived.Test.YtfpmjcdcpicmaaaF2
namespace Go.Proofs.Ytfpmjcdcpicmaaa
open Go Go.RowKit Go.WideShapes Go.ChangeShapes Ab
set_option maxRecDepth 100000

theorem catalogDoes_con : LawCon Try.prog 5 3 [23, 9, 9, 24] := by
  intro rows hl hv
  match rows, hl with
  | [r0, r1, r2, r3], _ =>
    obtain ⟨x0, rfl, h0⟩ := cat_row (n := 2) (hv 0 23 r0 rfl rfl)
    obtain ⟨x1, rfl⟩ := str_row (n := 4) (hv 1 9 r1 rfl rfl)
    obtain ⟨x2, rfl⟩ := str_row (n := 4) (hv 2 9 r2 rfl rfl)
    obtain ⟨x3, rfl, h3⟩ := u64_row (n := 4) (hv 3 24 r3 rfl rfl)
    have : argVs Try.prog [23, 9, 9, 24] [[.ro (rowsC x0)], [.str x1], [.str x2], [.int .u64 x3]] = [.pv (.ro (rowsC x0)), .pv (.str x1), .pv (.str x2), .pv (.int .u64 x3)] := by
      simp [argVs, argV, st_cat, st_str, st_u64]
    rw [this]
    exact c_catDoes x0 x1 x2 x3

theorem catalogDoes_lifted (os : Os) (started : os.Started) (H : Type) (enc : TypeId × Value → H) :
    ReturnsInHanded {} Try.checked os 3 .any (Rows.catalogDoesSpec.pre6 enc Try.prog Try.f3 Rows.catalogDoesRow.domain false) (Rows.catalogDoesSpec.post enc Try.prog Try.f3 false true false false) := by
  refine returnsInHanded_of_change (C := Try.checked) Try.own started (by kernel_rfl) Try.func3
    (ChangeSpec.witness6 (enc := enc) (C := Try.checked) false ⟨#[], #[.slice none 0 0, .string ⟨#[]⟩, .string ⟨#[]⟩, .int .u64 0], []⟩ 8 (by kernel_rfl) (by kernel_rfl) (by kernel_rfl) (by kernel_rfl)) ?_
  intro W base args ds gs before hval hW hcnd _
  have hpar : Try.f3.params.toList = [23, 9, 9, 24] := by rw [Try.params3]
  refine law_post (P := Try.prog) (n := 5) (tb := 4) Try.laidOut ?_ ?_ (by kernel_rfl) Try.underlying4 rfl ?_ hval hW
  · rw [hpar]; exact catalogDoes_con
  · rw [hpar]
    intro t ht
    simp only [List.mem_cons, List.not_mem_nil, or_false] at ht
    rcases ht with rfl | rfl | rfl | rfl
    · exact ⟨pl_cat, rd_cat, of_decide_eq_true (by kernel_rfl)⟩
    · exact ⟨pl_str, rd_str, of_decide_eq_true (by kernel_rfl)⟩
    · exact ⟨pl_str, rd_str, of_decide_eq_true (by kernel_rfl)⟩
    · exact ⟨pl_u64, rd_u64, of_decide_eq_true (by kernel_rfl)⟩
  · intro ds hd
    rw [hpar] at hd
    match ds, hd with
    | [d0, d1, d2, d3], _ => rfl

theorem catalogDoes_holds : Rows.CatalogDoesSaid :=
  OpenClaim.holds_of_wide 3 Try.f3 rfl rfl rfl rfl rfl rfl rfl ⟨rfl, rfl, rfl, rfl, rfl⟩ rfl rfl rfl rfl rfl (by kernel_rfl) Try.func3 (by kernel_rfl)
    (of_decide_eq_true (by kernel_rfl)) (by unfold Func.isWrapper; rw [if_neg (by decide +kernel)]; exact ⟨rfl, rfl⟩)
    (fun os started H enc _ => catalogDoes_lifted os started H enc)

end Go.Proofs.Ytfpmjcdcpicmaaa
