/- What is bound may be unbound, and what is renamed renamed back: what is left is what was there. The law's call returns true, and what is handed in reads behind it as it did. No condition. -/
import Derived.Test.YtfpmjcdcpicmaaaC7
import Derived.Test.YtfpmjcdcpicmaaaF2
namespace Go.Proofs.Ytfpmjcdcpicmaaa
open Go Go.RowKit Go.WideShapes Go.ChangeShapes Ab
set_option maxRecDepth 100000

theorem catalogBack_con : LawCon Try.prog 5 4 [23, 9, 9, 9, 24] := by
  intro rows hl hv
  match rows, hl with
  | [r0, r1, r2, r3, r4], _ =>
    obtain ⟨x0, rfl, h0⟩ := cat_row (n := 2) (hv 0 23 r0 rfl rfl)
    obtain ⟨x1, rfl⟩ := str_row (n := 4) (hv 1 9 r1 rfl rfl)
    obtain ⟨x2, rfl⟩ := str_row (n := 4) (hv 2 9 r2 rfl rfl)
    obtain ⟨x3, rfl⟩ := str_row (n := 4) (hv 3 9 r3 rfl rfl)
    obtain ⟨x4, rfl, h4⟩ := u64_row (n := 4) (hv 4 24 r4 rfl rfl)
    have : argVs Try.prog [23, 9, 9, 9, 24] [[.ro (rowsC x0)], [.str x1], [.str x2], [.str x3], [.int .u64 x4]] = [.pv (.ro (rowsC x0)), .pv (.str x1), .pv (.str x2), .pv (.str x3), .pv (.int .u64 x4)] := by
      simp [argVs, argV, st_cat, st_str, st_u64]
    rw [this]
    exact c_catBack x0 x1 x2 x3 x4

theorem catalogBack_lifted (os : Os) (started : os.Started) (H : Type) (enc : TypeId × Value → H) :
    ReturnsInHanded {} Try.checked os 4 .any (Rows.catalogBackSpec.pre6 enc Try.prog Try.f4 Rows.catalogBackRow.domain false) (Rows.catalogBackSpec.post enc Try.prog Try.f4 false true false false) := by
  refine returnsInHanded_of_change (C := Try.checked) Try.own started (by kernel_rfl) Try.func4
    (ChangeSpec.witness6 (enc := enc) (C := Try.checked) false ⟨#[], #[.slice none 0 0, .string ⟨#[]⟩, .string ⟨#[]⟩, .string ⟨#[]⟩, .int .u64 0], []⟩ 8 (by kernel_rfl) (by kernel_rfl) (by kernel_rfl) (by kernel_rfl)) ?_
  intro W base args ds gs before hval hW hcnd _
  have hpar : Try.f4.params.toList = [23, 9, 9, 9, 24] := by rw [Try.params4]
  refine law_post (P := Try.prog) (n := 5) (tb := 4) Try.laidOut ?_ ?_ (by kernel_rfl) Try.underlying4 rfl ?_ hval hW
  · rw [hpar]; exact catalogBack_con
  · rw [hpar]
    intro t ht
    simp only [List.mem_cons, List.not_mem_nil, or_false] at ht
    rcases ht with rfl | rfl | rfl | rfl | rfl
    · exact ⟨pl_cat, rd_cat, of_decide_eq_true (by kernel_rfl)⟩
    · exact ⟨pl_str, rd_str, of_decide_eq_true (by kernel_rfl)⟩
    · exact ⟨pl_str, rd_str, of_decide_eq_true (by kernel_rfl)⟩
    · exact ⟨pl_str, rd_str, of_decide_eq_true (by kernel_rfl)⟩
    · exact ⟨pl_u64, rd_u64, of_decide_eq_true (by kernel_rfl)⟩
  · intro ds hd
    rw [hpar] at hd
    match ds, hd with
    | [d0, d1, d2, d3, d4], _ => rfl

theorem catalogBack_holds : Rows.CatalogBackSaid :=
  OpenClaim.holds_of_wide 4 Try.f4 rfl rfl rfl rfl rfl rfl rfl ⟨rfl, rfl, rfl, rfl, rfl⟩ rfl rfl rfl rfl rfl (by kernel_rfl) Try.func4 (by kernel_rfl)
    (of_decide_eq_true (by kernel_rfl)) (by unfold Func.isWrapper; rw [if_neg (by decide +kernel)]; exact ⟨rfl, rfl⟩)
    (fun os started H enc _ => catalogBack_lifted os started H enc)

end Go.Proofs.Ytfpmjcdcpicmaaa
