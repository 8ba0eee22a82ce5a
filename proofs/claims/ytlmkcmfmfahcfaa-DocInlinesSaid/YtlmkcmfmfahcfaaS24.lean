/- Of any document, with any texts, the inlined one is the document's, and whether two are the same. The law's call returns true, and what is handed in reads behind it as it did. No condition. -/
import Derived.Test.YtlmkcmfmfahcfaaZ14
namespace Go.Proofs.Ytlmkcmfmfahcfaa
open Go Go.RowKit Go.WideShapes Go.ChangeShapes Ab
set_option maxRecDepth 100000

theorem docInlines_con : LawCon Try.prog 5 4 [33, 33, 44] := by
  intro rows hl hv
  match rows, hl with
  | [r0, r1, r2], _ =>
    obtain ⟨x0, rfl, h0⟩ := doc_row (n := 0) (hv 0 33 r0 rfl rfl)
    obtain ⟨x1, rfl, h1⟩ := doc_row (n := 0) (hv 1 33 r1 rfl rfl)
    obtain ⟨x2, rfl, h2⟩ := ss_row (n := 3) (hv 2 44 r2 rfl rfl)
    have : argVs Try.prog [33, 33, 44] [rowD x0, rowD x1, [.ro (rowsSt x2)]] = [.agg (cellsD x0), .agg (cellsD x1), .pv (.ro (rowsSt x2))] := by
      simp [argVs, argV, st_doc, st_ss, rowD, cellsD]
    rw [this]
    exact c_docInl x0 x1 x2 h0.1 h1.1 h0.2.1 h2

theorem docInlines_lifted (os : Os) (started : os.Started) (H : Type) (enc : TypeId × Value → H) :
    ReturnsInHanded {} Try.checked os 4 .any (Rows.docInlinesSpec.pre6 enc Try.prog Try.f4 Rows.docInlinesRow.domain false) (Rows.docInlinesSpec.post enc Try.prog Try.f4 false true false false) := by
  refine returnsInHanded_of_change (C := Try.checked) Try.own started (by kernel_rfl) Try.func4
    (ChangeSpec.witness6 (enc := enc) (C := Try.checked) false ⟨#[], #[.agg #[.int .u64 0, .int .u64 0, .int .u64 0, .int .u64 0, .bool false, .slice none 0 0, .slice none 0 0, .bool false], .agg #[.int .u64 0, .int .u64 0, .int .u64 0, .int .u64 0, .bool false, .slice none 0 0, .slice none 0 0, .bool false], .slice none 0 0], []⟩ 8 (by kernel_rfl) (by kernel_rfl) (by kernel_rfl) (by kernel_rfl)) ?_
  intro W base args ds gs before hval hW hcnd _
  have hpar : Try.f4.params.toList = [33, 33, 44] := by rw [Try.params4]
  refine law_post (P := Try.prog) (n := 5) (tb := 4) Try.laidOut ?_ ?_ (by kernel_rfl) Try.underlying4 rfl ?_ hval hW
  · rw [hpar]; exact docInlines_con
  · rw [hpar]
    intro t ht
    simp only [List.mem_cons, List.not_mem_nil, or_false] at ht
    rcases ht with rfl | rfl | rfl
    · exact ⟨pl_doc, rd_doc, of_decide_eq_true (by kernel_rfl)⟩
    · exact ⟨pl_doc, rd_doc, of_decide_eq_true (by kernel_rfl)⟩
    · exact ⟨pl_ss, rd_ss, of_decide_eq_true (by kernel_rfl)⟩
  · intro ds hd
    rw [hpar] at hd
    match ds, hd with
    | [d0, d1, d2], _ => rfl

theorem docInlines_holds : Rows.DocInlinesSaid :=
  OpenClaim.holds_of_wide 4 Try.f4 rfl rfl rfl rfl rfl rfl rfl ⟨rfl, rfl, rfl, rfl, rfl⟩ rfl rfl rfl rfl rfl (by kernel_rfl) Try.func4 (by kernel_rfl)
    (of_decide_eq_true (by kernel_rfl)) (by unfold Func.isWrapper; rw [if_neg (by decide +kernel)]; exact ⟨rfl, rfl⟩)
    (fun os started H enc _ => docInlines_lifted os started H enc)

end Go.Proofs.Ytlmkcmfmfahcfaa
