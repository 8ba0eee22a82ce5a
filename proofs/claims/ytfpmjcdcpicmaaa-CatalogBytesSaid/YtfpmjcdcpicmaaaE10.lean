/- What is written is read back, what is read was written so, and both sides agree on it. The law's call returns true, and what is handed in reads behind it as it did. No condition. -/
import Derived.Test.YtfpmjcdcpicmaaaC11
import Derived.Test.YtfpmjcdcpicmaaaF2
namespace Go.Proofs.Ytfpmjcdcpicmaaa
open Go Go.RowKit Go.WideShapes Go.ChangeShapes Ab
set_option maxRecDepth 100000

theorem catalogBytes_con : LawCon Try.prog 5 5 [23, 54] := by
  intro rows hl hv
  match rows, hl with
  | [r0, r1], _ =>
    obtain ⟨x0, rfl, h0⟩ := cat_row (n := 2) (hv 0 23 r0 rfl rfl)
    obtain ⟨x1, rfl⟩ := bs_row (n := 3) (hv 1 54 r1 rfl rfl)
    have : argVs Try.prog [23, 54] [[.ro (rowsC x0)], [.ro (Ab.bytesRow x1)]] = [.pv (.ro (rowsC x0)), .pv (.ro (Ab.bytesRow x1))] := by
      simp [argVs, argV, st_cat, st_bs]
    rw [this]
    exact c_catBytes x0 x1 fun e he => ⟨(h0 e he).1, by have := (h0 e he).2; omega⟩

theorem catalogBytes_lifted (os : Os) (started : os.Started) (H : Type) (enc : TypeId × Value → H) :
    ReturnsInHanded {} Try.checked os 5 .any (Rows.catalogBytesSpec.pre6 enc Try.prog Try.f5 Rows.catalogBytesRow.domain false) (Rows.catalogBytesSpec.post enc Try.prog Try.f5 false true false false) := by
  refine returnsInHanded_of_change (C := Try.checked) Try.own started (by kernel_rfl) Try.func5
    (ChangeSpec.witness6 (enc := enc) (C := Try.checked) false ⟨#[], #[.slice none 0 0, .slice none 0 0], []⟩ 8 (by kernel_rfl) (by kernel_rfl) (by kernel_rfl) (by kernel_rfl)) ?_
  intro W base args ds gs before hval hW hcnd _
  have hpar : Try.f5.params.toList = [23, 54] := by rw [Try.params5]
  refine law_post (P := Try.prog) (n := 5) (tb := 4) Try.laidOut ?_ ?_ (by kernel_rfl) Try.underlying4 rfl ?_ hval hW
  · rw [hpar]; exact catalogBytes_con
  · rw [hpar]
    intro t ht
    simp only [List.mem_cons, List.not_mem_nil, or_false] at ht
    rcases ht with rfl | rfl
    · exact ⟨pl_cat, rd_cat, of_decide_eq_true (by kernel_rfl)⟩
    · exact ⟨pl_bs, rd_bs, of_decide_eq_true (by kernel_rfl)⟩
  · intro ds hd
    rw [hpar] at hd
    match ds, hd with
    | [d0, d1], _ => rfl

theorem catalogBytes_holds : Rows.CatalogBytesSaid :=
  OpenClaim.holds_of_wide 5 Try.f5 rfl rfl rfl rfl rfl rfl rfl ⟨rfl, rfl, rfl, rfl, rfl⟩ rfl rfl rfl rfl rfl (by kernel_rfl) Try.func5 (by kernel_rfl)
    (of_decide_eq_true (by kernel_rfl)) (by unfold Func.isWrapper; rw [if_neg (by decide +kernel)]; exact ⟨rfl, rfl⟩)
    (fun os started H enc _ => catalogBytes_lifted os started H enc)

end Go.Proofs.Ytfpmjcdcpicmaaa
