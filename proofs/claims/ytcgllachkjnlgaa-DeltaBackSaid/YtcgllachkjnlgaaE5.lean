/- DeltaBack: for any text, any edits, any bytes. The law's call returns true, and what is handed in reads behind it as it did. No condition. -/
import Derived.Test.YtcgllachkjnlgaaD39
import Derived.Test.YtcgllachkjnlgaaE1
namespace Go.Proofs.Ytcgllachkjnlgaa
open Go Go.RowKit Go.WideShapes Go.ChangeShapes Ab

theorem deltaBack_con : LawCon Try.prog 5 6 [9, 22, 38] := by
  intro rows hl hv
  match rows, hl with
  | [r0, r1, r2], _ =>
    obtain ⟨x0, rfl⟩ := str_row (hv 0 9 r0 rfl rfl)
    obtain ⟨x1, rfl⟩ := eds_row (hv 1 22 r1 rfl rfl)
    obtain ⟨x2, rfl⟩ := bs_row (hv 2 38 r2 rfl rfl)
    have : argVs Try.prog [9, 22, 38] [[.str x0], [.ro (rowsE x1)], [.ro (Ab.bytesRow x2)]] = [.pv (.str x0), .pv (.ro (rowsE x1)), .pv (.ro (Ab.bytesRow x2))] := by
      simp [argVs, argV, st_bs, st_eds, st_str]
    rw [this]
    exact c_back x0 x1 x2

theorem deltaBack_lifted (os : Os) (started : os.Started) (H : Type) (enc : TypeId × Value → H) :
    ReturnsInHanded {} Try.checked os 6 .any (Rows.deltaBackSpec.pre6 enc Try.prog Try.f6 Rows.deltaBackRow.domain false) (Rows.deltaBackSpec.post enc Try.prog Try.f6 false true false false) := by
  refine returnsInHanded_of_change (C := Try.checked) Try.own started (by kernel_rfl) Try.func6
    (ChangeSpec.witness6 (enc := enc) (C := Try.checked) false ⟨#[], #[.string ⟨#[]⟩, .slice none 0 0, .slice none 0 0], []⟩ 8 (by kernel_rfl) (by kernel_rfl) (by kernel_rfl) (by kernel_rfl)) ?_
  intro W base args ds gs before hval hW hcnd _
  have hpar : Try.f6.params.toList = [9, 22, 38] := by rw [Try.params6]
  refine law_post (P := Try.prog) (n := 5) (tb := 4) Try.laidOut ?_ ?_ (by kernel_rfl) Try.underlying4 rfl ?_ hval hW
  · rw [hpar]; exact deltaBack_con
  · rw [hpar]
    intro t ht
    simp only [List.mem_cons, List.not_mem_nil, or_false] at ht
    rcases ht with rfl | rfl | rfl
    · exact ⟨pl_str, rd_str, of_decide_eq_true (by kernel_rfl)⟩
    · exact ⟨pl_eds, rd_eds, of_decide_eq_true (by kernel_rfl)⟩
    · exact ⟨pl_bs, rd_bs, of_decide_eq_true (by kernel_rfl)⟩
  · intro ds hd
    rw [hpar] at hd
    match ds, hd with
    | [d0, d1, d2], _ => rfl

theorem deltaBack_holds : Rows.DeltaBackSaid :=
  OpenClaim.holds_of_wide 6 Try.f6 rfl rfl rfl rfl rfl rfl rfl ⟨rfl, rfl, rfl, rfl, rfl⟩ rfl rfl rfl rfl rfl (by kernel_rfl) Try.func6 (by kernel_rfl)
    (of_decide_eq_true (by kernel_rfl)) (by unfold Func.isWrapper; rw [if_neg (by decide +kernel)]; exact ⟨rfl, rfl⟩)
    (fun os started H enc _ => deltaBack_lifted os started H enc)

end Go.Proofs.Ytcgllachkjnlgaa
