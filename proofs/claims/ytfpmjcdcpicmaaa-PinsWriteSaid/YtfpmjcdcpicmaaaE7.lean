/- Pins are written, and any bytes read as pins, alike on both sides. The law's call returns true, and what is handed in reads behind it as it did. No condition. -/
import Derived.Test.YtfpmjcdcpicmaaaP15
import Derived.Test.YtfpmjcdcpicmaaaF1
namespace Go.Proofs.Ytfpmjcdcpicmaaa
open Go Go.RowKit Go.WideShapes Go.ChangeShapes Ab
set_option maxRecDepth 100000

theorem pinsWrite_con : LawCon Try.prog 5 13 [115, 54, 3] := by
  intro rows hl hv
  match rows, hl with
  | [r0, r1, r2], _ =>
    obtain ⟨x0, rfl, h0⟩ := pins_row (n := 1) (hv 0 115 r0 rfl rfl)
    obtain ⟨x1, rfl⟩ := bs_row (n := 3) (hv 1 54 r1 rfl rfl)
    obtain ⟨x2, rfl, h1, h2⟩ := int_row (n := 4) (hv 2 3 r2 rfl rfl)
    have : argVs Try.prog [115, 54, 3] [[.ro (rowsP x0)], [.ro (Ab.bytesRow x1)], [.int .i64 x2]] = [.agg [.pv (.ro (rowsP x0))], .pv (.ro (Ab.bytesRow x1)), .pv (.int .i64 x2)] := by
      simp [argVs, argV, st_bs, st_int, st_pins]
    rw [this]
    exact c_pinsWrite x0 x1 x2 h0 h1 h2

theorem pinsWrite_lifted (os : Os) (started : os.Started) (H : Type) (enc : TypeId × Value → H) :
    ReturnsInHanded {} Try.checked os 13 .any (Rows.pinsWriteSpec.pre6 enc Try.prog Try.f13 Rows.pinsWriteRow.domain false) (Rows.pinsWriteSpec.post enc Try.prog Try.f13 false true false false) := by
  refine returnsInHanded_of_change (C := Try.checked) Try.own started (by kernel_rfl) Try.func13
    (ChangeSpec.witness6 (enc := enc) (C := Try.checked) false ⟨#[], #[.agg #[.slice none 0 0], .slice none 0 0, .int .i64 0], []⟩ 8 (by kernel_rfl) (by kernel_rfl) (by kernel_rfl) (by kernel_rfl)) ?_
  intro W base args ds gs before hval hW hcnd _
  have hpar : Try.f13.params.toList = [115, 54, 3] := by rw [Try.params13]
  refine law_post (P := Try.prog) (n := 5) (tb := 4) Try.laidOut ?_ ?_ (by kernel_rfl) Try.underlying4 rfl ?_ hval hW
  · rw [hpar]; exact pinsWrite_con
  · rw [hpar]
    intro t ht
    simp only [List.mem_cons, List.not_mem_nil, or_false] at ht
    rcases ht with rfl | rfl | rfl
    · exact ⟨pl_pins, rd_pins, of_decide_eq_true (by kernel_rfl)⟩
    · exact ⟨pl_bs, rd_bs, of_decide_eq_true (by kernel_rfl)⟩
    · exact ⟨pl_int, rd_int, of_decide_eq_true (by kernel_rfl)⟩
  · intro ds hd
    rw [hpar] at hd
    match ds, hd with
    | [d0, d1, d2], _ => rfl

theorem pinsWrite_holds : Rows.PinsWriteSaid :=
  OpenClaim.holds_of_wide 13 Try.f13 rfl rfl rfl rfl rfl rfl rfl ⟨rfl, rfl, rfl, rfl, rfl⟩ rfl rfl rfl rfl rfl (by kernel_rfl) Try.func13 (by kernel_rfl)
    (of_decide_eq_true (by kernel_rfl)) (by unfold Func.isWrapper; rw [if_neg (by decide +kernel)]; exact ⟨rfl, rfl⟩)
    (fun os started H enc _ => pinsWrite_lifted os started H enc)

end Go.Proofs.Ytfpmjcdcpicmaaa
