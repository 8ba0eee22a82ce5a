/- Of any pins, whatever is asked, the program's answer is the reference's; the pins stay as they were, and what is answered may be written over. The law's call returns true, and what is handed in reads behind it as it did. No condition. -/
import Derived.Test.YthblkhafehanfaaZ11
namespace Go.Proofs.Ythblkhafehanfaa
open Go Go.RowKit Go.WideShapes Go.ChangeShapes Ab
set_option maxRecDepth 100000

theorem pinsTell_con : LawCon Try.prog 5 9 [80, 80, 83, 81, 81] := by
  intro rows hl hv
  match rows, hl with
  | [r0, r1, r2, r3, r4], _ =>
    obtain ⟨x0, rfl, h0⟩ := pins_row (n := 1) (hv 0 80 r0 rfl rfl)
    obtain ⟨x1, rfl, h1⟩ := pins_row (n := 1) (hv 1 80 r1 rfl rfl)
    obtain ⟨x2, rfl, h2⟩ := pin_row (n := 3) (hv 2 83 r2 rfl rfl)
    obtain ⟨x3, rfl, h3⟩ := u64_row (n := 4) (hv 3 81 r3 rfl rfl)
    obtain ⟨x4, rfl, h4⟩ := u64_row (n := 4) (hv 4 81 r4 rfl rfl)
    have : argVs Try.prog [80, 80, 83, 81, 81] [[.ro (rowsP x0)], [.ro (rowsP x1)], rowP x2, [.int .u64 x3], [.int .u64 x4]] = [.agg [.pv (.ro (rowsP x0))], .agg [.pv (.ro (rowsP x1))], .agg [.pv (.int .u64 x2.i), .pv (.int .u64 x2.v), .pv (.int .u64 x2.u)], .pv (.int .u64 x3), .pv (.int .u64 x4)] := by
      simp [argVs, argV, st_u64, st_pins, st_pin, rowP]
    rw [this]
    exact c_pinsTell x0 x1 x2.i x2.v x2.u x3 x4 h0 h3 h4

theorem pinsTell_lifted (os : Os) (started : os.Started) (H : Type) (enc : TypeId × Value → H) :
    ReturnsInHanded {} Try.checked os 9 .any (Rows.pinsTellSpec.pre6 enc Try.prog Try.f9 Rows.pinsTellRow.domain false) (Rows.pinsTellSpec.post enc Try.prog Try.f9 false true false false) := by
  refine returnsInHanded_of_change (C := Try.checked) Try.own started (by kernel_rfl) Try.func9
    (ChangeSpec.witness6 (enc := enc) (C := Try.checked) false ⟨#[], #[.agg #[.slice none 0 0], .agg #[.slice none 0 0], .agg #[.int .u64 0, .int .u64 0, .int .u64 0], .int .u64 0, .int .u64 0], []⟩ 8 (by kernel_rfl) (by kernel_rfl) (by kernel_rfl) (by kernel_rfl)) ?_
  intro W base args ds gs before hval hW hcnd _
  have hpar : Try.f9.params.toList = [80, 80, 83, 81, 81] := by rw [Try.params9]
  refine law_post (P := Try.prog) (n := 5) (tb := 4) Try.laidOut ?_ ?_ (by kernel_rfl) Try.underlying4 rfl ?_ hval hW
  · rw [hpar]; exact pinsTell_con
  · rw [hpar]
    intro t ht
    simp only [List.mem_cons, List.not_mem_nil, or_false] at ht
    rcases ht with rfl | rfl | rfl | rfl | rfl
    · exact ⟨pl_pins, rd_pins, of_decide_eq_true (by kernel_rfl)⟩
    · exact ⟨pl_pins, rd_pins, of_decide_eq_true (by kernel_rfl)⟩
    · exact ⟨pl_pin, rd_pin, of_decide_eq_true (by kernel_rfl)⟩
    · exact ⟨pl_u64, rd_u64, of_decide_eq_true (by kernel_rfl)⟩
    · exact ⟨pl_u64, rd_u64, of_decide_eq_true (by kernel_rfl)⟩
  · intro ds hd
    rw [hpar] at hd
    match ds, hd with
    | [d0, d1, d2, d3, d4], _ => rfl

theorem pinsTell_holds : Rows.PinsTellSaid :=
  OpenClaim.holds_of_wide 9 Try.f9 rfl rfl rfl rfl rfl rfl rfl ⟨rfl, rfl, rfl, rfl, rfl⟩ rfl rfl rfl rfl rfl (by kernel_rfl) Try.func9 (by kernel_rfl)
    (of_decide_eq_true (by kernel_rfl)) (by unfold Func.isWrapper; rw [if_neg (by decide +kernel)]; exact ⟨rfl, rfl⟩)
    (fun os started H enc _ => pinsTell_lifted os started H enc)

end Go.Proofs.Ythblkhafehanfaa
