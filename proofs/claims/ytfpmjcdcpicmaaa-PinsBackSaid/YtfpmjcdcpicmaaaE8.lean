/- What is added may be removed, and what is left is what was there; live ones stay live among themselves, and for a later clock no others are; what is put is taken as it was. The law's call returns true, and what is handed in reads behind it as it did. No condition. -/
import Derived.Test.YtfpmjcdcpicmaaaP18
import Derived.Test.YtfpmjcdcpicmaaaF1
namespace Go.Proofs.Ytfpmjcdcpicmaaa
open Go Go.RowKit Go.WideShapes Go.ChangeShapes Ab
set_option maxRecDepth 100000

theorem pinsBack_con : LawCon Try.prog 5 14 [115, 117, 24, 24, 24, 54, 54] := by
  intro rows hl hv
  match rows, hl with
  | [r0, r1, r2, r3, r4, r5, r6], _ =>
    obtain ⟨x0, rfl, h0⟩ := pins_row (n := 1) (hv 0 115 r0 rfl rfl)
    obtain ⟨x1, rfl, h1⟩ := pin_row (n := 3) (hv 1 117 r1 rfl rfl)
    obtain ⟨x2, rfl, h2⟩ := u64_row (n := 4) (hv 2 24 r2 rfl rfl)
    obtain ⟨x3, rfl, h3⟩ := u64_row (n := 4) (hv 3 24 r3 rfl rfl)
    obtain ⟨x4, rfl, h4⟩ := u64_row (n := 4) (hv 4 24 r4 rfl rfl)
    obtain ⟨x5, rfl⟩ := bs_row (n := 3) (hv 5 54 r5 rfl rfl)
    obtain ⟨x6, rfl⟩ := bs_row (n := 3) (hv 6 54 r6 rfl rfl)
    have : argVs Try.prog [115, 117, 24, 24, 24, 54, 54] [[.ro (rowsP x0)], rowP x1, [.int .u64 x2], [.int .u64 x3], [.int .u64 x4], [.ro (Ab.bytesRow x5)], [.ro (Ab.bytesRow x6)]] = [.agg [.pv (.ro (rowsP x0))], .agg [.pv (.int .u64 x1.i), .pv (.int .u64 x1.v), .pv (.int .u64 x1.u)], .pv (.int .u64 x2), .pv (.int .u64 x3), .pv (.int .u64 x4), .pv (.ro (Ab.bytesRow x5)), .pv (.ro (Ab.bytesRow x6))] := by
      simp [argVs, argV, st_bs, st_u64, st_pins, st_pin, rowP]
    rw [this]
    exact c_pinsBack x0 x1.i x1.v x1.u x2 x3 x4 x5 x6 h0 h1 h2 h3 h4

theorem pinsBack_lifted (os : Os) (started : os.Started) (H : Type) (enc : TypeId × Value → H) :
    ReturnsInHanded {} Try.checked os 14 .any (Rows.pinsBackSpec.pre6 enc Try.prog Try.f14 Rows.pinsBackRow.domain false) (Rows.pinsBackSpec.post enc Try.prog Try.f14 false true false false) := by
  refine returnsInHanded_of_change (C := Try.checked) Try.own started (by kernel_rfl) Try.func14
    (ChangeSpec.witness6 (enc := enc) (C := Try.checked) false ⟨#[], #[.agg #[.slice none 0 0], .agg #[.int .u64 0, .int .u64 0, .int .u64 0], .int .u64 0, .int .u64 0, .int .u64 0, .slice none 0 0, .slice none 0 0], []⟩ 8 (by kernel_rfl) (by kernel_rfl) (by kernel_rfl) (by kernel_rfl)) ?_
  intro W base args ds gs before hval hW hcnd _
  have hpar : Try.f14.params.toList = [115, 117, 24, 24, 24, 54, 54] := by rw [Try.params14]
  refine law_post (P := Try.prog) (n := 5) (tb := 4) Try.laidOut ?_ ?_ (by kernel_rfl) Try.underlying4 rfl ?_ hval hW
  · rw [hpar]; exact pinsBack_con
  · rw [hpar]
    intro t ht
    simp only [List.mem_cons, List.not_mem_nil, or_false] at ht
    rcases ht with rfl | rfl | rfl | rfl | rfl | rfl | rfl
    · exact ⟨pl_pins, rd_pins, of_decide_eq_true (by kernel_rfl)⟩
    · exact ⟨pl_pin, rd_pin, of_decide_eq_true (by kernel_rfl)⟩
    · exact ⟨pl_u64, rd_u64, of_decide_eq_true (by kernel_rfl)⟩
    · exact ⟨pl_u64, rd_u64, of_decide_eq_true (by kernel_rfl)⟩
    · exact ⟨pl_u64, rd_u64, of_decide_eq_true (by kernel_rfl)⟩
    · exact ⟨pl_bs, rd_bs, of_decide_eq_true (by kernel_rfl)⟩
    · exact ⟨pl_bs, rd_bs, of_decide_eq_true (by kernel_rfl)⟩
  · intro ds hd
    rw [hpar] at hd
    match ds, hd with
    | [d0, d1, d2, d3, d4, d5, d6], _ => rfl

theorem pinsBack_holds : Rows.PinsBackSaid :=
  OpenClaim.holds_of_wide 14 Try.f14 rfl rfl rfl rfl rfl rfl rfl ⟨rfl, rfl, rfl, rfl, rfl⟩ rfl rfl rfl rfl rfl (by kernel_rfl) Try.func14 (by kernel_rfl)
    (of_decide_eq_true (by kernel_rfl)) (by unfold Func.isWrapper; rw [if_neg (by decide +kernel)]; exact ⟨rfl, rfl⟩)
    (fun os started H enc _ => pinsBack_lifted os started H enc)

end Go.Proofs.Ytfpmjcdcpicmaaa
