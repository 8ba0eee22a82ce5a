/- Any versions have one more, are forgotten, and made inline, as the document says, and stay as they were. The law's call returns true, and what is handed in reads behind it as it did. No condition. -/
import Derived.Test.YtfpmjcdcpicmaaaW26
import Derived.Test.YtfpmjcdcpicmaaaF3
namespace Go.Proofs.Ytfpmjcdcpicmaaa
open Go Go.RowKit Go.WideShapes Go.ChangeShapes Ab
set_option maxRecDepth 100000

theorem versionChanges_con : LawCon Try.prog 5 9 [63, 70, 90, 44] := by
  intro rows hl hv
  match rows, hl with
  | [r0, r1, r2, r3], _ =>
    obtain ⟨x0, rfl, h0⟩ := ver_row (n := 1) (hv 0 63 r0 rfl rfl)
    obtain ⟨x1, rfl, h1⟩ := vn_row (n := 2) (hv 1 70 r1 rfl rfl)
    obtain ⟨x2, rfl⟩ := us_row (n := 3) (hv 2 90 r2 rfl rfl)
    obtain ⟨x3, rfl⟩ := ss_row (n := 3) (hv 3 44 r3 rfl rfl)
    have : argVs Try.prog [63, 70, 90, 44] [[.ro (rowsV x0)], rowV x1, [.ro (rowsU x2)], [.ro (rowsSt x3)]] = [.pv (.ro (rowsV x0)), .agg (cellsV x1), .pv (.ro (rowsU x2)), .pv (.ro (rowsSt x3))] := by
      simp [argVs, argV, st_ss, st_us, st_ver, st_vn, rowV, cellsV]
    rw [this]
    exact c_verChanges x0 x1 x2 x3 h0 h1

theorem versionChanges_lifted (os : Os) (started : os.Started) (H : Type) (enc : TypeId × Value → H) :
    ReturnsInHanded {} Try.checked os 9 .any (Rows.versionChangesSpec.pre6 enc Try.prog Try.f9 Rows.versionChangesRow.domain false) (Rows.versionChangesSpec.post enc Try.prog Try.f9 false true false false) := by
  refine returnsInHanded_of_change (C := Try.checked) Try.own started (by kernel_rfl) Try.func9
    (ChangeSpec.witness6 (enc := enc) (C := Try.checked) false ⟨#[], #[.slice none 0 0, .agg #[.int .u64 0, .int .u64 0, .int .u64 0, .int .u64 0, .int .u64 0, .int .u64 0, .int .u64 0, .string ⟨#[]⟩, .bool false, .bool false], .slice none 0 0, .slice none 0 0], []⟩ 8 (by kernel_rfl) (by kernel_rfl) (by kernel_rfl) (by kernel_rfl)) ?_
  intro W base args ds gs before hval hW hcnd _
  have hpar : Try.f9.params.toList = [63, 70, 90, 44] := by rw [Try.params9]
  refine law_post (P := Try.prog) (n := 5) (tb := 4) Try.laidOut ?_ ?_ (by kernel_rfl) Try.underlying4 rfl ?_ hval hW
  · rw [hpar]; exact versionChanges_con
  · rw [hpar]
    intro t ht
    simp only [List.mem_cons, List.not_mem_nil, or_false] at ht
    rcases ht with rfl | rfl | rfl | rfl
    · exact ⟨pl_ver, rd_ver, of_decide_eq_true (by kernel_rfl)⟩
    · exact ⟨pl_vn, rd_vn, of_decide_eq_true (by kernel_rfl)⟩
    · exact ⟨pl_us, rd_us, of_decide_eq_true (by kernel_rfl)⟩
    · exact ⟨pl_ss, rd_ss, of_decide_eq_true (by kernel_rfl)⟩
  · intro ds hd
    rw [hpar] at hd
    match ds, hd with
    | [d0, d1, d2, d3], _ => rfl

theorem versionChanges_holds : Rows.VersionChangesSaid :=
  OpenClaim.holds_of_wide 9 Try.f9 rfl rfl rfl rfl rfl rfl rfl ⟨rfl, rfl, rfl, rfl, rfl⟩ rfl rfl rfl rfl rfl (by kernel_rfl) Try.func9 (by kernel_rfl)
    (of_decide_eq_true (by kernel_rfl)) (by unfold Func.isWrapper; rw [if_neg (by decide +kernel)]; exact ⟨rfl, rfl⟩)
    (fun os started H enc _ => versionChanges_lifted os started H enc)

end Go.Proofs.Ytfpmjcdcpicmaaa
