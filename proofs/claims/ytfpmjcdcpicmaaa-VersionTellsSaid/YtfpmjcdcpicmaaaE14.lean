/- Of any versions it is told whether they are right, which one has a number, which one is current, which are seen, and what a plan is, as the document says. The law's call returns true, and what is handed in reads behind it as it did. No condition. -/
import Derived.Test.YtfpmjcdcpicmaaaW25
import Derived.Test.YtfpmjcdcpicmaaaF3
namespace Go.Proofs.Ytfpmjcdcpicmaaa
open Go Go.RowKit Go.WideShapes Go.ChangeShapes Ab
set_option maxRecDepth 100000

theorem versionTells_con : LawCon Try.prog 5 7 [63, 24] := by
  intro rows hl hv
  match rows, hl with
  | [r0, r1], _ =>
    obtain ⟨x0, rfl, h0⟩ := ver_row (n := 1) (hv 0 63 r0 rfl rfl)
    obtain ⟨x1, rfl, h1⟩ := u64_row (n := 4) (hv 1 24 r1 rfl rfl)
    have : argVs Try.prog [63, 24] [[.ro (rowsV x0)], [.int .u64 x1]] = [.pv (.ro (rowsV x0)), .pv (.int .u64 x1)] := by
      simp [argVs, argV, st_u64, st_ver]
    rw [this]
    exact c_verTells x0 x1 h0

theorem versionTells_lifted (os : Os) (started : os.Started) (H : Type) (enc : TypeId × Value → H) :
    ReturnsInHanded {} Try.checked os 7 .any (Rows.versionTellsSpec.pre6 enc Try.prog Try.f7 Rows.versionTellsRow.domain false) (Rows.versionTellsSpec.post enc Try.prog Try.f7 false true false false) := by
  refine returnsInHanded_of_change (C := Try.checked) Try.own started (by kernel_rfl) Try.func7
    (ChangeSpec.witness6 (enc := enc) (C := Try.checked) false ⟨#[], #[.slice none 0 0, .int .u64 0], []⟩ 8 (by kernel_rfl) (by kernel_rfl) (by kernel_rfl) (by kernel_rfl)) ?_
  intro W base args ds gs before hval hW hcnd _
  have hpar : Try.f7.params.toList = [63, 24] := by rw [Try.params7]
  refine law_post (P := Try.prog) (n := 5) (tb := 4) Try.laidOut ?_ ?_ (by kernel_rfl) Try.underlying4 rfl ?_ hval hW
  · rw [hpar]; exact versionTells_con
  · rw [hpar]
    intro t ht
    simp only [List.mem_cons, List.not_mem_nil, or_false] at ht
    rcases ht with rfl | rfl
    · exact ⟨pl_ver, rd_ver, of_decide_eq_true (by kernel_rfl)⟩
    · exact ⟨pl_u64, rd_u64, of_decide_eq_true (by kernel_rfl)⟩
  · intro ds hd
    rw [hpar] at hd
    match ds, hd with
    | [d0, d1], _ => rfl

theorem versionTells_holds : Rows.VersionTellsSaid :=
  OpenClaim.holds_of_wide 7 Try.f7 rfl rfl rfl rfl rfl rfl rfl ⟨rfl, rfl, rfl, rfl, rfl⟩ rfl rfl rfl rfl rfl (by kernel_rfl) Try.func7 (by kernel_rfl)
    (of_decide_eq_true (by kernel_rfl)) (by unfold Func.isWrapper; rw [if_neg (by decide +kernel)]; exact ⟨rfl, rfl⟩)
    (fun os started H enc _ => versionTells_lifted os started H enc)

end Go.Proofs.Ytfpmjcdcpicmaaa
