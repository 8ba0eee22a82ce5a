/- What is forgotten stays forgotten, what is not has the same plan as it had, a plan is a chain, and the current version stays. The law's call returns true, and what is handed in reads behind it as it did. No condition. -/
import Derived.Test.YtfpmjcdcpicmaaaW28
import Derived.Test.YtfpmjcdcpicmaaaF3
namespace Go.Proofs.Ytfpmjcdcpicmaaa
open Go Go.RowKit Go.WideShapes Go.ChangeShapes Ab
set_option maxRecDepth 100000

theorem versionKeeps_con : LawCon Try.prog 5 8 [63, 90, 90] := by
  intro rows hl hv
  match rows, hl with
  | [r0, r1, r2], _ =>
    obtain ⟨x0, rfl, h0⟩ := ver_row (n := 1) (hv 0 63 r0 rfl rfl)
    obtain ⟨x1, rfl⟩ := us_row (n := 3) (hv 1 90 r1 rfl rfl)
    obtain ⟨x2, rfl⟩ := us_row (n := 3) (hv 2 90 r2 rfl rfl)
    have : argVs Try.prog [63, 90, 90] [[.ro (rowsV x0)], [.ro (rowsU x1)], [.ro (rowsU x2)]] = [.pv (.ro (rowsV x0)), .pv (.ro (rowsU x1)), .pv (.ro (rowsU x2))] := by
      simp [argVs, argV, st_us, st_ver]
    rw [this]
    exact c_verKeeps x0 x1 x2 h0

theorem versionKeeps_lifted (os : Os) (started : os.Started) (H : Type) (enc : TypeId × Value → H) :
    ReturnsInHanded {} Try.checked os 8 .any (Rows.versionKeepsSpec.pre6 enc Try.prog Try.f8 Rows.versionKeepsRow.domain false) (Rows.versionKeepsSpec.post enc Try.prog Try.f8 false true false false) := by
  refine returnsInHanded_of_change (C := Try.checked) Try.own started (by kernel_rfl) Try.func8
    (ChangeSpec.witness6 (enc := enc) (C := Try.checked) false ⟨#[], #[.slice none 0 0, .slice none 0 0, .slice none 0 0], []⟩ 8 (by kernel_rfl) (by kernel_rfl) (by kernel_rfl) (by kernel_rfl)) ?_
  intro W base args ds gs before hval hW hcnd _
  have hpar : Try.f8.params.toList = [63, 90, 90] := by rw [Try.params8]
  refine law_post (P := Try.prog) (n := 5) (tb := 4) Try.laidOut ?_ ?_ (by kernel_rfl) Try.underlying4 rfl ?_ hval hW
  · rw [hpar]; exact versionKeeps_con
  · rw [hpar]
    intro t ht
    simp only [List.mem_cons, List.not_mem_nil, or_false] at ht
    rcases ht with rfl | rfl | rfl
    · exact ⟨pl_ver, rd_ver, of_decide_eq_true (by kernel_rfl)⟩
    · exact ⟨pl_us, rd_us, of_decide_eq_true (by kernel_rfl)⟩
    · exact ⟨pl_us, rd_us, of_decide_eq_true (by kernel_rfl)⟩
  · intro ds hd
    rw [hpar] at hd
    match ds, hd with
    | [d0, d1, d2], _ => rfl

theorem versionKeeps_holds : Rows.VersionKeepsSaid :=
  OpenClaim.holds_of_wide 8 Try.f8 rfl rfl rfl rfl rfl rfl rfl ⟨rfl, rfl, rfl, rfl, rfl⟩ rfl rfl rfl rfl rfl (by kernel_rfl) Try.func8 (by kernel_rfl)
    (of_decide_eq_true (by kernel_rfl)) (by unfold Func.isWrapper; rw [if_neg (by decide +kernel)]; exact ⟨rfl, rfl⟩)
    (fun os started H enc _ => versionKeeps_lifted os started H enc)

end Go.Proofs.Ytfpmjcdcpicmaaa
