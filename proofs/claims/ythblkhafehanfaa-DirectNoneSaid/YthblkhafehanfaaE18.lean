/- A directory that is not there answers so. The law's call returns true, and what is handed in reads behind it as it did. No condition. -/
import Derived.Test.YthblkhafehanfaaR12
import Derived.Test.YthblkhafehanfaaF4
namespace Go.Proofs.Ythblkhafehanfaa
open Go Go.RowKit Go.WideShapes Go.ChangeShapes Ab
set_option maxRecDepth 100000

theorem directNone_con : LawCon Try.prog 5 5 [9, 3] := by
  intro rows hl hv
  match rows, hl with
  | [r0, r1], _ =>
    obtain ⟨x0, rfl⟩ := str_row (n := 4) (hv 0 9 r0 rfl rfl)
    obtain ⟨x1, rfl⟩ := int_row (n := 4) (hv 1 3 r1 rfl rfl)
    have : argVs Try.prog [9, 3] [[.str x0], [.int .i64 x1]] = [.pv (.str x0), .pv (.int .i64 x1)] := by
      simp [argVs, argV, st_int, st_str]
    rw [this]
    exact c_dirNone x0 x1

theorem directNone_lifted (os : Os) (started : os.Started) (H : Type) (enc : TypeId × Value → H) :
    ReturnsInHanded {} Try.checked os 5 .any (Rows.directNoneSpec.pre6 enc Try.prog Try.f5 Rows.directNoneRow.domain false) (Rows.directNoneSpec.post enc Try.prog Try.f5 false true false false) := by
  refine returnsInHanded_of_change (C := Try.checked) Try.own started (by kernel_rfl) Try.func5
    (ChangeSpec.witness6 (enc := enc) (C := Try.checked) false ⟨#[], #[.string ⟨#[]⟩, .int .i64 0], []⟩ 8 (by kernel_rfl) (by kernel_rfl) (by kernel_rfl) (by kernel_rfl)) ?_
  intro W base args ds gs before hval hW hcnd _
  have hpar : Try.f5.params.toList = [9, 3] := by rw [Try.params5]
  refine law_post (P := Try.prog) (n := 5) (tb := 4) Try.laidOut ?_ ?_ (by kernel_rfl) Try.underlying4 rfl ?_ hval hW
  · rw [hpar]; exact directNone_con
  · rw [hpar]
    intro t ht
    simp only [List.mem_cons, List.not_mem_nil, or_false] at ht
    rcases ht with rfl | rfl
    · exact ⟨pl_str, rd_str, of_decide_eq_true (by kernel_rfl)⟩
    · exact ⟨pl_int, rd_int, of_decide_eq_true (by kernel_rfl)⟩
  · intro ds hd
    rw [hpar] at hd
    match ds, hd with
    | [d0, d1], _ => rfl

theorem directNone_holds : Rows.DirectNoneSaid :=
  OpenClaim.holds_of_wide 5 Try.f5 rfl rfl rfl rfl rfl rfl rfl ⟨rfl, rfl, rfl, rfl, rfl⟩ rfl rfl rfl rfl rfl (by kernel_rfl) Try.func5 (by kernel_rfl)
    (of_decide_eq_true (by kernel_rfl)) (by unfold Func.isWrapper; rw [if_neg (by decide +kernel)]; exact ⟨rfl, rfl⟩)
    (fun os started H enc _ => directNone_lifted os started H enc)

end Go.Proofs.Ythblkhafehanfaa
