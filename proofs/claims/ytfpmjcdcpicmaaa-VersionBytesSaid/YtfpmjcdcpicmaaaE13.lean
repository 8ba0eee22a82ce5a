/- Any versions are written, any bytes read, as the document says, and what is put is parsed as it was. The law's call returns true, and what is handed in reads behind it as it did. No condition. -/
import Derived.Test.YtfpmjcdcpicmaaaW24
import Derived.Test.YtfpmjcdcpicmaaaF3
namespace Go.Proofs.Ytfpmjcdcpicmaaa
open Go Go.RowKit Go.WideShapes Go.ChangeShapes Ab
set_option maxRecDepth 100000

theorem versionBytes_con : LawCon Try.prog 5 10 [63, 54] := by
  intro rows hl hv
  match rows, hl with
  | [r0, r1], _ =>
    obtain ⟨x0, rfl, h0⟩ := ver_row (n := 1) (hv 0 63 r0 rfl rfl)
    obtain ⟨x1, rfl⟩ := bs_row (n := 3) (hv 1 54 r1 rfl rfl)
    have : argVs Try.prog [63, 54] [[.ro (rowsV x0)], [.ro (Ab.bytesRow x1)]] = [.pv (.ro (rowsV x0)), .pv (.ro (Ab.bytesRow x1))] := by
      simp [argVs, argV, st_bs, st_ver]
    rw [this]
    exact c_verBytes x0 x1 h0

theorem versionBytes_lifted (os : Os) (started : os.Started) (H : Type) (enc : TypeId × Value → H) :
    ReturnsInHanded {} Try.checked os 10 .any (Rows.versionBytesSpec.pre6 enc Try.prog Try.f10 Rows.versionBytesRow.domain false) (Rows.versionBytesSpec.post enc Try.prog Try.f10 false true false false) := by
  refine returnsInHanded_of_change (C := Try.checked) Try.own started (by kernel_rfl) Try.func10
    (ChangeSpec.witness6 (enc := enc) (C := Try.checked) false ⟨#[], #[.slice none 0 0, .slice none 0 0], []⟩ 8 (by kernel_rfl) (by kernel_rfl) (by kernel_rfl) (by kernel_rfl)) ?_
  intro W base args ds gs before hval hW hcnd _
  have hpar : Try.f10.params.toList = [63, 54] := by rw [Try.params10]
  refine law_post (P := Try.prog) (n := 5) (tb := 4) Try.laidOut ?_ ?_ (by kernel_rfl) Try.underlying4 rfl ?_ hval hW
  · rw [hpar]; exact versionBytes_con
  · rw [hpar]
    intro t ht
    simp only [List.mem_cons, List.not_mem_nil, or_false] at ht
    rcases ht with rfl | rfl
    · exact ⟨pl_ver, rd_ver, of_decide_eq_true (by kernel_rfl)⟩
    · exact ⟨pl_bs, rd_bs, of_decide_eq_true (by kernel_rfl)⟩
  · intro ds hd
    rw [hpar] at hd
    match ds, hd with
    | [d0, d1], _ => rfl

theorem versionBytes_holds : Rows.VersionBytesSaid :=
  OpenClaim.holds_of_wide 10 Try.f10 rfl rfl rfl rfl rfl rfl rfl ⟨rfl, rfl, rfl, rfl, rfl⟩ rfl rfl rfl rfl rfl (by kernel_rfl) Try.func10 (by kernel_rfl)
    (of_decide_eq_true (by kernel_rfl)) (by unfold Func.isWrapper; rw [if_neg (by decide +kernel)]; exact ⟨rfl, rfl⟩)
    (fun os started H enc _ => versionBytes_lifted os started H enc)

end Go.Proofs.Ytfpmjcdcpicmaaa
