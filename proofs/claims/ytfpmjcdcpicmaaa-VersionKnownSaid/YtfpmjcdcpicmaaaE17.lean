import Derived.Test.YtfpmjcdcpicmaaaW30
import Derived.Test.YtfpmjcdcpicmaaaF3
namespace Go.Proofs.Ytfpmjcdcpicmaaa
open Go Go.RowKit Go.WideShapes Go.ChangeShapes Ab
set_option maxRecDepth 100000
theorem versionKnown_con : LawCon Try.prog 5 11 [] := by
 intro rows hl hv
 match rows, hl with
 | [], _ =>
   have : argVs Try.prog [] [] = [] := by
     simp [argVs]
   rw [this]
   exact c_verKnown 
theorem versionKnown_lifted (os : Os) (started : os.Started) (H : Type) (enc : TypeId × Value → H) :
   ReturnsInHanded {} Try.checked os 11 .any (Rows.versionKnownSpec.pre6 enc Try.prog Try.f11 Rows.versionKnownRow.domain false) (Rows.versionKnownSpec.post enc Try.prog Try.f11 false true false false) := by
 refine returnsInHanded_of_change (C := Try.checked) Try.own started (by kernel_rfl) Try.func11
   (ChangeSpec.witness6 (enc := enc) (C := Try.checked) false ⟨#[], #[], []⟩ 8 (by kernel_rfl) (by kernel_rfl) (by kernel_rfl) (by kernel_rfl)) ?_
 intro W base args ds gs before hval hW hcnd _
 have hpar : Try.f11.params.toList = [] := by rw [Try.params11]
 refine law_post (P := Try.prog) (n := 5) (tb := 4) Try.laidOut ?_ ?_ (by kernel_rfl) Try.underlying4 rfl ?_ hval hW
 · rw [hpar]; exact versionKnown_con
 · rw [hpar]
   intro t ht
   cases ht
 · intro ds hd
   rw [hpar] at hd
   match ds, hd with
   | [], _ => rfl
theorem versionKnown_holds : Rows.VersionKnownSaid :=
 OpenClaim.holds_of_wide 11 Try.f11 rfl rfl rfl rfl rfl rfl rfl ⟨rfl, rfl, rfl, rfl, rfl⟩ rfl rfl rfl rfl rfl (by kernel_rfl) Try.func11 (by kernel_rfl)
   (of_decide_eq_true (by kernel_rfl)) (by unfold Func.isWrapper; rw [if_neg (by decide +kernel)]; exact ⟨rfl, rfl⟩)
   (fun os started H enc _ => versionKnown_lifted os started H enc)
end Go.Proofs.Ytfpmjcdcpicmaaa
