/- Whatever records come, the epoch never falls, who is not the holder changes nothing, what is sealed stays so, and versions only come by a Commit. The law's call returns true, and what is handed in reads behind it as it did. No condition. -/
import Derived.Test.YtlmkcmfmfahcfaaX14
namespace Go.Proofs.Ytlmkcmfmfahcfaa
open Go Go.RowKit Go.WideShapes Go.ChangeShapes Ab
set_option maxRecDepth 100000
theorem docFences_con:wH Try.prog 5 3 [22,23]:=by intro rows hl hv;match rows,hl with
 |[r0,r1],_=>
   obtain⟨x0,rfl,h0⟩:=BP (n:=2) (hv 0 22 r0 rfl rfl);obtain⟨x1,rfl,h1⟩:=eN (n:=4) (hv 1 23 r1 rfl rfl);have:lN Try.prog [22,23] [[.ro (gS x0)],[.int .u64 x1]]=[.pv (.ro (gS x0)),.pv (.int .u64 x1)]:=by simp[lN,AG,Ep,Gm]
   rw[this];exact B7 x0 x1 h0.1 h0.2 h1
theorem docFences_lifted (os:Os) (started:os.Started) (H:Type) (enc:TypeId×Value→H):ReturnsInHanded {} Try.checked os 3 .any (Rows.docFencesSpec.pre6 enc Try.prog Try.f3 Rows.docFencesRow.domain false) (Rows.docFencesSpec.post enc Try.prog Try.f3 false true false false):=by
 refine returnsInHanded_of_change (C:=Try.checked) Try.own started (by kernel_rfl) Try.func3 (ChangeSpec.witness6 (enc:=enc) (C:=Try.checked) false ⟨#[],#[.slice none 0 0,.int .u64 0],[]⟩ 8 (by kernel_rfl) (by kernel_rfl) (by kernel_rfl) (by kernel_rfl)) ?_;intro W base args ds gs before hval hW hcnd _;have hpar:Try.f3.params.toList=[22,23]:=by rw[Try.params3]
 refine Bd (P:=Try.prog) (n:=5) (tb:=4) Try.laidOut ?_ ?_ (by kernel_rfl) Try.underlying4 rfl ?_ hval hW;·rw[hpar];exact docFences_con
 · rw[hpar];intro t ht;simp only[List.mem_cons,List.not_mem_nil,or_false] at ht;rcases ht with rfl|rfl;·exact⟨Er,Ey,of_decide_eq_true (by kernel_rfl)⟩
   ·exact⟨GX,Iv,of_decide_eq_true (by kernel_rfl)⟩
 ·intro ds hd;rw[hpar] at hd;match ds,hd with|[d0,d1],_=>rfl
theorem docFences_holds:Rows.DocFencesSaid:=OpenClaim.holds_of_wide 3 Try.f3 rfl rfl rfl rfl rfl rfl rfl ⟨rfl,rfl,rfl,rfl,rfl⟩ rfl rfl rfl rfl rfl (by kernel_rfl) Try.func3 (by kernel_rfl) (of_decide_eq_true (by kernel_rfl)) (by unfold Func.isWrapper;rw[if_neg (by decide+kernel)];exact⟨rfl,rfl⟩) (fun os started H enc _=>docFences_lifted os started H enc)
end Go.Proofs.Ytlmkcmfmfahcfaa
