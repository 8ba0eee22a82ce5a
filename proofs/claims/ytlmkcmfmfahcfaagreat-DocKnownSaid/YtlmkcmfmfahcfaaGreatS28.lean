/- The chapter's examples come out as they should, and all rows of records by numbers answer the four laws, with what they make written and inlined. The law's call returns true, and what is handed in reads behind it as it did. No condition. -/
import Derived.Test.YtlmkcmfmfahcfaaGreatX14
namespace Go.Proofs.YtlmkcmfmfahcfaaGreat
open Go Go.RowKit Go.WideShapes Go.ChangeShapes Ab
set_option maxRecDepth 100000
theorem docKnown_con:Cb Tryz.prog 5 5 []:=by intro rows hl hv;match rows,hl with
 |[],_=>
   have:oF Tryz.prog [] []=[]:=by simp[oF]
   rw[this];exact H0
theorem docKnown_lifted (os:Os) (started:os.Started) (H:Type) (enc:TypeId×Value→H):ReturnsInHanded {} Tryz.checked os 5 .any (Rows.docKnownSpec.pre6 enc Tryz.prog Tryz.f5 Rows.docKnownRow.domain false) (Rows.docKnownSpec.post enc Tryz.prog Tryz.f5 false true false false):=by
 refine returnsInHanded_of_change (C:=Tryz.checked) Tryz.own started (by kernel_rfl) Tryz.func5 (ChangeSpec.witness6 (enc:=enc) (C:=Tryz.checked) false ⟨#[],#[],[]⟩ 8 (by kernel_rfl) (by kernel_rfl) (by kernel_rfl) (by kernel_rfl)) ?_;intro W base args ds gs before hval hW hcnd _;have hpar:Tryz.f5.params.toList=[]:=by rw[Tryz.params5]
 refine Fc (P:=Tryz.prog) (n:=5) (tb:=4) Tryz.laidOut ?_ ?_ (by kernel_rfl) Tryz.underlying4 rfl ?_ hval hW;·rw[hpar];exact docKnown_con
 ·rw[hpar];intro t ht;cases ht
 ·intro ds hd;rw[hpar] at hd;match ds,hd with|[],_=>rfl
theorem docKnown_holds:Rows.DocKnownSaid:=OpenClaim.holds_of_wide 5 Tryz.f5 rfl rfl rfl rfl rfl rfl rfl ⟨rfl,rfl,rfl,rfl,rfl⟩ rfl rfl rfl rfl rfl (by kernel_rfl) Tryz.func5 (by kernel_rfl) (of_decide_eq_true (by kernel_rfl)) (by unfold Func.isWrapper;rw[if_neg (by decide+kernel)];exact⟨rfl,rfl⟩) (fun os started H enc _=>docKnown_lifted os started H enc)
end Go.Proofs.YtlmkcmfmfahcfaaGreat
