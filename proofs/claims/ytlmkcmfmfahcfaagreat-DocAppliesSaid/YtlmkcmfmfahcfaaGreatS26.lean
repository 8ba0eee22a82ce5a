/- Of any document, and any record, what it changes is the document's, or it is corrupt; what was handed in stays, and what is answered may be written over. The law's call returns true, and what is handed in reads behind it as it did. No condition. -/
import Derived.Test.YtlmkcmfmfahcfaaGreatX14
namespace Go.Proofs.YtlmkcmfmfahcfaaGreat
open Go Go.RowKit Go.WideShapes Go.ChangeShapes Ab
set_option maxRecDepth 100000
theorem docApplies_con:xL Tryz.prog 5 3 [31,33,22,22]:=by intro rows hl hv;match rows,hl with
 |[r0,r1,r2,r3],_=>
   obtain⟨x0,rfl,h0⟩:=E8 (n:=0) (hv 0 31 r0 rfl rfl);obtain⟨x1,rfl,h1⟩:=En (n:=3) (hv 1 33 r1 rfl rfl);obtain⟨x2,rfl,h2⟩:=bW (n:=4) (hv 2 22 r2 rfl rfl);obtain⟨x3,rfl,h3⟩:=bW (n:=4) (hv 3 22 r3 rfl rfl);have:mo Tryz.prog [31,33,22,22] [Hr x0,CP x1,[.int .u64 x2],[.int .u64 x3]]=[.agg (cellsD x0),.agg (aW x1),.pv (.int .u64 x2),.pv (.int .u64 x3)]:=by simp[mo,Al,Iy,H2,Kc,Hr,cellsD,CP,aW]
   rw[this];exact Co x0 x1 x2 x3 h0.1 h0.2.1 h0.2.2.1 h0.2.2.2 h1.1.2.2.2.2.2.2.1 h1.1.2.2.2.2.2.1 h1.2 h2 h3
theorem docApplies_lifted (os:Os) (started:os.Started) (H:Type) (enc:TypeId×Value→H):ReturnsInHanded {} Tryz.checked os 3 .any (Rows.docAppliesSpec.pre6 enc Tryz.prog Tryz.f3 Rows.docAppliesRow.domain false) (Rows.docAppliesSpec.post enc Tryz.prog Tryz.f3 false true false false):=by
 refine returnsInHanded_of_change (C:=Tryz.checked) Tryz.own started (by kernel_rfl) Tryz.func3 (ChangeSpec.witness6 (enc:=enc) (C:=Tryz.checked) false ⟨#[],#[.agg #[.int .u64 0,.int .u64 0,.int .u64 0,.int .u64 0,.bool false,.slice none 0 0,.slice none 0 0,.bool false],.agg #[.int .u8 0,.int .u64 0,.int .u64 0,.int .u64 0,.int .u64 0,.int .u64 0,.int .u64 0,.int .u64 0,.int .u64 0,.int .u64 0,.string ⟨#[]⟩,.string ⟨#[]⟩],.int .u64 0,.int .u64 0],[]⟩ 8 (by kernel_rfl) (by kernel_rfl) (by kernel_rfl) (by kernel_rfl)) ?_;intro W base args ds gs before hval hW hcnd _;have hpar:Tryz.f3.params.toList=[31,33,22,22]:=by rw[Tryz.params3]
 refine BH (P:=Tryz.prog) (n:=5) (tb:=4) Tryz.laidOut ?_ ?_ (by kernel_rfl) Tryz.underlying4 rfl ?_ hval hW;·rw[hpar];exact docApplies_con
 · rw[hpar];intro t ht;simp only[List.mem_cons,List.not_mem_nil,or_false] at ht;rcases ht with rfl|rfl|rfl|rfl;·exact⟨Jo,JX,of_decide_eq_true (by kernel_rfl)⟩
   ·exact⟨ID,Iq,of_decide_eq_true (by kernel_rfl)⟩
   ·exact⟨CD,CX,of_decide_eq_true (by kernel_rfl)⟩
   ·exact⟨CD,CX,of_decide_eq_true (by kernel_rfl)⟩
 ·intro ds hd;rw[hpar] at hd;match ds,hd with|[d0,d1,d2,d3],_=>rfl
theorem docApplies_holds:Rows.DocAppliesSaid:=OpenClaim.holds_of_wide 3 Tryz.f3 rfl rfl rfl rfl rfl rfl rfl ⟨rfl,rfl,rfl,rfl,rfl⟩ rfl rfl rfl rfl rfl (by kernel_rfl) Tryz.func3 (by kernel_rfl) (of_decide_eq_true (by kernel_rfl)) (by unfold Func.isWrapper;rw[if_neg (by decide+kernel)];exact⟨rfl,rfl⟩) (fun os started H enc _=>docApplies_lifted os started H enc)
end Go.Proofs.YtlmkcmfmfahcfaaGreat
