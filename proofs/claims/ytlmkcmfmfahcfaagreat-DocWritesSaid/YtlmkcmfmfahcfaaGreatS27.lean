/- Of any document and any bytes: what is put as bytes is what another gives, and is read back as it was; of any bytes, what is read is what another reads. The law's call returns true, and what is handed in reads behind it as it did. No condition. -/
import Derived.Test.YtlmkcmfmfahcfaaGreatX15
namespace Go.Proofs.YtlmkcmfmfahcfaaGreat
open Go Go.RowKit Go.WideShapes Go.ChangeShapes Ab
set_option maxRecDepth 100000
theorem docWrites_con:yE Tryz.prog 5 4 [31,53]:=by intro rows hl hv;match rows,hl with
 |[r0,r1],_=>
   obtain⟨x0,rfl,h0⟩:=Gn (n:=0) (hv 0 31 r0 rfl rfl);obtain⟨x1,rfl⟩:=KQ (n:=3) (hv 1 53 r1 rfl rfl);have:m0 Tryz.prog [31,53] [IM x0,[.ro (Ab.bytesRow x1)]]=[.agg (cellsD x0),.pv (.ro (Ab.bytesRow x1))]:=by simp[m0,Br,Sq,Ks,IM,cellsD]
   rw[this];exact Fx x0 x1 h0.1 h0.2.1 h0.2.2.1 h0.2.2.2.1 h0.2.2.2.2.1 h0.2.2.2.2.2.1 h0.2.2.2.2.2.2
theorem docWrites_lifted (os:Os) (started:os.Started) (H:Type) (enc:TypeId×Value→H):ReturnsInHanded {} Tryz.checked os 4 .any (Rows.docWritesSpec.pre6 enc Tryz.prog Tryz.f4 Rows.docWritesRow.domain false) (Rows.docWritesSpec.post enc Tryz.prog Tryz.f4 false true false false):=by
 refine returnsInHanded_of_change (C:=Tryz.checked) Tryz.own started (by kernel_rfl) Tryz.func4 (ChangeSpec.witness6 (enc:=enc) (C:=Tryz.checked) false ⟨#[],#[.agg #[.int .u64 0,.int .u64 0,.int .u64 0,.int .u64 0,.bool false,.slice none 0 0,.slice none 0 0,.bool false],.slice none 0 0],[]⟩ 8 (by kernel_rfl) (by kernel_rfl) (by kernel_rfl) (by kernel_rfl)) ?_;intro W base args ds gs before hval hW hcnd _;have hpar:Tryz.f4.params.toList=[31,53]:=by rw[Tryz.params4]
 refine Du (P:=Tryz.prog) (n:=5) (tb:=4) Tryz.laidOut ?_ ?_ (by kernel_rfl) Tryz.underlying4 rfl ?_ hval hW;·rw[hpar];exact docWrites_con
 · rw[hpar];intro t ht;simp only[List.mem_cons,List.not_mem_nil,or_false] at ht;rcases ht with rfl|rfl;·exact⟨JL,Kn,of_decide_eq_true (by kernel_rfl)⟩
   ·exact⟨TP,QB,of_decide_eq_true (by kernel_rfl)⟩
 ·intro ds hd;rw[hpar] at hd;match ds,hd with|[d0,d1],_=>rfl
theorem docWrites_holds:Rows.DocWritesSaid:=OpenClaim.holds_of_wide 4 Tryz.f4 rfl rfl rfl rfl rfl rfl rfl ⟨rfl,rfl,rfl,rfl,rfl⟩ rfl rfl rfl rfl rfl (by kernel_rfl) Tryz.func4 (by kernel_rfl) (of_decide_eq_true (by kernel_rfl)) (by unfold Func.isWrapper;rw[if_neg (by decide+kernel)];exact⟨rfl,rfl⟩) (fun os started H enc _=>docWrites_lifted os started H enc)
end Go.Proofs.YtlmkcmfmfahcfaaGreat
