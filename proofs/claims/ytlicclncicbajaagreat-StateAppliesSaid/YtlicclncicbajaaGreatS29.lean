/- Of any state, and any record, what it becomes is the document's, or it is corrupt; what was handed in stays, and what is answered may be written over. The law's call returns true, and what is handed in reads behind it as it did. No condition. -/
import Derived.Test.YtlicclncicbajaaGreatX15
namespace Go.Proofs.YtlicclncicbajaaGreat
open Go Go.RowKit Go.WideShapes Go.ChangeShapes Ab
set_option maxRecDepth 100000
theorem stateApplies_con:BR Tryz.prog 6 3 [36,38,22,22,22]:=by intro rows hl hv;match rows,hl with
 |[r0,r1,r2,r3,r4],_=>
   obtain⟨x0,rfl,h0⟩:=EE (n:=0) (hv 0 36 r0 rfl rfl);obtain⟨x1,rfl,h1⟩:=Ly (n:=4) (hv 1 38 r1 rfl rfl);obtain⟨x2,rfl,h2⟩:=bL (n:=5) (hv 2 22 r2 rfl rfl);obtain⟨x3,rfl,h3⟩:=bL (n:=5) (hv 3 22 r3 rfl rfl);obtain⟨x4,rfl,h4⟩:=bL (n:=5) (hv 4 22 r4 rfl rfl);have:pr Tryz.prog [36,38,22,22,22] [Hd x0,IY x1,[.int .u64 x2],[.int .u64 x3],[.int .u64 x4]]=[.agg (aS x0),.agg (aP x1),.pv (.int .u64 x2),.pv (.int .u64 x3),.pv (.int .u64 x4)]:=by simp[pr,FK,QZ,Ix,P8,IY,aP,Hd,aS]
   rw[this];exact KJ x0 x1 x2 x3 x4 h0 h1 h2 h3 h4
theorem stateApplies_lifted (os:Os) (started:os.Started) (H:Type) (enc:TypeId×Value→H):ReturnsInHanded {} Tryz.checked os 3 .any (Rows.stateAppliesSpec.pre6 enc Tryz.prog Tryz.f3 Rows.stateAppliesRow.domain false) (Rows.stateAppliesSpec.post enc Tryz.prog Tryz.f3 false true false false):=by
 refine returnsInHanded_of_change (C:=Tryz.checked) Tryz.own started (by kernel_rfl) Tryz.func3 (ChangeSpec.witness6 (enc:=enc) (C:=Tryz.checked) false ⟨#[],#[.agg #[.int .u64 0,.int .u64 0,.int .u64 0,.int .u64 0,.int .u64 0,.int .u64 0,.bool false,.slice none 0 0,.slice none 0 0,.bool false,.slice none 0 0,.slice none 0 0],.agg #[.int .u8 0,.int .u64 0,.int .u64 0,.int .u64 0,.int .u64 0,.int .u64 0,.int .u64 0,.int .u64 0,.int .u64 0,.int .u64 0,.string ⟨#[]⟩,.string ⟨#[]⟩],.int .u64 0,.int .u64 0,.int .u64 0],[]⟩ 8 (by kernel_rfl) (by kernel_rfl) (by kernel_rfl) (by kernel_rfl)) ?_;intro W base args ds gs before hval hW hcnd _;have hpar:Tryz.f3.params.toList=[36,38,22,22,22]:=by rw[Tryz.params3]
 refine Im (P:=Tryz.prog) (n:=6) (tb:=4) Tryz.laidOut ?_ ?_ (by kernel_rfl) Tryz.underlying4 rfl ?_ hval hW;·rw[hpar];exact stateApplies_con
 · rw[hpar];intro t ht;simp only[q76,q92,or_false] at ht;rcases ht with rfl|rfl|rfl|rfl|rfl;·exact⟨Gw,HP,of_decide_eq_true (by kernel_rfl)⟩
   ·exact⟨KZ,QB,of_decide_eq_true (by kernel_rfl)⟩
   ·exact⟨yM,Ce,of_decide_eq_true (by kernel_rfl)⟩
   ·exact⟨yM,Ce,of_decide_eq_true (by kernel_rfl)⟩
   ·exact⟨yM,Ce,of_decide_eq_true (by kernel_rfl)⟩
 ·intro ds hd;rw[hpar] at hd;match ds,hd with|[d0,d1,d2,d3,d4],_=>rfl
theorem stateApplies_holds:Rows.StateAppliesSaid:=OpenClaim.holds_of_wide 3 Tryz.f3 rfl rfl rfl rfl rfl rfl rfl ⟨rfl,rfl,rfl,rfl,rfl⟩ rfl rfl rfl rfl rfl (by kernel_rfl) Tryz.func3 (by kernel_rfl) (of_decide_eq_true (by kernel_rfl)) (by unfold Func.isWrapper;rw[if_neg (by decide+kernel)];exact⟨rfl,rfl⟩) (fun os started H enc _=>stateApplies_lifted os started H enc)
end Go.Proofs.YtlicclncicbajaaGreat
