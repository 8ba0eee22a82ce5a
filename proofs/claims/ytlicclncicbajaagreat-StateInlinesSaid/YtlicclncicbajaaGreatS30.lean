/- Of any state, with any texts, the inlined one is the document's; and whether two are the same. The law's call returns true, and what is handed in reads behind it as it did. No condition. -/
import Derived.Test.YtlicclncicbajaaGreatY15
namespace Go.Proofs.YtlicclncicbajaaGreat
open Go Go.RowKit Go.WideShapes Go.ChangeShapes Ab
set_option maxRecDepth 100000
theorem stateInlines_con:BT Tryz.prog 6 4 [36,36,65]:=by intro rows hl hv;match rows,hl with
 |[r0,r1,r2],_=>
   obtain⟨x0,rfl,h0⟩:=wA (n:=0) (hv 0 36 r0 rfl rfl);obtain⟨x1,rfl,h1⟩:=wA (n:=0) (hv 1 36 r1 rfl rfl);obtain⟨x2,rfl,h2⟩:=Nt (n:=4) (hv 2 65 r2 rfl rfl);have:oi Tryz.prog [36,36,65] [Co x0,Co x1,[.ro (eV x2)]]=[.agg (aQ x0),.agg (aQ x1),.pv (.ro (eV x2))]:=by simp[oi,DL,aap,Gr,Co,aQ]
   rw[this];exact Jc x0 x1 x2 h0 h1 h2
theorem stateInlines_lifted (os:Os) (started:os.Started) (H:Type) (enc:TypeId×Value→H):ReturnsInHanded {} Tryz.checked os 4 .any (Rows.stateInlinesSpec.pre6 enc Tryz.prog Tryz.f4 Rows.stateInlinesRow.domain false) (Rows.stateInlinesSpec.post enc Tryz.prog Tryz.f4 false true false false):=by
 refine returnsInHanded_of_change (C:=Tryz.checked) Tryz.own started (by kernel_rfl) Tryz.func4 (ChangeSpec.witness6 (enc:=enc) (C:=Tryz.checked) false ⟨#[],#[.agg #[.int .u64 0,.int .u64 0,.int .u64 0,.int .u64 0,.int .u64 0,.int .u64 0,.bool false,.slice none 0 0,.slice none 0 0,.bool false,.slice none 0 0,.slice none 0 0],.agg #[.int .u64 0,.int .u64 0,.int .u64 0,.int .u64 0,.int .u64 0,.int .u64 0,.bool false,.slice none 0 0,.slice none 0 0,.bool false,.slice none 0 0,.slice none 0 0],.slice none 0 0],[]⟩ 8 (by kernel_rfl) (by kernel_rfl) (by kernel_rfl) (by kernel_rfl)) ?_;intro W base args ds gs before hval hW hcnd _;have hpar:Tryz.f4.params.toList=[36,36,65]:=by rw[Tryz.params4]
 refine Hh (P:=Tryz.prog) (n:=6) (tb:=4) Tryz.laidOut ?_ ?_ (by kernel_rfl) Tryz.underlying4 rfl ?_ hval hW;·rw[hpar];exact stateInlines_con
 · rw[hpar];intro t ht;simp only[List.mem_cons,List.not_mem_nil,or_false] at ht;rcases ht with rfl|rfl|rfl;·exact⟨zx,AH,of_decide_eq_true (by kernel_rfl)⟩
   ·exact⟨zx,AH,of_decide_eq_true (by kernel_rfl)⟩
   ·exact⟨Nf,Xn,of_decide_eq_true (by kernel_rfl)⟩
 ·intro ds hd;rw[hpar] at hd;match ds,hd with|[d0,d1,d2],_=>rfl
theorem stateInlines_holds:Rows.StateInlinesSaid:=OpenClaim.holds_of_wide 4 Tryz.f4 rfl rfl rfl rfl rfl rfl rfl ⟨rfl,rfl,rfl,rfl,rfl⟩ rfl rfl rfl rfl rfl (by kernel_rfl) Tryz.func4 (by kernel_rfl) (of_decide_eq_true (by kernel_rfl)) (by unfold Func.isWrapper;rw[if_neg (by decide+kernel)];exact⟨rfl,rfl⟩) (fun os started H enc _=>stateInlines_lifted os started H enc)
end Go.Proofs.YtlicclncicbajaaGreat
