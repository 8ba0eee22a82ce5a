/- By whatever records, tails rise by one, just if a record is applied, and no Seq falls; the state, with its versions inline, is put, and parsed as it was; what is parsed goes on as that one. The law's call returns true, and what is handed in reads behind it as it did. No condition. -/
import Derived.Test.YtifcndkhigakfaaGreatY15
import Derived.Test.YtifcndkhigakfaaGreatY23
namespace Go.Proofs.YtifcndkhigakfaaGreat
open Go Go.RowKit Go.WideShapes Go.ChangeShapes Ab
set_option maxRecDepth 100000
theorem stateGoes_con:ES Tryz.prog 5 5 [22,67,22]:=by intro rows hl hv;match rows,hl with
 |[r0,r1,r2],_=>
   obtain⟨x0,rfl,h0⟩:=gI (n:=4) (hv 0 22 r0 rfl rfl);obtain⟨x1,rfl,h1⟩:=J7 (n:=2) (hv 1 67 r1 rfl rfl);obtain⟨x2,rfl,h2⟩:=gI (n:=4) (hv 2 22 r2 rfl rfl);have:rW Tryz.prog [22,67,22] [[.int .u64 x0],[.ro (fD x1)],[.int .u64 x2]]=[.pv (.int .u64 x0),.pv (.ro (fD x1)),.pv (.int .u64 x2)]:=by simp[rW,H6,MC,SH]
   rw[this];exact Ry x0 x1 x2 h0 h1 h2
theorem stateGoes_lifted (os:Os) (started:os.Started) (H:Type) (enc:TypeId×Value→H):ReturnsInHanded {} Tryz.checked os 5 .any (Rows.stateGoesSpec.pre6 enc Tryz.prog Tryz.f5 Rows.stateGoesRow.domain false) (Rows.stateGoesSpec.post enc Tryz.prog Tryz.f5 false true false false):=by
 refine returnsInHanded_of_change (C:=Tryz.checked) Tryz.own started (by kernel_rfl) Tryz.func5 (ChangeSpec.witness6 (enc:=enc) (C:=Tryz.checked) false ⟨#[],#[.int .u64 0,.slice none 0 0,.int .u64 0],[]⟩ 8 (by kernel_rfl) (by kernel_rfl) (by kernel_rfl) (by kernel_rfl)) ?_;intro W base args ds gs before hval hW hcnd _;have hpar:Tryz.f5.params.toList=[22,67,22]:=by rw[Tryz.params5]
 refine Ly (P:=Tryz.prog) (n:=5) (tb:=4) Tryz.laidOut ?_ ?_ (by kernel_rfl) Tryz.underlying4 rfl ?_ hval hW;·rw[hpar];exact stateGoes_con
 · rw[hpar];intro t ht;simp only[q78,q102,or_false] at ht;rcases ht with rfl|rfl|rfl;·exact⟨Ka,Jc,of_decide_eq_true (by kernel_rfl)⟩
   ·exact⟨N9,NH,of_decide_eq_true (by kernel_rfl)⟩
   ·exact⟨Ka,Jc,of_decide_eq_true (by kernel_rfl)⟩
 ·intro ds hd;rw[hpar] at hd;match ds,hd with|[d0,d1,d2],_=>rfl
theorem stateGoes_holds:Rows.StateGoesSaid:=OpenClaim.holds_of_wide 5 Tryz.f5 rfl rfl rfl rfl rfl rfl rfl ⟨rfl,rfl,rfl,rfl,rfl⟩ rfl rfl rfl rfl rfl (by kernel_rfl) Tryz.func5 (by kernel_rfl) (of_decide_eq_true (by kernel_rfl)) (by unfold Func.isWrapper;rw[if_neg (by decide+kernel)];exact⟨rfl,rfl⟩) (fun os started H enc _=>stateGoes_lifted os started H enc)
end Go.Proofs.YtifcndkhigakfaaGreat
