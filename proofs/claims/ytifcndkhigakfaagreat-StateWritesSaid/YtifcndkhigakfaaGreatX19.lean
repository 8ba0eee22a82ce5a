/- Any state is written, any bytes are parsed, as the document says. The law's call returns true, and what is handed in reads behind it as it did. No condition. -/
import Derived.Test.YtifcndkhigakfaaGreatX18
set_option linter.unusedVariables false
set_option linter.unusedSimpArgs false
set_option linter.unnecessarySimpa false
set_option maxHeartbeats 40000000
set_option maxRecDepth 100000
namespace Go.Proofs.YtifcndkhigakfaaGreat
open Go Go.RowKit Go.WideShapes Go.ChangeShapes Ab
theorem stateWrites_con:xB Tryz.prog 6 3 [36,37]:=by intro rows hl hv;match rows,hl with
 |[r0,r1],_=>
  obtain⟨x0,rfl,h0⟩:=JN (n:=0) (hv 0 36 r0 rfl rfl);obtain⟨x1,rfl⟩:=Hn (n:=4) (hv 1 37 r1 rfl rfl);have:mq Tryz.prog [36,37] [Gq x0,[.ro (Ab.bytesRow x1)]]=[.agg (aH x0),.pv (.ro (Ab.bytesRow x1))]:=by simp[mq,CC,T3,GX,Gq,aH]
  rw[this];exact TL x0 x1 h0
theorem stateWrites_lifted (os:Os) (started:os.Started) (H:Type) (enc:TypeId×Value→H):ReturnsInHanded {} Tryz.checked os 3 .any (Rows.stateWritesSpec.pre6 enc Tryz.prog Tryz.f3 Rows.stateWritesRow.domain false) (Rows.stateWritesSpec.post enc Tryz.prog Tryz.f3 false true false false):=by
 refine returnsInHanded_of_change (C:=Tryz.checked) Tryz.own started (by kernel_rfl) Tryz.func3 (ChangeSpec.witness6 (enc:=enc) (C:=Tryz.checked) false ⟨#[],#[.agg #[.int .u64 0,.int .u64 0,.int .u64 0,.int .u64 0,.int .u64 0,.int .u64 0,.bool false,.slice none 0 0,.slice none 0 0,.bool false,.slice none 0 0,.slice none 0 0],.slice none 0 0],[]⟩ 8 (by kernel_rfl) (by kernel_rfl) (by kernel_rfl) (by kernel_rfl)) ?_;intro W base args ds gs before hval hW hcnd _;have hpar:Tryz.f3.params.toList=[36,37]:=by rw[Tryz.params3]
 refine Bj (P:=Tryz.prog) (n:=6) (tb:=4) Tryz.laidOut ?_ ?_ (by kernel_rfl) Tryz.underlying4 rfl ?_ hval hW;·rw[hpar];exact stateWrites_con
 ·rw[hpar];intro t ht;simp only[List.mem_cons,List.not_mem_nil,or_false]at ht;rcases ht with rfl|rfl;·exact⟨GZ,FV,of_decide_eq_true (by kernel_rfl)⟩
  ·exact⟨P1,Z6,of_decide_eq_true (by kernel_rfl)⟩
 ·intro ds hd;rw[hpar]at hd;match ds,hd with|[d0,d1],_=>rfl
theorem stateWrites_holds:Rows.StateWritesSaid:=OpenClaim.holds_of_wide 3 Tryz.f3 rfl rfl rfl rfl rfl rfl rfl ⟨rfl,rfl,rfl,rfl,rfl⟩ rfl rfl rfl rfl rfl (by kernel_rfl) Tryz.func3 (by kernel_rfl) (of_decide_eq_true (by kernel_rfl)) (by unfold Func.isWrapper;rw[if_neg (by decide+kernel)];exact⟨rfl,rfl⟩) (fun os started H enc _=>stateWrites_lifted os started H enc)
end Go.Proofs.YtifcndkhigakfaaGreat
