/- How the abstract machine reckons: rewrite rules. -/
import Derived.Test.YtlmkcmfmfahcfaaZ1
import Derived.Deep.AppendLies
import Derived.Deep.Draws
import Derived.Maps.AppendAt
import Derived.Laws.OwnMore
import Derived.Deep.AppendSrc
import Derived.Deep.Upon
set_option linter.unusedVariables false
set_option linter.unusedSimpArgs false
set_option linter.unnecessarySimpa false
set_option maxHeartbeats 40000000
set_option maxRecDepth 100000
namespace Go.Proofs.Ytlmkcmfmfahcfaa.Ab.R
open Go Go.RowKit
theorem nr {α:Sort _}{a b : α} (h:a=b):a=b:=h
@[congr] theorem withO_congr {α:Type}{o o':Option α}{K : α→Prop} (h:True→o=o'):withO o K=withO o' K:=by rw [h trivial]
@[congr] theorem stepsX_congr {P:Program}{Γ:Tab}{is:List AI}{K:St→Prop}{st st':St} (h:True→st=st'):stepsX P Γ is K st=stepsX P Γ is K st':=by rw [h trivial]
@[congr] theorem stepI_congr {P:Program}{Γ:Tab}{i:AI}{K:St→Prop}{st st':St} (h:True→st=st'):stepI P Γ i K st=stepI P Γ i K st':=by rw [h trivial]
@[congr] theorem semK_congr {P:Program}{Γ:Tab}{d:Option Nat}{k:AK}{xs xs':List AV}{C:Eff→Prop}{objs:Nat→Option AO} (hx:True→xs=xs'):semK P Γ d k xs objs C=semK P Γ d k xs' objs C:=by rw [hx trivial]
@[congr] theorem semG_congr {P:Program}{Γ:Tab}{c c':Bool}{d:Option Nat}{k:AK}{xs xs':List AV}{C:Eff→Prop}{objs:Nat→Option AO} (hc:True→c=c') (hx:True→xs=xs'):semG P Γ c d k xs objs C=semG P Γ c' d k xs' objs C:=by rw [hx trivial,hc trivial]
@[congr] theorem vwp_congr {P:Program}{Γ:Tab}{c:AC}{K:St→Prop}{J:Exit→St→Prop}{st st':St} (h:True→st=st'):vwp P Γ c K J st=vwp P Γ c K J st':=by rw [h trivial]
@[simp ↓] theorem condT {A B:Prop}:((true=true→A)∧(true=false→B))=A:=by simp
@[simp ↓] theorem condF {A B:Prop}:((false=true→A)∧(false=false→B))=B:=by simp
@[simp ↓] theorem withO_some {α:Type} (x : α) (K : α→Prop):withO (some x) K=K x:=rfl
@[simp ↓] theorem withO_none {α:Type} (K : α→Prop):withO (none:Option α) K=False:=rfl
section
variable {P:Program}{Γ:Tab}{K:St→Prop}{J:Exit→St→Prop}{vs:List (Nat × AV)}{os:List (Nat × AO)}
@[simp ↓] theorem vwp_skip:vwp P Γ .skip K J ⟨look vs,lookO os⟩=K ⟨look vs,lookO os⟩:=rfl
@[simp ↓] theorem vwp_reg {is:List AI}{keep:List Nat}:vwp P Γ (.reg is true keep) K J ⟨look vs,lookO os⟩=steps P Γ is (fun st'=>K ⟨keepS keep st'.vars,st'.objs⟩) ⟨look vs,lookO os⟩:=rfl
@[simp ↓] theorem vwp_regX {is:List AI}{keep:List Nat}:vwp P Γ (.reg is false keep) K J ⟨look vs,lookO os⟩=stepsX P Γ is (fun st'=>K ⟨keepS keep st'.vars,st'.objs⟩) ⟨look vs,lookO os⟩:=rfl
@[simp ↓] theorem stepsX_nil:stepsX P Γ [] K ⟨look vs,lookO os⟩=K ⟨look vs,lookO os⟩:=rfl
@[simp ↓] theorem stepsX_cons {i:AI}{is:List AI}:stepsX P Γ (i::is) K ⟨look vs,lookO os⟩=stepX P Γ i (fun st'=>stepsX P Γ is K st') ⟨look vs,lookO os⟩:=rfl
@[simp ↓] theorem stepX_calv {d:Option Nat}{xs:List Operand}{g:Option (Nat × Bool)}{un:List Nat}{tg:Option Nat}:stepX P Γ ⟨d,.calv,xs,g,un,tg⟩ K ⟨look vs,lookO os⟩=stepC P Γ d (xs.map (ev (look vs))) g K ⟨look vs,lookO os⟩:=rfl
@[simp ↓] theorem stepJ_none {d:Option Nat}{k:AK}{xs:List Operand}{un:List Nat}{tg:Option Nat}:stepJ P Γ ⟨d,k,xs,none,un,tg⟩ K ⟨look vs,lookO os⟩=stepI P Γ ⟨d,k,xs,none,un,tg⟩ K ⟨look vs,lookO os⟩:=rfl
@[simp ↓] theorem stepJ_some {d:Option Nat}{k:AK}{xs:List Operand}{s:Nat}{w:Bool}{un:List Nat}{tg:Option Nat}:stepJ P Γ ⟨d,k,xs,some (s,w),un,tg⟩ K ⟨look vs,lookO os⟩=pickJ (hasJ ((xs.map (ev (look vs))).map strip)) (isF (guardB (look vs s) w)) (stepI P Γ ⟨d,k,xs,some (s,w),un,tg⟩ K ⟨look vs,lookO os⟩) (K ((Eff.put (.cnd false .junk)).on d ⟨look vs,lookO os⟩)):=rfl
@[congr] theorem pickJ_congr {b b' f:Bool}{A B:Prop} (h:True→b=b'):pickJ b f A B=pickJ b' f A B:=by rw [h trivial]
@[simp ↓] theorem pickJ_false {f:Bool}{A B:Prop}:pickJ false f A B=A:=rfl
@[simp ↓] theorem pickJ_true {f:Bool}{A B:Prop}:pickJ true f A B=if f=true then B else A:=rfl
def cloK (P:Program) (Γ:Tab) (d:Option Nat) (K:St→Prop) (st:St):FuncId × List AV→Prop
 | (f,ys)=>isFn P f=true∧stepCF P Γ d f ys (flagU Γ f) K st
@[simp ↓] theorem stepC_none {d:Option Nat}{xs:List AV}:stepC P Γ d xs none K ⟨look vs,lookO os⟩=(asksL xs∧withO (cloOf (xs.map strip)) (cloK P Γ d K ⟨look vs,lookO os⟩)):=rfl
@[simp ↓] theorem cloK_mk {d:Option Nat}{f:FuncId}{ys:List AV}:cloK P Γ d K ⟨look vs,lookO os⟩ (f,ys)=(isFn P f=true∧stepCF P Γ d f ys (flagU Γ f) K ⟨look vs,lookO os⟩):=rfl
@[simp ↓] theorem stepCF_none {d:Option Nat}{f:FuncId}{ys:List AV}:stepCF P Γ d f ys none K ⟨look vs,lookO os⟩=semCall P Γ d f ys (lookO os) fun e=>K (e.on d ⟨look vs,lookO os⟩):=rfl
@[simp ↓] theorem stepCF_some {d:Option Nat}{f:FuncId}{ys:List AV}{p k:Nat}:stepCF P Γ d f ys (some (p,k)) K ⟨look vs,lookO os⟩=if k=996 then stepG Γ d f ys (flagG Γ f) K ⟨look vs,lookO os⟩ else False:=rfl
@[congr] theorem stepCF_congr {d:Option Nat}{f:FuncId}{ys ys':List AV}{o o':Option (Nat × Nat)}{st:St} (h1:True→ys=ys') (h:True→o=o'):stepCF P Γ d f ys o K st=stepCF P Γ d f ys' o' K st:=by rw [h1 trivial,h trivial]
@[simp ↓] theorem stepC_some {d:Option Nat}{xs:List AV}{s:Nat}{w:Bool}:stepC P Γ d xs (some (s,w)) K ⟨look vs,lookO os⟩=pickJ (hasJ (xs.map strip)) (isF (guardB (look vs s) w)) (stepCg P Γ d xs s w K ⟨look vs,lookO os⟩) (K ((Eff.put (.cnd false .junk)).on d ⟨look vs,lookO os⟩)):=rfl
def cloG (P:Program) (Γ:Tab) (d:Option Nat) (A:Prop) (c:Bool) (K:St→Prop) (st:St):FuncId × List AV→Prop
 | (f,ys)=>isFn P f=true∧stepCgF P Γ d f ys A c (flagU Γ f) K st
@[simp ↓] theorem cloG_mk {d:Option Nat}{A:Prop}{c:Bool}{f:FuncId}{ys:List AV}:cloG P Γ d A c K ⟨look vs,lookO os⟩ (f,ys)=(isFn P f=true∧stepCgF P Γ d f ys A c (flagU Γ f) K ⟨look vs,lookO os⟩):=rfl
@[simp ↓] theorem stepCg_eq {d:Option Nat}{xs:List AV}{s:Nat}{w:Bool}:stepCg P Γ d xs s w K ⟨look vs,lookO os⟩=withO (guardB (look vs s) w) fun c=>withO (cloOf (xs.map strip)) (cloG P Γ d (asksL xs) c K ⟨look vs,lookO os⟩):=rfl
@[simp ↓] theorem stepCgF_none {d:Option Nat}{f:FuncId}{ys:List AV}{A:Prop}{c:Bool}:stepCgF P Γ d f ys A c none K ⟨look vs,lookO os⟩=semGc Γ c f ys (lookO os) fun e=>(c=true→A)∧K (e.on d ⟨look vs,lookO os⟩):=rfl
@[simp ↓] theorem stepCgF_some {d:Option Nat}{f:FuncId}{ys:List AV}{A:Prop}{c:Bool}{p k:Nat}:stepCgF P Γ d f ys A c (some (p,k)) K ⟨look vs,lookO os⟩=if k=996 then (if c=true then A∧stepG Γ d f ys (flagG Γ f) K ⟨look vs,lookO os⟩ else K ((Eff.put (.cnd false .junk)).on d ⟨look vs,lookO os⟩)) else False:=rfl
@[congr] theorem stepCgF_congr {d:Option Nat}{f:FuncId}{ys ys':List AV}{A:Prop}{c:Bool}{o o':Option (Nat × Nat)}{st:St} (h1:True→ys=ys') (h:True→o=o'):stepCgF P Γ d f ys A c o K st=stepCgF P Γ d f ys' A c o' K st:=by rw [h1 trivial,h trivial]
@[simp] theorem cloOf_clo {f:FuncId}{caps args:List AV}:cloOf (.clo f caps::args)=some (f,args++caps):=nr rfl
@[simp ↓] theorem stepX_mov {d:Option Nat}{xs:List Operand}{g:Option (Nat × Bool)}{un:List Nat}{tg:Option Nat}:stepX P Γ ⟨d,.mov,xs,g,un,tg⟩ K ⟨look vs,lookO os⟩=stepJ P Γ ⟨d,.mov,xs,g,un,tg⟩ K ⟨look vs,lookO os⟩:=rfl
@[simp ↓] theorem stepX_pick {d:Option Nat}{xs:List Operand}{g:Option (Nat × Bool)}{un:List Nat}{tg:Option Nat}:stepX P Γ ⟨d,.pick,xs,g,un,tg⟩ K ⟨look vs,lookO os⟩=stepJ P Γ ⟨d,.pick,xs,g,un,tg⟩ K ⟨look vs,lookO os⟩:=rfl
@[simp ↓] theorem stepX_bin {d:Option Nat}{xs:List Operand}{g:Option (Nat × Bool)}{un:List Nat}{tg:Option Nat}{op:BinOp}:stepX P Γ ⟨d,.bin op,xs,g,un,tg⟩ K ⟨look vs,lookO os⟩=stepJ P Γ ⟨d,.bin op,xs,g,un,tg⟩ K ⟨look vs,lookO os⟩:=rfl
@[simp ↓] theorem stepX_beq {d:Option Nat}{xs:List Operand}{g:Option (Nat × Bool)}{un:List Nat}{tg:Option Nat}{ne:Bool}:stepX P Γ ⟨d,.beq ne,xs,g,un,tg⟩ K ⟨look vs,lookO os⟩=stepJ P Γ ⟨d,.beq ne,xs,g,un,tg⟩ K ⟨look vs,lookO os⟩:=rfl
@[simp ↓] theorem stepX_not {d:Option Nat}{xs:List Operand}{g:Option (Nat × Bool)}{un:List Nat}{tg:Option Nat}:stepX P Γ ⟨d,.not,xs,g,un,tg⟩ K ⟨look vs,lookO os⟩=stepJ P Γ ⟨d,.not,xs,g,un,tg⟩ K ⟨look vs,lookO os⟩:=rfl
@[simp ↓] theorem stepX_neg {d:Option Nat}{xs:List Operand}{g:Option (Nat × Bool)}{un:List Nat}{tg:Option Nat}:stepX P Γ ⟨d,.neg,xs,g,un,tg⟩ K ⟨look vs,lookO os⟩=stepJ P Γ ⟨d,.neg,xs,g,un,tg⟩ K ⟨look vs,lookO os⟩:=rfl
@[simp ↓] theorem stepX_cvi {d:Option Nat}{xs:List Operand}{g:Option (Nat × Bool)}{un:List Nat}{tg:Option Nat}{k:IntKind}:stepX P Γ ⟨d,.cvi k,xs,g,un,tg⟩ K ⟨look vs,lookO os⟩=stepJ P Γ ⟨d,.cvi k,xs,g,un,tg⟩ K ⟨look vs,lookO os⟩:=rfl
@[simp ↓] theorem stepX_scv {d:Option Nat}{xs:List Operand}{g:Option (Nat × Bool)}{un:List Nat}{tg:Option Nat}:stepX P Γ ⟨d,.scv,xs,g,un,tg⟩ K ⟨look vs,lookO os⟩=stepJ P Γ ⟨d,.scv,xs,g,un,tg⟩ K ⟨look vs,lookO os⟩:=rfl
@[simp ↓] theorem stepX_len {d:Option Nat}{xs:List Operand}{g:Option (Nat × Bool)}{un:List Nat}{tg:Option Nat}:stepX P Γ ⟨d,.len,xs,g,un,tg⟩ K ⟨look vs,lookO os⟩=stepJ P Γ ⟨d,.len,xs,g,un,tg⟩ K ⟨look vs,lookO os⟩:=rfl
@[simp ↓] theorem stepX_slen {d:Option Nat}{xs:List Operand}{g:Option (Nat × Bool)}{un:List Nat}{tg:Option Nat}:stepX P Γ ⟨d,.slen,xs,g,un,tg⟩ K ⟨look vs,lookO os⟩=stepJ P Γ ⟨d,.slen,xs,g,un,tg⟩ K ⟨look vs,lookO os⟩:=rfl
@[simp ↓] theorem stepX_sidx {d:Option Nat}{xs:List Operand}{g:Option (Nat × Bool)}{un:List Nat}{tg:Option Nat}:stepX P Γ ⟨d,.sidx,xs,g,un,tg⟩ K ⟨look vs,lookO os⟩=stepJ P Γ ⟨d,.sidx,xs,g,un,tg⟩ K ⟨look vs,lookO os⟩:=rfl
@[simp ↓] theorem stepX_ssl {d:Option Nat}{xs:List Operand}{g:Option (Nat × Bool)}{un:List Nat}{tg:Option Nat}{lo hi:Bool}:stepX P Γ ⟨d,.ssl lo hi,xs,g,un,tg⟩ K ⟨look vs,lookO os⟩=stepJ P Γ ⟨d,.ssl lo hi,xs,g,un,tg⟩ K ⟨look vs,lookO os⟩:=rfl
@[simp ↓] theorem stepX_fld {d:Option Nat}{xs:List Operand}{g:Option (Nat × Bool)}{un:List Nat}{tg:Option Nat}{o:Nat}{n:Option Nat}:stepX P Γ ⟨d,.fld o n,xs,g,un,tg⟩ K ⟨look vs,lookO os⟩=stepJ P Γ ⟨d,.fld o n,xs,g,un,tg⟩ K ⟨look vs,lookO os⟩:=rfl
@[simp ↓] theorem stepX_fad {d:Option Nat}{xs:List Operand}{g:Option (Nat × Bool)}{un:List Nat}{tg:Option Nat}{o:Nat}:stepX P Γ ⟨d,.fad o,xs,g,un,tg⟩ K ⟨look vs,lookO os⟩=stepJ P Γ ⟨d,.fad o,xs,g,un,tg⟩ K ⟨look vs,lookO os⟩:=rfl
@[simp ↓] theorem stepX_load {d:Option Nat}{xs:List Operand}{g:Option (Nat × Bool)}{un:List Nat}{tg:Option Nat}{n:Option Nat}:stepX P Γ ⟨d,.load n,xs,g,un,tg⟩ K ⟨look vs,lookO os⟩=stepJ P Γ ⟨d,.load n,xs,g,un,tg⟩ K ⟨look vs,lookO os⟩:=rfl
@[simp ↓] theorem stepX_ixa {d:Option Nat}{xs:List Operand}{g:Option (Nat × Bool)}{un:List Nat}{tg:Option Nat}{e:TypeId}{s:Nat}:stepX P Γ ⟨d,.ixa e s,xs,g,un,tg⟩ K ⟨look vs,lookO os⟩=stepJ P Γ ⟨d,.ixa e s,xs,g,un,tg⟩ K ⟨look vs,lookO os⟩:=rfl
@[simp ↓] theorem stepX_ixp {d:Option Nat}{xs:List Operand}{g:Option (Nat × Bool)}{un:List Nat}{tg:Option Nat}{e s:Nat}:stepX P Γ ⟨d,.ixp e s,xs,g,un,tg⟩ K ⟨look vs,lookO os⟩=stepJ P Γ ⟨d,.ixp e s,xs,g,un,tg⟩ K ⟨look vs,lookO os⟩:=rfl
@[simp ↓] theorem stepX_nck {d:Option Nat}{xs:List Operand}{g:Option (Nat × Bool)}{un:List Nat}{tg:Option Nat}  : stepX P Γ ⟨d,.nck,xs,g,un,tg⟩ K ⟨look vs,lookO os⟩=stepJ P Γ ⟨d,.nck,xs,g,un,tg⟩ K ⟨look vs,lookO os⟩:=rfl
@[simp ↓] theorem stepX_slc {d:Option Nat}{xs:List Operand}{g:Option (Nat × Bool)}{un:List Nat}{tg:Option Nat}{s:Nat}{lo hi:Bool}:stepX P Γ ⟨d,.slc s lo hi,xs,g,un,tg⟩ K ⟨look vs,lookO os⟩=stepJ P Γ ⟨d,.slc s lo hi,xs,g,un,tg⟩ K ⟨look vs,lookO os⟩:=rfl
@[simp ↓] theorem stepX_ext {d:Option Nat}{xs:List Operand}{g:Option (Nat × Bool)}{un:List Nat}{tg:Option Nat}{i:Nat}:stepX P Γ ⟨d,.ext i,xs,g,un,tg⟩ K ⟨look vs,lookO os⟩=stepJ P Γ ⟨d,.ext i,xs,g,un,tg⟩ K ⟨look vs,lookO os⟩:=rfl
@[simp ↓] theorem stepX_bld {d:Option Nat}{xs:List Operand}{g:Option (Nat × Bool)}{un:List Nat}{tg:Option Nat}{zs:List Value}{ps:List (Nat × Nat)}:stepX P Γ ⟨d,.bld zs ps,xs,g,un,tg⟩ K ⟨look vs,lookO os⟩=stepJ P Γ ⟨d,.bld zs ps,xs,g,un,tg⟩ K ⟨look vs,lookO os⟩:=rfl
@[simp ↓] theorem stepX_mkf {d:Option Nat}{xs:List Operand}{g:Option (Nat × Bool)}{un:List Nat}{tg:Option Nat}{f:FuncId}:stepX P Γ ⟨d,.mkf f,xs,g,un,tg⟩ K ⟨look vs,lookO os⟩=stepJ P Γ ⟨d,.mkf f,xs,g,un,tg⟩ K ⟨look vs,lookO os⟩:=rfl
@[simp ↓] theorem stepX_nilS {e:TypeId}{d:Nat}{xs:List Operand}{g:Option (Nat × Bool)}{un:List Nat}{tg:Option Nat}:stepX P Γ ⟨some d,.nilS e,xs,g,un,tg⟩ K ⟨look vs,lookO os⟩=stepI P Γ ⟨some d,.nilS e,xs,g,un,tg⟩ K (dropT d ⟨look vs,lookO os⟩):=rfl
@[simp ↓] theorem stepX_box {d:Option Nat}{xs:List Operand}{g:Option (Nat × Bool)}{un:List Nat}{tg:Option Nat}:stepX P Γ ⟨d,.box,xs,g,un,tg⟩ K ⟨look vs,lookO os⟩=stepJ P Γ ⟨d,.box,xs,g,un,tg⟩ K ⟨look vs,lookO os⟩:=rfl
@[simp ↓] theorem stepX_alloc {d:Option Nat}{xs:List Operand}{g:Option (Nat × Bool)}{un:List Nat}{tg:Option Nat}{zs:List Value}:stepX P Γ ⟨d,.alloc zs,xs,g,un,tg⟩ K ⟨look vs,lookO os⟩=stepJ P Γ ⟨d,.alloc zs,xs,g,un,tg⟩ K ⟨look vs,lookO os⟩:=rfl
@[congr] theorem stepJ_congr {i:AI}{st st':St} (h:True→st=st'):stepJ P Γ i K st=stepJ P Γ i K st':=by rw [h trivial]
@[simp ↓] theorem stepX_bsl {d:Option Nat}{xs:List Operand}{g:Option (Nat × Bool)}{un:List Nat}{tg:Option Nat}{e:TypeId}{s:Nat}:stepX P Γ ⟨d,.bsl e s,xs,g,un,tg⟩ K ⟨look vs,lookO os⟩=stepJ P Γ ⟨d,.bsl e s,xs,g,un,tg⟩ K (shareAll ⟨look vs,lookO os⟩ ((xs.map (ev (look vs))).map strip)):=rfl
@[simp ↓] theorem stepX_callG {f:FuncId}{d:Option Nat}{xs:List Operand}{s:Nat}{w:Bool}{un:List Nat}{tg:Option Nat}:stepX P Γ ⟨d,.call f,xs,some (s,w),un,tg⟩ K ⟨look vs,lookO os⟩=stepHF P Γ ⟨d,.call f,xs,some (s,w),un,tg⟩ f s w (flagU Γ f) K ⟨look vs,lookO os⟩:=rfl
@[congr] theorem stepHF_congr {i:AI}{f:FuncId}{s:Nat}{w:Bool}{o o':Option (Nat × Nat)}{st:St} (h:True→o=o'):stepHF P Γ i f s w o K st=stepHF P Γ i f s w o' K st:=by rw [h trivial]
@[simp ↓] theorem stepHF_none {f:FuncId}{d:Option Nat}{xs:List Operand}{s s':Nat}{w w':Bool}{un:List Nat}{tg:Option Nat}:stepHF P Γ ⟨d,.call f,xs,some (s',w'),un,tg⟩ f s w none K ⟨look vs,lookO os⟩ =
 pickJ (hasJ ((xs.map (ev (look vs))).map strip)) (isF (guardB (look vs s) w)) (withO (guardB (look vs s) w) fun c=>withO (reis (lookO os) ((xs.map (ev (look vs))).map strip)) fun ys=>withO (gt Γ f ys) fun x=>
  if frR x.2=true then (if c=true then stepF P Γ ⟨d,.call f,xs,none,[],none⟩ f K ⟨look vs,lookO os⟩ else K ((Eff.put (.cnd false .junk)).on d ⟨look vs,lookO os⟩)) else stepI P Γ ⟨d,.call f,xs,some (s',w'),un,tg⟩ K ⟨look vs,lookO os⟩) (K ((Eff.put (.cnd false .junk)).on d ⟨look vs,lookO os⟩)):=rfl
@[simp ↓] theorem stepHF_some {f:FuncId}{d:Option Nat}{xs:List Operand}{s s' p k:Nat}{w w':Bool}{un:List Nat}{tg:Option Nat}:stepHF P Γ ⟨d,.call f,xs,some (s',w'),un,tg⟩ f s w (some (p,k)) K ⟨look vs,lookO os⟩ =
 if k=996 then withO (guardB (look vs s) w) fun c=>if c=true then stepG Γ d f (xs.map (ev (look vs))) (flagG Γ f) K ⟨look vs,lookO os⟩ else K ((Eff.put (.cnd false .junk)).on d ⟨look vs,lookO os⟩) else False:=rfl
@[simp ↓] theorem stepX_call {f:FuncId}{d:Option Nat}{xs:List Operand}{un:List Nat}{tg:Option Nat}:stepX P Γ ⟨d,.call f,xs,none,un,tg⟩ K ⟨look vs,lookO os⟩=stepFU P Γ ⟨d,.call f,xs,none,un,tg⟩ f (flagU Γ f) K ⟨look vs,lookO os⟩:=rfl
@[congr] theorem stepFU_congr {i:AI}{f:FuncId}{o o':Option (Nat × Nat)}{st:St} (h:True→o=o'):stepFU P Γ i f o K st=stepFU P Γ i f o' K st:=by rw [h trivial]
@[simp ↓] theorem stepFU_none {i:AI}{f:FuncId}{st:St}:stepFU P Γ i f none K st=stepF P Γ i f K st:=rfl
@[simp ↓] theorem stepFU_some {f g:FuncId}{p k:Nat}{d:Option Nat}{xs:List Operand}{un:List Nat}{tg:Option Nat}:stepFU P Γ ⟨d,.call g,xs,none,un,tg⟩ f (some (p,k)) K ⟨look vs,lookO os⟩=if k=997 then stepN P Γ d f (xs.map (ev (look vs))) p K ⟨look vs,lookO os⟩ else if k=996 then stepG Γ d f (xs.map (ev (look vs))) (flagG Γ f) K ⟨look vs,lookO os⟩ else stepU P Γ d f (xs.map (ev (look vs))) p k K ⟨look vs,lookO os⟩:=rfl
@[simp ↓] theorem stepN_eq {d:Nat}{f:FuncId}{xs:List AV}{p:Nat}:stepN P Γ (some d) f xs p K ⟨look vs,lookO os⟩ =
 (asksL xs∧withO (reisN (lookO os) p (xs.map strip)) fun ys=>withO (Γ (f+1000000) ys) fun x=>
  x.1∧(pures (xs.map strip)=true∨flat x.2)∧(∀y∈frTags d x.2,lookO os y.1=none)∧resOK x.2=true∧K ⟨put (some d) (mapTop (tagC d) x.2) (look vs),addL (frTags d x.2) (lookO os)⟩):=rfl
@[simp] theorem reisN_0 (objs:Nat→Option AO) (vs:List AV):reisN objs 0 (.pv .nil::vs)=(reis objs vs).map (.pv .nil :: ·):=nr rfl
@[simp] theorem flagU_eq {f:FuncId}:flagU Γ f=(Γ (f+1000000) [.junk]).bind fun x=>isPtr x.2:=nr rfl
@[simp] theorem isPtr_ptr {p k:Nat}:isPtr (.ptr p k)=if k=998∨k=999∨k=997∨k=996 then some (p,k) else none:=nr rfl
@[simp ↓] theorem stepU_eq {d:Nat}{f:FuncId}{xs:List AV}{p k:Nat}:stepU P Γ (some d) f xs p k K ⟨look vs,lookO os⟩ =
 (asksL xs∧withO ((xs.map strip)[p]?) fun X=>withO (handed (lookO os) k X) fun T=>
  offVs T.1 p (xs.map strip)∧withO (reisU (shM T.1 (lookO os)) (markA k T.2.1 T.2.2) p (xs.map strip)) fun ys=>withO (Γ (f+1000000) ys) fun x=>
   x.1∧(puresU p (xs.map strip)=true∨(flat (outR x.2)∧flatO (outO x.2)))∧(∀y∈frTags d (outR x.2),lookO os y.1=none)∧resOK (outR x.2)=true ∧
    K ⟨put (some d) (mapTop (tagC d) (outR x.2)) (varsU T.1 x.2 (look vs)),addL (frTags d (outR x.2)) (objsU T.1 x.2 (lookO os))⟩):=rfl
@[simp] def isPu:XK→Bool
 |.puv _=>true
 |.mkm | .mput _ | .mget _ _ _ | .dead | .isnil _ | .add64 | .capn | .appz _ _ _ _ | .bslk _ | .mks _ _ _ | .mark | .rst | .pubk | .mkv | .gev _ _ _ | .dlv _ | .pnil _ | .rng | .nxt | .ent=>false
def stepPu (d:Option Nat) (x:XK) (xs:List Operand) (K:St→Prop) (st:St):Prop:=stepEx d x (xs.map (ev st.vars)) K st
def pickPu:Bool→Prop→Prop→Prop
 |true,_,B=>B
 |false,A,_=>A
@[simp ↓] theorem pickPu_true {A B:Prop}:pickPu true A B=B:=rfl
@[simp ↓] theorem pickPu_false {A B:Prop}:pickPu false A B=A:=rfl
@[simp ↓] theorem stepX_ex {d:Option Nat}{xs:List Operand}{un:List Nat}{tg:Option Nat}{x:XK}:stepX P Γ ⟨d,.ex x,xs,none,un,tg⟩ K ⟨look vs,lookO os⟩ =
 pickPu (isPu x) (stepEx d x (xs.map (ev (look vs))) K ⟨look vs,lookO os⟩) (stepPu d x xs K (shareAll ⟨look vs,lookO os⟩ ((xs.map (ev (look vs))).map strip))):=by
 cases x<;>rfl
@[congr] theorem stepPu_congr {d:Option Nat}{x:XK}{xs:List Operand}{st st':St} (h:True→st=st'):stepPu d x xs K st=stepPu d x xs K st':=by rw [h trivial]
@[simp ↓] theorem stepPu_eq {d:Option Nat}{x:XK}{xs:List Operand}:stepPu d x xs K ⟨look vs,lookO os⟩=stepEx d x (xs.map (ev (look vs))) K ⟨look vs,lookO os⟩:=rfl
@[simp ↓] theorem stepX_exG {d:Option Nat}{xs:List Operand}{s:Nat}{w:Bool}{un:List Nat}{tg:Option Nat}{x:XK}:stepX P Γ ⟨d,.ex x,xs,some (s,w),un,tg⟩ K ⟨look vs,lookO os⟩ =
 withO (guardB (look vs s) w) fun c=>if c=true then stepEx d x (xs.map (ev (look vs))) K ⟨look vs,lookO os⟩ else K ((Eff.put (.cnd false .junk)).on d ⟨look vs,lookO os⟩):=rfl
@[congr] theorem stepEx_congr {d:Option Nat}{x:XK}{xs xs':List AV}{st:St} (h:True→xs=xs'):stepEx d x xs K st=stepEx d x xs' K st:=by rw [h trivial]
@[simp ↓] theorem stepEx_mkm {d:Nat}:stepEx (some d) .mkm [] K ⟨look vs,lookO os⟩=(lookO os d=none∧K ⟨put (some d) (.own d) (look vs),addL [(d,.map [])] (lookO os)⟩):=rfl
@[simp ↓] theorem stepEx_mput {d:Option Nat}{s t:Nat}{k v:AV}:stepEx d (.mput s) [.own t,k,v] K ⟨look vs,lookO os⟩=exPut d s t (strip k) (strip v) [.own t,k,v] K ⟨look vs,lookO os⟩:=by
 cases hk:strip k<;>simp [stepEx,exMore,exPut,hk,strip]
@[simp ↓] theorem exPut_eq {d:Option Nat}{s t:Nat}{k:PV}{v:AV}{xs:List AV}:exPut d s t (.pv k) v xs K ⟨look vs,lookO os⟩=(asksL xs∧withO (mapO (lookO os t)) fun es=>srt k=s∧keysOK s es∧pure1 v=true∧K ⟨put d .junk (look vs),addO t (.map (putM k v es)) (lookO os)⟩):=rfl
@[congr] theorem exPut_congr {d:Option Nat}{s t:Nat}{k k' v v':AV}{xs xs':List AV}{st:St} (h1:True→k=k') (h2:True→v=v') (h3:True→xs=xs'):exPut d s t k v xs K st=exPut d s t k' v' xs' K st:=by rw [h1 trivial,h2 trivial,h3 trivial]
@[simp ↓] theorem exGet_eq {d:Option Nat}{s t:Nat}{z:Value}{ok:Bool}{k:PV}{xs:List AV}:exGet d s t z ok (.pv k) xs K ⟨look vs,lookO os⟩=(asksL xs∧withO (mapO (lookO os t)) fun es=>srt k=s∧keysOK s es ∧
 K ⟨put d (if ok=true then .tup [(getM k es).getD (avZ z),.pv (.bool (getM k es).isSome)] else (getM k es).getD (avZ z)) (look vs),lookO os⟩):=rfl
@[simp ↓] theorem stepEx_mgetp {d:Option Nat}{s:Nat}{ks:List PV}{z:Value}{ok:Bool}{k:AV}:stepEx d (.mget s z ok) [.pv (.mp ks),k] K ⟨look vs,lookO os⟩=exGetp d s ks z ok (strip k) [.pv (.mp ks),k] K ⟨look vs,lookO os⟩:=by
 cases hk:strip k<;>simp [stepEx,exMore,exGetp,hk,strip]
@[simp ↓] theorem exGetp_eq {d:Option Nat}{s:Nat}{ks:List PV}{z:Value}{ok:Bool}{k:PV}{xs:List AV}:exGetp d s ks z ok (.pv k) xs K ⟨look vs,lookO os⟩=(asksL xs∧unitV z=true∧srt k=s∧(∀x∈ks,srt x=s) ∧
 K ⟨put d (if ok=true then .tup [.agg [],.pv (.bool (ks.any (eqP k)))] else .agg []) (look vs),lookO os⟩):=rfl
@[congr] theorem exGetp_congr {d:Option Nat}{s:Nat}{ks:List PV}{z:Value}{ok:Bool}{k k':AV}{xs xs':List AV}{st:St} (h1:True→k=k') (h3:True→xs=xs'):exGetp d s ks z ok k xs K st=exGetp d s ks z ok k' xs' K st:=by rw [h1 trivial,h3 trivial]
@[simp ↓] theorem stepEx_rst {d:Option Nat}{x y:AV}:stepEx d .rst [x,y] K ⟨look vs,lookO os⟩=exRst d (strip x) (strip y) [x,y] K ⟨look vs,lookO os⟩:=rfl
@[simp ↓] theorem exRst_eq {d:Option Nat}{t o q:Nat}{e:TypeId}{i:Int}{xs:List AV}:exRst d (.eptr t e i o) (.own q) xs K ⟨look vs,lookO os⟩=(asksL xs∧withO (arrO (lookO os t)) fun r=>(r.1=e∧o=0)∧(0≤i∧i < r.2.length∧(rowAt r.2 i).length=1) ∧
 K ⟨put d .junk (look vs),addO t (.rws e ((r.2.map fun x=>AV.pv (x.getD 0 .nil)).set i.toNat (.own q))) (lookO os)⟩):=rfl
@[simp ↓] theorem stepEx_pubk {d:Option Nat}{x:AV}:stepEx d .pubk [x] K ⟨look vs,lookO os⟩=exPubk d (strip x) [x] K ⟨look vs,lookO os⟩:=rfl
@[simp ↓] theorem stepEx_add64 {d:Option Nat}{a b c:AV}:stepEx d .add64 [a,b,c] K ⟨look vs,lookO os⟩=exAdd d [a,b,c] [strip a,strip b,strip c] K ⟨look vs,lookO os⟩:=rfl
@[congr] theorem exAdd_congr {d:Option Nat}{xs xs' ys ys':List AV}{st:St} (h1:True→xs=xs') (h2:True→ys=ys'):exAdd d xs ys K st=exAdd d xs' ys' K st:=by rw [h1 trivial,h2 trivial]
@[simp ↓] theorem exAdd_eq {d:Option Nat}{xs:List AV}{a b c:Int}:exAdd d xs [.pv (.int .u64 a),.pv (.int .u64 b),.pv (.int .u64 c)] K ⟨look vs,lookO os⟩ =
 (asksL xs∧(0≤a∧0≤b∧0≤c∧c≤1)∧K ⟨put d (.tup [.pv (.int .u64 ((a+b+c) % 18446744073709551616)),.pv (.int .u64 ((a+b+c) / 18446744073709551616))]) (look vs),lookO os⟩):=rfl
@[simp ↓] theorem stepEx_capn {d:Option Nat}{x:AV}:stepEx d .capn [x] K ⟨look vs,lookO os⟩=exCapn d (strip x) [x] K ⟨look vs,lookO os⟩:=by
 cases hk:strip x<;>simp [stepEx,exMore,exCapn,hk]
 rename_i p;cases p<;>simp
@[simp ↓] theorem exCapn_nil {d:Option Nat}{xs:List AV}:exCapn d (.pv .nil) xs K ⟨look vs,lookO os⟩=(asksL xs∧K ⟨put d (.pv (.int .i64 0)) (look vs),lookO os⟩):=rfl
@[congr] theorem exCapn_congr {d:Option Nat}{x x':AV}{xs xs':List AV}{st:St} (h1:True→x=x') (h2:True→xs=xs'):exCapn d x xs K st=exCapn d x' xs' K st:=by rw [h1 trivial,h2 trivial]
@[simp ↓] theorem stepEx_mks {d:Option Nat}{e:TypeId}{b:Nat}{zs:List Value}{x y:AV}:stepEx d (.mks e b zs) [x,y] K ⟨look vs,lookO os⟩=exMks d e b zs [x,y] [strip x,strip y] K ⟨look vs,lookO os⟩:=rfl
@[simp ↓] theorem stepEx_bslk {d:Option Nat}{e:TypeId}{xs:List AV}:stepEx d (.bslk e) xs K ⟨look vs,lookO os⟩=exBslk d e xs (xs.map strip) K ⟨look vs,lookO os⟩:=rfl
@[simp ↓] theorem stepEx_appz {d:Option Nat}{e:TypeId}{sz b:Nat}{zs:List Value}{x y:AV}:stepEx d (.appz e sz b zs) [x,y] K ⟨look vs,lookO os⟩=exAppz d e b zs [x,y] [strip x,strip y] K ⟨look vs,lookO os⟩:=rfl
@[congr] theorem exAppz_congr {d:Option Nat}{e:TypeId}{b:Nat}{zs:List Value}{xs xs' ys ys':List AV}{st:St} (h1:True→xs=xs') (h2:True→ys=ys'):exAppz d e b zs xs ys K st=exAppz d e b zs xs' ys' K st:=by rw [h1 trivial,h2 trivial]
@[simp ↓] theorem exAppz_eq {d:Nat}{e:TypeId}{b:Nat}{zs:List Value}{xs:List AV}{n:Int}:exAppz (some d) e b zs xs [.pv .nil,.pv (.int .i64 n)] K ⟨look vs,lookO os⟩ =
 (asksL xs∧(0≤n∧n≤140737488355328∧n.toNat*b≤140737488355328)∧lookO os d=none∧K ⟨put (some d) (.own d) (look vs),addL [(d,.arr e (List.replicate n.toNat (zs.map cvp)))] (lookO os)⟩):=rfl
@[simp ↓] theorem stepEx_isnil {d:Option Nat}{ne:Bool}{x:AV}:stepEx d (.isnil ne) [x] K ⟨look vs,lookO os⟩=(asksL [x]∧withO (rowsB (lookO os) (strip x)) fun rows=>exNil d ne rows K ⟨look vs,lookO os⟩):=rfl
theorem exNil_eq {d:Option Nat}{ne:Bool}{rows:List (List PV)}:exNil d ne rows K ⟨look vs,lookO os⟩ = ∀b:Bool,(rows≠[]→b=false)→K ⟨put d (.pv (.bool (if ne=true then !b else b))) (look vs),lookO os⟩:=rfl
@[simp ↓] theorem exNil_cons {d:Option Nat}{ne:Bool}{r:List PV}{rows:List (List PV)}:exNil d ne (r::rows) K ⟨look vs,lookO os⟩=K ⟨put d (.pv (.bool ne)) (look vs),lookO os⟩:=by
 rw [exNil_eq]
 apply propext
 constructor
 ·intro h;have:=h false (fun _=>rfl);cases ne<;>exact this
 ·intro h b hb;have:=hb (by simp);subst this;cases ne<;>exact h
@[simp] theorem mapO_some (es:List (PV × AV)):mapO (some (.map es))=some es:=nr rfl
@[simp] theorem srt_int (k:IntKind) (n:Int):srt (.int k n)=2+kIdx k:=nr rfl
@[simp] theorem srt_str (l:List UInt8):srt (.str l)=1:=nr rfl
@[simp] theorem srt_bool (b:Bool):srt (.bool b)=0:=nr rfl
@[simp] theorem kIdx_u64:kIdx .u64=7:=nr rfl
@[simp] theorem kIdx_u8:kIdx .u8=4:=nr rfl
@[simp ↓] theorem stepX_clr {d:Option Nat}{xs:List Operand}{un:List Nat}{tg:Option Nat}{e:TypeId}{s:Nat}{zs:List Value}:stepX P Γ ⟨d,.clr e s zs,xs,none,un,tg⟩ K ⟨look vs,lookO os⟩=stepClr d e s zs (xs.map (ev (look vs))) K ⟨look vs,lookO os⟩:=rfl
@[simp ↓] theorem stepClr_eq {d:Option Nat}{e:TypeId}{s:Nat}{zs:List Value}{xs:List AV}:stepClr d e s zs xs K ⟨look vs,lookO os⟩ =
 (asksL xs∧withO ((xs.map strip).head?) fun X=>withO (clrO (lookO os) e zs X) fun r=>K ((Eff.upd r.1 r.2).on d ⟨look vs,lookO os⟩)):=rfl
@[simp ↓] theorem stepF_eq {f g:FuncId}{d:Option Nat}{xs:List Operand}{un:List Nat}{tg:Option Nat}:stepF P Γ ⟨d,.call g,xs,none,un,tg⟩ f K ⟨look vs,lookO os⟩ =
 withO (reis (lookO os) ((xs.map (ev (look vs))).map strip)) fun ys=>withO (gt Γ f ys) fun x=>
  if (roR x.2 && !pures ((xs.map (ev (look vs))).map strip))=true then stepS P Γ d f xs K (shareAll ⟨look vs,lookO os⟩ ((xs.map (ev (look vs))).map strip)) else stepI P Γ ⟨d,.call g,xs,none,un,tg⟩ K ⟨look vs,lookO os⟩:=rfl
@[congr] theorem stepS_congr {d:Option Nat}{f:FuncId}{xs:List Operand}{st st':St} (h:True→st=st'):stepS P Γ d f xs K st=stepS P Γ d f xs K st':=by rw [h trivial]
@[simp ↓] theorem stepS_eq {d:Option Nat}{f:FuncId}{xs:List Operand}:stepS P Γ d f xs K ⟨look vs,lookO os⟩=semCall P Γ d f (xs.map (ev (look vs))) (lookO os) fun e=>K (e.on d ⟨look vs,lookO os⟩):=rfl
@[simp ↓] theorem stepX_mnx {d:Option Nat}{xs:List Operand}{g:Option (Nat × Bool)}{un:List Nat}{tg:Option Nat}{b:Bool}:stepX P Γ ⟨d,.mnx b,xs,g,un,tg⟩ K ⟨look vs,lookO os⟩=stepJ P Γ ⟨d,.mnx b,xs,g,un,tg⟩ K ⟨look vs,lookO os⟩:=rfl
@[simp ↓] theorem stepX_eqs {d:Option Nat}{xs:List Operand}{g:Option (Nat × Bool)}{un:List Nat}{tg:Option Nat}{ne:Bool}{ks:List Nat}:stepX P Γ ⟨d,.eqs ne ks,xs,g,un,tg⟩ K ⟨look vs,lookO os⟩=stepJ P Γ ⟨d,.eqs ne ks,xs,g,un,tg⟩ K ⟨look vs,lookO os⟩:=rfl
@[simp ↓] theorem stepX_store {d:Option Nat}{xs:List Operand}{g:Option (Nat × Bool)}{un:List Nat}{tg:Option Nat}{n:Option Nat}:stepX P Γ ⟨d,.store n,xs,g,un,tg⟩ K ⟨look vs,lookO os⟩=stepJ P Γ ⟨d,.store n,xs,g,un,tg⟩ K ⟨look vs,lookO os⟩:=rfl
@[simp ↓] theorem stepX_app {d:Option Nat}{xs:List Operand}{g:Option (Nat × Bool)}{un:List Nat}{e:TypeId}{s b:Nat}:stepX P Γ ⟨d,.app e s b,xs,g,un,none⟩ K ⟨look vs,lookO os⟩=stepJ P Γ ⟨d,.app e s b,xs,g,un,none⟩ K ⟨look vs,lookO os⟩:=rfl
@[simp ↓] theorem stepX_aps {d:Option Nat}{xs:List Operand}{un:List Nat}{e:TypeId}{s b:Nat}:stepX P Γ ⟨d,.app e s b,xs,none,un,some 999998⟩ K ⟨look vs,lookO os⟩ =
 if isOwn ((xs.map (ev (look vs))).map strip)=true then stepAps d e s b (xs.map (ev (look vs))) K ⟨look vs,lookO os⟩ else stepI P Γ ⟨d,.app e s b,xs,none,un,some 999998⟩ K ⟨look vs,lookO os⟩:=rfl
@[simp ↓] theorem stepAps_eq {d:Option Nat}{e:TypeId}{sz b:Nat}{xs:List AV}:stepAps d e sz b xs K ⟨look vs,lookO os⟩ =
 (asksL xs∧withO (apsO (lookO os) e (xs.map strip)) fun r=>((r.2.1.length+r.2.2.length)*b≤140737488355328∧r.2.1.length+r.2.2.length≤maxLen∧(∀q∈r.2.2,q.length=sz))∧r.1 % 1000≠999 ∧
  K ⟨put d (.pv (.ro (r.2.1++r.2.2))) (shAV r.1 r.2.1 (look vs)),shM r.1 (lookO os)⟩):=rfl
@[simp ↓] theorem stepX_btoS {d:Option Nat}{xs:List Operand}{g:Option (Nat × Bool)}{un:List Nat}{tg:Option Nat}:stepX P Γ ⟨d,.btoS,xs,g,un,tg⟩ K ⟨look vs,lookO os⟩=stepJ P Γ ⟨d,.btoS,xs,g,un,tg⟩ K ⟨look vs,lookO os⟩:=rfl
@[simp ↓] theorem stepX_stoB {d:Option Nat}{xs:List Operand}{g:Option (Nat × Bool)}{un:List Nat}{tg:Option Nat}{e:TypeId}:stepX P Γ ⟨d,.stoB e,xs,g,un,tg⟩ K ⟨look vs,lookO os⟩=stepJ P Γ ⟨d,.stoB e,xs,g,un,tg⟩ K ⟨look vs,lookO os⟩:=rfl
@[simp ↓] theorem vwp_seq {a b:AC}:vwp P Γ (.seq a b) K J ⟨look vs,lookO os⟩=vwp P Γ a (fun st'=>vwp P Γ b K J st') J ⟨look vs,lookO os⟩:=rfl
@[simp ↓] theorem vwp_cond {x:Operand}{a b:AC}:vwp P Γ (.cond x a b) K J ⟨look vs,lookO os⟩=withO (boolOf (ev (look vs) x)) fun c=>
   (c=true→vwp P Γ a K J ⟨look vs,lookO os⟩)∧(c=false→vwp P Γ b K J ⟨look vs,lookO os⟩):=rfl
@[simp ↓] theorem vwp_block {id:Nat}{a:AC}:vwp P Γ (.block id a) K J ⟨look vs,lookO os⟩=vwp P Γ a K (inBlk id K J) ⟨look vs,lookO os⟩:=rfl
@[simp ↓] theorem inBlk_exit {id id':Nat}:inBlk id K J (.exit id') ⟨look vs,lookO os⟩=if id'=id then K ⟨look vs,lookO os⟩ else J (.exit id') ⟨look vs,lookO os⟩:=rfl
@[simp ↓] theorem inBlk_ret {id:Nat}:inBlk id K J .ret ⟨look vs,lookO os⟩=J .ret ⟨look vs,lookO os⟩:=rfl
@[simp ↓] theorem vwp_exit {id:Nat}:vwp P Γ (.exit id) K J ⟨look vs,lookO os⟩=J (.exit id) ⟨look vs,lookO os⟩:=rfl
@[simp ↓] theorem vwp_ret:vwp P Γ .ret K J ⟨look vs,lookO os⟩=J .ret ⟨look vs,lookO os⟩:=rfl
@[simp ↓] theorem steps_nil:steps P Γ [] K ⟨look vs,lookO os⟩=K ⟨look vs,lookO os⟩:=rfl
@[simp ↓] theorem steps_cons {i:AI}{is:List AI}:steps P Γ (i::is) K ⟨look vs,lookO os⟩=stepD P Γ i (fun st'=>steps P Γ is K st') ⟨look vs,lookO os⟩:=rfl
@[simp ↓] theorem stepD_none {d:Option Nat}{k:AK}{xs:List Operand}{g:Option (Nat × Bool)}{un:List Nat}:stepD P Γ ⟨d,k,xs,g,un,none⟩ K ⟨look vs,lookO os⟩=stepI P Γ ⟨d,k,xs,g,un,none⟩ K ⟨look vs,lookO os⟩:=by cases k<;>rfl
@[simp ↓] theorem stepD_store {d:Option Nat}{n:Option Nat}{xs:List Operand}{g:Option (Nat × Bool)}{un:List Nat}{tg:Option Nat}:stepD P Γ ⟨d,.store n,xs,g,un,tg⟩ K ⟨look vs,lookO os⟩=stepI P Γ ⟨d,.store n,xs,g,un,tg⟩ K ⟨look vs,lookO os⟩:=rfl
@[simp ↓] theorem stepD_call {d:Option Nat}{f:FuncId}{xs:List Operand}{un:List Nat}:stepD P Γ ⟨d,.call f,xs,none,un,some 999999⟩ K ⟨look vs,lookO os⟩=stepM P Γ ⟨d,.call f,xs,none,un,some 999999⟩ f (flagU Γ f) K ⟨look vs,lookO os⟩:=rfl
@[simp ↓] theorem stepD_calv {d:Option Nat}{xs:List Operand}{un:List Nat}:stepD P Γ ⟨d,.calv,xs,none,un,some 999999⟩ K ⟨look vs,lookO os⟩=stepC P Γ d (xs.map (ev (look vs))) none K ⟨look vs,lookO os⟩:=rfl
@[congr] theorem stepM_congr {i:AI}{f:FuncId}{o o':Option (Nat × Nat)}{st:St} (h:True→o=o'):stepM P Γ i f o K st=stepM P Γ i f o' K st:=by rw [h trivial]
@[simp ↓] theorem stepM_none {f g:FuncId}{d:Option Nat}{xs:List Operand}{un:List Nat}{tg:Option Nat}:stepM P Γ ⟨d,.call g,xs,none,un,tg⟩ f none K ⟨look vs,lookO os⟩=stepI P Γ ⟨d,.call g,xs,none,[],none⟩ K ⟨look vs,lookO os⟩:=rfl
@[simp ↓] theorem stepM_some {f g:FuncId}{p k:Nat}{d:Option Nat}{xs:List Operand}{un:List Nat}{tg:Option Nat}:stepM P Γ ⟨d,.call g,xs,none,un,tg⟩ f (some (p,k)) K ⟨look vs,lookO os⟩=if k=998 then un=[]∧stepU P Γ d f (xs.map (ev (look vs))) p k K ⟨look vs,lookO os⟩ else if k=996 then ldsOK (tagsK (flagG Γ f) (lookO os) ((xs.map (ev (look vs))).map strip)) ⟨look vs,lookO os⟩ un∧stepG Γ d f (xs.map (ev (look vs))) (flagG Γ f) K ⟨look vs,lookO os⟩ else False:=rfl
@[simp ↓] theorem ldsOK_nil {T:List Nat}{st:St}:ldsOK T st []=True:=rfl
@[simp ↓] theorem ldsOK_cons {T:List Nat}{s:Nat}{l:List Nat}:ldsOK T ⟨look vs,lookO os⟩ (s::l)=(withO (ldT (lookO os) (look vs s)) (fun t=>T.contains t=false)∧ldsOK T ⟨look vs,lookO os⟩ l):=rfl
@[simp ↓] theorem stepI_eq {d:Option Nat}{k:AK}{xs:List Operand}{g:Option (Nat × Bool)}{un:List Nat}{tg:Option Nat}:stepI P Γ ⟨d,k,xs,g,un,tg⟩ K ⟨look vs,lookO os⟩ =
  ((un=[]∨noMs un (lookO os) ((xs.map (ev (look vs))).map strip))∧semI P Γ ⟨d,k,xs,g,un,tg⟩ (look vs) (lookO os) fun e=>tgU un tg e∧K (e.on d ⟨look vs,lookO os⟩)):=rfl
@[simp ↓] theorem semI_none {d:Option Nat}{k:AK}{xs:List Operand}{un:List Nat}{tg:Option Nat}{objs:Nat→Option AO}{C:Eff→Prop}{vars:Nat→AV} :
  semI P Γ ⟨d,k,xs,none,un,tg⟩ vars objs C=semK P Γ d k (xs.map (ev vars)) objs C:=rfl
@[simp ↓] theorem semI_some {d:Option Nat}{k:AK}{xs:List Operand}{s:Nat}{w:Bool}{un:List Nat}{tg:Option Nat}{objs:Nat→Option AO}{C:Eff→Prop}{vars:Nat→AV} :
  semI P Γ ⟨d,k,xs,some (s,w),un,tg⟩ vars objs C=withO (guardB (vars s) w) fun c=>semG P Γ c d k (xs.map (ev vars)) objs C:=rfl
theorem appOK_nil {e:Eff}:appOK [] e=True:=by cases e<;>simp [appOK]
@[simp ↓] theorem appOK_put {un:List Nat}{v:AV}:appOK un (.put v)=True:=rfl
@[simp ↓] theorem appOK_new {un:List Nat}{v:AV}{os:List (Nat × AO)}:appOK un (.new v os)=True:=rfl
@[simp ↓] theorem appOK_upd {un:List Nat}{t:Nat}{o:AO}:appOK un (.upd t o)=True:=rfl
@[simp ↓] theorem appOK_app {un:List Nat}{t:Nat}{o:AO}:appOK un (.app t o)=(un.contains (t % 1000+1000)=false):=rfl
@[simp ↓ 1100] theorem tgU_nil {tg:Option Nat}{e:Eff}:tgU [] tg e=tgOK tg e:=by unfold tgU;rw [appOK_nil,and_true]
@[simp ↓] theorem tgU_none {un:List Nat}{e:Eff}:tgU un none e=appOK un e:=by unfold tgU tgOK;rw [true_and]
@[simp ↓] theorem tgU_some {un:List Nat}{s:Nat}{e:Eff}:tgU un (some s) e=(tgOK (some s) e∧appOK un e):=rfl
@[simp ↓] theorem tgOK_none {e:Eff}:tgOK none e=True:=rfl
@[simp ↓] theorem tgOK_upd {s t:Nat}{o:AO}:tgOK (some s) (.upd t o)=(t=s):=rfl
@[simp ↓] theorem on_put {d:Option Nat}{v:AV}:(Eff.put v).on d ⟨look vs,lookO os⟩=⟨put d v (look vs),lookO os⟩:=rfl
@[simp ↓] theorem on_new {d:Option Nat}{v:AV}{l:List (Nat × AO)}:(Eff.new v l).on d ⟨look vs,lookO os⟩=⟨put d v (look vs),addL l (lookO os)⟩:=rfl
@[simp ↓] theorem on_upd {d:Option Nat}{t:Nat}{o:AO}:(Eff.upd t o).on d ⟨look vs,lookO os⟩=⟨put d .junk (look vs),addO t o (lookO os)⟩:=rfl
@[simp ↓] theorem on_app {d:Option Nat}{t:Nat}{o:AO}:(Eff.app t o).on d ⟨look vs,lookO os⟩=⟨put d (.own t) (killV t (look vs)),addO t o (killM t (lookO os))⟩:=rfl
end
theorem put_look (d:Nat) (v:AV) (l:List (Nat × AV)):put (some d) v (look l)=look ((d,v)::l):=by
 funext s;simp [put,look]
theorem put_none (v:AV) (f:Nat→AV):put none v f=f:=rfl
theorem addO_look (t:Nat) (o:AO) (l:List (Nat × AO)):addO t o (lookO l)=lookO ((t,o)::l):=by
 funext s;simp [addO,lookO]
theorem keepS_look (keep:List Nat) (l:List (Nat × AV)):keepS keep (look l)=look (keep.map fun s=>(s,look l s)):=by
 funext s
 unfold keepS
 induction keep with
 |nil=>simp [look]
 |cons k ks ih=>
  simp only [List.map_cons,look]
  by_cases h:s=k
  ·subst h;simp
  ·simp only [List.contains_cons,h,if_false]
   have:(s == k)=false:=by simpa using h
   rw [this];simpa using ih
theorem kill_look (t:Nat) (l:List (Nat × AV)):killV t (look l)=look (l.map fun x=>(x.1,kill t x.2)):=by
 funext s
 unfold killV
 induction l with
 |nil=>rfl
 |cons x l ih=>
  obtain⟨k,v⟩:=x
  simp only [List.map_cons,look]
  split<;>simp_all
theorem killO_look (t:Nat) (l:List (Nat × AO)):killM t (lookO l)=lookO (l.map fun x=>(x.1,killO t x.2)):=by
 funext s
 unfold killM
 induction l with
 |nil=>rfl
 |cons x l ih=>
  obtain⟨k,v⟩:=x
  simp only [List.map_cons,lookO]
  split<;>simp_all
theorem addL_look (m l:List (Nat × AO)):addL m (lookO l)=lookO (m++l):=by
 funext s
 unfold addL
 induction m with
 |nil=>simp [lookO]
 |cons x m ih=>
  obtain⟨k,v⟩:=x
  simp only [List.cons_append,lookO]
  by_cases h:s=k
  ·simp [h]
  ·simp only [if_neg h];exact ih
theorem Fr_st (vs:List (Nat × AV)) (os:List (Nat × AO)):(Fr.mk vs os).st=⟨look vs,lookO os⟩:=rfl
def rmL (t:Nat):List (Nat × AO)→List (Nat × AO)
 | []=>[]
 |x::l=>if x.1=t then rmL t l else (x.1,killO t x.2)::rmL t l
@[simp] theorem rmL_nil (t:Nat):rmL t []=[]:=nr rfl
@[simp] theorem rmL_cons (t s:Nat) (o:AO) (l:List (Nat × AO)):rmL t ((s,o)::l)=if s=t then rmL t l else (s,killO t o)::rmL t l:=nr rfl
theorem shM_look (t:Nat) (l:List (Nat × AO)):shM t (lookO l)=lookO (rmL t l):=by
 funext s
 unfold shM
 induction l with
 |nil=>simp [lookO]
 |cons x l ih=>
  obtain⟨k,v⟩:=x
  simp only [rmL_cons,lookO]
  by_cases hs:s=t
  ·subst hs
   simp only [if_true]at ih ⊢
   by_cases hk:k=s
   ·simp [hk];exact ih
   ·have hk':¬ s=k:=fun e=>hk e.symm
    simp [hk,lookO,hk'];exact ih
  ·simp only [hs,if_false]at ih ⊢
   by_cases hk:k=t
   ·have:¬ s=k:=fun e=>hs (e.trans hk)
    rw [if_pos hk,if_neg this];exact ih
   ·simp only [hk,if_false,lookO]
    by_cases hsk:s=k
    ·simp [hsk]
    ·simp only [hsk,if_false];exact ih
def rmB (t:Nat) (e:TypeId) (rows:List (List PV)):List (Nat × AO)→List (Nat × AO)
 | []=>[]
 |x::l=>if x.1=t then rmB t e rows l else (x.1,shO t e rows x.2)::rmB t e rows l
@[simp] theorem rmB_nil (t:Nat) (e:TypeId) (rows:List (List PV)):rmB t e rows []=[]:=nr rfl
@[simp] theorem rmB_cons (t s:Nat) (e:TypeId) (rows:List (List PV)) (o:AO) (l:List (Nat × AO)):rmB t e rows ((s,o)::l)=if s=t then rmB t e rows l else (s,shO t e rows o)::rmB t e rows l:=nr rfl
theorem sh2_look (t:Nat) (e0:TypeId) (rows:List (List PV)) (l:List (Nat × AV)):shW t e0 rows (look l)=look (l.map fun x=>(x.1,sh2 t e0 rows x.2)):=by
 funext s
 unfold shW
 induction l with
 |nil=>rfl
 |cons x l ih=>
  obtain⟨k,v⟩:=x
  simp only [List.map_cons,look]
  split<;>simp_all
theorem shMb_look (t:Nat) (e:TypeId) (rows:List (List PV)) (l:List (Nat × AO)):shMb t e rows (lookO l)=lookO (rmB t e rows l):=by
 funext s
 unfold shMb
 induction l with
 |nil=>simp [lookO]
 |cons x l ih=>
  obtain⟨k,v⟩:=x
  simp only [rmB_cons,lookO]
  by_cases hs:s=t
  ·subst hs
   simp only [if_true]at ih ⊢
   by_cases hk:k=s
   ·simp [hk];exact ih
   ·have hk':¬ s=k:=fun e=>hk e.symm
    simp [hk,lookO,hk'];exact ih
  ·simp only [hs,if_false]at ih ⊢
   by_cases hk:k=t
   ·have:¬ s=k:=fun e=>hs (e.trans hk)
    rw [if_pos hk,if_neg this];exact ih
   ·simp only [hk,if_false,lookO]
    by_cases hsk:s=k
    ·simp [hsk]
    ·simp only [hsk,if_false];exact ih
@[simp] theorem share1_own (vs:List (Nat × AV)) (os:List (Nat × AO)) (t:Nat):share1 ⟨look vs,lookO os⟩ (.own t)=match arrO (lookO os t) with
  |some r=>⟨look (vs.map fun x=>(x.1,sh2 t r.1 r.2 x.2)),lookO (rmB t r.1 r.2 os)⟩
  |none=>⟨look vs,lookO os⟩:=by
 simp only [share1,shareO]
 split<;>simp [*,sh2_look,shMb_look]
@[simp] theorem dropT_eq (vs:List (Nat × AV)) (os:List (Nat × AO)) (t:Nat):dropT t ⟨look vs,lookO os⟩=match arrO (lookO os t) with
  |some _=>⟨look (vs.map fun x=>(x.1,kill t x.2)),lookO (rmL t os)⟩
  |none=>⟨look vs,lookO os⟩:=by
 simp only [dropT]
 split<;>simp [*,kill_look,shM_look]
@[simp] theorem share1_pv (st:St) (p:PV):share1 st (.pv p)=st:=nr rfl
@[simp] theorem share1_agg (st:St) (cs:List AV):share1 st (.agg cs)=shareCs st cs:=nr rfl
@[simp] theorem shareCs_nil (st:St):shareCs st []=st:=nr rfl
@[simp] theorem shareCs_cons (st:St) (c:AV) (cs:List AV):shareCs st (c::cs)=shareCs (shareO st c) cs:=nr rfl
@[simp] theorem shareO_own (vs:List (Nat × AV)) (os:List (Nat × AO)) (t:Nat):shareO ⟨look vs,lookO os⟩ (.own t)=match arrO (lookO os t) with
  |some r=>⟨look (vs.map fun x=>(x.1,sh2 t r.1 r.2 x.2)),lookO (rmB t r.1 r.2 os)⟩
  |none=>⟨look vs,lookO os⟩:=share1_own vs os t
@[simp] theorem shareO_pv (st:St) (p:PV):shareO st (.pv p)=st:=nr rfl
@[simp] theorem share1_ptr (st:St) (t o:Nat):share1 st (.ptr t o)=st:=nr rfl
@[simp] theorem share1_clo (st:St) (f:FuncId) (cs:List AV):share1 st (.clo f cs)=st:=nr rfl
@[simp] theorem shareAll_nil (st:St):shareAll st []=st:=nr rfl
@[simp] theorem shareAll_cons (st:St) (v:AV) (l:List AV):shareAll st (v::l)=shareAll (share1 st v) l:=nr rfl
@[simp] theorem sh2_own (e0:TypeId) (t s:Nat) (rows:List (List PV)):sh2 t e0 rows (.own s)=if s=t then .pv (.ro rows) else .own s:=nr rfl
@[simp] theorem shC_own (e0:TypeId) (t s:Nat) (rows:List (List PV)):shC t e0 rows (.own s)=if s=t then .pv (.ro rows) else .own s:=nr rfl
@[simp] theorem sh2_pv (e0:TypeId) (t:Nat) (rows:List (List PV)) (p:PV):sh2 t e0 rows (.pv p)=.pv p:=nr rfl
@[simp] theorem sh2_ptr (e0:TypeId) (t s o:Nat) (rows:List (List PV)):sh2 t e0 rows (.ptr s o)=.ptr s o:=nr rfl
@[simp] theorem sh2_agg (e0:TypeId) (t:Nat) (cs:List AV) (rows:List (List PV)):sh2 t e0 rows (.agg cs)=.agg (shCs t e0 rows cs):=nr rfl
@[simp] theorem sh2_cnd (e0:TypeId) (t:Nat) (g:Bool) (v:AV) (rows:List (List PV)):sh2 t e0 rows (.cnd g v)=kill t (.cnd g v):=nr rfl
@[simp] theorem sh2_clo (e0:TypeId) (t:Nat) (f:FuncId) (cs:List AV) (rows:List (List PV)):sh2 t e0 rows (.clo f cs)=kill t (.clo f cs):=nr rfl
@[simp] theorem sh2_junk (e0:TypeId) (t:Nat) (rows:List (List PV)):sh2 t e0 rows .junk=.junk:=nr rfl
@[simp] theorem shCs_nil (t:Nat) (e0:TypeId) (rows:List (List PV)):shCs t e0 rows []=[]:=nr rfl
@[simp] theorem shCs_cons (t:Nat) (e0:TypeId) (rows:List (List PV)) (c:AV) (cs:List AV):shCs t e0 rows (c::cs)=shC t e0 rows c::shCs t e0 rows cs:=nr rfl
@[simp] theorem shC_pv (t:Nat) (e0:TypeId) (rows:List (List PV)) (p:PV):shC t e0 rows (.pv p)=.pv p:=nr rfl
@[simp] theorem shO_box (t:Nat) (e0:TypeId) (rows:List (List PV)) (cs:List AV):shO t e0 rows (.box cs)=.box (shCs t e0 rows cs):=nr rfl
@[simp] theorem shO_arr (t:Nat) (e0:TypeId) (rows:List (List PV)) (e:TypeId) (rs:List (List PV)):shO t e0 rows (.arr e rs)=.arr e rs:=nr rfl
@[simp] theorem shO_map (t:Nat) (e0:TypeId) (rows:List (List PV)) (es):shO t e0 rows (.map es)=.map es:=nr rfl
@[simp] theorem shO_mpv (t:Nat) (e0:TypeId) (rows:List (List PV)) (es):shO t e0 rows (.mpv es)=.mpv es:=nr rfl
@[simp] theorem frR_pv (p:PV):frR (.pv p)=frC (.pv p):=nr rfl
@[simp] theorem frC_bool (b:Bool):frC (.pv (.bool b))=false:=nr rfl
@[simp] theorem roR_tup (vs:List AV):roR (.tup vs)=roVs vs:=nr rfl
@[simp] theorem roR_agg (vs:List AV):roR (.agg vs)=roCs vs:=nr rfl
@[simp] theorem roR_pv (p:PV):roR (.pv p)=roC (.pv p):=nr rfl
@[simp] theorem roR_fr (e:TypeId) (rows:List (List PV)):roR (.fr e rows)=false:=nr rfl
@[simp] theorem roVs_nil:roVs []=false:=nr rfl
@[simp] theorem roVs_cons (c:AV) (cs:List AV):roVs (c::cs)=(ro1 c || roVs cs):=nr rfl
@[simp] theorem roCs_nil:roCs []=false:=nr rfl
@[simp] theorem roCs_cons (c:AV) (cs:List AV):roCs (c::cs)=(roC c || roCs cs):=nr rfl
@[simp] theorem ro1_agg (cs:List AV):ro1 (.agg cs)=roCs cs:=nr rfl
@[simp] theorem ro1_pv (p:PV):ro1 (.pv p)=roC (.pv p):=nr rfl
@[simp] theorem ro1_fr (e:TypeId) (rows:List (List PV)):ro1 (.fr e rows)=false:=nr rfl
@[simp] theorem roC_ro (rows:List (List PV)):roC (.pv (.ro rows))=true:=nr rfl
@[simp] theorem roC_int (k:IntKind) (n:Int):roC (.pv (.int k n))=false:=nr rfl
@[simp] theorem roC_bool (b:Bool):roC (.pv (.bool b))=false:=nr rfl
@[simp] theorem roC_str (l:List UInt8):roC (.pv (.str l))=false:=nr rfl
@[simp] theorem roC_fr (e:TypeId) (rows:List (List PV)):roC (.fr e rows)=false:=nr rfl
@[simp] theorem handed_own (objs:Nat→Option AO) (k t:Nat):handed objs k (.own t)=(arrO (objs t)).map fun r=>(t,r.1,r.2):=nr rfl
@[simp] theorem markA_1 (e:TypeId) (rows:List (List PV)):markA 998 e rows=.fr e rows:=nr rfl
@[simp] theorem markA_2 (e:TypeId) (rows:List (List PV)):markA 999 e rows=.tup [.fr e rows]:=nr rfl
@[simp] theorem reisU_0 (objs:Nat→Option AO) (m v:AV) (vs:List AV):reisU objs m 0 (v::vs)=(reis objs vs).map (m :: ·):=nr rfl
@[simp] theorem puresU_0 (v:AV) (vs:List AV):puresU 0 (v::vs)=pures vs:=nr rfl
@[simp] theorem outR_clo (n:Nat) (r:AV) (e:TypeId) (rows:List (List PV)):outR (.clo n [r,.fr e rows])=r:=nr rfl
@[simp] theorem outR_fr (e:TypeId) (rows:List (List PV)):outR (.fr e rows)=.fr e rows:=nr rfl
@[simp] theorem outO_clo (n:Nat) (r:AV) (e:TypeId) (rows:List (List PV)):outO (.clo n [r,.fr e rows])=[(999,.arr e rows)]:=nr rfl
@[simp] theorem outO_fr (e:TypeId) (rows:List (List PV)):outO (.fr e rows)=[]:=nr rfl
@[simp] theorem flatO_nil:flatO []=True:=nr rfl
@[simp] theorem varsU_clo (t n:Nat) (r:AV) (e:TypeId) (rows:List (List PV)) (vars:Nat→AV):varsU t (.clo n [r,.fr e rows]) vars=vars:=nr rfl
@[simp] theorem varsU_fr (t:Nat) (e:TypeId) (rows:List (List PV)) (vars:Nat→AV):varsU t (.fr e rows) vars=killV t vars:=nr rfl
@[simp] theorem objsU_clo (t n:Nat) (r:AV) (e:TypeId) (rows:List (List PV)) (objs:Nat→Option AO):objsU t (.clo n [r,.fr e rows]) objs=addO t (.arr e rows) objs:=nr rfl
@[simp] theorem objsU_fr (t:Nat) (e:TypeId) (rows:List (List PV)) (objs:Nat→Option AO):objsU t (.fr e rows) objs=shM t objs:=nr rfl
@[simp] theorem offVs_0 (t:Nat) (v:AV) (vs:List AV):offVs t 0 (v::vs)=offVs.offVs0 t vs:=nr rfl
@[simp] theorem offVs0_nil (t:Nat):offVs.offVs0 t []=True:=nr rfl
@[simp] theorem offVs0_cons (t:Nat) (v:AV) (vs:List AV):offVs.offVs0 t (v::vs)=(offV t v∧offVs.offVs0 t vs):=nr rfl
@[simp] theorem offV_clo (t:Nat) (f:FuncId) (cs:List AV):offV t (.clo f cs)=offCs t cs:=nr rfl
@[simp] theorem offC_ptr (t s o:Nat):offC t (.ptr s o)=(s≠t):=nr rfl
@[simp] theorem offCs_nil (t:Nat):offCs t []=True:=nr rfl
@[simp] theorem offCs_cons (t:Nat) (c:AV) (cs:List AV):offCs t (c::cs)=(offC t c∧offCs t cs):=nr rfl
@[simp] theorem clrO_sub (objs:Nat→Option AO) (e e1:TypeId) (zs:List Value) (t lo hi:Nat):clrO objs e zs (.sub t e1 lo hi)=(arrO (objs t)).bind fun r=>if r.1=e∧e1=e then some (t,.arr e (r.2.take lo++List.replicate (hi - lo) (zs.map cvp)++r.2.drop hi)) else none:=nr rfl
attribute [simp] shM_look put_look put_none addO_look keepS_look kill_look killO_look addL_look Fr_st frTags
@[simp] theorem look_nil (s:Nat):look [] s=.junk:=nr rfl
@[simp] theorem look_cons (t:Nat) (v:AV) (l:List (Nat × AV)) (s:Nat):look ((t,v)::l) s=if s=t then v else look l s:=nr rfl
@[simp] theorem lookO_nil (s:Nat):lookO [] s=none:=nr rfl
@[simp] theorem lookO_cons (t:Nat) (v:AO) (l:List (Nat × AO)) (s:Nat):lookO ((t,v)::l) s=if s=t then some v else lookO l s:=nr rfl
section
variable (vars:Nat→AV) (t:Nat)
@[simp] theorem ev_tmp:ev vars (.tmp t)=vars t:=nr rfl
@[simp] theorem ev_int (k:IntKind) (n:Int):ev vars (.const (.int k n))=.pv (.int k n):=nr rfl
@[simp] theorem ev_bool (b:Bool):ev vars (.const (.bool b))=.pv (.bool b):=nr rfl
@[simp] theorem ev_str (s:ByteArray):ev vars (.const (.string s))=.pv (.str s.data.toList):=nr rfl
@[simp] theorem ev_nil:ev vars (.const (.slice none 0 0))=.pv .nil:=nr rfl
@[simp] theorem ev_func (f:FuncId):ev vars (.func f)=.clo f []:=nr rfl
@[simp] theorem cv_int (k:IntKind) (n:Int):cv (.int k n)=.pv (.int k n):=nr rfl
@[simp] theorem cv_bool (b:Bool):cv (.bool b)=.pv (.bool b):=nr rfl
@[simp] theorem cv_str (s:ByteArray):cv (.string s)=.pv (.str s.data.toList):=nr rfl
@[simp] theorem cv_nil:cv (.slice none 0 0)=.pv .nil:=nr rfl
end
section
@[simp] theorem asks_pv (p:PV):asks (.pv p)=True:=nr rfl
@[simp] theorem asks_own (t:Nat):asks (.own t)=True:=nr rfl
@[simp] theorem asks_ptr (t o:Nat):asks (.ptr t o)=True:=nr rfl
@[simp] theorem asks_eptr (t:Nat) (e:TypeId) (i:Int) (o:Nat):asks (.eptr t e i o)=True:=nr rfl
@[simp] theorem asks_sub (t:Nat) (e:TypeId) (i o:Nat):asks (.sub t e i o)=True:=nr rfl
@[simp] theorem asks_rp (cs:List PV):asks (.rp cs)=True:=nr rfl
@[simp] theorem asks_agg (cs:List AV):asks (.agg cs)=True:=nr rfl
@[simp] theorem asks_tup (cs:List AV):asks (.tup cs)=True:=nr rfl
@[simp] theorem asks_clo (f:FuncId) (cs:List AV):asks (.clo f cs)=True:=nr rfl
@[simp] theorem asks_junk:asks .junk=True:=nr rfl
@[simp] theorem asks_cnd (g:Bool) (v:AV):asks (.cnd g v)=(g=true∧asks v):=nr rfl
@[simp] theorem asksL_nil:asksL []=True:=nr rfl
@[simp] theorem asksL_cons (v:AV) (l:List AV):asksL (v::l)=(asks v∧asksL l):=nr rfl
@[simp] theorem strip_pv (p:PV):strip (.pv p)=.pv p:=nr rfl
@[simp] theorem strip_cnd (g:Bool) (v:AV):strip (.cnd g v)=strip v:=nr rfl
@[simp] theorem strip_own (t:Nat):strip (.own t)=(.own t):=nr rfl
@[simp] theorem strip_ptr (t o:Nat):strip (.ptr t o)=(.ptr t o):=nr rfl
@[simp] theorem strip_eptr (t:Nat) (e:TypeId) (i:Int) (o:Nat):strip (.eptr t e i o)=(.eptr t e i o):=nr rfl
@[simp] theorem strip_sub (t:Nat) (e:TypeId) (i o:Nat):strip (.sub t e i o)=(.sub t e i o):=nr rfl
@[simp] theorem strip_rp (cs:List PV):strip (.rp cs)=(.rp cs):=nr rfl
@[simp] theorem strip_agg (cs:List AV):strip (.agg cs)=(.agg cs):=nr rfl
@[simp] theorem strip_tup (cs:List AV):strip (.tup cs)=(.tup cs):=nr rfl
@[simp] theorem strip_clo (f:FuncId) (cs:List AV):strip (.clo f cs)=(.clo f cs):=nr rfl
@[simp] theorem strip_junk  : strip .junk=.junk:=nr rfl
@[simp] theorem guardB_t (b:Bool):guardB (.pv (.bool b)) true=some b:=nr rfl
@[simp] theorem guardB_f (b:Bool):guardB (.pv (.bool b)) false=some (!b):=nr rfl
@[simp] theorem guardB_c (c:Bool) (v:AV) (w:Bool):guardB (.cnd c v) w=condB c (guardB v w):=nr rfl
@[simp] theorem condB_t (o:Option Bool):condB true o=o:=nr rfl
@[simp] theorem condB_f (o:Option Bool):condB false o=some false:=nr rfl
@[simp] theorem condB_s (c b:Bool):condB c (some b)=some (c && b):=by cases c<;>rfl
@[simp] theorem hasJ_nil:hasJ []=false:=nr rfl
@[simp] theorem hasJ_junk (l:List AV):hasJ (.junk::l)=true:=nr rfl
@[simp] theorem hasJ_val (v:Value) (l:List AV):hasJ (.pv (.val v)::l)=true:=nr rfl
@[simp] theorem hasJ_int (k:IntKind) (n:Int) (l:List AV):hasJ (.pv (.int k n)::l)=hasJ l:=nr rfl
@[simp] theorem hasJ_bool (b:Bool) (l:List AV):hasJ (.pv (.bool b)::l)=hasJ l:=nr rfl
@[simp] theorem hasJ_ro (r:List (List PV)) (l:List AV):hasJ (.pv (.ro r)::l)=hasJ l:=nr rfl
@[simp] theorem hasJ_own (t:Nat) (l:List AV):hasJ (.own t::l)=hasJ l:=nr rfl
@[simp] theorem hasJ_ptr (t o:Nat) (l:List AV):hasJ (.ptr t o::l)=hasJ l:=nr rfl
@[simp] theorem hasJ_eptr (t:Nat) (e:TypeId) (i:Int) (o:Nat) (l:List AV):hasJ (.eptr t e i o::l)=hasJ l:=nr rfl
@[simp] theorem hasJ_agg (cs:List AV) (l:List AV):hasJ (.agg cs::l)=hasJ l:=nr rfl
@[simp] theorem isF_some (b:Bool):isF (some b) = !b:=by cases b<;>rfl
end
section
variable (op:BinOp) (k:IntKind) (a b:Int) (x y:List UInt8) (p q:Bool)
@[simp] theorem sbin_add:sbin .add (.int k a) (.int k b)=some (True,.int k (k.wrap (a+b))):=by simp [sbin]
@[simp] theorem sbin_sub:sbin .sub (.int k a) (.int k b)=some (True,.int k (k.wrap (a - b))):=by simp [sbin]
@[simp] theorem sbin_mul:sbin .mul (.int k a) (.int k b)=some (True,.int k (k.wrap (a*b))):=by simp [sbin]
@[simp] theorem sbin_quo:sbin .quo (.int k a) (.int k b)=some (b≠0,.int k (k.wrap (a.tdiv b))):=by simp [sbin]
@[simp] theorem sbin_eql:sbin .eql (.int k a) (.int k b)=some (True,.bool (decide (a=b))):=by simp [sbin]
@[simp] theorem sbin_neq:sbin .neq (.int k a) (.int k b)=some (True,.bool (!decide (a=b))):=by simp [sbin]
@[simp] theorem sbin_lss:sbin .lss (.int k a) (.int k b)=some (True,.bool (decide (a < b))):=by simp [sbin]
@[simp] theorem sbin_leq:sbin .leq (.int k a) (.int k b)=some (True,.bool (decide (a≤b))):=by simp [sbin]
@[simp] theorem sbin_gtr:sbin .gtr (.int k a) (.int k b)=some (True,.bool (decide (b < a))):=by simp [sbin]
@[simp] theorem sbin_geq:sbin .geq (.int k a) (.int k b)=some (True,.bool (decide (b≤a))):=by simp [sbin]
@[simp] theorem sbin_and:sbin .and (.int k a) (.int k b)=some (True,sbit .and k a b):=by simp [sbin]
@[simp] theorem sbin_xor:sbin .xor (.int k a) (.int k b)=some (True,sbit .xor k a b):=by simp [sbin]
@[simp] theorem sbin_shl (k':IntKind):sbin .shl (.int k a) (.int k' b)=some (0≤b,.int k (k.wrap (a*2 ^ (min b.toNat k.bits)))):=nr rfl
@[simp] theorem sbin_shr (k':IntKind):sbin .shr (.int k a) (.int k' b)=some (0≤b,.int k (a.fdiv (2 ^ (min b.toNat k.bits)))):=nr rfl
end
@[simp ↓] theorem semK_bin {P:Program}{Γ:Tab}{d:Option Nat}{objs:Nat→Option AO}{C:Eff→Prop}{xs:List AV}{op:BinOp}:semK P Γ d (.bin op) xs objs C=(asksL xs∧withO (semQ (.bin op) (xs.map strip) objs) fun x=>x.1∧C (.put x.2)):=rfl
@[simp ↓] theorem semG_bin {P:Program}{Γ:Tab}{d:Option Nat}{objs:Nat→Option AO}{C:Eff→Prop}{xs:List AV}{c:Bool}{op:BinOp}:semG P Γ c d (.bin op) xs objs C=withO (semQ (.bin op) (xs.map strip) objs) fun x=>(c=true→asksL xs∧x.1)∧C (.put (.cnd c x.2)):=rfl
@[simp ↓] theorem semK_beq {P:Program}{Γ:Tab}{d:Option Nat}{objs:Nat→Option AO}{C:Eff→Prop}{xs:List AV}{ne:Bool}:semK P Γ d (.beq ne) xs objs C=(asksL xs∧withO (semQ (.beq ne) (xs.map strip) objs) fun x=>x.1∧C (.put x.2)):=rfl
@[simp ↓] theorem semG_beq {P:Program}{Γ:Tab}{d:Option Nat}{objs:Nat→Option AO}{C:Eff→Prop}{xs:List AV}{c:Bool}{ne:Bool}:semG P Γ c d (.beq ne) xs objs C=withO (semQ (.beq ne) (xs.map strip) objs) fun x=>(c=true→asksL xs∧x.1)∧C (.put (.cnd c x.2)):=rfl
@[simp ↓] theorem semK_slen {P:Program}{Γ:Tab}{d:Option Nat}{objs:Nat→Option AO}{C:Eff→Prop}{xs:List AV}  : semK P Γ d .slen xs objs C=(asksL xs∧withO (semQ .slen (xs.map strip) objs) fun x=>x.1∧C (.put x.2)):=rfl
@[simp ↓] theorem semG_slen {P:Program}{Γ:Tab}{d:Option Nat}{objs:Nat→Option AO}{C:Eff→Prop}{xs:List AV}{c:Bool}  : semG P Γ c d .slen xs objs C=withO (semQ .slen (xs.map strip) objs) fun x=>(c=true→asksL xs∧x.1)∧C (.put (.cnd c x.2)):=rfl
@[simp ↓] theorem semK_eqs {P:Program}{Γ:Tab}{d:Option Nat}{objs:Nat→Option AO}{C:Eff→Prop}{xs:List AV}{ne:Bool}{ks:List Nat}:semK P Γ d (.eqs ne ks) xs objs C=(asksL xs∧withO (semQ (.eqs ne ks) (xs.map strip) objs) fun x=>x.1∧C (.put x.2)):=rfl
@[simp ↓] theorem semG_eqs {P:Program}{Γ:Tab}{d:Option Nat}{objs:Nat→Option AO}{C:Eff→Prop}{xs:List AV}{c:Bool}{ne:Bool}{ks:List Nat}:semG P Γ c d (.eqs ne ks) xs objs C=withO (semQ (.eqs ne ks) (xs.map strip) objs) fun x=>(c=true→asksL xs∧x.1)∧C (.put (.cnd c x.2)):=rfl
@[simp ↓] theorem semK_mnx {P:Program}{Γ:Tab}{d:Option Nat}{objs:Nat→Option AO}{C:Eff→Prop}{xs:List AV}{b:Bool}:semK P Γ d (.mnx b) xs objs C=(asksL xs∧withO (semQ (.mnx b) (xs.map strip) objs) fun x=>x.1∧C (.put x.2)):=rfl
@[simp ↓] theorem semG_mnx {P:Program}{Γ:Tab}{d:Option Nat}{objs:Nat→Option AO}{C:Eff→Prop}{xs:List AV}{c:Bool}{b:Bool}:semG P Γ c d (.mnx b) xs objs C=withO (semQ (.mnx b) (xs.map strip) objs) fun x=>(c=true→asksL xs∧x.1)∧C (.put (.cnd c x.2)):=rfl
@[simp ↓] theorem semK_btoS {P:Program}{Γ:Tab}{d:Option Nat}{objs:Nat→Option AO}{C:Eff→Prop}{xs:List AV}  : semK P Γ d (.btoS) xs objs C=(asksL xs∧withO (semQ (.btoS) (xs.map strip) objs) fun x=>x.1∧C (.put x.2)):=rfl
@[simp ↓] theorem semG_btoS {P:Program}{Γ:Tab}{d:Option Nat}{objs:Nat→Option AO}{C:Eff→Prop}{xs:List AV}{c:Bool}  : semG P Γ c d (.btoS) xs objs C=withO (semQ (.btoS) (xs.map strip) objs) fun x=>(c=true→asksL xs∧x.1)∧C (.put (.cnd c x.2)):=rfl
@[simp ↓] theorem semK_scv {P:Program}{Γ:Tab}{d:Option Nat}{objs:Nat→Option AO}{C:Eff→Prop}{xs:List AV}  : semK P Γ d .scv xs objs C=(asksL xs∧withO (semQ .scv (xs.map strip) objs) fun x=>x.1∧C (.put x.2)):=rfl
@[simp ↓] theorem semG_scv {P:Program}{Γ:Tab}{d:Option Nat}{objs:Nat→Option AO}{C:Eff→Prop}{xs:List AV}{c:Bool}  : semG P Γ c d .scv xs objs C=withO (semQ .scv (xs.map strip) objs) fun x=>(c=true→asksL xs∧x.1)∧C (.put (.cnd c x.2)):=rfl
@[simp ↓] theorem semK_not {P:Program}{Γ:Tab}{d:Option Nat}{objs:Nat→Option AO}{C:Eff→Prop}{xs:List AV}  : semK P Γ d .not xs objs C=(asksL xs∧withO (semQ .not (xs.map strip) objs) fun x=>x.1∧C (.put x.2)):=rfl
@[simp ↓] theorem semG_not {P:Program}{Γ:Tab}{d:Option Nat}{objs:Nat→Option AO}{C:Eff→Prop}{xs:List AV}{c:Bool}  : semG P Γ c d .not xs objs C=withO (semQ .not (xs.map strip) objs) fun x=>(c=true→asksL xs∧x.1)∧C (.put (.cnd c x.2)):=rfl
@[simp ↓] theorem semK_neg {P:Program}{Γ:Tab}{d:Option Nat}{objs:Nat→Option AO}{C:Eff→Prop}{xs:List AV}  : semK P Γ d .neg xs objs C=(asksL xs∧withO (semQ .neg (xs.map strip) objs) fun x=>x.1∧C (.put x.2)):=rfl
@[simp ↓] theorem semG_neg {P:Program}{Γ:Tab}{d:Option Nat}{objs:Nat→Option AO}{C:Eff→Prop}{xs:List AV}{c:Bool}  : semG P Γ c d .neg xs objs C=withO (semQ .neg (xs.map strip) objs) fun x=>(c=true→asksL xs∧x.1)∧C (.put (.cnd c x.2)):=rfl
@[simp ↓] theorem semK_cvi {P:Program}{Γ:Tab}{d:Option Nat}{objs:Nat→Option AO}{C:Eff→Prop}{xs:List AV}{k:IntKind}:semK P Γ d (.cvi k) xs objs C=(asksL xs∧withO (semQ (.cvi k) (xs.map strip) objs) fun x=>x.1∧C (.put x.2)):=rfl
@[simp ↓] theorem semG_cvi {P:Program}{Γ:Tab}{d:Option Nat}{objs:Nat→Option AO}{C:Eff→Prop}{xs:List AV}{c:Bool}{k:IntKind}:semG P Γ c d (.cvi k) xs objs C=withO (semQ (.cvi k) (xs.map strip) objs) fun x=>(c=true→asksL xs∧x.1)∧C (.put (.cnd c x.2)):=rfl
@[simp ↓] theorem semK_len {P:Program}{Γ:Tab}{d:Option Nat}{objs:Nat→Option AO}{C:Eff→Prop}{xs:List AV}  : semK P Γ d .len xs objs C=(asksL xs∧withO (semQ .len (xs.map strip) objs) fun x=>x.1∧C (.put x.2)):=rfl
@[simp ↓] theorem semG_len {P:Program}{Γ:Tab}{d:Option Nat}{objs:Nat→Option AO}{C:Eff→Prop}{xs:List AV}{c:Bool}  : semG P Γ c d .len xs objs C=withO (semQ .len (xs.map strip) objs) fun x=>(c=true→asksL xs∧x.1)∧C (.put (.cnd c x.2)):=rfl
@[simp ↓] theorem semK_sidx {P:Program}{Γ:Tab}{d:Option Nat}{objs:Nat→Option AO}{C:Eff→Prop}{xs:List AV}  : semK P Γ d .sidx xs objs C=(asksL xs∧withO (semQ .sidx (xs.map strip) objs) fun x=>x.1∧C (.put x.2)):=rfl
@[simp ↓] theorem semG_sidx {P:Program}{Γ:Tab}{d:Option Nat}{objs:Nat→Option AO}{C:Eff→Prop}{xs:List AV}{c:Bool}  : semG P Γ c d .sidx xs objs C=withO (semQ .sidx (xs.map strip) objs) fun x=>(c=true→asksL xs∧x.1)∧C (.put (.cnd c x.2)):=rfl
@[simp ↓] theorem semK_ssl {P:Program}{Γ:Tab}{d:Option Nat}{objs:Nat→Option AO}{C:Eff→Prop}{xs:List AV}{a b:Bool}:semK P Γ d (.ssl a b) xs objs C=(asksL xs∧withO (semQ (.ssl a b) (xs.map strip) objs) fun x=>x.1∧C (.put x.2)):=rfl
@[simp ↓] theorem semG_ssl {P:Program}{Γ:Tab}{d:Option Nat}{objs:Nat→Option AO}{C:Eff→Prop}{xs:List AV}{c:Bool}{a b:Bool}:semG P Γ c d (.ssl a b) xs objs C=withO (semQ (.ssl a b) (xs.map strip) objs) fun x=>(c=true→asksL xs∧x.1)∧C (.put (.cnd c x.2)):=rfl
@[simp ↓] theorem semK_fld {P:Program}{Γ:Tab}{d:Option Nat}{objs:Nat→Option AO}{C:Eff→Prop}{xs:List AV}{o:Nat}{n:Option Nat}:semK P Γ d (.fld o n) xs objs C=(asksL xs∧withO (semQ (.fld o n) (xs.map strip) objs) fun x=>x.1∧C (.put x.2)):=rfl
@[simp ↓] theorem semG_fld {P:Program}{Γ:Tab}{d:Option Nat}{objs:Nat→Option AO}{C:Eff→Prop}{xs:List AV}{c:Bool}{o:Nat}{n:Option Nat}:semG P Γ c d (.fld o n) xs objs C=withO (semQ (.fld o n) (xs.map strip) objs) fun x=>(c=true→asksL xs∧x.1)∧C (.put (.cnd c x.2)):=rfl
@[simp ↓] theorem semK_fad {P:Program}{Γ:Tab}{d:Option Nat}{objs:Nat→Option AO}{C:Eff→Prop}{xs:List AV}{o:Nat}:semK P Γ d (.fad o) xs objs C=(asksL xs∧withO (semQ (.fad o) (xs.map strip) objs) fun x=>x.1∧C (.put x.2)):=rfl
@[simp ↓] theorem semG_fad {P:Program}{Γ:Tab}{d:Option Nat}{objs:Nat→Option AO}{C:Eff→Prop}{xs:List AV}{c:Bool}{o:Nat}:semG P Γ c d (.fad o) xs objs C=withO (semQ (.fad o) (xs.map strip) objs) fun x=>(c=true→asksL xs∧x.1)∧C (.put (.cnd c x.2)):=rfl
@[simp ↓] theorem semK_load {P:Program}{Γ:Tab}{d:Option Nat}{objs:Nat→Option AO}{C:Eff→Prop}{xs:List AV}{n:Option Nat}:semK P Γ d (.load n) xs objs C=(asksL xs∧withO (semQ (.load n) (xs.map strip) objs) fun x=>x.1∧C (.put x.2)):=rfl
@[simp ↓] theorem semG_load {P:Program}{Γ:Tab}{d:Option Nat}{objs:Nat→Option AO}{C:Eff→Prop}{xs:List AV}{c:Bool}{n:Option Nat}:semG P Γ c d (.load n) xs objs C=withO (semQ (.load n) (xs.map strip) objs) fun x=>(c=true→asksL xs∧x.1)∧C (.put (.cnd c x.2)):=rfl
@[simp ↓] theorem semK_ixa {P:Program}{Γ:Tab}{d:Option Nat}{objs:Nat→Option AO}{C:Eff→Prop}{xs:List AV}{e:TypeId}{s:Nat}:semK P Γ d (.ixa e s) xs objs C=(asksL xs∧withO (semQ (.ixa e s) (xs.map strip) objs) fun x=>x.1∧C (.put x.2)):=rfl
@[simp ↓] theorem semK_ixp {P:Program}{Γ:Tab}{d:Option Nat}{objs:Nat→Option AO}{C:Eff→Prop}{xs:List AV}{e s:Nat}:semK P Γ d (.ixp e s) xs objs C=(asksL xs∧withO (semQ (.ixp e s) (xs.map strip) objs) fun x=>x.1∧C (.put x.2)):=rfl
@[simp ↓] theorem semK_nck {P:Program}{Γ:Tab}{d:Option Nat}{objs:Nat→Option AO}{C:Eff→Prop}{xs:List AV}  : semK P Γ d .nck xs objs C=(asksL xs∧withO (semQ .nck (xs.map strip) objs) fun x=>x.1∧C (.put x.2)):=rfl
@[simp ↓] theorem semG_ixa {P:Program}{Γ:Tab}{d:Option Nat}{objs:Nat→Option AO}{C:Eff→Prop}{xs:List AV}{c:Bool}{e:TypeId}{s:Nat}:semG P Γ c d (.ixa e s) xs objs C=withO (semQ (.ixa e s) (xs.map strip) objs) fun x=>(c=true→asksL xs∧x.1)∧C (.put (.cnd c x.2)):=rfl
@[simp ↓] theorem semG_ixp {P:Program}{Γ:Tab}{d:Option Nat}{objs:Nat→Option AO}{C:Eff→Prop}{xs:List AV}{c:Bool}{e s:Nat}:semG P Γ c d (.ixp e s) xs objs C=withO (semQ (.ixp e s) (xs.map strip) objs) fun x=>(c=true→asksL xs∧x.1)∧C (.put (.cnd c x.2)):=rfl
@[simp ↓] theorem semG_nck {P:Program}{Γ:Tab}{d:Option Nat}{objs:Nat→Option AO}{C:Eff→Prop}{xs:List AV}{c:Bool}  : semG P Γ c d .nck xs objs C=withO (semQ .nck (xs.map strip) objs) fun x=>(c=true→asksL xs∧x.1)∧C (.put (.cnd c x.2)):=rfl
@[simp ↓] theorem semK_slc {P:Program}{Γ:Tab}{d:Option Nat}{objs:Nat→Option AO}{C:Eff→Prop}{xs:List AV}{s:Nat}{a b:Bool}:semK P Γ d (.slc s a b) xs objs C=(asksL xs∧withO (semQ (.slc s a b) (xs.map strip) objs) fun x=>x.1∧C (.put x.2)):=rfl
@[simp ↓] theorem semG_slc {P:Program}{Γ:Tab}{d:Option Nat}{objs:Nat→Option AO}{C:Eff→Prop}{xs:List AV}{c:Bool}{s:Nat}{a b:Bool}:semG P Γ c d (.slc s a b) xs objs C=withO (semQ (.slc s a b) (xs.map strip) objs) fun x=>(c=true→asksL xs∧x.1)∧C (.put (.cnd c x.2)):=rfl
@[simp ↓] theorem semK_ext {P:Program}{Γ:Tab}{d:Option Nat}{objs:Nat→Option AO}{C:Eff→Prop}{xs:List AV}{i:Nat}:semK P Γ d (.ext i) xs objs C=(asksL xs∧withO (semQ (.ext i) (xs.map strip) objs) fun x=>x.1∧C (.put x.2)):=rfl
@[simp ↓] theorem semG_ext {P:Program}{Γ:Tab}{d:Option Nat}{objs:Nat→Option AO}{C:Eff→Prop}{xs:List AV}{c:Bool}{i:Nat}:semG P Γ c d (.ext i) xs objs C=withO (semQ (.ext i) (xs.map strip) objs) fun x=>(c=true→asksL xs∧x.1)∧C (.put (.cnd c x.2)):=rfl
@[simp ↓] theorem semK_bld {P:Program}{Γ:Tab}{d:Option Nat}{objs:Nat→Option AO}{C:Eff→Prop}{xs:List AV}{zs:List Value}{ps:List (Nat × Nat)}:semK P Γ d (.bld zs ps) xs objs C=(asksL xs∧withO (semQ (.bld zs ps) (xs.map strip) objs) fun x=>x.1∧C (.put x.2)):=rfl
@[simp ↓] theorem semG_bld {P:Program}{Γ:Tab}{d:Option Nat}{objs:Nat→Option AO}{C:Eff→Prop}{xs:List AV}{c:Bool}{zs:List Value}{ps:List (Nat × Nat)}:semG P Γ c d (.bld zs ps) xs objs C=withO (semQ (.bld zs ps) (xs.map strip) objs) fun x=>(c=true→asksL xs∧x.1)∧C (.put (.cnd c x.2)):=rfl
@[simp ↓] theorem semK_mkf {P:Program}{Γ:Tab}{d:Option Nat}{objs:Nat→Option AO}{C:Eff→Prop}{xs:List AV}{f:FuncId}:semK P Γ d (.mkf f) xs objs C=(asksL xs∧withO (semQ (.mkf f) (xs.map strip) objs) fun x=>x.1∧C (.put x.2)):=rfl
@[simp ↓] theorem semG_mkf {P:Program}{Γ:Tab}{d:Option Nat}{objs:Nat→Option AO}{C:Eff→Prop}{xs:List AV}{c:Bool}{f:FuncId}:semG P Γ c d (.mkf f) xs objs C=withO (semQ (.mkf f) (xs.map strip) objs) fun x=>(c=true→asksL xs∧x.1)∧C (.put (.cnd c x.2)):=rfl
@[simp ↓] theorem semK_nilS {P:Program}{Γ:Tab}{d:Option Nat}{objs:Nat→Option AO}{C:Eff→Prop}{xs:List AV}{e:TypeId}:semK P Γ d (.nilS e) xs objs C=withO d fun d=>asksL xs∧withO (semF (.nilS e) d (xs.map strip) objs) fun x=>x.1∧objs d=none∧C (.new x.2.1 [(d,x.2.2)]):=rfl
@[simp ↓] theorem semK_box {P:Program}{Γ:Tab}{d:Option Nat}{objs:Nat→Option AO}{C:Eff→Prop}{xs:List AV}  : semK P Γ d .box xs objs C=withO d fun d=>asksL xs∧withO (semF .box d (xs.map strip) objs) fun x=>x.1∧objs d=none∧C (.new x.2.1 [(d,x.2.2)]):=rfl
@[simp ↓] theorem semK_alloc {P:Program}{Γ:Tab}{d:Option Nat}{objs:Nat→Option AO}{C:Eff→Prop}{xs:List AV}{zs:List Value}:semK P Γ d (.alloc zs) xs objs C=withO d fun d=>asksL xs∧withO (semF (.alloc zs) d (xs.map strip) objs) fun x=>x.1∧objs d=none∧C (.new x.2.1 [(d,x.2.2)]):=rfl
@[simp ↓] theorem semK_bsl {P:Program}{Γ:Tab}{d:Option Nat}{objs:Nat→Option AO}{C:Eff→Prop}{xs:List AV}{e:TypeId}{sz:Nat}:semK P Γ d (.bsl e sz) xs objs C=withO d fun d=>asksL xs∧withO (semF (.bsl e sz) d (xs.map strip) objs) fun x=>x.1∧objs d=none∧C (.new x.2.1 [(d,x.2.2)]):=rfl
@[simp ↓] theorem semG_nilS {P:Program}{Γ:Tab}{d:Option Nat}{objs:Nat→Option AO}{C:Eff→Prop}{xs:List AV}{c:Bool}{e:TypeId}:semG P Γ c d (.nilS e) xs objs C=((c=true→semK P Γ d (.nilS e) xs objs C)∧(c=false→C (.put .junk))):=rfl
@[simp ↓] theorem semG_box {P:Program}{Γ:Tab}{d:Option Nat}{objs:Nat→Option AO}{C:Eff→Prop}{xs:List AV}{c:Bool}  : semG P Γ c d .box xs objs C=((c=true→semK P Γ d .box xs objs C)∧(c=false→C (.put .junk))):=rfl
@[simp ↓] theorem semG_alloc {P:Program}{Γ:Tab}{d:Option Nat}{objs:Nat→Option AO}{C:Eff→Prop}{xs:List AV}{c:Bool}{zs:List Value}:semG P Γ c d (.alloc zs) xs objs C=((c=true→semK P Γ d (.alloc zs) xs objs C)∧(c=false→C (.put .junk))):=rfl
@[simp ↓] theorem semG_bsl {P:Program}{Γ:Tab}{d:Option Nat}{objs:Nat→Option AO}{C:Eff→Prop}{xs:List AV}{c:Bool}{e:TypeId}{sz:Nat}:semG P Γ c d (.bsl e sz) xs objs C=((c=true→semK P Γ d (.bsl e sz) xs objs C)∧(c=false→C (.put (voidB xs)))):=rfl
@[simp ↓] theorem semG_store {P:Program}{Γ:Tab}{d:Option Nat}{objs:Nat→Option AO}{C:Eff→Prop}{xs:List AV}{c:Bool}{n:Option Nat}:semG P Γ c d (.store n) xs objs C=((c=true→semK P Γ d (.store n) xs objs C)∧(c=false→C (.put .junk))):=rfl
@[simp ↓] theorem semG_app {P:Program}{Γ:Tab}{d:Option Nat}{objs:Nat→Option AO}{C:Eff→Prop}{xs:List AV}{c:Bool}{e:TypeId}{z b:Nat}:semG P Γ c d (.app e z b) xs objs C=((c=true→semK P Γ d (.app e z b) xs objs C)∧(c=false→C (.put .junk))):=rfl
@[simp ↓] theorem semK_mov {P:Program}{Γ:Tab}{d:Option Nat}{objs:Nat→Option AO}{C:Eff→Prop}{x:AV}:semK P Γ d .mov [x] objs C=C (.put x):=by simp [semK,withO]
@[simp ↓] theorem semG_mov {P:Program}{Γ:Tab}{c:Bool}{d:Option Nat}{objs:Nat→Option AO}{C:Eff→Prop}{x:AV}:semG P Γ c d .mov [x] objs C=C (.put (.cnd c x)):=by simp [semG,withO]
@[simp ↓] theorem semK_pick {P:Program}{Γ:Tab}{d:Option Nat}{objs:Nat→Option AO}{C:Eff→Prop}{xs:List AV}:semK P Γ d .pick xs objs C=withO (apick xs) fun x=>x.1∧C (.put x.2):=rfl
@[simp ↓] theorem semG_pick {P:Program}{Γ:Tab}{d:Option Nat}{objs:Nat→Option AO}{C:Eff→Prop}{xs:List AV}{c:Bool}:semG P Γ c d .pick xs objs C=withO (apick xs) fun x=>(c=true→x.1)∧C (.put (.cnd c x.2)):=rfl
@[simp ↓] theorem semK_store {P:Program}{Γ:Tab}{d:Option Nat}{objs:Nat→Option AO}{C:Eff→Prop}{xs:List AV}{n:Option Nat}:semK P Γ d (.store n) xs objs C=(asksL xs∧withO (semM (.store n) (xs.map strip) objs) fun x=>x.1∧C (.upd x.2.1 x.2.2)):=rfl
@[simp ↓] theorem semK_app_own {P:Program}{Γ:Tab}{d:Option Nat}{objs:Nat→Option AO}{C:Eff→Prop}{x:AV}{t:Nat}{e:TypeId}{z b:Nat}:semK P Γ d (.app e z b) [.own t,x] objs C =
  (asksL [.own t,x]∧withO (semM (.app e z b) [.own t,strip x] objs) fun x=>x.1∧C (.app x.2.1 x.2.2)):=rfl
@[simp ↓] theorem semK_app_nil {P:Program}{Γ:Tab}{d:Option Nat}{objs:Nat→Option AO}{C:Eff→Prop}{x:AV}{e:TypeId}{z b:Nat}:semK P Γ d (.app e z b) [.pv .nil,x] objs C =
  (asksL [.pv .nil,x]∧withO d fun d=>withO (semF (.app e z b) d [.pv .nil,strip x] objs) fun x=>x.1∧objs d=none∧C (.new x.2.1 [(d,x.2.2)])):=rfl
@[simp ↓] theorem semK_call {P:Program}{Γ:Tab}{d:Option Nat}{objs:Nat→Option AO}{C:Eff→Prop}{xs:List AV}{f:FuncId}:semK P Γ d (.call f) xs objs C=semCall P Γ d f xs objs C:=rfl
@[simp ↓] theorem semG_call {P:Program}{Γ:Tab}{d:Option Nat}{objs:Nat→Option AO}{C:Eff→Prop}{xs:List AV}{c:Bool}{f:FuncId}:semG P Γ c d (.call f) xs objs C =
  withO (reis objs (xs.map strip)) fun ys=>withO (gt Γ f ys) fun x=>if (!trR x.2 && (frs x.2).isEmpty)=true then (c=true→asksL xs∧x.1)∧flat x.2∧frs x.2=[]∧resOK x.2=true∧C (.put (.cnd c x.2)) else (c=true→semCall P Γ d f xs objs C)∧(c=false→C (.put (.cnd false (unfr x.2)))):=rfl
@[simp ↓] theorem semGc_eq {Γ:Tab}{objs:Nat→Option AO}{C:Eff→Prop}{xs:List AV}{c:Bool}{f:FuncId}:semGc Γ c f xs objs C =
  withO (reis objs (xs.map strip)) fun ys=>withO (gt Γ f ys) fun x=>(c=true→asksL xs∧x.1)∧flat x.2∧frs x.2=[]∧resOK x.2=true∧C (.put (.cnd c x.2)):=rfl
section
variable {objs:Nat→Option AO}
@[simp] theorem idxO_arr (e:TypeId) (rows:List (List PV)):idxO (some (.arr e rows))=some (e,rows.length):=nr rfl
@[simp] theorem loadE_arr (e e':TypeId) (i:Int) (o:Nat) (rows:List (List PV)):loadE e i o (some (.arr e' rows))=if e'=e then some (0≤i∧i < rows.length∧o < (rowAt rows i).length,.pv ((rowAt rows i).getD o (.int .u8 0))) else none:=nr rfl
@[simp] theorem arrO_mpv (es:List (PV × PV)):arrO (some (.mpv es))=none:=nr rfl
@[simp] theorem arrO_some (e:TypeId) (rows:List (List PV)):arrO (some (.arr e rows))=some (e,rows):=nr rfl
@[simp] theorem boxO_some (cs:List AV):boxO (some (.box cs))=some cs:=nr rfl
@[simp] theorem boolOf_b (c:Bool):boolOf (.pv (.bool c))=some c:=nr rfl
@[simp] theorem apick_eq (c a b:AV):apick [c,a,b]=(boolOf (strip c)).bind fun g=>(apick2 (asks a) (asks b) g (strip a) (strip b)).map fun r=>(asks c∧r.1,r.2):=nr rfl
@[simp] theorem apick2_eq (φ ψ:Prop) (c x y:Bool):apick2 φ ψ c (.pv (.bool x)) (.pv (.bool y))=some ((c=true→φ)∧(c=false→ψ),.pv (.bool (cond c x y))):=nr rfl
@[simp] theorem apick2_1j (φ ψ:Prop) (c x:Bool):apick2 φ ψ c (.pv (.bool x)) .junk=some (c=true∧φ,.pv (.bool x)):=nr rfl
@[simp] theorem apick2_2j (φ ψ:Prop) (c y:Bool):apick2 φ ψ c .junk (.pv (.bool y))=some (c=false∧ψ,.pv (.bool y)):=nr rfl
@[simp] theorem bounds10 (n:Nat) (k:IntKind) (l:Int):bounds n true false [.pv (.int k l)]=some (l,(n:Int)):=nr rfl
@[simp] theorem bounds01 (n:Nat) (k:IntKind) (h:Int):bounds n false true [.pv (.int k h)]=some (0,h):=nr rfl
@[simp] theorem semQ_bin (op:BinOp) (x y:PV):semQ (.bin op) [.pv x,.pv y] objs=(sbin op x y).map fun r=>(r.1,.pv r.2):=nr rfl
@[simp] theorem semQ_beq (ne x y:Bool):semQ (.beq ne) [.pv (.bool x),.pv (.bool y)] objs=some (True,.pv (.bool (if ne then x != y else x == y))):=nr rfl
@[simp] theorem semQ_not (b:Bool):semQ .not [.pv (.bool b)] objs=some (True,.pv (.bool (!b))):=nr rfl
@[simp] theorem semQ_cvi (k k':IntKind) (n:Int):semQ (.cvi k) [.pv (.int k' n)] objs=some (True,.pv (.int k (k.wrap n))):=nr rfl
@[simp] theorem semQ_eqs (ne:Bool) (ks:List Nat) (xs ys:List AV):semQ (.eqs ne ks) [.agg xs,.agg ys] objs=(pvsOf xs).bind fun a=>(pvsOf ys).map fun b=>(a.map srt=ks∧b.map srt=ks,.pv (.bool (if ne then !eqPs a b else eqPs a b))):=nr rfl
@[simp] theorem eqPs_nil:eqPs [] []=true:=nr rfl
@[simp] theorem eqPs_cons (a b:PV) (l m:List PV):eqPs (a::l) (b::m)=(eqP a b && eqPs l m):=nr rfl
@[simp] theorem eqP_int (k k':IntKind) (a b:Int):eqP (.int k a) (.int k' b)=decide (a=b):=nr rfl
@[simp] theorem eqP_str (a b:List UInt8):eqP (.str a) (.str b)=decide (a=b):=nr rfl
@[simp] theorem eqP_bool (a b:Bool):eqP (.bool a) (.bool b)=decide (a=b):=nr rfl
@[simp] theorem semQ_max (k:IntKind) (a b:Int):semQ (.mnx true) [.pv (.int k a),.pv (.int k b)] objs=some (True,.pv (.int k (max a b))):=by simp [semQ]
@[simp] theorem rowsB_ro (rows:List (List PV)):rowsB objs (.pv (.ro rows))=some rows:=nr rfl
@[simp] theorem semQ_len_str (l:List UInt8):semQ .slen [.pv (.str l)] objs=some (True,.pv (.int .i64 l.length)):=nr rfl
@[simp] theorem semQ_len_nil:semQ .len [.pv .nil] objs=some (True,.pv (.int .i64 0)):=nr rfl
@[simp] theorem semQ_len_ro (rows:List (List PV)):semQ .len [.pv (.ro rows)] objs=some (True,.pv (.int .i64 rows.length)):=nr rfl
@[simp] theorem semQ_len_own (t:Nat):semQ .len [.own t] objs=(idxO (objs t)).map fun r=>(True,.pv (.int .i64 r.2)):=nr rfl
@[simp] theorem semQ_len_sub (t:Nat) (e:TypeId) (lo hi:Nat):semQ .len [.sub t e lo hi] objs=(arrO (objs t)).map fun _=>(True,.pv (.int .i64 ((hi:Int) - (lo:Int)))):=nr rfl
@[simp] theorem semQ_sidx (l:List UInt8) (k:IntKind) (i:Int):semQ .sidx [.pv (.str l),.pv (.int k i)] objs=some (0≤i∧i < l.length,.pv (.int .u8 ((l.getD i.toNat 0).toNat:Int))):=nr rfl
@[simp] theorem semQ_slc (sz:Nat) (lo hi:Bool) (rows:List (List PV)) (bs:List AV):semQ (.slc sz lo hi) (.pv (.ro rows)::bs) objs =
  (bounds rows.length lo hi bs).map fun b:Int × Int=>(0≤b.1∧b.1≤b.2∧b.2≤(rows.length:Int)∧(∀r∈rows,r.length=sz),.pv (.ro (cut rows b.1 b.2))):=by unfold semQ;rfl
@[simp] theorem semQ_fad_ptr (off t o:Nat):semQ (.fad off) [.ptr t o] objs=some (True,.ptr t (o+off)):=nr rfl
@[simp] theorem semQ_fad_eptr (off t o:Nat) (e:TypeId) (i:Int):semQ (.fad off) [.eptr t e i o] objs=some (True,.eptr t e i (o+off)):=nr rfl
@[simp] theorem semQ_fad_rp (off:Nat) (cs:List PV):semQ (.fad off) [.rp cs] objs=some (True,.rp (cs.drop off)):=nr rfl
@[simp] theorem semQ_nck_ptr (t o:Nat):semQ .nck [.ptr t o] objs=some (True,.ptr t o):=nr rfl
@[simp] theorem semQ_nck_rp (cs:List PV):semQ .nck [.rp cs] objs=some (True,.rp cs):=nr rfl
@[simp] theorem semQ_load_ptr (t o:Nat):semQ (.load none) [.ptr t o] objs=(boxO (objs t)).bind fun cs=>(cs[o]?).bind fun c=>if cellB c=true then some (True,c) else none:=nr rfl
@[simp] theorem cellB_pv (p:PV):cellB (.pv p)=true:=nr rfl
@[simp] theorem cellB_own (t:Nat):cellB (.own t)=true:=nr rfl
@[simp] theorem semQ_loadn_ptr (n t o:Nat):semQ (.load (some n)) [.ptr t o] objs=(boxO (objs t)).bind fun cs=>if o+n≤cs.length then some (True,.agg ((cs.drop o).take n)) else none:=nr rfl
@[simp] theorem semQ_load_eptr (t o:Nat) (e:TypeId) (i:Int):semQ (.load none) [.eptr t e i o] objs =
  loadE e i o (objs t):=nr rfl
@[simp] theorem semQ_loadn_eptr (n t o:Nat) (e:TypeId) (i:Int):semQ (.load (some n)) [.eptr t e i o] objs =
  (arrO (objs t)).bind fun r=>if r.1=e∧o+n≤(rowAt r.2 i).length then some (0≤i∧i < r.2.length,.agg ((((rowAt r.2 i).drop o).take n).map .pv)) else none:=nr rfl
@[simp] theorem semQ_load_rp (c:PV) (cs:List PV):semQ (.load none) [.rp (c::cs)] objs=some (True,.pv c):=nr rfl
@[simp] theorem semQ_load_rp0:semQ (.load none) [.rp []] objs=some (False,.pv (.int .u64 0)):=nr rfl
@[simp] theorem semQ_loadn_rp (n:Nat) (cs:List PV):semQ (.load (some n)) [.rp cs] objs=(if n≤cs.length then some (True,.agg ((cs.take n).map .pv)) else none):=nr rfl
@[simp] theorem semQ_ixa_ro (e:TypeId) (sz:Nat) (rows:List (List PV)) (k:IntKind) (i:Int):semQ (.ixa e sz) [.pv (.ro rows),.pv (.int k i)] objs=some (0≤i∧i < rows.length∧(rowAt rows i).length=sz,.rp (rowAt rows i)):=nr rfl
@[simp] theorem semQ_ixa_own (e:TypeId) (sz t:Nat) (k:IntKind) (i:Int):semQ (.ixa e sz) [.own t,.pv (.int k i)] objs =
  (idxO (objs t)).bind fun r=>if r.1=e then some (0≤i∧i < r.2,.eptr t e i 0) else none:=nr rfl
@[simp] theorem semQ_ixa_sub (e e1:TypeId) (sz t lo hi:Nat) (k:IntKind) (i:Int):semQ (.ixa e sz) [.sub t e1 lo hi,.pv (.int k i)] objs =
  (arrO (objs t)).bind fun r=>if r.1=e∧e1=e then some (0≤i∧i < (hi:Int) - (lo:Int),.eptr t e ((lo:Int)+i) 0) else none:=nr rfl
@[simp] theorem semQ_slc_nil (sz:Nat) (lo hi:Bool) (bs:List AV):semQ (.slc sz lo hi) (.pv .nil::bs) objs=(bounds 0 lo hi bs).map fun b:Int × Int=>(b.1=0∧b.2=0,.pv .nil):=nr rfl
@[simp] theorem semQ_slc_own (sz t:Nat) (lo hi:Bool) (bs:List AV):semQ (.slc sz lo hi) (.own t::bs) objs =
  (arrO (objs t)).bind fun r=>(bounds r.2.length lo hi bs).map fun b:Int × Int=>(0≤b.1∧b.1≤b.2∧b.2≤(r.2.length:Int)∧(∀x∈r.2,x.length=sz),.sub t r.1 b.1.toNat b.2.toNat):=nr rfl
@[simp] theorem semQ_ext (i:Nat) (vs:List AV):semQ (.ext i) [.tup vs] objs=(vs[i]?).map fun v=>(True,v):=nr rfl
@[simp] theorem semQ_bld (zs:List Value) (ps:List (Nat × Nat)) (xs:List AV):semQ (.bld zs ps) xs objs=(layAll (zs.map cv) ps xs).map fun cs=>(True,.agg cs):=by
 unfold semQ;rfl
@[simp] theorem semQ_mkf (f:FuncId) (xs:List AV):semQ (.mkf f) xs objs=some (True,.clo f xs):=by unfold semQ;rfl
@[simp] theorem semF_nilS (e:TypeId) (d:Nat) (xs:List AV):semF (.nilS e) d xs objs=some (True,.own d,.arr e []):=by unfold semF;rfl
@[simp] theorem semF_box (d:Nat) (x:AV):semF .box d [x] objs=(if ones (cellsOf x) then some (True,.ptr d 0,.box (cellsOf x)) else none):=nr rfl
@[simp] theorem semF_alloc (d:Nat) (zs:List Value) (xs:List AV):semF (.alloc zs) d xs objs=(if zs.all (·.oneCell') then some (True,.ptr d 0,.box (zs.map cv)) else none):=by unfold semF;rfl
@[simp] theorem semF_bsl (e:TypeId) (sz d:Nat) (xs:List AV):semF (.bsl e sz) d xs objs=(rowsOf xs).map fun rows=>(∀r∈rows,r.length=sz,.own d,.arr e rows):=by unfold semF;rfl
@[simp] theorem semM_store_ptr (t o:Nat) (v:AV):semM (.store none) [.ptr t o,v] objs=(boxO (objs t)).bind fun cs=>if oneAV v∧o < cs.length then some (True,t,.box (cs.set o v)) else none:=nr rfl
@[simp] theorem semM_storen_ptr (n t o:Nat) (vs:List AV):semM (.store (some n)) [.ptr t o,.agg vs] objs =
  (boxO (objs t)).bind fun cs=>if ones vs∧vs.length=n∧o+n≤cs.length then some (True,t,.box (splice cs o vs)) else none:=nr rfl
@[simp] theorem semM_store_eptr (t o:Nat) (e:TypeId) (i:Int) (p:PV):semM (.store none) [.eptr t e i o,.pv p] objs =
  (arrO (objs t)).bind fun r=>if r.1=e∧o < (rowAt r.2 i).length∧oneAV (.pv p) then
   some (0≤i∧i < r.2.length,t,.arr e (r.2.set i.toNat ((rowAt r.2 i).set o p))) else none:=nr rfl
@[simp] theorem semM_storen_eptr (n t o:Nat) (e:TypeId) (i:Int) (vs:List AV):semM (.store (some n)) [.eptr t e i o,.agg vs] objs =
  (arrO (objs t)).bind fun r=>(pvsOf vs).bind fun ps=>if r.1=e∧ones vs∧ps.length=n∧o+n≤(rowAt r.2 i).length then
   some (0≤i∧i < r.2.length,t,.arr e (r.2.set i.toNat (splice (rowAt r.2 i) o ps))) else none:=nr rfl
@[simp] theorem semM_app (e:TypeId) (sz bytes t:Nat) (x:AV):semM (.app e sz bytes) [.own t,x] objs =
  (arrO (objs t)).bind fun r=>(rowsIn objs x).bind fun more=>if r.1=e∧t % 1000≠999 then
   some ((r.2.length+more.length)*bytes≤140737488355328∧r.2.length+more.length≤maxLen∧(∀r∈more,r.length=sz),t,.arr e (r.2++more)) else none:=nr rfl
@[simp] theorem pvOf_pv (p:PV):pvOf (.pv p)=some p:=nr rfl
@[simp] theorem pvsOf_nil:pvsOf []=some []:=nr rfl
@[simp] theorem pvsOf_cons (v:AV) (l:List AV):pvsOf (v::l)=(pvOf v).bind fun p=>(pvsOf l).map (p :: ·):=nr rfl
@[simp] theorem rowOf_pv (p:PV):rowOf (.pv p)=some [p]:=nr rfl
@[simp] theorem rowOf_agg (cs:List AV):rowOf (.agg cs)=pvsOf cs:=nr rfl
@[simp] theorem rowsOf_nil:rowsOf []=some []:=nr rfl
@[simp] theorem rowsOf_cons (v:AV) (l:List AV):rowsOf (v::l)=(rowOf v).bind fun p=>(rowsOf l).map (p :: ·):=nr rfl
@[simp] theorem cellsOf_agg (cs:List AV):cellsOf (.agg cs)=cs:=nr rfl
@[simp] theorem cellsOf_pv (p:PV):cellsOf (.pv p)=[.pv p]:=nr rfl
@[simp] theorem cellsOf_own (t:Nat):cellsOf (.own t)=[.own t]:=nr rfl
@[simp] theorem layAll_nil (cs:List AV):layAll cs [] []=some cs:=nr rfl
@[simp] theorem layAll_cons (cs:List AV) (off n:Nat) (ps:List (Nat × Nat)) (x:AV) (xs:List AV):layAll cs ((off,n)::ps) (x::xs) =
  if partOK x=true∧(cellsOf x).length=n∧off+n≤cs.length then layAll (lay cs off ((cellsOf x).map nrmF)) ps xs else none:=nr rfl
@[simp] theorem nrmF_pv (p:PV):nrmF (.pv p)=.pv p:=nr rfl
@[simp] theorem nrmF_own (t:Nat):nrmF (.own t)=.own t:=nr rfl
@[simp] theorem nrmF_clo (f:FuncId):nrmF (.clo f [])=.pv (.val (.func (.func f) #[] #[])):=nr rfl
@[simp] theorem rowsIn_ro (rows:List (List PV)):rowsIn objs (.pv (.ro rows))=some rows:=nr rfl
@[simp] theorem rowsIn_own (t:Nat):rowsIn objs (.own t)=(arrO (objs t)).map (·.2):=nr rfl
@[simp] theorem reiP_nil:reiP objs (.pv .nil)=some (.ro []):=nr rfl
@[simp] theorem reiP_int (k:IntKind) (n:Int):reiP objs (.pv (.int k n))=some (.int k n):=nr rfl
@[simp] theorem reiP_bool (b:Bool):reiP objs (.pv (.bool b))=some (.bool b):=nr rfl
@[simp] theorem reiP_str (l:List UInt8):reiP objs (.pv (.str l))=some (.str l):=nr rfl
@[simp] theorem reiP_ro (rows:List (List PV)):reiP objs (.pv (.ro rows))=some (.ro rows):=nr rfl
@[simp] theorem reiP_own (t:Nat):reiP objs (.own t)=reiO (objs t):=nr rfl
@[simp] theorem reiO_arr (e:TypeId) (rows:List (List PV)):reiO (some (.arr e rows))=some (.ro rows):=nr rfl
@[simp] theorem reiO_map (es:List (PV × AV)):reiO (some (.map es))=if es.all (fun e=>unitB e.2)=true then some (.mp (es.map (·.1))) else none:=nr rfl
@[simp] theorem unitV_nil:unitV (.agg #[])=true:=nr rfl
@[simp] theorem reiPs_nil:reiPs objs []=some []:=nr rfl
@[simp] theorem reiPs_cons (c:AV) (cs:List AV):reiPs objs (c::cs)=(reiP objs c).bind fun p=>(reiPs objs cs).map (p :: ·):=nr rfl
@[simp] theorem rei1_ptr (t o:Nat):rei1 objs (.ptr t o)=(boxO (objs t)).bind fun cs=>(reiPs objs (cs.drop o)).map .rp:=nr rfl
@[simp] theorem rei1_rp (cs:List PV):rei1 objs (.rp cs)=some (.rp cs):=nr rfl
@[simp] theorem rei1s_nil:rei1s objs []=some []:=nr rfl
@[simp] theorem rei1s_cons (c:AV) (cs:List AV):rei1s objs (c::cs)=(rei1 objs c).bind fun p=>(rei1s objs cs).map (p :: ·):=nr rfl
@[simp] theorem rei_clo (f:FuncId) (caps:List AV):rei objs (.clo f caps)=(rei1s objs caps).map (.clo f):=nr rfl
@[simp] theorem rei_ptr (t o:Nat):rei objs (.ptr t o)=rei1 objs (.ptr t o):=nr rfl
@[simp] theorem rei_rp (cs:List PV):rei objs (.rp cs)=some (.rp cs):=nr rfl
@[simp] theorem rei_agg (cs:List AV):rei objs (.agg cs)=(reiPs objs cs).map fun ps=>.agg (ps.map .pv):=nr rfl
@[simp] theorem rei_pv (p:PV):rei objs (.pv p)=(reiP objs (.pv p)).map .pv:=nr rfl
@[simp] theorem rei_own (t:Nat):rei objs (.own t)=(reiP objs (.own t)).map .pv:=nr rfl
@[simp] theorem reis_nil:reis objs []=some []:=nr rfl
@[simp] theorem reis_cons (c:AV) (cs:List AV):reis objs (c::cs)=(rei objs c).bind fun p=>(reis objs cs).map (p :: ·):=nr rfl
@[simp] theorem pureC_pv (p:PV):pureC (.pv p)=true:=nr rfl
@[simp] theorem pureC_rp (cs:List PV):pureC (.rp cs)=true:=nr rfl
@[simp] theorem pureC_own (t:Nat):pureC (.own t)=false:=nr rfl
@[simp] theorem pureC_ptr (t o:Nat):pureC (.ptr t o)=false:=nr rfl
@[simp] theorem pureCs_nil:pureCs []=true:=nr rfl
@[simp] theorem pureCs_cons (c:AV) (cs:List AV):pureCs (c::cs)=(pureC c && pureCs cs):=nr rfl
@[simp] theorem pure1_agg (cs:List AV):pure1 (.agg cs)=pureCs cs:=nr rfl
@[simp] theorem pure1_clo (f:FuncId) (cs:List AV):pure1 (.clo f cs)=pureCs cs:=nr rfl
@[simp] theorem pure1_pv (p:PV):pure1 (.pv p)=true:=nr rfl
@[simp] theorem pure1_rp (cs:List PV):pure1 (.rp cs)=true:=nr rfl
@[simp] theorem pure1_own (t:Nat):pure1 (.own t)=false:=nr rfl
@[simp] theorem pure1_ptr (t o:Nat):pure1 (.ptr t o)=false:=nr rfl
@[simp] theorem pures_nil:pures []=true:=nr rfl
@[simp] theorem pures_cons (c:AV) (cs:List AV):pures (c::cs)=(pure1 c && pures cs):=nr rfl
@[simp] theorem one_int (k:IntKind) (n:Int):oneAV (.pv (.int k n))=true:=nr rfl
@[simp] theorem one_bool (b:Bool):oneAV (.pv (.bool b))=true:=nr rfl
@[simp] theorem one_str (l:List UInt8):oneAV (.pv (.str l))=true:=nr rfl
@[simp] theorem one_nil:oneAV (.pv .nil)=true:=nr rfl
@[simp] theorem one_ro (rows:List (List PV)):oneAV (.pv (.ro rows))=true:=nr rfl
@[simp] theorem one_own (t:Nat):oneAV (.own t)=true:=nr rfl
@[simp] theorem ones_nil:ones []=true:=nr rfl
@[simp] theorem ones_cons (c:AV) (cs:List AV):ones (c::cs)=(oneAV c && ones cs):=nr rfl
@[simp] theorem partOK_agg (cs:List AV):partOK (.agg cs)=true:=nr rfl
@[simp] theorem partOK_pv (p:PV):partOK (.pv p)=oneAV (.pv p):=nr rfl
@[simp] theorem partOK_own (t:Nat):partOK (.own t)=true:=nr rfl
@[simp] theorem killC_own (t s:Nat):killC t (.own s)=if s=t then .junk else .own s:=nr rfl
@[simp] theorem killC_pv (t:Nat) (p:PV):killC t (.pv p)=.pv p:=nr rfl
@[simp] theorem killCs_nil (t:Nat):killCs t []=[]:=nr rfl
@[simp] theorem killCs_cons (t:Nat) (c:AV) (cs:List AV):killCs t (c::cs)=killC t c::killCs t cs:=nr rfl
@[simp] theorem kill_agg (t:Nat) (cs:List AV):kill t (.agg cs)=.agg (killCs t cs):=nr rfl
@[simp] theorem kill_own (t s:Nat):kill t (.own s)=if s=t then .junk else .own s:=nr rfl
@[simp] theorem kill_eptr (t s:Nat) (e:TypeId) (i:Int) (o:Nat):kill t (.eptr s e i o)=if s=t then .junk else .eptr s e i o:=nr rfl
@[simp] theorem kill_pv (t:Nat) (p:PV):kill t (.pv p)=.pv p:=nr rfl
@[simp] theorem kill_ptr (t s o:Nat):kill t (.ptr s o)=.ptr s o:=nr rfl
@[simp] theorem kill_rp (t:Nat) (cs:List PV):kill t (.rp cs)=.rp cs:=nr rfl
@[simp] theorem kill_junk (t:Nat):kill t .junk=.junk:=nr rfl
@[simp] theorem kill_cnd (t:Nat) (g:Bool) (v:AV):kill t (.cnd g v)=.cnd g (kill t v):=nr rfl
@[simp] theorem kill_clo (t:Nat) (f:FuncId) (c:AV) (cs:List AV):kill t (.clo f (c::cs))=.junk:=nr rfl
@[simp] theorem killO_box (t:Nat) (cs:List AV):killO t (.box cs)=.box (killCs t cs):=nr rfl
@[simp] theorem killO_arr (t:Nat) (e:TypeId) (rows:List (List PV)):killO t (.arr e rows)=.arr e rows:=nr rfl
@[simp] theorem mapCs_nil (g:Nat→AV→AV) (j:Nat):mapCs g j []=[]:=nr rfl
@[simp] theorem mapCs_cons (g:Nat→AV→AV) (j:Nat) (c:AV) (cs:List AV):mapCs g j (c::cs)=g (1000*j) c::mapCs g (j+1) cs:=nr rfl
@[simp] theorem map1_agg (g:Nat→AV→AV) (cs:List AV):map1 g (.agg cs)=.agg (mapCs g 0 cs):=nr rfl
@[simp] theorem map1_pv (g:Nat→AV→AV) (p:PV):map1 g (.pv p)=g 0 (.pv p):=nr rfl
@[simp] theorem map1_fr (g:Nat→AV→AV) (e:TypeId) (rows:List (List PV)):map1 g (.fr e rows)=g 0 (.fr e rows):=nr rfl
@[simp] theorem mapVs_nil (g:Nat→AV→AV) (i:Nat):mapVs g i []=[]:=nr rfl
@[simp] theorem mapVs_cons (g:Nat→AV→AV) (i:Nat) (v:AV) (vs:List AV):mapVs g i (v::vs)=map1 (fun p c=>g (p+i) c) v::mapVs g (i+1) vs:=nr rfl
@[simp] theorem mapTop_tup (g:Nat→AV→AV) (vs:List AV):mapTop g (.tup vs)=.tup (mapVs g 0 vs):=nr rfl
@[simp] theorem mapTop_pv (g:Nat→AV→AV) (p:PV):mapTop g (.pv p)=g 0 (.pv p):=nr rfl
@[simp] theorem mapTop_fr (g:Nat→AV→AV) (e:TypeId) (rows:List (List PV)):mapTop g (.fr e rows)=g 0 (.fr e rows):=nr rfl
@[simp] theorem mapTop_agg (g:Nat→AV→AV) (cs:List AV):mapTop g (.agg cs)=.agg (mapCs g 0 cs):=nr rfl
@[simp] theorem tagC_fr (d p:Nat) (e:TypeId) (rows:List (List PV)):tagC d p (.fr e rows)=.own (d+1000*p):=nr rfl
@[simp] theorem tagC_pv (d p:Nat) (q:PV):tagC d p (.pv q)=.pv q:=nr rfl
@[simp 1100] theorem map_pair (d p:Nat) (o:AO) (l:List (Nat × AO)):List.map (fun x:Nat × AO=>(d+1000*x.1,x.2)) ((p,o)::l)=(d+1000*p,o)::List.map (fun x:Nat × AO=>(d+1000*x.1,x.2)) l:=nr rfl
@[simp] theorem frsCs_nil (j:Nat):frsCs j []=[]:=nr rfl
@[simp] theorem frsCs_fr (j:Nat) (e:TypeId) (rows:List (List PV)) (cs:List AV):frsCs j (.fr e rows::cs)=(1000*j,.arr e rows)::frsCs (j+1) cs:=nr rfl
@[simp] theorem frsCs_pv (j:Nat) (p:PV) (cs:List AV):frsCs j (.pv p::cs)=frsCs (j+1) cs:=nr rfl
@[simp] theorem frs1_agg (cs:List AV):frs1 (.agg cs)=frsCs 0 cs:=nr rfl
@[simp] theorem frs1_fr (e:TypeId) (rows:List (List PV)):frs1 (.fr e rows)=[(0,.arr e rows)]:=nr rfl
@[simp] theorem frs1_pv (p:PV):frs1 (.pv p)=[]:=nr rfl
@[simp] theorem frsVs_nil (i:Nat):frsVs i []=[]:=nr rfl
@[simp] theorem frsVs_cons (i:Nat) (v:AV) (vs:List AV):frsVs i (v::vs)=(frs1 v).map (fun x=>(x.1+i,x.2))++frsVs (i+1) vs:=nr rfl
@[simp] theorem resC_pv (p:PV):resC (.pv p)=true:=nr rfl
@[simp] theorem resC_fr (e:TypeId) (rows:List (List PV)):resC (.fr e rows)=true:=nr rfl
@[simp] theorem resCs_nil:resCs []=true:=nr rfl
@[simp] theorem resCs_cons (c:AV) (cs:List AV):resCs (c::cs)=(resC c && resCs cs):=nr rfl
@[simp] theorem res1_agg (cs:List AV):res1 (.agg cs)=resCs cs:=nr rfl
@[simp] theorem res1_pv (p:PV):res1 (.pv p)=true:=nr rfl
@[simp] theorem res1_fr (e:TypeId) (rows:List (List PV)):res1 (.fr e rows)=true:=nr rfl
@[simp] theorem resVs_nil:resVs []=true:=nr rfl
@[simp] theorem resVs_cons (c:AV) (cs:List AV):resVs (c::cs)=(res1 c && resVs cs):=nr rfl
@[simp] theorem resOK_tup (vs:List AV):resOK (.tup vs)=(decide (vs.length≤900) && resVs vs):=nr rfl
@[simp] theorem resOK_agg (cs:List AV):resOK (.agg cs)=resCs cs:=nr rfl
@[simp] theorem resOK_pv (p:PV):resOK (.pv p)=true:=nr rfl
@[simp] theorem resOK_fr (e:TypeId) (rows:List (List PV)):resOK (.fr e rows)=true:=nr rfl
@[simp] theorem frs_tup (vs:List AV):frs (.tup vs)=frsVs 0 vs:=nr rfl
@[simp] theorem frs_agg (cs:List AV):frs (.agg cs)=frsCs 0 cs:=nr rfl
@[simp] theorem frs_fr (e:TypeId) (rows:List (List PV)):frs (.fr e rows)=[(0,.arr e rows)]:=nr rfl
@[simp] theorem frs_pv (p:PV):frs (.pv p)=[]:=nr rfl
@[simp] theorem flatP_int (k:IntKind) (n:Int):flatP (.int k n)=true:=nr rfl
@[simp] theorem flatP_bool (b:Bool):flatP (.bool b)=true:=nr rfl
@[simp] theorem flatP_str (l:List UInt8):flatP (.str l)=true:=nr rfl
@[simp] theorem flatP_ro (rows:List (List PV)):flatP (.ro rows)=rows.isEmpty:=nr rfl
@[simp] theorem flatC_pv (p:PV):flatC (.pv p)=(flatP p=true):=nr rfl
@[simp] theorem flatC_fr (e:TypeId) (rows:List (List PV)):flatC (.fr e rows)=flatRows rows:=nr rfl
@[simp] theorem flatL_nil:flatL []=True:=nr rfl
@[simp] theorem flatL_cons (c:AV) (cs:List AV):flatL (c::cs)=(flatC c∧flatL cs):=nr rfl
@[simp] theorem flat1_agg (cs:List AV):flat1 (.agg cs)=flatL cs:=nr rfl
@[simp] theorem flat1_pv (p:PV):flat1 (.pv p)=(flatP p=true):=nr rfl
@[simp] theorem flat1_fr (e:TypeId) (rows:List (List PV)):flat1 (.fr e rows)=flatRows rows:=nr rfl
@[simp] theorem flatV_nil:flatV []=True:=nr rfl
@[simp] theorem flatV_cons (c:AV) (cs:List AV):flatV (c::cs)=(flat1 c∧flatV cs):=nr rfl
@[simp] theorem flat_tup (vs:List AV):flat (.tup vs)=flatV vs:=nr rfl
@[simp] theorem flat_agg (cs:List AV):flat (.agg cs)=flatL cs:=nr rfl
@[simp] theorem flat_pv (p:PV):flat (.pv p)=(flatP p=true):=nr rfl
@[simp] theorem flat_fr (e:TypeId) (rows:List (List PV)):flat (.fr e rows)=flatRows rows:=nr rfl
end
@[simp] theorem noM_clo (un:List Nat) (objs:Nat→Option AO) (f:FuncId) (cs:List AV):noM un objs (.clo f cs)=noMPs un objs cs:=nr rfl
@[simp] theorem noM_pv (un:List Nat) (objs:Nat→Option AO) (p:PV):noM un objs (.pv p)=True:=nr rfl
@[simp] theorem noM_rp (un:List Nat) (objs:Nat→Option AO) (cs:List PV):noM un objs (.rp cs)=True:=nr rfl
@[simp] theorem noM_junk (un:List Nat) (objs:Nat→Option AO):noM un objs .junk=True:=nr rfl
@[simp] theorem noM_tup (un:List Nat) (objs:Nat→Option AO) (cs:List AV):noM un objs (.tup cs)=True:=nr rfl
@[simp] theorem noM_agg (un:List Nat) (objs:Nat→Option AO) (cs:List AV):noM un objs (.agg cs)=noMCs un cs:=nr rfl
@[simp] theorem noM_own (un:List Nat) (objs:Nat→Option AO) (t:Nat):noM un objs (.own t)=noT un t:=nr rfl
@[simp] theorem noM_eptr (un:List Nat) (objs:Nat→Option AO) (t:Nat) (e:TypeId) (i:Int) (o:Nat):noM un objs (.eptr t e i o)=noT un t:=nr rfl
@[simp] theorem noM_sub (un:List Nat) (objs:Nat→Option AO) (t:Nat) (e:TypeId) (i o:Nat):noM un objs (.sub t e i o)=noT un t:=nr rfl
@[simp] theorem noM_ptr (un:List Nat) (objs:Nat→Option AO) (t o:Nat):noM un objs (.ptr t o)=(noT un t∧noMCs un ((boxO (objs t)).getD [])):=nr rfl
@[simp] theorem noMP_rp (un:List Nat) (objs:Nat→Option AO) (cs:List PV):noMP un objs (.rp cs)=True:=nr rfl
@[simp] theorem noMP_sub (un:List Nat) (objs:Nat→Option AO) (t:Nat) (e:TypeId) (i o:Nat):noMP un objs (.sub t e i o)=noT un t:=nr rfl
@[simp] theorem noMP_ptr (un:List Nat) (objs:Nat→Option AO) (t o:Nat):noMP un objs (.ptr t o)=(noT un t∧noMCs un ((boxO (objs t)).getD [])):=nr rfl
@[simp] theorem noMPs_nil (un:List Nat) (objs:Nat→Option AO):noMPs un objs []=True:=nr rfl
@[simp] theorem noMPs_cons (un:List Nat) (objs:Nat→Option AO) (c:AV) (cs:List AV):noMPs un objs (c::cs)=(noMP un objs c∧noMPs un objs cs):=nr rfl
@[simp] theorem noMs_nil (un:List Nat) (objs:Nat→Option AO):noMs un objs []=True:=nr rfl
@[simp] theorem noMs_cons (un:List Nat) (objs:Nat→Option AO) (c:AV) (cs:List AV):noMs un objs (c::cs)=(noM un objs c∧noMs un objs cs):=nr rfl
attribute [simp] lay splice noT noMC noMCs
end Go.Proofs.Ytlmkcmfmfahcfaa.Ab.R
namespace Go.Proofs.Ytlmkcmfmfahcfaa.Ab
open Go Go.RowKit
theorem add_block (a:Addr) (n:Nat):(a.add n).block=a.block:=by unfold Addr.add;split<;>rfl
theorem add_add' (a:Addr) (i j:Nat):(a.add i).add j=a.add (i+j):=by
 unfold Addr.add
 by_cases hi:i=0<;>by_cases hj:j=0<;>simp [hi,hj,Nat.add_assoc]
section
variable {P:Program}{S S':Nat→Prop}{w w':World}{β β':Nat→Value}{D D':Nat→Prop}
theorem cell_same {ad:Addr} (h:w'.heap[ad.block]? = w.heap[ad.block]?) (n:Nat):w'.cell? (ad.add n)=w.cell? (ad.add n):=
 World.cell?_of_block (by rw [add_block];exact h)
def SameB (w w':World) (b:Nat):Prop:=(∀ad:Addr,ad.block=b→w'.cell? ad=w.cell? ad)∧∀(us:Array MapEntry) (c:Nat),w.heap[b]? = some (.map us c)→w'.heap[b]? = some (.map us c)
theorem SameB.of {b:Nat} (h:w'.heap[b]? = w.heap[b]?):SameB w w' b:=⟨fun ad e=>World.cell?_of_block (by rw [e];exact h),fun us c hm=>h.trans hm⟩
theorem RPV.mono2 {v:Value}{p:PV} (h:RPV S w v p) (hS:∀b,S b→S' b∧SameB w w' b):RPV S' w' v p:=by
 induction h with
 |int k n=>exact .int k n
 |bool b=>exact .bool b
 |str l=>exact .str l
 |nil=>exact .nil
 |val v h=>exact .val v h
 |mp b us c ks h1 h2 h3 h4=>exact .mp b us c ks (hS _ h1).1 ((hS _ h1).2.2 _ _ h2) h3 h4
 |mv b us c es h1 h2 h3 h4 h5 h6 ih=>exact .mv b us c es (hS _ h1).1 ((hS _ h1).2.2 _ _ h2) h3 h4 h5 ih
 |pt ad cs us h1 h2 h3 h4 ih=>exact .pt ad cs us (hS _ h1).1 (fun j hj=>((hS _ h1).2.1 _ (add_block _ _)).trans (h2 j hj)) h3 ih
 |ro0 A c=>exact .ro0 A c
 |ro ad c rows sz us h1 h2 h3 h4 h5 h6 ih=>
  exact .ro ad c rows sz us (hS _ h1).1 h2 h3 (fun i j hi hj=>((hS _ h1).2.1 _ (add_block _ _)).trans (h4 i j hi hj)) h5 ih
theorem RV.mono2 {v:Value}{x:AV} (h:RV P S w β D v x) (hS:∀b,S b→S' b∧SameB w w' b) (hD:∀t,D t→D' t∧β' t=β t):RV P S' w' β' D' v x:=by
 induction h with
 |pv v p h=>exact .pv v p (h.mono2 hS)
 |own t h=>rw [←(hD t h).2];exact .own t (hD t h).1
 |ptr t o b h hb=>exact .ptr t o b (hD t h).1 ((hD t h).2.trans hb)
 |eptr t e i o b n c inf h hi hb=>exact .eptr t e i o b n c inf (hD t h).1 hi ((hD t h).2.trans hb)
 |sub v t e lo hi inf A A1 n c h hi' hb h1 h2 h3 h4 h5 hv=>exact .sub v t e lo hi inf A A1 n c (hD t h).1 hi' ((hD t h).2.trans hb) h1 h2 h3 h4 h5 hv
 |rp ad cs us h1 h2 h3 h4=>exact .rp ad cs us (hS _ h1).1 (fun j hj=>((hS _ h1).2.1 _ (add_block _ _)).trans (h2 j hj)) h3 (fun j p hp=>(h4 j p hp).mono2 hS)
 |agg cs us hl h ih=>exact .agg cs us hl ih
 |tup cs us hl h ih=>exact .tup cs us hl ih
 |clo f cs us hl h ih=>exact .clo f cs us hl ih
 |cnd g v av h hu ih=>exact .cnd g v av ih hu
 |junk v=>exact .junk v
theorem RPV.mono {v:Value}{p:PV} (h:RPV S w v p) (hS:∀b,S b→S' b∧w'.heap[b]? = w.heap[b]?):RPV S' w' v p:=h.mono2 fun b hb=>⟨(hS b hb).1,.of (hS b hb).2⟩
theorem RV.mono {v:Value}{x:AV} (h:RV P S w β D v x) (hS:∀b,S b→S' b∧w'.heap[b]? = w.heap[b]?) (hD:∀t,D t→D' t∧β' t=β t):RV P S' w' β' D' v x:=h.mono2 (fun b hb=>⟨(hS b hb).1,.of (hS b hb).2⟩) hD
theorem RV.strip {v:Value}{x:AV} (h:RV P S w β D v x) (ha:asks x):RV P S w β D v (strip x):=by
 induction h with
 |cnd g v av h hu ih=>exact ih ha.1 ha.2
 |pv v p h=>exact .pv v p h
 |own t h=>exact .own t h
 |ptr t o b h hb=>exact .ptr t o b h hb
 |eptr t e i o b n c inf h hi hb=>exact .eptr t e i o b n c inf h hi hb
 |sub v t e lo hi inf A A1 n c h hi' hb h1 h2 h3 h4 h5 hv=>exact .sub v t e lo hi inf A A1 n c h hi' hb h1 h2 h3 h4 h5 hv
 |rp ad cs us h1 h2 h3 h4=>exact .rp ad cs us h1 h2 h3 h4
 |agg cs us hl h _=>exact .agg cs us hl h
 |tup cs us hl h _=>exact .tup cs us hl h
 |clo f cs us hl h _=>exact .clo f cs us hl h
 |junk v=>exact .junk v
theorem HoldsO.mono2 {t:Nat}{o:AO} (h:HoldsO P S w β D t o) (hS:∀b,S b→S' b∧SameB w w' b) (hD:∀t,D t→D' t∧β' t=β t)
  (ht : β' t=β t) (hb:∀b,blk (β t)=some b→w'.heap[b]? = w.heap[b]?):HoldsO P S' w' β' D' t o:=by
 cases o with
 |box cs=>
  obtain⟨b,us,ty,hp,hh,hl,hc⟩:=h
  exact⟨b,us,ty,ht.trans hp,(hb b (by rw [hp];rfl)).trans hh,hl,fun i c u h1 h2=>⟨(hc i c u h1 h2).1,(hc i c u h1 h2).2.mono2 hS hD⟩⟩
 |arr e rows=>
  obtain⟨inf,us,hi,hown,hr,hc⟩:=h
  refine⟨inf,us,hi,?_,hr,fun i j r p h1 h2=>?_⟩
  ·rw [ht]
   refine⟨hown.1,?_⟩
   rcases hown.2 with h0 | ⟨g,cap,cur,hv,h1,h2,h3,h4,h5,h6⟩
   ·exact .inl h0
   ·exact .inr ⟨g,cap,cur,hv,h1,(hb g (by rw [hv];rfl)).trans h2,h3,h4,h5,h6⟩
  ·obtain⟨u,h3,h4,h5⟩:=hc i j r p h1 h2
   exact⟨u,h3,h4,h5.mono2 hS⟩
 |map es=>
  obtain⟨b,us,c,hp,hh,hl,hc⟩:=h
  exact⟨b,us,c,ht.trans hp,(hb b (by rw [hp];rfl)).trans hh,hl,fun i e u h1 h2=>⟨(hc i e u h1 h2).1,(hc i e u h1 h2).2.mono2 hS fun _ hf=>hf.elim⟩⟩
 |rws e cs=>
  obtain⟨inf,us,hi,h1s,hown,hc⟩:=h
  refine⟨inf,us,hi,h1s,?_,fun i c u h1 h2=>⟨(hc i c u h1 h2).1,(hc i c u h1 h2).2.mono2 hS hD⟩⟩
  rw [ht]
  refine⟨hown.1,?_⟩
  rcases hown.2 with h0 | ⟨g,cap,cur,hv,h1,h2,h3,h4,h5,h6⟩
  ·exact .inl h0
  ·exact .inr ⟨g,cap,cur,hv,h1,(hb g (by rw [hv];rfl)).trans h2,h3,h4,h5,h6⟩
 |mpv es=>
  obtain⟨b,us,c,hp,hh,hst,hl,hc⟩:=h
  exact⟨b,us,c,ht.trans hp,(hb b (by rw [hp];rfl)).trans hh,hst,hl,fun i e u h1 h2=>⟨(hc i e u h1 h2).1,(hc i e u h1 h2).2.1,(hc i e u h1 h2).2.2.1,(hc i e u h1 h2).2.2.2.mono2 hS⟩⟩
 |itr rem cur=>
  obtain⟨r,m,us,c,seen,hp,hh,hm,hmm,hst,hl,hc,hcur⟩:=h
  refine⟨r,m,us,c,seen,ht.trans hp,(hb r (by rw [hp];rfl)).trans hh,(hS m hm).1,?_,hst,hl,fun i e u h1 h2=>⟨(hc i e u h1 h2).1,(hc i e u h1 h2).2.1,(hc i e u h1 h2).2.2.1,(hc i e u h1 h2).2.2.2.mono2 hS⟩,fun e he=>?_⟩
  ·have:=(hS m hm).2.2 us c hmm
   first | exact this.trans hmm | exact this
  ·obtain⟨u,s',h1,h2,h3,h4,h5,h6⟩:=hcur e he
   exact⟨u,s',h1,h2,h3,h4,h5,h6.mono2 hS⟩
theorem HoldsO.mono {t:Nat}{o:AO} (h:HoldsO P S w β D t o) (hS:∀b,S b→S' b∧w'.heap[b]? = w.heap[b]?) (hD:∀t,D t→D' t∧β' t=β t)
  (ht : β' t=β t) (hb:∀b,blk (β t)=some b→w'.heap[b]? = w.heap[b]?):HoldsO P S' w' β' D' t o:=h.mono2 (fun b hb=>⟨(hS b hb).1,.of (hS b hb).2⟩) hD ht hb
end
section
variable {P:Program}{S0 L:Nat→Prop}{B0:Nat→Value}{w0 w w':World}{N:Nat}{st:St}{a:Act}{β:Nat→Value}
theorem getD_set (l:Array Value) (d s:Nat) (r:Value) (hd:d < l.size):(l.setIfInBounds d r).getD s undef=if s=d then r else l.getD s undef:=by
 by_cases h:s=d
 ·subst h
  simp [Array.getD_eq_getD_getElem?,Array.getElem?_setIfInBounds_self_of_lt hd]
 ·simp [Array.getD_eq_getD_getElem?,Array.getElem?_setIfInBounds_ne (fun e=>h e.symm),h]
theorem Rel.put (h:Rel P S0 L B0 w0 N st a w β) {d:Option Nat}{r:Value}{v:AV} (hd:∀s,d=some s→s < N)
  (hr:RV P (okS S0 w0.heap.size β st.objs w) w β (dom st.objs) r v):Rel P S0 L B0 w0 N ⟨put d v st.vars,st.objs⟩ (a.put d r) w β:=by
 cases d with
 |none=>exact⟨h.size,h.defers,h.vars,h.heap,h.old,h.lim,h.pin,h.fram⟩
 |some d=>
  have hd':d < a.tmps.size:=by rw [h.size];exact hd d rfl
  refine⟨by simp [Act.put,h.size],h.defers,fun s=>?_,h.heap,h.old,h.lim,h.pin,h.fram⟩
  simp only [Act.put,Ab.put]
  rw [getD_set _ _ _ _ hd']
  split
  ·exact hr
  ·exact h.vars s
theorem Rel.keep (h:Rel P S0 L B0 w0 N st a w β) {vars:Nat→AV} (hv:∀s,vars s=st.vars s∨vars s=.junk):Rel P S0 L B0 w0 N ⟨vars,st.objs⟩ a w β:=
 ⟨h.size,h.defers,fun s=>by
  rcases hv s with e | e
  ·rw [show (St.mk vars st.objs).vars s=vars s from rfl,e];exact h.vars s
  ·rw [show (St.mk vars st.objs).vars s=vars s from rfl,e];exact .junk _,h.heap,h.old,h.lim,h.pin,h.fram⟩
structure Same (w w':World):Prop where
 heap:w'.heap=w.heap
 os:w'.os=w.os
 tape:w'.tape=w.tape
 output:w'.output=w.output
theorem okS_same {S0:Nat→Prop}{n0:Nat}{objs:Nat→Option AO} (hw:w'.heap=w.heap):okS S0 n0 β objs w'=okS S0 n0 β objs w:=by
 funext b;simp [okS,hw]
theorem Rel.same (h:Rel P S0 L B0 w0 N st a w β) (hw:Same w w'):Rel P S0 L B0 w0 N st a w' β:=by
 have hm:∀b,okS S0 w0.heap.size β st.objs w b→okS S0 w0.heap.size β st.objs w' b∧w'.heap[b]? = w.heap[b]?:=fun b hb=>⟨by rw [okS_same hw.heap];exact hb,by rw [hw.heap]⟩
 have hD:∀t,dom st.objs t→dom st.objs t∧β t=β t:=fun t ht=>⟨ht,rfl⟩
 exact⟨h.size,h.defers,fun s=>(h.vars s).mono hm hD,⟨fun t o ho=>(h.heap.holds t o ho).mono hm hD rfl (fun b _=>by rw [hw.heap]),h.heap.inj⟩,h.old,h.lim,h.pin,
  ⟨hw.os.trans h.fram.os,hw.tape.trans h.fram.tape,hw.output.trans h.fram.output,by rw [hw.heap];exact h.fram.size,fun b h1 h2=>by rw [hw.heap];exact h.fram.block b h1 h2⟩⟩
theorem Rel.drew (h:Rel P S0 L B0 w0 N st a w β):Rel P S0 L B0 w0 N st a w.drew β:=h.same ⟨rfl,rfl,rfl,rfl⟩
theorem HoldsO.lt {S:Nat→Prop}{D:Nat→Prop}{t:Nat}{o:AO} (h:HoldsO P S w β D t o):∀b,blk (β t)=some b→b < w.heap.size:=by
 intro b hb
 cases o with
 |box cs=>
  obtain⟨b',us,ty,hp,hh,_⟩:=h
  rw [hp]at hb
  simp [blk]at hb
  subst hb
  exact (Array.getElem?_eq_some_iff.1 hh).1
 |arr e rows=>
  obtain⟨inf,us,hi,hown,_⟩:=h
  rcases hown.2 with ⟨h0,_⟩ | ⟨g,cap,cur,hv,h1,h2,_⟩
  ·rw [h0]at hb;simp [blk]at hb
  ·rw [hv]at hb
   simp [blk]at hb
   subst hb
   exact (Array.getElem?_eq_some_iff.1 h2).1
 |map es=>
  obtain⟨b',us,c,hp,hh,_⟩:=h
  rw [hp]at hb
  simp [blk]at hb
  subst hb
  exact (Array.getElem?_eq_some_iff.1 hh).1
 |rws e cs=>
  obtain⟨inf,us,hi,_,hown,_⟩:=h
  rcases hown.2 with ⟨h0,_⟩ | ⟨g,cap,cur,hv,h1,h2,_⟩
  ·rw [h0]at hb;simp [blk]at hb
  ·rw [hv]at hb
   simp [blk]at hb
   subst hb
   exact (Array.getElem?_eq_some_iff.1 h2).1
 |mpv es=>
  obtain⟨b',us,c,hp,hh,_⟩:=h
  rw [hp]at hb
  simp [blk]at hb
  subst hb
  exact (Array.getElem?_eq_some_iff.1 hh).1
 |itr rem cur=>
  obtain⟨r,m,us,c,seen,hp,hh,_⟩:=h
  rw [hp]at hb
  simp [blk]at hb
  subst hb
  exact (Array.getElem?_eq_some_iff.1 hh).1
theorem Rel.lt (h:Rel P S0 L B0 w0 N st a w β) {t:Nat} (ht:dom st.objs t) {b:Nat} (hb:blk (β t)=some b):b < w.heap.size:=by
 obtain⟨o,ho⟩:=ht
 exact (h.heap.holds t o ho).lt b hb
def setβ (β:Nat→Value) (t:Nat) (v:Value):Nat→Value:=fun s=>if s=t then v else β s
theorem setβ_same (β:Nat→Value) (t:Nat) (v:Value):setβ β t v t=v:=by simp [setβ]
theorem setβ_ne (β:Nat→Value) {t s:Nat} (v:Value) (h:s≠t):setβ β t v s=β s:=by simp [setβ,h]
theorem dom_add {t s:Nat}{o:AO}{objs:Nat→Option AO}:dom (addO t o objs) s↔s=t∨dom objs s:=by
 unfold dom addO
 by_cases h:s=t
 ·simp [h]
 ·simp [h]
theorem Rel.fresh (h:Rel P S0 L B0 w0 N st a w β) {t:Nat} (htN:t < N) (ht:st.objs t=none) (hg:w.grownBy w' none) {v:Value} (hv:∀b,blk v=some b→w.heap.size≤b) {o:AO}
  (ho:HoldsO P (okS S0 w0.heap.size (setβ β t v) (addO t o st.objs) w') w' (setβ β t v) (dom (addO t o st.objs)) t o) :
  Rel P S0 L B0 w0 N ⟨st.vars,addO t o st.objs⟩ a w' (setβ β t v):=by
 have hne:∀s,dom st.objs s→s≠t:=fun s ⟨o',ho'⟩ e=>by subst e;rw [ht]at ho';cases ho'
 have hsame:∀b,b < w.heap.size→w'.heap[b]? = w.heap[b]?:=fun b hb=>hg.block b hb (by simp)
 have hm:∀b,okS S0 w0.heap.size β st.objs w b→okS S0 w0.heap.size (setβ β t v) (addO t o st.objs) w' b∧w'.heap[b]? = w.heap[b]?:=by
  intro b hb
  obtain⟨h1,h2,h3⟩:=hb
  refine⟨⟨h1,Nat.lt_of_lt_of_le h2 hg.size,?_⟩,hsame b h2⟩
  rintro⟨s,o',hs,hbs⟩
  by_cases e:s=t
  ·subst e
   rw [setβ_same]at hbs
   have:=hv b hbs
   omega
  ·rw [setβ_ne _ _ e]at hbs
   exact h3 ⟨s,o',by simpa [addO,e]using hs,hbs⟩
 have hD:∀s,dom st.objs s→dom (addO t o st.objs) s∧setβ β t v s=β s:=fun s hs=>⟨dom_add.2 (.inr hs),setβ_ne _ _ (hne s hs)⟩
 refine⟨h.size,h.defers,fun s=>(h.vars s).mono hm hD,⟨fun s o' hs=>?_,?_⟩,?_,h.lim,fun s h9 hs=>?_,?_⟩
 ·by_cases e:s=t
  ·subst e
   have:o'=o:=by simpa [addO]using hs.symm
   subst this
   exact ho
  ·have hs':st.objs s=some o':=by simpa [addO,e]using hs
   exact (h.heap.holds s o' hs').mono hm hD (setβ_ne _ _ e) (fun b hb=>hsame b (h.lt ⟨o',hs'⟩ hb))
 ·intro s s' b hs hs' hb hb'
  by_cases e:s=t<;>by_cases e':s'=t
  ·rw [e,e']
  ·subst e
   rw [setβ_same]at hb
   rw [setβ_ne _ _ e']at hb'
   have:=h.lt ((dom_add.1 hs').resolve_left e') hb'
   have:=hv b hb
   omega
  ·subst e'
   rw [setβ_same]at hb'
   rw [setβ_ne _ _ e]at hb
   have:=h.lt ((dom_add.1 hs).resolve_left e) hb
   have:=hv b hb'
   omega
  ·rw [setβ_ne _ _ e]at hb
   rw [setβ_ne _ _ e']at hb'
   exact h.heap.inj s s' b ((dom_add.1 hs).resolve_left e) ((dom_add.1 hs').resolve_left e') hb hb'
 ·intro s b hs hb
  by_cases e:s=t
  ·subst e
   rw [setβ_same]at hb
   have:=hv b hb
   have:=h.fram.size
   exact .inl (by omega)
  ·rw [setβ_ne _ _ e]at hb
   exact h.old s b ((dom_add.1 hs).resolve_left e) hb
 ·have hst:s≠t:=fun e=>by have:=h.lim;subst e;omega
  rw [setβ_ne _ _ hst]
  exact h.pin s h9 ((dom_add.1 hs).resolve_left hst)
 ·exact⟨hg.os.trans h.fram.os,hg.tape.trans h.fram.tape,hg.output.trans h.fram.output,Nat.le_trans h.fram.size hg.size,fun b h1 h2=>(hsame b (by have:=h.fram.size;omega)).trans (h.fram.block b h1 h2)⟩
theorem Rel.fresh_mono (h:Rel P S0 L B0 w0 N st a w β) {t:Nat} (ht:st.objs t=none) (hg:w.grownBy w' none) {v:Value} (hv:∀b,blk v=some b→w.heap.size≤b) {o:AO} :
  (∀b,okS S0 w0.heap.size β st.objs w b→okS S0 w0.heap.size (setβ β t v) (addO t o st.objs) w' b∧w'.heap[b]? = w.heap[b]?) ∧
  (∀s,dom st.objs s→dom (addO t o st.objs) s∧setβ β t v s=β s):=by
 have hne:∀s,dom st.objs s→s≠t:=fun s ⟨o',ho'⟩ e=>by subst e;rw [ht]at ho';cases ho'
 refine⟨fun b hb=>?_,fun s hs=>⟨dom_add.2 (.inr hs),setβ_ne _ _ (hne s hs)⟩⟩
 obtain⟨h1,h2,h3⟩:=hb
 refine⟨⟨h1,Nat.lt_of_lt_of_le h2 hg.size,?_⟩,hg.block b h2 (by simp)⟩
 rintro⟨s,o',hs,hbs⟩
 by_cases e:s=t
 ·subst e
  rw [setβ_same]at hbs
  have:=hv b hbs
  omega
 ·rw [setβ_ne _ _ e]at hbs
  exact h3 ⟨s,o',by simpa [addO,e]using hs,hbs⟩
theorem Rel.upd (h:Rel P S0 L B0 w0 N st a w β) {t:Nat}{o o':AO} (ht:st.objs t=some o) {b:Nat} (hb:blk (β t)=some b)
  (hos:w'.os=w.os) (htape:w'.tape=w.tape) (hout:w'.output=w.output) (hsz:w'.heap.size=w.heap.size) (hother:∀k,k≠b→w'.heap[k]? = w.heap[k]?)
  (ho:HoldsO P (okS S0 w0.heap.size β (addO t o' st.objs) w') w' β (dom (addO t o' st.objs)) t o') :
  Rel P S0 L B0 w0 N ⟨st.vars,addO t o' st.objs⟩ a w' β ∧
  (∀u x,RV P (okS S0 w0.heap.size β st.objs w) w β (dom st.objs) u x→RV P (okS S0 w0.heap.size β (addO t o' st.objs) w') w' β (dom (addO t o' st.objs)) u x):=by
 have hlive:∀k,live β (addO t o' st.objs) k↔live β st.objs k:=by
  intro k
  constructor
  ·rintro⟨s,x,hs,hk⟩
   by_cases e:s=t
   ·subst e;exact⟨s,o,ht,hk⟩
   ·exact⟨s,x,by simpa [addO,e]using hs,hk⟩
  ·rintro⟨s,x,hs,hk⟩
   by_cases e:s=t
   ·subst e;exact⟨s,o',by simp [addO],hk⟩
   ·exact⟨s,x,by simpa [addO,e]using hs,hk⟩
 have hm:∀k,okS S0 w0.heap.size β st.objs w k→okS S0 w0.heap.size β (addO t o' st.objs) w' k∧w'.heap[k]? = w.heap[k]?:=by
  intro k hk
  obtain⟨h1,h2,h3⟩:=hk
  have hkb:k≠b:=fun e=>h3 ⟨t,o,ht,by rw [e];exact hb⟩
  exact⟨⟨h1,by omega,fun hl=>h3 ((hlive k).1 hl)⟩,hother k hkb⟩
 have hdt:dom st.objs t:=⟨o,ht⟩
 have hD:∀s,dom st.objs s→dom (addO t o' st.objs) s∧β s=β s:=fun s hs=>⟨dom_add.2 (.inr hs),rfl⟩
 have hdom:∀s,dom (addO t o' st.objs) s→dom st.objs s:=fun s hs=>by
  rcases dom_add.1 hs with e | e
  ·rw [e];exact hdt
  ·exact e
 refine⟨⟨h.size,h.defers,fun s=>(h.vars s).mono hm hD,⟨fun s x hs=>?_,fun s s' k hs hs'=>h.heap.inj s s' k (hdom s hs) (hdom s' hs')⟩,fun s k hs=>h.old s k (hdom s hs),h.lim,fun s h9 hs=>h.pin s h9 (hdom s hs),?_⟩,fun u x hx=>hx.mono hm hD⟩
 ·by_cases e:s=t
  ·subst e
   have:x=o':=by simpa [addO]using hs.symm
   subst this
   exact ho
  ·have hs':st.objs s=some x:=by simpa [addO,e]using hs
   exact (h.heap.holds s x hs').mono hm hD rfl (fun k hk=>hother k fun ek=>e (h.heap.inj s t b ⟨x,hs'⟩ hdt (by rw [←ek];exact hk) hb))
 ·exact⟨hos.trans h.fram.os,htape.trans h.fram.tape,hout.trans h.fram.output,by rw [hsz];exact h.fram.size,fun k h1 h2=>by
   have hkb:k≠b:=by
    rintro rfl
    rcases h.old t k hdt hb with hx | hx
    ·omega
    ·exact h2 hx
   exact (hother k hkb).trans (h.fram.block k h1 h2)⟩
end
section
variable {P:Program} (w:World)
theorem run_app (t tx ty e:TypeId) (i:TypeInfo) (z:Value) (ht:P.underlying t=some (.slice e)) (hi:P.info? e=some i) (hz:i.zero=some z) (hzs:z.cells.size=i.size) (hsz : 0 < i.size)
  (v:Value) (n:Nat) (xs:List Value) (hown:w.ownsRow 0 e i.size v n xs) (x:Value) (m:Nat) (news:List Value) (hs:Src P i.size tx x m news w)
  (h63:n+m≤maxLen) (hbytes:(n+m)*i.bytes≤140737488355328) :
  ∃v' w',(Builtin.append_ #[t,tx] ty #[v,x]).run P w=.ok v' w'∧w'.ownsRow 0 e i.size v' (n+m) (xs++news)∧w.grownBy w' v.ownBlock ∧
   (v'.ownBlock=v.ownBlock∨v'.ownBlock=some w.heap.size)∧w'.ownsRow 0 e i.size v n xs:=by
 have hl:=hs.newsLen
 have hlen:(xs++news).length=(n+m)*i.size:=by rw [List.length_append,hown.1,hl,Nat.add_mul]
 have grown:∀(old:Nat),old < n+m→∀(row:Option Nat),
   (w.drew.alloc (.cells ((xs++news).toArray++Builtin.zeroCells z.cells (grownCap w (n+m) old e - (n+m))) e)).ownsRow 0 e i.size
    (.slice (some ⟨w.heap.size,0,none⟩) (n+m) (grownCap w (n+m) old e)) (n+m) (xs++news) ∧
   w.grownBy (w.drew.alloc (.cells ((xs++news).toArray++Builtin.zeroCells z.cells (grownCap w (n+m) old e - (n+m))) e)) row:=by
  intro old ho row
  have hge:=grownCap_ge w (n+m) old e
  have hcm:grownCap w (n+m) old e≤maxLen:=grownCap_le_maxLen w (n+m) old e h63
  refine⟨⟨hlen,.inr ⟨w.heap.size,_,_,rfl,Nat.zero_le _,heap_alloc_new w.drew _,hge,hcm,?_,?_⟩⟩,⟨rfl,rfl,rfl,by simp,fun k hk _=>Below.heap_alloc w.drew _ k hk⟩⟩
  ·simp only [Array.size_append,List.size_toArray,size_zeroCells,hzs,hlen,←Nat.add_mul]
   congr 1
   omega
  ·simp only [Array.toList_append]
   rw [←hlen]
   exact List.take_left
 have hsmall:((n+m:Nat):Int)≤9223372036854775807:=by simp only [maxLen]at h63;omega
 rcases hown.2 with ⟨rfl,rfl⟩ | ⟨g,cap,cur,rfl,hbg,hg,hnc,hcm,hcs,htake⟩
 ·have hx:xs=[]:=List.eq_nil_of_length_eq_zero (by simpa using hown.1)
  subst hx
  by_cases hm:m=0
  ·subst hm
   have hn:news=[]:=List.eq_nil_of_length_eq_zero (by simpa using hl)
   subst hn
   exact⟨.slice none 0 0,w,run_append_nothing w t tx ty e i ht hi none 0 0 (Nat.le_refl _) x hs,World.ownsRow_nil w 0 e i.size,⟨rfl,rfl,rfl,Nat.le_refl _,fun _ _ _=>rfl⟩,Or.inl rfl,hown⟩
  ·have hr:=run_append_grow_src (P:=P) w t tx ty e i z ht hi hz none 0 0 [] (by simp [Builtin.firstCells]) x m news hs (by omega) hsmall (growslice_fits (by omega) hbytes)
   have hgr:=grown 0 (by omega) (Value.ownBlock (.slice none 0 0))
   exact⟨_,_,hr,hgr.1,hgr.2,Or.inr rfl,by simp,.inl ⟨rfl,rfl⟩⟩
 ·by_cases hroom:n+m≤cap
  ·have hfit:n*i.size+news.length≤cur.size:=by rw [hl,hcs,←Nat.add_mul];exact Nat.mul_le_mul_right _ hroom
   have hst:=run_storeCells_at P g (n*i.size) e news 0 cur w hg (by simpa using hfit) hs.one
   simp only [Nat.add_zero]at hst
   have hr:(Builtin.append_ #[t,tx] ty #[.slice (some ⟨g,0,none⟩) n cap,x]).run P w =
     .ok (.slice (some ⟨g,0,none⟩) (n+m) cap) (w.setRow g (cur.toList.take (n*i.size)++news++cur.toList.drop (n*i.size+news.length)).toArray):=by
    rcases hs.kind with ⟨e',hk⟩ | hk<;>simp [Builtin.append_,run_underlying ht,run_underlying hk,sizeOf,typeInfo,hi,hs.len,hroom,hs.cells,Addr.add_lit,hst]
   refine⟨_,_,hr,⟨hlen,.inr ⟨g,cap,_,rfl,Nat.zero_le _,setRow_heap w g cur _ e _ hg,hroom,hcm,?_,?_⟩⟩,⟨rfl,rfl,rfl,by simp,fun k _ hk=>setRow_other w g k _ (fun e=>hk (by simp [Value.ownBlock,e]))⟩,Or.inl rfl,?_⟩
   ·simp only [List.size_toArray,List.length_append,List.length_take,List.length_drop,Array.length_toList]
    omega
   ·rw [htake,←hlen]
    exact List.take_left
   ·refine⟨hown.1,.inr ⟨g,cap,_,rfl,Nat.zero_le _,setRow_heap w g cur _ e _ hg,hnc,hcm,?_,?_⟩⟩
    ·simp only [List.size_toArray,List.length_append,List.length_take,List.length_drop,Array.length_toList]
     omega
    ·rw [htake,←hown.1]
     simp only [List.append_assoc]
     exact List.take_left
  ·have holds:∀j u,xs[j]? = some u→w.cell? ((⟨g,0,none⟩:Addr).add j)=some u:=hown.cells (g:=g) rfl
   have hold:(Builtin.firstCells i.size n (.slice (some ⟨g,0,none⟩) n cap)).run P w.drew=.ok xs.toArray w.drew:=
    run_firstCells_some w.drew i.size n ⟨g,0,none⟩ n cap xs hown.1 (by simpa using holds)
   have hr:=run_append_grow_src (P:=P) w t tx ty e i z ht hi hz (some ⟨g,0,none⟩) n cap xs hold x m news hs (by omega) hsmall (growslice_fits (by omega) hbytes)
   have hgr:=grown cap (by omega) (Value.ownBlock (.slice (some ⟨g,0,none⟩) n cap))
   have hgn:=(grown cap (by omega) none).2
   exact⟨_,_,hr,hgr.1,hgr.2,Or.inr rfl,hown.1,.inr ⟨g,cap,cur,rfl,hbg,(hgn.block g (Array.getElem?_eq_some_iff.1 hg).1 (by simp)).trans hg,hnc,hcm,hcs,htake⟩⟩
end
theorem killCs_get (t:Nat):∀(cs:List AV) (i:Nat),(killCs t cs)[i]? = (cs[i]?).map (killC t)
 | [],i=>by simp [killCs]
 |c::cs,0=>by simp [killCs]
 |c::cs,i+1=>by simp [killCs,killCs_get t cs i]
theorem killCs_length (t:Nat):∀cs:List AV,(killCs t cs).length=cs.length
 | []=>rfl
 |c::cs=>by simp [killCs,killCs_length t cs]
section
variable {P:Program}{S S':Nat→Prop}{w w':World}{β β':Nat→Value}{D D':Nat→Prop}{t:Nat}
theorem RV.killC {v:Value}{x:AV} (h:RV P S w β D v x) (hp:∀b,β t≠.pointer (some ⟨b,0,none⟩)) (hS:∀b,S b→S' b∧w'.heap[b]? = w.heap[b]?)
  (hD:∀s,D s→s≠t→D' s∧β' s=β s):RV P S' w' β' D' v (killC t x):=by
 cases h with
 |pv v p h=>exact .pv _ _ (h.mono hS)
 |own s h=>
  simp only [Ab.killC]
  split
  ·exact .junk _
  ·rename_i hne
   rw [←(hD s h hne).2];exact .own s (hD s h hne).1
 |ptr s o b h hb=>
  have hne:s≠t:=fun e=>hp b (by rw [←e];exact hb)
  exact .ptr s o b (hD s h hne).1 ((hD s h hne).2.trans hb)
 |eptr s e i o b n c inf h hi hb=>
  simp only [Ab.killC]
  split
  ·exact .junk _
  ·rename_i hne
   exact .eptr s e i o b n c inf (hD s h hne).1 hi ((hD s h hne).2.trans hb)
 |sub v s e lo hi inf A A1 n c h hi' hb h1 h2 h3 h4 h5 hv=>
  simp only [Ab.killC]
  split
  ·exact .junk _
  ·rename_i hne
   exact .sub v s e lo hi inf A A1 n c (hD s h hne).1 hi' ((hD s h hne).2.trans hb) h1 h2 h3 h4 h5 hv
 |rp ad cs us h1 h2 h3 h4=>exact .rp ad cs us (hS _ h1).1 (fun j hj=>(cell_same (hS _ h1).2 _).trans (h2 j hj)) h3 (fun j p hp=>(h4 j p hp).mono hS)
 |agg cs us hl h=>exact .junk _
 |tup cs us hl h=>exact .junk _
 |clo f cs us hl h=>
  cases cs with
  |nil=>
   refine .clo f [] us hl ?_
   intro i c u hc
   simp at hc
  |cons c cs=>exact .junk _
 |cnd g v av h=>exact .junk _
 |junk v=>exact .junk _
theorem RV.kill {v:Value}{x:AV} (h:RV P S w β D v x) (hp:∀b,β t≠.pointer (some ⟨b,0,none⟩)) (hS:∀b,S b→S' b∧w'.heap[b]? = w.heap[b]?)
  (hD:∀s,D s→s≠t→D' s∧β' s=β s):RV P S' w' β' D' v (kill t x):=by
 induction h with
 |agg cs us hl h _=>
  refine .agg _ us (by rw [killCs_length];exact hl) fun i c u hc hu=>?_
  rw [killCs_get]at hc
  obtain⟨c',hc',rfl⟩:=Option.map_eq_some_iff.1 hc
  exact (h i c' u hc' hu).killC hp hS hD
 |tup cs us hl h _=>
  refine .tup _ us (by rw [killCs_length];exact hl) fun i c u hc hu=>?_
  rw [killCs_get]at hc
  obtain⟨c',hc',rfl⟩:=Option.map_eq_some_iff.1 hc
  exact (h i c' u hc' hu).killC hp hS hD
 |pv v p h=>exact RV.killC (x:=.pv p) (.pv v p h) hp hS hD
 |own s h=>exact RV.killC (x:=.own s) (.own s h) hp hS hD
 |ptr s o b h hb=>exact RV.killC (x:=.ptr s o) (.ptr s o b h hb) hp hS hD
 |eptr s e i o b n c inf h hi hb=>exact RV.killC (x:=.eptr s e i o) (.eptr s e i o b n c inf h hi hb) hp hS hD
 |sub v s e lo hi inf A A1 n c h hi' hb h1 h2 h3 h4 h5 hv=>exact RV.killC (x:=.sub s e lo hi) (.sub v s e lo hi inf A A1 n c h hi' hb h1 h2 h3 h4 h5 hv) hp hS hD
 |rp ad cs us h1 h2 h3 h4=>exact RV.killC (x:=.rp cs) (.rp ad cs us h1 h2 h3 h4) hp hS hD
 |clo f cs us hl h _=>exact RV.killC (x:=.clo f cs) (.clo f cs us hl h) hp hS hD
 |cnd g v av h hu ih=>exact .cnd g v _ (fun hg=>ih hg) hu
 |junk v=>exact .junk _
theorem HoldsO.kill {s:Nat}{o:AO} (h:HoldsO P S w β D s o) (hp:∀b,β t≠.pointer (some ⟨b,0,none⟩)) (hS:∀b,S b→S' b∧w'.heap[b]? = w.heap[b]?)
  (hD:∀s,D s→s≠t→D' s∧β' s=β s) (ht : β' s=β s) (hb:∀b,blk (β s)=some b→w'.heap[b]? = w.heap[b]?):HoldsO P S' w' β' D' s (killO t o):=by
 cases o with
 |box cs=>
  obtain⟨b,us,ty,hpt,hh,hl,hc⟩:=h
  refine⟨b,us,ty,ht.trans hpt,(hb b (by rw [hpt];rfl)).trans hh,by rw [killCs_length];exact hl,fun i c u h1 h2=>?_⟩
  rw [killCs_get]at h1
  obtain⟨c',hc',rfl⟩:=Option.map_eq_some_iff.1 h1
  exact⟨(hc i c' u hc' h2).1,(hc i c' u hc' h2).2.killC hp hS hD⟩
 |arr e rows=>
  obtain⟨inf,us,hi,hown,hr,hc⟩:=h
  refine⟨inf,us,hi,?_,hr,fun i j r p h1 h2=>?_⟩
  ·rw [ht]
   refine⟨hown.1,?_⟩
   rcases hown.2 with h0 | ⟨g,cap,cur,hv,h1,h2,h3,h4,h5,h6⟩
   ·exact .inl h0
   ·exact .inr ⟨g,cap,cur,hv,h1,(hb g (by rw [hv];rfl)).trans h2,h3,h4,h5,h6⟩
  ·obtain⟨u,h3,h4,h5⟩:=hc i j r p h1 h2
   exact⟨u,h3,h4,h5.mono hS⟩
 |map es=>
  obtain⟨b,us,c,hp',hh,hl,hc⟩:=h
  exact⟨b,us,c,ht.trans hp',(hb b (by rw [hp'];rfl)).trans hh,hl,fun i e u h1 h2=>⟨(hc i e u h1 h2).1,(hc i e u h1 h2).2.mono hS fun _ hf=>hf.elim⟩⟩
 |mpv es=>exact HoldsO.mono (D:=fun _=>False) (show HoldsO P S w β (fun _=>False) s (.mpv es) from h) hS (fun _ hf=>hf.elim) ht hb
 |itr rem cur=>exact HoldsO.mono (D:=fun _=>False) (show HoldsO P S w β (fun _=>False) s (.itr rem cur) from h) hS (fun _ hf=>hf.elim) ht hb
 |rws e cs=>
  obtain⟨inf,us,hi,h1s,hown,hc⟩:=h
  refine⟨inf,us,hi,h1s,?_,fun i c u h1 h2=>?_⟩
  ·rw [ht,killCs_length]
   refine⟨hown.1,?_⟩
   rcases hown.2 with h0 | ⟨g,cap,cur,hv,h1,h2,h3,h4,h5,h6⟩
   ·exact .inl h0
   ·exact .inr ⟨g,cap,cur,hv,h1,(hb g (by rw [hv];rfl)).trans h2,h3,h4,h5,h6⟩
  ·rw [killCs_get]at h1
   obtain⟨c',hc',rfl⟩:=Option.map_eq_some_iff.1 h1
   exact⟨(hc i c' u hc' h2).1,(hc i c' u hc' h2).2.killC hp hS hD⟩
end
theorem own_blk {w:World}{b:Nat}{e:TypeId}{sz n:Nat}{v:Value}{us:List Value} (h:w.ownsRow b e sz v n us):blk v=v.ownBlock∧∀b',v≠.pointer (some ⟨b',0,none⟩):=by
 rcases h.2 with ⟨rfl,_⟩ | ⟨g,cap,cur,rfl,_⟩
 ·exact⟨rfl,fun _ e=>by cases e⟩
 ·exact⟨rfl,fun _ e=>by cases e⟩
theorem dom_killM {t s:Nat}{objs:Nat→Option AO}:dom (killM t objs) s↔dom objs s:=by
 unfold dom killM
 constructor
 ·rintro⟨o,ho⟩
  obtain⟨o',h,_⟩:=Option.map_eq_some_iff.1 ho
  exact⟨o',h⟩
 ·rintro⟨o,ho⟩
  exact⟨killO t o,by rw [ho];rfl⟩
section
variable {P:Program}{S0 L:Nat→Prop}{B0:Nat→Value}{w0 w w':World}{N:Nat}{st:St}{a:Act}{β:Nat→Value}
theorem Rel.app (h:Rel P S0 L B0 w0 N st a w β) {t:Nat}{e:TypeId}{rows more:List (List PV)} (ht9:t % 1000≠999) (ht:st.objs t=some (.arr e rows)) {inf:TypeInfo}{us news:List Value}
  (hi:P.info? e=some inf) (hown:w.ownsRow 0 e inf.size (β t) rows.length us) (hrows:∀r,r∈rows→r.length=inf.size)
  (hcs:∀(i j:Nat) (r:List PV) (p:PV),rows[i]? = some r→r[j]? = some p→∃u,us[i*inf.size+j]? = some u∧u.oneCell'=true∧RPV (okS S0 w0.heap.size β st.objs w) w u p)
  (hmore:∀r,r∈more→r.length=inf.size)
  (hms:∀(i j:Nat) (r:List PV) (p:PV),more[i]? = some r→r[j]? = some p→∃u,news[i*inf.size+j]? = some u∧u.oneCell'=true∧RPV (okS S0 w0.heap.size β st.objs w) w u p)
  {v':Value} (hown':w'.ownsRow 0 e inf.size v' (rows.length+more.length) (us++news)) (hg:w.grownBy w' (β t).ownBlock) (hb:v'.ownBlock=(β t).ownBlock∨v'.ownBlock=some w.heap.size) :
  Rel P S0 L B0 w0 N ⟨killV t st.vars,addO t (.arr e (rows++more)) (killM t st.objs)⟩ a w' (setβ β t v'):=by
 have hdt:dom st.objs t:=⟨_,ht⟩
 have hbt:=(own_blk hown).1
 have hbt':=(own_blk hown').1
 have hp:=(own_blk hown).2
 have hdom:∀s,dom (addO t (.arr e (rows++more)) (killM t st.objs)) s→dom st.objs s:=fun s hs=>by
  rcases dom_add.1 hs with e | e
  ·rw [e];exact hdt
  ·exact dom_killM.1 e
 have hv'lt:∀b,blk v'=some b→b < w'.heap.size:=fun b hb'=>(hown'.lt b (by rw [←hbt'];exact hb')).2
 have hm:∀b,okS S0 w0.heap.size β st.objs w b→okS S0 w0.heap.size (setβ β t v') (addO t (.arr e (rows++more)) (killM t st.objs)) w' b∧w'.heap[b]? = w.heap[b]?:=by
  intro b ⟨h1,h2,h3⟩
  have hbne:some b≠(β t).ownBlock:=fun e'=>h3 ⟨t,_,ht,by rw [hbt,←e']⟩
  refine⟨⟨h1,Nat.lt_of_lt_of_le h2 hg.size,?_⟩,hg.block b h2 hbne⟩
  rintro⟨s,o,hs,hbs⟩
  by_cases e':s=t
  ·subst e'
   rw [setβ_same,hbt']at hbs
   rcases hb with hb | hb
   ·exact hbne (by rw [←hb,hbs])
   ·rw [hb]at hbs;injection hbs with hbs;omega
  ·rw [setβ_ne _ _ e']at hbs
   have hs':killM t st.objs s=some o:=by simpa [addO,e']using hs
   obtain⟨o',ho'⟩:=dom_killM.1 ⟨o,hs'⟩
   exact h3 ⟨s,_,ho',hbs⟩
 have hD:∀s,dom st.objs s→s≠t→dom (addO t (.arr e (rows++more)) (killM t st.objs)) s∧setβ β t v' s=β s:=fun s hs hne=>⟨dom_add.2 (.inr (dom_killM.2 hs)),setβ_ne _ _ hne⟩
 have hblkne:∀s,dom st.objs s→s≠t→∀b,blk (β s)=some b→w'.heap[b]? = w.heap[b]?:=fun s hs hne b hbs=>
  hg.block b (h.lt hs hbs) fun e'=>hne (h.heap.inj s t b hs hdt hbs (by rw [hbt,←e']))
 refine⟨h.size,h.defers,fun s=>(h.vars s).kill hp hm hD,⟨fun s o hs=>?_,fun s s' b hs hs' hbs hbs'=>?_⟩,fun s b hs hbs=>?_,h.lim,fun s h9 hs=>?_,?_⟩
 ·by_cases e':s=t
  ·subst e'
   have:o=.arr e (rows++more):=by simpa [addO]using hs.symm
   subst this
   refine⟨inf,us++news,hi,?_,fun r hr=>?_,fun i j r p h1 h2=>?_⟩
   ·rw [setβ_same,List.length_append];exact hown'
   ·rcases List.mem_append.1 hr with hr | hr
    ·exact hrows r hr
    ·exact hmore r hr
   ·by_cases hlt:i < rows.length
    ·rw [List.getElem?_append_left hlt]at h1
     obtain⟨u,hu,h1',hr⟩:=hcs i j r p h1 h2
     have hul:i*inf.size+j < us.length:=(List.getElem?_eq_some_iff.1 hu).1
     exact⟨u,by rw [List.getElem?_append_left hul];exact hu,h1',hr.mono hm⟩
    ·rw [List.getElem?_append_right (by omega)]at h1
     obtain⟨u,hu,h1',hr⟩:=hms (i - rows.length) j r p h1 h2
     have he:i*inf.size+j - us.length=(i - rows.length)*inf.size+j:=by
      rw [hown.1,Nat.sub_mul]
      have:=Nat.mul_le_mul_right inf.size (show rows.length≤i by omega)
      omega
     have hle:us.length≤i*inf.size+j:=by
      rw [hown.1]
      have:=Nat.mul_le_mul_right inf.size (show rows.length≤i by omega)
      omega
     exact⟨u,by rw [List.getElem?_append_right hle,he];exact hu,h1',hr.mono hm⟩
  ·have hs':killM t st.objs s=some o:=by simpa [addO,e']using hs
   obtain⟨o',ho',rfl⟩:=Option.map_eq_some_iff.1 hs'
   exact (h.heap.holds s o' ho').kill hp hm hD (setβ_ne _ _ e') (hblkne s ⟨_,ho'⟩ e')
 ·have hs1:=hdom s hs
  have hs2:=hdom s' hs'
  by_cases e1:s=t<;>by_cases e2:s'=t
  ·rw [e1,e2]
  ·subst e1
   rw [setβ_same,hbt']at hbs
   rw [setβ_ne _ _ e2]at hbs'
   rcases hb with hb | hb
   ·exact h.heap.inj s s' b hs1 hs2 (by rw [hbt,←hb,hbs]) hbs'
   ·have:=h.lt hs2 hbs'
    rw [hb]at hbs;injection hbs with hbs;omega
  ·subst e2
   rw [setβ_same,hbt']at hbs'
   rw [setβ_ne _ _ e1]at hbs
   rcases hb with hb | hb
   ·exact h.heap.inj s s' b hs1 hs2 hbs (by rw [hbt,←hb,hbs'])
   ·have:=h.lt hs1 hbs
    rw [hb]at hbs';injection hbs' with hbs';omega
  ·rw [setβ_ne _ _ e1]at hbs
   rw [setβ_ne _ _ e2]at hbs'
   exact h.heap.inj s s' b hs1 hs2 hbs hbs'
 ·have hs1:=hdom s hs
  by_cases e1:s=t
  ·subst e1
   rw [setβ_same,hbt']at hbs
   rcases hb with hb | hb
   ·exact h.old s b hs1 (by rw [hbt,←hb,hbs])
   ·rw [hb]at hbs;injection hbs with hbs
    have:=h.fram.size
    exact .inl (by omega)
  ·rw [setβ_ne _ _ e1]at hbs
   exact h.old s b hs1 hbs
 ·have hst:s≠t:=fun e=>by subst e;exact ht9 h9
  rw [setβ_ne _ _ hst]
  exact h.pin s h9 (hdom s hs)
 ·refine⟨hg.os.trans h.fram.os,hg.tape.trans h.fram.tape,hg.output.trans h.fram.output,Nat.le_trans h.fram.size hg.size,fun b h1 h2=>?_⟩
  refine (hg.block b (by have:=h.fram.size;omega) fun e'=>?_).trans (h.fram.block b h1 h2)
  rcases h.old t b hdt (by rw [hbt,←e']) with hx | hx
  ·omega
  ·exact h2 hx
end
end Go.Proofs.Ytlmkcmfmfahcfaa.Ab
