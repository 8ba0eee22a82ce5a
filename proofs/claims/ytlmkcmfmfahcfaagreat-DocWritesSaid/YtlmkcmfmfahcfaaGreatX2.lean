/- How the abstract machine reckons: rewrite rules. -/
import Derived.Test.YtlmkcmfmfahcfaaGreatX1
import Derived.Deep.AppendLies
import Derived.Deep.Draws
import Derived.Maps.AppendAt
import Derived.Laws.OwnMore
import Derived.Deep.AppendSrc
import Derived.Deep.Upon
set_option linter.unusedVariables false
set_option linter.unusedSimpArgs false
set_option linter.unnecessarySimpa false
set_option maxHeartbeats 40000000
set_option maxRecDepth 100000
namespace Go.Proofs.YtlmkcmfmfahcfaaGreat.Ab.R
open Go Go.RowKit
theorem nr {α:Sort _}{a b:α} (h:a=b):a=b:=h
@[congr] theorem Ii {α:Type}{o o':Option α}{K:α→Prop} (h:True→o=o'):ai o K=ai o' K:=by rw[h trivial]
@[congr] theorem E9 {P:Program}{Γ:bN}{is:List AI}{K:St→Prop}{st st':St} (h:True→st=st'):cC P Γ is K st=cC P Γ is K st':=by rw[h trivial]
@[congr] theorem HD {P:Program}{Γ:bN}{i:AI}{K:St→Prop}{st st':St} (h:True→st=st'):cI P Γ i K st=cI P Γ i K st':=by rw[h trivial]
@[congr] theorem K3 {P:Program}{Γ:bN}{d:Option Nat}{k:AK}{xs xs':List AV}{C:bz→Prop}{aa:Nat→Option AO} (hx:True→xs=xs'):aQ P Γ d k xs aa C=aQ P Γ d k xs' aa C:=by rw[hx trivial]
@[congr] theorem KA {P:Program}{Γ:bN}{c c':Bool}{d:Option Nat}{k:AK}{xs xs':List AV}{C:bz→Prop}{aa:Nat→Option AO} (hc:True→c=c') (hx:True→xs=xs'):cb P Γ c d k xs aa C=cb P Γ c' d k xs' aa C:=by rw[hx trivial,hc trivial]
@[congr] theorem MF {P:Program}{Γ:bN}{c:AC}{K:St→Prop}{J:Exit→St→Prop}{st st':St} (h:True→st=st'):gq P Γ c K J st=gq P Γ c K J st':=by rw[h trivial]
@[simp↓] theorem ZR {A B:Prop}:((true=true→A)∧(true=false→B))=A:=by simp
@[simp↓] theorem ZI {A B:Prop}:((false=true→A)∧(false=false→B))=B:=by simp
@[simp↓] theorem Li {α:Type} (x:α) (K:α→Prop):ai (some x) K=K x:=rfl
@[simp↓] theorem Kz {α:Type} (K:α→Prop):ai (none:Option α) K=False:=rfl
section
variable{P:Program}{Γ:bN}{K:St→Prop}{J:Exit→St→Prop}{vs:List (Nat×AV)}{os:List (Nat×AO)}
@[simp↓] theorem Qr:gq P Γ .skip K J ⟨look vs,ab os⟩=K ⟨look vs,ab os⟩:=rfl
@[simp↓] theorem Wy {is:List AI}{b8:List Nat}:gq P Γ (.ag is true b8) K J ⟨look vs,ab os⟩=steps P Γ is (fun st'=>K ⟨iv b8 st'.vars,st'.aa⟩) ⟨look vs,ab os⟩:=rfl
@[simp↓] theorem Pt {is:List AI}{b8:List Nat}:gq P Γ (.ag is false b8) K J ⟨look vs,ab os⟩=cC P Γ is (fun st'=>K ⟨iv b8 st'.vars,st'.aa⟩) ⟨look vs,ab os⟩:=rfl
@[simp↓] theorem JB:cC P Γ [] K ⟨look vs,ab os⟩=K ⟨look vs,ab os⟩:=rfl
@[simp↓] theorem Hk {i:AI}{is:List AI}:cC P Γ (i::is) K ⟨look vs,ab os⟩=bS P Γ i (fun st'=>cC P Γ is K st') ⟨look vs,ab os⟩:=rfl
@[simp↓] theorem IF {d:Option Nat}{xs:List Operand}{g:Option (Nat×Bool)}{un:List Nat}{tg:Option Nat}:bS P Γ ⟨d,.gp,xs,g,un,tg⟩ K ⟨look vs,ab os⟩=eY P Γ d (xs.map (ev (look vs))) g K ⟨look vs,ab os⟩:=rfl
@[simp↓] theorem Ln {d:Option Nat}{k:AK}{xs:List Operand}{un:List Nat}{tg:Option Nat}:b7 P Γ ⟨d,k,xs,none,un,tg⟩ K ⟨look vs,ab os⟩=cI P Γ ⟨d,k,xs,none,un,tg⟩ K ⟨look vs,ab os⟩:=rfl
@[simp↓] theorem Kx {d:Option Nat}{k:AK}{xs:List Operand}{s:Nat}{w:Bool}{un:List Nat}{tg:Option Nat}:b7 P Γ ⟨d,k,xs,some (s,w),un,tg⟩ K ⟨look vs,ab os⟩=gb (fb ((xs.map (ev (look vs))).map strip)) (GN (bE (look vs s) w)) (cI P Γ ⟨d,k,xs,some (s,w),un,tg⟩ K ⟨look vs,ab os⟩) (K ((bz.put (.b5 false .ar)).on d ⟨look vs,ab os⟩)):=rfl
@[congr] theorem H9 {b b' f:Bool}{A B:Prop} (h:True→b=b'):gb b f A B=gb b' f A B:=by rw[h trivial]
@[simp↓] theorem G9 {f:Bool}{A B:Prop}:gb false f A B=A:=rfl
@[simp↓] theorem KF {f:Bool}{A B:Prop}:gb true f A B=if f=true then B else A:=rfl
def Qc (P:Program) (Γ:bN) (d:Option Nat) (K:St→Prop) (st:St):FuncId×List AV→Prop|(f,ys)=>fQ P f=true∧dV P Γ d f ys (di Γ f) K st
@[simp↓] theorem I7 {d:Option Nat}{xs:List AV}:eY P Γ d xs none K ⟨look vs,ab os⟩=(an xs∧ai (jQ (xs.map strip)) (Qc P Γ d K ⟨look vs,ab os⟩)):=rfl
@[simp↓] theorem WN {d:Option Nat}{f:FuncId}{ys:List AV}:Qc P Γ d K ⟨look vs,ab os⟩ (f,ys)=(fQ P f=true∧dV P Γ d f ys (di Γ f) K ⟨look vs,ab os⟩):=rfl
@[simp↓] theorem H8 {d:Option Nat}{f:FuncId}{ys:List AV}:dV P Γ d f ys none K ⟨look vs,ab os⟩=cr P Γ d f ys (ab os) fun e=>K (e.on d ⟨look vs,ab os⟩):=rfl
@[simp↓] theorem Ip {d:Option Nat}{f:FuncId}{ys:List AV}{p k:Nat}:dV P Γ d f ys (some (p,k)) K ⟨look vs,ab os⟩=if k=996 then stepG Γ d f ys (gO Γ f) K ⟨look vs,ab os⟩ else False:=rfl
@[congr] theorem Gy {d:Option Nat}{f:FuncId}{ys ys':List AV}{o o':Option (Nat×Nat)}{st:St} (h1:True→ys=ys') (h:True→o=o'):dV P Γ d f ys o K st=dV P Γ d f ys' o' K st:=by rw[h1 trivial,h trivial]
@[simp↓] theorem IE {d:Option Nat}{xs:List AV}{s:Nat}{w:Bool}:eY P Γ d xs (some (s,w)) K ⟨look vs,ab os⟩=gb (fb (xs.map strip)) (GN (bE (look vs s) w)) (nF P Γ d xs s w K ⟨look vs,ab os⟩) (K ((bz.put (.b5 false .ar)).on d ⟨look vs,ab os⟩)):=rfl
def Rd (P:Program) (Γ:bN) (d:Option Nat) (A:Prop) (c:Bool) (K:St→Prop) (st:St):FuncId×List AV→Prop|(f,ys)=>fQ P f=true∧gm P Γ d f ys A c (di Γ f) K st
@[simp↓] theorem VM {d:Option Nat}{A:Prop}{c:Bool}{f:FuncId}{ys:List AV}:Rd P Γ d A c K ⟨look vs,ab os⟩ (f,ys)=(fQ P f=true∧gm P Γ d f ys A c (di Γ f) K ⟨look vs,ab os⟩):=rfl
@[simp↓] theorem O1 {d:Option Nat}{xs:List AV}{s:Nat}{w:Bool}:nF P Γ d xs s w K ⟨look vs,ab os⟩=ai (bE (look vs s) w) fun c=>ai (jQ (xs.map strip)) (Rd P Γ d (an xs) c K ⟨look vs,ab os⟩):=rfl
@[simp↓] theorem Gh {d:Option Nat}{f:FuncId}{ys:List AV}{A:Prop}{c:Bool}:gm P Γ d f ys A c none K ⟨look vs,ab os⟩=wB Γ c f ys (ab os) fun e=>(c=true→A)∧K (e.on d ⟨look vs,ab os⟩):=rfl
@[simp↓] theorem EU {d:Option Nat}{f:FuncId}{ys:List AV}{A:Prop}{c:Bool}{p k:Nat}:gm P Γ d f ys A c (some (p,k)) K ⟨look vs,ab os⟩=if k=996 then(if c=true then A∧stepG Γ d f ys (gO Γ f) K ⟨look vs,ab os⟩ else K ((bz.put (.b5 false .ar)).on d ⟨look vs,ab os⟩)) else False:=rfl
@[congr] theorem Ev {d:Option Nat}{f:FuncId}{ys ys':List AV}{A:Prop}{c:Bool}{o o':Option (Nat×Nat)}{st:St} (h1:True→ys=ys') (h:True→o=o'):gm P Γ d f ys A c o K st=gm P Γ d f ys' A c o' K st:=by rw[h1 trivial,h trivial]
@[simp] theorem L2 {f:FuncId}{caps args:List AV}:jQ (.bA f caps::args)=some (f,args++caps):=nr rfl
@[simp↓] theorem Oo {d:Option Nat}{xs:List Operand}{g:Option (Nat×Bool)}{un:List Nat}{tg:Option Nat}:bS P Γ ⟨d,.aB,xs,g,un,tg⟩ K ⟨look vs,ab os⟩=b7 P Γ ⟨d,.aB,xs,g,un,tg⟩ K ⟨look vs,ab os⟩:=rfl
@[simp↓] theorem Jk {d:Option Nat}{xs:List Operand}{g:Option (Nat×Bool)}{un:List Nat}{tg:Option Nat}:bS P Γ ⟨d,.pick,xs,g,un,tg⟩ K ⟨look vs,ab os⟩=b7 P Γ ⟨d,.pick,xs,g,un,tg⟩ K ⟨look vs,ab os⟩:=rfl
@[simp↓] theorem OP {d:Option Nat}{xs:List Operand}{g:Option (Nat×Bool)}{un:List Nat}{tg:Option Nat}{op:BinOp}:bS P Γ ⟨d,.bin op,xs,g,un,tg⟩ K ⟨look vs,ab os⟩=b7 P Γ ⟨d,.bin op,xs,g,un,tg⟩ K ⟨look vs,ab os⟩:=rfl
@[simp↓] theorem OJ {d:Option Nat}{xs:List Operand}{g:Option (Nat×Bool)}{un:List Nat}{tg:Option Nat}{ne:Bool}:bS P Γ ⟨d,.beq ne,xs,g,un,tg⟩ K ⟨look vs,ab os⟩=b7 P Γ ⟨d,.beq ne,xs,g,un,tg⟩ K ⟨look vs,ab os⟩:=rfl
@[simp↓] theorem Oh {d:Option Nat}{xs:List Operand}{g:Option (Nat×Bool)}{un:List Nat}{tg:Option Nat}:bS P Γ ⟨d,.not,xs,g,un,tg⟩ K ⟨look vs,ab os⟩=b7 P Γ ⟨d,.not,xs,g,un,tg⟩ K ⟨look vs,ab os⟩:=rfl
@[simp↓] theorem Mv {d:Option Nat}{xs:List Operand}{g:Option (Nat×Bool)}{un:List Nat}{tg:Option Nat}:bS P Γ ⟨d,.neg,xs,g,un,tg⟩ K ⟨look vs,ab os⟩=b7 P Γ ⟨d,.neg,xs,g,un,tg⟩ K ⟨look vs,ab os⟩:=rfl
@[simp↓] theorem Ni {d:Option Nat}{xs:List Operand}{g:Option (Nat×Bool)}{un:List Nat}{tg:Option Nat}{k:IntKind}:bS P Γ ⟨d,.iO k,xs,g,un,tg⟩ K ⟨look vs,ab os⟩=b7 P Γ ⟨d,.iO k,xs,g,un,tg⟩ K ⟨look vs,ab os⟩:=rfl
@[simp↓] theorem MH {d:Option Nat}{xs:List Operand}{g:Option (Nat×Bool)}{un:List Nat}{tg:Option Nat}:bS P Γ ⟨d,.Ag,xs,g,un,tg⟩ K ⟨look vs,ab os⟩=b7 P Γ ⟨d,.Ag,xs,g,un,tg⟩ K ⟨look vs,ab os⟩:=rfl
@[simp↓] theorem M7 {d:Option Nat}{xs:List Operand}{g:Option (Nat×Bool)}{un:List Nat}{tg:Option Nat}:bS P Γ ⟨d,.len,xs,g,un,tg⟩ K ⟨look vs,ab os⟩=b7 P Γ ⟨d,.len,xs,g,un,tg⟩ K ⟨look vs,ab os⟩:=rfl
@[simp↓] theorem Kk {d:Option Nat}{xs:List Operand}{g:Option (Nat×Bool)}{un:List Nat}{tg:Option Nat}:bS P Γ ⟨d,.mS,xs,g,un,tg⟩ K ⟨look vs,ab os⟩=b7 P Γ ⟨d,.mS,xs,g,un,tg⟩ K ⟨look vs,ab os⟩:=rfl
@[simp↓] theorem K0 {d:Option Nat}{xs:List Operand}{g:Option (Nat×Bool)}{un:List Nat}{tg:Option Nat}:bS P Γ ⟨d,.pK,xs,g,un,tg⟩ K ⟨look vs,ab os⟩=b7 P Γ ⟨d,.pK,xs,g,un,tg⟩ K ⟨look vs,ab os⟩:=rfl
@[simp↓] theorem OT {d:Option Nat}{xs:List Operand}{g:Option (Nat×Bool)}{un:List Nat}{tg:Option Nat}{lo hi:Bool}:bS P Γ ⟨d,.FN lo hi,xs,g,un,tg⟩ K ⟨look vs,ab os⟩=b7 P Γ ⟨d,.FN lo hi,xs,g,un,tg⟩ K ⟨look vs,ab os⟩:=rfl
@[simp↓] theorem Nq {d:Option Nat}{xs:List Operand}{g:Option (Nat×Bool)}{un:List Nat}{tg:Option Nat}{o:Nat}{n:Option Nat}:bS P Γ ⟨d,.DW o n,xs,g,un,tg⟩ K ⟨look vs,ab os⟩=b7 P Γ ⟨d,.DW o n,xs,g,un,tg⟩ K ⟨look vs,ab os⟩:=rfl
@[simp↓] theorem Nm {d:Option Nat}{xs:List Operand}{g:Option (Nat×Bool)}{un:List Nat}{tg:Option Nat}{o:Nat}:bS P Γ ⟨d,.aD o,xs,g,un,tg⟩ K ⟨look vs,ab os⟩=b7 P Γ ⟨d,.aD o,xs,g,un,tg⟩ K ⟨look vs,ab os⟩:=rfl
@[simp↓] theorem Lw {d:Option Nat}{xs:List Operand}{g:Option (Nat×Bool)}{un:List Nat}{tg:Option Nat}{n:Option Nat}:bS P Γ ⟨d,.load n,xs,g,un,tg⟩ K ⟨look vs,ab os⟩=b7 P Γ ⟨d,.load n,xs,g,un,tg⟩ K ⟨look vs,ab os⟩:=rfl
@[simp↓] theorem M6 {d:Option Nat}{xs:List Operand}{g:Option (Nat×Bool)}{un:List Nat}{tg:Option Nat}{e:TypeId}{s:Nat}:bS P Γ ⟨d,.aY e s,xs,g,un,tg⟩ K ⟨look vs,ab os⟩=b7 P Γ ⟨d,.aY e s,xs,g,un,tg⟩ K ⟨look vs,ab os⟩:=rfl
@[simp↓] theorem OI {d:Option Nat}{xs:List Operand}{g:Option (Nat×Bool)}{un:List Nat}{tg:Option Nat}{e s:Nat}:bS P Γ ⟨d,.Eu e s,xs,g,un,tg⟩ K ⟨look vs,ab os⟩=b7 P Γ ⟨d,.Eu e s,xs,g,un,tg⟩ K ⟨look vs,ab os⟩:=rfl
@[simp↓] theorem Mg {d:Option Nat}{xs:List Operand}{g:Option (Nat×Bool)}{un:List Nat}{tg:Option Nat}:bS P Γ ⟨d,.dG,xs,g,un,tg⟩ K ⟨look vs,ab os⟩=b7 P Γ ⟨d,.dG,xs,g,un,tg⟩ K ⟨look vs,ab os⟩:=rfl
@[simp↓] theorem LY {d:Option Nat}{xs:List Operand}{g:Option (Nat×Bool)}{un:List Nat}{tg:Option Nat}{s:Nat}{lo hi:Bool}:bS P Γ ⟨d,.lH s lo hi,xs,g,un,tg⟩ K ⟨look vs,ab os⟩=b7 P Γ ⟨d,.lH s lo hi,xs,g,un,tg⟩ K ⟨look vs,ab os⟩:=rfl
@[simp↓] theorem OL {d:Option Nat}{xs:List Operand}{g:Option (Nat×Bool)}{un:List Nat}{tg:Option Nat}{i:Nat}:bS P Γ ⟨d,.ext i,xs,g,un,tg⟩ K ⟨look vs,ab os⟩=b7 P Γ ⟨d,.ext i,xs,g,un,tg⟩ K ⟨look vs,ab os⟩:=rfl
@[simp↓] theorem NQ {d:Option Nat}{xs:List Operand}{g:Option (Nat×Bool)}{un:List Nat}{tg:Option Nat}{zs:List Value}{ps:List (Nat×Nat)}:bS P Γ ⟨d,.eR zs ps,xs,g,un,tg⟩ K ⟨look vs,ab os⟩=b7 P Γ ⟨d,.eR zs ps,xs,g,un,tg⟩ K ⟨look vs,ab os⟩:=rfl
@[simp↓] theorem OK {d:Option Nat}{xs:List Operand}{g:Option (Nat×Bool)}{un:List Nat}{tg:Option Nat}{f:FuncId}:bS P Γ ⟨d,.zV f,xs,g,un,tg⟩ K ⟨look vs,ab os⟩=b7 P Γ ⟨d,.zV f,xs,g,un,tg⟩ K ⟨look vs,ab os⟩:=rfl
@[simp↓] theorem Lk {e:TypeId}{d:Nat}{xs:List Operand}{g:Option (Nat×Bool)}{un:List Nat}{tg:Option Nat}:bS P Γ ⟨some d,.bf e,xs,g,un,tg⟩ K ⟨look vs,ab os⟩=cI P Γ ⟨some d,.bf e,xs,g,un,tg⟩ K (qM d ⟨look vs,ab os⟩):=rfl
@[simp↓] theorem NW {d:Option Nat}{xs:List Operand}{g:Option (Nat×Bool)}{un:List Nat}{tg:Option Nat}:bS P Γ ⟨d,.box,xs,g,un,tg⟩ K ⟨look vs,ab os⟩=b7 P Γ ⟨d,.box,xs,g,un,tg⟩ K ⟨look vs,ab os⟩:=rfl
@[simp↓] theorem HK {d:Option Nat}{xs:List Operand}{g:Option (Nat×Bool)}{un:List Nat}{tg:Option Nat}{zs:List Value}:bS P Γ ⟨d,.alloc zs,xs,g,un,tg⟩ K ⟨look vs,ab os⟩=b7 P Γ ⟨d,.alloc zs,xs,g,un,tg⟩ K ⟨look vs,ab os⟩:=rfl
@[congr] theorem HS {i:AI}{st st':St} (h:True→st=st'):b7 P Γ i K st=b7 P Γ i K st':=by rw[h trivial]
@[simp↓] theorem NU {d:Option Nat}{xs:List Operand}{g:Option (Nat×Bool)}{un:List Nat}{tg:Option Nat}{e:TypeId}{s:Nat}:bS P Γ ⟨d,.fx e s,xs,g,un,tg⟩ K ⟨look vs,ab os⟩=b7 P Γ ⟨d,.fx e s,xs,g,un,tg⟩ K (cw ⟨look vs,ab os⟩ ((xs.map (ev (look vs))).map strip)):=rfl
@[simp↓] theorem G1 {f:FuncId}{d:Option Nat}{xs:List Operand}{s:Nat}{w:Bool}{un:List Nat}{tg:Option Nat}:bS P Γ ⟨d,.call f,xs,some (s,w),un,tg⟩ K ⟨look vs,ab os⟩=kr P Γ ⟨d,.call f,xs,some (s,w),un,tg⟩ f s w (di Γ f) K ⟨look vs,ab os⟩:=rfl
@[congr] theorem FP {i:AI}{f:FuncId}{s:Nat}{w:Bool}{o o':Option (Nat×Nat)}{st:St} (h:True→o=o'):kr P Γ i f s w o K st=kr P Γ i f s w o' K st:=by rw[h trivial]
@[simp↓] theorem Ia {f:FuncId}{d:Option Nat}{xs:List Operand}{s s':Nat}{w w':Bool}{un:List Nat}{tg:Option Nat}:kr P Γ ⟨d,.call f,xs,some (s',w'),un,tg⟩ f s w none K ⟨look vs,ab os⟩=gb (fb ((xs.map (ev (look vs))).map strip)) (GN (bE (look vs s) w)) (ai (bE (look vs s) w) fun c=>ai (eL (ab os) ((xs.map (ev (look vs))).map strip)) fun ys=>ai (gt Γ f ys) fun x=>if Uz x.2=true then(if c=true then ki P Γ ⟨d,.call f,xs,none,[],none⟩ f K ⟨look vs,ab os⟩ else K ((bz.put (.b5 false .ar)).on d ⟨look vs,ab os⟩)) else cI P Γ ⟨d,.call f,xs,some (s',w'),un,tg⟩ K ⟨look vs,ab os⟩) (K ((bz.put (.b5 false .ar)).on d ⟨look vs,ab os⟩)):=rfl
@[simp↓] theorem Is {f:FuncId}{d:Option Nat}{xs:List Operand}{s s' p k:Nat}{w w':Bool}{un:List Nat}{tg:Option Nat}:kr P Γ ⟨d,.call f,xs,some (s',w'),un,tg⟩ f s w (some (p,k)) K ⟨look vs,ab os⟩=if k=996 then ai (bE (look vs s) w) fun c=>if c=true then stepG Γ d f (xs.map (ev (look vs))) (gO Γ f) K ⟨look vs,ab os⟩ else K ((bz.put (.b5 false .ar)).on d ⟨look vs,ab os⟩) else False:=rfl
@[simp↓] theorem Jr {f:FuncId}{d:Option Nat}{xs:List Operand}{un:List Nat}{tg:Option Nat}:bS P Γ ⟨d,.call f,xs,none,un,tg⟩ K ⟨look vs,ab os⟩=fV P Γ ⟨d,.call f,xs,none,un,tg⟩ f (di Γ f) K ⟨look vs,ab os⟩:=rfl
@[congr] theorem EN {i:AI}{f:FuncId}{o o':Option (Nat×Nat)}{st:St} (h:True→o=o'):fV P Γ i f o K st=fV P Γ i f o' K st:=by rw[h trivial]
@[simp↓] theorem Ir {i:AI}{f:FuncId}{st:St}:fV P Γ i f none K st=ki P Γ i f K st:=rfl
@[simp↓] theorem Hf {f g:FuncId}{p k:Nat}{d:Option Nat}{xs:List Operand}{un:List Nat}{tg:Option Nat}:fV P Γ ⟨d,.call g,xs,none,un,tg⟩ f (some (p,k)) K ⟨look vs,ab os⟩=if k=997 then xS P Γ d f (xs.map (ev (look vs))) p K ⟨look vs,ab os⟩ else if k=996 then stepG Γ d f (xs.map (ev (look vs))) (gO Γ f) K ⟨look vs,ab os⟩ else jL P Γ d f (xs.map (ev (look vs))) p k K ⟨look vs,ab os⟩:=rfl
@[simp↓] theorem TG {d:Nat}{f:FuncId}{xs:List AV}{p:Nat}:xS P Γ (some d) f xs p K ⟨look vs,ab os⟩=(an xs∧ai (px (ab os) p (xs.map strip)) fun ys=>ai (Γ (f+1000000) ys) fun x=>x.1∧(dU (xs.map strip)=true∨flat x.2)∧(∀y∈aK d x.2,ab os y.1=none)∧cH x.2=true∧K ⟨put (some d) (cJ (ko d) x.2) (look vs),bn (aK d x.2) (ab os)⟩):=rfl
@[simp] theorem XJ (aa:Nat→Option AO) (vs:List AV):px aa 0 (.pv .nil::vs)=(eL aa vs).map (.pv .nil::·):=nr rfl
@[simp] theorem Ql {f:FuncId}:di Γ f=(Γ (f+1000000) [.ar]).bind fun x=>AF x.2:=nr rfl
@[simp] theorem Mt {p k:Nat}:AF (.ptr p k)=if k=998∨k=999∨k=997∨k=996 then some (p,k) else none:=nr rfl
@[simp↓] theorem Ur {d:Nat}{f:FuncId}{xs:List AV}{p k:Nat}:jL P Γ (some d) f xs p k K ⟨look vs,ab os⟩=(an xs∧ai ((xs.map strip)[p]?) fun X=>ai (fW (ab os) k X) fun T=>kQ T.1 p (xs.map strip)∧ai (oy (eZ T.1 (ab os)) (tW k T.2.1 T.2.2) p (xs.map strip)) fun ys=>ai (Γ (f+1000000) ys) fun x=>x.1∧(iI p (xs.map strip)=true∨(flat (bW x.2)∧mM (dI x.2)))∧(∀y∈aK d (bW x.2),ab os y.1=none)∧cH (bW x.2)=true∧K ⟨put (some d) (cJ (ko d) (bW x.2)) (gh T.1 x.2 (look vs)),bn (aK d (bW x.2)) (cx T.1 x.2 (ab os))⟩):=rfl
@[simp] def Yg:XK→Bool|.pO _=>true|.L8|.Bt _|.Bn _ _ _|.dead|.pj _|.uO|.vl|.wR _ _ _ _|.Bj _|.NT _ _ _|.mark|.Rp|.Be|.Le|.Bf _ _ _|.gX _ _|.VA _|.Cc _|.Ss|.Xm|.V4=>false
def vg (d:Option Nat) (x:XK) (xs:List Operand) (K:St→Prop) (st:St):Prop:=aP d x (xs.map (ev st.vars)) K st
def zN:Bool→Prop→Prop→Prop|true,_,B=>B|false,A,_=>A
@[simp↓] theorem G0 {A B:Prop}:zN true A B=B:=rfl
@[simp↓] theorem Gd {A B:Prop}:zN false A B=A:=rfl
@[simp↓] theorem UW {d:Option Nat}{xs:List Operand}{un:List Nat}{tg:Option Nat}{x:XK}:bS P Γ ⟨d,.ex x,xs,none,un,tg⟩ K ⟨look vs,ab os⟩=zN (Yg x) (aP d x (xs.map (ev (look vs))) K ⟨look vs,ab os⟩) (vg d x xs K (cw ⟨look vs,ab os⟩ ((xs.map (ev (look vs))).map strip))):=by cases x<;>rfl
@[congr] theorem FG {d:Option Nat}{x:XK}{xs:List Operand}{st st':St} (h:True→st=st'):vg d x xs K st=vg d x xs K st':=by rw[h trivial]
@[simp↓] theorem LH {d:Option Nat}{x:XK}{xs:List Operand}:vg d x xs K ⟨look vs,ab os⟩=aP d x (xs.map (ev (look vs))) K ⟨look vs,ab os⟩:=rfl
@[simp↓] theorem Ng {d:Option Nat}{xs:List Operand}{s:Nat}{w:Bool}{un:List Nat}{tg:Option Nat}{x:XK}:bS P Γ ⟨d,.ex x,xs,some (s,w),un,tg⟩ K ⟨look vs,ab os⟩=ai (bE (look vs s) w) fun c=>if c=true then aP d x (xs.map (ev (look vs))) K ⟨look vs,ab os⟩ else K ((bz.put (.b5 false .ar)).on d ⟨look vs,ab os⟩):=rfl
@[congr] theorem GD {d:Option Nat}{x:XK}{xs xs':List AV}{st:St} (h:True→xs=xs'):aP d x xs K st=aP d x xs' K st:=by rw[h trivial]
@[simp↓] theorem Iz {d:Nat}:aP (some d) .L8 [] K ⟨look vs,ab os⟩=(ab os d=none∧K ⟨put (some d) (.own d) (look vs),bn [(d,.map [])] (ab os)⟩):=rfl
@[simp↓] theorem Il {d:Option Nat}{s t:Nat}{k v:AV}:aP d (.Bt s) [.own t,k,v] K ⟨look vs,ab os⟩=wq d s t (strip k) (strip v) [.own t,k,v] K ⟨look vs,ab os⟩:=by cases hk:strip k<;>simp[aP,qS,wq,hk,strip]
@[simp↓] theorem SE {d:Option Nat}{s t:Nat}{k:PV}{v:AV}{xs:List AV}:wq d s t (.pv k) v xs K ⟨look vs,ab os⟩=(an xs∧ai (uS (ab os t)) fun es=>cX k=s∧iN s es∧dC v=true∧K ⟨put d .ar (look vs),aH t (.map (jZ k v es)) (ab os)⟩):=rfl
@[congr] theorem Hh {d:Option Nat}{s t:Nat}{k k' v v':AV}{xs xs':List AV}{st:St} (h1:True→k=k') (h2:True→v=v') (h3:True→xs=xs'):wq d s t k v xs K st=wq d s t k' v' xs' K st:=by rw[h1 trivial,h2 trivial,h3 trivial]
@[simp↓] theorem O9 {d:Option Nat}{s t:Nat}{z:Value}{ok:Bool}{k:PV}{xs:List AV}:UG d s t z ok (.pv k) xs K ⟨look vs,ab os⟩=(an xs∧ai (uS (ab os t)) fun es=>cX k=s∧iN s es∧K ⟨put d (if ok=true then .aL [(getM k es).getD (ED z),.pv (.bool (getM k es).isSome)] else(getM k es).getD (ED z)) (look vs),ab os⟩):=rfl
@[simp↓] theorem F5 {d:Option Nat}{s:Nat}{ks:List PV}{z:Value}{ok:Bool}{k:AV}:aP d (.Bn s z ok) [.pv (.mp ks),k] K ⟨look vs,ab os⟩=qP d s ks z ok (strip k) [.pv (.mp ks),k] K ⟨look vs,ab os⟩:=by cases hk:strip k<;>simp[aP,qS,qP,hk,strip]
@[simp↓] theorem Mz {d:Option Nat}{s:Nat}{ks:List PV}{z:Value}{ok:Bool}{k:PV}{xs:List AV}:qP d s ks z ok (.pv k) xs K ⟨look vs,ab os⟩=(an xs∧tw z=true∧cX k=s∧(∀x∈ks,cX x=s)∧K ⟨put d (if ok=true then .aL [.agg [],.pv (.bool (ks.any (lJ k)))] else .agg []) (look vs),ab os⟩):=rfl
@[congr] theorem Fm {d:Option Nat}{s:Nat}{ks:List PV}{z:Value}{ok:Bool}{k k':AV}{xs xs':List AV}{st:St} (h1:True→k=k') (h3:True→xs=xs'):qP d s ks z ok k xs K st=qP d s ks z ok k' xs' K st:=by rw[h1 trivial,h3 trivial]
@[simp↓] theorem K9 {d:Option Nat}{x y:AV}:aP d .Rp [x,y] K ⟨look vs,ab os⟩=tX d (strip x) (strip y) [x,y] K ⟨look vs,ab os⟩:=rfl
@[simp↓] theorem TN {d:Option Nat}{t o q:Nat}{e:TypeId}{i:Int}{xs:List AV}:tX d (.aR t e i o) (.own q) xs K ⟨look vs,ab os⟩=(an xs∧ai (cE (ab os t)) fun r=>(r.1=e∧o=0)∧(0≤i∧i<r.2.length∧(rowAt r.2 i).length=1)∧K ⟨put d .ar (look vs),aH t (.rws e ((r.2.map fun x=>AV.pv (x.getD 0 .nil)).set i.toNat (.own q))) (ab os)⟩):=rfl
@[simp↓] theorem GR {d:Option Nat}{x:AV}:aP d .Be [x] K ⟨look vs,ab os⟩=rK d (strip x) [x] K ⟨look vs,ab os⟩:=rfl
@[simp↓] theorem FI {d:Option Nat}{a b c:AV}:aP d .uO [a,b,c] K ⟨look vs,ab os⟩=oP d [a,b,c] [strip a,strip b,strip c] K ⟨look vs,ab os⟩:=rfl
@[congr] theorem GV {d:Option Nat}{xs xs' ys ys':List AV}{st:St} (h1:True→xs=xs') (h2:True→ys=ys'):oP d xs ys K st=oP d xs' ys' K st:=by rw[h1 trivial,h2 trivial]
@[simp↓] theorem Ub {d:Option Nat}{xs:List AV}{a b c:Int}:oP d xs [.pv (.int .u64 a),.pv (.int .u64 b),.pv (.int .u64 c)] K ⟨look vs,ab os⟩=(an xs∧(0≤a∧0≤b∧0≤c∧c≤1)∧K ⟨put d (.aL [.pv (.int .u64 ((a+b+c)%18446744073709551616)),.pv (.int .u64 ((a+b+c)/18446744073709551616))]) (look vs),ab os⟩):=rfl
@[simp↓] theorem H5 {d:Option Nat}{x:AV}:aP d .vl [x] K ⟨look vs,ab os⟩=j8 d (strip x) [x] K ⟨look vs,ab os⟩:=by cases hk:strip x<;>simp[aP,qS,j8,hk];rename_i p;cases p<;>simp
@[simp↓] theorem KB {d:Option Nat}{xs:List AV}:j8 d (.pv .nil) xs K ⟨look vs,ab os⟩=(an xs∧K ⟨put d (.pv (.int .i64 0)) (look vs),ab os⟩):=rfl
@[congr] theorem Fe {d:Option Nat}{x x':AV}{xs xs':List AV}{st:St} (h1:True→x=x') (h2:True→xs=xs'):j8 d x xs K st=j8 d x' xs' K st:=by rw[h1 trivial,h2 trivial]
@[simp↓] theorem II {d:Option Nat}{e:TypeId}{b:Nat}{zs:List Value}{x y:AV}:aP d (.NT e b zs) [x,y] K ⟨look vs,ab os⟩=xK d e b zs [x,y] [strip x,strip y] K ⟨look vs,ab os⟩:=rfl
@[simp↓] theorem Hy {d:Option Nat}{e:TypeId}{xs:List AV}:aP d (.Bj e) xs K ⟨look vs,ab os⟩=vj d e xs (xs.map strip) K ⟨look vs,ab os⟩:=rfl
@[simp↓] theorem Hz {d:Option Nat}{e:TypeId}{sz:Nat}{xs:List AV}:aP d (.gX e sz) xs K ⟨look vs,ab os⟩=nD d e sz xs (xs.map strip) K ⟨look vs,ab os⟩:=rfl
@[simp↓] theorem Mh {d:Nat}{e:TypeId}{sz:Nat}{xs ys:List AV}:nD (some d) e sz xs ys K ⟨look vs,ab os⟩=(an xs∧ai (rowsOf ys) fun rows=>(∀r∈rows,r.length=sz)∧ab os d=none∧K ⟨put (some d) (.own d) (look vs),bn [(d,.arr e rows)] (ab os)⟩):=nr rfl
@[simp↓] theorem Ib {d:Option Nat}{e:TypeId}{sz b:Nat}{zs:List Value}{x y:AV}:aP d (.wR e sz b zs) [x,y] K ⟨look vs,ab os⟩=kH d e b zs [x,y] [strip x,strip y] K ⟨look vs,ab os⟩:=rfl
@[congr] theorem F8 {d:Option Nat}{e:TypeId}{b:Nat}{zs:List Value}{xs xs' ys ys':List AV}{st:St} (h1:True→xs=xs') (h2:True→ys=ys'):kH d e b zs xs ys K st=kH d e b zs xs' ys' K st:=by rw[h1 trivial,h2 trivial]
@[simp↓] theorem Og {d:Nat}{e:TypeId}{b:Nat}{zs:List Value}{xs:List AV}{n:Int}:kH (some d) e b zs xs [.pv .nil,.pv (.int .i64 n)] K ⟨look vs,ab os⟩=(an xs∧(0≤n∧n≤140737488355328∧n.toNat*b≤140737488355328)∧ab os d=none∧K ⟨put (some d) (.own d) (look vs),bn [(d,.arr e (List.replicate n.toNat (zs.map pT)))] (ab os)⟩):=rfl
@[simp↓] theorem Fw {d:Option Nat}{ne:Bool}{x:AV}:aP d (.pj ne) [x] K ⟨look vs,ab os⟩=(an [x]∧ai (ez (ab os) (strip x)) fun rows=>D6 d ne rows K ⟨look vs,ab os⟩):=rfl
theorem sO {d:Option Nat}{ne:Bool}{rows:List (List PV)}:D6 d ne rows K ⟨look vs,ab os⟩=∀b:Bool,(rows≠[]→b=false)→K ⟨put d (.pv (.bool (if ne=true then !b else b))) (look vs),ab os⟩:=rfl
@[simp↓] theorem KI {d:Option Nat}{ne:Bool}{r:List PV}{rows:List (List PV)}:D6 d ne (r::rows) K ⟨look vs,ab os⟩=K ⟨put d (.pv (.bool ne)) (look vs),ab os⟩:=by
 rw[sO];apply propext;constructor;·intro h;have:=h false (fun _=>rfl);cases ne<;>exact this
 ·intro h b hb;have:=hb (by simp);subst this;cases ne<;>exact h
@[simp] theorem LU (es:List (PV×AV)):uS (some (.map es))=some es:=nr rfl
@[simp] theorem V6 (k:IntKind) (n:Int):cX (.int k n)=2+lC k:=nr rfl
@[simp] theorem V0 (l:List UInt8):cX (.str l)=1:=nr rfl
@[simp] theorem R0 (b:Bool):cX (.bool b)=0:=nr rfl
@[simp] theorem SR:lC .u64=7:=nr rfl
@[simp] theorem VE:lC .u8=4:=nr rfl
@[simp↓] theorem NR {d:Option Nat}{xs:List Operand}{un:List Nat}{tg:Option Nat}{e:TypeId}{s:Nat}{zs:List Value}:bS P Γ ⟨d,.AM e s zs,xs,none,un,tg⟩ K ⟨look vs,ab os⟩=mW d e s zs (xs.map (ev (look vs))) K ⟨look vs,ab os⟩:=rfl
@[simp↓] theorem Iy {d:Option Nat}{e:TypeId}{s:Nat}{zs:List Value}{xs:List AV}:mW d e s zs xs K ⟨look vs,ab os⟩=(an xs∧ai ((xs.map strip).head?) fun X=>ai (za (ab os) e zs X) fun r=>K ((bz.uI r.1 r.2).on d ⟨look vs,ab os⟩)):=rfl
@[simp↓] theorem PF {f g:FuncId}{d:Option Nat}{xs:List Operand}{un:List Nat}{tg:Option Nat}:ki P Γ ⟨d,.call g,xs,none,un,tg⟩ f K ⟨look vs,ab os⟩=ai (eL (ab os) ((xs.map (ev (look vs))).map strip)) fun ys=>ai (gt Γ f ys) fun x=>if(TV x.2&&!dU ((xs.map (ev (look vs))).map strip))=true then wK P Γ d f xs K (cw ⟨look vs,ab os⟩ ((xs.map (ev (look vs))).map strip)) else cI P Γ ⟨d,.call g,xs,none,un,tg⟩ K ⟨look vs,ab os⟩:=rfl
@[congr] theorem Ik {d:Option Nat}{f:FuncId}{xs:List Operand}{st st':St} (h:True→st=st'):wK P Γ d f xs K st=wK P Γ d f xs K st':=by rw[h trivial]
@[simp↓] theorem Un {d:Option Nat}{f:FuncId}{xs:List Operand}:wK P Γ d f xs K ⟨look vs,ab os⟩=cr P Γ d f (xs.map (ev (look vs))) (ab os) fun e=>K (e.on d ⟨look vs,ab os⟩):=rfl
@[simp↓] theorem Ns {d:Option Nat}{xs:List Operand}{g:Option (Nat×Bool)}{un:List Nat}{tg:Option Nat}{b:Bool}:bS P Γ ⟨d,.BL b,xs,g,un,tg⟩ K ⟨look vs,ab os⟩=b7 P Γ ⟨d,.BL b,xs,g,un,tg⟩ K ⟨look vs,ab os⟩:=rfl
@[simp↓] theorem OY {d:Option Nat}{xs:List Operand}{g:Option (Nat×Bool)}{un:List Nat}{tg:Option Nat}{ne:Bool}{ks:List Nat}:bS P Γ ⟨d,.eqs ne ks,xs,g,un,tg⟩ K ⟨look vs,ab os⟩=b7 P Γ ⟨d,.eqs ne ks,xs,g,un,tg⟩ K ⟨look vs,ab os⟩:=rfl
@[simp↓] theorem Hn {d:Option Nat}{xs:List Operand}{g:Option (Nat×Bool)}{un:List Nat}{tg:Option Nat}{n:Option Nat}:bS P Γ ⟨d,.store n,xs,g,un,tg⟩ K ⟨look vs,ab os⟩=b7 P Γ ⟨d,.store n,xs,g,un,tg⟩ K ⟨look vs,ab os⟩:=rfl
@[simp↓] theorem M9 {d:Option Nat}{xs:List Operand}{g:Option (Nat×Bool)}{un:List Nat}{e:TypeId}{s b:Nat}:bS P Γ ⟨d,.app e s b,xs,g,un,none⟩ K ⟨look vs,ab os⟩=b7 P Γ ⟨d,.app e s b,xs,g,un,none⟩ K ⟨look vs,ab os⟩:=rfl
@[simp↓] theorem NY {d:Option Nat}{xs:List Operand}{un:List Nat}{e:TypeId}{s b:Nat}:bS P Γ ⟨d,.app e s b,xs,none,un,some 999998⟩ K ⟨look vs,ab os⟩=if mO ((xs.map (ev (look vs))).map strip)=true then vr d e s b (xs.map (ev (look vs))) K ⟨look vs,ab os⟩ else cI P Γ ⟨d,.app e s b,xs,none,un,some 999998⟩ K ⟨look vs,ab os⟩:=rfl
@[simp↓] theorem Lo {d:Option Nat}{e:TypeId}{sz b:Nat}{xs:List AV}:vr d e sz b xs K ⟨look vs,ab os⟩=(an xs∧ai (CJ (ab os) e (xs.map strip)) fun r=>((r.2.1.length+r.2.2.length)*b≤140737488355328∧r.2.1.length+r.2.2.length≤maxLen∧(∀q∈r.2.2,q.length=sz))∧r.1%1000≠999∧K ⟨put d (.pv (.ro (r.2.1++r.2.2))) (zC r.1 r.2.1 (look vs)),eZ r.1 (ab os)⟩):=rfl
@[simp↓] theorem Ki {d:Option Nat}{xs:List Operand}{g:Option (Nat×Bool)}{un:List Nat}{tg:Option Nat}:bS P Γ ⟨d,.lE,xs,g,un,tg⟩ K ⟨look vs,ab os⟩=b7 P Γ ⟨d,.lE,xs,g,un,tg⟩ K ⟨look vs,ab os⟩:=rfl
@[simp↓] theorem Lb {d:Option Nat}{xs:List Operand}{g:Option (Nat×Bool)}{un:List Nat}{tg:Option Nat}{e:TypeId}:bS P Γ ⟨d,.lF e,xs,g,un,tg⟩ K ⟨look vs,ab os⟩=b7 P Γ ⟨d,.lF e,xs,g,un,tg⟩ K ⟨look vs,ab os⟩:=rfl
@[simp↓] theorem cF {a b:AC}:gq P Γ (.seq a b) K J ⟨look vs,ab os⟩=gq P Γ a (fun st'=>gq P Γ b K J st') J ⟨look vs,ab os⟩:=rfl
@[simp↓] theorem wx {x:Operand}{a b:AC}:gq P Γ (.cond x a b) K J ⟨look vs,ab os⟩=ai (hZ (ev (look vs) x)) fun c=>(c=true→gq P Γ a K J ⟨look vs,ab os⟩)∧(c=false→gq P Γ b K J ⟨look vs,ab os⟩):=rfl
@[simp↓] theorem bq {id:Nat}{a:AC}:gq P Γ (.block id a) K J ⟨look vs,ab os⟩=gq P Γ a K (mL id K J) ⟨look vs,ab os⟩:=rfl
@[simp↓] theorem IX {id id':Nat}:mL id K J (.exit id') ⟨look vs,ab os⟩=if id'=id then K ⟨look vs,ab os⟩ else J (.exit id') ⟨look vs,ab os⟩:=rfl
@[simp↓] theorem OU {id:Nat}:mL id K J .ret ⟨look vs,ab os⟩=J .ret ⟨look vs,ab os⟩:=rfl
@[simp↓] theorem DR {id:Nat}:gq P Γ (.exit id) K J ⟨look vs,ab os⟩=J (.exit id) ⟨look vs,ab os⟩:=rfl
@[simp↓] theorem Xs:gq P Γ .ret K J ⟨look vs,ab os⟩=J .ret ⟨look vs,ab os⟩:=rfl
@[simp↓] theorem MU:steps P Γ [] K ⟨look vs,ab os⟩=K ⟨look vs,ab os⟩:=rfl
@[simp↓] theorem Kf {i:AI}{is:List AI}:steps P Γ (i::is) K ⟨look vs,ab os⟩=cy P Γ i (fun st'=>steps P Γ is K st') ⟨look vs,ab os⟩:=rfl
@[simp↓] theorem Jo {d:Option Nat}{k:AK}{xs:List Operand}{g:Option (Nat×Bool)}{un:List Nat}:cy P Γ ⟨d,k,xs,g,un,none⟩ K ⟨look vs,ab os⟩=cI P Γ ⟨d,k,xs,g,un,none⟩ K ⟨look vs,ab os⟩:=by cases k<;>rfl
@[simp↓] theorem G3 {d:Option Nat}{n:Option Nat}{xs:List Operand}{g:Option (Nat×Bool)}{un:List Nat}{tg:Option Nat}:cy P Γ ⟨d,.store n,xs,g,un,tg⟩ K ⟨look vs,ab os⟩=cI P Γ ⟨d,.store n,xs,g,un,tg⟩ K ⟨look vs,ab os⟩:=rfl
@[simp↓] theorem JN {d:Option Nat}{f:FuncId}{xs:List Operand}{un:List Nat}:cy P Γ ⟨d,.call f,xs,none,un,some 999999⟩ K ⟨look vs,ab os⟩=gi P Γ ⟨d,.call f,xs,none,un,some 999999⟩ f (di Γ f) K ⟨look vs,ab os⟩:=rfl
@[simp↓] theorem Jg {d:Option Nat}{xs:List Operand}{un:List Nat}:cy P Γ ⟨d,.gp,xs,none,un,some 999999⟩ K ⟨look vs,ab os⟩=eY P Γ d (xs.map (ev (look vs))) none K ⟨look vs,ab os⟩:=rfl
@[congr] theorem H3 {i:AI}{f:FuncId}{o o':Option (Nat×Nat)}{st:St} (h:True→o=o'):gi P Γ i f o K st=gi P Γ i f o' K st:=by rw[h trivial]
@[simp↓] theorem IT {f g:FuncId}{d:Option Nat}{xs:List Operand}{un:List Nat}{tg:Option Nat}:gi P Γ ⟨d,.call g,xs,none,un,tg⟩ f none K ⟨look vs,ab os⟩=cI P Γ ⟨d,.call g,xs,none,[],none⟩ K ⟨look vs,ab os⟩:=rfl
@[simp↓] theorem IV {f g:FuncId}{p k:Nat}{d:Option Nat}{xs:List Operand}{un:List Nat}{tg:Option Nat}:gi P Γ ⟨d,.call g,xs,none,un,tg⟩ f (some (p,k)) K ⟨look vs,ab os⟩=if k=998 then un=[]∧jL P Γ d f (xs.map (ev (look vs))) p k K ⟨look vs,ab os⟩ else if k=996 then lP (A7 (gO Γ f) (ab os) ((xs.map (ev (look vs))).map strip)) ⟨look vs,ab os⟩ un∧stepG Γ d f (xs.map (ev (look vs))) (gO Γ f) K ⟨look vs,ab os⟩ else False:=rfl
@[simp↓] theorem N1 {T:List Nat}{st:St}:lP T st []=True:=rfl
@[simp↓] theorem JZ {T:List Nat}{s:Nat}{l:List Nat}:lP T ⟨look vs,ab os⟩ (s::l)=(ai (Zb (ab os) (look vs s)) (fun t=>T.contains t=false)∧lP T ⟨look vs,ab os⟩ l):=rfl
@[simp↓] theorem Us {d:Option Nat}{k:AK}{xs:List Operand}{g:Option (Nat×Bool)}{un:List Nat}{tg:Option Nat}:cI P Γ ⟨d,k,xs,g,un,tg⟩ K ⟨look vs,ab os⟩=((un=[]∨jh un (ab os) ((xs.map (ev (look vs))).map strip))∧dn P Γ ⟨d,k,xs,g,un,tg⟩ (look vs) (ab os) fun e=>zK un tg e∧K (e.on d ⟨look vs,ab os⟩)):=rfl
@[simp↓] theorem Nb {d:Option Nat}{k:AK}{xs:List Operand}{un:List Nat}{tg:Option Nat}{aa:Nat→Option AO}{C:bz→Prop}{vars:Nat→AV}:dn P Γ ⟨d,k,xs,none,un,tg⟩ vars aa C=aQ P Γ d k (xs.map (ev vars)) aa C:=rfl
@[simp↓] theorem Oq {d:Option Nat}{k:AK}{xs:List Operand}{s:Nat}{w:Bool}{un:List Nat}{tg:Option Nat}{aa:Nat→Option AO}{C:bz→Prop}{vars:Nat→AV}:dn P Γ ⟨d,k,xs,some (s,w),un,tg⟩ vars aa C=ai (bE (vars s) w) fun c=>cb P Γ c d k (xs.map (ev vars)) aa C:=rfl
theorem BQ {e:bz}:jO [] e=True:=by cases e<;>simp[jO]
@[simp↓] theorem Oc {un:List Nat}{v:AV}:jO un (.put v)=True:=rfl
@[simp↓] theorem LZ {un:List Nat}{v:AV}{os:List (Nat×AO)}:jO un (.new v os)=True:=rfl
@[simp↓] theorem Ob {un:List Nat}{t:Nat}{o:AO}:jO un (.uI t o)=True:=rfl
@[simp↓] theorem Od {un:List Nat}{t:Nat}{o:AO}:jO un (.app t o)=(un.contains (t%1000+1000)=false):=rfl
@[simp↓1100] theorem Xt {tg:Option Nat}{e:bz}:zK [] tg e=qk tg e:=by unfold zK;rw[BQ,and_true]
@[simp↓] theorem Vd {un:List Nat}{e:bz}:zK un none e=jO un e:=by unfold zK qk;rw[true_and]
@[simp↓] theorem Pv {un:List Nat}{s:Nat}{e:bz}:zK un (some s) e=(qk (some s) e∧jO un e):=rfl
@[simp↓] theorem OZ {e:bz}:qk none e=True:=rfl
@[simp↓] theorem SS {s t:Nat}{o:AO}:qk (some s) (.uI t o)=(t=s):=rfl
@[simp↓] theorem X0 {d:Option Nat}{v:AV}:(bz.put v).on d ⟨look vs,ab os⟩=⟨put d v (look vs),ab os⟩:=rfl
@[simp↓] theorem iM {d:Option Nat}{v:AV}{l:List (Nat×AO)}:(bz.new v l).on d ⟨look vs,ab os⟩=⟨put d v (look vs),bn l (ab os)⟩:=rfl
@[simp↓] theorem Yp {d:Option Nat}{t:Nat}{o:AO}:(bz.uI t o).on d ⟨look vs,ab os⟩=⟨put d .ar (look vs),aH t o (ab os)⟩:=rfl
@[simp↓] theorem nu {d:Option Nat}{t:Nat}{o:AO}:(bz.app t o).on d ⟨look vs,ab os⟩=⟨put d (.own t) (cj t (look vs)),aH t o (db t (ab os))⟩:=rfl
end
theorem De (d:Nat) (v:AV) (l:List (Nat×AV)):put (some d) v (look l)=look ((d,v)::l):=by funext s;simp[put,look]
theorem DS (v:AV) (f:Nat→AV):put none v f=f:=rfl
theorem Cn (t:Nat) (o:AO) (l:List (Nat×AO)):aH t o (ab l)=ab ((t,o)::l):=by funext s;simp[aH,ab]
theorem zi (b8:List Nat) (l:List (Nat×AV)):iv b8 (look l)=look (b8.map fun s=>(s,look l s)):=by funext s;unfold iv;induction b8 with|nil=>simp[look]|cons k ks ih=>
 simp only[List.map_cons,look];by_cases h:s=k;·subst h;simp
 ·simp only[List.contains_cons,h,if_false];have:(s==k)=false:=by simpa using h
  rw[this];simpa using ih
theorem uf (t:Nat) (l:List (Nat×AV)):cj t (look l)=look (l.map fun x=>(x.1,kill t x.2)):=by funext s;unfold cj;induction l with|nil=>rfl|cons x l ih=>obtain⟨k,v⟩:=x;simp only[List.map_cons,look];split<;>simp_all
theorem zh (t:Nat) (l:List (Nat×AO)):db t (ab l)=ab (l.map fun x=>(x.1,dp t x.2)):=by funext s;unfold db;induction l with|nil=>rfl|cons x l ih=>obtain⟨k,v⟩:=x;simp only[List.map_cons,ab];split<;>simp_all
theorem BB (m l:List (Nat×AO)):bn m (ab l)=ab (m++l):=by funext s;unfold bn;induction m with|nil=>simp[ab]|cons x m ih=>
 obtain⟨k,v⟩:=x;simp only[List.cons_append,ab];by_cases h:s=k;·simp[h]
 ·simp only[if_neg h];exact ih
theorem rR (vs:List (Nat×AV)) (os:List (Nat×AO)):(Fr.mk vs os).st=⟨look vs,ab os⟩:=rfl
def FL (t:Nat):List (Nat×AO)→List (Nat×AO)|[]=>[]|x::l=>if x.1=t then FL t l else(x.1,dp t x.2)::FL t l
@[simp] theorem Xd (t:Nat):FL t []=[]:=nr rfl
@[simp] theorem CR (t s:Nat) (o:AO) (l:List (Nat×AO)):FL t ((s,o)::l)=if s=t then FL t l else(s,dp t o)::FL t l:=nr rfl
theorem su (t:Nat) (l:List (Nat×AO)):eZ t (ab l)=ab (FL t l):=by funext s;unfold eZ;induction l with|nil=>simp[ab]|cons x l ih=>
 obtain⟨k,v⟩:=x;simp only[CR,ab];by_cases hs:s=t
 ·subst hs;simp only[if_true]at ih ⊢;by_cases hk:k=s;·simp[hk];exact ih
  ·have hk':¬s=k:=fun e=>hk e.symm;simp[hk,ab,hk'];exact ih
 ·simp only[hs,if_false]at ih ⊢;by_cases hk:k=t;·have:¬s=k:=fun e=>hs (e.trans hk);rw[if_pos hk,if_neg this];exact ih
  ·simp only[hk,if_false,ab];by_cases hsk:s=k;·simp[hsk]
   ·simp only[hsk,if_false];exact ih
def Gf (t:Nat) (e:TypeId) (rows:List (List PV)):List (Nat×AO)→List (Nat×AO)|[]=>[]|x::l=>if x.1=t then Gf t e rows l else(x.1,Es t e rows x.2)::Gf t e rows l
@[simp] theorem Wm (t:Nat) (e:TypeId) (rows:List (List PV)):Gf t e rows []=[]:=nr rfl
@[simp] theorem D4 (t s:Nat) (e:TypeId) (rows:List (List PV)) (o:AO) (l:List (Nat×AO)):Gf t e rows ((s,o)::l)=if s=t then Gf t e rows l else(s,Es t e rows o)::Gf t e rows l:=nr rfl
theorem D9 (t:Nat) (e0:TypeId) (rows:List (List PV)) (l:List (Nat×AV)):Xy t e0 rows (look l)=look (l.map fun x=>(x.1,Bi t e0 rows x.2)):=by funext s;unfold Xy;induction l with|nil=>rfl|cons x l ih=>obtain⟨k,v⟩:=x;simp only[List.map_cons,look];split<;>simp_all
theorem B5 (t:Nat) (e:TypeId) (rows:List (List PV)) (l:List (Nat×AO)):yV t e rows (ab l)=ab (Gf t e rows l):=by funext s;unfold yV;induction l with|nil=>simp[ab]|cons x l ih=>
 obtain⟨k,v⟩:=x;simp only[D4,ab];by_cases hs:s=t
 ·subst hs;simp only[if_true]at ih ⊢;by_cases hk:k=s;·simp[hk];exact ih
  ·have hk':¬s=k:=fun e=>hk e.symm;simp[hk,ab,hk'];exact ih
 ·simp only[hs,if_false]at ih ⊢;by_cases hk:k=t;·have:¬s=k:=fun e=>hs (e.trans hk);rw[if_pos hk,if_neg this];exact ih
  ·simp only[hk,if_false,ab];by_cases hsk:s=k;·simp[hsk]
   ·simp only[hsk,if_false];exact ih
@[simp] theorem zp (vs:List (Nat×AV)) (os:List (Nat×AO)) (t:Nat):share1 ⟨look vs,ab os⟩ (.own t)=match cE (ab os t) with|some r=>⟨look (vs.map fun x=>(x.1,Bi t r.1 r.2 x.2)),ab (Gf t r.1 r.2 os)⟩|none=>⟨look vs,ab os⟩:=by simp only[share1,gV];split<;>simp[*,D9,B5]
@[simp] theorem UE (vs:List (Nat×AV)) (os:List (Nat×AO)) (t:Nat):qM t ⟨look vs,ab os⟩=match cE (ab os t) with|some _=>⟨look (vs.map fun x=>(x.1,kill t x.2)),ab (FL t os)⟩|none=>⟨look vs,ab os⟩:=by simp only[qM];split<;>simp[*,uf,su]
@[simp] theorem Mu (st:St) (p:PV):share1 st (.pv p)=st:=nr rfl
@[simp] theorem Ka (st:St) (cs:List AV):share1 st (.agg cs)=fu st cs:=nr rfl
@[simp] theorem Hi (st:St):fu st []=st:=nr rfl
@[simp] theorem EX (st:St) (c:AV) (cs:List AV):fu st (c::cs)=fu (gV st c) cs:=nr rfl
@[simp] theorem JH (vs:List (Nat×AV)) (os:List (Nat×AO)) (t:Nat):gV ⟨look vs,ab os⟩ (.own t)=match cE (ab os t) with|some r=>⟨look (vs.map fun x=>(x.1,Bi t r.1 r.2 x.2)),ab (Gf t r.1 r.2 os)⟩|none=>⟨look vs,ab os⟩:=zp vs os t
@[simp] theorem Ny (st:St) (p:PV):gV st (.pv p)=st:=nr rfl
@[simp] theorem J3 (st:St) (t o:Nat):share1 st (.ptr t o)=st:=nr rfl
@[simp] theorem Je (st:St) (f:FuncId) (cs:List AV):share1 st (.bA f cs)=st:=nr rfl
@[simp] theorem Gr (st:St):cw st []=st:=nr rfl
@[simp] theorem Ey (st:St) (v:AV) (l:List AV):cw st (v::l)=cw (share1 st v) l:=nr rfl
@[simp] theorem WU (e0:TypeId) (t s:Nat) (rows:List (List PV)):Bi t e0 rows (.own s)=if s=t then .pv (.ro rows) else .own s:=nr rfl
@[simp] theorem XE (e0:TypeId) (t s:Nat) (rows:List (List PV)):Ou t e0 rows (.own s)=if s=t then .pv (.ro rows) else .own s:=nr rfl
@[simp] theorem Yq (e0:TypeId) (t:Nat) (rows:List (List PV)) (p:PV):Bi t e0 rows (.pv p)=.pv p:=nr rfl
@[simp] theorem VI (e0:TypeId) (t s o:Nat) (rows:List (List PV)):Bi t e0 rows (.ptr s o)=.ptr s o:=nr rfl
@[simp] theorem Wz (e0:TypeId) (t:Nat) (cs:List AV) (rows:List (List PV)):Bi t e0 rows (.agg cs)=.agg (pN t e0 rows cs):=nr rfl
@[simp] theorem Xi (e0:TypeId) (t:Nat) (g:Bool) (v:AV) (rows:List (List PV)):Bi t e0 rows (.b5 g v)=kill t (.b5 g v):=nr rfl
@[simp] theorem VK (e0:TypeId) (t:Nat) (f:FuncId) (cs:List AV) (rows:List (List PV)):Bi t e0 rows (.bA f cs)=kill t (.bA f cs):=nr rfl
@[simp] theorem O7 (e0:TypeId) (t:Nat) (rows:List (List PV)):Bi t e0 rows .ar=.ar:=nr rfl
@[simp] theorem Sl (t:Nat) (e0:TypeId) (rows:List (List PV)):pN t e0 rows []=[]:=nr rfl
@[simp] theorem MX (t:Nat) (e0:TypeId) (rows:List (List PV)) (c:AV) (cs:List AV):pN t e0 rows (c::cs)=Ou t e0 rows c::pN t e0 rows cs:=nr rfl
@[simp] theorem YF (t:Nat) (e0:TypeId) (rows:List (List PV)) (p:PV):Ou t e0 rows (.pv p)=.pv p:=nr rfl
@[simp] theorem Wn (t:Nat) (e0:TypeId) (rows:List (List PV)) (cs:List AV):Es t e0 rows (.box cs)=.box (pN t e0 rows cs):=nr rfl
@[simp] theorem W8 (t:Nat) (e0:TypeId) (rows:List (List PV)) (e:TypeId) (rs:List (List PV)):Es t e0 rows (.arr e rs)=.arr e rs:=nr rfl
@[simp] theorem VG (t:Nat) (e0:TypeId) (rows:List (List PV)) (es):Es t e0 rows (.map es)=.map es:=nr rfl
@[simp] theorem Vz (t:Nat) (e0:TypeId) (rows:List (List PV)) (es):Es t e0 rows (.gr es)=.gr es:=nr rfl
@[simp] theorem Y0 (p:PV):Uz (.pv p)=WO (.pv p):=nr rfl
@[simp] theorem Yn (e:TypeId) (rows:List (List PV)):Uz (.fr e rows)=true:=nr rfl
@[simp] theorem SP (b:Bool):WO (.pv (.bool b))=false:=nr rfl
@[simp] theorem VP (vs:List AV):TV (.aL vs)=Cb vs:=nr rfl
@[simp] theorem YD (p:PV):TV (.pv p)=Fs (.pv p):=nr rfl
@[simp] theorem Y3 (e:TypeId) (rows:List (List PV)):TV (.fr e rows)=false:=nr rfl
@[simp] theorem Pj:Cb []=false:=nr rfl
@[simp] theorem M4 (c:AV) (cs:List AV):Cb (c::cs)=(ON c||Cb cs):=nr rfl
@[simp] theorem TQ:Bx []=false:=nr rfl
@[simp] theorem Ot (c:AV) (cs:List AV):Bx (c::cs)=(Fs c||Bx cs):=nr rfl
@[simp] theorem Wl (cs:List AV):ON (.agg cs)=Bx cs:=nr rfl
@[simp] theorem X7 (p:PV):ON (.pv p)=Fs (.pv p):=nr rfl
@[simp] theorem YQ (e:TypeId) (rows:List (List PV)):ON (.fr e rows)=false:=nr rfl
@[simp] theorem Vv (k:IntKind) (n:Int):Fs (.pv (.int k n))=false:=nr rfl
@[simp] theorem Sj (b:Bool):Fs (.pv (.bool b))=false:=nr rfl
@[simp] theorem WG (l:List UInt8):Fs (.pv (.str l))=false:=nr rfl
@[simp] theorem Yz (e:TypeId) (rows:List (List PV)):Fs (.fr e rows)=false:=nr rfl
@[simp] theorem Lr (aa:Nat→Option AO) (k t:Nat):fW aa k (.own t)=(cE (aa t)).map fun r=>(t,r.1,r.2):=nr rfl
@[simp] theorem Wa (e:TypeId) (rows:List (List PV)):tW 998 e rows=.fr e rows:=nr rfl
@[simp] theorem Ws (e:TypeId) (rows:List (List PV)):tW 999 e rows=.aL [.fr e rows]:=nr rfl
@[simp] theorem VV (aa:Nat→Option AO) (m v:AV) (vs:List AV):oy aa m 0 (v::vs)=(eL aa vs).map (m::·):=nr rfl
@[simp] theorem Ra (v:AV) (vs:List AV):iI 0 (v::vs)=dU vs:=nr rfl
@[simp] theorem Qa (n:Nat) (r:AV) (e:TypeId) (rows:List (List PV)):bW (.bA n [r,.fr e rows])=r:=nr rfl
@[simp] theorem V8 (e:TypeId) (rows:List (List PV)):bW (.fr e rows)=.fr e rows:=nr rfl
@[simp] theorem Rb (n:Nat) (r:AV) (e:TypeId) (rows:List (List PV)):dI (.bA n [r,.fr e rows])=[(999,.arr e rows)]:=nr rfl
@[simp] theorem WI (e:TypeId) (rows:List (List PV)):dI (.fr e rows)=[]:=nr rfl
@[simp] theorem NZ:mM []=True:=nr rfl
@[simp] theorem MA (t n:Nat) (r:AV) (e:TypeId) (rows:List (List PV)) (vars:Nat→AV):gh t (.bA n [r,.fr e rows]) vars=vars:=nr rfl
@[simp] theorem Rl (t:Nat) (e:TypeId) (rows:List (List PV)) (vars:Nat→AV):gh t (.fr e rows) vars=cj t vars:=nr rfl
@[simp] theorem Mm (t n:Nat) (r:AV) (e:TypeId) (rows:List (List PV)) (aa:Nat→Option AO):cx t (.bA n [r,.fr e rows]) aa=aH t (.arr e rows) aa:=nr rfl
@[simp] theorem Qk (t:Nat) (e:TypeId) (rows:List (List PV)) (aa:Nat→Option AO):cx t (.fr e rows) aa=eZ t aa:=nr rfl
@[simp] theorem XG (t:Nat) (v:AV) (vs:List AV):kQ t 0 (v::vs)=kQ.mu t vs:=nr rfl
@[simp] theorem I9 (t:Nat):kQ.mu t []=True:=nr rfl
@[simp] theorem HO (t:Nat) (v:AV) (vs:List AV):kQ.mu t (v::vs)=(vq t v∧kQ.mu t vs):=nr rfl
@[simp] theorem U7 (t:Nat) (f:FuncId) (cs:List AV):vq t (.bA f cs)=sD t cs:=nr rfl
@[simp] theorem Uk (t s o:Nat):oc t (.ptr s o)=(s≠t):=nr rfl
@[simp] theorem Oy (t:Nat):sD t []=True:=nr rfl
@[simp] theorem Ji (t:Nat) (c:AV) (cs:List AV):sD t (c::cs)=(oc t c∧sD t cs):=nr rfl
@[simp] theorem S9 (aa:Nat→Option AO) (e e1:TypeId) (zs:List Value) (t lo hi:Nat):za aa e zs (.sub t e1 lo hi)=(cE (aa t)).bind fun r=>if r.1=e∧e1=e then some (t,.arr e (r.2.take lo++List.replicate (hi-lo) (zs.map pT)++r.2.drop hi)) else none:=nr rfl
attribute[simp] su De DS Cn zi uf zh BB rR aK
@[simp] theorem look_nil (s:Nat):look [] s=.ar:=nr rfl
@[simp] theorem Nt (t:Nat) (v:AV) (l:List (Nat×AV)) (s:Nat):look ((t,v)::l) s=if s=t then v else look l s:=nr rfl
@[simp] theorem N7 (s:Nat):ab [] s=none:=nr rfl
@[simp] theorem yZ (t:Nat) (v:AO) (l:List (Nat×AO)) (s:Nat):ab ((t,v)::l) s=if s=t then some v else ab l s:=nr rfl
section
variable(vars:Nat→AV) (t:Nat)
@[simp] theorem XQ:ev vars (.tmp t)=vars t:=nr rfl
@[simp] theorem Zd (k:IntKind) (n:Int):ev vars (.const (.int k n))=.pv (.int k n):=nr rfl
@[simp] theorem Xc (b:Bool):ev vars (.const (.bool b))=.pv (.bool b):=nr rfl
@[simp] theorem Ze (s:ByteArray):ev vars (.const (.string s))=.pv (.str s.data.toList):=nr rfl
@[simp] theorem Yl:ev vars (.const (.slice none 0 0))=.pv .nil:=nr rfl
@[simp] theorem XH (f:FuncId):ev vars (.func f)=.bA f []:=nr rfl
@[simp] theorem Yy (k:IntKind) (n:Int):cv (.int k n)=.pv (.int k n):=nr rfl
@[simp] theorem Vq (b:Bool):cv (.bool b)=.pv (.bool b):=nr rfl
@[simp] theorem YR (s:ByteArray):cv (.string s)=.pv (.str s.data.toList):=nr rfl
@[simp] theorem Y9:cv (.slice none 0 0)=.pv .nil:=nr rfl
end
section
@[simp] theorem Xj (p:PV):asks (.pv p)=True:=nr rfl
@[simp] theorem Tv (t:Nat):asks (.own t)=True:=nr rfl
@[simp] theorem UA (t o:Nat):asks (.ptr t o)=True:=nr rfl
@[simp] theorem ML (t:Nat) (e:TypeId) (i:Int) (o:Nat):asks (.aR t e i o)=True:=nr rfl
@[simp] theorem O4 (t:Nat) (e:TypeId) (i o:Nat):asks (.sub t e i o)=True:=nr rfl
@[simp] theorem VH (cs:List PV):asks (.rp cs)=True:=nr rfl
@[simp] theorem UB (cs:List AV):asks (.agg cs)=True:=nr rfl
@[simp] theorem SQ (cs:List AV):asks (.aL cs)=True:=nr rfl
@[simp] theorem RY (f:FuncId) (cs:List AV):asks (.bA f cs)=True:=nr rfl
@[simp] theorem N8:asks .ar=True:=nr rfl
@[simp] theorem Pz (g:Bool) (v:AV):asks (.b5 g v)=(g=true∧asks v):=nr rfl
@[simp] theorem Mf:an []=True:=nr rfl
@[simp] theorem JO (v:AV) (l:List AV):an (v::l)=(asks v∧an l):=nr rfl
@[simp] theorem Pw (p:PV):strip (.pv p)=.pv p:=nr rfl
@[simp] theorem LX (g:Bool) (v:AV):strip (.b5 g v)=strip v:=nr rfl
@[simp] theorem OE (t:Nat):strip (.own t)=(.own t):=nr rfl
@[simp] theorem MC (t o:Nat):strip (.ptr t o)=(.ptr t o):=nr rfl
@[simp] theorem K1 (t:Nat) (e:TypeId) (i:Int) (o:Nat):strip (.aR t e i o)=(.aR t e i o):=nr rfl
@[simp] theorem Mj (t:Nat) (e:TypeId) (i o:Nat):strip (.sub t e i o)=(.sub t e i o):=nr rfl
@[simp] theorem Tb (cs:List PV):strip (.rp cs)=(.rp cs):=nr rfl
@[simp] theorem OR (cs:List AV):strip (.agg cs)=(.agg cs):=nr rfl
@[simp] theorem L6 (cs:List AV):strip (.aL cs)=(.aL cs):=nr rfl
@[simp] theorem LM (f:FuncId) (cs:List AV):strip (.bA f cs)=(.bA f cs):=nr rfl
@[simp] theorem JG:strip .ar=.ar:=nr rfl
@[simp] theorem TR (b:Bool):bE (.pv (.bool b)) true=some b:=nr rfl
@[simp] theorem RC (b:Bool):bE (.pv (.bool b)) false=some (!b):=nr rfl
@[simp] theorem PM (c:Bool) (v:AV) (w:Bool):bE (.b5 c v) w=qo c (bE v w):=nr rfl
@[simp] theorem Ww (o:Option Bool):qo true o=o:=nr rfl
@[simp] theorem VX (o:Option Bool):qo false o=some false:=nr rfl
@[simp] theorem Xk (c b:Bool):qo c (some b)=some (c&&b):=by cases c<;>rfl
@[simp] theorem T3:fb []=false:=nr rfl
@[simp] theorem Nr (l:List AV):fb (.ar::l)=true:=nr rfl
@[simp] theorem Q5 (v:Value) (l:List AV):fb (.pv (.val v)::l)=true:=nr rfl
@[simp] theorem RW (k:IntKind) (n:Int) (l:List AV):fb (.pv (.int k n)::l)=fb l:=nr rfl
@[simp] theorem NO (b:Bool) (l:List AV):fb (.pv (.bool b)::l)=fb l:=nr rfl
@[simp] theorem VB (r:List (List PV)) (l:List AV):fb (.pv (.ro r)::l)=fb l:=nr rfl
@[simp] theorem Ri (t:Nat) (l:List AV):fb (.own t::l)=fb l:=nr rfl
@[simp] theorem P6 (t o:Nat) (l:List AV):fb (.ptr t o::l)=fb l:=nr rfl
@[simp] theorem Nn (t:Nat) (e:TypeId) (i:Int) (o:Nat) (l:List AV):fb (.aR t e i o::l)=fb l:=nr rfl
@[simp] theorem RF (cs:List AV) (l:List AV):fb (.agg cs::l)=fb l:=nr rfl
@[simp] theorem Tm (f:FuncId) (cs:List AV) (l:List AV):fb (.bA f cs::l)=fb l:=nr rfl
@[simp] theorem Ve (b:Bool):GN (some b)=!b:=by cases b<;>rfl
end
section
variable(op:BinOp) (k:IntKind) (a b:Int) (x y:List UInt8) (p q:Bool)
@[simp] theorem U0:dh .add (.int k a) (.int k b)=some (True,.int k (k.wrap (a+b))):=by simp[dh]
@[simp] theorem Te:dh .sub (.int k a) (.int k b)=some (True,.int k (k.wrap (a-b))):=by simp[dh]
@[simp] theorem QP:dh .mul (.int k a) (.int k b)=some (True,.int k (k.wrap (a*b))):=by simp[dh]
@[simp] theorem Tj:dh .quo (.int k a) (.int k b)=some (b≠0,.int k (k.wrap (a.tdiv b))):=by simp[dh]
@[simp] theorem RB:dh .rem (.int k a) (.int k b)=some (b≠0,.int k (a.tmod b)):=by simp[dh]
@[simp] theorem QD:dh .eql (.int k a) (.int k b)=some (True,.bool (decide (a=b))):=by simp[dh]
@[simp] theorem Qx:dh .neq (.int k a) (.int k b)=some (True,.bool (!decide (a=b))):=by simp[dh]
@[simp] theorem QA:dh .lss (.int k a) (.int k b)=some (True,.bool (decide (a<b))):=by simp[dh]
@[simp] theorem QZ:dh .leq (.int k a) (.int k b)=some (True,.bool (decide (a≤b))):=by simp[dh]
@[simp] theorem SD:dh .gtr (.int k a) (.int k b)=some (True,.bool (decide (b<a))):=by simp[dh]
@[simp] theorem SY:dh .geq (.int k a) (.int k b)=some (True,.bool (decide (b≤a))):=by simp[dh]
@[simp] theorem Uw:dh .and (.int k a) (.int k b)=some (True,ke .and k a b):=by simp[dh]
@[simp] theorem Xf:dh .or (.int k a) (.int k b)=some (True,ke .or k a b):=by simp[dh]
@[simp] theorem TY:dh .xor (.int k a) (.int k b)=some (True,ke .xor k a b):=by simp[dh]
@[simp] theorem Ie:dh .andNot (.int k a) (.int k b)=some (True,ke .andNot k a b):=by simp[dh]
@[simp] theorem RP (k':IntKind):dh .shl (.int k a) (.int k' b)=some (0≤b,.int k (k.wrap (a*2^(min b.toNat k.bits)))):=nr rfl
@[simp] theorem QU (k':IntKind):dh .shr (.int k a) (.int k' b)=some (0≤b,.int k (a.fdiv (2^(min b.toNat k.bits)))):=nr rfl
end
@[simp↓] theorem QE {P:Program}{Γ:bN}{d:Option Nat}{aa:Nat→Option AO}{C:bz→Prop}{xs:List AV}{op:BinOp}:aQ P Γ d (.bin op) xs aa C=(an xs∧ai (ak (.bin op) (xs.map strip) aa) fun x=>x.1∧C (.put x.2)):=rfl
@[simp↓] theorem Pk {P:Program}{Γ:bN}{d:Option Nat}{aa:Nat→Option AO}{C:bz→Prop}{xs:List AV}{c:Bool}{op:BinOp}:cb P Γ c d (.bin op) xs aa C=ai (ak (.bin op) (xs.map strip) aa) fun x=>(c=true→an xs∧x.1)∧C (.put (.b5 c x.2)):=rfl
@[simp↓] theorem Px {P:Program}{Γ:bN}{d:Option Nat}{aa:Nat→Option AO}{C:bz→Prop}{xs:List AV}{ne:Bool}:aQ P Γ d (.beq ne) xs aa C=(an xs∧ai (ak (.beq ne) (xs.map strip) aa) fun x=>x.1∧C (.put x.2)):=rfl
@[simp↓] theorem PT {P:Program}{Γ:bN}{d:Option Nat}{aa:Nat→Option AO}{C:bz→Prop}{xs:List AV}{c:Bool}{ne:Bool}:cb P Γ c d (.beq ne) xs aa C=ai (ak (.beq ne) (xs.map strip) aa) fun x=>(c=true→an xs∧x.1)∧C (.put (.b5 c x.2)):=rfl
@[simp↓] theorem MG {P:Program}{Γ:bN}{d:Option Nat}{aa:Nat→Option AO}{C:bz→Prop}{xs:List AV}:aQ P Γ d .mS xs aa C=(an xs∧ai (ak .mS (xs.map strip) aa) fun x=>x.1∧C (.put x.2)):=rfl
@[simp↓] theorem MW {P:Program}{Γ:bN}{d:Option Nat}{aa:Nat→Option AO}{C:bz→Prop}{xs:List AV}{c:Bool}:cb P Γ c d .mS xs aa C=ai (ak .mS (xs.map strip) aa) fun x=>(c=true→an xs∧x.1)∧C (.put (.b5 c x.2)):=rfl
@[simp↓] theorem Su {P:Program}{Γ:bN}{d:Option Nat}{aa:Nat→Option AO}{C:bz→Prop}{xs:List AV}{ne:Bool}{ks:List Nat}:aQ P Γ d (.eqs ne ks) xs aa C=(an xs∧ai (ak (.eqs ne ks) (xs.map strip) aa) fun x=>x.1∧C (.put x.2)):=rfl
@[simp↓] theorem RD {P:Program}{Γ:bN}{d:Option Nat}{aa:Nat→Option AO}{C:bz→Prop}{xs:List AV}{c:Bool}{ne:Bool}{ks:List Nat}:cb P Γ c d (.eqs ne ks) xs aa C=ai (ak (.eqs ne ks) (xs.map strip) aa) fun x=>(c=true→an xs∧x.1)∧C (.put (.b5 c x.2)):=rfl
@[simp↓] theorem Ug {P:Program}{Γ:bN}{d:Option Nat}{aa:Nat→Option AO}{C:bz→Prop}{xs:List AV}{b:Bool}:aQ P Γ d (.BL b) xs aa C=(an xs∧ai (ak (.BL b) (xs.map strip) aa) fun x=>x.1∧C (.put x.2)):=rfl
@[simp↓] theorem Tn {P:Program}{Γ:bN}{d:Option Nat}{aa:Nat→Option AO}{C:bz→Prop}{xs:List AV}{c:Bool}{b:Bool}:cb P Γ c d (.BL b) xs aa C=ai (ak (.BL b) (xs.map strip) aa) fun x=>(c=true→an xs∧x.1)∧C (.put (.b5 c x.2)):=rfl
@[simp↓] theorem N6 {P:Program}{Γ:bN}{d:Option Nat}{aa:Nat→Option AO}{C:bz→Prop}{xs:List AV}{e:TypeId}:aQ P Γ d (.lF e) xs aa C=(an xs∧ai (ak (.lF e) (xs.map strip) aa) fun x=>x.1∧C (.put x.2)):=rfl
@[simp↓] theorem LD {P:Program}{Γ:bN}{d:Option Nat}{aa:Nat→Option AO}{C:bz→Prop}{xs:List AV}{c:Bool}{e:TypeId}:cb P Γ c d (.lF e) xs aa C=ai (ak (.lF e) (xs.map strip) aa) fun x=>(c=true→an xs∧x.1)∧C (.put (.b5 c x.2)):=rfl
@[simp↓] theorem Ms {P:Program}{Γ:bN}{d:Option Nat}{aa:Nat→Option AO}{C:bz→Prop}{xs:List AV}:aQ P Γ d (.lE) xs aa C=(an xs∧ai (ak (.lE) (xs.map strip) aa) fun x=>x.1∧C (.put x.2)):=rfl
@[simp↓] theorem NX {P:Program}{Γ:bN}{d:Option Nat}{aa:Nat→Option AO}{C:bz→Prop}{xs:List AV}{c:Bool}:cb P Γ c d (.lE) xs aa C=ai (ak (.lE) (xs.map strip) aa) fun x=>(c=true→an xs∧x.1)∧C (.put (.b5 c x.2)):=rfl
@[simp↓] theorem Sr {P:Program}{Γ:bN}{d:Option Nat}{aa:Nat→Option AO}{C:bz→Prop}{xs:List AV}:aQ P Γ d .Ag xs aa C=(an xs∧ai (ak .Ag (xs.map strip) aa) fun x=>x.1∧C (.put x.2)):=rfl
@[simp↓] theorem Pp {P:Program}{Γ:bN}{d:Option Nat}{aa:Nat→Option AO}{C:bz→Prop}{xs:List AV}{c:Bool}:cb P Γ c d .Ag xs aa C=ai (ak .Ag (xs.map strip) aa) fun x=>(c=true→an xs∧x.1)∧C (.put (.b5 c x.2)):=rfl
@[simp↓] theorem Q9 {P:Program}{Γ:bN}{d:Option Nat}{aa:Nat→Option AO}{C:bz→Prop}{xs:List AV}:aQ P Γ d .not xs aa C=(an xs∧ai (ak .not (xs.map strip) aa) fun x=>x.1∧C (.put x.2)):=rfl
@[simp↓] theorem Rh {P:Program}{Γ:bN}{d:Option Nat}{aa:Nat→Option AO}{C:bz→Prop}{xs:List AV}{c:Bool}:cb P Γ c d .not xs aa C=ai (ak .not (xs.map strip) aa) fun x=>(c=true→an xs∧x.1)∧C (.put (.b5 c x.2)):=rfl
@[simp↓] theorem Re {P:Program}{Γ:bN}{d:Option Nat}{aa:Nat→Option AO}{C:bz→Prop}{xs:List AV}:aQ P Γ d .neg xs aa C=(an xs∧ai (ak .neg (xs.map strip) aa) fun x=>x.1∧C (.put x.2)):=rfl
@[simp↓] theorem Rs {P:Program}{Γ:bN}{d:Option Nat}{aa:Nat→Option AO}{C:bz→Prop}{xs:List AV}{c:Bool}:cb P Γ c d .neg xs aa C=ai (ak .neg (xs.map strip) aa) fun x=>(c=true→an xs∧x.1)∧C (.put (.b5 c x.2)):=rfl
@[simp↓] theorem Qn {P:Program}{Γ:bN}{d:Option Nat}{aa:Nat→Option AO}{C:bz→Prop}{xs:List AV}{k:IntKind}:aQ P Γ d (.iO k) xs aa C=(an xs∧ai (ak (.iO k) (xs.map strip) aa) fun x=>x.1∧C (.put x.2)):=rfl
@[simp↓] theorem Q2 {P:Program}{Γ:bN}{d:Option Nat}{aa:Nat→Option AO}{C:bz→Prop}{xs:List AV}{c:Bool}{k:IntKind}:cb P Γ c d (.iO k) xs aa C=ai (ak (.iO k) (xs.map strip) aa) fun x=>(c=true→an xs∧x.1)∧C (.put (.b5 c x.2)):=rfl
@[simp↓] theorem Va {P:Program}{Γ:bN}{d:Option Nat}{aa:Nat→Option AO}{C:bz→Prop}{xs:List AV}:aQ P Γ d .len xs aa C=(an xs∧ai (ak .len (xs.map strip) aa) fun x=>x.1∧C (.put x.2)):=rfl
@[simp↓] theorem SM {P:Program}{Γ:bN}{d:Option Nat}{aa:Nat→Option AO}{C:bz→Prop}{xs:List AV}{c:Bool}:cb P Γ c d .len xs aa C=ai (ak .len (xs.map strip) aa) fun x=>(c=true→an xs∧x.1)∧C (.put (.b5 c x.2)):=rfl
@[simp↓] theorem M3 {P:Program}{Γ:bN}{d:Option Nat}{aa:Nat→Option AO}{C:bz→Prop}{xs:List AV}:aQ P Γ d .pK xs aa C=(an xs∧ai (ak .pK (xs.map strip) aa) fun x=>x.1∧C (.put x.2)):=rfl
@[simp↓] theorem OG {P:Program}{Γ:bN}{d:Option Nat}{aa:Nat→Option AO}{C:bz→Prop}{xs:List AV}{c:Bool}:cb P Γ c d .pK xs aa C=ai (ak .pK (xs.map strip) aa) fun x=>(c=true→an xs∧x.1)∧C (.put (.b5 c x.2)):=rfl
@[simp↓] theorem U9 {P:Program}{Γ:bN}{d:Option Nat}{aa:Nat→Option AO}{C:bz→Prop}{xs:List AV}{a b:Bool}:aQ P Γ d (.FN a b) xs aa C=(an xs∧ai (ak (.FN a b) (xs.map strip) aa) fun x=>x.1∧C (.put x.2)):=rfl
@[simp↓] theorem QN {P:Program}{Γ:bN}{d:Option Nat}{aa:Nat→Option AO}{C:bz→Prop}{xs:List AV}{c:Bool}{a b:Bool}:cb P Γ c d (.FN a b) xs aa C=ai (ak (.FN a b) (xs.map strip) aa) fun x=>(c=true→an xs∧x.1)∧C (.put (.b5 c x.2)):=rfl
@[simp↓] theorem UD {P:Program}{Γ:bN}{d:Option Nat}{aa:Nat→Option AO}{C:bz→Prop}{xs:List AV}{o:Nat}{n:Option Nat}:aQ P Γ d (.DW o n) xs aa C=(an xs∧ai (ak (.DW o n) (xs.map strip) aa) fun x=>x.1∧C (.put x.2)):=rfl
@[simp↓] theorem UC {P:Program}{Γ:bN}{d:Option Nat}{aa:Nat→Option AO}{C:bz→Prop}{xs:List AV}{c:Bool}{o:Nat}{n:Option Nat}:cb P Γ c d (.DW o n) xs aa C=ai (ak (.DW o n) (xs.map strip) aa) fun x=>(c=true→an xs∧x.1)∧C (.put (.b5 c x.2)):=rfl
@[simp↓] theorem Qz {P:Program}{Γ:bN}{d:Option Nat}{aa:Nat→Option AO}{C:bz→Prop}{xs:List AV}{o:Nat}:aQ P Γ d (.aD o) xs aa C=(an xs∧ai (ak (.aD o) (xs.map strip) aa) fun x=>x.1∧C (.put x.2)):=rfl
@[simp↓] theorem Rk {P:Program}{Γ:bN}{d:Option Nat}{aa:Nat→Option AO}{C:bz→Prop}{xs:List AV}{c:Bool}{o:Nat}:cb P Γ c d (.aD o) xs aa C=ai (ak (.aD o) (xs.map strip) aa) fun x=>(c=true→an xs∧x.1)∧C (.put (.b5 c x.2)):=rfl
@[simp↓] theorem LL {P:Program}{Γ:bN}{d:Option Nat}{aa:Nat→Option AO}{C:bz→Prop}{xs:List AV}{n:Option Nat}:aQ P Γ d (.load n) xs aa C=(an xs∧ai (ak (.load n) (xs.map strip) aa) fun x=>x.1∧C (.put x.2)):=rfl
@[simp↓] theorem Np {P:Program}{Γ:bN}{d:Option Nat}{aa:Nat→Option AO}{C:bz→Prop}{xs:List AV}{c:Bool}{n:Option Nat}:cb P Γ c d (.load n) xs aa C=ai (ak (.load n) (xs.map strip) aa) fun x=>(c=true→an xs∧x.1)∧C (.put (.b5 c x.2)):=rfl
@[simp↓] theorem RQ {P:Program}{Γ:bN}{d:Option Nat}{aa:Nat→Option AO}{C:bz→Prop}{xs:List AV}{e:TypeId}{s:Nat}:aQ P Γ d (.aY e s) xs aa C=(an xs∧ai (ak (.aY e s) (xs.map strip) aa) fun x=>x.1∧C (.put x.2)):=rfl
@[simp↓] theorem Q4 {P:Program}{Γ:bN}{d:Option Nat}{aa:Nat→Option AO}{C:bz→Prop}{xs:List AV}{e s:Nat}:aQ P Γ d (.Eu e s) xs aa C=(an xs∧ai (ak (.Eu e s) (xs.map strip) aa) fun x=>x.1∧C (.put x.2)):=rfl
@[simp↓] theorem PN {P:Program}{Γ:bN}{d:Option Nat}{aa:Nat→Option AO}{C:bz→Prop}{xs:List AV}:aQ P Γ d .dG xs aa C=(an xs∧ai (ak .dG (xs.map strip) aa) fun x=>x.1∧C (.put x.2)):=rfl
@[simp↓] theorem UZ {P:Program}{Γ:bN}{d:Option Nat}{aa:Nat→Option AO}{C:bz→Prop}{xs:List AV}{c:Bool}{e:TypeId}{s:Nat}:cb P Γ c d (.aY e s) xs aa C=ai (ak (.aY e s) (xs.map strip) aa) fun x=>(c=true→an xs∧x.1)∧C (.put (.b5 c x.2)):=rfl
@[simp↓] theorem PW {P:Program}{Γ:bN}{d:Option Nat}{aa:Nat→Option AO}{C:bz→Prop}{xs:List AV}{c:Bool}{e s:Nat}:cb P Γ c d (.Eu e s) xs aa C=ai (ak (.Eu e s) (xs.map strip) aa) fun x=>(c=true→an xs∧x.1)∧C (.put (.b5 c x.2)):=rfl
@[simp↓] theorem Qu {P:Program}{Γ:bN}{d:Option Nat}{aa:Nat→Option AO}{C:bz→Prop}{xs:List AV}{c:Bool}:cb P Γ c d .dG xs aa C=ai (ak .dG (xs.map strip) aa) fun x=>(c=true→an xs∧x.1)∧C (.put (.b5 c x.2)):=rfl
@[simp↓] theorem SJ {P:Program}{Γ:bN}{d:Option Nat}{aa:Nat→Option AO}{C:bz→Prop}{xs:List AV}{s:Nat}{a b:Bool}:aQ P Γ d (.lH s a b) xs aa C=(an xs∧ai (ak (.lH s a b) (xs.map strip) aa) fun x=>x.1∧C (.put x.2)):=rfl
@[simp↓] theorem Qv {P:Program}{Γ:bN}{d:Option Nat}{aa:Nat→Option AO}{C:bz→Prop}{xs:List AV}{c:Bool}{s:Nat}{a b:Bool}:cb P Γ c d (.lH s a b) xs aa C=ai (ak (.lH s a b) (xs.map strip) aa) fun x=>(c=true→an xs∧x.1)∧C (.put (.b5 c x.2)):=rfl
@[simp↓] theorem T1 {P:Program}{Γ:bN}{d:Option Nat}{aa:Nat→Option AO}{C:bz→Prop}{xs:List AV}{i:Nat}:aQ P Γ d (.ext i) xs aa C=(an xs∧ai (ak (.ext i) (xs.map strip) aa) fun x=>x.1∧C (.put x.2)):=rfl
@[simp↓] theorem P2 {P:Program}{Γ:bN}{d:Option Nat}{aa:Nat→Option AO}{C:bz→Prop}{xs:List AV}{c:Bool}{i:Nat}:cb P Γ c d (.ext i) xs aa C=ai (ak (.ext i) (xs.map strip) aa) fun x=>(c=true→an xs∧x.1)∧C (.put (.b5 c x.2)):=rfl
@[simp↓] theorem PO {P:Program}{Γ:bN}{d:Option Nat}{aa:Nat→Option AO}{C:bz→Prop}{xs:List AV}{zs:List Value}{ps:List (Nat×Nat)}:aQ P Γ d (.eR zs ps) xs aa C=(an xs∧ai (ak (.eR zs ps) (xs.map strip) aa) fun x=>x.1∧C (.put x.2)):=rfl
@[simp↓] theorem TJ {P:Program}{Γ:bN}{d:Option Nat}{aa:Nat→Option AO}{C:bz→Prop}{xs:List AV}{c:Bool}{zs:List Value}{ps:List (Nat×Nat)}:cb P Γ c d (.eR zs ps) xs aa C=ai (ak (.eR zs ps) (xs.map strip) aa) fun x=>(c=true→an xs∧x.1)∧C (.put (.b5 c x.2)):=rfl
@[simp↓] theorem Uu {P:Program}{Γ:bN}{d:Option Nat}{aa:Nat→Option AO}{C:bz→Prop}{xs:List AV}{f:FuncId}:aQ P Γ d (.zV f) xs aa C=(an xs∧ai (ak (.zV f) (xs.map strip) aa) fun x=>x.1∧C (.put x.2)):=rfl
@[simp↓] theorem Q1 {P:Program}{Γ:bN}{d:Option Nat}{aa:Nat→Option AO}{C:bz→Prop}{xs:List AV}{c:Bool}{f:FuncId}:cb P Γ c d (.zV f) xs aa C=ai (ak (.zV f) (xs.map strip) aa) fun x=>(c=true→an xs∧x.1)∧C (.put (.b5 c x.2)):=rfl
@[simp↓] theorem MI {P:Program}{Γ:bN}{d:Option Nat}{aa:Nat→Option AO}{C:bz→Prop}{xs:List AV}{e:TypeId}:aQ P Γ d (.bf e) xs aa C=ai d fun d=>an xs∧ai (cm (.bf e) d (xs.map strip) aa) fun x=>x.1∧aa d=none∧C (.new x.2.1 [(d,x.2.2)]):=rfl
@[simp↓] theorem Po {P:Program}{Γ:bN}{d:Option Nat}{aa:Nat→Option AO}{C:bz→Prop}{xs:List AV}:aQ P Γ d .box xs aa C=ai d fun d=>an xs∧ai (cm .box d (xs.map strip) aa) fun x=>x.1∧aa d=none∧C (.new x.2.1 [(d,x.2.2)]):=rfl
@[simp↓] theorem Kj {P:Program}{Γ:bN}{d:Option Nat}{aa:Nat→Option AO}{C:bz→Prop}{xs:List AV}{zs:List Value}:aQ P Γ d (.alloc zs) xs aa C=ai d fun d=>an xs∧ai (cm (.alloc zs) d (xs.map strip) aa) fun x=>x.1∧aa d=none∧C (.new x.2.1 [(d,x.2.2)]):=rfl
@[simp↓] theorem UN {P:Program}{Γ:bN}{d:Option Nat}{aa:Nat→Option AO}{C:bz→Prop}{xs:List AV}{e:TypeId}{sz:Nat}:aQ P Γ d (.fx e sz) xs aa C=ai d fun d=>an xs∧ai (cm (.fx e sz) d (xs.map strip) aa) fun x=>x.1∧aa d=none∧C (.new x.2.1 [(d,x.2.2)]):=rfl
@[simp↓] theorem MR {P:Program}{Γ:bN}{d:Option Nat}{aa:Nat→Option AO}{C:bz→Prop}{xs:List AV}{c:Bool}{e:TypeId}:cb P Γ c d (.bf e) xs aa C=((c=true→aQ P Γ d (.bf e) xs aa C)∧(c=false→C (.put .ar))):=rfl
@[simp↓] theorem P8 {P:Program}{Γ:bN}{d:Option Nat}{aa:Nat→Option AO}{C:bz→Prop}{xs:List AV}{c:Bool}:cb P Γ c d .box xs aa C=((c=true→aQ P Γ d .box xs aa C)∧(c=false→C (.put .ar))):=rfl
@[simp↓] theorem I2 {P:Program}{Γ:bN}{d:Option Nat}{aa:Nat→Option AO}{C:bz→Prop}{xs:List AV}{c:Bool}{zs:List Value}:cb P Γ c d (.alloc zs) xs aa C=((c=true→aQ P Γ d (.alloc zs) xs aa C)∧(c=false→C (.put .ar))):=rfl
@[simp↓] theorem Tt {P:Program}{Γ:bN}{d:Option Nat}{aa:Nat→Option AO}{C:bz→Prop}{xs:List AV}{c:Bool}{e:TypeId}{sz:Nat}:cb P Γ c d (.fx e sz) xs aa C=((c=true→aQ P Γ d (.fx e sz) xs aa C)∧(c=false→C (.put (A8 xs)))):=rfl
@[simp↓] theorem JE {P:Program}{Γ:bN}{d:Option Nat}{aa:Nat→Option AO}{C:bz→Prop}{xs:List AV}{c:Bool}{n:Option Nat}:cb P Γ c d (.store n) xs aa C=((c=true→aQ P Γ d (.store n) xs aa C)∧(c=false→C (.put .ar))):=rfl
@[simp↓] theorem Qy {P:Program}{Γ:bN}{d:Option Nat}{aa:Nat→Option AO}{C:bz→Prop}{xs:List AV}{c:Bool}{e:TypeId}{z b:Nat}:cb P Γ c d (.app e z b) xs aa C=((c=true→aQ P Γ d (.app e z b) xs aa C)∧(c=false→C (.put .ar))):=rfl
@[simp↓] theorem Qf {P:Program}{Γ:bN}{d:Option Nat}{aa:Nat→Option AO}{C:bz→Prop}{x:AV}:aQ P Γ d .aB [x] aa C=C (.put x):=by simp[aQ,ai]
@[simp↓] theorem QG {P:Program}{Γ:bN}{c:Bool}{d:Option Nat}{aa:Nat→Option AO}{C:bz→Prop}{x:AV}:cb P Γ c d .aB [x] aa C=C (.put (.b5 c x)):=by simp[cb,ai]
@[simp↓] theorem nv {P:Program}{Γ:bN}{d:Option Nat}{aa:Nat→Option AO}{C:bz→Prop}{xs:List AV}:aQ P Γ d .pick xs aa C=ai (rC xs) fun x=>x.1∧C (.put x.2):=rfl
@[simp↓] theorem tz {P:Program}{Γ:bN}{d:Option Nat}{aa:Nat→Option AO}{C:bz→Prop}{xs:List AV}{c:Bool}:cb P Γ c d .pick xs aa C=ai (rC xs) fun x=>(c=true→x.1)∧C (.put (.b5 c x.2)):=rfl
@[simp↓] theorem Kl {P:Program}{Γ:bN}{d:Option Nat}{aa:Nat→Option AO}{C:bz→Prop}{xs:List AV}{n:Option Nat}:aQ P Γ d (.store n) xs aa C=(an xs∧ai (dQ (.store n) (xs.map strip) aa) fun x=>x.1∧C (.uI x.2.1 x.2.2)):=rfl
@[simp↓] theorem EJ {P:Program}{Γ:bN}{d:Option Nat}{aa:Nat→Option AO}{C:bz→Prop}{x:AV}{t:Nat}{e:TypeId}{z b:Nat}:aQ P Γ d (.app e z b) [.own t,x] aa C=(an [.own t,x]∧ai (dQ (.app e z b) [.own t,strip x] aa) fun x=>x.1∧C (.app x.2.1 x.2.2)):=rfl
@[simp↓] theorem Gk {P:Program}{Γ:bN}{d:Option Nat}{aa:Nat→Option AO}{C:bz→Prop}{x:AV}{e:TypeId}{z b:Nat}:aQ P Γ d (.app e z b) [.pv .nil,x] aa C=(an [.pv .nil,x]∧ai d fun d=>ai (cm (.app e z b) d [.pv .nil,strip x] aa) fun x=>x.1∧aa d=none∧C (.new x.2.1 [(d,x.2.2)])):=rfl
@[simp↓] theorem OM {P:Program}{Γ:bN}{d:Option Nat}{aa:Nat→Option AO}{C:bz→Prop}{xs:List AV}{f:FuncId}:aQ P Γ d (.call f) xs aa C=cr P Γ d f xs aa C:=rfl
@[simp↓] theorem Md {P:Program}{Γ:bN}{d:Option Nat}{aa:Nat→Option AO}{C:bz→Prop}{xs:List AV}{c:Bool}{f:FuncId}:cb P Γ c d (.call f) xs aa C=ai (eL aa (xs.map strip)) fun ys=>ai (gt Γ f ys) fun x=>if(!nj x.2&&(yq x.2).isEmpty)=true then(c=true→an xs∧x.1)∧flat x.2∧yq x.2=[]∧cH x.2=true∧C (.put (.b5 c x.2)) else(c=true→cr P Γ d f xs aa C)∧(c=false→C (.put (.b5 false (Fc x.2)))):=rfl
@[simp] theorem Xe (e:TypeId) (rows:List (List PV)):Fc (.fr e rows)=.pv (.ro rows):=nr rfl
@[simp] theorem Pu (cs:List AV):Fc (.agg cs)=.agg (cs.map vX):=nr rfl
@[simp] theorem U1 (e:TypeId) (rows:List (List PV)):vX (.fr e rows)=.pv (.ro rows):=nr rfl
@[simp] theorem Uc (p:PV):vX (.pv p)=.pv p:=nr rfl
@[simp↓] theorem Vb {Γ:bN}{aa:Nat→Option AO}{C:bz→Prop}{xs:List AV}{c:Bool}{f:FuncId}:wB Γ c f xs aa C=ai (eL aa (xs.map strip)) fun ys=>ai (gt Γ f ys) fun x=>(c=true→an xs∧x.1)∧flat x.2∧yq x.2=[]∧cH x.2=true∧C (.put (.b5 c x.2)):=rfl
section
variable{aa:Nat→Option AO}
@[simp] theorem RX (e:TypeId) (rows:List (List PV)):zj (some (.arr e rows))=some (e,rows.length):=nr rfl
@[simp] theorem NP (e e':TypeId) (i:Int) (o:Nat) (rows:List (List PV)):ka e i o (some (.arr e' rows))=if e'=e then some (0≤i∧i<rows.length∧o<(rowAt rows i).length,.pv ((rowAt rows i).getD o (.int .u8 0))) else none:=nr rfl
@[simp] theorem Q0 (es:List (PV×PV)):cE (some (.gr es))=none:=nr rfl
@[simp] theorem LV (e:TypeId) (rows:List (List PV)):cE (some (.arr e rows))=some (e,rows):=nr rfl
@[simp] theorem Mc (cs:List AV):eg (some (.box cs))=some cs:=nr rfl
@[simp] theorem TW (c:Bool):hZ (.pv (.bool c))=some c:=nr rfl
@[simp] theorem PI (c a b:AV):rC [c,a,b]=(hZ (strip c)).bind fun g=>(nm (asks a) (asks b) g (strip a) (strip b)).map fun r=>(asks c∧r.1,r.2):=nr rfl
@[simp] theorem Mp (φ ψ:Prop) (c x y:Bool):nm φ ψ c (.pv (.bool x)) (.pv (.bool y))=some ((c=true→φ)∧(c=false→ψ),.pv (.bool (cond c x y))):=nr rfl
@[simp] theorem Nf (φ ψ:Prop) (c x:Bool):nm φ ψ c (.pv (.bool x)) .ar=some (c=true∧φ,.pv (.bool x)):=nr rfl
@[simp] theorem MO (φ ψ:Prop) (c y:Bool):nm φ ψ c .ar (.pv (.bool y))=some (c=false∧ψ,.pv (.bool y)):=nr rfl
@[simp] theorem U4 (n:Nat) (k:IntKind) (l:Int):bounds n true false [.pv (.int k l)]=some (l,(n:Int)):=nr rfl
@[simp] theorem Vf (n:Nat) (k:IntKind) (h:Int):bounds n false true [.pv (.int k h)]=some (0,h):=nr rfl
@[simp] theorem Rg (n:Nat) (k k':IntKind) (l h:Int):bounds n true true [.pv (.int k l),.pv (.int k' h)]=some (l,h):=nr rfl
@[simp] theorem T4 (op:BinOp) (x y:PV):ak (.bin op) [.pv x,.pv y] aa=(dh op x y).map fun r=>(r.1,.pv r.2):=nr rfl
@[simp] theorem Tq (ne x y:Bool):ak (.beq ne) [.pv (.bool x),.pv (.bool y)] aa=some (True,.pv (.bool (if ne then x !=y else x==y))):=nr rfl
@[simp] theorem T0 (b:Bool):ak .not [.pv (.bool b)] aa=some (True,.pv (.bool (!b))):=nr rfl
@[simp] theorem TO (k k':IntKind) (n:Int):ak (.iO k) [.pv (.int k' n)] aa=some (True,.pv (.int k (k.wrap n))):=nr rfl
@[simp] theorem U8 (ne:Bool) (ks:List Nat) (xs ys:List AV):ak (.eqs ne ks) [.agg xs,.agg ys] aa=(dZ xs).bind fun a=>(dZ ys).map fun b=>(a.map cX=ks∧b.map cX=ks,.pv (.bool (if ne then !ir a b else ir a b))):=nr rfl
@[simp] theorem S4:ir [] []=true:=nr rfl
@[simp] theorem Nc (a b:PV) (l m:List PV):ir (a::l) (b::m)=(lJ a b&&ir l m):=nr rfl
@[simp] theorem WW (k k':IntKind) (a b:Int):lJ (.int k a) (.int k' b)=decide (a=b):=nr rfl
@[simp] theorem V9 (a b:List UInt8):lJ (.str a) (.str b)=decide (a=b):=nr rfl
@[simp] theorem TB (a b:Bool):lJ (.bool a) (.bool b)=decide (a=b):=nr rfl
@[simp] theorem S6 (k:IntKind) (a b:Int):ak (.BL true) [.pv (.int k a),.pv (.int k b)] aa=some (True,.pv (.int k (max a b))):=by simp[ak]
@[simp] theorem Nz (e:TypeId) (l:List UInt8):ak (.lF e) [.pv (.str l)] aa=some (True,.pv (.ro (bytesRow l))):=nr rfl
@[simp] theorem NJ (x:AV):ak .lE [x] aa=(ez aa x).bind fun rows=>(bytesOf rows).map fun l=>(True,.pv (.str l)):=nr rfl
@[simp] theorem Sm (rows:List (List PV)):ez aa (.pv (.ro rows))=some rows:=nr rfl
@[simp] theorem L9 (t:Nat):ez aa (.own t)=(cE (aa t)).map (·.2):=nr rfl
@[simp] theorem GJ (l:List UInt8):ak .mS [.pv (.str l)] aa=some (True,.pv (.int .i64 l.length)):=nr rfl
@[simp] theorem EO:ak .len [.pv .nil] aa=some (True,.pv (.int .i64 0)):=nr rfl
@[simp] theorem HV (rows:List (List PV)):ak .len [.pv (.ro rows)] aa=some (True,.pv (.int .i64 rows.length)):=nr rfl
@[simp] theorem FD (t:Nat):ak .len [.own t] aa=(zj (aa t)).map fun r=>(True,.pv (.int .i64 r.2)):=nr rfl
@[simp] theorem F7 (t:Nat) (e:TypeId) (lo hi:Nat):ak .len [.sub t e lo hi] aa=(cE (aa t)).map fun _=>(True,.pv (.int .i64 ((hi:Int)-(lo:Int)))):=nr rfl
@[simp] theorem MN (l:List UInt8) (k:IntKind) (i:Int):ak .pK [.pv (.str l),.pv (.int k i)] aa=some (0≤i∧i<l.length,.pv (.int .u8 ((l.getD i.toNat 0).toNat:Int))):=nr rfl
@[simp] theorem Si (sz:Nat) (lo hi:Bool) (rows:List (List PV)) (bs:List AV):ak (.lH sz lo hi) (.pv (.ro rows)::bs) aa=(bounds rows.length lo hi bs).map fun b:Int×Int=>(0≤b.1∧b.1≤b.2∧b.2≤(rows.length:Int)∧(∀r∈rows,r.length=sz),.pv (.ro (cut rows b.1 b.2))):=by unfold ak;rfl
@[simp] theorem E6 (off t o:Nat):ak (.aD off) [.ptr t o] aa=some (True,.ptr t (o+off)):=nr rfl
@[simp] theorem EB (off t o:Nat) (e:TypeId) (i:Int):ak (.aD off) [.aR t e i o] aa=some (True,.aR t e i (o+off)):=nr rfl
@[simp] theorem GY (off:Nat) (cs:List PV):ak (.aD off) [.rp cs] aa=some (True,.rp (cs.drop off)):=nr rfl
@[simp] theorem EW (t o:Nat):ak .dG [.ptr t o] aa=some (True,.ptr t o):=nr rfl
@[simp] theorem Hj (cs:List PV):ak .dG [.rp cs] aa=some (True,.rp cs):=nr rfl
@[simp] theorem Ep (t o:Nat):ak (.load none) [.ptr t o] aa=(eg (aa t)).bind fun cs=>(cs[o]?).bind fun c=>if j6 c=true then some (True,c) else none:=nr rfl
@[simp] theorem Q7 (p:PV):j6 (.pv p)=true:=nr rfl
@[simp] theorem O2 (t:Nat):j6 (.own t)=true:=nr rfl
@[simp] theorem Ec (n t o:Nat):ak (.load (some n)) [.ptr t o] aa=(eg (aa t)).bind fun cs=>if o+n≤cs.length then some (True,.agg ((cs.drop o).take n)) else none:=nr rfl
@[simp] theorem CX (t o:Nat) (e:TypeId) (i:Int):ak (.load none) [.aR t e i o] aa=ka e i o (aa t):=nr rfl
@[simp] theorem Cv (n t o:Nat) (e:TypeId) (i:Int):ak (.load (some n)) [.aR t e i o] aa=(cE (aa t)).bind fun r=>if r.1=e∧o+n≤(rowAt r.2 i).length then some (0≤i∧i<r.2.length,.agg ((((rowAt r.2 i).drop o).take n).map .pv)) else none:=nr rfl
@[simp] theorem Fk (c:PV) (cs:List PV):ak (.load none) [.rp (c::cs)] aa=some (True,.pv c):=nr rfl
@[simp] theorem Ez:ak (.load none) [.rp []] aa=some (False,.pv (.int .u64 0)):=nr rfl
@[simp] theorem Er (n:Nat) (cs:List PV):ak (.load (some n)) [.rp cs] aa=(if n≤cs.length then some (True,.agg ((cs.take n).map .pv)) else none):=nr rfl
@[simp] theorem Hv (e:TypeId) (sz:Nat) (rows:List (List PV)) (k:IntKind) (i:Int):ak (.aY e sz) [.pv (.ro rows),.pv (.int k i)] aa=some (0≤i∧i<rows.length∧(rowAt rows i).length=sz,.rp (rowAt rows i)):=nr rfl
@[simp] theorem E4 (e:TypeId) (sz t:Nat) (k:IntKind) (i:Int):ak (.aY e sz) [.own t,.pv (.int k i)] aa=(zj (aa t)).bind fun r=>if r.1=e then some (0≤i∧i<r.2,.aR t e i 0) else none:=nr rfl
@[simp] theorem F0 (e e1:TypeId) (sz t lo hi:Nat) (k:IntKind) (i:Int):ak (.aY e sz) [.sub t e1 lo hi,.pv (.int k i)] aa=(cE (aa t)).bind fun r=>if r.1=e∧e1=e then some (0≤i∧i<(hi:Int)-(lo:Int),.aR t e ((lo:Int)+i) 0) else none:=nr rfl
@[simp] theorem Ft (sz:Nat) (lo hi:Bool) (bs:List AV):ak (.lH sz lo hi) (.pv .nil::bs) aa=(bounds 0 lo hi bs).map fun b:Int×Int=>(b.1=0∧b.2=0,.pv .nil):=nr rfl
@[simp] theorem Gg (sz t:Nat) (lo hi:Bool) (bs:List AV):ak (.lH sz lo hi) (.own t::bs) aa=(cE (aa t)).bind fun r=>(bounds r.2.length lo hi bs).map fun b:Int×Int=>(0≤b.1∧b.1≤b.2∧b.2≤(r.2.length:Int)∧(∀x∈r.2,x.length=sz),.sub t r.1 b.1.toNat b.2.toNat):=nr rfl
@[simp] theorem PJ (i:Nat) (vs:List AV):ak (.ext i) [.aL vs] aa=(vs[i]?).map fun v=>(True,v):=nr rfl
@[simp] theorem Sy (zs:List Value) (ps:List (Nat×Nat)) (xs:List AV):ak (.eR zs ps) xs aa=(jC (zs.map cv) ps xs).map fun cs=>(True,.agg cs):=by unfold ak;rfl
@[simp] theorem PR (f:FuncId) (xs:List AV):ak (.zV f) xs aa=some (True,.bA f xs):=by unfold ak;rfl
@[simp] theorem LJ (e:TypeId) (d:Nat) (xs:List AV):cm (.bf e) d xs aa=some (True,.own d,.arr e []):=by unfold cm;rfl
@[simp] theorem RM (d:Nat) (x:AV):cm .box d [x] aa=(if eV (cellsOf x) then some (True,.ptr d 0,.box (cellsOf x)) else none):=nr rfl
@[simp] theorem ID (d:Nat) (zs:List Value) (xs:List AV):cm (.alloc zs) d xs aa=(if zs.all (·.oneCell') then some (True,.ptr d 0,.box (zs.map cv)) else none):=by unfold cm;rfl
@[simp] theorem Uo (e:TypeId) (sz d:Nat) (xs:List AV):cm (.fx e sz) d xs aa=(rowsOf xs).map fun rows=>(∀r∈rows,r.length=sz,.own d,.arr e rows):=by unfold cm;rfl
@[simp] theorem RH (e:TypeId) (sz bytes d:Nat) (x:AV):cm (.app e sz bytes) d [.pv .nil,x] aa=(cB aa x).map fun rows=>(rows.length*bytes≤140737488355328∧rows.length≤maxLen∧(∀r∈rows,r.length=sz),.own d,.arr e rows):=nr rfl
@[simp] theorem Dg (t o:Nat) (v:AV):dQ (.store none) [.ptr t o,v] aa=(eg (aa t)).bind fun cs=>if dJ v∧o<cs.length then some (True,t,.box (cs.set o v)) else none:=nr rfl
@[simp] theorem Cw (n t o:Nat) (vs:List AV):dQ (.store (some n)) [.ptr t o,.agg vs] aa=(eg (aa t)).bind fun cs=>if eV vs∧vs.length=n∧o+n≤cs.length then some (True,t,.box (bY cs o vs)) else none:=nr rfl
@[simp] theorem Cu (t o:Nat) (e:TypeId) (i:Int) (p:PV):dQ (.store none) [.aR t e i o,.pv p] aa=(cE (aa t)).bind fun r=>if r.1=e∧o<(rowAt r.2 i).length∧dJ (.pv p) then some (0≤i∧i<r.2.length,t,.arr e (r.2.set i.toNat ((rowAt r.2 i).set o p))) else none:=nr rfl
@[simp] theorem Ci (n t o:Nat) (e:TypeId) (i:Int) (vs:List AV):dQ (.store (some n)) [.aR t e i o,.agg vs] aa=(cE (aa t)).bind fun r=>(dZ vs).bind fun ps=>if r.1=e∧eV vs∧ps.length=n∧o+n≤(rowAt r.2 i).length then some (0≤i∧i<r.2.length,t,.arr e (r.2.set i.toNat (bY (rowAt r.2 i) o ps))) else none:=nr rfl
@[simp] theorem Pq (e:TypeId) (sz bytes t:Nat) (x:AV):dQ (.app e sz bytes) [.own t,x] aa=(cE (aa t)).bind fun r=>(cB aa x).bind fun more=>if r.1=e∧t%1000≠999 then some ((r.2.length+more.length)*bytes≤140737488355328∧r.2.length+more.length≤maxLen∧(∀r∈more,r.length=sz),t,.arr e (r.2++more)) else none:=nr rfl
@[simp] theorem XC (p:PV):BG (.pv p)=some p:=nr rfl
@[simp] theorem OQ:dZ []=some []:=nr rfl
@[simp] theorem Jq (v:AV) (l:List AV):dZ (v::l)=(BG v).bind fun p=>(dZ l).map (p::·):=nr rfl
@[simp] theorem Sb (p:PV):rowOf (.pv p)=some [p]:=nr rfl
@[simp] theorem NB (cs:List AV):rowOf (.agg cs)=dZ cs:=nr rfl
@[simp] theorem I6:rowsOf []=some []:=nr rfl
@[simp] theorem GZ (v:AV) (l:List AV):rowsOf (v::l)=(rowOf v).bind fun p=>(rowsOf l).map (p::·):=nr rfl
@[simp] theorem He (cs:List AV):cellsOf (.agg cs)=cs:=nr rfl
@[simp] theorem Ky (p:PV):cellsOf (.pv p)=[.pv p]:=nr rfl
@[simp] theorem HF (t:Nat):cellsOf (.own t)=[.own t]:=nr rfl
@[simp] theorem Jf (cs:List AV):jC cs [] []=some cs:=nr rfl
@[simp] theorem G4 (cs:List AV) (off n:Nat) (ps:List (Nat×Nat)) (x:AV) (xs:List AV):jC cs ((off,n)::ps) (x::xs)=if kq x=true∧(cellsOf x).length=n∧off+n≤cs.length then jC (lay cs off ((cellsOf x).map nS)) ps xs else none:=nr rfl
@[simp] theorem WC (p:PV):nS (.pv p)=.pv p:=nr rfl
@[simp] theorem SG (t:Nat):nS (.own t)=.own t:=nr rfl
@[simp] theorem Pd (f:FuncId):nS (.bA f [])=.pv (.val (.func (.func f) #[] #[])):=nr rfl
@[simp] theorem LK (rows:List (List PV)):cB aa (.pv (.ro rows))=some rows:=nr rfl
@[simp] theorem K4 (l:List UInt8):cB aa (.pv (.str l))=some (bytesRow l):=nr rfl
@[simp] theorem J9 (t:Nat):cB aa (.own t)=(cE (aa t)).map (·.2):=nr rfl
@[simp] theorem Qo:dW aa (.pv .nil)=some (.ro []):=nr rfl
@[simp] theorem R8 (k:IntKind) (n:Int):dW aa (.pv (.int k n))=some (.int k n):=nr rfl
@[simp] theorem Ox (b:Bool):dW aa (.pv (.bool b))=some (.bool b):=nr rfl
@[simp] theorem Sv (l:List UInt8):dW aa (.pv (.str l))=some (.str l):=nr rfl
@[simp] theorem V3 (rows:List (List PV)):dW aa (.pv (.ro rows))=some (.ro rows):=nr rfl
@[simp] theorem Rw (t:Nat):dW aa (.own t)=Bl (aa t):=nr rfl
@[simp] theorem Ud (e:TypeId) (rows:List (List PV)):Bl (some (.arr e rows))=some (.ro rows):=nr rfl
@[simp] theorem P5 (es:List (PV×AV)):Bl (some (.map es))=if es.all (fun e=>As e.2)=true then some (.mp (es.map (·.1))) else none:=nr rfl
@[simp] theorem OB:tw (.agg #[])=true:=nr rfl
@[simp] theorem Me:iC aa []=some []:=nr rfl
@[simp] theorem J4 (c:AV) (cs:List AV):iC aa (c::cs)=(dW aa c).bind fun p=>(iC aa cs).map (p::·):=nr rfl
@[simp] theorem Uy (t o:Nat):ey aa (.ptr t o)=(eg (aa t)).bind fun cs=>(iC aa (cs.drop o)).map .rp:=nr rfl
@[simp] theorem We (cs:List PV):ey aa (.rp cs)=some (.rp cs):=nr rfl
@[simp] theorem LF:jJ aa []=some []:=nr rfl
@[simp] theorem I8 (c:AV) (cs:List AV):jJ aa (c::cs)=(ey aa c).bind fun p=>(jJ aa cs).map (p::·):=nr rfl
@[simp] theorem Xw (f:FuncId) (caps:List AV):m7 aa (.bA f caps)=(jJ aa caps).map (.bA f):=nr rfl
@[simp] theorem VD (t o:Nat):m7 aa (.ptr t o)=ey aa (.ptr t o):=nr rfl
@[simp] theorem Yo (cs:List PV):m7 aa (.rp cs)=some (.rp cs):=nr rfl
@[simp] theorem Wf (cs:List AV):m7 aa (.agg cs)=(iC aa cs).map fun ps=>.agg (ps.map .pv):=nr rfl
@[simp] theorem XY (p:PV):m7 aa (.pv p)=(dW aa (.pv p)).map .pv:=nr rfl
@[simp] theorem Xv (t:Nat):m7 aa (.own t)=(dW aa (.own t)).map .pv:=nr rfl
@[simp] theorem RI:eL aa []=some []:=nr rfl
@[simp] theorem OD (c:AV) (cs:List AV):eL aa (c::cs)=(m7 aa c).bind fun p=>(eL aa cs).map (p::·):=nr rfl
@[simp] theorem Q8 (p:PV):fD (.pv p)=true:=nr rfl
@[simp] theorem S5 (cs:List PV):fD (.rp cs)=true:=nr rfl
@[simp] theorem NV (t:Nat):fD (.own t)=false:=nr rfl
@[simp] theorem LN (t o:Nat):fD (.ptr t o)=false:=nr rfl
@[simp] theorem J2:fP []=true:=nr rfl
@[simp] theorem HJ (c:AV) (cs:List AV):fP (c::cs)=(fD c&&fP cs):=nr rfl
@[simp] theorem OO (cs:List AV):dC (.agg cs)=fP cs:=nr rfl
@[simp] theorem Nh (f:FuncId) (cs:List AV):dC (.bA f cs)=fP cs:=nr rfl
@[simp] theorem UL (p:PV):dC (.pv p)=true:=nr rfl
@[simp] theorem QX (cs:List PV):dC (.rp cs)=true:=nr rfl
@[simp] theorem N5 (t:Nat):dC (.own t)=false:=nr rfl
@[simp] theorem MD (t o:Nat):dC (.ptr t o)=false:=nr rfl
@[simp] theorem Mk:dU []=true:=nr rfl
@[simp] theorem Jn (c:AV) (cs:List AV):dU (c::cs)=(dC c&&dU cs):=nr rfl
@[simp] theorem VQ (k:IntKind) (n:Int):dJ (.pv (.int k n))=true:=nr rfl
@[simp] theorem R2 (b:Bool):dJ (.pv (.bool b))=true:=nr rfl
@[simp] theorem Vk (l:List UInt8):dJ (.pv (.str l))=true:=nr rfl
@[simp] theorem WX:dJ (.pv .nil)=true:=nr rfl
@[simp] theorem Y4 (rows:List (List PV)):dJ (.pv (.ro rows))=true:=nr rfl
@[simp] theorem V5 (t:Nat):dJ (.own t)=true:=nr rfl
@[simp] theorem Tc:eV []=true:=nr rfl
@[simp] theorem Ml (c:AV) (cs:List AV):eV (c::cs)=(dJ c&&eV cs):=nr rfl
@[simp] theorem LC (cs:List AV):kq (.agg cs)=true:=nr rfl
@[simp] theorem LI (p:PV):kq (.pv p)=dJ (.pv p):=nr rfl
@[simp] theorem IB (t:Nat):kq (.own t)=true:=nr rfl
@[simp] theorem OS (t s:Nat):bU t (.own s)=if s=t then .ar else .own s:=nr rfl
@[simp] theorem PL (t:Nat) (p:PV):bU t (.pv p)=.pv p:=nr rfl
@[simp] theorem KE (t:Nat):bU t .ar=.ar:=nr rfl
@[simp] theorem KT (t:Nat):bO t []=[]:=nr rfl
@[simp] theorem G7 (t:Nat) (c:AV) (cs:List AV):bO t (c::cs)=bU t c::bO t cs:=nr rfl
@[simp] theorem Uh (t:Nat) (cs:List AV):kill t (.agg cs)=.agg (bO t cs):=nr rfl
@[simp] theorem QH (t s:Nat):kill t (.own s)=if s=t then .ar else .own s:=nr rfl
@[simp] theorem nK (t s:Nat) (e:TypeId) (i:Int) (o:Nat):kill t (.aR s e i o)=if s=t then .ar else .aR s e i o:=nr rfl
@[simp] theorem WM (t:Nat) (p:PV):kill t (.pv p)=.pv p:=nr rfl
@[simp] theorem sE (t s o:Nat):kill t (.ptr s o)=.ptr s o:=nr rfl
@[simp] theorem vn (t:Nat) (cs:List PV):kill t (.rp cs)=.rp cs:=nr rfl
@[simp] theorem Oe (t:Nat):kill t .ar=.ar:=nr rfl
@[simp] theorem Ux (t:Nat) (g:Bool) (v:AV):kill t (.b5 g v)=.b5 g (kill t v):=nr rfl
@[simp] theorem Uf (t:Nat) (f:FuncId) (c:AV) (cs:List AV):kill t (.bA f (c::cs))=.ar:=nr rfl
@[simp] theorem O3 (t:Nat) (f:FuncId):kill t (.bA f [])=.bA f []:=nr rfl
@[simp] theorem M0 (t:Nat) (cs:List AV):dp t (.box cs)=.box (bO t cs):=nr rfl
@[simp] theorem Mw (t:Nat) (e:TypeId) (rows:List (List PV)):dp t (.arr e rows)=.arr e rows:=nr rfl
@[simp] theorem LQ (g:Nat→AV→AV) (j:Nat):fY g j []=[]:=nr rfl
@[simp] theorem Km (g:Nat→AV→AV) (j:Nat) (c:AV) (cs:List AV):fY g j (c::cs)=g (1000*j) c::fY g (j+1) cs:=nr rfl
@[simp] theorem Rr (g:Nat→AV→AV) (cs:List AV):lD g (.agg cs)=.agg (fY g 0 cs):=nr rfl
@[simp] theorem XI (g:Nat→AV→AV) (p:PV):lD g (.pv p)=g 0 (.pv p):=nr rfl
@[simp] theorem Vm (g:Nat→AV→AV) (e:TypeId) (rows:List (List PV)):lD g (.fr e rows)=g 0 (.fr e rows):=nr rfl
@[simp] theorem Ov (g:Nat→AV→AV) (i:Nat):gU g i []=[]:=nr rfl
@[simp] theorem Lp (g:Nat→AV→AV) (i:Nat) (v:AV) (vs:List AV):gU g i (v::vs)=lD (fun p c=>g (p+i) c) v::gU g (i+1) vs:=nr rfl
@[simp] theorem Ll (g:Nat→AV→AV) (vs:List AV):cJ g (.aL vs)=.aL (gU g 0 vs):=nr rfl
@[simp] theorem Ow (g:Nat→AV→AV) (p:PV):cJ g (.pv p)=g 0 (.pv p):=nr rfl
@[simp] theorem N9 (g:Nat→AV→AV) (e:TypeId) (rows:List (List PV)):cJ g (.fr e rows)=g 0 (.fr e rows):=nr rfl
@[simp] theorem J1 (g:Nat→AV→AV) (cs:List AV):cJ g (.agg cs)=.agg (fY g 0 cs):=nr rfl
@[simp] theorem Vh (d p:Nat) (e:TypeId) (rows:List (List PV)):ko d p (.fr e rows)=.own (d+1000*p):=nr rfl
@[simp] theorem Xo (d p:Nat) (q:PV):ko d p (.pv q)=.pv q:=nr rfl
@[simp 1100] theorem SZ (d p:Nat) (o:AO) (l:List (Nat×AO)):List.map (fun x:Nat×AO=>(d+1000*x.1,x.2)) ((p,o)::l)=(d+1000*p,o)::List.map (fun x:Nat×AO=>(d+1000*x.1,x.2)) l:=nr rfl
@[simp] theorem L3 (j:Nat):fH j []=[]:=nr rfl
@[simp] theorem Pb (j:Nat) (e:TypeId) (rows:List (List PV)) (cs:List AV):fH j (.fr e rows::cs)=(1000*j,.arr e rows)::fH (j+1) cs:=nr rfl
@[simp] theorem Vc (j:Nat) (p:PV) (cs:List AV):fH j (.pv p::cs)=fH (j+1) cs:=nr rfl
@[simp] theorem TA (cs:List AV):jV (.agg cs)=fH 0 cs:=nr rfl
@[simp] theorem W9 (e:TypeId) (rows:List (List PV)):jV (.fr e rows)=[(0,.arr e rows)]:=nr rfl
@[simp] theorem VR (p:PV):jV (.pv p)=[]:=nr rfl
@[simp] theorem Nd (i:Nat):kv i []=[]:=nr rfl
@[simp] theorem Ly (i:Nat) (v:AV) (vs:List AV):kv i (v::vs)=(jV v).map (fun x=>(x.1+i,x.2))++kv (i+1) vs:=nr rfl
@[simp] theorem WV (p:PV):ij (.pv p)=true:=nr rfl
@[simp] theorem V1 (e:TypeId) (rows:List (List PV)):ij (.fr e rows)=true:=nr rfl
@[simp] theorem MP:m9 []=true:=nr rfl
@[simp] theorem Ke (c:AV) (cs:List AV):m9 (c::cs)=(ij c&&m9 cs):=nr rfl
@[simp] theorem RS (cs:List AV):kl (.agg cs)=m9 cs:=nr rfl
@[simp] theorem W5 (p:PV):kl (.pv p)=true:=nr rfl
@[simp] theorem W6 (e:TypeId) (rows:List (List PV)):kl (.fr e rows)=true:=nr rfl
@[simp] theorem LP:pr []=true:=nr rfl
@[simp] theorem JV (c:AV) (cs:List AV):pr (c::cs)=(kl c&&pr cs):=nr rfl
@[simp] theorem Oi (vs:List AV):cH (.aL vs)=(decide (vs.length≤900)&&pr vs):=nr rfl
@[simp] theorem MV (cs:List AV):cH (.agg cs)=m9 cs:=nr rfl
@[simp] theorem Uq (p:PV):cH (.pv p)=true:=nr rfl
@[simp] theorem Sk (e:TypeId) (rows:List (List PV)):cH (.fr e rows)=true:=nr rfl
@[simp] theorem WH (vs:List AV):yq (.aL vs)=kv 0 vs:=nr rfl
@[simp] theorem VN (cs:List AV):yq (.agg cs)=fH 0 cs:=nr rfl
@[simp] theorem Y5 (e:TypeId) (rows:List (List PV)):yq (.fr e rows)=[(0,.arr e rows)]:=nr rfl
@[simp] theorem Ye (p:PV):yq (.pv p)=[]:=nr rfl
@[simp] theorem Nk (k:IntKind) (n:Int):gK (.int k n)=true:=nr rfl
@[simp] theorem KW (b:Bool):gK (.bool b)=true:=nr rfl
@[simp] theorem LO (l:List UInt8):gK (.str l)=true:=nr rfl
@[simp] theorem Up (rows:List (List PV)):gK (.ro rows)=rows.isEmpty:=nr rfl
@[simp] theorem Ua (p:PV):lM (.pv p)=(gK p=true):=nr rfl
@[simp] theorem P7 (e:TypeId) (rows:List (List PV)):lM (.fr e rows)=bV rows:=nr rfl
@[simp] theorem Nu:mU []=True:=nr rfl
@[simp] theorem Jb (c:AV) (cs:List AV):mU (c::cs)=(lM c∧mU cs):=nr rfl
@[simp] theorem Nw (cs:List AV):jS (.agg cs)=mU cs:=nr rfl
@[simp] theorem Qj (p:PV):jS (.pv p)=(gK p=true):=nr rfl
@[simp] theorem QR (e:TypeId) (rows:List (List PV)):jS (.fr e rows)=bV rows:=nr rfl
@[simp] theorem Mo:oT []=True:=nr rfl
@[simp] theorem KN (c:AV) (cs:List AV):oT (c::cs)=(jS c∧oT cs):=nr rfl
@[simp] theorem U3 (vs:List AV):flat (.aL vs)=oT vs:=nr rfl
@[simp] theorem flat_agg (cs:List AV):flat (.agg cs)=mU cs:=nr rfl
@[simp] theorem VZ (p:PV):flat (.pv p)=(gK p=true):=nr rfl
@[simp] theorem Xa (e:TypeId) (rows:List (List PV)):flat (.fr e rows)=bV rows:=nr rfl
end
@[simp] theorem Wk (un:List Nat) (aa:Nat→Option AO) (f:FuncId) (cs:List AV):oR un aa (.bA f cs)=jK un aa cs:=nr rfl
@[simp] theorem X2 (un:List Nat) (aa:Nat→Option AO) (p:PV):oR un aa (.pv p)=True:=nr rfl
@[simp] theorem Ym (un:List Nat) (aa:Nat→Option AO) (cs:List PV):oR un aa (.rp cs)=True:=nr rfl
@[simp] theorem QM (un:List Nat) (aa:Nat→Option AO):oR un aa .ar=True:=nr rfl
@[simp] theorem WA (un:List Nat) (aa:Nat→Option AO) (cs:List AV):oR un aa (.aL cs)=True:=nr rfl
@[simp] theorem WJ (un:List Nat) (aa:Nat→Option AO) (cs:List AV):oR un aa (.agg cs)=fZ un cs:=nr rfl
@[simp] theorem WS (un:List Nat) (aa:Nat→Option AO) (t:Nat):oR un aa (.own t)=jf un t:=nr rfl
@[simp] theorem O5 (un:List Nat) (aa:Nat→Option AO) (t:Nat) (e:TypeId) (i:Int) (o:Nat):oR un aa (.aR t e i o)=jf un t:=nr rfl
@[simp] theorem AE (un:List Nat) (aa:Nat→Option AO) (t:Nat) (e:TypeId) (i o:Nat):oR un aa (.sub t e i o)=jf un t:=nr rfl
@[simp] theorem XF (un:List Nat) (aa:Nat→Option AO) (t o:Nat):oR un aa (.ptr t o)=(jf un t∧fZ un ((eg (aa t)).getD [])):=nr rfl
@[simp] theorem VW (un:List Nat) (aa:Nat→Option AO) (cs:List PV):mz un aa (.rp cs)=True:=nr rfl
@[simp] theorem rS (un:List Nat) (aa:Nat→Option AO) (t:Nat) (e:TypeId) (i o:Nat):mz un aa (.sub t e i o)=jf un t:=nr rfl
@[simp] theorem Ps (un:List Nat) (aa:Nat→Option AO) (t o:Nat):mz un aa (.ptr t o)=(jf un t∧fZ un ((eg (aa t)).getD [])):=nr rfl
@[simp] theorem MJ (un:List Nat) (aa:Nat→Option AO):jK un aa []=True:=nr rfl
@[simp] theorem Kd (un:List Nat) (aa:Nat→Option AO) (c:AV) (cs:List AV):jK un aa (c::cs)=(mz un aa c∧jK un aa cs):=nr rfl
@[simp] theorem TC (un:List Nat) (aa:Nat→Option AO):jh un aa []=True:=nr rfl
@[simp] theorem NC (un:List Nat) (aa:Nat→Option AO) (c:AV) (cs:List AV):jh un aa (c::cs)=(oR un aa c∧jh un aa cs):=nr rfl
attribute[simp] lay bY jf td fZ
end Go.Proofs.YtlmkcmfmfahcfaaGreat.Ab.R
namespace Go.Proofs.YtlmkcmfmfahcfaaGreat.Ab
open Go Go.RowKit
theorem dw (a:Addr) (n:Nat):(a.add n).block=a.block:=by unfold Addr.add;split<;>rfl
theorem eP (a:Addr) (i j:Nat):(a.add i).add j=a.add (i+j):=by unfold Addr.add;by_cases hi:i=0<;>by_cases hj:j=0<;>simp[hi,hj,Nat.add_assoc]
section
variable{P:Program}{S S':Nat→Prop}{w w':World}{β β':Nat→Value}{D D':Nat→Prop}
theorem tG {ad:Addr} (h:w'.heap[ad.block]?=w.heap[ad.block]?) (n:Nat):w'.cell? (ad.add n)=w.cell? (ad.add n):=World.cell?_of_block (by rw[dw];exact h)
def sS (w w':World) (b:Nat):Prop:=(∀ad:Addr,ad.block=b→w'.cell? ad=w.cell? ad)∧∀(us:Array MapEntry) (c:Nat),w.heap[b]?=some (.map us c)→w'.heap[b]?=some (.map us c)
theorem sS.of {b:Nat} (h:w'.heap[b]?=w.heap[b]?):sS w w' b:=⟨fun ad e=>World.cell?_of_block (by rw[e];exact h),fun us c hm=>h.trans hm⟩
theorem de.fM {v:Value}{p:PV} (h:de S w v p) (hS:∀b,S b→S' b∧sS w w' b):de S' w' v p:=by induction h with|int k n=>exact .int k n|bool b=>exact .bool b|str l=>exact .str l|nil=>exact .nil|val v h=>exact .val v h|mp b us c ks h1 h2 h3 h4=>exact .mp b us c ks (hS _ h1).1 ((hS _ h1).2.2 _ _ h2) h3 h4|mv b us c es h1 h2 h3 h4 h5 h6 ih=>exact .mv b us c es (hS _ h1).1 ((hS _ h1).2.2 _ _ h2) h3 h4 h5 ih|pt ad cs us h1 h2 h3 h4 ih=>exact .pt ad cs us (hS _ h1).1 (fun j hj=>((hS _ h1).2.1 _ (dw _ _)).trans (h2 j hj)) h3 ih|vR A c=>exact .vR A c|ro ad c rows sz us h1 h2 h3 h4 h5 h6 ih=>exact .ro ad c rows sz us (hS _ h1).1 h2 h3 (fun i j hi hj=>((hS _ h1).2.1 _ (dw _ _)).trans (h4 i j hi hj)) h5 ih
theorem RV.fM {v:Value}{x:AV} (h:RV P S w β D v x) (hS:∀b,S b→S' b∧sS w w' b) (hD:∀t,D t→D' t∧β' t=β t):RV P S' w' β' D' v x:=by induction h with|pv v p h=>exact .pv v p (h.fM hS)|own t h=>rw[←(hD t h).2];exact .own t (hD t h).1|ptr t o b h hb=>exact .ptr t o b (hD t h).1 ((hD t h).2.trans hb)|aR t e i o b n c inf h hi hb=>exact .aR t e i o b n c inf (hD t h).1 hi ((hD t h).2.trans hb)|sub v t e lo hi inf A A1 n c h hi' hb h1 h2 h3 h4 h5 hv=>exact .sub v t e lo hi inf A A1 n c (hD t h).1 hi' ((hD t h).2.trans hb) h1 h2 h3 h4 h5 hv|rp ad cs us h1 h2 h3 h4=>exact .rp ad cs us (hS _ h1).1 (fun j hj=>((hS _ h1).2.1 _ (dw _ _)).trans (h2 j hj)) h3 (fun j p hp=>(h4 j p hp).fM hS)|agg cs us hl h ih=>exact .agg cs us hl ih|aL cs us hl h ih=>exact .aL cs us hl ih|bA f cs us hl h ih=>exact .bA f cs us hl ih|b5 g v av h hu ih=>exact .b5 g v av ih hu|ar v=>exact .ar v
theorem de.mono {v:Value}{p:PV} (h:de S w v p) (hS:∀b,S b→S' b∧w'.heap[b]?=w.heap[b]?):de S' w' v p:=h.fM fun b hb=>⟨(hS b hb).1,.of (hS b hb).2⟩
theorem RV.mono {v:Value}{x:AV} (h:RV P S w β D v x) (hS:∀b,S b→S' b∧w'.heap[b]?=w.heap[b]?) (hD:∀t,D t→D' t∧β' t=β t):RV P S' w' β' D' v x:=h.fM (fun b hb=>⟨(hS b hb).1,.of (hS b hb).2⟩) hD
theorem RV.strip {v:Value}{x:AV} (h:RV P S w β D v x) (ha:asks x):RV P S w β D v (strip x):=by induction h with|b5 g v av h hu ih=>exact ih ha.1 ha.2|pv v p h=>exact .pv v p h|own t h=>exact .own t h|ptr t o b h hb=>exact .ptr t o b h hb|aR t e i o b n c inf h hi hb=>exact .aR t e i o b n c inf h hi hb|sub v t e lo hi inf A A1 n c h hi' hb h1 h2 h3 h4 h5 hv=>exact .sub v t e lo hi inf A A1 n c h hi' hb h1 h2 h3 h4 h5 hv|rp ad cs us h1 h2 h3 h4=>exact .rp ad cs us h1 h2 h3 h4|agg cs us hl h _=>exact .agg cs us hl h|aL cs us hl h _=>exact .aL cs us hl h|bA f cs us hl h _=>exact .bA f cs us hl h|ar v=>exact .ar v
theorem bd.fM {t:Nat}{o:AO} (h:bd P S w β D t o) (hS:∀b,S b→S' b∧sS w w' b) (hD:∀t,D t→D' t∧β' t=β t) (ht:β' t=β t) (hb:∀b,b9 (β t)=some b→w'.heap[b]?=w.heap[b]?):bd P S' w' β' D' t o:=by cases o with
 |box cs=>obtain⟨b,us,ty,hp,hh,hl,hc⟩:=h;exact⟨b,us,ty,ht.trans hp,(hb b (by rw[hp];rfl)).trans hh,hl,fun i c u h1 h2=>⟨(hc i c u h1 h2).1,(hc i c u h1 h2).2.fM hS hD⟩⟩|arr e rows=>
  obtain⟨inf,us,hi,hown,hr,hc⟩:=h;refine⟨inf,us,hi,?_,hr,fun i j r p h1 h2=>?_⟩
  ·rw[ht];refine⟨hown.1,?_⟩;rcases hown.2 with h0|⟨g,cap,cur,hv,h1,h2,h3,h4,h5,h6⟩;·exact .inl h0
   ·exact .inr ⟨g,cap,cur,hv,h1,(hb g (by rw[hv];rfl)).trans h2,h3,h4,h5,h6⟩
  ·obtain⟨u,h3,h4,h5⟩:=hc i j r p h1 h2;exact⟨u,h3,h4,h5.fM hS⟩|map es=>obtain⟨b,us,c,hp,hh,hl,hc⟩:=h;exact⟨b,us,c,ht.trans hp,(hb b (by rw[hp];rfl)).trans hh,hl,fun i e u h1 h2=>⟨(hc i e u h1 h2).1,(hc i e u h1 h2).2.fM hS fun _ hf=>hf.elim⟩⟩|rws e cs=>
  obtain⟨inf,us,hi,h1s,hown,hc⟩:=h;refine⟨inf,us,hi,h1s,?_,fun i c u h1 h2=>⟨(hc i c u h1 h2).1,(hc i c u h1 h2).2.fM hS hD⟩⟩;rw[ht];refine⟨hown.1,?_⟩;rcases hown.2 with h0|⟨g,cap,cur,hv,h1,h2,h3,h4,h5,h6⟩;·exact .inl h0
  ·exact .inr ⟨g,cap,cur,hv,h1,(hb g (by rw[hv];rfl)).trans h2,h3,h4,h5,h6⟩|gr es=>obtain⟨b,us,c,hp,hh,hst,hl,hc⟩:=h;exact⟨b,us,c,ht.trans hp,(hb b (by rw[hp];rfl)).trans hh,hst,hl,fun i e u h1 h2=>⟨(hc i e u h1 h2).1,(hc i e u h1 h2).2.1,(hc i e u h1 h2).2.2.1,(hc i e u h1 h2).2.2.2.fM hS⟩⟩|lU rem cur=>
  obtain⟨r,m,us,c,seen,hp,hh,hm,hmm,hst,hl,hc,hcur⟩:=h;refine⟨r,m,us,c,seen,ht.trans hp,(hb r (by rw[hp];rfl)).trans hh,(hS m hm).1,?_,hst,hl,fun i e u h1 h2=>⟨(hc i e u h1 h2).1,(hc i e u h1 h2).2.1,(hc i e u h1 h2).2.2.1,(hc i e u h1 h2).2.2.2.fM hS⟩,fun e he=>?_⟩;·have:=(hS m hm).2.2 us c hmm;first|exact this.trans hmm|exact this
  ·obtain⟨u,s',h1,h2,h3,h4,h5,h6⟩:=hcur e he;exact⟨u,s',h1,h2,h3,h4,h5,h6.fM hS⟩
theorem bd.mono {t:Nat}{o:AO} (h:bd P S w β D t o) (hS:∀b,S b→S' b∧w'.heap[b]?=w.heap[b]?) (hD:∀t,D t→D' t∧β' t=β t) (ht:β' t=β t) (hb:∀b,b9 (β t)=some b→w'.heap[b]?=w.heap[b]?):bd P S' w' β' D' t o:=h.fM (fun b hb=>⟨(hS b hb).1,.of (hS b hb).2⟩) hD ht hb
end
section
variable{P:Program}{S0 L:Nat→Prop}{B0:Nat→Value}{w0 w w':World}{N:Nat}{st:St}{a:Act}{β:Nat→Value}
theorem wQ (l:Array Value) (d s:Nat) (r:Value) (hd:d<l.size):(l.setIfInBounds d r).getD s undef=if s=d then r else l.getD s undef:=by
 by_cases h:s=d;·subst h;simp[Array.getD_eq_getD_getElem?,Array.getElem?_setIfInBounds_self_of_lt hd]
 ·simp[Array.getD_eq_getD_getElem?,Array.getElem?_setIfInBounds_ne (fun e=>h e.symm),h]
theorem Rel.put (h:Rel P S0 L B0 w0 N st a w β) {d:Option Nat}{r:Value}{v:AV} (hd:∀s,d=some s→s<N) (hr:RV P (aN S0 w0.heap.size β st.aa w) w β (ay st.aa) r v):Rel P S0 L B0 w0 N ⟨put d v st.vars,st.aa⟩ (a.put d r) w β:=by cases d with|none=>exact⟨h.size,h.defers,h.vars,h.heap,h.old,h.pV,h.sU,h.bM⟩|some d=>
 have hd':d<a.tmps.size:=by rw[h.size];exact hd d rfl
 refine⟨by simp[Act.put,h.size],h.defers,fun s=>?_,h.heap,h.old,h.pV,h.sU,h.bM⟩;simp only[Act.put,Ab.put];rw[wQ _ _ _ _ hd'];split;·exact hr
 ·exact h.vars s
theorem Rel.b8 (h:Rel P S0 L B0 w0 N st a w β) {vars:Nat→AV} (hv:∀s,vars s=st.vars s∨vars s=.ar):Rel P S0 L B0 w0 N ⟨vars,st.aa⟩ a w β:=⟨h.size,h.defers,fun s=>by
 rcases hv s with e|e;·rw[show(St.mk vars st.aa).vars s=vars s from rfl,e];exact h.vars s
 ·rw[show(St.mk vars st.aa).vars s=vars s from rfl,e];exact .ar _,h.heap,h.old,h.pV,h.sU,h.bM⟩
structure Za (w w':World):Prop where
 heap:w'.heap=w.heap
 os:w'.os=w.os
 tape:w'.tape=w.tape
 output:w'.output=w.output
theorem C2 {S0:Nat→Prop}{n0:Nat}{aa:Nat→Option AO} (hw:w'.heap=w.heap):aN S0 n0 β aa w'=aN S0 n0 β aa w:=by funext b;simp[aN,hw]
theorem Rel.same (h:Rel P S0 L B0 w0 N st a w β) (hw:Za w w'):Rel P S0 L B0 w0 N st a w' β:=by have hm:∀b,aN S0 w0.heap.size β st.aa w b→aN S0 w0.heap.size β st.aa w' b∧w'.heap[b]?=w.heap[b]?:=fun b hb=>⟨by rw[C2 hw.heap];exact hb,by rw[hw.heap]⟩;have hD:∀t,ay st.aa t→ay st.aa t∧β t=β t:=fun t ht=>⟨ht,rfl⟩;exact⟨h.size,h.defers,fun s=>(h.vars s).mono hm hD,⟨fun t o ho=>(h.heap.holds t o ho).mono hm hD rfl (fun b _=>by rw[hw.heap]),h.heap.inj⟩,h.old,h.pV,h.sU,⟨hw.os.trans h.bM.os,hw.tape.trans h.bM.tape,hw.output.trans h.bM.output,by rw[hw.heap];exact h.bM.size,fun b h1 h2=>by rw[hw.heap];exact h.bM.block b h1 h2⟩⟩
theorem Rel.drew (h:Rel P S0 L B0 w0 N st a w β):Rel P S0 L B0 w0 N st a w.drew β:=h.same ⟨rfl,rfl,rfl,rfl⟩
theorem bd.lt {S:Nat→Prop}{D:Nat→Prop}{t:Nat}{o:AO} (h:bd P S w β D t o):∀b,b9 (β t)=some b→b<w.heap.size:=by intro b hb;cases o with
 |box cs=>obtain⟨b',us,ty,hp,hh,_⟩:=h;rw[hp]at hb;simp[b9]at hb;subst hb;exact(Array.getElem?_eq_some_iff.1 hh).1|arr e rows=>
  obtain⟨inf,us,hi,hown,_⟩:=h;rcases hown.2 with⟨h0,_⟩|⟨g,cap,cur,hv,h1,h2,_⟩;·rw[h0]at hb;simp[b9]at hb
  ·rw[hv]at hb;simp[b9]at hb;subst hb;exact(Array.getElem?_eq_some_iff.1 h2).1|map es=>obtain⟨b',us,c,hp,hh,_⟩:=h;rw[hp]at hb;simp[b9]at hb;subst hb;exact(Array.getElem?_eq_some_iff.1 hh).1|rws e cs=>
  obtain⟨inf,us,hi,_,hown,_⟩:=h;rcases hown.2 with⟨h0,_⟩|⟨g,cap,cur,hv,h1,h2,_⟩;·rw[h0]at hb;simp[b9]at hb
  ·rw[hv]at hb;simp[b9]at hb;subst hb;exact(Array.getElem?_eq_some_iff.1 h2).1|gr es=>obtain⟨b',us,c,hp,hh,_⟩:=h;rw[hp]at hb;simp[b9]at hb;subst hb;exact(Array.getElem?_eq_some_iff.1 hh).1|lU rem cur=>obtain⟨r,m,us,c,seen,hp,hh,_⟩:=h;rw[hp]at hb;simp[b9]at hb;subst hb;exact(Array.getElem?_eq_some_iff.1 hh).1
theorem Rel.lt (h:Rel P S0 L B0 w0 N st a w β) {t:Nat} (ht:ay st.aa t) {b:Nat} (hb:b9 (β t)=some b):b<w.heap.size:=by obtain⟨o,ho⟩:=ht;exact(h.heap.holds t o ho).lt b hb
def dM (β:Nat→Value) (t:Nat) (v:Value):Nat→Value:=fun s=>if s=t then v else β s
theorem aM (β:Nat→Value) (t:Nat) (v:Value):dM β t v t=v:=by simp[dM]
theorem ct (β:Nat→Value) {t s:Nat} (v:Value) (h:s≠t):dM β t v s=β s:=by simp[dM,h]
theorem bK {t s:Nat}{o:AO}{aa:Nat→Option AO}:ay (aH t o aa) s↔s=t∨ay aa s:=by
 unfold ay aH;by_cases h:s=t;·simp[h]
 ·simp[h]
theorem Rel.fresh (h:Rel P S0 L B0 w0 N st a w β) {t:Nat} (htN:t<N) (ht:st.aa t=none) (hg:w.grownBy w' none) {v:Value} (hv:∀b,b9 v=some b→w.heap.size≤b) {o:AO} (ho:bd P (aN S0 w0.heap.size (dM β t v) (aH t o st.aa) w') w' (dM β t v) (ay (aH t o st.aa)) t o):Rel P S0 L B0 w0 N ⟨st.vars,aH t o st.aa⟩ a w' (dM β t v):=by
 have hne:∀s,ay st.aa s→s≠t:=fun s ⟨o',ho'⟩ e=>by subst e;rw[ht]at ho';cases ho'
 have hsame:∀b,b<w.heap.size→w'.heap[b]?=w.heap[b]?:=fun b hb=>hg.block b hb (by simp);have hm:∀b,aN S0 w0.heap.size β st.aa w b→aN S0 w0.heap.size (dM β t v) (aH t o st.aa) w' b∧w'.heap[b]?=w.heap[b]?:=by
  intro b hb;obtain⟨h1,h2,h3⟩:=hb;refine⟨⟨h1,Nat.lt_of_lt_of_le h2 hg.size,?_⟩,hsame b h2⟩;rintro⟨s,o',hs,hbs⟩;by_cases e:s=t;·subst e;rw[aM]at hbs;have:=hv b hbs;omega
  ·rw[ct _ _ e]at hbs;exact h3 ⟨s,o',by simpa[aH,e]using hs,hbs⟩
 have hD:∀s,ay st.aa s→ay (aH t o st.aa) s∧dM β t v s=β s:=fun s hs=>⟨bK.2 (.inr hs),ct _ _ (hne s hs)⟩;refine⟨h.size,h.defers,fun s=>(h.vars s).mono hm hD,⟨fun s o' hs=>?_,?_⟩,?_,h.pV,fun s h9 hs=>?_,?_⟩
 ·by_cases e:s=t
  ·subst e;have:o'=o:=by simpa[aH]using hs.symm
   subst this;exact ho
  ·have hs':st.aa s=some o':=by simpa[aH,e]using hs
   exact(h.heap.holds s o' hs').mono hm hD (ct _ _ e) (fun b hb=>hsame b (h.lt ⟨o',hs'⟩ hb))
 ·intro s s' b hs hs' hb hb';by_cases e:s=t<;>by_cases e':s'=t;·rw[e,e']
  ·subst e;rw[aM]at hb;rw[ct _ _ e']at hb';have:=h.lt ((bK.1 hs').resolve_left e') hb';have:=hv b hb;omega
  ·subst e';rw[aM]at hb';rw[ct _ _ e]at hb;have:=h.lt ((bK.1 hs).resolve_left e) hb;have:=hv b hb';omega
  ·rw[ct _ _ e]at hb;rw[ct _ _ e']at hb';exact h.heap.inj s s' b ((bK.1 hs).resolve_left e) ((bK.1 hs').resolve_left e') hb hb'
 ·intro s b hs hb;by_cases e:s=t;·subst e;rw[aM]at hb;have:=hv b hb;have:=h.bM.size;exact .inl (by omega)
  ·rw[ct _ _ e]at hb;exact h.old s b ((bK.1 hs).resolve_left e) hb
 ·have hst:s≠t:=fun e=>by have:=h.pV;subst e;omega
  rw[ct _ _ hst];exact h.sU s h9 ((bK.1 hs).resolve_left hst)
 ·exact⟨hg.os.trans h.bM.os,hg.tape.trans h.bM.tape,hg.output.trans h.bM.output,Nat.le_trans h.bM.size hg.size,fun b h1 h2=>(hsame b (by have:=h.bM.size;omega)).trans (h.bM.block b h1 h2)⟩
theorem Rel.jo (h:Rel P S0 L B0 w0 N st a w β) {t:Nat} (ht:st.aa t=none) (hg:w.grownBy w' none) {v:Value} (hv:∀b,b9 v=some b→w.heap.size≤b) {o:AO}:(∀b,aN S0 w0.heap.size β st.aa w b→aN S0 w0.heap.size (dM β t v) (aH t o st.aa) w' b∧w'.heap[b]?=w.heap[b]?)∧(∀s,ay st.aa s→ay (aH t o st.aa) s∧dM β t v s=β s):=by
 have hne:∀s,ay st.aa s→s≠t:=fun s ⟨o',ho'⟩ e=>by subst e;rw[ht]at ho';cases ho'
 refine⟨fun b hb=>?_,fun s hs=>⟨bK.2 (.inr hs),ct _ _ (hne s hs)⟩⟩;obtain⟨h1,h2,h3⟩:=hb;refine⟨⟨h1,Nat.lt_of_lt_of_le h2 hg.size,?_⟩,hg.block b h2 (by simp)⟩;rintro⟨s,o',hs,hbs⟩;by_cases e:s=t;·subst e;rw[aM]at hbs;have:=hv b hbs;omega
 ·rw[ct _ _ e]at hbs;exact h3 ⟨s,o',by simpa[aH,e]using hs,hbs⟩
theorem Rel.uI (h:Rel P S0 L B0 w0 N st a w β) {t:Nat}{o o':AO} (ht:st.aa t=some o) {b:Nat} (hb:b9 (β t)=some b) (hos:w'.os=w.os) (htape:w'.tape=w.tape) (hout:w'.output=w.output) (hsz:w'.heap.size=w.heap.size) (hother:∀k,k≠b→w'.heap[k]?=w.heap[k]?) (ho:bd P (aN S0 w0.heap.size β (aH t o' st.aa) w') w' β (ay (aH t o' st.aa)) t o'):Rel P S0 L B0 w0 N ⟨st.vars,aH t o' st.aa⟩ a w' β∧(∀u x,RV P (aN S0 w0.heap.size β st.aa w) w β (ay st.aa) u x→RV P (aN S0 w0.heap.size β (aH t o' st.aa) w') w' β (ay (aH t o' st.aa)) u x):=by
 have hlive:∀k,live β (aH t o' st.aa) k↔live β st.aa k:=by
  intro k;constructor
  ·rintro⟨s,x,hs,hk⟩;by_cases e:s=t;·subst e;exact⟨s,o,ht,hk⟩
   ·exact⟨s,x,by simpa[aH,e]using hs,hk⟩
  ·rintro⟨s,x,hs,hk⟩;by_cases e:s=t;·subst e;exact⟨s,o',by simp[aH],hk⟩
   ·exact⟨s,x,by simpa[aH,e]using hs,hk⟩
 have hm:∀k,aN S0 w0.heap.size β st.aa w k→aN S0 w0.heap.size β (aH t o' st.aa) w' k∧w'.heap[k]?=w.heap[k]?:=by intro k hk;obtain⟨h1,h2,h3⟩:=hk;have hkb:k≠b:=fun e=>h3 ⟨t,o,ht,by rw[e];exact hb⟩;exact⟨⟨h1,by omega,fun hl=>h3 ((hlive k).1 hl)⟩,hother k hkb⟩
 have hdt:ay st.aa t:=⟨o,ht⟩;have hD:∀s,ay st.aa s→ay (aH t o' st.aa) s∧β s=β s:=fun s hs=>⟨bK.2 (.inr hs),rfl⟩;have hdom:∀s,ay (aH t o' st.aa) s→ay st.aa s:=fun s hs=>by
  rcases bK.1 hs with e|e;·rw[e];exact hdt
  ·exact e
 refine⟨⟨h.size,h.defers,fun s=>(h.vars s).mono hm hD,⟨fun s x hs=>?_,fun s s' k hs hs'=>h.heap.inj s s' k (hdom s hs) (hdom s' hs')⟩,fun s k hs=>h.old s k (hdom s hs),h.pV,fun s h9 hs=>h.sU s h9 (hdom s hs),?_⟩,fun u x hx=>hx.mono hm hD⟩
 ·by_cases e:s=t
  ·subst e;have:x=o':=by simpa[aH]using hs.symm
   subst this;exact ho
  ·have hs':st.aa s=some x:=by simpa[aH,e]using hs
   exact(h.heap.holds s x hs').mono hm hD rfl (fun k hk=>hother k fun ek=>e (h.heap.inj s t b ⟨x,hs'⟩ hdt (by rw[←ek];exact hk) hb))
 ·exact⟨hos.trans h.bM.os,htape.trans h.bM.tape,hout.trans h.bM.output,by rw[hsz];exact h.bM.size,fun k h1 h2=>by
   have hkb:k≠b:=by
    rintro rfl;rcases h.old t k hdt hb with hx|hx;·omega
    ·exact h2 hx
   exact(hother k hkb).trans (h.bM.block k h1 h2)⟩
end
section
variable{P:Program} (w:World)
theorem uW (t tx ty e:TypeId) (i:TypeInfo) (z:Value) (ht:P.underlying t=some (.slice e)) (hi:P.info? e=some i) (hz:i.zero=some z) (hzs:z.cells.size=i.size) (hsz:0<i.size) (v:Value) (n:Nat) (xs:List Value) (hown:w.ownsRow 0 e i.size v n xs) (x:Value) (m:Nat) (news:List Value) (hs:Src P i.size tx x m news w) (h63:n+m≤maxLen) (hbytes:(n+m)*i.bytes≤140737488355328):∃v' w',(Builtin.append_ #[t,tx] ty #[v,x]).run P w=.ok v' w'∧w'.ownsRow 0 e i.size v' (n+m) (xs++news)∧w.grownBy w' v.ownBlock∧(v'.ownBlock=v.ownBlock∨v'.ownBlock=some w.heap.size)∧w'.ownsRow 0 e i.size v n xs:=by
 have hl:=hs.newsLen;have hlen:(xs++news).length=(n+m)*i.size:=by rw[List.length_append,hown.1,hl,Nat.add_mul]
 have grown:∀(old:Nat),old<n+m→∀(row:Option Nat),(w.drew.alloc (.cells ((xs++news).toArray++Builtin.zeroCells z.cells (grownCap w (n+m) old e-(n+m))) e)).ownsRow 0 e i.size (.slice (some ⟨w.heap.size,0,none⟩) (n+m) (grownCap w (n+m) old e)) (n+m) (xs++news)∧w.grownBy (w.drew.alloc (.cells ((xs++news).toArray++Builtin.zeroCells z.cells (grownCap w (n+m) old e-(n+m))) e)) row:=by
  intro old ho row;have hge:=grownCap_ge w (n+m) old e;have hcm:grownCap w (n+m) old e≤maxLen:=grownCap_le_maxLen w (n+m) old e h63;refine⟨⟨hlen,.inr ⟨w.heap.size,_,_,rfl,Nat.zero_le _,heap_alloc_new w.drew _,hge,hcm,?_,?_⟩⟩,⟨rfl,rfl,rfl,by simp,fun k hk _=>Below.heap_alloc w.drew _ k hk⟩⟩;·simp only[Array.size_append,List.size_toArray,size_zeroCells,hzs,hlen,←Nat.add_mul];congr 1;omega
  ·simp only[Array.toList_append];rw[←hlen];exact List.take_left
 have hsmall:((n+m:Nat):Int)≤9223372036854775807:=by simp only[maxLen]at h63;omega
 rcases hown.2 with⟨rfl,rfl⟩|⟨g,cap,cur,rfl,hbg,hg,hnc,hcm,hcs,htake⟩
 ·have hx:xs=[]:=List.eq_nil_of_length_eq_zero (by simpa using hown.1);subst hx;by_cases hm:m=0;·subst hm;have hn:news=[]:=List.eq_nil_of_length_eq_zero (by simpa using hl);subst hn;exact⟨.slice none 0 0,w,run_append_nothing w t tx ty e i ht hi none 0 0 (Nat.le_refl _) x hs,World.ownsRow_nil w 0 e i.size,⟨rfl,rfl,rfl,Nat.le_refl _,fun _ _ _=>rfl⟩,Or.inl rfl,hown⟩
  ·have hr:=run_append_grow_src (P:=P) w t tx ty e i z ht hi hz none 0 0 [] (by simp[Builtin.firstCells]) x m news hs (by omega) hsmall (growslice_fits (by omega) hbytes);have hgr:=grown 0 (by omega) (Value.ownBlock (.slice none 0 0));exact⟨_,_,hr,hgr.1,hgr.2,Or.inr rfl,by simp,.inl ⟨rfl,rfl⟩⟩
 ·by_cases hroom:n+m≤cap
  ·have hfit:n*i.size+news.length≤cur.size:=by rw[hl,hcs,←Nat.add_mul];exact Nat.mul_le_mul_right _ hroom
   have hst:=run_storeCells_at P g (n*i.size) e news 0 cur w hg (by simpa using hfit) hs.one;simp only[Nat.add_zero]at hst;have hr:(Builtin.append_ #[t,tx] ty #[.slice (some ⟨g,0,none⟩) n cap,x]).run P w=.ok (.slice (some ⟨g,0,none⟩) (n+m) cap) (w.setRow g (cur.toList.take (n*i.size)++news++cur.toList.drop (n*i.size+news.length)).toArray):=by rcases hs.kind with⟨e',hk⟩|hk<;>simp[Builtin.append_,run_underlying ht,run_underlying hk,sizeOf,typeInfo,hi,hs.len,hroom,hs.cells,Addr.add_lit,hst]
   refine⟨_,_,hr,⟨hlen,.inr ⟨g,cap,_,rfl,Nat.zero_le _,setRow_heap w g cur _ e _ hg,hroom,hcm,?_,?_⟩⟩,⟨rfl,rfl,rfl,by simp,fun k _ hk=>setRow_other w g k _ (fun e=>hk (by simp[Value.ownBlock,e]))⟩,Or.inl rfl,?_⟩;·simp only[List.size_toArray,List.length_append,List.length_take,List.length_drop,Array.length_toList];omega
   ·rw[htake,←hlen];exact List.take_left
   ·refine⟨hown.1,.inr ⟨g,cap,_,rfl,Nat.zero_le _,setRow_heap w g cur _ e _ hg,hnc,hcm,?_,?_⟩⟩;·simp only[List.size_toArray,List.length_append,List.length_take,List.length_drop,Array.length_toList];omega
    ·rw[htake,←hown.1];simp only[List.append_assoc];exact List.take_left
  ·have holds:∀j u,xs[j]?=some u→w.cell? ((⟨g,0,none⟩:Addr).add j)=some u:=hown.cells (g:=g) rfl;have hold:(Builtin.firstCells i.size n (.slice (some ⟨g,0,none⟩) n cap)).run P w.drew=.ok xs.toArray w.drew:=run_firstCells_some w.drew i.size n ⟨g,0,none⟩ n cap xs hown.1 (by simpa using holds);have hr:=run_append_grow_src (P:=P) w t tx ty e i z ht hi hz (some ⟨g,0,none⟩) n cap xs hold x m news hs (by omega) hsmall (growslice_fits (by omega) hbytes);have hgr:=grown cap (by omega) (Value.ownBlock (.slice (some ⟨g,0,none⟩) n cap));have hgn:=(grown cap (by omega) none).2;exact⟨_,_,hr,hgr.1,hgr.2,Or.inr rfl,hown.1,.inr ⟨g,cap,cur,rfl,hbg,(hgn.block g (Array.getElem?_eq_some_iff.1 hg).1 (by simp)).trans hg,hnc,hcm,hcs,htake⟩⟩
end
theorem en (t:Nat):∀(cs:List AV) (i:Nat),(bO t cs)[i]?=(cs[i]?).map (bU t)|[],i=>by simp[bO]|c::cs,0=>by simp[bO]|c::cs,i+1=>by simp[bO,en t cs i]
theorem dx (t:Nat):∀cs:List AV,(bO t cs).length=cs.length|[]=>rfl|c::cs=>by simp[bO,dx t cs]
section
variable{P:Program}{S S':Nat→Prop}{w w':World}{β β':Nat→Value}{D D':Nat→Prop}{t:Nat}
theorem RV.bU {v:Value}{x:AV} (h:RV P S w β D v x) (hp:∀b,β t≠.pointer (some ⟨b,0,none⟩)) (hS:∀b,S b→S' b∧w'.heap[b]?=w.heap[b]?) (hD:∀s,D s→s≠t→D' s∧β' s=β s):RV P S' w' β' D' v (bU t x):=by cases h with
 |pv v p h=>exact .pv _ _ (h.mono hS)|own s h=>
  simp only[Ab.bU];split;·exact .ar _
  ·rename_i hne;rw[←(hD s h hne).2];exact .own s (hD s h hne).1|ptr s o b h hb=>have hne:s≠t:=fun e=>hp b (by rw[←e];exact hb);exact .ptr s o b (hD s h hne).1 ((hD s h hne).2.trans hb)|aR s e i o b n c inf h hi hb=>
  simp only[Ab.bU];split;·exact .ar _
  ·rename_i hne;exact .aR s e i o b n c inf (hD s h hne).1 hi ((hD s h hne).2.trans hb)|sub v s e lo hi inf A A1 n c h hi' hb h1 h2 h3 h4 h5 hv=>
  simp only[Ab.bU];split;·exact .ar _
  ·rename_i hne;exact .sub v s e lo hi inf A A1 n c (hD s h hne).1 hi' ((hD s h hne).2.trans hb) h1 h2 h3 h4 h5 hv|rp ad cs us h1 h2 h3 h4=>exact .rp ad cs us (hS _ h1).1 (fun j hj=>(tG (hS _ h1).2 _).trans (h2 j hj)) h3 (fun j p hp=>(h4 j p hp).mono hS)|agg cs us hl h=>exact .ar _|aL cs us hl h=>exact .ar _|bA f cs us hl h=>cases cs with|nil=>refine .bA f [] us hl ?_;intro i c u hc;simp at hc|cons c cs=>exact .ar _
 |b5 g v av h=>exact .ar _|ar v=>exact .ar _
theorem RV.kill {v:Value}{x:AV} (h:RV P S w β D v x) (hp:∀b,β t≠.pointer (some ⟨b,0,none⟩)) (hS:∀b,S b→S' b∧w'.heap[b]?=w.heap[b]?) (hD:∀s,D s→s≠t→D' s∧β' s=β s):RV P S' w' β' D' v (kill t x):=by induction h with|agg cs us hl h _=>refine .agg _ us (by rw[dx];exact hl) fun i c u hc hu=>?_;rw[en]at hc;obtain⟨c',hc',rfl⟩:=Option.map_eq_some_iff.1 hc;exact(h i c' u hc' hu).bU hp hS hD|aL cs us hl h _=>refine .aL _ us (by rw[dx];exact hl) fun i c u hc hu=>?_;rw[en]at hc;obtain⟨c',hc',rfl⟩:=Option.map_eq_some_iff.1 hc;exact(h i c' u hc' hu).bU hp hS hD|pv v p h=>exact RV.bU (x:=.pv p) (.pv v p h) hp hS hD|own s h=>exact RV.bU (x:=.own s) (.own s h) hp hS hD|ptr s o b h hb=>exact RV.bU (x:=.ptr s o) (.ptr s o b h hb) hp hS hD|aR s e i o b n c inf h hi hb=>exact RV.bU (x:=.aR s e i o) (.aR s e i o b n c inf h hi hb) hp hS hD|sub v s e lo hi inf A A1 n c h hi' hb h1 h2 h3 h4 h5 hv=>exact RV.bU (x:=.sub s e lo hi) (.sub v s e lo hi inf A A1 n c h hi' hb h1 h2 h3 h4 h5 hv) hp hS hD|rp ad cs us h1 h2 h3 h4=>exact RV.bU (x:=.rp cs) (.rp ad cs us h1 h2 h3 h4) hp hS hD|bA f cs us hl h _=>exact RV.bU (x:=.bA f cs) (.bA f cs us hl h) hp hS hD|b5 g v av h hu ih=>exact .b5 g v _ (fun hg=>ih hg) hu|ar v=>exact .ar _
theorem bd.kill {s:Nat}{o:AO} (h:bd P S w β D s o) (hp:∀b,β t≠.pointer (some ⟨b,0,none⟩)) (hS:∀b,S b→S' b∧w'.heap[b]?=w.heap[b]?) (hD:∀s,D s→s≠t→D' s∧β' s=β s) (ht:β' s=β s) (hb:∀b,b9 (β s)=some b→w'.heap[b]?=w.heap[b]?):bd P S' w' β' D' s (dp t o):=by cases o with
 |box cs=>obtain⟨b,us,ty,hpt,hh,hl,hc⟩:=h;refine⟨b,us,ty,ht.trans hpt,(hb b (by rw[hpt];rfl)).trans hh,by rw[dx];exact hl,fun i c u h1 h2=>?_⟩;rw[en]at h1;obtain⟨c',hc',rfl⟩:=Option.map_eq_some_iff.1 h1;exact⟨(hc i c' u hc' h2).1,(hc i c' u hc' h2).2.bU hp hS hD⟩|arr e rows=>
  obtain⟨inf,us,hi,hown,hr,hc⟩:=h;refine⟨inf,us,hi,?_,hr,fun i j r p h1 h2=>?_⟩
  ·rw[ht];refine⟨hown.1,?_⟩;rcases hown.2 with h0|⟨g,cap,cur,hv,h1,h2,h3,h4,h5,h6⟩;·exact .inl h0
   ·exact .inr ⟨g,cap,cur,hv,h1,(hb g (by rw[hv];rfl)).trans h2,h3,h4,h5,h6⟩
  ·obtain⟨u,h3,h4,h5⟩:=hc i j r p h1 h2;exact⟨u,h3,h4,h5.mono hS⟩|map es=>obtain⟨b,us,c,hp',hh,hl,hc⟩:=h;exact⟨b,us,c,ht.trans hp',(hb b (by rw[hp'];rfl)).trans hh,hl,fun i e u h1 h2=>⟨(hc i e u h1 h2).1,(hc i e u h1 h2).2.mono hS fun _ hf=>hf.elim⟩⟩|gr es=>exact bd.mono (D:=fun _=>False) (show bd P S w β (fun _=>False) s (.gr es) from h) hS (fun _ hf=>hf.elim) ht hb|lU rem cur=>exact bd.mono (D:=fun _=>False) (show bd P S w β (fun _=>False) s (.lU rem cur) from h) hS (fun _ hf=>hf.elim) ht hb|rws e cs=>
  obtain⟨inf,us,hi,h1s,hown,hc⟩:=h;refine⟨inf,us,hi,h1s,?_,fun i c u h1 h2=>?_⟩
  ·rw[ht,dx];refine⟨hown.1,?_⟩;rcases hown.2 with h0|⟨g,cap,cur,hv,h1,h2,h3,h4,h5,h6⟩;·exact .inl h0
   ·exact .inr ⟨g,cap,cur,hv,h1,(hb g (by rw[hv];rfl)).trans h2,h3,h4,h5,h6⟩
  ·rw[en]at h1;obtain⟨c',hc',rfl⟩:=Option.map_eq_some_iff.1 h1;exact⟨(hc i c' u hc' h2).1,(hc i c' u hc' h2).2.bU hp hS hD⟩
end
theorem iA {w:World}{b:Nat}{e:TypeId}{sz n:Nat}{v:Value}{us:List Value} (h:w.ownsRow b e sz v n us):b9 v=v.ownBlock∧∀b',v≠.pointer (some ⟨b',0,none⟩):=by
 rcases h.2 with⟨rfl,_⟩|⟨g,cap,cur,rfl,_⟩;·exact⟨rfl,fun _ e=>by cases e⟩
 ·exact⟨rfl,fun _ e=>by cases e⟩
theorem nT {t s:Nat}{aa:Nat→Option AO}:ay (db t aa) s↔ay aa s:=by
 unfold ay db;constructor;·rintro⟨o,ho⟩;obtain⟨o',h,_⟩:=Option.map_eq_some_iff.1 ho;exact⟨o',h⟩
 ·rintro⟨o,ho⟩;exact⟨dp t o,by rw[ho];rfl⟩
section
variable{P:Program}{S0 L:Nat→Prop}{B0:Nat→Value}{w0 w w':World}{N:Nat}{st:St}{a:Act}{β:Nat→Value}
theorem Rel.app (h:Rel P S0 L B0 w0 N st a w β) {t:Nat}{e:TypeId}{rows more:List (List PV)} (ht9:t%1000≠999) (ht:st.aa t=some (.arr e rows)) {inf:TypeInfo}{us news:List Value} (hi:P.info? e=some inf) (hown:w.ownsRow 0 e inf.size (β t) rows.length us) (hrows:∀r,r∈rows→r.length=inf.size) (hcs:∀(i j:Nat) (r:List PV) (p:PV),rows[i]?=some r→r[j]?=some p→∃u,us[i*inf.size+j]?=some u∧u.oneCell'=true∧de (aN S0 w0.heap.size β st.aa w) w u p) (hmore:∀r,r∈more→r.length=inf.size) (hms:∀(i j:Nat) (r:List PV) (p:PV),more[i]?=some r→r[j]?=some p→∃u,news[i*inf.size+j]?=some u∧u.oneCell'=true∧de (aN S0 w0.heap.size β st.aa w) w u p) {v':Value} (hown':w'.ownsRow 0 e inf.size v' (rows.length+more.length) (us++news)) (hg:w.grownBy w' (β t).ownBlock) (hb:v'.ownBlock=(β t).ownBlock∨v'.ownBlock=some w.heap.size):Rel P S0 L B0 w0 N ⟨cj t st.vars,aH t (.arr e (rows++more)) (db t st.aa)⟩ a w' (dM β t v'):=by
 have hdt:ay st.aa t:=⟨_,ht⟩;have hbt:=(iA hown).1;have hbt':=(iA hown').1;have hp:=(iA hown).2;have hdom:∀s,ay (aH t (.arr e (rows++more)) (db t st.aa)) s→ay st.aa s:=fun s hs=>by
  rcases bK.1 hs with e|e;·rw[e];exact hdt
  ·exact nT.1 e
 have hv'lt:∀b,b9 v'=some b→b<w'.heap.size:=fun b hb'=>(hown'.lt b (by rw[←hbt'];exact hb')).2;have hm:∀b,aN S0 w0.heap.size β st.aa w b→aN S0 w0.heap.size (dM β t v') (aH t (.arr e (rows++more)) (db t st.aa)) w' b∧w'.heap[b]?=w.heap[b]?:=by
  intro b ⟨h1,h2,h3⟩;have hbne:some b≠(β t).ownBlock:=fun e'=>h3 ⟨t,_,ht,by rw[hbt,←e']⟩;refine⟨⟨h1,Nat.lt_of_lt_of_le h2 hg.size,?_⟩,hg.block b h2 hbne⟩;rintro⟨s,o,hs,hbs⟩;by_cases e':s=t
  ·subst e';rw[aM,hbt']at hbs;rcases hb with hb|hb;·exact hbne (by rw[←hb,hbs])
   ·rw[hb]at hbs;injection hbs with hbs;omega
  ·rw[ct _ _ e']at hbs;have hs':db t st.aa s=some o:=by simpa[aH,e']using hs
   obtain⟨o',ho'⟩:=nT.1 ⟨o,hs'⟩;exact h3 ⟨s,_,ho',hbs⟩
 have hD:∀s,ay st.aa s→s≠t→ay (aH t (.arr e (rows++more)) (db t st.aa)) s∧dM β t v' s=β s:=fun s hs hne=>⟨bK.2 (.inr (nT.2 hs)),ct _ _ hne⟩;have hblkne:∀s,ay st.aa s→s≠t→∀b,b9 (β s)=some b→w'.heap[b]?=w.heap[b]?:=fun s hs hne b hbs=>hg.block b (h.lt hs hbs) fun e'=>hne (h.heap.inj s t b hs hdt hbs (by rw[hbt,←e']));refine⟨h.size,h.defers,fun s=>(h.vars s).kill hp hm hD,⟨fun s o hs=>?_,fun s s' b hs hs' hbs hbs'=>?_⟩,fun s b hs hbs=>?_,h.pV,fun s h9 hs=>?_,?_⟩
 ·by_cases e':s=t
  ·subst e';have:o=.arr e (rows++more):=by simpa[aH]using hs.symm
   subst this;refine⟨inf,us++news,hi,?_,fun r hr=>?_,fun i j r p h1 h2=>?_⟩;·rw[aM,List.length_append];exact hown'
   ·rcases List.mem_append.1 hr with hr|hr;·exact hrows r hr
    ·exact hmore r hr
   ·by_cases hlt:i<rows.length;·rw[List.getElem?_append_left hlt]at h1;obtain⟨u,hu,h1',hr⟩:=hcs i j r p h1 h2;have hul:i*inf.size+j<us.length:=(List.getElem?_eq_some_iff.1 hu).1;exact⟨u,by rw[List.getElem?_append_left hul];exact hu,h1',hr.mono hm⟩
    ·rw[List.getElem?_append_right (by omega)]at h1;obtain⟨u,hu,h1',hr⟩:=hms (i-rows.length) j r p h1 h2;have he:i*inf.size+j-us.length=(i-rows.length)*inf.size+j:=by rw[hown.1,Nat.sub_mul];have:=Nat.mul_le_mul_right inf.size (show rows.length≤i by omega);omega
     have hle:us.length≤i*inf.size+j:=by rw[hown.1];have:=Nat.mul_le_mul_right inf.size (show rows.length≤i by omega);omega
     exact⟨u,by rw[List.getElem?_append_right hle,he];exact hu,h1',hr.mono hm⟩
  ·have hs':db t st.aa s=some o:=by simpa[aH,e']using hs
   obtain⟨o',ho',rfl⟩:=Option.map_eq_some_iff.1 hs';exact(h.heap.holds s o' ho').kill hp hm hD (ct _ _ e') (hblkne s ⟨_,ho'⟩ e')
 ·have hs1:=hdom s hs;have hs2:=hdom s' hs';by_cases e1:s=t<;>by_cases e2:s'=t;·rw[e1,e2]
  ·subst e1;rw[aM,hbt']at hbs;rw[ct _ _ e2]at hbs';rcases hb with hb|hb;·exact h.heap.inj s s' b hs1 hs2 (by rw[hbt,←hb,hbs]) hbs'
   ·have:=h.lt hs2 hbs';rw[hb]at hbs;injection hbs with hbs;omega
  ·subst e2;rw[aM,hbt']at hbs';rw[ct _ _ e1]at hbs;rcases hb with hb|hb;·exact h.heap.inj s s' b hs1 hs2 hbs (by rw[hbt,←hb,hbs'])
   ·have:=h.lt hs1 hbs;rw[hb]at hbs';injection hbs' with hbs';omega
  ·rw[ct _ _ e1]at hbs;rw[ct _ _ e2]at hbs';exact h.heap.inj s s' b hs1 hs2 hbs hbs'
 ·have hs1:=hdom s hs;by_cases e1:s=t
  ·subst e1;rw[aM,hbt']at hbs;rcases hb with hb|hb;·exact h.old s b hs1 (by rw[hbt,←hb,hbs])
   ·rw[hb]at hbs;injection hbs with hbs;have:=h.bM.size;exact .inl (by omega)
  ·rw[ct _ _ e1]at hbs;exact h.old s b hs1 hbs
 ·have hst:s≠t:=fun e=>by subst e;exact ht9 h9
  rw[ct _ _ hst];exact h.sU s h9 (hdom s hs)
 ·refine⟨hg.os.trans h.bM.os,hg.tape.trans h.bM.tape,hg.output.trans h.bM.output,Nat.le_trans h.bM.size hg.size,fun b h1 h2=>?_⟩;refine(hg.block b (by have:=h.bM.size;omega) fun e'=>?_).trans (h.bM.block b h1 h2);rcases h.old t b hdt (by rw[hbt,←e']) with hx|hx;·omega
  ·exact h2 hx
end
end Go.Proofs.YtlmkcmfmfahcfaaGreat.Ab
