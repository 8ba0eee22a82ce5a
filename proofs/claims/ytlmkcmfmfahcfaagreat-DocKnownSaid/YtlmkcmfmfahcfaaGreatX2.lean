/- How the abstract machine reckons: rewrite rules. -/
import Derived.Test.YtlmkcmfmfahcfaaGreatX1
import Derived.Deep.AppendLies
import Derived.Deep.Draws
import Derived.Maps.AppendAt
import Derived.Laws.OwnMore
import Derived.Deep.AppendSrc
import Derived.Deep.Upon
set_option linter.unusedVariables false
set_option linter.unusedSimpArgs false
set_option linter.unnecessarySimpa false
set_option maxHeartbeats 40000000
set_option maxRecDepth 100000
namespace Go.Proofs.YtlmkcmfmfahcfaaGreat.Ab.R
open Go Go.RowKit
theorem nr {α:Sort _}{a b:α} (h:a=b):a=b:=h
@[congr] theorem KT {α:Type}{o o':Option α}{K:α→Prop} (h:True→o=o'):aj o K=aj o' K:=by rw[h trivial]
@[congr] theorem H7 {P:Program}{Γ:bW}{is:List AI}{K:St→Prop}{st st':St} (h:True→st=st'):cR P Γ is K st=cR P Γ is K st':=by rw[h trivial]
@[congr] theorem Lg {P:Program}{Γ:bW}{i:AI}{K:St→Prop}{st st':St} (h:True→st=st'):cT P Γ i K st=cT P Γ i K st':=by rw[h trivial]
@[congr] theorem L4 {P:Program}{Γ:bW}{d:Option Nat}{k:AK}{xs xs':List AV}{C:bI→Prop}{aa:Nat→Option AO} (hx:True→xs=xs'):aY P Γ d k xs aa C=aY P Γ d k xs' aa C:=by rw[hx trivial]
@[congr] theorem Ov {P:Program}{Γ:bW}{c c':Bool}{d:Option Nat}{k:AK}{xs xs':List AV}{C:bI→Prop}{aa:Nat→Option AO} (hc:True→c=c') (hx:True→xs=xs'):cp P Γ c d k xs aa C=cp P Γ c' d k xs' aa C:=by rw[hx trivial,hc trivial]
@[congr] theorem P4 {P:Program}{Γ:bW}{c:AC}{K:St→Prop}{J:Exit→St→Prop}{st st':St} (h:True→st=st'):hZ P Γ c K J st=hZ P Γ c K J st':=by rw[h trivial]
@[simp↓] theorem condT {A B:Prop}:((true=true→A)∧(true=false→B))=A:=by simp
@[simp↓] theorem condF {A B:Prop}:((false=true→A)∧(false=false→B))=B:=by simp
@[simp↓] theorem OM {α:Type} (x:α) (K:α→Prop):aj (some x) K=K x:=rfl
@[simp↓] theorem NP {α:Type} (K:α→Prop):aj (none:Option α) K=False:=rfl
section
variable{P:Program}{Γ:bW}{K:St→Prop}{J:Exit→St→Prop}{vs:List (Nat×AV)}{os:List (Nat×AO)}
@[simp↓] theorem ly:hZ P Γ .skip K J ⟨look vs,ab os⟩=K ⟨look vs,ab os⟩:=rfl
@[simp↓] theorem vwp_reg {is:List AI}{bB:List Nat}:hZ P Γ (.G6 is true bB) K J ⟨look vs,ab os⟩=steps P Γ is (fun st'=>K ⟨jm bB st'.vars,st'.aa⟩) ⟨look vs,ab os⟩:=rfl
@[simp↓] theorem TN {is:List AI}{bB:List Nat}:hZ P Γ (.G6 is false bB) K J ⟨look vs,ab os⟩=cR P Γ is (fun st'=>K ⟨jm bB st'.vars,st'.aa⟩) ⟨look vs,ab os⟩:=rfl
@[simp↓] theorem N3:cR P Γ [] K ⟨look vs,ab os⟩=K ⟨look vs,ab os⟩:=rfl
@[simp↓] theorem K7 {i:AI}{is:List AI}:cR P Γ (i::is) K ⟨look vs,ab os⟩=b7 P Γ i (fun st'=>cR P Γ is K st') ⟨look vs,ab os⟩:=rfl
@[simp↓] theorem L9 {d:Option Nat}{xs:List Operand}{g:Option (Nat×Bool)}{un:List Nat}{tg:Option Nat}:b7 P Γ ⟨d,.kW,xs,g,un,tg⟩ K ⟨look vs,ab os⟩=fJ P Γ d (xs.map (ev (look vs))) g K ⟨look vs,ab os⟩:=rfl
@[simp↓] theorem Og {d:Option Nat}{k:AK}{xs:List Operand}{un:List Nat}{tg:Option Nat}:ck P Γ ⟨d,k,xs,none,un,tg⟩ K ⟨look vs,ab os⟩=cT P Γ ⟨d,k,xs,none,un,tg⟩ K ⟨look vs,ab os⟩:=rfl
@[simp↓] theorem Ns {d:Option Nat}{k:AK}{xs:List Operand}{s:Nat}{w:Bool}{un:List Nat}{tg:Option Nat}:ck P Γ ⟨d,k,xs,some (s,w),un,tg⟩ K ⟨look vs,ab os⟩=gS (fa ((xs.map (ev (look vs))).map strip)) (HW (bN (look vs s) w)) (cT P Γ ⟨d,k,xs,some (s,w),un,tg⟩ K ⟨look vs,ab os⟩) (K ((bI.put (.ch false .ay)).on d ⟨look vs,ab os⟩)):=rfl
@[congr] theorem KZ {b b' f:Bool}{A B:Prop} (h:True→b=b'):gS b f A B=gS b' f A B:=by rw[h trivial]
@[simp↓] theorem K1 {f:Bool}{A B:Prop}:gS false f A B=A:=rfl
@[simp↓] theorem Mq {f:Bool}{A B:Prop}:gS true f A B=if f=true then B else A:=rfl
def UX (P:Program) (Γ:bW) (d:Option Nat) (K:St→Prop) (st:St):FuncId×List AV→Prop|(f,ys)=>gM P f=true∧eK P Γ d f ys (dz Γ f) K st
@[simp↓] theorem ND {d:Option Nat}{xs:List AV}:fJ P Γ d xs none K ⟨look vs,ab os⟩=(au xs∧aj (kO (xs.map strip)) (UX P Γ d K ⟨look vs,ab os⟩)):=rfl
@[simp↓] theorem Z6 {d:Option Nat}{f:FuncId}{ys:List AV}:UX P Γ d K ⟨look vs,ab os⟩ (f,ys)=(gM P f=true∧eK P Γ d f ys (dz Γ f) K ⟨look vs,ab os⟩):=rfl
@[simp↓] theorem K4 {d:Option Nat}{f:FuncId}{ys:List AV}:eK P Γ d f ys none K ⟨look vs,ab os⟩=cD P Γ d f ys (ab os) fun e=>K (e.on d ⟨look vs,ab os⟩):=rfl
@[simp↓] theorem LA {d:Option Nat}{f:FuncId}{ys:List AV}{p k:Nat}:eK P Γ d f ys (some (p,k)) K ⟨look vs,ab os⟩=if k=996 then stepG Γ d f ys (je Γ f) K ⟨look vs,ab os⟩ else False:=rfl
@[congr] theorem IA {d:Option Nat}{f:FuncId}{ys ys':List AV}{o o':Option (Nat×Nat)}{st:St} (h1:True→ys=ys') (h:True→o=o'):eK P Γ d f ys o K st=eK P Γ d f ys' o' K st:=by rw[h1 trivial,h trivial]
@[simp↓] theorem L6 {d:Option Nat}{xs:List AV}{s:Nat}{w:Bool}:fJ P Γ d xs (some (s,w)) K ⟨look vs,ab os⟩=gS (fa (xs.map strip)) (HW (bN (look vs s) w)) (pL P Γ d xs s w K ⟨look vs,ab os⟩) (K ((bI.put (.ch false .ay)).on d ⟨look vs,ab os⟩)):=rfl
def SK (P:Program) (Γ:bW) (d:Option Nat) (A:Prop) (c:Bool) (K:St→Prop) (st:St):FuncId×List AV→Prop|(f,ys)=>gM P f=true∧gW P Γ d f ys A c (dz Γ f) K st
@[simp↓] theorem cloG_mk {d:Option Nat}{A:Prop}{c:Bool}{f:FuncId}{ys:List AV}:SK P Γ d A c K ⟨look vs,ab os⟩ (f,ys)=(gM P f=true∧gW P Γ d f ys A c (dz Γ f) K ⟨look vs,ab os⟩):=rfl
@[simp↓] theorem Qa {d:Option Nat}{xs:List AV}{s:Nat}{w:Bool}:pL P Γ d xs s w K ⟨look vs,ab os⟩=aj (bN (look vs s) w) fun c=>aj (kO (xs.map strip)) (SK P Γ d (au xs) c K ⟨look vs,ab os⟩):=rfl
@[simp↓] theorem IG {d:Option Nat}{f:FuncId}{ys:List AV}{A:Prop}{c:Bool}:gW P Γ d f ys A c none K ⟨look vs,ab os⟩=zJ Γ c f ys (ab os) fun e=>(c=true→A)∧K (e.on d ⟨look vs,ab os⟩):=rfl
@[simp↓] theorem HF {d:Option Nat}{f:FuncId}{ys:List AV}{A:Prop}{c:Bool}{p k:Nat}:gW P Γ d f ys A c (some (p,k)) K ⟨look vs,ab os⟩=if k=996 then(if c=true then A∧stepG Γ d f ys (je Γ f) K ⟨look vs,ab os⟩ else K ((bI.put (.ch false .ay)).on d ⟨look vs,ab os⟩)) else False:=rfl
@[congr] theorem Ha {d:Option Nat}{f:FuncId}{ys ys':List AV}{A:Prop}{c:Bool}{o o':Option (Nat×Nat)}{st:St} (h1:True→ys=ys') (h:True→o=o'):gW P Γ d f ys A c o K st=gW P Γ d f ys' A c o' K st:=by rw[h1 trivial,h trivial]
@[simp] theorem Q1 {f:FuncId}{caps args:List AV}:kO (.bJ f caps::args)=some (f,args++caps):=nr rfl
@[simp↓] theorem Ry {d:Option Nat}{xs:List Operand}{g:Option (Nat×Bool)}{un:List Nat}{tg:Option Nat}:b7 P Γ ⟨d,.nK,xs,g,un,tg⟩ K ⟨look vs,ab os⟩=ck P Γ ⟨d,.nK,xs,g,un,tg⟩ K ⟨look vs,ab os⟩:=rfl
@[simp↓] theorem OA {d:Option Nat}{xs:List Operand}{g:Option (Nat×Bool)}{un:List Nat}{tg:Option Nat}:b7 P Γ ⟨d,.pick,xs,g,un,tg⟩ K ⟨look vs,ab os⟩=ck P Γ ⟨d,.pick,xs,g,un,tg⟩ K ⟨look vs,ab os⟩:=rfl
@[simp↓] theorem QU {d:Option Nat}{xs:List Operand}{g:Option (Nat×Bool)}{un:List Nat}{tg:Option Nat}{op:BinOp}:b7 P Γ ⟨d,.bin op,xs,g,un,tg⟩ K ⟨look vs,ab os⟩=ck P Γ ⟨d,.bin op,xs,g,un,tg⟩ K ⟨look vs,ab os⟩:=rfl
@[simp↓] theorem Ru {d:Option Nat}{xs:List Operand}{g:Option (Nat×Bool)}{un:List Nat}{tg:Option Nat}{ne:Bool}:b7 P Γ ⟨d,.beq ne,xs,g,un,tg⟩ K ⟨look vs,ab os⟩=ck P Γ ⟨d,.beq ne,xs,g,un,tg⟩ K ⟨look vs,ab os⟩:=rfl
@[simp↓] theorem Rw {d:Option Nat}{xs:List Operand}{g:Option (Nat×Bool)}{un:List Nat}{tg:Option Nat}:b7 P Γ ⟨d,.not,xs,g,un,tg⟩ K ⟨look vs,ab os⟩=ck P Γ ⟨d,.not,xs,g,un,tg⟩ K ⟨look vs,ab os⟩:=rfl
@[simp↓] theorem Ss {d:Option Nat}{xs:List Operand}{g:Option (Nat×Bool)}{un:List Nat}{tg:Option Nat}:b7 P Γ ⟨d,.neg,xs,g,un,tg⟩ K ⟨look vs,ab os⟩=ck P Γ ⟨d,.neg,xs,g,un,tg⟩ K ⟨look vs,ab os⟩:=rfl
@[simp↓] theorem RB {d:Option Nat}{xs:List Operand}{g:Option (Nat×Bool)}{un:List Nat}{tg:Option Nat}{k:IntKind}:b7 P Γ ⟨d,.Bm k,xs,g,un,tg⟩ K ⟨look vs,ab os⟩=ck P Γ ⟨d,.Bm k,xs,g,un,tg⟩ K ⟨look vs,ab os⟩:=rfl
@[simp↓] theorem O2 {d:Option Nat}{xs:List Operand}{g:Option (Nat×Bool)}{un:List Nat}{tg:Option Nat}:b7 P Γ ⟨d,.Cw,xs,g,un,tg⟩ K ⟨look vs,ab os⟩=ck P Γ ⟨d,.Cw,xs,g,un,tg⟩ K ⟨look vs,ab os⟩:=rfl
@[simp↓] theorem Q2 {d:Option Nat}{xs:List Operand}{g:Option (Nat×Bool)}{un:List Nat}{tg:Option Nat}:b7 P Γ ⟨d,.len,xs,g,un,tg⟩ K ⟨look vs,ab os⟩=ck P Γ ⟨d,.len,xs,g,un,tg⟩ K ⟨look vs,ab os⟩:=rfl
@[simp↓] theorem NH {d:Option Nat}{xs:List Operand}{g:Option (Nat×Bool)}{un:List Nat}{tg:Option Nat}:b7 P Γ ⟨d,.uS,xs,g,un,tg⟩ K ⟨look vs,ab os⟩=ck P Γ ⟨d,.uS,xs,g,un,tg⟩ K ⟨look vs,ab os⟩:=rfl
@[simp↓] theorem OH {d:Option Nat}{xs:List Operand}{g:Option (Nat×Bool)}{un:List Nat}{tg:Option Nat}:b7 P Γ ⟨d,.uV,xs,g,un,tg⟩ K ⟨look vs,ab os⟩=ck P Γ ⟨d,.uV,xs,g,un,tg⟩ K ⟨look vs,ab os⟩:=rfl
@[simp↓] theorem P5 {d:Option Nat}{xs:List Operand}{g:Option (Nat×Bool)}{un:List Nat}{tg:Option Nat}{lo hi:Bool}:b7 P Γ ⟨d,.HH lo hi,xs,g,un,tg⟩ K ⟨look vs,ab os⟩=ck P Γ ⟨d,.HH lo hi,xs,g,un,tg⟩ K ⟨look vs,ab os⟩:=rfl
@[simp↓] theorem Sg {d:Option Nat}{xs:List Operand}{g:Option (Nat×Bool)}{un:List Nat}{tg:Option Nat}{o:Nat}{n:Option Nat}:b7 P Γ ⟨d,.F9 o n,xs,g,un,tg⟩ K ⟨look vs,ab os⟩=ck P Γ ⟨d,.F9 o n,xs,g,un,tg⟩ K ⟨look vs,ab os⟩:=rfl
@[simp↓] theorem Qi {d:Option Nat}{xs:List Operand}{g:Option (Nat×Bool)}{un:List Nat}{tg:Option Nat}{o:Nat}:b7 P Γ ⟨d,.rJ o,xs,g,un,tg⟩ K ⟨look vs,ab os⟩=ck P Γ ⟨d,.rJ o,xs,g,un,tg⟩ K ⟨look vs,ab os⟩:=rfl
@[simp↓] theorem N9 {d:Option Nat}{xs:List Operand}{g:Option (Nat×Bool)}{un:List Nat}{tg:Option Nat}{n:Option Nat}:b7 P Γ ⟨d,.load n,xs,g,un,tg⟩ K ⟨look vs,ab os⟩=ck P Γ ⟨d,.load n,xs,g,un,tg⟩ K ⟨look vs,ab os⟩:=rfl
@[simp↓] theorem P7 {d:Option Nat}{xs:List Operand}{g:Option (Nat×Bool)}{un:List Nat}{tg:Option Nat}{e:TypeId}{s:Nat}:b7 P Γ ⟨d,.Df e s,xs,g,un,tg⟩ K ⟨look vs,ab os⟩=ck P Γ ⟨d,.Df e s,xs,g,un,tg⟩ K ⟨look vs,ab os⟩:=rfl
@[simp↓] theorem PM {d:Option Nat}{xs:List Operand}{g:Option (Nat×Bool)}{un:List Nat}{tg:Option Nat}{e s:Nat}:b7 P Γ ⟨d,.G9 e s,xs,g,un,tg⟩ K ⟨look vs,ab os⟩=ck P Γ ⟨d,.G9 e s,xs,g,un,tg⟩ K ⟨look vs,ab os⟩:=rfl
@[simp↓] theorem R4 {d:Option Nat}{xs:List Operand}{g:Option (Nat×Bool)}{un:List Nat}{tg:Option Nat}:b7 P Γ ⟨d,.DN,xs,g,un,tg⟩ K ⟨look vs,ab os⟩=ck P Γ ⟨d,.DN,xs,g,un,tg⟩ K ⟨look vs,ab os⟩:=rfl
@[simp↓] theorem Sd {d:Option Nat}{xs:List Operand}{g:Option (Nat×Bool)}{un:List Nat}{tg:Option Nat}{s:Nat}{lo hi:Bool}:b7 P Γ ⟨d,.AX s lo hi,xs,g,un,tg⟩ K ⟨look vs,ab os⟩=ck P Γ ⟨d,.AX s lo hi,xs,g,un,tg⟩ K ⟨look vs,ab os⟩:=rfl
@[simp↓] theorem PS {d:Option Nat}{xs:List Operand}{g:Option (Nat×Bool)}{un:List Nat}{tg:Option Nat}{i:Nat}:b7 P Γ ⟨d,.ext i,xs,g,un,tg⟩ K ⟨look vs,ab os⟩=ck P Γ ⟨d,.ext i,xs,g,un,tg⟩ K ⟨look vs,ab os⟩:=rfl
@[simp↓] theorem O9 {d:Option Nat}{xs:List Operand}{g:Option (Nat×Bool)}{un:List Nat}{tg:Option Nat}{zs:List Value}{ps:List (Nat×Nat)}:b7 P Γ ⟨d,.G5 zs ps,xs,g,un,tg⟩ K ⟨look vs,ab os⟩=ck P Γ ⟨d,.G5 zs ps,xs,g,un,tg⟩ K ⟨look vs,ab os⟩:=rfl
@[simp↓] theorem PC {d:Option Nat}{xs:List Operand}{g:Option (Nat×Bool)}{un:List Nat}{tg:Option Nat}{f:FuncId}:b7 P Γ ⟨d,.Hl f,xs,g,un,tg⟩ K ⟨look vs,ab os⟩=ck P Γ ⟨d,.Hl f,xs,g,un,tg⟩ K ⟨look vs,ab os⟩:=rfl
@[simp↓] theorem NU {e:TypeId}{d:Nat}{xs:List Operand}{g:Option (Nat×Bool)}{un:List Nat}{tg:Option Nat}:b7 P Γ ⟨some d,.gF e,xs,g,un,tg⟩ K ⟨look vs,ab os⟩=cT P Γ ⟨some d,.gF e,xs,g,un,tg⟩ K (tO d ⟨look vs,ab os⟩):=rfl
@[simp↓] theorem PJ {d:Option Nat}{xs:List Operand}{g:Option (Nat×Bool)}{un:List Nat}{tg:Option Nat}:b7 P Γ ⟨d,.box,xs,g,un,tg⟩ K ⟨look vs,ab os⟩=ck P Γ ⟨d,.box,xs,g,un,tg⟩ K ⟨look vs,ab os⟩:=rfl
@[simp↓] theorem Kt {d:Option Nat}{xs:List Operand}{g:Option (Nat×Bool)}{un:List Nat}{tg:Option Nat}{zs:List Value}:b7 P Γ ⟨d,.alloc zs,xs,g,un,tg⟩ K ⟨look vs,ab os⟩=ck P Γ ⟨d,.alloc zs,xs,g,un,tg⟩ K ⟨look vs,ab os⟩:=rfl
@[congr] theorem JJ {i:AI}{st st':St} (h:True→st=st'):ck P Γ i K st=ck P Γ i K st':=by rw[h trivial]
@[simp↓] theorem RG {d:Option Nat}{xs:List Operand}{g:Option (Nat×Bool)}{un:List Nat}{tg:Option Nat}{e:TypeId}{s:Nat}:b7 P Γ ⟨d,.rB e s,xs,g,un,tg⟩ K ⟨look vs,ab os⟩=ck P Γ ⟨d,.rB e s,xs,g,un,tg⟩ K (cF ⟨look vs,ab os⟩ ((xs.map (ev (look vs))).map strip)):=rfl
@[simp↓] theorem Lq {f:FuncId}{d:Option Nat}{xs:List Operand}{s:Nat}{w:Bool}{un:List Nat}{tg:Option Nat}:b7 P Γ ⟨d,.call f,xs,some (s,w),un,tg⟩ K ⟨look vs,ab os⟩=lO P Γ ⟨d,.call f,xs,some (s,w),un,tg⟩ f s w (dz Γ f) K ⟨look vs,ab os⟩:=rfl
@[congr] theorem HO {i:AI}{f:FuncId}{s:Nat}{w:Bool}{o o':Option (Nat×Nat)}{st:St} (h:True→o=o'):lO P Γ i f s w o K st=lO P Γ i f s w o' K st:=by rw[h trivial]
@[simp↓] theorem KU {f:FuncId}{d:Option Nat}{xs:List Operand}{s s':Nat}{w w':Bool}{un:List Nat}{tg:Option Nat}:lO P Γ ⟨d,.call f,xs,some (s',w'),un,tg⟩ f s w none K ⟨look vs,ab os⟩=gS (fa ((xs.map (ev (look vs))).map strip)) (HW (bN (look vs s) w)) (aj (bN (look vs s) w) fun c=>aj (fA (ab os) ((xs.map (ev (look vs))).map strip)) fun ys=>aj (gt Γ f ys) fun x=>if Xg x.2=true then(if c=true then lF P Γ ⟨d,.call f,xs,none,[],none⟩ f K ⟨look vs,ab os⟩ else K ((bI.put (.ch false .ay)).on d ⟨look vs,ab os⟩)) else cT P Γ ⟨d,.call f,xs,some (s',w'),un,tg⟩ K ⟨look vs,ab os⟩) (K ((bI.put (.ch false .ay)).on d ⟨look vs,ab os⟩)):=rfl
@[simp↓] theorem Li {f:FuncId}{d:Option Nat}{xs:List Operand}{s s' p k:Nat}{w w':Bool}{un:List Nat}{tg:Option Nat}:lO P Γ ⟨d,.call f,xs,some (s',w'),un,tg⟩ f s w (some (p,k)) K ⟨look vs,ab os⟩=if k=996 then aj (bN (look vs s) w) fun c=>if c=true then stepG Γ d f (xs.map (ev (look vs))) (je Γ f) K ⟨look vs,ab os⟩ else K ((bI.put (.ch false .ay)).on d ⟨look vs,ab os⟩) else False:=rfl
@[simp↓] theorem N2 {f:FuncId}{d:Option Nat}{xs:List Operand}{un:List Nat}{tg:Option Nat}:b7 P Γ ⟨d,.call f,xs,none,un,tg⟩ K ⟨look vs,ab os⟩=gO P Γ ⟨d,.call f,xs,none,un,tg⟩ f (dz Γ f) K ⟨look vs,ab os⟩:=rfl
@[congr] theorem Ik {i:AI}{f:FuncId}{o o':Option (Nat×Nat)}{st:St} (h:True→o=o'):gO P Γ i f o K st=gO P Γ i f o' K st:=by rw[h trivial]
@[simp↓] theorem JT {i:AI}{f:FuncId}{st:St}:gO P Γ i f none K st=lF P Γ i f K st:=rfl
@[simp↓] theorem KD {f g:FuncId}{p k:Nat}{d:Option Nat}{xs:List Operand}{un:List Nat}{tg:Option Nat}:gO P Γ ⟨d,.call g,xs,none,un,tg⟩ f (some (p,k)) K ⟨look vs,ab os⟩=if k=997 then zZ P Γ d f (xs.map (ev (look vs))) p K ⟨look vs,ab os⟩ else if k=996 then stepG Γ d f (xs.map (ev (look vs))) (je Γ f) K ⟨look vs,ab os⟩ else kL P Γ d f (xs.map (ev (look vs))) p k K ⟨look vs,ab os⟩:=rfl
@[simp↓] theorem WD {d:Nat}{f:FuncId}{xs:List AV}{p:Nat}:zZ P Γ (some d) f xs p K ⟨look vs,ab os⟩=(au xs∧aj (qv (ab os) p (xs.map strip)) fun ys=>aj (Γ (f+1000000) ys) fun x=>x.1∧(eG (xs.map strip)=true∨flat x.2)∧(∀y∈aP d x.2,ab os y.1=none)∧cU x.2=true∧K ⟨put (some d) (cV (lW d) x.2) (look vs),bF (aP d x.2) (ab os)⟩):=rfl
@[simp] theorem ZW (aa:Nat→Option AO) (vs:List AV):qv aa 0 (.pv .nil::vs)=(fA aa vs).map (.pv .nil::·):=nr rfl
@[simp] theorem Y8 {f:FuncId}:dz Γ f=(Γ (f+1000000) [.ay]).bind fun x=>C2 x.2:=nr rfl
@[simp] theorem Sn {p k:Nat}:C2 (.ptr p k)=if k=998∨k=999∨k=997∨k=996 then some (p,k) else none:=nr rfl
@[simp↓] theorem Ui {d:Nat}{f:FuncId}{xs:List AV}{p k:Nat}:kL P Γ (some d) f xs p k K ⟨look vs,ab os⟩=(au xs∧aj ((xs.map strip)[p]?) fun X=>aj (gL (ab os) k X) fun T=>lR T.1 p (xs.map strip)∧aj (qh (fI T.1 (ab os)) (vS k T.2.1 T.2.2) p (xs.map strip)) fun ys=>aj (Γ (f+1000000) ys) fun x=>x.1∧(jx p (xs.map strip)=true∨(flat (cb x.2)∧oL (en x.2)))∧(∀y∈aP d (cb x.2),ab os y.1=none)∧cU (cb x.2)=true∧K ⟨put (some d) (cV (lW d) (cb x.2)) (gV T.1 x.2 (look vs)),bF (aP d (cb x.2)) (cH T.1 x.2 (ab os))⟩):=rfl
@[simp] def isPu:XK→Bool|.RH _=>true|.Yg|.FY _|.Gs _ _ _|.dead|.wN _|.yq|.GJ|.Ej _ _ _ _|.DH _|.Rt _ _ _|.mark|.Tr|.DJ|.YO|.EN _ _ _|.mL _ _|.dlv _|.Er _|.Xu|.nxt|.Zr=>false
def wY (d:Option Nat) (x:XK) (xs:List Operand) (K:St→Prop) (st:St):Prop:=aW d x (xs.map (ev st.vars)) K st
def Be:Bool→Prop→Prop→Prop|true,_,B=>B|false,A,_=>A
@[simp↓] theorem Lk {A B:Prop}:Be true A B=B:=rfl
@[simp↓] theorem Hw {A B:Prop}:Be false A B=A:=rfl
@[simp↓] theorem Xq {d:Option Nat}{xs:List Operand}{un:List Nat}{tg:Option Nat}{x:XK}:b7 P Γ ⟨d,.ex x,xs,none,un,tg⟩ K ⟨look vs,ab os⟩=Be (isPu x) (aW d x (xs.map (ev (look vs))) K ⟨look vs,ab os⟩) (wY d x xs K (cF ⟨look vs,ab os⟩ ((xs.map (ev (look vs))).map strip))):=by cases x<;>rfl
@[congr] theorem Jv {d:Option Nat}{x:XK}{xs:List Operand}{st st':St} (h:True→st=st'):wY d x xs K st=wY d x xs K st':=by rw[h trivial]
@[simp↓] theorem Px {d:Option Nat}{x:XK}{xs:List Operand}:wY d x xs K ⟨look vs,ab os⟩=aW d x (xs.map (ev (look vs))) K ⟨look vs,ab os⟩:=rfl
@[simp↓] theorem Sl {d:Option Nat}{xs:List Operand}{s:Nat}{w:Bool}{un:List Nat}{tg:Option Nat}{x:XK}:b7 P Γ ⟨d,.ex x,xs,some (s,w),un,tg⟩ K ⟨look vs,ab os⟩=aj (bN (look vs s) w) fun c=>if c=true then aW d x (xs.map (ev (look vs))) K ⟨look vs,ab os⟩ else K ((bI.put (.ch false .ay)).on d ⟨look vs,ab os⟩):=rfl
@[congr] theorem Jr {d:Option Nat}{x:XK}{xs xs':List AV}{st:St} (h:True→xs=xs'):aW d x xs K st=aW d x xs' K st:=by rw[h trivial]
@[simp↓] theorem NA {d:Nat}:aW (some d) .Yg [] K ⟨look vs,ab os⟩=(ab os d=none∧K ⟨put (some d) (.own d) (look vs),bF [(d,.map [])] (ab os)⟩):=rfl
@[simp↓] theorem Kr {d:Option Nat}{s t:Nat}{k v:AV}:aW d (.FY s) [.own t,k,v] K ⟨look vs,ab os⟩=zW d s t (strip k) (strip v) [.own t,k,v] K ⟨look vs,ab os⟩:=by cases hk:strip k<;>simp[aW,sU,zW,hk,strip]
@[simp↓] theorem SA {d:Option Nat}{s t:Nat}{k:PV}{v:AV}{xs:List AV}:zW d s t (.pv k) v xs K ⟨look vs,ab os⟩=(au xs∧aj (ym (ab os t)) fun es=>dk k=s∧jz s es∧dS v=true∧K ⟨put d .ay (look vs),aL t (.map (kT k v es)) (ab os)⟩):=rfl
@[congr] theorem Kn {d:Option Nat}{s t:Nat}{k k' v v':AV}{xs xs':List AV}{st:St} (h1:True→k=k') (h2:True→v=v') (h3:True→xs=xs'):zW d s t k v xs K st=zW d s t k' v' xs' K st:=by rw[h1 trivial,h2 trivial,h3 trivial]
@[simp↓] theorem YB {d:Option Nat}{s t:Nat}{z:Value}{ok:Bool}{k:PV}{xs:List AV}:T8 d s t z ok (.pv k) xs K ⟨look vs,ab os⟩=(au xs∧aj (ym (ab os t)) fun es=>dk k=s∧jz s es∧K ⟨put d (if ok=true then .aQ [(getM k es).getD (Hh z),.pv (.bool (getM k es).isSome)] else(getM k es).getD (Hh z)) (look vs),ab os⟩):=rfl
@[simp↓] theorem Ix {d:Option Nat}{s:Nat}{ks:List PV}{z:Value}{ok:Bool}{k:AV}:aW d (.Gs s z ok) [.pv (.mp ks),k] K ⟨look vs,ab os⟩=ub d s ks z ok (strip k) [.pv (.mp ks),k] K ⟨look vs,ab os⟩:=by cases hk:strip k<;>simp[aW,sU,ub,hk,strip]
@[simp↓] theorem PD {d:Option Nat}{s:Nat}{ks:List PV}{z:Value}{ok:Bool}{k:PV}{xs:List AV}:ub d s ks z ok (.pv k) xs K ⟨look vs,ab os⟩=(au xs∧u7 z=true∧dk k=s∧(∀x∈ks,dk x=s)∧K ⟨put d (if ok=true then .aQ [.agg [],.pv (.bool (ks.any (mU k)))] else .agg []) (look vs),ab os⟩):=rfl
@[congr] theorem JH {d:Option Nat}{s:Nat}{ks:List PV}{z:Value}{ok:Bool}{k k':AV}{xs xs':List AV}{st:St} (h1:True→k=k') (h3:True→xs=xs'):ub d s ks z ok k xs K st=ub d s ks z ok k' xs' K st:=by rw[h1 trivial,h3 trivial]
@[simp↓] theorem Mt {d:Option Nat}{x y:AV}:aW d .Tr [x,y] K ⟨look vs,ab os⟩=vF d (strip x) (strip y) [x,y] K ⟨look vs,ab os⟩:=rfl
@[simp↓] theorem VS {d:Option Nat}{t o q:Nat}{e:TypeId}{i:Int}{xs:List AV}:vF d (.aX t e i o) (.own q) xs K ⟨look vs,ab os⟩=(au xs∧aj (cO (ab os t)) fun r=>(r.1=e∧o=0)∧(0≤i∧i<r.2.length∧(rowAt r.2 i).length=1)∧K ⟨put d .ay (look vs),aL t (.rws e ((r.2.map fun x=>AV.pv (x.getD 0 .nil)).set i.toNat (.own q))) (ab os)⟩):=rfl
@[simp↓] theorem Lb {d:Option Nat}{x:AV}:aW d .DJ [x] K ⟨look vs,ab os⟩=sN d (strip x) [x] K ⟨look vs,ab os⟩:=rfl
@[simp↓] theorem H9 {d:Option Nat}{a b c:AV}:aW d .yq [a,b,c] K ⟨look vs,ab os⟩=qK d [a,b,c] [strip a,strip b,strip c] K ⟨look vs,ab os⟩:=rfl
@[congr] theorem JR {d:Option Nat}{xs xs' ys ys':List AV}{st:St} (h1:True→xs=xs') (h2:True→ys=ys'):qK d xs ys K st=qK d xs' ys' K st:=by rw[h1 trivial,h2 trivial]
@[simp↓] theorem Wu {d:Option Nat}{xs:List AV}{a b c:Int}:qK d xs [.pv (.int .u64 a),.pv (.int .u64 b),.pv (.int .u64 c)] K ⟨look vs,ab os⟩=(au xs∧(0≤a∧0≤b∧0≤c∧c≤1)∧K ⟨put d (.aQ [.pv (.int .u64 ((a+b+c)%18446744073709551616)),.pv (.int .u64 ((a+b+c)/18446744073709551616))]) (look vs),ab os⟩):=rfl
@[simp↓] theorem K8 {d:Option Nat}{x:AV}:aW d .GJ [x] K ⟨look vs,ab os⟩=lx d (strip x) [x] K ⟨look vs,ab os⟩:=by cases hk:strip x<;>simp[aW,sU,lx,hk];rename_i p;cases p<;>simp
@[simp↓] theorem Mx {d:Option Nat}{xs:List AV}:lx d (.pv .nil) xs K ⟨look vs,ab os⟩=(au xs∧K ⟨put d (.pv (.int .i64 0)) (look vs),ab os⟩):=rfl
@[congr] theorem HQ {d:Option Nat}{x x':AV}{xs xs':List AV}{st:St} (h1:True→x=x') (h2:True→xs=xs'):lx d x xs K st=lx d x' xs' K st:=by rw[h1 trivial,h2 trivial]
@[simp↓] theorem Oa {d:Option Nat}{e:TypeId}{b:Nat}{zs:List Value}{x y:AV}:aW d (.Rt e b zs) [x,y] K ⟨look vs,ab os⟩=Az d e b zs [x,y] [strip x,strip y] K ⟨look vs,ab os⟩:=rfl
@[simp↓] theorem J0 {d:Option Nat}{e:TypeId}{xs:List AV}:aW d (.DH e) xs K ⟨look vs,ab os⟩=yb d e xs (xs.map strip) K ⟨look vs,ab os⟩:=rfl
@[simp↓] theorem Lp {d:Option Nat}{e:TypeId}{sz:Nat}{xs:List AV}:aW d (.mL e sz) xs K ⟨look vs,ab os⟩=pA d e sz xs (xs.map strip) K ⟨look vs,ab os⟩:=rfl
@[simp↓] theorem Qx {d:Nat}{e:TypeId}{sz:Nat}{xs ys:List AV}:pA (some d) e sz xs ys K ⟨look vs,ab os⟩=(au xs∧aj (rowsOf ys) fun rows=>(∀r∈rows,r.length=sz)∧ab os d=none∧K ⟨put (some d) (.own d) (look vs),bF [(d,.arr e rows)] (ab os)⟩):=nr rfl
@[simp↓] theorem Kb {d:Option Nat}{e:TypeId}{sz b:Nat}{zs:List Value}{x y:AV}:aW d (.Ej e sz b zs) [x,y] K ⟨look vs,ab os⟩=lV d e b zs [x,y] [strip x,strip y] K ⟨look vs,ab os⟩:=rfl
@[congr] theorem Jg {d:Option Nat}{e:TypeId}{b:Nat}{zs:List Value}{xs xs' ys ys':List AV}{st:St} (h1:True→xs=xs') (h2:True→ys=ys'):lV d e b zs xs ys K st=lV d e b zs xs' ys' K st:=by rw[h1 trivial,h2 trivial]
@[simp↓] theorem QQ {d:Nat}{e:TypeId}{b:Nat}{zs:List Value}{xs:List AV}{n:Int}:lV (some d) e b zs xs [.pv .nil,.pv (.int .i64 n)] K ⟨look vs,ab os⟩=(au xs∧(0≤n∧n≤140737488355328∧n.toNat*b≤140737488355328)∧ab os d=none∧K ⟨put (some d) (.own d) (look vs),bF [(d,.arr e (List.replicate n.toNat (zs.map rD)))] (ab os)⟩):=rfl
@[simp↓] theorem ID {d:Option Nat}{ne:Bool}{x:AV}:aW d (.wN ne) [x] K ⟨look vs,ab os⟩=(au [x]∧aj (fk (ab os) (strip x)) fun rows=>F2 d ne rows K ⟨look vs,ab os⟩):=rfl
theorem th {d:Option Nat}{ne:Bool}{rows:List (List PV)}:F2 d ne rows K ⟨look vs,ab os⟩=∀b:Bool,(rows≠[]→b=false)→K ⟨put d (.pv (.bool (if ne=true then !b else b))) (look vs),ab os⟩:=rfl
@[simp↓] theorem LC {d:Option Nat}{ne:Bool}{r:List PV}{rows:List (List PV)}:F2 d ne (r::rows) K ⟨look vs,ab os⟩=K ⟨put d (.pv (.bool ne)) (look vs),ab os⟩:=by
 rw[th];apply propext;constructor;·intro h;have:=h false (fun _=>rfl);cases ne<;>exact this
 ·intro h b hb;have:=hb (by simp);subst this;cases ne<;>exact h
@[simp] theorem Pg (es:List (PV×AV)):ym (some (.map es))=some es:=nr rfl
@[simp] theorem srt_int (k:IntKind) (n:Int):dk (.int k n)=2+mK k:=nr rfl
@[simp] theorem srt_str (l:List UInt8):dk (.str l)=1:=nr rfl
@[simp] theorem YM (b:Bool):dk (.bool b)=0:=nr rfl
@[simp] theorem Y1:mK .u64=7:=nr rfl
@[simp] theorem kIdx_u8:mK .u8=4:=nr rfl
@[simp↓] theorem Pd {d:Option Nat}{xs:List Operand}{un:List Nat}{tg:Option Nat}{e:TypeId}{s:Nat}{zs:List Value}:b7 P Γ ⟨d,.Gg e s zs,xs,none,un,tg⟩ K ⟨look vs,ab os⟩=nU d e s zs (xs.map (ev (look vs))) K ⟨look vs,ab os⟩:=rfl
@[simp↓] theorem NX {d:Option Nat}{e:TypeId}{s:Nat}{zs:List Value}{xs:List AV}:nU d e s zs xs K ⟨look vs,ab os⟩=(au xs∧aj ((xs.map strip).head?) fun X=>aj (AJ (ab os) e zs X) fun r=>K ((bI.vK r.1 r.2).on d ⟨look vs,ab os⟩)):=rfl
@[simp↓] theorem Xz {f g:FuncId}{d:Option Nat}{xs:List Operand}{un:List Nat}{tg:Option Nat}:lF P Γ ⟨d,.call g,xs,none,un,tg⟩ f K ⟨look vs,ab os⟩=aj (fA (ab os) ((xs.map (ev (look vs))).map strip)) fun ys=>aj (gt Γ f ys) fun x=>if(Sf x.2&&!eG ((xs.map (ev (look vs))).map strip))=true then yQ P Γ d f xs K (cF ⟨look vs,ab os⟩ ((xs.map (ev (look vs))).map strip)) else cT P Γ ⟨d,.call g,xs,none,un,tg⟩ K ⟨look vs,ab os⟩:=rfl
@[congr] theorem KA {d:Option Nat}{f:FuncId}{xs:List Operand}{st st':St} (h:True→st=st'):yQ P Γ d f xs K st=yQ P Γ d f xs K st':=by rw[h trivial]
@[simp↓] theorem SV {d:Option Nat}{f:FuncId}{xs:List Operand}:yQ P Γ d f xs K ⟨look vs,ab os⟩=cD P Γ d f (xs.map (ev (look vs))) (ab os) fun e=>K (e.on d ⟨look vs,ab os⟩):=rfl
@[simp↓] theorem QL {d:Option Nat}{xs:List Operand}{g:Option (Nat×Bool)}{un:List Nat}{tg:Option Nat}{b:Bool}:b7 P Γ ⟨d,.DP b,xs,g,un,tg⟩ K ⟨look vs,ab os⟩=ck P Γ ⟨d,.DP b,xs,g,un,tg⟩ K ⟨look vs,ab os⟩:=rfl
@[simp↓] theorem RT {d:Option Nat}{xs:List Operand}{g:Option (Nat×Bool)}{un:List Nat}{tg:Option Nat}{ne:Bool}{ks:List Nat}:b7 P Γ ⟨d,.eqs ne ks,xs,g,un,tg⟩ K ⟨look vs,ab os⟩=ck P Γ ⟨d,.eqs ne ks,xs,g,un,tg⟩ K ⟨look vs,ab os⟩:=rfl
@[simp↓] theorem Ld {d:Option Nat}{xs:List Operand}{g:Option (Nat×Bool)}{un:List Nat}{tg:Option Nat}{n:Option Nat}:b7 P Γ ⟨d,.store n,xs,g,un,tg⟩ K ⟨look vs,ab os⟩=ck P Γ ⟨d,.store n,xs,g,un,tg⟩ K ⟨look vs,ab os⟩:=rfl
@[simp↓] theorem Qj {d:Option Nat}{xs:List Operand}{g:Option (Nat×Bool)}{un:List Nat}{e:TypeId}{s b:Nat}:b7 P Γ ⟨d,.app e s b,xs,g,un,none⟩ K ⟨look vs,ab os⟩=ck P Γ ⟨d,.app e s b,xs,g,un,none⟩ K ⟨look vs,ab os⟩:=rfl
@[simp↓] theorem Sp {d:Option Nat}{xs:List Operand}{un:List Nat}{e:TypeId}{s b:Nat}:b7 P Γ ⟨d,.app e s b,xs,none,un,some 999998⟩ K ⟨look vs,ab os⟩=if oG ((xs.map (ev (look vs))).map strip)=true then ye d e s b (xs.map (ev (look vs))) K ⟨look vs,ab os⟩ else cT P Γ ⟨d,.app e s b,xs,none,un,some 999998⟩ K ⟨look vs,ab os⟩:=rfl
@[simp↓] theorem My {d:Option Nat}{e:TypeId}{sz b:Nat}{xs:List AV}:ye d e sz b xs K ⟨look vs,ab os⟩=(au xs∧aj (FZ (ab os) e (xs.map strip)) fun r=>((r.2.1.length+r.2.2.length)*b≤140737488355328∧r.2.1.length+r.2.2.length≤maxLen∧(∀q∈r.2.2,q.length=sz))∧r.1%1000≠999∧K ⟨put d (.pv (.ro (r.2.1++r.2.2))) (Bl r.1 r.2.1 (look vs)),fI r.1 (ab os)⟩):=rfl
@[simp↓] theorem OY {d:Option Nat}{xs:List Operand}{g:Option (Nat×Bool)}{un:List Nat}{tg:Option Nat}:b7 P Γ ⟨d,.rC,xs,g,un,tg⟩ K ⟨look vs,ab os⟩=ck P Γ ⟨d,.rC,xs,g,un,tg⟩ K ⟨look vs,ab os⟩:=rfl
@[simp↓] theorem Ng {d:Option Nat}{xs:List Operand}{g:Option (Nat×Bool)}{un:List Nat}{tg:Option Nat}{e:TypeId}:b7 P Γ ⟨d,.og e,xs,g,un,tg⟩ K ⟨look vs,ab os⟩=ck P Γ ⟨d,.og e,xs,g,un,tg⟩ K ⟨look vs,ab os⟩:=rfl
@[simp↓] theorem bd {a b:AC}:hZ P Γ (.seq a b) K J ⟨look vs,ab os⟩=hZ P Γ a (fun st'=>hZ P Γ b K J st') J ⟨look vs,ab os⟩:=rfl
@[simp↓] theorem yu {x:Operand}{a b:AC}:hZ P Γ (.cond x a b) K J ⟨look vs,ab os⟩=aj (jd (ev (look vs) x)) fun c=>(c=true→hZ P Γ a K J ⟨look vs,ab os⟩)∧(c=false→hZ P Γ b K J ⟨look vs,ab os⟩):=rfl
@[simp↓] theorem aM {id:Nat}{a:AC}:hZ P Γ (.block id a) K J ⟨look vs,ab os⟩=hZ P Γ a K (oq id K J) ⟨look vs,ab os⟩:=rfl
@[simp↓] theorem NL {id id':Nat}:oq id K J (.exit id') ⟨look vs,ab os⟩=if id'=id then K ⟨look vs,ab os⟩ else J (.exit id') ⟨look vs,ab os⟩:=rfl
@[simp↓] theorem O6 {id:Nat}:oq id K J .ret ⟨look vs,ab os⟩=J .ret ⟨look vs,ab os⟩:=rfl
@[simp↓] theorem FT {id:Nat}:hZ P Γ (.exit id) K J ⟨look vs,ab os⟩=J (.exit id) ⟨look vs,ab os⟩:=rfl
@[simp↓] theorem vwp_ret:hZ P Γ .ret K J ⟨look vs,ab os⟩=J .ret ⟨look vs,ab os⟩:=rfl
@[simp↓] theorem Rm:steps P Γ [] K ⟨look vs,ab os⟩=K ⟨look vs,ab os⟩:=rfl
@[simp↓] theorem MA {i:AI}{is:List AI}:steps P Γ (i::is) K ⟨look vs,ab os⟩=cI P Γ i (fun st'=>steps P Γ is K st') ⟨look vs,ab os⟩:=rfl
@[simp↓] theorem MS {d:Option Nat}{k:AK}{xs:List Operand}{g:Option (Nat×Bool)}{un:List Nat}:cI P Γ ⟨d,k,xs,g,un,none⟩ K ⟨look vs,ab os⟩=cT P Γ ⟨d,k,xs,g,un,none⟩ K ⟨look vs,ab os⟩:=by cases k<;>rfl
@[simp↓] theorem K3 {d:Option Nat}{n:Option Nat}{xs:List Operand}{g:Option (Nat×Bool)}{un:List Nat}{tg:Option Nat}:cI P Γ ⟨d,.store n,xs,g,un,tg⟩ K ⟨look vs,ab os⟩=cT P Γ ⟨d,.store n,xs,g,un,tg⟩ K ⟨look vs,ab os⟩:=rfl
@[simp↓] theorem NQ {d:Option Nat}{f:FuncId}{xs:List Operand}{un:List Nat}:cI P Γ ⟨d,.call f,xs,none,un,some 999999⟩ K ⟨look vs,ab os⟩=gQ P Γ ⟨d,.call f,xs,none,un,some 999999⟩ f (dz Γ f) K ⟨look vs,ab os⟩:=rfl
@[simp↓] theorem OT {d:Option Nat}{xs:List Operand}{un:List Nat}:cI P Γ ⟨d,.kW,xs,none,un,some 999999⟩ K ⟨look vs,ab os⟩=fJ P Γ d (xs.map (ev (look vs))) none K ⟨look vs,ab os⟩:=rfl
@[congr] theorem JX {i:AI}{f:FuncId}{o o':Option (Nat×Nat)}{st:St} (h:True→o=o'):gQ P Γ i f o K st=gQ P Γ i f o' K st:=by rw[h trivial]
@[simp↓] theorem OJ {f g:FuncId}{d:Option Nat}{xs:List Operand}{un:List Nat}{tg:Option Nat}:gQ P Γ ⟨d,.call g,xs,none,un,tg⟩ f none K ⟨look vs,ab os⟩=cT P Γ ⟨d,.call g,xs,none,[],none⟩ K ⟨look vs,ab os⟩:=rfl
@[simp↓] theorem Nd {f g:FuncId}{p k:Nat}{d:Option Nat}{xs:List Operand}{un:List Nat}{tg:Option Nat}:gQ P Γ ⟨d,.call g,xs,none,un,tg⟩ f (some (p,k)) K ⟨look vs,ab os⟩=if k=998 then un=[]∧kL P Γ d f (xs.map (ev (look vs))) p k K ⟨look vs,ab os⟩ else if k=996 then mZ (CH (je Γ f) (ab os) ((xs.map (ev (look vs))).map strip)) ⟨look vs,ab os⟩ un∧stepG Γ d f (xs.map (ev (look vs))) (je Γ f) K ⟨look vs,ab os⟩ else False:=rfl
@[simp↓] theorem PK {T:List Nat}{st:St}:mZ T st []=True:=rfl
@[simp↓] theorem NV {T:List Nat}{s:Nat}{l:List Nat}:mZ T ⟨look vs,ab os⟩ (s::l)=(aj (ldT (ab os) (look vs s)) (fun t=>T.contains t=false)∧mZ T ⟨look vs,ab os⟩ l):=rfl
@[simp↓] theorem TK {d:Option Nat}{k:AK}{xs:List Operand}{g:Option (Nat×Bool)}{un:List Nat}{tg:Option Nat}:cT P Γ ⟨d,k,xs,g,un,tg⟩ K ⟨look vs,ab os⟩=((un=[]∨jQ un (ab os) ((xs.map (ev (look vs))).map strip))∧dG P Γ ⟨d,k,xs,g,un,tg⟩ (look vs) (ab os) fun e=>BN un tg e∧K (e.on d ⟨look vs,ab os⟩)):=rfl
@[simp↓] theorem RN {d:Option Nat}{k:AK}{xs:List Operand}{un:List Nat}{tg:Option Nat}{aa:Nat→Option AO}{C:bI→Prop}{vars:Nat→AV}:dG P Γ ⟨d,k,xs,none,un,tg⟩ vars aa C=aY P Γ d k (xs.map (ev vars)) aa C:=rfl
@[simp↓] theorem Q4 {d:Option Nat}{k:AK}{xs:List Operand}{s:Nat}{w:Bool}{un:List Nat}{tg:Option Nat}{aa:Nat→Option AO}{C:bI→Prop}{vars:Nat→AV}:dG P Γ ⟨d,k,xs,some (s,w),un,tg⟩ vars aa C=aj (bN (vars s) w) fun c=>cp P Γ c d k (xs.map (ev vars)) aa C:=rfl
theorem Dm {e:bI}:kQ [] e=True:=by cases e<;>simp[kQ]
@[simp↓] theorem RZ {un:List Nat}{v:AV}:kQ un (.put v)=True:=rfl
@[simp↓] theorem QC {un:List Nat}{v:AV}{os:List (Nat×AO)}:kQ un (.new v os)=True:=rfl
@[simp↓] theorem Rf {un:List Nat}{t:Nat}{o:AO}:kQ un (.vK t o)=True:=rfl
@[simp↓] theorem Qg {un:List Nat}{t:Nat}{o:AO}:kQ un (.app t o)=(un.contains (t%1000+1000)=false):=rfl
@[simp↓1100] theorem tgU_nil {tg:Option Nat}{e:bI}:BN [] tg e=tq tg e:=by unfold BN;rw[Dm,and_true]
@[simp↓] theorem We {un:List Nat}{e:bI}:BN un none e=kQ un e:=by unfold BN tq;rw[true_and]
@[simp↓] theorem SW {un:List Nat}{s:Nat}{e:bI}:BN un (some s) e=(tq (some s) e∧kQ un e):=rfl
@[simp↓] theorem Pf {e:bI}:tq none e=True:=rfl
@[simp↓] theorem WO {s t:Nat}{o:AO}:tq (some s) (.vK t o)=(t=s):=rfl
@[simp↓] theorem on_put {d:Option Nat}{v:AV}:(bI.put v).on d ⟨look vs,ab os⟩=⟨put d v (look vs),ab os⟩:=rfl
@[simp↓] theorem jt {d:Option Nat}{v:AV}{l:List (Nat×AO)}:(bI.new v l).on d ⟨look vs,ab os⟩=⟨put d v (look vs),bF l (ab os)⟩:=rfl
@[simp↓] theorem on_upd {d:Option Nat}{t:Nat}{o:AO}:(bI.vK t o).on d ⟨look vs,ab os⟩=⟨put d .ay (look vs),aL t o (ab os)⟩:=rfl
@[simp↓] theorem oS {d:Option Nat}{t:Nat}{o:AO}:(bI.app t o).on d ⟨look vs,ab os⟩=⟨put d (.own t) (cz t (look vs)),aL t o (dn t (ab os))⟩:=rfl
end
theorem Gv (d:Nat) (v:AV) (l:List (Nat×AV)):put (some d) v (look l)=look ((d,v)::l):=by funext s;simp[put,look]
theorem F8 (v:AV) (f:Nat→AV):put none v f=f:=rfl
theorem Ed (t:Nat) (o:AO) (l:List (Nat×AO)):aL t o (ab l)=ab ((t,o)::l):=by funext s;simp[aL,ab]
theorem BA (bB:List Nat) (l:List (Nat×AV)):jm bB (look l)=look (bB.map fun s=>(s,look l s)):=by funext s;unfold jm;induction bB with|nil=>simp[look]|cons k ks ih=>
 simp only[List.map_cons,look];by_cases h:s=k;·subst h;simp
 ·simp only[List.contains_cons,h,if_false];have:(s==k)=false:=by simpa using h
  rw[this];simpa using ih
theorem wM (t:Nat) (l:List (Nat×AV)):cz t (look l)=look (l.map fun x=>(x.1,kill t x.2)):=by funext s;unfold cz;induction l with|nil=>rfl|cons x l ih=>obtain⟨k,v⟩:=x;simp only[List.map_cons,look];split<;>simp_all
theorem A9 (t:Nat) (l:List (Nat×AO)):dn t (ab l)=ab (l.map fun x=>(x.1,dI t x.2)):=by funext s;unfold dn;induction l with|nil=>rfl|cons x l ih=>obtain⟨k,v⟩:=x;simp only[List.map_cons,ab];split<;>simp_all
theorem Dz (m l:List (Nat×AO)):bF m (ab l)=ab (m++l):=by funext s;unfold bF;induction m with|nil=>simp[ab]|cons x m ih=>
 obtain⟨k,v⟩:=x;simp only[List.cons_append,ab];by_cases h:s=k;·simp[h]
 ·simp only[if_neg h];exact ih
theorem kG (vs:List (Nat×AV)) (os:List (Nat×AO)):(Fr.mk vs os).st=⟨look vs,ab os⟩:=rfl
def Iy (t:Nat):List (Nat×AO)→List (Nat×AO)|[]=>[]|x::l=>if x.1=t then Iy t l else(x.1,dI t x.2)::Iy t l
@[simp] theorem rmL_nil (t:Nat):Iy t []=[]:=nr rfl
@[simp] theorem EZ (t s:Nat) (o:AO) (l:List (Nat×AO)):Iy t ((s,o)::l)=if s=t then Iy t l else(s,dI t o)::Iy t l:=nr rfl
theorem tc (t:Nat) (l:List (Nat×AO)):fI t (ab l)=ab (Iy t l):=by funext s;unfold fI;induction l with|nil=>simp[ab]|cons x l ih=>
 obtain⟨k,v⟩:=x;simp only[EZ,ab];by_cases hs:s=t
 ·subst hs;simp only[if_true]at ih ⊢;by_cases hk:k=s;·simp[hk];exact ih
  ·have hk':¬s=k:=fun e=>hk e.symm;simp[hk,ab,hk'];exact ih
 ·simp only[hs,if_false]at ih ⊢;by_cases hk:k=t;·have:¬s=k:=fun e=>hs (e.trans hk);rw[if_pos hk,if_neg this];exact ih
  ·simp only[hk,if_false,ab];by_cases hsk:s=k;·simp[hsk]
   ·simp only[hsk,if_false];exact ih
def Ie (t:Nat) (e:TypeId) (rows:List (List PV)):List (Nat×AO)→List (Nat×AO)|[]=>[]|x::l=>if x.1=t then Ie t e rows l else(x.1,G7 t e rows x.2)::Ie t e rows l
@[simp] theorem ZQ (t:Nat) (e:TypeId) (rows:List (List PV)):Ie t e rows []=[]:=nr rfl
@[simp] theorem Fh (t s:Nat) (e:TypeId) (rows:List (List PV)) (o:AO) (l:List (Nat×AO)):Ie t e rows ((s,o)::l)=if s=t then Ie t e rows l else(s,G7 t e rows o)::Ie t e rows l:=nr rfl
theorem Gu (t:Nat) (e0:TypeId) (rows:List (List PV)) (l:List (Nat×AV)):shW t e0 rows (look l)=look (l.map fun x=>(x.1,Dx t e0 rows x.2)):=by funext s;unfold shW;induction l with|nil=>rfl|cons x l ih=>obtain⟨k,v⟩:=x;simp only[List.map_cons,look];split<;>simp_all
theorem EE (t:Nat) (e:TypeId) (rows:List (List PV)) (l:List (Nat×AO)):AH t e rows (ab l)=ab (Ie t e rows l):=by funext s;unfold AH;induction l with|nil=>simp[ab]|cons x l ih=>
 obtain⟨k,v⟩:=x;simp only[Fh,ab];by_cases hs:s=t
 ·subst hs;simp only[if_true]at ih ⊢;by_cases hk:k=s;·simp[hk];exact ih
  ·have hk':¬s=k:=fun e=>hk e.symm;simp[hk,ab,hk'];exact ih
 ·simp only[hs,if_false]at ih ⊢;by_cases hk:k=t;·have:¬s=k:=fun e=>hs (e.trans hk);rw[if_pos hk,if_neg this];exact ih
  ·simp only[hk,if_false,ab];by_cases hsk:s=k;·simp[hsk]
   ·simp only[hsk,if_false];exact ih
@[simp] theorem BV (vs:List (Nat×AV)) (os:List (Nat×AO)) (t:Nat):share1 ⟨look vs,ab os⟩ (.own t)=match cO (ab os t) with|some r=>⟨look (vs.map fun x=>(x.1,Dx t r.1 r.2 x.2)),ab (Ie t r.1 r.2 os)⟩|none=>⟨look vs,ab os⟩:=by simp only[share1,iz];split<;>simp[*,Gu,EE]
@[simp] theorem TP (vs:List (Nat×AV)) (os:List (Nat×AO)) (t:Nat):tO t ⟨look vs,ab os⟩=match cO (ab os t) with|some _=>⟨look (vs.map fun x=>(x.1,kill t x.2)),ab (Iy t os)⟩|none=>⟨look vs,ab os⟩:=by simp only[tO];split<;>simp[*,wM,tc]
@[simp] theorem PQ (st:St) (p:PV):share1 st (.pv p)=st:=nr rfl
@[simp] theorem L1 (st:St) (cs:List AV):share1 st (.agg cs)=gh st cs:=nr rfl
@[simp] theorem KV (st:St):gh st []=st:=nr rfl
@[simp] theorem HZ (st:St) (c:AV) (cs:List AV):gh st (c::cs)=gh (iz st c) cs:=nr rfl
@[simp] theorem OD (vs:List (Nat×AV)) (os:List (Nat×AO)) (t:Nat):iz ⟨look vs,ab os⟩ (.own t)=match cO (ab os t) with|some r=>⟨look (vs.map fun x=>(x.1,Dx t r.1 r.2 x.2)),ab (Ie t r.1 r.2 os)⟩|none=>⟨look vs,ab os⟩:=BV vs os t
@[simp] theorem Se (st:St) (p:PV):iz st (.pv p)=st:=nr rfl
@[simp] theorem M8 (st:St) (t o:Nat):share1 st (.ptr t o)=st:=nr rfl
@[simp] theorem NO (st:St) (f:FuncId) (cs:List AV):share1 st (.bJ f cs)=st:=nr rfl
@[simp] theorem IX (st:St):cF st []=st:=nr rfl
@[simp] theorem G8 (st:St) (v:AV) (l:List AV):cF st (v::l)=cF (share1 st v) l:=nr rfl
@[simp] theorem aac (e0:TypeId) (t s:Nat) (rows:List (List PV)):Dx t e0 rows (.own s)=if s=t then .pv (.ro rows) else .own s:=nr rfl
@[simp] theorem Zh (e0:TypeId) (t s:Nat) (rows:List (List PV)):Q0 t e0 rows (.own s)=if s=t then .pv (.ro rows) else .own s:=nr rfl
@[simp] theorem sh2_pv (e0:TypeId) (t:Nat) (rows:List (List PV)) (p:PV):Dx t e0 rows (.pv p)=.pv p:=nr rfl
@[simp] theorem sh2_ptr (e0:TypeId) (t s o:Nat) (rows:List (List PV)):Dx t e0 rows (.ptr s o)=.ptr s o:=nr rfl
@[simp] theorem sh2_agg (e0:TypeId) (t:Nat) (cs:List AV) (rows:List (List PV)):Dx t e0 rows (.agg cs)=.agg (ry t e0 rows cs):=nr rfl
@[simp] theorem sh2_cnd (e0:TypeId) (t:Nat) (g:Bool) (v:AV) (rows:List (List PV)):Dx t e0 rows (.ch g v)=kill t (.ch g v):=nr rfl
@[simp] theorem sh2_clo (e0:TypeId) (t:Nat) (f:FuncId) (cs:List AV) (rows:List (List PV)):Dx t e0 rows (.bJ f cs)=kill t (.bJ f cs):=nr rfl
@[simp] theorem XU (e0:TypeId) (t:Nat) (rows:List (List PV)):Dx t e0 rows .ay=.ay:=nr rfl
@[simp] theorem V1 (t:Nat) (e0:TypeId) (rows:List (List PV)):ry t e0 rows []=[]:=nr rfl
@[simp] theorem QW (t:Nat) (e0:TypeId) (rows:List (List PV)) (c:AV) (cs:List AV):ry t e0 rows (c::cs)=Q0 t e0 rows c::ry t e0 rows cs:=nr rfl
@[simp] theorem shC_pv (t:Nat) (e0:TypeId) (rows:List (List PV)) (p:PV):Q0 t e0 rows (.pv p)=.pv p:=nr rfl
@[simp] theorem shO_box (t:Nat) (e0:TypeId) (rows:List (List PV)) (cs:List AV):G7 t e0 rows (.box cs)=.box (ry t e0 rows cs):=nr rfl
@[simp] theorem shO_arr (t:Nat) (e0:TypeId) (rows:List (List PV)) (e:TypeId) (rs:List (List PV)):G7 t e0 rows (.arr e rs)=.arr e rs:=nr rfl
@[simp] theorem ZZ (t:Nat) (e0:TypeId) (rows:List (List PV)) (es):G7 t e0 rows (.map es)=.map es:=nr rfl
@[simp] theorem shO_mpv (t:Nat) (e0:TypeId) (rows:List (List PV)) (es):G7 t e0 rows (.gY es)=.gY es:=nr rfl
@[simp] theorem frR_pv (p:PV):Xg (.pv p)=frC (.pv p):=nr rfl
@[simp] theorem frR_fr (e:TypeId) (rows:List (List PV)):Xg (.fr e rows)=true:=nr rfl
@[simp] theorem XY (b:Bool):frC (.pv (.bool b))=false:=nr rfl
@[simp] theorem roR_tup (vs:List AV):Sf (.aQ vs)=D4 vs:=nr rfl
@[simp] theorem roR_agg (vs:List AV):Sf (.agg vs)=Bk vs:=nr rfl
@[simp] theorem roR_pv (p:PV):Sf (.pv p)=Hf (.pv p):=nr rfl
@[simp] theorem roR_fr (e:TypeId) (rows:List (List PV)):Sf (.fr e rows)=false:=nr rfl
@[simp] theorem VC:D4 []=false:=nr rfl
@[simp] theorem Sk (c:AV) (cs:List AV):D4 (c::cs)=(Rz c||D4 cs):=nr rfl
@[simp] theorem XQ:Bk []=false:=nr rfl
@[simp] theorem P3 (c:AV) (cs:List AV):Bk (c::cs)=(Hf c||Bk cs):=nr rfl
@[simp] theorem Zu (cs:List AV):Rz (.agg cs)=Bk cs:=nr rfl
@[simp] theorem ro1_pv (p:PV):Rz (.pv p)=Hf (.pv p):=nr rfl
@[simp] theorem ro1_fr (e:TypeId) (rows:List (List PV)):Rz (.fr e rows)=false:=nr rfl
@[simp] theorem roC_ro (rows:List (List PV)):Hf (.pv (.ro rows))=true:=nr rfl
@[simp] theorem roC_int (k:IntKind) (n:Int):Hf (.pv (.int k n))=false:=nr rfl
@[simp] theorem Vf (b:Bool):Hf (.pv (.bool b))=false:=nr rfl
@[simp] theorem roC_str (l:List UInt8):Hf (.pv (.str l))=false:=nr rfl
@[simp] theorem roC_fr (e:TypeId) (rows:List (List PV)):Hf (.fr e rows)=false:=nr rfl
@[simp] theorem Ol (aa:Nat→Option AO) (k t:Nat):gL aa k (.own t)=(cO (aa t)).map fun r=>(t,r.1,r.2):=nr rfl
@[simp] theorem Zo (e:TypeId) (rows:List (List PV)):vS 998 e rows=.fr e rows:=nr rfl
@[simp] theorem ZX (e:TypeId) (rows:List (List PV)):vS 999 e rows=.aQ [.fr e rows]:=nr rfl
@[simp] theorem reisU_0 (aa:Nat→Option AO) (m v:AV) (vs:List AV):qh aa m 0 (v::vs)=(fA aa vs).map (m::·):=nr rfl
@[simp] theorem Vh (v:AV) (vs:List AV):jx 0 (v::vs)=eG vs:=nr rfl
@[simp] theorem Xe (n:Nat) (r:AV) (e:TypeId) (rows:List (List PV)):cb (.bJ n [r,.fr e rows])=r:=nr rfl
@[simp] theorem Zm (e:TypeId) (rows:List (List PV)):cb (.fr e rows)=.fr e rows:=nr rfl
@[simp] theorem Tl (n:Nat) (r:AV) (e:TypeId) (rows:List (List PV)):en (.bJ n [r,.fr e rows])=[(999,.arr e rows)]:=nr rfl
@[simp] theorem Z1 (e:TypeId) (rows:List (List PV)):en (.fr e rows)=[]:=nr rfl
@[simp] theorem PA:oL []=True:=nr rfl
@[simp] theorem R5 (t n:Nat) (r:AV) (e:TypeId) (rows:List (List PV)) (vars:Nat→AV):gV t (.bJ n [r,.fr e rows]) vars=vars:=nr rfl
@[simp] theorem Xn (t:Nat) (e:TypeId) (rows:List (List PV)) (vars:Nat→AV):gV t (.fr e rows) vars=cz t vars:=nr rfl
@[simp] theorem Ph (t n:Nat) (r:AV) (e:TypeId) (rows:List (List PV)) (aa:Nat→Option AO):cH t (.bJ n [r,.fr e rows]) aa=aL t (.arr e rows) aa:=nr rfl
@[simp] theorem Uo (t:Nat) (e:TypeId) (rows:List (List PV)) (aa:Nat→Option AO):cH t (.fr e rows) aa=fI t aa:=nr rfl
@[simp] theorem ZV (t:Nat) (v:AV) (vs:List AV):lR t 0 (v::vs)=lR.m8 t vs:=nr rfl
@[simp] theorem MJ (t:Nat):lR.m8 t []=True:=nr rfl
@[simp] theorem Lm (t:Nat) (v:AV) (vs:List AV):lR.m8 t (v::vs)=(xJ t v∧lR.m8 t vs):=nr rfl
@[simp] theorem Ue (t:Nat) (f:FuncId) (cs:List AV):xJ t (.bJ f cs)=rO t cs:=nr rfl
@[simp] theorem Yy (t s o:Nat):pY t (.ptr s o)=(s≠t):=nr rfl
@[simp] theorem RK (t:Nat):rO t []=True:=nr rfl
@[simp] theorem OG (t:Nat) (c:AV) (cs:List AV):rO t (c::cs)=(pY t c∧rO t cs):=nr rfl
@[simp] theorem SI (aa:Nat→Option AO) (e e1:TypeId) (zs:List Value) (t lo hi:Nat):AJ aa e zs (.sub t e1 lo hi)=(cO (aa t)).bind fun r=>if r.1=e∧e1=e then some (t,.arr e (r.2.take lo++List.replicate (hi-lo) (zs.map rD)++r.2.drop hi)) else none:=nr rfl
attribute[simp] tc Gv F8 Ed BA wM A9 Dz kG aP
@[simp] theorem look_nil (s:Nat):look [] s=.ay:=nr rfl
@[simp] theorem PT (t:Nat) (v:AV) (l:List (Nat×AV)) (s:Nat):look ((t,v)::l) s=if s=t then v else look l s:=nr rfl
@[simp] theorem Q8 (s:Nat):ab [] s=none:=nr rfl
@[simp] theorem BR (t:Nat) (v:AO) (l:List (Nat×AO)) (s:Nat):ab ((t,v)::l) s=if s=t then some v else ab l s:=nr rfl
section
variable(vars:Nat→AV) (t:Nat)
@[simp] theorem ev_tmp:ev vars (.tmp t)=vars t:=nr rfl
@[simp] theorem ev_int (k:IntKind) (n:Int):ev vars (.const (.int k n))=.pv (.int k n):=nr rfl
@[simp] theorem ZS (b:Bool):ev vars (.const (.bool b))=.pv (.bool b):=nr rfl
@[simp] theorem ev_str (s:ByteArray):ev vars (.const (.string s))=.pv (.str s.data.toList):=nr rfl
@[simp] theorem ev_nil:ev vars (.const (.slice none 0 0))=.pv .nil:=nr rfl
@[simp] theorem ZM (f:FuncId):ev vars (.func f)=.bJ f []:=nr rfl
@[simp] theorem cv_int (k:IntKind) (n:Int):cv (.int k n)=.pv (.int k n):=nr rfl
@[simp] theorem ZE (b:Bool):cv (.bool b)=.pv (.bool b):=nr rfl
@[simp] theorem cv_str (s:ByteArray):cv (.string s)=.pv (.str s.data.toList):=nr rfl
@[simp] theorem cv_nil:cv (.slice none 0 0)=.pv .nil:=nr rfl
end
section
@[simp] theorem asks_pv (p:PV):asks (.pv p)=True:=nr rfl
@[simp] theorem T7 (t:Nat):asks (.own t)=True:=nr rfl
@[simp] theorem Xy (t o:Nat):asks (.ptr t o)=True:=nr rfl
@[simp] theorem RU (t:Nat) (e:TypeId) (i:Int) (o:Nat):asks (.aX t e i o)=True:=nr rfl
@[simp] theorem Yq (t:Nat) (e:TypeId) (i o:Nat):asks (.sub t e i o)=True:=nr rfl
@[simp] theorem asks_rp (cs:List PV):asks (.rp cs)=True:=nr rfl
@[simp] theorem Xc (cs:List AV):asks (.agg cs)=True:=nr rfl
@[simp] theorem Un (cs:List AV):asks (.aQ cs)=True:=nr rfl
@[simp] theorem Wz (f:FuncId) (cs:List AV):asks (.bJ f cs)=True:=nr rfl
@[simp] theorem Qh:asks .ay=True:=nr rfl
@[simp] theorem SO (g:Bool) (v:AV):asks (.ch g v)=(g=true∧asks v):=nr rfl
@[simp] theorem Sx:au []=True:=nr rfl
@[simp] theorem MK (v:AV) (l:List AV):au (v::l)=(asks v∧au l):=nr rfl
@[simp] theorem Ye (p:PV):strip (.pv p)=.pv p:=nr rfl
@[simp] theorem Sb (g:Bool) (v:AV):strip (.ch g v)=strip v:=nr rfl
@[simp] theorem QV (t:Nat):strip (.own t)=(.own t):=nr rfl
@[simp] theorem Ps (t o:Nat):strip (.ptr t o)=(.ptr t o):=nr rfl
@[simp] theorem Mc (t:Nat) (e:TypeId) (i:Int) (o:Nat):strip (.aX t e i o)=(.aX t e i o):=nr rfl
@[simp] theorem QO (t:Nat) (e:TypeId) (i o:Nat):strip (.sub t e i o)=(.sub t e i o):=nr rfl
@[simp] theorem UD (cs:List PV):strip (.rp cs)=(.rp cs):=nr rfl
@[simp] theorem Rd (cs:List AV):strip (.agg cs)=(.agg cs):=nr rfl
@[simp] theorem QG (cs:List AV):strip (.aQ cs)=(.aQ cs):=nr rfl
@[simp] theorem QT (f:FuncId) (cs:List AV):strip (.bJ f cs)=(.bJ f cs):=nr rfl
@[simp] theorem Mp:strip .ay=.ay:=nr rfl
@[simp] theorem Ww (b:Bool):bN (.pv (.bool b)) true=some b:=nr rfl
@[simp] theorem Xa (b:Bool):bN (.pv (.bool b)) false=some (!b):=nr rfl
@[simp] theorem UB (c:Bool) (v:AV) (w:Bool):bN (.ch c v) w=ss c (bN v w):=nr rfl
@[simp] theorem ZT (o:Option Bool):ss true o=o:=nr rfl
@[simp] theorem condB_f (o:Option Bool):ss false o=some false:=nr rfl
@[simp] theorem condB_s (c b:Bool):ss c (some b)=some (c&&b):=by cases c<;>rfl
@[simp] theorem XB:fa []=false:=nr rfl
@[simp] theorem Sj (l:List AV):fa (.ay::l)=true:=nr rfl
@[simp] theorem YD (v:Value) (l:List AV):fa (.pv (.val v)::l)=true:=nr rfl
@[simp] theorem Yl (k:IntKind) (n:Int) (l:List AV):fa (.pv (.int k n)::l)=fa l:=nr rfl
@[simp] theorem O5 (b:Bool) (l:List AV):fa (.pv (.bool b)::l)=fa l:=nr rfl
@[simp] theorem YA (b:List UInt8) (l:List AV):fa (.pv (.str b)::l)=fa l:=nr rfl
@[simp] theorem ZP (r:List (List PV)) (l:List AV):fa (.pv (.ro r)::l)=fa l:=nr rfl
@[simp] theorem YY (t:Nat) (l:List AV):fa (.own t::l)=fa l:=nr rfl
@[simp] theorem TS (t o:Nat) (l:List AV):fa (.ptr t o::l)=fa l:=nr rfl
@[simp] theorem PI (t:Nat) (e:TypeId) (i:Int) (o:Nat) (l:List AV):fa (.aX t e i o::l)=fa l:=nr rfl
@[simp] theorem hasJ_rp (c:PV) (cs:List PV) (l:List AV):fa (.rp (c::cs)::l)=fa l:=nr rfl
@[simp] theorem WL (cs:List AV) (l:List AV):fa (.agg cs::l)=fa l:=nr rfl
@[simp] theorem Tj (f:FuncId) (cs:List AV) (l:List AV):fa (.bJ f cs::l)=fa l:=nr rfl
@[simp] theorem VW (b:Bool):HW (some b)=!b:=by cases b<;>rfl
end
section
variable(op:BinOp) (k:IntKind) (a b:Int) (x y:List UInt8) (p q:Bool)
@[simp] theorem T4:dB .add (.int k a) (.int k b)=some (True,.int k (k.wrap (a+b))):=by simp[dB]
@[simp] theorem Wm:dB .sub (.int k a) (.int k b)=some (True,.int k (k.wrap (a-b))):=by simp[dB]
@[simp] theorem Up:dB .mul (.int k a) (.int k b)=some (True,.int k (k.wrap (a*b))):=by simp[dB]
@[simp] theorem TI:dB .quo (.int k a) (.int k b)=some (b≠0,.int k (k.wrap (a.tdiv b))):=by simp[dB]
@[simp] theorem Wp:dB .rem (.int k a) (.int k b)=some (b≠0,.int k (a.tmod b)):=by simp[dB]
@[simp] theorem Wk:dB .eql (.int k a) (.int k b)=some (True,.bool (decide (a=b))):=by simp[dB]
@[simp] theorem Wx:dB .neq (.int k a) (.int k b)=some (True,.bool (!decide (a=b))):=by simp[dB]
@[simp] theorem WU:dB .lss (.int k a) (.int k b)=some (True,.bool (decide (a<b))):=by simp[dB]
@[simp] theorem TH:dB .leq (.int k a) (.int k b)=some (True,.bool (decide (a≤b))):=by simp[dB]
@[simp] theorem TY:dB .gtr (.int k a) (.int k b)=some (True,.bool (decide (b<a))):=by simp[dB]
@[simp] theorem U8:dB .geq (.int k a) (.int k b)=some (True,.bool (decide (b≤a))):=by simp[dB]
@[simp] theorem TM:dB .and (.int k a) (.int k b)=some (True,lA .and k a b):=by simp[dB]
@[simp] theorem Zd:dB .or (.int k a) (.int k b)=some (True,lA .or k a b):=by simp[dB]
@[simp] theorem YS:dB .xor (.int k a) (.int k b)=some (True,lA .xor k a b):=by simp[dB]
@[simp] theorem J7:dB .andNot (.int k a) (.int k b)=some (True,lA .andNot k a b):=by simp[dB]
@[simp] theorem Wv (k':IntKind):dB .shl (.int k a) (.int k' b)=some (0≤b,.int k (k.wrap (a*2^(min b.toNat k.bits)))):=nr rfl
@[simp] theorem Uk (k':IntKind):dB .shr (.int k a) (.int k' b)=some (0≤b,.int k (a.fdiv (2^(min b.toNat k.bits)))):=nr rfl
end
@[simp↓] theorem VZ {P:Program}{Γ:bW}{d:Option Nat}{aa:Nat→Option AO}{C:bI→Prop}{xs:List AV}{op:BinOp}:aY P Γ d (.bin op) xs aa C=(au xs∧aj (ak (.bin op) (xs.map strip) aa) fun x=>x.1∧C (.put x.2)):=rfl
@[simp↓] theorem Vj {P:Program}{Γ:bW}{d:Option Nat}{aa:Nat→Option AO}{C:bI→Prop}{xs:List AV}{c:Bool}{op:BinOp}:cp P Γ c d (.bin op) xs aa C=aj (ak (.bin op) (xs.map strip) aa) fun x=>(c=true→au xs∧x.1)∧C (.put (.ch c x.2)):=rfl
@[simp↓] theorem Wj {P:Program}{Γ:bW}{d:Option Nat}{aa:Nat→Option AO}{C:bI→Prop}{xs:List AV}{ne:Bool}:aY P Γ d (.beq ne) xs aa C=(au xs∧aj (ak (.beq ne) (xs.map strip) aa) fun x=>x.1∧C (.put x.2)):=rfl
@[simp↓] theorem X3 {P:Program}{Γ:bW}{d:Option Nat}{aa:Nat→Option AO}{C:bI→Prop}{xs:List AV}{c:Bool}{ne:Bool}:cp P Γ c d (.beq ne) xs aa C=aj (ak (.beq ne) (xs.map strip) aa) fun x=>(c=true→au xs∧x.1)∧C (.put (.ch c x.2)):=rfl
@[simp↓] theorem O4 {P:Program}{Γ:bW}{d:Option Nat}{aa:Nat→Option AO}{C:bI→Prop}{xs:List AV}:aY P Γ d .uS xs aa C=(au xs∧aj (ak .uS (xs.map strip) aa) fun x=>x.1∧C (.put x.2)):=rfl
@[simp↓] theorem Sw {P:Program}{Γ:bW}{d:Option Nat}{aa:Nat→Option AO}{C:bI→Prop}{xs:List AV}{c:Bool}:cp P Γ c d .uS xs aa C=aj (ak .uS (xs.map strip) aa) fun x=>(c=true→au xs∧x.1)∧C (.put (.ch c x.2)):=rfl
@[simp↓] theorem WI {P:Program}{Γ:bW}{d:Option Nat}{aa:Nat→Option AO}{C:bI→Prop}{xs:List AV}{ne:Bool}{ks:List Nat}:aY P Γ d (.eqs ne ks) xs aa C=(au xs∧aj (ak (.eqs ne ks) (xs.map strip) aa) fun x=>x.1∧C (.put x.2)):=rfl
@[simp↓] theorem V4 {P:Program}{Γ:bW}{d:Option Nat}{aa:Nat→Option AO}{C:bI→Prop}{xs:List AV}{c:Bool}{ne:Bool}{ks:List Nat}:cp P Γ c d (.eqs ne ks) xs aa C=aj (ak (.eqs ne ks) (xs.map strip) aa) fun x=>(c=true→au xs∧x.1)∧C (.put (.ch c x.2)):=rfl
@[simp↓] theorem Uc {P:Program}{Γ:bW}{d:Option Nat}{aa:Nat→Option AO}{C:bI→Prop}{xs:List AV}{b:Bool}:aY P Γ d (.DP b) xs aa C=(au xs∧aj (ak (.DP b) (xs.map strip) aa) fun x=>x.1∧C (.put x.2)):=rfl
@[simp↓] theorem Vv {P:Program}{Γ:bW}{d:Option Nat}{aa:Nat→Option AO}{C:bI→Prop}{xs:List AV}{c:Bool}{b:Bool}:cp P Γ c d (.DP b) xs aa C=aj (ak (.DP b) (xs.map strip) aa) fun x=>(c=true→au xs∧x.1)∧C (.put (.ch c x.2)):=rfl
@[simp↓] theorem Pt {P:Program}{Γ:bW}{d:Option Nat}{aa:Nat→Option AO}{C:bI→Prop}{xs:List AV}{e:TypeId}:aY P Γ d (.og e) xs aa C=(au xs∧aj (ak (.og e) (xs.map strip) aa) fun x=>x.1∧C (.put x.2)):=rfl
@[simp↓] theorem P9 {P:Program}{Γ:bW}{d:Option Nat}{aa:Nat→Option AO}{C:bI→Prop}{xs:List AV}{c:Bool}{e:TypeId}:cp P Γ c d (.og e) xs aa C=aj (ak (.og e) (xs.map strip) aa) fun x=>(c=true→au xs∧x.1)∧C (.put (.ch c x.2)):=rfl
@[simp↓] theorem R6 {P:Program}{Γ:bW}{d:Option Nat}{aa:Nat→Option AO}{C:bI→Prop}{xs:List AV}:aY P Γ d (.rC) xs aa C=(au xs∧aj (ak (.rC) (xs.map strip) aa) fun x=>x.1∧C (.put x.2)):=rfl
@[simp↓] theorem Q3 {P:Program}{Γ:bW}{d:Option Nat}{aa:Nat→Option AO}{C:bI→Prop}{xs:List AV}{c:Bool}:cp P Γ c d (.rC) xs aa C=aj (ak (.rC) (xs.map strip) aa) fun x=>(c=true→au xs∧x.1)∧C (.put (.ch c x.2)):=rfl
@[simp↓] theorem Yt {P:Program}{Γ:bW}{d:Option Nat}{aa:Nat→Option AO}{C:bI→Prop}{xs:List AV}:aY P Γ d .Cw xs aa C=(au xs∧aj (ak .Cw (xs.map strip) aa) fun x=>x.1∧C (.put x.2)):=rfl
@[simp↓] theorem U1 {P:Program}{Γ:bW}{d:Option Nat}{aa:Nat→Option AO}{C:bI→Prop}{xs:List AV}{c:Bool}:cp P Γ c d .Cw xs aa C=aj (ak .Cw (xs.map strip) aa) fun x=>(c=true→au xs∧x.1)∧C (.put (.ch c x.2)):=rfl
@[simp↓] theorem TU {P:Program}{Γ:bW}{d:Option Nat}{aa:Nat→Option AO}{C:bI→Prop}{xs:List AV}:aY P Γ d .not xs aa C=(au xs∧aj (ak .not (xs.map strip) aa) fun x=>x.1∧C (.put x.2)):=rfl
@[simp↓] theorem TX {P:Program}{Γ:bW}{d:Option Nat}{aa:Nat→Option AO}{C:bI→Prop}{xs:List AV}{c:Bool}:cp P Γ c d .not xs aa C=aj (ak .not (xs.map strip) aa) fun x=>(c=true→au xs∧x.1)∧C (.put (.ch c x.2)):=rfl
@[simp↓] theorem Tm {P:Program}{Γ:bW}{d:Option Nat}{aa:Nat→Option AO}{C:bI→Prop}{xs:List AV}:aY P Γ d .neg xs aa C=(au xs∧aj (ak .neg (xs.map strip) aa) fun x=>x.1∧C (.put x.2)):=rfl
@[simp↓] theorem TV {P:Program}{Γ:bW}{d:Option Nat}{aa:Nat→Option AO}{C:bI→Prop}{xs:List AV}{c:Bool}:cp P Γ c d .neg xs aa C=aj (ak .neg (xs.map strip) aa) fun x=>(c=true→au xs∧x.1)∧C (.put (.ch c x.2)):=rfl
@[simp↓] theorem Yz {P:Program}{Γ:bW}{d:Option Nat}{aa:Nat→Option AO}{C:bI→Prop}{xs:List AV}{k:IntKind}:aY P Γ d (.Bm k) xs aa C=(au xs∧aj (ak (.Bm k) (xs.map strip) aa) fun x=>x.1∧C (.put x.2)):=rfl
@[simp↓] theorem TZ {P:Program}{Γ:bW}{d:Option Nat}{aa:Nat→Option AO}{C:bI→Prop}{xs:List AV}{c:Bool}{k:IntKind}:cp P Γ c d (.Bm k) xs aa C=aj (ak (.Bm k) (xs.map strip) aa) fun x=>(c=true→au xs∧x.1)∧C (.put (.ch c x.2)):=rfl
@[simp↓] theorem UN {P:Program}{Γ:bW}{d:Option Nat}{aa:Nat→Option AO}{C:bI→Prop}{xs:List AV}:aY P Γ d .len xs aa C=(au xs∧aj (ak .len (xs.map strip) aa) fun x=>x.1∧C (.put x.2)):=rfl
@[simp↓] theorem Te {P:Program}{Γ:bW}{d:Option Nat}{aa:Nat→Option AO}{C:bI→Prop}{xs:List AV}{c:Bool}:cp P Γ c d .len xs aa C=aj (ak .len (xs.map strip) aa) fun x=>(c=true→au xs∧x.1)∧C (.put (.ch c x.2)):=rfl
@[simp↓] theorem Qk {P:Program}{Γ:bW}{d:Option Nat}{aa:Nat→Option AO}{C:bI→Prop}{xs:List AV}:aY P Γ d .uV xs aa C=(au xs∧aj (ak .uV (xs.map strip) aa) fun x=>x.1∧C (.put x.2)):=rfl
@[simp↓] theorem R0 {P:Program}{Γ:bW}{d:Option Nat}{aa:Nat→Option AO}{C:bI→Prop}{xs:List AV}{c:Bool}:cp P Γ c d .uV xs aa C=aj (ak .uV (xs.map strip) aa) fun x=>(c=true→au xs∧x.1)∧C (.put (.ch c x.2)):=rfl
@[simp↓] theorem XD {P:Program}{Γ:bW}{d:Option Nat}{aa:Nat→Option AO}{C:bI→Prop}{xs:List AV}{a b:Bool}:aY P Γ d (.HH a b) xs aa C=(au xs∧aj (ak (.HH a b) (xs.map strip) aa) fun x=>x.1∧C (.put x.2)):=rfl
@[simp↓] theorem WZ {P:Program}{Γ:bW}{d:Option Nat}{aa:Nat→Option AO}{C:bI→Prop}{xs:List AV}{c:Bool}{a b:Bool}:cp P Γ c d (.HH a b) xs aa C=aj (ak (.HH a b) (xs.map strip) aa) fun x=>(c=true→au xs∧x.1)∧C (.put (.ch c x.2)):=rfl
@[simp↓] theorem Um {P:Program}{Γ:bW}{d:Option Nat}{aa:Nat→Option AO}{C:bI→Prop}{xs:List AV}{o:Nat}{n:Option Nat}:aY P Γ d (.F9 o n) xs aa C=(au xs∧aj (ak (.F9 o n) (xs.map strip) aa) fun x=>x.1∧C (.put x.2)):=rfl
@[simp↓] theorem VP {P:Program}{Γ:bW}{d:Option Nat}{aa:Nat→Option AO}{C:bI→Prop}{xs:List AV}{c:Bool}{o:Nat}{n:Option Nat}:cp P Γ c d (.F9 o n) xs aa C=aj (ak (.F9 o n) (xs.map strip) aa) fun x=>(c=true→au xs∧x.1)∧C (.put (.ch c x.2)):=rfl
@[simp↓] theorem X4 {P:Program}{Γ:bW}{d:Option Nat}{aa:Nat→Option AO}{C:bI→Prop}{xs:List AV}{o:Nat}:aY P Γ d (.rJ o) xs aa C=(au xs∧aj (ak (.rJ o) (xs.map strip) aa) fun x=>x.1∧C (.put x.2)):=rfl
@[simp↓] theorem WC {P:Program}{Γ:bW}{d:Option Nat}{aa:Nat→Option AO}{C:bI→Prop}{xs:List AV}{c:Bool}{o:Nat}:cp P Γ c d (.rJ o) xs aa C=aj (ak (.rJ o) (xs.map strip) aa) fun x=>(c=true→au xs∧x.1)∧C (.put (.ch c x.2)):=rfl
@[simp↓] theorem Su {P:Program}{Γ:bW}{d:Option Nat}{aa:Nat→Option AO}{C:bI→Prop}{xs:List AV}{n:Option Nat}:aY P Γ d (.load n) xs aa C=(au xs∧aj (ak (.load n) (xs.map strip) aa) fun x=>x.1∧C (.put x.2)):=rfl
@[simp↓] theorem RS {P:Program}{Γ:bW}{d:Option Nat}{aa:Nat→Option AO}{C:bI→Prop}{xs:List AV}{c:Bool}{n:Option Nat}:cp P Γ c d (.load n) xs aa C=aj (ak (.load n) (xs.map strip) aa) fun x=>(c=true→au xs∧x.1)∧C (.put (.ch c x.2)):=rfl
@[simp↓] theorem Tb {P:Program}{Γ:bW}{d:Option Nat}{aa:Nat→Option AO}{C:bI→Prop}{xs:List AV}{e:TypeId}{s:Nat}:aY P Γ d (.Df e s) xs aa C=(au xs∧aj (ak (.Df e s) (xs.map strip) aa) fun x=>x.1∧C (.put x.2)):=rfl
@[simp↓] theorem XT {P:Program}{Γ:bW}{d:Option Nat}{aa:Nat→Option AO}{C:bI→Prop}{xs:List AV}{e s:Nat}:aY P Γ d (.G9 e s) xs aa C=(au xs∧aj (ak (.G9 e s) (xs.map strip) aa) fun x=>x.1∧C (.put x.2)):=rfl
@[simp↓] theorem XP {P:Program}{Γ:bW}{d:Option Nat}{aa:Nat→Option AO}{C:bI→Prop}{xs:List AV}:aY P Γ d .DN xs aa C=(au xs∧aj (ak .DN (xs.map strip) aa) fun x=>x.1∧C (.put x.2)):=rfl
@[simp↓] theorem VV {P:Program}{Γ:bW}{d:Option Nat}{aa:Nat→Option AO}{C:bI→Prop}{xs:List AV}{c:Bool}{e:TypeId}{s:Nat}:cp P Γ c d (.Df e s) xs aa C=aj (ak (.Df e s) (xs.map strip) aa) fun x=>(c=true→au xs∧x.1)∧C (.put (.ch c x.2)):=rfl
@[simp↓] theorem Sy {P:Program}{Γ:bW}{d:Option Nat}{aa:Nat→Option AO}{C:bI→Prop}{xs:List AV}{c:Bool}{e s:Nat}:cp P Γ c d (.G9 e s) xs aa C=aj (ak (.G9 e s) (xs.map strip) aa) fun x=>(c=true→au xs∧x.1)∧C (.put (.ch c x.2)):=rfl
@[simp↓] theorem Ug {P:Program}{Γ:bW}{d:Option Nat}{aa:Nat→Option AO}{C:bI→Prop}{xs:List AV}{c:Bool}:cp P Γ c d .DN xs aa C=aj (ak .DN (xs.map strip) aa) fun x=>(c=true→au xs∧x.1)∧C (.put (.ch c x.2)):=rfl
@[simp↓] theorem Ys {P:Program}{Γ:bW}{d:Option Nat}{aa:Nat→Option AO}{C:bI→Prop}{xs:List AV}{s:Nat}{a b:Bool}:aY P Γ d (.AX s a b) xs aa C=(au xs∧aj (ak (.AX s a b) (xs.map strip) aa) fun x=>x.1∧C (.put x.2)):=rfl
@[simp↓] theorem SU {P:Program}{Γ:bW}{d:Option Nat}{aa:Nat→Option AO}{C:bI→Prop}{xs:List AV}{c:Bool}{s:Nat}{a b:Bool}:cp P Γ c d (.AX s a b) xs aa C=aj (ak (.AX s a b) (xs.map strip) aa) fun x=>(c=true→au xs∧x.1)∧C (.put (.ch c x.2)):=rfl
@[simp↓] theorem UG {P:Program}{Γ:bW}{d:Option Nat}{aa:Nat→Option AO}{C:bI→Prop}{xs:List AV}{i:Nat}:aY P Γ d (.ext i) xs aa C=(au xs∧aj (ak (.ext i) (xs.map strip) aa) fun x=>x.1∧C (.put x.2)):=rfl
@[simp↓] theorem YH {P:Program}{Γ:bW}{d:Option Nat}{aa:Nat→Option AO}{C:bI→Prop}{xs:List AV}{c:Bool}{i:Nat}:cp P Γ c d (.ext i) xs aa C=aj (ak (.ext i) (xs.map strip) aa) fun x=>(c=true→au xs∧x.1)∧C (.put (.ch c x.2)):=rfl
@[simp↓] theorem SP {P:Program}{Γ:bW}{d:Option Nat}{aa:Nat→Option AO}{C:bI→Prop}{xs:List AV}{zs:List Value}{ps:List (Nat×Nat)}:aY P Γ d (.G5 zs ps) xs aa C=(au xs∧aj (ak (.G5 zs ps) (xs.map strip) aa) fun x=>x.1∧C (.put x.2)):=rfl
@[simp↓] theorem YE {P:Program}{Γ:bW}{d:Option Nat}{aa:Nat→Option AO}{C:bI→Prop}{xs:List AV}{c:Bool}{zs:List Value}{ps:List (Nat×Nat)}:cp P Γ c d (.G5 zs ps) xs aa C=aj (ak (.G5 zs ps) (xs.map strip) aa) fun x=>(c=true→au xs∧x.1)∧C (.put (.ch c x.2)):=rfl
@[simp↓] theorem YQ {P:Program}{Γ:bW}{d:Option Nat}{aa:Nat→Option AO}{C:bI→Prop}{xs:List AV}{f:FuncId}:aY P Γ d (.Hl f) xs aa C=(au xs∧aj (ak (.Hl f) (xs.map strip) aa) fun x=>x.1∧C (.put x.2)):=rfl
@[simp↓] theorem Uq {P:Program}{Γ:bW}{d:Option Nat}{aa:Nat→Option AO}{C:bI→Prop}{xs:List AV}{c:Bool}{f:FuncId}:cp P Γ c d (.Hl f) xs aa C=aj (ak (.Hl f) (xs.map strip) aa) fun x=>(c=true→au xs∧x.1)∧C (.put (.ch c x.2)):=rfl
@[simp↓] theorem R7 {P:Program}{Γ:bW}{d:Option Nat}{aa:Nat→Option AO}{C:bI→Prop}{xs:List AV}{e:TypeId}:aY P Γ d (.gF e) xs aa C=aj d fun d=>au xs∧aj (cA (.gF e) d (xs.map strip) aa) fun x=>x.1∧aa d=none∧C (.new x.2.1 [(d,x.2.2)]):=rfl
@[simp↓] theorem VE {P:Program}{Γ:bW}{d:Option Nat}{aa:Nat→Option AO}{C:bI→Prop}{xs:List AV}:aY P Γ d .box xs aa C=aj d fun d=>au xs∧aj (cA .box d (xs.map strip) aa) fun x=>x.1∧aa d=none∧C (.new x.2.1 [(d,x.2.2)]):=rfl
@[simp↓] theorem OV {P:Program}{Γ:bW}{d:Option Nat}{aa:Nat→Option AO}{C:bI→Prop}{xs:List AV}{zs:List Value}:aY P Γ d (.alloc zs) xs aa C=aj d fun d=>au xs∧aj (cA (.alloc zs) d (xs.map strip) aa) fun x=>x.1∧aa d=none∧C (.new x.2.1 [(d,x.2.2)]):=rfl
@[simp↓] theorem WM {P:Program}{Γ:bW}{d:Option Nat}{aa:Nat→Option AO}{C:bI→Prop}{xs:List AV}{e:TypeId}{sz:Nat}:aY P Γ d (.rB e sz) xs aa C=aj d fun d=>au xs∧aj (cA (.rB e sz) d (xs.map strip) aa) fun x=>x.1∧aa d=none∧C (.new x.2.1 [(d,x.2.2)]):=rfl
@[simp↓] theorem R9 {P:Program}{Γ:bW}{d:Option Nat}{aa:Nat→Option AO}{C:bI→Prop}{xs:List AV}{c:Bool}{e:TypeId}:cp P Γ c d (.gF e) xs aa C=((c=true→aY P Γ d (.gF e) xs aa C)∧(c=false→C (.put .ay))):=rfl
@[simp↓] theorem Uy {P:Program}{Γ:bW}{d:Option Nat}{aa:Nat→Option AO}{C:bI→Prop}{xs:List AV}{c:Bool}:cp P Γ c d .box xs aa C=((c=true→aY P Γ d .box xs aa C)∧(c=false→C (.put .ay))):=rfl
@[simp↓] theorem Nz {P:Program}{Γ:bW}{d:Option Nat}{aa:Nat→Option AO}{C:bI→Prop}{xs:List AV}{c:Bool}{zs:List Value}:cp P Γ c d (.alloc zs) xs aa C=((c=true→aY P Γ d (.alloc zs) xs aa C)∧(c=false→C (.put .ay))):=rfl
@[simp↓] theorem T0 {P:Program}{Γ:bW}{d:Option Nat}{aa:Nat→Option AO}{C:bI→Prop}{xs:List AV}{c:Bool}{e:TypeId}{sz:Nat}:cp P Γ c d (.rB e sz) xs aa C=((c=true→aY P Γ d (.rB e sz) xs aa C)∧(c=false→C (.put (yx xs)))):=rfl
@[simp] theorem SY (xs:List AV):yx xs=EV (rowsOf (xs.map strip)):=nr rfl
@[simp] theorem NC (rows:List (List PV)):EV (some rows)=.ch false (.pv (.ro rows)):=nr rfl
@[simp↓] theorem MY {P:Program}{Γ:bW}{d:Option Nat}{aa:Nat→Option AO}{C:bI→Prop}{xs:List AV}{c:Bool}{n:Option Nat}:cp P Γ c d (.store n) xs aa C=((c=true→aY P Γ d (.store n) xs aa C)∧(c=false→C (.put .ay))):=rfl
@[simp↓] theorem YN {P:Program}{Γ:bW}{d:Option Nat}{aa:Nat→Option AO}{C:bI→Prop}{xs:List AV}{c:Bool}{e:TypeId}{z b:Nat}:cp P Γ c d (.app e z b) xs aa C=((c=true→aY P Γ d (.app e z b) xs aa C)∧(c=false→C (.put .ay))):=rfl
@[simp↓] theorem Yv {P:Program}{Γ:bW}{d:Option Nat}{aa:Nat→Option AO}{C:bI→Prop}{x:AV}:aY P Γ d .nK [x] aa C=C (.put x):=by simp[aY,aj]
@[simp↓] theorem VL {P:Program}{Γ:bW}{c:Bool}{d:Option Nat}{aa:Nat→Option AO}{C:bI→Prop}{x:AV}:cp P Γ c d .nK [x] aa C=C (.put (.ch c x)):=by simp[cp,aj]
@[simp↓] theorem pM {P:Program}{Γ:bW}{d:Option Nat}{aa:Nat→Option AO}{C:bI→Prop}{xs:List AV}:aY P Γ d .pick xs aa C=aj (sK xs) fun x=>x.1∧C (.put x.2):=rfl
@[simp↓] theorem vD {P:Program}{Γ:bW}{d:Option Nat}{aa:Nat→Option AO}{C:bI→Prop}{xs:List AV}{c:Bool}:cp P Γ c d .pick xs aa C=aj (sK xs) fun x=>(c=true→x.1)∧C (.put (.ch c x.2)):=rfl
@[simp↓] theorem LY {P:Program}{Γ:bW}{d:Option Nat}{aa:Nat→Option AO}{C:bI→Prop}{xs:List AV}{n:Option Nat}:aY P Γ d (.store n) xs aa C=(au xs∧aj (eD (.store n) (xs.map strip) aa) fun x=>x.1∧C (.vK x.2.1 x.2.2)):=rfl
@[simp↓] theorem Jc {P:Program}{Γ:bW}{d:Option Nat}{aa:Nat→Option AO}{C:bI→Prop}{x:AV}{t:Nat}{e:TypeId}{z b:Nat}:aY P Γ d (.app e z b) [.own t,x] aa C=(au [.own t,x]∧aj (eD (.app e z b) [.own t,strip x] aa) fun x=>x.1∧C (.app x.2.1 x.2.2)):=rfl
@[simp↓] theorem HP {P:Program}{Γ:bW}{d:Option Nat}{aa:Nat→Option AO}{C:bI→Prop}{x:AV}{e:TypeId}{z b:Nat}:aY P Γ d (.app e z b) [.pv .nil,x] aa C=(au [.pv .nil,x]∧aj d fun d=>aj (cA (.app e z b) d [.pv .nil,strip x] aa) fun x=>x.1∧aa d=none∧C (.new x.2.1 [(d,x.2.2)])):=rfl
@[simp↓] theorem Qo {P:Program}{Γ:bW}{d:Option Nat}{aa:Nat→Option AO}{C:bI→Prop}{xs:List AV}{f:FuncId}:aY P Γ d (.call f) xs aa C=cD P Γ d f xs aa C:=rfl
@[simp↓] theorem Ro {P:Program}{Γ:bW}{d:Option Nat}{aa:Nat→Option AO}{C:bI→Prop}{xs:List AV}{c:Bool}{f:FuncId}:cp P Γ c d (.call f) xs aa C=aj (fA aa (xs.map strip)) fun ys=>aj (gt Γ f ys) fun x=>if(!oc x.2&&(AF x.2).isEmpty)=true then(c=true→au xs∧x.1)∧flat x.2∧AF x.2=[]∧cU x.2=true∧C (.put (.ch c x.2)) else(c=true→cD P Γ d f xs aa C)∧(c=false→C (.put (.ch false (IY x.2)))):=rfl
@[simp] theorem Zp (e:TypeId) (rows:List (List PV)):IY (.fr e rows)=.pv (.ro rows):=nr rfl
@[simp] theorem Wa (cs:List AV):IY (.agg cs)=.agg (cs.map Ai):=nr rfl
@[simp] theorem VX (e:TypeId) (rows:List (List PV)):Ai (.fr e rows)=.pv (.ro rows):=nr rfl
@[simp] theorem UI (p:PV):Ai (.pv p)=.pv p:=nr rfl
@[simp↓] theorem XI {Γ:bW}{aa:Nat→Option AO}{C:bI→Prop}{xs:List AV}{c:Bool}{f:FuncId}:zJ Γ c f xs aa C=aj (fA aa (xs.map strip)) fun ys=>aj (gt Γ f ys) fun x=>(c=true→au xs∧x.1)∧flat x.2∧AF x.2=[]∧cU x.2=true∧C (.put (.ch c x.2)):=rfl
section
variable{aa:Nat→Option AO}
@[simp] theorem S7 (e:TypeId) (rows:List (List PV)):B3 (some (.arr e rows))=some (e,rows.length):=nr rfl
@[simp] theorem PG (e e':TypeId) (i:Int) (o:Nat) (rows:List (List PV)):lI e i o (some (.arr e' rows))=if e'=e then some (0≤i∧i<rows.length∧o<(rowAt rows i).length,.pv ((rowAt rows i).getD o (.int .u8 0))) else none:=nr rfl
@[simp] theorem S9 (es:List (PV×PV)):cO (some (.gY es))=none:=nr rfl
@[simp] theorem PL (e:TypeId) (rows:List (List PV)):cO (some (.arr e rows))=some (e,rows):=nr rfl
@[simp] theorem PW (cs:List AV):eQ (some (.box cs))=some cs:=nr rfl
@[simp] theorem Yf (c:Bool):jd (.pv (.bool c))=some c:=nr rfl
@[simp] theorem U5 (c a b:AV):sK [c,a,b]=(jd (strip c)).bind fun g=>(qf (asks a) (asks b) g (strip a) (strip b)).map fun r=>(asks c∧r.1,r.2):=nr rfl
@[simp] theorem Pb (φ ψ:Prop) (c x y:Bool):qf φ ψ c (.pv (.bool x)) (.pv (.bool y))=some ((c=true→φ)∧(c=false→ψ),.pv (.bool (cond c x y))):=nr rfl
@[simp] theorem Pj (φ ψ:Prop) (c x:Bool):qf φ ψ c (.pv (.bool x)) .ay=some (c=true∧φ,.pv (.bool x)):=nr rfl
@[simp] theorem Ri (φ ψ:Prop) (c y:Bool):qf φ ψ c .ay (.pv (.bool y))=some (c=false∧ψ,.pv (.bool y)):=nr rfl
@[simp] theorem TF (n:Nat) (k:IntKind) (l:Int):bounds n true false [.pv (.int k l)]=some (l,(n:Int)):=nr rfl
@[simp] theorem Wt (n:Nat) (k:IntKind) (h:Int):bounds n false true [.pv (.int k h)]=some (0,h):=nr rfl
@[simp] theorem XH (n:Nat) (k k':IntKind) (l h:Int):bounds n true true [.pv (.int k l),.pv (.int k' h)]=some (l,h):=nr rfl
@[simp] theorem Ya (op:BinOp) (x y:PV):ak (.bin op) [.pv x,.pv y] aa=(dB op x y).map fun r=>(r.1,.pv r.2):=nr rfl
@[simp] theorem XS (ne x y:Bool):ak (.beq ne) [.pv (.bool x),.pv (.bool y)] aa=some (True,.pv (.bool (if ne then x !=y else x==y))):=nr rfl
@[simp] theorem Tx (b:Bool):ak .not [.pv (.bool b)] aa=some (True,.pv (.bool (!b))):=nr rfl
@[simp] theorem T6 (k k':IntKind) (n:Int):ak (.Bm k) [.pv (.int k' n)] aa=some (True,.pv (.int k (k.wrap n))):=nr rfl
@[simp] theorem Yn (ne:Bool) (ks:List Nat) (xs ys:List AV):ak (.eqs ne ks) [.agg xs,.agg ys] aa=(eM xs).bind fun a=>(eM ys).map fun b=>(a.map dk=ks∧b.map dk=ks,.pv (.bool (if ne then !jf a b else jf a b))):=nr rfl
@[simp] theorem Ta:jf [] []=true:=nr rfl
@[simp] theorem QS (a b:PV) (l m:List PV):jf (a::l) (b::m)=(mU a b&&jf l m):=nr rfl
@[simp] theorem eqP_int (k k':IntKind) (a b:Int):mU (.int k a) (.int k' b)=decide (a=b):=nr rfl
@[simp] theorem eqP_str (a b:List UInt8):mU (.str a) (.str b)=decide (a=b):=nr rfl
@[simp] theorem WK (a b:Bool):mU (.bool a) (.bool b)=decide (a=b):=nr rfl
@[simp] theorem Yo (k:IntKind) (a b:Int):ak (.DP false) [.pv (.int k a),.pv (.int k b)] aa=some (True,.pv (.int k (min a b))):=by simp[ak]
@[simp] theorem XM (k:IntKind) (a b:Int):ak (.DP true) [.pv (.int k a),.pv (.int k b)] aa=some (True,.pv (.int k (max a b))):=by simp[ak]
@[simp] theorem Rl (e:TypeId) (l:List UInt8):ak (.og e) [.pv (.str l)] aa=some (True,.pv (.ro (bytesRow l))):=nr rfl
@[simp] theorem Sv (x:AV):ak .rC [x] aa=(fk aa x).bind fun rows=>(bytesOf rows).map fun l=>(True,.pv (.str l)):=nr rfl
@[simp] theorem V3 (rows:List (List PV)):fk aa (.pv (.ro rows))=some rows:=nr rfl
@[simp] theorem QI (t:Nat):fk aa (.own t)=(cO (aa t)).map (·.2):=nr rfl
@[simp] theorem JA (l:List UInt8):ak .uS [.pv (.str l)] aa=some (True,.pv (.int .i64 l.length)):=nr rfl
@[simp] theorem IJ:ak .len [.pv .nil] aa=some (True,.pv (.int .i64 0)):=nr rfl
@[simp] theorem K9 (rows:List (List PV)):ak .len [.pv (.ro rows)] aa=some (True,.pv (.int .i64 rows.length)):=nr rfl
@[simp] theorem Im (t:Nat):ak .len [.own t] aa=(B3 (aa t)).map fun r=>(True,.pv (.int .i64 r.2)):=nr rfl
@[simp] theorem HU (t:Nat) (e:TypeId) (lo hi:Nat):ak .len [.sub t e lo hi] aa=(cO (aa t)).map fun _=>(True,.pv (.int .i64 ((hi:Int)-(lo:Int)))):=nr rfl
@[simp] theorem Q9 (l:List UInt8) (k:IntKind) (i:Int):ak .uV [.pv (.str l),.pv (.int k i)] aa=some (0≤i∧i<l.length,.pv (.int .u8 ((l.getD i.toNat 0).toNat:Int))):=nr rfl
@[simp] theorem YT (sz:Nat) (lo hi:Bool) (rows:List (List PV)) (bs:List AV):ak (.AX sz lo hi) (.pv (.ro rows)::bs) aa=(bounds rows.length lo hi bs).map fun b:Int×Int=>(0≤b.1∧b.1≤b.2∧b.2≤(rows.length:Int)∧(∀r∈rows,r.length=sz),.pv (.ro (cut rows b.1 b.2))):=by unfold ak;rfl
@[simp] theorem I8 (off t o:Nat):ak (.rJ off) [.ptr t o] aa=some (True,.ptr t (o+off)):=nr rfl
@[simp] theorem Hj (off t o:Nat) (e:TypeId) (i:Int):ak (.rJ off) [.aX t e i o] aa=some (True,.aX t e i (o+off)):=nr rfl
@[simp] theorem J2 (off:Nat) (cs:List PV):ak (.rJ off) [.rp cs] aa=some (True,.rp (cs.drop off)):=nr rfl
@[simp] theorem Ij (t o:Nat):ak .DN [.ptr t o] aa=some (True,.ptr t o):=nr rfl
@[simp] theorem Lh (cs:List PV):ak .DN [.rp cs] aa=some (True,.rp cs):=nr rfl
@[simp] theorem G4 (t o:Nat):ak (.load none) [.ptr t o] aa=(eQ (aa t)).bind fun cs=>(cs[o]?).bind fun c=>if mi c=true then some (True,c) else none:=nr rfl
@[simp] theorem Xl (p:PV):mi (.pv p)=true:=nr rfl
@[simp] theorem P8 (t:Nat):mi (.own t)=true:=nr rfl
@[simp] theorem GU (n t o:Nat):ak (.load (some n)) [.ptr t o] aa=(eQ (aa t)).bind fun cs=>if o+n≤cs.length then some (True,.agg ((cs.drop o).take n)) else none:=nr rfl
@[simp] theorem Gi (t o:Nat) (e:TypeId) (i:Int):ak (.load none) [.aX t e i o] aa=lI e i o (aa t):=nr rfl
@[simp] theorem EP (n t o:Nat) (e:TypeId) (i:Int):ak (.load (some n)) [.aX t e i o] aa=(cO (aa t)).bind fun r=>if r.1=e∧o+n≤(rowAt r.2 i).length then some (0≤i∧i<r.2.length,.agg ((((rowAt r.2 i).drop o).take n).map .pv)) else none:=nr rfl
@[simp] theorem JE (c:PV) (cs:List PV):ak (.load none) [.rp (c::cs)] aa=some (True,.pv c):=nr rfl
@[simp] theorem Hm:ak (.load none) [.rp []] aa=some (False,.pv (.int .u64 0)):=nr rfl
@[simp] theorem Hi (n:Nat) (cs:List PV):ak (.load (some n)) [.rp cs] aa=(if n≤cs.length then some (True,.agg ((cs.take n).map .pv)) else none):=nr rfl
@[simp] theorem Kj (e:TypeId) (sz:Nat) (rows:List (List PV)) (k:IntKind) (i:Int):ak (.Df e sz) [.pv (.ro rows),.pv (.int k i)] aa=some (0≤i∧i<rows.length∧(rowAt rows i).length=sz,.rp (rowAt rows i)):=nr rfl
@[simp] theorem Jb (e:TypeId) (sz t:Nat) (k:IntKind) (i:Int):ak (.Df e sz) [.own t,.pv (.int k i)] aa=(B3 (aa t)).bind fun r=>if r.1=e then some (0≤i∧i<r.2,.aX t e i 0) else none:=nr rfl
@[simp] theorem HL (e e1:TypeId) (sz t lo hi:Nat) (k:IntKind) (i:Int):ak (.Df e sz) [.sub t e1 lo hi,.pv (.int k i)] aa=(cO (aa t)).bind fun r=>if r.1=e∧e1=e then some (0≤i∧i<(hi:Int)-(lo:Int),.aX t e ((lo:Int)+i) 0) else none:=nr rfl
@[simp] theorem HJ (sz:Nat) (lo hi:Bool) (bs:List AV):ak (.AX sz lo hi) (.pv .nil::bs) aa=(bounds 0 lo hi bs).map fun b:Int×Int=>(b.1=0∧b.2=0,.pv .nil):=nr rfl
@[simp] theorem Je (sz t:Nat) (lo hi:Bool) (bs:List AV):ak (.AX sz lo hi) (.own t::bs) aa=(cO (aa t)).bind fun r=>(bounds r.2.length lo hi bs).map fun b:Int×Int=>(0≤b.1∧b.1≤b.2∧b.2≤(r.2.length:Int)∧(∀x∈r.2,x.length=sz),.sub t r.1 b.1.toNat b.2.toNat):=nr rfl
@[simp] theorem Xm (i:Nat) (vs:List AV):ak (.ext i) [.aQ vs] aa=(vs[i]?).map fun v=>(True,v):=nr rfl
@[simp] theorem Yd (zs:List Value) (ps:List (Nat×Nat)) (xs:List AV):ak (.G5 zs ps) xs aa=(kr (zs.map cv) ps xs).map fun cs=>(True,.agg cs):=by unfold ak;rfl
@[simp] theorem TR (f:FuncId) (xs:List AV):ak (.Hl f) xs aa=some (True,.bJ f xs):=by unfold ak;rfl
@[simp] theorem Qb (e:TypeId) (d:Nat) (xs:List AV):cA (.gF e) d xs aa=some (True,.own d,.arr e []):=by unfold cA;rfl
@[simp] theorem To (d:Nat) (x:AV):cA .box d [x] aa=(if fG (cellsOf x) then some (True,.ptr d 0,.box (cellsOf x)) else none):=nr rfl
@[simp] theorem M6 (d:Nat) (zs:List Value) (xs:List AV):cA (.alloc zs) d xs aa=(if zs.all (·.oneCell') then some (True,.ptr d 0,.box (zs.map cv)) else none):=by unfold cA;rfl
@[simp] theorem Ub (e:TypeId) (sz d:Nat) (xs:List AV):cA (.rB e sz) d xs aa=(rowsOf xs).map fun rows=>(∀r∈rows,r.length=sz,.own d,.arr e rows):=by unfold cA;rfl
@[simp] theorem Wq (e:TypeId) (sz bytes d:Nat) (x:AV):cA (.app e sz bytes) d [.pv .nil,x] aa=(cQ aa x).map fun rows=>(rows.length*bytes≤140737488355328∧rows.length≤maxLen∧(∀r∈rows,r.length=sz),.own d,.arr e rows):=nr rfl
@[simp] theorem FG (t o:Nat) (v:AV):eD (.store none) [.ptr t o,v] aa=(eQ (aa t)).bind fun cs=>if ei v∧o<cs.length then some (True,t,.box (cs.set o v)) else none:=nr rfl
@[simp] theorem EO (n t o:Nat) (vs:List AV):eD (.store (some n)) [.ptr t o,.agg vs] aa=(eQ (aa t)).bind fun cs=>if fG vs∧vs.length=n∧o+n≤cs.length then some (True,t,.box (cd cs o vs)) else none:=nr rfl
@[simp] theorem EM (t o:Nat) (e:TypeId) (i:Int) (p:PV):eD (.store none) [.aX t e i o,.pv p] aa=(cO (aa t)).bind fun r=>if r.1=e∧o<(rowAt r.2 i).length∧ei (.pv p) then some (0≤i∧i<r.2.length,t,.arr e (r.2.set i.toNat ((rowAt r.2 i).set o p))) else none:=nr rfl
@[simp] theorem DF (n t o:Nat) (e:TypeId) (i:Int) (vs:List AV):eD (.store (some n)) [.aX t e i o,.agg vs] aa=(cO (aa t)).bind fun r=>(eM vs).bind fun ps=>if r.1=e∧fG vs∧ps.length=n∧o+n≤(rowAt r.2 i).length then some (0≤i∧i<r.2.length,t,.arr e (r.2.set i.toNat (cd (rowAt r.2 i) o ps))) else none:=nr rfl
@[simp] theorem WS (e:TypeId) (sz bytes t:Nat) (x:AV):eD (.app e sz bytes) [.own t,x] aa=(cO (aa t)).bind fun r=>(cQ aa x).bind fun more=>if r.1=e∧t%1000≠999 then some ((r.2.length+more.length)*bytes≤140737488355328∧r.2.length+more.length≤maxLen∧(∀r∈more,r.length=sz),t,.arr e (r.2++more)) else none:=nr rfl
@[simp] theorem pvOf_pv (p:PV):Et (.pv p)=some p:=nr rfl
@[simp] theorem Pk:eM []=some []:=nr rfl
@[simp] theorem NY (v:AV) (l:List AV):eM (v::l)=(Et v).bind fun p=>(eM l).map (p::·):=nr rfl
@[simp] theorem W8 (p:PV):rowOf (.pv p)=some [p]:=nr rfl
@[simp] theorem RR (cs:List AV):rowOf (.agg cs)=eM cs:=nr rfl
@[simp] theorem Mj:rowsOf []=some []:=nr rfl
@[simp] theorem KQ (v:AV) (l:List AV):rowsOf (v::l)=(rowOf v).bind fun p=>(rowsOf l).map (p::·):=nr rfl
@[simp] theorem JL (cs:List AV):cellsOf (.agg cs)=cs:=nr rfl
@[simp] theorem Mz (p:PV):cellsOf (.pv p)=[.pv p]:=nr rfl
@[simp] theorem Kh (t:Nat):cellsOf (.own t)=[.own t]:=nr rfl
@[simp] theorem Ox (cs:List AV):kr cs [] []=some cs:=nr rfl
@[simp] theorem KY (cs:List AV) (off n:Nat) (ps:List (Nat×Nat)) (x:AV) (xs:List AV):kr cs ((off,n)::ps) (x::xs)=if lH x=true∧(cellsOf x).length=n∧off+n≤cs.length then kr (lay cs off ((cellsOf x).map pG)) ps xs else none:=nr rfl
@[simp] theorem Zx (p:PV):pG (.pv p)=.pv p:=nr rfl
@[simp] theorem WV (t:Nat):pG (.own t)=.own t:=nr rfl
@[simp] theorem UH (f:FuncId):pG (.bJ f [])=.pv (.val (.func (.func f) #[] #[])):=nr rfl
@[simp] theorem Qm (rows:List (List PV)):cQ aa (.pv (.ro rows))=some rows:=nr rfl
@[simp] theorem MX (l:List UInt8):cQ aa (.pv (.str l))=some (bytesRow l):=nr rfl
@[simp] theorem LG (t:Nat):cQ aa (.own t)=(cO (aa t)).map (·.2):=nr rfl
@[simp] theorem Yc:eA aa (.pv .nil)=some (.ro []):=nr rfl
@[simp] theorem Vg (k:IntKind) (n:Int):eA aa (.pv (.int k n))=some (.int k n):=nr rfl
@[simp] theorem Re (b:Bool):eA aa (.pv (.bool b))=some (.bool b):=nr rfl
@[simp] theorem WR (l:List UInt8):eA aa (.pv (.str l))=some (.str l):=nr rfl
@[simp] theorem reiP_ro (rows:List (List PV)):eA aa (.pv (.ro rows))=some (.ro rows):=nr rfl
@[simp] theorem Vy (t:Nat):eA aa (.own t)=EC (aa t):=nr rfl
@[simp] theorem X7 (e:TypeId) (rows:List (List PV)):EC (some (.arr e rows))=some (.ro rows):=nr rfl
@[simp] theorem Uu (es:List (PV×AV)):EC (some (.map es))=if es.all (fun e=>C7 e.2)=true then some (.mp (es.map (·.1))) else none:=nr rfl
@[simp] theorem Qf:u7 (.agg #[])=true:=nr rfl
@[simp] theorem TT (t:Nat) (e:TypeId) (lo hi:Nat):eA aa (.sub t e lo hi)=(cO (aa t)).bind fun r=>if r.1=e then some (.ro ((r.2.take hi).drop lo)) else none:=nr rfl
@[simp] theorem PE:jj aa []=some []:=nr rfl
@[simp] theorem Mn (c:AV) (cs:List AV):jj aa (c::cs)=(eA aa c).bind fun p=>(jj aa cs).map (p::·):=nr rfl
@[simp] theorem X0 (t o:Nat):fc aa (.ptr t o)=(eQ (aa t)).bind fun cs=>(jj aa (cs.drop o)).map .rp:=nr rfl
@[simp] theorem ZD (cs:List PV):fc aa (.rp cs)=some (.rp cs):=nr rfl
@[simp] theorem QN:kH aa []=some []:=nr rfl
@[simp] theorem ML (c:AV) (cs:List AV):kH aa (c::cs)=(fc aa c).bind fun p=>(kH aa cs).map (p::·):=nr rfl
@[simp] theorem ZR (f:FuncId) (caps:List AV):nJ aa (.bJ f caps)=(kH aa caps).map (.bJ f):=nr rfl
@[simp] theorem ZJ (t o:Nat):nJ aa (.ptr t o)=fc aa (.ptr t o):=nr rfl
@[simp] theorem rei_rp (cs:List PV):nJ aa (.rp cs)=some (.rp cs):=nr rfl
@[simp] theorem rei_agg (cs:List AV):nJ aa (.agg cs)=(jj aa cs).map fun ps=>.agg (ps.map .pv):=nr rfl
@[simp] theorem rei_pv (p:PV):nJ aa (.pv p)=(eA aa (.pv p)).map .pv:=nr rfl
@[simp] theorem Zv (t:Nat):nJ aa (.own t)=(eA aa (.own t)).map .pv:=nr rfl
@[simp] theorem Z9 (t:Nat) (e:TypeId) (lo hi:Nat):nJ aa (.sub t e lo hi)=(eA aa (.sub t e lo hi)).map .pv:=nr rfl
@[simp] theorem W9:fA aa []=some []:=nr rfl
@[simp] theorem Sh (c:AV) (cs:List AV):fA aa (c::cs)=(nJ aa c).bind fun p=>(fA aa cs).map (p::·):=nr rfl
@[simp] theorem Tw (p:PV):gv (.pv p)=true:=nr rfl
@[simp] theorem TO (cs:List PV):gv (.rp cs)=true:=nr rfl
@[simp] theorem RW (t:Nat):gv (.own t)=false:=nr rfl
@[simp] theorem Q6 (t o:Nat):gv (.ptr t o)=false:=nr rfl
@[simp] theorem LN:gJ []=true:=nr rfl
@[simp] theorem Lo (c:AV) (cs:List AV):gJ (c::cs)=(gv c&&gJ cs):=nr rfl
@[simp] theorem Qy (cs:List AV):dS (.agg cs)=gJ cs:=nr rfl
@[simp] theorem Sq (f:FuncId) (cs:List AV):dS (.bJ f cs)=gJ cs:=nr rfl
@[simp] theorem Vp (p:PV):dS (.pv p)=true:=nr rfl
@[simp] theorem TD (cs:List PV):dS (.rp cs)=true:=nr rfl
@[simp] theorem Ra (t:Nat):dS (.own t)=false:=nr rfl
@[simp] theorem P1 (t:Nat) (e:TypeId) (lo hi:Nat):dS (.sub t e lo hi)=false:=nr rfl
@[simp] theorem PN (t o:Nat):dS (.ptr t o)=false:=nr rfl
@[simp] theorem Q7:eG []=true:=nr rfl
@[simp] theorem MN (c:AV) (cs:List AV):eG (c::cs)=(dS c&&eG cs):=nr rfl
@[simp] theorem ZY (k:IntKind) (n:Int):ei (.pv (.int k n))=true:=nr rfl
@[simp] theorem U3 (b:Bool):ei (.pv (.bool b))=true:=nr rfl
@[simp] theorem ZA (l:List UInt8):ei (.pv (.str l))=true:=nr rfl
@[simp] theorem Zk:ei (.pv .nil)=true:=nr rfl
@[simp] theorem one_ro (rows:List (List PV)):ei (.pv (.ro rows))=true:=nr rfl
@[simp] theorem ZB (t:Nat):ei (.own t)=true:=nr rfl
@[simp] theorem UM:fG []=true:=nr rfl
@[simp] theorem Rp (c:AV) (cs:List AV):fG (c::cs)=(ei c&&fG cs):=nr rfl
@[simp] theorem Nh (cs:List AV):lH (.agg cs)=true:=nr rfl
@[simp] theorem Qr (p:PV):lH (.pv p)=ei (.pv p):=nr rfl
@[simp] theorem Mk (t:Nat):lH (.own t)=true:=nr rfl
@[simp] theorem Pp (t s:Nat):ca t (.own s)=if s=t then .ay else .own s:=nr rfl
@[simp] theorem Wc (t:Nat) (p:PV):ca t (.pv p)=.pv p:=nr rfl
@[simp] theorem LO (t:Nat):ca t .ay=.ay:=nr rfl
@[simp] theorem Ot (t:Nat):bX t []=[]:=nr rfl
@[simp] theorem KO (t:Nat) (c:AV) (cs:List AV):bX t (c::cs)=ca t c::bX t cs:=nr rfl
@[simp] theorem Y6 (t:Nat) (cs:List AV):kill t (.agg cs)=.agg (bX t cs):=nr rfl
@[simp] theorem Vt (t s:Nat):kill t (.own s)=if s=t then .ay else .own s:=nr rfl
@[simp] theorem pd (t s:Nat) (e:TypeId) (i:Int) (o:Nat):kill t (.aX s e i o)=if s=t then .ay else .aX s e i o:=nr rfl
@[simp] theorem kill_pv (t:Nat) (p:PV):kill t (.pv p)=.pv p:=nr rfl
@[simp] theorem uA (t s o:Nat):kill t (.ptr s o)=.ptr s o:=nr rfl
@[simp] theorem xx (t:Nat) (cs:List PV):kill t (.rp cs)=.rp cs:=nr rfl
@[simp] theorem QE (t:Nat):kill t .ay=.ay:=nr rfl
@[simp] theorem Tz (t:Nat) (g:Bool) (v:AV):kill t (.ch g v)=.ch g (kill t v):=nr rfl
@[simp] theorem Ud (t:Nat) (f:FuncId) (c:AV) (cs:List AV):kill t (.bJ f (c::cs))=.ay:=nr rfl
@[simp] theorem QD (t:Nat) (f:FuncId):kill t (.bJ f [])=.bJ f []:=nr rfl
@[simp] theorem PX (t:Nat) (cs:List AV):dI t (.box cs)=.box (bX t cs):=nr rfl
@[simp] theorem PY (t:Nat) (e:TypeId) (rows:List (List PV)):dI t (.arr e rows)=.arr e rows:=nr rfl
@[simp] theorem QA (g:Nat→AV→AV) (j:Nat):gT g j []=[]:=nr rfl
@[simp] theorem LJ (g:Nat→AV→AV) (j:Nat) (c:AV) (cs:List AV):gT g j (c::cs)=g (1000*j) c::gT g (j+1) cs:=nr rfl
@[simp] theorem WQ (g:Nat→AV→AV) (cs:List AV):mP g (.agg cs)=.agg (gT g 0 cs):=nr rfl
@[simp] theorem map1_pv (g:Nat→AV→AV) (p:PV):mP g (.pv p)=g 0 (.pv p):=nr rfl
@[simp] theorem map1_fr (g:Nat→AV→AV) (e:TypeId) (rows:List (List PV)):mP g (.fr e rows)=g 0 (.fr e rows):=nr rfl
@[simp] theorem QR (g:Nat→AV→AV) (i:Nat):iI g i []=[]:=nr rfl
@[simp] theorem Od (g:Nat→AV→AV) (i:Nat) (v:AV) (vs:List AV):iI g i (v::vs)=mP (fun p c=>g (p+i) c) v::iI g (i+1) vs:=nr rfl
@[simp] theorem Md (g:Nat→AV→AV) (vs:List AV):cV g (.aQ vs)=.aQ (iI g 0 vs):=nr rfl
@[simp] theorem Sr (g:Nat→AV→AV) (p:PV):cV g (.pv p)=g 0 (.pv p):=nr rfl
@[simp] theorem QH (g:Nat→AV→AV) (e:TypeId) (rows:List (List PV)):cV g (.fr e rows)=g 0 (.fr e rows):=nr rfl
@[simp] theorem LP (g:Nat→AV→AV) (cs:List AV):cV g (.agg cs)=.agg (gT g 0 cs):=nr rfl
@[simp] theorem Zf (d p:Nat) (e:TypeId) (rows:List (List PV)):lW d p (.fr e rows)=.own (d+1000*p):=nr rfl
@[simp] theorem Zw (d p:Nat) (q:PV):lW d p (.pv q)=.pv q:=nr rfl
@[simp 1100] theorem S5 (d p:Nat) (o:AO) (l:List (Nat×AO)):List.map (fun x:Nat×AO=>(d+1000*x.1,x.2)) ((p,o)::l)=(d+1000*p,o)::List.map (fun x:Nat×AO=>(d+1000*x.1,x.2)) l:=nr rfl
@[simp] theorem QP (j:Nat):gx j []=[]:=nr rfl
@[simp] theorem TC (j:Nat) (e:TypeId) (rows:List (List PV)) (cs:List AV):gx j (.fr e rows::cs)=(1000*j,.arr e rows)::gx (j+1) cs:=nr rfl
@[simp] theorem Td (j:Nat) (p:PV) (cs:List AV):gx j (.pv p::cs)=gx (j+1) cs:=nr rfl
@[simp] theorem Vi (cs:List AV):k9 (.agg cs)=gx 0 cs:=nr rfl
@[simp] theorem ZH (e:TypeId) (rows:List (List PV)):k9 (.fr e rows)=[(0,.arr e rows)]:=nr rfl
@[simp] theorem frs1_pv (p:PV):k9 (.pv p)=[]:=nr rfl
@[simp] theorem RF (i:Nat):lD i []=[]:=nr rfl
@[simp] theorem Ny (i:Nat) (v:AV) (vs:List AV):lD i (v::vs)=(k9 v).map (fun x=>(x.1+i,x.2))++lD (i+1) vs:=nr rfl
@[simp] theorem ZK (p:PV):jh (.pv p)=true:=nr rfl
@[simp] theorem resC_fr (e:TypeId) (rows:List (List PV)):jh (.fr e rows)=true:=nr rfl
@[simp] theorem PZ:oI []=true:=nr rfl
@[simp] theorem NB (c:AV) (cs:List AV):oI (c::cs)=(jh c&&oI cs):=nr rfl
@[simp] theorem VI (cs:List AV):ll (.agg cs)=oI cs:=nr rfl
@[simp] theorem Zs (p:PV):ll (.pv p)=true:=nr rfl
@[simp] theorem Zl (e:TypeId) (rows:List (List PV)):ll (.fr e rows)=true:=nr rfl
@[simp] theorem QJ:qJ []=true:=nr rfl
@[simp] theorem OP (c:AV) (cs:List AV):qJ (c::cs)=(ll c&&qJ cs):=nr rfl
@[simp] theorem Qz (vs:List AV):cU (.aQ vs)=(decide (vs.length≤900)&&qJ vs):=nr rfl
@[simp] theorem Qe (cs:List AV):cU (.agg cs)=oI cs:=nr rfl
@[simp] theorem SZ (p:PV):cU (.pv p)=true:=nr rfl
@[simp] theorem XN (e:TypeId) (rows:List (List PV)):cU (.fr e rows)=true:=nr rfl
@[simp] theorem Zy (vs:List AV):AF (.aQ vs)=lD 0 vs:=nr rfl
@[simp] theorem frs_agg (cs:List AV):AF (.agg cs)=gx 0 cs:=nr rfl
@[simp] theorem frs_fr (e:TypeId) (rows:List (List PV)):AF (.fr e rows)=[(0,.arr e rows)]:=nr rfl
@[simp] theorem frs_pv (p:PV):AF (.pv p)=[]:=nr rfl
@[simp] theorem PR (k:IntKind) (n:Int):iJ (.int k n)=true:=nr rfl
@[simp] theorem Nl (b:Bool):iJ (.bool b)=true:=nr rfl
@[simp] theorem P2 (l:List UInt8):iJ (.str l)=true:=nr rfl
@[simp] theorem TG (rows:List (List PV)):iJ (.ro rows)=rows.isEmpty:=nr rfl
@[simp] theorem SQ (p:PV):mW (.pv p)=(iJ p=true):=nr rfl
@[simp] theorem WJ (e:TypeId) (rows:List (List PV)):mW (.fr e rows)=bE rows:=nr rfl
@[simp] theorem Py:oH []=True:=nr rfl
@[simp] theorem Na (c:AV) (cs:List AV):oH (c::cs)=(mW c∧oH cs):=nr rfl
@[simp] theorem RA (cs:List AV):kF (.agg cs)=oH cs:=nr rfl
@[simp] theorem VD (p:PV):kF (.pv p)=(iJ p=true):=nr rfl
@[simp] theorem VU (e:TypeId) (rows:List (List PV)):kF (.fr e rows)=bE rows:=nr rfl
@[simp] theorem PU:qR []=True:=nr rfl
@[simp] theorem LS (c:AV) (cs:List AV):qR (c::cs)=(kF c∧qR cs):=nr rfl
@[simp] theorem WT (vs:List AV):flat (.aQ vs)=qR vs:=nr rfl
@[simp] theorem flat_agg (cs:List AV):flat (.agg cs)=oH cs:=nr rfl
@[simp] theorem ZI (p:PV):flat (.pv p)=(iJ p=true):=nr rfl
@[simp] theorem flat_fr (e:TypeId) (rows:List (List PV)):flat (.fr e rows)=bE rows:=nr rfl
end
@[simp] theorem Z8 (un:List Nat) (aa:Nat→Option AO) (f:FuncId) (cs:List AV):qM un aa (.bJ f cs)=kE un aa cs:=nr rfl
@[simp] theorem noM_pv (un:List Nat) (aa:Nat→Option AO) (p:PV):qM un aa (.pv p)=True:=nr rfl
@[simp] theorem noM_rp (un:List Nat) (aa:Nat→Option AO) (cs:List PV):qM un aa (.rp cs)=True:=nr rfl
@[simp] theorem TQ (un:List Nat) (aa:Nat→Option AO):qM un aa .ay=True:=nr rfl
@[simp] theorem Z2 (un:List Nat) (aa:Nat→Option AO) (cs:List AV):qM un aa (.aQ cs)=True:=nr rfl
@[simp] theorem aab (un:List Nat) (aa:Nat→Option AO) (cs:List AV):qM un aa (.agg cs)=gU un cs:=nr rfl
@[simp] theorem noM_own (un:List Nat) (aa:Nat→Option AO) (t:Nat):qM un aa (.own t)=jC un t:=nr rfl
@[simp] theorem YK (un:List Nat) (aa:Nat→Option AO) (t:Nat) (e:TypeId) (i:Int) (o:Nat):qM un aa (.aX t e i o)=jC un t:=nr rfl
@[simp] theorem CK (un:List Nat) (aa:Nat→Option AO) (t:Nat) (e:TypeId) (i o:Nat):qM un aa (.sub t e i o)=jC un t:=nr rfl
@[simp] theorem noM_ptr (un:List Nat) (aa:Nat→Option AO) (t o:Nat):qM un aa (.ptr t o)=(jC un t∧gU un ((eQ (aa t)).getD [])):=nr rfl
@[simp] theorem noMP_rp (un:List Nat) (aa:Nat→Option AO) (cs:List PV):nt un aa (.rp cs)=True:=nr rfl
@[simp] theorem sm (un:List Nat) (aa:Nat→Option AO) (t:Nat) (e:TypeId) (i o:Nat):nt un aa (.sub t e i o)=jC un t:=nr rfl
@[simp] theorem Ua (un:List Nat) (aa:Nat→Option AO) (t o:Nat):nt un aa (.ptr t o)=(jC un t∧gU un ((eQ (aa t)).getD [])):=nr rfl
@[simp] theorem PH (un:List Nat) (aa:Nat→Option AO):kE un aa []=True:=nr rfl
@[simp] theorem MO (un:List Nat) (aa:Nat→Option AO) (c:AV) (cs:List AV):kE un aa (c::cs)=(nt un aa c∧kE un aa cs):=nr rfl
@[simp] theorem Xk (un:List Nat) (aa:Nat→Option AO):jQ un aa []=True:=nr rfl
@[simp] theorem RM (un:List Nat) (aa:Nat→Option AO) (c:AV) (cs:List AV):jQ un aa (c::cs)=(qM un aa c∧jQ un aa cs):=nr rfl
attribute[simp] lay cd jC uM gU
end Go.Proofs.YtlmkcmfmfahcfaaGreat.Ab.R
namespace Go.Proofs.YtlmkcmfmfahcfaaGreat.Ab
open Go Go.RowKit
theorem dU (a:Addr) (n:Nat):(a.add n).block=a.block:=by unfold Addr.add;split<;>rfl
theorem fy (a:Addr) (i j:Nat):(a.add i).add j=a.add (i+j):=by unfold Addr.add;by_cases hi:i=0<;>by_cases hj:j=0<;>simp[hi,hj,Nat.add_assoc]
section
variable{P:Program}{S S':Nat→Prop}{w w':World}{β β':Nat→Value}{D D':Nat→Prop}
theorem uX {ad:Addr} (h:w'.heap[ad.block]?=w.heap[ad.block]?) (n:Nat):w'.cell? (ad.add n)=w.cell? (ad.add n):=World.cell?_of_block (by rw[dU];exact h)
def uw (w w':World) (b:Nat):Prop:=(∀ad:Addr,ad.block=b→w'.cell? ad=w.cell? ad)∧∀(us:Array MapEntry) (c:Nat),w.heap[b]?=some (.map us c)→w'.heap[b]?=some (.map us c)
theorem uw.of {b:Nat} (h:w'.heap[b]?=w.heap[b]?):uw w w' b:=⟨fun ad e=>World.cell?_of_block (by rw[e];exact h),fun us c hm=>h.trans hm⟩
theorem dw.gu {v:Value}{p:PV} (h:dw S w v p) (hS:∀b,S b→S' b∧uw w w' b):dw S' w' v p:=by induction h with|int k n=>exact .int k n|bool b=>exact .bool b|str l=>exact .str l|nil=>exact .nil|val v h=>exact .val v h|mp b us c ks h1 h2 h3 h4=>exact .mp b us c ks (hS _ h1).1 ((hS _ h1).2.2 _ _ h2) h3 h4|mv b us c es h1 h2 h3 h4 h5 h6 ih=>exact .mv b us c es (hS _ h1).1 ((hS _ h1).2.2 _ _ h2) h3 h4 h5 ih|pt ad cs us h1 h2 h3 h4 ih=>exact .pt ad cs us (hS _ h1).1 (fun j hj=>((hS _ h1).2.1 _ (dU _ _)).trans (h2 j hj)) h3 ih|yp A c=>exact .yp A c|ro ad c rows sz us h1 h2 h3 h4 h5 h6 ih=>exact .ro ad c rows sz us (hS _ h1).1 h2 h3 (fun i j hi hj=>((hS _ h1).2.1 _ (dU _ _)).trans (h4 i j hi hj)) h5 ih
theorem RV.gu {v:Value}{x:AV} (h:RV P S w β D v x) (hS:∀b,S b→S' b∧uw w w' b) (hD:∀t,D t→D' t∧β' t=β t):RV P S' w' β' D' v x:=by induction h with|pv v p h=>exact .pv v p (h.gu hS)|own t h=>rw[←(hD t h).2];exact .own t (hD t h).1|ptr t o b h hb=>exact .ptr t o b (hD t h).1 ((hD t h).2.trans hb)|aX t e i o b n c inf h hi hb=>exact .aX t e i o b n c inf (hD t h).1 hi ((hD t h).2.trans hb)|sub v t e lo hi inf A A1 n c h hi' hb h1 h2 h3 h4 h5 hv=>exact .sub v t e lo hi inf A A1 n c (hD t h).1 hi' ((hD t h).2.trans hb) h1 h2 h3 h4 h5 hv|rp ad cs us h1 h2 h3 h4=>exact .rp ad cs us (hS _ h1).1 (fun j hj=>((hS _ h1).2.1 _ (dU _ _)).trans (h2 j hj)) h3 (fun j p hp=>(h4 j p hp).gu hS)|agg cs us hl h ih=>exact .agg cs us hl ih|aQ cs us hl h ih=>exact .aQ cs us hl ih|bJ f cs us hl h ih=>exact .bJ f cs us hl ih|ch g v av h hu ih=>exact .ch g v av ih hu|ay v=>exact .ay v
theorem dw.mono {v:Value}{p:PV} (h:dw S w v p) (hS:∀b,S b→S' b∧w'.heap[b]?=w.heap[b]?):dw S' w' v p:=h.gu fun b hb=>⟨(hS b hb).1,.of (hS b hb).2⟩
theorem RV.mono {v:Value}{x:AV} (h:RV P S w β D v x) (hS:∀b,S b→S' b∧w'.heap[b]?=w.heap[b]?) (hD:∀t,D t→D' t∧β' t=β t):RV P S' w' β' D' v x:=h.gu (fun b hb=>⟨(hS b hb).1,.of (hS b hb).2⟩) hD
theorem RV.strip {v:Value}{x:AV} (h:RV P S w β D v x) (ha:asks x):RV P S w β D v (strip x):=by induction h with|ch g v av h hu ih=>exact ih ha.1 ha.2|pv v p h=>exact .pv v p h|own t h=>exact .own t h|ptr t o b h hb=>exact .ptr t o b h hb|aX t e i o b n c inf h hi hb=>exact .aX t e i o b n c inf h hi hb|sub v t e lo hi inf A A1 n c h hi' hb h1 h2 h3 h4 h5 hv=>exact .sub v t e lo hi inf A A1 n c h hi' hb h1 h2 h3 h4 h5 hv|rp ad cs us h1 h2 h3 h4=>exact .rp ad cs us h1 h2 h3 h4|agg cs us hl h _=>exact .agg cs us hl h|aQ cs us hl h _=>exact .aQ cs us hl h|bJ f cs us hl h _=>exact .bJ f cs us hl h|ay v=>exact .ay v
theorem bq.gu {t:Nat}{o:AO} (h:bq P S w β D t o) (hS:∀b,S b→S' b∧uw w w' b) (hD:∀t,D t→D' t∧β' t=β t) (ht:β' t=β t) (hb:∀b,cn (β t)=some b→w'.heap[b]?=w.heap[b]?):bq P S' w' β' D' t o:=by cases o with
 |box cs=>obtain⟨b,us,ty,hp,hh,hl,hc⟩:=h;exact⟨b,us,ty,ht.trans hp,(hb b (by rw[hp];rfl)).trans hh,hl,fun i c u h1 h2=>⟨(hc i c u h1 h2).1,(hc i c u h1 h2).2.gu hS hD⟩⟩|arr e rows=>
  obtain⟨inf,us,hi,hown,hr,hc⟩:=h;refine⟨inf,us,hi,?_,hr,fun i j r p h1 h2=>?_⟩
  ·rw[ht];refine⟨hown.1,?_⟩;rcases hown.2 with h0|⟨g,cap,cur,hv,h1,h2,h3,h4,h5,h6⟩;·exact .inl h0
   ·exact .inr ⟨g,cap,cur,hv,h1,(hb g (by rw[hv];rfl)).trans h2,h3,h4,h5,h6⟩
  ·obtain⟨u,h3,h4,h5⟩:=hc i j r p h1 h2;exact⟨u,h3,h4,h5.gu hS⟩|map es=>obtain⟨b,us,c,hp,hh,hl,hc⟩:=h;exact⟨b,us,c,ht.trans hp,(hb b (by rw[hp];rfl)).trans hh,hl,fun i e u h1 h2=>⟨(hc i e u h1 h2).1,(hc i e u h1 h2).2.gu hS fun _ hf=>hf.elim⟩⟩|rws e cs=>
  obtain⟨inf,us,hi,h1s,hown,hc⟩:=h;refine⟨inf,us,hi,h1s,?_,fun i c u h1 h2=>⟨(hc i c u h1 h2).1,(hc i c u h1 h2).2.gu hS hD⟩⟩;rw[ht];refine⟨hown.1,?_⟩;rcases hown.2 with h0|⟨g,cap,cur,hv,h1,h2,h3,h4,h5,h6⟩;·exact .inl h0
  ·exact .inr ⟨g,cap,cur,hv,h1,(hb g (by rw[hv];rfl)).trans h2,h3,h4,h5,h6⟩|gY es=>obtain⟨b,us,c,hp,hh,hst,hl,hc⟩:=h;exact⟨b,us,c,ht.trans hp,(hb b (by rw[hp];rfl)).trans hh,hst,hl,fun i e u h1 h2=>⟨(hc i e u h1 h2).1,(hc i e u h1 h2).2.1,(hc i e u h1 h2).2.2.1,(hc i e u h1 h2).2.2.2.gu hS⟩⟩|nk rem cur=>
  obtain⟨r,m,us,c,seen,hp,hh,hm,hmm,hst,hl,hc,hcur⟩:=h;refine⟨r,m,us,c,seen,ht.trans hp,(hb r (by rw[hp];rfl)).trans hh,(hS m hm).1,?_,hst,hl,fun i e u h1 h2=>⟨(hc i e u h1 h2).1,(hc i e u h1 h2).2.1,(hc i e u h1 h2).2.2.1,(hc i e u h1 h2).2.2.2.gu hS⟩,fun e he=>?_⟩;·have:=(hS m hm).2.2 us c hmm;first|exact this.trans hmm|exact this
  ·obtain⟨u,s',h1,h2,h3,h4,h5,h6⟩:=hcur e he;exact⟨u,s',h1,h2,h3,h4,h5,h6.gu hS⟩
theorem bq.mono {t:Nat}{o:AO} (h:bq P S w β D t o) (hS:∀b,S b→S' b∧w'.heap[b]?=w.heap[b]?) (hD:∀t,D t→D' t∧β' t=β t) (ht:β' t=β t) (hb:∀b,cn (β t)=some b→w'.heap[b]?=w.heap[b]?):bq P S' w' β' D' t o:=h.gu (fun b hb=>⟨(hS b hb).1,.of (hS b hb).2⟩) hD ht hb
end
section
variable{P:Program}{S0 L:Nat→Prop}{B0:Nat→Value}{w0 w w':World}{N:Nat}{st:St}{a:Act}{β:Nat→Value}
theorem yB (l:Array Value) (d s:Nat) (r:Value) (hd:d<l.size):(l.setIfInBounds d r).getD s undef=if s=d then r else l.getD s undef:=by
 by_cases h:s=d;·subst h;simp[Array.getD_eq_getD_getElem?,Array.getElem?_setIfInBounds_self_of_lt hd]
 ·simp[Array.getD_eq_getD_getElem?,Array.getElem?_setIfInBounds_ne (fun e=>h e.symm),h]
theorem Rel.put (h:Rel P S0 L B0 w0 N st a w β) {d:Option Nat}{r:Value}{v:AV} (hd:∀s,d=some s→s<N) (hr:RV P (aS S0 w0.heap.size β st.aa w) w β (aE st.aa) r v):Rel P S0 L B0 w0 N ⟨put d v st.vars,st.aa⟩ (a.put d r) w β:=by cases d with|none=>exact⟨h.size,h.defers,h.vars,h.heap,h.old,h.ph,h.uD,h.bV⟩|some d=>
 have hd':d<a.tmps.size:=by rw[h.size];exact hd d rfl
 refine⟨by simp[Act.put,h.size],h.defers,fun s=>?_,h.heap,h.old,h.ph,h.uD,h.bV⟩;simp only[Act.put,Ab.put];rw[yB _ _ _ _ hd'];split;·exact hr
 ·exact h.vars s
theorem Rel.bB (h:Rel P S0 L B0 w0 N st a w β) {vars:Nat→AV} (hv:∀s,vars s=st.vars s∨vars s=.ay):Rel P S0 L B0 w0 N ⟨vars,st.aa⟩ a w β:=⟨h.size,h.defers,fun s=>by
 rcases hv s with e|e;·rw[show(St.mk vars st.aa).vars s=vars s from rfl,e];exact h.vars s
 ·rw[show(St.mk vars st.aa).vars s=vars s from rfl,e];exact .ay _,h.heap,h.old,h.ph,h.uD,h.bV⟩
structure Same (w w':World):Prop where
 heap:w'.heap=w.heap
 os:w'.os=w.os
 tape:w'.tape=w.tape
 output:w'.output=w.output
theorem Gl {S0:Nat→Prop}{n0:Nat}{aa:Nat→Option AO} (hw:w'.heap=w.heap):aS S0 n0 β aa w'=aS S0 n0 β aa w:=by funext b;simp[aS,hw]
theorem Rel.same (h:Rel P S0 L B0 w0 N st a w β) (hw:Same w w'):Rel P S0 L B0 w0 N st a w' β:=by have hm:∀b,aS S0 w0.heap.size β st.aa w b→aS S0 w0.heap.size β st.aa w' b∧w'.heap[b]?=w.heap[b]?:=fun b hb=>⟨by rw[Gl hw.heap];exact hb,by rw[hw.heap]⟩;have hD:∀t,aE st.aa t→aE st.aa t∧β t=β t:=fun t ht=>⟨ht,rfl⟩;exact⟨h.size,h.defers,fun s=>(h.vars s).mono hm hD,⟨fun t o ho=>(h.heap.holds t o ho).mono hm hD rfl (fun b _=>by rw[hw.heap]),h.heap.inj⟩,h.old,h.ph,h.uD,⟨hw.os.trans h.bV.os,hw.tape.trans h.bV.tape,hw.output.trans h.bV.output,by rw[hw.heap];exact h.bV.size,fun b h1 h2=>by rw[hw.heap];exact h.bV.block b h1 h2⟩⟩
theorem Rel.drew (h:Rel P S0 L B0 w0 N st a w β):Rel P S0 L B0 w0 N st a w.drew β:=h.same ⟨rfl,rfl,rfl,rfl⟩
theorem bq.lt {S:Nat→Prop}{D:Nat→Prop}{t:Nat}{o:AO} (h:bq P S w β D t o):∀b,cn (β t)=some b→b<w.heap.size:=by intro b hb;cases o with
 |box cs=>obtain⟨b',us,ty,hp,hh,_⟩:=h;rw[hp]at hb;simp[cn]at hb;subst hb;exact(Array.getElem?_eq_some_iff.1 hh).1|arr e rows=>
  obtain⟨inf,us,hi,hown,_⟩:=h;rcases hown.2 with⟨h0,_⟩|⟨g,cap,cur,hv,h1,h2,_⟩;·rw[h0]at hb;simp[cn]at hb
  ·rw[hv]at hb;simp[cn]at hb;subst hb;exact(Array.getElem?_eq_some_iff.1 h2).1|map es=>obtain⟨b',us,c,hp,hh,_⟩:=h;rw[hp]at hb;simp[cn]at hb;subst hb;exact(Array.getElem?_eq_some_iff.1 hh).1|rws e cs=>
  obtain⟨inf,us,hi,_,hown,_⟩:=h;rcases hown.2 with⟨h0,_⟩|⟨g,cap,cur,hv,h1,h2,_⟩;·rw[h0]at hb;simp[cn]at hb
  ·rw[hv]at hb;simp[cn]at hb;subst hb;exact(Array.getElem?_eq_some_iff.1 h2).1|gY es=>obtain⟨b',us,c,hp,hh,_⟩:=h;rw[hp]at hb;simp[cn]at hb;subst hb;exact(Array.getElem?_eq_some_iff.1 hh).1|nk rem cur=>obtain⟨r,m,us,c,seen,hp,hh,_⟩:=h;rw[hp]at hb;simp[cn]at hb;subst hb;exact(Array.getElem?_eq_some_iff.1 hh).1
theorem Rel.lt (h:Rel P S0 L B0 w0 N st a w β) {t:Nat} (ht:aE st.aa t) {b:Nat} (hb:cn (β t)=some b):b<w.heap.size:=by obtain⟨o,ho⟩:=ht;exact(h.heap.holds t o ho).lt b hb
def eo (β:Nat→Value) (t:Nat) (v:Value):Nat→Value:=fun s=>if s=t then v else β s
theorem aR (β:Nat→Value) (t:Nat) (v:Value):eo β t v t=v:=by simp[eo]
theorem cC (β:Nat→Value) {t s:Nat} (v:Value) (h:s≠t):eo β t v s=β s:=by simp[eo,h]
theorem bT {t s:Nat}{o:AO}{aa:Nat→Option AO}:aE (aL t o aa) s↔s=t∨aE aa s:=by
 unfold aE aL;by_cases h:s=t;·simp[h]
 ·simp[h]
theorem Rel.fresh (h:Rel P S0 L B0 w0 N st a w β) {t:Nat} (htN:t<N) (ht:st.aa t=none) (hg:w.grownBy w' none) {v:Value} (hv:∀b,cn v=some b→w.heap.size≤b) {o:AO} (ho:bq P (aS S0 w0.heap.size (eo β t v) (aL t o st.aa) w') w' (eo β t v) (aE (aL t o st.aa)) t o):Rel P S0 L B0 w0 N ⟨st.vars,aL t o st.aa⟩ a w' (eo β t v):=by
 have hne:∀s,aE st.aa s→s≠t:=fun s ⟨o',ho'⟩ e=>by subst e;rw[ht]at ho';cases ho'
 have hsame:∀b,b<w.heap.size→w'.heap[b]?=w.heap[b]?:=fun b hb=>hg.block b hb (by simp);have hm:∀b,aS S0 w0.heap.size β st.aa w b→aS S0 w0.heap.size (eo β t v) (aL t o st.aa) w' b∧w'.heap[b]?=w.heap[b]?:=by
  intro b hb;obtain⟨h1,h2,h3⟩:=hb;refine⟨⟨h1,Nat.lt_of_lt_of_le h2 hg.size,?_⟩,hsame b h2⟩;rintro⟨s,o',hs,hbs⟩;by_cases e:s=t;·subst e;rw[aR]at hbs;have:=hv b hbs;omega
  ·rw[cC _ _ e]at hbs;exact h3 ⟨s,o',by simpa[aL,e]using hs,hbs⟩
 have hD:∀s,aE st.aa s→aE (aL t o st.aa) s∧eo β t v s=β s:=fun s hs=>⟨bT.2 (.inr hs),cC _ _ (hne s hs)⟩;refine⟨h.size,h.defers,fun s=>(h.vars s).mono hm hD,⟨fun s o' hs=>?_,?_⟩,?_,h.ph,fun s h9 hs=>?_,?_⟩
 ·by_cases e:s=t
  ·subst e;have:o'=o:=by simpa[aL]using hs.symm
   subst this;exact ho
  ·have hs':st.aa s=some o':=by simpa[aL,e]using hs
   exact(h.heap.holds s o' hs').mono hm hD (cC _ _ e) (fun b hb=>hsame b (h.lt ⟨o',hs'⟩ hb))
 ·intro s s' b hs hs' hb hb';by_cases e:s=t<;>by_cases e':s'=t;·rw[e,e']
  ·subst e;rw[aR]at hb;rw[cC _ _ e']at hb';have:=h.lt ((bT.1 hs').resolve_left e') hb';have:=hv b hb;omega
  ·subst e';rw[aR]at hb';rw[cC _ _ e]at hb;have:=h.lt ((bT.1 hs).resolve_left e) hb;have:=hv b hb';omega
  ·rw[cC _ _ e]at hb;rw[cC _ _ e']at hb';exact h.heap.inj s s' b ((bT.1 hs).resolve_left e) ((bT.1 hs').resolve_left e') hb hb'
 ·intro s b hs hb;by_cases e:s=t;·subst e;rw[aR]at hb;have:=hv b hb;have:=h.bV.size;exact .inl (by omega)
  ·rw[cC _ _ e]at hb;exact h.old s b ((bT.1 hs).resolve_left e) hb
 ·have hst:s≠t:=fun e=>by have:=h.ph.1;subst e;omega
  rw[cC _ _ hst];exact h.uD s h9 ((bT.1 hs).resolve_left hst)
 ·exact⟨hg.os.trans h.bV.os,hg.tape.trans h.bV.tape,hg.output.trans h.bV.output,Nat.le_trans h.bV.size hg.size,fun b h1 h2=>(hsame b (by have:=h.bV.size;omega)).trans (h.bV.block b h1 h2)⟩
theorem Rel.ky (h:Rel P S0 L B0 w0 N st a w β) {t:Nat} (ht:st.aa t=none) (hg:w.grownBy w' none) {v:Value} (hv:∀b,cn v=some b→w.heap.size≤b) {o:AO}:(∀b,aS S0 w0.heap.size β st.aa w b→aS S0 w0.heap.size (eo β t v) (aL t o st.aa) w' b∧w'.heap[b]?=w.heap[b]?)∧(∀s,aE st.aa s→aE (aL t o st.aa) s∧eo β t v s=β s):=by
 have hne:∀s,aE st.aa s→s≠t:=fun s ⟨o',ho'⟩ e=>by subst e;rw[ht]at ho';cases ho'
 refine⟨fun b hb=>?_,fun s hs=>⟨bT.2 (.inr hs),cC _ _ (hne s hs)⟩⟩;obtain⟨h1,h2,h3⟩:=hb;refine⟨⟨h1,Nat.lt_of_lt_of_le h2 hg.size,?_⟩,hg.block b h2 (by simp)⟩;rintro⟨s,o',hs,hbs⟩;by_cases e:s=t;·subst e;rw[aR]at hbs;have:=hv b hbs;omega
 ·rw[cC _ _ e]at hbs;exact h3 ⟨s,o',by simpa[aL,e]using hs,hbs⟩
theorem Rel.vK (h:Rel P S0 L B0 w0 N st a w β) {t:Nat}{o o':AO} (ht:st.aa t=some o) {b:Nat} (hb:cn (β t)=some b) (hos:w'.os=w.os) (htape:w'.tape=w.tape) (hout:w'.output=w.output) (hsz:w'.heap.size=w.heap.size) (hother:∀k,k≠b→w'.heap[k]?=w.heap[k]?) (ho:bq P (aS S0 w0.heap.size β (aL t o' st.aa) w') w' β (aE (aL t o' st.aa)) t o'):Rel P S0 L B0 w0 N ⟨st.vars,aL t o' st.aa⟩ a w' β∧(∀u x,RV P (aS S0 w0.heap.size β st.aa w) w β (aE st.aa) u x→RV P (aS S0 w0.heap.size β (aL t o' st.aa) w') w' β (aE (aL t o' st.aa)) u x):=by
 have hlive:∀k,live β (aL t o' st.aa) k↔live β st.aa k:=by
  intro k;constructor
  ·rintro⟨s,x,hs,hk⟩;by_cases e:s=t;·subst e;exact⟨s,o,ht,hk⟩
   ·exact⟨s,x,by simpa[aL,e]using hs,hk⟩
  ·rintro⟨s,x,hs,hk⟩;by_cases e:s=t;·subst e;exact⟨s,o',by simp[aL],hk⟩
   ·exact⟨s,x,by simpa[aL,e]using hs,hk⟩
 have hm:∀k,aS S0 w0.heap.size β st.aa w k→aS S0 w0.heap.size β (aL t o' st.aa) w' k∧w'.heap[k]?=w.heap[k]?:=by intro k hk;obtain⟨h1,h2,h3⟩:=hk;have hkb:k≠b:=fun e=>h3 ⟨t,o,ht,by rw[e];exact hb⟩;exact⟨⟨h1,by omega,fun hl=>h3 ((hlive k).1 hl)⟩,hother k hkb⟩
 have hdt:aE st.aa t:=⟨o,ht⟩;have hD:∀s,aE st.aa s→aE (aL t o' st.aa) s∧β s=β s:=fun s hs=>⟨bT.2 (.inr hs),rfl⟩;have hdom:∀s,aE (aL t o' st.aa) s→aE st.aa s:=fun s hs=>by
  rcases bT.1 hs with e|e;·rw[e];exact hdt
  ·exact e
 refine⟨⟨h.size,h.defers,fun s=>(h.vars s).mono hm hD,⟨fun s x hs=>?_,fun s s' k hs hs'=>h.heap.inj s s' k (hdom s hs) (hdom s' hs')⟩,fun s k hs=>h.old s k (hdom s hs),h.ph,fun s h9 hs=>h.uD s h9 (hdom s hs),?_⟩,fun u x hx=>hx.mono hm hD⟩
 ·by_cases e:s=t
  ·subst e;have:x=o':=by simpa[aL]using hs.symm
   subst this;exact ho
  ·have hs':st.aa s=some x:=by simpa[aL,e]using hs
   exact(h.heap.holds s x hs').mono hm hD rfl (fun k hk=>hother k fun ek=>e (h.heap.inj s t b ⟨x,hs'⟩ hdt (by rw[←ek];exact hk) hb))
 ·exact⟨hos.trans h.bV.os,htape.trans h.bV.tape,hout.trans h.bV.output,by rw[hsz];exact h.bV.size,fun k h1 h2=>by
   have hkb:k≠b:=by
    rintro rfl;rcases h.old t k hdt hb with hx|hx;·omega
    ·exact h2 hx
   exact(hother k hkb).trans (h.bV.block k h1 h2)⟩
end
section
variable{P:Program} (w:World)
theorem yj (t tx ty e:TypeId) (i:TypeInfo) (z:Value) (ht:P.underlying t=some (.slice e)) (hi:P.info? e=some i) (hz:i.zero=some z) (hzs:z.cells.size=i.size) (hsz:0<i.size) (v:Value) (n:Nat) (xs:List Value) (hown:w.ownsRow 0 e i.size v n xs) (x:Value) (m:Nat) (news:List Value) (hs:Src P i.size tx x m news w) (h63:n+m≤maxLen) (hbytes:(n+m)*i.bytes≤140737488355328):∃v' w',(Builtin.append_ #[t,tx] ty #[v,x]).run P w=.ok v' w'∧w'.ownsRow 0 e i.size v' (n+m) (xs++news)∧w.grownBy w' v.ownBlock∧(v'.ownBlock=v.ownBlock∨v'.ownBlock=some w.heap.size)∧w'.ownsRow 0 e i.size v n xs:=by
 have hl:=hs.newsLen;have hlen:(xs++news).length=(n+m)*i.size:=by rw[List.length_append,hown.1,hl,Nat.add_mul]
 have grown:∀(old:Nat),old<n+m→∀(row:Option Nat),(w.drew.alloc (.cells ((xs++news).toArray++Builtin.zeroCells z.cells (grownCap w (n+m) old e-(n+m))) e)).ownsRow 0 e i.size (.slice (some ⟨w.heap.size,0,none⟩) (n+m) (grownCap w (n+m) old e)) (n+m) (xs++news)∧w.grownBy (w.drew.alloc (.cells ((xs++news).toArray++Builtin.zeroCells z.cells (grownCap w (n+m) old e-(n+m))) e)) row:=by
  intro old ho row;have hge:=grownCap_ge w (n+m) old e;have hcm:grownCap w (n+m) old e≤maxLen:=grownCap_le_maxLen w (n+m) old e h63;refine⟨⟨hlen,.inr ⟨w.heap.size,_,_,rfl,Nat.zero_le _,heap_alloc_new w.drew _,hge,hcm,?_,?_⟩⟩,⟨rfl,rfl,rfl,by simp,fun k hk _=>Below.heap_alloc w.drew _ k hk⟩⟩;·simp only[Array.size_append,List.size_toArray,size_zeroCells,hzs,hlen,←Nat.add_mul];congr 1;omega
  ·simp only[Array.toList_append];rw[←hlen];exact List.take_left
 have hsmall:((n+m:Nat):Int)≤9223372036854775807:=by simp only[maxLen]at h63;omega
 rcases hown.2 with⟨rfl,rfl⟩|⟨g,cap,cur,rfl,hbg,hg,hnc,hcm,hcs,htake⟩
 ·have hx:xs=[]:=List.eq_nil_of_length_eq_zero (by simpa using hown.1);subst hx;by_cases hm:m=0;·subst hm;have hn:news=[]:=List.eq_nil_of_length_eq_zero (by simpa using hl);subst hn;exact⟨.slice none 0 0,w,run_append_nothing w t tx ty e i ht hi none 0 0 (Nat.le_refl _) x hs,World.ownsRow_nil w 0 e i.size,⟨rfl,rfl,rfl,Nat.le_refl _,fun _ _ _=>rfl⟩,Or.inl rfl,hown⟩
  ·have hr:=run_append_grow_src (P:=P) w t tx ty e i z ht hi hz none 0 0 [] (by simp[Builtin.firstCells]) x m news hs (by omega) hsmall (growslice_fits (by omega) hbytes);have hgr:=grown 0 (by omega) (Value.ownBlock (.slice none 0 0));exact⟨_,_,hr,hgr.1,hgr.2,Or.inr rfl,by simp,.inl ⟨rfl,rfl⟩⟩
 ·by_cases hroom:n+m≤cap
  ·have hfit:n*i.size+news.length≤cur.size:=by rw[hl,hcs,←Nat.add_mul];exact Nat.mul_le_mul_right _ hroom
   have hst:=run_storeCells_at P g (n*i.size) e news 0 cur w hg (by simpa using hfit) hs.one;simp only[Nat.add_zero]at hst;have hr:(Builtin.append_ #[t,tx] ty #[.slice (some ⟨g,0,none⟩) n cap,x]).run P w=.ok (.slice (some ⟨g,0,none⟩) (n+m) cap) (w.setRow g (cur.toList.take (n*i.size)++news++cur.toList.drop (n*i.size+news.length)).toArray):=by rcases hs.kind with⟨e',hk⟩|hk<;>simp[Builtin.append_,run_underlying ht,run_underlying hk,sizeOf,typeInfo,hi,hs.len,hroom,hs.cells,Addr.add_lit,hst]
   refine⟨_,_,hr,⟨hlen,.inr ⟨g,cap,_,rfl,Nat.zero_le _,setRow_heap w g cur _ e _ hg,hroom,hcm,?_,?_⟩⟩,⟨rfl,rfl,rfl,by simp,fun k _ hk=>setRow_other w g k _ (fun e=>hk (by simp[Value.ownBlock,e]))⟩,Or.inl rfl,?_⟩;·simp only[List.size_toArray,List.length_append,List.length_take,List.length_drop,Array.length_toList];omega
   ·rw[htake,←hlen];exact List.take_left
   ·refine⟨hown.1,.inr ⟨g,cap,_,rfl,Nat.zero_le _,setRow_heap w g cur _ e _ hg,hnc,hcm,?_,?_⟩⟩;·simp only[List.size_toArray,List.length_append,List.length_take,List.length_drop,Array.length_toList];omega
    ·rw[htake,←hown.1];simp only[List.append_assoc];exact List.take_left
  ·have holds:∀j u,xs[j]?=some u→w.cell? ((⟨g,0,none⟩:Addr).add j)=some u:=hown.cells (g:=g) rfl;have hold:(Builtin.firstCells i.size n (.slice (some ⟨g,0,none⟩) n cap)).run P w.drew=.ok xs.toArray w.drew:=run_firstCells_some w.drew i.size n ⟨g,0,none⟩ n cap xs hown.1 (by simpa using holds);have hr:=run_append_grow_src (P:=P) w t tx ty e i z ht hi hz (some ⟨g,0,none⟩) n cap xs hold x m news hs (by omega) hsmall (growslice_fits (by omega) hbytes);have hgr:=grown cap (by omega) (Value.ownBlock (.slice (some ⟨g,0,none⟩) n cap));have hgn:=(grown cap (by omega) none).2;exact⟨_,_,hr,hgr.1,hgr.2,Or.inr rfl,hown.1,.inr ⟨g,cap,cur,rfl,hbg,(hgn.block g (Array.getElem?_eq_some_iff.1 hg).1 (by simp)).trans hg,hnc,hcm,hcs,htake⟩⟩
end
theorem fe (t:Nat):∀(cs:List AV) (i:Nat),(bX t cs)[i]?=(cs[i]?).map (ca t)|[],i=>by simp[bX]|c::cs,0=>by simp[bX]|c::cs,i+1=>by simp[bX,fe t cs i]
theorem dT (t:Nat):∀cs:List AV,(bX t cs).length=cs.length|[]=>rfl|c::cs=>by simp[bX,dT t cs]
section
variable{P:Program}{S S':Nat→Prop}{w w':World}{β β':Nat→Value}{D D':Nat→Prop}{t:Nat}
theorem RV.ca {v:Value}{x:AV} (h:RV P S w β D v x) (hp:∀b,β t≠.pointer (some ⟨b,0,none⟩)) (hS:∀b,S b→S' b∧w'.heap[b]?=w.heap[b]?) (hD:∀s,D s→s≠t→D' s∧β' s=β s):RV P S' w' β' D' v (ca t x):=by cases h with
 |pv v p h=>exact .pv _ _ (h.mono hS)|own s h=>
  simp only[Ab.ca];split;·exact .ay _
  ·rename_i hne;rw[←(hD s h hne).2];exact .own s (hD s h hne).1|ptr s o b h hb=>have hne:s≠t:=fun e=>hp b (by rw[←e];exact hb);exact .ptr s o b (hD s h hne).1 ((hD s h hne).2.trans hb)|aX s e i o b n c inf h hi hb=>
  simp only[Ab.ca];split;·exact .ay _
  ·rename_i hne;exact .aX s e i o b n c inf (hD s h hne).1 hi ((hD s h hne).2.trans hb)|sub v s e lo hi inf A A1 n c h hi' hb h1 h2 h3 h4 h5 hv=>
  simp only[Ab.ca];split;·exact .ay _
  ·rename_i hne;exact .sub v s e lo hi inf A A1 n c (hD s h hne).1 hi' ((hD s h hne).2.trans hb) h1 h2 h3 h4 h5 hv|rp ad cs us h1 h2 h3 h4=>exact .rp ad cs us (hS _ h1).1 (fun j hj=>(uX (hS _ h1).2 _).trans (h2 j hj)) h3 (fun j p hp=>(h4 j p hp).mono hS)|agg cs us hl h=>exact .ay _|aQ cs us hl h=>exact .ay _|bJ f cs us hl h=>cases cs with|nil=>refine .bJ f [] us hl ?_;intro i c u hc;simp at hc|cons c cs=>exact .ay _
 |ch g v av h=>exact .ay _|ay v=>exact .ay _
theorem RV.kill {v:Value}{x:AV} (h:RV P S w β D v x) (hp:∀b,β t≠.pointer (some ⟨b,0,none⟩)) (hS:∀b,S b→S' b∧w'.heap[b]?=w.heap[b]?) (hD:∀s,D s→s≠t→D' s∧β' s=β s):RV P S' w' β' D' v (kill t x):=by induction h with|agg cs us hl h _=>refine .agg _ us (by rw[dT];exact hl) fun i c u hc hu=>?_;rw[fe]at hc;obtain⟨c',hc',rfl⟩:=Option.map_eq_some_iff.1 hc;exact(h i c' u hc' hu).ca hp hS hD|aQ cs us hl h _=>refine .aQ _ us (by rw[dT];exact hl) fun i c u hc hu=>?_;rw[fe]at hc;obtain⟨c',hc',rfl⟩:=Option.map_eq_some_iff.1 hc;exact(h i c' u hc' hu).ca hp hS hD|pv v p h=>exact RV.ca (x:=.pv p) (.pv v p h) hp hS hD|own s h=>exact RV.ca (x:=.own s) (.own s h) hp hS hD|ptr s o b h hb=>exact RV.ca (x:=.ptr s o) (.ptr s o b h hb) hp hS hD|aX s e i o b n c inf h hi hb=>exact RV.ca (x:=.aX s e i o) (.aX s e i o b n c inf h hi hb) hp hS hD|sub v s e lo hi inf A A1 n c h hi' hb h1 h2 h3 h4 h5 hv=>exact RV.ca (x:=.sub s e lo hi) (.sub v s e lo hi inf A A1 n c h hi' hb h1 h2 h3 h4 h5 hv) hp hS hD|rp ad cs us h1 h2 h3 h4=>exact RV.ca (x:=.rp cs) (.rp ad cs us h1 h2 h3 h4) hp hS hD|bJ f cs us hl h _=>exact RV.ca (x:=.bJ f cs) (.bJ f cs us hl h) hp hS hD|ch g v av h hu ih=>exact .ch g v _ (fun hg=>ih hg) hu|ay v=>exact .ay _
theorem bq.kill {s:Nat}{o:AO} (h:bq P S w β D s o) (hp:∀b,β t≠.pointer (some ⟨b,0,none⟩)) (hS:∀b,S b→S' b∧w'.heap[b]?=w.heap[b]?) (hD:∀s,D s→s≠t→D' s∧β' s=β s) (ht:β' s=β s) (hb:∀b,cn (β s)=some b→w'.heap[b]?=w.heap[b]?):bq P S' w' β' D' s (dI t o):=by cases o with
 |box cs=>obtain⟨b,us,ty,hpt,hh,hl,hc⟩:=h;refine⟨b,us,ty,ht.trans hpt,(hb b (by rw[hpt];rfl)).trans hh,by rw[dT];exact hl,fun i c u h1 h2=>?_⟩;rw[fe]at h1;obtain⟨c',hc',rfl⟩:=Option.map_eq_some_iff.1 h1;exact⟨(hc i c' u hc' h2).1,(hc i c' u hc' h2).2.ca hp hS hD⟩|arr e rows=>
  obtain⟨inf,us,hi,hown,hr,hc⟩:=h;refine⟨inf,us,hi,?_,hr,fun i j r p h1 h2=>?_⟩
  ·rw[ht];refine⟨hown.1,?_⟩;rcases hown.2 with h0|⟨g,cap,cur,hv,h1,h2,h3,h4,h5,h6⟩;·exact .inl h0
   ·exact .inr ⟨g,cap,cur,hv,h1,(hb g (by rw[hv];rfl)).trans h2,h3,h4,h5,h6⟩
  ·obtain⟨u,h3,h4,h5⟩:=hc i j r p h1 h2;exact⟨u,h3,h4,h5.mono hS⟩|map es=>obtain⟨b,us,c,hp',hh,hl,hc⟩:=h;exact⟨b,us,c,ht.trans hp',(hb b (by rw[hp'];rfl)).trans hh,hl,fun i e u h1 h2=>⟨(hc i e u h1 h2).1,(hc i e u h1 h2).2.mono hS fun _ hf=>hf.elim⟩⟩|gY es=>exact bq.mono (D:=fun _=>False) (show bq P S w β (fun _=>False) s (.gY es) from h) hS (fun _ hf=>hf.elim) ht hb|nk rem cur=>exact bq.mono (D:=fun _=>False) (show bq P S w β (fun _=>False) s (.nk rem cur) from h) hS (fun _ hf=>hf.elim) ht hb|rws e cs=>
  obtain⟨inf,us,hi,h1s,hown,hc⟩:=h;refine⟨inf,us,hi,h1s,?_,fun i c u h1 h2=>?_⟩
  ·rw[ht,dT];refine⟨hown.1,?_⟩;rcases hown.2 with h0|⟨g,cap,cur,hv,h1,h2,h3,h4,h5,h6⟩;·exact .inl h0
   ·exact .inr ⟨g,cap,cur,hv,h1,(hb g (by rw[hv];rfl)).trans h2,h3,h4,h5,h6⟩
  ·rw[fe]at h1;obtain⟨c',hc',rfl⟩:=Option.map_eq_some_iff.1 h1;exact⟨(hc i c' u hc' h2).1,(hc i c' u hc' h2).2.ca hp hS hD⟩
end
theorem jr {w:World}{b:Nat}{e:TypeId}{sz n:Nat}{v:Value}{us:List Value} (h:w.ownsRow b e sz v n us):cn v=v.ownBlock∧∀b',v≠.pointer (some ⟨b',0,none⟩):=by
 rcases h.2 with⟨rfl,_⟩|⟨g,cap,cur,rfl,_⟩;·exact⟨rfl,fun _ e=>by cases e⟩
 ·exact⟨rfl,fun _ e=>by cases e⟩
theorem pf {t s:Nat}{aa:Nat→Option AO}:aE (dn t aa) s↔aE aa s:=by
 unfold aE dn;constructor;·rintro⟨o,ho⟩;obtain⟨o',h,_⟩:=Option.map_eq_some_iff.1 ho;exact⟨o',h⟩
 ·rintro⟨o,ho⟩;exact⟨dI t o,by rw[ho];rfl⟩
section
variable{P:Program}{S0 L:Nat→Prop}{B0:Nat→Value}{w0 w w':World}{N:Nat}{st:St}{a:Act}{β:Nat→Value}
theorem Rel.app (h:Rel P S0 L B0 w0 N st a w β) {t:Nat}{e:TypeId}{rows more:List (List PV)} (ht9:t%1000≠999) (ht:st.aa t=some (.arr e rows)) {inf:TypeInfo}{us news:List Value} (hi:P.info? e=some inf) (hown:w.ownsRow 0 e inf.size (β t) rows.length us) (hrows:∀r,r∈rows→r.length=inf.size) (hcs:∀(i j:Nat) (r:List PV) (p:PV),rows[i]?=some r→r[j]?=some p→∃u,us[i*inf.size+j]?=some u∧u.oneCell'=true∧dw (aS S0 w0.heap.size β st.aa w) w u p) (hmore:∀r,r∈more→r.length=inf.size) (hms:∀(i j:Nat) (r:List PV) (p:PV),more[i]?=some r→r[j]?=some p→∃u,news[i*inf.size+j]?=some u∧u.oneCell'=true∧dw (aS S0 w0.heap.size β st.aa w) w u p) {v':Value} (hown':w'.ownsRow 0 e inf.size v' (rows.length+more.length) (us++news)) (hg:w.grownBy w' (β t).ownBlock) (hb:v'.ownBlock=(β t).ownBlock∨v'.ownBlock=some w.heap.size):Rel P S0 L B0 w0 N ⟨cz t st.vars,aL t (.arr e (rows++more)) (dn t st.aa)⟩ a w' (eo β t v'):=by
 have hdt:aE st.aa t:=⟨_,ht⟩;have hbt:=(jr hown).1;have hbt':=(jr hown').1;have hp:=(jr hown).2;have hdom:∀s,aE (aL t (.arr e (rows++more)) (dn t st.aa)) s→aE st.aa s:=fun s hs=>by
  rcases bT.1 hs with e|e;·rw[e];exact hdt
  ·exact pf.1 e
 have hv'lt:∀b,cn v'=some b→b<w'.heap.size:=fun b hb'=>(hown'.lt b (by rw[←hbt'];exact hb')).2;have hm:∀b,aS S0 w0.heap.size β st.aa w b→aS S0 w0.heap.size (eo β t v') (aL t (.arr e (rows++more)) (dn t st.aa)) w' b∧w'.heap[b]?=w.heap[b]?:=by
  intro b ⟨h1,h2,h3⟩;have hbne:some b≠(β t).ownBlock:=fun e'=>h3 ⟨t,_,ht,by rw[hbt,←e']⟩;refine⟨⟨h1,Nat.lt_of_lt_of_le h2 hg.size,?_⟩,hg.block b h2 hbne⟩;rintro⟨s,o,hs,hbs⟩;by_cases e':s=t
  ·subst e';rw[aR,hbt']at hbs;rcases hb with hb|hb;·exact hbne (by rw[←hb,hbs])
   ·rw[hb]at hbs;injection hbs with hbs;omega
  ·rw[cC _ _ e']at hbs;have hs':dn t st.aa s=some o:=by simpa[aL,e']using hs
   obtain⟨o',ho'⟩:=pf.1 ⟨o,hs'⟩;exact h3 ⟨s,_,ho',hbs⟩
 have hD:∀s,aE st.aa s→s≠t→aE (aL t (.arr e (rows++more)) (dn t st.aa)) s∧eo β t v' s=β s:=fun s hs hne=>⟨bT.2 (.inr (pf.2 hs)),cC _ _ hne⟩;have hblkne:∀s,aE st.aa s→s≠t→∀b,cn (β s)=some b→w'.heap[b]?=w.heap[b]?:=fun s hs hne b hbs=>hg.block b (h.lt hs hbs) fun e'=>hne (h.heap.inj s t b hs hdt hbs (by rw[hbt,←e']));refine⟨h.size,h.defers,fun s=>(h.vars s).kill hp hm hD,⟨fun s o hs=>?_,fun s s' b hs hs' hbs hbs'=>?_⟩,fun s b hs hbs=>?_,h.ph,fun s h9 hs=>?_,?_⟩
 ·by_cases e':s=t
  ·subst e';have:o=.arr e (rows++more):=by simpa[aL]using hs.symm
   subst this;refine⟨inf,us++news,hi,?_,fun r hr=>?_,fun i j r p h1 h2=>?_⟩;·rw[aR,List.length_append];exact hown'
   ·rcases List.mem_append.1 hr with hr|hr;·exact hrows r hr
    ·exact hmore r hr
   ·by_cases hlt:i<rows.length;·rw[List.getElem?_append_left hlt]at h1;obtain⟨u,hu,h1',hr⟩:=hcs i j r p h1 h2;have hul:i*inf.size+j<us.length:=(List.getElem?_eq_some_iff.1 hu).1;exact⟨u,by rw[List.getElem?_append_left hul];exact hu,h1',hr.mono hm⟩
    ·rw[List.getElem?_append_right (by omega)]at h1;obtain⟨u,hu,h1',hr⟩:=hms (i-rows.length) j r p h1 h2;have he:i*inf.size+j-us.length=(i-rows.length)*inf.size+j:=by rw[hown.1,Nat.sub_mul];have:=Nat.mul_le_mul_right inf.size (show rows.length≤i by omega);omega
     have hle:us.length≤i*inf.size+j:=by rw[hown.1];have:=Nat.mul_le_mul_right inf.size (show rows.length≤i by omega);omega
     exact⟨u,by rw[List.getElem?_append_right hle,he];exact hu,h1',hr.mono hm⟩
  ·have hs':dn t st.aa s=some o:=by simpa[aL,e']using hs
   obtain⟨o',ho',rfl⟩:=Option.map_eq_some_iff.1 hs';exact(h.heap.holds s o' ho').kill hp hm hD (cC _ _ e') (hblkne s ⟨_,ho'⟩ e')
 ·have hs1:=hdom s hs;have hs2:=hdom s' hs';by_cases e1:s=t<;>by_cases e2:s'=t;·rw[e1,e2]
  ·subst e1;rw[aR,hbt']at hbs;rw[cC _ _ e2]at hbs';rcases hb with hb|hb;·exact h.heap.inj s s' b hs1 hs2 (by rw[hbt,←hb,hbs]) hbs'
   ·have:=h.lt hs2 hbs';rw[hb]at hbs;injection hbs with hbs;omega
  ·subst e2;rw[aR,hbt']at hbs';rw[cC _ _ e1]at hbs;rcases hb with hb|hb;·exact h.heap.inj s s' b hs1 hs2 hbs (by rw[hbt,←hb,hbs'])
   ·have:=h.lt hs1 hbs;rw[hb]at hbs';injection hbs' with hbs';omega
  ·rw[cC _ _ e1]at hbs;rw[cC _ _ e2]at hbs';exact h.heap.inj s s' b hs1 hs2 hbs hbs'
 ·have hs1:=hdom s hs;by_cases e1:s=t
  ·subst e1;rw[aR,hbt']at hbs;rcases hb with hb|hb;·exact h.old s b hs1 (by rw[hbt,←hb,hbs])
   ·rw[hb]at hbs;injection hbs with hbs;have:=h.bV.size;exact .inl (by omega)
  ·rw[cC _ _ e1]at hbs;exact h.old s b hs1 hbs
 ·have hst:s≠t:=fun e=>by subst e;exact ht9 h9
  rw[cC _ _ hst];exact h.uD s h9 (hdom s hs)
 ·refine⟨hg.os.trans h.bV.os,hg.tape.trans h.bV.tape,hg.output.trans h.bV.output,Nat.le_trans h.bV.size hg.size,fun b h1 h2=>?_⟩;refine(hg.block b (by have:=h.bV.size;omega) fun e'=>?_).trans (h.bV.block b h1 h2);rcases h.old t b hdt (by rw[hbt,←e']) with hx|hx;·omega
  ·exact h2 hx
end
end Go.Proofs.YtlmkcmfmfahcfaaGreat.Ab
