/- How the abstract machine reckons: rewrite rules. -/
import Derived.Test.YtlicclncicbajaaGreatY1
import Derived.Deep.AppendLies
import Derived.Deep.Draws
import Derived.Maps.AppendAt
import Derived.Laws.OwnMore
import Derived.Deep.AppendSrc
import Derived.Deep.Upon
set_option linter.unusedVariables false
set_option linter.unusedSimpArgs false
set_option linter.unnecessarySimpa false
set_option maxHeartbeats 40000000
set_option maxRecDepth 100000
namespace Go.Proofs.YtlicclncicbajaaGreat.Ab.R
open Go Go.RowKit
theorem nr {α:Sort _}{a b:α} (h:a=b):a=b:=h
@[congr] theorem Mn {α:Type}{o o':Option α}{K:α→Prop} (h:True→o=o'):ai o K=ai o' K:=by rw[h trivial]
@[congr] theorem JF {P:Program}{Γ:bJ}{is:List AI}{K:St→Prop}{st st':St} (h:True→st=st'):cK P Γ is K st=cK P Γ is K st':=by rw[h trivial]
@[congr] theorem Ll {P:Program}{Γ:bJ}{is:List AI}{K:St→Prop}{st st':St} (h:True→st=st'):steps P Γ is K st=steps P Γ is K st':=by rw[h trivial]
@[congr] theorem Kr {P:Program}{Γ:bJ}{i:AI}{K:St→Prop}{st st':St} (h:True→st=st'):cR P Γ i K st=cR P Γ i K st':=by rw[h trivial]
@[congr] theorem NT {P:Program}{Γ:bJ}{d:Option Nat}{k:AK}{xs xs':List AV}{C:bA→Prop}{aa:Nat→Option AO} (hx:True→xs=xs'):aX P Γ d k xs aa C=aX P Γ d k xs' aa C:=by rw[hx trivial]
@[congr] theorem M0 {P:Program}{Γ:bJ}{c c':Bool}{d:Option Nat}{k:AK}{xs xs':List AV}{C:bA→Prop}{aa:Nat→Option AO} (hc:True→c=c') (hx:True→xs=xs'):cd P Γ c d k xs aa C=cd P Γ c' d k xs' aa C:=by rw[hx trivial,hc trivial]
@[congr] theorem Ts {P:Program}{Γ:bJ}{c:AC}{K:St→Prop}{J:Exit→St→Prop}{st st':St} (h:True→st=st'):hZ P Γ c K J st=hZ P Γ c K J st':=by rw[h trivial]
@[simp↓] theorem condT {A B:Prop}:((true=true→A)∧(true=false→B))=A:=by simp
@[simp↓] theorem condF {A B:Prop}:((false=true→A)∧(false=false→B))=B:=by simp
@[simp↓] theorem NK {α:Type} (x:α) (K:α→Prop):ai (some x) K=K x:=rfl
@[simp↓] theorem Nu {α:Type} (K:α→Prop):ai (none:Option α) K=False:=rfl
section
variable{P:Program}{Γ:bJ}{K:St→Prop}{J:Exit→St→Prop}{vs:List (Nat×AV)}{os:List (Nat×AO)}
@[simp↓] theorem tM:hZ P Γ .skip K J ⟨look vs,ab os⟩=K ⟨look vs,ab os⟩:=rfl
@[simp↓] theorem vwp_reg {is:List AI}{cq:List Nat}:hZ P Γ (.HW is true cq) K J ⟨look vs,ab os⟩=steps P Γ is (fun st'=>K ⟨jc cq st'.vars,st'.aa⟩) ⟨look vs,ab os⟩:=rfl
@[simp↓] theorem W9 {is:List AI}{cq:List Nat}:hZ P Γ (.HW is false cq) K J ⟨look vs,ab os⟩=cK P Γ is (fun st'=>K ⟨jc cq st'.vars,st'.aa⟩) ⟨look vs,ab os⟩:=rfl
@[simp↓] theorem NA:cK P Γ [] K ⟨look vs,ab os⟩=K ⟨look vs,ab os⟩:=rfl
@[simp↓] theorem Lk {i:AI}{is:List AI}:cK P Γ (i::is) K ⟨look vs,ab os⟩=bV P Γ i (fun st'=>cK P Γ is K st') ⟨look vs,ab os⟩:=rfl
@[simp↓] theorem NX {d:Option Nat}{xs:List Operand}{g:Option (Nat×Bool)}{un:List Nat}{tg:Option Nat}:bV P Γ ⟨d,.lh,xs,g,un,tg⟩ K ⟨look vs,ab os⟩=fH P Γ d (xs.map (ev (look vs))) g K ⟨look vs,ab os⟩:=rfl
@[simp↓] theorem Py {d:Option Nat}{k:AK}{xs:List Operand}{un:List Nat}{tg:Option Nat}:bZ P Γ ⟨d,k,xs,none,un,tg⟩ K ⟨look vs,ab os⟩=cR P Γ ⟨d,k,xs,none,un,tg⟩ K ⟨look vs,ab os⟩:=rfl
@[simp↓] theorem Oe {d:Option Nat}{k:AK}{xs:List Operand}{s:Nat}{w:Bool}{un:List Nat}{tg:Option Nat}:bZ P Γ ⟨d,k,xs,some (s,w),un,tg⟩ K ⟨look vs,ab os⟩=gN (eN ((xs.map (ev (look vs))).map strip)) (JX (bE (look vs s) w)) (cR P Γ ⟨d,k,xs,some (s,w),un,tg⟩ K ⟨look vs,ab os⟩) (K ((bA.put (.bY false .au)).on d ⟨look vs,ab os⟩)):=rfl
@[congr] theorem Kv {b b' f:Bool}{A B:Prop} (h:True→b=b'):gN b f A B=gN b' f A B:=by rw[h trivial]
@[simp↓] theorem LO {f:Bool}{A B:Prop}:gN false f A B=A:=rfl
@[simp↓] theorem N9 {f:Bool}{A B:Prop}:gN true f A B=if f=true then B else A:=rfl
def X0 (P:Program) (Γ:bJ) (d:Option Nat) (K:St→Prop) (st:St):FuncId×List AV→Prop|(f,ys)=>fo P f=true∧eH P Γ d f ys (dB Γ f) K st
@[simp↓] theorem PA {d:Option Nat}{xs:List AV}:fH P Γ d xs none K ⟨look vs,ab os⟩=(ak xs∧ai (kR (xs.map strip)) (X0 P Γ d K ⟨look vs,ab os⟩)):=rfl
@[simp↓] theorem cloK_mk {d:Option Nat}{f:FuncId}{ys:List AV}:X0 P Γ d K ⟨look vs,ab os⟩ (f,ys)=(fo P f=true∧eH P Γ d f ys (dB Γ f) K ⟨look vs,ab os⟩):=rfl
@[simp↓] theorem Lt {d:Option Nat}{f:FuncId}{ys:List AV}:eH P Γ d f ys none K ⟨look vs,ab os⟩=cx P Γ d f ys (ab os) fun e=>K (e.on d ⟨look vs,ab os⟩):=rfl
@[simp↓] theorem KI {d:Option Nat}{f:FuncId}{ys:List AV}{p k:Nat}:eH P Γ d f ys (some (p,k)) K ⟨look vs,ab os⟩=if k=996 then stepG Γ d f ys (iN Γ f) K ⟨look vs,ab os⟩ else False:=rfl
@[congr] theorem Jz {d:Option Nat}{f:FuncId}{ys ys':List AV}{o o':Option (Nat×Nat)}{st:St} (h1:True→ys=ys') (h:True→o=o'):eH P Γ d f ys o K st=eH P Γ d f ys' o' K st:=by rw[h1 trivial,h trivial]
@[simp↓] theorem OI {d:Option Nat}{xs:List AV}{s:Nat}{w:Bool}:fH P Γ d xs (some (s,w)) K ⟨look vs,ab os⟩=gN (eN (xs.map strip)) (JX (bE (look vs s) w)) (qc P Γ d xs s w K ⟨look vs,ab os⟩) (K ((bA.put (.bY false .au)).on d ⟨look vs,ab os⟩)):=rfl
def Xf (P:Program) (Γ:bJ) (d:Option Nat) (A:Prop) (c:Bool) (K:St→Prop) (st:St):FuncId×List AV→Prop|(f,ys)=>fo P f=true∧gZ P Γ d f ys A c (dB Γ f) K st
@[simp↓] theorem cloG_mk {d:Option Nat}{A:Prop}{c:Bool}{f:FuncId}{ys:List AV}:Xf P Γ d A c K ⟨look vs,ab os⟩ (f,ys)=(fo P f=true∧gZ P Γ d f ys A c (dB Γ f) K ⟨look vs,ab os⟩):=rfl
@[simp↓] theorem QR {d:Option Nat}{xs:List AV}{s:Nat}{w:Bool}:qc P Γ d xs s w K ⟨look vs,ab os⟩=ai (bE (look vs s) w) fun c=>ai (kR (xs.map strip)) (Xf P Γ d (ak xs) c K ⟨look vs,ab os⟩):=rfl
@[simp↓] theorem I7 {d:Option Nat}{f:FuncId}{ys:List AV}{A:Prop}{c:Bool}:gZ P Γ d f ys A c none K ⟨look vs,ab os⟩=Ak Γ c f ys (ab os) fun e=>(c=true→A)∧K (e.on d ⟨look vs,ab os⟩):=rfl
@[simp↓] theorem Ic {d:Option Nat}{f:FuncId}{ys:List AV}{A:Prop}{c:Bool}{p k:Nat}:gZ P Γ d f ys A c (some (p,k)) K ⟨look vs,ab os⟩=if k=996 then(if c=true then A∧stepG Γ d f ys (iN Γ f) K ⟨look vs,ab os⟩ else K ((bA.put (.bY false .au)).on d ⟨look vs,ab os⟩)) else False:=rfl
@[congr] theorem HZ {d:Option Nat}{f:FuncId}{ys ys':List AV}{A:Prop}{c:Bool}{o o':Option (Nat×Nat)}{st:St} (h1:True→ys=ys') (h:True→o=o'):gZ P Γ d f ys A c o K st=gZ P Γ d f ys' A c o' K st:=by rw[h1 trivial,h trivial]
@[simp] theorem Q1 {f:FuncId}{caps args:List AV}:kR (.bo f caps::args)=some (f,args++caps):=nr rfl
@[simp↓] theorem Rw {d:Option Nat}{xs:List Operand}{g:Option (Nat×Bool)}{un:List Nat}{tg:Option Nat}:bV P Γ ⟨d,.nS,xs,g,un,tg⟩ K ⟨look vs,ab os⟩=bZ P Γ ⟨d,.nS,xs,g,un,tg⟩ K ⟨look vs,ab os⟩:=rfl
@[simp↓] theorem OF {d:Option Nat}{xs:List Operand}{g:Option (Nat×Bool)}{un:List Nat}{tg:Option Nat}:bV P Γ ⟨d,.pick,xs,g,un,tg⟩ K ⟨look vs,ab os⟩=bZ P Γ ⟨d,.pick,xs,g,un,tg⟩ K ⟨look vs,ab os⟩:=rfl
@[simp↓] theorem RD {d:Option Nat}{xs:List Operand}{g:Option (Nat×Bool)}{un:List Nat}{tg:Option Nat}{op:BinOp}:bV P Γ ⟨d,.bin op,xs,g,un,tg⟩ K ⟨look vs,ab os⟩=bZ P Γ ⟨d,.bin op,xs,g,un,tg⟩ K ⟨look vs,ab os⟩:=rfl
@[simp↓] theorem R6 {d:Option Nat}{xs:List Operand}{g:Option (Nat×Bool)}{un:List Nat}{tg:Option Nat}{ne:Bool}:bV P Γ ⟨d,.beq ne,xs,g,un,tg⟩ K ⟨look vs,ab os⟩=bZ P Γ ⟨d,.beq ne,xs,g,un,tg⟩ K ⟨look vs,ab os⟩:=rfl
@[simp↓] theorem R5 {d:Option Nat}{xs:List Operand}{g:Option (Nat×Bool)}{un:List Nat}{tg:Option Nat}:bV P Γ ⟨d,.not,xs,g,un,tg⟩ K ⟨look vs,ab os⟩=bZ P Γ ⟨d,.not,xs,g,un,tg⟩ K ⟨look vs,ab os⟩:=rfl
@[simp↓] theorem Tr {d:Option Nat}{xs:List Operand}{g:Option (Nat×Bool)}{un:List Nat}{tg:Option Nat}:bV P Γ ⟨d,.neg,xs,g,un,tg⟩ K ⟨look vs,ab os⟩=bZ P Γ ⟨d,.neg,xs,g,un,tg⟩ K ⟨look vs,ab os⟩:=rfl
@[simp↓] theorem TD {d:Option Nat}{xs:List Operand}{g:Option (Nat×Bool)}{un:List Nat}{tg:Option Nat}{k:IntKind}:bV P Γ ⟨d,.B3 k,xs,g,un,tg⟩ K ⟨look vs,ab os⟩=bZ P Γ ⟨d,.B3 k,xs,g,un,tg⟩ K ⟨look vs,ab os⟩:=rfl
@[simp↓] theorem Sn {d:Option Nat}{xs:List Operand}{g:Option (Nat×Bool)}{un:List Nat}{tg:Option Nat}:bV P Γ ⟨d,.CV,xs,g,un,tg⟩ K ⟨look vs,ab os⟩=bZ P Γ ⟨d,.CV,xs,g,un,tg⟩ K ⟨look vs,ab os⟩:=rfl
@[simp↓] theorem TM {d:Option Nat}{xs:List Operand}{g:Option (Nat×Bool)}{un:List Nat}{tg:Option Nat}:bV P Γ ⟨d,.len,xs,g,un,tg⟩ K ⟨look vs,ab os⟩=bZ P Γ ⟨d,.len,xs,g,un,tg⟩ K ⟨look vs,ab os⟩:=rfl
@[simp↓] theorem Om {d:Option Nat}{xs:List Operand}{g:Option (Nat×Bool)}{un:List Nat}{tg:Option Nat}:bV P Γ ⟨d,.uZ,xs,g,un,tg⟩ K ⟨look vs,ab os⟩=bZ P Γ ⟨d,.uZ,xs,g,un,tg⟩ K ⟨look vs,ab os⟩:=rfl
@[simp↓] theorem PM {d:Option Nat}{xs:List Operand}{g:Option (Nat×Bool)}{un:List Nat}{tg:Option Nat}:bV P Γ ⟨d,.uS,xs,g,un,tg⟩ K ⟨look vs,ab os⟩=bZ P Γ ⟨d,.uS,xs,g,un,tg⟩ K ⟨look vs,ab os⟩:=rfl
@[simp↓] theorem Rq {d:Option Nat}{xs:List Operand}{g:Option (Nat×Bool)}{un:List Nat}{tg:Option Nat}{lo hi:Bool}:bV P Γ ⟨d,.IQ lo hi,xs,g,un,tg⟩ K ⟨look vs,ab os⟩=bZ P Γ ⟨d,.IQ lo hi,xs,g,un,tg⟩ K ⟨look vs,ab os⟩:=rfl
@[simp↓] theorem SR {d:Option Nat}{xs:List Operand}{g:Option (Nat×Bool)}{un:List Nat}{tg:Option Nat}{o:Nat}{n:Option Nat}:bV P Γ ⟨d,.FU o n,xs,g,un,tg⟩ K ⟨look vs,ab os⟩=bZ P Γ ⟨d,.FU o n,xs,g,un,tg⟩ K ⟨look vs,ab os⟩:=rfl
@[simp↓] theorem TC {d:Option Nat}{xs:List Operand}{g:Option (Nat×Bool)}{un:List Nat}{tg:Option Nat}{o:Nat}:bV P Γ ⟨d,.rS o,xs,g,un,tg⟩ K ⟨look vs,ab os⟩=bZ P Γ ⟨d,.rS o,xs,g,un,tg⟩ K ⟨look vs,ab os⟩:=rfl
@[simp↓] theorem M6 {d:Option Nat}{xs:List Operand}{g:Option (Nat×Bool)}{un:List Nat}{tg:Option Nat}{n:Option Nat}:bV P Γ ⟨d,.load n,xs,g,un,tg⟩ K ⟨look vs,ab os⟩=bZ P Γ ⟨d,.load n,xs,g,un,tg⟩ K ⟨look vs,ab os⟩:=rfl
@[simp↓] theorem TH {d:Option Nat}{xs:List Operand}{g:Option (Nat×Bool)}{un:List Nat}{tg:Option Nat}{e:TypeId}{s:Nat}:bV P Γ ⟨d,.CB e s,xs,g,un,tg⟩ K ⟨look vs,ab os⟩=bZ P Γ ⟨d,.CB e s,xs,g,un,tg⟩ K ⟨look vs,ab os⟩:=rfl
@[simp↓] theorem SH {d:Option Nat}{xs:List Operand}{g:Option (Nat×Bool)}{un:List Nat}{tg:Option Nat}{e s:Nat}:bV P Γ ⟨d,.E6 e s,xs,g,un,tg⟩ K ⟨look vs,ab os⟩=bZ P Γ ⟨d,.E6 e s,xs,g,un,tg⟩ K ⟨look vs,ab os⟩:=rfl
@[simp↓] theorem Ti {d:Option Nat}{xs:List Operand}{g:Option (Nat×Bool)}{un:List Nat}{tg:Option Nat}:bV P Γ ⟨d,.Ec,xs,g,un,tg⟩ K ⟨look vs,ab os⟩=bZ P Γ ⟨d,.Ec,xs,g,un,tg⟩ K ⟨look vs,ab os⟩:=rfl
@[simp↓] theorem SM {d:Option Nat}{xs:List Operand}{g:Option (Nat×Bool)}{un:List Nat}{tg:Option Nat}{s:Nat}{lo hi:Bool}:bV P Γ ⟨d,.A6 s lo hi,xs,g,un,tg⟩ K ⟨look vs,ab os⟩=bZ P Γ ⟨d,.A6 s lo hi,xs,g,un,tg⟩ K ⟨look vs,ab os⟩:=rfl
@[simp↓] theorem Q9 {d:Option Nat}{xs:List Operand}{g:Option (Nat×Bool)}{un:List Nat}{tg:Option Nat}{i:Nat}:bV P Γ ⟨d,.ext i,xs,g,un,tg⟩ K ⟨look vs,ab os⟩=bZ P Γ ⟨d,.ext i,xs,g,un,tg⟩ K ⟨look vs,ab os⟩:=rfl
@[simp↓] theorem RE {d:Option Nat}{xs:List Operand}{g:Option (Nat×Bool)}{un:List Nat}{tg:Option Nat}{zs:List Value}{ps:List (Nat×Nat)}:bV P Γ ⟨d,.H2 zs ps,xs,g,un,tg⟩ K ⟨look vs,ab os⟩=bZ P Γ ⟨d,.H2 zs ps,xs,g,un,tg⟩ K ⟨look vs,ab os⟩:=rfl
@[simp↓] theorem TB {d:Option Nat}{xs:List Operand}{g:Option (Nat×Bool)}{un:List Nat}{tg:Option Nat}{f:FuncId}:bV P Γ ⟨d,.HU f,xs,g,un,tg⟩ K ⟨look vs,ab os⟩=bZ P Γ ⟨d,.HU f,xs,g,un,tg⟩ K ⟨look vs,ab os⟩:=rfl
@[simp↓] theorem PE {e:TypeId}{d:Nat}{xs:List Operand}{g:Option (Nat×Bool)}{un:List Nat}{tg:Option Nat}:bV P Γ ⟨some d,.gK e,xs,g,un,tg⟩ K ⟨look vs,ab os⟩=cR P Γ ⟨some d,.gK e,xs,g,un,tg⟩ K (sg d ⟨look vs,ab os⟩):=rfl
@[simp↓] theorem Qq {d:Option Nat}{xs:List Operand}{g:Option (Nat×Bool)}{un:List Nat}{tg:Option Nat}:bV P Γ ⟨d,.box,xs,g,un,tg⟩ K ⟨look vs,ab os⟩=bZ P Γ ⟨d,.box,xs,g,un,tg⟩ K ⟨look vs,ab os⟩:=rfl
@[simp↓] theorem LK {d:Option Nat}{xs:List Operand}{g:Option (Nat×Bool)}{un:List Nat}{tg:Option Nat}{zs:List Value}:bV P Γ ⟨d,.alloc zs,xs,g,un,tg⟩ K ⟨look vs,ab os⟩=bZ P Γ ⟨d,.alloc zs,xs,g,un,tg⟩ K ⟨look vs,ab os⟩:=rfl
@[congr] theorem Kw {i:AI}{st st':St} (h:True→st=st'):bZ P Γ i K st=bZ P Γ i K st':=by rw[h trivial]
@[simp↓] theorem SJ {d:Option Nat}{xs:List Operand}{g:Option (Nat×Bool)}{un:List Nat}{tg:Option Nat}{e:TypeId}{s:Nat}:bV P Γ ⟨d,.rG e s,xs,g,un,tg⟩ K ⟨look vs,ab os⟩=bZ P Γ ⟨d,.rG e s,xs,g,un,tg⟩ K (cz ⟨look vs,ab os⟩ ((xs.map (ev (look vs))).map strip)):=rfl
@[simp↓] theorem Mg {f:FuncId}{d:Option Nat}{xs:List Operand}{s:Nat}{w:Bool}{un:List Nat}{tg:Option Nat}:bV P Γ ⟨d,.call f,xs,some (s,w),un,tg⟩ K ⟨look vs,ab os⟩=lL P Γ ⟨d,.call f,xs,some (s,w),un,tg⟩ f s w (dB Γ f) K ⟨look vs,ab os⟩:=rfl
@[congr] theorem Kg {i:AI}{f:FuncId}{s:Nat}{w:Bool}{o o':Option (Nat×Nat)}{st:St} (h:True→o=o'):lL P Γ i f s w o K st=lL P Γ i f s w o' K st:=by rw[h trivial]
@[simp↓] theorem LB {f:FuncId}{d:Option Nat}{xs:List Operand}{s s':Nat}{w w':Bool}{un:List Nat}{tg:Option Nat}:lL P Γ ⟨d,.call f,xs,some (s',w'),un,tg⟩ f s w none K ⟨look vs,ab os⟩=gN (eN ((xs.map (ev (look vs))).map strip)) (JX (bE (look vs s) w)) (ai (bE (look vs s) w) fun c=>ai (ft (ab os) ((xs.map (ev (look vs))).map strip)) fun ys=>ai (gt Γ f ys) fun x=>if frR x.2=true then(if c=true then l8 P Γ ⟨d,.call f,xs,none,[],none⟩ f K ⟨look vs,ab os⟩ else K ((bA.put (.bY false .au)).on d ⟨look vs,ab os⟩)) else cR P Γ ⟨d,.call f,xs,some (s',w'),un,tg⟩ K ⟨look vs,ab os⟩) (K ((bA.put (.bY false .au)).on d ⟨look vs,ab os⟩)):=rfl
@[simp↓] theorem Lx {f:FuncId}{d:Option Nat}{xs:List Operand}{s s' p k:Nat}{w w':Bool}{un:List Nat}{tg:Option Nat}:lL P Γ ⟨d,.call f,xs,some (s',w'),un,tg⟩ f s w (some (p,k)) K ⟨look vs,ab os⟩=if k=996 then ai (bE (look vs s) w) fun c=>if c=true then stepG Γ d f (xs.map (ev (look vs))) (iN Γ f) K ⟨look vs,ab os⟩ else K ((bA.put (.bY false .au)).on d ⟨look vs,ab os⟩) else False:=rfl
@[simp↓] theorem OT {f:FuncId}{d:Option Nat}{xs:List Operand}{un:List Nat}{tg:Option Nat}:bV P Γ ⟨d,.call f,xs,none,un,tg⟩ K ⟨look vs,ab os⟩=gH P Γ ⟨d,.call f,xs,none,un,tg⟩ f (dB Γ f) K ⟨look vs,ab os⟩:=rfl
@[congr] theorem Iz {i:AI}{f:FuncId}{o o':Option (Nat×Nat)}{st:St} (h:True→o=o'):gH P Γ i f o K st=gH P Γ i f o' K st:=by rw[h trivial]
@[simp↓] theorem LN {i:AI}{f:FuncId}{st:St}:gH P Γ i f none K st=l8 P Γ i f K st:=rfl
@[simp↓] theorem Lf {f g:FuncId}{p k:Nat}{d:Option Nat}{xs:List Operand}{un:List Nat}{tg:Option Nat}:gH P Γ ⟨d,.call g,xs,none,un,tg⟩ f (some (p,k)) K ⟨look vs,ab os⟩=if k=997 then yJ P Γ d f (xs.map (ev (look vs))) p K ⟨look vs,ab os⟩ else if k=996 then stepG Γ d f (xs.map (ev (look vs))) (iN Γ f) K ⟨look vs,ab os⟩ else kJ P Γ d f (xs.map (ev (look vs))) p k K ⟨look vs,ab os⟩:=rfl
@[simp↓] theorem Yc {d:Nat}{f:FuncId}{xs:List AV}{p:Nat}:yJ P Γ (some d) f xs p K ⟨look vs,ab os⟩=(ak xs∧ai (rq (ab os) p (xs.map strip)) fun ys=>ai (Γ (f+1000000) ys) fun x=>x.1∧(eE (xs.map strip)=true∨flat x.2)∧(∀y∈aM d x.2,ab os y.1=none)∧cP x.2=true∧K ⟨put (some d) (cI (kW d) x.2) (look vs),bp (aM d x.2) (ab os)⟩):=rfl
@[simp] theorem reisN_0 (aa:Nat→Option AO) (vs:List AV):rq aa 0 (.pv .nil::vs)=(ft aa vs).map (.pv .nil::·):=nr rfl
@[simp] theorem aai {f:FuncId}:dB Γ f=(Γ (f+1000000) [.au]).bind fun x=>Cx x.2:=nr rfl
@[simp] theorem To {p k:Nat}:Cx (.ptr p k)=if k=998∨k=999∨k=997∨k=996 then some (p,k) else none:=nr rfl
@[simp↓] theorem Uf {d:Nat}{f:FuncId}{xs:List AV}{p k:Nat}:kJ P Γ (some d) f xs p k K ⟨look vs,ab os⟩=(ak xs∧ai ((xs.map strip)[p]?) fun X=>ai (fp (ab os) k X) fun T=>lF T.1 p (xs.map strip)∧ai (qC (fJ T.1 (ab os)) (wL k T.2.1 T.2.2) p (xs.map strip)) fun ys=>ai (Γ (f+1000000) ys) fun x=>x.1∧(jo p (xs.map strip)=true∨(flat (bS x.2)∧om (dW x.2)))∧(∀y∈aM d (bS x.2),ab os y.1=none)∧cP (bS x.2)=true∧K ⟨put (some d) (cI (kW d) (bS x.2)) (gP T.1 x.2 (look vs)),bp (aM d (bS x.2)) (cA T.1 x.2 (ab os))⟩):=rfl
@[simp] def isPu:XK→Bool|.QU _=>true|.YT|.Hq _|.DX _ _ _|.dead|.vM _|.yM|.FL|.ES _ _ _ _|.DJ _|.RN _ _ _|.mark|.rst|.Ex|.mkv|.E3 _ _ _|.mJ _ _|.dlv _|.EB _|.YU|.nxt|.ent=>false
def wX (d:Option Nat) (x:XK) (xs:List Operand) (K:St→Prop) (st:St):Prop:=aU d x (xs.map (ev st.vars)) K st
def AU:Bool→Prop→Prop→Prop|true,_,B=>B|false,A,_=>A
@[simp↓] theorem KO {A B:Prop}:AU true A B=B:=rfl
@[simp↓] theorem IY {A B:Prop}:AU false A B=A:=rfl
@[simp↓] theorem aaD {d:Option Nat}{xs:List Operand}{un:List Nat}{tg:Option Nat}{x:XK}:bV P Γ ⟨d,.ex x,xs,none,un,tg⟩ K ⟨look vs,ab os⟩=AU (isPu x) (aU d x (xs.map (ev (look vs))) K ⟨look vs,ab os⟩) (wX d x xs K (cz ⟨look vs,ab os⟩ ((xs.map (ev (look vs))).map strip))):=by cases x<;>rfl
@[congr] theorem JZ {d:Option Nat}{x:XK}{xs:List Operand}{st st':St} (h:True→st=st'):wX d x xs K st=wX d x xs K st':=by rw[h trivial]
@[simp↓] theorem Ro {d:Option Nat}{x:XK}{xs:List Operand}:wX d x xs K ⟨look vs,ab os⟩=aU d x (xs.map (ev (look vs))) K ⟨look vs,ab os⟩:=rfl
@[simp↓] theorem Se {d:Option Nat}{xs:List Operand}{s:Nat}{w:Bool}{un:List Nat}{tg:Option Nat}{x:XK}:bV P Γ ⟨d,.ex x,xs,some (s,w),un,tg⟩ K ⟨look vs,ab os⟩=ai (bE (look vs s) w) fun c=>if c=true then aU d x (xs.map (ev (look vs))) K ⟨look vs,ab os⟩ else K ((bA.put (.bY false .au)).on d ⟨look vs,ab os⟩):=rfl
@[congr] theorem Jp {d:Option Nat}{x:XK}{xs xs':List AV}{st:St} (h:True→xs=xs'):aU d x xs K st=aU d x xs' K st:=by rw[h trivial]
@[simp↓] theorem Oz {d:Nat}:aU (some d) .YT [] K ⟨look vs,ab os⟩=(ab os d=none∧K ⟨put (some d) (.own d) (look vs),bp [(d,.map [])] (ab os)⟩):=rfl
@[simp↓] theorem L7 {d:Option Nat}{s t:Nat}{k v:AV}:aU d (.Hq s) [.own t,k,v] K ⟨look vs,ab os⟩=zQ d s t (strip k) (strip v) [.own t,k,v] K ⟨look vs,ab os⟩:=by cases hk:strip k<;>simp[aU,ph,zQ,hk,strip]
@[simp↓] theorem ZA {d:Option Nat}{s t:Nat}{k:PV}{v:AV}{xs:List AV}:zQ d s t (.pv k) v xs K ⟨look vs,ab os⟩=(ak xs∧ai (wT (ab os t)) fun es=>dk k=s∧fV s es∧ed v=true∧K ⟨put d .au (look vs),aL t (.map (iY k v es)) (ab os)⟩):=rfl
@[congr] theorem LV {d:Option Nat}{s t:Nat}{k k' v v':AV}{xs xs':List AV}{st:St} (h1:True→k=k') (h2:True→v=v') (h3:True→xs=xs'):zQ d s t k v xs K st=zQ d s t k' v' xs' K st:=by rw[h1 trivial,h2 trivial,h3 trivial]
@[simp↓] theorem Lc {d:Option Nat}{s t:Nat}{z:Value}{ok:Bool}{k:AV}:aU d (.DX s z ok) [.own t,k] K ⟨look vs,ab os⟩=yY d s t z ok (strip k) [.own t,k] K ⟨look vs,ab os⟩:=by cases hk:strip k<;>simp[aU,ph,yY,hk,strip]
@[simp↓] theorem V7 {d:Option Nat}{s t:Nat}{z:Value}{ok:Bool}{k:PV}{xs:List AV}:yY d s t z ok (.pv k) xs K ⟨look vs,ab os⟩=(ak xs∧ai (wT (ab os t)) fun es=>dk k=s∧fV s es∧K ⟨put d (if ok=true then .aJ [(getM k es).getD (HM z),.pv (.bool (getM k es).isSome)] else(getM k es).getD (HM z)) (look vs),ab os⟩):=rfl
@[congr] theorem LY {d:Option Nat}{s t:Nat}{z:Value}{ok:Bool}{k k':AV}{xs xs':List AV}{st:St} (h1:True→k=k') (h3:True→xs=xs'):yY d s t z ok k xs K st=yY d s t z ok k' xs' K st:=by rw[h1 trivial,h3 trivial]
@[simp↓] theorem Jk {d:Option Nat}{s:Nat}{ks:List PV}{z:Value}{ok:Bool}{k:AV}:aU d (.DX s z ok) [.pv (.mp ks),k] K ⟨look vs,ab os⟩=uk d s ks z ok (strip k) [.pv (.mp ks),k] K ⟨look vs,ab os⟩:=by cases hk:strip k<;>simp[aU,ph,uk,hk,strip]
@[simp↓] theorem R4 {d:Option Nat}{s:Nat}{ks:List PV}{z:Value}{ok:Bool}{k:PV}{xs:List AV}:uk d s ks z ok (.pv k) xs K ⟨look vs,ab os⟩=(ak xs∧vY z=true∧dk k=s∧(∀x∈ks,dk x=s)∧K ⟨put d (if ok=true then .aJ [.agg [],.pv (.bool (ks.any (mm k)))] else .agg []) (look vs),ab os⟩):=rfl
@[congr] theorem I3 {d:Option Nat}{s:Nat}{ks:List PV}{z:Value}{ok:Bool}{k k':AV}{xs xs':List AV}{st:St} (h1:True→k=k') (h3:True→xs=xs'):uk d s ks z ok k xs K st=uk d s ks z ok k' xs' K st:=by rw[h1 trivial,h3 trivial]
@[simp↓] theorem Pp {d:Option Nat}{x y:AV}:aU d .rst [x,y] K ⟨look vs,ab os⟩=vn d (strip x) (strip y) [x,y] K ⟨look vs,ab os⟩:=rfl
@[simp↓] theorem Yd {d:Option Nat}{t o q:Nat}{e:TypeId}{i:Int}{xs:List AV}:vn d (.aZ t e i o) (.own q) xs K ⟨look vs,ab os⟩=(ak xs∧ai (cM (ab os t)) fun r=>(r.1=e∧o=0)∧(0≤i∧i<r.2.length∧(rowAt r.2 i).length=1)∧K ⟨put d .au (look vs),aL t (.rws e ((r.2.map fun x=>AV.pv (x.getD 0 .nil)).set i.toNat (.own q))) (ab os)⟩):=rfl
@[simp↓] theorem L9 {d:Option Nat}{x:AV}:aU d .Ex [x] K ⟨look vs,ab os⟩=sf d (strip x) [x] K ⟨look vs,ab os⟩:=rfl
@[simp↓] theorem IX {d:Option Nat}{a b c:AV}:aU d .yM [a,b,c] K ⟨look vs,ab os⟩=qE d [a,b,c] [strip a,strip b,strip c] K ⟨look vs,ab os⟩:=rfl
@[congr] theorem KD {d:Option Nat}{xs xs' ys ys':List AV}{st:St} (h1:True→xs=xs') (h2:True→ys=ys'):qE d xs ys K st=qE d xs' ys' K st:=by rw[h1 trivial,h2 trivial]
@[simp↓] theorem Vw {d:Option Nat}{xs:List AV}{a b c:Int}:qE d xs [.pv (.int .u64 a),.pv (.int .u64 b),.pv (.int .u64 c)] K ⟨look vs,ab os⟩=(ak xs∧(0≤a∧0≤b∧0≤c∧c≤1)∧K ⟨put d (.aJ [.pv (.int .u64 ((a+b+c)%18446744073709551616)),.pv (.int .u64 ((a+b+c)/18446744073709551616))]) (look vs),ab os⟩):=rfl
@[simp↓] theorem LC {d:Option Nat}{x:AV}:aU d .FL [x] K ⟨look vs,ab os⟩=lY d (strip x) [x] K ⟨look vs,ab os⟩:=by cases hk:strip x<;>simp[aU,ph,lY,hk];rename_i p;cases p<;>simp
@[simp↓] theorem Pk {d:Option Nat}{xs:List AV}:lY d (.pv .nil) xs K ⟨look vs,ab os⟩=(ak xs∧K ⟨put d (.pv (.int .i64 0)) (look vs),ab os⟩):=rfl
@[congr] theorem Ie {d:Option Nat}{x x':AV}{xs xs':List AV}{st:St} (h1:True→x=x') (h2:True→xs=xs'):lY d x xs K st=lY d x' xs' K st:=by rw[h1 trivial,h2 trivial]
@[simp↓] theorem PJ {d:Option Nat}{e:TypeId}{b:Nat}{zs:List Value}{x y:AV}:aU d (.RN e b zs) [x,y] K ⟨look vs,ab os⟩=zu d e b zs [x,y] [strip x,strip y] K ⟨look vs,ab os⟩:=rfl
@[simp↓] theorem KL {d:Option Nat}{e:TypeId}{xs:List AV}:aU d (.DJ e) xs K ⟨look vs,ab os⟩=xM d e xs (xs.map strip) K ⟨look vs,ab os⟩:=rfl
@[simp↓] theorem Kz {d:Option Nat}{e:TypeId}{sz:Nat}{xs:List AV}:aU d (.mJ e sz) xs K ⟨look vs,ab os⟩=qi d e sz xs (xs.map strip) K ⟨look vs,ab os⟩:=rfl
@[simp↓] theorem RU {d:Nat}{e:TypeId}{sz:Nat}{xs ys:List AV}:qi (some d) e sz xs ys K ⟨look vs,ab os⟩=(ak xs∧ai (rowsOf ys) fun rows=>(∀r∈rows,r.length=sz)∧ab os d=none∧K ⟨put (some d) (.own d) (look vs),bp [(d,.arr e rows)] (ab os)⟩):=nr rfl
@[simp↓] theorem Lh {d:Option Nat}{e:TypeId}{sz b:Nat}{zs:List Value}{x y:AV}:aU d (.ES e sz b zs) [x,y] K ⟨look vs,ab os⟩=me d e b zs [x,y] [strip x,strip y] K ⟨look vs,ab os⟩:=rfl
@[congr] theorem It {d:Option Nat}{e:TypeId}{b:Nat}{zs:List Value}{xs xs' ys ys':List AV}{st:St} (h1:True→xs=xs') (h2:True→ys=ys'):me d e b zs xs ys K st=me d e b zs xs' ys' K st:=by rw[h1 trivial,h2 trivial]
@[simp↓] theorem Qz {d:Nat}{e:TypeId}{b:Nat}{zs:List Value}{xs:List AV}{n:Int}:me (some d) e b zs xs [.pv .nil,.pv (.int .i64 n)] K ⟨look vs,ab os⟩=(ak xs∧(0≤n∧n≤140737488355328∧n.toNat*b≤140737488355328)∧ab os d=none∧K ⟨put (some d) (.own d) (look vs),bp [(d,.arr e (List.replicate n.toNat (zs.map rE)))] (ab os)⟩):=rfl
@[simp↓] theorem Kh {d:Option Nat}{ne:Bool}{x:AV}:aU d (.vM ne) [x] K ⟨look vs,ab os⟩=(ak [x]∧ai (eZ (ab os) (strip x)) fun rows=>Ga d ne rows K ⟨look vs,ab os⟩):=rfl
theorem lq {d:Option Nat}{ne:Bool}{rows:List (List PV)}:Ga d ne rows K ⟨look vs,ab os⟩=∀b:Bool,(rows≠[]→b=false)→K ⟨put d (.pv (.bool (if ne=true then !b else b))) (look vs),ab os⟩:=rfl
@[simp↓] theorem P5 {d:Option Nat}{ne:Bool}{r:List PV}{rows:List (List PV)}:Ga d ne (r::rows) K ⟨look vs,ab os⟩=K ⟨put d (.pv (.bool ne)) (look vs),ab os⟩:=by
 rw[lq];apply propext;constructor;·intro h;have:=h false (fun _=>rfl);cases ne<;>exact this
 ·intro h b hb;have:=hb (by simp);subst this;cases ne<;>exact h
@[simp] theorem QV (es:List (PV×AV)):wT (some (.map es))=some es:=nr rfl
@[simp] theorem srt_int (k:IntKind) (n:Int):dk (.int k n)=2+mK k:=nr rfl
@[simp] theorem srt_str (l:List UInt8):dk (.str l)=1:=nr rfl
@[simp] theorem ZH (b:Bool):dk (.bool b)=0:=nr rfl
@[simp] theorem YK:mK .u64=7:=nr rfl
@[simp] theorem kIdx_u8:mK .u8=4:=nr rfl
@[simp] theorem Oq (s:Nat):fV s []=True:=by simp[fV]
@[simp] theorem avZ_agg (cs:Array Value):HM (.agg cs)=.agg (cs.toList.map cv):=nr rfl
@[simp↓] theorem Sv {d:Option Nat}{xs:List Operand}{un:List Nat}{tg:Option Nat}{e:TypeId}{s:Nat}{zs:List Value}:bV P Γ ⟨d,.F8 e s zs,xs,none,un,tg⟩ K ⟨look vs,ab os⟩=ot d e s zs (xs.map (ev (look vs))) K ⟨look vs,ab os⟩:=rfl
@[simp↓] theorem NN {d:Option Nat}{e:TypeId}{s:Nat}{zs:List Value}{xs:List AV}:ot d e s zs xs K ⟨look vs,ab os⟩=(ak xs∧ai ((xs.map strip).head?) fun X=>ai (Bg (ab os) e zs X) fun r=>K ((bA.vq r.1 r.2).on d ⟨look vs,ab os⟩)):=rfl
@[simp↓] theorem Zg {f g:FuncId}{d:Option Nat}{xs:List Operand}{un:List Nat}{tg:Option Nat}:l8 P Γ ⟨d,.call g,xs,none,un,tg⟩ f K ⟨look vs,ab os⟩=ai (ft (ab os) ((xs.map (ev (look vs))).map strip)) fun ys=>ai (gt Γ f ys) fun x=>if(Y7 x.2&&!eE ((xs.map (ev (look vs))).map strip))=true then zn P Γ d f xs K (cz ⟨look vs,ab os⟩ ((xs.map (ev (look vs))).map strip)) else cR P Γ ⟨d,.call g,xs,none,un,tg⟩ K ⟨look vs,ab os⟩:=rfl
@[congr] theorem LJ {d:Option Nat}{f:FuncId}{xs:List Operand}{st st':St} (h:True→st=st'):zn P Γ d f xs K st=zn P Γ d f xs K st':=by rw[h trivial]
@[simp↓] theorem aaw {d:Option Nat}{f:FuncId}{xs:List Operand}:zn P Γ d f xs K ⟨look vs,ab os⟩=cx P Γ d f (xs.map (ev (look vs))) (ab os) fun e=>K (e.on d ⟨look vs,ab os⟩):=rfl
@[simp↓] theorem Te {d:Option Nat}{xs:List Operand}{g:Option (Nat×Bool)}{un:List Nat}{tg:Option Nat}{b:Bool}:bV P Γ ⟨d,.E4 b,xs,g,un,tg⟩ K ⟨look vs,ab os⟩=bZ P Γ ⟨d,.E4 b,xs,g,un,tg⟩ K ⟨look vs,ab os⟩:=rfl
@[simp↓] theorem RB {d:Option Nat}{xs:List Operand}{g:Option (Nat×Bool)}{un:List Nat}{tg:Option Nat}{ne:Bool}{ks:List Nat}:bV P Γ ⟨d,.eqs ne ks,xs,g,un,tg⟩ K ⟨look vs,ab os⟩=bZ P Γ ⟨d,.eqs ne ks,xs,g,un,tg⟩ K ⟨look vs,ab os⟩:=rfl
@[simp↓] theorem KH {d:Option Nat}{xs:List Operand}{g:Option (Nat×Bool)}{un:List Nat}{tg:Option Nat}{n:Option Nat}:bV P Γ ⟨d,.store n,xs,g,un,tg⟩ K ⟨look vs,ab os⟩=bZ P Γ ⟨d,.store n,xs,g,un,tg⟩ K ⟨look vs,ab os⟩:=rfl
@[simp↓] theorem RP {d:Option Nat}{xs:List Operand}{g:Option (Nat×Bool)}{un:List Nat}{e:TypeId}{s b:Nat}:bV P Γ ⟨d,.app e s b,xs,g,un,none⟩ K ⟨look vs,ab os⟩=bZ P Γ ⟨d,.app e s b,xs,g,un,none⟩ K ⟨look vs,ab os⟩:=rfl
@[simp↓] theorem Tu {d:Option Nat}{xs:List Operand}{un:List Nat}{e:TypeId}{s b:Nat}:bV P Γ ⟨d,.app e s b,xs,none,un,some 999998⟩ K ⟨look vs,ab os⟩=if oJ ((xs.map (ev (look vs))).map strip)=true then wM d e s b (xs.map (ev (look vs))) K ⟨look vs,ab os⟩ else cR P Γ ⟨d,.app e s b,xs,none,un,some 999998⟩ K ⟨look vs,ab os⟩:=rfl
@[simp↓] theorem Np {d:Option Nat}{e:TypeId}{sz b:Nat}{xs:List AV}:wM d e sz b xs K ⟨look vs,ab os⟩=(ak xs∧ai (GD (ab os) e (xs.map strip)) fun r=>((r.2.1.length+r.2.2.length)*b≤140737488355328∧r.2.1.length+r.2.2.length≤maxLen∧(∀q∈r.2.2,q.length=sz))∧r.1%1000≠999∧K ⟨put d (.pv (.ro (r.2.1++r.2.2))) (AR r.1 r.2.1 (look vs)),fJ r.1 (ab os)⟩):=rfl
@[simp↓] theorem Pe {d:Option Nat}{xs:List Operand}{g:Option (Nat×Bool)}{un:List Nat}{tg:Option Nat}:bV P Γ ⟨d,.rH,xs,g,un,tg⟩ K ⟨look vs,ab os⟩=bZ P Γ ⟨d,.rH,xs,g,un,tg⟩ K ⟨look vs,ab os⟩:=rfl
@[simp↓] theorem Qf {d:Option Nat}{xs:List Operand}{g:Option (Nat×Bool)}{un:List Nat}{tg:Option Nat}{e:TypeId}:bV P Γ ⟨d,.qw e,xs,g,un,tg⟩ K ⟨look vs,ab os⟩=bZ P Γ ⟨d,.qw e,xs,g,un,tg⟩ K ⟨look vs,ab os⟩:=rfl
@[simp↓] theorem bg {a b:AC}:hZ P Γ (.seq a b) K J ⟨look vs,ab os⟩=hZ P Γ a (fun st'=>hZ P Γ b K J st') J ⟨look vs,ab os⟩:=rfl
@[simp↓] theorem zh {x:Operand}{a b:AC}:hZ P Γ (.cond x a b) K J ⟨look vs,ab os⟩=ai (iW (ev (look vs) x)) fun c=>(c=true→hZ P Γ a K J ⟨look vs,ab os⟩)∧(c=false→hZ P Γ b K J ⟨look vs,ab os⟩):=rfl
@[simp↓] theorem bd {id:Nat}{a:AC}:hZ P Γ (.block id a) K J ⟨look vs,ab os⟩=hZ P Γ a K (oE id K J) ⟨look vs,ab os⟩:=rfl
@[simp↓] theorem O5 {id id':Nat}:oE id K J (.exit id') ⟨look vs,ab os⟩=if id'=id then K ⟨look vs,ab os⟩ else J (.exit id') ⟨look vs,ab os⟩:=rfl
@[simp↓] theorem RQ {id:Nat}:oE id K J .ret ⟨look vs,ab os⟩=J .ret ⟨look vs,ab os⟩:=rfl
@[simp↓] theorem FV {id:Nat}:hZ P Γ (.exit id) K J ⟨look vs,ab os⟩=J (.exit id) ⟨look vs,ab os⟩:=rfl
@[simp↓] theorem vwp_ret:hZ P Γ .ret K J ⟨look vs,ab os⟩=J .ret ⟨look vs,ab os⟩:=rfl
@[simp↓] theorem Sw:steps P Γ [] K ⟨look vs,ab os⟩=K ⟨look vs,ab os⟩:=rfl
@[simp↓] theorem Mx {i:AI}{is:List AI}:steps P Γ (i::is) K ⟨look vs,ab os⟩=cB P Γ i (fun st'=>steps P Γ is K st') ⟨look vs,ab os⟩:=rfl
@[simp↓] theorem O3 {d:Option Nat}{k:AK}{xs:List Operand}{g:Option (Nat×Bool)}{un:List Nat}:cB P Γ ⟨d,k,xs,g,un,none⟩ K ⟨look vs,ab os⟩=cR P Γ ⟨d,k,xs,g,un,none⟩ K ⟨look vs,ab os⟩:=by cases k<;>rfl
@[simp↓] theorem K5 {d:Option Nat}{n:Option Nat}{xs:List Operand}{g:Option (Nat×Bool)}{un:List Nat}{tg:Option Nat}:cB P Γ ⟨d,.store n,xs,g,un,tg⟩ K ⟨look vs,ab os⟩=cR P Γ ⟨d,.store n,xs,g,un,tg⟩ K ⟨look vs,ab os⟩:=rfl
@[simp↓] theorem Ny {d:Option Nat}{f:FuncId}{xs:List Operand}{un:List Nat}:cB P Γ ⟨d,.call f,xs,none,un,some 999999⟩ K ⟨look vs,ab os⟩=gQ P Γ ⟨d,.call f,xs,none,un,some 999999⟩ f (dB Γ f) K ⟨look vs,ab os⟩:=rfl
@[simp↓] theorem Nr {d:Option Nat}{xs:List Operand}{un:List Nat}:cB P Γ ⟨d,.lh,xs,none,un,some 999999⟩ K ⟨look vs,ab os⟩=fH P Γ d (xs.map (ev (look vs))) none K ⟨look vs,ab os⟩:=rfl
@[congr] theorem KA {i:AI}{f:FuncId}{o o':Option (Nat×Nat)}{st:St} (h:True→o=o'):gQ P Γ i f o K st=gQ P Γ i f o' K st:=by rw[h trivial]
@[simp↓] theorem OH {f g:FuncId}{d:Option Nat}{xs:List Operand}{un:List Nat}{tg:Option Nat}:gQ P Γ ⟨d,.call g,xs,none,un,tg⟩ f none K ⟨look vs,ab os⟩=cR P Γ ⟨d,.call g,xs,none,[],none⟩ K ⟨look vs,ab os⟩:=rfl
@[simp↓] theorem NU {f g:FuncId}{p k:Nat}{d:Option Nat}{xs:List Operand}{un:List Nat}{tg:Option Nat}:gQ P Γ ⟨d,.call g,xs,none,un,tg⟩ f (some (p,k)) K ⟨look vs,ab os⟩=if k=998 then un=[]∧kJ P Γ d f (xs.map (ev (look vs))) p k K ⟨look vs,ab os⟩ else if k=996 then mQ (Dd (iN Γ f) (ab os) ((xs.map (ev (look vs))).map strip)) ⟨look vs,ab os⟩ un∧stepG Γ d f (xs.map (ev (look vs))) (iN Γ f) K ⟨look vs,ab os⟩ else False:=rfl
@[simp↓] theorem Tv {T:List Nat}{st:St}:mQ T st []=True:=rfl
@[simp↓] theorem M1 {T:List Nat}{s:Nat}{l:List Nat}:mQ T ⟨look vs,ab os⟩ (s::l)=(ai (ldT (ab os) (look vs s)) (fun t=>T.contains t=false)∧mQ T ⟨look vs,ab os⟩ l):=rfl
@[simp↓] theorem Xa {d:Option Nat}{k:AK}{xs:List Operand}{g:Option (Nat×Bool)}{un:List Nat}{tg:Option Nat}:cR P Γ ⟨d,k,xs,g,un,tg⟩ K ⟨look vs,ab os⟩=((un=[]∨jE un (ab os) ((xs.map (ev (look vs))).map strip))∧dI P Γ ⟨d,k,xs,g,un,tg⟩ (look vs) (ab os) fun e=>A7 un tg e∧K (e.on d ⟨look vs,ab os⟩)):=rfl
@[simp↓] theorem Tk {d:Option Nat}{k:AK}{xs:List Operand}{un:List Nat}{tg:Option Nat}{aa:Nat→Option AO}{C:bA→Prop}{vars:Nat→AV}:dI P Γ ⟨d,k,xs,none,un,tg⟩ vars aa C=aX P Γ d k (xs.map (ev vars)) aa C:=rfl
@[simp↓] theorem QT {d:Option Nat}{k:AK}{xs:List Operand}{s:Nat}{w:Bool}{un:List Nat}{tg:Option Nat}{aa:Nat→Option AO}{C:bA→Prop}{vars:Nat→AV}:dI P Γ ⟨d,k,xs,some (s,w),un,tg⟩ vars aa C=ai (bE (vars s) w) fun c=>cd P Γ c d k (xs.map (ev vars)) aa C:=rfl
theorem Dx {e:bA}:kH [] e=True:=by cases e<;>simp[kH]
@[simp↓] theorem Tb {un:List Nat}{v:AV}:kH un (.put v)=True:=rfl
@[simp↓] theorem TF {un:List Nat}{v:AV}{os:List (Nat×AO)}:kH un (.new v os)=True:=rfl
@[simp↓] theorem Tp {un:List Nat}{t:Nat}{o:AO}:kH un (.vq t o)=True:=rfl
@[simp↓] theorem R2 {un:List Nat}{t:Nat}{o:AO}:kH un (.app t o)=(un.contains (t%1000+1000)=false):=rfl
@[simp↓1100] theorem tgU_nil {tg:Option Nat}{e:bA}:A7 [] tg e=sM tg e:=by unfold A7;rw[Dx,and_true]
@[simp↓] theorem aah {un:List Nat}{e:bA}:A7 un none e=kH un e:=by unfold A7 sM;rw[true_and]
@[simp↓] theorem YO {un:List Nat}{s:Nat}{e:bA}:A7 un (some s) e=(sM (some s) e∧kH un e):=rfl
@[simp↓] theorem Rn {e:bA}:sM none e=True:=rfl
@[simp↓] theorem UQ {s t:Nat}{o:AO}:sM (some s) (.vq t o)=(t=s):=rfl
@[simp↓] theorem on_put {d:Option Nat}{v:AV}:(bA.put v).on d ⟨look vs,ab os⟩=⟨put d v (look vs),ab os⟩:=rfl
@[simp↓] theorem jn {d:Option Nat}{v:AV}{l:List (Nat×AO)}:(bA.new v l).on d ⟨look vs,ab os⟩=⟨put d v (look vs),bp l (ab os)⟩:=rfl
@[simp↓] theorem on_upd {d:Option Nat}{t:Nat}{o:AO}:(bA.vq t o).on d ⟨look vs,ab os⟩=⟨put d .au (look vs),aL t o (ab os)⟩:=rfl
@[simp↓] theorem pA {d:Option Nat}{t:Nat}{o:AO}:(bA.app t o).on d ⟨look vs,ab os⟩=⟨put d (.own t) (cr t (look vs)),aL t o (dt t (ab os))⟩:=rfl
end
theorem Hp (d:Nat) (v:AV) (l:List (Nat×AV)):put (some d) v (look l)=look ((d,v)::l):=by funext s;simp[put,look]
theorem G3 (v:AV) (f:Nat→AV):put none v f=f:=rfl
theorem DU (t:Nat) (o:AO) (l:List (Nat×AO)):aL t o (ab l)=ab ((t,o)::l):=by funext s;simp[aL,ab]
theorem Bo (cq:List Nat) (l:List (Nat×AV)):jc cq (look l)=look (cq.map fun s=>(s,look l s)):=by funext s;unfold jc;induction cq with|nil=>simp[look]|cons k ks ih=>
 simp only[List.map_cons,look];by_cases h:s=k;·subst h;simp
 ·simp only[List.contains_cons,h,if_false];have:(s==k)=false:=by simpa using h
  rw[this];simpa using ih
theorem vD (t:Nat) (l:List (Nat×AV)):cr t (look l)=look (l.map fun x=>(x.1,kill t x.2)):=by funext s;unfold cr;induction l with|nil=>rfl|cons x l ih=>obtain⟨k,v⟩:=x;simp only[List.map_cons,look];split<;>simp_all
theorem Bh (t:Nat) (l:List (Nat×AO)):dt t (ab l)=ab (l.map fun x=>(x.1,dJ t x.2)):=by funext s;unfold dt;induction l with|nil=>rfl|cons x l ih=>obtain⟨k,v⟩:=x;simp only[List.map_cons,ab];split<;>simp_all
theorem DA (m l:List (Nat×AO)):bp m (ab l)=ab (m++l):=by funext s;unfold bp;induction m with|nil=>simp[ab]|cons x m ih=>
 obtain⟨k,v⟩:=x;simp only[List.cons_append,ab];by_cases h:s=k;·simp[h]
 ·simp only[if_neg h];exact ih
theorem jW (vs:List (Nat×AV)) (os:List (Nat×AO)):(Fr.mk vs os).st=⟨look vs,ab os⟩:=rfl
def Ki (t:Nat):List (Nat×AO)→List (Nat×AO)|[]=>[]|x::l=>if x.1=t then Ki t l else(x.1,dJ t x.2)::Ki t l
@[simp] theorem rmL_nil (t:Nat):Ki t []=[]:=nr rfl
@[simp] theorem Ge (t s:Nat) (o:AO) (l:List (Nat×AO)):Ki t ((s,o)::l)=if s=t then Ki t l else(s,dJ t o)::Ki t l:=nr rfl
theorem sq (t:Nat) (l:List (Nat×AO)):fJ t (ab l)=ab (Ki t l):=by funext s;unfold fJ;induction l with|nil=>simp[ab]|cons x l ih=>
 obtain⟨k,v⟩:=x;simp only[Ge,ab];by_cases hs:s=t
 ·subst hs;simp only[if_true]at ih ⊢;by_cases hk:k=s;·simp[hk];exact ih
  ·have hk':¬s=k:=fun e=>hk e.symm;simp[hk,ab,hk'];exact ih
 ·simp only[hs,if_false]at ih ⊢;by_cases hk:k=t;·have:¬s=k:=fun e=>hs (e.trans hk);rw[if_pos hk,if_neg this];exact ih
  ·simp only[hk,if_false,ab];by_cases hsk:s=k;·simp[hsk]
   ·simp only[hsk,if_false];exact ih
def J3 (t:Nat) (e:TypeId) (rows:List (List PV)):List (Nat×AO)→List (Nat×AO)|[]=>[]|x::l=>if x.1=t then J3 t e rows l else(x.1,HV t e rows x.2)::J3 t e rows l
@[simp] theorem rmB_nil (t:Nat) (e:TypeId) (rows:List (List PV)):J3 t e rows []=[]:=nr rfl
@[simp] theorem Ht (t s:Nat) (e:TypeId) (rows:List (List PV)) (o:AO) (l:List (Nat×AO)):J3 t e rows ((s,o)::l)=if s=t then J3 t e rows l else(s,HV t e rows o)::J3 t e rows l:=nr rfl
theorem FW (t:Nat) (e0:TypeId) (rows:List (List PV)) (l:List (Nat×AV)):shW t e0 rows (look l)=look (l.map fun x=>(x.1,EW t e0 rows x.2)):=by funext s;unfold shW;induction l with|nil=>rfl|cons x l ih=>obtain⟨k,v⟩:=x;simp only[List.map_cons,look];split<;>simp_all
theorem DD (t:Nat) (e:TypeId) (rows:List (List PV)) (l:List (Nat×AO)):Ca t e rows (ab l)=ab (J3 t e rows l):=by funext s;unfold Ca;induction l with|nil=>simp[ab]|cons x l ih=>
 obtain⟨k,v⟩:=x;simp only[Ht,ab];by_cases hs:s=t
 ·subst hs;simp only[if_true]at ih ⊢;by_cases hk:k=s;·simp[hk];exact ih
  ·have hk':¬s=k:=fun e=>hk e.symm;simp[hk,ab,hk'];exact ih
 ·simp only[hs,if_false]at ih ⊢;by_cases hk:k=t;·have:¬s=k:=fun e=>hs (e.trans hk);rw[if_pos hk,if_neg this];exact ih
  ·simp only[hk,if_false,ab];by_cases hsk:s=k;·simp[hsk]
   ·simp only[hsk,if_false];exact ih
@[simp] theorem Be (vs:List (Nat×AV)) (os:List (Nat×AO)) (t:Nat):share1 ⟨look vs,ab os⟩ (.own t)=match cM (ab os t) with|some r=>⟨look (vs.map fun x=>(x.1,EW t r.1 r.2 x.2)),ab (J3 t r.1 r.2 os)⟩|none=>⟨look vs,ab os⟩:=by simp only[share1,iM];split<;>simp[*,FW,DD]
@[simp] theorem UB (vs:List (Nat×AV)) (os:List (Nat×AO)) (t:Nat):sg t ⟨look vs,ab os⟩=match cM (ab os t) with|some _=>⟨look (vs.map fun x=>(x.1,kill t x.2)),ab (Ki t os)⟩|none=>⟨look vs,ab os⟩:=by simp only[sg];split<;>simp[*,vD,sq]
@[simp] theorem Sf (st:St) (p:PV):share1 st (.pv p)=st:=nr rfl
@[simp] theorem PC (st:St) (cs:List AV):share1 st (.agg cs)=gi st cs:=nr rfl
@[simp] theorem Mh (st:St):gi st []=st:=nr rfl
@[simp] theorem IK (st:St) (c:AV) (cs:List AV):gi st (c::cs)=gi (iM st c) cs:=nr rfl
@[simp] theorem Pu (vs:List (Nat×AV)) (os:List (Nat×AO)) (t:Nat):iM ⟨look vs,ab os⟩ (.own t)=match cM (ab os t) with|some r=>⟨look (vs.map fun x=>(x.1,EW t r.1 r.2 x.2)),ab (J3 t r.1 r.2 os)⟩|none=>⟨look vs,ab os⟩:=Be vs os t
@[simp] theorem QE (st:St) (p:PV):iM st (.pv p)=st:=nr rfl
@[simp] theorem Ms (st:St) (t o:Nat):share1 st (.ptr t o)=st:=nr rfl
@[simp] theorem Pr (st:St) (f:FuncId) (cs:List AV):share1 st (.bo f cs)=st:=nr rfl
@[simp] theorem I1 (st:St):cz st []=st:=nr rfl
@[simp] theorem HP (st:St) (v:AV) (l:List AV):cz st (v::l)=cz (share1 st v) l:=nr rfl
@[simp] theorem sh2_own (e0:TypeId) (t s:Nat) (rows:List (List PV)):EW t e0 rows (.own s)=if s=t then .pv (.ro rows) else .own s:=nr rfl
@[simp] theorem shC_own (e0:TypeId) (t s:Nat) (rows:List (List PV)):Sy t e0 rows (.own s)=if s=t then .pv (.ro rows) else .own s:=nr rfl
@[simp] theorem sh2_pv (e0:TypeId) (t:Nat) (rows:List (List PV)) (p:PV):EW t e0 rows (.pv p)=.pv p:=nr rfl
@[simp] theorem sh2_ptr (e0:TypeId) (t s o:Nat) (rows:List (List PV)):EW t e0 rows (.ptr s o)=.ptr s o:=nr rfl
@[simp] theorem sh2_agg (e0:TypeId) (t:Nat) (cs:List AV) (rows:List (List PV)):EW t e0 rows (.agg cs)=.agg (rF t e0 rows cs):=nr rfl
@[simp] theorem sh2_clo (e0:TypeId) (t:Nat) (f:FuncId) (cs:List AV) (rows:List (List PV)):EW t e0 rows (.bo f cs)=kill t (.bo f cs):=nr rfl
@[simp] theorem WI (e0:TypeId) (t:Nat) (rows:List (List PV)):EW t e0 rows .au=.au:=nr rfl
@[simp] theorem shCs_nil (t:Nat) (e0:TypeId) (rows:List (List PV)):rF t e0 rows []=[]:=nr rfl
@[simp] theorem TE (t:Nat) (e0:TypeId) (rows:List (List PV)) (c:AV) (cs:List AV):rF t e0 rows (c::cs)=Sy t e0 rows c::rF t e0 rows cs:=nr rfl
@[simp] theorem shC_pv (t:Nat) (e0:TypeId) (rows:List (List PV)) (p:PV):Sy t e0 rows (.pv p)=.pv p:=nr rfl
@[simp] theorem shO_box (t:Nat) (e0:TypeId) (rows:List (List PV)) (cs:List AV):HV t e0 rows (.box cs)=.box (rF t e0 rows cs):=nr rfl
@[simp] theorem shO_arr (t:Nat) (e0:TypeId) (rows:List (List PV)) (e:TypeId) (rs:List (List PV)):HV t e0 rows (.arr e rs)=.arr e rs:=nr rfl
@[simp] theorem shO_map (t:Nat) (e0:TypeId) (rows:List (List PV)) (es):HV t e0 rows (.map es)=.map es:=nr rfl
@[simp] theorem shO_mpv (t:Nat) (e0:TypeId) (rows:List (List PV)) (es):HV t e0 rows (.gY es)=.gY es:=nr rfl
@[simp] theorem frR_pv (p:PV):frR (.pv p)=frC (.pv p):=nr rfl
@[simp] theorem frC_bool (b:Bool):frC (.pv (.bool b))=false:=nr rfl
@[simp] theorem roR_tup (vs:List AV):Y7 (.aJ vs)=Dk vs:=nr rfl
@[simp] theorem roR_pv (p:PV):Y7 (.pv p)=HY (.pv p):=nr rfl
@[simp] theorem roR_fr (e:TypeId) (rows:List (List PV)):Y7 (.fr e rows)=false:=nr rfl
@[simp] theorem Xt:Dk []=false:=nr rfl
@[simp] theorem Tq (c:AV) (cs:List AV):Dk (c::cs)=(Tt c||Dk cs):=nr rfl
@[simp] theorem Xc:DY []=false:=nr rfl
@[simp] theorem QL (c:AV) (cs:List AV):DY (c::cs)=(HY c||DY cs):=nr rfl
@[simp] theorem ro1_agg (cs:List AV):Tt (.agg cs)=DY cs:=nr rfl
@[simp] theorem ro1_pv (p:PV):Tt (.pv p)=HY (.pv p):=nr rfl
@[simp] theorem ro1_fr (e:TypeId) (rows:List (List PV)):Tt (.fr e rows)=false:=nr rfl
@[simp] theorem roC_ro (rows:List (List PV)):HY (.pv (.ro rows))=true:=nr rfl
@[simp] theorem roC_int (k:IntKind) (n:Int):HY (.pv (.int k n))=false:=nr rfl
@[simp] theorem XA (b:Bool):HY (.pv (.bool b))=false:=nr rfl
@[simp] theorem roC_str (l:List UInt8):HY (.pv (.str l))=false:=nr rfl
@[simp] theorem roC_fr (e:TypeId) (rows:List (List PV)):HY (.fr e rows)=false:=nr rfl
@[simp] theorem Nb (aa:Nat→Option AO) (k t:Nat):fp aa k (.own t)=(cM (aa t)).map fun r=>(t,r.1,r.2):=nr rfl
@[simp] theorem markA_1 (e:TypeId) (rows:List (List PV)):wL 998 e rows=.fr e rows:=nr rfl
@[simp] theorem markA_2 (e:TypeId) (rows:List (List PV)):wL 999 e rows=.aJ [.fr e rows]:=nr rfl
@[simp] theorem reisU_0 (aa:Nat→Option AO) (m v:AV) (vs:List AV):qC aa m 0 (v::vs)=(ft aa vs).map (m::·):=nr rfl
@[simp] theorem Uc (v:AV) (vs:List AV):jo 0 (v::vs)=eE vs:=nr rfl
@[simp] theorem outR_clo (n:Nat) (r:AV) (e:TypeId) (rows:List (List PV)):bS (.bo n [r,.fr e rows])=r:=nr rfl
@[simp] theorem outR_fr (e:TypeId) (rows:List (List PV)):bS (.fr e rows)=.fr e rows:=nr rfl
@[simp] theorem outO_clo (n:Nat) (r:AV) (e:TypeId) (rows:List (List PV)):dW (.bo n [r,.fr e rows])=[(999,.arr e rows)]:=nr rfl
@[simp] theorem outO_fr (e:TypeId) (rows:List (List PV)):dW (.fr e rows)=[]:=nr rfl
@[simp] theorem Qr:om []=True:=nr rfl
@[simp] theorem R3 (t n:Nat) (r:AV) (e:TypeId) (rows:List (List PV)) (vars:Nat→AV):gP t (.bo n [r,.fr e rows]) vars=vars:=nr rfl
@[simp] theorem YB (t:Nat) (e:TypeId) (rows:List (List PV)) (vars:Nat→AV):gP t (.fr e rows) vars=cr t vars:=nr rfl
@[simp] theorem RY (t n:Nat) (r:AV) (e:TypeId) (rows:List (List PV)) (aa:Nat→Option AO):cA t (.bo n [r,.fr e rows]) aa=aL t (.arr e rows) aa:=nr rfl
@[simp] theorem Xs (t:Nat) (e:TypeId) (rows:List (List PV)) (aa:Nat→Option AO):cA t (.fr e rows) aa=fJ t aa:=nr rfl
@[simp] theorem offVs_0 (t:Nat) (v:AV) (vs:List AV):lF t 0 (v::vs)=lF.nv t vs:=nr rfl
@[simp] theorem Mr (t:Nat):lF.nv t []=True:=nr rfl
@[simp] theorem KF (t:Nat) (v:AV) (vs:List AV):lF.nv t (v::vs)=(tD t v∧lF.nv t vs):=nr rfl
@[simp] theorem offV_clo (t:Nat) (f:FuncId) (cs:List AV):tD t (.bo f cs)=sN t cs:=nr rfl
@[simp] theorem offV_pv (t:Nat) (p:PV):tD t (.pv p)=True:=nr rfl
@[simp] theorem Yz (t s:Nat):tD t (.own s)=(s≠t):=nr rfl
@[simp] theorem ZQ (t s o:Nat):pr t (.ptr s o)=(s≠t):=nr rfl
@[simp] theorem SF (t:Nat):sN t []=True:=nr rfl
@[simp] theorem O6 (t:Nat) (c:AV) (cs:List AV):sN t (c::cs)=(pr t c∧sN t cs):=nr rfl
@[simp] theorem Zx (aa:Nat→Option AO) (e e1:TypeId) (zs:List Value) (t lo hi:Nat):Bg aa e zs (.sub t e1 lo hi)=(cM (aa t)).bind fun r=>if r.1=e∧e1=e then some (t,.arr e (r.2.take lo++List.replicate (hi-lo) (zs.map rE)++r.2.drop hi)) else none:=nr rfl
attribute[simp] sq Hp G3 DU Bo vD Bh DA jW aM
@[simp] theorem look_nil (s:Nat):look [] s=.au:=nr rfl
@[simp] theorem Qw (t:Nat) (v:AV) (l:List (Nat×AV)) (s:Nat):look ((t,v)::l) s=if s=t then v else look l s:=nr rfl
@[simp] theorem R9 (s:Nat):ab [] s=none:=nr rfl
@[simp] theorem Cc (t:Nat) (v:AO) (l:List (Nat×AO)) (s:Nat):ab ((t,v)::l) s=if s=t then some v else ab l s:=nr rfl
section
variable(vars:Nat→AV) (t:Nat)
@[simp] theorem ev_tmp:ev vars (.tmp t)=vars t:=nr rfl
@[simp] theorem ev_int (k:IntKind) (n:Int):ev vars (.const (.int k n))=.pv (.int k n):=nr rfl
@[simp] theorem ev_bool (b:Bool):ev vars (.const (.bool b))=.pv (.bool b):=nr rfl
@[simp] theorem ev_str (s:ByteArray):ev vars (.const (.string s))=.pv (.str s.data.toList):=nr rfl
@[simp] theorem ev_nil:ev vars (.const (.slice none 0 0))=.pv .nil:=nr rfl
@[simp] theorem ev_func (f:FuncId):ev vars (.func f)=.bo f []:=nr rfl
@[simp] theorem cv_int (k:IntKind) (n:Int):cv (.int k n)=.pv (.int k n):=nr rfl
@[simp] theorem cv_bool (b:Bool):cv (.bool b)=.pv (.bool b):=nr rfl
@[simp] theorem cv_str (s:ByteArray):cv (.string s)=.pv (.str s.data.toList):=nr rfl
@[simp] theorem cv_nil:cv (.slice none 0 0)=.pv .nil:=nr rfl
end
section
@[simp] theorem asks_pv (p:PV):asks (.pv p)=True:=nr rfl
@[simp] theorem XZ (t:Nat):asks (.own t)=True:=nr rfl
@[simp] theorem Uz (t o:Nat):asks (.ptr t o)=True:=nr rfl
@[simp] theorem QI (t:Nat) (e:TypeId) (i:Int) (o:Nat):asks (.aZ t e i o)=True:=nr rfl
@[simp] theorem Zn (t:Nat) (e:TypeId) (i o:Nat):asks (.sub t e i o)=True:=nr rfl
@[simp] theorem asks_rp (cs:List PV):asks (.rp cs)=True:=nr rfl
@[simp] theorem UL (cs:List AV):asks (.agg cs)=True:=nr rfl
@[simp] theorem asks_tup (cs:List AV):asks (.aJ cs)=True:=nr rfl
@[simp] theorem T3 (f:FuncId) (cs:List AV):asks (.bo f cs)=True:=nr rfl
@[simp] theorem QH:asks .au=True:=nr rfl
@[simp] theorem aao (g:Bool) (v:AV):asks (.bY g v)=(g=true∧asks v):=nr rfl
@[simp] theorem Ss:ak []=True:=nr rfl
@[simp] theorem On (v:AV) (l:List AV):ak (v::l)=(asks v∧ak l):=nr rfl
@[simp] theorem V9 (p:PV):strip (.pv p)=.pv p:=nr rfl
@[simp] theorem RA (g:Bool) (v:AV):strip (.bY g v)=strip v:=nr rfl
@[simp] theorem Sl (t:Nat):strip (.own t)=(.own t):=nr rfl
@[simp] theorem Rd (t o:Nat):strip (.ptr t o)=(.ptr t o):=nr rfl
@[simp] theorem OX (t:Nat) (e:TypeId) (i:Int) (o:Nat):strip (.aZ t e i o)=(.aZ t e i o):=nr rfl
@[simp] theorem Rs (t:Nat) (e:TypeId) (i o:Nat):strip (.sub t e i o)=(.sub t e i o):=nr rfl
@[simp] theorem Zc (cs:List PV):strip (.rp cs)=(.rp cs):=nr rfl
@[simp] theorem SU (cs:List AV):strip (.agg cs)=(.agg cs):=nr rfl
@[simp] theorem QA (cs:List AV):strip (.aJ cs)=(.aJ cs):=nr rfl
@[simp] theorem Tf (f:FuncId) (cs:List AV):strip (.bo f cs)=(.bo f cs):=nr rfl
@[simp] theorem MQ:strip .au=.au:=nr rfl
@[simp] theorem Yo (b:Bool):bE (.pv (.bool b)) true=some b:=nr rfl
@[simp] theorem XI (b:Bool):bE (.pv (.bool b)) false=some (!b):=nr rfl
@[simp] theorem Wg (c:Bool) (v:AV) (w:Bool):bE (.bY c v) w=sV c (bE v w):=nr rfl
@[simp] theorem condB_t (o:Option Bool):sV true o=o:=nr rfl
@[simp] theorem condB_f (o:Option Bool):sV false o=some false:=nr rfl
@[simp] theorem condB_s (c b:Bool):sV c (some b)=some (c&&b):=by cases c<;>rfl
@[simp] theorem aaC:eN []=false:=nr rfl
@[simp] theorem Qn (l:List AV):eN (.au::l)=true:=nr rfl
@[simp] theorem TY (v:Value) (l:List AV):eN (.pv (.val v)::l)=true:=nr rfl
@[simp] theorem YI (k:IntKind) (n:Int) (l:List AV):eN (.pv (.int k n)::l)=eN l:=nr rfl
@[simp] theorem Qs (b:Bool) (l:List AV):eN (.pv (.bool b)::l)=eN l:=nr rfl
@[simp] theorem ZR (b:List UInt8) (l:List AV):eN (.pv (.str b)::l)=eN l:=nr rfl
@[simp] theorem hasJ_ro (r:List (List PV)) (l:List AV):eN (.pv (.ro r)::l)=eN l:=nr rfl
@[simp] theorem UN (t:Nat) (l:List AV):eN (.own t::l)=eN l:=nr rfl
@[simp] theorem aaz (t o:Nat) (l:List AV):eN (.ptr t o::l)=eN l:=nr rfl
@[simp] theorem Sm (t:Nat) (e:TypeId) (i:Int) (o:Nat) (l:List AV):eN (.aZ t e i o::l)=eN l:=nr rfl
@[simp] theorem hasJ_rp0 (l:List AV):eN (.rp []::l)=true:=nr rfl
@[simp] theorem hasJ_rp (c:PV) (cs:List PV) (l:List AV):eN (.rp (c::cs)::l)=eN l:=nr rfl
@[simp] theorem Ze (cs:List AV) (l:List AV):eN (.agg cs::l)=eN l:=nr rfl
@[simp] theorem Uu (f:FuncId) (cs:List AV) (l:List AV):eN (.bo f cs::l)=eN l:=nr rfl
@[simp] theorem YC (b:Bool):JX (some b)=!b:=by cases b<;>rfl
end
section
variable(op:BinOp) (k:IntKind) (a b:Int) (x y:List UInt8) (p q:Bool)
@[simp] theorem Xv:dv .add (.int k a) (.int k b)=some (True,.int k (k.wrap (a+b))):=by simp[dv]
@[simp] theorem Wz:dv .sub (.int k a) (.int k b)=some (True,.int k (k.wrap (a-b))):=by simp[dv]
@[simp] theorem VV:dv .mul (.int k a) (.int k b)=some (True,.int k (k.wrap (a*b))):=by simp[dv]
@[simp] theorem sbin_quo:dv .quo (.int k a) (.int k b)=some (b≠0,.int k (k.wrap (a.tdiv b))):=by simp[dv]
@[simp] theorem aaB:dv .rem (.int k a) (.int k b)=some (b≠0,.int k (a.tmod b)):=by simp[dv]
@[simp] theorem ZT:dv .eql (.int k a) (.int k b)=some (True,.bool (decide (a=b))):=by simp[dv]
@[simp] theorem ZY:dv .neq (.int k a) (.int k b)=some (True,.bool (!decide (a=b))):=by simp[dv]
@[simp] theorem Vi:dv .lss (.int k a) (.int k b)=some (True,.bool (decide (a<b))):=by simp[dv]
@[simp] theorem Vy:dv .leq (.int k a) (.int k b)=some (True,.bool (decide (a≤b))):=by simp[dv]
@[simp] theorem WL:dv .gtr (.int k a) (.int k b)=some (True,.bool (decide (b<a))):=by simp[dv]
@[simp] theorem YD:dv .geq (.int k a) (.int k b)=some (True,.bool (decide (b≤a))):=by simp[dv]
@[simp] theorem sbin_and:dv .and (.int k a) (.int k b)=some (True,gb .and k a b):=by simp[dv]
@[simp] theorem sbin_or:dv .or (.int k a) (.int k b)=some (True,gb .or k a b):=by simp[dv]
@[simp] theorem sbin_xor:dv .xor (.int k a) (.int k b)=some (True,gb .xor k a b):=by simp[dv]
@[simp] theorem aaA (k':IntKind):dv .shl (.int k a) (.int k' b)=some (0≤b,.int k (k.wrap (a*2^(min b.toNat k.bits)))):=nr rfl
@[simp] theorem Xd (k':IntKind):dv .shr (.int k a) (.int k' b)=some (0≤b,.int k (a.fdiv (2^(min b.toNat k.bits)))):=nr rfl
@[simp] theorem Tz:dv .eql (.str x) (.str y)=some (True,.bool (decide (x=y))):=nr rfl
@[simp] theorem TI:dv .neq (.str x) (.str y)=some (True,.bool (!decide (x=y))):=nr rfl
@[simp] theorem Q0:dv .lss (.str x) (.str y)=some (True,.bool (Op.bytesLess x y)):=nr rfl
@[simp] theorem Qo:dv .gtr (.str x) (.str y)=some (True,.bool (!(Op.bytesLess x y||decide (x=y)))):=nr rfl
@[simp] theorem Rg:dv .geq (.str x) (.str y)=some (True,.bool (!Op.bytesLess x y)):=nr rfl
end
@[simp↓] theorem YZ {P:Program}{Γ:bJ}{d:Option Nat}{aa:Nat→Option AO}{C:bA→Prop}{xs:List AV}{op:BinOp}:aX P Γ d (.bin op) xs aa C=(ak xs∧ai (aj (.bin op) (xs.map strip) aa) fun x=>x.1∧C (.put x.2)):=rfl
@[simp↓] theorem Wv {P:Program}{Γ:bJ}{d:Option Nat}{aa:Nat→Option AO}{C:bA→Prop}{xs:List AV}{c:Bool}{op:BinOp}:cd P Γ c d (.bin op) xs aa C=ai (aj (.bin op) (xs.map strip) aa) fun x=>(c=true→ak xs∧x.1)∧C (.put (.bY c x.2)):=rfl
@[simp↓] theorem semK_beq {P:Program}{Γ:bJ}{d:Option Nat}{aa:Nat→Option AO}{C:bA→Prop}{xs:List AV}{ne:Bool}:aX P Γ d (.beq ne) xs aa C=(ak xs∧ai (aj (.beq ne) (xs.map strip) aa) fun x=>x.1∧C (.put x.2)):=rfl
@[simp↓] theorem Za {P:Program}{Γ:bJ}{d:Option Nat}{aa:Nat→Option AO}{C:bA→Prop}{xs:List AV}{c:Bool}{ne:Bool}:cd P Γ c d (.beq ne) xs aa C=ai (aj (.beq ne) (xs.map strip) aa) fun x=>(c=true→ak xs∧x.1)∧C (.put (.bY c x.2)):=rfl
@[simp↓] theorem SP {P:Program}{Γ:bJ}{d:Option Nat}{aa:Nat→Option AO}{C:bA→Prop}{xs:List AV}:aX P Γ d .uZ xs aa C=(ak xs∧ai (aj .uZ (xs.map strip) aa) fun x=>x.1∧C (.put x.2)):=rfl
@[simp↓] theorem TQ {P:Program}{Γ:bJ}{d:Option Nat}{aa:Nat→Option AO}{C:bA→Prop}{xs:List AV}{c:Bool}:cd P Γ c d .uZ xs aa C=ai (aj .uZ (xs.map strip) aa) fun x=>(c=true→ak xs∧x.1)∧C (.put (.bY c x.2)):=rfl
@[simp↓] theorem ZO {P:Program}{Γ:bJ}{d:Option Nat}{aa:Nat→Option AO}{C:bA→Prop}{xs:List AV}{ne:Bool}{ks:List Nat}:aX P Γ d (.eqs ne ks) xs aa C=(ak xs∧ai (aj (.eqs ne ks) (xs.map strip) aa) fun x=>x.1∧C (.put x.2)):=rfl
@[simp↓] theorem Uk {P:Program}{Γ:bJ}{d:Option Nat}{aa:Nat→Option AO}{C:bA→Prop}{xs:List AV}{c:Bool}{ne:Bool}{ks:List Nat}:cd P Γ c d (.eqs ne ks) xs aa C=ai (aj (.eqs ne ks) (xs.map strip) aa) fun x=>(c=true→ak xs∧x.1)∧C (.put (.bY c x.2)):=rfl
@[simp↓] theorem aae {P:Program}{Γ:bJ}{d:Option Nat}{aa:Nat→Option AO}{C:bA→Prop}{xs:List AV}{b:Bool}:aX P Γ d (.E4 b) xs aa C=(ak xs∧ai (aj (.E4 b) (xs.map strip) aa) fun x=>x.1∧C (.put x.2)):=rfl
@[simp↓] theorem Xj {P:Program}{Γ:bJ}{d:Option Nat}{aa:Nat→Option AO}{C:bA→Prop}{xs:List AV}{c:Bool}{b:Bool}:cd P Γ c d (.E4 b) xs aa C=ai (aj (.E4 b) (xs.map strip) aa) fun x=>(c=true→ak xs∧x.1)∧C (.put (.bY c x.2)):=rfl
@[simp↓] theorem SO {P:Program}{Γ:bJ}{d:Option Nat}{aa:Nat→Option AO}{C:bA→Prop}{xs:List AV}{e:TypeId}:aX P Γ d (.qw e) xs aa C=(ak xs∧ai (aj (.qw e) (xs.map strip) aa) fun x=>x.1∧C (.put x.2)):=rfl
@[simp↓] theorem SD {P:Program}{Γ:bJ}{d:Option Nat}{aa:Nat→Option AO}{C:bA→Prop}{xs:List AV}{c:Bool}{e:TypeId}:cd P Γ c d (.qw e) xs aa C=ai (aj (.qw e) (xs.map strip) aa) fun x=>(c=true→ak xs∧x.1)∧C (.put (.bY c x.2)):=rfl
@[simp↓] theorem TU {P:Program}{Γ:bJ}{d:Option Nat}{aa:Nat→Option AO}{C:bA→Prop}{xs:List AV}:aX P Γ d (.rH) xs aa C=(ak xs∧ai (aj (.rH) (xs.map strip) aa) fun x=>x.1∧C (.put x.2)):=rfl
@[simp↓] theorem Rm {P:Program}{Γ:bJ}{d:Option Nat}{aa:Nat→Option AO}{C:bA→Prop}{xs:List AV}{c:Bool}:cd P Γ c d (.rH) xs aa C=ai (aj (.rH) (xs.map strip) aa) fun x=>(c=true→ak xs∧x.1)∧C (.put (.bY c x.2)):=rfl
@[simp↓] theorem T6 {P:Program}{Γ:bJ}{d:Option Nat}{aa:Nat→Option AO}{C:bA→Prop}{xs:List AV}:aX P Γ d .CV xs aa C=(ak xs∧ai (aj .CV (xs.map strip) aa) fun x=>x.1∧C (.put x.2)):=rfl
@[simp↓] theorem VI {P:Program}{Γ:bJ}{d:Option Nat}{aa:Nat→Option AO}{C:bA→Prop}{xs:List AV}{c:Bool}:cd P Γ c d .CV xs aa C=ai (aj .CV (xs.map strip) aa) fun x=>(c=true→ak xs∧x.1)∧C (.put (.bY c x.2)):=rfl
@[simp↓] theorem VJ {P:Program}{Γ:bJ}{d:Option Nat}{aa:Nat→Option AO}{C:bA→Prop}{xs:List AV}:aX P Γ d .not xs aa C=(ak xs∧ai (aj .not (xs.map strip) aa) fun x=>x.1∧C (.put x.2)):=rfl
@[simp↓] theorem VK {P:Program}{Γ:bJ}{d:Option Nat}{aa:Nat→Option AO}{C:bA→Prop}{xs:List AV}{c:Bool}:cd P Γ c d .not xs aa C=ai (aj .not (xs.map strip) aa) fun x=>(c=true→ak xs∧x.1)∧C (.put (.bY c x.2)):=rfl
@[simp↓] theorem Wj {P:Program}{Γ:bJ}{d:Option Nat}{aa:Nat→Option AO}{C:bA→Prop}{xs:List AV}:aX P Γ d .neg xs aa C=(ak xs∧ai (aj .neg (xs.map strip) aa) fun x=>x.1∧C (.put x.2)):=rfl
@[simp↓] theorem Y9 {P:Program}{Γ:bJ}{d:Option Nat}{aa:Nat→Option AO}{C:bA→Prop}{xs:List AV}{c:Bool}:cd P Γ c d .neg xs aa C=ai (aj .neg (xs.map strip) aa) fun x=>(c=true→ak xs∧x.1)∧C (.put (.bY c x.2)):=rfl
@[simp↓] theorem Yt {P:Program}{Γ:bJ}{d:Option Nat}{aa:Nat→Option AO}{C:bA→Prop}{xs:List AV}{k:IntKind}:aX P Γ d (.B3 k) xs aa C=(ak xs∧ai (aj (.B3 k) (xs.map strip) aa) fun x=>x.1∧C (.put x.2)):=rfl
@[simp↓] theorem VR {P:Program}{Γ:bJ}{d:Option Nat}{aa:Nat→Option AO}{C:bA→Prop}{xs:List AV}{c:Bool}{k:IntKind}:cd P Γ c d (.B3 k) xs aa C=ai (aj (.B3 k) (xs.map strip) aa) fun x=>(c=true→ak xs∧x.1)∧C (.put (.bY c x.2)):=rfl
@[simp↓] theorem UE {P:Program}{Γ:bJ}{d:Option Nat}{aa:Nat→Option AO}{C:bA→Prop}{xs:List AV}:aX P Γ d .len xs aa C=(ak xs∧ai (aj .len (xs.map strip) aa) fun x=>x.1∧C (.put x.2)):=rfl
@[simp↓] theorem U4 {P:Program}{Γ:bJ}{d:Option Nat}{aa:Nat→Option AO}{C:bA→Prop}{xs:List AV}{c:Bool}:cd P Γ c d .len xs aa C=ai (aj .len (xs.map strip) aa) fun x=>(c=true→ak xs∧x.1)∧C (.put (.bY c x.2)):=rfl
@[simp↓] theorem TL {P:Program}{Γ:bJ}{d:Option Nat}{aa:Nat→Option AO}{C:bA→Prop}{xs:List AV}:aX P Γ d .uS xs aa C=(ak xs∧ai (aj .uS (xs.map strip) aa) fun x=>x.1∧C (.put x.2)):=rfl
@[simp↓] theorem Sz {P:Program}{Γ:bJ}{d:Option Nat}{aa:Nat→Option AO}{C:bA→Prop}{xs:List AV}{c:Bool}:cd P Γ c d .uS xs aa C=ai (aj .uS (xs.map strip) aa) fun x=>(c=true→ak xs∧x.1)∧C (.put (.bY c x.2)):=rfl
@[simp↓] theorem Zm {P:Program}{Γ:bJ}{d:Option Nat}{aa:Nat→Option AO}{C:bA→Prop}{xs:List AV}{a b:Bool}:aX P Γ d (.IQ a b) xs aa C=(ak xs∧ai (aj (.IQ a b) (xs.map strip) aa) fun x=>x.1∧C (.put x.2)):=rfl
@[simp↓] theorem Ub {P:Program}{Γ:bJ}{d:Option Nat}{aa:Nat→Option AO}{C:bA→Prop}{xs:List AV}{c:Bool}{a b:Bool}:cd P Γ c d (.IQ a b) xs aa C=ai (aj (.IQ a b) (xs.map strip) aa) fun x=>(c=true→ak xs∧x.1)∧C (.put (.bY c x.2)):=rfl
@[simp↓] theorem WK {P:Program}{Γ:bJ}{d:Option Nat}{aa:Nat→Option AO}{C:bA→Prop}{xs:List AV}{o:Nat}{n:Option Nat}:aX P Γ d (.FU o n) xs aa C=(ak xs∧ai (aj (.FU o n) (xs.map strip) aa) fun x=>x.1∧C (.put x.2)):=rfl
@[simp↓] theorem Yk {P:Program}{Γ:bJ}{d:Option Nat}{aa:Nat→Option AO}{C:bA→Prop}{xs:List AV}{c:Bool}{o:Nat}{n:Option Nat}:cd P Γ c d (.FU o n) xs aa C=ai (aj (.FU o n) (xs.map strip) aa) fun x=>(c=true→ak xs∧x.1)∧C (.put (.bY c x.2)):=rfl
@[simp↓] theorem YQ {P:Program}{Γ:bJ}{d:Option Nat}{aa:Nat→Option AO}{C:bA→Prop}{xs:List AV}{o:Nat}:aX P Γ d (.rS o) xs aa C=(ak xs∧ai (aj (.rS o) (xs.map strip) aa) fun x=>x.1∧C (.put x.2)):=rfl
@[simp↓] theorem Zq {P:Program}{Γ:bJ}{d:Option Nat}{aa:Nat→Option AO}{C:bA→Prop}{xs:List AV}{c:Bool}{o:Nat}:cd P Γ c d (.rS o) xs aa C=ai (aj (.rS o) (xs.map strip) aa) fun x=>(c=true→ak xs∧x.1)∧C (.put (.bY c x.2)):=rfl
@[simp↓] theorem Sk {P:Program}{Γ:bJ}{d:Option Nat}{aa:Nat→Option AO}{C:bA→Prop}{xs:List AV}{n:Option Nat}:aX P Γ d (.load n) xs aa C=(ak xs∧ai (aj (.load n) (xs.map strip) aa) fun x=>x.1∧C (.put x.2)):=rfl
@[simp↓] theorem TJ {P:Program}{Γ:bJ}{d:Option Nat}{aa:Nat→Option AO}{C:bA→Prop}{xs:List AV}{c:Bool}{n:Option Nat}:cd P Γ c d (.load n) xs aa C=ai (aj (.load n) (xs.map strip) aa) fun x=>(c=true→ak xs∧x.1)∧C (.put (.bY c x.2)):=rfl
@[simp↓] theorem YW {P:Program}{Γ:bJ}{d:Option Nat}{aa:Nat→Option AO}{C:bA→Prop}{xs:List AV}{e:TypeId}{s:Nat}:aX P Γ d (.CB e s) xs aa C=(ak xs∧ai (aj (.CB e s) (xs.map strip) aa) fun x=>x.1∧C (.put x.2)):=rfl
@[simp↓] theorem semK_ixp {P:Program}{Γ:bJ}{d:Option Nat}{aa:Nat→Option AO}{C:bA→Prop}{xs:List AV}{e s:Nat}:aX P Γ d (.E6 e s) xs aa C=(ak xs∧ai (aj (.E6 e s) (xs.map strip) aa) fun x=>x.1∧C (.put x.2)):=rfl
@[simp↓] theorem Wd {P:Program}{Γ:bJ}{d:Option Nat}{aa:Nat→Option AO}{C:bA→Prop}{xs:List AV}:aX P Γ d .Ec xs aa C=(ak xs∧ai (aj .Ec (xs.map strip) aa) fun x=>x.1∧C (.put x.2)):=rfl
@[simp↓] theorem T2 {P:Program}{Γ:bJ}{d:Option Nat}{aa:Nat→Option AO}{C:bA→Prop}{xs:List AV}{c:Bool}{e:TypeId}{s:Nat}:cd P Γ c d (.CB e s) xs aa C=ai (aj (.CB e s) (xs.map strip) aa) fun x=>(c=true→ak xs∧x.1)∧C (.put (.bY c x.2)):=rfl
@[simp↓] theorem semG_ixp {P:Program}{Γ:bJ}{d:Option Nat}{aa:Nat→Option AO}{C:bA→Prop}{xs:List AV}{c:Bool}{e s:Nat}:cd P Γ c d (.E6 e s) xs aa C=ai (aj (.E6 e s) (xs.map strip) aa) fun x=>(c=true→ak xs∧x.1)∧C (.put (.bY c x.2)):=rfl
@[simp↓] theorem Zb {P:Program}{Γ:bJ}{d:Option Nat}{aa:Nat→Option AO}{C:bA→Prop}{xs:List AV}{c:Bool}:cd P Γ c d .Ec xs aa C=ai (aj .Ec (xs.map strip) aa) fun x=>(c=true→ak xs∧x.1)∧C (.put (.bY c x.2)):=rfl
@[simp↓] theorem Vk {P:Program}{Γ:bJ}{d:Option Nat}{aa:Nat→Option AO}{C:bA→Prop}{xs:List AV}{s:Nat}{a b:Bool}:aX P Γ d (.A6 s a b) xs aa C=(ak xs∧ai (aj (.A6 s a b) (xs.map strip) aa) fun x=>x.1∧C (.put x.2)):=rfl
@[simp↓] theorem WW {P:Program}{Γ:bJ}{d:Option Nat}{aa:Nat→Option AO}{C:bA→Prop}{xs:List AV}{c:Bool}{s:Nat}{a b:Bool}:cd P Γ c d (.A6 s a b) xs aa C=ai (aj (.A6 s a b) (xs.map strip) aa) fun x=>(c=true→ak xs∧x.1)∧C (.put (.bY c x.2)):=rfl
@[simp↓] theorem Zw {P:Program}{Γ:bJ}{d:Option Nat}{aa:Nat→Option AO}{C:bA→Prop}{xs:List AV}{i:Nat}:aX P Γ d (.ext i) xs aa C=(ak xs∧ai (aj (.ext i) (xs.map strip) aa) fun x=>x.1∧C (.put x.2)):=rfl
@[simp↓] theorem aaF {P:Program}{Γ:bJ}{d:Option Nat}{aa:Nat→Option AO}{C:bA→Prop}{xs:List AV}{c:Bool}{i:Nat}:cd P Γ c d (.ext i) xs aa C=ai (aj (.ext i) (xs.map strip) aa) fun x=>(c=true→ak xs∧x.1)∧C (.put (.bY c x.2)):=rfl
@[simp↓] theorem semK_bld {P:Program}{Γ:bJ}{d:Option Nat}{aa:Nat→Option AO}{C:bA→Prop}{xs:List AV}{zs:List Value}{ps:List (Nat×Nat)}:aX P Γ d (.H2 zs ps) xs aa C=(ak xs∧ai (aj (.H2 zs ps) (xs.map strip) aa) fun x=>x.1∧C (.put x.2)):=rfl
@[simp↓] theorem semG_bld {P:Program}{Γ:bJ}{d:Option Nat}{aa:Nat→Option AO}{C:bA→Prop}{xs:List AV}{c:Bool}{zs:List Value}{ps:List (Nat×Nat)}:cd P Γ c d (.H2 zs ps) xs aa C=ai (aj (.H2 zs ps) (xs.map strip) aa) fun x=>(c=true→ak xs∧x.1)∧C (.put (.bY c x.2)):=rfl
@[simp↓] theorem Wt {P:Program}{Γ:bJ}{d:Option Nat}{aa:Nat→Option AO}{C:bA→Prop}{xs:List AV}{f:FuncId}:aX P Γ d (.HU f) xs aa C=(ak xs∧ai (aj (.HU f) (xs.map strip) aa) fun x=>x.1∧C (.put x.2)):=rfl
@[simp↓] theorem WA {P:Program}{Γ:bJ}{d:Option Nat}{aa:Nat→Option AO}{C:bA→Prop}{xs:List AV}{c:Bool}{f:FuncId}:cd P Γ c d (.HU f) xs aa C=ai (aj (.HU f) (xs.map strip) aa) fun x=>(c=true→ak xs∧x.1)∧C (.put (.bY c x.2)):=rfl
@[simp↓] theorem RT {P:Program}{Γ:bJ}{d:Option Nat}{aa:Nat→Option AO}{C:bA→Prop}{xs:List AV}{e:TypeId}:aX P Γ d (.gK e) xs aa C=ai d fun d=>ak xs∧ai (ct (.gK e) d (xs.map strip) aa) fun x=>x.1∧aa d=none∧C (.new x.2.1 [(d,x.2.2)]):=rfl
@[simp↓] theorem YE {P:Program}{Γ:bJ}{d:Option Nat}{aa:Nat→Option AO}{C:bA→Prop}{xs:List AV}:aX P Γ d .box xs aa C=ai d fun d=>ak xs∧ai (ct .box d (xs.map strip) aa) fun x=>x.1∧aa d=none∧C (.new x.2.1 [(d,x.2.2)]):=rfl
@[simp↓] theorem Ow {P:Program}{Γ:bJ}{d:Option Nat}{aa:Nat→Option AO}{C:bA→Prop}{xs:List AV}{zs:List Value}:aX P Γ d (.alloc zs) xs aa C=ai d fun d=>ak xs∧ai (ct (.alloc zs) d (xs.map strip) aa) fun x=>x.1∧aa d=none∧C (.new x.2.1 [(d,x.2.2)]):=rfl
@[simp↓] theorem Wc {P:Program}{Γ:bJ}{d:Option Nat}{aa:Nat→Option AO}{C:bA→Prop}{xs:List AV}{e:TypeId}{sz:Nat}:aX P Γ d (.rG e sz) xs aa C=ai d fun d=>ak xs∧ai (ct (.rG e sz) d (xs.map strip) aa) fun x=>x.1∧aa d=none∧C (.new x.2.1 [(d,x.2.2)]):=rfl
@[simp↓] theorem Rf {P:Program}{Γ:bJ}{d:Option Nat}{aa:Nat→Option AO}{C:bA→Prop}{xs:List AV}{c:Bool}{e:TypeId}:cd P Γ c d (.gK e) xs aa C=((c=true→aX P Γ d (.gK e) xs aa C)∧(c=false→C (.put .au))):=rfl
@[simp↓] theorem UW {P:Program}{Γ:bJ}{d:Option Nat}{aa:Nat→Option AO}{C:bA→Prop}{xs:List AV}{c:Bool}:cd P Γ c d .box xs aa C=((c=true→aX P Γ d .box xs aa C)∧(c=false→C (.put .au))):=rfl
@[simp↓] theorem NJ {P:Program}{Γ:bJ}{d:Option Nat}{aa:Nat→Option AO}{C:bA→Prop}{xs:List AV}{c:Bool}{zs:List Value}:cd P Γ c d (.alloc zs) xs aa C=((c=true→aX P Γ d (.alloc zs) xs aa C)∧(c=false→C (.put .au))):=rfl
@[simp↓] theorem Vc {P:Program}{Γ:bJ}{d:Option Nat}{aa:Nat→Option AO}{C:bA→Prop}{xs:List AV}{c:Bool}{e:TypeId}{sz:Nat}:cd P Γ c d (.rG e sz) xs aa C=((c=true→aX P Γ d (.rG e sz) xs aa C)∧(c=false→C (.put (zG xs)))):=rfl
@[simp] theorem aaK (xs:List AV):zG xs=GA (rowsOf (xs.map strip)):=nr rfl
@[simp] theorem Nq (rows:List (List PV)):GA (some rows)=.bY false (.pv (.ro rows)):=nr rfl
@[simp↓] theorem O2 {P:Program}{Γ:bJ}{d:Option Nat}{aa:Nat→Option AO}{C:bA→Prop}{xs:List AV}{c:Bool}{n:Option Nat}:cd P Γ c d (.store n) xs aa C=((c=true→aX P Γ d (.store n) xs aa C)∧(c=false→C (.put .au))):=rfl
@[simp↓] theorem Zi {P:Program}{Γ:bJ}{d:Option Nat}{aa:Nat→Option AO}{C:bA→Prop}{xs:List AV}{c:Bool}{e:TypeId}{z b:Nat}:cd P Γ c d (.app e z b) xs aa C=((c=true→aX P Γ d (.app e z b) xs aa C)∧(c=false→C (.put .au))):=rfl
@[simp↓] theorem semK_mov {P:Program}{Γ:bJ}{d:Option Nat}{aa:Nat→Option AO}{C:bA→Prop}{x:AV}:aX P Γ d .nS [x] aa C=C (.put x):=by simp[aX,ai]
@[simp↓] theorem V8 {P:Program}{Γ:bJ}{c:Bool}{d:Option Nat}{aa:Nat→Option AO}{C:bA→Prop}{x:AV}:cd P Γ c d .nS [x] aa C=C (.put (.bY c x)):=by simp[cd,ai]
@[simp↓] theorem pw {P:Program}{Γ:bJ}{d:Option Nat}{aa:Nat→Option AO}{C:bA→Prop}{xs:List AV}:aX P Γ d .pick xs aa C=ai (tE xs) fun x=>x.1∧C (.put x.2):=rfl
@[simp↓] theorem wj {P:Program}{Γ:bJ}{d:Option Nat}{aa:Nat→Option AO}{C:bA→Prop}{xs:List AV}{c:Bool}:cd P Γ c d .pick xs aa C=ai (tE xs) fun x=>(c=true→x.1)∧C (.put (.bY c x.2)):=rfl
@[simp↓] theorem Nv {P:Program}{Γ:bJ}{d:Option Nat}{aa:Nat→Option AO}{C:bA→Prop}{xs:List AV}{n:Option Nat}:aX P Γ d (.store n) xs aa C=(ak xs∧ai (eB (.store n) (xs.map strip) aa) fun x=>x.1∧C (.vq x.2.1 x.2.2)):=rfl
@[simp↓] theorem IF {P:Program}{Γ:bJ}{d:Option Nat}{aa:Nat→Option AO}{C:bA→Prop}{x:AV}{t:Nat}{e:TypeId}{z b:Nat}:aX P Γ d (.app e z b) [.own t,x] aa C=(ak [.own t,x]∧ai (eB (.app e z b) [.own t,strip x] aa) fun x=>x.1∧C (.app x.2.1 x.2.2)):=rfl
@[simp↓] theorem I0 {P:Program}{Γ:bJ}{d:Option Nat}{aa:Nat→Option AO}{C:bA→Prop}{x:AV}{e:TypeId}{z b:Nat}:aX P Γ d (.app e z b) [.pv .nil,x] aa C=(ak [.pv .nil,x]∧ai d fun d=>ai (ct (.app e z b) d [.pv .nil,strip x] aa) fun x=>x.1∧aa d=none∧C (.new x.2.1 [(d,x.2.2)])):=rfl
@[simp↓] theorem Tj {P:Program}{Γ:bJ}{d:Option Nat}{aa:Nat→Option AO}{C:bA→Prop}{xs:List AV}{f:FuncId}:aX P Γ d (.call f) xs aa C=cx P Γ d f xs aa C:=rfl
@[simp↓] theorem QX {P:Program}{Γ:bJ}{d:Option Nat}{aa:Nat→Option AO}{C:bA→Prop}{xs:List AV}{c:Bool}{f:FuncId}:cd P Γ c d (.call f) xs aa C=ai (ft aa (xs.map strip)) fun ys=>ai (gt Γ f ys) fun x=>if(!nZ x.2&&(AN x.2).isEmpty)=true then(c=true→ak xs∧x.1)∧flat x.2∧AN x.2=[]∧cP x.2=true∧C (.put (.bY c x.2)) else(c=true→cx P Γ d f xs aa C)∧(c=false→C (.put (.bY false (Wf x.2)))):=rfl
@[simp↓] theorem Xq {Γ:bJ}{aa:Nat→Option AO}{C:bA→Prop}{xs:List AV}{c:Bool}{f:FuncId}:Ak Γ c f xs aa C=ai (ft aa (xs.map strip)) fun ys=>ai (gt Γ f ys) fun x=>(c=true→ak xs∧x.1)∧flat x.2∧AN x.2=[]∧cP x.2=true∧C (.put (.bY c x.2)):=rfl
section
variable{aa:Nat→Option AO}
@[simp] theorem Zh (e:TypeId) (rows:List (List PV)):AY (some (.arr e rows))=some (e,rows.length):=nr rfl
@[simp] theorem QK (e e':TypeId) (i:Int) (o:Nat) (rows:List (List PV)):lv e i o (some (.arr e' rows))=if e'=e then some (0≤i∧i<rows.length∧o<(rowAt rows i).length,.pv ((rowAt rows i).getD o (.int .u8 0))) else none:=nr rfl
@[simp] theorem Va (es:List (PV×PV)):cM (some (.gY es))=none:=nr rfl
@[simp] theorem TP (e:TypeId) (rows:List (List PV)):cM (some (.arr e rows))=some (e,rows):=nr rfl
@[simp] theorem Si (cs:List AV):eK (some (.box cs))=some cs:=nr rfl
@[simp] theorem XQ (c:Bool):iW (.pv (.bool c))=some c:=nr rfl
@[simp] theorem Yj (c a b:AV):tE [c,a,b]=(iW (strip c)).bind fun g=>(pC (asks a) (asks b) g (strip a) (strip b)).map fun r=>(asks c∧r.1,r.2):=nr rfl
@[simp] theorem Sq (φ ψ:Prop) (c x y:Bool):pC φ ψ c (.pv (.bool x)) (.pv (.bool y))=some ((c=true→φ)∧(c=false→ψ),.pv (.bool (cond c x y))):=nr rfl
@[simp] theorem SB (φ ψ:Prop) (c x:Bool):pC φ ψ c (.pv (.bool x)) .au=some (c=true∧φ,.pv (.bool x)):=nr rfl
@[simp] theorem Qj (φ ψ:Prop) (c y:Bool):pC φ ψ c .au (.pv (.bool y))=some (c=false∧ψ,.pv (.bool y)):=nr rfl
@[simp] theorem XE (n:Nat) (k:IntKind) (l:Int):bounds n true false [.pv (.int k l)]=some (l,(n:Int)):=nr rfl
@[simp] theorem bounds01 (n:Nat) (k:IntKind) (h:Int):bounds n false true [.pv (.int k h)]=some (0,h):=nr rfl
@[simp] theorem Vh (op:BinOp) (x y:PV):aj (.bin op) [.pv x,.pv y] aa=(dv op x y).map fun r=>(r.1,.pv r.2):=nr rfl
@[simp] theorem Ww (ne x y:Bool):aj (.beq ne) [.pv (.bool x),.pv (.bool y)] aa=some (True,.pv (.bool (if ne then x !=y else x==y))):=nr rfl
@[simp] theorem UY (b:Bool):aj .not [.pv (.bool b)] aa=some (True,.pv (.bool (!b))):=nr rfl
@[simp] theorem Xy (k:IntKind) (n:Int):aj .neg [.pv (.int k n)] aa=some (True,.pv (.int k (k.wrap (0-n)))):=nr rfl
@[simp] theorem Vz (k k':IntKind) (n:Int):aj (.B3 k) [.pv (.int k' n)] aa=some (True,.pv (.int k (k.wrap n))):=nr rfl
@[simp] theorem VN (ne:Bool) (ks:List Nat) (xs ys:List AV):aj (.eqs ne ks) [.agg xs,.agg ys] aa=(eQ xs).bind fun a=>(eQ ys).map fun b=>(a.map dk=ks∧b.map dk=ks,.pv (.bool (if ne then !ja a b else ja a b))):=nr rfl
@[simp] theorem Vv:ja [] []=true:=nr rfl
@[simp] theorem TS (a b:PV) (l m:List PV):ja (a::l) (b::m)=(mm a b&&ja l m):=nr rfl
@[simp] theorem eqP_int (k k':IntKind) (a b:Int):mm (.int k a) (.int k' b)=decide (a=b):=nr rfl
@[simp] theorem eqP_str (a b:List UInt8):mm (.str a) (.str b)=decide (a=b):=nr rfl
@[simp] theorem U6 (a b:Bool):mm (.bool a) (.bool b)=decide (a=b):=nr rfl
@[simp] theorem aav (k:IntKind) (a b:Int):aj (.E4 true) [.pv (.int k a),.pv (.int k b)] aa=some (True,.pv (.int k (max a b))):=by simp[aj]
@[simp] theorem Sd (x:AV):aj .rH [x] aa=(eZ aa x).bind fun rows=>(bytesOf rows).map fun l=>(True,.pv (.str l)):=nr rfl
@[simp] theorem aau (rows:List (List PV)):eZ aa (.pv (.ro rows))=some rows:=nr rfl
@[simp] theorem SQ (t:Nat):eZ aa (.own t)=(cM (aa t)).map (·.2):=nr rfl
@[simp] theorem Iq (l:List UInt8):aj .uZ [.pv (.str l)] aa=some (True,.pv (.int .i64 l.length)):=nr rfl
@[simp] theorem J6:aj .len [.pv .nil] aa=some (True,.pv (.int .i64 0)):=nr rfl
@[simp] theorem Lp (rows:List (List PV)):aj .len [.pv (.ro rows)] aa=some (True,.pv (.int .i64 rows.length)):=nr rfl
@[simp] theorem IU (t:Nat):aj .len [.own t] aa=(AY (aa t)).map fun r=>(True,.pv (.int .i64 r.2)):=nr rfl
@[simp] theorem JO (t:Nat) (e:TypeId) (lo hi:Nat):aj .len [.sub t e lo hi] aa=(cM (aa t)).map fun _=>(True,.pv (.int .i64 ((hi:Int)-(lo:Int)))):=nr rfl
@[simp] theorem TA (l:List UInt8) (k:IntKind) (i:Int):aj .uS [.pv (.str l),.pv (.int k i)] aa=some (0≤i∧i<l.length,.pv (.int .u8 ((l.getD i.toNat 0).toNat:Int))):=nr rfl
@[simp] theorem YN (sz:Nat) (lo hi:Bool) (rows:List (List PV)) (bs:List AV):aj (.A6 sz lo hi) (.pv (.ro rows)::bs) aa=(bounds rows.length lo hi bs).map fun b:Int×Int=>(0≤b.1∧b.1≤b.2∧b.2≤(rows.length:Int)∧(∀r∈rows,r.length=sz),.pv (.ro (cut rows b.1 b.2))):=by unfold aj;rfl
@[simp] theorem Jq (off t o:Nat):aj (.rS off) [.ptr t o] aa=some (True,.ptr t (o+off)):=nr rfl
@[simp] theorem H0 (off t o:Nat) (e:TypeId) (i:Int):aj (.rS off) [.aZ t e i o] aa=some (True,.aZ t e i (o+off)):=nr rfl
@[simp] theorem Mo (off:Nat) (cs:List PV):aj (.rS off) [.rp cs] aa=some (True,.rp (cs.drop off)):=nr rfl
@[simp] theorem Jh (n sz t o:Nat) (k:IntKind) (i:Int):aj (.E6 n sz) [.ptr t o,.pv (.int k i)] aa=some (0≤i∧i<(n:Int),.ptr t (o+i.toNat*sz)):=nr rfl
@[simp] theorem Mj (n sz:Nat) (cs:List PV) (k:IntKind) (i:Int):aj (.E6 n sz) [.rp cs,.pv (.int k i)] aa=some (0≤i∧i<(n:Int),.rp (cs.drop (i.toNat*sz))):=nr rfl
@[simp] theorem JH (t o:Nat):aj .Ec [.ptr t o] aa=some (True,.ptr t o):=nr rfl
@[simp] theorem KX (cs:List PV):aj .Ec [.rp cs] aa=some (True,.rp cs):=nr rfl
@[simp] theorem HS (t o:Nat):aj (.load none) [.ptr t o] aa=(eK (aa t)).bind fun cs=>(cs[o]?).bind fun c=>if lE c=true then some (True,c) else none:=nr rfl
@[simp] theorem U0 (p:PV):lE (.pv p)=true:=nr rfl
@[simp] theorem RS (t:Nat):lE (.own t)=true:=nr rfl
@[simp] theorem Fa (n t o:Nat):aj (.load (some n)) [.ptr t o] aa=(eK (aa t)).bind fun cs=>if o+n≤cs.length then some (True,.agg ((cs.drop o).take n)) else none:=nr rfl
@[simp] theorem FF (t o:Nat) (e:TypeId) (i:Int):aj (.load none) [.aZ t e i o] aa=lv e i o (aa t):=nr rfl
@[simp] theorem E1 (n t o:Nat) (e:TypeId) (i:Int):aj (.load (some n)) [.aZ t e i o] aa=(cM (aa t)).bind fun r=>if r.1=e∧o+n≤(rowAt r.2 i).length then some (0≤i∧i<r.2.length,.agg ((((rowAt r.2 i).drop o).take n).map .pv)) else none:=nr rfl
@[simp] theorem Jo (c:PV) (cs:List PV):aj (.load none) [.rp (c::cs)] aa=some (True,.pv c):=nr rfl
@[simp] theorem H5:aj (.load none) [.rp []] aa=some (False,.pv (.int .u64 0)):=nr rfl
@[simp] theorem H4 (n:Nat) (cs:List PV):aj (.load (some n)) [.rp cs] aa=(if n≤cs.length then some (True,.agg ((cs.take n).map .pv)) else none):=nr rfl
@[simp] theorem KE (e:TypeId) (sz:Nat) (rows:List (List PV)) (k:IntKind) (i:Int):aj (.CB e sz) [.pv (.ro rows),.pv (.int k i)] aa=some (0≤i∧i<rows.length∧(rowAt rows i).length=sz,.rp (rowAt rows i)):=nr rfl
@[simp] theorem Kk (e:TypeId) (sz t:Nat) (k:IntKind) (i:Int):aj (.CB e sz) [.own t,.pv (.int k i)] aa=(AY (aa t)).bind fun r=>if r.1=e then some (0≤i∧i<r.2,.aZ t e i 0) else none:=nr rfl
@[simp] theorem Ip (e e1:TypeId) (sz t lo hi:Nat) (k:IntKind) (i:Int):aj (.CB e sz) [.sub t e1 lo hi,.pv (.int k i)] aa=(cM (aa t)).bind fun r=>if r.1=e∧e1=e then some (0≤i∧i<(hi:Int)-(lo:Int),.aZ t e ((lo:Int)+i) 0) else none:=nr rfl
@[simp] theorem Jr (sz:Nat) (lo hi:Bool) (bs:List AV):aj (.A6 sz lo hi) (.pv .nil::bs) aa=(bounds 0 lo hi bs).map fun b:Int×Int=>(b.1=0∧b.2=0,.pv .nil):=nr rfl
@[simp] theorem Je (sz t:Nat) (lo hi:Bool) (bs:List AV):aj (.A6 sz lo hi) (.own t::bs) aa=(cM (aa t)).bind fun r=>(bounds r.2.length lo hi bs).map fun b:Int×Int=>(0≤b.1∧b.1≤b.2∧b.2≤(r.2.length:Int)∧(∀x∈r.2,x.length=sz),.sub t r.1 b.1.toNat b.2.toNat):=nr rfl
@[simp] theorem semQ_ext (i:Nat) (vs:List AV):aj (.ext i) [.aJ vs] aa=(vs[i]?).map fun v=>(True,v):=nr rfl
@[simp] theorem Vd (zs:List Value) (ps:List (Nat×Nat)) (xs:List AV):aj (.H2 zs ps) xs aa=(km (zs.map cv) ps xs).map fun cs=>(True,.agg cs):=by unfold aj;rfl
@[simp] theorem UK (f:FuncId) (xs:List AV):aj (.HU f) xs aa=some (True,.bo f xs):=by unfold aj;rfl
@[simp] theorem Qx (e:TypeId) (d:Nat) (xs:List AV):ct (.gK e) d xs aa=some (True,.own d,.arr e []):=by unfold ct;rfl
@[simp] theorem XP (d:Nat) (x:AV):ct .box d [x] aa=(if ff (cellsOf x) then some (True,.ptr d 0,.box (cellsOf x)) else none):=nr rfl
@[simp] theorem Nj (d:Nat) (zs:List Value) (xs:List AV):ct (.alloc zs) d xs aa=(if zs.all (·.oneCell') then some (True,.ptr d 0,.box (zs.map cv)) else none):=by unfold ct;rfl
@[simp] theorem aaH (e:TypeId) (sz d:Nat) (xs:List AV):ct (.rG e sz) d xs aa=(rowsOf xs).map fun rows=>(∀r∈rows,r.length=sz,.own d,.arr e rows):=by unfold ct;rfl
@[simp] theorem semF_app (e:TypeId) (sz bytes d:Nat) (x:AV):ct (.app e sz bytes) d [.pv .nil,x] aa=(cG aa x).map fun rows=>(rows.length*bytes≤140737488355328∧rows.length≤maxLen∧(∀r∈rows,r.length=sz),.own d,.arr e rows):=nr rfl
@[simp] theorem HH (t o:Nat) (v:AV):eB (.store none) [.ptr t o,v] aa=(eK (aa t)).bind fun cs=>if ef v∧o<cs.length then some (True,t,.box (cs.set o v)) else none:=nr rfl
@[simp] theorem EY (n t o:Nat) (vs:List AV):eB (.store (some n)) [.ptr t o,.agg vs] aa=(eK (aa t)).bind fun cs=>if ff vs∧vs.length=n∧o+n≤cs.length then some (True,t,.box (bL cs o vs)) else none:=nr rfl
@[simp] theorem E0 (t o:Nat) (e:TypeId) (i:Int) (p:PV):eB (.store none) [.aZ t e i o,.pv p] aa=(cM (aa t)).bind fun r=>if r.1=e∧o<(rowAt r.2 i).length∧ef (.pv p) then some (0≤i∧i<r.2.length,t,.arr e (r.2.set i.toNat ((rowAt r.2 i).set o p))) else none:=nr rfl
@[simp] theorem Dt (n t o:Nat) (e:TypeId) (i:Int) (vs:List AV):eB (.store (some n)) [.aZ t e i o,.agg vs] aa=(cM (aa t)).bind fun r=>(eQ vs).bind fun ps=>if r.1=e∧ff vs∧ps.length=n∧o+n≤(rowAt r.2 i).length then some (0≤i∧i<r.2.length,t,.arr e (r.2.set i.toNat (bL (rowAt r.2 i) o ps))) else none:=nr rfl
@[simp] theorem Xw (e:TypeId) (sz bytes t:Nat) (x:AV):eB (.app e sz bytes) [.own t,x] aa=(cM (aa t)).bind fun r=>(cG aa x).bind fun more=>if r.1=e∧t%1000≠999 then some ((r.2.length+more.length)*bytes≤140737488355328∧r.2.length+more.length≤maxLen∧(∀r∈more,r.length=sz),t,.arr e (r.2++more)) else none:=nr rfl
@[simp] theorem pvOf_pv (p:PV):DF (.pv p)=some p:=nr rfl
@[simp] theorem Rt:eQ []=some []:=nr rfl
@[simp] theorem Pb (v:AV) (l:List AV):eQ (v::l)=(DF v).bind fun p=>(eQ l).map (p::·):=nr rfl
@[simp] theorem Zy (p:PV):rowOf (.pv p)=some [p]:=nr rfl
@[simp] theorem Sa (cs:List AV):rowOf (.agg cs)=eQ cs:=nr rfl
@[simp] theorem Pw:rowsOf []=some []:=nr rfl
@[simp] theorem Mk (v:AV) (l:List AV):rowsOf (v::l)=(rowOf v).bind fun p=>(rowsOf l).map (p::·):=nr rfl
@[simp] theorem K7 (cs:List AV):cellsOf (.agg cs)=cs:=nr rfl
@[simp] theorem OQ (p:PV):cellsOf (.pv p)=[.pv p]:=nr rfl
@[simp] theorem Ks (t:Nat):cellsOf (.own t)=[.own t]:=nr rfl
@[simp] theorem NF (cs:List AV):km cs [] []=some cs:=nr rfl
@[simp] theorem Mf (cs:List AV) (off n:Nat) (ps:List (Nat×Nat)) (x:AV) (xs:List AV):km cs ((off,n)::ps) (x::xs)=if lH x=true∧(cellsOf x).length=n∧off+n≤cs.length then km (lay cs off ((cellsOf x).map pF)) ps xs else none:=nr rfl
@[simp] theorem nrmF_pv (p:PV):pF (.pv p)=.pv p:=nr rfl
@[simp] theorem Ui (t:Nat):pF (.own t)=.own t:=nr rfl
@[simp] theorem ZU (f:FuncId):pF (.bo f [])=.pv (.val (.func (.func f) #[] #[])):=nr rfl
@[simp] theorem RO (rows:List (List PV)):cG aa (.pv (.ro rows))=some rows:=nr rfl
@[simp] theorem NO (l:List UInt8):cG aa (.pv (.str l))=some (bytesRow l):=nr rfl
@[simp] theorem PS (t:Nat):cG aa (.own t)=(cM (aa t)).map (·.2):=nr rfl
@[simp] theorem YX:eA aa (.pv .nil)=some (.ro []):=nr rfl
@[simp] theorem Xz (k:IntKind) (n:Int):eA aa (.pv (.int k n))=some (.int k n):=nr rfl
@[simp] theorem SZ (b:Bool):eA aa (.pv (.bool b))=some (.bool b):=nr rfl
@[simp] theorem Vg (l:List UInt8):eA aa (.pv (.str l))=some (.str l):=nr rfl
@[simp] theorem reiP_ro (rows:List (List PV)):eA aa (.pv (.ro rows))=some (.ro rows):=nr rfl
@[simp] theorem V0 (t:Nat):eA aa (.own t)=Dn (aa t):=nr rfl
@[simp] theorem Ys (e:TypeId) (rows:List (List PV)):Dn (some (.arr e rows))=some (.ro rows):=nr rfl
@[simp] theorem YS (es:List (PV×AV)):Dn (some (.map es))=if es.all (fun e=>Ck e.2)=true then some (.mp (es.map (·.1))) else none:=nr rfl
@[simp] theorem S4:vY (.agg #[])=true:=nr rfl
@[simp] theorem Sx:gO aa []=some []:=nr rfl
@[simp] theorem ME (c:AV) (cs:List AV):gO aa (c::cs)=(eA aa c).bind fun p=>(gO aa cs).map (p::·):=nr rfl
@[simp] theorem Y5 (t o:Nat):eW aa (.ptr t o)=(eK (aa t)).bind fun cs=>(gO aa (cs.drop o)).map .rp:=nr rfl
@[simp] theorem rei1_rp (cs:List PV):eW aa (.rp cs)=some (.rp cs):=nr rfl
@[simp] theorem TK:kP aa []=some []:=nr rfl
@[simp] theorem Qa (c:AV) (cs:List AV):kP aa (c::cs)=(eW aa c).bind fun p=>(kP aa cs).map (p::·):=nr rfl
@[simp] theorem rei_clo (f:FuncId) (caps:List AV):oL aa (.bo f caps)=(kP aa caps).map (.bo f):=nr rfl
@[simp] theorem rei_ptr (t o:Nat):oL aa (.ptr t o)=eW aa (.ptr t o):=nr rfl
@[simp] theorem rei_rp (cs:List PV):oL aa (.rp cs)=some (.rp cs):=nr rfl
@[simp] theorem rei_agg (cs:List AV):oL aa (.agg cs)=(gO aa cs).map fun ps=>.agg (ps.map .pv):=nr rfl
@[simp] theorem rei_pv (p:PV):oL aa (.pv p)=(eA aa (.pv p)).map .pv:=nr rfl
@[simp] theorem rei_own (t:Nat):oL aa (.own t)=(eA aa (.own t)).map .pv:=nr rfl
@[simp] theorem ZJ:ft aa []=some []:=nr rfl
@[simp] theorem QG (c:AV) (cs:List AV):ft aa (c::cs)=(oL aa c).bind fun p=>(ft aa cs).map (p::·):=nr rfl
@[simp] theorem ZG (p:PV):gw (.pv p)=true:=nr rfl
@[simp] theorem Yy (cs:List PV):gw (.rp cs)=true:=nr rfl
@[simp] theorem Q5 (t:Nat):gw (.own t)=false:=nr rfl
@[simp] theorem Tn (t o:Nat):gw (.ptr t o)=false:=nr rfl
@[simp] theorem PK:gF []=true:=nr rfl
@[simp] theorem L6 (c:AV) (cs:List AV):gF (c::cs)=(gw c&&gF cs):=nr rfl
@[simp] theorem RL (cs:List AV):ed (.agg cs)=gF cs:=nr rfl
@[simp] theorem TW (f:FuncId) (cs:List AV):ed (.bo f cs)=gF cs:=nr rfl
@[simp] theorem aas (p:PV):ed (.pv p)=true:=nr rfl
@[simp] theorem WE (cs:List PV):ed (.rp cs)=true:=nr rfl
@[simp] theorem Rx (t:Nat):ed (.own t)=false:=nr rfl
@[simp] theorem QW (t o:Nat):ed (.ptr t o)=false:=nr rfl
@[simp] theorem QQ:eE []=true:=nr rfl
@[simp] theorem OM (c:AV) (cs:List AV):eE (c::cs)=(ed c&&eE cs):=nr rfl
@[simp] theorem one_int (k:IntKind) (n:Int):ef (.pv (.int k n))=true:=nr rfl
@[simp] theorem VP (b:Bool):ef (.pv (.bool b))=true:=nr rfl
@[simp] theorem one_str (l:List UInt8):ef (.pv (.str l))=true:=nr rfl
@[simp] theorem one_nil:ef (.pv .nil)=true:=nr rfl
@[simp] theorem one_ro (rows:List (List PV)):ef (.pv (.ro rows))=true:=nr rfl
@[simp] theorem one_own (t:Nat):ef (.own t)=true:=nr rfl
@[simp] theorem UC:ff []=true:=nr rfl
@[simp] theorem SK (c:AV) (cs:List AV):ff (c::cs)=(ef c&&ff cs):=nr rfl
@[simp] theorem PO (cs:List AV):lH (.agg cs)=true:=nr rfl
@[simp] theorem RM (p:PV):lH (.pv p)=ef (.pv p):=nr rfl
@[simp] theorem P9 (t:Nat):lH (.own t)=true:=nr rfl
@[simp] theorem TT (t s:Nat):bW t (.own s)=if s=t then .au else .own s:=nr rfl
@[simp] theorem killC_pv (t:Nat) (p:PV):bW t (.pv p)=.pv p:=nr rfl
@[simp] theorem Oh (t:Nat):bP t []=[]:=nr rfl
@[simp] theorem Lj (t:Nat) (c:AV) (cs:List AV):bP t (c::cs)=bW t c::bP t cs:=nr rfl
@[simp] theorem kill_agg (t:Nat) (cs:List AV):kill t (.agg cs)=.agg (bP t cs):=nr rfl
@[simp] theorem XY (t s:Nat):kill t (.own s)=if s=t then .au else .own s:=nr rfl
@[simp] theorem pX (t s:Nat) (e:TypeId) (i:Int) (o:Nat):kill t (.aZ s e i o)=if s=t then .au else .aZ s e i o:=nr rfl
@[simp] theorem kill_pv (t:Nat) (p:PV):kill t (.pv p)=.pv p:=nr rfl
@[simp] theorem tA (t s o:Nat):kill t (.ptr s o)=.ptr s o:=nr rfl
@[simp] theorem xW (t:Nat) (cs:List PV):kill t (.rp cs)=.rp cs:=nr rfl
@[simp] theorem RJ (t:Nat):kill t .au=.au:=nr rfl
@[simp] theorem X3 (t:Nat) (f:FuncId) (c:AV) (cs:List AV):kill t (.bo f (c::cs))=.au:=nr rfl
@[simp] theorem Ru (t:Nat) (f:FuncId):kill t (.bo f [])=.bo f []:=nr rfl
@[simp] theorem SA (t:Nat) (cs:List AV):dJ t (.box cs)=.box (bP t cs):=nr rfl
@[simp] theorem RX (t:Nat) (e:TypeId) (rows:List (List PV)):dJ t (.arr e rows)=.arr e rows:=nr rfl
@[simp] theorem QS (g:Nat→AV→AV) (j:Nat):fF g j []=[]:=nr rfl
@[simp] theorem Mz (g:Nat→AV→AV) (j:Nat) (c:AV) (cs:List AV):fF g j (c::cs)=g (1000*j) c::fF g (j+1) cs:=nr rfl
@[simp] theorem aaa (g:Nat→AV→AV) (cs:List AV):mO g (.agg cs)=.agg (fF g 0 cs):=nr rfl
@[simp] theorem map1_pv (g:Nat→AV→AV) (p:PV):mO g (.pv p)=g 0 (.pv p):=nr rfl
@[simp] theorem map1_fr (g:Nat→AV→AV) (e:TypeId) (rows:List (List PV)):mO g (.fr e rows)=g 0 (.fr e rows):=nr rfl
@[simp] theorem TV (g:Nat→AV→AV) (i:Nat):iI g i []=[]:=nr rfl
@[simp] theorem O7 (g:Nat→AV→AV) (i:Nat) (v:AV) (vs:List AV):iI g i (v::vs)=mO (fun p c=>g (p+i) c) v::iI g (i+1) vs:=nr rfl
@[simp] theorem Px (g:Nat→AV→AV) (vs:List AV):cI g (.aJ vs)=.aJ (iI g 0 vs):=nr rfl
@[simp] theorem Qt (g:Nat→AV→AV) (p:PV):cI g (.pv p)=g 0 (.pv p):=nr rfl
@[simp] theorem Q3 (g:Nat→AV→AV) (e:TypeId) (rows:List (List PV)):cI g (.fr e rows)=g 0 (.fr e rows):=nr rfl
@[simp] theorem Og (g:Nat→AV→AV) (cs:List AV):cI g (.agg cs)=.agg (fF g 0 cs):=nr rfl
@[simp] theorem tagC_fr (d p:Nat) (e:TypeId) (rows:List (List PV)):kW d p (.fr e rows)=.own (d+1000*p):=nr rfl
@[simp] theorem tagC_pv (d p:Nat) (q:PV):kW d p (.pv q)=.pv q:=nr rfl
@[simp 1100] theorem Ut (d p:Nat) (o:AO) (l:List (Nat×AO)):List.map (fun x:Nat×AO=>(d+1000*x.1,x.2)) ((p,o)::l)=(d+1000*p,o)::List.map (fun x:Nat×AO=>(d+1000*x.1,x.2)) l:=nr rfl
@[simp] theorem Ra (j:Nat):fK j []=[]:=nr rfl
@[simp] theorem frsCs_fr (j:Nat) (e:TypeId) (rows:List (List PV)) (cs:List AV):fK j (.fr e rows::cs)=(1000*j,.arr e rows)::fK (j+1) cs:=nr rfl
@[simp] theorem U9 (j:Nat) (p:PV) (cs:List AV):fK j (.pv p::cs)=fK (j+1) cs:=nr rfl
@[simp] theorem UU (cs:List AV):lg (.agg cs)=fK 0 cs:=nr rfl
@[simp] theorem frs1_fr (e:TypeId) (rows:List (List PV)):lg (.fr e rows)=[(0,.arr e rows)]:=nr rfl
@[simp] theorem frs1_pv (p:PV):lg (.pv p)=[]:=nr rfl
@[simp] theorem SW (i:Nat):lP i []=[]:=nr rfl
@[simp] theorem PQ (i:Nat) (v:AV) (vs:List AV):lP i (v::vs)=(lg v).map (fun x=>(x.1+i,x.2))++lP (i+1) vs:=nr rfl
@[simp] theorem resC_pv (p:PV):iA (.pv p)=true:=nr rfl
@[simp] theorem resC_fr (e:TypeId) (rows:List (List PV)):iA (.fr e rows)=true:=nr rfl
@[simp] theorem QJ:lD []=true:=nr rfl
@[simp] theorem Ov (c:AV) (cs:List AV):lD (c::cs)=(iA c&&lD cs):=nr rfl
@[simp] theorem Vj (cs:List AV):lZ (.agg cs)=lD cs:=nr rfl
@[simp] theorem res1_pv (p:PV):lZ (.pv p)=true:=nr rfl
@[simp] theorem res1_fr (e:TypeId) (rows:List (List PV)):lZ (.fr e rows)=true:=nr rfl
@[simp] theorem QN:qM []=true:=nr rfl
@[simp] theorem OE (c:AV) (cs:List AV):qM (c::cs)=(lZ c&&qM cs):=nr rfl
@[simp] theorem Qu (vs:List AV):cP (.aJ vs)=(decide (vs.length≤900)&&qM vs):=nr rfl
@[simp] theorem QD (cs:List AV):cP (.agg cs)=lD cs:=nr rfl
@[simp] theorem aac (p:PV):cP (.pv p)=true:=nr rfl
@[simp] theorem X6 (e:TypeId) (rows:List (List PV)):cP (.fr e rows)=true:=nr rfl
@[simp] theorem frs_tup (vs:List AV):AN (.aJ vs)=lP 0 vs:=nr rfl
@[simp] theorem frs_agg (cs:List AV):AN (.agg cs)=fK 0 cs:=nr rfl
@[simp] theorem frs_fr (e:TypeId) (rows:List (List PV)):AN (.fr e rows)=[(0,.arr e rows)]:=nr rfl
@[simp] theorem frs_pv (p:PV):AN (.pv p)=[]:=nr rfl
@[simp] theorem RW (k:IntKind) (n:Int):gR (.int k n)=true:=nr rfl
@[simp] theorem Ps (b:Bool):gR (.bool b)=true:=nr rfl
@[simp] theorem Tl (l:List UInt8):gR (.str l)=true:=nr rfl
@[simp] theorem Xb (rows:List (List PV)):gR (.ro rows)=rows.isEmpty:=nr rfl
@[simp] theorem Wn (p:PV):mY (.pv p)=(gR p=true):=nr rfl
@[simp] theorem Zs (e:TypeId) (rows:List (List PV)):mY (.fr e rows)=bz rows:=nr rfl
@[simp] theorem Rl:oU []=True:=nr rfl
@[simp] theorem Qe (c:AV) (cs:List AV):oU (c::cs)=(mY c∧oU cs):=nr rfl
@[simp] theorem Rp (cs:List AV):kE (.agg cs)=oU cs:=nr rfl
@[simp] theorem WU (p:PV):kE (.pv p)=(gR p=true):=nr rfl
@[simp] theorem Zv (e:TypeId) (rows:List (List PV)):kE (.fr e rows)=bz rows:=nr rfl
@[simp] theorem Q8:rC []=True:=nr rfl
@[simp] theorem P7 (c:AV) (cs:List AV):rC (c::cs)=(kE c∧rC cs):=nr rfl
@[simp] theorem flat_tup (vs:List AV):flat (.aJ vs)=rC vs:=nr rfl
@[simp] theorem flat_agg (cs:List AV):flat (.agg cs)=oU cs:=nr rfl
@[simp] theorem flat_pv (p:PV):flat (.pv p)=(gR p=true):=nr rfl
@[simp] theorem flat_fr (e:TypeId) (rows:List (List PV)):flat (.fr e rows)=bz rows:=nr rfl
end
@[simp] theorem noM_clo (un:List Nat) (aa:Nat→Option AO) (f:FuncId) (cs:List AV):qO un aa (.bo f cs)=kL un aa cs:=nr rfl
@[simp] theorem noM_pv (un:List Nat) (aa:Nat→Option AO) (p:PV):qO un aa (.pv p)=True:=nr rfl
@[simp] theorem noM_rp (un:List Nat) (aa:Nat→Option AO) (cs:List PV):qO un aa (.rp cs)=True:=nr rfl
@[simp] theorem Uh (un:List Nat) (aa:Nat→Option AO):qO un aa .au=True:=nr rfl
@[simp] theorem noM_tup (un:List Nat) (aa:Nat→Option AO) (cs:List AV):qO un aa (.aJ cs)=True:=nr rfl
@[simp] theorem noM_agg (un:List Nat) (aa:Nat→Option AO) (cs:List AV):qO un aa (.agg cs)=gL un cs:=nr rfl
@[simp] theorem noM_own (un:List Nat) (aa:Nat→Option AO) (t:Nat):qO un aa (.own t)=jy un t:=nr rfl
@[simp] theorem XX (un:List Nat) (aa:Nat→Option AO) (t:Nat) (e:TypeId) (i:Int) (o:Nat):qO un aa (.aZ t e i o)=jy un t:=nr rfl
@[simp] theorem Df (un:List Nat) (aa:Nat→Option AO) (t:Nat) (e:TypeId) (i o:Nat):qO un aa (.sub t e i o)=jy un t:=nr rfl
@[simp] theorem noM_ptr (un:List Nat) (aa:Nat→Option AO) (t o:Nat):qO un aa (.ptr t o)=(jy un t∧gL un ((eK (aa t)).getD [])):=nr rfl
@[simp] theorem noMP_rp (un:List Nat) (aa:Nat→Option AO) (cs:List PV):nu un aa (.rp cs)=True:=nr rfl
@[simp] theorem sG (un:List Nat) (aa:Nat→Option AO) (t:Nat) (e:TypeId) (i o:Nat):nu un aa (.sub t e i o)=jy un t:=nr rfl
@[simp] theorem V1 (un:List Nat) (aa:Nat→Option AO) (t o:Nat):nu un aa (.ptr t o)=(jy un t∧gL un ((eK (aa t)).getD [])):=nr rfl
@[simp] theorem Tc (un:List Nat) (aa:Nat→Option AO):kL un aa []=True:=nr rfl
@[simp] theorem MT (un:List Nat) (aa:Nat→Option AO) (c:AV) (cs:List AV):kL un aa (c::cs)=(nu un aa c∧kL un aa cs):=nr rfl
@[simp] theorem ZD (un:List Nat) (aa:Nat→Option AO):jE un aa []=True:=nr rfl
@[simp] theorem QM (un:List Nat) (aa:Nat→Option AO) (c:AV) (cs:List AV):jE un aa (c::cs)=(qO un aa c∧jE un aa cs):=nr rfl
attribute[simp] lay bL jy uO gL
end Go.Proofs.YtlicclncicbajaaGreat.Ab.R
namespace Go.Proofs.YtlicclncicbajaaGreat.Ab
open Go Go.RowKit
theorem bH (a:Addr) (n:Nat):(a.add n).block=a.block:=by unfold Addr.add;split<;>rfl
theorem fD (a:Addr) (i j:Nat):(a.add i).add j=a.add (i+j):=by unfold Addr.add;by_cases hi:i=0<;>by_cases hj:j=0<;>simp[hi,hj,Nat.add_assoc]
section
variable{P:Program}{S S':Nat→Prop}{w w':World}{β β':Nat→Value}{D D':Nat→Prop}
theorem vt {ad:Addr} (h:w'.heap[ad.block]?=w.heap[ad.block]?) (n:Nat):w'.cell? (ad.add n)=w.cell? (ad.add n):=World.cell?_of_block (by rw[bH];exact h)
def tT (w w':World) (b:Nat):Prop:=(∀ad:Addr,ad.block=b→w'.cell? ad=w.cell? ad)∧∀(us:Array MapEntry) (c:Nat),w.heap[b]?=some (.map us c)→w'.heap[b]?=some (.map us c)
theorem tT.of {b:Nat} (h:w'.heap[b]?=w.heap[b]?):tT w w' b:=⟨fun ad e=>World.cell?_of_block (by rw[e];exact h),fun us c hm=>h.trans hm⟩
theorem cZ.gD {v:Value}{p:PV} (h:cZ S w v p) (hS:∀b,S b→S' b∧tT w w' b):cZ S' w' v p:=by induction h with|int k n=>exact .int k n|bool b=>exact .bool b|str l=>exact .str l|nil=>exact .nil|val v h=>exact .val v h|mp b us c ks h1 h2 h3 h4=>exact .mp b us c ks (hS _ h1).1 ((hS _ h1).2.2 _ _ h2) h3 h4|mv b us c es h1 h2 h3 h4 h5 h6 ih=>exact .mv b us c es (hS _ h1).1 ((hS _ h1).2.2 _ _ h2) h3 h4 h5 ih|pt ad cs us h1 h2 h3 h4 ih=>exact .pt ad cs us (hS _ h1).1 (fun j hj=>((hS _ h1).2.1 _ (bH _ _)).trans (h2 j hj)) h3 ih|wP A c=>exact .wP A c|ro ad c rows sz us h1 h2 h3 h4 h5 h6 ih=>exact .ro ad c rows sz us (hS _ h1).1 h2 h3 (fun i j hi hj=>((hS _ h1).2.1 _ (bH _ _)).trans (h4 i j hi hj)) h5 ih
theorem RV.gD {v:Value}{x:AV} (h:RV P S w β D v x) (hS:∀b,S b→S' b∧tT w w' b) (hD:∀t,D t→D' t∧β' t=β t):RV P S' w' β' D' v x:=by induction h with|pv v p h=>exact .pv v p (h.gD hS)|own t h=>rw[←(hD t h).2];exact .own t (hD t h).1|ptr t o b h hb=>exact .ptr t o b (hD t h).1 ((hD t h).2.trans hb)|aZ t e i o b n c inf h hi hb=>exact .aZ t e i o b n c inf (hD t h).1 hi ((hD t h).2.trans hb)|sub v t e lo hi inf A A1 n c h hi' hb h1 h2 h3 h4 h5 hv=>exact .sub v t e lo hi inf A A1 n c (hD t h).1 hi' ((hD t h).2.trans hb) h1 h2 h3 h4 h5 hv|rp ad cs us h1 h2 h3 h4=>exact .rp ad cs us (hS _ h1).1 (fun j hj=>((hS _ h1).2.1 _ (bH _ _)).trans (h2 j hj)) h3 (fun j p hp=>(h4 j p hp).gD hS)|agg cs us hl h ih=>exact .agg cs us hl ih|aJ cs us hl h ih=>exact .aJ cs us hl ih|bo f cs us hl h ih=>exact .bo f cs us hl ih|bY g v av h hu ih=>exact .bY g v av ih hu|au v=>exact .au v
theorem cZ.mono {v:Value}{p:PV} (h:cZ S w v p) (hS:∀b,S b→S' b∧w'.heap[b]?=w.heap[b]?):cZ S' w' v p:=h.gD fun b hb=>⟨(hS b hb).1,.of (hS b hb).2⟩
theorem RV.mono {v:Value}{x:AV} (h:RV P S w β D v x) (hS:∀b,S b→S' b∧w'.heap[b]?=w.heap[b]?) (hD:∀t,D t→D' t∧β' t=β t):RV P S' w' β' D' v x:=h.gD (fun b hb=>⟨(hS b hb).1,.of (hS b hb).2⟩) hD
theorem RV.strip {v:Value}{x:AV} (h:RV P S w β D v x) (ha:asks x):RV P S w β D v (strip x):=by induction h with|bY g v av h hu ih=>exact ih ha.1 ha.2|pv v p h=>exact .pv v p h|own t h=>exact .own t h|ptr t o b h hb=>exact .ptr t o b h hb|aZ t e i o b n c inf h hi hb=>exact .aZ t e i o b n c inf h hi hb|sub v t e lo hi inf A A1 n c h hi' hb h1 h2 h3 h4 h5 hv=>exact .sub v t e lo hi inf A A1 n c h hi' hb h1 h2 h3 h4 h5 hv|rp ad cs us h1 h2 h3 h4=>exact .rp ad cs us h1 h2 h3 h4|agg cs us hl h _=>exact .agg cs us hl h|aJ cs us hl h _=>exact .aJ cs us hl h|bo f cs us hl h _=>exact .bo f cs us hl h|au v=>exact .au v
theorem bj.gD {t:Nat}{o:AO} (h:bj P S w β D t o) (hS:∀b,S b→S' b∧tT w w' b) (hD:∀t,D t→D' t∧β' t=β t) (ht:β' t=β t) (hb:∀b,b9 (β t)=some b→w'.heap[b]?=w.heap[b]?):bj P S' w' β' D' t o:=by cases o with
 |box cs=>obtain⟨b,us,ty,hp,hh,hl,hc⟩:=h;exact⟨b,us,ty,ht.trans hp,(hb b (by rw[hp];rfl)).trans hh,hl,fun i c u h1 h2=>⟨(hc i c u h1 h2).1,(hc i c u h1 h2).2.gD hS hD⟩⟩|arr e rows=>
  obtain⟨inf,us,hi,hown,hr,hc⟩:=h;refine⟨inf,us,hi,?_,hr,fun i j r p h1 h2=>?_⟩
  ·rw[ht];refine⟨hown.1,?_⟩;rcases hown.2 with h0|⟨g,cap,cur,hv,h1,h2,h3,h4,h5,h6⟩;·exact .inl h0
   ·exact .inr ⟨g,cap,cur,hv,h1,(hb g (by rw[hv];rfl)).trans h2,h3,h4,h5,h6⟩
  ·obtain⟨u,h3,h4,h5⟩:=hc i j r p h1 h2;exact⟨u,h3,h4,h5.gD hS⟩|map es=>obtain⟨b,us,c,hp,hh,hl,hc⟩:=h;exact⟨b,us,c,ht.trans hp,(hb b (by rw[hp];rfl)).trans hh,hl,fun i e u h1 h2=>⟨(hc i e u h1 h2).1,(hc i e u h1 h2).2.gD hS fun _ hf=>hf.elim⟩⟩|rws e cs=>
  obtain⟨inf,us,hi,h1s,hown,hc⟩:=h;refine⟨inf,us,hi,h1s,?_,fun i c u h1 h2=>⟨(hc i c u h1 h2).1,(hc i c u h1 h2).2.gD hS hD⟩⟩;rw[ht];refine⟨hown.1,?_⟩;rcases hown.2 with h0|⟨g,cap,cur,hv,h1,h2,h3,h4,h5,h6⟩;·exact .inl h0
  ·exact .inr ⟨g,cap,cur,hv,h1,(hb g (by rw[hv];rfl)).trans h2,h3,h4,h5,h6⟩|gY es=>obtain⟨b,us,c,hp,hh,hst,hl,hc⟩:=h;exact⟨b,us,c,ht.trans hp,(hb b (by rw[hp];rfl)).trans hh,hst,hl,fun i e u h1 h2=>⟨(hc i e u h1 h2).1,(hc i e u h1 h2).2.1,(hc i e u h1 h2).2.2.1,(hc i e u h1 h2).2.2.2.gD hS⟩⟩|nk rem cur=>
  obtain⟨r,m,us,c,seen,hp,hh,hm,hmm,hst,hl,hc,hcur⟩:=h;refine⟨r,m,us,c,seen,ht.trans hp,(hb r (by rw[hp];rfl)).trans hh,(hS m hm).1,?_,hst,hl,fun i e u h1 h2=>⟨(hc i e u h1 h2).1,(hc i e u h1 h2).2.1,(hc i e u h1 h2).2.2.1,(hc i e u h1 h2).2.2.2.gD hS⟩,fun e he=>?_⟩;·have:=(hS m hm).2.2 us c hmm;first|exact this.trans hmm|exact this
  ·obtain⟨u,s',h1,h2,h3,h4,h5,h6⟩:=hcur e he;exact⟨u,s',h1,h2,h3,h4,h5,h6.gD hS⟩
theorem bj.mono {t:Nat}{o:AO} (h:bj P S w β D t o) (hS:∀b,S b→S' b∧w'.heap[b]?=w.heap[b]?) (hD:∀t,D t→D' t∧β' t=β t) (ht:β' t=β t) (hb:∀b,b9 (β t)=some b→w'.heap[b]?=w.heap[b]?):bj P S' w' β' D' t o:=h.gD (fun b hb=>⟨(hS b hb).1,.of (hS b hb).2⟩) hD ht hb
end
section
variable{P:Program}{S0 L:Nat→Prop}{B0:Nat→Value}{w0 w w':World}{N:Nat}{st:St}{a:Act}{β:Nat→Value}
theorem zy (l:Array Value) (d s:Nat) (r:Value) (hd:d<l.size):(l.setIfInBounds d r).getD s undef=if s=d then r else l.getD s undef:=by
 by_cases h:s=d;·subst h;simp[Array.getD_eq_getD_getElem?,Array.getElem?_setIfInBounds_self_of_lt hd]
 ·simp[Array.getD_eq_getD_getElem?,Array.getElem?_setIfInBounds_ne (fun e=>h e.symm),h]
theorem Rel.put (h:Rel P S0 L B0 w0 N st a w β) {d:Option Nat}{r:Value}{v:AV} (hd:∀s,d=some s→s<N) (hr:RV P (aS S0 w0.heap.size β st.aa w) w β (ay st.aa) r v):Rel P S0 L B0 w0 N ⟨put d v st.vars,st.aa⟩ (a.put d r) w β:=by cases d with|none=>exact⟨h.size,h.defers,h.vars,h.heap,h.old,h.pY,h.uI,h.bK⟩|some d=>
 have hd':d<a.tmps.size:=by rw[h.size];exact hd d rfl
 refine⟨by simp[Act.put,h.size],h.defers,fun s=>?_,h.heap,h.old,h.pY,h.uI,h.bK⟩;simp only[Act.put,Ab.put];rw[zy _ _ _ _ hd'];split;·exact hr
 ·exact h.vars s
theorem Rel.cq (h:Rel P S0 L B0 w0 N st a w β) {vars:Nat→AV} (hv:∀s,vars s=st.vars s∨vars s=.au):Rel P S0 L B0 w0 N ⟨vars,st.aa⟩ a w β:=⟨h.size,h.defers,fun s=>by
 rcases hv s with e|e;·rw[show(St.mk vars st.aa).vars s=vars s from rfl,e];exact h.vars s
 ·rw[show(St.mk vars st.aa).vars s=vars s from rfl,e];exact .au _,h.heap,h.old,h.pY,h.uI,h.bK⟩
structure Same (w w':World):Prop where
 heap:w'.heap=w.heap
 os:w'.os=w.os
 tape:w'.tape=w.tape
 output:w'.output=w.output
theorem FZ {S0:Nat→Prop}{n0:Nat}{aa:Nat→Option AO} (hw:w'.heap=w.heap):aS S0 n0 β aa w'=aS S0 n0 β aa w:=by funext b;simp[aS,hw]
theorem Rel.same (h:Rel P S0 L B0 w0 N st a w β) (hw:Same w w'):Rel P S0 L B0 w0 N st a w' β:=by have hm:∀b,aS S0 w0.heap.size β st.aa w b→aS S0 w0.heap.size β st.aa w' b∧w'.heap[b]?=w.heap[b]?:=fun b hb=>⟨by rw[FZ hw.heap];exact hb,by rw[hw.heap]⟩;have hD:∀t,ay st.aa t→ay st.aa t∧β t=β t:=fun t ht=>⟨ht,rfl⟩;exact⟨h.size,h.defers,fun s=>(h.vars s).mono hm hD,⟨fun t o ho=>(h.heap.holds t o ho).mono hm hD rfl (fun b _=>by rw[hw.heap]),h.heap.inj⟩,h.old,h.pY,h.uI,⟨hw.os.trans h.bK.os,hw.tape.trans h.bK.tape,hw.output.trans h.bK.output,by rw[hw.heap];exact h.bK.size,fun b h1 h2=>by rw[hw.heap];exact h.bK.block b h1 h2⟩⟩
theorem Rel.drew (h:Rel P S0 L B0 w0 N st a w β):Rel P S0 L B0 w0 N st a w.drew β:=h.same ⟨rfl,rfl,rfl,rfl⟩
theorem bj.lt {S:Nat→Prop}{D:Nat→Prop}{t:Nat}{o:AO} (h:bj P S w β D t o):∀b,b9 (β t)=some b→b<w.heap.size:=by intro b hb;cases o with
 |box cs=>obtain⟨b',us,ty,hp,hh,_⟩:=h;rw[hp]at hb;simp[b9]at hb;subst hb;exact(Array.getElem?_eq_some_iff.1 hh).1|arr e rows=>
  obtain⟨inf,us,hi,hown,_⟩:=h;rcases hown.2 with⟨h0,_⟩|⟨g,cap,cur,hv,h1,h2,_⟩;·rw[h0]at hb;simp[b9]at hb
  ·rw[hv]at hb;simp[b9]at hb;subst hb;exact(Array.getElem?_eq_some_iff.1 h2).1|map es=>obtain⟨b',us,c,hp,hh,_⟩:=h;rw[hp]at hb;simp[b9]at hb;subst hb;exact(Array.getElem?_eq_some_iff.1 hh).1|rws e cs=>
  obtain⟨inf,us,hi,_,hown,_⟩:=h;rcases hown.2 with⟨h0,_⟩|⟨g,cap,cur,hv,h1,h2,_⟩;·rw[h0]at hb;simp[b9]at hb
  ·rw[hv]at hb;simp[b9]at hb;subst hb;exact(Array.getElem?_eq_some_iff.1 h2).1|gY es=>obtain⟨b',us,c,hp,hh,_⟩:=h;rw[hp]at hb;simp[b9]at hb;subst hb;exact(Array.getElem?_eq_some_iff.1 hh).1|nk rem cur=>obtain⟨r,m,us,c,seen,hp,hh,_⟩:=h;rw[hp]at hb;simp[b9]at hb;subst hb;exact(Array.getElem?_eq_some_iff.1 hh).1
theorem Rel.lt (h:Rel P S0 L B0 w0 N st a w β) {t:Nat} (ht:ay st.aa t) {b:Nat} (hb:b9 (β t)=some b):b<w.heap.size:=by obtain⟨o,ho⟩:=ht;exact(h.heap.holds t o ho).lt b hb
def eh (β:Nat→Value) (t:Nat) (v:Value):Nat→Value:=fun s=>if s=t then v else β s
theorem aT (β:Nat→Value) (t:Nat) (v:Value):eh β t v t=v:=by simp[eh]
theorem cy (β:Nat→Value) {t s:Nat} (v:Value) (h:s≠t):eh β t v s=β s:=by simp[eh,h]
theorem bF {t s:Nat}{o:AO}{aa:Nat→Option AO}:ay (aL t o aa) s↔s=t∨ay aa s:=by
 unfold ay aL;by_cases h:s=t;·simp[h]
 ·simp[h]
theorem Rel.fresh (h:Rel P S0 L B0 w0 N st a w β) {t:Nat} (htN:t<N) (ht:st.aa t=none) (hg:w.grownBy w' none) {v:Value} (hv:∀b,b9 v=some b→w.heap.size≤b) {o:AO} (ho:bj P (aS S0 w0.heap.size (eh β t v) (aL t o st.aa) w') w' (eh β t v) (ay (aL t o st.aa)) t o):Rel P S0 L B0 w0 N ⟨st.vars,aL t o st.aa⟩ a w' (eh β t v):=by
 have hne:∀s,ay st.aa s→s≠t:=fun s ⟨o',ho'⟩ e=>by subst e;rw[ht]at ho';cases ho'
 have hsame:∀b,b<w.heap.size→w'.heap[b]?=w.heap[b]?:=fun b hb=>hg.block b hb (by simp);have hm:∀b,aS S0 w0.heap.size β st.aa w b→aS S0 w0.heap.size (eh β t v) (aL t o st.aa) w' b∧w'.heap[b]?=w.heap[b]?:=by
  intro b hb;obtain⟨h1,h2,h3⟩:=hb;refine⟨⟨h1,Nat.lt_of_lt_of_le h2 hg.size,?_⟩,hsame b h2⟩;rintro⟨s,o',hs,hbs⟩;by_cases e:s=t;·subst e;rw[aT]at hbs;have:=hv b hbs;omega
  ·rw[cy _ _ e]at hbs;exact h3 ⟨s,o',by simpa[aL,e]using hs,hbs⟩
 have hD:∀s,ay st.aa s→ay (aL t o st.aa) s∧eh β t v s=β s:=fun s hs=>⟨bF.2 (.inr hs),cy _ _ (hne s hs)⟩;refine⟨h.size,h.defers,fun s=>(h.vars s).mono hm hD,⟨fun s o' hs=>?_,?_⟩,?_,h.pY,fun s h9 hs=>?_,?_⟩
 ·by_cases e:s=t
  ·subst e;have:o'=o:=by simpa[aL]using hs.symm
   subst this;exact ho
  ·have hs':st.aa s=some o':=by simpa[aL,e]using hs
   exact(h.heap.holds s o' hs').mono hm hD (cy _ _ e) (fun b hb=>hsame b (h.lt ⟨o',hs'⟩ hb))
 ·intro s s' b hs hs' hb hb';by_cases e:s=t<;>by_cases e':s'=t;·rw[e,e']
  ·subst e;rw[aT]at hb;rw[cy _ _ e']at hb';have:=h.lt ((bF.1 hs').resolve_left e') hb';have:=hv b hb;omega
  ·subst e';rw[aT]at hb';rw[cy _ _ e]at hb;have:=h.lt ((bF.1 hs).resolve_left e) hb;have:=hv b hb';omega
  ·rw[cy _ _ e]at hb;rw[cy _ _ e']at hb';exact h.heap.inj s s' b ((bF.1 hs).resolve_left e) ((bF.1 hs').resolve_left e') hb hb'
 ·intro s b hs hb;by_cases e:s=t;·subst e;rw[aT]at hb;have:=hv b hb;have:=h.bK.size;exact .inl (by omega)
  ·rw[cy _ _ e]at hb;exact h.old s b ((bF.1 hs).resolve_left e) hb
 ·have hst:s≠t:=fun e=>by have:=h.pY.1;subst e;omega
  rw[cy _ _ hst];exact h.uI s h9 ((bF.1 hs).resolve_left hst)
 ·exact⟨hg.os.trans h.bK.os,hg.tape.trans h.bK.tape,hg.output.trans h.bK.output,Nat.le_trans h.bK.size hg.size,fun b h1 h2=>(hsame b (by have:=h.bK.size;omega)).trans (h.bK.block b h1 h2)⟩
theorem Rel.ki (h:Rel P S0 L B0 w0 N st a w β) {t:Nat} (ht:st.aa t=none) (hg:w.grownBy w' none) {v:Value} (hv:∀b,b9 v=some b→w.heap.size≤b) {o:AO}:(∀b,aS S0 w0.heap.size β st.aa w b→aS S0 w0.heap.size (eh β t v) (aL t o st.aa) w' b∧w'.heap[b]?=w.heap[b]?)∧(∀s,ay st.aa s→ay (aL t o st.aa) s∧eh β t v s=β s):=by
 have hne:∀s,ay st.aa s→s≠t:=fun s ⟨o',ho'⟩ e=>by subst e;rw[ht]at ho';cases ho'
 refine⟨fun b hb=>?_,fun s hs=>⟨bF.2 (.inr hs),cy _ _ (hne s hs)⟩⟩;obtain⟨h1,h2,h3⟩:=hb;refine⟨⟨h1,Nat.lt_of_lt_of_le h2 hg.size,?_⟩,hg.block b h2 (by simp)⟩;rintro⟨s,o',hs,hbs⟩;by_cases e:s=t;·subst e;rw[aT]at hbs;have:=hv b hbs;omega
 ·rw[cy _ _ e]at hbs;exact h3 ⟨s,o',by simpa[aL,e]using hs,hbs⟩
theorem Rel.vq (h:Rel P S0 L B0 w0 N st a w β) {t:Nat}{o o':AO} (ht:st.aa t=some o) {b:Nat} (hb:b9 (β t)=some b) (hos:w'.os=w.os) (htape:w'.tape=w.tape) (hout:w'.output=w.output) (hsz:w'.heap.size=w.heap.size) (hother:∀k,k≠b→w'.heap[k]?=w.heap[k]?) (ho:bj P (aS S0 w0.heap.size β (aL t o' st.aa) w') w' β (ay (aL t o' st.aa)) t o'):Rel P S0 L B0 w0 N ⟨st.vars,aL t o' st.aa⟩ a w' β∧(∀u x,RV P (aS S0 w0.heap.size β st.aa w) w β (ay st.aa) u x→RV P (aS S0 w0.heap.size β (aL t o' st.aa) w') w' β (ay (aL t o' st.aa)) u x):=by
 have hlive:∀k,live β (aL t o' st.aa) k↔live β st.aa k:=by
  intro k;constructor
  ·rintro⟨s,x,hs,hk⟩;by_cases e:s=t;·subst e;exact⟨s,o,ht,hk⟩
   ·exact⟨s,x,by simpa[aL,e]using hs,hk⟩
  ·rintro⟨s,x,hs,hk⟩;by_cases e:s=t;·subst e;exact⟨s,o',by simp[aL],hk⟩
   ·exact⟨s,x,by simpa[aL,e]using hs,hk⟩
 have hm:∀k,aS S0 w0.heap.size β st.aa w k→aS S0 w0.heap.size β (aL t o' st.aa) w' k∧w'.heap[k]?=w.heap[k]?:=by intro k hk;obtain⟨h1,h2,h3⟩:=hk;have hkb:k≠b:=fun e=>h3 ⟨t,o,ht,by rw[e];exact hb⟩;exact⟨⟨h1,by omega,fun hl=>h3 ((hlive k).1 hl)⟩,hother k hkb⟩
 have hdt:ay st.aa t:=⟨o,ht⟩;have hD:∀s,ay st.aa s→ay (aL t o' st.aa) s∧β s=β s:=fun s hs=>⟨bF.2 (.inr hs),rfl⟩;have hdom:∀s,ay (aL t o' st.aa) s→ay st.aa s:=fun s hs=>by
  rcases bF.1 hs with e|e;·rw[e];exact hdt
  ·exact e
 refine⟨⟨h.size,h.defers,fun s=>(h.vars s).mono hm hD,⟨fun s x hs=>?_,fun s s' k hs hs'=>h.heap.inj s s' k (hdom s hs) (hdom s' hs')⟩,fun s k hs=>h.old s k (hdom s hs),h.pY,fun s h9 hs=>h.uI s h9 (hdom s hs),?_⟩,fun u x hx=>hx.mono hm hD⟩
 ·by_cases e:s=t
  ·subst e;have:x=o':=by simpa[aL]using hs.symm
   subst this;exact ho
  ·have hs':st.aa s=some x:=by simpa[aL,e]using hs
   exact(h.heap.holds s x hs').mono hm hD rfl (fun k hk=>hother k fun ek=>e (h.heap.inj s t b ⟨x,hs'⟩ hdt (by rw[←ek];exact hk) hb))
 ·exact⟨hos.trans h.bK.os,htape.trans h.bK.tape,hout.trans h.bK.output,by rw[hsz];exact h.bK.size,fun k h1 h2=>by
   have hkb:k≠b:=by
    rintro rfl;rcases h.old t k hdt hb with hx|hx;·omega
    ·exact h2 hx
   exact(hother k hkb).trans (h.bK.block k h1 h2)⟩
end
section
variable{P:Program} (w:World)
theorem oQ (t tx ty e:TypeId) (i:TypeInfo) (z:Value) (ht:P.underlying t=some (.slice e)) (hi:P.info? e=some i) (hz:i.zero=some z) (hzs:z.cells.size=i.size) (hsz:0<i.size) (v:Value) (n:Nat) (xs:List Value) (hown:w.ownsRow 0 e i.size v n xs) (x:Value) (m:Nat) (news:List Value) (hs:Src P i.size tx x m news w) (h63:n+m≤maxLen) (hbytes:(n+m)*i.bytes≤140737488355328):∃v' w',(Builtin.append_ #[t,tx] ty #[v,x]).run P w=.ok v' w'∧w'.ownsRow 0 e i.size v' (n+m) (xs++news)∧w.grownBy w' v.ownBlock∧(v'.ownBlock=v.ownBlock∨v'.ownBlock=some w.heap.size)∧w'.ownsRow 0 e i.size v n xs:=by
 have hl:=hs.newsLen;have hlen:(xs++news).length=(n+m)*i.size:=by rw[List.length_append,hown.1,hl,Nat.add_mul]
 have grown:∀(old:Nat),old<n+m→∀(row:Option Nat),(w.drew.alloc (.cells ((xs++news).toArray++Builtin.zeroCells z.cells (grownCap w (n+m) old e-(n+m))) e)).ownsRow 0 e i.size (.slice (some ⟨w.heap.size,0,none⟩) (n+m) (grownCap w (n+m) old e)) (n+m) (xs++news)∧w.grownBy (w.drew.alloc (.cells ((xs++news).toArray++Builtin.zeroCells z.cells (grownCap w (n+m) old e-(n+m))) e)) row:=by
  intro old ho row;have hge:=grownCap_ge w (n+m) old e;have hcm:grownCap w (n+m) old e≤maxLen:=grownCap_le_maxLen w (n+m) old e h63;refine⟨⟨hlen,.inr ⟨w.heap.size,_,_,rfl,Nat.zero_le _,heap_alloc_new w.drew _,hge,hcm,?_,?_⟩⟩,⟨rfl,rfl,rfl,by simp,fun k hk _=>Below.heap_alloc w.drew _ k hk⟩⟩;·simp only[Array.size_append,List.size_toArray,size_zeroCells,hzs,hlen,←Nat.add_mul];congr 1;omega
  ·simp only[Array.toList_append];rw[←hlen];exact List.take_left
 have hsmall:((n+m:Nat):Int)≤9223372036854775807:=by simp only[maxLen]at h63;omega
 rcases hown.2 with⟨rfl,rfl⟩|⟨g,cap,cur,rfl,hbg,hg,hnc,hcm,hcs,htake⟩
 ·have hx:xs=[]:=List.eq_nil_of_length_eq_zero (by simpa using hown.1);subst hx;by_cases hm:m=0;·subst hm;have hn:news=[]:=List.eq_nil_of_length_eq_zero (by simpa using hl);subst hn;exact⟨.slice none 0 0,w,run_append_nothing w t tx ty e i ht hi none 0 0 (Nat.le_refl _) x hs,World.ownsRow_nil w 0 e i.size,⟨rfl,rfl,rfl,Nat.le_refl _,fun _ _ _=>rfl⟩,Or.inl rfl,hown⟩
  ·have hr:=run_append_grow_src (P:=P) w t tx ty e i z ht hi hz none 0 0 [] (by simp[Builtin.firstCells]) x m news hs (by omega) hsmall (growslice_fits (by omega) hbytes);have hgr:=grown 0 (by omega) (Value.ownBlock (.slice none 0 0));exact⟨_,_,hr,hgr.1,hgr.2,Or.inr rfl,by simp,.inl ⟨rfl,rfl⟩⟩
 ·by_cases hroom:n+m≤cap
  ·have hfit:n*i.size+news.length≤cur.size:=by rw[hl,hcs,←Nat.add_mul];exact Nat.mul_le_mul_right _ hroom
   have hst:=run_storeCells_at P g (n*i.size) e news 0 cur w hg (by simpa using hfit) hs.one;simp only[Nat.add_zero]at hst;have hr:(Builtin.append_ #[t,tx] ty #[.slice (some ⟨g,0,none⟩) n cap,x]).run P w=.ok (.slice (some ⟨g,0,none⟩) (n+m) cap) (w.setRow g (cur.toList.take (n*i.size)++news++cur.toList.drop (n*i.size+news.length)).toArray):=by rcases hs.kind with⟨e',hk⟩|hk<;>simp[Builtin.append_,run_underlying ht,run_underlying hk,sizeOf,typeInfo,hi,hs.len,hroom,hs.cells,Addr.add_lit,hst]
   refine⟨_,_,hr,⟨hlen,.inr ⟨g,cap,_,rfl,Nat.zero_le _,setRow_heap w g cur _ e _ hg,hroom,hcm,?_,?_⟩⟩,⟨rfl,rfl,rfl,by simp,fun k _ hk=>setRow_other w g k _ (fun e=>hk (by simp[Value.ownBlock,e]))⟩,Or.inl rfl,?_⟩;·simp only[List.size_toArray,List.length_append,List.length_take,List.length_drop,Array.length_toList];omega
   ·rw[htake,←hlen];exact List.take_left
   ·refine⟨hown.1,.inr ⟨g,cap,_,rfl,Nat.zero_le _,setRow_heap w g cur _ e _ hg,hnc,hcm,?_,?_⟩⟩;·simp only[List.size_toArray,List.length_append,List.length_take,List.length_drop,Array.length_toList];omega
    ·rw[htake,←hown.1];simp only[List.append_assoc];exact List.take_left
  ·have holds:∀j u,xs[j]?=some u→w.cell? ((⟨g,0,none⟩:Addr).add j)=some u:=hown.cells (g:=g) rfl;have hold:(Builtin.firstCells i.size n (.slice (some ⟨g,0,none⟩) n cap)).run P w.drew=.ok xs.toArray w.drew:=run_firstCells_some w.drew i.size n ⟨g,0,none⟩ n cap xs hown.1 (by simpa using holds);have hr:=run_append_grow_src (P:=P) w t tx ty e i z ht hi hz (some ⟨g,0,none⟩) n cap xs hold x m news hs (by omega) hsmall (growslice_fits (by omega) hbytes);have hgr:=grown cap (by omega) (Value.ownBlock (.slice (some ⟨g,0,none⟩) n cap));have hgn:=(grown cap (by omega) none).2;exact⟨_,_,hr,hgr.1,hgr.2,Or.inr rfl,hown.1,.inr ⟨g,cap,cur,rfl,hbg,(hgn.block g (Array.getElem?_eq_some_iff.1 hg).1 (by simp)).trans hg,hnc,hcm,hcs,htake⟩⟩
end
theorem eU (t:Nat):∀(cs:List AV) (i:Nat),(bP t cs)[i]?=(cs[i]?).map (bW t)|[],i=>by simp[bP]|c::cs,0=>by simp[bP]|c::cs,i+1=>by simp[bP,eU t cs i]
theorem dS (t:Nat):∀cs:List AV,(bP t cs).length=cs.length|[]=>rfl|c::cs=>by simp[bP,dS t cs]
section
variable{P:Program}{S S':Nat→Prop}{w w':World}{β β':Nat→Value}{D D':Nat→Prop}{t:Nat}
theorem RV.bW {v:Value}{x:AV} (h:RV P S w β D v x) (hp:∀b,β t≠.pointer (some ⟨b,0,none⟩)) (hS:∀b,S b→S' b∧w'.heap[b]?=w.heap[b]?) (hD:∀s,D s→s≠t→D' s∧β' s=β s):RV P S' w' β' D' v (bW t x):=by cases h with
 |pv v p h=>exact .pv _ _ (h.mono hS)|own s h=>
  simp only[Ab.bW];split;·exact .au _
  ·rename_i hne;rw[←(hD s h hne).2];exact .own s (hD s h hne).1|ptr s o b h hb=>have hne:s≠t:=fun e=>hp b (by rw[←e];exact hb);exact .ptr s o b (hD s h hne).1 ((hD s h hne).2.trans hb)|aZ s e i o b n c inf h hi hb=>
  simp only[Ab.bW];split;·exact .au _
  ·rename_i hne;exact .aZ s e i o b n c inf (hD s h hne).1 hi ((hD s h hne).2.trans hb)|sub v s e lo hi inf A A1 n c h hi' hb h1 h2 h3 h4 h5 hv=>
  simp only[Ab.bW];split;·exact .au _
  ·rename_i hne;exact .sub v s e lo hi inf A A1 n c (hD s h hne).1 hi' ((hD s h hne).2.trans hb) h1 h2 h3 h4 h5 hv|rp ad cs us h1 h2 h3 h4=>exact .rp ad cs us (hS _ h1).1 (fun j hj=>(vt (hS _ h1).2 _).trans (h2 j hj)) h3 (fun j p hp=>(h4 j p hp).mono hS)|agg cs us hl h=>exact .au _|aJ cs us hl h=>exact .au _|bo f cs us hl h=>cases cs with|nil=>refine .bo f [] us hl ?_;intro i c u hc;simp at hc|cons c cs=>exact .au _
 |bY g v av h=>exact .au _|au v=>exact .au _
theorem RV.kill {v:Value}{x:AV} (h:RV P S w β D v x) (hp:∀b,β t≠.pointer (some ⟨b,0,none⟩)) (hS:∀b,S b→S' b∧w'.heap[b]?=w.heap[b]?) (hD:∀s,D s→s≠t→D' s∧β' s=β s):RV P S' w' β' D' v (kill t x):=by induction h with|agg cs us hl h _=>refine .agg _ us (by rw[dS];exact hl) fun i c u hc hu=>?_;rw[eU]at hc;obtain⟨c',hc',rfl⟩:=Option.map_eq_some_iff.1 hc;exact(h i c' u hc' hu).bW hp hS hD|aJ cs us hl h _=>refine .aJ _ us (by rw[dS];exact hl) fun i c u hc hu=>?_;rw[eU]at hc;obtain⟨c',hc',rfl⟩:=Option.map_eq_some_iff.1 hc;exact(h i c' u hc' hu).bW hp hS hD|pv v p h=>exact RV.bW (x:=.pv p) (.pv v p h) hp hS hD|own s h=>exact RV.bW (x:=.own s) (.own s h) hp hS hD|ptr s o b h hb=>exact RV.bW (x:=.ptr s o) (.ptr s o b h hb) hp hS hD|aZ s e i o b n c inf h hi hb=>exact RV.bW (x:=.aZ s e i o) (.aZ s e i o b n c inf h hi hb) hp hS hD|sub v s e lo hi inf A A1 n c h hi' hb h1 h2 h3 h4 h5 hv=>exact RV.bW (x:=.sub s e lo hi) (.sub v s e lo hi inf A A1 n c h hi' hb h1 h2 h3 h4 h5 hv) hp hS hD|rp ad cs us h1 h2 h3 h4=>exact RV.bW (x:=.rp cs) (.rp ad cs us h1 h2 h3 h4) hp hS hD|bo f cs us hl h _=>exact RV.bW (x:=.bo f cs) (.bo f cs us hl h) hp hS hD|bY g v av h hu ih=>exact .bY g v _ (fun hg=>ih hg) hu|au v=>exact .au _
theorem bj.kill {s:Nat}{o:AO} (h:bj P S w β D s o) (hp:∀b,β t≠.pointer (some ⟨b,0,none⟩)) (hS:∀b,S b→S' b∧w'.heap[b]?=w.heap[b]?) (hD:∀s,D s→s≠t→D' s∧β' s=β s) (ht:β' s=β s) (hb:∀b,b9 (β s)=some b→w'.heap[b]?=w.heap[b]?):bj P S' w' β' D' s (dJ t o):=by cases o with
 |box cs=>obtain⟨b,us,ty,hpt,hh,hl,hc⟩:=h;refine⟨b,us,ty,ht.trans hpt,(hb b (by rw[hpt];rfl)).trans hh,by rw[dS];exact hl,fun i c u h1 h2=>?_⟩;rw[eU]at h1;obtain⟨c',hc',rfl⟩:=Option.map_eq_some_iff.1 h1;exact⟨(hc i c' u hc' h2).1,(hc i c' u hc' h2).2.bW hp hS hD⟩|arr e rows=>
  obtain⟨inf,us,hi,hown,hr,hc⟩:=h;refine⟨inf,us,hi,?_,hr,fun i j r p h1 h2=>?_⟩
  ·rw[ht];refine⟨hown.1,?_⟩;rcases hown.2 with h0|⟨g,cap,cur,hv,h1,h2,h3,h4,h5,h6⟩;·exact .inl h0
   ·exact .inr ⟨g,cap,cur,hv,h1,(hb g (by rw[hv];rfl)).trans h2,h3,h4,h5,h6⟩
  ·obtain⟨u,h3,h4,h5⟩:=hc i j r p h1 h2;exact⟨u,h3,h4,h5.mono hS⟩|map es=>obtain⟨b,us,c,hp',hh,hl,hc⟩:=h;exact⟨b,us,c,ht.trans hp',(hb b (by rw[hp'];rfl)).trans hh,hl,fun i e u h1 h2=>⟨(hc i e u h1 h2).1,(hc i e u h1 h2).2.mono hS fun _ hf=>hf.elim⟩⟩|gY es=>exact bj.mono (D:=fun _=>False) (show bj P S w β (fun _=>False) s (.gY es) from h) hS (fun _ hf=>hf.elim) ht hb|nk rem cur=>exact bj.mono (D:=fun _=>False) (show bj P S w β (fun _=>False) s (.nk rem cur) from h) hS (fun _ hf=>hf.elim) ht hb|rws e cs=>
  obtain⟨inf,us,hi,h1s,hown,hc⟩:=h;refine⟨inf,us,hi,h1s,?_,fun i c u h1 h2=>?_⟩
  ·rw[ht,dS];refine⟨hown.1,?_⟩;rcases hown.2 with h0|⟨g,cap,cur,hv,h1,h2,h3,h4,h5,h6⟩;·exact .inl h0
   ·exact .inr ⟨g,cap,cur,hv,h1,(hb g (by rw[hv];rfl)).trans h2,h3,h4,h5,h6⟩
  ·rw[eU]at h1;obtain⟨c',hc',rfl⟩:=Option.map_eq_some_iff.1 h1;exact⟨(hc i c' u hc' h2).1,(hc i c' u hc' h2).2.bW hp hS hD⟩
end
theorem gm {w:World}{b:Nat}{e:TypeId}{sz n:Nat}{v:Value}{us:List Value} (h:w.ownsRow b e sz v n us):b9 v=v.ownBlock∧∀b',v≠.pointer (some ⟨b',0,none⟩):=by
 rcases h.2 with⟨rfl,_⟩|⟨g,cap,cur,rfl,_⟩;·exact⟨rfl,fun _ e=>by cases e⟩
 ·exact⟨rfl,fun _ e=>by cases e⟩
theorem qm {t s:Nat}{aa:Nat→Option AO}:ay (dt t aa) s↔ay aa s:=by
 unfold ay dt;constructor;·rintro⟨o,ho⟩;obtain⟨o',h,_⟩:=Option.map_eq_some_iff.1 ho;exact⟨o',h⟩
 ·rintro⟨o,ho⟩;exact⟨dJ t o,by rw[ho];rfl⟩
section
variable{P:Program}{S0 L:Nat→Prop}{B0:Nat→Value}{w0 w w':World}{N:Nat}{st:St}{a:Act}{β:Nat→Value}
theorem Rel.app (h:Rel P S0 L B0 w0 N st a w β) {t:Nat}{e:TypeId}{rows more:List (List PV)} (ht9:t%1000≠999) (ht:st.aa t=some (.arr e rows)) {inf:TypeInfo}{us news:List Value} (hi:P.info? e=some inf) (hown:w.ownsRow 0 e inf.size (β t) rows.length us) (hrows:∀r,r∈rows→r.length=inf.size) (hcs:∀(i j:Nat) (r:List PV) (p:PV),rows[i]?=some r→r[j]?=some p→∃u,us[i*inf.size+j]?=some u∧u.oneCell'=true∧cZ (aS S0 w0.heap.size β st.aa w) w u p) (hmore:∀r,r∈more→r.length=inf.size) (hms:∀(i j:Nat) (r:List PV) (p:PV),more[i]?=some r→r[j]?=some p→∃u,news[i*inf.size+j]?=some u∧u.oneCell'=true∧cZ (aS S0 w0.heap.size β st.aa w) w u p) {v':Value} (hown':w'.ownsRow 0 e inf.size v' (rows.length+more.length) (us++news)) (hg:w.grownBy w' (β t).ownBlock) (hb:v'.ownBlock=(β t).ownBlock∨v'.ownBlock=some w.heap.size):Rel P S0 L B0 w0 N ⟨cr t st.vars,aL t (.arr e (rows++more)) (dt t st.aa)⟩ a w' (eh β t v'):=by
 have hdt:ay st.aa t:=⟨_,ht⟩;have hbt:=(gm hown).1;have hbt':=(gm hown').1;have hp:=(gm hown).2;have hdom:∀s,ay (aL t (.arr e (rows++more)) (dt t st.aa)) s→ay st.aa s:=fun s hs=>by
  rcases bF.1 hs with e|e;·rw[e];exact hdt
  ·exact qm.1 e
 have hv'lt:∀b,b9 v'=some b→b<w'.heap.size:=fun b hb'=>(hown'.lt b (by rw[←hbt'];exact hb')).2;have hm:∀b,aS S0 w0.heap.size β st.aa w b→aS S0 w0.heap.size (eh β t v') (aL t (.arr e (rows++more)) (dt t st.aa)) w' b∧w'.heap[b]?=w.heap[b]?:=by
  intro b ⟨h1,h2,h3⟩;have hbne:some b≠(β t).ownBlock:=fun e'=>h3 ⟨t,_,ht,by rw[hbt,←e']⟩;refine⟨⟨h1,Nat.lt_of_lt_of_le h2 hg.size,?_⟩,hg.block b h2 hbne⟩;rintro⟨s,o,hs,hbs⟩;by_cases e':s=t
  ·subst e';rw[aT,hbt']at hbs;rcases hb with hb|hb;·exact hbne (by rw[←hb,hbs])
   ·rw[hb]at hbs;injection hbs with hbs;omega
  ·rw[cy _ _ e']at hbs;have hs':dt t st.aa s=some o:=by simpa[aL,e']using hs
   obtain⟨o',ho'⟩:=qm.1 ⟨o,hs'⟩;exact h3 ⟨s,_,ho',hbs⟩
 have hD:∀s,ay st.aa s→s≠t→ay (aL t (.arr e (rows++more)) (dt t st.aa)) s∧eh β t v' s=β s:=fun s hs hne=>⟨bF.2 (.inr (qm.2 hs)),cy _ _ hne⟩;have hblkne:∀s,ay st.aa s→s≠t→∀b,b9 (β s)=some b→w'.heap[b]?=w.heap[b]?:=fun s hs hne b hbs=>hg.block b (h.lt hs hbs) fun e'=>hne (h.heap.inj s t b hs hdt hbs (by rw[hbt,←e']));refine⟨h.size,h.defers,fun s=>(h.vars s).kill hp hm hD,⟨fun s o hs=>?_,fun s s' b hs hs' hbs hbs'=>?_⟩,fun s b hs hbs=>?_,h.pY,fun s h9 hs=>?_,?_⟩
 ·by_cases e':s=t
  ·subst e';have:o=.arr e (rows++more):=by simpa[aL]using hs.symm
   subst this;refine⟨inf,us++news,hi,?_,fun r hr=>?_,fun i j r p h1 h2=>?_⟩;·rw[aT,List.length_append];exact hown'
   ·rcases List.mem_append.1 hr with hr|hr;·exact hrows r hr
    ·exact hmore r hr
   ·by_cases hlt:i<rows.length;·rw[List.getElem?_append_left hlt]at h1;obtain⟨u,hu,h1',hr⟩:=hcs i j r p h1 h2;have hul:i*inf.size+j<us.length:=(List.getElem?_eq_some_iff.1 hu).1;exact⟨u,by rw[List.getElem?_append_left hul];exact hu,h1',hr.mono hm⟩
    ·rw[List.getElem?_append_right (by omega)]at h1;obtain⟨u,hu,h1',hr⟩:=hms (i-rows.length) j r p h1 h2;have he:i*inf.size+j-us.length=(i-rows.length)*inf.size+j:=by rw[hown.1,Nat.sub_mul];have:=Nat.mul_le_mul_right inf.size (show rows.length≤i by omega);omega
     have hle:us.length≤i*inf.size+j:=by rw[hown.1];have:=Nat.mul_le_mul_right inf.size (show rows.length≤i by omega);omega
     exact⟨u,by rw[List.getElem?_append_right hle,he];exact hu,h1',hr.mono hm⟩
  ·have hs':dt t st.aa s=some o:=by simpa[aL,e']using hs
   obtain⟨o',ho',rfl⟩:=Option.map_eq_some_iff.1 hs';exact(h.heap.holds s o' ho').kill hp hm hD (cy _ _ e') (hblkne s ⟨_,ho'⟩ e')
 ·have hs1:=hdom s hs;have hs2:=hdom s' hs';by_cases e1:s=t<;>by_cases e2:s'=t;·rw[e1,e2]
  ·subst e1;rw[aT,hbt']at hbs;rw[cy _ _ e2]at hbs';rcases hb with hb|hb;·exact h.heap.inj s s' b hs1 hs2 (by rw[hbt,←hb,hbs]) hbs'
   ·have:=h.lt hs2 hbs';rw[hb]at hbs;injection hbs with hbs;omega
  ·subst e2;rw[aT,hbt']at hbs';rw[cy _ _ e1]at hbs;rcases hb with hb|hb;·exact h.heap.inj s s' b hs1 hs2 hbs (by rw[hbt,←hb,hbs'])
   ·have:=h.lt hs1 hbs;rw[hb]at hbs';injection hbs' with hbs';omega
  ·rw[cy _ _ e1]at hbs;rw[cy _ _ e2]at hbs';exact h.heap.inj s s' b hs1 hs2 hbs hbs'
 ·have hs1:=hdom s hs;by_cases e1:s=t
  ·subst e1;rw[aT,hbt']at hbs;rcases hb with hb|hb;·exact h.old s b hs1 (by rw[hbt,←hb,hbs])
   ·rw[hb]at hbs;injection hbs with hbs;have:=h.bK.size;exact .inl (by omega)
  ·rw[cy _ _ e1]at hbs;exact h.old s b hs1 hbs
 ·have hst:s≠t:=fun e=>by subst e;exact ht9 h9
  rw[cy _ _ hst];exact h.uI s h9 (hdom s hs)
 ·refine⟨hg.os.trans h.bK.os,hg.tape.trans h.bK.tape,hg.output.trans h.bK.output,Nat.le_trans h.bK.size hg.size,fun b h1 h2=>?_⟩;refine(hg.block b (by have:=h.bK.size;omega) fun e'=>?_).trans (h.bK.block b h1 h2);rcases h.old t b hdt (by rw[hbt,←e']) with hx|hx;·omega
  ·exact h2 hx
end
end Go.Proofs.YtlicclncicbajaaGreat.Ab
