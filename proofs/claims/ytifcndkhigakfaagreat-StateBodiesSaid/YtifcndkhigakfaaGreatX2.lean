/- How the abstract machine reckons: rewrite rules. -/
import Derived.Test.YtifcndkhigakfaaGreatX1
set_option linter.unusedVariables false
set_option linter.unusedSimpArgs false
set_option linter.unnecessarySimpa false
set_option maxHeartbeats 40000000
set_option maxRecDepth 100000
namespace Go.Proofs.YtifcndkhigakfaaGreat.Ab.R
open Go Go.RowKit
theorem nr {α:Sort _}{a b:α} (h:a=b):a=b:=h
@[congr] theorem KW {α:Type}{o o':Option α}{K:α→Prop} (h:True→o=o'):ai o K=ai o' K:=by rw[h trivial]
@[congr] theorem IY {P:Program}{Γ:bR}{is:List AI}{K:St→Prop}{st st':St} (h:True→st=st'):cW P Γ is K st=cW P Γ is K st':=by rw[h trivial]
@[congr] theorem My {P:Program}{Γ:bR}{is:List AI}{K:St→Prop}{st st':St} (h:True→st=st'):steps P Γ is K st=steps P Γ is K st':=by rw[h trivial]
@[congr] theorem LY {P:Program}{Γ:bR}{i:AI}{K:St→Prop}{st st':St} (h:True→st=st'):cZ P Γ i K st=cZ P Γ i K st':=by rw[h trivial]
@[congr] theorem NB {P:Program}{Γ:bR}{d:Option Nat}{k:AK}{xs xs':List AV}{C:bE→Prop}{aa:Nat→Option AO} (hx:True→xs=xs'):aZ P Γ d k xs aa C=aZ P Γ d k xs' aa C:=by rw[hx trivial]
@[congr] theorem Pk {P:Program}{Γ:bR}{c c':Bool}{d:Option Nat}{k:AK}{xs xs':List AV}{C:bE→Prop}{aa:Nat→Option AO} (hc:True→c=c') (hx:True→xs=xs'):cw P Γ c d k xs aa C=cw P Γ c' d k xs' aa C:=by rw[hx trivial,hc trivial]
@[congr] theorem QJ {P:Program}{Γ:bR}{c:AC}{K:St→Prop}{J:Exit→St→Prop}{st st':St} (h:True→st=st'):iC P Γ c K J st=iC P Γ c K J st':=by rw[h trivial]
@[simp↓] theorem condT {A B:Prop}:((true=true→A)∧(true=false→B))=A:=by simp
@[simp↓] theorem condF {A B:Prop}:((false=true→A)∧(false=false→B))=B:=by simp
@[simp↓] theorem Ob {α:Type} (x:α) (K:α→Prop):ai (some x) K=K x:=rfl
@[simp↓] theorem N0 {α:Type} (K:α→Prop):ai (none:Option α) K=False:=rfl
section
variable{P:Program}{Γ:bR}{K:St→Prop}{J:Exit→St→Prop}{vs:List (Nat×AV)}{os:List (Nat×AO)}
@[simp↓] theorem A8:iC P Γ .skip K J ⟨look vs,ab os⟩=K ⟨look vs,ab os⟩:=rfl
@[simp↓] theorem vwp_reg {is:List AI}{c7:List Nat}:iC P Γ (.Ib is true c7) K J ⟨look vs,ab os⟩=steps P Γ is (fun st'=>K ⟨jB c7 st'.vars,st'.aa⟩) ⟨look vs,ab os⟩:=rfl
@[simp↓] theorem WR {is:List AI}{c7:List Nat}:iC P Γ (.Ib is false c7) K J ⟨look vs,ab os⟩=cW P Γ is (fun st'=>K ⟨jB c7 st'.vars,st'.aa⟩) ⟨look vs,ab os⟩:=rfl
@[simp↓] theorem Qa:cW P Γ [] K ⟨look vs,ab os⟩=K ⟨look vs,ab os⟩:=rfl
@[simp↓] theorem LW {i:AI}{is:List AI}:cW P Γ (i::is) K ⟨look vs,ab os⟩=b9 P Γ i (fun st'=>cW P Γ is K st') ⟨look vs,ab os⟩:=rfl
@[simp↓] theorem MN {d:Option Nat}{xs:List Operand}{g:Option (Nat×Bool)}{un:List Nat}{tg:Option Nat}:b9 P Γ ⟨d,.ly,xs,g,un,tg⟩ K ⟨look vs,ab os⟩=fW P Γ d (xs.map (ev (look vs))) g K ⟨look vs,ab os⟩:=rfl
@[simp↓] theorem NK {d:Option Nat}{k:AK}{xs:List Operand}{un:List Nat}{tg:Option Nat}:cr P Γ ⟨d,k,xs,none,un,tg⟩ K ⟨look vs,ab os⟩=cZ P Γ ⟨d,k,xs,none,un,tg⟩ K ⟨look vs,ab os⟩:=rfl
@[simp↓] theorem Nb {d:Option Nat}{k:AK}{xs:List Operand}{s:Nat}{w:Bool}{un:List Nat}{tg:Option Nat}:cr P Γ ⟨d,k,xs,some (s,w),un,tg⟩ K ⟨look vs,ab os⟩=il (fo ((xs.map (ev (look vs))).map strip)) (IC (bJ (look vs s) w)) (cZ P Γ ⟨d,k,xs,some (s,w),un,tg⟩ K ⟨look vs,ab os⟩) (K ((bE.put (.ck false .ak)).on d ⟨look vs,ab os⟩)):=rfl
@[congr] theorem LF {b b' f:Bool}{A B:Prop} (h:True→b=b'):il b f A B=il b' f A B:=by rw[h trivial]
@[simp↓] theorem KZ {f:Bool}{A B:Prop}:il false f A B=A:=rfl
@[simp↓] theorem ME {f:Bool}{A B:Prop}:il true f A B=if f=true then B else A:=rfl
def YT (P:Program) (Γ:bR) (d:Option Nat) (K:St→Prop) (st:St):FuncId×List AV→Prop|(f,ys)=>ib P f=true∧eT P Γ d f ys (dP Γ f) K st
@[simp↓] theorem Pt {d:Option Nat}{xs:List AV}:fW P Γ d xs none K ⟨look vs,ab os⟩=(an xs∧ai (lH (xs.map strip)) (YT P Γ d K ⟨look vs,ab os⟩)):=rfl
@[simp↓] theorem cloK_mk {d:Option Nat}{f:FuncId}{ys:List AV}:YT P Γ d K ⟨look vs,ab os⟩ (f,ys)=(ib P f=true∧eT P Γ d f ys (dP Γ f) K ⟨look vs,ab os⟩):=rfl
@[simp↓] theorem L7 {d:Option Nat}{f:FuncId}{ys:List AV}:eT P Γ d f ys none K ⟨look vs,ab os⟩=cH P Γ d f ys (ab os) fun e=>K (e.on d ⟨look vs,ab os⟩):=rfl
@[simp↓] theorem LL {d:Option Nat}{f:FuncId}{ys:List AV}{p k:Nat}:eT P Γ d f ys (some (p,k)) K ⟨look vs,ab os⟩=if k=996 then stepG Γ d f ys (jd Γ f) K ⟨look vs,ab os⟩ else False:=rfl
@[congr] theorem IM {d:Option Nat}{f:FuncId}{ys ys':List AV}{o o':Option (Nat×Nat)}{st:St} (h1:True→ys=ys') (h:True→o=o'):eT P Γ d f ys o K st=eT P Γ d f ys' o' K st:=by rw[h1 trivial,h trivial]
@[simp↓] theorem NW {d:Option Nat}{xs:List AV}{s:Nat}{w:Bool}:fW P Γ d xs (some (s,w)) K ⟨look vs,ab os⟩=il (fo (xs.map strip)) (IC (bJ (look vs s) w)) (pJ P Γ d xs s w K ⟨look vs,ab os⟩) (K ((bE.put (.ck false .ak)).on d ⟨look vs,ab os⟩)):=rfl
def Uv (P:Program) (Γ:bR) (d:Option Nat) (A:Prop) (c:Bool) (K:St→Prop) (st:St):FuncId×List AV→Prop|(f,ys)=>ib P f=true∧iz P Γ d f ys A c (dP Γ f) K st
@[simp↓] theorem cloG_mk {d:Option Nat}{A:Prop}{c:Bool}{f:FuncId}{ys:List AV}:Uv P Γ d A c K ⟨look vs,ab os⟩ (f,ys)=(ib P f=true∧iz P Γ d f ys A c (dP Γ f) K ⟨look vs,ab os⟩):=rfl
@[simp↓] theorem Sa {d:Option Nat}{xs:List AV}{s:Nat}{w:Bool}:pJ P Γ d xs s w K ⟨look vs,ab os⟩=ai (bJ (look vs s) w) fun c=>ai (lH (xs.map strip)) (Uv P Γ d (an xs) c K ⟨look vs,ab os⟩):=rfl
@[simp↓] theorem Kl {d:Option Nat}{f:FuncId}{ys:List AV}{A:Prop}{c:Bool}:iz P Γ d f ys A c none K ⟨look vs,ab os⟩=yU Γ c f ys (ab os) fun e=>(c=true→A)∧K (e.on d ⟨look vs,ab os⟩):=rfl
@[simp↓] theorem Jq {d:Option Nat}{f:FuncId}{ys:List AV}{A:Prop}{c:Bool}{p k:Nat}:iz P Γ d f ys A c (some (p,k)) K ⟨look vs,ab os⟩=if k=996 then(if c=true then A∧stepG Γ d f ys (jd Γ f) K ⟨look vs,ab os⟩ else K ((bE.put (.ck false .ak)).on d ⟨look vs,ab os⟩)) else False:=rfl
@[congr] theorem H8 {d:Option Nat}{f:FuncId}{ys ys':List AV}{A:Prop}{c:Bool}{o o':Option (Nat×Nat)}{st:St} (h1:True→ys=ys') (h:True→o=o'):iz P Γ d f ys A c o K st=iz P Γ d f ys' A c o' K st:=by rw[h1 trivial,h trivial]
@[simp] theorem Ss {f:FuncId}{caps args:List AV}:lH (.bZ f caps::args)=some (f,args++caps):=nr rfl
@[simp↓] theorem QG {d:Option Nat}{xs:List Operand}{g:Option (Nat×Bool)}{un:List Nat}{tg:Option Nat}:b9 P Γ ⟨d,.nX,xs,g,un,tg⟩ K ⟨look vs,ab os⟩=cr P Γ ⟨d,.nX,xs,g,un,tg⟩ K ⟨look vs,ab os⟩:=rfl
@[simp↓] theorem M4 {d:Option Nat}{xs:List Operand}{g:Option (Nat×Bool)}{un:List Nat}{tg:Option Nat}:b9 P Γ ⟨d,.pick,xs,g,un,tg⟩ K ⟨look vs,ab os⟩=cr P Γ ⟨d,.pick,xs,g,un,tg⟩ K ⟨look vs,ab os⟩:=rfl
@[simp↓] theorem RZ {d:Option Nat}{xs:List Operand}{g:Option (Nat×Bool)}{un:List Nat}{tg:Option Nat}{op:BinOp}:b9 P Γ ⟨d,.bin op,xs,g,un,tg⟩ K ⟨look vs,ab os⟩=cr P Γ ⟨d,.bin op,xs,g,un,tg⟩ K ⟨look vs,ab os⟩:=rfl
@[simp↓] theorem Tp {d:Option Nat}{xs:List Operand}{g:Option (Nat×Bool)}{un:List Nat}{tg:Option Nat}{ne:Bool}:b9 P Γ ⟨d,.beq ne,xs,g,un,tg⟩ K ⟨look vs,ab os⟩=cr P Γ ⟨d,.beq ne,xs,g,un,tg⟩ K ⟨look vs,ab os⟩:=rfl
@[simp↓] theorem Rd {d:Option Nat}{xs:List Operand}{g:Option (Nat×Bool)}{un:List Nat}{tg:Option Nat}:b9 P Γ ⟨d,.not,xs,g,un,tg⟩ K ⟨look vs,ab os⟩=cr P Γ ⟨d,.not,xs,g,un,tg⟩ K ⟨look vs,ab os⟩:=rfl
@[simp↓] theorem Ql {d:Option Nat}{xs:List Operand}{g:Option (Nat×Bool)}{un:List Nat}{tg:Option Nat}:b9 P Γ ⟨d,.neg,xs,g,un,tg⟩ K ⟨look vs,ab os⟩=cr P Γ ⟨d,.neg,xs,g,un,tg⟩ K ⟨look vs,ab os⟩:=rfl
@[simp↓] theorem Qu {d:Option Nat}{xs:List Operand}{g:Option (Nat×Bool)}{un:List Nat}{tg:Option Nat}{k:IntKind}:b9 P Γ ⟨d,.CE k,xs,g,un,tg⟩ K ⟨look vs,ab os⟩=cr P Γ ⟨d,.CE k,xs,g,un,tg⟩ K ⟨look vs,ab os⟩:=rfl
@[simp↓] theorem Tf {d:Option Nat}{xs:List Operand}{g:Option (Nat×Bool)}{un:List Nat}{tg:Option Nat}:b9 P Γ ⟨d,.Di,xs,g,un,tg⟩ K ⟨look vs,ab os⟩=cr P Γ ⟨d,.Di,xs,g,un,tg⟩ K ⟨look vs,ab os⟩:=rfl
@[simp↓] theorem RD {d:Option Nat}{xs:List Operand}{g:Option (Nat×Bool)}{un:List Nat}{tg:Option Nat}:b9 P Γ ⟨d,.len,xs,g,un,tg⟩ K ⟨look vs,ab os⟩=cr P Γ ⟨d,.len,xs,g,un,tg⟩ K ⟨look vs,ab os⟩:=rfl
@[simp↓] theorem OU {d:Option Nat}{xs:List Operand}{g:Option (Nat×Bool)}{un:List Nat}{tg:Option Nat}:b9 P Γ ⟨d,.vt,xs,g,un,tg⟩ K ⟨look vs,ab os⟩=cr P Γ ⟨d,.vt,xs,g,un,tg⟩ K ⟨look vs,ab os⟩:=rfl
@[simp↓] theorem O2 {d:Option Nat}{xs:List Operand}{g:Option (Nat×Bool)}{un:List Nat}{tg:Option Nat}:b9 P Γ ⟨d,.vd,xs,g,un,tg⟩ K ⟨look vs,ab os⟩=cr P Γ ⟨d,.vd,xs,g,un,tg⟩ K ⟨look vs,ab os⟩:=rfl
@[simp↓] theorem SG {d:Option Nat}{xs:List Operand}{g:Option (Nat×Bool)}{un:List Nat}{tg:Option Nat}{lo hi:Bool}:b9 P Γ ⟨d,.I7 lo hi,xs,g,un,tg⟩ K ⟨look vs,ab os⟩=cr P Γ ⟨d,.I7 lo hi,xs,g,un,tg⟩ K ⟨look vs,ab os⟩:=rfl
@[simp↓] theorem Qq {d:Option Nat}{xs:List Operand}{g:Option (Nat×Bool)}{un:List Nat}{tg:Option Nat}{o:Nat}{n:Option Nat}:b9 P Γ ⟨d,.FI o n,xs,g,un,tg⟩ K ⟨look vs,ab os⟩=cr P Γ ⟨d,.FI o n,xs,g,un,tg⟩ K ⟨look vs,ab os⟩:=rfl
@[simp↓] theorem Sr {d:Option Nat}{xs:List Operand}{g:Option (Nat×Bool)}{un:List Nat}{tg:Option Nat}{o:Nat}:b9 P Γ ⟨d,.sy o,xs,g,un,tg⟩ K ⟨look vs,ab os⟩=cr P Γ ⟨d,.sy o,xs,g,un,tg⟩ K ⟨look vs,ab os⟩:=rfl
@[simp↓] theorem OX {d:Option Nat}{xs:List Operand}{g:Option (Nat×Bool)}{un:List Nat}{tg:Option Nat}{n:Option Nat}:b9 P Γ ⟨d,.load n,xs,g,un,tg⟩ K ⟨look vs,ab os⟩=cr P Γ ⟨d,.load n,xs,g,un,tg⟩ K ⟨look vs,ab os⟩:=rfl
@[simp↓] theorem Rb {d:Option Nat}{xs:List Operand}{g:Option (Nat×Bool)}{un:List Nat}{tg:Option Nat}{e:TypeId}{s:Nat}:b9 P Γ ⟨d,.Fw e s,xs,g,un,tg⟩ K ⟨look vs,ab os⟩=cr P Γ ⟨d,.Fw e s,xs,g,un,tg⟩ K ⟨look vs,ab os⟩:=rfl
@[simp↓] theorem Rz {d:Option Nat}{xs:List Operand}{g:Option (Nat×Bool)}{un:List Nat}{tg:Option Nat}{e s:Nat}:b9 P Γ ⟨d,.FA e s,xs,g,un,tg⟩ K ⟨look vs,ab os⟩=cr P Γ ⟨d,.FA e s,xs,g,un,tg⟩ K ⟨look vs,ab os⟩:=rfl
@[simp↓] theorem TD {d:Option Nat}{xs:List Operand}{g:Option (Nat×Bool)}{un:List Nat}{tg:Option Nat}:b9 P Γ ⟨d,.ED,xs,g,un,tg⟩ K ⟨look vs,ab os⟩=cr P Γ ⟨d,.ED,xs,g,un,tg⟩ K ⟨look vs,ab os⟩:=rfl
@[simp↓] theorem QA {d:Option Nat}{xs:List Operand}{g:Option (Nat×Bool)}{un:List Nat}{tg:Option Nat}{s:Nat}{lo hi:Bool}:b9 P Γ ⟨d,.Cw s lo hi,xs,g,un,tg⟩ K ⟨look vs,ab os⟩=cr P Γ ⟨d,.Cw s lo hi,xs,g,un,tg⟩ K ⟨look vs,ab os⟩:=rfl
@[simp↓] theorem Sk {d:Option Nat}{xs:List Operand}{g:Option (Nat×Bool)}{un:List Nat}{tg:Option Nat}{i:Nat}:b9 P Γ ⟨d,.ext i,xs,g,un,tg⟩ K ⟨look vs,ab os⟩=cr P Γ ⟨d,.ext i,xs,g,un,tg⟩ K ⟨look vs,ab os⟩:=rfl
@[simp↓] theorem Qt {d:Option Nat}{xs:List Operand}{g:Option (Nat×Bool)}{un:List Nat}{tg:Option Nat}{zs:List Value}{ps:List (Nat×Nat)}:b9 P Γ ⟨d,.H9 zs ps,xs,g,un,tg⟩ K ⟨look vs,ab os⟩=cr P Γ ⟨d,.H9 zs ps,xs,g,un,tg⟩ K ⟨look vs,ab os⟩:=rfl
@[simp↓] theorem Tb {d:Option Nat}{xs:List Operand}{g:Option (Nat×Bool)}{un:List Nat}{tg:Option Nat}{f:FuncId}:b9 P Γ ⟨d,.Ih f,xs,g,un,tg⟩ K ⟨look vs,ab os⟩=cr P Γ ⟨d,.Ih f,xs,g,un,tg⟩ K ⟨look vs,ab os⟩:=rfl
@[simp↓] theorem Nz {e:TypeId}{d:Nat}{xs:List Operand}{g:Option (Nat×Bool)}{un:List Nat}{tg:Option Nat}:b9 P Γ ⟨some d,.ij e,xs,g,un,tg⟩ K ⟨look vs,ab os⟩=cZ P Γ ⟨some d,.ij e,xs,g,un,tg⟩ K (tv d ⟨look vs,ab os⟩):=rfl
@[simp↓] theorem SK {d:Option Nat}{xs:List Operand}{g:Option (Nat×Bool)}{un:List Nat}{tg:Option Nat}:b9 P Γ ⟨d,.box,xs,g,un,tg⟩ K ⟨look vs,ab os⟩=cr P Γ ⟨d,.box,xs,g,un,tg⟩ K ⟨look vs,ab os⟩:=rfl
@[simp↓] theorem Mv {d:Option Nat}{xs:List Operand}{g:Option (Nat×Bool)}{un:List Nat}{tg:Option Nat}{zs:List Value}:b9 P Γ ⟨d,.alloc zs,xs,g,un,tg⟩ K ⟨look vs,ab os⟩=cr P Γ ⟨d,.alloc zs,xs,g,un,tg⟩ K ⟨look vs,ab os⟩:=rfl
@[congr] theorem KV {i:AI}{st st':St} (h:True→st=st'):cr P Γ i K st=cr P Γ i K st':=by rw[h trivial]
@[simp↓] theorem RF {d:Option Nat}{xs:List Operand}{g:Option (Nat×Bool)}{un:List Nat}{tg:Option Nat}{e:TypeId}{s:Nat}:b9 P Γ ⟨d,.rT e s,xs,g,un,tg⟩ K ⟨look vs,ab os⟩=cr P Γ ⟨d,.rT e s,xs,g,un,tg⟩ K (cJ ⟨look vs,ab os⟩ ((xs.map (ev (look vs))).map strip)):=rfl
@[simp↓] theorem LB {f:FuncId}{d:Option Nat}{xs:List Operand}{s:Nat}{w:Bool}{un:List Nat}{tg:Option Nat}:b9 P Γ ⟨d,.call f,xs,some (s,w),un,tg⟩ K ⟨look vs,ab os⟩=lW P Γ ⟨d,.call f,xs,some (s,w),un,tg⟩ f s w (dP Γ f) K ⟨look vs,ab os⟩:=rfl
@[congr] theorem Ku {i:AI}{f:FuncId}{s:Nat}{w:Bool}{o o':Option (Nat×Nat)}{st:St} (h:True→o=o'):lW P Γ i f s w o K st=lW P Γ i f s w o' K st:=by rw[h trivial]
@[simp↓] theorem KO {f:FuncId}{d:Option Nat}{xs:List Operand}{s s':Nat}{w w':Bool}{un:List Nat}{tg:Option Nat}:lW P Γ ⟨d,.call f,xs,some (s',w'),un,tg⟩ f s w none K ⟨look vs,ab os⟩=il (fo ((xs.map (ev (look vs))).map strip)) (IC (bJ (look vs s) w)) (ai (bJ (look vs s) w) fun c=>ai (fC (ab os) ((xs.map (ev (look vs))).map strip)) fun ys=>ai (gt Γ f ys) fun x=>if VI x.2=true then(if c=true then lI P Γ ⟨d,.call f,xs,none,[],none⟩ f K ⟨look vs,ab os⟩ else K ((bE.put (.ck false .ak)).on d ⟨look vs,ab os⟩)) else cZ P Γ ⟨d,.call f,xs,some (s',w'),un,tg⟩ K ⟨look vs,ab os⟩) (K ((bE.put (.ck false .ak)).on d ⟨look vs,ab os⟩)):=rfl
@[simp↓] theorem LU {f:FuncId}{d:Option Nat}{xs:List Operand}{s s' p k:Nat}{w w':Bool}{un:List Nat}{tg:Option Nat}:lW P Γ ⟨d,.call f,xs,some (s',w'),un,tg⟩ f s w (some (p,k)) K ⟨look vs,ab os⟩=if k=996 then ai (bJ (look vs s) w) fun c=>if c=true then stepG Γ d f (xs.map (ev (look vs))) (jd Γ f) K ⟨look vs,ab os⟩ else K ((bE.put (.ck false .ak)).on d ⟨look vs,ab os⟩) else False:=rfl
@[simp↓] theorem Pc {f:FuncId}{d:Option Nat}{xs:List Operand}{un:List Nat}{tg:Option Nat}:b9 P Γ ⟨d,.call f,xs,none,un,tg⟩ K ⟨look vs,ab os⟩=gZ P Γ ⟨d,.call f,xs,none,un,tg⟩ f (dP Γ f) K ⟨look vs,ab os⟩:=rfl
@[congr] theorem Jl {i:AI}{f:FuncId}{o o':Option (Nat×Nat)}{st:St} (h:True→o=o'):gZ P Γ i f o K st=gZ P Γ i f o' K st:=by rw[h trivial]
@[simp↓] theorem Ll {i:AI}{f:FuncId}{st:St}:gZ P Γ i f none K st=lI P Γ i f K st:=rfl
@[simp↓] theorem Lb {f g:FuncId}{p k:Nat}{d:Option Nat}{xs:List Operand}{un:List Nat}{tg:Option Nat}:gZ P Γ ⟨d,.call g,xs,none,un,tg⟩ f (some (p,k)) K ⟨look vs,ab os⟩=if k=997 then yR P Γ d f (xs.map (ev (look vs))) p K ⟨look vs,ab os⟩ else if k=996 then stepG Γ d f (xs.map (ev (look vs))) (jd Γ f) K ⟨look vs,ab os⟩ else lp P Γ d f (xs.map (ev (look vs))) p k K ⟨look vs,ab os⟩:=rfl
@[simp↓] theorem Vj {d:Nat}{f:FuncId}{xs:List AV}{p:Nat}:yR P Γ (some d) f xs p K ⟨look vs,ab os⟩=(an xs∧ai (rG (ab os) p (xs.map strip)) fun ys=>ai (Γ (f+1000000) ys) fun x=>x.1∧(eR (xs.map strip)=true∨flat x.2)∧(∀y∈aP d x.2,ab os y.1=none)∧dA x.2=true∧K ⟨put (some d) (cR (lA d) x.2) (look vs),bA (aP d x.2) (ab os)⟩):=rfl
@[simp] theorem reisN_0 (aa:Nat→Option AO) (vs:List AV):rG aa 0 (.pv .nil::vs)=(fC aa vs).map (.pv .nil::·):=nr rfl
@[simp] theorem VB {f:FuncId}:dP Γ f=(Γ (f+1000000) [.ak]).bind fun x=>Dt x.2:=nr rfl
@[simp] theorem Rx {p k:Nat}:Dt (.ptr p k)=if k=998∨k=999∨k=997∨k=996 then some (p,k) else none:=nr rfl
@[simp↓] theorem Ug {d:Nat}{f:FuncId}{xs:List AV}{p k:Nat}:lp P Γ (some d) f xs p k K ⟨look vs,ab os⟩=(an xs∧ai ((xs.map strip)[p]?) fun X=>ai (hZ (ab os) k X) fun T=>mA T.1 p (xs.map strip)∧ai (rh (gb T.1 (ab os)) (yQ k T.2.1 T.2.2) p (xs.map strip)) fun ys=>ai (Γ (f+1000000) ys) fun x=>x.1∧(jG p (xs.map strip)=true∨(flat (b7 x.2)∧oR (en x.2)))∧(∀y∈aP d (b7 x.2),ab os y.1=none)∧dA (b7 x.2)=true∧K ⟨put (some d) (cR (lA d) (b7 x.2)) (iV T.1 x.2 (look vs)),bA (aP d (b7 x.2)) (cQ T.1 x.2 (ab os))⟩):=rfl
@[simp] def isPu:XK→Bool|.Sv _=>true|.UH|.FL _|.HV _ _ _|.dead|.vF _|.zk|.Hc|.EO _ _ _ _|.Ex _|.Qk _ _ _|.mark|.Yu|.Ew|.XX|.Gi _ _ _|.mW _ _|.dlv _|.Fh _|.WS|.nxt|.ent=>false
def xX (d:Option Nat) (x:XK) (xs:List Operand) (K:St→Prop) (st:St):Prop:=aX d x (xs.map (ev st.vars)) K st
def CN:Bool→Prop→Prop→Prop|true,_,B=>B|false,A,_=>A
@[simp↓] theorem LM {A B:Prop}:CN true A B=B:=rfl
@[simp↓] theorem Jo {A B:Prop}:CN false A B=A:=rfl
@[simp↓] theorem XC {d:Option Nat}{xs:List Operand}{un:List Nat}{tg:Option Nat}{x:XK}:b9 P Γ ⟨d,.ex x,xs,none,un,tg⟩ K ⟨look vs,ab os⟩=CN (isPu x) (aX d x (xs.map (ev (look vs))) K ⟨look vs,ab os⟩) (xX d x xs K (cJ ⟨look vs,ab os⟩ ((xs.map (ev (look vs))).map strip))):=by cases x<;>rfl
@[congr] theorem Ka {d:Option Nat}{x:XK}{xs:List Operand}{st st':St} (h:True→st=st'):xX d x xs K st=xX d x xs K st':=by rw[h trivial]
@[simp↓] theorem TC {d:Option Nat}{x:XK}{xs:List Operand}:xX d x xs K ⟨look vs,ab os⟩=aX d x (xs.map (ev (look vs))) K ⟨look vs,ab os⟩:=rfl
@[simp↓] theorem S5 {d:Option Nat}{xs:List Operand}{s:Nat}{w:Bool}{un:List Nat}{tg:Option Nat}{x:XK}:b9 P Γ ⟨d,.ex x,xs,some (s,w),un,tg⟩ K ⟨look vs,ab os⟩=ai (bJ (look vs s) w) fun c=>if c=true then aX d x (xs.map (ev (look vs))) K ⟨look vs,ab os⟩ else K ((bE.put (.ck false .ak)).on d ⟨look vs,ab os⟩):=rfl
@[congr] theorem Kt {d:Option Nat}{x:XK}{xs xs':List AV}{st:St} (h:True→xs=xs'):aX d x xs K st=aX d x xs' K st:=by rw[h trivial]
@[simp↓] theorem NM {d:Nat}:aX (some d) .UH [] K ⟨look vs,ab os⟩=(ab os d=none∧K ⟨put (some d) (.own d) (look vs),bA [(d,.map [])] (ab os)⟩):=rfl
@[simp↓] theorem Mt {d:Option Nat}{s t:Nat}{k v:AV}:aX d (.FL s) [.own t,k,v] K ⟨look vs,ab os⟩=za d s t (strip k) (strip v) [.own t,k,v] K ⟨look vs,ab os⟩:=by cases hk:strip k<;>simp[aX,uT,za,hk,strip]
@[simp↓] theorem Ye {d:Option Nat}{s t:Nat}{k:PV}{v:AV}{xs:List AV}:za d s t (.pv k) v xs K ⟨look vs,ab os⟩=(an xs∧ai (xJ (ab os t)) fun es=>dw k=s∧gY s es∧dZ v=true∧K ⟨put d .ak (look vs),aN t (.map (kO k v es)) (ab os)⟩):=rfl
@[congr] theorem Lc {d:Option Nat}{s t:Nat}{k k' v v':AV}{xs xs':List AV}{st:St} (h1:True→k=k') (h2:True→v=v') (h3:True→xs=xs'):za d s t k v xs K st=za d s t k' v' xs' K st:=by rw[h1 trivial,h2 trivial,h3 trivial]
@[simp↓] theorem KF {d:Option Nat}{s t:Nat}{z:Value}{ok:Bool}{k:AV}:aX d (.HV s z ok) [.own t,k] K ⟨look vs,ab os⟩=ze d s t z ok (strip k) [.own t,k] K ⟨look vs,ab os⟩:=by cases hk:strip k<;>simp[aX,uT,ze,hk,strip]
@[simp↓] theorem TY {d:Option Nat}{s t:Nat}{z:Value}{ok:Bool}{k:PV}{xs:List AV}:ze d s t z ok (.pv k) xs K ⟨look vs,ab os⟩=(an xs∧ai (xJ (ab os t)) fun es=>dw k=s∧gY s es∧K ⟨put d (if ok=true then .aS [(getM k es).getD (G8 z),.pv (.bool (getM k es).isSome)] else(getM k es).getD (G8 z)) (look vs),ab os⟩):=rfl
@[congr] theorem K8 {d:Option Nat}{s t:Nat}{z:Value}{ok:Bool}{k k':AV}{xs xs':List AV}{st:St} (h1:True→k=k') (h3:True→xs=xs'):ze d s t z ok k xs K st=ze d s t z ok k' xs' K st:=by rw[h1 trivial,h3 trivial]
@[simp↓] theorem Tq {d:Option Nat}{s:Nat}{ks:List PV}{z:Value}{ok:Bool}{k:PV}{xs:List AV}:Oh d s ks z ok (.pv k) xs K ⟨look vs,ab os⟩=(an xs∧zR z=true∧dw k=s∧(∀x∈ks,dw x=s)∧K ⟨put d (if ok=true then .aS [.agg [],.pv (.bool (ks.any (m8 k)))] else .agg []) (look vs),ab os⟩):=rfl
@[simp↓] theorem On {d:Option Nat}{x y:AV}:aX d .Yu [x,y] K ⟨look vs,ab os⟩=vJ d (strip x) (strip y) [x,y] K ⟨look vs,ab os⟩:=rfl
@[simp↓] theorem Y1 {d:Option Nat}{t o q:Nat}{e:TypeId}{i:Int}{xs:List AV}:vJ d (.aY t e i o) (.own q) xs K ⟨look vs,ab os⟩=(an xs∧ai (df (ab os t)) fun r=>(r.1=e∧o=0)∧(0≤i∧i<r.2.length∧(rowAt r.2 i).length=1)∧K ⟨put d .ak (look vs),aN t (.rws e ((r.2.map fun x=>AV.pv (x.getD 0 .nil)).set i.toNat (.own q))) (ab os)⟩):=rfl
@[simp↓] theorem MB {d:Option Nat}{x:AV}:aX d .Ew [x] K ⟨look vs,ab os⟩=s8 d (strip x) [x] K ⟨look vs,ab os⟩:=rfl
@[simp↓] theorem Ks {d:Option Nat}{a b c:AV}:aX d .zk [a,b,c] K ⟨look vs,ab os⟩=vI d [a,b,c] [strip a,strip b,strip c] K ⟨look vs,ab os⟩:=rfl
@[simp↓] theorem T5 {d:Option Nat}{xs:List AV}{a b c:Int}:vI d xs [.pv (.int .u64 a),.pv (.int .u64 b),.pv (.int .u64 c)] K ⟨look vs,ab os⟩=(an xs∧(0≤a∧0≤b∧0≤c∧c≤1)∧K ⟨put d (.aS [.pv (.int .u64 ((a+b+c)%18446744073709551616)),.pv (.int .u64 ((a+b+c)/18446744073709551616))]) (look vs),ab os⟩):=rfl
@[simp↓] theorem Lo {d:Option Nat}{x:AV}:aX d .Hc [x] K ⟨look vs,ab os⟩=ma d (strip x) [x] K ⟨look vs,ab os⟩:=by cases hk:strip x<;>simp[aX,uT,ma,hk];rename_i p;cases p<;>simp
@[simp↓] theorem PM {d:Option Nat}{xs:List AV}:ma d (.pv .nil) xs K ⟨look vs,ab os⟩=(an xs∧K ⟨put d (.pv (.int .i64 0)) (look vs),ab os⟩):=rfl
@[congr] theorem Kg {d:Option Nat}{x x':AV}{xs xs':List AV}{st:St} (h1:True→x=x') (h2:True→xs=xs'):ma d x xs K st=ma d x' xs' K st:=by rw[h1 trivial,h2 trivial]
@[simp↓] theorem PI {d:Option Nat}{e:TypeId}{b:Nat}{zs:List Value}{x y:AV}:aX d (.Qk e b zs) [x,y] K ⟨look vs,ab os⟩=Bd d e b zs [x,y] [strip x,strip y] K ⟨look vs,ab os⟩:=rfl
@[simp↓] theorem Lj {d:Option Nat}{e:TypeId}{xs:List AV}:aX d (.Ex e) xs K ⟨look vs,ab os⟩=xT d e xs (xs.map strip) K ⟨look vs,ab os⟩:=rfl
@[simp↓] theorem Md {d:Option Nat}{e:TypeId}{sz:Nat}{xs:List AV}:aX d (.mW e sz) xs K ⟨look vs,ab os⟩=qu d e sz xs (xs.map strip) K ⟨look vs,ab os⟩:=rfl
@[simp↓] theorem Rr {d:Nat}{e:TypeId}{sz:Nat}{xs ys:List AV}:qu (some d) e sz xs ys K ⟨look vs,ab os⟩=(an xs∧ai (rowsOf ys) fun rows=>(∀r∈rows,r.length=sz)∧ab os d=none∧K ⟨put (some d) (.own d) (look vs),bA [(d,.arr e rows)] (ab os)⟩):=nr rfl
@[simp↓] theorem LX {d:Option Nat}{e:TypeId}{sz b:Nat}{zs:List Value}{x y:AV}:aX d (.EO e sz b zs) [x,y] K ⟨look vs,ab os⟩=mh d e b zs [x,y] [strip x,strip y] K ⟨look vs,ab os⟩:=rfl
@[congr] theorem IK {d:Option Nat}{e:TypeId}{b:Nat}{zs:List Value}{xs xs' ys ys':List AV}{st:St} (h1:True→xs=xs') (h2:True→ys=ys'):mh d e b zs xs ys K st=mh d e b zs xs' ys' K st:=by rw[h1 trivial,h2 trivial]
@[simp↓] theorem Sb {d:Nat}{e:TypeId}{b:Nat}{zs:List Value}{xs:List AV}{n:Int}:mh (some d) e b zs xs [.pv .nil,.pv (.int .i64 n)] K ⟨look vs,ab os⟩=(an xs∧(0≤n∧n≤140737488355328∧n.toNat*b≤140737488355328)∧ab os d=none∧K ⟨put (some d) (.own d) (look vs),bA [(d,.arr e (List.replicate n.toNat (zs.map u7)))] (ab os)⟩):=rfl
@[simp↓] theorem Kh {d:Option Nat}{ne:Bool}{x:AV}:aX d (.vF ne) [x] K ⟨look vs,ab os⟩=(an [x]∧ai (fy (ab os) (strip x)) fun rows=>GP d ne rows K ⟨look vs,ab os⟩):=rfl
theorem j7 {d:Option Nat}{ne:Bool}{rows:List (List PV)}:GP d ne rows K ⟨look vs,ab os⟩=∀b:Bool,(rows≠[]→b=false)→K ⟨put d (.pv (.bool (if ne=true then !b else b))) (look vs),ab os⟩:=rfl
@[simp↓] theorem NU {d:Option Nat}{ne:Bool}{r:List PV}{rows:List (List PV)}:GP d ne (r::rows) K ⟨look vs,ab os⟩=K ⟨put d (.pv (.bool ne)) (look vs),ab os⟩:=by
 rw[j7];apply propext;constructor;·intro h;have:=h false (fun _=>rfl);cases ne<;>exact this
 ·intro h b hb;have:=hb (by simp);subst this;cases ne<;>exact h
@[simp] theorem Q2 (es:List (PV×AV)):xJ (some (.map es))=some es:=nr rfl
@[simp] theorem srt_int (k:IntKind) (n:Int):dw (.int k n)=2+m5 k:=nr rfl
@[simp] theorem srt_str (l:List UInt8):dw (.str l)=1:=nr rfl
@[simp] theorem Vz (b:Bool):dw (.bool b)=0:=nr rfl
@[simp] theorem VH:m5 .u64=7:=nr rfl
@[simp] theorem kIdx_u8:m5 .u8=4:=nr rfl
@[simp] theorem M7 (s:Nat):gY s []=True:=by simp[gY]
@[simp] theorem avZ_agg (cs:Array Value):G8 (.agg cs)=.agg (cs.toList.map cv):=nr rfl
@[simp↓] theorem Qe {d:Option Nat}{xs:List Operand}{un:List Nat}{tg:Option Nat}{e:TypeId}{s:Nat}{zs:List Value}:b9 P Γ ⟨d,.HR e s zs,xs,none,un,tg⟩ K ⟨look vs,ab os⟩=oH d e s zs (xs.map (ev (look vs))) K ⟨look vs,ab os⟩:=rfl
@[simp↓] theorem Pr {d:Option Nat}{e:TypeId}{s:Nat}{zs:List Value}{xs:List AV}:oH d e s zs xs K ⟨look vs,ab os⟩=(an xs∧ai ((xs.map strip).head?) fun X=>ai (EV (ab os) e zs X) fun r=>K ((bE.wE r.1 r.2).on d ⟨look vs,ab os⟩)):=rfl
@[simp↓] theorem Vf {f g:FuncId}{d:Option Nat}{xs:List Operand}{un:List Nat}{tg:Option Nat}:lI P Γ ⟨d,.call g,xs,none,un,tg⟩ f K ⟨look vs,ab os⟩=ai (fC (ab os) ((xs.map (ev (look vs))).map strip)) fun ys=>ai (gt Γ f ys) fun x=>if(Wn x.2&&!eR ((xs.map (ev (look vs))).map strip))=true then zG P Γ d f xs K (cJ ⟨look vs,ab os⟩ ((xs.map (ev (look vs))).map strip)) else cZ P Γ ⟨d,.call g,xs,none,un,tg⟩ K ⟨look vs,ab os⟩:=rfl
@[congr] theorem KQ {d:Option Nat}{f:FuncId}{xs:List Operand}{st st':St} (h:True→st=st'):zG P Γ d f xs K st=zG P Γ d f xs K st':=by rw[h trivial]
@[simp↓] theorem XY {d:Option Nat}{f:FuncId}{xs:List Operand}:zG P Γ d f xs K ⟨look vs,ab os⟩=cH P Γ d f (xs.map (ev (look vs))) (ab os) fun e=>K (e.on d ⟨look vs,ab os⟩):=rfl
@[simp↓] theorem Rh {d:Option Nat}{xs:List Operand}{g:Option (Nat×Bool)}{un:List Nat}{tg:Option Nat}{b:Bool}:b9 P Γ ⟨d,.G3 b,xs,g,un,tg⟩ K ⟨look vs,ab os⟩=cr P Γ ⟨d,.G3 b,xs,g,un,tg⟩ K ⟨look vs,ab os⟩:=rfl
@[simp↓] theorem RE {d:Option Nat}{xs:List Operand}{g:Option (Nat×Bool)}{un:List Nat}{tg:Option Nat}{ne:Bool}{ks:List Nat}:b9 P Γ ⟨d,.eqs ne ks,xs,g,un,tg⟩ K ⟨look vs,ab os⟩=cr P Γ ⟨d,.eqs ne ks,xs,g,un,tg⟩ K ⟨look vs,ab os⟩:=rfl
@[simp↓] theorem Lv {d:Option Nat}{xs:List Operand}{g:Option (Nat×Bool)}{un:List Nat}{tg:Option Nat}{n:Option Nat}:b9 P Γ ⟨d,.store n,xs,g,un,tg⟩ K ⟨look vs,ab os⟩=cr P Γ ⟨d,.store n,xs,g,un,tg⟩ K ⟨look vs,ab os⟩:=rfl
@[simp↓] theorem Sp {d:Option Nat}{xs:List Operand}{g:Option (Nat×Bool)}{un:List Nat}{e:TypeId}{s b:Nat}:b9 P Γ ⟨d,.app e s b,xs,g,un,none⟩ K ⟨look vs,ab os⟩=cr P Γ ⟨d,.app e s b,xs,g,un,none⟩ K ⟨look vs,ab os⟩:=rfl
@[simp↓] theorem Qv {d:Option Nat}{xs:List Operand}{un:List Nat}{e:TypeId}{s b:Nat}:b9 P Γ ⟨d,.app e s b,xs,none,un,some 999998⟩ K ⟨look vs,ab os⟩=if pg ((xs.map (ev (look vs))).map strip)=true then yr d e s b (xs.map (ev (look vs))) K ⟨look vs,ab os⟩ else cZ P Γ ⟨d,.app e s b,xs,none,un,some 999998⟩ K ⟨look vs,ab os⟩:=rfl
@[simp↓] theorem PB {d:Option Nat}{e:TypeId}{sz b:Nat}{xs:List AV}:yr d e sz b xs K ⟨look vs,ab os⟩=(an xs∧ai (HZ (ab os) e (xs.map strip)) fun r=>((r.2.1.length+r.2.2.length)*b≤140737488355328∧r.2.1.length+r.2.2.length≤maxLen∧(∀q∈r.2.2,q.length=sz))∧r.1%1000≠999∧K ⟨put d (.pv (.ro (r.2.1++r.2.2))) (Cj r.1 r.2.1 (look vs)),gb r.1 (ab os)⟩):=rfl
@[simp↓] theorem P7 {d:Option Nat}{xs:List Operand}{g:Option (Nat×Bool)}{un:List Nat}{tg:Option Nat}:b9 P Γ ⟨d,.rW,xs,g,un,tg⟩ K ⟨look vs,ab os⟩=cr P Γ ⟨d,.rW,xs,g,un,tg⟩ K ⟨look vs,ab os⟩:=rfl
@[simp↓] theorem PA {d:Option Nat}{xs:List Operand}{g:Option (Nat×Bool)}{un:List Nat}{tg:Option Nat}{e:TypeId}:b9 P Γ ⟨d,.ou e,xs,g,un,tg⟩ K ⟨look vs,ab os⟩=cr P Γ ⟨d,.ou e,xs,g,un,tg⟩ K ⟨look vs,ab os⟩:=rfl
@[simp↓] theorem dV {a b:AC}:iC P Γ (.seq a b) K J ⟨look vs,ab os⟩=iC P Γ a (fun st'=>iC P Γ b K J st') J ⟨look vs,ab os⟩:=rfl
@[simp↓] theorem zQ {x:Operand}{a b:AC}:iC P Γ (.cond x a b) K J ⟨look vs,ab os⟩=ai (ja (ev (look vs) x)) fun c=>(c=true→iC P Γ a K J ⟨look vs,ab os⟩)∧(c=false→iC P Γ b K J ⟨look vs,ab os⟩):=rfl
@[simp↓] theorem cp {id:Nat}{a:AC}:iC P Γ (.block id a) K J ⟨look vs,ab os⟩=iC P Γ a K (qY id K J) ⟨look vs,ab os⟩:=rfl
@[simp↓] theorem OT {id id':Nat}:qY id K J (.exit id') ⟨look vs,ab os⟩=if id'=id then K ⟨look vs,ab os⟩ else J (.exit id') ⟨look vs,ab os⟩:=rfl
@[simp↓] theorem QH {id:Nat}:qY id K J .ret ⟨look vs,ab os⟩=J .ret ⟨look vs,ab os⟩:=rfl
@[simp↓] theorem U7 {id:Nat}:iC P Γ (.exit id) K J ⟨look vs,ab os⟩=J (.exit id) ⟨look vs,ab os⟩:=rfl
@[simp↓] theorem vwp_ret:iC P Γ .ret K J ⟨look vs,ab os⟩=J .ret ⟨look vs,ab os⟩:=rfl
@[simp↓] theorem Q4:steps P Γ [] K ⟨look vs,ab os⟩=K ⟨look vs,ab os⟩:=rfl
@[simp↓] theorem O5 {i:AI}{is:List AI}:steps P Γ (i::is) K ⟨look vs,ab os⟩=cK P Γ i (fun st'=>steps P Γ is K st') ⟨look vs,ab os⟩:=rfl
@[simp↓] theorem P8 {d:Option Nat}{k:AK}{xs:List Operand}{g:Option (Nat×Bool)}{un:List Nat}:cK P Γ ⟨d,k,xs,g,un,none⟩ K ⟨look vs,ab os⟩=cZ P Γ ⟨d,k,xs,g,un,none⟩ K ⟨look vs,ab os⟩:=by cases k<;>rfl
@[simp↓] theorem L6 {d:Option Nat}{n:Option Nat}{xs:List Operand}{g:Option (Nat×Bool)}{un:List Nat}{tg:Option Nat}:cK P Γ ⟨d,.store n,xs,g,un,tg⟩ K ⟨look vs,ab os⟩=cZ P Γ ⟨d,.store n,xs,g,un,tg⟩ K ⟨look vs,ab os⟩:=rfl
@[simp↓] theorem PF {d:Option Nat}{f:FuncId}{xs:List Operand}{un:List Nat}:cK P Γ ⟨d,.call f,xs,none,un,some 999999⟩ K ⟨look vs,ab os⟩=iq P Γ ⟨d,.call f,xs,none,un,some 999999⟩ f (dP Γ f) K ⟨look vs,ab os⟩:=rfl
@[simp↓] theorem OW {d:Option Nat}{xs:List Operand}{un:List Nat}:cK P Γ ⟨d,.ly,xs,none,un,some 999999⟩ K ⟨look vs,ab os⟩=fW P Γ d (xs.map (ev (look vs))) none K ⟨look vs,ab os⟩:=rfl
@[congr] theorem L0 {i:AI}{f:FuncId}{o o':Option (Nat×Nat)}{st:St} (h:True→o=o'):iq P Γ i f o K st=iq P Γ i f o' K st:=by rw[h trivial]
@[simp↓] theorem O9 {f g:FuncId}{d:Option Nat}{xs:List Operand}{un:List Nat}{tg:Option Nat}:iq P Γ ⟨d,.call g,xs,none,un,tg⟩ f none K ⟨look vs,ab os⟩=cZ P Γ ⟨d,.call g,xs,none,[],none⟩ K ⟨look vs,ab os⟩:=rfl
@[simp↓] theorem Oc {f g:FuncId}{p k:Nat}{d:Option Nat}{xs:List Operand}{un:List Nat}{tg:Option Nat}:iq P Γ ⟨d,.call g,xs,none,un,tg⟩ f (some (p,k)) K ⟨look vs,ab os⟩=if k=998 then un=[]∧lp P Γ d f (xs.map (ev (look vs))) p k K ⟨look vs,ab os⟩ else if k=996 then nj (Dw (jd Γ f) (ab os) ((xs.map (ev (look vs))).map strip)) ⟨look vs,ab os⟩ un∧stepG Γ d f (xs.map (ev (look vs))) (jd Γ f) K ⟨look vs,ab os⟩ else False:=rfl
@[simp↓] theorem RH {T:List Nat}{st:St}:nj T st []=True:=rfl
@[simp↓] theorem N9 {T:List Nat}{s:Nat}{l:List Nat}:nj T ⟨look vs,ab os⟩ (s::l)=(ai (ldT (ab os) (look vs s)) (fun t=>T.contains t=false)∧nj T ⟨look vs,ab os⟩ l):=rfl
@[simp↓] theorem UF {d:Option Nat}{k:AK}{xs:List Operand}{g:Option (Nat×Bool)}{un:List Nat}{tg:Option Nat}:cZ P Γ ⟨d,k,xs,g,un,tg⟩ K ⟨look vs,ab os⟩=((un=[]∨j8 un (ab os) ((xs.map (ev (look vs))).map strip))∧dR P Γ ⟨d,k,xs,g,un,tg⟩ (look vs) (ab os) fun e=>By un tg e∧K (e.on d ⟨look vs,ab os⟩)):=rfl
@[simp↓] theorem Ri {d:Option Nat}{k:AK}{xs:List Operand}{un:List Nat}{tg:Option Nat}{aa:Nat→Option AO}{C:bE→Prop}{vars:Nat→AV}:dR P Γ ⟨d,k,xs,none,un,tg⟩ vars aa C=aZ P Γ d k (xs.map (ev vars)) aa C:=rfl
@[simp↓] theorem Sm {d:Option Nat}{k:AK}{xs:List Operand}{s:Nat}{w:Bool}{un:List Nat}{tg:Option Nat}{aa:Nat→Option AO}{C:bE→Prop}{vars:Nat→AV}:dR P Γ ⟨d,k,xs,some (s,w),un,tg⟩ vars aa C=ai (bJ (vars s) w) fun c=>cw P Γ c d k (xs.map (ev vars)) aa C:=rfl
theorem EG {e:bE}:lj [] e=True:=by cases e<;>simp[lj]
@[simp↓] theorem R2 {un:List Nat}{v:AV}:lj un (.put v)=True:=rfl
@[simp↓] theorem RJ {un:List Nat}{v:AV}{os:List (Nat×AO)}:lj un (.new v os)=True:=rfl
@[simp↓] theorem Sf {un:List Nat}{t:Nat}{o:AO}:lj un (.wE t o)=True:=rfl
@[simp↓] theorem Ta {un:List Nat}{t:Nat}{o:AO}:lj un (.app t o)=(un.contains (t%1000+1000)=false):=rfl
@[simp↓1100] theorem tgU_nil {tg:Option Nat}{e:bE}:By [] tg e=sO tg e:=by unfold By;rw[EG,and_true]
@[simp↓] theorem Yr {un:List Nat}{e:bE}:By un none e=lj un e:=by unfold By sO;rw[true_and]
@[simp↓] theorem X9 {un:List Nat}{s:Nat}{e:bE}:By un (some s) e=(sO (some s) e∧lj un e):=rfl
@[simp↓] theorem QL {e:bE}:sO none e=True:=rfl
@[simp↓] theorem VN {s t:Nat}{o:AO}:sO (some s) (.wE t o)=(t=s):=rfl
@[simp↓] theorem on_put {d:Option Nat}{v:AV}:(bE.put v).on d ⟨look vs,ab os⟩=⟨put d v (look vs),ab os⟩:=rfl
@[simp↓] theorem jO {d:Option Nat}{v:AV}{l:List (Nat×AO)}:(bE.new v l).on d ⟨look vs,ab os⟩=⟨put d v (look vs),bA l (ab os)⟩:=rfl
@[simp↓] theorem on_upd {d:Option Nat}{t:Nat}{o:AO}:(bE.wE t o).on d ⟨look vs,ab os⟩=⟨put d .ak (look vs),aN t o (ab os)⟩:=rfl
@[simp↓] theorem qz {d:Option Nat}{t:Nat}{o:AO}:(bE.app t o).on d ⟨look vs,ab os⟩=⟨put d (.own t) (cC t (look vs)),aN t o (dz t (ab os))⟩:=rfl
end
theorem Hb (d:Nat) (v:AV) (l:List (Nat×AV)):put (some d) v (look l)=look ((d,v)::l):=by funext s;simp[put,look]
theorem HC (v:AV) (f:Nat→AV):put none v f=f:=rfl
theorem E4 (t:Nat) (o:AO) (l:List (Nat×AO)):aN t o (ab l)=ab ((t,o)::l):=by funext s;simp[aN,ab]
theorem Ci (c7:List Nat) (l:List (Nat×AV)):jB c7 (look l)=look (c7.map fun s=>(s,look l s)):=by funext s;unfold jB;induction c7 with|nil=>simp[look]|cons k ks ih=>
 simp only[List.map_cons,look];by_cases h:s=k;·subst h;simp
 ·simp only[List.contains_cons,h,if_false];have:(s==k)=false:=by simpa using h
  rw[this];simpa using ih
theorem wU (t:Nat) (l:List (Nat×AV)):cC t (look l)=look (l.map fun x=>(x.1,kill t x.2)):=by funext s;unfold cC;induction l with|nil=>rfl|cons x l ih=>obtain⟨k,v⟩:=x;simp only[List.map_cons,look];split<;>simp_all
theorem CL (t:Nat) (l:List (Nat×AO)):dz t (ab l)=ab (l.map fun x=>(x.1,dX t x.2)):=by funext s;unfold dz;induction l with|nil=>rfl|cons x l ih=>obtain⟨k,v⟩:=x;simp only[List.map_cons,ab];split<;>simp_all
theorem Eh (m l:List (Nat×AO)):bA m (ab l)=ab (m++l):=by funext s;unfold bA;induction m with|nil=>simp[ab]|cons x m ih=>
 obtain⟨k,v⟩:=x;simp only[List.cons_append,ab];by_cases h:s=k;·simp[h]
 ·simp only[if_neg h];exact ih
theorem fw (vs:List (Nat×AV)) (os:List (Nat×AO)):(Fr.mk vs os).st=⟨look vs,ab os⟩:=rfl
def I8 (t:Nat):List (Nat×AO)→List (Nat×AO)|[]=>[]|x::l=>if x.1=t then I8 t l else(x.1,dX t x.2)::I8 t l
@[simp] theorem rmL_nil (t:Nat):I8 t []=[]:=nr rfl
@[simp] theorem HM (t s:Nat) (o:AO) (l:List (Nat×AO)):I8 t ((s,o)::l)=if s=t then I8 t l else(s,dX t o)::I8 t l:=nr rfl
theorem sL (t:Nat) (l:List (Nat×AO)):gb t (ab l)=ab (I8 t l):=by funext s;unfold gb;induction l with|nil=>simp[ab]|cons x l ih=>
 obtain⟨k,v⟩:=x;simp only[HM,ab];by_cases hs:s=t
 ·subst hs;simp only[if_true]at ih ⊢;by_cases hk:k=s;·simp[hk];exact ih
  ·have hk':¬s=k:=fun e=>hk e.symm;simp[hk,ab,hk'];exact ih
 ·simp only[hs,if_false]at ih ⊢;by_cases hk:k=t;·have:¬s=k:=fun e=>hs (e.trans hk);rw[if_pos hk,if_neg this];exact ih
  ·simp only[hk,if_false,ab];by_cases hsk:s=k;·simp[hsk]
   ·simp only[hsk,if_false];exact ih
def It (t:Nat) (e:TypeId) (rows:List (List PV)):List (Nat×AO)→List (Nat×AO)|[]=>[]|x::l=>if x.1=t then It t e rows l else(x.1,ID t e rows x.2)::It t e rows l
@[simp] theorem rmB_nil (t:Nat) (e:TypeId) (rows:List (List PV)):It t e rows []=[]:=nr rfl
@[simp] theorem GD (t s:Nat) (e:TypeId) (rows:List (List PV)) (o:AO) (l:List (Nat×AO)):It t e rows ((s,o)::l)=if s=t then It t e rows l else(s,ID t e rows o)::It t e rows l:=nr rfl
theorem Hk (t:Nat) (e0:TypeId) (rows:List (List PV)) (l:List (Nat×AV)):shW t e0 rows (look l)=look (l.map fun x=>(x.1,D3 t e0 rows x.2)):=by funext s;unfold shW;induction l with|nil=>rfl|cons x l ih=>obtain⟨k,v⟩:=x;simp only[List.map_cons,look];split<;>simp_all
theorem Eg (t:Nat) (e:TypeId) (rows:List (List PV)) (l:List (Nat×AO)):CU t e rows (ab l)=ab (It t e rows l):=by funext s;unfold CU;induction l with|nil=>simp[ab]|cons x l ih=>
 obtain⟨k,v⟩:=x;simp only[GD,ab];by_cases hs:s=t
 ·subst hs;simp only[if_true]at ih ⊢;by_cases hk:k=s;·simp[hk];exact ih
  ·have hk':¬s=k:=fun e=>hk e.symm;simp[hk,ab,hk'];exact ih
 ·simp only[hs,if_false]at ih ⊢;by_cases hk:k=t;·have:¬s=k:=fun e=>hs (e.trans hk);rw[if_pos hk,if_neg this];exact ih
  ·simp only[hk,if_false,ab];by_cases hsk:s=k;·simp[hsk]
   ·simp only[hsk,if_false];exact ih
@[simp] theorem Bx (vs:List (Nat×AV)) (os:List (Nat×AO)) (t:Nat):share1 ⟨look vs,ab os⟩ (.own t)=match df (ab os t) with|some r=>⟨look (vs.map fun x=>(x.1,D3 t r.1 r.2 x.2)),ab (It t r.1 r.2 os)⟩|none=>⟨look vs,ab os⟩:=by simp only[share1,jg];split<;>simp[*,Hk,Eg]
@[simp] theorem Zs (vs:List (Nat×AV)) (os:List (Nat×AO)) (t:Nat):tv t ⟨look vs,ab os⟩=match df (ab os t) with|some _=>⟨look (vs.map fun x=>(x.1,kill t x.2)),ab (I8 t os)⟩|none=>⟨look vs,ab os⟩:=by simp only[tv];split<;>simp[*,wU,sL]
@[simp] theorem Ty (st:St) (p:PV):share1 st (.pv p)=st:=nr rfl
@[simp] theorem PZ (st:St) (cs:List AV):share1 st (.agg cs)=gy st cs:=nr rfl
@[simp] theorem KB (st:St):gy st []=st:=nr rfl
@[simp] theorem Ke (st:St) (c:AV) (cs:List AV):gy st (c::cs)=gy (jg st c) cs:=nr rfl
@[simp] theorem OL (vs:List (Nat×AV)) (os:List (Nat×AO)) (t:Nat):jg ⟨look vs,ab os⟩ (.own t)=match df (ab os t) with|some r=>⟨look (vs.map fun x=>(x.1,D3 t r.1 r.2 x.2)),ab (It t r.1 r.2 os)⟩|none=>⟨look vs,ab os⟩:=Bx vs os t
@[simp] theorem Qr (st:St) (p:PV):jg st (.pv p)=st:=nr rfl
@[simp] theorem Py (st:St) (t o:Nat):share1 st (.ptr t o)=st:=nr rfl
@[simp] theorem PS (st:St) (f:FuncId) (cs:List AV):share1 st (.bZ f cs)=st:=nr rfl
@[simp] theorem J6 (st:St):cJ st []=st:=nr rfl
@[simp] theorem Im (st:St) (v:AV) (l:List AV):cJ st (v::l)=cJ (share1 st v) l:=nr rfl
@[simp] theorem aaz (e0:TypeId) (t s:Nat) (rows:List (List PV)):D3 t e0 rows (.own s)=if s=t then .pv (.ro rows) else .own s:=nr rfl
@[simp] theorem shC_own (e0:TypeId) (t s:Nat) (rows:List (List PV)):SZ t e0 rows (.own s)=if s=t then .pv (.ro rows) else .own s:=nr rfl
@[simp] theorem sh2_pv (e0:TypeId) (t:Nat) (rows:List (List PV)) (p:PV):D3 t e0 rows (.pv p)=.pv p:=nr rfl
@[simp] theorem sh2_ptr (e0:TypeId) (t s o:Nat) (rows:List (List PV)):D3 t e0 rows (.ptr s o)=.ptr s o:=nr rfl
@[simp] theorem US (e0:TypeId) (t s:Nat) (e:TypeId) (i:Int) (o:Nat) (rows:List (List PV)):D3 t e0 rows (.aY s e i o)=kill t (.aY s e i o):=nr rfl
@[simp] theorem sh2_agg (e0:TypeId) (t:Nat) (cs:List AV) (rows:List (List PV)):D3 t e0 rows (.agg cs)=.agg (rR t e0 rows cs):=nr rfl
@[simp] theorem sh2_cnd (e0:TypeId) (t:Nat) (g:Bool) (v:AV) (rows:List (List PV)):D3 t e0 rows (.ck g v)=kill t (.ck g v):=nr rfl
@[simp] theorem sh2_clo (e0:TypeId) (t:Nat) (f:FuncId) (cs:List AV) (rows:List (List PV)):D3 t e0 rows (.bZ f cs)=kill t (.bZ f cs):=nr rfl
@[simp] theorem Yd (e0:TypeId) (t:Nat) (rows:List (List PV)):D3 t e0 rows .ak=.ak:=nr rfl
@[simp] theorem Z8 (t:Nat) (e0:TypeId) (rows:List (List PV)):rR t e0 rows []=[]:=nr rfl
@[simp] theorem R9 (t:Nat) (e0:TypeId) (rows:List (List PV)) (c:AV) (cs:List AV):rR t e0 rows (c::cs)=SZ t e0 rows c::rR t e0 rows cs:=nr rfl
@[simp] theorem shC_pv (t:Nat) (e0:TypeId) (rows:List (List PV)) (p:PV):SZ t e0 rows (.pv p)=.pv p:=nr rfl
@[simp] theorem shO_box (t:Nat) (e0:TypeId) (rows:List (List PV)) (cs:List AV):ID t e0 rows (.box cs)=.box (rR t e0 rows cs):=nr rfl
@[simp] theorem shO_arr (t:Nat) (e0:TypeId) (rows:List (List PV)) (e:TypeId) (rs:List (List PV)):ID t e0 rows (.arr e rs)=.arr e rs:=nr rfl
@[simp] theorem shO_mpv (t:Nat) (e0:TypeId) (rows:List (List PV)) (es):ID t e0 rows (.iF es)=.iF es:=nr rfl
@[simp] theorem frR_pv (p:PV):VI (.pv p)=frC (.pv p):=nr rfl
@[simp] theorem frR_fr (e:TypeId) (rows:List (List PV)):VI (.fr e rows)=true:=nr rfl
@[simp] theorem Us (b:Bool):frC (.pv (.bool b))=false:=nr rfl
@[simp] theorem roR_tup (vs:List AV):Wn (.aS vs)=Ez vs:=nr rfl
@[simp] theorem roR_pv (p:PV):Wn (.pv p)=Ii (.pv p):=nr rfl
@[simp] theorem roR_fr (e:TypeId) (rows:List (List PV)):Wn (.fr e rows)=false:=nr rfl
@[simp] theorem XD:Ez []=false:=nr rfl
@[simp] theorem RA (c:AV) (cs:List AV):Ez (c::cs)=(RM c||Ez cs):=nr rfl
@[simp] theorem VO:Fs []=false:=nr rfl
@[simp] theorem Rv (c:AV) (cs:List AV):Fs (c::cs)=(Ii c||Fs cs):=nr rfl
@[simp] theorem ro1_agg (cs:List AV):RM (.agg cs)=Fs cs:=nr rfl
@[simp] theorem ro1_pv (p:PV):RM (.pv p)=Ii (.pv p):=nr rfl
@[simp] theorem ro1_fr (e:TypeId) (rows:List (List PV)):RM (.fr e rows)=false:=nr rfl
@[simp] theorem roC_ro (rows:List (List PV)):Ii (.pv (.ro rows))=true:=nr rfl
@[simp] theorem roC_int (k:IntKind) (n:Int):Ii (.pv (.int k n))=false:=nr rfl
@[simp] theorem Y8 (b:Bool):Ii (.pv (.bool b))=false:=nr rfl
@[simp] theorem roC_str (l:List UInt8):Ii (.pv (.str l))=false:=nr rfl
@[simp] theorem roC_fr (e:TypeId) (rows:List (List PV)):Ii (.fr e rows)=false:=nr rfl
@[simp] theorem Nk (aa:Nat→Option AO) (k t:Nat):hZ aa k (.own t)=(df (aa t)).map fun r=>(t,r.1,r.2):=nr rfl
@[simp] theorem markA_1 (e:TypeId) (rows:List (List PV)):yQ 998 e rows=.fr e rows:=nr rfl
@[simp] theorem reisU_0 (aa:Nat→Option AO) (m v:AV) (vs:List AV):rh aa m 0 (v::vs)=(fC aa vs).map (m::·):=nr rfl
@[simp] theorem Vm (v:AV) (vs:List AV):jG 0 (v::vs)=eR vs:=nr rfl
@[simp] theorem outR_fr (e:TypeId) (rows:List (List PV)):b7 (.fr e rows)=.fr e rows:=nr rfl
@[simp] theorem outO_fr (e:TypeId) (rows:List (List PV)):en (.fr e rows)=[]:=nr rfl
@[simp] theorem SX:oR []=True:=nr rfl
@[simp] theorem UN (t:Nat) (e:TypeId) (rows:List (List PV)) (vars:Nat→AV):iV t (.fr e rows) vars=cC t vars:=nr rfl
@[simp] theorem aal (t:Nat) (e:TypeId) (rows:List (List PV)) (aa:Nat→Option AO):cQ t (.fr e rows) aa=gb t aa:=nr rfl
@[simp] theorem offVs_0 (t:Nat) (v:AV) (vs:List AV):mA t 0 (v::vs)=mA.nJ t vs:=nr rfl
@[simp] theorem Nh (t:Nat):mA.nJ t []=True:=nr rfl
@[simp] theorem MC (t:Nat) (v:AV) (vs:List AV):mA.nJ t (v::vs)=(vB t v∧mA.nJ t vs):=nr rfl
@[simp] theorem offV_pv (t:Nat) (p:PV):vB t (.pv p)=True:=nr rfl
@[simp] theorem X7 (t s:Nat):vB t (.own s)=(s≠t):=nr rfl
attribute[simp] sL Hb HC E4 Ci wU CL Eh fw aP
@[simp] theorem look_nil (s:Nat):look [] s=.ak:=nr rfl
@[simp] theorem QC (t:Nat) (v:AV) (l:List (Nat×AV)) (s:Nat):look ((t,v)::l) s=if s=t then v else look l s:=nr rfl
@[simp] theorem Qx (s:Nat):ab [] s=none:=nr rfl
@[simp] theorem BQ (t:Nat) (v:AO) (l:List (Nat×AO)) (s:Nat):ab ((t,v)::l) s=if s=t then some v else ab l s:=nr rfl
section
variable(vars:Nat→AV) (t:Nat)
@[simp] theorem ev_tmp:ev vars (.tmp t)=vars t:=nr rfl
@[simp] theorem ev_int (k:IntKind) (n:Int):ev vars (.const (.int k n))=.pv (.int k n):=nr rfl
@[simp] theorem aaB (b:Bool):ev vars (.const (.bool b))=.pv (.bool b):=nr rfl
@[simp] theorem ev_str (s:ByteArray):ev vars (.const (.string s))=.pv (.str s.data.toList):=nr rfl
@[simp] theorem ev_nil:ev vars (.const (.slice none 0 0))=.pv .nil:=nr rfl
@[simp] theorem ev_func (f:FuncId):ev vars (.func f)=.bZ f []:=nr rfl
@[simp] theorem cv_int (k:IntKind) (n:Int):cv (.int k n)=.pv (.int k n):=nr rfl
@[simp] theorem cv_bool (b:Bool):cv (.bool b)=.pv (.bool b):=nr rfl
@[simp] theorem cv_str (s:ByteArray):cv (.string s)=.pv (.str s.data.toList):=nr rfl
@[simp] theorem cv_nil:cv (.slice none 0 0)=.pv .nil:=nr rfl
end
section
@[simp] theorem asks_pv (p:PV):asks (.pv p)=True:=nr rfl
@[simp] theorem XN (t:Nat):asks (.own t)=True:=nr rfl
@[simp] theorem Vy (t o:Nat):asks (.ptr t o)=True:=nr rfl
@[simp] theorem Q3 (t:Nat) (e:TypeId) (i:Int) (o:Nat):asks (.aY t e i o)=True:=nr rfl
@[simp] theorem Yv (t:Nat) (e:TypeId) (i o:Nat):asks (.sub t e i o)=True:=nr rfl
@[simp] theorem asks_rp (cs:List PV):asks (.rp cs)=True:=nr rfl
@[simp] theorem XT (cs:List AV):asks (.agg cs)=True:=nr rfl
@[simp] theorem Un (cs:List AV):asks (.aS cs)=True:=nr rfl
@[simp] theorem UE (f:FuncId) (cs:List AV):asks (.bZ f cs)=True:=nr rfl
@[simp] theorem QU:asks .ak=True:=nr rfl
@[simp] theorem Vw (g:Bool) (v:AV):asks (.ck g v)=(g=true∧asks v):=nr rfl
@[simp] theorem Tm:an []=True:=nr rfl
@[simp] theorem Ov (v:AV) (l:List AV):an (v::l)=(asks v∧an l):=nr rfl
@[simp] theorem Ut (p:PV):strip (.pv p)=.pv p:=nr rfl
@[simp] theorem Ry (g:Bool) (v:AV):strip (.ck g v)=strip v:=nr rfl
@[simp] theorem Sg (t:Nat):strip (.own t)=(.own t):=nr rfl
@[simp] theorem SM (t o:Nat):strip (.ptr t o)=(.ptr t o):=nr rfl
@[simp] theorem O6 (t:Nat) (e:TypeId) (i:Int) (o:Nat):strip (.aY t e i o)=(.aY t e i o):=nr rfl
@[simp] theorem Tu (t:Nat) (e:TypeId) (i o:Nat):strip (.sub t e i o)=(.sub t e i o):=nr rfl
@[simp] theorem YG (cs:List PV):strip (.rp cs)=(.rp cs):=nr rfl
@[simp] theorem SW (cs:List AV):strip (.agg cs)=(.agg cs):=nr rfl
@[simp] theorem Qs (cs:List AV):strip (.aS cs)=(.aS cs):=nr rfl
@[simp] theorem Sn (f:FuncId) (cs:List AV):strip (.bZ f cs)=(.bZ f cs):=nr rfl
@[simp] theorem MM:strip .ak=.ak:=nr rfl
@[simp] theorem T9 (b:Bool):bJ (.pv (.bool b)) true=some b:=nr rfl
@[simp] theorem UI (b:Bool):bJ (.pv (.bool b)) false=some (!b):=nr rfl
@[simp] theorem aas (c:Bool) (v:AV) (w:Bool):bJ (.ck c v) w=tQ c (bJ v w):=nr rfl
@[simp] theorem condB_t (o:Option Bool):tQ true o=o:=nr rfl
@[simp] theorem condB_f (o:Option Bool):tQ false o=some false:=nr rfl
@[simp] theorem condB_s (c b:Bool):tQ c (some b)=some (c&&b):=by cases c<;>rfl
@[simp] theorem Ur:fo []=false:=nr rfl
@[simp] theorem Ti (l:List AV):fo (.ak::l)=true:=nr rfl
@[simp] theorem Y6 (k:IntKind) (n:Int) (l:List AV):fo (.pv (.int k n)::l)=fo l:=nr rfl
@[simp] theorem Sj (b:Bool) (l:List AV):fo (.pv (.bool b)::l)=fo l:=nr rfl
@[simp] theorem Xj (b:List UInt8) (l:List AV):fo (.pv (.str b)::l)=fo l:=nr rfl
@[simp] theorem hasJ_ro (r:List (List PV)) (l:List AV):fo (.pv (.ro r)::l)=fo l:=nr rfl
@[simp] theorem Wf (t:Nat) (l:List AV):fo (.own t::l)=fo l:=nr rfl
@[simp] theorem WJ (t o:Nat) (l:List AV):fo (.ptr t o::l)=fo l:=nr rfl
@[simp] theorem RT (t:Nat) (e:TypeId) (i:Int) (o:Nat) (l:List AV):fo (.aY t e i o::l)=fo l:=nr rfl
@[simp] theorem Xs (l:List AV):fo (.rp []::l)=true:=nr rfl
@[simp] theorem hasJ_rp (c:PV) (cs:List PV) (l:List AV):fo (.rp (c::cs)::l)=fo l:=nr rfl
@[simp] theorem Vl (cs:List AV) (l:List AV):fo (.agg cs::l)=fo l:=nr rfl
@[simp] theorem TI (f:FuncId) (cs:List AV) (l:List AV):fo (.bZ f cs::l)=fo l:=nr rfl
@[simp] theorem Y2 (b:Bool):IC (some b)=!b:=by cases b<;>rfl
end
section
variable(op:BinOp) (k:IntKind) (a b:Int) (x y:List UInt8) (p q:Bool)
@[simp] theorem TN:dt .add (.int k a) (.int k b)=some (True,.int k (k.wrap (a+b))):=by simp[dt]
@[simp] theorem T2:dt .sub (.int k a) (.int k b)=some (True,.int k (k.wrap (a-b))):=by simp[dt]
@[simp] theorem Vh:dt .mul (.int k a) (.int k b)=some (True,.int k (k.wrap (a*b))):=by simp[dt]
@[simp] theorem Y4:dt .quo (.int k a) (.int k b)=some (b≠0,.int k (k.wrap (a.tdiv b))):=by simp[dt]
@[simp] theorem Xx:dt .rem (.int k a) (.int k b)=some (b≠0,.int k (a.tmod b)):=by simp[dt]
@[simp] theorem TX:dt .eql (.int k a) (.int k b)=some (True,.bool (decide (a=b))):=by simp[dt]
@[simp] theorem XP:dt .neq (.int k a) (.int k b)=some (True,.bool (!decide (a=b))):=by simp[dt]
@[simp] theorem Yo:dt .lss (.int k a) (.int k b)=some (True,.bool (decide (a<b))):=by simp[dt]
@[simp] theorem V4:dt .leq (.int k a) (.int k b)=some (True,.bool (decide (a≤b))):=by simp[dt]
@[simp] theorem Xe:dt .gtr (.int k a) (.int k b)=some (True,.bool (decide (b<a))):=by simp[dt]
@[simp] theorem Yf:dt .geq (.int k a) (.int k b)=some (True,.bool (decide (b≤a))):=by simp[dt]
@[simp] theorem aaw:dt .and (.int k a) (.int k b)=some (True,fS .and k a b):=by simp[dt]
@[simp] theorem sbin_or:dt .or (.int k a) (.int k b)=some (True,fS .or k a b):=by simp[dt]
@[simp] theorem WB:dt .xor (.int k a) (.int k b)=some (True,fS .xor k a b):=by simp[dt]
@[simp] theorem Lr:dt .andNot (.int k a) (.int k b)=some (True,fS .andNot k a b):=by simp[dt]
@[simp] theorem T1 (k':IntKind):dt .shl (.int k a) (.int k' b)=some (0≤b,.int k (k.wrap (a*2^(min b.toNat k.bits)))):=nr rfl
@[simp] theorem Vp (k':IntKind):dt .shr (.int k a) (.int k' b)=some (0≤b,.int k (a.fdiv (2^(min b.toNat k.bits)))):=nr rfl
@[simp] theorem Rl:dt .eql (.str x) (.str y)=some (True,.bool (decide (x=y))):=nr rfl
@[simp] theorem Tg:dt .neq (.str x) (.str y)=some (True,.bool (!decide (x=y))):=nr rfl
@[simp] theorem QE:dt .lss (.str x) (.str y)=some (True,.bool (Op.bytesLess x y)):=nr rfl
@[simp] theorem Se:dt .gtr (.str x) (.str y)=some (True,.bool (!(Op.bytesLess x y||decide (x=y)))):=nr rfl
@[simp] theorem TB:dt .geq (.str x) (.str y)=some (True,.bool (!Op.bytesLess x y)):=nr rfl
end
@[simp↓] theorem VM {P:Program}{Γ:bR}{d:Option Nat}{aa:Nat→Option AO}{C:bE→Prop}{xs:List AV}{op:BinOp}:aZ P Γ d (.bin op) xs aa C=(an xs∧ai (al (.bin op) (xs.map strip) aa) fun x=>x.1∧C (.put x.2)):=rfl
@[simp↓] theorem VK {P:Program}{Γ:bR}{d:Option Nat}{aa:Nat→Option AO}{C:bE→Prop}{xs:List AV}{c:Bool}{op:BinOp}:cw P Γ c d (.bin op) xs aa C=ai (al (.bin op) (xs.map strip) aa) fun x=>(c=true→an xs∧x.1)∧C (.put (.ck c x.2)):=rfl
@[simp↓] theorem VE {P:Program}{Γ:bR}{d:Option Nat}{aa:Nat→Option AO}{C:bE→Prop}{xs:List AV}{ne:Bool}:aZ P Γ d (.beq ne) xs aa C=(an xs∧ai (al (.beq ne) (xs.map strip) aa) fun x=>x.1∧C (.put x.2)):=rfl
@[simp↓] theorem Yh {P:Program}{Γ:bR}{d:Option Nat}{aa:Nat→Option AO}{C:bE→Prop}{xs:List AV}{c:Bool}{ne:Bool}:cw P Γ c d (.beq ne) xs aa C=ai (al (.beq ne) (xs.map strip) aa) fun x=>(c=true→an xs∧x.1)∧C (.put (.ck c x.2)):=rfl
@[simp↓] theorem Q7 {P:Program}{Γ:bR}{d:Option Nat}{aa:Nat→Option AO}{C:bE→Prop}{xs:List AV}:aZ P Γ d .vt xs aa C=(an xs∧ai (al .vt (xs.map strip) aa) fun x=>x.1∧C (.put x.2)):=rfl
@[simp↓] theorem Sq {P:Program}{Γ:bR}{d:Option Nat}{aa:Nat→Option AO}{C:bE→Prop}{xs:List AV}{c:Bool}:cw P Γ c d .vt xs aa C=ai (al .vt (xs.map strip) aa) fun x=>(c=true→an xs∧x.1)∧C (.put (.ck c x.2)):=rfl
@[simp↓] theorem Zk {P:Program}{Γ:bR}{d:Option Nat}{aa:Nat→Option AO}{C:bE→Prop}{xs:List AV}{ne:Bool}{ks:List Nat}:aZ P Γ d (.eqs ne ks) xs aa C=(an xs∧ai (al (.eqs ne ks) (xs.map strip) aa) fun x=>x.1∧C (.put x.2)):=rfl
@[simp↓] theorem Wq {P:Program}{Γ:bR}{d:Option Nat}{aa:Nat→Option AO}{C:bE→Prop}{xs:List AV}{c:Bool}{ne:Bool}{ks:List Nat}:cw P Γ c d (.eqs ne ks) xs aa C=ai (al (.eqs ne ks) (xs.map strip) aa) fun x=>(c=true→an xs∧x.1)∧C (.put (.ck c x.2)):=rfl
@[simp↓] theorem ZS {P:Program}{Γ:bR}{d:Option Nat}{aa:Nat→Option AO}{C:bE→Prop}{xs:List AV}{b:Bool}:aZ P Γ d (.G3 b) xs aa C=(an xs∧ai (al (.G3 b) (xs.map strip) aa) fun x=>x.1∧C (.put x.2)):=rfl
@[simp↓] theorem Xd {P:Program}{Γ:bR}{d:Option Nat}{aa:Nat→Option AO}{C:bE→Prop}{xs:List AV}{c:Bool}{b:Bool}:cw P Γ c d (.G3 b) xs aa C=ai (al (.G3 b) (xs.map strip) aa) fun x=>(c=true→an xs∧x.1)∧C (.put (.ck c x.2)):=rfl
@[simp↓] theorem R8 {P:Program}{Γ:bR}{d:Option Nat}{aa:Nat→Option AO}{C:bE→Prop}{xs:List AV}{e:TypeId}:aZ P Γ d (.ou e) xs aa C=(an xs∧ai (al (.ou e) (xs.map strip) aa) fun x=>x.1∧C (.put x.2)):=rfl
@[simp↓] theorem Qm {P:Program}{Γ:bR}{d:Option Nat}{aa:Nat→Option AO}{C:bE→Prop}{xs:List AV}{c:Bool}{e:TypeId}:cw P Γ c d (.ou e) xs aa C=ai (al (.ou e) (xs.map strip) aa) fun x=>(c=true→an xs∧x.1)∧C (.put (.ck c x.2)):=rfl
@[simp↓] theorem RX {P:Program}{Γ:bR}{d:Option Nat}{aa:Nat→Option AO}{C:bE→Prop}{xs:List AV}:aZ P Γ d (.rW) xs aa C=(an xs∧ai (al (.rW) (xs.map strip) aa) fun x=>x.1∧C (.put x.2)):=rfl
@[simp↓] theorem Qp {P:Program}{Γ:bR}{d:Option Nat}{aa:Nat→Option AO}{C:bE→Prop}{xs:List AV}{c:Bool}:cw P Γ c d (.rW) xs aa C=ai (al (.rW) (xs.map strip) aa) fun x=>(c=true→an xs∧x.1)∧C (.put (.ck c x.2)):=rfl
@[simp↓] theorem UM {P:Program}{Γ:bR}{d:Option Nat}{aa:Nat→Option AO}{C:bE→Prop}{xs:List AV}:aZ P Γ d .Di xs aa C=(an xs∧ai (al .Di (xs.map strip) aa) fun x=>x.1∧C (.put x.2)):=rfl
@[simp↓] theorem V8 {P:Program}{Γ:bR}{d:Option Nat}{aa:Nat→Option AO}{C:bE→Prop}{xs:List AV}{c:Bool}:cw P Γ c d .Di xs aa C=ai (al .Di (xs.map strip) aa) fun x=>(c=true→an xs∧x.1)∧C (.put (.ck c x.2)):=rfl
@[simp↓] theorem WK {P:Program}{Γ:bR}{d:Option Nat}{aa:Nat→Option AO}{C:bE→Prop}{xs:List AV}:aZ P Γ d .not xs aa C=(an xs∧ai (al .not (xs.map strip) aa) fun x=>x.1∧C (.put x.2)):=rfl
@[simp↓] theorem Z7 {P:Program}{Γ:bR}{d:Option Nat}{aa:Nat→Option AO}{C:bE→Prop}{xs:List AV}{c:Bool}:cw P Γ c d .not xs aa C=ai (al .not (xs.map strip) aa) fun x=>(c=true→an xs∧x.1)∧C (.put (.ck c x.2)):=rfl
@[simp↓] theorem TK {P:Program}{Γ:bR}{d:Option Nat}{aa:Nat→Option AO}{C:bE→Prop}{xs:List AV}:aZ P Γ d .neg xs aa C=(an xs∧ai (al .neg (xs.map strip) aa) fun x=>x.1∧C (.put x.2)):=rfl
@[simp↓] theorem Wx {P:Program}{Γ:bR}{d:Option Nat}{aa:Nat→Option AO}{C:bE→Prop}{xs:List AV}{c:Bool}:cw P Γ c d .neg xs aa C=ai (al .neg (xs.map strip) aa) fun x=>(c=true→an xs∧x.1)∧C (.put (.ck c x.2)):=rfl
@[simp↓] theorem UP {P:Program}{Γ:bR}{d:Option Nat}{aa:Nat→Option AO}{C:bE→Prop}{xs:List AV}{k:IntKind}:aZ P Γ d (.CE k) xs aa C=(an xs∧ai (al (.CE k) (xs.map strip) aa) fun x=>x.1∧C (.put x.2)):=rfl
@[simp↓] theorem Xc {P:Program}{Γ:bR}{d:Option Nat}{aa:Nat→Option AO}{C:bE→Prop}{xs:List AV}{c:Bool}{k:IntKind}:cw P Γ c d (.CE k) xs aa C=ai (al (.CE k) (xs.map strip) aa) fun x=>(c=true→an xs∧x.1)∧C (.put (.ck c x.2)):=rfl
@[simp↓] theorem Ub {P:Program}{Γ:bR}{d:Option Nat}{aa:Nat→Option AO}{C:bE→Prop}{xs:List AV}:aZ P Γ d .len xs aa C=(an xs∧ai (al .len (xs.map strip) aa) fun x=>x.1∧C (.put x.2)):=rfl
@[simp↓] theorem Yq {P:Program}{Γ:bR}{d:Option Nat}{aa:Nat→Option AO}{C:bE→Prop}{xs:List AV}{c:Bool}:cw P Γ c d .len xs aa C=ai (al .len (xs.map strip) aa) fun x=>(c=true→an xs∧x.1)∧C (.put (.ck c x.2)):=rfl
@[simp↓] theorem QP {P:Program}{Γ:bR}{d:Option Nat}{aa:Nat→Option AO}{C:bE→Prop}{xs:List AV}:aZ P Γ d .vd xs aa C=(an xs∧ai (al .vd (xs.map strip) aa) fun x=>x.1∧C (.put x.2)):=rfl
@[simp↓] theorem QO {P:Program}{Γ:bR}{d:Option Nat}{aa:Nat→Option AO}{C:bE→Prop}{xs:List AV}{c:Bool}:cw P Γ c d .vd xs aa C=ai (al .vd (xs.map strip) aa) fun x=>(c=true→an xs∧x.1)∧C (.put (.ck c x.2)):=rfl
@[simp↓] theorem XS {P:Program}{Γ:bR}{d:Option Nat}{aa:Nat→Option AO}{C:bE→Prop}{xs:List AV}{a b:Bool}:aZ P Γ d (.I7 a b) xs aa C=(an xs∧ai (al (.I7 a b) (xs.map strip) aa) fun x=>x.1∧C (.put x.2)):=rfl
@[simp↓] theorem X3 {P:Program}{Γ:bR}{d:Option Nat}{aa:Nat→Option AO}{C:bE→Prop}{xs:List AV}{c:Bool}{a b:Bool}:cw P Γ c d (.I7 a b) xs aa C=ai (al (.I7 a b) (xs.map strip) aa) fun x=>(c=true→an xs∧x.1)∧C (.put (.ck c x.2)):=rfl
@[simp↓] theorem Yg {P:Program}{Γ:bR}{d:Option Nat}{aa:Nat→Option AO}{C:bE→Prop}{xs:List AV}{o:Nat}{n:Option Nat}:aZ P Γ d (.FI o n) xs aa C=(an xs∧ai (al (.FI o n) (xs.map strip) aa) fun x=>x.1∧C (.put x.2)):=rfl
@[simp↓] theorem Uj {P:Program}{Γ:bR}{d:Option Nat}{aa:Nat→Option AO}{C:bE→Prop}{xs:List AV}{c:Bool}{o:Nat}{n:Option Nat}:cw P Γ c d (.FI o n) xs aa C=ai (al (.FI o n) (xs.map strip) aa) fun x=>(c=true→an xs∧x.1)∧C (.put (.ck c x.2)):=rfl
@[simp↓] theorem VR {P:Program}{Γ:bR}{d:Option Nat}{aa:Nat→Option AO}{C:bE→Prop}{xs:List AV}{o:Nat}:aZ P Γ d (.sy o) xs aa C=(an xs∧ai (al (.sy o) (xs.map strip) aa) fun x=>x.1∧C (.put x.2)):=rfl
@[simp↓] theorem VL {P:Program}{Γ:bR}{d:Option Nat}{aa:Nat→Option AO}{C:bE→Prop}{xs:List AV}{c:Bool}{o:Nat}:cw P Γ c d (.sy o) xs aa C=ai (al (.sy o) (xs.map strip) aa) fun x=>(c=true→an xs∧x.1)∧C (.put (.ck c x.2)):=rfl
@[simp↓] theorem RQ {P:Program}{Γ:bR}{d:Option Nat}{aa:Nat→Option AO}{C:bE→Prop}{xs:List AV}{n:Option Nat}:aZ P Γ d (.load n) xs aa C=(an xs∧ai (al (.load n) (xs.map strip) aa) fun x=>x.1∧C (.put x.2)):=rfl
@[simp↓] theorem R1 {P:Program}{Γ:bR}{d:Option Nat}{aa:Nat→Option AO}{C:bE→Prop}{xs:List AV}{c:Bool}{n:Option Nat}:cw P Γ c d (.load n) xs aa C=ai (al (.load n) (xs.map strip) aa) fun x=>(c=true→an xs∧x.1)∧C (.put (.ck c x.2)):=rfl
@[simp↓] theorem Wv {P:Program}{Γ:bR}{d:Option Nat}{aa:Nat→Option AO}{C:bE→Prop}{xs:List AV}{e:TypeId}{s:Nat}:aZ P Γ d (.Fw e s) xs aa C=(an xs∧ai (al (.Fw e s) (xs.map strip) aa) fun x=>x.1∧C (.put x.2)):=rfl
@[simp↓] theorem Xn {P:Program}{Γ:bR}{d:Option Nat}{aa:Nat→Option AO}{C:bE→Prop}{xs:List AV}{e s:Nat}:aZ P Γ d (.FA e s) xs aa C=(an xs∧ai (al (.FA e s) (xs.map strip) aa) fun x=>x.1∧C (.put x.2)):=rfl
@[simp↓] theorem VY {P:Program}{Γ:bR}{d:Option Nat}{aa:Nat→Option AO}{C:bE→Prop}{xs:List AV}:aZ P Γ d .ED xs aa C=(an xs∧ai (al .ED (xs.map strip) aa) fun x=>x.1∧C (.put x.2)):=rfl
@[simp↓] theorem YK {P:Program}{Γ:bR}{d:Option Nat}{aa:Nat→Option AO}{C:bE→Prop}{xs:List AV}{c:Bool}{e:TypeId}{s:Nat}:cw P Γ c d (.Fw e s) xs aa C=ai (al (.Fw e s) (xs.map strip) aa) fun x=>(c=true→an xs∧x.1)∧C (.put (.ck c x.2)):=rfl
@[simp↓] theorem Zj {P:Program}{Γ:bR}{d:Option Nat}{aa:Nat→Option AO}{C:bE→Prop}{xs:List AV}{c:Bool}{e s:Nat}:cw P Γ c d (.FA e s) xs aa C=ai (al (.FA e s) (xs.map strip) aa) fun x=>(c=true→an xs∧x.1)∧C (.put (.ck c x.2)):=rfl
@[simp↓] theorem UK {P:Program}{Γ:bR}{d:Option Nat}{aa:Nat→Option AO}{C:bE→Prop}{xs:List AV}{c:Bool}:cw P Γ c d .ED xs aa C=ai (al .ED (xs.map strip) aa) fun x=>(c=true→an xs∧x.1)∧C (.put (.ck c x.2)):=rfl
@[simp↓] theorem ZT {P:Program}{Γ:bR}{d:Option Nat}{aa:Nat→Option AO}{C:bE→Prop}{xs:List AV}{s:Nat}{a b:Bool}:aZ P Γ d (.Cw s a b) xs aa C=(an xs∧ai (al (.Cw s a b) (xs.map strip) aa) fun x=>x.1∧C (.put x.2)):=rfl
@[simp↓] theorem ZW {P:Program}{Γ:bR}{d:Option Nat}{aa:Nat→Option AO}{C:bE→Prop}{xs:List AV}{c:Bool}{s:Nat}{a b:Bool}:cw P Γ c d (.Cw s a b) xs aa C=ai (al (.Cw s a b) (xs.map strip) aa) fun x=>(c=true→an xs∧x.1)∧C (.put (.ck c x.2)):=rfl
@[simp↓] theorem TM {P:Program}{Γ:bR}{d:Option Nat}{aa:Nat→Option AO}{C:bE→Prop}{xs:List AV}{i:Nat}:aZ P Γ d (.ext i) xs aa C=(an xs∧ai (al (.ext i) (xs.map strip) aa) fun x=>x.1∧C (.put x.2)):=rfl
@[simp↓] theorem ZK {P:Program}{Γ:bR}{d:Option Nat}{aa:Nat→Option AO}{C:bE→Prop}{xs:List AV}{c:Bool}{i:Nat}:cw P Γ c d (.ext i) xs aa C=ai (al (.ext i) (xs.map strip) aa) fun x=>(c=true→an xs∧x.1)∧C (.put (.ck c x.2)):=rfl
@[simp↓] theorem T6 {P:Program}{Γ:bR}{d:Option Nat}{aa:Nat→Option AO}{C:bE→Prop}{xs:List AV}{zs:List Value}{ps:List (Nat×Nat)}:aZ P Γ d (.H9 zs ps) xs aa C=(an xs∧ai (al (.H9 zs ps) (xs.map strip) aa) fun x=>x.1∧C (.put x.2)):=rfl
@[simp↓] theorem U5 {P:Program}{Γ:bR}{d:Option Nat}{aa:Nat→Option AO}{C:bE→Prop}{xs:List AV}{c:Bool}{zs:List Value}{ps:List (Nat×Nat)}:cw P Γ c d (.H9 zs ps) xs aa C=ai (al (.H9 zs ps) (xs.map strip) aa) fun x=>(c=true→an xs∧x.1)∧C (.put (.ck c x.2)):=rfl
@[simp↓] theorem Y7 {P:Program}{Γ:bR}{d:Option Nat}{aa:Nat→Option AO}{C:bE→Prop}{xs:List AV}{f:FuncId}:aZ P Γ d (.Ih f) xs aa C=(an xs∧ai (al (.Ih f) (xs.map strip) aa) fun x=>x.1∧C (.put x.2)):=rfl
@[simp↓] theorem Y3 {P:Program}{Γ:bR}{d:Option Nat}{aa:Nat→Option AO}{C:bE→Prop}{xs:List AV}{c:Bool}{f:FuncId}:cw P Γ c d (.Ih f) xs aa C=ai (al (.Ih f) (xs.map strip) aa) fun x=>(c=true→an xs∧x.1)∧C (.put (.ck c x.2)):=rfl
@[simp↓] theorem SL {P:Program}{Γ:bR}{d:Option Nat}{aa:Nat→Option AO}{C:bE→Prop}{xs:List AV}{e:TypeId}:aZ P Γ d (.ij e) xs aa C=ai d fun d=>an xs∧ai (cD (.ij e) d (xs.map strip) aa) fun x=>x.1∧aa d=none∧C (.new x.2.1 [(d,x.2.2)]):=rfl
@[simp↓] theorem U1 {P:Program}{Γ:bR}{d:Option Nat}{aa:Nat→Option AO}{C:bE→Prop}{xs:List AV}:aZ P Γ d .box xs aa C=ai d fun d=>an xs∧ai (cD .box d (xs.map strip) aa) fun x=>x.1∧aa d=none∧C (.new x.2.1 [(d,x.2.2)]):=rfl
@[simp↓] theorem OE {P:Program}{Γ:bR}{d:Option Nat}{aa:Nat→Option AO}{C:bE→Prop}{xs:List AV}{zs:List Value}:aZ P Γ d (.alloc zs) xs aa C=ai d fun d=>an xs∧ai (cD (.alloc zs) d (xs.map strip) aa) fun x=>x.1∧aa d=none∧C (.new x.2.1 [(d,x.2.2)]):=rfl
@[simp↓] theorem XO {P:Program}{Γ:bR}{d:Option Nat}{aa:Nat→Option AO}{C:bE→Prop}{xs:List AV}{e:TypeId}{sz:Nat}:aZ P Γ d (.rT e sz) xs aa C=ai d fun d=>an xs∧ai (cD (.rT e sz) d (xs.map strip) aa) fun x=>x.1∧aa d=none∧C (.new x.2.1 [(d,x.2.2)]):=rfl
@[simp↓] theorem Tz {P:Program}{Γ:bR}{d:Option Nat}{aa:Nat→Option AO}{C:bE→Prop}{xs:List AV}{c:Bool}{e:TypeId}:cw P Γ c d (.ij e) xs aa C=((c=true→aZ P Γ d (.ij e) xs aa C)∧(c=false→C (.put .ak))):=rfl
@[simp↓] theorem Wu {P:Program}{Γ:bR}{d:Option Nat}{aa:Nat→Option AO}{C:bE→Prop}{xs:List AV}{c:Bool}:cw P Γ c d .box xs aa C=((c=true→aZ P Γ d .box xs aa C)∧(c=false→C (.put .ak))):=rfl
@[simp↓] theorem M8 {P:Program}{Γ:bR}{d:Option Nat}{aa:Nat→Option AO}{C:bE→Prop}{xs:List AV}{c:Bool}{zs:List Value}:cw P Γ c d (.alloc zs) xs aa C=((c=true→aZ P Γ d (.alloc zs) xs aa C)∧(c=false→C (.put .ak))):=rfl
@[simp↓] theorem Y9 {P:Program}{Γ:bR}{d:Option Nat}{aa:Nat→Option AO}{C:bE→Prop}{xs:List AV}{c:Bool}{e:TypeId}{sz:Nat}:cw P Γ c d (.rT e sz) xs aa C=((c=true→aZ P Γ d (.rT e sz) xs aa C)∧(c=false→C (.put (Ac xs)))):=rfl
@[simp] theorem Va (xs:List AV):Ac xs=GN (rowsOf (xs.map strip)):=nr rfl
@[simp] theorem MY (rows:List (List PV)):GN (some rows)=.ck false (.pv (.ro rows)):=nr rfl
@[simp↓] theorem PK {P:Program}{Γ:bR}{d:Option Nat}{aa:Nat→Option AO}{C:bE→Prop}{xs:List AV}{c:Bool}{n:Option Nat}:cw P Γ c d (.store n) xs aa C=((c=true→aZ P Γ d (.store n) xs aa C)∧(c=false→C (.put .ak))):=rfl
@[simp↓] theorem Zu {P:Program}{Γ:bR}{d:Option Nat}{aa:Nat→Option AO}{C:bE→Prop}{xs:List AV}{c:Bool}{e:TypeId}{z b:Nat}:cw P Γ c d (.app e z b) xs aa C=((c=true→aZ P Γ d (.app e z b) xs aa C)∧(c=false→C (.put .ak))):=rfl
@[simp↓] theorem ZU {P:Program}{Γ:bR}{d:Option Nat}{aa:Nat→Option AO}{C:bE→Prop}{x:AV}:aZ P Γ d .nX [x] aa C=C (.put x):=by simp[aZ,ai]
@[simp↓] theorem XU {P:Program}{Γ:bR}{c:Bool}{d:Option Nat}{aa:Nat→Option AO}{C:bE→Prop}{x:AV}:cw P Γ c d .nX [x] aa C=C (.put (.ck c x)):=by simp[cw,ai]
@[simp↓] theorem pF {P:Program}{Γ:bR}{d:Option Nat}{aa:Nat→Option AO}{C:bE→Prop}{xs:List AV}:aZ P Γ d .pick xs aa C=ai (tE xs) fun x=>x.1∧C (.put x.2):=rfl
@[simp↓] theorem xo {P:Program}{Γ:bR}{d:Option Nat}{aa:Nat→Option AO}{C:bE→Prop}{xs:List AV}{c:Bool}:cw P Γ c d .pick xs aa C=ai (tE xs) fun x=>(c=true→x.1)∧C (.put (.ck c x.2)):=rfl
@[simp↓] theorem Ni {P:Program}{Γ:bR}{d:Option Nat}{aa:Nat→Option AO}{C:bE→Prop}{xs:List AV}{n:Option Nat}:aZ P Γ d (.store n) xs aa C=(an xs∧ai (eS (.store n) (xs.map strip) aa) fun x=>x.1∧C (.wE x.2.1 x.2.2)):=rfl
@[simp↓] theorem Iz {P:Program}{Γ:bR}{d:Option Nat}{aa:Nat→Option AO}{C:bE→Prop}{x:AV}{t:Nat}{e:TypeId}{z b:Nat}:aZ P Γ d (.app e z b) [.own t,x] aa C=(an [.own t,x]∧ai (eS (.app e z b) [.own t,strip x] aa) fun x=>x.1∧C (.app x.2.1 x.2.2)):=rfl
@[simp↓] theorem Km {P:Program}{Γ:bR}{d:Option Nat}{aa:Nat→Option AO}{C:bE→Prop}{x:AV}{e:TypeId}{z b:Nat}:aZ P Γ d (.app e z b) [.pv .nil,x] aa C=(an [.pv .nil,x]∧ai d fun d=>ai (cD (.app e z b) d [.pv .nil,strip x] aa) fun x=>x.1∧aa d=none∧C (.new x.2.1 [(d,x.2.2)])):=rfl
@[simp↓] theorem RC {P:Program}{Γ:bR}{d:Option Nat}{aa:Nat→Option AO}{C:bE→Prop}{xs:List AV}{f:FuncId}:aZ P Γ d (.call f) xs aa C=cH P Γ d f xs aa C:=rfl
@[simp↓] theorem Ra {P:Program}{Γ:bR}{d:Option Nat}{aa:Nat→Option AO}{C:bE→Prop}{xs:List AV}{c:Bool}{f:FuncId}:cw P Γ c d (.call f) xs aa C=ai (fC aa (xs.map strip)) fun ys=>ai (gt Γ f ys) fun x=>if(!oq x.2&&(Bs x.2).isEmpty)=true then(c=true→an xs∧x.1)∧flat x.2∧Bs x.2=[]∧dA x.2=true∧C (.put (.ck c x.2)) else(c=true→cH P Γ d f xs aa C)∧(c=false→C (.put (.ck false (I2 x.2)))):=rfl
@[simp] theorem unfr_fr (e:TypeId) (rows:List (List PV)):I2 (.fr e rows)=.pv (.ro rows):=nr rfl
@[simp] theorem Wm (cs:List AV):I2 (.agg cs)=.agg (cs.map Az):=nr rfl
@[simp] theorem Yw (e:TypeId) (rows:List (List PV)):Az (.fr e rows)=.pv (.ro rows):=nr rfl
@[simp] theorem WO (p:PV):Az (.pv p)=.pv p:=nr rfl
@[simp↓] theorem XV {Γ:bR}{aa:Nat→Option AO}{C:bE→Prop}{xs:List AV}{c:Bool}{f:FuncId}:yU Γ c f xs aa C=ai (fC aa (xs.map strip)) fun ys=>ai (gt Γ f ys) fun x=>(c=true→an xs∧x.1)∧flat x.2∧Bs x.2=[]∧dA x.2=true∧C (.put (.ck c x.2)):=rfl
section
variable{aa:Nat→Option AO}
@[simp] theorem Z4 (e:TypeId) (rows:List (List PV)):BH (some (.arr e rows))=some (e,rows.length):=nr rfl
@[simp] theorem R4 (e e':TypeId) (i:Int) (o:Nat) (rows:List (List PV)):mn e i o (some (.arr e' rows))=if e'=e then some (0≤i∧i<rows.length∧o<(rowAt rows i).length,.pv ((rowAt rows i).getD o (.int .u8 0))) else none:=nr rfl
@[simp] theorem aax (es:List (PV×PV)):df (some (.iF es))=none:=nr rfl
@[simp] theorem Si (e:TypeId) (rows:List (List PV)):df (some (.arr e rows))=some (e,rows):=nr rfl
@[simp] theorem Q5 (cs:List AV):eV (some (.box cs))=some cs:=nr rfl
@[simp] theorem U6 (c:Bool):ja (.pv (.bool c))=some c:=nr rfl
@[simp] theorem aau (c a b:AV):tE [c,a,b]=(ja (strip c)).bind fun g=>(qE (asks a) (asks b) g (strip a) (strip b)).map fun r=>(asks c∧r.1,r.2):=nr rfl
@[simp] theorem SN (φ ψ:Prop) (c x y:Bool):qE φ ψ c (.pv (.bool x)) (.pv (.bool y))=some ((c=true→φ)∧(c=false→ψ),.pv (.bool (cond c x y))):=nr rfl
@[simp] theorem Qj (φ ψ:Prop) (c x:Bool):qE φ ψ c (.pv (.bool x)) .ak=some (c=true∧φ,.pv (.bool x)):=nr rfl
@[simp] theorem Tn (φ ψ:Prop) (c y:Bool):qE φ ψ c .ak (.pv (.bool y))=some (c=false∧ψ,.pv (.bool y)):=nr rfl
@[simp] theorem TS (n:Nat) (k:IntKind) (l:Int):bounds n true false [.pv (.int k l)]=some (l,(n:Int)):=nr rfl
@[simp] theorem TW (n:Nat) (k:IntKind) (h:Int):bounds n false true [.pv (.int k h)]=some (0,h):=nr rfl
@[simp] theorem Yx (n:Nat) (k k':IntKind) (l h:Int):bounds n true true [.pv (.int k l),.pv (.int k' h)]=some (l,h):=nr rfl
@[simp] theorem WC (op:BinOp) (x y:PV):al (.bin op) [.pv x,.pv y] aa=(dt op x y).map fun r=>(r.1,.pv r.2):=nr rfl
@[simp] theorem WH (ne x y:Bool):al (.beq ne) [.pv (.bool x),.pv (.bool y)] aa=some (True,.pv (.bool (if ne then x !=y else x==y))):=nr rfl
@[simp] theorem U8 (b:Bool):al .not [.pv (.bool b)] aa=some (True,.pv (.bool (!b))):=nr rfl
@[simp] theorem Z5 (k:IntKind) (n:Int):al .neg [.pv (.int k n)] aa=some (True,.pv (.int k (k.wrap (0-n)))):=nr rfl
@[simp] theorem ZL (k k':IntKind) (n:Int):al (.CE k) [.pv (.int k' n)] aa=some (True,.pv (.int k (k.wrap n))):=nr rfl
@[simp] theorem XA (ne:Bool) (ks:List Nat) (xs ys:List AV):al (.eqs ne ks) [.agg xs,.agg ys] aa=(eU xs).bind fun a=>(eU ys).map fun b=>(a.map dw=ks∧b.map dw=ks,.pv (.bool (if ne then !jl a b else jl a b))):=nr rfl
@[simp] theorem Z0:jl [] []=true:=nr rfl
@[simp] theorem SB (a b:PV) (l m:List PV):jl (a::l) (b::m)=(m8 a b&&jl l m):=nr rfl
@[simp] theorem eqP_int (k k':IntKind) (a b:Int):m8 (.int k a) (.int k' b)=decide (a=b):=nr rfl
@[simp] theorem eqP_str (a b:List UInt8):m8 (.str a) (.str b)=decide (a=b):=nr rfl
@[simp] theorem Yt (a b:Bool):m8 (.bool a) (.bool b)=decide (a=b):=nr rfl
@[simp] theorem Qo (e:TypeId) (l:List UInt8):al (.ou e) [.pv (.str l)] aa=some (True,.pv (.ro (bytesRow l))):=nr rfl
@[simp] theorem Rj (x:AV):al .rW [x] aa=(fy aa x).bind fun rows=>(bytesOf rows).map fun l=>(True,.pv (.str l)):=nr rfl
@[simp] theorem aaf (rows:List (List PV)):fy aa (.pv (.ro rows))=some rows:=nr rfl
@[simp] theorem Qy (t:Nat):fy aa (.own t)=(df (aa t)).map (·.2):=nr rfl
@[simp] theorem JH (l:List UInt8):al .vt [.pv (.str l)] aa=some (True,.pv (.int .i64 l.length)):=nr rfl
@[simp] theorem JT:al .len [.pv .nil] aa=some (True,.pv (.int .i64 0)):=nr rfl
@[simp] theorem Mu (rows:List (List PV)):al .len [.pv (.ro rows)] aa=some (True,.pv (.int .i64 rows.length)):=nr rfl
@[simp] theorem Ja (t:Nat):al .len [.own t] aa=(BH (aa t)).map fun r=>(True,.pv (.int .i64 r.2)):=nr rfl
@[simp] theorem QR (l:List UInt8) (k:IntKind) (i:Int):al .vd [.pv (.str l),.pv (.int k i)] aa=some (0≤i∧i<l.length,.pv (.int .u8 ((l.getD i.toNat 0).toNat:Int))):=nr rfl
@[simp] theorem VT (sz:Nat) (lo hi:Bool) (rows:List (List PV)) (bs:List AV):al (.Cw sz lo hi) (.pv (.ro rows)::bs) aa=(bounds rows.length lo hi bs).map fun b:Int×Int=>(0≤b.1∧b.1≤b.2∧b.2≤(rows.length:Int)∧(∀r∈rows,r.length=sz),.pv (.ro (cut rows b.1 b.2))):=by unfold al;rfl
@[simp] theorem JM (off t o:Nat):al (.sy off) [.ptr t o] aa=some (True,.ptr t (o+off)):=nr rfl
@[simp] theorem Ia (off t o:Nat) (e:TypeId) (i:Int):al (.sy off) [.aY t e i o] aa=some (True,.aY t e i (o+off)):=nr rfl
@[simp] theorem K7 (off:Nat) (cs:List PV):al (.sy off) [.rp cs] aa=some (True,.rp (cs.drop off)):=nr rfl
@[simp] theorem Ki (n sz t o:Nat) (k:IntKind) (i:Int):al (.FA n sz) [.ptr t o,.pv (.int k i)] aa=some (0≤i∧i<(n:Int),.ptr t (o+i.toNat*sz)):=nr rfl
@[simp] theorem Mm (n sz:Nat) (cs:List PV) (k:IntKind) (i:Int):al (.FA n sz) [.rp cs,.pv (.int k i)] aa=some (0≤i∧i<(n:Int),.rp (cs.drop (i.toNat*sz))):=nr rfl
@[simp] theorem I0 (t o:Nat):al .ED [.ptr t o] aa=some (True,.ptr t o):=nr rfl
@[simp] theorem Mr (cs:List PV):al .ED [.rp cs] aa=some (True,.rp cs):=nr rfl
@[simp] theorem Ig (t o:Nat):al (.load none) [.ptr t o] aa=(eV (aa t)).bind fun cs=>(cs[o]?).bind fun c=>if lG c=true then some (True,c) else none:=nr rfl
@[simp] theorem Xb (p:PV):lG (.pv p)=true:=nr rfl
@[simp] theorem Te (t:Nat):lG (.own t)=true:=nr rfl
@[simp] theorem HE (n t o:Nat):al (.load (some n)) [.ptr t o] aa=(eV (aa t)).bind fun cs=>if o+n≤cs.length then some (True,.agg ((cs.drop o).take n)) else none:=nr rfl
@[simp] theorem HQ (t o:Nat) (e:TypeId) (i:Int):al (.load none) [.aY t e i o] aa=mn e i o (aa t):=nr rfl
@[simp] theorem FD (n t o:Nat) (e:TypeId) (i:Int):al (.load (some n)) [.aY t e i o] aa=(df (aa t)).bind fun r=>if r.1=e∧o+n≤(rowAt r.2 i).length then some (0≤i∧i<r.2.length,.agg ((((rowAt r.2 i).drop o).take n).map .pv)) else none:=nr rfl
@[simp] theorem IV (c:PV) (cs:List PV):al (.load none) [.rp (c::cs)] aa=some (True,.pv c):=nr rfl
@[simp] theorem Ij (n:Nat) (cs:List PV):al (.load (some n)) [.rp cs] aa=(if n≤cs.length then some (True,.agg ((cs.take n).map .pv)) else none):=nr rfl
@[simp] theorem Mw (e:TypeId) (sz:Nat) (rows:List (List PV)) (k:IntKind) (i:Int):al (.Fw e sz) [.pv (.ro rows),.pv (.int k i)] aa=some (0≤i∧i<rows.length∧(rowAt rows i).length=sz,.rp (rowAt rows i)):=nr rfl
@[simp] theorem I5 (e:TypeId) (sz t:Nat) (k:IntKind) (i:Int):al (.Fw e sz) [.own t,.pv (.int k i)] aa=(BH (aa t)).bind fun r=>if r.1=e then some (0≤i∧i<r.2,.aY t e i 0) else none:=nr rfl
@[simp] theorem IQ (sz:Nat) (lo hi:Bool) (bs:List AV):al (.Cw sz lo hi) (.pv .nil::bs) aa=(bounds 0 lo hi bs).map fun b:Int×Int=>(b.1=0∧b.2=0,.pv .nil):=nr rfl
@[simp] theorem Kq (sz t:Nat) (lo hi:Bool) (bs:List AV):al (.Cw sz lo hi) (.own t::bs) aa=(df (aa t)).bind fun r=>(bounds r.2.length lo hi bs).map fun b:Int×Int=>(0≤b.1∧b.1≤b.2∧b.2≤(r.2.length:Int)∧(∀x∈r.2,x.length=sz),.sub t r.1 b.1.toNat b.2.toNat):=nr rfl
@[simp] theorem YY (i:Nat) (vs:List AV):al (.ext i) [.aS vs] aa=(vs[i]?).map fun v=>(True,v):=nr rfl
@[simp] theorem WA (zs:List Value) (ps:List (Nat×Nat)) (xs:List AV):al (.H9 zs ps) xs aa=(lh (zs.map cv) ps xs).map fun cs=>(True,.agg cs):=by unfold al;rfl
@[simp] theorem Wy (f:FuncId) (xs:List AV):al (.Ih f) xs aa=some (True,.bZ f xs):=by unfold al;rfl
@[simp] theorem Rk (e:TypeId) (d:Nat) (xs:List AV):cD (.ij e) d xs aa=some (True,.own d,.arr e []):=by unfold cD;rfl
@[simp] theorem XB (d:Nat) (x:AV):cD .box d [x] aa=(if fA (cellsOf x) then some (True,.ptr d 0,.box (cellsOf x)) else none):=nr rfl
@[simp] theorem N6 (d:Nat) (zs:List Value) (xs:List AV):cD (.alloc zs) d xs aa=(if zs.all (·.oneCell') then some (True,.ptr d 0,.box (zs.map cv)) else none):=by unfold cD;rfl
@[simp] theorem Vv (e:TypeId) (sz d:Nat) (xs:List AV):cD (.rT e sz) d xs aa=(rowsOf xs).map fun rows=>(∀r∈rows,r.length=sz,.own d,.arr e rows):=by unfold cD;rfl
@[simp] theorem ZE (e:TypeId) (sz bytes d:Nat) (x:AV):cD (.app e sz bytes) d [.pv .nil,x] aa=(cU aa x).map fun rows=>(rows.length*bytes≤140737488355328∧rows.length≤maxLen∧(∀r∈rows,r.length=sz),.own d,.arr e rows):=nr rfl
@[simp] theorem F9 (t o:Nat) (v:AV):eS (.store none) [.ptr t o,v] aa=(eV (aa t)).bind fun cs=>if eE v∧o<cs.length then some (True,t,.box (cs.set o v)) else none:=nr rfl
@[simp] theorem Fz (n t o:Nat) (vs:List AV):eS (.store (some n)) [.ptr t o,.agg vs] aa=(eV (aa t)).bind fun cs=>if fA vs∧vs.length=n∧o+n≤cs.length then some (True,t,.box (bX cs o vs)) else none:=nr rfl
@[simp] theorem Fo (n t o:Nat) (e:TypeId) (i:Int) (vs:List AV):eS (.store (some n)) [.aY t e i o,.agg vs] aa=(df (aa t)).bind fun r=>(eU vs).bind fun ps=>if r.1=e∧fA vs∧ps.length=n∧o+n≤(rowAt r.2 i).length then some (0≤i∧i<r.2.length,t,.arr e (r.2.set i.toNat (bX (rowAt r.2 i) o ps))) else none:=nr rfl
@[simp] theorem YO (e:TypeId) (sz bytes t:Nat) (x:AV):eS (.app e sz bytes) [.own t,x] aa=(df (aa t)).bind fun r=>(cU aa x).bind fun more=>if r.1=e∧t%1000≠999 then some ((r.2.length+more.length)*bytes≤140737488355328∧r.2.length+more.length≤maxLen∧(∀r∈more,r.length=sz),t,.arr e (r.2++more)) else none:=nr rfl
@[simp] theorem pvOf_pv (p:PV):Ee (.pv p)=some p:=nr rfl
@[simp] theorem RK:eU []=some []:=nr rfl
@[simp] theorem P9 (v:AV) (l:List AV):eU (v::l)=(Ee v).bind fun p=>(eU l).map (p::·):=nr rfl
@[simp] theorem Y5 (p:PV):rowOf (.pv p)=some [p]:=nr rfl
@[simp] theorem SO (cs:List AV):rowOf (.agg cs)=eU cs:=nr rfl
@[simp] theorem OA:rowsOf []=some []:=nr rfl
@[simp] theorem Lp (v:AV) (l:List AV):rowsOf (v::l)=(rowOf v).bind fun p=>(rowsOf l).map (p::·):=nr rfl
@[simp] theorem KH (cs:List AV):cellsOf (.agg cs)=cs:=nr rfl
@[simp] theorem Pu (p:PV):cellsOf (.pv p)=[.pv p]:=nr rfl
@[simp] theorem K4 (t:Nat):cellsOf (.own t)=[.own t]:=nr rfl
@[simp] theorem PY (cs:List AV):lh cs [] []=some cs:=nr rfl
@[simp] theorem Mg (cs:List AV) (off n:Nat) (ps:List (Nat×Nat)) (x:AV) (xs:List AV):lh cs ((off,n)::ps) (x::xs)=if mo x=true∧(cellsOf x).length=n∧off+n≤cs.length then lh (lay cs off ((cellsOf x).map rQ)) ps xs else none:=nr rfl
@[simp] theorem nrmF_pv (p:PV):rQ (.pv p)=.pv p:=nr rfl
@[simp] theorem Xr (t:Nat):rQ (.own t)=.own t:=nr rfl
@[simp] theorem RR (rows:List (List PV)):cU aa (.pv (.ro rows))=some rows:=nr rfl
@[simp] theorem Om (l:List UInt8):cU aa (.pv (.str l))=some (bytesRow l):=nr rfl
@[simp] theorem PQ (t:Nat):cU aa (.own t)=(df (aa t)).map (·.2):=nr rfl
@[simp] theorem VF:ei aa (.pv .nil)=some (.ro []):=nr rfl
@[simp] theorem ZN (k:IntKind) (n:Int):ei aa (.pv (.int k n))=some (.int k n):=nr rfl
@[simp] theorem Sw (b:Bool):ei aa (.pv (.bool b))=some (.bool b):=nr rfl
@[simp] theorem WI (l:List UInt8):ei aa (.pv (.str l))=some (.str l):=nr rfl
@[simp] theorem reiP_ro (rows:List (List PV)):ei aa (.pv (.ro rows))=some (.ro rows):=nr rfl
@[simp] theorem Uw (t:Nat):ei aa (.own t)=FJ (aa t):=nr rfl
@[simp] theorem Y0 (e:TypeId) (rows:List (List PV)):FJ (some (.arr e rows))=some (.ro rows):=nr rfl
@[simp] theorem VZ (t:Nat) (e:TypeId) (lo hi:Nat):ei aa (.sub t e lo hi)=(df (aa t)).bind fun r=>if r.1=e then some (.ro ((r.2.take hi).drop lo)) else none:=nr rfl
@[simp] theorem RI:im aa []=some []:=nr rfl
@[simp] theorem NR (c:AV) (cs:List AV):im aa (c::cs)=(ei aa c).bind fun p=>(im aa cs).map (p::·):=nr rfl
@[simp] theorem ZB (t o:Nat):fg aa (.ptr t o)=(eV (aa t)).bind fun cs=>(im aa (cs.drop o)).map .rp:=nr rfl
@[simp] theorem rei1_rp (cs:List PV):fg aa (.rp cs)=some (.rp cs):=nr rfl
@[simp] theorem Tk:lu aa []=some []:=nr rfl
@[simp] theorem MR (c:AV) (cs:List AV):lu aa (c::cs)=(fg aa c).bind fun p=>(lu aa cs).map (p::·):=nr rfl
@[simp] theorem rei_clo (f:FuncId) (caps:List AV):nW aa (.bZ f caps)=(lu aa caps).map (.bZ f):=nr rfl
@[simp] theorem rei_ptr (t o:Nat):nW aa (.ptr t o)=fg aa (.ptr t o):=nr rfl
@[simp] theorem rei_rp (cs:List PV):nW aa (.rp cs)=some (.rp cs):=nr rfl
@[simp] theorem rei_agg (cs:List AV):nW aa (.agg cs)=(im aa cs).map fun ps=>.agg (ps.map .pv):=nr rfl
@[simp] theorem rei_pv (p:PV):nW aa (.pv p)=(ei aa (.pv p)).map .pv:=nr rfl
@[simp] theorem rei_own (t:Nat):nW aa (.own t)=(ei aa (.own t)).map .pv:=nr rfl
@[simp] theorem rei_sub (t:Nat) (e:TypeId) (lo hi:Nat):nW aa (.sub t e lo hi)=(ei aa (.sub t e lo hi)).map .pv:=nr rfl
@[simp] theorem Ve:fC aa []=some []:=nr rfl
@[simp] theorem Td (c:AV) (cs:List AV):fC aa (c::cs)=(nW aa c).bind fun p=>(fC aa cs).map (p::·):=nr rfl
@[simp] theorem Zf (p:PV):gM (.pv p)=true:=nr rfl
@[simp] theorem Yl (cs:List PV):gM (.rp cs)=true:=nr rfl
@[simp] theorem Rp (t:Nat):gM (.own t)=false:=nr rfl
@[simp] theorem S4 (t o:Nat):gM (.ptr t o)=false:=nr rfl
@[simp] theorem Nf:ic []=true:=nr rfl
@[simp] theorem LQ (c:AV) (cs:List AV):ic (c::cs)=(gM c&&ic cs):=nr rfl
@[simp] theorem Sx (cs:List AV):dZ (.agg cs)=ic cs:=nr rfl
@[simp] theorem Qw (f:FuncId) (cs:List AV):dZ (.bZ f cs)=ic cs:=nr rfl
@[simp] theorem TR (p:PV):dZ (.pv p)=true:=nr rfl
@[simp] theorem WZ (cs:List PV):dZ (.rp cs)=true:=nr rfl
@[simp] theorem SQ (t:Nat):dZ (.own t)=false:=nr rfl
@[simp] theorem S7 (t:Nat) (e:TypeId) (lo hi:Nat):dZ (.sub t e lo hi)=false:=nr rfl
@[simp] theorem RN (t o:Nat):dZ (.ptr t o)=false:=nr rfl
@[simp] theorem Rn:eR []=true:=nr rfl
@[simp] theorem OD (c:AV) (cs:List AV):eR (c::cs)=(dZ c&&eR cs):=nr rfl
@[simp] theorem one_int (k:IntKind) (n:Int):eE (.pv (.int k n))=true:=nr rfl
@[simp] theorem Uz (b:Bool):eE (.pv (.bool b))=true:=nr rfl
@[simp] theorem one_str (l:List UInt8):eE (.pv (.str l))=true:=nr rfl
@[simp] theorem one_nil:eE (.pv .nil)=true:=nr rfl
@[simp] theorem one_ro (rows:List (List PV)):eE (.pv (.ro rows))=true:=nr rfl
@[simp] theorem one_own (t:Nat):eE (.own t)=true:=nr rfl
@[simp] theorem YC:fA []=true:=nr rfl
@[simp] theorem QS (c:AV) (cs:List AV):fA (c::cs)=(eE c&&fA cs):=nr rfl
@[simp] theorem Pj (cs:List AV):mo (.agg cs)=true:=nr rfl
@[simp] theorem QI (p:PV):mo (.pv p)=eE (.pv p):=nr rfl
@[simp] theorem MK (t:Nat):mo (.own t)=true:=nr rfl
@[simp] theorem SV (t s:Nat):b8 t (.own s)=if s=t then .ak else .own s:=nr rfl
@[simp] theorem Wp (t:Nat) (p:PV):b8 t (.pv p)=.pv p:=nr rfl
@[simp] theorem OB (t:Nat):b8 t .ak=.ak:=nr rfl
@[simp] theorem PE (t:Nat):bW t []=[]:=nr rfl
@[simp] theorem Mi (t:Nat) (c:AV) (cs:List AV):bW t (c::cs)=b8 t c::bW t cs:=nr rfl
@[simp] theorem YW (t:Nat) (cs:List AV):kill t (.agg cs)=.agg (bW t cs):=nr rfl
@[simp] theorem Vu (t s:Nat):kill t (.own s)=if s=t then .ak else .own s:=nr rfl
@[simp] theorem qo (t s:Nat) (e:TypeId) (i:Int) (o:Nat):kill t (.aY s e i o)=if s=t then .ak else .aY s e i o:=nr rfl
@[simp] theorem kill_pv (t:Nat) (p:PV):kill t (.pv p)=.pv p:=nr rfl
@[simp] theorem ug (t s o:Nat):kill t (.ptr s o)=.ptr s o:=nr rfl
@[simp] theorem xM (t:Nat) (cs:List PV):kill t (.rp cs)=.rp cs:=nr rfl
@[simp] theorem QK (t:Nat):kill t .ak=.ak:=nr rfl
@[simp] theorem Wt (t:Nat) (g:Bool) (v:AV):kill t (.ck g v)=.ck g (kill t v):=nr rfl
@[simp] theorem Xw (t:Nat) (f:FuncId) (c:AV) (cs:List AV):kill t (.bZ f (c::cs))=.ak:=nr rfl
@[simp] theorem Sy (t:Nat) (f:FuncId):kill t (.bZ f [])=.bZ f []:=nr rfl
@[simp] theorem SU (t:Nat) (cs:List AV):dX t (.box cs)=.box (bW t cs):=nr rfl
@[simp] theorem Rw (t:Nat) (e:TypeId) (rows:List (List PV)):dX t (.arr e rows)=.arr e rows:=nr rfl
@[simp] theorem SR (g:Nat→AV→AV) (j:Nat):fZ g j []=[]:=nr rfl
@[simp] theorem N8 (g:Nat→AV→AV) (j:Nat) (c:AV) (cs:List AV):fZ g j (c::cs)=g (1000*j) c::fZ g (j+1) cs:=nr rfl
@[simp] theorem XQ (g:Nat→AV→AV) (cs:List AV):mX g (.agg cs)=.agg (fZ g 0 cs):=nr rfl
@[simp] theorem map1_pv (g:Nat→AV→AV) (p:PV):mX g (.pv p)=g 0 (.pv p):=nr rfl
@[simp] theorem map1_fr (g:Nat→AV→AV) (e:TypeId) (rows:List (List PV)):mX g (.fr e rows)=g 0 (.fr e rows):=nr rfl
@[simp] theorem Tx (g:Nat→AV→AV) (i:Nat):iX g i []=[]:=nr rfl
@[simp] theorem OM (g:Nat→AV→AV) (i:Nat) (v:AV) (vs:List AV):iX g i (v::vs)=mX (fun p c=>g (p+i) c) v::iX g (i+1) vs:=nr rfl
@[simp] theorem OG (g:Nat→AV→AV) (vs:List AV):cR g (.aS vs)=.aS (iX g 0 vs):=nr rfl
@[simp] theorem TA (g:Nat→AV→AV) (p:PV):cR g (.pv p)=g 0 (.pv p):=nr rfl
@[simp] theorem Ru (g:Nat→AV→AV) (e:TypeId) (rows:List (List PV)):cR g (.fr e rows)=g 0 (.fr e rows):=nr rfl
@[simp] theorem M0 (g:Nat→AV→AV) (cs:List AV):cR g (.agg cs)=.agg (fZ g 0 cs):=nr rfl
@[simp] theorem tagC_fr (d p:Nat) (e:TypeId) (rows:List (List PV)):lA d p (.fr e rows)=.own (d+1000*p):=nr rfl
@[simp] theorem tagC_pv (d p:Nat) (q:PV):lA d p (.pv q)=.pv q:=nr rfl
@[simp 1100] theorem VV (d p:Nat) (o:AO) (l:List (Nat×AO)):List.map (fun x:Nat×AO=>(d+1000*x.1,x.2)) ((p,o)::l)=(d+1000*p,o)::List.map (fun x:Nat×AO=>(d+1000*x.1,x.2)) l:=nr rfl
@[simp] theorem SA (j:Nat):fY j []=[]:=nr rfl
@[simp] theorem Yb (j:Nat) (e:TypeId) (rows:List (List PV)) (cs:List AV):fY j (.fr e rows::cs)=(1000*j,.arr e rows)::fY (j+1) cs:=nr rfl
@[simp] theorem aac (j:Nat) (p:PV) (cs:List AV):fY j (.pv p::cs)=fY (j+1) cs:=nr rfl
@[simp] theorem Xf (cs:List AV):lv (.agg cs)=fY 0 cs:=nr rfl
@[simp] theorem frs1_fr (e:TypeId) (rows:List (List PV)):lv (.fr e rows)=[(0,.arr e rows)]:=nr rfl
@[simp] theorem frs1_pv (p:PV):lv (.pv p)=[]:=nr rfl
@[simp] theorem Sd (i:Nat):my i []=[]:=nr rfl
@[simp] theorem MO (i:Nat) (v:AV) (vs:List AV):my i (v::vs)=(lv v).map (fun x=>(x.1+i,x.2))++my (i+1) vs:=nr rfl
@[simp] theorem resC_pv (p:PV):lz (.pv p)=true:=nr rfl
@[simp] theorem resC_fr (e:TypeId) (rows:List (List PV)):lz (.fr e rows)=true:=nr rfl
@[simp] theorem To:mc []=true:=nr rfl
@[simp] theorem NZ (c:AV) (cs:List AV):mc (c::cs)=(lz c&&mc cs):=nr rfl
@[simp] theorem Zn (cs:List AV):rP (.agg cs)=mc cs:=nr rfl
@[simp] theorem res1_pv (p:PV):rP (.pv p)=true:=nr rfl
@[simp] theorem res1_fr (e:TypeId) (rows:List (List PV)):rP (.fr e rows)=true:=nr rfl
@[simp] theorem QQ:rE []=true:=nr rfl
@[simp] theorem Og (c:AV) (cs:List AV):rE (c::cs)=(rP c&&rE cs):=nr rfl
@[simp] theorem R3 (vs:List AV):dA (.aS vs)=(decide (vs.length≤900)&&rE vs):=nr rfl
@[simp] theorem Q1 (cs:List AV):dA (.agg cs)=mc cs:=nr rfl
@[simp] theorem Vk (p:PV):dA (.pv p)=true:=nr rfl
@[simp] theorem ZH (e:TypeId) (rows:List (List PV)):dA (.fr e rows)=true:=nr rfl
@[simp] theorem frs_tup (vs:List AV):Bs (.aS vs)=my 0 vs:=nr rfl
@[simp] theorem frs_agg (cs:List AV):Bs (.agg cs)=fY 0 cs:=nr rfl
@[simp] theorem frs_fr (e:TypeId) (rows:List (List PV)):Bs (.fr e rows)=[(0,.arr e rows)]:=nr rfl
@[simp] theorem frs_pv (p:PV):Bs (.pv p)=[]:=nr rfl
@[simp] theorem Q0 (k:IntKind) (n:Int):iv (.int k n)=true:=nr rfl
@[simp] theorem NN (b:Bool):iv (.bool b)=true:=nr rfl
@[simp] theorem Tw (l:List UInt8):iv (.str l)=true:=nr rfl
@[simp] theorem V0 (rows:List (List PV)):iv (.ro rows)=rows.isEmpty:=nr rfl
@[simp] theorem ZZ (p:PV):nf (.pv p)=(iv p=true):=nr rfl
@[simp] theorem ZJ (e:TypeId) (rows:List (List PV)):nf (.fr e rows)=cT rows:=nr rfl
@[simp] theorem Q8:nY []=True:=nr rfl
@[simp] theorem Pm (c:AV) (cs:List AV):nY (c::cs)=(nf c∧nY cs):=nr rfl
@[simp] theorem Rs (cs:List AV):lk (.agg cs)=nY cs:=nr rfl
@[simp] theorem WD (p:PV):lk (.pv p)=(iv p=true):=nr rfl
@[simp] theorem XE (e:TypeId) (rows:List (List PV)):lk (.fr e rows)=cT rows:=nr rfl
@[simp] theorem S9:rM []=True:=nr rfl
@[simp] theorem PU (c:AV) (cs:List AV):rM (c::cs)=(lk c∧rM cs):=nr rfl
@[simp] theorem Xz (vs:List AV):flat (.aS vs)=rM vs:=nr rfl
@[simp] theorem flat_agg (cs:List AV):flat (.agg cs)=nY cs:=nr rfl
@[simp] theorem flat_pv (p:PV):flat (.pv p)=(iv p=true):=nr rfl
@[simp] theorem flat_fr (e:TypeId) (rows:List (List PV)):flat (.fr e rows)=cT rows:=nr rfl
end
@[simp] theorem noM_clo (un:List Nat) (aa:Nat→Option AO) (f:FuncId) (cs:List AV):rB un aa (.bZ f cs)=ll un aa cs:=nr rfl
@[simp] theorem noM_pv (un:List Nat) (aa:Nat→Option AO) (p:PV):rB un aa (.pv p)=True:=nr rfl
@[simp] theorem noM_rp (un:List Nat) (aa:Nat→Option AO) (cs:List PV):rB un aa (.rp cs)=True:=nr rfl
@[simp] theorem aah (un:List Nat) (aa:Nat→Option AO):rB un aa .ak=True:=nr rfl
@[simp] theorem noM_tup (un:List Nat) (aa:Nat→Option AO) (cs:List AV):rB un aa (.aS cs)=True:=nr rfl
@[simp] theorem noM_agg (un:List Nat) (aa:Nat→Option AO) (cs:List AV):rB un aa (.agg cs)=ir un cs:=nr rfl
@[simp] theorem noM_own (un:List Nat) (aa:Nat→Option AO) (t:Nat):rB un aa (.own t)=jV un t:=nr rfl
@[simp] theorem Xa (un:List Nat) (aa:Nat→Option AO) (t:Nat) (e:TypeId) (i:Int) (o:Nat):rB un aa (.aY t e i o)=jV un t:=nr rfl
@[simp] theorem D0 (un:List Nat) (aa:Nat→Option AO) (t:Nat) (e:TypeId) (i o:Nat):rB un aa (.sub t e i o)=jV un t:=nr rfl
@[simp] theorem noM_ptr (un:List Nat) (aa:Nat→Option AO) (t o:Nat):rB un aa (.ptr t o)=(jV un t∧ir un ((eV (aa t)).getD [])):=nr rfl
@[simp] theorem noMP_rp (un:List Nat) (aa:Nat→Option AO) (cs:List PV):nQ un aa (.rp cs)=True:=nr rfl
@[simp] theorem uf (un:List Nat) (aa:Nat→Option AO) (t:Nat) (e:TypeId) (i o:Nat):nQ un aa (.sub t e i o)=jV un t:=nr rfl
@[simp] theorem Wk (un:List Nat) (aa:Nat→Option AO) (t o:Nat):nQ un aa (.ptr t o)=(jV un t∧ir un ((eV (aa t)).getD [])):=nr rfl
@[simp] theorem QM (un:List Nat) (aa:Nat→Option AO):ll un aa []=True:=nr rfl
@[simp] theorem Pf (un:List Nat) (aa:Nat→Option AO) (c:AV) (cs:List AV):ll un aa (c::cs)=(nQ un aa c∧ll un aa cs):=nr rfl
@[simp] theorem ZQ (un:List Nat) (aa:Nat→Option AO):j8 un aa []=True:=nr rfl
@[simp] theorem SJ (un:List Nat) (aa:Nat→Option AO) (c:AV) (cs:List AV):j8 un aa (c::cs)=(rB un aa c∧j8 un aa cs):=nr rfl
attribute[simp] lay bX jV vw ir
end Go.Proofs.YtifcndkhigakfaaGreat.Ab.R
