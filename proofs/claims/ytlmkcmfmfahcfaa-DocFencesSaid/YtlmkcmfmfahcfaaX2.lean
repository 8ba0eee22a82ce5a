/- How the abstract machine reckons: rewrite rules. -/
import Derived.Test.YtlmkcmfmfahcfaaX1
import Derived.Deep.AppendLies
import Derived.Deep.Draws
import Derived.Maps.AppendAt
import Derived.Laws.OwnMore
import Derived.Deep.AppendSrc
import Derived.Deep.Upon
set_option linter.unusedVariables false
set_option linter.unusedSimpArgs false
set_option linter.unnecessarySimpa false
set_option maxHeartbeats 40000000
set_option maxRecDepth 100000
namespace Go.Proofs.Ytlmkcmfmfahcfaa.Ab.R
open Go Go.RowKit
theorem nr {α:Sort _}{a b:α} (h:a=b):a=b:=h
@[congr] theorem FF {α:Type}{o o':Option α}{K:α→Prop} (h:True→o=o'):ag o K=ag o' K:=by rw[h trivial]
@[congr] theorem Ee {P:Program}{Γ:bp}{is:List AI}{K:St→Prop}{st st':St} (h:True→st=st'):ch P Γ is K st=ch P Γ is K st':=by rw[h trivial]
@[congr] theorem ED {P:Program}{Γ:bp}{i:AI}{K:St→Prop}{st st':St} (h:True→st=st'):ck P Γ i K st=ck P Γ i K st':=by rw[h trivial]
@[congr] theorem IF {P:Program}{Γ:bp}{d:Option Nat}{k:AK}{xs xs':List AV}{C:bh→Prop}{aa:Nat→Option AO} (hx:True→xs=xs'):aL P Γ d k xs aa C=aL P Γ d k xs' aa C:=by rw[hx trivial]
@[congr] theorem HG {P:Program}{Γ:bp}{c c':Bool}{d:Option Nat}{k:AK}{xs xs':List AV}{C:bh→Prop}{aa:Nat→Option AO} (hc:True→c=c') (hx:True→xs=xs'):bO P Γ c d k xs aa C=bO P Γ c' d k xs' aa C:=by rw[hx trivial,hc trivial]
@[congr] theorem Ml {P:Program}{Γ:bp}{c:AC}{K:St→Prop}{J:Exit→St→Prop}{st st':St} (h:True→st=st'):fF P Γ c K J st=fF P Γ c K J st':=by rw[h trivial]
@[simp↓] theorem Wq {A B:Prop}:((true=true→A)∧(true=false→B))=A:=by simp
@[simp↓] theorem Wp {A B:Prop}:((false=true→A)∧(false=false→B))=B:=by simp
@[simp↓] theorem Ij {α:Type} (x:α) (K:α→Prop):ag (some x) K=K x:=rfl
@[simp↓] theorem Iq {α:Type} (K:α→Prop):ag (none:Option α) K=False:=rfl
section
variable{P:Program}{Γ:bp}{K:St→Prop}{J:Exit→St→Prop}{vs:List (Nat×AV)}{os:List (Nat×AO)}
@[simp↓] theorem jP:fF P Γ .skip K J ⟨look vs,ab os⟩=K ⟨look vs,ab os⟩:=rfl
@[simp↓] theorem Tj {is:List AI}{aU:List Nat}:fF P Γ (.ah is true aU) K J ⟨look vs,ab os⟩=steps P Γ is (fun st'=>K ⟨gK aU st'.vars,st'.aa⟩) ⟨look vs,ab os⟩:=rfl
@[simp↓] theorem RX {is:List AI}{aU:List Nat}:fF P Γ (.ah is false aU) K J ⟨look vs,ab os⟩=ch P Γ is (fun st'=>K ⟨gK aU st'.vars,st'.aa⟩) ⟨look vs,ab os⟩:=rfl
@[simp↓] theorem G2:ch P Γ [] K ⟨look vs,ab os⟩=K ⟨look vs,ab os⟩:=rfl
@[simp↓] theorem E6 {i:AI}{is:List AI}:ch P Γ (i::is) K ⟨look vs,ab os⟩=bC P Γ i (fun st'=>ch P Γ is K st') ⟨look vs,ab os⟩:=rfl
@[simp↓] theorem Il {d:Option Nat}{xs:List Operand}{g:Option (Nat×Bool)}{un:List Nat}{tg:Option Nat}:bC P Γ ⟨d,.fE,xs,g,un,tg⟩ K ⟨look vs,ab os⟩=ey P Γ d (xs.map (ev (look vs))) g K ⟨look vs,ab os⟩:=rfl
@[simp↓] theorem HE {d:Option Nat}{k:AK}{xs:List Operand}{un:List Nat}{tg:Option Nat}:bK P Γ ⟨d,k,xs,none,un,tg⟩ K ⟨look vs,ab os⟩=ck P Γ ⟨d,k,xs,none,un,tg⟩ K ⟨look vs,ab os⟩:=rfl
@[simp↓] theorem Ho {d:Option Nat}{k:AK}{xs:List Operand}{s:Nat}{w:Bool}{un:List Nat}{tg:Option Nat}:bK P Γ ⟨d,k,xs,some (s,w),un,tg⟩ K ⟨look vs,ab os⟩=fo (eH ((xs.map (ev (look vs))).map strip)) (CQ (bj (look vs s) w)) (ck P Γ ⟨d,k,xs,some (s,w),un,tg⟩ K ⟨look vs,ab os⟩) (K ((bh.put (.bL false .al)).on d ⟨look vs,ab os⟩)):=rfl
@[congr] theorem F5 {b b' f:Bool}{A B:Prop} (h:True→b=b'):fo b f A B=fo b' f A B:=by rw[h trivial]
@[simp↓] theorem Ez {f:Bool}{A B:Prop}:fo false f A B=A:=rfl
@[simp↓] theorem G3 {f:Bool}{A B:Prop}:fo true f A B=if f=true then B else A:=rfl
def PI (P:Program) (Γ:bp) (d:Option Nat) (K:St→Prop) (st:St):FuncId×List AV→Prop|(f,ys)=>fy P f=true∧dE P Γ d f ys (cN Γ f) K st
@[simp↓] theorem I2 {d:Option Nat}{xs:List AV}:ey P Γ d xs none K ⟨look vs,ab os⟩=(aj xs∧ag (jb (xs.map strip)) (PI P Γ d K ⟨look vs,ab os⟩)):=rfl
@[simp↓] theorem SS {d:Option Nat}{f:FuncId}{ys:List AV}:PI P Γ d K ⟨look vs,ab os⟩ (f,ys)=(fy P f=true∧dE P Γ d f ys (cN Γ f) K ⟨look vs,ab os⟩):=rfl
@[simp↓] theorem E9 {d:Option Nat}{f:FuncId}{ys:List AV}:dE P Γ d f ys none K ⟨look vs,ab os⟩=bX P Γ d f ys (ab os) fun e=>K (e.on d ⟨look vs,ab os⟩):=rfl
@[simp↓] theorem FO {d:Option Nat}{f:FuncId}{ys:List AV}{p k:Nat}:dE P Γ d f ys (some (p,k)) K ⟨look vs,ab os⟩=if k=996 then stepG Γ d f ys (gx Γ f) K ⟨look vs,ab os⟩ else False:=rfl
@[congr] theorem Dl {d:Option Nat}{f:FuncId}{ys ys':List AV}{o o':Option (Nat×Nat)}{st:St} (h1:True→ys=ys') (h:True→o=o'):dE P Γ d f ys o K st=dE P Γ d f ys' o' K st:=by rw[h1 trivial,h trivial]
@[simp↓] theorem Gr {d:Option Nat}{xs:List AV}{s:Nat}{w:Bool}:ey P Γ d xs (some (s,w)) K ⟨look vs,ab os⟩=fo (eH (xs.map strip)) (CQ (bj (look vs s) w)) (mW P Γ d xs s w K ⟨look vs,ab os⟩) (K ((bh.put (.bL false .al)).on d ⟨look vs,ab os⟩)):=rfl
def Sd (P:Program) (Γ:bp) (d:Option Nat) (A:Prop) (c:Bool) (K:St→Prop) (st:St):FuncId×List AV→Prop|(f,ys)=>fy P f=true∧fA P Γ d f ys A c (cN Γ f) K st
@[simp↓] theorem Up {d:Option Nat}{A:Prop}{c:Bool}{f:FuncId}{ys:List AV}:Sd P Γ d A c K ⟨look vs,ab os⟩ (f,ys)=(fy P f=true∧fA P Γ d f ys A c (cN Γ f) K ⟨look vs,ab os⟩):=rfl
@[simp↓] theorem Mc {d:Option Nat}{xs:List AV}{s:Nat}{w:Bool}:mW P Γ d xs s w K ⟨look vs,ab os⟩=ag (bj (look vs s) w) fun c=>ag (jb (xs.map strip)) (Sd P Γ d (aj xs) c K ⟨look vs,ab os⟩):=rfl
@[simp↓] theorem Du {d:Option Nat}{f:FuncId}{ys:List AV}{A:Prop}{c:Bool}:fA P Γ d f ys A c none K ⟨look vs,ab os⟩=u7 Γ c f ys (ab os) fun e=>(c=true→A)∧K (e.on d ⟨look vs,ab os⟩):=rfl
@[simp↓] theorem DU {d:Option Nat}{f:FuncId}{ys:List AV}{A:Prop}{c:Bool}{p k:Nat}:fA P Γ d f ys A c (some (p,k)) K ⟨look vs,ab os⟩=if k=996 then(if c=true then A∧stepG Γ d f ys (gx Γ f) K ⟨look vs,ab os⟩ else K ((bh.put (.bL false .al)).on d ⟨look vs,ab os⟩)) else False:=rfl
@[congr] theorem Cv {d:Option Nat}{f:FuncId}{ys ys':List AV}{A:Prop}{c:Bool}{o o':Option (Nat×Nat)}{st:St} (h1:True→ys=ys') (h:True→o=o'):fA P Γ d f ys A c o K st=fA P Γ d f ys' A c o' K st:=by rw[h1 trivial,h trivial]
@[simp] theorem Jg {f:FuncId}{caps args:List AV}:jb (.bk f caps::args)=some (f,args++caps):=nr rfl
@[simp↓] theorem LU {d:Option Nat}{xs:List Operand}{g:Option (Nat×Bool)}{un:List Nat}{tg:Option Nat}:bC P Γ ⟨d,.bf,xs,g,un,tg⟩ K ⟨look vs,ab os⟩=bK P Γ ⟨d,.bf,xs,g,un,tg⟩ K ⟨look vs,ab os⟩:=rfl
@[simp↓] theorem HQ {d:Option Nat}{xs:List Operand}{g:Option (Nat×Bool)}{un:List Nat}{tg:Option Nat}:bC P Γ ⟨d,.pick,xs,g,un,tg⟩ K ⟨look vs,ab os⟩=bK P Γ ⟨d,.pick,xs,g,un,tg⟩ K ⟨look vs,ab os⟩:=rfl
@[simp↓] theorem Ka {d:Option Nat}{xs:List Operand}{g:Option (Nat×Bool)}{un:List Nat}{tg:Option Nat}{op:BinOp}:bC P Γ ⟨d,.bin op,xs,g,un,tg⟩ K ⟨look vs,ab os⟩=bK P Γ ⟨d,.bin op,xs,g,un,tg⟩ K ⟨look vs,ab os⟩:=rfl
@[simp↓] theorem K5 {d:Option Nat}{xs:List Operand}{g:Option (Nat×Bool)}{un:List Nat}{tg:Option Nat}{ne:Bool}:bC P Γ ⟨d,.beq ne,xs,g,un,tg⟩ K ⟨look vs,ab os⟩=bK P Γ ⟨d,.beq ne,xs,g,un,tg⟩ K ⟨look vs,ab os⟩:=rfl
@[simp↓] theorem JF {d:Option Nat}{xs:List Operand}{g:Option (Nat×Bool)}{un:List Nat}{tg:Option Nat}:bC P Γ ⟨d,.not,xs,g,un,tg⟩ K ⟨look vs,ab os⟩=bK P Γ ⟨d,.not,xs,g,un,tg⟩ K ⟨look vs,ab os⟩:=rfl
@[simp↓] theorem Lx {d:Option Nat}{xs:List Operand}{g:Option (Nat×Bool)}{un:List Nat}{tg:Option Nat}:bC P Γ ⟨d,.neg,xs,g,un,tg⟩ K ⟨look vs,ab os⟩=bK P Γ ⟨d,.neg,xs,g,un,tg⟩ K ⟨look vs,ab os⟩:=rfl
@[simp↓] theorem J3 {d:Option Nat}{xs:List Operand}{g:Option (Nat×Bool)}{un:List Nat}{tg:Option Nat}{k:IntKind}:bC P Γ ⟨d,.qU k,xs,g,un,tg⟩ K ⟨look vs,ab os⟩=bK P Γ ⟨d,.qU k,xs,g,un,tg⟩ K ⟨look vs,ab os⟩:=rfl
@[simp↓] theorem JU {d:Option Nat}{xs:List Operand}{g:Option (Nat×Bool)}{un:List Nat}{tg:Option Nat}:bC P Γ ⟨d,.yE,xs,g,un,tg⟩ K ⟨look vs,ab os⟩=bK P Γ ⟨d,.yE,xs,g,un,tg⟩ K ⟨look vs,ab os⟩:=rfl
@[simp↓] theorem L3 {d:Option Nat}{xs:List Operand}{g:Option (Nat×Bool)}{un:List Nat}{tg:Option Nat}:bC P Γ ⟨d,.len,xs,g,un,tg⟩ K ⟨look vs,ab os⟩=bK P Γ ⟨d,.len,xs,g,un,tg⟩ K ⟨look vs,ab os⟩:=rfl
@[simp↓] theorem It {d:Option Nat}{xs:List Operand}{g:Option (Nat×Bool)}{un:List Nat}{tg:Option Nat}:bC P Γ ⟨d,.om,xs,g,un,tg⟩ K ⟨look vs,ab os⟩=bK P Γ ⟨d,.om,xs,g,un,tg⟩ K ⟨look vs,ab os⟩:=rfl
@[simp↓] theorem G0 {d:Option Nat}{xs:List Operand}{g:Option (Nat×Bool)}{un:List Nat}{tg:Option Nat}:bC P Γ ⟨d,.qb,xs,g,un,tg⟩ K ⟨look vs,ab os⟩=bK P Γ ⟨d,.qb,xs,g,un,tg⟩ K ⟨look vs,ab os⟩:=rfl
@[simp↓] theorem Lu {d:Option Nat}{xs:List Operand}{g:Option (Nat×Bool)}{un:List Nat}{tg:Option Nat}{lo hi:Bool}:bC P Γ ⟨d,.CU lo hi,xs,g,un,tg⟩ K ⟨look vs,ab os⟩=bK P Γ ⟨d,.CU lo hi,xs,g,un,tg⟩ K ⟨look vs,ab os⟩:=rfl
@[simp↓] theorem Kv {d:Option Nat}{xs:List Operand}{g:Option (Nat×Bool)}{un:List Nat}{tg:Option Nat}{o:Nat}{n:Option Nat}:bC P Γ ⟨d,.BO o n,xs,g,un,tg⟩ K ⟨look vs,ab os⟩=bK P Γ ⟨d,.BO o n,xs,g,un,tg⟩ K ⟨look vs,ab os⟩:=rfl
@[simp↓] theorem JO {d:Option Nat}{xs:List Operand}{g:Option (Nat×Bool)}{un:List Nat}{tg:Option Nat}{o:Nat}:bC P Γ ⟨d,.aE o,xs,g,un,tg⟩ K ⟨look vs,ab os⟩=bK P Γ ⟨d,.aE o,xs,g,un,tg⟩ K ⟨look vs,ab os⟩:=rfl
@[simp↓] theorem Gi {d:Option Nat}{xs:List Operand}{g:Option (Nat×Bool)}{un:List Nat}{tg:Option Nat}{n:Option Nat}:bC P Γ ⟨d,.load n,xs,g,un,tg⟩ K ⟨look vs,ab os⟩=bK P Γ ⟨d,.load n,xs,g,un,tg⟩ K ⟨look vs,ab os⟩:=rfl
@[simp↓] theorem Jq {d:Option Nat}{xs:List Operand}{g:Option (Nat×Bool)}{un:List Nat}{tg:Option Nat}{e:TypeId}{s:Nat}:bC P Γ ⟨d,.bo e s,xs,g,un,tg⟩ K ⟨look vs,ab os⟩=bK P Γ ⟨d,.bo e s,xs,g,un,tg⟩ K ⟨look vs,ab os⟩:=rfl
@[simp↓] theorem Lq {d:Option Nat}{xs:List Operand}{g:Option (Nat×Bool)}{un:List Nat}{tg:Option Nat}{e s:Nat}:bC P Γ ⟨d,.Cw e s,xs,g,un,tg⟩ K ⟨look vs,ab os⟩=bK P Γ ⟨d,.Cw e s,xs,g,un,tg⟩ K ⟨look vs,ab os⟩:=rfl
@[simp↓] theorem K1 {d:Option Nat}{xs:List Operand}{g:Option (Nat×Bool)}{un:List Nat}{tg:Option Nat}:bC P Γ ⟨d,.dg,xs,g,un,tg⟩ K ⟨look vs,ab os⟩=bK P Γ ⟨d,.dg,xs,g,un,tg⟩ K ⟨look vs,ab os⟩:=rfl
@[simp↓] theorem L4 {d:Option Nat}{xs:List Operand}{g:Option (Nat×Bool)}{un:List Nat}{tg:Option Nat}{s:Nat}{lo hi:Bool}:bC P Γ ⟨d,.m4 s lo hi,xs,g,un,tg⟩ K ⟨look vs,ab os⟩=bK P Γ ⟨d,.m4 s lo hi,xs,g,un,tg⟩ K ⟨look vs,ab os⟩:=rfl
@[simp↓] theorem Jr {d:Option Nat}{xs:List Operand}{g:Option (Nat×Bool)}{un:List Nat}{tg:Option Nat}{i:Nat}:bC P Γ ⟨d,.ext i,xs,g,un,tg⟩ K ⟨look vs,ab os⟩=bK P Γ ⟨d,.ext i,xs,g,un,tg⟩ K ⟨look vs,ab os⟩:=rfl
@[simp↓] theorem Ko {d:Option Nat}{xs:List Operand}{g:Option (Nat×Bool)}{un:List Nat}{tg:Option Nat}{zs:List Value}{ps:List (Nat×Nat)}:bC P Γ ⟨d,.kg zs ps,xs,g,un,tg⟩ K ⟨look vs,ab os⟩=bK P Γ ⟨d,.kg zs ps,xs,g,un,tg⟩ K ⟨look vs,ab os⟩:=rfl
@[simp↓] theorem KU {d:Option Nat}{xs:List Operand}{g:Option (Nat×Bool)}{un:List Nat}{tg:Option Nat}{f:FuncId}:bC P Γ ⟨d,.yP f,xs,g,un,tg⟩ K ⟨look vs,ab os⟩=bK P Γ ⟨d,.yP f,xs,g,un,tg⟩ K ⟨look vs,ab os⟩:=rfl
@[simp↓] theorem GN {e:TypeId}{d:Nat}{xs:List Operand}{g:Option (Nat×Bool)}{un:List Nat}{tg:Option Nat}:bC P Γ ⟨some d,.cC e,xs,g,un,tg⟩ K ⟨look vs,ab os⟩=ck P Γ ⟨some d,.cC e,xs,g,un,tg⟩ K (oT d ⟨look vs,ab os⟩):=rfl
@[simp↓] theorem KH {d:Option Nat}{xs:List Operand}{g:Option (Nat×Bool)}{un:List Nat}{tg:Option Nat}:bC P Γ ⟨d,.box,xs,g,un,tg⟩ K ⟨look vs,ab os⟩=bK P Γ ⟨d,.box,xs,g,un,tg⟩ K ⟨look vs,ab os⟩:=rfl
@[simp↓] theorem Fu {d:Option Nat}{xs:List Operand}{g:Option (Nat×Bool)}{un:List Nat}{tg:Option Nat}{zs:List Value}:bC P Γ ⟨d,.alloc zs,xs,g,un,tg⟩ K ⟨look vs,ab os⟩=bK P Γ ⟨d,.alloc zs,xs,g,un,tg⟩ K ⟨look vs,ab os⟩:=rfl
@[congr] theorem EI {i:AI}{st st':St} (h:True→st=st'):bK P Γ i K st=bK P Γ i K st':=by rw[h trivial]
@[simp↓] theorem Jl {d:Option Nat}{xs:List Operand}{g:Option (Nat×Bool)}{un:List Nat}{tg:Option Nat}{e:TypeId}{s:Nat}:bC P Γ ⟨d,.gF e s,xs,g,un,tg⟩ K ⟨look vs,ab os⟩=bK P Γ ⟨d,.gF e s,xs,g,un,tg⟩ K (b8 ⟨look vs,ab os⟩ ((xs.map (ev (look vs))).map strip)):=rfl
@[simp↓] theorem FQ {f:FuncId}{d:Option Nat}{xs:List Operand}{s:Nat}{w:Bool}{un:List Nat}{tg:Option Nat}:bC P Γ ⟨d,.call f,xs,some (s,w),un,tg⟩ K ⟨look vs,ab os⟩=j5 P Γ ⟨d,.call f,xs,some (s,w),un,tg⟩ f s w (cN Γ f) K ⟨look vs,ab os⟩:=rfl
@[congr] theorem Di {i:AI}{f:FuncId}{s:Nat}{w:Bool}{o o':Option (Nat×Nat)}{st:St} (h:True→o=o'):j5 P Γ i f s w o K st=j5 P Γ i f s w o' K st:=by rw[h trivial]
@[simp↓] theorem Ft {f:FuncId}{d:Option Nat}{xs:List Operand}{s s':Nat}{w w':Bool}{un:List Nat}{tg:Option Nat}:j5 P Γ ⟨d,.call f,xs,some (s',w'),un,tg⟩ f s w none K ⟨look vs,ab os⟩=fo (eH ((xs.map (ev (look vs))).map strip)) (CQ (bj (look vs s) w)) (ag (bj (look vs s) w) fun c=>ag (en (ab os) ((xs.map (ev (look vs))).map strip)) fun ys=>ag (gt Γ f ys) fun x=>if SC x.2=true then(if c=true then jD P Γ ⟨d,.call f,xs,none,[],none⟩ f K ⟨look vs,ab os⟩ else K ((bh.put (.bL false .al)).on d ⟨look vs,ab os⟩)) else ck P Γ ⟨d,.call f,xs,some (s',w'),un,tg⟩ K ⟨look vs,ab os⟩) (K ((bh.put (.bL false .al)).on d ⟨look vs,ab os⟩)):=rfl
@[simp↓] theorem Fm {f:FuncId}{d:Option Nat}{xs:List Operand}{s s' p k:Nat}{w w':Bool}{un:List Nat}{tg:Option Nat}:j5 P Γ ⟨d,.call f,xs,some (s',w'),un,tg⟩ f s w (some (p,k)) K ⟨look vs,ab os⟩=if k=996 then ag (bj (look vs s) w) fun c=>if c=true then stepG Γ d f (xs.map (ev (look vs))) (gx Γ f) K ⟨look vs,ab os⟩ else K ((bh.put (.bL false .al)).on d ⟨look vs,ab os⟩) else False:=rfl
@[simp↓] theorem HZ {f:FuncId}{d:Option Nat}{xs:List Operand}{un:List Nat}{tg:Option Nat}:bC P Γ ⟨d,.call f,xs,none,un,tg⟩ K ⟨look vs,ab os⟩=fh P Γ ⟨d,.call f,xs,none,un,tg⟩ f (cN Γ f) K ⟨look vs,ab os⟩:=rfl
@[congr] theorem Ek {i:AI}{f:FuncId}{o o':Option (Nat×Nat)}{st:St} (h:True→o=o'):fh P Γ i f o K st=fh P Γ i f o' K st:=by rw[h trivial]
@[simp↓] theorem Fz {i:AI}{f:FuncId}{st:St}:fh P Γ i f none K st=jD P Γ i f K st:=rfl
@[simp↓] theorem Fl {f g:FuncId}{p k:Nat}{d:Option Nat}{xs:List Operand}{un:List Nat}{tg:Option Nat}:fh P Γ ⟨d,.call g,xs,none,un,tg⟩ f (some (p,k)) K ⟨look vs,ab os⟩=if k=997 then vE P Γ d f (xs.map (ev (look vs))) p K ⟨look vs,ab os⟩ else if k=996 then stepG Γ d f (xs.map (ev (look vs))) (gx Γ f) K ⟨look vs,ab os⟩ else ja P Γ d f (xs.map (ev (look vs))) p k K ⟨look vs,ab os⟩:=rfl
@[simp↓] theorem OI {d:Nat}{f:FuncId}{xs:List AV}{p:Nat}:vE P Γ (some d) f xs p K ⟨look vs,ab os⟩=(aj xs∧ag (np (ab os) p (xs.map strip)) fun ys=>ag (Γ (f+1000000) ys) fun x=>x.1∧(dB (xs.map strip)=true∨flat x.2)∧(∀y∈aB d x.2,ab os y.1=none)∧cr x.2=true∧K ⟨put (some d) (cq (jE d) x.2) (look vs),bd (aB d x.2) (ab os)⟩):=rfl
@[simp] theorem TL (aa:Nat→Option AO) (vs:List AV):np aa 0 (.pv .nil::vs)=(en aa vs).map (.pv .nil::·):=nr rfl
@[simp] theorem MZ {f:FuncId}:cN Γ f=(Γ (f+1000000) [.al]).bind fun x=>yL x.2:=nr rfl
@[simp] theorem LZ {p k:Nat}:yL (.ptr p k)=if k=998∨k=999∨k=997∨k=996 then some (p,k) else none:=nr rfl
@[simp↓] theorem Qo {d:Nat}{f:FuncId}{xs:List AV}{p k:Nat}:ja P Γ (some d) f xs p k K ⟨look vs,ab os⟩=(aj xs∧ag ((xs.map strip)[p]?) fun X=>ag (dW (ab os) k X) fun T=>jN T.1 p (xs.map strip)∧ag (nN (ew T.1 (ab os)) (sj k T.2.1 T.2.2) p (xs.map strip)) fun ys=>ag (Γ (f+1000000) ys) fun x=>x.1∧(gO p (xs.map strip)=true∨(flat (bB x.2)∧mj (dr x.2)))∧(∀y∈aB d (bB x.2),ab os y.1=none)∧cr (bB x.2)=true∧K ⟨put (some d) (cq (jE d) (bB x.2)) (fq T.1 x.2 (look vs)),bd (aB d (bB x.2)) (ca T.1 x.2 (ab os))⟩):=rfl
@[simp] def Wa:XK→Bool|.ow _=>true|.Ma|.AA _|.zR _ _ _|.dead|.nn _|.ta|.xY|.xH _ _ _ _|.Ae _|.Ki _ _ _|.mark|.Mn|.zG|.IL|.Af _ _ _|.TU _|.At _|.MA|.TR|.Ss=>false
def tZ (d:Option Nat) (x:XK) (xs:List Operand) (K:St→Prop) (st:St):Prop:=aM d x (xs.map (ev st.vars)) K st
def wZ:Bool→Prop→Prop→Prop|true,_,B=>B|false,A,_=>A
@[simp↓] theorem Fs {A B:Prop}:wZ true A B=B:=rfl
@[simp↓] theorem D9 {A B:Prop}:wZ false A B=A:=rfl
@[simp↓] theorem RF {d:Option Nat}{xs:List Operand}{un:List Nat}{tg:Option Nat}{x:XK}:bC P Γ ⟨d,.ex x,xs,none,un,tg⟩ K ⟨look vs,ab os⟩=wZ (Wa x) (aM d x (xs.map (ev (look vs))) K ⟨look vs,ab os⟩) (tZ d x xs K (b8 ⟨look vs,ab os⟩ ((xs.map (ev (look vs))).map strip))):=by cases x<;>rfl
@[congr] theorem DG {d:Option Nat}{x:XK}{xs:List Operand}{st st':St} (h:True→st=st'):tZ d x xs K st=tZ d x xs K st':=by rw[h trivial]
@[simp↓] theorem JE {d:Option Nat}{x:XK}{xs:List Operand}:tZ d x xs K ⟨look vs,ab os⟩=aM d x (xs.map (ev (look vs))) K ⟨look vs,ab os⟩:=rfl
@[simp↓] theorem Jo {d:Option Nat}{xs:List Operand}{s:Nat}{w:Bool}{un:List Nat}{tg:Option Nat}{x:XK}:bC P Γ ⟨d,.ex x,xs,some (s,w),un,tg⟩ K ⟨look vs,ab os⟩=ag (bj (look vs s) w) fun c=>if c=true then aM d x (xs.map (ev (look vs))) K ⟨look vs,ab os⟩ else K ((bh.put (.bL false .al)).on d ⟨look vs,ab os⟩):=rfl
@[congr] theorem D6 {d:Option Nat}{x:XK}{xs xs':List AV}{st:St} (h:True→xs=xs'):aM d x xs K st=aM d x xs' K st:=by rw[h trivial]
@[simp↓] theorem Gd {d:Nat}:aM (some d) .Ma [] K ⟨look vs,ab os⟩=(ab os d=none∧K ⟨put (some d) (.own d) (look vs),bd [(d,.map [])] (ab os)⟩):=rfl
@[simp↓] theorem E0 {d:Option Nat}{s t:Nat}{k v:AV}:aM d (.AA s) [.own t,k,v] K ⟨look vs,ab os⟩=um d s t (strip k) (strip v) [.own t,k,v] K ⟨look vs,ab os⟩:=by cases hk:strip k<;>simp[aM,pj,um,hk,strip]
@[simp↓] theorem Ob {d:Option Nat}{s t:Nat}{k:PV}{v:AV}{xs:List AV}:um d s t (.pv k) v xs K ⟨look vs,ab os⟩=(aj xs∧ag (tX (ab os t)) fun es=>cD k=s∧gX s es∧dc v=true∧K ⟨put d .al (look vs),aA t (.map (jj k v es)) (ab os)⟩):=rfl
@[congr] theorem Ff {d:Option Nat}{s t:Nat}{k k' v v':AV}{xs xs':List AV}{st:St} (h1:True→k=k') (h2:True→v=v') (h3:True→xs=xs'):um d s t k v xs K st=um d s t k' v' xs' K st:=by rw[h1 trivial,h2 trivial,h3 trivial]
@[simp↓] theorem NJ {d:Option Nat}{s t:Nat}{z:Value}{ok:Bool}{k:PV}{xs:List AV}:M4 d s t z ok (.pv k) xs K ⟨look vs,ab os⟩=(aj xs∧ag (tX (ab os t)) fun es=>cD k=s∧gX s es∧K ⟨put d (if ok=true then .aC [(getM k es).getD (Cz z),.pv (.bool (getM k es).isSome)] else(getM k es).getD (Cz z)) (look vs),ab os⟩):=rfl
@[simp↓] theorem Da {d:Option Nat}{s:Nat}{ks:List PV}{z:Value}{ok:Bool}{k:AV}:aM d (.zR s z ok) [.pv (.mp ks),k] K ⟨look vs,ab os⟩=pT d s ks z ok (strip k) [.pv (.mp ks),k] K ⟨look vs,ab os⟩:=by cases hk:strip k<;>simp[aM,pj,pT,hk,strip]
@[simp↓] theorem KJ {d:Option Nat}{s:Nat}{ks:List PV}{z:Value}{ok:Bool}{k:PV}{xs:List AV}:pT d s ks z ok (.pv k) xs K ⟨look vs,ab os⟩=(aj xs∧s0 z=true∧cD k=s∧(∀x∈ks,cD x=s)∧K ⟨put d (if ok=true then .aC [.agg [],.pv (.bool (ks.any (lA k)))] else .agg []) (look vs),ab os⟩):=rfl
@[congr] theorem En {d:Option Nat}{s:Nat}{ks:List PV}{z:Value}{ok:Bool}{k k':AV}{xs xs':List AV}{st:St} (h1:True→k=k') (h3:True→xs=xs'):pT d s ks z ok k xs K st=pT d s ks z ok k' xs' K st:=by rw[h1 trivial,h3 trivial]
@[simp↓] theorem Hz {d:Option Nat}{x y:AV}:aM d .Mn [x,y] K ⟨look vs,ab os⟩=rK d (strip x) (strip y) [x,y] K ⟨look vs,ab os⟩:=rfl
@[simp↓] theorem MY {d:Option Nat}{t o q:Nat}{e:TypeId}{i:Int}{xs:List AV}:rK d (.aI t e i o) (.own q) xs K ⟨look vs,ab os⟩=(aj xs∧ag (cn (ab os t)) fun r=>(r.1=e∧o=0)∧(0≤i∧i<r.2.length∧(rowAt r.2 i).length=1)∧K ⟨put d .al (look vs),aA t (.rws e ((r.2.map fun x=>AV.pv (x.getD 0 .nil)).set i.toNat (.own q))) (ab os)⟩):=rfl
@[simp↓] theorem EH {d:Option Nat}{x:AV}:aM d .zG [x] K ⟨look vs,ab os⟩=qW d (strip x) [x] K ⟨look vs,ab os⟩:=rfl
@[simp↓] theorem Es {d:Option Nat}{a b c:AV}:aM d .ta [a,b,c] K ⟨look vs,ab os⟩=nR d [a,b,c] [strip a,strip b,strip c] K ⟨look vs,ab os⟩:=rfl
@[congr] theorem ER {d:Option Nat}{xs xs' ys ys':List AV}{st:St} (h1:True→xs=xs') (h2:True→ys=ys'):nR d xs ys K st=nR d xs' ys' K st:=by rw[h1 trivial,h2 trivial]
@[simp↓] theorem Rg {d:Option Nat}{xs:List AV}{a b c:Int}:nR d xs [.pv (.int .u64 a),.pv (.int .u64 b),.pv (.int .u64 c)] K ⟨look vs,ab os⟩=(aj xs∧(0≤a∧0≤b∧0≤c∧c≤1)∧K ⟨put d (.aC [.pv (.int .u64 ((a+b+c)%18446744073709551616)),.pv (.int .u64 ((a+b+c)/18446744073709551616))]) (look vs),ab os⟩):=rfl
@[simp↓] theorem FB {d:Option Nat}{x:AV}:aM d .xY [x] K ⟨look vs,ab os⟩=jR d (strip x) [x] K ⟨look vs,ab os⟩:=by cases hk:strip x<;>simp[aM,pj,jR,hk];rename_i p;cases p<;>simp
@[simp↓] theorem Gf {d:Option Nat}{xs:List AV}:jR d (.pv .nil) xs K ⟨look vs,ab os⟩=(aj xs∧K ⟨put d (.pv (.int .i64 0)) (look vs),ab os⟩):=rfl
@[congr] theorem CZ {d:Option Nat}{x x':AV}{xs xs':List AV}{st:St} (h1:True→x=x') (h2:True→xs=xs'):jR d x xs K st=jR d x' xs' K st:=by rw[h1 trivial,h2 trivial]
@[simp↓] theorem H3 {d:Option Nat}{e:TypeId}{b:Nat}{zs:List Value}{x y:AV}:aM d (.Ki e b zs) [x,y] K ⟨look vs,ab os⟩=vX d e b zs [x,y] [strip x,strip y] K ⟨look vs,ab os⟩:=rfl
@[simp↓] theorem FH {d:Option Nat}{e:TypeId}{xs:List AV}:aM d (.Ae e) xs K ⟨look vs,ab os⟩=ub d e xs (xs.map strip) K ⟨look vs,ab os⟩:=rfl
@[simp↓] theorem Fc {d:Option Nat}{e:TypeId}{sz b:Nat}{zs:List Value}{x y:AV}:aM d (.xH e sz b zs) [x,y] K ⟨look vs,ab os⟩=jG d e b zs [x,y] [strip x,strip y] K ⟨look vs,ab os⟩:=rfl
@[congr] theorem Dm {d:Option Nat}{e:TypeId}{b:Nat}{zs:List Value}{xs xs' ys ys':List AV}{st:St} (h1:True→xs=xs') (h2:True→ys=ys'):jG d e b zs xs ys K st=jG d e b zs xs' ys' K st:=by rw[h1 trivial,h2 trivial]
@[simp↓] theorem Ln {d:Nat}{e:TypeId}{b:Nat}{zs:List Value}{xs:List AV}{n:Int}:jG (some d) e b zs xs [.pv .nil,.pv (.int .i64 n)] K ⟨look vs,ab os⟩=(aj xs∧(0≤n∧n≤140737488355328∧n.toNat*b≤140737488355328)∧ab os d=none∧K ⟨put (some d) (.own d) (look vs),bd [(d,.arr e (List.replicate n.toNat (zs.map ou)))] (ab os)⟩):=rfl
@[simp↓] theorem D4 {d:Option Nat}{ne:Bool}{x:AV}:aM d (.nn ne) [x] K ⟨look vs,ab os⟩=(aj [x]∧ag (ez (ab os) (strip x)) fun rows=>B6 d ne rows K ⟨look vs,ab os⟩):=rfl
theorem qo {d:Option Nat}{ne:Bool}{rows:List (List PV)}:B6 d ne rows K ⟨look vs,ab os⟩=∀b:Bool,(rows≠[]→b=false)→K ⟨put d (.pv (.bool (if ne=true then !b else b))) (look vs),ab os⟩:=rfl
@[simp↓] theorem GB {d:Option Nat}{ne:Bool}{r:List PV}{rows:List (List PV)}:B6 d ne (r::rows) K ⟨look vs,ab os⟩=K ⟨put d (.pv (.bool ne)) (look vs),ab os⟩:=by
 rw[qo];apply propext;constructor;·intro h;have:=h false (fun _=>rfl);cases ne<;>exact this
 ·intro h b hb;have:=hb (by simp);subst this;cases ne<;>exact h
@[simp] theorem LX (es:List (PV×AV)):tX (some (.map es))=some es:=nr rfl
@[simp] theorem UE (k:IntKind) (n:Int):cD (.int k n)=2+ky k:=nr rfl
@[simp] theorem Sr (l:List UInt8):cD (.str l)=1:=nr rfl
@[simp] theorem Sl (b:Bool):cD (.bool b)=0:=nr rfl
@[simp] theorem Pq:ky .u64=7:=nr rfl
@[simp] theorem UD:ky .u8=4:=nr rfl
@[simp↓] theorem KI {d:Option Nat}{xs:List Operand}{un:List Nat}{tg:Option Nat}{e:TypeId}{s:Nat}{zs:List Value}:bC P Γ ⟨d,.ze e s zs,xs,none,un,tg⟩ K ⟨look vs,ab os⟩=mr d e s zs (xs.map (ev (look vs))) K ⟨look vs,ab os⟩:=rfl
@[simp↓] theorem Hi {d:Option Nat}{e:TypeId}{s:Nat}{zs:List Value}{xs:List AV}:mr d e s zs xs K ⟨look vs,ab os⟩=(aj xs∧ag ((xs.map strip).head?) fun X=>ag (wK (ab os) e zs X) fun r=>K ((bh.rL r.1 r.2).on d ⟨look vs,ab os⟩)):=rfl
@[simp↓] theorem O7 {f g:FuncId}{d:Option Nat}{xs:List Operand}{un:List Nat}{tg:Option Nat}:jD P Γ ⟨d,.call g,xs,none,un,tg⟩ f K ⟨look vs,ab os⟩=ag (en (ab os) ((xs.map (ev (look vs))).map strip)) fun ys=>ag (gt Γ f ys) fun x=>if(P1 x.2&&!dB ((xs.map (ev (look vs))).map strip))=true then uu P Γ d f xs K (b8 ⟨look vs,ab os⟩ ((xs.map (ev (look vs))).map strip)) else ck P Γ ⟨d,.call g,xs,none,un,tg⟩ K ⟨look vs,ab os⟩:=rfl
@[congr] theorem Fk {d:Option Nat}{f:FuncId}{xs:List Operand}{st st':St} (h:True→st=st'):uu P Γ d f xs K st=uu P Γ d f xs K st':=by rw[h trivial]
@[simp↓] theorem Nu {d:Option Nat}{f:FuncId}{xs:List Operand}:uu P Γ d f xs K ⟨look vs,ab os⟩=bX P Γ d f (xs.map (ev (look vs))) (ab os) fun e=>K (e.on d ⟨look vs,ab os⟩):=rfl
@[simp↓] theorem Lr {d:Option Nat}{xs:List Operand}{g:Option (Nat×Bool)}{un:List Nat}{tg:Option Nat}{b:Bool}:bC P Γ ⟨d,.zB b,xs,g,un,tg⟩ K ⟨look vs,ab os⟩=bK P Γ ⟨d,.zB b,xs,g,un,tg⟩ K ⟨look vs,ab os⟩:=rfl
@[simp↓] theorem LL {d:Option Nat}{xs:List Operand}{g:Option (Nat×Bool)}{un:List Nat}{tg:Option Nat}{ne:Bool}{ks:List Nat}:bC P Γ ⟨d,.eqs ne ks,xs,g,un,tg⟩ K ⟨look vs,ab os⟩=bK P Γ ⟨d,.eqs ne ks,xs,g,un,tg⟩ K ⟨look vs,ab os⟩:=rfl
@[simp↓] theorem EL {d:Option Nat}{xs:List Operand}{g:Option (Nat×Bool)}{un:List Nat}{tg:Option Nat}{n:Option Nat}:bC P Γ ⟨d,.store n,xs,g,un,tg⟩ K ⟨look vs,ab os⟩=bK P Γ ⟨d,.store n,xs,g,un,tg⟩ K ⟨look vs,ab os⟩:=rfl
@[simp↓] theorem L2 {d:Option Nat}{xs:List Operand}{g:Option (Nat×Bool)}{un:List Nat}{e:TypeId}{s b:Nat}:bC P Γ ⟨d,.app e s b,xs,g,un,none⟩ K ⟨look vs,ab os⟩=bK P Γ ⟨d,.app e s b,xs,g,un,none⟩ K ⟨look vs,ab os⟩:=rfl
@[simp↓] theorem Ju {d:Option Nat}{xs:List Operand}{un:List Nat}{e:TypeId}{s b:Nat}:bC P Γ ⟨d,.app e s b,xs,none,un,some 999998⟩ K ⟨look vs,ab os⟩=if my ((xs.map (ev (look vs))).map strip)=true then tO d e s b (xs.map (ev (look vs))) K ⟨look vs,ab os⟩ else ck P Γ ⟨d,.app e s b,xs,none,un,some 999998⟩ K ⟨look vs,ab os⟩:=rfl
@[simp↓] theorem G1 {d:Option Nat}{e:TypeId}{sz b:Nat}{xs:List AV}:tO d e sz b xs K ⟨look vs,ab os⟩=(aj xs∧ag (BN (ab os) e (xs.map strip)) fun r=>((r.2.1.length+r.2.2.length)*b≤140737488355328∧r.2.1.length+r.2.2.length≤maxLen∧(∀q∈r.2.2,q.length=sz))∧r.1%1000≠999∧K ⟨put d (.pv (.ro (r.2.1++r.2.2))) (xQ r.1 r.2.1 (look vs)),ew r.1 (ab os)⟩):=rfl
@[simp↓] theorem I8 {d:Option Nat}{xs:List Operand}{g:Option (Nat×Bool)}{un:List Nat}{tg:Option Nat}:bC P Γ ⟨d,.qq,xs,g,un,tg⟩ K ⟨look vs,ab os⟩=bK P Γ ⟨d,.qq,xs,g,un,tg⟩ K ⟨look vs,ab os⟩:=rfl
@[simp↓] theorem F9 {d:Option Nat}{xs:List Operand}{g:Option (Nat×Bool)}{un:List Nat}{tg:Option Nat}{e:TypeId}:bC P Γ ⟨d,.ve e,xs,g,un,tg⟩ K ⟨look vs,ab os⟩=bK P Γ ⟨d,.ve e,xs,g,un,tg⟩ K ⟨look vs,ab os⟩:=rfl
@[simp↓] theorem bH {a b:AC}:fF P Γ (.seq a b) K J ⟨look vs,ab os⟩=fF P Γ a (fun st'=>fF P Γ b K J st') J ⟨look vs,ab os⟩:=rfl
@[simp↓] theorem vI {x:Operand}{a b:AC}:fF P Γ (.cond x a b) K J ⟨look vs,ab os⟩=ag (gu (ev (look vs) x)) fun c=>(c=true→fF P Γ a K J ⟨look vs,ab os⟩)∧(c=false→fF P Γ b K J ⟨look vs,ab os⟩):=rfl
@[simp↓] theorem aT {id:Nat}{a:AC}:fF P Γ (.block id a) K J ⟨look vs,ab os⟩=fF P Γ a K (lM id K J) ⟨look vs,ab os⟩:=rfl
@[simp↓] theorem Hm {id id':Nat}:lM id K J (.exit id') ⟨look vs,ab os⟩=if id'=id then K ⟨look vs,ab os⟩ else J (.exit id') ⟨look vs,ab os⟩:=rfl
@[simp↓] theorem JK {id:Nat}:lM id K J .ret ⟨look vs,ab os⟩=J .ret ⟨look vs,ab os⟩:=rfl
@[simp↓] theorem BA {id:Nat}:fF P Γ (.exit id) K J ⟨look vs,ab os⟩=J (.exit id) ⟨look vs,ab os⟩:=rfl
@[simp↓] theorem SH:fF P Γ .ret K J ⟨look vs,ab os⟩=J .ret ⟨look vs,ab os⟩:=rfl
@[simp↓] theorem LW:steps P Γ [] K ⟨look vs,ab os⟩=K ⟨look vs,ab os⟩:=rfl
@[simp↓] theorem HF {i:AI}{is:List AI}:steps P Γ (i::is) K ⟨look vs,ab os⟩=cb P Γ i (fun st'=>steps P Γ is K st') ⟨look vs,ab os⟩:=rfl
@[simp↓] theorem Ja {d:Option Nat}{k:AK}{xs:List Operand}{g:Option (Nat×Bool)}{un:List Nat}:cb P Γ ⟨d,k,xs,g,un,none⟩ K ⟨look vs,ab os⟩=ck P Γ ⟨d,k,xs,g,un,none⟩ K ⟨look vs,ab os⟩:=by cases k<;>rfl
@[simp↓] theorem E3 {d:Option Nat}{n:Option Nat}{xs:List Operand}{g:Option (Nat×Bool)}{un:List Nat}{tg:Option Nat}:cb P Γ ⟨d,.store n,xs,g,un,tg⟩ K ⟨look vs,ab os⟩=ck P Γ ⟨d,.store n,xs,g,un,tg⟩ K ⟨look vs,ab os⟩:=rfl
@[simp↓] theorem HL {d:Option Nat}{f:FuncId}{xs:List Operand}{un:List Nat}:cb P Γ ⟨d,.call f,xs,none,un,some 999999⟩ K ⟨look vs,ab os⟩=fj P Γ ⟨d,.call f,xs,none,un,some 999999⟩ f (cN Γ f) K ⟨look vs,ab os⟩:=rfl
@[simp↓] theorem Iw {d:Option Nat}{xs:List Operand}{un:List Nat}:cb P Γ ⟨d,.fE,xs,none,un,some 999999⟩ K ⟨look vs,ab os⟩=ey P Γ d (xs.map (ev (look vs))) none K ⟨look vs,ab os⟩:=rfl
@[congr] theorem EM {i:AI}{f:FuncId}{o o':Option (Nat×Nat)}{st:St} (h:True→o=o'):fj P Γ i f o K st=fj P Γ i f o' K st:=by rw[h trivial]
@[simp↓] theorem H7 {f g:FuncId}{d:Option Nat}{xs:List Operand}{un:List Nat}{tg:Option Nat}:fj P Γ ⟨d,.call g,xs,none,un,tg⟩ f none K ⟨look vs,ab os⟩=ck P Γ ⟨d,.call g,xs,none,[],none⟩ K ⟨look vs,ab os⟩:=rfl
@[simp↓] theorem Gp {f g:FuncId}{p k:Nat}{d:Option Nat}{xs:List Operand}{un:List Nat}{tg:Option Nat}:fj P Γ ⟨d,.call g,xs,none,un,tg⟩ f (some (p,k)) K ⟨look vs,ab os⟩=if k=998 then un=[]∧ja P Γ d f (xs.map (ev (look vs))) p k K ⟨look vs,ab os⟩ else if k=996 then kP (za (gx Γ f) (ab os) ((xs.map (ev (look vs))).map strip)) ⟨look vs,ab os⟩ un∧stepG Γ d f (xs.map (ev (look vs))) (gx Γ f) K ⟨look vs,ab os⟩ else False:=rfl
@[simp↓] theorem L0 {T:List Nat}{st:St}:kP T st []=True:=rfl
@[simp↓] theorem Iy {T:List Nat}{s:Nat}{l:List Nat}:kP T ⟨look vs,ab os⟩ (s::l)=(ag (VD (ab os) (look vs s)) (fun t=>T.contains t=false)∧kP T ⟨look vs,ab os⟩ l):=rfl
@[simp↓] theorem QN {d:Option Nat}{k:AK}{xs:List Operand}{g:Option (Nat×Bool)}{un:List Nat}{tg:Option Nat}:ck P Γ ⟨d,k,xs,g,un,tg⟩ K ⟨look vs,ab os⟩=((un=[]∨gZ un (ab os) ((xs.map (ev (look vs))).map strip))∧cP P Γ ⟨d,k,xs,g,un,tg⟩ (look vs) (ab os) fun e=>wB un tg e∧K (e.on d ⟨look vs,ab os⟩)):=rfl
@[simp↓] theorem JH {d:Option Nat}{k:AK}{xs:List Operand}{un:List Nat}{tg:Option Nat}{aa:Nat→Option AO}{C:bh→Prop}{vars:Nat→AV}:cP P Γ ⟨d,k,xs,none,un,tg⟩ vars aa C=aL P Γ d k (xs.map (ev vars)) aa C:=rfl
@[simp↓] theorem Lc {d:Option Nat}{k:AK}{xs:List Operand}{s:Nat}{w:Bool}{un:List Nat}{tg:Option Nat}{aa:Nat→Option AO}{C:bh→Prop}{vars:Nat→AV}:cP P Γ ⟨d,k,xs,some (s,w),un,tg⟩ vars aa C=ag (bj (vars s) w) fun c=>bO P Γ c d k (xs.map (ev vars)) aa C:=rfl
theorem AD {e:bh}:je [] e=True:=by cases e<;>simp[je]
@[simp↓] theorem KO {un:List Nat}{v:AV}:je un (.put v)=True:=rfl
@[simp↓] theorem K3 {un:List Nat}{v:AV}{os:List (Nat×AO)}:je un (.new v os)=True:=rfl
@[simp↓] theorem LD {un:List Nat}{t:Nat}{o:AO}:je un (.rL t o)=True:=rfl
@[simp↓] theorem LF {un:List Nat}{t:Nat}{o:AO}:je un (.app t o)=(un.contains (t%1000+1000)=false):=rfl
@[simp↓1100] theorem SU {tg:Option Nat}{e:bh}:wB [] tg e=pw tg e:=by unfold wB;rw[AD,and_true]
@[simp↓] theorem R4 {un:List Nat}{e:bh}:wB un none e=je un e:=by unfold wB pw;rw[true_and]
@[simp↓] theorem Mo {un:List Nat}{s:Nat}{e:bh}:wB un (some s) e=(pw (some s) e∧je un e):=rfl
@[simp↓] theorem Mm {e:bh}:pw none e=True:=rfl
@[simp↓] theorem Pr {s t:Nat}{o:AO}:pw (some s) (.rL t o)=(t=s):=rfl
@[simp↓] theorem V2 {d:Option Nat}{v:AV}:(bh.put v).on d ⟨look vs,ab os⟩=⟨put d v (look vs),ab os⟩:=rfl
@[simp↓] theorem gP {d:Option Nat}{v:AV}{l:List (Nat×AO)}:(bh.new v l).on d ⟨look vs,ab os⟩=⟨put d v (look vs),bd l (ab os)⟩:=rfl
@[simp↓] theorem Vc {d:Option Nat}{t:Nat}{o:AO}:(bh.rL t o).on d ⟨look vs,ab os⟩=⟨put d .al (look vs),aA t o (ab os)⟩:=rfl
@[simp↓] theorem mI {d:Option Nat}{t:Nat}{o:AO}:(bh.app t o).on d ⟨look vs,ab os⟩=⟨put d (.own t) (bU t (look vs)),aA t o (cF t (ab os))⟩:=rfl
end
theorem Bg (d:Nat) (v:AV) (l:List (Nat×AV)):put (some d) v (look l)=look ((d,v)::l):=by funext s;simp[put,look]
theorem AX (v:AV) (f:Nat→AV):put none v f=f:=rfl
theorem zS (t:Nat) (o:AO) (l:List (Nat×AO)):aA t o (ab l)=ab ((t,o)::l):=by funext s;simp[aA,ab]
theorem wN (aU:List Nat) (l:List (Nat×AV)):gK aU (look l)=look (aU.map fun s=>(s,look l s)):=by funext s;unfold gK;induction aU with|nil=>simp[look]|cons k ks ih=>
 simp only[List.map_cons,look];by_cases h:s=k;·subst h;simp
 ·simp only[List.contains_cons,h,if_false];have:(s==k)=false:=by simpa using h
  rw[this];simpa using ih
theorem sd (t:Nat) (l:List (Nat×AV)):bU t (look l)=look (l.map fun x=>(x.1,kill t x.2)):=by funext s;unfold bU;induction l with|nil=>rfl|cons x l ih=>obtain⟨k,v⟩:=x;simp only[List.map_cons,look];split<;>simp_all
theorem wM (t:Nat) (l:List (Nat×AO)):cF t (ab l)=ab (l.map fun x=>(x.1,cQ t x.2)):=by funext s;unfold cF;induction l with|nil=>rfl|cons x l ih=>obtain⟨k,v⟩:=x;simp only[List.map_cons,ab];split<;>simp_all
theorem zU (m l:List (Nat×AO)):bd m (ab l)=ab (m++l):=by funext s;unfold bd;induction m with|nil=>simp[ab]|cons x m ih=>
 obtain⟨k,v⟩:=x;simp only[List.cons_append,ab];by_cases h:s=k;·simp[h]
 ·simp only[if_neg h];exact ih
theorem nP (vs:List (Nat×AV)) (os:List (Nat×AO)):(Fr.mk vs os).st=⟨look vs,ab os⟩:=rfl
def DF (t:Nat):List (Nat×AO)→List (Nat×AO)|[]=>[]|x::l=>if x.1=t then DF t l else(x.1,cQ t x.2)::DF t l
@[simp] theorem T0 (t:Nat):DF t []=[]:=nr rfl
@[simp] theorem A8 (t s:Nat) (o:AO) (l:List (Nat×AO)):DF t ((s,o)::l)=if s=t then DF t l else(s,cQ t o)::DF t l:=nr rfl
theorem qe (t:Nat) (l:List (Nat×AO)):ew t (ab l)=ab (DF t l):=by funext s;unfold ew;induction l with|nil=>simp[ab]|cons x l ih=>
 obtain⟨k,v⟩:=x;simp only[A8,ab];by_cases hs:s=t
 ·subst hs;simp only[if_true]at ih ⊢;by_cases hk:k=s;·simp[hk];exact ih
  ·have hk':¬s=k:=fun e=>hk e.symm;simp[hk,ab,hk'];exact ih
 ·simp only[hs,if_false]at ih ⊢;by_cases hk:k=t;·have:¬s=k:=fun e=>hs (e.trans hk);rw[if_pos hk,if_neg this];exact ih
  ·simp only[hk,if_false,ab];by_cases hsk:s=k;·simp[hsk]
   ·simp only[hsk,if_false];exact ih
def CS (t:Nat) (e:TypeId) (rows:List (List PV)):List (Nat×AO)→List (Nat×AO)|[]=>[]|x::l=>if x.1=t then CS t e rows l else(x.1,CG t e rows x.2)::CS t e rows l
@[simp] theorem UF (t:Nat) (e:TypeId) (rows:List (List PV)):CS t e rows []=[]:=nr rfl
@[simp] theorem Cd (t s:Nat) (e:TypeId) (rows:List (List PV)) (o:AO) (l:List (Nat×AO)):CS t e rows ((s,o)::l)=if s=t then CS t e rows l else(s,CG t e rows o)::CS t e rows l:=nr rfl
theorem B9 (t:Nat) (e0:TypeId) (rows:List (List PV)) (l:List (Nat×AV)):Ub t e0 rows (look l)=look (l.map fun x=>(x.1,zQ t e0 rows x.2)):=by funext s;unfold Ub;induction l with|nil=>rfl|cons x l ih=>obtain⟨k,v⟩:=x;simp only[List.map_cons,look];split<;>simp_all
theorem Ac (t:Nat) (e:TypeId) (rows:List (List PV)) (l:List (Nat×AO)):wq t e rows (ab l)=ab (CS t e rows l):=by funext s;unfold wq;induction l with|nil=>simp[ab]|cons x l ih=>
 obtain⟨k,v⟩:=x;simp only[Cd,ab];by_cases hs:s=t
 ·subst hs;simp only[if_true]at ih ⊢;by_cases hk:k=s;·simp[hk];exact ih
  ·have hk':¬s=k:=fun e=>hk e.symm;simp[hk,ab,hk'];exact ih
 ·simp only[hs,if_false]at ih ⊢;by_cases hk:k=t;·have:¬s=k:=fun e=>hs (e.trans hk);rw[if_pos hk,if_neg this];exact ih
  ·simp only[hk,if_false,ab];by_cases hsk:s=k;·simp[hsk]
   ·simp only[hsk,if_false];exact ih
@[simp] theorem xF (vs:List (Nat×AV)) (os:List (Nat×AO)) (t:Nat):share1 ⟨look vs,ab os⟩ (.own t)=match cn (ab os t) with|some r=>⟨look (vs.map fun x=>(x.1,zQ t r.1 r.2 x.2)),ab (CS t r.1 r.2 os)⟩|none=>⟨look vs,ab os⟩:=by simp only[share1,gj];split<;>simp[*,B9,Ac]
@[simp] theorem N6 (vs:List (Nat×AV)) (os:List (Nat×AO)) (t:Nat):oT t ⟨look vs,ab os⟩=match cn (ab os t) with|some _=>⟨look (vs.map fun x=>(x.1,kill t x.2)),ab (DF t os)⟩|none=>⟨look vs,ab os⟩:=by simp only[oT];split<;>simp[*,sd,qe]
@[simp] theorem JZ (st:St) (p:PV):share1 st (.pv p)=st:=nr rfl
@[simp] theorem GL (st:St) (cs:List AV):share1 st (.agg cs)=eR st cs:=nr rfl
@[simp] theorem Fi (st:St):eR st []=st:=nr rfl
@[simp] theorem Dw (st:St) (c:AV) (cs:List AV):eR st (c::cs)=eR (gj st c) cs:=nr rfl
@[simp] theorem G6 (vs:List (Nat×AV)) (os:List (Nat×AO)) (t:Nat):gj ⟨look vs,ab os⟩ (.own t)=match cn (ab os t) with|some r=>⟨look (vs.map fun x=>(x.1,zQ t r.1 r.2 x.2)),ab (CS t r.1 r.2 os)⟩|none=>⟨look vs,ab os⟩:=xF vs os t
@[simp] theorem K4 (st:St) (p:PV):gj st (.pv p)=st:=nr rfl
@[simp] theorem Gc (st:St) (t o:Nat):share1 st (.ptr t o)=st:=nr rfl
@[simp] theorem ID (st:St) (f:FuncId) (cs:List AV):share1 st (.bk f cs)=st:=nr rfl
@[simp] theorem Ew (st:St):b8 st []=st:=nr rfl
@[simp] theorem CA (st:St) (v:AV) (l:List AV):b8 st (v::l)=b8 (share1 st v) l:=nr rfl
@[simp] theorem S9 (e0:TypeId) (t s:Nat) (rows:List (List PV)):zQ t e0 rows (.own s)=if s=t then .pv (.ro rows) else .own s:=nr rfl
@[simp] theorem T9 (e0:TypeId) (t s:Nat) (rows:List (List PV)):Jz t e0 rows (.own s)=if s=t then .pv (.ro rows) else .own s:=nr rfl
@[simp] theorem VZ (e0:TypeId) (t:Nat) (rows:List (List PV)) (p:PV):zQ t e0 rows (.pv p)=.pv p:=nr rfl
@[simp] theorem Ud (e0:TypeId) (t s o:Nat) (rows:List (List PV)):zQ t e0 rows (.ptr s o)=.ptr s o:=nr rfl
@[simp] theorem SL (e0:TypeId) (t:Nat) (cs:List AV) (rows:List (List PV)):zQ t e0 rows (.agg cs)=.agg (ot t e0 rows cs):=nr rfl
@[simp] theorem T5 (e0:TypeId) (t:Nat) (g:Bool) (v:AV) (rows:List (List PV)):zQ t e0 rows (.bL g v)=kill t (.bL g v):=nr rfl
@[simp] theorem TV (e0:TypeId) (t:Nat) (f:FuncId) (cs:List AV) (rows:List (List PV)):zQ t e0 rows (.bk f cs)=kill t (.bk f cs):=nr rfl
@[simp] theorem Sk (e0:TypeId) (t:Nat) (rows:List (List PV)):zQ t e0 rows .al=.al:=nr rfl
@[simp] theorem R5 (t:Nat) (e0:TypeId) (rows:List (List PV)):ot t e0 rows []=[]:=nr rfl
@[simp] theorem JD (t:Nat) (e0:TypeId) (rows:List (List PV)) (c:AV) (cs:List AV):ot t e0 rows (c::cs)=Jz t e0 rows c::ot t e0 rows cs:=nr rfl
@[simp] theorem UP (t:Nat) (e0:TypeId) (rows:List (List PV)) (p:PV):Jz t e0 rows (.pv p)=.pv p:=nr rfl
@[simp] theorem Sz (t:Nat) (e0:TypeId) (rows:List (List PV)) (cs:List AV):CG t e0 rows (.box cs)=.box (ot t e0 rows cs):=nr rfl
@[simp] theorem T1 (t:Nat) (e0:TypeId) (rows:List (List PV)) (e:TypeId) (rs:List (List PV)):CG t e0 rows (.arr e rs)=.arr e rs:=nr rfl
@[simp] theorem Uo (t:Nat) (e0:TypeId) (rows:List (List PV)) (es):CG t e0 rows (.map es)=.map es:=nr rfl
@[simp] theorem Th (t:Nat) (e0:TypeId) (rows:List (List PV)) (es):CG t e0 rows (.fD es)=.fD es:=nr rfl
@[simp] theorem V3 (p:PV):SC (.pv p)=Sp (.pv p):=nr rfl
@[simp] theorem NB (b:Bool):Sp (.pv (.bool b))=false:=nr rfl
@[simp] theorem Tb (vs:List AV):P1 (.aC vs)=Ay vs:=nr rfl
@[simp] theorem VL (p:PV):P1 (.pv p)=D0 (.pv p):=nr rfl
@[simp] theorem UU (e:TypeId) (rows:List (List PV)):P1 (.fr e rows)=false:=nr rfl
@[simp] theorem Sj:Ay []=false:=nr rfl
@[simp] theorem JX (c:AV) (cs:List AV):Ay (c::cs)=(Js c||Ay cs):=nr rfl
@[simp] theorem OY:Ao []=false:=nr rfl
@[simp] theorem Lo (c:AV) (cs:List AV):Ao (c::cs)=(D0 c||Ao cs):=nr rfl
@[simp] theorem TS (cs:List AV):Js (.agg cs)=Ao cs:=nr rfl
@[simp] theorem U4 (p:PV):Js (.pv p)=D0 (.pv p):=nr rfl
@[simp] theorem Wj (e:TypeId) (rows:List (List PV)):Js (.fr e rows)=false:=nr rfl
@[simp] theorem TZ (k:IntKind) (n:Int):D0 (.pv (.int k n))=false:=nr rfl
@[simp] theorem Rm (b:Bool):D0 (.pv (.bool b))=false:=nr rfl
@[simp] theorem UA (l:List UInt8):D0 (.pv (.str l))=false:=nr rfl
@[simp] theorem U2 (e:TypeId) (rows:List (List PV)):D0 (.fr e rows)=false:=nr rfl
@[simp] theorem Gb (aa:Nat→Option AO) (k t:Nat):dW aa k (.own t)=(cn (aa t)).map fun r=>(t,r.1,r.2):=nr rfl
@[simp] theorem UH (e:TypeId) (rows:List (List PV)):sj 998 e rows=.fr e rows:=nr rfl
@[simp] theorem SM (e:TypeId) (rows:List (List PV)):sj 999 e rows=.aC [.fr e rows]:=nr rfl
@[simp] theorem Sq (aa:Nat→Option AO) (m v:AV) (vs:List AV):nN aa m 0 (v::vs)=(en aa vs).map (m::·):=nr rfl
@[simp] theorem M8 (v:AV) (vs:List AV):gO 0 (v::vs)=dB vs:=nr rfl
@[simp] theorem Q3 (n:Nat) (r:AV) (e:TypeId) (rows:List (List PV)):bB (.bk n [r,.fr e rows])=r:=nr rfl
@[simp] theorem UJ (e:TypeId) (rows:List (List PV)):bB (.fr e rows)=.fr e rows:=nr rfl
@[simp] theorem Pe (n:Nat) (r:AV) (e:TypeId) (rows:List (List PV)):dr (.bk n [r,.fr e rows])=[(999,.arr e rows)]:=nr rfl
@[simp] theorem SE (e:TypeId) (rows:List (List PV)):dr (.fr e rows)=[]:=nr rfl
@[simp] theorem Kh:mj []=True:=nr rfl
@[simp] theorem Ly (t n:Nat) (r:AV) (e:TypeId) (rows:List (List PV)) (vars:Nat→AV):fq t (.bk n [r,.fr e rows]) vars=vars:=nr rfl
@[simp] theorem OG (t:Nat) (e:TypeId) (rows:List (List PV)) (vars:Nat→AV):fq t (.fr e rows) vars=bU t vars:=nr rfl
@[simp] theorem Kq (t n:Nat) (r:AV) (e:TypeId) (rows:List (List PV)) (aa:Nat→Option AO):ca t (.bk n [r,.fr e rows]) aa=aA t (.arr e rows) aa:=nr rfl
@[simp] theorem NF (t:Nat) (e:TypeId) (rows:List (List PV)) (aa:Nat→Option AO):ca t (.fr e rows) aa=ew t aa:=nr rfl
@[simp] theorem TA (t:Nat) (v:AV) (vs:List AV):jN t 0 (v::vs)=jN.kR t vs:=nr rfl
@[simp] theorem H8 (t:Nat):jN.kR t []=True:=nr rfl
@[simp] theorem FJ (t:Nat) (v:AV) (vs:List AV):jN.kR t (v::vs)=(tT t v∧jN.kR t vs):=nr rfl
@[simp] theorem Qy (t:Nat) (f:FuncId) (cs:List AV):tT t (.bk f cs)=qM t cs:=nr rfl
@[simp] theorem N2 (t s o:Nat):m5 t (.ptr s o)=(s≠t):=nr rfl
@[simp] theorem Je (t:Nat):qM t []=True:=nr rfl
@[simp] theorem Is (t:Nat) (c:AV) (cs:List AV):qM t (c::cs)=(m5 t c∧qM t cs):=nr rfl
@[simp] theorem Mt (aa:Nat→Option AO) (e e1:TypeId) (zs:List Value) (t lo hi:Nat):wK aa e zs (.sub t e1 lo hi)=(cn (aa t)).bind fun r=>if r.1=e∧e1=e then some (t,.arr e (r.2.take lo++List.replicate (hi-lo) (zs.map ou)++r.2.drop hi)) else none:=nr rfl
attribute[simp] qe Bg AX zS wN sd wM zU nP aB
@[simp] theorem look_nil (s:Nat):look [] s=.al:=nr rfl
@[simp] theorem K9 (t:Nat) (v:AV) (l:List (Nat×AV)) (s:Nat):look ((t,v)::l) s=if s=t then v else look l s:=nr rfl
@[simp] theorem LM (s:Nat):ab [] s=none:=nr rfl
@[simp] theorem xb (t:Nat) (v:AO) (l:List (Nat×AO)) (s:Nat):ab ((t,v)::l) s=if s=t then some v else ab l s:=nr rfl
section
variable(vars:Nat→AV) (t:Nat)
@[simp] theorem US:ev vars (.tmp t)=vars t:=nr rfl
@[simp] theorem Vf (k:IntKind) (n:Int):ev vars (.const (.int k n))=.pv (.int k n):=nr rfl
@[simp] theorem TJ (b:Bool):ev vars (.const (.bool b))=.pv (.bool b):=nr rfl
@[simp] theorem VF (s:ByteArray):ev vars (.const (.string s))=.pv (.str s.data.toList):=nr rfl
@[simp] theorem Wf:ev vars (.const (.slice none 0 0))=.pv .nil:=nr rfl
@[simp] theorem UC (f:FuncId):ev vars (.func f)=.bk f []:=nr rfl
@[simp] theorem VC (k:IntKind) (n:Int):cv (.int k n)=.pv (.int k n):=nr rfl
@[simp] theorem Ty (b:Bool):cv (.bool b)=.pv (.bool b):=nr rfl
@[simp] theorem VT (s:ByteArray):cv (.string s)=.pv (.str s.data.toList):=nr rfl
@[simp] theorem V4:cv (.slice none 0 0)=.pv .nil:=nr rfl
end
section
@[simp] theorem SQ (p:PV):asks (.pv p)=True:=nr rfl
@[simp] theorem OZ (t:Nat):asks (.own t)=True:=nr rfl
@[simp] theorem PF (t o:Nat):asks (.ptr t o)=True:=nr rfl
@[simp] theorem Jt (t:Nat) (e:TypeId) (i:Int) (o:Nat):asks (.aI t e i o)=True:=nr rfl
@[simp] theorem Q6 (t:Nat) (e:TypeId) (i o:Nat):asks (.sub t e i o)=True:=nr rfl
@[simp] theorem Ur (cs:List PV):asks (.rp cs)=True:=nr rfl
@[simp] theorem Nj (cs:List AV):asks (.agg cs)=True:=nr rfl
@[simp] theorem Oa (cs:List AV):asks (.aC cs)=True:=nr rfl
@[simp] theorem MV (f:FuncId) (cs:List AV):asks (.bk f cs)=True:=nr rfl
@[simp] theorem Kb:asks .al=True:=nr rfl
@[simp] theorem PG (g:Bool) (v:AV):asks (.bL g v)=(g=true∧asks v):=nr rfl
@[simp] theorem LV:aj []=True:=nr rfl
@[simp] theorem GF (v:AV) (l:List AV):aj (v::l)=(asks v∧aj l):=nr rfl
@[simp] theorem Pg (p:PV):strip (.pv p)=.pv p:=nr rfl
@[simp] theorem Kz (g:Bool) (v:AV):strip (.bL g v)=strip v:=nr rfl
@[simp] theorem Kd (t:Nat):strip (.own t)=(.own t):=nr rfl
@[simp] theorem Lb (t o:Nat):strip (.ptr t o)=(.ptr t o):=nr rfl
@[simp] theorem Hy (t:Nat) (e:TypeId) (i:Int) (o:Nat):strip (.aI t e i o)=(.aI t e i o):=nr rfl
@[simp] theorem Kj (t:Nat) (e:TypeId) (i o:Nat):strip (.sub t e i o)=(.sub t e i o):=nr rfl
@[simp] theorem Oo (cs:List PV):strip (.rp cs)=(.rp cs):=nr rfl
@[simp] theorem J1 (cs:List AV):strip (.agg cs)=(.agg cs):=nr rfl
@[simp] theorem LB (cs:List AV):strip (.aC cs)=(.aC cs):=nr rfl
@[simp] theorem KS (f:FuncId) (cs:List AV):strip (.bk f cs)=(.bk f cs):=nr rfl
@[simp] theorem I4:strip .al=.al:=nr rfl
@[simp] theorem Mv (b:Bool):bj (.pv (.bool b)) true=some b:=nr rfl
@[simp] theorem MG (b:Bool):bj (.pv (.bool b)) false=some (!b):=nr rfl
@[simp] theorem Nk (c:Bool) (v:AV) (w:Bool):bj (.bL c v) w=qi c (bj v w):=nr rfl
@[simp] theorem Uc (o:Option Bool):qi true o=o:=nr rfl
@[simp] theorem UG (o:Option Bool):qi false o=some false:=nr rfl
@[simp] theorem Tw (c b:Bool):qi c (some b)=some (c&&b):=by cases c<;>rfl
@[simp] theorem MC:eH []=false:=nr rfl
@[simp] theorem Kn (l:List AV):eH (.al::l)=true:=nr rfl
@[simp] theorem NN (v:Value) (l:List AV):eH (.pv (.val v)::l)=true:=nr rfl
@[simp] theorem MX (k:IntKind) (n:Int) (l:List AV):eH (.pv (.int k n)::l)=eH l:=nr rfl
@[simp] theorem Lj (b:Bool) (l:List AV):eH (.pv (.bool b)::l)=eH l:=nr rfl
@[simp] theorem Qw (b:List UInt8) (l:List AV):eH (.pv (.str b)::l)=eH l:=nr rfl
@[simp] theorem Ux (r:List (List PV)) (l:List AV):eH (.pv (.ro r)::l)=eH l:=nr rfl
@[simp] theorem P8 (t:Nat) (l:List AV):eH (.own t::l)=eH l:=nr rfl
@[simp] theorem ON (t o:Nat) (l:List AV):eH (.ptr t o::l)=eH l:=nr rfl
@[simp] theorem Ku (t:Nat) (e:TypeId) (i:Int) (o:Nat) (l:List AV):eH (.aI t e i o::l)=eH l:=nr rfl
@[simp] theorem Sf (cs:List AV) (l:List AV):eH (.agg cs::l)=eH l:=nr rfl
@[simp] theorem PJ (b:Bool):CQ (some b)=!b:=by cases b<;>rfl
end
section
variable(op:BinOp) (k:IntKind) (a b:Int) (x y:List UInt8) (p q:Bool)
@[simp] theorem N3:dj .add (.int k a) (.int k b)=some (True,.int k (k.wrap (a+b))):=by simp[dj]
@[simp] theorem Ri:dj .sub (.int k a) (.int k b)=some (True,.int k (k.wrap (a-b))):=by simp[dj]
@[simp] theorem Qu:dj .mul (.int k a) (.int k b)=some (True,.int k (k.wrap (a*b))):=by simp[dj]
@[simp] theorem Q7:dj .quo (.int k a) (.int k b)=some (b≠0,.int k (k.wrap (a.tdiv b))):=by simp[dj]
@[simp] theorem RR:dj .eql (.int k a) (.int k b)=some (True,.bool (decide (a=b))):=by simp[dj]
@[simp] theorem N4:dj .neq (.int k a) (.int k b)=some (True,.bool (!decide (a=b))):=by simp[dj]
@[simp] theorem R6:dj .lss (.int k a) (.int k b)=some (True,.bool (decide (a<b))):=by simp[dj]
@[simp] theorem QI:dj .leq (.int k a) (.int k b)=some (True,.bool (decide (a≤b))):=by simp[dj]
@[simp] theorem R8:dj .gtr (.int k a) (.int k b)=some (True,.bool (decide (b<a))):=by simp[dj]
@[simp] theorem Rn:dj .geq (.int k a) (.int k b)=some (True,.bool (decide (b≤a))):=by simp[dj]
@[simp] theorem Rf:dj .and (.int k a) (.int k b)=some (True,vf .and k a b):=by simp[dj]
@[simp] theorem Pk:dj .xor (.int k a) (.int k b)=some (True,vf .xor k a b):=by simp[dj]
@[simp] theorem QL (k':IntKind):dj .shl (.int k a) (.int k' b)=some (0≤b,.int k (k.wrap (a*2^(min b.toNat k.bits)))):=nr rfl
@[simp] theorem Re (k':IntKind):dj .shr (.int k a) (.int k' b)=some (0≤b,.int k (a.fdiv (2^(min b.toNat k.bits)))):=nr rfl
end
@[simp↓] theorem OL {P:Program}{Γ:bp}{d:Option Nat}{aa:Nat→Option AO}{C:bh→Prop}{xs:List AV}{op:BinOp}:aL P Γ d (.bin op) xs aa C=(aj xs∧ag (ai (.bin op) (xs.map strip) aa) fun x=>x.1∧C (.put x.2)):=rfl
@[simp↓] theorem QF {P:Program}{Γ:bp}{d:Option Nat}{aa:Nat→Option AO}{C:bh→Prop}{xs:List AV}{c:Bool}{op:BinOp}:bO P Γ c d (.bin op) xs aa C=ag (ai (.bin op) (xs.map strip) aa) fun x=>(c=true→aj xs∧x.1)∧C (.put (.bL c x.2)):=rfl
@[simp↓] theorem PD {P:Program}{Γ:bp}{d:Option Nat}{aa:Nat→Option AO}{C:bh→Prop}{xs:List AV}{ne:Bool}:aL P Γ d (.beq ne) xs aa C=(aj xs∧ag (ai (.beq ne) (xs.map strip) aa) fun x=>x.1∧C (.put x.2)):=rfl
@[simp↓] theorem Qh {P:Program}{Γ:bp}{d:Option Nat}{aa:Nat→Option AO}{C:bh→Prop}{xs:List AV}{c:Bool}{ne:Bool}:bO P Γ c d (.beq ne) xs aa C=ag (ai (.beq ne) (xs.map strip) aa) fun x=>(c=true→aj xs∧x.1)∧C (.put (.bL c x.2)):=rfl
@[simp↓] theorem Li {P:Program}{Γ:bp}{d:Option Nat}{aa:Nat→Option AO}{C:bh→Prop}{xs:List AV}:aL P Γ d .om xs aa C=(aj xs∧ag (ai .om (xs.map strip) aa) fun x=>x.1∧C (.put x.2)):=rfl
@[simp↓] theorem Md {P:Program}{Γ:bp}{d:Option Nat}{aa:Nat→Option AO}{C:bh→Prop}{xs:List AV}{c:Bool}:bO P Γ c d .om xs aa C=ag (ai .om (xs.map strip) aa) fun x=>(c=true→aj xs∧x.1)∧C (.put (.bL c x.2)):=rfl
@[simp↓] theorem RH {P:Program}{Γ:bp}{d:Option Nat}{aa:Nat→Option AO}{C:bh→Prop}{xs:List AV}{ne:Bool}{ks:List Nat}:aL P Γ d (.eqs ne ks) xs aa C=(aj xs∧ag (ai (.eqs ne ks) (xs.map strip) aa) fun x=>x.1∧C (.put x.2)):=rfl
@[simp↓] theorem R2 {P:Program}{Γ:bp}{d:Option Nat}{aa:Nat→Option AO}{C:bh→Prop}{xs:List AV}{c:Bool}{ne:Bool}{ks:List Nat}:bO P Γ c d (.eqs ne ks) xs aa C=ag (ai (.eqs ne ks) (xs.map strip) aa) fun x=>(c=true→aj xs∧x.1)∧C (.put (.bL c x.2)):=rfl
@[simp↓] theorem QS {P:Program}{Γ:bp}{d:Option Nat}{aa:Nat→Option AO}{C:bh→Prop}{xs:List AV}{b:Bool}:aL P Γ d (.zB b) xs aa C=(aj xs∧ag (ai (.zB b) (xs.map strip) aa) fun x=>x.1∧C (.put x.2)):=rfl
@[simp↓] theorem Ra {P:Program}{Γ:bp}{d:Option Nat}{aa:Nat→Option AO}{C:bh→Prop}{xs:List AV}{c:Bool}{b:Bool}:bO P Γ c d (.zB b) xs aa C=ag (ai (.zB b) (xs.map strip) aa) fun x=>(c=true→aj xs∧x.1)∧C (.put (.bL c x.2)):=rfl
@[simp↓] theorem Lf {P:Program}{Γ:bp}{d:Option Nat}{aa:Nat→Option AO}{C:bh→Prop}{xs:List AV}:aL P Γ d (.qq) xs aa C=(aj xs∧ag (ai (.qq) (xs.map strip) aa) fun x=>x.1∧C (.put x.2)):=rfl
@[simp↓] theorem K7 {P:Program}{Γ:bp}{d:Option Nat}{aa:Nat→Option AO}{C:bh→Prop}{xs:List AV}{c:Bool}:bO P Γ c d (.qq) xs aa C=ag (ai (.qq) (xs.map strip) aa) fun x=>(c=true→aj xs∧x.1)∧C (.put (.bL c x.2)):=rfl
@[simp↓] theorem P5 {P:Program}{Γ:bp}{d:Option Nat}{aa:Nat→Option AO}{C:bh→Prop}{xs:List AV}:aL P Γ d .yE xs aa C=(aj xs∧ag (ai .yE (xs.map strip) aa) fun x=>x.1∧C (.put x.2)):=rfl
@[simp↓] theorem PB {P:Program}{Γ:bp}{d:Option Nat}{aa:Nat→Option AO}{C:bh→Prop}{xs:List AV}{c:Bool}:bO P Γ c d .yE xs aa C=ag (ai .yE (xs.map strip) aa) fun x=>(c=true→aj xs∧x.1)∧C (.put (.bL c x.2)):=rfl
@[simp↓] theorem Mz {P:Program}{Γ:bp}{d:Option Nat}{aa:Nat→Option AO}{C:bh→Prop}{xs:List AV}:aL P Γ d .not xs aa C=(aj xs∧ag (ai .not (xs.map strip) aa) fun x=>x.1∧C (.put x.2)):=rfl
@[simp↓] theorem N9 {P:Program}{Γ:bp}{d:Option Nat}{aa:Nat→Option AO}{C:bh→Prop}{xs:List AV}{c:Bool}:bO P Γ c d .not xs aa C=ag (ai .not (xs.map strip) aa) fun x=>(c=true→aj xs∧x.1)∧C (.put (.bL c x.2)):=rfl
@[simp↓] theorem NU {P:Program}{Γ:bp}{d:Option Nat}{aa:Nat→Option AO}{C:bh→Prop}{xs:List AV}:aL P Γ d .neg xs aa C=(aj xs∧ag (ai .neg (xs.map strip) aa) fun x=>x.1∧C (.put x.2)):=rfl
@[simp↓] theorem Nc {P:Program}{Γ:bp}{d:Option Nat}{aa:Nat→Option AO}{C:bh→Prop}{xs:List AV}{c:Bool}:bO P Γ c d .neg xs aa C=ag (ai .neg (xs.map strip) aa) fun x=>(c=true→aj xs∧x.1)∧C (.put (.bL c x.2)):=rfl
@[simp↓] theorem RW {P:Program}{Γ:bp}{d:Option Nat}{aa:Nat→Option AO}{C:bh→Prop}{xs:List AV}{k:IntKind}:aL P Γ d (.qU k) xs aa C=(aj xs∧ag (ai (.qU k) (xs.map strip) aa) fun x=>x.1∧C (.put x.2)):=rfl
@[simp↓] theorem RM {P:Program}{Γ:bp}{d:Option Nat}{aa:Nat→Option AO}{C:bh→Prop}{xs:List AV}{c:Bool}{k:IntKind}:bO P Γ c d (.qU k) xs aa C=ag (ai (.qU k) (xs.map strip) aa) fun x=>(c=true→aj xs∧x.1)∧C (.put (.bL c x.2)):=rfl
@[simp↓] theorem NW {P:Program}{Γ:bp}{d:Option Nat}{aa:Nat→Option AO}{C:bh→Prop}{xs:List AV}:aL P Γ d .len xs aa C=(aj xs∧ag (ai .len (xs.map strip) aa) fun x=>x.1∧C (.put x.2)):=rfl
@[simp↓] theorem QM {P:Program}{Γ:bp}{d:Option Nat}{aa:Nat→Option AO}{C:bh→Prop}{xs:List AV}{c:Bool}:bO P Γ c d .len xs aa C=ag (ai .len (xs.map strip) aa) fun x=>(c=true→aj xs∧x.1)∧C (.put (.bL c x.2)):=rfl
@[simp↓] theorem J9 {P:Program}{Γ:bp}{d:Option Nat}{aa:Nat→Option AO}{C:bh→Prop}{xs:List AV}:aL P Γ d .qb xs aa C=(aj xs∧ag (ai .qb (xs.map strip) aa) fun x=>x.1∧C (.put x.2)):=rfl
@[simp↓] theorem Ky {P:Program}{Γ:bp}{d:Option Nat}{aa:Nat→Option AO}{C:bh→Prop}{xs:List AV}{c:Bool}:bO P Γ c d .qb xs aa C=ag (ai .qb (xs.map strip) aa) fun x=>(c=true→aj xs∧x.1)∧C (.put (.bL c x.2)):=rfl
@[simp↓] theorem Rt {P:Program}{Γ:bp}{d:Option Nat}{aa:Nat→Option AO}{C:bh→Prop}{xs:List AV}{a b:Bool}:aL P Γ d (.CU a b) xs aa C=(aj xs∧ag (ai (.CU a b) (xs.map strip) aa) fun x=>x.1∧C (.put x.2)):=rfl
@[simp↓] theorem PS {P:Program}{Γ:bp}{d:Option Nat}{aa:Nat→Option AO}{C:bh→Prop}{xs:List AV}{c:Bool}{a b:Bool}:bO P Γ c d (.CU a b) xs aa C=ag (ai (.CU a b) (xs.map strip) aa) fun x=>(c=true→aj xs∧x.1)∧C (.put (.bL c x.2)):=rfl
@[simp↓] theorem Nd {P:Program}{Γ:bp}{d:Option Nat}{aa:Nat→Option AO}{C:bh→Prop}{xs:List AV}{o:Nat}{n:Option Nat}:aL P Γ d (.BO o n) xs aa C=(aj xs∧ag (ai (.BO o n) (xs.map strip) aa) fun x=>x.1∧C (.put x.2)):=rfl
@[simp↓] theorem ND {P:Program}{Γ:bp}{d:Option Nat}{aa:Nat→Option AO}{C:bh→Prop}{xs:List AV}{c:Bool}{o:Nat}{n:Option Nat}:bO P Γ c d (.BO o n) xs aa C=ag (ai (.BO o n) (xs.map strip) aa) fun x=>(c=true→aj xs∧x.1)∧C (.put (.bL c x.2)):=rfl
@[simp↓] theorem RU {P:Program}{Γ:bp}{d:Option Nat}{aa:Nat→Option AO}{C:bh→Prop}{xs:List AV}{o:Nat}:aL P Γ d (.aE o) xs aa C=(aj xs∧ag (ai (.aE o) (xs.map strip) aa) fun x=>x.1∧C (.put x.2)):=rfl
@[simp↓] theorem OD {P:Program}{Γ:bp}{d:Option Nat}{aa:Nat→Option AO}{C:bh→Prop}{xs:List AV}{c:Bool}{o:Nat}:bO P Γ c d (.aE o) xs aa C=ag (ai (.aE o) (xs.map strip) aa) fun x=>(c=true→aj xs∧x.1)∧C (.put (.bL c x.2)):=rfl
@[simp↓] theorem Jj {P:Program}{Γ:bp}{d:Option Nat}{aa:Nat→Option AO}{C:bh→Prop}{xs:List AV}{n:Option Nat}:aL P Γ d (.load n) xs aa C=(aj xs∧ag (ai (.load n) (xs.map strip) aa) fun x=>x.1∧C (.put x.2)):=rfl
@[simp↓] theorem Ks {P:Program}{Γ:bp}{d:Option Nat}{aa:Nat→Option AO}{C:bh→Prop}{xs:List AV}{c:Bool}{n:Option Nat}:bO P Γ c d (.load n) xs aa C=ag (ai (.load n) (xs.map strip) aa) fun x=>(c=true→aj xs∧x.1)∧C (.put (.bL c x.2)):=rfl
@[simp↓] theorem O5 {P:Program}{Γ:bp}{d:Option Nat}{aa:Nat→Option AO}{C:bh→Prop}{xs:List AV}{e:TypeId}{s:Nat}:aL P Γ d (.bo e s) xs aa C=(aj xs∧ag (ai (.bo e s) (xs.map strip) aa) fun x=>x.1∧C (.put x.2)):=rfl
@[simp↓] theorem Mx {P:Program}{Γ:bp}{d:Option Nat}{aa:Nat→Option AO}{C:bh→Prop}{xs:List AV}{e s:Nat}:aL P Γ d (.Cw e s) xs aa C=(aj xs∧ag (ai (.Cw e s) (xs.map strip) aa) fun x=>x.1∧C (.put x.2)):=rfl
@[simp↓] theorem Nb {P:Program}{Γ:bp}{d:Option Nat}{aa:Nat→Option AO}{C:bh→Prop}{xs:List AV}:aL P Γ d .dg xs aa C=(aj xs∧ag (ai .dg (xs.map strip) aa) fun x=>x.1∧C (.put x.2)):=rfl
@[simp↓] theorem NT {P:Program}{Γ:bp}{d:Option Nat}{aa:Nat→Option AO}{C:bh→Prop}{xs:List AV}{c:Bool}{e:TypeId}{s:Nat}:bO P Γ c d (.bo e s) xs aa C=ag (ai (.bo e s) (xs.map strip) aa) fun x=>(c=true→aj xs∧x.1)∧C (.put (.bL c x.2)):=rfl
@[simp↓] theorem Ou {P:Program}{Γ:bp}{d:Option Nat}{aa:Nat→Option AO}{C:bh→Prop}{xs:List AV}{c:Bool}{e s:Nat}:bO P Γ c d (.Cw e s) xs aa C=ag (ai (.Cw e s) (xs.map strip) aa) fun x=>(c=true→aj xs∧x.1)∧C (.put (.bL c x.2)):=rfl
@[simp↓] theorem O1 {P:Program}{Γ:bp}{d:Option Nat}{aa:Nat→Option AO}{C:bh→Prop}{xs:List AV}{c:Bool}:bO P Γ c d .dg xs aa C=ag (ai .dg (xs.map strip) aa) fun x=>(c=true→aj xs∧x.1)∧C (.put (.bL c x.2)):=rfl
@[simp↓] theorem O0 {P:Program}{Γ:bp}{d:Option Nat}{aa:Nat→Option AO}{C:bh→Prop}{xs:List AV}{s:Nat}{a b:Bool}:aL P Γ d (.m4 s a b) xs aa C=(aj xs∧ag (ai (.m4 s a b) (xs.map strip) aa) fun x=>x.1∧C (.put x.2)):=rfl
@[simp↓] theorem RQ {P:Program}{Γ:bp}{d:Option Nat}{aa:Nat→Option AO}{C:bh→Prop}{xs:List AV}{c:Bool}{s:Nat}{a b:Bool}:bO P Γ c d (.m4 s a b) xs aa C=ag (ai (.m4 s a b) (xs.map strip) aa) fun x=>(c=true→aj xs∧x.1)∧C (.put (.bL c x.2)):=rfl
@[simp↓] theorem P0 {P:Program}{Γ:bp}{d:Option Nat}{aa:Nat→Option AO}{C:bh→Prop}{xs:List AV}{i:Nat}:aL P Γ d (.ext i) xs aa C=(aj xs∧ag (ai (.ext i) (xs.map strip) aa) fun x=>x.1∧C (.put x.2)):=rfl
@[simp↓] theorem NP {P:Program}{Γ:bp}{d:Option Nat}{aa:Nat→Option AO}{C:bh→Prop}{xs:List AV}{c:Bool}{i:Nat}:bO P Γ c d (.ext i) xs aa C=ag (ai (.ext i) (xs.map strip) aa) fun x=>(c=true→aj xs∧x.1)∧C (.put (.bL c x.2)):=rfl
@[simp↓] theorem Qk {P:Program}{Γ:bp}{d:Option Nat}{aa:Nat→Option AO}{C:bh→Prop}{xs:List AV}{zs:List Value}{ps:List (Nat×Nat)}:aL P Γ d (.kg zs ps) xs aa C=(aj xs∧ag (ai (.kg zs ps) (xs.map strip) aa) fun x=>x.1∧C (.put x.2)):=rfl
@[simp↓] theorem MJ {P:Program}{Γ:bp}{d:Option Nat}{aa:Nat→Option AO}{C:bh→Prop}{xs:List AV}{c:Bool}{zs:List Value}{ps:List (Nat×Nat)}:bO P Γ c d (.kg zs ps) xs aa C=ag (ai (.kg zs ps) (xs.map strip) aa) fun x=>(c=true→aj xs∧x.1)∧C (.put (.bL c x.2)):=rfl
@[simp↓] theorem N7 {P:Program}{Γ:bp}{d:Option Nat}{aa:Nat→Option AO}{C:bh→Prop}{xs:List AV}{f:FuncId}:aL P Γ d (.yP f) xs aa C=(aj xs∧ag (ai (.yP f) (xs.map strip) aa) fun x=>x.1∧C (.put x.2)):=rfl
@[simp↓] theorem NM {P:Program}{Γ:bp}{d:Option Nat}{aa:Nat→Option AO}{C:bh→Prop}{xs:List AV}{c:Bool}{f:FuncId}:bO P Γ c d (.yP f) xs aa C=ag (ai (.yP f) (xs.map strip) aa) fun x=>(c=true→aj xs∧x.1)∧C (.put (.bL c x.2)):=rfl
@[simp↓] theorem Jp {P:Program}{Γ:bp}{d:Option Nat}{aa:Nat→Option AO}{C:bh→Prop}{xs:List AV}{e:TypeId}:aL P Γ d (.cC e) xs aa C=ag d fun d=>aj xs∧ag (b7 (.cC e) d (xs.map strip) aa) fun x=>x.1∧aa d=none∧C (.new x.2.1 [(d,x.2.2)]):=rfl
@[simp↓] theorem MF {P:Program}{Γ:bp}{d:Option Nat}{aa:Nat→Option AO}{C:bh→Prop}{xs:List AV}:aL P Γ d .box xs aa C=ag d fun d=>aj xs∧ag (b7 .box d (xs.map strip) aa) fun x=>x.1∧aa d=none∧C (.new x.2.1 [(d,x.2.2)]):=rfl
@[simp↓] theorem Ha {P:Program}{Γ:bp}{d:Option Nat}{aa:Nat→Option AO}{C:bh→Prop}{xs:List AV}{zs:List Value}:aL P Γ d (.alloc zs) xs aa C=ag d fun d=>aj xs∧ag (b7 (.alloc zs) d (xs.map strip) aa) fun x=>x.1∧aa d=none∧C (.new x.2.1 [(d,x.2.2)]):=rfl
@[simp↓] theorem Qb {P:Program}{Γ:bp}{d:Option Nat}{aa:Nat→Option AO}{C:bh→Prop}{xs:List AV}{e:TypeId}{sz:Nat}:aL P Γ d (.gF e sz) xs aa C=ag d fun d=>aj xs∧ag (b7 (.gF e sz) d (xs.map strip) aa) fun x=>x.1∧aa d=none∧C (.new x.2.1 [(d,x.2.2)]):=rfl
@[simp↓] theorem J5 {P:Program}{Γ:bp}{d:Option Nat}{aa:Nat→Option AO}{C:bh→Prop}{xs:List AV}{c:Bool}{e:TypeId}:bO P Γ c d (.cC e) xs aa C=((c=true→aL P Γ d (.cC e) xs aa C)∧(c=false→C (.put .al))):=rfl
@[simp↓] theorem Nt {P:Program}{Γ:bp}{d:Option Nat}{aa:Nat→Option AO}{C:bh→Prop}{xs:List AV}{c:Bool}:bO P Γ c d .box xs aa C=((c=true→aL P Γ d .box xs aa C)∧(c=false→C (.put .al))):=rfl
@[simp↓] theorem HP {P:Program}{Γ:bp}{d:Option Nat}{aa:Nat→Option AO}{C:bh→Prop}{xs:List AV}{c:Bool}{zs:List Value}:bO P Γ c d (.alloc zs) xs aa C=((c=true→aL P Γ d (.alloc zs) xs aa C)∧(c=false→C (.put .al))):=rfl
@[simp↓] theorem MR {P:Program}{Γ:bp}{d:Option Nat}{aa:Nat→Option AO}{C:bh→Prop}{xs:List AV}{c:Bool}{e:TypeId}{sz:Nat}:bO P Γ c d (.gF e sz) xs aa C=((c=true→aL P Γ d (.gF e sz) xs aa C)∧(c=false→C (.put (zh xs)))):=rfl
@[simp↓] theorem IN {P:Program}{Γ:bp}{d:Option Nat}{aa:Nat→Option AO}{C:bh→Prop}{xs:List AV}{c:Bool}{n:Option Nat}:bO P Γ c d (.store n) xs aa C=((c=true→aL P Γ d (.store n) xs aa C)∧(c=false→C (.put .al))):=rfl
@[simp↓] theorem NY {P:Program}{Γ:bp}{d:Option Nat}{aa:Nat→Option AO}{C:bh→Prop}{xs:List AV}{c:Bool}{e:TypeId}{z b:Nat}:bO P Γ c d (.app e z b) xs aa C=((c=true→aL P Γ d (.app e z b) xs aa C)∧(c=false→C (.put .al))):=rfl
@[simp↓] theorem RC {P:Program}{Γ:bp}{d:Option Nat}{aa:Nat→Option AO}{C:bh→Prop}{x:AV}:aL P Γ d .bf [x] aa C=C (.put x):=by simp[aL,ag]
@[simp↓] theorem M3 {P:Program}{Γ:bp}{c:Bool}{d:Option Nat}{aa:Nat→Option AO}{C:bh→Prop}{x:AV}:bO P Γ c d .bf [x] aa C=C (.put (.bL c x)):=by simp[bO,ag]
@[simp↓] theorem mZ {P:Program}{Γ:bp}{d:Option Nat}{aa:Nat→Option AO}{C:bh→Prop}{xs:List AV}:aL P Γ d .pick xs aa C=ag (px xs) fun x=>x.1∧C (.put x.2):=rfl
@[simp↓] theorem rS {P:Program}{Γ:bp}{d:Option Nat}{aa:Nat→Option AO}{C:bh→Prop}{xs:List AV}{c:Bool}:bO P Γ c d .pick xs aa C=ag (px xs) fun x=>(c=true→x.1)∧C (.put (.bL c x.2)):=rfl
@[simp↓] theorem Gj {P:Program}{Γ:bp}{d:Option Nat}{aa:Nat→Option AO}{C:bh→Prop}{xs:List AV}{n:Option Nat}:aL P Γ d (.store n) xs aa C=(aj xs∧ag (dy (.store n) (xs.map strip) aa) fun x=>x.1∧C (.rL x.2.1 x.2.2)):=rfl
@[simp↓] theorem DQ {P:Program}{Γ:bp}{d:Option Nat}{aa:Nat→Option AO}{C:bh→Prop}{x:AV}{t:Nat}{e:TypeId}{z b:Nat}:aL P Γ d (.app e z b) [.own t,x] aa C=(aj [.own t,x]∧ag (dy (.app e z b) [.own t,strip x] aa) fun x=>x.1∧C (.app x.2.1 x.2.2)):=rfl
@[simp↓] theorem Dx {P:Program}{Γ:bp}{d:Option Nat}{aa:Nat→Option AO}{C:bh→Prop}{x:AV}{e:TypeId}{z b:Nat}:aL P Γ d (.app e z b) [.pv .nil,x] aa C=(aj [.pv .nil,x]∧ag d fun d=>ag (b7 (.app e z b) d [.pv .nil,strip x] aa) fun x=>x.1∧aa d=none∧C (.new x.2.1 [(d,x.2.2)])):=rfl
@[simp↓] theorem Kp {P:Program}{Γ:bp}{d:Option Nat}{aa:Nat→Option AO}{C:bh→Prop}{xs:List AV}{f:FuncId}:aL P Γ d (.call f) xs aa C=bX P Γ d f xs aa C:=rfl
@[simp↓] theorem JL {P:Program}{Γ:bp}{d:Option Nat}{aa:Nat→Option AO}{C:bh→Prop}{xs:List AV}{c:Bool}{f:FuncId}:bO P Γ c d (.call f) xs aa C=ag (en aa (xs.map strip)) fun ys=>ag (gt Γ f ys) fun x=>if(!lV x.2&&(wg x.2).isEmpty)=true then(c=true→aj xs∧x.1)∧flat x.2∧wg x.2=[]∧cr x.2=true∧C (.put (.bL c x.2)) else(c=true→bX P Γ d f xs aa C)∧(c=false→C (.put (.bL false (Ps x.2)))):=rfl
@[simp↓] theorem ME {Γ:bp}{aa:Nat→Option AO}{C:bh→Prop}{xs:List AV}{c:Bool}{f:FuncId}:u7 Γ c f xs aa C=ag (en aa (xs.map strip)) fun ys=>ag (gt Γ f ys) fun x=>(c=true→aj xs∧x.1)∧flat x.2∧wg x.2=[]∧cr x.2=true∧C (.put (.bL c x.2)):=rfl
section
variable{aa:Nat→Option AO}
@[simp] theorem R0 (e:TypeId) (rows:List (List PV)):wU (some (.arr e rows))=some (e,rows.length):=nr rfl
@[simp] theorem LO (e e':TypeId) (i:Int) (o:Nat) (rows:List (List PV)):j4 e i o (some (.arr e' rows))=if e'=e then some (0≤i∧i<rows.length∧o<(rowAt rows i).length,.pv ((rowAt rows i).getD o (.int .u8 0))) else none:=nr rfl
@[simp] theorem NQ (es:List (PV×PV)):cn (some (.fD es))=none:=nr rfl
@[simp] theorem LG (e:TypeId) (rows:List (List PV)):cn (some (.arr e rows))=some (e,rows):=nr rfl
@[simp] theorem KD (cs:List AV):dJ (some (.box cs))=some cs:=nr rfl
@[simp] theorem OU (c:Bool):gu (.pv (.bool c))=some c:=nr rfl
@[simp] theorem OR (c a b:AV):px [c,a,b]=(gu (strip c)).bind fun g=>(mG (asks a) (asks b) g (strip a) (strip b)).map fun r=>(asks c∧r.1,r.2):=nr rfl
@[simp] theorem Lk (φ ψ:Prop) (c x y:Bool):mG φ ψ c (.pv (.bool x)) (.pv (.bool y))=some ((c=true→φ)∧(c=false→ψ),.pv (.bool (cond c x y))):=nr rfl
@[simp] theorem LS (φ ψ:Prop) (c x:Bool):mG φ ψ c (.pv (.bool x)) .al=some (c=true∧φ,.pv (.bool x)):=nr rfl
@[simp] theorem KN (φ ψ:Prop) (c y:Bool):mG φ ψ c .al (.pv (.bool y))=some (c=false∧ψ,.pv (.bool y)):=nr rfl
@[simp] theorem Ru (n:Nat) (k:IntKind) (l:Int):bounds n true false [.pv (.int k l)]=some (l,(n:Int)):=nr rfl
@[simp] theorem O2 (n:Nat) (k:IntKind) (h:Int):bounds n false true [.pv (.int k h)]=some (0,h):=nr rfl
@[simp] theorem Rr (op:BinOp) (x y:PV):ai (.bin op) [.pv x,.pv y] aa=(dj op x y).map fun r=>(r.1,.pv r.2):=nr rfl
@[simp] theorem Rd (ne x y:Bool):ai (.beq ne) [.pv (.bool x),.pv (.bool y)] aa=some (True,.pv (.bool (if ne then x !=y else x==y))):=nr rfl
@[simp] theorem P2 (b:Bool):ai .not [.pv (.bool b)] aa=some (True,.pv (.bool (!b))):=nr rfl
@[simp] theorem PE (k k':IntKind) (n:Int):ai (.qU k) [.pv (.int k' n)] aa=some (True,.pv (.int k (k.wrap n))):=nr rfl
@[simp] theorem PZ (ne:Bool) (ks:List Nat) (xs ys:List AV):ai (.eqs ne ks) [.agg xs,.agg ys] aa=(dF xs).bind fun a=>(dF ys).map fun b=>(a.map cD=ks∧b.map cD=ks,.pv (.bool (if ne then !ir a b else ir a b))):=nr rfl
@[simp] theorem Q5:ir [] []=true:=nr rfl
@[simp] theorem Mg (a b:PV) (l m:List PV):ir (a::l) (b::m)=(lA a b&&ir l m):=nr rfl
@[simp] theorem TD (k k':IntKind) (a b:Int):lA (.int k a) (.int k' b)=decide (a=b):=nr rfl
@[simp] theorem T6 (a b:List UInt8):lA (.str a) (.str b)=decide (a=b):=nr rfl
@[simp] theorem OP (a b:Bool):lA (.bool a) (.bool b)=decide (a=b):=nr rfl
@[simp] theorem Rz (k:IntKind) (a b:Int):ai (.zB true) [.pv (.int k a),.pv (.int k b)] aa=some (True,.pv (.int k (max a b))):=by simp[ai]
@[simp] theorem QB (rows:List (List PV)):ez aa (.pv (.ro rows))=some rows:=nr rfl
@[simp] theorem C0 (l:List UInt8):ai .om [.pv (.str l)] aa=some (True,.pv (.int .i64 l.length)):=nr rfl
@[simp] theorem DD:ai .len [.pv .nil] aa=some (True,.pv (.int .i64 0)):=nr rfl
@[simp] theorem ET (rows:List (List PV)):ai .len [.pv (.ro rows)] aa=some (True,.pv (.int .i64 rows.length)):=nr rfl
@[simp] theorem Ex (t:Nat):ai .len [.own t] aa=(wU (aa t)).map fun r=>(True,.pv (.int .i64 r.2)):=nr rfl
@[simp] theorem D7 (t:Nat) (e:TypeId) (lo hi:Nat):ai .len [.sub t e lo hi] aa=(cn (aa t)).map fun _=>(True,.pv (.int .i64 ((hi:Int)-(lo:Int)))):=nr rfl
@[simp] theorem K8 (l:List UInt8) (k:IntKind) (i:Int):ai .qb [.pv (.str l),.pv (.int k i)] aa=some (0≤i∧i<l.length,.pv (.int .u8 ((l.getD i.toNat 0).toNat:Int))):=nr rfl
@[simp] theorem Oj (sz:Nat) (lo hi:Bool) (rows:List (List PV)) (bs:List AV):ai (.m4 sz lo hi) (.pv (.ro rows)::bs) aa=(bounds rows.length lo hi bs).map fun b:Int×Int=>(0≤b.1∧b.1≤b.2∧b.2≤(rows.length:Int)∧(∀r∈rows,r.length=sz),.pv (.ro (cut rows b.1 b.2))):=by unfold ai;rfl
@[simp] theorem DP (off t o:Nat):ai (.aE off) [.ptr t o] aa=some (True,.ptr t (o+off)):=nr rfl
@[simp] theorem CJ (off t o:Nat) (e:TypeId) (i:Int):ai (.aE off) [.aI t e i o] aa=some (True,.aI t e i (o+off)):=nr rfl
@[simp] theorem FT (off:Nat) (cs:List PV):ai (.aE off) [.rp cs] aa=some (True,.rp (cs.drop off)):=nr rfl
@[simp] theorem Dj (t o:Nat):ai .dg [.ptr t o] aa=some (True,.ptr t o):=nr rfl
@[simp] theorem EF (cs:List PV):ai .dg [.rp cs] aa=some (True,.rp cs):=nr rfl
@[simp] theorem Cy (t o:Nat):ai (.load none) [.ptr t o] aa=(dJ (aa t)).bind fun cs=>(cs[o]?).bind fun c=>if j7 c=true then some (True,c) else none:=nr rfl
@[simp] theorem NH (p:PV):j7 (.pv p)=true:=nr rfl
@[simp] theorem KF (t:Nat):j7 (.own t)=true:=nr rfl
@[simp] theorem Bo (n t o:Nat):ai (.load (some n)) [.ptr t o] aa=(dJ (aa t)).bind fun cs=>if o+n≤cs.length then some (True,.agg ((cs.drop o).take n)) else none:=nr rfl
@[simp] theorem BD (t o:Nat) (e:TypeId) (i:Int):ai (.load none) [.aI t e i o] aa=j4 e i o (aa t):=nr rfl
@[simp] theorem AR (n t o:Nat) (e:TypeId) (i:Int):ai (.load (some n)) [.aI t e i o] aa=(cn (aa t)).bind fun r=>if r.1=e∧o+n≤(rowAt r.2 i).length then some (0≤i∧i<r.2.length,.agg ((((rowAt r.2 i).drop o).take n).map .pv)) else none:=nr rfl
@[simp] theorem Eg (c:PV) (cs:List PV):ai (.load none) [.rp (c::cs)] aa=some (True,.pv c):=nr rfl
@[simp] theorem CB:ai (.load none) [.rp []] aa=some (False,.pv (.int .u64 0)):=nr rfl
@[simp] theorem CC (n:Nat) (cs:List PV):ai (.load (some n)) [.rp cs] aa=(if n≤cs.length then some (True,.agg ((cs.take n).map .pv)) else none):=nr rfl
@[simp] theorem F4 (e:TypeId) (sz:Nat) (rows:List (List PV)) (k:IntKind) (i:Int):ai (.bo e sz) [.pv (.ro rows),.pv (.int k i)] aa=some (0≤i∧i<rows.length∧(rowAt rows i).length=sz,.rp (rowAt rows i)):=nr rfl
@[simp] theorem Dv (e:TypeId) (sz t:Nat) (k:IntKind) (i:Int):ai (.bo e sz) [.own t,.pv (.int k i)] aa=(wU (aa t)).bind fun r=>if r.1=e then some (0≤i∧i<r.2,.aI t e i 0) else none:=nr rfl
@[simp] theorem C2 (e e1:TypeId) (sz t lo hi:Nat) (k:IntKind) (i:Int):ai (.bo e sz) [.sub t e1 lo hi,.pv (.int k i)] aa=(cn (aa t)).bind fun r=>if r.1=e∧e1=e then some (0≤i∧i<(hi:Int)-(lo:Int),.aI t e ((lo:Int)+i) 0) else none:=nr rfl
@[simp] theorem C4 (sz:Nat) (lo hi:Bool) (bs:List AV):ai (.m4 sz lo hi) (.pv .nil::bs) aa=(bounds 0 lo hi bs).map fun b:Int×Int=>(b.1=0∧b.2=0,.pv .nil):=nr rfl
@[simp] theorem Ec (sz t:Nat) (lo hi:Bool) (bs:List AV):ai (.m4 sz lo hi) (.own t::bs) aa=(cn (aa t)).bind fun r=>(bounds r.2.length lo hi bs).map fun b:Int×Int=>(0≤b.1∧b.1≤b.2∧b.2≤(r.2.length:Int)∧(∀x∈r.2,x.length=sz),.sub t r.1 b.1.toNat b.2.toNat):=nr rfl
@[simp] theorem Rh (i:Nat) (vs:List AV):ai (.ext i) [.aC vs] aa=(vs[i]?).map fun v=>(True,v):=nr rfl
@[simp] theorem QR (zs:List Value) (ps:List (Nat×Nat)) (xs:List AV):ai (.kg zs ps) xs aa=(iJ (zs.map cv) ps xs).map fun cs=>(True,.agg cs):=by unfold ai;rfl
@[simp] theorem Ng (f:FuncId) (xs:List AV):ai (.yP f) xs aa=some (True,.bk f xs):=by unfold ai;rfl
@[simp] theorem JT (e:TypeId) (d:Nat) (xs:List AV):b7 (.cC e) d xs aa=some (True,.own d,.arr e []):=by unfold b7;rfl
@[simp] theorem Py (d:Nat) (x:AV):b7 .box d [x] aa=(if er (cellsOf x) then some (True,.ptr d 0,.box (cellsOf x)) else none):=nr rfl
@[simp] theorem GD (d:Nat) (zs:List Value) (xs:List AV):b7 (.alloc zs) d xs aa=(if zs.all (·.oneCell') then some (True,.ptr d 0,.box (zs.map cv)) else none):=by unfold b7;rfl
@[simp] theorem Nw (e:TypeId) (sz d:Nat) (xs:List AV):b7 (.gF e sz) d xs aa=(rowsOf xs).map fun rows=>(∀r∈rows,r.length=sz,.own d,.arr e rows):=by unfold b7;rfl
@[simp] theorem Co (t o:Nat) (v:AV):dy (.store none) [.ptr t o,v] aa=(dJ (aa t)).bind fun cs=>if dt v∧o<cs.length then some (True,t,.box (cs.set o v)) else none:=nr rfl
@[simp] theorem AN (n t o:Nat) (vs:List AV):dy (.store (some n)) [.ptr t o,.agg vs] aa=(dJ (aa t)).bind fun cs=>if er vs∧vs.length=n∧o+n≤cs.length then some (True,t,.box (bF cs o vs)) else none:=nr rfl
@[simp] theorem AQ (t o:Nat) (e:TypeId) (i:Int) (p:PV):dy (.store none) [.aI t e i o,.pv p] aa=(cn (aa t)).bind fun r=>if r.1=e∧o<(rowAt r.2 i).length∧dt (.pv p) then some (0≤i∧i<r.2.length,t,.arr e (r.2.set i.toNat ((rowAt r.2 i).set o p))) else none:=nr rfl
@[simp] theorem Ag (n t o:Nat) (e:TypeId) (i:Int) (vs:List AV):dy (.store (some n)) [.aI t e i o,.agg vs] aa=(cn (aa t)).bind fun r=>(dF vs).bind fun ps=>if r.1=e∧er vs∧ps.length=n∧o+n≤(rowAt r.2 i).length then some (0≤i∧i<r.2.length,t,.arr e (r.2.set i.toNat (bF (rowAt r.2 i) o ps))) else none:=nr rfl
@[simp] theorem OF (e:TypeId) (sz bytes t:Nat) (x:AV):dy (.app e sz bytes) [.own t,x] aa=(cn (aa t)).bind fun r=>(ct aa x).bind fun more=>if r.1=e∧t%1000≠999 then some ((r.2.length+more.length)*bytes≤140737488355328∧r.2.length+more.length≤maxLen∧(∀r∈more,r.length=sz),t,.arr e (r.2++more)) else none:=nr rfl
@[simp] theorem Uf (p:PV):zy (.pv p)=some p:=nr rfl
@[simp] theorem KP:dF []=some []:=nr rfl
@[simp] theorem GI (v:AV) (l:List AV):dF (v::l)=(zy v).bind fun p=>(dF l).map (p::·):=nr rfl
@[simp] theorem RT (p:PV):rowOf (.pv p)=some [p]:=nr rfl
@[simp] theorem Kt (cs:List AV):rowOf (.agg cs)=dF cs:=nr rfl
@[simp] theorem GW:rowsOf []=some []:=nr rfl
@[simp] theorem EB (v:AV) (l:List AV):rowsOf (v::l)=(rowOf v).bind fun p=>(rowsOf l).map (p::·):=nr rfl
@[simp] theorem F0 (cs:List AV):cellsOf (.agg cs)=cs:=nr rfl
@[simp] theorem G8 (p:PV):cellsOf (.pv p)=[.pv p]:=nr rfl
@[simp] theorem EN (t:Nat):cellsOf (.own t)=[.own t]:=nr rfl
@[simp] theorem GZ (cs:List AV):iJ cs [] []=some cs:=nr rfl
@[simp] theorem EU (cs:List AV) (off n:Nat) (ps:List (Nat×Nat)) (x:AV) (xs:List AV):iJ cs ((off,n)::ps) (x::xs)=if jy x=true∧(cellsOf x).length=n∧off+n≤cs.length then iJ (lay cs off ((cellsOf x).map mU)) ps xs else none:=nr rfl
@[simp] theorem S4 (p:PV):mU (.pv p)=.pv p:=nr rfl
@[simp] theorem NK (t:Nat):mU (.own t)=.own t:=nr rfl
@[simp] theorem Oi (f:FuncId):mU (.bk f [])=.pv (.val (.func (.func f) #[] #[])):=nr rfl
@[simp] theorem Lh (rows:List (List PV)):ct aa (.pv (.ro rows))=some rows:=nr rfl
@[simp] theorem Io (t:Nat):ct aa (.own t)=(cn (aa t)).map (·.2):=nr rfl
@[simp] theorem Ov:dD aa (.pv .nil)=some (.ro []):=nr rfl
@[simp] theorem Ro (k:IntKind) (n:Int):dD aa (.pv (.int k n))=some (.int k n):=nr rfl
@[simp] theorem JA (b:Bool):dD aa (.pv (.bool b))=some (.bool b):=nr rfl
@[simp] theorem QA (l:List UInt8):dD aa (.pv (.str l))=some (.str l):=nr rfl
@[simp] theorem T2 (rows:List (List PV)):dD aa (.pv (.ro rows))=some (.ro rows):=nr rfl
@[simp] theorem Nz (t:Nat):dD aa (.own t)=AH (aa t):=nr rfl
@[simp] theorem OX (e:TypeId) (rows:List (List PV)):AH (some (.arr e rows))=some (.ro rows):=nr rfl
@[simp] theorem QV (es:List (PV×AV)):AH (some (.map es))=if es.all (fun e=>yl e.2)=true then some (.mp (es.map (·.1))) else none:=nr rfl
@[simp] theorem J6:s0 (.agg #[])=true:=nr rfl
@[simp] theorem Jy:gG aa []=some []:=nr rfl
@[simp] theorem Hh (c:AV) (cs:List AV):gG aa (c::cs)=(dD aa c).bind fun p=>(gG aa cs).map (p::·):=nr rfl
@[simp] theorem Qv (t o:Nat):dN aa (.ptr t o)=(dJ (aa t)).bind fun cs=>(gG aa (cs.drop o)).map .rp:=nr rfl
@[simp] theorem Tc (cs:List PV):dN aa (.rp cs)=some (.rp cs):=nr rfl
@[simp] theorem Lg:ji aa []=some []:=nr rfl
@[simp] theorem IU (c:AV) (cs:List AV):ji aa (c::cs)=(dN aa c).bind fun p=>(ji aa cs).map (p::·):=nr rfl
@[simp] theorem Tg (f:FuncId) (caps:List AV):lR aa (.bk f caps)=(ji aa caps).map (.bk f):=nr rfl
@[simp] theorem SK (t o:Nat):lR aa (.ptr t o)=dN aa (.ptr t o):=nr rfl
@[simp] theorem UQ (cs:List PV):lR aa (.rp cs)=some (.rp cs):=nr rfl
@[simp] theorem Uq (cs:List AV):lR aa (.agg cs)=(gG aa cs).map fun ps=>.agg (ps.map .pv):=nr rfl
@[simp] theorem VR (p:PV):lR aa (.pv p)=(dD aa (.pv p)).map .pv:=nr rfl
@[simp] theorem Tx (t:Nat):lR aa (.own t)=(dD aa (.own t)).map .pv:=nr rfl
@[simp] theorem NL:en aa []=some []:=nr rfl
@[simp] theorem Lw (c:AV) (cs:List AV):en aa (c::cs)=(lR aa c).bind fun p=>(en aa cs).map (p::·):=nr rfl
@[simp] theorem PL (p:PV):eW (.pv p)=true:=nr rfl
@[simp] theorem Qq (cs:List PV):eW (.rp cs)=true:=nr rfl
@[simp] theorem L7 (t:Nat):eW (.own t)=false:=nr rfl
@[simp] theorem JJ (t o:Nat):eW (.ptr t o)=false:=nr rfl
@[simp] theorem Im:fg []=true:=nr rfl
@[simp] theorem FC (c:AV) (cs:List AV):fg (c::cs)=(eW c&&fg cs):=nr rfl
@[simp] theorem Jc (cs:List AV):dc (.agg cs)=fg cs:=nr rfl
@[simp] theorem L6 (f:FuncId) (cs:List AV):dc (.bk f cs)=fg cs:=nr rfl
@[simp] theorem QP (p:PV):dc (.pv p)=true:=nr rfl
@[simp] theorem On (cs:List PV):dc (.rp cs)=true:=nr rfl
@[simp] theorem LI (t:Nat):dc (.own t)=false:=nr rfl
@[simp] theorem KE (t o:Nat):dc (.ptr t o)=false:=nr rfl
@[simp] theorem Lv:dB []=true:=nr rfl
@[simp] theorem GM (c:AV) (cs:List AV):dB (c::cs)=(dc c&&dB cs):=nr rfl
@[simp] theorem Uw (k:IntKind) (n:Int):dt (.pv (.int k n))=true:=nr rfl
@[simp] theorem NC (b:Bool):dt (.pv (.bool b))=true:=nr rfl
@[simp] theorem Tq (l:List UInt8):dt (.pv (.str l))=true:=nr rfl
@[simp] theorem TW:dt (.pv .nil)=true:=nr rfl
@[simp] theorem Ve (rows:List (List PV)):dt (.pv (.ro rows))=true:=nr rfl
@[simp] theorem TK (t:Nat):dt (.own t)=true:=nr rfl
@[simp] theorem R1:er []=true:=nr rfl
@[simp] theorem KB (c:AV) (cs:List AV):er (c::cs)=(dt c&&er cs):=nr rfl
@[simp] theorem HH (cs:List AV):jy (.agg cs)=true:=nr rfl
@[simp] theorem JI (p:PV):jy (.pv p)=dt (.pv p):=nr rfl
@[simp] theorem Ik (t:Nat):jy (.own t)=true:=nr rfl
@[simp] theorem Lt (t s:Nat):bD t (.own s)=if s=t then .al else .own s:=nr rfl
@[simp] theorem Pz (t:Nat) (p:PV):bD t (.pv p)=.pv p:=nr rfl
@[simp] theorem IW (t:Nat):bD t .al=.al:=nr rfl
@[simp] theorem Hc (t:Nat):bq t []=[]:=nr rfl
@[simp] theorem EY (t:Nat) (c:AV) (cs:List AV):bq t (c::cs)=bD t c::bq t cs:=nr rfl
@[simp] theorem M9 (t:Nat) (cs:List AV):kill t (.agg cs)=.agg (bq t cs):=nr rfl
@[simp] theorem QC (t s:Nat):kill t (.own s)=if s=t then .al else .own s:=nr rfl
@[simp] theorem nc (t s:Nat) (e:TypeId) (i:Int) (o:Nat):kill t (.aI s e i o)=if s=t then .al else .aI s e i o:=nr rfl
@[simp] theorem SI (t:Nat) (p:PV):kill t (.pv p)=.pv p:=nr rfl
@[simp] theorem qc (t s o:Nat):kill t (.ptr s o)=.ptr s o:=nr rfl
@[simp] theorem tK (t:Nat) (cs:List PV):kill t (.rp cs)=.rp cs:=nr rfl
@[simp] theorem K0 (t:Nat):kill t .al=.al:=nr rfl
@[simp] theorem Qz (t:Nat) (g:Bool) (v:AV):kill t (.bL g v)=.bL g (kill t v):=nr rfl
@[simp] theorem Qa (t:Nat) (f:FuncId) (c:AV) (cs:List AV):kill t (.bk f (c::cs))=.al:=nr rfl
@[simp] theorem Mi (t:Nat) (cs:List AV):cQ t (.box cs)=.box (bq t cs):=nr rfl
@[simp] theorem KK (t:Nat) (e:TypeId) (rows:List (List PV)):cQ t (.arr e rows)=.arr e rows:=nr rfl
@[simp] theorem LH (g:Nat→AV→AV) (j:Nat):fw g j []=[]:=nr rfl
@[simp] theorem H4 (g:Nat→AV→AV) (j:Nat) (c:AV) (cs:List AV):fw g j (c::cs)=g (1000*j) c::fw g (j+1) cs:=nr rfl
@[simp] theorem RP (g:Nat→AV→AV) (cs:List AV):kD g (.agg cs)=.agg (fw g 0 cs):=nr rfl
@[simp] theorem Uk (g:Nat→AV→AV) (p:PV):kD g (.pv p)=g 0 (.pv p):=nr rfl
@[simp] theorem SO (g:Nat→AV→AV) (e:TypeId) (rows:List (List PV)):kD g (.fr e rows)=g 0 (.fr e rows):=nr rfl
@[simp] theorem J4 (g:Nat→AV→AV) (i:Nat):fW g i []=[]:=nr rfl
@[simp] theorem GG (g:Nat→AV→AV) (i:Nat) (v:AV) (vs:List AV):fW g i (v::vs)=kD (fun p c=>g (p+i) c) v::fW g (i+1) vs:=nr rfl
@[simp] theorem Gs (g:Nat→AV→AV) (vs:List AV):cq g (.aC vs)=.aC (fW g 0 vs):=nr rfl
@[simp] theorem JQ (g:Nat→AV→AV) (p:PV):cq g (.pv p)=g 0 (.pv p):=nr rfl
@[simp] theorem Kx (g:Nat→AV→AV) (e:TypeId) (rows:List (List PV)):cq g (.fr e rows)=g 0 (.fr e rows):=nr rfl
@[simp] theorem IX (g:Nat→AV→AV) (cs:List AV):cq g (.agg cs)=.agg (fw g 0 cs):=nr rfl
@[simp] theorem TH (d p:Nat) (e:TypeId) (rows:List (List PV)):jE d p (.fr e rows)=.own (d+1000*p):=nr rfl
@[simp] theorem SR (d p:Nat) (q:PV):jE d p (.pv q)=.pv q:=nr rfl
@[simp 1100] theorem MT (d p:Nat) (o:AO) (l:List (Nat×AO)):List.map (fun x:Nat×AO=>(d+1000*x.1,x.2)) ((p,o)::l)=(d+1000*p,o)::List.map (fun x:Nat×AO=>(d+1000*x.1,x.2)) l:=nr rfl
@[simp] theorem KV (j:Nat):eT j []=[]:=nr rfl
@[simp] theorem Nh (j:Nat) (e:TypeId) (rows:List (List PV)) (cs:List AV):eT j (.fr e rows::cs)=(1000*j,.arr e rows)::eT (j+1) cs:=nr rfl
@[simp] theorem MN (j:Nat) (p:PV) (cs:List AV):eT j (.pv p::cs)=eT (j+1) cs:=nr rfl
@[simp] theorem PK (cs:List AV):jk (.agg cs)=eT 0 cs:=nr rfl
@[simp] theorem Tn (e:TypeId) (rows:List (List PV)):jk (.fr e rows)=[(0,.arr e rows)]:=nr rfl
@[simp] theorem T4 (p:PV):jk (.pv p)=[]:=nr rfl
@[simp] theorem L9 (i:Nat):jW i []=[]:=nr rfl
@[simp] theorem IM (i:Nat) (v:AV) (vs:List AV):jW i (v::vs)=(jk v).map (fun x=>(x.1+i,x.2))++jW (i+1) vs:=nr rfl
@[simp] theorem Tk (p:PV):gW (.pv p)=true:=nr rfl
@[simp] theorem TC (e:TypeId) (rows:List (List PV)):gW (.fr e rows)=true:=nr rfl
@[simp] theorem JP:l7 []=true:=nr rfl
@[simp] theorem G5 (c:AV) (cs:List AV):l7 (c::cs)=(gW c&&l7 cs):=nr rfl
@[simp] theorem PH (cs:List AV):ku (.agg cs)=l7 cs:=nr rfl
@[simp] theorem SP (p:PV):ku (.pv p)=true:=nr rfl
@[simp] theorem SJ (e:TypeId) (rows:List (List PV)):ku (.fr e rows)=true:=nr rfl
@[simp] theorem LR:nC []=true:=nr rfl
@[simp] theorem HN (c:AV) (cs:List AV):nC (c::cs)=(ku c&&nC cs):=nr rfl
@[simp] theorem L5 (vs:List AV):cr (.aC vs)=(decide (vs.length≤900)&&nC vs):=nr rfl
@[simp] theorem Kg (cs:List AV):cr (.agg cs)=l7 cs:=nr rfl
@[simp] theorem QU (p:PV):cr (.pv p)=true:=nr rfl
@[simp] theorem R7 (e:TypeId) (rows:List (List PV)):cr (.fr e rows)=true:=nr rfl
@[simp] theorem Ul (vs:List AV):wg (.aC vs)=jW 0 vs:=nr rfl
@[simp] theorem S6 (cs:List AV):wg (.agg cs)=eT 0 cs:=nr rfl
@[simp] theorem Vo (e:TypeId) (rows:List (List PV)):wg (.fr e rows)=[(0,.arr e rows)]:=nr rfl
@[simp] theorem Vt (p:PV):wg (.pv p)=[]:=nr rfl
@[simp] theorem J8 (k:IntKind) (n:Int):gH (.int k n)=true:=nr rfl
@[simp] theorem Gy (b:Bool):gH (.bool b)=true:=nr rfl
@[simp] theorem Jd (l:List UInt8):gH (.str l)=true:=nr rfl
@[simp] theorem OC (p:PV):kI (.pv p)=(gH p=true):=nr rfl
@[simp] theorem PR (e:TypeId) (rows:List (List PV)):kI (.fr e rows)=bE rows:=nr rfl
@[simp] theorem LP:ma []=True:=nr rfl
@[simp] theorem Hn (c:AV) (cs:List AV):ma (c::cs)=(kI c∧ma cs):=nr rfl
@[simp] theorem Km (cs:List AV):jg (.agg cs)=ma cs:=nr rfl
@[simp] theorem RB (p:PV):jg (.pv p)=(gH p=true):=nr rfl
@[simp] theorem Sb (e:TypeId) (rows:List (List PV)):jg (.fr e rows)=bE rows:=nr rfl
@[simp] theorem Jb:nZ []=True:=nr rfl
@[simp] theorem Ic (c:AV) (cs:List AV):nZ (c::cs)=(jg c∧nZ cs):=nr rfl
@[simp] theorem Ox (vs:List AV):flat (.aC vs)=nZ vs:=nr rfl
@[simp] theorem flat_agg (cs:List AV):flat (.agg cs)=ma cs:=nr rfl
@[simp] theorem Tt (p:PV):flat (.pv p)=(gH p=true):=nr rfl
@[simp] theorem SA (e:TypeId) (rows:List (List PV)):flat (.fr e rows)=bE rows:=nr rfl
end
@[simp] theorem SB (un:List Nat) (aa:Nat→Option AO) (f:FuncId) (cs:List AV):nv un aa (.bk f cs)=jh un aa cs:=nr rfl
@[simp] theorem Vd (un:List Nat) (aa:Nat→Option AO) (p:PV):nv un aa (.pv p)=True:=nr rfl
@[simp] theorem UY (un:List Nat) (aa:Nat→Option AO) (cs:List PV):nv un aa (.rp cs)=True:=nr rfl
@[simp] theorem Rw (un:List Nat) (aa:Nat→Option AO):nv un aa .al=True:=nr rfl
@[simp] theorem Ue (un:List Nat) (aa:Nat→Option AO) (cs:List AV):nv un aa (.aC cs)=True:=nr rfl
@[simp] theorem Tp (un:List Nat) (aa:Nat→Option AO) (cs:List AV):nv un aa (.agg cs)=fk un cs:=nr rfl
@[simp] theorem To (un:List Nat) (aa:Nat→Option AO) (t:Nat):nv un aa (.own t)=iC un t:=nr rfl
@[simp] theorem Og (un:List Nat) (aa:Nat→Option AO) (t:Nat) (e:TypeId) (i:Int) (o:Nat):nv un aa (.aI t e i o)=iC un t:=nr rfl
@[simp] theorem yC (un:List Nat) (aa:Nat→Option AO) (t:Nat) (e:TypeId) (i o:Nat):nv un aa (.sub t e i o)=iC un t:=nr rfl
@[simp] theorem Uu (un:List Nat) (aa:Nat→Option AO) (t o:Nat):nv un aa (.ptr t o)=(iC un t∧fk un ((dJ (aa t)).getD [])):=nr rfl
@[simp] theorem UN (un:List Nat) (aa:Nat→Option AO) (cs:List PV):lL un aa (.rp cs)=True:=nr rfl
@[simp] theorem qf (un:List Nat) (aa:Nat→Option AO) (t:Nat) (e:TypeId) (i o:Nat):lL un aa (.sub t e i o)=iC un t:=nr rfl
@[simp] theorem M5 (un:List Nat) (aa:Nat→Option AO) (t o:Nat):lL un aa (.ptr t o)=(iC un t∧fk un ((dJ (aa t)).getD [])):=nr rfl
@[simp] theorem J0 (un:List Nat) (aa:Nat→Option AO):jh un aa []=True:=nr rfl
@[simp] theorem Gx (un:List Nat) (aa:Nat→Option AO) (c:AV) (cs:List AV):jh un aa (c::cs)=(lL un aa c∧jh un aa cs):=nr rfl
@[simp] theorem N5 (un:List Nat) (aa:Nat→Option AO):gZ un aa []=True:=nr rfl
@[simp] theorem LY (un:List Nat) (aa:Nat→Option AO) (c:AV) (cs:List AV):gZ un aa (c::cs)=(nv un aa c∧gZ un aa cs):=nr rfl
attribute[simp] lay bF iC rl fk
end Go.Proofs.Ytlmkcmfmfahcfaa.Ab.R
namespace Go.Proofs.Ytlmkcmfmfahcfaa.Ab
open Go Go.RowKit
theorem cY (a:Addr) (n:Nat):(a.add n).block=a.block:=by unfold Addr.add;split<;>rfl
theorem dZ (a:Addr) (i j:Nat):(a.add i).add j=a.add (i+j):=by unfold Addr.add;by_cases hi:i=0<;>by_cases hj:j=0<;>simp[hi,hj,Nat.add_assoc]
section
variable{P:Program}{S S':Nat→Prop}{w w':World}{β β':Nat→Value}{D D':Nat→Prop}
theorem sn {ad:Addr} (h:w'.heap[ad.block]?=w.heap[ad.block]?) (n:Nat):w'.cell? (ad.add n)=w.cell? (ad.add n):=World.cell?_of_block (by rw[cY];exact h)
def qn (w w':World) (b:Nat):Prop:=(∀ad:Addr,ad.block=b→w'.cell? ad=w.cell? ad)∧∀(us:Array MapEntry) (c:Nat),w.heap[b]?=some (.map us c)→w'.heap[b]?=some (.map us c)
theorem qn.of {b:Nat} (h:w'.heap[b]?=w.heap[b]?):qn w w' b:=⟨fun ad e=>World.cell?_of_block (by rw[e];exact h),fun us c hm=>h.trans hm⟩
theorem cM.eZ {v:Value}{p:PV} (h:cM S w v p) (hS:∀b,S b→S' b∧qn w w' b):cM S' w' v p:=by induction h with|int k n=>exact .int k n|bool b=>exact .bool b|str l=>exact .str l|nil=>exact .nil|val v h=>exact .val v h|mp b us c ks h1 h2 h3 h4=>exact .mp b us c ks (hS _ h1).1 ((hS _ h1).2.2 _ _ h2) h3 h4|mv b us c es h1 h2 h3 h4 h5 h6 ih=>exact .mv b us c es (hS _ h1).1 ((hS _ h1).2.2 _ _ h2) h3 h4 h5 ih|pt ad cs us h1 h2 h3 h4 ih=>exact .pt ad cs us (hS _ h1).1 (fun j hj=>((hS _ h1).2.1 _ (cY _ _)).trans (h2 j hj)) h3 ih|uh A c=>exact .uh A c|ro ad c rows sz us h1 h2 h3 h4 h5 h6 ih=>exact .ro ad c rows sz us (hS _ h1).1 h2 h3 (fun i j hi hj=>((hS _ h1).2.1 _ (cY _ _)).trans (h4 i j hi hj)) h5 ih
theorem RV.eZ {v:Value}{x:AV} (h:RV P S w β D v x) (hS:∀b,S b→S' b∧qn w w' b) (hD:∀t,D t→D' t∧β' t=β t):RV P S' w' β' D' v x:=by induction h with|pv v p h=>exact .pv v p (h.eZ hS)|own t h=>rw[←(hD t h).2];exact .own t (hD t h).1|ptr t o b h hb=>exact .ptr t o b (hD t h).1 ((hD t h).2.trans hb)|aI t e i o b n c inf h hi hb=>exact .aI t e i o b n c inf (hD t h).1 hi ((hD t h).2.trans hb)|sub v t e lo hi inf A A1 n c h hi' hb h1 h2 h3 h4 h5 hv=>exact .sub v t e lo hi inf A A1 n c (hD t h).1 hi' ((hD t h).2.trans hb) h1 h2 h3 h4 h5 hv|rp ad cs us h1 h2 h3 h4=>exact .rp ad cs us (hS _ h1).1 (fun j hj=>((hS _ h1).2.1 _ (cY _ _)).trans (h2 j hj)) h3 (fun j p hp=>(h4 j p hp).eZ hS)|agg cs us hl h ih=>exact .agg cs us hl ih|aC cs us hl h ih=>exact .aC cs us hl ih|bk f cs us hl h ih=>exact .bk f cs us hl ih|bL g v av h hu ih=>exact .bL g v av ih hu|al v=>exact .al v
theorem cM.mono {v:Value}{p:PV} (h:cM S w v p) (hS:∀b,S b→S' b∧w'.heap[b]?=w.heap[b]?):cM S' w' v p:=h.eZ fun b hb=>⟨(hS b hb).1,.of (hS b hb).2⟩
theorem RV.mono {v:Value}{x:AV} (h:RV P S w β D v x) (hS:∀b,S b→S' b∧w'.heap[b]?=w.heap[b]?) (hD:∀t,D t→D' t∧β' t=β t):RV P S' w' β' D' v x:=h.eZ (fun b hb=>⟨(hS b hb).1,.of (hS b hb).2⟩) hD
theorem RV.strip {v:Value}{x:AV} (h:RV P S w β D v x) (ha:asks x):RV P S w β D v (strip x):=by induction h with|bL g v av h hu ih=>exact ih ha.1 ha.2|pv v p h=>exact .pv v p h|own t h=>exact .own t h|ptr t o b h hb=>exact .ptr t o b h hb|aI t e i o b n c inf h hi hb=>exact .aI t e i o b n c inf h hi hb|sub v t e lo hi inf A A1 n c h hi' hb h1 h2 h3 h4 h5 hv=>exact .sub v t e lo hi inf A A1 n c h hi' hb h1 h2 h3 h4 h5 hv|rp ad cs us h1 h2 h3 h4=>exact .rp ad cs us h1 h2 h3 h4|agg cs us hl h _=>exact .agg cs us hl h|aC cs us hl h _=>exact .aC cs us hl h|bk f cs us hl h _=>exact .bk f cs us hl h|al v=>exact .al v
theorem aW.eZ {t:Nat}{o:AO} (h:aW P S w β D t o) (hS:∀b,S b→S' b∧qn w w' b) (hD:∀t,D t→D' t∧β' t=β t) (ht:β' t=β t) (hb:∀b,bM (β t)=some b→w'.heap[b]?=w.heap[b]?):aW P S' w' β' D' t o:=by cases o with
 |box cs=>obtain⟨b,us,ty,hp,hh,hl,hc⟩:=h;exact⟨b,us,ty,ht.trans hp,(hb b (by rw[hp];rfl)).trans hh,hl,fun i c u h1 h2=>⟨(hc i c u h1 h2).1,(hc i c u h1 h2).2.eZ hS hD⟩⟩|arr e rows=>
  obtain⟨inf,us,hi,hown,hr,hc⟩:=h;refine⟨inf,us,hi,?_,hr,fun i j r p h1 h2=>?_⟩
  ·rw[ht];refine⟨hown.1,?_⟩;rcases hown.2 with h0|⟨g,cap,cur,hv,h1,h2,h3,h4,h5,h6⟩;·exact .inl h0
   ·exact .inr ⟨g,cap,cur,hv,h1,(hb g (by rw[hv];rfl)).trans h2,h3,h4,h5,h6⟩
  ·obtain⟨u,h3,h4,h5⟩:=hc i j r p h1 h2;exact⟨u,h3,h4,h5.eZ hS⟩|map es=>obtain⟨b,us,c,hp,hh,hl,hc⟩:=h;exact⟨b,us,c,ht.trans hp,(hb b (by rw[hp];rfl)).trans hh,hl,fun i e u h1 h2=>⟨(hc i e u h1 h2).1,(hc i e u h1 h2).2.eZ hS fun _ hf=>hf.elim⟩⟩|rws e cs=>
  obtain⟨inf,us,hi,h1s,hown,hc⟩:=h;refine⟨inf,us,hi,h1s,?_,fun i c u h1 h2=>⟨(hc i c u h1 h2).1,(hc i c u h1 h2).2.eZ hS hD⟩⟩;rw[ht];refine⟨hown.1,?_⟩;rcases hown.2 with h0|⟨g,cap,cur,hv,h1,h2,h3,h4,h5,h6⟩;·exact .inl h0
  ·exact .inr ⟨g,cap,cur,hv,h1,(hb g (by rw[hv];rfl)).trans h2,h3,h4,h5,h6⟩|fD es=>obtain⟨b,us,c,hp,hh,hst,hl,hc⟩:=h;exact⟨b,us,c,ht.trans hp,(hb b (by rw[hp];rfl)).trans hh,hst,hl,fun i e u h1 h2=>⟨(hc i e u h1 h2).1,(hc i e u h1 h2).2.1,(hc i e u h1 h2).2.2.1,(hc i e u h1 h2).2.2.2.eZ hS⟩⟩|lq rem cur=>
  obtain⟨r,m,us,c,seen,hp,hh,hm,hmm,hst,hl,hc,hcur⟩:=h;refine⟨r,m,us,c,seen,ht.trans hp,(hb r (by rw[hp];rfl)).trans hh,(hS m hm).1,?_,hst,hl,fun i e u h1 h2=>⟨(hc i e u h1 h2).1,(hc i e u h1 h2).2.1,(hc i e u h1 h2).2.2.1,(hc i e u h1 h2).2.2.2.eZ hS⟩,fun e he=>?_⟩;·have:=(hS m hm).2.2 us c hmm;first|exact this.trans hmm|exact this
  ·obtain⟨u,s',h1,h2,h3,h4,h5,h6⟩:=hcur e he;exact⟨u,s',h1,h2,h3,h4,h5,h6.eZ hS⟩
theorem aW.mono {t:Nat}{o:AO} (h:aW P S w β D t o) (hS:∀b,S b→S' b∧w'.heap[b]?=w.heap[b]?) (hD:∀t,D t→D' t∧β' t=β t) (ht:β' t=β t) (hb:∀b,bM (β t)=some b→w'.heap[b]?=w.heap[b]?):aW P S' w' β' D' t o:=h.eZ (fun b hb=>⟨(hS b hb).1,.of (hS b hb).2⟩) hD ht hb
end
section
variable{P:Program}{S0 L:Nat→Prop}{B0:Nat→Value}{w0 w w':World}{N:Nat}{st:St}{a:Act}{β:Nat→Value}
theorem vB (l:Array Value) (d s:Nat) (r:Value) (hd:d<l.size):(l.setIfInBounds d r).getD s undef=if s=d then r else l.getD s undef:=by
 by_cases h:s=d;·subst h;simp[Array.getD_eq_getD_getElem?,Array.getElem?_setIfInBounds_self_of_lt hd]
 ·simp[Array.getD_eq_getD_getElem?,Array.getElem?_setIfInBounds_ne (fun e=>h e.symm),h]
theorem Rel.put (h:Rel P S0 L B0 w0 N st a w β) {d:Option Nat}{r:Value}{v:AV} (hd:∀s,d=some s→s<N) (hr:RV P (aK S0 w0.heap.size β st.aa w) w β (aw st.aa) r v):Rel P S0 L B0 w0 N ⟨put d v st.vars,st.aa⟩ (a.put d r) w β:=by cases d with|none=>exact⟨h.size,h.defers,h.vars,h.heap,h.old,h.oE,h.rG,h.bJ⟩|some d=>
 have hd':d<a.tmps.size:=by rw[h.size];exact hd d rfl
 refine⟨by simp[Act.put,h.size],h.defers,fun s=>?_,h.heap,h.old,h.oE,h.rG,h.bJ⟩;simp only[Act.put,Ab.put];rw[vB _ _ _ _ hd'];split;·exact hr
 ·exact h.vars s
theorem Rel.aU (h:Rel P S0 L B0 w0 N st a w β) {vars:Nat→AV} (hv:∀s,vars s=st.vars s∨vars s=.al):Rel P S0 L B0 w0 N ⟨vars,st.aa⟩ a w β:=⟨h.size,h.defers,fun s=>by
 rcases hv s with e|e;·rw[show(St.mk vars st.aa).vars s=vars s from rfl,e];exact h.vars s
 ·rw[show(St.mk vars st.aa).vars s=vars s from rfl,e];exact .al _,h.heap,h.old,h.oE,h.rG,h.bJ⟩
structure V6 (w w':World):Prop where
 heap:w'.heap=w.heap
 os:w'.os=w.os
 tape:w'.tape=w.tape
 output:w'.output=w.output
theorem BQ {S0:Nat→Prop}{n0:Nat}{aa:Nat→Option AO} (hw:w'.heap=w.heap):aK S0 n0 β aa w'=aK S0 n0 β aa w:=by funext b;simp[aK,hw]
theorem Rel.same (h:Rel P S0 L B0 w0 N st a w β) (hw:V6 w w'):Rel P S0 L B0 w0 N st a w' β:=by have hm:∀b,aK S0 w0.heap.size β st.aa w b→aK S0 w0.heap.size β st.aa w' b∧w'.heap[b]?=w.heap[b]?:=fun b hb=>⟨by rw[BQ hw.heap];exact hb,by rw[hw.heap]⟩;have hD:∀t,aw st.aa t→aw st.aa t∧β t=β t:=fun t ht=>⟨ht,rfl⟩;exact⟨h.size,h.defers,fun s=>(h.vars s).mono hm hD,⟨fun t o ho=>(h.heap.holds t o ho).mono hm hD rfl (fun b _=>by rw[hw.heap]),h.heap.inj⟩,h.old,h.oE,h.rG,⟨hw.os.trans h.bJ.os,hw.tape.trans h.bJ.tape,hw.output.trans h.bJ.output,by rw[hw.heap];exact h.bJ.size,fun b h1 h2=>by rw[hw.heap];exact h.bJ.block b h1 h2⟩⟩
theorem Rel.drew (h:Rel P S0 L B0 w0 N st a w β):Rel P S0 L B0 w0 N st a w.drew β:=h.same ⟨rfl,rfl,rfl,rfl⟩
theorem aW.lt {S:Nat→Prop}{D:Nat→Prop}{t:Nat}{o:AO} (h:aW P S w β D t o):∀b,bM (β t)=some b→b<w.heap.size:=by intro b hb;cases o with
 |box cs=>obtain⟨b',us,ty,hp,hh,_⟩:=h;rw[hp]at hb;simp[bM]at hb;subst hb;exact(Array.getElem?_eq_some_iff.1 hh).1|arr e rows=>
  obtain⟨inf,us,hi,hown,_⟩:=h;rcases hown.2 with⟨h0,_⟩|⟨g,cap,cur,hv,h1,h2,_⟩;·rw[h0]at hb;simp[bM]at hb
  ·rw[hv]at hb;simp[bM]at hb;subst hb;exact(Array.getElem?_eq_some_iff.1 h2).1|map es=>obtain⟨b',us,c,hp,hh,_⟩:=h;rw[hp]at hb;simp[bM]at hb;subst hb;exact(Array.getElem?_eq_some_iff.1 hh).1|rws e cs=>
  obtain⟨inf,us,hi,_,hown,_⟩:=h;rcases hown.2 with⟨h0,_⟩|⟨g,cap,cur,hv,h1,h2,_⟩;·rw[h0]at hb;simp[bM]at hb
  ·rw[hv]at hb;simp[bM]at hb;subst hb;exact(Array.getElem?_eq_some_iff.1 h2).1|fD es=>obtain⟨b',us,c,hp,hh,_⟩:=h;rw[hp]at hb;simp[bM]at hb;subst hb;exact(Array.getElem?_eq_some_iff.1 hh).1|lq rem cur=>obtain⟨r,m,us,c,seen,hp,hh,_⟩:=h;rw[hp]at hb;simp[bM]at hb;subst hb;exact(Array.getElem?_eq_some_iff.1 hh).1
theorem Rel.lt (h:Rel P S0 L B0 w0 N st a w β) {t:Nat} (ht:aw st.aa t) {b:Nat} (hb:bM (β t)=some b):b<w.heap.size:=by obtain⟨o,ho⟩:=ht;exact(h.heap.holds t o ho).lt b hb
def dn (β:Nat→Value) (t:Nat) (v:Value):Nat→Value:=fun s=>if s=t then v else β s
theorem aH (β:Nat→Value) (t:Nat) (v:Value):dn β t v t=v:=by simp[dn]
theorem bZ (β:Nat→Value) {t s:Nat} (v:Value) (h:s≠t):dn β t v s=β s:=by simp[dn,h]
theorem bn {t s:Nat}{o:AO}{aa:Nat→Option AO}:aw (aA t o aa) s↔s=t∨aw aa s:=by
 unfold aw aA;by_cases h:s=t;·simp[h]
 ·simp[h]
theorem Rel.fresh (h:Rel P S0 L B0 w0 N st a w β) {t:Nat} (htN:t<N) (ht:st.aa t=none) (hg:w.grownBy w' none) {v:Value} (hv:∀b,bM v=some b→w.heap.size≤b) {o:AO} (ho:aW P (aK S0 w0.heap.size (dn β t v) (aA t o st.aa) w') w' (dn β t v) (aw (aA t o st.aa)) t o):Rel P S0 L B0 w0 N ⟨st.vars,aA t o st.aa⟩ a w' (dn β t v):=by
 have hne:∀s,aw st.aa s→s≠t:=fun s ⟨o',ho'⟩ e=>by subst e;rw[ht]at ho';cases ho'
 have hsame:∀b,b<w.heap.size→w'.heap[b]?=w.heap[b]?:=fun b hb=>hg.block b hb (by simp);have hm:∀b,aK S0 w0.heap.size β st.aa w b→aK S0 w0.heap.size (dn β t v) (aA t o st.aa) w' b∧w'.heap[b]?=w.heap[b]?:=by
  intro b hb;obtain⟨h1,h2,h3⟩:=hb;refine⟨⟨h1,Nat.lt_of_lt_of_le h2 hg.size,?_⟩,hsame b h2⟩;rintro⟨s,o',hs,hbs⟩;by_cases e:s=t;·subst e;rw[aH]at hbs;have:=hv b hbs;omega
  ·rw[bZ _ _ e]at hbs;exact h3 ⟨s,o',by simpa[aA,e]using hs,hbs⟩
 have hD:∀s,aw st.aa s→aw (aA t o st.aa) s∧dn β t v s=β s:=fun s hs=>⟨bn.2 (.inr hs),bZ _ _ (hne s hs)⟩;refine⟨h.size,h.defers,fun s=>(h.vars s).mono hm hD,⟨fun s o' hs=>?_,?_⟩,?_,h.oE,fun s h9 hs=>?_,?_⟩
 ·by_cases e:s=t
  ·subst e;have:o'=o:=by simpa[aA]using hs.symm
   subst this;exact ho
  ·have hs':st.aa s=some o':=by simpa[aA,e]using hs
   exact(h.heap.holds s o' hs').mono hm hD (bZ _ _ e) (fun b hb=>hsame b (h.lt ⟨o',hs'⟩ hb))
 ·intro s s' b hs hs' hb hb';by_cases e:s=t<;>by_cases e':s'=t;·rw[e,e']
  ·subst e;rw[aH]at hb;rw[bZ _ _ e']at hb';have:=h.lt ((bn.1 hs').resolve_left e') hb';have:=hv b hb;omega
  ·subst e';rw[aH]at hb';rw[bZ _ _ e]at hb;have:=h.lt ((bn.1 hs).resolve_left e) hb;have:=hv b hb';omega
  ·rw[bZ _ _ e]at hb;rw[bZ _ _ e']at hb';exact h.heap.inj s s' b ((bn.1 hs).resolve_left e) ((bn.1 hs').resolve_left e') hb hb'
 ·intro s b hs hb;by_cases e:s=t;·subst e;rw[aH]at hb;have:=hv b hb;have:=h.bJ.size;exact .inl (by omega)
  ·rw[bZ _ _ e]at hb;exact h.old s b ((bn.1 hs).resolve_left e) hb
 ·have hst:s≠t:=fun e=>by have:=h.oE;subst e;omega
  rw[bZ _ _ hst];exact h.rG s h9 ((bn.1 hs).resolve_left hst)
 ·exact⟨hg.os.trans h.bJ.os,hg.tape.trans h.bJ.tape,hg.output.trans h.bJ.output,Nat.le_trans h.bJ.size hg.size,fun b h1 h2=>(hsame b (by have:=h.bJ.size;omega)).trans (h.bJ.block b h1 h2)⟩
theorem Rel.iU (h:Rel P S0 L B0 w0 N st a w β) {t:Nat} (ht:st.aa t=none) (hg:w.grownBy w' none) {v:Value} (hv:∀b,bM v=some b→w.heap.size≤b) {o:AO}:(∀b,aK S0 w0.heap.size β st.aa w b→aK S0 w0.heap.size (dn β t v) (aA t o st.aa) w' b∧w'.heap[b]?=w.heap[b]?)∧(∀s,aw st.aa s→aw (aA t o st.aa) s∧dn β t v s=β s):=by
 have hne:∀s,aw st.aa s→s≠t:=fun s ⟨o',ho'⟩ e=>by subst e;rw[ht]at ho';cases ho'
 refine⟨fun b hb=>?_,fun s hs=>⟨bn.2 (.inr hs),bZ _ _ (hne s hs)⟩⟩;obtain⟨h1,h2,h3⟩:=hb;refine⟨⟨h1,Nat.lt_of_lt_of_le h2 hg.size,?_⟩,hg.block b h2 (by simp)⟩;rintro⟨s,o',hs,hbs⟩;by_cases e:s=t;·subst e;rw[aH]at hbs;have:=hv b hbs;omega
 ·rw[bZ _ _ e]at hbs;exact h3 ⟨s,o',by simpa[aA,e]using hs,hbs⟩
theorem Rel.rL (h:Rel P S0 L B0 w0 N st a w β) {t:Nat}{o o':AO} (ht:st.aa t=some o) {b:Nat} (hb:bM (β t)=some b) (hos:w'.os=w.os) (htape:w'.tape=w.tape) (hout:w'.output=w.output) (hsz:w'.heap.size=w.heap.size) (hother:∀k,k≠b→w'.heap[k]?=w.heap[k]?) (ho:aW P (aK S0 w0.heap.size β (aA t o' st.aa) w') w' β (aw (aA t o' st.aa)) t o'):Rel P S0 L B0 w0 N ⟨st.vars,aA t o' st.aa⟩ a w' β∧(∀u x,RV P (aK S0 w0.heap.size β st.aa w) w β (aw st.aa) u x→RV P (aK S0 w0.heap.size β (aA t o' st.aa) w') w' β (aw (aA t o' st.aa)) u x):=by
 have hlive:∀k,live β (aA t o' st.aa) k↔live β st.aa k:=by
  intro k;constructor
  ·rintro⟨s,x,hs,hk⟩;by_cases e:s=t;·subst e;exact⟨s,o,ht,hk⟩
   ·exact⟨s,x,by simpa[aA,e]using hs,hk⟩
  ·rintro⟨s,x,hs,hk⟩;by_cases e:s=t;·subst e;exact⟨s,o',by simp[aA],hk⟩
   ·exact⟨s,x,by simpa[aA,e]using hs,hk⟩
 have hm:∀k,aK S0 w0.heap.size β st.aa w k→aK S0 w0.heap.size β (aA t o' st.aa) w' k∧w'.heap[k]?=w.heap[k]?:=by intro k hk;obtain⟨h1,h2,h3⟩:=hk;have hkb:k≠b:=fun e=>h3 ⟨t,o,ht,by rw[e];exact hb⟩;exact⟨⟨h1,by omega,fun hl=>h3 ((hlive k).1 hl)⟩,hother k hkb⟩
 have hdt:aw st.aa t:=⟨o,ht⟩;have hD:∀s,aw st.aa s→aw (aA t o' st.aa) s∧β s=β s:=fun s hs=>⟨bn.2 (.inr hs),rfl⟩;have hdom:∀s,aw (aA t o' st.aa) s→aw st.aa s:=fun s hs=>by
  rcases bn.1 hs with e|e;·rw[e];exact hdt
  ·exact e
 refine⟨⟨h.size,h.defers,fun s=>(h.vars s).mono hm hD,⟨fun s x hs=>?_,fun s s' k hs hs'=>h.heap.inj s s' k (hdom s hs) (hdom s' hs')⟩,fun s k hs=>h.old s k (hdom s hs),h.oE,fun s h9 hs=>h.rG s h9 (hdom s hs),?_⟩,fun u x hx=>hx.mono hm hD⟩
 ·by_cases e:s=t
  ·subst e;have:x=o':=by simpa[aA]using hs.symm
   subst this;exact ho
  ·have hs':st.aa s=some x:=by simpa[aA,e]using hs
   exact(h.heap.holds s x hs').mono hm hD rfl (fun k hk=>hother k fun ek=>e (h.heap.inj s t b ⟨x,hs'⟩ hdt (by rw[←ek];exact hk) hb))
 ·exact⟨hos.trans h.bJ.os,htape.trans h.bJ.tape,hout.trans h.bJ.output,by rw[hsz];exact h.bJ.size,fun k h1 h2=>by
   have hkb:k≠b:=by
    rintro rfl;rcases h.old t k hdt hb with hx|hx;·omega
    ·exact h2 hx
   exact(hother k hkb).trans (h.bJ.block k h1 h2)⟩
end
section
variable{P:Program} (w:World)
theorem tr (t tx ty e:TypeId) (i:TypeInfo) (z:Value) (ht:P.underlying t=some (.slice e)) (hi:P.info? e=some i) (hz:i.zero=some z) (hzs:z.cells.size=i.size) (hsz:0<i.size) (v:Value) (n:Nat) (xs:List Value) (hown:w.ownsRow 0 e i.size v n xs) (x:Value) (m:Nat) (news:List Value) (hs:Src P i.size tx x m news w) (h63:n+m≤maxLen) (hbytes:(n+m)*i.bytes≤140737488355328):∃v' w',(Builtin.append_ #[t,tx] ty #[v,x]).run P w=.ok v' w'∧w'.ownsRow 0 e i.size v' (n+m) (xs++news)∧w.grownBy w' v.ownBlock∧(v'.ownBlock=v.ownBlock∨v'.ownBlock=some w.heap.size)∧w'.ownsRow 0 e i.size v n xs:=by
 have hl:=hs.newsLen;have hlen:(xs++news).length=(n+m)*i.size:=by rw[List.length_append,hown.1,hl,Nat.add_mul]
 have grown:∀(old:Nat),old<n+m→∀(row:Option Nat),(w.drew.alloc (.cells ((xs++news).toArray++Builtin.zeroCells z.cells (grownCap w (n+m) old e-(n+m))) e)).ownsRow 0 e i.size (.slice (some ⟨w.heap.size,0,none⟩) (n+m) (grownCap w (n+m) old e)) (n+m) (xs++news)∧w.grownBy (w.drew.alloc (.cells ((xs++news).toArray++Builtin.zeroCells z.cells (grownCap w (n+m) old e-(n+m))) e)) row:=by
  intro old ho row;have hge:=grownCap_ge w (n+m) old e;have hcm:grownCap w (n+m) old e≤maxLen:=grownCap_le_maxLen w (n+m) old e h63;refine⟨⟨hlen,.inr ⟨w.heap.size,_,_,rfl,Nat.zero_le _,heap_alloc_new w.drew _,hge,hcm,?_,?_⟩⟩,⟨rfl,rfl,rfl,by simp,fun k hk _=>Below.heap_alloc w.drew _ k hk⟩⟩;·simp only[Array.size_append,List.size_toArray,size_zeroCells,hzs,hlen,←Nat.add_mul];congr 1;omega
  ·simp only[Array.toList_append];rw[←hlen];exact List.take_left
 have hsmall:((n+m:Nat):Int)≤9223372036854775807:=by simp only[maxLen]at h63;omega
 rcases hown.2 with⟨rfl,rfl⟩|⟨g,cap,cur,rfl,hbg,hg,hnc,hcm,hcs,htake⟩
 ·have hx:xs=[]:=List.eq_nil_of_length_eq_zero (by simpa using hown.1);subst hx;by_cases hm:m=0;·subst hm;have hn:news=[]:=List.eq_nil_of_length_eq_zero (by simpa using hl);subst hn;exact⟨.slice none 0 0,w,run_append_nothing w t tx ty e i ht hi none 0 0 (Nat.le_refl _) x hs,World.ownsRow_nil w 0 e i.size,⟨rfl,rfl,rfl,Nat.le_refl _,fun _ _ _=>rfl⟩,Or.inl rfl,hown⟩
  ·have hr:=run_append_grow_src (P:=P) w t tx ty e i z ht hi hz none 0 0 [] (by simp[Builtin.firstCells]) x m news hs (by omega) hsmall (growslice_fits (by omega) hbytes);have hgr:=grown 0 (by omega) (Value.ownBlock (.slice none 0 0));exact⟨_,_,hr,hgr.1,hgr.2,Or.inr rfl,by simp,.inl ⟨rfl,rfl⟩⟩
 ·by_cases hroom:n+m≤cap
  ·have hfit:n*i.size+news.length≤cur.size:=by rw[hl,hcs,←Nat.add_mul];exact Nat.mul_le_mul_right _ hroom
   have hst:=run_storeCells_at P g (n*i.size) e news 0 cur w hg (by simpa using hfit) hs.one;simp only[Nat.add_zero]at hst;have hr:(Builtin.append_ #[t,tx] ty #[.slice (some ⟨g,0,none⟩) n cap,x]).run P w=.ok (.slice (some ⟨g,0,none⟩) (n+m) cap) (w.setRow g (cur.toList.take (n*i.size)++news++cur.toList.drop (n*i.size+news.length)).toArray):=by rcases hs.kind with⟨e',hk⟩|hk<;>simp[Builtin.append_,run_underlying ht,run_underlying hk,sizeOf,typeInfo,hi,hs.len,hroom,hs.cells,Addr.add_lit,hst]
   refine⟨_,_,hr,⟨hlen,.inr ⟨g,cap,_,rfl,Nat.zero_le _,setRow_heap w g cur _ e _ hg,hroom,hcm,?_,?_⟩⟩,⟨rfl,rfl,rfl,by simp,fun k _ hk=>setRow_other w g k _ (fun e=>hk (by simp[Value.ownBlock,e]))⟩,Or.inl rfl,?_⟩;·simp only[List.size_toArray,List.length_append,List.length_take,List.length_drop,Array.length_toList];omega
   ·rw[htake,←hlen];exact List.take_left
   ·refine⟨hown.1,.inr ⟨g,cap,_,rfl,Nat.zero_le _,setRow_heap w g cur _ e _ hg,hnc,hcm,?_,?_⟩⟩;·simp only[List.size_toArray,List.length_append,List.length_take,List.length_drop,Array.length_toList];omega
    ·rw[htake,←hown.1];simp only[List.append_assoc];exact List.take_left
  ·have holds:∀j u,xs[j]?=some u→w.cell? ((⟨g,0,none⟩:Addr).add j)=some u:=hown.cells (g:=g) rfl;have hold:(Builtin.firstCells i.size n (.slice (some ⟨g,0,none⟩) n cap)).run P w.drew=.ok xs.toArray w.drew:=run_firstCells_some w.drew i.size n ⟨g,0,none⟩ n cap xs hown.1 (by simpa using holds);have hr:=run_append_grow_src (P:=P) w t tx ty e i z ht hi hz (some ⟨g,0,none⟩) n cap xs hold x m news hs (by omega) hsmall (growslice_fits (by omega) hbytes);have hgr:=grown cap (by omega) (Value.ownBlock (.slice (some ⟨g,0,none⟩) n cap));have hgn:=(grown cap (by omega) none).2;exact⟨_,_,hr,hgr.1,hgr.2,Or.inr rfl,hown.1,.inr ⟨g,cap,cur,rfl,hbg,(hgn.block g (Array.getElem?_eq_some_iff.1 hg).1 (by simp)).trans hg,hnc,hcm,hcs,htake⟩⟩
end
theorem dQ (t:Nat):∀(cs:List AV) (i:Nat),(bq t cs)[i]?=(cs[i]?).map (bD t)|[],i=>by simp[bq]|c::cs,0=>by simp[bq]|c::cs,i+1=>by simp[bq,dQ t cs i]
theorem cV (t:Nat):∀cs:List AV,(bq t cs).length=cs.length|[]=>rfl|c::cs=>by simp[bq,cV t cs]
section
variable{P:Program}{S S':Nat→Prop}{w w':World}{β β':Nat→Value}{D D':Nat→Prop}{t:Nat}
theorem RV.bD {v:Value}{x:AV} (h:RV P S w β D v x) (hp:∀b,β t≠.pointer (some ⟨b,0,none⟩)) (hS:∀b,S b→S' b∧w'.heap[b]?=w.heap[b]?) (hD:∀s,D s→s≠t→D' s∧β' s=β s):RV P S' w' β' D' v (bD t x):=by cases h with
 |pv v p h=>exact .pv _ _ (h.mono hS)|own s h=>
  simp only[Ab.bD];split;·exact .al _
  ·rename_i hne;rw[←(hD s h hne).2];exact .own s (hD s h hne).1|ptr s o b h hb=>have hne:s≠t:=fun e=>hp b (by rw[←e];exact hb);exact .ptr s o b (hD s h hne).1 ((hD s h hne).2.trans hb)|aI s e i o b n c inf h hi hb=>
  simp only[Ab.bD];split;·exact .al _
  ·rename_i hne;exact .aI s e i o b n c inf (hD s h hne).1 hi ((hD s h hne).2.trans hb)|sub v s e lo hi inf A A1 n c h hi' hb h1 h2 h3 h4 h5 hv=>
  simp only[Ab.bD];split;·exact .al _
  ·rename_i hne;exact .sub v s e lo hi inf A A1 n c (hD s h hne).1 hi' ((hD s h hne).2.trans hb) h1 h2 h3 h4 h5 hv|rp ad cs us h1 h2 h3 h4=>exact .rp ad cs us (hS _ h1).1 (fun j hj=>(sn (hS _ h1).2 _).trans (h2 j hj)) h3 (fun j p hp=>(h4 j p hp).mono hS)|agg cs us hl h=>exact .al _|aC cs us hl h=>exact .al _|bk f cs us hl h=>cases cs with|nil=>refine .bk f [] us hl ?_;intro i c u hc;simp at hc|cons c cs=>exact .al _
 |bL g v av h=>exact .al _|al v=>exact .al _
theorem RV.kill {v:Value}{x:AV} (h:RV P S w β D v x) (hp:∀b,β t≠.pointer (some ⟨b,0,none⟩)) (hS:∀b,S b→S' b∧w'.heap[b]?=w.heap[b]?) (hD:∀s,D s→s≠t→D' s∧β' s=β s):RV P S' w' β' D' v (kill t x):=by induction h with|agg cs us hl h _=>refine .agg _ us (by rw[cV];exact hl) fun i c u hc hu=>?_;rw[dQ]at hc;obtain⟨c',hc',rfl⟩:=Option.map_eq_some_iff.1 hc;exact(h i c' u hc' hu).bD hp hS hD|aC cs us hl h _=>refine .aC _ us (by rw[cV];exact hl) fun i c u hc hu=>?_;rw[dQ]at hc;obtain⟨c',hc',rfl⟩:=Option.map_eq_some_iff.1 hc;exact(h i c' u hc' hu).bD hp hS hD|pv v p h=>exact RV.bD (x:=.pv p) (.pv v p h) hp hS hD|own s h=>exact RV.bD (x:=.own s) (.own s h) hp hS hD|ptr s o b h hb=>exact RV.bD (x:=.ptr s o) (.ptr s o b h hb) hp hS hD|aI s e i o b n c inf h hi hb=>exact RV.bD (x:=.aI s e i o) (.aI s e i o b n c inf h hi hb) hp hS hD|sub v s e lo hi inf A A1 n c h hi' hb h1 h2 h3 h4 h5 hv=>exact RV.bD (x:=.sub s e lo hi) (.sub v s e lo hi inf A A1 n c h hi' hb h1 h2 h3 h4 h5 hv) hp hS hD|rp ad cs us h1 h2 h3 h4=>exact RV.bD (x:=.rp cs) (.rp ad cs us h1 h2 h3 h4) hp hS hD|bk f cs us hl h _=>exact RV.bD (x:=.bk f cs) (.bk f cs us hl h) hp hS hD|bL g v av h hu ih=>exact .bL g v _ (fun hg=>ih hg) hu|al v=>exact .al _
theorem aW.kill {s:Nat}{o:AO} (h:aW P S w β D s o) (hp:∀b,β t≠.pointer (some ⟨b,0,none⟩)) (hS:∀b,S b→S' b∧w'.heap[b]?=w.heap[b]?) (hD:∀s,D s→s≠t→D' s∧β' s=β s) (ht:β' s=β s) (hb:∀b,bM (β s)=some b→w'.heap[b]?=w.heap[b]?):aW P S' w' β' D' s (cQ t o):=by cases o with
 |box cs=>obtain⟨b,us,ty,hpt,hh,hl,hc⟩:=h;refine⟨b,us,ty,ht.trans hpt,(hb b (by rw[hpt];rfl)).trans hh,by rw[cV];exact hl,fun i c u h1 h2=>?_⟩;rw[dQ]at h1;obtain⟨c',hc',rfl⟩:=Option.map_eq_some_iff.1 h1;exact⟨(hc i c' u hc' h2).1,(hc i c' u hc' h2).2.bD hp hS hD⟩|arr e rows=>
  obtain⟨inf,us,hi,hown,hr,hc⟩:=h;refine⟨inf,us,hi,?_,hr,fun i j r p h1 h2=>?_⟩
  ·rw[ht];refine⟨hown.1,?_⟩;rcases hown.2 with h0|⟨g,cap,cur,hv,h1,h2,h3,h4,h5,h6⟩;·exact .inl h0
   ·exact .inr ⟨g,cap,cur,hv,h1,(hb g (by rw[hv];rfl)).trans h2,h3,h4,h5,h6⟩
  ·obtain⟨u,h3,h4,h5⟩:=hc i j r p h1 h2;exact⟨u,h3,h4,h5.mono hS⟩|map es=>obtain⟨b,us,c,hp',hh,hl,hc⟩:=h;exact⟨b,us,c,ht.trans hp',(hb b (by rw[hp'];rfl)).trans hh,hl,fun i e u h1 h2=>⟨(hc i e u h1 h2).1,(hc i e u h1 h2).2.mono hS fun _ hf=>hf.elim⟩⟩|fD es=>exact aW.mono (D:=fun _=>False) (show aW P S w β (fun _=>False) s (.fD es) from h) hS (fun _ hf=>hf.elim) ht hb|lq rem cur=>exact aW.mono (D:=fun _=>False) (show aW P S w β (fun _=>False) s (.lq rem cur) from h) hS (fun _ hf=>hf.elim) ht hb|rws e cs=>
  obtain⟨inf,us,hi,h1s,hown,hc⟩:=h;refine⟨inf,us,hi,h1s,?_,fun i c u h1 h2=>?_⟩
  ·rw[ht,cV];refine⟨hown.1,?_⟩;rcases hown.2 with h0|⟨g,cap,cur,hv,h1,h2,h3,h4,h5,h6⟩;·exact .inl h0
   ·exact .inr ⟨g,cap,cur,hv,h1,(hb g (by rw[hv];rfl)).trans h2,h3,h4,h5,h6⟩
  ·rw[dQ]at h1;obtain⟨c',hc',rfl⟩:=Option.map_eq_some_iff.1 h1;exact⟨(hc i c' u hc' h2).1,(hc i c' u hc' h2).2.bD hp hS hD⟩
end
theorem gI {w:World}{b:Nat}{e:TypeId}{sz n:Nat}{v:Value}{us:List Value} (h:w.ownsRow b e sz v n us):bM v=v.ownBlock∧∀b',v≠.pointer (some ⟨b',0,none⟩):=by
 rcases h.2 with⟨rfl,_⟩|⟨g,cap,cur,rfl,_⟩;·exact⟨rfl,fun _ e=>by cases e⟩
 ·exact⟨rfl,fun _ e=>by cases e⟩
theorem mY {t s:Nat}{aa:Nat→Option AO}:aw (cF t aa) s↔aw aa s:=by
 unfold aw cF;constructor;·rintro⟨o,ho⟩;obtain⟨o',h,_⟩:=Option.map_eq_some_iff.1 ho;exact⟨o',h⟩
 ·rintro⟨o,ho⟩;exact⟨cQ t o,by rw[ho];rfl⟩
section
variable{P:Program}{S0 L:Nat→Prop}{B0:Nat→Value}{w0 w w':World}{N:Nat}{st:St}{a:Act}{β:Nat→Value}
theorem Rel.app (h:Rel P S0 L B0 w0 N st a w β) {t:Nat}{e:TypeId}{rows more:List (List PV)} (ht9:t%1000≠999) (ht:st.aa t=some (.arr e rows)) {inf:TypeInfo}{us news:List Value} (hi:P.info? e=some inf) (hown:w.ownsRow 0 e inf.size (β t) rows.length us) (hrows:∀r,r∈rows→r.length=inf.size) (hcs:∀(i j:Nat) (r:List PV) (p:PV),rows[i]?=some r→r[j]?=some p→∃u,us[i*inf.size+j]?=some u∧u.oneCell'=true∧cM (aK S0 w0.heap.size β st.aa w) w u p) (hmore:∀r,r∈more→r.length=inf.size) (hms:∀(i j:Nat) (r:List PV) (p:PV),more[i]?=some r→r[j]?=some p→∃u,news[i*inf.size+j]?=some u∧u.oneCell'=true∧cM (aK S0 w0.heap.size β st.aa w) w u p) {v':Value} (hown':w'.ownsRow 0 e inf.size v' (rows.length+more.length) (us++news)) (hg:w.grownBy w' (β t).ownBlock) (hb:v'.ownBlock=(β t).ownBlock∨v'.ownBlock=some w.heap.size):Rel P S0 L B0 w0 N ⟨bU t st.vars,aA t (.arr e (rows++more)) (cF t st.aa)⟩ a w' (dn β t v'):=by
 have hdt:aw st.aa t:=⟨_,ht⟩;have hbt:=(gI hown).1;have hbt':=(gI hown').1;have hp:=(gI hown).2;have hdom:∀s,aw (aA t (.arr e (rows++more)) (cF t st.aa)) s→aw st.aa s:=fun s hs=>by
  rcases bn.1 hs with e|e;·rw[e];exact hdt
  ·exact mY.1 e
 have hv'lt:∀b,bM v'=some b→b<w'.heap.size:=fun b hb'=>(hown'.lt b (by rw[←hbt'];exact hb')).2;have hm:∀b,aK S0 w0.heap.size β st.aa w b→aK S0 w0.heap.size (dn β t v') (aA t (.arr e (rows++more)) (cF t st.aa)) w' b∧w'.heap[b]?=w.heap[b]?:=by
  intro b ⟨h1,h2,h3⟩;have hbne:some b≠(β t).ownBlock:=fun e'=>h3 ⟨t,_,ht,by rw[hbt,←e']⟩;refine⟨⟨h1,Nat.lt_of_lt_of_le h2 hg.size,?_⟩,hg.block b h2 hbne⟩;rintro⟨s,o,hs,hbs⟩;by_cases e':s=t
  ·subst e';rw[aH,hbt']at hbs;rcases hb with hb|hb;·exact hbne (by rw[←hb,hbs])
   ·rw[hb]at hbs;injection hbs with hbs;omega
  ·rw[bZ _ _ e']at hbs;have hs':cF t st.aa s=some o:=by simpa[aA,e']using hs
   obtain⟨o',ho'⟩:=mY.1 ⟨o,hs'⟩;exact h3 ⟨s,_,ho',hbs⟩
 have hD:∀s,aw st.aa s→s≠t→aw (aA t (.arr e (rows++more)) (cF t st.aa)) s∧dn β t v' s=β s:=fun s hs hne=>⟨bn.2 (.inr (mY.2 hs)),bZ _ _ hne⟩;have hblkne:∀s,aw st.aa s→s≠t→∀b,bM (β s)=some b→w'.heap[b]?=w.heap[b]?:=fun s hs hne b hbs=>hg.block b (h.lt hs hbs) fun e'=>hne (h.heap.inj s t b hs hdt hbs (by rw[hbt,←e']));refine⟨h.size,h.defers,fun s=>(h.vars s).kill hp hm hD,⟨fun s o hs=>?_,fun s s' b hs hs' hbs hbs'=>?_⟩,fun s b hs hbs=>?_,h.oE,fun s h9 hs=>?_,?_⟩
 ·by_cases e':s=t
  ·subst e';have:o=.arr e (rows++more):=by simpa[aA]using hs.symm
   subst this;refine⟨inf,us++news,hi,?_,fun r hr=>?_,fun i j r p h1 h2=>?_⟩;·rw[aH,List.length_append];exact hown'
   ·rcases List.mem_append.1 hr with hr|hr;·exact hrows r hr
    ·exact hmore r hr
   ·by_cases hlt:i<rows.length;·rw[List.getElem?_append_left hlt]at h1;obtain⟨u,hu,h1',hr⟩:=hcs i j r p h1 h2;have hul:i*inf.size+j<us.length:=(List.getElem?_eq_some_iff.1 hu).1;exact⟨u,by rw[List.getElem?_append_left hul];exact hu,h1',hr.mono hm⟩
    ·rw[List.getElem?_append_right (by omega)]at h1;obtain⟨u,hu,h1',hr⟩:=hms (i-rows.length) j r p h1 h2;have he:i*inf.size+j-us.length=(i-rows.length)*inf.size+j:=by rw[hown.1,Nat.sub_mul];have:=Nat.mul_le_mul_right inf.size (show rows.length≤i by omega);omega
     have hle:us.length≤i*inf.size+j:=by rw[hown.1];have:=Nat.mul_le_mul_right inf.size (show rows.length≤i by omega);omega
     exact⟨u,by rw[List.getElem?_append_right hle,he];exact hu,h1',hr.mono hm⟩
  ·have hs':cF t st.aa s=some o:=by simpa[aA,e']using hs
   obtain⟨o',ho',rfl⟩:=Option.map_eq_some_iff.1 hs';exact(h.heap.holds s o' ho').kill hp hm hD (bZ _ _ e') (hblkne s ⟨_,ho'⟩ e')
 ·have hs1:=hdom s hs;have hs2:=hdom s' hs';by_cases e1:s=t<;>by_cases e2:s'=t;·rw[e1,e2]
  ·subst e1;rw[aH,hbt']at hbs;rw[bZ _ _ e2]at hbs';rcases hb with hb|hb;·exact h.heap.inj s s' b hs1 hs2 (by rw[hbt,←hb,hbs]) hbs'
   ·have:=h.lt hs2 hbs';rw[hb]at hbs;injection hbs with hbs;omega
  ·subst e2;rw[aH,hbt']at hbs';rw[bZ _ _ e1]at hbs;rcases hb with hb|hb;·exact h.heap.inj s s' b hs1 hs2 hbs (by rw[hbt,←hb,hbs'])
   ·have:=h.lt hs1 hbs;rw[hb]at hbs';injection hbs' with hbs';omega
  ·rw[bZ _ _ e1]at hbs;rw[bZ _ _ e2]at hbs';exact h.heap.inj s s' b hs1 hs2 hbs hbs'
 ·have hs1:=hdom s hs;by_cases e1:s=t
  ·subst e1;rw[aH,hbt']at hbs;rcases hb with hb|hb;·exact h.old s b hs1 (by rw[hbt,←hb,hbs])
   ·rw[hb]at hbs;injection hbs with hbs;have:=h.bJ.size;exact .inl (by omega)
  ·rw[bZ _ _ e1]at hbs;exact h.old s b hs1 hbs
 ·have hst:s≠t:=fun e=>by subst e;exact ht9 h9
  rw[bZ _ _ hst];exact h.rG s h9 (hdom s hs)
 ·refine⟨hg.os.trans h.bJ.os,hg.tape.trans h.bJ.tape,hg.output.trans h.bJ.output,Nat.le_trans h.bJ.size hg.size,fun b h1 h2=>?_⟩;refine(hg.block b (by have:=h.bJ.size;omega) fun e'=>?_).trans (h.bJ.block b h1 h2);rcases h.old t b hdt (by rw[hbt,←e']) with hx|hx;·omega
  ·exact h2 hx
end
end Go.Proofs.Ytlmkcmfmfahcfaa.Ab
