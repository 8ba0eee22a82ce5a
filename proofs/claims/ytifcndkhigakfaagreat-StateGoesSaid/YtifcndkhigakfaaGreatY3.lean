/- How the abstract machine reckons: rewrite rules. -/
import Derived.Test.YtifcndkhigakfaaGreatY2
set_option linter.unusedVariables false
set_option linter.unusedSimpArgs false
set_option linter.unnecessarySimpa false
set_option maxHeartbeats 40000000
set_option maxRecDepth 100000
set_option linter.defProp false
namespace Go.Proofs.YtifcndkhigakfaaGreat.Ab
open Go Go.RowKit
end Go.Proofs.YtifcndkhigakfaaGreat.Ab
namespace Go.Proofs.YtifcndkhigakfaaGreat.Ab.R
open Go Go.RowKit
variable {α:Type}{f:FuncId}{ys xs xs' ys':List AV}{v:AV}{e:TypeId}{rows:List (List PV)}{d:Option Nat}{T ks un:List Nat}{z:Value}{ne:Bool}{zs:List Value}{sz i id:Nat}{C:bR->Prop}{g:Option (Nat×Bool)}{A B:Prop}{is:List AI}{ps:List (Nat×Nat)}
def nr {α:Sort _}{a b:α} (h:a=b):a=b:=h
@[congr] def QD {o o':Option α}{K:α->Prop} (h:True->o=o'):aj o K=aj o' K:=by rw[h trivial]
@[congr] def Ns {P:Program}{Γ:b7}{K:St->Prop}{st st':St} (h:True->st=st'):dj P Γ is K st=dj P Γ is K st':=by rw[h trivial]
@[congr] def Ph {P:Program}{Γ:b7}{K:St->Prop}{st st':St} (h:True->st=st'):steps P Γ is K st=steps P Γ is K st':=by rw[h trivial]
@[congr] def Qx {P:Program}{Γ:b7}{i:AI}{K:St->Prop}{st st':St} (h:True->st=st'):dz P Γ i K st=dz P Γ i K st':=by rw[h trivial]
@[congr] def R4 {P:Program}{Γ:b7}{k:AK}{aa:Nat->Option AO} (hx:True->xs=xs'):bf P Γ d k xs aa C=bf P Γ d k xs' aa C:=by rw[hx trivial]
@[congr] def RL {P:Program}{Γ:b7}{c c':Bool}{k:AK}{aa:Nat->Option AO} (hc:True->c=c') (hx:True->xs=xs'):cE P Γ c d k xs aa C=cE P Γ c' d k xs' aa C:=by rw[hx trivial,hc trivial]
@[congr] def VS {P:Program}{Γ:b7}{c:AC}{K:St->Prop}{J:Exit->St->Prop}{st st':St} (h:True->st=st'):jn P Γ c K J st=jn P Γ c K J st':=by rw[h trivial]
@[simp↓] def condT :((true=true->A)/\(true=false->B))=A:=by simp
@[simp↓] def condF :((false=true->A)/\(false=false->B))=B:=by simp
@[simp↓] def Rm (x:α) (K:α->Prop):aj (some x) K=K x:=rfl
@[simp↓] def Ts (K:α->Prop):aj (none:Option α) K=False:=rfl
section
variable{P:Program}{Γ:b7}{K:St->Prop}{J:Exit->St->Prop}{vs:List (Nat×AV)}{os:List (Nat×AO)}
@[simp↓] def nY:jn P Γ .skip K J ⟨look vs,ab os⟩=K ⟨look vs,ab os⟩:=rfl
@[simp↓] def vwp_reg {bU:List Nat}:jn P Γ (.LZ is true bU) K J ⟨look vs,ab os⟩=steps P Γ is (fun st'=>K ⟨km bU st'.vars,st'.aa⟩) ⟨look vs,ab os⟩:=rfl
@[simp↓] def vwp_regX {bU:List Nat}:jn P Γ (.LZ is false bU) K J ⟨look vs,ab os⟩=dj P Γ is (fun st'=>K ⟨km bU st'.vars,st'.aa⟩) ⟨look vs,ab os⟩:=rfl
@[simp↓] def Sa:dj P Γ [] K ⟨look vs,ab os⟩=K ⟨look vs,ab os⟩:=rfl
@[simp↓] def Pj {i:AI}:dj P Γ (i::is) K ⟨look vs,ab os⟩=cn P Γ i (fun st'=>dj P Γ is K st') ⟨look vs,ab os⟩:=rfl
@[simp↓] def Re {xs:List Operand}{tg:Option Nat}:cn P Γ ⟨d,.mV,xs,g,un,tg⟩ K ⟨look vs,ab os⟩=gS P Γ d (xs.map (ev (look vs))) g K ⟨look vs,ab os⟩:=rfl
@[simp↓] def T5 {k:AK}{xs:List Operand}{tg:Option Nat}:cB P Γ ⟨d,k,xs,none,un,tg⟩ K ⟨look vs,ab os⟩=dz P Γ ⟨d,k,xs,none,un,tg⟩ K ⟨look vs,ab os⟩:=rfl
@[simp↓] def R3 {k:AK}{xs:List Operand}{s:Nat}{w:Bool}{tg:Option Nat}:cB P Γ ⟨d,k,xs,some (s,w),un,tg⟩ K ⟨look vs,ab os⟩=je (fM ((xs.map (ev (look vs))).map strip)) (NJ (bT (look vs s) w)) (dz P Γ ⟨d,k,xs,some (s,w),un,tg⟩ K ⟨look vs,ab os⟩) (K ((bR.put (.cx false .ak)).on d ⟨look vs,ab os⟩)):=rfl
@[congr] def Qi {b b' f:Bool} (h:True->b=b'):je b f A B=je b' f A B:=by rw[h trivial]
@[simp↓] def OY {f:Bool}:je false f A B=A:=rfl
@[simp↓] def Ug {f:Bool}:je true f A B=if f=true then B else A:=rfl
def Yp (P:Program) (Γ:b7) (d:Option Nat) (K:St->Prop) (st:St):FuncId×List AV->Prop|(f,ys)=>gz P f=true/\fI P Γ d f ys (ew Γ f) K st
@[simp↓] def Ur :gS P Γ d xs none K ⟨look vs,ab os⟩=(aw xs/\aj (mD (xs.map strip)) (Yp P Γ d K ⟨look vs,ab os⟩)):=rfl
@[simp↓] def cloK_mk :Yp P Γ d K ⟨look vs,ab os⟩ (f,ys)=(gz P f=true/\fI P Γ d f ys (ew Γ f) K ⟨look vs,ab os⟩):=rfl
@[simp↓] def Px :fI P Γ d f ys none K ⟨look vs,ab os⟩=cS P Γ d f ys (ab os) fun e=>K (e.on d ⟨look vs,ab os⟩):=rfl
@[simp↓] def Po {p k:Nat}:fI P Γ d f ys (some (p,k)) K ⟨look vs,ab os⟩=if k=996 then stepG Γ d f ys (jO Γ f) K ⟨look vs,ab os⟩ else False:=rfl
@[congr] def Nw {o o':Option (Nat×Nat)}{st:St} (h1:True->ys=ys') (h:True->o=o'):fI P Γ d f ys o K st=fI P Γ d f ys' o' K st:=by rw[h1 trivial,h trivial]
@[simp↓] def QO {s:Nat}{w:Bool}:gS P Γ d xs (some (s,w)) K ⟨look vs,ab os⟩=je (fM (xs.map strip)) (NJ (bT (look vs s) w)) (tu P Γ d xs s w K ⟨look vs,ab os⟩) (K ((bR.put (.cx false .ak)).on d ⟨look vs,ab os⟩)):=rfl
def aaW (P:Program) (Γ:b7) (d:Option Nat) (A:Prop) (c:Bool) (K:St->Prop) (st:St):FuncId×List AV->Prop|(f,ys)=>gz P f=true/\jr P Γ d f ys A c (ew Γ f) K st
@[simp↓] def cloG_mk {c:Bool}:aaW P Γ d A c K ⟨look vs,ab os⟩ (f,ys)=(gz P f=true/\jr P Γ d f ys A c (ew Γ f) K ⟨look vs,ab os⟩):=rfl
@[simp↓] def VC {s:Nat}{w:Bool}:tu P Γ d xs s w K ⟨look vs,ab os⟩=aj (bT (look vs s) w) fun c=>aj (mD (xs.map strip)) (aaW P Γ d (aw xs) c K ⟨look vs,ab os⟩):=rfl
@[simp↓] def Mz {c:Bool}:jr P Γ d f ys A c none K ⟨look vs,ab os⟩=DR Γ c f ys (ab os) fun e=>(c=true->A)/\K (e.on d ⟨look vs,ab os⟩):=rfl
@[simp↓] def Mx {c:Bool}{p k:Nat}:jr P Γ d f ys A c (some (p,k)) K ⟨look vs,ab os⟩=if k=996 then(if c=true then A/\stepG Γ d f ys (jO Γ f) K ⟨look vs,ab os⟩ else K ((bR.put (.cx false .ak)).on d ⟨look vs,ab os⟩)) else False:=rfl
@[congr] def LX {c:Bool}{o o':Option (Nat×Nat)}{st:St} (h1:True->ys=ys') (h:True->o=o'):jr P Γ d f ys A c o K st=jr P Γ d f ys' A c o' K st:=by rw[h1 trivial,h trivial]
@[simp] def Vf {caps args:List AV}:mD (.bI f caps::args)=some (f,args++caps):=nr rfl
@[simp↓] def UQ {xs:List Operand}{tg:Option Nat}:cn P Γ ⟨d,.qE,xs,g,un,tg⟩ K ⟨look vs,ab os⟩=cB P Γ ⟨d,.qE,xs,g,un,tg⟩ K ⟨look vs,ab os⟩:=rfl
@[simp↓] def Q8 {xs:List Operand}{tg:Option Nat}:cn P Γ ⟨d,.pick,xs,g,un,tg⟩ K ⟨look vs,ab os⟩=cB P Γ ⟨d,.pick,xs,g,un,tg⟩ K ⟨look vs,ab os⟩:=rfl
@[simp↓] def UW {xs:List Operand}{tg:Option Nat}{op:BinOp}:cn P Γ ⟨d,.bin op,xs,g,un,tg⟩ K ⟨look vs,ab os⟩=cB P Γ ⟨d,.bin op,xs,g,un,tg⟩ K ⟨look vs,ab os⟩:=rfl
@[simp↓] def X7 {xs:List Operand}{tg:Option Nat}:cn P Γ ⟨d,.beq ne,xs,g,un,tg⟩ K ⟨look vs,ab os⟩=cB P Γ ⟨d,.beq ne,xs,g,un,tg⟩ K ⟨look vs,ab os⟩:=rfl
@[simp↓] def Wy {xs:List Operand}{tg:Option Nat}:cn P Γ ⟨d,.not,xs,g,un,tg⟩ K ⟨look vs,ab os⟩=cB P Γ ⟨d,.not,xs,g,un,tg⟩ K ⟨look vs,ab os⟩:=rfl
@[simp↓] def Uv {xs:List Operand}{tg:Option Nat}:cn P Γ ⟨d,.neg,xs,g,un,tg⟩ K ⟨look vs,ab os⟩=cB P Γ ⟨d,.neg,xs,g,un,tg⟩ K ⟨look vs,ab os⟩:=rfl
@[simp↓] def Xf {xs:List Operand}{tg:Option Nat}{k:IntKind}:cn P Γ ⟨d,.DY k,xs,g,un,tg⟩ K ⟨look vs,ab os⟩=cB P Γ ⟨d,.DY k,xs,g,un,tg⟩ K ⟨look vs,ab os⟩:=rfl
@[simp↓] def UL {xs:List Operand}{tg:Option Nat}:cn P Γ ⟨d,.Gb,xs,g,un,tg⟩ K ⟨look vs,ab os⟩=cB P Γ ⟨d,.Gb,xs,g,un,tg⟩ K ⟨look vs,ab os⟩:=rfl
@[simp↓] def Ww {xs:List Operand}{tg:Option Nat}:cn P Γ ⟨d,.len,xs,g,un,tg⟩ K ⟨look vs,ab os⟩=cB P Γ ⟨d,.len,xs,g,un,tg⟩ K ⟨look vs,ab os⟩:=rfl
@[simp↓] def QX {xs:List Operand}{tg:Option Nat}:cn P Γ ⟨d,.yb,xs,g,un,tg⟩ K ⟨look vs,ab os⟩=cB P Γ ⟨d,.yb,xs,g,un,tg⟩ K ⟨look vs,ab os⟩:=rfl
@[simp↓] def TL {xs:List Operand}{tg:Option Nat}:cn P Γ ⟨d,.yC,xs,g,un,tg⟩ K ⟨look vs,ab os⟩=cB P Γ ⟨d,.yC,xs,g,un,tg⟩ K ⟨look vs,ab os⟩:=rfl
@[simp↓] def V1 {xs:List Operand}{tg:Option Nat}{lo hi:Bool}:cn P Γ ⟨d,.L9 lo hi,xs,g,un,tg⟩ K ⟨look vs,ab os⟩=cB P Γ ⟨d,.L9 lo hi,xs,g,un,tg⟩ K ⟨look vs,ab os⟩:=rfl
@[simp↓] def XS {xs:List Operand}{tg:Option Nat}{o:Nat}{n:Option Nat}:cn P Γ ⟨d,.Ja o n,xs,g,un,tg⟩ K ⟨look vs,ab os⟩=cB P Γ ⟨d,.Ja o n,xs,g,un,tg⟩ K ⟨look vs,ab os⟩:=rfl
@[simp↓] def XG {xs:List Operand}{tg:Option Nat}{o:Nat}:cn P Γ ⟨d,.uV o,xs,g,un,tg⟩ K ⟨look vs,ab os⟩=cB P Γ ⟨d,.uV o,xs,g,un,tg⟩ K ⟨look vs,ab os⟩:=rfl
@[simp↓] def Un {xs:List Operand}{tg:Option Nat}{n:Option Nat}:cn P Γ ⟨d,.load n,xs,g,un,tg⟩ K ⟨look vs,ab os⟩=cB P Γ ⟨d,.load n,xs,g,un,tg⟩ K ⟨look vs,ab os⟩:=rfl
@[simp↓] def UY {xs:List Operand}{tg:Option Nat}{s:Nat}:cn P Γ ⟨d,.Gi e s,xs,g,un,tg⟩ K ⟨look vs,ab os⟩=cB P Γ ⟨d,.Gi e s,xs,g,un,tg⟩ K ⟨look vs,ab os⟩:=rfl
@[simp↓] def UU {xs:List Operand}{tg:Option Nat}{e s:Nat}:cn P Γ ⟨d,.IV e s,xs,g,un,tg⟩ K ⟨look vs,ab os⟩=cB P Γ ⟨d,.IV e s,xs,g,un,tg⟩ K ⟨look vs,ab os⟩:=rfl
@[simp↓] def Vo {xs:List Operand}{tg:Option Nat}:cn P Γ ⟨d,.HD,xs,g,un,tg⟩ K ⟨look vs,ab os⟩=cB P Γ ⟨d,.HD,xs,g,un,tg⟩ K ⟨look vs,ab os⟩:=rfl
@[simp↓] def Xs {xs:List Operand}{tg:Option Nat}{s:Nat}{lo hi:Bool}:cn P Γ ⟨d,.Fh s lo hi,xs,g,un,tg⟩ K ⟨look vs,ab os⟩=cB P Γ ⟨d,.Fh s lo hi,xs,g,un,tg⟩ K ⟨look vs,ab os⟩:=rfl
@[simp↓] def VV {xs:List Operand}{tg:Option Nat}:cn P Γ ⟨d,.ext i,xs,g,un,tg⟩ K ⟨look vs,ab os⟩=cB P Γ ⟨d,.ext i,xs,g,un,tg⟩ K ⟨look vs,ab os⟩:=rfl
@[simp↓] def WE {xs:List Operand}{tg:Option Nat}:cn P Γ ⟨d,.L0 zs ps,xs,g,un,tg⟩ K ⟨look vs,ab os⟩=cB P Γ ⟨d,.L0 zs ps,xs,g,un,tg⟩ K ⟨look vs,ab os⟩:=rfl
@[simp↓] def Xw {xs:List Operand}{tg:Option Nat}:cn P Γ ⟨d,.LR f,xs,g,un,tg⟩ K ⟨look vs,ab os⟩=cB P Γ ⟨d,.LR f,xs,g,un,tg⟩ K ⟨look vs,ab os⟩:=rfl
@[simp↓] def SF {d:Nat}{xs:List Operand}{tg:Option Nat}:cn P Γ ⟨some d,.iU e,xs,g,un,tg⟩ K ⟨look vs,ab os⟩=dz P Γ ⟨some d,.iU e,xs,g,un,tg⟩ K (xo d ⟨look vs,ab os⟩):=rfl
@[simp↓] def Ya {xs:List Operand}{tg:Option Nat}:cn P Γ ⟨d,.box,xs,g,un,tg⟩ K ⟨look vs,ab os⟩=cB P Γ ⟨d,.box,xs,g,un,tg⟩ K ⟨look vs,ab os⟩:=rfl
@[simp↓] def OE {xs:List Operand}{tg:Option Nat}:cn P Γ ⟨d,.alloc zs,xs,g,un,tg⟩ K ⟨look vs,ab os⟩=cB P Γ ⟨d,.alloc zs,xs,g,un,tg⟩ K ⟨look vs,ab os⟩:=rfl
@[congr] def P0 {i:AI}{st st':St} (h:True->st=st'):cB P Γ i K st=cB P Γ i K st':=by rw[h trivial]
@[simp↓] def VD {xs:List Operand}{tg:Option Nat}{s:Nat}:cn P Γ ⟨d,.uF e s,xs,g,un,tg⟩ K ⟨look vs,ab os⟩=cB P Γ ⟨d,.uF e s,xs,g,un,tg⟩ K (cU ⟨look vs,ab os⟩ ((xs.map (ev (look vs))).map strip)):=rfl
@[simp↓] def P5 {xs:List Operand}{s:Nat}{w:Bool}{tg:Option Nat}:cn P Γ ⟨d,.call f,xs,some (s,w),un,tg⟩ K ⟨look vs,ab os⟩=nc P Γ ⟨d,.call f,xs,some (s,w),un,tg⟩ f s w (ew Γ f) K ⟨look vs,ab os⟩:=rfl
@[congr] def Mv {i:AI}{s:Nat}{w:Bool}{o o':Option (Nat×Nat)}{st:St} (h:True->o=o'):nc P Γ i f s w o K st=nc P Γ i f s w o' K st:=by rw[h trivial]
@[simp↓] def Ow {xs:List Operand}{s s':Nat}{w w':Bool}{tg:Option Nat}:nc P Γ ⟨d,.call f,xs,some (s',w'),un,tg⟩ f s w none K ⟨look vs,ab os⟩=je (fM ((xs.map (ev (look vs))).map strip)) (NJ (bT (look vs s) w)) (aj (bT (look vs s) w) fun c=>aj (gB (ab os) ((xs.map (ev (look vs))).map strip)) fun ys=>aj (gt Γ f ys) fun x=>if frR x.2=true then(if c=true then nM P Γ ⟨d,.call f,xs,none,[],none⟩ f K ⟨look vs,ab os⟩ else K ((bR.put (.cx false .ak)).on d ⟨look vs,ab os⟩)) else dz P Γ ⟨d,.call f,xs,some (s',w'),un,tg⟩ K ⟨look vs,ab os⟩) (K ((bR.put (.cx false .ak)).on d ⟨look vs,ab os⟩)):=rfl
@[simp↓] def PD {xs:List Operand}{s s' p k:Nat}{w w':Bool}{tg:Option Nat}:nc P Γ ⟨d,.call f,xs,some (s',w'),un,tg⟩ f s w (some (p,k)) K ⟨look vs,ab os⟩=if k=996 then aj (bT (look vs s) w) fun c=>if c=true then stepG Γ d f (xs.map (ev (look vs))) (jO Γ f) K ⟨look vs,ab os⟩ else K ((bR.put (.cx false .ak)).on d ⟨look vs,ab os⟩) else False:=rfl
@[simp↓] def T2 {xs:List Operand}{tg:Option Nat}:cn P Γ ⟨d,.call f,xs,none,un,tg⟩ K ⟨look vs,ab os⟩=iS P Γ ⟨d,.call f,xs,none,un,tg⟩ f (ew Γ f) K ⟨look vs,ab os⟩:=rfl
@[congr] def N5 {i:AI}{o o':Option (Nat×Nat)}{st:St} (h:True->o=o'):iS P Γ i f o K st=iS P Γ i f o' K st:=by rw[h trivial]
@[simp↓] def Pe {i:AI}{st:St}:iS P Γ i f none K st=nM P Γ i f K st:=rfl
@[simp↓] def O9 {f g:FuncId}{p k:Nat}{xs:List Operand}{tg:Option Nat}:iS P Γ ⟨d,.call g,xs,none,un,tg⟩ f (some (p,k)) K ⟨look vs,ab os⟩=if k=997 then CN P Γ d f (xs.map (ev (look vs))) p K ⟨look vs,ab os⟩ else if k=996 then stepG Γ d f (xs.map (ev (look vs))) (jO Γ f) K ⟨look vs,ab os⟩ else my P Γ d f (xs.map (ev (look vs))) p k K ⟨look vs,ab os⟩:=rfl
@[simp↓] def stepN_eq {d:Nat}{p:Nat}:CN P Γ (some d) f xs p K ⟨look vs,ab os⟩=(aw xs/\aj (uh (ab os) p (xs.map strip)) fun ys=>aj (Γ (f+1000000) ys) fun x=>x.1/\(fB (xs.map strip)=true\/flat x.2)/\(∀y∈aU d x.2,ab os y.1=none)/\dv x.2=true/\K ⟨put (some d) (dn (mX d) x.2) (look vs),bK (aU d x.2) (ab os)⟩):=rfl
@[simp] def reisN_0 (aa:Nat->Option AO) (vs:List AV):uh aa 0 (.pv .nil::vs)=(gB aa vs).map (.pv .nil::·):=nr rfl
@[simp] def Y1 :ew Γ f=(Γ (f+1000000) [.ak]).bind fun x=>Gh x.2:=nr rfl
@[simp] def US {p k:Nat}:Gh (.ptr p k)=if k=998\/k=999\/k=997\/k=996 then some (p,k) else none:=nr rfl
@[simp↓] def stepU_eq {d:Nat}{p k:Nat}:my P Γ (some d) f xs p k K ⟨look vs,ab os⟩=(aw xs/\aj ((xs.map strip)[p]?) fun X=>aj (hZ (ab os) k X) fun T=>m5 T.1 p (xs.map strip)/\aj (ud (lq T.1 (ab os)) (yO k T.2.1 T.2.2) p (xs.map strip)) fun ys=>aj (Γ (f+1000000) ys) fun x=>x.1/\(kF p (xs.map strip)=true\/(flat (cj x.2)/\rG (eS x.2)))/\(∀y∈aU d (cj x.2),ab os y.1=none)/\dv (cj x.2)=true/\K ⟨put (some d) (dn (mX d) (cj x.2)) (jd T.1 x.2 (look vs)),bK (aU d (cj x.2)) (cZ T.1 x.2 (ab os))⟩):=rfl
@[simp] def isPu:XK->Bool|.XF _=>true|.mkm|.Kk _|.G2 _ _ _|.dead|.yQ _|.B7|.Li|.IA _ _ _ _|.Sv _|.WZ _ _ _|.mark|.rst|.YT|.mkv|.IS _ _ _|.pj _ _|.dlv _|.aaY _|.rng|.nxt|.ent=>false
def AE (d:Option Nat) (x:XK) (xs:List Operand) (K:St->Prop) (st:St):Prop:=bH d x (xs.map (ev st.vars)) K st
def EY:Bool->Prop->Prop->Prop|true,_,B=>B|false,A,_=>A
@[simp↓] def PF :EY true A B=B:=rfl
@[simp↓] def Mn :EY false A B=A:=rfl
@[simp↓] def aaq {xs:List Operand}{tg:Option Nat}{x:XK}:cn P Γ ⟨d,.ex x,xs,none,un,tg⟩ K ⟨look vs,ab os⟩=EY (isPu x) (bH d x (xs.map (ev (look vs))) K ⟨look vs,ab os⟩) (AE d x xs K (cU ⟨look vs,ab os⟩ ((xs.map (ev (look vs))).map strip))):=by cases x<;>rfl
@[congr] def MB {x:XK}{xs:List Operand}{st st':St} (h:True->st=st'):AE d x xs K st=AE d x xs K st':=by rw[h trivial]
@[simp↓] def XA {x:XK}{xs:List Operand}:AE d x xs K ⟨look vs,ab os⟩=bH d x (xs.map (ev (look vs))) K ⟨look vs,ab os⟩:=rfl
@[simp↓] def Vl {xs:List Operand}{s:Nat}{w:Bool}{tg:Option Nat}{x:XK}:cn P Γ ⟨d,.ex x,xs,some (s,w),un,tg⟩ K ⟨look vs,ab os⟩=aj (bT (look vs s) w) fun c=>if c=true then bH d x (xs.map (ev (look vs))) K ⟨look vs,ab os⟩ else K ((bR.put (.cx false .ak)).on d ⟨look vs,ab os⟩):=rfl
@[congr] def MM {x:XK}{st:St} (h:True->xs=xs'):bH d x xs K st=bH d x xs' K st:=by rw[h trivial]
@[simp↓] def S4 {d:Nat}:bH (some d) .mkm [] K ⟨look vs,ab os⟩=(ab os d=none/\K ⟨put (some d) (.own d) (look vs),bK [(d,.map [])] (ab os)⟩):=rfl
@[simp↓] def O8 {s t:Nat}{k v:AV}:bH d (.Kk s) [.own t,k,v] K ⟨look vs,ab os⟩=Ci d s t (strip k) (strip v) [.own t,k,v] K ⟨look vs,ab os⟩:=by cases hk:strip k<;>simp[bH,tm,Ci,hk,strip]
@[simp↓] def abo {s t:Nat}{k:PV}:Ci d s t (.pv k) v xs K ⟨look vs,ab os⟩=(aw xs/\aj (BA (ab os t)) fun es=>dP k=s/\gW s es/\eL v=true/\K ⟨put d .ak (look vs),ba t (.map (j7 k v es)) (ab os)⟩):=rfl
@[congr] def Pc {s t:Nat}{k k' v v':AV}{st:St} (h1:True->k=k') (h2:True->v=v') (h3:True->xs=xs'):Ci d s t k v xs K st=Ci d s t k' v' xs' K st:=by rw[h1 trivial,h2 trivial,h3 trivial]
@[simp↓] def Qk {s t:Nat}{ok:Bool}{k:AV}:bH d (.G2 s z ok) [.own t,k] K ⟨look vs,ab os⟩=Di d s t z ok (strip k) [.own t,k] K ⟨look vs,ab os⟩:=by cases hk:strip k<;>simp[bH,tm,Di,hk,strip]
@[simp↓] def exGet_eq {s t:Nat}{ok:Bool}{k:PV}:Di d s t z ok (.pv k) xs K ⟨look vs,ab os⟩=(aw xs/\aj (BA (ab os t)) fun es=>dP k=s/\gW s es/\K ⟨put d (if ok=true then .aN [(getM k es).getD (IY z),.pv (.bool (getM k es).isSome)] else(getM k es).getD (IY z)) (look vs),ab os⟩):=rfl
@[congr] def Pp {s t:Nat}{ok:Bool}{k k':AV}{st:St} (h1:True->k=k') (h3:True->xs=xs'):Di d s t z ok k xs K st=Di d s t z ok k' xs' K st:=by rw[h1 trivial,h3 trivial]
@[simp↓] def Mg {s:Nat}{ks:List PV}{ok:Bool}{k:AV}:bH d (.G2 s z ok) [.pv (.mp ks),k] K ⟨look vs,ab os⟩=wz d s ks z ok (strip k) [.pv (.mp ks),k] K ⟨look vs,ab os⟩:=by cases hk:strip k<;>simp[bH,tm,wz,hk,strip]
@[simp↓] def XO {s:Nat}{ks:List PV}{ok:Bool}{k:PV}:wz d s ks z ok (.pv k) xs K ⟨look vs,ab os⟩=(aw xs/\yS z=true/\dP k=s/\(∀x∈ks,dP x=s)/\K ⟨put d (if ok=true then .aN [.agg [],.pv (.bool (ks.any (oH k)))] else .agg []) (look vs),ab os⟩):=rfl
@[congr] def Oa {s:Nat}{ks:List PV}{ok:Bool}{k k':AV}{st:St} (h1:True->k=k') (h3:True->xs=xs'):wz d s ks z ok k xs K st=wz d s ks z ok k' xs' K st:=by rw[h1 trivial,h3 trivial]
@[simp↓] def Ob {a b c:AV}:bH d .B7 [a,b,c] K ⟨look vs,ab os⟩=tX d [a,b,c] [strip a,strip b,strip c] K ⟨look vs,ab os⟩:=rfl
@[congr] def P6 {st:St} (h1:True->xs=xs') (h2:True->ys=ys'):tX d xs ys K st=tX d xs' ys' K st:=by rw[h1 trivial,h2 trivial]
@[simp↓] def exAdd_eq {a b c:Int}:tX d xs [.pv (.int .u64 a),.pv (.int .u64 b),.pv (.int .u64 c)] K ⟨look vs,ab os⟩=(aw xs/\(0<=a/\0<=b/\0<=c/\c<=1)/\K ⟨put d (.aN [.pv (.int .u64 ((a+b+c)%18446744073709551616)),.pv (.int .u64 ((a+b+c)/18446744073709551616))]) (look vs),ab os⟩):=rfl
@[simp↓] def O1 {x:AV}:bH d .Li [x] K ⟨look vs,ab os⟩=nf d (strip x) [x] K ⟨look vs,ab os⟩:=by cases hk:strip x<;>simp[bH,tm,nf,hk];rename_i p;cases p<;>simp
@[simp↓] def Ru :nf d (.pv .nil) xs K ⟨look vs,ab os⟩=(aw xs/\K ⟨put d (.pv (.int .i64 0)) (look vs),ab os⟩):=rfl
@[congr] def NK {x x':AV}{st:St} (h1:True->x=x') (h2:True->xs=xs'):nf d x xs K st=nf d x' xs' K st:=by rw[h1 trivial,h2 trivial]
@[simp↓] def Tn {b:Nat}{x y:AV}:bH d (.WZ e b zs) [x,y] K ⟨look vs,ab os⟩=tB d e b zs [x,y] [strip x,strip y] K ⟨look vs,ab os⟩:=rfl
@[congr] def O6 {b:Nat}{st:St} (h1:True->xs=xs') (h2:True->ys=ys'):tB d e b zs xs ys K st=tB d e b zs xs' ys' K st:=by rw[h1 trivial,h2 trivial]
@[simp↓] def aaE {d:Nat}{b:Nat}{k k':IntKind}{n c:Int}:tB (some d) e b zs xs [.pv (.int k n),.pv (.int k' c)] K ⟨look vs,ab os⟩=(aw xs/\(c=n/\0<=n/\n<=140737488355328/\n.toNat*b<=140737488355328)/\ab os d=none/\K ⟨put (some d) (.own d) (look vs),bK [(d,.arr e (List.replicate n.toNat (zs.map si)))] (ab os)⟩):=nr rfl
@[simp↓] def O7 :bH d (.pj e sz) xs K ⟨look vs,ab os⟩=sR d e sz xs (xs.map strip) K ⟨look vs,ab os⟩:=rfl
@[simp↓] def Ye {d:Nat}:sR (some d) e sz xs ys K ⟨look vs,ab os⟩=(aw xs/\aj (rowsOf ys) fun rows=>(∀r∈rows,r.length=sz)/\ab os d=none/\K ⟨put (some d) (.own d) (look vs),bK [(d,.arr e rows)] (ab os)⟩):=nr rfl
@[simp↓] def PN {sz b:Nat}{x y:AV}:bH d (.IA e sz b zs) [x,y] K ⟨look vs,ab os⟩=nu d e b zs [x,y] [strip x,strip y] K ⟨look vs,ab os⟩:=rfl
@[congr] def ND {b:Nat}{st:St} (h1:True->xs=xs') (h2:True->ys=ys'):nu d e b zs xs ys K st=nu d e b zs xs' ys' K st:=by rw[h1 trivial,h2 trivial]
@[simp↓] def U6 {d:Nat}{b:Nat}{n:Int}:nu (some d) e b zs xs [.pv .nil,.pv (.int .i64 n)] K ⟨look vs,ab os⟩=(aw xs/\(0<=n/\n<=140737488355328/\n.toNat*b<=140737488355328)/\ab os d=none/\K ⟨put (some d) (.own d) (look vs),bK [(d,.arr e (List.replicate n.toNat (zs.map si)))] (ab os)⟩):=rfl
@[simp↓] def MX {x:AV}:bH d (.yQ ne) [x] K ⟨look vs,ab os⟩=(aw [x]/\aj (gr (ab os) (strip x)) fun rows=>Ky d ne rows K ⟨look vs,ab os⟩):=rfl
def kP :Ky d ne rows K ⟨look vs,ab os⟩=∀b:Bool,(rows≠[]->b=false)->K ⟨put d (.pv (.bool (if ne=true then !b else b))) (look vs),ab os⟩:=rfl
@[simp↓] def TX {r:List PV}:Ky d ne (r::rows) K ⟨look vs,ab os⟩=K ⟨put d (.pv (.bool ne)) (look vs),ab os⟩:=by
 rw[kP];apply propext;constructor;·intro h;have:=h false (fun _=>rfl);cases ne<;>exact this
 ·intro h b hb;have:=hb (by simp);subst this;cases ne<;>exact h
@[simp] def VW (es:List (PV×AV)):BA (some (.map es))=some es:=nr rfl
@[simp] def srt_int (k:IntKind) (n:Int):dP (.int k n)=2+pq k:=nr rfl
@[simp] def srt_str (l:List UInt8):dP (.str l)=1:=nr rfl
@[simp] def srt_bool (b:Bool):dP (.bool b)=0:=nr rfl
@[simp] def aa1:pq .u64=7:=nr rfl
@[simp] def kIdx_u8:pq .u8=4:=nr rfl
@[simp] def Q6 (s:Nat):gW s []=True:=by simp[gW]
@[simp] def avZ_agg (cs:Array Value):IY (.agg cs)=.agg (cs.toList.map cv):=nr rfl
@[simp↓] def Xp {xs:List Operand}{tg:Option Nat}{s:Nat}:cn P Γ ⟨d,.LA e s zs,xs,none,un,tg⟩ K ⟨look vs,ab os⟩=rl d e s zs (xs.map (ev (look vs))) K ⟨look vs,ab os⟩:=rfl
@[simp↓] def Tb {s:Nat}:rl d e s zs xs K ⟨look vs,ab os⟩=(aw xs/\aj ((xs.map strip).head?) fun X=>aj (D5 (ab os) e zs X) fun r=>K ((bR.yT r.1 r.2).on d ⟨look vs,ab os⟩)):=rfl
@[simp↓] def stepF_eq {f g:FuncId}{xs:List Operand}{tg:Option Nat}:nM P Γ ⟨d,.call g,xs,none,un,tg⟩ f K ⟨look vs,ab os⟩=aj (gB (ab os) ((xs.map (ev (look vs))).map strip)) fun ys=>aj (gt Γ f ys) fun x=>if(Zy x.2&&!fB ((xs.map (ev (look vs))).map strip))=true then CC P Γ d f xs K (cU ⟨look vs,ab os⟩ ((xs.map (ev (look vs))).map strip)) else dz P Γ ⟨d,.call g,xs,none,un,tg⟩ K ⟨look vs,ab os⟩:=rfl
@[congr] def OA {xs:List Operand}{st st':St} (h:True->st=st'):CC P Γ d f xs K st=CC P Γ d f xs K st':=by rw[h trivial]
@[simp↓] def YL {xs:List Operand}:CC P Γ d f xs K ⟨look vs,ab os⟩=cS P Γ d f (xs.map (ev (look vs))) (ab os) fun e=>K (e.on d ⟨look vs,ab os⟩):=rfl
@[simp↓] def VP {xs:List Operand}{tg:Option Nat}{b:Bool}:cn P Γ ⟨d,.IW b,xs,g,un,tg⟩ K ⟨look vs,ab os⟩=cB P Γ ⟨d,.IW b,xs,g,un,tg⟩ K ⟨look vs,ab os⟩:=rfl
@[simp↓] def Ws {xs:List Operand}{tg:Option Nat}:cn P Γ ⟨d,.eqs ne ks,xs,g,un,tg⟩ K ⟨look vs,ab os⟩=cB P Γ ⟨d,.eqs ne ks,xs,g,un,tg⟩ K ⟨look vs,ab os⟩:=rfl
@[simp↓] def P9 {xs:List Operand}{tg:Option Nat}{n:Option Nat}:cn P Γ ⟨d,.store n,xs,g,un,tg⟩ K ⟨look vs,ab os⟩=cB P Γ ⟨d,.store n,xs,g,un,tg⟩ K ⟨look vs,ab os⟩:=rfl
@[simp↓] def X3 {xs:List Operand}{s b:Nat}:cn P Γ ⟨d,.app e s b,xs,g,un,none⟩ K ⟨look vs,ab os⟩=cB P Γ ⟨d,.app e s b,xs,g,un,none⟩ K ⟨look vs,ab os⟩:=rfl
@[simp↓] def UP {xs:List Operand}{s b:Nat}:cn P Γ ⟨d,.app e s b,xs,none,un,some 999998⟩ K ⟨look vs,ab os⟩=if rN ((xs.map (ev (look vs))).map strip)=true then Az d e s b (xs.map (ev (look vs))) K ⟨look vs,ab os⟩ else dz P Γ ⟨d,.app e s b,xs,none,un,some 999998⟩ K ⟨look vs,ab os⟩:=rfl
@[simp↓] def QQ {sz b:Nat}:Az d e sz b xs K ⟨look vs,ab os⟩=(aw xs/\aj (Kr (ab os) e (xs.map strip)) fun r=>((r.2.1.length+r.2.2.length)*b<=140737488355328/\r.2.1.length+r.2.2.length<=maxLen/\(∀q∈r.2.2,q.length=sz))/\r.1%1000≠999/\K ⟨put d (.pv (.ro (r.2.1++r.2.2))) (EW r.1 r.2.1 (look vs)),lq r.1 (ab os)⟩):=rfl
@[simp↓] def Ti {xs:List Operand}{tg:Option Nat}:cn P Γ ⟨d,.uD,xs,g,un,tg⟩ K ⟨look vs,ab os⟩=cB P Γ ⟨d,.uD,xs,g,un,tg⟩ K ⟨look vs,ab os⟩:=rfl
@[simp↓] def Te {xs:List Operand}{tg:Option Nat}:cn P Γ ⟨d,.qP e,xs,g,un,tg⟩ K ⟨look vs,ab os⟩=cB P Γ ⟨d,.qP e,xs,g,un,tg⟩ K ⟨look vs,ab os⟩:=rfl
@[simp↓] def bh {a b:AC}:jn P Γ (.seq a b) K J ⟨look vs,ab os⟩=jn P Γ a (fun st'=>jn P Γ b K J st') J ⟨look vs,ab os⟩:=rfl
@[simp↓] def BZ {x:Operand}{a b:AC}:jn P Γ (.cond x a b) K J ⟨look vs,ab os⟩=aj (jX (ev (look vs) x)) fun c=>(c=true->jn P Γ a K J ⟨look vs,ab os⟩)/\(c=false->jn P Γ b K J ⟨look vs,ab os⟩):=rfl
@[simp↓] def aR {a:AC}:jn P Γ (.block id a) K J ⟨look vs,ab os⟩=jn P Γ a K (qH id K J) ⟨look vs,ab os⟩:=rfl
@[simp↓] def Sd {id id':Nat}:qH id K J (.exit id') ⟨look vs,ab os⟩=if id'=id then K ⟨look vs,ab os⟩ else J (.exit id') ⟨look vs,ab os⟩:=rfl
@[simp↓] def V4 :qH id K J .ret ⟨look vs,ab os⟩=J .ret ⟨look vs,ab os⟩:=rfl
@[simp↓] def Ld :jn P Γ (.exit id) K J ⟨look vs,ab os⟩=J (.exit id) ⟨look vs,ab os⟩:=rfl
@[simp↓] def vwp_ret:jn P Γ .ret K J ⟨look vs,ab os⟩=J .ret ⟨look vs,ab os⟩:=rfl
@[simp↓] def Xj:steps P Γ [] K ⟨look vs,ab os⟩=K ⟨look vs,ab os⟩:=rfl
@[simp↓] def S9 {i:AI}:steps P Γ (i::is) K ⟨look vs,ab os⟩=cY P Γ i (fun st'=>steps P Γ is K st') ⟨look vs,ab os⟩:=rfl
@[simp↓] def Ub {k:AK}{xs:List Operand}:cY P Γ ⟨d,k,xs,g,un,none⟩ K ⟨look vs,ab os⟩=dz P Γ ⟨d,k,xs,g,un,none⟩ K ⟨look vs,ab os⟩:=by cases k<;>rfl
@[simp↓] def OT {n:Option Nat}{xs:List Operand}{tg:Option Nat}:cY P Γ ⟨d,.store n,xs,g,un,tg⟩ K ⟨look vs,ab os⟩=dz P Γ ⟨d,.store n,xs,g,un,tg⟩ K ⟨look vs,ab os⟩:=rfl
@[simp↓] def R5 {xs:List Operand}:cY P Γ ⟨d,.call f,xs,none,un,some 999999⟩ K ⟨look vs,ab os⟩=jc P Γ ⟨d,.call f,xs,none,un,some 999999⟩ f (ew Γ f) K ⟨look vs,ab os⟩:=rfl
@[simp↓] def Um {xs:List Operand}:cY P Γ ⟨d,.mV,xs,none,un,some 999999⟩ K ⟨look vs,ab os⟩=gS P Γ d (xs.map (ev (look vs))) none K ⟨look vs,ab os⟩:=rfl
@[congr] def Qr {i:AI}{o o':Option (Nat×Nat)}{st:St} (h:True->o=o'):jc P Γ i f o K st=jc P Γ i f o' K st:=by rw[h trivial]
@[simp↓] def SO {f g:FuncId}{xs:List Operand}{tg:Option Nat}:jc P Γ ⟨d,.call g,xs,none,un,tg⟩ f none K ⟨look vs,ab os⟩=dz P Γ ⟨d,.call g,xs,none,[],none⟩ K ⟨look vs,ab os⟩:=rfl
@[simp↓] def Tv {f g:FuncId}{p k:Nat}{xs:List Operand}{tg:Option Nat}:jc P Γ ⟨d,.call g,xs,none,un,tg⟩ f (some (p,k)) K ⟨look vs,ab os⟩=if k=998 then un=[]/\my P Γ d f (xs.map (ev (look vs))) p k K ⟨look vs,ab os⟩ else if k=996 then pw (F7 (jO Γ f) (ab os) ((xs.map (ev (look vs))).map strip)) ⟨look vs,ab os⟩ un/\stepG Γ d f (xs.map (ev (look vs))) (jO Γ f) K ⟨look vs,ab os⟩ else False:=rfl
@[simp↓] def Xk {st:St}:pw T st []=True:=rfl
@[simp↓] def QR {s:Nat}{l:List Nat}:pw T ⟨look vs,ab os⟩ (s::l)=(aj (ldT (ab os) (look vs s)) (fun t=>T.contains t=false)/\pw T ⟨look vs,ab os⟩ l):=rfl
@[simp↓] def YA {k:AK}{xs:List Operand}{tg:Option Nat}:dz P Γ ⟨d,k,xs,g,un,tg⟩ K ⟨look vs,ab os⟩=((un=[]\/ll un (ab os) ((xs.map (ev (look vs))).map strip))/\eA P Γ ⟨d,k,xs,g,un,tg⟩ (look vs) (ab os) fun e=>Ed un tg e/\K (e.on d ⟨look vs,ab os⟩)):=rfl
@[simp↓] def Wd {k:AK}{xs:List Operand}{tg:Option Nat}{aa:Nat->Option AO}{vars:Nat->AV}:eA P Γ ⟨d,k,xs,none,un,tg⟩ vars aa C=bf P Γ d k (xs.map (ev vars)) aa C:=rfl
@[simp↓] def XB {k:AK}{xs:List Operand}{s:Nat}{w:Bool}{tg:Option Nat}{aa:Nat->Option AO}{vars:Nat->AV}:eA P Γ ⟨d,k,xs,some (s,w),un,tg⟩ vars aa C=aj (bT (vars s) w) fun c=>cE P Γ c d k (xs.map (ev vars)) aa C:=rfl
def Hd {e:bR}:mz [] e=True:=by cases e<;>simp[mz]
@[simp↓] def Yf :mz un (.put v)=True:=rfl
@[simp↓] def U7 {os:List (Nat×AO)}:mz un (.new v os)=True:=rfl
@[simp↓] def Vw {t:Nat}{o:AO}:mz un (.yT t o)=True:=rfl
@[simp↓] def Xm {t:Nat}{o:AO}:mz un (.app t o)=(un.contains (t%1000+1000)=false):=rfl
@[simp↓1100] def tgU_nil {tg:Option Nat}{e:bR}:Ed [] tg e=wZ tg e:=by unfold Ed;rw[Hd,and_true]
@[simp↓] def aba {e:bR}:Ed un none e=mz un e:=by unfold Ed wZ;rw[true_and]
@[simp↓] def Z2 {s:Nat}{e:bR}:Ed un (some s) e=(wZ (some s) e/\mz un e):=rfl
@[simp↓] def VZ {e:bR}:wZ none e=True:=rfl
@[simp↓] def tgOK_upd {s t:Nat}{o:AO}:wZ (some s) (.yT t o)=(t=s):=rfl
@[simp↓] def on_put :(bR.put v).on d ⟨look vs,ab os⟩=⟨put d v (look vs),ab os⟩:=rfl
@[simp↓] def kJ {l:List (Nat×AO)}:(bR.new v l).on d ⟨look vs,ab os⟩=⟨put d v (look vs),bK l (ab os)⟩:=rfl
@[simp↓] def on_upd {t:Nat}{o:AO}:(bR.yT t o).on d ⟨look vs,ab os⟩=⟨put d .ak (look vs),ba t o (ab os)⟩:=rfl
@[simp↓] def sn {t:Nat}{o:AO}:(bR.app t o).on d ⟨look vs,ab os⟩=⟨put d (.own t) (cO t (look vs)),ba t o (dU t (ab os))⟩:=rfl
end
def Jp (d:Nat) (v:AV) (l:List (Nat×AV)):put (some d) v (look l)=look ((d,v)::l):=by funext s;simp[put,look]
def K6 (v:AV) (f:Nat->AV):put none v f=f:=rfl
def IL (t:Nat) (o:AO) (l:List (Nat×AO)):ba t o (ab l)=ab ((t,o)::l):=by funext s;simp[ba,ab]
def Fu (bU:List Nat) (l:List (Nat×AV)):km bU (look l)=look (bU.map fun s=>(s,look l s)):=by funext s;unfold km;induction bU with|nil=>simp[look]|cons k ks ih=>
 simp only[q74,look];by_cases h:s=k;·subst h;simp
 ·simp only[q234,h,if_false];have:(s==k)=false:=by simpa using h
  rw[this];simpa using ih
def Ai (t:Nat) (l:List (Nat×AV)):cO t (look l)=look (l.map fun x=>(x.1,kill t x.2)):=by funext s;unfold cO;induction l with|nil=>rfl|cons x l ih=>obtain⟨k,v⟩:=x;simp only[q74,look];split<;>simp_all
def E7 (t:Nat) (l:List (Nat×AO)):dU t (ab l)=ab (l.map fun x=>(x.1,eM t x.2)):=by funext s;unfold dU;induction l with|nil=>rfl|cons x l ih=>obtain⟨k,v⟩:=x;simp only[q74,ab];split<;>simp_all
def HP (m l:List (Nat×AO)):bK m (ab l)=ab (m++l):=by funext s;unfold bK;induction m with|nil=>simp[ab]|cons x m ih=>
 obtain⟨k,v⟩:=x;simp only[q137,ab];by_cases h:s=k;·simp[h]
 ·simp only[if_neg h];exact ih
def ke (vs:List (Nat×AV)) (os:List (Nat×AO)):(Fr.mk vs os).st=⟨look vs,ab os⟩:=rfl
def M0 (t:Nat):List (Nat×AO)->List (Nat×AO)|[]=>[]|x::l=>if x.1=t then M0 t l else(x.1,eM t x.2)::M0 t l
@[simp] def rmL_nil (t:Nat):M0 t []=[]:=nr rfl
@[simp] def JH (t s:Nat) (o:AO) (l:List (Nat×AO)):M0 t ((s,o)::l)=if s=t then M0 t l else(s,eM t o)::M0 t l:=nr rfl
def vr (t:Nat) (l:List (Nat×AO)):lq t (ab l)=ab (M0 t l):=by funext s;unfold lq;induction l with|nil=>simp[ab]|cons x l ih=>
 obtain⟨k,v⟩:=x;simp only[JH,ab];by_cases hs:s=t
 ·subst hs;simp only[if_true]at ih |-;by_cases hk:k=s;·simp[hk];exact ih
  ·have hk':¬s=k:=fun e=>hk e.symm;simp[hk,ab,hk'];exact ih
 ·simp only[hs,if_false]at ih |-;by_cases hk:k=t;·have:¬s=k:=fun e=>hs (e.trans hk);rw[if_pos hk,if_neg this];exact ih
  ·simp only[hk,if_false,ab];by_cases hsk:s=k;·simp[hsk]
   ·simp only[hsk,if_false];exact ih
def Mm (t:Nat) (e:TypeId) (rows:List (List PV)):List (Nat×AO)->List (Nat×AO)|[]=>[]|x::l=>if x.1=t then Mm t e rows l else(x.1,LU t e rows x.2)::Mm t e rows l
@[simp] def rmB_nil (t:Nat) (e:TypeId) (rows:List (List PV)):Mm t e rows []=[]:=nr rfl
@[simp] def KQ (t s:Nat) (e:TypeId) (rows:List (List PV)) (o:AO) (l:List (Nat×AO)):Mm t e rows ((s,o)::l)=if s=t then Mm t e rows l else(s,LU t e rows o)::Mm t e rows l:=nr rfl
def Kv (t:Nat) (e0:TypeId) (rows:List (List PV)) (l:List (Nat×AV)):shW t e0 rows (look l)=look (l.map fun x=>(x.1,Gw t e0 rows x.2)):=by funext s;unfold shW;induction l with|nil=>rfl|cons x l ih=>obtain⟨k,v⟩:=x;simp only[q74,look];split<;>simp_all
def Hl (t:Nat) (e:TypeId) (rows:List (List PV)) (l:List (Nat×AO)):Fq t e rows (ab l)=ab (Mm t e rows l):=by funext s;unfold Fq;induction l with|nil=>simp[ab]|cons x l ih=>
 obtain⟨k,v⟩:=x;simp only[KQ,ab];by_cases hs:s=t
 ·subst hs;simp only[if_true]at ih |-;by_cases hk:k=s;·simp[hk];exact ih
  ·have hk':¬s=k:=fun e=>hk e.symm;simp[hk,ab,hk'];exact ih
 ·simp only[hs,if_false]at ih |-;by_cases hk:k=t;·have:¬s=k:=fun e=>hs (e.trans hk);rw[if_pos hk,if_neg this];exact ih
  ·simp only[hk,if_false,ab];by_cases hsk:s=k;·simp[hsk]
   ·simp only[hsk,if_false];exact ih
@[simp] def EV (vs:List (Nat×AV)) (os:List (Nat×AO)) (t:Nat):share1 ⟨look vs,ab os⟩ (.own t)=match dx (ab os t) with|some r=>⟨look (vs.map fun x=>(x.1,Gw t r.1 r.2 x.2)),ab (Mm t r.1 r.2 os)⟩|none=>⟨look vs,ab os⟩:=by simp only[share1,jS];split<;>simp[*,Kv,Hl]
@[simp] def Y3 (vs:List (Nat×AV)) (os:List (Nat×AO)) (t:Nat):xo t ⟨look vs,ab os⟩=match dx (ab os t) with|some _=>⟨look (vs.map fun x=>(x.1,kill t x.2)),ab (M0 t os)⟩|none=>⟨look vs,ab os⟩:=by simp only[xo];split<;>simp[*,Ai,vr]
@[simp] def Xn (st:St) (p:PV):share1 st (.pv p)=st:=nr rfl
@[simp] def Up (st:St) (cs:List AV):share1 st (.agg cs)=iC st cs:=nr rfl
@[simp] def PE (st:St):iC st []=st:=nr rfl
@[simp] def L8 (st:St) (c:AV) (cs:List AV):iC st (c::cs)=iC (jS st c) cs:=nr rfl
@[simp] def T6 (vs:List (Nat×AV)) (os:List (Nat×AO)) (t:Nat):jS ⟨look vs,ab os⟩ (.own t)=match dx (ab os t) with|some r=>⟨look (vs.map fun x=>(x.1,Gw t r.1 r.2 x.2)),ab (Mm t r.1 r.2 os)⟩|none=>⟨look vs,ab os⟩:=EV vs os t
@[simp] def Wl (st:St) (p:PV):jS st (.pv p)=st:=nr rfl
@[simp] def QZ (st:St) (t o:Nat):share1 st (.ptr t o)=st:=nr rfl
@[simp] def Ra (st:St) (f:FuncId) (cs:List AV):share1 st (.bI f cs)=st:=nr rfl
@[simp] def NP (st:St):cU st []=st:=nr rfl
@[simp] def LL (st:St) (v:AV) (l:List AV):cU st (v::l)=cU (share1 st v) l:=nr rfl
@[simp] def sh2_own (e0:TypeId) (t s:Nat) (rows:List (List PV)):Gw t e0 rows (.own s)=if s=t then .pv (.ro rows) else .own s:=nr rfl
@[simp] def shC_own (e0:TypeId) (t s:Nat) (rows:List (List PV)):Xy t e0 rows (.own s)=if s=t then .pv (.ro rows) else .own s:=nr rfl
@[simp] def sh2_pv (e0:TypeId) (t:Nat) (rows:List (List PV)) (p:PV):Gw t e0 rows (.pv p)=.pv p:=nr rfl
@[simp] def sh2_ptr (e0:TypeId) (t s o:Nat) (rows:List (List PV)):Gw t e0 rows (.ptr s o)=.ptr s o:=nr rfl
@[simp] def sh2_eptr (e0:TypeId) (t s:Nat) (e:TypeId) (i:Int) (o:Nat) (rows:List (List PV)):Gw t e0 rows (.bd s e i o)=kill t (.bd s e i o):=nr rfl
@[simp] def sh2_agg (e0:TypeId) (t:Nat) (cs:List AV) (rows:List (List PV)):Gw t e0 rows (.agg cs)=.agg (uE t e0 rows cs):=nr rfl
@[simp] def sh2_cnd (e0:TypeId) (t:Nat) (g:Bool) (v:AV) (rows:List (List PV)):Gw t e0 rows (.cx g v)=kill t (.cx g v):=nr rfl
@[simp] def sh2_clo (e0:TypeId) (t:Nat) (f:FuncId) (cs:List AV) (rows:List (List PV)):Gw t e0 rows (.bI f cs)=kill t (.bI f cs):=nr rfl
@[simp] def aaj (e0:TypeId) (t:Nat) (rows:List (List PV)):Gw t e0 rows .ak=.ak:=nr rfl
@[simp] def Zn (t:Nat) (e0:TypeId) (rows:List (List PV)):uE t e0 rows []=[]:=nr rfl
@[simp] def Vc (t:Nat) (e0:TypeId) (rows:List (List PV)) (c:AV) (cs:List AV):uE t e0 rows (c::cs)=Xy t e0 rows c::uE t e0 rows cs:=nr rfl
@[simp] def shC_pv (t:Nat) (e0:TypeId) (rows:List (List PV)) (p:PV):Xy t e0 rows (.pv p)=.pv p:=nr rfl
@[simp] def shO_box (t:Nat) (e0:TypeId) (rows:List (List PV)) (cs:List AV):LU t e0 rows (.box cs)=.box (uE t e0 rows cs):=nr rfl
@[simp] def shO_arr (t:Nat) (e0:TypeId) (rows:List (List PV)) (e:TypeId) (rs:List (List PV)):LU t e0 rows (.arr e rs)=.arr e rs:=nr rfl
@[simp] def shO_map (t:Nat) (e0:TypeId) (rows:List (List PV)) (es):LU t e0 rows (.map es)=.map es:=nr rfl
@[simp] def shO_mpv (t:Nat) (e0:TypeId) (rows:List (List PV)) (es):LU t e0 rows (.kk es)=.kk es:=nr rfl
@[simp] def frR_pv (p:PV):frR (.pv p)=frC (.pv p):=nr rfl
@[simp] def frR_fr (e:TypeId) (rows:List (List PV)):frR (.fr e rows)=true:=nr rfl
@[simp] def frC_bool (b:Bool):frC (.pv (.bool b))=false:=nr rfl
@[simp] def roR_tup (vs:List AV):Zy (.aN vs)=H8 vs:=nr rfl
@[simp] def roR_pv (p:PV):Zy (.pv p)=LW (.pv p):=nr rfl
@[simp] def roR_fr (e:TypeId) (rows:List (List PV)):Zy (.fr e rows)=false:=nr rfl
@[simp] def YN:H8 []=false:=nr rfl
@[simp] def Vz (c:AV) (cs:List AV):H8 (c::cs)=(UR c||H8 cs):=nr rfl
@[simp] def roCs_nil:Ht []=false:=nr rfl
@[simp] def WO (c:AV) (cs:List AV):Ht (c::cs)=(LW c||Ht cs):=nr rfl
@[simp] def ro1_agg (cs:List AV):UR (.agg cs)=Ht cs:=nr rfl
@[simp] def ro1_pv (p:PV):UR (.pv p)=LW (.pv p):=nr rfl
@[simp] def ro1_fr (e:TypeId) (rows:List (List PV)):UR (.fr e rows)=false:=nr rfl
@[simp] def roC_ro (rows:List (List PV)):LW (.pv (.ro rows))=true:=nr rfl
@[simp] def roC_int (k:IntKind) (n:Int):LW (.pv (.int k n))=false:=nr rfl
@[simp] def roC_bool (b:Bool):LW (.pv (.bool b))=false:=nr rfl
@[simp] def roC_str (l:List UInt8):LW (.pv (.str l))=false:=nr rfl
@[simp] def roC_fr (e:TypeId) (rows:List (List PV)):LW (.fr e rows)=false:=nr rfl
@[simp] def TJ (aa:Nat->Option AO) (k t:Nat):hZ aa k (.own t)=(dx (aa t)).map fun r=>(t,r.1,r.2):=nr rfl
@[simp] def markA_1 (e:TypeId) (rows:List (List PV)):yO 998 e rows=.fr e rows:=nr rfl
@[simp] def markA_2 (e:TypeId) (rows:List (List PV)):yO 999 e rows=.aN [.fr e rows]:=nr rfl
@[simp] def reisU_0 (aa:Nat->Option AO) (m v:AV) (vs:List AV):ud aa m 0 (v::vs)=(gB aa vs).map (m::·):=nr rfl
@[simp] def puresU_0 (v:AV) (vs:List AV):kF 0 (v::vs)=fB vs:=nr rfl
@[simp] def outR_clo (n:Nat) (r:AV) (e:TypeId) (rows:List (List PV)):cj (.bI n [r,.fr e rows])=r:=nr rfl
@[simp] def outR_fr (e:TypeId) (rows:List (List PV)):cj (.fr e rows)=.fr e rows:=nr rfl
@[simp] def Zu (n:Nat) (r:AV) (e:TypeId) (rows:List (List PV)):eS (.bI n [r,.fr e rows])=[(999,.arr e rows)]:=nr rfl
@[simp] def outO_fr (e:TypeId) (rows:List (List PV)):eS (.fr e rows)=[]:=nr rfl
@[simp] def Vd:rG []=True:=nr rfl
@[simp] def Wk (t n:Nat) (r:AV) (e:TypeId) (rows:List (List PV)) (vars:Nat->AV):jd t (.bI n [r,.fr e rows]) vars=vars:=nr rfl
@[simp] def varsU_fr (t:Nat) (e:TypeId) (rows:List (List PV)) (vars:Nat->AV):jd t (.fr e rows) vars=cO t vars:=nr rfl
@[simp] def Wx (t n:Nat) (r:AV) (e:TypeId) (rows:List (List PV)) (aa:Nat->Option AO):cZ t (.bI n [r,.fr e rows]) aa=ba t (.arr e rows) aa:=nr rfl
@[simp] def objsU_fr (t:Nat) (e:TypeId) (rows:List (List PV)) (aa:Nat->Option AO):cZ t (.fr e rows) aa=lq t aa:=nr rfl
@[simp] def offVs_0 (t:Nat) (v:AV) (vs:List AV):m5 t 0 (v::vs)=m5.pQ t vs:=nr rfl
@[simp] def Ul (t:Nat):m5.pQ t []=True:=nr rfl
@[simp] def ON (t:Nat) (v:AV) (vs:List AV):m5.pQ t (v::vs)=(vR t v/\m5.pQ t vs):=nr rfl
@[simp] def ZG (t:Nat) (f:FuncId) (cs:List AV):vR t (.bI f cs)=xH t cs:=nr rfl
@[simp] def offV_pv (t:Nat) (p:PV):vR t (.pv p)=True:=nr rfl
@[simp] def offV_own (t s:Nat):vR t (.own s)=(s≠t):=nr rfl
@[simp] def offC_ptr (t s o:Nat):sv t (.ptr s o)=(s≠t):=nr rfl
@[simp] def WV (t:Nat):xH t []=True:=nr rfl
@[simp] def RS (t:Nat) (c:AV) (cs:List AV):xH t (c::cs)=(sv t c/\xH t cs):=nr rfl
@[simp] def clrO_sub (aa:Nat->Option AO) (e e1:TypeId) (zs:List Value) (t lo hi:Nat):D5 aa e zs (.sub t e1 lo hi)=(dx (aa t)).bind fun r=>if r.1=e/\e1=e then some (t,.arr e (r.2.take lo++List.replicate (hi-lo) (zs.map si)++r.2.drop hi)) else none:=nr rfl
attribute[simp] vr Jp K6 IL Fu Ai E7 HP ke aU
@[simp] def look_nil (s:Nat):look [] s=.ak:=nr rfl
@[simp] def Wz (t:Nat) (v:AV) (l:List (Nat×AV)) (s:Nat):look ((t,v)::l) s=if s=t then v else look l s:=nr rfl
@[simp] def WT (s:Nat):ab [] s=none:=nr rfl
@[simp] def Fj (t:Nat) (v:AO) (l:List (Nat×AO)) (s:Nat):ab ((t,v)::l) s=if s=t then some v else ab l s:=nr rfl
section
variable(vars:Nat->AV) (t:Nat)
@[simp] def ev_tmp:ev vars (.tmp t)=vars t:=nr rfl
@[simp] def ev_int (k:IntKind) (n:Int):ev vars (.const (.int k n))=.pv (.int k n):=nr rfl
@[simp] def ev_bool (b:Bool):ev vars (.const (.bool b))=.pv (.bool b):=nr rfl
@[simp] def ev_str (s:ByteArray):ev vars (.const (.string s))=.pv (.str s.data.toList):=nr rfl
@[simp] def ev_nil:ev vars (.const (.slice none 0 0))=.pv .nil:=nr rfl
@[simp] def ev_func (f:FuncId):ev vars (.func f)=.bI f []:=nr rfl
@[simp] def cv_int (k:IntKind) (n:Int):cv (.int k n)=.pv (.int k n):=nr rfl
@[simp] def cv_bool (b:Bool):cv (.bool b)=.pv (.bool b):=nr rfl
@[simp] def cv_str (s:ByteArray):cv (.string s)=.pv (.str s.data.toList):=nr rfl
@[simp] def cv_nil:cv (.slice none 0 0)=.pv .nil:=nr rfl
end
section
@[simp] def asks_pv (p:PV):asks (.pv p)=True:=nr rfl
@[simp] def aaN (t:Nat):asks (.own t)=True:=nr rfl
@[simp] def asks_ptr (t o:Nat):asks (.ptr t o)=True:=nr rfl
@[simp] def Ve (t:Nat) (e:TypeId) (i:Int) (o:Nat):asks (.bd t e i o)=True:=nr rfl
@[simp] def asks_sub (t:Nat) (e:TypeId) (i o:Nat):asks (.sub t e i o)=True:=nr rfl
@[simp] def asks_rp (cs:List PV):asks (.rp cs)=True:=nr rfl
@[simp] def asks_agg (cs:List AV):asks (.agg cs)=True:=nr rfl
@[simp] def Z8 (cs:List AV):asks (.aN cs)=True:=nr rfl
@[simp] def asks_clo (f:FuncId) (cs:List AV):asks (.bI f cs)=True:=nr rfl
@[simp] def Vx:asks .ak=True:=nr rfl
@[simp] def aan (g:Bool) (v:AV):asks (.cx g v)=(g=true/\asks v):=nr rfl
@[simp] def XU:aw []=True:=nr rfl
@[simp] def Rh (v:AV) (l:List AV):aw (v::l)=(asks v/\aw l):=nr rfl
@[simp] def strip_pv (p:PV):strip (.pv p)=.pv p:=nr rfl
@[simp] def Wp (g:Bool) (v:AV):strip (.cx g v)=strip v:=nr rfl
@[simp] def Xg (t:Nat):strip (.own t)=(.own t):=nr rfl
@[simp] def Wf (t o:Nat):strip (.ptr t o)=(.ptr t o):=nr rfl
@[simp] def TI (t:Nat) (e:TypeId) (i:Int) (o:Nat):strip (.bd t e i o)=(.bd t e i o):=nr rfl
@[simp] def VG (t:Nat) (e:TypeId) (i o:Nat):strip (.sub t e i o)=(.sub t e i o):=nr rfl
@[simp] def Yv (cs:List PV):strip (.rp cs)=(.rp cs):=nr rfl
@[simp] def Xz (cs:List AV):strip (.agg cs)=(.agg cs):=nr rfl
@[simp] def Wq (cs:List AV):strip (.aN cs)=(.aN cs):=nr rfl
@[simp] def XM (f:FuncId) (cs:List AV):strip (.bI f cs)=(.bI f cs):=nr rfl
@[simp] def Rf:strip .ak=.ak:=nr rfl
@[simp] def Z5 (b:Bool):bT (.pv (.bool b)) true=some b:=nr rfl
@[simp] def YO (b:Bool):bT (.pv (.bool b)) false=some (!b):=nr rfl
@[simp] def aa2 (c:Bool) (v:AV) (w:Bool):bT (.cx c v) w=xj c (bT v w):=nr rfl
@[simp] def condB_t (o:Option Bool):xj true o=o:=nr rfl
@[simp] def condB_f (o:Option Bool):xj false o=some false:=nr rfl
@[simp] def condB_s (c b:Bool):xj c (some b)=some (c&&b):=by cases c<;>rfl
@[simp] def Zx:fM []=false:=nr rfl
@[simp] def X8 (l:List AV):fM (.ak::l)=true:=nr rfl
@[simp] def hasJ_val (v:Value) (l:List AV):fM (.pv (.val v)::l)=true:=nr rfl
@[simp] def ZP (k:IntKind) (n:Int) (l:List AV):fM (.pv (.int k n)::l)=fM l:=nr rfl
@[simp] def Wv (b:Bool) (l:List AV):fM (.pv (.bool b)::l)=fM l:=nr rfl
@[simp] def hasJ_str (b:List UInt8) (l:List AV):fM (.pv (.str b)::l)=fM l:=nr rfl
@[simp] def hasJ_ro (r:List (List PV)) (l:List AV):fM (.pv (.ro r)::l)=fM l:=nr rfl
@[simp] def aas (t:Nat) (l:List AV):fM (.own t::l)=fM l:=nr rfl
@[simp] def Yw (t o:Nat) (l:List AV):fM (.ptr t o::l)=fM l:=nr rfl
@[simp] def VH (t:Nat) (e:TypeId) (i:Int) (o:Nat) (l:List AV):fM (.bd t e i o::l)=fM l:=nr rfl
@[simp] def hasJ_rp0 (l:List AV):fM (.rp []::l)=true:=nr rfl
@[simp] def hasJ_rp (c:PV) (cs:List PV) (l:List AV):fM (.rp (c::cs)::l)=fM l:=nr rfl
@[simp] def hasJ_agg (cs:List AV) (l:List AV):fM (.agg cs::l)=fM l:=nr rfl
@[simp] def hasJ_clo (f:FuncId) (cs:List AV) (l:List AV):fM (.bI f cs::l)=fM l:=nr rfl
@[simp] def isF_some (b:Bool):NJ (some b)=!b:=by cases b<;>rfl
end
section
variable(op:BinOp) (k:IntKind) (a b:Int) (x y:List UInt8) (p q:Bool)
@[simp] def ZL:dN .add (.int k a) (.int k b)=some (True,.int k (k.wrap (a+b))):=by simp[dN]
@[simp] def sbin_sub:dN .sub (.int k a) (.int k b)=some (True,.int k (k.wrap (a-b))):=by simp[dN]
@[simp] def sbin_mul:dN .mul (.int k a) (.int k b)=some (True,.int k (k.wrap (a*b))):=by simp[dN]
@[simp] def aak:dN .quo (.int k a) (.int k b)=some (b≠0,.int k (k.wrap (a.tdiv b))):=by simp[dN]
@[simp] def aa3:dN .rem (.int k a) (.int k b)=some (b≠0,.int k (a.tmod b)):=by simp[dN]
@[simp] def sbin_eql:dN .eql (.int k a) (.int k b)=some (True,.bool (decide (a=b))):=by simp[dN]
@[simp] def aah:dN .neq (.int k a) (.int k b)=some (True,.bool (!decide (a=b))):=by simp[dN]
@[simp] def sbin_lss:dN .lss (.int k a) (.int k b)=some (True,.bool (decide (a<b))):=by simp[dN]
@[simp] def sbin_leq:dN .leq (.int k a) (.int k b)=some (True,.bool (decide (a<=b))):=by simp[dN]
@[simp] def aav:dN .gtr (.int k a) (.int k b)=some (True,.bool (decide (b<a))):=by simp[dN]
@[simp] def sbin_geq:dN .geq (.int k a) (.int k b)=some (True,.bool (decide (b<=a))):=by simp[dN]
@[simp] def sbin_and:dN .and (.int k a) (.int k b)=some (True,fE .and k a b):=by simp[dN]
@[simp] def sbin_or:dN .or (.int k a) (.int k b)=some (True,fE .or k a b):=by simp[dN]
@[simp] def abq:dN .xor (.int k a) (.int k b)=some (True,fE .xor k a b):=by simp[dN]
@[simp] def PO:dN .andNot (.int k a) (.int k b)=some (True,fE .andNot k a b):=by simp[dN]
@[simp] def sbin_shl (k':IntKind):dN .shl (.int k a) (.int k' b)=some (0<=b,.int k (k.wrap (a*2^(min b.toNat k.bits)))):=nr rfl
@[simp] def abp (k':IntKind):dN .shr (.int k a) (.int k' b)=some (0<=b,.int k (a.fdiv (2^(min b.toNat k.bits)))):=nr rfl
@[simp] def Yg:dN .eql (.str x) (.str y)=some (True,.bool (decide (x=y))):=nr rfl
@[simp] def Ym:dN .neq (.str x) (.str y)=some (True,.bool (!decide (x=y))):=nr rfl
@[simp] def WD:dN .lss (.str x) (.str y)=some (True,.bool (Op.bytesLess x y)):=nr rfl
@[simp] def Xq:dN .gtr (.str x) (.str y)=some (True,.bool (!(Op.bytesLess x y||decide (x=y)))):=nr rfl
@[simp] def Wu:dN .geq (.str x) (.str y)=some (True,.bool (!Op.bytesLess x y)):=nr rfl
end
@[simp↓] def semK_bin {P:Program}{Γ:b7}{aa:Nat->Option AO}{op:BinOp}:bf P Γ d (.bin op) xs aa C=(aw xs/\aj (al (.bin op) (xs.map strip) aa) fun x=>x.1/\C (.put x.2)):=rfl
@[simp↓] def Z3 {P:Program}{Γ:b7}{aa:Nat->Option AO}{c:Bool}{op:BinOp}:cE P Γ c d (.bin op) xs aa C=aj (al (.bin op) (xs.map strip) aa) fun x=>(c=true->aw xs/\x.1)/\C (.put (.cx c x.2)):=rfl
@[simp↓] def semK_beq {P:Program}{Γ:b7}{aa:Nat->Option AO}:bf P Γ d (.beq ne) xs aa C=(aw xs/\aj (al (.beq ne) (xs.map strip) aa) fun x=>x.1/\C (.put x.2)):=rfl
@[simp↓] def aaT {P:Program}{Γ:b7}{aa:Nat->Option AO}{c:Bool}:cE P Γ c d (.beq ne) xs aa C=aj (al (.beq ne) (xs.map strip) aa) fun x=>(c=true->aw xs/\x.1)/\C (.put (.cx c x.2)):=rfl
@[simp↓] def Wt {P:Program}{Γ:b7}{aa:Nat->Option AO}:bf P Γ d .yb xs aa C=(aw xs/\aj (al .yb (xs.map strip) aa) fun x=>x.1/\C (.put x.2)):=rfl
@[simp↓] def VT {P:Program}{Γ:b7}{aa:Nat->Option AO}{c:Bool}:cE P Γ c d .yb xs aa C=aj (al .yb (xs.map strip) aa) fun x=>(c=true->aw xs/\x.1)/\C (.put (.cx c x.2)):=rfl
@[simp↓] def semK_eqs {P:Program}{Γ:b7}{aa:Nat->Option AO}:bf P Γ d (.eqs ne ks) xs aa C=(aw xs/\aj (al (.eqs ne ks) (xs.map strip) aa) fun x=>x.1/\C (.put x.2)):=rfl
@[simp↓] def Zb {P:Program}{Γ:b7}{aa:Nat->Option AO}{c:Bool}:cE P Γ c d (.eqs ne ks) xs aa C=aj (al (.eqs ne ks) (xs.map strip) aa) fun x=>(c=true->aw xs/\x.1)/\C (.put (.cx c x.2)):=rfl
@[simp↓] def YU {P:Program}{Γ:b7}{aa:Nat->Option AO}{b:Bool}:bf P Γ d (.IW b) xs aa C=(aw xs/\aj (al (.IW b) (xs.map strip) aa) fun x=>x.1/\C (.put x.2)):=rfl
@[simp↓] def ZX {P:Program}{Γ:b7}{aa:Nat->Option AO}{c:Bool}{b:Bool}:cE P Γ c d (.IW b) xs aa C=aj (al (.IW b) (xs.map strip) aa) fun x=>(c=true->aw xs/\x.1)/\C (.put (.cx c x.2)):=rfl
@[simp↓] def Xh {P:Program}{Γ:b7}{aa:Nat->Option AO}:bf P Γ d (.qP e) xs aa C=(aw xs/\aj (al (.qP e) (xs.map strip) aa) fun x=>x.1/\C (.put x.2)):=rfl
@[simp↓] def X5 {P:Program}{Γ:b7}{aa:Nat->Option AO}{c:Bool}:cE P Γ c d (.qP e) xs aa C=aj (al (.qP e) (xs.map strip) aa) fun x=>(c=true->aw xs/\x.1)/\C (.put (.cx c x.2)):=rfl
@[simp↓] def WA {P:Program}{Γ:b7}{aa:Nat->Option AO}:bf P Γ d (.uD) xs aa C=(aw xs/\aj (al (.uD) (xs.map strip) aa) fun x=>x.1/\C (.put x.2)):=rfl
@[simp↓] def Vu {P:Program}{Γ:b7}{aa:Nat->Option AO}{c:Bool}:cE P Γ c d (.uD) xs aa C=aj (al (.uD) (xs.map strip) aa) fun x=>(c=true->aw xs/\x.1)/\C (.put (.cx c x.2)):=rfl
@[simp↓] def Y9 {P:Program}{Γ:b7}{aa:Nat->Option AO}:bf P Γ d .Gb xs aa C=(aw xs/\aj (al .Gb (xs.map strip) aa) fun x=>x.1/\C (.put x.2)):=rfl
@[simp↓] def semG_scv {P:Program}{Γ:b7}{aa:Nat->Option AO}{c:Bool}:cE P Γ c d .Gb xs aa C=aj (al .Gb (xs.map strip) aa) fun x=>(c=true->aw xs/\x.1)/\C (.put (.cx c x.2)):=rfl
@[simp↓] def semK_not {P:Program}{Γ:b7}{aa:Nat->Option AO}:bf P Γ d .not xs aa C=(aw xs/\aj (al .not (xs.map strip) aa) fun x=>x.1/\C (.put x.2)):=rfl
@[simp↓] def aa5 {P:Program}{Γ:b7}{aa:Nat->Option AO}{c:Bool}:cE P Γ c d .not xs aa C=aj (al .not (xs.map strip) aa) fun x=>(c=true->aw xs/\x.1)/\C (.put (.cx c x.2)):=rfl
@[simp↓] def semK_neg {P:Program}{Γ:b7}{aa:Nat->Option AO}:bf P Γ d .neg xs aa C=(aw xs/\aj (al .neg (xs.map strip) aa) fun x=>x.1/\C (.put x.2)):=rfl
@[simp↓] def semG_neg {P:Program}{Γ:b7}{aa:Nat->Option AO}{c:Bool}:cE P Γ c d .neg xs aa C=aj (al .neg (xs.map strip) aa) fun x=>(c=true->aw xs/\x.1)/\C (.put (.cx c x.2)):=rfl
@[simp↓] def semK_cvi {P:Program}{Γ:b7}{aa:Nat->Option AO}{k:IntKind}:bf P Γ d (.DY k) xs aa C=(aw xs/\aj (al (.DY k) (xs.map strip) aa) fun x=>x.1/\C (.put x.2)):=rfl
@[simp↓] def semG_cvi {P:Program}{Γ:b7}{aa:Nat->Option AO}{c:Bool}{k:IntKind}:cE P Γ c d (.DY k) xs aa C=aj (al (.DY k) (xs.map strip) aa) fun x=>(c=true->aw xs/\x.1)/\C (.put (.cx c x.2)):=rfl
@[simp↓] def semK_len {P:Program}{Γ:b7}{aa:Nat->Option AO}:bf P Γ d .len xs aa C=(aw xs/\aj (al .len (xs.map strip) aa) fun x=>x.1/\C (.put x.2)):=rfl
@[simp↓] def semG_len {P:Program}{Γ:b7}{aa:Nat->Option AO}{c:Bool}:cE P Γ c d .len xs aa C=aj (al .len (xs.map strip) aa) fun x=>(c=true->aw xs/\x.1)/\C (.put (.cx c x.2)):=rfl
@[simp↓] def VY {P:Program}{Γ:b7}{aa:Nat->Option AO}:bf P Γ d .yC xs aa C=(aw xs/\aj (al .yC (xs.map strip) aa) fun x=>x.1/\C (.put x.2)):=rfl
@[simp↓] def UI {P:Program}{Γ:b7}{aa:Nat->Option AO}{c:Bool}:cE P Γ c d .yC xs aa C=aj (al .yC (xs.map strip) aa) fun x=>(c=true->aw xs/\x.1)/\C (.put (.cx c x.2)):=rfl
@[simp↓] def semK_ssl {P:Program}{Γ:b7}{aa:Nat->Option AO}{a b:Bool}:bf P Γ d (.L9 a b) xs aa C=(aw xs/\aj (al (.L9 a b) (xs.map strip) aa) fun x=>x.1/\C (.put x.2)):=rfl
@[simp↓] def semG_ssl {P:Program}{Γ:b7}{aa:Nat->Option AO}{c:Bool}{a b:Bool}:cE P Γ c d (.L9 a b) xs aa C=aj (al (.L9 a b) (xs.map strip) aa) fun x=>(c=true->aw xs/\x.1)/\C (.put (.cx c x.2)):=rfl
@[simp↓] def YX {P:Program}{Γ:b7}{aa:Nat->Option AO}{o:Nat}{n:Option Nat}:bf P Γ d (.Ja o n) xs aa C=(aw xs/\aj (al (.Ja o n) (xs.map strip) aa) fun x=>x.1/\C (.put x.2)):=rfl
@[simp↓] def aaL {P:Program}{Γ:b7}{aa:Nat->Option AO}{c:Bool}{o:Nat}{n:Option Nat}:cE P Γ c d (.Ja o n) xs aa C=aj (al (.Ja o n) (xs.map strip) aa) fun x=>(c=true->aw xs/\x.1)/\C (.put (.cx c x.2)):=rfl
@[simp↓] def semK_fad {P:Program}{Γ:b7}{aa:Nat->Option AO}{o:Nat}:bf P Γ d (.uV o) xs aa C=(aw xs/\aj (al (.uV o) (xs.map strip) aa) fun x=>x.1/\C (.put x.2)):=rfl
@[simp↓] def semG_fad {P:Program}{Γ:b7}{aa:Nat->Option AO}{c:Bool}{o:Nat}:cE P Γ c d (.uV o) xs aa C=aj (al (.uV o) (xs.map strip) aa) fun x=>(c=true->aw xs/\x.1)/\C (.put (.cx c x.2)):=rfl
@[simp↓] def WK {P:Program}{Γ:b7}{aa:Nat->Option AO}{n:Option Nat}:bf P Γ d (.load n) xs aa C=(aw xs/\aj (al (.load n) (xs.map strip) aa) fun x=>x.1/\C (.put x.2)):=rfl
@[simp↓] def XQ {P:Program}{Γ:b7}{aa:Nat->Option AO}{c:Bool}{n:Option Nat}:cE P Γ c d (.load n) xs aa C=aj (al (.load n) (xs.map strip) aa) fun x=>(c=true->aw xs/\x.1)/\C (.put (.cx c x.2)):=rfl
@[simp↓] def semK_ixa {P:Program}{Γ:b7}{aa:Nat->Option AO}{s:Nat}:bf P Γ d (.Gi e s) xs aa C=(aw xs/\aj (al (.Gi e s) (xs.map strip) aa) fun x=>x.1/\C (.put x.2)):=rfl
@[simp↓] def semK_ixp {P:Program}{Γ:b7}{aa:Nat->Option AO}{e s:Nat}:bf P Γ d (.IV e s) xs aa C=(aw xs/\aj (al (.IV e s) (xs.map strip) aa) fun x=>x.1/\C (.put x.2)):=rfl
@[simp↓] def semK_nck {P:Program}{Γ:b7}{aa:Nat->Option AO}:bf P Γ d .HD xs aa C=(aw xs/\aj (al .HD (xs.map strip) aa) fun x=>x.1/\C (.put x.2)):=rfl
@[simp↓] def semG_ixa {P:Program}{Γ:b7}{aa:Nat->Option AO}{c:Bool}{s:Nat}:cE P Γ c d (.Gi e s) xs aa C=aj (al (.Gi e s) (xs.map strip) aa) fun x=>(c=true->aw xs/\x.1)/\C (.put (.cx c x.2)):=rfl
@[simp↓] def Zc {P:Program}{Γ:b7}{aa:Nat->Option AO}{c:Bool}{e s:Nat}:cE P Γ c d (.IV e s) xs aa C=aj (al (.IV e s) (xs.map strip) aa) fun x=>(c=true->aw xs/\x.1)/\C (.put (.cx c x.2)):=rfl
@[simp↓] def semG_nck {P:Program}{Γ:b7}{aa:Nat->Option AO}{c:Bool}:cE P Γ c d .HD xs aa C=aj (al .HD (xs.map strip) aa) fun x=>(c=true->aw xs/\x.1)/\C (.put (.cx c x.2)):=rfl
@[simp↓] def aaz {P:Program}{Γ:b7}{aa:Nat->Option AO}{s:Nat}{a b:Bool}:bf P Γ d (.Fh s a b) xs aa C=(aw xs/\aj (al (.Fh s a b) (xs.map strip) aa) fun x=>x.1/\C (.put x.2)):=rfl
@[simp↓] def Y4 {P:Program}{Γ:b7}{aa:Nat->Option AO}{c:Bool}{s:Nat}{a b:Bool}:cE P Γ c d (.Fh s a b) xs aa C=aj (al (.Fh s a b) (xs.map strip) aa) fun x=>(c=true->aw xs/\x.1)/\C (.put (.cx c x.2)):=rfl
@[simp↓] def semK_ext {P:Program}{Γ:b7}{aa:Nat->Option AO}:bf P Γ d (.ext i) xs aa C=(aw xs/\aj (al (.ext i) (xs.map strip) aa) fun x=>x.1/\C (.put x.2)):=rfl
@[simp↓] def Y2 {P:Program}{Γ:b7}{aa:Nat->Option AO}{c:Bool}:cE P Γ c d (.ext i) xs aa C=aj (al (.ext i) (xs.map strip) aa) fun x=>(c=true->aw xs/\x.1)/\C (.put (.cx c x.2)):=rfl
@[simp↓] def semK_bld {P:Program}{Γ:b7}{aa:Nat->Option AO}:bf P Γ d (.L0 zs ps) xs aa C=(aw xs/\aj (al (.L0 zs ps) (xs.map strip) aa) fun x=>x.1/\C (.put x.2)):=rfl
@[simp↓] def ZZ {P:Program}{Γ:b7}{aa:Nat->Option AO}{c:Bool}:cE P Γ c d (.L0 zs ps) xs aa C=aj (al (.L0 zs ps) (xs.map strip) aa) fun x=>(c=true->aw xs/\x.1)/\C (.put (.cx c x.2)):=rfl
@[simp↓] def semK_mkf {P:Program}{Γ:b7}{aa:Nat->Option AO}:bf P Γ d (.LR f) xs aa C=(aw xs/\aj (al (.LR f) (xs.map strip) aa) fun x=>x.1/\C (.put x.2)):=rfl
@[simp↓] def semG_mkf {P:Program}{Γ:b7}{aa:Nat->Option AO}{c:Bool}:cE P Γ c d (.LR f) xs aa C=aj (al (.LR f) (xs.map strip) aa) fun x=>(c=true->aw xs/\x.1)/\C (.put (.cx c x.2)):=rfl
@[simp↓] def UH {P:Program}{Γ:b7}{aa:Nat->Option AO}:bf P Γ d (.iU e) xs aa C=aj d fun d=>aw xs/\aj (cQ (.iU e) d (xs.map strip) aa) fun x=>x.1/\aa d=none/\C (.new x.2.1 [(d,x.2.2)]):=rfl
@[simp↓] def YY {P:Program}{Γ:b7}{aa:Nat->Option AO}:bf P Γ d .box xs aa C=aj d fun d=>aw xs/\aj (cQ .box d (xs.map strip) aa) fun x=>x.1/\aa d=none/\C (.new x.2.1 [(d,x.2.2)]):=rfl
@[simp↓] def RB {P:Program}{Γ:b7}{aa:Nat->Option AO}:bf P Γ d (.alloc zs) xs aa C=aj d fun d=>aw xs/\aj (cQ (.alloc zs) d (xs.map strip) aa) fun x=>x.1/\aa d=none/\C (.new x.2.1 [(d,x.2.2)]):=rfl
@[simp↓] def Z4 {P:Program}{Γ:b7}{aa:Nat->Option AO}:bf P Γ d (.uF e sz) xs aa C=aj d fun d=>aw xs/\aj (cQ (.uF e sz) d (xs.map strip) aa) fun x=>x.1/\aa d=none/\C (.new x.2.1 [(d,x.2.2)]):=rfl
@[simp↓] def Yk {P:Program}{Γ:b7}{aa:Nat->Option AO}{c:Bool}:cE P Γ c d (.iU e) xs aa C=((c=true->bf P Γ d (.iU e) xs aa C)/\(c=false->C (.put .ak))):=rfl
@[simp↓] def semG_box {P:Program}{Γ:b7}{aa:Nat->Option AO}{c:Bool}:cE P Γ c d .box xs aa C=((c=true->bf P Γ d .box xs aa C)/\(c=false->C (.put .ak))):=rfl
@[simp↓] def R2 {P:Program}{Γ:b7}{aa:Nat->Option AO}{c:Bool}:cE P Γ c d (.alloc zs) xs aa C=((c=true->bf P Γ d (.alloc zs) xs aa C)/\(c=false->C (.put .ak))):=rfl
@[simp↓] def semG_bsl {P:Program}{Γ:b7}{aa:Nat->Option AO}{c:Bool}:cE P Γ c d (.uF e sz) xs aa C=((c=true->bf P Γ d (.uF e sz) xs aa C)/\(c=false->C (.put (Cg xs)))):=rfl
@[simp] def Zo (xs:List AV):Cg xs=LI (rowsOf (xs.map strip)):=nr rfl
@[simp] def Ua (rows:List (List PV)):LI (some rows)=.cx false (.pv (.ro rows)):=nr rfl
@[simp↓] def SN {P:Program}{Γ:b7}{aa:Nat->Option AO}{c:Bool}{n:Option Nat}:cE P Γ c d (.store n) xs aa C=((c=true->bf P Γ d (.store n) xs aa C)/\(c=false->C (.put .ak))):=rfl
@[simp↓] def semG_app {P:Program}{Γ:b7}{aa:Nat->Option AO}{c:Bool}{z b:Nat}:cE P Γ c d (.app e z b) xs aa C=((c=true->bf P Γ d (.app e z b) xs aa C)/\(c=false->C (.put .ak))):=rfl
@[simp↓] def YG {P:Program}{Γ:b7}{aa:Nat->Option AO}{x:AV}:bf P Γ d .qE [x] aa C=C (.put x):=by simp[bf,aj]
@[simp↓] def semG_mov {P:Program}{Γ:b7}{c:Bool}{aa:Nat->Option AO}{x:AV}:cE P Γ c d .qE [x] aa C=C (.put (.cx c x)):=by simp[cE,aj]
@[simp↓] def sF {P:Program}{Γ:b7}{aa:Nat->Option AO}:bf P Γ d .pick xs aa C=aj (vt xs) fun x=>x.1/\C (.put x.2):=rfl
@[simp↓] def yW {P:Program}{Γ:b7}{aa:Nat->Option AO}{c:Bool}:cE P Γ c d .pick xs aa C=aj (vt xs) fun x=>(c=true->x.1)/\C (.put (.cx c x.2)):=rfl
@[simp↓] def S5 {P:Program}{Γ:b7}{aa:Nat->Option AO}{n:Option Nat}:bf P Γ d (.store n) xs aa C=(aw xs/\aj (fo (.store n) (xs.map strip) aa) fun x=>x.1/\C (.yT x.2.1 x.2.2)):=rfl
@[simp↓] def Ml {P:Program}{Γ:b7}{aa:Nat->Option AO}{x:AV}{t:Nat}{z b:Nat}:bf P Γ d (.app e z b) [.own t,x] aa C=(aw [.own t,x]/\aj (fo (.app e z b) [.own t,strip x] aa) fun x=>x.1/\C (.app x.2.1 x.2.2)):=rfl
@[simp↓] def N4 {P:Program}{Γ:b7}{aa:Nat->Option AO}{x:AV}{z b:Nat}:bf P Γ d (.app e z b) [.pv .nil,x] aa C=(aw [.pv .nil,x]/\aj d fun d=>aj (cQ (.app e z b) d [.pv .nil,strip x] aa) fun x=>x.1/\aa d=none/\C (.new x.2.1 [(d,x.2.2)])):=rfl
@[simp↓] def XJ {P:Program}{Γ:b7}{aa:Nat->Option AO}:bf P Γ d (.call f) xs aa C=cS P Γ d f xs aa C:=rfl
@[simp↓] def W9 {P:Program}{Γ:b7}{aa:Nat->Option AO}{c:Bool}:cE P Γ c d (.call f) xs aa C=aj (gB aa (xs.map strip)) fun ys=>aj (gt Γ f ys) fun x=>if(!rQ x.2&&(DU x.2).isEmpty)=true then(c=true->aw xs/\x.1)/\flat x.2/\DU x.2=[]/\dv x.2=true/\C (.put (.cx c x.2)) else(c=true->cS P Γ d f xs aa C)/\(c=false->C (.put (.cx false (unfr x.2)))):=rfl
@[simp] def unfr_fr (e:TypeId) (rows:List (List PV)):unfr (.fr e rows)=.pv (.ro rows):=nr rfl
@[simp] def unfr_agg (cs:List AV):unfr (.agg cs)=.agg (cs.map O4):=nr rfl
@[simp] def unfrC_fr (e:TypeId) (rows:List (List PV)):O4 (.fr e rows)=.pv (.ro rows):=nr rfl
@[simp] def unfrC_pv (p:PV):O4 (.pv p)=.pv p:=nr rfl
@[simp↓] def Zs {Γ:b7}{aa:Nat->Option AO}{c:Bool}:DR Γ c f xs aa C=aj (gB aa (xs.map strip)) fun ys=>aj (gt Γ f ys) fun x=>(c=true->aw xs/\x.1)/\flat x.2/\DU x.2=[]/\dv x.2=true/\C (.put (.cx c x.2)):=rfl
section
variable{aa:Nat->Option AO}
@[simp] def YE (e:TypeId) (rows:List (List PV)):FC (some (.arr e rows))=some (e,rows.length):=nr rfl
@[simp] def Vg (e e':TypeId) (i:Int) (o:Nat) (rows:List (List PV)):nR e i o (some (.arr e' rows))=if e'=e then some (0<=i/\i<rows.length/\o<(rowAt rows i).length,.pv ((rowAt rows i).getD o (.int .u8 0))) else none:=nr rfl
@[simp] def arrO_mpv (es:List (PV×PV)):dx (some (.kk es))=none:=nr rfl
@[simp] def WS (e:TypeId) (rows:List (List PV)):dx (some (.arr e rows))=some (e,rows):=nr rfl
@[simp] def WG (cs:List AV):fT (some (.box cs))=some cs:=nr rfl
@[simp] def boolOf_b (c:Bool):jX (.pv (.bool c))=some c:=nr rfl
@[simp] def apick_eq (c a b:AV):vt [c,a,b]=(jX (strip c)).bind fun g=>(sW (asks a) (asks b) g (strip a) (strip b)).map fun r=>(asks c/\r.1,r.2):=nr rfl
@[simp] def Xa (φ ψ:Prop) (c x y:Bool):sW φ ψ c (.pv (.bool x)) (.pv (.bool y))=some ((c=true->φ)/\(c=false->ψ),.pv (.bool (cond c x y))):=nr rfl
@[simp] def UZ (φ ψ:Prop) (c x:Bool):sW φ ψ c (.pv (.bool x)) .ak=some (c=true/\φ,.pv (.bool x)):=nr rfl
@[simp] def UK (φ ψ:Prop) (c y:Bool):sW φ ψ c .ak (.pv (.bool y))=some (c=false/\ψ,.pv (.bool y)):=nr rfl
@[simp] def bounds10 (n:Nat) (k:IntKind) (l:Int):bounds n true false [.pv (.int k l)]=some (l,(n:Int)):=nr rfl
@[simp] def bounds01 (n:Nat) (k:IntKind) (h:Int):bounds n false true [.pv (.int k h)]=some (0,h):=nr rfl
@[simp] def bounds11 (n:Nat) (k k':IntKind) (l h:Int):bounds n true true [.pv (.int k l),.pv (.int k' h)]=some (l,h):=nr rfl
@[simp] def semQ_bin (op:BinOp) (x y:PV):al (.bin op) [.pv x,.pv y] aa=(dN op x y).map fun r=>(r.1,.pv r.2):=nr rfl
@[simp] def semQ_beq (ne x y:Bool):al (.beq ne) [.pv (.bool x),.pv (.bool y)] aa=some (True,.pv (.bool (if ne then x !=y else x==y))):=nr rfl
@[simp] def ZR (b:Bool):al .not [.pv (.bool b)] aa=some (True,.pv (.bool (!b))):=nr rfl
@[simp] def semQ_neg (k:IntKind) (n:Int):al .neg [.pv (.int k n)] aa=some (True,.pv (.int k (k.wrap (0-n)))):=nr rfl
@[simp] def semQ_cvi (k k':IntKind) (n:Int):al (.DY k) [.pv (.int k' n)] aa=some (True,.pv (.int k (k.wrap n))):=nr rfl
@[simp] def semQ_eqs (ne:Bool) (ks:List Nat) (xs ys:List AV):al (.eqs ne ks) [.agg xs,.agg ys] aa=(fR xs).bind fun a=>(fR ys).map fun b=>(a.map dP=ks/\b.map dP=ks,.pv (.bool (if ne then !kb a b else kb a b))):=nr rfl
@[simp] def abd:kb [] []=true:=nr rfl
@[simp] def Ut (a b:PV) (l m:List PV):kb (a::l) (b::m)=(oH a b&&kb l m):=nr rfl
@[simp] def eqP_int (k k':IntKind) (a b:Int):oH (.int k a) (.int k' b)=decide (a=b):=nr rfl
@[simp] def eqP_str (a b:List UInt8):oH (.str a) (.str b)=decide (a=b):=nr rfl
@[simp] def eqP_bool (a b:Bool):oH (.bool a) (.bool b)=decide (a=b):=nr rfl
@[simp] def Z1 (k:IntKind) (a b:Int):al (.IW true) [.pv (.int k a),.pv (.int k b)] aa=some (True,.pv (.int k (max a b))):=by simp[al]
@[simp] def XX (e:TypeId) (l:List UInt8):al (.qP e) [.pv (.str l)] aa=some (True,.pv (.ro (bytesRow l))):=nr rfl
@[simp] def XY (x:AV):al .uD [x] aa=(gr aa x).bind fun rows=>(bytesOf rows).map fun l=>(True,.pv (.str l)):=nr rfl
@[simp] def YS (rows:List (List PV)):gr aa (.pv (.ro rows))=some rows:=nr rfl
@[simp] def XI (t:Nat):gr aa (.own t)=(dx (aa t)).map (·.2):=nr rfl
@[simp] def Nt (l:List UInt8):al .yb [.pv (.str l)] aa=some (True,.pv (.int .i64 l.length)):=nr rfl
@[simp] def Ol:al .len [.pv .nil] aa=some (True,.pv (.int .i64 0)):=nr rfl
@[simp] def QG (rows:List (List PV)):al .len [.pv (.ro rows)] aa=some (True,.pv (.int .i64 rows.length)):=nr rfl
@[simp] def MK (t:Nat):al .len [.own t] aa=(FC (aa t)).map fun r=>(True,.pv (.int .i64 r.2)):=nr rfl
@[simp] def NZ (t:Nat) (e:TypeId) (lo hi:Nat):al .len [.sub t e lo hi] aa=(dx (aa t)).map fun _=>(True,.pv (.int .i64 ((hi:Int)-(lo:Int)))):=nr rfl
@[simp] def VB (l:List UInt8) (k:IntKind) (i:Int):al .yC [.pv (.str l),.pv (.int k i)] aa=some (0<=i/\i<l.length,.pv (.int .u8 ((l.getD i.toNat 0).toNat:Int))):=nr rfl
@[simp] def semQ_slc (sz:Nat) (lo hi:Bool) (rows:List (List PV)) (bs:List AV):al (.Fh sz lo hi) (.pv (.ro rows)::bs) aa=(bounds rows.length lo hi bs).map fun b:Int×Int=>(0<=b.1/\b.1<=b.2/\b.2<=(rows.length:Int)/\(∀r∈rows,r.length=sz),.pv (.ro (cut rows b.1 b.2))):=by unfold al;rfl
@[simp] def Mi (off t o:Nat):al (.uV off) [.ptr t o] aa=some (True,.ptr t (o+off)):=nr rfl
@[simp] def LS (off t o:Nat) (e:TypeId) (i:Int):al (.uV off) [.bd t e i o] aa=some (True,.bd t e i (o+off)):=nr rfl
@[simp] def OP (off:Nat) (cs:List PV):al (.uV off) [.rp cs] aa=some (True,.rp (cs.drop off)):=nr rfl
@[simp] def Mb (n sz t o:Nat) (k:IntKind) (i:Int):al (.IV n sz) [.ptr t o,.pv (.int k i)] aa=some (0<=i/\i<(n:Int),.ptr t (o+i.toNat*sz)):=nr rfl
@[simp] def OI (n sz:Nat) (cs:List PV) (k:IntKind) (i:Int):al (.IV n sz) [.rp cs,.pv (.int k i)] aa=some (0<=i/\i<(n:Int),.rp (cs.drop (i.toNat*sz))):=nr rfl
@[simp] def MV (t o:Nat):al .HD [.ptr t o] aa=some (True,.ptr t o):=nr rfl
@[simp] def P1 (cs:List PV):al .HD [.rp cs] aa=some (True,.rp cs):=nr rfl
@[simp] def LQ (t o:Nat):al (.load none) [.ptr t o] aa=(fT (aa t)).bind fun cs=>(cs[o]?).bind fun c=>if nB c=true then some (True,c) else none:=nr rfl
@[simp] def cellB_pv (p:PV):nB (.pv p)=true:=nr rfl
@[simp] def UE (t:Nat):nB (.own t)=true:=nr rfl
@[simp] def I0 (n t o:Nat):al (.load (some n)) [.ptr t o] aa=(fT (aa t)).bind fun cs=>if o+n<=cs.length then some (True,.agg ((cs.drop o).take n)) else none:=nr rfl
@[simp] def Ji (t o:Nat) (e:TypeId) (i:Int):al (.load none) [.bd t e i o] aa=nR e i o (aa t):=nr rfl
@[simp] def IM (n t o:Nat) (e:TypeId) (i:Int):al (.load (some n)) [.bd t e i o] aa=(dx (aa t)).bind fun r=>if r.1=e/\o+n<=(rowAt r.2 i).length then some (0<=i/\i<r.2.length,.agg ((((rowAt r.2 i).drop o).take n).map .pv)) else none:=nr rfl
@[simp] def M4 (c:PV) (cs:List PV):al (.load none) [.rp (c::cs)] aa=some (True,.pv c):=nr rfl
@[simp] def LP:al (.load none) [.rp []] aa=some (False,.pv (.int .u64 0)):=nr rfl
@[simp] def LV (n:Nat) (cs:List PV):al (.load (some n)) [.rp cs] aa=(if n<=cs.length then some (True,.agg ((cs.take n).map .pv)) else none):=nr rfl
@[simp] def PS (e:TypeId) (sz:Nat) (rows:List (List PV)) (k:IntKind) (i:Int):al (.Gi e sz) [.pv (.ro rows),.pv (.int k i)] aa=some (0<=i/\i<rows.length/\(rowAt rows i).length=sz,.rp (rowAt rows i)):=nr rfl
@[simp] def M3 (e:TypeId) (sz t:Nat) (k:IntKind) (i:Int):al (.Gi e sz) [.own t,.pv (.int k i)] aa=(FC (aa t)).bind fun r=>if r.1=e then some (0<=i/\i<r.2,.bd t e i 0) else none:=nr rfl
@[simp] def L4 (e e1:TypeId) (sz t lo hi:Nat) (k:IntKind) (i:Int):al (.Gi e sz) [.sub t e1 lo hi,.pv (.int k i)] aa=(dx (aa t)).bind fun r=>if r.1=e/\e1=e then some (0<=i/\i<(hi:Int)-(lo:Int),.bd t e ((lo:Int)+i) 0) else none:=nr rfl
@[simp] def NG (sz:Nat) (lo hi:Bool) (bs:List AV):al (.Fh sz lo hi) (.pv .nil::bs) aa=(bounds 0 lo hi bs).map fun b:Int×Int=>(b.1=0/\b.2=0,.pv .nil):=nr rfl
@[simp] def Mo (sz t:Nat) (lo hi:Bool) (bs:List AV):al (.Fh sz lo hi) (.own t::bs) aa=(dx (aa t)).bind fun r=>(bounds r.2.length lo hi bs).map fun b:Int×Int=>(0<=b.1/\b.1<=b.2/\b.2<=(r.2.length:Int)/\(∀x∈r.2,x.length=sz),.sub t r.1 b.1.toNat b.2.toNat):=nr rfl
@[simp] def ZN (i:Nat) (vs:List AV):al (.ext i) [.aN vs] aa=(vs[i]?).map fun v=>(True,v):=nr rfl
@[simp] def semQ_bld (zs:List Value) (ps:List (Nat×Nat)) (xs:List AV):al (.L0 zs ps) xs aa=(mu (zs.map cv) ps xs).map fun cs=>(True,.agg cs):=by unfold al;rfl
@[simp] def Yy (f:FuncId) (xs:List AV):al (.LR f) xs aa=some (True,.bI f xs):=by unfold al;rfl
@[simp] def UJ (e:TypeId) (d:Nat) (xs:List AV):cQ (.iU e) d xs aa=some (True,.own d,.arr e []):=by unfold cQ;rfl
@[simp] def semF_box (d:Nat) (x:AV):cQ .box d [x] aa=(if gP (cellsOf x) then some (True,.ptr d 0,.box (cellsOf x)) else none):=nr rfl
@[simp] def Sm (d:Nat) (zs:List Value) (xs:List AV):cQ (.alloc zs) d xs aa=(if zs.all (·.oneCell') then some (True,.ptr d 0,.box (zs.map cv)) else none):=by unfold cQ;rfl
@[simp] def semF_bsl (e:TypeId) (sz d:Nat) (xs:List AV):cQ (.uF e sz) d xs aa=(rowsOf xs).map fun rows=>(∀r∈rows,r.length=sz,.own d,.arr e rows):=by unfold cQ;rfl
@[simp] def semF_app (e:TypeId) (sz bytes d:Nat) (x:AV):cQ (.app e sz bytes) d [.pv .nil,x] aa=(dk aa x).map fun rows=>(rows.length*bytes<=140737488355328/\rows.length<=maxLen/\(∀r∈rows,r.length=sz),.own d,.arr e rows):=nr rfl
@[simp] def J1 (t o:Nat) (v:AV):fo (.store none) [.ptr t o,v] aa=(fT (aa t)).bind fun cs=>if fk v/\o<cs.length then some (True,t,.box (cs.set o v)) else none:=nr rfl
@[simp] def IT (n t o:Nat) (vs:List AV):fo (.store (some n)) [.ptr t o,.agg vs] aa=(fT (aa t)).bind fun cs=>if gP vs/\vs.length=n/\o+n<=cs.length then some (True,t,.box (cd cs o vs)) else none:=nr rfl
@[simp] def IU (t o:Nat) (e:TypeId) (i:Int) (p:PV):fo (.store none) [.bd t e i o,.pv p] aa=(dx (aa t)).bind fun r=>if r.1=e/\o<(rowAt r.2 i).length/\fk (.pv p) then some (0<=i/\i<r.2.length,t,.arr e (r.2.set i.toNat ((rowAt r.2 i).set o p))) else none:=nr rfl
@[simp] def Hg (n t o:Nat) (e:TypeId) (i:Int) (vs:List AV):fo (.store (some n)) [.bd t e i o,.agg vs] aa=(dx (aa t)).bind fun r=>(fR vs).bind fun ps=>if r.1=e/\gP vs/\ps.length=n/\o+n<=(rowAt r.2 i).length then some (0<=i/\i<r.2.length,t,.arr e (r.2.set i.toNat (cd (rowAt r.2 i) o ps))) else none:=nr rfl
@[simp] def aaU (e:TypeId) (sz bytes t:Nat) (x:AV):fo (.app e sz bytes) [.own t,x] aa=(dx (aa t)).bind fun r=>(dk aa x).bind fun more=>if r.1=e/\t%1000≠999 then some ((r.2.length+more.length)*bytes<=140737488355328/\r.2.length+more.length<=maxLen/\(∀r∈more,r.length=sz),t,.arr e (r.2++more)) else none:=nr rfl
@[simp] def pvOf_pv (p:PV):H9 (.pv p)=some p:=nr rfl
@[simp] def UD:fR []=some []:=nr rfl
@[simp] def RZ (v:AV) (l:List AV):fR (v::l)=(H9 v).bind fun p=>(fR l).map (p::·):=nr rfl
@[simp] def rowOf_pv (p:PV):rowOf (.pv p)=some [p]:=nr rfl
@[simp] def Yh (cs:List AV):rowOf (.agg cs)=fR cs:=nr rfl
@[simp] def Rr:rowsOf []=some []:=nr rfl
@[simp] def PQ (v:AV) (l:List AV):rowsOf (v::l)=(rowOf v).bind fun p=>(rowsOf l).map (p::·):=nr rfl
@[simp] def OD (cs:List AV):cellsOf (.agg cs)=cs:=nr rfl
@[simp] def Sy (p:PV):cellsOf (.pv p)=[.pv p]:=nr rfl
@[simp] def PZ (t:Nat):cellsOf (.own t)=[.own t]:=nr rfl
@[simp] def SX (cs:List AV):mu cs [] []=some cs:=nr rfl
@[simp] def OH (cs:List AV) (off n:Nat) (ps:List (Nat×Nat)) (x:AV) (xs:List AV):mu cs ((off,n)::ps) (x::xs)=if nk x=true/\(cellsOf x).length=n/\off+n<=cs.length then mu (lay cs off ((cellsOf x).map sS)) ps xs else none:=nr rfl
@[simp] def nrmF_pv (p:PV):sS (.pv p)=.pv p:=nr rfl
@[simp] def nrmF_own (t:Nat):sS (.own t)=.own t:=nr rfl
@[simp] def nrmF_clo (f:FuncId):sS (.bI f [])=.pv (.val (.func (.func f) #[] #[])):=nr rfl
@[simp] def Vt (rows:List (List PV)):dk aa (.pv (.ro rows))=some rows:=nr rfl
@[simp] def TZ (l:List UInt8):dk aa (.pv (.str l))=some (bytesRow l):=nr rfl
@[simp] def QK (t:Nat):dk aa (.own t)=(dx (aa t)).map (·.2):=nr rfl
@[simp] def YJ:eU aa (.pv .nil)=some (.ro []):=nr rfl
@[simp] def reiP_int (k:IntKind) (n:Int):eU aa (.pv (.int k n))=some (.int k n):=nr rfl
@[simp] def Xc (b:Bool):eU aa (.pv (.bool b))=some (.bool b):=nr rfl
@[simp] def reiP_str (l:List UInt8):eU aa (.pv (.str l))=some (.str l):=nr rfl
@[simp] def reiP_ro (rows:List (List PV)):eU aa (.pv (.ro rows))=some (.ro rows):=nr rfl
@[simp] def reiP_own (t:Nat):eU aa (.own t)=IH (aa t):=nr rfl
@[simp] def reiO_arr (e:TypeId) (rows:List (List PV)):IH (some (.arr e rows))=some (.ro rows):=nr rfl
@[simp] def ZK (es:List (PV×AV)):IH (some (.map es))=if es.all (fun e=>Gv e.2)=true then some (.mp (es.map (·.1))) else none:=nr rfl
@[simp] def Uu:yS (.agg #[])=true:=nr rfl
@[simp] def reiP_sub (t:Nat) (e:TypeId) (lo hi:Nat):eU aa (.sub t e lo hi)=(dx (aa t)).bind fun r=>if r.1=e then some (.ro ((r.2.take hi).drop lo)) else none:=nr rfl
@[simp] def WM:ja aa []=some []:=nr rfl
@[simp] def QW (c:AV) (cs:List AV):ja aa (c::cs)=(eU aa c).bind fun p=>(ja aa cs).map (p::·):=nr rfl
@[simp] def rei1_ptr (t o:Nat):gj aa (.ptr t o)=(fT (aa t)).bind fun cs=>(ja aa (cs.drop o)).map .rp:=nr rfl
@[simp] def rei1_rp (cs:List PV):gj aa (.rp cs)=some (.rp cs):=nr rfl
@[simp] def Yl:mE aa []=some []:=nr rfl
@[simp] def Tl (c:AV) (cs:List AV):mE aa (c::cs)=(gj aa c).bind fun p=>(mE aa cs).map (p::·):=nr rfl
@[simp] def rei_clo (f:FuncId) (caps:List AV):qD aa (.bI f caps)=(mE aa caps).map (.bI f):=nr rfl
@[simp] def rei_ptr (t o:Nat):qD aa (.ptr t o)=gj aa (.ptr t o):=nr rfl
@[simp] def rei_rp (cs:List PV):qD aa (.rp cs)=some (.rp cs):=nr rfl
@[simp] def rei_agg (cs:List AV):qD aa (.agg cs)=(ja aa cs).map fun ps=>.agg (ps.map .pv):=nr rfl
@[simp] def rei_pv (p:PV):qD aa (.pv p)=(eU aa (.pv p)).map .pv:=nr rfl
@[simp] def rei_own (t:Nat):qD aa (.own t)=(eU aa (.own t)).map .pv:=nr rfl
@[simp] def rei_sub (t:Nat) (e:TypeId) (lo hi:Nat):qD aa (.sub t e lo hi)=(eU aa (.sub t e lo hi)).map .pv:=nr rfl
@[simp] def reis_nil:gB aa []=some []:=nr rfl
@[simp] def UT (c:AV) (cs:List AV):gB aa (c::cs)=(qD aa c).bind fun p=>(gB aa cs).map (p::·):=nr rfl
@[simp] def aa6 (p:PV):iL (.pv p)=true:=nr rfl
@[simp] def aaR (cs:List PV):iL (.rp cs)=true:=nr rfl
@[simp] def VM (t:Nat):iL (.own t)=false:=nr rfl
@[simp] def Wo (t o:Nat):iL (.ptr t o)=false:=nr rfl
@[simp] def T9:iY []=true:=nr rfl
@[simp] def Pw (c:AV) (cs:List AV):iY (c::cs)=(iL c&&iY cs):=nr rfl
@[simp] def Wh (cs:List AV):eL (.agg cs)=iY cs:=nr rfl
@[simp] def Wg (f:FuncId) (cs:List AV):eL (.bI f cs)=iY cs:=nr rfl
@[simp] def pure1_pv (p:PV):eL (.pv p)=true:=nr rfl
@[simp] def pure1_rp (cs:List PV):eL (.rp cs)=true:=nr rfl
@[simp] def Yb (t:Nat):eL (.own t)=false:=nr rfl
@[simp] def U3 (t:Nat) (e:TypeId) (lo hi:Nat):eL (.sub t e lo hi)=false:=nr rfl
@[simp] def XC (t o:Nat):eL (.ptr t o)=false:=nr rfl
@[simp] def WR:fB []=true:=nr rfl
@[simp] def Tz (c:AV) (cs:List AV):fB (c::cs)=(eL c&&fB cs):=nr rfl
@[simp] def one_int (k:IntKind) (n:Int):fk (.pv (.int k n))=true:=nr rfl
@[simp] def ZE (b:Bool):fk (.pv (.bool b))=true:=nr rfl
@[simp] def one_str (l:List UInt8):fk (.pv (.str l))=true:=nr rfl
@[simp] def one_nil:fk (.pv .nil)=true:=nr rfl
@[simp] def one_ro (rows:List (List PV)):fk (.pv (.ro rows))=true:=nr rfl
@[simp] def one_own (t:Nat):fk (.own t)=true:=nr rfl
@[simp] def ones_nil:gP []=true:=nr rfl
@[simp] def UA (c:AV) (cs:List AV):gP (c::cs)=(fk c&&gP cs):=nr rfl
@[simp] def Uk (cs:List AV):nk (.agg cs)=true:=nr rfl
@[simp] def Vk (p:PV):nk (.pv p)=fk (.pv p):=nr rfl
@[simp] def RH (t:Nat):nk (.own t)=true:=nr rfl
@[simp] def VR (t s:Nat):cq t (.own s)=if s=t then .ak else .own s:=nr rfl
@[simp] def YV (t:Nat) (p:PV):cq t (.pv p)=.pv p:=nr rfl
@[simp] def RM (t:Nat):cq t .ak=.ak:=nr rfl
@[simp] def Rg (t:Nat):cf t []=[]:=nr rfl
@[simp] def Qz (t:Nat) (c:AV) (cs:List AV):cf t (c::cs)=cq t c::cf t cs:=nr rfl
@[simp] def Zm (t:Nat) (cs:List AV):kill t (.agg cs)=.agg (cf t cs):=nr rfl
@[simp] def Ys (t s:Nat):kill t (.own s)=if s=t then .ak else .own s:=nr rfl
@[simp] def sK (t s:Nat) (e:TypeId) (i:Int) (o:Nat):kill t (.bd s e i o)=if s=t then .ak else .bd s e i o:=nr rfl
@[simp] def kill_pv (t:Nat) (p:PV):kill t (.pv p)=.pv p:=nr rfl
@[simp] def wE (t s o:Nat):kill t (.ptr s o)=.ptr s o:=nr rfl
@[simp] def AH (t:Nat) (cs:List PV):kill t (.rp cs)=.rp cs:=nr rfl
@[simp] def U5 (t:Nat):kill t .ak=.ak:=nr rfl
@[simp] def Zl (t:Nat) (g:Bool) (v:AV):kill t (.cx g v)=.cx g (kill t v):=nr rfl
@[simp] def YR (t:Nat) (f:FuncId) (c:AV) (cs:List AV):kill t (.bI f (c::cs))=.ak:=nr rfl
@[simp] def Vi (t:Nat) (f:FuncId):kill t (.bI f [])=.bI f []:=nr rfl
@[simp] def WB (t:Nat) (cs:List AV):eM t (.box cs)=.box (cf t cs):=nr rfl
@[simp] def WJ (t:Nat) (e:TypeId) (rows:List (List PV)):eM t (.arr e rows)=.arr e rows:=nr rfl
@[simp] def X6 (g:Nat->AV->AV) (j:Nat):gQ g j []=[]:=nr rfl
@[simp] def TC (g:Nat->AV->AV) (j:Nat) (c:AV) (cs:List AV):gQ g j (c::cs)=g (1000*j) c::gQ g (j+1) cs:=nr rfl
@[simp] def Yu (g:Nat->AV->AV) (cs:List AV):pg g (.agg cs)=.agg (gQ g 0 cs):=nr rfl
@[simp] def map1_pv (g:Nat->AV->AV) (p:PV):pg g (.pv p)=g 0 (.pv p):=nr rfl
@[simp] def map1_fr (g:Nat->AV->AV) (e:TypeId) (rows:List (List PV)):pg g (.fr e rows)=g 0 (.fr e rows):=nr rfl
@[simp] def UG (g:Nat->AV->AV) (i:Nat):jN g i []=[]:=nr rfl
@[simp] def Sz (g:Nat->AV->AV) (i:Nat) (v:AV) (vs:List AV):jN g i (v::vs)=pg (fun p c=>g (p+i) c) v::jN g (i+1) vs:=nr rfl
@[simp] def Rj (g:Nat->AV->AV) (vs:List AV):dn g (.aN vs)=.aN (jN g 0 vs):=nr rfl
@[simp] def Yd (g:Nat->AV->AV) (p:PV):dn g (.pv p)=g 0 (.pv p):=nr rfl
@[simp] def WL (g:Nat->AV->AV) (e:TypeId) (rows:List (List PV)):dn g (.fr e rows)=g 0 (.fr e rows):=nr rfl
@[simp] def Sr (g:Nat->AV->AV) (cs:List AV):dn g (.agg cs)=.agg (gQ g 0 cs):=nr rfl
@[simp] def tagC_fr (d p:Nat) (e:TypeId) (rows:List (List PV)):mX d p (.fr e rows)=.own (d+1000*p):=nr rfl
@[simp] def tagC_pv (d p:Nat) (q:PV):mX d p (.pv q)=.pv q:=nr rfl
@[simp 1100] def map_pair (d p:Nat) (o:AO) (l:List (Nat×AO)):List.map (fun x:Nat×AO=>(d+1000*x.1,x.2)) ((p,o)::l)=(d+1000*p,o)::List.map (fun x:Nat×AO=>(d+1000*x.1,x.2)) l:=nr rfl
@[simp] def Us (j:Nat):gR j []=[]:=nr rfl
@[simp] def aab (j:Nat) (e:TypeId) (rows:List (List PV)) (cs:List AV):gR j (.fr e rows::cs)=(1000*j,.arr e rows)::gR (j+1) cs:=nr rfl
@[simp] def frsCs_pv (j:Nat) (p:PV) (cs:List AV):gR j (.pv p::cs)=gR (j+1) cs:=nr rfl
@[simp] def ZB (cs:List AV):mU (.agg cs)=gR 0 cs:=nr rfl
@[simp] def frs1_fr (e:TypeId) (rows:List (List PV)):mU (.fr e rows)=[(0,.arr e rows)]:=nr rfl
@[simp] def frs1_pv (p:PV):mU (.pv p)=[]:=nr rfl
@[simp] def VA (i:Nat):ng i []=[]:=nr rfl
@[simp] def Sq (i:Nat) (v:AV) (vs:List AV):ng i (v::vs)=(mU v).map (fun x=>(x.1+i,x.2))++ng (i+1) vs:=nr rfl
@[simp] def resC_pv (p:PV):j5 (.pv p)=true:=nr rfl
@[simp] def resC_fr (e:TypeId) (rows:List (List PV)):j5 (.fr e rows)=true:=nr rfl
@[simp] def WH:mZ []=true:=nr rfl
@[simp] def SG (c:AV) (cs:List AV):mZ (c::cs)=(j5 c&&mZ cs):=nr rfl
@[simp] def res1_agg (cs:List AV):nL (.agg cs)=mZ cs:=nr rfl
@[simp] def res1_pv (p:PV):nL (.pv p)=true:=nr rfl
@[simp] def res1_fr (e:TypeId) (rows:List (List PV)):nL (.fr e rows)=true:=nr rfl
@[simp] def Xd:ui []=true:=nr rfl
@[simp] def Sh (c:AV) (cs:List AV):ui (c::cs)=(nL c&&ui cs):=nr rfl
@[simp] def XV (vs:List AV):dv (.aN vs)=(decide (vs.length<=900)&&ui vs):=nr rfl
@[simp] def Wb (cs:List AV):dv (.agg cs)=mZ cs:=nr rfl
@[simp] def resOK_pv (p:PV):dv (.pv p)=true:=nr rfl
@[simp] def resOK_fr (e:TypeId) (rows:List (List PV)):dv (.fr e rows)=true:=nr rfl
@[simp] def frs_tup (vs:List AV):DU (.aN vs)=ng 0 vs:=nr rfl
@[simp] def frs_agg (cs:List AV):DU (.agg cs)=gR 0 cs:=nr rfl
@[simp] def frs_fr (e:TypeId) (rows:List (List PV)):DU (.fr e rows)=[(0,.arr e rows)]:=nr rfl
@[simp] def frs_pv (p:PV):DU (.pv p)=[]:=nr rfl
@[simp] def Wn (k:IntKind) (n:Int):jg (.int k n)=true:=nr rfl
@[simp] def SK (b:Bool):jg (.bool b)=true:=nr rfl
@[simp] def Vj (l:List UInt8):jg (.str l)=true:=nr rfl
@[simp] def flatP_ro (rows:List (List PV)):jg (.ro rows)=rows.isEmpty:=nr rfl
@[simp] def flatC_pv (p:PV):pM (.pv p)=(jg p=true):=nr rfl
@[simp] def flatC_fr (e:TypeId) (rows:List (List PV)):pM (.fr e rows)=bP rows:=nr rfl
@[simp] def X0:qG []=True:=nr rfl
@[simp] def Rq (c:AV) (cs:List AV):qG (c::cs)=(pM c/\qG cs):=nr rfl
@[simp] def VL (cs:List AV):mA (.agg cs)=qG cs:=nr rfl
@[simp] def ZD (p:PV):mA (.pv p)=(jg p=true):=nr rfl
@[simp] def abl (e:TypeId) (rows:List (List PV)):mA (.fr e rows)=bP rows:=nr rfl
@[simp] def Xo:tD []=True:=nr rfl
@[simp] def QU (c:AV) (cs:List AV):tD (c::cs)=(mA c/\tD cs):=nr rfl
@[simp] def flat_tup (vs:List AV):flat (.aN vs)=tD vs:=nr rfl
@[simp] def flat_agg (cs:List AV):flat (.agg cs)=qG cs:=nr rfl
@[simp] def flat_pv (p:PV):flat (.pv p)=(jg p=true):=nr rfl
@[simp] def flat_fr (e:TypeId) (rows:List (List PV)):flat (.fr e rows)=bP rows:=nr rfl
end
@[simp] def noM_clo (un:List Nat) (aa:Nat->Option AO) (f:FuncId) (cs:List AV):tz un aa (.bI f cs)=mI un aa cs:=nr rfl
@[simp] def noM_pv (un:List Nat) (aa:Nat->Option AO) (p:PV):tz un aa (.pv p)=True:=nr rfl
@[simp] def noM_rp (un:List Nat) (aa:Nat->Option AO) (cs:List PV):tz un aa (.rp cs)=True:=nr rfl
@[simp] def noM_junk (un:List Nat) (aa:Nat->Option AO):tz un aa .ak=True:=nr rfl
@[simp] def noM_tup (un:List Nat) (aa:Nat->Option AO) (cs:List AV):tz un aa (.aN cs)=True:=nr rfl
@[simp] def noM_agg (un:List Nat) (aa:Nat->Option AO) (cs:List AV):tz un aa (.agg cs)=jh un cs:=nr rfl
@[simp] def noM_own (un:List Nat) (aa:Nat->Option AO) (t:Nat):tz un aa (.own t)=lB un t:=nr rfl
@[simp] def Zk (un:List Nat) (aa:Nat->Option AO) (t:Nat) (e:TypeId) (i:Int) (o:Nat):tz un aa (.bd t e i o)=lB un t:=nr rfl
@[simp] def FN (un:List Nat) (aa:Nat->Option AO) (t:Nat) (e:TypeId) (i o:Nat):tz un aa (.sub t e i o)=lB un t:=nr rfl
@[simp] def noM_ptr (un:List Nat) (aa:Nat->Option AO) (t o:Nat):tz un aa (.ptr t o)=(lB un t/\jh un ((fT (aa t)).getD [])):=nr rfl
@[simp] def noMP_rp (un:List Nat) (aa:Nat->Option AO) (cs:List PV):qt un aa (.rp cs)=True:=nr rfl
@[simp] def xA (un:List Nat) (aa:Nat->Option AO) (t:Nat) (e:TypeId) (i o:Nat):qt un aa (.sub t e i o)=lB un t:=nr rfl
@[simp] def noMP_ptr (un:List Nat) (aa:Nat->Option AO) (t o:Nat):qt un aa (.ptr t o)=(lB un t/\jh un ((fT (aa t)).getD [])):=nr rfl
@[simp] def Vr (un:List Nat) (aa:Nat->Option AO):mI un aa []=True:=nr rfl
@[simp] def Q1 (un:List Nat) (aa:Nat->Option AO) (c:AV) (cs:List AV):mI un aa (c::cs)=(qt un aa c/\mI un aa cs):=nr rfl
@[simp] def noMs_nil (un:List Nat) (aa:Nat->Option AO):ll un aa []=True:=nr rfl
@[simp] def WI (un:List Nat) (aa:Nat->Option AO) (c:AV) (cs:List AV):ll un aa (c::cs)=(tz un aa c/\ll un aa cs):=nr rfl
attribute[simp] lay cd lB yB jh
end Go.Proofs.YtifcndkhigakfaaGreat.Ab.R
