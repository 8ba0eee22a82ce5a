/- How the abstract machine reckons: rewrite rules. -/
import Derived.Test.YtlmkcmfmfahcfaaGreatX1
import Derived.Deep.AppendLies
import Derived.Deep.Draws
import Derived.Maps.AppendAt
import Derived.Laws.OwnMore
import Derived.Deep.AppendSrc
import Derived.Deep.Upon
set_option linter.unusedVariables false
set_option linter.unusedSimpArgs false
set_option linter.unnecessarySimpa false
set_option maxHeartbeats 40000000
set_option maxRecDepth 100000
namespace Go.Proofs.YtlmkcmfmfahcfaaGreat.Ab.R
open Go Go.RowKit
theorem nr {α:Sort _}{a b:α} (h:a=b):a=b:=h
@[congr] theorem Fo {α:Type}{o o':Option α}{K:α→Prop} (h:True→o=o'):ah o K=ah o' K:=by rw[h trivial]
@[congr] theorem El {P:Program}{Γ:bI}{is:List AI}{K:St→Prop}{st st':St} (h:True→st=st'):ct P Γ is K st=ct P Γ is K st':=by rw[h trivial]
@[congr] theorem FH {P:Program}{Γ:bI}{i:AI}{K:St→Prop}{st st':St} (h:True→st=st'):cw P Γ i K st=cw P Γ i K st':=by rw[h trivial]
@[congr] theorem H7 {P:Program}{Γ:bI}{d:Option Nat}{k:AK}{xs xs':List AV}{C:bz→Prop}{aa:Nat→Option AO} (hx:True→xs=xs'):aS P Γ d k xs aa C=aS P Γ d k xs' aa C:=by rw[hx trivial]
@[congr] theorem Kg {P:Program}{Γ:bI}{c c':Bool}{d:Option Nat}{k:AK}{xs xs':List AV}{C:bz→Prop}{aa:Nat→Option AO} (hc:True→c=c') (hx:True→xs=xs'):b7 P Γ c d k xs aa C=b7 P Γ c' d k xs' aa C:=by rw[hx trivial,hc trivial]
@[congr] theorem KB {P:Program}{Γ:bI}{c:AC}{K:St→Prop}{J:Exit→St→Prop}{st st':St} (h:True→st=st'):fT P Γ c K J st=fT P Γ c K J st':=by rw[h trivial]
@[simp↓] theorem Yw {A B:Prop}:((true=true→A)∧(true=false→B))=A:=by simp
@[simp↓] theorem Yu {A B:Prop}:((false=true→A)∧(false=false→B))=B:=by simp
@[simp↓] theorem Kk {α:Type} (x:α) (K:α→Prop):ah (some x) K=K x:=rfl
@[simp↓] theorem Hh {α:Type} (K:α→Prop):ah (none:Option α) K=False:=rfl
section
variable{P:Program}{Γ:bI}{K:St→Prop}{J:Exit→St→Prop}{vs:List (Nat×AV)}{os:List (Nat×AO)}
@[simp↓] theorem RK:fT P Γ .skip K J ⟨look vs,ab os⟩=K ⟨look vs,ab os⟩:=rfl
@[simp↓] theorem TW {is:List AI}{bS:List Nat}:fT P Γ (.ag is true bS) K J ⟨look vs,ab os⟩=steps P Γ is (fun st'=>K ⟨gY bS st'.vars,st'.aa⟩) ⟨look vs,ab os⟩:=rfl
@[simp↓] theorem NU {is:List AI}{bS:List Nat}:fT P Γ (.ag is false bS) K J ⟨look vs,ab os⟩=ct P Γ is (fun st'=>K ⟨gY bS st'.vars,st'.aa⟩) ⟨look vs,ab os⟩:=rfl
@[simp↓] theorem HW:ct P Γ [] K ⟨look vs,ab os⟩=K ⟨look vs,ab os⟩:=rfl
@[simp↓] theorem Gl {i:AI}{is:List AI}:ct P Γ (i::is) K ⟨look vs,ab os⟩=bN P Γ i (fun st'=>ct P Γ is K st') ⟨look vs,ab os⟩:=rfl
@[simp↓] theorem IU {d:Option Nat}{xs:List Operand}{g:Option (Nat×Bool)}{un:List Nat}{tg:Option Nat}:bN P Γ ⟨d,.gi,xs,g,un,tg⟩ K ⟨look vs,ab os⟩=eO P Γ d (xs.map (ev (look vs))) g K ⟨look vs,ab os⟩:=rfl
@[simp↓] theorem I7 {d:Option Nat}{k:AK}{xs:List Operand}{un:List Nat}{tg:Option Nat}:bV P Γ ⟨d,k,xs,none,un,tg⟩ K ⟨look vs,ab os⟩=cw P Γ ⟨d,k,xs,none,un,tg⟩ K ⟨look vs,ab os⟩:=rfl
@[simp↓] theorem JH {d:Option Nat}{k:AK}{xs:List Operand}{s:Nat}{w:Bool}{un:List Nat}{tg:Option Nat}:bV P Γ ⟨d,k,xs,some (s,w),un,tg⟩ K ⟨look vs,ab os⟩=fL (eE ((xs.map (ev (look vs))).map strip)) (ED (bC (look vs s) w)) (cw P Γ ⟨d,k,xs,some (s,w),un,tg⟩ K ⟨look vs,ab os⟩) (K ((bz.put (.bX false .aq)).on d ⟨look vs,ab os⟩)):=rfl
@[congr] theorem FQ {b b' f:Bool}{A B:Prop} (h:True→b=b'):fL b f A B=fL b' f A B:=by rw[h trivial]
@[simp↓] theorem GF {f:Bool}{A B:Prop}:fL false f A B=A:=rfl
@[simp↓] theorem Ig {f:Bool}{A B:Prop}:fL true f A B=if f=true then B else A:=rfl
def NF (P:Program) (Γ:bI) (d:Option Nat) (K:St→Prop) (st:St):FuncId×List AV→Prop|(f,ys)=>gI P f=true∧dU P Γ d f ys (cW Γ f) K st
@[simp↓] theorem IL {d:Option Nat}{xs:List AV}:eO P Γ d xs none K ⟨look vs,ab os⟩=(al xs∧ah (jk (xs.map strip)) (NF P Γ d K ⟨look vs,ab os⟩)):=rfl
@[simp↓] theorem TZ {d:Option Nat}{f:FuncId}{ys:List AV}:NF P Γ d K ⟨look vs,ab os⟩ (f,ys)=(gI P f=true∧dU P Γ d f ys (cW Γ f) K ⟨look vs,ab os⟩):=rfl
@[simp↓] theorem Fx {d:Option Nat}{f:FuncId}{ys:List AV}:dU P Γ d f ys none K ⟨look vs,ab os⟩=cf P Γ d f ys (ab os) fun e=>K (e.on d ⟨look vs,ab os⟩):=rfl
@[simp↓] theorem GX {d:Option Nat}{f:FuncId}{ys:List AV}{p k:Nat}:dU P Γ d f ys (some (p,k)) K ⟨look vs,ab os⟩=if k=996 then stepG Γ d f ys (gm Γ f) K ⟨look vs,ab os⟩ else False:=rfl
@[congr] theorem Ev {d:Option Nat}{f:FuncId}{ys ys':List AV}{o o':Option (Nat×Nat)}{st:St} (h1:True→ys=ys') (h:True→o=o'):dU P Γ d f ys o K st=dU P Γ d f ys' o' K st:=by rw[h1 trivial,h trivial]
@[simp↓] theorem J9 {d:Option Nat}{xs:List AV}{s:Nat}{w:Bool}:eO P Γ d xs (some (s,w)) K ⟨look vs,ab os⟩=fL (eE (xs.map strip)) (ED (bC (look vs s) w)) (nn P Γ d xs s w K ⟨look vs,ab os⟩) (K ((bz.put (.bX false .aq)).on d ⟨look vs,ab os⟩)):=rfl
def Qq (P:Program) (Γ:bI) (d:Option Nat) (A:Prop) (c:Bool) (K:St→Prop) (st:St):FuncId×List AV→Prop|(f,ys)=>gI P f=true∧fQ P Γ d f ys A c (cW Γ f) K st
@[simp↓] theorem Uk {d:Option Nat}{A:Prop}{c:Bool}{f:FuncId}{ys:List AV}:Qq P Γ d A c K ⟨look vs,ab os⟩ (f,ys)=(gI P f=true∧fQ P Γ d f ys A c (cW Γ f) K ⟨look vs,ab os⟩):=rfl
@[simp↓] theorem KW {d:Option Nat}{xs:List AV}{s:Nat}{w:Bool}:nn P Γ d xs s w K ⟨look vs,ab os⟩=ah (bC (look vs s) w) fun c=>ah (jk (xs.map strip)) (Qq P Γ d (al xs) c K ⟨look vs,ab os⟩):=rfl
@[simp↓] theorem E1 {d:Option Nat}{f:FuncId}{ys:List AV}{A:Prop}{c:Bool}:fQ P Γ d f ys A c none K ⟨look vs,ab os⟩=wv Γ c f ys (ab os) fun e=>(c=true→A)∧K (e.on d ⟨look vs,ab os⟩):=rfl
@[simp↓] theorem DB {d:Option Nat}{f:FuncId}{ys:List AV}{A:Prop}{c:Bool}{p k:Nat}:fQ P Γ d f ys A c (some (p,k)) K ⟨look vs,ab os⟩=if k=996 then(if c=true then A∧stepG Γ d f ys (gm Γ f) K ⟨look vs,ab os⟩ else K ((bz.put (.bX false .aq)).on d ⟨look vs,ab os⟩)) else False:=rfl
@[congr] theorem C3 {d:Option Nat}{f:FuncId}{ys ys':List AV}{A:Prop}{c:Bool}{o o':Option (Nat×Nat)}{st:St} (h1:True→ys=ys') (h:True→o=o'):fQ P Γ d f ys A c o K st=fQ P Γ d f ys' A c o' K st:=by rw[h1 trivial,h trivial]
@[simp] theorem Mi {f:FuncId}{caps args:List AV}:jk (.bB f caps::args)=some (f,args++caps):=nr rfl
@[simp↓] theorem Kq {d:Option Nat}{xs:List Operand}{g:Option (Nat×Bool)}{un:List Nat}{tg:Option Nat}:bN P Γ ⟨d,.aM,xs,g,un,tg⟩ K ⟨look vs,ab os⟩=bV P Γ ⟨d,.aM,xs,g,un,tg⟩ K ⟨look vs,ab os⟩:=rfl
@[simp↓] theorem HF {d:Option Nat}{xs:List Operand}{g:Option (Nat×Bool)}{un:List Nat}{tg:Option Nat}:bN P Γ ⟨d,.pick,xs,g,un,tg⟩ K ⟨look vs,ab os⟩=bV P Γ ⟨d,.pick,xs,g,un,tg⟩ K ⟨look vs,ab os⟩:=rfl
@[simp↓] theorem KZ {d:Option Nat}{xs:List Operand}{g:Option (Nat×Bool)}{un:List Nat}{tg:Option Nat}{op:BinOp}:bN P Γ ⟨d,.bin op,xs,g,un,tg⟩ K ⟨look vs,ab os⟩=bV P Γ ⟨d,.bin op,xs,g,un,tg⟩ K ⟨look vs,ab os⟩:=rfl
@[simp↓] theorem LY {d:Option Nat}{xs:List Operand}{g:Option (Nat×Bool)}{un:List Nat}{tg:Option Nat}{ne:Bool}:bN P Γ ⟨d,.beq ne,xs,g,un,tg⟩ K ⟨look vs,ab os⟩=bV P Γ ⟨d,.beq ne,xs,g,un,tg⟩ K ⟨look vs,ab os⟩:=rfl
@[simp↓] theorem LH {d:Option Nat}{xs:List Operand}{g:Option (Nat×Bool)}{un:List Nat}{tg:Option Nat}:bN P Γ ⟨d,.not,xs,g,un,tg⟩ K ⟨look vs,ab os⟩=bV P Γ ⟨d,.not,xs,g,un,tg⟩ K ⟨look vs,ab os⟩:=rfl
@[simp↓] theorem Mf {d:Option Nat}{xs:List Operand}{g:Option (Nat×Bool)}{un:List Nat}{tg:Option Nat}:bN P Γ ⟨d,.neg,xs,g,un,tg⟩ K ⟨look vs,ab os⟩=bV P Γ ⟨d,.neg,xs,g,un,tg⟩ K ⟨look vs,ab os⟩:=rfl
@[simp↓] theorem MM {d:Option Nat}{xs:List Operand}{g:Option (Nat×Bool)}{un:List Nat}{tg:Option Nat}{k:IntKind}:bN P Γ ⟨d,.rK k,xs,g,un,tg⟩ K ⟨look vs,ab os⟩=bV P Γ ⟨d,.rK k,xs,g,un,tg⟩ K ⟨look vs,ab os⟩:=rfl
@[simp↓] theorem Ng {d:Option Nat}{xs:List Operand}{g:Option (Nat×Bool)}{un:List Nat}{tg:Option Nat}:bN P Γ ⟨d,.yS,xs,g,un,tg⟩ K ⟨look vs,ab os⟩=bV P Γ ⟨d,.yS,xs,g,un,tg⟩ K ⟨look vs,ab os⟩:=rfl
@[simp↓] theorem LK {d:Option Nat}{xs:List Operand}{g:Option (Nat×Bool)}{un:List Nat}{tg:Option Nat}:bN P Γ ⟨d,.len,xs,g,un,tg⟩ K ⟨look vs,ab os⟩=bV P Γ ⟨d,.len,xs,g,un,tg⟩ K ⟨look vs,ab os⟩:=rfl
@[simp↓] theorem Jl {d:Option Nat}{xs:List Operand}{g:Option (Nat×Bool)}{un:List Nat}{tg:Option Nat}:bN P Γ ⟨d,.kP,xs,g,un,tg⟩ K ⟨look vs,ab os⟩=bV P Γ ⟨d,.kP,xs,g,un,tg⟩ K ⟨look vs,ab os⟩:=rfl
@[simp↓] theorem Jq {d:Option Nat}{xs:List Operand}{g:Option (Nat×Bool)}{un:List Nat}{tg:Option Nat}:bN P Γ ⟨d,.jI,xs,g,un,tg⟩ K ⟨look vs,ab os⟩=bV P Γ ⟨d,.jI,xs,g,un,tg⟩ K ⟨look vs,ab os⟩:=rfl
@[simp↓] theorem Md {d:Option Nat}{xs:List Operand}{g:Option (Nat×Bool)}{un:List Nat}{tg:Option Nat}{lo hi:Bool}:bN P Γ ⟨d,.EE lo hi,xs,g,un,tg⟩ K ⟨look vs,ab os⟩=bV P Γ ⟨d,.EE lo hi,xs,g,un,tg⟩ K ⟨look vs,ab os⟩:=rfl
@[simp↓] theorem Nr {d:Option Nat}{xs:List Operand}{g:Option (Nat×Bool)}{un:List Nat}{tg:Option Nat}{o:Nat}{n:Option Nat}:bN P Γ ⟨d,.Cr o n,xs,g,un,tg⟩ K ⟨look vs,ab os⟩=bV P Γ ⟨d,.Cr o n,xs,g,un,tg⟩ K ⟨look vs,ab os⟩:=rfl
@[simp↓] theorem Lv {d:Option Nat}{xs:List Operand}{g:Option (Nat×Bool)}{un:List Nat}{tg:Option Nat}{o:Nat}:bN P Γ ⟨d,.az o,xs,g,un,tg⟩ K ⟨look vs,ab os⟩=bV P Γ ⟨d,.az o,xs,g,un,tg⟩ K ⟨look vs,ab os⟩:=rfl
@[simp↓] theorem Ih {d:Option Nat}{xs:List Operand}{g:Option (Nat×Bool)}{un:List Nat}{tg:Option Nat}{n:Option Nat}:bN P Γ ⟨d,.load n,xs,g,un,tg⟩ K ⟨look vs,ab os⟩=bV P Γ ⟨d,.load n,xs,g,un,tg⟩ K ⟨look vs,ab os⟩:=rfl
@[simp↓] theorem KK {d:Option Nat}{xs:List Operand}{g:Option (Nat×Bool)}{un:List Nat}{tg:Option Nat}{e:TypeId}{s:Nat}:bN P Γ ⟨d,.bg e s,xs,g,un,tg⟩ K ⟨look vs,ab os⟩=bV P Γ ⟨d,.bg e s,xs,g,un,tg⟩ K ⟨look vs,ab os⟩:=rfl
@[simp↓] theorem KI {d:Option Nat}{xs:List Operand}{g:Option (Nat×Bool)}{un:List Nat}{tg:Option Nat}{e s:Nat}:bN P Γ ⟨d,.De e s,xs,g,un,tg⟩ K ⟨look vs,ab os⟩=bV P Γ ⟨d,.De e s,xs,g,un,tg⟩ K ⟨look vs,ab os⟩:=rfl
@[simp↓] theorem LS {d:Option Nat}{xs:List Operand}{g:Option (Nat×Bool)}{un:List Nat}{tg:Option Nat}:bN P Γ ⟨d,.dA,xs,g,un,tg⟩ K ⟨look vs,ab os⟩=bV P Γ ⟨d,.dA,xs,g,un,tg⟩ K ⟨look vs,ab os⟩:=rfl
@[simp↓] theorem MP {d:Option Nat}{xs:List Operand}{g:Option (Nat×Bool)}{un:List Nat}{tg:Option Nat}{s:Nat}{lo hi:Bool}:bN P Γ ⟨d,.mS s lo hi,xs,g,un,tg⟩ K ⟨look vs,ab os⟩=bV P Γ ⟨d,.mS s lo hi,xs,g,un,tg⟩ K ⟨look vs,ab os⟩:=rfl
@[simp↓] theorem LC {d:Option Nat}{xs:List Operand}{g:Option (Nat×Bool)}{un:List Nat}{tg:Option Nat}{i:Nat}:bN P Γ ⟨d,.ext i,xs,g,un,tg⟩ K ⟨look vs,ab os⟩=bV P Γ ⟨d,.ext i,xs,g,un,tg⟩ K ⟨look vs,ab os⟩:=rfl
@[simp↓] theorem LN {d:Option Nat}{xs:List Operand}{g:Option (Nat×Bool)}{un:List Nat}{tg:Option Nat}{zs:List Value}{ps:List (Nat×Nat)}:bN P Γ ⟨d,.fR zs ps,xs,g,un,tg⟩ K ⟨look vs,ab os⟩=bV P Γ ⟨d,.fR zs ps,xs,g,un,tg⟩ K ⟨look vs,ab os⟩:=rfl
@[simp↓] theorem Lm {d:Option Nat}{xs:List Operand}{g:Option (Nat×Bool)}{un:List Nat}{tg:Option Nat}{f:FuncId}:bN P Γ ⟨d,.zb f,xs,g,un,tg⟩ K ⟨look vs,ab os⟩=bV P Γ ⟨d,.zb f,xs,g,un,tg⟩ K ⟨look vs,ab os⟩:=rfl
@[simp↓] theorem Ia {e:TypeId}{d:Nat}{xs:List Operand}{g:Option (Nat×Bool)}{un:List Nat}{tg:Option Nat}:bN P Γ ⟨some d,.bL e,xs,g,un,tg⟩ K ⟨look vs,ab os⟩=cw P Γ ⟨some d,.bL e,xs,g,un,tg⟩ K (qY d ⟨look vs,ab os⟩):=rfl
@[simp↓] theorem MK {d:Option Nat}{xs:List Operand}{g:Option (Nat×Bool)}{un:List Nat}{tg:Option Nat}:bN P Γ ⟨d,.box,xs,g,un,tg⟩ K ⟨look vs,ab os⟩=bV P Γ ⟨d,.box,xs,g,un,tg⟩ K ⟨look vs,ab os⟩:=rfl
@[simp↓] theorem GJ {d:Option Nat}{xs:List Operand}{g:Option (Nat×Bool)}{un:List Nat}{tg:Option Nat}{zs:List Value}:bN P Γ ⟨d,.alloc zs,xs,g,un,tg⟩ K ⟨look vs,ab os⟩=bV P Γ ⟨d,.alloc zs,xs,g,un,tg⟩ K ⟨look vs,ab os⟩:=rfl
@[congr] theorem Fk {i:AI}{st st':St} (h:True→st=st'):bV P Γ i K st=bV P Γ i K st':=by rw[h trivial]
@[simp↓] theorem KV {d:Option Nat}{xs:List Operand}{g:Option (Nat×Bool)}{un:List Nat}{tg:Option Nat}{e:TypeId}{s:Nat}:bN P Γ ⟨d,.eW e s,xs,g,un,tg⟩ K ⟨look vs,ab os⟩=bV P Γ ⟨d,.eW e s,xs,g,un,tg⟩ K (cj ⟨look vs,ab os⟩ ((xs.map (ev (look vs))).map strip)):=rfl
@[simp↓] theorem Gc {f:FuncId}{d:Option Nat}{xs:List Operand}{s:Nat}{w:Bool}{un:List Nat}{tg:Option Nat}:bN P Γ ⟨d,.call f,xs,some (s,w),un,tg⟩ K ⟨look vs,ab os⟩=jT P Γ ⟨d,.call f,xs,some (s,w),un,tg⟩ f s w (cW Γ f) K ⟨look vs,ab os⟩:=rfl
@[congr] theorem EV {i:AI}{f:FuncId}{s:Nat}{w:Bool}{o o':Option (Nat×Nat)}{st:St} (h:True→o=o'):jT P Γ i f s w o K st=jT P Γ i f s w o' K st:=by rw[h trivial]
@[simp↓] theorem Gz {f:FuncId}{d:Option Nat}{xs:List Operand}{s s':Nat}{w w':Bool}{un:List Nat}{tg:Option Nat}:jT P Γ ⟨d,.call f,xs,some (s',w'),un,tg⟩ f s w none K ⟨look vs,ab os⟩=fL (eE ((xs.map (ev (look vs))).map strip)) (ED (bC (look vs s) w)) (ah (bC (look vs s) w) fun c=>ah (er (ab os) ((xs.map (ev (look vs))).map strip)) fun ys=>ah (gt Γ f ys) fun x=>if TL x.2=true then(if c=true then kc P Γ ⟨d,.call f,xs,none,[],none⟩ f K ⟨look vs,ab os⟩ else K ((bz.put (.bX false .aq)).on d ⟨look vs,ab os⟩)) else cw P Γ ⟨d,.call f,xs,some (s',w'),un,tg⟩ K ⟨look vs,ab os⟩) (K ((bz.put (.bX false .aq)).on d ⟨look vs,ab os⟩)):=rfl
@[simp↓] theorem Fl {f:FuncId}{d:Option Nat}{xs:List Operand}{s s' p k:Nat}{w w':Bool}{un:List Nat}{tg:Option Nat}:jT P Γ ⟨d,.call f,xs,some (s',w'),un,tg⟩ f s w (some (p,k)) K ⟨look vs,ab os⟩=if k=996 then ah (bC (look vs s) w) fun c=>if c=true then stepG Γ d f (xs.map (ev (look vs))) (gm Γ f) K ⟨look vs,ab os⟩ else K ((bz.put (.bX false .aq)).on d ⟨look vs,ab os⟩) else False:=rfl
@[simp↓] theorem HN {f:FuncId}{d:Option Nat}{xs:List Operand}{un:List Nat}{tg:Option Nat}:bN P Γ ⟨d,.call f,xs,none,un,tg⟩ K ⟨look vs,ab os⟩=fC P Γ ⟨d,.call f,xs,none,un,tg⟩ f (cW Γ f) K ⟨look vs,ab os⟩:=rfl
@[congr] theorem EL {i:AI}{f:FuncId}{o o':Option (Nat×Nat)}{st:St} (h:True→o=o'):fC P Γ i f o K st=fC P Γ i f o' K st:=by rw[h trivial]
@[simp↓] theorem FJ {i:AI}{f:FuncId}{st:St}:fC P Γ i f none K st=kc P Γ i f K st:=rfl
@[simp↓] theorem F4 {f g:FuncId}{p k:Nat}{d:Option Nat}{xs:List Operand}{un:List Nat}{tg:Option Nat}:fC P Γ ⟨d,.call g,xs,none,un,tg⟩ f (some (p,k)) K ⟨look vs,ab os⟩=if k=997 then vj P Γ d f (xs.map (ev (look vs))) p K ⟨look vs,ab os⟩ else if k=996 then stepG Γ d f (xs.map (ev (look vs))) (gm Γ f) K ⟨look vs,ab os⟩ else jn P Γ d f (xs.map (ev (look vs))) p k K ⟨look vs,ab os⟩:=rfl
@[simp↓] theorem Te {d:Nat}{f:FuncId}{xs:List AV}{p:Nat}:vj P Γ (some d) f xs p K ⟨look vs,ab os⟩=(al xs∧ah (oF (ab os) p (xs.map strip)) fun ys=>ah (Γ (f+1000000) ys) fun x=>x.1∧(dO (xs.map strip)=true∨flat x.2)∧(∀y∈aJ d x.2,ab os y.1=none)∧cB x.2=true∧K ⟨put (some d) (cA (jG d) x.2) (look vs),bk (aJ d x.2) (ab os)⟩):=rfl
@[simp] theorem UT (aa:Nat→Option AO) (vs:List AV):oF aa 0 (.pv .nil::vs)=(er aa vs).map (.pv .nil::·):=nr rfl
@[simp] theorem PX {f:FuncId}:cW Γ f=(Γ (f+1000000) [.aq]).bind fun x=>zu x.2:=nr rfl
@[simp] theorem KL {p k:Nat}:zu (.ptr p k)=if k=998∨k=999∨k=997∨k=996 then some (p,k) else none:=nr rfl
@[simp↓] theorem Sd {d:Nat}{f:FuncId}{xs:List AV}{p k:Nat}:jn P Γ (some d) f xs p k K ⟨look vs,ab os⟩=(al xs∧ah ((xs.map strip)[p]?) fun X=>ah (fc (ab os) k X) fun T=>jV T.1 p (xs.map strip)∧ah (om (eQ T.1 (ab os)) (sU k T.2.1 T.2.2) p (xs.map strip)) fun ys=>ah (Γ (f+1000000) ys) fun x=>x.1∧(hH p (xs.map strip)=true∨(flat (bM x.2)∧mj (dD x.2)))∧(∀y∈aJ d (bM x.2),ab os y.1=none)∧cB (bM x.2)=true∧K ⟨put (some d) (cA (jG d) (bM x.2)) (fI T.1 x.2 (look vs)),bk (aJ d (bM x.2)) (cm T.1 x.2 (ab os))⟩):=rfl
@[simp] def Xe:XK→Bool|.oH _=>true|.LI|.zV _|.Ac _ _ _|.dead|.oa _|.tA|.wO|.xP _ _ _ _|.AL _|.Nk _ _ _|.mark|.Rd|.AN|.Hw|.AR _ _ _|.UH _|.zW _|.To|.VL|.Uy=>false
def uz (d:Option Nat) (x:XK) (xs:List Operand) (K:St→Prop) (st:St):Prop:=aT d x (xs.map (ev st.vars)) K st
def yp:Bool→Prop→Prop→Prop|true,_,B=>B|false,A,_=>A
@[simp↓] theorem Gq {A B:Prop}:yp true A B=B:=rfl
@[simp↓] theorem E9 {A B:Prop}:yp false A B=A:=rfl
@[simp↓] theorem RF {d:Option Nat}{xs:List Operand}{un:List Nat}{tg:Option Nat}{x:XK}:bN P Γ ⟨d,.ex x,xs,none,un,tg⟩ K ⟨look vs,ab os⟩=yp (Xe x) (aT d x (xs.map (ev (look vs))) K ⟨look vs,ab os⟩) (uz d x xs K (cj ⟨look vs,ab os⟩ ((xs.map (ev (look vs))).map strip))):=by cases x<;>rfl
@[congr] theorem E6 {d:Option Nat}{x:XK}{xs:List Operand}{st st':St} (h:True→st=st'):uz d x xs K st=uz d x xs K st':=by rw[h trivial]
@[simp↓] theorem MR {d:Option Nat}{x:XK}{xs:List Operand}:uz d x xs K ⟨look vs,ab os⟩=aT d x (xs.map (ev (look vs))) K ⟨look vs,ab os⟩:=rfl
@[simp↓] theorem Me {d:Option Nat}{xs:List Operand}{s:Nat}{w:Bool}{un:List Nat}{tg:Option Nat}{x:XK}:bN P Γ ⟨d,.ex x,xs,some (s,w),un,tg⟩ K ⟨look vs,ab os⟩=ah (bC (look vs s) w) fun c=>if c=true then aT d x (xs.map (ev (look vs))) K ⟨look vs,ab os⟩ else K ((bz.put (.bX false .aq)).on d ⟨look vs,ab os⟩):=rfl
@[congr] theorem Ea {d:Option Nat}{x:XK}{xs xs':List AV}{st:St} (h:True→xs=xs'):aT d x xs K st=aT d x xs' K st:=by rw[h trivial]
@[simp↓] theorem I3 {d:Nat}:aT (some d) .LI [] K ⟨look vs,ab os⟩=(ab os d=none∧K ⟨put (some d) (.own d) (look vs),bk [(d,.map [])] (ab os)⟩):=rfl
@[simp↓] theorem Gf {d:Option Nat}{s t:Nat}{k v:AV}:aT d (.zV s) [.own t,k,v] K ⟨look vs,ab os⟩=vZ d s t (strip k) (strip v) [.own t,k,v] K ⟨look vs,ab os⟩:=by cases hk:strip k<;>simp[aT,rB,vZ,hk,strip]
@[simp↓] theorem Rx {d:Option Nat}{s t:Nat}{k:PV}{v:AV}{xs:List AV}:vZ d s t (.pv k) v xs K ⟨look vs,ab os⟩=(al xs∧ah (uq (ab os t)) fun es=>cL k=s∧hZ s es∧dr v=true∧K ⟨put d .aq (look vs),aH t (.map (jA k v es)) (ab os)⟩):=rfl
@[congr] theorem FK {d:Option Nat}{s t:Nat}{k k' v v':AV}{xs xs':List AV}{st:St} (h1:True→k=k') (h2:True→v=v') (h3:True→xs=xs'):vZ d s t k v xs K st=vZ d s t k' v' xs' K st:=by rw[h1 trivial,h2 trivial,h3 trivial]
@[simp↓] theorem RX {d:Option Nat}{s t:Nat}{z:Value}{ok:Bool}{k:PV}{xs:List AV}:O0 d s t z ok (.pv k) xs K ⟨look vs,ab os⟩=(al xs∧ah (uq (ab os t)) fun es=>cL k=s∧hZ s es∧K ⟨put d (if ok=true then .aK [(getM k es).getD (C9 z),.pv (.bool (getM k es).isSome)] else(getM k es).getD (C9 z)) (look vs),ab os⟩):=rfl
@[simp↓] theorem Ff {d:Option Nat}{s:Nat}{ks:List PV}{z:Value}{ok:Bool}{k:AV}:aT d (.Ac s z ok) [.pv (.mp ks),k] K ⟨look vs,ab os⟩=pq d s ks z ok (strip k) [.pv (.mp ks),k] K ⟨look vs,ab os⟩:=by cases hk:strip k<;>simp[aT,rB,pq,hk,strip]
@[simp↓] theorem Mq {d:Option Nat}{s:Nat}{ks:List PV}{z:Value}{ok:Bool}{k:PV}{xs:List AV}:pq d s ks z ok (.pv k) xs K ⟨look vs,ab os⟩=(al xs∧sr z=true∧cL k=s∧(∀x∈ks,cL x=s)∧K ⟨put d (if ok=true then .aK [.agg [],.pv (.bool (ks.any (lM k)))] else .agg []) (look vs),ab os⟩):=rfl
@[congr] theorem EK {d:Option Nat}{s:Nat}{ks:List PV}{z:Value}{ok:Bool}{k k':AV}{xs xs':List AV}{st:St} (h1:True→k=k') (h3:True→xs=xs'):pq d s ks z ok k xs K st=pq d s ks z ok k' xs' K st:=by rw[h1 trivial,h3 trivial]
@[simp↓] theorem Jy {d:Option Nat}{x y:AV}:aT d .Rd [x,y] K ⟨look vs,ab os⟩=sL d (strip x) (strip y) [x,y] K ⟨look vs,ab os⟩:=rfl
@[simp↓] theorem Rf {d:Option Nat}{t o q:Nat}{e:TypeId}{i:Int}{xs:List AV}:sL d (.aO t e i o) (.own q) xs K ⟨look vs,ab os⟩=(al xs∧ah (cz (ab os t)) fun r=>(r.1=e∧o=0)∧(0≤i∧i<r.2.length∧(rowAt r.2 i).length=1)∧K ⟨put d .aq (look vs),aH t (.rws e ((r.2.map fun x=>AV.pv (x.getD 0 .nil)).set i.toNat (.own q))) (ab os)⟩):=rfl
@[simp↓] theorem G7 {d:Option Nat}{x:AV}:aT d .AN [x] K ⟨look vs,ab os⟩=qN d (strip x) [x] K ⟨look vs,ab os⟩:=rfl
@[simp↓] theorem DI {d:Option Nat}{a b c:AV}:aT d .tA [a,b,c] K ⟨look vs,ab os⟩=nU d [a,b,c] [strip a,strip b,strip c] K ⟨look vs,ab os⟩:=rfl
@[congr] theorem GA {d:Option Nat}{xs xs' ys ys':List AV}{st:St} (h1:True→xs=xs') (h2:True→ys=ys'):nU d xs ys K st=nU d xs' ys' K st:=by rw[h1 trivial,h2 trivial]
@[simp↓] theorem Tk {d:Option Nat}{xs:List AV}{a b c:Int}:nU d xs [.pv (.int .u64 a),.pv (.int .u64 b),.pv (.int .u64 c)] K ⟨look vs,ab os⟩=(al xs∧(0≤a∧0≤b∧0≤c∧c≤1)∧K ⟨put d (.aK [.pv (.int .u64 ((a+b+c)%18446744073709551616)),.pv (.int .u64 ((a+b+c)/18446744073709551616))]) (look vs),ab os⟩):=rfl
@[simp↓] theorem FW {d:Option Nat}{x:AV}:aT d .wO [x] K ⟨look vs,ab os⟩=jN d (strip x) [x] K ⟨look vs,ab os⟩:=by cases hk:strip x<;>simp[aT,rB,jN,hk];rename_i p;cases p<;>simp
@[simp↓] theorem Jn {d:Option Nat}{xs:List AV}:jN d (.pv .nil) xs K ⟨look vs,ab os⟩=(al xs∧K ⟨put d (.pv (.int .i64 0)) (look vs),ab os⟩):=rfl
@[congr] theorem Dm {d:Option Nat}{x x':AV}{xs xs':List AV}{st:St} (h1:True→x=x') (h2:True→xs=xs'):jN d x xs K st=jN d x' xs' K st:=by rw[h1 trivial,h2 trivial]
@[simp↓] theorem JB {d:Option Nat}{e:TypeId}{b:Nat}{zs:List Value}{x y:AV}:aT d (.Nk e b zs) [x,y] K ⟨look vs,ab os⟩=uS d e b zs [x,y] [strip x,strip y] K ⟨look vs,ab os⟩:=rfl
@[simp↓] theorem GK {d:Option Nat}{e:TypeId}{xs:List AV}:aT d (.AL e) xs K ⟨look vs,ab os⟩=tJ d e xs (xs.map strip) K ⟨look vs,ab os⟩:=rfl
@[simp↓] theorem Ga {d:Option Nat}{e:TypeId}{sz b:Nat}{zs:List Value}{x y:AV}:aT d (.xP e sz b zs) [x,y] K ⟨look vs,ab os⟩=jJ d e b zs [x,y] [strip x,strip y] K ⟨look vs,ab os⟩:=rfl
@[congr] theorem Ec {d:Option Nat}{e:TypeId}{b:Nat}{zs:List Value}{xs xs' ys ys':List AV}{st:St} (h1:True→xs=xs') (h2:True→ys=ys'):jJ d e b zs xs ys K st=jJ d e b zs xs' ys' K st:=by rw[h1 trivial,h2 trivial]
@[simp↓] theorem Kv {d:Nat}{e:TypeId}{b:Nat}{zs:List Value}{xs:List AV}{n:Int}:jJ (some d) e b zs xs [.pv .nil,.pv (.int .i64 n)] K ⟨look vs,ab os⟩=(al xs∧(0≤n∧n≤140737488355328∧n.toNat*b≤140737488355328)∧ab os d=none∧K ⟨put (some d) (.own d) (look vs),bk [(d,.arr e (List.replicate n.toNat (zs.map oL)))] (ab os)⟩):=rfl
@[simp↓] theorem EZ {d:Option Nat}{ne:Bool}{x:AV}:aT d (.oa ne) [x] K ⟨look vs,ab os⟩=(al [x]∧ah (eN (ab os) (strip x)) fun rows=>Bv d ne rows K ⟨look vs,ab os⟩):=rfl
theorem qB {d:Option Nat}{ne:Bool}{rows:List (List PV)}:Bv d ne rows K ⟨look vs,ab os⟩=∀b:Bool,(rows≠[]→b=false)→K ⟨put d (.pv (.bool (if ne=true then !b else b))) (look vs),ab os⟩:=rfl
@[simp↓] theorem Is {d:Option Nat}{ne:Bool}{r:List PV}{rows:List (List PV)}:Bv d ne (r::rows) K ⟨look vs,ab os⟩=K ⟨put d (.pv (.bool ne)) (look vs),ab os⟩:=by
 rw[qB];apply propext;constructor;·intro h;have:=h false (fun _=>rfl);cases ne<;>exact this
 ·intro h b hb;have:=hb (by simp);subst this;cases ne<;>exact h
@[simp] theorem Lh (es:List (PV×AV)):uq (some (.map es))=some es:=nr rfl
@[simp] theorem VN (k:IntKind) (n:Int):cL (.int k n)=2+kJ k:=nr rfl
@[simp] theorem T2 (l:List UInt8):cL (.str l)=1:=nr rfl
@[simp] theorem PD (b:Bool):cL (.bool b)=0:=nr rfl
@[simp] theorem Rz:kJ .u64=7:=nr rfl
@[simp] theorem Vx:kJ .u8=4:=nr rfl
@[simp↓] theorem Lj {d:Option Nat}{xs:List Operand}{un:List Nat}{tg:Option Nat}{e:TypeId}{s:Nat}{zs:List Value}:bN P Γ ⟨d,.zo e s zs,xs,none,un,tg⟩ K ⟨look vs,ab os⟩=mw d e s zs (xs.map (ev (look vs))) K ⟨look vs,ab os⟩:=rfl
@[simp↓] theorem Hl {d:Option Nat}{e:TypeId}{s:Nat}{zs:List Value}{xs:List AV}:mw d e s zs xs K ⟨look vs,ab os⟩=(al xs∧ah ((xs.map strip).head?) fun X=>ah (wK (ab os) e zs X) fun r=>K ((bz.sj r.1 r.2).on d ⟨look vs,ab os⟩)):=rfl
@[simp↓] theorem TG {f g:FuncId}{d:Option Nat}{xs:List Operand}{un:List Nat}{tg:Option Nat}:kc P Γ ⟨d,.call g,xs,none,un,tg⟩ f K ⟨look vs,ab os⟩=ah (er (ab os) ((xs.map (ev (look vs))).map strip)) fun ys=>ah (gt Γ f ys) fun x=>if(PC x.2&&!dO ((xs.map (ev (look vs))).map strip))=true then vP P Γ d f xs K (cj ⟨look vs,ab os⟩ ((xs.map (ev (look vs))).map strip)) else cw P Γ ⟨d,.call g,xs,none,un,tg⟩ K ⟨look vs,ab os⟩:=rfl
@[congr] theorem Gk {d:Option Nat}{f:FuncId}{xs:List Operand}{st st':St} (h:True→st=st'):vP P Γ d f xs K st=vP P Γ d f xs K st':=by rw[h trivial]
@[simp↓] theorem On {d:Option Nat}{f:FuncId}{xs:List Operand}:vP P Γ d f xs K ⟨look vs,ab os⟩=cf P Γ d f (xs.map (ev (look vs))) (ab os) fun e=>K (e.on d ⟨look vs,ab os⟩):=rfl
@[simp↓] theorem Nb {d:Option Nat}{xs:List Operand}{g:Option (Nat×Bool)}{un:List Nat}{tg:Option Nat}{b:Bool}:bN P Γ ⟨d,.zR b,xs,g,un,tg⟩ K ⟨look vs,ab os⟩=bV P Γ ⟨d,.zR b,xs,g,un,tg⟩ K ⟨look vs,ab os⟩:=rfl
@[simp↓] theorem KM {d:Option Nat}{xs:List Operand}{g:Option (Nat×Bool)}{un:List Nat}{tg:Option Nat}{ne:Bool}{ks:List Nat}:bN P Γ ⟨d,.eqs ne ks,xs,g,un,tg⟩ K ⟨look vs,ab os⟩=bV P Γ ⟨d,.eqs ne ks,xs,g,un,tg⟩ K ⟨look vs,ab os⟩:=rfl
@[simp↓] theorem FO {d:Option Nat}{xs:List Operand}{g:Option (Nat×Bool)}{un:List Nat}{tg:Option Nat}{n:Option Nat}:bN P Γ ⟨d,.store n,xs,g,un,tg⟩ K ⟨look vs,ab os⟩=bV P Γ ⟨d,.store n,xs,g,un,tg⟩ K ⟨look vs,ab os⟩:=rfl
@[simp↓] theorem LX {d:Option Nat}{xs:List Operand}{g:Option (Nat×Bool)}{un:List Nat}{e:TypeId}{s b:Nat}:bN P Γ ⟨d,.app e s b,xs,g,un,none⟩ K ⟨look vs,ab os⟩=bV P Γ ⟨d,.app e s b,xs,g,un,none⟩ K ⟨look vs,ab os⟩:=rfl
@[simp↓] theorem Lc {d:Option Nat}{xs:List Operand}{un:List Nat}{e:TypeId}{s b:Nat}:bN P Γ ⟨d,.app e s b,xs,none,un,some 999998⟩ K ⟨look vs,ab os⟩=if mm ((xs.map (ev (look vs))).map strip)=true then tP d e s b (xs.map (ev (look vs))) K ⟨look vs,ab os⟩ else cw P Γ ⟨d,.app e s b,xs,none,un,some 999998⟩ K ⟨look vs,ab os⟩:=rfl
@[simp↓] theorem JD {d:Option Nat}{e:TypeId}{sz b:Nat}{xs:List AV}:tP d e sz b xs K ⟨look vs,ab os⟩=(al xs∧ah (Bp (ab os) e (xs.map strip)) fun r=>((r.2.1.length+r.2.2.length)*b≤140737488355328∧r.2.1.length+r.2.2.length≤maxLen∧(∀q∈r.2.2,q.length=sz))∧r.1%1000≠999∧K ⟨put d (.pv (.ro (r.2.1++r.2.2))) (xB r.1 r.2.1 (look vs)),eQ r.1 (ab os)⟩):=rfl
@[simp↓] theorem Hk {d:Option Nat}{xs:List Operand}{g:Option (Nat×Bool)}{un:List Nat}{tg:Option Nat}:bN P Γ ⟨d,.qq,xs,g,un,tg⟩ K ⟨look vs,ab os⟩=bV P Γ ⟨d,.qq,xs,g,un,tg⟩ K ⟨look vs,ab os⟩:=rfl
@[simp↓] theorem H8 {d:Option Nat}{xs:List Operand}{g:Option (Nat×Bool)}{un:List Nat}{tg:Option Nat}{e:TypeId}:bN P Γ ⟨d,.uE e,xs,g,un,tg⟩ K ⟨look vs,ab os⟩=bV P Γ ⟨d,.uE e,xs,g,un,tg⟩ K ⟨look vs,ab os⟩:=rfl
@[simp↓] theorem bA {a b:AC}:fT P Γ (.seq a b) K J ⟨look vs,ab os⟩=fT P Γ a (fun st'=>fT P Γ b K J st') J ⟨look vs,ab os⟩:=rfl
@[simp↓] theorem uN {x:Operand}{a b:AC}:fT P Γ (.cond x a b) K J ⟨look vs,ab os⟩=ah (gK (ev (look vs) x)) fun c=>(c=true→fT P Γ a K J ⟨look vs,ab os⟩)∧(c=false→fT P Γ b K J ⟨look vs,ab os⟩):=rfl
@[simp↓] theorem aP {id:Nat}{a:AC}:fT P Γ (.block id a) K J ⟨look vs,ab os⟩=fT P Γ a K (mD id K J) ⟨look vs,ab os⟩:=rfl
@[simp↓] theorem IM {id id':Nat}:mD id K J (.exit id') ⟨look vs,ab os⟩=if id'=id then K ⟨look vs,ab os⟩ else J (.exit id') ⟨look vs,ab os⟩:=rfl
@[simp↓] theorem KT {id:Nat}:mD id K J .ret ⟨look vs,ab os⟩=J .ret ⟨look vs,ab os⟩:=rfl
@[simp↓] theorem CC {id:Nat}:fT P Γ (.exit id) K J ⟨look vs,ab os⟩=J (.exit id) ⟨look vs,ab os⟩:=rfl
@[simp↓] theorem Ux:fT P Γ .ret K J ⟨look vs,ab os⟩=J .ret ⟨look vs,ab os⟩:=rfl
@[simp↓] theorem M3:steps P Γ [] K ⟨look vs,ab os⟩=K ⟨look vs,ab os⟩:=rfl
@[simp↓] theorem JR {i:AI}{is:List AI}:steps P Γ (i::is) K ⟨look vs,ab os⟩=cp P Γ i (fun st'=>steps P Γ is K st') ⟨look vs,ab os⟩:=rfl
@[simp↓] theorem Kd {d:Option Nat}{k:AK}{xs:List Operand}{g:Option (Nat×Bool)}{un:List Nat}:cp P Γ ⟨d,k,xs,g,un,none⟩ K ⟨look vs,ab os⟩=cw P Γ ⟨d,k,xs,g,un,none⟩ K ⟨look vs,ab os⟩:=by cases k<;>rfl
@[simp↓] theorem Gr {d:Option Nat}{n:Option Nat}{xs:List Operand}{g:Option (Nat×Bool)}{un:List Nat}{tg:Option Nat}:cp P Γ ⟨d,.store n,xs,g,un,tg⟩ K ⟨look vs,ab os⟩=cw P Γ ⟨d,.store n,xs,g,un,tg⟩ K ⟨look vs,ab os⟩:=rfl
@[simp↓] theorem JG {d:Option Nat}{f:FuncId}{xs:List Operand}{un:List Nat}:cp P Γ ⟨d,.call f,xs,none,un,some 999999⟩ K ⟨look vs,ab os⟩=fK P Γ ⟨d,.call f,xs,none,un,some 999999⟩ f (cW Γ f) K ⟨look vs,ab os⟩:=rfl
@[simp↓] theorem JM {d:Option Nat}{xs:List Operand}{un:List Nat}:cp P Γ ⟨d,.gi,xs,none,un,some 999999⟩ K ⟨look vs,ab os⟩=eO P Γ d (xs.map (ev (look vs))) none K ⟨look vs,ab os⟩:=rfl
@[congr] theorem GY {i:AI}{f:FuncId}{o o':Option (Nat×Nat)}{st:St} (h:True→o=o'):fK P Γ i f o K st=fK P Γ i f o' K st:=by rw[h trivial]
@[simp↓] theorem Jv {f g:FuncId}{d:Option Nat}{xs:List Operand}{un:List Nat}{tg:Option Nat}:fK P Γ ⟨d,.call g,xs,none,un,tg⟩ f none K ⟨look vs,ab os⟩=cw P Γ ⟨d,.call g,xs,none,[],none⟩ K ⟨look vs,ab os⟩:=rfl
@[simp↓] theorem Ka {f g:FuncId}{p k:Nat}{d:Option Nat}{xs:List Operand}{un:List Nat}{tg:Option Nat}:fK P Γ ⟨d,.call g,xs,none,un,tg⟩ f (some (p,k)) K ⟨look vs,ab os⟩=if k=998 then un=[]∧jn P Γ d f (xs.map (ev (look vs))) p k K ⟨look vs,ab os⟩ else if k=996 then lh (yL (gm Γ f) (ab os) ((xs.map (ev (look vs))).map strip)) ⟨look vs,ab os⟩ un∧stepG Γ d f (xs.map (ev (look vs))) (gm Γ f) K ⟨look vs,ab os⟩ else False:=rfl
@[simp↓] theorem K5 {T:List Nat}{st:St}:lh T st []=True:=rfl
@[simp↓] theorem Ib {T:List Nat}{s:Nat}{l:List Nat}:lh T ⟨look vs,ab os⟩ (s::l)=(ah (WM (ab os) (look vs s)) (fun t=>T.contains t=false)∧lh T ⟨look vs,ab os⟩ l):=rfl
@[simp↓] theorem Oo {d:Option Nat}{k:AK}{xs:List Operand}{g:Option (Nat×Bool)}{un:List Nat}{tg:Option Nat}:cw P Γ ⟨d,k,xs,g,un,tg⟩ K ⟨look vs,ab os⟩=((un=[]∨iM un (ab os) ((xs.map (ev (look vs))).map strip))∧cX P Γ ⟨d,k,xs,g,un,tg⟩ (look vs) (ab os) fun e=>xK un tg e∧K (e.on d ⟨look vs,ab os⟩)):=rfl
@[simp↓] theorem Lx {d:Option Nat}{k:AK}{xs:List Operand}{un:List Nat}{tg:Option Nat}{aa:Nat→Option AO}{C:bz→Prop}{vars:Nat→AV}:cX P Γ ⟨d,k,xs,none,un,tg⟩ vars aa C=aS P Γ d k (xs.map (ev vars)) aa C:=rfl
@[simp↓] theorem KD {d:Option Nat}{k:AK}{xs:List Operand}{s:Nat}{w:Bool}{un:List Nat}{tg:Option Nat}{aa:Nat→Option AO}{C:bz→Prop}{vars:Nat→AV}:cX P Γ ⟨d,k,xs,some (s,w),un,tg⟩ vars aa C=ah (bC (vars s) w) fun c=>b7 P Γ c d k (xs.map (ev vars)) aa C:=rfl
theorem A3 {e:bz}:jq [] e=True:=by cases e<;>simp[jq]
@[simp↓] theorem LM {un:List Nat}{v:AV}:jq un (.put v)=True:=rfl
@[simp↓] theorem Lp {un:List Nat}{v:AV}{os:List (Nat×AO)}:jq un (.new v os)=True:=rfl
@[simp↓] theorem M9 {un:List Nat}{t:Nat}{o:AO}:jq un (.sj t o)=True:=rfl
@[simp↓] theorem Nw {un:List Nat}{t:Nat}{o:AO}:jq un (.app t o)=(un.contains (t%1000+1000)=false):=rfl
@[simp↓1100] theorem V0 {tg:Option Nat}{e:bz}:xK [] tg e=qd tg e:=by unfold xK;rw[A3,and_true]
@[simp↓] theorem SN {un:List Nat}{e:bz}:xK un none e=jq un e:=by unfold xK qd;rw[true_and]
@[simp↓] theorem Tt {un:List Nat}{s:Nat}{e:bz}:xK un (some s) e=(qd (some s) e∧jq un e):=rfl
@[simp↓] theorem KX {e:bz}:qd none e=True:=rfl
@[simp↓] theorem N1 {s t:Nat}{o:AO}:qd (some s) (.sj t o)=(t=s):=rfl
@[simp↓] theorem Wq {d:Option Nat}{v:AV}:(bz.put v).on d ⟨look vs,ab os⟩=⟨put d v (look vs),ab os⟩:=rfl
@[simp↓] theorem ij {d:Option Nat}{v:AV}{l:List (Nat×AO)}:(bz.new v l).on d ⟨look vs,ab os⟩=⟨put d v (look vs),bk l (ab os)⟩:=rfl
@[simp↓] theorem Wu {d:Option Nat}{t:Nat}{o:AO}:(bz.sj t o).on d ⟨look vs,ab os⟩=⟨put d .aq (look vs),aH t o (ab os)⟩:=rfl
@[simp↓] theorem mU {d:Option Nat}{t:Nat}{o:AO}:(bz.app t o).on d ⟨look vs,ab os⟩=⟨put d (.own t) (cb t (look vs)),aH t o (cQ t (ab os))⟩:=rfl
end
theorem Bd (d:Nat) (v:AV) (l:List (Nat×AV)):put (some d) v (look l)=look ((d,v)::l):=by funext s;simp[put,look]
theorem Bm (v:AV) (f:Nat→AV):put none v f=f:=rfl
theorem AX (t:Nat) (o:AO) (l:List (Nat×AO)):aH t o (ab l)=ab ((t,o)::l):=by funext s;simp[aH,ab]
theorem xN (bS:List Nat) (l:List (Nat×AV)):gY bS (look l)=look (bS.map fun s=>(s,look l s)):=by funext s;unfold gY;induction bS with|nil=>simp[look]|cons k ks ih=>
 simp only[List.map_cons,look];by_cases h:s=k;·subst h;simp
 ·simp only[List.contains_cons,h,if_false];have:(s==k)=false:=by simpa using h
  rw[this];simpa using ih
theorem ti (t:Nat) (l:List (Nat×AV)):cb t (look l)=look (l.map fun x=>(x.1,kill t x.2)):=by funext s;unfold cb;induction l with|nil=>rfl|cons x l ih=>obtain⟨k,v⟩:=x;simp only[List.map_cons,look];split<;>simp_all
theorem xr (t:Nat) (l:List (Nat×AO)):cQ t (ab l)=ab (l.map fun x=>(x.1,cZ t x.2)):=by funext s;unfold cQ;induction l with|nil=>rfl|cons x l ih=>obtain⟨k,v⟩:=x;simp only[List.map_cons,ab];split<;>simp_all
theorem AY (m l:List (Nat×AO)):bk m (ab l)=ab (m++l):=by funext s;unfold bk;induction m with|nil=>simp[ab]|cons x m ih=>
 obtain⟨k,v⟩:=x;simp only[List.cons_append,ab];by_cases h:s=k;·simp[h]
 ·simp only[if_neg h];exact ih
theorem lX (vs:List (Nat×AV)) (os:List (Nat×AO)):(Fr.mk vs os).st=⟨look vs,ab os⟩:=rfl
def Dh (t:Nat):List (Nat×AO)→List (Nat×AO)|[]=>[]|x::l=>if x.1=t then Dh t l else(x.1,cZ t x.2)::Dh t l
@[simp] theorem U9 (t:Nat):Dh t []=[]:=nr rfl
@[simp] theorem BC (t s:Nat) (o:AO) (l:List (Nat×AO)):Dh t ((s,o)::l)=if s=t then Dh t l else(s,cZ t o)::Dh t l:=nr rfl
theorem qV (t:Nat) (l:List (Nat×AO)):eQ t (ab l)=ab (Dh t l):=by funext s;unfold eQ;induction l with|nil=>simp[ab]|cons x l ih=>
 obtain⟨k,v⟩:=x;simp only[BC,ab];by_cases hs:s=t
 ·subst hs;simp only[if_true]at ih ⊢;by_cases hk:k=s;·simp[hk];exact ih
  ·have hk':¬s=k:=fun e=>hk e.symm;simp[hk,ab,hk'];exact ih
 ·simp only[hs,if_false]at ih ⊢;by_cases hk:k=t;·have:¬s=k:=fun e=>hs (e.trans hk);rw[if_pos hk,if_neg this];exact ih
  ·simp only[hk,if_false,ab];by_cases hsk:s=k;·simp[hsk]
   ·simp only[hsk,if_false];exact ih
def Ey (t:Nat) (e:TypeId) (rows:List (List PV)):List (Nat×AO)→List (Nat×AO)|[]=>[]|x::l=>if x.1=t then Ey t e rows l else(x.1,C7 t e rows x.2)::Ey t e rows l
@[simp] theorem V2 (t:Nat) (e:TypeId) (rows:List (List PV)):Ey t e rows []=[]:=nr rfl
@[simp] theorem B3 (t s:Nat) (e:TypeId) (rows:List (List PV)) (o:AO) (l:List (Nat×AO)):Ey t e rows ((s,o)::l)=if s=t then Ey t e rows l else(s,C7 t e rows o)::Ey t e rows l:=nr rfl
theorem Bi (t:Nat) (e0:TypeId) (rows:List (List PV)) (l:List (Nat×AV)):VH t e0 rows (look l)=look (l.map fun x=>(x.1,zM t e0 rows x.2)):=by funext s;unfold VH;induction l with|nil=>rfl|cons x l ih=>obtain⟨k,v⟩:=x;simp only[List.map_cons,look];split<;>simp_all
theorem Ah (t:Nat) (e:TypeId) (rows:List (List PV)) (l:List (Nat×AO)):xR t e rows (ab l)=ab (Ey t e rows l):=by funext s;unfold xR;induction l with|nil=>simp[ab]|cons x l ih=>
 obtain⟨k,v⟩:=x;simp only[B3,ab];by_cases hs:s=t
 ·subst hs;simp only[if_true]at ih ⊢;by_cases hk:k=s;·simp[hk];exact ih
  ·have hk':¬s=k:=fun e=>hk e.symm;simp[hk,ab,hk'];exact ih
 ·simp only[hs,if_false]at ih ⊢;by_cases hk:k=t;·have:¬s=k:=fun e=>hs (e.trans hk);rw[if_pos hk,if_neg this];exact ih
  ·simp only[hk,if_false,ab];by_cases hsk:s=k;·simp[hsk]
   ·simp only[hsk,if_false];exact ih
@[simp] theorem xj (vs:List (Nat×AV)) (os:List (Nat×AO)) (t:Nat):share1 ⟨look vs,ab os⟩ (.own t)=match cz (ab os t) with|some r=>⟨look (vs.map fun x=>(x.1,zM t r.1 r.2 x.2)),ab (Ey t r.1 r.2 os)⟩|none=>⟨look vs,ab os⟩:=by simp only[share1,gC];split<;>simp[*,Bi,Ah]
@[simp] theorem Sh (vs:List (Nat×AV)) (os:List (Nat×AO)) (t:Nat):qY t ⟨look vs,ab os⟩=match cz (ab os t) with|some _=>⟨look (vs.map fun x=>(x.1,kill t x.2)),ab (Dh t os)⟩|none=>⟨look vs,ab os⟩:=by simp only[qY];split<;>simp[*,ti,qV]
@[simp] theorem Kt (st:St) (p:PV):share1 st (.pv p)=st:=nr rfl
@[simp] theorem Jx (st:St) (cs:List AV):share1 st (.agg cs)=fh st cs:=nr rfl
@[simp] theorem F6 (st:St):fh st []=st:=nr rfl
@[simp] theorem D6 (st:St) (c:AV) (cs:List AV):fh st (c::cs)=fh (gC st c) cs:=nr rfl
@[simp] theorem Jc (vs:List (Nat×AV)) (os:List (Nat×AO)) (t:Nat):gC ⟨look vs,ab os⟩ (.own t)=match cz (ab os t) with|some r=>⟨look (vs.map fun x=>(x.1,zM t r.1 r.2 x.2)),ab (Ey t r.1 r.2 os)⟩|none=>⟨look vs,ab os⟩:=xj vs os t
@[simp] theorem Mm (st:St) (p:PV):gC st (.pv p)=st:=nr rfl
@[simp] theorem HO (st:St) (t o:Nat):share1 st (.ptr t o)=st:=nr rfl
@[simp] theorem I0 (st:St) (f:FuncId) (cs:List AV):share1 st (.bB f cs)=st:=nr rfl
@[simp] theorem DD (st:St):cj st []=st:=nr rfl
@[simp] theorem C5 (st:St) (v:AV) (l:List AV):cj st (v::l)=cj (share1 st v) l:=nr rfl
@[simp] theorem T5 (e0:TypeId) (t s:Nat) (rows:List (List PV)):zM t e0 rows (.own s)=if s=t then .pv (.ro rows) else .own s:=nr rfl
@[simp] theorem Us (e0:TypeId) (t s:Nat) (rows:List (List PV)):MA t e0 rows (.own s)=if s=t then .pv (.ro rows) else .own s:=nr rfl
@[simp] theorem Xi (e0:TypeId) (t:Nat) (rows:List (List PV)) (p:PV):zM t e0 rows (.pv p)=.pv p:=nr rfl
@[simp] theorem V5 (e0:TypeId) (t s o:Nat) (rows:List (List PV)):zM t e0 rows (.ptr s o)=.ptr s o:=nr rfl
@[simp] theorem Vy (e0:TypeId) (t:Nat) (cs:List AV) (rows:List (List PV)):zM t e0 rows (.agg cs)=.agg (oO t e0 rows cs):=nr rfl
@[simp] theorem VP (e0:TypeId) (t:Nat) (g:Bool) (v:AV) (rows:List (List PV)):zM t e0 rows (.bX g v)=kill t (.bX g v):=nr rfl
@[simp] theorem V7 (e0:TypeId) (t:Nat) (f:FuncId) (cs:List AV) (rows:List (List PV)):zM t e0 rows (.bB f cs)=kill t (.bB f cs):=nr rfl
@[simp] theorem QR (e0:TypeId) (t:Nat) (rows:List (List PV)):zM t e0 rows .aq=.aq:=nr rfl
@[simp] theorem Sr (t:Nat) (e0:TypeId) (rows:List (List PV)):oO t e0 rows []=[]:=nr rfl
@[simp] theorem Kl (t:Nat) (e0:TypeId) (rows:List (List PV)) (c:AV) (cs:List AV):oO t e0 rows (c::cs)=MA t e0 rows c::oO t e0 rows cs:=nr rfl
@[simp] theorem Xj (t:Nat) (e0:TypeId) (rows:List (List PV)) (p:PV):MA t e0 rows (.pv p)=.pv p:=nr rfl
@[simp] theorem T9 (t:Nat) (e0:TypeId) (rows:List (List PV)) (cs:List AV):C7 t e0 rows (.box cs)=.box (oO t e0 rows cs):=nr rfl
@[simp] theorem U7 (t:Nat) (e0:TypeId) (rows:List (List PV)) (e:TypeId) (rs:List (List PV)):C7 t e0 rows (.arr e rs)=.arr e rs:=nr rfl
@[simp] theorem TR (t:Nat) (e0:TypeId) (rows:List (List PV)) (es):C7 t e0 rows (.map es)=.map es:=nr rfl
@[simp] theorem Ul (t:Nat) (e0:TypeId) (rows:List (List PV)) (es):C7 t e0 rows (.fO es)=.fO es:=nr rfl
@[simp] theorem W5 (p:PV):TL (.pv p)=TS (.pv p):=nr rfl
@[simp] theorem QT (b:Bool):TS (.pv (.bool b))=false:=nr rfl
@[simp] theorem VF (vs:List AV):PC (.aK vs)=AD vs:=nr rfl
@[simp] theorem Wj (p:PV):PC (.pv p)=D4 (.pv p):=nr rfl
@[simp] theorem WX (e:TypeId) (rows:List (List PV)):PC (.fr e rows)=false:=nr rfl
@[simp] theorem QX:AD []=false:=nr rfl
@[simp] theorem Kx (c:AV) (cs:List AV):AD (c::cs)=(Ml c||AD cs):=nr rfl
@[simp] theorem RU:zS []=false:=nr rfl
@[simp] theorem Nn (c:AV) (cs:List AV):zS (c::cs)=(D4 c||zS cs):=nr rfl
@[simp] theorem TQ (cs:List AV):Ml (.agg cs)=zS cs:=nr rfl
@[simp] theorem Xz (p:PV):Ml (.pv p)=D4 (.pv p):=nr rfl
@[simp] theorem WU (e:TypeId) (rows:List (List PV)):Ml (.fr e rows)=false:=nr rfl
@[simp] theorem UO (k:IntKind) (n:Int):D4 (.pv (.int k n))=false:=nr rfl
@[simp] theorem Pd (b:Bool):D4 (.pv (.bool b))=false:=nr rfl
@[simp] theorem VW (l:List UInt8):D4 (.pv (.str l))=false:=nr rfl
@[simp] theorem XF (e:TypeId) (rows:List (List PV)):D4 (.fr e rows)=false:=nr rfl
@[simp] theorem I9 (aa:Nat→Option AO) (k t:Nat):fc aa k (.own t)=(cz (aa t)).map fun r=>(t,r.1,r.2):=nr rfl
@[simp] theorem VK (e:TypeId) (rows:List (List PV)):sU 998 e rows=.fr e rows:=nr rfl
@[simp] theorem VA (e:TypeId) (rows:List (List PV)):sU 999 e rows=.aK [.fr e rows]:=nr rfl
@[simp] theorem U1 (aa:Nat→Option AO) (m v:AV) (vs:List AV):om aa m 0 (v::vs)=(er aa vs).map (m::·):=nr rfl
@[simp] theorem R3 (v:AV) (vs:List AV):hH 0 (v::vs)=dO vs:=nr rfl
@[simp] theorem Th (n:Nat) (r:AV) (e:TypeId) (rows:List (List PV)):bM (.bB n [r,.fr e rows])=r:=nr rfl
@[simp] theorem U4 (e:TypeId) (rows:List (List PV)):bM (.fr e rows)=.fr e rows:=nr rfl
@[simp] theorem TA (n:Nat) (r:AV) (e:TypeId) (rows:List (List PV)):dD (.bB n [r,.fr e rows])=[(999,.arr e rows)]:=nr rfl
@[simp] theorem VU (e:TypeId) (rows:List (List PV)):dD (.fr e rows)=[]:=nr rfl
@[simp] theorem La:mj []=True:=nr rfl
@[simp] theorem L9 (t n:Nat) (r:AV) (e:TypeId) (rows:List (List PV)) (vars:Nat→AV):fI t (.bB n [r,.fr e rows]) vars=vars:=nr rfl
@[simp] theorem QF (t:Nat) (e:TypeId) (rows:List (List PV)) (vars:Nat→AV):fI t (.fr e rows) vars=cb t vars:=nr rfl
@[simp] theorem KY (t n:Nat) (r:AV) (e:TypeId) (rows:List (List PV)) (aa:Nat→Option AO):cm t (.bB n [r,.fr e rows]) aa=aH t (.arr e rows) aa:=nr rfl
@[simp] theorem SK (t:Nat) (e:TypeId) (rows:List (List PV)) (aa:Nat→Option AO):cm t (.fr e rows) aa=eQ t aa:=nr rfl
@[simp] theorem U2 (t:Nat) (v:AV) (vs:List AV):jV t 0 (v::vs)=jV.ll t vs:=nr rfl
@[simp] theorem JS (t:Nat):jV.ll t []=True:=nr rfl
@[simp] theorem GO (t:Nat) (v:AV) (vs:List AV):jV.ll t (v::vs)=(tE t v∧jV.ll t vs):=nr rfl
@[simp] theorem NW (t:Nat) (f:FuncId) (cs:List AV):tE t (.bB f cs)=pW t cs:=nr rfl
@[simp] theorem Sw (t s o:Nat):nA t (.ptr s o)=(s≠t):=nr rfl
@[simp] theorem KU (t:Nat):pW t []=True:=nr rfl
@[simp] theorem Je (t:Nat) (c:AV) (cs:List AV):pW t (c::cs)=(nA t c∧pW t cs):=nr rfl
@[simp] theorem Sk (aa:Nat→Option AO) (e e1:TypeId) (zs:List Value) (t lo hi:Nat):wK aa e zs (.sub t e1 lo hi)=(cz (aa t)).bind fun r=>if r.1=e∧e1=e then some (t,.arr e (r.2.take lo++List.replicate (hi-lo) (zs.map oL)++r.2.drop hi)) else none:=nr rfl
attribute[simp] qV Bd Bm AX xN ti xr AY lX aJ
@[simp] theorem look_nil (s:Nat):look [] s=.aq:=nr rfl
@[simp] theorem MV (t:Nat) (v:AV) (l:List (Nat×AV)) (s:Nat):look ((t,v)::l) s=if s=t then v else look l s:=nr rfl
@[simp] theorem LF (s:Nat):ab [] s=none:=nr rfl
@[simp] theorem xT (t:Nat) (v:AO) (l:List (Nat×AO)) (s:Nat):ab ((t,v)::l) s=if s=t then some v else ab l s:=nr rfl
section
variable(vars:Nat→AV) (t:Nat)
@[simp] theorem WL:ev vars (.tmp t)=vars t:=nr rfl
@[simp] theorem We (k:IntKind) (n:Int):ev vars (.const (.int k n))=.pv (.int k n):=nr rfl
@[simp] theorem UK (b:Bool):ev vars (.const (.bool b))=.pv (.bool b):=nr rfl
@[simp] theorem Wy (s:ByteArray):ev vars (.const (.string s))=.pv (.str s.data.toList):=nr rfl
@[simp] theorem Wo:ev vars (.const (.slice none 0 0))=.pv .nil:=nr rfl
@[simp] theorem UI (f:FuncId):ev vars (.func f)=.bB f []:=nr rfl
@[simp] theorem Xp (k:IntKind) (n:Int):cv (.int k n)=.pv (.int k n):=nr rfl
@[simp] theorem TM (b:Bool):cv (.bool b)=.pv (.bool b):=nr rfl
@[simp] theorem Wl (s:ByteArray):cv (.string s)=.pv (.str s.data.toList):=nr rfl
@[simp] theorem WH:cv (.slice none 0 0)=.pv .nil:=nr rfl
end
section
@[simp] theorem VE (p:PV):asks (.pv p)=True:=nr rfl
@[simp] theorem Nz (t:Nat):asks (.own t)=True:=nr rfl
@[simp] theorem NB (t o:Nat):asks (.ptr t o)=True:=nr rfl
@[simp] theorem Mg (t:Nat) (e:TypeId) (i:Int) (o:Nat):asks (.aO t e i o)=True:=nr rfl
@[simp] theorem NM (t:Nat) (e:TypeId) (i o:Nat):asks (.sub t e i o)=True:=nr rfl
@[simp] theorem UG (cs:List PV):asks (.rp cs)=True:=nr rfl
@[simp] theorem O9 (cs:List AV):asks (.agg cs)=True:=nr rfl
@[simp] theorem QJ (cs:List AV):asks (.aK cs)=True:=nr rfl
@[simp] theorem PW (f:FuncId) (cs:List AV):asks (.bB f cs)=True:=nr rfl
@[simp] theorem MU:asks .aq=True:=nr rfl
@[simp] theorem Sf (g:Bool) (v:AV):asks (.bX g v)=(g=true∧asks v):=nr rfl
@[simp] theorem MC:al []=True:=nr rfl
@[simp] theorem Jg (v:AV) (l:List AV):al (v::l)=(asks v∧al l):=nr rfl
@[simp] theorem Tz (p:PV):strip (.pv p)=.pv p:=nr rfl
@[simp] theorem Mh (g:Bool) (v:AV):strip (.bX g v)=strip v:=nr rfl
@[simp] theorem MW (t:Nat):strip (.own t)=(.own t):=nr rfl
@[simp] theorem LL (t o:Nat):strip (.ptr t o)=(.ptr t o):=nr rfl
@[simp] theorem Hd (t:Nat) (e:TypeId) (i:Int) (o:Nat):strip (.aO t e i o)=(.aO t e i o):=nr rfl
@[simp] theorem LA (t:Nat) (e:TypeId) (i o:Nat):strip (.sub t e i o)=(.sub t e i o):=nr rfl
@[simp] theorem PY (cs:List PV):strip (.rp cs)=(.rp cs):=nr rfl
@[simp] theorem MB (cs:List AV):strip (.agg cs)=(.agg cs):=nr rfl
@[simp] theorem Ky (cs:List AV):strip (.aK cs)=(.aK cs):=nr rfl
@[simp] theorem LU (f:FuncId) (cs:List AV):strip (.bB f cs)=(.bB f cs):=nr rfl
@[simp] theorem Ki:strip .aq=.aq:=nr rfl
@[simp] theorem Ot (b:Bool):bC (.pv (.bool b)) true=some b:=nr rfl
@[simp] theorem SE (b:Bool):bC (.pv (.bool b)) false=some (!b):=nr rfl
@[simp] theorem QS (c:Bool) (v:AV) (w:Bool):bC (.bX c v) w=qu c (bC v w):=nr rfl
@[simp] theorem VI (o:Option Bool):qu true o=o:=nr rfl
@[simp] theorem Uf (o:Option Bool):qu false o=some false:=nr rfl
@[simp] theorem VX (c b:Bool):qu c (some b)=some (c&&b):=by cases c<;>rfl
@[simp] theorem Q6:eE []=false:=nr rfl
@[simp] theorem My (l:List AV):eE (.aq::l)=true:=nr rfl
@[simp] theorem QO (v:Value) (l:List AV):eE (.pv (.val v)::l)=true:=nr rfl
@[simp] theorem SU (k:IntKind) (n:Int) (l:List AV):eE (.pv (.int k n)::l)=eE l:=nr rfl
@[simp] theorem ME (b:Bool) (l:List AV):eE (.pv (.bool b)::l)=eE l:=nr rfl
@[simp] theorem SZ (b:List UInt8) (l:List AV):eE (.pv (.str b)::l)=eE l:=nr rfl
@[simp] theorem V8 (r:List (List PV)) (l:List AV):eE (.pv (.ro r)::l)=eE l:=nr rfl
@[simp] theorem Rh (t:Nat) (l:List AV):eE (.own t::l)=eE l:=nr rfl
@[simp] theorem RI (t o:Nat) (l:List AV):eE (.ptr t o::l)=eE l:=nr rfl
@[simp] theorem KQ (t:Nat) (e:TypeId) (i:Int) (o:Nat) (l:List AV):eE (.aO t e i o::l)=eE l:=nr rfl
@[simp] theorem V1 (c:PV) (cs:List PV) (l:List AV):eE (.rp (c::cs)::l)=eE l:=nr rfl
@[simp] theorem Tb (cs:List AV) (l:List AV):eE (.agg cs::l)=eE l:=nr rfl
@[simp] theorem Q8 (b:Bool):ED (some b)=!b:=by cases b<;>rfl
end
section
variable(op:BinOp) (k:IntKind) (a b:Int) (x y:List UInt8) (p q:Bool)
@[simp] theorem Q4:dE .add (.int k a) (.int k b)=some (True,.int k (k.wrap (a+b))):=by simp[dE]
@[simp] theorem Rj:dE .sub (.int k a) (.int k b)=some (True,.int k (k.wrap (a-b))):=by simp[dE]
@[simp] theorem Sm:dE .mul (.int k a) (.int k b)=some (True,.int k (k.wrap (a*b))):=by simp[dE]
@[simp] theorem PF:dE .quo (.int k a) (.int k b)=some (b≠0,.int k (k.wrap (a.tdiv b))):=by simp[dE]
@[simp] theorem R2:dE .eql (.int k a) (.int k b)=some (True,.bool (decide (a=b))):=by simp[dE]
@[simp] theorem S7:dE .neq (.int k a) (.int k b)=some (True,.bool (!decide (a=b))):=by simp[dE]
@[simp] theorem O7:dE .lss (.int k a) (.int k b)=some (True,.bool (decide (a<b))):=by simp[dE]
@[simp] theorem TB:dE .leq (.int k a) (.int k b)=some (True,.bool (decide (a≤b))):=by simp[dE]
@[simp] theorem SW:dE .gtr (.int k a) (.int k b)=some (True,.bool (decide (b<a))):=by simp[dE]
@[simp] theorem RA:dE .geq (.int k a) (.int k b)=some (True,.bool (decide (b≤a))):=by simp[dE]
@[simp] theorem N9:dE .and (.int k a) (.int k b)=some (True,vt .and k a b):=by simp[dE]
@[simp] theorem Q0:dE .xor (.int k a) (.int k b)=some (True,vt .xor k a b):=by simp[dE]
@[simp] theorem Tp (k':IntKind):dE .shl (.int k a) (.int k' b)=some (0≤b,.int k (k.wrap (a*2^(min b.toNat k.bits)))):=nr rfl
@[simp] theorem PB (k':IntKind):dE .shr (.int k a) (.int k' b)=some (0≤b,.int k (a.fdiv (2^(min b.toNat k.bits)))):=nr rfl
end
@[simp↓] theorem QG {P:Program}{Γ:bI}{d:Option Nat}{aa:Nat→Option AO}{C:bz→Prop}{xs:List AV}{op:BinOp}:aS P Γ d (.bin op) xs aa C=(al xs∧ah (ak (.bin op) (xs.map strip) aa) fun x=>x.1∧C (.put x.2)):=rfl
@[simp↓] theorem NZ {P:Program}{Γ:bI}{d:Option Nat}{aa:Nat→Option AO}{C:bz→Prop}{xs:List AV}{c:Bool}{op:BinOp}:b7 P Γ c d (.bin op) xs aa C=ah (ak (.bin op) (xs.map strip) aa) fun x=>(c=true→al xs∧x.1)∧C (.put (.bX c x.2)):=rfl
@[simp↓] theorem Ov {P:Program}{Γ:bI}{d:Option Nat}{aa:Nat→Option AO}{C:bz→Prop}{xs:List AV}{ne:Bool}:aS P Γ d (.beq ne) xs aa C=(al xs∧ah (ak (.beq ne) (xs.map strip) aa) fun x=>x.1∧C (.put x.2)):=rfl
@[simp↓] theorem Pf {P:Program}{Γ:bI}{d:Option Nat}{aa:Nat→Option AO}{C:bz→Prop}{xs:List AV}{c:Bool}{ne:Bool}:b7 P Γ c d (.beq ne) xs aa C=ah (ak (.beq ne) (xs.map strip) aa) fun x=>(c=true→al xs∧x.1)∧C (.put (.bX c x.2)):=rfl
@[simp↓] theorem Km {P:Program}{Γ:bI}{d:Option Nat}{aa:Nat→Option AO}{C:bz→Prop}{xs:List AV}:aS P Γ d .kP xs aa C=(al xs∧ah (ak .kP (xs.map strip) aa) fun x=>x.1∧C (.put x.2)):=rfl
@[simp↓] theorem M5 {P:Program}{Γ:bI}{d:Option Nat}{aa:Nat→Option AO}{C:bz→Prop}{xs:List AV}{c:Bool}:b7 P Γ c d .kP xs aa C=ah (ak .kP (xs.map strip) aa) fun x=>(c=true→al xs∧x.1)∧C (.put (.bX c x.2)):=rfl
@[simp↓] theorem NC {P:Program}{Γ:bI}{d:Option Nat}{aa:Nat→Option AO}{C:bz→Prop}{xs:List AV}{ne:Bool}{ks:List Nat}:aS P Γ d (.eqs ne ks) xs aa C=(al xs∧ah (ak (.eqs ne ks) (xs.map strip) aa) fun x=>x.1∧C (.put x.2)):=rfl
@[simp↓] theorem Qm {P:Program}{Γ:bI}{d:Option Nat}{aa:Nat→Option AO}{C:bz→Prop}{xs:List AV}{c:Bool}{ne:Bool}{ks:List Nat}:b7 P Γ c d (.eqs ne ks) xs aa C=ah (ak (.eqs ne ks) (xs.map strip) aa) fun x=>(c=true→al xs∧x.1)∧C (.put (.bX c x.2)):=rfl
@[simp↓] theorem OU {P:Program}{Γ:bI}{d:Option Nat}{aa:Nat→Option AO}{C:bz→Prop}{xs:List AV}{b:Bool}:aS P Γ d (.zR b) xs aa C=(al xs∧ah (ak (.zR b) (xs.map strip) aa) fun x=>x.1∧C (.put x.2)):=rfl
@[simp↓] theorem PK {P:Program}{Γ:bI}{d:Option Nat}{aa:Nat→Option AO}{C:bz→Prop}{xs:List AV}{c:Bool}{b:Bool}:b7 P Γ c d (.zR b) xs aa C=ah (ak (.zR b) (xs.map strip) aa) fun x=>(c=true→al xs∧x.1)∧C (.put (.bX c x.2)):=rfl
@[simp↓] theorem Ll {P:Program}{Γ:bI}{d:Option Nat}{aa:Nat→Option AO}{C:bz→Prop}{xs:List AV}:aS P Γ d (.qq) xs aa C=(al xs∧ah (ak (.qq) (xs.map strip) aa) fun x=>x.1∧C (.put x.2)):=rfl
@[simp↓] theorem KN {P:Program}{Γ:bI}{d:Option Nat}{aa:Nat→Option AO}{C:bz→Prop}{xs:List AV}{c:Bool}:b7 P Γ c d (.qq) xs aa C=ah (ak (.qq) (xs.map strip) aa) fun x=>(c=true→al xs∧x.1)∧C (.put (.bX c x.2)):=rfl
@[simp↓] theorem RE {P:Program}{Γ:bI}{d:Option Nat}{aa:Nat→Option AO}{C:bz→Prop}{xs:List AV}:aS P Γ d .yS xs aa C=(al xs∧ah (ak .yS (xs.map strip) aa) fun x=>x.1∧C (.put x.2)):=rfl
@[simp↓] theorem Sl {P:Program}{Γ:bI}{d:Option Nat}{aa:Nat→Option AO}{C:bz→Prop}{xs:List AV}{c:Bool}:b7 P Γ c d .yS xs aa C=ah (ak .yS (xs.map strip) aa) fun x=>(c=true→al xs∧x.1)∧C (.put (.bX c x.2)):=rfl
@[simp↓] theorem Pk {P:Program}{Γ:bI}{d:Option Nat}{aa:Nat→Option AO}{C:bz→Prop}{xs:List AV}:aS P Γ d .not xs aa C=(al xs∧ah (ak .not (xs.map strip) aa) fun x=>x.1∧C (.put x.2)):=rfl
@[simp↓] theorem PA {P:Program}{Γ:bI}{d:Option Nat}{aa:Nat→Option AO}{C:bz→Prop}{xs:List AV}{c:Bool}:b7 P Γ c d .not xs aa C=ah (ak .not (xs.map strip) aa) fun x=>(c=true→al xs∧x.1)∧C (.put (.bX c x.2)):=rfl
@[simp↓] theorem SO {P:Program}{Γ:bI}{d:Option Nat}{aa:Nat→Option AO}{C:bz→Prop}{xs:List AV}:aS P Γ d .neg xs aa C=(al xs∧ah (ak .neg (xs.map strip) aa) fun x=>x.1∧C (.put x.2)):=rfl
@[simp↓] theorem OE {P:Program}{Γ:bI}{d:Option Nat}{aa:Nat→Option AO}{C:bz→Prop}{xs:List AV}{c:Bool}:b7 P Γ c d .neg xs aa C=ah (ak .neg (xs.map strip) aa) fun x=>(c=true→al xs∧x.1)∧C (.put (.bX c x.2)):=rfl
@[simp↓] theorem Q2 {P:Program}{Γ:bI}{d:Option Nat}{aa:Nat→Option AO}{C:bz→Prop}{xs:List AV}{k:IntKind}:aS P Γ d (.rK k) xs aa C=(al xs∧ah (ak (.rK k) (xs.map strip) aa) fun x=>x.1∧C (.put x.2)):=rfl
@[simp↓] theorem Td {P:Program}{Γ:bI}{d:Option Nat}{aa:Nat→Option AO}{C:bz→Prop}{xs:List AV}{c:Bool}{k:IntKind}:b7 P Γ c d (.rK k) xs aa C=ah (ak (.rK k) (xs.map strip) aa) fun x=>(c=true→al xs∧x.1)∧C (.put (.bX c x.2)):=rfl
@[simp↓] theorem Qp {P:Program}{Γ:bI}{d:Option Nat}{aa:Nat→Option AO}{C:bz→Prop}{xs:List AV}:aS P Γ d .len xs aa C=(al xs∧ah (ak .len (xs.map strip) aa) fun x=>x.1∧C (.put x.2)):=rfl
@[simp↓] theorem S5 {P:Program}{Γ:bI}{d:Option Nat}{aa:Nat→Option AO}{C:bz→Prop}{xs:List AV}{c:Bool}:b7 P Γ c d .len xs aa C=ah (ak .len (xs.map strip) aa) fun x=>(c=true→al xs∧x.1)∧C (.put (.bX c x.2)):=rfl
@[simp↓] theorem MG {P:Program}{Γ:bI}{d:Option Nat}{aa:Nat→Option AO}{C:bz→Prop}{xs:List AV}:aS P Γ d .jI xs aa C=(al xs∧ah (ak .jI (xs.map strip) aa) fun x=>x.1∧C (.put x.2)):=rfl
@[simp↓] theorem LG {P:Program}{Γ:bI}{d:Option Nat}{aa:Nat→Option AO}{C:bz→Prop}{xs:List AV}{c:Bool}:b7 P Γ c d .jI xs aa C=ah (ak .jI (xs.map strip) aa) fun x=>(c=true→al xs∧x.1)∧C (.put (.bX c x.2)):=rfl
@[simp↓] theorem R7 {P:Program}{Γ:bI}{d:Option Nat}{aa:Nat→Option AO}{C:bz→Prop}{xs:List AV}{a b:Bool}:aS P Γ d (.EE a b) xs aa C=(al xs∧ah (ak (.EE a b) (xs.map strip) aa) fun x=>x.1∧C (.put x.2)):=rfl
@[simp↓] theorem QZ {P:Program}{Γ:bI}{d:Option Nat}{aa:Nat→Option AO}{C:bz→Prop}{xs:List AV}{c:Bool}{a b:Bool}:b7 P Γ c d (.EE a b) xs aa C=ah (ak (.EE a b) (xs.map strip) aa) fun x=>(c=true→al xs∧x.1)∧C (.put (.bX c x.2)):=rfl
@[simp↓] theorem Ss {P:Program}{Γ:bI}{d:Option Nat}{aa:Nat→Option AO}{C:bz→Prop}{xs:List AV}{o:Nat}{n:Option Nat}:aS P Γ d (.Cr o n) xs aa C=(al xs∧ah (ak (.Cr o n) (xs.map strip) aa) fun x=>x.1∧C (.put x.2)):=rfl
@[simp↓] theorem R1 {P:Program}{Γ:bI}{d:Option Nat}{aa:Nat→Option AO}{C:bz→Prop}{xs:List AV}{c:Bool}{o:Nat}{n:Option Nat}:b7 P Γ c d (.Cr o n) xs aa C=ah (ak (.Cr o n) (xs.map strip) aa) fun x=>(c=true→al xs∧x.1)∧C (.put (.bX c x.2)):=rfl
@[simp↓] theorem Qy {P:Program}{Γ:bI}{d:Option Nat}{aa:Nat→Option AO}{C:bz→Prop}{xs:List AV}{o:Nat}:aS P Γ d (.az o) xs aa C=(al xs∧ah (ak (.az o) (xs.map strip) aa) fun x=>x.1∧C (.put x.2)):=rfl
@[simp↓] theorem OT {P:Program}{Γ:bI}{d:Option Nat}{aa:Nat→Option AO}{C:bz→Prop}{xs:List AV}{c:Bool}{o:Nat}:b7 P Γ c d (.az o) xs aa C=ah (ak (.az o) (xs.map strip) aa) fun x=>(c=true→al xs∧x.1)∧C (.put (.bX c x.2)):=rfl
@[simp↓] theorem MS {P:Program}{Γ:bI}{d:Option Nat}{aa:Nat→Option AO}{C:bz→Prop}{xs:List AV}{n:Option Nat}:aS P Γ d (.load n) xs aa C=(al xs∧ah (ak (.load n) (xs.map strip) aa) fun x=>x.1∧C (.put x.2)):=rfl
@[simp↓] theorem Ms {P:Program}{Γ:bI}{d:Option Nat}{aa:Nat→Option AO}{C:bz→Prop}{xs:List AV}{c:Bool}{n:Option Nat}:b7 P Γ c d (.load n) xs aa C=ah (ak (.load n) (xs.map strip) aa) fun x=>(c=true→al xs∧x.1)∧C (.put (.bX c x.2)):=rfl
@[simp↓] theorem Qe {P:Program}{Γ:bI}{d:Option Nat}{aa:Nat→Option AO}{C:bz→Prop}{xs:List AV}{e:TypeId}{s:Nat}:aS P Γ d (.bg e s) xs aa C=(al xs∧ah (ak (.bg e s) (xs.map strip) aa) fun x=>x.1∧C (.put x.2)):=rfl
@[simp↓] theorem Qd {P:Program}{Γ:bI}{d:Option Nat}{aa:Nat→Option AO}{C:bz→Prop}{xs:List AV}{e s:Nat}:aS P Γ d (.De e s) xs aa C=(al xs∧ah (ak (.De e s) (xs.map strip) aa) fun x=>x.1∧C (.put x.2)):=rfl
@[simp↓] theorem RC {P:Program}{Γ:bI}{d:Option Nat}{aa:Nat→Option AO}{C:bz→Prop}{xs:List AV}:aS P Γ d .dA xs aa C=(al xs∧ah (ak .dA (xs.map strip) aa) fun x=>x.1∧C (.put x.2)):=rfl
@[simp↓] theorem Ql {P:Program}{Γ:bI}{d:Option Nat}{aa:Nat→Option AO}{C:bz→Prop}{xs:List AV}{c:Bool}{e:TypeId}{s:Nat}:b7 P Γ c d (.bg e s) xs aa C=ah (ak (.bg e s) (xs.map strip) aa) fun x=>(c=true→al xs∧x.1)∧C (.put (.bX c x.2)):=rfl
@[simp↓] theorem Qn {P:Program}{Γ:bI}{d:Option Nat}{aa:Nat→Option AO}{C:bz→Prop}{xs:List AV}{c:Bool}{e s:Nat}:b7 P Γ c d (.De e s) xs aa C=ah (ak (.De e s) (xs.map strip) aa) fun x=>(c=true→al xs∧x.1)∧C (.put (.bX c x.2)):=rfl
@[simp↓] theorem Tr {P:Program}{Γ:bI}{d:Option Nat}{aa:Nat→Option AO}{C:bz→Prop}{xs:List AV}{c:Bool}:b7 P Γ c d .dA xs aa C=ah (ak .dA (xs.map strip) aa) fun x=>(c=true→al xs∧x.1)∧C (.put (.bX c x.2)):=rfl
@[simp↓] theorem Pj {P:Program}{Γ:bI}{d:Option Nat}{aa:Nat→Option AO}{C:bz→Prop}{xs:List AV}{s:Nat}{a b:Bool}:aS P Γ d (.mS s a b) xs aa C=(al xs∧ah (ak (.mS s a b) (xs.map strip) aa) fun x=>x.1∧C (.put x.2)):=rfl
@[simp↓] theorem RQ {P:Program}{Γ:bI}{d:Option Nat}{aa:Nat→Option AO}{C:bz→Prop}{xs:List AV}{c:Bool}{s:Nat}{a b:Bool}:b7 P Γ c d (.mS s a b) xs aa C=ah (ak (.mS s a b) (xs.map strip) aa) fun x=>(c=true→al xs∧x.1)∧C (.put (.bX c x.2)):=rfl
@[simp↓] theorem Tu {P:Program}{Γ:bI}{d:Option Nat}{aa:Nat→Option AO}{C:bz→Prop}{xs:List AV}{i:Nat}:aS P Γ d (.ext i) xs aa C=(al xs∧ah (ak (.ext i) (xs.map strip) aa) fun x=>x.1∧C (.put x.2)):=rfl
@[simp↓] theorem RR {P:Program}{Γ:bI}{d:Option Nat}{aa:Nat→Option AO}{C:bz→Prop}{xs:List AV}{c:Bool}{i:Nat}:b7 P Γ c d (.ext i) xs aa C=ah (ak (.ext i) (xs.map strip) aa) fun x=>(c=true→al xs∧x.1)∧C (.put (.bX c x.2)):=rfl
@[simp↓] theorem Se {P:Program}{Γ:bI}{d:Option Nat}{aa:Nat→Option AO}{C:bz→Prop}{xs:List AV}{zs:List Value}{ps:List (Nat×Nat)}:aS P Γ d (.fR zs ps) xs aa C=(al xs∧ah (ak (.fR zs ps) (xs.map strip) aa) fun x=>x.1∧C (.put x.2)):=rfl
@[simp↓] theorem Ts {P:Program}{Γ:bI}{d:Option Nat}{aa:Nat→Option AO}{C:bz→Prop}{xs:List AV}{c:Bool}{zs:List Value}{ps:List (Nat×Nat)}:b7 P Γ c d (.fR zs ps) xs aa C=ah (ak (.fR zs ps) (xs.map strip) aa) fun x=>(c=true→al xs∧x.1)∧C (.put (.bX c x.2)):=rfl
@[simp↓] theorem QA {P:Program}{Γ:bI}{d:Option Nat}{aa:Nat→Option AO}{C:bz→Prop}{xs:List AV}{f:FuncId}:aS P Γ d (.zb f) xs aa C=(al xs∧ah (ak (.zb f) (xs.map strip) aa) fun x=>x.1∧C (.put x.2)):=rfl
@[simp↓] theorem Qo {P:Program}{Γ:bI}{d:Option Nat}{aa:Nat→Option AO}{C:bz→Prop}{xs:List AV}{c:Bool}{f:FuncId}:b7 P Γ c d (.zb f) xs aa C=ah (ak (.zb f) (xs.map strip) aa) fun x=>(c=true→al xs∧x.1)∧C (.put (.bX c x.2)):=rfl
@[simp↓] theorem L1 {P:Program}{Γ:bI}{d:Option Nat}{aa:Nat→Option AO}{C:bz→Prop}{xs:List AV}{e:TypeId}:aS P Γ d (.bL e) xs aa C=ah d fun d=>al xs∧ah (ck (.bL e) d (xs.map strip) aa) fun x=>x.1∧aa d=none∧C (.new x.2.1 [(d,x.2.2)]):=rfl
@[simp↓] theorem NO {P:Program}{Γ:bI}{d:Option Nat}{aa:Nat→Option AO}{C:bz→Prop}{xs:List AV}:aS P Γ d .box xs aa C=ah d fun d=>al xs∧ah (ck .box d (xs.map strip) aa) fun x=>x.1∧aa d=none∧C (.new x.2.1 [(d,x.2.2)]):=rfl
@[simp↓] theorem Ij {P:Program}{Γ:bI}{d:Option Nat}{aa:Nat→Option AO}{C:bz→Prop}{xs:List AV}{zs:List Value}:aS P Γ d (.alloc zs) xs aa C=ah d fun d=>al xs∧ah (ck (.alloc zs) d (xs.map strip) aa) fun x=>x.1∧aa d=none∧C (.new x.2.1 [(d,x.2.2)]):=rfl
@[simp↓] theorem RH {P:Program}{Γ:bI}{d:Option Nat}{aa:Nat→Option AO}{C:bz→Prop}{xs:List AV}{e:TypeId}{sz:Nat}:aS P Γ d (.eW e sz) xs aa C=ah d fun d=>al xs∧ah (ck (.eW e sz) d (xs.map strip) aa) fun x=>x.1∧aa d=none∧C (.new x.2.1 [(d,x.2.2)]):=rfl
@[simp↓] theorem M6 {P:Program}{Γ:bI}{d:Option Nat}{aa:Nat→Option AO}{C:bz→Prop}{xs:List AV}{c:Bool}{e:TypeId}:b7 P Γ c d (.bL e) xs aa C=((c=true→aS P Γ d (.bL e) xs aa C)∧(c=false→C (.put .aq))):=rfl
@[simp↓] theorem Qh {P:Program}{Γ:bI}{d:Option Nat}{aa:Nat→Option AO}{C:bz→Prop}{xs:List AV}{c:Bool}:b7 P Γ c d .box xs aa C=((c=true→aS P Γ d .box xs aa C)∧(c=false→C (.put .aq))):=rfl
@[simp↓] theorem HQ {P:Program}{Γ:bI}{d:Option Nat}{aa:Nat→Option AO}{C:bz→Prop}{xs:List AV}{c:Bool}{zs:List Value}:b7 P Γ c d (.alloc zs) xs aa C=((c=true→aS P Γ d (.alloc zs) xs aa C)∧(c=false→C (.put .aq))):=rfl
@[simp↓] theorem QU {P:Program}{Γ:bI}{d:Option Nat}{aa:Nat→Option AO}{C:bz→Prop}{xs:List AV}{c:Bool}{e:TypeId}{sz:Nat}:b7 P Γ c d (.eW e sz) xs aa C=((c=true→aS P Γ d (.eW e sz) xs aa C)∧(c=false→C (.put (yY xs)))):=rfl
@[simp↓] theorem JL {P:Program}{Γ:bI}{d:Option Nat}{aa:Nat→Option AO}{C:bz→Prop}{xs:List AV}{c:Bool}{n:Option Nat}:b7 P Γ c d (.store n) xs aa C=((c=true→aS P Γ d (.store n) xs aa C)∧(c=false→C (.put .aq))):=rfl
@[simp↓] theorem PI {P:Program}{Γ:bI}{d:Option Nat}{aa:Nat→Option AO}{C:bz→Prop}{xs:List AV}{c:Bool}{e:TypeId}{z b:Nat}:b7 P Γ c d (.app e z b) xs aa C=((c=true→aS P Γ d (.app e z b) xs aa C)∧(c=false→C (.put .aq))):=rfl
@[simp↓] theorem Tv {P:Program}{Γ:bI}{d:Option Nat}{aa:Nat→Option AO}{C:bz→Prop}{x:AV}:aS P Γ d .aM [x] aa C=C (.put x):=by simp[aS,ah]
@[simp↓] theorem OG {P:Program}{Γ:bI}{c:Bool}{d:Option Nat}{aa:Nat→Option AO}{C:bz→Prop}{x:AV}:b7 P Γ c d .aM [x] aa C=C (.put (.bX c x)):=by simp[b7,ah]
@[simp↓] theorem nB {P:Program}{Γ:bI}{d:Option Nat}{aa:Nat→Option AO}{C:bz→Prop}{xs:List AV}:aS P Γ d .pick xs aa C=ah (qS xs) fun x=>x.1∧C (.put x.2):=rfl
@[simp↓] theorem sX {P:Program}{Γ:bI}{d:Option Nat}{aa:Nat→Option AO}{C:bz→Prop}{xs:List AV}{c:Bool}:b7 P Γ c d .pick xs aa C=ah (qS xs) fun x=>(c=true→x.1)∧C (.put (.bX c x.2)):=rfl
@[simp↓] theorem Kf {P:Program}{Γ:bI}{d:Option Nat}{aa:Nat→Option AO}{C:bz→Prop}{xs:List AV}{n:Option Nat}:aS P Γ d (.store n) xs aa C=(al xs∧ah (dN (.store n) (xs.map strip) aa) fun x=>x.1∧C (.sj x.2.1 x.2.2)):=rfl
@[simp↓] theorem Eu {P:Program}{Γ:bI}{d:Option Nat}{aa:Nat→Option AO}{C:bz→Prop}{x:AV}{t:Nat}{e:TypeId}{z b:Nat}:aS P Γ d (.app e z b) [.own t,x] aa C=(al [.own t,x]∧ah (dN (.app e z b) [.own t,strip x] aa) fun x=>x.1∧C (.app x.2.1 x.2.2)):=rfl
@[simp↓] theorem D9 {P:Program}{Γ:bI}{d:Option Nat}{aa:Nat→Option AO}{C:bz→Prop}{x:AV}{e:TypeId}{z b:Nat}:aS P Γ d (.app e z b) [.pv .nil,x] aa C=(al [.pv .nil,x]∧ah d fun d=>ah (ck (.app e z b) d [.pv .nil,strip x] aa) fun x=>x.1∧aa d=none∧C (.new x.2.1 [(d,x.2.2)])):=rfl
@[simp↓] theorem K7 {P:Program}{Γ:bI}{d:Option Nat}{aa:Nat→Option AO}{C:bz→Prop}{xs:List AV}{f:FuncId}:aS P Γ d (.call f) xs aa C=cf P Γ d f xs aa C:=rfl
@[simp↓] theorem Ko {P:Program}{Γ:bI}{d:Option Nat}{aa:Nat→Option AO}{C:bz→Prop}{xs:List AV}{c:Bool}{f:FuncId}:b7 P Γ c d (.call f) xs aa C=ah (er aa (xs.map strip)) fun ys=>ah (gt Γ f ys) fun x=>if(!mF x.2&&(wE x.2).isEmpty)=true then(c=true→al xs∧x.1)∧flat x.2∧wE x.2=[]∧cB x.2=true∧C (.put (.bX c x.2)) else(c=true→cf P Γ d f xs aa C)∧(c=false→C (.put (.bX false (HB x.2)))):=rfl
@[simp] theorem Vt (e:TypeId) (rows:List (List PV)):HB (.fr e rows)=.pv (.ro rows):=nr rfl
@[simp↓] theorem RN {Γ:bI}{aa:Nat→Option AO}{C:bz→Prop}{xs:List AV}{c:Bool}{f:FuncId}:wv Γ c f xs aa C=ah (er aa (xs.map strip)) fun ys=>ah (gt Γ f ys) fun x=>(c=true→al xs∧x.1)∧flat x.2∧wE x.2=[]∧cB x.2=true∧C (.put (.bX c x.2)):=rfl
section
variable{aa:Nat→Option AO}
@[simp] theorem Sx (e:TypeId) (rows:List (List PV)):xl (some (.arr e rows))=some (e,rows.length):=nr rfl
@[simp] theorem Mw (e e':TypeId) (i:Int) (o:Nat) (rows:List (List PV)):kj e i o (some (.arr e' rows))=if e'=e then some (0≤i∧i<rows.length∧o<(rowAt rows i).length,.pv ((rowAt rows i).getD o (.int .u8 0))) else none:=nr rfl
@[simp] theorem Sz (es:List (PV×PV)):cz (some (.fO es))=none:=nr rfl
@[simp] theorem Ln (e:TypeId) (rows:List (List PV)):cz (some (.arr e rows))=some (e,rows):=nr rfl
@[simp] theorem L6 (cs:List AV):dX (some (.box cs))=some cs:=nr rfl
@[simp] theorem NQ (c:Bool):gK (.pv (.bool c))=some c:=nr rfl
@[simp] theorem Od (c a b:AV):qS [c,a,b]=(gK (strip c)).bind fun g=>(na (asks a) (asks b) g (strip a) (strip b)).map fun r=>(asks c∧r.1,r.2):=nr rfl
@[simp] theorem MF (φ ψ:Prop) (c x y:Bool):na φ ψ c (.pv (.bool x)) (.pv (.bool y))=some ((c=true→φ)∧(c=false→ψ),.pv (.bool (cond c x y))):=nr rfl
@[simp] theorem L0 (φ ψ:Prop) (c x:Bool):na φ ψ c (.pv (.bool x)) .aq=some (c=true∧φ,.pv (.bool x)):=nr rfl
@[simp] theorem Lg (φ ψ:Prop) (c y:Bool):na φ ψ c .aq (.pv (.bool y))=some (c=false∧ψ,.pv (.bool y)):=nr rfl
@[simp] theorem Qs (n:Nat) (k:IntKind) (l:Int):bounds n true false [.pv (.int k l)]=some (l,(n:Int)):=nr rfl
@[simp] theorem RZ (n:Nat) (k:IntKind) (h:Int):bounds n false true [.pv (.int k h)]=some (0,h):=nr rfl
@[simp] theorem PL (op:BinOp) (x y:PV):ak (.bin op) [.pv x,.pv y] aa=(dE op x y).map fun r=>(r.1,.pv r.2):=nr rfl
@[simp] theorem Rl (ne x y:Bool):ak (.beq ne) [.pv (.bool x),.pv (.bool y)] aa=some (True,.pv (.bool (if ne then x !=y else x==y))):=nr rfl
@[simp] theorem QI (b:Bool):ak .not [.pv (.bool b)] aa=some (True,.pv (.bool (!b))):=nr rfl
@[simp] theorem SX (k k':IntKind) (n:Int):ak (.rK k) [.pv (.int k' n)] aa=some (True,.pv (.int k (k.wrap n))):=nr rfl
@[simp] theorem Qa (ne:Bool) (ks:List Nat) (xs ys:List AV):ak (.eqs ne ks) [.agg xs,.agg ys] aa=(eb xs).bind fun a=>(eb ys).map fun b=>(a.map cL=ks∧b.map cL=ks,.pv (.bool (if ne then !iJ a b else iJ a b))):=nr rfl
@[simp] theorem Oz:iJ [] []=true:=nr rfl
@[simp] theorem Nh (a b:PV) (l m:List PV):iJ (a::l) (b::m)=(lM a b&&iJ l m):=nr rfl
@[simp] theorem UP (k k':IntKind) (a b:Int):lM (.int k a) (.int k' b)=decide (a=b):=nr rfl
@[simp] theorem UE (a b:List UInt8):lM (.str a) (.str b)=decide (a=b):=nr rfl
@[simp] theorem SY (a b:Bool):lM (.bool a) (.bool b)=decide (a=b):=nr rfl
@[simp] theorem Ra (k:IntKind) (a b:Int):ak (.zR true) [.pv (.int k a),.pv (.int k b)] aa=some (True,.pv (.int k (max a b))):=by simp[ak]
@[simp] theorem TK (rows:List (List PV)):eN aa (.pv (.ro rows))=some rows:=nr rfl
@[simp] theorem EF (l:List UInt8):ak .kP [.pv (.str l)] aa=some (True,.pv (.int .i64 l.length)):=nr rfl
@[simp] theorem DP:ak .len [.pv .nil] aa=some (True,.pv (.int .i64 0)):=nr rfl
@[simp] theorem G1 (rows:List (List PV)):ak .len [.pv (.ro rows)] aa=some (True,.pv (.int .i64 rows.length)):=nr rfl
@[simp] theorem Eb (t:Nat):ak .len [.own t] aa=(xl (aa t)).map fun r=>(True,.pv (.int .i64 r.2)):=nr rfl
@[simp] theorem EO (t:Nat) (e:TypeId) (lo hi:Nat):ak .len [.sub t e lo hi] aa=(cz (aa t)).map fun _=>(True,.pv (.int .i64 ((hi:Int)-(lo:Int)))):=nr rfl
@[simp] theorem Na (l:List UInt8) (k:IntKind) (i:Int):ak .jI [.pv (.str l),.pv (.int k i)] aa=some (0≤i∧i<l.length,.pv (.int .u8 ((l.getD i.toNat 0).toNat:Int))):=nr rfl
@[simp] theorem Rb (sz:Nat) (lo hi:Bool) (rows:List (List PV)) (bs:List AV):ak (.mS sz lo hi) (.pv (.ro rows)::bs) aa=(bounds rows.length lo hi bs).map fun b:Int×Int=>(0≤b.1∧b.1≤b.2∧b.2≤(rows.length:Int)∧(∀r∈rows,r.length=sz),.pv (.ro (cut rows b.1 b.2))):=by unfold ak;rfl
@[simp] theorem Di (off t o:Nat):ak (.az off) [.ptr t o] aa=some (True,.ptr t (o+off)):=nr rfl
@[simp] theorem Da (off t o:Nat) (e:TypeId) (i:Int):ak (.az off) [.aO t e i o] aa=some (True,.aO t e i (o+off)):=nr rfl
@[simp] theorem GV (off:Nat) (cs:List PV):ak (.az off) [.rp cs] aa=some (True,.rp (cs.drop off)):=nr rfl
@[simp] theorem EI (t o:Nat):ak .dA [.ptr t o] aa=some (True,.ptr t o):=nr rfl
@[simp] theorem Gx (cs:List PV):ak .dA [.rp cs] aa=some (True,.rp cs):=nr rfl
@[simp] theorem C8 (t o:Nat):ak (.load none) [.ptr t o] aa=(dX (aa t)).bind fun cs=>(cs[o]?).bind fun c=>if jZ c=true then some (True,c) else none:=nr rfl
@[simp] theorem RT (p:PV):jZ (.pv p)=true:=nr rfl
@[simp] theorem Ld (t:Nat):jZ (.own t)=true:=nr rfl
@[simp] theorem Bx (n t o:Nat):ak (.load (some n)) [.ptr t o] aa=(dX (aa t)).bind fun cs=>if o+n≤cs.length then some (True,.agg ((cs.drop o).take n)) else none:=nr rfl
@[simp] theorem CV (t o:Nat) (e:TypeId) (i:Int):ak (.load none) [.aO t e i o] aa=kj e i o (aa t):=nr rfl
@[simp] theorem Bc (n t o:Nat) (e:TypeId) (i:Int):ak (.load (some n)) [.aO t e i o] aa=(cz (aa t)).bind fun r=>if r.1=e∧o+n≤(rowAt r.2 i).length then some (0≤i∧i<r.2.length,.agg ((((rowAt r.2 i).drop o).take n).map .pv)) else none:=nr rfl
@[simp] theorem EN (c:PV) (cs:List PV):ak (.load none) [.rp (c::cs)] aa=some (True,.pv c):=nr rfl
@[simp] theorem Db:ak (.load none) [.rp []] aa=some (False,.pv (.int .u64 0)):=nr rfl
@[simp] theorem C2 (n:Nat) (cs:List PV):ak (.load (some n)) [.rp cs] aa=(if n≤cs.length then some (True,.agg ((cs.take n).map .pv)) else none):=nr rfl
@[simp] theorem Fp (e:TypeId) (sz:Nat) (rows:List (List PV)) (k:IntKind) (i:Int):ak (.bg e sz) [.pv (.ro rows),.pv (.int k i)] aa=some (0≤i∧i<rows.length∧(rowAt rows i).length=sz,.rp (rowAt rows i)):=nr rfl
@[simp] theorem Fg (e:TypeId) (sz t:Nat) (k:IntKind) (i:Int):ak (.bg e sz) [.own t,.pv (.int k i)] aa=(xl (aa t)).bind fun r=>if r.1=e then some (0≤i∧i<r.2,.aO t e i 0) else none:=nr rfl
@[simp] theorem DL (e e1:TypeId) (sz t lo hi:Nat) (k:IntKind) (i:Int):ak (.bg e sz) [.sub t e1 lo hi,.pv (.int k i)] aa=(cz (aa t)).bind fun r=>if r.1=e∧e1=e then some (0≤i∧i<(hi:Int)-(lo:Int),.aO t e ((lo:Int)+i) 0) else none:=nr rfl
@[simp] theorem Dz (sz:Nat) (lo hi:Bool) (bs:List AV):ak (.mS sz lo hi) (.pv .nil::bs) aa=(bounds 0 lo hi bs).map fun b:Int×Int=>(b.1=0∧b.2=0,.pv .nil):=nr rfl
@[simp] theorem Ef (sz t:Nat) (lo hi:Bool) (bs:List AV):ak (.mS sz lo hi) (.own t::bs) aa=(cz (aa t)).bind fun r=>(bounds r.2.length lo hi bs).map fun b:Int×Int=>(0≤b.1∧b.1≤b.2∧b.2≤(r.2.length:Int)∧(∀x∈r.2,x.length=sz),.sub t r.1 b.1.toNat b.2.toNat):=nr rfl
@[simp] theorem RG (i:Nat) (vs:List AV):ak (.ext i) [.aK vs] aa=(vs[i]?).map fun v=>(True,v):=nr rfl
@[simp] theorem Tn (zs:List Value) (ps:List (Nat×Nat)) (xs:List AV):ak (.fR zs ps) xs aa=(iZ (zs.map cv) ps xs).map fun cs=>(True,.agg cs):=by unfold ak;rfl
@[simp] theorem Oh (f:FuncId) (xs:List AV):ak (.zb f) xs aa=some (True,.bB f xs):=by unfold ak;rfl
@[simp] theorem Nl (e:TypeId) (d:Nat) (xs:List AV):ck (.bL e) d xs aa=some (True,.own d,.arr e []):=by unfold ck;rfl
@[simp] theorem SC (d:Nat) (x:AV):ck .box d [x] aa=(if eM (cellsOf x) then some (True,.ptr d 0,.box (cellsOf x)) else none):=nr rfl
@[simp] theorem J4 (d:Nat) (zs:List Value) (xs:List AV):ck (.alloc zs) d xs aa=(if zs.all (·.oneCell') then some (True,.ptr d 0,.box (zs.map cv)) else none):=by unfold ck;rfl
@[simp] theorem O2 (e:TypeId) (sz d:Nat) (xs:List AV):ck (.eW e sz) d xs aa=(rowsOf xs).map fun rows=>(∀r∈rows,r.length=sz,.own d,.arr e rows):=by unfold ck;rfl
@[simp] theorem Bq (t o:Nat) (v:AV):dN (.store none) [.ptr t o,v] aa=(dX (aa t)).bind fun cs=>if dI v∧o<cs.length then some (True,t,.box (cs.set o v)) else none:=nr rfl
@[simp] theorem Bb (n t o:Nat) (vs:List AV):dN (.store (some n)) [.ptr t o,.agg vs] aa=(dX (aa t)).bind fun cs=>if eM vs∧vs.length=n∧o+n≤cs.length then some (True,t,.box (bR cs o vs)) else none:=nr rfl
@[simp] theorem A9 (t o:Nat) (e:TypeId) (i:Int) (p:PV):dN (.store none) [.aO t e i o,.pv p] aa=(cz (aa t)).bind fun r=>if r.1=e∧o<(rowAt r.2 i).length∧dI (.pv p) then some (0≤i∧i<r.2.length,t,.arr e (r.2.set i.toNat ((rowAt r.2 i).set o p))) else none:=nr rfl
@[simp] theorem A6 (n t o:Nat) (e:TypeId) (i:Int) (vs:List AV):dN (.store (some n)) [.aO t e i o,.agg vs] aa=(cz (aa t)).bind fun r=>(eb vs).bind fun ps=>if r.1=e∧eM vs∧ps.length=n∧o+n≤(rowAt r.2 i).length then some (0≤i∧i<r.2.length,t,.arr e (r.2.set i.toNat (bR (rowAt r.2 i) o ps))) else none:=nr rfl
@[simp] theorem OC (e:TypeId) (sz bytes t:Nat) (x:AV):dN (.app e sz bytes) [.own t,x] aa=(cz (aa t)).bind fun r=>(cE aa x).bind fun more=>if r.1=e∧t%1000≠999 then some ((r.2.length+more.length)*bytes≤140737488355328∧r.2.length+more.length≤maxLen∧(∀r∈more,r.length=sz),t,.arr e (r.2++more)) else none:=nr rfl
@[simp] theorem Vb (p:PV):zQ (.pv p)=some p:=nr rfl
@[simp] theorem Lt:eb []=some []:=nr rfl
@[simp] theorem JQ (v:AV) (l:List AV):eb (v::l)=(zQ v).bind fun p=>(eb l).map (p::·):=nr rfl
@[simp] theorem OH (p:PV):rowOf (.pv p)=some [p]:=nr rfl
@[simp] theorem KG (cs:List AV):rowOf (.agg cs)=eb cs:=nr rfl
@[simp] theorem Io:rowsOf []=some []:=nr rfl
@[simp] theorem Fz (v:AV) (l:List AV):rowsOf (v::l)=(rowOf v).bind fun p=>(rowsOf l).map (p::·):=nr rfl
@[simp] theorem GD (cs:List AV):cellsOf (.agg cs)=cs:=nr rfl
@[simp] theorem I1 (p:PV):cellsOf (.pv p)=[.pv p]:=nr rfl
@[simp] theorem Gd (t:Nat):cellsOf (.own t)=[.own t]:=nr rfl
@[simp] theorem Hy (cs:List AV):iZ cs [] []=some cs:=nr rfl
@[simp] theorem Gi (cs:List AV) (off n:Nat) (ps:List (Nat×Nat)) (x:AV) (xs:List AV):iZ cs ((off,n)::ps) (x::xs)=if jK x=true∧(cellsOf x).length=n∧off+n≤cs.length then iZ (lay cs off ((cellsOf x).map mV)) ps xs else none:=nr rfl
@[simp] theorem VZ (p:PV):mV (.pv p)=.pv p:=nr rfl
@[simp] theorem Q5 (t:Nat):mV (.own t)=.own t:=nr rfl
@[simp] theorem QE (f:FuncId):mV (.bB f [])=.pv (.val (.func (.func f) #[] #[])):=nr rfl
@[simp] theorem Kr (rows:List (List PV)):cE aa (.pv (.ro rows))=some rows:=nr rfl
@[simp] theorem JK (t:Nat):cE aa (.own t)=(cz (aa t)).map (·.2):=nr rfl
@[simp] theorem P6:dR aa (.pv .nil)=some (.ro []):=nr rfl
@[simp] theorem Pq (k:IntKind) (n:Int):dR aa (.pv (.int k n))=some (.int k n):=nr rfl
@[simp] theorem MZ (b:Bool):dR aa (.pv (.bool b))=some (.bool b):=nr rfl
@[simp] theorem SA (l:List UInt8):dR aa (.pv (.str l))=some (.str l):=nr rfl
@[simp] theorem Uo (rows:List (List PV)):dR aa (.pv (.ro rows))=some (.ro rows):=nr rfl
@[simp] theorem NL (t:Nat):dR aa (.own t)=A0 (aa t):=nr rfl
@[simp] theorem N2 (e:TypeId) (rows:List (List PV)):A0 (some (.arr e rows))=some (.ro rows):=nr rfl
@[simp] theorem QH (es:List (PV×AV)):A0 (some (.map es))=if es.all (fun e=>yQ e.2)=true then some (.mp (es.map (·.1))) else none:=nr rfl
@[simp] theorem Mc:sr (.agg #[])=true:=nr rfl
@[simp] theorem Lu:gV aa []=some []:=nr rfl
@[simp] theorem HP (c:AV) (cs:List AV):gV aa (c::cs)=(dR aa c).bind fun p=>(gV aa cs).map (p::·):=nr rfl
@[simp] theorem Rn (t o:Nat):ef aa (.ptr t o)=(dX (aa t)).bind fun cs=>(gV aa (cs.drop o)).map .rp:=nr rfl
@[simp] theorem UC (cs:List PV):ef aa (.rp cs)=some (.rp cs):=nr rfl
@[simp] theorem KO:ju aa []=some []:=nr rfl
@[simp] theorem Jw (c:AV) (cs:List AV):ju aa (c::cs)=(ef aa c).bind fun p=>(ju aa cs).map (p::·):=nr rfl
@[simp] theorem UJ (f:FuncId) (caps:List AV):mC aa (.bB f caps)=(ju aa caps).map (.bB f):=nr rfl
@[simp] theorem T6 (t o:Nat):mC aa (.ptr t o)=ef aa (.ptr t o):=nr rfl
@[simp] theorem Ww (cs:List PV):mC aa (.rp cs)=some (.rp cs):=nr rfl
@[simp] theorem UB (cs:List AV):mC aa (.agg cs)=(gV aa cs).map fun ps=>.agg (ps.map .pv):=nr rfl
@[simp] theorem WT (p:PV):mC aa (.pv p)=(dR aa (.pv p)).map .pv:=nr rfl
@[simp] theorem Ua (t:Nat):mC aa (.own t)=(dR aa (.own t)).map .pv:=nr rfl
@[simp] theorem OX:er aa []=some []:=nr rfl
@[simp] theorem KJ (c:AV) (cs:List AV):er aa (c::cs)=(mC aa c).bind fun p=>(er aa cs).map (p::·):=nr rfl
@[simp] theorem Pg (p:PV):fu (.pv p)=true:=nr rfl
@[simp] theorem Si (cs:List PV):fu (.rp cs)=true:=nr rfl
@[simp] theorem Lr (t:Nat):fu (.own t)=false:=nr rfl
@[simp] theorem MX (t o:Nat):fu (.ptr t o)=false:=nr rfl
@[simp] theorem J0:fF []=true:=nr rfl
@[simp] theorem Fy (c:AV) (cs:List AV):fF (c::cs)=(fu c&&fF cs):=nr rfl
@[simp] theorem M0 (cs:List AV):dr (.agg cs)=fF cs:=nr rfl
@[simp] theorem K1 (f:FuncId) (cs:List AV):dr (.bB f cs)=fF cs:=nr rfl
@[simp] theorem Q3 (p:PV):dr (.pv p)=true:=nr rfl
@[simp] theorem Q1 (cs:List PV):dr (.rp cs)=true:=nr rfl
@[simp] theorem MY (t:Nat):dr (.own t)=false:=nr rfl
@[simp] theorem Np (t o:Nat):dr (.ptr t o)=false:=nr rfl
@[simp] theorem Nf:dO []=true:=nr rfl
@[simp] theorem IB (c:AV) (cs:List AV):dO (c::cs)=(dr c&&dO cs):=nr rfl
@[simp] theorem Ut (k:IntKind) (n:Int):dI (.pv (.int k n))=true:=nr rfl
@[simp] theorem OW (b:Bool):dI (.pv (.bool b))=true:=nr rfl
@[simp] theorem Ud (l:List UInt8):dI (.pv (.str l))=true:=nr rfl
@[simp] theorem UU:dI (.pv .nil)=true:=nr rfl
@[simp] theorem Xu (rows:List (List PV)):dI (.pv (.ro rows))=true:=nr rfl
@[simp] theorem UW (t:Nat):dI (.own t)=true:=nr rfl
@[simp] theorem RS:eM []=true:=nr rfl
@[simp] theorem K4 (c:AV) (cs:List AV):eM (c::cs)=(dI c&&eM cs):=nr rfl
@[simp] theorem J6 (cs:List AV):jK (.agg cs)=true:=nr rfl
@[simp] theorem LV (p:PV):jK (.pv p)=dI (.pv p):=nr rfl
@[simp] theorem HS (t:Nat):jK (.own t)=true:=nr rfl
@[simp] theorem Nj (t s:Nat):bO t (.own s)=if s=t then .aq else .own s:=nr rfl
@[simp] theorem Ob (t:Nat) (p:PV):bO t (.pv p)=.pv p:=nr rfl
@[simp] theorem JN (t:Nat):bJ t []=[]:=nr rfl
@[simp] theorem GU (t:Nat) (c:AV) (cs:List AV):bJ t (c::cs)=bO t c::bJ t cs:=nr rfl
@[simp] theorem N8 (t:Nat) (cs:List AV):kill t (.agg cs)=.agg (bJ t cs):=nr rfl
@[simp] theorem Pv (t s:Nat):kill t (.own s)=if s=t then .aq else .own s:=nr rfl
@[simp] theorem np (t s:Nat) (e:TypeId) (i:Int) (o:Nat):kill t (.aO s e i o)=if s=t then .aq else .aO s e i o:=nr rfl
@[simp] theorem U0 (t:Nat) (p:PV):kill t (.pv p)=.pv p:=nr rfl
@[simp] theorem qG (t s o:Nat):kill t (.ptr s o)=.ptr s o:=nr rfl
@[simp] theorem ub (t:Nat) (cs:List PV):kill t (.rp cs)=.rp cs:=nr rfl
@[simp] theorem Ns (t:Nat):kill t .aq=.aq:=nr rfl
@[simp] theorem TJ (t:Nat) (g:Bool) (v:AV):kill t (.bX g v)=.bX g (kill t v):=nr rfl
@[simp] theorem NY (t:Nat) (f:FuncId) (c:AV) (cs:List AV):kill t (.bB f (c::cs))=.aq:=nr rfl
@[simp] theorem Ku (t:Nat) (cs:List AV):cZ t (.box cs)=.box (bJ t cs):=nr rfl
@[simp] theorem KF (t:Nat) (e:TypeId) (rows:List (List PV)):cZ t (.arr e rows)=.arr e rows:=nr rfl
@[simp] theorem Mt (g:Nat→AV→AV) (j:Nat):fH g j []=[]:=nr rfl
@[simp] theorem Ht (g:Nat→AV→AV) (j:Nat) (c:AV) (cs:List AV):fH g j (c::cs)=g (1000*j) c::fH g (j+1) cs:=nr rfl
@[simp] theorem Sv (g:Nat→AV→AV) (cs:List AV):kR g (.agg cs)=.agg (fH g 0 cs):=nr rfl
@[simp] theorem Vc (g:Nat→AV→AV) (p:PV):kR g (.pv p)=g 0 (.pv p):=nr rfl
@[simp] theorem UZ (g:Nat→AV→AV) (e:TypeId) (rows:List (List PV)):kR g (.fr e rows)=g 0 (.fr e rows):=nr rfl
@[simp] theorem Kn (g:Nat→AV→AV) (i:Nat):gJ g i []=[]:=nr rfl
@[simp] theorem Jd (g:Nat→AV→AV) (i:Nat) (v:AV) (vs:List AV):gJ g i (v::vs)=kR (fun p c=>g (p+i) c) v::gJ g (i+1) vs:=nr rfl
@[simp] theorem Kj (g:Nat→AV→AV) (vs:List AV):cA g (.aK vs)=.aK (gJ g 0 vs):=nr rfl
@[simp] theorem Nq (g:Nat→AV→AV) (p:PV):cA g (.pv p)=g 0 (.pv p):=nr rfl
@[simp] theorem Mx (g:Nat→AV→AV) (e:TypeId) (rows:List (List PV)):cA g (.fr e rows)=g 0 (.fr e rows):=nr rfl
@[simp] theorem Im (g:Nat→AV→AV) (cs:List AV):cA g (.agg cs)=.agg (fH g 0 cs):=nr rfl
@[simp] theorem VR (d p:Nat) (e:TypeId) (rows:List (List PV)):jG d p (.fr e rows)=.own (d+1000*p):=nr rfl
@[simp] theorem TO (d p:Nat) (q:PV):jG d p (.pv q)=.pv q:=nr rfl
@[simp 1100] theorem TD (d p:Nat) (o:AO) (l:List (Nat×AO)):List.map (fun x:Nat×AO=>(d+1000*x.1,x.2)) ((p,o)::l)=(d+1000*p,o)::List.map (fun x:Nat×AO=>(d+1000*x.1,x.2)) l:=nr rfl
@[simp] theorem KS (j:Nat):fo j []=[]:=nr rfl
@[simp] theorem Re (j:Nat) (e:TypeId) (rows:List (List PV)) (cs:List AV):fo j (.fr e rows::cs)=(1000*j,.arr e rows)::fo (j+1) cs:=nr rfl
@[simp] theorem OO (j:Nat) (p:PV) (cs:List AV):fo j (.pv p::cs)=fo (j+1) cs:=nr rfl
@[simp] theorem Po (cs:List AV):jB (.agg cs)=fo 0 cs:=nr rfl
@[simp] theorem Vh (e:TypeId) (rows:List (List PV)):jB (.fr e rows)=[(0,.arr e rows)]:=nr rfl
@[simp] theorem UA (p:PV):jB (.pv p)=[]:=nr rfl
@[simp] theorem LP (i:Nat):jH i []=[]:=nr rfl
@[simp] theorem IS (i:Nat) (v:AV) (vs:List AV):jH i (v::vs)=(jB v).map (fun x=>(x.1+i,x.2))++jH (i+1) vs:=nr rfl
@[simp] theorem Ue (p:PV):il (.pv p)=true:=nr rfl
@[simp] theorem U6 (e:TypeId) (rows:List (List PV)):il (.fr e rows)=true:=nr rfl
@[simp] theorem Mu:mQ []=true:=nr rfl
@[simp] theorem J7 (c:AV) (cs:List AV):mQ (c::cs)=(il c&&mQ cs):=nr rfl
@[simp] theorem Ru (cs:List AV):kL (.agg cs)=mQ cs:=nr rfl
@[simp] theorem TV (p:PV):kL (.pv p)=true:=nr rfl
@[simp] theorem UX (e:TypeId) (rows:List (List PV)):kL (.fr e rows)=true:=nr rfl
@[simp] theorem LW:oq []=true:=nr rfl
@[simp] theorem IA (c:AV) (cs:List AV):oq (c::cs)=(kL c&&oq cs):=nr rfl
@[simp] theorem KC (vs:List AV):cB (.aK vs)=(decide (vs.length≤900)&&oq vs):=nr rfl
@[simp] theorem MO (cs:List AV):cB (.agg cs)=mQ cs:=nr rfl
@[simp] theorem S8 (p:PV):cB (.pv p)=true:=nr rfl
@[simp] theorem Sj (e:TypeId) (rows:List (List PV)):cB (.fr e rows)=true:=nr rfl
@[simp] theorem Uc (vs:List AV):wE (.aK vs)=jH 0 vs:=nr rfl
@[simp] theorem Ug (cs:List AV):wE (.agg cs)=fo 0 cs:=nr rfl
@[simp] theorem XI (e:TypeId) (rows:List (List PV)):wE (.fr e rows)=[(0,.arr e rows)]:=nr rfl
@[simp] theorem XN (p:PV):wE (.pv p)=[]:=nr rfl
@[simp] theorem L4 (k:IntKind) (n:Int):gF (.int k n)=true:=nr rfl
@[simp] theorem J5 (b:Bool):gF (.bool b)=true:=nr rfl
@[simp] theorem KR (l:List UInt8):gF (.str l)=true:=nr rfl
@[simp] theorem Ti (rows:List (List PV)):gF (.ro rows)=rows.isEmpty:=nr rfl
@[simp] theorem TF (p:PV):kV (.pv p)=(gF p=true):=nr rfl
@[simp] theorem Tm (e:TypeId) (rows:List (List PV)):kV (.fr e rows)=bq rows:=nr rfl
@[simp] theorem MJ:mJ []=True:=nr rfl
@[simp] theorem JU (c:AV) (cs:List AV):mJ (c::cs)=(kV c∧mJ cs):=nr rfl
@[simp] theorem ML (cs:List AV):jl (.agg cs)=mJ cs:=nr rfl
@[simp] theorem Rq (p:PV):jl (.pv p)=(gF p=true):=nr rfl
@[simp] theorem OA (e:TypeId) (rows:List (List PV)):jl (.fr e rows)=bq rows:=nr rfl
@[simp] theorem M7:oc []=True:=nr rfl
@[simp] theorem IC (c:AV) (cs:List AV):oc (c::cs)=(jl c∧oc cs):=nr rfl
@[simp] theorem Oy (vs:List AV):flat (.aK vs)=oc vs:=nr rfl
@[simp] theorem flat_agg (cs:List AV):flat (.agg cs)=mJ cs:=nr rfl
@[simp] theorem TX (p:PV):flat (.pv p)=(gF p=true):=nr rfl
@[simp] theorem Vu (e:TypeId) (rows:List (List PV)):flat (.fr e rows)=bq rows:=nr rfl
end
@[simp] theorem Uh (un:List Nat) (aa:Nat→Option AO) (f:FuncId) (cs:List AV):oi un aa (.bB f cs)=jo un aa cs:=nr rfl
@[simp] theorem Wv (un:List Nat) (aa:Nat→Option AO) (p:PV):oi un aa (.pv p)=True:=nr rfl
@[simp] theorem Xl (un:List Nat) (aa:Nat→Option AO) (cs:List PV):oi un aa (.rp cs)=True:=nr rfl
@[simp] theorem QD (un:List Nat) (aa:Nat→Option AO):oi un aa .aq=True:=nr rfl
@[simp] theorem Vj (un:List Nat) (aa:Nat→Option AO) (cs:List AV):oi un aa (.aK cs)=True:=nr rfl
@[simp] theorem Vz (un:List Nat) (aa:Nat→Option AO) (cs:List AV):oi un aa (.agg cs)=fJ un cs:=nr rfl
@[simp] theorem TU (un:List Nat) (aa:Nat→Option AO) (t:Nat):oi un aa (.own t)=iF un t:=nr rfl
@[simp] theorem R8 (un:List Nat) (aa:Nat→Option AO) (t:Nat) (e:TypeId) (i:Int) (o:Nat):oi un aa (.aO t e i o)=iF un t:=nr rfl
@[simp] theorem zB (un:List Nat) (aa:Nat→Option AO) (t:Nat) (e:TypeId) (i o:Nat):oi un aa (.sub t e i o)=iF un t:=nr rfl
@[simp] theorem Up (un:List Nat) (aa:Nat→Option AO) (t o:Nat):oi un aa (.ptr t o)=(iF un t∧fJ un ((dX (aa t)).getD [])):=nr rfl
@[simp] theorem Wa (un:List Nat) (aa:Nat→Option AO) (cs:List PV):lG un aa (.rp cs)=True:=nr rfl
@[simp] theorem qk (un:List Nat) (aa:Nat→Option AO) (t:Nat) (e:TypeId) (i o:Nat):lG un aa (.sub t e i o)=iF un t:=nr rfl
@[simp] theorem Tj (un:List Nat) (aa:Nat→Option AO) (t o:Nat):lG un aa (.ptr t o)=(iF un t∧fJ un ((dX (aa t)).getD [])):=nr rfl
@[simp] theorem M1 (un:List Nat) (aa:Nat→Option AO):jo un aa []=True:=nr rfl
@[simp] theorem Ix (un:List Nat) (aa:Nat→Option AO) (c:AV) (cs:List AV):jo un aa (c::cs)=(lG un aa c∧jo un aa cs):=nr rfl
@[simp] theorem SR (un:List Nat) (aa:Nat→Option AO):iM un aa []=True:=nr rfl
@[simp] theorem Le (un:List Nat) (aa:Nat→Option AO) (c:AV) (cs:List AV):iM un aa (c::cs)=(oi un aa c∧iM un aa cs):=nr rfl
attribute[simp] lay bR iF rT fJ
end Go.Proofs.YtlmkcmfmfahcfaaGreat.Ab.R
namespace Go.Proofs.YtlmkcmfmfahcfaaGreat.Ab
open Go Go.RowKit
theorem dk (a:Addr) (n:Nat):(a.add n).block=a.block:=by unfold Addr.add;split<;>rfl
theorem eF (a:Addr) (i j:Nat):(a.add i).add j=a.add (i+j):=by unfold Addr.add;by_cases hi:i=0<;>by_cases hj:j=0<;>simp[hi,hj,Nat.add_assoc]
section
variable{P:Program}{S S':Nat→Prop}{w w':World}{β β':Nat→Value}{D D':Nat→Prop}
theorem sI {ad:Addr} (h:w'.heap[ad.block]?=w.heap[ad.block]?) (n:Nat):w'.cell? (ad.add n)=w.cell? (ad.add n):=World.cell?_of_block (by rw[dk];exact h)
def px (w w':World) (b:Nat):Prop:=(∀ad:Addr,ad.block=b→w'.cell? ad=w.cell? ad)∧∀(us:Array MapEntry) (c:Nat),w.heap[b]?=some (.map us c)→w'.heap[b]?=some (.map us c)
theorem px.of {b:Nat} (h:w'.heap[b]?=w.heap[b]?):px w w' b:=⟨fun ad e=>World.cell?_of_block (by rw[e];exact h),fun us c hm=>h.trans hm⟩
theorem cT.fp {v:Value}{p:PV} (h:cT S w v p) (hS:∀b,S b→S' b∧px w w' b):cT S' w' v p:=by induction h with|int k n=>exact .int k n|bool b=>exact .bool b|str l=>exact .str l|nil=>exact .nil|val v h=>exact .val v h|mp b us c ks h1 h2 h3 h4=>exact .mp b us c ks (hS _ h1).1 ((hS _ h1).2.2 _ _ h2) h3 h4|mv b us c es h1 h2 h3 h4 h5 h6 ih=>exact .mv b us c es (hS _ h1).1 ((hS _ h1).2.2 _ _ h2) h3 h4 h5 ih|pt ad cs us h1 h2 h3 h4 ih=>exact .pt ad cs us (hS _ h1).1 (fun j hj=>((hS _ h1).2.1 _ (dk _ _)).trans (h2 j hj)) h3 ih|uC A c=>exact .uC A c|ro ad c rows sz us h1 h2 h3 h4 h5 h6 ih=>exact .ro ad c rows sz us (hS _ h1).1 h2 h3 (fun i j hi hj=>((hS _ h1).2.1 _ (dk _ _)).trans (h4 i j hi hj)) h5 ih
theorem RV.fp {v:Value}{x:AV} (h:RV P S w β D v x) (hS:∀b,S b→S' b∧px w w' b) (hD:∀t,D t→D' t∧β' t=β t):RV P S' w' β' D' v x:=by induction h with|pv v p h=>exact .pv v p (h.fp hS)|own t h=>rw[←(hD t h).2];exact .own t (hD t h).1|ptr t o b h hb=>exact .ptr t o b (hD t h).1 ((hD t h).2.trans hb)|aO t e i o b n c inf h hi hb=>exact .aO t e i o b n c inf (hD t h).1 hi ((hD t h).2.trans hb)|sub v t e lo hi inf A A1 n c h hi' hb h1 h2 h3 h4 h5 hv=>exact .sub v t e lo hi inf A A1 n c (hD t h).1 hi' ((hD t h).2.trans hb) h1 h2 h3 h4 h5 hv|rp ad cs us h1 h2 h3 h4=>exact .rp ad cs us (hS _ h1).1 (fun j hj=>((hS _ h1).2.1 _ (dk _ _)).trans (h2 j hj)) h3 (fun j p hp=>(h4 j p hp).fp hS)|agg cs us hl h ih=>exact .agg cs us hl ih|aK cs us hl h ih=>exact .aK cs us hl ih|bB f cs us hl h ih=>exact .bB f cs us hl ih|bX g v av h hu ih=>exact .bX g v av ih hu|aq v=>exact .aq v
theorem cT.mono {v:Value}{p:PV} (h:cT S w v p) (hS:∀b,S b→S' b∧w'.heap[b]?=w.heap[b]?):cT S' w' v p:=h.fp fun b hb=>⟨(hS b hb).1,.of (hS b hb).2⟩
theorem RV.mono {v:Value}{x:AV} (h:RV P S w β D v x) (hS:∀b,S b→S' b∧w'.heap[b]?=w.heap[b]?) (hD:∀t,D t→D' t∧β' t=β t):RV P S' w' β' D' v x:=h.fp (fun b hb=>⟨(hS b hb).1,.of (hS b hb).2⟩) hD
theorem RV.strip {v:Value}{x:AV} (h:RV P S w β D v x) (ha:asks x):RV P S w β D v (strip x):=by induction h with|bX g v av h hu ih=>exact ih ha.1 ha.2|pv v p h=>exact .pv v p h|own t h=>exact .own t h|ptr t o b h hb=>exact .ptr t o b h hb|aO t e i o b n c inf h hi hb=>exact .aO t e i o b n c inf h hi hb|sub v t e lo hi inf A A1 n c h hi' hb h1 h2 h3 h4 h5 hv=>exact .sub v t e lo hi inf A A1 n c h hi' hb h1 h2 h3 h4 h5 hv|rp ad cs us h1 h2 h3 h4=>exact .rp ad cs us h1 h2 h3 h4|agg cs us hl h _=>exact .agg cs us hl h|aK cs us hl h _=>exact .aK cs us hl h|bB f cs us hl h _=>exact .bB f cs us hl h|aq v=>exact .aq v
theorem ba.fp {t:Nat}{o:AO} (h:ba P S w β D t o) (hS:∀b,S b→S' b∧px w w' b) (hD:∀t,D t→D' t∧β' t=β t) (ht:β' t=β t) (hb:∀b,bY (β t)=some b→w'.heap[b]?=w.heap[b]?):ba P S' w' β' D' t o:=by cases o with
 |box cs=>obtain⟨b,us,ty,hp,hh,hl,hc⟩:=h;exact⟨b,us,ty,ht.trans hp,(hb b (by rw[hp];rfl)).trans hh,hl,fun i c u h1 h2=>⟨(hc i c u h1 h2).1,(hc i c u h1 h2).2.fp hS hD⟩⟩|arr e rows=>
  obtain⟨inf,us,hi,hown,hr,hc⟩:=h;refine⟨inf,us,hi,?_,hr,fun i j r p h1 h2=>?_⟩
  ·rw[ht];refine⟨hown.1,?_⟩;rcases hown.2 with h0|⟨g,cap,cur,hv,h1,h2,h3,h4,h5,h6⟩;·exact .inl h0
   ·exact .inr ⟨g,cap,cur,hv,h1,(hb g (by rw[hv];rfl)).trans h2,h3,h4,h5,h6⟩
  ·obtain⟨u,h3,h4,h5⟩:=hc i j r p h1 h2;exact⟨u,h3,h4,h5.fp hS⟩|map es=>obtain⟨b,us,c,hp,hh,hl,hc⟩:=h;exact⟨b,us,c,ht.trans hp,(hb b (by rw[hp];rfl)).trans hh,hl,fun i e u h1 h2=>⟨(hc i e u h1 h2).1,(hc i e u h1 h2).2.fp hS fun _ hf=>hf.elim⟩⟩|rws e cs=>
  obtain⟨inf,us,hi,h1s,hown,hc⟩:=h;refine⟨inf,us,hi,h1s,?_,fun i c u h1 h2=>⟨(hc i c u h1 h2).1,(hc i c u h1 h2).2.fp hS hD⟩⟩;rw[ht];refine⟨hown.1,?_⟩;rcases hown.2 with h0|⟨g,cap,cur,hv,h1,h2,h3,h4,h5,h6⟩;·exact .inl h0
  ·exact .inr ⟨g,cap,cur,hv,h1,(hb g (by rw[hv];rfl)).trans h2,h3,h4,h5,h6⟩|fO es=>obtain⟨b,us,c,hp,hh,hst,hl,hc⟩:=h;exact⟨b,us,c,ht.trans hp,(hb b (by rw[hp];rfl)).trans hh,hst,hl,fun i e u h1 h2=>⟨(hc i e u h1 h2).1,(hc i e u h1 h2).2.1,(hc i e u h1 h2).2.2.1,(hc i e u h1 h2).2.2.2.fp hS⟩⟩|lV rem cur=>
  obtain⟨r,m,us,c,seen,hp,hh,hm,hmm,hst,hl,hc,hcur⟩:=h;refine⟨r,m,us,c,seen,ht.trans hp,(hb r (by rw[hp];rfl)).trans hh,(hS m hm).1,?_,hst,hl,fun i e u h1 h2=>⟨(hc i e u h1 h2).1,(hc i e u h1 h2).2.1,(hc i e u h1 h2).2.2.1,(hc i e u h1 h2).2.2.2.fp hS⟩,fun e he=>?_⟩;·have:=(hS m hm).2.2 us c hmm;first|exact this.trans hmm|exact this
  ·obtain⟨u,s',h1,h2,h3,h4,h5,h6⟩:=hcur e he;exact⟨u,s',h1,h2,h3,h4,h5,h6.fp hS⟩
theorem ba.mono {t:Nat}{o:AO} (h:ba P S w β D t o) (hS:∀b,S b→S' b∧w'.heap[b]?=w.heap[b]?) (hD:∀t,D t→D' t∧β' t=β t) (ht:β' t=β t) (hb:∀b,bY (β t)=some b→w'.heap[b]?=w.heap[b]?):ba P S' w' β' D' t o:=h.fp (fun b hb=>⟨(hS b hb).1,.of (hS b hb).2⟩) hD ht hb
end
section
variable{P:Program}{S0 L:Nat→Prop}{B0:Nat→Value}{w0 w w':World}{N:Nat}{st:St}{a:Act}{β:Nat→Value}
theorem vd (l:Array Value) (d s:Nat) (r:Value) (hd:d<l.size):(l.setIfInBounds d r).getD s undef=if s=d then r else l.getD s undef:=by
 by_cases h:s=d;·subst h;simp[Array.getD_eq_getD_getElem?,Array.getElem?_setIfInBounds_self_of_lt hd]
 ·simp[Array.getD_eq_getD_getElem?,Array.getElem?_setIfInBounds_ne (fun e=>h e.symm),h]
theorem Rel.put (h:Rel P S0 L B0 w0 N st a w β) {d:Option Nat}{r:Value}{v:AV} (hd:∀s,d=some s→s<N) (hr:RV P (aR S0 w0.heap.size β st.aa w) w β (aA st.aa) r v):Rel P S0 L B0 w0 N ⟨put d v st.vars,st.aa⟩ (a.put d r) w β:=by cases d with|none=>exact⟨h.size,h.defers,h.vars,h.heap,h.old,h.oT,h.rY,h.bT⟩|some d=>
 have hd':d<a.tmps.size:=by rw[h.size];exact hd d rfl
 refine⟨by simp[Act.put,h.size],h.defers,fun s=>?_,h.heap,h.old,h.oT,h.rY,h.bT⟩;simp only[Act.put,Ab.put];rw[vd _ _ _ _ hd'];split;·exact hr
 ·exact h.vars s
theorem Rel.bS (h:Rel P S0 L B0 w0 N st a w β) {vars:Nat→AV} (hv:∀s,vars s=st.vars s∨vars s=.aq):Rel P S0 L B0 w0 N ⟨vars,st.aa⟩ a w β:=⟨h.size,h.defers,fun s=>by
 rcases hv s with e|e;·rw[show(St.mk vars st.aa).vars s=vars s from rfl,e];exact h.vars s
 ·rw[show(St.mk vars st.aa).vars s=vars s from rfl,e];exact .aq _,h.heap,h.old,h.oT,h.rY,h.bT⟩
structure Wh (w w':World):Prop where
 heap:w'.heap=w.heap
 os:w'.os=w.os
 tape:w'.tape=w.tape
 output:w'.output=w.output
theorem BF {S0:Nat→Prop}{n0:Nat}{aa:Nat→Option AO} (hw:w'.heap=w.heap):aR S0 n0 β aa w'=aR S0 n0 β aa w:=by funext b;simp[aR,hw]
theorem Rel.same (h:Rel P S0 L B0 w0 N st a w β) (hw:Wh w w'):Rel P S0 L B0 w0 N st a w' β:=by have hm:∀b,aR S0 w0.heap.size β st.aa w b→aR S0 w0.heap.size β st.aa w' b∧w'.heap[b]?=w.heap[b]?:=fun b hb=>⟨by rw[BF hw.heap];exact hb,by rw[hw.heap]⟩;have hD:∀t,aA st.aa t→aA st.aa t∧β t=β t:=fun t ht=>⟨ht,rfl⟩;exact⟨h.size,h.defers,fun s=>(h.vars s).mono hm hD,⟨fun t o ho=>(h.heap.holds t o ho).mono hm hD rfl (fun b _=>by rw[hw.heap]),h.heap.inj⟩,h.old,h.oT,h.rY,⟨hw.os.trans h.bT.os,hw.tape.trans h.bT.tape,hw.output.trans h.bT.output,by rw[hw.heap];exact h.bT.size,fun b h1 h2=>by rw[hw.heap];exact h.bT.block b h1 h2⟩⟩
theorem Rel.drew (h:Rel P S0 L B0 w0 N st a w β):Rel P S0 L B0 w0 N st a w.drew β:=h.same ⟨rfl,rfl,rfl,rfl⟩
theorem ba.lt {S:Nat→Prop}{D:Nat→Prop}{t:Nat}{o:AO} (h:ba P S w β D t o):∀b,bY (β t)=some b→b<w.heap.size:=by intro b hb;cases o with
 |box cs=>obtain⟨b',us,ty,hp,hh,_⟩:=h;rw[hp]at hb;simp[bY]at hb;subst hb;exact(Array.getElem?_eq_some_iff.1 hh).1|arr e rows=>
  obtain⟨inf,us,hi,hown,_⟩:=h;rcases hown.2 with⟨h0,_⟩|⟨g,cap,cur,hv,h1,h2,_⟩;·rw[h0]at hb;simp[bY]at hb
  ·rw[hv]at hb;simp[bY]at hb;subst hb;exact(Array.getElem?_eq_some_iff.1 h2).1|map es=>obtain⟨b',us,c,hp,hh,_⟩:=h;rw[hp]at hb;simp[bY]at hb;subst hb;exact(Array.getElem?_eq_some_iff.1 hh).1|rws e cs=>
  obtain⟨inf,us,hi,_,hown,_⟩:=h;rcases hown.2 with⟨h0,_⟩|⟨g,cap,cur,hv,h1,h2,_⟩;·rw[h0]at hb;simp[bY]at hb
  ·rw[hv]at hb;simp[bY]at hb;subst hb;exact(Array.getElem?_eq_some_iff.1 h2).1|fO es=>obtain⟨b',us,c,hp,hh,_⟩:=h;rw[hp]at hb;simp[bY]at hb;subst hb;exact(Array.getElem?_eq_some_iff.1 hh).1|lV rem cur=>obtain⟨r,m,us,c,seen,hp,hh,_⟩:=h;rw[hp]at hb;simp[bY]at hb;subst hb;exact(Array.getElem?_eq_some_iff.1 hh).1
theorem Rel.lt (h:Rel P S0 L B0 w0 N st a w β) {t:Nat} (ht:aA st.aa t) {b:Nat} (hb:bY (β t)=some b):b<w.heap.size:=by obtain⟨o,ho⟩:=ht;exact(h.heap.holds t o ho).lt b hb
def dG (β:Nat→Value) (t:Nat) (v:Value):Nat→Value:=fun s=>if s=t then v else β s
theorem aN (β:Nat→Value) (t:Nat) (v:Value):dG β t v t=v:=by simp[dG]
theorem ch (β:Nat→Value) {t s:Nat} (v:Value) (h:s≠t):dG β t v s=β s:=by simp[dG,h]
theorem bF {t s:Nat}{o:AO}{aa:Nat→Option AO}:aA (aH t o aa) s↔s=t∨aA aa s:=by
 unfold aA aH;by_cases h:s=t;·simp[h]
 ·simp[h]
theorem Rel.fresh (h:Rel P S0 L B0 w0 N st a w β) {t:Nat} (htN:t<N) (ht:st.aa t=none) (hg:w.grownBy w' none) {v:Value} (hv:∀b,bY v=some b→w.heap.size≤b) {o:AO} (ho:ba P (aR S0 w0.heap.size (dG β t v) (aH t o st.aa) w') w' (dG β t v) (aA (aH t o st.aa)) t o):Rel P S0 L B0 w0 N ⟨st.vars,aH t o st.aa⟩ a w' (dG β t v):=by
 have hne:∀s,aA st.aa s→s≠t:=fun s ⟨o',ho'⟩ e=>by subst e;rw[ht]at ho';cases ho'
 have hsame:∀b,b<w.heap.size→w'.heap[b]?=w.heap[b]?:=fun b hb=>hg.block b hb (by simp);have hm:∀b,aR S0 w0.heap.size β st.aa w b→aR S0 w0.heap.size (dG β t v) (aH t o st.aa) w' b∧w'.heap[b]?=w.heap[b]?:=by
  intro b hb;obtain⟨h1,h2,h3⟩:=hb;refine⟨⟨h1,Nat.lt_of_lt_of_le h2 hg.size,?_⟩,hsame b h2⟩;rintro⟨s,o',hs,hbs⟩;by_cases e:s=t;·subst e;rw[aN]at hbs;have:=hv b hbs;omega
  ·rw[ch _ _ e]at hbs;exact h3 ⟨s,o',by simpa[aH,e]using hs,hbs⟩
 have hD:∀s,aA st.aa s→aA (aH t o st.aa) s∧dG β t v s=β s:=fun s hs=>⟨bF.2 (.inr hs),ch _ _ (hne s hs)⟩;refine⟨h.size,h.defers,fun s=>(h.vars s).mono hm hD,⟨fun s o' hs=>?_,?_⟩,?_,h.oT,fun s h9 hs=>?_,?_⟩
 ·by_cases e:s=t
  ·subst e;have:o'=o:=by simpa[aH]using hs.symm
   subst this;exact ho
  ·have hs':st.aa s=some o':=by simpa[aH,e]using hs
   exact(h.heap.holds s o' hs').mono hm hD (ch _ _ e) (fun b hb=>hsame b (h.lt ⟨o',hs'⟩ hb))
 ·intro s s' b hs hs' hb hb';by_cases e:s=t<;>by_cases e':s'=t;·rw[e,e']
  ·subst e;rw[aN]at hb;rw[ch _ _ e']at hb';have:=h.lt ((bF.1 hs').resolve_left e') hb';have:=hv b hb;omega
  ·subst e';rw[aN]at hb';rw[ch _ _ e]at hb;have:=h.lt ((bF.1 hs).resolve_left e) hb;have:=hv b hb';omega
  ·rw[ch _ _ e]at hb;rw[ch _ _ e']at hb';exact h.heap.inj s s' b ((bF.1 hs).resolve_left e) ((bF.1 hs').resolve_left e') hb hb'
 ·intro s b hs hb;by_cases e:s=t;·subst e;rw[aN]at hb;have:=hv b hb;have:=h.bT.size;exact .inl (by omega)
  ·rw[ch _ _ e]at hb;exact h.old s b ((bF.1 hs).resolve_left e) hb
 ·have hst:s≠t:=fun e=>by have:=h.oT;subst e;omega
  rw[ch _ _ hst];exact h.rY s h9 ((bF.1 hs).resolve_left hst)
 ·exact⟨hg.os.trans h.bT.os,hg.tape.trans h.bT.tape,hg.output.trans h.bT.output,Nat.le_trans h.bT.size hg.size,fun b h1 h2=>(hsame b (by have:=h.bT.size;omega)).trans (h.bT.block b h1 h2)⟩
theorem Rel.iQ (h:Rel P S0 L B0 w0 N st a w β) {t:Nat} (ht:st.aa t=none) (hg:w.grownBy w' none) {v:Value} (hv:∀b,bY v=some b→w.heap.size≤b) {o:AO}:(∀b,aR S0 w0.heap.size β st.aa w b→aR S0 w0.heap.size (dG β t v) (aH t o st.aa) w' b∧w'.heap[b]?=w.heap[b]?)∧(∀s,aA st.aa s→aA (aH t o st.aa) s∧dG β t v s=β s):=by
 have hne:∀s,aA st.aa s→s≠t:=fun s ⟨o',ho'⟩ e=>by subst e;rw[ht]at ho';cases ho'
 refine⟨fun b hb=>?_,fun s hs=>⟨bF.2 (.inr hs),ch _ _ (hne s hs)⟩⟩;obtain⟨h1,h2,h3⟩:=hb;refine⟨⟨h1,Nat.lt_of_lt_of_le h2 hg.size,?_⟩,hg.block b h2 (by simp)⟩;rintro⟨s,o',hs,hbs⟩;by_cases e:s=t;·subst e;rw[aN]at hbs;have:=hv b hbs;omega
 ·rw[ch _ _ e]at hbs;exact h3 ⟨s,o',by simpa[aH,e]using hs,hbs⟩
theorem Rel.sj (h:Rel P S0 L B0 w0 N st a w β) {t:Nat}{o o':AO} (ht:st.aa t=some o) {b:Nat} (hb:bY (β t)=some b) (hos:w'.os=w.os) (htape:w'.tape=w.tape) (hout:w'.output=w.output) (hsz:w'.heap.size=w.heap.size) (hother:∀k,k≠b→w'.heap[k]?=w.heap[k]?) (ho:ba P (aR S0 w0.heap.size β (aH t o' st.aa) w') w' β (aA (aH t o' st.aa)) t o'):Rel P S0 L B0 w0 N ⟨st.vars,aH t o' st.aa⟩ a w' β∧(∀u x,RV P (aR S0 w0.heap.size β st.aa w) w β (aA st.aa) u x→RV P (aR S0 w0.heap.size β (aH t o' st.aa) w') w' β (aA (aH t o' st.aa)) u x):=by
 have hlive:∀k,live β (aH t o' st.aa) k↔live β st.aa k:=by
  intro k;constructor
  ·rintro⟨s,x,hs,hk⟩;by_cases e:s=t;·subst e;exact⟨s,o,ht,hk⟩
   ·exact⟨s,x,by simpa[aH,e]using hs,hk⟩
  ·rintro⟨s,x,hs,hk⟩;by_cases e:s=t;·subst e;exact⟨s,o',by simp[aH],hk⟩
   ·exact⟨s,x,by simpa[aH,e]using hs,hk⟩
 have hm:∀k,aR S0 w0.heap.size β st.aa w k→aR S0 w0.heap.size β (aH t o' st.aa) w' k∧w'.heap[k]?=w.heap[k]?:=by intro k hk;obtain⟨h1,h2,h3⟩:=hk;have hkb:k≠b:=fun e=>h3 ⟨t,o,ht,by rw[e];exact hb⟩;exact⟨⟨h1,by omega,fun hl=>h3 ((hlive k).1 hl)⟩,hother k hkb⟩
 have hdt:aA st.aa t:=⟨o,ht⟩;have hD:∀s,aA st.aa s→aA (aH t o' st.aa) s∧β s=β s:=fun s hs=>⟨bF.2 (.inr hs),rfl⟩;have hdom:∀s,aA (aH t o' st.aa) s→aA st.aa s:=fun s hs=>by
  rcases bF.1 hs with e|e;·rw[e];exact hdt
  ·exact e
 refine⟨⟨h.size,h.defers,fun s=>(h.vars s).mono hm hD,⟨fun s x hs=>?_,fun s s' k hs hs'=>h.heap.inj s s' k (hdom s hs) (hdom s' hs')⟩,fun s k hs=>h.old s k (hdom s hs),h.oT,fun s h9 hs=>h.rY s h9 (hdom s hs),?_⟩,fun u x hx=>hx.mono hm hD⟩
 ·by_cases e:s=t
  ·subst e;have:x=o':=by simpa[aH]using hs.symm
   subst this;exact ho
  ·have hs':st.aa s=some x:=by simpa[aH,e]using hs
   exact(h.heap.holds s x hs').mono hm hD rfl (fun k hk=>hother k fun ek=>e (h.heap.inj s t b ⟨x,hs'⟩ hdt (by rw[←ek];exact hk) hb))
 ·exact⟨hos.trans h.bT.os,htape.trans h.bT.tape,hout.trans h.bT.output,by rw[hsz];exact h.bT.size,fun k h1 h2=>by
   have hkb:k≠b:=by
    rintro rfl;rcases h.old t k hdt hb with hx|hx;·omega
    ·exact h2 hx
   exact(hother k hkb).trans (h.bT.block k h1 h2)⟩
end
section
variable{P:Program} (w:World)
theorem um (t tx ty e:TypeId) (i:TypeInfo) (z:Value) (ht:P.underlying t=some (.slice e)) (hi:P.info? e=some i) (hz:i.zero=some z) (hzs:z.cells.size=i.size) (hsz:0<i.size) (v:Value) (n:Nat) (xs:List Value) (hown:w.ownsRow 0 e i.size v n xs) (x:Value) (m:Nat) (news:List Value) (hs:Src P i.size tx x m news w) (h63:n+m≤maxLen) (hbytes:(n+m)*i.bytes≤140737488355328):∃v' w',(Builtin.append_ #[t,tx] ty #[v,x]).run P w=.ok v' w'∧w'.ownsRow 0 e i.size v' (n+m) (xs++news)∧w.grownBy w' v.ownBlock∧(v'.ownBlock=v.ownBlock∨v'.ownBlock=some w.heap.size)∧w'.ownsRow 0 e i.size v n xs:=by
 have hl:=hs.newsLen;have hlen:(xs++news).length=(n+m)*i.size:=by rw[List.length_append,hown.1,hl,Nat.add_mul]
 have grown:∀(old:Nat),old<n+m→∀(row:Option Nat),(w.drew.alloc (.cells ((xs++news).toArray++Builtin.zeroCells z.cells (grownCap w (n+m) old e-(n+m))) e)).ownsRow 0 e i.size (.slice (some ⟨w.heap.size,0,none⟩) (n+m) (grownCap w (n+m) old e)) (n+m) (xs++news)∧w.grownBy (w.drew.alloc (.cells ((xs++news).toArray++Builtin.zeroCells z.cells (grownCap w (n+m) old e-(n+m))) e)) row:=by
  intro old ho row;have hge:=grownCap_ge w (n+m) old e;have hcm:grownCap w (n+m) old e≤maxLen:=grownCap_le_maxLen w (n+m) old e h63;refine⟨⟨hlen,.inr ⟨w.heap.size,_,_,rfl,Nat.zero_le _,heap_alloc_new w.drew _,hge,hcm,?_,?_⟩⟩,⟨rfl,rfl,rfl,by simp,fun k hk _=>Below.heap_alloc w.drew _ k hk⟩⟩;·simp only[Array.size_append,List.size_toArray,size_zeroCells,hzs,hlen,←Nat.add_mul];congr 1;omega
  ·simp only[Array.toList_append];rw[←hlen];exact List.take_left
 have hsmall:((n+m:Nat):Int)≤9223372036854775807:=by simp only[maxLen]at h63;omega
 rcases hown.2 with⟨rfl,rfl⟩|⟨g,cap,cur,rfl,hbg,hg,hnc,hcm,hcs,htake⟩
 ·have hx:xs=[]:=List.eq_nil_of_length_eq_zero (by simpa using hown.1);subst hx;by_cases hm:m=0;·subst hm;have hn:news=[]:=List.eq_nil_of_length_eq_zero (by simpa using hl);subst hn;exact⟨.slice none 0 0,w,run_append_nothing w t tx ty e i ht hi none 0 0 (Nat.le_refl _) x hs,World.ownsRow_nil w 0 e i.size,⟨rfl,rfl,rfl,Nat.le_refl _,fun _ _ _=>rfl⟩,Or.inl rfl,hown⟩
  ·have hr:=run_append_grow_src (P:=P) w t tx ty e i z ht hi hz none 0 0 [] (by simp[Builtin.firstCells]) x m news hs (by omega) hsmall (growslice_fits (by omega) hbytes);have hgr:=grown 0 (by omega) (Value.ownBlock (.slice none 0 0));exact⟨_,_,hr,hgr.1,hgr.2,Or.inr rfl,by simp,.inl ⟨rfl,rfl⟩⟩
 ·by_cases hroom:n+m≤cap
  ·have hfit:n*i.size+news.length≤cur.size:=by rw[hl,hcs,←Nat.add_mul];exact Nat.mul_le_mul_right _ hroom
   have hst:=run_storeCells_at P g (n*i.size) e news 0 cur w hg (by simpa using hfit) hs.one;simp only[Nat.add_zero]at hst;have hr:(Builtin.append_ #[t,tx] ty #[.slice (some ⟨g,0,none⟩) n cap,x]).run P w=.ok (.slice (some ⟨g,0,none⟩) (n+m) cap) (w.setRow g (cur.toList.take (n*i.size)++news++cur.toList.drop (n*i.size+news.length)).toArray):=by rcases hs.kind with⟨e',hk⟩|hk<;>simp[Builtin.append_,run_underlying ht,run_underlying hk,sizeOf,typeInfo,hi,hs.len,hroom,hs.cells,Addr.add_lit,hst]
   refine⟨_,_,hr,⟨hlen,.inr ⟨g,cap,_,rfl,Nat.zero_le _,setRow_heap w g cur _ e _ hg,hroom,hcm,?_,?_⟩⟩,⟨rfl,rfl,rfl,by simp,fun k _ hk=>setRow_other w g k _ (fun e=>hk (by simp[Value.ownBlock,e]))⟩,Or.inl rfl,?_⟩;·simp only[List.size_toArray,List.length_append,List.length_take,List.length_drop,Array.length_toList];omega
   ·rw[htake,←hlen];exact List.take_left
   ·refine⟨hown.1,.inr ⟨g,cap,_,rfl,Nat.zero_le _,setRow_heap w g cur _ e _ hg,hnc,hcm,?_,?_⟩⟩;·simp only[List.size_toArray,List.length_append,List.length_take,List.length_drop,Array.length_toList];omega
    ·rw[htake,←hown.1];simp only[List.append_assoc];exact List.take_left
  ·have holds:∀j u,xs[j]?=some u→w.cell? ((⟨g,0,none⟩:Addr).add j)=some u:=hown.cells (g:=g) rfl;have hold:(Builtin.firstCells i.size n (.slice (some ⟨g,0,none⟩) n cap)).run P w.drew=.ok xs.toArray w.drew:=run_firstCells_some w.drew i.size n ⟨g,0,none⟩ n cap xs hown.1 (by simpa using holds);have hr:=run_append_grow_src (P:=P) w t tx ty e i z ht hi hz (some ⟨g,0,none⟩) n cap xs hold x m news hs (by omega) hsmall (growslice_fits (by omega) hbytes);have hgr:=grown cap (by omega) (Value.ownBlock (.slice (some ⟨g,0,none⟩) n cap));have hgn:=(grown cap (by omega) none).2;exact⟨_,_,hr,hgr.1,hgr.2,Or.inr rfl,hown.1,.inr ⟨g,cap,cur,rfl,hbg,(hgn.block g (Array.getElem?_eq_some_iff.1 hg).1 (by simp)).trans hg,hnc,hcm,hcs,htake⟩⟩
end
theorem eh (t:Nat):∀(cs:List AV) (i:Nat),(bJ t cs)[i]?=(cs[i]?).map (bO t)|[],i=>by simp[bJ]|c::cs,0=>by simp[bJ]|c::cs,i+1=>by simp[bJ,eh t cs i]
theorem dg (t:Nat):∀cs:List AV,(bJ t cs).length=cs.length|[]=>rfl|c::cs=>by simp[bJ,dg t cs]
section
variable{P:Program}{S S':Nat→Prop}{w w':World}{β β':Nat→Value}{D D':Nat→Prop}{t:Nat}
theorem RV.bO {v:Value}{x:AV} (h:RV P S w β D v x) (hp:∀b,β t≠.pointer (some ⟨b,0,none⟩)) (hS:∀b,S b→S' b∧w'.heap[b]?=w.heap[b]?) (hD:∀s,D s→s≠t→D' s∧β' s=β s):RV P S' w' β' D' v (bO t x):=by cases h with
 |pv v p h=>exact .pv _ _ (h.mono hS)|own s h=>
  simp only[Ab.bO];split;·exact .aq _
  ·rename_i hne;rw[←(hD s h hne).2];exact .own s (hD s h hne).1|ptr s o b h hb=>have hne:s≠t:=fun e=>hp b (by rw[←e];exact hb);exact .ptr s o b (hD s h hne).1 ((hD s h hne).2.trans hb)|aO s e i o b n c inf h hi hb=>
  simp only[Ab.bO];split;·exact .aq _
  ·rename_i hne;exact .aO s e i o b n c inf (hD s h hne).1 hi ((hD s h hne).2.trans hb)|sub v s e lo hi inf A A1 n c h hi' hb h1 h2 h3 h4 h5 hv=>
  simp only[Ab.bO];split;·exact .aq _
  ·rename_i hne;exact .sub v s e lo hi inf A A1 n c (hD s h hne).1 hi' ((hD s h hne).2.trans hb) h1 h2 h3 h4 h5 hv|rp ad cs us h1 h2 h3 h4=>exact .rp ad cs us (hS _ h1).1 (fun j hj=>(sI (hS _ h1).2 _).trans (h2 j hj)) h3 (fun j p hp=>(h4 j p hp).mono hS)|agg cs us hl h=>exact .aq _|aK cs us hl h=>exact .aq _|bB f cs us hl h=>cases cs with|nil=>refine .bB f [] us hl ?_;intro i c u hc;simp at hc|cons c cs=>exact .aq _
 |bX g v av h=>exact .aq _|aq v=>exact .aq _
theorem RV.kill {v:Value}{x:AV} (h:RV P S w β D v x) (hp:∀b,β t≠.pointer (some ⟨b,0,none⟩)) (hS:∀b,S b→S' b∧w'.heap[b]?=w.heap[b]?) (hD:∀s,D s→s≠t→D' s∧β' s=β s):RV P S' w' β' D' v (kill t x):=by induction h with|agg cs us hl h _=>refine .agg _ us (by rw[dg];exact hl) fun i c u hc hu=>?_;rw[eh]at hc;obtain⟨c',hc',rfl⟩:=Option.map_eq_some_iff.1 hc;exact(h i c' u hc' hu).bO hp hS hD|aK cs us hl h _=>refine .aK _ us (by rw[dg];exact hl) fun i c u hc hu=>?_;rw[eh]at hc;obtain⟨c',hc',rfl⟩:=Option.map_eq_some_iff.1 hc;exact(h i c' u hc' hu).bO hp hS hD|pv v p h=>exact RV.bO (x:=.pv p) (.pv v p h) hp hS hD|own s h=>exact RV.bO (x:=.own s) (.own s h) hp hS hD|ptr s o b h hb=>exact RV.bO (x:=.ptr s o) (.ptr s o b h hb) hp hS hD|aO s e i o b n c inf h hi hb=>exact RV.bO (x:=.aO s e i o) (.aO s e i o b n c inf h hi hb) hp hS hD|sub v s e lo hi inf A A1 n c h hi' hb h1 h2 h3 h4 h5 hv=>exact RV.bO (x:=.sub s e lo hi) (.sub v s e lo hi inf A A1 n c h hi' hb h1 h2 h3 h4 h5 hv) hp hS hD|rp ad cs us h1 h2 h3 h4=>exact RV.bO (x:=.rp cs) (.rp ad cs us h1 h2 h3 h4) hp hS hD|bB f cs us hl h _=>exact RV.bO (x:=.bB f cs) (.bB f cs us hl h) hp hS hD|bX g v av h hu ih=>exact .bX g v _ (fun hg=>ih hg) hu|aq v=>exact .aq _
theorem ba.kill {s:Nat}{o:AO} (h:ba P S w β D s o) (hp:∀b,β t≠.pointer (some ⟨b,0,none⟩)) (hS:∀b,S b→S' b∧w'.heap[b]?=w.heap[b]?) (hD:∀s,D s→s≠t→D' s∧β' s=β s) (ht:β' s=β s) (hb:∀b,bY (β s)=some b→w'.heap[b]?=w.heap[b]?):ba P S' w' β' D' s (cZ t o):=by cases o with
 |box cs=>obtain⟨b,us,ty,hpt,hh,hl,hc⟩:=h;refine⟨b,us,ty,ht.trans hpt,(hb b (by rw[hpt];rfl)).trans hh,by rw[dg];exact hl,fun i c u h1 h2=>?_⟩;rw[eh]at h1;obtain⟨c',hc',rfl⟩:=Option.map_eq_some_iff.1 h1;exact⟨(hc i c' u hc' h2).1,(hc i c' u hc' h2).2.bO hp hS hD⟩|arr e rows=>
  obtain⟨inf,us,hi,hown,hr,hc⟩:=h;refine⟨inf,us,hi,?_,hr,fun i j r p h1 h2=>?_⟩
  ·rw[ht];refine⟨hown.1,?_⟩;rcases hown.2 with h0|⟨g,cap,cur,hv,h1,h2,h3,h4,h5,h6⟩;·exact .inl h0
   ·exact .inr ⟨g,cap,cur,hv,h1,(hb g (by rw[hv];rfl)).trans h2,h3,h4,h5,h6⟩
  ·obtain⟨u,h3,h4,h5⟩:=hc i j r p h1 h2;exact⟨u,h3,h4,h5.mono hS⟩|map es=>obtain⟨b,us,c,hp',hh,hl,hc⟩:=h;exact⟨b,us,c,ht.trans hp',(hb b (by rw[hp'];rfl)).trans hh,hl,fun i e u h1 h2=>⟨(hc i e u h1 h2).1,(hc i e u h1 h2).2.mono hS fun _ hf=>hf.elim⟩⟩|fO es=>exact ba.mono (D:=fun _=>False) (show ba P S w β (fun _=>False) s (.fO es) from h) hS (fun _ hf=>hf.elim) ht hb|lV rem cur=>exact ba.mono (D:=fun _=>False) (show ba P S w β (fun _=>False) s (.lV rem cur) from h) hS (fun _ hf=>hf.elim) ht hb|rws e cs=>
  obtain⟨inf,us,hi,h1s,hown,hc⟩:=h;refine⟨inf,us,hi,h1s,?_,fun i c u h1 h2=>?_⟩
  ·rw[ht,dg];refine⟨hown.1,?_⟩;rcases hown.2 with h0|⟨g,cap,cur,hv,h1,h2,h3,h4,h5,h6⟩;·exact .inl h0
   ·exact .inr ⟨g,cap,cur,hv,h1,(hb g (by rw[hv];rfl)).trans h2,h3,h4,h5,h6⟩
  ·rw[eh]at h1;obtain⟨c',hc',rfl⟩:=Option.map_eq_some_iff.1 h1;exact⟨(hc i c' u hc' h2).1,(hc i c' u hc' h2).2.bO hp hS hD⟩
end
theorem gR {w:World}{b:Nat}{e:TypeId}{sz n:Nat}{v:Value}{us:List Value} (h:w.ownsRow b e sz v n us):bY v=v.ownBlock∧∀b',v≠.pointer (some ⟨b',0,none⟩):=by
 rcases h.2 with⟨rfl,_⟩|⟨g,cap,cur,rfl,_⟩;·exact⟨rfl,fun _ e=>by cases e⟩
 ·exact⟨rfl,fun _ e=>by cases e⟩
theorem nw {t s:Nat}{aa:Nat→Option AO}:aA (cQ t aa) s↔aA aa s:=by
 unfold aA cQ;constructor;·rintro⟨o,ho⟩;obtain⟨o',h,_⟩:=Option.map_eq_some_iff.1 ho;exact⟨o',h⟩
 ·rintro⟨o,ho⟩;exact⟨cZ t o,by rw[ho];rfl⟩
section
variable{P:Program}{S0 L:Nat→Prop}{B0:Nat→Value}{w0 w w':World}{N:Nat}{st:St}{a:Act}{β:Nat→Value}
theorem Rel.app (h:Rel P S0 L B0 w0 N st a w β) {t:Nat}{e:TypeId}{rows more:List (List PV)} (ht9:t%1000≠999) (ht:st.aa t=some (.arr e rows)) {inf:TypeInfo}{us news:List Value} (hi:P.info? e=some inf) (hown:w.ownsRow 0 e inf.size (β t) rows.length us) (hrows:∀r,r∈rows→r.length=inf.size) (hcs:∀(i j:Nat) (r:List PV) (p:PV),rows[i]?=some r→r[j]?=some p→∃u,us[i*inf.size+j]?=some u∧u.oneCell'=true∧cT (aR S0 w0.heap.size β st.aa w) w u p) (hmore:∀r,r∈more→r.length=inf.size) (hms:∀(i j:Nat) (r:List PV) (p:PV),more[i]?=some r→r[j]?=some p→∃u,news[i*inf.size+j]?=some u∧u.oneCell'=true∧cT (aR S0 w0.heap.size β st.aa w) w u p) {v':Value} (hown':w'.ownsRow 0 e inf.size v' (rows.length+more.length) (us++news)) (hg:w.grownBy w' (β t).ownBlock) (hb:v'.ownBlock=(β t).ownBlock∨v'.ownBlock=some w.heap.size):Rel P S0 L B0 w0 N ⟨cb t st.vars,aH t (.arr e (rows++more)) (cQ t st.aa)⟩ a w' (dG β t v'):=by
 have hdt:aA st.aa t:=⟨_,ht⟩;have hbt:=(gR hown).1;have hbt':=(gR hown').1;have hp:=(gR hown).2;have hdom:∀s,aA (aH t (.arr e (rows++more)) (cQ t st.aa)) s→aA st.aa s:=fun s hs=>by
  rcases bF.1 hs with e|e;·rw[e];exact hdt
  ·exact nw.1 e
 have hv'lt:∀b,bY v'=some b→b<w'.heap.size:=fun b hb'=>(hown'.lt b (by rw[←hbt'];exact hb')).2;have hm:∀b,aR S0 w0.heap.size β st.aa w b→aR S0 w0.heap.size (dG β t v') (aH t (.arr e (rows++more)) (cQ t st.aa)) w' b∧w'.heap[b]?=w.heap[b]?:=by
  intro b ⟨h1,h2,h3⟩;have hbne:some b≠(β t).ownBlock:=fun e'=>h3 ⟨t,_,ht,by rw[hbt,←e']⟩;refine⟨⟨h1,Nat.lt_of_lt_of_le h2 hg.size,?_⟩,hg.block b h2 hbne⟩;rintro⟨s,o,hs,hbs⟩;by_cases e':s=t
  ·subst e';rw[aN,hbt']at hbs;rcases hb with hb|hb;·exact hbne (by rw[←hb,hbs])
   ·rw[hb]at hbs;injection hbs with hbs;omega
  ·rw[ch _ _ e']at hbs;have hs':cQ t st.aa s=some o:=by simpa[aH,e']using hs
   obtain⟨o',ho'⟩:=nw.1 ⟨o,hs'⟩;exact h3 ⟨s,_,ho',hbs⟩
 have hD:∀s,aA st.aa s→s≠t→aA (aH t (.arr e (rows++more)) (cQ t st.aa)) s∧dG β t v' s=β s:=fun s hs hne=>⟨bF.2 (.inr (nw.2 hs)),ch _ _ hne⟩;have hblkne:∀s,aA st.aa s→s≠t→∀b,bY (β s)=some b→w'.heap[b]?=w.heap[b]?:=fun s hs hne b hbs=>hg.block b (h.lt hs hbs) fun e'=>hne (h.heap.inj s t b hs hdt hbs (by rw[hbt,←e']));refine⟨h.size,h.defers,fun s=>(h.vars s).kill hp hm hD,⟨fun s o hs=>?_,fun s s' b hs hs' hbs hbs'=>?_⟩,fun s b hs hbs=>?_,h.oT,fun s h9 hs=>?_,?_⟩
 ·by_cases e':s=t
  ·subst e';have:o=.arr e (rows++more):=by simpa[aH]using hs.symm
   subst this;refine⟨inf,us++news,hi,?_,fun r hr=>?_,fun i j r p h1 h2=>?_⟩;·rw[aN,List.length_append];exact hown'
   ·rcases List.mem_append.1 hr with hr|hr;·exact hrows r hr
    ·exact hmore r hr
   ·by_cases hlt:i<rows.length;·rw[List.getElem?_append_left hlt]at h1;obtain⟨u,hu,h1',hr⟩:=hcs i j r p h1 h2;have hul:i*inf.size+j<us.length:=(List.getElem?_eq_some_iff.1 hu).1;exact⟨u,by rw[List.getElem?_append_left hul];exact hu,h1',hr.mono hm⟩
    ·rw[List.getElem?_append_right (by omega)]at h1;obtain⟨u,hu,h1',hr⟩:=hms (i-rows.length) j r p h1 h2;have he:i*inf.size+j-us.length=(i-rows.length)*inf.size+j:=by rw[hown.1,Nat.sub_mul];have:=Nat.mul_le_mul_right inf.size (show rows.length≤i by omega);omega
     have hle:us.length≤i*inf.size+j:=by rw[hown.1];have:=Nat.mul_le_mul_right inf.size (show rows.length≤i by omega);omega
     exact⟨u,by rw[List.getElem?_append_right hle,he];exact hu,h1',hr.mono hm⟩
  ·have hs':cQ t st.aa s=some o:=by simpa[aH,e']using hs
   obtain⟨o',ho',rfl⟩:=Option.map_eq_some_iff.1 hs';exact(h.heap.holds s o' ho').kill hp hm hD (ch _ _ e') (hblkne s ⟨_,ho'⟩ e')
 ·have hs1:=hdom s hs;have hs2:=hdom s' hs';by_cases e1:s=t<;>by_cases e2:s'=t;·rw[e1,e2]
  ·subst e1;rw[aN,hbt']at hbs;rw[ch _ _ e2]at hbs';rcases hb with hb|hb;·exact h.heap.inj s s' b hs1 hs2 (by rw[hbt,←hb,hbs]) hbs'
   ·have:=h.lt hs2 hbs';rw[hb]at hbs;injection hbs with hbs;omega
  ·subst e2;rw[aN,hbt']at hbs';rw[ch _ _ e1]at hbs;rcases hb with hb|hb;·exact h.heap.inj s s' b hs1 hs2 hbs (by rw[hbt,←hb,hbs'])
   ·have:=h.lt hs1 hbs;rw[hb]at hbs';injection hbs' with hbs';omega
  ·rw[ch _ _ e1]at hbs;rw[ch _ _ e2]at hbs';exact h.heap.inj s s' b hs1 hs2 hbs hbs'
 ·have hs1:=hdom s hs;by_cases e1:s=t
  ·subst e1;rw[aN,hbt']at hbs;rcases hb with hb|hb;·exact h.old s b hs1 (by rw[hbt,←hb,hbs])
   ·rw[hb]at hbs;injection hbs with hbs;have:=h.bT.size;exact .inl (by omega)
  ·rw[ch _ _ e1]at hbs;exact h.old s b hs1 hbs
 ·have hst:s≠t:=fun e=>by subst e;exact ht9 h9
  rw[ch _ _ hst];exact h.rY s h9 (hdom s hs)
 ·refine⟨hg.os.trans h.bT.os,hg.tape.trans h.bT.tape,hg.output.trans h.bT.output,Nat.le_trans h.bT.size hg.size,fun b h1 h2=>?_⟩;refine(hg.block b (by have:=h.bT.size;omega) fun e'=>?_).trans (h.bT.block b h1 h2);rcases h.old t b hdt (by rw[hbt,←e']) with hx|hx;·omega
  ·exact h2 hx
end
end Go.Proofs.YtlmkcmfmfahcfaaGreat.Ab
