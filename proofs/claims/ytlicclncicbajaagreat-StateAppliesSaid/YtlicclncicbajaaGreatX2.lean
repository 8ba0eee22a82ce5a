/- How the abstract machine reckons: rewrite rules. -/
import Derived.Test.YtlicclncicbajaaGreatX1
import Derived.Deep.AppendLies
import Derived.Deep.Draws
import Derived.Maps.AppendAt
import Derived.Laws.OwnMore
import Derived.Deep.AppendSrc
import Derived.Deep.Upon
set_option linter.unusedVariables false
set_option linter.unusedSimpArgs false
set_option linter.unnecessarySimpa false
set_option maxHeartbeats 40000000
set_option maxRecDepth 100000
set_option linter.defProp false
namespace Go.Proofs.YtlicclncicbajaaGreat.Ab
open Go Go.RowKit
def q65:=@List.getElem?_eq_some_iff
def q66:=@Array.getElem?_eq_some_iff
def q67:=@List.length_take
def q71:=@List.map_cons
def q72:=@List.eq_nil_of_length_eq_zero
def q74:=@List.length_append
def q80:=@List.mem_append
def q83:=@Array.length_toList
def q85:=@List.getElem?_append_left
def q86:=@Nat.mul_le_mul_right
def q93:=@Nat.le_refl
def q94:=@List.length_drop
def q95:=@Nat.lt_of_lt_of_le
def q96:=@List.append_assoc
def q97:=@List.getElem?_append_right
def q100:=@Addr.add_lit
def q105:=@List.size_toArray
def q126:=@Nat.zero_le
def q149:=@List.cons_append
def q150:=@Nat.add_mul
def q154:=@List.take_left
def q155:=@Nat.add_zero
def q188:=@World.ownsRow_nil
def q201:=@Below.heap_alloc
def q221:=@Nat.add_assoc
def q224:=@Array.toList_append
def q226:=@List.contains_cons
def q230:=@Array.size_append
end Go.Proofs.YtlicclncicbajaaGreat.Ab
namespace Go.Proofs.YtlicclncicbajaaGreat.Ab.R
open Go Go.RowKit
variable {α:Type}{f:FuncId}{ys xs xs' ys':List AV}{d:Option Nat}{C:bI→Prop}{i sz id:Nat}{A B:Prop}{is:List AI}{e:TypeId}{rows:List (List PV)}{v:AV}{us zs:List Value}{z:Value}{ps:List (Nat×Nat)}{T un ks:List Nat}{g:Option (Nat×Bool)}{ne ok:Bool}
theorem nr {α:Sort _}{a b:α} (h:a=b):a=b:=h
@[congr] theorem NY {o o':Option α}{K:α→Prop} (h:True→o=o'):ai o K=ai o' K:=by rw[h trivial]
@[congr] theorem JB {P:Program}{Γ:bX}{K:St→Prop}{st st':St} (h:True→st=st'):cn P Γ is K st=cn P Γ is K st':=by rw[h trivial]
@[congr] theorem Nq {P:Program}{Γ:bX}{K:St→Prop}{st st':St} (h:True→st=st'):steps P Γ is K st=steps P Γ is K st':=by rw[h trivial]
@[congr] theorem NJ {P:Program}{Γ:bX}{i:AI}{K:St→Prop}{st st':St} (h:True→st=st'):c9 P Γ i K st=c9 P Γ i K st':=by rw[h trivial]
@[congr] theorem Sg {P:Program}{Γ:bX}{k:AK}{aa:Nat→Option AO} (hx:True→xs=xs'):bf P Γ d k xs aa C=bf P Γ d k xs' aa C:=by rw[hx trivial]
@[congr] theorem Sj {P:Program}{Γ:bX}{c c':Bool}{k:AK}{aa:Nat→Option AO} (hc:True→c=c') (hx:True→xs=xs'):cu P Γ c d k xs aa C=cu P Γ c' d k xs' aa C:=by rw[hx trivial,hc trivial]
@[congr] theorem Vq {P:Program}{Γ:bX}{c:AC}{K:St→Prop}{J:Exit→St→Prop}{st st':St} (h:True→st=st'):iC P Γ c K J st=iC P Γ c K J st':=by rw[h trivial]
@[simp↓] theorem condT :((true=true→A)∧(true=false→B))=A:=by simp
@[simp↓] theorem condF :((false=true→A)∧(false=false→B))=B:=by simp
@[simp↓] theorem Rh (x:α) (K:α→Prop):ai (some x) K=K x:=rfl
@[simp↓] theorem O1 (K:α→Prop):ai (none:Option α) K=False:=rfl
section
variable{P:Program}{Γ:bX}{K:St→Prop}{J:Exit→St→Prop}{vs:List (Nat×AV)}{os:List (Nat×AO)}
@[simp↓] theorem ur:iC P Γ .skip K J ⟨look vs,ab os⟩=K ⟨look vs,ab os⟩:=rfl
@[simp↓] theorem vwp_reg {cw:List Nat}:iC P Γ (.I9 is true cw) K J ⟨look vs,ab os⟩=steps P Γ is (fun st'=>K ⟨jA cw st'.vars,st'.aa⟩) ⟨look vs,ab os⟩:=rfl
@[simp↓] theorem vwp_regX {cw:List Nat}:iC P Γ (.I9 is false cw) K J ⟨look vs,ab os⟩=cn P Γ is (fun st'=>K ⟨jA cw st'.vars,st'.aa⟩) ⟨look vs,ab os⟩:=rfl
@[simp↓] theorem R5:cn P Γ [] K ⟨look vs,ab os⟩=K ⟨look vs,ab os⟩:=rfl
@[simp↓] theorem NM {i:AI}:cn P Γ (i::is) K ⟨look vs,ab os⟩=cg P Γ i (fun st'=>cn P Γ is K st') ⟨look vs,ab os⟩:=rfl
@[simp↓] theorem Pq {xs:List Operand}{tg:Option Nat}:cg P Γ ⟨d,.lN,xs,g,un,tg⟩ K ⟨look vs,ab os⟩=fX P Γ d (xs.map (ev (look vs))) g K ⟨look vs,ab os⟩:=rfl
@[simp↓] theorem Ox {k:AK}{xs:List Operand}{tg:Option Nat}:cq P Γ ⟨d,k,xs,none,un,tg⟩ K ⟨look vs,ab os⟩=c9 P Γ ⟨d,k,xs,none,un,tg⟩ K ⟨look vs,ab os⟩:=rfl
@[simp↓] theorem RF {k:AK}{xs:List Operand}{s:Nat}{w:Bool}{tg:Option Nat}:cq P Γ ⟨d,k,xs,some (s,w),un,tg⟩ K ⟨look vs,ab os⟩=ia (eZ ((xs.map (ev (look vs))).map strip)) (KA (bN (look vs s) w)) (c9 P Γ ⟨d,k,xs,some (s,w),un,tg⟩ K ⟨look vs,ab os⟩) (K ((bI.put (.cp false .aw)).on d ⟨look vs,ab os⟩)):=rfl
@[congr] theorem Mb {b b' f:Bool} (h:True→b=b'):ia b f A B=ia b' f A B:=by rw[h trivial]
@[simp↓] theorem Oe {f:Bool}:ia false f A B=A:=rfl
@[simp↓] theorem PE {f:Bool}:ia true f A B=if f=true then B else A:=rfl
def cloK (P:Program) (Γ:bX) (d:Option Nat) (K:St→Prop) (st:St):FuncId×List AV→Prop|(f,ys)=>fF P f=true∧eW P Γ d f ys (dV Γ f) K st
@[simp↓] theorem Rg :fX P Γ d xs none K ⟨look vs,ab os⟩=(aq xs∧ai (lv (xs.map strip)) (cloK P Γ d K ⟨look vs,ab os⟩)):=rfl
@[simp↓] theorem cloK_mk :cloK P Γ d K ⟨look vs,ab os⟩ (f,ys)=(fF P f=true∧eW P Γ d f ys (dV Γ f) K ⟨look vs,ab os⟩):=rfl
@[simp↓] theorem MH :eW P Γ d f ys none K ⟨look vs,ab os⟩=cH P Γ d f ys (ab os) fun e=>K (e.on d ⟨look vs,ab os⟩):=rfl
@[simp↓] theorem N5 {p k:Nat}:eW P Γ d f ys (some (p,k)) K ⟨look vs,ab os⟩=if k=996 then stepG Γ d f ys (jj Γ f) K ⟨look vs,ab os⟩ else False:=rfl
@[congr] theorem La {o o':Option (Nat×Nat)}{st:St} (h1:True→ys=ys') (h:True→o=o'):eW P Γ d f ys o K st=eW P Γ d f ys' o' K st:=by rw[h1 trivial,h trivial]
@[simp↓] theorem OS {s:Nat}{w:Bool}:fX P Γ d xs (some (s,w)) K ⟨look vs,ab os⟩=ia (eZ (xs.map strip)) (KA (bN (look vs s) w)) (qi P Γ d xs s w K ⟨look vs,ab os⟩) (K ((bI.put (.cp false .aw)).on d ⟨look vs,ab os⟩)):=rfl
def YN (P:Program) (Γ:bX) (d:Option Nat) (A:Prop) (c:Bool) (K:St→Prop) (st:St):FuncId×List AV→Prop|(f,ys)=>fF P f=true∧iz P Γ d f ys A c (dV Γ f) K st
@[simp↓] theorem cloG_mk {c:Bool}:YN P Γ d A c K ⟨look vs,ab os⟩ (f,ys)=(fF P f=true∧iz P Γ d f ys A c (dV Γ f) K ⟨look vs,ab os⟩):=rfl
@[simp↓] theorem SS {s:Nat}{w:Bool}:qi P Γ d xs s w K ⟨look vs,ab os⟩=ai (bN (look vs s) w) fun c=>ai (lv (xs.map strip)) (YN P Γ d (aq xs) c K ⟨look vs,ab os⟩):=rfl
@[simp↓] theorem Kc {c:Bool}:iz P Γ d f ys A c none K ⟨look vs,ab os⟩=Bm Γ c f ys (ab os) fun e=>(c=true→A)∧K (e.on d ⟨look vs,ab os⟩):=rfl
@[simp↓] theorem JT {c:Bool}{p k:Nat}:iz P Γ d f ys A c (some (p,k)) K ⟨look vs,ab os⟩=if k=996 then(if c=true then A∧stepG Γ d f ys (jj Γ f) K ⟨look vs,ab os⟩ else K ((bI.put (.cp false .aw)).on d ⟨look vs,ab os⟩)) else False:=rfl
@[congr] theorem Jd {c:Bool}{o o':Option (Nat×Nat)}{st:St} (h1:True→ys=ys') (h:True→o=o'):iz P Γ d f ys A c o K st=iz P Γ d f ys' A c o' K st:=by rw[h1 trivial,h trivial]
@[simp] theorem UC {caps args:List AV}:lv (.bE f caps::args)=some (f,args++caps):=nr rfl
@[simp↓] theorem S6 {xs:List Operand}{tg:Option Nat}:cg P Γ ⟨d,.oO,xs,g,un,tg⟩ K ⟨look vs,ab os⟩=cq P Γ ⟨d,.oO,xs,g,un,tg⟩ K ⟨look vs,ab os⟩:=rfl
@[simp↓] theorem Ql {xs:List Operand}{tg:Option Nat}:cg P Γ ⟨d,.pick,xs,g,un,tg⟩ K ⟨look vs,ab os⟩=cq P Γ ⟨d,.pick,xs,g,un,tg⟩ K ⟨look vs,ab os⟩:=rfl
@[simp↓] theorem UH {xs:List Operand}{tg:Option Nat}{op:BinOp}:cg P Γ ⟨d,.bin op,xs,g,un,tg⟩ K ⟨look vs,ab os⟩=cq P Γ ⟨d,.bin op,xs,g,un,tg⟩ K ⟨look vs,ab os⟩:=rfl
@[simp↓] theorem VC {xs:List Operand}{tg:Option Nat}:cg P Γ ⟨d,.beq ne,xs,g,un,tg⟩ K ⟨look vs,ab os⟩=cq P Γ ⟨d,.beq ne,xs,g,un,tg⟩ K ⟨look vs,ab os⟩:=rfl
@[simp↓] theorem VH {xs:List Operand}{tg:Option Nat}:cg P Γ ⟨d,.not,xs,g,un,tg⟩ K ⟨look vs,ab os⟩=cq P Γ ⟨d,.not,xs,g,un,tg⟩ K ⟨look vs,ab os⟩:=rfl
@[simp↓] theorem TK {xs:List Operand}{tg:Option Nat}:cg P Γ ⟨d,.neg,xs,g,un,tg⟩ K ⟨look vs,ab os⟩=cq P Γ ⟨d,.neg,xs,g,un,tg⟩ K ⟨look vs,ab os⟩:=rfl
@[simp↓] theorem SW {xs:List Operand}{tg:Option Nat}{k:IntKind}:cg P Γ ⟨d,.Cb k,xs,g,un,tg⟩ K ⟨look vs,ab os⟩=cq P Γ ⟨d,.Cb k,xs,g,un,tg⟩ K ⟨look vs,ab os⟩:=rfl
@[simp↓] theorem VI {xs:List Operand}{tg:Option Nat}:cg P Γ ⟨d,.Dq,xs,g,un,tg⟩ K ⟨look vs,ab os⟩=cq P Γ ⟨d,.Dq,xs,g,un,tg⟩ K ⟨look vs,ab os⟩:=rfl
@[simp↓] theorem S5 {xs:List Operand}{tg:Option Nat}:cg P Γ ⟨d,.len,xs,g,un,tg⟩ K ⟨look vs,ab os⟩=cq P Γ ⟨d,.len,xs,g,un,tg⟩ K ⟨look vs,ab os⟩:=rfl
@[simp↓] theorem P3 {xs:List Operand}{tg:Option Nat}:cg P Γ ⟨d,.vD,xs,g,un,tg⟩ K ⟨look vs,ab os⟩=cq P Γ ⟨d,.vD,xs,g,un,tg⟩ K ⟨look vs,ab os⟩:=rfl
@[simp↓] theorem R6 {xs:List Operand}{tg:Option Nat}:cg P Γ ⟨d,.vH,xs,g,un,tg⟩ K ⟨look vs,ab os⟩=cq P Γ ⟨d,.vH,xs,g,un,tg⟩ K ⟨look vs,ab os⟩:=rfl
@[simp↓] theorem Su {xs:List Operand}{tg:Option Nat}{lo hi:Bool}:cg P Γ ⟨d,.KK lo hi,xs,g,un,tg⟩ K ⟨look vs,ab os⟩=cq P Γ ⟨d,.KK lo hi,xs,g,un,tg⟩ K ⟨look vs,ab os⟩:=rfl
@[simp↓] theorem Ub {xs:List Operand}{tg:Option Nat}{o:Nat}{n:Option Nat}:cg P Γ ⟨d,.Iu o n,xs,g,un,tg⟩ K ⟨look vs,ab os⟩=cq P Γ ⟨d,.Iu o n,xs,g,un,tg⟩ K ⟨look vs,ab os⟩:=rfl
@[simp↓] theorem Tn {xs:List Operand}{tg:Option Nat}{o:Nat}:cg P Γ ⟨d,.sS o,xs,g,un,tg⟩ K ⟨look vs,ab os⟩=cq P Γ ⟨d,.sS o,xs,g,un,tg⟩ K ⟨look vs,ab os⟩:=rfl
@[simp↓] theorem PG {xs:List Operand}{tg:Option Nat}{n:Option Nat}:cg P Γ ⟨d,.load n,xs,g,un,tg⟩ K ⟨look vs,ab os⟩=cq P Γ ⟨d,.load n,xs,g,un,tg⟩ K ⟨look vs,ab os⟩:=rfl
@[simp↓] theorem Sp {xs:List Operand}{tg:Option Nat}{s:Nat}:cg P Γ ⟨d,.DP e s,xs,g,un,tg⟩ K ⟨look vs,ab os⟩=cq P Γ ⟨d,.DP e s,xs,g,un,tg⟩ K ⟨look vs,ab os⟩:=rfl
@[simp↓] theorem Uv {xs:List Operand}{tg:Option Nat}{e s:Nat}:cg P Γ ⟨d,.FY e s,xs,g,un,tg⟩ K ⟨look vs,ab os⟩=cq P Γ ⟨d,.FY e s,xs,g,un,tg⟩ K ⟨look vs,ab os⟩:=rfl
@[simp↓] theorem UZ {xs:List Operand}{tg:Option Nat}:cg P Γ ⟨d,.FH,xs,g,un,tg⟩ K ⟨look vs,ab os⟩=cq P Γ ⟨d,.FH,xs,g,un,tg⟩ K ⟨look vs,ab os⟩:=rfl
@[simp↓] theorem TD {xs:List Operand}{tg:Option Nat}{s:Nat}{lo hi:Bool}:cg P Γ ⟨d,.B5 s lo hi,xs,g,un,tg⟩ K ⟨look vs,ab os⟩=cq P Γ ⟨d,.B5 s lo hi,xs,g,un,tg⟩ K ⟨look vs,ab os⟩:=rfl
@[simp↓] theorem Vg {xs:List Operand}{tg:Option Nat}:cg P Γ ⟨d,.ext i,xs,g,un,tg⟩ K ⟨look vs,ab os⟩=cq P Γ ⟨d,.ext i,xs,g,un,tg⟩ K ⟨look vs,ab os⟩:=rfl
@[simp↓] theorem SM {xs:List Operand}{tg:Option Nat}:cg P Γ ⟨d,.I5 zs ps,xs,g,un,tg⟩ K ⟨look vs,ab os⟩=cq P Γ ⟨d,.I5 zs ps,xs,g,un,tg⟩ K ⟨look vs,ab os⟩:=rfl
@[simp↓] theorem Un {xs:List Operand}{tg:Option Nat}:cg P Γ ⟨d,.Jc f,xs,g,un,tg⟩ K ⟨look vs,ab os⟩=cq P Γ ⟨d,.Jc f,xs,g,un,tg⟩ K ⟨look vs,ab os⟩:=rfl
@[simp↓] theorem PD {d:Nat}{xs:List Operand}{tg:Option Nat}:cg P Γ ⟨some d,.gX e,xs,g,un,tg⟩ K ⟨look vs,ab os⟩=c9 P Γ ⟨some d,.gX e,xs,g,un,tg⟩ K (uW d ⟨look vs,ab os⟩):=rfl
@[simp↓] theorem Uu {xs:List Operand}{tg:Option Nat}:cg P Γ ⟨d,.box,xs,g,un,tg⟩ K ⟨look vs,ab os⟩=cq P Γ ⟨d,.box,xs,g,un,tg⟩ K ⟨look vs,ab os⟩:=rfl
@[simp↓] theorem Me {xs:List Operand}{tg:Option Nat}:cg P Γ ⟨d,.alloc zs,xs,g,un,tg⟩ K ⟨look vs,ab os⟩=cq P Γ ⟨d,.alloc zs,xs,g,un,tg⟩ K ⟨look vs,ab os⟩:=rfl
@[congr] theorem M6 {i:AI}{st st':St} (h:True→st=st'):cq P Γ i K st=cq P Γ i K st':=by rw[h trivial]
@[simp↓] theorem Va {xs:List Operand}{tg:Option Nat}{s:Nat}:cg P Γ ⟨d,.sJ e s,xs,g,un,tg⟩ K ⟨look vs,ab os⟩=cq P Γ ⟨d,.sJ e s,xs,g,un,tg⟩ K (cK ⟨look vs,ab os⟩ ((xs.map (ev (look vs))).map strip)):=rfl
@[simp↓] theorem L2 {xs:List Operand}{s:Nat}{w:Bool}{tg:Option Nat}:cg P Γ ⟨d,.call f,xs,some (s,w),un,tg⟩ K ⟨look vs,ab os⟩=my P Γ ⟨d,.call f,xs,some (s,w),un,tg⟩ f s w (dV Γ f) K ⟨look vs,ab os⟩:=rfl
@[congr] theorem K4 {i:AI}{s:Nat}{w:Bool}{o o':Option (Nat×Nat)}{st:St} (h:True→o=o'):my P Γ i f s w o K st=my P Γ i f s w o' K st:=by rw[h trivial]
@[simp↓] theorem NH {xs:List Operand}{s s':Nat}{w w':Bool}{tg:Option Nat}:my P Γ ⟨d,.call f,xs,some (s',w'),un,tg⟩ f s w none K ⟨look vs,ab os⟩=ia (eZ ((xs.map (ev (look vs))).map strip)) (KA (bN (look vs s) w)) (ai (bN (look vs s) w) fun c=>ai (fJ (ab os) ((xs.map (ev (look vs))).map strip)) fun ys=>ai (gt Γ f ys) fun x=>if frR x.2=true then(if c=true then me P Γ ⟨d,.call f,xs,none,[],none⟩ f K ⟨look vs,ab os⟩ else K ((bI.put (.cp false .aw)).on d ⟨look vs,ab os⟩)) else c9 P Γ ⟨d,.call f,xs,some (s',w'),un,tg⟩ K ⟨look vs,ab os⟩) (K ((bI.put (.cp false .aw)).on d ⟨look vs,ab os⟩)):=rfl
@[simp↓] theorem Od {xs:List Operand}{s s' p k:Nat}{w w':Bool}{tg:Option Nat}:my P Γ ⟨d,.call f,xs,some (s',w'),un,tg⟩ f s w (some (p,k)) K ⟨look vs,ab os⟩=if k=996 then ai (bN (look vs s) w) fun c=>if c=true then stepG Γ d f (xs.map (ev (look vs))) (jj Γ f) K ⟨look vs,ab os⟩ else K ((bI.put (.cp false .aw)).on d ⟨look vs,ab os⟩) else False:=rfl
@[simp↓] theorem ON {xs:List Operand}{tg:Option Nat}:cg P Γ ⟨d,.call f,xs,none,un,tg⟩ K ⟨look vs,ab os⟩=gY P Γ ⟨d,.call f,xs,none,un,tg⟩ f (dV Γ f) K ⟨look vs,ab os⟩:=rfl
@[congr] theorem LL {i:AI}{o o':Option (Nat×Nat)}{st:St} (h:True→o=o'):gY P Γ i f o K st=gY P Γ i f o' K st:=by rw[h trivial]
@[simp↓] theorem L7 {i:AI}{st:St}:gY P Γ i f none K st=me P Γ i f K st:=rfl
@[simp↓] theorem Ng {f g:FuncId}{p k:Nat}{xs:List Operand}{tg:Option Nat}:gY P Γ ⟨d,.call g,xs,none,un,tg⟩ f (some (p,k)) K ⟨look vs,ab os⟩=if k=997 then zE P Γ d f (xs.map (ev (look vs))) p K ⟨look vs,ab os⟩ else if k=996 then stepG Γ d f (xs.map (ev (look vs))) (jj Γ f) K ⟨look vs,ab os⟩ else lG P Γ d f (xs.map (ev (look vs))) p k K ⟨look vs,ab os⟩:=rfl
@[simp↓] theorem stepN_eq {d:Nat}{p:Nat}:zE P Γ (some d) f xs p K ⟨look vs,ab os⟩=(aq xs∧ai (rG (ab os) p (xs.map strip)) fun ys=>ai (Γ (f+1000000) ys) fun x=>x.1∧(eT (xs.map strip)=true∨flat x.2)∧(∀y∈aT d x.2,ab os y.1=none)∧cY x.2=true∧K ⟨put (some d) (cS (lP d) x.2) (look vs),bG (aT d x.2) (ab os)⟩):=rfl
@[simp] theorem reisN_0 (aa:Nat→Option AO) (vs:List AV):rG aa 0 (.pv .nil::vs)=(fJ aa vs).map (.pv .nil::·):=nr rfl
@[simp] theorem YW :dV Γ f=(Γ (f+1000000) [.aw]).bind fun x=>D6 x.2:=nr rfl
@[simp] theorem T1 {p k:Nat}:D6 (.ptr p k)=if k=998∨k=999∨k=997∨k=996 then some (p,k) else none:=nr rfl
@[simp↓] theorem Zh {d:Nat}{p k:Nat}:lG P Γ (some d) f xs p k K ⟨look vs,ab os⟩=(aq xs∧ai ((xs.map strip)[p]?) fun X=>ai (gx (ab os) k X) fun T=>lU T.1 p (xs.map strip)∧ai (rM (gb T.1 (ab os)) (wQ k T.2.1 T.2.2) p (xs.map strip)) fun ys=>ai (Γ (f+1000000) ys) fun x=>x.1∧(jQ p (xs.map strip)=true∨(flat (b9 x.2)∧pb (ep x.2)))∧(∀y∈aT d (b9 x.2),ab os y.1=none)∧cY (b9 x.2)=true∧K ⟨put (some d) (cS (lP d) (b9 x.2)) (ie T.1 x.2 (look vs)),bG (aT d (b9 x.2)) (cN T.1 x.2 (ab os))⟩):=rfl
@[simp] def isPu:XK→Bool|.TU _=>true|.Ym|.IM _|.EM _ _ _|.dead|.vW _|.Bs|.HS|.Er _ _ _ _|.FO _|.TT _ _ _|.mark|.rst|.Fk|.mkv|.FT _ _ _|.nn _ _|.dlv _|.Eu _|.Zj|.nxt|.ent=>false
def za (d:Option Nat) (x:XK) (xs:List Operand) (K:St→Prop) (st:St):Prop:=ba d x (xs.map (ev st.vars)) K st
def CT:Bool→Prop→Prop→Prop|true,_,B=>B|false,A,_=>A
@[simp↓] theorem ML :CT true A B=B:=rfl
@[simp↓] theorem KV :CT false A B=A:=rfl
@[simp↓] theorem WS {xs:List Operand}{tg:Option Nat}{x:XK}:cg P Γ ⟨d,.ex x,xs,none,un,tg⟩ K ⟨look vs,ab os⟩=CT (isPu x) (ba d x (xs.map (ev (look vs))) K ⟨look vs,ab os⟩) (za d x xs K (cK ⟨look vs,ab os⟩ ((xs.map (ev (look vs))).map strip))):=by cases x<;>rfl
@[congr] theorem Kt {x:XK}{xs:List Operand}{st st':St} (h:True→st=st'):za d x xs K st=za d x xs K st':=by rw[h trivial]
@[simp↓] theorem SP {x:XK}{xs:List Operand}:za d x xs K ⟨look vs,ab os⟩=ba d x (xs.map (ev (look vs))) K ⟨look vs,ab os⟩:=rfl
@[simp↓] theorem VL {xs:List Operand}{s:Nat}{w:Bool}{tg:Option Nat}{x:XK}:cg P Γ ⟨d,.ex x,xs,some (s,w),un,tg⟩ K ⟨look vs,ab os⟩=ai (bN (look vs s) w) fun c=>if c=true then ba d x (xs.map (ev (look vs))) K ⟨look vs,ab os⟩ else K ((bI.put (.cp false .aw)).on d ⟨look vs,ab os⟩):=rfl
@[congr] theorem Jl {x:XK}{st:St} (h:True→xs=xs'):ba d x xs K st=ba d x xs' K st:=by rw[h trivial]
@[simp↓] theorem OZ {d:Nat}:ba (some d) .Ym [] K ⟨look vs,ab os⟩=(ab os d=none∧K ⟨put (some d) (.own d) (look vs),bG [(d,.map [])] (ab os)⟩):=rfl
@[simp↓] theorem Mi {s t:Nat}{k v:AV}:ba d (.IM s) [.own t,k,v] K ⟨look vs,ab os⟩=zJ d s t (strip k) (strip v) [.own t,k,v] K ⟨look vs,ab os⟩:=by cases hk:strip k<;>simp[ba,qO,zJ,hk,strip]
@[simp↓] theorem Yn {s t:Nat}{k:PV}:zJ d s t (.pv k) v xs K ⟨look vs,ab os⟩=(aq xs∧ai (xX (ab os t)) fun es=>dB k=s∧gu s es∧eC v=true∧K ⟨put d .aw (look vs),aR t (.map (jv k v es)) (ab os)⟩):=rfl
@[congr] theorem Mo {s t:Nat}{k k' v v':AV}{st:St} (h1:True→k=k') (h2:True→v=v') (h3:True→xs=xs'):zJ d s t k v xs K st=zJ d s t k' v' xs' K st:=by rw[h1 trivial,h2 trivial,h3 trivial]
@[simp↓] theorem MG {s t:Nat}{k:AV}:ba d (.EM s z ok) [.own t,k] K ⟨look vs,ab os⟩=Ac d s t z ok (strip k) [.own t,k] K ⟨look vs,ab os⟩:=by cases hk:strip k<;>simp[ba,qO,Ac,hk,strip]
@[simp↓] theorem Xb {s t:Nat}{k:PV}:Ac d s t z ok (.pv k) xs K ⟨look vs,ab os⟩=(aq xs∧ai (xX (ab os t)) fun es=>dB k=s∧gu s es∧K ⟨put d (if ok=true then .aO [(getM k es).getD (Gr z),.pv (.bool (getM k es).isSome)] else(getM k es).getD (Gr z)) (look vs),ab os⟩):=rfl
@[congr] theorem NL {s t:Nat}{k k':AV}{st:St} (h1:True→k=k') (h3:True→xs=xs'):Ac d s t z ok k xs K st=Ac d s t z ok k' xs' K st:=by rw[h1 trivial,h3 trivial]
@[simp↓] theorem Kx {s:Nat}{ks:List PV}{k:AV}:ba d (.EM s z ok) [.pv (.mp ks),k] K ⟨look vs,ab os⟩=tH d s ks z ok (strip k) [.pv (.mp ks),k] K ⟨look vs,ab os⟩:=by cases hk:strip k<;>simp[ba,qO,tH,hk,strip]
@[simp↓] theorem T0 {s:Nat}{ks:List PV}{k:PV}:tH d s ks z ok (.pv k) xs K ⟨look vs,ab os⟩=(aq xs∧wB z=true∧dB k=s∧(∀x∈ks,dB x=s)∧K ⟨put d (if ok=true then .aO [.agg [],.pv (.bool (ks.any (mU k)))] else .agg []) (look vs),ab os⟩):=rfl
@[congr] theorem KY {s:Nat}{ks:List PV}{k k':AV}{st:St} (h1:True→k=k') (h3:True→xs=xs'):tH d s ks z ok k xs K st=tH d s ks z ok k' xs' K st:=by rw[h1 trivial,h3 trivial]
@[simp↓] theorem Se {x y:AV}:ba d .rst [x,y] K ⟨look vs,ab os⟩=xy d (strip x) (strip y) [x,y] K ⟨look vs,ab os⟩:=rfl
@[simp↓] theorem V7 {t o q:Nat}{i:Int}:xy d (.bd t e i o) (.own q) xs K ⟨look vs,ab os⟩=(aq xs∧ai (cX (ab os t)) fun r=>(r.1=e∧o=0)∧(0≤i∧i<r.2.length∧(rowAt r.2 i).length=1)∧K ⟨put d .aw (look vs),aR t (.rws e ((r.2.map fun x=>AV.pv (x.getD 0 .nil)).set i.toNat (.own q))) (ab os)⟩):=rfl
@[simp↓] theorem NP {x:AV}:ba d .Fk [x] K ⟨look vs,ab os⟩=tr d (strip x) [x] K ⟨look vs,ab os⟩:=rfl
@[simp↓] theorem Ji {a b c:AV}:ba d .Bs [a,b,c] K ⟨look vs,ab os⟩=se d [a,b,c] [strip a,strip b,strip c] K ⟨look vs,ab os⟩:=rfl
@[congr] theorem M0 {st:St} (h1:True→xs=xs') (h2:True→ys=ys'):se d xs ys K st=se d xs' ys' K st:=by rw[h1 trivial,h2 trivial]
@[simp↓] theorem exAdd_eq {a b c:Int}:se d xs [.pv (.int .u64 a),.pv (.int .u64 b),.pv (.int .u64 c)] K ⟨look vs,ab os⟩=(aq xs∧(0≤a∧0≤b∧0≤c∧c≤1)∧K ⟨put d (.aO [.pv (.int .u64 ((a+b+c)%18446744073709551616)),.pv (.int .u64 ((a+b+c)/18446744073709551616))]) (look vs),ab os⟩):=rfl
@[simp↓] theorem Mv {x:AV}:ba d .HS [x] K ⟨look vs,ab os⟩=mP d (strip x) [x] K ⟨look vs,ab os⟩:=by cases hk:strip x<;>simp[ba,qO,mP,hk];rename_i p;cases p<;>simp
@[simp↓] theorem Rl :mP d (.pv .nil) xs K ⟨look vs,ab os⟩=(aq xs∧K ⟨put d (.pv (.int .i64 0)) (look vs),ab os⟩):=rfl
@[congr] theorem JJ {x x':AV}{st:St} (h1:True→x=x') (h2:True→xs=xs'):mP d x xs K st=mP d x' xs' K st:=by rw[h1 trivial,h2 trivial]
@[simp↓] theorem P4 {b:Nat}{x y:AV}:ba d (.TT e b zs) [x,y] K ⟨look vs,ab os⟩=Bk d e b zs [x,y] [strip x,strip y] K ⟨look vs,ab os⟩:=rfl
@[simp↓] theorem NV :ba d (.FO e) xs K ⟨look vs,ab os⟩=yZ d e xs (xs.map strip) K ⟨look vs,ab os⟩:=rfl
@[simp↓] theorem NI :ba d (.nn e sz) xs K ⟨look vs,ab os⟩=qR d e sz xs (xs.map strip) K ⟨look vs,ab os⟩:=rfl
@[simp↓] theorem Ta {d:Nat}:qR (some d) e sz xs ys K ⟨look vs,ab os⟩=(aq xs∧ai (rowsOf ys) fun rows=>(∀r∈rows,r.length=sz)∧ab os d=none∧K ⟨put (some d) (.own d) (look vs),bG [(d,.arr e rows)] (ab os)⟩):=nr rfl
@[simp↓] theorem L5 {sz b:Nat}{x y:AV}:ba d (.Er e sz b zs) [x,y] K ⟨look vs,ab os⟩=mI d e b zs [x,y] [strip x,strip y] K ⟨look vs,ab os⟩:=rfl
@[congr] theorem Ln {b:Nat}{st:St} (h1:True→xs=xs') (h2:True→ys=ys'):mI d e b zs xs ys K st=mI d e b zs xs' ys' K st:=by rw[h1 trivial,h2 trivial]
@[simp↓] theorem Uz {d:Nat}{b:Nat}{n:Int}:mI (some d) e b zs xs [.pv .nil,.pv (.int .i64 n)] K ⟨look vs,ab os⟩=(aq xs∧(0≤n∧n≤140737488355328∧n.toNat*b≤140737488355328)∧ab os d=none∧K ⟨put (some d) (.own d) (look vs),bG [(d,.arr e (List.replicate n.toNat (zs.map su)))] (ab os)⟩):=rfl
@[simp↓] theorem KH {x:AV}:ba d (.vW ne) [x] K ⟨look vs,ab os⟩=(aq [x]∧ai (fx (ab os) (strip x)) fun rows=>IA d ne rows K ⟨look vs,ab os⟩):=rfl
theorem mD :IA d ne rows K ⟨look vs,ab os⟩=∀b:Bool,(rows≠[]→b=false)→K ⟨put d (.pv (.bool (if ne=true then !b else b))) (look vs),ab os⟩:=rfl
@[simp↓] theorem Pj {r:List PV}:IA d ne (r::rows) K ⟨look vs,ab os⟩=K ⟨put d (.pv (.bool ne)) (look vs),ab os⟩:=by
 rw[mD];apply propext;constructor;·intro h;have:=h false (fun _=>rfl);cases ne<;>exact this
 ·intro h b hb;have:=hb (by simp);subst this;cases ne<;>exact h
@[simp] theorem Up (es:List (PV×AV)):xX (some (.map es))=some es:=nr rfl
@[simp] theorem srt_int (k:IntKind) (n:Int):dB (.int k n)=2+ni k:=nr rfl
@[simp] theorem srt_str (l:List UInt8):dB (.str l)=1:=nr rfl
@[simp] theorem aaK (b:Bool):dB (.bool b)=0:=nr rfl
@[simp] theorem Zq:ni .u64=7:=nr rfl
@[simp] theorem kIdx_u8:ni .u8=4:=nr rfl
@[simp] theorem O9 (s:Nat):gu s []=True:=by simp[gu]
@[simp] theorem avZ_agg (cs:Array Value):Gr (.agg cs)=.agg (cs.toList.map cv):=nr rfl
@[simp↓] theorem Uc {xs:List Operand}{tg:Option Nat}{s:Nat}:cg P Γ ⟨d,.F4 e s zs,xs,none,un,tg⟩ K ⟨look vs,ab os⟩=pM d e s zs (xs.map (ev (look vs))) K ⟨look vs,ab os⟩:=rfl
@[simp↓] theorem QJ {s:Nat}:pM d e s zs xs K ⟨look vs,ab os⟩=(aq xs∧ai ((xs.map strip).head?) fun X=>ai (B6 (ab os) e zs X) fun r=>K ((bI.wo r.1 r.2).on d ⟨look vs,ab os⟩)):=rfl
@[simp↓] theorem Wg {f g:FuncId}{xs:List Operand}{tg:Option Nat}:me P Γ ⟨d,.call g,xs,none,un,tg⟩ f K ⟨look vs,ab os⟩=ai (fJ (ab os) ((xs.map (ev (look vs))).map strip)) fun ys=>ai (gt Γ f ys) fun x=>if(ZR x.2&&!eT ((xs.map (ev (look vs))).map strip))=true then AZ P Γ d f xs K (cK ⟨look vs,ab os⟩ ((xs.map (ev (look vs))).map strip)) else c9 P Γ ⟨d,.call g,xs,none,un,tg⟩ K ⟨look vs,ab os⟩:=rfl
@[congr] theorem MO {xs:List Operand}{st st':St} (h:True→st=st'):AZ P Γ d f xs K st=AZ P Γ d f xs K st':=by rw[h trivial]
@[simp↓] theorem aaQ {xs:List Operand}:AZ P Γ d f xs K ⟨look vs,ab os⟩=cH P Γ d f (xs.map (ev (look vs))) (ab os) fun e=>K (e.on d ⟨look vs,ab os⟩):=rfl
@[simp↓] theorem Sx {xs:List Operand}{tg:Option Nat}{b:Bool}:cg P Γ ⟨d,.FX b,xs,g,un,tg⟩ K ⟨look vs,ab os⟩=cq P Γ ⟨d,.FX b,xs,g,un,tg⟩ K ⟨look vs,ab os⟩:=rfl
@[simp↓] theorem VU {xs:List Operand}{tg:Option Nat}:cg P Γ ⟨d,.eqs ne ks,xs,g,un,tg⟩ K ⟨look vs,ab os⟩=cq P Γ ⟨d,.eqs ne ks,xs,g,un,tg⟩ K ⟨look vs,ab os⟩:=rfl
@[simp↓] theorem N1 {xs:List Operand}{tg:Option Nat}{n:Option Nat}:cg P Γ ⟨d,.store n,xs,g,un,tg⟩ K ⟨look vs,ab os⟩=cq P Γ ⟨d,.store n,xs,g,un,tg⟩ K ⟨look vs,ab os⟩:=rfl
@[simp↓] theorem UO {xs:List Operand}{s b:Nat}:cg P Γ ⟨d,.app e s b,xs,g,un,none⟩ K ⟨look vs,ab os⟩=cq P Γ ⟨d,.app e s b,xs,g,un,none⟩ K ⟨look vs,ab os⟩:=rfl
@[simp↓] theorem Tq {xs:List Operand}{s b:Nat}:cg P Γ ⟨d,.app e s b,xs,none,un,some 999998⟩ K ⟨look vs,ab os⟩=if pQ ((xs.map (ev (look vs))).map strip)=true then yL d e s b (xs.map (ev (look vs))) K ⟨look vs,ab os⟩ else c9 P Γ ⟨d,.app e s b,xs,none,un,some 999998⟩ K ⟨look vs,ab os⟩:=rfl
@[simp↓] theorem RJ {sz b:Nat}:yL d e sz b xs K ⟨look vs,ab os⟩=(aq xs∧ai (IW (ab os) e (xs.map strip)) fun r=>((r.2.1.length+r.2.2.length)*b≤140737488355328∧r.2.1.length+r.2.2.length≤maxLen∧(∀q∈r.2.2,q.length=sz))∧r.1%1000≠999∧K ⟨put d (.pv (.ro (r.2.1++r.2.2))) (BV r.1 r.2.1 (look vs)),gb r.1 (ab os)⟩):=rfl
@[simp↓] theorem RL {xs:List Operand}{tg:Option Nat}:cg P Γ ⟨d,.sE,xs,g,un,tg⟩ K ⟨look vs,ab os⟩=cq P Γ ⟨d,.sE,xs,g,un,tg⟩ K ⟨look vs,ab os⟩:=rfl
@[simp↓] theorem O7 {xs:List Operand}{tg:Option Nat}:cg P Γ ⟨d,.qZ e,xs,g,un,tg⟩ K ⟨look vs,ab os⟩=cq P Γ ⟨d,.qZ e,xs,g,un,tg⟩ K ⟨look vs,ab os⟩:=rfl
@[simp↓] theorem aL {a b:AC}:iC P Γ (.seq a b) K J ⟨look vs,ab os⟩=iC P Γ a (fun st'=>iC P Γ b K J st') J ⟨look vs,ab os⟩:=rfl
@[simp↓] theorem zr {x:Operand}{a b:AC}:iC P Γ (.cond x a b) K J ⟨look vs,ab os⟩=ai (jd (ev (look vs) x)) fun c=>(c=true→iC P Γ a K J ⟨look vs,ab os⟩)∧(c=false→iC P Γ b K J ⟨look vs,ab os⟩):=rfl
@[simp↓] theorem aW {a:AC}:iC P Γ (.block id a) K J ⟨look vs,ab os⟩=iC P Γ a K (pw id K J) ⟨look vs,ab os⟩:=rfl
@[simp↓] theorem PY {id id':Nat}:pw id K J (.exit id') ⟨look vs,ab os⟩=if id'=id then K ⟨look vs,ab os⟩ else J (.exit id') ⟨look vs,ab os⟩:=rfl
@[simp↓] theorem VB :pw id K J .ret ⟨look vs,ab os⟩=J .ret ⟨look vs,ab os⟩:=rfl
@[simp↓] theorem HX :iC P Γ (.exit id) K J ⟨look vs,ab os⟩=J (.exit id) ⟨look vs,ab os⟩:=rfl
@[simp↓] theorem vwp_ret:iC P Γ .ret K J ⟨look vs,ab os⟩=J .ret ⟨look vs,ab os⟩:=rfl
@[simp↓] theorem Uj:steps P Γ [] K ⟨look vs,ab os⟩=K ⟨look vs,ab os⟩:=rfl
@[simp↓] theorem P1 {i:AI}:steps P Γ (i::is) K ⟨look vs,ab os⟩=cO P Γ i (fun st'=>steps P Γ is K st') ⟨look vs,ab os⟩:=rfl
@[simp↓] theorem Pp {k:AK}{xs:List Operand}:cO P Γ ⟨d,k,xs,g,un,none⟩ K ⟨look vs,ab os⟩=c9 P Γ ⟨d,k,xs,g,un,none⟩ K ⟨look vs,ab os⟩:=by cases k<;>rfl
@[simp↓] theorem Ni {n:Option Nat}{xs:List Operand}{tg:Option Nat}:cO P Γ ⟨d,.store n,xs,g,un,tg⟩ K ⟨look vs,ab os⟩=c9 P Γ ⟨d,.store n,xs,g,un,tg⟩ K ⟨look vs,ab os⟩:=rfl
@[simp↓] theorem RD {xs:List Operand}:cO P Γ ⟨d,.call f,xs,none,un,some 999999⟩ K ⟨look vs,ab os⟩=ij P Γ ⟨d,.call f,xs,none,un,some 999999⟩ f (dV Γ f) K ⟨look vs,ab os⟩:=rfl
@[simp↓] theorem OO {xs:List Operand}:cO P Γ ⟨d,.lN,xs,none,un,some 999999⟩ K ⟨look vs,ab os⟩=fX P Γ d (xs.map (ev (look vs))) none K ⟨look vs,ab os⟩:=rfl
@[congr] theorem Ms {i:AI}{o o':Option (Nat×Nat)}{st:St} (h:True→o=o'):ij P Γ i f o K st=ij P Γ i f o' K st:=by rw[h trivial]
@[simp↓] theorem QR {f g:FuncId}{xs:List Operand}{tg:Option Nat}:ij P Γ ⟨d,.call g,xs,none,un,tg⟩ f none K ⟨look vs,ab os⟩=c9 P Γ ⟨d,.call g,xs,none,[],none⟩ K ⟨look vs,ab os⟩:=rfl
@[simp↓] theorem Pg {f g:FuncId}{p k:Nat}{xs:List Operand}{tg:Option Nat}:ij P Γ ⟨d,.call g,xs,none,un,tg⟩ f (some (p,k)) K ⟨look vs,ab os⟩=if k=998 then un=[]∧lG P Γ d f (xs.map (ev (look vs))) p k K ⟨look vs,ab os⟩ else if k=996 then nJ (DE (jj Γ f) (ab os) ((xs.map (ev (look vs))).map strip)) ⟨look vs,ab os⟩ un∧stepG Γ d f (xs.map (ev (look vs))) (jj Γ f) K ⟨look vs,ab os⟩ else False:=rfl
@[simp↓] theorem SH {st:St}:nJ T st []=True:=rfl
@[simp↓] theorem Pd {s:Nat}{l:List Nat}:nJ T ⟨look vs,ab os⟩ (s::l)=(ai (ldT (ab os) (look vs s)) (fun t=>T.contains t=false)∧nJ T ⟨look vs,ab os⟩ l):=rfl
@[simp↓] theorem Xp {k:AK}{xs:List Operand}{tg:Option Nat}:c9 P Γ ⟨d,k,xs,g,un,tg⟩ K ⟨look vs,ab os⟩=((un=[]∨kc un (ab os) ((xs.map (ev (look vs))).map strip))∧dW P Γ ⟨d,k,xs,g,un,tg⟩ (look vs) (ab os) fun e=>BQ un tg e∧K (e.on d ⟨look vs,ab os⟩)):=rfl
@[simp↓] theorem T8 {k:AK}{xs:List Operand}{tg:Option Nat}{aa:Nat→Option AO}{vars:Nat→AV}:dW P Γ ⟨d,k,xs,none,un,tg⟩ vars aa C=bf P Γ d k (xs.map (ev vars)) aa C:=rfl
@[simp↓] theorem TJ {k:AK}{xs:List Operand}{s:Nat}{w:Bool}{tg:Option Nat}{aa:Nat→Option AO}{vars:Nat→AV}:dW P Γ ⟨d,k,xs,some (s,w),un,tg⟩ vars aa C=ai (bN (vars s) w) fun c=>cu P Γ c d k (xs.map (ev vars)) aa C:=rfl
theorem EZ {e:bI}:lF [] e=True:=by cases e<;>simp[lF]
@[simp↓] theorem Vl :lF un (.put v)=True:=rfl
@[simp↓] theorem Tz {os:List (Nat×AO)}:lF un (.new v os)=True:=rfl
@[simp↓] theorem Ve {t:Nat}{o:AO}:lF un (.wo t o)=True:=rfl
@[simp↓] theorem Tl {t:Nat}{o:AO}:lF un (.app t o)=(un.contains (t%1000+1000)=false):=rfl
@[simp↓1100] theorem tgU_nil {tg:Option Nat}{e:bI}:BQ [] tg e=uA tg e:=by unfold BQ;rw[EZ,and_true]
@[simp↓] theorem tgU_none {e:bI}:BQ un none e=lF un e:=by unfold BQ uA;rw[true_and]
@[simp↓] theorem Xu {s:Nat}{e:bI}:BQ un (some s) e=(uA (some s) e∧lF un e):=rfl
@[simp↓] theorem T2 {e:bI}:uA none e=True:=rfl
@[simp↓] theorem tgOK_upd {s t:Nat}{o:AO}:uA (some s) (.wo t o)=(t=s):=rfl
@[simp↓] theorem on_put :(bI.put v).on d ⟨look vs,ab os⟩=⟨put d v (look vs),ab os⟩:=rfl
@[simp↓] theorem jR {l:List (Nat×AO)}:(bI.new v l).on d ⟨look vs,ab os⟩=⟨put d v (look vs),bG l (ab os)⟩:=rfl
@[simp↓] theorem on_upd {t:Nat}{o:AO}:(bI.wo t o).on d ⟨look vs,ab os⟩=⟨put d .aw (look vs),aR t o (ab os)⟩:=rfl
@[simp↓] theorem qm {t:Nat}{o:AO}:(bI.app t o).on d ⟨look vs,ab os⟩=⟨put d (.own t) (cE t (look vs)),aR t o (dG t (ab os))⟩:=rfl
end
theorem Hi (d:Nat) (v:AV) (l:List (Nat×AV)):put (some d) v (look l)=look ((d,v)::l):=by funext s;simp[put,look]
theorem Ib (v:AV) (f:Nat→AV):put none v f=f:=rfl
theorem EW (t:Nat) (o:AO) (l:List (Nat×AO)):aR t o (ab l)=ab ((t,o)::l):=by funext s;simp[aR,ab]
theorem CI (cw:List Nat) (l:List (Nat×AV)):jA cw (look l)=look (cw.map fun s=>(s,look l s)):=by funext s;unfold jA;induction cw with|nil=>simp[look]|cons k ks ih=>
 simp only[q71,look];by_cases h:s=k;·subst h;simp
 ·simp only[q226,h,if_false];have:(s==k)=false:=by simpa using h
  rw[this];simpa using ih
theorem xF (t:Nat) (l:List (Nat×AV)):cE t (look l)=look (l.map fun x=>(x.1,kill t x.2)):=by funext s;unfold cE;induction l with|nil=>rfl|cons x l ih=>obtain⟨k,v⟩:=x;simp only[q71,look];split<;>simp_all
theorem C1 (t:Nat) (l:List (Nat×AO)):dG t (ab l)=ab (l.map fun x=>(x.1,dY t x.2)):=by funext s;unfold dG;induction l with|nil=>rfl|cons x l ih=>obtain⟨k,v⟩:=x;simp only[q71,ab];split<;>simp_all
theorem Ei (m l:List (Nat×AO)):bG m (ab l)=ab (m++l):=by funext s;unfold bG;induction m with|nil=>simp[ab]|cons x m ih=>
 obtain⟨k,v⟩:=x;simp only[q149,ab];by_cases h:s=k;·simp[h]
 ·simp only[if_neg h];exact ih
theorem jt (vs:List (Nat×AV)) (os:List (Nat×AO)):(Fr.mk vs os).st=⟨look vs,ab os⟩:=rfl
def J0 (t:Nat):List (Nat×AO)→List (Nat×AO)|[]=>[]|x::l=>if x.1=t then J0 t l else(x.1,dY t x.2)::J0 t l
@[simp] theorem rmL_nil (t:Nat):J0 t []=[]:=nr rfl
@[simp] theorem Gd (t s:Nat) (o:AO) (l:List (Nat×AO)):J0 t ((s,o)::l)=if s=t then J0 t l else(s,dY t o)::J0 t l:=nr rfl
theorem vu (t:Nat) (l:List (Nat×AO)):gb t (ab l)=ab (J0 t l):=by funext s;unfold gb;induction l with|nil=>simp[ab]|cons x l ih=>
 obtain⟨k,v⟩:=x;simp only[Gd,ab];by_cases hs:s=t
 ·subst hs;simp only[if_true]at ih ⊢;by_cases hk:k=s;·simp[hk];exact ih
  ·have hk':¬s=k:=fun e=>hk e.symm;simp[hk,ab,hk'];exact ih
 ·simp only[hs,if_false]at ih ⊢;by_cases hk:k=t;·have:¬s=k:=fun e=>hs (e.trans hk);rw[if_pos hk,if_neg this];exact ih
  ·simp only[hk,if_false,ab];by_cases hsk:s=k;·simp[hsk]
   ·simp only[hsk,if_false];exact ih
def KF (t:Nat) (e:TypeId) (rows:List (List PV)):List (Nat×AO)→List (Nat×AO)|[]=>[]|x::l=>if x.1=t then KF t e rows l else(x.1,I8 t e rows x.2)::KF t e rows l
@[simp] theorem rmB_nil (t:Nat) (e:TypeId) (rows:List (List PV)):KF t e rows []=[]:=nr rfl
@[simp] theorem Ia (t s:Nat) (e:TypeId) (rows:List (List PV)) (o:AO) (l:List (Nat×AO)):KF t e rows ((s,o)::l)=if s=t then KF t e rows l else(s,I8 t e rows o)::KF t e rows l:=nr rfl
theorem Gc (t:Nat) (e0:TypeId) (rows:List (List PV)) (l:List (Nat×AV)):shW t e0 rows (look l)=look (l.map fun x=>(x.1,F1 t e0 rows x.2)):=by funext s;unfold shW;induction l with|nil=>rfl|cons x l ih=>obtain⟨k,v⟩:=x;simp only[q71,look];split<;>simp_all
theorem Fp (t:Nat) (e:TypeId) (rows:List (List PV)) (l:List (Nat×AO)):Cj t e rows (ab l)=ab (KF t e rows l):=by funext s;unfold Cj;induction l with|nil=>simp[ab]|cons x l ih=>
 obtain⟨k,v⟩:=x;simp only[Ia,ab];by_cases hs:s=t
 ·subst hs;simp only[if_true]at ih ⊢;by_cases hk:k=s;·simp[hk];exact ih
  ·have hk':¬s=k:=fun e=>hk e.symm;simp[hk,ab,hk'];exact ih
 ·simp only[hs,if_false]at ih ⊢;by_cases hk:k=t;·have:¬s=k:=fun e=>hs (e.trans hk);rw[if_pos hk,if_neg this];exact ih
  ·simp only[hk,if_false,ab];by_cases hsk:s=k;·simp[hsk]
   ·simp only[hsk,if_false];exact ih
@[simp] theorem Cv (vs:List (Nat×AV)) (os:List (Nat×AO)) (t:Nat):share1 ⟨look vs,ab os⟩ (.own t)=match cX (ab os t) with|some r=>⟨look (vs.map fun x=>(x.1,F1 t r.1 r.2 x.2)),ab (KF t r.1 r.2 os)⟩|none=>⟨look vs,ab os⟩:=by simp only[share1,iQ];split<;>simp[*,Gc,Fp]
@[simp] theorem Zr (vs:List (Nat×AV)) (os:List (Nat×AO)) (t:Nat):uW t ⟨look vs,ab os⟩=match cX (ab os t) with|some _=>⟨look (vs.map fun x=>(x.1,kill t x.2)),ab (J0 t os)⟩|none=>⟨look vs,ab os⟩:=by simp only[uW];split<;>simp[*,xF,vu]
@[simp] theorem SU (st:St) (p:PV):share1 st (.pv p)=st:=nr rfl
@[simp] theorem Pz (st:St) (cs:List AV):share1 st (.agg cs)=gB st cs:=nr rfl
@[simp] theorem Mg (st:St):gB st []=st:=nr rfl
@[simp] theorem KW (st:St) (c:AV) (cs:List AV):gB st (c::cs)=gB (iQ st c) cs:=nr rfl
@[simp] theorem Qq (vs:List (Nat×AV)) (os:List (Nat×AO)) (t:Nat):iQ ⟨look vs,ab os⟩ (.own t)=match cX (ab os t) with|some r=>⟨look (vs.map fun x=>(x.1,F1 t r.1 r.2 x.2)),ab (KF t r.1 r.2 os)⟩|none=>⟨look vs,ab os⟩:=Cv vs os t
@[simp] theorem Tr (st:St) (p:PV):iQ st (.pv p)=st:=nr rfl
@[simp] theorem Qg (st:St) (t o:Nat):share1 st (.ptr t o)=st:=nr rfl
@[simp] theorem QM (st:St) (f:FuncId) (cs:List AV):share1 st (.bE f cs)=st:=nr rfl
@[simp] theorem Lj (st:St):cK st []=st:=nr rfl
@[simp] theorem I3 (st:St) (v:AV) (l:List AV):cK st (v::l)=cK (share1 st v) l:=nr rfl
@[simp] theorem sh2_own (e0:TypeId) (t s:Nat) (rows:List (List PV)):F1 t e0 rows (.own s)=if s=t then .pv (.ro rows) else .own s:=nr rfl
@[simp] theorem shC_own (e0:TypeId) (t s:Nat) (rows:List (List PV)):T4 t e0 rows (.own s)=if s=t then .pv (.ro rows) else .own s:=nr rfl
@[simp] theorem sh2_pv (e0:TypeId) (t:Nat) (rows:List (List PV)) (p:PV):F1 t e0 rows (.pv p)=.pv p:=nr rfl
@[simp] theorem sh2_ptr (e0:TypeId) (t s o:Nat) (rows:List (List PV)):F1 t e0 rows (.ptr s o)=.ptr s o:=nr rfl
@[simp] theorem sh2_agg (e0:TypeId) (t:Nat) (cs:List AV) (rows:List (List PV)):F1 t e0 rows (.agg cs)=.agg (sD t e0 rows cs):=nr rfl
@[simp] theorem sh2_clo (e0:TypeId) (t:Nat) (f:FuncId) (cs:List AV) (rows:List (List PV)):F1 t e0 rows (.bE f cs)=kill t (.bE f cs):=nr rfl
@[simp] theorem sh2_junk (e0:TypeId) (t:Nat) (rows:List (List PV)):F1 t e0 rows .aw=.aw:=nr rfl
@[simp] theorem Zk (t:Nat) (e0:TypeId) (rows:List (List PV)):sD t e0 rows []=[]:=nr rfl
@[simp] theorem SO (t:Nat) (e0:TypeId) (rows:List (List PV)) (c:AV) (cs:List AV):sD t e0 rows (c::cs)=T4 t e0 rows c::sD t e0 rows cs:=nr rfl
@[simp] theorem shC_pv (t:Nat) (e0:TypeId) (rows:List (List PV)) (p:PV):T4 t e0 rows (.pv p)=.pv p:=nr rfl
@[simp] theorem shO_box (t:Nat) (e0:TypeId) (rows:List (List PV)) (cs:List AV):I8 t e0 rows (.box cs)=.box (sD t e0 rows cs):=nr rfl
@[simp] theorem shO_arr (t:Nat) (e0:TypeId) (rows:List (List PV)) (e:TypeId) (rs:List (List PV)):I8 t e0 rows (.arr e rs)=.arr e rs:=nr rfl
@[simp] theorem shO_map (t:Nat) (e0:TypeId) (rows:List (List PV)) (es):I8 t e0 rows (.map es)=.map es:=nr rfl
@[simp] theorem shO_mpv (t:Nat) (e0:TypeId) (rows:List (List PV)) (es):I8 t e0 rows (.iB es)=.iB es:=nr rfl
@[simp] theorem frR_pv (p:PV):frR (.pv p)=frC (.pv p):=nr rfl
@[simp] theorem frC_bool (b:Bool):frC (.pv (.bool b))=false:=nr rfl
@[simp] theorem roR_tup (vs:List AV):ZR (.aO vs)=Fv vs:=nr rfl
@[simp] theorem roR_pv (p:PV):ZR (.pv p)=I4 (.pv p):=nr rfl
@[simp] theorem roR_fr (e:TypeId) (rows:List (List PV)):ZR (.fr e rows)=false:=nr rfl
@[simp] theorem aaa:Fv []=false:=nr rfl
@[simp] theorem U2 (c:AV) (cs:List AV):Fv (c::cs)=(Vf c||Fv cs):=nr rfl
@[simp] theorem YL:E7 []=false:=nr rfl
@[simp] theorem Tw (c:AV) (cs:List AV):E7 (c::cs)=(I4 c||E7 cs):=nr rfl
@[simp] theorem ro1_agg (cs:List AV):Vf (.agg cs)=E7 cs:=nr rfl
@[simp] theorem ro1_pv (p:PV):Vf (.pv p)=I4 (.pv p):=nr rfl
@[simp] theorem ro1_fr (e:TypeId) (rows:List (List PV)):Vf (.fr e rows)=false:=nr rfl
@[simp] theorem roC_ro (rows:List (List PV)):I4 (.pv (.ro rows))=true:=nr rfl
@[simp] theorem roC_int (k:IntKind) (n:Int):I4 (.pv (.int k n))=false:=nr rfl
@[simp] theorem roC_bool (b:Bool):I4 (.pv (.bool b))=false:=nr rfl
@[simp] theorem roC_str (l:List UInt8):I4 (.pv (.str l))=false:=nr rfl
@[simp] theorem roC_fr (e:TypeId) (rows:List (List PV)):I4 (.fr e rows)=false:=nr rfl
@[simp] theorem OE (aa:Nat→Option AO) (k t:Nat):gx aa k (.own t)=(cX (aa t)).map fun r=>(t,r.1,r.2):=nr rfl
@[simp] theorem markA_1 (e:TypeId) (rows:List (List PV)):wQ 998 e rows=.fr e rows:=nr rfl
@[simp] theorem markA_2 (e:TypeId) (rows:List (List PV)):wQ 999 e rows=.aO [.fr e rows]:=nr rfl
@[simp] theorem reisU_0 (aa:Nat→Option AO) (m v:AV) (vs:List AV):rM aa m 0 (v::vs)=(fJ aa vs).map (m::·):=nr rfl
@[simp] theorem puresU_0 (v:AV) (vs:List AV):jQ 0 (v::vs)=eT vs:=nr rfl
@[simp] theorem W7 (n:Nat) (r:AV) (e:TypeId) (rows:List (List PV)):b9 (.bE n [r,.fr e rows])=r:=nr rfl
@[simp] theorem outR_fr (e:TypeId) (rows:List (List PV)):b9 (.fr e rows)=.fr e rows:=nr rfl
@[simp] theorem XI (n:Nat) (r:AV) (e:TypeId) (rows:List (List PV)):ep (.bE n [r,.fr e rows])=[(999,.arr e rows)]:=nr rfl
@[simp] theorem outO_fr (e:TypeId) (rows:List (List PV)):ep (.fr e rows)=[]:=nr rfl
@[simp] theorem SY:pb []=True:=nr rfl
@[simp] theorem TV (t n:Nat) (r:AV) (e:TypeId) (rows:List (List PV)) (vars:Nat→AV):ie t (.bE n [r,.fr e rows]) vars=vars:=nr rfl
@[simp] theorem aaS (t:Nat) (e:TypeId) (rows:List (List PV)) (vars:Nat→AV):ie t (.fr e rows) vars=cE t vars:=nr rfl
@[simp] theorem TP (t n:Nat) (r:AV) (e:TypeId) (rows:List (List PV)) (aa:Nat→Option AO):cN t (.bE n [r,.fr e rows]) aa=aR t (.arr e rows) aa:=nr rfl
@[simp] theorem objsU_fr (t:Nat) (e:TypeId) (rows:List (List PV)) (aa:Nat→Option AO):cN t (.fr e rows) aa=gb t aa:=nr rfl
@[simp] theorem offVs_0 (t:Nat) (v:AV) (vs:List AV):lU t 0 (v::vs)=lU.nQ t vs:=nr rfl
@[simp] theorem RG (t:Nat):lU.nQ t []=True:=nr rfl
@[simp] theorem Nc (t:Nat) (v:AV) (vs:List AV):lU.nQ t (v::vs)=(uo t v∧lU.nQ t vs):=nr rfl
@[simp] theorem offV_clo (t:Nat) (f:FuncId) (cs:List AV):uo t (.bE f cs)=uI t cs:=nr rfl
@[simp] theorem offV_pv (t:Nat) (p:PV):uo t (.pv p)=True:=nr rfl
@[simp] theorem ZG (t s:Nat):uo t (.own s)=(s≠t):=nr rfl
@[simp] theorem Wz (t s o:Nat):qe t (.ptr s o)=(s≠t):=nr rfl
@[simp] theorem UE (t:Nat):uI t []=True:=nr rfl
@[simp] theorem Rf (t:Nat) (c:AV) (cs:List AV):uI t (c::cs)=(qe t c∧uI t cs):=nr rfl
@[simp] theorem Z1 (aa:Nat→Option AO) (e e1:TypeId) (zs:List Value) (t lo hi:Nat):B6 aa e zs (.sub t e1 lo hi)=(cX (aa t)).bind fun r=>if r.1=e∧e1=e then some (t,.arr e (r.2.take lo++List.replicate (hi-lo) (zs.map su)++r.2.drop hi)) else none:=nr rfl
attribute[simp] vu Hi Ib EW CI xF C1 Ei jt aT
@[simp] theorem look_nil (s:Nat):look [] s=.aw:=nr rfl
@[simp] theorem Ul (t:Nat) (v:AV) (l:List (Nat×AV)) (s:Nat):look ((t,v)::l) s=if s=t then v else look l s:=nr rfl
@[simp] theorem SE (s:Nat):ab [] s=none:=nr rfl
@[simp] theorem BS (t:Nat) (v:AO) (l:List (Nat×AO)) (s:Nat):ab ((t,v)::l) s=if s=t then some v else ab l s:=nr rfl
section
variable(vars:Nat→AV) (t:Nat)
@[simp] theorem ev_tmp:ev vars (.tmp t)=vars t:=nr rfl
@[simp] theorem ev_int (k:IntKind) (n:Int):ev vars (.const (.int k n))=.pv (.int k n):=nr rfl
@[simp] theorem ev_bool (b:Bool):ev vars (.const (.bool b))=.pv (.bool b):=nr rfl
@[simp] theorem ev_str (s:ByteArray):ev vars (.const (.string s))=.pv (.str s.data.toList):=nr rfl
@[simp] theorem ev_nil:ev vars (.const (.slice none 0 0))=.pv .nil:=nr rfl
@[simp] theorem ev_func (f:FuncId):ev vars (.func f)=.bE f []:=nr rfl
@[simp] theorem cv_int (k:IntKind) (n:Int):cv (.int k n)=.pv (.int k n):=nr rfl
@[simp] theorem cv_bool (b:Bool):cv (.bool b)=.pv (.bool b):=nr rfl
@[simp] theorem cv_str (s:ByteArray):cv (.string s)=.pv (.str s.data.toList):=nr rfl
@[simp] theorem cv_nil:cv (.slice none 0 0)=.pv .nil:=nr rfl
end
section
@[simp] theorem asks_pv (p:PV):asks (.pv p)=True:=nr rfl
@[simp] theorem asks_own (t:Nat):asks (.own t)=True:=nr rfl
@[simp] theorem asks_ptr (t o:Nat):asks (.ptr t o)=True:=nr rfl
@[simp] theorem UJ (t:Nat) (e:TypeId) (i:Int) (o:Nat):asks (.bd t e i o)=True:=nr rfl
@[simp] theorem asks_sub (t:Nat) (e:TypeId) (i o:Nat):asks (.sub t e i o)=True:=nr rfl
@[simp] theorem asks_rp (cs:List PV):asks (.rp cs)=True:=nr rfl
@[simp] theorem Zn (cs:List AV):asks (.agg cs)=True:=nr rfl
@[simp] theorem Zt (cs:List AV):asks (.aO cs)=True:=nr rfl
@[simp] theorem asks_clo (f:FuncId) (cs:List AV):asks (.bE f cs)=True:=nr rfl
@[simp] theorem Tv:asks .aw=True:=nr rfl
@[simp] theorem aac (g:Bool) (v:AV):asks (.cp g v)=(g=true∧asks v):=nr rfl
@[simp] theorem TX:aq []=True:=nr rfl
@[simp] theorem OK (v:AV) (l:List AV):aq (v::l)=(asks v∧aq l):=nr rfl
@[simp] theorem Xf (p:PV):strip (.pv p)=.pv p:=nr rfl
@[simp] theorem Ud (g:Bool) (v:AV):strip (.cp g v)=strip v:=nr rfl
@[simp] theorem VZ (t:Nat):strip (.own t)=(.own t):=nr rfl
@[simp] theorem T3 (t o:Nat):strip (.ptr t o)=(.ptr t o):=nr rfl
@[simp] theorem O6 (t:Nat) (e:TypeId) (i:Int) (o:Nat):strip (.bd t e i o)=(.bd t e i o):=nr rfl
@[simp] theorem Ui (t:Nat) (e:TypeId) (i o:Nat):strip (.sub t e i o)=(.sub t e i o):=nr rfl
@[simp] theorem strip_rp (cs:List PV):strip (.rp cs)=(.rp cs):=nr rfl
@[simp] theorem Um (cs:List AV):strip (.agg cs)=(.agg cs):=nr rfl
@[simp] theorem U7 (cs:List AV):strip (.aO cs)=(.aO cs):=nr rfl
@[simp] theorem SB (f:FuncId) (cs:List AV):strip (.bE f cs)=(.bE f cs):=nr rfl
@[simp] theorem PU:strip .aw=.aw:=nr rfl
@[simp] theorem V0 (b:Bool):bN (.pv (.bool b)) true=some b:=nr rfl
@[simp] theorem guardB_f (b:Bool):bN (.pv (.bool b)) false=some (!b):=nr rfl
@[simp] theorem guardB_c (c:Bool) (v:AV) (w:Bool):bN (.cp c v) w=s0 c (bN v w):=nr rfl
@[simp] theorem condB_t (o:Option Bool):s0 true o=o:=nr rfl
@[simp] theorem condB_f (o:Option Bool):s0 false o=some false:=nr rfl
@[simp] theorem condB_s (c b:Bool):s0 c (some b)=some (c&&b):=by cases c<;>rfl
@[simp] theorem hasJ_nil:eZ []=false:=nr rfl
@[simp] theorem TN (l:List AV):eZ (.aw::l)=true:=nr rfl
@[simp] theorem aaB (v:Value) (l:List AV):eZ (.pv (.val v)::l)=true:=nr rfl
@[simp] theorem Z9 (k:IntKind) (n:Int) (l:List AV):eZ (.pv (.int k n)::l)=eZ l:=nr rfl
@[simp] theorem Tb (b:Bool) (l:List AV):eZ (.pv (.bool b)::l)=eZ l:=nr rfl
@[simp] theorem aaR (b:List UInt8) (l:List AV):eZ (.pv (.str b)::l)=eZ l:=nr rfl
@[simp] theorem hasJ_ro (r:List (List PV)) (l:List AV):eZ (.pv (.ro r)::l)=eZ l:=nr rfl
@[simp] theorem XR (t:Nat) (l:List AV):eZ (.own t::l)=eZ l:=nr rfl
@[simp] theorem ZP (t o:Nat) (l:List AV):eZ (.ptr t o::l)=eZ l:=nr rfl
@[simp] theorem VP (t:Nat) (e:TypeId) (i:Int) (o:Nat) (l:List AV):eZ (.bd t e i o::l)=eZ l:=nr rfl
@[simp] theorem Xq (l:List AV):eZ (.rp []::l)=true:=nr rfl
@[simp] theorem hasJ_rp (c:PV) (cs:List PV) (l:List AV):eZ (.rp (c::cs)::l)=eZ l:=nr rfl
@[simp] theorem aab (cs:List AV) (l:List AV):eZ (.agg cs::l)=eZ l:=nr rfl
@[simp] theorem aaM (f:FuncId) (cs:List AV) (l:List AV):eZ (.bE f cs::l)=eZ l:=nr rfl
@[simp] theorem Yu (b:Bool):KA (some b)=!b:=by cases b<;>rfl
end
section
variable(op:BinOp) (k:IntKind) (a b:Int) (x y:List UInt8) (p q:Bool)
@[simp] theorem sbin_add:dE .add (.int k a) (.int k b)=some (True,.int k (k.wrap (a+b))):=by simp[dE]
@[simp] theorem Xs:dE .sub (.int k a) (.int k b)=some (True,.int k (k.wrap (a-b))):=by simp[dE]
@[simp] theorem Xt:dE .mul (.int k a) (.int k b)=some (True,.int k (k.wrap (a*b))):=by simp[dE]
@[simp] theorem XT:dE .quo (.int k a) (.int k b)=some (b≠0,.int k (k.wrap (a.tdiv b))):=by simp[dE]
@[simp] theorem ZJ:dE .rem (.int k a) (.int k b)=some (b≠0,.int k (a.tmod b)):=by simp[dE]
@[simp] theorem Yj:dE .eql (.int k a) (.int k b)=some (True,.bool (decide (a=b))):=by simp[dE]
@[simp] theorem sbin_neq:dE .neq (.int k a) (.int k b)=some (True,.bool (!decide (a=b))):=by simp[dE]
@[simp] theorem sbin_lss:dE .lss (.int k a) (.int k b)=some (True,.bool (decide (a<b))):=by simp[dE]
@[simp] theorem aaT:dE .leq (.int k a) (.int k b)=some (True,.bool (decide (a≤b))):=by simp[dE]
@[simp] theorem Ww:dE .gtr (.int k a) (.int k b)=some (True,.bool (decide (b<a))):=by simp[dE]
@[simp] theorem Xm:dE .geq (.int k a) (.int k b)=some (True,.bool (decide (b≤a))):=by simp[dE]
@[simp] theorem Yt:dE .and (.int k a) (.int k b)=some (True,gl .and k a b):=by simp[dE]
@[simp] theorem sbin_or:dE .or (.int k a) (.int k b)=some (True,gl .or k a b):=by simp[dE]
@[simp] theorem sbin_xor:dE .xor (.int k a) (.int k b)=some (True,gl .xor k a b):=by simp[dE]
@[simp] theorem sbin_shl (k':IntKind):dE .shl (.int k a) (.int k' b)=some (0≤b,.int k (k.wrap (a*2^(min b.toNat k.bits)))):=nr rfl
@[simp] theorem sbin_shr (k':IntKind):dE .shr (.int k a) (.int k' b)=some (0≤b,.int k (a.fdiv (2^(min b.toNat k.bits)))):=nr rfl
@[simp] theorem Vk:dE .eql (.str x) (.str y)=some (True,.bool (decide (x=y))):=nr rfl
@[simp] theorem U5:dE .neq (.str x) (.str y)=some (True,.bool (!decide (x=y))):=nr rfl
@[simp] theorem Uk:dE .lss (.str x) (.str y)=some (True,.bool (Op.bytesLess x y)):=nr rfl
@[simp] theorem T5:dE .gtr (.str x) (.str y)=some (True,.bool (!(Op.bytesLess x y||decide (x=y)))):=nr rfl
@[simp] theorem T7:dE .geq (.str x) (.str y)=some (True,.bool (!Op.bytesLess x y)):=nr rfl
end
@[simp↓] theorem X6 {P:Program}{Γ:bX}{aa:Nat→Option AO}{op:BinOp}:bf P Γ d (.bin op) xs aa C=(aq xs∧ai (al (.bin op) (xs.map strip) aa) fun x=>x.1∧C (.put x.2)):=rfl
@[simp↓] theorem YQ {P:Program}{Γ:bX}{aa:Nat→Option AO}{c:Bool}{op:BinOp}:cu P Γ c d (.bin op) xs aa C=ai (al (.bin op) (xs.map strip) aa) fun x=>(c=true→aq xs∧x.1)∧C (.put (.cp c x.2)):=rfl
@[simp↓] theorem Zu {P:Program}{Γ:bX}{aa:Nat→Option AO}:bf P Γ d (.beq ne) xs aa C=(aq xs∧ai (al (.beq ne) (xs.map strip) aa) fun x=>x.1∧C (.put x.2)):=rfl
@[simp↓] theorem WR {P:Program}{Γ:bX}{aa:Nat→Option AO}{c:Bool}:cu P Γ c d (.beq ne) xs aa C=ai (al (.beq ne) (xs.map strip) aa) fun x=>(c=true→aq xs∧x.1)∧C (.put (.cp c x.2)):=rfl
@[simp↓] theorem UD {P:Program}{Γ:bX}{aa:Nat→Option AO}:bf P Γ d .vD xs aa C=(aq xs∧ai (al .vD (xs.map strip) aa) fun x=>x.1∧C (.put x.2)):=rfl
@[simp↓] theorem Tk {P:Program}{Γ:bX}{aa:Nat→Option AO}{c:Bool}:cu P Γ c d .vD xs aa C=ai (al .vD (xs.map strip) aa) fun x=>(c=true→aq xs∧x.1)∧C (.put (.cp c x.2)):=rfl
@[simp↓] theorem ZO {P:Program}{Γ:bX}{aa:Nat→Option AO}:bf P Γ d (.eqs ne ks) xs aa C=(aq xs∧ai (al (.eqs ne ks) (xs.map strip) aa) fun x=>x.1∧C (.put x.2)):=rfl
@[simp↓] theorem semG_eqs {P:Program}{Γ:bX}{aa:Nat→Option AO}{c:Bool}:cu P Γ c d (.eqs ne ks) xs aa C=ai (al (.eqs ne ks) (xs.map strip) aa) fun x=>(c=true→aq xs∧x.1)∧C (.put (.cp c x.2)):=rfl
@[simp↓] theorem semK_mnx {P:Program}{Γ:bX}{aa:Nat→Option AO}{b:Bool}:bf P Γ d (.FX b) xs aa C=(aq xs∧ai (al (.FX b) (xs.map strip) aa) fun x=>x.1∧C (.put x.2)):=rfl
@[simp↓] theorem X7 {P:Program}{Γ:bX}{aa:Nat→Option AO}{c:Bool}{b:Bool}:cu P Γ c d (.FX b) xs aa C=ai (al (.FX b) (xs.map strip) aa) fun x=>(c=true→aq xs∧x.1)∧C (.put (.cp c x.2)):=rfl
@[simp↓] theorem UA {P:Program}{Γ:bX}{aa:Nat→Option AO}:bf P Γ d (.qZ e) xs aa C=(aq xs∧ai (al (.qZ e) (xs.map strip) aa) fun x=>x.1∧C (.put x.2)):=rfl
@[simp↓] theorem UL {P:Program}{Γ:bX}{aa:Nat→Option AO}{c:Bool}:cu P Γ c d (.qZ e) xs aa C=ai (al (.qZ e) (xs.map strip) aa) fun x=>(c=true→aq xs∧x.1)∧C (.put (.cp c x.2)):=rfl
@[simp↓] theorem VD {P:Program}{Γ:bX}{aa:Nat→Option AO}:bf P Γ d (.sE) xs aa C=(aq xs∧ai (al (.sE) (xs.map strip) aa) fun x=>x.1∧C (.put x.2)):=rfl
@[simp↓] theorem U6 {P:Program}{Γ:bX}{aa:Nat→Option AO}{c:Bool}:cu P Γ c d (.sE) xs aa C=ai (al (.sE) (xs.map strip) aa) fun x=>(c=true→aq xs∧x.1)∧C (.put (.cp c x.2)):=rfl
@[simp↓] theorem ZW {P:Program}{Γ:bX}{aa:Nat→Option AO}:bf P Γ d .Dq xs aa C=(aq xs∧ai (al .Dq (xs.map strip) aa) fun x=>x.1∧C (.put x.2)):=rfl
@[simp↓] theorem semG_scv {P:Program}{Γ:bX}{aa:Nat→Option AO}{c:Bool}:cu P Γ c d .Dq xs aa C=ai (al .Dq (xs.map strip) aa) fun x=>(c=true→aq xs∧x.1)∧C (.put (.cp c x.2)):=rfl
@[simp↓] theorem semK_not {P:Program}{Γ:bX}{aa:Nat→Option AO}:bf P Γ d .not xs aa C=(aq xs∧ai (al .not (xs.map strip) aa) fun x=>x.1∧C (.put x.2)):=rfl
@[simp↓] theorem XZ {P:Program}{Γ:bX}{aa:Nat→Option AO}{c:Bool}:cu P Γ c d .not xs aa C=ai (al .not (xs.map strip) aa) fun x=>(c=true→aq xs∧x.1)∧C (.put (.cp c x.2)):=rfl
@[simp↓] theorem semK_neg {P:Program}{Γ:bX}{aa:Nat→Option AO}:bf P Γ d .neg xs aa C=(aq xs∧ai (al .neg (xs.map strip) aa) fun x=>x.1∧C (.put x.2)):=rfl
@[simp↓] theorem semG_neg {P:Program}{Γ:bX}{aa:Nat→Option AO}{c:Bool}:cu P Γ c d .neg xs aa C=ai (al .neg (xs.map strip) aa) fun x=>(c=true→aq xs∧x.1)∧C (.put (.cp c x.2)):=rfl
@[simp↓] theorem WO {P:Program}{Γ:bX}{aa:Nat→Option AO}{k:IntKind}:bf P Γ d (.Cb k) xs aa C=(aq xs∧ai (al (.Cb k) (xs.map strip) aa) fun x=>x.1∧C (.put x.2)):=rfl
@[simp↓] theorem WL {P:Program}{Γ:bX}{aa:Nat→Option AO}{c:Bool}{k:IntKind}:cu P Γ c d (.Cb k) xs aa C=ai (al (.Cb k) (xs.map strip) aa) fun x=>(c=true→aq xs∧x.1)∧C (.put (.cp c x.2)):=rfl
@[simp↓] theorem Wm {P:Program}{Γ:bX}{aa:Nat→Option AO}:bf P Γ d .len xs aa C=(aq xs∧ai (al .len (xs.map strip) aa) fun x=>x.1∧C (.put x.2)):=rfl
@[simp↓] theorem semG_len {P:Program}{Γ:bX}{aa:Nat→Option AO}{c:Bool}:cu P Γ c d .len xs aa C=ai (al .len (xs.map strip) aa) fun x=>(c=true→aq xs∧x.1)∧C (.put (.cp c x.2)):=rfl
@[simp↓] theorem U4 {P:Program}{Γ:bX}{aa:Nat→Option AO}:bf P Γ d .vH xs aa C=(aq xs∧ai (al .vH (xs.map strip) aa) fun x=>x.1∧C (.put x.2)):=rfl
@[simp↓] theorem Th {P:Program}{Γ:bX}{aa:Nat→Option AO}{c:Bool}:cu P Γ c d .vH xs aa C=ai (al .vH (xs.map strip) aa) fun x=>(c=true→aq xs∧x.1)∧C (.put (.cp c x.2)):=rfl
@[simp↓] theorem aaW {P:Program}{Γ:bX}{aa:Nat→Option AO}{a b:Bool}:bf P Γ d (.KK a b) xs aa C=(aq xs∧ai (al (.KK a b) (xs.map strip) aa) fun x=>x.1∧C (.put x.2)):=rfl
@[simp↓] theorem WX {P:Program}{Γ:bX}{aa:Nat→Option AO}{c:Bool}{a b:Bool}:cu P Γ c d (.KK a b) xs aa C=ai (al (.KK a b) (xs.map strip) aa) fun x=>(c=true→aq xs∧x.1)∧C (.put (.cp c x.2)):=rfl
@[simp↓] theorem Zz {P:Program}{Γ:bX}{aa:Nat→Option AO}{o:Nat}{n:Option Nat}:bf P Γ d (.Iu o n) xs aa C=(aq xs∧ai (al (.Iu o n) (xs.map strip) aa) fun x=>x.1∧C (.put x.2)):=rfl
@[simp↓] theorem Wq {P:Program}{Γ:bX}{aa:Nat→Option AO}{c:Bool}{o:Nat}{n:Option Nat}:cu P Γ c d (.Iu o n) xs aa C=ai (al (.Iu o n) (xs.map strip) aa) fun x=>(c=true→aq xs∧x.1)∧C (.put (.cp c x.2)):=rfl
@[simp↓] theorem semK_fad {P:Program}{Γ:bX}{aa:Nat→Option AO}{o:Nat}:bf P Γ d (.sS o) xs aa C=(aq xs∧ai (al (.sS o) (xs.map strip) aa) fun x=>x.1∧C (.put x.2)):=rfl
@[simp↓] theorem semG_fad {P:Program}{Γ:bX}{aa:Nat→Option AO}{c:Bool}{o:Nat}:cu P Γ c d (.sS o) xs aa C=ai (al (.sS o) (xs.map strip) aa) fun x=>(c=true→aq xs∧x.1)∧C (.put (.cp c x.2)):=rfl
@[simp↓] theorem Uq {P:Program}{Γ:bX}{aa:Nat→Option AO}{n:Option Nat}:bf P Γ d (.load n) xs aa C=(aq xs∧ai (al (.load n) (xs.map strip) aa) fun x=>x.1∧C (.put x.2)):=rfl
@[simp↓] theorem Tm {P:Program}{Γ:bX}{aa:Nat→Option AO}{c:Bool}{n:Option Nat}:cu P Γ c d (.load n) xs aa C=ai (al (.load n) (xs.map strip) aa) fun x=>(c=true→aq xs∧x.1)∧C (.put (.cp c x.2)):=rfl
@[simp↓] theorem Xd {P:Program}{Γ:bX}{aa:Nat→Option AO}{s:Nat}:bf P Γ d (.DP e s) xs aa C=(aq xs∧ai (al (.DP e s) (xs.map strip) aa) fun x=>x.1∧C (.put x.2)):=rfl
@[simp↓] theorem WW {P:Program}{Γ:bX}{aa:Nat→Option AO}{e s:Nat}:bf P Γ d (.FY e s) xs aa C=(aq xs∧ai (al (.FY e s) (xs.map strip) aa) fun x=>x.1∧C (.put x.2)):=rfl
@[simp↓] theorem WA {P:Program}{Γ:bX}{aa:Nat→Option AO}:bf P Γ d .FH xs aa C=(aq xs∧ai (al .FH (xs.map strip) aa) fun x=>x.1∧C (.put x.2)):=rfl
@[simp↓] theorem Y8 {P:Program}{Γ:bX}{aa:Nat→Option AO}{c:Bool}{s:Nat}:cu P Γ c d (.DP e s) xs aa C=ai (al (.DP e s) (xs.map strip) aa) fun x=>(c=true→aq xs∧x.1)∧C (.put (.cp c x.2)):=rfl
@[simp↓] theorem ZM {P:Program}{Γ:bX}{aa:Nat→Option AO}{c:Bool}{e s:Nat}:cu P Γ c d (.FY e s) xs aa C=ai (al (.FY e s) (xs.map strip) aa) fun x=>(c=true→aq xs∧x.1)∧C (.put (.cp c x.2)):=rfl
@[simp↓] theorem ZC {P:Program}{Γ:bX}{aa:Nat→Option AO}{c:Bool}:cu P Γ c d .FH xs aa C=ai (al .FH (xs.map strip) aa) fun x=>(c=true→aq xs∧x.1)∧C (.put (.cp c x.2)):=rfl
@[simp↓] theorem aaA {P:Program}{Γ:bX}{aa:Nat→Option AO}{s:Nat}{a b:Bool}:bf P Γ d (.B5 s a b) xs aa C=(aq xs∧ai (al (.B5 s a b) (xs.map strip) aa) fun x=>x.1∧C (.put x.2)):=rfl
@[simp↓] theorem semG_slc {P:Program}{Γ:bX}{aa:Nat→Option AO}{c:Bool}{s:Nat}{a b:Bool}:cu P Γ c d (.B5 s a b) xs aa C=ai (al (.B5 s a b) (xs.map strip) aa) fun x=>(c=true→aq xs∧x.1)∧C (.put (.cp c x.2)):=rfl
@[simp↓] theorem semK_ext {P:Program}{Γ:bX}{aa:Nat→Option AO}:bf P Γ d (.ext i) xs aa C=(aq xs∧ai (al (.ext i) (xs.map strip) aa) fun x=>x.1∧C (.put x.2)):=rfl
@[simp↓] theorem XY {P:Program}{Γ:bX}{aa:Nat→Option AO}{c:Bool}:cu P Γ c d (.ext i) xs aa C=ai (al (.ext i) (xs.map strip) aa) fun x=>(c=true→aq xs∧x.1)∧C (.put (.cp c x.2)):=rfl
@[simp↓] theorem YR {P:Program}{Γ:bX}{aa:Nat→Option AO}:bf P Γ d (.I5 zs ps) xs aa C=(aq xs∧ai (al (.I5 zs ps) (xs.map strip) aa) fun x=>x.1∧C (.put x.2)):=rfl
@[simp↓] theorem semG_bld {P:Program}{Γ:bX}{aa:Nat→Option AO}{c:Bool}:cu P Γ c d (.I5 zs ps) xs aa C=ai (al (.I5 zs ps) (xs.map strip) aa) fun x=>(c=true→aq xs∧x.1)∧C (.put (.cp c x.2)):=rfl
@[simp↓] theorem YX {P:Program}{Γ:bX}{aa:Nat→Option AO}:bf P Γ d (.Jc f) xs aa C=(aq xs∧ai (al (.Jc f) (xs.map strip) aa) fun x=>x.1∧C (.put x.2)):=rfl
@[simp↓] theorem semG_mkf {P:Program}{Γ:bX}{aa:Nat→Option AO}{c:Bool}:cu P Γ c d (.Jc f) xs aa C=ai (al (.Jc f) (xs.map strip) aa) fun x=>(c=true→aq xs∧x.1)∧C (.put (.cp c x.2)):=rfl
@[simp↓] theorem Sy {P:Program}{Γ:bX}{aa:Nat→Option AO}:bf P Γ d (.gX e) xs aa C=ai d fun d=>aq xs∧ai (cG (.gX e) d (xs.map strip) aa) fun x=>x.1∧aa d=none∧C (.new x.2.1 [(d,x.2.2)]):=rfl
@[simp↓] theorem ZE {P:Program}{Γ:bX}{aa:Nat→Option AO}:bf P Γ d .box xs aa C=ai d fun d=>aq xs∧ai (cG .box d (xs.map strip) aa) fun x=>x.1∧aa d=none∧C (.new x.2.1 [(d,x.2.2)]):=rfl
@[simp↓] theorem OB {P:Program}{Γ:bX}{aa:Nat→Option AO}:bf P Γ d (.alloc zs) xs aa C=ai d fun d=>aq xs∧ai (cG (.alloc zs) d (xs.map strip) aa) fun x=>x.1∧aa d=none∧C (.new x.2.1 [(d,x.2.2)]):=rfl
@[simp↓] theorem YK {P:Program}{Γ:bX}{aa:Nat→Option AO}:bf P Γ d (.sJ e sz) xs aa C=ai d fun d=>aq xs∧ai (cG (.sJ e sz) d (xs.map strip) aa) fun x=>x.1∧aa d=none∧C (.new x.2.1 [(d,x.2.2)]):=rfl
@[simp↓] theorem VO {P:Program}{Γ:bX}{aa:Nat→Option AO}{c:Bool}:cu P Γ c d (.gX e) xs aa C=((c=true→bf P Γ d (.gX e) xs aa C)∧(c=false→C (.put .aw))):=rfl
@[simp↓] theorem X8 {P:Program}{Γ:bX}{aa:Nat→Option AO}{c:Bool}:cu P Γ c d .box xs aa C=((c=true→bf P Γ d .box xs aa C)∧(c=false→C (.put .aw))):=rfl
@[simp↓] theorem QW {P:Program}{Γ:bX}{aa:Nat→Option AO}{c:Bool}:cu P Γ c d (.alloc zs) xs aa C=((c=true→bf P Γ d (.alloc zs) xs aa C)∧(c=false→C (.put .aw))):=rfl
@[simp↓] theorem XB {P:Program}{Γ:bX}{aa:Nat→Option AO}{c:Bool}:cu P Γ c d (.sJ e sz) xs aa C=((c=true→bf P Γ d (.sJ e sz) xs aa C)∧(c=false→C (.put (A8 xs)))):=rfl
@[simp] theorem Yv (xs:List AV):A8 xs=GB (rowsOf (xs.map strip)):=nr rfl
@[simp] theorem Qc (rows:List (List PV)):GB (some rows)=.cp false (.pv (.ro rows)):=nr rfl
@[simp↓] theorem R0 {P:Program}{Γ:bX}{aa:Nat→Option AO}{c:Bool}{n:Option Nat}:cu P Γ c d (.store n) xs aa C=((c=true→bf P Γ d (.store n) xs aa C)∧(c=false→C (.put .aw))):=rfl
@[simp↓] theorem aa1 {P:Program}{Γ:bX}{aa:Nat→Option AO}{c:Bool}{z b:Nat}:cu P Γ c d (.app e z b) xs aa C=((c=true→bf P Γ d (.app e z b) xs aa C)∧(c=false→C (.put .aw))):=rfl
@[simp↓] theorem aa6 {P:Program}{Γ:bX}{aa:Nat→Option AO}{x:AV}:bf P Γ d .oO [x] aa C=C (.put x):=by simp[bf,ai]
@[simp↓] theorem aaf {P:Program}{Γ:bX}{c:Bool}{aa:Nat→Option AO}{x:AV}:cu P Γ c d .oO [x] aa C=C (.put (.cp c x)):=by simp[cu,ai]
@[simp↓] theorem qv {P:Program}{Γ:bX}{aa:Nat→Option AO}:bf P Γ d .pick xs aa C=ai (u9 xs) fun x=>x.1∧C (.put x.2):=rfl
@[simp↓] theorem wK {P:Program}{Γ:bX}{aa:Nat→Option AO}{c:Bool}:cu P Γ c d .pick xs aa C=ai (u9 xs) fun x=>(c=true→x.1)∧C (.put (.cp c x.2)):=rfl
@[simp↓] theorem Q6 {P:Program}{Γ:bX}{aa:Nat→Option AO}{n:Option Nat}:bf P Γ d (.store n) xs aa C=(aq xs∧ai (eM (.store n) (xs.map strip) aa) fun x=>x.1∧C (.wo x.2.1 x.2.2)):=rfl
@[simp↓] theorem JV {P:Program}{Γ:bX}{aa:Nat→Option AO}{x:AV}{t:Nat}{z b:Nat}:bf P Γ d (.app e z b) [.own t,x] aa C=(aq [.own t,x]∧ai (eM (.app e z b) [.own t,strip x] aa) fun x=>x.1∧C (.app x.2.1 x.2.2)):=rfl
@[simp↓] theorem KB {P:Program}{Γ:bX}{aa:Nat→Option AO}{x:AV}{z b:Nat}:bf P Γ d (.app e z b) [.pv .nil,x] aa C=(aq [.pv .nil,x]∧ai d fun d=>ai (cG (.app e z b) d [.pv .nil,strip x] aa) fun x=>x.1∧aa d=none∧C (.new x.2.1 [(d,x.2.2)])):=rfl
@[simp↓] theorem VQ {P:Program}{Γ:bX}{aa:Nat→Option AO}:bf P Γ d (.call f) xs aa C=cH P Γ d f xs aa C:=rfl
@[simp↓] theorem U9 {P:Program}{Γ:bX}{aa:Nat→Option AO}{c:Bool}:cu P Γ c d (.call f) xs aa C=ai (fJ aa (xs.map strip)) fun ys=>ai (gt Γ f ys) fun x=>if(!pP x.2&&(Bz x.2).isEmpty)=true then(c=true→aq xs∧x.1)∧flat x.2∧Bz x.2=[]∧cY x.2=true∧C (.put (.cp c x.2)) else(c=true→cH P Γ d f xs aa C)∧(c=false→C (.put (.cp false (Ps x.2)))):=rfl
@[simp] theorem unfr_fr (e:TypeId) (rows:List (List PV)):Ps (.fr e rows)=.pv (.ro rows):=nr rfl
@[simp↓] theorem Z8 {Γ:bX}{aa:Nat→Option AO}{c:Bool}:Bm Γ c f xs aa C=ai (fJ aa (xs.map strip)) fun ys=>ai (gt Γ f ys) fun x=>(c=true→aq xs∧x.1)∧flat x.2∧Bz x.2=[]∧cY x.2=true∧C (.put (.cp c x.2)):=rfl
section
variable{aa:Nat→Option AO}
@[simp] theorem idxO_arr (e:TypeId) (rows:List (List PV)):Cg (some (.arr e rows))=some (e,rows.length):=nr rfl
@[simp] theorem U3 (e e':TypeId) (i:Int) (o:Nat) (rows:List (List PV)):mr e i o (some (.arr e' rows))=if e'=e then some (0≤i∧i<rows.length∧o<(rowAt rows i).length,.pv ((rowAt rows i).getD o (.int .u8 0))) else none:=nr rfl
@[simp] theorem ZT (es:List (PV×PV)):cX (some (.iB es))=none:=nr rfl
@[simp] theorem TE (e:TypeId) (rows:List (List PV)):cX (some (.arr e rows))=some (e,rows):=nr rfl
@[simp] theorem TA (cs:List AV):eY (some (.box cs))=some cs:=nr rfl
@[simp] theorem boolOf_b (c:Bool):jd (.pv (.bool c))=some c:=nr rfl
@[simp] theorem apick_eq (c a b:AV):u9 [c,a,b]=(jd (strip c)).bind fun g=>(qP (asks a) (asks b) g (strip a) (strip b)).map fun r=>(asks c∧r.1,r.2):=nr rfl
@[simp] theorem Vi (φ ψ:Prop) (c x y:Bool):qP φ ψ c (.pv (.bool x)) (.pv (.bool y))=some ((c=true→φ)∧(c=false→ψ),.pv (.bool (cond c x y))):=nr rfl
@[simp] theorem VT (φ ψ:Prop) (c x:Bool):qP φ ψ c (.pv (.bool x)) .aw=some (c=true∧φ,.pv (.bool x)):=nr rfl
@[simp] theorem S7 (φ ψ:Prop) (c y:Bool):qP φ ψ c .aw (.pv (.bool y))=some (c=false∧ψ,.pv (.bool y)):=nr rfl
@[simp] theorem bounds10 (n:Nat) (k:IntKind) (l:Int):bounds n true false [.pv (.int k l)]=some (l,(n:Int)):=nr rfl
@[simp] theorem bounds01 (n:Nat) (k:IntKind) (h:Int):bounds n false true [.pv (.int k h)]=some (0,h):=nr rfl
@[simp] theorem semQ_bin (op:BinOp) (x y:PV):al (.bin op) [.pv x,.pv y] aa=(dE op x y).map fun r=>(r.1,.pv r.2):=nr rfl
@[simp] theorem aam (ne x y:Bool):al (.beq ne) [.pv (.bool x),.pv (.bool y)] aa=some (True,.pv (.bool (if ne then x !=y else x==y))):=nr rfl
@[simp] theorem Zd (b:Bool):al .not [.pv (.bool b)] aa=some (True,.pv (.bool (!b))):=nr rfl
@[simp] theorem semQ_neg (k:IntKind) (n:Int):al .neg [.pv (.int k n)] aa=some (True,.pv (.int k (k.wrap (0-n)))):=nr rfl
@[simp] theorem semQ_cvi (k k':IntKind) (n:Int):al (.Cb k) [.pv (.int k' n)] aa=some (True,.pv (.int k (k.wrap n))):=nr rfl
@[simp] theorem YE (ne:Bool) (ks:List Nat) (xs ys:List AV):al (.eqs ne ks) [.agg xs,.agg ys] aa=(fc xs).bind fun a=>(fc ys).map fun b=>(a.map dB=ks∧b.map dB=ks,.pv (.bool (if ne then !ju a b else ju a b))):=nr rfl
@[simp] theorem Xw:ju [] []=true:=nr rfl
@[simp] theorem Td (a b:PV) (l m:List PV):ju (a::l) (b::m)=(mU a b&&ju l m):=nr rfl
@[simp] theorem eqP_int (k k':IntKind) (a b:Int):mU (.int k a) (.int k' b)=decide (a=b):=nr rfl
@[simp] theorem eqP_str (a b:List UInt8):mU (.str a) (.str b)=decide (a=b):=nr rfl
@[simp] theorem eqP_bool (a b:Bool):mU (.bool a) (.bool b)=decide (a=b):=nr rfl
@[simp] theorem XL (k:IntKind) (a b:Int):al (.FX true) [.pv (.int k a),.pv (.int k b)] aa=some (True,.pv (.int k (max a b))):=by simp[al]
@[simp] theorem Uw (x:AV):al .sE [x] aa=(fx aa x).bind fun rows=>(bytesOf rows).map fun l=>(True,.pv (.str l)):=nr rfl
@[simp] theorem Z0 (rows:List (List PV)):fx aa (.pv (.ro rows))=some rows:=nr rfl
@[simp] theorem Tj (t:Nat):fx aa (.own t)=(cX (aa t)).map (·.2):=nr rfl
@[simp] theorem JA (l:List UInt8):al .vD [.pv (.str l)] aa=some (True,.pv (.int .i64 l.length)):=nr rfl
@[simp] theorem JW:al .len [.pv .nil] aa=some (True,.pv (.int .i64 0)):=nr rfl
@[simp] theorem NX (rows:List (List PV)):al .len [.pv (.ro rows)] aa=some (True,.pv (.int .i64 rows.length)):=nr rfl
@[simp] theorem Kn (t:Nat):al .len [.own t] aa=(Cg (aa t)).map fun r=>(True,.pv (.int .i64 r.2)):=nr rfl
@[simp] theorem J8 (t:Nat) (e:TypeId) (lo hi:Nat):al .len [.sub t e lo hi] aa=(cX (aa t)).map fun _=>(True,.pv (.int .i64 ((hi:Int)-(lo:Int)))):=nr rfl
@[simp] theorem Ur (l:List UInt8) (k:IntKind) (i:Int):al .vH [.pv (.str l),.pv (.int k i)] aa=some (0≤i∧i<l.length,.pv (.int .u8 ((l.getD i.toNat 0).toNat:Int))):=nr rfl
@[simp] theorem semQ_slc (sz:Nat) (lo hi:Bool) (rows:List (List PV)) (bs:List AV):al (.B5 sz lo hi) (.pv (.ro rows)::bs) aa=(bounds rows.length lo hi bs).map fun b:Int×Int=>(0≤b.1∧b.1≤b.2∧b.2≤(rows.length:Int)∧(∀r∈rows,r.length=sz),.pv (.ro (cut rows b.1 b.2))):=by unfold al;rfl
@[simp] theorem JK (off t o:Nat):al (.sS off) [.ptr t o] aa=some (True,.ptr t (o+off)):=nr rfl
@[simp] theorem Jb (off t o:Nat) (e:TypeId) (i:Int):al (.sS off) [.bd t e i o] aa=some (True,.bd t e i (o+off)):=nr rfl
@[simp] theorem Mh (off:Nat) (cs:List PV):al (.sS off) [.rp cs] aa=some (True,.rp (cs.drop off)):=nr rfl
@[simp] theorem JG (n sz t o:Nat) (k:IntKind) (i:Int):al (.FY n sz) [.ptr t o,.pv (.int k i)] aa=some (0≤i∧i<(n:Int),.ptr t (o+i.toNat*sz)):=nr rfl
@[simp] theorem MN (n sz:Nat) (cs:List PV) (k:IntKind) (i:Int):al (.FY n sz) [.rp cs,.pv (.int k i)] aa=some (0≤i∧i<(n:Int),.rp (cs.drop (i.toNat*sz))):=nr rfl
@[simp] theorem K5 (t o:Nat):al .FH [.ptr t o] aa=some (True,.ptr t o):=nr rfl
@[simp] theorem ME (cs:List PV):al .FH [.rp cs] aa=some (True,.rp cs):=nr rfl
@[simp] theorem Je (t o:Nat):al (.load none) [.ptr t o] aa=(eY (aa t)).bind fun cs=>(cs[o]?).bind fun c=>if mH c=true then some (True,c) else none:=nr rfl
@[simp] theorem ZA (p:PV):mH (.pv p)=true:=nr rfl
@[simp] theorem Ty (t:Nat):mH (.own t)=true:=nr rfl
@[simp] theorem Il (n t o:Nat):al (.load (some n)) [.ptr t o] aa=(eY (aa t)).bind fun cs=>if o+n≤cs.length then some (True,.agg ((cs.drop o).take n)) else none:=nr rfl
@[simp] theorem GC (t o:Nat) (e:TypeId) (i:Int):al (.load none) [.bd t e i o] aa=mr e i o (aa t):=nr rfl
@[simp] theorem F0 (n t o:Nat) (e:TypeId) (i:Int):al (.load (some n)) [.bd t e i o] aa=(cX (aa t)).bind fun r=>if r.1=e∧o+n≤(rowAt r.2 i).length then some (0≤i∧i<r.2.length,.agg ((((rowAt r.2 i).drop o).take n).map .pv)) else none:=nr rfl
@[simp] theorem Js (c:PV) (cs:List PV):al (.load none) [.rp (c::cs)] aa=some (True,.pv c):=nr rfl
@[simp] theorem Ja:al (.load none) [.rp []] aa=some (False,.pv (.int .u64 0)):=nr rfl
@[simp] theorem Jf (n:Nat) (cs:List PV):al (.load (some n)) [.rp cs] aa=(if n≤cs.length then some (True,.agg ((cs.take n).map .pv)) else none):=nr rfl
@[simp] theorem MF (e:TypeId) (sz:Nat) (rows:List (List PV)) (k:IntKind) (i:Int):al (.DP e sz) [.pv (.ro rows),.pv (.int k i)] aa=some (0≤i∧i<rows.length∧(rowAt rows i).length=sz,.rp (rowAt rows i)):=nr rfl
@[simp] theorem LG (e:TypeId) (sz t:Nat) (k:IntKind) (i:Int):al (.DP e sz) [.own t,.pv (.int k i)] aa=(Cg (aa t)).bind fun r=>if r.1=e then some (0≤i∧i<r.2,.bd t e i 0) else none:=nr rfl
@[simp] theorem LS (e e1:TypeId) (sz t lo hi:Nat) (k:IntKind) (i:Int):al (.DP e sz) [.sub t e1 lo hi,.pv (.int k i)] aa=(cX (aa t)).bind fun r=>if r.1=e∧e1=e then some (0≤i∧i<(hi:Int)-(lo:Int),.bd t e ((lo:Int)+i) 0) else none:=nr rfl
@[simp] theorem Jk (sz:Nat) (lo hi:Bool) (bs:List AV):al (.B5 sz lo hi) (.pv .nil::bs) aa=(bounds 0 lo hi bs).map fun b:Int×Int=>(b.1=0∧b.2=0,.pv .nil):=nr rfl
@[simp] theorem KM (sz t:Nat) (lo hi:Bool) (bs:List AV):al (.B5 sz lo hi) (.own t::bs) aa=(cX (aa t)).bind fun r=>(bounds r.2.length lo hi bs).map fun b:Int×Int=>(0≤b.1∧b.1≤b.2∧b.2≤(r.2.length:Int)∧(∀x∈r.2,x.length=sz),.sub t r.1 b.1.toNat b.2.toNat):=nr rfl
@[simp] theorem aaX (i:Nat) (vs:List AV):al (.ext i) [.aO vs] aa=(vs[i]?).map fun v=>(True,v):=nr rfl
@[simp] theorem ZD (zs:List Value) (ps:List (Nat×Nat)) (xs:List AV):al (.I5 zs ps) xs aa=(kW (zs.map cv) ps xs).map fun cs=>(True,.agg cs):=by unfold al;rfl
@[simp] theorem Ws (f:FuncId) (xs:List AV):al (.Jc f) xs aa=some (True,.bE f xs):=by unfold al;rfl
@[simp] theorem SI (e:TypeId) (d:Nat) (xs:List AV):cG (.gX e) d xs aa=some (True,.own d,.arr e []):=by unfold cG;rfl
@[simp] theorem ZB (d:Nat) (x:AV):cG .box d [x] aa=(if fB (cellsOf x) then some (True,.ptr d 0,.box (cellsOf x)) else none):=nr rfl
@[simp] theorem Rv (d:Nat) (zs:List Value) (xs:List AV):cG (.alloc zs) d xs aa=(if zs.all (·.oneCell') then some (True,.ptr d 0,.box (zs.map cv)) else none):=by unfold cG;rfl
@[simp] theorem Ya (e:TypeId) (sz d:Nat) (xs:List AV):cG (.sJ e sz) d xs aa=(rowsOf xs).map fun rows=>(∀r∈rows,r.length=sz,.own d,.arr e rows):=by unfold cG;rfl
@[simp] theorem Za (e:TypeId) (sz bytes d:Nat) (x:AV):cG (.app e sz bytes) d [.pv .nil,x] aa=(cT aa x).map fun rows=>(rows.length*bytes≤140737488355328∧rows.length≤maxLen∧(∀r∈rows,r.length=sz),.own d,.arr e rows):=nr rfl
@[simp] theorem Ge (t o:Nat) (v:AV):eM (.store none) [.ptr t o,v] aa=(eY (aa t)).bind fun cs=>if ez v∧o<cs.length then some (True,t,.box (cs.set o v)) else none:=nr rfl
@[simp] theorem FW (n t o:Nat) (vs:List AV):eM (.store (some n)) [.ptr t o,.agg vs] aa=(eY (aa t)).bind fun cs=>if fB vs∧vs.length=n∧o+n≤cs.length then some (True,t,.box (bY cs o vs)) else none:=nr rfl
@[simp] theorem FZ (t o:Nat) (e:TypeId) (i:Int) (p:PV):eM (.store none) [.bd t e i o,.pv p] aa=(cX (aa t)).bind fun r=>if r.1=e∧o<(rowAt r.2 i).length∧ez (.pv p) then some (0≤i∧i<r.2.length,t,.arr e (r.2.set i.toNat ((rowAt r.2 i).set o p))) else none:=nr rfl
@[simp] theorem Fs (n t o:Nat) (e:TypeId) (i:Int) (vs:List AV):eM (.store (some n)) [.bd t e i o,.agg vs] aa=(cX (aa t)).bind fun r=>(fc vs).bind fun ps=>if r.1=e∧fB vs∧ps.length=n∧o+n≤(rowAt r.2 i).length then some (0≤i∧i<r.2.length,t,.arr e (r.2.set i.toNat (bY (rowAt r.2 i) o ps))) else none:=nr rfl
@[simp] theorem semM_app (e:TypeId) (sz bytes t:Nat) (x:AV):eM (.app e sz bytes) [.own t,x] aa=(cX (aa t)).bind fun r=>(cT aa x).bind fun more=>if r.1=e∧t%1000≠999 then some ((r.2.length+more.length)*bytes≤140737488355328∧r.2.length+more.length≤maxLen∧(∀r∈more,r.length=sz),t,.arr e (r.2++more)) else none:=nr rfl
@[simp] theorem pvOf_pv (p:PV):FQ (.pv p)=some p:=nr rfl
@[simp] theorem SG:fc []=some []:=nr rfl
@[simp] theorem P7 (v:AV) (l:List AV):fc (v::l)=(FQ v).bind fun p=>(fc l).map (p::·):=nr rfl
@[simp] theorem rowOf_pv (p:PV):rowOf (.pv p)=some [p]:=nr rfl
@[simp] theorem TH (cs:List AV):rowOf (.agg cs)=fc cs:=nr rfl
@[simp] theorem OW:rowsOf []=some []:=nr rfl
@[simp] theorem Nz (v:AV) (l:List AV):rowsOf (v::l)=(rowOf v).bind fun p=>(rowsOf l).map (p::·):=nr rfl
@[simp] theorem Oc (cs:List AV):cellsOf (.agg cs)=cs:=nr rfl
@[simp] theorem OL (p:PV):cellsOf (.pv p)=[.pv p]:=nr rfl
@[simp] theorem MU (t:Nat):cellsOf (.own t)=[.own t]:=nr rfl
@[simp] theorem Q2 (cs:List AV):kW cs [] []=some cs:=nr rfl
@[simp] theorem Mf (cs:List AV) (off n:Nat) (ps:List (Nat×Nat)) (x:AV) (xs:List AV):kW cs ((off,n)::ps) (x::xs)=if mG x=true∧(cellsOf x).length=n∧off+n≤cs.length then kW (lay cs off ((cellsOf x).map qx)) ps xs else none:=nr rfl
@[simp] theorem nrmF_pv (p:PV):qx (.pv p)=.pv p:=nr rfl
@[simp] theorem nrmF_own (t:Nat):qx (.own t)=.own t:=nr rfl
@[simp] theorem XE (f:FuncId):qx (.bE f [])=.pv (.val (.func (.func f) #[] #[])):=nr rfl
@[simp] theorem SC (rows:List (List PV)):cT aa (.pv (.ro rows))=some rows:=nr rfl
@[simp] theorem PA (l:List UInt8):cT aa (.pv (.str l))=some (bytesRow l):=nr rfl
@[simp] theorem Qz (t:Nat):cT aa (.own t)=(cX (aa t)).map (·.2):=nr rfl
@[simp] theorem aaI:eN aa (.pv .nil)=some (.ro []):=nr rfl
@[simp] theorem WU (k:IntKind) (n:Int):eN aa (.pv (.int k n))=some (.int k n):=nr rfl
@[simp] theorem Ss (b:Bool):eN aa (.pv (.bool b))=some (.bool b):=nr rfl
@[simp] theorem reiP_str (l:List UInt8):eN aa (.pv (.str l))=some (.str l):=nr rfl
@[simp] theorem reiP_ro (rows:List (List PV)):eN aa (.pv (.ro rows))=some (.ro rows):=nr rfl
@[simp] theorem aai (t:Nat):eN aa (.own t)=Fy (aa t):=nr rfl
@[simp] theorem Xr (e:TypeId) (rows:List (List PV)):Fy (some (.arr e rows))=some (.ro rows):=nr rfl
@[simp] theorem reiO_map (es:List (PV×AV)):Fy (some (.map es))=if es.all (fun e=>DF e.2)=true then some (.mp (es.map (·.1))) else none:=nr rfl
@[simp] theorem UQ:wB (.agg #[])=true:=nr rfl
@[simp] theorem VW:ic aa []=some []:=nr rfl
@[simp] theorem Oy (c:AV) (cs:List AV):ic aa (c::cs)=(eN aa c).bind fun p=>(ic aa cs).map (p::·):=nr rfl
@[simp] theorem rei1_ptr (t o:Nat):fv aa (.ptr t o)=(eY (aa t)).bind fun cs=>(ic aa (cs.drop o)).map .rp:=nr rfl
@[simp] theorem rei1_rp (cs:List PV):fv aa (.rp cs)=some (.rp cs):=nr rfl
@[simp] theorem TY:ly aa []=some []:=nr rfl
@[simp] theorem Q3 (c:AV) (cs:List AV):ly aa (c::cs)=(fv aa c).bind fun p=>(ly aa cs).map (p::·):=nr rfl
@[simp] theorem rei_clo (f:FuncId) (caps:List AV):pf aa (.bE f caps)=(ly aa caps).map (.bE f):=nr rfl
@[simp] theorem rei_ptr (t o:Nat):pf aa (.ptr t o)=fv aa (.ptr t o):=nr rfl
@[simp] theorem rei_rp (cs:List PV):pf aa (.rp cs)=some (.rp cs):=nr rfl
@[simp] theorem rei_agg (cs:List AV):pf aa (.agg cs)=(ic aa cs).map fun ps=>.agg (ps.map .pv):=nr rfl
@[simp] theorem rei_pv (p:PV):pf aa (.pv p)=(eN aa (.pv p)).map .pv:=nr rfl
@[simp] theorem rei_own (t:Nat):pf aa (.own t)=(eN aa (.own t)).map .pv:=nr rfl
@[simp] theorem XQ:fJ aa []=some []:=nr rfl
@[simp] theorem VY (c:AV) (cs:List AV):fJ aa (c::cs)=(pf aa c).bind fun p=>(fJ aa cs).map (p::·):=nr rfl
@[simp] theorem WD (p:PV):gJ (.pv p)=true:=nr rfl
@[simp] theorem pureC_rp (cs:List PV):gJ (.rp cs)=true:=nr rfl
@[simp] theorem Uy (t:Nat):gJ (.own t)=false:=nr rfl
@[simp] theorem Sq (t o:Nat):gJ (.ptr t o)=false:=nr rfl
@[simp] theorem Pt:gZ []=true:=nr rfl
@[simp] theorem NR (c:AV) (cs:List AV):gZ (c::cs)=(gJ c&&gZ cs):=nr rfl
@[simp] theorem Vy (cs:List AV):eC (.agg cs)=gZ cs:=nr rfl
@[simp] theorem TG (f:FuncId) (cs:List AV):eC (.bE f cs)=gZ cs:=nr rfl
@[simp] theorem Wt (p:PV):eC (.pv p)=true:=nr rfl
@[simp] theorem YZ (cs:List PV):eC (.rp cs)=true:=nr rfl
@[simp] theorem Sz (t:Nat):eC (.own t)=false:=nr rfl
@[simp] theorem Tf (t o:Nat):eC (.ptr t o)=false:=nr rfl
@[simp] theorem TF:eT []=true:=nr rfl
@[simp] theorem QF (c:AV) (cs:List AV):eT (c::cs)=(eC c&&eT cs):=nr rfl
@[simp] theorem one_int (k:IntKind) (n:Int):ez (.pv (.int k n))=true:=nr rfl
@[simp] theorem YH (b:Bool):ez (.pv (.bool b))=true:=nr rfl
@[simp] theorem one_str (l:List UInt8):ez (.pv (.str l))=true:=nr rfl
@[simp] theorem one_nil:ez (.pv .nil)=true:=nr rfl
@[simp] theorem one_ro (rows:List (List PV)):ez (.pv (.ro rows))=true:=nr rfl
@[simp] theorem one_own (t:Nat):ez (.own t)=true:=nr rfl
@[simp] theorem X4:fB []=true:=nr rfl
@[simp] theorem VJ (c:AV) (cs:List AV):fB (c::cs)=(ez c&&fB cs):=nr rfl
@[simp] theorem QI (cs:List AV):mG (.agg cs)=true:=nr rfl
@[simp] theorem TR (p:PV):mG (.pv p)=ez (.pv p):=nr rfl
@[simp] theorem OC (t:Nat):mG (.own t)=true:=nr rfl
@[simp] theorem Vt (t s:Nat):cj t (.own s)=if s=t then .aw else .own s:=nr rfl
@[simp] theorem killC_pv (t:Nat) (p:PV):cj t (.pv p)=.pv p:=nr rfl
@[simp] theorem Pm (t:Nat):b7 t []=[]:=nr rfl
@[simp] theorem Nn (t:Nat) (c:AV) (cs:List AV):b7 t (c::cs)=cj t c::b7 t cs:=nr rfl
@[simp] theorem aau (t:Nat) (cs:List AV):kill t (.agg cs)=.agg (b7 t cs):=nr rfl
@[simp] theorem Yk (t s:Nat):kill t (.own s)=if s=t then .aw else .own s:=nr rfl
@[simp] theorem qq (t s:Nat) (e:TypeId) (i:Int) (o:Nat):kill t (.bd s e i o)=if s=t then .aw else .bd s e i o:=nr rfl
@[simp] theorem kill_pv (t:Nat) (p:PV):kill t (.pv p)=.pv p:=nr rfl
@[simp] theorem uq (t s o:Nat):kill t (.ptr s o)=.ptr s o:=nr rfl
@[simp] theorem yp (t:Nat) (cs:List PV):kill t (.rp cs)=.rp cs:=nr rfl
@[simp] theorem UG (t:Nat):kill t .aw=.aw:=nr rfl
@[simp] theorem Wo (t:Nat) (f:FuncId) (c:AV) (cs:List AV):kill t (.bE f (c::cs))=.aw:=nr rfl
@[simp] theorem Vv (t:Nat) (f:FuncId):kill t (.bE f [])=.bE f []:=nr rfl
@[simp] theorem Tu (t:Nat) (cs:List AV):dY t (.box cs)=.box (b7 t cs):=nr rfl
@[simp] theorem VV (t:Nat) (e:TypeId) (rows:List (List PV)):dY t (.arr e rows)=.arr e rows:=nr rfl
@[simp] theorem S4 (g:Nat→AV→AV) (j:Nat):fZ g j []=[]:=nr rfl
@[simp] theorem On (g:Nat→AV→AV) (j:Nat) (c:AV) (cs:List AV):fZ g j (c::cs)=g (1000*j) c::fZ g (j+1) cs:=nr rfl
@[simp] theorem map1_agg (g:Nat→AV→AV) (cs:List AV):nt g (.agg cs)=.agg (fZ g 0 cs):=nr rfl
@[simp] theorem map1_pv (g:Nat→AV→AV) (p:PV):nt g (.pv p)=g 0 (.pv p):=nr rfl
@[simp] theorem map1_fr (g:Nat→AV→AV) (e:TypeId) (rows:List (List PV)):nt g (.fr e rows)=g 0 (.fr e rows):=nr rfl
@[simp] theorem SD (g:Nat→AV→AV) (i:Nat):jq g i []=[]:=nr rfl
@[simp] theorem Ol (g:Nat→AV→AV) (i:Nat) (v:AV) (vs:List AV):jq g i (v::vs)=nt (fun p c=>g (p+i) c) v::jq g (i+1) vs:=nr rfl
@[simp] theorem RR (g:Nat→AV→AV) (vs:List AV):cS g (.aO vs)=.aO (jq g 0 vs):=nr rfl
@[simp] theorem UI (g:Nat→AV→AV) (p:PV):cS g (.pv p)=g 0 (.pv p):=nr rfl
@[simp] theorem Vd (g:Nat→AV→AV) (e:TypeId) (rows:List (List PV)):cS g (.fr e rows)=g 0 (.fr e rows):=nr rfl
@[simp] theorem Rw (g:Nat→AV→AV) (cs:List AV):cS g (.agg cs)=.agg (fZ g 0 cs):=nr rfl
@[simp] theorem tagC_fr (d p:Nat) (e:TypeId) (rows:List (List PV)):lP d p (.fr e rows)=.own (d+1000*p):=nr rfl
@[simp] theorem tagC_pv (d p:Nat) (q:PV):lP d p (.pv q)=.pv q:=nr rfl
@[simp 1100] theorem WB (d p:Nat) (o:AO) (l:List (Nat×AO)):List.map (fun x:Nat×AO=>(d+1000*x.1,x.2)) ((p,o)::l)=(d+1000*p,o)::List.map (fun x:Nat×AO=>(d+1000*x.1,x.2)) l:=nr rfl
@[simp] theorem Vb (j:Nat):fY j []=[]:=nr rfl
@[simp] theorem frsCs_fr (j:Nat) (e:TypeId) (rows:List (List PV)) (cs:List AV):fY j (.fr e rows::cs)=(1000*j,.arr e rows)::fY (j+1) cs:=nr rfl
@[simp] theorem frsCs_pv (j:Nat) (p:PV) (cs:List AV):fY j (.pv p::cs)=fY (j+1) cs:=nr rfl
@[simp] theorem frs1_agg (cs:List AV):lJ (.agg cs)=fY 0 cs:=nr rfl
@[simp] theorem frs1_fr (e:TypeId) (rows:List (List PV)):lJ (.fr e rows)=[(0,.arr e rows)]:=nr rfl
@[simp] theorem frs1_pv (p:PV):lJ (.pv p)=[]:=nr rfl
@[simp] theorem TI (i:Nat):mL i []=[]:=nr rfl
@[simp] theorem Pc (i:Nat) (v:AV) (vs:List AV):mL i (v::vs)=(lJ v).map (fun x=>(x.1+i,x.2))++mL (i+1) vs:=nr rfl
@[simp] theorem resC_pv (p:PV):iL (.pv p)=true:=nr rfl
@[simp] theorem resC_fr (e:TypeId) (rows:List (List PV)):iL (.fr e rows)=true:=nr rfl
@[simp] theorem U0:lX []=true:=nr rfl
@[simp] theorem QN (c:AV) (cs:List AV):lX (c::cs)=(iL c&&lX cs):=nr rfl
@[simp] theorem aaD (cs:List AV):mn (.agg cs)=lX cs:=nr rfl
@[simp] theorem res1_pv (p:PV):mn (.pv p)=true:=nr rfl
@[simp] theorem res1_fr (e:TypeId) (rows:List (List PV)):mn (.fr e rows)=true:=nr rfl
@[simp] theorem Vc:rD []=true:=nr rfl
@[simp] theorem Qy (c:AV) (cs:List AV):rD (c::cs)=(mn c&&rD cs):=nr rfl
@[simp] theorem SF (vs:List AV):cY (.aO vs)=(decide (vs.length≤900)&&rD vs):=nr rfl
@[simp] theorem SK (cs:List AV):cY (.agg cs)=lX cs:=nr rfl
@[simp] theorem aa0 (p:PV):cY (.pv p)=true:=nr rfl
@[simp] theorem resOK_fr (e:TypeId) (rows:List (List PV)):cY (.fr e rows)=true:=nr rfl
@[simp] theorem frs_tup (vs:List AV):Bz (.aO vs)=mL 0 vs:=nr rfl
@[simp] theorem frs_agg (cs:List AV):Bz (.agg cs)=fY 0 cs:=nr rfl
@[simp] theorem frs_fr (e:TypeId) (rows:List (List PV)):Bz (.fr e rows)=[(0,.arr e rows)]:=nr rfl
@[simp] theorem frs_pv (p:PV):Bz (.pv p)=[]:=nr rfl
@[simp] theorem VK (k:IntKind) (n:Int):il (.int k n)=true:=nr rfl
@[simp] theorem Qh (b:Bool):il (.bool b)=true:=nr rfl
@[simp] theorem VA (l:List UInt8):il (.str l)=true:=nr rfl
@[simp] theorem WK (rows:List (List PV)):il (.ro rows)=rows.isEmpty:=nr rfl
@[simp] theorem aaw (p:PV):nL (.pv p)=(il p=true):=nr rfl
@[simp] theorem flatC_fr (e:TypeId) (rows:List (List PV)):nL (.fr e rows)=bp rows:=nr rfl
@[simp] theorem T9:pL []=True:=nr rfl
@[simp] theorem RP (c:AV) (cs:List AV):pL (c::cs)=(nL c∧pL cs):=nr rfl
@[simp] theorem UN (cs:List AV):lH (.agg cs)=pL cs:=nr rfl
@[simp] theorem V9 (p:PV):lH (.pv p)=(il p=true):=nr rfl
@[simp] theorem flat1_fr (e:TypeId) (rows:List (List PV)):lH (.fr e rows)=bp rows:=nr rfl
@[simp] theorem Vu:rP []=True:=nr rfl
@[simp] theorem Qo (c:AV) (cs:List AV):rP (c::cs)=(lH c∧rP cs):=nr rfl
@[simp] theorem Zc (vs:List AV):flat (.aO vs)=rP vs:=nr rfl
@[simp] theorem flat_agg (cs:List AV):flat (.agg cs)=pL cs:=nr rfl
@[simp] theorem flat_pv (p:PV):flat (.pv p)=(il p=true):=nr rfl
@[simp] theorem flat_fr (e:TypeId) (rows:List (List PV)):flat (.fr e rows)=bp rows:=nr rfl
end
@[simp] theorem noM_clo (un:List Nat) (aa:Nat→Option AO) (f:FuncId) (cs:List AV):sr un aa (.bE f cs)=lB un aa cs:=nr rfl
@[simp] theorem noM_pv (un:List Nat) (aa:Nat→Option AO) (p:PV):sr un aa (.pv p)=True:=nr rfl
@[simp] theorem noM_rp (un:List Nat) (aa:Nat→Option AO) (cs:List PV):sr un aa (.rp cs)=True:=nr rfl
@[simp] theorem YV (un:List Nat) (aa:Nat→Option AO):sr un aa .aw=True:=nr rfl
@[simp] theorem noM_tup (un:List Nat) (aa:Nat→Option AO) (cs:List AV):sr un aa (.aO cs)=True:=nr rfl
@[simp] theorem noM_agg (un:List Nat) (aa:Nat→Option AO) (cs:List AV):sr un aa (.agg cs)=hZ un cs:=nr rfl
@[simp] theorem noM_own (un:List Nat) (aa:Nat→Option AO) (t:Nat):sr un aa (.own t)=kp un t:=nr rfl
@[simp] theorem YB (un:List Nat) (aa:Nat→Option AO) (t:Nat) (e:TypeId) (i:Int) (o:Nat):sr un aa (.bd t e i o)=kp un t:=nr rfl
@[simp] theorem DG (un:List Nat) (aa:Nat→Option AO) (t:Nat) (e:TypeId) (i o:Nat):sr un aa (.sub t e i o)=kp un t:=nr rfl
@[simp] theorem noM_ptr (un:List Nat) (aa:Nat→Option AO) (t o:Nat):sr un aa (.ptr t o)=(kp un t∧hZ un ((eY (aa t)).getD [])):=nr rfl
@[simp] theorem noMP_rp (un:List Nat) (aa:Nat→Option AO) (cs:List PV):nU un aa (.rp cs)=True:=nr rfl
@[simp] theorem tV (un:List Nat) (aa:Nat→Option AO) (t:Nat) (e:TypeId) (i o:Nat):nU un aa (.sub t e i o)=kp un t:=nr rfl
@[simp] theorem aak (un:List Nat) (aa:Nat→Option AO) (t o:Nat):nU un aa (.ptr t o)=(kp un t∧hZ un ((eY (aa t)).getD [])):=nr rfl
@[simp] theorem SL (un:List Nat) (aa:Nat→Option AO):lB un aa []=True:=nr rfl
@[simp] theorem O4 (un:List Nat) (aa:Nat→Option AO) (c:AV) (cs:List AV):lB un aa (c::cs)=(nU un aa c∧lB un aa cs):=nr rfl
@[simp] theorem WI (un:List Nat) (aa:Nat→Option AO):kc un aa []=True:=nr rfl
@[simp] theorem Vm (un:List Nat) (aa:Nat→Option AO) (c:AV) (cs:List AV):kc un aa (c::cs)=(sr un aa c∧kc un aa cs):=nr rfl
attribute[simp] lay bY kp vB hZ
end Go.Proofs.YtlicclncicbajaaGreat.Ab.R
namespace Go.Proofs.YtlicclncicbajaaGreat.Ab
open Go Go.RowKit
variable {α:Type}{f:FuncId}{ys xs xs' ys':List AV}{d:Option Nat}{C:bI→Prop}{i sz id:Nat}{A B:Prop}{is:List AI}{e:TypeId}{rows:List (List PV)}{v:AV}{us zs:List Value}{z:Value}{ps:List (Nat×Nat)}{T un ks:List Nat}{g:Option (Nat×Bool)}{ne ok:Bool}
theorem bW (a:Addr) (n:Nat):(a.add n).block=a.block:=by unfold Addr.add;split<;>rfl
theorem fG (a:Addr) (i j:Nat):(a.add i).add j=a.add (i+j):=by unfold Addr.add;by_cases hi:i=0<;>by_cases hj:j=0<;>simp[hi,hj,q221]
section
variable{P:Program}{S S':Nat→Prop}{w w':World}{β β':Nat→Value}{D D':Nat→Prop}
theorem vY {ad:Addr} (h:w'.heap[ad.block]?=w.heap[ad.block]?) (n:Nat):w'.cell? (ad.add n)=w.cell? (ad.add n):=World.cell?_of_block (by rw[bW];exact h)
def uh (w w':World) (b:Nat):Prop:=(∀ad:Addr,ad.block=b→w'.cell? ad=w.cell? ad)∧∀(us:Array MapEntry) (c:Nat),w.heap[b]?=some (.map us c)→w'.heap[b]?=some (.map us c)
theorem uh.of {b:Nat} (h:w'.heap[b]?=w.heap[b]?):uh w w' b:=⟨fun ad e=>World.cell?_of_block (by rw[e];exact h),fun us c hm=>h.trans hm⟩
theorem dt.gL {v:Value}{p:PV} (h:dt S w v p) (hS:∀b,S b→S' b∧uh w w' b):dt S' w' v p:=by induction h with|int k n=>exact .int k n|bool b=>exact .bool b|str l=>exact .str l|nil=>exact .nil|val v h=>exact .val v h|mp b us c ks h1 h2 h3 h4=>exact .mp b us c ks (hS _ h1).1 ((hS _ h1).2.2 _ _ h2) h3 h4|mv b us c es h1 h2 h3 h4 h5 h6 ih=>exact .mv b us c es (hS _ h1).1 ((hS _ h1).2.2 _ _ h2) h3 h4 h5 ih|pt ad cs us h1 h2 h3 h4 ih=>exact .pt ad cs us (hS _ h1).1 (fun j hj=>((hS _ h1).2.1 _ (bW _ _)).trans (h2 j hj)) h3 ih|xY A c=>exact .xY A c|ro ad c rows sz us h1 h2 h3 h4 h5 h6 ih=>exact .ro ad c rows sz us (hS _ h1).1 h2 h3 (fun i j hi hj=>((hS _ h1).2.1 _ (bW _ _)).trans (h4 i j hi hj)) h5 ih
theorem RV.gL {v:Value}{x:AV} (h:RV P S w β D v x) (hS:∀b,S b→S' b∧uh w w' b) (hD:∀t,D t→D' t∧β' t=β t):RV P S' w' β' D' v x:=by induction h with|pv v p h=>exact .pv v p (h.gL hS)|own t h=>rw[←(hD t h).2];exact .own t (hD t h).1|ptr t o b h hb=>exact .ptr t o b (hD t h).1 ((hD t h).2.trans hb)|bd t e i o b n c inf h hi hb=>exact .bd t e i o b n c inf (hD t h).1 hi ((hD t h).2.trans hb)|sub v t e lo hi inf A A1 n c h hi' hb h1 h2 h3 h4 h5 hv=>exact .sub v t e lo hi inf A A1 n c (hD t h).1 hi' ((hD t h).2.trans hb) h1 h2 h3 h4 h5 hv|rp ad cs us h1 h2 h3 h4=>exact .rp ad cs us (hS _ h1).1 (fun j hj=>((hS _ h1).2.1 _ (bW _ _)).trans (h2 j hj)) h3 (fun j p hp=>(h4 j p hp).gL hS)|agg cs us hl h ih=>exact .agg cs us hl ih|aO cs us hl h ih=>exact .aO cs us hl ih|bE f cs us hl h ih=>exact .bE f cs us hl ih|cp g v av h hu ih=>exact .cp g v av ih hu|aw v=>exact .aw v
theorem dt.mono {v:Value}{p:PV} (h:dt S w v p) (hS:∀b,S b→S' b∧w'.heap[b]?=w.heap[b]?):dt S' w' v p:=h.gL fun b hb=>⟨(hS b hb).1,.of (hS b hb).2⟩
theorem RV.mono {v:Value}{x:AV} (h:RV P S w β D v x) (hS:∀b,S b→S' b∧w'.heap[b]?=w.heap[b]?) (hD:∀t,D t→D' t∧β' t=β t):RV P S' w' β' D' v x:=h.gL (fun b hb=>⟨(hS b hb).1,.of (hS b hb).2⟩) hD
theorem RV.strip {v:Value}{x:AV} (h:RV P S w β D v x) (ha:asks x):RV P S w β D v (strip x):=by induction h with|cp g v av h hu ih=>exact ih ha.1 ha.2|pv v p h=>exact .pv v p h|own t h=>exact .own t h|ptr t o b h hb=>exact .ptr t o b h hb|bd t e i o b n c inf h hi hb=>exact .bd t e i o b n c inf h hi hb|sub v t e lo hi inf A A1 n c h hi' hb h1 h2 h3 h4 h5 hv=>exact .sub v t e lo hi inf A A1 n c h hi' hb h1 h2 h3 h4 h5 hv|rp ad cs us h1 h2 h3 h4=>exact .rp ad cs us h1 h2 h3 h4|agg cs us hl h _=>exact .agg cs us hl h|aO cs us hl h _=>exact .aO cs us hl h|bE f cs us hl h _=>exact .bE f cs us hl h|aw v=>exact .aw v
theorem bz.gL {t:Nat}{o:AO} (h:bz P S w β D t o) (hS:∀b,S b→S' b∧uh w w' b) (hD:∀t,D t→D' t∧β' t=β t) (ht:β' t=β t) (hb:∀b,cr (β t)=some b→w'.heap[b]?=w.heap[b]?):bz P S' w' β' D' t o:=by cases o with
 |box cs=>obtain⟨b,us,ty,hp,hh,hl,hc⟩:=h;exact⟨b,us,ty,ht.trans hp,(hb b (by rw[hp];rfl)).trans hh,hl,fun i c u h1 h2=>⟨(hc i c u h1 h2).1,(hc i c u h1 h2).2.gL hS hD⟩⟩|arr e rows=>
  obtain⟨inf,us,hi,hown,hr,hc⟩:=h;refine⟨inf,us,hi,?_,hr,fun i j r p h1 h2=>?_⟩
  ·rw[ht];refine⟨hown.1,?_⟩;rcases hown.2 with h0|⟨g,cap,cur,hv,h1,h2,h3,h4,h5,h6⟩;·exact .inl h0
   ·exact .inr ⟨g,cap,cur,hv,h1,(hb g (by rw[hv];rfl)).trans h2,h3,h4,h5,h6⟩
  ·obtain⟨u,h3,h4,h5⟩:=hc i j r p h1 h2;exact⟨u,h3,h4,h5.gL hS⟩|map es=>obtain⟨b,us,c,hp,hh,hl,hc⟩:=h;exact⟨b,us,c,ht.trans hp,(hb b (by rw[hp];rfl)).trans hh,hl,fun i e u h1 h2=>⟨(hc i e u h1 h2).1,(hc i e u h1 h2).2.gL hS fun _ hf=>hf.elim⟩⟩|rws e cs=>
  obtain⟨inf,us,hi,h1s,hown,hc⟩:=h;refine⟨inf,us,hi,h1s,?_,fun i c u h1 h2=>⟨(hc i c u h1 h2).1,(hc i c u h1 h2).2.gL hS hD⟩⟩;rw[ht];refine⟨hown.1,?_⟩;rcases hown.2 with h0|⟨g,cap,cur,hv,h1,h2,h3,h4,h5,h6⟩;·exact .inl h0
  ·exact .inr ⟨g,cap,cur,hv,h1,(hb g (by rw[hv];rfl)).trans h2,h3,h4,h5,h6⟩|iB es=>obtain⟨b,us,c,hp,hh,hst,hl,hc⟩:=h;exact⟨b,us,c,ht.trans hp,(hb b (by rw[hp];rfl)).trans hh,hst,hl,fun i e u h1 h2=>⟨(hc i e u h1 h2).1,(hc i e u h1 h2).2.1,(hc i e u h1 h2).2.2.1,(hc i e u h1 h2).2.2.2.gL hS⟩⟩|nS rem cur=>
  obtain⟨r,m,us,c,seen,hp,hh,hm,hmm,hst,hl,hc,hcur⟩:=h;refine⟨r,m,us,c,seen,ht.trans hp,(hb r (by rw[hp];rfl)).trans hh,(hS m hm).1,?_,hst,hl,fun i e u h1 h2=>⟨(hc i e u h1 h2).1,(hc i e u h1 h2).2.1,(hc i e u h1 h2).2.2.1,(hc i e u h1 h2).2.2.2.gL hS⟩,fun e he=>?_⟩;·have:=(hS m hm).2.2 us c hmm;first|exact this.trans hmm|exact this
  ·obtain⟨u,s',h1,h2,h3,h4,h5,h6⟩:=hcur e he;exact⟨u,s',h1,h2,h3,h4,h5,h6.gL hS⟩
theorem bz.mono {t:Nat}{o:AO} (h:bz P S w β D t o) (hS:∀b,S b→S' b∧w'.heap[b]?=w.heap[b]?) (hD:∀t,D t→D' t∧β' t=β t) (ht:β' t=β t) (hb:∀b,cr (β t)=some b→w'.heap[b]?=w.heap[b]?):bz P S' w' β' D' t o:=h.gL (fun b hb=>⟨(hS b hb).1,.of (hS b hb).2⟩) hD ht hb
end
section
variable{P:Program}{S0 L:Nat→Prop}{B0:Nat→Value}{w0 w w':World}{N:Nat}{st:St}{a:Act}{β:Nat→Value}
theorem Au (l:Array Value) (d s:Nat) (r:Value) (hd:d<l.size):(l.setIfInBounds d r).getD s undef=if s=d then r else l.getD s undef:=by
 by_cases h:s=d;·subst h;simp[q128,Array.getElem?_setIfInBounds_self_of_lt hd]
 ·simp[q128,Array.getElem?_setIfInBounds_ne (fun e=>h e.symm),h]
theorem Rel.put (h:Rel P S0 L B0 w0 N st a w β) {r:Value} (hd:∀s,d=some s→s<N) (hr:RV P (aZ S0 w0.heap.size β st.aa w) w β (aG st.aa) r v):Rel P S0 L B0 w0 N ⟨put d v st.vars,st.aa⟩ (a.put d r) w β:=by cases d with|none=>exact⟨h.size,h.defers,h.vars,h.heap,h.old,h.qb,h.vw,h.bZ⟩|some d=>
 have hd':d<a.tmps.size:=by rw[h.size];exact hd d rfl
 refine⟨by simp[Act.put,h.size],h.defers,fun s=>?_,h.heap,h.old,h.qb,h.vw,h.bZ⟩;simp only[Act.put,Ab.put];rw[Au _ _ _ _ hd'];split;·exact hr
 ·exact h.vars s
theorem Rel.cw (h:Rel P S0 L B0 w0 N st a w β) {vars:Nat→AV} (hv:∀s,vars s=st.vars s∨vars s=.aw):Rel P S0 L B0 w0 N ⟨vars,st.aa⟩ a w β:=⟨h.size,h.defers,fun s=>by
 rcases hv s with e|e;·rw[show(St.mk vars st.aa).vars s=vars s from rfl,e];exact h.vars s
 ·rw[show(St.mk vars st.aa).vars s=vars s from rfl,e];exact .aw _,h.heap,h.old,h.qb,h.vw,h.bZ⟩
structure Same (w w':World):Prop where
 heap:w'.heap=w.heap
 os:w'.os=w.os
 tape:w'.tape=w.tape
 output:w'.output=w.output
theorem He {S0:Nat→Prop}{n0:Nat}{aa:Nat→Option AO} (hw:w'.heap=w.heap):aZ S0 n0 β aa w'=aZ S0 n0 β aa w:=by funext b;simp[aZ,hw]
theorem Rel.same (h:Rel P S0 L B0 w0 N st a w β) (hw:Same w w'):Rel P S0 L B0 w0 N st a w' β:=by have hm:∀b,aZ S0 w0.heap.size β st.aa w b→aZ S0 w0.heap.size β st.aa w' b∧w'.heap[b]?=w.heap[b]?:=fun b hb=>⟨by rw[He hw.heap];exact hb,by rw[hw.heap]⟩;have hD:∀t,aG st.aa t→aG st.aa t∧β t=β t:=fun t ht=>⟨ht,rfl⟩;exact⟨h.size,h.defers,fun s=>(h.vars s).mono hm hD,⟨fun t o ho=>(h.heap.holds t o ho).mono hm hD rfl (fun b _=>by rw[hw.heap]),h.heap.inj⟩,h.old,h.qb,h.vw,⟨hw.os.trans h.bZ.os,hw.tape.trans h.bZ.tape,hw.output.trans h.bZ.output,by rw[hw.heap];exact h.bZ.size,fun b h1 h2=>by rw[hw.heap];exact h.bZ.block b h1 h2⟩⟩
theorem Rel.drew (h:Rel P S0 L B0 w0 N st a w β):Rel P S0 L B0 w0 N st a w.drew β:=h.same ⟨rfl,rfl,rfl,rfl⟩
theorem bz.lt {S:Nat→Prop}{D:Nat→Prop}{t:Nat}{o:AO} (h:bz P S w β D t o):∀b,cr (β t)=some b→b<w.heap.size:=by intro b hb;cases o with
 |box cs=>obtain⟨b',us,ty,hp,hh,_⟩:=h;rw[hp]at hb;simp[cr]at hb;subst hb;exact(q66.1 hh).1|arr e rows=>
  obtain⟨inf,us,hi,hown,_⟩:=h;rcases hown.2 with⟨h0,_⟩|⟨g,cap,cur,hv,h1,h2,_⟩;·rw[h0]at hb;simp[cr]at hb
  ·rw[hv]at hb;simp[cr]at hb;subst hb;exact(q66.1 h2).1|map es=>obtain⟨b',us,c,hp,hh,_⟩:=h;rw[hp]at hb;simp[cr]at hb;subst hb;exact(q66.1 hh).1|rws e cs=>
  obtain⟨inf,us,hi,_,hown,_⟩:=h;rcases hown.2 with⟨h0,_⟩|⟨g,cap,cur,hv,h1,h2,_⟩;·rw[h0]at hb;simp[cr]at hb
  ·rw[hv]at hb;simp[cr]at hb;subst hb;exact(q66.1 h2).1|iB es=>obtain⟨b',us,c,hp,hh,_⟩:=h;rw[hp]at hb;simp[cr]at hb;subst hb;exact(q66.1 hh).1|nS rem cur=>obtain⟨r,m,us,c,seen,hp,hh,_⟩:=h;rw[hp]at hb;simp[cr]at hb;subst hb;exact(q66.1 hh).1
theorem Rel.lt (h:Rel P S0 L B0 w0 N st a w β) {t:Nat} (ht:aG st.aa t) {b:Nat} (hb:cr (β t)=some b):b<w.heap.size:=by obtain⟨o,ho⟩:=ht;exact(h.heap.holds t o ho).lt b hb
def eG (β:Nat→Value) (t:Nat) (v:Value):Nat→Value:=fun s=>if s=t then v else β s
theorem aY (β:Nat→Value) (t:Nat) (v:Value):eG β t v t=v:=by simp[eG]
theorem cJ (β:Nat→Value) {t s:Nat} (v:Value) (h:s≠t):eG β t v s=β s:=by simp[eG,h]
theorem bU {t s:Nat}{o:AO}{aa:Nat→Option AO}:aG (aR t o aa) s↔s=t∨aG aa s:=by
 unfold aG aR;by_cases h:s=t;·simp[h]
 ·simp[h]
theorem Rel.fresh (h:Rel P S0 L B0 w0 N st a w β) {t:Nat} (htN:t<N) (ht:st.aa t=none) (hg:w.grownBy w' none) {v:Value} (hv:∀b,cr v=some b→w.heap.size≤b) {o:AO} (ho:bz P (aZ S0 w0.heap.size (eG β t v) (aR t o st.aa) w') w' (eG β t v) (aG (aR t o st.aa)) t o):Rel P S0 L B0 w0 N ⟨st.vars,aR t o st.aa⟩ a w' (eG β t v):=by
 have hne:∀s,aG st.aa s→s≠t:=fun s ⟨o',ho'⟩ e=>by subst e;rw[ht]at ho';cases ho'
 have hsame:∀b,b<w.heap.size→w'.heap[b]?=w.heap[b]?:=fun b hb=>hg.block b hb (by simp);have hm:∀b,aZ S0 w0.heap.size β st.aa w b→aZ S0 w0.heap.size (eG β t v) (aR t o st.aa) w' b∧w'.heap[b]?=w.heap[b]?:=by
  intro b hb;obtain⟨h1,h2,h3⟩:=hb;refine⟨⟨h1,q95 h2 hg.size,?_⟩,hsame b h2⟩;rintro⟨s,o',hs,hbs⟩;by_cases e:s=t;·subst e;rw[aY]at hbs;have:=hv b hbs;omega
  ·rw[cJ _ _ e]at hbs;exact h3 ⟨s,o',by simpa[aR,e]using hs,hbs⟩
 have hD:∀s,aG st.aa s→aG (aR t o st.aa) s∧eG β t v s=β s:=fun s hs=>⟨bU.2 (.inr hs),cJ _ _ (hne s hs)⟩;refine⟨h.size,h.defers,fun s=>(h.vars s).mono hm hD,⟨fun s o' hs=>?_,?_⟩,?_,h.qb,fun s h9 hs=>?_,?_⟩
 ·by_cases e:s=t
  ·subst e;have:o'=o:=by simpa[aR]using hs.symm
   subst this;exact ho
  ·have hs':st.aa s=some o':=by simpa[aR,e]using hs
   exact(h.heap.holds s o' hs').mono hm hD (cJ _ _ e) (fun b hb=>hsame b (h.lt ⟨o',hs'⟩ hb))
 ·intro s s' b hs hs' hb hb';by_cases e:s=t<;>by_cases e':s'=t;·rw[e,e']
  ·subst e;rw[aY]at hb;rw[cJ _ _ e']at hb';have:=h.lt ((bU.1 hs').resolve_left e') hb';have:=hv b hb;omega
  ·subst e';rw[aY]at hb';rw[cJ _ _ e]at hb;have:=h.lt ((bU.1 hs).resolve_left e) hb;have:=hv b hb';omega
  ·rw[cJ _ _ e]at hb;rw[cJ _ _ e']at hb';exact h.heap.inj s s' b ((bU.1 hs).resolve_left e) ((bU.1 hs').resolve_left e') hb hb'
 ·intro s b hs hb;by_cases e:s=t;·subst e;rw[aY]at hb;have:=hv b hb;have:=h.bZ.size;exact .inl (by omega)
  ·rw[cJ _ _ e]at hb;exact h.old s b ((bU.1 hs).resolve_left e) hb
 ·have hst:s≠t:=fun e=>by have:=h.qb.1;subst e;omega
  rw[cJ _ _ hst];exact h.vw s h9 ((bU.1 hs).resolve_left hst)
 ·exact⟨hg.os.trans h.bZ.os,hg.tape.trans h.bZ.tape,hg.output.trans h.bZ.output,q113 h.bZ.size hg.size,fun b h1 h2=>(hsame b (by have:=h.bZ.size;omega)).trans (h.bZ.block b h1 h2)⟩
theorem Rel.lr (h:Rel P S0 L B0 w0 N st a w β) {t:Nat} (ht:st.aa t=none) (hg:w.grownBy w' none) {v:Value} (hv:∀b,cr v=some b→w.heap.size≤b) {o:AO}:(∀b,aZ S0 w0.heap.size β st.aa w b→aZ S0 w0.heap.size (eG β t v) (aR t o st.aa) w' b∧w'.heap[b]?=w.heap[b]?)∧(∀s,aG st.aa s→aG (aR t o st.aa) s∧eG β t v s=β s):=by
 have hne:∀s,aG st.aa s→s≠t:=fun s ⟨o',ho'⟩ e=>by subst e;rw[ht]at ho';cases ho'
 refine⟨fun b hb=>?_,fun s hs=>⟨bU.2 (.inr hs),cJ _ _ (hne s hs)⟩⟩;obtain⟨h1,h2,h3⟩:=hb;refine⟨⟨h1,q95 h2 hg.size,?_⟩,hg.block b h2 (by simp)⟩;rintro⟨s,o',hs,hbs⟩;by_cases e:s=t;·subst e;rw[aY]at hbs;have:=hv b hbs;omega
 ·rw[cJ _ _ e]at hbs;exact h3 ⟨s,o',by simpa[aR,e]using hs,hbs⟩
theorem Rel.wo (h:Rel P S0 L B0 w0 N st a w β) {t:Nat}{o o':AO} (ht:st.aa t=some o) {b:Nat} (hb:cr (β t)=some b) (hos:w'.os=w.os) (htape:w'.tape=w.tape) (hout:w'.output=w.output) (hsz:w'.heap.size=w.heap.size) (hother:∀k,k≠b→w'.heap[k]?=w.heap[k]?) (ho:bz P (aZ S0 w0.heap.size β (aR t o' st.aa) w') w' β (aG (aR t o' st.aa)) t o'):Rel P S0 L B0 w0 N ⟨st.vars,aR t o' st.aa⟩ a w' β∧(∀u x,RV P (aZ S0 w0.heap.size β st.aa w) w β (aG st.aa) u x→RV P (aZ S0 w0.heap.size β (aR t o' st.aa) w') w' β (aG (aR t o' st.aa)) u x):=by
 have hlive:∀k,live β (aR t o' st.aa) k↔live β st.aa k:=by
  intro k;constructor
  ·rintro⟨s,x,hs,hk⟩;by_cases e:s=t;·subst e;exact⟨s,o,ht,hk⟩
   ·exact⟨s,x,by simpa[aR,e]using hs,hk⟩
  ·rintro⟨s,x,hs,hk⟩;by_cases e:s=t;·subst e;exact⟨s,o',by simp[aR],hk⟩
   ·exact⟨s,x,by simpa[aR,e]using hs,hk⟩
 have hm:∀k,aZ S0 w0.heap.size β st.aa w k→aZ S0 w0.heap.size β (aR t o' st.aa) w' k∧w'.heap[k]?=w.heap[k]?:=by intro k hk;obtain⟨h1,h2,h3⟩:=hk;have hkb:k≠b:=fun e=>h3 ⟨t,o,ht,by rw[e];exact hb⟩;exact⟨⟨h1,by omega,fun hl=>h3 ((hlive k).1 hl)⟩,hother k hkb⟩
 have hdt:aG st.aa t:=⟨o,ht⟩;have hD:∀s,aG st.aa s→aG (aR t o' st.aa) s∧β s=β s:=fun s hs=>⟨bU.2 (.inr hs),rfl⟩;have hdom:∀s,aG (aR t o' st.aa) s→aG st.aa s:=fun s hs=>by
  rcases bU.1 hs with e|e;·rw[e];exact hdt
  ·exact e
 refine⟨⟨h.size,h.defers,fun s=>(h.vars s).mono hm hD,⟨fun s x hs=>?_,fun s s' k hs hs'=>h.heap.inj s s' k (hdom s hs) (hdom s' hs')⟩,fun s k hs=>h.old s k (hdom s hs),h.qb,fun s h9 hs=>h.vw s h9 (hdom s hs),?_⟩,fun u x hx=>hx.mono hm hD⟩
 ·by_cases e:s=t
  ·subst e;have:x=o':=by simpa[aR]using hs.symm
   subst this;exact ho
  ·have hs':st.aa s=some x:=by simpa[aR,e]using hs
   exact(h.heap.holds s x hs').mono hm hD rfl (fun k hk=>hother k fun ek=>e (h.heap.inj s t b ⟨x,hs'⟩ hdt (by rw[←ek];exact hk) hb))
 ·exact⟨hos.trans h.bZ.os,htape.trans h.bZ.tape,hout.trans h.bZ.output,by rw[hsz];exact h.bZ.size,fun k h1 h2=>by
   have hkb:k≠b:=by
    rintro rfl;rcases h.old t k hdt hb with hx|hx;·omega
    ·exact h2 hx
   exact(hother k hkb).trans (h.bZ.block k h1 h2)⟩
end
section
variable{P:Program} (w:World)
theorem ph (t tx ty e:TypeId) (i:TypeInfo) (z:Value) (ht:P.underlying t=some (.slice e)) (hi:P.info? e=some i) (hz:i.zero=some z) (hzs:z.cells.size=i.size) (hsz:0<i.size) (v:Value) (n:Nat) (xs:List Value) (hown:w.ownsRow 0 e i.size v n xs) (x:Value) (m:Nat) (news:List Value) (hs:Src P i.size tx x m news w) (h63:n+m≤maxLen) (hbytes:(n+m)*i.bytes≤140737488355328):∃v' w',(Builtin.append_ #[t,tx] ty #[v,x]).run P w=.ok v' w'∧w'.ownsRow 0 e i.size v' (n+m) (xs++news)∧w.grownBy w' v.ownBlock∧(v'.ownBlock=v.ownBlock∨v'.ownBlock=some w.heap.size)∧w'.ownsRow 0 e i.size v n xs:=by
 have hl:=hs.newsLen;have hlen:(xs++news).length=(n+m)*i.size:=by rw[q74,hown.1,hl,q150]
 have grown:∀(old:Nat),old<n+m→∀(row:Option Nat),(w.drew.alloc (.cells ((xs++news).toArray++Builtin.zeroCells z.cells (grownCap w (n+m) old e-(n+m))) e)).ownsRow 0 e i.size (.slice (some ⟨w.heap.size,0,none⟩) (n+m) (grownCap w (n+m) old e)) (n+m) (xs++news)∧w.grownBy (w.drew.alloc (.cells ((xs++news).toArray++Builtin.zeroCells z.cells (grownCap w (n+m) old e-(n+m))) e)) row:=by
  intro old ho row;have hge:=grownCap_ge w (n+m) old e;have hcm:grownCap w (n+m) old e≤maxLen:=grownCap_le_maxLen w (n+m) old e h63;refine⟨⟨hlen,.inr ⟨w.heap.size,_,_,rfl,q126 _,heap_alloc_new w.drew _,hge,hcm,?_,?_⟩⟩,⟨rfl,rfl,rfl,by simp,fun k hk _=>q201 w.drew _ k hk⟩⟩;·simp only[q230,q105,size_zeroCells,hzs,hlen,←q150];congr 1;omega
  ·simp only[q224];rw[←hlen];exact q154
 have hsmall:((n+m:Nat):Int)≤9223372036854775807:=by simp only[maxLen]at h63;omega
 rcases hown.2 with⟨rfl,rfl⟩|⟨g,cap,cur,rfl,hbg,hg,hnc,hcm,hcs,htake⟩
 ·have hx:xs=[]:=q72 (by simpa using hown.1);subst hx;by_cases hm:m=0;·subst hm;have hn:news=[]:=q72 (by simpa using hl);subst hn;exact⟨.slice none 0 0,w,run_append_nothing w t tx ty e i ht hi none 0 0 (q93 _) x hs,q188 w 0 e i.size,⟨rfl,rfl,rfl,q93 _,fun _ _ _=>rfl⟩,Or.inl rfl,hown⟩
  ·have hr:=run_append_grow_src (P:=P) w t tx ty e i z ht hi hz none 0 0 [] (by simp[Builtin.firstCells]) x m news hs (by omega) hsmall (growslice_fits (by omega) hbytes);have hgr:=grown 0 (by omega) (Value.ownBlock (.slice none 0 0));exact⟨_,_,hr,hgr.1,hgr.2,Or.inr rfl,by simp,.inl ⟨rfl,rfl⟩⟩
 ·by_cases hroom:n+m≤cap
  ·have hfit:n*i.size+news.length≤cur.size:=by rw[hl,hcs,←q150];exact q86 _ hroom
   have hst:=run_storeCells_at P g (n*i.size) e news 0 cur w hg (by simpa using hfit) hs.one;simp only[q155]at hst;have hr:(Builtin.append_ #[t,tx] ty #[.slice (some ⟨g,0,none⟩) n cap,x]).run P w=.ok (.slice (some ⟨g,0,none⟩) (n+m) cap) (w.setRow g (cur.toList.take (n*i.size)++news++cur.toList.drop (n*i.size+news.length)).toArray):=by rcases hs.kind with⟨e',hk⟩|hk<;>simp[Builtin.append_,run_underlying ht,run_underlying hk,sizeOf,typeInfo,hi,hs.len,hroom,hs.cells,q100,hst]
   refine⟨_,_,hr,⟨hlen,.inr ⟨g,cap,_,rfl,q126 _,setRow_heap w g cur _ e _ hg,hroom,hcm,?_,?_⟩⟩,⟨rfl,rfl,rfl,by simp,fun k _ hk=>setRow_other w g k _ (fun e=>hk (by simp[Value.ownBlock,e]))⟩,Or.inl rfl,?_⟩;·simp only[q105,q74,q67,q94,q83];omega
   ·rw[htake,←hlen];exact q154
   ·refine⟨hown.1,.inr ⟨g,cap,_,rfl,q126 _,setRow_heap w g cur _ e _ hg,hnc,hcm,?_,?_⟩⟩;·simp only[q105,q74,q67,q94,q83];omega
    ·rw[htake,←hown.1];simp only[q96];exact q154
  ·have holds:∀j u,xs[j]?=some u→w.cell? ((⟨g,0,none⟩:Addr).add j)=some u:=hown.cells (g:=g) rfl;have hold:(Builtin.firstCells i.size n (.slice (some ⟨g,0,none⟩) n cap)).run P w.drew=.ok xs.toArray w.drew:=run_firstCells_some w.drew i.size n ⟨g,0,none⟩ n cap xs hown.1 (by simpa using holds);have hr:=run_append_grow_src (P:=P) w t tx ty e i z ht hi hz (some ⟨g,0,none⟩) n cap xs hold x m news hs (by omega) hsmall (growslice_fits (by omega) hbytes);have hgr:=grown cap (by omega) (Value.ownBlock (.slice (some ⟨g,0,none⟩) n cap));have hgn:=(grown cap (by omega) none).2;exact⟨_,_,hr,hgr.1,hgr.2,Or.inr rfl,hown.1,.inr ⟨g,cap,cur,rfl,hbg,(hgn.block g (q66.1 hg).1 (by simp)).trans hg,hnc,hcm,hcs,htake⟩⟩
end
theorem ft (t:Nat):∀(cs:List AV) (i:Nat),(b7 t cs)[i]?=(cs[i]?).map (cj t)|[],i=>by simp[b7]|c::cs,0=>by simp[b7]|c::cs,i+1=>by simp[b7,ft t cs i]
theorem ei (t:Nat):∀cs:List AV,(b7 t cs).length=cs.length|[]=>rfl|c::cs=>by simp[b7,ei t cs]
section
variable{P:Program}{S S':Nat→Prop}{w w':World}{β β':Nat→Value}{D D':Nat→Prop}{t:Nat}
theorem RV.cj {v:Value}{x:AV} (h:RV P S w β D v x) (hp:∀b,β t≠.pointer (some ⟨b,0,none⟩)) (hS:∀b,S b→S' b∧w'.heap[b]?=w.heap[b]?) (hD:∀s,D s→s≠t→D' s∧β' s=β s):RV P S' w' β' D' v (cj t x):=by cases h with
 |pv v p h=>exact .pv _ _ (h.mono hS)|own s h=>
  simp only[Ab.cj];split;·exact .aw _
  ·rename_i hne;rw[←(hD s h hne).2];exact .own s (hD s h hne).1|ptr s o b h hb=>have hne:s≠t:=fun e=>hp b (by rw[←e];exact hb);exact .ptr s o b (hD s h hne).1 ((hD s h hne).2.trans hb)|bd s e i o b n c inf h hi hb=>
  simp only[Ab.cj];split;·exact .aw _
  ·rename_i hne;exact .bd s e i o b n c inf (hD s h hne).1 hi ((hD s h hne).2.trans hb)|sub v s e lo hi inf A A1 n c h hi' hb h1 h2 h3 h4 h5 hv=>
  simp only[Ab.cj];split;·exact .aw _
  ·rename_i hne;exact .sub v s e lo hi inf A A1 n c (hD s h hne).1 hi' ((hD s h hne).2.trans hb) h1 h2 h3 h4 h5 hv|rp ad cs us h1 h2 h3 h4=>exact .rp ad cs us (hS _ h1).1 (fun j hj=>(vY (hS _ h1).2 _).trans (h2 j hj)) h3 (fun j p hp=>(h4 j p hp).mono hS)|agg cs us hl h=>exact .aw _|aO cs us hl h=>exact .aw _|bE f cs us hl h=>cases cs with|nil=>refine .bE f [] us hl ?_;intro i c u hc;simp at hc|cons c cs=>exact .aw _
 |cp g v av h=>exact .aw _|aw v=>exact .aw _
theorem RV.kill {v:Value}{x:AV} (h:RV P S w β D v x) (hp:∀b,β t≠.pointer (some ⟨b,0,none⟩)) (hS:∀b,S b→S' b∧w'.heap[b]?=w.heap[b]?) (hD:∀s,D s→s≠t→D' s∧β' s=β s):RV P S' w' β' D' v (kill t x):=by induction h with|agg cs us hl h _=>refine .agg _ us (by rw[ei];exact hl) fun i c u hc hu=>?_;rw[ft]at hc;obtain⟨c',hc',rfl⟩:=q0.1 hc;exact(h i c' u hc' hu).cj hp hS hD|aO cs us hl h _=>refine .aO _ us (by rw[ei];exact hl) fun i c u hc hu=>?_;rw[ft]at hc;obtain⟨c',hc',rfl⟩:=q0.1 hc;exact(h i c' u hc' hu).cj hp hS hD|pv v p h=>exact RV.cj (x:=.pv p) (.pv v p h) hp hS hD|own s h=>exact RV.cj (x:=.own s) (.own s h) hp hS hD|ptr s o b h hb=>exact RV.cj (x:=.ptr s o) (.ptr s o b h hb) hp hS hD|bd s e i o b n c inf h hi hb=>exact RV.cj (x:=.bd s e i o) (.bd s e i o b n c inf h hi hb) hp hS hD|sub v s e lo hi inf A A1 n c h hi' hb h1 h2 h3 h4 h5 hv=>exact RV.cj (x:=.sub s e lo hi) (.sub v s e lo hi inf A A1 n c h hi' hb h1 h2 h3 h4 h5 hv) hp hS hD|rp ad cs us h1 h2 h3 h4=>exact RV.cj (x:=.rp cs) (.rp ad cs us h1 h2 h3 h4) hp hS hD|bE f cs us hl h _=>exact RV.cj (x:=.bE f cs) (.bE f cs us hl h) hp hS hD|cp g v av h hu ih=>exact .cp g v _ (fun hg=>ih hg) hu|aw v=>exact .aw _
theorem bz.kill {s:Nat}{o:AO} (h:bz P S w β D s o) (hp:∀b,β t≠.pointer (some ⟨b,0,none⟩)) (hS:∀b,S b→S' b∧w'.heap[b]?=w.heap[b]?) (hD:∀s,D s→s≠t→D' s∧β' s=β s) (ht:β' s=β s) (hb:∀b,cr (β s)=some b→w'.heap[b]?=w.heap[b]?):bz P S' w' β' D' s (dY t o):=by cases o with
 |box cs=>obtain⟨b,us,ty,hpt,hh,hl,hc⟩:=h;refine⟨b,us,ty,ht.trans hpt,(hb b (by rw[hpt];rfl)).trans hh,by rw[ei];exact hl,fun i c u h1 h2=>?_⟩;rw[ft]at h1;obtain⟨c',hc',rfl⟩:=q0.1 h1;exact⟨(hc i c' u hc' h2).1,(hc i c' u hc' h2).2.cj hp hS hD⟩|arr e rows=>
  obtain⟨inf,us,hi,hown,hr,hc⟩:=h;refine⟨inf,us,hi,?_,hr,fun i j r p h1 h2=>?_⟩
  ·rw[ht];refine⟨hown.1,?_⟩;rcases hown.2 with h0|⟨g,cap,cur,hv,h1,h2,h3,h4,h5,h6⟩;·exact .inl h0
   ·exact .inr ⟨g,cap,cur,hv,h1,(hb g (by rw[hv];rfl)).trans h2,h3,h4,h5,h6⟩
  ·obtain⟨u,h3,h4,h5⟩:=hc i j r p h1 h2;exact⟨u,h3,h4,h5.mono hS⟩|map es=>obtain⟨b,us,c,hp',hh,hl,hc⟩:=h;exact⟨b,us,c,ht.trans hp',(hb b (by rw[hp'];rfl)).trans hh,hl,fun i e u h1 h2=>⟨(hc i e u h1 h2).1,(hc i e u h1 h2).2.mono hS fun _ hf=>hf.elim⟩⟩|iB es=>exact bz.mono (D:=fun _=>False) (show bz P S w β (fun _=>False) s (.iB es) from h) hS (fun _ hf=>hf.elim) ht hb|nS rem cur=>exact bz.mono (D:=fun _=>False) (show bz P S w β (fun _=>False) s (.nS rem cur) from h) hS (fun _ hf=>hf.elim) ht hb|rws e cs=>
  obtain⟨inf,us,hi,h1s,hown,hc⟩:=h;refine⟨inf,us,hi,h1s,?_,fun i c u h1 h2=>?_⟩
  ·rw[ht,ei];refine⟨hown.1,?_⟩;rcases hown.2 with h0|⟨g,cap,cur,hv,h1,h2,h3,h4,h5,h6⟩;·exact .inl h0
   ·exact .inr ⟨g,cap,cur,hv,h1,(hb g (by rw[hv];rfl)).trans h2,h3,h4,h5,h6⟩
  ·rw[ft]at h1;obtain⟨c',hc',rfl⟩:=q0.1 h1;exact⟨(hc i c' u hc' h2).1,(hc i c' u hc' h2).2.cj hp hS hD⟩
end
theorem gC {w:World}{b:Nat}{sz n:Nat}{v:Value} (h:w.ownsRow b e sz v n us):cr v=v.ownBlock∧∀b',v≠.pointer (some ⟨b',0,none⟩):=by
 rcases h.2 with⟨rfl,_⟩|⟨g,cap,cur,rfl,_⟩;·exact⟨rfl,fun _ e=>by cases e⟩
 ·exact⟨rfl,fun _ e=>by cases e⟩
theorem qD {t s:Nat}{aa:Nat→Option AO}:aG (dG t aa) s↔aG aa s:=by
 unfold aG dG;constructor;·rintro⟨o,ho⟩;obtain⟨o',h,_⟩:=q0.1 ho;exact⟨o',h⟩
 ·rintro⟨o,ho⟩;exact⟨dY t o,by rw[ho];rfl⟩
section
variable{P:Program}{S0 L:Nat→Prop}{B0:Nat→Value}{w0 w w':World}{N:Nat}{st:St}{a:Act}{β:Nat→Value}
theorem Rel.app (h:Rel P S0 L B0 w0 N st a w β) {t:Nat}{rows more:List (List PV)} (ht9:t%1000≠999) (ht:st.aa t=some (.arr e rows)) {inf:TypeInfo}{us news:List Value} (hi:P.info? e=some inf) (hown:w.ownsRow 0 e inf.size (β t) rows.length us) (hrows:∀r,r∈rows→r.length=inf.size) (hcs:∀(i j:Nat) (r:List PV) (p:PV),rows[i]?=some r→r[j]?=some p→∃u,us[i*inf.size+j]?=some u∧u.oneCell'=true∧dt (aZ S0 w0.heap.size β st.aa w) w u p) (hmore:∀r,r∈more→r.length=inf.size) (hms:∀(i j:Nat) (r:List PV) (p:PV),more[i]?=some r→r[j]?=some p→∃u,news[i*inf.size+j]?=some u∧u.oneCell'=true∧dt (aZ S0 w0.heap.size β st.aa w) w u p) {v':Value} (hown':w'.ownsRow 0 e inf.size v' (rows.length+more.length) (us++news)) (hg:w.grownBy w' (β t).ownBlock) (hb:v'.ownBlock=(β t).ownBlock∨v'.ownBlock=some w.heap.size):Rel P S0 L B0 w0 N ⟨cE t st.vars,aR t (.arr e (rows++more)) (dG t st.aa)⟩ a w' (eG β t v'):=by
 have hdt:aG st.aa t:=⟨_,ht⟩;have hbt:=(gC hown).1;have hbt':=(gC hown').1;have hp:=(gC hown).2;have hdom:∀s,aG (aR t (.arr e (rows++more)) (dG t st.aa)) s→aG st.aa s:=fun s hs=>by
  rcases bU.1 hs with e|e;·rw[e];exact hdt
  ·exact qD.1 e
 have hv'lt:∀b,cr v'=some b→b<w'.heap.size:=fun b hb'=>(hown'.lt b (by rw[←hbt'];exact hb')).2;have hm:∀b,aZ S0 w0.heap.size β st.aa w b→aZ S0 w0.heap.size (eG β t v') (aR t (.arr e (rows++more)) (dG t st.aa)) w' b∧w'.heap[b]?=w.heap[b]?:=by
  intro b ⟨h1,h2,h3⟩;have hbne:some b≠(β t).ownBlock:=fun e'=>h3 ⟨t,_,ht,by rw[hbt,←e']⟩;refine⟨⟨h1,q95 h2 hg.size,?_⟩,hg.block b h2 hbne⟩;rintro⟨s,o,hs,hbs⟩;by_cases e':s=t
  ·subst e';rw[aY,hbt']at hbs;rcases hb with hb|hb;·exact hbne (by rw[←hb,hbs])
   ·rw[hb]at hbs;injection hbs with hbs;omega
  ·rw[cJ _ _ e']at hbs;have hs':dG t st.aa s=some o:=by simpa[aR,e']using hs
   obtain⟨o',ho'⟩:=qD.1 ⟨o,hs'⟩;exact h3 ⟨s,_,ho',hbs⟩
 have hD:∀s,aG st.aa s→s≠t→aG (aR t (.arr e (rows++more)) (dG t st.aa)) s∧eG β t v' s=β s:=fun s hs hne=>⟨bU.2 (.inr (qD.2 hs)),cJ _ _ hne⟩;have hblkne:∀s,aG st.aa s→s≠t→∀b,cr (β s)=some b→w'.heap[b]?=w.heap[b]?:=fun s hs hne b hbs=>hg.block b (h.lt hs hbs) fun e'=>hne (h.heap.inj s t b hs hdt hbs (by rw[hbt,←e']));refine⟨h.size,h.defers,fun s=>(h.vars s).kill hp hm hD,⟨fun s o hs=>?_,fun s s' b hs hs' hbs hbs'=>?_⟩,fun s b hs hbs=>?_,h.qb,fun s h9 hs=>?_,?_⟩
 ·by_cases e':s=t
  ·subst e';have:o=.arr e (rows++more):=by simpa[aR]using hs.symm
   subst this;refine⟨inf,us++news,hi,?_,fun r hr=>?_,fun i j r p h1 h2=>?_⟩;·rw[aY,q74];exact hown'
   ·rcases q80.1 hr with hr|hr;·exact hrows r hr
    ·exact hmore r hr
   ·by_cases hlt:i<rows.length;·rw[q85 hlt]at h1;obtain⟨u,hu,h1',hr⟩:=hcs i j r p h1 h2;have hul:i*inf.size+j<us.length:=(q65.1 hu).1;exact⟨u,by rw[q85 hul];exact hu,h1',hr.mono hm⟩
    ·rw[q97 (by omega)]at h1;obtain⟨u,hu,h1',hr⟩:=hms (i-rows.length) j r p h1 h2;have he:i*inf.size+j-us.length=(i-rows.length)*inf.size+j:=by rw[hown.1,Nat.sub_mul];have:=q86 inf.size (show rows.length≤i by omega);omega
     have hle:us.length≤i*inf.size+j:=by rw[hown.1];have:=q86 inf.size (show rows.length≤i by omega);omega
     exact⟨u,by rw[q97 hle,he];exact hu,h1',hr.mono hm⟩
  ·have hs':dG t st.aa s=some o:=by simpa[aR,e']using hs
   obtain⟨o',ho',rfl⟩:=q0.1 hs';exact(h.heap.holds s o' ho').kill hp hm hD (cJ _ _ e') (hblkne s ⟨_,ho'⟩ e')
 ·have hs1:=hdom s hs;have hs2:=hdom s' hs';by_cases e1:s=t<;>by_cases e2:s'=t;·rw[e1,e2]
  ·subst e1;rw[aY,hbt']at hbs;rw[cJ _ _ e2]at hbs';rcases hb with hb|hb;·exact h.heap.inj s s' b hs1 hs2 (by rw[hbt,←hb,hbs]) hbs'
   ·have:=h.lt hs2 hbs';rw[hb]at hbs;injection hbs with hbs;omega
  ·subst e2;rw[aY,hbt']at hbs';rw[cJ _ _ e1]at hbs;rcases hb with hb|hb;·exact h.heap.inj s s' b hs1 hs2 hbs (by rw[hbt,←hb,hbs'])
   ·have:=h.lt hs1 hbs;rw[hb]at hbs';injection hbs' with hbs';omega
  ·rw[cJ _ _ e1]at hbs;rw[cJ _ _ e2]at hbs';exact h.heap.inj s s' b hs1 hs2 hbs hbs'
 ·have hs1:=hdom s hs;by_cases e1:s=t
  ·subst e1;rw[aY,hbt']at hbs;rcases hb with hb|hb;·exact h.old s b hs1 (by rw[hbt,←hb,hbs])
   ·rw[hb]at hbs;injection hbs with hbs;have:=h.bZ.size;exact .inl (by omega)
  ·rw[cJ _ _ e1]at hbs;exact h.old s b hs1 hbs
 ·have hst:s≠t:=fun e=>by subst e;exact ht9 h9
  rw[cJ _ _ hst];exact h.vw s h9 (hdom s hs)
 ·refine⟨hg.os.trans h.bZ.os,hg.tape.trans h.bZ.tape,hg.output.trans h.bZ.output,q113 h.bZ.size hg.size,fun b h1 h2=>?_⟩;refine(hg.block b (by have:=h.bZ.size;omega) fun e'=>?_).trans (h.bZ.block b h1 h2);rcases h.old t b hdt (by rw[hbt,←e']) with hx|hx;·omega
  ·exact h2 hx
end
end Go.Proofs.YtlicclncicbajaaGreat.Ab
