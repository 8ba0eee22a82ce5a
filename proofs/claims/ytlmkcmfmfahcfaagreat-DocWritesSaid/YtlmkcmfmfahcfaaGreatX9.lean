/- How the abstract machine reckons: objects handed over whole, maps of plain values, ranges. -/
import Derived.Test.YtlmkcmfmfahcfaaGreatX8
set_option linter.unusedVariables false
set_option linter.unusedSimpArgs false
set_option linter.unnecessarySimpa false
set_option maxHeartbeats 40000000
set_option maxRecDepth 100000
namespace Go.Proofs.YtlmkcmfmfahcfaaGreat.Ab.R
open Go Go.RowKit
section
variable{P:Program}{Γ:bN}{K:St→Prop}{vs:List (Nat×AV)}{os:List (Nat×AO)}
@[simp↓] theorem Jw {d:Nat}:aP (some d) .Le [] K ⟨look vs,ab os⟩=(ab os d=none∧K ⟨put (some d) (.own d) (look vs),bn [(d,.gr [])] (ab os)⟩):=rfl
@[simp↓] theorem Lu {d:Option Nat}{s:Nat}{x y z:AV}:aP d (.pO s) [x,y,z] K ⟨look vs,ab os⟩=oV d s (strip x) (strip y) (nS (strip z)) [x,y,z] K ⟨look vs,ab os⟩:=rfl
@[congr] theorem HH {d:Option Nat}{s:Nat}{x x' y y' z z':AV}{xs:List AV}{st:St} (h1:True→x=x') (h2:True→y=y') (h3:True→z=z'):oV d s x y z xs K st=oV d s x' y' z' xs K st:=by rw[h1 trivial,h2 trivial,h3 trivial]
@[simp↓] theorem QS {d:Option Nat}{s t:Nat}{k v:PV}{xs:List AV}:oV d s (.own t) (.pv k) (.pv v) xs K ⟨look vs,ab os⟩=(an xs∧ai (pS (ab os t)) fun es=>cX k=s∧eT s es∧K ⟨put d .ar (look vs),aH t (.gr (kS k v es)) (ab os)⟩):=rfl
@[simp↓] theorem IK {d:Option Nat}{s:Nat}{z:Value}{ok:Bool}{x y:AV}:aP d (.Bf s z ok) [x,y] K ⟨look vs,ab os⟩=ug d s z ok (strip x) (strip y) [x,y] K ⟨look vs,ab os⟩:=rfl
@[simp↓] theorem Pf {d:Option Nat}{s:Nat}{z:Value}{ok:Bool}{X:AV}{k:PV}{xs:List AV}:ug d s z ok X (.pv k) xs K ⟨look vs,ab os⟩=(an xs∧ai (El (ab os) X) fun es=>z.oneCell'=true∧cX k=s∧eT s es∧K ⟨put d (vG z ok (j4 k es)) (look vs),ab os⟩):=rfl
@[simp↓] theorem JU {d:Option Nat}{s:Nat}{x y:AV}:aP d (.VA s) [x,y] K ⟨look vs,ab os⟩=tO d s (strip x) (strip y) [x,y] K ⟨look vs,ab os⟩:=rfl
@[simp↓] theorem QC {d:Option Nat}{s t:Nat}{k:PV}{xs:List AV}:tO d s (.own t) (.pv k) xs K ⟨look vs,ab os⟩=(an xs∧ai (pS (ab os t)) fun es=>cX k=s∧eT s es∧K ⟨put d .ar (look vs),aH t (.gr (nV k es)) (ab os)⟩):=rfl
@[simp↓] theorem GQ {d:Option Nat}{ne:Bool}{x:AV}:aP d (.Cc ne) [x] K ⟨look vs,ab os⟩=(an [x]∧ai (sr (strip x)) fun b=>K ⟨put d (.pv (.bool (b !=ne))) (look vs),ab os⟩):=rfl
@[simp↓] theorem Lc {d:Option Nat}{x:AV}:aP d .Ss [x] K ⟨look vs,ab os⟩=uM d (strip x) [x] K ⟨look vs,ab os⟩:=rfl
@[simp↓] theorem Sz {d:Nat}{es:List (PV×PV)}{xs:List AV}:uM (some d) (.pv (.mv es)) xs K ⟨look vs,ab os⟩=(an xs∧ab os d=none∧K ⟨put (some d) (.ptr d 0) (look vs),bn [(d,.lU es none)] (ab os)⟩):=rfl
@[simp↓] theorem Kg {d:Option Nat}{x:AV}:aP d .Xm [x] K ⟨look vs,ab os⟩=uw d (strip x) [x] K ⟨look vs,ab os⟩:=rfl
@[simp↓] theorem Tl {d:Option Nat}{t:Nat}{xs:List AV}:uw d (.ptr t 0) xs K ⟨look vs,ab os⟩=(an xs∧ai (B9 (ab os t)) fun r=>(r.1=[]→K ⟨put d (.aL [.pv (.bool false)]) (look vs),ab os⟩)∧∀(e:PV×PV) (l m:List (PV×PV)),r.1=l++e::m→K ⟨put d (.aL [.pv (.bool true),.pv e.1,.pv e.2]) (look vs),aH t (.lU (l++m) (some e)) (ab os)⟩):=rfl
@[simp↓] theorem JY {d:Option Nat}{x:AV}:aP d .V4 [x] K ⟨look vs,ab os⟩=um d (strip x) [x] K ⟨look vs,ab os⟩:=rfl
@[simp↓] theorem TU {d:Option Nat}{t:Nat}{xs:List AV}:um d (.ptr t 0) xs K ⟨look vs,ab os⟩=(an xs∧ai (B9 (ab os t)) fun r=>ai r.2 fun e=>K ⟨put d (.aL [.pv e.1,.pv e.2]) (look vs),ab os⟩):=rfl
@[simp↓] theorem Pm {d f:Nat}{ks:List Nat}{xs:List AV}:stepG Γ (some d) f xs (some ks) K ⟨look vs,ab os⟩=(an xs∧vI Γ d f ks (xs.map strip) (eE (ab os) ks (xs.map strip)) ((dS ks (xs.map strip)).flatMap pM) K ⟨look vs,ab os⟩):=rfl
@[congr] theorem Ha {d:Option Nat}{f:Nat}{xs xs':List AV}{o o':Option (List Nat)}{st:St} (h1:True→xs=xs') (h2:True→o=o'):stepG Γ d f xs o K st=stepG Γ d f xs' o' K st:=by rw[h1 trivial,h2 trivial]
@[simp↓] theorem NF {d f:Nat}{ks:List Nat}{xs:List AV}{T Q:List Nat}:vI Γ d f ks xs T Q K ⟨look vs,ab os⟩=(T.Nodup∧(∀t∈Q,t∈T)∧vo Γ d f ks xs T Q (T.filter fun t=>!Q.contains t) K ⟨look vs,ab os⟩):=rfl
@[simp↓] theorem NN {d f:Nat}{ks:List Nat}{xs:List AV}{T Q W:List Nat}:vo Γ d f ks xs T Q W K ⟨look vs,ab os⟩=(Q.Nodup∧ai (BO (ab os) (ef T T (ab os)) T ks xs) fun ys=>vJ Γ d f ks xs T Q W K ⟨look vs,ab os⟩ ys):=rfl
@[simp↓] theorem OA {d f:Nat}{ks:List Nat}{xs ys:List AV}{T Q W:List Nat}:vJ Γ d f ks xs T Q W K ⟨look vs,ab os⟩ ys=ai (Γ (f+2000000) ys) fun x=>x.1∧(ej T ks xs=true∨∀y∈jY x.2++[jA x.2],gf 5 y)∧ai (mh (num 5 true) (jY x.2) (Q,mY d T W)) fun o=>o.1=dS ks xs∧ai (num 5 false (jA x.2) o.2.2) fun r=>(∀p∈o.2.1++r.2.1,T.contains p.1=true∨ab os p.1=none)∧K ⟨put (some d) r.1 (fX W (look vs)),bn (o.2.1++r.2.1) (ef T W (ab os))⟩:=rfl
end
@[simp↓] theorem Sc {P:Program}{Γ:bN}{d:Option Nat}{s:Nat}{z:Value}{ok:Bool}{x y:AV}{aa:Nat→Option AO}{C:bz→Prop}:aQ P Γ d (.ex (.Bf s z ok)) [x,y] aa C=(an [x,y]∧ai (ak (.ex (.Bf s z ok)) [strip x,strip y] aa) fun r=>r.1∧C (.put r.2)):=rfl
@[simp↓] theorem MB {P:Program}{Γ:bN}{d:Option Nat}{e:TypeId}{sz:Nat}{xs:List AV}{aa:Nat→Option AO}{C:bz→Prop}:aQ P Γ d (.ex (.gX e sz)) xs aa C=(an xs∧ai (ak (.ex (.gX e sz)) (xs.map strip) aa) fun r=>r.1∧C (.put r.2)):=rfl
@[simp↓] theorem L1 {P:Program}{Γ:bN}{d:Option Nat}{e:TypeId}{sz:Nat}{xs:List AV}{aa:Nat→Option AO}{C:bz→Prop}{c:Bool}:cb P Γ c d (.ex (.gX e sz)) xs aa C=ai (ak (.ex (.gX e sz)) (xs.map strip) aa) fun x=>(c=true→an xs∧x.1)∧C (.put (.b5 c x.2)):=rfl
@[simp] theorem ND {e:TypeId}{sz:Nat}{xs:List AV}{aa:Nat→Option AO}:ak (.ex (.gX e sz)) xs aa=(rowsOf xs).map fun rows=>(∀r∈rows,r.length=sz,.pv (.ro rows)):=nr (by unfold ak;rfl)
@[simp] theorem TX {s:Nat}{z:Value}{ok:Bool}{es:List (PV×PV)}{k:PV}{aa:Nat→Option AO}:ak (.ex (.Bf s z ok)) [.pv (.mv es),.pv k] aa=some (z.oneCell'=true∧cX k=s∧eT s es,vG z ok (j4 k es)):=nr rfl
@[simp] theorem Pr (k v:PV):kS k v []=[(k,v)]:=nr rfl
@[simp] theorem RJ (k k':IntKind) (a b:Int) (v x:PV) (l:List (PV×PV)):kS (.int k a) v ((.int k' b,x)::l)=if a=b then(.int k a,v)::l else(.int k' b,x)::kS (.int k a) v l:=by simp[kS,lJ]
@[simp] theorem CQ (k k':IntKind) (a b:Int) (x:PV) (l:List (PV×PV)):j4 (.int k a) ((.int k' b,x)::l)=if a=b then some x else j4 (.int k a) l:=by simp[j4,lJ]
@[simp] theorem zf (s:Nat) (e:PV×PV) (l:List (PV×PV)):eT s (e::l)=(cX e.1=s∧eT s l):=by simp[eT]
@[simp] theorem NI {f:FuncId}{args:List AV}:jQ (.pv (.val (.func (.func f) #[] #[]))::args)=some (f,args):=nr rfl
@[simp] theorem WK (t s:Nat) (es:List (PV×PV)):Ph t es (.own s)=if s=t then .pv (.mv es) else .own s:=nr rfl
@[simp] theorem Xp (vs:List (Nat×AV)) (os:List (Nat×AO)) (t:Nat):wI t ⟨look vs,ab os⟩=match pS (ab os t) with|some es=>⟨look (vs.map fun x=>(x.1,Ph t es x.2)),ab (FL t os)⟩|none=>⟨look vs,ab os⟩:=by unfold wI;dsimp only;cases pS (ab os t) with|none=>rfl|some es=>dsimp only;rw[su];congr 1;funext s;induction vs with|nil=>rfl|cons x l ih=>
 simp only[List.map_cons,look];split;·rfl
 ·exact ih
@[simp] theorem MS (es:List (PV×PV)):pS (some (.gr es))=some es:=nr rfl
@[simp] theorem XW (z:Value) (o:Option PV):vG z true o=.aL [.pv (o.getD (pT z)),.pv (.bool o.isSome)]:=nr rfl
@[simp] theorem Oa (s:Nat):eT s []=True:=by simp[eT]
@[simp] theorem Py (k:PV):j4 k []=none:=nr rfl
@[simp] theorem W7 (e:TypeId) (rows:List (List PV)):Oj (some (.arr e rows))=some (.fr e rows):=nr rfl
@[simp] theorem V7 (f:AV→Option (AV×List Nat)):Ex f []=some ([],[]):=nr rfl
@[simp] theorem SV (f:AV→Option (AV×List Nat)) (c:AV) (cs:List AV):Ex f (c::cs)=(f c).bind fun r=>(Ex f cs).map fun q=>(r.1::q.1,r.2++q.2):=nr rfl
@[simp] theorem Yr (n:Nat) (aa:Nat→Option AO) (t:Nat):rd (n+1) aa (.own t)=(Oj (aa t)).map fun y=>(y,[t]):=nr rfl
@[simp] theorem Yh (n:Nat) (aa:Nat→Option AO) (t:Nat):rd (n+1) aa (.ptr t 0)=(eg (aa t)).bind fun cs=>(Ex (rd n aa) cs).map fun r=>(.bx r.1,t::r.2):=nr rfl
@[simp] theorem ZE (n:Nat) (aa:Nat→Option AO) (p:PV):rd (n+1) aa (.pv p)=some (.pv p,[]):=nr rfl
@[simp] theorem Z8 (p:Nat) (ps us:List Nat):tk true (p::ps,us)=some (p,ps,us):=nr rfl
@[simp] theorem Z6 (u:Nat) (ps us:List Nat):tk false (ps,u::us)=some (u,ps,us):=nr rfl
@[simp] theorem Ul (f:AV→List Nat×List Nat→Option (AV×List (Nat×AO)×List Nat×List Nat)) (s:List Nat×List Nat):mh f [] s=some ([],[],s):=nr rfl
@[simp] theorem LS (f:AV→List Nat×List Nat→Option (AV×List (Nat×AO)×List Nat×List Nat)) (c:AV) (cs:List AV) (s:List Nat×List Nat):mh f (c::cs) s=(f c s).bind fun r=>(mh f cs r.2.2).map fun q=>(r.1::q.1,r.2.1++q.2.1,q.2.2):=nr rfl
@[simp] theorem X6 (n:Nat) (top:Bool) (e:TypeId) (rows:List (List PV)) (s:List Nat×List Nat):num (n+1) top (.fr e rows) s=(tk top s).map fun q=>(.own q.1,[(q.1,.arr e rows)],q.2):=nr rfl
@[simp] theorem YO (n:Nat) (top:Bool) (cs:List AV) (s:List Nat×List Nat):num (n+1) top (.bx cs) s=(tk top s).bind fun q=>(mh (num n false) cs q.2).map fun r=>(.ptr q.1 0,(q.1,.box r.1)::r.2.1,r.2.2):=nr rfl
@[simp] theorem Wx (n:Nat) (top:Bool) (cs:List AV) (s:List Nat×List Nat):num (n+1) top (.agg cs) s=(mh (num n top) cs s).map fun r=>(.agg r.1,r.2):=nr rfl
@[simp] theorem Xq (n:Nat) (top:Bool) (cs:List AV) (s:List Nat×List Nat):num (n+1) top (.aL cs) s=(mh (num n top) cs s).map fun r=>(.aL r.1,r.2):=nr rfl
@[simp] theorem Ys (n:Nat) (top:Bool) (p:PV) (s:List Nat×List Nat):num (n+1) top (.pv p) s=some (.pv p,[],s):=nr rfl
@[simp] theorem T8 (t:Nat):pM (.own t)=[t]:=nr rfl
@[simp] theorem UM (t:Nat):pM (.ptr t 0)=[t]:=nr rfl
@[simp] theorem Vt (aa objs':Nat→Option AO) (T:List Nat):BO aa objs' T [] []=some []:=nr rfl
@[simp] theorem ZH (aa objs':Nat→Option AO) (T ks:List Nat) (x:AV) (xs:List AV):BO aa objs' T (0::ks) (x::xs)=(m7 objs' (er T x)).bind fun y=>(BO aa objs' T ks xs).map (y::·):=nr rfl
@[simp] theorem Zq (aa objs':Nat→Option AO) (T ks:List Nat) (x:AV) (xs:List AV):BO aa objs' T (2::ks) (x::xs)=((rd 5 aa x).map fun r=>.aL [r.1]).bind fun y=>(BO aa objs' T ks xs).map (y::·):=nr rfl
@[simp] theorem O0 (aa:Nat→Option AO):eE aa [] []=[]:=nr rfl
@[simp] theorem Wu (aa:Nat→Option AO) (ks:List Nat) (x:AV) (xs:List AV):eE aa (0::ks) (x::xs)=eE aa ks xs:=nr rfl
@[simp] theorem Xh (aa:Nat→Option AO) (ks:List Nat) (x:AV) (xs:List AV):eE aa (2::ks) (x::xs)=((rd 5 aa x).map (·.2)).getD []++eE aa ks xs:=nr rfl
@[simp] theorem M8:dS [] []=[]:=nr rfl
@[simp] theorem Vj (ks:List Nat) (x:AV) (xs:List AV):dS (0::ks) (x::xs)=dS ks xs:=nr rfl
@[simp] theorem Wi (ks:List Nat) (x:AV) (xs:List AV):dS (2::ks) (x::xs)=x::dS ks xs:=nr rfl
@[simp] theorem Jx (T:List Nat):ej T [] []=true:=nr rfl
@[simp] theorem Tg (T ks:List Nat) (x:AV) (xs:List AV):ej T (0::ks) (x::xs)=(dC (er T x)&&ej T ks xs):=nr rfl
@[simp] theorem PU (T ks:List Nat) (x:AV) (xs:List AV):ej T (2::ks) (x::xs)=ej T ks xs:=nr rfl
@[simp] theorem Sa (n:Nat) (e:TypeId) (rows:List (List PV)):gf (n+1) (.fr e rows)=bV rows:=nr rfl
@[simp] theorem QO (n:Nat) (cs:List AV):gf (n+1) (.bx cs)=∀c∈cs,gf n c:=nr rfl
@[simp] theorem N4 (n:Nat) (cs:List AV):gf (n+1) (.aL cs)=∀c∈cs,gf n c:=nr rfl
@[simp] theorem SW (n:Nat) (p:PV):gf (n+1) (.pv p)=(gK p=true):=nr rfl
@[simp] theorem Uv (n:Nat) (r:AV) (l:List AV):jY (.bA n (r::l))=l:=nr rfl
@[simp] theorem R9 (n:Nat) (r:AV) (l:List AV):jA (.bA n (r::l))=r:=nr rfl
@[simp] theorem Xx (l:List PV):Jc (.rp l)=some (l.map fun p=>match p with|.int _ n=>n.toNat|_=>0):=nr rfl
@[simp] theorem TI (d:Nat) (T W:List Nat):mY d T W=W.filter (fun t=>t%1000 !=999)++[d,d+1000,d+2000,d+3000,d+4000,d+5000,d+6000,d+7000].filter fun t=>!T.contains t:=nr rfl
@[simp] theorem Qg (x:AV):er [] x=x:=nr rfl
@[simp] theorem ME (t:Nat) (W:List Nat) (x:AV):er (t::W) x=jT (t::W) x:=nr rfl
@[simp] theorem M5 (W:List Nat) (g:Bool) (v:AV):jT W (.b5 g v)=.b5 g (jT W v):=nr rfl
@[simp] theorem My (W:List Nat) (cs:List AV):jT W (.agg cs)=.agg (cs.map (dK W)):=nr rfl
@[simp] theorem MQ (W:List Nat) (t o:Nat):jT W (.ptr t o)=dK W (.ptr t o):=nr rfl
@[simp] theorem QF (W:List Nat) (p:PV):jT W (.pv p)=.pv p:=nr rfl
@[simp] theorem KL (W:List Nat):jT W .ar=.ar:=nr rfl
@[simp] theorem L7 (W:List Nat) (t o:Nat):dK W (.ptr t o)=if W.contains t then .ar else .ptr t o:=nr rfl
@[simp] theorem Ut (W:List Nat) (p:PV):dK W (.pv p)=.pv p:=nr rfl
@[simp] theorem Mr (o:AO):iD [] o=o:=nr rfl
@[simp] theorem La (t:Nat) (W:List Nat) (o:AO):iD (t::W) o=vb (t::W) o:=nr rfl
@[simp] theorem IZ (W:List Nat) (cs:List AV):vb W (.box cs)=.box (cs.map (dK W)):=nr rfl
@[simp] theorem Jh (W:List Nat) (e:TypeId) (rows:List (List PV)):vb W (.arr e rows)=.arr e rows:=nr rfl
@[simp] theorem I3 (W:List Nat) (l:List (Nat×AV)):fX W (look l)=look (l.map fun x=>(x.1,er W x.2)):=by funext s;unfold fX;induction l with|nil=>show er W .ar=.ar;unfold er;split<;>rfl|cons x l ih=>
 obtain⟨k,v⟩:=x;simp only[List.map_cons,look];split;·rfl
 ·exact ih
def Ig (T W:List Nat):List (Nat×AO)→List (Nat×AO)|[]=>[]|x::l=>if T.contains x.1=true then Ig T W l else(x.1,iD W x.2)::Ig T W l
@[simp] theorem Wh (T W:List Nat):Ig T W []=[]:=nr rfl
@[simp] theorem CH (T W:List Nat) (s:Nat) (o:AO) (l:List (Nat×AO)):Ig T W ((s,o)::l)=if T.contains s=true then Ig T W l else(s,iD W o)::Ig T W l:=nr rfl
@[simp] theorem KS (T W:List Nat) (l:List (Nat×AO)):ef T W (ab l)=ab (Ig T W l):=by funext s;unfold ef;induction l with|nil=>simp[Ig,ab]|cons x l ih=>
 obtain⟨k,v⟩:=x;simp only[CH,ab];by_cases hs:T.contains s=true
 ·rw[if_pos hs]at ih ⊢;by_cases hk:T.contains k=true;·rw[if_pos hk];exact ih
  ·have:¬s=k:=fun e=>hk (e▸hs);rw[if_neg hk];simp only[ab,if_neg this];exact ih
 ·rw[if_neg hs]at ih ⊢;by_cases hsk:s=k;·subst hsk;rw[if_neg hs];simp[ab]
  ·rw[if_neg hsk];by_cases hk:T.contains k=true;·rw[if_pos hk];exact ih
   ·rw[if_neg hk];simp only[ab,if_neg hsk];exact ih
@[simp] theorem Vy (cs:List AV):Ew (.agg cs)=cs.any fun c=>match c with|.bx _|.mf _=>true|_=>false:=nr rfl
@[simp] theorem Y6 (p:PV):Ew (.pv p)=false:=nr rfl
@[simp] theorem XU (e:TypeId) (rows:List (List PV)):Ew (.fr e rows)=false:=nr rfl
@[simp] theorem VF (vs:List AV):nj (.aL vs)=vs.any Ew:=nr rfl
@[simp] theorem VS (cs:List AV):nj (.agg cs)=Ew (.agg cs):=nr rfl
@[simp] theorem Zc (p:PV):nj (.pv p)=false:=nr rfl
@[simp] theorem Y1 (e:TypeId) (rows:List (List PV)):nj (.fr e rows)=false:=nr rfl
@[simp] theorem UP (r:AV):oI r=if nj r=true then gf 5 r else flat r:=nr rfl
@[simp] theorem Wc (d:Nat) (r:AV):iT d r=if nj r=true then(((num 5 false r ([],jg d)).map (·.2.1)).getD []) else aK d r:=nr rfl
@[simp] theorem Wg (d:Nat) (r:AV):xZ d r=if nj r=true then(((num 5 false r ([],jg d)).map (·.1)).getD .ar) else cJ (ko d) r:=nr rfl
@[simp] theorem Wb (d:Nat) (r:AV):yh d r=if nj r=true then(num 5 false r ([],jg d)).isSome else cH r:=nr rfl
@[simp] theorem PD (d:Nat):jg d=[d,d+1000,d+2000,d+3000,d+4000,d+5000,d+6000,d+7000]:=nr rfl
@[congr] theorem ER {P:Program}{rs:List (Nat×Option (Option Nat))}{L:List AV}{x:AV}{st st':St} (h:True→st=st'):nq P rs L x st=nq P rs L x st':=by rw[h trivial]
@[congr] theorem GS {P:Program}{rs:List (Nat×Option (Option Nat))}{L:List AV}{x:AV}{st st':St} (h:True→st=st'):oE P rs L x st=oE P rs L x st':=by rw[h trivial]
section
variable{P:Program}{aa:Nat→Option AO}
@[simp] theorem WY (f:AV→AV→Prop):uq f [] []=True:=nr rfl
@[simp] theorem Tp (f:AV→AV→Prop) (c y:AV) (cs ys:List AV):uq f (c::cs) (y::ys)=(f c y∧uq f cs ys):=nr rfl
@[simp] theorem ZP (n:Nat) (x:AV) (e:TypeId) (rows:List (List PV)):mt P aa (n+1) x (.fr e rows)=th P aa x (.fr e rows):=nr rfl
@[simp] theorem ZL (n t:Nat) (cs:List AV):mt P aa (n+1) (.ptr t 0) (.bx cs)=ai (eg (aa t)) fun l=>uq (mt P aa n) l cs:=by
 show(∃t' l,AV.ptr t 0=.ptr t' 0∧aa t'=some (.box l)∧uq (mt P aa n) l cs)=_;apply propext;constructor;·rintro⟨t',l,h,h',h''⟩;cases h;rw[h'];exact h''
 ·intro h;obtain⟨l,hl,h⟩:=ae h;exact⟨t,l,rfl,eM hl,h⟩
@[simp] theorem XV (n:Nat) (l cs:List AV):mt P aa (n+1) (.aL l) (.aL cs)=uq (mt P aa n) l cs:=by show(∃l',AV.aL l=.aL l'∧uq (mt P aa n) l' cs)=_;apply propext;exact⟨fun⟨_,h,h'⟩=>by cases h;exact h',fun h=>⟨l,rfl,h⟩⟩
@[simp] theorem ZQ (n:Nat) (x:AV) (p:PV):mt P aa (n+1) x (.pv p)=(x=.pv p):=nr rfl
@[simp] theorem Y7 (n t:Nat):tg aa (n+1) (.own t)=[t]:=nr rfl
@[simp] theorem YW (n t:Nat):tg aa (n+1) (.ptr t 0)=t::((eg (aa t)).getD []).flatMap (tg aa n):=nr rfl
@[simp] theorem X8 (n:Nat) (cs:List AV):tg aa (n+1) (.aL cs)=cs.flatMap (tg aa n):=nr rfl
@[simp] theorem Zx (n:Nat) (p:PV):tg aa (n+1) (.pv p)=[]:=nr rfl
end
def CP (ks:List Nat) (G:List AV→Option (Prop×AV)) (ys:List AV):Option (Prop×AV):=match ys with|[.ar]=>some (True,.rp (ks.map fun k:Nat=>PV.int .i64 (k:Int)))|ys=>G ys
def dH (P:Program) (f:FuncId) (G:List AV→Option (Prop×AV)):Prop:=∀ys φ r,G ys=some (φ,r)→φ→yL P f ys r
@[simp] theorem OW (ks:List Nat) (G:List AV→Option (Prop×AV)):CP ks G [.ar]=some (True,.rp (ks.map fun k:Nat=>PV.int .i64 (k:Int))):=nr rfl
@[simp] theorem WE (ks:List Nat) (G:List AV→Option (Prop×AV)) (q:PV) (l:List AV):CP ks G (.pv q::l)=G (.pv q::l):=nr rfl
@[simp] theorem PE (ks:List Nat) (G:List AV→Option (Prop×AV)) (q l:List AV):CP ks G (.aL q::l)=G (.aL q::l):=nr rfl
@[simp↓] theorem Zr (Γ:bN) (f:FuncId) (ys:List AV):gt Γ f ys=MK (Γ f ys) (Γ (f+3000000) ys):=rfl
@[congr] theorem OF {a a' b:Option (Prop×AV)} (h:True→a=a'):MK a b=MK a' b:=by rw[h trivial]
@[simp↓] theorem P9 (x:Prop×AV) (y:Option (Prop×AV)):MK (some x) y=some (x.1∧nj x.2=false,x.2):=rfl
@[simp↓] theorem R1 (y:Option (Prop×AV)):MK none y=y.map fun x=>(x.1∧nj x.2=true,x.2):=rfl
section
variable{P:Program}{Γ:bN}{vs:List (Nat×AV)}{os:List (Nat×AO)}{K:St→Prop}{rs:List (Nat×Option (Option Nat))}{r:AV}{aa:Nat→Option AO}{C:List AV→Prop}
@[simp↓] theorem Uj:yb K .ret ⟨look vs,ab os⟩=K ⟨look vs,ab os⟩:=rfl
@[simp↓] theorem L5 {id:Nat}:yb K (.exit id) ⟨look vs,ab os⟩=False:=rfl
@[simp↓] theorem Vu {r:AV}:Ends P rs r ⟨look vs,ab os⟩=cz ⟨look vs,ab os⟩ rs fun xs=>uj P rs r (ck (lB (bL xs) r) ⟨look vs,ab os⟩):=rfl
@[congr] theorem HM {st st':St}{r:AV} (h:True→st=st'):uj P rs r st=uj P rs r st':=by rw[h trivial]
@[simp↓] theorem Qq {r:AV}{hout:List (Nat×AO)}:lK P rs r hout ⟨look vs,ab os⟩=cz ⟨look vs,ab os⟩ rs fun xs=>mo P rs r hout (ck (lB (bL xs) r) ⟨look vs,ab os⟩):=rfl
@[congr] theorem GO {st st':St}{r:AV}{hout:List (Nat×AO)} (h:True→st=st'):mo P rs r hout st=mo P rs r hout st':=by rw[h trivial]
@[simp↓] theorem NH {r:AV}{hout:List (Nat×AO)}:mo P rs r hout ⟨look vs,ab os⟩=cz ⟨look vs,ab os⟩ rs fun xs=>fz P (ab os) (bL xs) r∧jr (pl (bL xs))∧ky (ab os) (pl (bL xs)) hout:=rfl
@[simp] theorem IJ (l:List (Nat×Nat)):ky aa l []=True:=nr rfl
@[simp] theorem HC (l:List (Nat×Nat)) (x:Nat×AO) (hout:List (Nat×AO)):ky aa l (x::hout)=(aa x.1=some x.2∧(∀y∈l,y.2≠x.1)∧ky aa l hout):=nr rfl
@[simp] theorem X3 (e:TypeId) (rows:List (List PV)):Et (.fr e rows)=.own 998:=nr rfl
@[simp] theorem VC (e:TypeId) (rows:List (List PV)):Et (.aL [.fr e rows])=.own 999:=nr rfl
@[simp] theorem YV (p:PV):Et (.pv p)=.pv p:=nr rfl
@[simp] theorem Wj (f:FuncId) (l:List AV):Et (.bA f l)=.bA f l:=nr rfl
@[simp] theorem Vw:lk []=[]:=nr rfl
@[simp] theorem Yj (e:TypeId) (rows:List (List PV)) (l:List AV):lk (.fr e rows::l)=[(998,.arr e rows)]:=nr rfl
@[simp] theorem Wd (e:TypeId) (rows:List (List PV)) (l:List AV):lk (.aL [.fr e rows]::l)=[(999,.arr e rows)]:=nr rfl
@[simp] theorem YT (p:PV) (l:List AV):lk (.pv p::l)=lk l:=nr rfl
@[simp↓] theorem Qe {r:AV}:uj P rs r ⟨look vs,ab os⟩=cz ⟨look vs,ab os⟩ rs fun xs=>fz P (ab os) (bL xs) r∧jr (pl (bL xs)):=rfl
@[simp↓] theorem TM {L:List AV}{x:AV}:oE P rs L x ⟨look vs,ab os⟩=cz ⟨look vs,ab os⟩ rs fun xs=>nq P rs L x (ck (lB (bL xs) (jA x)) ⟨look vs,ab os⟩):=rfl
@[simp↓] theorem LG {L:List AV}{x:AV}:nq P rs L x ⟨look vs,ab os⟩=cz ⟨look vs,ab os⟩ rs fun xs=>mt P (ab os) 6 (bL xs) (jA x)∧uq (mt P (ab os) 5) L (jY x)∧(L.flatMap (tg (ab os) 5)++tg (ab os) 6 (bL xs)).Nodup:=rfl
@[simp] theorem QK {f:FuncId}:gO Γ f=(Γ (f+2000000) [.ar]).bind fun x=>Jc x.2:=nr rfl
@[simp] theorem YN {k:Nat}{o:AO}{R:Nat→AO→Prop}{p:Nat→AO→Prop}:(∀a b,a=k∧b=o∨R a b→p a b)=(p k o∧∀a b,R a b→p a b):=propext ⟨fun h=>⟨h k o (.inl ⟨rfl,rfl⟩),fun a b r=>h a b (.inr r)⟩,fun h a b r=>by
 rcases r with⟨rfl,rfl⟩|r;·exact h.1
 ·exact h.2 a b r⟩
@[simp] theorem Rj {α:Type} (l:List α):dX [] l=[]:=nr rfl
@[simp] theorem Rx {α:Type} (y:AV) (ys:List AV) (v:α) (l:List α):dX (.aL [y]::ys) (v::l)=v::dX ys l:=nr rfl
@[simp] theorem VY {α:Type} (p:PV) (ys:List AV) (v:α) (l:List α):dX (.pv p::ys) (v::l)=dX ys l:=nr rfl
@[simp] theorem NM (t:Nat):qh (.own t)=true:=nr rfl
@[simp] theorem Na (t:Nat):qh (.ptr t 0)=true:=nr rfl
@[simp] theorem Pc (vs rs:List AV):lB (.aL vs) (.aL rs)=uh vs rs:=nr rfl
@[simp] theorem TH (vs:List AV) (r:AV):lB (.agg vs) r=zM (.agg vs) r:=by cases r<;>rfl
@[simp] theorem Wq (p:PV) (r:AV):lB (.pv p) r=pQ (.pv p) r:=by cases r<;>rfl
@[simp] theorem Io (t:Nat) (e:TypeId) (rows:List (List PV)):lB (.own t) (.fr e rows)=[]:=nr rfl
@[simp] theorem Mi:uh [] []=[]:=nr rfl
@[simp] theorem KZ (c r:AV) (cs rs:List AV):uh (c::cs) (r::rs)=zM c r++uh cs rs:=nr rfl
@[simp] theorem M1:ud [] []=[]:=nr rfl
@[simp] theorem JQ (c r:AV) (cs rs:List AV):ud (c::cs) (r::rs)=pQ c r++ud cs rs:=nr rfl
@[simp] theorem Rm (cs rs:List AV):zM (.agg cs) (.agg rs)=ud cs rs:=nr rfl
@[simp] theorem Xg (p:PV) (r:AV):zM (.pv p) r=pQ (.pv p) r:=by cases r<;>rfl
@[simp] theorem PK (t:Nat) (r:AV):zM (.own t) r=pQ (.own t) r:=by cases r<;>rfl
@[simp] theorem HG (t:Nat) (e:TypeId) (rows:List (List PV)):pQ (.own t) (.fr e rows)=[]:=nr rfl
@[simp] theorem Hd (t:Nat) (es:List (PV×PV)):lB (.own t) (.pv (.mv es))=[t+1000000000000000]:=nr rfl
@[simp] theorem OX (p:PV):pQ (.pv p) (.pv p)=[]:=by cases p<;>rfl
@[simp] theorem LW (p:PV) (k:IntKind) (n:Int):pQ (.pv p) (.pv (.int k n))=[]:=by cases p<;>rfl
@[simp] theorem KM (p:PV) (b:Bool):pQ (.pv p) (.pv (.bool b))=[]:=by cases p<;>rfl
@[simp] theorem On (p:PV) (l:List UInt8):pQ (.pv p) (.pv (.str l))=[]:=by cases p<;>rfl
@[simp] theorem R4 (p:PV) (e:TypeId) (rows:List (List PV)):pQ (.pv p) (.fr e rows)=[]:=by cases p<;>rfl
@[simp↓] theorem Ij:cz ⟨look vs,ab os⟩ [] C=C []:=rfl
@[simp↓] theorem HY {t:Nat}:cz ⟨look vs,ab os⟩ ((t,none)::rs) C=cz ⟨look vs,ab os⟩ rs fun xs=>C (look vs t::xs):=rfl
@[simp↓] theorem GH {t:Nat}{n:Option Nat}:cz ⟨look vs,ab os⟩ ((t,some n)::rs) C=ai (ak (.load n) [look vs t] (ab os)) fun x=>x.1∧cz ⟨look vs,ab os⟩ rs fun xs=>C (x.2::xs):=rfl
@[simp] theorem G5:bL []=.aL []:=nr rfl
@[simp] theorem Hr (v:AV):bL [v]=v:=nr rfl
@[simp] theorem HI (v u:AV) (l:List AV):bL (v::u::l)=.aL (v::u::l):=nr rfl
@[simp] theorem SN (i:Nat):mm i []=[]:=nr rfl
@[simp] theorem MT (i:Nat) (v:AV) (l:List AV):mm i (v::l)=(i,v)::mm (i+1) l:=nr rfl
@[simp] theorem VJ (t:Nat) (e:TypeId) (rows:List (List PV)):th P aa (.own t) (.fr e rows)=(aa t=some (.arr e rows)):=by
 apply propext;constructor
 ·rintro(⟨s,h,h2⟩|⟨h,_⟩|⟨_,_,_,h,_⟩);·cases h;exact h2
  ·cases h
  ·cases h
 ·exact fun h=>.inl ⟨t,rfl,h⟩
@[simp] theorem Xn (t:Nat) (e e1:TypeId) (hi:Nat) (rows:List (List PV)):th P aa (.sub t e1 0 hi) (.fr e rows)=(e1=e∧∃rs,aa t=some (.arr e rs)∧rows=rs.take hi):=by
 apply propext;constructor
 ·rintro(⟨s,h,h2⟩|⟨h,_⟩|⟨s,hi',rs,h,h2,h3⟩);·cases h
  ·cases h
  ·cases h;exact⟨rfl,rs,h2,h3⟩
 ·rintro⟨rfl,rs,h2,h3⟩;exact .inr (.inr ⟨t,hi,rs,rfl,h2,h3⟩)
@[simp] theorem XN (t:Nat) (e:TypeId) (lo hi:Nat) (r:AV):fz P aa (.sub t e lo hi) r=th P aa (.sub t e lo hi) r:=nr rfl
@[simp] theorem Td (t:Nat) (e:TypeId) (lo hi:Nat) (r:AV):lB (.sub t e lo hi) r=[]:=by cases r<;>rfl
@[simp] theorem WD (e:TypeId) (rows:List (List PV)):th P aa (.pv .nil) (.fr e rows)=(rows=[]∧(P.info? e).isSome=true):=by
 apply propext;constructor
 ·rintro(⟨s,h,h2⟩|⟨_,h⟩|⟨_,_,_,h,_⟩);·cases h
  ·exact h
  ·cases h
 ·exact fun h=>.inr (.inl ⟨rfl,h⟩)
@[simp] theorem Yd (p q:PV):th P aa (.pv p) (.pv q)=(p=q):=by
 apply propext;constructor;·rintro⟨h,_⟩;cases h;rfl
 ·rintro rfl;exact⟨rfl,rfl⟩
@[simp] theorem PZ:xP P aa [] []=True:=nr rfl
@[simp] theorem Mb (c d:AV) (cs ds:List AV):xP P aa (c::cs) (d::ds)=(th P aa c d∧xP P aa cs ds):=nr rfl
@[simp] theorem WL (cs ds:List AV):zY P aa (.agg cs) (.agg ds)=xP P aa cs ds:=nr rfl
@[simp] theorem XP (p:PV) (r:AV):zY P aa (.pv p) r=th P aa (.pv p) r:=nr rfl
@[simp] theorem WB (t:Nat) (r:AV):zY P aa (.own t) r=th P aa (.own t) r:=nr rfl
@[simp] theorem TK:xy P aa [] []=True:=nr rfl
@[simp] theorem N3 (c d:AV) (cs ds:List AV):xy P aa (c::cs) (d::ds)=(zY P aa c d∧xy P aa cs ds):=nr rfl
@[simp] theorem Yw (cs ds:List AV):fz P aa (.aL cs) (.aL ds)=(cs.length≤1000∧xy P aa cs ds):=nr rfl
@[simp] theorem X9 (cs:List AV) (r:AV):fz P aa (.agg cs) r=zY P aa (.agg cs) r:=nr rfl
@[simp] theorem ZJ (p:PV) (r:AV):fz P aa (.pv p) r=th P aa (.pv p) r:=nr rfl
@[simp] theorem Yv (t:Nat) (r:AV):fz P aa (.own t) r=th P aa (.own t) r:=nr rfl
@[simp] theorem PS (j:Nat):pI j []=[]:=nr rfl
@[simp] theorem Sn (j t:Nat) (cs:List AV):pI j (.own t::cs)=(1000*j,t)::pI (j+1) cs:=nr rfl
@[simp] theorem Yu (t:Nat) (e:TypeId) (lo hi:Nat):pl (.sub t e lo hi)=[(0,t)]:=nr rfl
@[simp] theorem Vp (j:Nat) (p:PV) (cs:List AV):pI j (.pv p::cs)=pI (j+1) cs:=nr rfl
@[simp] theorem XB (cs:List AV):Lx (.agg cs)=pI 0 cs:=nr rfl
@[simp] theorem Vl (t:Nat):Lx (.own t)=[(0,t)]:=nr rfl
@[simp] theorem YL (p:PV):Lx (.pv p)=[]:=nr rfl
@[simp] theorem SB (i:Nat):zF i []=[]:=nr rfl
@[simp] theorem Oz (i:Nat) (v:AV) (vs:List AV):zF i (v::vs)=(Lx v).map (fun x=>(x.1+i,x.2))++zF (i+1) vs:=nr rfl
@[simp] theorem X5 (vs:List AV):pl (.aL vs)=zF 0 vs:=nr rfl
@[simp] theorem YH (cs:List AV):pl (.agg cs)=pI 0 cs:=nr rfl
@[simp] theorem Yx (t:Nat):pl (.own t)=[(0,t)]:=nr rfl
@[simp] theorem ZM (p:PV):pl (.pv p)=[]:=nr rfl
@[simp] theorem Jp:jr []=True:=nr rfl
@[simp] theorem GU (x:Nat×Nat) (l:List (Nat×Nat)):jr (x::l)=((∀y∈l,y.2≠x.2)∧jr l):=nr rfl
end
section
variable{P:Program}{Γ:bN}{vs:List (Nat×AV)}{os:List (Nat×AO)}{st:St}{ad:List Nat}
theorem Cr {K:St→Prop}{J:Exit→St→Prop}{a:AC}{α:Type} (I:α→Prop) (F:α→Fr) (μ:α→Nat) (ad shs:List Nat) (x0:α) (hI:I x0) (h0:wk P ad (ck shs st) (F x0)) (hr:∀x,I x→gq P Γ a (fun st'=>∃x',I x'∧wk P [] (ck shs st') (F x')∧μ x'<μ x) J (F x).st):gq P Γ (.loop a) K J st:=by
 refine⟨{x:α//I x},fun x=>F x.1,fun x=>μ x.1,ad,shs,⟨x0,hI⟩,h0,fun x=>?_⟩;have hK:(fun st'=>∃i':{x:α//I x},wk P [] (ck shs st') (F i'.1)∧μ i'.1<μ x.1)=fun st'=>∃x',I x'∧wk P [] (ck shs st') (F x')∧μ x'<μ x.1:=by
  funext st';apply propext;constructor;·rintro⟨⟨y,hy⟩,h⟩;exact⟨y,hy,h⟩
  ·rintro⟨y,hy,h⟩;exact⟨⟨y,hy⟩,h⟩
 show gq P Γ a (fun st'=>∃i':{x:α//I x},wk P [] (ck shs st') (F i'.1)∧μ i'.1<μ x.1) J (F x.1).st;rw[hK];exact hr x.1 x.2
theorem au {K:St→Prop}{J:Exit→St→Prop}{a:AC}{α:Type} (I:α→Prop) (F:α→Fr) (μ:α→Nat) (ad:List Nat) (x0:α) (hI:I x0) (h0:wk P ad st (F x0)) (hr:∀x,I x→gq P Γ a (fun st'=>∃x',I x'∧wk P [] st' (F x')∧μ x'<μ x) J (F x).st):gq P Γ (.loop a) K J st:=Cr I F μ ad [] x0 hI h0 hr
@[simp] theorem JM (st:St):ck [] st=st:=nr rfl
@[simp] theorem HX (t:Nat) (l:List Nat) (st:St):ck (t::l) st=ck l (uV t st):=nr rfl
@[simp] theorem Om (t:Nat) (st:St):uV t st=if t=999996 then vT st else if 1000000000000000≤t then wI (t-1000000000000000) st else share1 st (.own t):=nr rfl
@[simp] theorem Zv (vs':List (Nat×AV)) (os':List (Nat×AO)):wk P ad ⟨look vs,ab os⟩ ⟨vs',os'⟩=(J6 ad ⟨look vs,ab os⟩ os' vs'∧Lh P ad ⟨look vs,ab os⟩ os' os'):=nr rfl
@[simp] theorem VO (os':List (Nat×AO)):J6 ad ⟨look vs,ab os⟩ os' []=True:=nr rfl
@[simp] theorem Qi (os':List (Nat×AO)) (s:Nat) (v:AV) (l:List (Nat×AV)):J6 ad ⟨look vs,ab os⟩ os' ((s,v)::l)=((v=.ar∨(look vs s=v∧kP os' v)∨(∃t,v=.own t∧ad.contains t=true∧ay (ab os') t∧look vs s=.pv .nil))∧J6 ad ⟨look vs,ab os⟩ os' l):=nr rfl
@[simp] theorem Wo (os':List (Nat×AO)):Lh P ad ⟨look vs,ab os⟩ os' []=True:=nr rfl
@[simp] theorem QJ (os':List (Nat×AO)) (t:Nat) (o:AO) (l:List (Nat×AO)):Lh P ad ⟨look vs,ab os⟩ os' ((t,o)::l)=(((ab os t=some o∧ad.contains t=false∧ue os' o)∨(∃e,o=.arr e []∧ad.contains t=true∧ab os t=none∧(P.info? e).isSome=true∧t%1000≠999))∧Lh P ad ⟨look vs,ab os⟩ os' l):=nr rfl
@[simp] theorem Mn (f:FuncId) (cs:List AV):kP os (.bA f cs)=fR os cs:=nr rfl
@[simp] theorem RG (p:PV):kP os (.pv p)=True:=nr rfl
@[simp] theorem NL (t:Nat):kP os (.own t)=ay (ab os) t:=nr rfl
@[simp] theorem L0 (t o:Nat):kP os (.ptr t o)=ay (ab os) t:=nr rfl
@[simp] theorem NA (t:Nat) (e:TypeId) (lo hi:Nat):kP os (.sub t e lo hi)=ay (ab os) t:=nr rfl
@[simp] theorem R5 (p:PV):iR os (.pv p)=True:=nr rfl
@[simp] theorem Rz (p:List PV):iR os (.rp p)=True:=nr rfl
@[simp] theorem OH (t:Nat):iR os (.own t)=ay (ab os) t:=nr rfl
@[simp] theorem Lg:fR os []=True:=nr rfl
@[simp] theorem HZ (c:AV) (cs:List AV):fR os (c::cs)=(iR os c∧fR os cs):=nr rfl
@[simp] theorem Ma (cs:List AV):ue os (.box cs)=fR os cs:=nr rfl
@[simp] theorem Ol (e:TypeId) (rows:List (List PV)):ue os (.arr e rows)=True:=nr rfl
@[simp] theorem Mq (es:List (PV×AV)):ue os (.map es)=True:=nr rfl
@[simp] theorem Xb (t:Nat):ay (ab []) t=False:=by
 apply propext;constructor;·rintro⟨o,h⟩;cases h
 ·exact False.elim
@[simp] theorem SH (s t:Nat) (o:AO) (l:List (Nat×AO)):ay (ab ((s,o)::l)) t=(t=s∨ay (ab l) t):=by apply propext;unfold ay;simp only[yZ];by_cases h:t=s<;>simp[h]
end
@[simp↓] theorem IS {P:Program}{Γ:bN}{d:Nat}{f:FuncId}{xs:List AV}{aa:Nat→Option AO}{C:bz→Prop}:cr P Γ (some d) f xs aa C=(an xs∧ai (eL aa (xs.map strip)) fun ys=>ai (gt Γ f ys) fun x=>x.1∧(dU (xs.map strip)=true∨oI x.2)∧(∀y∈iT d x.2,aa y.1=none)∧yh d x.2=true∧C (.new (xZ d x.2) (iT d x.2))):=rfl
def aV (P:Program) (f:FuncId) (G:List AV→Option (Prop×AV)):Prop:=∀ys φ r,G ys=some (φ,r)→φ→BV P f [] ys [] r
def tab:List (FuncId×(List AV→Option (Prop×AV)))→bN|[]=>fun _ _=>none|x::l=>fun g ys=>if g=x.1 then x.2 ys else tab l g ys
theorem aj {P:Program}:dr P (tab []):=fun _ _ _ _ h=>by cases h
def wE (p k:Nat) (G:List AV→Option (Prop×AV)) (ys:List AV):Option (Prop×AV):=match ys with|[.ar]=>some (True,.ptr p k)|ys=>G ys
def sd (P:Program) (f:FuncId) (G:List AV→Option (Prop×AV)):Prop:=∀ys φ r,G ys=some (φ,r)→φ→BR P f ys r
theorem gv {P:Program}{f p k:Nat}{G:List AV→Option (Prop×AV)}{l:List (FuncId×(List AV→Option (Prop×AV)))} (h:sd P f G) (hP:Nat.ble P.funcs.size 1000000=true) (hl:dr P (tab l)) (hf:Nat.blt f 1000000=true:=by rfl):dr P (tab ((f+1000000,wE p k G)::l)):=by
 intro g ys φ r hg hφ;simp only[tab]at hg;split at hg
 ·rename_i e;refine .inr (.inl ⟨Nat.le_of_ble_eq_true hP,by rw[e];exact Nat.le_add_left _ _,by rw[e];exact Nat.add_lt_add_right (Nat.le_of_ble_eq_true hf) 1000000,?_⟩);unfold wE at hg;split at hg;·exact .inl rfl
  ·right;rw[show g-1000000=f from by rw[e];exact Nat.add_sub_cancel _ _];exact h ys φ r hg hφ
 ·exact hl g ys φ r hg hφ
theorem ah {P:Program}{f:FuncId}{G:List AV→Option (Prop×AV)}{l:List (FuncId×(List AV→Option (Prop×AV)))} (h:aV P f G) (hl:dr P (tab l)) (hf:Nat.blt f 1000000=true:=by rfl):dr P (tab ((f,G)::l)):=by
 intro g ys φ r hg hφ;simp only[tab]at hg;split at hg;·rename_i e;subst e;exact .inl ⟨Nat.le_of_ble_eq_true hf,h ys φ r hg hφ⟩
 ·exact hl g ys φ r hg hφ
theorem bp {P:Program}{f:FuncId}{ks:List Nat}{G:List AV→Option (Prop×AV)}{l:List (FuncId×(List AV→Option (Prop×AV)))} (h:dH P f G) (hP:Nat.ble P.funcs.size 1000000=true) (hl:dr P (tab l)) (hf:Nat.blt f 1000000=true:=by rfl):dr P (tab ((f+1000000,wE 0 996 fun _=>none)::(f+2000000,CP ks G)::l)):=by
 intro g ys φ r hg hφ;simp only[tab]at hg;split at hg
 ·rename_i e;refine .inr (.inl ⟨Nat.le_of_ble_eq_true hP,by rw[e];exact Nat.le_add_left _ _,by rw[e];exact Nat.add_lt_add_right (Nat.le_of_ble_eq_true hf) 1000000,?_⟩);unfold wE at hg;split at hg;·exact .inl rfl
  ·cases hg
 ·split at hg
  ·rename_i e;refine .inr (.inr (.inl ⟨Nat.le_of_ble_eq_true hP,by rw[e];exact Nat.le_add_left _ _,by rw[e];exact Nat.add_lt_add_right (Nat.le_of_ble_eq_true hf) 2000000,?_⟩));unfold CP at hg;split at hg;·exact .inl rfl
   ·right;rw[show g-2000000=f from by rw[e];exact Nat.add_sub_cancel _ _];exact h ys φ r hg hφ
  ·exact hl g ys φ r hg hφ
@[simp] theorem RA (f:FuncId) (ys:List AV):tab [] f ys=none:=nr rfl
@[simp] theorem Mx (p k:Nat) (G:List AV→Option (Prop×AV)):wE p k G [.ar]=some (True,.ptr p k):=nr rfl
@[simp] theorem Vx (p k:Nat) (G:List AV→Option (Prop×AV)) (e:TypeId) (rows:List (List PV)) (l:List AV):wE p k G (.fr e rows::l)=G (.fr e rows::l):=nr rfl
@[simp] theorem Wv (p k:Nat) (G:List AV→Option (Prop×AV)) (q:PV) (l:List AV):wE p k G (.pv q::l)=G (.pv q::l):=nr rfl
@[simp] theorem Tr (p k:Nat) (G:List AV→Option (Prop×AV)) (q l:List AV):wE p k G (.aL q::l)=G (.aL q::l):=nr rfl
@[simp] theorem R3 (f g:FuncId) (G:List AV→Option (Prop×AV)) (l:List (FuncId×(List AV→Option (Prop×AV)))) (ys:List AV):tab ((f,G)::l) g ys=if g=f then G ys else tab l g ys:=nr rfl
end Go.Proofs.YtlmkcmfmfahcfaaGreat.Ab.R
namespace Go.Proofs.YtlmkcmfmfahcfaaGreat.Ab
open Go Go.RowKit
abbrev AI.a (d:Nat) (k:AK) (xs:List Operand):AI:=⟨some d,k,xs,none,[],none⟩
abbrev AI.s (k:AK) (xs:List Operand):AI:=⟨none,k,xs,none,[],none⟩
abbrev AI.m (d t:Nat):AI:=⟨some d,.aB,[.tmp t],none,[],none⟩
abbrev AI.mg (d t g:Nat) (b:Bool):AI:=⟨some d,.aB,[.tmp t],some (g,b),[],none⟩
abbrev AI.b (d:Nat) (k:AK) (xs:List Operand) (g:Nat) (b:Bool):AI:=⟨some d,k,xs,some (g,b),[],none⟩
abbrev AI.pa (d x y:Nat):AI:=⟨some d,.pick,[.tmp x,.tmp y,.const (.bool false)],none,[],none⟩
abbrev AI.po (d x y:Nat):AI:=⟨some d,.pick,[.tmp x,.const (.bool true),.tmp y],none,[],none⟩
abbrev AI.u (d:Nat) (k:AK) (t:Nat):AI:=⟨some d,k,[.tmp t],none,[],none⟩
abbrev AI.w (d:Nat) (k:AK) (t u:Nat):AI:=⟨some d,k,[.tmp t,.tmp u],none,[],none⟩
abbrev AI.bu (d:Nat) (k:AK) (t g:Nat) (b:Bool):AI:=⟨some d,k,[.tmp t],some (g,b),[],none⟩
abbrev AI.bw (d:Nat) (k:AK) (t u g:Nat) (b:Bool):AI:=⟨some d,k,[.tmp t,.tmp u],some (g,b),[],none⟩
abbrev AI.c (d:Nat) (k:AK) (t:Nat) (n:Int):AI:=⟨some d,k,[.tmp t,.const (.int .i64 n)],none,[],none⟩
abbrev AI.bc (d:Nat) (k:AK) (t:Nat) (n:Int) (g:Nat) (b:Bool):AI:=⟨some d,k,[.tmp t,.const (.int .i64 n)],some (g,b),[],none⟩
abbrev ci (n:Int):Operand:=.const (.int .i64 n)
end Go.Proofs.YtlmkcmfmfahcfaaGreat.Ab
namespace Go.Proofs.YtlmkcmfmfahcfaaGreat.Ab.R
open Go Go.RowKit
theorem wrap_i64 {x:Int} (h:-9223372036854775808≤x∧x≤9223372036854775807):IntKind.i64.wrap x=x:=by simp only[IntKind.wrap,IntKind.bits,IntKind.signed];simp;omega
theorem wrap_u64 {x:Int} (h:0≤x∧x≤18446744073709551615):IntKind.u64.wrap x=x:=by simp only[IntKind.wrap,IntKind.bits,IntKind.signed];simp;omega
theorem wrap_u8 (x:Int):IntKind.u8.wrap x=x%256:=by simp only[IntKind.wrap,IntKind.bits,IntKind.signed];simp
@[simp] theorem Nx:cE none=none:=rfl
@[simp] theorem PH (cs:List AV):cE (some (.box cs))=none:=rfl
@[simp] theorem Ta (k:IntKind) (n:Int):(Value.int k n).oneCell'=true:=rfl
@[simp] theorem Nv (b:Bool):(Value.bool b).oneCell'=true:=rfl
@[simp] theorem PY (s:ByteArray):(Value.string s).oneCell'=true:=rfl
@[simp] theorem Ty (a:Option Addr):(Value.pointer a).oneCell'=true:=rfl
@[simp] theorem JD (a:Option Addr) (n c:Nat):(Value.slice a n c).oneCell'=true:=rfl
@[simp] theorem Gx:bytesRow []=[]:=rfl
@[simp] theorem Cx (l:List UInt8):(bytesRow l).length=l.length:=by simp[bytesRow]
theorem aZ (l m:List UInt8):bytesRow (l++m)=bytesRow l++bytesRow m:=by simp[bytesRow]
@[simp] theorem aW (l:List UInt8):∀r∈bytesRow l,r.length=1:=by intro r hr;simp only[bytesRow,List.mem_map]at hr;obtain⟨c,_,rfl⟩:=hr;rfl
theorem tl (c:UInt8) (l:List UInt8):bytesRow (c::l)=[.int .u8 (c.toNat:Int)]::bytesRow l:=rfl
theorem bytesRow_at {l:List UInt8}{i:Nat} (h:i<l.length):rowAt (bytesRow l) (i:Int)=[.int .u8 (l[i].toNat:Int)]:=by simp[rowAt,bytesRow,h]
@[simp] theorem Bu (l:List UInt8):bytesOf (bytesRow l)=some l:=by induction l with|nil=>rfl|cons c l ih=>
 have hc:byteOf [.int .u8 (c.toNat:Int)]=some c:=by have:=c.toNat_lt;unfold byteOf;simp;omega
 rw[tl];simp only[bytesOf,hc,ih,Option.map_some,Option.bind_some]
theorem aI:maxLen=9223372036854775807:=rfl
end Go.Proofs.YtlmkcmfmfahcfaaGreat.Ab.R
