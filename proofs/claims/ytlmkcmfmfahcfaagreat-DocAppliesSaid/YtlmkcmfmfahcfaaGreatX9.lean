/- How the abstract machine reckons: objects handed over whole, maps of plain values, ranges. -/
import Derived.Test.YtlmkcmfmfahcfaaGreatX8
set_option linter.unusedVariables false
set_option linter.unusedSimpArgs false
set_option linter.unnecessarySimpa false
set_option maxHeartbeats 40000000
set_option maxRecDepth 100000
namespace Go.Proofs.YtlmkcmfmfahcfaaGreat.Ab.R
open Go Go.RowKit
section
variable{P:Program}{Γ:bI}{K:St→Prop}{vs:List (Nat×AV)}{os:List (Nat×AO)}
@[simp↓] theorem Ic {d:Nat}:aT (some d) .Hw [] K ⟨look vs,ab os⟩=(ab os d=none∧K ⟨put (some d) (.own d) (look vs),bk [(d,.fO [])] (ab os)⟩):=rfl
@[simp↓] theorem Il {d:Option Nat}{s:Nat}{x y z:AV}:aT d (.oH s) [x,y,z] K ⟨look vs,ab os⟩=nT d s (strip x) (strip y) (mV (strip z)) [x,y,z] K ⟨look vs,ab os⟩:=rfl
@[congr] theorem GB {d:Option Nat}{s:Nat}{x x' y y' z z':AV}{xs:List AV}{st:St} (h1:True→x=x') (h2:True→y=y') (h3:True→z=z'):nT d s x y z xs K st=nT d s x' y' z' xs K st:=by rw[h1 trivial,h2 trivial,h3 trivial]
@[simp↓] theorem OF {d:Option Nat}{s t:Nat}{k v:PV}{xs:List AV}:nT d s (.own t) (.pv k) (.pv v) xs K ⟨look vs,ab os⟩=(al xs∧ah (oI (ab os t)) fun es=>cL k=s∧eA s es∧K ⟨put d .aq (look vs),aH t (.fO (jE k v es)) (ab os)⟩):=rfl
@[simp↓] theorem I4 {d:Option Nat}{s:Nat}{z:Value}{ok:Bool}{x y:AV}:aT d (.AR s z ok) [x,y] K ⟨look vs,ab os⟩=sx d s z ok (strip x) (strip y) [x,y] K ⟨look vs,ab os⟩:=rfl
@[simp↓] theorem NJ {d:Option Nat}{s:Nat}{z:Value}{ok:Bool}{X:AV}{k:PV}{xs:List AV}:sx d s z ok X (.pv k) xs K ⟨look vs,ab os⟩=(al xs∧ah (C0 (ab os) X) fun es=>z.oneCell'=true∧cL k=s∧eA s es∧K ⟨put d (tI z ok (jC k es)) (look vs),ab os⟩):=rfl
@[simp↓] theorem HL {d:Option Nat}{s:Nat}{x y:AV}:aT d (.UH s) [x,y] K ⟨look vs,ab os⟩=sD d s (strip x) (strip y) [x,y] K ⟨look vs,ab os⟩:=rfl
@[simp↓] theorem RW {d:Option Nat}{s t:Nat}{k:PV}{xs:List AV}:sD d s (.own t) (.pv k) xs K ⟨look vs,ab os⟩=(al xs∧ah (oI (ab os t)) fun es=>cL k=s∧eA s es∧K ⟨put d .aq (look vs),aH t (.fO (nd k es)) (ab os)⟩):=rfl
@[simp↓] theorem GL {d:Option Nat}{ne:Bool}{x:AV}:aT d (.zW ne) [x] K ⟨look vs,ab os⟩=(al [x]∧ah (qK (strip x)) fun b=>K ⟨put d (.pv (.bool (b !=ne))) (look vs),ab os⟩):=rfl
@[simp↓] theorem H5 {d:Option Nat}{x:AV}:aT d .To [x] K ⟨look vs,ab os⟩=sO d (strip x) [x] K ⟨look vs,ab os⟩:=rfl
@[simp↓] theorem O3 {d:Nat}{es:List (PV×PV)}{xs:List AV}:sO (some d) (.pv (.mv es)) xs K ⟨look vs,ab os⟩=(al xs∧ab os d=none∧K ⟨put (some d) (.ptr d 0) (look vs),bk [(d,.lV es none)] (ab os)⟩):=rfl
@[simp↓] theorem Ip {d:Option Nat}{x:AV}:aT d .VL [x] K ⟨look vs,ab os⟩=sg d (strip x) [x] K ⟨look vs,ab os⟩:=rfl
@[simp↓] theorem O6 {d:Option Nat}{t:Nat}{xs:List AV}:sg d (.ptr t 0) xs K ⟨look vs,ab os⟩=(al xs∧ah (AU (ab os t)) fun r=>(r.1=[]→K ⟨put d (.aK [.pv (.bool false)]) (look vs),ab os⟩)∧∀(e:PV×PV) (l m:List (PV×PV)),r.1=l++e::m→K ⟨put d (.aK [.pv (.bool true),.pv e.1,.pv e.2]) (look vs),aH t (.lV (l++m) (some e)) (ab os)⟩):=rfl
@[simp↓] theorem Hi {d:Option Nat}{x:AV}:aT d .Uy [x] K ⟨look vs,ab os⟩=tu d (strip x) [x] K ⟨look vs,ab os⟩:=rfl
@[simp↓] theorem NR {d:Option Nat}{t:Nat}{xs:List AV}:tu d (.ptr t 0) xs K ⟨look vs,ab os⟩=(al xs∧ah (AU (ab os t)) fun r=>ah r.2 fun e=>K ⟨put d (.aK [.pv e.1,.pv e.2]) (look vs),ab os⟩):=rfl
@[simp↓] theorem Oj {d f:Nat}{ks:List Nat}{xs:List AV}:stepG Γ (some d) f xs (some ks) K ⟨look vs,ab os⟩=(al xs∧ux Γ d f ks (xs.map strip) (dP (ab os) ks (xs.map strip)) ((dt ks (xs.map strip)).flatMap oQ) K ⟨look vs,ab os⟩):=rfl
@[congr] theorem GI {d:Option Nat}{f:Nat}{xs xs':List AV}{o o':Option (List Nat)}{st:St} (h1:True→xs=xs') (h2:True→o=o'):stepG Γ d f xs o K st=stepG Γ d f xs' o' K st:=by rw[h1 trivial,h2 trivial]
@[simp↓] theorem Li {d f:Nat}{ks:List Nat}{xs:List AV}{T Q:List Nat}:ux Γ d f ks xs T Q K ⟨look vs,ab os⟩=(T.Nodup∧(∀t∈Q,t∈T)∧tV Γ d f ks xs T Q (T.filter fun t=>!Q.contains t) K ⟨look vs,ab os⟩):=rfl
@[simp↓] theorem Kp {d f:Nat}{ks:List Nat}{xs:List AV}{T Q W:List Nat}:tV Γ d f ks xs T Q W K ⟨look vs,ab os⟩=(Q.Nodup∧ah (xq (ab os) (dV T T (ab os)) T ks xs) fun ys=>uf Γ d f ks xs T Q W K ⟨look vs,ab os⟩ ys):=rfl
@[simp↓] theorem MD {d f:Nat}{ks:List Nat}{xs ys:List AV}{T Q W:List Nat}:uf Γ d f ks xs T Q W K ⟨look vs,ab os⟩ ys=ah (Γ (f+2000000) ys) fun x=>x.1∧(dF T ks xs=true∨∀y∈jz x.2++[jf x.2],eP 5 y)∧ah (lS (num 5 true) (jz x.2) (Q,mL d T W)) fun o=>o.1=dt ks xs∧ah (num 5 false (jf x.2) o.2.2) fun r=>(∀p∈o.2.1++r.2.1,T.contains p.1=true∨ab os p.1=none)∧K ⟨put (some d) r.1 (fG W (look vs)),bk (o.2.1++r.2.1) (dV T W (ab os))⟩:=rfl
end
@[simp↓] theorem Ol {P:Program}{Γ:bI}{d:Option Nat}{s:Nat}{z:Value}{ok:Bool}{x y:AV}{aa:Nat→Option AO}{C:bz→Prop}:aS P Γ d (.ex (.AR s z ok)) [x,y] aa C=(al [x,y]∧ah (ak (.ex (.AR s z ok)) [strip x,strip y] aa) fun r=>r.1∧C (.put r.2)):=rfl
@[simp] theorem NN {s:Nat}{z:Value}{ok:Bool}{es:List (PV×PV)}{k:PV}{aa:Nat→Option AO}:ak (.ex (.AR s z ok)) [.pv (.mv es),.pv k] aa=some (z.oneCell'=true∧cL k=s∧eA s es,tI z ok (jC k es)):=nr rfl
@[simp] theorem OZ (k v:PV):jE k v []=[(k,v)]:=nr rfl
@[simp] theorem NV (k k':IntKind) (a b:Int) (v x:PV) (l:List (PV×PV)):jE (.int k a) v ((.int k' b,x)::l)=if a=b then(.int k a,v)::l else(.int k' b,x)::jE (.int k a) v l:=by simp[jE,lM]
@[simp] theorem CU (k k':IntKind) (a b:Int) (x:PV) (l:List (PV×PV)):jC (.int k a) ((.int k' b,x)::l)=if a=b then some x else jC (.int k a) l:=by simp[jC,lM]
@[simp] theorem xA (s:Nat) (e:PV×PV) (l:List (PV×PV)):eA s (e::l)=(cL e.1=s∧eA s l):=by simp[eA]
@[simp] theorem K8 {f:FuncId}{args:List AV}:jk (.pv (.val (.func (.func f) #[] #[]))::args)=some (f,args):=nr rfl
@[simp] theorem VV (t s:Nat) (es:List (PV×PV)):SM t es (.own s)=if s=t then .pv (.mv es) else .own s:=nr rfl
@[simp] theorem VY (vs:List (Nat×AV)) (os:List (Nat×AO)) (t:Nat):vL t ⟨look vs,ab os⟩=match oI (ab os t) with|some es=>⟨look (vs.map fun x=>(x.1,SM t es x.2)),ab (Dh t os)⟩|none=>⟨look vs,ab os⟩:=by unfold vL;dsimp only;cases oI (ab os t) with|none=>rfl|some es=>dsimp only;rw[qV];congr 1;funext s;induction vs with|nil=>rfl|cons x l ih=>
 simp only[List.map_cons,look];split;·rfl
 ·exact ih
@[simp] theorem KH (es:List (PV×PV)):oI (some (.fO es))=some es:=nr rfl
@[simp] theorem WB (z:Value) (o:Option PV):tI z true o=.aK [.pv (o.getD (oL z)),.pv (.bool o.isSome)]:=nr rfl
@[simp] theorem Lf (s:Nat):eA s []=True:=by simp[eA]
@[simp] theorem PM (k:PV):jC k []=none:=nr rfl
@[simp] theorem V4 (e:TypeId) (rows:List (List PV)):Lb (some (.arr e rows))=some (.fr e rows):=nr rfl
@[simp] theorem Uz (f:AV→Option (AV×List Nat)):CF f []=some ([],[]):=nr rfl
@[simp] theorem Su (f:AV→Option (AV×List Nat)) (c:AV) (cs:List AV):CF f (c::cs)=(f c).bind fun r=>(CF f cs).map fun q=>(r.1::q.1,r.2++q.2):=nr rfl
@[simp] theorem WY (n:Nat) (aa:Nat→Option AO) (t:Nat):rd (n+1) aa (.own t)=(Lb (aa t)).map fun y=>(y,[t]):=nr rfl
@[simp] theorem WE (n:Nat) (aa:Nat→Option AO) (t:Nat):rd (n+1) aa (.ptr t 0)=(dX (aa t)).bind fun cs=>(CF (rd n aa) cs).map fun r=>(.bx r.1,t::r.2):=nr rfl
@[simp] theorem W9 (n:Nat) (aa:Nat→Option AO) (cs:List AV):rd (n+1) aa (.agg cs)=(CF (rd n aa) cs).map fun r=>(.agg r.1,r.2):=nr rfl
@[simp] theorem Yk (n:Nat) (aa:Nat→Option AO) (p:PV):rd (n+1) aa (.pv p)=some (.pv p,[]):=nr rfl
@[simp] theorem YD (p:Nat) (ps us:List Nat):tk true (p::ps,us)=some (p,ps,us):=nr rfl
@[simp] theorem YA (u:Nat) (ps us:List Nat):tk false (ps,u::us)=some (u,ps,us):=nr rfl
@[simp] theorem QY (f:AV→List Nat×List Nat→Option (AV×List (Nat×AO)×List Nat×List Nat)) (s:List Nat×List Nat):lS f [] s=some ([],[],s):=nr rfl
@[simp] theorem KA (f:AV→List Nat×List Nat→Option (AV×List (Nat×AO)×List Nat×List Nat)) (c:AV) (cs:List AV) (s:List Nat×List Nat):lS f (c::cs) s=(f c s).bind fun r=>(lS f cs r.2.2).map fun q=>(r.1::q.1,r.2.1++q.2.1,q.2.2):=nr rfl
@[simp] theorem WD (n:Nat) (top:Bool) (e:TypeId) (rows:List (List PV)) (s:List Nat×List Nat):num (n+1) top (.fr e rows) s=(tk top s).map fun q=>(.own q.1,[(q.1,.arr e rows)],q.2):=nr rfl
@[simp] theorem Xc (n:Nat) (top:Bool) (cs:List AV) (s:List Nat×List Nat):num (n+1) top (.bx cs) s=(tk top s).bind fun q=>(lS (num n false) cs q.2).map fun r=>(.ptr q.1 0,(q.1,.box r.1)::r.2.1,r.2.2):=nr rfl
@[simp] theorem Vw (n:Nat) (top:Bool) (cs:List AV) (s:List Nat×List Nat):num (n+1) top (.agg cs) s=(lS (num n top) cs s).map fun r=>(.agg r.1,r.2):=nr rfl
@[simp] theorem US (n:Nat) (top:Bool) (cs:List AV) (s:List Nat×List Nat):num (n+1) top (.aK cs) s=(lS (num n top) cs s).map fun r=>(.aK r.1,r.2):=nr rfl
@[simp] theorem WR (n:Nat) (top:Bool) (p:PV) (s:List Nat×List Nat):num (n+1) top (.pv p) s=some (.pv p,[],s):=nr rfl
@[simp] theorem P1 (t:Nat):oQ (.own t)=[t]:=nr rfl
@[simp] theorem Qb (t:Nat):oQ (.ptr t 0)=[t]:=nr rfl
@[simp] theorem V9 (aa objs':Nat→Option AO) (T:List Nat):xq aa objs' T [] []=some []:=nr rfl
@[simp] theorem XV (aa objs':Nat→Option AO) (T ks:List Nat) (x:AV) (xs:List AV):xq aa objs' T (0::ks) (x::xs)=(mC objs' (eg T x)).bind fun y=>(xq aa objs' T ks xs).map (y::·):=nr rfl
@[simp] theorem XZ (aa objs':Nat→Option AO) (T ks:List Nat) (x:AV) (xs:List AV):xq aa objs' T (1::ks) (x::xs)=((rd 5 aa x).map (·.1)).bind fun y=>(xq aa objs' T ks xs).map (y::·):=nr rfl
@[simp] theorem Yn (aa objs':Nat→Option AO) (T ks:List Nat) (x:AV) (xs:List AV):xq aa objs' T (2::ks) (x::xs)=((rd 5 aa x).map fun r=>.aK [r.1]).bind fun y=>(xq aa objs' T ks xs).map (y::·):=nr rfl
@[simp] theorem MT (aa:Nat→Option AO):dP aa [] []=[]:=nr rfl
@[simp] theorem Uu (aa:Nat→Option AO) (ks:List Nat) (x:AV) (xs:List AV):dP aa (0::ks) (x::xs)=dP aa ks xs:=nr rfl
@[simp] theorem VS (aa:Nat→Option AO) (ks:List Nat) (x:AV) (xs:List AV):dP aa (1::ks) (x::xs)=((rd 5 aa x).map (·.2)).getD []++dP aa ks xs:=nr rfl
@[simp] theorem VQ (aa:Nat→Option AO) (ks:List Nat) (x:AV) (xs:List AV):dP aa (2::ks) (x::xs)=((rd 5 aa x).map (·.2)).getD []++dP aa ks xs:=nr rfl
@[simp] theorem Nu:dt [] []=[]:=nr rfl
@[simp] theorem Vk (ks:List Nat) (x:AV) (xs:List AV):dt (0::ks) (x::xs)=dt ks xs:=nr rfl
@[simp] theorem TN (ks:List Nat) (x:AV) (xs:List AV):dt (1::ks) (x::xs)=dt ks xs:=nr rfl
@[simp] theorem VO (ks:List Nat) (x:AV) (xs:List AV):dt (2::ks) (x::xs)=x::dt ks xs:=nr rfl
@[simp] theorem IQ (T:List Nat):dF T [] []=true:=nr rfl
@[simp] theorem Py (T ks:List Nat) (x:AV) (xs:List AV):dF T (0::ks) (x::xs)=(dr (eg T x)&&dF T ks xs):=nr rfl
@[simp] theorem SG (T ks:List Nat) (x:AV) (xs:List AV):dF T (1::ks) (x::xs)=dF T ks xs:=nr rfl
@[simp] theorem Pp (T ks:List Nat) (x:AV) (xs:List AV):dF T (2::ks) (x::xs)=dF T ks xs:=nr rfl
@[simp] theorem SP (n:Nat) (e:TypeId) (rows:List (List PV)):eP (n+1) (.fr e rows)=bq rows:=nr rfl
@[simp] theorem Sb (n:Nat) (cs:List AV):eP (n+1) (.bx cs)=∀c∈cs,eP n c:=nr rfl
@[simp] theorem LR (n:Nat) (cs:List AV):eP (n+1) (.agg cs)=∀c∈cs,eP n c:=nr rfl
@[simp] theorem Mb (n:Nat) (cs:List AV):eP (n+1) (.aK cs)=∀c∈cs,eP n c:=nr rfl
@[simp] theorem N4 (n:Nat) (p:PV):eP (n+1) (.pv p)=(gF p=true):=nr rfl
@[simp] theorem P9 (n:Nat) (r:AV) (l:List AV):jz (.bB n (r::l))=l:=nr rfl
@[simp] theorem RL (n:Nat) (r:AV) (l:List AV):jf (.bB n (r::l))=r:=nr rfl
@[simp] theorem Vm (l:List PV):Ja (.rp l)=some (l.map fun p=>match p with|.int _ n=>n.toNat|_=>0):=nr rfl
@[simp] theorem SS (d:Nat) (T W:List Nat):mL d T W=W.filter (fun t=>t%1000 !=999)++[d,d+1000,d+2000,d+3000,d+4000,d+5000,d+6000,d+7000].filter fun t=>!T.contains t:=nr rfl
@[simp] theorem PZ (x:AV):eg [] x=x:=nr rfl
@[simp] theorem Kz (t:Nat) (W:List Nat) (x:AV):eg (t::W) x=jt (t::W) x:=nr rfl
@[simp] theorem Mz (W:List Nat) (g:Bool) (v:AV):jt W (.bX g v)=.bX g (jt W v):=nr rfl
@[simp] theorem LD (W:List Nat) (cs:List AV):jt W (.agg cs)=.agg (cs.map (dx W)):=nr rfl
@[simp] theorem Ks (W:List Nat) (t o:Nat):jt W (.ptr t o)=dx W (.ptr t o):=nr rfl
@[simp] theorem QL (W:List Nat) (p:PV):jt W (.pv p)=.pv p:=nr rfl
@[simp] theorem J2 (W:List Nat):jt W .aq=.aq:=nr rfl
@[simp] theorem LJ (W:List Nat) (t:Nat):dx W (.own t)=if W.contains t then .aq else .own t:=nr rfl
@[simp] theorem Ly (W:List Nat) (t o:Nat):dx W (.ptr t o)=if W.contains t then .aq else .ptr t o:=nr rfl
@[simp] theorem Rt (W:List Nat) (p:PV):dx W (.pv p)=.pv p:=nr rfl
@[simp] theorem Mr (o:AO):gS [] o=o:=nr rfl
@[simp] theorem Jk (t:Nat) (W:List Nat) (o:AO):gS (t::W) o=tL (t::W) o:=nr rfl
@[simp] theorem HI (W:List Nat) (cs:List AV):tL W (.box cs)=.box (cs.map (dx W)):=nr rfl
@[simp] theorem HG (W:List Nat) (e:TypeId) (rows:List (List PV)):tL W (.arr e rows)=.arr e rows:=nr rfl
@[simp] theorem H3 (W:List Nat) (l:List (Nat×AV)):fG W (look l)=look (l.map fun x=>(x.1,eg W x.2)):=by funext s;unfold fG;induction l with|nil=>show eg W .aq=.aq;unfold eg;split<;>rfl|cons x l ih=>
 obtain⟨k,v⟩:=x;simp only[List.map_cons,look];split;·rfl
 ·exact ih
def FF (T W:List Nat):List (Nat×AO)→List (Nat×AO)|[]=>[]|x::l=>if T.contains x.1=true then FF T W l else(x.1,gS W x.2)::FF T W l
@[simp] theorem Vr (T W:List Nat):FF T W []=[]:=nr rfl
@[simp] theorem CA (T W:List Nat) (s:Nat) (o:AO) (l:List (Nat×AO)):FF T W ((s,o)::l)=if T.contains s=true then FF T W l else(s,gS W o)::FF T W l:=nr rfl
@[simp] theorem I2 (T W:List Nat) (l:List (Nat×AO)):dV T W (ab l)=ab (FF T W l):=by funext s;unfold dV;induction l with|nil=>simp[FF,ab]|cons x l ih=>
 obtain⟨k,v⟩:=x;simp only[CA,ab];by_cases hs:T.contains s=true
 ·rw[if_pos hs]at ih ⊢;by_cases hk:T.contains k=true;·rw[if_pos hk];exact ih
  ·have:¬s=k:=fun e=>hk (e▸hs);rw[if_neg hk];simp only[ab,if_neg this];exact ih
 ·rw[if_neg hs]at ih ⊢;by_cases hsk:s=k;·subst hsk;rw[if_neg hs];simp[ab]
  ·rw[if_neg hsk];by_cases hk:T.contains k=true;·rw[if_pos hk];exact ih
   ·rw[if_neg hk];simp only[ab,if_neg hsk];exact ih
@[simp] theorem Uj (cs:List AV):C4 (.agg cs)=cs.any fun c=>match c with|.bx _|.mf _=>true|_=>false:=nr rfl
@[simp] theorem WW (p:PV):C4 (.pv p)=false:=nr rfl
@[simp] theorem WO (e:TypeId) (rows:List (List PV)):C4 (.fr e rows)=false:=nr rfl
@[simp] theorem VB (vs:List AV):mF (.aK vs)=vs.any C4:=nr rfl
@[simp] theorem Vq (cs:List AV):mF (.agg cs)=C4 (.agg cs):=nr rfl
@[simp] theorem WS (p:PV):mF (.pv p)=false:=nr rfl
@[simp] theorem XE (e:TypeId) (rows:List (List PV)):mF (.fr e rows)=false:=nr rfl
@[simp] theorem Oe (r:AV):nW r=if mF r=true then eP 5 r else flat r:=nr rfl
@[simp] theorem VM (d:Nat) (r:AV):iB d r=if mF r=true then(((num 5 false r ([],im d)).map (·.2.1)).getD []) else aJ d r:=nr rfl
@[simp] theorem U3 (d:Nat) (r:AV):wA d r=if mF r=true then(((num 5 false r ([],im d)).map (·.1)).getD .aq) else cA (jG d) r:=nr rfl
@[simp] theorem UF (d:Nat) (r:AV):uV d r=if mF r=true then(num 5 false r ([],im d)).isSome else cB r:=nr rfl
@[simp] theorem N7 (d:Nat):im d=[d,d+1000,d+2000,d+3000,d+4000,d+5000,d+6000,d+7000]:=nr rfl
@[congr] theorem Fa {P:Program}{rs:List (Nat×Option (Option Nat))}{L:List AV}{x:AV}{st st':St} (h:True→st=st'):m9 P rs L x st=m9 P rs L x st':=by rw[h trivial]
@[congr] theorem Fu {P:Program}{rs:List (Nat×Option (Option Nat))}{L:List AV}{x:AV}{st st':St} (h:True→st=st'):ot P rs L x st=ot P rs L x st':=by rw[h trivial]
section
variable{P:Program}{aa:Nat→Option AO}
@[simp] theorem Un (f:AV→AV→Prop):rL f [] []=True:=nr rfl
@[simp] theorem Pw (f:AV→AV→Prop) (c y:AV) (cs ys:List AV):rL f (c::cs) (y::ys)=(f c y∧rL f cs ys):=nr rfl
@[simp] theorem Yc (n:Nat) (x:AV) (e:TypeId) (rows:List (List PV)):mt P aa (n+1) x (.fr e rows)=rW P aa x (.fr e rows):=nr rfl
@[simp] theorem XW (n t:Nat) (cs:List AV):mt P aa (n+1) (.ptr t 0) (.bx cs)=ah (dX (aa t)) fun l=>rL (mt P aa n) l cs:=by
 show(∃t' l,AV.ptr t 0=.ptr t' 0∧aa t'=some (.box l)∧rL (mt P aa n) l cs)=_;apply propext;constructor;·rintro⟨t',l,h,h',h''⟩;cases h;rw[h'];exact h''
 ·intro h;obtain⟨l,hl,h⟩:=ae h;exact⟨t,l,rfl,eB hl,h⟩
@[simp] theorem Wt (n:Nat) (l cs:List AV):mt P aa (n+1) (.agg l) (.agg cs)=rL (mt P aa n) l cs:=by show(∃l',AV.agg l=.agg l'∧rL (mt P aa n) l' cs)=_;apply propext;exact⟨fun⟨_,h,h'⟩=>by cases h;exact h',fun h=>⟨l,rfl,h⟩⟩
@[simp] theorem XD (n:Nat) (l cs:List AV):mt P aa (n+1) (.aK l) (.aK cs)=rL (mt P aa n) l cs:=by show(∃l',AV.aK l=.aK l'∧rL (mt P aa n) l' cs)=_;apply propext;exact⟨fun⟨_,h,h'⟩=>by cases h;exact h',fun h=>⟨l,rfl,h⟩⟩
@[simp] theorem XT (n:Nat) (x:AV) (p:PV):mt P aa (n+1) x (.pv p)=(x=.pv p):=nr rfl
@[simp] theorem Xf (n t:Nat):tg aa (n+1) (.own t)=[t]:=nr rfl
@[simp] theorem Xq (n t:Nat):tg aa (n+1) (.ptr t 0)=t::((dX (aa t)).getD []).flatMap (tg aa n):=nr rfl
@[simp] theorem WK (n:Nat) (cs:List AV):tg aa (n+1) (.agg cs)=cs.flatMap (tg aa n):=nr rfl
@[simp] theorem Xd (n:Nat) (cs:List AV):tg aa (n+1) (.aK cs)=cs.flatMap (tg aa n):=nr rfl
@[simp] theorem X9 (n:Nat) (p:PV):tg aa (n+1) (.pv p)=[]:=nr rfl
end
def Ae (ks:List Nat) (G:List AV→Option (Prop×AV)) (ys:List AV):Option (Prop×AV):=match ys with|[.aq]=>some (True,.rp (ks.map fun k:Nat=>PV.int .i64 (k:Int)))|ys=>G ys
def df (P:Program) (f:FuncId) (G:List AV→Option (Prop×AV)):Prop:=∀ys φ r,G ys=some (φ,r)→φ→wS P f ys r
@[simp] theorem L5 (ks:List Nat) (G:List AV→Option (Prop×AV)):Ae ks G [.aq]=some (True,.rp (ks.map fun k:Nat=>PV.int .i64 (k:Int))):=nr rfl
@[simp] theorem T0 (ks:List Nat) (G:List AV→Option (Prop×AV)) (q:PV) (l:List AV):Ae ks G (.pv q::l)=G (.pv q::l):=nr rfl
@[simp] theorem Ro (ks:List Nat) (G:List AV→Option (Prop×AV)) (q l:List AV):Ae ks G (.aK q::l)=G (.aK q::l):=nr rfl
@[simp] theorem Qw (ks:List Nat) (G:List AV→Option (Prop×AV)) (q l:List AV):Ae ks G (.agg q::l)=G (.agg q::l):=nr rfl
@[simp↓] theorem XU (Γ:bI) (f:FuncId) (ys:List AV):gt Γ f ys=LB (Γ f ys) (Γ (f+3000000) ys):=rfl
@[congr] theorem KP {a a' b:Option (Prop×AV)} (h:True→a=a'):LB a b=LB a' b:=by rw[h trivial]
@[simp↓] theorem TC (x:Prop×AV) (y:Option (Prop×AV)):LB (some x) y=some (x.1∧mF x.2=false,x.2):=rfl
@[simp↓] theorem Ty (y:Option (Prop×AV)):LB none y=y.map fun x=>(x.1∧mF x.2=true,x.2):=rfl
section
variable{P:Program}{Γ:bI}{vs:List (Nat×AV)}{os:List (Nat×AO)}{K:St→Prop}{rs:List (Nat×Option (Option Nat))}{r:AV}{aa:Nat→Option AO}{C:List AV→Prop}
@[simp↓] theorem Ow:vg K .ret ⟨look vs,ab os⟩=K ⟨look vs,ab os⟩:=rfl
@[simp↓] theorem L2 {id:Nat}:vg K (.exit id) ⟨look vs,ab os⟩=False:=rfl
@[simp↓] theorem UY {r:AV}:Ends P rs r ⟨look vs,ab os⟩=cq ⟨look vs,ab os⟩ rs fun xs=>sF P rs r (cd (kN (bG xs) r) ⟨look vs,ab os⟩):=rfl
@[congr] theorem GP {st st':St}{r:AV} (h:True→st=st'):sF P rs r st=sF P rs r st':=by rw[h trivial]
@[simp↓] theorem R9 {r:AV}{hout:List (Nat×AO)}:lk P rs r hout ⟨look vs,ab os⟩=cq ⟨look vs,ab os⟩ rs fun xs=>lH P rs r hout (cd (kN (bG xs) r) ⟨look vs,ab os⟩):=rfl
@[congr] theorem Dq {st st':St}{r:AV}{hout:List (Nat×AO)} (h:True→st=st'):lH P rs r hout st=lH P rs r hout st':=by rw[h trivial]
@[simp↓] theorem Ni {r:AV}{hout:List (Nat×AO)}:lH P rs r hout ⟨look vs,ab os⟩=cq ⟨look vs,ab os⟩ rs fun xs=>fz P (ab os) (bG xs) r∧jh (pl (bG xs))∧j6 (ab os) (pl (bG xs)) hout:=rfl
@[simp] theorem G9 (l:List (Nat×Nat)):j6 aa l []=True:=nr rfl
@[simp] theorem F8 (l:List (Nat×Nat)) (x:Nat×AO) (hout:List (Nat×AO)):j6 aa l (x::hout)=(aa x.1=some x.2∧(∀y∈l,y.2≠x.1)∧j6 aa l hout):=nr rfl
@[simp] theorem Xw (e:TypeId) (rows:List (List PV)):C6 (.fr e rows)=.own 998:=nr rfl
@[simp] theorem TP (e:TypeId) (rows:List (List PV)):C6 (.aK [.fr e rows])=.own 999:=nr rfl
@[simp] theorem XL (p:PV):C6 (.pv p)=.pv p:=nr rfl
@[simp] theorem UD (f:FuncId) (l:List AV):C6 (.bB f l)=.bB f l:=nr rfl
@[simp] theorem T8:kD []=[]:=nr rfl
@[simp] theorem WG (e:TypeId) (rows:List (List PV)) (l:List AV):kD (.fr e rows::l)=[(998,.arr e rows)]:=nr rfl
@[simp] theorem T3 (e:TypeId) (rows:List (List PV)) (l:List AV):kD (.aK [.fr e rows]::l)=[(999,.arr e rows)]:=nr rfl
@[simp] theorem XH (p:PV) (l:List AV):kD (.pv p::l)=kD l:=nr rfl
@[simp↓] theorem Pm {r:AV}:sF P rs r ⟨look vs,ab os⟩=cq ⟨look vs,ab os⟩ rs fun xs=>fz P (ab os) (bG xs) r∧jh (pl (bG xs)):=rfl
@[simp↓] theorem R6 {L:List AV}{x:AV}:ot P rs L x ⟨look vs,ab os⟩=cq ⟨look vs,ab os⟩ rs fun xs=>m9 P rs L x (cd (kN (bG xs) (jf x)) ⟨look vs,ab os⟩):=rfl
@[simp↓] theorem LQ {L:List AV}{x:AV}:m9 P rs L x ⟨look vs,ab os⟩=cq ⟨look vs,ab os⟩ rs fun xs=>mt P (ab os) 6 (bG xs) (jf x)∧rL (mt P (ab os) 5) L (jz x)∧(L.flatMap (tg (ab os) 5)++tg (ab os) 6 (bG xs)).Nodup:=rfl
@[simp] theorem Ph {f:FuncId}:gm Γ f=(Γ (f+2000000) [.aq]).bind fun x=>Ja x.2:=nr rfl
@[simp] theorem Wn {k:Nat}{o:AO}{R:Nat→AO→Prop}{p:Nat→AO→Prop}:(∀a b,a=k∧b=o∨R a b→p a b)=(p k o∧∀a b,R a b→p a b):=propext ⟨fun h=>⟨h k o (.inl ⟨rfl,rfl⟩),fun a b r=>h a b (.inr r)⟩,fun h a b r=>by
 rcases r with⟨rfl,rfl⟩|r;·exact h.1
 ·exact h.2 a b r⟩
@[simp] theorem NP {α:Type} (l:List α):dJ [] l=[]:=nr rfl
@[simp] theorem NA {α:Type} (y:AV) (ys:List AV) (v:α) (l:List α):dJ (.aK [y]::ys) (v::l)=v::dJ ys l:=nr rfl
@[simp] theorem TT {α:Type} (p:PV) (ys:List AV) (v:α) (l:List α):dJ (.pv p::ys) (v::l)=dJ ys l:=nr rfl
@[simp] theorem OL {α:Type} (cs ys:List AV) (v:α) (l:List α):dJ (.agg cs::ys) (v::l)=dJ ys l:=nr rfl
@[simp] theorem LZ (t:Nat):pP (.own t)=true:=nr rfl
@[simp] theorem Mo (t:Nat):pP (.ptr t 0)=true:=nr rfl
@[simp] theorem QB (vs rs:List AV):kN (.aK vs) (.aK rs)=sq vs rs:=nr rfl
@[simp] theorem P4 (vs:List AV) (r:AV):kN (.agg vs) r=xU (.agg vs) r:=by cases r<;>rfl
@[simp] theorem U5 (p:PV) (r:AV):kN (.pv p) r=oG (.pv p) r:=by cases r<;>rfl
@[simp] theorem Fq (t:Nat) (e:TypeId) (rows:List (List PV)):kN (.own t) (.fr e rows)=[]:=nr rfl
@[simp] theorem M8:sq [] []=[]:=nr rfl
@[simp] theorem Jr (c r:AV) (cs rs:List AV):sq (c::cs) (r::rs)=xU c r++sq cs rs:=nr rfl
@[simp] theorem K6:sK [] []=[]:=nr rfl
@[simp] theorem I6 (c r:AV) (cs rs:List AV):sK (c::cs) (r::rs)=oG c r++sK cs rs:=nr rfl
@[simp] theorem Qu (cs rs:List AV):xU (.agg cs) (.agg rs)=sK cs rs:=nr rfl
@[simp] theorem Ub (p:PV) (r:AV):xU (.pv p) r=oG (.pv p) r:=by cases r<;>rfl
@[simp] theorem R0 (t:Nat) (r:AV):xU (.own t) r=oG (.own t) r:=by cases r<;>rfl
@[simp] theorem Gw (t:Nat) (e:TypeId) (rows:List (List PV)):oG (.own t) (.fr e rows)=[]:=nr rfl
@[simp] theorem FL (t:Nat) (rows:List (List PV)):oG (.own t) (.pv (.ro rows))=[t]:=nr rfl
@[simp] theorem GS (t:Nat) (es:List (PV×PV)):kN (.own t) (.pv (.mv es))=[t+1000000000000000]:=nr rfl
@[simp] theorem L7 (p:PV):oG (.pv p) (.pv p)=[]:=by cases p<;>rfl
@[simp] theorem Nv (p:PV) (k:IntKind) (n:Int):oG (.pv p) (.pv (.int k n))=[]:=by cases p<;>rfl
@[simp] theorem Ke (p:PV) (b:Bool):oG (.pv p) (.pv (.bool b))=[]:=by cases p<;>rfl
@[simp] theorem NX (p:PV) (e:TypeId) (rows:List (List PV)):oG (.pv p) (.fr e rows)=[]:=by cases p<;>rfl
@[simp↓] theorem FE:cq ⟨look vs,ab os⟩ [] C=C []:=rfl
@[simp↓] theorem FV {t:Nat}:cq ⟨look vs,ab os⟩ ((t,none)::rs) C=cq ⟨look vs,ab os⟩ rs fun xs=>C (look vs t::xs):=rfl
@[simp↓] theorem DJ {t:Nat}{n:Option Nat}:cq ⟨look vs,ab os⟩ ((t,some n)::rs) C=ah (ak (.load n) [look vs t] (ab os)) fun x=>x.1∧cq ⟨look vs,ab os⟩ rs fun xs=>C (x.2::xs):=rfl
@[simp] theorem FG:bG []=.aK []:=nr rfl
@[simp] theorem FX (v:AV):bG [v]=v:=nr rfl
@[simp] theorem F5 (v u:AV) (l:List AV):bG (v::u::l)=.aK (v::u::l):=nr rfl
@[simp] theorem SF (i:Nat):ln i []=[]:=nr rfl
@[simp] theorem Mp (i:Nat) (v:AV) (l:List AV):ln i (v::l)=(i,v)::ln (i+1) l:=nr rfl
@[simp] theorem Vo (t:Nat) (e:TypeId) (rows:List (List PV)):rW P aa (.own t) (.fr e rows)=(aa t=some (.arr e rows)):=by
 apply propext;constructor
 ·rintro(⟨s,h,h2⟩|⟨h,_⟩|⟨_,_,_,h,_⟩);·cases h;exact h2
  ·cases h
  ·cases h
 ·exact fun h=>.inl ⟨t,rfl,h⟩
@[simp] theorem Um (t:Nat) (e e1:TypeId) (hi:Nat) (rows:List (List PV)):rW P aa (.sub t e1 0 hi) (.fr e rows)=(e1=e∧∃rs,aa t=some (.arr e rs)∧rows=rs.take hi):=by
 apply propext;constructor
 ·rintro(⟨s,h,h2⟩|⟨h,_⟩|⟨s,hi',rs,h,h2,h3⟩);·cases h
  ·cases h
  ·cases h;exact⟨rfl,rs,h2,h3⟩
 ·rintro⟨rfl,rs,h2,h3⟩;exact .inr (.inr ⟨t,hi,rs,rfl,h2,h3⟩)
@[simp] theorem Xn (t:Nat) (e:TypeId) (lo hi:Nat) (r:AV):fz P aa (.sub t e lo hi) r=rW P aa (.sub t e lo hi) r:=nr rfl
@[simp] theorem TE (t:Nat) (e:TypeId) (lo hi:Nat) (r:AV):kN (.sub t e lo hi) r=[]:=by cases r<;>rfl
@[simp] theorem VT (e:TypeId) (rows:List (List PV)):rW P aa (.pv .nil) (.fr e rows)=(rows=[]∧(P.info? e).isSome=true):=by
 apply propext;constructor
 ·rintro(⟨s,h,h2⟩|⟨_,h⟩|⟨_,_,_,h,_⟩);·cases h
  ·exact h
  ·cases h
 ·exact fun h=>.inr (.inl ⟨rfl,h⟩)
@[simp] theorem Xv (p q:PV):rW P aa (.pv p) (.pv q)=(p=q):=by
 apply propext;constructor;·rintro⟨h,_⟩;cases h;rfl
 ·rintro rfl;exact⟨rfl,rfl⟩
@[simp] theorem Tx:uJ P aa [] []=True:=nr rfl
@[simp] theorem Nc (c d:AV) (cs ds:List AV):uJ P aa (c::cs) (d::ds)=(rW P aa c d∧uJ P aa cs ds):=nr rfl
@[simp] theorem VJ (cs ds:List AV):zq P aa (.agg cs) (.agg ds)=uJ P aa cs ds:=nr rfl
@[simp] theorem Xa (p:PV) (r:AV):zq P aa (.pv p) r=rW P aa (.pv p) r:=nr rfl
@[simp] theorem VC (t:Nat) (r:AV):zq P aa (.own t) r=rW P aa (.own t) r:=nr rfl
@[simp] theorem RM:vo P aa [] []=True:=nr rfl
@[simp] theorem L3 (c d:AV) (cs ds:List AV):vo P aa (c::cs) (d::ds)=(zq P aa c d∧vo P aa cs ds):=nr rfl
@[simp] theorem Xs (cs ds:List AV):fz P aa (.aK cs) (.aK ds)=(cs.length≤1000∧vo P aa cs ds):=nr rfl
@[simp] theorem WQ (cs:List AV) (r:AV):fz P aa (.agg cs) r=zq P aa (.agg cs) r:=nr rfl
@[simp] theorem Yf (p:PV) (r:AV):fz P aa (.pv p) r=rW P aa (.pv p) r:=nr rfl
@[simp] theorem Ws (t:Nat) (r:AV):fz P aa (.own t) r=rW P aa (.own t) r:=nr rfl
@[simp] theorem Sq (j:Nat):oP j []=[]:=nr rfl
@[simp] theorem Pt (j t:Nat) (cs:List AV):oP j (.own t::cs)=(1000*j,t)::oP (j+1) cs:=nr rfl
@[simp] theorem Xy (t:Nat) (e:TypeId) (lo hi:Nat):pl (.sub t e lo hi)=[(0,t)]:=nr rfl
@[simp] theorem Ui (j:Nat) (p:PV) (cs:List AV):oP j (.pv p::cs)=oP (j+1) cs:=nr rfl
@[simp] theorem Vg (cs:List AV):Jp (.agg cs)=oP 0 cs:=nr rfl
@[simp] theorem UM (t:Nat):Jp (.own t)=[(0,t)]:=nr rfl
@[simp] theorem WA (p:PV):Jp (.pv p)=[]:=nr rfl
@[simp] theorem OI (i:Nat):yw i []=[]:=nr rfl
@[simp] theorem Mv (i:Nat) (v:AV) (vs:List AV):yw i (v::vs)=(Jp v).map (fun x=>(x.1+i,x.2))++yw (i+1) vs:=nr rfl
@[simp] theorem Xr (vs:List AV):pl (.aK vs)=yw 0 vs:=nr rfl
@[simp] theorem XR (cs:List AV):pl (.agg cs)=oP 0 cs:=nr rfl
@[simp] theorem XM (t:Nat):pl (.own t)=[(0,t)]:=nr rfl
@[simp] theorem X3 (p:PV):pl (.pv p)=[]:=nr rfl
@[simp] theorem J8:jh []=True:=nr rfl
@[simp] theorem F7 (x:Nat×Nat) (l:List (Nat×Nat)):jh (x::l)=((∀y∈l,y.2≠x.2)∧jh l):=nr rfl
end
section
variable{P:Program}{Γ:bI}{vs:List (Nat×AV)}{os:List (Nat×AO)}{st:St}{ad:List Nat}
theorem zU {K:St→Prop}{J:Exit→St→Prop}{a:AC}{α:Type} (I:α→Prop) (F:α→Fr) (μ:α→Nat) (ad shs:List Nat) (x0:α) (hI:I x0) (h0:wk P ad (cd shs st) (F x0)) (hr:∀x,I x→fT P Γ a (fun st'=>∃x',I x'∧wk P [] (cd shs st') (F x')∧μ x'<μ x) J (F x).st):fT P Γ (.loop a) K J st:=by
 refine⟨{x:α//I x},fun x=>F x.1,fun x=>μ x.1,ad,shs,⟨x0,hI⟩,h0,fun x=>?_⟩;have hK:(fun st'=>∃i':{x:α//I x},wk P [] (cd shs st') (F i'.1)∧μ i'.1<μ x.1)=fun st'=>∃x',I x'∧wk P [] (cd shs st') (F x')∧μ x'<μ x.1:=by
  funext st';apply propext;constructor;·rintro⟨⟨y,hy⟩,h⟩;exact⟨y,hy,h⟩
  ·rintro⟨y,hy,h⟩;exact⟨⟨y,hy⟩,h⟩
 show fT P Γ a (fun st'=>∃i':{x:α//I x},wk P [] (cd shs st') (F i'.1)∧μ i'.1<μ x.1) J (F x.1).st;rw[hK];exact hr x.1 x.2
theorem ay {K:St→Prop}{J:Exit→St→Prop}{a:AC}{α:Type} (I:α→Prop) (F:α→Fr) (μ:α→Nat) (ad:List Nat) (x0:α) (hI:I x0) (h0:wk P ad st (F x0)) (hr:∀x,I x→fT P Γ a (fun st'=>∃x',I x'∧wk P [] st' (F x')∧μ x'<μ x) J (F x).st):fT P Γ (.loop a) K J st:=zU I F μ ad [] x0 hI h0 hr
@[simp] theorem Hj (st:St):cd [] st=st:=nr rfl
@[simp] theorem G4 (t:Nat) (l:List Nat) (st:St):cd (t::l) st=cd l (ue t st):=nr rfl
@[simp] theorem Ma (t:Nat) (st:St):ue t st=if t=999996 then uP st else if 1000000000000000≤t then vL (t-1000000000000000) st else share1 st (.own t):=nr rfl
@[simp] theorem Yr (vs':List (Nat×AV)) (os':List (Nat×AO)):wk P ad ⟨look vs,ab os⟩ ⟨vs',os'⟩=(HZ ad ⟨look vs,ab os⟩ os' vs'∧I5 P ad ⟨look vs,ab os⟩ os' os'):=nr rfl
@[simp] theorem Vv (os':List (Nat×AO)):HZ ad ⟨look vs,ab os⟩ os' []=True:=nr rfl
@[simp] theorem OK (os':List (Nat×AO)) (s:Nat) (v:AV) (l:List (Nat×AV)):HZ ad ⟨look vs,ab os⟩ os' ((s,v)::l)=((v=.aq∨(look vs s=v∧j4 os' v)∨(∃t,v=.own t∧ad.contains t=true∧aA (ab os') t∧look vs s=.pv .nil))∧HZ ad ⟨look vs,ab os⟩ os' l):=nr rfl
@[simp] theorem V6 (os':List (Nat×AO)):I5 P ad ⟨look vs,ab os⟩ os' []=True:=nr rfl
@[simp] theorem Qk (os':List (Nat×AO)) (t:Nat) (o:AO) (l:List (Nat×AO)):I5 P ad ⟨look vs,ab os⟩ os' ((t,o)::l)=(((ab os t=some o∧ad.contains t=false∧tv os' o)∨(∃e,o=.arr e []∧ad.contains t=true∧ab os t=none∧(P.info? e).isSome=true∧t%1000≠999))∧I5 P ad ⟨look vs,ab os⟩ os' l):=nr rfl
@[simp] theorem MH (f:FuncId) (cs:List AV):j4 os (.bB f cs)=fE os cs:=nr rfl
@[simp] theorem PR (p:PV):j4 os (.pv p)=True:=nr rfl
@[simp] theorem Mn (t:Nat):j4 os (.own t)=aA (ab os) t:=nr rfl
@[simp] theorem Lk (t o:Nat):j4 os (.ptr t o)=aA (ab os) t:=nr rfl
@[simp] theorem Nt (t:Nat) (e:TypeId) (lo hi:Nat):j4 os (.sub t e lo hi)=aA (ab os) t:=nr rfl
@[simp] theorem RO (p:PV):iE os (.pv p)=True:=nr rfl
@[simp] theorem Tw (p:List PV):iE os (.rp p)=True:=nr rfl
@[simp] theorem Lq (t:Nat):iE os (.own t)=aA (ab os) t:=nr rfl
@[simp] theorem HH:fE os []=True:=nr rfl
@[simp] theorem FD (c:AV) (cs:List AV):fE os (c::cs)=(iE os c∧fE os cs):=nr rfl
@[simp] theorem Mj (cs:List AV):tv os (.box cs)=fE os cs:=nr rfl
@[simp] theorem Nd (e:TypeId) (rows:List (List PV)):tv os (.arr e rows)=True:=nr rfl
@[simp] theorem LO (es:List (PV×AV)):tv os (.map es)=True:=nr rfl
@[simp] theorem T7 (t:Nat):aA (ab []) t=False:=by
 apply propext;constructor;·rintro⟨o,h⟩;cases h
 ·exact False.elim
@[simp] theorem PN (s t:Nat) (o:AO) (l:List (Nat×AO)):aA (ab ((s,o)::l)) t=(t=s∨aA (ab l) t):=by apply propext;unfold aA;simp only[xT];by_cases h:t=s<;>simp[h]
end
@[simp↓] theorem HC {P:Program}{Γ:bI}{d:Nat}{f:FuncId}{xs:List AV}{aa:Nat→Option AO}{C:bz→Prop}:cf P Γ (some d) f xs aa C=(al xs∧ah (er aa (xs.map strip)) fun ys=>ah (gt Γ f ys) fun x=>x.1∧(dO (xs.map strip)=true∨nW x.2)∧(∀y∈iB d x.2,aa y.1=none)∧uV d x.2=true∧C (.new (wA d x.2) (iB d x.2))):=rfl
def bn (P:Program) (f:FuncId) (G:List AV→Option (Prop×AV)):Prop:=∀ys φ r,G ys=some (φ,r)→φ→Cz P f [] ys [] r
def tab:List (FuncId×(List AV→Option (Prop×AV)))→bI|[]=>fun _ _=>none|x::l=>fun g ys=>if g=x.1 then x.2 ys else tab l g ys
theorem aj {P:Program}:c7 P (tab []):=fun _ _ _ _ h=>by cases h
def wc (p k:Nat) (G:List AV→Option (Prop×AV)) (ys:List AV):Option (Prop×AV):=match ys with|[.aq]=>some (True,.ptr p k)|ys=>G ys
def si (P:Program) (f:FuncId) (G:List AV→Option (Prop×AV)):Prop:=∀ys φ r,G ys=some (φ,r)→φ→AH P f ys r
theorem ir {P:Program}{f p k:Nat}{G:List AV→Option (Prop×AV)}{l:List (FuncId×(List AV→Option (Prop×AV)))} (h:si P f G) (hP:Nat.ble P.funcs.size 1000000=true) (hl:c7 P (tab l)) (hf:Nat.blt f 1000000=true:=by rfl):c7 P (tab ((f+1000000,wc p k G)::l)):=by
 intro g ys φ r hg hφ;simp only[tab]at hg;split at hg
 ·rename_i e;refine .inr (.inl ⟨Nat.le_of_ble_eq_true hP,by rw[e];exact Nat.le_add_left _ _,by rw[e];exact Nat.add_lt_add_right (Nat.le_of_ble_eq_true hf) 1000000,?_⟩);unfold wc at hg;split at hg;·exact .inl rfl
  ·right;rw[show g-1000000=f from by rw[e];exact Nat.add_sub_cancel _ _];exact h ys φ r hg hφ
 ·exact hl g ys φ r hg hφ
theorem ai {P:Program}{f:FuncId}{G:List AV→Option (Prop×AV)}{l:List (FuncId×(List AV→Option (Prop×AV)))} (h:bn P f G) (hl:c7 P (tab l)) (hf:Nat.blt f 1000000=true:=by rfl):c7 P (tab ((f,G)::l)):=by
 intro g ys φ r hg hφ;simp only[tab]at hg;split at hg;·rename_i e;subst e;exact .inl ⟨Nat.le_of_ble_eq_true hf,h ys φ r hg hφ⟩
 ·exact hl g ys φ r hg hφ
theorem aZ {P:Program}{f:FuncId}{ks:List Nat}{G:List AV→Option (Prop×AV)}{l:List (FuncId×(List AV→Option (Prop×AV)))} (h:df P f G) (hP:Nat.ble P.funcs.size 1000000=true) (hl:c7 P (tab l)) (hf:Nat.blt f 1000000=true:=by rfl):c7 P (tab ((f+1000000,wc 0 996 fun _=>none)::(f+2000000,Ae ks G)::l)):=by
 intro g ys φ r hg hφ;simp only[tab]at hg;split at hg
 ·rename_i e;refine .inr (.inl ⟨Nat.le_of_ble_eq_true hP,by rw[e];exact Nat.le_add_left _ _,by rw[e];exact Nat.add_lt_add_right (Nat.le_of_ble_eq_true hf) 1000000,?_⟩);unfold wc at hg;split at hg;·exact .inl rfl
  ·cases hg
 ·split at hg
  ·rename_i e;refine .inr (.inr (.inl ⟨Nat.le_of_ble_eq_true hP,by rw[e];exact Nat.le_add_left _ _,by rw[e];exact Nat.add_lt_add_right (Nat.le_of_ble_eq_true hf) 2000000,?_⟩));unfold Ae at hg;split at hg;·exact .inl rfl
   ·right;rw[show g-2000000=f from by rw[e];exact Nat.add_sub_cancel _ _];exact h ys φ r hg hφ
  ·exact hl g ys φ r hg hφ
@[simp] theorem OD (f:FuncId) (ys:List AV):tab [] f ys=none:=nr rfl
@[simp] theorem Mk (p k:Nat) (G:List AV→Option (Prop×AV)):wc p k G [.aq]=some (True,.ptr p k):=nr rfl
@[simp] theorem Vi (p k:Nat) (G:List AV→Option (Prop×AV)) (e:TypeId) (rows:List (List PV)) (l:List AV):wc p k G (.fr e rows::l)=G (.fr e rows::l):=nr rfl
@[simp] theorem UL (p k:Nat) (G:List AV→Option (Prop×AV)) (q:PV) (l:List AV):wc p k G (.pv q::l)=G (.pv q::l):=nr rfl
@[simp] theorem Ps (p k:Nat) (G:List AV→Option (Prop×AV)) (q l:List AV):wc p k G (.aK q::l)=G (.aK q::l):=nr rfl
@[simp] theorem OS (f g:FuncId) (G:List AV→Option (Prop×AV)) (l:List (FuncId×(List AV→Option (Prop×AV)))) (ys:List AV):tab ((f,G)::l) g ys=if g=f then G ys else tab l g ys:=nr rfl
end Go.Proofs.YtlmkcmfmfahcfaaGreat.Ab.R
namespace Go.Proofs.YtlmkcmfmfahcfaaGreat.Ab
open Go Go.RowKit
abbrev AI.a (d:Nat) (k:AK) (xs:List Operand):AI:=⟨some d,k,xs,none,[],none⟩
abbrev AI.s (k:AK) (xs:List Operand):AI:=⟨none,k,xs,none,[],none⟩
abbrev AI.m (d t:Nat):AI:=⟨some d,.aM,[.tmp t],none,[],none⟩
abbrev AI.mg (d t g:Nat) (b:Bool):AI:=⟨some d,.aM,[.tmp t],some (g,b),[],none⟩
abbrev AI.b (d:Nat) (k:AK) (xs:List Operand) (g:Nat) (b:Bool):AI:=⟨some d,k,xs,some (g,b),[],none⟩
abbrev AI.pa (d x y:Nat):AI:=⟨some d,.pick,[.tmp x,.tmp y,.const (.bool false)],none,[],none⟩
abbrev AI.po (d x y:Nat):AI:=⟨some d,.pick,[.tmp x,.const (.bool true),.tmp y],none,[],none⟩
abbrev AI.u (d:Nat) (k:AK) (t:Nat):AI:=⟨some d,k,[.tmp t],none,[],none⟩
abbrev AI.w (d:Nat) (k:AK) (t u:Nat):AI:=⟨some d,k,[.tmp t,.tmp u],none,[],none⟩
abbrev AI.bu (d:Nat) (k:AK) (t g:Nat) (b:Bool):AI:=⟨some d,k,[.tmp t],some (g,b),[],none⟩
abbrev AI.bw (d:Nat) (k:AK) (t u g:Nat) (b:Bool):AI:=⟨some d,k,[.tmp t,.tmp u],some (g,b),[],none⟩
abbrev AI.c (d:Nat) (k:AK) (t:Nat) (n:Int):AI:=⟨some d,k,[.tmp t,.const (.int .i64 n)],none,[],none⟩
abbrev AI.bc (d:Nat) (k:AK) (t:Nat) (n:Int) (g:Nat) (b:Bool):AI:=⟨some d,k,[.tmp t,.const (.int .i64 n)],some (g,b),[],none⟩
abbrev ci (n:Int):Operand:=.const (.int .i64 n)
end Go.Proofs.YtlmkcmfmfahcfaaGreat.Ab
namespace Go.Proofs.YtlmkcmfmfahcfaaGreat.Ab.R
open Go Go.RowKit
theorem wrap_i64 {x:Int} (h:-9223372036854775808≤x∧x≤9223372036854775807):IntKind.i64.wrap x=x:=by simp only[IntKind.wrap,IntKind.bits,IntKind.signed];simp;omega
theorem wrap_u64 {x:Int} (h:0≤x∧x≤18446744073709551615):IntKind.u64.wrap x=x:=by simp only[IntKind.wrap,IntKind.bits,IntKind.signed];simp;omega
theorem wrap_u8 (x:Int):IntKind.u8.wrap x=x%256:=by simp only[IntKind.wrap,IntKind.bits,IntKind.signed];simp
@[simp] theorem MI:cz none=none:=rfl
@[simp] theorem QC (cs:List AV):cz (some (.box cs))=none:=rfl
@[simp] theorem Qf (k:IntKind) (n:Int):(Value.int k n).oneCell'=true:=rfl
@[simp] theorem MQ (b:Bool):(Value.bool b).oneCell'=true:=rfl
@[simp] theorem SI (s:ByteArray):(Value.string s).oneCell'=true:=rfl
@[simp] theorem O4 (a:Option Addr):(Value.pointer a).oneCell'=true:=rfl
@[simp] theorem Ha (a:Option Addr) (n c:Nat):(Value.slice a n c).oneCell'=true:=rfl
@[simp] theorem EM:bytesRow []=[]:=rfl
theorem aQ:maxLen=9223372036854775807:=rfl
end Go.Proofs.YtlmkcmfmfahcfaaGreat.Ab.R
