/- How the abstract machine reckons: objects handed over whole, maps of plain values, ranges. -/
import Derived.Test.YtlmkcmfmfahcfaaX8
set_option linter.unusedVariables false
set_option linter.unusedSimpArgs false
set_option linter.unnecessarySimpa false
set_option maxHeartbeats 40000000
set_option maxRecDepth 100000
namespace Go.Proofs.Ytlmkcmfmfahcfaa.Ab.R
open Go Go.RowKit
section
variable{P:Program}{Γ:bp}{K:St→Prop}{vs:List (Nat×AV)}{os:List (Nat×AO)}
@[simp↓] theorem H0 {d:Nat}:aM (some d) .IL [] K ⟨look vs,ab os⟩=(ab os d=none∧K ⟨put (some d) (.own d) (look vs),bd [(d,.fD [])] (ab os)⟩):=rfl
@[simp↓] theorem Hl {d:Option Nat}{s:Nat}{x y z:AV}:aM d (.ow s) [x,y,z] K ⟨look vs,ab os⟩=nY d s (strip x) (strip y) (mU (strip z)) [x,y,z] K ⟨look vs,ab os⟩:=rfl
@[congr] theorem Fp {d:Option Nat}{s:Nat}{x x' y y' z z':AV}{xs:List AV}{st:St} (h1:True→x=x') (h2:True→y=y') (h3:True→z=z'):nY d s x y z xs K st=nY d s x' y' z' xs K st:=by rw[h1 trivial,h2 trivial,h3 trivial]
@[simp↓] theorem PC {d:Option Nat}{s t:Nat}{k v:PV}{xs:List AV}:nY d s (.own t) (.pv k) (.pv v) xs K ⟨look vs,ab os⟩=(aj xs∧ag (ox (ab os t)) fun es=>cD k=s∧eb s es∧K ⟨put d .al (look vs),aA t (.fD (jr k v es)) (ab os)⟩):=rfl
@[simp↓] theorem Gw {d:Option Nat}{s:Nat}{z:Value}{ok:Bool}{x y:AV}:aM d (.Af s z ok) [x,y] K ⟨look vs,ab os⟩=sA d s z ok (strip x) (strip y) [x,y] K ⟨look vs,ab os⟩:=rfl
@[simp↓] theorem Pm {d:Option Nat}{s:Nat}{z:Value}{ok:Bool}{X:AV}{k:PV}{xs:List AV}:sA d s z ok X (.pv k) xs K ⟨look vs,ab os⟩=(aj xs∧ag (BS (ab os) X) fun es=>z.oneCell'=true∧cD k=s∧eb s es∧K ⟨put d (tV z ok (jq k es)) (look vs),ab os⟩):=rfl
@[simp↓] theorem IE {d:Option Nat}{s:Nat}{x y:AV}:aM d (.TU s) [x,y] K ⟨look vs,ab os⟩=s8 d s (strip x) (strip y) [x,y] K ⟨look vs,ab os⟩:=rfl
@[simp↓] theorem Ph {d:Option Nat}{s t:Nat}{k:PV}{xs:List AV}:s8 d s (.own t) (.pv k) xs K ⟨look vs,ab os⟩=(aj xs∧ag (ox (ab os t)) fun es=>cD k=s∧eb s es∧K ⟨put d .al (look vs),aA t (.fD (mD k es)) (ab os)⟩):=rfl
@[simp↓] theorem FP {d:Option Nat}{ne:Bool}{x:AV}:aM d (.At ne) [x] K ⟨look vs,ab os⟩=(aj [x]∧ag (pP (strip x)) fun b=>K ⟨put d (.pv (.bool (b !=ne))) (look vs),ab os⟩):=rfl
@[simp↓] theorem IT {d:Option Nat}{x:AV}:aM d .MA [x] K ⟨look vs,ab os⟩=rP d (strip x) [x] K ⟨look vs,ab os⟩:=rfl
@[simp↓] theorem OH {d:Nat}{es:List (PV×PV)}{xs:List AV}:rP (some d) (.pv (.mv es)) xs K ⟨look vs,ab os⟩=(aj xs∧ab os d=none∧K ⟨put (some d) (.ptr d 0) (look vs),bd [(d,.lq es none)] (ab os)⟩):=rfl
@[simp↓] theorem Iu {d:Option Nat}{x:AV}:aM d .TR [x] K ⟨look vs,ab os⟩=ss d (strip x) [x] K ⟨look vs,ab os⟩:=rfl
@[simp↓] theorem M7 {d:Option Nat}{t:Nat}{xs:List AV}:ss d (.ptr t 0) xs K ⟨look vs,ab os⟩=(aj xs∧ag (zE (ab os t)) fun r=>(r.1=[]→K ⟨put d (.aC [.pv (.bool false)]) (look vs),ab os⟩)∧∀(e:PV×PV) (l m:List (PV×PV)),r.1=l++e::m→K ⟨put d (.aC [.pv (.bool true),.pv e.1,.pv e.2]) (look vs),aA t (.lq (l++m) (some e)) (ab os)⟩):=rfl
@[simp↓] theorem GA {d:Option Nat}{x:AV}:aM d .Ss [x] K ⟨look vs,ab os⟩=sy d (strip x) [x] K ⟨look vs,ab os⟩:=rfl
@[simp↓] theorem NX {d:Option Nat}{t:Nat}{xs:List AV}:sy d (.ptr t 0) xs K ⟨look vs,ab os⟩=(aj xs∧ag (zE (ab os t)) fun r=>ag r.2 fun e=>K ⟨put d (.aC [.pv e.1,.pv e.2]) (look vs),ab os⟩):=rfl
@[simp↓] theorem MM {d f:Nat}{ks:List Nat}{xs:List AV}:stepG Γ (some d) f xs (some ks) K ⟨look vs,ab os⟩=(aj xs∧ug Γ d f ks (xs.map strip) (dR (ab os) ks (xs.map strip)) ((dz ks (xs.map strip)).flatMap oi) K ⟨look vs,ab os⟩):=rfl
@[congr] theorem Fh {d:Option Nat}{f:Nat}{xs xs':List AV}{o o':Option (List Nat)}{st:St} (h1:True→xs=xs') (h2:True→o=o'):stepG Γ d f xs o K st=stepG Γ d f xs' o' K st:=by rw[h1 trivial,h2 trivial]
@[simp↓] theorem KA {d f:Nat}{ks:List Nat}{xs:List AV}{T Q:List Nat}:ug Γ d f ks xs T Q K ⟨look vs,ab os⟩=(T.Nodup∧(∀t∈Q,t∈T)∧tR Γ d f ks xs T Q (T.filter fun t=>!Q.contains t) K ⟨look vs,ab os⟩):=rfl
@[simp↓] theorem Jh {d f:Nat}{ks:List Nat}{xs:List AV}{T Q W:List Nat}:tR Γ d f ks xs T Q W K ⟨look vs,ab os⟩=(Q.Nodup∧ag (Am (ab os) (dG T T (ab os)) T ks xs) fun ys=>tm Γ d f ks xs T Q W K ⟨look vs,ab os⟩ ys):=rfl
@[simp↓] theorem Lp {d f:Nat}{ks:List Nat}{xs ys:List AV}{T Q W:List Nat}:tm Γ d f ks xs T Q W K ⟨look vs,ab os⟩ ys=ag (Γ (f+2000000) ys) fun x=>x.1∧(dL T ks xs=true∨∀y∈jo x.2++[iR x.2],fm 5 y)∧ag (lG (num 5 true) (jo x.2) (Q,mn d T W)) fun o=>o.1=dz ks xs∧ag (num 5 false (iR x.2) o.2.2) fun r=>(∀p∈o.2.1++r.2.1,T.contains p.1=true∨ab os p.1=none)∧K ⟨put (some d) r.1 (ft W (look vs)),bd (o.2.1++r.2.1) (dG T W (ab os))⟩:=rfl
end
@[simp↓] theorem Np {P:Program}{Γ:bp}{d:Option Nat}{s:Nat}{z:Value}{ok:Bool}{x y:AV}{aa:Nat→Option AO}{C:bh→Prop}:aL P Γ d (.ex (.Af s z ok)) [x,y] aa C=(aj [x,y]∧ag (ai (.ex (.Af s z ok)) [strip x,strip y] aa) fun r=>r.1∧C (.put r.2)):=rfl
@[simp] theorem Ql {s:Nat}{z:Value}{ok:Bool}{es:List (PV×PV)}{k:PV}{aa:Nat→Option AO}:ai (.ex (.Af s z ok)) [.pv (.mv es),.pv k] aa=some (z.oneCell'=true∧cD k=s∧eb s es,tV z ok (jq k es)):=nr rfl
@[simp] theorem PT (k v:PV):jr k v []=[(k,v)]:=nr rfl
@[simp] theorem PM (k k':IntKind) (a b:Int) (v x:PV) (l:List (PV×PV)):jr (.int k a) v ((.int k' b,x)::l)=if a=b then(.int k a,v)::l else(.int k' b,x)::jr (.int k a) v l:=by simp[jr,lA]
@[simp] theorem Ba (k k':IntKind) (a b:Int) (x:PV) (l:List (PV×PV)):jq (.int k a) ((.int k' b,x)::l)=if a=b then some x else jq (.int k a) l:=by simp[jq,lA]
@[simp] theorem wu (s:Nat) (e:PV×PV) (l:List (PV×PV)):eb s (e::l)=(cD e.1=s∧eb s l):=by simp[eb]
@[simp] theorem Ld {f:FuncId}{args:List AV}:jb (.pv (.val (.func (.func f) #[] #[]))::args)=some (f,args):=nr rfl
@[simp] theorem Sv (t s:Nat) (es:List (PV×PV)):P4 t es (.own s)=if s=t then .pv (.mv es) else .own s:=nr rfl
@[simp] theorem Uv (vs:List (Nat×AV)) (os:List (Nat×AO)) (t:Nat):vM t ⟨look vs,ab os⟩=match ox (ab os t) with|some es=>⟨look (vs.map fun x=>(x.1,P4 t es x.2)),ab (DF t os)⟩|none=>⟨look vs,ab os⟩:=by unfold vM;dsimp only;cases ox (ab os t) with|none=>rfl|some es=>dsimp only;rw[qe];congr 1;funext s;induction vs with|nil=>rfl|cons x l ih=>
 simp only[List.map_cons,look];split;·rfl
 ·exact ih
@[simp] theorem Kk (es:List (PV×PV)):ox (some (.fD es))=some es:=nr rfl
@[simp] theorem U1 (z:Value) (o:Option PV):tV z true o=.aC [.pv (o.getD (ou z)),.pv (.bool o.isSome)]:=nr rfl
@[simp] theorem KM (s:Nat):eb s []=True:=by simp[eb]
@[simp] theorem Qm (k:PV):jq k []=none:=nr rfl
@[simp] theorem SG (e:TypeId) (rows:List (List PV)):Jv (some (.arr e rows))=some (.fr e rows):=nr rfl
@[simp] theorem SV (f:AV→Option (AV×List Nat)):CH f []=some ([],[]):=nr rfl
@[simp] theorem MI (f:AV→Option (AV×List Nat)) (c:AV) (cs:List AV):CH f (c::cs)=(f c).bind fun r=>(CH f cs).map fun q=>(r.1::q.1,r.2++q.2):=nr rfl
@[simp] theorem V9 (n:Nat) (aa:Nat→Option AO) (t:Nat):rd (n+1) aa (.own t)=(Jv (aa t)).map fun y=>(y,[t]):=nr rfl
@[simp] theorem Wh (n:Nat) (aa:Nat→Option AO) (t:Nat):rd (n+1) aa (.ptr t 0)=(dJ (aa t)).bind fun cs=>(CH (rd n aa) cs).map fun r=>(.bx r.1,t::r.2):=nr rfl
@[simp] theorem W7 (n:Nat) (aa:Nat→Option AO) (p:PV):rd (n+1) aa (.pv p)=some (.pv p,[]):=nr rfl
@[simp] theorem Xr (p:Nat) (ps us:List Nat):tk true (p::ps,us)=some (p,ps,us):=nr rfl
@[simp] theorem Xj (u:Nat) (ps us:List Nat):tk false (ps,u::us)=some (u,ps,us):=nr rfl
@[simp] theorem Ns (f:AV→List Nat×List Nat→Option (AV×List (Nat×AO)×List Nat×List Nat)) (s:List Nat×List Nat):lG f [] s=some ([],[],s):=nr rfl
@[simp] theorem Jk (f:AV→List Nat×List Nat→Option (AV×List (Nat×AO)×List Nat×List Nat)) (c:AV) (cs:List AV) (s:List Nat×List Nat):lG f (c::cs) s=(f c s).bind fun r=>(lG f cs r.2.2).map fun q=>(r.1::q.1,r.2.1++q.2.1,q.2.2):=nr rfl
@[simp] theorem UO (n:Nat) (top:Bool) (e:TypeId) (rows:List (List PV)) (s:List Nat×List Nat):num (n+1) top (.fr e rows) s=(tk top s).map fun q=>(.own q.1,[(q.1,.arr e rows)],q.2):=nr rfl
@[simp] theorem UR (n:Nat) (top:Bool) (cs:List AV) (s:List Nat×List Nat):num (n+1) top (.bx cs) s=(tk top s).bind fun q=>(lG (num n false) cs q.2).map fun r=>(.ptr q.1 0,(q.1,.box r.1)::r.2.1,r.2.2):=nr rfl
@[simp] theorem TI (n:Nat) (top:Bool) (cs:List AV) (s:List Nat×List Nat):num (n+1) top (.agg cs) s=(lG (num n top) cs s).map fun r=>(.agg r.1,r.2):=nr rfl
@[simp] theorem Tz (n:Nat) (top:Bool) (cs:List AV) (s:List Nat×List Nat):num (n+1) top (.aC cs) s=(lG (num n top) cs s).map fun r=>(.aC r.1,r.2):=nr rfl
@[simp] theorem V1 (n:Nat) (top:Bool) (p:PV) (s:List Nat×List Nat):num (n+1) top (.pv p) s=some (.pv p,[],s):=nr rfl
@[simp] theorem NV (t:Nat):oi (.own t)=[t]:=nr rfl
@[simp] theorem MK (t:Nat):oi (.ptr t 0)=[t]:=nr rfl
@[simp] theorem TO (aa objs':Nat→Option AO) (T:List Nat):Am aa objs' T [] []=some []:=nr rfl
@[simp] theorem Ww (aa objs':Nat→Option AO) (T ks:List Nat) (x:AV) (xs:List AV):Am aa objs' T (0::ks) (x::xs)=(lR objs' (dO T x)).bind fun y=>(Am aa objs' T ks xs).map (y::·):=nr rfl
@[simp] theorem W5 (aa objs':Nat→Option AO) (T ks:List Nat) (x:AV) (xs:List AV):Am aa objs' T (2::ks) (x::xs)=((rd 5 aa x).map fun r=>.aC [r.1]).bind fun y=>(Am aa objs' T ks xs).map (y::·):=nr rfl
@[simp] theorem Lm (aa:Nat→Option AO):dR aa [] []=[]:=nr rfl
@[simp] theorem Tm (aa:Nat→Option AO) (ks:List Nat) (x:AV) (xs:List AV):dR aa (0::ks) (x::xs)=dR aa ks xs:=nr rfl
@[simp] theorem Tl (aa:Nat→Option AO) (ks:List Nat) (x:AV) (xs:List AV):dR aa (2::ks) (x::xs)=((rd 5 aa x).map (·.2)).getD []++dR aa ks xs:=nr rfl
@[simp] theorem LK:dz [] []=[]:=nr rfl
@[simp] theorem SF (ks:List Nat) (x:AV) (xs:List AV):dz (0::ks) (x::xs)=dz ks xs:=nr rfl
@[simp] theorem TY (ks:List Nat) (x:AV) (xs:List AV):dz (2::ks) (x::xs)=x::dz ks xs:=nr rfl
@[simp] theorem He (T:List Nat):dL T [] []=true:=nr rfl
@[simp] theorem RK (T ks:List Nat) (x:AV) (xs:List AV):dL T (0::ks) (x::xs)=(dc (dO T x)&&dL T ks xs):=nr rfl
@[simp] theorem NA (T ks:List Nat) (x:AV) (xs:List AV):dL T (2::ks) (x::xs)=dL T ks xs:=nr rfl
@[simp] theorem PY (n:Nat) (e:TypeId) (rows:List (List PV)):fm (n+1) (.fr e rows)=bE rows:=nr rfl
@[simp] theorem Qf (n:Nat) (cs:List AV):fm (n+1) (.bx cs)=∀c∈cs,fm n c:=nr rfl
@[simp] theorem KC (n:Nat) (cs:List AV):fm (n+1) (.aC cs)=∀c∈cs,fm n c:=nr rfl
@[simp] theorem RA (n:Nat) (p:PV):fm (n+1) (.pv p)=(gH p=true):=nr rfl
@[simp] theorem Pb (n:Nat) (r:AV) (l:List AV):jo (.bk n (r::l))=l:=nr rfl
@[simp] theorem QX (n:Nat) (r:AV) (l:List AV):iR (.bk n (r::l))=r:=nr rfl
@[simp] theorem TT (l:List PV):HB (.rp l)=some (l.map fun p=>match p with|.int _ n=>n.toNat|_=>0):=nr rfl
@[simp] theorem MH (d:Nat) (T W:List Nat):mn d T W=W.filter (fun t=>t%1000 !=999)++[d,d+1000,d+2000,d+3000,d+4000,d+5000,d+6000,d+7000].filter fun t=>!T.contains t:=nr rfl
@[simp] theorem Pp (x:AV):dO [] x=x:=nr rfl
@[simp] theorem J2 (t:Nat) (W:List Nat) (x:AV):dO (t::W) x=jd (t::W) x:=nr rfl
@[simp] theorem JN (W:List Nat) (g:Bool) (v:AV):jd W (.bL g v)=.bL g (jd W v):=nr rfl
@[simp] theorem L1 (W:List Nat) (cs:List AV):jd W (.agg cs)=.agg (cs.map (dv W)):=nr rfl
@[simp] theorem JY (W:List Nat) (t o:Nat):jd W (.ptr t o)=dv W (.ptr t o):=nr rfl
@[simp] theorem OQ (W:List Nat) (p:PV):jd W (.pv p)=.pv p:=nr rfl
@[simp] theorem I6 (W:List Nat):jd W .al=.al:=nr rfl
@[simp] theorem Jw (W:List Nat) (t o:Nat):dv W (.ptr t o)=if W.contains t then .al else .ptr t o:=nr rfl
@[simp] theorem Ol (W:List Nat) (p:PV):dv W (.pv p)=.pv p:=nr rfl
@[simp] theorem Mh (o:AO):gJ [] o=o:=nr rfl
@[simp] theorem I0 (t:Nat) (W:List Nat) (o:AO):gJ (t::W) o=ud (t::W) o:=nr rfl
@[simp] theorem H2 (W:List Nat) (cs:List AV):ud W (.box cs)=.box (cs.map (dv W)):=nr rfl
@[simp] theorem IZ (W:List Nat) (e:TypeId) (rows:List (List PV)):ud W (.arr e rows)=.arr e rows:=nr rfl
@[simp] theorem IP (W:List Nat) (l:List (Nat×AV)):ft W (look l)=look (l.map fun x=>(x.1,dO W x.2)):=by funext s;unfold ft;induction l with|nil=>show dO W .al=.al;unfold dO;split<;>rfl|cons x l ih=>
 obtain⟨k,v⟩:=x;simp only[List.map_cons,look];split;·rfl
 ·exact ih
def EO (T W:List Nat):List (Nat×AO)→List (Nat×AO)|[]=>[]|x::l=>if T.contains x.1=true then EO T W l else(x.1,gJ W x.2)::EO T W l
@[simp] theorem SX (T W:List Nat):EO T W []=[]:=nr rfl
@[simp] theorem BR (T W:List Nat) (s:Nat) (o:AO) (l:List (Nat×AO)):EO T W ((s,o)::l)=if T.contains s=true then EO T W l else(s,gJ W o)::EO T W l:=nr rfl
@[simp] theorem IA (T W:List Nat) (l:List (Nat×AO)):dG T W (ab l)=ab (EO T W l):=by funext s;unfold dG;induction l with|nil=>simp[EO,ab]|cons x l ih=>
 obtain⟨k,v⟩:=x;simp only[BR,ab];by_cases hs:T.contains s=true
 ·rw[if_pos hs]at ih ⊢;by_cases hk:T.contains k=true;·rw[if_pos hk];exact ih
  ·have:¬s=k:=fun e=>hk (e▸hs);rw[if_neg hk];simp only[ab,if_neg this];exact ih
 ·rw[if_neg hs]at ih ⊢;by_cases hsk:s=k;·subst hsk;rw[if_neg hs];simp[ab]
  ·rw[if_neg hsk];by_cases hk:T.contains k=true;·rw[if_pos hk];exact ih
   ·rw[if_neg hk];simp only[ab,if_neg hsk];exact ih
@[simp] theorem Uj (cs:List AV):CF (.agg cs)=cs.any fun c=>match c with|.bx _|.mf _=>true|_=>false:=nr rfl
@[simp] theorem VO (p:PV):CF (.pv p)=false:=nr rfl
@[simp] theorem VW (e:TypeId) (rows:List (List PV)):CF (.fr e rows)=false:=nr rfl
@[simp] theorem Sn (vs:List AV):lV (.aC vs)=vs.any CF:=nr rfl
@[simp] theorem UB (cs:List AV):lV (.agg cs)=CF (.agg cs):=nr rfl
@[simp] theorem VK (p:PV):lV (.pv p)=false:=nr rfl
@[simp] theorem Vj (e:TypeId) (rows:List (List PV)):lV (.fr e rows)=false:=nr rfl
@[simp] theorem Oz (r:AV):nm r=if lV r=true then fm 5 r else flat r:=nr rfl
@[simp] theorem Te (d:Nat) (r:AV):ie d r=if lV r=true then(((num 5 false r ([],iz d)).map (·.2.1)).getD []) else aB d r:=nr rfl
@[simp] theorem T8 (d:Nat) (r:AV):we d r=if lV r=true then(((num 5 false r ([],iz d)).map (·.1)).getD .al) else cq (jE d) r:=nr rfl
@[simp] theorem T3 (d:Nat) (r:AV):uZ d r=if lV r=true then(num 5 false r ([],iz d)).isSome else cr r:=nr rfl
@[simp] theorem Ow (d:Nat):iz d=[d,d+1000,d+2000,d+3000,d+4000,d+5000,d+6000,d+7000]:=nr rfl
@[congr] theorem CY {P:Program}{rs:List (Nat×Option (Option Nat))}{L:List AV}{x:AV}{st st':St} (h:True→st=st'):nb P rs L x st=nb P rs L x st':=by rw[h trivial]
@[congr] theorem E1 {P:Program}{rs:List (Nat×Option (Option Nat))}{L:List AV}{x:AV}{st st':St} (h:True→st=st'):nJ P rs L x st=nJ P rs L x st':=by rw[h trivial]
section
variable{P:Program}{aa:Nat→Option AO}
@[simp] theorem SY (f:AV→AV→Prop):sg f [] []=True:=nr rfl
@[simp] theorem Rs (f:AV→AV→Prop) (c y:AV) (cs ys:List AV):sg f (c::cs) (y::ys)=(f c y∧sg f cs ys):=nr rfl
@[simp] theorem WO (n:Nat) (x:AV) (e:TypeId) (rows:List (List PV)):mt P aa (n+1) x (.fr e rows)=qX P aa x (.fr e rows):=nr rfl
@[simp] theorem Wo (n t:Nat) (cs:List AV):mt P aa (n+1) (.ptr t 0) (.bx cs)=ag (dJ (aa t)) fun l=>sg (mt P aa n) l cs:=by
 show(∃t' l,AV.ptr t 0=.ptr t' 0∧aa t'=some (.box l)∧sg (mt P aa n) l cs)=_;apply propext;constructor;·rintro⟨t',l,h,h',h''⟩;cases h;rw[h'];exact h''
 ·intro h;obtain⟨l,hl,h⟩:=ae h;exact⟨t,l,rfl,eo hl,h⟩
@[simp] theorem U8 (n:Nat) (l cs:List AV):mt P aa (n+1) (.aC l) (.aC cs)=sg (mt P aa n) l cs:=by show(∃l',AV.aC l=.aC l'∧sg (mt P aa n) l' cs)=_;apply propext;exact⟨fun⟨_,h,h'⟩=>by cases h;exact h',fun h=>⟨l,rfl,h⟩⟩
@[simp] theorem WY (n:Nat) (x:AV) (p:PV):mt P aa (n+1) x (.pv p)=(x=.pv p):=nr rfl
@[simp] theorem VE (n t:Nat):tg aa (n+1) (.own t)=[t]:=nr rfl
@[simp] theorem V8 (n t:Nat):tg aa (n+1) (.ptr t 0)=t::((dJ (aa t)).getD []).flatMap (tg aa n):=nr rfl
@[simp] theorem Wg (n:Nat) (cs:List AV):tg aa (n+1) (.aC cs)=cs.flatMap (tg aa n):=nr rfl
@[simp] theorem Wt (n:Nat) (p:PV):tg aa (n+1) (.pv p)=[]:=nr rfl
end
def Bz (ks:List Nat) (G:List AV→Option (Prop×AV)) (ys:List AV):Option (Prop×AV):=match ys with|[.al]=>some (True,.rp (ks.map fun k:Nat=>PV.int .i64 (k:Int)))|ys=>G ys
def dk (P:Program) (f:FuncId) (G:List AV→Option (Prop×AV)):Prop:=∀ys φ r,G ys=some (φ,r)→φ→xN P f ys r
@[simp] theorem Mj (ks:List Nat) (G:List AV→Option (Prop×AV)):Bz ks G [.al]=some (True,.rp (ks.map fun k:Nat=>PV.int .i64 (k:Int))):=nr rfl
@[simp] theorem TQ (ks:List Nat) (G:List AV→Option (Prop×AV)) (q:PV) (l:List AV):Bz ks G (.pv q::l)=G (.pv q::l):=nr rfl
@[simp] theorem Oy (ks:List Nat) (G:List AV→Option (Prop×AV)) (q l:List AV):Bz ks G (.aC q::l)=G (.aC q::l):=nr rfl
@[simp↓] theorem WL (Γ:bp) (f:FuncId) (ys:List AV):gt Γ f ys=KY (Γ f ys) (Γ (f+3000000) ys):=rfl
@[congr] theorem KX {a a' b:Option (Prop×AV)} (h:True→a=a'):KY a b=KY a' b:=by rw[h trivial]
@[simp↓] theorem Ry (x:Prop×AV) (y:Option (Prop×AV)):KY (some x) y=some (x.1∧lV x.2=false,x.2):=rfl
@[simp↓] theorem Qn (y:Option (Prop×AV)):KY none y=y.map fun x=>(x.1∧lV x.2=true,x.2):=rfl
section
variable{P:Program}{Γ:bp}{vs:List (Nat×AV)}{os:List (Nat×AO)}{K:St→Prop}{rs:List (Nat×Option (Option Nat))}{r:AV}{aa:Nat→Option AO}{C:List AV→Prop}
@[simp↓] theorem RN:vO K .ret ⟨look vs,ab os⟩=K ⟨look vs,ab os⟩:=rfl
@[simp↓] theorem LA {id:Nat}:vO K (.exit id) ⟨look vs,ab os⟩=False:=rfl
@[simp↓] theorem Um {r:AV}:Ends P rs r ⟨look vs,ab os⟩=cd ⟨look vs,ab os⟩ rs fun xs=>sN P rs r (bW (kE (bm xs) r) ⟨look vs,ab os⟩):=rfl
@[congr] theorem FA {st st':St}{r:AV} (h:True→st=st'):sN P rs r st=sN P rs r st':=by rw[h trivial]
@[simp↓] theorem Nx {r:AV}{hout:List (Nat×AO)}:kO P rs r hout ⟨look vs,ab os⟩=cd ⟨look vs,ab os⟩ rs fun xs=>lf P rs r hout (bW (kE (bm xs) r) ⟨look vs,ab os⟩):=rfl
@[congr] theorem DS {st st':St}{r:AV}{hout:List (Nat×AO)} (h:True→st=st'):lf P rs r hout st=lf P rs r hout st':=by rw[h trivial]
@[simp↓] theorem Ke {r:AV}{hout:List (Nat×AO)}:lf P rs r hout ⟨look vs,ab os⟩=cd ⟨look vs,ab os⟩ rs fun xs=>fz P (ab os) (bm xs) r∧iO (pl (bm xs))∧jO (ab os) (pl (bm xs)) hout:=rfl
@[simp] theorem GQ (l:List (Nat×Nat)):jO aa l []=True:=nr rfl
@[simp] theorem Fj (l:List (Nat×Nat)) (x:Nat×AO) (hout:List (Nat×AO)):jO aa l (x::hout)=(aa x.1=some x.2∧(∀y∈l,y.2≠x.1)∧jO aa l hout):=nr rfl
@[simp] theorem U5 (e:TypeId) (rows:List (List PV)):CI (.fr e rows)=.own 998:=nr rfl
@[simp] theorem UM (e:TypeId) (rows:List (List PV)):CI (.aC [.fr e rows])=.own 999:=nr rfl
@[simp] theorem Wc (p:PV):CI (.pv p)=.pv p:=nr rfl
@[simp] theorem TM (f:FuncId) (l:List AV):CI (.bk f l)=.bk f l:=nr rfl
@[simp] theorem Sy:kl []=[]:=nr rfl
@[simp] theorem VA (e:TypeId) (rows:List (List PV)) (l:List AV):kl (.fr e rows::l)=[(998,.arr e rows)]:=nr rfl
@[simp] theorem S7 (e:TypeId) (rows:List (List PV)) (l:List AV):kl (.aC [.fr e rows]::l)=[(999,.arr e rows)]:=nr rfl
@[simp] theorem VM (p:PV) (l:List AV):kl (.pv p::l)=kl l:=nr rfl
@[simp↓] theorem Sh {r:AV}:sN P rs r ⟨look vs,ab os⟩=cd ⟨look vs,ab os⟩ rs fun xs=>fz P (ab os) (bm xs) r∧iO (pl (bm xs)):=rfl
@[simp↓] theorem Sa {L:List AV}{x:AV}:nJ P rs L x ⟨look vs,ab os⟩=cd ⟨look vs,ab os⟩ rs fun xs=>nb P rs L x (bW (kE (bm xs) (iR x)) ⟨look vs,ab os⟩):=rfl
@[simp↓] theorem JM {L:List AV}{x:AV}:nb P rs L x ⟨look vs,ab os⟩=cd ⟨look vs,ab os⟩ rs fun xs=>mt P (ab os) 6 (bm xs) (iR x)∧sg (mt P (ab os) 5) L (jo x)∧(L.flatMap (tg (ab os) 5)++tg (ab os) 6 (bm xs)).Nodup:=rfl
@[simp] theorem Oq {f:FuncId}:gx Γ f=(Γ (f+2000000) [.al]).bind fun x=>HB x.2:=nr rfl
@[simp] theorem VH {k:Nat}{o:AO}{R:Nat→AO→Prop}{p:Nat→AO→Prop}:(∀a b,a=k∧b=o∨R a b→p a b)=(p k o∧∀a b,R a b→p a b):=propext ⟨fun h=>⟨h k o (.inl ⟨rfl,rfl⟩),fun a b r=>h a b (.inr r)⟩,fun h a b r=>by
 rcases r with⟨rfl,rfl⟩|r;·exact h.1
 ·exact h.2 a b r⟩
@[simp] theorem Oc {α:Type} (l:List α):dC [] l=[]:=nr rfl
@[simp] theorem OT {α:Type} (y:AV) (ys:List AV) (v:α) (l:List α):dC (.aC [y]::ys) (v::l)=v::dC ys l:=nr rfl
@[simp] theorem TE {α:Type} (p:PV) (ys:List AV) (v:α) (l:List α):dC (.pv p::ys) (v::l)=dC ys l:=nr rfl
@[simp] theorem Mk (t:Nat):qI (.own t)=true:=nr rfl
@[simp] theorem Jf (t:Nat):qI (.ptr t 0)=true:=nr rfl
@[simp] theorem Qt (vs rs:List AV):kE (.aC vs) (.aC rs)=rQ vs rs:=nr rfl
@[simp] theorem Rq (vs:List AV) (r:AV):kE (.agg vs) r=xP (.agg vs) r:=by cases r<;>rfl
@[simp] theorem UI (p:PV) (r:AV):kE (.pv p) r=pd (.pv p) r:=by cases r<;>rfl
@[simp] theorem EC (t:Nat) (e:TypeId) (rows:List (List PV)):kE (.own t) (.fr e rows)=[]:=nr rfl
@[simp] theorem Ji:rQ [] []=[]:=nr rfl
@[simp] theorem Ht (c r:AV) (cs rs:List AV):rQ (c::cs) (r::rs)=xP c r++rQ cs rs:=nr rfl
@[simp] theorem Mb:rW [] []=[]:=nr rfl
@[simp] theorem GU (c r:AV) (cs rs:List AV):rW (c::cs) (r::rs)=pd c r++rW cs rs:=nr rfl
@[simp] theorem Si (cs rs:List AV):xP (.agg cs) (.agg rs)=rW cs rs:=nr rfl
@[simp] theorem Ui (p:PV) (r:AV):xP (.pv p) r=pd (.pv p) r:=by cases r<;>rfl
@[simp] theorem Pc (t:Nat) (r:AV):xP (.own t) r=pd (.own t) r:=by cases r<;>rfl
@[simp] theorem E5 (t:Nat) (e:TypeId) (rows:List (List PV)):pd (.own t) (.fr e rows)=[]:=nr rfl
@[simp] theorem F2 (t:Nat) (es:List (PV×PV)):kE (.own t) (.pv (.mv es))=[t+1000000000000000]:=nr rfl
@[simp] theorem KG (p:PV):pd (.pv p) (.pv p)=[]:=by cases p<;>rfl
@[simp] theorem Jx (p:PV) (k:IntKind) (n:Int):pd (.pv p) (.pv (.int k n))=[]:=by cases p<;>rfl
@[simp] theorem HY (p:PV) (b:Bool):pd (.pv p) (.pv (.bool b))=[]:=by cases p<;>rfl
@[simp] theorem PW (p:PV) (e:TypeId) (rows:List (List PV)):pd (.pv p) (.fr e rows)=[]:=by cases p<;>rfl
@[simp↓] theorem F7:cd ⟨look vs,ab os⟩ [] C=C []:=rfl
@[simp↓] theorem FR {t:Nat}:cd ⟨look vs,ab os⟩ ((t,none)::rs) C=cd ⟨look vs,ab os⟩ rs fun xs=>C (look vs t::xs):=rfl
@[simp↓] theorem Dk {t:Nat}{n:Option Nat}:cd ⟨look vs,ab os⟩ ((t,some n)::rs) C=ag (ai (.load n) [look vs t] (ab os)) fun x=>x.1∧cd ⟨look vs,ab os⟩ rs fun xs=>C (x.2::xs):=rfl
@[simp] theorem E7:bm []=.aC []:=nr rfl
@[simp] theorem F1 (v:AV):bm [v]=v:=nr rfl
@[simp] theorem FK (v u:AV) (l:List AV):bm (v::u::l)=.aC (v::u::l):=nr rfl
@[simp] theorem QY (i:Nat):lr i []=[]:=nr rfl
@[simp] theorem Me (i:Nat) (v:AV) (l:List AV):lr i (v::l)=(i,v)::lr (i+1) l:=nr rfl
@[simp] theorem Tv (t:Nat) (e:TypeId) (rows:List (List PV)):qX P aa (.own t) (.fr e rows)=(aa t=some (.arr e rows)):=by
 apply propext;constructor
 ·rintro(⟨s,h,h2⟩|⟨h,_⟩|⟨_,_,_,h,_⟩);·cases h;exact h2
  ·cases h
  ·cases h
 ·exact fun h=>.inl ⟨t,rfl,h⟩
@[simp] theorem UL (t:Nat) (e e1:TypeId) (hi:Nat) (rows:List (List PV)):qX P aa (.sub t e1 0 hi) (.fr e rows)=(e1=e∧∃rs,aa t=some (.arr e rs)∧rows=rs.take hi):=by
 apply propext;constructor
 ·rintro(⟨s,h,h2⟩|⟨h,_⟩|⟨s,hi',rs,h,h2,h3⟩);·cases h
  ·cases h
  ·cases h;exact⟨rfl,rs,h2,h3⟩
 ·rintro⟨rfl,rs,h2,h3⟩;exact .inr (.inr ⟨t,hi,rs,rfl,h2,h3⟩)
@[simp] theorem VB (t:Nat) (e:TypeId) (lo hi:Nat) (r:AV):fz P aa (.sub t e lo hi) r=qX P aa (.sub t e lo hi) r:=nr rfl
@[simp] theorem Pv (t:Nat) (e:TypeId) (lo hi:Nat) (r:AV):kE (.sub t e lo hi) r=[]:=by cases r<;>rfl
@[simp] theorem TG (e:TypeId) (rows:List (List PV)):qX P aa (.pv .nil) (.fr e rows)=(rows=[]∧(P.info? e).isSome=true):=by
 apply propext;constructor
 ·rintro(⟨s,h,h2⟩|⟨_,h⟩|⟨_,_,_,h,_⟩);·cases h
  ·exact h
  ·cases h
 ·exact fun h=>.inr (.inl ⟨rfl,h⟩)
@[simp] theorem U0 (p q:PV):qX P aa (.pv p) (.pv q)=(p=q):=by
 apply propext;constructor;·rintro⟨h,_⟩;cases h;rfl
 ·rintro rfl;exact⟨rfl,rfl⟩
@[simp] theorem Q8:uL P aa [] []=True:=nr rfl
@[simp] theorem KR (c d:AV) (cs ds:List AV):uL P aa (c::cs) (d::ds)=(qX P aa c d∧uL P aa cs ds):=nr rfl
@[simp] theorem Un (cs ds:List AV):yN P aa (.agg cs) (.agg ds)=uL P aa cs ds:=nr rfl
@[simp] theorem Va (p:PV) (r:AV):yN P aa (.pv p) r=qX P aa (.pv p) r:=nr rfl
@[simp] theorem Td (t:Nat) (r:AV):yN P aa (.own t) r=qX P aa (.own t) r:=nr rfl
@[simp] theorem OE:ux P aa [] []=True:=nr rfl
@[simp] theorem LC (c d:AV) (cs ds:List AV):ux P aa (c::cs) (d::ds)=(yN P aa c d∧ux P aa cs ds):=nr rfl
@[simp] theorem VP (cs ds:List AV):fz P aa (.aC cs) (.aC ds)=(cs.length≤1000∧ux P aa cs ds):=nr rfl
@[simp] theorem VN (cs:List AV) (r:AV):fz P aa (.agg cs) r=yN P aa (.agg cs) r:=nr rfl
@[simp] theorem Wu (p:PV) (r:AV):fz P aa (.pv p) r=qX P aa (.pv p) r:=nr rfl
@[simp] theorem Vq (t:Nat) (r:AV):fz P aa (.own t) r=qX P aa (.own t) r:=nr rfl
@[simp] theorem Mw (j:Nat):oh j []=[]:=nr rfl
@[simp] theorem O3 (j t:Nat) (cs:List AV):oh j (.own t::cs)=(1000*j,t)::oh (j+1) cs:=nr rfl
@[simp] theorem UW (t:Nat) (e:TypeId) (lo hi:Nat):pl (.sub t e lo hi)=[(0,t)]:=nr rfl
@[simp] theorem Tr (j:Nat) (p:PV) (cs:List AV):oh j (.pv p::cs)=oh (j+1) cs:=nr rfl
@[simp] theorem Ug (cs:List AV):HD (.agg cs)=oh 0 cs:=nr rfl
@[simp] theorem Sw (t:Nat):HD (.own t)=[(0,t)]:=nr rfl
@[simp] theorem VV (p:PV):HD (.pv p)=[]:=nr rfl
@[simp] theorem PA (i:Nat):yf i []=[]:=nr rfl
@[simp] theorem LQ (i:Nat) (v:AV) (vs:List AV):yf i (v::vs)=(HD v).map (fun x=>(x.1+i,x.2))++yf (i+1) vs:=nr rfl
@[simp] theorem V7 (vs:List AV):pl (.aC vs)=yf 0 vs:=nr rfl
@[simp] theorem Wb (cs:List AV):pl (.agg cs)=oh 0 cs:=nr rfl
@[simp] theorem UX (t:Nat):pl (.own t)=[(0,t)]:=nr rfl
@[simp] theorem WE (p:PV):pl (.pv p)=[]:=nr rfl
@[simp] theorem GJ:iO []=True:=nr rfl
@[simp] theorem Fv (x:Nat×Nat) (l:List (Nat×Nat)):iO (x::l)=((∀y∈l,y.2≠x.2)∧iO l):=nr rfl
end
section
variable{P:Program}{Γ:bp}{vs:List (Nat×AV)}{os:List (Nat×AO)}{st:St}{ad:List Nat}
theorem sM {K:St→Prop}{J:Exit→St→Prop}{a:AC}{α:Type} (I:α→Prop) (F:α→Fr) (μ:α→Nat) (ad shs:List Nat) (x0:α) (hI:I x0) (h0:wk P ad (bW shs st) (F x0)) (hr:∀x,I x→fF P Γ a (fun st'=>∃x',I x'∧wk P [] (bW shs st') (F x')∧μ x'<μ x) J (F x).st):fF P Γ (.loop a) K J st:=by
 refine⟨{x:α//I x},fun x=>F x.1,fun x=>μ x.1,ad,shs,⟨x0,hI⟩,h0,fun x=>?_⟩;have hK:(fun st'=>∃i':{x:α//I x},wk P [] (bW shs st') (F i'.1)∧μ i'.1<μ x.1)=fun st'=>∃x',I x'∧wk P [] (bW shs st') (F x')∧μ x'<μ x.1:=by
  funext st';apply propext;constructor;·rintro⟨⟨y,hy⟩,h⟩;exact⟨y,hy,h⟩
  ·rintro⟨y,hy,h⟩;exact⟨⟨y,hy⟩,h⟩
 show fF P Γ a (fun st'=>∃i':{x:α//I x},wk P [] (bW shs st') (F i'.1)∧μ i'.1<μ x.1) J (F x.1).st;rw[hK];exact hr x.1 x.2
theorem aD {K:St→Prop}{J:Exit→St→Prop}{a:AC}{α:Type} (I:α→Prop) (F:α→Fr) (μ:α→Nat) (ad:List Nat) (x0:α) (hI:I x0) (h0:wk P ad st (F x0)) (hr:∀x,I x→fF P Γ a (fun st'=>∃x',I x'∧wk P [] st' (F x')∧μ x'<μ x) J (F x).st):fF P Γ (.loop a) K J st:=sM I F μ ad [] x0 hI h0 hr
@[simp] theorem G4 (st:St):bW [] st=st:=nr rfl
@[simp] theorem E8 (t:Nat) (l:List Nat) (st:St):bW (t::l) st=bW l (tB t st):=nr rfl
@[simp] theorem Kf (t:Nat) (st:St):tB t st=if t=999996 then qQ st else if 1000000000000000≤t then vM (t-1000000000000000) st else share1 st (.own t):=nr rfl
def uT:List (Nat×AO)→List (Nat×AO)|[]=>[]|x::l=>(x.1,qD x.2)::uT l
@[simp] theorem JW:uT []=[]:=nr rfl
@[simp] theorem yb (t:Nat) (o:AO) (l:List (Nat×AO)):uT ((t,o)::l)=(t,qD o)::uT l:=nr rfl
@[simp] theorem Q2 (vs:List (Nat×AV)) (os:List (Nat×AO)):qQ ⟨look vs,ab os⟩=⟨look (vs.map fun x=>(x.1,uf x.2)),ab (uT os)⟩:=by
 unfold qQ;congr 1;·funext s;induction vs with|nil=>rfl|cons x l ih=>obtain⟨k,v⟩:=x;simp only[List.map_cons,look];split<;>simp_all
 ·funext s;induction os with|nil=>rfl|cons x l ih=>obtain⟨k,v⟩:=x;simp only[yb,ab];split<;>simp_all
@[simp] theorem S5 (p:PV):uf (.pv p)=.pv (uN p):=nr rfl
@[simp] theorem NO (t o:Nat):uf (.ptr t o)=.ptr t o:=nr rfl
@[simp] theorem LJ:uf .al=.al:=nr rfl
@[simp] theorem J7:jY []=[]:=nr rfl
@[simp] theorem Ir (c:AV) (cs:List AV):jY (c::cs)=oo c::jY cs:=nr rfl
@[simp] theorem Ut (p:PV):oo (.pv p)=.pv (uN p):=nr rfl
@[simp] theorem Mu (t:Nat):oo (.own t)=.own t:=nr rfl
@[simp] theorem MP:uN .nil=.ro []:=nr rfl
@[simp] theorem Ts (l:List (List PV)):uN (.ro l)=.ro l:=nr rfl
@[simp] theorem MU (k:IntKind) (n:Int):uN (.int k n)=.int k n:=nr rfl
@[simp] theorem Ll (b:Bool):uN (.bool b)=.bool b:=nr rfl
@[simp] theorem Q0 (l:List UInt8):uN (.str l)=.str l:=nr rfl
@[simp] theorem Nr (cs:List AV):qD (.box cs)=.box (jY cs):=nr rfl
@[simp] theorem R9 (e:TypeId) (rows:List (List PV)):qD (.arr e rows)=.arr e rows:=nr rfl
@[simp] theorem WU (vs':List (Nat×AV)) (os':List (Nat×AO)):wk P ad ⟨look vs,ab os⟩ ⟨vs',os'⟩=(HM ad ⟨look vs,ab os⟩ os' vs'∧Gl P ad ⟨look vs,ab os⟩ os' os'):=nr rfl
@[simp] theorem Us (os':List (Nat×AO)):HM ad ⟨look vs,ab os⟩ os' []=True:=nr rfl
@[simp] theorem MO (os':List (Nat×AO)) (s:Nat) (v:AV) (l:List (Nat×AV)):HM ad ⟨look vs,ab os⟩ os' ((s,v)::l)=((v=.al∨(look vs s=v∧jX os' v)∨(∃t,v=.own t∧ad.contains t=true∧aw (ab os') t∧look vs s=.pv .nil))∧HM ad ⟨look vs,ab os⟩ os' l):=nr rfl
@[simp] theorem Uz (os':List (Nat×AO)):Gl P ad ⟨look vs,ab os⟩ os' []=True:=nr rfl
@[simp] theorem QH (os':List (Nat×AO)) (t:Nat) (o:AO) (l:List (Nat×AO)):Gl P ad ⟨look vs,ab os⟩ os' ((t,o)::l)=(((ab os t=some o∧ad.contains t=false∧sr os' o)∨(∃e,o=.arr e []∧ad.contains t=true∧ab os t=none∧(P.info? e).isSome=true∧t%1000≠999))∧Gl P ad ⟨look vs,ab os⟩ os' l):=nr rfl
@[simp] theorem KL (f:FuncId) (cs:List AV):jX os (.bk f cs)=fe os cs:=nr rfl
@[simp] theorem N1 (p:PV):jX os (.pv p)=True:=nr rfl
@[simp] theorem K6 (t:Nat):jX os (.own t)=aw (ab os) t:=nr rfl
@[simp] theorem JB (t o:Nat):jX os (.ptr t o)=aw (ab os) t:=nr rfl
@[simp] theorem LN (t:Nat) (e:TypeId) (lo hi:Nat):jX os (.sub t e lo hi)=aw (ab os) t:=nr rfl
@[simp] theorem M1 (p:PV):hZ os (.pv p)=True:=nr rfl
@[simp] theorem Rk (p:List PV):hZ os (.rp p)=True:=nr rfl
@[simp] theorem Jm (t:Nat):hZ os (.own t)=aw (ab os) t:=nr rfl
@[simp] theorem Gv:fe os []=True:=nr rfl
@[simp] theorem Fy (c:AV) (cs:List AV):fe os (c::cs)=(hZ os c∧fe os cs):=nr rfl
@[simp] theorem JR (cs:List AV):sr os (.box cs)=fe os cs:=nr rfl
@[simp] theorem Jn (e:TypeId) (rows:List (List PV)):sr os (.arr e rows)=True:=nr rfl
@[simp] theorem L8 (es:List (PV×AV)):sr os (.map es)=True:=nr rfl
@[simp] theorem SD (t:Nat):aw (ab []) t=False:=by
 apply propext;constructor;·rintro⟨o,h⟩;cases h
 ·exact False.elim
@[simp] theorem OO (s t:Nat) (o:AO) (l:List (Nat×AO)):aw (ab ((s,o)::l)) t=(t=s∨aw (ab l) t):=by apply propext;unfold aw;simp only[xb];by_cases h:t=s<;>simp[h]
end
@[simp↓] theorem Hk {P:Program}{Γ:bp}{d:Nat}{f:FuncId}{xs:List AV}{aa:Nat→Option AO}{C:bh→Prop}:bX P Γ (some d) f xs aa C=(aj xs∧ag (en aa (xs.map strip)) fun ys=>ag (gt Γ f ys) fun x=>x.1∧(dB (xs.map strip)=true∨nm x.2)∧(∀y∈ie d x.2,aa y.1=none)∧uZ d x.2=true∧C (.new (we d x.2) (ie d x.2))):=rfl
def cf (P:Program) (f:FuncId) (G:List AV→Option (Prop×AV)):Prop:=∀ys φ r,G ys=some (φ,r)→φ→A3 P f [] ys [] r
def tab:List (FuncId×(List AV→Option (Prop×AV)))→bp|[]=>fun _ _=>none|x::l=>fun g ys=>if g=x.1 then x.2 ys else tab l g ys
theorem aq {P:Program}:cR P (tab []):=fun _ _ _ _ h=>by cases h
def uE (p k:Nat) (G:List AV→Option (Prop×AV)) (ys:List AV):Option (Prop×AV):=match ys with|[.al]=>some (True,.ptr p k)|ys=>G ys
def sU (P:Program) (f:FuncId) (G:List AV→Option (Prop×AV)):Prop:=∀ys φ r,G ys=some (φ,r)→φ→zo P f ys r
theorem ij {P:Program}{f p k:Nat}{G:List AV→Option (Prop×AV)}{l:List (FuncId×(List AV→Option (Prop×AV)))} (h:sU P f G) (hP:Nat.ble P.funcs.size 1000000=true) (hl:cR P (tab l)) (hf:Nat.blt f 1000000=true:=by rfl):cR P (tab ((f+1000000,uE p k G)::l)):=by
 intro g ys φ r hg hφ;simp only[tab]at hg;split at hg
 ·rename_i e;refine .inr (.inl ⟨Nat.le_of_ble_eq_true hP,by rw[e];exact Nat.le_add_left _ _,by rw[e];exact Nat.add_lt_add_right (Nat.le_of_ble_eq_true hf) 1000000,?_⟩);unfold uE at hg;split at hg;·exact .inl rfl
  ·right;rw[show g-1000000=f from by rw[e];exact Nat.add_sub_cancel _ _];exact h ys φ r hg hφ
 ·exact hl g ys φ r hg hφ
theorem ak {P:Program}{f:FuncId}{G:List AV→Option (Prop×AV)}{l:List (FuncId×(List AV→Option (Prop×AV)))} (h:cf P f G) (hl:cR P (tab l)) (hf:Nat.blt f 1000000=true:=by rfl):cR P (tab ((f,G)::l)):=by
 intro g ys φ r hg hφ;simp only[tab]at hg;split at hg;·rename_i e;subst e;exact .inl ⟨Nat.le_of_ble_eq_true hf,h ys φ r hg hφ⟩
 ·exact hl g ys φ r hg hφ
theorem ba {P:Program}{f:FuncId}{ks:List Nat}{G:List AV→Option (Prop×AV)}{l:List (FuncId×(List AV→Option (Prop×AV)))} (h:dk P f G) (hP:Nat.ble P.funcs.size 1000000=true) (hl:cR P (tab l)) (hf:Nat.blt f 1000000=true:=by rfl):cR P (tab ((f+1000000,uE 0 996 fun _=>none)::(f+2000000,Bz ks G)::l)):=by
 intro g ys φ r hg hφ;simp only[tab]at hg;split at hg
 ·rename_i e;refine .inr (.inl ⟨Nat.le_of_ble_eq_true hP,by rw[e];exact Nat.le_add_left _ _,by rw[e];exact Nat.add_lt_add_right (Nat.le_of_ble_eq_true hf) 1000000,?_⟩);unfold uE at hg;split at hg;·exact .inl rfl
  ·cases hg
 ·split at hg
  ·rename_i e;refine .inr (.inr (.inl ⟨Nat.le_of_ble_eq_true hP,by rw[e];exact Nat.le_add_left _ _,by rw[e];exact Nat.add_lt_add_right (Nat.le_of_ble_eq_true hf) 2000000,?_⟩));unfold Bz at hg;split at hg;·exact .inl rfl
   ·right;rw[show g-2000000=f from by rw[e];exact Nat.add_sub_cancel _ _];exact h ys φ r hg hφ
  ·exact hl g ys φ r hg hφ
@[simp] theorem Rv (f:FuncId) (ys:List AV):tab [] f ys=none:=nr rfl
@[simp] theorem KW (p k:Nat) (G:List AV→Option (Prop×AV)):uE p k G [.al]=some (True,.ptr p k):=nr rfl
@[simp] theorem TF (p k:Nat) (G:List AV→Option (Prop×AV)) (e:TypeId) (rows:List (List PV)) (l:List AV):uE p k G (.fr e rows::l)=G (.fr e rows::l):=nr rfl
@[simp] theorem TX (p k:Nat) (G:List AV→Option (Prop×AV)) (q:PV) (l:List AV):uE p k G (.pv q::l)=G (.pv q::l):=nr rfl
@[simp] theorem RD (p k:Nat) (G:List AV→Option (Prop×AV)) (q l:List AV):uE p k G (.aC q::l)=G (.aC q::l):=nr rfl
@[simp] theorem Qx (f g:FuncId) (G:List AV→Option (Prop×AV)) (l:List (FuncId×(List AV→Option (Prop×AV)))) (ys:List AV):tab ((f,G)::l) g ys=if g=f then G ys else tab l g ys:=nr rfl
end Go.Proofs.Ytlmkcmfmfahcfaa.Ab.R
namespace Go.Proofs.Ytlmkcmfmfahcfaa.Ab
open Go Go.RowKit
abbrev AI.a (d:Nat) (k:AK) (xs:List Operand):AI:=⟨some d,k,xs,none,[],none⟩
abbrev AI.s (k:AK) (xs:List Operand):AI:=⟨none,k,xs,none,[],none⟩
abbrev AI.m (d t:Nat):AI:=⟨some d,.bf,[.tmp t],none,[],none⟩
abbrev AI.mg (d t g:Nat) (b:Bool):AI:=⟨some d,.bf,[.tmp t],some (g,b),[],none⟩
abbrev AI.b (d:Nat) (k:AK) (xs:List Operand) (g:Nat) (b:Bool):AI:=⟨some d,k,xs,some (g,b),[],none⟩
abbrev AI.pa (d x y:Nat):AI:=⟨some d,.pick,[.tmp x,.tmp y,.const (.bool false)],none,[],none⟩
abbrev AI.po (d x y:Nat):AI:=⟨some d,.pick,[.tmp x,.const (.bool true),.tmp y],none,[],none⟩
abbrev AI.u (d:Nat) (k:AK) (t:Nat):AI:=⟨some d,k,[.tmp t],none,[],none⟩
abbrev AI.w (d:Nat) (k:AK) (t u:Nat):AI:=⟨some d,k,[.tmp t,.tmp u],none,[],none⟩
abbrev AI.bu (d:Nat) (k:AK) (t g:Nat) (b:Bool):AI:=⟨some d,k,[.tmp t],some (g,b),[],none⟩
abbrev AI.bw (d:Nat) (k:AK) (t u g:Nat) (b:Bool):AI:=⟨some d,k,[.tmp t,.tmp u],some (g,b),[],none⟩
abbrev AI.c (d:Nat) (k:AK) (t:Nat) (n:Int):AI:=⟨some d,k,[.tmp t,.const (.int .i64 n)],none,[],none⟩
abbrev AI.bc (d:Nat) (k:AK) (t:Nat) (n:Int) (g:Nat) (b:Bool):AI:=⟨some d,k,[.tmp t,.const (.int .i64 n)],some (g,b),[],none⟩
abbrev ci (n:Int):Operand:=.const (.int .i64 n)
end Go.Proofs.Ytlmkcmfmfahcfaa.Ab
namespace Go.Proofs.Ytlmkcmfmfahcfaa.Ab.R
open Go Go.RowKit
theorem wrap_i64 {x:Int} (h:-9223372036854775808≤x∧x≤9223372036854775807):IntKind.i64.wrap x=x:=by simp only[IntKind.wrap,IntKind.bits,IntKind.signed];simp;omega
theorem wrap_u64 {x:Int} (h:0≤x∧x≤18446744073709551615):IntKind.u64.wrap x=x:=by simp only[IntKind.wrap,IntKind.bits,IntKind.signed];simp;omega
theorem wrap_u8 (x:Int):IntKind.u8.wrap x=x%256:=by simp only[IntKind.wrap,IntKind.bits,IntKind.signed];simp
@[simp] theorem Le:cn none=none:=rfl
@[simp] theorem Pf (cs:List AV):cn (some (.box cs))=none:=rfl
@[simp] theorem Nf (k:IntKind) (n:Int):(Value.int k n).oneCell'=true:=rfl
@[simp] theorem JV (b:Bool):(Value.bool b).oneCell'=true:=rfl
@[simp] theorem Oh (s:ByteArray):(Value.string s).oneCell'=true:=rfl
@[simp] theorem Pw (a:Option Addr):(Value.pointer a).oneCell'=true:=rfl
@[simp] theorem Gh (a:Option Addr) (n c:Nat):(Value.slice a n c).oneCell'=true:=rfl
@[simp] theorem Ea:bytesRow []=[]:=rfl
theorem cz:maxLen=9223372036854775807:=rfl
end Go.Proofs.Ytlmkcmfmfahcfaa.Ab.R
