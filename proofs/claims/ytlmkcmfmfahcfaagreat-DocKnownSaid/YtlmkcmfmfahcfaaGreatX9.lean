/- How the abstract machine reckons: objects handed over whole, maps of plain values, ranges. -/
import Derived.Test.YtlmkcmfmfahcfaaGreatX8
import Derived.Test.YtlmkcmfmfahcfaaGreatChecked
set_option linter.unusedVariables false
set_option linter.unusedSimpArgs false
set_option linter.unnecessarySimpa false
set_option maxHeartbeats 40000000
set_option maxRecDepth 100000
namespace Go.Proofs.YtlmkcmfmfahcfaaGreat.Ab.R
open Go Go.RowKit
section
variable{P:Program}{Γ:bW}{K:St→Prop}{vs:List (Nat×AV)}{os:List (Nat×AO)}
@[simp↓] theorem NW {d:Nat}:aW (some d) .YO [] K ⟨look vs,ab os⟩=(ab os d=none∧K ⟨put (some d) (.own d) (look vs),bF [(d,.gY [])] (ab os)⟩):=rfl
@[simp↓] theorem O1 {d:Option Nat}{s:Nat}{x y z:AV}:aW d (.RH s) [x,y,z] K ⟨look vs,ab os⟩=qy d s (strip x) (strip y) (pG (strip z)) [x,y,z] K ⟨look vs,ab os⟩:=rfl
@[congr] theorem JY {d:Option Nat}{s:Nat}{x x' y y' z z':AV}{xs:List AV}{st:St} (h1:True→x=x') (h2:True→y=y') (h3:True→z=z'):qy d s x y z xs K st=qy d s x' y' z' xs K st:=by rw[h1 trivial,h2 trivial,h3 trivial]
@[simp↓] theorem XR {d:Option Nat}{s t:Nat}{k v:PV}{xs:List AV}:qy d s (.own t) (.pv k) (.pv v) xs K ⟨look vs,ab os⟩=(au xs∧aj (rl (ab os t)) fun es=>dk k=s∧fC s es∧K ⟨put d .ay (look vs),aL t (.gY (lB k v es)) (ab os)⟩):=rfl
@[simp↓] theorem LQ {d:Option Nat}{s:Nat}{z:Value}{ok:Bool}{x y:AV}:aW d (.EN s z ok) [x,y] K ⟨look vs,ab os⟩=vT d s z ok (strip x) (strip y) [x,y] K ⟨look vs,ab os⟩:=rfl
@[simp↓] theorem Yj {d:Option Nat}{s:Nat}{z:Value}{ok:Bool}{X:AV}{k:PV}{xs:List AV}:vT d s z ok X (.pv k) xs K ⟨look vs,ab os⟩=(au xs∧aj (ES (ab os) X) fun es=>z.oneCell'=true∧dk k=s∧fC s es∧K ⟨put d (xX z ok (lf k es)) (look vs),ab os⟩):=rfl
@[simp↓] theorem O0 {d:Option Nat}{s:Nat}{x y:AV}:aW d (.dlv s) [x,y] K ⟨look vs,ab os⟩=vr d s (strip x) (strip y) [x,y] K ⟨look vs,ab os⟩:=rfl
@[simp↓] theorem SC {d:Option Nat}{s t:Nat}{k:PV}{xs:List AV}:vr d s (.own t) (.pv k) xs K ⟨look vs,ab os⟩=(au xs∧aj (rl (ab os t)) fun es=>dk k=s∧fC s es∧K ⟨put d .ay (look vs),aL t (.gY (pT k es)) (ab os)⟩):=rfl
@[simp↓] theorem Kv {d:Option Nat}{ne:Bool}{x:AV}:aW d (.Er ne) [x] K ⟨look vs,ab os⟩=(au [x]∧aj (ud (strip x)) fun b=>K ⟨put d (.pv (.bool (b !=ne))) (look vs),ab os⟩):=rfl
@[simp↓] theorem LH {d:Option Nat}{x:AV}:aW d .Xu [x] K ⟨look vs,ab os⟩=wC d (strip x) [x] K ⟨look vs,ab os⟩:=rfl
@[simp↓] theorem VJ {d:Nat}{es:List (PV×PV)}{xs:List AV}:wC (some d) (.pv (.mv es)) xs K ⟨look vs,ab os⟩=(au xs∧ab os d=none∧K ⟨put (some d) (.ptr d 0) (look vs),bF [(d,.nk es none)] (ab os)⟩):=rfl
@[simp↓] theorem LZ {d:Option Nat}{x:AV}:aW d .nxt [x] K ⟨look vs,ab os⟩=vf d (strip x) [x] K ⟨look vs,ab os⟩:=rfl
@[simp↓] theorem SJ {d:Option Nat}{t:Nat}{xs:List AV}:vf d (.ptr t 0) xs K ⟨look vs,ab os⟩=(au xs∧aj (DI (ab os t)) fun r=>(r.1=[]→K ⟨put d (.aQ [.pv (.bool false)]) (look vs),ab os⟩)∧∀(e:PV×PV) (l m:List (PV×PV)),r.1=l++e::m→K ⟨put d (.aQ [.pv (.bool true),.pv e.1,.pv e.2]) (look vs),aL t (.nk (l++m) (some e)) (ab os)⟩):=rfl
@[simp↓] theorem LW {d:Option Nat}{x:AV}:aW d .Zr [x] K ⟨look vs,ab os⟩=wx d (strip x) [x] K ⟨look vs,ab os⟩:=rfl
@[simp↓] theorem YV {d:Option Nat}{t:Nat}{xs:List AV}:wx d (.ptr t 0) xs K ⟨look vs,ab os⟩=(au xs∧aj (DI (ab os t)) fun r=>aj r.2 fun e=>K ⟨put d (.aQ [.pv e.1,.pv e.2]) (look vs),ab os⟩):=rfl
@[simp↓] theorem Y4 {d f:Nat}{ks:List Nat}{xs:List AV}:stepG Γ (some d) f xs (some ks) K ⟨look vs,ab os⟩=(au xs∧xW Γ d f ks (xs.map strip) (eI (ab os) ks (xs.map strip)) ((dZ ks (xs.map strip)).flatMap qZ) K ⟨look vs,ab os⟩):=rfl
@[congr] theorem Lj {d:Option Nat}{f:Nat}{xs xs':List AV}{o o':Option (List Nat)}{st:St} (h1:True→xs=xs') (h2:True→o=o'):stepG Γ d f xs o K st=stepG Γ d f xs' o' K st:=by rw[h1 trivial,h2 trivial]
@[simp↓] theorem RD {d f:Nat}{ks:List Nat}{xs:List AV}{T Q:List Nat}:xW Γ d f ks xs T Q K ⟨look vs,ab os⟩=(T.Nodup∧(∀t∈Q,t∈T)∧xB Γ d f ks xs T Q (T.filter fun t=>!Q.contains t) K ⟨look vs,ab os⟩):=rfl
@[simp↓] theorem Qd {d f:Nat}{ks:List Nat}{xs:List AV}{T Q W:List Nat}:xB Γ d f ks xs T Q W K ⟨look vs,ab os⟩=(Q.Nodup∧aj (Bh (ab os) (eX T T (ab os)) T ks xs) fun ys=>xG Γ d f ks xs T Q W K ⟨look vs,ab os⟩ ys):=rfl
@[simp↓] theorem Si {d f:Nat}{ks:List Nat}{xs ys:List AV}{T Q W:List Nat}:xG Γ d f ks xs T Q W K ⟨look vs,ab os⟩ ys=aj (Γ (f+2000000) ys) fun x=>x.1∧(eB T ks xs=true∨∀y∈ld x.2++[ka x.2],fH 5 y)∧aj (nq (num 5 true) (ld x.2) (Q,nV d T W)) fun o=>o.1=dZ ks xs∧aj (num 5 false (ka x.2) o.2.2) fun r=>(∀p∈o.2.1++r.2.1,T.contains p.1=true∨ab os p.1=none)∧K ⟨put (some d) r.1 (gP W (look vs)),bF (o.2.1++r.2.1) (eX T W (ab os))⟩:=rfl
end
@[simp↓] theorem Vk {P:Program}{Γ:bW}{d:Option Nat}{s:Nat}{z:Value}{ok:Bool}{x y:AV}{aa:Nat→Option AO}{C:bI→Prop}:aY P Γ d (.ex (.EN s z ok)) [x,y] aa C=(au [x,y]∧aj (ak (.ex (.EN s z ok)) [strip x,strip y] aa) fun r=>r.1∧C (.put r.2)):=rfl
@[simp↓] theorem QM {P:Program}{Γ:bW}{d:Option Nat}{e:TypeId}{sz:Nat}{xs:List AV}{aa:Nat→Option AO}{C:bI→Prop}:aY P Γ d (.ex (.mL e sz)) xs aa C=(au xs∧aj (ak (.ex (.mL e sz)) (xs.map strip) aa) fun r=>r.1∧C (.put r.2)):=rfl
@[simp↓] theorem Pc {P:Program}{Γ:bW}{d:Option Nat}{e:TypeId}{sz:Nat}{xs:List AV}{aa:Nat→Option AO}{C:bI→Prop}{c:Bool}:cp P Γ c d (.ex (.mL e sz)) xs aa C=aj (ak (.ex (.mL e sz)) (xs.map strip) aa) fun x=>(c=true→au xs∧x.1)∧C (.put (.ch c x.2)):=rfl
@[simp] theorem Rq {e:TypeId}{sz:Nat}{xs:List AV}{aa:Nat→Option AO}:ak (.ex (.mL e sz)) xs aa=(rowsOf xs).map fun rows=>(∀r∈rows,r.length=sz,.pv (.ro rows)):=nr (by unfold ak;rfl)
@[simp] theorem Xh {s:Nat}{z:Value}{ok:Bool}{es:List (PV×PV)}{k:PV}{aa:Nat→Option AO}:ak (.ex (.EN s z ok)) [.pv (.mv es),.pv k] aa=some (z.oneCell'=true∧dk k=s∧fC s es,xX z ok (lf k es)):=nr rfl
@[simp] theorem Vr (k v:PV):lB k v []=[(k,v)]:=nr rfl
@[simp] theorem YL (k k':IntKind) (a b:Int) (v x:PV) (l:List (PV×PV)):lB (.int k a) v ((.int k' b,x)::l)=if a=b then(.int k a,v)::l else(.int k' b,x)::lB (.int k a) v l:=by simp[lB,mU]
@[simp] theorem FP (k k':IntKind) (a b:Int) (x:PV) (l:List (PV×PV)):lf (.int k a) ((.int k' b,x)::l)=if a=b then some x else lf (.int k a) l:=by simp[lf,mU]
@[simp] theorem Bx (s:Nat) (e:PV×PV) (l:List (PV×PV)):fC s (e::l)=(dk e.1=s∧fC s l):=by simp[fC]
@[simp] theorem P6 {f:FuncId}{args:List AV}:kO (.pv (.val (.func (.func f) #[] #[]))::args)=some (f,args):=nr rfl
@[simp] theorem shP_own (t s:Nat) (es:List (PV×PV)):U4 t es (.own s)=if s=t then .pv (.mv es) else .own s:=nr rfl
@[simp] theorem pubM_eq (vs:List (Nat×AV)) (os:List (Nat×AO)) (t:Nat):Ax t ⟨look vs,ab os⟩=match rl (ab os t) with|some es=>⟨look (vs.map fun x=>(x.1,U4 t es x.2)),ab (Iy t os)⟩|none=>⟨look vs,ab os⟩:=by unfold Ax;dsimp only;cases rl (ab os t) with|none=>rfl|some es=>dsimp only;rw[tc];congr 1;funext s;induction vs with|nil=>rfl|cons x l ih=>
 simp only[List.map_cons,look];split;·rfl
 ·exact ih
@[simp] theorem O8 (es:List (PV×PV)):rl (some (.gY es))=some es:=nr rfl
@[simp] theorem gotV_t (z:Value) (o:Option PV):xX z true o=.aQ [.pv (o.getD (rD z)),.pv (.bool o.isSome)]:=nr rfl
@[simp] theorem Sm (s:Nat):fC s []=True:=by simp[fC]
@[simp] theorem Xv (k:PV):lf k []=none:=nr rfl
@[simp] theorem rdO_arr (e:TypeId) (rows:List (List PV)):Qq (some (.arr e rows))=some (.fr e rows):=nr rfl
@[simp] theorem rdW_nil (f:AV→Option (AV×List Nat)):FW f []=some ([],[]):=nr rfl
@[simp] theorem Us (f:AV→Option (AV×List Nat)) (c:AV) (cs:List AV):FW f (c::cs)=(f c).bind fun r=>(FW f cs).map fun q=>(r.1::q.1,r.2++q.2):=nr rfl
@[simp] theorem rd_own (n:Nat) (aa:Nat→Option AO) (t:Nat):rd (n+1) aa (.own t)=(Qq (aa t)).map fun y=>(y,[t]):=nr rfl
@[simp] theorem rd_ptr (n:Nat) (aa:Nat→Option AO) (t:Nat):rd (n+1) aa (.ptr t 0)=(eQ (aa t)).bind fun cs=>(FW (rd n aa) cs).map fun r=>(.bx r.1,t::r.2):=nr rfl
@[simp] theorem rd_agg (n:Nat) (aa:Nat→Option AO) (cs:List AV):rd (n+1) aa (.agg cs)=(FW (rd n aa) cs).map fun r=>(.agg r.1,r.2):=nr rfl
@[simp] theorem rd_pv (n:Nat) (aa:Nat→Option AO) (p:PV):rd (n+1) aa (.pv p)=some (.pv p,[]):=nr rfl
@[simp] theorem tk_t (p:Nat) (ps us:List Nat):tk true (p::ps,us)=some (p,ps,us):=nr rfl
@[simp] theorem tk_f (u:Nat) (ps us:List Nat):tk false (ps,u::us)=some (u,ps,us):=nr rfl
@[simp] theorem WG (f:AV→List Nat×List Nat→Option (AV×List (Nat×AO)×List Nat×List Nat)) (s:List Nat×List Nat):nq f [] s=some ([],[],s):=nr rfl
@[simp] theorem Rv (f:AV→List Nat×List Nat→Option (AV×List (Nat×AO)×List Nat×List Nat)) (c:AV) (cs:List AV) (s:List Nat×List Nat):nq f (c::cs) s=(f c s).bind fun r=>(nq f cs r.2.2).map fun q=>(r.1::q.1,r.2.1++q.2.1,q.2.2):=nr rfl
@[simp] theorem num_fr (n:Nat) (top:Bool) (e:TypeId) (rows:List (List PV)) (s:List Nat×List Nat):num (n+1) top (.fr e rows) s=(tk top s).map fun q=>(.own q.1,[(q.1,.arr e rows)],q.2):=nr rfl
@[simp] theorem num_bx (n:Nat) (top:Bool) (cs:List AV) (s:List Nat×List Nat):num (n+1) top (.bx cs) s=(tk top s).bind fun q=>(nq (num n false) cs q.2).map fun r=>(.ptr q.1 0,(q.1,.box r.1)::r.2.1,r.2.2):=nr rfl
@[simp] theorem aae (n:Nat) (top:Bool) (cs:List AV) (s:List Nat×List Nat):num (n+1) top (.agg cs) s=(nq (num n top) cs s).map fun r=>(.agg r.1,r.2):=nr rfl
@[simp] theorem num_tup (n:Nat) (top:Bool) (cs:List AV) (s:List Nat×List Nat):num (n+1) top (.aQ cs) s=(nq (num n top) cs s).map fun r=>(.aQ r.1,r.2):=nr rfl
@[simp] theorem num_pv (n:Nat) (top:Bool) (p:PV) (s:List Nat×List Nat):num (n+1) top (.pv p) s=some (.pv p,[],s):=nr rfl
@[simp] theorem Yu (t:Nat):qZ (.own t)=[t]:=nr rfl
@[simp] theorem UP (t:Nat):qZ (.ptr t 0)=[t]:=nr rfl
@[simp] theorem Z0 (aa objs':Nat→Option AO) (T:List Nat):Bh aa objs' T [] []=some []:=nr rfl
@[simp] theorem ysG_0 (aa objs':Nat→Option AO) (T ks:List Nat) (x:AV) (xs:List AV):Bh aa objs' T (0::ks) (x::xs)=(nJ objs' (ff T x)).bind fun y=>(Bh aa objs' T ks xs).map (y::·):=nr rfl
@[simp] theorem ysG_1 (aa objs':Nat→Option AO) (T ks:List Nat) (x:AV) (xs:List AV):Bh aa objs' T (1::ks) (x::xs)=((rd 5 aa x).map (·.1)).bind fun y=>(Bh aa objs' T ks xs).map (y::·):=nr rfl
@[simp] theorem ysG_2 (aa objs':Nat→Option AO) (T ks:List Nat) (x:AV) (xs:List AV):Bh aa objs' T (2::ks) (x::xs)=((rd 5 aa x).map fun r=>.aQ [r.1]).bind fun y=>(Bh aa objs' T ks xs).map (y::·):=nr rfl
@[simp] theorem Pq (aa:Nat→Option AO):eI aa [] []=[]:=nr rfl
@[simp] theorem tagsG_0 (aa:Nat→Option AO) (ks:List Nat) (x:AV) (xs:List AV):eI aa (0::ks) (x::xs)=eI aa ks xs:=nr rfl
@[simp] theorem tagsG_1 (aa:Nat→Option AO) (ks:List Nat) (x:AV) (xs:List AV):eI aa (1::ks) (x::xs)=((rd 5 aa x).map (·.2)).getD []++eI aa ks xs:=nr rfl
@[simp] theorem tagsG_2 (aa:Nat→Option AO) (ks:List Nat) (x:AV) (xs:List AV):eI aa (2::ks) (x::xs)=((rd 5 aa x).map (·.2)).getD []++eI aa ks xs:=nr rfl
@[simp] theorem QX:dZ [] []=[]:=nr rfl
@[simp] theorem lentG_0 (ks:List Nat) (x:AV) (xs:List AV):dZ (0::ks) (x::xs)=dZ ks xs:=nr rfl
@[simp] theorem lentG_1 (ks:List Nat) (x:AV) (xs:List AV):dZ (1::ks) (x::xs)=dZ ks xs:=nr rfl
@[simp] theorem lentG_2 (ks:List Nat) (x:AV) (xs:List AV):dZ (2::ks) (x::xs)=x::dZ ks xs:=nr rfl
@[simp] theorem NJ (T:List Nat):eB T [] []=true:=nr rfl
@[simp] theorem Xf (T ks:List Nat) (x:AV) (xs:List AV):eB T (0::ks) (x::xs)=(dS (ff T x)&&eB T ks xs):=nr rfl
@[simp] theorem WE (T ks:List Nat) (x:AV) (xs:List AV):eB T (1::ks) (x::xs)=eB T ks xs:=nr rfl
@[simp] theorem XL (T ks:List Nat) (x:AV) (xs:List AV):eB T (2::ks) (x::xs)=eB T ks xs:=nr rfl
@[simp] theorem SM (n:Nat) (e:TypeId) (rows:List (List PV)):fH (n+1) (.fr e rows)=bE rows:=nr rfl
@[simp] theorem Y3 (n:Nat) (cs:List AV):fH (n+1) (.bx cs)=∀c∈cs,fH n c:=nr rfl
@[simp] theorem R8 (n:Nat) (cs:List AV):fH (n+1) (.agg cs)=∀c∈cs,fH n c:=nr rfl
@[simp] theorem O3 (n:Nat) (cs:List AV):fH (n+1) (.aQ cs)=∀c∈cs,fH n c:=nr rfl
@[simp] theorem U2 (n:Nat) (p:PV):fH (n+1) (.pv p)=(iJ p=true):=nr rfl
@[simp] theorem Vu (n:Nat) (r:AV) (l:List AV):ld (.bJ n (r::l))=l:=nr rfl
@[simp] theorem Ur (n:Nat) (r:AV) (l:List AV):ka (.bJ n (r::l))=r:=nr rfl
@[simp] theorem ksOf_rp (l:List PV):Np (.rp l)=some (l.map fun p=>match p with|.int _ n=>n.toNat|_=>0):=nr rfl
@[simp] theorem VQ (d:Nat) (T W:List Nat):nV d T W=W.filter (fun t=>t%1000 !=999)++[d,d+1000,d+2000,d+3000,d+4000,d+5000,d+6000,d+7000].filter fun t=>!T.contains t:=nr rfl
@[simp] theorem Wb (x:AV):ff [] x=x:=nr rfl
@[simp] theorem Rs (t:Nat) (W:List Nat) (x:AV):ff (t::W) x=kS (t::W) x:=nr rfl
@[simp] theorem Qw (W:List Nat) (g:Bool) (v:AV):kS W (.ch g v)=.ch g (kS W v):=nr rfl
@[simp] theorem Rx (W:List Nat) (cs:List AV):kS W (.agg cs)=.agg (cs.map (eg W)):=nr rfl
@[simp] theorem Qc (W:List Nat) (t o:Nat):kS W (.ptr t o)=eg W (.ptr t o):=nr rfl
@[simp] theorem YW (W:List Nat) (p:PV):kS W (.pv p)=.pv p:=nr rfl
@[simp] theorem NM (W:List Nat):kS W .ay=.ay:=nr rfl
@[simp] theorem Qu (W:List Nat) (t:Nat):eg W (.own t)=if W.contains t then .ay else .own t:=nr rfl
@[simp] theorem Pm (W:List Nat) (t o:Nat):eg W (.ptr t o)=if W.contains t then .ay else .ptr t o:=nr rfl
@[simp] theorem Yr (W:List Nat) (p:PV):eg W (.pv p)=.pv p:=nr rfl
@[simp] theorem Po (o:AO):jl [] o=o:=nr rfl
@[simp] theorem LR (t:Nat) (W:List Nat) (o:AO):jl (t::W) o=xN (t::W) o:=nr rfl
@[simp] theorem OR (W:List Nat) (cs:List AV):xN W (.box cs)=.box (cs.map (eg W)):=nr rfl
@[simp] theorem Om (W:List Nat) (e:TypeId) (rows:List (List PV)):xN W (.arr e rows)=.arr e rows:=nr rfl
@[simp] theorem MT (W:List Nat) (l:List (Nat×AV)):gP W (look l)=look (l.map fun x=>(x.1,ff W x.2)):=by funext s;unfold gP;induction l with|nil=>show ff W .ay=.ay;unfold ff;split<;>rfl|cons x l ih=>
 obtain⟨k,v⟩:=x;simp only[List.map_cons,look];split;·rfl
 ·exact ih
def LB (T W:List Nat):List (Nat×AO)→List (Nat×AO)|[]=>[]|x::l=>if T.contains x.1=true then LB T W l else(x.1,jl W x.2)::LB T W l
@[simp] theorem ZF (T W:List Nat):LB T W []=[]:=nr rfl
@[simp] theorem FE (T W:List Nat) (s:Nat) (o:AO) (l:List (Nat×AO)):LB T W ((s,o)::l)=if T.contains s=true then LB T W l else(s,jl W o)::LB T W l:=nr rfl
@[simp] theorem Nq (T W:List Nat) (l:List (Nat×AO)):eX T W (ab l)=ab (LB T W l):=by funext s;unfold eX;induction l with|nil=>simp[LB,ab]|cons x l ih=>
 obtain⟨k,v⟩:=x;simp only[FE,ab];by_cases hs:T.contains s=true
 ·rw[if_pos hs]at ih ⊢;by_cases hk:T.contains k=true;·rw[if_pos hk];exact ih
  ·have:¬s=k:=fun e=>hk (e▸hs);rw[if_neg hk];simp only[ab,if_neg this];exact ih
 ·rw[if_neg hs]at ih ⊢;by_cases hsk:s=k;·subst hsk;rw[if_neg hs];simp[ab]
  ·rw[if_neg hsk];by_cases hk:T.contains k=true;·rw[if_pos hk];exact ih
   ·rw[if_neg hk];simp only[ab,if_neg hsk];exact ih
@[simp] theorem trC_agg (cs:List AV):Hk (.agg cs)=cs.any fun c=>match c with|.bx _|.mf _=>true|_=>false:=nr rfl
@[simp] theorem trC_pv (p:PV):Hk (.pv p)=false:=nr rfl
@[simp] theorem trC_fr (e:TypeId) (rows:List (List PV)):Hk (.fr e rows)=false:=nr rfl
@[simp] theorem trR_tup (vs:List AV):oc (.aQ vs)=vs.any Hk:=nr rfl
@[simp] theorem trR_agg (cs:List AV):oc (.agg cs)=Hk (.agg cs):=nr rfl
@[simp] theorem trR_pv (p:PV):oc (.pv p)=false:=nr rfl
@[simp] theorem trR_fr (e:TypeId) (rows:List (List PV)):oc (.fr e rows)=false:=nr rfl
@[simp] theorem U7 (r:AV):qE r=if oc r=true then fH 5 r else flat r:=nr rfl
@[simp] theorem newO_eq (d:Nat) (r:AV):jI d r=if oc r=true then(((num 5 false r ([],jL d)).map (·.2.1)).getD []) else aP d r:=nr rfl
@[simp] theorem aad (d:Nat) (r:AV):Aa d r=if oc r=true then(((num 5 false r ([],jL d)).map (·.1)).getD .ay) else cV (lW d) r:=nr rfl
@[simp] theorem Z3 (d:Nat) (r:AV):zh d r=if oc r=true then(num 5 false r ([],jL d)).isSome else cU r:=nr rfl
@[simp] theorem S8 (d:Nat):jL d=[d,d+1000,d+2000,d+3000,d+4000,d+5000,d+6000,d+7000]:=nr rfl
@[congr] theorem IN {P:Program}{rs:List (Nat×Option (Option Nat))}{L:List AV}{x:AV}{st st':St} (h:True→st=st'):pK P rs L x st=pK P rs L x st':=by rw[h trivial]
@[congr] theorem JN {P:Program}{rs:List (Nat×Option (Option Nat))}{L:List AV}{x:AV}{st st':St} (h:True→st=st'):qx P rs L x st=qx P rs L x st':=by rw[h trivial]
section
variable{P:Program}{aa:Nat→Option AO}
@[simp] theorem Zi (f:AV→AV→Prop):uE f [] []=True:=nr rfl
@[simp] theorem SD (f:AV→AV→Prop) (c y:AV) (cs ys:List AV):uE f (c::cs) (y::ys)=(f c y∧uE f cs ys):=nr rfl
@[simp] theorem mt_fr (n:Nat) (x:AV) (e:TypeId) (rows:List (List PV)):mt P aa (n+1) x (.fr e rows)=uT P aa x (.fr e rows):=nr rfl
@[simp] theorem mt_bx (n t:Nat) (cs:List AV):mt P aa (n+1) (.ptr t 0) (.bx cs)=aj (eQ (aa t)) fun l=>uE (mt P aa n) l cs:=by
 show(∃t' l,AV.ptr t 0=.ptr t' 0∧aa t'=some (.box l)∧uE (mt P aa n) l cs)=_;apply propext;constructor;·rintro⟨t',l,h,h',h''⟩;cases h;rw[h'];exact h''
 ·intro h;obtain⟨l,hl,h⟩:=ae h;exact⟨t,l,rfl,fv hl,h⟩
@[simp] theorem mt_agg (n:Nat) (l cs:List AV):mt P aa (n+1) (.agg l) (.agg cs)=uE (mt P aa n) l cs:=by show(∃l',AV.agg l=.agg l'∧uE (mt P aa n) l' cs)=_;apply propext;exact⟨fun⟨_,h,h'⟩=>by cases h;exact h',fun h=>⟨l,rfl,h⟩⟩
@[simp] theorem mt_tup (n:Nat) (l cs:List AV):mt P aa (n+1) (.aQ l) (.aQ cs)=uE (mt P aa n) l cs:=by show(∃l',AV.aQ l=.aQ l'∧uE (mt P aa n) l' cs)=_;apply propext;exact⟨fun⟨_,h,h'⟩=>by cases h;exact h',fun h=>⟨l,rfl,h⟩⟩
@[simp] theorem mt_pv (n:Nat) (x:AV) (p:PV):mt P aa (n+1) x (.pv p)=(x=.pv p):=nr rfl
@[simp] theorem tg_own (n t:Nat):tg aa (n+1) (.own t)=[t]:=nr rfl
@[simp] theorem tg_ptr (n t:Nat):tg aa (n+1) (.ptr t 0)=t::((eQ (aa t)).getD []).flatMap (tg aa n):=nr rfl
@[simp] theorem tg_agg (n:Nat) (cs:List AV):tg aa (n+1) (.agg cs)=cs.flatMap (tg aa n):=nr rfl
@[simp] theorem tg_tup (n:Nat) (cs:List AV):tg aa (n+1) (.aQ cs)=cs.flatMap (tg aa n):=nr rfl
@[simp] theorem tg_pv (n:Nat) (p:PV):tg aa (n+1) (.pv p)=[]:=nr rfl
end
def DY (ks:List Nat) (G:List AV→Option (Prop×AV)) (ys:List AV):Option (Prop×AV):=match ys with|[.ay]=>some (True,.rp (ks.map fun k:Nat=>PV.int .i64 (k:Int)))|ys=>G ys
def dR (P:Program) (f:FuncId) (G:List AV→Option (Prop×AV)):Prop:=∀ys φ r,G ys=some (φ,r)→φ→Bz P f ys r
@[simp] theorem Q5 (ks:List Nat) (G:List AV→Option (Prop×AV)):DY ks G [.ay]=some (True,.rp (ks.map fun k:Nat=>PV.int .i64 (k:Int))):=nr rfl
@[simp] theorem tabG_pv (ks:List Nat) (G:List AV→Option (Prop×AV)) (q:PV) (l:List AV):DY ks G (.pv q::l)=G (.pv q::l):=nr rfl
@[simp] theorem Xx (ks:List Nat) (G:List AV→Option (Prop×AV)) (q l:List AV):DY ks G (.aQ q::l)=G (.aQ q::l):=nr rfl
@[simp] theorem V0 (ks:List Nat) (G:List AV→Option (Prop×AV)) (q l:List AV):DY ks G (.agg q::l)=G (.agg q::l):=nr rfl
@[simp↓] theorem gt_eq (Γ:bW) (f:FuncId) (ys:List AV):gt Γ f ys=R3 (Γ f ys) (Γ (f+3000000) ys):=rfl
@[congr] theorem RY {a a' b:Option (Prop×AV)} (h:True→a=a'):R3 a b=R3 a' b:=by rw[h trivial]
@[simp↓] theorem Yw (x:Prop×AV) (y:Option (Prop×AV)):R3 (some x) y=some (x.1∧oc x.2=false,x.2):=rfl
@[simp↓] theorem Tq (y:Option (Prop×AV)):R3 none y=y.map fun x=>(x.1∧oc x.2=true,x.2):=rfl
section
variable{P:Program}{Γ:bW}{vs:List (Nat×AV)}{os:List (Nat×AO)}{K:St→Prop}{rs:List (Nat×Option (Option Nat))}{r:AV}{aa:Nat→Option AO}{C:List AV→Prop}
@[simp↓] theorem Xb:zm K .ret ⟨look vs,ab os⟩=K ⟨look vs,ab os⟩:=rfl
@[simp↓] theorem R1 {id:Nat}:zm K (.exit id) ⟨look vs,ab os⟩=False:=rfl
@[simp↓] theorem Zg {r:AV}:Ends P rs r ⟨look vs,ab os⟩=cL ⟨look vs,ab os⟩ rs fun xs=>vg P rs r (cB (mR (bU xs) r) ⟨look vs,ab os⟩):=rfl
@[congr] theorem Lv {st st':St}{r:AV} (h:True→st=st'):vg P rs r st=vg P rs r st':=by rw[h trivial]
@[simp↓] theorem TW {r:AV}{hout:List (Nat×AO)}:mV P rs r hout ⟨look vs,ab os⟩=cL ⟨look vs,ab os⟩ rs fun xs=>nI P rs r hout (cB (mR (bU xs) r) ⟨look vs,ab os⟩):=rfl
@[congr] theorem HR {st st':St}{r:AV}{hout:List (Nat×AO)} (h:True→st=st'):nI P rs r hout st=nI P rs r hout st':=by rw[h trivial]
@[simp↓] theorem Pr {r:AV}{hout:List (Nat×AO)}:nI P rs r hout ⟨look vs,ab os⟩=cL ⟨look vs,ab os⟩ rs fun xs=>fz P (ab os) (bU xs) r∧kq (pl (bU xs))∧ma (ab os) (pl (bU xs)) hout:=rfl
@[simp] theorem MR (l:List (Nat×Nat)):ma aa l []=True:=nr rfl
@[simp] theorem Ku (l:List (Nat×Nat)) (x:Nat×AO) (hout:List (Nat×AO)):ma aa l (x::hout)=(aa x.1=some x.2∧(∀y∈l,y.2≠x.1)∧ma aa l hout):=nr rfl
@[simp] theorem mkA_fr (e:TypeId) (rows:List (List PV)):He (.fr e rows)=.own 998:=nr rfl
@[simp] theorem mkA_tup (e:TypeId) (rows:List (List PV)):He (.aQ [.fr e rows])=.own 999:=nr rfl
@[simp] theorem mkA_pv (p:PV):He (.pv p)=.pv p:=nr rfl
@[simp] theorem mkA_clo (f:FuncId) (l:List AV):He (.bJ f l)=.bJ f l:=nr rfl
@[simp] theorem mkO_nil:mz []=[]:=nr rfl
@[simp] theorem mkO_fr (e:TypeId) (rows:List (List PV)) (l:List AV):mz (.fr e rows::l)=[(998,.arr e rows)]:=nr rfl
@[simp] theorem mkO_tup (e:TypeId) (rows:List (List PV)) (l:List AV):mz (.aQ [.fr e rows]::l)=[(999,.arr e rows)]:=nr rfl
@[simp] theorem mkO_pv (p:PV) (l:List AV):mz (.pv p::l)=mz l:=nr rfl
@[simp↓] theorem Yp {r:AV}:vg P rs r ⟨look vs,ab os⟩=cL ⟨look vs,ab os⟩ rs fun xs=>fz P (ab os) (bU xs) r∧kq (pl (bU xs)):=rfl
@[simp↓] theorem XZ {L:List AV}{x:AV}:qx P rs L x ⟨look vs,ab os⟩=cL ⟨look vs,ab os⟩ rs fun xs=>pK P rs L x (cB (mR (bU xs) (ka x)) ⟨look vs,ab os⟩):=rfl
@[simp↓] theorem P0 {L:List AV}{x:AV}:pK P rs L x ⟨look vs,ab os⟩=cL ⟨look vs,ab os⟩ rs fun xs=>mt P (ab os) 6 (bU xs) (ka x)∧uE (mt P (ab os) 5) L (ld x)∧(L.flatMap (tg (ab os) 5)++tg (ab os) 6 (bU xs)).Nodup:=rfl
@[simp] theorem Xi {f:FuncId}:je Γ f=(Γ (f+2000000) [.ay]).bind fun x=>Np x.2:=nr rfl
@[simp] theorem all_or {k:Nat}{o:AO}{R:Nat→AO→Prop}{p:Nat→AO→Prop}:(∀a b,a=k∧b=o∨R a b→p a b)=(p k o∧∀a b,R a b→p a b):=propext ⟨fun h=>⟨h k o (.inl ⟨rfl,rfl⟩),fun a b r=>h a b (.inr r)⟩,fun h a b r=>by
 rcases r with⟨rfl,rfl⟩|r;·exact h.1
 ·exact h.2 a b r⟩
@[simp] theorem XV {α:Type} (l:List α):eh [] l=[]:=nr rfl
@[simp] theorem YZ {α:Type} (y:AV) (ys:List AV) (v:α) (l:List α):eh (.aQ [y]::ys) (v::l)=v::eh ys l:=nr rfl
@[simp] theorem lent_pv {α:Type} (p:PV) (ys:List AV) (v:α) (l:List α):eh (.pv p::ys) (v::l)=eh ys l:=nr rfl
@[simp] theorem X9 {α:Type} (cs ys:List AV) (v:α) (l:List α):eh (.agg cs::ys) (v::l)=eh ys l:=nr rfl
@[simp] theorem Rh (t:Nat):tW (.own t)=true:=nr rfl
@[simp] theorem RJ (t:Nat):tW (.ptr t 0)=true:=nr rfl
@[simp] theorem XA (vs rs:List AV):mR (.aQ vs) (.aQ rs)=vB vs rs:=nr rfl
@[simp] theorem Uz (vs:List AV) (r:AV):mR (.agg vs) r=BY (.agg vs) r:=by cases r<;>rfl
@[simp] theorem Z5 (p:PV) (r:AV):mR (.pv p) r=oa (.pv p) r:=by cases r<;>rfl
@[simp] theorem Lr (t:Nat) (e:TypeId) (rows:List (List PV)):mR (.own t) (.fr e rows)=[]:=nr rfl
@[simp] theorem Qt:vB [] []=[]:=nr rfl
@[simp] theorem N7 (c r:AV) (cs rs:List AV):vB (c::cs) (r::rs)=BY c r++vB cs rs:=nr rfl
@[simp] theorem PO:vx [] []=[]:=nr rfl
@[simp] theorem Nr (c r:AV) (cs rs:List AV):vx (c::cs) (r::rs)=oa c r++vx cs rs:=nr rfl
@[simp] theorem V8 (cs rs:List AV):BY (.agg cs) (.agg rs)=vx cs rs:=nr rfl
@[simp] theorem Z4 (p:PV) (r:AV):BY (.pv p) r=oa (.pv p) r:=by cases r<;>rfl
@[simp] theorem V6 (t:Nat) (r:AV):BY (.own t) r=oa (.own t) r:=by cases r<;>rfl
@[simp] theorem Ln (t:Nat) (e:TypeId) (rows:List (List PV)):oa (.own t) (.fr e rows)=[]:=nr rfl
@[simp] theorem JZ (t:Nat) (rows:List (List PV)):oa (.own t) (.pv (.ro rows))=[t]:=nr rfl
@[simp] theorem KX (t:Nat) (es:List (PV×PV)):mR (.own t) (.pv (.mv es))=[t+1000000000000000]:=nr rfl
@[simp] theorem M7 (rows:List (List PV)):oa (.pv .nil) (.pv (.ro rows))=[999996]:=nr rfl
@[simp] theorem Pu (p:PV):oa (.pv p) (.pv p)=[]:=by cases p<;>rfl
@[simp] theorem Qp (p:PV) (k:IntKind) (n:Int):oa (.pv p) (.pv (.int k n))=[]:=by cases p<;>rfl
@[simp] theorem M9 (p:PV) (b:Bool):oa (.pv p) (.pv (.bool b))=[]:=by cases p<;>rfl
@[simp] theorem R2 (p:PV) (l:List UInt8):oa (.pv p) (.pv (.str l))=[]:=by cases p<;>rfl
@[simp] theorem YF (p:PV) (e:TypeId) (rows:List (List PV)):oa (.pv p) (.fr e rows)=[]:=by cases p<;>rfl
@[simp↓] theorem JO:cL ⟨look vs,ab os⟩ [] C=C []:=rfl
@[simp↓] theorem J5 {t:Nat}:cL ⟨look vs,ab os⟩ ((t,none)::rs) C=cL ⟨look vs,ab os⟩ rs fun xs=>C (look vs t::xs):=rfl
@[simp↓] theorem Jx {t:Nat}{n:Option Nat}:cL ⟨look vs,ab os⟩ ((t,some n)::rs) C=aj (ak (.load n) [look vs t] (ab os)) fun x=>x.1∧cL ⟨look vs,ab os⟩ rs fun xs=>C (x.2::xs):=rfl
@[simp] theorem La:bU []=.aQ []:=nr rfl
@[simp] theorem Ko (v:AV):bU [v]=v:=nr rfl
@[simp] theorem Ki (v u:AV) (l:List AV):bU (v::u::l)=.aQ (v::u::l):=nr rfl
@[simp] theorem Za (i:Nat):nf i []=[]:=nr rfl
@[simp] theorem Pe (i:Nat) (v:AV) (l:List AV):nf i (v::l)=(i,v)::nf (i+1) l:=nr rfl
@[simp] theorem fzC_own (t:Nat) (e:TypeId) (rows:List (List PV)):uT P aa (.own t) (.fr e rows)=(aa t=some (.arr e rows)):=by
 apply propext;constructor
 ·rintro(⟨s,h,h2⟩|⟨h,_⟩|⟨_,_,_,h,_⟩);·cases h;exact h2
  ·cases h
  ·cases h
 ·exact fun h=>.inl ⟨t,rfl,h⟩
@[simp] theorem fzC_sub (t:Nat) (e e1:TypeId) (hi:Nat) (rows:List (List PV)):uT P aa (.sub t e1 0 hi) (.fr e rows)=(e1=e∧∃rs,aa t=some (.arr e rs)∧rows=rs.take hi):=by
 apply propext;constructor
 ·rintro(⟨s,h,h2⟩|⟨h,_⟩|⟨s,hi',rs,h,h2,h3⟩);·cases h
  ·cases h
  ·cases h;exact⟨rfl,rs,h2,h3⟩
 ·rintro⟨rfl,rs,h2,h3⟩;exact .inr (.inr ⟨t,hi,rs,rfl,h2,h3⟩)
@[simp] theorem fz_sub (t:Nat) (e:TypeId) (lo hi:Nat) (r:AV):fz P aa (.sub t e lo hi) r=uT P aa (.sub t e lo hi) r:=nr rfl
@[simp] theorem WN (t:Nat) (e:TypeId) (lo hi:Nat) (r:AV):mR (.sub t e lo hi) r=[]:=by cases r<;>rfl
@[simp] theorem aaa (e:TypeId) (rows:List (List PV)):uT P aa (.pv .nil) (.fr e rows)=(rows=[]∧(P.info? e).isSome=true):=by
 apply propext;constructor
 ·rintro(⟨s,h,h2⟩|⟨_,h⟩|⟨_,_,_,h,_⟩);·cases h
  ·exact h
  ·cases h
 ·exact fun h=>.inr (.inl ⟨rfl,h⟩)
@[simp] theorem fzC_pv (p q:PV):uT P aa (.pv p) (.pv q)=(p=q):=by
 apply propext;constructor;·rintro⟨h,_⟩;cases h;rfl
 ·rintro rfl;exact⟨rfl,rfl⟩
@[simp] theorem Xr:yJ P aa [] []=True:=nr rfl
@[simp] theorem Rj (c d:AV) (cs ds:List AV):yJ P aa (c::cs) (d::ds)=(uT P aa c d∧yJ P aa cs ds):=nr rfl
@[simp] theorem Zc (cs ds:List AV):Dk P aa (.agg cs) (.agg ds)=yJ P aa cs ds:=nr rfl
@[simp] theorem fz1_pv (p:PV) (r:AV):Dk P aa (.pv p) r=uT P aa (.pv p) r:=nr rfl
@[simp] theorem fz1_own (t:Nat) (r:AV):Dk P aa (.own t) r=uT P aa (.own t) r:=nr rfl
@[simp] theorem Tu:yX P aa [] []=True:=nr rfl
@[simp] theorem Qs (c d:AV) (cs ds:List AV):yX P aa (c::cs) (d::ds)=(Dk P aa c d∧yX P aa cs ds):=nr rfl
@[simp] theorem fz_tup (cs ds:List AV):fz P aa (.aQ cs) (.aQ ds)=(cs.length≤1000∧yX P aa cs ds):=nr rfl
@[simp] theorem fz_agg (cs:List AV) (r:AV):fz P aa (.agg cs) r=Dk P aa (.agg cs) r:=nr rfl
@[simp] theorem fz_pv (p:PV) (r:AV):fz P aa (.pv p) r=uT P aa (.pv p) r:=nr rfl
@[simp] theorem fz_own (t:Nat) (r:AV):fz P aa (.own t) r=uT P aa (.own t) r:=nr rfl
@[simp] theorem U9 (j:Nat):rF j []=[]:=nr rfl
@[simp] theorem VF (j t:Nat) (cs:List AV):rF j (.own t::cs)=(1000*j,t)::rF (j+1) cs:=nr rfl
@[simp] theorem pl_sub (t:Nat) (e:TypeId) (lo hi:Nat):pl (.sub t e lo hi)=[(0,t)]:=nr rfl
@[simp] theorem plCs_pv (j:Nat) (p:PV) (cs:List AV):rF j (.pv p::cs)=rF (j+1) cs:=nr rfl
@[simp] theorem ZC (cs:List AV):M5 (.agg cs)=rF 0 cs:=nr rfl
@[simp] theorem pl1_own (t:Nat):M5 (.own t)=[(0,t)]:=nr rfl
@[simp] theorem pl1_pv (p:PV):M5 (.pv p)=[]:=nr rfl
@[simp] theorem T1 (i:Nat):Bp i []=[]:=nr rfl
@[simp] theorem Qv (i:Nat) (v:AV) (vs:List AV):Bp i (v::vs)=(M5 v).map (fun x=>(x.1+i,x.2))++Bp (i+1) vs:=nr rfl
@[simp] theorem pl_tup (vs:List AV):pl (.aQ vs)=Bp 0 vs:=nr rfl
@[simp] theorem pl_agg (cs:List AV):pl (.agg cs)=rF 0 cs:=nr rfl
@[simp] theorem pl_own (t:Nat):pl (.own t)=[(0,t)]:=nr rfl
@[simp] theorem pl_pv (p:PV):pl (.pv p)=[]:=nr rfl
@[simp] theorem OK:kq []=True:=nr rfl
@[simp] theorem K5 (x:Nat×Nat) (l:List (Nat×Nat)):kq (x::l)=((∀y∈l,y.2≠x.2)∧kq l):=nr rfl
end
section
variable{P:Program}{Γ:bW}{vs:List (Nat×AV)}{os:List (Nat×AO)}{st:St}{ad:List Nat}
theorem pn {K:St→Prop}{J:Exit→St→Prop}{a:AC}{α:Type} (I:α→Prop) (F:α→Fr) (μ:α→Nat) (ad shs:List Nat) (x0:α) (hI:I x0) (h0:wk P ad (cB shs st) (F x0)) (hr:∀x,I x→hZ P Γ a (fun st'=>∃x',I x'∧wk P [] (cB shs st') (F x')∧μ x'<μ x) J (F x).st):hZ P Γ (.loop a) K J st:=by
 refine⟨{x:α//I x},fun x=>F x.1,fun x=>μ x.1,ad,shs,⟨x0,hI⟩,h0,fun x=>?_⟩;have hK:(fun st'=>∃i':{x:α//I x},wk P [] (cB shs st') (F i'.1)∧μ i'.1<μ x.1)=fun st'=>∃x',I x'∧wk P [] (cB shs st') (F x')∧μ x'<μ x.1:=by
  funext st';apply propext;constructor;·rintro⟨⟨y,hy⟩,h⟩;exact⟨y,hy,h⟩
  ·rintro⟨y,hy,h⟩;exact⟨⟨y,hy⟩,h⟩
 show hZ P Γ a (fun st'=>∃i':{x:α//I x},wk P [] (cB shs st') (F i'.1)∧μ i'.1<μ x.1) J (F x.1).st;rw[hK];exact hr x.1 x.2
theorem aq {K:St→Prop}{J:Exit→St→Prop}{a:AC}{α:Type} (I:α→Prop) (F:α→Fr) (μ:α→Nat) (ad:List Nat) (x0:α) (hI:I x0) (h0:wk P ad st (F x0)) (hr:∀x,I x→hZ P Γ a (fun st'=>∃x',I x'∧wk P [] st' (F x')∧μ x'<μ x) J (F x).st):hZ P Γ (.loop a) K J st:=pn I F μ ad [] x0 hI h0 hr
@[simp] theorem Oo (st:St):cB [] st=st:=nr rfl
@[simp] theorem Lx (t:Nat) (l:List Nat) (st:St):cB (t::l) st=cB l (xI t st):=nr rfl
@[simp] theorem Sc (t:Nat) (st:St):xI t st=if t=999996 then um st else if 1000000000000000≤t then Ax (t-1000000000000000) st else share1 st (.own t):=nr rfl
def zB:List (Nat×AO)→List (Nat×AO)|[]=>[]|x::l=>(x.1,uC x.2)::zB l
@[simp] theorem O7:zB []=[]:=nr rfl
@[simp] theorem Bf (t:Nat) (o:AO) (l:List (Nat×AO)):zB ((t,o)::l)=(t,uC o)::zB l:=nr rfl
@[simp] theorem Vq (vs:List (Nat×AV)) (os:List (Nat×AO)):um ⟨look vs,ab os⟩=⟨look (vs.map fun x=>(x.1,tH x.2)),ab (zB os)⟩:=by
 unfold um;congr 1;·funext s;induction vs with|nil=>rfl|cons x l ih=>obtain⟨k,v⟩:=x;simp only[List.map_cons,look];split<;>simp_all
 ·funext s;induction os with|nil=>rfl|cons x l ih=>obtain⟨k,v⟩:=x;simp only[Bf,ab];split<;>simp_all
@[simp] theorem Xt (cs:List AV):tH (.agg cs)=.agg (kP cs):=nr rfl
@[simp] theorem ZG (p:PV):tH (.pv p)=.pv (yH p):=nr rfl
@[simp] theorem UW (t:Nat):tH (.own t)=.own t:=nr rfl
@[simp] theorem VA (t o:Nat):tH (.ptr t o)=.ptr t o:=nr rfl
@[simp] theorem Pv:tH .ay=.ay:=nr rfl
@[simp] theorem RC:kP []=[]:=nr rfl
@[simp] theorem Oq (c:AV) (cs:List AV):kP (c::cs)=rf c::kP cs:=nr rfl
@[simp] theorem Ze (p:PV):rf (.pv p)=.pv (yH p):=nr rfl
@[simp] theorem UE (t:Nat):rf (.own t)=.own t:=nr rfl
@[simp] theorem Ym:yH .nil=.ro []:=nr rfl
@[simp] theorem nilP_ro (l:List (List PV)):yH (.ro l)=.ro l:=nr rfl
@[simp] theorem XG (k:IntKind) (n:Int):yH (.int k n)=.int k n:=nr rfl
@[simp] theorem Sa (b:Bool):yH (.bool b)=.bool b:=nr rfl
@[simp] theorem V2 (l:List UInt8):yH (.str l)=.str l:=nr rfl
@[simp] theorem WA (cs:List AV):uC (.box cs)=.box (kP cs):=nr rfl
@[simp] theorem Sz (e:TypeId) (rows:List (List PV)):uC (.arr e rows)=.arr e rows:=nr rfl
@[simp] theorem wk_eq (vs':List (Nat×AV)) (os':List (Nat×AO)):wk P ad ⟨look vs,ab os⟩ ⟨vs',os'⟩=(OL ad ⟨look vs,ab os⟩ os' vs'∧OU P ad ⟨look vs,ab os⟩ os' os'):=nr rfl
@[simp] theorem wkV_nil (os':List (Nat×AO)):OL ad ⟨look vs,ab os⟩ os' []=True:=nr rfl
@[simp] theorem X6 (os':List (Nat×AO)) (s:Nat) (v:AV) (l:List (Nat×AV)):OL ad ⟨look vs,ab os⟩ os' ((s,v)::l)=((v=.ay∨(look vs s=v∧lP os' v)∨(∃t,v=.own t∧ad.contains t=true∧aE (ab os') t∧look vs s=.pv .nil))∧OL ad ⟨look vs,ab os⟩ os' l):=nr rfl
@[simp] theorem wkO_nil (os':List (Nat×AO)):OU P ad ⟨look vs,ab os⟩ os' []=True:=nr rfl
@[simp] theorem Tp (os':List (Nat×AO)) (t:Nat) (o:AO) (l:List (Nat×AO)):OU P ad ⟨look vs,ab os⟩ os' ((t,o)::l)=(((ab os t=some o∧ad.contains t=false∧vR os' o)∨(∃e,o=.arr e []∧ad.contains t=true∧ab os t=none∧(P.info? e).isSome=true∧t%1000≠999))∧OU P ad ⟨look vs,ab os⟩ os' l):=nr rfl
@[simp] theorem QY (f:FuncId) (cs:List AV):lP os (.bJ f cs)=gG os cs:=nr rfl
@[simp] theorem VB (p:PV):lP os (.pv p)=True:=nr rfl
@[simp] theorem Qn (t:Nat):lP os (.own t)=aE (ab os) t:=nr rfl
@[simp] theorem RE (t o:Nat):lP os (.ptr t o)=aE (ab os) t:=nr rfl
@[simp] theorem Rr (t:Nat) (e:TypeId) (lo hi:Nat):lP os (.sub t e lo hi)=aE (ab os) t:=nr rfl
@[simp] theorem Ti (p:PV):jP os (.pv p)=True:=nr rfl
@[simp] theorem WY (p:List PV):jP os (.rp p)=True:=nr rfl
@[simp] theorem RP (t:Nat):jP os (.own t)=aE (ab os) t:=nr rfl
@[simp] theorem Nu:gG os []=True:=nr rfl
@[simp] theorem KE (c:AV) (cs:List AV):gG os (c::cs)=(jP os c∧gG os cs):=nr rfl
@[simp] theorem RX (cs:List AV):vR os (.box cs)=gG os cs:=nr rfl
@[simp] theorem RI (e:TypeId) (rows:List (List PV)):vR os (.arr e rows)=True:=nr rfl
@[simp] theorem QF (es:List (PV×AV)):vR os (.map es)=True:=nr rfl
@[simp] theorem dom_nil (t:Nat):aE (ab []) t=False:=by
 apply propext;constructor;·rintro⟨o,h⟩;cases h
 ·exact False.elim
@[simp] theorem Vb (s t:Nat) (o:AO) (l:List (Nat×AO)):aE (ab ((s,o)::l)) t=(t=s∨aE (ab l) t):=by apply propext;unfold aE;simp only[BR];by_cases h:t=s<;>simp[h]
end
@[simp↓] theorem Nj {P:Program}{Γ:bW}{d:Nat}{f:FuncId}{xs:List AV}{aa:Nat→Option AO}{C:bI→Prop}:cD P Γ (some d) f xs aa C=(au xs∧aj (fA aa (xs.map strip)) fun ys=>aj (gt Γ f ys) fun x=>x.1∧(eG (xs.map strip)=true∨qE x.2)∧(∀y∈jI d x.2,aa y.1=none)∧zh d x.2=true∧C (.new (Aa d x.2) (jI d x.2))):=rfl
def aO (P:Program) (f:FuncId) (G:List AV→Option (Prop×AV)):Prop:=∀ys φ r,G ys=some (φ,r)→φ→za P f [] ys [] r
def tab:List (FuncId×(List AV→Option (Prop×AV)))→bW|[]=>fun _ _=>none|x::l=>fun g ys=>if g=x.1 then x.2 ys else tab l g ys
theorem ah {P:Program}:dJ P (tab []):=fun _ _ _ _ h=>by cases h
def zK (p k:Nat) (G:List AV→Option (Prop×AV)) (ys:List AV):Option (Prop×AV):=match ys with|[.ay]=>some (True,.ptr p k)|ys=>G ys
def rW (P:Program) (f:FuncId) (G:List AV→Option (Prop×AV)):Prop:=∀ys φ r,G ys=some (φ,r)→φ→DE P f ys r
theorem il {P:Program}{f p k:Nat}{G:List AV→Option (Prop×AV)}{l:List (FuncId×(List AV→Option (Prop×AV)))} (h:rW P f G) (hP:Nat.ble P.funcs.size 1000000=true) (hl:dJ P (tab l)) (hf:Nat.blt f 1000000=true:=by rfl):dJ P (tab ((f+1000000,zK p k G)::l)):=by
 intro g ys φ r hg hφ;simp only[tab]at hg;split at hg
 ·rename_i e;refine .inr (.inl ⟨Nat.le_of_ble_eq_true hP,by rw[e];exact Nat.le_add_left _ _,by rw[e];exact Nat.add_lt_add_right (Nat.le_of_ble_eq_true hf) 1000000,?_⟩);unfold zK at hg;split at hg;·exact .inl rfl
  ·right;rw[show g-1000000=f from by rw[e];exact Nat.add_sub_cancel _ _];exact h ys φ r hg hφ
 ·exact hl g ys φ r hg hφ
theorem ag {P:Program}{f:FuncId}{G:List AV→Option (Prop×AV)}{l:List (FuncId×(List AV→Option (Prop×AV)))} (h:aO P f G) (hl:dJ P (tab l)) (hf:Nat.blt f 1000000=true:=by rfl):dJ P (tab ((f,G)::l)):=by
 intro g ys φ r hg hφ;simp only[tab]at hg;split at hg;·rename_i e;subst e;exact .inl ⟨Nat.le_of_ble_eq_true hf,h ys φ r hg hφ⟩
 ·exact hl g ys φ r hg hφ
theorem bk {P:Program}{f:FuncId}{ks:List Nat}{G:List AV→Option (Prop×AV)}{l:List (FuncId×(List AV→Option (Prop×AV)))} (h:dR P f G) (hP:Nat.ble P.funcs.size 1000000=true) (hl:dJ P (tab l)) (hf:Nat.blt f 1000000=true:=by rfl):dJ P (tab ((f+1000000,zK 0 996 fun _=>none)::(f+2000000,DY ks G)::l)):=by
 intro g ys φ r hg hφ;simp only[tab]at hg;split at hg
 ·rename_i e;refine .inr (.inl ⟨Nat.le_of_ble_eq_true hP,by rw[e];exact Nat.le_add_left _ _,by rw[e];exact Nat.add_lt_add_right (Nat.le_of_ble_eq_true hf) 1000000,?_⟩);unfold zK at hg;split at hg;·exact .inl rfl
  ·cases hg
 ·split at hg
  ·rename_i e;refine .inr (.inr (.inl ⟨Nat.le_of_ble_eq_true hP,by rw[e];exact Nat.le_add_left _ _,by rw[e];exact Nat.add_lt_add_right (Nat.le_of_ble_eq_true hf) 2000000,?_⟩));unfold DY at hg;split at hg;·exact .inl rfl
   ·right;rw[show g-2000000=f from by rw[e];exact Nat.add_sub_cancel _ _];exact h ys φ r hg hφ
  ·exact hl g ys φ r hg hφ
@[simp] theorem SE (f:FuncId) (ys:List AV):tab [] f ys=none:=nr rfl
@[simp] theorem Rg (p k:Nat) (G:List AV→Option (Prop×AV)):zK p k G [.ay]=some (True,.ptr p k):=nr rfl
@[simp] theorem tabU_fr (p k:Nat) (G:List AV→Option (Prop×AV)) (e:TypeId) (rows:List (List PV)) (l:List AV):zK p k G (.fr e rows::l)=G (.fr e rows::l):=nr rfl
@[simp] theorem Zq (p k:Nat) (G:List AV→Option (Prop×AV)) (q:PV) (l:List AV):zK p k G (.pv q::l)=G (.pv q::l):=nr rfl
@[simp] theorem Xw (p k:Nat) (G:List AV→Option (Prop×AV)) (q l:List AV):zK p k G (.aQ q::l)=G (.aQ q::l):=nr rfl
@[simp] theorem YX (f g:FuncId) (G:List AV→Option (Prop×AV)) (l:List (FuncId×(List AV→Option (Prop×AV)))) (ys:List AV):tab ((f,G)::l) g ys=if g=f then G ys else tab l g ys:=nr rfl
end Go.Proofs.YtlmkcmfmfahcfaaGreat.Ab.R
namespace Go.Proofs.YtlmkcmfmfahcfaaGreat.Ab
open Go Go.RowKit
abbrev AI.a (d:Nat) (k:AK) (xs:List Operand):AI:=⟨some d,k,xs,none,[],none⟩
abbrev AI.s (k:AK) (xs:List Operand):AI:=⟨none,k,xs,none,[],none⟩
abbrev AI.m (d t:Nat):AI:=⟨some d,.nK,[.tmp t],none,[],none⟩
abbrev AI.b (d:Nat) (k:AK) (xs:List Operand) (g:Nat) (b:Bool):AI:=⟨some d,k,xs,some (g,b),[],none⟩
abbrev AI.pa (d x y:Nat):AI:=⟨some d,.pick,[.tmp x,.tmp y,.const (.bool false)],none,[],none⟩
abbrev AI.u (d:Nat) (k:AK) (t:Nat):AI:=⟨some d,k,[.tmp t],none,[],none⟩
abbrev AI.w (d:Nat) (k:AK) (t u:Nat):AI:=⟨some d,k,[.tmp t,.tmp u],none,[],none⟩
abbrev AI.c (d:Nat) (k:AK) (t:Nat) (n:Int):AI:=⟨some d,k,[.tmp t,.const (.int .i64 n)],none,[],none⟩
end Go.Proofs.YtlmkcmfmfahcfaaGreat.Ab
namespace Go.Proofs.YtlmkcmfmfahcfaaGreat.Ab.R
open Go Go.RowKit
theorem wrap_i64 {x:Int} (h:-9223372036854775808≤x∧x≤9223372036854775807):IntKind.i64.wrap x=x:=by simp only[IntKind.wrap,IntKind.bits,IntKind.signed];simp;omega
theorem wrap_u64 {x:Int} (h:0≤x∧x≤18446744073709551615):IntKind.u64.wrap x=x:=by simp only[IntKind.wrap,IntKind.bits,IntKind.signed];simp;omega
theorem wrap_u8 (x:Int):IntKind.u8.wrap x=x%256:=by simp only[IntKind.wrap,IntKind.bits,IntKind.signed];simp
@[simp] theorem PB:cO none=none:=rfl
@[simp] theorem Wd (cs:List AV):cO (some (.box cs))=none:=rfl
@[simp] theorem SG (k:IntKind) (n:Int):(Value.int k n).oneCell'=true:=rfl
@[simp] theorem QB (b:Bool):(Value.bool b).oneCell'=true:=rfl
@[simp] theorem XO (s:ByteArray):(Value.string s).oneCell'=true:=rfl
@[simp] theorem YJ (a:Option Addr):(Value.pointer a).oneCell'=true:=rfl
@[simp] theorem Mm (a:Option Addr) (n c:Nat):(Value.slice a n c).oneCell'=true:=rfl
@[simp] theorem Jq:bytesRow []=[]:=rfl
@[simp] theorem EL (l:List UInt8):(bytesRow l).length=l.length:=by simp[bytesRow]
theorem bo (l m:List UInt8):bytesRow (l++m)=bytesRow l++bytesRow m:=by simp[bytesRow]
@[simp] theorem bg (l:List UInt8):∀r∈bytesRow l,r.length=1:=by intro r hr;simp only[bytesRow,List.mem_map]at hr;obtain⟨c,_,rfl⟩:=hr;rfl
theorem uP (c:UInt8) (l:List UInt8):bytesRow (c::l)=[.int .u8 (c.toNat:Int)]::bytesRow l:=rfl
theorem bytesRow_at {l:List UInt8}{i:Nat} (h:i<l.length):rowAt (bytesRow l) (i:Int)=[.int .u8 (l[i].toNat:Int)]:=by simp[rowAt,bytesRow,h]
@[simp] theorem Eh (l:List UInt8):bytesOf (bytesRow l)=some l:=by induction l with|nil=>rfl|cons c l ih=>
 have hc:byteOf [.int .u8 (c.toNat:Int)]=some c:=by have:=c.toNat_lt;unfold byteOf;simp;omega
 rw[uP];simp only[bytesOf,hc,ih,Option.map_some,Option.bind_some]
theorem aB:maxLen=9223372036854775807:=rfl
end Go.Proofs.YtlmkcmfmfahcfaaGreat.Ab.R
namespace Go.Proofs.YtlmkcmfmfahcfaaGreat.Ab.R
open Go Go.RowKit
open Classical in noncomputable def dec {α:Type} (f:α→List PV) (rows:List (List PV)):Option (List α):=if h:∃l:List α,l.map f=rows then some h.choose else none
theorem map_inj {α β:Type}{f:α→β} (hf:∀a b,f a=f b→a=b):∀{l m:List α},l.map f=m.map f→l=m|[],[],_=>rfl|[],_::_,h=>by simp at h|_::_,[],h=>by simp at h|a::l,b::m,h=>by simp only[List.map_cons,List.cons.injEq]at h;rw[hf _ _ h.1,map_inj hf h.2]
theorem kg {α:Type}{f:α→List PV} (hf:∀a b,f a=f b→a=b) (l:List α):dec f (l.map f)=some l:=by unfold dec;have h:∃m:List α,m.map f=l.map f:=⟨l,rfl⟩;rw[dif_pos h];exact congrArg some (map_inj hf h.choose_spec)
theorem ke {α:Type}{f:α→List PV}{rows:List (List PV)}{l:List α} (h:dec f rows=some l):rows=l.map f:=by
 unfold dec at h;split at h;·rename_i h';simp only[Option.some.injEq]at h;rw[←h];exact h'.choose_spec.symm
 ·cases h
def eU (c:UInt8):List PV:=[.int .u8 (c.toNat:Int)]
theorem Em:∀a b,eU a=eU b→a=b:=by intro a b h;simp only[eU,List.cons.injEq,PV.int.injEq,true_and,and_true]at h;exact UInt8.toNat_inj.1 (by omega)
@[simp] theorem EK (l:List UInt8):dec eU (bytesRow l)=some l:=kg Em l
@[simp] theorem dec_nil {α:Type} (f:α→List PV):dec f []=some []:=by unfold dec;have h:∃m:List α,m.map f=[]:=⟨[],rfl⟩;rw[dif_pos h];have:=h.choose_spec;simpa using this
theorem aU {rows:List (List PV)}{l:List UInt8} (h:dec eU rows=some l):rows=bytesRow l:=ke h
end Go.Proofs.YtlmkcmfmfahcfaaGreat.Ab.R
namespace Go.Proofs.YtlmkcmfmfahcfaaGreat.Ab
open Go Go.RowKit R
def bS (n:Nat):List UInt8:=if h:n<128 then[n.toUInt8] else(n%128+128).toUInt8::bS (n/128) termination_by n decreasing_by omega
def cj (n:Int):List UInt8:=bS n.toNat
theorem db {n:Nat} (h:n<128):bS n=[n.toUInt8]:=by rw[bS,dif_pos h]
theorem gy {n:Nat} (h:¬n<128):bS n=(n%128+128).toUInt8::bS (n/128):=by rw[bS,dif_neg h]
theorem Nt (m:Nat):lA .or .u8 ((m:Int)%256) 128=.int .u8 (((m%128+128).toUInt8.toNat:Nat):Int):=by
 have key:∀x:Fin 256,IntKind.u8.wrap ((BitVec.ofInt IntKind.u8.bits (x.val:Int)|||BitVec.ofInt IntKind.u8.bits 128).toNat:Nat)=(((x.val%128+128).toUInt8.toNat:Nat):Int):=by decide+kernel
 have h:=key ⟨m%256,by omega⟩;have e1:(m:Int)%256=((m%256:Nat):Int):=by omega
 have e2:m%256%128=m%128:=by omega
 rw[e1];simp only[e2]at h;unfold lA;exact congrArg _ h
@[simp] def Ih:List AV→Option (Prop×AV)|[.pv (.int .u64 n)]=>some (0≤n∧n≤18446744073709551615,.fr 5 (bytesRow (cj n)))|_=>none
theorem CQ:aO Tryz.prog 94 Ih:=by
 intro ys φ r h hφ;unfold Ih at h;split at h
 ·rename_i N;cases h;obtain⟨n,rfl⟩:=Int.eq_ofNat_of_zero_le hφ.1;have hn:n≤18446744073709551615:=by omega
  refine aw ah (by kernel_rfl) (by conv=>lhs;reduce) (by simp) ?_;simp(config := { maxSteps := 3000000 });refine aq (fun x:Nat×List UInt8=>x.2++bS x.1=bS n∧x.1≤18446744073709551615∧(x.2.length≤10∧x.1*128^x.2.length≤n)) (fun x=>⟨[(0,.pv (.int .u64 x.1)),(3,.own 3)],[(3,.arr 5 (bytesRow x.2))]⟩) (fun x=>x.1) [] (n,[]) ?_ ?_ ?_;·simp[hn]
  ·simp
  ·rintro⟨m,acc⟩ ⟨h1,h2,h3,h4⟩;dsimp only at h1 h2 h3 h4;simp(config := { maxSteps := 3000000 }) [wrap_u8,-Int.emod_emod_of_dvd,aB];rw[Nt];refine⟨fun hm=>⟨by omega,m/128,acc++[(m%128+128).toUInt8],⟨?_,by omega,?_,?_⟩,⟨?_,?_⟩,by omega⟩,fun hm=>⟨by omega,?_⟩⟩;·rw[←h1,gy (n:=m) (by omega)];simp
   ·simp only[List.length_append,List.length_singleton];have:¬9≤acc.length:=by intro h9;have h128:128^9≤128^acc.length:=Nat.pow_le_pow_right (by decide) h9;have:128*128^acc.length≤m*128^acc.length:=Nat.mul_le_mul_right _ (by omega);omega
    omega
   ·simp only[List.length_append,List.length_singleton,Nat.pow_succ];refine Nat.le_trans ?_ h4;have:m/128*128≤m:=by omega
    calc m/128*(128^acc.length*128)=(m/128*128)*128^acc.length:=by rw[Nat.mul_comm (128^acc.length) 128,Nat.mul_assoc]
     _≤m*128^acc.length:=Nat.mul_le_mul_right _ this
   ·simp[IntKind.bits,Int.fdiv_eq_ediv_of_nonneg]
   ·rw[bo];rfl
   ·rw[cj,Int.toNat_natCast,←h1,db (n:=m) (by omega),bo];simp[bytesRow]
 ·cases h
theorem tR (n:Nat):1≤(bS n).length:=by rw[bS];split<;>simp
theorem sx:∀(k n:Nat),n<128^(k+1)→(bS n).length≤k+1
 |0,n,h=>by rw[db (by simpa using h)];simp|k+1,n,h=>by
  by_cases h1:n<128;·rw[db h1];simp
  ·rw[gy h1];have:n/128<128^(k+1):=by rw[Nat.div_lt_iff_lt_mul (by decide)];rw[Nat.pow_succ]at h;exact h
   have:=sx k (n/128) this;simp;omega
theorem fq {n:Nat} (h:n≤18446744073709551615):(bS n).length≤10:=sx 9 n (by omega)
@[simp] def CG:List AV→Option (Prop×AV)|[.pv (.int .u64 n)]=>some (0≤n∧n≤18446744073709551615,.pv (.int .i64 (cj n).length))|_=>none
theorem Fx:aO Tryz.prog 125 CG:=by
 intro ys φ r h hφ;unfold CG at h;split at h
 ·rename_i N;cases h;obtain⟨n,rfl⟩:=Int.eq_ofNat_of_zero_le hφ.1;have hn:n≤18446744073709551615:=by omega
  have hl:=fq hn;refine aw ah (by kernel_rfl) (by conv=>lhs;reduce) (by simp) ?_;simp(config := { maxSteps := 3000000 });refine aq (fun x:Nat×Nat=>x.2+(bS x.1).length=(bS n).length+1∧x.1≤18446744073709551615) (fun x=>⟨[(0,.pv (.int .u64 x.1)),(3,.pv (.int .i64 x.2))],[]⟩) (fun x=>x.1) [] (n,1) ?_ ?_ ?_;·simp[hn];omega
  ·simp
  ·rintro⟨m,k⟩ ⟨h1,h2⟩;dsimp only at h1 h2;have hl2:=tR m;simp(config := { maxSteps := 3000000 }) (disch:=omega) [wrap_i64,wrap_u64];refine⟨fun hm=>⟨m/128,k+1,⟨?_,by omega⟩,⟨by omega,by omega⟩,by omega⟩,fun hm=>?_⟩;·rw[gy (n:=m) (by omega)]at h1;simp at h1;omega
   ·rw[db (n:=m) (by omega)]at h1;simp at h1;rw[cj,Int.toNat_natCast];omega
 ·cases h
theorem Io (m:Nat) (h:m<128):(m.toUInt8.toNat:Int)=m:=by
 have:m.toUInt8.toNat=m:=by simp[Nat.toUInt8];omega
 omega
theorem Gq (m:Nat) (h:m<256):(m.toUInt8.toNat:Int)=m:=by
 have:m.toUInt8.toNat=m:=by simp[Nat.toUInt8];omega
 omega
theorem tX:aO Tryz.prog 97 Ih:=by
 intro ys φ r h hφ;unfold Ih at h;split at h
 ·rename_i N;cases h;obtain⟨n,rfl⟩:=Int.eq_ofNat_of_zero_le hφ.1;have hn:n≤18446744073709551615:=by omega
  have hl:=fq hn;have hl1:=tR n;refine aw (ag Fx ah) (by kernel_rfl) (by conv=>lhs;reduce) (by simp) ?_;simp(config := { maxSteps := 3000000 }) [cj];refine⟨by omega,?_⟩;refine aq (fun x:Nat×List UInt8=>x.2++(if x.2.length<(bS n).length then bS x.1 else[])=bS n∧x.1≤18446744073709551615∧x.2.length≤(bS n).length) (fun x=>⟨[(0,.pv (.int .u64 x.1)),(3,.own 3),(4,.pv (.int .i64 (bS n).length)),(5,.pv (.int .i64 x.2.length))],[(3,.arr 5 (bytesRow x.2))]⟩) (fun x=>(bS n).length-x.2.length) [] (n,[]) ?_ ?_ ?_;·refine⟨?_,hn,by simp⟩;rw[if_pos (by simp only[List.length_nil];omega),List.nil_append]
  ·simp
  ·rintro⟨m,acc⟩ ⟨h1,h2,h3⟩;dsimp only at h1 h2 h3;have w1:IntKind.i64.wrap ((acc.length:Int)+1)=(acc.length:Int)+1:=wrap_i64 (by omega);have w2:IntKind.u8.wrap ((m:Int)%128)=(m:Int)%128:=by rw[wrap_u8];omega
   have w3:IntKind.u8.wrap ((m:Int)%128+128)=(m:Int)%128+128:=by rw[wrap_u8];omega
   have w4:IntKind.u64.wrap ((m:Int)/128)=(m:Int)/128:=wrap_u64 (by omega);have w5:(m:Int).tmod 128=(m:Int)%128:=Int.tmod_eq_emod_of_nonneg (by omega);by_cases hlt:acc.length<(bS n).length
   ·rw[if_pos hlt]at h1;have hlen:acc.length+(bS m).length=(bS n).length:=by rw[←h1];simp
    by_cases hm:m<128
    ·have hv:=db hm;rw[hv]at h1 hlen;simp at hlen;simp(config := { maxSteps := 3000000 }) [w1,w2,w3,w4,w5,hlt,aB];refine⟨fun h=>by omega,fun h=>⟨by omega,m/128,acc++[m.toUInt8],⟨?_,by omega,by simp;omega⟩,⟨⟨by omega,by simp⟩,?_⟩,by simp;omega⟩⟩;·rw[if_neg (by simp;omega),List.append_nil];exact h1
     ·rw[bo];simp only[bytesRow,List.map_cons,List.map_nil];rw[Io m hm];have:(m:Int)%128=m:=by omega
      rw[this]
    ·have hv:=gy hm;have hl2:=tR (m/128);rw[hv]at h1 hlen;simp at hlen;simp(config := { maxSteps := 3000000 }) [w1,w2,w3,w4,w5,hlt,aB];refine⟨fun h=>⟨by omega,m/128,acc++[(m%128+128).toUInt8],⟨?_,by omega,by simp;omega⟩,⟨⟨by omega,by simp⟩,?_⟩,by simp;omega⟩,fun h=>by omega⟩;·rw[if_pos (by simp;omega)];simpa using h1
     ·rw[bo];simp only[bytesRow,List.map_cons,List.map_nil];rw[Gq (m%128+128) (by omega)];simp
   ·rw[if_neg hlt,List.append_nil]at h1;simp(config := { maxSteps := 3000000 }) [hlt];rw[h1]
 ·cases h
def dy (s:List UInt8):List UInt8:=bS s.length++s
@[simp] def Cr:List AV→Option (Prop×AV)|[.pv (.str s)]=>some (s.length≤1000000,.fr 5 (bytesRow (dy s)))|_=>none
theorem Gj:aO Tryz.prog 42 Cr:=by
 intro ys φ r h hφ;unfold Cr at h;split at h;·rename_i s;cases h;refine aw (ag CQ ah) (by kernel_rfl) (by conv=>lhs;reduce) (by simp) ?_;have hl:=fq (n:=s.length) (by omega);have w1:IntKind.u64.wrap (s.length:Int)=(s.length:Int):=wrap_u64 (by omega);simp(config := { maxSteps := 3000000 }) [w1,cj,aB,dy,bo];exact⟨by omega,by omega,by omega,bg s⟩
 ·cases h
theorem C4:aO Tryz.prog 48 Cr:=by
 intro ys φ r h hφ;unfold Cr at h;split at h
 ·rename_i s;cases h;refine aw (ag tX ah) (by kernel_rfl) (by conv=>lhs;reduce) (by simp) ?_;have hl:=fq (n:=s.length) (by omega);have w1:IntKind.u64.wrap (s.length:Int)=(s.length:Int):=wrap_u64 (by omega);simp(config := { maxSteps := 3000000 }) [w1,cj];refine⟨by omega,?_⟩;refine aq (fun i:Nat=>i≤s.length) (fun i=>⟨[(0,.pv (.str s)),(3,.own 8),(4,.pv (.int .i64 i))],[(8,.arr 5 (bytesRow (bS s.length++s.take i)))]⟩) (fun i=>s.length-i) [] 0 (by omega) ?_ ?_;·simp
  ·intro i hi;have w2:IntKind.i64.wrap ((i:Int)+1)=(i:Int)+1:=wrap_i64 (by omega);by_cases hlt:i<s.length;·simp(config := { maxSteps := 3000000 }) [w2,hlt,aB];refine⟨by omega,i+1,by omega,⟨by omega,?_⟩,by omega⟩;rw[List.take_succ_eq_append_getElem hlt,←List.append_assoc,bo _ [s[i]]];rfl
   ·simp(config := { maxSteps := 3000000 }) [hlt];rw[List.take_of_length_le (by omega)];rfl
 ·cases h
@[simp] noncomputable def Gt:List AV→Option (Prop×AV)|[.pv (.ro a),.pv (.ro b)]=>(dec eU a).bind fun la=>(dec eU b).map fun lb=>(la.length≤1000000000,.pv (.bool (decide (la=lb))))|_=>none
theorem Hp:aO Tryz.prog 19 Gt:=by
 intro ys φ r h hφ;unfold Gt at h;split at h
 ·rename_i ra rb;obtain⟨a,ha,h⟩:=Option.bind_eq_some_iff.1 h;obtain⟨b,hb,h⟩:=Option.map_eq_some_iff.1 h;cases h;cases aU ha;cases aU hb;refine aw ah (by kernel_rfl) (by conv=>lhs;reduce) (by simp) ?_;simp(config := { maxSteps := 3000000 });refine⟨fun hne=>?_,fun hlen=>?_⟩;·intro e;exact hne (by rw[e])
  refine aq (fun i:Nat=>i≤a.length∧a.take i=b.take i) (fun i=>⟨[(0,.pv (.ro (bytesRow a))),(1,.pv (.ro (bytesRow b))),(5,.pv (.int .i64 i))],[]⟩) (fun i=>a.length-i) [] 0 (by simp) ?_ ?_;·simp
  ·rintro i ⟨hi,ht⟩;have w2:IntKind.i64.wrap ((i:Int)+1)=(i:Int)+1:=wrap_i64 (by omega);by_cases hlt:i<a.length
   ·have r1:=R.bytesRow_at hlt;have hlb:i<b.length:=by omega
    have r2:=R.bytesRow_at hlb;simp(config := { maxSteps := 3000000 }) [w2,hlt,hlb,r1,r2];refine⟨fun hne e=>hne (by subst e;rfl),fun heq=>⟨i+1,⟨by omega,?_⟩,by omega,by omega⟩⟩;rw[List.take_succ_eq_append_getElem hlt,List.take_succ_eq_append_getElem hlb,ht];congr 2;exact UInt8.toNat_inj.1 (by omega)
   ·simp(config := { maxSteps := 3000000 }) [hlt];rw[List.take_of_length_le (by omega),List.take_of_length_le (by omega)]at ht;exact ht
 ·cases h
def bP:List UInt8→Nat→Nat→Nat×Nat×Int|[],_,_=>(0,0,10)|c::l,i,n=>if(i=9∧1<c.toNat)∨(c.toNat=0∧0<i) then(0,0,11) else if c.toNat<128 then(n+c.toNat%128*2^(7*i),i+1,0) else bP l (i+1) (n+c.toNat%128*2^(7*i))
def al (b:List UInt8) (p:Int):Int×Int×Int:=if p<0∨(b.length:Int)≤p then(0,p,10) else(((bP (b.drop p.toNat) 0 0).1:Int),p+((bP (b.drop p.toNat) 0 0).2.1:Int),(bP (b.drop p.toNat) 0 0).2.2)
theorem qB:∀(l:List UInt8) (i n:Nat),i≤9→n<2^(7*i)→(bP l i n).1<2^64∧(bP l i n).2.1≤i+l.length∧((bP l i n).2.2=0→i<(bP l i n).2.1)∧((bP l i n).2.2≠0→(bP l i n).1=0∧(bP l i n).2.1=0)∧((bP l i n).2.2=0∨(bP l i n).2.2=10∨(bP l i n).2.2=11)
 |[],i,n,hi,hn=>by simp[bP]|c::l,i,n,hi,hn=>by
  unfold bP;have hc:=c.toNat_lt;have hcm:c.toNat%128≤127:=by omega
  have h1:n+c.toNat%128*2^(7*i)<2^(7*(i+1)):=by have:c.toNat%128*2^(7*i)≤127*2^(7*i):=Nat.mul_le_mul_right _ hcm;rw[Nat.mul_add,Nat.pow_add];omega
  split;·simp
  ·rename_i h0;split
   ·refine⟨?_,by simp,by simp,by simp,by simp⟩;dsimp only;by_cases h9:i=9
    ·subst h9;have hc1:c.toNat≤1:=by omega
     have:c.toNat%128*2^(7*9)≤1*2^(7*9):=Nat.mul_le_mul_right _ (by omega);omega
    ·have:2^(7*(i+1))≤2^63:=Nat.pow_le_pow_right (by decide) (by omega);omega
   ·rename_i hbig;have hi8:i≤8:=by omega
    obtain⟨a1,a2,a3,a4⟩:=qB l (i+1) _ (by omega) h1;refine⟨a1,?_,fun h=>?_,a4⟩;·simp only[List.length_cons];omega
    ·have:=a3 h;omega
theorem AU (c:UInt8):lA .andNot .u8 (c.toNat:Int) 128=.int .u8 ((c.toNat%128:Nat):Int):=by
 have key:∀x:Fin 256,IntKind.u8.wrap ((BitVec.ofInt IntKind.u8.bits (x.val:Int)&&&~~~BitVec.ofInt IntKind.u8.bits 128).toNat:Nat)=((x.val%128:Nat):Int):=by decide+kernel
 have h:=key ⟨c.toNat,c.toNat_lt⟩;unfold lA;exact congrArg _ h
theorem MH {n m i:Nat} (hn:n<2^(7*i)) (hm:n+m*2^(7*i)<2^64):lA .or .u64 (n:Int) ((m:Int)*2^(7*i))=.int .u64 ((n+m*2^(7*i):Nat):Int):=by
 have e1:((m:Int)*2^(7*i))=((m*2^(7*i):Nat):Int):=by simp
 have hn64:n<2^64:=by omega
 have hm64:m*2^(7*i)<2^64:=by omega
 have h1:(BitVec.ofInt 64 (n:Int)).toNat=n:=by rw[BitVec.ofInt_natCast,BitVec.toNat_ofNat,Nat.mod_eq_of_lt hn64]
 have h2:(BitVec.ofInt 64 ((m*2^(7*i):Nat):Int)).toNat=m*2^(7*i):=by rw[BitVec.ofInt_natCast,BitVec.toNat_ofNat,Nat.mod_eq_of_lt hm64]
 have h3:n|||m*2^(7*i)=n+m*2^(7*i):=by rw[Nat.or_comm,←Nat.shiftLeft_eq,←Nat.shiftLeft_add_eq_or_of_lt hn,Nat.add_comm]
 rw[e1];unfold lA;have h4:(BitVec.ofInt IntKind.u64.bits (n:Int)|||BitVec.ofInt IntKind.u64.bits ((m*2^(7*i):Nat):Int)).toNat=n+m*2^(7*i):=by show(BitVec.ofInt 64 (n:Int)|||BitVec.ofInt 64 ((m*2^(7*i):Nat):Int)).toNat=_;rw[BitVec.toNat_or,h1,h2,h3]
 simp only[h4];refine congrArg _ ?_;exact wrap_u64 (by omega)
def val:List UInt8→Nat|[]=>0|c::l=>c.toNat%128+128*val l
theorem oE (l:List UInt8) (c:UInt8):val (l++[c])=val l+c.toNat%128*2^(7*l.length):=by induction l with|nil=>simp[val]|cons x l ih=>
 simp only[List.cons_append,val,ih,List.length_cons];have:2^(7*(l.length+1))=128*2^(7*l.length):=by rw[Nat.mul_add,Nat.pow_add];omega
 rw[this,Nat.mul_add,Nat.mul_left_comm];omega
theorem ME (l:List UInt8):val l<2^(7*l.length):=by induction l with|nil=>simp[val]|cons x l ih=>
 simp only[val,List.length_cons];have:2^(7*(l.length+1))=128*2^(7*l.length):=by rw[Nat.mul_add,Nat.pow_add];omega
 omega
theorem sG:∀(l:List UInt8) (c:UInt8),(∀x∈l,128≤x.toNat)→c.toNat<128→(c.toNat≠0∨l=[])→bS (val (l++[c]))=l++[c]
 |[],c,_,hc,_=>by
  have:val ([]++[c])=c.toNat:=by simp[val];omega
  rw[this,db hc];simp|x::l,c,hl,hc,h0=>by
  have hx:=hl x (by simp);have hx2:=x.toNat_lt;have h0:c.toNat≠0:=by rcases h0 with h|h;exact h;cases h
  have hv:0<val (l++[c]):=by rw[oE];have:0<c.toNat%128*2^(7*l.length):=Nat.mul_pos (by omega) (Nat.pow_pos (by decide));omega
  have ih:=sG l c (fun y hy=>hl y (by simp[hy])) hc (.inl h0);simp only[List.cons_append,val];rw[gy (by omega),show(x.toNat%128+128*val (l++[c]))/128=val (l++[c]) from by omega,ih,show(x.toNat%128+128*val (l++[c]))%128+128=x.toNat from by omega];simp
theorem rI:∀(k n:Nat),n<2^(7*(k+1))→(bS n).length≤k+1
 |0,n,h=>by rw[db (by simpa using h)];simp|k+1,n,h=>by
  by_cases hn:n<128;·rw[db hn];simp
  ·rw[gy hn];have:2^(7*(k+1+1))=128*2^(7*(k+1)):=by rw[Nat.mul_add 7 (k+1),Nat.pow_add];omega
   have:=rI k (n/128) (by omega);simp only[List.length_cons];omega
@[simp] noncomputable def zI:List AV→Option (Prop×AV)|[.pv (.ro b),.pv (.int .i64 p)]=>(dec eU b).map fun l=>(l.length≤1000000000∧-9223372036854775808≤p∧p≤9223372036854775807,.aQ [.pv (.int .u64 (al l p).1),.pv (.int .i64 (al l p).2.1),.pv (.int .i64 (al l p).2.2)])|_=>none
theorem FX {n c i:Nat} (hn:n<2^(7*i)) (hc:c≤127):n+c*2^(7*i)<2^(7*(i+1)):=by have:c*2^(7*i)≤127*2^(7*i):=Nat.mul_le_mul_right _ hc;rw[Nat.mul_add,Nat.pow_add];omega
theorem DO (l:List UInt8) (i:Nat):cut (bytesRow l) (i:Int) (l.length:Int)=bytesRow (l.drop i):=by have:List.take l.length (bytesRow l)=bytesRow l:=List.take_of_length_le (by simp[bytesRow]);unfold cut;rw[Int.toNat_natCast,Int.toNat_natCast,this];simp[bytesRow,List.map_drop]
theorem wV:aO Tryz.prog 98 zI:=by
 intro ys φ r h hφ;unfold zI at h;split at h
 ·rename_i rb p;obtain⟨b,hb,h⟩:=Option.map_eq_some_iff.1 h;cases h;cases aU hb;obtain⟨hl,hp1,hp2⟩:=hφ;refine aw ah (by kernel_rfl) (by conv=>lhs;reduce) (by simp) ?_;by_cases h0:p<0∨(b.length:Int)≤p
  ·have ht:al b p=(0,p,10):=by unfold al;rw[if_pos h0]
   by_cases hp0:p<0;·simp(config := { maxSteps := 3000000 }) [hp0,ht]
   ·have hbp:(b.length:Int)≤p:=by omega
    simp(config := { maxSteps := 3000000 }) [hp0,hbp,ht]
  ·obtain⟨q,rfl⟩:=Int.eq_ofNat_of_zero_le (show 0≤p by omega);have ht:al b q=(((bP (b.drop q) 0 0).1:Int),(q:Int)+((bP (b.drop q) 0 0).2.1:Int),(bP (b.drop q) 0 0).2.2):=by unfold al;rw[if_neg h0];rfl
   have hq0:¬(q:Int)<0:=by omega
   have hq1:¬(b.length:Int)≤q:=by omega
   have hq2:¬b.length≤q:=by omega
   have hc:=DO b q;rw[ht];simp(config := { maxSteps := 3000000 }) [hq0,hq1,hq2,hc];refine⟨⟨by omega,bg b⟩,?_⟩;generalize hD:b.drop q=D;have hDl:D.length+q=b.length:=by rw[←hD];simp;omega
   have hbD:(b.length:Int)-q=(D.length:Int):=by omega
   refine aq (fun x:Nat×Nat=>x.1≤D.length∧x.1≤9∧x.2<2^(7*x.1)∧bP D 0 0=bP (D.drop x.1) x.1 x.2) (fun x=>⟨[(1,.pv (.int .i64 q)),(4,.pv (.int .u64 x.2)),(6,.pv (.int .i64 10)),(21,.pv (.ro (bytesRow D))),(22,.pv (.int .i64 D.length)),(23,.pv (.int .i64 x.1))],[]⟩) (fun x=>D.length-x.1) [] (0,0) ?_ ?_ ?_;·simp
   ·simp;omega
   ·rintro⟨i,n⟩ ⟨hi,hi9,hn,hG⟩;dsimp only at hi hi9 hn hG;have w1:IntKind.i64.wrap ((i:Int)+1)=(i:Int)+1:=wrap_i64 (by omega);have w2:IntKind.i64.wrap (7*(i:Int))=7*(i:Int):=wrap_i64 (by omega);have w3:IntKind.i64.wrap ((q:Int)+(i:Int))=(q:Int)+(i:Int):=wrap_i64 (by omega);have w4:IntKind.i64.wrap ((q:Int)+(i:Int)+1)=(q:Int)+(i:Int)+1:=wrap_i64 (by omega);by_cases hlt:i<D.length
    ·have r1:=R.bytesRow_at hlt;rw[List.drop_eq_getElem_cons hlt,bP]at hG;have hc:=D[i].toNat_lt;have ha:=AU D[i];simp(config := { maxSteps := 3000000 }) [w1,w2,w3,w4,hlt,r1,ha];have hcm:D[i].toNat%128≤127:=by omega
     have hn':=FX hn hcm;have hor:∀hm:n+D[i].toNat%128*2^(7*i)<2^64,lA .or .u64 (n:Int) (IntKind.u64.wrap (IntKind.u64.wrap ((D[i].toNat:Int)%128)*2^min (7*(i:Int)).toNat IntKind.u64.bits))=.int .u64 ((n+D[i].toNat%128*2^(7*i):Nat):Int):=by
      intro hm;have e1:IntKind.u64.wrap ((D[i].toNat:Int)%128)=((D[i].toNat%128:Nat):Int):=by rw[wrap_u64 (by omega)];omega
      have e2:min (7*(i:Int)).toNat IntKind.u64.bits=7*i:=by
       have:(7*(i:Int)).toNat=7*i:=by omega
       rw[this];exact Nat.min_eq_left (show 7*i≤64 by omega)
      have e3:IntKind.u64.wrap (((D[i].toNat%128:Nat):Int)*2^(7*i))=((D[i].toNat%128:Nat):Int)*2^(7*i):=by
       have e4:(((D[i].toNat%128:Nat):Int)*2^(7*i))=((D[i].toNat%128*2^(7*i):Nat):Int):=by simp
       rw[e4];exact wrap_u64 (by omega)
      rw[e1,e2,e3];exact MH hn hm
     have h63:i≤8→n+D[i].toNat%128*2^(7*i)<2^64:=fun h8=>by have:2^(7*(i+1))≤2^63:=Nat.pow_le_pow_right (by decide) (by omega);omega
     have h64:¬(i=9∧1<D[i].toNat)→n+D[i].toNat%128*2^(7*i)<2^64:=fun h=>by
      by_cases h9:i=9
      ·have hle:D[i].toNat%128*2^(7*i)≤1*2^(7*i):=Nat.mul_le_mul_right _ (by omega);have:2^(7*i)=2^63:=by rw[h9]
       omega
      ·exact h63 (by omega)
     have hA:(i=9∧1<D[i].toNat)∨(D[i].toNat=0∧0<i)→bP D 0 0=(0,0,11):=fun h=>by rw[hG,if_pos h]
     have hN:¬((i=9∧1<D[i].toNat)∨(D[i].toNat=0∧0<i))→bP D 0 0=if D[i].toNat<128 then(n+D[i].toNat%128*2^(7*i),i+1,0) else bP (D.drop (i+1)) (i+1) (n+D[i].toNat%128*2^(7*i)):=fun h=>by rw[hG,if_neg h]
     clear hG;generalize n+D[i].toNat%128*2^(7*i)=m at*;generalize D[i].toNat=c at*;refine⟨fun a1 a2=>⟨fun _ _=>?_,fun hx=>?_⟩,fun hx=>⟨fun b1 b2 b3=>?_,fun hy=>⟨by omega,fun h1=>?_,fun h2=>?_⟩⟩⟩;·rw[hA (.inl ⟨by omega,by omega⟩)];simp
     ·exfalso;have:=hx a1;omega
     ·rw[hA (.inr ⟨by omega,by omega⟩)];simp
     ·have hno:¬((i=9∧1<c)∨(c=0∧0<i)):=by
       rintro(⟨x,y⟩|⟨x,y⟩);·have:=hx (by omega);omega
       ·have:=hy h1 x;omega
      rw[hN hno,if_pos (by omega),hor (h64 fun h=>hno (.inl h))];exact⟨rfl,by simp;omega,rfl⟩
     ·have hno:¬((i=9∧1<c)∨(c=0∧0<i)):=by
       rintro(⟨x,y⟩|⟨x,y⟩);·have:=hx (by omega);omega
       ·omega
      have hi8:i≤8:=by
       have:¬i=9:=fun h=>by have:=hx (by omega);omega
       omega
      refine⟨i+1,m,⟨by omega,by omega,hn',?_⟩,⟨hor (h63 hi8),by omega⟩,by omega⟩;rw[hN hno,if_neg (by omega)]
    ·have hd:D.drop i=[]:=by rw[List.drop_eq_nil_iff];omega
     have he:bP D 0 0=(0,0,10):=by rw[hG,hd];rfl
     simp(config := { maxSteps := 3000000 }) [w1,w2,hlt,he]
 ·cases h
theorem dr (b:List UInt8) (p:Int):((al b p).2.2=0→0≤p∧p<(al b p).2.1∧(al b p).2.1≤b.length)∧0≤(al b p).1∧(al b p).1≤18446744073709551615∧((al b p).2.2≠0→(al b p).1=0∧(al b p).2.1=p)∧((al b p).2.2=0∨(al b p).2.2=10∨(al b p).2.2=11):=by
 unfold al;split;·simp
 ·rename_i h0;obtain⟨h1,h2,h3,h4,h5⟩:=qB (b.drop p.toNat) 0 0 (by omega) (by simp);have hd:(b.drop p.toNat).length=b.length-p.toNat:=by simp
  rw[hd]at h2;dsimp only;refine⟨fun h=>?_,by omega,by omega,fun h=>?_,h5⟩;·have:=h3 h;omega
  ·have:=h4 h;omega
theorem Kz (l:List UInt8) (i j:Int):cut (bytesRow l) i j=bytesRow ((l.take j.toNat).drop i.toNat):=by simp[cut,bytesRow,List.map_drop,List.map_take]
def bp (b:List UInt8) (p:Int):List UInt8×Int×Int:=if(al b p).2.2≠0 then([],p,(al b p).2.2) else if(b.length:Int)-(al b p).2.1<(al b p).1 then([],p,10) else((b.drop (al b p).2.1.toNat).take (al b p).1.toNat,(al b p).2.1+(al b p).1,0)
@[simp] noncomputable def xM:List AV→Option (Prop×AV)|[.pv (.ro b),.pv (.int .i64 p)]=>(dec eU b).map fun l=>(l.length≤1000000000∧-9223372036854775808≤p∧p≤9223372036854775807,.aQ [.pv (.str (bp l p).1),.pv (.int .i64 (bp l p).2.1),.pv (.int .i64 (bp l p).2.2)])|_=>none
theorem Cm:aO Tryz.prog 51 xM:=by
 intro ys φ r h hφ;unfold xM at h;split at h
 ·rename_i rb p;obtain⟨b,hb,h⟩:=Option.map_eq_some_iff.1 h;cases h;cases aU hb;obtain⟨hl,hp1,hp2⟩:=hφ;refine aw (ag wV ah) (by kernel_rfl) (by conv=>lhs;reduce) (by simp) ?_;obtain⟨k1,k2,k3,k4,k5⟩:=dr b p;have hT:bp b p=if(al b p).2.2≠0 then([],p,(al b p).2.2) else if(b.length:Int)-(al b p).2.1<(al b p).1 then([],p,10) else((b.drop (al b p).2.1.toNat).take (al b p).1.toNat,(al b p).2.1+(al b p).1,0):=rfl;generalize bp b p=T at*;obtain⟨n,q,e,hL⟩:∃n q e,al b p=(n,q,e):=⟨_,_,_,rfl⟩;rw[hL]at k1 k2 k3 k4 k5 hT;dsimp only at k1 k2 k3 k4 k5 hT;by_cases he:e=0
  ·obtain⟨j1,j2,j3⟩:=k1 he;subst he;have w1:IntKind.i64.wrap ((b.length:Int)-q)=(b.length:Int)-q:=wrap_i64 (by omega);have w2:IntKind.u64.wrap ((b.length:Int)-q)=(b.length:Int)-q:=wrap_u64 (by omega);by_cases hgt:(b.length:Int)-q<n;·rw[if_neg (by simp),if_pos hgt]at hT;subst hT;simp(config := { maxSteps := 3000000 }) [hl,hp1,hp2,hL,w1,w2,hgt]
   ·rw[if_neg (by simp),if_neg hgt]at hT;subst hT;have w3:IntKind.i64.wrap n=n:=wrap_i64 (by omega);have w4:IntKind.i64.wrap (q+n)=q+n:=wrap_i64 (by omega);have hc:cut (bytesRow b) q (q+n)=bytesRow ((b.drop q.toNat).take n.toNat):=by rw[Kz,List.drop_take,show(q+n).toNat-q.toNat=n.toNat from by omega]
    simp(config := { maxSteps := 3000000 }) [hl,hp1,hp2,hL,w1,w2,w3,w4,hgt,hc];exact⟨by omega,by omega,by omega,bg b⟩
  ·rw[if_pos he]at hT;subst hT;simp(config := { maxSteps := 3000000 }) [hl,hp1,hp2,hL,he]
 ·cases h
def kp (b:List UInt8) (at':Nat) (w:List UInt8):Bool:=decide (at'+w.length≤b.length∧(b.drop at').take w.length=w)
@[simp] noncomputable def FO:List AV→Option (Prop×AV)|[.pv (.ro b),.pv (.int .i64 i),.pv (.ro w)]=>(dec eU b).bind fun lb=>(dec eU w).map fun lw=>(0≤i∧i≤1000000000∧lb.length≤1000000000∧lw.length≤1000000000,.pv (.bool (kp lb i.toNat lw)))|_=>none
theorem I7:aO Tryz.prog 126 FO:=by
 intro ys φ r h hφ;unfold FO at h;split at h
 ·rename_i rb I rw';obtain⟨b,hb,h⟩:=Option.bind_eq_some_iff.1 h;obtain⟨l,hl,h⟩:=Option.map_eq_some_iff.1 h;cases h;cases aU hb;cases aU hl;obtain⟨p,rfl⟩:=Int.eq_ofNat_of_zero_le hφ.1;obtain⟨h0,h1,h2,h3⟩:=hφ;have w1:IntKind.i64.wrap ((p:Int)+(l.length:Int))=(p:Int)+(l.length:Int):=wrap_i64 (by omega);refine aw ah (by kernel_rfl) (by conv=>lhs;reduce) (by simp) ?_;by_cases hle:p+l.length≤b.length
  ·have hle':¬(b.length:Int)<(p:Int)+(l.length:Int):=by omega
   simp(config := { maxSteps := 3000000 }) [w1,hle'];refine aq (fun i:Nat=>i≤l.length∧(b.drop p).take i=l.take i) (fun i=>⟨[(0,.pv (.ro (bytesRow b))),(1,.pv (.int .i64 p)),(2,.pv (.ro (bytesRow l))),(7,.pv (.int .i64 i))],[]⟩) (fun i=>l.length-i) [] 0 (by simp) ?_ ?_;·simp
   ·rintro i ⟨hi,ht⟩;have w2:IntKind.i64.wrap ((i:Int)+1)=(i:Int)+1:=wrap_i64 (by omega);have w3:IntKind.i64.wrap ((p:Int)+(i:Int))=(p:Int)+(i:Int):=wrap_i64 (by omega);by_cases hlt:i<l.length
    ·have r1:=R.bytesRow_at hlt;have hlb:p+i<b.length:=by omega
     have hlb':(p:Int)+(i:Int)<(b.length:Int):=by omega
     have hp0:0≤(p:Int)+(i:Int):=by omega
     have r2:rowAt (bytesRow b) ((p:Int)+(i:Int))=[.int .u8 (b[p+i].toNat:Int)]:=by have:=R.bytesRow_at hlb;simpa using this
     have hdl:i<(b.drop p).length:=by simp;omega
     simp(config := { maxSteps := 3000000 }) [w2,w3,hlt,hlb,hlb',hp0,r1,r2];have hg:(b.drop p)[i]=b[p+i]:=by rw[List.getElem_drop]
     refine⟨fun hne=>?_,fun he=>⟨i+1,⟨by omega,?_⟩,by omega,by omega⟩⟩
     ·unfold kp;rw[decide_eq_false_iff_not];rintro⟨_,e⟩;refine hne ?_;have e2:((b.drop p).take l.length)[i]?=l[i]?:=by rw[e]
      rw[List.getElem?_take,if_pos hlt,List.getElem?_eq_getElem hdl,List.getElem?_eq_getElem hlt,hg]at e2;simp only[Option.some.injEq]at e2;rw[e2]
     ·rw[List.take_succ_eq_append_getElem hlt,List.take_succ_eq_append_getElem hdl,ht,hg];congr 2;exact UInt8.toNat_inj.1 (by omega)
    ·simp(config := { maxSteps := 3000000 }) [hlt];unfold kp;have hil:i=l.length:=by omega
     rw[hil,List.take_length]at ht;simp[hle,ht]
  ·have hle':(b.length:Int)<(p:Int)+(l.length:Int):=by omega
   have hno:kp b p l=false:=by unfold kp;simp[hle]
   simp(config := { maxSteps := 3000000 }) [w1,hle',hno]
 ·cases h
theorem kj:aO Tryz.prog 99 zI:=by
 intro ys φ r h hφ;unfold zI at h;split at h
 ·rename_i rb p;obtain⟨b,hb,h⟩:=Option.map_eq_some_iff.1 h;cases h;cases aU hb;obtain⟨hl,hp1,hp2⟩:=hφ;refine aw (ag tX (ag I7 ah)) (by kernel_rfl) (by conv=>lhs;reduce) (by simp) ?_;by_cases h0:p<0∨(b.length:Int)≤p
  ·have ht:al b p=(0,p,10):=by unfold al;rw[if_pos h0]
   by_cases hp0:p<0;·simp(config := { maxSteps := 3000000 }) [hp0,ht]
   ·have hbp:(b.length:Int)≤p:=by omega
    simp(config := { maxSteps := 3000000 }) [hp0,hbp,ht]
  ·obtain⟨q,rfl⟩:=Int.eq_ofNat_of_zero_le (show 0≤p by omega);have ht:al b q=(((bP (b.drop q) 0 0).1:Int),(q:Int)+((bP (b.drop q) 0 0).2.1:Int),(bP (b.drop q) 0 0).2.2):=by unfold al;rw[if_neg h0];rfl
   have hq0:¬(q:Int)<0:=by omega
   have hq1:¬(b.length:Int)≤q:=by omega
   have hq2:¬b.length≤q:=by omega
   rw[ht];simp(config := { maxSteps := 3000000 }) [hq0,hq1,hq2];generalize hD:b.drop q=D;have hDl:D.length+q=b.length:=by rw[←hD];simp;omega
   refine aq (fun i:Nat=>i≤D.length∧i≤9∧(∀x∈D.take i,128≤x.toNat)∧bP D 0 0=bP (D.drop i) i (val (D.take i))) (fun i=>⟨[(0,.pv (.ro (bytesRow b))),(1,.pv (.int .i64 q)),(7,.pv (.int .u64 (val (D.take i)))),(8,.pv (.int .i64 i))],[]⟩) (fun i=>D.length-i) [] 0 ?_ ?_ ?_;·simp[val]
   ·simp[val]
   ·rintro i ⟨hi,hi9,hall,hG⟩;have w1:IntKind.i64.wrap ((i:Int)+1)=(i:Int)+1:=wrap_i64 (by omega);have w2:IntKind.i64.wrap (7*(i:Int))=7*(i:Int):=wrap_i64 (by omega);have w3:IntKind.i64.wrap ((q:Int)+(i:Int))=(q:Int)+(i:Int):=wrap_i64 (by omega);have w4:IntKind.i64.wrap ((q:Int)+(i:Int)+1)=(q:Int)+(i:Int)+1:=wrap_i64 (by omega);have hi10:(i:Int)<10:=by omega
    by_cases hlt:i<D.length
    ·have hlt1:(q:Int)+i<b.length:=by omega
     have hlt2:¬(b.length:Int)≤(q:Int)+i:=by omega
     have hqi:q+i<b.length:=by omega
     have r1:rowAt (bytesRow b) ((q:Int)+(i:Int))=[.int .u8 (D[i].toNat:Int)]:=by
      have h1:=R.bytesRow_at hqi;have h2:D[i]=b[q+i]:=by subst hD;rw[List.getElem_drop]
      rw[h2];simpa using h1
     have hq3:0≤(q:Int)+i:=by omega
     rw[List.drop_eq_getElem_cons hlt,bP]at hG;have hc:=D[i].toNat_lt;have hn:=ME (D.take i);have htl:(D.take i).length=i:=by simp;omega
     rw[htl]at hn;have hcm:D[i].toNat%128≤127:=by omega
     have hn':=FX hn hcm;have hv:val (D.take (i+1))=val (D.take i)+D[i].toNat%128*2^(7*i):=by rw[List.take_succ_eq_append_getElem hlt,oE,htl]
     have h63:i≤8→val (D.take i)+D[i].toNat%128*2^(7*i)<2^64:=fun h8=>by have:2^(7*(i+1))≤2^63:=Nat.pow_le_pow_right (by decide) (by omega);omega
     have h64:¬(i=9∧1<D[i].toNat)→val (D.take i)+D[i].toNat%128*2^(7*i)<2^64:=fun h=>by
      by_cases h9:i=9
      ·have hle:D[i].toNat%128*2^(7*i)≤1*2^(7*i):=Nat.mul_le_mul_right _ (by omega);have:2^(7*i)=2^63:=by rw[h9]
       omega
      ·exact h63 (by omega)
     have c1:IntKind.u64.wrap (D[i].toNat:Int)=(D[i].toNat:Int):=wrap_u64 (by omega);have hpw:2^(7*i)≤2^63:=Nat.pow_le_pow_right (by decide) (by omega);have c2:IntKind.u64.wrap (2^min (7*(i:Int)).toNat IntKind.u64.bits)=((2^(7*i):Nat):Int):=by
      have e1:min (7*(i:Int)).toNat IntKind.u64.bits=7*i:=by
       have:(7*(i:Int)).toNat=7*i:=by omega
       rw[this];exact Nat.min_eq_left (show 7*i≤64 by omega)
      rw[e1,show((2:Int)^(7*i))=((2^(7*i):Nat):Int) from by simp];exact wrap_u64 (by omega)
     by_cases hA:i=9∧1<D[i].toNat
     ·rw[if_pos (.inl hA)]at hG;obtain⟨h9,h1c⟩:=hA;have h9':((i:Int)=9)=True:=eq_true (by omega);have h1c':(1:Int)<(D[i].toNat:Int):=by omega
      simp(config := { maxSteps := 3000000 }) [w1,w2,w3,w4,hi10,hlt1,hlt2,hq3,r1,c1,c2,h9',h1c',hG];omega
     ·have hN:=h64 hA;obtain⟨M,hM⟩:∃M,M=D[i].toNat%128*2^(7*i):=⟨_,rfl⟩;have c3:IntKind.u64.wrap ((D[i].toNat:Int).tmod 128*2^(7*i))=(M:Int):=by
       have e0:(D[i].toNat:Int).tmod 128=((D[i].toNat%128:Nat):Int):=by rw[Int.tmod_eq_emod_of_nonneg (by omega)];omega
       rw[e0,hM,show((D[i].toNat%128:Nat):Int)*2^(7*i)=((D[i].toNat%128*2^(7*i):Nat):Int) from by simp];exact wrap_u64 (by omega)
      obtain⟨V,hV⟩:∃V,V=val (D.take (i+1)):=⟨_,rfl⟩;have hVM:V=val (D.take i)+M:=by rw[hV,hv,hM]
      have c4:IntKind.u64.wrap ((val (D.take i):Int)+(M:Int))=(V:Int):=by rw[show((val (D.take i):Int)+(M:Int))=((val (D.take i)+M:Nat):Int) from by simp,←hVM];exact wrap_u64 (by omega)
      have hV64:(V:Int)≤18446744073709551615:=by omega
      have hp:cj (V:Int)=bS V:=by rw[cj,Int.toNat_natCast]
      have hpl:(bS V).length≤10:=rI 9 V (by omega);have hpl9:(bS V).length≤1000000000:=by omega
      have h7:0≤7*(i:Int):=by omega
      have hq9:(q:Int)≤1000000000:=by omega
      have hA1:(i:Int)=9→¬1<(D[i].toNat:Int):=fun h1 h2=>hA ⟨by omega,by omega⟩;have hA2:((i:Int)=9→(D[i].toNat:Int)≤1)=True:=eq_true fun h1=>by have:=hA1 h1;omega
      by_cases h128:D[i].toNat<128
      ·have h128i:(D[i].toNat:Int)<128:=by omega
       by_cases h00:D[i].toNat=0∧0<i
       ·rw[if_pos (.inr h00)]at hG;have hlt7:(bS V).length≤i:=by
         obtain⟨k,rfl⟩:∃k,i=k+1:=⟨i-1,by omega⟩;refine rI k V ?_;have:M=0:=by rw[hM,h00.1];simp
         omega
        have hne:¬((i:Int)+1=((bS V).length:Int)):=by omega
        by_cases hst:kp b q (bS V)=true;·simp(config := { maxSteps := 3000000 }) [w1,w2,w3,w4,hi10,hlt1,hlt2,hq3,r1,c1,c2,c3,c4,hV64,hp,hpl9,h7,hq9,hA2,h128i,hst,hne,hG,hl]
        ·have hst':kp b q (bS V)=false:=by simpa using hst
         simp(config := { maxSteps := 3000000 }) [w1,w2,w3,w4,hi10,hlt1,hlt2,hq3,r1,c1,c2,c3,c4,hV64,hp,hpl9,h7,hq9,hA2,h128i,hst',hne,hG,hl]
       ·rw[if_neg (by rintro(h|h);exact hA h;exact h00 h),if_pos h128]at hG;rw[←hM,←hVM]at hG;have hpe:bS V=D.take (i+1):=by
         have:=sG (D.take i) D[i] hall h128 (by
          by_cases hc0:D[i].toNat=0
          ·right;have:i=0:=by omega
           subst this;simp
          ·exact .inl hc0);rw[←List.take_succ_eq_append_getElem hlt]at this;rw[hV,this]
        have hle1:(bS V).length=i+1:=by rw[hpe];simp;omega
        have heq:((i:Int)+1=((bS V).length:Int))=True:=eq_true (by omega);have hst:kp b q (bS V)=true:=by unfold kp;rw[hD,hle1,hpe];simp;omega
        simp(config := { maxSteps := 3000000 }) [w1,w2,w3,w4,hi10,hlt1,hlt2,hq3,r1,c1,c2,c3,c4,hV64,hp,hpl9,h7,hq9,hA2,h128i,hst,heq,hG,hl];omega
      ·have h128i:¬(D[i].toNat:Int)<128:=by omega
       rw[if_neg (by rintro(h|h);exact hA h;omega),if_neg h128]at hG;rw[←hM,←hVM]at hG;simp(config := { maxSteps := 3000000 }) [w1,w2,w3,w4,hi10,hlt1,hlt2,hq3,r1,c1,c2,c3,c4,hV64,hp,hpl9,h7,hq9,hA2,h128i];have hi8:i≤8:=by have:¬i=9:=fun h9=>hA ⟨h9,by omega⟩;omega
       have hall':∀x∈D.take (i+1),128≤x.toNat:=by
        intro x hx;rw[List.take_succ_eq_append_getElem hlt,List.mem_append]at hx;rcases hx with hx|hx;·exact hall x hx
        ·simp only[List.mem_singleton]at hx;subst hx;omega
       exact⟨fun a1 a2=>absurd a2 (hA1 a1),i+1,⟨by omega,by omega,hall',by rw[hG,hV]⟩,⟨by rw[hV],by omega⟩,by omega⟩
    ·have hd:D.drop i=[]:=by rw[List.drop_eq_nil_iff];omega
     have he:bP D 0 0=(0,0,10):=by rw[hG,hd];rfl
     have hlt2:(b.length:Int)≤(q:Int)+i:=by omega
     simp(config := { maxSteps := 3000000 }) [w1,w2,w3,hi10,hlt2,he]
 ·cases h
theorem vM (kj:aO Tryz.prog 99 zI):aO Tryz.prog 55 xM:=by
 intro ys φ r h hφ;unfold xM at h;split at h
 ·rename_i rb p;obtain⟨b,hb,h⟩:=Option.map_eq_some_iff.1 h;cases h;cases aU hb;obtain⟨hl,hp1,hp2⟩:=hφ;refine aw (ag kj ah) (by kernel_rfl) (by conv=>lhs;reduce) (by simp) ?_;obtain⟨k1,k2,k3,k4,k5⟩:=dr b p;have hT:bp b p=if(al b p).2.2≠0 then([],p,(al b p).2.2) else if(b.length:Int)-(al b p).2.1<(al b p).1 then([],p,10) else((b.drop (al b p).2.1.toNat).take (al b p).1.toNat,(al b p).2.1+(al b p).1,0):=rfl;generalize bp b p=T at*;obtain⟨n,q,e,hL⟩:∃n q e,al b p=(n,q,e):=⟨_,_,_,rfl⟩;rw[hL]at k1 k2 k3 k4 k5 hT;dsimp only at k1 k2 k3 k4 k5 hT;have w2:IntKind.u64.wrap (b.length:Int)=(b.length:Int):=wrap_u64 (by omega);by_cases he:e=0
  ·obtain⟨j1,j2,j3⟩:=k1 he;subst he;by_cases hgt:(b.length:Int)<n;·rw[if_neg (by simp),if_pos (by omega)]at hT;subst hT;simp(config := { maxSteps := 3000000 }) [hl,hp1,hp2,hL,w2,hgt]
   ·have w3:IntKind.i64.wrap n=n:=wrap_i64 (by omega);have w4:IntKind.i64.wrap (q+n)=q+n:=wrap_i64 (by omega);by_cases hgt2:(b.length:Int)<q+n;·rw[if_neg (by simp),if_pos (by omega)]at hT;subst hT;simp(config := { maxSteps := 3000000 }) [hl,hp1,hp2,hL,w2,w3,w4,hgt,hgt2]
    ·rw[if_neg (by simp),if_neg (by omega)]at hT;subst hT;have hc:cut (bytesRow b) q (q+n)=bytesRow ((b.drop q.toNat).take n.toNat):=by rw[Kz,List.drop_take,show(q+n).toNat-q.toNat=n.toNat from by omega]
     simp(config := { maxSteps := 3000000 }) [hl,hp1,hp2,hL,w2,w3,w4,hgt,hgt2,hc];exact⟨by omega,by omega,by omega,bg b⟩
  ·rw[if_pos he]at hT;subst hT;simp(config := { maxSteps := 3000000 }) [hl,hp1,hp2,hL,he]
 ·cases h
structure Pn where
 i:Int
 v:Int
 u:Int deriving DecidableEq
def rowP (e:Pn):List PV:=[.int .u64 e.i,.int .u64 e.v,.int .u64 e.u]
theorem me:∀a b,rowP a=rowP b→a=b:=by rintro⟨k,n,t⟩ ⟨k',n',t'⟩ h;simp only[rowP,List.cons.injEq,PV.int.injEq,true_and,and_true]at h;obtain⟨h1,h2,h3⟩:=h;rw[h1,h2,h3]
def aF (l:List Pn):List (List PV):=l.map rowP
@[simp] theorem PF:aF []=[]:=rfl
@[simp] theorem IH (l:List Pn):(aF l).length=l.length:=by simp[aF]
theorem cK (l m:List Pn):aF (l++m)=aF l++aF m:=by simp[aF]
theorem dH (l:List Pn):∀r∈aF l,r.length=3:=by intro r hr;simp only[aF,List.mem_map]at hr;obtain⟨c,_,rfl⟩:=hr;rfl
theorem cr {l:List Pn}{i:Nat} (h:i<l.length):rowAt (aF l) (i:Int)=[.int .u64 l[i].i,.int .u64 l[i].v,.int .u64 l[i].u]:=by simp[rowAt,aF,h,rowP]
@[simp] theorem DW (l:List Pn):dec rowP (aF l)=some l:=kg me l
theorem aG {rows:List (List PV)}{l:List Pn} (h:dec rowP rows=some l):rows=aF l:=ke h
theorem aA (l:List Pn):bE (aF l):=by intro r hr p hp;simp only[aF,List.mem_map]at hr;obtain⟨c,_,rfl⟩:=hr;simp only[rowP,List.mem_cons,List.not_mem_nil,or_false]at hp;rcases hp with rfl|rfl|rfl<;>rfl
def eH (l:List Pn):Bool:=(List.range (l.length-1)).all fun k=>match l[k]?,l[k+1]? with|some a,some b=>decide (a.i<b.i)|_,_=>true
theorem pq (l:List Pn):eH l=true↔∀(k:Nat) (h:k+1<l.length),l[k].i<l[k+1].i:=by
 unfold eH;rw[List.all_eq_true];constructor;·intro h k hk;have:=h k (by rw[List.mem_range];omega);rw[List.getElem?_eq_getElem (by omega),List.getElem?_eq_getElem hk]at this;simpa using this
 ·intro h k hk;rw[List.mem_range]at hk;rw[List.getElem?_eq_getElem (by omega),List.getElem?_eq_getElem (show k+1<l.length by omega)];simpa using h k (by omega)
theorem vC {l:List Pn}{k:Nat} (h:k+1<l.length) (hk:l[k+1].i≤l[k].i):eH l=false:=by cases hr:eH l with|false=>rfl|true=>have:=(pq l).1 hr k h;omega
@[simp] noncomputable def GpR:List AV→Option (Prop×AV)|[.agg [.pv (.ro a)]]=>(dec rowP a).map fun l=>(l.length≤1000000000,.pv (.bool (eH l)))|_=>none
@[simp] noncomputable def GrR:List AV→Option (Prop×AV)|[.pv (.ro a)]=>(dec rowP a).map fun l=>(l.length≤1000000000,.pv (.bool (eH l)))|_=>none
theorem rQ:aO Tryz.prog 37 GpR:=by
 intro ys φ r h hφ;unfold GpR at h;split at h
 ·rename_i ra;obtain⟨a,ha,h⟩:=Option.map_eq_some_iff.1 h;cases h;cases aG ha;refine aw ah (by kernel_rfl) (by conv=>lhs;reduce) (by simp) ?_;simp(config := { maxSteps := 3000000 });refine aq (fun i:Nat=>i≤a.length∧∀(k:Nat) (h:k+1<a.length),k+1<i→a[k].i<a[k+1].i) (fun i=>⟨[(1,.ptr 1 0),(6,.pv (.int .i64 a.length)),(7,.pv (.int .i64 i))],[(1,.box [.pv (.ro (aF a))])]⟩) (fun i=>a.length-i) [] 0 ?_ ?_ ?_;·exact⟨Nat.zero_le _,fun k h h2=>absurd h2 (by omega)⟩
  ·simp
  ·rintro i ⟨hi,ht⟩;have w2:IntKind.i64.wrap ((i:Int)+1)=(i:Int)+1:=wrap_i64 (by omega);have w3:IntKind.i64.wrap ((i:Int)-1)=(i:Int)-1:=wrap_i64 (by omega);by_cases hlt:i<a.length
   ·have r1:=cr hlt;by_cases h0:i=0;·subst h0;have wm:IntKind.i64.wrap (-1)=-1:=wrap_i64 (by omega);have rm:rowAt (aF a) (-1)=[.int .u64 a[0].i,.int .u64 a[0].v,.int .u64 a[0].u]:=r1;have rz:rowAt (aF a) 0=[.int .u64 a[0].i,.int .u64 a[0].v,.int .u64 a[0].u]:=r1;simp(config := { maxSteps := 3000000 }) [hlt,rm,rz,wm];exact⟨1,⟨by omega,fun k h h2=>absurd h2 (by omega)⟩,by rw[wrap_i64 (by omega)];rfl,by omega⟩
    ·obtain⟨k,hik⟩:∃k,i=k+1:=⟨i-1,by omega⟩;have hk:k<a.length:=by omega
     have r2:=cr hk;have w3:IntKind.i64.wrap ((i:Int)-1)=(k:Int):=by rw[wrap_i64 (by omega)];omega
     have h0i:0<i:=by omega
     simp(config := { maxSteps := 3000000 }) [w2,w3,hlt,hk,r1,r2,h0i];subst hik;refine⟨fun h=>vC (k:=k) hlt h,fun h=>⟨k+2,⟨by omega,fun j hj h2=>?_⟩,by omega,by omega⟩⟩;by_cases hjk:j=k;·subst hjk;exact h
     ·exact ht j hj (by omega)
   ·simp(config := { maxSteps := 3000000 }) [hlt];rw[pq];exact fun k h=>ht k h (by omega)
 ·cases h
theorem tC:aO Tryz.prog 44 GrR:=by
 intro ys φ r h hφ;unfold GrR at h;split at h
 ·rename_i ra;obtain⟨a,ha,h⟩:=Option.map_eq_some_iff.1 h;cases h;cases aG ha;refine aw ah (by kernel_rfl) (by conv=>lhs;reduce) (by simp) ?_;simp(config := { maxSteps := 3000000 });refine aq (fun i:Nat=>1≤i∧i≤a.length+1∧∀(k:Nat) (h:k+1<a.length),k+1<i→a[k].i<a[k+1].i) (fun i=>⟨[(0,.pv (.ro (aF a))),(3,.pv (.int .i64 i))],[]⟩) (fun i=>a.length+1-i) [] 1 ?_ ?_ ?_;·exact⟨by omega,by omega,fun k h h2=>absurd h2 (by omega)⟩
  ·simp
  ·rintro i ⟨hi1,hi,ht⟩;obtain⟨k,hik⟩:∃k,i=k+1:=⟨i-1,by omega⟩;have w2:IntKind.i64.wrap ((i:Int)+1)=(i:Int)+1:=wrap_i64 (by omega);have w3:IntKind.i64.wrap ((i:Int)-1)=(k:Int):=by rw[wrap_i64 (by omega)];omega
   by_cases hlt:i<a.length
   ·have r1:=cr hlt;have hk:k<a.length:=by omega
    have r2:=cr hk;simp(config := { maxSteps := 3000000 }) [w2,w3,hlt,hk,r1,r2];subst hik;refine⟨fun h=>vC (k:=k) hlt h,fun h=>⟨k+2,⟨by omega,by omega,fun j hj h2=>?_⟩,by omega,by omega⟩⟩;by_cases hjk:j=k;·subst hjk;exact h
    ·exact ht j hj (by omega)
   ·simp(config := { maxSteps := 3000000 }) [hlt];rw[pq];exact fun k h=>ht k h (by omega)
 ·cases h
@[simp] noncomputable def GS1:List AV→Option (Prop×AV)|[.agg [.pv (.int .u64 a),.pv (.int .u64 b),.pv (.int .u64 c)],.agg [.pv (.int .u64 d),.pv (.int .u64 e),.pv (.int .u64 f)]]=>some (True,.pv (.bool (decide (a=d)&&(decide (b=e)&&decide (c=f)))))|_=>none
theorem c_S1:aO Tryz.prog 101 GS1:=by
 intro ys φ r h hφ;unfold GS1 at h;split at h;·cases h;refine aw ah (by kernel_rfl) (by conv=>lhs;reduce) (by simp) ?_;simp(config := { maxSteps := 3000000 })
 ·cases h
@[simp] noncomputable def GrS:List AV→Option (Prop×AV)|[.pv (.ro a),.pv (.ro b)]=>(dec rowP a).bind fun la=>(dec rowP b).map fun lb=>(la.length≤1000000000,.pv (.bool (decide (la=lb))))|_=>none
theorem Ib:aO Tryz.prog 35 GrS:=by
 intro ys φ r h hφ;unfold GrS at h;split at h
 ·rename_i ra rb;obtain⟨a,ha,h⟩:=Option.bind_eq_some_iff.1 h;obtain⟨b,hb,h⟩:=Option.map_eq_some_iff.1 h;cases h;cases aG ha;cases aG hb;refine aw ah (by kernel_rfl) (by conv=>lhs;reduce) (by simp) ?_;simp(config := { maxSteps := 3000000 });refine⟨fun hne=>?_,fun hlen=>?_⟩;·intro e;exact hne (by rw[e])
  refine aq (fun i:Nat=>i≤a.length∧a.take i=b.take i) (fun i=>⟨[(0,.pv (.ro (aF a))),(1,.pv (.ro (aF b))),(5,.pv (.int .i64 i))],[]⟩) (fun i=>a.length-i) [] 0 (by simp) ?_ ?_;·simp
  ·rintro i ⟨hi,ht⟩;have w2:IntKind.i64.wrap ((i:Int)+1)=(i:Int)+1:=wrap_i64 (by omega);by_cases hlt:i<a.length
   ·have r1:=cr hlt;have hlb:i<b.length:=by omega
    have r2:=cr hlb;simp(config := { maxSteps := 3000000 }) [w2,hlt,hlb,r1,r2];refine⟨fun hne e=>by subst e;simp at hne,fun h1 h2 h3=>⟨i+1,⟨by omega,?_⟩,by omega,by omega⟩⟩;rw[List.take_succ_eq_append_getElem hlt,List.take_succ_eq_append_getElem hlb,ht];congr 2;exact me _ _ (by simp only[rowP,h1,h2,h3])
   ·simp(config := { maxSteps := 3000000 }) [hlt];rw[List.take_of_length_le (by omega),List.take_of_length_le (by omega)]at ht;exact ht
 ·cases h
@[simp] noncomputable def GEq:List AV→Option (Prop×AV)|[.pv (.ro a),.pv (.ro b),.bJ f []]=>if f=101 then(dec rowP a).bind fun la=>(dec rowP b).map fun lb=>(la.length≤1000000000,.pv (.bool (decide (la=lb)))) else none|_=>none
theorem M0:gM Tryz.prog 101=true:=by kernel_rfl
theorem c_Eq:aO Tryz.prog 100 GEq:=by
 intro ys φ r h hφ;unfold GEq at h;split at h
 ·rename_i ra rb f;split at h
  ·rename_i hf;subst hf;obtain⟨a,ha,h⟩:=Option.bind_eq_some_iff.1 h;obtain⟨b,hb,h⟩:=Option.map_eq_some_iff.1 h;cases h;cases aG ha;cases aG hb;refine aw (ag c_S1 ah) (by kernel_rfl) (by conv=>lhs;reduce) (by simp) ?_;simp(config := { maxSteps := 3000000 });refine⟨fun hne=>?_,fun hlen=>?_⟩;·intro e;exact hne (by rw[e])
   refine aq (fun i:Nat=>i≤a.length∧a.take i=b.take i) (fun i=>⟨[(0,.pv (.ro (aF a))),(1,.pv (.ro (aF b))),(2,.bJ 101 []),(15,.pv (.ro (aF a))),(16,.pv (.int .i64 a.length)),(17,.pv (.int .i64 i))],[]⟩) (fun i=>a.length-i) [] 0 (by simp) ?_ ?_;·simp
   ·rintro i ⟨hi,ht⟩;have w2:IntKind.i64.wrap ((i:Int)+1)=(i:Int)+1:=wrap_i64 (by omega);by_cases hlt:i<a.length
    ·have r1:=cr hlt;have hlb:i<b.length:=by omega
     have r2:=cr hlb;simp(config := { maxSteps := 3000000 }) [w2,hlt,hlb,r1,r2,M0];refine⟨fun hne e=>by subst e;simp at hne,fun h1 h2 h3=>⟨i+1,⟨by omega,?_⟩,by omega,by omega⟩⟩;rw[List.take_succ_eq_append_getElem hlt,List.take_succ_eq_append_getElem hlb,ht];congr 2;exact me _ _ (by simp only[rowP,h1,h2,h3])
    ·simp(config := { maxSteps := 3000000 }) [hlt];rw[List.take_of_length_le (by omega),List.take_of_length_le (by omega)]at ht;exact ht
  ·cases h
 ·cases h
@[simp] noncomputable def GpS:List AV→Option (Prop×AV)|[.agg [.pv (.ro a)],.agg [.pv (.ro b)]]=>(dec rowP a).bind fun la=>(dec rowP b).map fun lb=>(la.length≤1000000000,.pv (.bool (decide (la=lb))))|_=>none
theorem IZ:aO Tryz.prog 57 GpS:=by
 intro ys φ r h hφ;unfold GpS at h;split at h;·rename_i ra rb;obtain⟨a,ha,h⟩:=Option.bind_eq_some_iff.1 h;obtain⟨b,hb,h⟩:=Option.map_eq_some_iff.1 h;cases h;cases aG ha;cases aG hb;refine aw (ag c_Eq ah) (by kernel_rfl) (by conv=>lhs;reduce) (by simp) ?_;simp(config := { maxSteps := 3000000 });exact hφ
 ·cases h
@[simp] noncomputable def Gpref:List AV→Option (Prop×AV)|[.agg [.pv (.ro a)]]=>(dec rowP a).map fun l=>(l.length≤100000000,.fr 123 (aF l))|_=>none
@[simp] noncomputable def UL:List AV→Option (Prop×AV)|[.pv (.ro a)]=>(dec rowP a).map fun l=>(l.length≤100000000,.fr 94 (aF l))|_=>none
theorem s8:aO Tryz.prog 78 UL:=by
 intro ys φ r h hφ;unfold UL at h;split at h;·rename_i ra;obtain⟨a,ha,h⟩:=Option.map_eq_some_iff.1 h;cases h;cases aG ha;refine aw ah (by kernel_rfl) (by conv=>lhs;reduce) (by simp) ?_;cases a with|nil=>simp(config := { maxSteps := 3000000 }) [th]|cons x l=>have hx:aF (x::l)=rowP x::aF l:=rfl;simp(config := { maxSteps := 3000000 }) [hx,aB];simp only[List.length_cons]at hφ;exact⟨by omega,by omega,rfl,dH l⟩
 ·cases h
@[simp] noncomputable def GOf1:List AV→Option (Prop×AV)|[.agg [.pv (.int .u64 a),.pv (.int .u64 b),.pv (.int .u64 c)],.rp [.int .u64 n]]=>some (True,.pv (.bool (decide (b=n))))|_=>none
@[simp] noncomputable def TE:List AV→Option (Prop×AV)|[.agg [.pv (.int .u64 a),.pv (.int .u64 b),.pv (.int .u64 c)],.rp [.int .u64 n]]=>some (True,.pv (.bool (decide (a=n))))|_=>none
theorem Wl:aO Tryz.prog 130 TE:=by
 intro ys φ r h hφ;unfold TE at h;split at h;·cases h;refine aw ah (by kernel_rfl) (by conv=>lhs;reduce) (by simp) ?_;simp(config := { maxSteps := 3000000 })
 ·cases h
def QZ (f:FuncId) (n:Int) (e:Pn):Bool:=decide (e.i=n)
def nz (p:Pn→Bool) (l:List Pn):Int:=if l.findIdx p<l.length then(l.findIdx p:Nat) else-1
theorem yl {p:Pn→Bool}{l:List Pn}{i:Nat} (hi:i<l.length) (h:p l[i]=true) (ha:∀e∈l.take i,p e=false):nz p l=(i:Int):=by
 have:l.findIdx p=i:=by rw[List.findIdx_eq hi];refine⟨h,fun j hj=>?_⟩;exact ha l[j] (by rw[List.mem_take_iff_getElem];exact⟨j,by omega,rfl⟩)
 unfold nz;rw[this,if_pos hi]
theorem jJ {p:Pn→Bool}{l:List Pn} (ha:∀e∈l,p e=false):nz p l=-1:=by
 have:l.findIdx p=l.length:=by rw[List.findIdx_eq_length];exact ha
 unfold nz;rw[this,if_neg (by omega)]
theorem Fm (p:Pn→Bool) (l:List Pn):(0≤nz p l)=(l.any p=true):=by
 apply propext;by_cases h:l.any p=true
 ·obtain⟨e,he,hr⟩:=List.any_eq_true.1 h;have:l.findIdx p<l.length:=by rw[List.findIdx_lt_length];exact⟨e,he,hr⟩
  unfold nz;rw[if_pos this];simp[h]
 ·have h':l.any p=false:=by simpa using h
  rw[List.any_eq_false]at h';rw[jJ fun e he=>by simpa using h' e he];simp[h]
@[simp] noncomputable def GIx:List AV→Option (Prop×AV)|[.pv (.ro a),.bJ f [.rp [.int .u64 n]]]=>if f=130 then(dec rowP a).map fun l=>(l.length≤1000000000,.pv (.int .i64 (nz (QZ f n) l))) else none|_=>none
theorem Iz:gM Tryz.prog 130=true:=by kernel_rfl
theorem c_Ix:aO Tryz.prog 129 GIx:=by
 intro ys φ r h hφ;unfold GIx at h;split at h
 ·rename_i ra f n;split at h
  ·rename_i hf;obtain⟨a,ha,h⟩:=Option.map_eq_some_iff.1 h;cases h;cases aG ha;have hfn:gM Tryz.prog f=true:=by rw[hf];exact Iz
   refine aw (ag Wl ah) (by kernel_rfl) (by conv=>lhs;reduce) (by simp) ?_;simp(config := { maxSteps := 3000000 });refine aq (fun i:Nat=>i≤a.length∧∀e∈a.take i,QZ f n e=false) (fun i=>⟨[(0,.pv (.ro (aF a))),(1,.bJ f [.rp [.int .u64 n]]),(7,.pv (.int .i64 a.length)),(8,.pv (.int .i64 i))],[]⟩) (fun i=>a.length-i) [] 0 (by simp) ?_ ?_;·simp
   ·rintro i ⟨hi,ht⟩;have w2:IntKind.i64.wrap ((i:Int)+1)=(i:Int)+1:=wrap_i64 (by omega);by_cases hlt:i<a.length
    ·have r1:=cr hlt;have hr:QZ f n a[i]=false→∀e∈a.take (i+1),QZ f n e=false:=by
      intro h0 e he;rw[List.take_succ_eq_append_getElem hlt,List.mem_append]at he;rcases he with he|he;·exact ht e he
      ·rw[List.mem_singleton]at he;rw[he];exact h0
     subst hf;·have hp:QZ 130 n a[i]=decide (a[i].i=n):=rfl;simp(config := { maxSteps := 3000000 }) [w2,hlt,r1,hfn];refine⟨fun h=>(yl hlt (by rw[hp];simpa using h) ht).symm,fun h=>⟨i+1,⟨by omega,hr (by rw[hp];simpa using h)⟩,by omega,by omega⟩⟩
    ·simp(config := { maxSteps := 3000000 }) [hlt];rw[List.take_of_length_le (by omega)]at ht;exact(jJ ht).symm
  ·cases h
 ·cases h
def dF (n:Int):List PV:=[.int .u64 n]
theorem ET:∀a b,dF a=dF b→a=b:=by intro a b h;simpa[dF]using h
def bA (l:List Int):List (List PV):=l.map dF
@[simp] theorem Pw:bA []=[]:=rfl
@[simp] theorem Jw (l:List Int):(bA l).length=l.length:=by simp[bA]
theorem gX (l m:List Int):bA (l++m)=bA l++bA m:=by simp[bA]
theorem ey {l:List Int}{i:Nat} (h:i<l.length):rowAt (bA l) (i:Int)=[.int .u64 l[i]]:=by simp[rowAt,bA,h,dF]
@[simp] theorem mI (l:List Int):dec dF (bA l)=some l:=kg ET l
theorem cZ {rows:List (List PV)}{l:List Int} (h:dec dF rows=some l):rows=bA l:=ke h
theorem dO (l:List UInt8):bE (bytesRow l):=by intro r hr p hp;simp only[bytesRow,List.mem_map]at hr;obtain⟨c,_,rfl⟩:=hr;simp only[List.mem_singleton]at hp;subst hp;rfl
theorem tj (l:List Int):bE (bA l):=by intro r hr p hp;simp only[bA,List.mem_map]at hr;obtain⟨c,_,rfl⟩:=hr;simp only[dF,List.mem_singleton]at hp;subst hp;rfl
def bQ (n:Int):Prop:=0≤n∧n≤18446744073709551615
def ft (l:List Int):List UInt8:=l.flatMap cj
theorem eE {n:Int} (h:bQ n):(cj n).length≤10:=by obtain⟨h1,h2⟩:=h;unfold cj;exact rI 9 _ (by omega)
theorem jS:∀{l:List Int},(∀n∈l,bQ n)→(ft l).length≤10*l.length|[],_=>by simp[ft]|n::l,h=>by have h1:=eE (h n (by simp));have h2:=jS (l:=l) fun m hm=>h m (by simp[hm]);unfold ft at h2 ⊢;simp only[List.flatMap_cons,List.length_append,List.length_cons];omega
theorem vW (l:List Int) (n:Int):ft (l++[n])=ft l++cj n:=by simp[ft]
@[simp] noncomputable def HB:List AV→Option (Prop×AV)|[.pv (.ro a)]=>(dec dF a).map fun l=>(l.length≤1000000∧(∀n∈l,bQ n),.fr 5 (bytesRow (ft l)))|_=>none
theorem KH:aO Tryz.prog 39 HB:=by
 intro ys φ r h hφ;unfold HB at h;split at h
 ·rename_i ra;obtain⟨a,ha,h⟩:=Option.map_eq_some_iff.1 h;cases h;cases cZ ha;obtain⟨hl,hn⟩:=hφ;refine aw (ag CQ ah) (by kernel_rfl) (by conv=>lhs;reduce) (by simp) ?_;simp(config := { maxSteps := 3000000 });refine aq (fun i:Nat=>i≤a.length) (fun i=>⟨[(2,.own 2),(5,.pv (.ro (bA a))),(6,.pv (.int .i64 a.length)),(7,.pv (.int .i64 i))],[(2,.arr 5 (bytesRow (ft (a.take i))))]⟩) (fun i=>a.length-i) [] 0 (by simp) ?_ ?_;·simp[ft]
  ·rintro i hi;have w2:IntKind.i64.wrap ((i:Int)+1)=(i:Int)+1:=wrap_i64 (by omega);by_cases hlt:i<a.length;·have r1:=ey hlt;have ho:=hn _ (List.getElem_mem hlt);have h1:=eE ho;have h2:=jS (l:=a.take i) fun n h=>hn n (List.mem_of_mem_take h);rw[List.length_take]at h2;obtain⟨o1,o2⟩:=ho;simp(config := { maxSteps := 3000000 }) [w2,hlt,r1,aB,o1,o2];refine⟨⟨by omega,by omega,bg _⟩,i+1,by omega,⟨by omega,?_⟩,by omega⟩;rw[List.take_succ_eq_append_getElem hlt,vW,bo]
   ·simp(config := { maxSteps := 3000000 }) [hlt];rw[List.take_of_length_le (by omega)]
 ·cases h
theorem GM:aO Tryz.prog 45 HB:=by
 intro ys φ r h hφ;unfold HB at h;split at h
 ·rename_i ra;obtain⟨a,ha,h⟩:=Option.map_eq_some_iff.1 h;cases h;cases cZ ha;obtain⟨hl,hn⟩:=hφ;refine aw (ag tX ah) (by kernel_rfl) (by conv=>lhs;reduce) (by simp) ?_;simp(config := { maxSteps := 3000000 });refine aq (fun i:Nat=>i≤a.length) (fun i=>⟨[(0,.pv (.ro (bA a))),(3,.own 3),(4,.pv (.int .i64 i))],[(3,.arr 5 (bytesRow (ft (a.take i))))]⟩) (fun i=>a.length-i) [] 0 (by simp) ?_ ?_;·simp[ft]
  ·rintro i hi;have w2:IntKind.i64.wrap ((i:Int)+1)=(i:Int)+1:=wrap_i64 (by omega);by_cases hlt:i<a.length;·have r1:=ey hlt;have ho:=hn _ (List.getElem_mem hlt);have h1:=eE ho;have h2:=jS (l:=a.take i) fun n h=>hn n (List.mem_of_mem_take h);rw[List.length_take]at h2;obtain⟨o1,o2⟩:=ho;simp(config := { maxSteps := 3000000 }) [w2,hlt,r1,aB,o1,o2];refine⟨⟨by omega,by omega,bg _⟩,i+1,by omega,⟨by omega,?_⟩,by omega⟩;rw[List.take_succ_eq_append_getElem hlt,vW,bo]
   ·simp(config := { maxSteps := 3000000 }) [hlt];rw[List.take_of_length_le (by omega)]
 ·cases h
def e9 (e:Pn):Prop:=bQ e.i∧bQ e.v∧bQ e.u
def rY (e:Pn):List UInt8:=cj e.i++(cj e.v++cj e.u)
def eF (l:List Pn):List UInt8:=l.flatMap rY
def gR (l:List Pn):List UInt8:=cj l.length++eF l
theorem nM (e:Pn):ft [e.i,e.v,e.u]=rY e:=by simp[ft,rY]
theorem tz {e:Pn} (h:e9 e):(rY e).length≤30:=by have h1:=eE h.1;have h2:=eE h.2.1;have h3:=eE h.2.2;simp[rY];omega
theorem mC:∀{l:List Pn},(∀n∈l,e9 n)→(eF l).length≤30*l.length|[],_=>by simp[eF]|n::l,h=>by have h1:=tz (h n (by simp));have h2:=mC (l:=l) fun m hm=>h m (by simp[hm]);unfold eF at h2 ⊢;simp only[List.flatMap_cons,List.length_append,List.length_cons];omega
theorem tE (l:List Pn) (n:Pn):eF (l++[n])=eF l++rY n:=by simp[eF]
theorem wG (a b c:Int):dec dF [[.int .u64 a],[.int .u64 b],[.int .u64 c]]=some [a,b,c]:=mI [a,b,c]
@[simp] noncomputable def Ks:List AV→Option (Prop×AV)|[.agg [.pv (.ro a)]]=>(dec rowP a).map fun l=>(l.length≤1000000∧(∀n∈l,e9 n),.fr 5 (bytesRow (gR l)))|_=>none
theorem NG:aO Tryz.prog 41 Ks:=by
 intro ys φ r h hφ;unfold Ks at h;split at h
 ·rename_i ra;obtain⟨a,ha,h⟩:=Option.map_eq_some_iff.1 h;cases h;cases aG ha;obtain⟨hl,hn⟩:=hφ;refine aw (ag CQ (ag KH ah)) (by kernel_rfl) (by conv=>lhs;reduce) (by simp) ?_;have wl:IntKind.u64.wrap (a.length:Int)=(a.length:Int):=wrap_u64 (by omega);have l0:(0:Int)≤(a.length:Int):=by omega
  have l1:(a.length:Int)≤18446744073709551615:=by omega
  have hv:=eE (n:=(a.length:Int)) ⟨by omega,by omega⟩;simp(config := { maxSteps := 3000000 }) [wl,l0,l1];refine aq (fun i:Nat=>i≤a.length) (fun i=>⟨[(1,.ptr 1 0),(3,.own 10),(12,.pv (.ro (aF a))),(13,.pv (.int .i64 a.length)),(14,.pv (.int .i64 i))],[(1,.box [.pv (.ro (aF a))]),(10,.arr 5 (bytesRow (cj a.length++eF (a.take i))))]⟩) (fun i=>a.length-i) [] 0 (by simp) ?_ ?_;·simp[eF]
  ·rintro i hi;have w2:IntKind.i64.wrap ((i:Int)+1)=(i:Int)+1:=wrap_i64 (by omega);by_cases hlt:i<a.length
   ·have r1:=cr hlt;have ho:=hn _ (List.getElem_mem hlt);have h1:=tz ho;have h2:=mC (l:=a.take i) fun n h=>hn n (List.mem_of_mem_take h);rw[List.length_take]at h2;obtain⟨o1,o2,o3⟩:=ho;simp(config := { maxSteps := 3000000 }) [w2,hlt,r1,aB,o1,o2,o3,wG,nM];first|refine⟨dO _,⟨by omega,by omega,bg _⟩,i+1,by omega,⟨by omega,?_⟩,by omega⟩|refine⟨⟨by omega,by omega,bg _⟩,i+1,by omega,⟨by omega,?_⟩,by omega⟩
    rw[List.take_succ_eq_append_getElem hlt,tE,←List.append_assoc,bo (cj _++_)]
   ·simp(config := { maxSteps := 3000000 }) [hlt];rw[List.take_of_length_le (by omega)];rfl
 ·cases h
@[simp] noncomputable def Lc:List AV→Option (Prop×AV)|[.pv (.ro a)]=>(dec rowP a).map fun l=>(l.length≤1000000∧(∀n∈l,e9 n),.fr 5 (bytesRow (gR l)))|_=>none
theorem NF:aO Tryz.prog 47 Lc:=by
 intro ys φ r h hφ;unfold Lc at h;split at h
 ·rename_i ra;obtain⟨a,ha,h⟩:=Option.map_eq_some_iff.1 h;cases h;cases aG ha;obtain⟨hl,hn⟩:=hφ;refine aw (ag tX (ag GM ah)) (by kernel_rfl) (by conv=>lhs;reduce) (by simp) ?_;have wl:IntKind.u64.wrap (a.length:Int)=(a.length:Int):=wrap_u64 (by omega);have l0:(0:Int)≤(a.length:Int):=by omega
  have l1:(a.length:Int)≤18446744073709551615:=by omega
  have hv:=eE (n:=(a.length:Int)) ⟨by omega,by omega⟩;simp(config := { maxSteps := 3000000 }) [wl,l0,l1];refine aq (fun i:Nat=>i≤a.length) (fun i=>⟨[(0,.pv (.ro (aF a))),(3,.own 8),(4,.pv (.int .i64 i))],[(8,.arr 5 (bytesRow (cj a.length++eF (a.take i))))]⟩) (fun i=>a.length-i) [] 0 (by simp) ?_ ?_;·simp[eF]
  ·rintro i hi;have w2:IntKind.i64.wrap ((i:Int)+1)=(i:Int)+1:=wrap_i64 (by omega);by_cases hlt:i<a.length
   ·have r1:=cr hlt;have ho:=hn _ (List.getElem_mem hlt);have h1:=tz ho;have h2:=mC (l:=a.take i) fun n h=>hn n (List.mem_of_mem_take h);rw[List.length_take]at h2;obtain⟨o1,o2,o3⟩:=ho;simp(config := { maxSteps := 3000000 }) [w2,hlt,r1,aB,o1,o2,o3,wG,nM];first|refine⟨dO _,⟨by omega,by omega,bg _⟩,i+1,by omega,⟨by omega,?_⟩,by omega⟩|refine⟨⟨by omega,by omega,bg _⟩,i+1,by omega,⟨by omega,?_⟩,by omega⟩
    rw[List.take_succ_eq_append_getElem hlt,tE,←List.append_assoc,bo (cj _++_)]
   ·simp(config := { maxSteps := 3000000 }) [hlt];rw[List.take_of_length_le (by omega)];rfl
 ·cases h
def aH (b:List UInt8):Nat→Int→List Int×Int×Int|0,p=>([],p,0)|k+1,p=>if(al b p).2.2≠0 then([],0,(al b p).2.2) else if(aH b k (al b p).2.1).2.2≠0 then([],0,(aH b k (al b p).2.1).2.2) else((al b p).1::(aH b k (al b p).2.1).1,(aH b k (al b p).2.1).2.1,0)
def cg (b:List UInt8) (p:Int) (k:Nat):List Int×Int×Int:=if(aH b k p).2.2≠0 then([],p,(aH b k p).2.2) else aH b k p
def ahead (L:List Int) (q:List Int×Int×Int):List Int×Int×Int:=if q.2.2≠0 then([],0,q.2.2) else(L++q.1,q.2.1,0)
theorem zU (b:List UInt8):∀(k:Nat) (p:Int),(aH b k p).2.2≠0→aH b k p=([],0,(aH b k p).2.2)
 |0,p,h=>absurd rfl h|k+1,p,h=>by
  unfold aH at h ⊢;split;·rfl
  ·split;·rfl
   ·rename_i h1 h2;rw[if_neg h1,if_neg h2]at h;exact absurd rfl h
theorem iv (b:List UInt8):∀(k:Nat) (p:Int),(aH b k p).2.2=0→(aH b k p).1.length=k∧(∀n∈(aH b k p).1,bQ n)∧p+k≤(aH b k p).2.1∧(0<k→0≤p∧(aH b k p).2.1≤b.length)
 |0,p,h=>by refine⟨rfl,fun n hn=>?_,by simp[aH],fun h=>absurd h (by omega)⟩;simp[aH]at hn|k+1,p,h=>by
  unfold aH at h ⊢;split at h;·rename_i h1;exact absurd h h1
  ·rename_i h1;rw[if_neg h1];split at h;·rename_i h2;exact absurd h h2
   ·rename_i h2;rw[if_neg h2];have e1:(al b p).2.2=0:=by simpa using h1
    have e2:(aH b k (al b p).2.1).2.2=0:=by simpa using h2
    obtain⟨g1,g2,g3,g4⟩:=iv b k _ e2;obtain⟨o1,o2,o3,_⟩:=dr b p;obtain⟨o1,o4,o5⟩:=o1 e1;refine⟨by simp[g1],fun n hn=>?_,by simp only;omega,fun _=>⟨o1,?_⟩⟩
    ·simp only[List.mem_cons]at hn;rcases hn with rfl|hn;·exact⟨o2,o3⟩
     ·exact g2 n hn
    ·by_cases hk:0<k;·exact(g4 hk).2
     ·have:k=0:=by omega
      subst this;exact o5
theorem wy (b:List UInt8) (k:Nat) (p:Int):ahead [] (aH b k p)=aH b k p:=by
 unfold ahead;split;·rename_i h;exact(zU b k p h).symm
 ·rename_i h;have:(aH b k p).2.2=0:=by simpa using h
  rw[←this];rfl
theorem tS (b:List UInt8) (L:List Int) (k:Nat) (p:Int) (h:(al b p).2.2=0):ahead L (aH b (k+1) p)=ahead (L++[(al b p).1]) (aH b k (al b p).2.1):=by
 rw[aH,if_neg (by simpa using h)];by_cases h2:(aH b k (al b p).2.1).2.2=0;·rw[if_neg (by simpa using h2)];simp[ahead,h2]
 ·rw[if_pos h2];simp[ahead,h2]
theorem wv (b:List UInt8) (L:List Int) (k:Nat) (p:Int) (h:(al b p).2.2≠0):ahead L (aH b (k+1) p)=([],0,(al b p).2.2):=by rw[aH,if_pos h];simp[ahead,h]
@[simp] noncomputable def GtA:List AV→Option (Prop×AV)|[.pv (.ro b),.pv (.int .i64 p),.pv (.int .i64 k)]=>(dec eU b).map fun l=>(l.length≤1000000000∧-9223372036854775808≤p∧p≤9223372036854775807∧0≤k∧k≤1000,.aQ [.fr 22 (bA (cg l p k.toNat).1),.pv (.int .i64 (cg l p k.toNat).2.1),.pv (.int .i64 (cg l p k.toNat).2.2)])|_=>none
theorem Cs:aO Tryz.prog 49 GtA:=by
 intro ys φ r h hφ;unfold GtA at h;split at h
 ·rename_i rb p K;obtain⟨b,hb,h⟩:=Option.map_eq_some_iff.1 h;cases h;cases aU hb;obtain⟨hl,hp1,hp2,hk1,hk2⟩:=hφ;obtain⟨k,rfl⟩:=Int.eq_ofNat_of_zero_le hk1;have hkk:((k:Nat):Int).toNat=k:=by simp
  rw[hkk];have hT:cg b p k=if(aH b k p).2.2≠0 then([],p,(aH b k p).2.2) else aH b k p:=rfl;generalize cg b p k=T at*;refine aw (ag wV ah) (by kernel_rfl) (by conv=>lhs;reduce) (by simp) ?_;simp(config := { maxSteps := 3000000 });refine aq (fun x:Nat×Int×List Int=>x.1≤k∧x.2.2.length=x.1∧-9223372036854775808≤x.2.1∧x.2.1≤9223372036854775807∧aH b k p=ahead x.2.2 (aH b (k-x.1) x.2.1)) (fun x=>⟨[(0,.pv (.ro (bytesRow b))),(1,.pv (.int .i64 p)),(6,.own 6),(7,.pv (.int .i64 x.2.1)),(13,.pv (.int .i64 k)),(14,.pv (.int .i64 x.1))],[(6,.arr 22 (bA x.2.2))]⟩) (fun x=>k-x.1) [] (0,p,[]) ?_ ?_ ?_;·exact⟨Nat.zero_le _,rfl,hp1,hp2,by rw[wy];rfl⟩
  ·simp
  ·rintro⟨i,q,L⟩ ⟨hi,hL,hq1,hq2,hG⟩;dsimp only at hi hL hq1 hq2 hG;have w2:IntKind.i64.wrap ((i:Int)+1)=(i:Int)+1:=wrap_i64 (by omega);by_cases hlt:i<k
   ·have hlti:(i:Int)<(k:Int):=by omega
    obtain⟨m,hm⟩:∃m,k-i=m+1:=⟨k-i-1,by omega⟩;rw[hm]at hG;obtain⟨k1,k2,k3,k4,k5⟩:=dr b q;by_cases he:(al b q).2.2=0;·obtain⟨j1,j2,j3⟩:=k1 he;rw[tS b L m q he]at hG;simp(config := { maxSteps := 3000000 }) [w2,hlti,hl,hq1,hq2,he,aB];exact⟨⟨by omega,by omega⟩,i+1,(al b q).2.1,L++[(al b q).1],⟨by omega,by simp[hL],by omega,by omega,by rw[hG,show k-(i+1)=m from by omega]⟩,⟨⟨rfl,by omega⟩,by rw[gX];rfl⟩,by omega⟩
    ·rw[wv b L m q he]at hG;have hTe:T=([],p,(al b q).2.2):=by rw[hT,hG];simp[he]
     simp(config := { maxSteps := 3000000 }) [w2,hlti,hl,hq1,hq2,he,hTe]
   ·have hltn:¬(i:Int)<(k:Int):=by omega
    have hik:k-i=0:=by omega
    rw[hik]at hG;have hTe:T=(L,q,0):=by rw[hT,hG];simp[ahead,aH]
    simp(config := { maxSteps := 3000000 }) [hltn,hTe]
 ·cases h
theorem yD:aO Tryz.prog 53 GtA:=by
 intro ys φ r h hφ;unfold GtA at h;split at h
 ·rename_i rb p K;obtain⟨b,hb,h⟩:=Option.map_eq_some_iff.1 h;cases h;cases aU hb;obtain⟨hl,hp1,hp2,hk1,hk2⟩:=hφ;obtain⟨k,rfl⟩:=Int.eq_ofNat_of_zero_le hk1;have hkk:((k:Nat):Int).toNat=k:=by simp
  rw[hkk];have hT:cg b p k=if(aH b k p).2.2≠0 then([],p,(aH b k p).2.2) else aH b k p:=rfl;generalize cg b p k=T at*;refine aw (ag kj ah) (by kernel_rfl) (by conv=>lhs;reduce) (by simp) ?_;simp(config := { maxSteps := 3000000 });refine aq (fun x:Nat×Int×List Int=>x.1≤k∧x.2.2.length=x.1∧-9223372036854775808≤x.2.1∧x.2.1≤9223372036854775807∧aH b k p=ahead x.2.2 (aH b (k-x.1) x.2.1)) (fun x=>⟨[(0,.pv (.ro (bytesRow b))),(1,.pv (.int .i64 p)),(2,.pv (.int .i64 k)),(9,.own 9),(10,.pv (.int .i64 x.2.1)),(11,.pv (.int .i64 x.1))],[(9,.arr 22 (bA x.2.2))]⟩) (fun x=>k-x.1) [] (0,p,[]) ?_ ?_ ?_;·exact⟨Nat.zero_le _,rfl,hp1,hp2,by rw[wy];rfl⟩
  ·simp
  ·rintro⟨i,q,L⟩ ⟨hi,hL,hq1,hq2,hG⟩;dsimp only at hi hL hq1 hq2 hG;have w2:IntKind.i64.wrap ((i:Int)+1)=(i:Int)+1:=wrap_i64 (by omega);by_cases hlt:i<k
   ·have hlti:(i:Int)<(k:Int):=by omega
    obtain⟨m,hm⟩:∃m,k-i=m+1:=⟨k-i-1,by omega⟩;rw[hm]at hG;obtain⟨k1,k2,k3,k4,k5⟩:=dr b q;by_cases he:(al b q).2.2=0;·obtain⟨j1,j2,j3⟩:=k1 he;rw[tS b L m q he]at hG;simp(config := { maxSteps := 3000000 }) [w2,hlti,hl,hq1,hq2,he,aB];exact⟨⟨by omega,by omega⟩,i+1,(al b q).2.1,L++[(al b q).1],⟨by omega,by simp[hL],by omega,by omega,by rw[hG,show k-(i+1)=m from by omega]⟩,⟨⟨rfl,by omega⟩,by rw[gX];rfl⟩,by omega⟩
    ·rw[wv b L m q he]at hG;have hTe:T=([],p,(al b q).2.2):=by rw[hT,hG];simp[he]
     simp(config := { maxSteps := 3000000 }) [w2,hlti,hl,hq1,hq2,he,hTe]
   ·have hltn:¬(i:Int)<(k:Int):=by omega
    have hik:k-i=0:=by omega
    rw[hik]at hG;have hTe:T=(L,q,0):=by rw[hT,hG];simp[ahead,aH]
    simp(config := { maxSteps := 3000000 }) [hltn,hTe]
 ·cases h
def uQ:List Int→Pn|[a,b,c]=>⟨a,b,c⟩|_=>⟨0,0,0⟩
def bC (b:List UInt8):Nat→Int→Int→List Pn×Int×Int|0,_,q=>([],q,0)|f+1,n,q=>if n≤0 then([],q,0) else if(aH b 3 q).2.2≠0 then([],0,(aH b 3 q).2.2) else if(bC b f (n-1) (aH b 3 q).2.1).2.2≠0 then([],0,(bC b f (n-1) (aH b 3 q).2.1).2.2) else(uQ (aH b 3 q).1::(bC b f (n-1) (aH b 3 q).2.1).1,(bC b f (n-1) (aH b 3 q).2.1).2.1,0)
def cG (b:List UInt8) (p:Int):List Pn×Int×Int:=if(al b p).2.2≠0 then([],p,(al b p).2.2) else if(bC b (b.length+1) (al b p).1 (al b p).2.1).2.2≠0 then([],p,(bC b (b.length+1) (al b p).1 (al b p).2.1).2.2) else if eH (bC b (b.length+1) (al b p).1 (al b p).2.1).1=false then([],p,2) else bC b (b.length+1) (al b p).1 (al b p).2.1
def fW (L:List Pn) (q:List Pn×Int×Int):List Pn×Int×Int:=if q.2.2≠0 then([],0,q.2.2) else(L++q.1,q.2.1,0)
theorem zz (b:List UInt8):∀(k:Nat) (n p:Int),(bC b k n p).2.2≠0→bC b k n p=([],0,(bC b k n p).2.2)
 |0,n,p,h=>absurd rfl h|k+1,n,p,h=>by
  unfold bC at h ⊢;split;·rename_i h0;rw[if_pos h0]at h;exact absurd rfl h
  ·rename_i h0;rw[if_neg h0]at h;split;·rfl
   ·split;·rfl
    ·rename_i h1 h2;rw[if_neg h1,if_neg h2]at h;exact absurd rfl h
theorem tQ (b:List UInt8) (k:Nat) (n p:Int):fW [] (bC b k n p)=bC b k n p:=by
 unfold fW;split;·rename_i h;exact(zz b k n p h).symm
 ·rename_i h;have:(bC b k n p).2.2=0:=by simpa using h
  rw[←this];rfl
theorem qO (b:List UInt8) (L:List Pn) (k:Nat) (n p:Int) (hn:0<n) (h:(aH b 3 p).2.2=0):fW L (bC b (k+1) n p)=fW (L++[uQ (aH b 3 p).1]) (bC b k (n-1) (aH b 3 p).2.1):=by
 rw[bC,if_neg (by omega),if_neg (by simpa using h)];by_cases h2:(bC b k (n-1) (aH b 3 p).2.1).2.2=0;·rw[if_neg (by simpa using h2)];simp[fW,h2]
 ·rw[if_pos h2];simp[fW,h2]
theorem s0 (b:List UInt8) (L:List Pn) (k:Nat) (n p:Int) (hn:0<n) (h:(aH b 3 p).2.2≠0):fW L (bC b (k+1) n p)=([],0,(aH b 3 p).2.2):=by rw[bC,if_neg (by omega),if_pos h];simp[fW,h]
theorem tK (b:List UInt8) (L:List Pn) (k:Nat) (n p:Int) (hn:n≤0):fW L (bC b k n p)=(L,p,0):=by cases k with|zero=>simp[bC,fW]|succ k=>rw[bC,if_pos hn];simp[fW]
theorem qH {b:List UInt8}{q:Int} (h:(aH b 3 q).2.2=0):∃x y z,(aH b 3 q).1=[x,y,z]∧bQ x∧bQ y∧bQ z:=by obtain⟨h1,h2,_⟩:=iv b 3 q h;match hl:(aH b 3 q).1,h1 with|[x,y,z],_=>rw[hl]at h2;exact⟨x,y,z,rfl,h2 x (by simp),h2 y (by simp),h2 z (by simp)⟩
@[simp] noncomputable def Y2:List AV→Option (Prop×AV)|[.pv (.ro b),.pv (.int .i64 p)]=>(dec eU b).map fun l=>(l.length≤100000000∧-9223372036854775808≤p∧p≤9223372036854775807,.aQ [.fr 123 (aF (cG l p).1),.pv (.int .i64 (cG l p).2.1),.pv (.int .i64 (cG l p).2.2)])|_=>none
theorem Vc:aO Tryz.prog 54 Y2:=by
 intro ys φ r h hφ;unfold Y2 at h;split at h
 ·rename_i rb p;obtain⟨b,hb,h⟩:=Option.map_eq_some_iff.1 h;cases h;cases aU hb;obtain⟨hl8,hp1,hp2⟩:=hφ;have hl:b.length≤1000000000:=by omega
  refine aw (ag kj (ag yD (ag tC ah))) (by kernel_rfl) (by conv=>lhs;reduce) (by simp) ?_;by_cases he:(al b p).2.2=0
  ·have hT:cG b p=if(bC b (b.length+1) (al b p).1 (al b p).2.1).2.2≠0 then([],p,(bC b (b.length+1) (al b p).1 (al b p).2.1).2.2) else if eH (bC b (b.length+1) (al b p).1 (al b p).2.1).1=false then([],p,2) else bC b (b.length+1) (al b p).1 (al b p).2.1:=by unfold cG;rw[if_neg (by simpa using he)]
   obtain⟨k1,k2,k3,k4,k5⟩:=dr b p;obtain⟨j1,j2,j3⟩:=k1 he;generalize hP:cG b p=T at*;simp(config := { maxSteps := 3000000 }) [hl,hp1,hp2,he];generalize(al b p).1=n at*;generalize(al b p).2.1=q0 at*;refine aq (fun x:Nat×Int×List Pn=>(x.2.2.length:Int)≤n∧0≤x.2.1∧x.2.1≤b.length∧(b.length:Int)<x.1+x.2.1∧x.2.2.length≤x.2.1∧bC b (b.length+1) n q0=fW x.2.2 (bC b x.1 (n-x.2.2.length) x.2.1)) (fun x=>⟨[(0,.pv (.ro (bytesRow b))),(1,.pv (.int .i64 p)),(7,.pv (.int .u64 n)),(8,.pv (.int .i64 x.2.1)),(10,.own 10)],[(10,.arr 123 (aF x.2.2))]⟩) (fun x=>(b.length-x.2.1).toNat) [] (b.length+1,q0,[]) ?_ ?_ ?_;·exact⟨by simpa using k2,by show 0≤q0;omega,j3,by simp;omega,by simp;omega,by rw[tQ];simp⟩
   ·simp
   ·rintro⟨f,q,acc⟩ ⟨hn,hq0,hq1,hf,hacc,hG⟩;dsimp only at hn hq0 hq1 hf hacc hG;have wl:IntKind.u64.wrap (acc.length:Int)=(acc.length:Int):=wrap_u64 (by omega);have hq2:-9223372036854775808≤q:=by omega
    have hq3:q≤9223372036854775807:=by omega
    by_cases hlt:(acc.length:Int)<n
    ·obtain⟨f,rfl⟩:∃g,f=g+1:=⟨f-1,by omega⟩;have h3:(3:Int).toNat=3:=rfl;by_cases h0:(aH b 3 q).2.2=0
     ·obtain⟨x,y,z,hx,o1,o2,o3⟩:=qH h0;obtain⟨_,_,g3,g4⟩:=iv b 3 q h0;have g4:=(g4 (by omega)).2;have hA:cg b q 3=([x,y,z],(aH b 3 q).2.1,0):=by unfold cg;rw[if_neg (by simpa using h0),←hx,←h0]
      rw[qO b acc f (n-acc.length) q (by omega) h0,hx]at hG;have hr:bA [x,y,z]=[[.int .u64 x],[.int .u64 y],[.int .u64 z]]:=rfl;have r0:rowAt [[PV.int .u64 x],[.int .u64 y],[.int .u64 z]] 0=[.int .u64 x]:=rfl;have r1:rowAt [[PV.int .u64 x],[.int .u64 y],[.int .u64 z]] 1=[.int .u64 y]:=rfl;have r2:rowAt [[PV.int .u64 x],[.int .u64 y],[.int .u64 z]] 2=[.int .u64 z]:=rfl;simp(config := { maxSteps := 3000000 }) [wl,hlt,hl,hq2,hq3,h3,hA,hr,aB,r0,r1,r2];refine⟨by omega,f,(aH b 3 q).2.1,acc++[uQ [x,y,z]],?_⟩;have hlen:((acc++[uQ [x,y,z]]).length:Int)=acc.length+1:=by simp
      have hi:n-((acc++[uQ [x,y,z]]).length:Int)=n-acc.length-1:=by omega
      refine⟨⟨by omega,by omega,g4,by omega,by omega,by rw[hi];exact hG⟩,⟨rfl,?_⟩,by omega⟩;rw[cK];rfl
     ·have hA:cg b q 3=([],q,(aH b 3 q).2.2):=by unfold cg;rw[if_pos h0]
      rw[s0 b acc f _ q (by omega) h0]at hG;have hTe:T=([],p,(aH b 3 q).2.2):=by rw[hT,hG];simp[h0]
      simp(config := { maxSteps := 3000000 }) [wl,hlt,hl,hq2,hq3,h3,hA,h0,hTe]
    ·have hle:n-acc.length≤0:=by omega
     rw[tK b acc f _ q hle]at hG;have ha9:acc.length≤1000000000:=by omega
     by_cases hrs:eH acc=false
     ·have hTe:T=([],p,2):=by rw[hT,hG];simp[hrs]
      simp(config := { maxSteps := 3000000 }) [wl,hlt,ha9,hrs,hTe]
     ·have hrs':eH acc=true:=by simpa using hrs
      have hTe:T=(acc,q,0):=by rw[hT,hG];simp[hrs']
      simp(config := { maxSteps := 3000000 }) [wl,hlt,ha9,hrs',hTe]
  ·have hT:cG b p=([],p,(al b p).2.2):=by unfold cG;rw[if_pos he]
   simp(config := { maxSteps := 3000000 }) [hl,hp1,hp2,he,hT]
 ·cases h
end Go.Proofs.YtlmkcmfmfahcfaaGreat.Ab
