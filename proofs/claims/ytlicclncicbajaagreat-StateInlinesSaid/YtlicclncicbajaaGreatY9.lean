/- How the abstract machine reckons: objects handed over whole, maps of plain values, ranges. -/
import Derived.Test.YtlicclncicbajaaGreatY8
import Derived.Test.YtlicclncicbajaaGreatChecked
set_option linter.unusedVariables false
set_option linter.unusedSimpArgs false
set_option linter.unnecessarySimpa false
set_option maxHeartbeats 40000000
set_option maxRecDepth 100000
namespace Go.Proofs.YtlicclncicbajaaGreat.Ab.R
open Go Go.RowKit
section
variable{P:Program}{Γ:bJ}{K:St→Prop}{vs:List (Nat×AV)}{os:List (Nat×AO)}
@[simp↓] theorem MX {d:Nat}:aU (some d) .mkv [] K ⟨look vs,ab os⟩=(ab os d=none∧K ⟨put (some d) (.own d) (look vs),bp [(d,.gY [])] (ab os)⟩):=rfl
@[simp↓] theorem OL {d:Option Nat}{s:Nat}{x y z:AV}:aU d (.QU s) [x,y,z] K ⟨look vs,ab os⟩=qK d s (strip x) (strip y) (pF (strip z)) [x,y,z] K ⟨look vs,ab os⟩:=rfl
@[congr] theorem Ln {d:Option Nat}{s:Nat}{x x' y y' z z':AV}{xs:List AV}{st:St} (h1:True→x=x') (h2:True→y=y') (h3:True→z=z'):qK d s x y z xs K st=qK d s x' y' z' xs K st:=by rw[h1 trivial,h2 trivial,h3 trivial]
@[simp↓] theorem UM {d:Option Nat}{s t:Nat}{k v:PV}{xs:List AV}:qK d s (.own t) (.pv k) (.pv v) xs K ⟨look vs,ab os⟩=(ak xs∧ai (rO (ab os t)) fun es=>dk k=s∧fm s es∧K ⟨put d .au (look vs),aL t (.gY (lS k v es)) (ab os)⟩):=rfl
@[simp↓] theorem MV {d:Option Nat}{s:Nat}{z:Value}{ok:Bool}{x y:AV}:aU d (.E3 s z ok) [x,y] K ⟨look vs,ab os⟩=vh d s z ok (strip x) (strip y) [x,y] K ⟨look vs,ab os⟩:=rfl
@[simp↓] theorem YL {d:Option Nat}{s:Nat}{z:Value}{ok:Bool}{X:AV}{k:PV}{xs:List AV}:vh d s z ok X (.pv k) xs K ⟨look vs,ab os⟩=(ak xs∧ai (GI (ab os) X) fun es=>z.oneCell'=true∧dk k=s∧fm s es∧K ⟨put d (xR z ok (ln k es)) (look vs),ab os⟩):=rfl
@[simp↓] theorem NV {d:Option Nat}{s:Nat}{x y:AV}:aU d (.dlv s) [x,y] K ⟨look vs,ab os⟩=vd d s (strip x) (strip y) [x,y] K ⟨look vs,ab os⟩:=rfl
@[simp↓] theorem VQ {d:Option Nat}{s t:Nat}{k:PV}{xs:List AV}:vd d s (.own t) (.pv k) xs K ⟨look vs,ab os⟩=(ak xs∧ai (rO (ab os t)) fun es=>dk k=s∧fm s es∧K ⟨put d .au (look vs),aL t (.gY (qu k es)) (ab os)⟩):=rfl
@[simp↓] theorem KC {d:Option Nat}{ne:Bool}{x:AV}:aU d (.EB ne) [x] K ⟨look vs,ab os⟩=(ak [x]∧ai (tI (strip x)) fun b=>K ⟨put d (.pv (.bool (b !=ne))) (look vs),ab os⟩):=rfl
@[simp↓] theorem Oo {d:Option Nat}{x:AV}:aU d .YU [x] K ⟨look vs,ab os⟩=wc d (strip x) [x] K ⟨look vs,ab os⟩:=rfl
@[simp↓] theorem XV {d:Nat}{es:List (PV×PV)}{xs:List AV}:wc (some d) (.pv (.mv es)) xs K ⟨look vs,ab os⟩=(ak xs∧ab os d=none∧K ⟨put (some d) (.ptr d 0) (look vs),bp [(d,.nk es none)] (ab os)⟩):=rfl
@[simp↓] theorem P1 {d:Option Nat}{x:AV}:aU d .nxt [x] K ⟨look vs,ab os⟩=wg d (strip x) [x] K ⟨look vs,ab os⟩:=rfl
@[simp↓] theorem TX {d:Option Nat}{t:Nat}{xs:List AV}:wg d (.ptr t 0) xs K ⟨look vs,ab os⟩=(ak xs∧ai (EA (ab os t)) fun r=>(r.1=[]→K ⟨put d (.aJ [.pv (.bool false)]) (look vs),ab os⟩)∧∀(e:PV×PV) (l m:List (PV×PV)),r.1=l++e::m→K ⟨put d (.aJ [.pv (.bool true),.pv e.1,.pv e.2]) (look vs),aL t (.nk (l++m) (some e)) (ab os)⟩):=rfl
@[simp↓] theorem P4 {d:Option Nat}{x:AV}:aU d .ent [x] K ⟨look vs,ab os⟩=vN d (strip x) [x] K ⟨look vs,ab os⟩:=rfl
@[simp↓] theorem aaI {d:Option Nat}{t:Nat}{xs:List AV}:vN d (.ptr t 0) xs K ⟨look vs,ab os⟩=(ak xs∧ai (EA (ab os t)) fun r=>ai r.2 fun e=>K ⟨put d (.aJ [.pv e.1,.pv e.2]) (look vs),ab os⟩):=rfl
@[simp↓] theorem Zd {d f:Nat}{ks:List Nat}{xs:List AV}:stepG Γ (some d) f xs (some ks) K ⟨look vs,ab os⟩=(ak xs∧yo Γ d f ks (xs.map strip) (eF (ab os) ks (xs.map strip)) ((dZ ks (xs.map strip)).flatMap rM) K ⟨look vs,ab os⟩):=rfl
@[congr] theorem KM {d:Option Nat}{f:Nat}{xs xs':List AV}{o o':Option (List Nat)}{st:St} (h1:True→xs=xs') (h2:True→o=o'):stepG Γ d f xs o K st=stepG Γ d f xs' o' K st:=by rw[h1 trivial,h2 trivial]
@[simp↓] theorem QP {d f:Nat}{ks:List Nat}{xs:List AV}{T Q:List Nat}:yo Γ d f ks xs T Q K ⟨look vs,ab os⟩=(T.Nodup∧(∀t∈Q,t∈T)∧xC Γ d f ks xs T Q (T.filter fun t=>!Q.contains t) K ⟨look vs,ab os⟩):=rfl
@[simp↓] theorem SC {d f:Nat}{ks:List Nat}{xs:List AV}{T Q W:List Nat}:xC Γ d f ks xs T Q W K ⟨look vs,ab os⟩=(Q.Nodup∧ai (Bd (ab os) (eL T T (ab os)) T ks xs) fun ys=>yl Γ d f ks xs T Q W K ⟨look vs,ab os⟩ ys):=rfl
@[simp↓] theorem SV {d f:Nat}{ks:List Nat}{xs ys:List AV}{T Q W:List Nat}:yl Γ d f ks xs T Q W K ⟨look vs,ab os⟩ ys=ai (Γ (f+2000000) ys) fun x=>x.1∧(ej T ks xs=true∨∀y∈lf x.2++[kg x.2],fI 5 y)∧ai (nK (num 5 true) (lf x.2) (Q,pe d T W)) fun o=>o.1=dZ ks xs∧ai (num 5 false (kg x.2) o.2.2) fun r=>(∀p∈o.2.1++r.2.1,T.contains p.1=true∨ab os p.1=none)∧K ⟨put (some d) r.1 (gM W (look vs)),bp (o.2.1++r.2.1) (eL T W (ab os))⟩:=rfl
end
@[simp↓] theorem Z6 {P:Program}{Γ:bJ}{d:Option Nat}{s:Nat}{z:Value}{ok:Bool}{x y:AV}{aa:Nat→Option AO}{C:bA→Prop}:aX P Γ d (.ex (.E3 s z ok)) [x,y] aa C=(ak [x,y]∧ai (aj (.ex (.E3 s z ok)) [strip x,strip y] aa) fun r=>r.1∧C (.put r.2)):=rfl
@[simp↓] theorem SX {P:Program}{Γ:bJ}{d:Option Nat}{e:TypeId}{sz:Nat}{xs:List AV}{aa:Nat→Option AO}{C:bA→Prop}:aX P Γ d (.ex (.mJ e sz)) xs aa C=(ak xs∧ai (aj (.ex (.mJ e sz)) (xs.map strip) aa) fun r=>r.1∧C (.put r.2)):=rfl
@[simp↓] theorem Qm {P:Program}{Γ:bJ}{d:Option Nat}{e:TypeId}{sz:Nat}{xs:List AV}{aa:Nat→Option AO}{C:bA→Prop}{c:Bool}:cd P Γ c d (.ex (.mJ e sz)) xs aa C=ai (aj (.ex (.mJ e sz)) (xs.map strip) aa) fun x=>(c=true→ak xs∧x.1)∧C (.put (.bY c x.2)):=rfl
@[simp] theorem Qy {e:TypeId}{sz:Nat}{xs:List AV}{aa:Nat→Option AO}:aj (.ex (.mJ e sz)) xs aa=(rowsOf xs).map fun rows=>(∀r∈rows,r.length=sz,.pv (.ro rows)):=nr (by unfold aj;rfl)
@[simp] theorem Uq {s:Nat}{z:Value}{ok:Bool}{es:List (PV×PV)}{k:PV}{aa:Nat→Option AO}:aj (.ex (.E3 s z ok)) [.pv (.mv es),.pv k] aa=some (z.oneCell'=true∧dk k=s∧fm s es,xR z ok (ln k es)):=nr rfl
@[simp] theorem Xx (k v:PV):lS k v []=[(k,v)]:=nr rfl
@[simp] theorem Uj (k k':IntKind) (a b:Int) (v x:PV) (l:List (PV×PV)):lS (.int k a) v ((.int k' b,x)::l)=if a=b then(.int k a,v)::l else(.int k' b,x)::lS (.int k a) v l:=by simp[lS,mm]
@[simp] theorem GP (k k':IntKind) (a b:Int) (x:PV) (l:List (PV×PV)):ln (.int k a) ((.int k' b,x)::l)=if a=b then some x else ln (.int k a) l:=by simp[ln,mm]
@[simp] theorem BM (s:Nat) (e:PV×PV) (l:List (PV×PV)):fm s (e::l)=(dk e.1=s∧fm s l):=by simp[fm]
@[simp] theorem QO {f:FuncId}{args:List AV}:kR (.pv (.val (.func (.func f) #[] #[]))::args)=some (f,args):=nr rfl
@[simp] theorem shP_own (t s:Nat) (es:List (PV×PV)):WJ t es (.own s)=if s=t then .pv (.mv es) else .own s:=nr rfl
@[simp] theorem pubM_eq (vs:List (Nat×AV)) (os:List (Nat×AO)) (t:Nat):Ac t ⟨look vs,ab os⟩=match rO (ab os t) with|some es=>⟨look (vs.map fun x=>(x.1,WJ t es x.2)),ab (Ki t os)⟩|none=>⟨look vs,ab os⟩:=by unfold Ac;dsimp only;cases rO (ab os t) with|none=>rfl|some es=>dsimp only;rw[sq];congr 1;funext s;induction vs with|nil=>rfl|cons x l ih=>
 simp only[List.map_cons,look];split;·rfl
 ·exact ih
@[simp] theorem Rz (es:List (PV×PV)):rO (some (.gY es))=some es:=nr rfl
@[simp] theorem gotV_t (z:Value) (o:Option PV):xR z true o=.aJ [.pv (o.getD (rE z)),.pv (.bool o.isSome)]:=nr rfl
@[simp] theorem RF (s:Nat):fm s []=True:=by simp[fm]
@[simp] theorem Vr (k:PV):ln k []=none:=nr rfl
@[simp] theorem rdO_arr (e:TypeId) (rows:List (List PV)):RR (some (.arr e rows))=some (.fr e rows):=nr rfl
@[simp] theorem rdW_nil (f:AV→Option (AV×List Nat)):E7 f []=some ([],[]):=nr rfl
@[simp] theorem XT (f:AV→Option (AV×List Nat)) (c:AV) (cs:List AV):E7 f (c::cs)=(f c).bind fun r=>(E7 f cs).map fun q=>(r.1::q.1,r.2++q.2):=nr rfl
@[simp] theorem rd_own (n:Nat) (aa:Nat→Option AO) (t:Nat):rd (n+1) aa (.own t)=(RR (aa t)).map fun y=>(y,[t]):=nr rfl
@[simp] theorem rd_ptr (n:Nat) (aa:Nat→Option AO) (t:Nat):rd (n+1) aa (.ptr t 0)=(eK (aa t)).bind fun cs=>(E7 (rd n aa) cs).map fun r=>(.bx r.1,t::r.2):=nr rfl
@[simp] theorem rd_agg (n:Nat) (aa:Nat→Option AO) (cs:List AV):rd (n+1) aa (.agg cs)=(E7 (rd n aa) cs).map fun r=>(.agg r.1,r.2):=nr rfl
@[simp] theorem rd_pv (n:Nat) (aa:Nat→Option AO) (p:PV):rd (n+1) aa (.pv p)=some (.pv p,[]):=nr rfl
@[simp] theorem tk_t (p:Nat) (ps us:List Nat):tk true (p::ps,us)=some (p,ps,us):=nr rfl
@[simp] theorem tk_f (u:Nat) (ps us:List Nat):tk false (ps,u::us)=some (u,ps,us):=nr rfl
@[simp] theorem Wu (f:AV→List Nat×List Nat→Option (AV×List (Nat×AO)×List Nat×List Nat)) (s:List Nat×List Nat):nK f [] s=some ([],[],s):=nr rfl
@[simp] theorem SN (f:AV→List Nat×List Nat→Option (AV×List (Nat×AO)×List Nat×List Nat)) (c:AV) (cs:List AV) (s:List Nat×List Nat):nK f (c::cs) s=(f c s).bind fun r=>(nK f cs r.2.2).map fun q=>(r.1::q.1,r.2.1++q.2.1,q.2.2):=nr rfl
@[simp] theorem num_fr (n:Nat) (top:Bool) (e:TypeId) (rows:List (List PV)) (s:List Nat×List Nat):num (n+1) top (.fr e rows) s=(tk top s).map fun q=>(.own q.1,[(q.1,.arr e rows)],q.2):=nr rfl
@[simp] theorem num_bx (n:Nat) (top:Bool) (cs:List AV) (s:List Nat×List Nat):num (n+1) top (.bx cs) s=(tk top s).bind fun q=>(nK (num n false) cs q.2).map fun r=>(.ptr q.1 0,(q.1,.box r.1)::r.2.1,r.2.2):=nr rfl
@[simp] theorem num_agg (n:Nat) (top:Bool) (cs:List AV) (s:List Nat×List Nat):num (n+1) top (.agg cs) s=(nK (num n top) cs s).map fun r=>(.agg r.1,r.2):=nr rfl
@[simp] theorem num_tup (n:Nat) (top:Bool) (cs:List AV) (s:List Nat×List Nat):num (n+1) top (.aJ cs) s=(nK (num n top) cs s).map fun r=>(.aJ r.1,r.2):=nr rfl
@[simp] theorem num_pv (n:Nat) (top:Bool) (p:PV) (s:List Nat×List Nat):num (n+1) top (.pv p) s=some (.pv p,[],s):=nr rfl
@[simp] theorem Ul (t:Nat):rM (.own t)=[t]:=nr rfl
@[simp] theorem Yu (t:Nat):rM (.ptr t 0)=[t]:=nr rfl
@[simp] theorem ysG_nil (aa objs':Nat→Option AO) (T:List Nat):Bd aa objs' T [] []=some []:=nr rfl
@[simp] theorem ysG_0 (aa objs':Nat→Option AO) (T ks:List Nat) (x:AV) (xs:List AV):Bd aa objs' T (0::ks) (x::xs)=(oL objs' (eT T x)).bind fun y=>(Bd aa objs' T ks xs).map (y::·):=nr rfl
@[simp] theorem ysG_1 (aa objs':Nat→Option AO) (T ks:List Nat) (x:AV) (xs:List AV):Bd aa objs' T (1::ks) (x::xs)=((rd 5 aa x).map (·.1)).bind fun y=>(Bd aa objs' T ks xs).map (y::·):=nr rfl
@[simp] theorem ysG_2 (aa objs':Nat→Option AO) (T ks:List Nat) (x:AV) (xs:List AV):Bd aa objs' T (2::ks) (x::xs)=((rd 5 aa x).map fun r=>.aJ [r.1]).bind fun y=>(Bd aa objs' T ks xs).map (y::·):=nr rfl
@[simp] theorem TN (aa:Nat→Option AO):eF aa [] []=[]:=nr rfl
@[simp] theorem tagsG_0 (aa:Nat→Option AO) (ks:List Nat) (x:AV) (xs:List AV):eF aa (0::ks) (x::xs)=eF aa ks xs:=nr rfl
@[simp] theorem tagsG_1 (aa:Nat→Option AO) (ks:List Nat) (x:AV) (xs:List AV):eF aa (1::ks) (x::xs)=((rd 5 aa x).map (·.2)).getD []++eF aa ks xs:=nr rfl
@[simp] theorem tagsG_2 (aa:Nat→Option AO) (ks:List Nat) (x:AV) (xs:List AV):eF aa (2::ks) (x::xs)=((rd 5 aa x).map (·.2)).getD []++eF aa ks xs:=nr rfl
@[simp] theorem TG:dZ [] []=[]:=nr rfl
@[simp] theorem lentG_0 (ks:List Nat) (x:AV) (xs:List AV):dZ (0::ks) (x::xs)=dZ ks xs:=nr rfl
@[simp] theorem lentG_1 (ks:List Nat) (x:AV) (xs:List AV):dZ (1::ks) (x::xs)=dZ ks xs:=nr rfl
@[simp] theorem lentG_2 (ks:List Nat) (x:AV) (xs:List AV):dZ (2::ks) (x::xs)=x::dZ ks xs:=nr rfl
@[simp] theorem Pm (T:List Nat):ej T [] []=true:=nr rfl
@[simp] theorem Xp (T ks:List Nat) (x:AV) (xs:List AV):ej T (0::ks) (x::xs)=(ed (eT T x)&&ej T ks xs):=nr rfl
@[simp] theorem WV (T ks:List Nat) (x:AV) (xs:List AV):ej T (1::ks) (x::xs)=ej T ks xs:=nr rfl
@[simp] theorem YF (T ks:List Nat) (x:AV) (xs:List AV):ej T (2::ks) (x::xs)=ej T ks xs:=nr rfl
@[simp] theorem VW (n:Nat) (e:TypeId) (rows:List (List PV)):fI (n+1) (.fr e rows)=bz rows:=nr rfl
@[simp] theorem Uo (n:Nat) (cs:List AV):fI (n+1) (.bx cs)=∀c∈cs,fI n c:=nr rfl
@[simp] theorem S5 (n:Nat) (cs:List AV):fI (n+1) (.agg cs)=∀c∈cs,fI n c:=nr rfl
@[simp] theorem R8 (n:Nat) (cs:List AV):fI (n+1) (.aJ cs)=∀c∈cs,fI n c:=nr rfl
@[simp] theorem Ve (n:Nat) (p:PV):fI (n+1) (.pv p)=(gR p=true):=nr rfl
@[simp] theorem YR (n:Nat) (r:AV) (l:List AV):lf (.bo n (r::l))=l:=nr rfl
@[simp] theorem YV (n:Nat) (r:AV) (l:List AV):kg (.bo n (r::l))=r:=nr rfl
@[simp] theorem ksOf_rp (l:List PV):OS (.rp l)=some (l.map fun p=>match p with|.int _ n=>n.toNat|_=>0):=nr rfl
@[simp] theorem UX (d:Nat) (T W:List Nat):pe d T W=W.filter (fun t=>t%1000 !=999)++[d,d+1000,d+2000,d+3000,d+4000,d+5000,d+6000,d+7000].filter fun t=>!T.contains t:=nr rfl
@[simp] theorem VO (x:AV):eT [] x=x:=nr rfl
@[simp] theorem QF (t:Nat) (W:List Nat) (x:AV):eT (t::W) x=kO (t::W) x:=nr rfl
@[simp] theorem RK (W:List Nat) (g:Bool) (v:AV):kO W (.bY g v)=.bY g (kO W v):=nr rfl
@[simp] theorem Rv (W:List Nat) (cs:List AV):kO W (.agg cs)=.agg (cs.map (ec W)):=nr rfl
@[simp] theorem Sj (W:List Nat) (t o:Nat):kO W (.ptr t o)=ec W (.ptr t o):=nr rfl
@[simp] theorem UR (W:List Nat) (p:PV):kO W (.pv p)=.pv p:=nr rfl
@[simp] theorem PD (W:List Nat):kO W .au=.au:=nr rfl
@[simp] theorem QC (W:List Nat) (t:Nat):ec W (.own t)=if W.contains t then .au else .own t:=nr rfl
@[simp] theorem Qi (W:List Nat) (t o:Nat):ec W (.ptr t o)=if W.contains t then .au else .ptr t o:=nr rfl
@[simp] theorem TZ (W:List Nat) (p:PV):ec W (.pv p)=.pv p:=nr rfl
@[simp] theorem S7 (o:AO):jj [] o=o:=nr rfl
@[simp] theorem PT (t:Nat) (W:List Nat) (o:AO):jj (t::W) o=xS (t::W) o:=nr rfl
@[simp] theorem N5 (W:List Nat) (cs:List AV):xS W (.box cs)=.box (cs.map (ec W)):=nr rfl
@[simp] theorem Pj (W:List Nat) (e:TypeId) (rows:List (List PV)):xS W (.arr e rows)=.arr e rows:=nr rfl
@[simp] theorem NY (W:List Nat) (l:List (Nat×AV)):gM W (look l)=look (l.map fun x=>(x.1,eT W x.2)):=by funext s;unfold gM;induction l with|nil=>show eT W .au=.au;unfold eT;split<;>rfl|cons x l ih=>
 obtain⟨k,v⟩:=x;simp only[List.map_cons,look];split;·rfl
 ·exact ih
def LU (T W:List Nat):List (Nat×AO)→List (Nat×AO)|[]=>[]|x::l=>if T.contains x.1=true then LU T W l else(x.1,jj W x.2)::LU T W l
@[simp] theorem rmG_nil (T W:List Nat):LU T W []=[]:=nr rfl
@[simp] theorem G1 (T W:List Nat) (s:Nat) (o:AO) (l:List (Nat×AO)):LU T W ((s,o)::l)=if T.contains s=true then LU T W l else(s,jj W o)::LU T W l:=nr rfl
@[simp] theorem MK (T W:List Nat) (l:List (Nat×AO)):eL T W (ab l)=ab (LU T W l):=by funext s;unfold eL;induction l with|nil=>simp[LU,ab]|cons x l ih=>
 obtain⟨k,v⟩:=x;simp only[G1,ab];by_cases hs:T.contains s=true
 ·rw[if_pos hs]at ih ⊢;by_cases hk:T.contains k=true;·rw[if_pos hk];exact ih
  ·have:¬s=k:=fun e=>hk (e▸hs);rw[if_neg hk];simp only[ab,if_neg this];exact ih
 ·rw[if_neg hs]at ih ⊢;by_cases hsk:s=k;·subst hsk;rw[if_neg hs];simp[ab]
  ·rw[if_neg hsk];by_cases hk:T.contains k=true;·rw[if_pos hk];exact ih
   ·rw[if_neg hk];simp only[ab,if_neg hsk];exact ih
@[simp] theorem CG (cs:List AV):Gq (.agg cs)=cs.any fun c=>match c with|.bx _|.mf _=>true|_=>false:=nr rfl
@[simp] theorem trC_pv (p:PV):Gq (.pv p)=false:=nr rfl
@[simp] theorem trC_fr (e:TypeId) (rows:List (List PV)):Gq (.fr e rows)=false:=nr rfl
@[simp] theorem trR_tup (vs:List AV):nZ (.aJ vs)=vs.any Gq:=nr rfl
@[simp] theorem trR_agg (cs:List AV):nZ (.agg cs)=Gq (.agg cs):=nr rfl
@[simp] theorem trR_pv (p:PV):nZ (.pv p)=false:=nr rfl
@[simp] theorem trR_fr (e:TypeId) (rows:List (List PV)):nZ (.fr e rows)=false:=nr rfl
@[simp] theorem Yf (r:AV):qS r=if nZ r=true then fI 5 r else flat r:=nr rfl
@[simp] theorem newO_eq (d:Nat) (r:AV):jZ d r=if nZ r=true then(((num 5 false r ([],jX d)).map (·.2.1)).getD []) else aM d r:=nr rfl
@[simp] theorem newV_eq (d:Nat) (r:AV):yK d r=if nZ r=true then(((num 5 false r ([],jX d)).map (·.1)).getD .au) else cI (kW d) r:=nr rfl
@[simp] theorem resR_eq (d:Nat) (r:AV):yS d r=if nZ r=true then(num 5 false r ([],jX d)).isSome else cP r:=nr rfl
@[simp] theorem T8 (d:Nat):jX d=[d,d+1000,d+2000,d+3000,d+4000,d+5000,d+6000,d+7000]:=nr rfl
@[congr] theorem Kb {P:Program}{rs:List (Nat×Option (Option Nat))}{L:List AV}{x:AV}{st st':St} (h:True→st=st'):pH P rs L x st=pH P rs L x st':=by rw[h trivial]
@[congr] theorem LH {P:Program}{rs:List (Nat×Option (Option Nat))}{L:List AV}{x:AV}{st st':St} (h:True→st=st'):qJ P rs L x st=qJ P rs L x st':=by rw[h trivial]
section
variable{P:Program}{aa:Nat→Option AO}
@[simp] theorem mtW_nil (f:AV→AV→Prop):uH f [] []=True:=nr rfl
@[simp] theorem mtW_cons (f:AV→AV→Prop) (c y:AV) (cs ys:List AV):uH f (c::cs) (y::ys)=(f c y∧uH f cs ys):=nr rfl
@[simp] theorem mt_fr (n:Nat) (x:AV) (e:TypeId) (rows:List (List PV)):mt P aa (n+1) x (.fr e rows)=uR P aa x (.fr e rows):=nr rfl
@[simp] theorem mt_bx (n t:Nat) (cs:List AV):mt P aa (n+1) (.ptr t 0) (.bx cs)=ai (eK (aa t)) fun l=>uH (mt P aa n) l cs:=by
 show(∃t' l,AV.ptr t 0=.ptr t' 0∧aa t'=some (.box l)∧uH (mt P aa n) l cs)=_;apply propext;constructor;·rintro⟨t',l,h,h',h''⟩;cases h;rw[h'];exact h''
 ·intro h;obtain⟨l,hl,h⟩:=ae h;exact⟨t,l,rfl,fk hl,h⟩
@[simp] theorem mt_agg (n:Nat) (l cs:List AV):mt P aa (n+1) (.agg l) (.agg cs)=uH (mt P aa n) l cs:=by show(∃l',AV.agg l=.agg l'∧uH (mt P aa n) l' cs)=_;apply propext;exact⟨fun⟨_,h,h'⟩=>by cases h;exact h',fun h=>⟨l,rfl,h⟩⟩
@[simp] theorem mt_tup (n:Nat) (l cs:List AV):mt P aa (n+1) (.aJ l) (.aJ cs)=uH (mt P aa n) l cs:=by show(∃l',AV.aJ l=.aJ l'∧uH (mt P aa n) l' cs)=_;apply propext;exact⟨fun⟨_,h,h'⟩=>by cases h;exact h',fun h=>⟨l,rfl,h⟩⟩
@[simp] theorem mt_pv (n:Nat) (x:AV) (p:PV):mt P aa (n+1) x (.pv p)=(x=.pv p):=nr rfl
@[simp] theorem tg_own (n t:Nat):tg aa (n+1) (.own t)=[t]:=nr rfl
@[simp] theorem tg_ptr (n t:Nat):tg aa (n+1) (.ptr t 0)=t::((eK (aa t)).getD []).flatMap (tg aa n):=nr rfl
@[simp] theorem tg_agg (n:Nat) (cs:List AV):tg aa (n+1) (.agg cs)=cs.flatMap (tg aa n):=nr rfl
@[simp] theorem tg_tup (n:Nat) (cs:List AV):tg aa (n+1) (.aJ cs)=cs.flatMap (tg aa n):=nr rfl
@[simp] theorem tg_pv (n:Nat) (p:PV):tg aa (n+1) (.pv p)=[]:=nr rfl
end
def Ea (ks:List Nat) (G:List AV→Option (Prop×AV)) (ys:List AV):Option (Prop×AV):=match ys with|[.au]=>some (True,.rp (ks.map fun k:Nat=>PV.int .i64 (k:Int)))|ys=>G ys
def dr (P:Program) (f:FuncId) (G:List AV→Option (Prop×AV)):Prop:=∀ys φ r,G ys=some (φ,r)→φ→Bv P f ys r
@[simp] theorem Q2 (ks:List Nat) (G:List AV→Option (Prop×AV)):Ea ks G [.au]=some (True,.rp (ks.map fun k:Nat=>PV.int .i64 (k:Int))):=nr rfl
@[simp] theorem tabG_pv (ks:List Nat) (G:List AV→Option (Prop×AV)) (q:PV) (l:List AV):Ea ks G (.pv q::l)=G (.pv q::l):=nr rfl
@[simp] theorem tabG_tup (ks:List Nat) (G:List AV→Option (Prop×AV)) (q l:List AV):Ea ks G (.aJ q::l)=G (.aJ q::l):=nr rfl
@[simp] theorem UT (ks:List Nat) (G:List AV→Option (Prop×AV)) (q l:List AV):Ea ks G (.agg q::l)=G (.agg q::l):=nr rfl
@[simp↓] theorem gt_eq (Γ:bJ) (f:FuncId) (ys:List AV):gt Γ f ys=Rj (Γ f ys) (Γ (f+3000000) ys):=rfl
@[congr] theorem Th {a a' b:Option (Prop×AV)} (h:True→a=a'):Rj a b=Rj a' b:=by rw[h trivial]
@[simp↓] theorem gtO_some (x:Prop×AV) (y:Option (Prop×AV)):Rj (some x) y=some (x.1∧nZ x.2=false,x.2):=rfl
@[simp↓] theorem Yl (y:Option (Prop×AV)):Rj none y=y.map fun x=>(x.1∧nZ x.2=true,x.2):=rfl
section
variable{P:Program}{Γ:bJ}{vs:List (Nat×AV)}{os:List (Nat×AO)}{K:St→Prop}{rs:List (Nat×Option (Option Nat))}{r:AV}{aa:Nat→Option AO}{C:List AV→Prop}
@[simp↓] theorem aax:zi K .ret ⟨look vs,ab os⟩=K ⟨look vs,ab os⟩:=rfl
@[simp↓] theorem SY {id:Nat}:zi K (.exit id) ⟨look vs,ab os⟩=False:=rfl
@[simp↓] theorem Ends_eq {r:AV}:Ends P rs r ⟨look vs,ab os⟩=cE ⟨look vs,ab os⟩ rs fun xs=>vg P rs r (cu (mI (bG xs) r) ⟨look vs,ab os⟩):=rfl
@[congr] theorem Kx {st st':St}{r:AV} (h:True→st=st'):vg P rs r st=vg P rs r st':=by rw[h trivial]
@[simp↓] theorem Vu {r:AV}{hout:List (Nat×AO)}:m0 P rs r hout ⟨look vs,ab os⟩=cE ⟨look vs,ab os⟩ rs fun xs=>nq P rs r hout (cu (mI (bG xs) r) ⟨look vs,ab os⟩):=rfl
@[congr] theorem Km {st st':St}{r:AV}{hout:List (Nat×AO)} (h:True→st=st'):nq P rs r hout st=nq P rs r hout st':=by rw[h trivial]
@[simp↓] theorem Rh {r:AV}{hout:List (Nat×AO)}:nq P rs r hout ⟨look vs,ab os⟩=cE ⟨look vs,ab os⟩ rs fun xs=>fz P (ab os) (bG xs) r∧kq (pl (bG xs))∧lR (ab os) (pl (bG xs)) hout:=rfl
@[simp] theorem P6 (l:List (Nat×Nat)):lR aa l []=True:=nr rfl
@[simp] theorem K9 (l:List (Nat×Nat)) (x:Nat×AO) (hout:List (Nat×AO)):lR aa l (x::hout)=(aa x.1=some x.2∧(∀y∈l,y.2≠x.1)∧lR aa l hout):=nr rfl
@[simp] theorem mkA_fr (e:TypeId) (rows:List (List PV)):FO (.fr e rows)=.own 998:=nr rfl
@[simp] theorem mkA_tup (e:TypeId) (rows:List (List PV)):FO (.aJ [.fr e rows])=.own 999:=nr rfl
@[simp] theorem mkA_pv (p:PV):FO (.pv p)=.pv p:=nr rfl
@[simp] theorem mkA_clo (f:FuncId) (l:List AV):FO (.bo f l)=.bo f l:=nr rfl
@[simp] theorem mkO_nil:lI []=[]:=nr rfl
@[simp] theorem mkO_fr (e:TypeId) (rows:List (List PV)) (l:List AV):lI (.fr e rows::l)=[(998,.arr e rows)]:=nr rfl
@[simp] theorem mkO_tup (e:TypeId) (rows:List (List PV)) (l:List AV):lI (.aJ [.fr e rows]::l)=[(999,.arr e rows)]:=nr rfl
@[simp] theorem mkO_pv (p:PV) (l:List AV):lI (.pv p::l)=lI l:=nr rfl
@[simp↓] theorem Zu {r:AV}:vg P rs r ⟨look vs,ab os⟩=cE ⟨look vs,ab os⟩ rs fun xs=>fz P (ab os) (bG xs) r∧kq (pl (bG xs)):=rfl
@[simp↓] theorem XR {L:List AV}{x:AV}:qJ P rs L x ⟨look vs,ab os⟩=cE ⟨look vs,ab os⟩ rs fun xs=>pH P rs L x (cu (mI (bG xs) (kg x)) ⟨look vs,ab os⟩):=rfl
@[simp↓] theorem TO {L:List AV}{x:AV}:pH P rs L x ⟨look vs,ab os⟩=cE ⟨look vs,ab os⟩ rs fun xs=>mt P (ab os) 6 (bG xs) (kg x)∧uH (mt P (ab os) 5) L (lf x)∧(L.flatMap (tg (ab os) 5)++tg (ab os) 6 (bG xs)).Nodup:=rfl
@[simp] theorem XH {f:FuncId}:iN Γ f=(Γ (f+2000000) [.au]).bind fun x=>OS x.2:=nr rfl
@[simp] theorem all_or {k:Nat}{o:AO}{R:Nat→AO→Prop}{p:Nat→AO→Prop}:(∀a b,a=k∧b=o∨R a b→p a b)=(p k o∧∀a b,R a b→p a b):=propext ⟨fun h=>⟨h k o (.inl ⟨rfl,rfl⟩),fun a b r=>h a b (.inr r)⟩,fun h a b r=>by
 rcases r with⟨rfl,rfl⟩|r;·exact h.1
 ·exact h.2 a b r⟩
@[simp] theorem Y6 {α:Type} (l:List α):eg [] l=[]:=nr rfl
@[simp] theorem WB {α:Type} (y:AV) (ys:List AV) (v:α) (l:List α):eg (.aJ [y]::ys) (v::l)=v::eg ys l:=nr rfl
@[simp] theorem lent_pv {α:Type} (p:PV) (ys:List AV) (v:α) (l:List α):eg (.pv p::ys) (v::l)=eg ys l:=nr rfl
@[simp] theorem lent_agg {α:Type} (cs ys:List AV) (v:α) (l:List α):eg (.agg cs::ys) (v::l)=eg ys l:=nr rfl
@[simp] theorem Su (t:Nat):um (.own t)=true:=nr rfl
@[simp] theorem QY (t:Nat):um (.ptr t 0)=true:=nr rfl
@[simp] theorem pubs_tup (vs rs:List AV):mI (.aJ vs) (.aJ rs)=vG vs rs:=nr rfl
@[simp] theorem pubs_agg (vs:List AV) (r:AV):mI (.agg vs) r=Bl (.agg vs) r:=by cases r<;>rfl
@[simp] theorem pubs_pv (p:PV) (r:AV):mI (.pv p) r=qv (.pv p) r:=by cases r<;>rfl
@[simp] theorem K0 (t:Nat) (e:TypeId) (rows:List (List PV)):mI (.own t) (.fr e rows)=[]:=nr rfl
@[simp] theorem QB:vG [] []=[]:=nr rfl
@[simp] theorem Mv (c r:AV) (cs rs:List AV):vG (c::cs) (r::rs)=Bl c r++vG cs rs:=nr rfl
@[simp] theorem Sh:tj [] []=[]:=nr rfl
@[simp] theorem Pf (c r:AV) (cs rs:List AV):tj (c::cs) (r::rs)=qv c r++tj cs rs:=nr rfl
@[simp] theorem pub1_agg (cs rs:List AV):Bl (.agg cs) (.agg rs)=tj cs rs:=nr rfl
@[simp] theorem pub1_pv (p:PV) (r:AV):Bl (.pv p) r=qv (.pv p) r:=by cases r<;>rfl
@[simp] theorem VS (t:Nat) (r:AV):Bl (.own t) r=qv (.own t) r:=by cases r<;>rfl
@[simp] theorem LP (t:Nat) (e:TypeId) (rows:List (List PV)):qv (.own t) (.fr e rows)=[]:=nr rfl
@[simp] theorem Lw (t:Nat) (rows:List (List PV)):qv (.own t) (.pv (.ro rows))=[t]:=nr rfl
@[simp] theorem Li (t:Nat) (es:List (PV×PV)):mI (.own t) (.pv (.mv es))=[t+1000000000000000]:=nr rfl
@[simp] theorem M5 (rows:List (List PV)):qv (.pv .nil) (.pv (.ro rows))=[999996]:=nr rfl
@[simp] theorem Ql (p:PV):qv (.pv p) (.pv p)=[]:=by cases p<;>rfl
@[simp] theorem Rr (p:PV) (k:IntKind) (n:Int):qv (.pv p) (.pv (.int k n))=[]:=by cases p<;>rfl
@[simp] theorem OK (p:PV) (b:Bool):qv (.pv p) (.pv (.bool b))=[]:=by cases p<;>rfl
@[simp] theorem Z7 (p:PV) (e:TypeId) (rows:List (List PV)):qv (.pv p) (.fr e rows)=[]:=by cases p<;>rfl
@[simp↓] theorem L1:cE ⟨look vs,ab os⟩ [] C=C []:=rfl
@[simp↓] theorem LL {t:Nat}:cE ⟨look vs,ab os⟩ ((t,none)::rs) C=cE ⟨look vs,ab os⟩ rs fun xs=>C (look vs t::xs):=rfl
@[simp↓] theorem I4 {t:Nat}{n:Option Nat}:cE ⟨look vs,ab os⟩ ((t,some n)::rs) C=ai (aj (.load n) [look vs t] (ab os)) fun x=>x.1∧cE ⟨look vs,ab os⟩ rs fun xs=>C (x.2::xs):=rfl
@[simp] theorem Me:bG []=.aJ []:=nr rfl
@[simp] theorem Kq (v:AV):bG [v]=v:=nr rfl
@[simp] theorem KS (v u:AV) (l:List AV):bG (v::u::l)=.aJ (v::u::l):=nr rfl
@[simp] theorem aar (i:Nat):nf i []=[]:=nr rfl
@[simp] theorem SL (i:Nat) (v:AV) (l:List AV):nf i (v::l)=(i,v)::nf (i+1) l:=nr rfl
@[simp] theorem fzC_own (t:Nat) (e:TypeId) (rows:List (List PV)):uR P aa (.own t) (.fr e rows)=(aa t=some (.arr e rows)):=by
 apply propext;constructor
 ·rintro(⟨s,h,h2⟩|⟨h,_⟩|⟨_,_,_,h,_⟩);·cases h;exact h2
  ·cases h
  ·cases h
 ·exact fun h=>.inl ⟨t,rfl,h⟩
@[simp] theorem fzC_sub (t:Nat) (e e1:TypeId) (hi:Nat) (rows:List (List PV)):uR P aa (.sub t e1 0 hi) (.fr e rows)=(e1=e∧∃rs,aa t=some (.arr e rs)∧rows=rs.take hi):=by
 apply propext;constructor
 ·rintro(⟨s,h,h2⟩|⟨h,_⟩|⟨s,hi',rs,h,h2,h3⟩);·cases h
  ·cases h
  ·cases h;exact⟨rfl,rs,h2,h3⟩
 ·rintro⟨rfl,rs,h2,h3⟩;exact .inr (.inr ⟨t,hi,rs,rfl,h2,h3⟩)
@[simp] theorem fz_sub (t:Nat) (e:TypeId) (lo hi:Nat) (r:AV):fz P aa (.sub t e lo hi) r=uR P aa (.sub t e lo hi) r:=nr rfl
@[simp] theorem Wh (t:Nat) (e:TypeId) (lo hi:Nat) (r:AV):mI (.sub t e lo hi) r=[]:=by cases r<;>rfl
@[simp] theorem fzC_nil (e:TypeId) (rows:List (List PV)):uR P aa (.pv .nil) (.fr e rows)=(rows=[]∧(P.info? e).isSome=true):=by
 apply propext;constructor
 ·rintro(⟨s,h,h2⟩|⟨_,h⟩|⟨_,_,_,h,_⟩);·cases h
  ·exact h
  ·cases h
 ·exact fun h=>.inr (.inl ⟨rfl,h⟩)
@[simp] theorem fzC_pv (p q:PV):uR P aa (.pv p) (.pv q)=(p=q):=by
 apply propext;constructor;·rintro⟨h,_⟩;cases h;rfl
 ·rintro rfl;exact⟨rfl,rfl⟩
@[simp] theorem VM:wS P aa [] []=True:=nr rfl
@[simp] theorem Qv (c d:AV) (cs ds:List AV):wS P aa (c::cs) (d::ds)=(uR P aa c d∧wS P aa cs ds):=nr rfl
@[simp] theorem fz1_agg (cs ds:List AV):Cg P aa (.agg cs) (.agg ds)=wS P aa cs ds:=nr rfl
@[simp] theorem fz1_pv (p:PV) (r:AV):Cg P aa (.pv p) r=uR P aa (.pv p) r:=nr rfl
@[simp] theorem fz1_own (t:Nat) (r:AV):Cg P aa (.own t) r=uR P aa (.own t) r:=nr rfl
@[simp] theorem Z9:yE P aa [] []=True:=nr rfl
@[simp] theorem Qp (c d:AV) (cs ds:List AV):yE P aa (c::cs) (d::ds)=(Cg P aa c d∧yE P aa cs ds):=nr rfl
@[simp] theorem fz_tup (cs ds:List AV):fz P aa (.aJ cs) (.aJ ds)=(cs.length≤1000∧yE P aa cs ds):=nr rfl
@[simp] theorem fz_agg (cs:List AV) (r:AV):fz P aa (.agg cs) r=Cg P aa (.agg cs) r:=nr rfl
@[simp] theorem fz_pv (p:PV) (r:AV):fz P aa (.pv p) r=uR P aa (.pv p) r:=nr rfl
@[simp] theorem fz_own (t:Nat) (r:AV):fz P aa (.own t) r=uR P aa (.own t) r:=nr rfl
@[simp] theorem Xg (j:Nat):qd j []=[]:=nr rfl
@[simp] theorem aak (j t:Nat) (cs:List AV):qd j (.own t::cs)=(1000*j,t)::qd (j+1) cs:=nr rfl
@[simp] theorem pl_sub (t:Nat) (e:TypeId) (lo hi:Nat):pl (.sub t e lo hi)=[(0,t)]:=nr rfl
@[simp] theorem plCs_pv (j:Nat) (p:PV) (cs:List AV):qd j (.pv p::cs)=qd (j+1) cs:=nr rfl
@[simp] theorem pl1_agg (cs:List AV):Mw (.agg cs)=qd 0 cs:=nr rfl
@[simp] theorem pl1_own (t:Nat):Mw (.own t)=[(0,t)]:=nr rfl
@[simp] theorem pl1_pv (p:PV):Mw (.pv p)=[]:=nr rfl
@[simp] theorem plVs_nil (i:Nat):BL i []=[]:=nr rfl
@[simp] theorem Ri (i:Nat) (v:AV) (vs:List AV):BL i (v::vs)=(Mw v).map (fun x=>(x.1+i,x.2))++BL (i+1) vs:=nr rfl
@[simp] theorem pl_tup (vs:List AV):pl (.aJ vs)=BL 0 vs:=nr rfl
@[simp] theorem pl_agg (cs:List AV):pl (.agg cs)=qd 0 cs:=nr rfl
@[simp] theorem pl_own (t:Nat):pl (.own t)=[(0,t)]:=nr rfl
@[simp] theorem pl_pv (p:PV):pl (.pv p)=[]:=nr rfl
@[simp] theorem OC:kq []=True:=nr rfl
@[simp] theorem KJ (x:Nat×Nat) (l:List (Nat×Nat)):kq (x::l)=((∀y∈l,y.2≠x.2)∧kq l):=nr rfl
end
section
variable{P:Program}{Γ:bJ}{vs:List (Nat×AV)}{os:List (Nat×AO)}{st:St}{ad:List Nat}
theorem Ew {K:St→Prop}{J:Exit→St→Prop}{a:AC}{α:Type} (I:α→Prop) (F:α→Fr) (μ:α→Nat) (ad shs:List Nat) (x0:α) (hI:I x0) (h0:wk P ad (cu shs st) (F x0)) (hr:∀x,I x→hZ P Γ a (fun st'=>∃x',I x'∧wk P [] (cu shs st') (F x')∧μ x'<μ x) J (F x).st):hZ P Γ (.loop a) K J st:=by
 refine⟨{x:α//I x},fun x=>F x.1,fun x=>μ x.1,ad,shs,⟨x0,hI⟩,h0,fun x=>?_⟩;have hK:(fun st'=>∃i':{x:α//I x},wk P [] (cu shs st') (F i'.1)∧μ i'.1<μ x.1)=fun st'=>∃x',I x'∧wk P [] (cu shs st') (F x')∧μ x'<μ x.1:=by
  funext st';apply propext;constructor;·rintro⟨⟨y,hy⟩,h⟩;exact⟨y,hy,h⟩
  ·rintro⟨y,hy,h⟩;exact⟨⟨y,hy⟩,h⟩
 show hZ P Γ a (fun st'=>∃i':{x:α//I x},wk P [] (cu shs st') (F i'.1)∧μ i'.1<μ x.1) J (F x.1).st;rw[hK];exact hr x.1 x.2
theorem al {K:St→Prop}{J:Exit→St→Prop}{a:AC}{α:Type} (I:α→Prop) (F:α→Fr) (μ:α→Nat) (ad:List Nat) (x0:α) (hI:I x0) (h0:wk P ad st (F x0)) (hr:∀x,I x→hZ P Γ a (fun st'=>∃x',I x'∧wk P [] st' (F x')∧μ x'<μ x) J (F x).st):hZ P Γ (.loop a) K J st:=Ew I F μ ad [] x0 hI h0 hr
@[simp] theorem PG (st:St):cu [] st=st:=nr rfl
@[simp] theorem K3 (t:Nat) (l:List Nat) (st:St):cu (t::l) st=cu l (xZ t st):=nr rfl
@[simp] theorem SI (t:Nat) (st:St):xZ t st=if t=999996 then ud st else if 1000000000000000≤t then Ac (t-1000000000000000) st else share1 st (.own t):=nr rfl
def At:List (Nat×AO)→List (Nat×AO)|[]=>[]|x::l=>(x.1,uz x.2)::At l
@[simp] theorem Sp:At []=[]:=nr rfl
@[simp] theorem B5 (t:Nat) (o:AO) (l:List (Nat×AO)):At ((t,o)::l)=(t,uz o)::At l:=nr rfl
@[simp] theorem Wm (vs:List (Nat×AV)) (os:List (Nat×AO)):ud ⟨look vs,ab os⟩=⟨look (vs.map fun x=>(x.1,tp x.2)),ab (At os)⟩:=by
 unfold ud;congr 1;·funext s;induction vs with|nil=>rfl|cons x l ih=>obtain⟨k,v⟩:=x;simp only[List.map_cons,look];split<;>simp_all
 ·funext s;induction os with|nil=>rfl|cons x l ih=>obtain⟨k,v⟩:=x;simp only[B5,ab];split<;>simp_all
@[simp] theorem Un (cs:List AV):tp (.agg cs)=.agg (kI cs):=nr rfl
@[simp] theorem nilV_pv (p:PV):tp (.pv p)=.pv (Bq p):=nr rfl
@[simp] theorem Uy (t:Nat):tp (.own t)=.own t:=nr rfl
@[simp] theorem Y0 (t o:Nat):tp (.ptr t o)=.ptr t o:=nr rfl
@[simp] theorem SG:tp .au=.au:=nr rfl
@[simp] theorem Q4:kI []=[]:=nr rfl
@[simp] theorem Oa (c:AV) (cs:List AV):kI (c::cs)=rJ c::kI cs:=nr rfl
@[simp] theorem nilC_pv (p:PV):rJ (.pv p)=.pv (Bq p):=nr rfl
@[simp] theorem Zz (t:Nat):rJ (.own t)=.own t:=nr rfl
@[simp] theorem Y1:Bq .nil=.ro []:=nr rfl
@[simp] theorem nilP_ro (l:List (List PV)):Bq (.ro l)=.ro l:=nr rfl
@[simp] theorem Ud (k:IntKind) (n:Int):Bq (.int k n)=.int k n:=nr rfl
@[simp] theorem Td (b:Bool):Bq (.bool b)=.bool b:=nr rfl
@[simp] theorem T4 (cs:List AV):uz (.box cs)=.box (kI cs):=nr rfl
@[simp] theorem XS (e:TypeId) (rows:List (List PV)):uz (.arr e rows)=.arr e rows:=nr rfl
@[simp] theorem wk_eq (vs':List (Nat×AV)) (os':List (Nat×AO)):wk P ad ⟨look vs,ab os⟩ ⟨vs',os'⟩=(NS ad ⟨look vs,ab os⟩ os' vs'∧Pc P ad ⟨look vs,ab os⟩ os' os'):=nr rfl
@[simp] theorem wkV_nil (os':List (Nat×AO)):NS ad ⟨look vs,ab os⟩ os' []=True:=nr rfl
@[simp] theorem Wy (os':List (Nat×AO)) (s:Nat) (v:AV) (l:List (Nat×AV)):NS ad ⟨look vs,ab os⟩ os' ((s,v)::l)=((v=.au∨(look vs s=v∧kV os' v)∨(∃t,v=.own t∧ad.contains t=true∧ay (ab os') t∧look vs s=.pv .nil))∧NS ad ⟨look vs,ab os⟩ os' l):=nr rfl
@[simp] theorem wkO_nil (os':List (Nat×AO)):Pc P ad ⟨look vs,ab os⟩ os' []=True:=nr rfl
@[simp] theorem ZE (os':List (Nat×AO)) (t:Nat) (o:AO) (l:List (Nat×AO)):Pc P ad ⟨look vs,ab os⟩ os' ((t,o)::l)=(((ab os t=some o∧ad.contains t=false∧vZ os' o)∨(∃e,o=.arr e []∧ad.contains t=true∧ab os t=none∧(P.info? e).isSome=true∧t%1000≠999))∧Pc P ad ⟨look vs,ab os⟩ os' l):=nr rfl
@[simp] theorem RZ (f:FuncId) (cs:List AV):kV os (.bo f cs)=fS os cs:=nr rfl
@[simp] theorem UJ (p:PV):kV os (.pv p)=True:=nr rfl
@[simp] theorem aaE (p:List PV):kV os (.rp p)=True:=nr rfl
@[simp] theorem R7 (t:Nat):kV os (.own t)=ay (ab os) t:=nr rfl
@[simp] theorem Q6 (t o:Nat):kV os (.ptr t o)=ay (ab os) t:=nr rfl
@[simp] theorem SE (t:Nat) (e:TypeId) (lo hi:Nat):kV os (.sub t e lo hi)=ay (ab os) t:=nr rfl
@[simp] theorem Zj (p:PV):je os (.pv p)=True:=nr rfl
@[simp] theorem X4 (p:List PV):je os (.rp p)=True:=nr rfl
@[simp] theorem Oj:je os .au=True:=nr rfl
@[simp] theorem Sg (t:Nat):je os (.own t)=ay (ab os) t:=nr rfl
@[simp] theorem PR:fS os []=True:=nr rfl
@[simp] theorem KP (c:AV) (cs:List AV):fS os (c::cs)=(je os c∧fS os cs):=nr rfl
@[simp] theorem RI (cs:List AV):vZ os (.box cs)=fS os cs:=nr rfl
@[simp] theorem Tx (e:TypeId) (rows:List (List PV)):vZ os (.arr e rows)=True:=nr rfl
@[simp] theorem Sb (es:List (PV×AV)):vZ os (.map es)=True:=nr rfl
@[simp] theorem dom_nil (t:Nat):ay (ab []) t=False:=by
 apply propext;constructor;·rintro⟨o,h⟩;cases h
 ·exact False.elim
@[simp] theorem Xe (s t:Nat) (o:AO) (l:List (Nat×AO)):ay (ab ((s,o)::l)) t=(t=s∨ay (ab l) t):=by apply propext;unfold ay;simp only[Cc];by_cases h:t=s<;>simp[h]
end
@[simp↓] theorem Oc {P:Program}{Γ:bJ}{d:Nat}{f:FuncId}{xs:List AV}{aa:Nat→Option AO}{C:bA→Prop}:cx P Γ (some d) f xs aa C=(ak xs∧ai (ft aa (xs.map strip)) fun ys=>ai (gt Γ f ys) fun x=>x.1∧(eE (xs.map strip)=true∨qS x.2)∧(∀y∈jZ d x.2,aa y.1=none)∧yS d x.2=true∧C (.new (yK d x.2) (jZ d x.2))):=rfl
def aN (P:Program) (f:FuncId) (G:List AV→Option (Prop×AV)):Prop:=∀ys φ r,G ys=some (φ,r)→φ→rT P f [] ys [] r
def tab:List (FuncId×(List AV→Option (Prop×AV)))→bJ|[]=>fun _ _=>none|x::l=>fun g ys=>if g=x.1 then x.2 ys else tab l g ys
theorem ah {P:Program}:dL P (tab []):=fun _ _ _ _ h=>by cases h
def yO (p k:Nat) (G:List AV→Option (Prop×AV)) (ys:List AV):Option (Prop×AV):=match ys with|[.au]=>some (True,.ptr p k)|ys=>G ys
def m7 (P:Program) (f:FuncId) (G:List AV→Option (Prop×AV)):Prop:=∀ys φ r,G ys=some (φ,r)→φ→A9 P f ys r
theorem eD {P:Program}{f p k:Nat}{G:List AV→Option (Prop×AV)}{l:List (FuncId×(List AV→Option (Prop×AV)))} (h:m7 P f G) (hP:Nat.ble P.funcs.size 1000000=true) (hl:dL P (tab l)) (hf:Nat.blt f 1000000=true:=by rfl):dL P (tab ((f+1000000,yO p k G)::l)):=by
 intro g ys φ r hg hφ;simp only[tab]at hg;split at hg
 ·rename_i e;refine .inr (.inl ⟨Nat.le_of_ble_eq_true hP,by rw[e];exact Nat.le_add_left _ _,by rw[e];exact Nat.add_lt_add_right (Nat.le_of_ble_eq_true hf) 1000000,?_⟩);unfold yO at hg;split at hg;·exact .inl rfl
  ·right;rw[show g-1000000=f from by rw[e];exact Nat.add_sub_cancel _ _];exact h ys φ r hg hφ
 ·exact hl g ys φ r hg hφ
theorem ag {P:Program}{f:FuncId}{G:List AV→Option (Prop×AV)}{l:List (FuncId×(List AV→Option (Prop×AV)))} (h:aN P f G) (hl:dL P (tab l)) (hf:Nat.blt f 1000000=true:=by rfl):dL P (tab ((f,G)::l)):=by
 intro g ys φ r hg hφ;simp only[tab]at hg;split at hg;·rename_i e;subst e;exact .inl ⟨Nat.le_of_ble_eq_true hf,h ys φ r hg hφ⟩
 ·exact hl g ys φ r hg hφ
theorem ba {P:Program}{f:FuncId}{ks:List Nat}{G:List AV→Option (Prop×AV)}{l:List (FuncId×(List AV→Option (Prop×AV)))} (h:dr P f G) (hP:Nat.ble P.funcs.size 1000000=true) (hl:dL P (tab l)) (hf:Nat.blt f 1000000=true:=by rfl):dL P (tab ((f+1000000,yO 0 996 fun _=>none)::(f+2000000,Ea ks G)::l)):=by
 intro g ys φ r hg hφ;simp only[tab]at hg;split at hg
 ·rename_i e;refine .inr (.inl ⟨Nat.le_of_ble_eq_true hP,by rw[e];exact Nat.le_add_left _ _,by rw[e];exact Nat.add_lt_add_right (Nat.le_of_ble_eq_true hf) 1000000,?_⟩);unfold yO at hg;split at hg;·exact .inl rfl
  ·cases hg
 ·split at hg
  ·rename_i e;refine .inr (.inr (.inl ⟨Nat.le_of_ble_eq_true hP,by rw[e];exact Nat.le_add_left _ _,by rw[e];exact Nat.add_lt_add_right (Nat.le_of_ble_eq_true hf) 2000000,?_⟩));unfold Ea at hg;split at hg;·exact .inl rfl
   ·right;rw[show g-2000000=f from by rw[e];exact Nat.add_sub_cancel _ _];exact h ys φ r hg hφ
  ·exact hl g ys φ r hg hφ
@[simp] theorem Xo (f:FuncId) (ys:List AV):tab [] f ys=none:=nr rfl
@[simp] theorem Re (p k:Nat) (G:List AV→Option (Prop×AV)):yO p k G [.au]=some (True,.ptr p k):=nr rfl
@[simp] theorem tabU_fr (p k:Nat) (G:List AV→Option (Prop×AV)) (e:TypeId) (rows:List (List PV)) (l:List AV):yO p k G (.fr e rows::l)=G (.fr e rows::l):=nr rfl
@[simp] theorem tabU_pv (p k:Nat) (G:List AV→Option (Prop×AV)) (q:PV) (l:List AV):yO p k G (.pv q::l)=G (.pv q::l):=nr rfl
@[simp] theorem WO (p k:Nat) (G:List AV→Option (Prop×AV)) (q l:List AV):yO p k G (.aJ q::l)=G (.aJ q::l):=nr rfl
@[simp] theorem aat (f g:FuncId) (G:List AV→Option (Prop×AV)) (l:List (FuncId×(List AV→Option (Prop×AV)))) (ys:List AV):tab ((f,G)::l) g ys=if g=f then G ys else tab l g ys:=nr rfl
end Go.Proofs.YtlicclncicbajaaGreat.Ab.R
namespace Go.Proofs.YtlicclncicbajaaGreat.Ab
open Go Go.RowKit
abbrev AI.a (d:Nat) (k:AK) (xs:List Operand):AI:=⟨some d,k,xs,none,[],none⟩
abbrev AI.s (k:AK) (xs:List Operand):AI:=⟨none,k,xs,none,[],none⟩
abbrev AI.m (d t:Nat):AI:=⟨some d,.nS,[.tmp t],none,[],none⟩
abbrev AI.b (d:Nat) (k:AK) (xs:List Operand) (g:Nat) (b:Bool):AI:=⟨some d,k,xs,some (g,b),[],none⟩
abbrev AI.pa (d x y:Nat):AI:=⟨some d,.pick,[.tmp x,.tmp y,.const (.bool false)],none,[],none⟩
abbrev AI.u (d:Nat) (k:AK) (t:Nat):AI:=⟨some d,k,[.tmp t],none,[],none⟩
abbrev AI.w (d:Nat) (k:AK) (t u:Nat):AI:=⟨some d,k,[.tmp t,.tmp u],none,[],none⟩
abbrev AI.c (d:Nat) (k:AK) (t:Nat) (n:Int):AI:=⟨some d,k,[.tmp t,.const (.int .i64 n)],none,[],none⟩
end Go.Proofs.YtlicclncicbajaaGreat.Ab
namespace Go.Proofs.YtlicclncicbajaaGreat.Ab.R
open Go Go.RowKit
theorem wrap_i64 {x:Int} (h:-9223372036854775808≤x∧x≤9223372036854775807):IntKind.i64.wrap x=x:=by simp only[IntKind.wrap,IntKind.bits,IntKind.signed];simp;omega
theorem wrap_u64 {x:Int} (h:0≤x∧x≤18446744073709551615):IntKind.u64.wrap x=x:=by simp only[IntKind.wrap,IntKind.bits,IntKind.signed];simp;omega
theorem wrap_u8 (x:Int):IntKind.u8.wrap x=x%256:=by simp only[IntKind.wrap,IntKind.bits,IntKind.signed];simp
@[simp] theorem S6:cM none=none:=rfl
@[simp] theorem arrO_box (cs:List AV):cM (some (.box cs))=none:=rfl
@[simp] theorem VT (k:IntKind) (n:Int):(Value.int k n).oneCell'=true:=rfl
@[simp] theorem SS (b:Bool):(Value.bool b).oneCell'=true:=rfl
@[simp] theorem Xl (s:ByteArray):(Value.string s).oneCell'=true:=rfl
@[simp] theorem Y2 (a:Option Addr):(Value.pointer a).oneCell'=true:=rfl
@[simp] theorem Ng (a:Option Addr) (n c:Nat):(Value.slice a n c).oneCell'=true:=rfl
@[simp] theorem JV:bytesRow []=[]:=rfl
@[simp] theorem EZ (l:List UInt8):(bytesRow l).length=l.length:=by simp[bytesRow]
theorem b8 (l m:List UInt8):bytesRow (l++m)=bytesRow l++bytesRow m:=by simp[bytesRow]
@[simp] theorem cV (l:List UInt8):∀r∈bytesRow l,r.length=1:=by intro r hr;simp only[bytesRow,List.mem_map]at hr;obtain⟨c,_,rfl⟩:=hr;rfl
theorem uN (c:UInt8) (l:List UInt8):bytesRow (c::l)=[.int .u8 (c.toNat:Int)]::bytesRow l:=rfl
theorem bytesRow_at {l:List UInt8}{i:Nat} (h:i<l.length):rowAt (bytesRow l) (i:Int)=[.int .u8 (l[i].toNat:Int)]:=by simp[rowAt,bytesRow,h]
@[simp] theorem Es (l:List UInt8):bytesOf (bytesRow l)=some l:=by induction l with|nil=>rfl|cons c l ih=>
 have hc:byteOf [.int .u8 (c.toNat:Int)]=some c:=by have:=c.toNat_lt;unfold byteOf;simp;omega
 rw[uN];simp only[bytesOf,hc,ih,Option.map_some,Option.bind_some]
theorem aH:maxLen=9223372036854775807:=rfl
end Go.Proofs.YtlicclncicbajaaGreat.Ab.R
namespace Go.Proofs.YtlicclncicbajaaGreat.Ab.R
open Go Go.RowKit
open Classical in noncomputable def dec {α:Type} (f:α→List PV) (rows:List (List PV)):Option (List α):=if h:∃l:List α,l.map f=rows then some h.choose else none
theorem map_inj {α β:Type}{f:α→β} (hf:∀a b,f a=f b→a=b):∀{l m:List α},l.map f=m.map f→l=m|[],[],_=>rfl|[],_::_,h=>by simp at h|_::_,[],h=>by simp at h|a::l,b::m,h=>by simp only[List.map_cons,List.cons.injEq]at h;rw[hf _ _ h.1,map_inj hf h.2]
theorem gX {α:Type}{f:α→List PV} (hf:∀a b,f a=f b→a=b) (l:List α):dec f (l.map f)=some l:=by unfold dec;have h:∃m:List α,m.map f=l.map f:=⟨l,rfl⟩;rw[dif_pos h];exact congrArg some (map_inj hf h.choose_spec)
theorem gV {α:Type}{f:α→List PV}{rows:List (List PV)}{l:List α} (h:dec f rows=some l):rows=l.map f:=by
 unfold dec at h;split at h;·rename_i h';simp only[Option.some.injEq]at h;rw[←h];exact h'.choose_spec.symm
 ·cases h
def fj (c:UInt8):List PV:=[.int .u8 (c.toNat:Int)]
theorem EF:∀a b,fj a=fj b→a=b:=by intro a b h;simp only[fj,List.cons.injEq,PV.int.injEq,true_and,and_true]at h;exact UInt8.toNat_inj.1 (by omega)
@[simp] theorem RC (l:List UInt8):dec fj (bytesRow l)=some l:=gX EF l
@[simp] theorem dec_nil {α:Type} (f:α→List PV):dec f []=some []:=by unfold dec;have h:∃m:List α,m.map f=[]:=⟨[],rfl⟩;rw[dif_pos h];have:=h.choose_spec;simpa using this
theorem dU {rows:List (List PV)}{l:List UInt8} (h:dec fj rows=some l):rows=bytesRow l:=gV h
end Go.Proofs.YtlicclncicbajaaGreat.Ab.R
namespace Go.Proofs.YtlicclncicbajaaGreat.Ab
open Go Go.RowKit R
def fe (n:Nat):List UInt8:=if h:n<128 then[n.toUInt8] else(n%128+128).toUInt8::fe (n/128) termination_by n decreasing_by omega
def cH (n:Int):List UInt8:=fe n.toNat
theorem cS {n:Nat} (h:n<128):fe n=[n.toUInt8]:=by rw[fe,dif_pos h]
theorem iX {n:Nat} (h:¬n<128):fe n=(n%128+128).toUInt8::fe (n/128):=by rw[fe,dif_neg h]
theorem O1 (m:Nat):gb .or .u8 ((m:Int)%256) 128=.int .u8 (((m%128+128).toUInt8.toNat:Nat):Int):=by
 have key:∀x:Fin 256,IntKind.u8.wrap ((BitVec.ofInt IntKind.u8.bits (x.val:Int)|||BitVec.ofInt IntKind.u8.bits 128).toNat:Nat)=(((x.val%128+128).toUInt8.toNat:Nat):Int):=by decide+kernel
 have h:=key ⟨m%256,by omega⟩;have e1:(m:Int)%256=((m%256:Nat):Int):=by omega
 have e2:m%256%128=m%128:=by omega
 rw[e1];simp only[e2]at h;unfold gb;exact congrArg _ h
def Fh:List AV→Option (Prop×AV)|[.pv (.int .u64 n)]=>some (0≤n∧n≤18446744073709551615,.fr 5 (bytesRow (cH n)))|_=>none
@[simp] theorem IT (n:Int):Fh [.pv (.int .u64 n)]=some (0≤n∧n≤18446744073709551615,.fr 5 (bytesRow (cH n))):=rfl
theorem AL:aN Tryz.prog 74 Fh:=by
 intro ys φ r h hφ;unfold Fh at h;split at h
 ·rename_i N;cases h;obtain⟨n,rfl⟩:=Int.eq_ofNat_of_zero_le hφ.1;have hn:n≤18446744073709551615:=by omega
  refine aq ah (by kernel_rfl) (by conv=>lhs;reduce) (by simp) ?_;simp(config := { maxSteps := 3000000 });refine al (fun x:Nat×List UInt8=>x.2++fe x.1=fe n∧x.1≤18446744073709551615∧(x.2.length≤10∧x.1*128^x.2.length≤n)) (fun x=>⟨[(0,.pv (.int .u64 x.1)),(3,.own 3)],[(3,.arr 5 (bytesRow x.2))]⟩) (fun x=>x.1) [] (n,[]) ?_ ?_ ?_;·simp[hn]
  ·simp
  ·rintro⟨m,acc⟩ ⟨h1,h2,h3,h4⟩;dsimp only at h1 h2 h3 h4;simp(config := { maxSteps := 3000000 }) [wrap_u8,-Int.emod_emod_of_dvd,aH];rw[O1];refine⟨fun hm=>⟨by omega,m/128,acc++[(m%128+128).toUInt8],⟨?_,by omega,?_,?_⟩,⟨?_,?_⟩,by omega⟩,fun hm=>⟨by omega,?_⟩⟩;·rw[←h1,iX (n:=m) (by omega)];simp
   ·simp only[List.length_append,List.length_singleton];have:¬9≤acc.length:=by intro h9;have h128:128^9≤128^acc.length:=Nat.pow_le_pow_right (by decide) h9;have:128*128^acc.length≤m*128^acc.length:=Nat.mul_le_mul_right _ (by omega);omega
    omega
   ·simp only[List.length_append,List.length_singleton,Nat.pow_succ];refine Nat.le_trans ?_ h4;have:m/128*128≤m:=by omega
    calc m/128*(128^acc.length*128)=(m/128*128)*128^acc.length:=by rw[Nat.mul_comm (128^acc.length) 128,Nat.mul_assoc]
     _≤m*128^acc.length:=Nat.mul_le_mul_right _ this
   ·simp[IntKind.bits,Int.fdiv_eq_ediv_of_nonneg]
   ·rw[b8];rfl
   ·rw[cH,Int.toNat_natCast,←h1,cS (n:=m) (by omega),b8];simp[bytesRow]
 ·cases h
theorem ss (n:Nat):1≤(fe n).length:=by rw[fe];split<;>simp
theorem ti:∀(k n:Nat),n<128^(k+1)→(fe n).length≤k+1
 |0,n,h=>by rw[cS (by simpa using h)];simp|k+1,n,h=>by
  by_cases h1:n<128;·rw[cS h1];simp
  ·rw[iX h1];have:n/128<128^(k+1):=by rw[Nat.div_lt_iff_lt_mul (by decide)];rw[Nat.pow_succ]at h;exact h
   have:=ti k (n/128) this;simp;omega
theorem ij {n:Nat} (h:n≤18446744073709551615):(fe n).length≤10:=ti 9 n (by omega)
@[simp] def C1:List AV→Option (Prop×AV)|[.pv (.int .u64 n)]=>some (0≤n∧n≤18446744073709551615,.pv (.int .i64 (cH n).length))|_=>none
theorem Gj:aN Tryz.prog 122 C1:=by
 intro ys φ r h hφ;unfold C1 at h;split at h
 ·rename_i N;cases h;obtain⟨n,rfl⟩:=Int.eq_ofNat_of_zero_le hφ.1;have hn:n≤18446744073709551615:=by omega
  have hl:=ij hn;refine aq ah (by kernel_rfl) (by conv=>lhs;reduce) (by simp) ?_;simp(config := { maxSteps := 3000000 });refine al (fun x:Nat×Nat=>x.2+(fe x.1).length=(fe n).length+1∧x.1≤18446744073709551615) (fun x=>⟨[(0,.pv (.int .u64 x.1)),(3,.pv (.int .i64 x.2))],[]⟩) (fun x=>x.1) [] (n,1) ?_ ?_ ?_;·simp[hn];omega
  ·simp
  ·rintro⟨m,k⟩ ⟨h1,h2⟩;dsimp only at h1 h2;have hl2:=ss m;simp(config := { maxSteps := 3000000 }) (disch:=omega) [wrap_i64,wrap_u64];refine⟨fun hm=>⟨m/128,k+1,⟨?_,by omega⟩,⟨by omega,by omega⟩,by omega⟩,fun hm=>?_⟩;·rw[iX (n:=m) (by omega)]at h1;simp at h1;omega
   ·rw[cS (n:=m) (by omega)]at h1;simp at h1;rw[cH,Int.toNat_natCast];omega
 ·cases h
theorem JI (m:Nat) (h:m<128):(m.toUInt8.toNat:Int)=m:=by
 have:m.toUInt8.toNat=m:=by simp[Nat.toUInt8];omega
 omega
theorem GS (m:Nat) (h:m<256):(m.toUInt8.toNat:Int)=m:=by
 have:m.toUInt8.toNat=m:=by simp[Nat.toUInt8];omega
 omega
theorem Nz:aN Tryz.prog 77 Fh:=by
 intro ys φ r h hφ;unfold Fh at h;split at h
 ·rename_i N;cases h;obtain⟨n,rfl⟩:=Int.eq_ofNat_of_zero_le hφ.1;have hn:n≤18446744073709551615:=by omega
  have hl:=ij hn;have hl1:=ss n;refine aq (ag Gj ah) (by kernel_rfl) (by conv=>lhs;reduce) (by simp) ?_;simp(config := { maxSteps := 3000000 }) [cH];refine⟨by omega,?_⟩;refine al (fun x:Nat×List UInt8=>x.2++(if x.2.length<(fe n).length then fe x.1 else[])=fe n∧x.1≤18446744073709551615∧x.2.length≤(fe n).length) (fun x=>⟨[(0,.pv (.int .u64 x.1)),(3,.own 3),(4,.pv (.int .i64 (fe n).length)),(5,.pv (.int .i64 x.2.length))],[(3,.arr 5 (bytesRow x.2))]⟩) (fun x=>(fe n).length-x.2.length) [] (n,[]) ?_ ?_ ?_;·refine⟨?_,hn,by simp⟩;rw[if_pos (by simp only[List.length_nil];omega),List.nil_append]
  ·simp
  ·rintro⟨m,acc⟩ ⟨h1,h2,h3⟩;dsimp only at h1 h2 h3;have w1:IntKind.i64.wrap ((acc.length:Int)+1)=(acc.length:Int)+1:=wrap_i64 (by omega);have w2:IntKind.u8.wrap ((m:Int)%128)=(m:Int)%128:=by rw[wrap_u8];omega
   have w3:IntKind.u8.wrap ((m:Int)%128+128)=(m:Int)%128+128:=by rw[wrap_u8];omega
   have w4:IntKind.u64.wrap ((m:Int)/128)=(m:Int)/128:=wrap_u64 (by omega);have w5:(m:Int).tmod 128=(m:Int)%128:=Int.tmod_eq_emod_of_nonneg (by omega);by_cases hlt:acc.length<(fe n).length
   ·rw[if_pos hlt]at h1;have hlen:acc.length+(fe m).length=(fe n).length:=by rw[←h1];simp
    by_cases hm:m<128
    ·have hv:=cS hm;rw[hv]at h1 hlen;simp at hlen;simp(config := { maxSteps := 3000000 }) [w1,w2,w3,w4,w5,hlt,aH];refine⟨fun h=>by omega,fun h=>⟨by omega,m/128,acc++[m.toUInt8],⟨?_,by omega,by simp;omega⟩,⟨⟨by omega,by simp⟩,?_⟩,by simp;omega⟩⟩;·rw[if_neg (by simp;omega),List.append_nil];exact h1
     ·rw[b8];simp only[bytesRow,List.map_cons,List.map_nil];rw[JI m hm];have:(m:Int)%128=m:=by omega
      rw[this]
    ·have hv:=iX hm;have hl2:=ss (m/128);rw[hv]at h1 hlen;simp at hlen;simp(config := { maxSteps := 3000000 }) [w1,w2,w3,w4,w5,hlt,aH];refine⟨fun h=>⟨by omega,m/128,acc++[(m%128+128).toUInt8],⟨?_,by omega,by simp;omega⟩,⟨⟨by omega,by simp⟩,?_⟩,by simp;omega⟩,fun h=>by omega⟩;·rw[if_pos (by simp;omega)];simpa using h1
     ·rw[b8];simp only[bytesRow,List.map_cons,List.map_nil];rw[GS (m%128+128) (by omega)];simp
   ·rw[if_neg hlt,List.append_nil]at h1;simp(config := { maxSteps := 3000000 }) [hlt];rw[h1]
 ·cases h
def oV (s:List UInt8):List UInt8:=fe s.length++s
@[simp] def KZ:List AV→Option (Prop×AV)|[.pv (.str s)]=>some (s.length≤1000000,.fr 5 (bytesRow (oV s)))|_=>none
theorem Gv:aN Tryz.prog 113 KZ:=by
 intro ys φ r h hφ;unfold KZ at h;split at h;·rename_i s;cases h;refine aq (ag AL ah) (by kernel_rfl) (by conv=>lhs;reduce) (by simp) ?_;have hl:=ij (n:=s.length) (by omega);have w1:IntKind.u64.wrap (s.length:Int)=(s.length:Int):=wrap_u64 (by omega);simp(config := { maxSteps := 3000000 }) [w1,cH,aH,oV,b8];exact⟨by omega,by omega,by omega,cV s⟩
 ·cases h
@[simp] noncomputable def HG:List AV→Option (Prop×AV)|[.pv (.ro a),.pv (.ro b)]=>(dec fj a).bind fun la=>(dec fj b).map fun lb=>(la.length≤1000000000,.pv (.bool (decide (la=lb))))|_=>none
theorem J2:aN Tryz.prog 23 HG:=by
 intro ys φ r h hφ;unfold HG at h;split at h
 ·rename_i ra rb;obtain⟨a,ha,h⟩:=Option.bind_eq_some_iff.1 h;obtain⟨b,hb,h⟩:=Option.map_eq_some_iff.1 h;cases h;cases dU ha;cases dU hb;refine aq ah (by kernel_rfl) (by conv=>lhs;reduce) (by simp) ?_;simp(config := { maxSteps := 3000000 });refine⟨fun hne=>?_,fun hlen=>?_⟩;·intro e;exact hne (by rw[e])
  refine al (fun i:Nat=>i≤a.length∧a.take i=b.take i) (fun i=>⟨[(0,.pv (.ro (bytesRow a))),(1,.pv (.ro (bytesRow b))),(5,.pv (.int .i64 i))],[]⟩) (fun i=>a.length-i) [] 0 (by simp) ?_ ?_;·simp
  ·rintro i ⟨hi,ht⟩;have w2:IntKind.i64.wrap ((i:Int)+1)=(i:Int)+1:=wrap_i64 (by omega);by_cases hlt:i<a.length
   ·have r1:=R.bytesRow_at hlt;have hlb:i<b.length:=by omega
    have r2:=R.bytesRow_at hlb;simp(config := { maxSteps := 3000000 }) [w2,hlt,hlb,r1,r2];refine⟨fun hne e=>hne (by subst e;rfl),fun heq=>⟨i+1,⟨by omega,?_⟩,by omega,by omega⟩⟩;rw[List.take_succ_eq_append_getElem hlt,List.take_succ_eq_append_getElem hlb,ht];congr 2;exact UInt8.toNat_inj.1 (by omega)
   ·simp(config := { maxSteps := 3000000 }) [hlt];rw[List.take_of_length_le (by omega),List.take_of_length_le (by omega)]at ht;exact ht
 ·cases h
def Dg:List UInt8→Nat→Nat→Nat×Nat×Int|[],_,_=>(0,0,10)|c::l,i,n=>if(i=9∧1<c.toNat)∨(c.toNat=0∧0<i) then(0,0,11) else if c.toNat<128 then(n+c.toNat%128*2^(7*i),i+1,0) else Dg l (i+1) (n+c.toNat%128*2^(7*i))
def ck (b:List UInt8) (p:Int):Int×Int×Int:=if p<0∨(b.length:Int)≤p then(0,p,10) else(((Dg (b.drop p.toNat) 0 0).1:Int),p+((Dg (b.drop p.toNat) 0 0).2.1:Int),(Dg (b.drop p.toNat) 0 0).2.2)
def val:List UInt8→Nat|[]=>0|c::l=>c.toNat%128+128*val l
theorem Cr:∀(k n:Nat),n<2^(7*(k+1))→(fe n).length≤k+1
 |0,n,h=>by rw[cS (by simpa using h)];simp|k+1,n,h=>by
  by_cases hn:n<128;·rw[cS hn];simp
  ·rw[iX hn];have:2^(7*(k+1+1))=128*2^(7*(k+1)):=by rw[Nat.mul_add 7 (k+1),Nat.pow_add];omega
   have:=Cr k (n/128) (by omega);simp only[List.length_cons];omega
@[simp] noncomputable def Gtake:List AV→Option (Prop×AV)|[.pv (.ro b),.pv (.int .i64 p)]=>(dec fj b).map fun l=>(l.length≤1000000000∧-9223372036854775808≤p∧p≤9223372036854775807,.aJ [.pv (.int .u64 (ck l p).1),.pv (.int .i64 (ck l p).2.1),.pv (.int .i64 (ck l p).2.2)])|_=>none
def sI (b:List UInt8) (p:Int):List UInt8×Int×Int:=if(ck b p).2.2≠0 then([],p,(ck b p).2.2) else if(b.length:Int)-(ck b p).2.1<(ck b p).1 then([],p,10) else((b.drop (ck b p).2.1.toNat).take (ck b p).1.toNat,(ck b p).2.1+(ck b p).1,0)
@[simp] noncomputable def GtakeT:List AV→Option (Prop×AV)|[.pv (.ro b),.pv (.int .i64 p)]=>(dec fj b).map fun l=>(l.length≤1000000000∧-9223372036854775808≤p∧p≤9223372036854775807,.aJ [.pv (.str (sI l p).1),.pv (.int .i64 (sI l p).2.1),.pv (.int .i64 (sI l p).2.2)])|_=>none
def Ph (b:List UInt8) (at':Nat) (w:List UInt8):Bool:=decide (at'+w.length≤b.length∧(b.drop at').take w.length=w)
@[simp] noncomputable def Gstand:List AV→Option (Prop×AV)|[.pv (.ro b),.pv (.int .i64 i),.pv (.ro w)]=>(dec fj b).bind fun lb=>(dec fj w).map fun lw=>(0≤i∧i≤1000000000∧lb.length≤1000000000∧lw.length≤1000000000,.pv (.bool (Ph lb i.toNat lw)))|_=>none
structure Pn where
 i:Int
 v:Int
 u:Int deriving DecidableEq
def rowP (e:Pn):List PV:=[.int .u64 e.i,.int .u64 e.v,.int .u64 e.u]
theorem iS:∀a b,rowP a=rowP b→a=b:=by rintro⟨k,n,t⟩ ⟨k',n',t'⟩ h;simp only[rowP,List.cons.injEq,PV.int.injEq,true_and,and_true]at h;obtain⟨h1,h2,h3⟩:=h;rw[h1,h2,h3]
def aw (l:List Pn):List (List PV):=l.map rowP
@[simp] theorem Qk:aw []=[]:=rfl
@[simp] theorem dO (l:List Pn):(aw l).length=l.length:=by simp[aw]
theorem dM (l m:List Pn):aw (l++m)=aw l++aw m:=by simp[aw]
theorem bI (l:List Pn):∀r∈aw l,r.length=3:=by intro r hr;simp only[aw,List.mem_map]at hr;obtain⟨c,_,rfl⟩:=hr;rfl
theorem bM {l:List Pn}{i:Nat} (h:i<l.length):rowAt (aw l) (i:Int)=[.int .u64 l[i].i,.int .u64 l[i].v,.int .u64 l[i].u]:=by simp[rowAt,aw,h,rowP]
@[simp] theorem S9 (l:List Pn):dec rowP (aw l)=some l:=gX iS l
theorem aE {rows:List (List PV)}{l:List Pn} (h:dec rowP rows=some l):rows=aw l:=gV h
theorem aY (l:List Pn):bz (aw l):=by intro r hr p hp;simp only[aw,List.mem_map]at hr;obtain⟨c,_,rfl⟩:=hr;simp only[rowP,List.mem_cons,List.not_mem_nil,or_false]at hp;rcases hp with rfl|rfl|rfl<;>rfl
def kz (l:List Pn):Bool:=(List.range (l.length-1)).all fun k=>match l[k]?,l[k+1]? with|some a,some b=>decide (a.i<b.i)|_,_=>true
theorem vX (l:List Pn):kz l=true↔∀(k:Nat) (h:k+1<l.length),l[k].i<l[k+1].i:=by
 unfold kz;rw[List.all_eq_true];constructor;·intro h k hk;have:=h k (by rw[List.mem_range];omega);rw[List.getElem?_eq_getElem (by omega),List.getElem?_eq_getElem hk]at this;simpa using this
 ·intro h k hk;rw[List.mem_range]at hk;rw[List.getElem?_eq_getElem (by omega),List.getElem?_eq_getElem (show k+1<l.length by omega)];simpa using h k (by omega)
theorem DN {l:List Pn}{k:Nat} (h:k+1<l.length) (hk:l[k+1].i≤l[k].i):kz l=false:=by cases hr:kz l with|false=>rfl|true=>have:=(vX l).1 hr k h;omega
@[simp] noncomputable def GpR:List AV→Option (Prop×AV)|[.agg [.pv (.ro a)]]=>(dec rowP a).map fun l=>(l.length≤1000000000,.pv (.bool (kz l)))|_=>none
@[simp] noncomputable def GrR:List AV→Option (Prop×AV)|[.pv (.ro a)]=>(dec rowP a).map fun l=>(l.length≤1000000000,.pv (.bool (kz l)))|_=>none
theorem zw:aN Tryz.prog 115 GpR:=by
 intro ys φ r h hφ;unfold GpR at h;split at h
 ·rename_i ra;obtain⟨a,ha,h⟩:=Option.map_eq_some_iff.1 h;cases h;cases aE ha;refine aq ah (by kernel_rfl) (by conv=>lhs;reduce) (by simp) ?_;simp(config := { maxSteps := 3000000 });refine al (fun i:Nat=>i≤a.length∧∀(k:Nat) (h:k+1<a.length),k+1<i→a[k].i<a[k+1].i) (fun i=>⟨[(1,.ptr 1 0),(6,.pv (.int .i64 a.length)),(7,.pv (.int .i64 i))],[(1,.box [.pv (.ro (aw a))])]⟩) (fun i=>a.length-i) [] 0 ?_ ?_ ?_;·exact⟨Nat.zero_le _,fun k h h2=>absurd h2 (by omega)⟩
  ·simp
  ·rintro i ⟨hi,ht⟩;have w2:IntKind.i64.wrap ((i:Int)+1)=(i:Int)+1:=wrap_i64 (by omega);have w3:IntKind.i64.wrap ((i:Int)-1)=(i:Int)-1:=wrap_i64 (by omega);by_cases hlt:i<a.length
   ·have r1:=bM hlt;by_cases h0:i=0;·subst h0;have wm:IntKind.i64.wrap (-1)=-1:=wrap_i64 (by omega);have rm:rowAt (aw a) (-1)=[.int .u64 a[0].i,.int .u64 a[0].v,.int .u64 a[0].u]:=r1;have rz:rowAt (aw a) 0=[.int .u64 a[0].i,.int .u64 a[0].v,.int .u64 a[0].u]:=r1;simp(config := { maxSteps := 3000000 }) [hlt,rm,rz,wm];exact⟨1,⟨by omega,fun k h h2=>absurd h2 (by omega)⟩,by rw[wrap_i64 (by omega)];rfl,by omega⟩
    ·obtain⟨k,hik⟩:∃k,i=k+1:=⟨i-1,by omega⟩;have hk:k<a.length:=by omega
     have r2:=bM hk;have w3:IntKind.i64.wrap ((i:Int)-1)=(k:Int):=by rw[wrap_i64 (by omega)];omega
     have h0i:0<i:=by omega
     simp(config := { maxSteps := 3000000 }) [w2,w3,hlt,hk,r1,r2,h0i];subst hik;refine⟨fun h=>DN (k:=k) hlt h,fun h=>⟨k+2,⟨by omega,fun j hj h2=>?_⟩,by omega,by omega⟩⟩;by_cases hjk:j=k;·subst hjk;exact h
     ·exact ht j hj (by omega)
   ·simp(config := { maxSteps := 3000000 }) [hlt];rw[vX];exact fun k h=>ht k h (by omega)
 ·cases h
@[simp] noncomputable def GS1:List AV→Option (Prop×AV)|[.agg [.pv (.int .u64 a),.pv (.int .u64 b),.pv (.int .u64 c)],.agg [.pv (.int .u64 d),.pv (.int .u64 e),.pv (.int .u64 f)]]=>some (True,.pv (.bool (decide (a=d)&&(decide (b=e)&&decide (c=f)))))|_=>none
theorem c_S1:aN Tryz.prog 111 GS1:=by
 intro ys φ r h hφ;unfold GS1 at h;split at h;·cases h;refine aq ah (by kernel_rfl) (by conv=>lhs;reduce) (by simp) ?_;simp(config := { maxSteps := 3000000 })
 ·cases h
@[simp] noncomputable def GrS:List AV→Option (Prop×AV)|[.pv (.ro a),.pv (.ro b)]=>(dec rowP a).bind fun la=>(dec rowP b).map fun lb=>(la.length≤1000000000,.pv (.bool (decide (la=lb))))|_=>none
theorem Ii:aN Tryz.prog 65 GrS:=by
 intro ys φ r h hφ;unfold GrS at h;split at h
 ·rename_i ra rb;obtain⟨a,ha,h⟩:=Option.bind_eq_some_iff.1 h;obtain⟨b,hb,h⟩:=Option.map_eq_some_iff.1 h;cases h;cases aE ha;cases aE hb;refine aq ah (by kernel_rfl) (by conv=>lhs;reduce) (by simp) ?_;simp(config := { maxSteps := 3000000 });refine⟨fun hne=>?_,fun hlen=>?_⟩;·intro e;exact hne (by rw[e])
  refine al (fun i:Nat=>i≤a.length∧a.take i=b.take i) (fun i=>⟨[(0,.pv (.ro (aw a))),(1,.pv (.ro (aw b))),(5,.pv (.int .i64 i))],[]⟩) (fun i=>a.length-i) [] 0 (by simp) ?_ ?_;·simp
  ·rintro i ⟨hi,ht⟩;have w2:IntKind.i64.wrap ((i:Int)+1)=(i:Int)+1:=wrap_i64 (by omega);by_cases hlt:i<a.length
   ·have r1:=bM hlt;have hlb:i<b.length:=by omega
    have r2:=bM hlb;simp(config := { maxSteps := 3000000 }) [w2,hlt,hlb,r1,r2];refine⟨fun hne e=>by subst e;simp at hne,fun h1 h2 h3=>⟨i+1,⟨by omega,?_⟩,by omega,by omega⟩⟩;rw[List.take_succ_eq_append_getElem hlt,List.take_succ_eq_append_getElem hlb,ht];congr 2;exact iS _ _ (by simp only[rowP,h1,h2,h3])
   ·simp(config := { maxSteps := 3000000 }) [hlt];rw[List.take_of_length_le (by omega),List.take_of_length_le (by omega)]at ht;exact ht
 ·cases h
@[simp] noncomputable def GEq:List AV→Option (Prop×AV)|[.pv (.ro a),.pv (.ro b),.bo f []]=>if f=111 then(dec rowP a).bind fun la=>(dec rowP b).map fun lb=>(la.length≤1000000000,.pv (.bool (decide (la=lb)))) else none|_=>none
theorem NC:fo Tryz.prog 111=true:=by kernel_rfl
theorem c_Eq:aN Tryz.prog 110 GEq:=by
 intro ys φ r h hφ;unfold GEq at h;split at h
 ·rename_i ra rb f;split at h
  ·rename_i hf;subst hf;obtain⟨a,ha,h⟩:=Option.bind_eq_some_iff.1 h;obtain⟨b,hb,h⟩:=Option.map_eq_some_iff.1 h;cases h;cases aE ha;cases aE hb;refine aq (ag c_S1 ah) (by kernel_rfl) (by conv=>lhs;reduce) (by simp) ?_;simp(config := { maxSteps := 3000000 });refine⟨fun hne=>?_,fun hlen=>?_⟩;·intro e;exact hne (by rw[e])
   refine al (fun i:Nat=>i≤a.length∧a.take i=b.take i) (fun i=>⟨[(0,.pv (.ro (aw a))),(1,.pv (.ro (aw b))),(2,.bo 111 []),(15,.pv (.ro (aw a))),(16,.pv (.int .i64 a.length)),(17,.pv (.int .i64 i))],[]⟩) (fun i=>a.length-i) [] 0 (by simp) ?_ ?_;·simp
   ·rintro i ⟨hi,ht⟩;have w2:IntKind.i64.wrap ((i:Int)+1)=(i:Int)+1:=wrap_i64 (by omega);by_cases hlt:i<a.length
    ·have r1:=bM hlt;have hlb:i<b.length:=by omega
     have r2:=bM hlb;simp(config := { maxSteps := 3000000 }) [w2,hlt,hlb,r1,r2,NC];refine⟨fun hne e=>by subst e;simp at hne,fun h1 h2 h3=>⟨i+1,⟨by omega,?_⟩,by omega,by omega⟩⟩;rw[List.take_succ_eq_append_getElem hlt,List.take_succ_eq_append_getElem hlb,ht];congr 2;exact iS _ _ (by simp only[rowP,h1,h2,h3])
    ·simp(config := { maxSteps := 3000000 }) [hlt];rw[List.take_of_length_le (by omega),List.take_of_length_le (by omega)]at ht;exact ht
  ·cases h
 ·cases h
@[simp] noncomputable def GpS:List AV→Option (Prop×AV)|[.agg [.pv (.ro a)],.agg [.pv (.ro b)]]=>(dec rowP a).bind fun la=>(dec rowP b).map fun lb=>(la.length≤1000000000,.pv (.bool (decide (la=lb))))|_=>none
theorem Jv:aN Tryz.prog 69 GpS:=by
 intro ys φ r h hφ;unfold GpS at h;split at h;·rename_i ra rb;obtain⟨a,ha,h⟩:=Option.bind_eq_some_iff.1 h;obtain⟨b,hb,h⟩:=Option.map_eq_some_iff.1 h;cases h;cases aE ha;cases aE hb;refine aq (ag c_Eq ah) (by kernel_rfl) (by conv=>lhs;reduce) (by simp) ?_;simp(config := { maxSteps := 3000000 });exact hφ
 ·cases h
@[simp] noncomputable def Gpref:List AV→Option (Prop×AV)|[.agg [.pv (.ro a)]]=>(dec rowP a).map fun l=>(l.length≤100000000,.fr 162 (aw l))|_=>none
@[simp] noncomputable def GpCl:List AV→Option (Prop×AV)|[.pv (.ro a)]=>(dec rowP a).map fun l=>(l.length≤100000000,.fr 134 (aw l))|_=>none
theorem oI:aN Tryz.prog 57 GpCl:=by
 intro ys φ r h hφ;unfold GpCl at h;split at h;·rename_i ra;obtain⟨a,ha,h⟩:=Option.map_eq_some_iff.1 h;cases h;cases aE ha;refine aq ah (by kernel_rfl) (by conv=>lhs;reduce) (by simp) ?_;cases a with|nil=>simp(config := { maxSteps := 3000000 }) [lq]|cons x l=>have hx:aw (x::l)=rowP x::aw l:=rfl;simp(config := { maxSteps := 3000000 }) [hx,aH];simp only[List.length_cons]at hφ;exact⟨by omega,by omega,rfl,bI l⟩
 ·cases h
@[simp] noncomputable def GOf1:List AV→Option (Prop×AV)|[.agg [.pv (.int .u64 a),.pv (.int .u64 b),.pv (.int .u64 c)],.rp [.int .u64 n]]=>some (True,.pv (.bool (decide (b=n))))|_=>none
@[simp] noncomputable def VE:List AV→Option (Prop×AV)|[.agg [.pv (.int .u64 a),.pv (.int .u64 b),.pv (.int .u64 c)],.rp [.int .u64 n]]=>some (True,.pv (.bool (decide (a=n))))|_=>none
theorem aag:aN Tryz.prog 187 VE:=by
 intro ys φ r h hφ;unfold VE at h;split at h;·cases h;refine aq ah (by kernel_rfl) (by conv=>lhs;reduce) (by simp) ?_;simp(config := { maxSteps := 3000000 })
 ·cases h
def Tg (f:FuncId) (n:Int) (e:Pn):Bool:=decide (e.i=n)
def nA (p:Pn→Bool) (l:List Pn):Int:=if l.findIdx p<l.length then(l.findIdx p:Nat) else-1
theorem yp {p:Pn→Bool}{l:List Pn}{i:Nat} (hi:i<l.length) (h:p l[i]=true) (ha:∀e∈l.take i,p e=false):nA p l=(i:Int):=by
 have:l.findIdx p=i:=by rw[List.findIdx_eq hi];refine⟨h,fun j hj=>?_⟩;exact ha l[j] (by rw[List.mem_take_iff_getElem];exact⟨j,by omega,rfl⟩)
 unfold nA;rw[this,if_pos hi]
theorem jF {p:Pn→Bool}{l:List Pn} (ha:∀e∈l,p e=false):nA p l=-1:=by
 have:l.findIdx p=l.length:=by rw[List.findIdx_eq_length];exact ha
 unfold nA;rw[this,if_neg (by omega)]
theorem E8 (p:Pn→Bool) (l:List Pn):(0≤nA p l)=(l.any p=true):=by
 apply propext;by_cases h:l.any p=true
 ·obtain⟨e,he,hr⟩:=List.any_eq_true.1 h;have:l.findIdx p<l.length:=by rw[List.findIdx_lt_length];exact⟨e,he,hr⟩
  unfold nA;rw[if_pos this];simp[h]
 ·have h':l.any p=false:=by simpa using h
  rw[List.any_eq_false]at h';rw[jF fun e he=>by simpa using h' e he];simp[h]
@[simp] noncomputable def GIx:List AV→Option (Prop×AV)|[.pv (.ro a),.bo f [.rp [.int .u64 n]]]=>if f=187 then(dec rowP a).map fun l=>(l.length≤1000000000,.pv (.int .i64 (nA (Tg f n) l))) else none|_=>none
theorem JJ:fo Tryz.prog 187=true:=by kernel_rfl
theorem c_Ix:aN Tryz.prog 186 GIx:=by
 intro ys φ r h hφ;unfold GIx at h;split at h
 ·rename_i ra f n;split at h
  ·rename_i hf;obtain⟨a,ha,h⟩:=Option.map_eq_some_iff.1 h;cases h;cases aE ha;have hfn:fo Tryz.prog f=true:=by rw[hf];exact JJ
   refine aq (ag aag ah) (by kernel_rfl) (by conv=>lhs;reduce) (by simp) ?_;simp(config := { maxSteps := 3000000 });refine al (fun i:Nat=>i≤a.length∧∀e∈a.take i,Tg f n e=false) (fun i=>⟨[(0,.pv (.ro (aw a))),(1,.bo f [.rp [.int .u64 n]]),(7,.pv (.int .i64 a.length)),(8,.pv (.int .i64 i))],[]⟩) (fun i=>a.length-i) [] 0 (by simp) ?_ ?_;·simp
   ·rintro i ⟨hi,ht⟩;have w2:IntKind.i64.wrap ((i:Int)+1)=(i:Int)+1:=wrap_i64 (by omega);by_cases hlt:i<a.length
    ·have r1:=bM hlt;have hr:Tg f n a[i]=false→∀e∈a.take (i+1),Tg f n e=false:=by
      intro h0 e he;rw[List.take_succ_eq_append_getElem hlt,List.mem_append]at he;rcases he with he|he;·exact ht e he
      ·rw[List.mem_singleton]at he;rw[he];exact h0
     subst hf;·have hp:Tg 187 n a[i]=decide (a[i].i=n):=rfl;simp(config := { maxSteps := 3000000 }) [w2,hlt,r1,hfn];refine⟨fun h=>(yp hlt (by rw[hp];simpa using h) ht).symm,fun h=>⟨i+1,⟨by omega,hr (by rw[hp];simpa using h)⟩,by omega,by omega⟩⟩
    ·simp(config := { maxSteps := 3000000 }) [hlt];rw[List.take_of_length_le (by omega)]at ht;exact(jF ht).symm
  ·cases h
 ·cases h
def dH (n:Int):List PV:=[.int .u64 n]
theorem FJ:∀a b,dH a=dH b→a=b:=by intro a b h;simpa[dH]using h
def cC (l:List Int):List (List PV):=l.map dH
@[simp] theorem Rb:cC []=[]:=rfl
@[simp] theorem Jd (l:List Int):(cC l).length=l.length:=by simp[cC]
theorem xx (l m:List Int):cC (l++m)=cC l++cC m:=by simp[cC]
theorem iw {l:List Int}{i:Nat} (h:i<l.length):rowAt (cC l) (i:Int)=[.int .u64 l[i]]:=by simp[rowAt,cC,h,dH]
@[simp] theorem mD (l:List Int):dec dH (cC l)=some l:=gX FJ l
theorem dz {rows:List (List PV)}{l:List Int} (h:dec dH rows=some l):rows=cC l:=gV h
theorem s8 (l:List UInt8):bz (bytesRow l):=by intro r hr p hp;simp only[bytesRow,List.mem_map]at hr;obtain⟨c,_,rfl⟩:=hr;simp only[List.mem_singleton]at hp;subst hp;rfl
theorem Bw (l:List Int):bz (cC l):=by intro r hr p hp;simp only[cC,List.mem_map]at hr;obtain⟨c,_,rfl⟩:=hr;simp only[dH,List.mem_singleton]at hp;subst hp;rfl
def cU (n:Int):Prop:=0≤n∧n≤18446744073709551615
def lk (l:List Int):List UInt8:=l.flatMap cH
theorem fW {n:Int} (h:cU n):(cH n).length≤10:=by obtain⟨h1,h2⟩:=h;unfold cH;exact Cr 9 _ (by omega)
theorem tV:∀{l:List Int},(∀n∈l,cU n)→(lk l).length≤10*l.length|[],_=>by simp[lk]|n::l,h=>by have h1:=fW (h n (by simp));have h2:=tV (l:=l) fun m hm=>h m (by simp[hm]);unfold lk at h2 ⊢;simp only[List.flatMap_cons,List.length_append,List.length_cons];omega
theorem Eo (l:List Int) (n:Int):lk (l++[n])=lk l++cH n:=by simp[lk]
noncomputable def IV:List AV→Option (Prop×AV)|[.pv (.ro a)]=>(dec dH a).map fun l=>(l.length≤1000000∧(∀n∈l,cU n),.fr 5 (bytesRow (lk l)))|_=>none
@[simp] theorem Js (a:List (List PV)):IV [.pv (.ro a)]=(dec dH a).map fun l=>(l.length≤1000000∧(∀n∈l,cU n),.fr 5 (bytesRow (lk l))):=rfl
theorem Fk:aN Tryz.prog 40 IV:=by
 intro ys φ r h hφ;unfold IV at h;split at h
 ·rename_i ra;obtain⟨a,ha,h⟩:=Option.map_eq_some_iff.1 h;cases h;cases dz ha;obtain⟨hl,hn⟩:=hφ;refine aq (ag AL ah) (by kernel_rfl) (by conv=>lhs;reduce) (by simp) ?_;simp(config := { maxSteps := 3000000 });refine al (fun i:Nat=>i≤a.length) (fun i=>⟨[(2,.own 2),(5,.pv (.ro (cC a))),(6,.pv (.int .i64 a.length)),(7,.pv (.int .i64 i))],[(2,.arr 5 (bytesRow (lk (a.take i))))]⟩) (fun i=>a.length-i) [] 0 (by simp) ?_ ?_;·simp[lk]
  ·rintro i hi;have w2:IntKind.i64.wrap ((i:Int)+1)=(i:Int)+1:=wrap_i64 (by omega);by_cases hlt:i<a.length;·have r1:=iw hlt;have ho:=hn _ (List.getElem_mem hlt);have h1:=fW ho;have h2:=tV (l:=a.take i) fun n h=>hn n (List.mem_of_mem_take h);rw[List.length_take]at h2;obtain⟨o1,o2⟩:=ho;simp(config := { maxSteps := 3000000 }) [w2,hlt,r1,aH,o1,o2];refine⟨⟨by omega,by omega,cV _⟩,i+1,by omega,⟨by omega,?_⟩,by omega⟩;rw[List.take_succ_eq_append_getElem hlt,Eo,b8]
   ·simp(config := { maxSteps := 3000000 }) [hlt];rw[List.take_of_length_le (by omega)]
 ·cases h
def ko (e:Pn):Prop:=cU e.i∧cU e.v∧cU e.u
def EM (e:Pn):List UInt8:=cH e.i++(cH e.v++cH e.u)
def m5 (l:List Pn):List UInt8:=l.flatMap EM
def vj (l:List Pn):List UInt8:=cH l.length++m5 l
theorem HJ (e:Pn):lk [e.i,e.v,e.u]=EM e:=by simp[lk,EM]
theorem ze {e:Pn} (h:ko e):(EM e).length≤30:=by have h1:=fW h.1;have h2:=fW h.2.1;have h3:=fW h.2.2;simp[EM];omega
theorem qq:∀{l:List Pn},(∀n∈l,ko n)→(m5 l).length≤30*l.length|[],_=>by simp[m5]|n::l,h=>by have h1:=ze (h n (by simp));have h2:=qq (l:=l) fun m hm=>h m (by simp[hm]);unfold m5 at h2 ⊢;simp only[List.flatMap_cons,List.length_append,List.length_cons];omega
theorem A4 (l:List Pn) (n:Pn):m5 (l++[n])=m5 l++EM n:=by simp[m5]
theorem D8 (a b c:Int):dec dH [[.int .u64 a],[.int .u64 b],[.int .u64 c]]=some [a,b,c]:=mD [a,b,c]
@[simp] noncomputable def LF:List AV→Option (Prop×AV)|[.agg [.pv (.ro a)]]=>(dec rowP a).map fun l=>(l.length≤1000000∧(∀n∈l,ko n),.fr 5 (bytesRow (vj l)))|_=>none
theorem Nd:aN Tryz.prog 118 LF:=by
 intro ys φ r h hφ;unfold LF at h;split at h
 ·rename_i ra;obtain⟨a,ha,h⟩:=Option.map_eq_some_iff.1 h;cases h;cases aE ha;obtain⟨hl,hn⟩:=hφ;refine aq (ag AL (ag Fk ah)) (by kernel_rfl) (by conv=>lhs;reduce) (by simp) ?_;have wl:IntKind.u64.wrap (a.length:Int)=(a.length:Int):=wrap_u64 (by omega);have l0:(0:Int)≤(a.length:Int):=by omega
  have l1:(a.length:Int)≤18446744073709551615:=by omega
  have hv:=fW (n:=(a.length:Int)) ⟨by omega,by omega⟩;simp(config := { maxSteps := 3000000 }) [wl,l0,l1];refine al (fun i:Nat=>i≤a.length) (fun i=>⟨[(1,.ptr 1 0),(3,.own 10),(12,.pv (.ro (aw a))),(13,.pv (.int .i64 a.length)),(14,.pv (.int .i64 i))],[(1,.box [.pv (.ro (aw a))]),(10,.arr 5 (bytesRow (cH a.length++m5 (a.take i))))]⟩) (fun i=>a.length-i) [] 0 (by simp) ?_ ?_;·simp[m5]
  ·rintro i hi;have w2:IntKind.i64.wrap ((i:Int)+1)=(i:Int)+1:=wrap_i64 (by omega);by_cases hlt:i<a.length
   ·have r1:=bM hlt;have ho:=hn _ (List.getElem_mem hlt);have h1:=ze ho;have h2:=qq (l:=a.take i) fun n h=>hn n (List.mem_of_mem_take h);rw[List.length_take]at h2;obtain⟨o1,o2,o3⟩:=ho;simp(config := { maxSteps := 3000000 }) [w2,hlt,r1,aH,o1,o2,o3,D8,HJ];first|refine⟨s8 _,⟨by omega,by omega,cV _⟩,i+1,by omega,⟨by omega,?_⟩,by omega⟩|refine⟨⟨by omega,by omega,cV _⟩,i+1,by omega,⟨by omega,?_⟩,by omega⟩
    rw[List.take_succ_eq_append_getElem hlt,A4,←List.append_assoc,b8 (cH _++_)]
   ·simp(config := { maxSteps := 3000000 }) [hlt];rw[List.take_of_length_le (by omega)];rfl
 ·cases h
@[simp] noncomputable def GrPut:List AV→Option (Prop×AV)|[.pv (.ro a)]=>(dec rowP a).map fun l=>(l.length≤1000000∧(∀n∈l,ko n),.fr 5 (bytesRow (vj l)))|_=>none
def fC (b:List UInt8):Nat→Int→List Int×Int×Int|0,p=>([],p,0)|k+1,p=>if(ck b p).2.2≠0 then([],0,(ck b p).2.2) else if(fC b k (ck b p).2.1).2.2≠0 then([],0,(fC b k (ck b p).2.1).2.2) else((ck b p).1::(fC b k (ck b p).2.1).1,(fC b k (ck b p).2.1).2.1,0)
def F7 (b:List UInt8) (p:Int) (k:Nat):List Int×Int×Int:=if(fC b k p).2.2≠0 then([],p,(fC b k p).2.2) else fC b k p
def ahead (L:List Int) (q:List Int×Int×Int):List Int×Int×Int:=if q.2.2≠0 then([],0,q.2.2) else(L++q.1,q.2.1,0)
@[simp] noncomputable def GtA:List AV→Option (Prop×AV)|[.pv (.ro b),.pv (.int .i64 p),.pv (.int .i64 k)]=>(dec fj b).map fun l=>(l.length≤1000000000∧-9223372036854775808≤p∧p≤9223372036854775807∧0≤k∧k≤1000,.aJ [.fr 22 (cC (F7 l p k.toNat).1),.pv (.int .i64 (F7 l p k.toNat).2.1),.pv (.int .i64 (F7 l p k.toNat).2.2)])|_=>none
def pnOf:List Int→Pn|[a,b,c]=>⟨a,b,c⟩|_=>⟨0,0,0⟩
def lK (b:List UInt8):Nat→Int→Int→List Pn×Int×Int|0,_,q=>([],q,0)|f+1,n,q=>if n≤0 then([],q,0) else if(fC b 3 q).2.2≠0 then([],0,(fC b 3 q).2.2) else if(lK b f (n-1) (fC b 3 q).2.1).2.2≠0 then([],0,(lK b f (n-1) (fC b 3 q).2.1).2.2) else(pnOf (fC b 3 q).1::(lK b f (n-1) (fC b 3 q).2.1).1,(lK b f (n-1) (fC b 3 q).2.1).2.1,0)
def wI (b:List UInt8) (p:Int):List Pn×Int×Int:=if(ck b p).2.2≠0 then([],p,(ck b p).2.2) else if(lK b (b.length+1) (ck b p).1 (ck b p).2.1).2.2≠0 then([],p,(lK b (b.length+1) (ck b p).1 (ck b p).2.1).2.2) else if kz (lK b (b.length+1) (ck b p).1 (ck b p).2.1).1=false then([],p,2) else lK b (b.length+1) (ck b p).1 (ck b p).2.1
@[simp] noncomputable def GrTk:List AV→Option (Prop×AV)|[.pv (.ro b),.pv (.int .i64 p)]=>(dec fj b).map fun l=>(l.length≤100000000∧-9223372036854775808≤p∧p≤9223372036854775807,.aJ [.fr 162 (aw (wI l p).1),.pv (.int .i64 (wI l p).2.1),.pv (.int .i64 (wI l p).2.2)])|_=>none
@[simp] noncomputable def GpTk:List AV→Option (Prop×AV)|[.pv (.ro b),.pv (.int .i64 p)]=>(dec fj b).map fun l=>(l.length≤100000000∧-9223372036854775808≤p∧p≤9223372036854775807,.aJ [.agg [.fr 134 (aw (wI l p).1)],.pv (.int .i64 (wI l p).2.1),.pv (.int .i64 (wI l p).2.2)])|_=>none
def qT (n u s:Int):Bool:=decide (u+s<n)
@[simp] noncomputable def LD:List AV→Option (Prop×AV)|[.pv (.int .u64 n),.pv (.int .u64 u),.pv (.int .u64 s)]=>some (cU n∧cU u∧cU s,.pv (.bool (qT n u s)))|_=>none
theorem M3:aN Tryz.prog 190 LD:=by
 intro ys φ r h hφ;unfold LD at h;split at h
 ·rename_i n u s;cases h;obtain⟨⟨n1,n2⟩,⟨u1,u2⟩,⟨s1,s2⟩⟩:=hφ;refine aq ah (by kernel_rfl) (by conv=>lhs;reduce) (by simp) ?_;unfold qT;by_cases hc:u+s<18446744073709551616
  ·have e1:(u+s)/18446744073709551616=0:=by omega
   have e2:(u+s)%18446744073709551616=u+s:=by omega
   simp(config := { maxSteps := 3000000 }) [e1,e2,u1,s1]
  ·have e1:(u+s)/18446744073709551616=1:=by omega
   have e2:¬(u+s<n):=by omega
   simp(config := { maxSteps := 3000000 }) [e1,e2,u1,s1]
 ·cases h
@[simp] noncomputable def T9:List AV→Option (Prop×AV)|[.agg [.pv (.int .u64 a),.pv (.int .u64 b),.pv (.int .u64 c)],.rp [.int .u64 n],.rp [.int .u64 s]]=>some (cU n∧cU c∧cU s,.pv (.bool (qT n c s)))|_=>none
theorem Le:aN Tryz.prog 189 T9:=by
 intro ys φ r h hφ;unfold T9 at h;split at h;·cases h;obtain⟨h1,h2,h3⟩:=hφ;refine aq (ag M3 ah) (by kernel_rfl) (by conv=>lhs;reduce) (by simp) ?_;simp(config := { maxSteps := 3000000 }) [h1,h2,h3]
 ·cases h
theorem Cn:fo Tryz.prog 189=true:=by kernel_rfl
def ji (n s:Int) (e:Pn):Bool:=qT n e.u s
@[simp] noncomputable def ZK:List AV→Option (Prop×AV)|[.pv (.ro a),.bo f [.rp [.int .u64 n],.rp [.int .u64 s]]]=>if f=189 then(dec rowP a).map fun l=>(l.length≤1000000000∧cU n∧cU s∧∀e∈l,cU e.u,.pv (.int .i64 (nA (ji n s) l))) else none|_=>none
theorem WT:aN Tryz.prog 186 ZK:=by
 intro ys φ r h hφ;unfold ZK at h;split at h
 ·rename_i ra f n s;split at h
  ·rename_i hf;subst hf;obtain⟨a,ha,h⟩:=Option.map_eq_some_iff.1 h;cases h;cases aE ha;obtain⟨hl,o1,o2,o3⟩:=hφ;have hfn:=Cn;refine aq (ag Le ah) (by kernel_rfl) (by conv=>lhs;reduce) (by simp) ?_;simp(config := { maxSteps := 3000000 });refine al (fun i:Nat=>i≤a.length∧∀e∈a.take i,ji n s e=false) (fun i=>⟨[(0,.pv (.ro (aw a))),(1,.bo 189 [.rp [.int .u64 n],.rp [.int .u64 s]]),(7,.pv (.int .i64 a.length)),(8,.pv (.int .i64 i))],[]⟩) (fun i=>a.length-i) [] 0 (by simp) ?_ ?_;·simp
   ·rintro i ⟨hi,ht⟩;have w2:IntKind.i64.wrap ((i:Int)+1)=(i:Int)+1:=wrap_i64 (by omega);by_cases hlt:i<a.length
    ·have r1:=bM hlt;have o4:cU a[i].u:=o3 _ (List.getElem_mem hlt);have hr:ji n s a[i]=false→∀e∈a.take (i+1),ji n s e=false:=by
      intro h0 e he;rw[List.take_succ_eq_append_getElem hlt,List.mem_append]at he;rcases he with he|he;·exact ht e he
      ·rw[List.mem_singleton]at he;rw[he];exact h0
     by_cases hp:ji n s a[i]=true;·have hp':qT n a[i].u s=true:=hp;simp(config := { maxSteps := 3000000 }) [w2,hlt,r1,hfn,o1,o2,o4,hp'];exact(yp hlt hp ht).symm
     ·have hp0:ji n s a[i]=false:=by simpa using hp
      have hp':qT n a[i].u s=false:=hp0;simp(config := { maxSteps := 3000000 }) [w2,hlt,r1,hfn,o1,o2,o4,hp'];exact⟨i+1,⟨by omega,hr hp0⟩,by omega,by omega⟩
    ·simp(config := { maxSteps := 3000000 }) [hlt];rw[List.take_of_length_le (by omega)]at ht;exact(jF ht).symm
  ·cases h
 ·cases h
theorem zd {p:Pn→Bool}{l:List Pn}{k:Nat} (h:nA p l=(k:Int)):k<l.length∧(l.take (k+1)).filter (fun e=>!p e)=l.take k:=by
 unfold nA at h;split at h
 ·rename_i hlt;have hk:l.findIdx p=k:=by omega
  rw[hk]at hlt;refine⟨hlt,?_⟩;obtain⟨h1,h2⟩:=(List.findIdx_eq hlt).1 hk;rw[List.take_succ_eq_append_getElem hlt,List.filter_append];have hf:(l.take k).filter (fun e=>!p e)=l.take k:=by rw[List.filter_eq_self];intro e he;rw[List.mem_take_iff_getElem]at he;obtain⟨j,hj,rfl⟩:=he;have:=h2 j (by omega);simpa using this
  rw[hf];simp[h1]
 ·omega
theorem vz (l:List Pn) (i:Nat) (e:Pn):(aw l).set i [.int .u64 e.i,.int .u64 e.v,.int .u64 e.u]=aw (l.set i e):=by unfold aw;rw[List.map_set];rfl
def kT (l:List Pn) (n s:Int):List Pn:=l.filter fun e=>!ji n s e
@[simp] noncomputable def L5:List AV→Option (Prop×AV)|[.fr e a,.bo f [.rp [.int .u64 n],.rp [.int .u64 s]]]=>if e=134∧f=189 then(dec rowP a).map fun l=>(l.length≤1000000∧cU n∧cU s∧∀e∈l,cU e.u,.fr 134 (aw (kT l n s))) else none|_=>none
theorem MY:m7 Tryz.prog 191 L5:=by
 intro ys φ r h hφ;unfold L5 at h;split at h
 ·rename_i e ra f n s;split at h
  ·rename_i hef;obtain⟨rfl,rfl⟩:=hef;obtain⟨a,ha,h⟩:=Option.map_eq_some_iff.1 h;cases h;cases aE ha;obtain⟨hl6,o1,o2,o3⟩:=hφ;refine mn (ag WT (ag Le ah)) (by kernel_rfl) (by conv=>lhs;reduce) (by simp) (by simp[cP,lZ,iA]) (by simp) ?_;have hl9:a.length≤1000000000:=by omega
   have isfn3:=Cn;by_cases hr:a.any (ji n s)=true
   ·have hw:0≤nA (ji n s) a:=by rw[E8];exact hr
    obtain⟨k,hk⟩:=Int.eq_ofNat_of_zero_le hw;obtain⟨hkl,hkf⟩:=zd hk;have hne:¬((k:Int)=-1):=by omega
    have w1:IntKind.i64.wrap ((k:Int)+1)=(k:Int)+1:=wrap_i64 (by omega);simp(config := { maxSteps := 3000000 }) [hk,hne,w1,hl9,o1,o2];refine⟨o3,?_⟩;refine al (fun x:Nat×Nat×List Pn=>x.1<x.2.1∧x.2.1≤a.length∧x.2.2.length=a.length∧x.2.2.take x.1=(a.take x.2.1).filter (fun e=>!ji n s e)∧x.2.2.drop x.2.1=a.drop x.2.1) (fun x=>⟨[(0,.own 998),(1,.bo 189 [.rp [.int .u64 n],.rp [.int .u64 s]]),(5,.pv (.int .i64 x.1)),(6,.pv (.int .i64 x.2.1))],[(998,.arr 134 (aw x.2.2))]⟩) (fun x=>a.length-x.2.1) [] (k,k+1,a) ?_ ?_ ?_;·exact⟨by simp,by simp;omega,rfl,by simp[hkf],rfl⟩
    ·simp
    ·rintro⟨i,j,b⟩ ⟨h1,h2,h3,h4,h5⟩;dsimp only at h1 h2 h3 h4 h5;have w2:IntKind.i64.wrap ((j:Int)+1)=(j:Int)+1:=wrap_i64 (by omega);have w3:IntKind.i64.wrap ((i:Int)+1)=(i:Int)+1:=wrap_i64 (by omega);by_cases hlt:j<a.length
     ·have hjb:j<b.length:=by omega
      have hib:i<b.length:=by omega
      have o4:cU a[j].u:=o3 _ (List.getElem_mem hlt);have hbj:b[j]=a[j]:=by have e1:=List.drop_eq_getElem_cons hjb;have e2:=List.drop_eq_getElem_cons hlt;rw[h5,e2]at e1;injection e1 with e1 _;exact e1.symm
      have r1:=bM hjb;rw[hbj]at r1;have r2:=bM hib;have hib':(i:Int)<a.length:=by omega
      have hdrop:∀e,(b.set i e).drop (j+1)=a.drop (j+1):=by
       intro e;rw[List.drop_set_of_lt (by omega)];have e1:(b.drop j).drop 1=(a.drop j).drop 1:=by rw[h5]
       simpa[List.drop_drop]using e1
      by_cases hq:ji n s a[j]=true
      ·have hq':qT n a[j].u s=true:=hq;simp(config := { maxSteps := 3000000 }) [w2,w3,hlt,hjb,r1,r2,h3,hq',vz,hib',o1,o2,o4,isfn3];refine⟨i,j+1,b,⟨by omega,by omega,h3,?_,?_⟩,⟨⟨rfl,by omega⟩,rfl⟩,by omega⟩;·rw[List.take_succ_eq_append_getElem hlt,List.filter_append,←h4];simp[hq]
       ·have e1:(b.drop j).drop 1=(a.drop j).drop 1:=by rw[h5]
        simpa[List.drop_drop]using e1
      ·have hq0:ji n s a[j]=false:=by simpa using hq
       have hq':qT n a[j].u s=false:=hq0;simp(config := { maxSteps := 3000000 }) [w2,w3,hlt,hjb,r1,r2,h3,hq',vz,hib',o1,o2,o4,isfn3];refine⟨by omega,i+1,j+1,b.set i a[j],⟨by omega,by omega,by simp[h3],?_,hdrop _⟩,⟨⟨by omega,by omega⟩,rfl⟩,by omega⟩;rw[List.take_succ_eq_append_getElem hlt,List.filter_append,←h4,List.take_succ_eq_append_getElem (by simp;omega)];simp[hq0,List.take_set_of_le]
     ·simp(config := { maxSteps := 3000000 }) [hlt,h3];have hja:j=a.length:=by omega
      subst hja;rw[List.take_length]at h4;have h3r:=bI b;refine⟨⟨by omega,h3r⟩,⟨by omega,?_⟩,?_⟩
      ·rintro x (hx|⟨_,rfl⟩|hx);·exact h3r x (List.mem_of_mem_take hx)
       ·rfl
       ·exact h3r x (List.mem_of_mem_drop hx)
      ·rw[List.take_append_of_le_length (by simp;omega),List.take_take,Nat.min_self];unfold kT;rw[←h4];simp[aw,List.map_take]
   ·have hw:nA (ji n s) a=-1:=by apply jF;have:=hr;simp only[List.any_eq_true,not_exists,not_and]at this;intro e he;simpa using this e he
    have hfil:kT a n s=a:=by unfold kT;rw[List.filter_eq_self];intro e he;have:=hr;simp only[List.any_eq_true,not_exists,not_and]at this;simpa using this e he
    simp(config := { maxSteps := 3000000 }) [hw,hfil,hl9,o1,o2];exact o3
  ·cases h
 ·cases h
@[simp] noncomputable def HC:List AV→Option (Prop×AV)|[.agg [.pv (.ro a)],.pv (.int .u64 n),.pv (.int .u64 s)]=>(dec rowP a).map fun l=>(l.length≤1000000∧cU n∧cU s∧∀e∈l,cU e.u,.agg [.fr 134 (aw (kT l n s))])|_=>none
theorem Od:aN Tryz.prog 175 HC:=by
 intro ys φ r h hφ;unfold HC at h;split at h
 ·rename_i ra n s;obtain⟨a,ha,h⟩:=Option.map_eq_some_iff.1 h;cases h;cases aE ha;obtain⟨hl6,o1,o2,o3⟩:=hφ;have hl8:a.length≤100000000:=by omega
  refine aq (ag oI (eD (p:=0) (k:=998) MY (by kernel_rfl) ah)) (by kernel_rfl) (by conv=>lhs;reduce) (by simp) ?_;simp(config := { maxSteps := 3000000 }) [hl6,hl8,o1,o2];exact⟨o3,aY _⟩
 ·cases h
@[simp] noncomputable def GrLive:List AV→Option (Prop×AV)|[.pv (.ro a),.pv (.int .u64 n),.pv (.int .u64 s)]=>(dec rowP a).map fun l=>(l.length≤1000000∧cU n∧cU s∧∀e∈l,cU e.u,.fr 162 (aw (kT l n s)))|_=>none
def AT (l:List Pn) (e:Pn):List Pn×Int:=if kz (l++[e])=true then(l++[e],0) else([],2)
@[simp] noncomputable def Mm:List AV→Option (Prop×AV)|[.agg [.pv (.ro a)],.agg [.pv (.int .u64 x),.pv (.int .u64 y),.pv (.int .u64 z)]]=>(dec rowP a).map fun l=>(l.length≤1000000,.aJ [.agg [.fr 134 (aw (AT l ⟨x,y,z⟩).1)],.pv (.int .i64 (AT l ⟨x,y,z⟩).2)])|_=>none
theorem NH:aN Tryz.prog 173 Mm:=by
 intro ys φ r h hφ;unfold Mm at h;split at h
 ·rename_i ra x y z;obtain⟨a,ha,h⟩:=Option.map_eq_some_iff.1 h;cases h;cases aE ha;have hl8:a.length≤100000000:=by omega
  have hinf:(Tryz.prog.info? 134).isSome=true:=by kernel_rfl
  have hap:aw a++[[PV.int .u64 x,.int .u64 y,.int .u64 z]]=aw (a++[⟨x,y,z⟩]):=by rw[dM];rfl
  refine aq (ag oI (ag zw ah)) (by kernel_rfl) (by conv=>lhs;reduce) (by simp) ?_;unfold AT;by_cases hr:kz (a++[⟨x,y,z⟩])=true;·simp(config := { maxSteps := 3000000 }) [hl8,hr,hap,hinf,aH];exact⟨⟨by omega,by omega⟩,by omega⟩
  ·simp(config := { maxSteps := 3000000 }) [hl8,hr,hap,hinf,aH];exact⟨⟨by omega,by omega⟩,by omega⟩
 ·cases h
@[simp] noncomputable def GrAdd:List AV→Option (Prop×AV)|[.pv (.ro a),.agg [.pv (.int .u64 x),.pv (.int .u64 y),.pv (.int .u64 z)]]=>(dec rowP a).map fun l=>(l.length≤1000000,.aJ [.fr 162 (aw (AT l ⟨x,y,z⟩).1),.pv (.int .i64 (AT l ⟨x,y,z⟩).2)])|_=>none
def Hz (n:Int):List Pn→List Pn|[]=>[]|e::l=>if e.i=n then l else e::Hz n l
def zl (l:List Pn) (n:Int):Bool:=l.any fun e=>decide (e.i=n)
def AX (l:List Pn) (n:Int):List Pn×Int:=if zl l n=true then(Hz n l,0) else([],80)
theorem Az (n:Int):∀l:List Pn,zl l n=true→∃k:Nat,nA (fun e=>decide (e.i=n)) l=(k:Int)∧k<l.length∧Hz n l=l.take k++l.drop (k+1)
 |[],h=>by simp[zl]at h|x::l,h=>by
  by_cases hx:x.i=n;·refine⟨0,?_,by simp,by simp[Hz,hx]⟩;exact yp (i:=0) (by simp) (by simpa using hx) (by simp)
  ·have h':zl l n=true:=by simpa[zl,hx]using h
   obtain⟨k,h1,h2,h3⟩:=Az n l h';refine⟨k+1,?_,by simp;omega,by simp[Hz,hx,h3]⟩;unfold nA at h1 ⊢;split at h1
   ·rename_i hlt;have hf:(x::l).findIdx (fun e=>decide (e.i=n))=l.findIdx (fun e=>decide (e.i=n))+1:=by rw[List.findIdx_cons];simp[hx]
    rw[hf,if_pos (by rw[List.length_cons];omega)];omega
   ·omega
@[simp] noncomputable def L4:List AV→Option (Prop×AV)|[.pv .nil,.pv (.int .i64 n)]=>some (0≤n∧n≤1000000,.fr 134 [])|_=>none
theorem MW:m7 Tryz.prog 202 L4:=by
 intro ys φ r h hφ;unfold L4 at h;split at h
 ·rename_i n;cases h;obtain⟨h1,h2⟩:=hφ;have hinf:(Tryz.prog.info? 134).isSome=true:=by kernel_rfl
  have w0:IntKind.i64.wrap 0=0:=wrap_i64 (by omega);have w1:IntKind.i64.wrap n=n:=wrap_i64 (by omega);refine mn ah (by kernel_rfl) (by conv=>lhs;reduce) (by simp) (by simp[cP,lZ,iA]) (by simp) ?_;have hn0:¬n<0:=by omega
  by_cases h0:0<n;·simp(config := { maxSteps := 3000000 }) [hn0,h0,w0,w1,hinf];exact⟨h1,by omega,by omega⟩
  ·simp(config := { maxSteps := 3000000 }) [hn0,h0,w0,w1,hinf]
 ·cases h
@[simp] noncomputable def T7:List AV→Option (Prop×AV)|[.pv (.ro [[.ro a],[.ro b]])]=>(dec rowP a).bind fun la=>(dec rowP b).map fun lb=>(la.length≤100000∧lb.length≤100000,.fr 134 (aw (la++lb)))|_=>none
theorem c_Cat:aN Tryz.prog 188 T7:=by
 intro ys φ r h hφ;unfold T7 at h;split at h
 ·rename_i ra rb;obtain⟨a,ha,h⟩:=Option.bind_eq_some_iff.1 h;obtain⟨b,hb,h⟩:=Option.map_eq_some_iff.1 h;cases h;cases aE ha;cases aE hb;obtain⟨hla,hlb⟩:=hφ;have h3a:=bI a;have h3b:=bI b;have w1:IntKind.i64.wrap 1=1:=wrap_i64 (by omega);have w2:IntKind.i64.wrap 2=2:=wrap_i64 (by omega);have wa:IntKind.i64.wrap (a.length:Int)=a.length:=wrap_i64 (by omega);have wab:IntKind.i64.wrap ((a.length:Int)+(b.length:Int))=(a.length:Int)+(b.length:Int):=wrap_i64 (by omega);have r0:rowAt [[PV.ro (aw a)],[PV.ro (aw b)]] 0=[.ro (aw a)]:=rfl;have r1:rowAt [[PV.ro (aw a)],[PV.ro (aw b)]] 1=[.ro (aw b)]:=rfl;have ga:¬((a.length:Int)<0):=by omega
  have gab:¬((a.length:Int)+(b.length:Int)<0):=by omega
  have gc:(a.length:Int)+(b.length:Int)≤1000000:=by omega
  have gd:(0:Int)≤(a.length:Int)+(b.length:Int):=by omega
  refine aq (eD (p:=0) (k:=997) MW (by kernel_rfl) ah) (by kernel_rfl) (by conv=>lhs;reduce) (by simp) ?_;simp(config := { maxSteps := 3000000 });refine al (fun i:Nat=>i=0∨i=1∨i=2) (fun i=>⟨[(0,.pv (.ro [[.ro (aw a)],[.ro (aw b)]])),(2,.own 2),(3,.pv (.int .i64 (if i=0 then 0 else if i=1 then(a.length:Int) else(a.length:Int)+(b.length:Int)))),(9,.pv (.ro [[.ro (aw a)],[.ro (aw b)]])),(10,.pv (.int .i64 2)),(11,.pv (.int .i64 i))],[(2,.arr 134 [])]⟩) (fun i=>2-i) [] 0 (by simp) ?_ ?_;·simp
  ·rintro i (rfl|rfl|rfl);·simp(config := { maxSteps := 3000000 }) [r0,wa,ga,w1]
   ·simp(config := { maxSteps := 3000000 }) [r1,wab,gab,w2]
   ·simp(config := { maxSteps := 3000000 }) [gc,gd];refine al (fun i:Nat=>i=0∨i=1∨i=2) (fun i=>⟨[(0,.pv (.ro [[.ro (aw a)],[.ro (aw b)]])),(2,.own 2),(6,.own 24),(25,.pv (.ro [[.ro (aw a)],[.ro (aw b)]])),(26,.pv (.int .i64 2)),(27,.pv (.int .i64 i))],[(2,.arr 134 []),(24,.arr 134 (if i=0 then[] else if i=1 then aw a else aw (a++b)))]⟩) (fun i=>2-i) [] 0 (by simp) ?_ ?_;·simp
    ·rintro i (rfl|rfl|rfl);·simp(config := { maxSteps := 3000000 }) [r0,w1,aH];exact⟨by omega,by omega,h3a⟩
     ·simp(config := { maxSteps := 3000000 }) [r1,w2,aH];exact⟨⟨by omega,by omega,h3b⟩,(dM a b).symm⟩
     ·simp(config := { maxSteps := 3000000 })
 ·cases h
@[simp] noncomputable def KG:List AV→Option (Prop×AV)|[.agg [.pv (.ro a)],.pv (.int .u64 n)]=>(dec rowP a).map fun l=>(l.length≤100000,.aJ [.agg [.fr 134 (aw (AX l n).1)],.pv (.int .i64 (AX l n).2)])|_=>none
theorem wG (l:List Pn) (i j:Int):cut (aw l) i j=aw ((l.take j.toNat).drop i.toNat):=by unfold cut aw;rw[List.map_drop,List.map_take]
theorem Pq:aN Tryz.prog 174 KG:=by
 intro ys φ r h hφ;unfold KG at h;split at h
 ·rename_i ra n;obtain⟨a,ha,h⟩:=Option.map_eq_some_iff.1 h;cases h;cases aE ha;have hl9:a.length≤1000000000:=by omega
  have hinf:(Tryz.prog.info? 134).isSome=true:=by kernel_rfl
  have h3:=bI a;have his:Tg 187 n=fun e=>decide (e.i=n):=by rfl
  refine aq (ag c_Ix (ag c_Cat ah)) (by kernel_rfl) (by conv=>lhs;reduce) (by simp) ?_;unfold AX;by_cases hh:zl a n=true
  ·obtain⟨k,hk,hkl,hke⟩:=Az n a hh;have hn0:¬((k:Int)<0):=by omega
   have w1:IntKind.i64.wrap ((k:Int)+1)=(k:Int)+1:=wrap_i64 (by omega);have c1:cut (aw a) 0 (k:Int)=aw (a.take k):=by rw[wG];simp
   have c2:cut (aw a) ((k:Int)+1) (a.length:Int)=aw (a.drop (k+1)):=by rw[wG,show((k:Int)+1).toNat=k+1 from by omega];simp
   have hl1:(a.take k).length≤100000:=by rw[List.length_take];omega
   have hl2:(a.drop (k+1)).length≤100000:=by rw[List.length_drop];omega
   have hf:∀l,bz (aw l):=aY;simp(config := { maxSteps := 3000000 }) [hh,hl9,his,hk,hn0,w1,c1,c2,hl1,hl2,hke,hf,hinf];exact⟨⟨by omega,h3⟩,⟨by omega,by omega,h3⟩,by omega,by omega⟩
  ·have hh':zl a n=false:=by simpa using hh
   have hk:nA (fun e=>decide (e.i=n)) a=-1:=by apply jF;intro e he;unfold zl at hh';rw[List.any_eq_false]at hh';simpa using hh' e he
   simp(config := { maxSteps := 3000000 }) [hh,hl9,his,hk,hinf]
 ·cases h
@[simp] noncomputable def GrRem:List AV→Option (Prop×AV)|[.pv (.ro a),.pv (.int .u64 n)]=>(dec rowP a).map fun l=>(l.length≤100000,.aJ [.fr 162 (aw (AX l n).1),.pv (.int .i64 (AX l n).2)])|_=>none
def ofP (l:List Pn) (n:Int):Bool:=l.any fun e=>decide (e.v=n)
@[simp] noncomputable def GpOf:List AV→Option (Prop×AV)|[.agg [.pv (.ro a)],.pv (.int .u64 n)]=>(dec rowP a).map fun l=>(l.length≤1000000000,.pv (.bool (ofP l n)))|_=>none
@[simp] noncomputable def GrOf:List AV→Option (Prop×AV)|[.pv (.ro a),.pv (.int .u64 n)]=>(dec rowP a).map fun l=>(l.length≤1000000000,.pv (.bool (ofP l n)))|_=>none
end Go.Proofs.YtlicclncicbajaaGreat.Ab
namespace Go.Proofs.YtlicclncicbajaaGreat.Ab
open Go Go.RowKit
section
variable{P:Program}{Γ:bJ}
theorem ax {α:Type}{o:Option α}{K K':α→Prop} (h:∀x,K x→K' x) (hs:ai o K):ai o K':=by cases o with|none=>exact hs|some x=>exact h x hs
theorem oD {d:Option Nat}{f:FuncId}{xs:List AV}{aa:Nat→Option AO}{C C':bA→Prop} (h:∀e,C e→C' e) (hs:cx P Γ d f xs aa C):cx P Γ d f xs aa C':=by unfold cx at hs ⊢;refine ax (fun d hs=>⟨hs.1,ax (fun ys hs=>ax (fun x hs=>?_) hs) hs.2⟩) hs;exact⟨hs.1,hs.2.1,hs.2.2.1,hs.2.2.2.1,h _ hs.2.2.2.2⟩
theorem lO {i:AI}{K K':St→Prop} (h:∀st,K st→K' st) {st:St} (hs:cR P Γ i K st):cR P Γ i K' st:=by obtain⟨e,he,hk⟩:=cp.1 hs;exact cp.2 ⟨e,he,h _ hk⟩
theorem tN {i:AI}{f:FuncId}{K K':St→Prop} (h:∀st,K st→K' st) {st:St} (hs:l8 P Γ i f K st):l8 P Γ i f K' st:=by
 unfold l8 at hs ⊢;refine ax (fun ys hs=>ax (fun x hs=>?_) hs) hs;split at hs;·rename_i hc;rw[if_pos hc];exact oD (fun e he=>h _ he) hs
 ·rename_i hc;rw[if_neg hc];exact lO h hs
theorem nQ {b f:Bool}{A B A' B':Prop} (hA:A→A') (hB:B→B') (h:gN b f A B):gN b f A' B':=by cases b with|false=>exact hA h|true=>cases f with|false=>exact hA h|true=>exact hB h
theorem th {i:AI}{K K':St→Prop} (h:∀st,K st→K' st) {st:St} (hs:bZ P Γ i K st):bZ P Γ i K' st:=by
 unfold bZ at hs ⊢;split at hs;·exact lO h hs
 ·exact nQ (lO h) (h _) hs
theorem qQ {i:AI}{K K':St→Prop} (h:∀st,K st→K' st) {st:St} (hs:jm P Γ i K st):jm P Γ i K' st:=by
 have hE:∀{st:St}{d:Option Nat}{x:XK}{xs:List AV},aU d x xs K st→aU d x xs K' st:=by
  intro st d x xs hs;unfold aU at hs ⊢;split at hs;·exact ax (fun d hs=>⟨hs.1,h _ hs.2⟩) hs
  ·exact⟨hs.1,ax (fun es hs=>⟨hs.1,hs.2.1,hs.2.2.1,h _ hs.2.2.2⟩) hs.2⟩
  ·exact⟨hs.1,ax (fun es hs=>⟨hs.1,hs.2.1,h _ hs.2.2⟩) hs.2⟩
  ·unfold qE at hs ⊢;split at hs;·exact⟨hs.1,hs.2.1,h _ hs.2.2⟩
   ·exact hs
  ·exact⟨hs.1,ax (fun rows hs b hb=>h _ (hs b hb)) hs.2⟩
  ·exact⟨hs.1,h _ hs.2⟩
  ·unfold me at hs ⊢;split at hs;·exact ax (fun d hs=>⟨hs.1,hs.2.1,hs.2.2.1,h _ hs.2.2.2⟩) hs
   ·exact hs
  ·exact ax (fun d hs=>⟨hs.1,hs.2.1,hs.2.2.1,h _ hs.2.2.2⟩) hs
  ·unfold zu at hs ⊢;split at hs;·exact ax (fun d hs=>⟨hs.1,hs.2.1,hs.2.2.1,h _ hs.2.2.2⟩) hs
   ·exact hs
  ·exact⟨hs.1,hs.2.1,hs.2.2.1,hs.2.2.2.1,h _ hs.2.2.2.2⟩
  ·exact⟨hs.1,ax (fun r hs=>⟨hs.1,h _ hs.2⟩) hs.2⟩
  ·unfold ph at hs ⊢;split at hs
   ·unfold vn at hs ⊢;split at hs;·exact⟨hs.1,ax (fun r hs=>⟨hs.1,hs.2.1,h _ hs.2.2⟩) hs.2⟩
    ·exact hs
   ·unfold sf at hs ⊢;split at hs;·exact⟨hs.1,ax (fun r hs=>ax (fun j hs=>ax (fun s hs=>ax (fun ps hs=>h _ hs) hs) hs) hs) hs.2⟩
    ·exact hs
   ·exact ax (fun d hs=>⟨hs.1,h _ hs.2⟩) hs
   ·unfold qK at hs ⊢;split at hs;·exact⟨hs.1,ax (fun r hs=>⟨hs.1,hs.2.1,h _ hs.2.2⟩) hs.2⟩
    ·exact hs
   ·unfold vh at hs ⊢;split at hs;·exact⟨hs.1,ax (fun r hs=>⟨hs.1,hs.2.1,hs.2.2.1,h _ hs.2.2.2⟩) hs.2⟩
    ·exact hs
   ·unfold vd at hs ⊢;split at hs;·exact⟨hs.1,ax (fun r hs=>⟨hs.1,hs.2.1,h _ hs.2.2⟩) hs.2⟩
    ·exact hs
   ·exact⟨hs.1,ax (fun r hs=>h _ hs) hs.2⟩
   ·unfold wc at hs ⊢;split at hs;·exact ax (fun d hs=>⟨hs.1,hs.2.1,h _ hs.2.2⟩) hs
    ·exact hs
   ·unfold wg at hs ⊢;split at hs;·exact⟨hs.1,ax (fun r hs=>⟨fun e=>h _ (hs.1 e),fun e l m q=>h _ (hs.2 e l m q)⟩) hs.2⟩
    ·exact hs
   ·unfold vN at hs ⊢;split at hs;·exact⟨hs.1,ax (fun r hs=>ax (fun e hs=>h _ hs) hs) hs.2⟩
    ·exact hs
   ·unfold qi at hs ⊢;exact ax (fun d hs=>⟨hs.1,ax (fun r hs=>⟨hs.1,hs.2.1,h _ hs.2.2⟩) hs.2⟩) hs
   ·exact hs
 unfold jm at hs ⊢;split at hs;·exact hE hs
 ·unfold BX at hs ⊢;refine ax (fun c hs=>?_) hs;split at hs;·rename_i h1;rw[if_pos h1];exact hE hs
  ·rename_i h1;rw[if_neg h1];exact h _ hs
 ·exact th h hs
 ·rename_i e sz zs e1 e2;unfold ot at hs ⊢;exact⟨hs.1,ax (fun X hs=>ax (fun r hs=>h _ hs) hs) hs.2⟩
 ·unfold Cu lL at hs ⊢;split at hs
  ·split at hs
   ·rename_i h0;rw[if_pos h0];refine ax (fun c hs=>?_) hs;split at hs;·rename_i h2;rw[if_pos h2];exact gg h hs
    ·rename_i h2;rw[if_neg h2];exact h _ hs
   ·exact hs.elim
  refine nQ (fun hs=>?_) (h _) hs;refine ax (fun c hs=>ax (fun ys hs=>ax (fun x hs=>?_) hs) hs) hs;split at hs
  ·rename_i h1;rw[if_pos h1];split at hs;·rename_i h2;rw[if_pos h2];exact tN h hs
   ·rename_i h2;rw[if_neg h2];exact h _ hs
  ·rename_i h1;rw[if_neg h1];exact lO h hs
 ·unfold fH at hs ⊢;split at hs
  ·refine⟨hs.1,ax (fun x hs=>⟨hs.1,?_⟩) hs.2⟩;have hs:=hs.2;unfold eH at hs ⊢;split at hs
   ·split at hs;·rename_i h1;rw[if_pos h1];exact gg h hs
    ·exact hs.elim
   ·exact oD (fun e he=>h _ he) hs
  ·refine nQ (fun hs=>?_) (h _) hs;unfold qc at hs ⊢;refine ax (fun c hs=>ax (fun x hs=>⟨hs.1,?_⟩) hs) hs;have hs:=hs.2;unfold gZ at hs ⊢;split at hs
   ·split at hs
    ·rename_i h1;rw[if_pos h1];split at hs;·rename_i h2;rw[if_pos h2];exact⟨hs.1,gg h hs.2⟩
     ·rename_i h2;rw[if_neg h2];exact h _ hs
    ·exact hs.elim
   unfold Ak at hs ⊢;exact ax (fun ys hs=>ax (fun x hs=>⟨hs.1,hs.2.1,hs.2.2.1,hs.2.2.2.1,hs.2.2.2.2.1,h _ hs.2.2.2.2.2⟩) hs) hs
 ·unfold gH at hs ⊢;split at hs
  ·split at hs;·rename_i h1;rw[if_pos h1];unfold yJ at hs ⊢;exact ax (fun d hs=>⟨hs.1,ax (fun ys hs=>ax (fun x hs=>⟨hs.1,hs.2.1,hs.2.2.1,hs.2.2.2.1,h _ hs.2.2.2.2⟩) hs) hs.2⟩) hs
   ·rename_i h1;rw[if_neg h1];split at hs;·rename_i h2;rw[if_pos h2];exact gg h hs
    rename_i h2;rw[if_neg h2];unfold kJ at hs ⊢;refine ax (fun d hs=>⟨hs.1,ax (fun X hs=>ax (fun T hs=>⟨hs.1,ax (fun ys hs=>ax (fun x hs=>?_) hs) hs.2⟩) hs) hs.2⟩) hs;exact⟨hs.1,hs.2.1,hs.2.2.1,hs.2.2.2.1,h _ hs.2.2.2.2⟩
  ·exact tN h hs
 ·exact lO h hs
 ·exact th h hs
theorem uv {i:AI}{K K':St→Prop} (h:∀st,K st→K' st) {st:St} (hs:bV P Γ i K st):bV P Γ i K' st:=by
 unfold bV at hs ⊢;split at hs
 ·split at hs;·rename_i h1;rw[if_pos h1];exact⟨hs.1,ax (fun r hs=>⟨hs.1,hs.2.1,h _ hs.2.2⟩) hs.2⟩
  ·rename_i h1;rw[if_neg h1];exact qQ h hs
 ·exact qQ h hs
theorem lT {K K':St→Prop} (h:∀st,K st→K' st):∀{is:List AI}{st:St},cK P Γ is K st→cK P Γ is K' st|[],st,hs=>h st hs|i::is,st,hs=>uv (fun st hs=>lT h hs) hs
theorem zK {K K':St→Prop} (h:∀st,K st→K' st):∀{is:List AI}{st:St},steps P Γ is K st→steps P Γ is K' st|[],st,hs=>h st hs|i::is,st,hs=>iJ (fun st hs=>zK h hs) hs
theorem eR:∀{a:AC}{K K':St→Prop}{J J':Exit→St→Prop}{st:St},(∀st,K st→K' st)→(∀e st,J e st→J' e st)→hZ P Γ a K J st→hZ P Γ a K' J' st
 |.skip,_,_,_,_,st,h,_,hs=>h st hs|.HW is d cq,_,_,_,_,st,h,_,hs=>by
  unfold hZ at hs ⊢;split at hs;·rename_i hd;rw[if_pos hd];exact zK (fun st hs=>h _ hs) hs
  ·rename_i hd;rw[if_neg hd];exact lT (fun st hs=>h _ hs) hs|.seq a b,_,_,_,_,st,h,hj,hs=>eR (a:=a) (fun st hs=>eR (a:=b) h hj hs) hj hs|.cond x a b,_,_,_,_,st,h,hj,hs=>ax (fun c hs=>⟨fun e=>eR (a:=a) h hj (hs.1 e),fun e=>eR (a:=b) h hj (hs.2 e)⟩) (show ai _ _ from hs)|.block id a,K,K',J,J',st,h,hj,hs=>eR (a:=a) h (fun e st hs=>by cases e with
   |exit id'=>
    simp only[oE]at hs ⊢;split at hs;·rename_i h1;rw[if_pos h1];exact h _ hs
    ·rename_i h1;rw[if_neg h1];exact hj _ _ hs|_=>exact hj _ _ hs) (show hZ P Γ a K (oE id K J) st from hs)|.loop a,_,_,_,_,st,h,hj,hs=>by obtain⟨ι,F,μ,ad,shs,i0,hw,hr⟩:=hs;exact⟨ι,F,μ,ad,shs,i0,hw,fun i=>eR (a:=a) (fun st hs=>hs) hj (hr i)⟩|.exit id,_,_,_,_,st,_,hj,hs=>hj _ _ hs|.ret,_,_,_,_,st,_,hj,hs=>hj _ _ hs
theorem af {a b:AC}{K:St→Prop}{J:Exit→St→Prop}{st:St} (vs:List (Nat×AV)) (os:List (Nat×AO)) (h1:hZ P Γ a (fun st'=>st'=⟨look vs,ab os⟩) J st) (h2:hZ P Γ b K J ⟨look vs,ab os⟩):hZ P Γ (.seq a b) K J st:=eR (a:=a) (fun st' (hs:st'=_)=>by rw[hs];exact h2) (fun _ _ h=>h) h1
theorem cj {x:Operand}{a b:AC}{K:St→Prop}{J:Exit→St→Prop}{vs:List (Nat×AV)}{os:List (Nat×AO)} (h:iW (ev (look vs) x)=some true) (h1:hZ P Γ a K J ⟨look vs,ab os⟩):hZ P Γ (.cond x a b) K J ⟨look vs,ab os⟩:=by rw[R.zh,h];exact⟨fun _=>h1,fun e=>Bool.noConfusion e⟩
theorem eI {x:Operand}{a b:AC}{K:St→Prop}{J:Exit→St→Prop}{vs:List (Nat×AV)}{os:List (Nat×AO)} (h:iW (ev (look vs) x)=some false) (h1:hZ P Γ b K J ⟨look vs,ab os⟩):hZ P Γ (.cond x a b) K J ⟨look vs,ab os⟩:=by rw[R.zh,h];exact⟨fun e=>Bool.noConfusion e,fun _=>h1⟩
theorem GX {a:AC}{K:St→Prop}{J:Exit→St→Prop}{st:St} (vs:List (Nat×AV)) (os:List (Nat×AO)) (h1:hZ P Γ a (fun st'=>st'=⟨look vs,ab os⟩) J st) (h2:K ⟨look vs,ab os⟩):hZ P Γ a K J st:=eR (a:=a) (fun st' (hs:st'=_)=>by rw[hs];exact h2) (fun _ _ h=>h) h1
theorem b6 {a b:AC}{K:St→Prop}{J:Exit→St→Prop}{st:St} (Q:St→Prop) (h1:hZ P Γ a Q J st) (h2:∀st',Q st'→hZ P Γ b K J st'):hZ P Γ (.seq a b) K J st:=eR (a:=a) (fun st' hs=>h2 st' hs) (fun _ _ h=>h) h1
theorem BG {is js:List AI}{K:St→Prop}{st:St} (vs:List (Nat×AV)) (os:List (Nat×AO)) (h1:cK P Γ is (fun st'=>st'=⟨look vs,ab os⟩) st) (h2:cK P Γ js K ⟨look vs,ab os⟩):cK P Γ (is++js) K st:=by
 have key:∀(is:List AI) (st:St),cK P Γ is (fun st'=>cK P Γ js K st') st→cK P Γ (is++js) K st:=by intro is;induction is with|nil=>exact fun st h=>h|cons i is ih=>exact fun st h=>uv (fun st hs=>ih st hs) h
 exact key is st (lT (fun st' (hs:st'=_)=>by rw[hs];exact h2) h1)
theorem Dm (k:Nat) {is:List AI}{K:St→Prop}{st:St} (vs:List (Nat×AV)) (os:List (Nat×AO)) (h1:cK P Γ (is.take k) (fun st'=>st'=⟨look vs,ab os⟩) st) (h2:cK P Γ (is.drop k) K ⟨look vs,ab os⟩):cK P Γ is K st:=by have:=BG vs os h1 h2;rwa[List.take_append_drop]at this
theorem iU (k:Nat) {is l1 l2:List AI}{K:St→Prop}{st:St}{vs:List (Nat×AV)}{os:List (Nat×AO)} (e1:is.take k=l1) (e2:is.drop k=l2) (h1:cK P Γ l1 (fun st'=>st'=⟨look vs,ab os⟩) st) (h2:cK P Γ l2 K ⟨look vs,ab os⟩):cK P Γ is K st:=by subst e1 e2;exact Dm k vs os h1 h2
theorem IS {f:FuncId}{args:List AV}{e:TypeId}{rows:List (List PV)} (h:rT P f [] args [] (.fr e rows)):rT P f [] args [] (.pv (.ro rows)):=by
 intro w S0 β vals h1 h2 h3 h4 h5;have hno:∀t,bn (ab []) (fun t=>dm (cellAt (.pv (.ro rows)) t)) t=none:=by
  intro t;show dm (cellAt (.pv (.ro rows)) t)=none;simp only[cellAt,bD];split;·split<;>rfl
  ·rfl
 refine(h w S0 β vals h1 h2 h3 h4 h5).mono ?_;rintro ex w' ⟨v,β',rfl,hF,hH,ho,hv⟩;have hob:(bn (ab []) fun t=>dm (cellAt (.fr e rows) t)) 0=some (.arr e rows):=rfl;have hv0:RV P (aS S0 w.heap.size β' (bn (ab []) fun t=>dm (cellAt (.fr e rows) t)) w') w' β' (ay (bn (ab []) fun t=>dm (cellAt (.fr e rows) t))) v (.own 0):=hv;have hve:=hv0.aR.1;have hh:=hH.holds 0 _ hob;obtain⟨hr,_⟩:=pI (S':=aS S0 w.heap.size β' (bn (ab []) fun t=>dm (cellAt (.pv (.ro rows)) t)) w') hh (fun b hb=>⟨hb.1,hb.2.1,fun⟨t,o,hto,_⟩=>by rw[hno]at hto;cases hto⟩) (fun b hb=>⟨.inr ((ho 0 b ⟨_,hob⟩ hb).resolve_right fun⟨t,o,hto,_⟩=>by cases hto),hh.lt b hb,fun⟨t,o,hto,_⟩=>by rw[hno]at hto;cases hto⟩);exact⟨v,β',rfl,hF,⟨(fun t o hto=>by rw[hno]at hto;cases hto),(fun t t' b ⟨o,hto⟩=>by rw[hno]at hto;cases hto)⟩,(fun t b ⟨o,hto⟩=>by rw[hno]at hto;cases hto),.pv _ _ (hve▸hr)⟩
@[simp] def pubA:AV→AV|.fr _ rows=>.pv (.ro rows)|v=>v
@[simp] def VC (G:List AV→Option (Prop×AV)) (ys:List AV):Option (Prop×AV):=(G ys).map fun x=>(x.1,pubA x.2)
theorem tP {f:FuncId}{G:List AV→Option (Prop×AV)} (h:R.aN P f G):R.aN P f (VC G):=by intro ys φ r hg hφ;unfold VC at hg;obtain⟨⟨φ',r'⟩,hx,he⟩:=Option.map_eq_some_iff.1 hg;cases he;have:=h ys φ' r' hx hφ;cases r'<;>first|exact IS this|exact this
end
end Go.Proofs.YtlicclncicbajaaGreat.Ab
