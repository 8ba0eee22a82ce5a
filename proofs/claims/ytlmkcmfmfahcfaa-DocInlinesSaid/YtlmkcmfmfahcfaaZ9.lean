/- How the abstract machine reckons: objects handed over whole, maps of plain values, ranges. -/
import Derived.Test.YtlmkcmfmfahcfaaZ8
set_option linter.unusedVariables false
set_option linter.unusedSimpArgs false
set_option linter.unnecessarySimpa false
set_option maxHeartbeats 40000000
set_option maxRecDepth 100000
namespace Go.Proofs.Ytlmkcmfmfahcfaa.Ab.R
open Go Go.RowKit
section
variable {P:Program}{Γ:Tab}{K:St→Prop}{vs:List (Nat × AV)}{os:List (Nat × AO)}
@[simp ↓] theorem stepEx_mkv {d:Nat}:stepEx (some d) .mkv [] K ⟨look vs,lookO os⟩=(lookO os d=none∧K ⟨put (some d) (.own d) (look vs),addL [(d,.mpv [])] (lookO os)⟩):=rfl
@[simp ↓] theorem stepEx_puv {d:Option Nat}{s:Nat}{x y z:AV}:stepEx d (.puv s) [x,y,z] K ⟨look vs,lookO os⟩=exPuv d s (strip x) (strip y) (nrmF (strip z)) [x,y,z] K ⟨look vs,lookO os⟩:=rfl
@[congr] theorem exPuv_congr {d:Option Nat}{s:Nat}{x x' y y' z z':AV}{xs:List AV}{st:St} (h1:True→x=x') (h2:True→y=y') (h3:True→z=z'):exPuv d s x y z xs K st=exPuv d s x' y' z' xs K st:=by rw [h1 trivial,h2 trivial,h3 trivial]
@[simp ↓] theorem exPuv_eq {d:Option Nat}{s t:Nat}{k v:PV}{xs:List AV}:exPuv d s (.own t) (.pv k) (.pv v) xs K ⟨look vs,lookO os⟩=(asksL xs∧withO (mpvO (lookO os t)) fun es=>srt k=s∧keysV s es∧K ⟨put d .junk (look vs),addO t (.mpv (putV k v es)) (lookO os)⟩):=rfl
@[simp ↓] theorem stepEx_gev {d:Option Nat}{s:Nat}{z:Value}{ok:Bool}{x y:AV}:stepEx d (.gev s z ok) [x,y] K ⟨look vs,lookO os⟩=exGev d s z ok (strip x) (strip y) [x,y] K ⟨look vs,lookO os⟩:=rfl
@[simp ↓] theorem exGev_eq {d:Option Nat}{s:Nat}{z:Value}{ok:Bool}{X:AV}{k:PV}{xs:List AV}:exGev d s z ok X (.pv k) xs K ⟨look vs,lookO os⟩=(asksL xs∧withO (mvOf (lookO os) X) fun es=>z.oneCell'=true∧srt k=s∧keysV s es∧K ⟨put d (gotV z ok (getV k es)) (look vs),lookO os⟩):=rfl
@[simp ↓] theorem stepEx_dlv {d:Option Nat}{s:Nat}{x y:AV}:stepEx d (.dlv s) [x,y] K ⟨look vs,lookO os⟩=exDlv d s (strip x) (strip y) [x,y] K ⟨look vs,lookO os⟩:=rfl
@[simp ↓] theorem exDlv_eq {d:Option Nat}{s t:Nat}{k:PV}{xs:List AV}:exDlv d s (.own t) (.pv k) xs K ⟨look vs,lookO os⟩=(asksL xs∧withO (mpvO (lookO os t)) fun es=>srt k=s∧keysV s es∧K ⟨put d .junk (look vs),addO t (.mpv (delV k es)) (lookO os)⟩):=rfl
@[simp ↓] theorem stepEx_pnil {d:Option Nat}{ne:Bool}{x:AV}:stepEx d (.pnil ne) [x] K ⟨look vs,lookO os⟩=(asksL [x]∧withO (isNilP (strip x)) fun b=>K ⟨put d (.pv (.bool (b != ne))) (look vs),lookO os⟩):=rfl
@[simp ↓] theorem stepEx_rng {d:Option Nat}{x:AV}:stepEx d .rng [x] K ⟨look vs,lookO os⟩=exRng d (strip x) [x] K ⟨look vs,lookO os⟩:=rfl
@[simp ↓] theorem exRng_eq {d:Nat}{es:List (PV × PV)}{xs:List AV}:exRng (some d) (.pv (.mv es)) xs K ⟨look vs,lookO os⟩=(asksL xs∧lookO os d=none∧K ⟨put (some d) (.ptr d 0) (look vs),addL [(d,.itr es none)] (lookO os)⟩):=rfl
@[simp ↓] theorem stepEx_nxt {d:Option Nat}{x:AV}:stepEx d .nxt [x] K ⟨look vs,lookO os⟩=exNxt d (strip x) [x] K ⟨look vs,lookO os⟩:=rfl
@[simp ↓] theorem exNxt_eq {d:Option Nat}{t:Nat}{xs:List AV}:exNxt d (.ptr t 0) xs K ⟨look vs,lookO os⟩=(asksL xs∧withO (itrO (lookO os t)) fun r=>(r.1=[]→K ⟨put d (.tup [.pv (.bool false)]) (look vs),lookO os⟩) ∧
   ∀(e:PV × PV) (l m:List (PV × PV)),r.1=l++e::m→K ⟨put d (.tup [.pv (.bool true),.pv e.1,.pv e.2]) (look vs),addO t (.itr (l++m) (some e)) (lookO os)⟩):=rfl
@[simp ↓] theorem stepEx_ent {d:Option Nat}{x:AV}:stepEx d .ent [x] K ⟨look vs,lookO os⟩=exEnt d (strip x) [x] K ⟨look vs,lookO os⟩:=rfl
@[simp ↓] theorem exEnt_eq {d:Option Nat}{t:Nat}{xs:List AV}:exEnt d (.ptr t 0) xs K ⟨look vs,lookO os⟩=(asksL xs∧withO (itrO (lookO os t)) fun r=>withO r.2 fun e=>K ⟨put d (.tup [.pv e.1,.pv e.2]) (look vs),lookO os⟩):=rfl
@[simp ↓] theorem stepG_eq {d f:Nat}{ks:List Nat}{xs:List AV}:stepG Γ (some d) f xs (some ks) K ⟨look vs,lookO os⟩=(asksL xs∧stepG1 Γ d f ks (xs.map strip) (tagsG (lookO os) ks (xs.map strip)) ((lentG ks (xs.map strip)).flatMap tops) K ⟨look vs,lookO os⟩):=rfl
@[congr] theorem stepG_congr {d:Option Nat}{f:Nat}{xs xs':List AV}{o o':Option (List Nat)}{st:St} (h1:True→xs=xs') (h2:True→o=o'):stepG Γ d f xs o K st=stepG Γ d f xs' o' K st:=by rw [h1 trivial,h2 trivial]
@[simp ↓] theorem stepG1_eq {d f:Nat}{ks:List Nat}{xs:List AV}{T Q:List Nat}:stepG1 Γ d f ks xs T Q K ⟨look vs,lookO os⟩=(T.Nodup∧(∀t∈Q,t∈T)∧stepG2 Γ d f ks xs T Q (T.filter fun t=>!Q.contains t) K ⟨look vs,lookO os⟩):=rfl
@[simp ↓] theorem stepG2_eq {d f:Nat}{ks:List Nat}{xs:List AV}{T Q W:List Nat}:stepG2 Γ d f ks xs T Q W K ⟨look vs,lookO os⟩=(Q.Nodup∧withO (ysG (lookO os) (wipeM T T (lookO os)) T ks xs) fun ys=>stepG3 Γ d f ks xs T Q W K ⟨look vs,lookO os⟩ ys):=rfl
@[simp ↓] theorem stepG3_eq {d f:Nat}{ks:List Nat}{xs ys:List AV}{T Q W:List Nat}:stepG3 Γ d f ks xs T Q W K ⟨look vs,lookO os⟩ ys=withO (Γ (f+2000000) ys) fun x=>x.1∧(puresG T ks xs=true∨∀y∈outG x.2++[retG x.2],flatG 5 y) ∧
  withO (numW (num 5 true) (outG x.2) (Q,poolG d T W)) fun o=>o.1=lentG ks xs∧withO (num 5 false (retG x.2) o.2.2) fun r=>
   (∀p∈o.2.1++r.2.1,T.contains p.1=true∨lookO os p.1=none)∧K ⟨put (some d) r.1 (wipeV W (look vs)),addL (o.2.1++r.2.1) (wipeM T W (lookO os))⟩:=rfl
end
@[simp ↓] theorem semK_gev {P:Program}{Γ:Tab}{d:Option Nat}{s:Nat}{z:Value}{ok:Bool}{x y:AV}{objs:Nat→Option AO}{C:Eff→Prop}:semK P Γ d (.ex (.gev s z ok)) [x,y] objs C=(asksL [x,y]∧withO (semQ (.ex (.gev s z ok)) [strip x,strip y] objs) fun r=>r.1∧C (.put r.2)):=rfl
@[simp] theorem semQ_gev {s:Nat}{z:Value}{ok:Bool}{es:List (PV × PV)}{k:PV}{objs:Nat→Option AO}:semQ (.ex (.gev s z ok)) [.pv (.mv es),.pv k] objs=some (z.oneCell'=true∧srt k=s∧keysV s es,gotV z ok (getV k es)):=nr rfl
@[simp] theorem putV_nil (k v:PV):putV k v []=[(k,v)]:=nr rfl
@[simp] theorem putV_int (k k':IntKind) (a b:Int) (v x:PV) (l:List (PV × PV)):putV (.int k a) v ((.int k' b,x)::l)=if a=b then (.int k a,v)::l else (.int k' b,x)::putV (.int k a) v l:=by simp [putV,eqP]
@[simp] theorem getV_int (k k':IntKind) (a b:Int) (x:PV) (l:List (PV × PV)):getV (.int k a) ((.int k' b,x)::l)=if a=b then some x else getV (.int k a) l:=by simp [getV,eqP]
@[simp] theorem keysV_cons (s:Nat) (e:PV × PV) (l:List (PV × PV)):keysV s (e::l)=(srt e.1=s∧keysV s l):=by simp [keysV]
@[simp] theorem cloOf_val {f:FuncId}{args:List AV}:cloOf (.pv (.val (.func (.func f) #[] #[]))::args)=some (f,args):=nr rfl
@[simp] theorem shP_own (t s:Nat) (es:List (PV × PV)):shP t es (.own s)=if s=t then .pv (.mv es) else .own s:=nr rfl
@[simp] theorem pubM_eq (vs:List (Nat × AV)) (os:List (Nat × AO)) (t:Nat):pubM t ⟨look vs,lookO os⟩=match mpvO (lookO os t) with
  |some es=>⟨look (vs.map fun x=>(x.1,shP t es x.2)),lookO (rmL t os)⟩
  |none=>⟨look vs,lookO os⟩:=by
 unfold pubM
 dsimp only
 cases mpvO (lookO os t) with
 |none=>rfl
 |some es=>
  dsimp only
  rw [shM_look]
  congr 1
  funext s
  induction vs with
  |nil=>rfl
  |cons x l ih=>
   simp only [List.map_cons,look]
   split
   ·rfl
   ·exact ih
@[simp] theorem mpvO_some (es:List (PV × PV)):mpvO (some (.mpv es))=some es:=nr rfl
@[simp] theorem gotV_t (z:Value) (o:Option PV):gotV z true o=.tup [.pv (o.getD (cvp z)),.pv (.bool o.isSome)]:=nr rfl
@[simp] theorem keysV_nil (s:Nat):keysV s []=True:=by simp [keysV]
@[simp] theorem getV_nil (k:PV):getV k []=none:=nr rfl
@[simp] theorem rdO_arr (e:TypeId) (rows:List (List PV)):rdO (some (.arr e rows))=some (.fr e rows):=nr rfl
@[simp] theorem rdW_nil (f:AV→Option (AV × List Nat)):rdW f []=some ([],[]):=nr rfl
@[simp] theorem rdW_cons (f:AV→Option (AV × List Nat)) (c:AV) (cs:List AV):rdW f (c::cs)=(f c).bind fun r=>(rdW f cs).map fun q=>(r.1::q.1,r.2++q.2):=nr rfl
@[simp] theorem rd_own (n:Nat) (objs:Nat→Option AO) (t:Nat):rd (n+1) objs (.own t)=(rdO (objs t)).map fun y=>(y,[t]):=nr rfl
@[simp] theorem rd_ptr (n:Nat) (objs:Nat→Option AO) (t:Nat):rd (n+1) objs (.ptr t 0)=(boxO (objs t)).bind fun cs=>(rdW (rd n objs) cs).map fun r=>(.bx r.1,t::r.2):=nr rfl
@[simp] theorem rd_agg (n:Nat) (objs:Nat→Option AO) (cs:List AV):rd (n+1) objs (.agg cs)=(rdW (rd n objs) cs).map fun r=>(.agg r.1,r.2):=nr rfl
@[simp] theorem rd_pv (n:Nat) (objs:Nat→Option AO) (p:PV):rd (n+1) objs (.pv p)=some (.pv p,[]):=nr rfl
@[simp] theorem tk_t (p:Nat) (ps us:List Nat):tk true (p::ps,us)=some (p,ps,us):=nr rfl
@[simp] theorem tk_f (u:Nat) (ps us:List Nat):tk false (ps,u::us)=some (u,ps,us):=nr rfl
@[simp] theorem numW_nil (f:AV→List Nat × List Nat→Option (AV × List (Nat × AO) × List Nat × List Nat)) (s:List Nat × List Nat):numW f [] s=some ([],[],s):=nr rfl
@[simp] theorem numW_cons (f:AV→List Nat × List Nat→Option (AV × List (Nat × AO) × List Nat × List Nat)) (c:AV) (cs:List AV) (s:List Nat × List Nat):numW f (c::cs) s=(f c s).bind fun r=>(numW f cs r.2.2).map fun q=>(r.1::q.1,r.2.1++q.2.1,q.2.2):=nr rfl
@[simp] theorem num_fr (n:Nat) (top:Bool) (e:TypeId) (rows:List (List PV)) (s:List Nat × List Nat):num (n+1) top (.fr e rows) s=(tk top s).map fun q=>(.own q.1,[(q.1,.arr e rows)],q.2):=nr rfl
@[simp] theorem num_bx (n:Nat) (top:Bool) (cs:List AV) (s:List Nat × List Nat):num (n+1) top (.bx cs) s=(tk top s).bind fun q=>(numW (num n false) cs q.2).map fun r=>(.ptr q.1 0,(q.1,.box r.1)::r.2.1,r.2.2):=nr rfl
@[simp] theorem num_agg (n:Nat) (top:Bool) (cs:List AV) (s:List Nat × List Nat):num (n+1) top (.agg cs) s=(numW (num n top) cs s).map fun r=>(.agg r.1,r.2):=nr rfl
@[simp] theorem num_tup (n:Nat) (top:Bool) (cs:List AV) (s:List Nat × List Nat):num (n+1) top (.tup cs) s=(numW (num n top) cs s).map fun r=>(.tup r.1,r.2):=nr rfl
@[simp] theorem num_pv (n:Nat) (top:Bool) (p:PV) (s:List Nat × List Nat):num (n+1) top (.pv p) s=some (.pv p,[],s):=nr rfl
@[simp] theorem tops_own (t:Nat):tops (.own t)=[t]:=nr rfl
@[simp] theorem tops_ptr (t:Nat):tops (.ptr t 0)=[t]:=nr rfl
@[simp] theorem ysG_nil (objs objs':Nat→Option AO) (T:List Nat):ysG objs objs' T [] []=some []:=nr rfl
@[simp] theorem ysG_0 (objs objs':Nat→Option AO) (T ks:List Nat) (x:AV) (xs:List AV):ysG objs objs' T (0::ks) (x::xs)=(rei objs' (wipe T x)).bind fun y=>(ysG objs objs' T ks xs).map (y :: ·):=nr rfl
@[simp] theorem ysG_1 (objs objs':Nat→Option AO) (T ks:List Nat) (x:AV) (xs:List AV):ysG objs objs' T (1::ks) (x::xs)=((rd 5 objs x).map (·.1)).bind fun y=>(ysG objs objs' T ks xs).map (y :: ·):=nr rfl
@[simp] theorem ysG_2 (objs objs':Nat→Option AO) (T ks:List Nat) (x:AV) (xs:List AV):ysG objs objs' T (2::ks) (x::xs)=((rd 5 objs x).map fun r=>.tup [r.1]).bind fun y=>(ysG objs objs' T ks xs).map (y :: ·):=nr rfl
@[simp] theorem tagsG_nil (objs:Nat→Option AO):tagsG objs [] []=[]:=nr rfl
@[simp] theorem tagsG_0 (objs:Nat→Option AO) (ks:List Nat) (x:AV) (xs:List AV):tagsG objs (0::ks) (x::xs)=tagsG objs ks xs:=nr rfl
@[simp] theorem tagsG_1 (objs:Nat→Option AO) (ks:List Nat) (x:AV) (xs:List AV):tagsG objs (1::ks) (x::xs)=((rd 5 objs x).map (·.2)).getD []++tagsG objs ks xs:=nr rfl
@[simp] theorem tagsG_2 (objs:Nat→Option AO) (ks:List Nat) (x:AV) (xs:List AV):tagsG objs (2::ks) (x::xs)=((rd 5 objs x).map (·.2)).getD []++tagsG objs ks xs:=nr rfl
@[simp] theorem lentG_nil:lentG [] []=[]:=nr rfl
@[simp] theorem lentG_0 (ks:List Nat) (x:AV) (xs:List AV):lentG (0::ks) (x::xs)=lentG ks xs:=nr rfl
@[simp] theorem lentG_1 (ks:List Nat) (x:AV) (xs:List AV):lentG (1::ks) (x::xs)=lentG ks xs:=nr rfl
@[simp] theorem lentG_2 (ks:List Nat) (x:AV) (xs:List AV):lentG (2::ks) (x::xs)=x::lentG ks xs:=nr rfl
@[simp] theorem puresG_nil (T:List Nat):puresG T [] []=true:=nr rfl
@[simp] theorem puresG_0 (T ks:List Nat) (x:AV) (xs:List AV):puresG T (0::ks) (x::xs)=(pure1 (wipe T x) && puresG T ks xs):=nr rfl
@[simp] theorem puresG_1 (T ks:List Nat) (x:AV) (xs:List AV):puresG T (1::ks) (x::xs)=puresG T ks xs:=nr rfl
@[simp] theorem puresG_2 (T ks:List Nat) (x:AV) (xs:List AV):puresG T (2::ks) (x::xs)=puresG T ks xs:=nr rfl
@[simp] theorem flatG_fr (n:Nat) (e:TypeId) (rows:List (List PV)):flatG (n+1) (.fr e rows)=flatRows rows:=nr rfl
@[simp] theorem flatG_bx (n:Nat) (cs:List AV):flatG (n+1) (.bx cs) = ∀c∈cs,flatG n c:=nr rfl
@[simp] theorem flatG_tup (n:Nat) (cs:List AV):flatG (n+1) (.tup cs) = ∀c∈cs,flatG n c:=nr rfl
@[simp] theorem flatG_pv (n:Nat) (p:PV):flatG (n+1) (.pv p)=(flatP p=true):=nr rfl
@[simp] theorem outG_clo (n:Nat) (r:AV) (l:List AV):outG (.clo n (r::l))=l:=nr rfl
@[simp] theorem retG_clo (n:Nat) (r:AV) (l:List AV):retG (.clo n (r::l))=r:=nr rfl
@[simp] theorem ksOf_rp (l:List PV):ksOf (.rp l)=some (l.map fun p=>match p with | .int _ n=>n.toNat | _=>0):=nr rfl
@[simp] theorem poolG_eq (d:Nat) (T W:List Nat):poolG d T W=W.filter (fun t=>t % 1000 != 999)++[d,d+1000,d+2000,d+3000,d+4000,d+5000,d+6000,d+7000].filter fun t=>!T.contains t:=nr rfl
@[simp] theorem wipe_nil (x:AV):wipe [] x=x:=nr rfl
@[simp] theorem wipe_cons (t:Nat) (W:List Nat) (x:AV):wipe (t::W) x=wipe0 (t::W) x:=nr rfl
@[simp] theorem wipe0_cnd (W:List Nat) (g:Bool) (v:AV):wipe0 W (.cnd g v)=.cnd g (wipe0 W v):=nr rfl
@[simp] theorem wipe0_agg (W:List Nat) (cs:List AV):wipe0 W (.agg cs)=.agg (cs.map (wipeC W)):=nr rfl
@[simp] theorem wipe0_ptr (W:List Nat) (t o:Nat):wipe0 W (.ptr t o)=wipeC W (.ptr t o):=nr rfl
@[simp] theorem wipe0_pv (W:List Nat) (p:PV):wipe0 W (.pv p)=.pv p:=nr rfl
@[simp] theorem wipe0_junk (W:List Nat):wipe0 W .junk=.junk:=nr rfl
@[simp] theorem wipeC_own (W:List Nat) (t:Nat):wipeC W (.own t)=if W.contains t then .junk else .own t:=nr rfl
@[simp] theorem wipeC_ptr (W:List Nat) (t o:Nat):wipeC W (.ptr t o)=if W.contains t then .junk else .ptr t o:=nr rfl
@[simp] theorem wipeC_pv (W:List Nat) (p:PV):wipeC W (.pv p)=.pv p:=nr rfl
@[simp] theorem wipeO_nil (o:AO):wipeO [] o=o:=nr rfl
@[simp] theorem wipeO_cons (t:Nat) (W:List Nat) (o:AO):wipeO (t::W) o=wipeO0 (t::W) o:=nr rfl
@[simp] theorem wipeO0_box (W:List Nat) (cs:List AV):wipeO0 W (.box cs)=.box (cs.map (wipeC W)):=nr rfl
@[simp] theorem wipeO0_arr (W:List Nat) (e:TypeId) (rows:List (List PV)):wipeO0 W (.arr e rows)=.arr e rows:=nr rfl
@[simp] theorem wipeV_look (W:List Nat) (l:List (Nat × AV)):wipeV W (look l)=look (l.map fun x=>(x.1,wipe W x.2)):=by
 funext s
 unfold wipeV
 induction l with
 |nil=>show wipe W .junk=.junk;unfold wipe;split<;>rfl
 |cons x l ih=>
  obtain⟨k,v⟩:=x
  simp only [List.map_cons,look]
  split
  ·rfl
  ·exact ih
def rmG (T W:List Nat):List (Nat × AO)→List (Nat × AO)
 | []=>[]
 |x::l=>if T.contains x.1=true then rmG T W l else (x.1,wipeO W x.2)::rmG T W l
@[simp] theorem rmG_nil (T W:List Nat):rmG T W []=[]:=nr rfl
@[simp] theorem rmG_cons (T W:List Nat) (s:Nat) (o:AO) (l:List (Nat × AO)):rmG T W ((s,o)::l)=if T.contains s=true then rmG T W l else (s,wipeO W o)::rmG T W l:=nr rfl
@[simp] theorem wipeM_look (T W:List Nat) (l:List (Nat × AO)):wipeM T W (lookO l)=lookO (rmG T W l):=by
 funext s
 unfold wipeM
 induction l with
 |nil=>simp [rmG,lookO]
 |cons x l ih=>
  obtain⟨k,v⟩:=x
  simp only [rmG_cons,lookO]
  by_cases hs:T.contains s=true
  ·rw [if_pos hs]at ih ⊢
   by_cases hk:T.contains k=true
   ·rw [if_pos hk];exact ih
   ·have:¬ s=k:=fun e=>hk (e ▸ hs)
    rw [if_neg hk];simp only [lookO,if_neg this];exact ih
  ·rw [if_neg hs]at ih ⊢
   by_cases hsk:s=k
   ·subst hsk;rw [if_neg hs];simp [lookO]
   ·rw [if_neg hsk]
    by_cases hk:T.contains k=true
    ·rw [if_pos hk];exact ih
    ·rw [if_neg hk];simp only [lookO,if_neg hsk];exact ih
@[simp] theorem trC_agg (cs:List AV):trC (.agg cs)=cs.any fun c=>match c with | .bx _ | .mf _=>true | _=>false:=nr rfl
@[simp] theorem trC_pv (p:PV):trC (.pv p)=false:=nr rfl
@[simp] theorem trC_fr (e:TypeId) (rows:List (List PV)):trC (.fr e rows)=false:=nr rfl
@[simp] theorem trR_tup (vs:List AV):trR (.tup vs)=vs.any trC:=nr rfl
@[simp] theorem trR_agg (cs:List AV):trR (.agg cs)=trC (.agg cs):=nr rfl
@[simp] theorem trR_pv (p:PV):trR (.pv p)=false:=nr rfl
@[simp] theorem trR_fr (e:TypeId) (rows:List (List PV)):trR (.fr e rows)=false:=nr rfl
@[simp] theorem flatR_eq (r:AV):flatR r=if trR r=true then flatG 5 r else flat r:=nr rfl
@[simp] theorem newO_eq (d:Nat) (r:AV):newO d r=if trR r=true then (((num 5 false r ([],pool8 d)).map (·.2.1)).getD []) else frTags d r:=nr rfl
@[simp] theorem newV_eq (d:Nat) (r:AV):newV d r=if trR r=true then (((num 5 false r ([],pool8 d)).map (·.1)).getD .junk) else mapTop (tagC d) r:=nr rfl
@[simp] theorem resR_eq (d:Nat) (r:AV):resR d r=if trR r=true then (num 5 false r ([],pool8 d)).isSome else resOK r:=nr rfl
@[simp] theorem pool8_eq (d:Nat):pool8 d=[d,d+1000,d+2000,d+3000,d+4000,d+5000,d+6000,d+7000]:=nr rfl
@[congr] theorem EndsKG_congr {P:Program}{rs:List (Nat × Option (Option Nat))}{L:List AV}{x:AV}{st st':St} (h:True→st=st'):EndsKG P rs L x st=EndsKG P rs L x st':=by rw [h trivial]
@[congr] theorem EndsG_congr {P:Program}{rs:List (Nat × Option (Option Nat))}{L:List AV}{x:AV}{st st':St} (h:True→st=st'):EndsG P rs L x st=EndsG P rs L x st':=by rw [h trivial]
section
variable {P:Program}{objs:Nat→Option AO}
@[simp] theorem mtW_nil (f:AV→AV→Prop):mtW f [] []=True:=nr rfl
@[simp] theorem mtW_cons (f:AV→AV→Prop) (c y:AV) (cs ys:List AV):mtW f (c::cs) (y::ys)=(f c y∧mtW f cs ys):=nr rfl
@[simp] theorem mt_fr (n:Nat) (x:AV) (e:TypeId) (rows:List (List PV)):mt P objs (n+1) x (.fr e rows)=fzC P objs x (.fr e rows):=nr rfl
@[simp] theorem mt_bx (n t:Nat) (cs:List AV):mt P objs (n+1) (.ptr t 0) (.bx cs)=withO (boxO (objs t)) fun l=>mtW (mt P objs n) l cs:=by
 show (∃t' l,AV.ptr t 0=.ptr t' 0∧objs t'=some (.box l)∧mtW (mt P objs n) l cs)=_
 apply propext
 constructor
 ·rintro⟨t',l,h,h',h''⟩;cases h;rw [h'];exact h''
 ·intro h
  obtain⟨l,hl,h⟩:=withO_inv h
  exact⟨t,l,rfl,boxO_inv hl,h⟩
@[simp] theorem mt_tup (n:Nat) (l cs:List AV):mt P objs (n+1) (.tup l) (.tup cs)=mtW (mt P objs n) l cs:=by
 show (∃l',AV.tup l=.tup l'∧mtW (mt P objs n) l' cs)=_
 apply propext
 exact⟨fun ⟨_,h,h'⟩=>by cases h;exact h',fun h=>⟨l,rfl,h⟩⟩
@[simp] theorem mt_pv (n:Nat) (x:AV) (p:PV):mt P objs (n+1) x (.pv p)=(x=.pv p):=nr rfl
@[simp] theorem tg_own (n t:Nat):tg objs (n+1) (.own t)=[t]:=nr rfl
@[simp] theorem tg_ptr (n t:Nat):tg objs (n+1) (.ptr t 0)=t::((boxO (objs t)).getD []).flatMap (tg objs n):=nr rfl
@[simp] theorem tg_tup (n:Nat) (cs:List AV):tg objs (n+1) (.tup cs)=cs.flatMap (tg objs n):=nr rfl
@[simp] theorem tg_pv (n:Nat) (p:PV):tg objs (n+1) (.pv p)=[]:=nr rfl
end
def tabG (ks:List Nat) (G:List AV→Option (Prop × AV)) (ys:List AV):Option (Prop × AV):=match ys with
 | [.junk]=>some (True,.rp (ks.map fun k:Nat=>PV.int .i64 (k:Int)))
 |ys=>G ys
def ConTG (P:Program) (f:FuncId) (G:List AV→Option (Prop × AV)):Prop:=∀ys φ r,G ys=some (φ,r)→φ→ConG P f ys r
@[simp] theorem tabG_junk (ks:List Nat) (G:List AV→Option (Prop × AV)):tabG ks G [.junk]=some (True,.rp (ks.map fun k:Nat=>PV.int .i64 (k:Int))):=nr rfl
@[simp] theorem tabG_pv (ks:List Nat) (G:List AV→Option (Prop × AV)) (q:PV) (l:List AV):tabG ks G (.pv q::l)=G (.pv q::l):=nr rfl
@[simp] theorem tabG_tup (ks:List Nat) (G:List AV→Option (Prop × AV)) (q l:List AV):tabG ks G (.tup q::l)=G (.tup q::l):=nr rfl
@[simp] theorem tabG_agg (ks:List Nat) (G:List AV→Option (Prop × AV)) (q l:List AV):tabG ks G (.agg q::l)=G (.agg q::l):=nr rfl
@[simp ↓] theorem gt_eq (Γ:Tab) (f:FuncId) (ys:List AV):gt Γ f ys=gtO (Γ f ys) (Γ (f+3000000) ys):=rfl
@[congr] theorem gtO_congr {a a' b:Option (Prop × AV)} (h:True→a=a'):gtO a b=gtO a' b:=by rw [h trivial]
@[simp ↓] theorem gtO_some (x:Prop × AV) (y:Option (Prop × AV)):gtO (some x) y=some (x.1∧trR x.2=false,x.2):=rfl
@[simp ↓] theorem gtO_none (y:Option (Prop × AV)):gtO none y=y.map fun x=>(x.1∧trR x.2=true,x.2):=rfl
section
variable {P:Program}{Γ:Tab}{vs:List (Nat × AV)}{os:List (Nat × AO)}{K:St→Prop}{rs:List (Nat × Option (Option Nat))}{r:AV}{objs:Nat→Option AO}{C:List AV→Prop}
@[simp ↓] theorem retJ_ret:retJ K .ret ⟨look vs,lookO os⟩=K ⟨look vs,lookO os⟩:=rfl
@[simp ↓] theorem retJ_exit {id:Nat}:retJ K (.exit id) ⟨look vs,lookO os⟩=False:=rfl
@[simp ↓] theorem Ends_eq {r:AV}:Ends P rs r ⟨look vs,lookO os⟩=resVals ⟨look vs,lookO os⟩ rs fun xs=>EndsK P rs r (shareT (pubs (tupleOf xs) r) ⟨look vs,lookO os⟩):=rfl
@[congr] theorem EndsK_congr {st st':St}{r:AV} (h:True→st=st'):EndsK P rs r st=EndsK P rs r st':=by rw [h trivial]
@[simp ↓] theorem EndsU_eq {r:AV}{hout:List (Nat × AO)}:EndsU P rs r hout ⟨look vs,lookO os⟩=resVals ⟨look vs,lookO os⟩ rs fun xs=>EndsKU P rs r hout (shareT (pubs (tupleOf xs) r) ⟨look vs,lookO os⟩):=rfl
@[congr] theorem EndsKU_congr {st st':St}{r:AV}{hout:List (Nat × AO)} (h:True→st=st'):EndsKU P rs r hout st=EndsKU P rs r hout st':=by rw [h trivial]
@[simp ↓] theorem EndsKU_eq {r:AV}{hout:List (Nat × AO)}:EndsKU P rs r hout ⟨look vs,lookO os⟩=resVals ⟨look vs,lookO os⟩ rs fun xs=>fz P (lookO os) (tupleOf xs) r∧apartL (pl (tupleOf xs))∧backOK (lookO os) (pl (tupleOf xs)) hout:=rfl
@[simp] theorem backOK_nil (l:List (Nat × Nat)):backOK objs l []=True:=nr rfl
@[simp] theorem backOK_cons (l:List (Nat × Nat)) (x:Nat × AO) (hout:List (Nat × AO)):backOK objs l (x::hout)=(objs x.1=some x.2∧(∀y∈l,y.2≠x.1)∧backOK objs l hout):=nr rfl
@[simp] theorem mkA_fr (e:TypeId) (rows:List (List PV)):mkA (.fr e rows)=.own 998:=nr rfl
@[simp] theorem mkA_tup (e:TypeId) (rows:List (List PV)):mkA (.tup [.fr e rows])=.own 999:=nr rfl
@[simp] theorem mkA_pv (p:PV):mkA (.pv p)=.pv p:=nr rfl
@[simp] theorem mkA_clo (f:FuncId) (l:List AV):mkA (.clo f l)=.clo f l:=nr rfl
@[simp] theorem mkO_nil:mkO []=[]:=nr rfl
@[simp] theorem mkO_fr (e:TypeId) (rows:List (List PV)) (l:List AV):mkO (.fr e rows::l)=[(998,.arr e rows)]:=nr rfl
@[simp] theorem mkO_tup (e:TypeId) (rows:List (List PV)) (l:List AV):mkO (.tup [.fr e rows]::l)=[(999,.arr e rows)]:=nr rfl
@[simp] theorem mkO_pv (p:PV) (l:List AV):mkO (.pv p::l)=mkO l:=nr rfl
@[simp ↓] theorem EndsK_eq {r:AV}:EndsK P rs r ⟨look vs,lookO os⟩=resVals ⟨look vs,lookO os⟩ rs fun xs=>fz P (lookO os) (tupleOf xs) r∧apartL (pl (tupleOf xs)):=rfl
@[simp ↓] theorem EndsG_eq {L:List AV}{x:AV}:EndsG P rs L x ⟨look vs,lookO os⟩=resVals ⟨look vs,lookO os⟩ rs fun xs=>EndsKG P rs L x (shareT (pubs (tupleOf xs) (retG x)) ⟨look vs,lookO os⟩):=rfl
@[simp ↓] theorem EndsKG_eq {L:List AV}{x:AV}:EndsKG P rs L x ⟨look vs,lookO os⟩=resVals ⟨look vs,lookO os⟩ rs fun xs=>mt P (lookO os) 6 (tupleOf xs) (retG x)∧mtW (mt P (lookO os) 5) L (outG x)∧(L.flatMap (tg (lookO os) 5)++tg (lookO os) 6 (tupleOf xs)).Nodup:=rfl
@[simp] theorem flagG_eq {f:FuncId}:flagG Γ f=(Γ (f+2000000) [.junk]).bind fun x=>ksOf x.2:=nr rfl
@[simp] theorem all_or {k:Nat}{o:AO}{R:Nat→AO→Prop}{p:Nat→AO→Prop}:(∀a b,a=k∧b=o∨R a b→p a b)=(p k o∧∀a b,R a b→p a b):=
 propext ⟨fun h=>⟨h k o (.inl ⟨rfl,rfl⟩),fun a b r=>h a b (.inr r)⟩,fun h a b r=>by
  rcases r with ⟨rfl,rfl⟩ | r
  ·exact h.1
  ·exact h.2 a b r⟩
@[simp] theorem lent_nil {α:Type} (l:List α):lent [] l=[]:=nr rfl
@[simp] theorem lent_tup {α:Type} (y:AV) (ys:List AV) (v : α) (l:List α):lent (.tup [y]::ys) (v::l)=v::lent ys l:=nr rfl
@[simp] theorem lent_pv {α:Type} (p:PV) (ys:List AV) (v : α) (l:List α):lent (.pv p::ys) (v::l)=lent ys l:=nr rfl
@[simp] theorem lent_agg {α:Type} (cs ys:List AV) (v : α) (l:List α):lent (.agg cs::ys) (v::l)=lent ys l:=nr rfl
@[simp] theorem topOK_own (t:Nat):topOK (.own t)=true:=nr rfl
@[simp] theorem topOK_ptr (t:Nat):topOK (.ptr t 0)=true:=nr rfl
@[simp] theorem pubs_tup (vs rs:List AV):pubs (.tup vs) (.tup rs)=pubVs vs rs:=nr rfl
@[simp] theorem pubs_agg (vs:List AV) (r:AV):pubs (.agg vs) r=pub1 (.agg vs) r:=by cases r<;>rfl
@[simp] theorem pubs_pv (p:PV) (r:AV):pubs (.pv p) r=pubC (.pv p) r:=by cases r<;>rfl
@[simp] theorem pubs_own_fr (t:Nat) (e:TypeId) (rows:List (List PV)):pubs (.own t) (.fr e rows)=[]:=nr rfl
@[simp] theorem pubVs_nil:pubVs [] []=[]:=nr rfl
@[simp] theorem pubVs_cons (c r:AV) (cs rs:List AV):pubVs (c::cs) (r::rs)=pub1 c r++pubVs cs rs:=nr rfl
@[simp] theorem pubCs_nil:pubCs [] []=[]:=nr rfl
@[simp] theorem pubCs_cons (c r:AV) (cs rs:List AV):pubCs (c::cs) (r::rs)=pubC c r++pubCs cs rs:=nr rfl
@[simp] theorem pub1_agg (cs rs:List AV):pub1 (.agg cs) (.agg rs)=pubCs cs rs:=nr rfl
@[simp] theorem pub1_pv (p:PV) (r:AV):pub1 (.pv p) r=pubC (.pv p) r:=by cases r<;>rfl
@[simp] theorem pub1_own (t:Nat) (r:AV):pub1 (.own t) r=pubC (.own t) r:=by cases r<;>rfl
@[simp] theorem pubC_own_fr (t:Nat) (e:TypeId) (rows:List (List PV)):pubC (.own t) (.fr e rows)=[]:=nr rfl
@[simp] theorem pubC_own_ro (t:Nat) (rows:List (List PV)):pubC (.own t) (.pv (.ro rows))=[t]:=nr rfl
@[simp] theorem pubs_own_mv (t:Nat) (es:List (PV × PV)):pubs (.own t) (.pv (.mv es))=[t+2000000]:=nr rfl
@[simp] theorem pubC_nilro (rows:List (List PV)):pubC (.pv .nil) (.pv (.ro rows))=[999996]:=nr rfl
@[simp] theorem pubC_same (p:PV):pubC (.pv p) (.pv p)=[]:=by cases p<;>rfl
@[simp] theorem pubC_rint (p:PV) (k:IntKind) (n:Int):pubC (.pv p) (.pv (.int k n))=[]:=by cases p<;>rfl
@[simp] theorem pubC_rbool (p:PV) (b:Bool):pubC (.pv p) (.pv (.bool b))=[]:=by cases p<;>rfl
@[simp] theorem pubC_rfr (p:PV) (e:TypeId) (rows:List (List PV)):pubC (.pv p) (.fr e rows)=[]:=by cases p<;>rfl
@[simp ↓] theorem resVals_nil:resVals ⟨look vs,lookO os⟩ [] C=C []:=rfl
@[simp ↓] theorem resVals_tmp {t:Nat}:resVals ⟨look vs,lookO os⟩ ((t,none)::rs) C=resVals ⟨look vs,lookO os⟩ rs fun xs=>C (look vs t::xs):=rfl
@[simp ↓] theorem resVals_cell {t:Nat}{n:Option Nat}:resVals ⟨look vs,lookO os⟩ ((t,some n)::rs) C=withO (semQ (.load n) [look vs t] (lookO os)) fun x=>x.1∧resVals ⟨look vs,lookO os⟩ rs fun xs=>C (x.2::xs):=rfl
@[simp] theorem tupleOf_nil:tupleOf []=.tup []:=nr rfl
@[simp] theorem tupleOf_one (v:AV):tupleOf [v]=v:=nr rfl
@[simp] theorem tupleOf_two (v u:AV) (l:List AV):tupleOf (v::u::l)=.tup (v::u::l):=nr rfl
@[simp] theorem argL_nil (i:Nat):argL i []=[]:=nr rfl
@[simp] theorem argL_cons (i:Nat) (v:AV) (l:List AV):argL i (v::l)=(i,v)::argL (i+1) l:=nr rfl
@[simp] theorem fzC_own (t:Nat) (e:TypeId) (rows:List (List PV)):fzC P objs (.own t) (.fr e rows)=(objs t=some (.arr e rows)):=by
 apply propext;constructor
 ·rintro (⟨s,h,h2⟩ | ⟨h,_⟩ | ⟨_,_,_,h,_⟩)
  ·cases h;exact h2
  ·cases h
  ·cases h
 ·exact fun h=>.inl ⟨t,rfl,h⟩
@[simp] theorem fzC_sub (t:Nat) (e e1:TypeId) (hi:Nat) (rows:List (List PV)):fzC P objs (.sub t e1 0 hi) (.fr e rows)=(e1=e∧∃rs,objs t=some (.arr e rs)∧rows=rs.take hi):=by
 apply propext;constructor
 ·rintro (⟨s,h,h2⟩ | ⟨h,_⟩ | ⟨s,hi',rs,h,h2,h3⟩)
  ·cases h
  ·cases h
  ·cases h;exact⟨rfl,rs,h2,h3⟩
 ·rintro⟨rfl,rs,h2,h3⟩;exact .inr (.inr ⟨t,hi,rs,rfl,h2,h3⟩)
@[simp] theorem fz_sub (t:Nat) (e:TypeId) (lo hi:Nat) (r:AV):fz P objs (.sub t e lo hi) r=fzC P objs (.sub t e lo hi) r:=nr rfl
@[simp] theorem pubs_sub (t:Nat) (e:TypeId) (lo hi:Nat) (r:AV):pubs (.sub t e lo hi) r=[]:=by cases r<;>rfl
@[simp] theorem fzC_nil (e:TypeId) (rows:List (List PV)):fzC P objs (.pv .nil) (.fr e rows)=(rows=[]∧(P.info? e).isSome=true):=by
 apply propext;constructor
 ·rintro (⟨s,h,h2⟩ | ⟨_,h⟩ | ⟨_,_,_,h,_⟩)
  ·cases h
  ·exact h
  ·cases h
 ·exact fun h=>.inr (.inl ⟨rfl,h⟩)
@[simp] theorem fzC_pv (p q:PV):fzC P objs (.pv p) (.pv q)=(p=q):=by
 apply propext;constructor
 ·rintro⟨h,_⟩;cases h;rfl
 ·rintro rfl;exact⟨rfl,rfl⟩
@[simp] theorem fzCs_nil:fzCs P objs [] []=True:=nr rfl
@[simp] theorem fzCs_cons (c d:AV) (cs ds:List AV):fzCs P objs (c::cs) (d::ds)=(fzC P objs c d∧fzCs P objs cs ds):=nr rfl
@[simp] theorem fz1_agg (cs ds:List AV):fz1 P objs (.agg cs) (.agg ds)=fzCs P objs cs ds:=nr rfl
@[simp] theorem fz1_pv (p:PV) (r:AV):fz1 P objs (.pv p) r=fzC P objs (.pv p) r:=nr rfl
@[simp] theorem fz1_own (t:Nat) (r:AV):fz1 P objs (.own t) r=fzC P objs (.own t) r:=nr rfl
@[simp] theorem fzVs_nil:fzVs P objs [] []=True:=nr rfl
@[simp] theorem fzVs_cons (c d:AV) (cs ds:List AV):fzVs P objs (c::cs) (d::ds)=(fz1 P objs c d∧fzVs P objs cs ds):=nr rfl
@[simp] theorem fz_tup (cs ds:List AV):fz P objs (.tup cs) (.tup ds)=(cs.length≤1000∧fzVs P objs cs ds):=nr rfl
@[simp] theorem fz_agg (cs:List AV) (r:AV):fz P objs (.agg cs) r=fz1 P objs (.agg cs) r:=nr rfl
@[simp] theorem fz_pv (p:PV) (r:AV):fz P objs (.pv p) r=fzC P objs (.pv p) r:=nr rfl
@[simp] theorem fz_own (t:Nat) (r:AV):fz P objs (.own t) r=fzC P objs (.own t) r:=nr rfl
@[simp] theorem plCs_nil (j:Nat):plCs j []=[]:=nr rfl
@[simp] theorem plCs_own (j t:Nat) (cs:List AV):plCs j (.own t::cs)=(1000*j,t)::plCs (j+1) cs:=nr rfl
@[simp] theorem pl_sub (t:Nat) (e:TypeId) (lo hi:Nat):pl (.sub t e lo hi)=[(0,t)]:=nr rfl
@[simp] theorem plCs_pv (j:Nat) (p:PV) (cs:List AV):plCs j (.pv p::cs)=plCs (j+1) cs:=nr rfl
@[simp] theorem pl1_agg (cs:List AV):pl1 (.agg cs)=plCs 0 cs:=nr rfl
@[simp] theorem pl1_own (t:Nat):pl1 (.own t)=[(0,t)]:=nr rfl
@[simp] theorem pl1_pv (p:PV):pl1 (.pv p)=[]:=nr rfl
@[simp] theorem plVs_nil (i:Nat):plVs i []=[]:=nr rfl
@[simp] theorem plVs_cons (i:Nat) (v:AV) (vs:List AV):plVs i (v::vs)=(pl1 v).map (fun x=>(x.1+i,x.2))++plVs (i+1) vs:=nr rfl
@[simp] theorem pl_tup (vs:List AV):pl (.tup vs)=plVs 0 vs:=nr rfl
@[simp] theorem pl_agg (cs:List AV):pl (.agg cs)=plCs 0 cs:=nr rfl
@[simp] theorem pl_own (t:Nat):pl (.own t)=[(0,t)]:=nr rfl
@[simp] theorem pl_pv (p:PV):pl (.pv p)=[]:=nr rfl
@[simp] theorem apartL_nil:apartL []=True:=nr rfl
@[simp] theorem apartL_cons (x:Nat × Nat) (l:List (Nat × Nat)):apartL (x::l)=((∀y∈l,y.2≠x.2)∧apartL l):=nr rfl
end
section
variable {P:Program}{Γ:Tab}{vs:List (Nat × AV)}{os:List (Nat × AO)}{st:St}{ad:List Nat}
theorem vwp_loopS {K:St→Prop}{J:Exit→St→Prop}{a:AC}{α:Type} (I : α→Prop) (F : α→Fr) (μ : α→Nat) (ad shs:List Nat) (x0 : α) (hI:I x0) (h0:wk P ad (shareT shs st) (F x0))
  (hr:∀x,I x→vwp P Γ a (fun st'=>∃x',I x'∧wk P [] (shareT shs st') (F x')∧μ x' < μ x) J (F x).st):vwp P Γ (.loop a) K J st:=by
 refine⟨{ x : α // I x },fun x=>F x.1,fun x=>μ x.1,ad,shs,⟨x0,hI⟩,h0,fun x=>?_⟩
 have hK:(fun st'=>∃i':{ x : α // I x },wk P [] (shareT shs st') (F i'.1)∧μ i'.1 < μ x.1)=fun st'=>∃x',I x'∧wk P [] (shareT shs st') (F x')∧μ x' < μ x.1:=by
  funext st'
  apply propext
  constructor
  ·rintro⟨⟨y,hy⟩,h⟩;exact⟨y,hy,h⟩
  ·rintro⟨y,hy,h⟩;exact⟨⟨y,hy⟩,h⟩
 show vwp P Γ a (fun st'=>∃i':{ x : α // I x },wk P [] (shareT shs st') (F i'.1)∧μ i'.1 < μ x.1) J (F x.1).st
 rw [hK]
 exact hr x.1 x.2
theorem vwp_loop {K:St→Prop}{J:Exit→St→Prop}{a:AC}{α:Type} (I : α→Prop) (F : α→Fr) (μ : α→Nat) (ad:List Nat) (x0 : α) (hI:I x0) (h0:wk P ad st (F x0))
  (hr:∀x,I x→vwp P Γ a (fun st'=>∃x',I x'∧wk P [] st' (F x')∧μ x' < μ x) J (F x).st):vwp P Γ (.loop a) K J st:=
 vwp_loopS I F μ ad [] x0 hI h0 hr
@[simp] theorem shareT_nil (st:St):shareT [] st=st:=nr rfl
@[simp] theorem shareT_cons (t:Nat) (l:List Nat) (st:St):shareT (t::l) st=shareT l (sharT1 t st):=nr rfl
@[simp] theorem sharT1_eq (t:Nat) (st:St):sharT1 t st=if t=999996 then nilRo st else if 2000000≤t then pubM (t - 2000000) st else share1 st (.own t):=nr rfl
def nilMO:List (Nat × AO)→List (Nat × AO)
 | []=>[]
 |x::l=>(x.1,nilO x.2)::nilMO l
@[simp] theorem nilMO_nil:nilMO []=[]:=nr rfl
@[simp] theorem nilMO_cons (t:Nat) (o:AO) (l:List (Nat × AO)):nilMO ((t,o)::l)=(t,nilO o)::nilMO l:=nr rfl
@[simp] theorem nilRo_eq (vs:List (Nat × AV)) (os:List (Nat × AO)):nilRo ⟨look vs,lookO os⟩=⟨look (vs.map fun x=>(x.1,nilV x.2)),lookO (nilMO os)⟩:=by
 unfold nilRo
 congr 1
 ·funext s
  induction vs with
  |nil=>rfl
  |cons x l ih=>
   obtain⟨k,v⟩:=x
   simp only [List.map_cons,look]
   split<;>simp_all
 ·funext s
  induction os with
  |nil=>rfl
  |cons x l ih=>
   obtain⟨k,v⟩:=x
   simp only [nilMO_cons,lookO]
   split<;>simp_all
@[simp] theorem nilV_agg (cs:List AV):nilV (.agg cs)=.agg (nilCs cs):=nr rfl
@[simp] theorem nilV_pv (p:PV):nilV (.pv p)=.pv (nilP p):=nr rfl
@[simp] theorem nilV_own (t:Nat):nilV (.own t)=.own t:=nr rfl
@[simp] theorem nilV_ptr (t o:Nat):nilV (.ptr t o)=.ptr t o:=nr rfl
@[simp] theorem nilCs_nil:nilCs []=[]:=nr rfl
@[simp] theorem nilCs_cons (c:AV) (cs:List AV):nilCs (c::cs)=nilC c::nilCs cs:=nr rfl
@[simp] theorem nilC_pv (p:PV):nilC (.pv p)=.pv (nilP p):=nr rfl
@[simp] theorem nilP_nil:nilP .nil=.ro []:=nr rfl
@[simp] theorem nilP_ro (l:List (List PV)):nilP (.ro l)=.ro l:=nr rfl
@[simp] theorem nilP_int (k:IntKind) (n:Int):nilP (.int k n)=.int k n:=nr rfl
@[simp] theorem nilP_bool (b:Bool):nilP (.bool b)=.bool b:=nr rfl
@[simp] theorem nilO_box (cs:List AV):nilO (.box cs)=.box (nilCs cs):=nr rfl
@[simp] theorem nilO_arr (e:TypeId) (rows:List (List PV)):nilO (.arr e rows)=.arr e rows:=nr rfl
@[simp] theorem wk_eq (vs':List (Nat × AV)) (os':List (Nat × AO)):wk P ad ⟨look vs,lookO os⟩ ⟨vs',os'⟩=(wkV ad ⟨look vs,lookO os⟩ os' vs'∧wkO P ad ⟨look vs,lookO os⟩ os' os'):=nr rfl
@[simp] theorem wkV_nil (os':List (Nat × AO)):wkV ad ⟨look vs,lookO os⟩ os' []=True:=nr rfl
@[simp] theorem wkV_cons (os':List (Nat × AO)) (s:Nat) (v:AV) (l:List (Nat × AV)):wkV ad ⟨look vs,lookO os⟩ os' ((s,v)::l) =
  ((v=.junk∨(look vs s=v∧liveV os' v)∨(∃t,v=.own t∧ad.contains t=true∧dom (lookO os') t∧look vs s=.pv .nil))∧wkV ad ⟨look vs,lookO os⟩ os' l):=nr rfl
@[simp] theorem wkO_nil (os':List (Nat × AO)):wkO P ad ⟨look vs,lookO os⟩ os' []=True:=nr rfl
@[simp] theorem wkO_cons (os':List (Nat × AO)) (t:Nat) (o:AO) (l:List (Nat × AO)):wkO P ad ⟨look vs,lookO os⟩ os' ((t,o)::l) =
  (((lookO os t=some o∧ad.contains t=false∧liveO os' o)∨(∃e,o=.arr e []∧ad.contains t=true∧lookO os t=none∧(P.info? e).isSome=true∧t % 1000≠999))∧wkO P ad ⟨look vs,lookO os⟩ os' l):=nr rfl
@[simp] theorem liveV_clo (f:FuncId) (cs:List AV):liveV os (.clo f cs)=liveCs os cs:=nr rfl
@[simp] theorem liveV_pv (p:PV):liveV os (.pv p)=True:=nr rfl
@[simp] theorem liveV_own (t:Nat):liveV os (.own t)=dom (lookO os) t:=nr rfl
@[simp] theorem liveV_ptr (t o:Nat):liveV os (.ptr t o)=dom (lookO os) t:=nr rfl
@[simp] theorem liveV_sub (t:Nat) (e:TypeId) (lo hi:Nat):liveV os (.sub t e lo hi)=dom (lookO os) t:=nr rfl
@[simp] theorem liveC_pv (p:PV):liveC os (.pv p)=True:=nr rfl
@[simp] theorem liveC_rp (p:List PV):liveC os (.rp p)=True:=nr rfl
@[simp] theorem liveC_own (t:Nat):liveC os (.own t)=dom (lookO os) t:=nr rfl
@[simp] theorem liveCs_nil:liveCs os []=True:=nr rfl
@[simp] theorem liveCs_cons (c:AV) (cs:List AV):liveCs os (c::cs)=(liveC os c∧liveCs os cs):=nr rfl
@[simp] theorem liveO_box (cs:List AV):liveO os (.box cs)=liveCs os cs:=nr rfl
@[simp] theorem liveO_arr (e:TypeId) (rows:List (List PV)):liveO os (.arr e rows)=True:=nr rfl
@[simp] theorem liveO_map (es:List (PV × AV)):liveO os (.map es)=True:=nr rfl
@[simp] theorem dom_nil (t:Nat):dom (lookO []) t=False:=by
 apply propext;constructor
 ·rintro⟨o,h⟩;cases h
 ·exact False.elim
@[simp] theorem dom_cons (s t:Nat) (o:AO) (l:List (Nat × AO)):dom (lookO ((s,o)::l)) t=(t=s∨dom (lookO l) t):=by
 apply propext
 unfold dom
 simp only [lookO_cons]
 by_cases h:t=s<;>simp [h]
end
@[simp ↓] theorem semCall_eq {P:Program}{Γ:Tab}{d:Nat}{f:FuncId}{xs:List AV}{objs:Nat→Option AO}{C:Eff→Prop}:semCall P Γ (some d) f xs objs C =
  (asksL xs∧withO (reis objs (xs.map strip)) fun ys=>withO (gt Γ f ys) fun x=>x.1∧(pures (xs.map strip)=true∨flatR x.2)∧(∀y∈newO d x.2,objs y.1=none)∧resR d x.2=true∧C (.new (newV d x.2) (newO d x.2))):=rfl
def ConT (P:Program) (f:FuncId) (G:List AV→Option (Prop × AV)):Prop:=∀ys φ r,G ys=some (φ,r)→φ→Con P f [] ys [] r
def tab:List (FuncId × (List AV→Option (Prop × AV)))→Tab
 | []=>fun _ _=>none
 |x::l=>fun g ys=>if g=x.1 then x.2 ys else tab l g ys
theorem tab_nil {P:Program}:TabOK P (tab []):=fun _ _ _ _ h=>by cases h
def tabU (p k:Nat) (G:List AV→Option (Prop × AV)) (ys:List AV):Option (Prop × AV):=match ys with
 | [.junk]=>some (True,.ptr p k)
 |ys=>G ys
def ConTU (P:Program) (f:FuncId) (G:List AV→Option (Prop × AV)):Prop:=∀ys φ r,G ys=some (φ,r)→φ→ConU P f ys r
theorem tab_consU {P:Program}{f p k:Nat}{G:List AV→Option (Prop × AV)}{l:List (FuncId × (List AV→Option (Prop × AV)))} (h:ConTU P f G) (hP:Nat.ble P.funcs.size 1000000=true) (hl:TabOK P (tab l)) (hf:Nat.blt f 1000000=true:=by rfl):TabOK P (tab ((f+1000000,tabU p k G)::l)):=by
 intro g ys φ r hg hφ
 simp only [tab]at hg
 split at hg
 ·rename_i e
  refine .inr (.inl ⟨Nat.le_of_ble_eq_true hP,by rw [e];exact Nat.le_add_left _ _,by rw [e];exact Nat.add_lt_add_right (Nat.le_of_ble_eq_true hf) 1000000,?_⟩)
  unfold tabU at hg
  split at hg
  ·exact .inl rfl
  ·right
   rw [show g - 1000000=f from by rw [e];exact Nat.add_sub_cancel _ _]
   exact h ys φ r hg hφ
 ·exact hl g ys φ r hg hφ
theorem tab_cons {P:Program}{f:FuncId}{G:List AV→Option (Prop × AV)}{l:List (FuncId × (List AV→Option (Prop × AV)))} (h:ConT P f G) (hl:TabOK P (tab l)) (hf:Nat.blt f 1000000=true:=by rfl):TabOK P (tab ((f,G)::l)):=by
 intro g ys φ r hg hφ
 simp only [tab]at hg
 split at hg
 ·rename_i e;subst e;exact .inl ⟨Nat.le_of_ble_eq_true hf,h ys φ r hg hφ⟩
 ·exact hl g ys φ r hg hφ
theorem tab_consG {P:Program}{f:FuncId}{ks:List Nat}{G:List AV→Option (Prop × AV)}{l:List (FuncId × (List AV→Option (Prop × AV)))} (h:ConTG P f G) (hP:Nat.ble P.funcs.size 1000000=true) (hl:TabOK P (tab l)) (hf:Nat.blt f 1000000=true:=by rfl):TabOK P (tab ((f+1000000,tabU 0 996 fun _=>none)::(f+2000000,tabG ks G)::l)):=by
 intro g ys φ r hg hφ
 simp only [tab]at hg
 split at hg
 ·rename_i e
  refine .inr (.inl ⟨Nat.le_of_ble_eq_true hP,by rw [e];exact Nat.le_add_left _ _,by rw [e];exact Nat.add_lt_add_right (Nat.le_of_ble_eq_true hf) 1000000,?_⟩)
  unfold tabU at hg
  split at hg
  ·exact .inl rfl
  ·cases hg
 ·split at hg
  ·rename_i e
   refine .inr (.inr (.inl ⟨Nat.le_of_ble_eq_true hP,by rw [e];exact Nat.le_add_left _ _,by rw [e];exact Nat.add_lt_add_right (Nat.le_of_ble_eq_true hf) 2000000,?_⟩))
   unfold tabG at hg
   split at hg
   ·exact .inl rfl
   ·right
    rw [show g - 2000000=f from by rw [e];exact Nat.add_sub_cancel _ _]
    exact h ys φ r hg hφ
  ·exact hl g ys φ r hg hφ
@[simp] theorem tab_none (f:FuncId) (ys:List AV):tab [] f ys=none:=nr rfl
@[simp] theorem tabU_junk (p k:Nat) (G:List AV→Option (Prop × AV)):tabU p k G [.junk]=some (True,.ptr p k):=nr rfl
@[simp] theorem tabU_fr (p k:Nat) (G:List AV→Option (Prop × AV)) (e:TypeId) (rows:List (List PV)) (l:List AV):tabU p k G (.fr e rows::l)=G (.fr e rows::l):=nr rfl
@[simp] theorem tabU_pv (p k:Nat) (G:List AV→Option (Prop × AV)) (q:PV) (l:List AV):tabU p k G (.pv q::l)=G (.pv q::l):=nr rfl
@[simp] theorem tabU_tup (p k:Nat) (G:List AV→Option (Prop × AV)) (q l:List AV):tabU p k G (.tup q::l)=G (.tup q::l):=nr rfl
@[simp] theorem tab_look (f g:FuncId) (G:List AV→Option (Prop × AV)) (l:List (FuncId × (List AV→Option (Prop × AV)))) (ys:List AV):tab ((f,G)::l) g ys=if g=f then G ys else tab l g ys:=nr rfl
end Go.Proofs.Ytlmkcmfmfahcfaa.Ab.R
namespace Go.Proofs.Ytlmkcmfmfahcfaa.Ab
open Go Go.RowKit
abbrev AI.a (d:Nat) (k:AK) (xs:List Operand):AI:=⟨some d,k,xs,none,[],none⟩
abbrev AI.s (k:AK) (xs:List Operand):AI:=⟨none,k,xs,none,[],none⟩
abbrev AI.m (d t:Nat):AI:=⟨some d,.mov,[.tmp t],none,[],none⟩
abbrev AI.mg (d t g:Nat) (b:Bool):AI:=⟨some d,.mov,[.tmp t],some (g,b),[],none⟩
abbrev AI.b (d:Nat) (k:AK) (xs:List Operand) (g:Nat) (b:Bool):AI:=⟨some d,k,xs,some (g,b),[],none⟩
abbrev AI.pa (d x y:Nat):AI:=⟨some d,.pick,[.tmp x,.tmp y,.const (.bool false)],none,[],none⟩
abbrev AI.po (d x y:Nat):AI:=⟨some d,.pick,[.tmp x,.const (.bool true),.tmp y],none,[],none⟩
abbrev AI.u (d:Nat) (k:AK) (t:Nat):AI:=⟨some d,k,[.tmp t],none,[],none⟩
abbrev AI.w (d:Nat) (k:AK) (t u:Nat):AI:=⟨some d,k,[.tmp t,.tmp u],none,[],none⟩
abbrev AI.bu (d:Nat) (k:AK) (t g:Nat) (b:Bool):AI:=⟨some d,k,[.tmp t],some (g,b),[],none⟩
abbrev AI.bw (d:Nat) (k:AK) (t u g:Nat) (b:Bool):AI:=⟨some d,k,[.tmp t,.tmp u],some (g,b),[],none⟩
abbrev AI.c (d:Nat) (k:AK) (t:Nat) (n:Int):AI:=⟨some d,k,[.tmp t,.const (.int .i64 n)],none,[],none⟩
abbrev AI.bc (d:Nat) (k:AK) (t:Nat) (n:Int) (g:Nat) (b:Bool):AI:=⟨some d,k,[.tmp t,.const (.int .i64 n)],some (g,b),[],none⟩
abbrev ci (n:Int):Operand:=.const (.int .i64 n)
end Go.Proofs.Ytlmkcmfmfahcfaa.Ab
namespace Go.Proofs.Ytlmkcmfmfahcfaa.Ab.R
open Go Go.RowKit
theorem wrap_i64 {x:Int} (h : -9223372036854775808≤x∧x≤9223372036854775807):IntKind.i64.wrap x=x:=by
 simp only [IntKind.wrap,IntKind.bits,IntKind.signed]
 simp
 omega
theorem wrap_u64 {x:Int} (h : 0≤x∧x≤18446744073709551615):IntKind.u64.wrap x=x:=by
 simp only [IntKind.wrap,IntKind.bits,IntKind.signed]
 simp
 omega
theorem wrap_u8 (x:Int):IntKind.u8.wrap x=x % 256:=by
 simp only [IntKind.wrap,IntKind.bits,IntKind.signed]
 simp
@[simp] theorem arrO_none:arrO none=none:=rfl
@[simp] theorem arrO_box (cs:List AV):arrO (some (.box cs))=none:=rfl
@[simp] theorem vone_int (k:IntKind) (n:Int):(Value.int k n).oneCell'=true:=rfl
@[simp] theorem vone_bool (b:Bool):(Value.bool b).oneCell'=true:=rfl
@[simp] theorem vone_str (s:ByteArray):(Value.string s).oneCell'=true:=rfl
@[simp] theorem vone_ptr (a:Option Addr):(Value.pointer a).oneCell'=true:=rfl
@[simp] theorem vone_slice (a:Option Addr) (n c:Nat):(Value.slice a n c).oneCell'=true:=rfl
@[simp] theorem bytesRow_nil:bytesRow []=[]:=rfl
theorem maxLen_eq:maxLen=9223372036854775807:=rfl
end Go.Proofs.Ytlmkcmfmfahcfaa.Ab.R
