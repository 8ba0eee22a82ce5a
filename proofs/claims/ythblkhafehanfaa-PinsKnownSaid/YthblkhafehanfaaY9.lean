/- How the abstract machine reckons: objects handed over whole, maps of plain values, ranges. -/
import Derived.Test.YthblkhafehanfaaY8
import Derived.Test.YthblkhafehanfaaChecked
set_option linter.unusedVariables false
set_option linter.unusedSimpArgs false
set_option linter.unnecessarySimpa false
set_option maxHeartbeats 40000000
set_option maxRecDepth 100000
namespace Go.Proofs.Ythblkhafehanfaa.Ab.R
open Go Go.RowKit
section
variable {P:Program} {Γ:Tab} {K:St→Prop} {vs:List (Nat × AV)} {os:List (Nat × AO)}
@[simp ↓] theorem stepEx_mkv {d:Nat}:stepEx (some d) .mkv [] K ⟨look vs,lookO os⟩ = (lookO os d = none∧K ⟨put (some d) (.own d) (look vs),addL [(d,.mpv [])] (lookO os)⟩):=rfl
@[simp ↓] theorem stepEx_puv {d:Option Nat} {s:Nat} {x y z:AV}:stepEx d (.puv s) [x,y,z] K ⟨look vs,lookO os⟩ = exPuv d s (strip x) (strip y) (strip z) [x,y,z] K ⟨look vs,lookO os⟩:=rfl
@[simp ↓] theorem exPuv_eq {d:Option Nat} {s t:Nat} {k v:PV} {xs:List AV}:exPuv d s (.own t) (.pv k) (.pv v) xs K ⟨look vs,lookO os⟩ = (asksL xs∧withO (mpvO (lookO os t)) fun es=>srt k = s∧keysV s es∧K ⟨put d .junk (look vs),addO t (.mpv (putV k v es)) (lookO os)⟩):=rfl
@[simp ↓] theorem stepEx_gev {d:Option Nat} {s:Nat} {z:Value} {ok:Bool} {x y:AV}:stepEx d (.gev s z ok) [x,y] K ⟨look vs,lookO os⟩ = exGev d s z ok (strip x) (strip y) [x,y] K ⟨look vs,lookO os⟩:=rfl
@[simp ↓] theorem exGev_eq {d:Option Nat} {s:Nat} {z:Value} {ok:Bool} {X:AV} {k:PV} {xs:List AV}:exGev d s z ok X (.pv k) xs K ⟨look vs,lookO os⟩ = (asksL xs∧withO (mvOf (lookO os) X) fun es=>z.oneCell' = true∧srt k = s∧keysV s es∧K ⟨put d (gotV z ok (getV k es)) (look vs),lookO os⟩):=rfl
@[simp ↓] theorem stepEx_dlv {d:Option Nat} {s:Nat} {x y:AV}:stepEx d (.dlv s) [x,y] K ⟨look vs,lookO os⟩ = exDlv d s (strip x) (strip y) [x,y] K ⟨look vs,lookO os⟩:=rfl
@[simp ↓] theorem exDlv_eq {d:Option Nat} {s t:Nat} {k:PV} {xs:List AV}:exDlv d s (.own t) (.pv k) xs K ⟨look vs,lookO os⟩ = (asksL xs∧withO (mpvO (lookO os t)) fun es=>srt k = s∧keysV s es∧K ⟨put d .junk (look vs),addO t (.mpv (delV k es)) (lookO os)⟩):=rfl
@[simp ↓] theorem stepEx_pnil {d:Option Nat} {ne:Bool} {x:AV}:stepEx d (.pnil ne) [x] K ⟨look vs,lookO os⟩ = (asksL [x]∧withO (isNilP (strip x)) fun b=>K ⟨put d (.pv (.bool (b != ne))) (look vs),lookO os⟩):=rfl
@[simp ↓] theorem stepEx_rng {d:Option Nat} {x:AV}:stepEx d .rng [x] K ⟨look vs,lookO os⟩ = exRng d (strip x) [x] K ⟨look vs,lookO os⟩:=rfl
@[simp ↓] theorem exRng_eq {d:Nat} {es:List (PV × PV)} {xs:List AV}:exRng (some d) (.pv (.mv es)) xs K ⟨look vs,lookO os⟩ = (asksL xs∧lookO os d = none∧K ⟨put (some d) (.ptr d 0) (look vs),addL [(d,.itr es none)] (lookO os)⟩):=rfl
@[simp ↓] theorem stepEx_nxt {d:Option Nat} {x:AV}:stepEx d .nxt [x] K ⟨look vs,lookO os⟩ = exNxt d (strip x) [x] K ⟨look vs,lookO os⟩:=rfl
@[simp ↓] theorem exNxt_eq {d:Option Nat} {t:Nat} {xs:List AV}:exNxt d (.ptr t 0) xs K ⟨look vs,lookO os⟩ = (asksL xs∧withO (itrO (lookO os t)) fun r=>(r.1 = []→K ⟨put d (.tup [.pv (.bool false)]) (look vs),lookO os⟩) ∧
   ∀ (e:PV × PV) (l m:List (PV × PV)),r.1 = l ++ e :: m→K ⟨put d (.tup [.pv (.bool true),.pv e.1,.pv e.2]) (look vs),addO t (.itr (l ++ m) (some e)) (lookO os)⟩):=rfl
@[simp ↓] theorem stepEx_ent {d:Option Nat} {x:AV}:stepEx d .ent [x] K ⟨look vs,lookO os⟩ = exEnt d (strip x) [x] K ⟨look vs,lookO os⟩:=rfl
@[simp ↓] theorem exEnt_eq {d:Option Nat} {t:Nat} {xs:List AV}:exEnt d (.ptr t 0) xs K ⟨look vs,lookO os⟩ = (asksL xs∧withO (itrO (lookO os t)) fun r=>withO r.2 fun e=>K ⟨put d (.tup [.pv e.1,.pv e.2]) (look vs),lookO os⟩):=rfl
@[simp ↓] theorem stepG_eq {d f:Nat} {ks:List Nat} {xs:List AV}:stepG Γ (some d) f xs (some ks) K ⟨look vs,lookO os⟩ = (asksL xs∧stepG1 Γ d f ks (xs.map strip) (tagsG (lookO os) ks (xs.map strip)) ((lentG ks (xs.map strip)).flatMap tops) K ⟨look vs,lookO os⟩):=rfl
@[congr] theorem stepG_congr {d:Option Nat} {f:Nat} {xs xs':List AV} {o o':Option (List Nat)} {st:St} (h1:True→xs = xs') (h2:True→o = o'):stepG Γ d f xs o K st = stepG Γ d f xs' o' K st:=by rw [h1 trivial,h2 trivial]
@[simp ↓] theorem stepG1_eq {d f:Nat} {ks:List Nat} {xs:List AV} {T Q:List Nat}:stepG1 Γ d f ks xs T Q K ⟨look vs,lookO os⟩ = (T.Nodup∧(∀ t∈Q,t∈T)∧stepG2 Γ d f ks xs T Q (T.filter fun t=>!Q.contains t) K ⟨look vs,lookO os⟩):=rfl
@[simp ↓] theorem stepG2_eq {d f:Nat} {ks:List Nat} {xs:List AV} {T Q W:List Nat}:stepG2 Γ d f ks xs T Q W K ⟨look vs,lookO os⟩ = (Q.Nodup∧withO (ysG (lookO os) (wipeM T T (lookO os)) T ks xs) fun ys=>stepG3 Γ d f ks xs T Q W K ⟨look vs,lookO os⟩ ys):=rfl
@[simp ↓] theorem stepG3_eq {d f:Nat} {ks:List Nat} {xs ys:List AV} {T Q W:List Nat}:stepG3 Γ d f ks xs T Q W K ⟨look vs,lookO os⟩ ys = withO (Γ (f + 2000000) ys) fun x=>x.1∧(puresG T ks xs = true∨∀ y∈outG x.2 ++ [retG x.2],flatG 5 y) ∧
  withO (numW (num 5 true) (outG x.2) (Q,poolG d T W)) fun o=>o.1 = lentG ks xs∧withO (num 5 false (retG x.2) o.2.2) fun r=>
   (∀ p∈o.2.1 ++ r.2.1,T.contains p.1 = true∨lookO os p.1 = none)∧K ⟨put (some d) r.1 (wipeV W (look vs)),addL (o.2.1 ++ r.2.1) (wipeM T W (lookO os))⟩:=rfl
end
@[simp] theorem rdO_arr (e:TypeId) (rows:List (List PV)):rdO (some (.arr e rows)) = some (.fr e rows):=nr rfl
@[simp] theorem rdW_nil (f:AV→Option (AV × List Nat)):rdW f [] = some ([],[]):=nr rfl
@[simp] theorem rdW_cons (f:AV→Option (AV × List Nat)) (c:AV) (cs:List AV):rdW f (c :: cs) = (f c).bind fun r=>(rdW f cs).map fun q=>(r.1 :: q.1,r.2 ++ q.2):=nr rfl
@[simp] theorem rd_own (n:Nat) (objs:Nat→Option AO) (t:Nat):rd (n + 1) objs (.own t) = (rdO (objs t)).map fun y=>(y,[t]):=nr rfl
@[simp] theorem rd_ptr (n:Nat) (objs:Nat→Option AO) (t:Nat):rd (n + 1) objs (.ptr t 0) = (boxO (objs t)).bind fun cs=>(rdW (rd n objs) cs).map fun r=>(.bx r.1,t :: r.2):=nr rfl
@[simp] theorem rd_agg (n:Nat) (objs:Nat→Option AO) (cs:List AV):rd (n + 1) objs (.agg cs) = (rdW (rd n objs) cs).map fun r=>(.agg r.1,r.2):=nr rfl
@[simp] theorem rd_pv (n:Nat) (objs:Nat→Option AO) (p:PV):rd (n + 1) objs (.pv p) = some (.pv p,[]):=nr rfl
@[simp] theorem tk_t (p:Nat) (ps us:List Nat):tk true (p :: ps,us) = some (p,ps,us):=nr rfl
@[simp] theorem numW_nil (f:AV→List Nat × List Nat→Option (AV × List (Nat × AO) × List Nat × List Nat)) (s:List Nat × List Nat):numW f [] s = some ([],[],s):=nr rfl
@[simp] theorem numW_cons (f:AV→List Nat × List Nat→Option (AV × List (Nat × AO) × List Nat × List Nat)) (c:AV) (cs:List AV) (s:List Nat × List Nat):numW f (c :: cs) s = (f c s).bind fun r=>(numW f cs r.2.2).map fun q=>(r.1 :: q.1,r.2.1 ++ q.2.1,q.2.2):=nr rfl
@[simp] theorem num_fr (n:Nat) (top:Bool) (e:TypeId) (rows:List (List PV)) (s:List Nat × List Nat):num (n + 1) top (.fr e rows) s = (tk top s).map fun q=>(.own q.1,[(q.1,.arr e rows)],q.2):=nr rfl
@[simp] theorem num_bx (n:Nat) (top:Bool) (cs:List AV) (s:List Nat × List Nat):num (n + 1) top (.bx cs) s = (tk top s).bind fun q=>(numW (num n false) cs q.2).map fun r=>(.ptr q.1 0,(q.1,.box r.1) :: r.2.1,r.2.2):=nr rfl
@[simp] theorem num_agg (n:Nat) (top:Bool) (cs:List AV) (s:List Nat × List Nat):num (n + 1) top (.agg cs) s = (numW (num n top) cs s).map fun r=>(.agg r.1,r.2):=nr rfl
@[simp] theorem num_tup (n:Nat) (top:Bool) (cs:List AV) (s:List Nat × List Nat):num (n + 1) top (.tup cs) s = (numW (num n top) cs s).map fun r=>(.tup r.1,r.2):=nr rfl
@[simp] theorem num_pv (n:Nat) (top:Bool) (p:PV) (s:List Nat × List Nat):num (n + 1) top (.pv p) s = some (.pv p,[],s):=nr rfl
@[simp] theorem topC_own (t:Nat):topC (.own t) = [t]:=nr rfl
@[simp] theorem tops_agg (cs:List AV):tops (.agg cs) = cs.flatMap topC:=nr rfl
@[simp] theorem tops_own (t:Nat):tops (.own t) = [t]:=nr rfl
@[simp] theorem tops_ptr (t:Nat):tops (.ptr t 0) = [t]:=nr rfl
@[simp] theorem ysG_nil (objs objs':Nat→Option AO) (T:List Nat):ysG objs objs' T [] [] = some []:=nr rfl
@[simp] theorem ysG_0 (objs objs':Nat→Option AO) (T ks:List Nat) (x:AV) (xs:List AV):ysG objs objs' T (0 :: ks) (x :: xs) = (rei objs' (wipe T x)).bind fun y=>(ysG objs objs' T ks xs).map (y :: ·):=nr rfl
@[simp] theorem ysG_2 (objs objs':Nat→Option AO) (T ks:List Nat) (x:AV) (xs:List AV):ysG objs objs' T (2 :: ks) (x :: xs) = ((rd 5 objs x).map fun r=>.tup [r.1]).bind fun y=>(ysG objs objs' T ks xs).map (y :: ·):=nr rfl
@[simp] theorem tagsG_nil (objs:Nat→Option AO):tagsG objs [] [] = []:=nr rfl
@[simp] theorem tagsG_0 (objs:Nat→Option AO) (ks:List Nat) (x:AV) (xs:List AV):tagsG objs (0 :: ks) (x :: xs) = tagsG objs ks xs:=nr rfl
@[simp] theorem tagsG_2 (objs:Nat→Option AO) (ks:List Nat) (x:AV) (xs:List AV):tagsG objs (2 :: ks) (x :: xs) = ((rd 5 objs x).map (·.2)).getD [] ++ tagsG objs ks xs:=nr rfl
@[simp] theorem lentG_nil:lentG [] [] = []:=nr rfl
@[simp] theorem lentG_0 (ks:List Nat) (x:AV) (xs:List AV):lentG (0 :: ks) (x :: xs) = lentG ks xs:=nr rfl
@[simp] theorem lentG_2 (ks:List Nat) (x:AV) (xs:List AV):lentG (2 :: ks) (x :: xs) = x :: lentG ks xs:=nr rfl
@[simp] theorem puresG_nil (T:List Nat):puresG T [] [] = true:=nr rfl
@[simp] theorem puresG_0 (T ks:List Nat) (x:AV) (xs:List AV):puresG T (0 :: ks) (x :: xs) = (pure1 (wipe T x) && puresG T ks xs):=nr rfl
@[simp] theorem puresG_2 (T ks:List Nat) (x:AV) (xs:List AV):puresG T (2 :: ks) (x :: xs) = puresG T ks xs:=nr rfl
@[simp] theorem flatG_fr (n:Nat) (e:TypeId) (rows:List (List PV)):flatG (n + 1) (.fr e rows) = flatRows rows:=nr rfl
@[simp] theorem flatG_bx (n:Nat) (cs:List AV):flatG (n + 1) (.bx cs) = ∀ c∈cs,flatG n c:=nr rfl
@[simp] theorem flatG_agg (n:Nat) (cs:List AV):flatG (n + 1) (.agg cs) = ∀ c∈cs,flatG n c:=nr rfl
@[simp] theorem flatG_tup (n:Nat) (cs:List AV):flatG (n + 1) (.tup cs) = ∀ c∈cs,flatG n c:=nr rfl
@[simp] theorem flatG_pv (n:Nat) (p:PV):flatG (n + 1) (.pv p) = (flatP p = true):=nr rfl
@[simp] theorem outG_clo (n:Nat) (r:AV) (l:List AV):outG (.clo n (r :: l)) = l:=nr rfl
@[simp] theorem retG_clo (n:Nat) (r:AV) (l:List AV):retG (.clo n (r :: l)) = r:=nr rfl
@[simp] theorem ksOf_rp (l:List PV):ksOf (.rp l) = some (l.map fun p=>match p with | .int _ n=>n.toNat | _=>0):=nr rfl
@[simp] theorem poolG_eq (d:Nat) (T W:List Nat):poolG d T W = W.filter (fun t=>t % 1000 != 999) ++ [d,d + 1000,d + 2000,d + 3000,d + 4000,d + 5000,d + 6000,d + 7000].filter fun t=>!T.contains t:=nr rfl
@[simp] theorem wipe_nil (x:AV):wipe [] x = x:=nr rfl
@[simp] theorem wipe_cons (t:Nat) (W:List Nat) (x:AV):wipe (t :: W) x = wipe0 (t :: W) x:=nr rfl
@[simp] theorem wipe0_pv (W:List Nat) (p:PV):wipe0 W (.pv p) = .pv p:=nr rfl
@[simp] theorem wipeC_own (W:List Nat) (t:Nat):wipeC W (.own t) = if W.contains t then .junk else .own t:=nr rfl
@[simp] theorem wipeC_pv (W:List Nat) (p:PV):wipeC W (.pv p) = .pv p:=nr rfl
@[simp] theorem wipeO_nil (o:AO):wipeO [] o = o:=nr rfl
@[simp] theorem wipeO_cons (t:Nat) (W:List Nat) (o:AO):wipeO (t :: W) o = wipeO0 (t :: W) o:=nr rfl
@[simp] theorem wipeO0_box (W:List Nat) (cs:List AV):wipeO0 W (.box cs) = .box (cs.map (wipeC W)):=nr rfl
@[simp] theorem wipeO0_arr (W:List Nat) (e:TypeId) (rows:List (List PV)):wipeO0 W (.arr e rows) = .arr e rows:=nr rfl
@[simp] theorem wipeV_look (W:List Nat) (l:List (Nat × AV)):wipeV W (look l) = look (l.map fun x=>(x.1,wipe W x.2)):=by
 funext s
 unfold wipeV
 induction l with
 | nil=>show wipe W .junk = .junk;unfold wipe;split<;>rfl
 | cons x l ih=>
  obtain ⟨k,v⟩:=x
  simp only [List.map_cons,look]
  split
  ·rfl
  ·exact ih
def rmG (T W:List Nat):List (Nat × AO)→List (Nat × AO)
 | []=>[]
 | x :: l=>if T.contains x.1 = true then rmG T W l else (x.1,wipeO W x.2) :: rmG T W l
@[simp] theorem rmG_nil (T W:List Nat):rmG T W [] = []:=nr rfl
@[simp] theorem rmG_cons (T W:List Nat) (s:Nat) (o:AO) (l:List (Nat × AO)):rmG T W ((s,o) :: l) = if T.contains s = true then rmG T W l else (s,wipeO W o) :: rmG T W l:=nr rfl
@[simp] theorem wipeM_look (T W:List Nat) (l:List (Nat × AO)):wipeM T W (lookO l) = lookO (rmG T W l):=by
 funext s
 unfold wipeM
 induction l with
 | nil=>simp [rmG,lookO]
 | cons x l ih=>
  obtain ⟨k,v⟩:=x
  simp only [rmG_cons,lookO]
  by_cases hs:T.contains s = true
  ·rw [if_pos hs] at ih ⊢
   by_cases hk:T.contains k = true
   ·rw [if_pos hk];exact ih
   ·have:¬ s = k:=fun e=>hk (e ▸ hs)
    rw [if_neg hk];simp only [lookO,if_neg this];exact ih
  ·rw [if_neg hs] at ih ⊢
   by_cases hsk:s = k
   ·subst hsk;rw [if_neg hs];simp [lookO]
   ·rw [if_neg hsk]
    by_cases hk:T.contains k = true
    ·rw [if_pos hk];exact ih
    ·rw [if_neg hk];simp only [lookO,if_neg hsk];exact ih
@[simp] theorem trC_agg (cs:List AV):trC (.agg cs) = cs.any fun c=>match c with | .bx _ | .mf _=>true | _=>false:=nr rfl
@[simp] theorem trC_pv (p:PV):trC (.pv p) = false:=nr rfl
@[simp] theorem trC_fr (e:TypeId) (rows:List (List PV)):trC (.fr e rows) = false:=nr rfl
@[simp] theorem trR_tup (vs:List AV):trR (.tup vs) = vs.any trC:=nr rfl
@[simp] theorem trR_agg (cs:List AV):trR (.agg cs) = trC (.agg cs):=nr rfl
@[simp] theorem trR_pv (p:PV):trR (.pv p) = false:=nr rfl
@[simp] theorem trR_fr (e:TypeId) (rows:List (List PV)):trR (.fr e rows) = false:=nr rfl
@[simp] theorem flatR_eq (r:AV):flatR r = if trR r = true then flatG 5 r else flat r:=nr rfl
@[simp] theorem newO_eq (d:Nat) (r:AV):newO d r = if trR r = true then (((num 5 false r ([],pool8 d)).map (·.2.1)).getD []) else frTags d r:=nr rfl
@[simp] theorem newV_eq (d:Nat) (r:AV):newV d r = if trR r = true then (((num 5 false r ([],pool8 d)).map (·.1)).getD .junk) else mapTop (tagC d) r:=nr rfl
@[simp] theorem resR_eq (d:Nat) (r:AV):resR d r = if trR r = true then (num 5 false r ([],pool8 d)).isSome else resOK r:=nr rfl
@[simp] theorem pool8_eq (d:Nat):pool8 d = [d,d + 1000,d + 2000,d + 3000,d + 4000,d + 5000,d + 6000,d + 7000]:=nr rfl
@[congr] theorem EndsKG_congr {P:Program} {rs:List (Nat × Option (Option Nat))} {L:List AV} {x:AV} {st st':St} (h:True→st = st'):EndsKG P rs L x st = EndsKG P rs L x st':=by rw [h trivial]
@[congr] theorem EndsG_congr {P:Program} {rs:List (Nat × Option (Option Nat))} {L:List AV} {x:AV} {st st':St} (h:True→st = st'):EndsG P rs L x st = EndsG P rs L x st':=by rw [h trivial]
section
variable {P:Program} {objs:Nat→Option AO}
@[simp] theorem mtW_nil (f:AV→AV→Prop):mtW f [] [] = True:=nr rfl
@[simp] theorem mtW_cons (f:AV→AV→Prop) (c y:AV) (cs ys:List AV):mtW f (c :: cs) (y :: ys) = (f c y∧mtW f cs ys):=nr rfl
@[simp] theorem mt_fr (n:Nat) (x:AV) (e:TypeId) (rows:List (List PV)):mt P objs (n + 1) x (.fr e rows) = fzC P objs x (.fr e rows):=nr rfl
@[simp] theorem mt_bx (n t:Nat) (cs:List AV):mt P objs (n + 1) (.ptr t 0) (.bx cs) = withO (boxO (objs t)) fun l=>mtW (mt P objs n) l cs:=by
 show (∃ t' l,AV.ptr t 0 = .ptr t' 0∧objs t' = some (.box l)∧mtW (mt P objs n) l cs) = _
 apply propext
 constructor
 ·rintro ⟨t',l,h,h',h''⟩;cases h;rw [h'];exact h''
 ·intro h
  obtain ⟨l,hl,h⟩:=withO_inv h
  exact ⟨t,l,rfl,boxO_inv hl,h⟩
@[simp] theorem mt_agg (n:Nat) (l cs:List AV):mt P objs (n + 1) (.agg l) (.agg cs) = mtW (mt P objs n) l cs:=by
 show (∃ l',AV.agg l = .agg l'∧mtW (mt P objs n) l' cs) = _
 apply propext
 exact ⟨fun ⟨_,h,h'⟩=>by cases h;exact h',fun h=>⟨l,rfl,h⟩⟩
@[simp] theorem mt_tup (n:Nat) (l cs:List AV):mt P objs (n + 1) (.tup l) (.tup cs) = mtW (mt P objs n) l cs:=by
 show (∃ l',AV.tup l = .tup l'∧mtW (mt P objs n) l' cs) = _
 apply propext
 exact ⟨fun ⟨_,h,h'⟩=>by cases h;exact h',fun h=>⟨l,rfl,h⟩⟩
@[simp] theorem mt_pv (n:Nat) (x:AV) (p:PV):mt P objs (n + 1) x (.pv p) = (x = .pv p):=nr rfl
@[simp] theorem tg_own (n t:Nat):tg objs (n + 1) (.own t) = [t]:=nr rfl
@[simp] theorem tg_ptr (n t:Nat):tg objs (n + 1) (.ptr t 0) = t :: ((boxO (objs t)).getD []).flatMap (tg objs n):=nr rfl
@[simp] theorem tg_agg (n:Nat) (cs:List AV):tg objs (n + 1) (.agg cs) = cs.flatMap (tg objs n):=nr rfl
@[simp] theorem tg_tup (n:Nat) (cs:List AV):tg objs (n + 1) (.tup cs) = cs.flatMap (tg objs n):=nr rfl
@[simp] theorem tg_pv (n:Nat) (p:PV):tg objs (n + 1) (.pv p) = []:=nr rfl
end
def tabG (ks:List Nat) (G:List AV→Option (Prop × AV)) (ys:List AV):Option (Prop × AV):=match ys with
 | [.junk]=>some (True,.rp (ks.map fun k:Nat=>PV.int .i64 (k:Int)))
 | ys=>G ys
def ConTG (P:Program) (f:FuncId) (G:List AV→Option (Prop × AV)):Prop:=∀ ys φ r,G ys = some (φ,r)→φ→ConG P f ys r
@[simp] theorem tabG_junk (ks:List Nat) (G:List AV→Option (Prop × AV)):tabG ks G [.junk] = some (True,.rp (ks.map fun k:Nat=>PV.int .i64 (k:Int))):=nr rfl
@[simp] theorem tabG_pv (ks:List Nat) (G:List AV→Option (Prop × AV)) (q:PV) (l:List AV):tabG ks G (.pv q :: l) = G (.pv q :: l):=nr rfl
@[simp] theorem tabG_tup (ks:List Nat) (G:List AV→Option (Prop × AV)) (q l:List AV):tabG ks G (.tup q :: l) = G (.tup q :: l):=nr rfl
@[simp ↓] theorem gt_eq (Γ:Tab) (f:FuncId) (ys:List AV):gt Γ f ys = gtO (Γ f ys) (Γ (f + 3000000) ys):=rfl
@[congr] theorem gtO_congr {a a' b:Option (Prop × AV)} (h:True→a = a'):gtO a b = gtO a' b:=by rw [h trivial]
@[simp ↓] theorem gtO_some (x:Prop × AV) (y:Option (Prop × AV)):gtO (some x) y = some (x.1∧trR x.2 = false,x.2):=rfl
@[simp ↓] theorem gtO_none (y:Option (Prop × AV)):gtO none y = y.map fun x=>(x.1∧trR x.2 = true,x.2):=rfl
section
variable {P:Program} {Γ:Tab} {vs:List (Nat × AV)} {os:List (Nat × AO)} {K:St→Prop} {rs:List (Nat × Option (Option Nat))} {r:AV} {objs:Nat→Option AO} {C:List AV→Prop}
@[simp ↓] theorem retJ_ret:retJ K .ret ⟨look vs,lookO os⟩ = K ⟨look vs,lookO os⟩:=rfl
@[simp ↓] theorem retJ_exit {id:Nat}:retJ K (.exit id) ⟨look vs,lookO os⟩ = False:=rfl
@[simp ↓] theorem Ends_eq {r:AV}:Ends P rs r ⟨look vs,lookO os⟩ = resVals ⟨look vs,lookO os⟩ rs fun xs=>EndsK P rs r (shareT (pubs (tupleOf xs) r) ⟨look vs,lookO os⟩):=rfl
@[congr] theorem EndsK_congr {st st':St} {r:AV} (h:True→st = st'):EndsK P rs r st = EndsK P rs r st':=by rw [h trivial]
@[simp ↓] theorem EndsU_eq {r:AV} {hout:List (Nat × AO)}:EndsU P rs r hout ⟨look vs,lookO os⟩ = resVals ⟨look vs,lookO os⟩ rs fun xs=>EndsKU P rs r hout (shareT (pubs (tupleOf xs) r) ⟨look vs,lookO os⟩):=rfl
@[congr] theorem EndsKU_congr {st st':St} {r:AV} {hout:List (Nat × AO)} (h:True→st = st'):EndsKU P rs r hout st = EndsKU P rs r hout st':=by rw [h trivial]
@[simp ↓] theorem EndsKU_eq {r:AV} {hout:List (Nat × AO)}:EndsKU P rs r hout ⟨look vs,lookO os⟩ = resVals ⟨look vs,lookO os⟩ rs fun xs=>fz P (lookO os) (tupleOf xs) r∧apartL (pl (tupleOf xs))∧backOK (lookO os) (pl (tupleOf xs)) hout:=rfl
@[simp] theorem backOK_nil (l:List (Nat × Nat)):backOK objs l [] = True:=nr rfl
@[simp] theorem mkA_fr (e:TypeId) (rows:List (List PV)):mkA (.fr e rows) = .own 998:=nr rfl
@[simp] theorem mkA_pv (p:PV):mkA (.pv p) = .pv p:=nr rfl
@[simp] theorem mkA_clo (f:FuncId) (l:List AV):mkA (.clo f l) = .clo f l:=nr rfl
@[simp] theorem mkO_nil:mkO [] = []:=nr rfl
@[simp] theorem mkO_fr (e:TypeId) (rows:List (List PV)) (l:List AV):mkO (.fr e rows :: l) = [(998,.arr e rows)]:=nr rfl
@[simp] theorem mkO_pv (p:PV) (l:List AV):mkO (.pv p :: l) = mkO l:=nr rfl
@[simp ↓] theorem EndsK_eq {r:AV}:EndsK P rs r ⟨look vs,lookO os⟩ = resVals ⟨look vs,lookO os⟩ rs fun xs=>fz P (lookO os) (tupleOf xs) r∧apartL (pl (tupleOf xs)):=rfl
@[simp ↓] theorem EndsG_eq {L:List AV} {x:AV}:EndsG P rs L x ⟨look vs,lookO os⟩ = resVals ⟨look vs,lookO os⟩ rs fun xs=>EndsKG P rs L x (shareT (pubs (tupleOf xs) (retG x)) ⟨look vs,lookO os⟩):=rfl
@[simp ↓] theorem EndsKG_eq {L:List AV} {x:AV}:EndsKG P rs L x ⟨look vs,lookO os⟩ = resVals ⟨look vs,lookO os⟩ rs fun xs=>mt P (lookO os) 6 (tupleOf xs) (retG x)∧mtW (mt P (lookO os) 5) L (outG x)∧(L.flatMap (tg (lookO os) 5) ++ tg (lookO os) 6 (tupleOf xs)).Nodup:=rfl
@[simp] theorem flagG_eq {f:FuncId}:flagG Γ f = (Γ (f + 2000000) [.junk]).bind fun x=>ksOf x.2:=nr rfl
@[simp] theorem lent_nil {α:Type} (l:List α):lent [] l = []:=nr rfl
@[simp] theorem lent_tup {α:Type} (y:AV) (ys:List AV) (v : α) (l:List α):lent (.tup [y] :: ys) (v :: l) = v :: lent ys l:=nr rfl
@[simp] theorem lent_pv {α:Type} (p:PV) (ys:List AV) (v : α) (l:List α):lent (.pv p :: ys) (v :: l) = lent ys l:=nr rfl
@[simp] theorem topOK_own (t:Nat):topOK (.own t) = true:=nr rfl
@[simp] theorem topOK_ptr (t:Nat):topOK (.ptr t 0) = true:=nr rfl
@[simp] theorem topOK_agg (cs:List AV):topOK (.agg cs) = cs.all topK:=nr rfl
@[simp] theorem topK_own (t:Nat):topK (.own t) = true:=nr rfl
@[simp] theorem pubs_tup (vs rs:List AV):pubs (.tup vs) (.tup rs) = pubVs vs rs:=nr rfl
@[simp] theorem pubs_agg (vs:List AV) (r:AV):pubs (.agg vs) r = pub1 (.agg vs) r:=by cases r<;>rfl
@[simp] theorem pubs_pv (p:PV) (r:AV):pubs (.pv p) r = pubC (.pv p) r:=by cases r<;>rfl
@[simp] theorem pubs_own_fr (t:Nat) (e:TypeId) (rows:List (List PV)):pubs (.own t) (.fr e rows) = []:=nr rfl
@[simp] theorem pubVs_nil:pubVs [] [] = []:=nr rfl
@[simp] theorem pubVs_cons (c r:AV) (cs rs:List AV):pubVs (c :: cs) (r :: rs) = pub1 c r ++ pubVs cs rs:=nr rfl
@[simp] theorem pubCs_nil:pubCs [] [] = []:=nr rfl
@[simp] theorem pubCs_cons (c r:AV) (cs rs:List AV):pubCs (c :: cs) (r :: rs) = pubC c r ++ pubCs cs rs:=nr rfl
@[simp] theorem pub1_agg (cs rs:List AV):pub1 (.agg cs) (.agg rs) = pubCs cs rs:=nr rfl
@[simp] theorem pub1_pv (p:PV) (r:AV):pub1 (.pv p) r = pubC (.pv p) r:=by cases r<;>rfl
@[simp] theorem pub1_own (t:Nat) (r:AV):pub1 (.own t) r = pubC (.own t) r:=by cases r<;>rfl
@[simp] theorem pubC_own_fr (t:Nat) (e:TypeId) (rows:List (List PV)):pubC (.own t) (.fr e rows) = []:=nr rfl
@[simp] theorem pubC_same (p:PV):pubC (.pv p) (.pv p) = []:=by cases p<;>rfl
@[simp] theorem pubC_rint (p:PV) (k:IntKind) (n:Int):pubC (.pv p) (.pv (.int k n)) = []:=by cases p<;>rfl
@[simp] theorem pubC_rbool (p:PV) (b:Bool):pubC (.pv p) (.pv (.bool b)) = []:=by cases p<;>rfl
@[simp] theorem pubC_rfr (p:PV) (e:TypeId) (rows:List (List PV)):pubC (.pv p) (.fr e rows) = []:=by cases p<;>rfl
@[simp ↓] theorem resVals_nil:resVals ⟨look vs,lookO os⟩ [] C = C []:=rfl
@[simp ↓] theorem resVals_tmp {t:Nat}:resVals ⟨look vs,lookO os⟩ ((t,none) :: rs) C = resVals ⟨look vs,lookO os⟩ rs fun xs=>C (look vs t :: xs):=rfl
@[simp ↓] theorem resVals_cell {t:Nat} {n:Option Nat}:resVals ⟨look vs,lookO os⟩ ((t,some n) :: rs) C = withO (semQ (.load n) [look vs t] (lookO os)) fun x=>x.1∧resVals ⟨look vs,lookO os⟩ rs fun xs=>C (x.2 :: xs):=rfl
@[simp] theorem tupleOf_nil:tupleOf [] = .tup []:=nr rfl
@[simp] theorem tupleOf_one (v:AV):tupleOf [v] = v:=nr rfl
@[simp] theorem tupleOf_two (v u:AV) (l:List AV):tupleOf (v :: u :: l) = .tup (v :: u :: l):=nr rfl
@[simp] theorem argL_nil (i:Nat):argL i [] = []:=nr rfl
@[simp] theorem argL_cons (i:Nat) (v:AV) (l:List AV):argL i (v :: l) = (i,v) :: argL (i + 1) l:=nr rfl
@[simp] theorem fzC_own (t:Nat) (e:TypeId) (rows:List (List PV)):fzC P objs (.own t) (.fr e rows) = (objs t = some (.arr e rows)):=by
 apply propext;constructor
 ·rintro (⟨s,h,h2⟩ | ⟨h,_⟩ | ⟨_,_,_,h,_⟩)
  ·cases h;exact h2
  ·cases h
  ·cases h
 ·exact fun h=>.inl ⟨t,rfl,h⟩
@[simp] theorem fzC_sub (t:Nat) (e e1:TypeId) (hi:Nat) (rows:List (List PV)):fzC P objs (.sub t e1 0 hi) (.fr e rows) = (e1 = e∧∃ rs,objs t = some (.arr e rs)∧rows = rs.take hi):=by
 apply propext;constructor
 ·rintro (⟨s,h,h2⟩ | ⟨h,_⟩ | ⟨s,hi',rs,h,h2,h3⟩)
  ·cases h
  ·cases h
  ·cases h;exact ⟨rfl,rs,h2,h3⟩
 ·rintro ⟨rfl,rs,h2,h3⟩;exact .inr (.inr ⟨t,hi,rs,rfl,h2,h3⟩)
@[simp] theorem fz_sub (t:Nat) (e:TypeId) (lo hi:Nat) (r:AV):fz P objs (.sub t e lo hi) r = fzC P objs (.sub t e lo hi) r:=nr rfl
@[simp] theorem pubs_sub (t:Nat) (e:TypeId) (lo hi:Nat) (r:AV):pubs (.sub t e lo hi) r = []:=by cases r<;>rfl
@[simp] theorem fzC_nil (e:TypeId) (rows:List (List PV)):fzC P objs (.pv .nil) (.fr e rows) = (rows = []∧(P.info? e).isSome = true):=by
 apply propext;constructor
 ·rintro (⟨s,h,h2⟩ | ⟨_,h⟩ | ⟨_,_,_,h,_⟩)
  ·cases h
  ·exact h
  ·cases h
 ·exact fun h=>.inr (.inl ⟨rfl,h⟩)
@[simp] theorem fzC_pv (p q:PV):fzC P objs (.pv p) (.pv q) = (p = q):=by
 apply propext;constructor
 ·rintro ⟨h,_⟩;cases h;rfl
 ·rintro rfl;exact ⟨rfl,rfl⟩
@[simp] theorem fzCs_nil:fzCs P objs [] [] = True:=nr rfl
@[simp] theorem fzCs_cons (c d:AV) (cs ds:List AV):fzCs P objs (c :: cs) (d :: ds) = (fzC P objs c d∧fzCs P objs cs ds):=nr rfl
@[simp] theorem fz1_agg (cs ds:List AV):fz1 P objs (.agg cs) (.agg ds) = fzCs P objs cs ds:=nr rfl
@[simp] theorem fz1_pv (p:PV) (r:AV):fz1 P objs (.pv p) r = fzC P objs (.pv p) r:=nr rfl
@[simp] theorem fz1_own (t:Nat) (r:AV):fz1 P objs (.own t) r = fzC P objs (.own t) r:=nr rfl
@[simp] theorem fzVs_nil:fzVs P objs [] [] = True:=nr rfl
@[simp] theorem fzVs_cons (c d:AV) (cs ds:List AV):fzVs P objs (c :: cs) (d :: ds) = (fz1 P objs c d∧fzVs P objs cs ds):=nr rfl
@[simp] theorem fz_tup (cs ds:List AV):fz P objs (.tup cs) (.tup ds) = (cs.length≤1000∧fzVs P objs cs ds):=nr rfl
@[simp] theorem fz_agg (cs:List AV) (r:AV):fz P objs (.agg cs) r = fz1 P objs (.agg cs) r:=nr rfl
@[simp] theorem fz_pv (p:PV) (r:AV):fz P objs (.pv p) r = fzC P objs (.pv p) r:=nr rfl
@[simp] theorem fz_own (t:Nat) (r:AV):fz P objs (.own t) r = fzC P objs (.own t) r:=nr rfl
@[simp] theorem plCs_nil (j:Nat):plCs j [] = []:=nr rfl
@[simp] theorem plCs_own (j t:Nat) (cs:List AV):plCs j (.own t :: cs) = (1000 * j,t) :: plCs (j + 1) cs:=nr rfl
@[simp] theorem pl_sub (t:Nat) (e:TypeId) (lo hi:Nat):pl (.sub t e lo hi) = [(0,t)]:=nr rfl
@[simp] theorem plCs_pv (j:Nat) (p:PV) (cs:List AV):plCs j (.pv p :: cs) = plCs (j + 1) cs:=nr rfl
@[simp] theorem pl1_agg (cs:List AV):pl1 (.agg cs) = plCs 0 cs:=nr rfl
@[simp] theorem pl1_own (t:Nat):pl1 (.own t) = [(0,t)]:=nr rfl
@[simp] theorem pl1_pv (p:PV):pl1 (.pv p) = []:=nr rfl
@[simp] theorem plVs_nil (i:Nat):plVs i [] = []:=nr rfl
@[simp] theorem plVs_cons (i:Nat) (v:AV) (vs:List AV):plVs i (v :: vs) = (pl1 v).map (fun x=>(x.1 + i,x.2)) ++ plVs (i + 1) vs:=nr rfl
@[simp] theorem pl_tup (vs:List AV):pl (.tup vs) = plVs 0 vs:=nr rfl
@[simp] theorem pl_agg (cs:List AV):pl (.agg cs) = plCs 0 cs:=nr rfl
@[simp] theorem pl_own (t:Nat):pl (.own t) = [(0,t)]:=nr rfl
@[simp] theorem pl_pv (p:PV):pl (.pv p) = []:=nr rfl
@[simp] theorem apartL_nil:apartL [] = True:=nr rfl
@[simp] theorem apartL_cons (x:Nat × Nat) (l:List (Nat × Nat)):apartL (x :: l) = ((∀ y∈l,y.2≠x.2)∧apartL l):=nr rfl
end
section
variable {P:Program} {Γ:Tab} {vs:List (Nat × AV)} {os:List (Nat × AO)} {st:St} {ad:List Nat}
theorem vwp_loopS {K:St→Prop} {J:Exit→St→Prop} {a:AC} {α:Type} (I : α→Prop) (F : α→Fr) (μ : α→Nat) (ad shs:List Nat) (x0 : α) (hI:I x0) (h0:wk P ad (shareT shs st) (F x0))
  (hr:∀ x,I x→vwp P Γ a (fun st'=>∃ x',I x'∧wk P [] (shareT shs st') (F x')∧μ x' < μ x) J (F x).st):vwp P Γ (.loop a) K J st:=by
 refine ⟨{ x : α // I x },fun x=>F x.1,fun x=>μ x.1,ad,shs,⟨x0,hI⟩,h0,fun x=>?_⟩
 have hK:(fun st'=>∃ i':{ x : α // I x },wk P [] (shareT shs st') (F i'.1)∧μ i'.1 < μ x.1) = fun st'=>∃ x',I x'∧wk P [] (shareT shs st') (F x')∧μ x' < μ x.1:=by
  funext st'
  apply propext
  constructor
  ·rintro ⟨⟨y,hy⟩,h⟩;exact ⟨y,hy,h⟩
  ·rintro ⟨y,hy,h⟩;exact ⟨⟨y,hy⟩,h⟩
 show vwp P Γ a (fun st'=>∃ i':{ x : α // I x },wk P [] (shareT shs st') (F i'.1)∧μ i'.1 < μ x.1) J (F x.1).st
 rw [hK]
 exact hr x.1 x.2
theorem vwp_loop {K:St→Prop} {J:Exit→St→Prop} {a:AC} {α:Type} (I : α→Prop) (F : α→Fr) (μ : α→Nat) (ad:List Nat) (x0 : α) (hI:I x0) (h0:wk P ad st (F x0))
  (hr:∀ x,I x→vwp P Γ a (fun st'=>∃ x',I x'∧wk P [] st' (F x')∧μ x' < μ x) J (F x).st):vwp P Γ (.loop a) K J st:=
 vwp_loopS I F μ ad [] x0 hI h0 hr
@[simp] theorem shareT_nil (st:St):shareT [] st = st:=nr rfl
@[simp] theorem wk_eq (vs':List (Nat × AV)) (os':List (Nat × AO)):wk P ad ⟨look vs,lookO os⟩ ⟨vs',os'⟩ = (wkV ad ⟨look vs,lookO os⟩ os' vs'∧wkO P ad ⟨look vs,lookO os⟩ os' os'):=nr rfl
@[simp] theorem wkV_nil (os':List (Nat × AO)):wkV ad ⟨look vs,lookO os⟩ os' [] = True:=nr rfl
@[simp] theorem wkV_cons (os':List (Nat × AO)) (s:Nat) (v:AV) (l:List (Nat × AV)):wkV ad ⟨look vs,lookO os⟩ os' ((s,v) :: l) =
  ((v = .junk∨(look vs s = v∧liveV os' v)∨(∃ t,v = .own t∧ad.contains t = true∧dom (lookO os') t∧look vs s = .pv .nil))∧wkV ad ⟨look vs,lookO os⟩ os' l):=nr rfl
@[simp] theorem wkO_nil (os':List (Nat × AO)):wkO P ad ⟨look vs,lookO os⟩ os' [] = True:=nr rfl
@[simp] theorem wkO_cons (os':List (Nat × AO)) (t:Nat) (o:AO) (l:List (Nat × AO)):wkO P ad ⟨look vs,lookO os⟩ os' ((t,o) :: l) =
  (((lookO os t = some o∧ad.contains t = false∧liveO os' o)∨(∃ e,o = .arr e []∧ad.contains t = true∧lookO os t = none∧(P.info? e).isSome = true∧t % 1000≠999))∧wkO P ad ⟨look vs,lookO os⟩ os' l):=nr rfl
@[simp] theorem liveV_clo (f:FuncId) (cs:List AV):liveV os (.clo f cs) = liveCs os cs:=nr rfl
@[simp] theorem liveV_pv (p:PV):liveV os (.pv p) = True:=nr rfl
@[simp] theorem liveV_own (t:Nat):liveV os (.own t) = dom (lookO os) t:=nr rfl
@[simp] theorem liveV_ptr (t o:Nat):liveV os (.ptr t o) = dom (lookO os) t:=nr rfl
@[simp] theorem liveV_sub (t:Nat) (e:TypeId) (lo hi:Nat):liveV os (.sub t e lo hi) = dom (lookO os) t:=nr rfl
@[simp] theorem liveC_pv (p:PV):liveC os (.pv p) = True:=nr rfl
@[simp] theorem liveC_rp (p:List PV):liveC os (.rp p) = True:=nr rfl
@[simp] theorem liveC_own (t:Nat):liveC os (.own t) = dom (lookO os) t:=nr rfl
@[simp] theorem liveCs_nil:liveCs os [] = True:=nr rfl
@[simp] theorem liveCs_cons (c:AV) (cs:List AV):liveCs os (c :: cs) = (liveC os c∧liveCs os cs):=nr rfl
@[simp] theorem liveO_box (cs:List AV):liveO os (.box cs) = liveCs os cs:=nr rfl
@[simp] theorem liveO_arr (e:TypeId) (rows:List (List PV)):liveO os (.arr e rows) = True:=nr rfl
@[simp] theorem dom_nil (t:Nat):dom (lookO []) t = False:=by
 apply propext;constructor
 ·rintro ⟨o,h⟩;cases h
 ·exact False.elim
@[simp] theorem dom_cons (s t:Nat) (o:AO) (l:List (Nat × AO)):dom (lookO ((s,o) :: l)) t = (t = s∨dom (lookO l) t):=by
 apply propext
 unfold dom
 simp only [lookO_cons]
 by_cases h:t = s<;>simp [h]
end
@[simp ↓] theorem semCall_eq {P:Program} {Γ:Tab} {d:Nat} {f:FuncId} {xs:List AV} {objs:Nat→Option AO} {C:Eff→Prop}:semCall P Γ (some d) f xs objs C =
  (asksL xs∧withO (reis objs (xs.map strip)) fun ys=>withO (gt Γ f ys) fun x=>x.1∧(pures (xs.map strip) = true∨flatR x.2)∧(∀ y∈newO d x.2,objs y.1 = none)∧resR d x.2 = true∧C (.new (newV d x.2) (newO d x.2))):=rfl
def ConT (P:Program) (f:FuncId) (G:List AV→Option (Prop × AV)):Prop:=∀ ys φ r,G ys = some (φ,r)→φ→Con P f [] ys [] r
def tab:List (FuncId × (List AV→Option (Prop × AV)))→Tab
 | []=>fun _ _=>none
 | x :: l=>fun g ys=>if g = x.1 then x.2 ys else tab l g ys
theorem tab_nil {P:Program}:TabOK P (tab []):=fun _ _ _ _ h=>by cases h
def tabU (p k:Nat) (G:List AV→Option (Prop × AV)) (ys:List AV):Option (Prop × AV):=match ys with
 | [.junk]=>some (True,.ptr p k)
 | ys=>G ys
def ConTU (P:Program) (f:FuncId) (G:List AV→Option (Prop × AV)):Prop:=∀ ys φ r,G ys = some (φ,r)→φ→ConU P f ys r
theorem tab_consU {P:Program} {f p k:Nat} {G:List AV→Option (Prop × AV)} {l:List (FuncId × (List AV→Option (Prop × AV)))} (h:ConTU P f G) (hP:Nat.ble P.funcs.size 1000000 = true) (hl:TabOK P (tab l)) (hf:Nat.blt f 1000000 = true:=by rfl):TabOK P (tab ((f + 1000000,tabU p k G) :: l)):=by
 intro g ys φ r hg hφ
 simp only [tab] at hg
 split at hg
 ·rename_i e
  refine .inr (.inl ⟨Nat.le_of_ble_eq_true hP,by rw [e];exact Nat.le_add_left _ _,by rw [e];exact Nat.add_lt_add_right (Nat.le_of_ble_eq_true hf) 1000000,?_⟩)
  unfold tabU at hg
  split at hg
  ·exact .inl rfl
  ·right
   rw [show g - 1000000 = f from by rw [e];exact Nat.add_sub_cancel _ _]
   exact h ys φ r hg hφ
 ·exact hl g ys φ r hg hφ
theorem tab_cons {P:Program} {f:FuncId} {G:List AV→Option (Prop × AV)} {l:List (FuncId × (List AV→Option (Prop × AV)))} (h:ConT P f G) (hl:TabOK P (tab l)) (hf:Nat.blt f 1000000 = true:=by rfl):TabOK P (tab ((f,G) :: l)):=by
 intro g ys φ r hg hφ
 simp only [tab] at hg
 split at hg
 ·rename_i e;subst e;exact .inl ⟨Nat.le_of_ble_eq_true hf,h ys φ r hg hφ⟩
 ·exact hl g ys φ r hg hφ
theorem tab_consG {P:Program} {f:FuncId} {ks:List Nat} {G:List AV→Option (Prop × AV)} {l:List (FuncId × (List AV→Option (Prop × AV)))} (h:ConTG P f G) (hP:Nat.ble P.funcs.size 1000000 = true) (hl:TabOK P (tab l)) (hf:Nat.blt f 1000000 = true:=by rfl):TabOK P (tab ((f + 1000000,tabU 0 996 fun _=>none) :: (f + 2000000,tabG ks G) :: l)):=by
 intro g ys φ r hg hφ
 simp only [tab] at hg
 split at hg
 ·rename_i e
  refine .inr (.inl ⟨Nat.le_of_ble_eq_true hP,by rw [e];exact Nat.le_add_left _ _,by rw [e];exact Nat.add_lt_add_right (Nat.le_of_ble_eq_true hf) 1000000,?_⟩)
  unfold tabU at hg
  split at hg
  ·exact .inl rfl
  ·cases hg
 ·split at hg
  ·rename_i e
   refine .inr (.inr (.inl ⟨Nat.le_of_ble_eq_true hP,by rw [e];exact Nat.le_add_left _ _,by rw [e];exact Nat.add_lt_add_right (Nat.le_of_ble_eq_true hf) 2000000,?_⟩))
   unfold tabG at hg
   split at hg
   ·exact .inl rfl
   ·right
    rw [show g - 2000000 = f from by rw [e];exact Nat.add_sub_cancel _ _]
    exact h ys φ r hg hφ
  ·exact hl g ys φ r hg hφ
@[simp] theorem tab_none (f:FuncId) (ys:List AV):tab [] f ys = none:=nr rfl
@[simp] theorem tabU_junk (p k:Nat) (G:List AV→Option (Prop × AV)):tabU p k G [.junk] = some (True,.ptr p k):=nr rfl
@[simp] theorem tabU_fr (p k:Nat) (G:List AV→Option (Prop × AV)) (e:TypeId) (rows:List (List PV)) (l:List AV):tabU p k G (.fr e rows :: l) = G (.fr e rows :: l):=nr rfl
@[simp] theorem tabU_pv (p k:Nat) (G:List AV→Option (Prop × AV)) (q:PV) (l:List AV):tabU p k G (.pv q :: l) = G (.pv q :: l):=nr rfl
@[simp] theorem tab_look (f g:FuncId) (G:List AV→Option (Prop × AV)) (l:List (FuncId × (List AV→Option (Prop × AV)))) (ys:List AV):tab ((f,G) :: l) g ys = if g = f then G ys else tab l g ys:=nr rfl
end Go.Proofs.Ythblkhafehanfaa.Ab.R
namespace Go.Proofs.Ythblkhafehanfaa.Ab
open Go Go.RowKit
abbrev AI.a (d:Nat) (k:AK) (xs:List Operand):AI:=⟨some d,k,xs,none,[],none⟩
abbrev AI.s (k:AK) (xs:List Operand):AI:=⟨none,k,xs,none,[],none⟩
abbrev AI.m (d t:Nat):AI:=⟨some d,.mov,[.tmp t],none,[],none⟩
abbrev AI.mg (d t g:Nat) (b:Bool):AI:=⟨some d,.mov,[.tmp t],some (g,b),[],none⟩
abbrev AI.b (d:Nat) (k:AK) (xs:List Operand) (g:Nat) (b:Bool):AI:=⟨some d,k,xs,some (g,b),[],none⟩
abbrev AI.pa (d x y:Nat):AI:=⟨some d,.pick,[.tmp x,.tmp y,.const (.bool false)],none,[],none⟩
abbrev AI.po (d x y:Nat):AI:=⟨some d,.pick,[.tmp x,.const (.bool true),.tmp y],none,[],none⟩
abbrev AI.u (d:Nat) (k:AK) (t:Nat):AI:=⟨some d,k,[.tmp t],none,[],none⟩
abbrev AI.w (d:Nat) (k:AK) (t u:Nat):AI:=⟨some d,k,[.tmp t,.tmp u],none,[],none⟩
abbrev AI.bu (d:Nat) (k:AK) (t g:Nat) (b:Bool):AI:=⟨some d,k,[.tmp t],some (g,b),[],none⟩
abbrev AI.bw (d:Nat) (k:AK) (t u g:Nat) (b:Bool):AI:=⟨some d,k,[.tmp t,.tmp u],some (g,b),[],none⟩
abbrev AI.c (d:Nat) (k:AK) (t:Nat) (n:Int):AI:=⟨some d,k,[.tmp t,.const (.int .i64 n)],none,[],none⟩
abbrev AI.bc (d:Nat) (k:AK) (t:Nat) (n:Int) (g:Nat) (b:Bool):AI:=⟨some d,k,[.tmp t,.const (.int .i64 n)],some (g,b),[],none⟩
abbrev ci (n:Int):Operand:=.const (.int .i64 n)
end Go.Proofs.Ythblkhafehanfaa.Ab
namespace Go.Proofs.Ythblkhafehanfaa.Ab.R
open Go Go.RowKit
theorem wrap_i64 {x:Int} (h : -9223372036854775808≤x∧x≤9223372036854775807):IntKind.i64.wrap x = x:=by
 simp only [IntKind.wrap,IntKind.bits,IntKind.signed]
 simp
 omega
theorem wrap_u64 {x:Int} (h : 0≤x∧x≤18446744073709551615):IntKind.u64.wrap x = x:=by
 simp only [IntKind.wrap,IntKind.bits,IntKind.signed]
 simp
 omega
theorem wrap_u8 (x:Int):IntKind.u8.wrap x = x % 256:=by
 simp only [IntKind.wrap,IntKind.bits,IntKind.signed]
 simp
@[simp] theorem arrO_none:arrO none = none:=rfl
@[simp] theorem arrO_box (cs:List AV):arrO (some (.box cs)) = none:=rfl
@[simp] theorem vone_int (k:IntKind) (n:Int):(Value.int k n).oneCell' = true:=rfl
@[simp] theorem vone_bool (b:Bool):(Value.bool b).oneCell' = true:=rfl
@[simp] theorem vone_str (s:ByteArray):(Value.string s).oneCell' = true:=rfl
@[simp] theorem vone_ptr (a:Option Addr):(Value.pointer a).oneCell' = true:=rfl
@[simp] theorem vone_slice (a:Option Addr) (n c:Nat):(Value.slice a n c).oneCell' = true:=rfl
@[simp] theorem bytesRow_nil:bytesRow [] = []:=rfl
@[simp] theorem bytesRow_length (l:List UInt8):(bytesRow l).length = l.length:=by simp [bytesRow]
theorem bytesRow_append (l m:List UInt8):bytesRow (l ++ m) = bytesRow l ++ bytesRow m:=by simp [bytesRow]
@[simp] theorem bytesRow_one (l:List UInt8):∀ r∈bytesRow l,r.length = 1:=by
 intro r hr
 simp only [bytesRow,List.mem_map] at hr
 obtain ⟨c,_,rfl⟩:=hr
 rfl
theorem bytesRow_at {l:List UInt8} {i:Nat} (h:i < l.length):rowAt (bytesRow l) (i:Int) = [.int .u8 (l[i].toNat:Int)]:=by
 simp [rowAt,bytesRow,h]
theorem maxLen_eq:maxLen = 9223372036854775807:=rfl
end Go.Proofs.Ythblkhafehanfaa.Ab.R
namespace Go.Proofs.Ythblkhafehanfaa.Ab
open Go Go.RowKit
abbrev keep41:List Nat:=[0,1,4,5,10,14,25]
def body41:AC:=
 .seq (.reg [.a 4 .mov [.const (.bool false)]] false keep41)
 (.seq (.seq (.reg [.m 6 0,.u 7 .len 6,.m 8 1,.u 9 .len 8,.w 10 (.bin .neq) 7 9] false keep41)
 (.cond (.tmp 10) (.seq (.reg [.a 4 .mov [.const (.bool false)]] false keep41)
 (.ret)) (.skip)))
 (.seq (.seq (.reg [.a 5 .mov [ci 0]] false keep41)
 (.block 0 (.loop (.seq (.seq (.reg [.m 11 5,.m 12 0,.u 13 .len 12,.w 14 (.bin .lss) 11 13] false keep41)
 (.cond (.tmp 14) (.skip) (.exit 0)))
 (.seq (.block 1 (.seq (.reg [.m 17 0,.m 18 5,.w 19 (.ixa 5 1) 17 18,.u 20 (.load none) 19,.m 21 1,.m 22 5,.w 23 (.ixa 5 1) 21 22,.u 24 (.load none) 23,.w 25 (.bin .neq) 20 24] true keep41)
 (.cond (.tmp 25) (.seq (.reg [.a 4 .mov [.const (.bool false)]] false keep41)
 (.ret)) (.skip))))
 (.reg [.m 15 5,.c 16 (.bin .add) 15 1,.m 5 16] false keep41))))))
 (.seq (.reg [.a 4 .mov [.const (.bool true)]] false keep41)
 (.ret))))
theorem fn41:compFn Try.prog 41 keep41 = some ⟨26,2,[(4,none)],body41⟩:=by kernel_rfl
abbrev keep43:List Nat:=[0,1,2,4,5,6]
def body43:AC:=
 .seq (.reg [.a 0 .mov [.const (.bool false)]] false keep43)
 (.seq (.reg [.a 8 (.bld [(.slice none 0 0)] []) [],.a 9 (.bld [(.int .u64 0),(.int .u64 0),(.int .u64 0)] [(0,1),(1,1),(2,1)]) [.const (.int .u64 3),.const (.int .u64 1),.const (.int .u64 10)],.w 10 (.call 47) 8 9,.m 7 10,.u 11 (.ext 0) 7,.u 12 (.ext 1) 7,.a 1 (.alloc [(.slice none 0 0)]) [],.s (.store (some 1)) [.tmp 1,.tmp 11],.m 2 12] false keep43)
 (.seq (.reg [.u 14 (.load (some 1)) 1,.a 15 (.bld [(.int .u64 0),(.int .u64 0),(.int .u64 0)] [(0,1),(1,1),(2,1)]) [.const (.int .u64 3),.const (.int .u64 2),.const (.int .u64 5)],.w 16 (.call 47) 14 15,.m 13 16,.u 17 (.ext 0) 13,.u 18 (.ext 1) 13,.a 3 (.alloc [(.slice none 0 0)]) [],.s (.store (some 1)) [.tmp 3,.tmp 17],.m 4 18] false keep43)
 (.seq (.reg [.u 20 (.load (some 1)) 1,.a 21 (.bld [(.int .u64 0),(.int .u64 0),(.int .u64 0)] [(0,1),(1,1),(2,1)]) [.const (.int .u64 4),.const (.int .u64 1),.const (.int .u64 7)],.w 22 (.call 47) 20 21,.m 19 22,.u 23 (.ext 0) 19,.u 24 (.ext 1) 19,.a 5 (.alloc [(.slice none 0 0)]) [],.s (.store (some 1)) [.tmp 5,.tmp 23],.m 6 24] false keep43)
 (.seq (.reg (
 .m 25 2 :: .c 26 (.bin .eql) 25 0 :: .m 27 26 :: .mg 28 4 27 true :: .bc 29 (.bin .eql) 28 2 27 true :: .pa 30 27 29 :: .m 31 30 :: .mg 32 6 31 true :: .bc 33 (.bin .eql) 32 0 31 true :: .pa 34 31 33 :: .m 35 34 :: .bu 36 (.load (some 1)) 5 35 true :: .b 37 (.call 49) [.tmp 36,.const (.int .u64 8),.const (.int .u64 0)] 35 true :: ⟨some 38,(.load (some 1)),[.tmp 1],some (35,true),[37],none⟩ :: .bw 39 (.call 60) 37 38 35 true :: .pa 40 35 39 :: .m 41 40 :: .bu 42 (.load (some 1)) 5 41 true :: .b 43 (.call 49) [.tmp 42,.const (.int .u64 8),.const (.int .u64 1)] 41 true :: ⟨some 44,(.load (some 1)),[.tmp 5],some (41,true),[43],none⟩ :: .bw 45 (.call 60) 43 44 41 true :: .pa 46 41 45 :: .m 47 46 :: .bu 48 (.fad 0) 1 47 true :: .bu 49 (.load none) 48 47 true :: .bu 50 .len 49 47 true :: .bc 51 (.bin .eql) 50 1 47 true :: .pa 52 47 51 :: .m 53 52 :: .bu 54 (.fad 0) 5 53 true :: .bu 55 (.load none) 54 53 true :: .bu 56 .len 55 53 true :: .bc 57 (.bin .eql) 56 2 53 true :: .pa 58 53 57 :: .m 59 58 :: ⟨some 60,(.load (some 1)),[.tmp 5],some (59,true),[62],none⟩ :: ⟨some 61,(.call 50),[.tmp 60],some (59,true),[62],none⟩ :: ⟨some 62,(.bsl 81 1),[.const (.int .u64 1)],some (59,true),[61],none⟩ :: .bw 63 (.call 53) 61 62 59 true :: .pa 64 59 63 :: .m 65 64 :: ⟨some 66,(.load (some 1)),[.tmp 1],some (65,true),[68],none⟩ :: ⟨some 67,(.call 94),[.tmp 66],some (65,true),[68],none⟩ :: ⟨some 68,(.bsl 5 1),[.const (.int .u8 1),.const (.int .u8 3),.const (.int .u8 1),.const (.int .u8 10)],some (65,true),[67],none⟩ :: .bw 69 (.call 41) 67 68 65 true :: .pa 70 65 69 :: .m 0 70 :: []) true keep43)
 (.ret)))))
theorem fn43:compFn Try.prog 43 keep43 = some ⟨71,0,[(0,none)],body43⟩:=by kernel_rfl
abbrev keep44:List Nat:=[0,1,2,3,4,5,10]
def body44:AC:=
 .seq (.reg [.u 1 .box 0,.a 2 (.nilS 86) []] false keep44)
 (.seq (.reg [.a 3 (.nilS 86) []] false keep44)
 (.seq (.seq (.reg [.a 4 .mov [ci 0]] false keep44)
 (.block 0 (.loop (.seq (.seq (.reg [.m 6 4,.u 7 (.fad 0) 1,.u 8 (.load none) 7,.u 9 .len 8,.w 10 (.bin .lss) 6 9] false keep44)
 (.cond (.tmp 10) (.skip) (.exit 0)))
 (.seq (.block 1 (.seq (.reg [.u 13 (.fad 0) 1,.u 14 (.load none) 13,.m 15 4,.w 16 (.ixa 83 3) 14 15,.u 17 (.load (some 3)) 16,.a 5 (.alloc [(.int .u64 0),(.int .u64 0),(.int .u64 0)]) [],.s (.store (some 3)) [.tmp 5,.tmp 17]] false keep44)
 (.reg [.m 18 3,.u 19 (.fad 0) 5,.u 20 (.load none) 19,.u 21 (.fad 1) 5,.u 22 (.load none) 21,.u 23 (.fad 2) 5,.u 24 (.load none) 23,.a 25 (.bld [(.int .u64 0),(.int .u64 0),(.int .u64 0)] [(0,1),(1,1),(2,1)]) [.tmp 20,.tmp 22,.tmp 24],.u 26 (.bsl 86 3) 25,.w 27 (.app 86 3 24) 18 26,.m 3 27] false keep44)))
 (.reg [.m 11 4,.c 12 (.bin .add) 11 1,.m 4 12] false keep44))))))
 (.seq (.reg [.m 28 3,.m 2 28] false keep44)
 (.ret))))
theorem fn44:compFn Try.prog 44 keep44 = some ⟨29,1,[(2,none)],body44⟩:=by kernel_rfl
abbrev keep45:List Nat:=[0,1,3,4,5,6,16]
def body45:AC:=
 .seq (.reg [.u 3 .box 1,.a 4 (.nilS 86) [],.a 5 .mov [ci 0]] false keep45)
 (.seq (.reg [.a 6 (.nilS 86) []] false keep45)
 (.seq (.reg [.m 7 6,.m 8 0,.w 9 (.app 86 3 24) 7 8,.m 6 9] false keep45)
 (.seq (.reg [.m 10 6,.u 11 (.load (some 3)) 3,.u 12 (.bsl 86 3) 11,.w 13 (.app 86 3 24) 10 12,.m 6 13] false keep45)
 (.seq (.seq (.reg [.m 14 6,.u 15 (.call 57) 14,.u 16 .not 15] false keep45)
 (.cond (.tmp 16) (.seq (.reg [.a 4 (.nilS 86) [],.a 5 .mov [ci 2]] false keep45)
 (.ret)) (.skip)))
 (.seq (.reg [.m 17 6,.m 4 17,.a 5 .mov [ci 0]] false keep45)
 (.ret))))))
theorem fn45:compFn Try.prog 45 keep45 = some ⟨18,2,[(4,none),(5,none)],body45⟩:=by kernel_rfl
abbrev keep46:List Nat:=[0,1,4,5,6,7,8,12,25,34]
def body46:AC:=
 .seq (.reg [.a 4 (.nilS 86) [],.a 5 .mov [ci 0]] false keep46)
 (.seq (.reg [.a 6 (.nilS 86) []] false keep46)
 (.seq (.reg [.a 7 .mov [.const (.bool false)]] false keep46)
 (.seq (.seq (.reg [.a 8 .mov [ci 0]] false keep46)
 (.block 0 (.loop (.seq (.seq (.reg [.m 9 8,.m 10 0,.u 11 .len 10,.w 12 (.bin .lss) 9 11] false keep46)
 (.cond (.tmp 12) (.skip) (.exit 0)))
 (.seq (.block 1 (.seq (.reg [.m 15 0,.m 16 8,.w 17 (.ixa 86 3) 15 16,.u 18 (.fad 0) 17,.u 19 (.load none) 18,.m 20 1,.w 21 (.bin .eql) 19 20,.m 22 21,.mg 23 7 22 true,.bu 24 .not 23 22 true,.pa 25 22 24] false keep46)
 (.cond (.tmp 25) (.reg [.a 7 .mov [.const (.bool true)]] false keep46) (.reg [.m 26 6,.m 27 0,.m 28 8,.w 29 (.ixa 86 3) 27 28,.u 30 (.load (some 3)) 29,.u 31 (.bsl 86 3) 30,.w 32 (.app 86 3 24) 26 31,.m 6 32] false keep46))))
 (.reg [.m 13 8,.c 14 (.bin .add) 13 1,.m 8 14] false keep46))))))
 (.seq (.seq (.reg [.m 33 7,.u 34 .not 33] false keep46)
 (.cond (.tmp 34) (.seq (.reg [.a 4 (.nilS 86) [],.a 5 .mov [ci 80]] false keep46)
 (.ret)) (.skip)))
 (.seq (.reg [.m 35 6,.m 4 35,.a 5 .mov [ci 0]] false keep46)
 (.ret))))))
theorem fn46:compFn Try.prog 46 keep46 = some ⟨36,2,[(4,none),(5,none)],body46⟩:=by kernel_rfl
abbrev keep47:List Nat:=[0,1,2,3,4,5,6,16]
def body47:AC:=
 .seq (.reg [.u 2 .box 0,.u 3 .box 1,.a 4 (.alloc [(.slice none 0 0)]) [],.a 5 .mov [ci 0]] false keep47)
 (.seq (.reg [⟨some 7,(.fad 0),[.tmp 2],none,[11,6],none⟩,⟨some 8,(.load none),[.tmp 7],none,[11,6],none⟩,⟨some 9,(.call 95),[.tmp 8],none,[11,6],none⟩,⟨some 10,(.load (some 3)),[.tmp 3],none,[9,6],none⟩,⟨some 11,(.bsl 83 3),[.tmp 10],none,[9,6],none⟩,⟨some 12,(.app 83 3 24),[.tmp 9,.tmp 11],none,[6],none⟩,⟨some 13,(.bld [(.slice none 0 0)] [(0,1)]),[.tmp 12],none,[6],none⟩,⟨some 6,(.alloc [(.slice none 0 0)]),[],none,[9,11,12],none⟩,⟨none,(.store (some 1)),[.tmp 6,.tmp 13],none,[],(some 6)⟩] true keep47)
 (.seq (.seq (.reg [.u 14 (.load (some 1)) 6,.u 15 (.call 56) 14,.u 16 .not 15] false keep47)
 (.cond (.tmp 16) (.seq (.reg [.a 17 (.bld [(.slice none 0 0)] []) [],.s (.store (some 1)) [.tmp 4,.tmp 17],.a 5 .mov [ci 2]] false keep47)
 (.ret)) (.skip)))
 (.seq (.reg [.u 18 (.load (some 1)) 6,.s (.store (some 1)) [.tmp 4,.tmp 18],.a 5 .mov [ci 0]] false keep47)
 (.ret))))
theorem fn47:compFn Try.prog 47 keep47 = some ⟨19,2,[(4,some (some 1)),(5,none)],body47⟩:=by kernel_rfl
abbrev keep48:List Nat:=[0,1,2,3,4,5,6,12]
def body48:AC:=
 .seq (.reg [.u 2 .box 0,.u 3 .box 1,.a 4 (.alloc [(.slice none 0 0)]) [],.a 5 .mov [ci 0]] false keep48)
 (.seq (.reg [.u 7 (.fad 0) 2,.u 8 (.load none) 7,.u 9 (.mkf 97) 3,.w 10 (.call 96) 8 9,.m 6 10] false keep48)
 (.seq (.seq (.reg [.m 11 6,.c 12 (.bin .lss) 11 0] false keep48)
 (.cond (.tmp 12) (.seq (.reg [.a 13 (.bld [(.slice none 0 0)] []) [],.s (.store (some 1)) [.tmp 4,.tmp 13],.a 5 .mov [ci 80]] false keep48)
 (.ret)) (.skip)))
 (.seq (.reg [.u 14 (.fad 0) 2,.u 15 (.load none) 14,.m 16 6,.w 17 (.slc 3 false true) 15 16,.u 18 (.fad 0) 2,.u 19 (.load none) 18,.m 20 6,.c 21 (.bin .add) 20 1,.w 22 (.slc 3 true false) 19 21,.w 23 (.bsl 78 1) 17 22,⟨some 24,(.call 98),[.tmp 23],none,[],(some 999999)⟩,.a 25 (.bld [(.slice none 0 0)] [(0,1)]) [.tmp 24],.s (.store (some 1)) [.tmp 4,.tmp 25],.a 5 .mov [ci 0]] true keep48)
 (.ret))))
theorem fn48:compFn Try.prog 48 keep48 = some ⟨26,2,[(4,some (some 1)),(5,none)],body48⟩:=by kernel_rfl
abbrev keep49:List Nat:=[0,1,2,3,4,5,6,7]
def body49:AC:=
 .seq (.reg [.u 3 .box 0,.u 4 .box 1,.u 5 .box 2,.a 6 (.alloc [(.slice none 0 0)]) []] false keep49)
 (.seq (.reg [.w 8 (.mkf 99) 4 5,.m 7 8] false keep49)
 (.seq (.reg [.u 9 (.fad 0) 3,.u 10 (.load none) 9,.u 11 (.call 95) 10,.m 12 7,.w 13 (.call 101) 11 12,.a 14 (.bld [(.slice none 0 0)] [(0,1)]) [.tmp 13],.s (.store (some 1)) [.tmp 6,.tmp 14]] false keep49)
 (.ret)))
theorem fn49:compFn Try.prog 49 keep49 = some ⟨15,3,[(6,some (some 1))],body49⟩:=by kernel_rfl
abbrev keep50:List Nat:=[0,1,2,3,5,7,8,9,10]
def body50:AC:=
 .seq (.reg [.u 1 .box 0,.a 2 (.nilS 81) []] false keep50)
 (.seq (.reg [.a 3 (.nilS 81) []] false keep50)
 (.seq (.seq (.reg [.u 6 (.fad 0) 1,.u 7 (.load none) 6,.u 8 .len 7,.a 9 .mov [ci 0]] false keep50)
 (.block 0 (.loop (.seq (.reg [.w 10 (.bin .lss) 9 8] false keep50)
 (.seq (.cond (.tmp 10) (.skip) (.exit 0))
 (.seq (.block 1 (.seq (.reg [.w 11 (.ixa 83 3) 7 9,.u 12 (.load (some 3)) 11,.a 5 (.alloc [(.int .u64 0),(.int .u64 0),(.int .u64 0)]) [],.s (.store (some 3)) [.tmp 5,.tmp 12]] false keep50)
 (.reg [.m 13 3,.u 14 (.fad 1) 5,.u 15 (.load none) 14,.u 16 (.bsl 81 1) 15,.w 17 (.app 81 1 8) 13 16,.m 3 17] false keep50)))
 (.reg [.c 18 (.bin .add) 9 1,.m 9 18] false keep50)))))))
 (.seq (.reg [.m 19 3,.u 20 (.call 102) 19] false keep50)
 (.seq (.reg [.m 21 3,.u 22 (.call 103) 21,.m 2 22] false keep50)
 (.ret)))))
theorem fn50:compFn Try.prog 50 keep50 = some ⟨23,1,[(2,none)],body50⟩:=by kernel_rfl
abbrev keep51:List Nat:=[0,1,4,5,10,14,25]
def body51:AC:=
 .seq (.reg [.a 4 .mov [.const (.bool false)]] false keep51)
 (.seq (.seq (.reg [.m 6 0,.u 7 .len 6,.m 8 1,.u 9 .len 8,.w 10 (.bin .neq) 7 9] false keep51)
 (.cond (.tmp 10) (.seq (.reg [.a 4 .mov [.const (.bool false)]] false keep51)
 (.ret)) (.skip)))
 (.seq (.seq (.reg [.a 5 .mov [ci 0]] false keep51)
 (.block 0 (.loop (.seq (.seq (.reg [.m 11 5,.m 12 0,.u 13 .len 12,.w 14 (.bin .lss) 11 13] false keep51)
 (.cond (.tmp 14) (.skip) (.exit 0)))
 (.seq (.block 1 (.seq (.reg [.m 17 0,.m 18 5,.w 19 (.ixa 86 3) 17 18,.u 20 (.load (some 3)) 19,.m 21 1,.m 22 5,.w 23 (.ixa 86 3) 21 22,.u 24 (.load (some 3)) 23,.a 25 (.eqs true [9,9,9]) [.tmp 20,.tmp 24]] true keep51)
 (.cond (.tmp 25) (.seq (.reg [.a 4 .mov [.const (.bool false)]] false keep51)
 (.ret)) (.skip))))
 (.reg [.m 15 5,.c 16 (.bin .add) 15 1,.m 5 16] false keep51))))))
 (.seq (.reg [.a 4 .mov [.const (.bool true)]] false keep51)
 (.ret))))
theorem fn51:compFn Try.prog 51 keep51 = some ⟨26,2,[(4,none)],body51⟩:=by kernel_rfl
abbrev keep52:List Nat:=[0,1,2,6,7,8,12,23]
def body52:AC:=
 .seq (.reg [.a 6 (.nilS 86) []] false keep52)
 (.seq (.reg [.a 7 (.nilS 86) []] false keep52)
 (.seq (.seq (.reg [.a 8 .mov [ci 0]] false keep52)
 (.block 0 (.loop (.seq (.seq (.reg [.m 9 8,.m 10 0,.u 11 .len 10,.w 12 (.bin .lss) 9 11] false keep52)
 (.cond (.tmp 12) (.skip) (.exit 0)))
 (.seq (.block 1 (.seq (.reg [.m 15 1,.m 16 0,.m 17 8,.w 18 (.ixa 86 3) 16 17,.u 19 (.fad 2) 18,.u 20 (.load none) 19,.m 21 2,.a 22 (.call 104) [.tmp 15,.tmp 20,.tmp 21],.u 23 .not 22] false keep52)
 (.cond (.tmp 23) (.reg [.m 24 7,.m 25 0,.m 26 8,.w 27 (.ixa 86 3) 25 26,.u 28 (.load (some 3)) 27,.u 29 (.bsl 86 3) 28,.w 30 (.app 86 3 24) 24 29,.m 7 30] false keep52) (.skip))))
 (.reg [.m 13 8,.c 14 (.bin .add) 13 1,.m 8 14] false keep52))))))
 (.seq (.reg [.m 31 7,.m 6 31] false keep52)
 (.ret))))
theorem fn52:compFn Try.prog 52 keep52 = some ⟨32,3,[(6,none)],body52⟩:=by kernel_rfl
abbrev keep53:List Nat:=[0,1,4,5,10,14,25]
def body53:AC:=
 .seq (.reg [.a 4 .mov [.const (.bool false)]] false keep53)
 (.seq (.seq (.reg [.m 6 0,.u 7 .len 6,.m 8 1,.u 9 .len 8,.w 10 (.bin .neq) 7 9] false keep53)
 (.cond (.tmp 10) (.seq (.reg [.a 4 .mov [.const (.bool false)]] false keep53)
 (.ret)) (.skip)))
 (.seq (.seq (.reg [.a 5 .mov [ci 0]] false keep53)
 (.block 0 (.loop (.seq (.seq (.reg [.m 11 5,.m 12 0,.u 13 .len 12,.w 14 (.bin .lss) 11 13] false keep53)
 (.cond (.tmp 14) (.skip) (.exit 0)))
 (.seq (.block 1 (.seq (.reg [.m 17 0,.m 18 5,.w 19 (.ixa 81 1) 17 18,.u 20 (.load none) 19,.m 21 1,.m 22 5,.w 23 (.ixa 81 1) 21 22,.u 24 (.load none) 23,.w 25 (.bin .neq) 20 24] true keep53)
 (.cond (.tmp 25) (.seq (.reg [.a 4 .mov [.const (.bool false)]] false keep53)
 (.ret)) (.skip))))
 (.reg [.m 15 5,.c 16 (.bin .add) 15 1,.m 5 16] false keep53))))))
 (.seq (.reg [.a 4 .mov [.const (.bool true)]] false keep53)
 (.ret))))
theorem fn53:compFn Try.prog 53 keep53 = some ⟨26,2,[(4,none)],body53⟩:=by kernel_rfl
abbrev keep54:List Nat:=[0,2,3,4,5,9,20,45]
def body54:AC:=
 .seq (.reg [.a 2 (.nilS 81) []] false keep54)
 (.seq (.reg [.a 3 (.nilS 81) []] false keep54)
 (.seq (.seq (.reg [.a 4 .mov [ci 0]] false keep54)
 (.block 0 (.loop (.seq (.seq (.reg [.m 6 4,.m 7 0,.u 8 .len 7,.w 9 (.bin .lss) 6 8] false keep54)
 (.cond (.tmp 9) (.skip) (.exit 0)))
 (.seq (.block 1 (.seq (.seq (.reg [.m 12 0,.m 13 4,.w 14 (.slc 3 false true) 12 13,.m 15 0,.m 16 4,.w 17 (.ixa 86 3) 15 16,.u 18 (.fad 1) 17,.u 19 (.load none) 18,⟨some 20,(.call 59),[.tmp 14,.tmp 19],none,[],(some 999999)⟩] true keep54)
 (.cond (.tmp 20) (.exit 1) (.skip)))
 (.seq (.reg [.m 21 3,.m 22 0,.m 23 4,.w 24 (.ixa 86 3) 22 23,.u 25 (.fad 1) 24,.u 26 (.load none) 25,.u 27 (.bsl 81 1) 26,.w 28 (.app 81 1 8) 21 27,.m 3 28] false keep54)
 (.seq (.reg [.m 29 3,.u 30 .len 29,.c 31 (.bin .sub) 30 1,.m 5 31] false keep54)
 (.block 2 (.loop (.seq (.seq (.reg [.m 32 5,.c 33 (.bin .gtr) 32 0,.m 34 33,.mg 35 3 34 true,.mg 36 5 34 true,.bc 37 (.bin .sub) 36 1 34 true,.bw 38 (.ixa 81 1) 35 37 34 true,.bu 39 (.load none) 38 34 true,.mg 40 3 34 true,.mg 41 5 34 true,.bw 42 (.ixa 81 1) 40 41 34 true,.bu 43 (.load none) 42 34 true,.bw 44 (.bin .gtr) 39 43 34 true,.pa 45 34 44] true keep54)
 (.cond (.tmp 45) (.skip) (.exit 2)))
 (.seq (.block 3 (.reg [.m 48 3,.m 49 5,.c 50 (.bin .sub) 49 1,.m 51 3,.m 52 5,.m 53 3,.m 54 5,.w 55 (.ixa 81 1) 53 54,.u 56 (.load none) 55,.m 57 3,.m 58 5,.c 59 (.bin .sub) 58 1,.w 60 (.ixa 81 1) 57 59,.u 61 (.load none) 60,.w 62 (.ixa 81 1) 48 50,.s (.store none) [.tmp 62,.tmp 56],.w 63 (.ixa 81 1) 51 52,.s (.store none) [.tmp 63,.tmp 61]] true keep54))
 (.reg [.m 46 5,.c 47 (.bin .sub) 46 1,.m 5 47] false keep54)))))))))
 (.reg [.m 10 4,.c 11 (.bin .add) 10 1,.m 4 11] false keep54))))))
 (.seq (.reg [.m 64 3,.m 2 64] false keep54)
 (.ret))))
theorem fn54:compFn Try.prog 54 keep54 = some ⟨65,1,[(2,none)],body54⟩:=by kernel_rfl
abbrev keep55:List Nat:=[0,1,2,7]
def body55:AC:=
 .seq (.reg [.u 1 .box 0] false keep55)
 (.seq (.reg [.a 2 .mov [ci 0]] false keep55)
 (.block 0 (.loop (.seq (.seq (.reg [.m 3 2,.u 4 (.fad 0) 1,.u 5 (.load none) 4,.u 6 .len 5,.w 7 (.bin .lss) 3 6] false keep55)
 (.cond (.tmp 7) (.skip) (.exit 0)))
 (.seq (.block 1 (.reg [.u 10 (.fad 0) 1,.u 11 (.load none) 10,.m 12 2,.a 13 (.bld [(.int .u64 0),(.int .u64 0),(.int .u64 0)] [(0,1),(1,1)]) [.const (.int .u64 77),.const (.int .u64 77)],.w 14 (.ixa 83 3) 11 12,.s (.store (some 3)) [.tmp 14,.tmp 13]] false keep55))
 (.reg [.m 8 2,.c 9 (.bin .add) 8 1,.m 2 9] false keep55))))))
theorem fn55:compFn Try.prog 55 keep55 = some ⟨15,1,[],body55⟩:=by kernel_rfl
abbrev keep56:List Nat:=[0,1,2,3,6,7,8,27]
def body56:AC:=
 .seq (.reg [.u 1 .box 0,.a 2 .mov [.const (.bool false)]] false keep56)
 (.seq (.seq (.reg [.u 4 (.fad 0) 1,.u 5 (.load none) 4,.u 6 .len 5,.a 7 .mov [ci 0]] false keep56)
 (.block 0 (.loop (.seq (.reg [.w 8 (.bin .lss) 7 6] false keep56)
 (.seq (.cond (.tmp 8) (.skip) (.exit 0))
 (.seq (.block 1 (.seq (.reg [.m 9 7,.m 3 9] false keep56)
 (.seq (.reg [.m 10 3,.c 11 (.bin .gtr) 10 0,.m 12 11,.bu 13 (.fad 0) 1 12 true,.bu 14 (.load none) 13 12 true,.mg 15 3 12 true,.bc 16 (.bin .sub) 15 1 12 true,.bw 17 (.ixa 83 3) 14 16 12 true,.bu 18 (.fad 0) 17 12 true,.bu 19 (.load none) 18 12 true,.bu 20 (.fad 0) 1 12 true,.bu 21 (.load none) 20 12 true,.mg 22 3 12 true,.bw 23 (.ixa 83 3) 21 22 12 true,.bu 24 (.fad 0) 23 12 true,.bu 25 (.load none) 24 12 true,.bw 26 (.bin .geq) 19 25 12 true,.pa 27 12 26] true keep56)
 (.cond (.tmp 27) (.seq (.reg [.a 2 .mov [.const (.bool false)]] false keep56)
 (.ret)) (.skip)))))
 (.reg [.c 28 (.bin .add) 7 1,.m 7 28] false keep56)))))))
 (.seq (.reg [.a 2 .mov [.const (.bool true)]] false keep56)
 (.ret)))
theorem fn56:compFn Try.prog 56 keep56 = some ⟨29,1,[(2,none)],body56⟩:=by kernel_rfl
abbrev keep57:List Nat:=[0,2,3,7,21]
def body57:AC:=
 .seq (.reg [.a 2 .mov [.const (.bool false)]] false keep57)
 (.seq (.seq (.reg [.a 3 .mov [ci 1]] false keep57)
 (.block 0 (.loop (.seq (.seq (.reg [.m 4 3,.m 5 0,.u 6 .len 5,.w 7 (.bin .lss) 4 6] false keep57)
 (.cond (.tmp 7) (.skip) (.exit 0)))
 (.seq (.block 1 (.seq (.reg [.m 10 0,.m 11 3,.c 12 (.bin .sub) 11 1,.w 13 (.ixa 86 3) 10 12,.u 14 (.fad 0) 13,.u 15 (.load none) 14,.m 16 0,.m 17 3,.w 18 (.ixa 86 3) 16 17,.u 19 (.fad 0) 18,.u 20 (.load none) 19,.w 21 (.bin .geq) 15 20] true keep57)
 (.cond (.tmp 21) (.seq (.reg [.a 2 .mov [.const (.bool false)]] false keep57)
 (.ret)) (.skip))))
 (.reg [.m 8 3,.c 9 (.bin .add) 8 1,.m 3 9] false keep57))))))
 (.seq (.reg [.a 2 .mov [.const (.bool true)]] false keep57)
 (.ret)))
theorem fn57:compFn Try.prog 57 keep57 = some ⟨22,1,[(2,none)],body57⟩:=by kernel_rfl
abbrev keep58:List Nat:=[0,1,2,3,4]
def body58:AC:=
 .seq (.reg [.u 2 .box 0,.u 3 .box 1,.a 4 .mov [.const (.bool false)]] false keep58)
 (.seq (.reg [.u 5 (.fad 0) 2,.u 6 (.load none) 5,.u 7 (.mkf 106) 3,.w 8 (.call 105) 6 7,.m 4 8] false keep58)
 (.ret))
theorem fn58:compFn Try.prog 58 keep58 = some ⟨9,2,[(4,none)],body58⟩:=by kernel_rfl
abbrev keep59:List Nat:=[0,1,4,5,9,18]
def body59:AC:=
 .seq (.reg [.a 4 .mov [.const (.bool false)]] false keep59)
 (.seq (.seq (.reg [.a 5 .mov [ci 0]] false keep59)
 (.block 0 (.loop (.seq (.seq (.reg [.m 6 5,.m 7 0,.u 8 .len 7,.w 9 (.bin .lss) 6 8] false keep59)
 (.cond (.tmp 9) (.skip) (.exit 0)))
 (.seq (.block 1 (.seq (.reg [.m 12 0,.m 13 5,.w 14 (.ixa 86 3) 12 13,.u 15 (.fad 1) 14,.u 16 (.load none) 15,.m 17 1,.w 18 (.bin .eql) 16 17] false keep59)
 (.cond (.tmp 18) (.seq (.reg [.a 4 .mov [.const (.bool true)]] false keep59)
 (.ret)) (.skip))))
 (.reg [.m 10 5,.c 11 (.bin .add) 10 1,.m 5 11] false keep59))))))
 (.seq (.reg [.a 4 .mov [.const (.bool false)]] false keep59)
 (.ret)))
theorem fn59:compFn Try.prog 59 keep59 = some ⟨19,2,[(4,none)],body59⟩:=by kernel_rfl
abbrev keep60:List Nat:=[0,1,2,3,4]
def body60:AC:=
 .seq (.reg [.u 2 .box 0,.u 3 .box 1,.a 4 .mov [.const (.bool false)]] false keep60)
 (.seq (.reg [.u 5 (.fad 0) 2,.u 6 (.load none) 5,.u 7 (.fad 0) 3,.u 8 (.load none) 7,.a 9 (.call 107) [.tmp 6,.tmp 8,.func 108],.m 4 9] false keep60)
 (.ret))
theorem fn60:compFn Try.prog 60 keep60 = some ⟨10,2,[(4,none)],body60⟩:=by kernel_rfl
abbrev keep61:List Nat:=[0,1,2,3,4,5,6,7,8,14,15,16,17,18,19,20,21,22,23,24,25,44,53,80,119]
def body61:AC:=
 .seq (.reg [.u 7 .box 0,.u 8 .box 1,.a 14 .mov [.const (.bool false)]] false keep61)
 (.seq (.seq (.reg [.u 26 (.fad 0) 7,.u 27 (.load none) 26,.u 28 .len 27,.c 29 (.bin .gtr) 28 40,.m 30 29,.mg 31 5 30 false,.bu 32 .len 31 30 false,.bc 33 (.bin .gtr) 32 100 30 false,.po 34 30 33,.m 35 34,.mg 36 6 35 false,.bu 37 .len 36 35 false,.bc 38 (.bin .gtr) 37 100 35 false,.po 39 35 38,.m 40 39,.bu 41 (.load (some 1)) 7 40 false,.bu 42 (.call 56) 41 40 false,.bu 43 .not 42 40 false,.po 44 40 43] false keep61)
 (.cond (.tmp 44) (.seq (.reg [.a 45 (.call 43) [],.m 14 45] false keep61)
 (.ret)) (.skip)))
 (.seq (.reg [.u 47 (.load (some 1)) 7,.u 48 (.load (some 3)) 8,.w 49 (.call 47) 47 48,.m 46 49,.u 50 (.ext 0) 46,.u 51 (.ext 1) 46,.a 15 (.alloc [(.slice none 0 0)]) [],.s (.store (some 1)) [.tmp 15,.tmp 50],.m 16 51] false keep61)
 (.seq (.seq (.reg [.m 52 16,.c 53 (.bin .eql) 52 0] false keep61)
 (.cond (.tmp 53) (.seq (.reg [.u 55 (.load (some 1)) 15,.u 56 (.fad 0) 8,.u 57 (.load none) 56,.w 58 (.call 48) 55 57,.m 54 58,.u 59 (.ext 0) 54,.u 60 (.ext 1) 54,.a 17 (.alloc [(.slice none 0 0)]) [],.s (.store (some 1)) [.tmp 17,.tmp 59],.m 18 60] false keep61)
 (.seq (.reg [.m 61 18,.c 62 (.bin .neq) 61 0,.m 63 62,.bu 64 (.load (some 1)) 17 63 false,.bu 65 (.load (some 1)) 7 63 false,.bw 66 (.call 60) 64 65 63 false,.bu 67 .not 66 63 false,.po 68 63 67,.m 69 68,.bu 70 (.load (some 1)) 15 69 false,.bu 71 (.call 56) 70 69 false,.bu 72 .not 71 69 false,.po 73 69 72,.m 74 73,.bu 75 (.load (some 1)) 15 74 false,.bu 76 (.fad 1) 8 74 false,.bu 77 (.load none) 76 74 false,.bw 78 (.call 58) 75 77 74 false,.bu 79 .not 78 74 false,.po 80 74 79] false keep61)
 (.cond (.tmp 80) (.seq (.reg [.a 14 .mov [.const (.bool false)]] false keep61)
 (.ret)) (.skip)))) (.skip)))
 (.seq (.reg [.u 81 (.load (some 1)) 7,.m 82 2,.m 83 3,.a 84 (.call 49) [.tmp 81,.tmp 82,.tmp 83],.a 19 (.alloc [(.slice none 0 0)]) [],.s (.store (some 1)) [.tmp 19,.tmp 84]] false keep61)
 (.seq (.reg [.u 85 (.load (some 1)) 7,.m 86 2,.m 87 4,.m 88 2,.a 89 (.bin .sub) [.const (.int .u64 18446744073709551615),.tmp 88],.w 90 (.mnx false) 87 89,.w 91 (.bin .add) 86 90,.m 92 3,.a 93 (.call 49) [.tmp 85,.tmp 91,.tmp 92],.a 20 (.alloc [(.slice none 0 0)]) [],.s (.store (some 1)) [.tmp 20,.tmp 93]] false keep61)
 (.seq (.seq (.reg [.u 94 (.load (some 1)) 19,⟨some 95,(.call 56),[.tmp 94],none,[],(some 999999)⟩,.u 96 .not 95,.m 97 96,.bu 98 (.load (some 1)) 19 97 false,.mg 99 2 97 false,.mg 100 3 97 false,.b 101 (.call 49) [.tmp 98,.tmp 99,.tmp 100] 97 false,⟨some 102,(.load (some 1)),[.tmp 19],some (97,false),[101],none⟩,.bw 103 (.call 60) 101 102 97 false,.bu 104 .not 103 97 false,.po 105 97 104,.m 106 105,.bu 107 (.load (some 1)) 19 106 false,.mg 108 2 106 false,.mg 109 4 106 false,.mg 110 2 106 false,.b 111 (.bin .sub) [.const (.int .u64 18446744073709551615),.tmp 110] 106 false,.bw 112 (.mnx false) 109 111 106 false,.bw 113 (.bin .add) 108 112 106 false,.mg 114 3 106 false,.b 115 (.call 49) [.tmp 107,.tmp 113,.tmp 114] 106 false,⟨some 116,(.load (some 1)),[.tmp 20],some (106,false),[115],none⟩,.bw 117 (.call 60) 115 116 106 false,.bu 118 .not 117 106 false,.po 119 106 118] true keep61)
 (.cond (.tmp 119) (.seq (.reg [.a 14 .mov [.const (.bool false)]] false keep61)
 (.ret)) (.skip)))
 (.seq (.reg [.a 21 (.nilS 5) []] false keep61)
 (.seq (.reg [.m 120 21,.m 121 5,.w 122 (.app 5 1 1) 120 121,.m 21 122] false keep61)
 (.seq (.reg [.m 123 21,.u 124 (.load (some 1)) 7,.u 125 (.call 94) 124,.w 126 (.app 5 1 1) 123 125,.m 21 126] false keep61)
 (.seq (.reg [.m 127 21,.u 128 .len 127,.m 22 128] false keep61)
 (.seq (.reg [.m 129 21,.m 130 6,.w 131 (.app 5 1 1) 129 130,.m 21 131] false keep61)
 (.seq (.reg [.m 133 21,.m 134 5,.u 135 .len 134,.w 136 (.call 109) 133 135,.m 132 136,.u 137 (.ext 0) 132,.u 138 (.ext 1) 132,.u 139 (.ext 2) 132,.a 23 (.alloc [(.slice none 0 0)]) [],.s (.store (some 1)) [.tmp 23,.tmp 137],.m 24 138,.m 25 139] false keep61)
 (.seq (.reg [.m 140 25,.c 141 (.bin .eql) 140 0,.m 142 141,.mg 143 24 142 true,.mg 144 22 142 true,.bw 145 (.bin .eql) 143 144 142 true,.pa 146 142 145,.m 147 146,.bu 148 (.load (some 1)) 7 147 true,.bu 149 (.load (some 1)) 23 147 true,.bw 150 (.call 60) 148 149 147 true,.pa 151 147 150,.m 152 151,.b 153 (.call 43) [] 152 true,.pa 154 152 153,.m 14 154] false keep61)
 (.ret))))))))))))))
theorem fn61:compFn Try.prog 61 keep61 = some ⟨155,7,[(14,none)],body61⟩:=by kernel_rfl
abbrev keep62:List Nat:=[0,2,3,4,12]
def body62:AC:=
 .seq (.reg [.a 2 (.nilS 5) []] false keep62)
 (.seq (.reg [.m 5 0,.u 6 .len 5,.u 7 (.cvi .u64) 6,.u 8 (.call 110) 7,.m 3 8] false keep62)
 (.seq (.seq (.reg [.a 4 .mov [ci 0]] false keep62)
 (.block 0 (.loop (.seq (.seq (.reg [.m 9 4,.m 10 0,.u 11 .len 10,.w 12 (.bin .lss) 9 11] false keep62)
 (.cond (.tmp 12) (.skip) (.exit 0)))
 (.seq (.block 1 (.reg [.m 15 3,.m 16 0,.m 17 4,.w 18 (.ixa 86 3) 16 17,.u 19 (.fad 0) 18,.u 20 (.load none) 19,.m 21 0,.m 22 4,.w 23 (.ixa 86 3) 21 22,.u 24 (.fad 1) 23,.u 25 (.load none) 24,.m 26 0,.m 27 4,.w 28 (.ixa 86 3) 26 27,.u 29 (.fad 2) 28,.u 30 (.load none) 29,.a 31 (.bsl 81 1) [.tmp 20,.tmp 25,.tmp 30],⟨some 32,(.call 111),[.tmp 31],none,[],(some 999999)⟩,.w 33 (.app 5 1 1) 15 32,.m 3 33] true keep62))
 (.reg [.m 13 4,.c 14 (.bin .add) 13 1,.m 4 14] false keep62))))))
 (.seq (.reg [.m 34 3,.m 2 34] false keep62)
 (.ret))))
theorem fn62:compFn Try.prog 62 keep62 = some ⟨35,1,[(2,none)],body62⟩:=by kernel_rfl
abbrev keep63:List Nat:=[0,1,2,3,6,7,8,9,10,11,12,13,22]
def body63:AC:=
 .seq (.reg [.u 3 .box 0,.a 6 .mov [.const (.bool false)]] false keep63)
 (.seq (.seq (.reg [.u 14 (.fad 0) 3,.u 15 (.load none) 14,.u 16 .len 15,.c 17 (.bin .gtr) 16 40,.m 18 17,.mg 19 1 18 false,.bu 20 .len 19 18 false,.bc 21 (.bin .gtr) 20 300 18 false,.po 22 18 21] false keep63)
 (.cond (.tmp 22) (.seq (.reg [.a 23 (.call 43) [],.m 6 23] false keep63)
 (.ret)) (.skip)))
 (.seq (.reg [.a 7 (.nilS 5) []] false keep63)
 (.seq (.reg [.m 24 7,.m 25 1,.w 26 (.app 5 1 1) 24 25,.m 7 26] false keep63)
 (.seq (.reg [.m 28 1,.m 29 2,.w 30 (.call 109) 28 29,.m 27 30,.u 31 (.ext 0) 27,.u 32 (.ext 1) 27,.u 33 (.ext 2) 27,.a 8 (.alloc [(.slice none 0 0)]) [],.s (.store (some 1)) [.tmp 8,.tmp 31],.m 9 32,.m 10 33] false keep63)
 (.seq (.reg [.m 35 7,.m 36 2,.w 37 (.call 112) 35 36,.m 34 37,.u 38 (.ext 0) 34,.u 39 (.ext 1) 34,.u 40 (.ext 2) 34,.m 11 38,.m 12 39,.m 13 40] false keep63)
 (.seq (.reg (
 .u 41 (.load (some 1)) 3 :: .u 42 (.call 94) 41 :: ⟨some 43,(.load (some 1)),[.tmp 3],none,[42],none⟩ :: ⟨some 44,(.call 44),[.tmp 43],none,[],(some 999999)⟩ :: ⟨some 45,(.call 62),[.tmp 44],none,[],(some 999999)⟩ :: ⟨some 46,(.call 41),[.tmp 42,.tmp 45],none,[],(some 999999)⟩ :: .m 47 46 :: .bu 48 (.load (some 1)) 8 47 true :: .bu 49 (.call 44) 48 47 true :: .mg 50 11 47 true :: .bw 51 (.call 51) 49 50 47 true :: .pa 52 47 51 :: .m 53 52 :: .mg 54 9 53 true :: .mg 55 12 53 true :: .bw 56 (.bin .eql) 54 55 53 true :: .pa 57 53 56 :: .m 58 57 :: .mg 59 10 58 true :: .mg 60 13 58 true :: .bw 61 (.bin .eql) 59 60 58 true :: .pa 62 58 61 :: .m 63 62 :: .mg 64 1 63 true :: .mg 65 7 63 true :: .bw 66 (.call 41) 64 65 63 true :: .pa 67 63 66 :: .m 68 67 :: .b 69 (.call 43) [] 68 true :: .pa 70 68 69 :: .m 6 70 :: []) true keep63)
 (.ret)))))))
theorem fn63:compFn Try.prog 63 keep63 = some ⟨71,3,[(6,none)],body63⟩:=by kernel_rfl
abbrev keep94:List Nat:=[0,1,2,3,5,12,13,14,15]
def body94:AC:=
 .seq (.reg [.u 1 .box 0,.a 2 (.nilS 5) []] false keep94)
 (.seq (.reg [.u 6 (.fad 0) 1,.u 7 (.load none) 6,.u 8 .len 7,.u 9 (.cvi .u64) 8,.u 10 (.call 136) 9,.m 3 10] false keep94)
 (.seq (.seq (.reg [.u 11 (.fad 0) 1,.u 12 (.load none) 11,.u 13 .len 12,.a 14 .mov [ci 0]] false keep94)
 (.block 0 (.loop (.seq (.reg [.w 15 (.bin .lss) 14 13] false keep94)
 (.seq (.cond (.tmp 15) (.skip) (.exit 0))
 (.seq (.block 1 (.seq (.reg [.w 16 (.ixa 83 3) 12 14,.u 17 (.load (some 3)) 16,.a 5 (.alloc [(.int .u64 0),(.int .u64 0),(.int .u64 0)]) [],.s (.store (some 3)) [.tmp 5,.tmp 17]] false keep94)
 (.reg [.m 18 3,.u 19 (.fad 0) 5,.u 20 (.load none) 19,.u 21 (.fad 1) 5,.u 22 (.load none) 21,.u 23 (.fad 2) 5,.u 24 (.load none) 23,.a 25 (.bsl 81 1) [.tmp 20,.tmp 22,.tmp 24],.u 26 (.call 137) 25,.w 27 (.app 5 1 1) 18 26,.m 3 27] false keep94)))
 (.reg [.c 28 (.bin .add) 14 1,.m 14 28] false keep94)))))))
 (.seq (.reg [.m 29 3,.m 2 29] false keep94)
 (.ret))))
theorem fn94:compFn Try.prog 94 keep94 = some ⟨30,1,[(2,none)],body94⟩:=by kernel_rfl
def body95:AC:=
 .seq (.reg [.a 2 (.nilS 83) []] false [0,2,4])
 (.seq (.seq (.reg [.m 3 0,.u 4 (.ex (.isnil false)) 3] false [0,2,4])
 (.cond (.tmp 4) (.seq (.reg [.a 2 (.nilS 83) []] false [0,2,4])
 (.ret)) (.skip)))
 (.seq (.reg [.a 5 (.bsl 83 3) [],.m 6 0,.w 7 (.app 83 3 24) 5 6,.m 2 7] false [0,2,4])
 (.ret)))
def keep95:List Nat:=[0,2,4]
theorem fn95:compFn Try.prog 95 keep95 = some ⟨8,1,[(2,none)],body95⟩:=by kernel_rfl
abbrev keep96:List Nat:=[0,1,4,5,7,8,9,16]
def body96:AC:=
 .seq (.reg [.a 4 .mov [ci 0]] false keep96)
 (.seq (.seq (.reg [.m 6 0,.u 7 .len 6,.a 8 .mov [ci 0]] false keep96)
 (.block 0 (.loop (.seq (.reg [.w 9 (.bin .lss) 8 7] false keep96)
 (.seq (.cond (.tmp 9) (.skip) (.exit 0))
 (.seq (.block 1 (.seq (.reg [.m 10 8,.m 5 10] false keep96)
 (.seq (.reg [.m 11 1,.m 12 0,.m 13 5,.w 14 (.ixa 83 3) 12 13,.u 15 (.load (some 3)) 14,.w 16 .calv 11 15] false keep96)
 (.cond (.tmp 16) (.seq (.reg [.m 17 5,.m 4 17] false keep96)
 (.ret)) (.skip)))))
 (.reg [.c 18 (.bin .add) 8 1,.m 8 18] false keep96)))))))
 (.seq (.reg [.a 4 .mov [.const (.int .i64 (-1))]] false keep96)
 (.ret)))
theorem fn96:compFn Try.prog 96 keep96 = some ⟨19,2,[(4,none)],body96⟩:=by kernel_rfl
abbrev keep97:List Nat:=[0,1,2,3]
def body97:AC:=
 .seq (.reg [.u 2 .box 0,.a 3 .mov [.const (.bool false)]] false keep97)
 (.seq (.reg [.u 4 (.fad 0) 2,.u 5 (.load none) 4,.u 6 (.load none) 1,.w 7 (.bin .eql) 5 6,.m 3 7] false keep97)
 (.ret))
theorem fn97:compFn Try.prog 97 keep97 = some ⟨8,2,[(3,none)],body97⟩:=by kernel_rfl
abbrev keep98:List Nat:=[0,2,3,5,6,8,9,10,11,12,20,25,26,27,28]
def body98:AC:=
 .seq (.reg [.a 2 (.nilS 83) []] false keep98)
 (.seq (.reg [.a 3 .mov [ci 0]] false keep98)
 (.seq (.seq (.reg [.m 9 0,.u 10 .len 9,.a 11 .mov [ci 0]] false keep98)
 (.block 0 (.loop (.seq (.reg [.w 12 (.bin .lss) 11 10] false keep98)
 (.seq (.cond (.tmp 12) (.skip) (.exit 0))
 (.seq (.block 1 (.seq (.reg [.w 13 (.ixa 78 1) 9 11,.u 14 (.load none) 13,.m 5 14] false keep98)
 (.seq (.reg [.m 15 3,.m 16 5,.u 17 .len 16,.w 18 (.bin .add) 15 17,.m 3 18] false keep98)
 (.seq (.reg [.m 19 3,.c 20 (.bin .lss) 19 0] false keep98)
 (.cond (.tmp 20) (.reg [.a 21 (.ex .dead) [],.s (.ex .dead) []] false keep98) (.skip))))))
 (.reg [.c 22 (.bin .add) 11 1,.m 11 22] false keep98)))))))
 (.seq (.reg [.m 23 3,.a 24 (.call 138) [.const (.slice none 0 0),.tmp 23],.m 6 24] false keep98)
 (.seq (.seq (.reg [.m 25 0,.u 26 .len 25,.a 27 .mov [ci 0]] false keep98)
 (.block 2 (.loop (.seq (.reg [.w 28 (.bin .lss) 27 26] false keep98)
 (.seq (.cond (.tmp 28) (.skip) (.exit 2))
 (.seq (.block 3 (.seq (.reg [.w 29 (.ixa 78 1) 25 27,.u 30 (.load none) 29,.m 8 30] false keep98)
 (.reg [.m 31 6,.m 32 8,.w 33 (.app 83 3 24) 31 32,.m 6 33] false keep98)))
 (.reg [.c 34 (.bin .add) 27 1,.m 27 34] false keep98)))))))
 (.seq (.reg [.m 35 6,.m 2 35] false keep98)
 (.ret))))))
theorem fn98:compFn Try.prog 98 keep98 = some ⟨36,1,[(2,none)],body98⟩:=by kernel_rfl
abbrev keep99:List Nat:=[0,1,2,3,4]
def body99:AC:=
 .seq (.reg [.u 3 .box 0,.a 4 .mov [.const (.bool false)]] false keep99)
 (.seq (.reg [.u 5 (.load none) 1,.u 6 (.fad 2) 3,.u 7 (.load none) 6,.u 8 (.load none) 2,.a 9 (.call 100) [.tmp 5,.tmp 7,.tmp 8],.m 4 9] false keep99)
 (.ret))
theorem fn99:compFn Try.prog 99 keep99 = some ⟨10,3,[(4,none)],body99⟩:=by kernel_rfl
abbrev keep100:List Nat:=[0,1,2,6,7,8]
def body100:AC:=
 .seq (.reg [.a 6 .mov [.const (.bool false)]] false keep100)
 (.seq (.reg [.m 10 1,.m 11 2,.a 12 (.ex .add64) [.tmp 10,.tmp 11,.const (.int .u64 0)],.m 9 12,.u 13 (.ext 0) 9,.u 14 (.ext 1) 9,.m 7 13,.m 8 14] false keep100)
 (.seq (.reg [.m 15 8,.a 16 (.bin .eql) [.tmp 15,.const (.int .u64 0)],.m 17 16,.mg 18 0 17 true,.mg 19 7 17 true,.bw 20 (.bin .gtr) 18 19 17 true,.pa 21 17 20,.m 6 21] false keep100)
 (.ret)))
theorem fn100:compFn Try.prog 100 keep100 = some ⟨22,3,[(6,none)],body100⟩:=by kernel_rfl
abbrev keep101:List Nat:=[0,1,4,5,6,7,12,19,29]
def body101:AC:=
 .seq (.reg [.a 4 (.nilS 83) []] false keep101)
 (.seq (.reg [.m 8 0,.m 9 1,.w 10 (.call 96) 8 9,.m 5 10] false keep101)
 (.seq (.seq (.reg [.m 11 5,.a 12 (.bin .eql) [.tmp 11,.const (.int .i64 (-1))]] false keep101)
 (.cond (.tmp 12) (.seq (.reg [.m 13 0,.m 4 13] false keep101)
 (.ret)) (.skip)))
 (.seq (.seq (.reg [.m 14 5,.c 15 (.bin .add) 14 1,.m 6 15] false keep101)
 (.block 0 (.loop (.seq (.seq (.reg [.m 16 6,.m 17 0,.u 18 .len 17,.w 19 (.bin .lss) 16 18] false keep101)
 (.cond (.tmp 19) (.skip) (.exit 0)))
 (.seq (.block 1 (.seq (.reg [.m 22 0,.m 23 6,.w 24 (.ixa 83 3) 22 23,.u 25 (.load (some 3)) 24,.a 7 (.alloc [(.int .u64 0),(.int .u64 0),(.int .u64 0)]) [],.s (.store (some 3)) [.tmp 7,.tmp 25]] false keep101)
 (.seq (.reg [.m 26 1,.u 27 (.load (some 3)) 7,.w 28 .calv 26 27,.u 29 .not 28] false keep101)
 (.cond (.tmp 29) (.seq (.reg [.m 30 0,.m 31 5,.u 32 (.load (some 3)) 7,.w 33 (.ixa 83 3) 30 31,.s (.store (some 3)) [.tmp 33,.tmp 32]] false keep101)
 (.reg [.m 34 5,.c 35 (.bin .add) 34 1,.m 5 35] false keep101)) (.skip)))))
 (.reg [.m 20 6,.c 21 (.bin .add) 20 1,.m 6 21] false keep101))))))
 (.seq (.reg [.m 36 0,.m 37 5,.w 38 (.slc 3 true false) 36 37,.s (.clr 83 3 [(.int .u64 0),(.int .u64 0),(.int .u64 0)]) [.tmp 38]] false keep101)
 (.seq (.reg [.m 39 0,.m 40 5,.w 41 (.slc 3 false true) 39 40,.m 4 41] false keep101)
 (.ret))))))
theorem fn101:compFn Try.prog 101 keep101 = some ⟨42,2,[(4,none)],body101⟩:=by kernel_rfl
def body102:AC:=
 .seq (.reg [.m 3 0,.u 4 .len 3,.m 2 4] false [0,2])
 (.reg [.m 5 0,.m 6 2,.m 7 2,.u 8 (.cvi .u64) 7,.u 9 (.call 114) 8,.a 10 (.call 140) [.tmp 5,ci 0,.tmp 6,.tmp 9]] false [0,2])
def keep102:List Nat:=[0,2]
theorem fn102:compFn Try.prog 102 keep102 = some ⟨11,1,[],body102⟩:=by kernel_rfl
abbrev keep103:List Nat:=[0,2,3,4,5,8,13,25,32,44]
def body103:AC:=
 .seq (.reg [.a 2 (.nilS 81) []] false keep103)
 (.seq (.seq (.reg [.m 6 0,.u 7 .len 6,.c 8 (.bin .lss) 7 2] false keep103)
 (.cond (.tmp 8) (.seq (.reg [.m 9 0,.m 2 9] false keep103)
 (.ret)) (.skip)))
 (.seq (.seq (.reg [.a 3 .mov [ci 1]] false keep103)
 (.block 0 (.loop (.seq (.seq (.reg [.m 10 3,.m 11 0,.u 12 .len 11,.w 13 (.bin .lss) 10 12] false keep103)
 (.cond (.tmp 13) (.skip) (.exit 0)))
 (.seq (.block 1 (.seq (.reg [.m 16 0,.m 17 3,.w 18 (.ixa 81 1) 16 17,.u 19 (.load none) 18,.m 20 0,.m 21 3,.c 22 (.bin .sub) 21 1,.w 23 (.ixa 81 1) 20 22,.u 24 (.load none) 23,.w 25 (.bin .eql) 19 24] true keep103)
 (.cond (.tmp 25) (.seq (.reg [.m 26 0,.m 27 3,.w 28 (.slc 1 true false) 26 27,.m 4 28] false keep103)
 (.seq (.seq (.reg [.a 5 .mov [ci 1]] false keep103)
 (.block 2 (.loop (.seq (.seq (.reg [.m 29 5,.m 30 4,.u 31 .len 30,.w 32 (.bin .lss) 29 31] false keep103)
 (.cond (.tmp 32) (.skip) (.exit 2)))
 (.seq (.block 3 (.seq (.reg [.m 35 4,.m 36 5,.w 37 (.ixa 81 1) 35 36,.u 38 (.load none) 37,.m 39 4,.m 40 5,.c 41 (.bin .sub) 40 1,.w 42 (.ixa 81 1) 39 41,.u 43 (.load none) 42,.w 44 (.bin .neq) 38 43] true keep103)
 (.cond (.tmp 44) (.seq (.reg [.m 45 0,.m 46 3,.m 47 4,.m 48 5,.w 49 (.ixa 81 1) 47 48,.u 50 (.load none) 49,.w 51 (.ixa 81 1) 45 46,.s (.store none) [.tmp 51,.tmp 50]] false keep103)
 (.reg [.m 52 3,.c 53 (.bin .add) 52 1,.m 3 53] false keep103)) (.skip))))
 (.reg [.m 33 5,.c 34 (.bin .add) 33 1,.m 5 34] false keep103))))))
 (.seq (.reg [.m 54 0,.m 55 3,.w 56 (.slc 1 true false) 54 55,.s (.clr 81 1 [(.int .u64 0)]) [.tmp 56]] false keep103)
 (.seq (.reg [.m 57 0,.m 58 3,.w 59 (.slc 1 false true) 57 58,.m 2 59] false keep103)
 (.ret))))) (.skip))))
 (.reg [.m 14 3,.c 15 (.bin .add) 14 1,.m 3 15] false keep103))))))
 (.seq (.reg [.m 60 0,.m 2 60] false keep103)
 (.ret))))
theorem fn103:compFn Try.prog 103 keep103 = some ⟨61,1,[(2,none)],body103⟩:=by kernel_rfl
abbrev keep104:List Nat:=[0,1,2,6]
def body104:AC:=
 .seq (.reg [.a 6 .mov [.const (.bool false)]] false keep104)
 (.seq (.reg [.m 7 1,.a 8 (.bin .sub) [.const (.int .u64 18446744073709551615),.tmp 7],.m 9 2,.w 10 (.bin .geq) 8 9,.m 11 10,.mg 12 0 11 true,.mg 13 1 11 true,.mg 14 2 11 true,.bw 15 (.bin .add) 13 14 11 true,.bw 16 (.bin .gtr) 12 15 11 true,.pa 17 11 16,.m 6 17] false keep104)
 (.ret))
theorem fn104:compFn Try.prog 104 keep104 = some ⟨18,3,[(6,none)],body104⟩:=by kernel_rfl
def body105:AC:=
 .seq (.reg [.a 4 .mov [.const (.bool false)]] false [0,1,4])
 (.seq (.reg [.m 5 0,.m 6 1,.w 7 (.call 96) 5 6,.c 8 (.bin .geq) 7 0,.m 4 8] false [0,1,4])
 (.ret))
def keep105:List Nat:=[0,1,4]
theorem fn105:compFn Try.prog 105 keep105 = some ⟨9,2,[(4,none)],body105⟩:=by kernel_rfl
abbrev keep106:List Nat:=[0,1,2,3]
def body106:AC:=
 .seq (.reg [.u 2 .box 0,.a 3 .mov [.const (.bool false)]] false keep106)
 (.seq (.reg [.u 4 (.fad 1) 2,.u 5 (.load none) 4,.u 6 (.load none) 1,.w 7 (.bin .eql) 5 6,.m 3 7] false keep106)
 (.ret))
theorem fn106:compFn Try.prog 106 keep106 = some ⟨8,2,[(3,none)],body106⟩:=by kernel_rfl
abbrev keep107:List Nat:=[0,1,2,6,7,8,9,14,15,16,17,18,30]
def body107:AC:=
 .seq (.reg [.a 6 .mov [.const (.bool false)]] false keep107)
 (.seq (.seq (.reg [.m 10 0,.u 11 .len 10,.m 12 1,.u 13 .len 12,.w 14 (.bin .neq) 11 13] false keep107)
 (.cond (.tmp 14) (.seq (.reg [.a 6 .mov [.const (.bool false)]] false keep107)
 (.ret)) (.skip)))
 (.seq (.seq (.reg [.m 15 0,.u 16 .len 15,.a 17 .mov [ci 0]] false keep107)
 (.block 0 (.loop (.seq (.reg [.w 18 (.bin .lss) 17 16] false keep107)
 (.seq (.cond (.tmp 18) (.skip) (.exit 0))
 (.seq (.block 1 (.seq (.reg [.m 19 17,.w 20 (.ixa 83 3) 15 17,.u 21 (.load (some 3)) 20,.a 8 (.alloc [(.int .u64 0),(.int .u64 0),(.int .u64 0)]) [],.m 7 19,.s (.store (some 3)) [.tmp 8,.tmp 21]] false keep107)
 (.seq (.reg [.m 22 1,.m 23 7,.w 24 (.ixa 83 3) 22 23,.u 25 (.load (some 3)) 24,.a 9 (.alloc [(.int .u64 0),(.int .u64 0),(.int .u64 0)]) [],.s (.store (some 3)) [.tmp 9,.tmp 25]] false keep107)
 (.seq (.reg [.m 26 2,.u 27 (.load (some 3)) 8,.u 28 (.load (some 3)) 9,.a 29 .calv [.tmp 26,.tmp 27,.tmp 28],.u 30 .not 29] false keep107)
 (.cond (.tmp 30) (.seq (.reg [.a 6 .mov [.const (.bool false)]] false keep107)
 (.ret)) (.skip))))))
 (.reg [.c 31 (.bin .add) 17 1,.m 17 31] false keep107)))))))
 (.seq (.reg [.a 6 .mov [.const (.bool true)]] false keep107)
 (.ret))))
theorem fn107:compFn Try.prog 107 keep107 = some ⟨32,3,[(6,none)],body107⟩:=by kernel_rfl
abbrev keep108:List Nat:=[0,1,2,3,4]
def body108:AC:=
 .seq (.reg [.u 2 .box 0,.u 3 .box 1,.a 4 .mov [.const (.bool false)]] false keep108)
 (.seq (.reg [.u 5 (.load (some 3)) 2,.u 6 (.load (some 3)) 3,.a 7 (.eqs false [9,9,9]) [.tmp 5,.tmp 6],.m 4 7] false keep108)
 (.ret))
theorem fn108:compFn Try.prog 108 keep108 = some ⟨8,2,[(4,none)],body108⟩:=by kernel_rfl
abbrev keep109:List Nat:=[0,1,4,5,6,7,8,21,30,48,54]
def body109:AC:=
 .seq (.reg [.a 4 (.alloc [(.slice none 0 0)]) [],.a 5 .mov [ci 0],.a 6 .mov [ci 0]] false keep109)
 (.seq (.reg [.m 10 0,.m 11 1,.w 12 (.call 141) 10 11,.m 9 12,.u 13 (.ext 0) 9,.u 14 (.ext 1) 9,.u 15 (.ext 2) 9,.m 7 13,.m 5 14,.m 6 15] false keep109)
 (.seq (.block 0 (.loop (.seq (.seq (.reg [.m 16 6,.c 17 (.bin .eql) 16 0,.m 18 17,.mg 19 7 18 true,.b 20 (.bin .gtr) [.tmp 19,.const (.int .u64 0)] 18 true,.pa 21 18 20] false keep109)
 (.cond (.tmp 21) (.skip) (.exit 0)))
 (.block 1 (.seq (.reg [.a 8 (.nilS 81) []] false keep109)
 (.seq (.reg [.m 23 0,.m 24 5,.a 25 (.call 142) [.tmp 23,.tmp 24,ci 3],.m 22 25,.u 26 (.ext 0) 22,.u 27 (.ext 1) 22,.u 28 (.ext 2) 22,.m 8 26,.m 5 27,.m 6 28] false keep109)
 (.seq (.reg [.m 29 6,.c 30 (.bin .eql) 29 0] false keep109)
 (.cond (.tmp 30) (.seq (.reg [⟨some 31,(.fad 0),[.tmp 4],none,[43],none⟩,⟨some 32,(.load none),[.tmp 31],none,[43],none⟩,.m 33 8,.c 34 (.ixa 81 1) 33 0,.u 35 (.load none) 34,.m 36 8,.c 37 (.ixa 81 1) 36 1,.u 38 (.load none) 37,.m 39 8,.c 40 (.ixa 81 1) 39 2,.u 41 (.load none) 40,.a 42 (.bld [(.int .u64 0),(.int .u64 0),(.int .u64 0)] [(0,1),(1,1),(2,1)]) [.tmp 35,.tmp 38,.tmp 41],.u 43 (.bsl 83 3) 42,.w 44 (.app 83 3 24) 32 43,.u 45 (.fad 0) 4,.s (.store none) [.tmp 45,.tmp 44]] true keep109)
 (.reg [.m 46 7,.a 47 (.bin .sub) [.tmp 46,.const (.int .u64 1)],.m 7 47] false keep109)) (.skip)))))))))
 (.seq (.block 2 (.seq (.reg [.m 49 6,.c 50 (.bin .neq) 49 0,.m 48 50] false keep109)
 (.cond (.tmp 48) (.seq (.reg [.a 51 (.bld [(.slice none 0 0)] []) [],.m 52 1,.m 53 6,.s (.store (some 1)) [.tmp 4,.tmp 51],.m 5 52,.m 6 53] false keep109)
 (.ret)) (.seq (.reg [.u 55 (.load (some 1)) 4,.u 56 (.call 56) 55,.u 57 .not 56,.m 54 57] false keep109)
 (.cond (.tmp 54) (.seq (.reg [.a 58 (.bld [(.slice none 0 0)] []) [],.m 59 1,.s (.store (some 1)) [.tmp 4,.tmp 58],.m 5 59,.a 6 .mov [ci 2]] false keep109)
 (.ret)) (.skip))))))
 (.seq (.reg [.u 60 (.load (some 1)) 4,.m 61 5,.s (.store (some 1)) [.tmp 4,.tmp 60],.m 5 61,.a 6 .mov [ci 0]] false keep109)
 (.ret)))))
theorem fn109:compFn Try.prog 109 keep109 = some ⟨62,2,[(4,some (some 1)),(5,none),(6,none)],body109⟩:=by kernel_rfl
abbrev keep110:List Nat:=[0,2,3,4,5,6,11,20]
def body110:AC:=
 .seq (.reg [.a 2 (.nilS 5) []] false keep110)
 (.seq (.reg [.a 3 (.nilS 5) []] false keep110)
 (.seq (.reg [.m 7 0,.u 8 (.call 143) 7,.m 4 8] false keep110)
 (.seq (.seq (.reg [.a 5 .mov [ci 0]] false keep110)
 (.block 0 (.loop (.seq (.seq (.reg [.m 9 5,.m 10 4,.w 11 (.bin .lss) 9 10] false keep110)
 (.cond (.tmp 11) (.skip) (.exit 0)))
 (.seq (.block 1 (.seq (.reg [.m 14 0,.a 15 (.bin .rem) [.tmp 14,.const (.int .u64 128)],.u 16 (.cvi .u8) 15,.m 6 16] false keep110)
 (.seq (.seq (.reg [.m 17 5,.c 18 (.bin .add) 17 1,.m 19 4,.w 20 (.bin .lss) 18 19] false keep110)
 (.cond (.tmp 20) (.reg [.m 21 6,.a 22 (.bin .add) [.tmp 21,.const (.int .u8 128)],.m 6 22] false keep110) (.skip)))
 (.seq (.reg [.m 23 3,.m 24 6,.u 25 (.bsl 5 1) 24,.w 26 (.app 5 1 1) 23 25,.m 3 26] false keep110)
 (.reg [.m 27 0,.a 28 (.bin .quo) [.tmp 27,.const (.int .u64 128)],.m 0 28] false keep110)))))
 (.reg [.m 12 5,.c 13 (.bin .add) 12 1,.m 5 13] false keep110))))))
 (.seq (.reg [.m 29 3,.m 2 29] false keep110)
 (.ret)))))
theorem fn110:compFn Try.prog 110 keep110 = some ⟨30,1,[(2,none)],body110⟩:=by kernel_rfl
abbrev keep111:List Nat:=[0,2,3,4,8]
def body111:AC:=
 .seq (.reg [.a 2 (.nilS 5) []] false keep111)
 (.seq (.reg [.a 3 (.nilS 5) []] false keep111)
 (.seq (.seq (.reg [.a 4 .mov [ci 0]] false keep111)
 (.block 0 (.loop (.seq (.seq (.reg [.m 5 4,.m 6 0,.u 7 .len 6,.w 8 (.bin .lss) 5 7] false keep111)
 (.cond (.tmp 8) (.skip) (.exit 0)))
 (.seq (.block 1 (.reg [.m 11 3,.m 12 0,.m 13 4,.w 14 (.ixa 81 1) 12 13,.u 15 (.load none) 14,.u 16 (.call 110) 15,.w 17 (.app 5 1 1) 11 16,.m 3 17] false keep111))
 (.reg [.m 9 4,.c 10 (.bin .add) 9 1,.m 4 10] false keep111))))))
 (.seq (.reg [.m 18 3,.m 2 18] false keep111)
 (.ret))))
theorem fn111:compFn Try.prog 111 keep111 = some ⟨19,1,[(2,none)],body111⟩:=by kernel_rfl
abbrev keep112:List Nat:=[0,1,4,5,6,7,8,9,10,11,12,13,22,29,38,57]
def body112:AC:=
 .seq (.reg [.a 4 (.nilS 86) [],.a 5 .mov [ci 0],.a 6 .mov [ci 0]] false keep112)
 (.seq (.reg [.m 15 0,.m 16 1,.w 17 (.call 144) 15 16,.m 14 17,.u 18 (.ext 0) 14,.u 19 (.ext 1) 14,.u 20 (.ext 2) 14,.m 7 18,.m 8 19,.m 9 20] false keep112)
 (.seq (.seq (.reg [.m 21 9,.c 22 (.bin .neq) 21 0] false keep112)
 (.cond (.tmp 22) (.seq (.reg [.m 23 1,.m 24 9,.a 4 (.nilS 86) [],.m 5 23,.m 6 24] false keep112)
 (.ret)) (.skip)))
 (.seq (.reg [.a 10 (.nilS 86) []] false keep112)
 (.seq (.block 0 (.loop (.seq (.seq (.reg [.m 25 10,.u 26 .len 25,.u 27 (.cvi .u64) 26,.m 28 7,.w 29 (.bin .lss) 27 28] false keep112)
 (.cond (.tmp 29) (.skip) (.exit 0)))
 (.block 1 (.seq (.reg [.m 31 0,.m 32 8,.a 33 (.call 145) [.tmp 31,.tmp 32,ci 3],.m 30 33,.u 34 (.ext 0) 30,.u 35 (.ext 1) 30,.u 36 (.ext 2) 30,.m 11 34,.m 12 35,.m 13 36] false keep112)
 (.seq (.seq (.reg [.m 37 13,.c 38 (.bin .neq) 37 0] false keep112)
 (.cond (.tmp 38) (.seq (.reg [.m 39 1,.m 40 13,.a 4 (.nilS 86) [],.m 5 39,.m 6 40] false keep112)
 (.ret)) (.skip)))
 (.seq (.reg [.m 41 10,.m 42 11,.c 43 (.ixa 81 1) 42 0,.u 44 (.load none) 43,.m 45 11,.c 46 (.ixa 81 1) 45 1,.u 47 (.load none) 46,.m 48 11,.c 49 (.ixa 81 1) 48 2,.u 50 (.load none) 49,.a 51 (.bld [(.int .u64 0),(.int .u64 0),(.int .u64 0)] [(0,1),(1,1),(2,1)]) [.tmp 44,.tmp 47,.tmp 50],.u 52 (.bsl 86 3) 51,.w 53 (.app 86 3 24) 41 52,.m 10 53] true keep112)
 (.reg [.m 54 12,.m 8 54] false keep112))))))))
 (.seq (.seq (.reg [.m 55 10,.u 56 (.call 57) 55,.u 57 .not 56] false keep112)
 (.cond (.tmp 57) (.seq (.reg [.m 58 1,.a 4 (.nilS 86) [],.m 5 58,.a 6 .mov [ci 2]] false keep112)
 (.ret)) (.skip)))
 (.seq (.reg [.m 59 10,.m 60 8,.m 4 59,.m 5 60,.a 6 .mov [ci 0]] false keep112)
 (.ret)))))))
theorem fn112:compFn Try.prog 112 keep112 = some ⟨61,2,[(4,none),(5,none),(6,none)],body112⟩:=by kernel_rfl
abbrev keep136:List Nat:=[0,2,3,5]
def body136:AC:=
 .seq (.reg [.a 2 (.nilS 5) []] false keep136)
 (.seq (.reg [.a 3 (.nilS 5) []] false keep136)
 (.seq (.block 0 (.loop (.seq (.seq (.reg [.m 4 0,.a 5 (.bin .geq) [.tmp 4,.const (.int .u64 128)]] false keep136)
 (.cond (.tmp 5) (.skip) (.exit 0)))
 (.seq (.block 1 (.reg [.m 8 3,.m 9 0,.u 10 (.cvi .u8) 9,.a 11 (.bin .or) [.tmp 10,.const (.int .u8 128)],.u 12 (.bsl 5 1) 11,.w 13 (.app 5 1 1) 8 12,.m 3 13] false keep136))
 (.reg [.m 6 0,.a 7 (.bin .shr) [.tmp 6,.const (.int .u64 7)],.m 0 7] false keep136)))))
 (.seq (.reg [.m 14 3,.m 15 0,.u 16 (.cvi .u8) 15,.u 17 (.bsl 5 1) 16,.w 18 (.app 5 1 1) 14 17,.m 2 18] false keep136)
 (.ret))))
theorem fn136:compFn Try.prog 136 keep136 = some ⟨19,1,[(2,none)],body136⟩:=by kernel_rfl
abbrev keep137:List Nat:=[0,2,4,5,6,7,8]
def body137:AC:=
 .seq (.reg [.a 2 (.nilS 5) []] false keep137)
 (.seq (.seq (.reg [.m 5 0,.u 6 .len 5,.a 7 .mov [ci 0]] false keep137)
 (.block 0 (.loop (.seq (.reg [.w 8 (.bin .lss) 7 6] false keep137)
 (.seq (.cond (.tmp 8) (.skip) (.exit 0))
 (.seq (.block 1 (.seq (.reg [.w 9 (.ixa 81 1) 5 7,.u 10 (.load none) 9,.m 4 10] false keep137)
 (.reg [.m 11 2,.m 12 4,.u 13 (.call 136) 12,.w 14 (.app 5 1 1) 11 13,.m 2 14] false keep137)))
 (.reg [.c 15 (.bin .add) 7 1,.m 7 15] false keep137)))))))
 (.seq (.reg [.m 16 2,.m 2 16] false keep137)
 (.ret)))
theorem fn137:compFn Try.prog 137 keep137 = some ⟨17,1,[(2,none)],body137⟩:=by kernel_rfl
abbrev keep138:List Nat:=[0,1,4,6,16]
def body138:AC:=
 .seq (.reg [.a 4 (.nilS 83) []] false keep138)
 (.seq (.seq (.reg [.m 5 1,.c 6 (.bin .lss) 5 0] false keep138)
 (.cond (.tmp 6) (.reg [.a 7 (.ex .dead) [],.s (.ex .dead) []] false keep138) (.skip)))
 (.seq (.seq (.reg [.m 8 1,.m 9 0,.u 10 (.ex .capn) 9,.m 11 0,.u 12 .len 11,.w 13 (.bin .sub) 10 12,.w 14 (.bin .sub) 8 13,.m 1 14] false keep138)
 (.seq (.reg [.m 15 1,.c 16 (.bin .gtr) 15 0] false keep138)
 (.cond (.tmp 16) (.reg [.m 17 0,.m 18 0,.u 19 (.ex .capn) 18,.w 20 (.slc 3 false true) 17 19,.m 21 1,.a 22 (.ex (.appz 83 3 24 [(.int .u64 0),(.int .u64 0),(.int .u64 0)])) [.tmp 20,.tmp 21],.m 23 0,.u 24 .len 23,.w 25 (.slc 3 false true) 22 24,.m 0 25] false keep138) (.skip))))
 (.seq (.reg [.m 26 0,.m 4 26] false keep138)
 (.ret))))
theorem fn138:compFn Try.prog 138 keep138 = some ⟨27,2,[(4,none)],body138⟩:=by kernel_rfl
abbrev keep141:List Nat:=[0,1,4,5,6,7,8,9,17,21,22,23,24,30,54]
def body141:AC:=
 .seq (.reg [.a 4 .mov [.const (.int .u64 0)],.a 5 .mov [ci 0],.a 6 .mov [ci 0]] false keep141)
 (.seq (.seq (.reg [.m 10 1,.c 11 (.bin .lss) 10 0,.m 12 11,.mg 13 1 12 false,.mg 14 0 12 false,.bu 15 .len 14 12 false,.bw 16 (.bin .geq) 13 15 12 false,.po 17 12 16] false keep141)
 (.cond (.tmp 17) (.seq (.reg [.m 18 1,.a 4 .mov [.const (.int .u64 0)],.m 5 18,.a 6 .mov [ci 10]] false keep141)
 (.ret)) (.skip)))
 (.seq (.reg [.a 6 .mov [ci 10]] false keep141)
 (.seq (.skip)
 (.seq (.seq (.reg [.m 19 0,.m 20 1,.w 21 (.slc 1 true false) 19 20,.u 22 .len 21,.a 23 .mov [ci 0]] false keep141)
 (.block 0 (.loop (.seq (.reg [.w 24 (.bin .lss) 23 22] false keep141)
 (.seq (.cond (.tmp 24) (.skip) (.exit 0))
 (.seq (.block 1 (.seq (.reg [.m 25 23,.w 26 (.ixa 5 1) 21 23,.u 27 (.load none) 26,.m 7 25,.m 8 27] false keep141)
 (.seq (.reg [.m 28 8,.a 29 (.bin .lss) [.tmp 28,.const (.int .u8 128)],.m 9 29] false keep141)
 (.seq (.block 2 (.seq (.seq (.reg [.m 31 7,.c 32 (.bin .eql) 31 9,.m 33 32,.mg 34 8 33 true,.b 35 (.bin .gtr) [.tmp 34,.const (.int .u8 1)] 33 true,.pa 36 33 35,.m 30 36] false keep141)
 (.cond (.tmp 30) (.skip) (.reg [.m 37 9,.m 38 37,.mg 39 8 38 true,.b 40 (.bin .eql) [.tmp 39,.const (.int .u8 0)] 38 true,.pa 41 38 40,.m 42 41,.mg 43 7 42 true,.bc 44 (.bin .gtr) 43 0 42 true,.pa 45 42 44,.m 30 45] false keep141)))
 (.cond (.tmp 30) (.seq (.reg [.a 6 .mov [ci 11]] false keep141)
 (.exit 0)) (.skip))))
 (.seq (.reg [.m 46 4,.m 47 8,.a 48 (.bin .andNot) [.tmp 47,.const (.int .u8 128)],.u 49 (.cvi .u64) 48,.m 50 7,.a 51 (.bin .mul) [ci 7,.tmp 50],.w 52 (.bin .shl) 49 51,.w 53 (.bin .or) 46 52,.m 4 53] false keep141)
 (.seq (.reg [.m 54 9] false keep141)
 (.cond (.tmp 54) (.seq (.reg [.m 55 4,.m 56 1,.m 57 7,.w 58 (.bin .add) 56 57,.c 59 (.bin .add) 58 1,.m 4 55,.m 5 59,.a 6 .mov [ci 0]] false keep141)
 (.ret)) (.skip))))))))
 (.reg [.c 60 (.bin .add) 23 1,.m 23 60] false keep141)))))))
 (.seq (.reg [.m 61 1,.m 62 6,.a 4 .mov [.const (.int .u64 0)],.m 5 61,.m 6 62] false keep141)
 (.ret))))))
theorem fn141:compFn Try.prog 141 keep141 = some ⟨63,2,[(4,none),(5,none),(6,none)],body141⟩:=by kernel_rfl
abbrev keep142:List Nat:=[0,1,2,6,7,8,9,10,11,13,14,15,24]
def body142:AC:=
 .seq (.reg [.a 6 (.nilS 81) [],.a 7 .mov [ci 0],.a 8 .mov [ci 0]] false keep142)
 (.seq (.reg [.m 12 1,.m 7 12] false keep142)
 (.seq (.seq (.reg [.m 13 2,.a 14 .mov [ci 0]] false keep142)
 (.block 0 (.loop (.seq (.reg [.w 15 (.bin .lss) 14 13] false keep142)
 (.seq (.cond (.tmp 15) (.skip) (.exit 0))
 (.seq (.block 1 (.seq (.reg [.m 17 0,.m 18 7,.w 19 (.call 141) 17 18,.m 16 19,.u 20 (.ext 0) 16,.u 21 (.ext 1) 16,.u 22 (.ext 2) 16,.m 9 20,.m 10 21,.m 11 22] false keep142)
 (.seq (.seq (.reg [.m 23 11,.c 24 (.bin .neq) 23 0] false keep142)
 (.cond (.tmp 24) (.seq (.reg [.m 25 1,.m 26 11,.a 6 (.nilS 81) [],.m 7 25,.m 8 26] false keep142)
 (.ret)) (.skip)))
 (.reg [.m 27 6,.m 28 9,.u 29 (.bsl 81 1) 28,.w 30 (.app 81 1 8) 27 29,.m 31 10,.m 6 30,.m 7 31] false keep142))))
 (.reg [.c 32 (.bin .add) 14 1,.m 14 32] false keep142)))))))
 (.seq (.reg [.m 33 6,.m 34 7,.m 6 33,.m 7 34,.a 8 .mov [ci 0]] false keep142)
 (.ret))))
theorem fn142:compFn Try.prog 142 keep142 = some ⟨35,3,[(6,none),(7,none),(8,none)],body142⟩:=by kernel_rfl
abbrev keep143:List Nat:=[0,2,3,6]
def body143:AC:=
 .seq (.reg [.a 2 .mov [ci 0]] false keep143)
 (.seq (.reg [.a 3 .mov [ci 1]] false keep143)
 (.seq (.block 0 (.loop (.seq (.seq (.reg [.m 4 0,.a 5 (.bin .quo) [.tmp 4,.const (.int .u64 128)],.a 6 (.bin .gtr) [.tmp 5,.const (.int .u64 0)]] false keep143)
 (.cond (.tmp 6) (.skip) (.exit 0)))
 (.block 1 (.seq (.reg [.m 7 0,.a 8 (.bin .quo) [.tmp 7,.const (.int .u64 128)],.m 0 8] false keep143)
 (.reg [.m 9 3,.c 10 (.bin .add) 9 1,.m 3 10] false keep143))))))
 (.seq (.reg [.m 11 3,.m 2 11] false keep143)
 (.ret))))
theorem fn143:compFn Try.prog 143 keep143 = some ⟨12,1,[(2,none)],body143⟩:=by kernel_rfl
abbrev keep144:List Nat:=[0,1,4,5,6,7,8,9,10,18,21,29,46,55,69]
def body144:AC:=
 .seq (.reg [.a 4 .mov [.const (.int .u64 0)],.a 5 .mov [ci 0],.a 6 .mov [ci 0]] false keep144)
 (.seq (.seq (.reg [.m 11 1,.c 12 (.bin .lss) 11 0,.m 13 12,.mg 14 1 13 false,.mg 15 0 13 false,.bu 16 .len 15 13 false,.bw 17 (.bin .geq) 14 16 13 false,.po 18 13 17] false keep144)
 (.cond (.tmp 18) (.seq (.reg [.m 19 1,.a 4 .mov [.const (.int .u64 0)],.m 5 19,.a 6 .mov [ci 10]] false keep144)
 (.ret)) (.skip)))
 (.seq (.reg [.a 7 .mov [.const (.int .u64 0)]] false keep144)
 (.seq (.seq (.reg [.a 8 .mov [ci 0]] false keep144)
 (.block 0 (.loop (.seq (.seq (.reg [.m 20 8,.c 21 (.bin .lss) 20 10] false keep144)
 (.cond (.tmp 21) (.skip) (.exit 0)))
 (.seq (.block 1 (.seq (.seq (.reg [.m 24 1,.m 25 8,.w 26 (.bin .add) 24 25,.m 27 0,.u 28 .len 27,.w 29 (.bin .geq) 26 28] false keep144)
 (.cond (.tmp 29) (.seq (.reg [.m 30 1,.a 4 .mov [.const (.int .u64 0)],.m 5 30,.a 6 .mov [ci 10]] false keep144)
 (.ret)) (.skip)))
 (.seq (.reg [.m 31 0,.m 32 1,.m 33 8,.w 34 (.bin .add) 32 33,.w 35 (.ixa 5 1) 31 34,.u 36 (.load none) 35,.u 37 (.cvi .u64) 36,.m 9 37] false keep144)
 (.seq (.reg [.m 38 8,.a 39 (.bin .mul) [ci 7,.tmp 38],.a 40 (.bin .shl) [.const (.int .u64 1),.tmp 39],.m 10 40] false keep144)
 (.seq (.seq (.reg [.m 41 8,.c 42 (.bin .eql) 41 9,.m 43 42,.mg 44 9 43 true,.b 45 (.bin .gtr) [.tmp 44,.const (.int .u64 1)] 43 true,.pa 46 43 45] false keep144)
 (.cond (.tmp 46) (.seq (.reg [.m 47 1,.a 4 .mov [.const (.int .u64 0)],.m 5 47,.a 6 .mov [ci 11]] false keep144)
 (.ret)) (.skip)))
 (.seq (.reg [.m 48 7,.m 49 9,.a 50 (.bin .rem) [.tmp 49,.const (.int .u64 128)],.m 51 10,.w 52 (.bin .mul) 50 51,.w 53 (.bin .add) 48 52,.m 7 53] false keep144)
 (.seq (.reg [.m 54 9,.a 55 (.bin .lss) [.tmp 54,.const (.int .u64 128)]] false keep144)
 (.cond (.tmp 55) (.seq (.seq (.reg [.m 56 0,.m 57 1,.m 58 7,.u 59 (.call 110) 58,.a 60 (.call 180) [.tmp 56,.tmp 57,.tmp 59],.u 61 .not 60,.m 62 61,.mg 63 8 62 false,.bc 64 (.bin .add) 63 1 62 false,.mg 65 7 62 false,.bu 66 (.call 110) 65 62 false,.bu 67 .len 66 62 false,.bw 68 (.bin .neq) 64 67 62 false,.po 69 62 68] false keep144)
 (.cond (.tmp 69) (.seq (.reg [.m 70 1,.a 4 .mov [.const (.int .u64 0)],.m 5 70,.a 6 .mov [ci 11]] false keep144)
 (.ret)) (.skip)))
 (.seq (.reg [.m 71 7,.m 72 1,.m 73 8,.w 74 (.bin .add) 72 73,.c 75 (.bin .add) 74 1,.m 4 71,.m 5 75,.a 6 .mov [ci 0]] false keep144)
 (.ret))) (.skip)))))))))
 (.reg [.m 22 8,.c 23 (.bin .add) 22 1,.m 8 23] false keep144))))))
 (.seq (.reg [.m 76 1,.a 4 .mov [.const (.int .u64 0)],.m 5 76,.a 6 .mov [ci 11]] false keep144)
 (.ret)))))
theorem fn144:compFn Try.prog 144 keep144 = some ⟨77,2,[(4,none),(5,none),(6,none)],body144⟩:=by kernel_rfl
abbrev keep145:List Nat:=[0,1,2,6,7,8,9,10,11,12,13,14,18,29]
def body145:AC:=
 .seq (.reg [.a 6 (.nilS 81) [],.a 7 .mov [ci 0],.a 8 .mov [ci 0]] false keep145)
 (.seq (.reg [.a 9 (.nilS 81) []] false keep145)
 (.seq (.reg [.m 15 1,.m 10 15] false keep145)
 (.seq (.seq (.reg [.a 11 .mov [ci 0]] false keep145)
 (.block 0 (.loop (.seq (.seq (.reg [.m 16 11,.m 17 2,.w 18 (.bin .lss) 16 17] false keep145)
 (.cond (.tmp 18) (.skip) (.exit 0)))
 (.seq (.block 1 (.seq (.reg [.m 22 0,.m 23 10,.w 24 (.call 144) 22 23,.m 21 24,.u 25 (.ext 0) 21,.u 26 (.ext 1) 21,.u 27 (.ext 2) 21,.m 12 25,.m 13 26,.m 14 27] false keep145)
 (.seq (.seq (.reg [.m 28 14,.c 29 (.bin .neq) 28 0] false keep145)
 (.cond (.tmp 29) (.seq (.reg [.m 30 1,.m 31 14,.a 6 (.nilS 81) [],.m 7 30,.m 8 31] false keep145)
 (.ret)) (.skip)))
 (.seq (.reg [.m 32 9,.m 33 12,.u 34 (.bsl 81 1) 33,.w 35 (.app 81 1 8) 32 34,.m 9 35] false keep145)
 (.reg [.m 36 13,.m 10 36] false keep145)))))
 (.reg [.m 19 11,.c 20 (.bin .add) 19 1,.m 11 20] false keep145))))))
 (.seq (.reg [.m 37 9,.m 38 10,.m 6 37,.m 7 38,.a 8 .mov [ci 0]] false keep145)
 (.ret)))))
theorem fn145:compFn Try.prog 145 keep145 = some ⟨39,3,[(6,none),(7,none),(8,none)],body145⟩:=by kernel_rfl
abbrev keep180:List Nat:=[0,1,2,6,7,14,18,31]
def body180:AC:=
 .seq (.reg [.a 6 .mov [.const (.bool false)]] false keep180)
 (.seq (.seq (.reg [.m 8 1,.m 9 2,.u 10 .len 9,.w 11 (.bin .add) 8 10,.m 12 0,.u 13 .len 12,.w 14 (.bin .gtr) 11 13] false keep180)
 (.cond (.tmp 14) (.seq (.reg [.a 6 .mov [.const (.bool false)]] false keep180)
 (.ret)) (.skip)))
 (.seq (.seq (.reg [.a 7 .mov [ci 0]] false keep180)
 (.block 0 (.loop (.seq (.seq (.reg [.m 15 7,.m 16 2,.u 17 .len 16,.w 18 (.bin .lss) 15 17] false keep180)
 (.cond (.tmp 18) (.skip) (.exit 0)))
 (.seq (.block 1 (.seq (.reg [.m 21 0,.m 22 1,.m 23 7,.w 24 (.bin .add) 22 23,.w 25 (.ixa 5 1) 21 24,.u 26 (.load none) 25,.m 27 2,.m 28 7,.w 29 (.ixa 5 1) 27 28,.u 30 (.load none) 29,.w 31 (.bin .neq) 26 30] true keep180)
 (.cond (.tmp 31) (.seq (.reg [.a 6 .mov [.const (.bool false)]] false keep180)
 (.ret)) (.skip))))
 (.reg [.m 19 7,.c 20 (.bin .add) 19 1,.m 7 20] false keep180))))))
 (.seq (.reg [.a 6 .mov [.const (.bool true)]] false keep180)
 (.ret))))
theorem fn180:compFn Try.prog 180 keep180 = some ⟨32,3,[(6,none)],body180⟩:=by kernel_rfl
def body114:AC:=
 .seq (.reg [.a 2 .mov [ci 0]] false [0,2])
 (.seq (.cond (.const (.bool false)) (.seq (.reg [.m 3 0,.u 4 (.cvi .u32) 3,.u 5 (.call 154) 4,.m 2 5] false [0,2])
 (.ret)) (.skip))
 (.seq (.reg [.m 6 0,.u 7 (.call 155) 6,.m 2 7] false [0,2])
 (.ret)))
def keep114:List Nat:=[0,2]
theorem fn114:compFn Try.prog 114 keep114 = some ⟨8,1,[(2,none)],body114⟩:=by kernel_rfl
abbrev keep140:List Nat:=[0,1,2,3,8,9,10,11,12,13,14,15,16,17,18,23,29,35,50,68,72,87,113]
def body140:AC:=
 .seq (.reg [.a 8 .mov [.const (.bool true)]] false keep140)
 (.seq (.reg [.a 9 .mov [.const (.bool true)]] false keep140)
 (.block 0 (.loop (.block 1 (.seq (.reg [.m 19 2,.m 20 1,.w 21 (.bin .sub) 19 20,.m 10 21] false keep140)
 (.seq (.seq (.reg [.m 22 10,.c 23 (.bin .leq) 22 12] false keep140)
 (.cond (.tmp 23) (.seq (.reg [.m 24 0,.m 25 1,.m 26 2,.a 27 (.call 171) [.tmp 24,.tmp 25,.tmp 26]] false keep140)
 (.ret)) (.skip)))
 (.seq (.seq (.reg [.m 28 3,.c 29 (.bin .eql) 28 0] false keep140)
 (.cond (.tmp 29) (.seq (.reg [.m 30 0,.m 31 1,.m 32 2,.a 33 (.call 172) [.tmp 30,.tmp 31,.tmp 32]] false keep140)
 (.ret)) (.skip)))
 (.seq (.seq (.reg [.m 34 8,.u 35 .not 34] false keep140)
 (.cond (.tmp 35) (.seq (.reg [.m 36 0,.m 37 1,.m 38 2,.a 39 (.call 173) [.tmp 36,.tmp 37,.tmp 38]] false keep140)
 (.reg [.m 40 3,.c 41 (.bin .sub) 40 1,.m 3 41] false keep140)) (.skip)))
 (.seq (.reg [.m 43 0,.m 44 1,.m 45 2,.a 46 (.call 174) [.tmp 43,.tmp 44,.tmp 45],.m 42 46,.u 47 (.ext 0) 42,.u 48 (.ext 1) 42,.m 11 47,.m 12 48] false keep140)
 (.seq (.seq (.reg [.m 49 12,.c 50 (.bin .eql) 49 2] false keep140)
 (.cond (.tmp 50) (.seq (.reg [.m 51 0,.m 52 1,.m 53 2,.a 54 (.call 175) [.tmp 51,.tmp 52,.tmp 53]] false keep140)
 (.seq (.reg [.m 55 2,.c 56 (.bin .sub) 55 1,.m 57 11,.m 58 1,.w 59 (.bin .sub) 57 58,.w 60 (.bin .sub) 56 59,.m 11 60] false keep140)
 (.reg [.a 12 .mov [ci 1]] false keep140))) (.skip)))
 (.seq (.seq (.reg [.m 61 8,.m 62 61,.mg 63 9 62 true,.pa 64 62 63,.m 65 64,.mg 66 12 65 true,.bc 67 (.bin .eql) 66 1 65 true,.pa 68 65 67] false keep140)
 (.cond (.tmp 68) (.seq (.reg [.m 69 0,.m 70 1,.m 71 2,.a 72 (.call 176) [.tmp 69,.tmp 70,.tmp 71]] false keep140)
 (.cond (.tmp 72) (.ret) (.skip))) (.skip)))
 (.seq (.seq (.reg [.m 73 1,.c 74 (.bin .gtr) 73 0,.m 75 74,.mg 76 0 75 true,.mg 77 1 75 true,.bc 78 (.bin .sub) 77 1 75 true,.bw 79 (.ixa 81 1) 76 78 75 true,.bu 80 (.load none) 79 75 true,.mg 81 0 75 true,.mg 82 11 75 true,.bw 83 (.ixa 81 1) 81 82 75 true,.bu 84 (.load none) 83 75 true,.bw 85 (.call 177) 80 84 75 true,.bu 86 .not 85 75 true,.pa 87 75 86] true keep140)
 (.cond (.tmp 87) (.seq (.reg [.m 88 0,.m 89 1,.m 90 2,.m 91 11,.a 92 (.call 178) [.tmp 88,.tmp 89,.tmp 90,.tmp 91],.m 13 92] false keep140)
 (.seq (.reg [.m 93 13,.m 1 93] false keep140)
 (.exit 1))) (.skip)))
 (.seq (.reg [.m 95 0,.m 96 1,.m 97 2,.m 98 11,.a 99 (.call 179) [.tmp 95,.tmp 96,.tmp 97,.tmp 98],.m 94 99,.u 100 (.ext 0) 94,.u 101 (.ext 1) 94,.m 14 100,.m 15 101] false keep140)
 (.seq (.reg [.m 102 15,.m 9 102] false keep140)
 (.seq (.reg [.m 103 14,.m 104 1,.w 105 (.bin .sub) 103 104,.m 106 2,.m 107 14,.w 108 (.bin .sub) 106 107,.m 16 105,.m 17 108] false keep140)
 (.seq (.reg [.m 109 10,.c 110 (.bin .quo) 109 8,.m 18 110] false keep140)
 (.seq (.reg [.m 111 16,.m 112 17,.w 113 (.bin .lss) 111 112] false keep140)
 (.cond (.tmp 113) (.seq (.reg [.m 114 16,.m 115 18,.w 116 (.bin .geq) 114 115,.m 8 116] false keep140)
 (.seq (.reg [.m 117 0,.m 118 1,.m 119 14,.m 120 3,.a 121 (.call 140) [.tmp 117,.tmp 118,.tmp 119,.tmp 120]] false keep140)
 (.reg [.m 122 14,.c 123 (.bin .add) 122 1,.m 1 123] false keep140))) (.seq (.reg [.m 124 17,.m 125 18,.w 126 (.bin .geq) 124 125,.m 8 126] false keep140)
 (.seq (.reg [.m 127 0,.m 128 14,.c 129 (.bin .add) 128 1,.m 130 2,.m 131 3,.a 132 (.call 140) [.tmp 127,.tmp 129,.tmp 130,.tmp 131]] false keep140)
 (.reg [.m 133 14,.m 2 133] false keep140)))))))))))))))))))))
theorem fn140:compFn Try.prog 140 keep140 = some ⟨134,4,[],body140⟩:=by kernel_rfl
abbrev keep155:List Nat:=[0,2,4,8,14]
def body155:AC:=
 .seq (.reg [.a 2 .mov [ci 0]] false keep155)
 (.seq (.seq (.reg [.m 3 0,.a 4 (.bin .geq) [.tmp 3,.const (.int .u64 4294967296)]] false keep155)
 (.cond (.tmp 4) (.seq (.reg [.m 5 0,.a 6 (.bin .shr) [.tmp 5,.const (.int .u64 32)],.m 0 6] false keep155)
 (.reg [.a 2 .mov [ci 32]] false keep155)) (.skip)))
 (.seq (.seq (.reg [.m 7 0,.a 8 (.bin .geq) [.tmp 7,.const (.int .u64 65536)]] false keep155)
 (.cond (.tmp 8) (.seq (.reg [.m 9 0,.a 10 (.bin .shr) [.tmp 9,.const (.int .u64 16)],.m 0 10] false keep155)
 (.reg [.m 11 2,.c 12 (.bin .add) 11 16,.m 2 12] false keep155)) (.skip)))
 (.seq (.seq (.reg [.m 13 0,.a 14 (.bin .geq) [.tmp 13,.const (.int .u64 256)]] false keep155)
 (.cond (.tmp 14) (.seq (.reg [.m 15 0,.a 16 (.bin .shr) [.tmp 15,.const (.int .u64 8)],.m 0 16] false keep155)
 (.reg [.m 17 2,.c 18 (.bin .add) 17 8,.m 2 18] false keep155)) (.skip)))
 (.seq (.reg [.m 19 2,.m 20 0,.u 21 (.cvi .u8) 20,.a 22 .sidx [.const (.string ⟨#[0,1,2,2,3,3,3,3,4,4,4,4,4,4,4,4,5,5,5,5,5,5,5,5,5,5,5,5,5,5,5,5,6,6,6,6,6,6,6,6,6,6,6,6,6,6,6,6,6,6,6,6,6,6,6,6,6,6,6,6,6,6,6,6,7,7,7,7,7,7,7,7,7,7,7,7,7,7,7,7,7,7,7,7,7,7,7,7,7,7,7,7,7,7,7,7,7,7,7,7,7,7,7,7,7,7,7,7,7,7,7,7,7,7,7,7,7,7,7,7,7,7,7,7,7,7,7,7,8,8,8,8,8,8,8,8,8,8,8,8,8,8,8,8,8,8,8,8,8,8,8,8,8,8,8,8,8,8,8,8,8,8,8,8,8,8,8,8,8,8,8,8,8,8,8,8,8,8,8,8,8,8,8,8,8,8,8,8,8,8,8,8,8,8,8,8,8,8,8,8,8,8,8,8,8,8,8,8,8,8,8,8,8,8,8,8,8,8,8,8,8,8,8,8,8,8,8,8,8,8,8,8,8,8,8,8,8,8,8,8,8,8,8,8,8,8,8,8,8,8,8,8,8,8,8,8]⟩),.tmp 21],.u 23 (.cvi .i64) 22,.w 24 (.bin .add) 19 23,.m 2 24] false keep155)
 (.ret)))))
theorem fn155:compFn Try.prog 155 keep155 = some ⟨25,1,[(2,none)],body155⟩:=by kernel_rfl
abbrev keep171:List Nat:=[0,1,2,6,7,12,30]
def body171:AC:=
 .seq (.reg [.m 8 1,.c 9 (.bin .add) 8 1,.m 6 9] false keep171)
 (.block 0 (.loop (.seq (.seq (.reg [.m 10 6,.m 11 2,.w 12 (.bin .lss) 10 11] false keep171)
 (.cond (.tmp 12) (.skip) (.exit 0)))
 (.seq (.block 1 (.seq (.reg [.m 15 6,.m 7 15] false keep171)
 (.block 2 (.loop (.seq (.seq (.reg [.m 16 7,.m 17 1,.w 18 (.bin .gtr) 16 17,.m 19 18,.mg 20 0 19 true,.mg 21 7 19 true,.bw 22 (.ixa 81 1) 20 21 19 true,.bu 23 (.load none) 22 19 true,.mg 24 0 19 true,.mg 25 7 19 true,.bc 26 (.bin .sub) 25 1 19 true,.bw 27 (.ixa 81 1) 24 26 19 true,.bu 28 (.load none) 27 19 true,.bw 29 (.call 177) 23 28 19 true,.pa 30 19 29] true keep171)
 (.cond (.tmp 30) (.skip) (.exit 2)))
 (.seq (.block 3 (.reg [.m 33 0,.m 34 7,.m 35 0,.m 36 7,.c 37 (.bin .sub) 36 1,.m 38 0,.m 39 7,.c 40 (.bin .sub) 39 1,.w 41 (.ixa 81 1) 38 40,.u 42 (.load none) 41,.m 43 0,.m 44 7,.w 45 (.ixa 81 1) 43 44,.u 46 (.load none) 45,.w 47 (.ixa 81 1) 33 34,.s (.store none) [.tmp 47,.tmp 42],.w 48 (.ixa 81 1) 35 37,.s (.store none) [.tmp 48,.tmp 46]] true keep171))
 (.reg [.m 31 7,.c 32 (.bin .sub) 31 1,.m 7 32] false keep171)))))))
 (.reg [.m 13 6,.c 14 (.bin .add) 13 1,.m 6 14] false keep171)))))
theorem fn171:compFn Try.prog 171 keep171 = some ⟨49,3,[],body171⟩:=by kernel_rfl
def body177:AC:=
 .seq (.reg [.a 4 .mov [.const (.bool false)]] false [0,1,4])
 (.seq (.reg [.m 5 0,.u 6 (.call 193) 5,.m 7 6,.mg 8 1 7 true,.bu 9 (.call 193) 8 7 true,.bu 10 .not 9 7 true,.pa 11 7 10,.m 12 11,.mg 13 0 12 false,.mg 14 1 12 false,.bw 15 (.bin .lss) 13 14 12 false,.po 16 12 15,.m 4 16] false [0,1,4])
 (.ret))
def keep177:List Nat:=[0,1,4]
theorem fn177:compFn Try.prog 177 keep177 = some ⟨17,2,[(4,none)],body177⟩:=by kernel_rfl
def body193:AC:=
 .seq (.reg [.a 2 .mov [.const (.bool false)]] false [0,2])
 (.seq (.reg [.m 3 0,.m 4 0,.w 5 (.bin .neq) 3 4,.m 2 5] false [0,2])
 (.ret))
def keep193:List Nat:=[0,2]
theorem fn193:compFn Try.prog 193 keep193 = some ⟨6,1,[(2,none)],body193⟩:=by kernel_rfl
end Go.Proofs.Ythblkhafehanfaa.Ab
namespace Go.Proofs.Ythblkhafehanfaa.Ab.R
open Go Go.RowKit
open Classical in
noncomputable def dec {α:Type} (f : α→List PV) (rows:List (List PV)):Option (List α):=
 if h:∃ l:List α,l.map f = rows then some h.choose else none
theorem map_inj {α β:Type} {f : α→β} (hf:∀ a b,f a = f b→a = b):∀ {l m:List α},l.map f = m.map f→l = m
 | [],[],_=>rfl
 | [],_ :: _,h=>by simp at h
 | _ :: _,[],h=>by simp at h
 | a :: l,b :: m,h=>by
  simp only [List.map_cons,List.cons.injEq] at h
  rw [hf _ _ h.1,map_inj hf h.2]
theorem dec_map {α:Type} {f : α→List PV} (hf:∀ a b,f a = f b→a = b) (l:List α):dec f (l.map f) = some l:=by
 unfold dec
 have h:∃ m:List α,m.map f = l.map f:=⟨l,rfl⟩
 rw [dif_pos h]
 exact congrArg some (map_inj hf h.choose_spec)
theorem dec_inv {α:Type} {f : α→List PV} {rows:List (List PV)} {l:List α} (h:dec f rows = some l):rows = l.map f:=by
 unfold dec at h
 split at h
 ·rename_i h'
  simp only [Option.some.injEq] at h
  rw [← h]
  exact h'.choose_spec.symm
 ·cases h
def byteR (c:UInt8):List PV:=[.int .u8 (c.toNat:Int)]
theorem byteR_inj:∀ a b,byteR a = byteR b→a = b:=by
 intro a b h
 simp only [byteR,List.cons.injEq,PV.int.injEq,true_and,and_true] at h
 exact UInt8.toNat_inj.1 (by omega)
@[simp] theorem dec_bytes (l:List UInt8):dec byteR (bytesRow l) = some l:=dec_map byteR_inj l
@[simp] theorem dec_nil {α:Type} (f : α→List PV):dec f [] = some []:=by
 unfold dec
 have h:∃ m:List α,m.map f = []:=⟨[],rfl⟩
 rw [dif_pos h]
 have:=h.choose_spec
 simpa using this
theorem dec_bytes_inv {rows:List (List PV)} {l:List UInt8} (h:dec byteR rows = some l):rows = bytesRow l:=dec_inv h
end Go.Proofs.Ythblkhafehanfaa.Ab.R
