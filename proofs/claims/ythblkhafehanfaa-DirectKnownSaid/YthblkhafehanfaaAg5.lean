/- How the abstract machine reckons: objects handed over whole, maps of plain values, ranges. -/
import Derived.Test.YthblkhafehanfaaAb4
import Derived.Test.YthblkhafehanfaaAg3
namespace Go.Proofs.Ythblkhafehanfaa.Ab.R
open Go Go.RowKit
set_option linter.unusedVariables false

section
variable {P : Program} {Γ : Tab} {K : St → Prop} {vs : List (Nat × AV)} {os : List (Nat × AO)}

/-! ### Maps of plain values -/
@[simp ↓] theorem stepEx_mkv {d : Nat} : stepEx (some d) .mkv [] K ⟨look vs, lookO os⟩ = (lookO os d = none ∧ K ⟨put (some d) (.own d) (look vs), addL [(d, .mpv [])] (lookO os)⟩) := rfl
@[simp ↓] theorem stepEx_puv {d : Option Nat} {s : Nat} {x y z : AV} : stepEx d (.puv s) [x, y, z] K ⟨look vs, lookO os⟩ = exPuv d s (strip x) (strip y) (strip z) [x, y, z] K ⟨look vs, lookO os⟩ := rfl
@[congr] theorem exPuv_congr {d : Option Nat} {s : Nat} {x x' y y' z z' : AV} {xs : List AV} {st : St} (h1 : True → x = x') (h2 : True → y = y') (h3 : True → z = z') : exPuv d s x y z xs K st = exPuv d s x' y' z' xs K st := by rw [h1 trivial, h2 trivial, h3 trivial]
@[simp ↓] theorem exPuv_eq {d : Option Nat} {s t : Nat} {k v : PV} {xs : List AV} : exPuv d s (.own t) (.pv k) (.pv v) xs K ⟨look vs, lookO os⟩ = (asksL xs ∧ withO (mpvO (lookO os t)) fun es => srt k = s ∧ keysV s es ∧ K ⟨put d .junk (look vs), addO t (.mpv (putV k v es)) (lookO os)⟩) := rfl
@[simp ↓] theorem stepEx_gev {d : Option Nat} {s : Nat} {z : Value} {ok : Bool} {x y : AV} : stepEx d (.gev s z ok) [x, y] K ⟨look vs, lookO os⟩ = exGev d s z ok (strip x) (strip y) [x, y] K ⟨look vs, lookO os⟩ := rfl
@[congr] theorem exGev_congr {d : Option Nat} {s : Nat} {z : Value} {ok : Bool} {x x' y y' : AV} {xs : List AV} {st : St} (h1 : True → x = x') (h2 : True → y = y') : exGev d s z ok x y xs K st = exGev d s z ok x' y' xs K st := by rw [h1 trivial, h2 trivial]
@[simp ↓] theorem exGev_eq {d : Option Nat} {s : Nat} {z : Value} {ok : Bool} {X : AV} {k : PV} {xs : List AV} : exGev d s z ok X (.pv k) xs K ⟨look vs, lookO os⟩ = (asksL xs ∧ withO (mvOf (lookO os) X) fun es => z.oneCell' = true ∧ srt k = s ∧ keysV s es ∧ K ⟨put d (gotV z ok (getV k es)) (look vs), lookO os⟩) := rfl
@[simp ↓] theorem stepEx_dlv {d : Option Nat} {s : Nat} {x y : AV} : stepEx d (.dlv s) [x, y] K ⟨look vs, lookO os⟩ = exDlv d s (strip x) (strip y) [x, y] K ⟨look vs, lookO os⟩ := rfl
@[congr] theorem exDlv_congr {d : Option Nat} {s : Nat} {x x' y y' : AV} {xs : List AV} {st : St} (h1 : True → x = x') (h2 : True → y = y') : exDlv d s x y xs K st = exDlv d s x' y' xs K st := by rw [h1 trivial, h2 trivial]
@[simp ↓] theorem exDlv_eq {d : Option Nat} {s t : Nat} {k : PV} {xs : List AV} : exDlv d s (.own t) (.pv k) xs K ⟨look vs, lookO os⟩ = (asksL xs ∧ withO (mpvO (lookO os t)) fun es => srt k = s ∧ keysV s es ∧ K ⟨put d .junk (look vs), addO t (.mpv (delV k es)) (lookO os)⟩) := rfl
@[simp ↓] theorem stepEx_pnil {d : Option Nat} {ne : Bool} {x : AV} : stepEx d (.pnil ne) [x] K ⟨look vs, lookO os⟩ = (asksL [x] ∧ withO (isNilP (strip x)) fun b => K ⟨put d (.pv (.bool (b != ne))) (look vs), lookO os⟩) := rfl
@[simp ↓] theorem stepEx_rng {d : Option Nat} {x : AV} : stepEx d .rng [x] K ⟨look vs, lookO os⟩ = exRng d (strip x) [x] K ⟨look vs, lookO os⟩ := rfl
@[congr] theorem exRng_congr {d : Option Nat} {x x' : AV} {xs : List AV} {st : St} (h1 : True → x = x') : exRng d x xs K st = exRng d x' xs K st := by rw [h1 trivial]
@[simp ↓] theorem exRng_eq {d : Nat} {es : List (PV × PV)} {xs : List AV} : exRng (some d) (.pv (.mv es)) xs K ⟨look vs, lookO os⟩ = (asksL xs ∧ lookO os d = none ∧ K ⟨put (some d) (.ptr d 0) (look vs), addL [(d, .itr es none)] (lookO os)⟩) := rfl
@[simp ↓] theorem stepEx_nxt {d : Option Nat} {x : AV} : stepEx d .nxt [x] K ⟨look vs, lookO os⟩ = exNxt d (strip x) [x] K ⟨look vs, lookO os⟩ := rfl
@[congr] theorem exNxt_congr {d : Option Nat} {x x' : AV} {xs : List AV} {st : St} (h1 : True → x = x') : exNxt d x xs K st = exNxt d x' xs K st := by rw [h1 trivial]
@[simp ↓] theorem exNxt_eq {d : Option Nat} {t : Nat} {xs : List AV} : exNxt d (.ptr t 0) xs K ⟨look vs, lookO os⟩ = (asksL xs ∧ withO (itrO (lookO os t)) fun r => (r.1 = [] → K ⟨put d (.tup [.pv (.bool false)]) (look vs), lookO os⟩) ∧
      ∀ (e : PV × PV) (l m : List (PV × PV)), r.1 = l ++ e :: m → K ⟨put d (.tup [.pv (.bool true), .pv e.1, .pv e.2]) (look vs), addO t (.itr (l ++ m) (some e)) (lookO os)⟩) := rfl
@[simp ↓] theorem stepEx_ent {d : Option Nat} {x : AV} : stepEx d .ent [x] K ⟨look vs, lookO os⟩ = exEnt d (strip x) [x] K ⟨look vs, lookO os⟩ := rfl
@[congr] theorem exEnt_congr {d : Option Nat} {x x' : AV} {xs : List AV} {st : St} (h1 : True → x = x') : exEnt d x xs K st = exEnt d x' xs K st := by rw [h1 trivial]
@[simp ↓] theorem exEnt_eq {d : Option Nat} {t : Nat} {xs : List AV} : exEnt d (.ptr t 0) xs K ⟨look vs, lookO os⟩ = (asksL xs ∧ withO (itrO (lookO os t)) fun r => withO r.2 fun e => K ⟨put d (.tup [.pv e.1, .pv e.2]) (look vs), lookO os⟩) := rfl

/-! ### Calls with objects handed over whole -/
@[simp ↓] theorem stepG_eq {d f : Nat} {ks : List Nat} {xs : List AV} : stepG Γ (some d) f xs (some ks) K ⟨look vs, lookO os⟩ = (asksL xs ∧ stepG1 Γ d f ks (xs.map strip) (tagsG (lookO os) ks (xs.map strip)) ((lentG ks (xs.map strip)).flatMap tops) K ⟨look vs, lookO os⟩) := rfl
@[congr] theorem stepG_congr {d : Option Nat} {f : Nat} {xs xs' : List AV} {o o' : Option (List Nat)} {st : St} (h1 : True → xs = xs') (h2 : True → o = o') : stepG Γ d f xs o K st = stepG Γ d f xs' o' K st := by rw [h1 trivial, h2 trivial]
@[congr] theorem stepG1_congr {d f : Nat} {ks : List Nat} {xs xs' : List AV} {T T' Q Q' : List Nat} {st : St} (h1 : True → xs = xs') (h2 : True → T = T') (h3 : True → Q = Q') : stepG1 Γ d f ks xs T Q K st = stepG1 Γ d f ks xs' T' Q' K st := by rw [h1 trivial, h2 trivial, h3 trivial]
@[simp ↓] theorem stepG1_eq {d f : Nat} {ks : List Nat} {xs : List AV} {T Q : List Nat} : stepG1 Γ d f ks xs T Q K ⟨look vs, lookO os⟩ = (T.Nodup ∧ (∀ t ∈ Q, t ∈ T) ∧ stepG2 Γ d f ks xs T Q (T.filter fun t => !Q.contains t) K ⟨look vs, lookO os⟩) := rfl
@[congr] theorem stepG2_congr {d f : Nat} {ks : List Nat} {xs : List AV} {T Q W W' : List Nat} {st : St} (h1 : True → W = W') : stepG2 Γ d f ks xs T Q W K st = stepG2 Γ d f ks xs T Q W' K st := by rw [h1 trivial]
@[simp ↓] theorem stepG2_eq {d f : Nat} {ks : List Nat} {xs : List AV} {T Q W : List Nat} : stepG2 Γ d f ks xs T Q W K ⟨look vs, lookO os⟩ = (Q.Nodup ∧ withO (ysG (lookO os) (wipeM T T (lookO os)) T ks xs) fun ys => stepG3 Γ d f ks xs T Q W K ⟨look vs, lookO os⟩ ys) := rfl
@[simp ↓] theorem stepG3_eq {d f : Nat} {ks : List Nat} {xs ys : List AV} {T Q W : List Nat} : stepG3 Γ d f ks xs T Q W K ⟨look vs, lookO os⟩ ys = withO (Γ (f + 2000000) ys) fun x => x.1 ∧ (puresG T ks xs = true ∨ ∀ y ∈ outG x.2 ++ [retG x.2], flatG 5 y) ∧
    withO (numW (num 5 true) (outG x.2) (Q, poolG d T W)) fun o => o.1 = lentG ks xs ∧ withO (num 5 false (retG x.2) o.2.2) fun r =>
      (∀ p ∈ o.2.1 ++ r.2.1, T.contains p.1 = true ∨ lookO os p.1 = none) ∧ K ⟨put (some d) r.1 (wipeV W (look vs)), addL (o.2.1 ++ r.2.1) (wipeM T W (lookO os))⟩ := rfl
end

@[simp] theorem mpvO_some (es : List (PV × PV)) : mpvO (some (.mpv es)) = some es := nr rfl
@[simp] theorem itrO_some (r : List (PV × PV)) (c : Option (PV × PV)) : itrO (some (.itr r c)) = some (r, c) := nr rfl
@[simp] theorem mvOf_own (objs : Nat → Option AO) (t : Nat) : mvOf objs (.own t) = mpvO (objs t) := nr rfl
@[simp] theorem mvOf_mv (objs : Nat → Option AO) (es : List (PV × PV)) : mvOf objs (.pv (.mv es)) = some es := nr rfl
@[simp] theorem isNilP_ptr (t o : Nat) : isNilP (.ptr t o) = some false := nr rfl
@[simp] theorem isNilP_rp (cs : List PV) : isNilP (.rp cs) = some false := nr rfl
@[simp] theorem isNilP_pt (cs : List PV) : isNilP (.pv (.pt cs)) = some false := nr rfl
@[simp] theorem isNilP_nil : isNilP (.pv (.val (.pointer none))) = some true := nr rfl
@[simp] theorem gotV_f (z : Value) (o : Option PV) : gotV z false o = .pv (o.getD (cvp z)) := nr rfl
@[simp] theorem gotV_t (z : Value) (o : Option PV) : gotV z true o = .tup [.pv (o.getD (cvp z)), .pv (.bool o.isSome)] := nr rfl
@[simp] theorem keysV_nil (s : Nat) : keysV s [] = True := by simp [keysV]
@[simp] theorem getV_nil (k : PV) : getV k [] = none := nr rfl
@[simp] theorem reiO_mpv (es : List (PV × PV)) : reiO (some (.mpv es)) = some (.mv es) := nr rfl
@[simp] theorem reiP_mv (objs : Nat → Option AO) (es : List (PV × PV)) : reiP objs (.pv (.mv es)) = some (.mv es) := nr rfl
@[simp] theorem rdO_arr (e : TypeId) (rows : List (List PV)) : rdO (some (.arr e rows)) = some (.fr e rows) := nr rfl
@[simp] theorem rdO_mpv (es : List (PV × PV)) : rdO (some (.mpv es)) = some (.mf es) := nr rfl
@[simp] theorem rdW_nil (f : AV → Option (AV × List Nat)) : rdW f [] = some ([], []) := nr rfl
@[simp] theorem rdW_cons (f : AV → Option (AV × List Nat)) (c : AV) (cs : List AV) : rdW f (c :: cs) = (f c).bind fun r => (rdW f cs).map fun q => (r.1 :: q.1, r.2 ++ q.2) := nr rfl
@[simp] theorem rd_own (n : Nat) (objs : Nat → Option AO) (t : Nat) : rd (n + 1) objs (.own t) = (rdO (objs t)).map fun y => (y, [t]) := nr rfl
@[simp] theorem rd_ptr (n : Nat) (objs : Nat → Option AO) (t : Nat) : rd (n + 1) objs (.ptr t 0) = (boxO (objs t)).bind fun cs => (rdW (rd n objs) cs).map fun r => (.bx r.1, t :: r.2) := nr rfl
@[simp] theorem rd_agg (n : Nat) (objs : Nat → Option AO) (cs : List AV) : rd (n + 1) objs (.agg cs) = (rdW (rd n objs) cs).map fun r => (.agg r.1, r.2) := nr rfl
@[simp] theorem rd_pv (n : Nat) (objs : Nat → Option AO) (p : PV) : rd (n + 1) objs (.pv p) = some (.pv p, []) := nr rfl
@[simp] theorem rd_rp (n : Nat) (objs : Nat → Option AO) (cs : List PV) : rd (n + 1) objs (.rp cs) = some (.rp cs, []) := nr rfl
@[simp] theorem rd_clo (n : Nat) (objs : Nat → Option AO) (f : FuncId) : rd (n + 1) objs (.clo f []) = some (.clo f [], []) := nr rfl
@[simp] theorem tk_t (p : Nat) (ps us : List Nat) : tk true (p :: ps, us) = some (p, ps, us) := nr rfl
@[simp] theorem tk_f (u : Nat) (ps us : List Nat) : tk false (ps, u :: us) = some (u, ps, us) := nr rfl
@[simp] theorem numW_nil (f : AV → List Nat × List Nat → Option (AV × List (Nat × AO) × List Nat × List Nat)) (s : List Nat × List Nat) : numW f [] s = some ([], [], s) := nr rfl
@[simp] theorem numW_cons (f : AV → List Nat × List Nat → Option (AV × List (Nat × AO) × List Nat × List Nat)) (c : AV) (cs : List AV) (s : List Nat × List Nat) : numW f (c :: cs) s = (f c s).bind fun r => (numW f cs r.2.2).map fun q => (r.1 :: q.1, r.2.1 ++ q.2.1, q.2.2) := nr rfl
@[simp] theorem num_fr (n : Nat) (top : Bool) (e : TypeId) (rows : List (List PV)) (s : List Nat × List Nat) : num (n + 1) top (.fr e rows) s = (tk top s).map fun q => (.own q.1, [(q.1, .arr e rows)], q.2) := nr rfl
@[simp] theorem num_mf (n : Nat) (top : Bool) (es : List (PV × PV)) (s : List Nat × List Nat) : num (n + 1) top (.mf es) s = (tk top s).map fun q => (.own q.1, [(q.1, .mpv es)], q.2) := nr rfl
@[simp] theorem num_bx (n : Nat) (top : Bool) (cs : List AV) (s : List Nat × List Nat) : num (n + 1) top (.bx cs) s = (tk top s).bind fun q => (numW (num n false) cs q.2).map fun r => (.ptr q.1 0, (q.1, .box r.1) :: r.2.1, r.2.2) := nr rfl
@[simp] theorem num_agg (n : Nat) (top : Bool) (cs : List AV) (s : List Nat × List Nat) : num (n + 1) top (.agg cs) s = (numW (num n top) cs s).map fun r => (.agg r.1, r.2) := nr rfl
@[simp] theorem num_tup (n : Nat) (top : Bool) (cs : List AV) (s : List Nat × List Nat) : num (n + 1) top (.tup cs) s = (numW (num n top) cs s).map fun r => (.tup r.1, r.2) := nr rfl
@[simp] theorem num_pv (n : Nat) (top : Bool) (p : PV) (s : List Nat × List Nat) : num (n + 1) top (.pv p) s = some (.pv p, [], s) := nr rfl
@[simp] theorem num_rp (n : Nat) (top : Bool) (cs : List PV) (s : List Nat × List Nat) : num (n + 1) top (.rp cs) s = some (.rp cs, [], s) := nr rfl
@[simp] theorem num_clo (n : Nat) (top : Bool) (f : FuncId) (cs : List AV) (s : List Nat × List Nat) : num (n + 1) top (.clo f cs) s = if pureCs cs = true then some (.clo f cs, [], s) else none := nr rfl
@[simp] theorem topC_own (t : Nat) : topC (.own t) = [t] := nr rfl
@[simp] theorem topC_ptr (t : Nat) : topC (.ptr t 0) = [t] := nr rfl
@[simp] theorem topC_pv (p : PV) : topC (.pv p) = [] := nr rfl
@[simp] theorem topC_rp (cs : List PV) : topC (.rp cs) = [] := nr rfl
@[simp] theorem tops_agg (cs : List AV) : tops (.agg cs) = cs.flatMap topC := nr rfl
@[simp] theorem tops_own (t : Nat) : tops (.own t) = [t] := nr rfl
@[simp] theorem tops_ptr (t : Nat) : tops (.ptr t 0) = [t] := nr rfl
@[simp] theorem tops_pv (p : PV) : tops (.pv p) = [] := nr rfl
@[simp] theorem tops_rp (cs : List PV) : tops (.rp cs) = [] := nr rfl
@[simp] theorem ysG_nil (objs objs' : Nat → Option AO) (T : List Nat) : ysG objs objs' T [] [] = some [] := nr rfl
@[simp] theorem ysG_0 (objs objs' : Nat → Option AO) (T ks : List Nat) (x : AV) (xs : List AV) : ysG objs objs' T (0 :: ks) (x :: xs) = (rei objs' (wipe T x)).bind fun y => (ysG objs objs' T ks xs).map (y :: ·) := nr rfl
@[simp] theorem ysG_1 (objs objs' : Nat → Option AO) (T ks : List Nat) (x : AV) (xs : List AV) : ysG objs objs' T (1 :: ks) (x :: xs) = ((rd 5 objs x).map (·.1)).bind fun y => (ysG objs objs' T ks xs).map (y :: ·) := nr rfl
@[simp] theorem ysG_2 (objs objs' : Nat → Option AO) (T ks : List Nat) (x : AV) (xs : List AV) : ysG objs objs' T (2 :: ks) (x :: xs) = ((rd 5 objs x).map fun r => .tup [r.1]).bind fun y => (ysG objs objs' T ks xs).map (y :: ·) := nr rfl
@[simp] theorem tagsG_nil (objs : Nat → Option AO) : tagsG objs [] [] = [] := nr rfl
@[simp] theorem tagsG_0 (objs : Nat → Option AO) (ks : List Nat) (x : AV) (xs : List AV) : tagsG objs (0 :: ks) (x :: xs) = tagsG objs ks xs := nr rfl
@[simp] theorem tagsG_1 (objs : Nat → Option AO) (ks : List Nat) (x : AV) (xs : List AV) : tagsG objs (1 :: ks) (x :: xs) = ((rd 5 objs x).map (·.2)).getD [] ++ tagsG objs ks xs := nr rfl
@[simp] theorem tagsG_2 (objs : Nat → Option AO) (ks : List Nat) (x : AV) (xs : List AV) : tagsG objs (2 :: ks) (x :: xs) = ((rd 5 objs x).map (·.2)).getD [] ++ tagsG objs ks xs := nr rfl
@[simp] theorem lentG_nil : lentG [] [] = [] := nr rfl
@[simp] theorem lentG_0 (ks : List Nat) (x : AV) (xs : List AV) : lentG (0 :: ks) (x :: xs) = lentG ks xs := nr rfl
@[simp] theorem lentG_1 (ks : List Nat) (x : AV) (xs : List AV) : lentG (1 :: ks) (x :: xs) = lentG ks xs := nr rfl
@[simp] theorem lentG_2 (ks : List Nat) (x : AV) (xs : List AV) : lentG (2 :: ks) (x :: xs) = x :: lentG ks xs := nr rfl
@[simp] theorem puresG_nil (T : List Nat) : puresG T [] [] = true := nr rfl
@[simp] theorem puresG_0 (T ks : List Nat) (x : AV) (xs : List AV) : puresG T (0 :: ks) (x :: xs) = (pure1 (wipe T x) && puresG T ks xs) := nr rfl
@[simp] theorem puresG_1 (T ks : List Nat) (x : AV) (xs : List AV) : puresG T (1 :: ks) (x :: xs) = puresG T ks xs := nr rfl
@[simp] theorem puresG_2 (T ks : List Nat) (x : AV) (xs : List AV) : puresG T (2 :: ks) (x :: xs) = puresG T ks xs := nr rfl
@[simp] theorem flatG_fr (n : Nat) (e : TypeId) (rows : List (List PV)) : flatG (n + 1) (.fr e rows) = flatRows rows := nr rfl
@[simp] theorem flatG_mf (n : Nat) (es : List (PV × PV)) : flatG (n + 1) (.mf es) = ∀ e ∈ es, flatP e.2 = true := nr rfl
@[simp] theorem flatG_bx (n : Nat) (cs : List AV) : flatG (n + 1) (.bx cs) = ∀ c ∈ cs, flatG n c := nr rfl
@[simp] theorem flatG_agg (n : Nat) (cs : List AV) : flatG (n + 1) (.agg cs) = ∀ c ∈ cs, flatG n c := nr rfl
@[simp] theorem flatG_tup (n : Nat) (cs : List AV) : flatG (n + 1) (.tup cs) = ∀ c ∈ cs, flatG n c := nr rfl
@[simp] theorem flatG_pv (n : Nat) (p : PV) : flatG (n + 1) (.pv p) = (flatP p = true) := nr rfl
@[simp] theorem flatG_clo (n : Nat) (f : FuncId) : flatG (n + 1) (.clo f []) = True := nr rfl
@[simp] theorem outG_clo (n : Nat) (r : AV) (l : List AV) : outG (.clo n (r :: l)) = l := nr rfl
@[simp] theorem retG_clo (n : Nat) (r : AV) (l : List AV) : retG (.clo n (r :: l)) = r := nr rfl
@[simp] theorem ksOf_rp (l : List PV) : ksOf (.rp l) = some (l.map fun p => match p with | .int _ n => n.toNat | _ => 0) := nr rfl
@[simp] theorem poolG_eq (d : Nat) (T W : List Nat) : poolG d T W = W.filter (fun t => t % 1000 != 999) ++ [d, d + 1000, d + 2000, d + 3000, d + 4000, d + 5000, d + 6000, d + 7000].filter fun t => !T.contains t := nr rfl
@[simp] theorem wipe_nil (x : AV) : wipe [] x = x := nr rfl
@[simp] theorem wipe_cons (t : Nat) (W : List Nat) (x : AV) : wipe (t :: W) x = wipe0 (t :: W) x := nr rfl
@[simp] theorem wipe0_tup (W : List Nat) (cs : List AV) : wipe0 W (.tup cs) = .tup (cs.map (wipe1 W)) := nr rfl
@[simp] theorem wipe0_clo (W : List Nat) (f : FuncId) (cs : List AV) : wipe0 W (.clo f cs) = .clo f (cs.map (wipe1 W)) := nr rfl
@[simp] theorem wipe0_cnd (W : List Nat) (g : Bool) (v : AV) : wipe0 W (.cnd g v) = .cnd g (wipe0 W v) := nr rfl
@[simp] theorem wipe0_agg (W : List Nat) (cs : List AV) : wipe0 W (.agg cs) = .agg (cs.map (wipeC W)) := nr rfl
@[simp] theorem wipe0_own (W : List Nat) (t : Nat) : wipe0 W (.own t) = wipeC W (.own t) := nr rfl
@[simp] theorem wipe0_ptr (W : List Nat) (t o : Nat) : wipe0 W (.ptr t o) = wipeC W (.ptr t o) := nr rfl
@[simp] theorem wipe0_eptr (W : List Nat) (t : Nat) (e : TypeId) (i : Int) (o : Nat) : wipe0 W (.eptr t e i o) = wipeC W (.eptr t e i o) := nr rfl
@[simp] theorem wipe0_sub (W : List Nat) (t : Nat) (e : TypeId) (i o : Nat) : wipe0 W (.sub t e i o) = wipeC W (.sub t e i o) := nr rfl
@[simp] theorem wipe0_pv (W : List Nat) (p : PV) : wipe0 W (.pv p) = .pv p := nr rfl
@[simp] theorem wipe0_rp (W : List Nat) (cs : List PV) : wipe0 W (.rp cs) = .rp cs := nr rfl
@[simp] theorem wipe0_junk (W : List Nat) : wipe0 W .junk = .junk := nr rfl
@[simp] theorem wipe1_agg (W : List Nat) (cs : List AV) : wipe1 W (.agg cs) = .agg (cs.map (wipeC W)) := nr rfl
@[simp] theorem wipe1_own (W : List Nat) (t : Nat) : wipe1 W (.own t) = wipeC W (.own t) := nr rfl
@[simp] theorem wipe1_ptr (W : List Nat) (t o : Nat) : wipe1 W (.ptr t o) = wipeC W (.ptr t o) := nr rfl
@[simp] theorem wipe1_pv (W : List Nat) (p : PV) : wipe1 W (.pv p) = .pv p := nr rfl
@[simp] theorem wipe1_rp (W : List Nat) (cs : List PV) : wipe1 W (.rp cs) = .rp cs := nr rfl
@[simp] theorem wipeC_own (W : List Nat) (t : Nat) : wipeC W (.own t) = if W.contains t then .junk else .own t := nr rfl
@[simp] theorem wipeC_ptr (W : List Nat) (t o : Nat) : wipeC W (.ptr t o) = if W.contains t then .junk else .ptr t o := nr rfl
@[simp] theorem wipeC_eptr (W : List Nat) (t : Nat) (e : TypeId) (i : Int) (o : Nat) : wipeC W (.eptr t e i o) = if W.contains t then .junk else .eptr t e i o := nr rfl
@[simp] theorem wipeC_sub (W : List Nat) (t : Nat) (e : TypeId) (i o : Nat) : wipeC W (.sub t e i o) = if W.contains t then .junk else .sub t e i o := nr rfl
@[simp] theorem wipeC_pv (W : List Nat) (p : PV) : wipeC W (.pv p) = .pv p := nr rfl
@[simp] theorem wipeC_rp (W : List Nat) (cs : List PV) : wipeC W (.rp cs) = .rp cs := nr rfl
@[simp] theorem wipeC_clo0 (W : List Nat) (f : FuncId) : wipeC W (.clo f []) = .clo f [] := nr rfl
@[simp] theorem wipeC_junk (W : List Nat) : wipeC W .junk = .junk := nr rfl
@[simp] theorem wipeO_nil (o : AO) : wipeO [] o = o := nr rfl
@[simp] theorem wipeO_cons (t : Nat) (W : List Nat) (o : AO) : wipeO (t :: W) o = wipeO0 (t :: W) o := nr rfl
@[simp] theorem wipeO0_box (W : List Nat) (cs : List AV) : wipeO0 W (.box cs) = .box (cs.map (wipeC W)) := nr rfl
@[simp] theorem wipeO0_rws (W : List Nat) (e : TypeId) (cs : List AV) : wipeO0 W (.rws e cs) = .rws e (cs.map (wipeC W)) := nr rfl
@[simp] theorem wipeO0_arr (W : List Nat) (e : TypeId) (rows : List (List PV)) : wipeO0 W (.arr e rows) = .arr e rows := nr rfl
@[simp] theorem wipeO0_map (W : List Nat) (es : List (PV × AV)) : wipeO0 W (.map es) = .map es := nr rfl
@[simp] theorem wipeO0_mpv (W : List Nat) (es : List (PV × PV)) : wipeO0 W (.mpv es) = .mpv es := nr rfl
@[simp] theorem wipeO0_itr (W : List Nat) (r : List (PV × PV)) (c : Option (PV × PV)) : wipeO0 W (.itr r c) = .itr r c := nr rfl
@[simp] theorem wipeV_look (W : List Nat) (l : List (Nat × AV)) : wipeV W (look l) = look (l.map fun x => (x.1, wipe W x.2)) := by
  funext s
  unfold wipeV
  induction l with
  | nil => show wipe W .junk = .junk; unfold wipe; split <;> rfl
  | cons x l ih =>
    obtain ⟨k, v⟩ := x
    simp only [List.map_cons, look]
    split
    · rfl
    · exact ih
def rmG (T W : List Nat) : List (Nat × AO) → List (Nat × AO)
  | [] => []
  | x :: l => if T.contains x.1 = true then rmG T W l else (x.1, wipeO W x.2) :: rmG T W l
@[simp] theorem rmG_nil (T W : List Nat) : rmG T W [] = [] := nr rfl
@[simp] theorem rmG_cons (T W : List Nat) (s : Nat) (o : AO) (l : List (Nat × AO)) : rmG T W ((s, o) :: l) = if T.contains s = true then rmG T W l else (s, wipeO W o) :: rmG T W l := nr rfl
@[simp] theorem wipeM_look (T W : List Nat) (l : List (Nat × AO)) : wipeM T W (lookO l) = lookO (rmG T W l) := by
  funext s
  unfold wipeM
  induction l with
  | nil => simp [rmG, lookO]
  | cons x l ih =>
    obtain ⟨k, v⟩ := x
    simp only [rmG_cons, lookO]
    by_cases hs : T.contains s = true
    · rw [if_pos hs] at ih ⊢
      by_cases hk : T.contains k = true
      · rw [if_pos hk]; exact ih
      · have : ¬ s = k := fun e => hk (e ▸ hs)
        rw [if_neg hk]; simp only [lookO, if_neg this]; exact ih
    · rw [if_neg hs] at ih ⊢
      by_cases hsk : s = k
      · subst hsk; rw [if_neg hs]; simp [lookO]
      · rw [if_neg hsk]
        by_cases hk : T.contains k = true
        · rw [if_pos hk]; exact ih
        · rw [if_neg hk]; simp only [lookO, if_neg hsk]; exact ih

/-! ### What plain calls bring -/
@[simp] theorem trC_agg (cs : List AV) : trC (.agg cs) = cs.any fun c => match c with | .bx _ | .mf _ => true | _ => false := nr rfl
@[simp] theorem trC_bx (cs : List AV) : trC (.bx cs) = true := nr rfl
@[simp] theorem trC_mf (es : List (PV × PV)) : trC (.mf es) = true := nr rfl
@[simp] theorem trC_pv (p : PV) : trC (.pv p) = false := nr rfl
@[simp] theorem trC_rp (cs : List PV) : trC (.rp cs) = false := nr rfl
@[simp] theorem trC_fr (e : TypeId) (rows : List (List PV)) : trC (.fr e rows) = false := nr rfl
@[simp] theorem trC_clo (f : FuncId) (cs : List AV) : trC (.clo f cs) = false := nr rfl
@[simp] theorem trR_tup (vs : List AV) : trR (.tup vs) = vs.any trC := nr rfl
@[simp] theorem trR_agg (cs : List AV) : trR (.agg cs) = trC (.agg cs) := nr rfl
@[simp] theorem trR_bx (cs : List AV) : trR (.bx cs) = true := nr rfl
@[simp] theorem trR_mf (es : List (PV × PV)) : trR (.mf es) = true := nr rfl
@[simp] theorem trR_pv (p : PV) : trR (.pv p) = false := nr rfl
@[simp] theorem trR_rp (cs : List PV) : trR (.rp cs) = false := nr rfl
@[simp] theorem trR_fr (e : TypeId) (rows : List (List PV)) : trR (.fr e rows) = false := nr rfl
@[simp] theorem trR_clo (f : FuncId) (cs : List AV) : trR (.clo f cs) = false := nr rfl
@[simp] theorem flatR_eq (r : AV) : flatR r = if trR r = true then flatG 5 r else flat r := nr rfl
@[simp] theorem newO_eq (d : Nat) (r : AV) : newO d r = if trR r = true then (((num 5 false r ([], pool8 d)).map (·.2.1)).getD []) else frTags d r := nr rfl
@[simp] theorem newV_eq (d : Nat) (r : AV) : newV d r = if trR r = true then (((num 5 false r ([], pool8 d)).map (·.1)).getD .junk) else mapTop (tagC d) r := nr rfl
@[simp] theorem resR_eq (d : Nat) (r : AV) : resR d r = if trR r = true then (num 5 false r ([], pool8 d)).isSome else resOK r := nr rfl
@[simp] theorem pool8_eq (d : Nat) : pool8 d = [d, d + 1000, d + 2000, d + 3000, d + 4000, d + 5000, d + 6000, d + 7000] := nr rfl

/-! ### The end of a function that hands objects over -/
@[congr] theorem EndsKG_congr {P : Program} {rs : List (Nat × Option (Option Nat))} {L : List AV} {x : AV} {st st' : St} (h : True → st = st') : EndsKG P rs L x st = EndsKG P rs L x st' := by rw [h trivial]
@[congr] theorem EndsG_congr {P : Program} {rs : List (Nat × Option (Option Nat))} {L : List AV} {x : AV} {st st' : St} (h : True → st = st') : EndsG P rs L x st = EndsG P rs L x st' := by rw [h trivial]
section
variable {P : Program} {objs : Nat → Option AO}
@[simp] theorem mtW_nil (f : AV → AV → Prop) : mtW f [] [] = True := nr rfl
@[simp] theorem mtW_cons (f : AV → AV → Prop) (c y : AV) (cs ys : List AV) : mtW f (c :: cs) (y :: ys) = (f c y ∧ mtW f cs ys) := nr rfl
@[simp] theorem mt_fr (n : Nat) (x : AV) (e : TypeId) (rows : List (List PV)) : mt P objs (n + 1) x (.fr e rows) = fzC P objs x (.fr e rows) := nr rfl
@[simp] theorem mt_mf (n t : Nat) (es : List (PV × PV)) : mt P objs (n + 1) (.own t) (.mf es) = (objs t = some (.mpv es)) := by
  show (∃ t', AV.own t = .own t' ∧ objs t' = some (.mpv es)) = _
  apply propext
  exact ⟨fun ⟨_, h, h'⟩ => by cases h; exact h', fun h => ⟨t, rfl, h⟩⟩
@[simp] theorem mt_bx (n t : Nat) (cs : List AV) : mt P objs (n + 1) (.ptr t 0) (.bx cs) = withO (boxO (objs t)) fun l => mtW (mt P objs n) l cs := by
  show (∃ t' l, AV.ptr t 0 = .ptr t' 0 ∧ objs t' = some (.box l) ∧ mtW (mt P objs n) l cs) = _
  apply propext
  constructor
  · rintro ⟨t', l, h, h', h''⟩; cases h; rw [h']; exact h''
  · intro h
    obtain ⟨l, hl, h⟩ := withO_inv h
    exact ⟨t, l, rfl, boxO_inv hl, h⟩
@[simp] theorem mt_agg (n : Nat) (l cs : List AV) : mt P objs (n + 1) (.agg l) (.agg cs) = mtW (mt P objs n) l cs := by
  show (∃ l', AV.agg l = .agg l' ∧ mtW (mt P objs n) l' cs) = _
  apply propext
  exact ⟨fun ⟨_, h, h'⟩ => by cases h; exact h', fun h => ⟨l, rfl, h⟩⟩
@[simp] theorem mt_tup (n : Nat) (l cs : List AV) : mt P objs (n + 1) (.tup l) (.tup cs) = mtW (mt P objs n) l cs := by
  show (∃ l', AV.tup l = .tup l' ∧ mtW (mt P objs n) l' cs) = _
  apply propext
  exact ⟨fun ⟨_, h, h'⟩ => by cases h; exact h', fun h => ⟨l, rfl, h⟩⟩
@[simp] theorem mt_pv (n : Nat) (x : AV) (p : PV) : mt P objs (n + 1) x (.pv p) = (x = .pv p) := nr rfl
@[simp] theorem mt_rp (n : Nat) (x : AV) (cs : List PV) : mt P objs (n + 1) x (.rp cs) = (x = .rp cs) := nr rfl
@[simp] theorem tg_own (n t : Nat) : tg objs (n + 1) (.own t) = [t] := nr rfl
@[simp] theorem tg_sub (n t : Nat) (e : TypeId) (lo hi : Nat) : tg objs (n + 1) (.sub t e lo hi) = [t] := nr rfl
@[simp] theorem tg_ptr (n t : Nat) : tg objs (n + 1) (.ptr t 0) = t :: ((boxO (objs t)).getD []).flatMap (tg objs n) := nr rfl
@[simp] theorem tg_agg (n : Nat) (cs : List AV) : tg objs (n + 1) (.agg cs) = cs.flatMap (tg objs n) := nr rfl
@[simp] theorem tg_tup (n : Nat) (cs : List AV) : tg objs (n + 1) (.tup cs) = cs.flatMap (tg objs n) := nr rfl
@[simp] theorem tg_pv (n : Nat) (p : PV) : tg objs (n + 1) (.pv p) = [] := nr rfl
@[simp] theorem tg_rp (n : Nat) (cs : List PV) : tg objs (n + 1) (.rp cs) = [] := nr rfl
@[simp] theorem tg_junk (n : Nat) : tg objs (n + 1) .junk = [] := nr rfl
end
@[simp] theorem unT_tup (y : AV) : unT (.tup [y]) = y := nr rfl
@[simp] theorem isT_tup (y : AV) : isT (.tup [y]) = true := nr rfl

/-! ### Tables -/
def tabG (ks : List Nat) (G : List AV → Option (Prop × AV)) (ys : List AV) : Option (Prop × AV) := match ys with
  | [.junk] => some (True, .rp (ks.map fun k : Nat => PV.int .i64 (k : Int)))
  | ys => G ys
def ConTG (P : Program) (f : FuncId) (G : List AV → Option (Prop × AV)) : Prop := ∀ ys φ r, G ys = some (φ, r) → φ → ConG P f ys r
@[simp] theorem tabG_junk (ks : List Nat) (G : List AV → Option (Prop × AV)) : tabG ks G [.junk] = some (True, .rp (ks.map fun k : Nat => PV.int .i64 (k : Int))) := nr rfl
@[simp] theorem tabG_nil (ks : List Nat) (G : List AV → Option (Prop × AV)) : tabG ks G [] = G [] := nr rfl
@[simp] theorem tabG_pv (ks : List Nat) (G : List AV → Option (Prop × AV)) (q : PV) (l : List AV) : tabG ks G (.pv q :: l) = G (.pv q :: l) := nr rfl
@[simp] theorem tabG_fr (ks : List Nat) (G : List AV → Option (Prop × AV)) (e : TypeId) (rows : List (List PV)) (l : List AV) : tabG ks G (.fr e rows :: l) = G (.fr e rows :: l) := nr rfl
@[simp] theorem tabG_tup (ks : List Nat) (G : List AV → Option (Prop × AV)) (q l : List AV) : tabG ks G (.tup q :: l) = G (.tup q :: l) := nr rfl
@[simp] theorem tabG_agg (ks : List Nat) (G : List AV → Option (Prop × AV)) (q l : List AV) : tabG ks G (.agg q :: l) = G (.agg q :: l) := nr rfl
@[simp] theorem tabG_bx (ks : List Nat) (G : List AV → Option (Prop × AV)) (q l : List AV) : tabG ks G (.bx q :: l) = G (.bx q :: l) := nr rfl
@[simp] theorem tabG_mf (ks : List Nat) (G : List AV → Option (Prop × AV)) (q : List (PV × PV)) (l : List AV) : tabG ks G (.mf q :: l) = G (.mf q :: l) := nr rfl
@[simp] theorem tabG_rp (ks : List Nat) (G : List AV → Option (Prop × AV)) (q : List PV) (l : List AV) : tabG ks G (.rp q :: l) = G (.rp q :: l) := nr rfl
@[simp] theorem tabG_clo (ks : List Nat) (G : List AV → Option (Prop × AV)) (f : FuncId) (q l : List AV) : tabG ks G (.clo f q :: l) = G (.clo f q :: l) := nr rfl

@[simp ↓] theorem gt_eq (Γ : Tab) (f : FuncId) (ys : List AV) : gt Γ f ys = gtO (Γ f ys) (Γ (f + 3000000) ys) := rfl
@[congr] theorem gtO_congr {a a' b : Option (Prop × AV)} (h : True → a = a') : gtO a b = gtO a' b := by rw [h trivial]
@[simp ↓] theorem gtO_some (x : Prop × AV) (y : Option (Prop × AV)) : gtO (some x) y = some (x.1 ∧ trR x.2 = false, x.2) := rfl
@[simp ↓] theorem gtO_none (y : Option (Prop × AV)) : gtO none y = y.map fun x => (x.1 ∧ trR x.2 = true, x.2) := rfl

end Go.Proofs.Ythblkhafehanfaa.Ab.R
