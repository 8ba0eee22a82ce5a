/- How the abstract machine reckons: the end of a function; loops; tables of contracts. -/
import Derived.Test.YthblkhafehanfaaAg5
namespace Go.Proofs.Ythblkhafehanfaa.Ab.R
open Go Go.RowKit
set_option linter.unusedVariables false

section
variable {P : Program} {Γ : Tab} {vs : List (Nat × AV)} {os : List (Nat × AO)} {K : St → Prop} {rs : List (Nat × Option (Option Nat))} {r : AV} {objs : Nat → Option AO} {C : List AV → Prop}
@[simp ↓] theorem retJ_ret : retJ K .ret ⟨look vs, lookO os⟩ = K ⟨look vs, lookO os⟩ := rfl
@[simp ↓] theorem retJ_exit {id : Nat} : retJ K (.exit id) ⟨look vs, lookO os⟩ = False := rfl
@[simp ↓] theorem Ends_eq {r : AV} : Ends P rs r ⟨look vs, lookO os⟩ = resVals ⟨look vs, lookO os⟩ rs fun xs => EndsK P rs r (shareT (pubs (tupleOf xs) r) ⟨look vs, lookO os⟩) := rfl
@[congr] theorem EndsK_congr {st st' : St} {r : AV} (h : True → st = st') : EndsK P rs r st = EndsK P rs r st' := by rw [h trivial]
@[simp ↓] theorem EndsU_eq {r : AV} {hout : List (Nat × AO)} : EndsU P rs r hout ⟨look vs, lookO os⟩ = resVals ⟨look vs, lookO os⟩ rs fun xs => EndsKU P rs r hout (shareT (pubs (tupleOf xs) r) ⟨look vs, lookO os⟩) := rfl
@[congr] theorem EndsKU_congr {st st' : St} {r : AV} {hout : List (Nat × AO)} (h : True → st = st') : EndsKU P rs r hout st = EndsKU P rs r hout st' := by rw [h trivial]
@[simp ↓] theorem EndsKU_eq {r : AV} {hout : List (Nat × AO)} : EndsKU P rs r hout ⟨look vs, lookO os⟩ = resVals ⟨look vs, lookO os⟩ rs fun xs => fz P (lookO os) (tupleOf xs) r ∧ apartL (pl (tupleOf xs)) ∧ backOK (lookO os) (pl (tupleOf xs)) hout := rfl
@[simp] theorem backOK_nil (l : List (Nat × Nat)) : backOK objs l [] = True := nr rfl
@[simp] theorem backOK_cons (l : List (Nat × Nat)) (x : Nat × AO) (hout : List (Nat × AO)) : backOK objs l (x :: hout) = (objs x.1 = some x.2 ∧ (∀ y ∈ l, y.2 ≠ x.1) ∧ backOK objs l hout) := nr rfl
@[simp] theorem mkA_fr (e : TypeId) (rows : List (List PV)) : mkA (.fr e rows) = .own 998 := nr rfl
@[simp] theorem mkA_tup (e : TypeId) (rows : List (List PV)) : mkA (.tup [.fr e rows]) = .own 999 := nr rfl
@[simp] theorem mkA_pv (p : PV) : mkA (.pv p) = .pv p := nr rfl
@[simp] theorem mkA_agg (l : List AV) : mkA (.agg l) = .agg l := nr rfl
@[simp] theorem mkA_rp (l : List PV) : mkA (.rp l) = .rp l := nr rfl
@[simp] theorem mkA_clo (f : FuncId) (l : List AV) : mkA (.clo f l) = .clo f l := nr rfl
@[simp] theorem mkO_nil : mkO [] = [] := nr rfl
@[simp] theorem mkO_fr (e : TypeId) (rows : List (List PV)) (l : List AV) : mkO (.fr e rows :: l) = [(998, .arr e rows)] := nr rfl
@[simp] theorem mkO_tup (e : TypeId) (rows : List (List PV)) (l : List AV) : mkO (.tup [.fr e rows] :: l) = [(999, .arr e rows)] := nr rfl
@[simp] theorem mkO_pv (p : PV) (l : List AV) : mkO (.pv p :: l) = mkO l := nr rfl
@[simp] theorem mkO_agg (cs l : List AV) : mkO (.agg cs :: l) = mkO l := nr rfl
@[simp] theorem mkO_clo (f : FuncId) (cs l : List AV) : mkO (.clo f cs :: l) = mkO l := nr rfl
@[simp] theorem mkO_rp (cs : List PV) (l : List AV) : mkO (.rp cs :: l) = mkO l := nr rfl
@[simp ↓] theorem EndsK_eq {r : AV} : EndsK P rs r ⟨look vs, lookO os⟩ = resVals ⟨look vs, lookO os⟩ rs fun xs => fz P (lookO os) (tupleOf xs) r ∧ apartL (pl (tupleOf xs)) := rfl
@[simp ↓] theorem EndsG_eq {L : List AV} {x : AV} : EndsG P rs L x ⟨look vs, lookO os⟩ = resVals ⟨look vs, lookO os⟩ rs fun xs => EndsKG P rs L x (shareT (pubs (tupleOf xs) (retG x)) ⟨look vs, lookO os⟩) := rfl
@[simp ↓] theorem EndsKG_eq {L : List AV} {x : AV} : EndsKG P rs L x ⟨look vs, lookO os⟩ = resVals ⟨look vs, lookO os⟩ rs fun xs => mt P (lookO os) 6 (tupleOf xs) (retG x) ∧ mtW (mt P (lookO os) 5) L (outG x) ∧ (L.flatMap (tg (lookO os) 5) ++ tg (lookO os) 6 (tupleOf xs)).Nodup := rfl
@[simp] theorem flagG_eq {f : FuncId} : flagG Γ f = (Γ (f + 2000000) [.junk]).bind fun x => ksOf x.2 := nr rfl
@[simp] theorem killO_map (t : Nat) (es : List (PV × AV)) : killO t (.map es) = .map es := nr rfl
@[simp] theorem killO_mpv (t : Nat) (es : List (PV × PV)) : killO t (.mpv es) = .mpv es := nr rfl
@[simp] theorem killO_itr (t : Nat) (r : List (PV × PV)) (c : Option (PV × PV)) : killO t (.itr r c) = .itr r c := nr rfl
@[simp] theorem ev_pnil (vars : Nat → AV) : ev vars (.const (.pointer none)) = .pv (.val (.pointer none)) := nr rfl
@[simp] theorem pubs_ptr (t o : Nat) (r : AV) : pubs (.ptr t o) r = [] := by cases r <;> rfl
@[simp] theorem pub1_ptr (t o : Nat) (r : AV) : pub1 (.ptr t o) r = [] := by cases r <;> rfl
@[simp] theorem pubC_ptr (t o : Nat) (r : AV) : pubC (.ptr t o) r = [] := by cases r <;> rfl
@[simp] theorem all_or {k : Nat} {o : AO} {R : Nat → AO → Prop} {p : Nat → AO → Prop} : (∀ a b, a = k ∧ b = o ∨ R a b → p a b) = (p k o ∧ ∀ a b, R a b → p a b) :=
  propext ⟨fun h => ⟨h k o (.inl ⟨rfl, rfl⟩), fun a b r => h a b (.inr r)⟩, fun h a b r => by
    rcases r with ⟨rfl, rfl⟩ | r
    · exact h.1
    · exact h.2 a b r⟩
@[simp] theorem all_one {k : Nat} {o : AO} {p : Nat → AO → Prop} : (∀ a b, a = k ∧ b = o → p a b) = p k o :=
  propext ⟨fun h => h k o ⟨rfl, rfl⟩, fun h a b ⟨h1, h2⟩ => by subst h1 h2; exact h⟩
@[simp] theorem lent_nil {α : Type} (l : List α) : lent [] l = [] := nr rfl
@[simp] theorem lent_tup {α : Type} (y : AV) (ys : List AV) (v : α) (l : List α) : lent (.tup [y] :: ys) (v :: l) = v :: lent ys l := nr rfl
@[simp] theorem lent_pv {α : Type} (p : PV) (ys : List AV) (v : α) (l : List α) : lent (.pv p :: ys) (v :: l) = lent ys l := nr rfl
@[simp] theorem lent_agg {α : Type} (cs ys : List AV) (v : α) (l : List α) : lent (.agg cs :: ys) (v :: l) = lent ys l := nr rfl
@[simp] theorem lent_rp {α : Type} (cs : List PV) (ys : List AV) (v : α) (l : List α) : lent (.rp cs :: ys) (v :: l) = lent ys l := nr rfl
@[simp] theorem lent_clo {α : Type} (f : FuncId) (cs ys : List AV) (v : α) (l : List α) : lent (.clo f cs :: ys) (v :: l) = lent ys l := nr rfl
@[simp] theorem lent_bx {α : Type} (cs ys : List AV) (v : α) (l : List α) : lent (.bx cs :: ys) (v :: l) = lent ys l := nr rfl
@[simp] theorem lent_mf {α : Type} (es : List (PV × PV)) (ys : List AV) (v : α) (l : List α) : lent (.mf es :: ys) (v :: l) = lent ys l := nr rfl
@[simp] theorem lent_fr {α : Type} (e : TypeId) (rows : List (List PV)) (ys : List AV) (v : α) (l : List α) : lent (.fr e rows :: ys) (v :: l) = lent ys l := nr rfl
@[simp] theorem topOK_own (t : Nat) : topOK (.own t) = true := nr rfl
@[simp] theorem topOK_ptr (t : Nat) : topOK (.ptr t 0) = true := nr rfl
@[simp] theorem topOK_pv (p : PV) : topOK (.pv p) = true := nr rfl
@[simp] theorem topOK_rp (cs : List PV) : topOK (.rp cs) = true := nr rfl
@[simp] theorem topOK_agg (cs : List AV) : topOK (.agg cs) = cs.all topK := nr rfl
@[simp] theorem topK_own (t : Nat) : topK (.own t) = true := nr rfl
@[simp] theorem topK_ptr (t : Nat) : topK (.ptr t 0) = true := nr rfl
@[simp] theorem topK_pv (p : PV) : topK (.pv p) = true := nr rfl
@[simp] theorem topK_rp (cs : List PV) : topK (.rp cs) = true := nr rfl
@[simp] theorem pubs_tup (vs rs : List AV) : pubs (.tup vs) (.tup rs) = pubVs vs rs := nr rfl
@[simp] theorem pubs_agg (vs : List AV) (r : AV) : pubs (.agg vs) r = pub1 (.agg vs) r := by cases r <;> rfl
@[simp] theorem pubs_pv (p : PV) (r : AV) : pubs (.pv p) r = pubC (.pv p) r := by cases r <;> rfl
@[simp] theorem pubs_rp (p : List PV) (r : AV) : pubs (.rp p) r = [] := by cases r <;> rfl
@[simp] theorem pubs_own_fr (t : Nat) (e : TypeId) (rows : List (List PV)) : pubs (.own t) (.fr e rows) = [] := nr rfl
@[simp] theorem pubs_own_ro (t : Nat) (rows : List (List PV)) : pubs (.own t) (.pv (.ro rows)) = [t] := nr rfl
@[simp] theorem pubVs_nil : pubVs [] [] = [] := nr rfl
@[simp] theorem pubVs_cons (c r : AV) (cs rs : List AV) : pubVs (c :: cs) (r :: rs) = pub1 c r ++ pubVs cs rs := nr rfl
@[simp] theorem pubCs_nil : pubCs [] [] = [] := nr rfl
@[simp] theorem pubCs_cons (c r : AV) (cs rs : List AV) : pubCs (c :: cs) (r :: rs) = pubC c r ++ pubCs cs rs := nr rfl
@[simp] theorem pub1_agg (cs rs : List AV) : pub1 (.agg cs) (.agg rs) = pubCs cs rs := nr rfl
@[simp] theorem pub1_pv (p : PV) (r : AV) : pub1 (.pv p) r = pubC (.pv p) r := by cases r <;> rfl
@[simp] theorem pub1_rp (p : List PV) (r : AV) : pub1 (.rp p) r = [] := by cases r <;> rfl
@[simp] theorem pub1_own (t : Nat) (r : AV) : pub1 (.own t) r = pubC (.own t) r := by cases r <;> rfl
@[simp] theorem pubC_own_fr (t : Nat) (e : TypeId) (rows : List (List PV)) : pubC (.own t) (.fr e rows) = [] := nr rfl
@[simp] theorem pubC_own_ro (t : Nat) (rows : List (List PV)) : pubC (.own t) (.pv (.ro rows)) = [t] := nr rfl
@[simp] theorem pubC_nilro (rows : List (List PV)) : pubC (.pv .nil) (.pv (.ro rows)) = [999996] := nr rfl
@[simp] theorem pubC_same (p : PV) : pubC (.pv p) (.pv p) = [] := by cases p <;> rfl
@[simp] theorem pubC_lint (k : IntKind) (n : Int) (r : AV) : pubC (.pv (.int k n)) r = [] := by cases r <;> rfl
@[simp] theorem pubC_rint (p : PV) (k : IntKind) (n : Int) : pubC (.pv p) (.pv (.int k n)) = [] := by cases p <;> rfl
@[simp] theorem pubC_lbool (b : Bool) (r : AV) : pubC (.pv (.bool b)) r = [] := by cases r <;> rfl
@[simp] theorem pubC_rbool (p : PV) (b : Bool) : pubC (.pv p) (.pv (.bool b)) = [] := by cases p <;> rfl
@[simp] theorem pubC_lstr (l : List UInt8) (r : AV) : pubC (.pv (.str l)) r = [] := by cases r <;> rfl
@[simp] theorem pubC_rstr (p : PV) (l : List UInt8) : pubC (.pv p) (.pv (.str l)) = [] := by cases p <;> rfl
@[simp] theorem pubC_lval (v : Value) (r : AV) : pubC (.pv (.val v)) r = [] := by cases r <;> rfl
@[simp] theorem pubC_rval (p : PV) (v : Value) : pubC (.pv p) (.pv (.val v)) = [] := by cases p <;> rfl
@[simp] theorem pubC_lmp (l : List PV) (r : AV) : pubC (.pv (.mp l)) r = [] := by cases r <;> rfl
@[simp] theorem pubC_rmp (p : PV) (l : List PV) : pubC (.pv p) (.pv (.mp l)) = [] := by cases p <;> rfl
@[simp] theorem pubC_lmv (l : List (PV × PV)) (r : AV) : pubC (.pv (.mv l)) r = [] := by cases r <;> rfl
@[simp] theorem pubC_rmv (p : PV) (l : List (PV × PV)) : pubC (.pv p) (.pv (.mv l)) = [] := by cases p <;> rfl
@[simp] theorem pubC_lpt (l : List PV) (r : AV) : pubC (.pv (.pt l)) r = [] := by cases r <;> rfl
@[simp] theorem pubC_rpt (p : PV) (l : List PV) : pubC (.pv p) (.pv (.pt l)) = [] := by cases p <;> rfl
@[simp] theorem pubC_lro (l : List (List PV)) (r : AV) : pubC (.pv (.ro l)) r = [] := by cases r <;> rfl
@[simp] theorem pubC_rnil (p : PV) : pubC (.pv p) (.pv .nil) = [] := by cases p <;> rfl
@[simp] theorem pubC_rfr (p : PV) (e : TypeId) (rows : List (List PV)) : pubC (.pv p) (.fr e rows) = [] := by cases p <;> rfl
@[simp] theorem pubC_ragg (p : PV) (cs : List AV) : pubC (.pv p) (.agg cs) = [] := by cases p <;> rfl
@[simp] theorem pubC_rtup (p : PV) (cs : List AV) : pubC (.pv p) (.tup cs) = [] := by cases p <;> rfl
@[simp] theorem pubC_rbx (p : PV) (cs : List AV) : pubC (.pv p) (.bx cs) = [] := by cases p <;> rfl
@[simp] theorem pubC_rmf (p : PV) (cs) : pubC (.pv p) (.mf cs) = [] := by cases p <;> rfl
@[simp] theorem pubC_rclo (p : PV) (f) (cs) : pubC (.pv p) (.clo f cs) = [] := by cases p <;> rfl
@[simp] theorem pubC_rrp (p : PV) (cs) : pubC (.pv p) (.rp cs) = [] := by cases p <;> rfl
@[simp] theorem pubC_rp (p : List PV) (r : AV) : pubC (.rp p) r = [] := by cases r <;> rfl
@[congr] theorem resVals_congr {st st' : St} {C : List AV → Prop} (h : True → st = st') : resVals st rs C = resVals st' rs C := by rw [h trivial]
@[simp ↓] theorem resVals_nil : resVals ⟨look vs, lookO os⟩ [] C = C [] := rfl
@[simp ↓] theorem resVals_tmp {t : Nat} : resVals ⟨look vs, lookO os⟩ ((t, none) :: rs) C = resVals ⟨look vs, lookO os⟩ rs fun xs => C (look vs t :: xs) := rfl
@[simp ↓] theorem resVals_cell {t : Nat} {n : Option Nat} : resVals ⟨look vs, lookO os⟩ ((t, some n) :: rs) C = withO (semQ (.load n) [look vs t] (lookO os)) fun x => x.1 ∧ resVals ⟨look vs, lookO os⟩ rs fun xs => C (x.2 :: xs) := rfl
@[simp] theorem tupleOf_nil : tupleOf [] = .tup [] := nr rfl
@[simp] theorem tupleOf_one (v : AV) : tupleOf [v] = v := nr rfl
@[simp] theorem tupleOf_two (v u : AV) (l : List AV) : tupleOf (v :: u :: l) = .tup (v :: u :: l) := nr rfl
@[simp] theorem argL_nil (i : Nat) : argL i [] = [] := nr rfl
@[simp] theorem argL_cons (i : Nat) (v : AV) (l : List AV) : argL i (v :: l) = (i, v) :: argL (i + 1) l := nr rfl

@[simp] theorem fzC_own (t : Nat) (e : TypeId) (rows : List (List PV)) : fzC P objs (.own t) (.fr e rows) = (objs t = some (.arr e rows)) := by
  apply propext; constructor
  · rintro (⟨s, h, h2⟩ | ⟨h, _⟩ | ⟨_, _, _, h, _⟩)
    · cases h; exact h2
    · cases h
    · cases h
  · exact fun h => .inl ⟨t, rfl, h⟩
@[simp] theorem fzC_sub (t : Nat) (e e1 : TypeId) (hi : Nat) (rows : List (List PV)) : fzC P objs (.sub t e1 0 hi) (.fr e rows) = (e1 = e ∧ ∃ rs, objs t = some (.arr e rs) ∧ rows = rs.take hi) := by
  apply propext; constructor
  · rintro (⟨s, h, h2⟩ | ⟨h, _⟩ | ⟨s, hi', rs, h, h2, h3⟩)
    · cases h
    · cases h
    · cases h; exact ⟨rfl, rs, h2, h3⟩
  · rintro ⟨rfl, rs, h2, h3⟩; exact .inr (.inr ⟨t, hi, rs, rfl, h2, h3⟩)
@[simp] theorem fz1_sub (t : Nat) (e : TypeId) (lo hi : Nat) (r : AV) : fz1 P objs (.sub t e lo hi) r = fzC P objs (.sub t e lo hi) r := nr rfl
@[simp] theorem fz_sub (t : Nat) (e : TypeId) (lo hi : Nat) (r : AV) : fz P objs (.sub t e lo hi) r = fzC P objs (.sub t e lo hi) r := nr rfl
@[simp] theorem pubs_sub (t : Nat) (e : TypeId) (lo hi : Nat) (r : AV) : pubs (.sub t e lo hi) r = [] := by cases r <;> rfl
@[simp] theorem pub1_sub (t : Nat) (e : TypeId) (lo hi : Nat) (r : AV) : pub1 (.sub t e lo hi) r = [] := by cases r <;> rfl
@[simp] theorem pubC_sub (t : Nat) (e : TypeId) (lo hi : Nat) (r : AV) : pubC (.sub t e lo hi) r = [] := by cases r <;> rfl
@[simp] theorem fzC_nil (e : TypeId) (rows : List (List PV)) : fzC P objs (.pv .nil) (.fr e rows) = (rows = [] ∧ (P.info? e).isSome = true) := by
  apply propext; constructor
  · rintro (⟨s, h, h2⟩ | ⟨_, h⟩ | ⟨_, _, _, h, _⟩)
    · cases h
    · exact h
    · cases h
  · exact fun h => .inr (.inl ⟨rfl, h⟩)
@[simp] theorem fzC_pv (p q : PV) : fzC P objs (.pv p) (.pv q) = (p = q) := by
  apply propext; constructor
  · rintro ⟨h, _⟩; cases h; rfl
  · rintro rfl; exact ⟨rfl, rfl⟩
@[simp] theorem fzC_rp (p q : List PV) : fzC P objs (.rp p) (.rp q) = (p = q) := by
  apply propext; constructor
  · rintro ⟨h, _⟩; cases h; rfl
  · rintro rfl; exact ⟨rfl, rfl⟩
@[simp] theorem fzCs_nil : fzCs P objs [] [] = True := nr rfl
@[simp] theorem fzCs_cons (c d : AV) (cs ds : List AV) : fzCs P objs (c :: cs) (d :: ds) = (fzC P objs c d ∧ fzCs P objs cs ds) := nr rfl
@[simp] theorem fz1_agg (cs ds : List AV) : fz1 P objs (.agg cs) (.agg ds) = fzCs P objs cs ds := nr rfl
@[simp] theorem fz1_pv (p : PV) (r : AV) : fz1 P objs (.pv p) r = fzC P objs (.pv p) r := nr rfl
@[simp] theorem fz1_own (t : Nat) (r : AV) : fz1 P objs (.own t) r = fzC P objs (.own t) r := nr rfl
@[simp] theorem fz1_rp (t : List PV) (r : AV) : fz1 P objs (.rp t) r = fzC P objs (.rp t) r := nr rfl
@[simp] theorem fzVs_nil : fzVs P objs [] [] = True := nr rfl
@[simp] theorem fzVs_cons (c d : AV) (cs ds : List AV) : fzVs P objs (c :: cs) (d :: ds) = (fz1 P objs c d ∧ fzVs P objs cs ds) := nr rfl
@[simp] theorem fz_tup (cs ds : List AV) : fz P objs (.tup cs) (.tup ds) = (cs.length ≤ 1000 ∧ fzVs P objs cs ds) := nr rfl
@[simp] theorem fz_agg (cs : List AV) (r : AV) : fz P objs (.agg cs) r = fz1 P objs (.agg cs) r := nr rfl
@[simp] theorem fz_pv (p : PV) (r : AV) : fz P objs (.pv p) r = fzC P objs (.pv p) r := nr rfl
@[simp] theorem fz_own (t : Nat) (r : AV) : fz P objs (.own t) r = fzC P objs (.own t) r := nr rfl
@[simp] theorem fz_rp (t : List PV) (r : AV) : fz P objs (.rp t) r = fzC P objs (.rp t) r := nr rfl
@[simp] theorem plCs_nil (j : Nat) : plCs j [] = [] := nr rfl
@[simp] theorem plCs_own (j t : Nat) (cs : List AV) : plCs j (.own t :: cs) = (1000 * j, t) :: plCs (j + 1) cs := nr rfl
@[simp] theorem plCs_sub (j t : Nat) (e : TypeId) (lo hi : Nat) (cs : List AV) : plCs j (.sub t e lo hi :: cs) = (1000 * j, t) :: plCs (j + 1) cs := nr rfl
@[simp] theorem pl1_sub (t : Nat) (e : TypeId) (lo hi : Nat) : pl1 (.sub t e lo hi) = [(0, t)] := nr rfl
@[simp] theorem pl_sub (t : Nat) (e : TypeId) (lo hi : Nat) : pl (.sub t e lo hi) = [(0, t)] := nr rfl
@[simp] theorem plCs_pv (j : Nat) (p : PV) (cs : List AV) : plCs j (.pv p :: cs) = plCs (j + 1) cs := nr rfl
@[simp] theorem plCs_rp (j : Nat) (p : List PV) (cs : List AV) : plCs j (.rp p :: cs) = plCs (j + 1) cs := nr rfl
@[simp] theorem pl1_agg (cs : List AV) : pl1 (.agg cs) = plCs 0 cs := nr rfl
@[simp] theorem pl1_own (t : Nat) : pl1 (.own t) = [(0, t)] := nr rfl
@[simp] theorem pl1_pv (p : PV) : pl1 (.pv p) = [] := nr rfl
@[simp] theorem pl1_rp (p : List PV) : pl1 (.rp p) = [] := nr rfl
@[simp] theorem plVs_nil (i : Nat) : plVs i [] = [] := nr rfl
@[simp] theorem plVs_cons (i : Nat) (v : AV) (vs : List AV) : plVs i (v :: vs) = (pl1 v).map (fun x => (x.1 + i, x.2)) ++ plVs (i + 1) vs := nr rfl
@[simp] theorem pl_tup (vs : List AV) : pl (.tup vs) = plVs 0 vs := nr rfl
@[simp] theorem pl_agg (cs : List AV) : pl (.agg cs) = plCs 0 cs := nr rfl
@[simp] theorem pl_own (t : Nat) : pl (.own t) = [(0, t)] := nr rfl
@[simp] theorem pl_pv (p : PV) : pl (.pv p) = [] := nr rfl
@[simp] theorem pl_rp (p : List PV) : pl (.rp p) = [] := nr rfl
@[simp] theorem apartL_nil : apartL [] = True := nr rfl
@[simp] theorem apartL_cons (x : Nat × Nat) (l : List (Nat × Nat)) : apartL (x :: l) = ((∀ y ∈ l, y.2 ≠ x.2) ∧ apartL l) := nr rfl
end


section
variable {P : Program} {Γ : Tab} {vs : List (Nat × AV)} {os : List (Nat × AO)} {st : St} {ad : List Nat}
theorem vwp_loopS {K : St → Prop} {J : Exit → St → Prop} {a : AC} {α : Type} (I : α → Prop) (F : α → Fr) (μ : α → Nat) (ad shs : List Nat) (x0 : α) (hI : I x0) (h0 : wk P ad (shareT shs st) (F x0))
    (hr : ∀ x, I x → vwp P Γ a (fun st' => ∃ x', I x' ∧ wk P [] (shareT shs st') (F x') ∧ μ x' < μ x) J (F x).st) : vwp P Γ (.loop a) K J st := by
  refine ⟨{ x : α // I x }, fun x => F x.1, fun x => μ x.1, ad, shs, ⟨x0, hI⟩, h0, fun x => ?_⟩
  have hK : (fun st' => ∃ i' : { x : α // I x }, wk P [] (shareT shs st') (F i'.1) ∧ μ i'.1 < μ x.1) = fun st' => ∃ x', I x' ∧ wk P [] (shareT shs st') (F x') ∧ μ x' < μ x.1 := by
    funext st'
    apply propext
    constructor
    · rintro ⟨⟨y, hy⟩, h⟩; exact ⟨y, hy, h⟩
    · rintro ⟨y, hy, h⟩; exact ⟨⟨y, hy⟩, h⟩
  show vwp P Γ a (fun st' => ∃ i' : { x : α // I x }, wk P [] (shareT shs st') (F i'.1) ∧ μ i'.1 < μ x.1) J (F x.1).st
  rw [hK]
  exact hr x.1 x.2
theorem vwp_loop {K : St → Prop} {J : Exit → St → Prop} {a : AC} {α : Type} (I : α → Prop) (F : α → Fr) (μ : α → Nat) (ad : List Nat) (x0 : α) (hI : I x0) (h0 : wk P ad st (F x0))
    (hr : ∀ x, I x → vwp P Γ a (fun st' => ∃ x', I x' ∧ wk P [] st' (F x') ∧ μ x' < μ x) J (F x).st) : vwp P Γ (.loop a) K J st :=
  vwp_loopS I F μ ad [] x0 hI h0 hr
@[simp] theorem shareT_nil (st : St) : shareT [] st = st := nr rfl
@[simp] theorem shareT_cons (t : Nat) (l : List Nat) (st : St) : shareT (t :: l) st = shareT l (sharT1 t st) := nr rfl
@[simp] theorem sharT1_eq (t : Nat) (st : St) : sharT1 t st = if t = 999996 then nilRo st else share1 st (.own t) := nr rfl
def nilMO : List (Nat × AO) → List (Nat × AO)
  | [] => []
  | x :: l => (x.1, nilO x.2) :: nilMO l
@[simp] theorem nilMO_nil : nilMO [] = [] := nr rfl
@[simp] theorem nilMO_cons (t : Nat) (o : AO) (l : List (Nat × AO)) : nilMO ((t, o) :: l) = (t, nilO o) :: nilMO l := nr rfl
@[simp] theorem nilRo_eq (vs : List (Nat × AV)) (os : List (Nat × AO)) : nilRo ⟨look vs, lookO os⟩ = ⟨look (vs.map fun x => (x.1, nilV x.2)), lookO (nilMO os)⟩ := by
  unfold nilRo
  congr 1
  · funext s
    induction vs with
    | nil => rfl
    | cons x l ih =>
      obtain ⟨k, v⟩ := x
      simp only [List.map_cons, look]
      split <;> simp_all
  · funext s
    induction os with
    | nil => rfl
    | cons x l ih =>
      obtain ⟨k, v⟩ := x
      simp only [nilMO_cons, lookO]
      split <;> simp_all
@[simp] theorem nilV_agg (cs : List AV) : nilV (.agg cs) = .agg (nilCs cs) := nr rfl
@[simp] theorem nilV_pv (p : PV) : nilV (.pv p) = .pv (nilP p) := nr rfl
@[simp] theorem nilV_own (t : Nat) : nilV (.own t) = .own t := nr rfl
@[simp] theorem nilV_ptr (t o : Nat) : nilV (.ptr t o) = .ptr t o := nr rfl
@[simp] theorem nilV_rp (cs : List PV) : nilV (.rp cs) = .rp cs := nr rfl
@[simp] theorem nilV_tup (cs : List AV) : nilV (.tup cs) = .tup cs := nr rfl
@[simp] theorem nilV_junk : nilV .junk = .junk := nr rfl
@[simp] theorem nilV_clo (f : FuncId) (cs : List AV) : nilV (.clo f cs) = .clo f cs := nr rfl
@[simp] theorem nilV_cnd (g : Bool) (v : AV) : nilV (.cnd g v) = .cnd g v := nr rfl
@[simp] theorem nilCs_nil : nilCs [] = [] := nr rfl
@[simp] theorem nilCs_cons (c : AV) (cs : List AV) : nilCs (c :: cs) = nilC c :: nilCs cs := nr rfl
@[simp] theorem nilC_pv (p : PV) : nilC (.pv p) = .pv (nilP p) := nr rfl
@[simp] theorem nilC_own (t : Nat) : nilC (.own t) = .own t := nr rfl
@[simp] theorem nilC_ptr (t o : Nat) : nilC (.ptr t o) = .ptr t o := nr rfl
@[simp] theorem nilC_rp (cs : List PV) : nilC (.rp cs) = .rp cs := nr rfl
@[simp] theorem nilC_junk : nilC .junk = .junk := nr rfl
@[simp] theorem nilC_clo (f : FuncId) (cs : List AV) : nilC (.clo f cs) = .clo f cs := nr rfl
@[simp] theorem nilP_nil : nilP .nil = .ro [] := nr rfl
@[simp] theorem nilP_ro (l : List (List PV)) : nilP (.ro l) = .ro l := nr rfl
@[simp] theorem nilP_int (k : IntKind) (n : Int) : nilP (.int k n) = .int k n := nr rfl
@[simp] theorem nilP_bool (b : Bool) : nilP (.bool b) = .bool b := nr rfl
@[simp] theorem nilP_str (l : List UInt8) : nilP (.str l) = .str l := nr rfl
@[simp] theorem nilP_val (v : Value) : nilP (.val v) = .val v := nr rfl
@[simp] theorem nilP_mp (l : List PV) : nilP (.mp l) = .mp l := nr rfl
@[simp] theorem nilP_mv (l : List (PV × PV)) : nilP (.mv l) = .mv l := nr rfl
@[simp] theorem nilP_pt (l : List PV) : nilP (.pt l) = .pt l := nr rfl
@[simp] theorem nilO_box (cs : List AV) : nilO (.box cs) = .box (nilCs cs) := nr rfl
@[simp] theorem nilO_arr (e : TypeId) (rows : List (List PV)) : nilO (.arr e rows) = .arr e rows := nr rfl
@[simp] theorem nilO_rws (e : TypeId) (cs : List AV) : nilO (.rws e cs) = .rws e cs := nr rfl
@[simp] theorem nilO_map (es) : nilO (.map es) = .map es := nr rfl
@[simp] theorem nilO_mpv (es) : nilO (.mpv es) = .mpv es := nr rfl
@[simp] theorem nilO_itr (a b) : nilO (.itr a b) = .itr a b := nr rfl

@[simp] theorem wk_eq (vs' : List (Nat × AV)) (os' : List (Nat × AO)) : wk P ad ⟨look vs, lookO os⟩ ⟨vs', os'⟩ = (wkV ad ⟨look vs, lookO os⟩ os' vs' ∧ wkO P ad ⟨look vs, lookO os⟩ os' os') := nr rfl
@[simp] theorem wkV_nil (os' : List (Nat × AO)) : wkV ad ⟨look vs, lookO os⟩ os' [] = True := nr rfl
@[simp] theorem wkV_cons (os' : List (Nat × AO)) (s : Nat) (v : AV) (l : List (Nat × AV)) : wkV ad ⟨look vs, lookO os⟩ os' ((s, v) :: l) =
    ((v = .junk ∨ (look vs s = v ∧ liveV os' v) ∨ (∃ t, v = .own t ∧ ad.contains t = true ∧ dom (lookO os') t ∧ look vs s = .pv .nil)) ∧ wkV ad ⟨look vs, lookO os⟩ os' l) := nr rfl
@[simp] theorem wkO_nil (os' : List (Nat × AO)) : wkO P ad ⟨look vs, lookO os⟩ os' [] = True := nr rfl
@[simp] theorem wkO_cons (os' : List (Nat × AO)) (t : Nat) (o : AO) (l : List (Nat × AO)) : wkO P ad ⟨look vs, lookO os⟩ os' ((t, o) :: l) =
    (((lookO os t = some o ∧ ad.contains t = false ∧ liveO os' o) ∨ (∃ e, o = .arr e [] ∧ ad.contains t = true ∧ lookO os t = none ∧ (P.info? e).isSome = true ∧ t % 1000 ≠ 999)) ∧ wkO P ad ⟨look vs, lookO os⟩ os' l) := nr rfl
@[simp] theorem liveV_agg (cs : List AV) : liveV os (.agg cs) = liveCs os cs := nr rfl
@[simp] theorem liveV_clo (f : FuncId) (cs : List AV) : liveV os (.clo f cs) = liveCs os cs := nr rfl
@[simp] theorem liveV_tup (cs : List AV) : liveV os (.tup cs) = liveCs os cs := nr rfl
@[simp] theorem liveV_cnd (g : Bool) (v : AV) : liveV os (.cnd g v) = liveC os v := nr rfl
@[simp] theorem liveV_pv (p : PV) : liveV os (.pv p) = True := nr rfl
@[simp] theorem liveV_rp (p : List PV) : liveV os (.rp p) = True := nr rfl
@[simp] theorem liveV_junk : liveV os .junk = True := nr rfl
@[simp] theorem liveV_own (t : Nat) : liveV os (.own t) = dom (lookO os) t := nr rfl
@[simp] theorem liveV_ptr (t o : Nat) : liveV os (.ptr t o) = dom (lookO os) t := nr rfl
@[simp] theorem liveV_sub (t : Nat) (e : TypeId) (lo hi : Nat) : liveV os (.sub t e lo hi) = dom (lookO os) t := nr rfl
@[simp] theorem liveC_sub (t : Nat) (e : TypeId) (lo hi : Nat) : liveC os (.sub t e lo hi) = dom (lookO os) t := nr rfl
@[simp] theorem liveV_eptr (t : Nat) (e : TypeId) (i : Int) (o : Nat) : liveV os (.eptr t e i o) = dom (lookO os) t := nr rfl
@[simp] theorem liveC_pv (p : PV) : liveC os (.pv p) = True := nr rfl
@[simp] theorem liveC_rp (p : List PV) : liveC os (.rp p) = True := nr rfl
@[simp] theorem liveC_junk : liveC os .junk = True := nr rfl
@[simp] theorem liveC_own (t : Nat) : liveC os (.own t) = dom (lookO os) t := nr rfl
@[simp] theorem liveC_ptr (t o : Nat) : liveC os (.ptr t o) = dom (lookO os) t := nr rfl
@[simp] theorem liveC_eptr (t : Nat) (e : TypeId) (i : Int) (o : Nat) : liveC os (.eptr t e i o) = dom (lookO os) t := nr rfl
@[simp] theorem liveCs_nil : liveCs os [] = True := nr rfl
@[simp] theorem liveCs_cons (c : AV) (cs : List AV) : liveCs os (c :: cs) = (liveC os c ∧ liveCs os cs) := nr rfl
@[simp] theorem liveO_box (cs : List AV) : liveO os (.box cs) = liveCs os cs := nr rfl
@[simp] theorem liveO_arr (e : TypeId) (rows : List (List PV)) : liveO os (.arr e rows) = True := nr rfl
@[simp] theorem liveO_rws (e : TypeId) (cs : List AV) : liveO os (.rws e cs) = liveCs os cs := nr rfl
@[simp] theorem liveO_mpv (es : List (PV × PV)) : liveO os (.mpv es) = True := nr rfl
@[simp] theorem liveO_itr (r : List (PV × PV)) (c : Option (PV × PV)) : liveO os (.itr r c) = True := nr rfl
@[simp] theorem liveO_map (es : List (PV × AV)) : liveO os (.map es) = True := nr rfl
@[simp] theorem dom_nil (t : Nat) : dom (lookO []) t = False := by
  apply propext; constructor
  · rintro ⟨o, h⟩; cases h
  · exact False.elim
@[simp] theorem dom_cons (s t : Nat) (o : AO) (l : List (Nat × AO)) : dom (lookO ((s, o) :: l)) t = (t = s ∨ dom (lookO l) t) := by
  apply propext
  unfold dom
  simp only [lookO_cons]
  by_cases h : t = s <;> simp [h]
end


@[simp ↓] theorem semCall_eq {P : Program} {Γ : Tab} {d : Nat} {f : FuncId} {xs : List AV} {objs : Nat → Option AO} {C : Eff → Prop} : semCall P Γ (some d) f xs objs C =
    (asksL xs ∧ withO (reis objs (xs.map strip)) fun ys => withO (gt Γ f ys) fun x => x.1 ∧ (pures (xs.map strip) = true ∨ flatR x.2) ∧ (∀ y ∈ newO d x.2, objs y.1 = none) ∧ resR d x.2 = true ∧ C (.new (newV d x.2) (newO d x.2))) := rfl

/-! ### Tables -/

/-- What a function is known to do. -/
def ConT (P : Program) (f : FuncId) (G : List AV → Option (Prop × AV)) : Prop := ∀ ys φ r, G ys = some (φ, r) → φ → Con P f [] ys [] r
def tab : List (FuncId × (List AV → Option (Prop × AV))) → Tab
  | [] => fun _ _ => none
  | x :: l => fun g ys => if g = x.1 then x.2 ys else tab l g ys
theorem tab_nil {P : Program} : TabOK P (tab []) := fun _ _ _ _ h => by cases h
/-- What a function that writes to a slice that is handed over is known to do: which argument that is, how (998, 999). -/
def tabU (p k : Nat) (G : List AV → Option (Prop × AV)) (ys : List AV) : Option (Prop × AV) := match ys with
  | [.junk] => some (True, .ptr p k)
  | ys => G ys
def ConTU (P : Program) (f : FuncId) (G : List AV → Option (Prop × AV)) : Prop := ∀ ys φ r, G ys = some (φ, r) → φ → ConU P f ys r
theorem tab_consU {P : Program} {f p k : Nat} {G : List AV → Option (Prop × AV)} {l : List (FuncId × (List AV → Option (Prop × AV)))} (h : ConTU P f G) (hP : Nat.ble P.funcs.size 1000000 = true) (hl : TabOK P (tab l)) (hf : Nat.blt f 1000000 = true := by rfl) : TabOK P (tab ((f + 1000000, tabU p k G) :: l)) := by
  intro g ys φ r hg hφ
  simp only [tab] at hg
  split at hg
  · rename_i e
    refine .inr (.inl ⟨Nat.le_of_ble_eq_true hP, by rw [e]; exact Nat.le_add_left _ _, by rw [e]; exact Nat.add_lt_add_right (Nat.le_of_ble_eq_true hf) 1000000, ?_⟩)
    unfold tabU at hg
    split at hg
    · exact .inl rfl
    · right
      rw [show g - 1000000 = f from by rw [e]; exact Nat.add_sub_cancel _ _]
      exact h ys φ r hg hφ
  · exact hl g ys φ r hg hφ
theorem tab_cons {P : Program} {f : FuncId} {G : List AV → Option (Prop × AV)} {l : List (FuncId × (List AV → Option (Prop × AV)))} (h : ConT P f G) (hl : TabOK P (tab l)) (hf : Nat.blt f 1000000 = true := by rfl) : TabOK P (tab ((f, G) :: l)) := by
  intro g ys φ r hg hφ
  simp only [tab] at hg
  split at hg
  · rename_i e; subst e; exact .inl ⟨Nat.le_of_ble_eq_true hf, h ys φ r hg hφ⟩
  · exact hl g ys φ r hg hφ
theorem tab_consG {P : Program} {f : FuncId} {ks : List Nat} {G : List AV → Option (Prop × AV)} {l : List (FuncId × (List AV → Option (Prop × AV)))} (h : ConTG P f G) (hP : Nat.ble P.funcs.size 1000000 = true) (hl : TabOK P (tab l)) (hf : Nat.blt f 1000000 = true := by rfl) : TabOK P (tab ((f + 1000000, tabU 0 996 fun _ => none) :: (f + 2000000, tabG ks G) :: l)) := by
  intro g ys φ r hg hφ
  simp only [tab] at hg
  split at hg
  · rename_i e
    refine .inr (.inl ⟨Nat.le_of_ble_eq_true hP, by rw [e]; exact Nat.le_add_left _ _, by rw [e]; exact Nat.add_lt_add_right (Nat.le_of_ble_eq_true hf) 1000000, ?_⟩)
    unfold tabU at hg
    split at hg
    · exact .inl rfl
    · cases hg
  · split at hg
    · rename_i e
      refine .inr (.inr (.inl ⟨Nat.le_of_ble_eq_true hP, by rw [e]; exact Nat.le_add_left _ _, by rw [e]; exact Nat.add_lt_add_right (Nat.le_of_ble_eq_true hf) 2000000, ?_⟩))
      unfold tabG at hg
      split at hg
      · exact .inl rfl
      · right
        rw [show g - 2000000 = f from by rw [e]; exact Nat.add_sub_cancel _ _]
        exact h ys φ r hg hφ
    · exact hl g ys φ r hg hφ
/-- A plain call whose result brings boxes, or maps. -/
def ConTR (P : Program) (f : FuncId) (G : List AV → Option (Prop × AV)) : Prop := ∀ ys φ r, G ys = some (φ, r) → φ → ConG P f ys (.clo 0 [r])
theorem tab_consR {P : Program} {f : FuncId} {G : List AV → Option (Prop × AV)} {l : List (FuncId × (List AV → Option (Prop × AV)))} (h : ConTR P f G) (hP : Nat.ble P.funcs.size 1000000 = true) (hl : TabOK P (tab l)) : TabOK P (tab ((f + 3000000, G) :: l)) := by
  intro g ys φ r hg hφ
  simp only [tab] at hg
  split at hg
  · rename_i e
    refine .inr (.inr (.inr ⟨Nat.le_of_ble_eq_true hP, by rw [e]; exact Nat.le_add_left _ _, ?_⟩))
    rw [show g - 3000000 = f from by rw [e]; exact Nat.add_sub_cancel _ _]
    exact h ys φ r hg hφ
  · exact hl g ys φ r hg hφ
@[simp] theorem tab_none (f : FuncId) (ys : List AV) : tab [] f ys = none := nr rfl
@[simp] theorem tabU_junk (p k : Nat) (G : List AV → Option (Prop × AV)) : tabU p k G [.junk] = some (True, .ptr p k) := nr rfl
@[simp] theorem tabU_fr (p k : Nat) (G : List AV → Option (Prop × AV)) (e : TypeId) (rows : List (List PV)) (l : List AV) : tabU p k G (.fr e rows :: l) = G (.fr e rows :: l) := nr rfl
@[simp] theorem tabU_pv (p k : Nat) (G : List AV → Option (Prop × AV)) (q : PV) (l : List AV) : tabU p k G (.pv q :: l) = G (.pv q :: l) := nr rfl
@[simp] theorem tabU_tup (p k : Nat) (G : List AV → Option (Prop × AV)) (q l : List AV) : tabU p k G (.tup q :: l) = G (.tup q :: l) := nr rfl
@[simp] theorem tabU_agg (p k : Nat) (G : List AV → Option (Prop × AV)) (q l : List AV) : tabU p k G (.agg q :: l) = G (.agg q :: l) := nr rfl
@[simp] theorem tabU_rp (p k : Nat) (G : List AV → Option (Prop × AV)) (q : List PV) (l : List AV) : tabU p k G (.rp q :: l) = G (.rp q :: l) := nr rfl
@[simp] theorem tabU_clo (p k : Nat) (G : List AV → Option (Prop × AV)) (f : FuncId) (q l : List AV) : tabU p k G (.clo f q :: l) = G (.clo f q :: l) := nr rfl
@[simp] theorem tab_look (f g : FuncId) (G : List AV → Option (Prop × AV)) (l : List (FuncId × (List AV → Option (Prop × AV)))) (ys : List AV) : tab ((f, G) :: l) g ys = if g = f then G ys else tab l g ys := nr rfl

end Go.Proofs.Ythblkhafehanfaa.Ab.R
