/- The abstract machine is sound, tenth part: one operation, guarded or not; a region in the order of its text. -/
import Derived.Test.YthblkhafehanfaaAb13
namespace Go.Proofs.Ythblkhafehanfaa.Ab
open Go Go.RowKit
set_option linter.unusedVariables false
set_option linter.unusedSimpArgs false

/-- The operation that an abstract one stands for. -/
def Core (P : Program) (N : Nat) (ops : Array Oper) (o : Oper) (i : AI) : Prop :=
  compOp P o = some (i.k, i.xs) ∧ i.d = o.dst ∧ (∀ d, i.d = some d → d < N) ∧
  ((o.guard = none ∧ i.g = none) ∨ ∃ j want s, o.guard = some (j, want) ∧ (ops[j]?).bind (·.dst) = some s ∧ i.g = some (s, want))

theorem compI_core {P : Program} {N : Nat} {ops : Array Oper} {o : Oper} {i : AI} (h : compI P N ops o = some i) : Core P N ops o i := by
  unfold compI at h
  cases hk : compOp P o with
  | none => rw [hk] at h; simp at h
  | some kx =>
    obtain ⟨k, xs⟩ := kx
    rw [hk] at h
    dsimp only at h
    have key : ∀ b : Bool, (∀ d, o.dst = some d → b = true → d < N) → (if (!b) = true then none else match o.guard with
        | none => some (⟨o.dst, k, xs, none, [], none⟩ : AI)
        | some (j, want) => match (ops[j]?).bind (·.dst) with
          | some s => some ⟨o.dst, k, xs, some (s, want), [], none⟩
          | none => none) = some i → Core P N ops o i := by
      intro b hb h
      cases b with
      | false => simp at h
      | true =>
        simp only [Bool.not_true, Bool.false_eq_true, if_false] at h
        cases hg : o.guard with
        | none =>
          rw [hg] at h
          simp only [Option.some.injEq] at h
          subst h
          exact ⟨hk, rfl, fun d e => hb d e rfl, .inl ⟨hg, rfl⟩⟩
        | some jw =>
          obtain ⟨j, want⟩ := jw
          rw [hg] at h
          dsimp only at h
          cases hs : (ops[j]?).bind (·.dst) with
          | none => rw [hs] at h; cases h
          | some s =>
            rw [hs] at h
            simp only [Option.some.injEq] at h
            subst h
            exact ⟨hk, rfl, fun d e => hb d e rfl, .inr ⟨j, want, s, hg, hs, rfl⟩⟩
    refine key _ ?_ h
    intro d hd hb
    rw [hd] at hb
    simp at hb
    exact hb.1

theorem wanted_none {P : Program} {ops : Array Oper} {o : Oper} {a : Act} (h : o.guard = none) : Region.wanted o (yielded ops a.tmps) = true := by
  unfold Region.wanted; rw [h]
theorem wanted_some {ops : Array Oper} {o : Oper} {a : Act} {j : Nat} {want : Bool} {s : Nat} {b : Bool} (h : o.guard = some (j, want)) (hs : (ops[j]?).bind (·.dst) = some s) (hb : a.tmps.getD s undef = .bool b) :
    Region.wanted o (yielded ops a.tmps) = (if want then b else !b) := by
  have ht : a.tmps[s]? = some (.bool b) := by
    rw [Array.getD_eq_getD_getElem?] at hb
    cases hx : a.tmps[s]? with
    | none => rw [hx] at hb; simp [undef] at hb
    | some v => rw [hx] at hb; simp at hb; rw [hb]
  unfold Region.wanted
  rw [h]
  simp only [yielded, hs, Option.bind_some, ht]
  cases want <;> cases b <;> rfl

/-- The Bool that a slot yields. -/
def yieldB : Value → Option Bool
  | .bool b => some b
  | _ => none
theorem guardB_sound {P : Program} {w : World} {β : Nat → Value} {S : Nat → Prop} {D : Nat → Prop} {want : Bool} : ∀ {v : AV} {u : Value} {c : Bool}, RV P S w β D u v → guardB v want = some c → (yieldB u == some want) = c
  | .pv p, u, c, hu, h => by
    cases p with
    | bool b =>
      rw [hu.bool_inv]
      simp only [guardB, Option.some.injEq] at h
      subst h
      cases want <;> cases b <;> rfl
    | _ => simp [guardB] at h
  | .cnd g v, u, c, hu, h => by
    cases hu with
    | cnd _ _ _ h1 h2 =>
    cases g with
    | false =>
      rw [h2 rfl]
      simp only [guardB, condB, Option.some.injEq] at h
      subst h
      rfl
    | true => exact guardB_sound (v := v) (h1 rfl) (by simpa [guardB, condB] using h)
  | .own _, _, _, _, h | .ptr _ _, _, _, _, h | .eptr _ _ _ _, _, _, _, h | .sub _ _ _ _, _, _, _, h | .rp _, _, _, _, h | .agg _, _, _, _, h | .tup _, _, _, _, h | .clo _ _, _, _, _, h | .fr _ _, _, _, _, h | .junk, _, _, _, h => by simp [guardB] at h
theorem wanted_guard {P : Program} {w : World} {β : Nat → Value} {S : Nat → Prop} {D : Nat → Prop} {ops : Array Oper} {o : Oper} {a : Act} {j : Nat} {want : Bool} {s : Nat} {v : AV} {c : Bool} (h : o.guard = some (j, want)) (hs : (ops[j]?).bind (·.dst) = some s)
    (hv : RV P S w β D (a.tmps.getD s undef) v) (hc : guardB v want = some c) : Region.wanted o (yielded ops a.tmps) = c := by
  rw [← guardB_sound hv hc]
  unfold Region.wanted
  rw [h]
  simp only [yielded, hs, Option.bind_some]
  rw [Array.getD_eq_getD_getElem?]
  cases a.tmps[s]? with
  | none => rfl
  | some v => cases v <;> rfl

/-! ### Results in which nothing is fresh -/

def Skips (g : Nat → AV → AV) : Prop := ∀ p c, (∀ e rows, c ≠ .fr e rows) → g p c = c
theorem skips_tag (d i : Nat) : Skips fun p c => tagC d (p + i) c := by
  intro p c hc
  cases c <;> first | rfl | exact absurd rfl (hc _ _)
theorem mapCs_none {g : Nat → AV → AV} (hg : Skips g) : ∀ (cs : List AV) (j : Nat), frsCs j cs = [] → mapCs g j cs = cs
  | [], _, _ => rfl
  | c :: cs, j, h => by
    have hc : ∀ e rows, c ≠ .fr e rows := by
      rintro e rows rfl
      simp [frsCs] at h
    have h' : frsCs (j + 1) cs = [] := by
      cases c <;> first | exact h | exact absurd rfl (hc _ _)
    simp only [mapCs]
    rw [hg _ _ hc, mapCs_none hg cs (j + 1) h']
theorem map1_none {g : Nat → AV → AV} (hg : Skips g) {v : AV} (h : frs1 v = []) : map1 g v = v := by
  have hv : ∀ e rows, v ≠ .fr e rows := by
    rintro e rows rfl
    simp [frs1] at h
  cases v <;> first
    | exact congrArg AV.agg (mapCs_none hg _ _ h)
    | exact hg _ _ hv
theorem mapVs_none {d : Nat} : ∀ (vs : List AV) (i : Nat), frsVs i vs = [] → mapVs (tagC d) i vs = vs
  | [], _, _ => rfl
  | v :: vs, i, h => by
    simp only [frsVs, List.append_eq_nil_iff, List.map_eq_nil_iff] at h
    simp only [mapVs]
    rw [map1_none (skips_tag d i) h.1, mapVs_none vs (i + 1) h.2]
theorem mapTop_none {d : Nat} {r : AV} (h : frs r = []) : mapTop (tagC d) r = r := by
  have hr : (∃ vs, r = .tup vs) ∨ (frs r = frs1 r ∧ mapTop (tagC d) r = map1 (fun p c => tagC d (p + 0) c) r) := by
    cases r <;> first | exact .inl ⟨_, rfl⟩ | exact .inr ⟨rfl, rfl⟩
  rcases hr with ⟨vs, rfl⟩ | ⟨h1, h2⟩
  · exact congrArg AV.tup (mapVs_none _ _ h)
  · rw [h2]; exact map1_none (skips_tag d 0) (h1 ▸ h)

theorem semQ_calv {ys : List AV} {objs : Nat → Option AO} : semQ .calv ys objs = none := by
  unfold semQ; split <;> first | rfl | simp_all
theorem semQ_clr {e : TypeId} {sz : Nat} {zs : List Value} {ys : List AV} {objs : Nat → Option AO} : semQ (.clr e sz zs) ys objs = none := by
  unfold semQ; split <;> first | rfl | simp_all
theorem semQ_stoB {e : TypeId} {ys : List AV} {objs : Nat → Option AO} : semQ (.stoB e) ys objs = none := by
  unfold semQ; split <;> first | rfl | simp_all

theorem compBuiltin_call {P : Program} {b : Builtin} {ys xs : List Operand} {ts : List TypeId} {f : FuncId} (hc : compBuiltin P b ys ts = some (.call f, xs)) : False := by
  unfold compBuiltin at hc
  repeat' (split at hc)
  all_goals (simp at hc)

theorem compOp_call {P : Program} {o : Oper} {f : FuncId} {xs : List Operand} (hc : compOp P o = some (.call f, xs)) :
    ∃ args argTypes, o.op = .call { callee := .value (.func f), args := args, argTypes := argTypes } ∧ isFn P f = true ∧ xs = args.toList := by
  rcases compOp_cases hc with hc | ⟨x, h0, _⟩
  rotate_left
  · cases h0
  unfold compOp0 at hc
  split at hc
  case h_22 =>
    rename_i cl ho
    obtain ⟨callee, args, argTypes⟩ := cl
    unfold compCall at hc
    simp only at hc
    split at hc
    · exact (compBuiltin_call hc).elim
    · split at hc
      · rename_i hf
        simp only [Option.some.injEq, Prod.mk.injEq, AK.call.injEq] at hc
        obtain ⟨rfl, hx⟩ := hc
        exact ⟨args, argTypes, ho, hf, hx.symm⟩
      · cases hc
    · simp at hc
    · cases hc
  all_goals
    exfalso
    repeat' (split at hc)
    all_goals (simp at hc)

section
variable {P : Program} {Γ : Tab} {S0 L : Nat → Prop} {B0 : Nat → Value} {w0 w : World} {N : Nat} {st : St} {a : Act} {β : Nat → Value} {o : Oper} {k : AK} {xs : List Operand}

theorem Rel.vars_mono (h : Rel P S0 L B0 w0 N st a w β) {vars : Nat → AV} (hv : ∀ s v, RV P (okS S0 w0.heap.size β st.objs w) w β (dom st.objs) v (st.vars s) → RV P (okS S0 w0.heap.size β st.objs w) w β (dom st.objs) v (vars s)) :
    Rel P S0 L B0 w0 N ⟨vars, st.objs⟩ a w β :=
  ⟨h.size, h.defers, fun s => hv s _ (h.vars s), h.heap, h.old, h.lim, h.pin, h.fram⟩

theorem void_sound {S : Nat → Prop} {D : Nat → Prop} (xs : List AV) : RV P S w β D undef (voidB xs) := by
  unfold voidB
  cases rowsOf (xs.map strip) with
  | none => exact .junk _
  | some rows => exact .cnd _ _ _ (fun e => by cases e) fun _ => rfl
theorem Rel.to_cnd {d : Option Nat} {c : Bool} {v : AV} (hc : c = true) (h : Rel P S0 L B0 w0 N ((Eff.put v).on d st) a w β) : Rel P S0 L B0 w0 N ((Eff.put (.cnd c v)).on d st) a w β := by
  refine h.vars_mono (vars := Ab.put d (.cnd c v) st.vars) fun s u hu => ?_
  cases d with
  | none => exact hu
  | some d =>
    by_cases hs : s = d
    · subst hs
      simp only [Eff.on, Ab.put, if_true] at hu ⊢
      exact .cnd c _ _ (fun _ => hu) (fun e => by rw [hc] at e; cases e)
    · simpa [Eff.on, Ab.put, hs] using hu

/-- The slot of an operation that is passed over. -/
theorem Rel.passed {d : Option Nat} {v : AV} (hd : ∀ s, d = some s → s < N) (h : Rel P S0 L B0 w0 N st a w β) (hv : RV P (okS S0 w0.heap.size β st.objs w) w β (dom st.objs) undef v) : Rel P S0 L B0 w0 N ((Eff.put v).on d st) (a.put d undef) w β :=
  h.put hd hv

/-- An operation in its region, whatever its guard. -/
theorem soundI (hΓ : TabOK P Γ) {Q : Exit → Act → World → Prop} {ops : Array Oper} {i : AI} (h : Rel P S0 L B0 w0 N st a w β) (hi : Core P N ops o i) {C : Eff → Prop} (hs : semI P Γ i st.vars st.objs C) :
    if Region.wanted o (yielded ops a.tmps) then o.wp P a w (fun a' w' => ∃ e β', C e ∧ Rel P S0 L B0 w0 N (e.on i.d st) a' w' β') Q
    else ∃ e β', C e ∧ Rel P S0 L B0 w0 N (e.on i.d st) (a.put o.dst undef) w β' := by
  obtain ⟨hc, hd, hdN, hg⟩ := hi
  have hdN' : ∀ s, o.dst = some s → s < N := fun s e => hdN s (hd.trans e)
  rcases hg with ⟨hg, hig⟩ | ⟨j, want, s, hg, hj, hig⟩
  · rw [wanted_none (P := P) hg]
    simp only [if_true]
    unfold semI at hs
    rw [hig] at hs
    rw [hd] at hs ⊢
    exact soundK hΓ h hc hdN' hs
  · unfold semI at hs
    rw [hig] at hs
    obtain ⟨c, hcg, hs⟩ := withO_inv hs
    rw [wanted_guard hg hj (h.vars s) hcg]
    rw [hd] at hs ⊢
    -- what it comes to, if it is wanted, or not
    have hreg : ∀ (g : Eff → Eff), (∀ e, ∀ {a' w' β'}, Rel P S0 L B0 w0 N (e.on o.dst st) a' w' β' → Rel P S0 L B0 w0 N ((g e).on o.dst st) a' w' β') → semK P Γ o.dst i.k (i.xs.map (Ab.ev st.vars)) st.objs (fun e => C (g e)) →
        o.wp P a w (fun a' w' => ∃ e β', C e ∧ Rel P S0 L B0 w0 N (e.on o.dst st) a' w' β') Q := by
      intro g hgr hk
      refine Oper.wp_mono ?_ (soundK hΓ h hc hdN' hk)
      rintro a' w' ⟨e, β', hC, hR⟩
      exact ⟨g e, β', hC, hgr e hR⟩
    have hq : isQ i.k = true → (withO (semQ i.k ((i.xs.map (Ab.ev st.vars)).map strip) st.objs) fun x => (c = true → asksL (i.xs.map (Ab.ev st.vars)) ∧ x.1) ∧ C (.put (.cnd c x.2))) →
        if c = true then o.wp P a w (fun a' w' => ∃ e β', C e ∧ Rel P S0 L B0 w0 N (e.on o.dst st) a' w' β') Q
        else ∃ e β', C e ∧ Rel P S0 L B0 w0 N (e.on o.dst st) (a.put o.dst undef) w β' := by
      intro hk hw
      obtain ⟨⟨φ, v⟩, he, hφ, hC⟩ := withO_inv hw
      cases c with
      | true =>
        obtain ⟨r, hr, hv⟩ := soundQ h hc hk (hφ rfl).1 he (hφ rfl).2
        exact wp_of_value hr ⟨_, β, hC, h.put hdN' (.cnd _ _ _ (fun _ => hv) fun e => by cases e)⟩
      | false => exact ⟨_, β, hC, h.passed hdN' (.cnd _ _ _ (fun e => by cases e) fun _ => rfl)⟩
    have hmk : ∀ {v : AV}, RV P (okS S0 w0.heap.size β st.objs w) w β (dom st.objs) undef v → (c = true → semK P Γ o.dst i.k (i.xs.map (Ab.ev st.vars)) st.objs C) ∧ (c = false → C (.put v)) →
        if c = true then o.wp P a w (fun a' w' => ∃ e β', C e ∧ Rel P S0 L B0 w0 N (e.on o.dst st) a' w' β') Q
        else ∃ e β', C e ∧ Rel P S0 L B0 w0 N (e.on o.dst st) (a.put o.dst undef) w β' := by
      rintro v hv ⟨ht, hf⟩
      cases c with
      | true => exact hreg id (fun _ _ _ _ hR => hR) (ht rfl)
      | false => exact ⟨_, β, hf rfl, h.passed hdN' hv⟩
    generalize hik : i.k = k at hc hs hreg hq hmk
    cases k with
    | mov =>
      dsimp only [semG] at hs
      obtain ⟨x, hx, hl, hC⟩ := withO_inv hs
      cases c with
      | true =>
        refine hreg (fun e => match e with | .put v => .put (.cnd true v) | e => e) ?_ ?_
        · intro e a' w' β' hR
          cases e <;> first | exact hR.to_cnd rfl | exact hR
        · dsimp only [semK]
          rw [hx]
          exact ⟨hl, hC⟩
      | false => exact ⟨_, β, hC, h.passed hdN' (.cnd _ _ _ (fun e => by cases e) fun _ => rfl)⟩
    | pick =>
      dsimp only [semG] at hs
      obtain ⟨x, hx, hl, hC⟩ := withO_inv hs
      cases c with
      | true =>
        refine hreg (fun e => match e with | .put v => .put (.cnd true v) | e => e) ?_ ?_
        · intro e a' w' β' hR
          cases e <;> first | exact hR.to_cnd rfl | exact hR
        · dsimp only [semK]
          rw [hx]
          exact ⟨hl rfl, hC⟩
      | false => exact ⟨_, β, hC, h.passed hdN' (.cnd _ _ _ (fun e => by cases e) fun _ => rfl)⟩
    | nilS e => exact hmk (.junk _) hs
    | box => exact hmk (.junk _) hs
    | alloc zs => exact hmk (.junk _) hs
    | bsl e sz => exact hmk (void_sound _) hs
    | store n => exact hmk (.junk _) hs
    | app e sz bytes => exact hmk (.junk _) hs
    | call f =>
      dsimp only [semG] at hs
      obtain ⟨ys, hys, hs⟩ := withO_inv hs
      obtain ⟨⟨φ, r⟩, hr, hs⟩ := withO_inv hs
      split at hs
      rotate_left
      · exact hmk (.cnd _ _ _ (fun e => by cases e) fun _ => rfl) hs
      obtain ⟨hcon, hfl, hfr, hres, hC⟩ := hs
      cases c with
      | true =>
        have hcall := compOp_call hc
        obtain ⟨args, argTypes, ho, hf, hx⟩ := hcall
        rw [hx] at hys hcon
        have htr := flat_tr hfl
        have hnil : ∀ d, newO d r = [] := fun d => by rw [newO_plain htr]; unfold frTags; rw [hfr]; rfl
        refine sound_call (d := 0) h (by omega) ho hf (hcon rfl).1 hys (hΓ.con (isFn_lt hf) hr (hcon rfl).2) (.inr (by rw [flatR_plain htr]; exact hfl)) (by rw [hnil]; intro x hx; cases hx) (by rw [resR_plain htr]; exact hres) ?_
        intro v w' β' hR hv
        rw [hnil] at hR hv
        rw [newV_plain htr, mapTop_none hfr] at hv
        exact ⟨_, β', hC, hR.put hdN' (.cnd _ _ _ (fun _ => hv) fun e => by cases e)⟩
      | false => exact ⟨_, β, hC, h.passed hdN' (.cnd _ _ _ (fun e => by cases e) fun _ => rfl)⟩
    | calv =>
      have hs : withO (semQ .calv ((i.xs.map (Ab.ev st.vars)).map strip) st.objs) fun x => (c = true → asksL (i.xs.map (Ab.ev st.vars)) ∧ x.1) ∧ C (.put (.cnd c x.2)) := hs
      rw [semQ_calv] at hs; exact hs.elim
    | btoS => exact hq rfl hs
    | mnx mx => exact hq rfl hs
    | eqs ne ks => exact hq rfl hs
    | stoB e =>
      have hs : withO (semQ (.stoB e) ((i.xs.map (Ab.ev st.vars)).map strip) st.objs) fun x => (c = true → asksL (i.xs.map (Ab.ev st.vars)) ∧ x.1) ∧ C (.put (.cnd c x.2)) := hs
      rw [semQ_stoB] at hs; exact hs.elim
    | ex x =>
      have hs : withO (semQ (.ex x) ((i.xs.map (Ab.ev st.vars)).map strip) st.objs) fun x => (c = true → asksL (i.xs.map (Ab.ev st.vars)) ∧ x.1) ∧ C (.put (.cnd c x.2)) := hs
      rw [semQ_ex] at hs; exact hs.elim
    | clr e sz zs =>
      have hs : withO (semQ (.clr e sz zs) ((i.xs.map (Ab.ev st.vars)).map strip) st.objs) fun x => (c = true → asksL (i.xs.map (Ab.ev st.vars)) ∧ x.1) ∧ C (.put (.cnd c x.2)) := hs
      rw [semQ_clr] at hs; exact hs.elim
    | _ => exact hq rfl hs

end
end Go.Proofs.Ythblkhafehanfaa.Ab
