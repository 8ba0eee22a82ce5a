/- The abstract machine: two operations of one region change places. -/
import Derived.Test.YthblkhafehanfaaAb15
namespace Go.Proofs.Ythblkhafehanfaa.Ab
open Go Go.RowKit
set_option linter.unusedVariables false
set_option linter.unusedSimpArgs false

/-! ### Names that fall -/

theorem strip_kill (t : Nat) : ∀ a : AV, strip (kill t a) = kill t (strip a)
  | .cnd g v => by simp only [kill, strip]; exact strip_kill t v
  | .pv p => rfl
  | .own s => by show strip (if s = t then .junk else .own s) = (if s = t then .junk else .own s); split <;> rfl
  | .ptr s o => rfl
  | .eptr s e i o => by show strip (if s = t then .junk else .eptr s e i o) = (if s = t then .junk else .eptr s e i o); split <;> rfl
  | .sub s e i o => by show strip (if s = t then .junk else .sub s e i o) = (if s = t then .junk else .sub s e i o); split <;> rfl
  | .rp cs => rfl
  | .agg cs => rfl
  | .tup vs => rfl
  | .clo f [] => rfl
  | .clo f (c :: cs) => rfl
  | .fr e rows => rfl
  | .bx _ => rfl
  | .mf _ => rfl
  | .junk => rfl
theorem asks_kill (t : Nat) : ∀ a : AV, asks (kill t a) = asks a
  | .cnd g v => by simp only [kill, asks]; rw [asks_kill t v]
  | .pv p => rfl
  | .own s => by show asks (if s = t then .junk else .own s) = asks (.own s); split <;> rfl
  | .ptr s o => rfl
  | .eptr s e i o => by show asks (if s = t then .junk else .eptr s e i o) = asks (.eptr s e i o); split <;> rfl
  | .sub s e i o => by show asks (if s = t then .junk else .sub s e i o) = asks (.sub s e i o); split <;> rfl
  | .rp cs => rfl
  | .agg cs => rfl
  | .tup vs => rfl
  | .clo f [] => rfl
  | .clo f (c :: cs) => rfl
  | .fr e rows => rfl
  | .bx _ => rfl
  | .mf _ => rfl
  | .junk => rfl
theorem kill_pv_inv {t : Nat} {v : AV} {p : PV} (h : kill t v = .pv p) : v = .pv p := by
  cases v with
  | pv q => exact h
  | own s => have h : (if s = t then AV.junk else .own s) = .pv p := h; split at h <;> cases h
  | eptr s e i o => have h : (if s = t then AV.junk else .eptr s e i o) = .pv p := h; split at h <;> cases h
  | sub s e i o => have h : (if s = t then AV.junk else .sub s e i o) = .pv p := h; split at h <;> cases h
  | clo f cs => cases cs <;> cases h
  | _ => cases h
theorem cv_kill (t : Nat) (v : Value) : kill t (cv v) = cv v := by
  unfold cv; split <;> rfl
theorem ev_kill (t : Nat) (vars : Nat → AV) (x : Operand) : Ab.ev (killV t vars) x = kill t (Ab.ev vars x) := by
  cases x with
  | const v => exact (cv_kill t v).symm
  | _ => rfl
theorem evs_kill (t : Nat) (vars : Nat → AV) (xs : List Operand) : xs.map (Ab.ev (killV t vars)) = (xs.map (Ab.ev vars)).map (kill t) := by
  rw [List.map_map]
  exact List.map_congr_left fun x _ => ev_kill t vars x
theorem asksL_kill (t : Nat) : ∀ xs : List AV, asksL (xs.map (kill t)) = asksL xs
  | [] => rfl
  | x :: xs => by simp only [List.map_cons, asksL]; rw [asks_kill, asksL_kill t xs]
theorem strips_kill {t : Nat} : ∀ {xs : List AV}, (∀ y ∈ xs.map strip, ∃ p, y = AV.pv p) → (xs.map (kill t)).map strip = xs.map strip
  | [], _ => rfl
  | x :: xs, h => by
    simp only [List.map_cons, List.mem_cons, forall_eq_or_imp] at h ⊢
    obtain ⟨⟨p, hp⟩, h⟩ := h
    rw [strips_kill h, strip_kill, hp]
    rfl
theorem strips_unkill {t : Nat} : ∀ {xs : List AV}, (∀ y ∈ (xs.map (kill t)).map strip, ∃ p, y = AV.pv p) → (xs.map (kill t)).map strip = xs.map strip
  | [], _ => rfl
  | x :: xs, h => by
    simp only [List.map_cons, List.mem_cons, forall_eq_or_imp] at h ⊢
    obtain ⟨⟨p, hp⟩, h⟩ := h
    rw [strips_unkill h, hp]
    rw [strip_kill] at hp
    rw [kill_pv_inv hp]

theorem semQ_pv {k : AK} {ys : List AV} {objs : Nat → Option AO} {r : Prop × AV} (hk : looksAway k = true) (h : semQ k ys objs = some r) : (∀ y ∈ ys, ∃ p, y = AV.pv p) ∧ ∃ q, r.2 = .pv q := by
  unfold semQ at h
  split at h <;> first
    | (simp [looksAway] at hk; done)
    | (obtain ⟨x, _, rfl⟩ := Option.map_eq_some_iff.1 h; exact ⟨by simp, _, rfl⟩)
    | (simp only [Option.some.injEq] at h; subst h; exact ⟨by simp, _, rfl⟩)
    | cases h

section
variable {P : Program} {Γ : Tab} {d : Option Nat} {k : AK} {xs : List AV} {objs objs' : Nat → Option AO} {e : Eff} {t : Nat}

/-- Operations that look at values alone. -/
def semA (k : AK) (xs : List AV) : Option (Prop × AV) :=
  match k with
  | .mov => match xs with
    | [x] => some (True, x)
    | _ => none
  | k => (semQ k (xs.map strip) fun _ => none).map fun r => (asksL xs ∧ r.1, r.2)

theorem semK_away (hk : looksAway k = true) : semK P Γ d k xs objs (fun e' => e' = e) ↔ ∃ φ v, semA k xs = some (φ, v) ∧ φ ∧ e = .put v := by
  have hq : ∀ {k : AK}, looksAway k = true → ((asksL xs ∧ withO (semQ k (xs.map strip) objs) fun x => x.1 ∧ Eff.put x.2 = e) ↔
      ∃ φ v, ((semQ k (xs.map strip) fun _ => none).map fun r => (asksL xs ∧ r.1, r.2)) = some (φ, v) ∧ φ ∧ e = .put v) := by
    intro k hk
    constructor
    · rintro ⟨ha, hw⟩
      obtain ⟨r, hr, hφ, he⟩ := withO_inv hw
      exact ⟨asksL xs ∧ r.1, r.2, by rw [semQ_away (objs' := fun _ => none) hk hr]; rfl, ⟨ha, hφ⟩, he.symm⟩
    · rintro ⟨φ, v, hs, hφ, he⟩
      obtain ⟨r, hr, hx⟩ := Option.map_eq_some_iff.1 hs
      cases hx
      exact ⟨hφ.1, by rw [semQ_away (objs' := objs) hk hr]; exact ⟨hφ.2, he.symm⟩⟩
  cases k with
  | mov =>
    dsimp only [semK, semA]
    constructor
    · intro h
      obtain ⟨x, hx, hl, he⟩ := withO_inv h
      obtain ⟨y, rfl⟩ := List.length_eq_one_iff.1 hl
      simp only [List.head?_cons, Option.some.injEq] at hx
      subst hx
      exact ⟨_, _, rfl, trivial, he.symm⟩
    · rintro ⟨φ, v, hs, hφ, rfl⟩
      split at hs
      · cases hs; exact ⟨rfl, rfl⟩
      · cases hs
  | bin op => exact hq rfl
  | beq ne => exact hq rfl
  | not => exact hq rfl
  | neg => exact hq rfl
  | cvi k => exact hq rfl
  | scv => exact hq rfl
  | _ => simp [looksAway] at hk

theorem semG_away {c : Bool} (hk : looksAway k = true) : semG P Γ c d k xs objs (fun e' => e' = e) ↔ ∃ φ v, semA k xs = some (φ, v) ∧ (c = true → φ) ∧ e = .put (.cnd c v) := by
  have hq : ∀ {k : AK}, looksAway k = true → ((withO (semQ k (xs.map strip) objs) fun x => (c = true → asksL xs ∧ x.1) ∧ Eff.put (.cnd c x.2) = e) ↔
      ∃ φ v, ((semQ k (xs.map strip) fun _ => none).map fun r => (asksL xs ∧ r.1, r.2)) = some (φ, v) ∧ (c = true → φ) ∧ e = .put (.cnd c v)) := by
    intro k hk
    constructor
    · intro hw
      obtain ⟨r, hr, hφ, he⟩ := withO_inv hw
      exact ⟨asksL xs ∧ r.1, r.2, by rw [semQ_away (objs' := fun _ => none) hk hr]; rfl, hφ, he.symm⟩
    · rintro ⟨φ, v, hs, hφ, he⟩
      obtain ⟨r, hr, hx⟩ := Option.map_eq_some_iff.1 hs
      cases hx
      rw [semQ_away (objs' := objs) hk hr]; exact ⟨hφ, he.symm⟩
  cases k with
  | mov =>
    dsimp only [semG, semA]
    constructor
    · intro h
      obtain ⟨x, hx, hl, he⟩ := withO_inv h
      obtain ⟨y, rfl⟩ := List.length_eq_one_iff.1 hl
      simp only [List.head?_cons, Option.some.injEq] at hx
      subst hx
      exact ⟨_, _, rfl, fun _ => trivial, he.symm⟩
    · rintro ⟨φ, v, hs, hφ, rfl⟩
      split at hs
      · cases hs; exact ⟨rfl, rfl⟩
      · cases hs
  | bin op => exact hq rfl
  | beq ne => exact hq rfl
  | not => exact hq rfl
  | neg => exact hq rfl
  | cvi k => exact hq rfl
  | scv => exact hq rfl
  | _ => simp [looksAway] at hk

theorem semA_kill {φ : Prop} {v : AV} (hk : looksAway k = true) (h : semA k xs = some (φ, v)) : semA k (xs.map (kill t)) = some (φ, kill t v) := by
  have hq : ((semQ k (xs.map strip) fun _ => none).map fun r => (asksL xs ∧ r.1, r.2)) = some (φ, v) →
      ((semQ k ((xs.map (kill t)).map strip) fun _ => none).map fun r => (asksL (xs.map (kill t)) ∧ r.1, r.2)) = some (φ, kill t v) := by
    intro h
    obtain ⟨r, hr, hx⟩ := Option.map_eq_some_iff.1 h
    obtain ⟨hp, q, hq⟩ := semQ_pv hk hr
    cases hx
    rw [strips_kill hp, hr, asksL_kill, hq]
    show some (asksL xs ∧ r.1, r.2) = _
    rw [hq]; rfl
  cases k with
  | mov =>
    dsimp only [semA] at h ⊢
    split at h
    · cases h; rfl
    · cases h
  | bin op => exact hq h
  | beq ne => exact hq h
  | not => exact hq h
  | neg => exact hq h
  | cvi k => exact hq h
  | scv => exact hq h
  | _ => simp [looksAway] at hk

theorem semA_unkill {φ : Prop} {v : AV} (hk : looksAway k = true) (h : semA k (xs.map (kill t)) = some (φ, v)) : ∃ u, v = kill t u ∧ semA k xs = some (φ, u) := by
  have hq : ((semQ k ((xs.map (kill t)).map strip) fun _ => none).map fun r => (asksL (xs.map (kill t)) ∧ r.1, r.2)) = some (φ, v) →
      ∃ u, v = kill t u ∧ ((semQ k (xs.map strip) fun _ => none).map fun r => (asksL xs ∧ r.1, r.2)) = some (φ, u) := by
    intro h
    obtain ⟨r, hr, hx⟩ := Option.map_eq_some_iff.1 h
    obtain ⟨hp, q, hq⟩ := semQ_pv hk hr
    rw [strips_unkill hp] at hr
    rw [asksL_kill] at hx
    cases hx
    exact ⟨r.2, by rw [hq]; rfl, by rw [hr]; rfl⟩
  cases k with
  | mov =>
    dsimp only [semA] at h ⊢
    rcases xs with _ | ⟨x, _ | ⟨y, xs⟩⟩
    · cases h
    · cases h; exact ⟨x, rfl, rfl⟩
    · cases h
  | bin op => exact hq h
  | beq ne => exact hq h
  | not => exact hq h
  | neg => exact hq h
  | cvi k => exact hq h
  | scv => exact hq h
  | _ => simp [looksAway] at hk
end

section
variable {P : Program} {Γ : Tab} {i : AI} {vars vars' : Nat → AV} {objs objs' : Nat → Option AO} {e : Eff} {t : Nat}

theorem guardB_killE (w : Bool) : ∀ v : AV, guardB (kill t v) w = guardB v w
  | .cnd c v => by simp only [kill, guardB]; rw [guardB_killE w v]
  | .own s | .eptr s _ _ _ | .sub s _ _ _ => by simp only [kill, killC]; split <;> rfl
  | .clo f cs => by cases cs <;> rfl
  | .pv _ | .ptr _ _ | .rp _ | .agg _ | .tup _ | .fr _ _ | .bx _ | .mf _ | .junk => rfl
theorem guardB_kill {v : AV} {w c : Bool} : guardB (kill t v) w = some c ↔ guardB v w = some c := by rw [guardB_killE]

theorem semI_away_kill (hk : looksAway i.k = true) (h : semI P Γ i vars objs fun e' => e' = e) : ∃ v, e = .put v ∧ ∀ t objs', semI P Γ i (killV t vars) objs' fun e' => e' = .put (kill t v) := by
  unfold semI at h ⊢
  cases hg : i.g with
  | none =>
    rw [hg] at h
    obtain ⟨φ, v, hs, hφ, rfl⟩ := (semK_away hk).1 h
    refine ⟨v, rfl, fun t objs' => ?_⟩
    rw [evs_kill]
    exact (semK_away hk).2 ⟨φ, _, semA_kill hk hs, hφ, rfl⟩
  | some sw =>
    obtain ⟨s, w⟩ := sw
    rw [hg] at h
    dsimp only at h ⊢
    obtain ⟨c, hc, h⟩ := withO_inv h
    obtain ⟨φ, v, hs, hφ, rfl⟩ := (semG_away hk).1 h
    refine ⟨_, rfl, fun t objs' => ?_⟩
    rw [show killV t vars s = kill t (vars s) from rfl, guardB_kill.2 hc, evs_kill]
    exact (semG_away hk).2 ⟨φ, _, semA_kill hk hs, hφ, rfl⟩

theorem semI_away_unkill (hk : looksAway i.k = true) (h : semI P Γ i (killV t vars) objs fun e' => e' = e) : ∃ v, e = .put (kill t v) ∧ ∀ objs', semI P Γ i vars objs' fun e' => e' = .put v := by
  unfold semI at h ⊢
  cases hg : i.g with
  | none =>
    rw [hg] at h
    dsimp only at h
    rw [evs_kill] at h
    obtain ⟨φ, v, hs, hφ, rfl⟩ := (semK_away hk).1 h
    obtain ⟨u, rfl, hu⟩ := semA_unkill hk hs
    exact ⟨u, rfl, fun objs' => (semK_away hk).2 ⟨φ, _, hu, hφ, rfl⟩⟩
  | some sw =>
    obtain ⟨s, w⟩ := sw
    rw [hg] at h
    dsimp only at h ⊢
    obtain ⟨c, hc, h⟩ := withO_inv h
    rw [evs_kill] at h
    obtain ⟨φ, v, hs, hφ, rfl⟩ := (semG_away hk).1 h
    obtain ⟨u, rfl, hu⟩ := semA_unkill hk hs
    refine ⟨.cnd c u, rfl, fun objs' => ?_⟩
    rw [guardB_kill.1 hc]
    exact (semG_away hk).2 ⟨φ, _, hu, hφ, rfl⟩

theorem semI_away_objs (hk : looksAway i.k = true) (h : semI P Γ i vars objs fun e' => e' = e) : (∃ v, e = .put v) ∧ ∀ objs', semI P Γ i vars objs' fun e' => e' = e := by
  unfold semI at h ⊢
  cases hg : i.g with
  | none =>
    rw [hg] at h
    obtain ⟨φ, v, hs, hφ, rfl⟩ := (semK_away hk).1 h
    exact ⟨⟨v, rfl⟩, fun objs' => (semK_away hk).2 ⟨φ, _, hs, hφ, rfl⟩⟩
  | some sw =>
    obtain ⟨s, w⟩ := sw
    rw [hg] at h
    dsimp only at h ⊢
    obtain ⟨c, hc, h⟩ := withO_inv h
    obtain ⟨φ, v, hs, hφ, rfl⟩ := (semG_away hk).1 h
    exact ⟨⟨_, rfl⟩, fun objs' => by rw [hc]; exact (semG_away hk).2 ⟨φ, _, hs, hφ, rfl⟩⟩

theorem ev_agree {x : Operand} (h : ∀ s ∈ tmpsOf [x], vars s = vars' s) : Ab.ev vars x = Ab.ev vars' x := by
  cases x with
  | tmp t => exact h t (by simp [tmpsOf])
  | _ => rfl
theorem evs_agree : ∀ {xs : List Operand}, (∀ s ∈ tmpsOf xs, vars s = vars' s) → xs.map (Ab.ev vars) = xs.map (Ab.ev vars')
  | [], _ => rfl
  | x :: xs, h => by
    have h1 : Ab.ev vars x = Ab.ev vars' x := ev_agree fun s hs => h s (by cases x <;> simp_all [tmpsOf])
    have h2 : xs.map (Ab.ev vars) = xs.map (Ab.ev vars') := evs_agree fun s hs => h s (by cases x <;> simp_all [tmpsOf])
    simp only [List.map_cons, h1, h2]

theorem semI_vars {C : Eff → Prop} (ha : ∀ s ∈ usesOf i, vars s = vars' s) (h : semI P Γ i vars objs C) : semI P Γ i vars' objs C := by
  have hx := evs_agree (vars := vars) (vars' := vars') (xs := i.xs) fun s hs => ha s (List.mem_append_left _ hs)
  unfold semI at h ⊢
  rw [← hx]
  cases hg : i.g with
  | none => rw [hg] at h; exact h
  | some sw =>
    obtain ⟨s, w⟩ := sw
    rw [hg] at h
    dsimp only at h ⊢
    rw [← ha s (List.mem_append_right _ (by rw [hg]; simp))]
    exact h

theorem semI_local {T : List Nat} {C : Eff → Prop} (hag : ∀ t, noT T t → objs t = objs' t) (hk : isApp i.k = false) (hd : ∀ s, i.d = some s → s < 1000 ∧ T.contains s = false)
    (hno : looksAway i.k = true ∨ noMs T objs ((i.xs.map (Ab.ev vars)).map strip)) (h : semI P Γ i vars objs C) : semI P Γ i vars objs' C := by
  unfold semI at h ⊢
  cases hg : i.g with
  | none => rw [hg] at h; exact semK_local hag hk hd hno h
  | some sw =>
    obtain ⟨s, w⟩ := sw
    rw [hg] at h
    dsimp only at h ⊢
    obtain ⟨c, hc, h⟩ := withO_inv h
    rw [hc]
    exact semG_local hag hk hd hno h

/-- What effects an operation may have. -/
def EffOK (i : AI) (e : Eff) : Prop :=
  (∃ v, e = .put v) ∨ (makes i.k = true ∧ ∃ d v os, i.d = some d ∧ e = .new v os ∧ ∀ x ∈ os, ∃ p, x.1 = d + 1000 * p) ∨ (writes i.k = true ∧ makes i.k = false ∧ ∃ t o, e = .upd t o) ∨ (isApp i.k = true ∧ ∃ t o, e = .app t o)

theorem semK_eff {xs : List AV} (h : semK P Γ i.d i.k xs objs fun e' => e' = e) : EffOK i e := by
  have hmk : ∀ {k : AK}, makes i.k = true → (withO i.d fun d => asksL xs ∧ withO (semF k d (xs.map strip) objs) fun x => x.1 ∧ objs d = none ∧ Eff.new x.2.1 [(d, x.2.2)] = e) → EffOK i e := by
    intro k hk hw
    obtain ⟨d, hd, ha, hw⟩ := withO_inv hw
    obtain ⟨x, hx, hφ, hn, rfl⟩ := withO_inv hw
    exact .inr (.inl ⟨hk, d, _, _, hd, rfl, fun x hx => ⟨0, by simp only [List.mem_singleton] at hx; rw [hx]; rfl⟩⟩)
  cases hk : i.k with
  | mov =>
    rw [hk] at h
    obtain ⟨φ, v, _, _, rfl⟩ := (semK_away rfl).1 h
    exact .inl ⟨v, rfl⟩
  | pick =>
    rw [hk] at h
    dsimp only [semK] at h
    obtain ⟨x, _, _, rfl⟩ := withO_inv h
    exact .inl ⟨_, rfl⟩
  | nilS e => rw [hk] at h; exact hmk (by rw [hk]; rfl) h
  | box => rw [hk] at h; exact hmk (by rw [hk]; rfl) h
  | alloc zs => rw [hk] at h; exact hmk (by rw [hk]; rfl) h
  | bsl e sz => rw [hk] at h; exact hmk (by rw [hk]; rfl) h
  | store n =>
    rw [hk] at h
    obtain ⟨_, hw⟩ := h
    obtain ⟨x, _, _, rfl⟩ := withO_inv hw
    exact .inr (.inr (.inl ⟨by rw [hk]; rfl, by rw [hk]; rfl, _, _, rfl⟩))
  | app e sz bytes =>
    rw [hk] at h
    dsimp only [semK] at h
    obtain ⟨ha, hw⟩ := h
    split at hw
    · obtain ⟨x, _, _, rfl⟩ := withO_inv hw
      exact .inr (.inr (.inr ⟨by rw [hk]; rfl, _, _, rfl⟩))
    · obtain ⟨d, hd, hw⟩ := withO_inv hw
      obtain ⟨x, hx, hφ, hn, rfl⟩ := withO_inv hw
      exact .inr (.inl ⟨by rw [hk]; rfl, d, _, _, hd, rfl, fun x hx => ⟨0, by simp only [List.mem_singleton] at hx; rw [hx]; rfl⟩⟩)
  | call f =>
    rw [hk] at h
    dsimp only [semK, semCall] at h
    obtain ⟨d, hd, ha, hw⟩ := withO_inv h
    obtain ⟨ys, hys, hw⟩ := withO_inv hw
    obtain ⟨⟨φ, r⟩, hr, h1, h2, h3, h4, rfl⟩ := withO_inv hw
    refine .inr (.inl ⟨by rw [hk]; rfl, d, _, _, hd, rfl, fun x hx => ?_⟩)
    exact newO_tags d r x hx
  | _ =>
    rw [hk] at h
    obtain ⟨_, hw⟩ := h
    obtain ⟨x, _, _, rfl⟩ := withO_inv hw
    exact .inl ⟨_, rfl⟩

theorem semI_eff (h : semI P Γ i vars objs fun e' => e' = e) : EffOK i e := by
  unfold semI at h
  cases hg : i.g with
  | none => rw [hg] at h; exact semK_eff h
  | some sw =>
    obtain ⟨s, w⟩ := sw
    rw [hg] at h
    dsimp only at h
    obtain ⟨c, hc, h⟩ := withO_inv h
    have hmk : ∀ {v : AV}, ((c = true → semK P Γ i.d i.k (i.xs.map (Ab.ev vars)) objs fun e' => e' = e) ∧ (c = false → Eff.put v = e)) → EffOK i e := by
      rintro v ⟨ht, hf⟩
      cases c with
      | true => exact semK_eff (ht rfl)
      | false => exact .inl ⟨_, (hf rfl).symm⟩
    cases hk : i.k with
    | mov =>
      rw [hk] at h
      obtain ⟨φ, v, _, _, rfl⟩ := (semG_away rfl).1 h
      exact .inl ⟨_, rfl⟩
    | pick =>
      rw [hk] at h
      dsimp only [semG] at h
      obtain ⟨x, _, _, rfl⟩ := withO_inv h
      exact .inl ⟨_, rfl⟩
    | nilS e => rw [hk] at h hmk; exact hmk h
    | box => rw [hk] at h hmk; exact hmk h
    | alloc zs => rw [hk] at h hmk; exact hmk h
    | bsl e sz => rw [hk] at h hmk; exact hmk h
    | store n => rw [hk] at h hmk; exact hmk h
    | app e sz bytes => rw [hk] at h hmk; exact hmk h
    | call f =>
      rw [hk] at h hmk
      dsimp only [semG] at h
      obtain ⟨ys, hys, h⟩ := withO_inv h
      obtain ⟨⟨φ, r⟩, hr, h⟩ := withO_inv h
      split at h
      · obtain ⟨h1, h2, h3, h4, rfl⟩ := h
        exact .inl ⟨_, rfl⟩
      · exact hmk h
    | _ =>
      rw [hk] at h
      dsimp only [semG] at h
      obtain ⟨x, _, _, rfl⟩ := withO_inv h
      exact .inl ⟨_, rfl⟩
end

end Go.Proofs.Ythblkhafehanfaa.Ab
