/- The abstract machine: two operations of one region change places; any order of a region's operations. -/
import Derived.Test.YthblkhafehanfaaAb16
namespace Go.Proofs.Ythblkhafehanfaa.Ab
open Go Go.RowKit
set_option linter.unusedVariables false
set_option linter.unusedSimpArgs false

theorem St.ext' {a b : St} (h1 : a.vars = b.vars) (h2 : a.objs = b.objs) : a = b := by
  cases a; cases b; simp only at h1 h2; rw [h1, h2]

theorem put_off {d : Option Nat} {v : AV} {f : Nat → AV} {s : Nat} (h : d ≠ some s) : Ab.put d v f s = f s := by
  cases d with
  | none => rfl
  | some d =>
    have : s ≠ d := fun e => h (by rw [e])
    simp [Ab.put, this]
theorem put_comm {d d' : Option Nat} {v v' : AV} {f : Nat → AV} (h : ∀ s, d = some s → d' ≠ some s) : Ab.put d v (Ab.put d' v' f) = Ab.put d' v' (Ab.put d v f) := by
  cases d with
  | none => rfl
  | some d =>
    cases d' with
    | none => rfl
    | some d' =>
      have hne : d' ≠ d := fun e => h d rfl (by rw [e])
      funext s
      by_cases h1 : s = d
      · subst h1
        simp [Ab.put, hne.symm]
      · simp [Ab.put, h1]
theorem kill_put {t : Nat} {d : Option Nat} {v : AV} {f : Nat → AV} : killV t (Ab.put d v f) = Ab.put d (kill t v) (killV t f) := by
  cases d with
  | none => rfl
  | some d =>
    funext s
    by_cases h1 : s = d
    · simp [killV, Ab.put, h1]
    · simp [killV, Ab.put, h1]

/-- What an effect adds to the objects. -/
def ov : Eff → Nat → Option AO
  | .new _ os => lookO os
  | .upd t o => fun s => if s = t then some o else none
  | _ => fun _ => none
def over (f g : Nat → Option AO) : Nat → Option AO := fun t => match f t with
  | some o => some o
  | none => g t
def valE : Eff → AV
  | .put v => v
  | .new v _ => v
  | .upd _ _ => .junk
  | .app t _ => .own t
def plain : Eff → Prop
  | .app _ _ => False
  | _ => True
theorem on_plain {e : Eff} {d : Option Nat} {st : St} (h : plain e) : e.on d st = ⟨Ab.put d (valE e) st.vars, over (ov e) st.objs⟩ := by
  cases e with
  | put v => rfl
  | new v os => rfl
  | upd t o =>
    refine St.ext' rfl ?_
    funext s
    by_cases hs : s = t <;> simp [Eff.on, over, ov, addO, hs]
  | app t o => exact h.elim
theorem over_comm {f g h : Nat → Option AO} (hfg : ∀ t, f t = none ∨ g t = none) : over f (over g h) = over g (over f h) := by
  funext t
  unfold over
  rcases hfg t with e | e <;> rw [e] <;> cases f t <;> cases g t <;> rfl
theorem over_none {g h : Nat → Option AO} (hg : ∀ t, g t = none) : over g h = h := by
  funext t
  unfold over
  rw [hg t]

/-- In this state it may come to this. -/
def Yi (P : Program) (Γ : Tab) (i : AI) (st : St) (e : Eff) : Prop :=
  (i.un = [] ∨ noMs i.un st.objs ((i.xs.map (Ab.ev st.vars)).map strip)) ∧ (semI P Γ i st.vars st.objs fun e' => e' = e) ∧ tgU i.un i.tg e

theorem semK_mono {P : Program} {Γ : Tab} {d : Option Nat} {k : AK} {xs : List AV} {objs : Nat → Option AO} {e : Eff} {C : Eff → Prop} (hC : C e) (hs : semK P Γ d k xs objs fun e' => e' = e) : semK P Γ d k xs objs C := by
  cases k with
  | mov =>
    dsimp only [semK] at hs ⊢
    obtain ⟨x, hx, hl, rfl⟩ := withO_inv hs
    rw [hx]; exact ⟨hl, hC⟩
  | pick =>
    dsimp only [semK] at hs ⊢
    obtain ⟨x, hx, hl, rfl⟩ := withO_inv hs
    rw [hx]; exact ⟨hl, hC⟩
  | nilS e =>
    dsimp only [semK] at hs ⊢
    obtain ⟨d, hd, ha, hw⟩ := withO_inv hs
    obtain ⟨x, hx, hl, hn, rfl⟩ := withO_inv hw
    rw [hd]; exact ⟨ha, by rw [hx]; exact ⟨hl, hn, hC⟩⟩
  | box =>
    dsimp only [semK] at hs ⊢
    obtain ⟨d, hd, ha, hw⟩ := withO_inv hs
    obtain ⟨x, hx, hl, hn, rfl⟩ := withO_inv hw
    rw [hd]; exact ⟨ha, by rw [hx]; exact ⟨hl, hn, hC⟩⟩
  | alloc zs =>
    dsimp only [semK] at hs ⊢
    obtain ⟨d, hd, ha, hw⟩ := withO_inv hs
    obtain ⟨x, hx, hl, hn, rfl⟩ := withO_inv hw
    rw [hd]; exact ⟨ha, by rw [hx]; exact ⟨hl, hn, hC⟩⟩
  | bsl e sz =>
    dsimp only [semK] at hs ⊢
    obtain ⟨d, hd, ha, hw⟩ := withO_inv hs
    obtain ⟨x, hx, hl, hn, rfl⟩ := withO_inv hw
    rw [hd]; exact ⟨ha, by rw [hx]; exact ⟨hl, hn, hC⟩⟩
  | store n =>
    dsimp only [semK] at hs ⊢
    obtain ⟨ha, hw⟩ := hs
    obtain ⟨x, hx, hl, rfl⟩ := withO_inv hw
    exact ⟨ha, by rw [hx]; exact ⟨hl, hC⟩⟩
  | app e sz bytes =>
    dsimp only [semK] at hs ⊢
    obtain ⟨ha, hw⟩ := hs
    refine ⟨ha, ?_⟩
    by_cases ho : isOwn (xs.map strip) = true
    · rw [if_pos ho] at hw ⊢
      obtain ⟨x, hx, hl, rfl⟩ := withO_inv hw
      rw [hx]; exact ⟨hl, hC⟩
    · rw [if_neg ho] at hw ⊢
      obtain ⟨d, hd, hw⟩ := withO_inv hw
      obtain ⟨x, hx, hl, hn, rfl⟩ := withO_inv hw
      rw [hd]
      show withO (semF _ d _ _) _
      rw [hx]; exact ⟨hl, hn, hC⟩
  | call f =>
    dsimp only [semK, semCall] at hs ⊢
    obtain ⟨d, hd, ha, hw⟩ := withO_inv hs
    obtain ⟨ys, hys, hw⟩ := withO_inv hw
    obtain ⟨⟨φ, r⟩, hr, h1, h2, h3, h4, rfl⟩ := withO_inv hw
    rw [hd]; exact ⟨ha, by rw [hys]; show withO (gt Γ f ys) _; rw [hr]; exact ⟨h1, h2, h3, h4, hC⟩⟩
  | _ =>
    obtain ⟨ha, hw⟩ := hs
    obtain ⟨x, hx, hl, rfl⟩ := withO_inv hw
    exact ⟨ha, by rw [hx]; exact ⟨hl, hC⟩⟩

theorem semG_mono {P : Program} {Γ : Tab} {c : Bool} {d : Option Nat} {k : AK} {xs : List AV} {objs : Nat → Option AO} {e : Eff} {C : Eff → Prop} (hC : C e) (hs : semG P Γ c d k xs objs fun e' => e' = e) : semG P Γ c d k xs objs C := by
  have hmk : ∀ {v : AV}, ((c = true → semK P Γ d k xs objs fun e' => e' = e) ∧ (c = false → Eff.put v = e)) → ((c = true → semK P Γ d k xs objs C) ∧ (c = false → C (.put v))) :=
    fun h => ⟨fun hc => semK_mono hC (h.1 hc), fun hc => by rw [h.2 hc]; exact hC⟩
  cases k with
  | mov =>
    dsimp only [semG] at hs ⊢
    obtain ⟨x, hx, hl, rfl⟩ := withO_inv hs
    rw [hx]; exact ⟨hl, hC⟩
  | pick =>
    dsimp only [semG] at hs ⊢
    obtain ⟨x, hx, hl, rfl⟩ := withO_inv hs
    rw [hx]; exact ⟨hl, hC⟩
  | nilS e => exact hmk hs
  | box => exact hmk hs
  | alloc zs => exact hmk hs
  | bsl e sz => exact hmk hs
  | store n => exact hmk hs
  | app e sz bytes => exact hmk hs
  | call f =>
    dsimp only [semG] at hs ⊢
    obtain ⟨ys, hys, hs⟩ := withO_inv hs
    obtain ⟨⟨φ, r⟩, hr, hs⟩ := withO_inv hs
    rw [hys]; show withO (gt Γ f ys) _; rw [hr]; show ite _ _ _
    split at hs
    · rename_i hif; obtain ⟨h1, h2, h3, h4, rfl⟩ := hs; rw [if_pos hif]; exact ⟨h1, h2, h3, h4, hC⟩
    · rename_i hif; rw [if_neg hif]; exact hmk hs
  | _ =>
    dsimp only [semG] at hs ⊢
    obtain ⟨x, hx, hl, rfl⟩ := withO_inv hs
    rw [hx]; exact ⟨hl, hC⟩

theorem semI_mono {P : Program} {Γ : Tab} {i : AI} {vars : Nat → AV} {objs : Nat → Option AO} {e : Eff} {C : Eff → Prop} (hC : C e) (hs : semI P Γ i vars objs fun e' => e' = e) : semI P Γ i vars objs C := by
  unfold semI at hs ⊢
  cases hg : i.g with
  | none => rw [hg] at hs; exact semK_mono hC hs
  | some sw =>
    obtain ⟨s, w⟩ := sw
    rw [hg] at hs
    dsimp only at hs ⊢
    obtain ⟨c, hc, hs⟩ := withO_inv hs
    rw [hc]
    exact semG_mono hC hs

theorem stepI_iff {P : Program} {Γ : Tab} {i : AI} {K : St → Prop} {st : St} : stepI P Γ i K st ↔ ∃ e, Yi P Γ i st e ∧ K (e.on i.d st) := by
  constructor
  · rintro ⟨hu, hs⟩
    obtain ⟨e, ⟨ht, hK⟩, he⟩ := semI_pick hs
    exact ⟨e, ⟨hu, he, ht⟩, hK⟩
  · rintro ⟨e, ⟨hu, he, ht⟩, hK⟩
    exact ⟨hu, semI_mono (C := fun e => tgU i.un i.tg e ∧ K (e.on i.d st)) ⟨ht, hK⟩ he⟩

/-! ### Two that are apart -/

structure Apart (x y : AI) : Prop where
  xd : ∀ d, x.d = some d → d ∉ usesOf y ∧ y.d ≠ some d ∧ y.tg ≠ some d ∧ d < 1000
  yd : ∀ d, y.d = some d → d ∉ usesOf x ∧ x.tg ≠ some d ∧ d < 1000
  ya : (looksAway y.k = true ∧ y.un = []) ∨ (isApp x.k = false ∧ (writes x.k = true → ∃ s, x.tg = some s) ∧ ∀ t ∈ tagsOf x, t < 1000 ∧ y.un.contains t = true)
  xa : (looksAway x.k = true ∧ x.un = []) ∨ (isApp y.k = false ∧ (writes y.k = true → ∃ s, y.tg = some s) ∧ ∀ t ∈ tagsOf y, t < 1000 ∧ x.un.contains t = true)
  both : looksAway x.k = true ∨ looksAway y.k = true ∨ writes x.k = false ∨ writes y.k = false ∨ x.tg ≠ y.tg

theorem isSome'_iff {o : Option Nat} (h : isSome' o = true) : ∃ s, o = some s := by
  cases o with
  | none => cases h
  | some s => exact ⟨s, rfl⟩

theorem apart_spec {x y : AI} (h : apartO x y = true) : Apart x y := by
  unfold apartO at h
  simp only [Bool.and_eq_true] at h
  obtain ⟨⟨⟨⟨h1, h2⟩, h3⟩, h4⟩, h5⟩ := h
  refine ⟨fun d hd => ?_, fun d hd => ?_, ?_, ?_, ?_⟩
  · rw [hd] at h1
    simp only [Bool.and_eq_true, Bool.not_eq_true', List.contains_eq_mem, decide_eq_false_iff_not, bne_iff_ne, decide_eq_true_eq] at h1
    exact ⟨h1.1.1.1, h1.1.1.2, h1.1.2, h1.2⟩
  · rw [hd] at h2
    simp only [Bool.and_eq_true, Bool.not_eq_true', List.contains_eq_mem, decide_eq_false_iff_not, bne_iff_ne, decide_eq_true_eq] at h2
    exact ⟨h2.1.1, h2.1.2, h2.2⟩
  · simp only [Bool.or_eq_true, Bool.and_eq_true, Bool.not_eq_true', List.all_eq_true, decide_eq_true_eq, List.isEmpty_iff] at h3
    refine h3.imp id fun ⟨⟨ha, hb⟩, hc⟩ => ⟨ha, fun hw => ?_, fun t ht => hc t ht⟩
    rcases hb with hb | hb
    · rw [hb] at hw; cases hw
    · exact isSome'_iff hb
  · simp only [Bool.or_eq_true, Bool.and_eq_true, Bool.not_eq_true', List.all_eq_true, decide_eq_true_eq, List.isEmpty_iff] at h4
    refine h4.imp id fun ⟨⟨ha, hb⟩, hc⟩ => ⟨ha, fun hw => ?_, fun t ht => hc t ht⟩
    rcases hb with hb | hb
    · rw [hb] at hw; cases hw
    · exact isSome'_iff hb
  · simp only [Bool.or_eq_true, Bool.not_eq_true', bne_iff_ne] at h5
    rcases h5 with (((h | h) | h) | h) | h
    · exact .inl h
    · exact .inr (.inl h)
    · exact .inr (.inr (.inl h))
    · exact .inr (.inr (.inr (.inl h)))
    · exact .inr (.inr (.inr (.inr h)))

section
variable {P : Program} {Γ : Tab} {x y : AI} {st : St} {e e' : Eff}

theorem lookO_tag : ∀ {os : List (Nat × AO)} {t : Nat} {o : AO}, lookO os t = some o → ∃ x ∈ os, x.1 = t
  | [], _, _, h => by cases h
  | (s, v) :: os, t, o, h => by
    simp only [lookO] at h
    split at h
    · rename_i hs; exact ⟨(s, v), List.mem_cons_self, hs.symm⟩
    · obtain ⟨x, hx, h⟩ := lookO_tag h
      exact ⟨x, List.mem_cons_of_mem _ hx, h⟩

/-- What it adds lies under its tags. -/
theorem ov_tags {i : AI} {e : Eff} (he : EffOK i e) (htg : tgOK i.tg e) (hlt : ∀ t ∈ tagsOf i, t < 1000) (hw : writes i.k = true → ∃ s, i.tg = some s) (ha : isApp i.k = false) {t : Nat} (h : ov e t ≠ none) : (tagsOf i).contains (t % 1000) = true := by
  rcases he with ⟨v, rfl⟩ | ⟨hm, d, v, os, hd, rfl, hos⟩ | ⟨hwr, hm, t', o, rfl⟩ | ⟨hap, t, o, rfl⟩
  · exact absurd rfl h
  · cases hl : lookO os t with
    | none => exact absurd hl h
    | some o =>
      obtain ⟨x, hx, rfl⟩ := lookO_tag hl
      obtain ⟨p, hp⟩ := hos x hx
      have hmem : d ∈ tagsOf i := by unfold tagsOf; rw [if_pos hm, hd]; simp
      rw [hp, Nat.add_mul_mod_self_left, Nat.mod_eq_of_lt (hlt d hmem)]
      simpa using hmem
  · obtain ⟨s, hs⟩ := hw hwr
    have hmem : s ∈ tagsOf i := by
      unfold tagsOf
      rw [hm, hwr, hs]
      simp
    rw [hs] at htg
    have htg : t' = s := htg
    subst htg
    have : t = t' := by
      by_cases e : t = t'
      · exact e
      · exact absurd (by simp [ov, e]) h
    subst this
    rw [Nat.mod_eq_of_lt (hlt t hmem)]
    simpa using hmem
  · rw [ha] at hap; cases hap

theorem over_agree {i : AI} {e : Eff} {objs : Nat → Option AO} {U : List Nat} (he : EffOK i e) (htg : tgOK i.tg e) (hlt : ∀ t ∈ tagsOf i, t < 1000) (hU : ∀ t, noT U t → noT (tagsOf i) t) (hw : writes i.k = true → ∃ s, i.tg = some s) (ha : isApp i.k = false) :
    ∀ t, noT U t → objs t = over (ov e) objs t := by
  intro t ht
  unfold over
  cases ho : ov e t with
  | none => rfl
  | some o =>
    have h1 := ov_tags he htg hlt hw ha (t := t) (by rw [ho]; simp)
    have h2 := hU t ht
    unfold noT at h2
    rw [h1] at h2
    cases h2

/-- One is looked at where the other's effect has fallen, or not. -/
theorem Yi.across (hyx : (looksAway y.k = true ∧ y.un = []) ∨ (isApp x.k = false ∧ (writes x.k = true → ∃ s, x.tg = some s) ∧ ∀ t ∈ tagsOf x, t < 1000 ∧ y.un.contains t = true))
    (hax : looksAway y.k = true ∨ isApp y.k = false) (hyd : ∀ d, y.d = some d → x.d ≠ some d ∧ x.tg ≠ some d ∧ d < 1000) (hu : ∀ d, x.d = some d → d ∉ usesOf y)
    {vars : Nat → AV} {objs objs' : Nat → Option AO} {v : AV} (hag : ∀ T, (∀ t, noT T t → noT (tagsOf x) t) → (isApp x.k = false ∧ (writes x.k = true → ∃ s, x.tg = some s) ∧ ∀ t ∈ tagsOf x, t < 1000) → ∀ t, noT T t → objs t = objs' t) :
    Yi P Γ y ⟨Ab.put x.d v vars, objs⟩ e' ↔ Yi P Γ y ⟨vars, objs'⟩ e' := by
  have hvs : ∀ s ∈ usesOf y, Ab.put x.d v vars s = vars s := fun s hs => put_off fun hd => hu s hd hs
  have hev : y.xs.map (Ab.ev (Ab.put x.d v vars)) = y.xs.map (Ab.ev vars) := evs_agree fun s hs => hvs s (List.mem_append_left _ hs)
  have hsym : ∀ {f g : Nat → Option AO} {T : List Nat}, (∀ t, noT T t → f t = g t) → ∀ t, noT T t → g t = f t := fun h t ht => (h t ht).symm
  unfold Yi
  simp only [hev]
  rcases hyx with ⟨hy, hun⟩ | ⟨hxa, hxw, hxt⟩
  · constructor
    · rintro ⟨_, h, ht⟩
      exact ⟨.inl hun, semI_vars hvs ((semI_away_objs hy h).2 _), ht⟩
    · rintro ⟨_, h, ht⟩
      exact ⟨.inl hun, semI_vars (fun s hs => (hvs s hs).symm) ((semI_away_objs hy h).2 _), ht⟩
  · have hsub : ∀ t, noT y.un t → noT (tagsOf x) t := by
      intro t ht
      unfold noT at ht ⊢
      cases hc : (tagsOf x).contains (t % 1000) with
      | false => rfl
      | true => rw [(hxt _ (by simpa using hc)).2] at ht; cases ht
    have hx3 := (⟨hxa, hxw, fun t ht => (hxt t ht).1⟩ : isApp x.k = false ∧ (writes x.k = true → ∃ s, x.tg = some s) ∧ ∀ t ∈ tagsOf x, t < 1000)
    have hA := hag (tagsOf x) (fun _ h => h) hx3
    have hB := hag y.un hsub hx3
    have hd : ∀ s, y.d = some s → s < 1000 ∧ (tagsOf x).contains s = false := by
      intro s hs
      obtain ⟨h1, h2, h3⟩ := hyd s hs
      refine ⟨h3, ?_⟩
      unfold tagsOf
      split
      · cases hxd : x.d with
        | none => rfl
        | some d =>
          have : ¬ d = s := fun e => h1 (by rw [hxd, e])
          simpa [Option.toList, eq_comm] using this
      · split
        · cases hxd : x.tg with
          | none => rfl
          | some d =>
            have : ¬ d = s := fun e => h2 (by rw [hxd, e])
            simpa [Option.toList, eq_comm] using this
        · rfl
    by_cases hy : looksAway y.k = true
    · constructor
      · rintro ⟨hn, h, ht⟩
        exact ⟨hn.imp id fun hn => noMs_agree hB hn, semI_vars hvs ((semI_away_objs hy h).2 _), ht⟩
      · rintro ⟨hn, h, ht⟩
        exact ⟨hn.imp id fun hn => noMs_agree (hsym hB) hn, semI_vars (fun s hs => (hvs s hs).symm) ((semI_away_objs hy h).2 _), ht⟩
    · have hya := hax.resolve_left hy
      have hne : y.un = [] → ∀ (f : Nat → Option AO) (l : List AV), noMs (tagsOf x) f l := by
        intro hun f l
        have hnil : tagsOf x = [] := by
          cases h : tagsOf x with
          | nil => rfl
          | cons t ts =>
            have := (hxt t (by rw [h]; simp)).2
            rw [hun] at this
            simp at this
        rw [hnil]
        have hT : ∀ t, noT [] t := fun t => rfl
        have hC : ∀ v, noMC [] v := fun v => by cases v <;> first | trivial | exact hT _
        have hCs : ∀ cs, noMCs [] cs := fun cs => by induction cs with
          | nil => trivial
          | cons c cs ih => exact ⟨hC c, ih⟩
        have hP : ∀ v, noMP [] f v := fun v => by
          rcases ptrOr v with ⟨t, o, rfl⟩ | ⟨cs, rfl⟩ | h2
          · exact ⟨hT _, hCs _⟩
          · exact hCs _
          · rw [h2]; exact hC _
        have hPs : ∀ cs, noMPs [] f cs := fun cs => by induction cs with
          | nil => trivial
          | cons c cs ih => exact ⟨hP c, ih⟩
        induction l with
        | nil => trivial
        | cons c cs ih =>
          refine ⟨?_, ih⟩
          rcases cloOr c with ⟨f, cs, rfl⟩ | ⟨_, h2⟩
          · exact hPs _
          · rw [h2]; exact hP _
      constructor
      · rintro ⟨hn, h, ht⟩
        refine ⟨hn.imp id fun hn => noMs_agree hB hn, ?_, ht⟩
        have h := semI_vars hvs h
        refine semI_local hA hya hd (.inr ?_) h
        rcases hn with hn | hn
        · exact hne hn _ _
        · exact noMs_sub hsub hn
      · rintro ⟨hn, h, ht⟩
        refine ⟨hn.imp id fun hn => noMs_agree (hsym hB) hn, ?_, ht⟩
        have h := semI_vars (vars' := Ab.put x.d v vars) (fun s hs => (hvs s hs).symm) h
        refine semI_local (hsym hA) hya hd (.inr ?_) h
        rw [hev]
        rcases hn with hn | hn
        · exact hne hn _ _
        · exact noMs_sub hsub hn

end
end Go.Proofs.Ythblkhafehanfaa.Ab
