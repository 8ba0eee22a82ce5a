/- The abstract machine: two operations of one region that may change places. -/
import Derived.Test.YthblkhafehanfaaAb14
namespace Go.Proofs.Ythblkhafehanfaa.Ab
open Go Go.RowKit
set_option linter.unusedVariables false
set_option linter.unusedSimpArgs false

/-! ### What an operation may come to -/

theorem semK_pick {P : Program} {Γ : Tab} {d : Option Nat} {k : AK} {xs : List AV} {objs : Nat → Option AO} {C : Eff → Prop} (hs : semK P Γ d k xs objs C) : ∃ e, C e ∧ semK P Γ d k xs objs fun e' => e' = e := by
  cases k with
  | mov =>
    dsimp only [semK] at hs ⊢
    obtain ⟨x, hx, hl, hC⟩ := withO_inv hs
    exact ⟨_, hC, by rw [hx]; exact ⟨hl, rfl⟩⟩
  | pick =>
    dsimp only [semK] at hs ⊢
    obtain ⟨x, hx, hl, hC⟩ := withO_inv hs
    exact ⟨_, hC, by rw [hx]; exact ⟨hl, rfl⟩⟩
  | nilS e =>
    dsimp only [semK] at hs ⊢
    obtain ⟨d, hd, ha, hw⟩ := withO_inv hs
    obtain ⟨x, hx, hl, hn, hC⟩ := withO_inv hw
    exact ⟨_, hC, by rw [hd]; exact ⟨ha, by rw [hx]; exact ⟨hl, hn, rfl⟩⟩⟩
  | box =>
    dsimp only [semK] at hs ⊢
    obtain ⟨d, hd, ha, hw⟩ := withO_inv hs
    obtain ⟨x, hx, hl, hn, hC⟩ := withO_inv hw
    exact ⟨_, hC, by rw [hd]; exact ⟨ha, by rw [hx]; exact ⟨hl, hn, rfl⟩⟩⟩
  | alloc zs =>
    dsimp only [semK] at hs ⊢
    obtain ⟨d, hd, ha, hw⟩ := withO_inv hs
    obtain ⟨x, hx, hl, hn, hC⟩ := withO_inv hw
    exact ⟨_, hC, by rw [hd]; exact ⟨ha, by rw [hx]; exact ⟨hl, hn, rfl⟩⟩⟩
  | bsl e sz =>
    dsimp only [semK] at hs ⊢
    obtain ⟨d, hd, ha, hw⟩ := withO_inv hs
    obtain ⟨x, hx, hl, hn, hC⟩ := withO_inv hw
    exact ⟨_, hC, by rw [hd]; exact ⟨ha, by rw [hx]; exact ⟨hl, hn, rfl⟩⟩⟩
  | store n =>
    dsimp only [semK] at hs ⊢
    obtain ⟨ha, hw⟩ := hs
    obtain ⟨x, hx, hl, hC⟩ := withO_inv hw
    exact ⟨_, hC, ha, by rw [hx]; exact ⟨hl, rfl⟩⟩
  | app e sz bytes =>
    dsimp only [semK] at hs ⊢
    obtain ⟨ha, hw⟩ := hs
    by_cases ho : isOwn (xs.map strip) = true
    · rw [if_pos ho] at hw
      obtain ⟨x, hx, hl, hC⟩ := withO_inv hw
      exact ⟨_, hC, ha, by rw [if_pos ho, hx]; exact ⟨hl, rfl⟩⟩
    · rw [if_neg ho] at hw
      obtain ⟨d, hd, hw⟩ := withO_inv hw
      obtain ⟨x, hx, hl, hn, hC⟩ := withO_inv hw
      exact ⟨_, hC, ha, by rw [if_neg ho, hd]; show withO (semF _ d _ _) _; rw [hx]; exact ⟨hl, hn, rfl⟩⟩
  | call f =>
    dsimp only [semK, semCall] at hs ⊢
    obtain ⟨d, hd, ha, hw⟩ := withO_inv hs
    obtain ⟨ys, hys, hw⟩ := withO_inv hw
    obtain ⟨⟨φ, r⟩, hr, h1, h2, h3, h4, hC⟩ := withO_inv hw
    exact ⟨_, hC, by rw [hd]; exact ⟨ha, by rw [hys]; show withO (gt Γ f ys) _; rw [hr]; exact ⟨h1, h2, h3, h4, rfl⟩⟩⟩
  | _ =>
    obtain ⟨ha, hw⟩ := hs
    obtain ⟨x, hx, hl, hC⟩ := withO_inv hw
    exact ⟨_, hC, ha, by rw [hx]; exact ⟨hl, rfl⟩⟩

theorem semG_pick {P : Program} {Γ : Tab} {c : Bool} {d : Option Nat} {k : AK} {xs : List AV} {objs : Nat → Option AO} {C : Eff → Prop} (hs : semG P Γ c d k xs objs C) : ∃ e, C e ∧ semG P Γ c d k xs objs fun e' => e' = e := by
  have hmk : ∀ {v : AV}, ((c = true → semK P Γ d k xs objs C) ∧ (c = false → C (.put v))) → ∃ e, C e ∧ ((c = true → semK P Γ d k xs objs fun e' => e' = e) ∧ (c = false → Eff.put v = e)) := by
    rintro v ⟨ht, hf⟩
    cases c with
    | true =>
      obtain ⟨e, he, hs⟩ := semK_pick (ht rfl)
      exact ⟨e, he, fun _ => hs, fun h => by cases h⟩
    | false => exact ⟨_, hf rfl, fun h => (by cases h), fun _ => rfl⟩
  cases k with
  | mov =>
    dsimp only [semG] at hs ⊢
    obtain ⟨x, hx, hl, hC⟩ := withO_inv hs
    exact ⟨_, hC, by rw [hx]; exact ⟨hl, rfl⟩⟩
  | pick =>
    dsimp only [semG] at hs ⊢
    obtain ⟨x, hx, hl, hC⟩ := withO_inv hs
    exact ⟨_, hC, by rw [hx]; exact ⟨hl, rfl⟩⟩
  | nilS e => exact hmk hs
  | box => exact hmk hs
  | alloc zs => exact hmk hs
  | bsl e sz => exact hmk hs
  | store n => exact hmk hs
  | app e sz bytes => exact hmk hs
  | call f =>
    dsimp only [semG] at hs ⊢
    obtain ⟨ys, hys, hs⟩ := withO_inv hs
    obtain ⟨⟨φ, r⟩, hr, hs⟩ := withO_inv hs
    split at hs
    · rename_i hif
      obtain ⟨h1, h2, h3, h4, hC⟩ := hs
      exact ⟨_, hC, by rw [hys]; show withO (gt Γ f ys) _; rw [hr]; show ite _ _ _; rw [if_pos hif]; exact ⟨h1, h2, h3, h4, rfl⟩⟩
    · rename_i hif
      obtain ⟨e, he, hs⟩ := hmk hs
      exact ⟨e, he, by rw [hys]; show withO (gt Γ f ys) _; rw [hr]; show ite _ _ _; rw [if_neg hif]; exact hs⟩
  | _ =>
    dsimp only [semG] at hs ⊢
    obtain ⟨x, hx, hl, hC⟩ := withO_inv hs
    exact ⟨_, hC, by rw [hx]; exact ⟨hl, rfl⟩⟩

theorem semI_pick {P : Program} {Γ : Tab} {i : AI} {vars : Nat → AV} {objs : Nat → Option AO} {C : Eff → Prop} (hs : semI P Γ i vars objs C) : ∃ e, C e ∧ semI P Γ i vars objs fun e' => e' = e := by
  unfold semI at hs ⊢
  cases hg : i.g with
  | none => rw [hg] at hs; exact semK_pick hs
  | some sw =>
    obtain ⟨s, w⟩ := sw
    rw [hg] at hs
    dsimp only at hs ⊢
    obtain ⟨c, hc, hs⟩ := withO_inv hs
    obtain ⟨e, he, hs⟩ := semG_pick hs
    exact ⟨e, he, by rw [hc]; exact hs⟩

/-! ### What it comes to hangs on the objects that it names -/

theorem cloOr (v : AV) : (∃ f cs, v = .clo f cs) ∨ ((∀ objs, rei objs v = rei1 objs v) ∧ ∀ T objs, noM T objs v = noMP T objs v) := by
  cases v <;> first | exact .inl ⟨_, _, rfl⟩ | exact .inr ⟨fun _ => rfl, fun _ _ => rfl⟩
theorem ptrOr (v : AV) : (∃ t o, v = .ptr t o) ∨ (∃ cs, v = .agg cs) ∨ ∀ T objs, noMP T objs v = noMC T v := by
  cases v <;> first | exact .inl ⟨_, _, rfl⟩ | exact .inr (.inl ⟨_, rfl⟩) | exact .inr (.inr fun _ _ => rfl)
theorem ownOr (v : AV) : ((∃ t, v = .own t) ∨ ∃ t e lo hi, v = .sub t e lo hi) ∨ ∀ objs objs', reiP objs v = reiP objs' v := by
  cases v <;> first | exact .inl (.inl ⟨_, rfl⟩) | exact .inl (.inr ⟨_, _, _, _, rfl⟩) | exact .inr fun _ _ => rfl | (rename_i p; exact .inr fun _ _ => by cases p <;> rfl)

section
variable {T : List Nat} {objs objs' : Nat → Option AO} (hag : ∀ t, noT T t → objs t = objs' t)
include hag

theorem reiP_local {v : AV} (h : noMC T v) : reiP objs v = reiP objs' v := by
  rcases ownOr v with (⟨t, rfl⟩ | ⟨t, e, lo, hi, rfl⟩) | hv
  · simp only [reiP]; rw [hag t h]
  · simp only [reiP]; rw [hag t h]
  · exact hv _ _
theorem reiPs_local : ∀ {cs : List AV}, noMCs T cs → reiPs objs cs = reiPs objs' cs
  | [], _ => rfl
  | c :: cs, h => by simp only [reiPs]; rw [reiP_local hag h.1, reiPs_local h.2]
omit hag in
theorem noMCs_drop : ∀ {cs : List AV} (n : Nat), noMCs T cs → noMCs T (cs.drop n)
  | [], n, _ => by simp [noMCs]
  | c :: cs, 0, h => h
  | c :: cs, n + 1, h => noMCs_drop n h.2
theorem rei1_local {v : AV} (h : noMP T objs v) : rei1 objs v = rei1 objs' v := by
  cases v with
  | ptr t o =>
    obtain ⟨h1, h2⟩ := h
    simp only [rei1]
    rw [← hag t h1]
    cases hb : boxO (objs t) with
    | none => rfl
    | some cs =>
      rw [hb] at h2
      simp only [Option.getD_some] at h2
      simp only [Option.bind_some]
      rw [reiPs_local hag (noMCs_drop o h2)]
  | agg cs =>
    simp only [rei1]
    rw [reiPs_local hag h]
  | clo f cs => cases cs <;> rfl
  | rp cs => rfl
  | pv p => cases p <;> rfl
  | own t => exact congrArg (Option.map AV.pv) (reiP_local hag (v := .own t) h)
  | eptr t e i o => rfl
  | sub t e lo hi => exact congrArg (Option.map AV.pv) (reiP_local hag (v := .sub t e lo hi) h)
  | tup vs => rfl
  | fr e rows => rfl
  | bx cs => rfl
  | mf es => rfl
  | cnd g v => rfl
  | junk => rfl
theorem rei1s_local : ∀ {cs : List AV}, noMPs T objs cs → rei1s objs cs = rei1s objs' cs
  | [], _ => rfl
  | c :: cs, h => by simp only [rei1s]; rw [rei1_local hag h.1, rei1s_local h.2]
theorem rei_local {v : AV} (h : noM T objs v) : rei objs v = rei objs' v := by
  rcases cloOr v with ⟨f, cs, rfl⟩ | ⟨h1, h2⟩
  · exact congrArg (Option.map (AV.clo f)) (rei1s_local hag h)
  · rw [h1, h1]; rw [h2] at h; exact rei1_local hag h
theorem reis_local : ∀ {cs : List AV}, noMs T objs cs → reis objs cs = reis objs' cs
  | [], _ => rfl
  | c :: cs, h => by simp only [reis]; rw [rei_local hag h.1, reis_local h.2]

theorem noMP_agree {v : AV} (h : noMP T objs v) : noMP T objs' v := by
  rcases ptrOr v with ⟨t, o, rfl⟩ | ⟨cs, rfl⟩ | h2
  · exact ⟨h.1, by rw [← hag t h.1]; exact h.2⟩
  · exact h
  · rw [h2] at h ⊢; exact h
theorem noMPs_agree : ∀ {cs : List AV}, noMPs T objs cs → noMPs T objs' cs
  | [], _ => trivial
  | c :: cs, h => ⟨noMP_agree hag h.1, noMPs_agree h.2⟩
theorem noM_agree {v : AV} (h : noM T objs v) : noM T objs' v := by
  rcases cloOr v with ⟨f, cs, rfl⟩ | ⟨h1, h2⟩
  · exact noMPs_agree hag h
  · rw [h2] at h ⊢; exact noMP_agree hag h
theorem noMs_agree : ∀ {cs : List AV}, noMs T objs cs → noMs T objs' cs
  | [], _ => trivial
  | c :: cs, h => ⟨noM_agree hag h.1, noMs_agree h.2⟩
end

section
variable {T U : List Nat} {objs : Nat → Option AO} (hsub : ∀ t, noT U t → noT T t)
include hsub
theorem noMC_sub {v : AV} (h : noMC U v) : noMC T v := by
  cases v <;> first | trivial | exact hsub _ h
theorem noMCs_sub : ∀ {cs : List AV}, noMCs U cs → noMCs T cs
  | [], _ => trivial
  | c :: cs, h => ⟨noMC_sub hsub h.1, noMCs_sub h.2⟩
theorem noMP_sub {v : AV} (h : noMP U objs v) : noMP T objs v := by
  rcases ptrOr v with ⟨t, o, rfl⟩ | ⟨cs, rfl⟩ | h2
  · exact ⟨hsub _ h.1, noMCs_sub hsub h.2⟩
  · exact noMCs_sub hsub h
  · rw [h2] at h ⊢; exact noMC_sub hsub h
theorem noMPs_sub : ∀ {cs : List AV}, noMPs U objs cs → noMPs T objs cs
  | [], _ => trivial
  | c :: cs, h => ⟨noMP_sub hsub h.1, noMPs_sub h.2⟩
theorem noM_sub {v : AV} (h : noM U objs v) : noM T objs v := by
  rcases cloOr v with ⟨f, cs, rfl⟩ | ⟨h1, h2⟩
  · exact noMPs_sub hsub h
  · rw [h2] at h ⊢; exact noMP_sub hsub h
theorem noMs_sub : ∀ {cs : List AV}, noMs U objs cs → noMs T objs cs
  | [], _ => trivial
  | c :: cs, h => ⟨noM_sub hsub h.1, noMs_sub h.2⟩
end

theorem semQ_away {k : AK} {ys : List AV} {objs objs' : Nat → Option AO} {r : Prop × AV} (hk : looksAway k = true) (h : semQ k ys objs = some r) : semQ k ys objs' = some r := by
  unfold semQ at h
  split at h <;> first | exact h | (simp [looksAway] at hk; done) | cases h

section
variable {T : List Nat} {objs objs' : Nat → Option AO} (hag : ∀ t, noT T t → objs t = objs' t)
include hag

theorem rowsB_local {x : AV} (h : noM T objs x) : rowsB objs x = rowsB objs' x := by
  cases x with
  | own t => simp only [rowsB]; rw [hag t h]
  | sub t e lo hi => simp only [rowsB]; rw [hag t h]
  | pv p => cases p <;> rfl
  | _ => rfl
theorem semQ_local {k : AK} {ys : List AV} {r : Prop × AV} (hno : noMs T objs ys) (h : semQ k ys objs = some r) : semQ k ys objs' = some r := by
  unfold semQ at h
  split at h <;> first
    | exact h
    | (simp only [semQ]; rw [← hag _ hno.1]; exact h)
    | (simp only [semQ]; rw [← hag _ hno.1.1]; exact h)
    | (simp only [semQ]; rw [← rowsB_local hag hno.1]; exact h)
    | cases h

theorem semM_local {k : AK} {ys : List AV} {r : Prop × Nat × AO} (hk : isApp k = false) (hno : noMs T objs ys) (h : semM k ys objs = some r) : semM k ys objs' = some r := by
  unfold semM at h
  split at h <;> first
    | (simp only [semM]; rw [← hag _ hno.1]; exact h)
    | (simp only [semM]; rw [← hag _ hno.1.1]; exact h)
    | (simp [isApp] at hk; done)
    | cases h

omit hag in
theorem semF_away {k : AK} {d : Nat} {ys : List AV} {r : Prop × AV × AO} (hk : isApp k = false) (h : semF k d ys objs = some r) : semF k d ys objs' = some r := by
  unfold semF at h
  split at h <;> first | exact h | (simp [isApp] at hk; done) | cases h

theorem semK_local {P : Program} {Γ : Tab} {d : Option Nat} {k : AK} {xs : List AV} {C : Eff → Prop} (hk : isApp k = false) (hd : ∀ s, d = some s → s < 1000 ∧ T.contains s = false) (hno : looksAway k = true ∨ noMs T objs (xs.map strip))
    (hs : semK P Γ d k xs objs C) : semK P Γ d k xs objs' C := by
  have hfree : ∀ s p, d = some s → objs (s + 1000 * p) = objs' (s + 1000 * p) := by
    intro s p hs
    refine hag _ ?_
    unfold noT
    rw [Nat.add_mul_mod_self_left, Nat.mod_eq_of_lt (hd s hs).1]
    exact (hd s hs).2
  have hmk : ∀ {k : AK}, isApp k = false → (withO d fun d => asksL xs ∧ withO (semF k d (xs.map strip) objs) fun x => x.1 ∧ objs d = none ∧ C (.new x.2.1 [(d, x.2.2)])) →
      withO d fun d => asksL xs ∧ withO (semF k d (xs.map strip) objs') fun x => x.1 ∧ objs' d = none ∧ C (.new x.2.1 [(d, x.2.2)]) := by
    intro k hk hw
    obtain ⟨s, hs, ha, hw⟩ := withO_inv hw
    obtain ⟨x, hx, hφ, hn, hC⟩ := withO_inv hw
    rw [hs]
    refine ⟨ha, ?_⟩
    rw [semF_away (objs := objs) (objs' := objs') hk hx]
    have := hfree s 0 hs
    simp only [Nat.mul_zero, Nat.add_zero] at this
    exact ⟨hφ, this ▸ hn, hC⟩
  cases k with
  | mov => exact hs
  | pick => exact hs
  | nilS e => exact hmk (k := .nilS e) rfl hs
  | box => exact hmk (k := .box) rfl hs
  | alloc zs => exact hmk (k := .alloc zs) rfl hs
  | bsl e sz => exact hmk (k := .bsl e sz) rfl hs
  | store n =>
    have hno := hno.resolve_left (by simp [looksAway])
    obtain ⟨ha, hw⟩ := hs
    refine ⟨ha, ?_⟩
    obtain ⟨x, hx, hC⟩ := withO_inv hw
    rw [semM_local hag hk hno hx]
    exact hC
  | app e sz bytes => simp [isApp] at hk
  | call f =>
    have hno := hno.resolve_left (by simp [looksAway])
    dsimp only [semK, semCall] at hs ⊢
    obtain ⟨s, hs', ha, hw⟩ := withO_inv hs
    obtain ⟨ys, hys, hw⟩ := withO_inv hw
    obtain ⟨⟨φ, r⟩, hr, h1, h2, h3, h4, hC⟩ := withO_inv hw
    rw [hs']
    refine ⟨ha, ?_⟩
    rw [← reis_local hag hno, hys]
    show withO (gt Γ f ys) _
    rw [hr]
    refine ⟨h1, h2, ?_, h4, hC⟩
    intro x hx
    have := h3 x hx
    obtain ⟨y, hy⟩ := newO_tags s r x hx
    rw [hy] at this ⊢
    rw [← hfree s y hs']
    exact this
  | _ =>
    obtain ⟨ha, hw⟩ := hs
    refine ⟨ha, ?_⟩
    obtain ⟨x, hx, hC⟩ := withO_inv hw
    rw [hno.elim (fun h => semQ_away (objs' := objs') h hx) (fun h => semQ_local hag h hx)]
    exact hC

theorem semG_local {P : Program} {Γ : Tab} {c : Bool} {d : Option Nat} {k : AK} {xs : List AV} {C : Eff → Prop} (hk : isApp k = false) (hd : ∀ s, d = some s → s < 1000 ∧ T.contains s = false) (hno : looksAway k = true ∨ noMs T objs (xs.map strip))
    (hs : semG P Γ c d k xs objs C) : semG P Γ c d k xs objs' C := by
  have hmk : ∀ {v : AV}, ((c = true → semK P Γ d k xs objs C) ∧ (c = false → C (.put v))) → ((c = true → semK P Γ d k xs objs' C) ∧ (c = false → C (.put v))) :=
    fun h => ⟨fun hc => semK_local hag hk hd hno (h.1 hc), h.2⟩
  cases k with
  | mov => exact hs
  | pick => exact hs
  | nilS e => exact hmk hs
  | box => exact hmk hs
  | alloc zs => exact hmk hs
  | bsl e sz => exact hmk hs
  | store n => exact hmk hs
  | app e sz bytes => exact hmk hs
  | call f =>
    have hno := hno.resolve_left (by simp [looksAway])
    dsimp only [semG] at hs ⊢
    rw [← reis_local hag hno]
    obtain ⟨ys, hys, hs⟩ := withO_inv hs
    obtain ⟨⟨φ, r⟩, hr, hs⟩ := withO_inv hs
    rw [hys]; show withO (gt Γ f ys) _; rw [hr]; show ite _ _ _
    split at hs
    · rename_i hif; rw [if_pos hif]; exact hs
    · rename_i hif; rw [if_neg hif]; exact hmk hs
  | _ =>
    dsimp only [semG] at hs ⊢
    obtain ⟨x, hx, hC⟩ := withO_inv hs
    rw [hno.elim (fun h => semQ_away (objs' := objs') h hx) (fun h => semQ_local hag h hx)]
    exact hC
end

end Go.Proofs.Ythblkhafehanfaa.Ab
