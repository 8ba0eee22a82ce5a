/- The abstract machine is sound: a step that calls a function that takes objects whole, or borrows them. -/
import Derived.Test.YthblkhafehanfaaAu2
import Derived.Test.YthblkhafehanfaaAg2
namespace Go.Proofs.Ythblkhafehanfaa.Ab
open Go Go.RowKit

section
variable {P : Program} {S0 L : Nat → Prop} {B0 : Nat → Value} {w0 w : World} {N : Nat} {st : St} {a : Act} {β : Nat → Value}

theorem ysG_junk {objs objs' : Nat → Option AO} {T ks : List Nat} {xs : List AV} (h : ysG objs objs' T ks xs = some [.junk]) : False := by
  have hr : ∀ {x : AV} {r : AV × List Nat}, rd 5 objs x = some r → r.1 ≠ .junk := by
    intro x r h e
    unfold rd at h
    split at h
    · obtain ⟨y, hy, rfl⟩ := Option.map_eq_some_iff.1 h
      simp only at e
      subst e
      unfold rdO at hy
      split at hy <;> cases hy
    · obtain ⟨_, _, h⟩ := Option.bind_eq_some_iff.1 h
      obtain ⟨_, _, rfl⟩ := Option.map_eq_some_iff.1 h
      cases e
    · obtain ⟨_, _, rfl⟩ := Option.map_eq_some_iff.1 h
      cases e
    · cases h; cases e
    · cases h; cases e
    · cases h; cases e
    · cases h
  match ks, xs with
  | [], [] => cases h
  | [], _ :: _ => cases h
  | _ :: _, [] => cases h
  | k :: ks, x :: xs =>
    obtain ⟨y, hy, h⟩ := Option.bind_eq_some_iff.1 h
    obtain ⟨ys, _, h⟩ := Option.map_eq_some_iff.1 h
    have e : y = .junk := by injection h
    subst e
    split at hy
    · exact rei_notJunk hy
    · split at hy
      · obtain ⟨r, h1, h2⟩ := Option.map_eq_some_iff.1 hy
        exact hr h1 h2
      · obtain ⟨r, _, h2⟩ := Option.map_eq_some_iff.1 hy
        cases h2

theorem noF {n f : Nat} (h0 : n ≤ 1000000) (h2 : 3000000 ≤ f + 2000000) (h : f < n) : False := by omega
theorem sound_stepG {Γ : Tab} (hL : ∀ b, L b → S0 b) (hΓ : TabOK P Γ) (h : Rel P S0 L B0 w0 N st a w β) {d : Option Nat} (hd : ∀ s, d = some s → s < N) {f : FuncId} (hfn : isFn P f = true) {K : St → Prop} {vals : List Value} {xs : List AV} (hl : vals.length = xs.length)
    (hv : asksL xs → ∀ (i : Nat) (v : Value) (x : AV), vals[i]? = some v → (xs.map strip)[i]? = some x → RV P (okS S0 w0.heap.size β st.objs w) w β (dom st.objs) v x)
    (hs : stepG Γ d f xs (flagG Γ f) K st) : Calls P f vals.toArray w fun e w' => ∃ v β' st', e = .returned v ∧ K st' ∧ Rel P S0 L B0 w0 N st' (a.put d v) w' β' := by
  unfold stepG at hs
  obtain ⟨d, rfl, ha, hs⟩ := withO_inv hs
  obtain ⟨ks, _, hs⟩ := withO_inv hs
  obtain ⟨hTn, hQT, hs⟩ := hs
  obtain ⟨hQn0, hs⟩ := hs
  obtain ⟨ys, hys, hs⟩ := withO_inv hs
  obtain ⟨⟨φ, x⟩, hx, hφ, hpf, hs⟩ := withO_inv hs
  obtain ⟨o, ho, ho1, hs⟩ := withO_inv hs
  obtain ⟨r, hr, hfree, hK⟩ := withO_inv hs
  have hdN := hd d rfl
  have hlim := h.lim
  have hcon : ConG P f ys x := by
    rcases hΓ (f + 2000000) ys φ x hx hφ with ⟨h1, _⟩ | ⟨_, _, h1, _⟩ | ⟨_, _, _, h1 | h1⟩ | ⟨h0, h1, _⟩
    · exact absurd h1 (Nat.not_lt.2 (Nat.le_trans (by decide) (Nat.le_add_left 2000000 f)))
    · exact absurd h1 (Nat.not_lt.2 (Nat.le_add_left 2000000 f))
    · subst h1; exact (ysG_junk hys).elim
    · rw [show f + 2000000 - 2000000 = f from Nat.add_sub_cancel _ _] at h1
      exact h1
    · exact (noF h0 h1 (isFn_lt hfn)).elim
  have hQn : ∀ {T Q : List Nat}, T.Nodup → Q.Nodup → (∀ t ∈ Q, t ∈ T) → (Q ++ poolG d T (T.filter fun t => !Q.contains t)).Nodup := by
    intro T Q hT hQ hQT
    unfold poolG
    rw [List.nodup_append, List.nodup_append]
    refine ⟨hQ, ⟨List.Pairwise.filter _ (List.Pairwise.filter _ hT), List.Pairwise.filter _ (pool8_nodup d), ?_⟩, ?_⟩
    · rintro x hx y hy rfl
      have h1 := (List.mem_filter.1 (List.mem_filter.1 hx).1).1
      have h2 := (List.mem_filter.1 hy).2
      simp at h2
      exact h2 h1
    · rintro x hx y hy rfl
      rcases List.mem_append.1 hy with hy | hy
      · have h2 := (List.mem_filter.1 (List.mem_filter.1 hy).1).2
        simp at h2
        exact h2 hx
      · have h2 := (List.mem_filter.1 hy).2
        simp at h2
        exact h2 (hQT _ hx)
  refine (call_G (a := a) (fun _ => hL) h (by omega) (by rw [hl, List.length_map]) (hv ha) rfl rfl rfl hTn hQT (hQn hTn hQn0 hQT) hys hcon hpf ho ho1 hr hfree).mono ?_
  rintro e w' ⟨v, β', rfl, hR, hrv⟩
  exact ⟨v, β', _, rfl, hK, hR.put hd hrv⟩
end

end Go.Proofs.Ythblkhafehanfaa.Ab
