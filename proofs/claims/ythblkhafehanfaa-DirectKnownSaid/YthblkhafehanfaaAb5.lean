/- The abstract machine is sound, first part: what becomes of the plain reading of values and memory when memory changes. -/
import Derived.Test.YthblkhafehanfaaAb3
import Derived.Deep.AppendLies
import Derived.Deep.Draws
import Derived.Maps.AppendAt
import Derived.Laws.OwnMore
namespace Go.Proofs.Ythblkhafehanfaa.Ab
open Go Go.RowKit
set_option linter.unusedVariables false
set_option linter.unusedSimpArgs false

theorem add_block (a : Addr) (n : Nat) : (a.add n).block = a.block := by unfold Addr.add; split <;> rfl
theorem add_add' (a : Addr) (i j : Nat) : (a.add i).add j = a.add (i + j) := by
  unfold Addr.add
  by_cases hi : i = 0 <;> by_cases hj : j = 0 <;> simp [hi, hj, Nat.add_assoc]

section
variable {P : Program} {S S' : Nat → Prop} {w w' : World} {β β' : Nat → Value} {D D' : Nat → Prop}

theorem cell_same {ad : Addr} (h : w'.heap[ad.block]? = w.heap[ad.block]?) (n : Nat) : w'.cell? (ad.add n) = w.cell? (ad.add n) :=
  World.cell?_of_block (by rw [add_block]; exact h)

/-- The block's cells are the same, or it is the same map. -/
def SameB (w w' : World) (b : Nat) : Prop := (∀ ad : Addr, ad.block = b → w'.cell? ad = w.cell? ad) ∧ ∀ (us : Array MapEntry) (c : Nat), w.heap[b]? = some (.map us c) → w'.heap[b]? = some (.map us c)
theorem SameB.of {b : Nat} (h : w'.heap[b]? = w.heap[b]?) : SameB w w' b := ⟨fun ad e => World.cell?_of_block (by rw [e]; exact h), fun us c hm => h.trans hm⟩

theorem RPV.mono2 {v : Value} {p : PV} (h : RPV S w v p) (hS : ∀ b, S b → S' b ∧ SameB w w' b) : RPV S' w' v p := by
  induction h with
  | int k n => exact .int k n
  | bool b => exact .bool b
  | str l => exact .str l
  | nil => exact .nil
  | val v h => exact .val v h
  | mp b us c ks h1 h2 h3 h4 => exact .mp b us c ks (hS _ h1).1 ((hS _ h1).2.2 _ _ h2) h3 h4
  | mv b us c es h1 h2 h3 h4 h5 h6 ih => exact .mv b us c es (hS _ h1).1 ((hS _ h1).2.2 _ _ h2) h3 h4 h5 ih
  | pt ad cs us h1 h2 h3 h4 ih => exact .pt ad cs us (hS _ h1).1 (fun j hj => ((hS _ h1).2.1 _ (add_block _ _)).trans (h2 j hj)) h3 ih
  | ro0 A c => exact .ro0 A c
  | ro ad c rows sz us h1 h2 h3 h4 h5 h6 ih =>
    exact .ro ad c rows sz us (hS _ h1).1 h2 h3 (fun i j hi hj => ((hS _ h1).2.1 _ (add_block _ _)).trans (h4 i j hi hj)) h5 ih

theorem RV.mono2 {v : Value} {x : AV} (h : RV P S w β D v x) (hS : ∀ b, S b → S' b ∧ SameB w w' b) (hD : ∀ t, D t → D' t ∧ β' t = β t) : RV P S' w' β' D' v x := by
  induction h with
  | pv v p h => exact .pv v p (h.mono2 hS)
  | own t h => rw [← (hD t h).2]; exact .own t (hD t h).1
  | ptr t o b h hb => exact .ptr t o b (hD t h).1 ((hD t h).2.trans hb)
  | eptr t e i o b n c inf h hi hb => exact .eptr t e i o b n c inf (hD t h).1 hi ((hD t h).2.trans hb)
  | sub v t e lo hi inf A A1 n c h hi' hb h1 h2 h3 h4 h5 hv => exact .sub v t e lo hi inf A A1 n c (hD t h).1 hi' ((hD t h).2.trans hb) h1 h2 h3 h4 h5 hv
  | rp ad cs us h1 h2 h3 h4 => exact .rp ad cs us (hS _ h1).1 (fun j hj => ((hS _ h1).2.1 _ (add_block _ _)).trans (h2 j hj)) h3 (fun j p hp => (h4 j p hp).mono2 hS)
  | agg cs us hl h ih => exact .agg cs us hl ih
  | tup cs us hl h ih => exact .tup cs us hl ih
  | clo f cs us hl h ih => exact .clo f cs us hl ih
  | cnd g v av h hu ih => exact .cnd g v av ih hu
  | junk v => exact .junk v

theorem RPV.mono {v : Value} {p : PV} (h : RPV S w v p) (hS : ∀ b, S b → S' b ∧ w'.heap[b]? = w.heap[b]?) : RPV S' w' v p := h.mono2 fun b hb => ⟨(hS b hb).1, .of (hS b hb).2⟩
theorem RV.mono {v : Value} {x : AV} (h : RV P S w β D v x) (hS : ∀ b, S b → S' b ∧ w'.heap[b]? = w.heap[b]?) (hD : ∀ t, D t → D' t ∧ β' t = β t) : RV P S' w' β' D' v x := h.mono2 (fun b hb => ⟨(hS b hb).1, .of (hS b hb).2⟩) hD

theorem RV.strip {v : Value} {x : AV} (h : RV P S w β D v x) (ha : asks x) : RV P S w β D v (strip x) := by
  induction h with
  | cnd g v av h hu ih => exact ih ha.1 ha.2
  | pv v p h => exact .pv v p h
  | own t h => exact .own t h
  | ptr t o b h hb => exact .ptr t o b h hb
  | eptr t e i o b n c inf h hi hb => exact .eptr t e i o b n c inf h hi hb
  | sub v t e lo hi inf A A1 n c h hi' hb h1 h2 h3 h4 h5 hv => exact .sub v t e lo hi inf A A1 n c h hi' hb h1 h2 h3 h4 h5 hv
  | rp ad cs us h1 h2 h3 h4 => exact .rp ad cs us h1 h2 h3 h4
  | agg cs us hl h _ => exact .agg cs us hl h
  | tup cs us hl h _ => exact .tup cs us hl h
  | clo f cs us hl h _ => exact .clo f cs us hl h
  | junk v => exact .junk v

theorem HoldsO.mono2 {t : Nat} {o : AO} (h : HoldsO P S w β D t o) (hS : ∀ b, S b → S' b ∧ SameB w w' b) (hD : ∀ t, D t → D' t ∧ β' t = β t)
    (ht : β' t = β t) (hb : ∀ b, blk (β t) = some b → w'.heap[b]? = w.heap[b]?) : HoldsO P S' w' β' D' t o := by
  cases o with
  | box cs =>
    obtain ⟨b, us, ty, hp, hh, hl, hc⟩ := h
    exact ⟨b, us, ty, ht.trans hp, (hb b (by rw [hp]; rfl)).trans hh, hl, fun i c u h1 h2 => ⟨(hc i c u h1 h2).1, (hc i c u h1 h2).2.mono2 hS hD⟩⟩
  | arr e rows =>
    obtain ⟨inf, us, hi, hown, hr, hc⟩ := h
    refine ⟨inf, us, hi, ?_, hr, fun i j r p h1 h2 => ?_⟩
    · rw [ht]
      refine ⟨hown.1, ?_⟩
      rcases hown.2 with h0 | ⟨g, cap, cur, hv, h1, h2, h3, h4, h5, h6⟩
      · exact .inl h0
      · exact .inr ⟨g, cap, cur, hv, h1, (hb g (by rw [hv]; rfl)).trans h2, h3, h4, h5, h6⟩
    · obtain ⟨u, h3, h4, h5⟩ := hc i j r p h1 h2
      exact ⟨u, h3, h4, h5.mono2 hS⟩
  | map es =>
    obtain ⟨b, us, c, hp, hh, hl, hc⟩ := h
    exact ⟨b, us, c, ht.trans hp, (hb b (by rw [hp]; rfl)).trans hh, hl, fun i e u h1 h2 => ⟨(hc i e u h1 h2).1, (hc i e u h1 h2).2.mono2 hS fun _ hf => hf.elim⟩⟩
  | rws e cs =>
    obtain ⟨inf, us, hi, h1s, hown, hc⟩ := h
    refine ⟨inf, us, hi, h1s, ?_, fun i c u h1 h2 => ⟨(hc i c u h1 h2).1, (hc i c u h1 h2).2.mono2 hS hD⟩⟩
    rw [ht]
    refine ⟨hown.1, ?_⟩
    rcases hown.2 with h0 | ⟨g, cap, cur, hv, h1, h2, h3, h4, h5, h6⟩
    · exact .inl h0
    · exact .inr ⟨g, cap, cur, hv, h1, (hb g (by rw [hv]; rfl)).trans h2, h3, h4, h5, h6⟩
  | mpv es =>
    obtain ⟨b, us, c, hp, hh, hst, hl, hc⟩ := h
    exact ⟨b, us, c, ht.trans hp, (hb b (by rw [hp]; rfl)).trans hh, hst, hl, fun i e u h1 h2 => ⟨(hc i e u h1 h2).1, (hc i e u h1 h2).2.1, (hc i e u h1 h2).2.2.1, (hc i e u h1 h2).2.2.2.mono2 hS⟩⟩
  | itr rem cur =>
    obtain ⟨r, m, us, c, seen, hp, hh, hm, hmm, hst, hl, hc, hcur⟩ := h
    refine ⟨r, m, us, c, seen, ht.trans hp, (hb r (by rw [hp]; rfl)).trans hh, (hS m hm).1, ?_, hst, hl, fun i e u h1 h2 => ⟨(hc i e u h1 h2).1, (hc i e u h1 h2).2.1, (hc i e u h1 h2).2.2.1, (hc i e u h1 h2).2.2.2.mono2 hS⟩, fun e he => ?_⟩
    · have := (hS m hm).2.2 us c hmm
      first | exact this.trans hmm | exact this
    · obtain ⟨u, s', h1, h2, h3, h4, h5, h6⟩ := hcur e he
      exact ⟨u, s', h1, h2, h3, h4, h5, h6.mono2 hS⟩
theorem HoldsO.mono {t : Nat} {o : AO} (h : HoldsO P S w β D t o) (hS : ∀ b, S b → S' b ∧ w'.heap[b]? = w.heap[b]?) (hD : ∀ t, D t → D' t ∧ β' t = β t)
    (ht : β' t = β t) (hb : ∀ b, blk (β t) = some b → w'.heap[b]? = w.heap[b]?) : HoldsO P S' w' β' D' t o := h.mono2 (fun b hb => ⟨(hS b hb).1, .of (hS b hb).2⟩) hD ht hb

end

section
variable {P : Program} {S0 L : Nat → Prop} {B0 : Nat → Value} {w0 w w' : World} {N : Nat} {st : St} {a : Act} {β : Nat → Value}

theorem getD_set (l : Array Value) (d s : Nat) (r : Value) (hd : d < l.size) : (l.setIfInBounds d r).getD s undef = if s = d then r else l.getD s undef := by
  by_cases h : s = d
  · subst h
    simp [Array.getD_eq_getD_getElem?, Array.getElem?_setIfInBounds_self_of_lt hd]
  · simp [Array.getD_eq_getD_getElem?, Array.getElem?_setIfInBounds_ne (fun e => h e.symm), h]

theorem Rel.put (h : Rel P S0 L B0 w0 N st a w β) {d : Option Nat} {r : Value} {v : AV} (hd : ∀ s, d = some s → s < N)
    (hr : RV P (okS S0 w0.heap.size β st.objs w) w β (dom st.objs) r v) : Rel P S0 L B0 w0 N ⟨put d v st.vars, st.objs⟩ (a.put d r) w β := by
  cases d with
  | none => exact ⟨h.size, h.defers, h.vars, h.heap, h.old, h.lim, h.pin, h.fram⟩
  | some d =>
    have hd' : d < a.tmps.size := by rw [h.size]; exact hd d rfl
    refine ⟨by simp [Act.put, h.size], h.defers, fun s => ?_, h.heap, h.old, h.lim, h.pin, h.fram⟩
    simp only [Act.put, Ab.put]
    rw [getD_set _ _ _ _ hd']
    split
    · exact hr
    · exact h.vars s

theorem Rel.keep (h : Rel P S0 L B0 w0 N st a w β) {vars : Nat → AV} (hv : ∀ s, vars s = st.vars s ∨ vars s = .junk) : Rel P S0 L B0 w0 N ⟨vars, st.objs⟩ a w β :=
  ⟨h.size, h.defers, fun s => by
    rcases hv s with e | e
    · rw [show (St.mk vars st.objs).vars s = vars s from rfl, e]; exact h.vars s
    · rw [show (St.mk vars st.objs).vars s = vars s from rfl, e]; exact .junk _, h.heap, h.old, h.lim, h.pin, h.fram⟩

/-- The heap is the same; streams too: only draws differ. -/
structure Same (w w' : World) : Prop where
  heap : w'.heap = w.heap
  os : w'.os = w.os
  tape : w'.tape = w.tape
  output : w'.output = w.output

theorem okS_same {S0 : Nat → Prop} {n0 : Nat} {objs : Nat → Option AO} (hw : w'.heap = w.heap) : okS S0 n0 β objs w' = okS S0 n0 β objs w := by
  funext b; simp [okS, hw]

theorem Rel.same (h : Rel P S0 L B0 w0 N st a w β) (hw : Same w w') : Rel P S0 L B0 w0 N st a w' β := by
  have hm : ∀ b, okS S0 w0.heap.size β st.objs w b → okS S0 w0.heap.size β st.objs w' b ∧ w'.heap[b]? = w.heap[b]? := fun b hb => ⟨by rw [okS_same hw.heap]; exact hb, by rw [hw.heap]⟩
  have hD : ∀ t, dom st.objs t → dom st.objs t ∧ β t = β t := fun t ht => ⟨ht, rfl⟩
  exact ⟨h.size, h.defers, fun s => (h.vars s).mono hm hD, ⟨fun t o ho => (h.heap.holds t o ho).mono hm hD rfl (fun b _ => by rw [hw.heap]), h.heap.inj⟩, h.old, h.lim, h.pin,
    ⟨hw.os.trans h.fram.os, hw.tape.trans h.fram.tape, hw.output.trans h.fram.output, by rw [hw.heap]; exact h.fram.size, fun b h1 h2 => by rw [hw.heap]; exact h.fram.block b h1 h2⟩⟩

theorem Rel.drew (h : Rel P S0 L B0 w0 N st a w β) : Rel P S0 L B0 w0 N st a w.drew β := h.same ⟨rfl, rfl, rfl, rfl⟩

theorem HoldsO.lt {S : Nat → Prop} {D : Nat → Prop} {t : Nat} {o : AO} (h : HoldsO P S w β D t o) : ∀ b, blk (β t) = some b → b < w.heap.size := by
  intro b hb
  cases o with
  | box cs =>
    obtain ⟨b', us, ty, hp, hh, _⟩ := h
    rw [hp] at hb
    simp [blk] at hb
    subst hb
    exact (Array.getElem?_eq_some_iff.1 hh).1
  | arr e rows =>
    obtain ⟨inf, us, hi, hown, _⟩ := h
    rcases hown.2 with ⟨h0, _⟩ | ⟨g, cap, cur, hv, h1, h2, _⟩
    · rw [h0] at hb; simp [blk] at hb
    · rw [hv] at hb
      simp [blk] at hb
      subst hb
      exact (Array.getElem?_eq_some_iff.1 h2).1
  | map es =>
    obtain ⟨b', us, c, hp, hh, _⟩ := h
    rw [hp] at hb
    simp [blk] at hb
    subst hb
    exact (Array.getElem?_eq_some_iff.1 hh).1
  | rws e cs =>
    obtain ⟨inf, us, hi, _, hown, _⟩ := h
    rcases hown.2 with ⟨h0, _⟩ | ⟨g, cap, cur, hv, h1, h2, _⟩
    · rw [h0] at hb; simp [blk] at hb
    · rw [hv] at hb
      simp [blk] at hb
      subst hb
      exact (Array.getElem?_eq_some_iff.1 h2).1
  | mpv es =>
    obtain ⟨b', us, c, hp, hh, _⟩ := h
    rw [hp] at hb
    simp [blk] at hb
    subst hb
    exact (Array.getElem?_eq_some_iff.1 hh).1
  | itr rem cur =>
    obtain ⟨r, m, us, c, seen, hp, hh, _⟩ := h
    rw [hp] at hb
    simp [blk] at hb
    subst hb
    exact (Array.getElem?_eq_some_iff.1 hh).1

theorem Rel.lt (h : Rel P S0 L B0 w0 N st a w β) {t : Nat} (ht : dom st.objs t) {b : Nat} (hb : blk (β t) = some b) : b < w.heap.size := by
  obtain ⟨o, ho⟩ := ht
  exact (h.heap.holds t o ho).lt b hb

def setβ (β : Nat → Value) (t : Nat) (v : Value) : Nat → Value := fun s => if s = t then v else β s
theorem setβ_same (β : Nat → Value) (t : Nat) (v : Value) : setβ β t v t = v := by simp [setβ]
theorem setβ_ne (β : Nat → Value) {t s : Nat} (v : Value) (h : s ≠ t) : setβ β t v s = β s := by simp [setβ, h]

theorem dom_add {t s : Nat} {o : AO} {objs : Nat → Option AO} : dom (addO t o objs) s ↔ s = t ∨ dom objs s := by
  unfold dom addO
  by_cases h : s = t
  · simp [h]
  · simp [h]

/-- A new object, in new memory (or in none). -/
theorem Rel.fresh (h : Rel P S0 L B0 w0 N st a w β) {t : Nat} (htN : t < N) (ht : st.objs t = none) (hg : w.grownBy w' none) {v : Value} (hv : ∀ b, blk v = some b → w.heap.size ≤ b) {o : AO}
    (ho : HoldsO P (okS S0 w0.heap.size (setβ β t v) (addO t o st.objs) w') w' (setβ β t v) (dom (addO t o st.objs)) t o) :
    Rel P S0 L B0 w0 N ⟨st.vars, addO t o st.objs⟩ a w' (setβ β t v) := by
  have hne : ∀ s, dom st.objs s → s ≠ t := fun s ⟨o', ho'⟩ e => by subst e; rw [ht] at ho'; cases ho'
  have hsame : ∀ b, b < w.heap.size → w'.heap[b]? = w.heap[b]? := fun b hb => hg.block b hb (by simp)
  have hm : ∀ b, okS S0 w0.heap.size β st.objs w b → okS S0 w0.heap.size (setβ β t v) (addO t o st.objs) w' b ∧ w'.heap[b]? = w.heap[b]? := by
    intro b hb
    obtain ⟨h1, h2, h3⟩ := hb
    refine ⟨⟨h1, Nat.lt_of_lt_of_le h2 hg.size, ?_⟩, hsame b h2⟩
    rintro ⟨s, o', hs, hbs⟩
    by_cases e : s = t
    · subst e
      rw [setβ_same] at hbs
      have := hv b hbs
      omega
    · rw [setβ_ne _ _ e] at hbs
      exact h3 ⟨s, o', by simpa [addO, e] using hs, hbs⟩
  have hD : ∀ s, dom st.objs s → dom (addO t o st.objs) s ∧ setβ β t v s = β s := fun s hs => ⟨dom_add.2 (.inr hs), setβ_ne _ _ (hne s hs)⟩
  refine ⟨h.size, h.defers, fun s => (h.vars s).mono hm hD, ⟨fun s o' hs => ?_, ?_⟩, ?_, h.lim, fun s h9 hs => ?_, ?_⟩
  · by_cases e : s = t
    · subst e
      have : o' = o := by simpa [addO] using hs.symm
      subst this
      exact ho
    · have hs' : st.objs s = some o' := by simpa [addO, e] using hs
      exact (h.heap.holds s o' hs').mono hm hD (setβ_ne _ _ e) (fun b hb => hsame b (h.lt ⟨o', hs'⟩ hb))
  · intro s s' b hs hs' hb hb'
    by_cases e : s = t <;> by_cases e' : s' = t
    · rw [e, e']
    · subst e
      rw [setβ_same] at hb
      rw [setβ_ne _ _ e'] at hb'
      have := h.lt ((dom_add.1 hs').resolve_left e') hb'
      have := hv b hb
      omega
    · subst e'
      rw [setβ_same] at hb'
      rw [setβ_ne _ _ e] at hb
      have := h.lt ((dom_add.1 hs).resolve_left e) hb
      have := hv b hb'
      omega
    · rw [setβ_ne _ _ e] at hb
      rw [setβ_ne _ _ e'] at hb'
      exact h.heap.inj s s' b ((dom_add.1 hs).resolve_left e) ((dom_add.1 hs').resolve_left e') hb hb'
  · intro s b hs hb
    by_cases e : s = t
    · subst e
      rw [setβ_same] at hb
      have := hv b hb
      have := h.fram.size
      exact .inl (by omega)
    · rw [setβ_ne _ _ e] at hb
      exact h.old s b ((dom_add.1 hs).resolve_left e) hb
  · have hst : s ≠ t := fun e => by have := h.lim; subst e; omega
    rw [setβ_ne _ _ hst]
    exact h.pin s h9 ((dom_add.1 hs).resolve_left hst)
  · exact ⟨hg.os.trans h.fram.os, hg.tape.trans h.fram.tape, hg.output.trans h.fram.output, Nat.le_trans h.fram.size hg.size, fun b h1 h2 => (hsame b (by have := h.fram.size; omega)).trans (h.fram.block b h1 h2)⟩

/-- What is read of values stays, where a new object comes. -/
theorem Rel.fresh_mono (h : Rel P S0 L B0 w0 N st a w β) {t : Nat} (ht : st.objs t = none) (hg : w.grownBy w' none) {v : Value} (hv : ∀ b, blk v = some b → w.heap.size ≤ b) {o : AO} :
    (∀ b, okS S0 w0.heap.size β st.objs w b → okS S0 w0.heap.size (setβ β t v) (addO t o st.objs) w' b ∧ w'.heap[b]? = w.heap[b]?) ∧
    (∀ s, dom st.objs s → dom (addO t o st.objs) s ∧ setβ β t v s = β s) := by
  have hne : ∀ s, dom st.objs s → s ≠ t := fun s ⟨o', ho'⟩ e => by subst e; rw [ht] at ho'; cases ho'
  refine ⟨fun b hb => ?_, fun s hs => ⟨dom_add.2 (.inr hs), setβ_ne _ _ (hne s hs)⟩⟩
  obtain ⟨h1, h2, h3⟩ := hb
  refine ⟨⟨h1, Nat.lt_of_lt_of_le h2 hg.size, ?_⟩, hg.block b h2 (by simp)⟩
  rintro ⟨s, o', hs, hbs⟩
  by_cases e : s = t
  · subst e
    rw [setβ_same] at hbs
    have := hv b hbs
    omega
  · rw [setβ_ne _ _ e] at hbs
    exact h3 ⟨s, o', by simpa [addO, e] using hs, hbs⟩

/-- A block of the call's own has been written to. -/
theorem Rel.upd (h : Rel P S0 L B0 w0 N st a w β) {t : Nat} {o o' : AO} (ht : st.objs t = some o) {b : Nat} (hb : blk (β t) = some b)
    (hos : w'.os = w.os) (htape : w'.tape = w.tape) (hout : w'.output = w.output) (hsz : w'.heap.size = w.heap.size) (hother : ∀ k, k ≠ b → w'.heap[k]? = w.heap[k]?)
    (ho : HoldsO P (okS S0 w0.heap.size β (addO t o' st.objs) w') w' β (dom (addO t o' st.objs)) t o') :
    Rel P S0 L B0 w0 N ⟨st.vars, addO t o' st.objs⟩ a w' β ∧
    (∀ u x, RV P (okS S0 w0.heap.size β st.objs w) w β (dom st.objs) u x → RV P (okS S0 w0.heap.size β (addO t o' st.objs) w') w' β (dom (addO t o' st.objs)) u x) := by
  have hlive : ∀ k, live β (addO t o' st.objs) k ↔ live β st.objs k := by
    intro k
    constructor
    · rintro ⟨s, x, hs, hk⟩
      by_cases e : s = t
      · subst e; exact ⟨s, o, ht, hk⟩
      · exact ⟨s, x, by simpa [addO, e] using hs, hk⟩
    · rintro ⟨s, x, hs, hk⟩
      by_cases e : s = t
      · subst e; exact ⟨s, o', by simp [addO], hk⟩
      · exact ⟨s, x, by simpa [addO, e] using hs, hk⟩
  have hm : ∀ k, okS S0 w0.heap.size β st.objs w k → okS S0 w0.heap.size β (addO t o' st.objs) w' k ∧ w'.heap[k]? = w.heap[k]? := by
    intro k hk
    obtain ⟨h1, h2, h3⟩ := hk
    have hkb : k ≠ b := fun e => h3 ⟨t, o, ht, by rw [e]; exact hb⟩
    exact ⟨⟨h1, by omega, fun hl => h3 ((hlive k).1 hl)⟩, hother k hkb⟩
  have hdt : dom st.objs t := ⟨o, ht⟩
  have hD : ∀ s, dom st.objs s → dom (addO t o' st.objs) s ∧ β s = β s := fun s hs => ⟨dom_add.2 (.inr hs), rfl⟩
  have hdom : ∀ s, dom (addO t o' st.objs) s → dom st.objs s := fun s hs => by
    rcases dom_add.1 hs with e | e
    · rw [e]; exact hdt
    · exact e
  refine ⟨⟨h.size, h.defers, fun s => (h.vars s).mono hm hD, ⟨fun s x hs => ?_, fun s s' k hs hs' => h.heap.inj s s' k (hdom s hs) (hdom s' hs')⟩, fun s k hs => h.old s k (hdom s hs), h.lim, fun s h9 hs => h.pin s h9 (hdom s hs), ?_⟩, fun u x hx => hx.mono hm hD⟩
  · by_cases e : s = t
    · subst e
      have : x = o' := by simpa [addO] using hs.symm
      subst this
      exact ho
    · have hs' : st.objs s = some x := by simpa [addO, e] using hs
      exact (h.heap.holds s x hs').mono hm hD rfl (fun k hk => hother k fun ek => e (h.heap.inj s t b ⟨x, hs'⟩ hdt (by rw [← ek]; exact hk) hb))
  · exact ⟨hos.trans h.fram.os, htape.trans h.fram.tape, hout.trans h.fram.output, by rw [hsz]; exact h.fram.size, fun k h1 h2 => by
      have hkb : k ≠ b := by
        rintro rfl
        rcases h.old t k hdt hb with hx | hx
        · omega
        · exact h2 hx
      exact (hother k hkb).trans (h.fram.block k h1 h2)⟩
end

end Go.Proofs.Ythblkhafehanfaa.Ab
