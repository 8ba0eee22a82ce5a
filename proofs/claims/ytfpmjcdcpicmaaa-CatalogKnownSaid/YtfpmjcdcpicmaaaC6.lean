/- Chapter 17: plain laws: what is bound and unbound, renamed there and back. -/
import Derived.Test.YtfpmjcdcpicmaaaC4
namespace Go.Proofs.Ytfpmjcdcpicmaaa.Ab
open Go Go.RowKit R
set_option linter.unusedVariables false
set_option linter.unusedSimpArgs false
set_option maxHeartbeats 4000000
set_option maxRecDepth 100000

theorem getC_mem {l : List En} {s : List UInt8} {e : En} (hr : rightC l = true) (hn : okNm s = true) (he : e ∈ l) (hs : e.n = s) : getC l s = (e.i, 0) := by
  have hf := (found_iff (s := s) hr).2 ⟨e, he, hs⟩
  obtain ⟨hlt, hg, hs'⟩ := getC_found hr hn hf
  obtain ⟨k, hk, rfl⟩ := List.getElem_of_mem he
  have hkl : k = lb l s := by
    rcases Nat.lt_trichotomy k (lb l s) with h | h | h
    · exact absurd (hs.trans hs'.symm) (bl_ne (right_lt hr hlt h).1)
    · exact h
    · exact absurd (hs'.trans hs.symm) (bl_ne (right_lt hr hk h).1)
  subst hkl
  exact hg
theorem getC_absent {l : List En} {s : List UInt8} (hr : rightC l = true) (hn : okNm s = true) (h : ∀ e ∈ l, ¬ e.n = s) : getC l s = (0, 80) := by
  apply getC_none hr hn
  cases hf : foundC l s with
  | false => rfl
  | true =>
    obtain ⟨e, he, hs⟩ := (found_iff hr).1 hf
    exact absurd hs (h e he)
theorem getC_bad {l : List En} {s : List UInt8} (hr : rightC l = true) (hn : okNm s = false) : getC l s = (0, 170) := by
  unfold getC; rw [if_pos hr, if_neg (by simp [hn])]
theorem mem_putC (l : List En) (e x : En) : x ∈ putC l e ↔ x = e ∨ x ∈ l := by
  unfold putC insC
  have h : x ∈ l ↔ x ∈ l.take (lb l e.n) ∨ x ∈ l.drop (lb l e.n) := by
    conv => lhs; rw [← List.take_append_drop (lb l e.n) l]
    exact List.mem_append
  rw [List.mem_append, List.mem_cons, h]
  constructor
  · rintro (h | h | h)
    · exact .inr (.inl h)
    · exact .inl h
    · exact .inr (.inr h)
  · rintro (h | h | h)
    · exact .inr (.inl h)
    · exact .inl h
    · exact .inr (.inr h)
theorem right_putC {l : List En} {e : En} (hr : rightC l = true) (hn : okNm e.n = true) (h0 : e.i ≠ 0) (hid : idC l e.i = false) (hf : foundC l e.n = false) : rightC (putC l e) = true := by
  have hr' := (rightC_iff l).1 hr
  have hids : ∀ x ∈ l, ¬ x.i = e.i := by
    intro x hx hh
    unfold idC at hid
    rw [List.any_eq_false] at hid
    exact hid x hx (by simpa using hh)
  have hab : ∀ x ∈ l, ¬ x.n = e.n := by
    intro x hx hh
    have := (found_iff (s := e.n) hr).2 ⟨x, hx, hh⟩
    rw [hf] at this; cases this
  rw [rightC_iff]
  refine ⟨fun x hx => ?_, ?_⟩
  · rcases (mem_putC l e x).1 hx with rfl | hx
    · exact ⟨hn, h0⟩
    · exact hr'.1 x hx
  · have hpw := hr'.2
    rw [← List.take_append_drop (lb l e.n) l, List.pairwise_append] at hpw
    unfold putC insC
    rw [List.pairwise_append, List.pairwise_cons]
    refine ⟨hpw.1, ⟨fun x hx => ?_, hpw.2.1⟩, fun x hx y hy => ?_⟩
    · have hxl : x ∈ l := List.mem_of_mem_drop hx
      refine ⟨?_, fun h => hids x hxl h.symm⟩
      rw [List.mem_drop_iff_getElem] at hx
      obtain ⟨j, hj, rfl⟩ := hx
      have hge := lb_ge (s := e.n) (k := lb l e.n + j) hr (by omega) (by omega)
      cases hb : Op.bytesLess e.n l[lb l e.n + j].n with
      | true => rfl
      | false => exact absurd (bl_tri _ _ hge hb) (hab _ hxl)
    · rcases List.mem_cons.1 hy with rfl | hy
      · have hxl : x ∈ l := List.mem_of_mem_take hx
        refine ⟨?_, hids x hxl⟩
        rw [List.mem_take_iff_getElem] at hx
        obtain ⟨j, hj, rfl⟩ := hx
        exact lb_lt (by omega)
      · exact hpw.2.2 x hx y hy
theorem without_putC {l : List En} {e : En} (hf : ∀ x ∈ l, ¬ x.n = e.n) : withoutC (putC l e) e.n = l := by
  unfold withoutC putC insC
  rw [List.filter_append, List.filter_cons]
  have h1 : (l.take (lb l e.n)).filter (fun x => !decide (x.n = e.n)) = l.take (lb l e.n) := by
    rw [List.filter_eq_self]; intro x hx; simpa using hf x (List.mem_of_mem_take hx)
  have h2 : (l.drop (lb l e.n)).filter (fun x => !decide (x.n = e.n)) = l.drop (lb l e.n) := by
    rw [List.filter_eq_self]; intro x hx; simpa using hf x (List.mem_of_mem_drop hx)
  rw [h1, h2]
  simp
theorem put_without {l : List En} {s : List UInt8} (hr : rightC l = true) (hlt : lb l s < l.length) (hs : l[lb l s].n = s) : putC (withoutC l s) l[lb l s] = l := by
  obtain ⟨k, hk⟩ : ∃ k, k = lb l s := ⟨_, rfl⟩
  have hw := without_at hr hlt hs
  have hlb : lb (withoutC l s) s = k := by
    rw [hw, ← hk]
    have hlen : (l.take k).length = k := by rw [List.length_take]; omega
    apply lb_eq
    · simp; omega
    · intro j hj hjk
      rw [List.getElem_append_left (by omega), List.getElem_take]
      exact lb_lt (by omega)
    · intro j hj hjk
      rw [List.getElem_append_right (by omega), List.getElem_drop]
      apply lb_ge hr
      omega
  unfold putC insC
  rw [hs, hlb, hw]
  have hlen : (l.take k).length = k := by rw [List.length_take]; omega
  have e1 : (l.take (lb l s) ++ l.drop (lb l s + 1)).take k = l.take k := by
    rw [← hk, List.take_append_of_le_length (by omega), List.take_of_length_le (by omega)]
  have e2 : (l.take (lb l s) ++ l.drop (lb l s + 1)).drop k = l.drop (k + 1) := by
    rw [← hk]
    have := List.drop_left (l₁ := l.take k) (l₂ := l.drop (k + 1))
    rwa [hlen] at this
  rw [e1, e2]
  subst hk
  rw [← List.drop_eq_getElem_cons hlt, List.take_append_drop]
/-- Other names are not touched. -/
theorem getC_other {l m : List En} {x : List UInt8} (hl : rightC l = true) (hm : rightC m = true) (h : ∀ e : En, e.n = x → (e ∈ l ↔ e ∈ m)) : getC l x = getC m x := by
  cases hn : okNm x with
  | false => rw [getC_bad hl hn, getC_bad hm hn]
  | true =>
    by_cases hx : ∃ e ∈ l, e.n = x
    · obtain ⟨e, he, hs⟩ := hx
      rw [getC_mem hl hn he hs, getC_mem hm hn ((h e hs).1 he) hs]
    · rw [getC_absent hl hn (fun e he hs => hx ⟨e, he, hs⟩), getC_absent hm hn (fun e he hs => hx ⟨e, (h e hs).2 he, hs⟩)]

/-- What Bind brings about. -/
theorem bind_law {l : List En} {s : List UInt8} {n : Int} (hr : rightC l = true) (h : (bindC l s n).2 = 0) :
    (bindC l s n).1.length = l.length + 1 ∧ rightC (bindC l s n).1 = true ∧ getC (bindC l s n).1 s = (n, 0) ∧ unbC (bindC l s n).1 s = (l, 0) ∧ ∀ x, ¬ x = s → getC (bindC l s n).1 x = getC l x := by
  rcases getC_cases l s with ⟨hr', hg⟩ | ⟨_, hn, hg⟩ | ⟨_, hn, hf, hg⟩ | ⟨_, hn, hf, hlt, hg, _⟩
  · rw [hr] at hr'; cases hr'
  · exfalso; unfold bindC at h; rw [hg] at h; simp at h
  · by_cases hq : n = 0 ∨ idC l n = true
    · exfalso; unfold bindC at h; rw [hg, if_neg (by simp), if_neg (by simp), if_pos hq] at h; simp at h
    · have hb : bindC l s n = (putC l ⟨s, n⟩, 0) := by unfold bindC; rw [hg, if_neg (by simp), if_neg (by simp), if_neg hq]
      have h0 : n ≠ 0 := fun e => hq (.inl e)
      have hid : idC l n = false := by cases hi : idC l n with | false => rfl | true => exact absurd (.inr hi) hq
      have hra := right_putC (e := ⟨s, n⟩) hr hn h0 hid hf
      have hab : ∀ x ∈ l, ¬ x.n = s := by
        intro x hx hh
        have := (found_iff (s := s) hr).2 ⟨x, hx, hh⟩
        rw [hf] at this; cases this
      have hga : getC (putC l ⟨s, n⟩) s = (n, 0) := getC_mem hra hn ((mem_putC l ⟨s, n⟩ ⟨s, n⟩).2 (.inl rfl)) rfl
      rw [hb]
      refine ⟨putC_len _ _, hra, hga, ?_, fun x hx => ?_⟩
      · unfold unbC
        rw [hga, if_neg (by simp), without_putC (e := ⟨s, n⟩) hab]
      · refine getC_other hra hr fun e he => ?_
        rw [mem_putC]
        constructor
        · rintro (rfl | h)
          · exact absurd he.symm hx
          · exact h
        · exact .inr
  · exfalso; unfold bindC at h; rw [hg] at h; simp at h

/-- What Rename brings about. -/
theorem ren_law {l : List En} {s t : List UInt8} (hr : rightC l = true) (h : (renC l s t).2 = 0) :
    (renC l s t).1.length = l.length ∧ rightC (renC l s t).1 = true ∧ renC (renC l s t).1 t s = (l, 0) ∧ ∃ i, getC (renC l s t).1 t = (i, 0) ∧ getC l s = (i, 0) ∧ getC (renC l s t).1 s = (0, 80) ∧ ∀ x, ¬ x = s → ¬ x = t → getC (renC l s t).1 x = getC l x := by
  by_cases hq : okNm s = false ∨ okNm t = false
  · exfalso; unfold renC at h; rw [if_pos ⟨hr, hq⟩] at h; simp at h
  have hs : okNm s = true := by cases hh : okNm s with | true => rfl | false => exact absurd (.inl hh) hq
  have ht : okNm t = true := by cases hh : okNm t with | true => rfl | false => exact absurd (.inr hh) hq
  cases hfs : foundC l s with
  | false =>
    exfalso; unfold renC at h; rw [if_neg (fun hh => hq hh.2), getC_none hr hs hfs] at h; simp at h
  | true =>
    obtain ⟨hlt, hg, hsn⟩ := getC_found hr hs hfs
    cases hft : foundC l t with
    | true =>
      exfalso; unfold renC at h; rw [if_neg (fun hh => hq hh.2), hg, (getC_found hr ht hft).2.1] at h; simp at h
    | false =>
      have hb : renC l s t = (putC (withoutC l s) ⟨t, l[lb l s].i⟩, 0) := by
        unfold renC; rw [if_neg (fun hh => hq hh.2), hg, getC_none hr ht hft]; simp
      have hmem := List.getElem_mem hlt
      have hw := right_without s hr
      have h0 : l[lb l s].i ≠ 0 := (((rightC_iff l).1 hr).1 _ hmem).2
      have hid := id_without hr hmem hsn
      have hft' := found_without (s := s) hr hft
      have hst : ¬ s = t := by rintro rfl; rw [hfs] at hft; cases hft
      have hrp := right_putC (l := withoutC l s) (e := ⟨t, l[lb l s].i⟩) hw ht h0 hid hft'
      have habt : ∀ x ∈ withoutC l s, ¬ x.n = t := by
        intro x hx hh
        have := (found_iff (s := t) hw).2 ⟨x, hx, hh⟩
        rw [hft'] at this; cases this
      have habs : ∀ x ∈ withoutC l s, ¬ x.n = s := by
        intro x hx hh
        have := (List.mem_filter.1 hx).2
        simp [hh] at this
      have hgt : getC (putC (withoutC l s) ⟨t, l[lb l s].i⟩) t = (l[lb l s].i, 0) := getC_mem (e := ⟨t, l[lb l s].i⟩) hrp ht ((mem_putC _ _ _).2 (.inl rfl)) rfl
      have hgs : getC (putC (withoutC l s) ⟨t, l[lb l s].i⟩) s = (0, 80) := by
        refine getC_absent hrp hs fun e he hh => ?_
        rcases (mem_putC _ _ _).1 he with rfl | he
        · exact hst hh.symm
        · exact habs e he hh
      have hwt : withoutC (putC (withoutC l s) ⟨t, l[lb l s].i⟩) t = withoutC l s := without_putC (e := ⟨t, l[lb l s].i⟩) habt
      have hl : (withoutC l s).length + 1 = l.length := by
        rw [without_at hr hlt hsn]
        simp; omega
      rw [hb]
      refine ⟨by rw [putC_len]; exact hl, hrp, ?_, l[lb l s].i, hgt, hg, hgs, fun x hxs hxt => ?_⟩
      · unfold renC
        rw [if_neg (by rintro ⟨_, h | h⟩; rw [ht] at h; cases h; rw [hs] at h; cases h), hgt, hgs, if_neg (by simp), if_neg (by simp), hwt]
        have : (⟨s, l[lb l s].i⟩ : En) = l[lb l s] := by
          generalize l[lb l s] = y at hsn
          cases y; simp only at hsn; rw [hsn]
        rw [this, put_without hr hlt hsn]
      · refine getC_other hrp hr fun e he => ?_
        rw [mem_putC]
        constructor
        · rintro (rfl | h)
          · exact absurd he.symm hxt
          · exact (List.mem_filter.1 h).1
        · intro h
          refine .inr (List.mem_filter.2 ⟨h, ?_⟩)
          simp only [Bool.not_eq_true', decide_eq_false_iff_not]
          intro hh; exact hxs (he.symm.trans hh)

end Go.Proofs.Ytfpmjcdcpicmaaa.Ab
