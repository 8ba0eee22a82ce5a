/- Chapter 15: plain laws: what is right; plans as chains; what is forgotten. -/
import Derived.Test.YtfpmjcdcpicmaaaW19
namespace Go.Proofs.Ytfpmjcdcpicmaaa.Ab
open Go Go.RowKit R
set_option linter.unusedVariables false
set_option linter.unusedSimpArgs false
set_option maxHeartbeats 4000000
set_option maxRecDepth 100000

theorem rightV_lt {l : List Vn} (hr : rightV l = true) {i j : Nat} (hij : i < j) (hj : j < l.length) : l[i].n < l[j].n := by
  have h1 := right_step hr (i := i) (by omega)
  have h2 := right_mono hr (i := i + 1) (j - (i + 1)) (by omega)
  have e : i + 1 + (j - (i + 1)) = j := by omega
  simp only [e] at h2
  omega
theorem rightV_pos {l : List Vn} (hr : rightV l = true) {i : Nat} (hi : i < l.length) : 0 < l[i].n := by
  have hok := (rightV_iff l).1 hr i hi
  unfold okAt at hok
  rw [List.getElem?_eq_getElem hi] at hok
  simp only [Option.getD_some, Bool.and_eq_true, decide_eq_true_eq] at hok
  have h1 := hok.1
  unfold prevN at h1
  cases i with
  | zero => simpa using h1
  | succ i =>
    have h0 := rightV_lt hr (i := 0) (j := i + 1) (by omega) hi
    have hok0 := (rightV_iff l).1 hr 0 (by omega)
    unfold okAt at hok0
    rw [List.getElem?_eq_getElem (show 0 < l.length by omega)] at hok0
    simp only [Option.getD_some, Bool.and_eq_true, decide_eq_true_eq] at hok0
    have h2 := hok0.1
    unfold prevN at h2
    have h2' : 0 < l[0].n := by simpa using h2
    omega
theorem rightV_of {l : List Vn} (hlt : ∀ (i j : Nat) (hij : i < j) (hj : j < l.length), (l[i]'(by omega)).n < l[j].n) (hpos : ∀ v ∈ l, 0 < v.n) (hb : ∀ v ∈ l, baseV v ≠ 0 → ∃ w ∈ l, w.n = baseV v ∧ w.n < v.n) : rightV l = true := by
  rw [rightV_iff]
  intro i hi
  unfold okAt
  rw [List.getElem?_eq_getElem hi]
  simp only [Option.getD_some, Bool.and_eq_true, Bool.or_eq_true, decide_eq_true_eq]
  refine ⟨?_, ?_⟩
  · unfold prevN
    cases i with
    | zero => simpa using hpos _ (List.getElem_mem hi)
    | succ i =>
      have := hlt i (i + 1) (by omega) hi
      simpa [show i < l.length by omega] using this
  · by_cases h0 : baseV l[i] = 0
    · exact .inl h0
    · right
      obtain ⟨w, hw, h1, h2⟩ := hb l[i] (List.getElem_mem hi) h0
      obtain ⟨k, hk, rfl⟩ := List.getElem_of_mem hw
      have hki : k < i := by
        rcases Nat.lt_trichotomy k i with h | h | h
        · exact h
        · subst h; omega
        · have := hlt i k h hk; omega
      rcases ixV_cases (l.take i) (baseV l[i]) with ⟨j, hj, h3, _⟩ | ⟨_, h3⟩
      · omega
      · exact absurd h1 (h3 l[k] (by rw [List.mem_take_iff_getElem]; exact ⟨k, by omega, rfl⟩))
theorem base_in {l : List Vn} (hr : rightV l = true) {v : Vn} (hv : v ∈ l) (hb : baseV v ≠ 0) : ∃ w ∈ l, w.n = baseV v ∧ w.n < v.n := by
  obtain ⟨i, hi, rfl⟩ := List.getElem_of_mem hv
  obtain ⟨j, hj, _, h1⟩ := base_at hr hi hb
  exact ⟨l[j], List.getElem_mem _, h1, rightV_lt hr hj hi⟩
theorem num_eq {l : List Vn} (hr : rightV l = true) {v w : Vn} (hv : v ∈ l) (hw : w ∈ l) (h : v.n = w.n) : v = w := by
  obtain ⟨i, hi, rfl⟩ := List.getElem_of_mem hv
  obtain ⟨j, hj, rfl⟩ := List.getElem_of_mem hw
  have := right_ne hr hi hj h
  subst this; rfl
theorem right_filter {l : List Vn} (hr : rightV l = true) (p : Vn → Bool) (hc : ∀ v ∈ l, p v = true → baseV v ≠ 0 → ∀ w ∈ l, w.n = baseV v → p w = true) : rightV (l.filter p) = true := by
  have hpw : l.Pairwise fun a b => a.n < b.n := by
    rw [List.pairwise_iff_getElem]
    intro i j hi hj hij
    exact rightV_lt hr hij hj
  have hpf := hpw.filter p
  rw [List.pairwise_iff_getElem] at hpf
  refine rightV_of (fun i j hij hj => hpf i j (by omega) hj hij) (fun v hv => ?_) fun v hv hb => ?_
  · obtain ⟨i, hi, rfl⟩ := List.getElem_of_mem (List.mem_filter.1 hv).1
    exact rightV_pos hr hi
  · obtain ⟨h1, h2⟩ := List.mem_filter.1 hv
    obtain ⟨w, hw, h3, h4⟩ := base_in hr h1 hb
    exact ⟨w, List.mem_filter.2 ⟨hw, hc v h1 h2 hb w hw h3⟩, h3, h4⟩

/-! Plans as chains -/

inductive Ch (l : List Vn) : Vn → List Vn → Prop
  | base (v : Vn) : baseV v = 0 → Ch l v [v]
  | step (v w : Vn) (p : List Vn) : w ∈ l → w.n = baseV v → baseV v ≠ 0 → Ch l w p → Ch l v (p ++ [v])
theorem plan_ch {l : List Vn} (hr : rightV l = true) : ∀ (i : Nat) (hi : i < l.length), Ch l l[i] (planF l l.length i) := by
  intro i
  induction i using Nat.strongRecOn with
  | _ i ih =>
    intro hi
    by_cases hb : baseV l[i] = 0
    · rw [planF_zero (by rw [atV_eq hi]; exact hb), atV_eq hi]
      exact .base _ hb
    · obtain ⟨j, hj, hx, hn⟩ := base_at hr hi hb
      rw [planF_next hr hi hb hj hx]
      exact .step _ l[j] _ (List.getElem_mem _) hn hb (ih j hj (by omega))
theorem Ch.uniq {l : List Vn} (hr : rightV l = true) {v : Vn} {p q : List Vn} (hp : Ch l v p) (hq : Ch l v q) : p = q := by
  induction hp generalizing q with
  | base v h => cases hq with
    | base _ _ => rfl
    | step _ _ _ _ _ h' _ => exact absurd h h'
  | step v w p hw hn hb _ ih => cases hq with
    | base _ h' => exact absurd h' hb
    | step _ w' p' hw' hn' _ h' =>
      have : w = w' := num_eq hr hw hw' (hn.trans hn'.symm)
      subst this
      rw [ih h']
theorem Ch.mono {l m : List Vn} (hs : ∀ v ∈ l, v ∈ m) {v : Vn} {p : List Vn} (h : Ch l v p) : Ch m v p := by
  induction h with
  | base v h => exact .base v h
  | step v w p hw hn hb _ ih => exact .step v w p (hs w hw) hn hb ih
theorem Ch.map {f : Vn → Vn} (hn : ∀ v, (f v).n = v.n) (hb : ∀ v, baseV (f v) = baseV v) {l : List Vn} {v : Vn} {p : List Vn} (h : Ch l v p) : Ch (l.map f) (f v) (p.map f) := by
  induction h with
  | base v h => exact .base _ ((hb v).trans h)
  | step v w p hw h1 h2 _ ih =>
    rw [List.map_append]
    exact .step _ (f w) _ (List.mem_map.2 ⟨w, hw, rfl⟩) (by rw [hn, hb, h1]) (by rw [hb]; exact h2) ih
theorem Ch.mem {l : List Vn} {v : Vn} {p : List Vn} (h : Ch l v p) (hv : v ∈ l) : ∀ x ∈ p, x ∈ l := by
  induction h with
  | base v h => intro x hx; rw [List.mem_singleton] at hx; rw [hx]; exact hv
  | step v w p hw _ _ _ ih =>
    intro x hx
    rcases List.mem_append.1 hx with hx | hx
    · exact ih hw x hx
    · rw [List.mem_singleton] at hx; rw [hx]; exact hv
theorem Ch.self {l : List Vn} {v : Vn} {p : List Vn} (h : Ch l v p) : ∃ q, p = q ++ [v] := by
  cases h with
  | base _ _ => exact ⟨[], rfl⟩
  | step _ _ p _ _ _ _ => exact ⟨p, rfl⟩
theorem Ch.closed {l : List Vn} {v : Vn} {p : List Vn} (h : Ch l v p) : ∀ x ∈ p, baseV x ≠ 0 → ∃ y ∈ p, y.n = baseV x := by
  induction h with
  | base v h => intro x hx hb; rw [List.mem_singleton] at hx; rw [hx] at hb; exact absurd h hb
  | step v w p hw hn _ hc ih =>
    intro x hx0 hb
    rcases List.mem_append.1 hx0 with hx | hx
    · obtain ⟨y, hy, h⟩ := ih x hx hb
      exact ⟨y, List.mem_append.2 (.inl hy), h⟩
    · have hxv := List.mem_singleton.1 hx
      obtain ⟨q, hq⟩ := hc.self
      exact ⟨w, by rw [hq]; simp, by rw [hxv]; exact hn⟩
/-- The first one of a chain is whole; each other one is made by the one ahead. -/
theorem Ch.shape {l : List Vn} {v : Vn} {p : List Vn} (h : Ch l v p) : ∀ (k : Nat) (hk : k < p.length), (baseV p[k] = 0 ↔ k = 0) ∧ ∀ h0 : 0 < k, baseV p[k] = (p[k - 1]'(by omega)).n := by
  induction h with
  | base v h =>
    intro k hk
    simp only [List.length_singleton] at hk
    have : k = 0 := by omega
    subst this
    exact ⟨by simpa using h, fun h => by omega⟩
  | step v w p hw hn hb hc ih =>
    intro k hk
    rw [List.length_append, List.length_singleton] at hk
    by_cases hkp : k < p.length
    · obtain ⟨h1, h2⟩ := ih k hkp
      refine ⟨by rw [List.getElem_append_left hkp]; exact h1, fun h0 => ?_⟩
      rw [List.getElem_append_left hkp, List.getElem_append_left (show k - 1 < p.length by omega)]
      exact h2 h0
    · have hke : k = p.length := by omega
      obtain ⟨q, rfl⟩ := hc.self
      subst hke
      refine ⟨?_, fun h0 => ?_⟩
      · rw [List.getElem_append_right (by omega)]
        simp only [Nat.sub_self, List.getElem_singleton, List.length_append, List.length_singleton]
        exact ⟨fun h => absurd h hb, fun h => by omega⟩
      · rw [List.getElem_append_right (by omega), List.getElem_append_left (by simp)]
        simp only [Nat.sub_self, List.getElem_singleton, List.length_append, List.length_singleton, Nat.add_sub_cancel]
        rw [List.getElem_append_right (by omega)]
        simpa using hn.symm

/-! What a number's plan is, where it is seen -/

theorem get_of {l : List Vn} (hr : rightV l = true) {v : Vn} (hv : v ∈ l) (hh : v.hid = false) : getV l v.n = some v := by
  have hs : v ∈ seenV l := by unfold seenV; simp [hv, hh]
  unfold getV
  cases hf : (seenV l).find? fun w => decide (w.n = v.n) with
  | none => rw [List.find?_eq_none] at hf; exact absurd (decide_eq_true rfl) (hf v hs)
  | some w =>
    have h1 := List.mem_of_find?_eq_some hf
    have h2 := List.find?_some hf
    have hw : w ∈ l := by unfold seenV at h1; exact (List.mem_filter.1 h1).1
    rw [num_eq hr hw hv (by simpa using h2)]
theorem get_inv {l : List Vn} {n : Int} {v : Vn} (h : getV l n = some v) : v ∈ l ∧ v.n = n ∧ v.hid = false := by
  unfold getV at h
  have h1 := List.mem_of_find?_eq_some h
  have h2 := List.find?_some h
  unfold seenV at h1
  obtain ⟨h3, h4⟩ := List.mem_filter.1 h1
  exact ⟨h3, by simpa using h2, by simpa using h4⟩
theorem plan_of {l : List Vn} (hr : rightV l = true) {n : Int} {v : Vn} (h : getV l n = some v) : (planV l n).2 = 0 ∧ Ch l v (planV l n).1 := by
  obtain ⟨h1, h2, h3⟩ := get_inv h
  obtain ⟨i, hi, rfl⟩ := List.getElem_of_mem h1
  have hp : planV l n = (planF l l.length i, 0) := by
    simp only [planV, hr, h]
    rw [if_neg (by simp), ix_self hr hi, Int.toNat_natCast]
  rw [hp]
  exact ⟨rfl, plan_ch hr i hi⟩

/-! What is forgotten -/

theorem need_mem {o : List Vn} (hr : rightV o = true) {v : Vn} (hv : v ∈ o) : needB o v.n = true ↔ ∃ x ∈ o, x.hid = false ∧ ∃ p, Ch o x p ∧ v ∈ p := by
  rw [need_iff hr]
  constructor
  · rintro ⟨x, hx, hn⟩
    have hx' : x ∈ o ∧ x.hid = false := by unfold seenV at hx; simpa using hx
    have hg := get_of hr hx'.1 hx'.2
    obtain ⟨_, hc⟩ := plan_of hr hg
    unfold planN at hn
    obtain ⟨w, hw, hwn⟩ := List.mem_map.1 hn
    refine ⟨x, hx'.1, hx'.2, _, hc, ?_⟩
    rw [← num_eq hr (hc.mem hx'.1 w hw) hv hwn]; exact hw
  · rintro ⟨x, hx, hh, p, hc, hvp⟩
    have hg := get_of hr hx hh
    obtain ⟨_, hc'⟩ := plan_of hr hg
    refine ⟨x, by unfold seenV; simp [hx, hh], ?_⟩
    unfold planN
    rw [hc'.uniq hr hc]
    exact List.mem_map.2 ⟨v, hvp, rfl⟩
theorem forget_eq {l : List Vn} (hr : rightV l = true) (keep : List Int) : forgetV l keep = (hidL l keep).filter fun v => needB (hidL l keep) v.n := by
  unfold forgetV; rw [if_neg (by rw [hr]; simp)]
theorem forget_right {l : List Vn} (hr : rightV l = true) (keep : List Int) : rightV (forgetV l keep) = true := by
  rw [forget_eq hr]
  have hrO := (right_hid l keep).trans hr
  refine right_filter hrO _ fun v hv hn hb w hw hwn => ?_
  obtain ⟨x, hx, hh, p, hc, hvp⟩ := (need_mem hrO hv).1 hn
  obtain ⟨y, hy, hyn⟩ := hc.closed v hvp hb
  have : y = w := num_eq hrO (hc.mem hx y hy) hw (hyn.trans hwn.symm)
  subst this
  exact (need_mem hrO hw).2 ⟨x, hx, hh, p, hc, hy⟩
theorem forget_len {l : List Vn} (hr : rightV l = true) (keep : List Int) : (forgetV l keep).length ≤ l.length := by
  rw [forget_eq hr]
  have := List.length_filter_le (fun v => needB (hidL l keep) v.n) (hidL l keep)
  rw [hidL_len] at this
  exact this
theorem forget_mem {l : List Vn} (hr : rightV l = true) {keep : List Int} {v : Vn} (h : v ∈ forgetV l keep) : v ∈ hidL l keep ∧ ∃ u ∈ l, v = hidF (curN l) keep u := by
  rw [forget_eq hr] at h
  have h1 := (List.mem_filter.1 h).1
  obtain ⟨u, hu, rfl⟩ := List.mem_map.1 h1
  exact ⟨h1, u, hu, rfl⟩
theorem forget_get {l : List Vn} (hr : rightV l = true) {keep : List Int} {n : Int} {v : Vn} (h : getV (forgetV l keep) n = some v) : ∃ u, getV l n = some u ∧ v = hidF (curN l) keep u := by
  obtain ⟨h1, h2, h3⟩ := get_inv h
  obtain ⟨_, u, hu, rfl⟩ := forget_mem hr h1
  have hh : u.hid = false := by
    have : (u.hid || (!decide (u.n = curN l) && !inU keep u.n)) = false := h3
    rw [Bool.or_eq_false_iff] at this
    exact this.1
  refine ⟨u, ?_, rfl⟩
  rw [← h2]
  exact get_of hr hu hh
theorem forget_plan {l : List Vn} (hr : rightV l = true) {keep : List Int} {n : Int} {v : Vn} (h : getV (forgetV l keep) n = some v) : numsV (planV (forgetV l keep) n).1 = numsV (planV l n).1 := by
  obtain ⟨u, hu, rfl⟩ := forget_get hr h
  obtain ⟨_, c1⟩ := plan_of (forget_right hr keep) h
  obtain ⟨_, c2⟩ := plan_of hr hu
  have hrO := (right_hid l keep).trans hr
  have c3 : Ch (hidL l keep) (hidF (curN l) keep u) (planV (forgetV l keep) n).1 := c1.mono fun w hw => (forget_mem hr hw).1
  have c4 : Ch (hidL l keep) (hidF (curN l) keep u) ((planV l n).1.map (hidF (curN l) keep)) := c2.map (f := hidF (curN l) keep) (fun _ => rfl) (fun _ => rfl)
  rw [c3.uniq hrO c4]
  unfold numsV
  rw [List.map_map]
  rfl

/-! The current one stays -/

theorem seen_pw {l : List Vn} (hr : rightV l = true) : (seenV l).Pairwise fun a b => a.n < b.n := by
  have hpw : l.Pairwise fun a b => a.n < b.n := by
    rw [List.pairwise_iff_getElem]
    intro i j hi hj hij
    exact rightV_lt hr hij hj
  exact hpw.filter _
theorem seen_mem {l : List Vn} {v : Vn} : v ∈ seenV l ↔ v ∈ l ∧ v.hid = false := by unfold seenV; simp
theorem cur_of {l : List Vn} (hr : rightV l = true) {c : Vn} (h : curV l = some c) : c ∈ l ∧ c.hid = false ∧ ∀ u ∈ l, u.hid = false → u.n ≤ c.n := by
  unfold curV at h
  obtain ⟨ys, hy⟩ := List.getLast?_eq_some_iff.1 h
  have hp := seen_pw hr
  rw [hy, List.pairwise_append] at hp
  have hc : c ∈ seenV l := by rw [hy]; simp
  refine ⟨(seen_mem.1 hc).1, (seen_mem.1 hc).2, fun u hu hh => ?_⟩
  have hu' : u ∈ seenV l := seen_mem.2 ⟨hu, hh⟩
  rw [hy, List.mem_append, List.mem_singleton] at hu'
  rcases hu' with h1 | rfl
  · have := hp.2.2 u h1 c (by simp); omega
  · omega
theorem cur_is {l : List Vn} (hr : rightV l = true) {c : Vn} (h1 : c ∈ l) (h2 : c.hid = false) (h3 : ∀ u ∈ l, u.hid = false → u.n ≤ c.n) : curV l = some c := by
  cases h : curV l with
  | none =>
    unfold curV at h
    have := List.getLast?_eq_none_iff.1 h
    have hc : c ∈ seenV l := seen_mem.2 ⟨h1, h2⟩
    rw [this] at hc; cases hc
  | some d =>
    obtain ⟨g1, g2, g3⟩ := cur_of hr h
    have := h3 d g1 g2
    have := g3 c h1 h2
    rw [num_eq hr g1 h1 (by omega)]
theorem forget_cur {l : List Vn} (hr : rightV l = true) (keep : List Int) : curV (forgetV l keep) = curV l := by
  have hrA := forget_right hr keep
  have back : ∀ u ∈ forgetV l keep, u.hid = false → ∃ w ∈ l, w.hid = false ∧ w.n = u.n := by
    intro u hu hh
    obtain ⟨_, w, hw, rfl⟩ := forget_mem hr hu
    have : (w.hid || (!decide (w.n = curN l) && !inU keep w.n)) = false := hh
    rw [Bool.or_eq_false_iff] at this
    exact ⟨w, hw, this.1, rfl⟩
  cases hc : curV l with
  | none =>
    cases hd : curV (forgetV l keep) with
    | none => rfl
    | some d =>
      obtain ⟨g1, g2, _⟩ := cur_of hrA hd
      obtain ⟨w, hw, hh, _⟩ := back d g1 g2
      unfold curV at hc
      have h0 := List.getLast?_eq_none_iff.1 hc
      have : w ∈ seenV l := seen_mem.2 ⟨hw, hh⟩
      rw [h0] at this; cases this
  | some c =>
    obtain ⟨g1, g2, g3⟩ := cur_of hr hc
    have hcn : curN l = c.n := by unfold curN; rw [hc]; rfl
    have hfc : hidF (curN l) keep c = c := by
      cases c
      simp only [hidF, hcn] at g2 ⊢
      simp [g2]
    have hcO : c ∈ hidL l keep := by
      rw [← hfc]; exact List.mem_map.2 ⟨c, g1, rfl⟩
    have hrO := (right_hid l keep).trans hr
    have hgO := get_of hrO hcO g2
    obtain ⟨_, hch⟩ := plan_of hrO hgO
    obtain ⟨q, hq⟩ := hch.self
    have hnd : needB (hidL l keep) c.n = true := (need_mem hrO hcO).2 ⟨c, hcO, g2, _, hch, by rw [hq]; simp⟩
    refine cur_is hrA ?_ g2 fun u hu hh => ?_
    · rw [forget_eq hr]; exact List.mem_filter.2 ⟨hcO, hnd⟩
    · obtain ⟨w, hw, hh', hn⟩ := back u hu hh
      rw [← hn]; exact g3 w hw hh'

end Go.Proofs.Ytfpmjcdcpicmaaa.Ab
