import Derived.Test.YtfpmjcdcpicmaaaW19
import Derived.Test.YtfpmjcdcpicmaaaW12
import Derived.Test.YtfpmjcdcpicmaaaW23
import Derived.Test.YtfpmjcdcpicmaaaCodeW
import Derived.Test.YtfpmjcdcpicmaaaW5
namespace Go.Proofs.Ytfpmjcdcpicmaaa.Ab
open Go Go.RowKit R
set_option linter.unusedVariables false
set_option linter.unusedSimpArgs false
set_option maxHeartbeats 40000000
set_option maxRecDepth 100000
theorem rightV_lt {l : List Vn} (hr : rightV l = true) {i j : Nat} (hij : i < j) (hj : j < l.length) : l[i].n < l[j].n := by
 have h1 := right_step hr (i := i) (by omega)
 have h2 := right_mono hr (i := i + 1) (j - (i + 1)) (by omega)
 have e : i + 1 + (j - (i + 1)) = j := by omega
 simp only [e] at h2
 omega
theorem rightV_pos {l : List Vn} (hr : rightV l = true) {i : Nat} (hi : i < l.length) : 0 < l[i].n := by
 have hok := (rightV_iff l).1 hr i hi
 unfold okAt at hok
 rw [List.getElem?_eq_getElem hi] at hok
 simp only [Option.getD_some, Bool.and_eq_true, decide_eq_true_eq] at hok
 have h1 := hok.1
 unfold prevN at h1
 cases i with
 | zero => simpa using h1
 | succ i =>
   have h0 := rightV_lt hr (i := 0) (j := i + 1) (by omega) hi
   have hok0 := (rightV_iff l).1 hr 0 (by omega)
   unfold okAt at hok0
   rw [List.getElem?_eq_getElem (show 0 < l.length by omega)] at hok0
   simp only [Option.getD_some, Bool.and_eq_true, decide_eq_true_eq] at hok0
   have h2 := hok0.1
   unfold prevN at h2
   have h2' : 0 < l[0].n := by simpa using h2
   omega
theorem rightV_of {l : List Vn} (hlt : ∀ (i j : Nat) (hij : i < j) (hj : j < l.length), (l[i]'(by omega)).n < l[j].n) (hpos : ∀ v ∈ l, 0 < v.n) (hb : ∀ v ∈ l, baseV v ≠ 0 → ∃ w ∈ l, w.n = baseV v ∧ w.n < v.n) : rightV l = true := by
 rw [rightV_iff]
 intro i hi
 unfold okAt
 rw [List.getElem?_eq_getElem hi]
 simp only [Option.getD_some, Bool.and_eq_true, Bool.or_eq_true, decide_eq_true_eq]
 refine ⟨?_, ?_⟩
 · unfold prevN
   cases i with
   | zero => simpa using hpos _ (List.getElem_mem hi)
   | succ i =>
     have := hlt i (i + 1) (by omega) hi
     simpa [show i < l.length by omega] using this
 · by_cases h0 : baseV l[i] = 0
   · exact .inl h0
   · right
     obtain ⟨w, hw, h1, h2⟩ := hb l[i] (List.getElem_mem hi) h0
     obtain ⟨k, hk, rfl⟩ := List.getElem_of_mem hw
     have hki : k < i := by
       rcases Nat.lt_trichotomy k i with h | h | h
       · exact h
       · subst h; omega
       · have := hlt i k h hk; omega
     rcases ixV_cases (l.take i) (baseV l[i]) with ⟨j, hj, h3, _⟩ | ⟨_, h3⟩
     · omega
     · exact absurd h1 (h3 l[k] (by rw [List.mem_take_iff_getElem]; exact ⟨k, by omega, rfl⟩))
theorem base_in {l : List Vn} (hr : rightV l = true) {v : Vn} (hv : v ∈ l) (hb : baseV v ≠ 0) : ∃ w ∈ l, w.n = baseV v ∧ w.n < v.n := by
 obtain ⟨i, hi, rfl⟩ := List.getElem_of_mem hv
 obtain ⟨j, hj, _, h1⟩ := base_at hr hi hb
 exact ⟨l[j], List.getElem_mem _, h1, rightV_lt hr hj hi⟩
theorem num_eq {l : List Vn} (hr : rightV l = true) {v w : Vn} (hv : v ∈ l) (hw : w ∈ l) (h : v.n = w.n) : v = w := by
 obtain ⟨i, hi, rfl⟩ := List.getElem_of_mem hv
 obtain ⟨j, hj, rfl⟩ := List.getElem_of_mem hw
 have := right_ne hr hi hj h
 subst this; rfl
theorem right_filter {l : List Vn} (hr : rightV l = true) (p : Vn → Bool) (hc : ∀ v ∈ l, p v = true → baseV v ≠ 0 → ∀ w ∈ l, w.n = baseV v → p w = true) : rightV (l.filter p) = true := by
 have hpw : l.Pairwise fun a b => a.n < b.n := by
   rw [List.pairwise_iff_getElem]
   intro i j hi hj hij
   exact rightV_lt hr hij hj
 have hpf := hpw.filter p
 rw [List.pairwise_iff_getElem] at hpf
 refine rightV_of (fun i j hij hj => hpf i j (by omega) hj hij) (fun v hv => ?_) fun v hv hb => ?_
 · obtain ⟨i, hi, rfl⟩ := List.getElem_of_mem (List.mem_filter.1 hv).1
   exact rightV_pos hr hi
 · obtain ⟨h1, h2⟩ := List.mem_filter.1 hv
   obtain ⟨w, hw, h3, h4⟩ := base_in hr h1 hb
   exact ⟨w, List.mem_filter.2 ⟨hw, hc v h1 h2 hb w hw h3⟩, h3, h4⟩
inductive Ch (l : List Vn) : Vn → List Vn → Prop
 | base (v : Vn) : baseV v = 0 → Ch l v [v]
 | step (v w : Vn) (p : List Vn) : w ∈ l → w.n = baseV v → baseV v ≠ 0 → Ch l w p → Ch l v (p ++ [v])
theorem plan_ch {l : List Vn} (hr : rightV l = true) : ∀ (i : Nat) (hi : i < l.length), Ch l l[i] (planF l l.length i) := by
 intro i
 induction i using Nat.strongRecOn with
 | _ i ih =>
   intro hi
   by_cases hb : baseV l[i] = 0
   · rw [planF_zero (by rw [atV_eq hi]; exact hb), atV_eq hi]
     exact .base _ hb
   · obtain ⟨j, hj, hx, hn⟩ := base_at hr hi hb
     rw [planF_next hr hi hb hj hx]
     exact .step _ l[j] _ (List.getElem_mem _) hn hb (ih j hj (by omega))
theorem Ch.uniq {l : List Vn} (hr : rightV l = true) {v : Vn} {p q : List Vn} (hp : Ch l v p) (hq : Ch l v q) : p = q := by
 induction hp generalizing q with
 | base v h => cases hq with
   | base _ _ => rfl
   | step _ _ _ _ _ h' _ => exact absurd h h'
 | step v w p hw hn hb _ ih => cases hq with
   | base _ h' => exact absurd h' hb
   | step _ w' p' hw' hn' _ h' =>
     have : w = w' := num_eq hr hw hw' (hn.trans hn'.symm)
     subst this
     rw [ih h']
theorem Ch.mono {l m : List Vn} (hs : ∀ v ∈ l, v ∈ m) {v : Vn} {p : List Vn} (h : Ch l v p) : Ch m v p := by
 induction h with
 | base v h => exact .base v h
 | step v w p hw hn hb _ ih => exact .step v w p (hs w hw) hn hb ih
theorem Ch.map {f : Vn → Vn} (hn : ∀ v, (f v).n = v.n) (hb : ∀ v, baseV (f v) = baseV v) {l : List Vn} {v : Vn} {p : List Vn} (h : Ch l v p) : Ch (l.map f) (f v) (p.map f) := by
 induction h with
 | base v h => exact .base _ ((hb v).trans h)
 | step v w p hw h1 h2 _ ih =>
   rw [List.map_append]
   exact .step _ (f w) _ (List.mem_map.2 ⟨w, hw, rfl⟩) (by rw [hn, hb, h1]) (by rw [hb]; exact h2) ih
theorem Ch.mem {l : List Vn} {v : Vn} {p : List Vn} (h : Ch l v p) (hv : v ∈ l) : ∀ x ∈ p, x ∈ l := by
 induction h with
 | base v h => intro x hx; rw [List.mem_singleton] at hx; rw [hx]; exact hv
 | step v w p hw _ _ _ ih =>
   intro x hx
   rcases List.mem_append.1 hx with hx | hx
   · exact ih hw x hx
   · rw [List.mem_singleton] at hx; rw [hx]; exact hv
theorem Ch.self {l : List Vn} {v : Vn} {p : List Vn} (h : Ch l v p) : ∃ q, p = q ++ [v] := by
 cases h with
 | base _ _ => exact ⟨[], rfl⟩
 | step _ _ p _ _ _ _ => exact ⟨p, rfl⟩
theorem Ch.closed {l : List Vn} {v : Vn} {p : List Vn} (h : Ch l v p) : ∀ x ∈ p, baseV x ≠ 0 → ∃ y ∈ p, y.n = baseV x := by
 induction h with
 | base v h => intro x hx hb; rw [List.mem_singleton] at hx; rw [hx] at hb; exact absurd h hb
 | step v w p hw hn _ hc ih =>
   intro x hx0 hb
   rcases List.mem_append.1 hx0 with hx | hx
   · obtain ⟨y, hy, h⟩ := ih x hx hb
     exact ⟨y, List.mem_append.2 (.inl hy), h⟩
   · have hxv := List.mem_singleton.1 hx
     obtain ⟨q, hq⟩ := hc.self
     exact ⟨w, by rw [hq]; simp, by rw [hxv]; exact hn⟩
theorem Ch.shape {l : List Vn} {v : Vn} {p : List Vn} (h : Ch l v p) : ∀ (k : Nat) (hk : k < p.length), (baseV p[k] = 0 ↔ k = 0) ∧ ∀ h0 : 0 < k, baseV p[k] = (p[k - 1]'(by omega)).n := by
 induction h with
 | base v h =>
   intro k hk
   simp only [List.length_singleton] at hk
   have : k = 0 := by omega
   subst this
   exact ⟨by simpa using h, fun h => by omega⟩
 | step v w p hw hn hb hc ih =>
   intro k hk
   rw [List.length_append, List.length_singleton] at hk
   by_cases hkp : k < p.length
   · obtain ⟨h1, h2⟩ := ih k hkp
     refine ⟨by rw [List.getElem_append_left hkp]; exact h1, fun h0 => ?_⟩
     rw [List.getElem_append_left hkp, List.getElem_append_left (show k - 1 < p.length by omega)]
     exact h2 h0
   · have hke : k = p.length := by omega
     obtain ⟨q, rfl⟩ := hc.self
     subst hke
     refine ⟨?_, fun h0 => ?_⟩
     · rw [List.getElem_append_right (by omega)]
       simp only [Nat.sub_self, List.getElem_singleton, List.length_append, List.length_singleton]
       exact ⟨fun h => absurd h hb, fun h => by omega⟩
     · rw [List.getElem_append_right (by omega), List.getElem_append_left (by simp)]
       simp only [Nat.sub_self, List.getElem_singleton, List.length_append, List.length_singleton, Nat.add_sub_cancel]
       rw [List.getElem_append_right (by omega)]
       simpa using hn.symm
theorem get_of {l : List Vn} (hr : rightV l = true) {v : Vn} (hv : v ∈ l) (hh : v.hid = false) : getV l v.n = some v := by
 have hs : v ∈ seenV l := by unfold seenV; simp [hv, hh]
 unfold getV
 cases hf : (seenV l).find? fun w => decide (w.n = v.n) with
 | none => rw [List.find?_eq_none] at hf; exact absurd (decide_eq_true rfl) (hf v hs)
 | some w =>
   have h1 := List.mem_of_find?_eq_some hf
   have h2 := List.find?_some hf
   have hw : w ∈ l := by unfold seenV at h1; exact (List.mem_filter.1 h1).1
   rw [num_eq hr hw hv (by simpa using h2)]
theorem get_inv {l : List Vn} {n : Int} {v : Vn} (h : getV l n = some v) : v ∈ l ∧ v.n = n ∧ v.hid = false := by
 unfold getV at h
 have h1 := List.mem_of_find?_eq_some h
 have h2 := List.find?_some h
 unfold seenV at h1
 obtain ⟨h3, h4⟩ := List.mem_filter.1 h1
 exact ⟨h3, by simpa using h2, by simpa using h4⟩
theorem plan_of {l : List Vn} (hr : rightV l = true) {n : Int} {v : Vn} (h : getV l n = some v) : (planV l n).2 = 0 ∧ Ch l v (planV l n).1 := by
 obtain ⟨h1, h2, h3⟩ := get_inv h
 obtain ⟨i, hi, rfl⟩ := List.getElem_of_mem h1
 have hp : planV l n = (planF l l.length i, 0) := by
   simp only [planV, hr, h]
   rw [if_neg (by simp), ix_self hr hi, Int.toNat_natCast]
 rw [hp]
 exact ⟨rfl, plan_ch hr i hi⟩
theorem need_mem {o : List Vn} (hr : rightV o = true) {v : Vn} (hv : v ∈ o) : needB o v.n = true ↔ ∃ x ∈ o, x.hid = false ∧ ∃ p, Ch o x p ∧ v ∈ p := by
 rw [need_iff hr]
 constructor
 · rintro ⟨x, hx, hn⟩
   have hx' : x ∈ o ∧ x.hid = false := by unfold seenV at hx; simpa using hx
   have hg := get_of hr hx'.1 hx'.2
   obtain ⟨_, hc⟩ := plan_of hr hg
   unfold planN at hn
   obtain ⟨w, hw, hwn⟩ := List.mem_map.1 hn
   refine ⟨x, hx'.1, hx'.2, _, hc, ?_⟩
   rw [← num_eq hr (hc.mem hx'.1 w hw) hv hwn]; exact hw
 · rintro ⟨x, hx, hh, p, hc, hvp⟩
   have hg := get_of hr hx hh
   obtain ⟨_, hc'⟩ := plan_of hr hg
   refine ⟨x, by unfold seenV; simp [hx, hh], ?_⟩
   unfold planN
   rw [hc'.uniq hr hc]
   exact List.mem_map.2 ⟨v, hvp, rfl⟩
theorem forget_eq {l : List Vn} (hr : rightV l = true) (keep : List Int) : forgetV l keep = (hidL l keep).filter fun v => needB (hidL l keep) v.n := by
 unfold forgetV; rw [if_neg (by rw [hr]; simp)]
theorem forget_right {l : List Vn} (hr : rightV l = true) (keep : List Int) : rightV (forgetV l keep) = true := by
 rw [forget_eq hr]
 have hrO := (right_hid l keep).trans hr
 refine right_filter hrO _ fun v hv hn hb w hw hwn => ?_
 obtain ⟨x, hx, hh, p, hc, hvp⟩ := (need_mem hrO hv).1 hn
 obtain ⟨y, hy, hyn⟩ := hc.closed v hvp hb
 have : y = w := num_eq hrO (hc.mem hx y hy) hw (hyn.trans hwn.symm)
 subst this
 exact (need_mem hrO hw).2 ⟨x, hx, hh, p, hc, hy⟩
theorem forget_len {l : List Vn} (hr : rightV l = true) (keep : List Int) : (forgetV l keep).length ≤ l.length := by
 rw [forget_eq hr]
 have := List.length_filter_le (fun v => needB (hidL l keep) v.n) (hidL l keep)
 rw [hidL_len] at this
 exact this
theorem forget_mem {l : List Vn} (hr : rightV l = true) {keep : List Int} {v : Vn} (h : v ∈ forgetV l keep) : v ∈ hidL l keep ∧ ∃ u ∈ l, v = hidF (curN l) keep u := by
 rw [forget_eq hr] at h
 have h1 := (List.mem_filter.1 h).1
 obtain ⟨u, hu, rfl⟩ := List.mem_map.1 h1
 exact ⟨h1, u, hu, rfl⟩
theorem forget_get {l : List Vn} (hr : rightV l = true) {keep : List Int} {n : Int} {v : Vn} (h : getV (forgetV l keep) n = some v) : ∃ u, getV l n = some u ∧ v = hidF (curN l) keep u := by
 obtain ⟨h1, h2, h3⟩ := get_inv h
 obtain ⟨_, u, hu, rfl⟩ := forget_mem hr h1
 have hh : u.hid = false := by
   have : (u.hid || (!decide (u.n = curN l) && !inU keep u.n)) = false := h3
   rw [Bool.or_eq_false_iff] at this
   exact this.1
 refine ⟨u, ?_, rfl⟩
 rw [← h2]
 exact get_of hr hu hh
theorem forget_plan {l : List Vn} (hr : rightV l = true) {keep : List Int} {n : Int} {v : Vn} (h : getV (forgetV l keep) n = some v) : numsV (planV (forgetV l keep) n).1 = numsV (planV l n).1 := by
 obtain ⟨u, hu, rfl⟩ := forget_get hr h
 obtain ⟨_, c1⟩ := plan_of (forget_right hr keep) h
 obtain ⟨_, c2⟩ := plan_of hr hu
 have hrO := (right_hid l keep).trans hr
 have c3 : Ch (hidL l keep) (hidF (curN l) keep u) (planV (forgetV l keep) n).1 := c1.mono fun w hw => (forget_mem hr hw).1
 have c4 : Ch (hidL l keep) (hidF (curN l) keep u) ((planV l n).1.map (hidF (curN l) keep)) := c2.map (f := hidF (curN l) keep) (fun _ => rfl) (fun _ => rfl)
 rw [c3.uniq hrO c4]
 unfold numsV
 rw [List.map_map]
 rfl
theorem seen_pw {l : List Vn} (hr : rightV l = true) : (seenV l).Pairwise fun a b => a.n < b.n := by
 have hpw : l.Pairwise fun a b => a.n < b.n := by
   rw [List.pairwise_iff_getElem]
   intro i j hi hj hij
   exact rightV_lt hr hij hj
 exact hpw.filter _
theorem seen_mem {l : List Vn} {v : Vn} : v ∈ seenV l ↔ v ∈ l ∧ v.hid = false := by unfold seenV; simp
theorem cur_of {l : List Vn} (hr : rightV l = true) {c : Vn} (h : curV l = some c) : c ∈ l ∧ c.hid = false ∧ ∀ u ∈ l, u.hid = false → u.n ≤ c.n := by
 unfold curV at h
 obtain ⟨ys, hy⟩ := List.getLast?_eq_some_iff.1 h
 have hp := seen_pw hr
 rw [hy, List.pairwise_append] at hp
 have hc : c ∈ seenV l := by rw [hy]; simp
 refine ⟨(seen_mem.1 hc).1, (seen_mem.1 hc).2, fun u hu hh => ?_⟩
 have hu' : u ∈ seenV l := seen_mem.2 ⟨hu, hh⟩
 rw [hy, List.mem_append, List.mem_singleton] at hu'
 rcases hu' with h1 | rfl
 · have := hp.2.2 u h1 c (by simp); omega
 · omega
theorem cur_is {l : List Vn} (hr : rightV l = true) {c : Vn} (h1 : c ∈ l) (h2 : c.hid = false) (h3 : ∀ u ∈ l, u.hid = false → u.n ≤ c.n) : curV l = some c := by
 cases h : curV l with
 | none =>
   unfold curV at h
   have := List.getLast?_eq_none_iff.1 h
   have hc : c ∈ seenV l := seen_mem.2 ⟨h1, h2⟩
   rw [this] at hc; cases hc
 | some d =>
   obtain ⟨g1, g2, g3⟩ := cur_of hr h
   have := h3 d g1 g2
   have := g3 c h1 h2
   rw [num_eq hr g1 h1 (by omega)]
theorem forget_cur {l : List Vn} (hr : rightV l = true) (keep : List Int) : curV (forgetV l keep) = curV l := by
 have hrA := forget_right hr keep
 have back : ∀ u ∈ forgetV l keep, u.hid = false → ∃ w ∈ l, w.hid = false ∧ w.n = u.n := by
   intro u hu hh
   obtain ⟨_, w, hw, rfl⟩ := forget_mem hr hu
   have : (w.hid || (!decide (w.n = curN l) && !inU keep w.n)) = false := hh
   rw [Bool.or_eq_false_iff] at this
   exact ⟨w, hw, this.1, rfl⟩
 cases hc : curV l with
 | none =>
   cases hd : curV (forgetV l keep) with
   | none => rfl
   | some d =>
     obtain ⟨g1, g2, _⟩ := cur_of hrA hd
     obtain ⟨w, hw, hh, _⟩ := back d g1 g2
     unfold curV at hc
     have h0 := List.getLast?_eq_none_iff.1 hc
     have : w ∈ seenV l := seen_mem.2 ⟨hw, hh⟩
     rw [h0] at this; cases this
 | some c =>
   obtain ⟨g1, g2, g3⟩ := cur_of hr hc
   have hcn : curN l = c.n := by unfold curN; rw [hc]; rfl
   have hfc : hidF (curN l) keep c = c := by
     cases c
     simp only [hidF, hcn] at g2 ⊢
     simp [g2]
   have hcO : c ∈ hidL l keep := by
     rw [← hfc]; exact List.mem_map.2 ⟨c, g1, rfl⟩
   have hrO := (right_hid l keep).trans hr
   have hgO := get_of hrO hcO g2
   obtain ⟨_, hch⟩ := plan_of hrO hgO
   obtain ⟨q, hq⟩ := hch.self
   have hnd : needB (hidL l keep) c.n = true := (need_mem hrO hcO).2 ⟨c, hcO, g2, _, hch, by rw [hq]; simp⟩
   refine cur_is hrA ?_ g2 fun u hu hh => ?_
   · rw [forget_eq hr]; exact List.mem_filter.2 ⟨hcO, hnd⟩
   · obtain ⟨w, hw, hh', hn⟩ := back u hu hh
     rw [← hn]; exact g3 w hw hh'
end Go.Proofs.Ytfpmjcdcpicmaaa.Ab
namespace Go.Proofs.Ytfpmjcdcpicmaaa.Ab
open Go Go.RowKit R
set_option linter.unusedVariables false
set_option linter.unusedSimpArgs false
set_option maxHeartbeats 40000000
set_option maxRecDepth 100000
theorem c_verBytes (l : List Vn) (b : List UInt8) (hi : ∀ v ∈ l, okV v) :
   Con Try.prog 10 [] [.pv (.ro (rowsV l)), .pv (.ro (bytesRow b))] [] (.pv (.bool true)) := by
 refine con_of (tab_cons c_worksV (tab_cons c_FewV (tab_cons c_putV (tab_cons c_rputV (tab_cons c_RefV (tab_cons c_Vpar (tab_cons c_rVpar (tab_cons c_sameB (tab_cons c_SmV tab_nil))))))))) (by kernel_rfl) fn10 (by simp) ?_
 unfold body10
 cases hfw : fewV l with
 | false => simp (config := { maxSteps := 3000000 }) [hfw]
 | true =>
 by_cases hb : (1000 : Int) < b.length
 · simp (config := { maxSteps := 3000000 }) [hfw, hb]
 obtain ⟨hl12, htx⟩ := few_len hfw
 have hl9 : l.length ≤ 1000000000 := by omega
 have hl3 : l.length ≤ 1000 := by omega
 have hl6 : l.length ≤ 1000000 := by omega
 have hb8 : b.length ≤ 100000000 := by omega
 have hb9 : b.length ≤ 1000000000 := by omega
 have hpl := parse_lenV b
 have hpl6 : (parseV b).1.length ≤ 1000000 := by omega
 have hpl3 : (parseV b).1.length ≤ 1000 := by omega
 have hot : ∀ v ∈ l, okV v ∧ v.t.length ≤ 1000000 := fun v hv => ⟨hi v hv, by have := htx v hv; omega⟩
 have fl : ∀ l, flatRows (rowsV l) := flat_rowsV
 have fb : ∀ l, flatRows (bytesRow l) := flat_byR
 have hal : (allVB l).length ≤ 20000000 := by
   have h1 := entsVB_len hot
   have h2 := vputP_lenW (n := (l.length : Int)) ⟨by omega, by omega⟩
   unfold allVB
   rw [List.length_append]
   omega
 have hal9 : (putVt l).1.length ≤ 1000000000 := by
   unfold putVt
   split
   · show (allVB l).length ≤ _
     omega
   · simp
 apply vwp_cut
 · simp (config := { maxSteps := 3000000 })
   exact ⟨rfl, rfl⟩
 apply vwp_cut
 · simp (config := { maxSteps := 3000000 }) [hfw, hb]
   exact ⟨rfl, rfl⟩
 apply vwp_cut
 · simp (config := { maxSteps := 3000000 }) [hl3, fl, fb]
   exact ⟨hot, rfl, rfl⟩
 apply vwp_cut
 · simp (config := { maxSteps := 3000000 }) [hl3, hl6, fl, fb]
   exact ⟨hot, rfl, rfl⟩
 apply vwp_cut
 · simp (config := { maxSteps := 3000000 }) [hb8, fb]
   exact ⟨rfl, rfl⟩
 apply vwp_cut
 · simp (config := { maxSteps := 3000000 }) [hb8, fb]
   exact ⟨rfl, rfl⟩
 apply vwp_cut
 · simp (config := { maxSteps := 3000000 }) [hal9, hpl6, fl, fb]
   exact ⟨rfl, rfl⟩
 by_cases hr : rightV l = true ∧ allPl l = true
 rotate_left
 · have hp : putVt l = ([], 2) := by unfold putVt; rw [if_neg hr]
   apply vwp_cut
   · simp (config := { maxSteps := 3000000 }) [hp]
     exact ⟨rfl, rfl⟩
   by_cases hq : (parseV b).2 = 0
   · obtain ⟨q1, q2, q3, q4⟩ := put_parseV hq
     have hqt := parse_txt hq
     have hqo : ∀ v ∈ (parseV b).1, okV v ∧ v.t.length ≤ 1000000 := fun v hv => ⟨(q3 v hv).1, by have := hqt v hv; omega⟩
     have hqp : putVt (parseV b).1 = (b, 0) := by unfold putVt; rw [if_pos ⟨q1, allPl_of q3⟩, q2]
     apply vwp_cut
     · apply vwp_cut
       · simp (config := { maxSteps := 3000000 }) [hq]
         exact ⟨rfl, rfl⟩
       apply vwp_condT' rfl
       apply vwp_cut
       · simp (config := { maxSteps := 3000000 }) [hpl3, hqp, fb, fl]
         exact ⟨hqo, rfl, rfl⟩
       simp (config := { maxSteps := 3000000 }) [hb9, hqp, fb, fl]
       exact ⟨rfl, rfl⟩
     simp (config := { maxSteps := 3000000 })
   · simp (config := { maxSteps := 3000000 }) [hq]
 · have hp : putVt l = (allVB l, 0) := by unfold putVt; rw [if_pos hr]
   have hpp := parse_putV hr.1 (fun e he => ⟨okW_of hr.2 hi e he, by have := htx e he; omega⟩) (by omega)
   have ha8 : (allVB l).length ≤ 100000000 := by omega
   apply vwp_cut
   · apply vwp_cut
     · simp (config := { maxSteps := 3000000 }) [hp]
       exact ⟨rfl, rfl⟩
     apply vwp_condT' rfl
     apply vwp_cut
     · simp (config := { maxSteps := 3000000 }) [ha8, hpp, hp, fb, fl]
       exact ⟨rfl, rfl⟩
     simp (config := { maxSteps := 3000000 }) [hl6, hl9, hpp, hp, fb, fl]
     exact ⟨rfl, rfl⟩
   by_cases hq : (parseV b).2 = 0
   · obtain ⟨q1, q2, q3, q4⟩ := put_parseV hq
     have hqt := parse_txt hq
     have hqo : ∀ v ∈ (parseV b).1, okV v ∧ v.t.length ≤ 1000000 := fun v hv => ⟨(q3 v hv).1, by have := hqt v hv; omega⟩
     have hqp : putVt (parseV b).1 = (b, 0) := by unfold putVt; rw [if_pos ⟨q1, allPl_of q3⟩, q2]
     apply vwp_cut
     · apply vwp_cut
       · simp (config := { maxSteps := 3000000 }) [hq]
         exact ⟨rfl, rfl⟩
       apply vwp_condT' rfl
       apply vwp_cut
       · simp (config := { maxSteps := 3000000 }) [hpl3, hqp, fb, fl]
         exact ⟨hqo, rfl, rfl⟩
       simp (config := { maxSteps := 3000000 }) [hb9, hqp, fb, fl]
       exact ⟨rfl, rfl⟩
     simp (config := { maxSteps := 3000000 })
   · simp (config := { maxSteps := 3000000 }) [hq]
end Go.Proofs.Ytfpmjcdcpicmaaa.Ab
namespace Go.Proofs.Ytfpmjcdcpicmaaa.Ab
open Go Go.RowKit R
set_option linter.unusedVariables false
set_option linter.unusedSimpArgs false
set_option maxHeartbeats 40000000
set_option maxRecDepth 100000
theorem c_verTells (l : List Vn) (n : Int) (hi : ∀ v ∈ l, okV v) :
   Con Try.prog 7 [] [.pv (.ro (rowsV l)), .pv (.int .u64 n)] [] (.pv (.bool true)) := by
 refine con_of (tab_cons c_worksV (tab_cons c_FewV (tab_cons c_RefV (tab_cons c_Gv (tab_cons c_rGv (tab_cons c_Cv (tab_cons c_rCv (tab_cons c_Plan (tab_cons c_rPlan (tab_cons c_Seen (tab_cons c_rSeen (tab_cons c_one (tab_cons c_SmV (tab_cons c_Rv (tab_cons c_rRv tab_nil))))))))))))))) (by kernel_rfl) fn7 (by simp) ?_
 unfold body7
 cases hfw : fewV l with
 | false => simp (config := { maxSteps := 3000000 }) [hfw]
 | true =>
 obtain ⟨hl12, htx⟩ := few_len hfw
 have hl9 : l.length ≤ 1000000000 := by omega
 have hl5 : l.length ≤ 100000 := by omega
 have hl6 : l.length ≤ 1000000 := by omega
 have fl : ∀ l, flatRows (rowsV l) := flat_rowsV
 have hpl := planV_len (o := l) n
 have hsl := seenV_len (l := l)
 have hpl6 : (planV l n).1.length ≤ 1000000 := by omega
 have hsl6 : (seenV l).length ≤ 1000000 := by omega
 apply vwp_cut
 · simp (config := { maxSteps := 3000000 })
   exact ⟨rfl, rfl⟩
 apply vwp_cut
 · simp (config := { maxSteps := 3000000 }) [hfw]
   exact ⟨rfl, rfl⟩
 apply vwp_cut
 · simp (config := { maxSteps := 3000000 }) [hl6, fl]
   exact ⟨rfl, rfl⟩
 generalize hgA : (getV l n).getD v0 = A
 generalize hgO : (getV l n).isSome = o1
 generalize hcA : (curV l).getD v0 = B
 generalize hcO : (curV l).isSome = o2
 generalize hPW : planV l n = PW at hpl hpl6
 generalize hSW : seenV l = SW at hsl hsl6
 apply vwp_cut
 · simp (config := { maxSteps := 3000000 }) [hl6, hgA, hgO, cellsV]
   exact ⟨rfl, rfl⟩
 apply vwp_cut
 · simp (config := { maxSteps := 3000000 }) [hl6, hgA, hgO, cellsV]
   exact ⟨rfl, rfl⟩
 apply vwp_cut
 · simp (config := { maxSteps := 3000000 }) [hl6, hcA, hcO, cellsV]
   exact ⟨rfl, rfl⟩
 apply vwp_cut
 · simp (config := { maxSteps := 3000000 }) [hl6, hcA, hcO, cellsV]
   exact ⟨rfl, rfl⟩
 apply vwp_cut
 · simp (config := { maxSteps := 3000000 }) [hl5, hPW, fl]
   exact ⟨hi, rfl, rfl⟩
 apply vwp_cut
 · simp (config := { maxSteps := 3000000 }) [hl5, hPW, fl]
   exact ⟨hi, rfl, rfl⟩
 apply vwp_cut
 · simp (config := { maxSteps := 3000000 }) [hl6, hSW, fl]
   exact ⟨rfl, rfl⟩
 have eI := eq_cellsI A
 have eJ := eq_cellsI B
 apply vwp_cut
 · apply vwp_cut
   · refine (show steps _ _ _ _ _ from ?_)
     apply steps_spl 9 rfl rfl
     · simp (config := { maxSteps := 3000000 }) [eI]
       exact ⟨rfl, rfl⟩
     apply steps_spl 11 rfl rfl
     · simp (config := { maxSteps := 3000000 }) [eJ]
       exact ⟨rfl, rfl⟩
     apply steps_spl 11 rfl rfl
     · simp (config := { maxSteps := 3000000 }) [hpl6]
       exact ⟨rfl, rfl⟩
     apply steps_spl 7 rfl rfl
     · simp (config := { maxSteps := 3000000 }) [hl6, hSW, hsl6, fl]
       exact ⟨rfl, rfl⟩
     simp (config := { maxSteps := 3000000 }) [hl9]
     exact ⟨hi, rfl, rfl⟩
   simp (config := { maxSteps := 3000000 })
   exact ⟨rfl, rfl⟩
 have hz : ∀ (m : List Vn) (i : Nat), (rowsV m).set i [.int .u64 0, .int .u64 0, .int .u64 0, .int .u64 0, .int .u64 0, .int .u64 0, .int .u64 0, .str [], .bool false, .bool false] = rowsV (m.set i v0) := fun m i => rowsV_set m i v0
 have hten := fun (m : List Vn) (i : Nat) (h : i < m.length) => rowsV_at h
 simp (config := { maxSteps := 3000000 })
 refine vwp_loop (fun x : Nat × List Vn => x.1 ≤ SW.length ∧ x.2.length = SW.length) (fun x => ⟨[(0, .pv (.ro (rowsV l))), (5, .own 26), (14, .own 52), (18, .own 62), (19, .pv (.int .i64 x.1))], [(26, .arr 75 (rowsV l)), (52, .arr 70 (rowsV PW.1)), (62, .arr 70 (rowsV x.2))]⟩) (fun x => SW.length - x.1) [] (0, SW) ?_ ?_ ?_
 · exact ⟨by simp, rfl⟩
 · simp
 · rintro ⟨i, m⟩ ⟨hi1, hm⟩
   dsimp only at hi1 hm
   have w2 : IntKind.i64.wrap ((i : Int) + 1) = (i : Int) + 1 := wrap_i64 (by omega)
   by_cases hlt : i < SW.length
   · have r1 := hten m i (by omega)
     simp (config := { maxSteps := 3000000 }) [w2, hlt, hm, r1, hz]
     exact ⟨i + 1, m.set i v0, ⟨by omega, by simpa using hm⟩, ⟨by omega, rfl⟩, by omega⟩
   · simp (config := { maxSteps := 3000000 }) [hlt, hm]
     refine vwp_loop (fun x : Nat × List Vn => x.1 ≤ PW.1.length ∧ x.2.length = PW.1.length) (fun x => ⟨[(0, .pv (.ro (rowsV l))), (5, .own 26), (14, .own 52), (20, .pv (.int .i64 x.1))], [(26, .arr 75 (rowsV l)), (52, .arr 70 (rowsV x.2))]⟩) (fun x => PW.1.length - x.1) [] (0, PW.1) ?_ ?_ ?_
     · exact ⟨by simp, rfl⟩
     · simp
     · rintro ⟨j, m'⟩ ⟨hj1, hm'⟩
       dsimp only at hj1 hm'
       have w3 : IntKind.i64.wrap ((j : Int) + 1) = (j : Int) + 1 := wrap_i64 (by omega)
       by_cases hjl : j < PW.1.length
       · have r2 := hten m' j (by omega)
         simp (config := { maxSteps := 3000000 }) [w3, hjl, hm', r2, hz]
         exact ⟨j + 1, m'.set j v0, ⟨by omega, by simpa using hm'⟩, ⟨by omega, rfl⟩, by omega⟩
       · simp (config := { maxSteps := 3000000 }) [hjl, hm', hl6]
end Go.Proofs.Ytfpmjcdcpicmaaa.Ab
namespace Go.Proofs.Ytfpmjcdcpicmaaa.Ab
open Go Go.RowKit R
set_option linter.unusedVariables false
set_option linter.unusedSimpArgs false
set_option maxHeartbeats 40000000
set_option maxRecDepth 100000
theorem addV_len (l : List Vn) (v : Vn) : (addV l v).1.length ≤ l.length + 1 := by
 unfold addV; split
 · simp
 · split <;> simp
theorem inlinedV_len (l : List Vn) (ts : List (List UInt8)) : (inlinedV l ts).1.length ≤ l.length := by
 unfold inlinedV; split
 · simp
 · have := seenV_len (l := l)
   simp [inlV]; omega
theorem forgetV_len (l : List Vn) (keep : List Int) : (forgetV l keep).length ≤ l.length := by
 unfold forgetV; split
 · simp
 · have := List.length_filter_le (fun v => needB (hidL l keep) v.n) (hidL l keep)
   rw [hidL_len] at this; exact this
theorem c_verChanges (l : List Vn) (v : Vn) (keep : List Int) (ts : List (List UInt8)) (hi : ∀ x ∈ l, okV x) (hv : okV v) :
   Con Try.prog 9 [] [.pv (.ro (rowsV l)), .agg (cellsV v), .pv (.ro (rowsU keep)), .pv (.ro (rowsSt ts))] [] (.pv (.bool true)) := by
 refine con_of (tab_cons c_worksV (tab_cons c_FewV (tab_cons c_RefV (tab_cons c_AddV (tab_cons c_rAddV (tab_cons c_Inl (tab_cons c_rInl (tab_cons c_Forget (tab_cons c_rForget (tab_cons c_one (tab_cons c_SmV tab_nil))))))))))) (by kernel_rfl) fn9 (by simp) ?_
 unfold body9
 cases hfw : fewV l with
 | false =>
   simp (config := { maxSteps := 3000000 }) [hfw, cellsV]
 | true =>
 obtain ⟨hl12, htx⟩ := few_len hfw
 by_cases hvt : (100 : Int) < v.t.length
 · simp (config := { maxSteps := 3000000 }) [hfw, cellsV, hvt]
 by_cases hkp : (20 : Int) < keep.length
 · simp (config := { maxSteps := 3000000 }) [hfw, cellsV, hvt, hkp]
 by_cases htl : (20 : Int) < ts.length
 · simp (config := { maxSteps := 3000000 }) [hfw, cellsV, hvt, hkp, htl]
 have hl9 : l.length ≤ 1000000000 := by omega
 have hl5 : l.length ≤ 100000 := by omega
 have hl6 : l.length ≤ 1000000 := by omega
 have hk6 : keep.length ≤ 1000000 := by omega
 have fl : ∀ l, flatRows (rowsV l) := flat_rowsV
 have hv' : okV ⟨v.n, v.b, v.p, v.i, v.s, v.z, v.m, v.t, v.inl, v.hid⟩ := hv
 apply vwp_cut
 · simp (config := { maxSteps := 3000000 }) [cellsV]
   exact ⟨rfl, rfl⟩
 apply vwp_cut
 · simp (config := { maxSteps := 3000000 }) [hfw, hvt, hkp, htl]
   exact ⟨rfl, rfl⟩
 apply vwp_cut
 · simp (config := { maxSteps := 3000000 })
   refine vwp_loop (fun i : Nat => i ≤ ts.length) (fun i => ⟨[(0, .pv (.ro (rowsV l))), (2, .pv (.ro (rowsU keep))), (3, .pv (.ro (rowsSt ts))), (5, .ptr 5 0), (9, .pv (.int .i64 i))], [(5, .box (cellsV v))]⟩) (fun i => ts.length - i) [] 0 (by simp) ?_ ?_
   · simp [cellsV]
   · rintro i hi'
     have w2 : IntKind.i64.wrap ((i : Int) + 1) = (i : Int) + 1 := wrap_i64 (by omega)
     by_cases hlt : i < ts.length
     · have r1 := rowsSt_at hlt
       by_cases h100 : (100 : Int) < ts[i].length
       · simp (config := { maxSteps := 3000000 }) [w2, hlt, r1, h100]
       · simp (config := { maxSteps := 3000000 }) [w2, hlt, r1, h100, cellsV]
         exact ⟨i + 1, by omega, by omega, by omega⟩
     · have hie : i = ts.length := by omega
       subst hie
       simp (config := { maxSteps := 3000000 }) [cellsV]
       exact ⟨rfl, rfl⟩
 have hal := addV_len l v
 have hil := inlinedV_len l ts
 have hfl := forgetV_len l keep
 generalize hPA : addV l v = PA at hal
 generalize hPX : inlinedV l ts = PX at hil
 generalize hPK : forgetV l keep = PK at hfl
 have hve : addV l ⟨v.n, v.b, v.p, v.i, v.s, v.z, v.m, v.t, v.inl, v.hid⟩ = PA := hPA
 have hal6 : PA.1.length ≤ 1000000 := by omega
 have hil6 : PX.1.length ≤ 1000000 := by omega
 have hfl6 : PK.length ≤ 1000000 := by omega
 apply vwp_cut
 · simp (config := { maxSteps := 3000000 }) [hl6, fl]
   exact ⟨rfl, rfl⟩
 apply vwp_cut
 · simp (config := { maxSteps := 3000000 }) [hl5, hv', hve, fl]
   exact ⟨hi, rfl, rfl⟩
 apply vwp_cut
 · simp (config := { maxSteps := 3000000 }) [hl5, hv', hve, fl]
   exact ⟨hi, rfl, rfl⟩
 apply vwp_cut
 · simp (config := { maxSteps := 3000000 }) [hl5, hPX, fl]
   exact ⟨hi, rfl, rfl⟩
 apply vwp_cut
 · simp (config := { maxSteps := 3000000 }) [hl5, hPX, fl]
   exact ⟨hi, rfl, rfl⟩
 apply vwp_cut
 · simp (config := { maxSteps := 3000000 }) [hl5, hk6, hPK, fl]
   exact ⟨hi, rfl, rfl⟩
 apply vwp_cut
 · apply vwp_cut
   · refine (show stepsX _ _ _ _ _ from ?_)
     apply stepsX_spl 9 rfl rfl
     · simp (config := { maxSteps := 3000000 }) [hal6]
       exact ⟨rfl, rfl⟩
     apply stepsX_spl 11 rfl rfl
     · simp (config := { maxSteps := 3000000 }) [hil6]
       exact ⟨rfl, rfl⟩
     simp (config := { maxSteps := 3000000 }) [hl5, hk6, hPK, hfl6, fl]
     exact ⟨hi, rfl, rfl⟩
   simp (config := { maxSteps := 3000000 })
   exact ⟨rfl, rfl⟩
 have hz : ∀ (m : List Vn) (i : Nat), (rowsV m).set i [.int .u64 0, .int .u64 0, .int .u64 0, .int .u64 0, .int .u64 0, .int .u64 0, .int .u64 0, .str [], .bool false, .bool false] = rowsV (m.set i v0) := fun m i => rowsV_set m i v0
 have hten := fun (m : List Vn) (i : Nat) (h : i < m.length) => rowsV_at h
 simp (config := { maxSteps := 3000000 })
 refine vwp_loop (fun x : Nat × List Vn => x.1 ≤ PA.1.length ∧ x.2.length = PA.1.length) (fun x => ⟨[(0, .pv (.ro (rowsV l))), (10, .own 57), (11, .own 61), (15, .own 74), (19, .own 85), (20, .pv (.int .i64 x.1))], [(57, .arr 75 (rowsV l)), (61, .arr 70 (rowsV x.2)), (74, .arr 70 (rowsV PX.1)), (85, .arr 70 (rowsV PK))]⟩) (fun x => PA.1.length - x.1) [] (0, PA.1) ?_ ?_ ?_
 · exact ⟨by simp, rfl⟩
 · simp
 · rintro ⟨i, m⟩ ⟨hi1, hm⟩
   dsimp only at hi1 hm
   have w2 : IntKind.i64.wrap ((i : Int) + 1) = (i : Int) + 1 := wrap_i64 (by omega)
   by_cases hlt : i < PA.1.length
   · have r1 := hten m i (by omega)
     simp (config := { maxSteps := 3000000 }) [w2, hlt, hm, r1, hz]
     exact ⟨i + 1, m.set i v0, ⟨by omega, by simpa using hm⟩, ⟨by omega, rfl⟩, by omega⟩
   · simp (config := { maxSteps := 3000000 }) [hlt, hm]
     refine vwp_loop (fun x : Nat × List Vn => x.1 ≤ PK.length ∧ x.2.length = PK.length) (fun x => ⟨[(0, .pv (.ro (rowsV l))), (10, .own 57), (15, .own 74), (19, .own 85), (21, .pv (.int .i64 x.1))], [(57, .arr 75 (rowsV l)), (74, .arr 70 (rowsV PX.1)), (85, .arr 70 (rowsV x.2))]⟩) (fun x => PK.length - x.1) [] (0, PK) ?_ ?_ ?_
     · exact ⟨by simp, rfl⟩
     · simp
     · rintro ⟨j, m2⟩ ⟨hj1, hm2⟩
       dsimp only at hj1 hm2
       have w3 : IntKind.i64.wrap ((j : Int) + 1) = (j : Int) + 1 := wrap_i64 (by omega)
       by_cases hjl : j < PK.length
       · have r2 := hten m2 j (by omega)
         simp (config := { maxSteps := 3000000 }) [w3, hjl, hm2, r2, hz]
         exact ⟨j + 1, m2.set j v0, ⟨by omega, by simpa using hm2⟩, ⟨by omega, rfl⟩, by omega⟩
       · simp (config := { maxSteps := 3000000 }) [hjl, hm2]
         refine vwp_loop (fun x : Nat × List Vn => x.1 ≤ PX.1.length ∧ x.2.length = PX.1.length) (fun x => ⟨[(0, .pv (.ro (rowsV l))), (10, .own 57), (15, .own 74), (22, .pv (.int .i64 x.1))], [(57, .arr 75 (rowsV l)), (74, .arr 70 (rowsV x.2))]⟩) (fun x => PX.1.length - x.1) [] (0, PX.1) ?_ ?_ ?_
         · exact ⟨by simp, rfl⟩
         · simp
         · rintro ⟨k, m3⟩ ⟨hk1, hm3⟩
           dsimp only at hk1 hm3
           have w4 : IntKind.i64.wrap ((k : Int) + 1) = (k : Int) + 1 := wrap_i64 (by omega)
           by_cases hkl : k < PX.1.length
           · have r3 := hten m3 k (by omega)
             simp (config := { maxSteps := 3000000 }) [w4, hkl, hm3, r3, hz]
             exact ⟨k + 1, m3.set k v0, ⟨by omega, by simpa using hm3⟩, ⟨by omega, rfl⟩, by omega⟩
           · simp (config := { maxSteps := 3000000 }) [hkl, hm3, hl6]
end Go.Proofs.Ytfpmjcdcpicmaaa.Ab
namespace Go.Proofs.Ytfpmjcdcpicmaaa.Ab
open Go Go.RowKit R
set_option linter.unusedVariables false
set_option linter.unusedSimpArgs false
set_option maxHeartbeats 40000000
set_option maxRecDepth 100000
theorem forget_okV {l : List Vn} (hi : ∀ v ∈ l, okV v) (keep : List Int) : ∀ v ∈ forgetV l keep, okV v := by
 intro v hv
 unfold forgetV at hv
 split at hv
 · cases hv
 · exact okV_hid hi keep v (List.mem_filter.1 hv).1
theorem some_of {l : List Vn} {keep : List Int} {n : Int} (hr : rightV l = true) (h : (getV (forgetV l keep) n).isSome = true) : (getV l n).isSome = true := by
 obtain ⟨v, hv⟩ := Option.isSome_iff_exists.1 h
 obtain ⟨u, hu, _⟩ := forget_get hr hv
 rw [hu]; rfl
theorem c_verKeeps (l : List Vn) (keep again : List Int) (hi : ∀ v ∈ l, okV v) :
   Con Try.prog 8 [] [.pv (.ro (rowsV l)), .pv (.ro (rowsU keep)), .pv (.ro (rowsU again))] [] (.pv (.bool true)) := by
 refine con_of (tab_cons c_worksV (tab_cons c_FewV (tab_cons c_Rv (tab_cons c_Forget (tab_cons c_Cv (tab_cons c_Gv (tab_cons c_Plan (tab_cons c_numsV (tab_cons c_SmI tab_nil))))))))) (by kernel_rfl) fn8 (by simp) ?_
 unfold body8
 cases hfw : fewV l with
 | false => simp (config := { maxSteps := 3000000 }) [hfw]
 | true =>
 obtain ⟨hl12, htx⟩ := few_len hfw
 have hl9 : l.length ≤ 1000000000 := by omega
 by_cases hkp : (20 : Int) < keep.length
 · simp (config := { maxSteps := 3000000 }) [hfw, hkp]
 by_cases hag : (20 : Int) < again.length
 · simp (config := { maxSteps := 3000000 }) [hfw, hkp, hag]
 cases hr : rightV l with
 | false => simp (config := { maxSteps := 3000000 }) [hfw, hkp, hag, hr, hl9]
 | true =>
 have hl5 : l.length ≤ 100000 := by omega
 have hl6 : l.length ≤ 1000000 := by omega
 have hk6 : keep.length ≤ 1000000 := by omega
 have ha6 : again.length ≤ 1000000 := by omega
 have fl : ∀ l, flatRows (rowsV l) := flat_rowsV
 have fi : ∀ l, flatRows (rowsI l) := flat_rowsI
 have hrA := forget_right hr keep
 have hrB := forget_right hrA again
 have hlA := forget_len hr keep
 have hlB := forget_len hrA again
 have hoA := forget_okV hi keep
 have hcA := forget_cur hr keep
 have hplan := fun n v (h : getV (forgetV l keep) n = some v) => forget_plan hr h
 have hget := fun n (h : (getV (forgetV l keep) n).isSome = true) => some_of (n := n) hr h
 have hget2 := fun n (h : (getV (forgetV (forgetV l keep) again) n).isSome = true) => some_of (n := n) hrA h
 have hplA := fun n => planV_len (o := forgetV l keep) n
 have hplL := fun n => planV_len (o := l) n
 generalize hAA : forgetV l keep = A at hrA hrB hlA hlB hoA hcA hplan hget hget2 hplA
 generalize hBB : forgetV A again = B at hrB hlB hget2
 have hA5 : A.length ≤ 100000 := by omega
 have hA6 : A.length ≤ 1000000 := by omega
 have hA9 : A.length ≤ 1000000000 := by omega
 have hB6 : B.length ≤ 1000000 := by omega
 have hB9 : B.length ≤ 1000000000 := by omega
 apply vwp_cut
 · simp (config := { maxSteps := 3000000 })
   exact ⟨rfl, rfl⟩
 apply vwp_cut
 · simp (config := { maxSteps := 3000000 }) [hfw, hkp, hag, hr, hl9]
   exact ⟨rfl, rfl⟩
 apply vwp_cut
 · simp (config := { maxSteps := 3000000 }) [hl5, hk6, hAA, fl]
   exact ⟨hi, rfl, rfl⟩
 apply vwp_cut
 · simp (config := { maxSteps := 3000000 }) [hA5, ha6, hBB, fl]
   exact ⟨hoA, rfl, rfl⟩
 have hn1 : ¬ ((A.length : Int) < (B.length : Int)) := by omega
 have hn2 : ¬ ((l.length : Int) < (A.length : Int)) := by omega
 have hn1' : ¬ (A.length < B.length) := by omega
 have hn2' : ¬ (l.length < A.length) := by omega
 apply vwp_cut
 · simp (config := { maxSteps := 3000000 }) [hA9, hB9, hrA, hrB, hn1, hn2, hn1', hn2']
   exact ⟨rfl, rfl⟩
 generalize hcV : (curV l).getD v0 = C
 generalize hcS : (curV l).isSome = c1
 have eC := eq_cellsI C
 apply vwp_cut
 · simp (config := { maxSteps := 3000000 }) [hl6, hcV, hcS, cellsV]
   exact ⟨rfl, rfl⟩
 apply vwp_cut
 · simp (config := { maxSteps := 3000000 }) [hA6, hcA, hcV, hcS, cellsV]
   exact ⟨rfl, rfl⟩
 apply vwp_cut
 · simp (config := { maxSteps := 3000000 }) [eC]
   exact ⟨rfl, rfl⟩
 apply vwp_cut
 · simp (config := { maxSteps := 3000000 })
   refine vwp_loop (fun i : Nat => i ≤ l.length) (fun i => ⟨[(0, .pv (.ro (rowsV l))), (7, .own 48), (8, .own 51), (13, .pv (.int .i64 i))], [(48, .arr 70 (rowsV A)), (51, .arr 70 (rowsV B))]⟩) (fun i => l.length - i) [] 0 (by simp) ?_ ?_
   · simp
   · rintro i hi1
     have w2 : IntKind.i64.wrap ((i : Int) + 1) = (i : Int) + 1 := wrap_i64 (by omega)
     by_cases hlt : i < l.length
     rotate_left
     · have hie : i = l.length := by omega
       subst hie
       simp (config := { maxSteps := 3000000 })
       exact ⟨rfl, rfl⟩
     have r1 := rowsV_at hlt
     have hon := hi _ (List.getElem_mem hlt)
     have hln : l[i].n = l[i].n := rfl
     generalize hnn : l[i].n = n at r1
     apply vwp_cut
     · simp (config := { maxSteps := 3000000 }) [hlt]
       exact ⟨rfl, rfl⟩
     refine (show vwp _ _ (.block 1 _) _ _ _ from ?_)
     refine (show vwp _ _ (.seq _ _) _ (inBlk 1 _ _) _ from ?_)
     apply vwp_cut
     · simp (config := { maxSteps := 3000000 }) [hlt, r1]
       exact ⟨rfl, rfl⟩
     apply vwp_cut
     · simp (config := { maxSteps := 3000000 }) [hl6, cellsV]
       exact ⟨rfl, rfl⟩
     apply vwp_cut
     · simp (config := { maxSteps := 3000000 }) [hA6, cellsV]
       exact ⟨rfl, rfl⟩
     apply vwp_cut
     · simp (config := { maxSteps := 3000000 }) [hB6, cellsV]
       exact ⟨rfl, rfl⟩
     cases hb2 : (getV A n).isSome with
     | false =>
       have hb3 : (getV B n).isSome = false := by
         cases h3 : (getV B n).isSome with
         | false => rfl
         | true => rw [hget2 n h3] at hb2; cases hb2
       cases hb1 : (getV l n).isSome <;>
       · apply vwp_cut
         · simp (config := { maxSteps := 3000000 }) [hb1, hb2, hb3]
           exact ⟨rfl, rfl⟩
         simp (config := { maxSteps := 3000000 }) [w2]
         exact ⟨i + 1, by omega, by omega, by omega⟩
     | true =>
       have hb1 := hget n hb2
       obtain ⟨a, ha⟩ := Option.isSome_iff_exists.1 hb2
       obtain ⟨u, hu⟩ := Option.isSome_iff_exists.1 hb1
       have hnm := hplan n a ha
       obtain ⟨p1, hch⟩ := plan_of hr hu
       obtain ⟨p2, _⟩ := plan_of hrA ha
       have hpl := hplL n
       have hpa := hplA n
       have hun := (get_inv hu).2.1
       have hPl : planV l n = ((planV l n).1, 0) := by rw [← p1]
       have hPa : planV A n = ((planV A n).1, 0) := by rw [← p2]
       generalize (planV l n).1 = W at hnm hch hpl hPl
       generalize (planV A n).1 = X at hnm hpa hPa
       have hW6 : W.length ≤ 1000000 := by omega
       have hX6 : X.length ≤ 1000000 := by omega
       have hnW9 : (numsV W).length ≤ 1000000000 := by simp [numsV]; omega
       obtain ⟨q, hq⟩ := hch.self
       have hWl : W.length = q.length + 1 := by rw [hq]; simp
       have hql : q.length < W.length := by omega
       have hlast : W[q.length].n = n := by
         have : W[q.length] = u := by simp [hq]
         rw [this, hun]
       have hshape := hch.shape
       have r4 := rowsV_at hql
       rw [hlast] at r4
       have w5 : IntKind.i64.wrap (q.length : Int) = (q.length : Int) := wrap_i64 (by omega)
       have hq0 : ¬ ((q.length : Int) + 1 = 0) := by omega
       generalize (getV B n).isSome = b3
       apply vwp_cut
       · simp (config := { maxSteps := 3000000 }) [hb1, hb2]
         exact ⟨rfl, rfl⟩
       apply vwp_cut
       · simp (config := { maxSteps := 3000000 }) [hb2]
         exact ⟨rfl, rfl⟩
       apply vwp_cut
       · simp (config := { maxSteps := 3000000 }) [hl5, hPl, fl]
         exact ⟨hi, rfl, rfl⟩
       apply vwp_cut
       · simp (config := { maxSteps := 3000000 }) [hA5, hPa, fl]
         exact ⟨hoA, rfl, rfl⟩
       apply vwp_cut
       · apply vwp_cut
         · refine (show stepsX _ _ _ _ _ from ?_)
           apply stepsX_spl 14 rfl rfl
           · simp (config := { maxSteps := 3000000 }) [hW6, hX6, hnm, hnW9, fi]
             exact ⟨rfl, rfl⟩
           simp (config := { maxSteps := 3000000 }) [hWl, w5, r4, hq0]
           exact ⟨by omega, rfl, rfl⟩
         simp (config := { maxSteps := 3000000 })
         exact ⟨rfl, rfl⟩
       simp (config := { maxSteps := 3000000 })
       refine vwp_loop (fun k : Nat => k ≤ W.length) (fun k => ⟨[(0, .pv (.ro (rowsV l))), (7, .own 48), (8, .own 51), (13, .pv (.int .i64 i)), (21, .own 138), (25, .pv (.int .i64 k))], [(138, .arr 70 (rowsV W)), (48, .arr 70 (rowsV A)), (51, .arr 70 (rowsV B))]⟩) (fun k => W.length - k) [] 0 (by simp) ?_ ?_
       · simp
       · rintro k hk
         have w6 : IntKind.i64.wrap ((k : Int) + 1) = (k : Int) + 1 := wrap_i64 (by omega)
         by_cases hkl : k < W.length
         · have r5 := rowsV_at hkl
           obtain ⟨s1, s2⟩ := hshape k hkl
           by_cases hk0 : k = 0
           · subst hk0
             have hb0 := s1.2 rfl
             rw [show ((0 : Nat) : Int) = 0 from rfl] at r5
             have rm : rowAt (rowsV W) (-1) = rowAt (rowsV W) 0 := rfl
             have w8 : IntKind.i64.wrap (-1) = -1 := by decide
             have w9 : IntKind.i64.wrap 1 = 1 := by decide
             cases hin : W[0].inl with
             | true =>
               rw [hin] at r5
               simp (config := { maxSteps := 3000000 }) [hkl, r5, rm, w8, w9]
               exact ⟨1, by omega, by omega, by omega⟩
             | false =>
               rw [hin] at r5
               have hbb : W[0].b = 0 := by unfold baseV at hb0; rw [hin] at hb0; simpa using hb0
               rw [hbb] at r5
               simp (config := { maxSteps := 3000000 }) [hkl, r5, rm, w8, w9]
               exact ⟨1, by omega, by omega, by omega⟩
           · have hkp1 : 0 < k := by omega
             have hb := s2 hkp1
             have hbn : ¬ baseV W[k] = 0 := fun e => hk0 (s1.1 e)
             have hin : W[k].inl = false := by
               cases h : W[k].inl with
               | false => rfl
               | true => exfalso; apply hbn; unfold baseV; rw [h]; rfl
             have hbk : baseV W[k] = W[k].b := by unfold baseV; rw [hin]; simp
             rw [hbk] at hb hbn
             have hk1 : k - 1 < W.length := by omega
             have r6 := rowsV_at hk1
             rw [hin] at r5
             have w7 : IntKind.i64.wrap ((k : Int) - 1) = ((k - 1 : Nat) : Int) := by rw [wrap_i64 (by omega)]; omega
             have hk0' : ¬ ((k : Int) = 0) := by omega
             have hk0s : (0 : Int) < (k : Int) := by omega
             obtain ⟨k1, hk1e⟩ : ∃ m, m = k - 1 := ⟨_, rfl⟩
             simp only [← hk1e] at r6 w7 hk1 hb
             have hk1' : (k1 : Int) < W.length := by omega
             simp (config := { maxSteps := 3000000 }) [w6, hkl, r5, r6, w7, hk0, hk0', hk0s, hkp1, hbn, hb, hk1']
             have hne : ¬ W[k1].n = 0 := by rw [← hb]; exact hbn
             exact ⟨fun _ => ⟨hne, hk1⟩, hne, fun _ => ⟨k + 1, by omega, by omega, by omega⟩⟩
         · have hke : k = W.length := by omega
           subst hke
           simp (config := { maxSteps := 3000000 }) [w2]
           exact ⟨i + 1, by omega, by omega, by omega⟩
 simp (config := { maxSteps := 3000000 })
end Go.Proofs.Ytfpmjcdcpicmaaa.Ab
