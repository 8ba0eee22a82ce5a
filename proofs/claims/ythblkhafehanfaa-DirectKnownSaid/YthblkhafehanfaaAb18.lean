/- The abstract machine: any order of a region's operations. -/
import Derived.Test.YthblkhafehanfaaAb17
import Derived.Test.YthblkhafehanfaaAa1
namespace Go.Proofs.Ythblkhafehanfaa.Ab
open Go Go.RowKit
set_option linter.unusedVariables false
set_option linter.unusedSimpArgs false

section
variable {P : Program} {Γ : Tab} {x y : AI} {st : St} {e e' : Eff}

theorem Yi.vars {vars vars' : Nat → AV} {objs : Nat → Option AO} (hvs : ∀ s ∈ usesOf y, vars s = vars' s) (h : Yi P Γ y ⟨vars, objs⟩ e) : Yi P Γ y ⟨vars', objs⟩ e := by
  have hev : y.xs.map (Ab.ev vars) = y.xs.map (Ab.ev vars') := evs_agree fun s hs => hvs s (List.mem_append_left _ hs)
  obtain ⟨h1, h2, h3⟩ := h
  simp only at h1 h2
  exact ⟨by simp only [← hev]; exact h1, semI_vars hvs h2, h3⟩

theorem plainOr (e : Eff) : plain e ∨ ∃ t o, e = .app t o := by
  cases e <;> first | exact .inl trivial | exact .inr ⟨_, _, rfl⟩

theorem EffOK.plain {i : AI} (h : EffOK i e) (ha : isApp i.k = false) : plain e := by
  rcases plainOr e with hp | ⟨t, o, rfl⟩
  · exact hp
  · rcases h with ⟨v, h⟩ | ⟨_, _, _, _, _, h, _⟩ | ⟨_, _, _, _, h⟩ | ⟨h, _⟩
    · cases h
    · cases h
    · cases h
    · rw [ha] at h; cases h

theorem app_isApp {i : AI} {t : Nat} {o : AO} (h : EffOK i (.app t o)) : isApp i.k = true := by
  rcases h with ⟨v, h⟩ | ⟨_, _, _, _, _, h, _⟩ | ⟨_, _, _, _, h⟩ | ⟨h, _⟩
  · cases h
  · cases h
  · cases h
  · exact h

theorem tags_apart (hap : Apart x y) (hx : looksAway x.k = false) (hy : looksAway y.k = false) : ∀ t, (tagsOf x).contains t = true → (tagsOf y).contains t = true → False := by
  intro t h1 h2
  have hb := hap.both
  unfold tagsOf at h1 h2
  split at h1
  · have hxd : x.d = some t := by cases h : x.d <;> rw [h] at h1 <;> simp_all
    obtain ⟨_, a2, a3, _⟩ := hap.xd t hxd
    split at h2
    · exact a2 (by cases h : y.d <;> rw [h] at h2 <;> simp_all)
    · split at h2
      · exact a3 (by cases h : y.tg <;> rw [h] at h2 <;> simp_all)
      · simp at h2
  · split at h1
    · rename_i hw
      have hxt : x.tg = some t := by cases h : x.tg <;> rw [h] at h1 <;> simp_all
      split at h2
      · have hyd : y.d = some t := by cases h : y.d <;> rw [h] at h2 <;> simp_all
        exact (hap.yd t hyd).2.1 hxt
      · split at h2
        · rename_i hw2
          have hyt : y.tg = some t := by cases h : y.tg <;> rw [h] at h2 <;> simp_all
          rcases hb with h | h | h | h | h
          · rw [hx] at h; cases h
          · rw [hy] at h; cases h
          · rw [hw] at h; cases h
          · rw [hw2] at h; cases h
          · exact h (hxt.trans hyt.symm)
        · simp at h2
    · simp at h1

/-- One that comes ahead of another may come behind it. -/
theorem swap (hap : Apart x y) (hx : Yi P Γ x st e) (hy : Yi P Γ y (e.on x.d st) e') : ∃ e1 e2, Yi P Γ y st e1 ∧ Yi P Γ x (e1.on y.d st) e2 ∧ e2.on x.d (e1.on y.d st) = e'.on y.d (e.on x.d st) := by
  have hex := semI_eff hx.2.1
  have hey := semI_eff hy.2.1
  have hux : ∀ d, x.d = some d → d ∉ usesOf y := fun d hd => (hap.xd d hd).1
  have huy : ∀ d, y.d = some d → d ∉ usesOf x := fun d hd => (hap.yd d hd).1
  have hcd : ∀ s, x.d = some s → y.d ≠ some s := fun d hd => (hap.xd d hd).2.1
  have hvx : ∀ (v : AV) (f : Nat → AV), ∀ s ∈ usesOf y, Ab.put x.d v f s = f s := fun v f s hs => put_off fun hd => hux s hd hs
  have hvy : ∀ (v : AV) (f : Nat → AV), ∀ s ∈ usesOf x, Ab.put y.d v f s = f s := fun v f s hs => put_off fun hd => huy s hd hs
  have hydd : ∀ d, y.d = some d → x.d ≠ some d ∧ x.tg ≠ some d ∧ d < 1000 := fun d hd => ⟨fun h => hcd d h hd, (hap.yd d hd).2.1, (hap.yd d hd).2.2⟩
  have hxdd : ∀ d, x.d = some d → y.d ≠ some d ∧ y.tg ≠ some d ∧ d < 1000 := fun d hd => ⟨(hap.xd d hd).2.1, (hap.xd d hd).2.2.1, (hap.xd d hd).2.2.2⟩
  have hagx : ∀ T, (∀ t, noT T t → noT (tagsOf x) t) → (isApp x.k = false ∧ (writes x.k = true → ∃ s, x.tg = some s) ∧ ∀ t ∈ tagsOf x, t < 1000) → ∀ t, noT T t → over (ov e) st.objs t = st.objs t :=
    fun T hT h t ht => (over_agree hex hx.2.2.1 h.2.2 hT h.2.1 h.1 t ht).symm
  have hagy : ∀ T, (∀ t, noT T t → noT (tagsOf y) t) → (isApp y.k = false ∧ (writes y.k = true → ∃ s, y.tg = some s) ∧ ∀ t ∈ tagsOf y, t < 1000) → ∀ t, noT T t → over (ov e') st.objs t = st.objs t :=
    fun T hT h t ht => (over_agree hey hy.2.2.1 h.2.2 hT h.2.1 h.1 t ht).symm
  by_cases hxa : looksAway x.k = true
  · -- the first looks at values alone
    obtain ⟨⟨v, rfl⟩, hxo⟩ := semI_away_objs hxa hx.2.1
    have hy0 : Yi P Γ y st e' := Yi.vars (hvx v st.vars) hy
    have htg : x.tg = none := by
      have := hx.2.2.1
      cases h : x.tg with
      | none => rfl
      | some s => rw [h] at this; exact this.elim
    rcases plainOr e' with hp | ⟨t, o, rfl⟩
    · refine ⟨e', .put v, hy0, ?_, ?_⟩
      · rw [on_plain hp]
        exact (Yi.across hap.xa (.inl hxa) hxdd huy hagy).2 hx
      · rw [on_plain hp, on_plain hp]
        exact St.ext' (put_comm hcd) rfl
    · have hun : x.un = [] := by
        rcases hap.xa with h | h
        · exact h.2
        · have := app_isApp hey; rw [h.1] at this; cases this
      obtain ⟨u, hu, hk⟩ := semI_away_kill hxa hx.2.1
      cases hu
      refine ⟨.app t o, .put (kill t v), hy0, ⟨.inl hun, semI_vars (fun s hs => (hvy _ _ s hs).symm) (hk t _), by rw [htg]; exact And.intro trivial trivial⟩, ?_⟩
      refine St.ext' ?_ rfl
      show Ab.put x.d (kill t v) (Ab.put y.d (.own t) (killV t st.vars)) = Ab.put y.d (.own t) (killV t (Ab.put x.d v st.vars))
      rw [kill_put]
      exact put_comm hcd
  · have hxa' : looksAway x.k = false := by simpa using hxa
    have hyr : isApp y.k = false ∧ (writes y.k = true → ∃ s, y.tg = some s) ∧ ∀ t ∈ tagsOf y, t < 1000 ∧ x.un.contains t = true := by
      rcases hap.xa with h | h
      · exact absurd h.1 hxa
      · exact h
    have hpy : plain e' := hey.plain hyr.1
    by_cases hya : looksAway y.k = true
    · obtain ⟨⟨v, rfl⟩, hyo⟩ := semI_away_objs hya hy.2.1
      rcases plainOr e with hp | ⟨t, o, rfl⟩
      · have hy0 : Yi P Γ y st (.put v) := by
          rw [on_plain hp] at hy
          exact (Yi.across hap.ya (.inl hya) hydd hux hagx).1 hy
        refine ⟨.put v, e, hy0, Yi.vars (fun s hs => (hvy _ _ s hs).symm) hx, ?_⟩
        rw [on_plain hp, on_plain hp]
        exact St.ext' (put_comm hcd) rfl
      · have hun : y.un = [] := by
          rcases hap.ya with h | h
          · exact h.2
          · have := app_isApp hex; rw [h.1] at this; cases this
        have htg : y.tg = none := by
          have := hy.2.2.1
          cases h : y.tg with
          | none => rfl
          | some s => rw [h] at this; exact this.elim
        have hk := semI_vars (vars' := killV t st.vars) (hvx _ _) hy.2.1
        obtain ⟨u, hu, hk'⟩ := semI_away_unkill hya hk
        cases hu
        refine ⟨.put u, .app t o, ⟨.inl hun, hk' _, by rw [htg]; exact And.intro trivial trivial⟩, Yi.vars (fun s hs => (hvy _ _ s hs).symm) hx, ?_⟩
        refine St.ext' ?_ rfl
        show Ab.put x.d (.own t) (killV t (Ab.put y.d u st.vars)) = Ab.put y.d (kill t u) (Ab.put x.d (.own t) (killV t st.vars))
        rw [kill_put]
        exact put_comm hcd
    · have hya' : looksAway y.k = false := by simpa using hya
      have hxr : isApp x.k = false ∧ (writes x.k = true → ∃ s, x.tg = some s) ∧ ∀ t ∈ tagsOf x, t < 1000 ∧ y.un.contains t = true := by
        rcases hap.ya with h | h
        · exact absurd h.1 hya
        · exact h
      have hpx : plain e := hex.plain hxr.1
      have hy0 : Yi P Γ y st e' := by
        rw [on_plain hpx] at hy
        exact (Yi.across hap.ya (.inr hyr.1) hydd hux hagx).1 hy
      refine ⟨e', e, hy0, ?_, ?_⟩
      · rw [on_plain hpy]
        exact (Yi.across hap.xa (.inr hxr.1) hxdd huy hagy).2 hx
      · rw [on_plain hpx, on_plain hpy, on_plain hpx, on_plain hpy]
        refine St.ext' (put_comm hcd) (over_comm fun t => ?_)
        cases h1 : ov e t with
        | none => exact .inl rfl
        | some o1 =>
          cases h2 : ov e' t with
          | none => exact .inr rfl
          | some o2 =>
            refine (tags_apart hap hxa' hya' (t % 1000) ?_ ?_).elim
            · exact ov_tags hex hx.2.2.1 (fun t ht => (hxr.2.2 t ht).1) hxr.2.1 hxr.1 (by rw [h1]; simp)
            · exact ov_tags hey hy.2.2.1 (fun t ht => (hyr.2.2 t ht).1) hyr.2.1 hyr.1 (by rw [h2]; simp)
theorem swapT (hap : Apt x y) (hx : Yi P Γ x st e) (hy : Yi P Γ y (e.on x.d st) e') : ∃ e1 e2, Yi P Γ y st e1 ∧ Yi P Γ x (e1.on y.d st) e2 ∧ e2.on x.d (e1.on y.d st) = e'.on y.d (e.on x.d st) :=
  hap.elim (fun h => swap h hx hy) fun h => swapA h hx hy
end

/-! ### Any order -/

section
variable {P : Program} {Γ : Tab} {ops : Array Oper} {is : Array AI}

def opA (P : Program) (Γ : Tab) (is : Array AI) (i : Nat) (K : St → Prop) (st : St) : Prop :=
  match is[i]? with
  | some x => stepI P Γ x K st
  | none => K st

theorem stepI_mono {i : AI} {K K' : St → Prop} {st : St} (h : ∀ st, K st → K' st) (hh : stepI P Γ i K st) : stepI P Γ i K' st := by
  rw [stepI_iff] at hh ⊢
  obtain ⟨e, he, hK⟩ := hh
  exact ⟨e, he, h _ hK⟩
theorem opA_mono {i : Nat} {K K' : St → Prop} {st : St} (h : ∀ st, K st → K' st) (hh : opA P Γ is i K st) : opA P Γ is i K' st := by
  unfold opA at *
  split
  · rename_i x hx; rw [hx] at hh; exact stepI_mono h hh
  · rename_i hx; rw [hx] at hh; exact h _ hh

/-- Whatever order is picked from here on. -/
def anyA (P : Program) (Γ : Tab) (ops : Array Oper) (is : Array AI) (Q : St → Prop) : Nat → Array Bool → St → Prop
  | 0, listed, st => Region.ready .any ops listed = [] ∧ Q st
  | fuel + 1, listed, st =>
    (Region.ready .any ops listed = [] → Q st) ∧
    ∀ i ∈ Region.ready .any ops listed, opA P Γ is i (anyA P Γ ops is Q fuel (listed.setIfInBounds i true)) st

/-- What has come up had nothing ahead of it that has not. -/
def Closed (ops : Array Oper) (listed : Array Bool) : Prop :=
  ∀ j o, ops[j]? = some o → listed.getD j false = true → ∀ e ∈ o.after, Region.binds .any e = true → listed.getD e.on false = true

theorem Closed.set {listed : Array Bool} {i : Nat} (h : Closed ops listed) (hi : i ∈ Region.ready .any ops listed) : Closed ops (listed.setIfInBounds i true) := by
  intro j o hj hl e he hb
  obtain ⟨h0, o', ho', hall⟩ := mem_ready.1 hi
  by_cases hij : i = j
  · subst hij
    rw [hj] at ho'
    cases ho'
    exact getD_set_true (hall e he hb)
  · rw [getD_set_ne false hij] at hl
    exact getD_set_true (h j o hj hl e he hb)

/-- What is bound to be first has come up. -/
theorem chain {n : Nat} (hch : ∀ j, j < n → ∀ i, i < j → chainB ops i j = true) {listed : Array Bool} (hc : Closed ops listed) {i : Nat} :
    ∀ j, j < n → i < j → bits ops i j = true → (∃ o, ops[j]? = some o ∧ ∀ e ∈ o.after, Region.binds .any e = true → listed.getD e.on false = true) → listed.getD i false = true := by
  intro j
  induction j using Nat.strongRecOn with
  | _ j ih =>
    rintro hjn hij hb ⟨o, ho, hall⟩
    have h := hch j hjn i hij
    unfold chainB at h
    rw [hb, ho] at h
    simp only [Bool.not_true, Bool.false_or] at h
    obtain ⟨q, hq, h⟩ := Array.any_eq_true.1 h
    have he : o.after[q] ∈ o.after := Array.getElem_mem hq
    generalize o.after[q] = e at h he
    simp only [Bool.and_eq_true, Bool.or_eq_true, beq_iff_eq, decide_eq_true_eq] at h
    obtain ⟨hbe, h⟩ := h
    have hl := hall e he hbe
    rcases h with rfl | ⟨⟨h1, h2⟩, h3⟩
    · exact hl
    · cases hk : ops[e.on]? with
      | none =>
        -- it lies out of the region: then nothing is bound by it
        exfalso
        unfold bits at h3
        have hlt : ¬ e.on < ops.size := by
          intro hlt
          rw [Array.getElem?_eq_getElem hlt] at hk
          cases hk
        have hjlt : j < ops.size := (Array.getElem?_eq_some_iff.1 ho).1
        omega
      | some o' => exact ih e.on h2 (by omega) h1 h3 ⟨o', hk, fun e' he' hb' => hc e.on o' hk hl e' he' hb'⟩

/-- The first so many have come up. -/
def firstN (n k : Nat) : Array Bool := ((List.range n).map fun j => decide (j < k)).toArray
theorem firstN_get {n k j : Nat} (d : Bool) (h : j < n) : (firstN n k).getD j d = decide (j < k) := by
  simp [firstN, h]
theorem firstN_set {n k : Nat} (h : k < n) : (firstN n k).setIfInBounds k true = firstN n (k + 1) := by
  apply Array.ext
  · simp [firstN]
  · intro j h1 h2
    have hj : j < n := by simpa [firstN] using h2
    by_cases hjk : j = k
    · subst hjk
      simp [firstN, h]
    · rw [Array.getElem_setIfInBounds_ne (by simpa [firstN] using hj) (Ne.symm hjk)]
      simp only [firstN, List.getElem_toArray, List.getElem_map, List.getElem_range, decide_eq_decide]
      omega

/-! ### Any order, where a call may take a slice over -/

def anyS (S : Nat → (St → Prop) → St → Prop) (ops : Array Oper) (Q : St → Prop) : Nat → Array Bool → St → Prop
  | 0, listed, st => Region.ready .any ops listed = [] ∧ Q st
  | fuel + 1, listed, st =>
    (Region.ready .any ops listed = [] → Q st) ∧
    ∀ i ∈ Region.ready .any ops listed, S i (anyS S ops Q fuel (listed.setIfInBounds i true)) st

theorem anyS_first {S : Nat → (St → Prop) → St → Prop} {Q : St → Prop} {i : Nat} (hmono : ∀ (j : Nat) (K K' : St → Prop) (st : St), (∀ st, K st → K' st) → S j K st → S j K' st) (hstrict : ∀ (j : Nat) (st : St), ¬ S j (fun _ => False) st)
    (hch : ∀ j, j < ops.size → ∀ i, i < j → chainB ops i j = true) (un : Nat → Prop) (hsw : ∀ (j : Nat) (K : St → Prop) (st : St), j < ops.size → un j → (i < j → bits ops i j = false) → S i (S j K) st → S j (S i K) st) :
    ∀ (fuel : Nat) (listed : Array Bool) (st : St), Closed ops listed → (∀ j, j < ops.size → listed.getD j true = false → j ≠ i → un j) → listed.size = ops.size →
      i ∈ Region.ready .any ops listed → S i (anyS S ops Q fuel (listed.setIfInBounds i true)) st → anyS S ops Q (fuel + 1) listed st := by
  intro fuel
  induction fuel with
  | zero =>
    intro listed st hc hlt hls hr H
    refine ⟨fun h => (by rw [h] at hr; cases hr), fun j hj => ?_⟩
    by_cases hji : j = i
    · subst hji; exact H
    · exfalso
      refine hstrict i st (hmono i _ _ st (fun st' h => ?_) H)
      have := ready_mono hj hji
      rw [h.1] at this
      cases this
  | succ fuel ih =>
    intro listed st hc hlt hls hr H
    refine ⟨fun h => (by rw [h] at hr; cases hr), fun j hj => ?_⟩
    by_cases hji : j = i
    · subst hji; exact H
    · obtain ⟨hjun, oj, hoj, hall⟩ := mem_ready.1 hj
      have hjlt : j < ops.size := (Array.getElem?_eq_some_iff.1 hoj).1
      have hij := hlt j hjlt hjun hji
      have hiun := (mem_ready.1 hr).1
      have hilt : i < ops.size := by
        obtain ⟨_, o, ho, _⟩ := mem_ready.1 hr
        exact (Array.getElem?_eq_some_iff.1 ho).1
      have hbits : i < j → bits ops i j = false := by
        intro hij
        cases hb : bits ops i j with
        | false => rfl
        | true =>
          have h1 := chain hch hc j hjlt hij hb ⟨oj, hoj, hall⟩
          have hilt : i < listed.size := by omega
          simp [hilt] at h1 hiun
          rw [hiun] at h1
          cases h1
      have h1 := hsw j _ st hjlt hij hbits (hmono i _ _ st (fun st' h => h.2 j (ready_mono hj hji)) H)
      refine hmono j _ _ st (fun st' h => ?_) h1
      refine ih (listed.setIfInBounds j true) st' (hc.set hj) ?_ (by simpa using hls) (ready_mono hr (Ne.symm hji)) ?_
      · intro k hk hun hki
        by_cases hjk : j = k
        · subst hjk; exact hij
        · rw [getD_set_ne true hjk] at hun; exact hlt k hk hun hki
      · rw [Array.setIfInBounds_comm _ _ (Ne.symm hji)] at h
        exact h

def nestS (S : Nat → (St → Prop) → St → Prop) (Q : St → Prop) : Nat → Nat → St → Prop
  | 0, _, st => Q st
  | m + 1, k, st => S k (nestS S Q m (k + 1)) st

theorem anyS_lex {S : Nat → (St → Prop) → St → Prop} {Q : St → Prop} (hmono : ∀ (j : Nat) (K K' : St → Prop) (st : St), (∀ st, K st → K' st) → S j K st → S j K' st) (hstrict : ∀ (j : Nat) (st : St), ¬ S j (fun _ => False) st)
    (hch : ∀ j, j < ops.size → earlierB ops j = true ∧ ∀ i, i < j → chainB ops i j = true)
    (hsw : ∀ (i j : Nat) (K : St → Prop) (st : St), j < ops.size → i < j → bits ops i j = false → S i (S j K) st → S j (S i K) st) :
    ∀ (m k : Nat) (st : St), k + m = ops.size → nestS S Q m k st → anyS S ops Q m (firstN ops.size k) st := by
  intro m
  induction m with
  | zero =>
    intro k st hk hs
    refine ⟨?_, hs⟩
    cases hr : Region.ready .any ops (firstN ops.size k) with
    | nil => rfl
    | cons j js =>
      have hj : j ∈ Region.ready .any ops (firstN ops.size k) := by rw [hr]; exact List.mem_cons_self
      obtain ⟨h0, o, ho, _⟩ := mem_ready.1 hj
      have hjlt : j < ops.size := (Array.getElem?_eq_some_iff.1 ho).1
      rw [firstN_get true hjlt] at h0
      simp only [decide_eq_false_iff_not] at h0
      omega
  | succ m ih =>
    intro k st hk hs
    have hko : k < ops.size := by omega
    have hearly : ∀ j o, ops[j]? = some o → ∀ e ∈ o.after, Region.binds .any e = true → e.on < j := by
      intro j o ho e he hb
      have h := (hch j (Array.getElem?_eq_some_iff.1 ho).1).1
      unfold earlierB at h
      rw [ho] at h
      simp only [Array.all_eq_true_iff_forall_mem, Bool.or_eq_true, Bool.not_eq_true', decide_eq_true_eq] at h
      rcases h e he with h | h
      · rw [hb] at h; cases h
      · exact h
    refine anyS_first hmono hstrict (fun j hj i hij => (hch j hj).2 i hij) (fun j => k < j) (fun j K st hj hij hb => hsw k j K st hj hij (hb hij)) m (firstN ops.size k) st ?_ ?_ (by simp [firstN]) ?_ ?_
    · intro j o ho hl e he hb
      have hjlt := (Array.getElem?_eq_some_iff.1 ho).1
      rw [firstN_get false hjlt] at hl
      simp only [decide_eq_true_eq] at hl
      have := hearly j o ho e he hb
      rw [firstN_get false (by omega)]
      simp only [decide_eq_true_eq]
      omega
    · intro j hj hun hne
      rw [firstN_get true hj] at hun
      simp only [decide_eq_false_iff_not] at hun
      omega
    · refine mem_ready.2 ⟨by rw [firstN_get true hko]; simp, ops[k], by rw [Array.getElem?_eq_getElem hko], fun e he hb => ?_⟩
      have := hearly k ops[k] (by rw [Array.getElem?_eq_getElem hko]) e he hb
      rw [firstN_get false (by omega)]
      simpa using this
    · rw [firstN_set hko]
      exact hmono k _ _ st (fun st' h => ih (k + 1) st' (by omega) h) hs

/-- In whatever order the operations are reckoned. -/
def nestL (S : Nat → (St → Prop) → St → Prop) (Q : St → Prop) : List Nat → St → Prop
  | [], st => Q st
  | i :: l, st => S i (nestL S Q l) st
/-- What has come up so far. -/
def listedL (n : Nat) (pre : List Nat) : Array Bool := ((List.range n).map fun j => pre.contains j).toArray
theorem listedL_get {n j : Nat} {pre : List Nat} (d : Bool) (h : j < n) : (listedL n pre).getD j d = pre.contains j := by
  simp [listedL, h]
theorem listedL_set {n k : Nat} {pre : List Nat} (h : k < n) : (listedL n pre).setIfInBounds k true = listedL n (k :: pre) := by
  apply Array.ext
  · simp [listedL]
  · intro j h1 h2
    have hj : j < n := by simpa [listedL] using h2
    by_cases hjk : j = k
    · subst hjk
      simp [listedL, h]
    · rw [Array.getElem_setIfInBounds_ne (by simpa [listedL] using hj) (Ne.symm hjk)]
      have : ¬ k = j := fun e => hjk e.symm
      simp [listedL, hjk]
theorem anyS_ord {S : Nat → (St → Prop) → St → Prop} {Q : St → Prop} {ks : Array AI} (hmono : ∀ (j : Nat) (K K' : St → Prop) (st : St), (∀ st, K st → K' st) → S j K st → S j K' st) (hstrict : ∀ (j : Nat) (st : St), ¬ S j (fun _ => False) st)
    (hch : ∀ j, j < ops.size → earlierB ops j = true ∧ ∀ i, i < j → chainB ops i j = true)
    (hsw : ∀ (i j : Nat) (K : St → Prop) (st : St), (∃ x y, ks[i]? = some x ∧ ks[j]? = some y ∧ apartB x y = true) → S i (S j K) st → S j (S i K) st) :
    ∀ (l pre : List Nat) (st : St), (∀ j, j < ops.size → pre.contains j = false → j ∈ l) → (∀ j ∈ l, j < ops.size) → (∀ j, pre.contains j = true → j < ops.size) → Closed ops (listedL ops.size pre) → ordB ops ks pre l = true →
      nestL S Q l st → anyS S ops Q l.length (listedL ops.size pre) st := by
  intro l
  induction l with
  | nil =>
    intro pre st hall _ _ _ _ hs
    refine ⟨?_, hs⟩
    cases hr : Region.ready .any ops (listedL ops.size pre) with
    | nil => rfl
    | cons j js =>
      have hj : j ∈ Region.ready .any ops (listedL ops.size pre) := by rw [hr]; exact List.mem_cons_self
      obtain ⟨h0, o, ho, _⟩ := mem_ready.1 hj
      have hjlt : j < ops.size := (Array.getElem?_eq_some_iff.1 ho).1
      rw [listedL_get true hjlt] at h0
      have := hall j hjlt h0
      cases this
  | cons i l ih =>
    intro pre st hall hlt hpre hcl hord hs
    unfold ordB at hord
    simp only [Bool.and_eq_true] at hord
    obtain ⟨⟨⟨h1, h2⟩, h3⟩, h4⟩ := hord
    have hio : i < ops.size := hlt i List.mem_cons_self
    have hipre : pre.contains i = false := by simpa using h2
    have hready : i ∈ Region.ready .any ops (listedL ops.size pre) := by
      refine mem_ready.2 ⟨by rw [listedL_get true hio]; exact hipre, ops[i], by rw [Array.getElem?_eq_getElem hio], fun e he hb => ?_⟩
      rw [Array.getElem?_eq_getElem hio] at h1
      simp only [Array.all_eq_true_iff_forall_mem, Bool.or_eq_true, Bool.not_eq_true'] at h1
      rcases h1 e he with h | h
      · rw [hb] at h; cases h
      · rw [listedL_get false (hpre e.on h)]; exact h
    have hset : (listedL ops.size pre).setIfInBounds i true = listedL ops.size (i :: pre) := listedL_set hio
    rw [List.all_eq_true] at h3
    refine anyS_first hmono hstrict (fun j hj i hij => (hch j hj).2 i hij) (fun j => j ∈ l) (fun j K st hj hjl hb => hsw i j K st ?_) l.length (listedL ops.size pre) st hcl ?_ (by simp [listedL]) hready ?_
    · have h5 := h3 j hjl
      rw [Bool.or_eq_true] at h5
      rcases h5 with h5 | h5
      · exfalso
        simp only [Bool.and_eq_true, decide_eq_true_eq] at h5
        rw [hb h5.1] at h5
        cases h5.2
      · split at h5
        · rename_i x y hx hy; exact ⟨x, y, hx, hy, h5⟩
        · cases h5
    · intro j hj hun hne
      rw [listedL_get true hj] at hun
      rcases List.mem_cons.1 (hall j hj hun) with rfl | h
      · exact absurd rfl hne
      · exact h
    · rw [hset]
      have hcl' := hcl.set hready
      rw [hset] at hcl'
      refine hmono i _ _ st (fun st' h => ih (i :: pre) st' (fun j hj hun => ?_) (fun j hj => hlt j (List.mem_cons_of_mem _ hj)) (fun j hj => ?_) hcl' h4 h) hs
      · simp only [List.contains_cons, Bool.or_eq_false_iff, beq_eq_false_iff_ne] at hun
        rcases List.mem_cons.1 (hall j hj hun.2) with rfl | h
        · exact absurd rfl hun.1
        · exact h
      · simp only [List.contains_cons, Bool.or_eq_true, beq_iff_eq] at hj
        rcases hj with rfl | h
        · exact hio
        · exact hpre j h

theorem stepU_mono {d : Option Nat} {f : FuncId} {xs : List AV} {p k : Nat} {K K' : St → Prop} {st : St} (h : ∀ st, K st → K' st) (hs : stepU P Γ d f xs p k K st) : stepU P Γ d f xs p k K' st := by
  unfold stepU at hs ⊢
  obtain ⟨d, hd, ha, hs⟩ := withO_inv hs
  obtain ⟨X, hX, hs⟩ := withO_inv hs
  obtain ⟨T, hT, ho, hs⟩ := withO_inv hs
  obtain ⟨ys, hy, hs⟩ := withO_inv hs
  obtain ⟨x, hx, h1, h2, h3, h4, hK⟩ := withO_inv hs
  rw [hd]
  refine ⟨ha, ?_⟩
  rw [hX]
  show withO (handed st.objs k X) _
  rw [hT]
  refine ⟨ho, ?_⟩
  rw [hy]
  show withO (Γ (f + 1000000) ys) _
  rw [hx]
  exact ⟨h1, h2, h3, h4, h _ hK⟩
theorem stepG_mono {d : Option Nat} {f : FuncId} {xs : List AV} {ks : Option (List Nat)} {K K' : St → Prop} {st : St} (h : ∀ st, K st → K' st) (hs : stepG Γ d f xs ks K st) : stepG Γ d f xs ks K' st := by
  unfold stepG at hs
  obtain ⟨d, rfl, ha, hs⟩ := withO_inv hs
  obtain ⟨ks, rfl, hT, hQ, hn, hs⟩ := withO_inv hs
  obtain ⟨ys, hy, hs⟩ := withO_inv hs
  obtain ⟨x, hx, h1, h2, hs⟩ := withO_inv hs
  obtain ⟨o, ho, h3, hs⟩ := withO_inv hs
  obtain ⟨r, hr, h4, hK⟩ := withO_inv hs
  refine ⟨ha, hT, hQ, hn, ?_⟩
  rw [hy]
  show withO (Γ (f + 2000000) ys) _
  rw [hx]
  refine ⟨h1, h2, ?_⟩
  rw [ho]
  refine ⟨h3, ?_⟩
  rw [hr]
  exact ⟨h4, h _ hK⟩
theorem stepG_false {d : Option Nat} {f : FuncId} {xs : List AV} {ks : Option (List Nat)} {st : St} (hs : stepG Γ d f xs ks (fun _ => False) st) : False := by
  unfold stepG at hs
  obtain ⟨d, rfl, ha, hs⟩ := withO_inv hs
  obtain ⟨ks, rfl, hT, hQ, hn, hs⟩ := withO_inv hs
  obtain ⟨ys, hy, hs⟩ := withO_inv hs
  obtain ⟨x, hx, h1, h2, hs⟩ := withO_inv hs
  obtain ⟨o, ho, h3, hs⟩ := withO_inv hs
  obtain ⟨r, hr, h4, hK⟩ := withO_inv hs
  exact hK
theorem stepC_monoN {d : Option Nat} {xs : List AV} {K K' : St → Prop} {st : St} (h : ∀ st, K st → K' st) (hs : stepC P Γ d xs none K st) : stepC P Γ d xs none K' st := by
  unfold stepC at hs ⊢
  obtain ⟨ha, hs⟩ := hs
  obtain ⟨x, hx, hf, hs⟩ := withO_inv hs
  refine ⟨ha, ?_⟩
  rw [hx]
  refine ⟨hf, ?_⟩
  unfold stepCF at hs ⊢
  split at hs
  · split at hs
    · rename_i h2; rw [if_pos h2]; exact stepG_mono h hs
    · exact hs.elim
  · obtain ⟨d, hd, ha, hs⟩ := withO_inv hs
    obtain ⟨ys, hy, hs⟩ := withO_inv hs
    obtain ⟨z, hz, h1, h2, h3, h4, hK⟩ := withO_inv hs
    unfold semCall
    subst hd
    refine ⟨ha, ?_⟩
    rw [hy]
    show withO (gt Γ x.1 ys) _
    rw [hz]
    exact ⟨h1, h2, h3, h4, h _ hK⟩
theorem stepD_mono {i : AI} {K K' : St → Prop} {st : St} (h : ∀ st, K st → K' st) (hs : stepD P Γ i K st) : stepD P Γ i K' st := by
  unfold stepD at hs ⊢
  split at hs
  · unfold stepM at hs ⊢
    split at hs
    · split at hs
      · rename_i h1; rw [if_pos h1]; exact ⟨hs.1, stepU_mono h hs.2⟩
      · rename_i h1
        rw [if_neg h1]
        split at hs
        · rename_i h2; rw [if_pos h2]; exact ⟨hs.1, stepG_mono h hs.2⟩
        · exact hs.elim
    · exact stepI_mono h hs
  · exact stepC_monoN h hs
  · exact stepI_mono h hs
theorem stepD_strict {i : AI} {st : St} (hs : stepD P Γ i (fun _ => False) st) : False := by
  have hI : ∀ {i : AI}, ¬ stepI P Γ i (fun _ => False) st := fun h => by
    obtain ⟨_, _, h⟩ := stepI_iff.1 h
    exact h
  unfold stepD at hs
  split at hs
  · unfold stepM at hs
    split at hs
    · split at hs
      · have hs := hs.2
        unfold stepU at hs
        obtain ⟨_, _, _, hs⟩ := withO_inv hs
        obtain ⟨_, _, hs⟩ := withO_inv hs
        obtain ⟨_, _, _, hs⟩ := withO_inv hs
        obtain ⟨_, _, hs⟩ := withO_inv hs
        obtain ⟨_, _, _, _, _, _, hK⟩ := withO_inv hs
        exact hK
      · split at hs
        · exact stepG_false hs.2
        · exact hs
    · exact hI hs
  · unfold stepC at hs
    obtain ⟨_, hs⟩ := hs
    obtain ⟨_, _, _, hs⟩ := withO_inv hs
    unfold stepCF at hs
    split at hs
    · split at hs
      · exact stepG_false hs
      · exact hs
    · obtain ⟨_, _, _, hs⟩ := withO_inv hs
      obtain ⟨_, _, hs⟩ := withO_inv hs
      obtain ⟨_, _, _, _, _, _, hK⟩ := withO_inv hs
      exact hK
  · exact hI hs
theorem stepD_plain {i : AI} (h : i.tg ≠ some 999999) {K : St → Prop} {st : St} : stepD P Γ i K st = stepI P Γ i K st := by
  unfold stepD
  split
  · rename_i h1 _; exact absurd h1 h
  · rename_i h1 _; exact absurd h1 h
  · rfl

theorem ev_put {dd : Nat} {c : AV} {vars : Nat → AV} {xs : List Operand} (h : (tmpsOf xs).contains dd = false) : xs.map (ev (put (some dd) c vars)) = xs.map (ev vars) := by
  induction xs with
  | nil => rfl
  | cons x xs ih =>
    cases x with
    | tmp t =>
      simp only [tmpsOf, List.contains_cons, Bool.or_eq_false_iff, beq_eq_false_iff_ne] at h
      have ht : t ≠ dd := fun e => h.1 e.symm
      rw [List.map_cons, List.map_cons, ih h.2]
      simp only [ev, put, if_neg ht]
    | const v => simp only [tmpsOf] at h; rw [List.map_cons, List.map_cons, ih h]; rfl
    | func f => simp only [tmpsOf] at h; rw [List.map_cons, List.map_cons, ih h]; rfl
    | global g => simp only [tmpsOf] at h; rw [List.map_cons, List.map_cons, ih h]; rfl
theorem kill_cv (t : Nat) (v : Value) : kill t (cv v) = cv v := by
  unfold cv
  split <;> rfl
theorem put_swap {d dd : Nat} (h : d ≠ dd) (r c : AV) (f : Nat → AV) : put (some d) r (put (some dd) c f) = put (some dd) c (put (some d) r f) := by
  funext s
  simp only [put]
  by_cases h1 : s = d <;> by_cases h2 : s = dd
  · omega
  · simp [h1, h]
  · simp [h2, Ne.symm h]
  · simp [h1, h2]
/-- What a slot that is laid into another comes to. -/
def kU (t : Nat) (x : AV) (c : AV) : AV :=
  match outO x with
  | _ :: _ => c
  | [] => kill t c
theorem varsU_put (t : Nat) (x : AV) (dd : Nat) (c : AV) (f : Nat → AV) : varsU t x (put (some dd) c f) = put (some dd) (kU t x c) (varsU t x f) := by
  unfold varsU kU
  cases outO x with
  | cons y l => rfl
  | nil =>
    funext s
    simp only [killV, put]
    split <;> rfl
theorem wipe_cv (W : List Nat) (v : Value) : wipe W (cv v) = cv v := by
  unfold wipe
  split
  · rfl
  · unfold cv
    split <;> rfl
theorem wipeV_put (W : List Nat) (dd : Nat) (c : AV) (f : Nat → AV) : wipeV W (put (some dd) c f) = put (some dd) (wipe W c) (wipeV W f) := by
  funext s
  simp only [wipeV, put]
  split <;> rfl
/-- An operand that a call does not write to. -/
def opOf (d : Option Nat) : Operand → Prop
  | .const _ => True
  | .tmp s => d ≠ some s
  | _ => False
theorem opOf_ok {x : AI} {o : Operand} (h : okOp x o = true) : opOf x.d o := by
  cases o with
  | const v => trivial
  | tmp s =>
    have h : (x.d != some s) = true := h
    simpa [opOf] using h
  | func f => cases h
  | global g => cases h
theorem ev_putd {d : Nat} {o : Operand} (h : opOf (some d) o) (r : AV) (f : Nat → AV) : ev (put (some d) r f) o = ev f o := by
  cases o with
  | const v => rfl
  | tmp s =>
    have : s ≠ d := fun e => h (by rw [e])
    simp only [ev, put, if_neg this]
  | func f => exact h.elim
  | global g => exact h.elim
theorem ev_wipe {d : Option Nat} {o : Operand} (h : opOf d o) (W : List Nat) (f : Nat → AV) : ev (wipeV W f) o = wipe W (ev f o) := by
  cases o with
  | const v => exact (wipe_cv W v).symm
  | tmp s => rfl
  | func f => exact h.elim
  | global g => exact h.elim
theorem ev_varsU {d : Option Nat} {o : Operand} (h : opOf d o) (t : Nat) (x : AV) (f : Nat → AV) : ev (varsU t x f) o = kU t x (ev f o) := by
  unfold varsU kU
  cases o with
  | const v =>
    cases outO x with
    | cons y l => rfl
    | nil => exact (kill_cv t v).symm
  | tmp s => cases outO x <;> rfl
  | func f => exact h.elim
  | global g => exact h.elim
theorem stepG_cm {d : Option Nat} {f : FuncId} {xs : List AV} {ks : Option (List Nat)} {dd : Nat} {o : Operand} (ho : opOf d o) (hd : d ≠ some dd) {K : St → Prop} {st : St} :
    stepG Γ d f xs ks (fun st' => K ⟨put (some dd) (ev st'.vars o) st'.vars, st'.objs⟩) st = stepG Γ d f xs ks K ⟨put (some dd) (ev st.vars o) st.vars, st.objs⟩ := by
  unfold stepG
  cases d with
  | none => rfl
  | some d =>
    have hne : d ≠ dd := fun e => hd (by rw [e])
    simp only [withO, stepG1, stepG2, stepG3, wipeV_put, put_swap hne, ev_putd ho, ev_wipe ho]
theorem semCall_cm {d : Option Nat} {f : FuncId} {xs : List AV} {dd : Nat} {o : Operand} (ho : opOf d o) (hd : d ≠ some dd) {K : St → Prop} {st : St} :
    semCall P Γ d f xs st.objs (fun e => K ⟨put (some dd) (ev (e.on d st).vars o) (e.on d st).vars, (e.on d st).objs⟩) = semCall P Γ d f xs st.objs (fun e => K (e.on d ⟨put (some dd) (ev st.vars o) st.vars, st.objs⟩)) := by
  unfold semCall
  cases d with
  | none => rfl
  | some d =>
    have hne : d ≠ dd := fun e => hd (by rw [e])
    simp only [withO, Eff.on, put_swap hne, ev_putd ho]
theorem stepC_cm {d : Option Nat} {xs : List AV} {dd : Nat} {o : Operand} (ho : opOf d o) (hd : d ≠ some dd) {K : St → Prop} {st : St} :
    stepC P Γ d xs none (fun st' => K ⟨put (some dd) (ev st'.vars o) st'.vars, st'.objs⟩) st = stepC P Γ d xs none K ⟨put (some dd) (ev st.vars o) st.vars, st.objs⟩ := by
  have key : ∀ x : FuncId × List AV, stepCF P Γ d x.1 x.2 (flagU Γ x.1) (fun st' => K ⟨put (some dd) (ev st'.vars o) st'.vars, st'.objs⟩) st = stepCF P Γ d x.1 x.2 (flagU Γ x.1) K ⟨put (some dd) (ev st.vars o) st.vars, st.objs⟩ := by
    intro x
    unfold stepCF
    split
    · split
      · exact stepG_cm ho hd
      · rfl
    · exact semCall_cm ho hd
  show (asksL xs ∧ withO (cloOf (xs.map strip)) fun x => isFn P x.1 = true ∧ stepCF P Γ d x.1 x.2 (flagU Γ x.1) (fun st' => K ⟨put (some dd) (ev st'.vars o) st'.vars, st'.objs⟩) st) = (asksL xs ∧ withO (cloOf (xs.map strip)) fun x => isFn P x.1 = true ∧ stepCF P Γ d x.1 x.2 (flagU Γ x.1) K ⟨put (some dd) (ev st.vars o) st.vars, st.objs⟩)
  simp only [key]
theorem noLds {T : List Nat} {st : St} {l : List Nat} {dd : Nat} {c : AV} (hl : dd ∉ l) : ldsOK T ⟨put (some dd) c st.vars, st.objs⟩ l = ldsOK T st l := by
  induction l with
  | nil => rfl
  | cons s l ih =>
    have h1 : s ≠ dd := fun e => hl (by rw [e]; exact List.mem_cons_self)
    simp only [ldsOK, put, if_neg h1]
    rw [← ih (fun h => hl (List.mem_cons_of_mem _ h))]
    rfl
/-- A mov and such a call may change places. -/
theorem stepM_cm {y x : AI} (hk : (∃ f, x.k = .call f) ∨ x.k = .calv) (hg : x.g = none) (ht : x.tg = some 999999) (hc : cmB y x = true) (hun : ∀ dd, y.d = some dd → dd ∉ x.un) : ∃ dd o, y = ⟨some dd, .mov, [o], none, [], none⟩ ∧ ∀ (K : St → Prop) (st : St),
    stepD P Γ x (fun st' => K ⟨put (some dd) (ev st'.vars o) st'.vars, st'.objs⟩) st = stepD P Γ x K ⟨put (some dd) (ev st.vars o) st.vars, st.objs⟩ := by
  obtain ⟨yd, yk, yxs, yg, yun, ytg⟩ := y
  unfold cmB at hc
  split at hc
  · rename_i o dd e1 e2 e3 e4 e5 e6
    simp only at e1 e2 e3 e4 e5 e6
    subst e1 e2 e3 e4 e5 e6
    refine ⟨dd, o, rfl, fun K st => ?_⟩
    simp only [Bool.and_eq_true, Bool.not_eq_true', bne_iff_ne, ne_eq, usesOf, hg, List.append_nil] at hc
    obtain ⟨⟨hok, hu⟩, hd⟩ := hc
    have ho := opOf_ok hok
    have hun2 := hun dd rfl
    have hev : ∀ c vars, x.xs.map (ev (put (some dd) c vars)) = x.xs.map (ev vars) := fun c vars => ev_put hu
    obtain ⟨xd, xk, xxs, xg, xun, xtg⟩ := x
    simp only at hk hg ht hd hev ho hun2
    subst hg ht
    rcases hk with ⟨f, rfl⟩ | rfl
    · show stepM P Γ _ f (flagU Γ f) _ _ = stepM P Γ _ f (flagU Γ f) _ _
      unfold stepM
      split
      · split
        · unfold stepU
          simp only [hev]
          cases xd with
          | none => rfl
          | some d =>
            have hne : d ≠ dd := fun e => hd (by rw [e])
            simp only [withO, varsU_put, put_swap hne, ev_putd ho, ev_varsU ho]
        · split
          · simp only [hev, noLds hun2]; rw [stepG_cm ho hd]
          · rfl
      · simp only [stepI, semI, hev]
        unfold semK
        simp only [semCall]
        cases xd with
        | none => rfl
        | some d =>
          have hne : d ≠ dd := fun e => hd (by rw [e])
          simp only [withO, Eff.on, tgU, tgOK, appOK, put_swap hne, ev_putd ho]
    · show stepC P Γ _ _ none _ _ = stepC P Γ _ _ none _ _
      simp only [hev]; exact stepC_cm ho hd
  · cases hc
theorem stepD_cm {dd : Nat} {o : Operand} {K : St → Prop} {st : St} : stepD P Γ ⟨some dd, .mov, [o], none, [], none⟩ K st = K ⟨put (some dd) (ev st.vars o) st.vars, st.objs⟩ := by
  simp [stepD, stepI, semI, semK, withO, tgU, tgOK, appOK, Eff.on]
theorem stepD_swap {x y : AI} (hk : (∃ f, x.k = .call f) ∨ x.k = .calv) (hg : x.g = none) (ht : x.tg = some 999999) (hc : cmB y x = true) (hun : ∀ dd, y.d = some dd → dd ∉ x.un) {K : St → Prop} {st : St} : stepD P Γ x (stepD P Γ y K) st = stepD P Γ y (stepD P Γ x K) st := by
  obtain ⟨dd, o, rfl, h⟩ := stepM_cm (P := P) (Γ := Γ) hk hg ht hc hun
  rw [stepD_cm, ← h]
  congr 1
  funext st'
  exact stepD_cm

/-! A load ahead of such a call -/
theorem allPV_wipe {W : List Nat} : ∀ {cs : List AV}, allPV cs = true → cs.map (wipeC W) = cs
  | [], _ => rfl
  | c :: cs, h => by
    cases c with
    | pv p => rw [List.map_cons, allPV_wipe (cs := cs) h]; rfl
    | _ => cases h
theorem allPV_at : ∀ {cs : List AV} {i : Nat} {c : AV}, allPV cs = true → cs[i]? = some c → ∃ p, c = .pv p
  | [], i, c, _, h => by simp at h
  | x :: cs, i, c, h, hc => by
    cases x with
    | pv p =>
      cases i with
      | zero => exact ⟨p, by simpa using hc.symm⟩
      | succ i => exact allPV_at (cs := cs) h (by simpa using hc)
    | _ => cases h
theorem allPV_drop : ∀ {cs : List AV} (n : Nat), allPV cs = true → allPV (cs.drop n) = true
  | cs, 0, h => h
  | [], n + 1, h => h
  | c :: cs, n + 1, h => by
    cases c with
    | pv p => exact allPV_drop (cs := cs) n h
    | _ => cases h
theorem allPV_take : ∀ {cs : List AV} (n : Nat), allPV cs = true → allPV (cs.take n) = true
  | cs, 0, h => rfl
  | [], n + 1, h => rfl
  | c :: cs, n + 1, h => by
    cases c with
    | pv p => exact allPV_take (cs := cs) n h
    | _ => cases h
theorem wipe_pv (W : List Nat) (p : PV) : wipe W (.pv p) = .pv p := by
  unfold wipe
  split <;> rfl
theorem wipe_agg {W : List Nat} {cs : List AV} (h : allPV cs = true) : wipe W (.agg cs) = .agg cs := by
  unfold wipe
  split
  · rfl
  · show AV.agg (cs.map (wipeC W)) = _
    rw [allPV_wipe h]
theorem wipeO_box {W : List Nat} {cs : List AV} (h : allPV cs = true) : wipeO W (.box cs) = .box cs := by
  unfold wipeO
  split
  · rfl
  · show AO.box (cs.map (wipeC W)) = _
    rw [allPV_wipe h]
/-- The reckoning of a load from a box of plain values. -/
theorem load_plain {n : Option Nat} {t o : Nat} {objs : Nat → Option AO} {cs : List AV} (ht : objs t = some (.box cs)) (hp : allPV cs = true) {x : Prop × AV} (h : semQ (.load n) [.ptr t o] objs = some x) : (∀ W, wipe W x.2 = x.2) ∧ ∀ objs', objs' t = some (.box cs) → semQ (.load n) [.ptr t o] objs' = some x := by
  cases n with
  | none =>
    simp only [semQ, ht, boxO, Option.bind_some] at h ⊢
    refine ⟨?_, fun objs' h' => by rw [h']; exact h⟩
    obtain ⟨c, hc, h⟩ := Option.bind_eq_some_iff.1 h
    obtain ⟨p, rfl⟩ := allPV_at hp hc
    split at h
    · cases h; exact fun W => wipe_pv W p
    · cases h
  | some n =>
    simp only [semQ, ht, boxO, Option.bind_some] at h ⊢
    refine ⟨?_, fun objs' h' => by rw [h']; exact h⟩
    split at h
    · cases h; exact fun W => wipe_agg (allPV_take _ (allPV_drop _ hp))
    · cases h
theorem ldsOK_mem {T : List Nat} {st : St} {s : Nat} : ∀ {l : List Nat}, ldsOK T st l → s ∈ l → ∃ t o cs, st.vars s = .ptr t o ∧ st.objs t = some (.box cs) ∧ allPV cs = true ∧ T.contains t = false
  | [], _, hm => by cases hm
  | s' :: l, h, hm => by
    rcases List.mem_cons.1 hm with rfl | hm
    · obtain ⟨t, ht, hT⟩ := withO_inv h.1
      unfold ldT at ht
      split at ht
      · rename_i t' o e
        obtain ⟨cs, hb, ht⟩ := Option.bind_eq_some_iff.1 ht
        split at ht
        · rename_i hp
          cases ht
          refine ⟨_, o, cs, e, ?_, hp, hT⟩
          revert hb
          cases st.objs t with
          | none => intro hb; cases hb
          | some ob => cases ob with
            | box l => intro hb; cases hb; rfl
            | _ => intro hb; cases hb
        · cases ht
      · cases ht
    · exact ldsOK_mem h.2 hm
theorem stepD_ld {dd s : Nat} {n : Option Nat} {un : List Nat} {K : St → Prop} {st : St} : stepD P Γ ⟨some dd, .load n, [.tmp s], none, un, none⟩ K st =
    ((un = [] ∨ noMs un st.objs [strip (st.vars s)]) ∧ asks (st.vars s) ∧ withO (semQ (.load n) [strip (st.vars s)] st.objs) fun x => x.1 ∧ K ⟨put (some dd) x.2 st.vars, st.objs⟩) := by
  show ((un = [] ∨ noMs un st.objs [strip (st.vars s)]) ∧ (asks (st.vars s) ∧ True) ∧ withO (semQ (.load n) [strip (st.vars s)] st.objs) fun x => x.1 ∧ tgU un none (.put x.2) ∧ K ((Eff.put x.2).on (some dd) st)) = _
  simp [tgU, tgOK, appOK, Eff.on]
theorem stepG_rel {d : Option Nat} {f : FuncId} {xs : List AV} {ks : Option (List Nat)} {K K2 : St → Prop} {st st' : St} (ho : st'.objs = st.objs)
    (hK : ∀ d' W r objs1, d = some d' → (∀ t ∈ W, t ∈ tagsK ks st.objs (xs.map strip)) → (∀ t c, (tagsK ks st.objs (xs.map strip)).contains t = false → st.objs t = some c → objs1 t = some (wipeO W c)) →
      K ⟨put (some d') r (wipeV W st'.vars), objs1⟩ → K2 ⟨put (some d') r (wipeV W st.vars), objs1⟩) (hs : stepG Γ d f xs ks K st') : stepG Γ d f xs ks K2 st := by
  unfold stepG at hs
  rw [ho] at hs
  obtain ⟨d, rfl, ha, hs⟩ := withO_inv hs
  obtain ⟨ks, rfl, hT, hQ, hn, hs⟩ := withO_inv hs
  obtain ⟨ys, hy, hs⟩ := withO_inv hs
  rw [ho] at hy
  obtain ⟨x, hx, h1, h2, hs⟩ := withO_inv hs
  obtain ⟨o, hoo, h3, hs⟩ := withO_inv hs
  obtain ⟨r, hr, h4, h5⟩ := withO_inv hs
  rw [ho] at h4 h5
  refine ⟨ha, hT, hQ, hn, ?_⟩
  rw [hy]
  show withO (Γ (f + 2000000) ys) _
  rw [hx]
  refine ⟨h1, h2, ?_⟩
  rw [hoo]
  refine ⟨h3, ?_⟩
  rw [hr]
  refine ⟨h4, hK _ _ _ _ rfl (fun t ht => (List.mem_filter.1 ht).1) (fun t c htT hc => ?_) h5⟩
  show (match lookO (o.2.1 ++ r.2.1) t with | some o => some o | none => _) = _
  have hno : lookO (o.2.1 ++ r.2.1) t = none := by
    cases hl : lookO (o.2.1 ++ r.2.1) t with
    | none => rfl
    | some c' =>
      obtain ⟨q, hq, rfl⟩ := lookO_mem _ _ _ hl
      rcases h4 _ hq with h | h
      · have htT : (tagsG st.objs ks (xs.map strip)).contains q.1 = false := htT
        rw [htT] at h; cases h
      · rw [hc] at h; cases h
  rw [hno]
  unfold wipeM
  have htT : (tagsG st.objs ks (xs.map strip)).contains t = false := htT
  rw [htT, hc]
  rfl
theorem ld_swap {x y : AI} {f : FuncId} (hxk : x.k = .call f) (hg : x.g = none) (ht : x.tg = some 999999) {p k : Nat} (hfl : flagU Γ f = some (p, k)) {dd s : Nat} {n : Option Nat} {un : List Nat} (hy : y = ⟨some dd, .load n, [.tmp s], none, un, none⟩)
    (hds : x.d ≠ some s) (hu : (usesOf x).contains dd = false) (hdd : x.d ≠ some dd) (hsd : dd ≠ s) (hsu : s ∈ x.un) (hdu : dd ∉ x.un) {K : St → Prop} {st : St} (hs : stepD P Γ y (stepD P Γ x K) st) : stepD P Γ x (stepD P Γ y K) st := by
  subst hy
  obtain ⟨xd, xk, xxs, xg, xun, xtg⟩ := x
  simp only at hxk hg ht hds hdd hsu hdu
  subst hxk hg ht
  have hu' : (tmpsOf xxs).contains dd = false := by simpa [usesOf] using hu
  have hev : ∀ c vars, xxs.map (ev (put (some dd) c vars)) = xxs.map (ev vars) := fun c vars => ev_put hu'
  rw [stepD_ld] at hs
  obtain ⟨hn, ha, hs⟩ := hs
  obtain ⟨v, hv, hφ, hs⟩ := withO_inv hs
  change stepM P Γ _ f (flagU Γ f) K _ at hs
  show stepM P Γ _ f (flagU Γ f) _ st
  rw [hfl] at hs ⊢
  unfold stepM at hs ⊢
  dsimp only at hs ⊢
  split at hs
  · rw [hs.1] at hsu; cases hsu
  rename_i hk
  rw [if_neg hk]
  split at hs
  rotate_left
  · exact hs.elim
  rename_i hk2
  rw [if_pos hk2]
  simp only [hev, noLds hdu] at hs
  obtain ⟨hl, hs⟩ := hs
  refine ⟨hl, ?_⟩
  obtain ⟨t, o, cs, e1, e2, e3, e4⟩ := ldsOK_mem hl hsu
  rw [e1] at hn hv
  obtain ⟨hw, hq⟩ := load_plain e2 e3 hv
  refine stepG_rel (st' := ⟨put (some dd) v.2 st.vars, st.objs⟩) rfl (fun d' W r objs1 hd' hW ho h => ?_) hs
  subst hd'
  have hWt : W.contains t = false := by
    cases hc : W.contains t with
    | false => rfl
    | true =>
      have := hW t (by simpa using hc)
      rw [← List.contains_iff_mem] at this
      rw [this] at e4; cases e4
  have hsd' : s ≠ d' := fun e => hds (by rw [e])
  have hdd' : d' ≠ dd := fun e => hdd (by rw [e])
  have h1 := ho t _ e4 e2
  rw [wipeO_box e3] at h1
  have hvs : (put (some d') r (wipeV W st.vars)) s = .ptr t o := by
    simp only [put, if_neg hsd', wipeV, e1]
    unfold wipe
    split
    · rfl
    · show (if W.contains t = true then AV.junk else .ptr t o) = _
      rw [hWt]; rfl
  rw [stepD_ld]
  simp only [hvs]
  refine ⟨?_, trivial, ?_⟩
  · rcases hn with hn | hn
    · exact .inl hn
    · right
      have hb : boxO (objs1 t) = boxO (st.objs t) := by rw [h1, e2]
      refine ⟨?_, trivial⟩
      have := hn.1
      simpa only [strip, noM, noMP, hb] using this
  · show withO (semQ (.load n) [.ptr t o] objs1) _
    rw [hq objs1 h1]
    refine ⟨hφ, ?_⟩
    have e : put (some d') r (wipeV W (put (some dd) v.2 st.vars)) = put (some dd) v.2 (put (some d') r (wipeV W st.vars)) := by
      rw [wipeV_put, hw, put_swap hdd']
    rw [← e]
    exact h

end
end Go.Proofs.Ythblkhafehanfaa.Ab
