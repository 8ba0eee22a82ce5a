/- The abstract machine is sound: a call of a function that writes to a slice that is handed over. -/
import Derived.Test.YthblkhafehanfaaAu1
namespace Go.Proofs.Ythblkhafehanfaa.Ab
open Go Go.RowKit
set_option linter.unusedVariables false
set_option linter.unusedSimpArgs false

section
variable {P : Program} {S : Nat → Prop} {w : World} {β : Nat → Value} {D D' : Nat → Prop} {t : Nat}

theorem RV.offC {v : Value} {x : AV} (hD : ∀ s, D s → s ≠ t → D' s) (hx : offC t x) (h : RV P S w β D v x) : RV P S w β D' v x := by
  cases h with
  | pv v p h => exact .pv _ _ h
  | own s h => exact .own s (hD s h hx)
  | ptr s o b h hb => exact .ptr s o b (hD s h hx) hb
  | eptr s e i o b n c inf h hi hb => exact .eptr s e i o b n c inf (hD s h hx) hi hb
  | sub v s e lo hi inf A A1 n c h hi' hb h1 h2 h3 h4 h5 hv => exact .sub _ s e lo hi inf A A1 n c (hD s h hx) hi' hb h1 h2 h3 h4 h5 hv
  | rp ad cs us h1 h2 h3 h4 => exact .rp ad cs us h1 h2 h3 h4
  | agg cs us hl h => exact hx.elim
  | tup cs us hl h => exact hx.elim
  | clo f cs us hl h =>
    cases cs with
    | nil => exact .clo f [] us hl fun i c u hc => by simp at hc
    | cons c cs => exact hx.elim
  | cnd g v av h => exact hx.elim
  | junk v => exact .junk _
theorem offCs_get : ∀ {cs : List AV}, offCs t cs → ∀ (i : Nat) (c : AV), cs[i]? = some c → Ab.offC t c
  | [], _, i, c, hc => by simp at hc
  | x :: cs, h, 0, c, hc => by simp only [List.getElem?_cons_zero, Option.some.injEq] at hc; subst hc; exact h.1
  | x :: cs, h, i + 1, c, hc => offCs_get h.2 i c (by simpa using hc)
theorem RV.offV {v : Value} {x : AV} (hD : ∀ s, D s → s ≠ t → D' s) (hx : offV t x) (h : RV P S w β D v x) : RV P S w β D' v x := by
  cases h with
  | agg cs us hl h => exact .agg cs us hl fun i c u hc hu => (h i c u hc hu).offC hD (offCs_get hx i c hc)
  | clo f cs us hl h => exact .clo f cs us hl fun i c u hc hu => (h i c u hc hu).offC hD (offCs_get hx i c hc)
  | pv v p h => exact .pv _ _ h
  | own s h => exact RV.offC (x := .own s) hD hx (.own s h)
  | ptr s o b h hb => exact RV.offC (x := .ptr s o) hD hx (.ptr s o b h hb)
  | eptr s e i o b n c inf h hi hb => exact RV.offC (x := .eptr s e i o) hD hx (.eptr s e i o b n c inf h hi hb)
  | sub v s e lo hi inf A A1 n c h hi' hb h1 h2 h3 h4 h5 hv => exact RV.offC (x := .sub s e lo hi) hD hx (.sub v s e lo hi inf A A1 n c h hi' hb h1 h2 h3 h4 h5 hv)
  | rp ad cs us h1 h2 h3 h4 => exact .rp ad cs us h1 h2 h3 h4
  | tup cs us hl h => exact hx.elim
  | cnd g v av h => exact hx.elim
  | junk v => exact .junk _

theorem offVs0_get : ∀ {vs : List AV}, offVs.offVs0 t vs → ∀ (i : Nat) (v : AV), vs[i]? = some v → Ab.offV t v
  | [], _, i, c, hc => by simp at hc
  | x :: cs, h, 0, c, hc => by simp only [List.getElem?_cons_zero, Option.some.injEq] at hc; subst hc; exact h.1
  | x :: cs, h, i + 1, c, hc => offVs0_get h.2 i c (by simpa using hc)
theorem offVs_get : ∀ {vs : List AV} {p : Nat}, offVs t p vs → ∀ (i : Nat) (v : AV), i ≠ p → vs[i]? = some v → Ab.offV t v
  | [], _, _, i, c, _, hc => by simp at hc
  | x :: cs, 0, h, 0, c, hne, hc => absurd rfl hne
  | x :: cs, 0, h, i + 1, c, hne, hc => offVs0_get h i c (by simpa using hc)
  | x :: cs, p + 1, h, 0, c, hne, hc => by simp only [List.getElem?_cons_zero, Option.some.injEq] at hc; subst hc; exact h.1
  | x :: cs, p + 1, h, i + 1, c, hne, hc => offVs_get h.2 i c (by omega) (by simpa using hc)

variable {objs : Nat → Option AO}
theorem reisU_get {m : AV} : ∀ {p : Nat} {xs ys : List AV}, reisU objs m p xs = some ys → p < xs.length → ys.length = xs.length ∧ ys[p]? = some m ∧ ∀ (i : Nat) (y : AV), i ≠ p → ys[i]? = some y → ∃ x, xs[i]? = some x ∧ rei objs x = some y
  | _, [], _, _, hp => by simp at hp
  | 0, x :: xs, ys, h, _ => by
    simp only [reisU, Option.map_eq_some_iff] at h
    obtain ⟨zs, hz, rfl⟩ := h
    obtain ⟨h1, h2⟩ := reis_get xs zs hz
    refine ⟨by simp [h1], rfl, fun i y hne hy => ?_⟩
    cases i with
    | zero => exact absurd rfl hne
    | succ i => obtain ⟨c, hc, hr⟩ := h2 i y (by simpa using hy); exact ⟨c, by simpa using hc, hr⟩
  | p + 1, x :: xs, ys, h, hp => by
    simp only [reisU, Option.bind_eq_some_iff, Option.map_eq_some_iff] at h
    obtain ⟨y0, hy0, zs, hz, rfl⟩ := h
    obtain ⟨h1, h2, h3⟩ := reisU_get hz (by simpa using hp)
    refine ⟨by simp [h1], by simpa using h2, fun i y hne hy => ?_⟩
    cases i with
    | zero => simp only [List.getElem?_cons_zero, Option.some.injEq] at hy; subst hy; exact ⟨x, rfl, hy0⟩
    | succ i => obtain ⟨c, hc, hr⟩ := h3 i y (by omega) (by simpa using hy); exact ⟨c, by simpa using hc, hr⟩
theorem puresU_get : ∀ {p : Nat} {xs : List AV}, puresU p xs = true → ∀ (i : Nat) (x : AV), i ≠ p → xs[i]? = some x → pure1 x = true
  | _, [], _, i, c, _, hc => by simp at hc
  | 0, x :: xs, h, 0, c, hne, hc => absurd rfl hne
  | 0, x :: xs, h, i + 1, c, hne, hc => pures_get xs i c h (by simpa using hc)
  | p + 1, x :: xs, h, 0, c, hne, hc => by simp only [puresU, Bool.and_eq_true] at h; simp only [List.getElem?_cons_zero, Option.some.injEq] at hc; subst hc; exact h.1
  | p + 1, x :: xs, h, i + 1, c, hne, hc => by simp only [puresU, Bool.and_eq_true] at h; exact puresU_get h.2 i c (by omega) (by simpa using hc)
/-- What is reified bears no mark. -/
theorem rei_unmarked {x y : AV} (h : rei objs x = some y) : mkA y = y ∧ (∀ e rows, y ≠ .fr e rows) ∧ ∀ e rows, y ≠ .tup [.fr e rows] := by
  have hpv : ∀ {o : Option PV}, o.map AV.pv = some y → ∃ p, y = .pv p := fun h => by
    obtain ⟨p, _, rfl⟩ := Option.map_eq_some_iff.1 h; exact ⟨p, rfl⟩
  have key : (∃ p, y = .pv p) ∨ (∃ cs, y = .rp cs) ∨ (∃ cs, y = .agg cs) ∨ ∃ f cs, y = .clo f cs := by
    have h1 : ∀ {x y : AV}, rei1 objs x = some y → (∃ p, y = .pv p) ∨ (∃ cs, y = .rp cs) ∨ (∃ cs, y = .agg cs) ∨ ∃ f cs, y = .clo f cs := by
      intro x y h
      unfold rei1 at h
      split at h
      · obtain ⟨cs, _, h⟩ := Option.bind_eq_some_iff.1 h
        obtain ⟨ps, _, rfl⟩ := Option.map_eq_some_iff.1 h
        exact .inr (.inl ⟨_, rfl⟩)
      · cases h; exact .inr (.inl ⟨_, rfl⟩)
      · obtain ⟨ps, _, rfl⟩ := Option.map_eq_some_iff.1 h
        exact .inr (.inr (.inl ⟨_, rfl⟩))
      · cases h; exact .inr (.inr (.inr ⟨_, _, rfl⟩))
      · obtain ⟨p, _, rfl⟩ := Option.map_eq_some_iff.1 h
        exact .inl ⟨_, rfl⟩
    unfold rei at h
    split at h
    · obtain ⟨ps, _, rfl⟩ := Option.map_eq_some_iff.1 h
      exact .inr (.inr (.inr ⟨_, _, rfl⟩))
    · exact h1 h
  rcases key with ⟨p, rfl⟩ | ⟨cs, rfl⟩ | ⟨cs, rfl⟩ | ⟨f, cs, rfl⟩ <;> exact ⟨rfl, (fun e rows h => by cases h), (fun e rows h => by cases h)⟩
theorem rei_notJunk {x : AV} (h : rei objs x = some .junk) : False := by
  have hpv : ∀ {o : Option PV}, ¬ o.map AV.pv = some .junk := fun h => by
    obtain ⟨p, _, h⟩ := Option.map_eq_some_iff.1 h; cases h
  have h1 : ∀ {x : AV}, ¬ rei1 objs x = some .junk := by
    intro x h
    unfold rei1 at h
    split at h
    · obtain ⟨cs, _, h⟩ := Option.bind_eq_some_iff.1 h
      obtain ⟨ps, _, h⟩ := Option.map_eq_some_iff.1 h
      cases h
    · cases h
    · obtain ⟨ps, _, h⟩ := Option.map_eq_some_iff.1 h
      cases h
    · cases h
    · exact hpv h
  unfold rei at h
  split at h
  · obtain ⟨ps, _, h⟩ := Option.map_eq_some_iff.1 h
    cases h
  · exact h1 h
theorem mkO_mark {e : TypeId} {rows : List (List PV)} {k : Nat} (hk : k = 998 ∨ k = 999) : ∀ {ys : List AV} {p : Nat}, ys[p]? = some (markA k e rows) → (∀ (i : Nat) (y : AV), i ≠ p → ys[i]? = some y → (∀ e rows, y ≠ .fr e rows) ∧ ∀ e rows, y ≠ .tup [.fr e rows]) → mkO ys = [(k, .arr e rows)]
  | [], p, h, _ => by simp at h
  | y :: ys, 0, h, ho => by
    simp only [List.getElem?_cons_zero, Option.some.injEq] at h
    subst h
    rcases hk with rfl | rfl <;> rfl
  | y :: ys, p + 1, h, ho => by
    have h0 := ho 0 y (by omega) rfl
    have ih := mkO_mark hk (ys := ys) (p := p) (by simpa using h) (fun i z hne hz => ho (i + 1) z (by omega) (by simpa using hz))
    unfold mkO
    split
    · rename_i e; cases e
    · rename_i e1 r1 _ e; cases e; exact absurd rfl (h0.1 _ _)
    · rename_i e1 r1 _ e; cases e; exact absurd rfl (h0.2 _ _)
    · rename_i e; cases e; exact ih
end

section
variable {P : Program} {S0 L : Nat → Prop} {B0 : Nat → Value} {w0 w : World} {N : Nat} {st : St} {a : Act} {β : Nat → Value}

/-- The slice that is handed over, as an object of its own. -/
theorem handed_holds (h : Rel P S0 L B0 w0 N st a w β) {k t : Nat} {e : TypeId} {rows : List (List PV)} {X : AV} {v : Value} (hX : RV P (okS S0 w0.heap.size β st.objs w) w β (dom st.objs) v X) (hs : handed st.objs k X = some (t, e, rows)) :
    ∃ rows0, st.objs t = some (.arr e rows0) ∧ blk v = blk (β t) ∧ (k = 999 → v = β t) ∧ ∃ inf us, P.info? e = some inf ∧ w.ownsRow 0 e inf.size v rows.length us ∧ (∀ r, r ∈ rows → r.length = inf.size) ∧
      ∀ (i j : Nat) (r : List PV) (p : PV), rows[i]? = some r → r[j]? = some p → ∃ u, us[i * inf.size + j]? = some u ∧ u.oneCell' = true ∧ RPV (okS S0 w0.heap.size β st.objs w) w u p := by
  cases X with
  | own t' =>
    simp only [handed, Option.map_eq_some_iff] at hs
    obtain ⟨⟨e', rows'⟩, har, he⟩ := hs
    simp only [Prod.mk.injEq] at he
    obtain ⟨rfl, rfl, rfl⟩ := he
    obtain ⟨inf, us, hi, hown, hrl, hcs⟩ := h.heap.arr (arrO_inv har)
    have hv := hX.own_inv.1
    subst hv
    exact ⟨rows', arrO_inv har, rfl, fun _ => rfl, inf, us, hi, hown, hrl, hcs⟩
  | sub t' e1 lo hi =>
    cases lo with
    | succ lo => simp [handed] at hs
    | zero =>
      simp only [handed] at hs
      split at hs
      · rename_i hk
        obtain ⟨⟨e', rows'⟩, har, hs⟩ := Option.bind_eq_some_iff.1 hs
        split at hs
        · rename_i hee
          simp only at hee
          subst hee
          simp only [Option.some.injEq, Prod.mk.injEq] at hs
          obtain ⟨rfl, rfl, rfl⟩ := hs
          obtain ⟨inf, us, hi', hown, hrl, hcs⟩ := h.heap.arr (arrO_inv har)
          obtain ⟨inf1, Ad, Ad1, n, c, hdt, hi1, hbt, g1, g2, g3, g4, g5, hx⟩ := hX.sub_inv
          obtain ⟨A', c', hv, _⟩ := own_slice hown
          have hn : n = rows'.length := by rw [hbt] at hv; simp at hv; exact hv.2.1
          subst hn
          have hA := g4 rfl
          subst hA
          have hlen : (rows'.take hi).length = hi := by rw [List.length_take]; omega
          simp only [Nat.sub_zero] at hx
          refine ⟨rows', arrO_inv har, ?_, fun hk9 => by omega, inf, us.take (hi * inf.size), hi', ?_, fun r hr => hrl r (List.mem_of_mem_take hr), fun i j r p hr hp => ?_⟩
          · rw [hx, hbt]; cases Ad1 <;> rfl
          · rw [hlen, hx]
            exact ownsRow_take hown g2 hbt
          · have hi2 : i < hi := by rw [← hlen]; exact (List.getElem?_eq_some_iff.1 hr).1
            rw [List.getElem?_take, if_pos hi2] at hr
            obtain ⟨u, hu, h1, h2⟩ := hcs i j r p hr hp
            have hj : j < inf.size := by rw [← hrl r (List.mem_of_getElem? hr)]; exact (List.getElem?_eq_some_iff.1 hp).1
            have hlt : i * inf.size + j < hi * inf.size := by
              have := Nat.mul_le_mul_right inf.size (show i + 1 ≤ hi from hi2)
              rw [Nat.succ_mul] at this
              omega
            exact ⟨u, by rw [List.getElem?_take, if_pos hlt]; exact hu, h1, h2⟩
        · cases hs
      · cases hs
  | _ => simp [handed] at hs

theorem resOK_999 {r : AV} (h : resOK r = true) : frO (cellAt r 999) = none := by
  cases r with
  | tup vs =>
    simp only [resOK, Bool.and_eq_true, decide_eq_true_eq] at h
    simp only [cellAt, show 999 % 1000 = 999 from rfl]
    rw [List.getElem?_eq_none (by omega)]
    rfl
  | _ => rfl

theorem reisN_get {objs : Nat → Option AO} : ∀ {p : Nat} {xs ys : List AV}, reisN objs p xs = some ys → ys.length = xs.length ∧ ∀ (i : Nat) (y : AV), ys[i]? = some y → ∃ c, xs[i]? = some c ∧ (rei objs c = some y ∨ (c = .pv .nil ∧ y = .pv .nil))
  | p, [], ys, h => by
    have : ys = [] := by cases p <;> (simp [reisN] at h; exact h)
    subst this
    exact ⟨rfl, fun i y hy => by simp at hy⟩
  | 0, x :: xs, ys, h => by
    unfold reisN at h
    split at h
    · rename_i h1; cases h1
    · rename_i vs h1
      cases h1
      obtain ⟨zs, hz, rfl⟩ := Option.map_eq_some_iff.1 h
      obtain ⟨h1, h2⟩ := reis_get _ zs hz
      refine ⟨by simp [h1], fun i y hy => ?_⟩
      cases i with
      | zero => simp at hy; subst hy; exact ⟨_, rfl, .inr ⟨rfl, rfl⟩⟩
      | succ i => obtain ⟨c, h3, h4⟩ := h2 i y (by simpa using hy); exact ⟨c, by simpa using h3, .inl h4⟩
    · cases h
    · rename_i h1 _; cases h1
  | p + 1, x :: xs, ys, h => by
    simp only [reisN, Option.bind_eq_some_iff, Option.map_eq_some_iff] at h
    obtain ⟨y0, hy0, zs, hz, rfl⟩ := h
    obtain ⟨h1, h2⟩ := reisN_get hz
    refine ⟨by simp [h1], fun i y hy => ?_⟩
    cases i with
    | zero => simp at hy; subst hy; exact ⟨_, rfl, .inl hy0⟩
    | succ i => obtain ⟨c, h3, h4⟩ := h2 i y (by simpa using hy); exact ⟨c, by simpa using h3, h4⟩
theorem unmarkedN {objs : Nat → Option AO} {ys xs : List AV} (hg : ∀ (i : Nat) (y : AV), ys[i]? = some y → ∃ c, xs[i]? = some c ∧ (rei objs c = some y ∨ (c = .pv .nil ∧ y = .pv .nil))) : ∀ y ∈ ys, mkA y = y ∧ (∀ e rows, y ≠ .fr e rows) ∧ ∀ e rows, y ≠ .tup [.fr e rows] := by
  intro y hy
  obtain ⟨i, hi⟩ := List.getElem?_of_mem hy
  obtain ⟨c, _, h | ⟨_, rfl⟩⟩ := hg i y hi
  · exact rei_unmarked h
  · exact ⟨rfl, (fun e rows h => by cases h), fun e rows h => by cases h⟩
theorem mkO_none : ∀ {ys : List AV}, (∀ y ∈ ys, (∀ e rows, y ≠ .fr e rows) ∧ ∀ e rows, y ≠ .tup [.fr e rows]) → mkO ys = []
  | [], _ => rfl
  | y :: ys, h => by
    have ih := mkO_none (ys := ys) fun z hz => h z (by simp [hz])
    obtain ⟨h1, h2⟩ := h y (by simp)
    unfold mkO
    split
    · rfl
    · rename_i e rows l h3; cases h3; exact absurd rfl (h1 _ _)
    · rename_i e rows l h3; cases h3; exact absurd rfl (h2 _ _)
    · rename_i h3; cases h3; exact ih
theorem con_of_conU {f : FuncId} {ys : List AV} {r : AV} (hm : ∀ y ∈ ys, mkA y = y ∧ (∀ e rows, y ≠ .fr e rows) ∧ ∀ e rows, y ≠ .tup [.fr e rows]) (hres : resOK r = true) (h : ConU P f ys r) : Con P f [] ys [] r := by
  have h0 : mkO ys = [] := mkO_none fun y hy => (hm y hy).2
  have h1 : ys.map mkA = ys := by
    rw [List.map_congr_left fun y hy => (hm y hy).1]; simp
  have h2 : outR r = r ∧ outO r = [] := by
    cases r with
    | clo f cs => simp [resOK, res1, resC] at hres
    | _ => exact ⟨rfl, rfl⟩
  intro w S0 β vals a1 a2 a3 a4 a5
  have hnl : ∀ b, ¬ live β (lookO []) b := fun b ⟨t, o, ho, _⟩ => by simp [lookO] at ho
  have hS : (fun b => S0 b ∨ live β (lookO []) b) = S0 := by
    funext b; apply propext
    exact ⟨fun h => h.resolve_right (hnl b), .inl⟩
  have h := h w S0 β vals a1 (by rw [h0]; exact a2) (by rw [h0]; exact a3) a4 (by rw [h0, h1]; exact a5)
  rw [h0, h2.1, h2.2, hS] at h
  refine h.mono ?_
  rintro e w' ⟨v, β', r1, r2, r3, r4, _, r5⟩
  exact ⟨v, β', r1, r2, r3, r4, r5⟩
theorem callU_sound (hL : ∀ b, L b → S0 b) (h : Rel P S0 L B0 w0 N st a w β) {f : FuncId} {d : Nat} (hd9 : d % 1000 ≠ 999) {vals : List Value} {xs ys : List AV} {x X : AV} {p k t : Nat} {e : TypeId} {rows : List (List PV)} (hk : k = 998 ∨ k = 999) (hl : vals.length = xs.length)
    (hv : ∀ (i : Nat) (v : Value) (x : AV), vals[i]? = some v → xs[i]? = some x → RV P (okS S0 w0.heap.size β st.objs w) w β (dom st.objs) v x)
    (hp : xs[p]? = some X) (hh : handed st.objs k X = some (t, e, rows)) (hoff : offVs t p xs) (hre : reisU (shM t st.objs) (markA k e rows) p xs = some ys) (hcon : ConU P f ys x)
    (hpf : puresU p xs = true ∨ (flat (outR x) ∧ flatO (outO x))) (hfree : ∀ y ∈ frTags d (outR x), st.objs y.1 = none) (hres : resOK (outR x) = true) :
    Calls P f vals.toArray w fun e w' => ∃ v β', e = .returned v ∧ Rel P S0 L B0 w0 N ⟨varsU t x st.vars, addL (frTags d (outR x)) (objsU t x st.objs)⟩ a w' β' ∧
      RV P (okS S0 w0.heap.size β' (addL (frTags d (outR x)) (objsU t x st.objs)) w') w' β' (dom (addL (frTags d (outR x)) (objsU t x st.objs))) v (mapTop (tagC d) (outR x)) := by
  have htup := resOK_tup' _ hres
  have hpl : p < xs.length := (List.getElem?_eq_some_iff.1 hp).1
  have hvp : vals[p]? = some vals[p] := List.getElem?_eq_getElem (by omega)
  generalize hvpe : vals[p]'(by omega) = vp at hvp
  obtain ⟨rows0, hot, hblk, hvpin, inf, us, hi, hown, hrl, hcs⟩ := handed_holds h (hv p vp X hvp hp) hh
  obtain ⟨hyl, hyp, hyo⟩ := reisU_get hre hpl
  have hdt : dom st.objs t := ⟨_, hot⟩
  have hmk : mkO ys = [(k, .arr e rows)] := mkO_mark hk hyp fun i y hne hy => by
    obtain ⟨z, _, hr⟩ := hyo i y hne hy
    exact (rei_unmarked hr).2
  -- without the slice
  obtain ⟨inf0, us0, hi0, hown0, hrl0, hcs0⟩ := h.heap.holds t _ hot
  have hnp : ∀ b, β t ≠ .pointer (some ⟨b, 0, none⟩) := (own_blk hown0).2
  have hD1 : ∀ s, dom st.objs s → s ≠ t → dom (shM t st.objs) s := fun s hs hne => dom_shM.2 ⟨hne, hs⟩
  have hh1 : Heap P (okS S0 w0.heap.size β st.objs w) w β (shM t st.objs) := by
    refine ⟨fun s o hs => ?_, fun s s' b hs hs' => h.heap.inj s s' b (dom_shM.1 hs).2 (dom_shM.1 hs').2⟩
    by_cases e' : s = t
    · simp [shM, e'] at hs
    · have hs' : (st.objs s).map (killO t) = some o := by simpa [shM, e'] using hs
      obtain ⟨o', ho', rfl⟩ := Option.map_eq_some_iff.1 hs'
      exact (h.heap.holds s o' ho').kill hnp (fun b hb => ⟨hb, rfl⟩) (fun s hs hne => ⟨hD1 s hs hne, rfl⟩) rfl (fun b hb => rfl)
  -- the callee's memory
  let β0 : Nat → Value := fun _ => vp
  have hhin : lookO (mkO ys) = lookO [(k, .arr e rows)] := by rw [hmk]
  have hlive0 : ∀ b, live β0 (lookO (mkO ys)) b ↔ blk (β t) = some b := by
    intro b
    rw [hhin]
    constructor
    · rintro ⟨s, o, ho, hb⟩; rw [← hblk]; exact hb
    · intro hb; exact ⟨k, .arr e rows, by simp [lookO], by rw [← hblk] at hb; exact hb⟩
  have hnl : ∀ b, okS S0 w0.heap.size β st.objs w b → ¬ blk (β t) = some b := fun b ⟨_, _, h3⟩ hb => h3 ⟨t, _, hot, hb⟩
  obtain ⟨S1, hS1, hS1lt, hS1n, hcase⟩ : ∃ S1 : Nat → Prop, (∀ b, okS S0 w0.heap.size β st.objs w b → S1 b) ∧ (∀ b, S1 b → b < w.heap.size) ∧ (∀ b, S1 b → ¬ blk (β t) = some b) ∧
      ((puresU p xs = true ∧ S1 = okS S0 w0.heap.size β st.objs w) ∨ ((flat (outR x) ∧ flatO (outO x)) ∧ ∀ b, b < w.heap.size → ¬ blk (β t) = some b → S1 b)) := by
    rcases hpf with hp | hp
    · exact ⟨_, fun b hb => hb, fun b hb => hb.2.1, hnl, .inl ⟨hp, rfl⟩⟩
    · exact ⟨fun b => b < w.heap.size ∧ ¬ blk (β t) = some b, fun b hb => ⟨hb.2.1, hnl b hb⟩, fun b hb => hb.1, fun b hb => hb.2, .inr ⟨hp, fun b h1 h2 => ⟨h1, h2⟩⟩⟩
  have hS1eq : ∀ b, okS S1 w.heap.size β0 (lookO (mkO ys)) w b ↔ S1 b := by
    intro b
    constructor
    · rintro ⟨h1 | h1, h2, _⟩
      · exact h1
      · omega
    · intro hb
      exact ⟨.inl hb, hS1lt b hb, fun hl => hS1n b hb ((hlive0 b).1 hl)⟩
  have htlt : ∀ b, blk (β t) = some b → b < w.heap.size := fun b hb => h.lt hdt hb
  have hin : ∀ s o, lookO (mkO ys) s = some o → s = k ∧ o = .arr e rows := by
    intro s o ho
    rw [hhin] at ho
    simp only [lookO] at ho
    split at ho
    · rename_i e'; cases ho; exact ⟨e', rfl⟩
    · cases ho
  have hHin : Heap P (okS S1 w.heap.size β0 (lookO (mkO ys)) w) w β0 (lookO (mkO ys)) := by
    refine ⟨fun s o ho => ?_, fun s s' b ⟨o, ho⟩ ⟨o', ho'⟩ _ _ => (hin s o ho).1.trans (hin s' o' ho').1.symm⟩
    obtain ⟨rfl, rfl⟩ := hin s o ho
    refine ⟨inf, us, hi, hown, hrl, fun i j r q h1 h2 => ?_⟩
    obtain ⟨u, hu, h3, h4⟩ := hcs i j r q h1 h2
    exact ⟨u, hu, h3, h4.mono fun b hb => ⟨(hS1eq b).2 (hS1 b hb), rfl⟩⟩
  refine (hcon w S1 β0 vals hS1lt (fun s b _ hb => htlt b (by rw [← hblk]; exact hb)) hHin (by omega) (fun i v y hvi hyi => ?_)).mono ?_
  · rw [List.getElem?_map, Option.map_eq_some_iff] at hyi
    obtain ⟨z, hz, rfl⟩ := hyi
    by_cases hip : i = p
    · subst hip
      rw [hyp] at hz
      injection hz with hz
      subst hz
      rw [hvp] at hvi
      injection hvi with hvi
      subst hvi
      have hdk : dom (lookO (mkO ys)) k := ⟨.arr e rows, by rw [hhin]; simp [lookO]⟩
      rcases hk with rfl | rfl
      · exact .own 998 hdk
      · exact .own 999 hdk
    · obtain ⟨X', hX', hrx⟩ := hyo i z hip hz
      rw [(rei_unmarked hrx).1]
      refine rei_sound hh1 (fun b hb => (hS1eq b).2 (hS1 b hb)) ((hv i v X' hvi hX').offV hD1 (offVs_get hoff i X' hip hX')) hrx ?_
      rcases hcase with ⟨hpu, _⟩ | ⟨_, hall⟩
      · exact .inl (puresU_get hpu i X' hip hX')
      · refine .inr fun s b hs hb => (hS1eq b).2 (hall b (h.lt (dom_shM.1 hs).2 hb) fun hbt => (dom_shM.1 hs).1 (h.heap.inj s t b (dom_shM.1 hs).2 hdt hb hbt))
  · rintro ee w' ⟨v, β1, rfl, hfr, hheap, hnew, hpinned, hrv⟩
    -- what is handed back
    have hout : outO x = [] ∨ ∃ e' rows', outO x = [(999, .arr e' rows')] := by
      unfold outO; split
      · exact .inr ⟨_, _, rfl⟩
      · exact .inl rfl
    have hsame : ∀ b, b < w.heap.size → ¬ blk (β t) = some b → w'.heap[b]? = w.heap[b]? := fun b hb hn => hfr.block b hb fun hl => hn ((hlive0 b).1 hl)
    have hobj : objsU t x st.objs = (match outO x with | (_, o) :: _ => addO t o st.objs | [] => shM t st.objs) := rfl
    have hdomU : ∀ s, dom (objsU t x st.objs) s → dom st.objs s := by
      intro s hs
      rcases hout with ho | ⟨e', rows', ho⟩
      · rw [hobj, ho] at hs; exact (dom_shM.1 hs).2
      · rw [hobj, ho] at hs
        rcases dom_add.1 hs with e1 | e1
        · rw [e1]; exact hdt
        · exact e1
    have hdomU' : ∀ s, dom st.objs s → s ≠ t → dom (objsU t x st.objs) s := by
      intro s hs hne
      rcases hout with ho | ⟨e', rows', ho⟩
      · rw [hobj, ho]; exact hD1 s hs hne
      · rw [hobj, ho]; exact dom_add.2 (.inr hs)
    have hfreeU : ∀ y ∈ frTags d (outR x), objsU t x st.objs y.1 = none := by
      intro y hy
      cases hc : objsU t x st.objs y.1 with
      | none => rfl
      | some o =>
        obtain ⟨o', ho'⟩ := hdomU y.1 ⟨o, hc⟩
        rw [hfree y hy] at ho'; cases ho'
    let F : Nat → Option AO := unionO (lookO (outO x)) fun t => frO (cellAt (outR x) t)
    have hFp : ∀ q o, frO (cellAt (outR x) q) = some o → F q = some o := by
      intro q o hq
      rcases hout with ho | ⟨e', rows', ho⟩
      · simp only [F, ho, unionO, lookO]; exact hq
      · simp only [F, ho, unionO, lookO]
        have : q ≠ 999 := by
          rintro rfl
          rw [resOK_999 hres] at hq; cases hq
        rw [if_neg this]
        exact hq
    let β2 : Nat → Value := fun s => match lookO (frTags d (outR x)) s with | some _ => β1 ((s - d) / 1000) | none => β s
    have hβnew : ∀ q o, frO (cellAt (outR x) q) = some o → β2 (d + 1000 * q) = β1 q := fun q o hq => by
      simp only [β2, frTags_look d (outR x) htup, hq]
      congr 1
      omega
    have hβold : ∀ s, dom st.objs s → β2 s = β s := fun s ⟨o, ho⟩ => by
      cases hlk : lookO (frTags d (outR x)) s with
      | none => simp only [β2, hlk]
      | some o' =>
        obtain ⟨z, hz, rfl⟩ := lookO_mem _ _ _ hlk
        rw [hfree z hz] at ho; cases ho
    have hlook2 : ∀ s, addL (frTags d (outR x)) (objsU t x st.objs) s = match lookO (frTags d (outR x)) s with | some o => some o | none => objsU t x st.objs s := fun s => rfl
    have hdomNew : ∀ q o, frO (cellAt (outR x) q) = some o → addL (frTags d (outR x)) (objsU t x st.objs) (d + 1000 * q) = some o := fun q o hq => by
      rw [hlook2, frTags_look d (outR x) htup, hq]
    have hdomOld : ∀ s o, objsU t x st.objs s = some o → addL (frTags d (outR x)) (objsU t x st.objs) s = some o := fun s o ho => by
      rw [hlook2]
      cases hlk : lookO (frTags d (outR x)) s with
      | none => exact ho
      | some o' =>
        obtain ⟨z, hz, rfl⟩ := lookO_mem _ _ _ hlk
        rw [hfreeU z hz] at ho; cases ho
    have hcases : ∀ s o, addL (frTags d (outR x)) (objsU t x st.objs) s = some o → (∃ q, s = d + 1000 * q ∧ frO (cellAt (outR x) q) = some o) ∨ (objsU t x st.objs s = some o ∧ lookO (frTags d (outR x)) s = none) := fun s o ho => by
      rw [hlook2] at ho
      cases hlk : lookO (frTags d (outR x)) s with
      | none => rw [hlk] at ho; exact .inr ⟨ho, rfl⟩
      | some o' =>
        rw [hlk] at ho
        injection ho with ho
        subst ho
        obtain ⟨q, rfl⟩ := frTags_inv d (outR x) s hlk
        rw [frTags_look d (outR x) htup] at hlk
        exact .inl ⟨q, rfl, hlk⟩
    -- the slice itself, where it is handed back: its place among the objects
    have hback : ∀ o, objsU t x st.objs t = some o → outO x = [(999, o)] := by
      intro o ho
      rcases hout with h1 | ⟨e', rows', h1⟩
      · rw [hobj, h1] at ho; simp [shM] at ho
      · rw [hobj, h1] at ho; simp only [addO, if_true, Option.some.injEq] at ho; rw [h1, ho]
    have hkeep : ∀ s o, objsU t x st.objs s = some o → s ≠ t → ∃ o0, st.objs s = some o0 ∧ (o = o0 ∨ (outO x = [] ∧ o = killO t o0)) := by
      intro s o ho hne
      rcases hout with h1 | ⟨e', rows', h1⟩
      · rw [hobj, h1] at ho
        have : (st.objs s).map (killO t) = some o := by simpa [shM, hne] using ho
        obtain ⟨o', ho', rfl⟩ := Option.map_eq_some_iff.1 this
        exact ⟨o', ho', .inr ⟨h1, rfl⟩⟩
      · rw [hobj, h1] at ho
        exact ⟨o, by simpa [addO, hne] using ho, .inl rfl⟩
    have hFt : ∀ o, objsU t x st.objs t = some o → F 999 = some o ∧ β1 999 = vp ∧ vp = β t := by
      intro o ho
      have h1 := hback o ho
      have hd : dom (lookO (outO x)) 999 := ⟨o, by rw [h1]; simp [lookO]⟩
      obtain ⟨hd2, hb⟩ := hpinned 999 hd
      obtain ⟨o2, ho2⟩ := hd2
      obtain ⟨rfl, _⟩ := hin 999 o2 ho2
      exact ⟨by simp only [F, h1, unionO, lookO]; simp, hb, hvpin rfl⟩
    -- blocks
    have hnewF : ∀ q o b, F q = some o → blk (β1 q) = some b → w.heap.size ≤ b ∨ blk (β t) = some b := fun q o b hq hb => by
      rcases hnew q b ⟨o, hq⟩ hb with h1 | h1
      · exact .inl h1
      · exact .inr ((hlive0 b).1 h1)
    -- where the slice is handed back, no fresh one lies in its block
    have hapart : ∀ q o b, frO (cellAt (outR x) q) = some o → blk (β1 q) = some b → blk (β t) = some b → ∀ o', objsU t x st.objs t ≠ some o' := by
      intro q o b hq hb hbt o' ho'
      obtain ⟨h1, h2, h3⟩ := hFt o' ho'
      have := hheap.inj q 999 b ⟨o, hFp q o hq⟩ ⟨o', h1⟩ hb (by rw [h2, h3]; exact hbt)
      subst this
      rw [resOK_999 hres] at hq; cases hq
    have hblk2 : ∀ s o b, addL (frTags d (outR x)) (objsU t x st.objs) s = some o → blk (β2 s) = some b →
        (∃ q, s = d + 1000 * q ∧ frO (cellAt (outR x) q) = some o ∧ blk (β1 q) = some b) ∨ (dom st.objs s ∧ objsU t x st.objs s = some o ∧ blk (β s) = some b) := by
      intro s o b ho hb
      rcases hcases s o ho with ⟨q, rfl, hq⟩ | ⟨h1, _⟩
      · rw [hβnew q o hq] at hb; exact .inl ⟨q, rfl, hq, hb⟩
      · have hs := hdomU s ⟨o, h1⟩
        rw [hβold s hs] at hb
        exact .inr ⟨hs, h1, hb⟩
    have hm : ∀ b, okS S0 w0.heap.size β st.objs w b → okS S0 w0.heap.size β2 (addL (frTags d (outR x)) (objsU t x st.objs)) w' b ∧ w'.heap[b]? = w.heap[b]? := by
      rintro b hb0
      obtain ⟨h1, h2, h3⟩ := hb0
      refine ⟨⟨h1, Nat.lt_of_lt_of_le h2 hfr.size, ?_⟩, hsame b h2 fun hbt => h3 ⟨t, _, hot, hbt⟩⟩
      rintro ⟨s, o, ho, hb⟩
      rcases hblk2 s o b ho hb with ⟨q, rfl, hq, hb1⟩ | ⟨⟨o', ho'⟩, _, hb1⟩
      · rcases hnewF q o b (hFp q o hq) hb1 with h4 | h4
        · omega
        · exact h3 ⟨t, _, hot, h4⟩
      · exact h3 ⟨s, o', ho', hb1⟩
    have hD : ∀ s, dom st.objs s → s ≠ t → dom (addL (frTags d (outR x)) (objsU t x st.objs)) s ∧ β2 s = β s := fun s hs hne => by
      obtain ⟨o, ho⟩ := hdomU' s hs hne
      exact ⟨⟨o, hdomOld s o ho⟩, hβold s hs⟩
    -- what is read of the callee's memory is read here
    have hcalS : puresU p xs = true → S1 = okS S0 w0.heap.size β st.objs w → ∀ b, okS (fun b => S1 b ∨ live β0 (lookO (mkO ys)) b) w.heap.size β1 F w' b → okS S0 w0.heap.size β2 (addL (frTags d (outR x)) (objsU t x st.objs)) w' b ∧ w'.heap[b]? = w'.heap[b]? := by
      rintro _ hSe b ⟨h1, h2, h3⟩
      refine ⟨⟨?_, h2, ?_⟩, rfl⟩
      · rcases h1 with (h1 | h1) | h1
        · rw [hSe] at h1; exact h1.1
        · rcases h.old t b hdt ((hlive0 b).1 h1) with h4 | h4
          · exact .inr h4
          · exact .inl (hL b h4)
        · have := h.fram.size; exact .inr (by omega)
      · rintro ⟨s, o, ho, hb⟩
        rcases hblk2 s o b ho hb with ⟨q, rfl, hq, hb1⟩ | ⟨⟨o', ho'⟩, hou, hb1⟩
        · exact h3 ⟨q, o, hFp q o hq, hb1⟩
        · by_cases hst : s = t
          · subst hst
            obtain ⟨g1, g2, g3⟩ := hFt o hou
            exact h3 ⟨999, o, g1, by rw [g2, g3]; exact hb1⟩
          · rcases h1 with (h1 | h1) | h1
            · rw [hSe] at h1; exact h1.2.2 ⟨s, o', ho', hb1⟩
            · exact hst (h.heap.inj s t b ⟨o', ho'⟩ hdt hb1 ((hlive0 b).1 h1))
            · have := h.lt ⟨o', ho'⟩ hb1; omega
    have hconv : ∀ (u : Value) (q : PV), RPV (okS (fun b => S1 b ∨ live β0 (lookO (mkO ys)) b) w.heap.size β1 F w') w' u q → ((flat (outR x) ∧ flatO (outO x)) → flatP q = true) → RPV (okS S0 w0.heap.size β2 (addL (frTags d (outR x)) (objsU t x st.objs)) w') w' u q := by
      intro u q hu hfl
      rcases hcase with ⟨hpu, hSe⟩ | ⟨hf, _⟩
      · exact hu.mono (hcalS hpu hSe)
      · exact flatP_sound hu (hfl hf)
    have hvars : ∀ s, RV P (okS S0 w0.heap.size β2 (addL (frTags d (outR x)) (objsU t x st.objs)) w') w' β2 (dom (addL (frTags d (outR x)) (objsU t x st.objs))) (a.tmps.getD s undef) (varsU t x st.vars s) := by
      intro s
      rcases hout with h1 | ⟨e', rows', h1⟩
      · have : varsU t x st.vars = killV t st.vars := by unfold varsU; rw [h1]
        rw [this]
        exact (h.vars s).kill hnp hm hD
      · have : varsU t x st.vars = st.vars := by unfold varsU; rw [h1]
        rw [this]
        refine (h.vars s).mono hm fun s' hs' => ?_
        by_cases hst : s' = t
        · subst hst
          exact ⟨⟨.arr e' rows', hdomOld _ _ (by rw [hobj, h1]; simp [addO])⟩, hβold _ hs'⟩
        · exact hD s' hs' hst
    have hrel : Rel P S0 L B0 w0 N ⟨varsU t x st.vars, addL (frTags d (outR x)) (objsU t x st.objs)⟩ a w' β2 := by
      refine ⟨h.size, h.defers, hvars, ⟨fun s o ho => ?_, fun s s' b hs hs' hb hb' => ?_⟩, fun s b hs hb => ?_, h.lim, fun s h9 hs => ?_, ?_⟩
      · -- an object that the callee knows
        have harr : ∀ (q s : Nat) (o : AO), F q = some o → β2 s = β1 q → ((∀ cs, o ≠ .box cs) ∧ (∀ es, o ≠ .map es) ∧ (∀ e cs, o ≠ .rws e cs) ∧ (∀ es, o ≠ .mpv es) ∧ ∀ r c, o ≠ .itr r c) → ((flat (outR x) ∧ flatO (outO x)) → ∀ e' rows', o = .arr e' rows' → flatRows rows') →
            HoldsO P (okS S0 w0.heap.size β2 (addL (frTags d (outR x)) (objsU t x st.objs)) w') w' β2 (dom (addL (frTags d (outR x)) (objsU t x st.objs))) s o := by
          intro q s o hq hβ hnb hfl
          have hho := hheap.holds q o hq
          cases o with
          | box cs => exact absurd rfl (hnb.1 cs)
          | map es => exact absurd rfl (hnb.2.1 es)
          | rws e cs => exact absurd rfl (hnb.2.2.1 e cs)
          | mpv es => exact absurd rfl (hnb.2.2.2.1 es)
          | itr r c => exact absurd rfl (hnb.2.2.2.2 r c)
          | arr e' rows' =>
            obtain ⟨inf', us', hi', hown', hrl', hcs'⟩ := hho
            refine ⟨inf', us', hi', by rw [hβ]; exact hown', hrl', fun i j row q h1 h2 => ?_⟩
            obtain ⟨u, hu, h3, h4⟩ := hcs' i j row q h1 h2
            exact ⟨u, hu, h3, hconv u q h4 fun hf => hfl hf _ _ rfl row (List.mem_of_getElem? h1) q (List.mem_of_getElem? h2)⟩
        rcases hcases s o ho with ⟨q, rfl, hq⟩ | ⟨h1, _⟩
        · refine harr q _ o (hFp q o hq) (hβnew q o hq) ?_ ?_
          · refine ⟨?_, ?_, ?_, ?_, ?_⟩
            · rintro cs rfl; unfold frO at hq; split at hq <;> cases hq
            · rintro cs rfl; unfold frO at hq; split at hq <;> cases hq
            · rintro e cs rfl; unfold frO at hq; split at hq <;> cases hq
            · rintro cs rfl; unfold frO at hq; split at hq <;> cases hq
            · rintro e cs rfl; unfold frO at hq; split at hq <;> cases hq
          · rintro ⟨hf, _⟩ e' rows' rfl
            have hcell : ∃ e', cellAt (outR x) q = some (.fr e' rows') := by
              unfold frO at hq
              split at hq
              · rename_i e1 rows1 heq
                injection hq with hq
                injection hq with hq1 hq2
                subst hq2
                exact ⟨e1, heq⟩
              · cases hq
            obtain ⟨e1, hce⟩ := hcell
            exact (flat_cell (outR x) q _ hf hce : flatRows rows')
        · by_cases hst : s = t
          · subst hst
            obtain ⟨g1, g2, g3⟩ := hFt o h1
            have hbk := hback o h1
            refine harr 999 _ o g1 (by rw [hβold _ hdt, g2, g3]) ?_ ?_
            · refine ⟨?_, ?_, ?_, ?_, ?_⟩
              · rintro cs rfl
                rcases hout with h5 | ⟨e', rows', h5⟩
                · rw [h5] at hbk; cases hbk
                · rw [h5] at hbk; simp at hbk
              · rintro cs rfl
                rcases hout with h5 | ⟨e', rows', h5⟩
                · rw [h5] at hbk; cases hbk
                · rw [h5] at hbk; simp at hbk
              · rintro e cs rfl
                rcases hout with h5 | ⟨e', rows', h5⟩
                · rw [h5] at hbk; cases hbk
                · rw [h5] at hbk; simp at hbk
              · rintro cs rfl
                rcases hout with h5 | ⟨e', rows', h5⟩
                · rw [h5] at hbk; cases hbk
                · rw [h5] at hbk; simp at hbk
              · rintro e cs rfl
                rcases hout with h5 | ⟨e', rows', h5⟩
                · rw [h5] at hbk; cases hbk
                · rw [h5] at hbk; simp at hbk
            · rintro ⟨_, hf⟩ e' rows' rfl
              rw [hbk] at hf
              exact hf.1
          · obtain ⟨o0, ho0, hor⟩ := hkeep s o h1 hst
            have hbl : ∀ b, blk (β s) = some b → w'.heap[b]? = w.heap[b]? := fun b hb => hsame b (h.lt ⟨o0, ho0⟩ hb) fun hbt => hst (h.heap.inj s t b ⟨o0, ho0⟩ hdt hb hbt)
            rcases hor with rfl | ⟨h5, rfl⟩
            · by_cases hx5 : outO x = []
              · -- killed as well
                have h6 : objsU t x st.objs s = some (killO t o) := by rw [hobj, hx5]; simp [shM, hst, ho0]
                rw [h1] at h6
                injection h6 with h6
                rw [h6]
                exact (h.heap.holds s o ho0).kill hnp hm hD (hβold s ⟨o, ho0⟩) hbl
              · refine (h.heap.holds s o ho0).mono hm (fun s' hs' => ?_) (hβold s ⟨o, ho0⟩) hbl
                by_cases hst' : s' = t
                · subst hst'
                  rcases hout with h5 | ⟨e', rows', h5⟩
                  · exact absurd h5 hx5
                  · exact ⟨⟨.arr e' rows', hdomOld _ _ (by rw [hobj, h5]; simp [addO])⟩, hβold _ hs'⟩
                · exact hD s' hs' hst'
            · exact (h.heap.holds s o0 ho0).kill hnp hm hD (hβold s ⟨o0, ho0⟩) hbl
      · obtain ⟨o, ho⟩ := hs
        obtain ⟨o', ho'⟩ := hs'
        have hfo : ∀ (q s : Nat) (o o' : AO), frO (cellAt (outR x) q) = some o → blk (β1 q) = some b → dom st.objs s → objsU t x st.objs s = some o' → blk (β s) = some b → False := by
          intro q s o o' hq hb1 hs hu hb2
          rcases hnewF q o b (hFp q o hq) hb1 with h4 | h4
          · have := h.lt hs hb2; omega
          · have := h.heap.inj s t b hs hdt hb2 h4
            subst this
            exact hapart q o b hq hb1 h4 o' hu
        rcases hblk2 s o b ho hb with ⟨q, rfl, hq, hb1⟩ | ⟨h1, h2, h3⟩ <;> rcases hblk2 s' o' b ho' hb' with ⟨q', rfl, hq', hb1'⟩ | ⟨h1', h2', h3'⟩
        · rw [hheap.inj q q' b ⟨o, hFp q o hq⟩ ⟨o', hFp q' o' hq'⟩ hb1 hb1']
        · exact (hfo q s' o o' hq hb1 h1' h2' h3').elim
        · exact (hfo q' s o' o hq' hb1' h1 h2 h3).elim
        · exact h.heap.inj s s' b h1 h1' h3 h3'
      · obtain ⟨o, ho⟩ := hs
        rcases hblk2 s o b ho hb with ⟨q, rfl, hq, hb1⟩ | ⟨h1, _, h3⟩
        · rcases hnewF q o b (hFp q o hq) hb1 with h4 | h4
          · have := h.fram.size; exact .inl (by omega)
          · exact h.old t b hdt h4
        · exact h.old s b h1 h3
      · obtain ⟨o, ho⟩ := hs
        rcases hcases s o ho with ⟨q, rfl, _⟩ | ⟨h1, _⟩
        · omega
        · have hs := hdomU s ⟨o, h1⟩
          rw [hβold s hs]; exact h.pin s h9 hs
      · refine ⟨hfr.os.trans h.fram.os, hfr.tape.trans h.fram.tape, hfr.output.trans h.fram.output, Nat.le_trans h.fram.size hfr.size, fun b h1 h2 => ?_⟩
        refine (hsame b (by have := h.fram.size; omega) fun hbt => ?_).trans (h.fram.block b h1 h2)
        rcases h.old t b hdt hbt with h4 | h4
        · omega
        · exact h2 h4
    refine ⟨v, β2, rfl, hrel, ?_⟩
    refine mapTop_sound htup (fun q c u hc hu => ?_) hrv
    have hrc := res_cell (outR x) q c hres hc
    cases c with
    | fr e' rows' =>
      have hq : frO (cellAt (outR x) q) = some (.arr e' rows') := by rw [hc]; rfl
      obtain ⟨hu1, hu2⟩ := RV.own_inv (show RV P _ w' β1 _ u (.own q) from hu)
      rw [hu1, ← hβnew q _ hq]
      exact .own (d + 1000 * q) ⟨_, hdomNew q _ hq⟩
    | pv q' => exact .pv _ _ (hconv u q' hu.pv_inv fun hf => flat_cell (outR x) q _ hf.1 hc)
    | rp cs =>
      rcases hcase with ⟨hpu, hSe⟩ | ⟨hfl, _⟩
      · obtain ⟨ad, us', rfl, h1, h2, h3, h4⟩ := (show RV P _ w' β1 _ u (.rp cs) from hu).rp_inv
        exact .rp ad cs us' (hcalS hpu hSe _ h1).1 h2 h3 (fun j q hq => (h4 j q hq).mono (hcalS hpu hSe))
      · exact (flat_cell (outR x) q _ hfl.1 hc).elim
    | _ => simp [resC] at hrc
end
end Go.Proofs.Ythblkhafehanfaa.Ab
