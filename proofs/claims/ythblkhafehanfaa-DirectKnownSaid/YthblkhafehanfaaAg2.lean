/- The abstract machine is sound: a call of a function that takes objects whole, or borrows them. -/
import Derived.Test.YthblkhafehanfaaAg1
namespace Go.Proofs.Ythblkhafehanfaa.Ab
open Go Go.RowKit

section
variable {P : Program} {S S' : Nat → Prop} {w w' : World} {β β' : Nat → Value} {D D' : Nat → Prop} {objs objs' : Nat → Option AO}

theorem HT.mono (hS : ∀ b, S b → S' b) {v : Value} {y : AV} {bs : List Nat} (h : HT P S w v y bs) : HT P S' w v y bs := by
  have hS2 : ∀ b, S b → S' b ∧ w.heap[b]? = w.heap[b]? := fun b hb => ⟨hS b hb, rfl⟩
  induction h with
  | leaf v y h => exact .leaf v y (h.mono hS2 fun _ hf => hf.elim)
  | fr v e rows inf us h1 h2 h3 h4 => exact .fr v e rows inf us h1 h2 h3 fun i j r p a b => by obtain ⟨u, c, d, e⟩ := h4 i j r p a b; exact ⟨u, c, d, e.mono hS2⟩
  | mf b us c es h1 hst h2 h3 => exact .mf b us c es h1 hst h2 fun i e u a b => ⟨(h3 i e u a b).1, (h3 i e u a b).2.1, (h3 i e u a b).2.2.1, (h3 i e u a b).2.2.2.mono hS2⟩
  | bx b us ty cs bss h1 h2 h3 h4 h5 ih => exact .bx b us ty cs bss h1 h2 h3 h4 ih
  | agg us cs bss h1 h2 h3 ih => exact .agg us cs bss h1 h2 ih
  | tup us cs bss h1 h2 h3 ih => exact .tup us cs bss h1 h2 ih

theorem flatC_sound {v : Value} {c : AV} (h : RV P S w β D v c) (hf : flatC c) : RV P S' w' β' D' v c := by
  cases h with
  | pv v p h => exact .pv _ _ (flatP_sound h hf)
  | _ => exact hf.elim
theorem flatCs_get : ∀ {cs : List AV}, flatL cs → ∀ {i : Nat} {c : AV}, cs[i]? = some c → flatC c
  | [], _, i, c, h => by simp at h
  | c :: cs, h, 0, c', hc => by simp at hc; rw [← hc]; exact h.1
  | c :: cs, h, i + 1, c', hc => flatCs_get h.2 (by simpa using hc)
theorem flat1_sound {v : Value} {c : AV} (h : RV P S w β D v c) (hf : flat1 c) : RV P S' w' β' D' v c := by
  by_cases hx : ∃ cs, c = .agg cs
  · obtain ⟨cs, rfl⟩ := hx
    obtain ⟨us, rfl, hl, hc⟩ := h.agg_inv
    exact .agg _ us hl fun i c u a b => flatC_sound (hc i c u a b) (flatCs_get hf a)
  · exact flatC_sound h (by rw [← flat1_ne c fun cs e => hx ⟨cs, e⟩]; exact hf)
/-- A flat tree leads nowhere. -/
theorem leaf_flat : ∀ (n : Nat) {v : Value} {y : AV}, flatG n y → RV P S w (fun _ => undef) (fun _ => False) v y → RV P S' w (fun _ => undef) (fun _ => False) v y
  | 0, _, _, h, _ => h.elim
  | n + 1, v, y, h, hv => by
    unfold flatG at h
    split at h
    · cases hv
    · cases hv
    · cases hv
    · obtain ⟨us, rfl, hl, hc⟩ := hv.agg_inv
      exact .agg _ us hl fun i c u a b => leaf_flat n (h c (List.mem_of_getElem? a)) (hc i c u a b)
    · obtain ⟨us, rfl, hl, hc⟩ := hv.tup_inv
      exact .tup _ us hl fun i c u a b => leaf_flat n (h c (List.mem_of_getElem? a)) (hc i c u a b)
    · exact .pv _ _ (flatP_sound hv.pv_inv h)
    · obtain ⟨us, rfl, hl, _⟩ := hv.clo_inv
      exact .clo _ [] us hl fun i c u hc => by simp at hc
    · exact h.elim
theorem HT.flat : ∀ (n : Nat) {v : Value} {y : AV} {bs : List Nat}, flatG n y → HT P S w v y bs → HT P S' w v y bs
  | 0, _, _, _, h, _ => h.elim
  | n + 1, v, y, bs, hf, h => by
    cases h with
    | leaf v y h => exact .leaf v y (leaf_flat (n + 1) hf h)
    | fr v e rows inf us h1 h2 h3 h4 => exact .fr v e rows inf us h1 h2 h3 fun i j r p a b => by obtain ⟨u, c, d, e⟩ := h4 i j r p a b; exact ⟨u, c, d, flatP_sound e (hf r (List.mem_of_getElem? a) p (List.mem_of_getElem? b))⟩
    | mf b us c es h1 hst h2 h3 => exact .mf b us c es h1 hst h2 fun i e u a b => ⟨(h3 i e u a b).1, (h3 i e u a b).2.1, (h3 i e u a b).2.2.1, flatP_sound (h3 i e u a b).2.2.2 (hf e (List.mem_of_getElem? a))⟩
    | bx b us ty cs bss h1 h2 h3 h4 h5 => exact .bx b us ty cs bss h1 h2 h3 h4 fun i c u bs a b d => HT.flat n (hf c (List.mem_of_getElem? a)) (h5 i c u bs a b d)
    | agg us cs bss h1 h2 h3 => exact .agg us cs bss h1 h2 fun i c u bs a b d => HT.flat n (hf c (List.mem_of_getElem? a)) (h3 i c u bs a b d)
    | tup us cs bss h1 h2 h3 => exact .tup us cs bss h1 h2 fun i c u bs a b d => HT.flat n (hf c (List.mem_of_getElem? a)) (h3 i c u bs a b d)

/-! ### The arguments -/

theorem rd_dom : ∀ (n : Nat) {x : AV} {r : AV × List Nat}, rd n objs x = some r → (∀ t ∈ r.2, dom objs t) ∧ ∀ l, r.1 ≠ .tup l
  | 0, _, _, h => by cases h
  | n + 1, x, r, h => by
    have lst : ∀ {l : List AV} {q : List AV × List Nat}, rdW (rd n objs) l = some q → ∀ t ∈ q.2, dom objs t := by
      intro l
      induction l with
      | nil => intro q h; cases h; intro t ht; simp at ht
      | cons c l ih =>
        intro q h t ht
        obtain ⟨r, hr, h⟩ := Option.bind_eq_some_iff.1 h
        obtain ⟨q', hq, rfl⟩ := Option.map_eq_some_iff.1 h
        rcases List.mem_append.1 ht with ht | ht
        · exact (rd_dom n hr).1 t ht
        · exact ih hq t ht
    unfold rd at h
    split at h
    · rename_i t
      obtain ⟨y, hy, rfl⟩ := Option.map_eq_some_iff.1 h
      unfold rdO at hy
      split at hy
      · rename_i ho
        cases hy
        exact ⟨fun s hs => by simp only [List.mem_singleton] at hs; rw [hs]; exact ⟨_, ho⟩, fun l e => by cases e⟩
      · rename_i ho
        cases hy
        exact ⟨fun s hs => by simp only [List.mem_singleton] at hs; rw [hs]; exact ⟨_, ho⟩, fun l e => by cases e⟩
      · cases hy
    · obtain ⟨cs, hc, h⟩ := Option.bind_eq_some_iff.1 h
      obtain ⟨q, hq, rfl⟩ := Option.map_eq_some_iff.1 h
      refine ⟨fun s hs => ?_, fun l e => by cases e⟩
      rcases List.mem_cons.1 hs with rfl | hs
      · exact ⟨_, boxO_inv hc⟩
      · exact lst hq s hs
    · obtain ⟨q, hq, rfl⟩ := Option.map_eq_some_iff.1 h
      exact ⟨lst hq, fun l e => by cases e⟩
    · cases h; exact ⟨fun t ht => by simp at ht, fun l e => by cases e⟩
    · cases h; exact ⟨fun t ht => by simp at ht, fun l e => by cases e⟩
    · cases h; exact ⟨fun t ht => by simp at ht, fun l e => by cases e⟩
    · cases h

theorem rei_ne {x y : AV} (h : rei objs x = some y) : ∀ l, y ≠ .tup l := by
  intro l e
  subst e
  have h1 : ∀ x, rei1 objs x ≠ some (.tup l) := by
    intro x h
    unfold rei1 at h
    split at h
    · obtain ⟨_, _, h⟩ := Option.bind_eq_some_iff.1 h
      obtain ⟨_, _, h⟩ := Option.map_eq_some_iff.1 h
      cases h
    · cases h
    · obtain ⟨_, _, h⟩ := Option.map_eq_some_iff.1 h
      cases h
    · cases h
    · obtain ⟨_, _, h⟩ := Option.map_eq_some_iff.1 h
      cases h
  unfold rei at h
  split at h
  · obtain ⟨_, _, h⟩ := Option.map_eq_some_iff.1 h
    cases h
  · exact h1 _ h

theorem isT_ne {y : AV} (h : ∀ l, y ≠ .tup l) : isT y = false ∧ unT y = y := by
  cases y <;> first | exact ⟨rfl, rfl⟩ | exact absurd rfl (h _)

theorem args_G (hh : Heap P S w β objs) (hS : ∀ b, S b → S' b) {T : List Nat} (hh' : Heap P S w β objs') (hw : ∀ {v x}, RV P S w β (dom objs) v x → RV P S w β (dom objs') v (wipe T x)) :
    ∀ {ks : List Nat} {xs ys : List AV} {vals : List Value}, ysG objs objs' T ks xs = some ys → vals.length = xs.length → (∀ (i : Nat) (v : Value) (x : AV), vals[i]? = some v → xs[i]? = some x → RV P S w β (dom objs) v x) →
    (puresG T ks xs = true ∨ ∀ t b, dom objs' t → blk (β t) = some b → S' b) →
    ∃ bss, HTs P S' w vals (ys.map unT) bss ∧ bss.flatten = blks β (tagsG objs ks xs) ∧ (∀ t ∈ tagsG objs ks xs, dom objs t) ∧
      (lent ys vals).length = (lentG ks xs).length ∧ ∀ (i : Nat) (c : AV) (u : Value), (lentG ks xs)[i]? = some c → (lent ys vals)[i]? = some u → RV P S w β (dom objs) u c
  | [], [], ys, vals, h, hl, _, _ => by
    cases h
    cases vals with
    | nil => exact ⟨[], ⟨rfl, rfl, fun i y v bs h => by simp at h⟩, rfl, fun t ht => by simp [tagsG] at ht, rfl, fun i c u hc => by simp [lentG] at hc⟩
    | cons v vs => simp at hl
  | [], _ :: _, _, _, h, _, _, _ => by cases h
  | _ :: _, [], _, _, h, _, _, _ => by cases h
  | k :: ks, x :: xs, ys, vals, h, hl, hv, hp => by
    obtain ⟨y, hy, h⟩ := Option.bind_eq_some_iff.1 h
    obtain ⟨ys, hys, rfl⟩ := Option.map_eq_some_iff.1 h
    match vals, hl with
    | v :: vals, hl =>
      have hp' : (k != 0 || pure1 (wipe T x)) = true ∧ puresG T ks xs = true ∨ ∀ t b, dom objs' t → blk (β t) = some b → S' b := by
        rcases hp with h | h
        · left; simpa [puresG] using h
        · exact .inr h
      obtain ⟨bss, ⟨l1, l2, hts⟩, hfl, hdm, hln, hlv⟩ := args_G hh hS hh' hw hys (by simpa using hl) (fun i v x a b => hv (i + 1) v x (by simpa using a) (by simpa using b)) (hp'.imp And.right id)
      have hvx := hv 0 v x rfl rfl
      -- this argument
      have one : ∃ bs, HT P S' w v (unT y) bs ∧ bs = blks β (if k = 0 then [] else ((rd 5 objs x).map (·.2)).getD []) ∧ (∀ t ∈ (if k = 0 then [] else ((rd 5 objs x).map (·.2)).getD []), dom objs t) ∧ (isT y = true ↔ 1 < k) := by
        by_cases h0 : k = 0
        · subst h0
          simp only [if_true] at hy ⊢
          obtain ⟨e1, e2⟩ := isT_ne (rei_ne hy)
          refine ⟨[], .leaf _ _ ?_, rfl, fun t ht => by simp at ht, by rw [e1]; simp⟩
          rw [e2]
          exact rei_sound hh' hS (hw hvx) hy (hp'.imp (fun h => by simpa using h.1) id)
        · simp only [if_neg h0] at hy ⊢
          by_cases h1 : k = 1
          · subst h1
            simp only [if_true] at hy
            obtain ⟨r, hr, rfl⟩ := Option.map_eq_some_iff.1 hy
            obtain ⟨e1, e2⟩ := isT_ne (rd_dom 5 hr).2
            obtain ⟨m1, m2⟩ := rd_mt (P := P) 5 hr
            refine ⟨_, mt_sound hh hS 5 (y := unT r.1) (by rw [e2]; exact m1) hvx, by rw [hr, m2]; rfl, fun t ht => (rd_dom 5 hr).1 t (by simpa [hr] using ht), by rw [e1]; simp⟩
          · simp only [if_neg h1] at hy
            obtain ⟨r, hr, rfl⟩ := Option.map_eq_some_iff.1 hy
            obtain ⟨m1, m2⟩ := rd_mt (P := P) 5 hr
            refine ⟨_, mt_sound hh hS 5 (y := unT (.tup [r.1])) m1 hvx, by rw [hr, m2]; rfl, fun t ht => (rd_dom 5 hr).1 t (by simpa [hr] using ht), by simp only [isT, true_iff]; omega⟩
      obtain ⟨bs, hbt, rfl, hbd, hk⟩ := one
      refine ⟨_ :: bss, ⟨by simpa using l1, by simpa using l2, fun i y' v' bs' a b c => ?_⟩, by rw [List.flatten_cons, hfl]; exact (blks_append β _ _).symm, fun t ht => ?_, ?_, fun i c u => ?_⟩
      · cases i with
        | zero =>
          simp only [List.map_cons, List.getElem?_cons_zero, Option.some.injEq] at a b c
          rw [← a, ← b, ← c]; exact hbt
        | succ i => exact hts i y' v' bs' (by simpa using a) (by simpa using b) (by simpa using c)
      · rcases List.mem_append.1 ht with ht | ht
        · exact hbd t ht
        · exact hdm t ht
      · by_cases hc : 1 < k
        · simp only [lent, hk.2 hc, lentG, hc, if_true, List.length_cons, hln]
        · have : isT y = false := by
            cases he : isT y with
            | false => rfl
            | true => exact absurd (hk.1 he) hc
          simp only [lent, this, lentG, hc, if_false, hln, Bool.false_eq_true]
      · by_cases hc : 1 < k
        · simp only [lent, hk.2 hc, lentG, hc, if_true]
          intro a b
          cases i with
          | zero =>
            simp only [List.getElem?_cons_zero, Option.some.injEq] at a b
            rw [← a, ← b]; exact hvx
          | succ i => exact hlv i c u (by simpa using a) (by simpa using b)
        · have : isT y = false := by
            cases he : isT y with
            | false => rfl
            | true => exact absurd (hk.1 he) hc
          simp only [lent, this, lentG, hc, if_false, Bool.false_eq_true]
          exact hlv i c u

theorem topC_eq {D' : Nat → Prop} {u : Value} {c : AV} (h : RV P S w β D u c) (h' : RV P S' w' β' D' u c) : ∀ t ∈ topC c, β' t = β t ∧ D' t := by
  intro t ht
  unfold topC at ht
  split at ht
  · simp only [List.mem_singleton] at ht
    subst ht
    exact ⟨h'.own_inv.1.symm.trans h.own_inv.1, h'.own_inv.2⟩
  · simp only [List.mem_singleton] at ht
    subst ht
    obtain ⟨b, e1, _, hb⟩ := h.ptr_inv
    obtain ⟨b', e2, hd, hb'⟩ := h'.ptr_inv
    rw [hb, hb', ← e1, ← e2]; exact ⟨rfl, hd⟩
  · simp at ht
theorem tops_eq {D' : Nat → Prop} {u : Value} {c : AV} (h : RV P S w β D u c) (h' : RV P S' w' β' D' u c) : ∀ t ∈ tops c, β' t = β t ∧ D' t := by
  by_cases hx : ∃ cs, c = .agg cs
  · obtain ⟨cs, rfl⟩ := hx
    intro t ht
    obtain ⟨c, hc, ht⟩ := List.mem_flatMap.1 ht
    obtain ⟨us, rfl, hl, hcs⟩ := h.agg_inv
    obtain ⟨us', e, hl', hcs'⟩ := h'.agg_inv
    have : us = us' := by simpa using e
    subst this
    obtain ⟨i, hi⟩ := List.getElem?_of_mem hc
    have hlt : i < us.length := by rw [hl]; exact (List.getElem?_eq_some_iff.1 hi).1
    exact topC_eq (hcs i c _ hi (List.getElem?_eq_getElem hlt)) (hcs' i c _ hi (List.getElem?_eq_getElem hlt)) t ht
  · have : tops c = topC c := by cases c <;> first | rfl | exact absurd ⟨_, rfl⟩ hx
    rw [this]; exact topC_eq h h'

theorem HTs.snoc {vs : List Value} {ys : List AV} {v : Value} {y : AV} {bss : List (List Nat)} (h : HTs P S w (vs ++ [v]) (ys ++ [y]) bss) (hl : vs.length = ys.length) :
    ∃ b1 bl, bss = b1 ++ [bl] ∧ HTs P S w vs ys b1 ∧ HT P S w v y bl := by
  obtain ⟨h1, h2, h3⟩ := h
  have hl2 : bss.length = ys.length + 1 := by simpa using h2
  have hne : bss ≠ [] := by intro e; rw [e] at hl2; simp at hl2
  obtain ⟨b1, bl, rfl⟩ : ∃ b1 bl, bss = b1 ++ [bl] := ⟨bss.dropLast, bss.getLast hne, (List.dropLast_concat_getLast hne).symm⟩
  have hb1 : b1.length = ys.length := by simpa using hl2
  refine ⟨b1, bl, rfl, ⟨hl, hb1, fun i y' v' bs a b c => ?_⟩, h3 ys.length y v bl (by simp) (by rw [← hl]; simp) (by rw [← hb1]; simp)⟩
  have k1 := (List.getElem?_eq_some_iff.1 a).1
  exact h3 i y' v' bs (by rw [List.getElem?_append_left k1]; exact a) (by rw [List.getElem?_append_left (by omega)]; exact b) (by rw [List.getElem?_append_left (by omega)]; exact c)
end

theorem tagsG_dom {objs : Nat → Option AO} : ∀ (ks : List Nat) (xs : List AV) (t : Nat), t ∈ tagsG objs ks xs → dom objs t
  | [], _, _, ht => by simp [tagsG] at ht
  | _ :: _, [], _, ht => by simp [tagsG] at ht
  | k :: ks, x :: xs, t, ht => by
    rcases List.mem_append.1 ht with ht | ht
    · by_cases h0 : k = 0
      · simp [h0] at ht
      · rw [if_neg h0] at ht
        cases hr : rd 5 objs x with
        | none => rw [hr] at ht; simp at ht
        | some r => rw [hr] at ht; exact (rd_dom 5 hr).1 t (by simpa using ht)
    · exact tagsG_dom ks xs t ht
theorem lookO_mem2 : ∀ {os : List (Nat × AO)} {t : Nat} {o : AO}, lookO os t = some o → (t, o) ∈ os
  | [], _, _, h => by cases h
  | (s, o') :: os, t, o, h => by
    simp only [lookO] at h
    split at h
    · rename_i e; cases h; rw [e]; exact List.mem_cons_self
    · exact List.mem_cons_of_mem _ (lookO_mem2 h)
theorem lookO_dom : ∀ {os : List (Nat × AO)} {p : Nat × AO}, p ∈ os → ∃ o, lookO os p.1 = some o
  | [], _, h => by simp at h
  | (s, o') :: os, p, h => by
    simp only [lookO]
    split
    · exact ⟨o', rfl⟩
    · rename_i hne
      rcases List.mem_cons.1 h with rfl | h
      · exact absurd rfl hne
      · exact lookO_dom h

section
variable {P : Program} {S0 L : Nat → Prop} {B0 : Nat → Value} {w0 w : World} {N : Nat} {st : St} {a : Act} {β : Nat → Value}

theorem call_G {T : List Nat} (hL : T ≠ [] → ∀ b, L b → S0 b) (h : Rel P S0 L B0 w0 N st a w β) {f : FuncId} {d : Nat} (hd9 : d % 1000 ≠ 999) {ks : List Nat} {vals : List Value} {xs ys : List AV} {x : AV} {Q W : List Nat} (hl : vals.length = xs.length)
    (hv : ∀ (i : Nat) (v : Value) (x : AV), vals[i]? = some v → xs[i]? = some x → RV P (okS S0 w0.heap.size β st.objs w) w β (dom st.objs) v x)
    (hT : T = tagsG st.objs ks xs) (hQ : Q = (lentG ks xs).flatMap tops) (hW : W = T.filter fun t => !Q.contains t) (hTn : T.Nodup) (hQT : ∀ t ∈ Q, t ∈ T) (hQn : (Q ++ poolG d T W).Nodup)
    (hys : ysG st.objs (wipeM T T st.objs) T ks xs = some ys) (hcon : ConG P f ys x) (hpf : puresG T ks xs = true ∨ ∀ y ∈ outG x ++ [retG x], flatG 5 y)
    {o : List AV × List (Nat × AO) × List Nat × List Nat} (ho : numW (num 5 true) (outG x) (Q, poolG d T W) = some o) (ho1 : o.1 = lentG ks xs)
    {r : AV × List (Nat × AO) × List Nat × List Nat} (hr : num 5 false (retG x) o.2.2 = some r) (hfree : ∀ p ∈ o.2.1 ++ r.2.1, T.contains p.1 = true ∨ st.objs p.1 = none) :
    Calls P f vals.toArray w fun e w' => ∃ v β', e = .returned v ∧ Rel P S0 L B0 w0 N ⟨wipeV W st.vars, addL (o.2.1 ++ r.2.1) (wipeM T W st.objs)⟩ a w' β' ∧
      RV P (okS S0 w0.heap.size β' (addL (o.2.1 ++ r.2.1) (wipeM T W st.objs)) w') w' β' (dom (addL (o.2.1 ++ r.2.1) (wipeM T W st.objs))) v r.1 := by
  classical
  let S := okS S0 w0.heap.size β st.objs w
  have hTd : ∀ t ∈ T, dom st.objs t := by
    intro t ht
    rw [hT] at ht
    exact tagsG_dom _ _ t ht
  have hTlive : ∀ b ∈ blks β T, live β st.objs b ∧ b < w.heap.size := by
    intro b hb
    obtain ⟨t, ht, hb⟩ := List.mem_filterMap.1 hb
    obtain ⟨o, ho⟩ := hTd t ht
    exact ⟨⟨t, o, ho, hb⟩, h.lt ⟨o, ho⟩ hb⟩
  have hTinj : ∀ t b, dom st.objs t → t ∉ T → blk (β t) = some b → b ∉ blks β T := by
    intro t b ht hn hb hm
    obtain ⟨s, hs, hb'⟩ := List.mem_filterMap.1 hm
    exact hn (h.heap.inj t s b ht (hTd s hs) hb hb' ▸ hs)
  have hTnd : (blks β T).Nodup := by
    have : ∀ l : List Nat, l.Nodup → (∀ t ∈ l, dom st.objs t) → (blks β l).Nodup := by
      intro l
      induction l with
      | nil => intro _ _; exact List.nodup_nil
      | cons t l ih =>
        intro hn hd
        rw [List.nodup_cons] at hn
        have e : blks β (t :: l) = (blk (β t)).toList ++ blks β l := by
          rw [← blks_one]; exact blks_append β [t] l
        rw [e]
        cases hb : blk (β t) with
        | none => exact ih hn.2 fun t ht => hd t (List.mem_cons_of_mem _ ht)
        | some b =>
          show (b :: blks β l).Nodup
          rw [List.nodup_cons]
          refine ⟨fun hm => ?_, ih hn.2 fun t ht => hd t (List.mem_cons_of_mem _ ht)⟩
          obtain ⟨s, hs, hb'⟩ := List.mem_filterMap.1 hm
          exact hn.1 (h.heap.inj t s b (hd t List.mem_cons_self) (hd s (List.mem_cons_of_mem _ hs)) hb hb' ▸ hs)
    exact this T hTn hTd
  have hcT : ∀ t, T.contains t = true ↔ t ∈ T := fun t => by simp
  -- the caller's memory without what is handed over
  have hdom' : ∀ t, dom (wipeM T T st.objs) t ↔ (t ∉ T ∧ dom st.objs t) := by
    intro t
    simp only [dom, wipeM]
    constructor
    · rintro ⟨o, ho⟩
      split at ho
      · cases ho
      · rename_i hc
        obtain ⟨o', ho', _⟩ := Option.map_eq_some_iff.1 ho
        exact ⟨fun hm => hc ((hcT t).2 hm), o', ho'⟩
    · rintro ⟨hn, o, ho⟩
      exact ⟨wipeO T o, by rw [if_neg (fun hc => hn ((hcT t).1 hc)), ho]; rfl⟩
  have hDw : ∀ s, dom st.objs s → T.contains s = false → dom (wipeM T T st.objs) s ∧ β s = β s := fun s hs hc => ⟨(hdom' s).2 ⟨fun hm => absurd ((hcT s).2 hm) (by rw [hc]; exact Bool.false_ne_true), hs⟩, rfl⟩
  have hwp : ∀ {v x}, RV P S w β (dom st.objs) v x → RV P S w β (dom (wipeM T T st.objs)) v (wipe T x) := fun hx => hx.wipe (fun b hb => ⟨hb, rfl⟩) hDw
  have hh' : Heap P S w β (wipeM T T st.objs) := by
    refine ⟨fun t o ht => ?_, fun t t' b ht ht' => h.heap.inj t t' b ((hdom' t).1 ht).2 ((hdom' t').1 ht').2⟩
    simp only [wipeM] at ht
    split at ht
    · cases ht
    · obtain ⟨o', ho', rfl⟩ := Option.map_eq_some_iff.1 ht
      exact (h.heap.holds t o' ho').wipe (fun b hb => ⟨hb, rfl⟩) hDw rfl (fun _ _ => rfl)
  -- the callee's own memory
  obtain ⟨S1, hS1, hS1b, hcase⟩ : ∃ S1 : Nat → Prop, (∀ b, S b → S1 b) ∧ (∀ b, S1 b → b < w.heap.size ∧ b ∉ blks β T) ∧
      ((puresG T ks xs = true ∧ S1 = S) ∨ ((∀ y ∈ outG x ++ [retG x], flatG 5 y) ∧ ∀ b, b < w.heap.size → b ∉ blks β T → S1 b)) := by
    have hSb : ∀ b, S b → b < w.heap.size ∧ b ∉ blks β T := fun b hb => ⟨hb.2.1, fun hm => hb.2.2 (hTlive b hm).1⟩
    rcases hpf with hp | hp
    · exact ⟨S, fun b hb => hb, hSb, .inl ⟨hp, rfl⟩⟩
    · exact ⟨fun b => b < w.heap.size ∧ b ∉ blks β T, hSb, fun b hb => hb, .inr ⟨hp, fun b h1 h2 => ⟨h1, h2⟩⟩⟩
  obtain ⟨bss, hts, hbs, _, hln, hlv⟩ := args_G h.heap hS1 hh' hwp hys hl hv (hcase.imp And.left fun hc t b ht hb => hc.2 b (h.lt ((hdom' t).1 ht).2 hb) (hTinj t b ((hdom' t).1 ht).2 ((hdom' t).1 ht).1 hb))
  rw [← hT] at hbs
  refine (hcon w S1 vals bss (fun b hb => by rw [hbs]; exact hS1b b hb) (by rw [hbs]; exact hTnd) hts).mono ?_
  rw [hbs]
  rintro e w' ⟨v, bss', rfl, hfr, hnd, hloc, hres⟩
  -- what may be read behind the call
  let S3 : Nat → Prop := fun b => (S0 b ∨ w0.heap.size ≤ b) ∧ b < w'.heap.size ∧ b ∉ bss'.flatten ∧ ¬ ∃ t, dom st.objs t ∧ t ∉ T ∧ blk (β t) = some b
  have hTold : ∀ b ∈ blks β T, S0 b ∨ w0.heap.size ≤ b := by
    intro b hb
    obtain ⟨t, ht, hb⟩ := List.mem_filterMap.1 hb
    exact (h.old t b (hTd t ht) hb).elim .inr fun hl => .inl (hL (fun e => by rw [e] at ht; cases ht) b hl)
  have hres3 : HTs P S3 w' (lent ys vals ++ [v]) (outG x ++ [retG x]) bss' := by
    refine ⟨hres.1, hres.2.1, fun i y u bs a1 a2 a3 => ?_⟩
    have hx := hres.2.2 i y u bs a1 a2 a3
    rcases hcase with ⟨_, hSe⟩ | ⟨hfl, _⟩
    · refine hx.mono ?_
      rw [hSe]
      rintro b ⟨h1, h2, h3⟩
      refine ⟨?_, h2, h3, ?_⟩
      · rcases h1 with h1 | h1 | h1
        · exact h1.1
        · exact hTold b h1
        · exact .inr (Nat.le_trans h.fram.size h1)
      · rintro ⟨t, ht, hn, hb⟩
        rcases h1 with h1 | h1 | h1
        · obtain ⟨o, ho⟩ := ht; exact h1.2.2 ⟨t, o, ho, hb⟩
        · exact hTinj t b ht hn hb h1
        · have := h.lt ht hb; omega
    · exact hx.flat 5 (hfl y (List.mem_of_getElem? a1))
  obtain ⟨p1, n1, l1⟩ := numW_ok (P := P) (S := S3) (S' := S3) (w := w') (num_ok (fun b hb => hb) 5 true) (outG x) _ o ho
  obtain ⟨p2, l2⟩ := num_ok (P := P) (S := S3) (S' := S3) (w := w') (fun b hb => hb) 5 false _ _ r hr
  have hlen : (lent ys vals).length = (outG x).length := by rw [hln, ← ho1, n1]
  obtain ⟨b1, bl, rfl, ht1, ht2⟩ := hres3.snoc hlen
  rw [List.flatten_append, List.nodup_append] at hnd
  have ebl : [bl].flatten = bl := by simp
  rw [ebl] at hnd
  have hsn := p1.nodup_iff.2 hQn
  rw [List.nodup_append] at hsn
  have k1 := l1 (lent ys vals) b1 ht1 hnd.1 hQn
  have k2 := l2 v bl ht2 hnd.2.1 hsn.2.1
  have hsub2 : ∀ p ∈ r.2.1, p.1 ∈ o.2.2.1 ++ o.2.2.2 := fun p hp => p2.mem_iff.1 (List.mem_append_left _ (List.mem_map_of_mem hp))
  obtain ⟨βn, c1, c2, c3⟩ := k1.append k2 (fun b hb hb' => hnd.2.2 b hb b hb' rfl) fun p hp q hq e => hsn.2.2 _ (List.mem_map_of_mem hp) _ (hsub2 q hq) e
  have ebs : (b1 ++ [bl]).flatten = b1.flatten ++ bl := by rw [List.flatten_append, ebl]
  rw [ebs] at hloc
  -- the tags of what has come back
  have htag : ∀ p ∈ o.2.1 ++ r.2.1, p.1 ∈ Q ++ poolG d T W := by
    intro p hp
    rcases List.mem_append.1 hp with hp | hp
    · exact p1.mem_iff.1 (List.mem_append_left _ (List.mem_map_of_mem hp))
    · exact p1.mem_iff.1 (List.mem_append_right _ (hsub2 p hp))
  generalize hos : o.2.1 ++ r.2.1 = os at *
  let β2 : Nat → Value := fun t => if ∃ p ∈ os, p.1 = t then βn t else β t
  let objs2 : Nat → Option AO := addL os (wipeM T W st.objs)
  have hβn : ∀ p ∈ os, β2 p.1 = βn p.1 := fun p hp => if_pos ⟨p, hp, rfl⟩
  have hβo : ∀ t, (∀ p ∈ os, p.1 ≠ t) → β2 t = β t := fun t ht => if_neg fun ⟨p, hp, e⟩ => ht p hp e
  have hobj : ∀ t o', objs2 t = some o' → ((t, o') ∈ os) ∨ ((∀ p ∈ os, p.1 ≠ t) ∧ t ∉ T ∧ ∃ o0, st.objs t = some o0 ∧ o' = wipeO W o0) := by
    intro t o' ho'
    simp only [objs2, addL] at ho'
    cases hlk : lookO os t with
    | some o1 => rw [hlk] at ho'; cases ho'; exact .inl (lookO_mem2 hlk)
    | none =>
      rw [hlk] at ho'
      simp only [wipeM] at ho'
      split at ho'
      · cases ho'
      · rename_i hc
        obtain ⟨o0, h0, rfl⟩ := Option.map_eq_some_iff.1 ho'
        refine .inr ⟨fun p hp e => ?_, fun hm => hc ((hcT t).2 hm), o0, h0, rfl⟩
        obtain ⟨o1, h1⟩ := lookO_dom hp
        rw [e, hlk] at h1; cases h1
  have hdn : ∀ p ∈ os, dom objs2 p.1 := fun p hp => by
    obtain ⟨o1, h1⟩ := lookO_dom hp
    exact ⟨o1, by simp only [objs2, addL, h1]⟩
  have hdo : ∀ t, dom st.objs t → t ∉ T → dom objs2 t ∧ β2 t = β t := by
    rintro t ⟨o0, h0⟩ hn
    have hne : ∀ p ∈ os, p.1 ≠ t := fun p hp e => by
      rcases hfree p hp with hc | hc
      · exact hn (e ▸ (hcT _).1 hc)
      · rw [e, h0] at hc; cases hc
    refine ⟨?_, hβo t hne⟩
    cases hlk : lookO os t with
    | some o1 => exact absurd rfl (hne (t, o1) (lookO_mem2 hlk))
    | none => exact ⟨wipeO W o0, by simp only [objs2, addL, hlk, wipeM]; rw [if_neg (fun hc => hn ((hcT t).1 hc)), h0]; rfl⟩
  have hlaid := c1 β2 (dom objs2) fun p hp => ⟨hβn p hp, hdn p hp⟩
  -- what is lent keeps its place
  have hpin : ∀ t ∈ Q, β2 t = β t ∧ dom objs2 t := by
    intro t ht
    rw [hQ] at ht
    obtain ⟨c, hc, ht⟩ := List.mem_flatMap.1 ht
    obtain ⟨i, hi⟩ := List.getElem?_of_mem hc
    have hlt : i < (lent ys vals).length := by rw [hln]; exact (List.getElem?_eq_some_iff.1 hi).1
    have hu := List.getElem?_eq_getElem hlt
    exact tops_eq (hlv i c _ hi hu) (hlaid.2.1 i c _ (by rw [ho1]; exact hi) hu) t ht
  have hD : ∀ s, dom st.objs s → W.contains s = false → dom objs2 s ∧ β2 s = β s := by
    intro s hs hc
    by_cases hm : s ∈ T
    · have : s ∈ Q := by
        by_cases hq : s ∈ Q
        · exact hq
        · have : s ∈ W := by rw [hW]; exact List.mem_filter.2 ⟨hm, by simpa using hq⟩
          rw [List.contains_iff_mem.2 this] at hc; cases hc
      exact ⟨(hpin s this).2, (hpin s this).1⟩
    · exact hdo s hs hm
  have hnewb : ∀ p ∈ os, ∀ b, blk (β2 p.1) = some b → b ∈ b1.flatten ++ bl := fun p hp b hb => by
    rw [hβn p hp] at hb
    exact c2 p hp b hb
  have hlive2 : ∀ b, live β2 objs2 b → b ∈ b1.flatten ++ bl ∨ ∃ t, dom st.objs t ∧ t ∉ T ∧ blk (β t) = some b := by
    rintro b ⟨t, o', ho', hb⟩
    rcases hobj t o' ho' with hm | ⟨h1, h2, o0, h3, _⟩
    · exact .inl (hnewb _ hm b hb)
    · rw [hβo t h1] at hb
      exact .inr ⟨t, ⟨o0, h3⟩, h2, hb⟩
  have hsame : ∀ b, b < w.heap.size → b ∉ blks β T → w'.heap[b]? = w.heap[b]? := fun b h1 h2 => hfr.block b h1 h2
  have hm : ∀ b, S b → okS S0 w0.heap.size β2 objs2 w' b ∧ w'.heap[b]? = w.heap[b]? := by
    rintro b ⟨h1, h2, h3⟩
    have hnT : b ∉ blks β T := fun hm => h3 (hTlive b hm).1
    refine ⟨⟨h1, Nat.lt_of_lt_of_le h2 hfr.size, fun hl => ?_⟩, hsame b h2 hnT⟩
    rcases hlive2 b hl with hb | ⟨t, ⟨o0, h0⟩, _, hb⟩
    · rcases hloc b hb with h4 | h4
      · omega
      · exact hnT h4
    · exact h3 ⟨t, o0, h0, hb⟩
  have hm3 : ∀ b, S3 b → okS S0 w0.heap.size β2 objs2 w' b ∧ w'.heap[b]? = w'.heap[b]? := by
    rintro b ⟨h1, h2, h3, h4⟩
    refine ⟨⟨h1, h2, fun hl => ?_⟩, rfl⟩
    rcases hlive2 b hl with hb | hb
    · exact h3 (by rw [ebs]; exact hb)
    · exact h4 hb
  have hrel : Rel P S0 L B0 w0 N ⟨wipeV W st.vars, objs2⟩ a w' β2 := by
    refine ⟨h.size, h.defers, fun s => (h.vars s).wipe hm hD, ⟨fun t o' ho' => ?_, fun t t' b ht ht' hb hb' => ?_⟩, fun t b ht hb => ?_, h.lim, fun t h9 ht => ?_, ?_⟩
    · rcases hobj t o' ho' with hmem | ⟨h1, h2, o0, h3, rfl⟩
      · exact (hlaid.1 (t, o') hmem).mono hm3 (fun _ hd => ⟨hd, rfl⟩) rfl (fun _ _ => rfl)
      · exact (h.heap.holds t o0 h3).wipe hm hD (hβo t h1) fun b hb => hsame b (h.lt ⟨o0, h3⟩ hb) (hTinj t b ⟨o0, h3⟩ h2 hb)
    · obtain ⟨o1, ho1'⟩ := ht
      obtain ⟨o2, ho2'⟩ := ht'
      rcases hobj t o1 ho1' with hm1 | ⟨g1, g2, o0, g3, _⟩ <;> rcases hobj t' o2 ho2' with hm2 | ⟨g1', g2', o0', g3', _⟩
      · rw [hβn _ hm1] at hb; rw [hβn _ hm2] at hb'
        exact c3 _ hm1 _ hm2 b hb hb'
      · rw [hβo t' g1'] at hb'
        rcases hloc b (hnewb _ hm1 b hb) with h4 | h4
        · have := h.lt ⟨o0', g3'⟩ hb'; omega
        · exact absurd h4 (hTinj t' b ⟨o0', g3'⟩ g2' hb')
      · rw [hβo t g1] at hb
        rcases hloc b (hnewb _ hm2 b hb') with h4 | h4
        · have := h.lt ⟨o0, g3⟩ hb; omega
        · exact absurd h4 (hTinj t b ⟨o0, g3⟩ g2 hb)
      · rw [hβo t g1] at hb; rw [hβo t' g1'] at hb'
        exact h.heap.inj t t' b ⟨o0, g3⟩ ⟨o0', g3'⟩ hb hb'
    · obtain ⟨o1, ho1'⟩ := ht
      rcases hobj t o1 ho1' with hm1 | ⟨g1, g2, o0, g3, _⟩
      · rcases hloc b (hnewb _ hm1 b hb) with h4 | h4
        · exact .inl (Nat.le_trans h.fram.size h4)
        · obtain ⟨s, hs, hb'⟩ := List.mem_filterMap.1 h4
          exact h.old s b (hTd s hs) hb'
      · rw [hβo t g1] at hb
        exact h.old t b ⟨o0, g3⟩ hb
    · obtain ⟨o1, ho1'⟩ := ht
      rcases hobj t o1 ho1' with hm1 | ⟨g1, g2, o0, g3, _⟩
      · have hq : t ∈ Q := by
          rcases List.mem_append.1 (htag _ hm1) with hq | hq
          · exact hq
          · exfalso
            unfold poolG at hq
            rcases List.mem_append.1 hq with hq | hq
            · have := (List.mem_filter.1 hq).2
              simp only [bne_iff_ne, ne_eq] at this
              exact this h9
            · have := (List.mem_filter.1 hq).1
              simp only [List.mem_cons, List.not_mem_nil, or_false] at this
              omega
        rw [(hpin t hq).1]
        exact h.pin t h9 (hTd t (hQT t hq))
      · rw [hβo t g1]; exact h.pin t h9 ⟨o0, g3⟩
    · exact ⟨hfr.os.trans h.fram.os, hfr.tape.trans h.fram.tape, hfr.output.trans h.fram.output, Nat.le_trans h.fram.size hfr.size, fun b h1 h2 => (hsame b (by have := h.fram.size; omega) fun hm => by
        rcases List.mem_filterMap.1 hm with ⟨s, hs, hb'⟩
        rcases h.old s b (hTd s hs) hb' with h3 | h3
        · omega
        · exact h2 h3).trans (h.fram.block b h1 h2)⟩
  exact ⟨v, β2, rfl, hrel, hlaid.2.2.mono hm3 fun _ hd => ⟨hd, rfl⟩⟩


theorem reis_ysG : ∀ {xs ys : List AV}, reis st.objs xs = some ys → ysG st.objs st.objs [] (xs.map fun _ => 0) xs = some ys
  | [], _, h => h
  | x :: xs, ys, h => by
    obtain ⟨y, hy, h⟩ := Option.bind_eq_some_iff.1 h
    obtain ⟨l, hl, rfl⟩ := Option.map_eq_some_iff.1 h
    show (rei st.objs x).bind _ = _
    rw [hy]
    show ((ysG st.objs st.objs [] (xs.map fun _ => 0) xs).map _) = _
    rw [reis_ysG hl]; rfl
theorem zeros_tags : ∀ xs : List AV, tagsG st.objs (xs.map fun _ => 0) xs = []
  | [] => rfl
  | x :: xs => by show [] ++ tagsG st.objs (xs.map fun _ => 0) xs = []; rw [zeros_tags xs]; rfl
theorem zeros_lent : ∀ xs : List AV, lentG (xs.map fun _ => 0) xs = []
  | [] => rfl
  | x :: xs => by show lentG (xs.map fun _ => 0) xs = []; exact zeros_lent xs
theorem zeros_pures : ∀ xs : List AV, puresG [] (xs.map fun _ => 0) xs = pures xs
  | [] => rfl
  | x :: xs => by
    show ((0 != 0 || pure1 x) && puresG [] (xs.map fun _ => 0) xs) = _
    rw [zeros_pures xs]; rfl
theorem wipeM_nil (f : Nat → Option AO) : wipeM [] [] f = f := by
  funext t
  show (f t).map (wipeO []) = f t
  cases f t <;> rfl
theorem pool8_nodup (d : Nat) : (pool8 d).Nodup := by
  simp [pool8, List.nodup_cons]

theorem flat1_tr {r : AV} (h : flat1 r) : trC r = false := by
  by_cases hx : ∃ cs, r = .agg cs
  · obtain ⟨cs, rfl⟩ := hx
    have h : flatL cs := h
    show cs.any _ = false
    induction cs with
    | nil => rfl
    | cons c cs ih =>
      rw [List.any_cons, ih h.2 h.2, Bool.or_false]
      have := h.1
      cases c <;> first | rfl | exact this.elim
  · have h : flatC r := by rw [← flat1_ne r fun cs e => hx ⟨cs, e⟩]; exact h
    cases r <;> first | rfl | exact h.elim
theorem flat_tr {r : AV} (h : flat r) : trR r = false := by
  by_cases hx : ∃ vs, r = .tup vs
  · obtain ⟨vs, rfl⟩ := hx
    have h : flatV vs := h
    show vs.any trC = false
    induction vs with
    | nil => rfl
    | cons c cs ih => rw [List.any_cons, ih h.2 h.2, Bool.or_false]; exact flat1_tr h.1
  · have h : flat1 r := by rw [← flat_ne r fun cs e => hx ⟨cs, e⟩]; exact h
    have : trR r = trC r := by cases r <;> first | rfl | exact absurd ⟨_, rfl⟩ hx
    rw [this]; exact flat1_tr h
theorem newO_plain {r : AV} (h : trR r = false) (d : Nat) : newO d r = frTags d r := by unfold newO; rw [h]; rfl
theorem newV_plain {r : AV} (h : trR r = false) (d : Nat) : newV d r = mapTop (tagC d) r := by unfold newV; rw [h]; rfl
theorem resR_plain {r : AV} (h : trR r = false) (d : Nat) : resR d r = resOK r := by unfold resR; rw [h]; rfl
theorem flatR_plain {r : AV} (h : trR r = false) : flatR r = flat r := by unfold flatR; rw [h]; rfl

theorem numW_perm {f : AV → List Nat × List Nat → Option (AV × List (Nat × AO) × List Nat × List Nat)} (hf : ∀ y s q, f y s = some q → (q.2.1.map (·.1) ++ (q.2.2.1 ++ q.2.2.2)).Perm (s.1 ++ s.2)) :
    ∀ (ys : List AV) (s : List Nat × List Nat) (q : List AV × List (Nat × AO) × List Nat × List Nat), numW f ys s = some q → (q.2.1.map (·.1) ++ (q.2.2.1 ++ q.2.2.2)).Perm (s.1 ++ s.2)
  | [], s, q, h => by cases h; exact .refl _
  | y :: ys, s, q, h => by
    obtain ⟨r, hr, h⟩ := Option.bind_eq_some_iff.1 h
    obtain ⟨q', hq, rfl⟩ := Option.map_eq_some_iff.1 h
    rw [List.map_append, List.append_assoc]
    exact ((numW_perm hf ys r.2.2 q' hq).append_left _).trans (hf y s r hr)
theorem num_perm : ∀ (n : Nat) (top : Bool) (y : AV) (s : List Nat × List Nat) (q : AV × List (Nat × AO) × List Nat × List Nat), num n top y s = some q → (q.2.1.map (·.1) ++ (q.2.2.1 ++ q.2.2.2)).Perm (s.1 ++ s.2)
  | 0, _, _, _, _, h => by cases h
  | n + 1, top, y, s, q, h => by
    unfold num at h
    split at h
    · obtain ⟨k, hk, rfl⟩ := Option.map_eq_some_iff.1 h; exact tk_perm hk
    · obtain ⟨k, hk, rfl⟩ := Option.map_eq_some_iff.1 h; exact tk_perm hk
    · obtain ⟨k, hk, h⟩ := Option.bind_eq_some_iff.1 h
      obtain ⟨r, hr, rfl⟩ := Option.map_eq_some_iff.1 h
      exact ((numW_perm (num_perm n false) _ k.2 r hr).cons k.1).trans (tk_perm hk)
    · obtain ⟨r, hr, rfl⟩ := Option.map_eq_some_iff.1 h; exact numW_perm (num_perm n top) _ s r hr
    · obtain ⟨r, hr, rfl⟩ := Option.map_eq_some_iff.1 h; exact numW_perm (num_perm n top) _ s r hr
    · cases h; exact .refl _
    · cases h; exact .refl _
    · split at h
      · cases h; exact .refl _
      · cases h
    · cases h
/-- The tags of what a call brings. -/
theorem newO_tags (d : Nat) (r : AV) : ∀ x ∈ newO d r, ∃ p, x.1 = d + 1000 * p := by
  intro x hx
  unfold newO at hx
  split at hx
  · cases hn : num 5 false r ([], pool8 d) with
    | none => rw [hn] at hx; simp at hx
    | some q =>
      rw [hn] at hx
      have hp := num_perm 5 false r _ q hn
      have hm : x.1 ∈ pool8 d := by simpa using hp.mem_iff.1 (List.mem_append_left _ (List.mem_map_of_mem (by simpa using hx)))
      simp only [pool8, List.mem_cons, List.not_mem_nil, or_false] at hm
      rcases hm with h | h | h | h | h | h | h | h
      · exact ⟨0, h⟩
      · exact ⟨1, h⟩
      · exact ⟨2, h⟩
      · exact ⟨3, h⟩
      · exact ⟨4, h⟩
      · exact ⟨5, h⟩
      · exact ⟨6, h⟩
      · exact ⟨7, h⟩
  · unfold frTags at hx
    obtain ⟨y, _, rfl⟩ := List.mem_map.1 hx
    exact ⟨y.1, rfl⟩

/-- A plain call. -/
theorem call_soundR (h : Rel P S0 L B0 w0 N st a w β) {f : FuncId} {d : Nat} (hd9 : d % 1000 ≠ 999) {vals : List Value} {xs ys : List AV} {r : AV} (hl : vals.length = xs.length)
    (hv : ∀ (i : Nat) (v : Value) (x : AV), vals[i]? = some v → xs[i]? = some x → RV P (okS S0 w0.heap.size β st.objs w) w β (dom st.objs) v x)
    (hre : reis st.objs xs = some ys) (hcon : ConR P f ys r) (hpf : pures xs = true ∨ flatR r) (hfree : ∀ x ∈ newO d r, st.objs x.1 = none) (hres : resR d r = true) :
    Calls P f vals.toArray w fun e w' => ∃ v β', e = .returned v ∧ Rel P S0 L B0 w0 N ⟨st.vars, addL (newO d r) st.objs⟩ a w' β' ∧
      RV P (okS S0 w0.heap.size β' (addL (newO d r) st.objs) w') w' β' (dom (addL (newO d r) st.objs)) v (newV d r) := by
  unfold newO at hfree ⊢
  unfold newV
  unfold resR at hres
  unfold flatR at hpf
  cases ht : trR r with
  | false =>
    simp only [ht, Bool.false_eq_true, if_false] at hfree hres hpf ⊢
    exact call_sound h hd9 hl hv hre (hcon.2 ht) hpf hfree hres
  | true =>
    simp only [ht, if_true] at hfree hres hpf ⊢
    obtain ⟨q, hq⟩ := Option.isSome_iff_exists.1 hres
    rw [hq] at hfree ⊢
    simp only [Option.map_some, Option.getD_some] at hfree ⊢
    have := call_G (T := []) (Q := []) (W := []) (fun e => absurd rfl e) h hd9 (ks := xs.map fun _ => 0) hl hv (zeros_tags xs).symm (by rw [zeros_lent]; rfl) rfl List.nodup_nil (fun t ht => by cases ht) (pool8_nodup d)
      (by rw [wipeM_nil]; exact reis_ysG hre) (hcon.1 ht) (by rw [zeros_pures]; exact hpf.imp id fun hf y hy => by simp only [outG, retG, List.nil_append, List.mem_singleton] at hy; rw [hy]; exact hf)
      (o := ([], [], ([], pool8 d))) rfl (zeros_lent xs).symm hq (fun p hp => .inr (hfree p hp))
    rw [wipeM_nil] at this
    exact this
end

end Go.Proofs.Ythblkhafehanfaa.Ab
