/- The abstract machine is sound, eighth part: calls. -/
import Derived.Test.YthblkhafehanfaaAb11
namespace Go.Proofs.Ythblkhafehanfaa.Ab
open Go Go.RowKit
set_option linter.unusedVariables false
set_option linter.unusedSimpArgs false

/-! ### Results by their places -/

theorem lookO_append (l m : List (Nat × AO)) (t : Nat) : lookO (l ++ m) t = match lookO l t with | some o => some o | none => lookO m t := by
  induction l with
  | nil => rfl
  | cons x l ih =>
    obtain ⟨k, v⟩ := x
    simp only [List.cons_append, lookO]
    by_cases h : t = k
    · simp [h]
    · simp only [if_neg h]; exact ih

theorem lookO_map_inj (g : Nat → Nat) (hg : ∀ a b, g a = g b → a = b) : ∀ (l : List (Nat × AO)) (t : Nat), lookO (l.map fun x => (g x.1, x.2)) (g t) = lookO l t
  | [], t => rfl
  | (k, v) :: l, t => by
    simp only [List.map_cons, lookO]
    by_cases h : t = k
    · simp [h]
    · rw [if_neg (fun e => h (hg _ _ e)), if_neg h]
      exact lookO_map_inj g hg l t
theorem lookO_map_none (g : Nat → Nat) : ∀ (l : List (Nat × AO)) (t : Nat), (∀ s, g s ≠ t) → lookO (l.map fun x => (g x.1, x.2)) t = none
  | [], t, _ => rfl
  | (k, v) :: l, t, h => by
    simp only [List.map_cons, lookO]
    rw [if_neg (fun e => h k e.symm)]
    exact lookO_map_none g l t h

theorem frsCs_look : ∀ (cs : List AV) (k : Nat) (p : Nat), lookO (frsCs k cs) p = if p % 1000 = 0 ∧ k ≤ p / 1000 then frO (cs[p / 1000 - k]?) else none
  | [], k, p => by simp [frsCs, lookO, frO]
  | c :: cs, k, p => by
    have ih := frsCs_look cs (k + 1) p
    have hc : ∀ (q : Option AO), (q = frO (some c)) → (if p = 1000 * k then q else lookO (frsCs (k + 1) cs) p) = if p % 1000 = 0 ∧ k ≤ p / 1000 then frO ((c :: cs)[p / 1000 - k]?) else none := by
      intro q hq
      by_cases h : p = 1000 * k
      · subst h
        have h1 : 1000 * k % 1000 = 0 := by omega
        have h2 : 1000 * k / 1000 = k := by omega
        simp [h1, h2, hq]
      · rw [if_neg h, ih]
        by_cases h1 : p % 1000 = 0 ∧ k ≤ p / 1000
        · have h2 : k + 1 ≤ p / 1000 := by omega
          rw [if_pos h1, if_pos ⟨h1.1, h2⟩]
          have : p / 1000 - k = (p / 1000 - (k + 1)) + 1 := by omega
          rw [this]
          simp
        · rw [if_neg h1, if_neg (by omega)]
    cases c with
    | fr e rows => exact hc _ rfl
    | _ =>
      have := hc none rfl
      simp only [frsCs]
      rw [ih] at this ⊢
      rw [← this]
      by_cases h : p = 1000 * k
      · subst h
        rw [if_pos rfl, if_neg (by omega)]
      · rw [if_neg h]

theorem frs1_look (v : AV) (p : Nat) : lookO (frs1 v) p = if p % 1000 = 0 then frO (cellAt1 v (p / 1000)) else none := by
  cases v with
  | agg cs =>
    simp only [frs1, frsCs_look, cellAt1]
    by_cases h : p % 1000 = 0 <;> simp [h]
  | fr e rows =>
    simp only [frs1, lookO, cellAt1]
    by_cases h : p = 0
    · subst h; rfl
    · rw [if_neg h]
      by_cases h1 : p % 1000 = 0
      · have : ¬ p / 1000 = 0 := by omega
        simp [h1, this, frO]
      · simp [h1]
  | _ =>
    simp only [frs1, lookO, cellAt1]
    split
    · split <;> rfl
    · rfl

theorem frsVs_look : ∀ (vs : List AV) (k : Nat) (p : Nat), k + vs.length ≤ 1000 → lookO (frsVs k vs) p = if k ≤ p % 1000 then frO ((vs[p % 1000 - k]?).bind fun v => cellAt1 v (p / 1000)) else none
  | [], k, p, _ => by simp [frsVs, lookO, frO]
  | v :: vs, k, p, hk => by
    simp only [List.length_cons] at hk
    have ih := frsVs_look vs (k + 1) p (by omega)
    simp only [frsVs, lookO_append]
    have h1 : lookO ((frs1 v).map fun x => (x.1 + k, x.2)) p = if p % 1000 = k then frO (cellAt1 v (p / 1000)) else none := by
      by_cases hle : k ≤ p
      · have he : p = (p - k) + k := by omega
        rw [show lookO ((frs1 v).map fun x => (x.1 + k, x.2)) p = lookO ((frs1 v).map fun x => (x.1 + k, x.2)) ((p - k) + k) from by rw [← he]]
        rw [lookO_map_inj (fun x => x + k) (fun a b h => by omega), frs1_look]
        by_cases h2 : p % 1000 = k
        · have h3 : (p - k) % 1000 = 0 := by omega
          have h4 : (p - k) / 1000 = p / 1000 := by omega
          rw [if_pos h3, if_pos h2, h4]
        · have h3 : ¬ (p - k) % 1000 = 0 := by omega
          rw [if_neg h3, if_neg h2]
      · rw [lookO_map_none (fun x => x + k) _ _ (fun s => by omega)]
        rw [if_neg (by omega)]
    rw [h1, ih]
    by_cases h2 : p % 1000 = k
    · have h3 : ¬ k + 1 ≤ p % 1000 := by omega
      have h4 : k ≤ p % 1000 := by omega
      have h5 : p % 1000 - k = 0 := by omega
      rw [if_pos h2, if_neg h3, if_pos h4, h5]
      simp only [List.getElem?_cons_zero, Option.bind_some]
      cases frO (cellAt1 v (p / 1000)) <;> rfl
    · rw [if_neg h2]
      simp only
      by_cases h3 : k ≤ p % 1000
      · have h4 : k + 1 ≤ p % 1000 := by omega
        rw [if_pos h4, if_pos h3]
        have : p % 1000 - k = (p % 1000 - (k + 1)) + 1 := by omega
        rw [this]
        simp
      · have h4 : ¬ k + 1 ≤ p % 1000 := by omega
        rw [if_neg h4, if_neg h3]

theorem frs_ne (r : AV) (h : ∀ vs, r ≠ .tup vs) : frs r = frs1 r := by cases r <;> first | rfl | exact absurd rfl (h _)
theorem cellAt_ne (r : AV) (h : ∀ vs, r ≠ .tup vs) (p : Nat) : cellAt r p = if p % 1000 = 0 then cellAt1 r (p / 1000) else none := by cases r <;> first | rfl | exact absurd rfl (h _)
theorem flat_ne (r : AV) (h : ∀ vs, r ≠ .tup vs) : flat r = flat1 r := by cases r <;> first | rfl | exact absurd rfl (h _)
theorem flat1_ne (r : AV) (h : ∀ vs, r ≠ .agg vs) : flat1 r = flatC r := by cases r <;> first | rfl | exact absurd rfl (h _)
theorem cellAt1_ne (r : AV) (h : ∀ vs, r ≠ .agg vs) (j : Nat) : cellAt1 r j = if j = 0 then some r else none := by cases r <;> first | rfl | exact absurd rfl (h _)

theorem frs_look (r : AV) (h : tupOK r = true) (p : Nat) : lookO (frs r) p = frO (cellAt r p) := by
  have key : ∀ v : AV, lookO (frs1 v) p = frO (if p % 1000 = 0 then cellAt1 v (p / 1000) else none) := fun v => by
    rw [frs1_look]; split <;> rfl
  cases r with
  | tup vs =>
    simp only [tupOK, decide_eq_true_eq] at h
    simp only [frs, frsVs_look vs 0 p (by omega), Nat.zero_le, if_true, Nat.sub_zero]
    rfl
  | _ => rw [frs_ne _ (fun vs h => by cases h), cellAt_ne _ (fun vs h => by cases h)]; exact key _

theorem frTags_look (d : Nat) (r : AV) (h : tupOK r = true) (p : Nat) : lookO (frTags d r) (d + 1000 * p) = frO (cellAt r p) := by
  unfold frTags
  rw [lookO_map_inj (fun x => d + 1000 * x) (fun a b h => by omega), frs_look r h]
theorem frTags_inv (d : Nat) (r : AV) (t : Nat) {o : AO} (h : lookO (frTags d r) t = some o) : ∃ p, t = d + 1000 * p := by
  by_cases hx : ∃ p, d + 1000 * p = t
  · obtain ⟨p, hp⟩ := hx; exact ⟨p, hp.symm⟩
  · unfold frTags at h
    rw [lookO_map_none (fun x => d + 1000 * x) _ _ (fun s hs => hx ⟨s, hs⟩)] at h
    cases h
theorem lookO_mem : ∀ (l : List (Nat × AO)) (t : Nat) (o : AO), lookO l t = some o → ∃ x ∈ l, x.1 = t
  | [], t, o, h => by simp [lookO] at h
  | (k, v) :: l, t, o, h => by
    simp only [lookO] at h
    by_cases e : t = k
    · exact ⟨(k, v), by simp, e.symm⟩
    · rw [if_neg e] at h
      obtain ⟨x, hx, hxt⟩ := lookO_mem l t o h
      exact ⟨x, by simp [hx], hxt⟩

section
variable {P : Program} {S1 S2 : Nat → Prop} {w1 w2 : World} {β1 β2 : Nat → Value} {D1 D2 : Nat → Prop}

theorem mapCs_get (g : Nat → AV → AV) : ∀ (cs : List AV) (j k : Nat), (mapCs g j cs)[k]? = (cs[k]?).map (g (1000 * (j + k)))
  | [], j, k => by simp [mapCs]
  | c :: cs, j, 0 => by simp [mapCs]
  | c :: cs, j, k + 1 => by
    simp only [mapCs, List.getElem?_cons_succ, mapCs_get g cs (j + 1) k]
    rw [show j + 1 + k = j + (k + 1) from by omega]
theorem mapCs_length (g : Nat → AV → AV) : ∀ (cs : List AV) (j : Nat), (mapCs g j cs).length = cs.length
  | [], j => rfl
  | c :: cs, j => by simp [mapCs, mapCs_length g cs (j + 1)]
theorem mapVs_get (g : Nat → AV → AV) : ∀ (vs : List AV) (i k : Nat), (mapVs g i vs)[k]? = (vs[k]?).map (map1 fun p c => g (p + (i + k)) c)
  | [], i, k => by simp [mapVs]
  | v :: vs, i, 0 => by simp [mapVs]
  | v :: vs, i, k + 1 => by
    simp only [mapVs, List.getElem?_cons_succ, mapVs_get g vs (i + 1) k]
    rw [show i + 1 + k = i + (k + 1) from by omega]
theorem mapVs_length (g : Nat → AV → AV) : ∀ (vs : List AV) (i : Nat), (mapVs g i vs).length = vs.length
  | [], i => rfl
  | v :: vs, i => by simp [mapVs, mapVs_length g vs (i + 1)]

theorem map1_sound {g1 g2 : Nat → AV → AV} {r : AV} {v : Value} (h : ∀ j c u, cellAt1 r j = some c → RV P S1 w1 β1 D1 u (g1 (1000 * j) c) → RV P S2 w2 β2 D2 u (g2 (1000 * j) c))
    (hr : RV P S1 w1 β1 D1 v (map1 g1 r)) : RV P S2 w2 β2 D2 v (map1 g2 r) := by
  cases r with
  | agg cs =>
    obtain ⟨us, rfl, hl, hc⟩ := RV.agg_inv (show RV P S1 w1 β1 D1 v (.agg (mapCs g1 0 cs)) from hr)
    refine .agg _ us (by rw [mapCs_length]; rw [mapCs_length] at hl; exact hl) fun i c u h1 h2 => ?_
    rw [mapCs_get] at h1
    obtain ⟨c', hc', rfl⟩ := Option.map_eq_some_iff.1 h1
    rw [Nat.zero_add]
    refine h i c' u hc' ?_
    have := hc i _ u (by rw [mapCs_get, hc']; rfl) h2
    rwa [Nat.zero_add] at this
  | _ => exact h 0 _ v rfl hr

theorem mapTop_sound {g1 g2 : Nat → AV → AV} {r : AV} {v : Value} (ht : tupOK r = true) (h : ∀ p c u, cellAt r p = some c → RV P S1 w1 β1 D1 u (g1 p c) → RV P S2 w2 β2 D2 u (g2 p c))
    (hr : RV P S1 w1 β1 D1 v (mapTop g1 r)) : RV P S2 w2 β2 D2 v (mapTop g2 r) := by
  have key : ∀ r : AV, (∀ vs, r ≠ .tup vs) → (∀ p c u, cellAt r p = some c → RV P S1 w1 β1 D1 u (g1 p c) → RV P S2 w2 β2 D2 u (g2 p c)) → RV P S1 w1 β1 D1 v (map1 g1 r) → RV P S2 w2 β2 D2 v (map1 g2 r) := by
    intro r hne h hr
    refine map1_sound (fun j c u hc hu => h (1000 * j) c u ?_ hu) hr
    have h1 : 1000 * j % 1000 = 0 := by omega
    have h2 : 1000 * j / 1000 = j := by omega
    cases r <;> first | (exact absurd rfl (hne _)) | (simp only [cellAt, h1, h2, if_true]; exact hc)
  cases r with
  | tup vs =>
    obtain ⟨us, rfl, hl, hc⟩ := RV.tup_inv (show RV P S1 w1 β1 D1 v (.tup (mapVs g1 0 vs)) from hr)
    simp only [tupOK, decide_eq_true_eq] at ht
    refine .tup _ us (by rw [mapVs_length]; rw [mapVs_length] at hl; exact hl) fun i c u h1 h2 => ?_
    rw [mapVs_get] at h1
    obtain ⟨c', hc', rfl⟩ := Option.map_eq_some_iff.1 h1
    have hlt : i < 1000 := by have := (List.getElem?_eq_some_iff.1 hc').1; omega
    refine map1_sound (fun j c u hcell hu => ?_) (hc i _ u (by rw [mapVs_get, hc']; rfl) h2)
    refine h (1000 * j + (0 + i)) c u ?_ hu
    have h1 : (1000 * j + (0 + i)) % 1000 = i := by omega
    have h2 : (1000 * j + (0 + i)) / 1000 = j := by omega
    simp only [cellAt, h1, h2, hc', Option.bind_some]
    exact hcell
  | _ => exact key _ (fun vs h => by cases h) h hr
end

theorem resOK_tup' (r : AV) (h : resOK r = true) : tupOK r = true := by
  cases r with
  | tup vs => simp only [resOK, Bool.and_eq_true, decide_eq_true_eq] at h; simp only [tupOK, decide_eq_true_eq]; omega
  | _ => rfl
theorem resOK_ne (r : AV) (h : ∀ vs, r ≠ .tup vs) : resOK r = res1 r := by cases r <;> first | rfl | exact absurd rfl (h _)
theorem res1_ne (r : AV) (h : ∀ vs, r ≠ .agg vs) : res1 r = resC r := by cases r <;> first | rfl | exact absurd rfl (h _)
theorem res_cell : ∀ (r : AV) (p : Nat) (c : AV), resOK r = true → cellAt r p = some c → resC c = true := by
  have hL : ∀ (cs : List AV) (i : Nat) (c : AV), resCs cs = true → cs[i]? = some c → resC c = true := by
    intro cs
    induction cs with
    | nil => intro i c _ h; simp at h
    | cons x cs ih =>
      intro i c h hc
      simp only [resCs, Bool.and_eq_true] at h
      cases i with
      | zero => simp at hc; subst hc; exact h.1
      | succ i => exact ih i c h.2 (by simpa using hc)
  have h1 : ∀ (v : AV) (j : Nat) (c : AV), res1 v = true → cellAt1 v j = some c → resC c = true := by
    intro v j c h hc
    cases v with
    | agg cs => exact hL cs j c h hc
    | _ =>
      rw [cellAt1_ne _ (fun vs h => by cases h)] at hc
      rw [res1_ne _ (fun vs h => by cases h)] at h
      split at hc
      · injection hc with hc; subst hc; exact h
      · cases hc
  have hV : ∀ (vs : List AV) (i : Nat) (v : AV), resVs vs = true → vs[i]? = some v → res1 v = true := by
    intro vs
    induction vs with
    | nil => intro i v _ h; simp at h
    | cons x vs ih =>
      intro i v h hc
      simp only [resVs, Bool.and_eq_true] at h
      cases i with
      | zero => simp at hc; subst hc; exact h.1
      | succ i => exact ih i v h.2 (by simpa using hc)
  intro r p c h hc
  cases r with
  | tup vs =>
    simp only [cellAt, Option.bind_eq_some_iff] at hc
    obtain ⟨v, hv, hc⟩ := hc
    simp only [resOK, Bool.and_eq_true] at h
    exact h1 v _ c (hV vs _ v h.2 hv) hc
  | _ =>
    rw [cellAt_ne _ (fun vs h => by cases h)] at hc
    rw [resOK_ne _ (fun vs h => by cases h)] at h
    split at hc
    · exact h1 _ _ c h hc
    · cases hc

/-! ### Flat values lead nowhere -/

theorem flatP_sound {S1 S2 : Nat → Prop} {w1 w2 : World} {v : Value} {p : PV} (h : RPV S1 w1 v p) (hf : flatP p = true) : RPV S2 w2 v p := by
  cases h with
  | int k n => exact .int k n
  | bool b => exact .bool b
  | str l => exact .str l
  | nil => exact .nil
  | val v h => exact .val v h
  | mp b us c ks h1 h2 h3 h4 => cases hf
  | mv b us c es h1 h2 h3 h4 h5 h6 => cases hf
  | pt ad cs us h1 h2 h3 h4 => cases hf
  | ro0 A c => exact .ro0 A c
  | ro ad c rows sz us h1 h2 h3 h4 h5 h6 =>
    have : rows = [] := by simpa [flatP] using hf
    subst this
    exact .ro0 _ _

theorem flat_cell : ∀ (r : AV) (p : Nat) (c : AV), flat r → cellAt r p = some c → flatC c := by
  have hL : ∀ (cs : List AV) (i : Nat) (c : AV), flatL cs → cs[i]? = some c → flatC c := by
    intro cs
    induction cs with
    | nil => intro i c _ h; simp at h
    | cons x cs ih =>
      intro i c h hc
      cases i with
      | zero => simp at hc; subst hc; exact h.1
      | succ i => exact ih i c h.2 (by simpa using hc)
  have h1 : ∀ (v : AV) (j : Nat) (c : AV), flat1 v → cellAt1 v j = some c → flatC c := by
    intro v j c h hc
    cases v with
    | agg cs => exact hL cs j c h hc
    | _ =>
      rw [cellAt1_ne _ (fun vs h => by cases h)] at hc
      rw [flat1_ne _ (fun vs h => by cases h)] at h
      split at hc
      · injection hc with hc; subst hc; exact h
      · cases hc
  have hV : ∀ (vs : List AV) (i : Nat) (v : AV), flatV vs → vs[i]? = some v → flat1 v := by
    intro vs
    induction vs with
    | nil => intro i v _ h; simp at h
    | cons x vs ih =>
      intro i v h hc
      cases i with
      | zero => simp at hc; subst hc; exact h.1
      | succ i => exact ih i v h.2 (by simpa using hc)
  intro r p c h hc
  cases r with
  | tup vs =>
    simp only [cellAt, Option.bind_eq_some_iff] at hc
    obtain ⟨v, hv, hc⟩ := hc
    exact h1 v _ c (hV vs _ v h hv) hc
  | _ =>
    rw [cellAt_ne _ (fun vs h => by cases h)] at hc
    rw [flat_ne _ (fun vs h => by cases h)] at h
    split at hc
    · exact h1 _ _ c h hc
    · cases hc

/-! ### Arguments -/

section
variable {P : Program} {S S' : Nat → Prop} {w : World} {β β' : Nat → Value} {objs : Nat → Option AO} {D' : Nat → Prop}

theorem reiP_sound (hh : Heap P S w β objs) (hS : ∀ b, S b → S' b) {u : Value} {c : AV} {p : PV} (h : RV P S w β (dom objs) u c) (hr : reiP objs c = some p) (hp : pureC c = true ∨ ∀ t b, dom objs t → blk (β t) = some b → S' b) :
    RPV S' w u p := by
  have hm : ∀ b, S b → S' b ∧ w.heap[b]? = w.heap[b]? := fun b hb => ⟨hS b hb, rfl⟩
  cases c with
  | pv q =>
    have hq := h.pv_inv
    cases q with
    | nil =>
      simp only [reiP, Option.some.injEq] at hr
      subst hr
      rw [hq.nil_inv]
      exact .ro0 none 0
    | _ =>
      simp only [reiP, Option.some.injEq] at hr
      subst hr
      exact hq.mono hm
  | own t =>
    have hall : ∀ t b, dom objs t → blk (β t) = some b → S' b := by
      rcases hp with h | h
      · simp [pureC] at h
      · exact h
    have hr : reiO (objs t) = some p := hr
    unfold reiO at hr
    split at hr
    rotate_left
    · rename_i es hes
      split at hr
      rotate_left
      · cases hr
      rename_i hun
      rw [List.all_eq_true] at hun
      simp only [Option.some.injEq] at hr
      subst hr
      obtain ⟨b, us, c, hb, hbk, hl, hc⟩ := hh.holds t _ hes
      rw [h.own_inv.1, hb]
      refine .mp b us c _ (hall t b ⟨_, hes⟩ (by rw [hb]; rfl)) hbk (by simpa using hl) fun i k u h1 h2 => ?_
      rw [List.getElem?_map] at h1
      obtain ⟨e, he, rfl⟩ := Option.map_eq_some_iff.1 h1
      obtain ⟨g1, g2⟩ := hc i e u he h2
      refine ⟨g1, ?_⟩
      have hu := hun e (List.mem_of_getElem? he)
      unfold unitB at hu
      split at hu
      · rename_i he2
        rw [he2] at g2
        generalize u.val = V at g2 ⊢
        cases g2 with
        | agg cs vs hl0 _ =>
          have : vs = [] := List.eq_nil_of_length_eq_zero hl0
          subst this
          rfl
      · cases hu
    · rename_i es hes
      simp only [Option.some.injEq] at hr
      subst hr
      obtain ⟨b, us, c, hb, hbk, hst, hl, hc⟩ := hh.holds t _ hes
      rw [h.own_inv.1, hb]
      exact .mv b us c es (hall t b ⟨_, hes⟩ (by rw [hb]; rfl)) hbk hst hl (fun i e u h1 h2 => ⟨(hc i e u h1 h2).1, (hc i e u h1 h2).2.1, (hc i e u h1 h2).2.2.1⟩) fun i e u h1 h2 => (hc i e u h1 h2).2.2.2.mono hm
    · cases hr
    rename_i e rows har0
    simp only [Option.some.injEq] at hr
    subst hr
    have har : arrO (objs t) = some (e, rows) := by rw [har0]; rfl
    obtain ⟨inf, us, hi, hown, hrl, hcs⟩ := hh.arr (arrO_inv har)
    simp only at hown hrl hcs
    rw [h.own_inv.1]
    by_cases hz : rows = []
    · subst hz
      obtain ⟨A, c, hv, _⟩ := own_slice hown
      rw [hv]
      exact .ro0 A c
    · rcases hown.2 with ⟨_, hz0⟩ | ⟨g, cap, cur, hv, _, hheap, hnc, _⟩
      · exact absurd (List.eq_nil_of_length_eq_zero hz0) hz
      · have hob : (β t).ownBlock = some g := by rw [hv]; rfl
        have hcell := hown.cells hob
        rw [hv]
        have hlook : ∀ i j, i < rows.length → j < inf.size → ∃ u, us[i * inf.size + j]? = some u := fun i j hi hj => by
          have hr : rows[i]? = some rows[i] := List.getElem?_eq_getElem hi
          have hj' : j < rows[i].length := by rw [hrl _ (List.mem_of_getElem? hr)]; exact hj
          obtain ⟨u, hu, _⟩ := hcs i j _ _ hr (List.getElem?_eq_getElem hj')
          exact ⟨u, hu⟩
        refine .ro ⟨g, 0, none⟩ cap rows inf.size (fun i j => us.getD (i * inf.size + j) undef) (hall t g ⟨_, arrO_inv har⟩ (by rw [hv]; rfl)) hnc hrl (fun i j hi hj => ?_) (fun i j r p h1 h2 => ?_) (fun i j r p h1 h2 => ?_)
        · obtain ⟨u, hu⟩ := hlook i j hi hj
          rw [hcell _ u hu]
          simp [List.getD_eq_getElem?_getD, hu]
        · obtain ⟨u, hu, h3, _⟩ := hcs i j r p h1 h2
          simp only [List.getD_eq_getElem?_getD, hu, Option.getD_some]
          exact h3
        · obtain ⟨u, hu, _, h3⟩ := hcs i j r p h1 h2
          simp only [List.getD_eq_getElem?_getD, hu, Option.getD_some]
          exact h3.mono hm
  | sub t e1 lo hi =>
    simp only [reiP, Option.bind_eq_some_iff] at hr
    obtain ⟨⟨e, rows⟩, har, hr⟩ := hr
    split at hr
    · rename_i hee
      simp only at hee
      subst hee
      simp only [Option.some.injEq] at hr
      subst hr
      have hall : ∀ t b, dom objs t → blk (β t) = some b → S' b := by
        rcases hp with h | h
        · simp [pureC] at h
        · exact h
      exact sub_ro (hh.arr (arrO_inv har)) hS (fun b hb => hall t b ⟨_, arrO_inv har⟩ hb) h
    · cases hr
  | _ => simp [reiP] at hr

theorem reiPs_get : ∀ (cs : List AV) (ps : List PV), reiPs objs cs = some ps → ps.length = cs.length ∧ ∀ (i : Nat) (p : PV), ps[i]? = some p → ∃ c, cs[i]? = some c ∧ reiP objs c = some p
  | [], ps, h => by simp [reiPs] at h; subst h; exact ⟨rfl, fun i p hp => by simp at hp⟩
  | c :: cs, ps, h => by
    simp only [reiPs, Option.bind_eq_some_iff, Option.map_eq_some_iff] at h
    obtain ⟨p, hp, qs, hqs, rfl⟩ := h
    obtain ⟨h1, h2⟩ := reiPs_get cs qs hqs
    refine ⟨by simp [h1], fun i q hq => ?_⟩
    cases i with
    | zero => simp at hq; subst hq; exact ⟨c, rfl, hp⟩
    | succ i => obtain ⟨c', h3, h4⟩ := h2 i q (by simpa using hq); exact ⟨c', by simpa using h3, h4⟩

theorem pureCs_get : ∀ (cs : List AV) (i : Nat) (c : AV), pureCs cs = true → cs[i]? = some c → pureC c = true
  | [], i, c, _, h => by simp at h
  | x :: cs, 0, c, h, hc => by simp only [pureCs, Bool.and_eq_true] at h; simp at hc; subst hc; exact h.1
  | x :: cs, i + 1, c, h, hc => by simp only [pureCs, Bool.and_eq_true] at h; exact pureCs_get cs i c h.2 (by simpa using hc)

theorem rei1_sound (hh : Heap P S w β objs) (hS : ∀ b, S b → S' b) {u : Value} {x y : AV} (h : RV P S w β (dom objs) u x) (hr : rei1 objs x = some y) (hp : pure1 x = true ∨ ∀ t b, dom objs t → blk (β t) = some b → S' b) :
    RV P S' w β' D' u y := by
  have hm : ∀ b, S b → S' b ∧ w.heap[b]? = w.heap[b]? := fun b hb => ⟨hS b hb, rfl⟩
  have hgen : ∀ {x : AV} {q : Option PV}, RV P S w β (dom objs) u x → reiP objs x = q → (pureC x = true ∨ ∀ t b, dom objs t → blk (β t) = some b → S' b) → q.map AV.pv = some y → RV P S' w β' D' u y := by
    intro x q h hq hp hy
    obtain ⟨p, rfl, rfl⟩ := Option.map_eq_some_iff.1 hy
    exact .pv _ _ (reiP_sound hh hS h hq hp)
  cases x with
  | ptr t o =>
    simp only [rei1, Option.bind_eq_some_iff, Option.map_eq_some_iff] at hr
    obtain ⟨cs, hcs, ps, hps, rfl⟩ := hr
    have hall : ∀ t b, dom objs t → blk (β t) = some b → S' b := by
      rcases hp with h | h
      · simp [pure1, pureC] at h
      · exact h
    obtain ⟨b, rfl, hd, hb⟩ := h.ptr_inv
    obtain ⟨b', cur, ty, hpt, hheap, hl, hcells⟩ := hh.box (boxO_inv hcs)
    have hbb : b' = b := by rw [hb] at hpt; simpa using hpt.symm
    subst hbb
    obtain ⟨h1, h2⟩ := reiPs_get _ ps hps
    have hlook : ∀ (j : Nat) (p : PV), ps[j]? = some p → ∃ c v, cs[o + j]? = some c ∧ reiP objs c = some p ∧ cur[o + j]? = some v ∧ v.oneCell' = true ∧ RV P S w β (dom objs) v c := fun j p hj => by
      obtain ⟨c, hc, hrc⟩ := h2 j p hj
      rw [List.getElem?_drop] at hc
      have hlt : o + j < cur.size := by rw [hl]; exact (List.getElem?_eq_some_iff.1 hc).1
      have hv : cur[o + j]? = some cur[o + j] := Array.getElem?_eq_getElem hlt
      exact ⟨c, _, hc, hrc, hv, (hcells _ c _ hc hv).1, (hcells _ c _ hc hv).2⟩
    refine .rp ⟨b', o, none⟩ ps (fun j => cur.getD (o + j) undef) (hall t b' ⟨_, boxO_inv hcs⟩ (by rw [hpt]; rfl)) (fun j hj => ?_) (fun j p hj => ?_) (fun j p hj => ?_)
    · obtain ⟨c, v, _, _, hv, _⟩ := hlook j _ (List.getElem?_eq_getElem hj)
      rw [Addr.add_lit, cell_of_row w b' _ cur ty (0, 0) hheap]
      simp [Array.getD_eq_getD_getElem?, hv]
    · obtain ⟨c, v, _, _, hv, h3, _⟩ := hlook j p hj
      simp only [Array.getD_eq_getD_getElem?, hv, Option.getD_some]; exact h3
    · obtain ⟨c, v, _, hrc, hv, _, h3⟩ := hlook j p hj
      simp only [Array.getD_eq_getD_getElem?, hv, Option.getD_some]
      exact reiP_sound hh hS h3 hrc (.inr hall)
  | rp cs =>
    simp only [rei1, Option.some.injEq] at hr
    subst hr
    obtain ⟨ad, us, rfl, h1, h2, h3, h4⟩ := h.rp_inv
    exact .rp ad cs us (hS _ h1) h2 h3 (fun j p hj => (h4 j p hj).mono hm)
  | agg cs =>
    simp only [rei1, Option.map_eq_some_iff] at hr
    obtain ⟨ps, hps, rfl⟩ := hr
    obtain ⟨us, rfl, hl, hc⟩ := h.agg_inv
    obtain ⟨h1, h2⟩ := reiPs_get _ ps hps
    refine .agg _ us (by simp [hl, h1]) fun i c v hi hv => ?_
    rw [List.getElem?_map, Option.map_eq_some_iff] at hi
    obtain ⟨p, hp', rfl⟩ := hi
    obtain ⟨c', hc', hrc⟩ := h2 i p hp'
    refine .pv _ _ (reiP_sound hh hS (hc i c' v hc' hv) hrc ?_)
    rcases hp with hp | hp
    · exact .inl (pureCs_get cs i c' hp hc')
    · exact .inr hp
  | clo f caps =>
    cases caps with
    | nil =>
      simp only [rei1, Option.some.injEq] at hr
      subst hr
      obtain ⟨us, rfl, hl, _⟩ := h.clo_inv
      exact .clo f [] us hl (fun i c u hc => by simp at hc)
    | cons c cs => simp [rei1, reiP] at hr
  | pv q => exact hgen h rfl (.inl rfl) hr
  | own t => exact hgen h rfl hp hr
  | eptr t e i o => simp [rei1, reiP] at hr
  | sub t e lo hi => exact hgen h rfl hp hr
  | tup cs => simp [rei1, reiP] at hr
  | fr e rows => simp [rei1, reiP] at hr
  | bx cs => simp [rei1, reiP] at hr
  | mf es => simp [rei1, reiP] at hr
  | cnd g v => simp [rei1, reiP] at hr
  | junk => simp [rei1, reiP] at hr

theorem rei1s_get : ∀ (cs ys : List AV), rei1s objs cs = some ys → ys.length = cs.length ∧ ∀ (i : Nat) (y : AV), ys[i]? = some y → ∃ c, cs[i]? = some c ∧ rei1 objs c = some y
  | [], ps, h => by simp [rei1s] at h; subst h; exact ⟨rfl, fun i p hp => by simp at hp⟩
  | c :: cs, ps, h => by
    simp only [rei1s, Option.bind_eq_some_iff, Option.map_eq_some_iff] at h
    obtain ⟨p, hp, qs, hqs, rfl⟩ := h
    obtain ⟨h1, h2⟩ := rei1s_get cs qs hqs
    refine ⟨by simp [h1], fun i q hq => ?_⟩
    cases i with
    | zero => simp at hq; subst hq; exact ⟨c, rfl, hp⟩
    | succ i => obtain ⟨c', h3, h4⟩ := h2 i q (by simpa using hq); exact ⟨c', by simpa using h3, h4⟩

theorem pure_clo_cell {c : AV} (h : pureC c = true) : pure1 c = true := by
  cases c <;> first | exact h | (simp [pureC] at h)

theorem rei_sound (hh : Heap P S w β objs) (hS : ∀ b, S b → S' b) {u : Value} {x y : AV} (h : RV P S w β (dom objs) u x) (hr : rei objs x = some y) (hp : pure1 x = true ∨ ∀ t b, dom objs t → blk (β t) = some b → S' b) :
    RV P S' w β' D' u y := by
  cases x with
  | clo f caps =>
    simp only [rei, Option.map_eq_some_iff] at hr
    obtain ⟨ys, hys, rfl⟩ := hr
    obtain ⟨us, rfl, hl, hc⟩ := h.clo_inv
    obtain ⟨h1, h2⟩ := rei1s_get _ ys hys
    refine .clo f ys us (by omega) fun i c v hi hv => ?_
    obtain ⟨c', hc', hrc⟩ := h2 i c hi
    refine rei1_sound hh hS (hc i c' v hc' hv) hrc ?_
    rcases hp with hp | hp
    · exact .inl (pure_clo_cell (pureCs_get caps i c' hp hc'))
    · exact .inr hp
  | _ => exact rei1_sound hh hS h hr hp

theorem reis_get : ∀ (cs ys : List AV), reis objs cs = some ys → ys.length = cs.length ∧ ∀ (i : Nat) (y : AV), ys[i]? = some y → ∃ c, cs[i]? = some c ∧ rei objs c = some y
  | [], ps, h => by simp [reis] at h; subst h; exact ⟨rfl, fun i p hp => by simp at hp⟩
  | c :: cs, ps, h => by
    simp only [reis, Option.bind_eq_some_iff, Option.map_eq_some_iff] at h
    obtain ⟨p, hp, qs, hqs, rfl⟩ := h
    obtain ⟨h1, h2⟩ := reis_get cs qs hqs
    refine ⟨by simp [h1], fun i q hq => ?_⟩
    cases i with
    | zero => simp at hq; subst hq; exact ⟨c, rfl, hp⟩
    | succ i => obtain ⟨c', h3, h4⟩ := h2 i q (by simpa using hq); exact ⟨c', by simpa using h3, h4⟩
theorem pures_get : ∀ (cs : List AV) (i : Nat) (c : AV), pures cs = true → cs[i]? = some c → pure1 c = true
  | [], i, c, _, h => by simp at h
  | x :: cs, 0, c, h, hc => by simp only [pures, Bool.and_eq_true] at h; simp at hc; subst hc; exact h.1
  | x :: cs, i + 1, c, h, hc => by simp only [pures, Bool.and_eq_true] at h; exact pures_get cs i c h.2 (by simpa using hc)
end

/-! ### The call -/

section
variable {P : Program} {S0 L : Nat → Prop} {B0 : Nat → Value} {w0 w : World} {N : Nat} {st : St} {a : Act} {β : Nat → Value}

theorem call_soundG (h : Rel P S0 L B0 w0 N st a w β) {f : FuncId} {d : Nat} (hd9 : d % 1000 ≠ 999) {vals : List Value} {xs ys : List AV} {r : AV} (hl : vals.length = xs.length)
    (hv : ∀ (i : Nat) (v : Value) (x : AV), vals[i]? = some v → xs[i]? = some x → RV P (okS S0 w0.heap.size β st.objs w) w β (dom st.objs) v x)
    (hrl : ys.length = xs.length) (hrg : ∀ (i : Nat) (y : AV), ys[i]? = some y → ∃ c, xs[i]? = some c ∧ (rei st.objs c = some y ∨ (c = .pv .nil ∧ y = .pv .nil))) (hcon : Con P f [] ys [] r) (hpf : pures xs = true ∨ flat r) (hfree : ∀ x ∈ frTags d r, st.objs x.1 = none) (hres : resOK r = true) :
    Calls P f vals.toArray w fun e w' => ∃ v β', e = .returned v ∧ Rel P S0 L B0 w0 N ⟨st.vars, addL (frTags d r) st.objs⟩ a w' β' ∧
      RV P (okS S0 w0.heap.size β' (addL (frTags d r) st.objs) w') w' β' (dom (addL (frTags d r) st.objs)) v (mapTop (tagC d) r) := by
  have htup := resOK_tup' r hres
  -- the callee's own memory
  obtain ⟨S1, hS1, hS1lt, hcase⟩ : ∃ S1 : Nat → Prop, (∀ b, okS S0 w0.heap.size β st.objs w b → S1 b) ∧ (∀ b, S1 b → b < w.heap.size) ∧
      ((pures xs = true ∧ S1 = okS S0 w0.heap.size β st.objs w) ∨ (flat r ∧ ∀ b, b < w.heap.size → S1 b)) := by
    rcases hpf with hp | hp
    · exact ⟨_, fun b hb => hb, fun b hb => hb.2.1, .inl ⟨hp, rfl⟩⟩
    · exact ⟨fun b => b < w.heap.size, fun b hb => hb.2.1, fun b hb => hb, .inr ⟨hp, fun b hb => hb⟩⟩
  have hS1eq : ∀ b, okS S1 w.heap.size β (lookO []) w b ↔ S1 b := by
    intro b
    constructor
    · rintro ⟨h1 | h1, h2, _⟩
      · exact h1
      · omega
    · intro hb
      exact ⟨.inl hb, hS1lt b hb, fun ⟨t, o, ho, _⟩ => by simp [lookO] at ho⟩
  refine (hcon w S1 β vals hS1lt (fun t b ⟨o, ho⟩ => by simp [lookO] at ho) ⟨fun t o ho => by simp [lookO] at ho, fun t t' b ⟨o, ho⟩ => by simp [lookO] at ho⟩ (by omega) (fun i v y hvi hyi => ?_)).mono ?_
  · obtain ⟨x, hx, hrx⟩ := hrg i y hyi
    rcases hrx with hrx | ⟨rfl, rfl⟩
    rotate_left
    · rw [(hv i v _ hvi hx).pv_inv.nil_inv]; exact .pv _ _ .nil
    refine rei_sound h.heap (fun b hb => (hS1eq b).2 (hS1 b hb)) (hv i v x hvi hx) hrx ?_
    rcases hcase with ⟨hp, _⟩ | ⟨_, hall⟩
    · exact .inl (pures_get xs i x hp hx)
    · exact .inr fun t b ht hb => (hS1eq b).2 (hall b (h.lt ht hb))
  · rintro e w' ⟨v, β1, rfl, hfr, hheap, hnew, hrv⟩
    have hnolive : ∀ b, ¬ live β (lookO []) b := fun b ⟨t, o, ho, _⟩ => by simp [lookO] at ho
    have hobj1 : (unionO (lookO []) fun t => frO (cellAt r t)) = fun t => frO (cellAt r t) := by funext t; simp [unionO, lookO]
    rw [hobj1] at hheap hnew hrv
    let β2 : Nat → Value := fun t => match lookO (frTags d r) t with | some _ => β1 ((t - d) / 1000) | none => β t
    have hβnew : ∀ p o, frO (cellAt r p) = some o → β2 (d + 1000 * p) = β1 p := fun p o hp => by
      simp only [β2, frTags_look d r htup, hp]
      congr 1
      omega
    have hβold : ∀ t, dom st.objs t → β2 t = β t := fun t ⟨o, ho⟩ => by
      cases hlk : lookO (frTags d r) t with
      | none => simp only [β2, hlk]
      | some o' =>
        obtain ⟨x, hx, rfl⟩ := lookO_mem _ _ _ hlk
        rw [hfree x hx] at ho; cases ho
    have hlook2 : ∀ t, addL (frTags d r) st.objs t = match lookO (frTags d r) t with | some o => some o | none => st.objs t := fun t => rfl
    have hdomNew : ∀ p o, frO (cellAt r p) = some o → addL (frTags d r) st.objs (d + 1000 * p) = some o := fun p o hp => by
      rw [hlook2, frTags_look d r htup, hp]
    have hdomOld : ∀ t o, st.objs t = some o → addL (frTags d r) st.objs t = some o := fun t o ho => by
      rw [hlook2]
      cases hlk : lookO (frTags d r) t with
      | none => exact ho
      | some o' =>
        obtain ⟨x, hx, rfl⟩ := lookO_mem _ _ _ hlk
        rw [hfree x hx] at ho; cases ho
    have hcases : ∀ t o, addL (frTags d r) st.objs t = some o → (∃ p, t = d + 1000 * p ∧ frO (cellAt r p) = some o) ∨ (st.objs t = some o ∧ lookO (frTags d r) t = none) := fun t o ho => by
      rw [hlook2] at ho
      cases hlk : lookO (frTags d r) t with
      | none => rw [hlk] at ho; exact .inr ⟨ho, rfl⟩
      | some o' =>
        rw [hlk] at ho
        injection ho with ho
        subst ho
        obtain ⟨p, rfl⟩ := frTags_inv d r t hlk
        rw [frTags_look d r htup] at hlk
        exact .inl ⟨p, rfl, hlk⟩
    have hnew' : ∀ p o b, frO (cellAt r p) = some o → blk (β1 p) = some b → w.heap.size ≤ b := fun p o b hp hb => by
      rcases hnew p b ⟨o, hp⟩ hb with h1 | h1
      · exact h1
      · exact absurd h1 (hnolive b)
    have hsame : ∀ b, b < w.heap.size → w'.heap[b]? = w.heap[b]? := fun b hb => hfr.block b hb (hnolive b)
    have holdblk : ∀ t o b, st.objs t = some o → blk (β t) = some b → b < w.heap.size := fun t o b ho hb => h.lt ⟨o, ho⟩ hb
    have hlive2 : ∀ b, live β2 (addL (frTags d r) st.objs) b → (live β st.objs b ∧ b < w.heap.size) ∨ (live β1 (fun t => frO (cellAt r t)) b ∧ w.heap.size ≤ b) := by
      rintro b ⟨t, o, ho, hb⟩
      rcases hcases t o ho with ⟨p, rfl, hp⟩ | ⟨ho', _⟩
      · rw [hβnew p o hp] at hb
        exact .inr ⟨⟨p, o, hp, hb⟩, hnew' p o b hp hb⟩
      · rw [hβold t ⟨o, ho'⟩] at hb
        exact .inl ⟨⟨t, o, ho', hb⟩, holdblk t o b ho' hb⟩
    have hm : ∀ b, okS S0 w0.heap.size β st.objs w b → okS S0 w0.heap.size β2 (addL (frTags d r) st.objs) w' b ∧ w'.heap[b]? = w.heap[b]? := by
      rintro b ⟨h1, h2, h3⟩
      refine ⟨⟨h1, Nat.lt_of_lt_of_le h2 hfr.size, fun hl => ?_⟩, hsame b h2⟩
      rcases hlive2 b hl with ⟨hx, _⟩ | ⟨_, hx⟩
      · exact h3 hx
      · omega
    have hD : ∀ t, dom st.objs t → dom (addL (frTags d r) st.objs) t ∧ β2 t = β t := fun t ht => by
      obtain ⟨o, ho⟩ := ht
      exact ⟨⟨o, hdomOld t o ho⟩, hβold t ⟨o, ho⟩⟩
    -- what is read of the callee's memory is read here
    have hcalS : pures xs = true → S1 = okS S0 w0.heap.size β st.objs w → ∀ b, okS S1 w.heap.size β1 (fun t => frO (cellAt r t)) w' b → okS S0 w0.heap.size β2 (addL (frTags d r) st.objs) w' b ∧ w'.heap[b]? = w'.heap[b]? := by
      rintro _ hSe b ⟨h1, h2, h3⟩
      refine ⟨⟨?_, h2, fun hl => ?_⟩, rfl⟩
      · rcases h1 with h1 | h1
        · rw [hSe] at h1; exact h1.1
        · have := h.fram.size; exact .inr (by omega)
      · rcases hlive2 b hl with ⟨hx, hy⟩ | ⟨hx, _⟩
        · rcases h1 with h1 | h1
          · rw [hSe] at h1; exact h1.2.2 hx
          · omega
        · exact h3 hx
    have hrel : Rel P S0 L B0 w0 N ⟨st.vars, addL (frTags d r) st.objs⟩ a w' β2 := by
      refine ⟨h.size, h.defers, fun s => (h.vars s).mono hm hD, ⟨fun t o ho => ?_, fun t t' b ht ht' hb hb' => ?_⟩, fun t b ht hb => ?_, h.lim, fun t h9 ht => ?_, ?_⟩
      · rcases hcases t o ho with ⟨p, rfl, hp⟩ | ⟨ho', _⟩
        · have hho := hheap.holds p o hp
          cases o with
          | box cs =>
            exfalso
            unfold frO at hp
            split at hp
            · cases hp
            · cases hp
          | map es =>
            exfalso
            unfold frO at hp
            split at hp
            · cases hp
            · cases hp
          | rws e cs =>
            exfalso
            unfold frO at hp
            split at hp
            · cases hp
            · cases hp
          | mpv es =>
            exfalso
            unfold frO at hp
            split at hp
            · cases hp
            · cases hp
          | itr rem cur =>
            exfalso
            unfold frO at hp
            split at hp
            · cases hp
            · cases hp
          | arr e rows =>
            obtain ⟨inf, us, hi, hown, hrl', hcs⟩ := hho
            refine ⟨inf, us, hi, by rw [hβnew p _ hp]; exact hown, hrl', fun i j row q h1 h2 => ?_⟩
            obtain ⟨u, hu, h3, h4⟩ := hcs i j row q h1 h2
            refine ⟨u, hu, h3, ?_⟩
            rcases hcase with ⟨hpu, hSe⟩ | ⟨hfl, _⟩
            · exact h4.mono (hcalS hpu hSe)
            · refine flatP_sound h4 ?_
              have hcell : ∃ e' , cellAt r p = some (.fr e' rows) := by
                unfold frO at hp
                split at hp
                · rename_i e' rows' heq
                  injection hp with hp
                  injection hp with hp1 hp2
                  subst hp2
                  exact ⟨e', heq⟩
                · cases hp
              obtain ⟨e', hce⟩ := hcell
              have hfc : flatRows rows := flat_cell r p _ hfl hce
              exact hfc row (List.mem_of_getElem? h1) q (List.mem_of_getElem? h2)
        · exact (h.heap.holds t o ho').mono hm hD (hβold t ⟨o, ho'⟩) (fun b hb => hsame b (holdblk t o b ho' hb))
      · obtain ⟨o, ho⟩ := ht
        obtain ⟨o', ho'⟩ := ht'
        rcases hcases t o ho with ⟨p, rfl, hp⟩ | ⟨h1, _⟩ <;> rcases hcases t' o' ho' with ⟨p', rfl, hp'⟩ | ⟨h2, _⟩
        · rw [hβnew p o hp] at hb
          rw [hβnew p' o' hp'] at hb'
          rw [hheap.inj p p' b ⟨o, hp⟩ ⟨o', hp'⟩ hb hb']
        · rw [hβnew p o hp] at hb
          rw [hβold t' ⟨o', h2⟩] at hb'
          have := hnew' p o b hp hb
          have := holdblk t' o' b h2 hb'
          omega
        · rw [hβold t ⟨o, h1⟩] at hb
          rw [hβnew p' o' hp'] at hb'
          have := hnew' p' o' b hp' hb'
          have := holdblk t o b h1 hb
          omega
        · rw [hβold t ⟨o, h1⟩] at hb
          rw [hβold t' ⟨o', h2⟩] at hb'
          exact h.heap.inj t t' b ⟨o, h1⟩ ⟨o', h2⟩ hb hb'
      · obtain ⟨o, ho⟩ := ht
        rcases hcases t o ho with ⟨p, rfl, hp⟩ | ⟨h1, _⟩
        · rw [hβnew p o hp] at hb
          have := hnew' p o b hp hb
          have := h.fram.size
          exact .inl (by omega)
        · rw [hβold t ⟨o, h1⟩] at hb
          exact h.old t b ⟨o, h1⟩ hb
      · obtain ⟨o, ho⟩ := ht
        rcases hcases t o ho with ⟨p, rfl, hp⟩ | ⟨h1, _⟩
        · omega
        · rw [hβold t ⟨o, h1⟩]; exact h.pin t h9 ⟨o, h1⟩
      · exact ⟨hfr.os.trans h.fram.os, hfr.tape.trans h.fram.tape, hfr.output.trans h.fram.output, Nat.le_trans h.fram.size hfr.size, fun b h1 h2 => (hsame b (by have := h.fram.size; omega)).trans (h.fram.block b h1 h2)⟩
    refine ⟨v, β2, rfl, hrel, ?_⟩
    refine mapTop_sound htup (fun p c u hc hu => ?_) hrv
    have hrc := res_cell r p c hres hc
    cases c with
    | fr e rows =>
      have hp : frO (cellAt r p) = some (.arr e rows) := by rw [hc]; rfl
      obtain ⟨hu1, hu2⟩ := RV.own_inv (show RV P _ w' β1 _ u (.own p) from hu)
      rw [hu1, ← hβnew p _ hp]
      exact .own (d + 1000 * p) ⟨_, hdomNew p _ hp⟩
    | pv q =>
      refine .pv _ _ ?_
      rcases hcase with ⟨hp, hSe⟩ | ⟨hfl, _⟩
      · exact hu.pv_inv.mono (hcalS hp hSe)
      · exact flatP_sound hu.pv_inv (flat_cell r p _ hfl hc)
    | rp cs =>
      rcases hcase with ⟨hp, hSe⟩ | ⟨hfl, _⟩
      · obtain ⟨ad, us, rfl, h1, h2, h3, h4⟩ := (show RV P _ w' β1 _ u (.rp cs) from hu).rp_inv
        exact .rp ad cs us (hcalS hp hSe _ h1).1 h2 h3 (fun j q hq => (h4 j q hq).mono (hcalS hp hSe))
      · exact (flat_cell r p _ hfl hc).elim
    | _ => simp [resC] at hrc
theorem call_sound (h : Rel P S0 L B0 w0 N st a w β) {f : FuncId} {d : Nat} (hd9 : d % 1000 ≠ 999) {vals : List Value} {xs ys : List AV} {r : AV} (hl : vals.length = xs.length)
    (hv : ∀ (i : Nat) (v : Value) (x : AV), vals[i]? = some v → xs[i]? = some x → RV P (okS S0 w0.heap.size β st.objs w) w β (dom st.objs) v x)
    (hre : reis st.objs xs = some ys) (hcon : Con P f [] ys [] r) (hpf : pures xs = true ∨ flat r) (hfree : ∀ x ∈ frTags d r, st.objs x.1 = none) (hres : resOK r = true) :
    Calls P f vals.toArray w fun e w' => ∃ v β', e = .returned v ∧ Rel P S0 L B0 w0 N ⟨st.vars, addL (frTags d r) st.objs⟩ a w' β' ∧
      RV P (okS S0 w0.heap.size β' (addL (frTags d r) st.objs) w') w' β' (dom (addL (frTags d r) st.objs)) v (mapTop (tagC d) r) := by
  obtain ⟨hrl, hrg⟩ := reis_get _ ys hre
  exact call_soundG h hd9 hl hv hrl (fun i y hy => by obtain ⟨c, h1, h2⟩ := hrg i y hy; exact ⟨c, h1, .inl h2⟩) hcon hpf hfree hres
end

end Go.Proofs.Ythblkhafehanfaa.Ab
