/- The abstract machine is sound, second part: append. -/
import Derived.Test.YthblkhafehanfaaAb5
import Derived.Deep.AppendSrc
import Derived.Deep.Upon
namespace Go.Proofs.Ythblkhafehanfaa.Ab
open Go Go.RowKit
set_option linter.unusedVariables false
set_option linter.unusedSimpArgs false

section
variable {P : Program} (w : World)

/-- 'append' to a slice of the call's own, of whatever is appended. -/
theorem run_app (t tx ty e : TypeId) (i : TypeInfo) (z : Value) (ht : P.underlying t = some (.slice e)) (hi : P.info? e = some i) (hz : i.zero = some z) (hzs : z.cells.size = i.size) (hsz : 0 < i.size)
    (v : Value) (n : Nat) (xs : List Value) (hown : w.ownsRow 0 e i.size v n xs) (x : Value) (m : Nat) (news : List Value) (hs : Src P i.size tx x m news w)
    (h63 : n + m ≤ maxLen) (hbytes : (n + m) * i.bytes ≤ 140737488355328) :
    ∃ v' w', (Builtin.append_ #[t, tx] ty #[v, x]).run P w = .ok v' w' ∧ w'.ownsRow 0 e i.size v' (n + m) (xs ++ news) ∧ w.grownBy w' v.ownBlock ∧
      (v'.ownBlock = v.ownBlock ∨ v'.ownBlock = some w.heap.size) ∧ w'.ownsRow 0 e i.size v n xs := by
  have hl := hs.newsLen
  have hlen : (xs ++ news).length = (n + m) * i.size := by rw [List.length_append, hown.1, hl, Nat.add_mul]
  have grown : ∀ (old : Nat), old < n + m → ∀ (row : Option Nat),
      (w.drew.alloc (.cells ((xs ++ news).toArray ++ Builtin.zeroCells z.cells (grownCap w (n + m) old e - (n + m))) e)).ownsRow 0 e i.size
        (.slice (some ⟨w.heap.size, 0, none⟩) (n + m) (grownCap w (n + m) old e)) (n + m) (xs ++ news) ∧
      w.grownBy (w.drew.alloc (.cells ((xs ++ news).toArray ++ Builtin.zeroCells z.cells (grownCap w (n + m) old e - (n + m))) e)) row := by
    intro old ho row
    have hge := grownCap_ge w (n + m) old e
    have hcm : grownCap w (n + m) old e ≤ maxLen := grownCap_le_maxLen w (n + m) old e h63
    refine ⟨⟨hlen, .inr ⟨w.heap.size, _, _, rfl, Nat.zero_le _, heap_alloc_new w.drew _, hge, hcm, ?_, ?_⟩⟩, ⟨rfl, rfl, rfl, by simp, fun k hk _ => Below.heap_alloc w.drew _ k hk⟩⟩
    · simp only [Array.size_append, List.size_toArray, size_zeroCells, hzs, hlen, ← Nat.add_mul]
      congr 1
      omega
    · simp only [Array.toList_append]
      rw [← hlen]
      exact List.take_left
  have hsmall : ((n + m : Nat) : Int) ≤ 9223372036854775807 := by simp only [maxLen] at h63; omega
  rcases hown.2 with ⟨rfl, rfl⟩ | ⟨g, cap, cur, rfl, hbg, hg, hnc, hcm, hcs, htake⟩
  · have hx : xs = [] := List.eq_nil_of_length_eq_zero (by simpa using hown.1)
    subst hx
    by_cases hm : m = 0
    · subst hm
      have hn : news = [] := List.eq_nil_of_length_eq_zero (by simpa using hl)
      subst hn
      exact ⟨.slice none 0 0, w, run_append_nothing w t tx ty e i ht hi none 0 0 (Nat.le_refl _) x hs, World.ownsRow_nil w 0 e i.size, ⟨rfl, rfl, rfl, Nat.le_refl _, fun _ _ _ => rfl⟩, Or.inl rfl, hown⟩
    · have hr := run_append_grow_src (P := P) w t tx ty e i z ht hi hz none 0 0 [] (by simp [Builtin.firstCells]) x m news hs (by omega) hsmall (growslice_fits (by omega) hbytes)
      have hgr := grown 0 (by omega) (Value.ownBlock (.slice none 0 0))
      exact ⟨_, _, hr, hgr.1, hgr.2, Or.inr rfl, by simp, .inl ⟨rfl, rfl⟩⟩
  · by_cases hroom : n + m ≤ cap
    · have hfit : n * i.size + news.length ≤ cur.size := by rw [hl, hcs, ← Nat.add_mul]; exact Nat.mul_le_mul_right _ hroom
      have hst := run_storeCells_at P g (n * i.size) e news 0 cur w hg (by simpa using hfit) hs.one
      simp only [Nat.add_zero] at hst
      have hr : (Builtin.append_ #[t, tx] ty #[.slice (some ⟨g, 0, none⟩) n cap, x]).run P w =
          .ok (.slice (some ⟨g, 0, none⟩) (n + m) cap) (w.setRow g (cur.toList.take (n * i.size) ++ news ++ cur.toList.drop (n * i.size + news.length)).toArray) := by
        rcases hs.kind with ⟨e', hk⟩ | hk <;> simp [Builtin.append_, run_underlying ht, run_underlying hk, sizeOf, typeInfo, hi, hs.len, hroom, hs.cells, Addr.add_lit, hst]
      refine ⟨_, _, hr, ⟨hlen, .inr ⟨g, cap, _, rfl, Nat.zero_le _, setRow_heap w g cur _ e _ hg, hroom, hcm, ?_, ?_⟩⟩, ⟨rfl, rfl, rfl, by simp, fun k _ hk => setRow_other w g k _ (fun e => hk (by simp [Value.ownBlock, e]))⟩, Or.inl rfl, ?_⟩
      · simp only [List.size_toArray, List.length_append, List.length_take, List.length_drop, Array.length_toList]
        omega
      · rw [htake, ← hlen]
        exact List.take_left
      · refine ⟨hown.1, .inr ⟨g, cap, _, rfl, Nat.zero_le _, setRow_heap w g cur _ e _ hg, hnc, hcm, ?_, ?_⟩⟩
        · simp only [List.size_toArray, List.length_append, List.length_take, List.length_drop, Array.length_toList]
          omega
        · rw [htake, ← hown.1]
          simp only [List.append_assoc]
          exact List.take_left
    · have holds : ∀ j u, xs[j]? = some u → w.cell? ((⟨g, 0, none⟩ : Addr).add j) = some u := hown.cells (g := g) rfl
      have hold : (Builtin.firstCells i.size n (.slice (some ⟨g, 0, none⟩) n cap)).run P w.drew = .ok xs.toArray w.drew :=
        run_firstCells_some w.drew i.size n ⟨g, 0, none⟩ n cap xs hown.1 (by simpa using holds)
      have hr := run_append_grow_src (P := P) w t tx ty e i z ht hi hz (some ⟨g, 0, none⟩) n cap xs hold x m news hs (by omega) hsmall (growslice_fits (by omega) hbytes)
      have hgr := grown cap (by omega) (Value.ownBlock (.slice (some ⟨g, 0, none⟩) n cap))
      have hgn := (grown cap (by omega) none).2
      exact ⟨_, _, hr, hgr.1, hgr.2, Or.inr rfl, hown.1, .inr ⟨g, cap, cur, rfl, hbg, (hgn.block g (Array.getElem?_eq_some_iff.1 hg).1 (by simp)).trans hg, hnc, hcm, hcs, htake⟩⟩
end

theorem killCs_get (t : Nat) : ∀ (cs : List AV) (i : Nat), (killCs t cs)[i]? = (cs[i]?).map (killC t)
  | [], i => by simp [killCs]
  | c :: cs, 0 => by simp [killCs]
  | c :: cs, i + 1 => by simp [killCs, killCs_get t cs i]
theorem killCs_length (t : Nat) : ∀ cs : List AV, (killCs t cs).length = cs.length
  | [] => rfl
  | c :: cs => by simp [killCs, killCs_length t cs]

section
variable {P : Program} {S S' : Nat → Prop} {w w' : World} {β β' : Nat → Value} {D D' : Nat → Prop} {t : Nat}

theorem RV.killC {v : Value} {x : AV} (h : RV P S w β D v x) (hp : ∀ b, β t ≠ .pointer (some ⟨b, 0, none⟩)) (hS : ∀ b, S b → S' b ∧ w'.heap[b]? = w.heap[b]?)
    (hD : ∀ s, D s → s ≠ t → D' s ∧ β' s = β s) : RV P S' w' β' D' v (killC t x) := by
  cases h with
  | pv v p h => exact .pv _ _ (h.mono hS)
  | own s h =>
    simp only [Ab.killC]
    split
    · exact .junk _
    · rename_i hne
      rw [← (hD s h hne).2]; exact .own s (hD s h hne).1
  | ptr s o b h hb =>
    have hne : s ≠ t := fun e => hp b (by rw [← e]; exact hb)
    exact .ptr s o b (hD s h hne).1 ((hD s h hne).2.trans hb)
  | eptr s e i o b n c inf h hi hb =>
    simp only [Ab.killC]
    split
    · exact .junk _
    · rename_i hne
      exact .eptr s e i o b n c inf (hD s h hne).1 hi ((hD s h hne).2.trans hb)
  | sub v s e lo hi inf A A1 n c h hi' hb h1 h2 h3 h4 h5 hv =>
    simp only [Ab.killC]
    split
    · exact .junk _
    · rename_i hne
      exact .sub v s e lo hi inf A A1 n c (hD s h hne).1 hi' ((hD s h hne).2.trans hb) h1 h2 h3 h4 h5 hv
  | rp ad cs us h1 h2 h3 h4 => exact .rp ad cs us (hS _ h1).1 (fun j hj => (cell_same (hS _ h1).2 _).trans (h2 j hj)) h3 (fun j p hp => (h4 j p hp).mono hS)
  | agg cs us hl h => exact .junk _
  | tup cs us hl h => exact .junk _
  | clo f cs us hl h =>
    cases cs with
    | nil =>
      refine .clo f [] us hl ?_
      intro i c u hc
      simp at hc
    | cons c cs => exact .junk _
  | cnd g v av h => exact .junk _
  | junk v => exact .junk _

theorem RV.kill {v : Value} {x : AV} (h : RV P S w β D v x) (hp : ∀ b, β t ≠ .pointer (some ⟨b, 0, none⟩)) (hS : ∀ b, S b → S' b ∧ w'.heap[b]? = w.heap[b]?)
    (hD : ∀ s, D s → s ≠ t → D' s ∧ β' s = β s) : RV P S' w' β' D' v (kill t x) := by
  induction h with
  | agg cs us hl h _ =>
    refine .agg _ us (by rw [killCs_length]; exact hl) fun i c u hc hu => ?_
    rw [killCs_get] at hc
    obtain ⟨c', hc', rfl⟩ := Option.map_eq_some_iff.1 hc
    exact (h i c' u hc' hu).killC hp hS hD
  | tup cs us hl h _ =>
    refine .tup _ us (by rw [killCs_length]; exact hl) fun i c u hc hu => ?_
    rw [killCs_get] at hc
    obtain ⟨c', hc', rfl⟩ := Option.map_eq_some_iff.1 hc
    exact (h i c' u hc' hu).killC hp hS hD
  | pv v p h => exact RV.killC (x := .pv p) (.pv v p h) hp hS hD
  | own s h => exact RV.killC (x := .own s) (.own s h) hp hS hD
  | ptr s o b h hb => exact RV.killC (x := .ptr s o) (.ptr s o b h hb) hp hS hD
  | eptr s e i o b n c inf h hi hb => exact RV.killC (x := .eptr s e i o) (.eptr s e i o b n c inf h hi hb) hp hS hD
  | sub v s e lo hi inf A A1 n c h hi' hb h1 h2 h3 h4 h5 hv => exact RV.killC (x := .sub s e lo hi) (.sub v s e lo hi inf A A1 n c h hi' hb h1 h2 h3 h4 h5 hv) hp hS hD
  | rp ad cs us h1 h2 h3 h4 => exact RV.killC (x := .rp cs) (.rp ad cs us h1 h2 h3 h4) hp hS hD
  | clo f cs us hl h _ => exact RV.killC (x := .clo f cs) (.clo f cs us hl h) hp hS hD
  | cnd g v av h hu ih => exact .cnd g v _ (fun hg => ih hg) hu
  | junk v => exact .junk _

theorem HoldsO.kill {s : Nat} {o : AO} (h : HoldsO P S w β D s o) (hp : ∀ b, β t ≠ .pointer (some ⟨b, 0, none⟩)) (hS : ∀ b, S b → S' b ∧ w'.heap[b]? = w.heap[b]?)
    (hD : ∀ s, D s → s ≠ t → D' s ∧ β' s = β s) (ht : β' s = β s) (hb : ∀ b, blk (β s) = some b → w'.heap[b]? = w.heap[b]?) : HoldsO P S' w' β' D' s (killO t o) := by
  cases o with
  | box cs =>
    obtain ⟨b, us, ty, hpt, hh, hl, hc⟩ := h
    refine ⟨b, us, ty, ht.trans hpt, (hb b (by rw [hpt]; rfl)).trans hh, by rw [killCs_length]; exact hl, fun i c u h1 h2 => ?_⟩
    rw [killCs_get] at h1
    obtain ⟨c', hc', rfl⟩ := Option.map_eq_some_iff.1 h1
    exact ⟨(hc i c' u hc' h2).1, (hc i c' u hc' h2).2.killC hp hS hD⟩
  | arr e rows =>
    obtain ⟨inf, us, hi, hown, hr, hc⟩ := h
    refine ⟨inf, us, hi, ?_, hr, fun i j r p h1 h2 => ?_⟩
    · rw [ht]
      refine ⟨hown.1, ?_⟩
      rcases hown.2 with h0 | ⟨g, cap, cur, hv, h1, h2, h3, h4, h5, h6⟩
      · exact .inl h0
      · exact .inr ⟨g, cap, cur, hv, h1, (hb g (by rw [hv]; rfl)).trans h2, h3, h4, h5, h6⟩
    · obtain ⟨u, h3, h4, h5⟩ := hc i j r p h1 h2
      exact ⟨u, h3, h4, h5.mono hS⟩
  | map es =>
    obtain ⟨b, us, c, hp', hh, hl, hc⟩ := h
    exact ⟨b, us, c, ht.trans hp', (hb b (by rw [hp']; rfl)).trans hh, hl, fun i e u h1 h2 => ⟨(hc i e u h1 h2).1, (hc i e u h1 h2).2.mono hS fun _ hf => hf.elim⟩⟩
  | mpv es => exact HoldsO.mono (D := fun _ => False) (show HoldsO P S w β (fun _ => False) s (.mpv es) from h) hS (fun _ hf => hf.elim) ht hb
  | itr rem cur => exact HoldsO.mono (D := fun _ => False) (show HoldsO P S w β (fun _ => False) s (.itr rem cur) from h) hS (fun _ hf => hf.elim) ht hb
  | rws e cs =>
    obtain ⟨inf, us, hi, h1s, hown, hc⟩ := h
    refine ⟨inf, us, hi, h1s, ?_, fun i c u h1 h2 => ?_⟩
    · rw [ht, killCs_length]
      refine ⟨hown.1, ?_⟩
      rcases hown.2 with h0 | ⟨g, cap, cur, hv, h1, h2, h3, h4, h5, h6⟩
      · exact .inl h0
      · exact .inr ⟨g, cap, cur, hv, h1, (hb g (by rw [hv]; rfl)).trans h2, h3, h4, h5, h6⟩
    · rw [killCs_get] at h1
      obtain ⟨c', hc', rfl⟩ := Option.map_eq_some_iff.1 h1
      exact ⟨(hc i c' u hc' h2).1, (hc i c' u hc' h2).2.killC hp hS hD⟩
end

theorem own_blk {w : World} {b : Nat} {e : TypeId} {sz n : Nat} {v : Value} {us : List Value} (h : w.ownsRow b e sz v n us) : blk v = v.ownBlock ∧ ∀ b', v ≠ .pointer (some ⟨b', 0, none⟩) := by
  rcases h.2 with ⟨rfl, _⟩ | ⟨g, cap, cur, rfl, _⟩
  · exact ⟨rfl, fun _ e => by cases e⟩
  · exact ⟨rfl, fun _ e => by cases e⟩

theorem dom_killM {t s : Nat} {objs : Nat → Option AO} : dom (killM t objs) s ↔ dom objs s := by
  unfold dom killM
  constructor
  · rintro ⟨o, ho⟩
    obtain ⟨o', h, _⟩ := Option.map_eq_some_iff.1 ho
    exact ⟨o', h⟩
  · rintro ⟨o, ho⟩
    exact ⟨killO t o, by rw [ho]; rfl⟩

section
variable {P : Program} {S0 L : Nat → Prop} {B0 : Nat → Value} {w0 w w' : World} {N : Nat} {st : St} {a : Act} {β : Nat → Value}

/-- A slice of the call's own has been appended to. -/
theorem Rel.app (h : Rel P S0 L B0 w0 N st a w β) {t : Nat} {e : TypeId} {rows more : List (List PV)} (ht9 : t % 1000 ≠ 999) (ht : st.objs t = some (.arr e rows)) {inf : TypeInfo} {us news : List Value}
    (hi : P.info? e = some inf) (hown : w.ownsRow 0 e inf.size (β t) rows.length us) (hrows : ∀ r, r ∈ rows → r.length = inf.size)
    (hcs : ∀ (i j : Nat) (r : List PV) (p : PV), rows[i]? = some r → r[j]? = some p → ∃ u, us[i * inf.size + j]? = some u ∧ u.oneCell' = true ∧ RPV (okS S0 w0.heap.size β st.objs w) w u p)
    (hmore : ∀ r, r ∈ more → r.length = inf.size)
    (hms : ∀ (i j : Nat) (r : List PV) (p : PV), more[i]? = some r → r[j]? = some p → ∃ u, news[i * inf.size + j]? = some u ∧ u.oneCell' = true ∧ RPV (okS S0 w0.heap.size β st.objs w) w u p)
    {v' : Value} (hown' : w'.ownsRow 0 e inf.size v' (rows.length + more.length) (us ++ news)) (hg : w.grownBy w' (β t).ownBlock) (hb : v'.ownBlock = (β t).ownBlock ∨ v'.ownBlock = some w.heap.size) :
    Rel P S0 L B0 w0 N ⟨killV t st.vars, addO t (.arr e (rows ++ more)) (killM t st.objs)⟩ a w' (setβ β t v') := by
  have hdt : dom st.objs t := ⟨_, ht⟩
  have hbt := (own_blk hown).1
  have hbt' := (own_blk hown').1
  have hp := (own_blk hown).2
  have hdom : ∀ s, dom (addO t (.arr e (rows ++ more)) (killM t st.objs)) s → dom st.objs s := fun s hs => by
    rcases dom_add.1 hs with e | e
    · rw [e]; exact hdt
    · exact dom_killM.1 e
  have hv'lt : ∀ b, blk v' = some b → b < w'.heap.size := fun b hb' => (hown'.lt b (by rw [← hbt']; exact hb')).2
  have hm : ∀ b, okS S0 w0.heap.size β st.objs w b → okS S0 w0.heap.size (setβ β t v') (addO t (.arr e (rows ++ more)) (killM t st.objs)) w' b ∧ w'.heap[b]? = w.heap[b]? := by
    intro b ⟨h1, h2, h3⟩
    have hbne : some b ≠ (β t).ownBlock := fun e' => h3 ⟨t, _, ht, by rw [hbt, ← e']⟩
    refine ⟨⟨h1, Nat.lt_of_lt_of_le h2 hg.size, ?_⟩, hg.block b h2 hbne⟩
    rintro ⟨s, o, hs, hbs⟩
    by_cases e' : s = t
    · subst e'
      rw [setβ_same, hbt'] at hbs
      rcases hb with hb | hb
      · exact hbne (by rw [← hb, hbs])
      · rw [hb] at hbs; injection hbs with hbs; omega
    · rw [setβ_ne _ _ e'] at hbs
      have hs' : killM t st.objs s = some o := by simpa [addO, e'] using hs
      obtain ⟨o', ho'⟩ := dom_killM.1 ⟨o, hs'⟩
      exact h3 ⟨s, _, ho', hbs⟩
  have hD : ∀ s, dom st.objs s → s ≠ t → dom (addO t (.arr e (rows ++ more)) (killM t st.objs)) s ∧ setβ β t v' s = β s := fun s hs hne => ⟨dom_add.2 (.inr (dom_killM.2 hs)), setβ_ne _ _ hne⟩
  have hblkne : ∀ s, dom st.objs s → s ≠ t → ∀ b, blk (β s) = some b → w'.heap[b]? = w.heap[b]? := fun s hs hne b hbs =>
    hg.block b (h.lt hs hbs) fun e' => hne (h.heap.inj s t b hs hdt hbs (by rw [hbt, ← e']))
  refine ⟨h.size, h.defers, fun s => (h.vars s).kill hp hm hD, ⟨fun s o hs => ?_, fun s s' b hs hs' hbs hbs' => ?_⟩, fun s b hs hbs => ?_, h.lim, fun s h9 hs => ?_, ?_⟩
  · by_cases e' : s = t
    · subst e'
      have : o = .arr e (rows ++ more) := by simpa [addO] using hs.symm
      subst this
      refine ⟨inf, us ++ news, hi, ?_, fun r hr => ?_, fun i j r p h1 h2 => ?_⟩
      · rw [setβ_same, List.length_append]; exact hown'
      · rcases List.mem_append.1 hr with hr | hr
        · exact hrows r hr
        · exact hmore r hr
      · by_cases hlt : i < rows.length
        · rw [List.getElem?_append_left hlt] at h1
          obtain ⟨u, hu, h1', hr⟩ := hcs i j r p h1 h2
          have hul : i * inf.size + j < us.length := (List.getElem?_eq_some_iff.1 hu).1
          exact ⟨u, by rw [List.getElem?_append_left hul]; exact hu, h1', hr.mono hm⟩
        · rw [List.getElem?_append_right (by omega)] at h1
          obtain ⟨u, hu, h1', hr⟩ := hms (i - rows.length) j r p h1 h2
          have he : i * inf.size + j - us.length = (i - rows.length) * inf.size + j := by
            rw [hown.1, Nat.sub_mul]
            have := Nat.mul_le_mul_right inf.size (show rows.length ≤ i by omega)
            omega
          have hle : us.length ≤ i * inf.size + j := by
            rw [hown.1]
            have := Nat.mul_le_mul_right inf.size (show rows.length ≤ i by omega)
            omega
          exact ⟨u, by rw [List.getElem?_append_right hle, he]; exact hu, h1', hr.mono hm⟩
    · have hs' : killM t st.objs s = some o := by simpa [addO, e'] using hs
      obtain ⟨o', ho', rfl⟩ := Option.map_eq_some_iff.1 hs'
      exact (h.heap.holds s o' ho').kill hp hm hD (setβ_ne _ _ e') (hblkne s ⟨_, ho'⟩ e')
  · have hs1 := hdom s hs
    have hs2 := hdom s' hs'
    by_cases e1 : s = t <;> by_cases e2 : s' = t
    · rw [e1, e2]
    · subst e1
      rw [setβ_same, hbt'] at hbs
      rw [setβ_ne _ _ e2] at hbs'
      rcases hb with hb | hb
      · exact h.heap.inj s s' b hs1 hs2 (by rw [hbt, ← hb, hbs]) hbs'
      · have := h.lt hs2 hbs'
        rw [hb] at hbs; injection hbs with hbs; omega
    · subst e2
      rw [setβ_same, hbt'] at hbs'
      rw [setβ_ne _ _ e1] at hbs
      rcases hb with hb | hb
      · exact h.heap.inj s s' b hs1 hs2 hbs (by rw [hbt, ← hb, hbs'])
      · have := h.lt hs1 hbs
        rw [hb] at hbs'; injection hbs' with hbs'; omega
    · rw [setβ_ne _ _ e1] at hbs
      rw [setβ_ne _ _ e2] at hbs'
      exact h.heap.inj s s' b hs1 hs2 hbs hbs'
  · have hs1 := hdom s hs
    by_cases e1 : s = t
    · subst e1
      rw [setβ_same, hbt'] at hbs
      rcases hb with hb | hb
      · exact h.old s b hs1 (by rw [hbt, ← hb, hbs])
      · rw [hb] at hbs; injection hbs with hbs
        have := h.fram.size
        exact .inl (by omega)
    · rw [setβ_ne _ _ e1] at hbs
      exact h.old s b hs1 hbs
  · have hst : s ≠ t := fun e => by subst e; exact ht9 h9
    rw [setβ_ne _ _ hst]
    exact h.pin s h9 (hdom s hs)
  · refine ⟨hg.os.trans h.fram.os, hg.tape.trans h.fram.tape, hg.output.trans h.fram.output, Nat.le_trans h.fram.size hg.size, fun b h1 h2 => ?_⟩
    refine (hg.block b (by have := h.fram.size; omega) fun e' => ?_).trans (h.fram.block b h1 h2)
    rcases h.old t b hdt (by rw [hbt, ← e']) with hx | hx
    · omega
    · exact h2 hx
end


end Go.Proofs.Ythblkhafehanfaa.Ab
