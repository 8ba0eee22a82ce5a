/- The abstract machine is sound: a function's contract. -/
import Derived.Test.YthblkhafehanfaaAb19
namespace Go.Proofs.Ythblkhafehanfaa.Ab
open Go Go.RowKit
set_option linter.unusedVariables false
set_option linter.unusedSimpArgs false

/-! ### Results -/

section
variable {P : Program} {S0 L : Nat → Prop} {B0 : Nat → Value} {w0 w : World} {N : Nat} {st : St} {a : Act} {β : Nat → Value}

def resG (tmps : Array Value) : ResultVar → Sem Value
  | .tmp t => pure (tmps.getD t undef)
  | .cell a t => do loadVar t (← asAddr (tmps.getD a undef))

theorem results_eq (fn : Func) (tmps : Array Value) : results fn tmps = (do
    let vs ← fn.results.mapM (resG tmps)
    pure (if h : vs.size = 1 then vs[0] else .tuple vs)) := by
  unfold results
  have : (fun (x : ResultVar) => match x with
    | .tmp t => (pure (tmps.getD t undef) : Sem Value)
    | .cell a t => do loadVar t (← asAddr (tmps.getD a undef))) = resG tmps := by
    funext x; cases x <;> rfl
  rw [← this]
  rfl

theorem load_ptr {n : Option Nat} {S : Nat → Prop} {D : Nat → Prop} {objs : Nat → Option AO} {v : Value} {X : AV} {r : Prop × AV} (hX : RV P S w β D v X) (h : semQ (.load n) [X] objs = some r) : ∃ ad, v = .pointer (some ad) := by
  cases hX with
  | ptr t o b h hb => exact ⟨_, rfl⟩
  | eptr t e i o b n c inf h hi hb => exact ⟨_, rfl⟩
  | rp ad cs us h1 h2 h3 h4 => exact ⟨_, rfl⟩
  | _ => cases n <;> simp [semQ] at h

theorem run_cell {t : TypeId} {n : Option Nat} {s : Nat} {φ : Prop} {v : AV} (h : Rel P S0 L B0 w0 N st a w β) (ht : aggN P t = some n) (hs : semQ (.load n) [st.vars s] st.objs = some (φ, v)) (hφ : φ) :
    ∃ r, (resG a.tmps (.cell s t)).run P w = .ok r w ∧ RV P (okS S0 w0.heap.size β st.objs w) w β (dom st.objs) r v := by
  obtain ⟨ad, had⟩ := load_ptr (h.vars s) hs
  let o : Oper := { (default : Oper) with op := .load t (.tmp s) }
  have key : ∃ r, (execOp a.eval o).run P w = .ok (.value r) w ∧ RV P (okS S0 w0.heap.size β st.objs w) w β (dom st.objs) r v := by
    cases n with
    | none => exact q_load1 (o := o) rfl ht h.heap (h.ev (.tmp s)) hs hφ
    | some n => exact q_loadN (o := o) rfl ht h.heap (h.ev (.tmp s)) hs hφ
  obtain ⟨r, hr, hv⟩ := key
  refine ⟨r, ?_, hv⟩
  have he : a.eval (.tmp s) = .pointer (some ad) := had
  have h1 : (execOp a.eval o).run P w = ((loadVar t ad).run P w).andThen fun r w' => .ok (.value r) w' := by
    simp [execOp, o, Instr.loadAt, he, Instr.sureAddr]
  have h2 : (resG a.tmps (.cell s t)).run P w = (loadVar t ad).run P w := by
    simp [resG, had, asAddr]
  rw [h2]
  rw [h1] at hr
  cases hl : (loadVar t ad).run P w with
  | ok r' w' => rw [hl] at hr; simp only [Result.andThen, Result.ok.injEq, Next.value.injEq] at hr; rw [hr.1, hr.2]
  | halt x w' => rw [hl] at hr; cases hr

theorem res_sound : ∀ (l : List ResultVar) (rs : List (Nat × Option (Option Nat))) (C : List AV → Prop), resVars P l = some rs → Rel P S0 L B0 w0 N st a w β → resVals st rs C →
    ∃ us vs, C vs ∧ us.length = vs.length ∧ (∀ (i : Nat) (v : AV) (u : Value), vs[i]? = some v → us[i]? = some u → RV P (okS S0 w0.heap.size β st.objs w) w β (dom st.objs) u v) ∧ (l.mapM (resG a.tmps)).run P w = .ok us w
  | [], rs, C, hr, h, hC => by
    simp only [resVars, Option.some.injEq] at hr
    subst hr
    exact ⟨[], [], hC, rfl, fun i v u h => by simp at h, by simp⟩
  | .tmp t :: l, rs, C, hr, h, hC => by
    simp only [resVars, Option.map_eq_some_iff] at hr
    obtain ⟨rs', hr', rfl⟩ := hr
    obtain ⟨us, vs, h1, h2, h3, h4⟩ := res_sound l rs' _ hr' h hC
    refine ⟨a.tmps.getD t undef :: us, st.vars t :: vs, h1, by simp [h2], fun i v u hv hu => ?_, ?_⟩
    · cases i with
      | zero =>
        simp only [List.getElem?_cons_zero, Option.some.injEq] at hv hu
        subst hv hu
        exact h.vars t
      | succ i => exact h3 i v u (by simpa using hv) (by simpa using hu)
    · simp [List.mapM_cons, resG, h4]
  | .cell s t :: l, rs, C, hr, h, hC => by
    simp only [resVars, Option.bind_eq_some_iff, Option.map_eq_some_iff] at hr
    obtain ⟨n, hn, rs', hr', rfl⟩ := hr
    obtain ⟨⟨φ, x⟩, hx, hφ, hC⟩ := withO_inv (show withO (semQ (.load n) [st.vars s] st.objs) _ from hC)
    obtain ⟨us, vs, h1, h2, h3, h4⟩ := res_sound l rs' _ hr' h hC
    obtain ⟨r, hrun, hv⟩ := run_cell h hn hx hφ
    refine ⟨r :: us, x :: vs, h1, by simp [h2], fun i v u hv' hu => ?_, ?_⟩
    · cases i with
      | zero =>
        simp only [List.getElem?_cons_zero, Option.some.injEq] at hv' hu
        subst hv' hu
        exact hv
      | succ i => exact h3 i v u (by simpa using hv') (by simpa using hu)
    · rw [List.mapM_cons]
      simp [hrun, h4]

/-- The value that a function gives back. -/
theorem result_sound {fn : Func} {rs : List (Nat × Option (Option Nat))} {C : List AV → Prop} (hr : resVars P fn.results.toList = some rs) (h : Rel P S0 L B0 w0 N st a w β) (hC : resVals st rs C) :
    ∃ v vs, C vs ∧ (results fn a.tmps).run P w = .ok v w ∧ RV P (okS S0 w0.heap.size β st.objs w) w β (dom st.objs) v (tupleOf vs) := by
  obtain ⟨us, vs, h1, h2, h3, h4⟩ := res_sound _ rs C hr h hC
  have hrun : (fn.results.mapM (resG a.tmps)).run P w = .ok us.toArray w := by
    rw [Array.mapM_eq_mapM_toList]
    simp [h4]
  have hres : (results fn a.tmps).run P w = .ok (if h : us.toArray.size = 1 then us.toArray[0] else .tuple us.toArray) w := by
    rw [results_eq]
    simp [hrun]
  refine ⟨_, vs, h1, hres, ?_⟩
  rcases us with _ | ⟨u, _ | ⟨u2, us⟩⟩
  · have : vs = [] := List.eq_nil_of_length_eq_zero (by simpa using h2.symm)
    subst this
    exact .tup [] [] rfl fun i c u h => by simp at h
  · rcases vs with _ | ⟨v, _ | ⟨v2, vs⟩⟩
    · simp at h2
    · exact h3 0 v u rfl rfl
    · simp at h2
  · rcases vs with _ | ⟨v, _ | ⟨v2, vs⟩⟩
    · simp at h2
    · simp at h2
    · exact .tup (v :: v2 :: vs) (u :: u2 :: us) (by simpa using h2) fun i c u hc hu => h3 i c u hc hu
end

/-! ### What was the call's own is fresh -/

section
variable {P : Program} {objs : Nat → Option AO}

theorem fzC_top {x r : AV} (h : fzC P objs x r) : (∀ cs, r ≠ .agg cs) ∧ (∀ cs, r ≠ .tup cs) := by
  constructor <;> rintro cs rfl <;> (have h : x = _ ∧ resC _ = true := h; simp [resC] at h)
theorem fzCs_get : ∀ {cs rs : List AV}, fzCs P objs cs rs → cs.length = rs.length ∧ ∀ (k : Nat) (c : AV), rs[k]? = some c → ∃ x, cs[k]? = some x ∧ fzC P objs x c
  | [], [], _ => ⟨rfl, fun k c h => by simp at h⟩
  | x :: cs, r :: rs, h => by
    obtain ⟨h1, h2⟩ := fzCs_get h.2
    refine ⟨by simp [h1], fun k c hk => ?_⟩
    cases k with
    | zero => simp only [List.getElem?_cons_zero, Option.some.injEq] at hk; subst hk; exact ⟨x, rfl, h.1⟩
    | succ k => exact h2 k c (by simpa using hk)
  | [], _ :: _, h => h.elim
  | _ :: _, [], h => h.elim
theorem fzVs_get : ∀ {cs rs : List AV}, fzVs P objs cs rs → cs.length = rs.length ∧ ∀ (k : Nat) (c : AV), rs[k]? = some c → ∃ x, cs[k]? = some x ∧ fz1 P objs x c
  | [], [], _ => ⟨rfl, fun k c h => by simp at h⟩
  | x :: cs, r :: rs, h => by
    obtain ⟨h1, h2⟩ := fzVs_get h.2
    refine ⟨by simp [h1], fun k c hk => ?_⟩
    cases k with
    | zero => simp only [List.getElem?_cons_zero, Option.some.injEq] at hk; subst hk; exact ⟨x, rfl, h.1⟩
    | succ k => exact h2 k c (by simpa using hk)
  | [], _ :: _, h => h.elim
  | _ :: _, [], h => h.elim
theorem fz1_cases {v r : AV} (h : fz1 P objs v r) : (∃ cs rs, v = .agg cs ∧ r = .agg rs ∧ fzCs P objs cs rs) ∨ ((∀ cs, v ≠ .agg cs) ∧ fzC P objs v r) := by
  cases v with
  | agg cs =>
    cases r with
    | agg rs => exact .inl ⟨cs, rs, rfl, rfl, h⟩
    | _ => exact h.elim
  | _ => exact .inr ⟨fun cs e => (by cases e), h⟩
theorem fz_cases {v r : AV} (h : fz P objs v r) : (∃ cs rs, v = .tup cs ∧ r = .tup rs ∧ cs.length ≤ 1000 ∧ fzVs P objs cs rs) ∨ ((∀ cs, v ≠ .tup cs) ∧ (∀ cs, r ≠ .tup cs) ∧ fz1 P objs v r) := by
  have hr : ∀ {v : AV}, (∀ cs, v ≠ .tup cs) → fz1 P objs v r → ∀ cs, r ≠ .tup cs := by
    intro v hv h cs e
    subst e
    rcases fz1_cases h with ⟨cs', rs, _, h2, _⟩ | ⟨_, h2⟩
    · cases h2
    · exact (fzC_top h2).2 _ rfl
  have hv : (∃ cs, v = .tup cs) ∨ ((∀ cs, v ≠ .tup cs) ∧ fz P objs v r = fz1 P objs v r) := by
    cases v <;> first | exact .inl ⟨_, rfl⟩ | exact .inr ⟨fun cs e => (by cases e), rfl⟩
  rcases hv with ⟨cs, rfl⟩ | ⟨h1, h2⟩
  · cases r with
    | tup rs => exact .inl ⟨cs, rs, rfl, rfl, h⟩
    | _ => exact h.elim
  · rw [h2] at h
    exact .inr ⟨h1, hr h1 h, h⟩

theorem fz1_cell {v r : AV} (h : fz1 P objs v r) {j : Nat} {c : AV} (hc : cellAt1 r j = some c) : ∃ x, cellAt1 v j = some x ∧ fzC P objs x c := by
  rcases fz1_cases h with ⟨cs, rs, rfl, rfl, h⟩ | ⟨h1, h2⟩
  · exact (fzCs_get h).2 j c hc
  · rw [cellAt1_ne r (fzC_top h2).1] at hc
    rw [cellAt1_ne v h1]
    split at hc
    · rename_i hj
      simp only [Option.some.injEq] at hc
      subst hc
      exact ⟨v, by simp [hj], h2⟩
    · cases hc
theorem fz_cell {v r : AV} (h : fz P objs v r) {p : Nat} {c : AV} (hc : cellAt r p = some c) : ∃ x, cellAt v p = some x ∧ fzC P objs x c := by
  rcases fz_cases h with ⟨cs, rs, rfl, rfl, hl, h⟩ | ⟨h1, h2, h3⟩
  · obtain ⟨y, hy, hc⟩ := Option.bind_eq_some_iff.1 (show (rs[p % 1000]?).bind _ = some c from hc)
    obtain ⟨x, hx, hf⟩ := (fzVs_get h).2 _ y hy
    obtain ⟨z, hz, hf⟩ := fz1_cell hf hc
    exact ⟨z, by simp [cellAt, hx, hz], hf⟩
  · rw [cellAt_ne r h2] at hc
    rw [cellAt_ne v h1]
    split at hc
    · rename_i hp
      rw [if_pos hp]
      exact fz1_cell h3 hc
    · cases hc

theorem fz1_map {v r : AV} {g : Nat → AV → AV} (h : fz1 P objs v r) (hg : ∀ j c x, cellAt1 r j = some c → cellAt1 v j = some x → fzC P objs x c → g (1000 * j) c = x) : v = map1 g r := by
  rcases fz1_cases h with ⟨cs, rs, rfl, rfl, h⟩ | ⟨h1, h2⟩
  · obtain ⟨hl, hk⟩ := fzCs_get h
    refine congrArg AV.agg (List.ext_getElem? fun k => ?_)
    rw [mapCs_get, Nat.zero_add]
    cases hr : rs[k]? with
    | none =>
      rw [List.getElem?_eq_none_iff] at hr
      rw [List.getElem?_eq_none (by omega)]
      rfl
    | some c =>
      obtain ⟨x, hx, hf⟩ := hk k c hr
      rw [hx]
      simp only [Option.map_some, Option.some.injEq]
      exact (hg k c x hr hx hf).symm
  · have hm : map1 g r = g 0 r := by
      have := (fzC_top h2).1
      cases r <;> first | rfl | exact absurd rfl (this _)
    rw [hm]
    refine (hg 0 r v ?_ ?_ h2).symm
    · rw [cellAt1_ne r (fzC_top h2).1]; rfl
    · rw [cellAt1_ne v h1]; rfl
theorem fz_map {v r : AV} {g : Nat → AV → AV} (h : fz P objs v r) (hg : ∀ p c x, cellAt r p = some c → cellAt v p = some x → fzC P objs x c → g p c = x) : v = mapTop g r := by
  rcases fz_cases h with ⟨cs, rs, rfl, rfl, hl, h⟩ | ⟨h1, h2, h3⟩
  · obtain ⟨hl', hk⟩ := fzVs_get h
    refine congrArg AV.tup (List.ext_getElem? fun k => ?_)
    rw [mapVs_get, Nat.zero_add]
    cases hr : rs[k]? with
    | none =>
      rw [List.getElem?_eq_none_iff] at hr
      rw [List.getElem?_eq_none (by omega)]
      rfl
    | some c =>
      obtain ⟨x, hx, hf⟩ := hk k c hr
      rw [hx]
      simp only [Option.map_some, Option.some.injEq]
      have hk1 : k < 1000 := by
        have := (List.getElem?_eq_some_iff.1 hx).1
        omega
      refine fz1_map hf fun j c' x' h1 h2 h3 => hg _ c' x' ?_ ?_ h3
      · show (rs[(1000 * j + k) % 1000]?).bind _ = _
        have e1 : (1000 * j + k) % 1000 = k := by omega
        have e2 : (1000 * j + k) / 1000 = j := by omega
        rw [e1, e2, hr]; exact h1
      · show (cs[(1000 * j + k) % 1000]?).bind _ = _
        have e1 : (1000 * j + k) % 1000 = k := by omega
        have e2 : (1000 * j + k) / 1000 = j := by omega
        rw [e1, e2, hx]; exact h2
  · have hm : mapTop g r = map1 g r := by cases r <;> first | rfl | exact absurd rfl (h2 _)
    rw [hm]
    refine fz1_map h3 fun j c x a1 a2 a3 => ?_
    refine hg _ c x ?_ ?_ a3
    · rw [cellAt_ne r h2]
      simp [a1]
    · rw [cellAt_ne v h1]
      simp [a2]

/-- It names a slice of the call's own. -/
def namesT (t : Nat) (c : AV) : Prop := c = .own t ∨ ∃ e lo hi, c = .sub t e lo hi
theorem plCs_mem : ∀ {cs : List AV} {n j t : Nat} {c : AV}, cs[j]? = some c → namesT t c → (1000 * (n + j), t) ∈ plCs n cs
  | [], n, j, t, c, h, _ => by simp at h
  | x :: cs, n, j, t, c, h, hc => by
    cases j with
    | zero =>
      simp only [List.getElem?_cons_zero, Option.some.injEq] at h
      subst h
      rcases hc with rfl | ⟨e, lo, hi, rfl⟩ <;> exact List.mem_cons_self
    | succ j =>
      have := plCs_mem (n := n + 1) (j := j) (cs := cs) (t := t) (by simpa using h) hc
      have e : n + 1 + j = n + (j + 1) := by omega
      rw [e] at this
      cases x <;> first | exact List.mem_cons_of_mem _ this | exact this
theorem pl1_mem {v c : AV} {j t : Nat} (h : cellAt1 v j = some c) (hc : namesT t c) : (1000 * j, t) ∈ pl1 v := by
  cases v with
  | agg cs => have := plCs_mem (n := 0) (j := j) (cs := cs) (t := t) h hc; rw [Nat.zero_add] at this; exact this
  | own s =>
    simp only [cellAt1] at h
    split at h
    · rename_i hj
      simp only [Option.some.injEq] at h; subst hj h
      rcases hc with h | ⟨e, lo, hi, h⟩
      · cases h; exact List.mem_cons_self
      · cases h
    · cases h
  | sub s e lo hi =>
    simp only [cellAt1] at h
    split at h
    · rename_i hj
      simp only [Option.some.injEq] at h; subst hj h
      rcases hc with h | ⟨e, lo, hi, h⟩
      · cases h
      · cases h; exact List.mem_cons_self
    · cases h
  | _ =>
    simp only [cellAt1] at h
    split at h
    · simp only [Option.some.injEq] at h
      subst h
      rcases hc with h | ⟨e, lo, hi, h⟩ <;> cases h
    · cases h
theorem plVs_mem : ∀ {vs : List AV} {n i j t : Nat} {c : AV}, (vs[i]?).bind (fun v => cellAt1 v j) = some c → namesT t c → (1000 * j + (n + i), t) ∈ plVs n vs
  | [], n, i, j, t, c, h, _ => by simp at h
  | v :: vs, n, i, j, t, c, h, hc => by
    cases i with
    | zero =>
      simp only [List.getElem?_cons_zero, Option.bind_some] at h
      exact List.mem_append_left _ (List.mem_map.2 ⟨_, pl1_mem h hc, rfl⟩)
    | succ i =>
      have := plVs_mem (n := n + 1) (i := i) (j := j) (vs := vs) (t := t) (by simpa using h) hc
      have e : n + 1 + i = n + (i + 1) := by omega
      rw [e] at this
      exact List.mem_append_right _ this
theorem pl_mem {v c : AV} {p t : Nat} (h : cellAt v p = some c) (hc : namesT t c) : (p, t) ∈ pl v := by
  have hne : (∀ cs, v ≠ .tup cs) → (p, t) ∈ pl v := by
    intro hv
    rw [cellAt_ne v hv] at h
    split at h
    · have := pl1_mem h hc
      have e : 1000 * (p / 1000) = p := by omega
      rw [e] at this
      cases v <;> first | exact this | exact absurd rfl (hv _)
    · cases h
  cases v with
  | tup vs =>
    have := plVs_mem (n := 0) (i := p % 1000) (j := p / 1000) (vs := vs) (t := t) h hc
    have e : 1000 * (p / 1000) + (0 + p % 1000) = p := by omega
    rw [e] at this
    exact this
  | _ => exact hne fun cs e => by cases e
theorem apartL_eq : ∀ {l : List (Nat × Nat)}, apartL l → ∀ {p q t : Nat}, (p, t) ∈ l → (q, t) ∈ l → p = q
  | [], _, p, q, t, h1, _ => by cases h1
  | x :: l, h, p, q, t, h1, h2 => by
    rcases List.mem_cons.1 h1 with e1 | h1 <;> rcases List.mem_cons.1 h2 with e2 | h2
    · have := e1.trans e2.symm; simpa using this
    · exact absurd (by rw [← e1]) (h.1 _ h2)
    · exact absurd (by rw [← e2]) (h.1 _ h1)
    · exact apartL_eq h.2 h1 h2
end

/-! ### A contract from the code -/

def argL (i : Nat) : List AV → List (Nat × AV)
  | [] => []
  | v :: vs => (i, v) :: argL (i + 1) vs
theorem argL_look : ∀ (vs : List AV) (i s : Nat), look (argL i vs) s = if i ≤ s then (vs[s - i]?).getD .junk else .junk
  | [], i, s => by simp [argL, look]
  | v :: vs, i, s => by
    simp only [argL, look, argL_look vs (i + 1) s]
    by_cases h : s = i
    · subst h; simp
    · rw [if_neg h]
      by_cases h1 : i ≤ s
      · have h2 : i + 1 ≤ s := by omega
        have h3 : s - i = (s - (i + 1)) + 1 := by omega
        rw [if_pos h1, if_pos h2, h3]; rfl
      · rw [if_neg h1, if_neg (by omega)]

theorem rv_cell1 {P : Program} {S : Nat → Prop} {w : World} {β : Nat → Value} {D : Nat → Prop} {v : Value} {X c : AV} {j : Nat} (h : RV P S w β D v X) (hc : cellAt1 X j = some c) : ∃ u, RV P S w β D u c := by
  cases X with
  | agg cs =>
    obtain ⟨us, rfl, hl, hcs⟩ := h.agg_inv
    have hc : cs[j]? = some c := hc
    have hlt : j < us.length := by rw [hl]; exact (List.getElem?_eq_some_iff.1 hc).1
    exact ⟨_, hcs j c _ hc (List.getElem?_eq_getElem hlt)⟩
  | _ =>
    simp only [cellAt1] at hc
    split at hc
    · simp only [Option.some.injEq] at hc; subst hc; exact ⟨v, h⟩
    · cases hc
theorem rv_cell {P : Program} {S : Nat → Prop} {w : World} {β : Nat → Value} {D : Nat → Prop} {v : Value} {X c : AV} {q : Nat} (h : RV P S w β D v X) (hc : cellAt X q = some c) : ∃ u, RV P S w β D u c := by
  by_cases hx : ∃ vs, X = .tup vs
  · obtain ⟨vs, rfl⟩ := hx
    obtain ⟨us, rfl, hl, hcs⟩ := h.tup_inv
    obtain ⟨y, hy, hc⟩ := Option.bind_eq_some_iff.1 (show (vs[q % 1000]?).bind _ = some c from hc)
    have hlt : q % 1000 < us.length := by rw [hl]; exact (List.getElem?_eq_some_iff.1 hy).1
    exact rv_cell1 (hcs _ y _ hy (List.getElem?_eq_getElem hlt)) hc
  · rw [cellAt_ne X (fun vs e => hx ⟨vs, e⟩)] at hc
    split at hc
    · exact rv_cell1 h hc
    · cases hc

theorem backOK_get {objs : Nat → Option AO} {l : List (Nat × Nat)} : ∀ {hout : List (Nat × AO)}, backOK objs l hout → ∀ t o, lookO hout t = some o → objs t = some o ∧ ∀ y ∈ l, y.2 ≠ t
  | [], _, t, o, h => by cases h
  | (s, o') :: hout, hb, t, o, h => by
    simp only [lookO] at h
    split at h
    · rename_i e; subst e; cases h; exact ⟨hb.1, hb.2.1⟩
    · exact backOK_get hb.2.2 t o h

theorem con_core {P : Program} {Γ : Tab} (hΓ : TabOK P Γ) {f : FuncId} {keep : List Nat} {F : AFn} {hin hout : List (Nat × AO)} {args : List AV} {r : AV} (hm : P.follows .mixedOrders = true) (hc : compFn P f keep = some F) (hlen : args.length ≤ F.n)
    (hback : ∀ t o, lookO hout t = some o → t % 1000 = 999 ∧ dom (lookO hin) t ∧ frO (cellAt r t) = none ∧ ∃ e rows, o = .arr e rows)
    (hs : vwp P Γ F.body (EndsU P F.res r hout) (retJ (EndsU P F.res r hout)) ⟨look (argL 0 args), lookO hin⟩) (w : World) (S0 : Nat → Prop) (β : Nat → Value) (vals : List Value)
    (hS0 : ∀ b, S0 b → b < w.heap.size) (hheap : Heap P (okS S0 w.heap.size β (lookO hin) w) w β (lookO hin)) (hvl : vals.length = args.length)
    (hvr : ∀ (i : Nat) (v : Value) (x : AV), vals[i]? = some v → args[i]? = some x → RV P (okS S0 w.heap.size β (lookO hin) w) w β (dom (lookO hin)) v x) :
    Calls P f vals.toArray w fun e w' => ∃ v β', e = .returned v ∧ Fram (live β (lookO hin)) w w' ∧
      Heap P (okS (fun b => S0 b ∨ live β (lookO hin) b) w.heap.size β' (unionO (lookO hout) fun t => frO (cellAt r t)) w') w' β' (unionO (lookO hout) fun t => frO (cellAt r t)) ∧
      (∀ t b, dom (unionO (lookO hout) fun t => frO (cellAt r t)) t → blk (β' t) = some b → w.heap.size ≤ b ∨ live β (lookO hin) b) ∧
      (∀ t, dom (lookO hout) t → dom (lookO hin) t ∧ β' t = β t) ∧
      RV P (okS (fun b => S0 b ∨ live β (lookO hin) b) w.heap.size β' (unionO (lookO hout) fun t => frO (cellAt r t)) w') w' β' (dom (unionO (lookO hout) fun t => frO (cellAt r t))) v (mapTop tagP r) := by
  unfold compFn at hc
  split at hc
  · rename_i fn hfn
    split at hc
    · rename_i c rs hb hrs
      obtain ⟨b, hcomp, hc⟩ := Option.bind_eq_some_iff.1 hc
      split at hc
      case isFalse => cases hc
      rename_i hN
      simp only [Option.some.injEq] at hc
      subst hc
      simp only at hs hlen
      refine calls_of_wp hfn hb ?_
      let S1 : Nat → Prop := fun b => S0 b ∨ live β (lookO hin) b
      have hS1 : ∀ b, okS S0 w.heap.size β (lookO hin) w b → okS S1 w.heap.size β (lookO hin) w b ∧ w.heap[b]? = w.heap[b]? := fun b ⟨h1, h2, h3⟩ => ⟨⟨h1.imp .inl id, h2, h3⟩, rfl⟩
      have hfram : Fram (live β (lookO hin)) w w := ⟨rfl, rfl, rfl, Nat.le_refl _, fun _ _ _ => rfl⟩
      have hrel : Rel P S1 (live β (lookO hin)) β w fn.ntmps ⟨look (argL 0 args), lookO hin⟩ { tmps := vals.toArray ++ Array.replicate (fn.ntmps - vals.toArray.size) undef, defers := [] } w β := by
        refine ⟨by simp; omega, rfl, fun s => ?_, ⟨fun t o ho => (hheap.holds t o ho).mono hS1 (fun s hs => ⟨hs, rfl⟩) rfl (fun b _ => rfl), hheap.inj⟩, fun t b ht hb => .inr ?_, hN, fun t _ _ => rfl, hfram⟩
        · show RV P _ w β _ _ (look (argL 0 args) s)
          rw [argL_look]
          simp only [Nat.zero_le, if_true, Nat.sub_zero]
          cases ha : args[s]? with
          | none => exact .junk _
          | some x =>
            have hs1 := (List.getElem?_eq_some_iff.1 ha).1
            have hs2 : s < vals.length := by omega
            have hv : vals[s]? = some vals[s] := List.getElem?_eq_getElem hs2
            have hget : (vals.toArray ++ Array.replicate (fn.ntmps - vals.toArray.size) undef).getD s undef = vals[s] := by
              rw [Array.getD_eq_getD_getElem?, Array.getElem?_append_left (by simpa using hs2)]
              simp [hs2]
            rw [hget]
            exact (hvr s _ x hv ha).mono hS1 fun s hs => ⟨hs, rfl⟩
        · obtain ⟨o, ho⟩ := ht; exact ⟨t, o, ho, hb⟩
      have fin : ∀ st a w' β', EndsU P rs r hout st → Rel P S1 (live β (lookO hin)) β w fn.ntmps st a w' β' → a.defers = [] ∧ ∃ v, (results fn a.tmps).run P w' = .ok v w' ∧
          ∃ v0 β'', Ending.returned v = .returned v0 ∧ Fram (live β (lookO hin)) w w' ∧
            Heap P (okS S1 w.heap.size β'' (unionO (lookO hout) fun t => frO (cellAt r t)) w') w' β'' (unionO (lookO hout) fun t => frO (cellAt r t)) ∧
            (∀ t b, dom (unionO (lookO hout) fun t => frO (cellAt r t)) t → blk (β'' t) = some b → w.heap.size ≤ b ∨ live β (lookO hin) b) ∧
            (∀ t, dom (lookO hout) t → dom (lookO hin) t ∧ β'' t = β t) ∧
            RV P (okS S1 w.heap.size β'' (unionO (lookO hout) fun t => frO (cellAt r t)) w') w' β'' (dom (unionO (lookO hout) fun t => frO (cellAt r t))) v0 (mapTop tagP r) := by
        intro st0 a w' β' hF0 hR0
        obtain ⟨_, vs0, hF, _, _⟩ := result_sound hrs hR0 hF0
        have hR := hR0.shareT (fun b hb => .inr hb) (pubs (tupleOf vs0) r)
        change EndsKU P rs r hout (shareT _ st0) at hF
        generalize shareT (pubs (tupleOf vs0) r) st0 = st at hF hR
        obtain ⟨v, vs, ⟨hfz, hap, hbk⟩, hrun, hv⟩ := result_sound hrs hR hF
        refine ⟨hR.defers, v, hrun, v, ?_⟩
        generalize tupleOf vs = X at hfz hap hv hbk
        have hbg := backOK_get hbk
        let F : Nat → Option AO := unionO (lookO hout) fun t => frO (cellAt r t)
        let β2 : Nat → Value := fun q => match lookO hout q with
          | some _ => β' q
          | none => match cellAt X q with
            | some (.own t) => β' t
            | some (.sub t _ _ hi) => (match β' t with | .slice A _ c => .slice A hi c | v => v)
            | _ => .slice none 0 0
        have hFq : ∀ q o, F q = some o → lookO hout q = some o ∨ (lookO hout q = none ∧ frO (cellAt r q) = some o) := by
          intro q o ho
          simp only [F, unionO] at ho
          cases hl : lookO hout q with
          | some o' => rw [hl] at ho; exact .inl ho
          | none => rw [hl] at ho; exact .inr ⟨rfl, ho⟩
        have hβb : ∀ q o, lookO hout q = some o → β2 q = β' q := fun q o h => by simp only [β2, h]
        -- a fresh one: which slice of the call's own it is
        have hfr : ∀ q o, lookO hout q = none → frO (cellAt r q) = some o → ∃ e rows, cellAt r q = some (.fr e rows) ∧ o = .arr e rows ∧
            ((∃ t c, cellAt X q = some c ∧ namesT t c ∧ (∃ rs, st.objs t = some (.arr e rs)) ∧ blk (β2 q) = blk (β' t) ∧ HoldsO P (okS S1 w.heap.size β' st.objs w') w' β2 (dom st.objs) q (.arr e rows) ∧ (∀ u, RV P (okS S1 w.heap.size β' st.objs w') w' β' (dom st.objs) u c → u = β2 q)) ∨ (cellAt X q = some (.pv .nil) ∧ rows = [] ∧ (P.info? e).isSome = true ∧ β2 q = .slice none 0 0)) := by
          intro q o hno ho
          unfold frO at ho
          split at ho
          · rename_i e rows hcell
            simp only [Option.some.injEq] at ho
            refine ⟨e, rows, hcell, ho.symm, ?_⟩
            obtain ⟨x, hx, hf⟩ := fz_cell hfz hcell
            rcases hf with ⟨t, rfl, ht⟩ | ⟨rfl, h1, h2⟩ | ⟨t, hi, rs', rfl, ht, hrr⟩
            · have hβ2 : β2 q = β' t := by simp only [β2, hno, hx]
              refine .inl ⟨t, _, hx, .inl rfl, ⟨_, ht⟩, by rw [hβ2], ?_, fun u hu => by rw [hβ2]; exact hu.own_inv.1⟩
              obtain ⟨inf, us, hi, how, hrl, hcl⟩ := hR.heap.holds t _ ht
              exact ⟨inf, us, hi, by rw [hβ2]; exact how, hrl, hcl⟩
            · exact .inr ⟨hx, h1, h2, by simp only [β2, hno, hx]⟩
            · obtain ⟨inf, us, hinf, how, hrl, hcl⟩ := hR.heap.holds t _ ht
              obtain ⟨A, c, hbt, hcc⟩ := own_slice how
              have hβ2 : β2 q = .slice A hi c := by simp only [β2, hno, hx, hbt]
              -- its length
              have hsub : ∀ u, RV P (okS S1 w.heap.size β' st.objs w') w' β' (dom st.objs) u (.sub t e 0 hi) → u = β2 q ∧ hi ≤ rs'.length := by
                intro u hu
                obtain ⟨inf1, Ad, Ad1, n, c1, hdt, hi1, hb1, g1, g2, g3, g4, g5, hux⟩ := hu.sub_inv
                rw [hbt] at hb1
                have h3 : A = Ad ∧ rs'.length = n ∧ c = c1 := by simpa using hb1
                obtain ⟨rfl, rfl, rfl⟩ := h3
                rw [hβ2, hux, g4 rfl]
                exact ⟨by simp, g2⟩
              obtain ⟨u0, hu0⟩ := rv_cell hv hx
              have hle := (hsub u0 hu0).2
              have hlen : (rs'.take hi).length = hi := by rw [List.length_take]; omega
              refine .inl ⟨t, _, hx, .inr ⟨_, _, _, rfl⟩, ⟨_, ht⟩, by rw [hβ2, hbt]; cases A <;> rfl, ?_, fun u hu => (hsub u hu).1⟩
              rw [hrr]
              refine ⟨inf, us.take (hi * inf.size), hinf, ?_, fun r hr => hrl r (List.mem_of_mem_take hr), fun i j r p hr hp => ?_⟩
              · rw [hlen, hβ2]
                exact ownsRow_take how hle hbt
              · have hi2 : i < hi := by rw [← hlen]; exact (List.getElem?_eq_some_iff.1 hr).1
                rw [List.getElem?_take, if_pos hi2] at hr
                obtain ⟨u, hu, h1, h2⟩ := hcl i j r p hr hp
                have hj : j < inf.size := by rw [← hrl r (List.mem_of_getElem? hr)]; exact (List.getElem?_eq_some_iff.1 hp).1
                have hlt : i * inf.size + j < hi * inf.size := by
                  have := Nat.mul_le_mul_right inf.size (show i + 1 ≤ hi from hi2)
                  rw [Nat.succ_mul] at this
                  omega
                exact ⟨u, by rw [List.getElem?_take, if_pos hlt]; exact hu, h1, h2⟩
          · cases ho
        -- where an object lies
        have hlive : ∀ q b, dom F q → blk (β2 q) = some b → ∃ t, dom st.objs t ∧ blk (β' t) = some b ∧ ((lookO hout q ≠ none ∧ t = q) ∨ (lookO hout q = none ∧ ∃ c, cellAt X q = some c ∧ namesT t c)) := by
          rintro q b ⟨o, ho⟩ hb
          rcases hFq q o ho with h1 | ⟨h0, h1⟩
          · rw [hβb q o h1] at hb
            exact ⟨q, ⟨o, (hbg q o h1).1⟩, hb, .inl ⟨by rw [h1]; simp, rfl⟩⟩
          · obtain ⟨e, rows, _, _, h | h⟩ := hfr q o h0 h1
            · obtain ⟨t, c, h2, h3, ⟨rs', h4⟩, h5, _⟩ := h
              exact ⟨t, ⟨_, h4⟩, by rw [← h5]; exact hb, .inr ⟨h0, c, h2, h3⟩⟩
            · rw [h.2.2.2] at hb; simp [blk] at hb
        have hS : ∀ b, okS S1 w.heap.size β' st.objs w' b → okS S1 w.heap.size β2 F w' b := by
          rintro b ⟨h1, h2, h3⟩
          refine ⟨h1, h2, ?_⟩
          rintro ⟨q, o, ho, hb⟩
          obtain ⟨t, ⟨o', ho'⟩, hb', _⟩ := hlive q b ⟨o, ho⟩ hb
          exact h3 ⟨t, o', ho', hb'⟩
        have hS' : ∀ b, okS S1 w.heap.size β' st.objs w' b → okS S1 w.heap.size β2 F w' b ∧ w'.heap[b]? = w'.heap[b]? := fun b hb => ⟨hS b hb, rfl⟩
        have hcore : ∀ q t e rows, HoldsO P (okS S1 w.heap.size β' st.objs w') w' t (dom st.objs) q (.arr e rows) → t q = β2 q → HoldsO P (okS S1 w.heap.size β2 F w') w' β2 (dom F) q (.arr e rows) := by
          rintro q t e rows ⟨inf, us, hi, how, hrl, hcl⟩ ht
          refine ⟨inf, us, hi, by rw [← ht]; exact how, hrl, fun i j r p h1 h2 => ?_⟩
          obtain ⟨u, hu, hone, hp⟩ := hcl i j r p h1 h2
          exact ⟨u, hu, hone, hp.mono hS'⟩
        refine ⟨β2, rfl, hR.fram, ⟨fun q o ho => ?_, fun q q' b hq hq' hb hb' => ?_⟩, fun q b hq hb => ?_, fun q ⟨o, ho⟩ => ?_, ?_⟩
        · rcases hFq q o ho with h1 | ⟨h0, h1⟩
          · have hho := hR.heap.holds q o (hbg q o h1).1
            cases o with
            | arr e rows => exact hcore q β' e rows hho (hβb q _ h1).symm
            | box cs => obtain ⟨_, _, _, e, rows, he⟩ := hback q _ h1; cases he
            | map es => obtain ⟨_, _, _, e, rows, he⟩ := hback q _ h1; cases he
            | rws e cs => obtain ⟨_, _, _, e, rows, he⟩ := hback q _ h1; cases he
            | mpv es => obtain ⟨_, _, _, e, rows, he⟩ := hback q _ h1; cases he
            | itr rem cur => obtain ⟨_, _, _, e, rows, he⟩ := hback q _ h1; cases he
          · obtain ⟨e, rows, _, rfl, h | h⟩ := hfr q o h0 h1
            · obtain ⟨t, c, _, _, _, _, h6, _⟩ := h
              exact hcore q β2 e rows h6 rfl
            · obtain ⟨_, rfl, hi, h3⟩ := h
              obtain ⟨inf, hi⟩ := Option.isSome_iff_exists.1 hi
              exact ⟨inf, [], hi, by rw [h3]; exact World.ownsRow_nil w' 0 e inf.size, fun r hr => by simp at hr, fun i j r p hr => by simp at hr⟩
        · obtain ⟨t, h2, h3, h4⟩ := hlive q b hq hb
          obtain ⟨t', h2', h3', h4'⟩ := hlive q' b hq' hb'
          have : t = t' := hR.heap.inj t t' b h2 h2' h3 h3'
          subst this
          rcases h4 with ⟨h5, rfl⟩ | ⟨h5, c, h6, h7⟩ <;> rcases h4' with ⟨h5', rfl⟩ | ⟨h5', c', h6', h7'⟩
          · rfl
          · cases hl : lookO hout t with
            | none => exact absurd hl h5
            | some o => exact absurd rfl ((hbg t o hl).2 _ (pl_mem h6' h7'))
          · cases hl : lookO hout t with
            | none => exact absurd hl h5'
            | some o => exact absurd rfl ((hbg t o hl).2 _ (pl_mem h6 h7))
          · exact apartL_eq hap (pl_mem h6 h7) (pl_mem h6' h7')
        · obtain ⟨t, h2, h3, _⟩ := hlive q b hq hb
          exact hR.old t b h2 h3
        · obtain ⟨h9, hd, _, _⟩ := hback q o ho
          exact ⟨hd, (hβb q o ho).trans (hR.pin q h9 ⟨o, (hbg q o ho).1⟩)⟩
        · have hX : X = mapTop (fun p c => match c with
              | .fr _ _ => (cellAt X p).getD .junk
              | c => c) r := by
            refine fz_map hfz fun p c x hc hx hf => ?_
            cases c with
            | fr e rows => simp [hx]
            | _ => exact hf.1.symm
          have htup : tupOK r = true := by
            rcases fz_cases hfz with ⟨cs, rs, _, rfl, hl, h⟩ | ⟨_, h2, _⟩
            · simp only [tupOK, decide_eq_true_eq]; rw [← (fzVs_get h).1]; exact hl
            · cases r <;> first | rfl | exact absurd rfl (h2 _)
          rw [hX] at hv
          refine mapTop_sound htup ?_ hv
          intro p c u hc hu
          obtain ⟨x, hx, hf⟩ := fz_cell hfz hc
          cases c with
          | fr e rows =>
            simp only [hx, Option.getD_some] at hu
            have hfp : frO (cellAt r p) = some (.arr e rows) := by simp [hc, frO]
            have hno : lookO hout p = none := by
              cases hl : lookO hout p with
              | none => rfl
              | some o => rw [(hback p o hl).2.2.1] at hfp; cases hfp
            have hdom : dom F p := ⟨.arr e rows, by simp only [F, unionO, hno]; exact hfp⟩
            have hgoal : u = β2 p := by
              obtain ⟨_, _, _, _, h | h⟩ := hfr p _ hno hfp
              · obtain ⟨t, c, h2, _, _, _, _, h7⟩ := h
                rw [hx] at h2
                injection h2 with h2
                subst h2
                exact h7 u hu
              · obtain ⟨h1, _, _, h3⟩ := h
                rw [hx] at h1
                injection h1 with h1
                subst h1
                rw [h3]; exact hu.nil_inv
            show RV P _ w' β2 _ u (.own p)
            rw [hgoal]
            exact .own p hdom
          | pv q =>
            cases hu with
            | pv v p h => exact .pv _ _ (h.mono hS')
          | rp cs =>
            obtain ⟨ad, us, rfl, h1, h2, h3, h4⟩ := RV.rp_inv hu
            exact .rp ad cs us (hS _ h1) h2 h3 (fun j p hp => (h4 j p hp).mono hS')
          | _ => exact absurd hf.2 (by simp [resC])
      refine code_sound hΓ (S0 := S1) (L := live β (lookO hin)) (fun b hb => .inr hb) (w0 := w) hm keep c b hcomp (EndsU P rs r hout) (retJ (EndsU P rs r hout)) _ _ _ w β ?_ ?_ ?_ hrel hs
      · intro st a w' β' hF hR
        exact fin st a w' β' hF hR
      · intro st a w' β' id hj; exact hj.elim
      · intro st a w' β' hF hR
        exact fin st a w' β' hF hR
    · cases hc
  · cases hc

theorem EndsU_nil (P : Program) (rs : List (Nat × Option (Option Nat))) (r : AV) : EndsU P rs r [] = Ends P rs r := by
  funext st
  simp [EndsU, EndsKU, Ends, EndsK, backOK]

theorem con_of {P : Program} {Γ : Tab} (hΓ : TabOK P Γ) {f : FuncId} {keep : List Nat} {F : AFn} {args : List AV} {r : AV} (hm : P.follows .mixedOrders = true) (hc : compFn P f keep = some F) (hlen : args.length ≤ F.n)
    (hs : vwp P Γ F.body (Ends P F.res r) (retJ (Ends P F.res r)) ⟨look (argL 0 args), lookO []⟩) : Con P f [] args [] r := by
  intro w S0 β vals hS0 hlt hheap hvl hvr
  have hlv : (fun b => S0 b ∨ live β (lookO []) b) = S0 := by
    funext b
    apply propext
    constructor
    · rintro (h | ⟨t, o, ho, _⟩)
      · exact h
      · cases ho
    · exact .inl
  rw [← EndsU_nil] at hs
  have := con_core hΓ (hin := []) (hout := []) hm hc hlen (fun t o h => by cases h) hs w S0 β vals hS0 hheap hvl hvr
  rw [hlv] at this
  refine this.mono ?_
  rintro e w' ⟨v, β', h1, h2, h3, h4, _, h5⟩
  exact ⟨v, β', h1, h2, h3, h4, h5⟩

theorem con_ofU {P : Program} {Γ : Tab} (hΓ : TabOK P Γ) {f : FuncId} {keep : List Nat} {F : AFn} {ys : List AV} {x : AV} (hm : P.follows .mixedOrders = true) (hc : compFn P f keep = some F) (hlen : ys.length ≤ F.n)
    (hres : resOK (outR x) = true) (hb : ∀ t o, lookO (outO x) t = some o → dom (lookO (mkO ys)) t)
    (hs : vwp P Γ F.body (EndsU P F.res (outR x) (outO x)) (retJ (EndsU P F.res (outR x) (outO x))) ⟨look (argL 0 (ys.map mkA)), lookO (mkO ys)⟩) : ConU P f ys x := by
  intro w S0 β vals hS0 hlt hheap hvl hvr
  refine con_core hΓ (hin := mkO ys) (hout := outO x) hm hc (by simpa using hlen) (fun t o h => ?_) hs w S0 β vals hS0 hheap (by simpa using hvl) hvr
  have h9 : t = 999 ∧ ∃ e rows, o = .arr e rows := by
    unfold outO at h
    split at h
    · simp only [lookO] at h
      split at h
      · rename_i e; cases h; exact ⟨e, _, _, rfl⟩
      · cases h
    · cases h
  obtain ⟨rfl, he⟩ := h9
  exact ⟨rfl, hb _ o h, resOK_999 hres, he⟩

end Go.Proofs.Ythblkhafehanfaa.Ab
