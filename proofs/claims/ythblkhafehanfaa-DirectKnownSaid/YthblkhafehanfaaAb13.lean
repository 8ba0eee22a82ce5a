/- The abstract machine is sound, ninth part: one operation. -/
import Derived.Test.YthblkhafehanfaaAg2
import Derived.Test.YthblkhafehanfaaAe1
namespace Go.Proofs.Ythblkhafehanfaa.Ab
open Go Go.RowKit
set_option linter.unusedVariables false
set_option linter.unusedSimpArgs false

theorem isFn_lt {P : Program} {f : FuncId} (h : isFn P f = true) : f < P.funcs.size := by
  unfold isFn at h
  split at h
  · rename_i fn hfn; exact (Array.getElem?_eq_some_iff.1 hfn).1
  · cases h

/-- Operations that read alone. -/
def isQ : AK → Bool
  | .mov | .pick | .nilS _ | .box | .alloc _ | .bsl _ _ | .call _ | .calv | .store _ | .app _ _ _ | .stoB _ | .clr _ _ _ | .ex _ => false
  | _ => true
theorem semQ_ex {x : XK} {ys : List AV} {objs : Nat → Option AO} : semQ (.ex x) ys objs = none := by
  unfold semQ; split <;> first | rfl | simp_all

section
variable {P : Program} {Γ : Tab} {S0 L : Nat → Prop} {B0 : Nat → Value} {w0 w : World} {N : Nat} {st : St} {a : Act} {β : Nat → Value} {o : Oper} {k : AK} {xs : List Operand}

theorem Rel.ev (h : Rel P S0 L B0 w0 N st a w β) (z : Operand) : RV P (okS S0 w0.heap.size β st.objs w) w β (dom st.objs) (a.eval z) (ev st.vars z) := ev_sound h.vars z
theorem Rel.evs (h : Rel P S0 L B0 w0 N st a w β) (z : Operand) (ha : asks (Ab.ev st.vars z)) : RV P (okS S0 w0.heap.size β st.objs w) w β (dom st.objs) (a.eval z) (strip (Ab.ev st.vars z)) := (h.ev z).strip ha

theorem soundQ (h : Rel P S0 L B0 w0 N st a w β) (hc : compOp P o = some (k, xs)) (hk : isQ k = true) (ha : asksL (xs.map (ev st.vars))) {φ : Prop} {v : AV}
    (hs : semQ k ((xs.map (ev st.vars)).map strip) st.objs = some (φ, v)) (hφ : φ) :
    ∃ r, (execOp a.eval o).run P w = .ok (.value r) w ∧ RV P (okS S0 w0.heap.size β st.objs w) w β (dom st.objs) r v := by
  rcases compOp_cases hc with hc | ⟨x, rfl, _⟩
  rotate_left
  · simp [isQ] at hk
  unfold compOp0 at hc
  split at hc
  · -- move
    split at hc
    · split at hc
      · split at hc
        · cases hc; simp [isQ] at hk
        · cases hc
      · cases hc
    · cases hc; simp [isQ] at hk
  · split at hc
    · split at hc
      · split at hc
        · cases hc; simp [isQ] at hk
        · cases hc
      · cases hc
    · cases hc; simp [isQ] at hk
  · cases hc; simp [isQ] at hk
  · -- alloc
    obtain ⟨zs, _, he⟩ := Option.map_eq_some_iff.1 hc
    cases he; simp [isQ] at hk
  · cases hc; simp [isQ] at hk
  · -- build
    rename_i t ps ho
    split at hc
    · rename_i zs fs hz hu
      split at hc
      · cases hc
      · rename_i hall
        obtain ⟨l, hl, he⟩ := Option.map_eq_some_iff.1 hc
        cases he
        exact q_bld ho hz hu (Bool.of_not_eq_false hall) hl h.heap h.evs ha hs hφ
    · cases hc
  · -- buildSlice
    split at hc
    · split at hc
      · split at hc
        · cases hc; simp [isQ] at hk
        · cases hc
      · cases hc
    · cases hc
  · -- load
    rename_i t x ho
    obtain ⟨n, hn, he⟩ := Option.map_eq_some_iff.1 hc
    cases he
    cases n with
    | none => exact q_load1 ho hn h.heap (h.evs x ha.1) hs hφ
    | some n => exact q_loadN ho hn h.heap (h.evs x ha.1) hs hφ
  · -- store
    split at hc
    · split at hc
      · cases hc; simp [isQ] at hk
      · cases hc
    · cases hc; simp [isQ] at hk
    · cases hc
  · -- binOp
    rename_i op t x y yt ho
    split at hc
    · rename_i hu
      split at hc
      · cases hc; exact q_beq (ne := false) ho hu (h.evs x ha.1) (h.evs y ha.2.1) hs hφ
      · cases hc; exact q_beq (ne := true) ho hu (h.evs x ha.1) (h.evs y ha.2.1) hs hφ
      · cases hc
    · cases hc; exact q_bin ho (h.evs x ha.1) (h.evs y ha.2.1) hs hφ
    · cases hc; exact q_bin ho (h.evs x ha.1) (h.evs y ha.2.1) hs hφ
    · rename_i fs hu
      split at hc
      · rename_i ks hks
        split at hc
        · rename_i hcond
          split at hc
          · cases hc; exact q_eqs (ne := false) ho hu hks hcond.1 hcond.2 (h.evs x ha.1) (h.evs y ha.2.1) hs hφ
          · cases hc; exact q_eqs (ne := true) ho hu hks hcond.1 hcond.2 (h.evs x ha.1) (h.evs y ha.2.1) hs hφ
          · cases hc
        · cases hc
      · cases hc
    · cases hc
  · rename_i t x ho
    cases hc; exact q_not ho (h.evs x ha.1) hs hφ
  · rename_i t x ho
    cases hc; exact q_neg ho (h.evs x ha.1) hs hφ
  · -- convert
    rename_i src dst x ho
    split at hc
    · rename_i k0 k1 hsr hds
      cases hc; exact q_cvi ho hsr hds (h.evs x ha.1) hs hφ
    · rename_i hsr hds
      cases hc; exact q_scv ho hsr hds (h.evs x ha.1) hs hφ
    · rename_i e hsr hds
      split at hc
      · rename_i he
        cases hc
        exact q_btoS ho hsr he hds h.heap (h.evs x ha.1) hs
      · cases hc
    · split at hc
      · cases hc; simp [isQ] at hk
      · cases hc
    · cases hc
  · -- fieldAddr
    rename_i s x i ho
    split at hc
    · rename_i fs hu
      split at hc
      · rename_i f hf
        split at hc
        · rename_i n hsz
          cases hc; exact q_fad ho hu hf hsz (h.evs x ha.1) hs hφ
        · cases hc
      · cases hc
    · cases hc
  · -- field
    rename_i s x i ho
    split at hc
    · rename_i fs hu
      split at hc
      · rename_i f hf
        obtain ⟨n, hn, he⟩ := Option.map_eq_some_iff.1 hc
        cases he
        cases n with
        | none => exact q_fld1 ho hu hf hn (h.evs x ha.1) hs hφ
        | some n => exact q_fldN ho hu hf hn (h.evs x ha.1) hs hφ
      · cases hc
    · cases hc
  · -- indexAddr
    rename_i t x y ho
    split at hc
    · rename_i e hu
      obtain ⟨sz, hsz, he⟩ := Option.map_eq_some_iff.1 hc
      cases he
      exact q_ixa ho hu hsz h.heap (h.evs x ha.1) (h.evs y ha.2.1) hs hφ
    · rename_i n e hu
      obtain ⟨sz, hsz, he⟩ := Option.map_eq_some_iff.1 hc
      cases he
      exact q_ixp ho hu hsz (h.evs x ha.1) (h.evs y ha.2.1) hs hφ
    · cases hc
  · -- index
    rename_i t x y ho
    split at hc
    · rename_i hu
      cases hc; exact q_sidx ho hu (h.evs x ha.1) (h.evs y ha.2.1) hs hφ
    · cases hc
  · -- slice
    rename_i t x lo hi ho
    split at hc
    · rename_i hu
      cases hc
      simp only [List.singleton_append, List.cons_append, List.nil_append, List.map_cons, asksL] at ha hs
      exact q_ssl ho hu h.evs (h.evs x ha.1) ha.2 hs hφ
    · rename_i e hu
      obtain ⟨sz, hsz, he⟩ := Option.map_eq_some_iff.1 hc
      cases he
      simp only [List.singleton_append, List.cons_append, List.nil_append, List.map_cons, asksL] at ha hs
      exact q_slc ho hu hsz h.heap h.evs (h.evs x ha.1) ha.2 hs hφ
    · cases hc
  · rename_i x i ho
    cases hc; exact q_ext ho (h.evs x ha.1) hs hφ
  · rename_i x ho
    cases hc; exact q_nck ho (h.evs x ha.1) hs hφ
  · rename_i f first caps ho
    split at hc
    · rename_i hf
      have hf' : first = #[] := by apply Array.ext'; simpa using hf
      subst hf'
      cases hc; exact q_mkf ho h.evs ha hs hφ
    · cases hc
  · -- calls
    rename_i c ho
    obtain ⟨callee, args, argTypes⟩ := c
    unfold compCall at hc
    simp only at hc
    split at hc
    · rename_i b
      unfold compBuiltin at hc
      split at hc
      · -- len
        rename_i x t hx ht
        have hx' : args = #[x] := by apply Array.ext'; simpa using hx
        have ht' : argTypes = #[t] := by apply Array.ext'; simpa using ht
        subst hx' ht'
        split at hc
        · rename_i hu
          cases hc; exact q_slen ho hu (h.evs x ha.1) hs hφ
        · rename_i e hu
          cases hc; exact q_len ho hu h.heap (h.evs x ha.1) hs hφ
        · cases hc
      · split at hc
        · split at hc
          · split at hc
            · cases hc; simp [isQ] at hk
            · cases hc
          · cases hc
        · split at hc
          · split at hc
            · cases hc; simp [isQ] at hk
            · cases hc
          · cases hc
        · cases hc
      · rename_i x y t t' hx ht
        have hx' : args = #[x, y] := by apply Array.ext'; simpa using hx
        have ht' : argTypes = #[t, t'] := by apply Array.ext'; simpa using ht
        subst hx' ht'
        cases hc
        exact q_mnx (mx := false) ho (h.evs x ha.1) (h.evs y ha.2.1) hs
      · rename_i x y t t' hx ht
        have hx' : args = #[x, y] := by apply Array.ext'; simpa using hx
        have ht' : argTypes = #[t, t'] := by apply Array.ext'; simpa using ht
        subst hx' ht'
        cases hc
        exact q_mnx (mx := true) ho (h.evs x ha.1) (h.evs y ha.2.1) hs
      · repeat' (split at hc)
        all_goals first | (cases hc; simp [isQ] at hk; done) | cases hc
      · cases hc
    · split at hc
      · cases hc; simp [isQ] at hk
      · cases hc
    · cases hc; simp [isQ] at hk
    · cases hc
  · cases hc


theorem wp_of_value {K : Act → World → Prop} {Q : Exit → Act → World → Prop} {r : Value} {w' : World} (hr : (execOp a.eval o).run P w = .ok (.value r) w') (hK : K (a.put o.dst r) w') : o.wp P a w K Q := by
  unfold Oper.wp; rw [hr]; exact hK
theorem wp_of_skip {K : Act → World → Prop} {Q : Exit → Act → World → Prop} {w' : World} (hr : (execOp a.eval o).run P w = .ok .skip w') (hK : K (a.put o.dst undef) w') : o.wp P a w K Q := by
  unfold Oper.wp; rw [hr]; exact hK
theorem wp_of_enter {K : Act → World → Prop} {Q : Exit → Act → World → Prop} {f : FuncId} {args : Array Value} {w' : World} (hr : (execOp a.eval o).run P w = .ok (.enter f args) w')
    (hK : Calls P f args w' fun e w'' => ∃ v, e = .returned v ∧ K (a.put o.dst v) w'') : o.wp P a w K Q := by
  unfold Oper.wp; rw [hr]
  refine Calls.mono hK ?_
  rintro e w'' ⟨v, rfl, h⟩
  exact h

theorem withO_inv {α : Type} {q : Option α} {K : α → Prop} (h : withO q K) : ∃ x, q = some x ∧ K x := by
  cases q with
  | none => exact h.elim
  | some x => exact ⟨x, rfl, h⟩

theorem nil_eval {x : Operand} (h : isNilSlice x = true) : a.eval x = .slice none 0 0 := by
  unfold isNilSlice at h
  split at h
  · rfl
  · cases h

theorem run_callee {f : FuncId} {args : Array Operand} {argTypes : Array TypeId} (ho : o.op = .call { callee := .value (.func f), args := args, argTypes := argTypes }) (hf : isFn P f = true) :
    (execOp a.eval o).run P w = .ok (.enter f (args.map a.eval)) w := by
  unfold isFn at hf
  split at hf
  · rename_i fn hfn
    simp only [Bool.and_eq_true, bne_iff_ne, ne_eq] at hf
    have hn := hf.1
    have hb : ¬ fn.body = none := fun e => by rw [e] at hf; simp at hf
    simp [execOp, ho, resolve, Act.eval, Deferred.ofValue, invoke, callFunc, hfn, hn, hb]
  · cases hf

theorem evs_list (h : Rel P S0 L B0 w0 N st a w β) : ∀ (l : List Operand), asksL (l.map (Ab.ev st.vars)) →
    ∀ (i : Nat) (v : Value) (x : AV), (l.map a.eval)[i]? = some v → ((l.map (Ab.ev st.vars)).map strip)[i]? = some x → RV P (okS S0 w0.heap.size β st.objs w) w β (dom st.objs) v x := by
  intro l ha i v x hv hx
  rw [List.getElem?_map, Option.map_eq_some_iff] at hv
  obtain ⟨z, hz, rfl⟩ := hv
  simp only [List.getElem?_map, hz, Option.map_some, Option.some.injEq] at hx
  subst hx
  exact h.evs z (asks_get l i z ha hz)

/-- A call, whatever becomes of the slot. -/
theorem sound_call {Q : Exit → Act → World → Prop} {f : FuncId} {args : Array Operand} {argTypes : Array TypeId} (h : Rel P S0 L B0 w0 N st a w β) {d : Nat} (hd9 : d % 1000 ≠ 999) (ho : o.op = .call { callee := .value (.func f), args := args, argTypes := argTypes }) (hf : isFn P f = true)
    {ys : List AV} {r : AV} (ha : asksL (args.toList.map (Ab.ev st.vars))) (hre : reis st.objs ((args.toList.map (Ab.ev st.vars)).map strip) = some ys) (hcon : ConR P f ys r)
    (hpf : pures ((args.toList.map (Ab.ev st.vars)).map strip) = true ∨ flatR r) (hfree : ∀ x ∈ newO d r, st.objs x.1 = none) (hres : resR d r = true) {K : Act → World → Prop}
    (hK : ∀ v w' β', Rel P S0 L B0 w0 N ⟨st.vars, addL (newO d r) st.objs⟩ a w' β' → RV P (okS S0 w0.heap.size β' (addL (newO d r) st.objs) w') w' β' (dom (addL (newO d r) st.objs)) v (newV d r) → K (a.put o.dst v) w') :
    o.wp P a w K Q := by
  refine wp_of_enter (run_callee ho hf) ?_
  have hv : args.map a.eval = (args.toList.map a.eval).toArray := by apply Array.ext'; simp
  rw [hv]
  refine (call_soundR (a := a) h hd9 (by simp) (evs_list h args.toList ha) hre hcon hpf hfree hres).mono ?_
  rintro e w' ⟨v, β', rfl, hR, hrv⟩
  exact ⟨v, rfl, hK v w' β' hR hrv⟩

theorem pick_sound (h : Rel P S0 L B0 w0 N st a w β) {c x y : Operand} (ho : o.op = .pick c x y) {φ : Prop} {v : AV} (hs : apick [Ab.ev st.vars c, Ab.ev st.vars x, Ab.ev st.vars y] = some (φ, v)) (hφ : φ) :
    ∃ r, (execOp a.eval o).run P w = .ok (.value r) w ∧ RV P (okS S0 w0.heap.size β st.objs w) w β (dom st.objs) r v := by
  simp only [apick, Option.bind_eq_some_iff, Option.map_eq_some_iff] at hs
  obtain ⟨b, hb, r, hs, hr⟩ := hs
  cases hr
  obtain ⟨hca, hφ⟩ := hφ
  obtain ⟨φ, v⟩ := r
  have hc := (h.ev c).strip hca
  have hX := h.ev x
  have hY := h.ev y
  generalize strip (Ab.ev st.vars c) = C at hb hc
  have hce : a.eval c = .bool b := by
    cases C with
    | pv p => cases p <;> simp [boolOf] at hb; subst hb; exact hc.bool_inv
    | _ => simp [boolOf] at hb
  unfold apick2 at hs
  split at hs
  · rename_i p q hp hq
    simp only [Option.some.injEq, Prod.mk.injEq] at hs
    obtain ⟨rfl, rfl⟩ := hs
    cases b with
    | true =>
      have hx := hX.strip (hφ.1 rfl)
      rw [hp] at hx
      exact ⟨a.eval x, by simp [execOp, ho, hce, asBool], by simpa using hx⟩
    | false =>
      have hy := hY.strip (hφ.2 rfl)
      rw [hq] at hy
      exact ⟨a.eval y, by simp [execOp, ho, hce, asBool], by simpa using hy⟩
  · rename_i p hp _
    simp only [Option.some.injEq, Prod.mk.injEq] at hs
    obtain ⟨rfl, rfl⟩ := hs
    obtain ⟨rfl, hφ⟩ := hφ
    have hx := hX.strip hφ
    rw [hp] at hx
    exact ⟨a.eval x, by simp [execOp, ho, hce, asBool], hx⟩
  · rename_i q hq _
    simp only [Option.some.injEq, Prod.mk.injEq] at hs
    obtain ⟨rfl, rfl⟩ := hs
    obtain ⟨rfl, hφ⟩ := hφ
    have hy := hY.strip hφ
    rw [hq] at hy
    exact ⟨a.eval y, by simp [execOp, ho, hce, asBool], hy⟩
  · cases hs

/-- One operation that is not guarded. -/
theorem soundK (hΓ : TabOK P Γ) {Q : Exit → Act → World → Prop} (h : Rel P S0 L B0 w0 N st a w β) (hc : compOp P o = some (k, xs)) (hd : ∀ s, o.dst = some s → s < N) {C : Eff → Prop} (hs : semK P Γ o.dst k (xs.map (Ab.ev st.vars)) st.objs C) :
    o.wp P a w (fun a' w' => ∃ e β', C e ∧ Rel P S0 L B0 w0 N (e.on o.dst st) a' w' β') Q := by
  by_cases hq : isQ k = true
  · -- it reads alone
    have hs' : asksL (xs.map (Ab.ev st.vars)) ∧ withO (semQ k ((xs.map (Ab.ev st.vars)).map strip) st.objs) fun x => x.1 ∧ C (.put x.2) := by
      cases k <;> first | exact hs | (simp [isQ] at hq)
    obtain ⟨ha, hw⟩ := hs'
    obtain ⟨⟨φ, v⟩, he, hφ, hC⟩ := withO_inv hw
    obtain ⟨r, hr, hv⟩ := soundQ h hc hq ha he hφ
    exact wp_of_value hr ⟨_, β, hC, h.put hd hv⟩
  · have hmov : ∀ x : Operand, k = .mov → xs = [x] → (execOp a.eval o).run P w = .ok (.value (a.eval x)) w → o.wp P a w (fun a' w' => ∃ e β', C e ∧ Rel P S0 L B0 w0 N (e.on o.dst st) a' w' β') Q := by
      rintro x rfl rfl hr
      dsimp only [semK] at hs
      obtain ⟨y, hy, _, hC⟩ := withO_inv hs
      simp at hy
      subst hy
      exact wp_of_value hr ⟨_, β, hC, h.put hd (h.ev x)⟩
    have hnil : ∀ (x : Operand) (e : TypeId), k = .nilS e → (P.info? e).isSome = true → isNilSlice x = true → (execOp a.eval o).run P w = .ok (.value (a.eval x)) w → o.wp P a w (fun a' w' => ∃ e β', C e ∧ Rel P S0 L B0 w0 N (e.on o.dst st) a' w' β') Q := by
      rintro x e rfl hi hx hr
      dsimp only [semK] at hs
      obtain ⟨d, hdd, _, hw⟩ := withO_inv hs
      obtain ⟨⟨φ, v, ao⟩, he, hφ, hn, hC⟩ := withO_inv hw
      simp only [semF, Option.some.injEq, Prod.mk.injEq] at he
      obtain ⟨rfl, rfl, rfl⟩ := he
      rw [nil_eval hx] at hr
      obtain ⟨β', hR⟩ := f_nil h (hd d hdd) hn hi
      refine wp_of_value hr ⟨_, β', hC, ?_⟩
      rw [hdd]; exact hR
    rcases compOp_cases hc with hc | ⟨x, rfl, _⟩
    rotate_left
    · have hs : asksL (xs.map (Ab.ev st.vars)) ∧ withO (semQ (.ex x) ((xs.map (Ab.ev st.vars)).map strip) st.objs) fun x => x.1 ∧ C (.put x.2) := hs
      rw [semQ_ex] at hs
      exact hs.2.elim
    unfold compOp0 at hc
    split at hc
    · rename_i x ho
      have hr : (execOp a.eval o).run P w = .ok (.value (a.eval x)) w := by simp [execOp, ho]
      split at hc
      · rename_i hx
        split at hc
        · split at hc
          · rename_i hi
            cases hc; exact hnil x _ rfl hi hx hr
          · cases hc
        · cases hc
      · cases hc; exact hmov x rfl rfl hr
    · rename_i x ho
      have hr : (execOp a.eval o).run P w = .ok (.value (a.eval x)) w := by simp [execOp, ho]
      split at hc
      · rename_i hx
        split at hc
        · split at hc
          · rename_i hi
            cases hc; exact hnil x _ rfl hi hx hr
          · cases hc
        · cases hc
      · cases hc; exact hmov x rfl rfl hr
    · rename_i c x y ho
      cases hc
      dsimp only [semK] at hs
      obtain ⟨⟨φ, v⟩, he, hφ, hC⟩ := withO_inv hs
      obtain ⟨r, hr, hv⟩ := pick_sound h ho he hφ
      exact wp_of_value hr ⟨_, β, hC, h.put hd hv⟩
    · rename_i e ho
      obtain ⟨zs, hz, he⟩ := Option.map_eq_some_iff.1 hc
      cases he
      dsimp only [semK] at hs
      obtain ⟨d, hdd, _, hw⟩ := withO_inv hs
      obtain ⟨⟨φ, v, ao⟩, he, hφ, hn, hC⟩ := withO_inv hw
      obtain ⟨r, w', hr, β', hR⟩ := f_alloc ho hz h (hd d hdd) hn he
      refine wp_of_value hr ⟨_, β', hC, ?_⟩
      rw [hdd]; exact hR
    · rename_i e x ho
      cases hc
      dsimp only [semK] at hs
      obtain ⟨d, hdd, ha, hw⟩ := withO_inv hs
      obtain ⟨⟨φ, v, ao⟩, he, hφ, hn, hC⟩ := withO_inv hw
      obtain ⟨r, w', hr, β', hR⟩ := f_box ho h (hd d hdd) hn (h.evs x ha.1) he
      refine wp_of_value hr ⟨_, β', hC, ?_⟩
      rw [hdd]; exact hR
    · split at hc
      · split at hc
        · cases hc
        · obtain ⟨l, hl, he⟩ := Option.map_eq_some_iff.1 hc
          cases he; exact absurd rfl hq
      · cases hc
    · rename_i t n ps ho
      split at hc
      · rename_i e hu
        split at hc
        · rename_i sz zs hsz hz
          split at hc
          · rename_i hcond
            obtain ⟨_, hord, hbig, hzl, hpos⟩ := hcond
            cases hc
            dsimp only [semK] at hs
            obtain ⟨d, hdd, ha, hw⟩ := withO_inv hs
            obtain ⟨⟨φ, v, ao⟩, he, hφ, hn, hC⟩ := withO_inv hw
            obtain ⟨r, w', hr, β', hR⟩ := f_bsl ho hu hsz hz hord hbig hzl hpos h (hd d hdd) hn h.evs ha he hφ
            refine wp_of_value hr ⟨_, β', hC, ?_⟩
            rw [hdd]; exact hR
          · cases hc
        · cases hc
      · cases hc
    · obtain ⟨n, hn, he⟩ := Option.map_eq_some_iff.1 hc
      cases he; exact absurd rfl hq
    · rename_i t x y ho
      split at hc
      · rename_i hn
        split at hc
        · rename_i h1
          cases hc
          obtain ⟨ha, hw⟩ := hs
          obtain ⟨⟨φ, tg, ao⟩, he, hφ, hC⟩ := withO_inv hw
          obtain ⟨w', hr, β', hR⟩ := m_store1 ho h1 h hd (h.evs x ha.1) (h.evs y ha.2.1) he hφ
          exact wp_of_skip hr ⟨_, β', hC, hR⟩
        · cases hc
      · rename_i n hn
        cases hc
        obtain ⟨ha, hw⟩ := hs
        obtain ⟨⟨φ, tg, ao⟩, he, hφ, hC⟩ := withO_inv hw
        obtain ⟨w', hr, β', hR⟩ := m_storeN ho hn h hd (h.evs x ha.1) (h.evs y ha.2.1) he hφ
        exact wp_of_skip hr ⟨_, β', hC, hR⟩
      · cases hc
    · split at hc
      · split at hc <;> first | (cases hc; exact absurd rfl hq) | cases hc
      · cases hc; exact absurd rfl hq
      · cases hc; exact absurd rfl hq
      · split at hc
        · split at hc
          · split at hc <;> first | (cases hc; exact absurd rfl hq) | cases hc
          · cases hc
        · cases hc
      · cases hc
    · cases hc; exact absurd rfl hq
    · cases hc; exact absurd rfl hq
    · split at hc
      · cases hc; exact absurd rfl hq
      · cases hc; exact absurd rfl hq
      · split at hc
        · cases hc; exact absurd rfl hq
        · cases hc
      · split at hc
        · cases hc; exact hs.2.elim
        · cases hc
      · cases hc
    · split at hc
      · split at hc
        · split at hc
          · cases hc; exact absurd rfl hq
          · cases hc
        · cases hc
      · cases hc
    · split at hc
      · split at hc
        · obtain ⟨n, hn, he⟩ := Option.map_eq_some_iff.1 hc
          cases he; exact absurd rfl hq
        · cases hc
      · cases hc
    · split at hc
      · obtain ⟨n, hn, he⟩ := Option.map_eq_some_iff.1 hc
        cases he; exact absurd rfl hq
      · obtain ⟨n, hn, he⟩ := Option.map_eq_some_iff.1 hc
        cases he; exact absurd rfl hq
      · cases hc
    · split at hc
      · cases hc; exact absurd rfl hq
      · cases hc
    · split at hc
      · cases hc; exact absurd rfl hq
      · obtain ⟨n, hn, he⟩ := Option.map_eq_some_iff.1 hc
        cases he; exact absurd rfl hq
      · cases hc
    · cases hc; exact absurd rfl hq
    · cases hc; exact absurd rfl hq
    · split at hc
      · cases hc; exact absurd rfl hq
      · cases hc
    · rename_i c ho
      obtain ⟨callee, args, argTypes⟩ := c
      unfold compCall at hc
      simp only at hc
      split at hc
      · rename_i b
        unfold compBuiltin at hc
        split at hc
        · split at hc <;> first | (cases hc; exact absurd rfl hq) | cases hc
        · -- append
          rename_i x y t tx hx ht
          have hx' : args = #[x, y] := by apply Array.ext'; simpa using hx
          have ht' : argTypes = #[t, tx] := by apply Array.ext'; simpa using ht
          subst hx' ht'
          have happ : ∀ (e : TypeId) (inf : TypeInfo), P.underlying t = some (.slice e) → ((∃ e', P.underlying tx = some (.slice e')) ∨ P.underlying tx = some .string) → P.info? e = some inf → 0 < inf.size → (zeroT P e).isSome = true →
              semK P Γ o.dst (.app e inf.size inf.bytes) ([x, y].map (Ab.ev st.vars)) st.objs C → o.wp P a w (fun a' w' => ∃ e β', C e ∧ Rel P S0 L B0 w0 N (e.on o.dst st) a' w' β') Q := by
            intro e inf hu hux hi hpos hzt hs
            obtain ⟨ha, hw⟩ := hs
            split at hw
            · obtain ⟨⟨φ, tg, ao⟩, he, hφ, hC⟩ := withO_inv hw
              obtain ⟨r, w', hr, β', hR⟩ := m_app ho hu hux hi hpos hzt h hd (h.evs x ha.1) (h.evs y ha.2.1) he hφ
              exact wp_of_value hr ⟨_, β', hC, hR⟩
            · obtain ⟨d, hdd, hw⟩ := withO_inv hw
              obtain ⟨⟨φ, v, ao⟩, he, hφ, hn, hC⟩ := withO_inv hw
              obtain ⟨r, w', hr, β', hR⟩ := f_app ho hu hux hi hpos hzt h (hd d hdd) hn (h.evs x ha.1) (h.evs y ha.2.1) he hφ
              refine wp_of_value hr ⟨_, β', hC, ?_⟩
              rw [hdd]; exact hR
          split at hc
          · rename_i e hu hux
            split at hc
            · rename_i inf hi
              split at hc
              · rename_i hcond
                cases hc
                exact happ e inf hu (.inr hux) hi (by omega) hcond.2 hs
              · cases hc
            · cases hc
          · rename_i e e' hu hux
            split at hc
            · rename_i inf hi
              split at hc
              · rename_i hcond
                cases hc
                exact happ e inf hu (.inl ⟨e', hux⟩) hi hcond.1 hcond.2 hs
              · cases hc
            · cases hc
          · cases hc
        · cases hc; exact absurd rfl hq
        · cases hc; exact absurd rfl hq
        · repeat' (split at hc)
          all_goals first | (cases hc; exact hs.2.elim) | cases hc
        · cases hc
      · rename_i f
        split at hc
        · rename_i hf
          cases hc
          dsimp only [semK] at hs
          dsimp only [semCall] at hs
          obtain ⟨d, hdd, ha, hw⟩ := withO_inv hs
          obtain ⟨ys, hys, hw⟩ := withO_inv hw
          obtain ⟨⟨φ, r⟩, hr, hφ, hpf, hfree, hres, hC⟩ := withO_inv hw
          have hcon := hΓ.con (isFn_lt hf) hr hφ
          have hdlt : d < N := hd d hdd
          have hlim := h.lim
          have hd9 : d % 1000 ≠ 999 := by omega
          refine sound_call h hd9 ho hf ha hys hcon hpf hfree hres ?_
          intro v w' β' hR hv
          refine ⟨_, β', hC, ?_⟩
          exact hR.put hd hv
        · cases hc
      · cases hc; exact hs.2.elim
      · cases hc
    · cases hc

end
end Go.Proofs.Ythblkhafehanfaa.Ab
