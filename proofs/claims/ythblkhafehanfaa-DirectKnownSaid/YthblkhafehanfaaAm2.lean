/- The abstract machine is sound: maps of plain values, ranges over them, pointers held against nil. -/
import Derived.Test.YthblkhafehanfaaAb14
import Derived.Test.YthblkhafehanfaaAm0
import Derived.MapKept
import Derived.Maps.RangeRun
import Derived.Laws.Pointers
namespace Go.Proofs.Ythblkhafehanfaa.Ab
open Go Go.RowKit
set_option linter.unusedVariables false
set_option linter.unusedSimpArgs false

theorem find_mapV {d : TypeDesc} {k : PV} {s : Nat} (hd : ∀ k, srt k = s → MapKept.IsKey d (keyV k)) (hk : srt k = s) (hs : s < 99) : ∀ (us : List MapEntry) (es : List (PV × PV)) (n : Nat), keysV s es → us.length = es.length → (∀ (i : Nat) (e : PV × PV) (u : MapEntry), es[i]? = some e → us[i]? = some u → u.key = keyV e.1) →
    (Instr.findNow d (keyV k) us n = some none ∧ getV k es = none ∧ (∀ v, putV k v es = es ++ [(k, v)]) ∧ delV k es = es ∧ ∀ u ∈ us, u.key ≠ keyV k) ∨
    ∃ j e u, Instr.findNow d (keyV k) us n = some (some (n + j, u.val)) ∧ es[j]? = some e ∧ us[j]? = some u ∧ u.key = keyV k ∧ getV k es = some e.2 ∧ (∀ v, putV k v es = es.set j (k, v)) ∧ delV k es = es.eraseIdx j
  | [], [], _, _, _, _ => .inl ⟨rfl, rfl, fun v => rfl, rfl, fun u hu => by simp at hu⟩
  | [], _ :: _, _, _, hl, _ => by simp at hl
  | _ :: _, [], _, _, hl, _ => by simp at hl
  | u :: us, e :: es, n, hks, hl, hu => by
    have h1 := hu 0 e u rfl rfl
    have hke := hks e (by simp)
    obtain ⟨r, hr, hiff⟩ := MapKept.sameNow_of_keys (hd k hk) (hd e.1 hke)
    rw [← h1] at hr
    cases r with
    | true =>
      have h2 : keyV k = keyV e.1 := hiff.1 rfl
      have h3 : eqP k e.1 = true := (eqP_keyV hk hke hs).2 h2.symm
      exact .inr ⟨0, e, u, by simp [Instr.findNow, hr], rfl, rfl, h1.trans h2.symm, by simp only [getV]; rw [if_pos h3], fun v => by simp only [putV]; rw [if_pos h3]; rfl, by simp only [delV]; rw [if_pos h3]; rfl⟩
    | false =>
      have h3 : ¬ eqP k e.1 = true := fun h => by have := hiff.2 ((eqP_keyV hk hke hs).1 h).symm; cases this
      have h4 : u.key ≠ keyV k := fun h => by have := hiff.2 (h.symm.trans h1); cases this
      rcases find_mapV hd hk hs us es (n + 1) (fun x hx => hks x (by simp [hx])) (by simpa using hl) (fun i x y hx hy => hu (i + 1) x y (by simpa using hx) (by simpa using hy)) with ⟨g1, g2, g3, g4, g5⟩ | ⟨j, e', u', g1, g2, g3, g4, g5, g6, g7⟩
      · refine .inl ⟨by simp [Instr.findNow, hr, g1], by simp only [getV]; rw [if_neg h3]; exact g2, fun v => by simp only [putV]; rw [if_neg h3, g3 v]; rfl, by simp only [delV]; rw [if_neg h3, g4], fun x hx => ?_⟩
        rcases List.mem_cons.1 hx with rfl | hx
        · exact h4
        · exact g5 x hx
      · exact .inr ⟨j + 1, e', u', by simp [Instr.findNow, hr, g1]; omega, by simpa using g2, by simpa using g3, g4, by simp only [getV]; rw [if_neg h3]; exact g5, fun v => by simp only [putV]; rw [if_neg h3, g6 v]; rfl, by simp only [delV]; rw [if_neg h3, g7]; rfl⟩

theorem mpvO_inv {q : Option AO} {es : List (PV × PV)} (h : mpvO q = some es) : q = some (.mpv es) := by
  unfold mpvO at h
  split at h
  · cases h; rfl
  · cases h
theorem itrO_inv {q : Option AO} {r : List (PV × PV) × Option (PV × PV)} (h : itrO q = some r) : q = some (.itr r.1 r.2) := by
  unfold itrO at h
  split at h
  · cases h; rfl
  · cases h
theorem RPV.keyV {S : Nat → Prop} {w : World} {p : PV} (h : srt p < 99) : RPV S w (keyV p) p := by
  cases p with
  | int k n => exact .int k n
  | bool b => exact .bool b
  | str l => exact .str l
  | _ => simp [srt] at h
theorem RPV.oneC {S : Nat → Prop} {w : World} {u : Value} {p : PV} (h : RPV S w u p) : u.oneCell' = true := by
  cases h <;> first | rfl | assumption

section
variable {P : Program} {Γ : Tab} {S0 L : Nat → Prop} {B0 : Nat → Value} {w0 w : World} {N : Nat} {st : St} {a : Act} {β : Nat → Value} {o : Oper} {xs : List Operand}

/-- A block of the call's own, written anew. -/
theorem Rel.setO (h : Rel P S0 L B0 w0 N st a w β) {t b : Nat} {q q' : AO} {ob ob' : Obj} (ht : st.objs t = some q) (hblk : blk (β t) = some b) (hh : w.heap[b]? = some ob)
    (hq : ∀ {S' : Nat → Prop} {w' : World}, w'.heap[b]? = some ob' → (∀ k, okS S0 w0.heap.size β st.objs w k → S' k ∧ w'.heap[k]? = w.heap[k]?) → HoldsO P S' w' β (dom (addO t q' st.objs)) t q') :
    Rel P S0 L B0 w0 N ⟨st.vars, addO t q' st.objs⟩ a { w with heap := w.heap.setIfInBounds b ob' } β ∧
    ∀ k, okS S0 w0.heap.size β st.objs w k → okS S0 w0.heap.size β (addO t q' st.objs) { w with heap := w.heap.setIfInBounds b ob' } k ∧ (w.heap.setIfInBounds b ob')[k]? = w.heap[k]? := by
  have hset := MapKept.heap_set (o' := ob') hh
  have hmo : ∀ k, okS S0 w0.heap.size β st.objs w k → okS S0 w0.heap.size β (addO t q' st.objs) { w with heap := w.heap.setIfInBounds b ob' } k ∧ (w.heap.setIfInBounds b ob')[k]? = w.heap[k]? := by
    rintro k ⟨g1, g2, g3⟩
    have hkb : k ≠ b := fun e => g3 ⟨t, _, ht, by rw [e]; exact hblk⟩
    refine ⟨⟨g1, by simpa using g2, ?_⟩, hset.2 k hkb⟩
    rintro ⟨s, q, hs, hk⟩
    by_cases e : s = t
    · subst e; exact hkb (by rw [hblk] at hk; injection hk with hk; exact hk.symm)
    · exact g3 ⟨s, q, by simpa [addO, e] using hs, hk⟩
  exact ⟨(h.upd (w' := { w with heap := w.heap.setIfInBounds b ob' }) (o' := q') ht hblk rfl rfl rfl (by simp) hset.2 (hq hset.1 hmo)).1, hmo⟩

theorem ex_mkv {t : TypeId} {d : Nat} (ho : o.op = .makeMap t none) (h : Rel P S0 L B0 w0 N st a w β) (hd : d < N) (ht : st.objs d = none) :
    ∃ v w' β', (execOp a.eval o).run P w = .ok (.value v) w' ∧ Rel P S0 L B0 w0 N ⟨Ab.put (some d) (.own d) st.vars, addL [(d, .mpv [])] st.objs⟩ (a.put (some d) v) w' β' := by
  have hf := h.fresh hd ht (grown_alloc w (.map #[] 0)) (v := .map (some w.heap.size)) (fun b hb => by simp [blk] at hb; omega) (o := .mpv [])
    ⟨w.heap.size, #[], 0, setβ_same _ _ _, heap_alloc_new w _, MapKept.stamped_empty 0, rfl, fun i e u h1 => by simp at h1⟩
  rw [addL_one]
  refine ⟨.map (some w.heap.size), w.alloc (.map #[] 0), _, by simp [execOp, ho, Instr.makeMap, Result.andThen], hf.put (d := some d) (fun s hs => by injection hs with hs; omega) ?_⟩
  have := RV.own (P := P) (S := okS S0 w0.heap.size (setβ β d (.map (some w.heap.size))) (addO d (.mpv []) st.objs) (w.alloc (.map #[] 0))) (w := w.alloc (.map #[] 0)) (β := setβ β d (.map (some w.heap.size))) (D := dom (addO d (.mpv []) st.objs)) d (dom_add.2 (.inl rfl))
  rwa [setβ_same] at this

theorem ex_puv {t : TypeId} {m k x : Operand} {kt et : TypeId} {s : Nat} (ho : (execOp a.eval o).run P w = (do Instr.mapUpdate t (a.eval m) (a.eval k) (a.eval x); pure Next.skip : Sem Next).run P w) (hm : mapT P t = some (kt, et)) (hsrt : srtT P kt = some s)
    (h : Rel P S0 L B0 w0 N st a w β) (hd : ∀ s, o.dst = some s → s < N) {X K Y : AV} (hX : RV P (okS S0 w0.heap.size β st.objs w) w β (dom st.objs) (a.eval m) X) (hK : RV P (okS S0 w0.heap.size β st.objs w) w β (dom st.objs) (a.eval k) K)
    (hY : RV P (okS S0 w0.heap.size β st.objs w) w β (dom st.objs) (a.eval x) Y) {tg : Nat} {p v : PV} {es : List (PV × PV)} (e1 : X = .own tg) (e2 : K = .pv p) (e3 : Y = .pv v) (hob : st.objs tg = some (.mpv es)) (hp : srt p = s) (hks : keysV s es) :
    ∃ w', (execOp a.eval o).run P w = .ok .skip w' ∧ Rel P S0 L B0 w0 N ⟨Ab.put o.dst .junk st.vars, addO tg (.mpv (putV p v es)) st.objs⟩ (a.put o.dst undef) w' β := by
  subst e1 e2 e3
  obtain ⟨b, us, c, hb, hh, hst, hl, hc⟩ := h.heap.holds tg _ hob
  have hmt := mapT_inv hm
  obtain ⟨d, hdk, hkey⟩ := srtT_key hsrt
  have hs99 := srt_lt hsrt
  have hmv : a.eval m = .map (some b) := hX.own_inv.1.trans hb
  have hkv : a.eval k = Ab.keyV p := key_val hK hp hs99
  have hblk : blk (β tg) = some b := by rw [hb]; rfl
  have hfind := find_mapV hkey hp hs99 us.toList es 0 hks hl fun i e u h1 h2 => (hc i e u h1 h2).1
  have hv := hY.pv_inv
  have main : ∀ (us' : Array MapEntry) (c' : Nat), (execOp a.eval o).run P w = .ok .skip { w with heap := w.heap.setIfInBounds b (.map us' c') } → MapKept.Stamped us' c' → us'.toList.length = (putV p v es).length →
      (∀ (i : Nat) (e : PV × PV) (u : MapEntry), (putV p v es)[i]? = some e → us'.toList[i]? = some u → (e = (p, v) ∧ u.key = Ab.keyV p ∧ u.val = a.eval x) ∨ ∃ j : Nat, es[j]? = some e ∧ us.toList[j]? = some u) →
      ∃ w', (execOp a.eval o).run P w = .ok .skip w' ∧ Rel P S0 L B0 w0 N ⟨Ab.put o.dst .junk st.vars, addO tg (.mpv (putV p v es)) st.objs⟩ (a.put o.dst undef) w' β := by
    intro us' c' hrun hst' hl' hc'
    refine ⟨_, hrun, (h.setO (q' := .mpv (putV p v es)) (ob' := .map us' c') hob hblk hh fun {S' w'} hw' hmo => ⟨b, us', c', hb, hw', hst', hl', fun i e u h1 h2 => ?_⟩).1.put hd (.junk _)⟩
    rcases hc' i e u h1 h2 with ⟨rfl, g1, g2⟩ | ⟨j, g1, g2⟩
    · rw [g2]; exact ⟨g1, by show srt p < 99; omega, hv.oneC, hv.mono hmo⟩
    · have := hc j e u g1 g2
      exact ⟨this.1, this.2.1, this.2.2.1, this.2.2.2.mono hmo⟩
  rcases hfind with ⟨h1, h2, h3, _, h5⟩ | ⟨j, e, u, h1, h2, h3, h4, h5, h6, _⟩
  · refine main (us.push { key := Ab.keyV p, val := a.eval x, born := c }) (c + 1) ?_ (MapKept.stamped_push hst h5) ?_ ?_
    · rw [ho, hmv, hkv]
      simp [Instr.mapUpdate, run_underlying hmt, MapKept.run_getObj_map hh, MapKept.run_checkKey hdk (hkey p hp), MapKept.run_findKey hdk h1, MapKept.run_setObj_map _ hh, Result.andThen]
    · rw [h3]; simpa using hl
    · intro i e u g1 g2
      rw [h3] at g1
      simp only [Array.toList_push] at g2
      by_cases hi : i < es.length
      · rw [List.getElem?_append_left hi] at g1
        rw [List.getElem?_append_left (by omega)] at g2
        exact .inr ⟨i, g1, g2⟩
      · rw [List.getElem?_append_right (by omega)] at g1
        rw [List.getElem?_append_right (by omega), hl] at g2
        cases hz : i - es.length with
        | zero =>
          rw [hz] at g1 g2
          simp only [List.getElem?_cons_zero, Option.some.injEq] at g1 g2
          subst g1 g2
          exact .inl ⟨rfl, rfl, rfl⟩
        | succ n => rw [hz] at g1; simp at g1
  · have hj : us[j]? = some u := by simpa using h3
    refine main (us.modify j fun e => { e with key := Ab.keyV p, val := a.eval x }) c ?_ (MapKept.stamped_modify hst _ _ (fun _ _ => rfl) fun e' he' hje => ?_) ?_ ?_
    · rw [ho, hmv, hkv]
      rw [Nat.zero_add] at h1
      simp [Instr.mapUpdate, run_underlying hmt, MapKept.run_getObj_map hh, MapKept.run_checkKey hdk (hkey p hp), MapKept.run_findKey hdk h1, hj, h4, MapKept.run_keyThatStays (hkey p hp), MapKept.run_setObj_map _ hh, Result.andThen]
    · rw [hj] at hje; cases hje; exact h4.symm
    · rw [h6]; simpa using hl
    · intro i e' u' g1 g2
      rw [h6] at g1
      have g2' : (us.modify j fun e => { e with key := Ab.keyV p, val := a.eval x })[i]? = some u' := by rw [← Array.getElem?_toList]; exact g2
      rw [Array.getElem?_modify] at g2'
      rw [List.getElem?_set] at g1
      by_cases hij : j = i
      · subst hij
        rw [if_pos rfl, hj] at g2'
        rw [if_pos rfl] at g1
        split at g1
        · simp only [Option.some.injEq, Option.map_some] at g1 g2'
          subst g1 g2'
          exact .inl ⟨rfl, rfl, rfl⟩
        · cases g1
      · rw [if_neg hij] at g1 g2'
        exact .inr ⟨i, g1, by simpa using g2'⟩

theorem ex_dlv {t kt et : TypeId} {m k : Operand} {s : Nat} (ho : o.op = .call { callee := .builtin .delete, args := #[m, k], argTypes := #[t, kt] }) (hm : mapT P t = some (kt, et)) (hsrt : srtT P kt = some s)
    (h : Rel P S0 L B0 w0 N st a w β) (hd : ∀ s, o.dst = some s → s < N) {X K : AV} (hX : RV P (okS S0 w0.heap.size β st.objs w) w β (dom st.objs) (a.eval m) X) (hK : RV P (okS S0 w0.heap.size β st.objs w) w β (dom st.objs) (a.eval k) K)
    {tg : Nat} {p : PV} {es : List (PV × PV)} (e1 : X = .own tg) (e2 : K = .pv p) (hob : st.objs tg = some (.mpv es)) (hp : srt p = s) (hks : keysV s es) :
    ∃ v w', (execOp a.eval o).run P w = .ok (.value v) w' ∧ Rel P S0 L B0 w0 N ⟨Ab.put o.dst .junk st.vars, addO tg (.mpv (delV p es)) st.objs⟩ (a.put o.dst v) w' β := by
  subst e1 e2
  obtain ⟨b, us, c, hb, hh, hst, hl, hc⟩ := h.heap.holds tg _ hob
  have hmt := mapT_inv hm
  obtain ⟨d, hdk, hkey⟩ := srtT_key hsrt
  have hs99 := srt_lt hsrt
  have hmv : a.eval m = .map (some b) := hX.own_inv.1.trans hb
  have hkv : a.eval k = Ab.keyV p := key_val hK hp hs99
  have hblk : blk (β tg) = some b := by rw [hb]; rfl
  have hfind := find_mapV hkey hp hs99 us.toList es 0 hks hl fun i e u h1 h2 => (hc i e u h1 h2).1
  have main : ∀ (us' : Array MapEntry), (execOp a.eval o).run P w = .ok (.value (.tuple #[])) { w with heap := w.heap.setIfInBounds b (.map us' c) } → MapKept.Stamped us' c → us'.toList.length = (delV p es).length →
      (∀ (i : Nat) (e : PV × PV) (u : MapEntry), (delV p es)[i]? = some e → us'.toList[i]? = some u → ∃ j : Nat, es[j]? = some e ∧ us.toList[j]? = some u) →
      ∃ v w', (execOp a.eval o).run P w = .ok (.value v) w' ∧ Rel P S0 L B0 w0 N ⟨Ab.put o.dst .junk st.vars, addO tg (.mpv (delV p es)) st.objs⟩ (a.put o.dst v) w' β := by
    intro us' hrun hst' hl' hc'
    refine ⟨_, _, hrun, (h.setO (q' := .mpv (delV p es)) (ob' := .map us' c) hob hblk hh fun {S' w'} hw' hmo => ⟨b, us', c, hb, hw', hst', hl', fun i e u h1 h2 => ?_⟩).1.put hd (.junk _)⟩
    obtain ⟨j, g1, g2⟩ := hc' i e u h1 h2
    have := hc j e u g1 g2
    exact ⟨this.1, this.2.1, this.2.2.1, this.2.2.2.mono hmo⟩
  rcases hfind with ⟨h1, h2, h3, h4, h5⟩ | ⟨j, e, u, h1, h2, h3, h4, h5, h6, h7⟩
  · refine main us ?_ hst (by rw [h4]; exact hl) (by rw [h4]; exact fun i e u g1 g2 => ⟨i, g1, g2⟩)
    simp [execOp, ho, resolve, invoke, builtin, hmv, hkv, Builtin.delete_, run_underlying hmt, MapKept.run_getObj_map hh, MapKept.run_checkKey hdk (hkey p hp), MapKept.run_findKey hdk h1, MapKept.run_setObj_map _ hh, Result.andThen]
  · have hj : us[j]? = some u := by simpa using h3
    have hjl : j < us.size := (Array.getElem?_eq_some_iff.1 hj).1
    have hel : (us.eraseIdxIfInBounds j).toList = us.toList.eraseIdx j := by
      unfold Array.eraseIdxIfInBounds
      rw [dif_pos hjl, Array.toList_eraseIdx]
    refine main (us.eraseIdxIfInBounds j) ?_ (MapKept.stamped_erase hst j) ?_ ?_
    · rw [Nat.zero_add] at h1
      simp [execOp, ho, resolve, invoke, builtin, hmv, hkv, Builtin.delete_, run_underlying hmt, MapKept.run_getObj_map hh, MapKept.run_checkKey hdk (hkey p hp), MapKept.run_findKey hdk h1, MapKept.run_setObj_map _ hh, Result.andThen]
    · have h8 : j < es.length := by rw [← hl]; exact hjl
      rw [hel, h7, List.length_eraseIdx_of_lt hjl, List.length_eraseIdx_of_lt h8, hl]
    · intro i e' u' g1 g2
      rw [hel, List.getElem?_eraseIdx] at g2
      rw [h7, List.getElem?_eraseIdx] at g1
      split at g1
      · rename_i hi; rw [if_pos hi] at g2; exact ⟨i, g1, g2⟩
      · rename_i hi; rw [if_neg hi] at g2; exact ⟨i + 1, g1, g2⟩

/-- A map of plain values, the call's own or not. -/
theorem mvOf_holds (h : Rel P S0 L B0 w0 N st a w β) {v : Value} {X : AV} (hX : RV P (okS S0 w0.heap.size β st.objs w) w β (dom st.objs) v X) {es : List (PV × PV)} (hm : mvOf st.objs X = some es) :
    ∃ b us c, v = .map (some b) ∧ w.heap[b]? = some (.map us c) ∧ MapKept.Stamped us c ∧ us.toList.length = es.length ∧
      ∀ (i : Nat) (e : PV × PV) (u : MapEntry), es[i]? = some e → us.toList[i]? = some u → u.key = Ab.keyV e.1 ∧ srt e.1 < 99 ∧ u.val.oneCell' = true ∧ RPV (okS S0 w0.heap.size β st.objs w) w u.val e.2 := by
  unfold mvOf at hm
  split at hm
  · rename_i t
    obtain ⟨b, us, c, hb, hh, hst, hl, hc⟩ := h.heap.holds t _ (mpvO_inv hm)
    exact ⟨b, us, c, hX.own_inv.1.trans hb, hh, hst, hl, hc⟩
  · cases hm
    have h1 := hX.pv_inv
    cases h1 with
    | mv b us c es g1 g2 g3 g4 g5 g6 => exact ⟨b, us, c, rfl, g2, g3, g4, fun i e u a1 a2 => ⟨(g5 i e u a1 a2).1, (g5 i e u a1 a2).2.1, (g5 i e u a1 a2).2.2, g6 i e u a1 a2⟩⟩
  · cases hm

theorem ex_gev {t : TypeId} {m k : Operand} {kt et : TypeId} {s : Nat} {z : Value} {ok : Bool} (ho : o.op = .lookup t m k ok) (hm : mapT P t = some (kt, et)) (hsrt : srtT P kt = some s) (hz : zeroV P et = some z) (hz1 : z.oneCell' = true)
    (h : Rel P S0 L B0 w0 N st a w β) (hd : ∀ s, o.dst = some s → s < N) {X K : AV} (hX : RV P (okS S0 w0.heap.size β st.objs w) w β (dom st.objs) (a.eval m) X) (hK : RV P (okS S0 w0.heap.size β st.objs w) w β (dom st.objs) (a.eval k) K)
    {p : PV} {es : List (PV × PV)} (e2 : K = .pv p) (hob : mvOf st.objs X = some es) (hp : srt p = s) (hks : keysV s es) :
    ∃ v, (execOp a.eval o).run P w = .ok (.value v) w ∧ Rel P S0 L B0 w0 N ⟨Ab.put o.dst (gotV z ok (getV p es)) st.vars, st.objs⟩ (a.put o.dst v) w β := by
  subst e2
  obtain ⟨b, us, c, hmv, hh, hst, hl, hc⟩ := mvOf_holds h hX hob
  have hmt := mapT_inv hm
  obtain ⟨d, hdk, hkey⟩ := srtT_key hsrt
  have hs99 := srt_lt hsrt
  have hkv : a.eval k = Ab.keyV p := key_val hK hp hs99
  have hzr : (zeroValue et).run P w = .ok z w := by
    unfold zeroV at hz
    obtain ⟨i, hi, hz⟩ := Option.bind_eq_some_iff.1 hz
    simp [zeroValue, typeInfo, hi, hz]
  have hfind := find_mapV hkey hp hs99 us.toList es 0 hks hl fun i e u h1 h2 => (hc i e u h1 h2).1
  have fin : ∀ (v : Value) (x : PV) (f : Bool), (Instr.lookup t (.map (some b)) (Ab.keyV p) ok).run P w = .ok (if ok = true then .tuple #[v, .bool f] else v) w → RPV (okS S0 w0.heap.size β st.objs w) w v x →
      ∃ v, (execOp a.eval o).run P w = .ok (.value v) w ∧ Rel P S0 L B0 w0 N ⟨Ab.put o.dst (if ok = true then .tup [.pv x, .pv (.bool f)] else .pv x) st.vars, st.objs⟩ (a.put o.dst v) w β := by
    intro v x f hrun hv
    refine ⟨_, by simp only [execOp, ho, hmv, hkv]; simp [hrun, Result.andThen]; rfl, h.put hd ?_⟩
    cases ok with
    | false => exact .pv _ _ hv
    | true =>
      refine .tup _ [v, .bool f] rfl fun i c u h1 h2 => ?_
      match i with
      | 0 => simp at h1 h2; subst h1 h2; exact .pv _ _ hv
      | 1 => simp at h1 h2; subst h1 h2; exact .pv _ _ (.bool f)
      | i + 2 => simp at h1
  unfold gotV
  rcases hfind with ⟨h1, h2, _⟩ | ⟨j, e, u, h1, h2, h3, h4, h5, _⟩
  · rw [h2]
    refine fin z (cvp z) false ?_ (cvp_sound _ _ z hz1)
    simp [Instr.lookup, run_underlying hmt, MapKept.run_getObj_map hh, MapKept.run_checkKey hdk (hkey p hp), MapKept.run_findKey hdk h1, hzr, Result.andThen]
  · rw [h5]
    refine fin u.val e.2 true ?_ (hc j e u h2 h3).2.2.2
    simp [Instr.lookup, run_underlying hmt, MapKept.run_getObj_map hh, MapKept.run_checkKey hdk (hkey p hp), MapKept.run_findKey hdk h1, Result.andThen]

theorem ex_pnil {ne : Bool} {t e yt : TypeId} {x : Operand} (ho : o.op = .binOp (if ne = true then .neq else .eql) t x (.const (.pointer none)) yt) (hu : P.underlying t = some (.pointer e))
    (h : Rel P S0 L B0 w0 N st a w β) (hd : ∀ s, o.dst = some s → s < N) {X : AV} (hX : RV P (okS S0 w0.heap.size β st.objs w) w β (dom st.objs) (a.eval x) X) {b : Bool} (hb : isNilP X = some b) :
    ∃ v, (execOp a.eval o).run P w = .ok (.value v) w ∧ Rel P S0 L B0 w0 N ⟨Ab.put o.dst (.pv (.bool (b != ne))) st.vars, st.objs⟩ (a.put o.dst v) w β := by
  have hv : ∃ A, a.eval x = .pointer A ∧ A.isNone = b := by
    unfold isNilP at hb
    split at hb
    · cases hb; obtain ⟨b', e, _⟩ := hX.ptr_inv; exact ⟨_, e, rfl⟩
    · cases hb; obtain ⟨b', n, c, inf, e, _⟩ := hX.eptr_inv; exact ⟨_, e, rfl⟩
    · cases hb; obtain ⟨ad, us, e, _⟩ := hX.rp_inv; exact ⟨_, e, rfl⟩
    · cases hb
      have h1 := hX.pv_inv
      generalize a.eval x = u at h1 ⊢
      cases h1 with
      | pt ad cs us _ _ _ _ => exact ⟨_, rfl, rfl⟩
    · split at hb
      · cases hb
        have h1 := hX.pv_inv
        generalize a.eval x = u at h1 ⊢
        cases h1 with
        | val v hv => exact ⟨none, rfl, rfl⟩
      · cases hb
    · cases hb
  obtain ⟨A, hxv, hA⟩ := hv
  have hu' : P.underlying t = some (.pointer (P.pointee t)) := by
    rw [hu]; unfold Program.pointee; rw [hu]
  have hg : ∀ op, (eqGuard op t x (.const (.pointer none)) (.pointer A) (.pointer none)).run P w = .ok () w := by
    intro op
    unfold eqGuard
    cases op <;> simp <;> rfl
  refine ⟨.bool (b != ne), ?_, h.put hd (.pv _ _ (.bool _))⟩
  have hev : a.eval (.const (.pointer none)) = .pointer none := rfl
  cases ne with
  | false => simp [execOp, ho, hxv, hev, hg, run_eql_pointer_nil w t A hu', Result.andThen, hA]
  | true => simp [execOp, ho, hxv, hev, hg, run_neq_pointer_nil w t A hu', Result.andThen, hA]

theorem ex_rng {t kt et : TypeId} {x : Operand} {d : Nat} (ho : o.op = .range t x) (hm : mapT P t = some (kt, et)) (h : Rel P S0 L B0 w0 N st a w β) (hd : d < N) (ht : st.objs d = none) {es : List (PV × PV)}
    (hX : RV P (okS S0 w0.heap.size β st.objs w) w β (dom st.objs) (a.eval x) (.pv (.mv es))) :
    ∃ v w' β', (execOp a.eval o).run P w = .ok (.value v) w' ∧ Rel P S0 L B0 w0 N ⟨Ab.put (some d) (.ptr d 0) st.vars, addL [(d, .itr es none)] st.objs⟩ (a.put (some d) v) w' β' := by
  have h1 := hX.pv_inv
  generalize hxv : a.eval x = xv at h1
  cases h1 with
  | mv b us c es g1 g2 g3 g4 g5 g6 =>
    have hmt := mapT_inv hm
    have hlo : leftOf us #[] = us := by unfold leftOf; simp
    let it : Obj := .mapIter (some b) c #[] c
    have hbl : b < w.heap.size := g1.2.1
    have hgr := grown_alloc w it
    have hmono : ∀ k, okS S0 w0.heap.size β st.objs w k → okS S0 w0.heap.size (setβ β d (.pointer (some ⟨w.heap.size, 0, none⟩))) (addO d (.itr es none) st.objs) (w.alloc it) k ∧ (w.alloc it).heap[k]? = w.heap[k]? := by
      intro k hk
      refine ⟨⟨hk.1, Nat.lt_of_lt_of_le hk.2.1 hgr.size, ?_⟩, hgr.block k hk.2.1 (by simp)⟩
      rintro ⟨s, q, hs, hb⟩
      by_cases e : s = d
      · subst e; rw [setβ_same] at hb; simp [blk] at hb; have := hk.2.1; omega
      · rw [setβ_ne _ _ e] at hb; exact hk.2.2 ⟨s, q, by simpa [addO, e] using hs, hb⟩
    have hf := h.fresh hd ht hgr (v := .pointer (some ⟨w.heap.size, 0, none⟩)) (fun b hb => by simp [blk] at hb; omega) (o := .itr es none)
      ⟨w.heap.size, b, us, c, #[], setβ_same _ _ _, heap_alloc_new w _, (hmono b g1).1, (hmono b g1).2.trans g2, g3, by rw [hlo]; exact g4, fun i e u h1 h2 => by
        rw [hlo] at h2
        exact ⟨(g5 i e u h1 h2).1, (g5 i e u h1 h2).2.1, (g5 i e u h1 h2).2.2, (g6 i e u h1 h2).mono hmono⟩, fun e he => by cases he⟩
    rw [addL_one]
    refine ⟨.pointer (some ⟨w.heap.size, 0, none⟩), w.alloc it, _, by simp [execOp, ho, hxv, Instr.range, run_underlying hmt, MapKept.run_getObj_map g2, Result.andThen, it], hf.put (d := some d) (fun s hs => by injection hs with hs; omega) ?_⟩
    exact .ptr d 0 w.heap.size (dom_add.2 (.inl rfl)) (setβ_same _ _ _)

theorem ex_ent {x : Operand} (ho : o.op = .entry x) (h : Rel P S0 L B0 w0 N st a w β) (hd : ∀ s, o.dst = some s → s < N) {tg : Nat} {rem : List (PV × PV)} {e : PV × PV} (hob : st.objs tg = some (.itr rem (some e)))
    (hX : RV P (okS S0 w0.heap.size β st.objs w) w β (dom st.objs) (a.eval x) (.ptr tg 0)) :
    ∃ v, (execOp a.eval o).run P w = .ok (.value v) w ∧ Rel P S0 L B0 w0 N ⟨Ab.put o.dst (.tup [.pv e.1, .pv e.2]) st.vars, st.objs⟩ (a.put o.dst v) w β := by
  obtain ⟨r, m, us, c, seen, hp, hh, hm, hmm, hst, hl, hc, hcur⟩ := h.heap.holds tg _ hob
  obtain ⟨u, s', rfl, hu, hk, hk99, hone, hv⟩ := hcur e rfl
  obtain ⟨b, hxv, _, hb⟩ := hX.ptr_inv
  rw [hp] at hb
  have hb : r = b := by simpa using hb
  subst hb
  refine ⟨.tuple #[u.key, u.val], ?_, h.put hd (.tup _ [u.key, u.val] rfl fun i c w1 h1 h2 => ?_)⟩
  · have hr := run_entry_at (P := P) w r m c s' us c u hh hmm hu hst.2.1
    rw [← hxv] at hr
    simp only [execOp, ho]
    simp [hr, Result.andThen]
  · match i with
    | 0 => simp at h1 h2; subst h1 h2; rw [hk]; exact .pv _ _ (.keyV hk99)
    | 1 => simp at h1 h2; subst h1 h2; exact .pv _ _ hv
    | i + 2 => simp at h1

theorem Rel.drew' (h : Rel P S0 L B0 w0 N st a w β) {w1 : World} (hw : w1 = w ∨ w1 = w.drew) : Rel P S0 L B0 w0 N st a w1 β := by
  rcases hw with rfl | rfl
  · exact h
  · exact h.drew

theorem leftOf_push (us : Array MapEntry) (seen : Array Nat) (b : Nat) : (leftOf us (seen.push b)).toList = (leftOf us seen).toList.filter fun e => e.born != b := by
  unfold leftOf
  simp only [Array.toList_filter, List.filter_filter]
  congr 1
  funext e
  rw [Array.contains_push]
  cases h : seen.contains e.born <;> cases h2 : (e.born == b) <;> simp [bne, h2]

theorem filter_erase : ∀ (Ls : List MapEntry) (j : Nat) {e : MapEntry}, Ls[j]? = some e → (Ls.map (·.born)).Nodup → Ls.filter (fun x => x.born != e.born) = Ls.eraseIdx j
  | [], j, e, hj, _ => by simp at hj
  | y :: Ls, 0, e, hj, hnd => by
    rw [List.map_cons, List.nodup_cons] at hnd
    simp only [List.getElem?_cons_zero, Option.some.injEq] at hj
    subst hj
    rw [List.filter_cons, if_neg (by simp), List.eraseIdx_cons_zero, List.filter_eq_self]
    intro z hz
    simp only [bne_iff_ne, ne_eq]
    intro e; exact hnd.1 (e ▸ List.mem_map_of_mem hz)
  | y :: Ls, j + 1, e, hj, hnd => by
    rw [List.map_cons, List.nodup_cons] at hnd
    have hj' : Ls[j]? = some e := by simpa using hj
    have hne : y.born ≠ e.born := fun eq => hnd.1 (eq ▸ List.mem_map_of_mem (List.mem_of_getElem? hj'))
    rw [List.filter_cons, if_pos (by simpa using hne), List.eraseIdx_cons_succ, filter_erase Ls j hj' hnd.2]
theorem ex_nxt {x : Operand} (ho : o.op = .next x false) (h : Rel P S0 L B0 w0 N st a w β) (hd : ∀ s, o.dst = some s → s < N) {tg : Nat} {rem : List (PV × PV)} {cur : Option (PV × PV)} (hob : st.objs tg = some (.itr rem cur))
    (hX : RV P (okS S0 w0.heap.size β st.objs w) w β (dom st.objs) (a.eval x) (.ptr tg 0)) :
    (rem = [] ∧ ∃ v, (execOp a.eval o).run P w = .ok (.value v) w ∧ Rel P S0 L B0 w0 N ⟨Ab.put o.dst (.tup [.pv (.bool false)]) st.vars, st.objs⟩ (a.put o.dst v) w β) ∨
    ∃ e l m v w', rem = l ++ e :: m ∧ (execOp a.eval o).run P w = .ok (.value v) w' ∧ Rel P S0 L B0 w0 N ⟨Ab.put o.dst (.tup [.pv (.bool true), .pv e.1, .pv e.2]) st.vars, addO tg (.itr (l ++ m) (some e)) st.objs⟩ (a.put o.dst v) w' β := by
  obtain ⟨r, m, us, c, seen, hp, hh, hm, hmm, hst, hl, hc, hcur⟩ := h.heap.holds tg _ hob
  obtain ⟨b, hxv, _, hb⟩ := hX.ptr_inv
  rw [hp] at hb
  have hb : r = b := by simpa using hb
  subst hb
  have hblk : blk (β tg) = some r := by rw [hp]; rfl
  rcases run_next_at (P := P) w o.type r m c c seen us c hh hmm hst.1 (Nat.le_refl _) with ⟨h0, hrun⟩ | ⟨e, he, w1, hw1, hrun⟩
  · left
    have hrem : rem = [] := by
      apply List.eq_nil_of_length_eq_zero
      rw [← hl, Array.length_toList, h0]
    rw [← hxv] at hrun
    refine ⟨hrem, .tuple #[.bool false], by simp only [execOp, ho]; simp [hrun, Result.andThen], h.put hd (.tup _ [.bool false] rfl fun i c u h1 h2 => ?_)⟩
    match i with
    | 0 => simp at h1 h2; subst h1 h2; exact .pv _ _ (.bool _)
    | i + 1 => simp at h1
  · right
    obtain ⟨j, hj⟩ := List.getElem?_of_mem he
    have hjl : j < (leftOf us seen).toList.length := (List.getElem?_eq_some_iff.1 hj).1
    have hjr : j < rem.length := by omega
    have hrj : rem[j]? = some rem[j] := List.getElem?_eq_getElem hjr
    have hfacts := hc j rem[j] e hrj hj
    have hh1 : w1.heap[r]? = some (.mapIter (some m) c seen c) := by rcases hw1 with e | e <;> (rw [e]; exact hh)
    have h1 := h.drew' hw1
    have hsplit : rem = rem.take j ++ rem[j] :: rem.drop (j + 1) := by rw [← List.drop_eq_getElem_cons hjr, List.take_append_drop]
    -- what is left then
    have hnd : ((leftOf us seen).toList.map (·.born)).Nodup := by
      have : (leftOf us seen).toList.Sublist us.toList := by unfold leftOf; rw [Array.toList_filter]; exact List.filter_sublist
      exact (this.map _).nodup hst.2.1
    have hleft : (leftOf us (seen.push e.born)).toList = (leftOf us seen).toList.eraseIdx j := by
      rw [leftOf_push]; exact filter_erase _ j hj hnd
    have hremE : rem.take j ++ rem.drop (j + 1) = rem.eraseIdx j := by rw [List.eraseIdx_eq_take_drop_succ]
    rw [← hxv] at hrun
    refine ⟨rem[j], rem.take j, rem.drop (j + 1), .tuple #[.bool true, e.key, e.val], ChangeMaps.setBlock w1 r (.mapIter (some m) c (seen.push e.born) c), hsplit, by simp only [execOp, ho]; simp [hrun, Result.andThen], ?_⟩
    have hset := h1.setO (q' := .itr (rem.take j ++ rem.drop (j + 1)) (some rem[j])) (ob' := .mapIter (some m) c (seen.push e.born) c) hob hblk hh1 fun {S' w'} hw' hmo => ?_
    · refine Rel.put hset.1 hd (.tup [.pv (.bool true), .pv rem[j].1, .pv rem[j].2] [.bool true, e.key, e.val] rfl fun i c u h1 h2 => ?_)
      match i with
      | 0 => simp at h1 h2; subst h1 h2; exact .pv _ _ (.bool _)
      | 1 =>
        simp at h1 h2; subst h1 h2
        rw [hfacts.1]; exact .pv _ _ (.keyV hfacts.2.1)
      | 2 =>
        simp at h1 h2; subst h1 h2
        refine .pv _ _ (hfacts.2.2.2.mono fun k hk => ?_)
        have hk1 : okS S0 w0.heap.size β st.objs w1 k := by rcases hw1 with e | e <;> (rw [e]; exact hk)
        have := hset.2 k hk1
        refine ⟨this.1, this.2.trans ?_⟩
        rcases hw1 with e | e <;> rw [e] <;> rfl
      | i + 3 => simp at h1
    · have hmo' : ∀ k, okS S0 w0.heap.size β st.objs w k → S' k ∧ w'.heap[k]? = w.heap[k]? := by rcases hw1 with e | e <;> (rw [e] at hmo; exact hmo)
      refine ⟨r, m, us, c, seen.push e.born, hp, hw', (hmo' m hm).1, (hmo' m hm).2.trans hmm, hst, ?_, fun i x u g1 g2 => ?_, fun x hx => ?_⟩
      · rw [hleft, hremE, List.length_eraseIdx_of_lt hjl, List.length_eraseIdx_of_lt hjr, hl]
      · rw [hremE, List.getElem?_eraseIdx] at g1
        rw [hleft, List.getElem?_eraseIdx] at g2
        have : ∃ q : Nat, rem[q]? = some x ∧ (leftOf us seen).toList[q]? = some u := by
          split at g1
          · rename_i hi; rw [if_pos hi] at g2; exact ⟨i, g1, g2⟩
          · rename_i hi; rw [if_neg hi] at g2; exact ⟨i + 1, g1, g2⟩
        obtain ⟨q, q1, q2⟩ := this
        have := hc q x u q1 q2
        exact ⟨this.1, this.2.1, this.2.2.1, this.2.2.2.mono hmo'⟩
      · cases hx
        refine ⟨e, seen, rfl, ?_, hfacts.1, hfacts.2.1, hfacts.2.2.1, hfacts.2.2.2.mono hmo'⟩
        have : e ∈ (leftOf us seen).toList := he
        unfold leftOf at this
        simp only [Array.toList_filter, List.mem_filter] at this
        exact this.1

theorem exV_sound {x : XK} {K : St → Prop} {K' : Act → World → Prop} {Q : Exit → Act → World → Prop} (hc : compV P o = some (x, xs)) (hd : ∀ s, o.dst = some s → s < N) (h : Rel P S0 L B0 w0 N st a w β)
    (hK : ∀ st a w β, K st → Rel P S0 L B0 w0 N st a w β → K' a w) (hs : stepEx o.dst x (xs.map (Ab.ev st.vars)) K st) : o.wp P a w K' Q := by
  have hput : ∀ {t : TypeId} {m k y : Operand} {kt et : TypeId} {s : Nat}, (execOp a.eval o).run P w = (do Instr.mapUpdate t (a.eval m) (a.eval k) (a.eval y); pure Next.skip : Sem Next).run P w → mapT P t = some (kt, et) → srtT P kt = some s →
      stepEx o.dst (.puv s) ([m, k, y].map (Ab.ev st.vars)) K st → o.wp P a w K' Q := by
    intro t m k y kt et s ho hm hsr hs
    have hs : exPuv o.dst s (strip (Ab.ev st.vars m)) (strip (Ab.ev st.vars k)) (strip (Ab.ev st.vars y)) ([m, k, y].map (Ab.ev st.vars)) K st := hs
    unfold exPuv at hs
    split at hs
    · rename_i t' p v e1 e2 e3
      obtain ⟨ha, hs⟩ := hs
      obtain ⟨es, hes, hp, hks, hKs⟩ := withO_inv hs
      obtain ⟨w', hrun, hR⟩ := ex_puv ho hm hsr h hd (h.evs m ha.1) (h.evs k ha.2.1) (h.evs y ha.2.2.1) e1 e2 e3 (mpvO_inv hes) hp hks
      exact wp_of_skip hrun (hK _ _ _ β hKs hR)
    · exact hs.elim
  unfold compV at hc
  split at hc
  · rename_i t ho
    split at hc
    · split at hc
      · cases hc
        have hs : withO o.dst fun d => st.objs d = none ∧ K ⟨Ab.put (some d) (.own d) st.vars, addL [(d, .mpv [])] st.objs⟩ := hs
        obtain ⟨d, hdd, hn, hKs⟩ := withO_inv hs
        obtain ⟨v, w', β', hrun, hR⟩ := ex_mkv ho h (hd d hdd) hn
        exact wp_of_value hrun (hK _ _ _ β' hKs (by rw [hdd]; exact hR))
      · cases hc
    · cases hc
  · rename_i t m k y ho
    split at hc
    · rename_i kt et hm
      split at hc
      · rename_i s hsr
        split at hc
        · cases hc
          exact hput (by simp only [execOp, ho]) hm hsr hs
        · cases hc
      · cases hc
    · cases hc
  · rename_i t m k y ho
    split at hc
    · rename_i kt et hm
      split at hc
      · rename_i s hsr
        split at hc
        · cases hc
          exact hput (by simp only [execOp, ho]) hm hsr hs
        · cases hc
      · cases hc
    · cases hc
  · rename_i t m k ok ho
    split at hc
    · rename_i kt et hm
      split at hc
      · rename_i s z hsr hz
        split at hc
        · cases hc
          have hs : exGev o.dst s z ok (strip (Ab.ev st.vars m)) (strip (Ab.ev st.vars k)) ([m, k].map (Ab.ev st.vars)) K st := hs
          unfold exGev at hs
          split at hs
          · rename_i p e2
            obtain ⟨ha, hs⟩ := hs
            obtain ⟨es, hes, hz1, hp, hks, hKs⟩ := withO_inv hs
            obtain ⟨v, hrun, hR⟩ := ex_gev ho hm hsr hz hz1 h hd (h.evs m ha.1) (h.evs k ha.2.1) e2 hes hp hks
            exact wp_of_value hrun (hK _ _ _ β hKs hR)
          · exact hs.elim
        · cases hc
      · cases hc
    · cases hc
  · rename_i op t x0 y yt ho
    split at hc
    · rename_i e hu
      split at hc
      · have fin : ∀ ne : Bool, o.op = .binOp (if ne = true then .neq else .eql) t x0 (.const (.pointer none)) yt → stepEx o.dst (.pnil ne) ([x0].map (Ab.ev st.vars)) K st → o.wp P a w K' Q := by
          intro ne ho hs
          have hs : asksL ([x0].map (Ab.ev st.vars)) ∧ withO (isNilP (strip (Ab.ev st.vars x0))) fun b => K ⟨Ab.put o.dst (.pv (.bool (b != ne))) st.vars, st.objs⟩ := hs
          obtain ⟨ha, hs⟩ := hs
          obtain ⟨b, hb, hKs⟩ := withO_inv hs
          obtain ⟨v, hrun, hR⟩ := ex_pnil ho hu h hd (h.evs x0 ha.1) hb
          exact wp_of_value hrun (hK _ _ _ β hKs hR)
        split at hc
        · cases hc; exact fin false ho hs
        · cases hc; exact fin true ho hs
        · cases hc
      · cases hc
    · cases hc
  · rename_i c ho
    split at hc
    · rename_i m k t kt' e1 e2 e3
      split at hc
      · rename_i kt et hm
        split at hc
        · rename_i s hsr
          split at hc
          · rename_i hone
            cases hc
            have hs : exDlv o.dst s (strip (Ab.ev st.vars m)) (strip (Ab.ev st.vars k)) ([m, k].map (Ab.ev st.vars)) K st := hs
            unfold exDlv at hs
            split at hs
            · rename_i t' p e4 e5
              obtain ⟨ha, hs⟩ := hs
              obtain ⟨es, hes, hp, hks, hKs⟩ := withO_inv hs
              obtain ⟨cal, args, tys⟩ := c
              simp only at e1 e2 e3
              have e2' : args = #[m, k] := by apply Array.ext'; simpa using e2
              have e3' : tys = #[t, kt] := by apply Array.ext'; rw [hone.2] at e3; simpa using e3
              subst e1 e2' e3'
              obtain ⟨v, w', hrun, hR⟩ := ex_dlv ho hm hsr h hd (h.evs m ha.1) (h.evs k ha.2.1) e4 e5 (mpvO_inv hes) hp hks
              exact wp_of_value hrun (hK _ _ _ β hKs hR)
            · exact hs.elim
          · cases hc
        · cases hc
      · cases hc
    · cases hc
  · rename_i t x0 ho
    split at hc
    · rename_i m hm
      cases hc
      have hs : exRng o.dst (strip (Ab.ev st.vars x0)) ([x0].map (Ab.ev st.vars)) K st := hs
      unfold exRng at hs
      split at hs
      · rename_i es e1
        obtain ⟨d, hdd, ha, hn, hKs⟩ := withO_inv hs
        have hX := h.evs x0 ha.1
        rw [e1] at hX
        obtain ⟨v, w', β', hrun, hR⟩ := ex_rng (kt := m.1) (et := m.2) ho hm h (hd d hdd) hn hX
        exact wp_of_value hrun (hK _ _ _ β' hKs (by rw [hdd]; exact hR))
      · exact hs.elim
    · cases hc
  · rename_i x0 ho
    cases hc
    have hs : exNxt o.dst (strip (Ab.ev st.vars x0)) ([x0].map (Ab.ev st.vars)) K st := hs
    unfold exNxt at hs
    split at hs
    · rename_i t e1
      obtain ⟨ha, hs⟩ := hs
      obtain ⟨⟨rem, cur⟩, hr, h1, h2⟩ := withO_inv hs
      have hX := h.evs x0 ha.1
      rw [e1] at hX
      rcases ex_nxt ho h hd (itrO_inv hr) hX with ⟨g1, v, hrun, hR⟩ | ⟨e, l, m, v, w', g1, hrun, hR⟩
      · exact wp_of_value hrun (hK _ _ _ β (h1 g1) hR)
      · exact wp_of_value hrun (hK _ _ _ β (h2 e l m g1) hR)
    · exact hs.elim
  · rename_i x0 ho
    cases hc
    have hs : exEnt o.dst (strip (Ab.ev st.vars x0)) ([x0].map (Ab.ev st.vars)) K st := hs
    unfold exEnt at hs
    split at hs
    · rename_i t e1
      obtain ⟨ha, hs⟩ := hs
      obtain ⟨⟨rem, cur⟩, hr, hs⟩ := withO_inv hs
      obtain ⟨e, he, hKs⟩ := withO_inv hs
      have hX := h.evs x0 ha.1
      rw [e1] at hX
      have hob := itrO_inv hr
      simp only at he hob
      rw [he] at hob
      obtain ⟨v, hrun, hR⟩ := ex_ent ho h hd hob hX
      exact wp_of_value hrun (hK _ _ _ β hKs hR)
    · exact hs.elim
  · cases hc
end

end Go.Proofs.Ythblkhafehanfaa.Ab
