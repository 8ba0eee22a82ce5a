/- The abstract machine is sound, sixth part: operations that make objects, or write to them. -/
import Derived.Test.YthblkhafehanfaaAb9
namespace Go.Proofs.Ythblkhafehanfaa.Ab
open Go Go.RowKit
set_option linter.unusedVariables false
set_option linter.unusedSimpArgs false

theorem addL_one (d : Nat) (o : AO) (objs : Nat → Option AO) : addL [(d, o)] objs = addO d o objs := by
  funext t
  unfold addL addO lookO
  by_cases h : t = d
  · simp [h]
  · simp [h, lookO]

section
variable {P : Program} {S0 L : Nat → Prop} {B0 : Nat → Value} {w0 w : World} {N : Nat} {st : St} {a : Act} {β : Nat → Value} {x y z : Operand} {o : Oper} {d : Nat}

theorem grown_none_refl (w : World) : w.grownBy w none := ⟨rfl, rfl, rfl, Nat.le_refl _, fun _ _ _ => rfl⟩

theorem f_nil {e : TypeId} (h : Rel P S0 L B0 w0 N st a w β) (hd : d < N) (ht : st.objs d = none) (hi : (P.info? e).isSome = true) :
    ∃ β', Rel P S0 L B0 w0 N ⟨put (some d) (.own d) st.vars, addL [(d, .arr e [])] st.objs⟩ (a.put (some d) (.slice none 0 0)) w β' := by
  obtain ⟨inf, hi⟩ := Option.isSome_iff_exists.1 hi
  have hf := h.fresh hd ht (grown_none_refl w) (v := .slice none 0 0) (fun b hb => by simp [blk] at hb) (o := .arr e [])
    ⟨inf, [], hi, by rw [setβ_same]; exact World.ownsRow_nil w 0 e inf.size, fun r hr => by simp at hr, fun i j r p hr => by simp at hr⟩
  rw [addL_one]
  have hp := hf.put (d := some d) (r := setβ β d (.slice none 0 0) d) (v := .own d) (fun s hs => by injection hs with hs; omega) (.own d (dom_add.2 (.inl rfl)))
  rw [setβ_same] at hp
  exact ⟨_, hp⟩

theorem grown_alloc (w : World) (o : Obj) : w.grownBy (w.alloc o) none := World.grownBy_alloc w o none

/-- A box in a new block. -/
theorem f_boxed (h : Rel P S0 L B0 w0 N st a w β) (hd : d < N) (ht : st.objs d = none) {us : Array Value} {ty : TypeId} {cs : List AV} (hone : ones cs = true) (hhp : Heap P (okS S0 w0.heap.size β st.objs w) w β st.objs)
    (hr : RVs P (okS S0 w0.heap.size β st.objs w) w β (dom st.objs) us.toList cs) :
    ∃ β', Rel P S0 L B0 w0 N ⟨put (some d) (.ptr d 0) st.vars, addL [(d, .box cs)] st.objs⟩ (a.put (some d) (.pointer (some ⟨w.heap.size, 0, none⟩))) (w.alloc (.cells us ty)) β' := by
  have hb : ∀ b, blk (.pointer (some ⟨w.heap.size, 0, none⟩)) = some b → w.heap.size ≤ b := fun b hb => by simp [blk] at hb; omega
  have hm := h.fresh_mono ht (grown_alloc w (.cells us ty)) (v := .pointer (some ⟨w.heap.size, 0, none⟩)) hb (o := .box cs)
  have honeAt : ∀ (l : List AV) (i : Nat) (c : AV), ones l = true → l[i]? = some c → oneAV c = true := by
    intro l
    induction l with
    | nil => intro i c _ hc; simp at hc
    | cons y l ih =>
      intro i c h hc
      simp only [ones, Bool.and_eq_true] at h
      cases i with
      | zero => simp at hc; subst hc; exact h.1
      | succ i => exact ih i c h.2 (by simpa using hc)
  have hf := h.fresh hd ht (grown_alloc w (.cells us ty)) (v := .pointer (some ⟨w.heap.size, 0, none⟩)) hb (o := .box cs)
    ⟨w.heap.size, us, ty, setβ_same _ _ _, heap_alloc_new w _, by rw [← Array.length_toList]; exact hr.1, fun i c u hc hu => by
      have hrv := hr.2 i c u hc (by simpa using hu)
      exact ⟨(one_of hhp hrv (honeAt cs i c hone hc)).1, hrv.mono hm.1 hm.2⟩⟩
  rw [addL_one]
  exact ⟨_, hf.put (d := some d) (fun s hs => by injection hs with hs; omega) (.ptr d 0 w.heap.size (dom_add.2 (.inl rfl)) (setβ_same _ _ _))⟩

theorem f_box {e : TypeId} (ho : o.op = .box e x) (h : Rel P S0 L B0 w0 N st a w β) (hd : d < N) (ht : st.objs d = none) {X : AV}
    (hX : RV P (okS S0 w0.heap.size β st.objs w) w β (dom st.objs) (a.eval x) X) {φ : Prop} {v : AV} {ao : AO} (hs : semF .box d [X] st.objs = some (φ, v, ao)) :
    ∃ r w', (execOp a.eval o).run P w = .ok (.value r) w' ∧ ∃ β', Rel P S0 L B0 w0 N ⟨put (some d) v st.vars, addL [(d, ao)] st.objs⟩ (a.put (some d) r) w' β' := by
  simp only [semF] at hs
  split at hs
  · rename_i hone
    simp only [Option.some.injEq, Prod.mk.injEq] at hs
    obtain ⟨rfl, rfl, rfl⟩ := hs
    have hpo : partOK X = true := by
      cases X with
      | agg cs => rfl
      | _ => simpa [cellsOf, ones, partOK] using hone
    have hr := cells_of h.heap hX hpo
    obtain ⟨β', hR⟩ := f_boxed (ty := e) h hd ht hone h.heap hr
    exact ⟨_, _, by simp [execOp, ho, Instr.box, newVar, newRow], β', hR⟩
  · cases hs

theorem ones_cv : ∀ zs : List Value, zs.all (fun z => z.oneCell') = true → ones (zs.map cv) = true
  | [], _ => rfl
  | z :: zs, h => by
    simp only [List.all_cons, Bool.and_eq_true] at h
    simp only [List.map_cons, ones, Bool.and_eq_true]
    refine ⟨?_, ones_cv zs h.2⟩
    unfold cv
    rw [if_pos h.1]
    unfold cvp
    split <;> first | rfl | exact h.1

theorem f_alloc {e : TypeId} {zs : List Value} (ho : o.op = .alloc e) (hz : zeroT P e = some zs) (h : Rel P S0 L B0 w0 N st a w β) (hd : d < N) (ht : st.objs d = none) {xs : List AV} {φ : Prop} {v : AV} {ao : AO}
    (hs : semF (.alloc zs) d xs st.objs = some (φ, v, ao)) :
    ∃ r w', (execOp a.eval o).run P w = .ok (.value r) w' ∧ ∃ β', Rel P S0 L B0 w0 N ⟨put (some d) v st.vars, addL [(d, ao)] st.objs⟩ (a.put (some d) r) w' β' := by
  obtain ⟨i, zv, hi, hzv, hzs, rfl⟩ := zeroT_inv hz
  unfold semF at hs
  simp only at hs
  split at hs
  · rename_i hone
    simp only [Option.some.injEq, Prod.mk.injEq] at hs
    obtain ⟨rfl, rfl, rfl⟩ := hs
    obtain ⟨β', hR⟩ := f_boxed (ty := e) (us := zv.cells) h hd ht (ones_cv _ hone) h.heap (RVs.cv_ _ _)
    have hzr : (zeroValue e).run P w = .ok zv w := by simp [zeroValue, typeInfo, hi, hzv]
    exact ⟨_, _, by simp [execOp, ho, Instr.alloc, hzr, newVar, newRow], β', hR⟩
  · cases hs

/-! A slice literal -/

theorem RPV.one {S : Nat → Prop} {u : Value} {p : PV} (h : RPV S w u p) : oneAV (.pv p) = true := by
  cases h with
  | val v h => exact h
  | _ => rfl

theorem rowOf_cells (hh : Heap P (okS S0 w0.heap.size β st.objs w) w β st.objs) {S : Nat → Prop} (hS : S = okS S0 w0.heap.size β st.objs w) {u : Value} {X : AV} {r : List PV} (h : RV P S w β (dom st.objs) u X) (hr : rowOf X = some r) :
    u.cells.toList.length = r.length ∧ ∀ (j : Nat) (p : PV), r[j]? = some p → ∃ c, u.cells.toList[j]? = some c ∧ c.oneCell' = true ∧ RPV S w c p := by
  subst hS
  cases X with
  | pv p =>
    simp only [rowOf, Option.some.injEq] at hr
    subst hr
    have h1 := one_of hh h h.pv_inv.one
    rw [h1.2]
    refine ⟨rfl, fun j q hq => ?_⟩
    cases j with
    | zero => simp at hq; subst hq; exact ⟨u, rfl, h1.1, h.pv_inv⟩
    | succ j => simp at hq
  | agg cs =>
    obtain ⟨us, rfl, hl, hc⟩ := h.agg_inv
    have key : ∀ (cs : List AV) (r : List PV), pvsOf cs = some r → r.length = cs.length ∧ ∀ (j : Nat) (p : PV), r[j]? = some p → cs[j]? = some (.pv p) := by
      intro cs
      induction cs with
      | nil => intro r hr; simp [pvsOf] at hr; subst hr; exact ⟨rfl, fun j p hp => by simp at hp⟩
      | cons c cs ih =>
        intro r hr
        simp only [pvsOf, Option.bind_eq_some_iff, Option.map_eq_some_iff] at hr
        obtain ⟨p, hp, ps, hps, rfl⟩ := hr
        obtain ⟨h1, h2⟩ := ih ps hps
        refine ⟨by simp [h1], fun j q hq => ?_⟩
        cases j with
        | zero =>
          simp at hq; subst hq
          cases c <;> simp [pvOf] at hp
          subst hp; rfl
        | succ j => simpa using h2 j q (by simpa using hq)
    obtain ⟨k1, k2⟩ := key cs r hr
    refine ⟨by simp [Value.cells, hl, k1], fun j p hp => ?_⟩
    have hcj := k2 j p hp
    have hlt : j < us.length := by rw [hl]; exact (List.getElem?_eq_some_iff.1 hcj).1
    have hu : us[j]? = some us[j] := List.getElem?_eq_getElem hlt
    have hrv := hc j _ _ hcj hu
    refine ⟨us[j], by simp [Value.cells, hlt], ?_, hrv.pv_inv⟩
    exact (one_of hh hrv hrv.pv_inv.one).1
  | _ => simp [rowOf] at hr

theorem fill_rows (sz : Nat) (ev : Operand → Value) : ∀ (ops : List (Nat × Operand)) (k : Nat) (us : List Value), (ops.map (·.1)) = List.range' k ops.length → us.length = (k + ops.length) * sz →
    (∀ p ∈ ops, (ev p.2).cells.size = sz) →
    Instr.fill (fun i => some (i * sz, sz)) us.toArray (ops.map fun p => (p.1, ev p.2)) = some (us.take (k * sz) ++ ops.flatMap fun p => (ev p.2).cells.toList).toArray
  | [], k, us, _, hl, _ => by
    simp only [List.map_nil, Instr.fill, List.flatMap_nil, List.append_nil]
    rw [List.take_of_length_le (by simp at hl; omega)]
  | (i, z) :: ops, k, us, hr, hl, hsz => by
    simp only [List.map_cons, List.length_cons, List.range'_succ, List.cons.injEq] at hr
    obtain ⟨rfl, hr⟩ := hr
    have hz := hsz (i, z) (by simp)
    have hz' : (ev z).cells.size = sz := hz
    have hin : i * sz + (ev z).cells.size ≤ us.length := by
      rw [hz', hl]
      simp only [List.length_cons]
      rw [← Nat.succ_mul]
      exact Nat.mul_le_mul_right _ (by omega)
    simp only [List.map_cons, Instr.fill]
    rw [if_neg (by simp [hz']; omega)]
    rw [show (fun (cs : Array Value) (x : Value × Nat) => match x with | (c, j) => cs.setIfInBounds (i * sz + j) c) = fun (cs : Array Value) (p : Value × Nat) => cs.setIfInBounds (i * sz + p.2) p.1 from rfl]
    rw [splice_fold _ (i * sz) us hin]
    have hlt : (us.take (i * sz)).length = i * sz := by rw [List.length_take]; omega
    have hlc : (ev z).cells.toList.length = sz := by simpa using hz'
    rw [fill_rows sz ev ops (i + 1) _ hr (by
      simp only [List.length_append, List.length_drop, hlt, hlc, hz', hl, List.length_cons]
      have : (i + (ops.length + 1)) * sz = i * sz + (ops.length + 1) * sz := Nat.add_mul _ _ _
      have h2 : (ops.length + 1) * sz = ops.length * sz + sz := Nat.succ_mul _ _
      have h3 : (i + 1 + ops.length) * sz = i * sz + sz + ops.length * sz := by rw [Nat.add_mul, Nat.add_mul, Nat.one_mul]
      omega) (fun p hp => hsz p (by simp [hp]))]
    have : (i + 1) * sz = i * sz + sz := Nat.succ_mul _ _
    rw [this]
    have e1 : List.take (i * sz + sz) (List.take (i * sz) us ++ (ev z).cells.toList ++ List.drop (i * sz + (ev z).cells.size) us) = List.take (i * sz) us ++ (ev z).cells.toList := by
      rw [List.take_append_of_le_length (by simp [hlt, hlc])]
      rw [List.take_of_length_le (by rw [List.length_append, hlt, hlc]; omega)]
    rw [e1]
    simp

theorem flat_get (sz : Nat) : ∀ (l : List (List Value)) (i j : Nat), (∀ r ∈ l, r.length = sz) → j < sz → (l.flatMap id)[i * sz + j]? = (l[i]?).bind (·[j]?)
  | [], i, j, _, _ => by simp
  | r :: l, 0, j, h, hj => by
    simp only [Nat.zero_mul, Nat.zero_add, List.flatMap_cons, id, List.getElem?_cons_zero, Option.bind_some]
    rw [List.getElem?_append_left (by rw [h r (by simp)]; exact hj)]
  | r :: l, i + 1, j, h, hj => by
    have hr := h r (by simp)
    have hm : (i + 1) * sz + j = r.length + (i * sz + j) := by rw [hr, Nat.succ_mul]; omega
    simp only [List.flatMap_cons, id, List.getElem?_cons_succ]
    rw [hm, List.getElem?_append_right (by omega), Nat.add_sub_cancel_left]
    exact flat_get sz l i j (fun r hr => h r (by simp [hr])) hj

theorem rowsOf_get : ∀ (xs : List AV) (rows : List (List PV)), rowsOf xs = some rows → rows.length = xs.length ∧ ∀ (i : Nat) (r : List PV), rows[i]? = some r → ∃ X, xs[i]? = some X ∧ rowOf X = some r
  | [], rows, h => by simp [rowsOf] at h; subst h; exact ⟨rfl, fun i r hr => by simp at hr⟩
  | X :: xs, rows, h => by
    simp only [rowsOf, Option.bind_eq_some_iff, Option.map_eq_some_iff] at h
    obtain ⟨p, hp, ps, hps, rfl⟩ := h
    obtain ⟨h1, h2⟩ := rowsOf_get xs ps hps
    refine ⟨by simp [h1], fun i r hr => ?_⟩
    cases i with
    | zero => simp at hr; subst hr; exact ⟨X, rfl, hp⟩
    | succ i => obtain ⟨Y, h3, h4⟩ := h2 i r (by simpa using hr); exact ⟨Y, by simpa using h3, h4⟩

theorem asks_get {vars : Nat → AV} : ∀ (l : List Operand) (k : Nat) (z : Operand), asksL (l.map (ev vars)) → l[k]? = some z → asks (ev vars z)
  | [], k, z, _, hk => by simp at hk
  | y :: l, 0, z, h, hk => by simp at hk; subst hk; exact h.1
  | y :: l, k + 1, z, h, hk => asks_get l k z h.2 (by simpa using hk)

theorem run_bsl {t e : TypeId} {sz n : Nat} {i : TypeInfo} {zv : Value} {ops : Array (Nat × Operand)} (ho : o.op = .buildSlice t n ops) (hu : P.underlying t = some (.slice e)) (hsz : sizeT P e = some sz)
    (hi : P.info? e = some i) (hzv : i.zero = some zv) (hzl : zv.cells.toList.length = sz)
    (hord : ops.toList.map (·.1) = List.range n) (hbig : n * sz ≤ 2 ^ 24) (hlen : ops.toList.length = n) (hcsz : ∀ p ∈ ops.toList, (a.eval p.2).cells.size = sz) :
    (ops.toList.flatMap fun p => (a.eval p.2).cells.toList).length = n * sz ∧ (execOp a.eval o).run P w = .ok (.value (.slice (some ⟨w.heap.size, 0, none⟩) n n)) (w.alloc (.cells (ops.toList.flatMap fun p => (a.eval p.2).cells.toList).toArray e)) := by
  let us : List Value := ops.toList.flatMap fun p => (a.eval p.2).cells.toList
  have hus : us = (ops.toList.map fun p => (a.eval p.2).cells.toList).flatMap id := by simp [us, List.flatMap_map]
  have hsum : ∀ l : List (Nat × Operand), (∀ p ∈ l, (a.eval p.2).cells.size = sz) → (l.flatMap fun p => (a.eval p.2).cells.toList).length = l.length * sz := by
    intro l
    induction l with
    | nil => intro _; simp
    | cons p l ih =>
      intro hl
      simp only [List.flatMap_cons, List.length_append, Array.length_toList, hl p (by simp), ih (fun q hq => hl q (by simp [hq])), List.length_cons, Nat.succ_mul]
      omega
  have husl : us.length = n * sz := by rw [hsum ops.toList hcsz, hlen]
  have hfill := fill_rows sz a.eval ops.toList 0 ((Array.range (n * sz)).map (fun i => zv.cells[i % zv.cells.size]!)).toList (by rw [hord, hlen, List.range_eq_range']) (by simp [hlen]) hcsz
  have hzr : (zeroValue e).run P w = .ok zv w := by simp [zeroValue, typeInfo, hi, hzv]
  have hml : (ops.map fun x => (x.1, a.eval x.2)).toList = ops.toList.map fun p => (p.1, a.eval p.2) := by simp
  have hfn : (fun (x : Nat × Operand) => match x with | (i, x) => (i, a.eval x)) = fun x => (x.1, a.eval x.2) := rfl
  have hrun : (execOp a.eval o).run P w = .ok (.value (.slice (some ⟨w.heap.size, 0, none⟩) n n)) (w.alloc (.cells us.toArray e)) := by
    simp only [execOp, ho, hfn]
    have hnb : ¬ (n * sz > 2 ^ 24) := by omega
    by_cases h0 : n * sz = 0
    · have hfill0 : Instr.fill (fun i => some (i * sz, sz)) ((Array.range 0).map fun i => (#[] : Array Value)[i % (#[] : Array Value).size]!) (ops.map fun x => (x.1, a.eval x.2)).toList = some us.toArray := by
        rw [hml]
        have h2 : ((Array.range (n * sz)).map (fun i => zv.cells[i % zv.cells.size]!)).toList.toArray = (Array.range 0).map fun i => (#[] : Array Value)[i % (#[] : Array Value).size]! := by
          rw [h0]; simp
        rw [← h2]
        simpa [us] using hfill
      simp only [Instr.buildSlice, Sem.run_bind, run_underlying hu, Result.andThen_ok, run_szT hsz, hnb, if_false, h0, if_true, Sem.run_pure, hfill0, newRow, run_newObj, show ¬ (0 : Nat) > 2 ^ 24 from by omega]
      rfl
    · have hfill1 : Instr.fill (fun i => some (i * sz, sz)) ((Array.range (n * sz)).map fun i => zv.cells[i % zv.cells.size]!) (ops.map fun x => (x.1, a.eval x.2)).toList = some us.toArray := by
        rw [hml, show ((Array.range (n * sz)).map fun i => zv.cells[i % zv.cells.size]!) = ((Array.range (n * sz)).map fun i => zv.cells[i % zv.cells.size]!).toList.toArray from by rw [Array.toArray_toList]]
        rw [hfill]
        simp [us]
      simp only [Instr.buildSlice, Sem.run_bind, run_underlying hu, Result.andThen_ok, run_szT hsz, hnb, if_false, h0, Sem.run_pure, hzr, hfill1, newRow, run_newObj]
      rfl
  exact ⟨husl, hrun⟩

theorem f_bsl {t e : TypeId} {sz n : Nat} {zs : List Value} {ops : Array (Nat × Operand)} (ho : o.op = .buildSlice t n ops) (hu : P.underlying t = some (.slice e)) (hsz : sizeT P e = some sz) (hz : zeroT P e = some zs)
    (hord : ops.toList.map (·.1) = List.range n) (hbig : n * sz ≤ 2 ^ 24) (hzl : zs.length = sz) (hpos : 0 < sz) (h : Rel P S0 L B0 w0 N st a w β) (hd : d < N) (ht : st.objs d = none)
    (hev : ∀ z : Operand, asks (ev st.vars z) → RV P (okS S0 w0.heap.size β st.objs w) w β (dom st.objs) (a.eval z) (strip (ev st.vars z))) (ha : asksL ((ops.toList.map (·.2)).map (ev st.vars)))
    {φ : Prop} {v : AV} {ao : AO} (hs : semF (.bsl e sz) d (((ops.toList.map (·.2)).map (ev st.vars)).map strip) st.objs = some (φ, v, ao)) (hφ : φ) :
    ∃ r w', (execOp a.eval o).run P w = .ok (.value r) w' ∧ ∃ β', Rel P S0 L B0 w0 N ⟨put (some d) v st.vars, addL [(d, ao)] st.objs⟩ (a.put (some d) r) w' β' := by
  obtain ⟨inf, hi, hinf⟩ := sizeT_inv hsz
  obtain ⟨i, zv, hi', hzv, hzs, rfl⟩ := zeroT_inv hz
  have : i = inf := by rw [hi] at hi'; injection hi' with hi'; exact hi'.symm
  subst this
  unfold semF at hs
  simp only [Option.map_eq_some_iff] at hs
  obtain ⟨rows, hrows, he⟩ := hs
  simp only [Prod.mk.injEq] at he
  obtain ⟨rfl, rfl, rfl⟩ := he
  have hlen : ops.toList.length = n := by have := congrArg List.length hord; simpa using this
  obtain ⟨hrl, hrg⟩ := rowsOf_get _ rows hrows
  have hrl' : rows.length = n := by rw [hrl]; simp [hlen]
  have hrv : ∀ (k : Nat) (p : Nat × Operand), ops.toList[k]? = some p → ∃ r, rows[k]? = some r ∧ RV P (okS S0 w0.heap.size β st.objs w) w β (dom st.objs) (a.eval p.2) (strip (ev st.vars p.2)) ∧ rowOf (strip (ev st.vars p.2)) = some r := by
    intro k p hk
    have hlt : k < rows.length := by rw [hrl', ← hlen]; exact (List.getElem?_eq_some_iff.1 hk).1
    have hr : rows[k]? = some rows[k] := List.getElem?_eq_getElem hlt
    obtain ⟨X, hX, hro⟩ := hrg k _ hr
    have hXe : X = strip (ev st.vars p.2) := by
      simp only [List.getElem?_map, hk, Option.map_some, Option.some.injEq] at hX
      exact hX.symm
    subst hXe
    have hk2 : (ops.toList.map (·.2))[k]? = some p.2 := by simp [hk]
    exact ⟨_, hr, hev p.2 (asks_get _ k _ ha hk2), hro⟩
  have hcsz : ∀ p ∈ ops.toList, (a.eval p.2).cells.size = sz := by
    intro p hp
    obtain ⟨k, hk⟩ := List.getElem?_of_mem hp
    obtain ⟨r, h1, h2, h3⟩ := hrv k p hk
    have := (rowOf_cells h.heap rfl h2 h3).1
    rw [hφ r (List.mem_of_getElem? h1)] at this
    simpa using this
  let us : List Value := ops.toList.flatMap fun p => (a.eval p.2).cells.toList
  have hus : us = (ops.toList.map fun p => (a.eval p.2).cells.toList).flatMap id := by simp [us, List.flatMap_map]
  obtain ⟨husl, hrun⟩ : us.length = n * sz ∧ (execOp a.eval o).run P w = .ok (.value (.slice (some ⟨w.heap.size, 0, none⟩) n n)) (w.alloc (.cells us.toArray e)) := run_bsl (w := w) ho hu hsz hi hzv hzl hord hbig hlen hcsz
  have hb : ∀ b, blk (.slice (some ⟨w.heap.size, 0, none⟩) n n) = some b → w.heap.size ≤ b := fun b hb => by simp [blk] at hb; omega
  have hm := h.fresh_mono ht (grown_alloc w (.cells us.toArray e)) (v := .slice (some ⟨w.heap.size, 0, none⟩) n n) hb (o := .arr e rows)
  have hnm : n ≤ maxLen := by
    have : n * 1 ≤ n * sz := Nat.mul_le_mul_left _ hpos
    simp only [maxLen]
    omega
  have hf := h.fresh hd ht (grown_alloc w (.cells us.toArray e)) (v := .slice (some ⟨w.heap.size, 0, none⟩) n n) hb (o := .arr e rows)
    ⟨i, us, hi, by
      rw [setβ_same, hrl', hinf]
      exact ⟨husl, .inr ⟨w.heap.size, n, us.toArray, rfl, Nat.zero_le _, heap_alloc_new w _, Nat.le_refl _, hnm, by simpa using husl, by
        rw [← husl]; simp⟩⟩,
     fun r hr => by rw [hinf]; exact hφ r hr,
     fun k j r p hr hp => by
      have hlt : k < ops.toList.length := by rw [hlen, ← hrl']; exact (List.getElem?_eq_some_iff.1 hr).1
      have hk : ops.toList[k]? = some ops.toList[k] := List.getElem?_eq_getElem hlt
      obtain ⟨r', h1, h2, h3⟩ := hrv k _ hk
      rw [hr] at h1
      injection h1 with h1
      subst h1
      have hc := rowOf_cells h.heap rfl h2 h3
      obtain ⟨c, hc1, hc2, hc3⟩ := hc.2 j p hp
      have hj : j < sz := by rw [← hφ r (List.mem_of_getElem? hr)]; exact (List.getElem?_eq_some_iff.1 hp).1
      refine ⟨c, ?_, hc2, hc3.mono hm.1⟩
      rw [hus, hinf, flat_get sz _ k j (fun q hq => by
        obtain ⟨p', hp', rfl⟩ := List.mem_map.1 hq
        simpa using hcsz p' hp') hj]
      rw [List.getElem?_map, hk]
      simpa using hc1⟩
  rw [addL_one]
  have hp := hf.put (d := some d) (r := setβ β d (.slice (some ⟨w.heap.size, 0, none⟩) n n) d) (v := .own d) (fun s hs => by injection hs with hs; omega) (.own d (dom_add.2 (.inl rfl)))
  rw [setβ_same] at hp
  exact ⟨_, _, hrun, _, hp⟩

end
end Go.Proofs.Ythblkhafehanfaa.Ab
