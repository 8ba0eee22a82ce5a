/- The abstract machine is sound, seventh part: append and store. -/
import Derived.Test.YthblkhafehanfaaAb10
namespace Go.Proofs.Ythblkhafehanfaa.Ab
open Go Go.RowKit
set_option linter.unusedVariables false
set_option linter.unusedSimpArgs false

section
variable {P : Program} {S0 L : Nat → Prop} {B0 : Nat → Value} {w0 w : World} {N : Nat} {st : St} {a : Act} {β : Nat → Value} {x y z : Operand} {o : Oper} {d : Nat}

/-- What is appended, as the model takes it. -/
theorem src_of (hh : Heap P (okS S0 w0.heap.size β st.objs w) w β st.objs) {tx : TypeId} (htx : (∃ e', P.underlying tx = some (.slice e')) ∨ P.underlying tx = some .string) {u : Value} {X : AV}
    (hX : RV P (okS S0 w0.heap.size β st.objs w) w β (dom st.objs) u X) {more : List (List PV)} (hm : rowsIn st.objs X = some more) {sz : Nat} (hsz : ∀ r ∈ more, r.length = sz) :
    ∃ news, Src P sz tx u more.length news w ∧ ∀ (i j : Nat) (r : List PV) (p : PV), more[i]? = some r → r[j]? = some p →
      ∃ c, news[i * sz + j]? = some c ∧ c.oneCell' = true ∧ RPV (okS S0 w0.heap.size β st.objs w) w c p := by
  have nilcase : ∀ (A : Option Addr) (c : Nat), Src P sz tx (.slice A 0 c) 0 [] w := by
    intro A c
    refine ⟨htx, fun _ => rfl, ?_, ?_, by simp, fun _ h => by cases h⟩ <;> cases A <;> simp [Builtin.firstCells, loadCells, loadCellsFrom]
  cases X with
  | pv p =>
    cases p with
    | nil =>
      simp only [rowsIn, Option.some.injEq] at hm
      subst hm
      rw [hX.pv_inv.nil_inv]
      exact ⟨[], nilcase none 0, fun i j r p h => by simp at h⟩
    | ro rows =>
      simp only [rowsIn, Option.some.injEq] at hm
      subst hm
      obtain ⟨A, c, rfl, hc, hne⟩ := hX.pv_inv.ro_inv
      by_cases hz : rows = []
      · subst hz
        exact ⟨[], nilcase A c, fun i j r p h => by simp at h⟩
      · obtain ⟨ad, sz0, us, rfl, g1, g2, g3, g4, g5⟩ := hne hz
        have hs0 : sz0 = sz := by
          obtain ⟨r, hr⟩ := List.exists_mem_of_ne_nil rows hz
          rw [← g2 r hr, hsz r hr]
        subst hs0
        let L : List (List Value) := (List.range rows.length).map fun i => (List.range sz0).map (us i)
        have hL : ∀ r ∈ L, r.length = sz0 := fun r hr => by
          obtain ⟨i, _, rfl⟩ := List.mem_map.1 hr
          simp
        have hget : ∀ i j, i < rows.length → j < sz0 → (L.flatMap id)[i * sz0 + j]? = some (us i j) := fun i j hi hj => by
          rw [flat_get sz0 L i j hL hj]
          simp [L, hi, hj]
        have hlen : (L.flatMap id).length = rows.length * sz0 := by
          have : ∀ M : List (List Value), (∀ r ∈ M, r.length = sz0) → (M.flatMap id).length = M.length * sz0 := by
            intro M
            induction M with
            | nil => intro _; simp
            | cons r M ih => intro h; simp only [List.flatMap_cons, id, List.length_append, h r (by simp), ih (fun q hq => h q (by simp [hq])), List.length_cons, Nat.succ_mul]; omega
          rw [this L hL]
          simp [L]
        have hdm : ∀ k, k < rows.length * sz0 → ∃ i j, k = i * sz0 + j ∧ i < rows.length ∧ j < sz0 := fun k hk => by
          have hp : 0 < sz0 := by
            rcases Nat.eq_zero_or_pos sz0 with h | h
            · rw [h] at hk; omega
            · exact h
          exact ⟨k / sz0, k % sz0, by rw [Nat.mul_comm]; exact (Nat.div_add_mod k sz0).symm, Nat.div_lt_of_lt_mul (by rw [Nat.mul_comm]; exact hk), Nat.mod_lt _ hp⟩
        have hcell : ∀ (k : Nat) (v : Value), (L.flatMap id)[k]? = some v → w.cell? (ad.add k) = some v := fun k v hv => by
          have hk : k < rows.length * sz0 := by rw [← hlen]; exact (List.getElem?_eq_some_iff.1 hv).1
          obtain ⟨i, j, rfl, hi, hj⟩ := hdm k hk
          rw [hget i j hi hj] at hv
          injection hv with hv
          rw [← hv]
          exact g3 i j hi hj
        have hone : ∀ v ∈ L.flatMap id, v.oneCell' = true := fun v hv => by
          obtain ⟨k, hk⟩ := List.getElem?_of_mem hv
          have hk' : k < rows.length * sz0 := by rw [← hlen]; exact (List.getElem?_eq_some_iff.1 hk).1
          obtain ⟨i, j, rfl, hi, hj⟩ := hdm k hk'
          rw [hget i j hi hj] at hk
          injection hk with hk
          have hr : rows[i]? = some rows[i] := List.getElem?_eq_getElem hi
          have hrl : rows[i].length = sz0 := g2 _ (List.mem_of_getElem? hr)
          rw [← hk]
          exact g4 i j _ _ hr (List.getElem?_eq_getElem (by omega))
        have hsrc : Src P sz0 tx (.slice (some ad) rows.length c) rows.length (L.flatMap id) w :=
          ⟨htx, fun _ => rfl, run_firstCells_some w sz0 rows.length ad rows.length c _ hlen hcell, run_firstCells_some w.drew sz0 rows.length ad rows.length c _ hlen (by simpa using hcell), hlen, hone⟩
        refine ⟨L.flatMap id, hsrc, fun i j r p hr hp => ?_⟩
        have hi : i < rows.length := (List.getElem?_eq_some_iff.1 hr).1
        have hj : j < sz0 := by rw [← g2 r (List.mem_of_getElem? hr)]; exact (List.getElem?_eq_some_iff.1 hp).1
        exact ⟨us i j, hget i j hi hj, g4 i j r p hr hp, g5 i j r p hr hp⟩
    | str l =>
      simp only [rowsIn, Option.some.injEq] at hm
      subst hm
      rw [hX.str_inv]
      have hll : (bytesRow l).length = l.length := by simp [bytesRow]
      rw [hll]
      by_cases hz : l = []
      · subst hz
        refine ⟨[], ⟨htx, fun _ => rfl, ?_, ?_, by simp, fun _ h => by cases h⟩, fun i j r p h => by simp [bytesRow] at h⟩ <;> simp [Builtin.firstCells]
      · have hs1 : sz = 1 := by
          obtain ⟨c, hc⟩ := List.exists_mem_of_ne_nil l hz
          rw [← hsz [.int .u8 (c.toNat : Int)] (by simp only [bytesRow, List.mem_map]; exact ⟨c, hc, rfl⟩)]; rfl
        subst hs1
        refine ⟨byteCells ⟨l.toArray⟩, ⟨htx, fun _ => by simp [Builtin.lenOf, bsz], ?_, ?_, ?_, ?_⟩, fun i j r p hr hp => ?_⟩
        · have := firstCells_string (P := P) ⟨l.toArray⟩ w; rwa [bsz] at this
        · have := firstCells_string (P := P) ⟨l.toArray⟩ w.drew; rwa [bsz] at this
        · rw [byteCells_length, bsz, Nat.mul_one]
        · intro u hu
          obtain ⟨_, _, rfl⟩ := List.mem_map.1 hu
          rfl
        · simp only [bytesRow, List.getElem?_map, Option.map_eq_some_iff] at hr
          obtain ⟨c, hc, rfl⟩ := hr
          cases j with
          | zero =>
            simp at hp; subst hp
            exact ⟨.int .u8 c.toNat, by simp [byteCells, hc], rfl, .int _ _⟩
          | succ j => simp at hp
    | _ => simp [rowsIn] at hm
  | own t =>
    simp only [rowsIn, Option.map_eq_some_iff] at hm
    obtain ⟨⟨e', rows⟩, hs, rfl⟩ := hm
    obtain ⟨inf, us, hi, hown, hrl, hcs⟩ := hh.arr (arrO_inv hs)
    simp only at hown hrl hcs hsz
    rw [hX.own_inv.1]
    by_cases hz : rows = []
    · subst hz
      obtain ⟨A, c, hv, _⟩ := own_slice hown
      rw [hv]
      exact ⟨[], nilcase A c, fun i j r p h => by simp at h⟩
    · have hs0 : inf.size = sz := by
        obtain ⟨r, hr⟩ := List.exists_mem_of_ne_nil rows hz
        rw [← hrl r hr, hsz r hr]
      rcases hown.2 with ⟨_, hz0⟩ | ⟨g, cap, cur, hv, _⟩
      · exact absurd (List.eq_nil_of_length_eq_zero hz0) hz
      · have hob : (β t).ownBlock = some g := by rw [hv]; rfl
        have hcell := hown.cells hob
        rw [hv]
        have hone : ∀ v ∈ us, v.oneCell' = true := fun v hv' => by
          obtain ⟨k, hk⟩ := List.getElem?_of_mem hv'
          have hk' : k < rows.length * inf.size := by rw [← hown.1]; exact (List.getElem?_eq_some_iff.1 hk).1
          have hp : 0 < inf.size := by
            rcases Nat.eq_zero_or_pos inf.size with h | h
            · rw [h] at hk'; omega
            · exact h
          have hi' : k / inf.size < rows.length := Nat.div_lt_of_lt_mul (by rw [Nat.mul_comm]; exact hk')
          have hr : rows[k / inf.size]? = some rows[k / inf.size] := List.getElem?_eq_getElem hi'
          have hj : k % inf.size < rows[k / inf.size].length := by rw [hrl _ (List.mem_of_getElem? hr)]; exact Nat.mod_lt _ hp
          obtain ⟨c, hc, h1, _⟩ := hcs _ _ _ _ hr (List.getElem?_eq_getElem hj)
          rw [show k / inf.size * inf.size + k % inf.size = k from by rw [Nat.mul_comm]; exact Nat.div_add_mod k inf.size, hk] at hc
          injection hc with hc
          rw [hc]; exact h1
        subst hs0
        exact ⟨us, ⟨htx, fun _ => rfl, run_firstCells_some w inf.size rows.length ⟨g, 0, none⟩ rows.length cap us hown.1 hcell, run_firstCells_some w.drew inf.size rows.length ⟨g, 0, none⟩ rows.length cap us hown.1 (by simpa using hcell), hown.1, hone⟩, hcs⟩
  | sub t e1 lo hi =>
    simp only [rowsIn, Option.bind_eq_some_iff] at hm
    obtain ⟨⟨e', rows⟩, hs, hm⟩ := hm
    split at hm
    · rename_i hee
      simp only at hee hm
      subst hee
      simp only [Option.some.injEq] at hm
      subst hm
      obtain ⟨inf, us, hi', hown, hrl, hcs⟩ := hh.arr (arrO_inv hs)
      simp only at hi' hown hrl hcs
      obtain ⟨inf1, Ad, Ad1, n, c, hdt, hi1, hbt, g1, g2, g3, g4, g5, hx⟩ := hX.sub_inv
      rw [hi'] at hi1
      injection hi1 with hi1
      subst hi1
      rw [hx]
      have hlen : ((rows.take hi).drop lo).length = hi - lo := by
        obtain ⟨A', c', hv', _⟩ := own_slice hown
        have hn : n = rows.length := by rw [hbt] at hv'; simp at hv'; exact hv'.2.1
        simp; omega
      rw [hlen]
      by_cases hz : hi - lo = 0
      · rw [hz]
        refine ⟨[], nilcase Ad1 _, fun i j r p h => ?_⟩
        have := (List.getElem?_eq_some_iff.1 h).1
        omega
      · rcases hown.2 with ⟨hv, hz0⟩ | ⟨g, cap, cur, hv, _⟩
        · rw [hv] at hbt; simp at hbt; omega
        · have hob : (β t).ownBlock = some g := by rw [hv]; rfl
          have hcell := hown.cells hob
          rw [hv] at hbt
          have hx3 : some (⟨g, 0, none⟩ : Addr) = Ad ∧ rows.length = n ∧ cap = c := by simpa using hbt
          obtain ⟨rfl, rfl, rfl⟩ := hx3
          have hget : ∀ (i : Nat) (r : List PV), ((rows.take hi).drop lo)[i]? = some r → rows[lo + i]? = some r := by
            intro i r hr
            simp only [List.getElem?_drop, List.getElem?_take] at hr
            split at hr
            · exact hr
            · cases hr
          have hs0 : inf.size = sz := by
            have h0 : rows[lo]? = some rows[lo] := List.getElem?_eq_getElem (by omega)
            have hmem : rows[lo] ∈ (rows.take hi).drop lo := by
              refine List.mem_of_getElem? (i := 0) ?_
              simp only [List.getElem?_drop, List.getElem?_take]
              rw [if_pos (by omega)]
              exact h0
            rw [← hrl _ (List.mem_of_getElem? h0), hsz _ hmem]
          subst hs0
          have hone : ∀ v ∈ us, v.oneCell' = true := fun v hv' => by
            obtain ⟨k, hk⟩ := List.getElem?_of_mem hv'
            have hk' : k < rows.length * inf.size := by rw [← hown.1]; exact (List.getElem?_eq_some_iff.1 hk).1
            have hp : 0 < inf.size := by
              rcases Nat.eq_zero_or_pos inf.size with h | h
              · rw [h] at hk'; omega
              · exact h
            have hi'' : k / inf.size < rows.length := Nat.div_lt_of_lt_mul (by rw [Nat.mul_comm]; exact hk')
            have hr : rows[k / inf.size]? = some rows[k / inf.size] := List.getElem?_eq_getElem hi''
            have hj : k % inf.size < rows[k / inf.size].length := by rw [hrl _ (List.mem_of_getElem? hr)]; exact Nat.mod_lt _ hp
            obtain ⟨c, hc, h1, _⟩ := hcs _ _ _ _ hr (List.getElem?_eq_getElem hj)
            rw [show k / inf.size * inf.size + k % inf.size = k from by rw [Nat.mul_comm]; exact Nat.div_add_mod k inf.size, hk] at hc
            injection hc with hc
            rw [hc]; exact h1
          let news := (us.drop (lo * inf.size)).take ((hi - lo) * inf.size)
          have hfit : lo * inf.size + (hi - lo) * inf.size ≤ us.length := by
            rw [hown.1, ← Nat.add_mul]; exact Nat.mul_le_mul_right _ (by omega)
          have hnl : news.length = (hi - lo) * inf.size := by simp only [news, List.length_take, List.length_drop]; omega
          have hng : ∀ k, k < (hi - lo) * inf.size → news[k]? = us[lo * inf.size + k]? := fun k hk => by
            simp only [news, List.getElem?_take, List.getElem?_drop]
            rw [if_pos hk]
          have hnc : ∀ (k : Nat) (v : Value), news[k]? = some v → w.cell? ((⟨g, 0, none⟩ : Addr).add (lo * inf.size) |>.add k) = some v := fun k v hk => by
            have hk' : k < (hi - lo) * inf.size := by rw [← hnl]; exact (List.getElem?_eq_some_iff.1 hk).1
            rw [hng k hk'] at hk
            rw [add_add']
            exact hcell _ v hk
          rw [g5 (by omega)]
          refine ⟨news, ⟨htx, fun _ => rfl, run_firstCells_some w inf.size (hi - lo) _ (hi - lo) _ news hnl hnc, run_firstCells_some w.drew inf.size (hi - lo) _ (hi - lo) _ news hnl (by simpa using hnc), hnl, fun v hv => hone v (List.mem_of_mem_drop (List.mem_of_mem_take hv))⟩, fun i j r p hr hp => ?_⟩
          obtain ⟨c', hc', h1, h2⟩ := hcs (lo + i) j r p (hget i r hr) hp
          have hil : i < hi - lo := by rw [← hlen]; exact (List.getElem?_eq_some_iff.1 hr).1
          have hjl : j < inf.size := by rw [← hrl r (List.mem_of_getElem? (hget i r hr))]; exact (List.getElem?_eq_some_iff.1 hp).1
          have hlt : i * inf.size + j < (hi - lo) * inf.size := by
            have := Nat.mul_le_mul_right inf.size (show i + 1 ≤ hi - lo from hil)
            rw [Nat.succ_mul] at this
            omega
          exact ⟨c', by rw [hng _ hlt, ← hc', Nat.add_mul, Nat.add_assoc], h1, h2⟩
    · cases hm
  | _ => simp [rowsIn] at hm

variable {t tx e : TypeId} {inf : TypeInfo}

theorem f_app (ho : o.op = .call { callee := .builtin .append, args := #[x, y], argTypes := #[t, tx] }) (ht : P.underlying t = some (.slice e)) (htx : (∃ e', P.underlying tx = some (.slice e')) ∨ P.underlying tx = some .string)
    (hi : P.info? e = some inf) (hpos : 0 < inf.size) (hzt : (zeroT P e).isSome = true) (h : Rel P S0 L B0 w0 N st a w β) (hd : d < N) (hn : st.objs d = none) {X Y : AV}
    (hX : RV P (okS S0 w0.heap.size β st.objs w) w β (dom st.objs) (a.eval x) X) (hY : RV P (okS S0 w0.heap.size β st.objs w) w β (dom st.objs) (a.eval y) Y)
    {φ : Prop} {v : AV} {ao : AO} (hs : semF (.app e inf.size inf.bytes) d [X, Y] st.objs = some (φ, v, ao)) (hφ : φ) :
    ∃ r w', (execOp a.eval o).run P w = .ok (.value r) w' ∧ ∃ β', Rel P S0 L B0 w0 N ⟨put (some d) v st.vars, addL [(d, ao)] st.objs⟩ (a.put (some d) r) w' β' := by
  have hXn : X = .pv .nil := by
    cases X with
    | pv p => cases p <;> first | rfl | (simp [semF] at hs)
    | _ => simp [semF] at hs
  subst hXn
  simp only [semF, Option.map_eq_some_iff] at hs
  obtain ⟨rows, hrows, he⟩ := hs
  simp only [Prod.mk.injEq] at he
  obtain ⟨rfl, rfl, rfl⟩ := he
  obtain ⟨hb1, hb2, hb3⟩ := hφ
  obtain ⟨zs, hz⟩ := Option.isSome_iff_exists.1 hzt
  obtain ⟨i', zv, hi', hzv, hzs, rfl⟩ := zeroT_inv hz
  have : i' = inf := by rw [hi] at hi'; injection hi' with hi'; exact hi'.symm
  subst this
  obtain ⟨news, hsrc, hms⟩ := src_of h.heap htx hY hrows hb3
  obtain ⟨v', w', hrun, hown', hg, hbl, _⟩ := run_app w t tx o.type e i' zv ht hi hzv hzs hpos (.slice none 0 0) 0 [] (World.ownsRow_nil w 0 e i'.size) (a.eval y) rows.length news hsrc (by omega) (by simpa using hb1)
  have hg' : w.grownBy w' none := hg
  have hv : ∀ b, blk v' = some b → w.heap.size ≤ b := fun b hb => by
    rw [(own_blk hown').1] at hb
    rcases hbl with hb' | hb' <;> rw [hb'] at hb
    · simp [Value.ownBlock] at hb
    · injection hb with hb; omega
  have hm := h.fresh_mono hn hg' hv (o := .arr e rows)
  have hf := h.fresh hd hn hg' hv (o := .arr e rows)
    ⟨i', [] ++ news, hi, by rw [setβ_same]; simpa using hown', hb3, fun i j r p hr hp => by
      obtain ⟨c, h1, h2, h3⟩ := hms i j r p hr hp
      exact ⟨c, by simpa using h1, h2, h3.mono hm.1⟩⟩
  rw [addL_one]
  have hp := hf.put (d := some d) (r := setβ β d v' d) (v := .own d) (fun s hs => by injection hs with hs; omega) (.own d (dom_add.2 (.inl rfl)))
  rw [setβ_same] at hp
  refine ⟨v', w', ?_, _, hp⟩
  simp [execOp, ho, resolve, invoke, builtin, hX.pv_inv.nil_inv, hrun]

theorem m_app (ho : o.op = .call { callee := .builtin .append, args := #[x, y], argTypes := #[t, tx] }) (ht : P.underlying t = some (.slice e)) (htx : (∃ e', P.underlying tx = some (.slice e')) ∨ P.underlying tx = some .string)
    (hi : P.info? e = some inf) (hpos : 0 < inf.size) (hzt : (zeroT P e).isSome = true) (h : Rel P S0 L B0 w0 N st a w β) {od : Option Nat} (hd : ∀ s, od = some s → s < N) {X Y : AV}
    (hX : RV P (okS S0 w0.heap.size β st.objs w) w β (dom st.objs) (a.eval x) X) (hY : RV P (okS S0 w0.heap.size β st.objs w) w β (dom st.objs) (a.eval y) Y)
    {φ : Prop} {tg : Nat} {ao : AO} (hs : semM (.app e inf.size inf.bytes) [X, Y] st.objs = some (φ, tg, ao)) (hφ : φ) :
    ∃ r w', (execOp a.eval o).run P w = .ok (.value r) w' ∧ ∃ β', Rel P S0 L B0 w0 N ⟨put od (.own tg) (killV tg st.vars), addO tg ao (killM tg st.objs)⟩ (a.put od r) w' β' := by
  cases X with
  | own t' =>
    simp only [semM, Option.bind_eq_some_iff] at hs
    obtain ⟨⟨e', rows⟩, har, more, hmore, he⟩ := hs
    split at he
    · rename_i hee
      simp only [Option.some.injEq, Prod.mk.injEq] at he
      obtain ⟨rfl, rfl, rfl⟩ := he
      simp only at hee hφ
      obtain ⟨hee, ht9⟩ := hee
      subst hee
      obtain ⟨hb1, hb2, hb3⟩ := hφ
      have har' := arrO_inv har
      simp only at har'
      obtain ⟨zs, hz⟩ := Option.isSome_iff_exists.1 hzt
      obtain ⟨i', zv, hi', hzv, hzs, rfl⟩ := zeroT_inv hz
      have : i' = inf := by rw [hi] at hi'; injection hi' with hi'; exact hi'.symm
      subst this
      obtain ⟨inf', us, hinf', hown, hrl, hcs⟩ := h.heap.arr har'
      have : inf' = i' := by rw [hi] at hinf'; injection hinf' with hinf'; exact hinf'.symm
      subst this
      obtain ⟨news, hsrc, hms⟩ := src_of h.heap htx hY hmore hb3
      obtain ⟨v', w', hrun, hown', hg, hbl, _⟩ := run_app w t tx o.type e' inf' zv ht hi hzv hzs hpos (β t') rows.length us hown (a.eval y) more.length news hsrc hb2 hb1
      have hR := h.app ht9 har' hi hown hrl hcs hb3 hms hown' hg hbl
      have hp := hR.put (d := od) (r := setβ β t' v' t') (v := .own t') hd (.own t' (dom_add.2 (.inl rfl)))
      rw [setβ_same] at hp
      refine ⟨v', w', ?_, _, hp⟩
      simp [execOp, ho, resolve, invoke, builtin, hX.own_inv.1, hrun]
    · cases he
  | _ => simp [semM] at hs

theorem killC_idem (t : Nat) (c : AV) : killC t (killC t c) = killC t c := by
  cases c with
  | own s => by_cases h : s = t <;> simp [killC, h]
  | eptr s e i o => by_cases h : s = t <;> simp [killC, h]
  | sub s e lo hi => by_cases h : s = t <;> simp [killC, h]
  | clo f cs => cases cs <;> rfl
  | _ => rfl
theorem killCs_idem (t : Nat) : ∀ cs : List AV, killCs t (killCs t cs) = killCs t cs
  | [] => rfl
  | c :: cs => by simp only [killCs, killC_idem, killCs_idem t cs]
theorem kill_idem (t : Nat) (x : AV) : kill t (kill t x) = kill t x := by
  cases x with
  | agg cs => simp only [kill, killCs_idem]
  | tup cs => simp only [kill, killCs_idem]
  | cnd g v => simp only [kill, kill_idem t v]
  | own s => by_cases h : s = t <;> simp [kill, killC, h]
  | eptr s e i o => by_cases h : s = t <;> simp [kill, killC, h]
  | sub s e lo hi => by_cases h : s = t <;> simp [kill, killC, h]
  | clo f cs => cases cs <;> rfl
  | _ => rfl
theorem killO_idem (t : Nat) (o : AO) : killO t (killO t o) = killO t o := by
  cases o <;> simp only [killO, killCs_idem]
theorem sh_kill (t : Nat) (e : TypeId) (R : List (List PV)) (x : AV) : sh t e R (kill t x) = kill t x := by
  have h := kill_idem t x
  cases x with
  | own s => by_cases h : s = t <;> simp [sh, kill, killC, h]
  | sub s e lo hi => by_cases h : s = t <;> simp [sh, kill, killC, h]
  | eptr s e i o => by_cases h : s = t <;> simp [sh, kill, killC, h]
  | clo f cs => cases cs <;> rfl
  | agg cs => exact h
  | tup cs => exact h
  | cnd g v => exact h
  | _ => rfl

/-- A slice is appended to; both it and the old one are read alone from now on. -/
theorem m_aps (hL : ∀ b, L b → S0 b) (ho : o.op = .call { callee := .builtin .append, args := #[x, y], argTypes := #[t, tx] }) (ht : P.underlying t = some (.slice e)) (htx : (∃ e', P.underlying tx = some (.slice e')) ∨ P.underlying tx = some .string)
    (hi : P.info? e = some inf) (hpos : 0 < inf.size) (hzt : (zeroT P e).isSome = true) (h : Rel P S0 L B0 w0 N st a w β) {od : Option Nat} (hd : ∀ s, od = some s → s < N) {X Y : AV}
    (hX : RV P (okS S0 w0.heap.size β st.objs w) w β (dom st.objs) (a.eval x) X) (hY : RV P (okS S0 w0.heap.size β st.objs w) w β (dom st.objs) (a.eval y) Y)
    {tg : Nat} {rows more : List (List PV)} (hs : apsO st.objs e [X, Y] = some (tg, rows, more)) (hb1 : (rows.length + more.length) * inf.bytes ≤ 140737488355328) (hb2 : rows.length + more.length ≤ maxLen) (hb3 : ∀ r ∈ more, r.length = inf.size) (ht9 : tg % 1000 ≠ 999) :
    ∃ r w', (execOp a.eval o).run P w = .ok (.value r) w' ∧ ∃ β', Rel P S0 L B0 w0 N ⟨put od (.pv (.ro (rows ++ more))) (shAV tg rows st.vars), shM tg st.objs⟩ (a.put od r) w' β' := by
  cases X with
  | own t' =>
    simp only [apsO, Option.bind_eq_some_iff] at hs
    obtain ⟨⟨e', rows'⟩, har, more', hmore, he⟩ := hs
    split at he
    rotate_left
    · cases he
    rename_i hee
    simp only [Option.some.injEq, Prod.mk.injEq] at he
    obtain ⟨rfl, rfl, rfl⟩ := he
    simp only at hee
    subst hee
    have har' := arrO_inv har
    simp only at har'
    obtain ⟨zs, hz⟩ := Option.isSome_iff_exists.1 hzt
    obtain ⟨i', zv, hi', hzv, hzs, rfl⟩ := zeroT_inv hz
    have : i' = inf := by rw [hi] at hi'; injection hi' with hi'; exact hi'.symm
    subst this
    obtain ⟨inf', us, hinf', hown, hrl, hcs⟩ := h.heap.arr har'
    have : inf' = i' := by rw [hi] at hinf'; injection hinf' with hinf'; exact hinf'.symm
    subst this
    obtain ⟨news, hsrc, hms⟩ := src_of h.heap htx hY hmore hb3
    obtain ⟨v', w', hrun, hown', hg, hbl, hold⟩ := run_app w t tx o.type e' inf' zv ht hi hzv hzs hpos (β t') rows'.length us hown (a.eval y) more'.length news hsrc hb2 hb1
    have hR := h.app ht9 har' hi hown hrl hcs hb3 hms hown' hg hbl
    have hp := hR.put (d := od) (r := setβ β t' v' t') (v := .own t') hd (.own t' (dom_add.2 (.inl rfl)))
    rw [setβ_same] at hp
    have hS := hp.share hL (t := t') (e := e') (rows := rows' ++ more') (by simp [addO])
    have hobj : shM t' (addO t' (.arr e' (rows' ++ more')) (killM t' st.objs)) = shM t' st.objs := by
      funext s
      unfold shM addO killM
      by_cases hs : s = t'
      · simp [hs]
      · simp only [if_neg hs]
        cases st.objs s with
        | none => rfl
        | some q => simp [killO_idem]
    simp only at hS
    rw [hobj] at hS
    have hdt : dom st.objs t' := ⟨_, har'⟩
    have hblk : blk (β t') = (β t').ownBlock := (own_blk hown).1
    have hlive : ∀ b, live (setβ β t' v') (shM t' st.objs) b → live β st.objs b ∧ blk (β t') ≠ some b := by
      rintro b ⟨s, o, hs, hb⟩
      obtain ⟨hne, o', ho'⟩ := dom_shM.1 ⟨o, hs⟩
      rw [setβ_ne _ _ hne] at hb
      exact ⟨⟨s, o', ho', hb⟩, fun hb' => hne (h.heap.inj s t' b ⟨o', ho'⟩ hdt hb hb')⟩
    have hm : ∀ b, okS S0 w0.heap.size β st.objs w b → okS S0 w0.heap.size (setβ β t' v') (shM t' st.objs) w' b ∧ w'.heap[b]? = w.heap[b]? := by
      rintro b ⟨h1, h2, h3⟩
      refine ⟨⟨h1, Nat.lt_of_lt_of_le h2 hg.size, fun hl => h3 (hlive b hl).1⟩, hg.block b h2 fun hb => h3 ⟨t', _, har', ?_⟩⟩
      rw [hblk, ← hb]
    have hbk : ∀ b, blk (β t') = some b → okS S0 w0.heap.size (setβ β t' v') (shM t' st.objs) w' b := by
      intro b hb
      exact ⟨(h.old t' b hdt hb).elim .inr fun hx => .inl (hL b hx), Nat.lt_of_lt_of_le (h.lt hdt hb) hg.size, fun hl => (hlive b hl).2 hb⟩
    have hw : HoldsO P (okS S0 w0.heap.size (setβ β t' v') (shM t' st.objs) w') w' β (fun _ => False) t' (.arr e' rows') := by
      refine ⟨inf', us, hi, hold, hrl, fun i j r p h1 h2 => ?_⟩
      obtain ⟨u, hu, h3, h4⟩ := hcs i j r p h1 h2
      exact ⟨u, hu, h3, h4.mono hm⟩
    have hro := (own_ro hw (fun b hb => hb) hbk).1
    refine ⟨v', w', by simp [execOp, ho, resolve, invoke, builtin, hX.own_inv.1, hrun], setβ β t' v', hS.size, hS.defers, fun s => ?_, hS.heap, hS.old, hS.lim, hS.pin, hS.fram⟩
    have hv := hS.vars s
    by_cases hods : od = some s
    · subst hods
      have e1 : shV t' e' (rows' ++ more') (Ab.put (some s) (.own t') (killV t' st.vars)) s = .pv (.ro (rows' ++ more')) := by simp [shV, Ab.put, sh]
      simp only at hv
      rw [e1] at hv
      have e2 : Ab.put (some s) (.pv (.ro (rows' ++ more'))) (shAV t' rows' st.vars) s = .pv (.ro (rows' ++ more')) := by simp [Ab.put]
      show RV P _ w' _ _ _ (Ab.put (some s) (.pv (.ro (rows' ++ more'))) (shAV t' rows' st.vars) s)
      rw [e2]
      exact hv
    · have e1 : shV t' e' (rows' ++ more') (Ab.put od (.own t') (killV t' st.vars)) s = kill t' (st.vars s) := by
        have : Ab.put od (.own t') (killV t' st.vars) s = kill t' (st.vars s) := by
          cases od with
          | none => rfl
          | some q => simp only [Ab.put]; rw [if_neg (fun e => hods (by rw [e]))]; rfl
        unfold shV
        rw [this, sh_kill]
      have e2 : Ab.put od (.pv (.ro (rows' ++ more'))) (shAV t' rows' st.vars) s = shA t' rows' (st.vars s) := by
        cases od with
        | none => rfl
        | some q => simp only [Ab.put]; rw [if_neg (fun e => hods (by rw [e]))]; rfl
      simp only at hv
      rw [e1] at hv
      show RV P _ w' _ _ _ (Ab.put od (.pv (.ro (rows' ++ more'))) (shAV t' rows' st.vars) s)
      rw [e2]
      have hval : (a.put od v').tmps.getD s undef = a.tmps.getD s undef := by
        cases od with
        | none => rfl
        | some q =>
          have hq : q < a.tmps.size := by rw [h.size]; exact hd q rfl
          simp only [Act.put]
          rw [getD_set _ _ _ _ hq, if_neg (fun e => hods (by rw [e]))]
      cases hvs : st.vars s with
      | own u =>
        rw [hvs] at hv
        simp only [shA]
        split
        · rename_i hu
          subst hu
          have hv0 := h.vars s
          rw [hvs] at hv0
          rw [hval, hv0.own_inv.1]
          exact .pv _ _ hro
        · rename_i hu
          simp only [kill, killC, if_neg hu] at hv
          exact hv
      | _ => rw [hvs] at hv; exact hv
  | _ => simp [apsO] at hs

/-! Stores -/

theorem heap_setCell_self {w : World} {b i : Nat} {us : Array Value} {ty : TypeId} (hb : w.heap[b]? = some (.cells us ty (0, 0))) (v : Value) :
    (w.setCell ⟨b, i, none⟩ v).heap[b]? = some (.cells (us.setIfInBounds i v) ty (0, 0)) := by
  simp [World.setCell, Array.getElem?_modify, hb]

theorem run_store1 {b i : Nat} {us : Array Value} {ty : TypeId} {v u : Value} (hb : w.heap[b]? = some (.cells us ty (0, 0))) (hi : i < us.size) (hv : v.oneCell' = true) :
    (store ⟨b, i, none⟩ v).run P w = .ok () (w.setCell ⟨b, i, none⟩ v) := by
  have hc : w.cell? ⟨b, i, none⟩ = some us[i] := (cell_of_row w b i us ty (0, 0) hb).trans (Array.getElem?_eq_getElem hi)
  have hf : w.frozen? ⟨b, i, none⟩ = false := by simp [World.frozen?, hb]
  rw [run_store P w _ v .plain hv]
  simp [stored, hc, hf]

theorem run_storeN {b i : Nat} {us : Array Value} {ty : TypeId} {vs : List Value} (hb : w.heap[b]? = some (.cells us ty (0, 0))) (hi : i + vs.length ≤ us.size) (hv : ∀ v ∈ vs, v.oneCell' = true) :
    (storeCells ⟨b, i, none⟩ vs).run P w = .ok () (w.setRow b (us.toList.take i ++ vs ++ us.toList.drop (i + vs.length)).toArray) := by
  have := run_storeCells_at P b i ty vs 0 us w hb (by simpa using hi) hv
  simpa using this

theorem ones_get : ∀ (l : List AV) (i : Nat) (c : AV), ones l = true → l[i]? = some c → oneAV c = true
  | [], i, c, _, hc => by simp at hc
  | y :: l, 0, c, h, hc => by simp only [ones, Bool.and_eq_true] at h; simp at hc; subst hc; exact h.1
  | y :: l, i + 1, c, h, hc => by simp only [ones, Bool.and_eq_true] at h; exact ones_get l i c h.2 (by simpa using hc)

theorem RVs.ones (hh : Heap P (okS S0 w0.heap.size β st.objs w) w β st.objs) {us : List Value} {cs : List AV} (h : RVs P (okS S0 w0.heap.size β st.objs w) w β (dom st.objs) us cs) (ho : ones cs = true) : ∀ v ∈ us, v.oneCell' = true := fun v hv => by
  obtain ⟨k, hk⟩ := List.getElem?_of_mem hv
  have hlt : k < cs.length := by rw [← h.1]; exact (List.getElem?_eq_some_iff.1 hk).1
  have hc : cs[k]? = some cs[k] := List.getElem?_eq_getElem hlt
  exact (one_of hh (h.2 k _ v hc hk) (ones_get cs k _ ho hc)).1

/-- A box's cells written over. -/
theorem upd_box (h : Rel P S0 L B0 w0 N st a w β) {t' b : Nat} {cs cs' : List AV} {us' : Array Value} {ty : TypeId} (hc : st.objs t' = some (.box cs)) (hp : β t' = .pointer (some ⟨b, 0, none⟩)) {w' : World}
    (hos : w'.os = w.os) (htape : w'.tape = w.tape) (hout : w'.output = w.output) (hsz : w'.heap.size = w.heap.size) (hother : ∀ k, k ≠ b → w'.heap[k]? = w.heap[k]?) (hb' : w'.heap[b]? = some (.cells us' ty (0, 0)))
    (hr : RVs P (okS S0 w0.heap.size β st.objs w) w β (dom st.objs) us'.toList cs') (hone : ∀ v ∈ us'.toList, v.oneCell' = true) :
    Rel P S0 L B0 w0 N ⟨st.vars, addO t' (.box cs') st.objs⟩ a w' β := by
  have hdt : dom st.objs t' := ⟨_, hc⟩
  have hblk : blk (β t') = some b := by rw [hp]; rfl
  refine (h.upd (o' := .box cs') hc hblk hos htape hout hsz hother ⟨b, us', ty, hp, hb', by rw [← Array.length_toList]; exact hr.1, fun i c u h1 h2 => ?_⟩).1
  have h2' : us'.toList[i]? = some u := by simpa using h2
  refine ⟨hone u (List.mem_of_getElem? h2'), ?_⟩
  refine (hr.2 i c u h1 h2').mono (fun k hk => ?_) (fun s hs => ⟨dom_add.2 (.inr hs), rfl⟩)
  obtain ⟨g1, g2, g3⟩ := hk
  have hkb : k ≠ b := fun e => g3 ⟨t', _, hc, by rw [e]; exact hblk⟩
  refine ⟨⟨g1, by omega, ?_⟩, hother k hkb⟩
  rintro ⟨s, q, hs, hk⟩
  by_cases e : s = t'
  · subst e; exact hkb (by rw [hblk] at hk; injection hk with hk; exact hk.symm)
  · exact g3 ⟨s, q, by simpa [addO, e] using hs, hk⟩

theorem set_splice {α : Type} : ∀ (l : List α) (i : Nat) (v : α), i < l.length → l.set i v = splice l i [v]
  | [], i, v, h => by simp at h
  | x :: l, 0, v, h => by simp [splice]
  | x :: l, i + 1, v, h => by
    have := set_splice l i v (by simpa using h)
    simp only [List.set_cons_succ, this]
    simp [splice, Nat.add_right_comm]

theorem splice_length {α : Type} (l : List α) (i : Nat) (vs : List α) (h : i + vs.length ≤ l.length) : (splice l i vs).length = l.length := by
  simp [splice]; omega
theorem splice_get {α : Type} (l : List α) (i : Nat) (vs : List α) (h : i + vs.length ≤ l.length) (k : Nat) :
    (splice l i vs)[k]? = if i ≤ k ∧ k < i + vs.length then vs[k - i]? else l[k]? := by
  unfold splice
  by_cases h1 : k < i
  · rw [List.append_assoc, List.getElem?_append_left (by rw [List.length_take]; omega), List.getElem?_take, if_pos h1, if_neg (by omega)]
  · by_cases h2 : k < i + vs.length
    · rw [if_pos ⟨by omega, h2⟩, List.append_assoc, List.getElem?_append_right (by rw [List.length_take]; omega), List.length_take,
        List.getElem?_append_left (by omega)]
      congr 1
      omega
    · rw [if_neg (by omega), List.getElem?_append_right (by simp; omega), List.getElem?_drop]
      congr 1
      simp
      omega

/-- Cells of a box written over. -/
theorem upd_box_splice (h : Rel P S0 L B0 w0 N st a w β) {t' b i : Nat} {cs vs : List AV} {us : List Value} (hc : st.objs t' = some (.box cs)) (hb : β t' = .pointer (some ⟨b, 0, none⟩)) (hone : ones vs = true) (hle : i + vs.length ≤ cs.length)
    (hr : RVs P (okS S0 w0.heap.size β st.objs w) w β (dom st.objs) us vs) :
    ∃ w', (storeCells ⟨b, i, none⟩ us).run P w = .ok () w' ∧ Rel P S0 L B0 w0 N ⟨st.vars, addO t' (.box (splice cs i vs)) st.objs⟩ a w' β := by
  obtain ⟨b', cur, ty, hp, hheap, hl, hcells⟩ := h.heap.box hc
  have hbb : b' = b := by rw [hb] at hp; simpa using hp.symm
  subst hbb
  have hv := hr.ones h.heap hone
  have hin : i + us.length ≤ cur.size := by rw [hr.1, hl]; exact hle
  refine ⟨_, run_storeN (P := P) hheap hin hv, ?_⟩
  have hcs : RVs P (okS S0 w0.heap.size β st.objs w) w β (dom st.objs) cur.toList cs := ⟨by simpa using hl, fun k c u h1 h2 => (hcells k c u h1 (by simpa using h2)).2⟩
  refine upd_box h hc hb (us' := (cur.toList.take i ++ us ++ cur.toList.drop (i + us.length)).toArray) (ty := ty) rfl rfl rfl (by simp) (fun k hk => setRow_other _ _ _ _ hk) (setRow_heap _ _ _ _ _ _ hheap) ?_ (fun v hv' => ?_)
  · have : cur.toList.take i ++ us ++ cur.toList.drop (i + us.length) = splice cur.toList i us := rfl
    rw [show (cur.toList.take i ++ us ++ cur.toList.drop (i + us.length)).toArray.toList = cur.toList.take i ++ us ++ cur.toList.drop (i + us.length) from rfl]
    unfold splice
    rw [hr.1]
    exact ((hcs.take i).append hr).append (hcs.drop _)
  · have hv'' : v ∈ cur.toList.take i ++ us ++ cur.toList.drop (i + us.length) := hv'
    simp only [List.mem_append] at hv''
    have hold : v ∈ cur.toList → v.oneCell' = true := fun hm => by
      obtain ⟨k, hk⟩ := List.getElem?_of_mem hm
      have hk' : k < cs.length := by rw [← hl]; simpa using (List.getElem?_eq_some_iff.1 hk).1
      exact (hcells k _ v (List.getElem?_eq_getElem hk') (by simpa using hk)).1
    rcases hv'' with (h1 | h1) | h1
    · exact hold (List.mem_of_mem_take h1)
    · exact hv v h1
    · exact hold (List.mem_of_mem_drop h1)

/-- Cells of a slice of the call's own written over. -/
theorem upd_arr_splice (h : Rel P S0 L B0 w0 N st a w β) {t' b off : Nat} {i : Int} {n c : Nat} {e : TypeId} {inf : TypeInfo} {rows : List (List PV)} {ps : List PV} {us : List Value} (hc : st.objs t' = some (.arr e rows)) (hi : P.info? e = some inf)
    (hb : β t' = .slice (some ⟨b, 0, none⟩) n c) (h0 : 0 ≤ i) (h1 : i < rows.length) (hle : off + ps.length ≤ (rowAt rows i).length) (hul : us.length = ps.length)
    (hr : ∀ (j : Nat) (p : PV), ps[j]? = some p → ∃ u, us[j]? = some u ∧ u.oneCell' = true ∧ RPV (okS S0 w0.heap.size β st.objs w) w u p) :
    ∃ w', (storeCells ⟨b, i.toNat * inf.size + off, none⟩ us).run P w = .ok () w' ∧ Rel P S0 L B0 w0 N ⟨st.vars, addO t' (.arr e (rows.set i.toNat (splice (rowAt rows i) off ps))) st.objs⟩ a w' β := by
  obtain ⟨inf', xs, hi', hown, hrl, hcells⟩ := h.heap.arr hc
  have : inf' = inf := by rw [hi] at hi'; injection hi' with hi'; exact hi'.symm
  subst this
  have hg := rowAt_get h0 h1
  have hrow : (rowAt rows i).length = inf'.size := hrl _ (List.mem_of_getElem? hg)
  have hit : i.toNat < rows.length := by omega
  have hfit : i.toNat * inf'.size + inf'.size ≤ rows.length * inf'.size := by rw [← Nat.succ_mul]; exact Nat.mul_le_mul_right _ hit
  have hv : ∀ v ∈ us, v.oneCell' = true := fun v hv => by
    obtain ⟨k, hk⟩ := List.getElem?_of_mem hv
    have hk' : k < ps.length := by rw [← hul]; exact (List.getElem?_eq_some_iff.1 hk).1
    obtain ⟨u, hu, h2, _⟩ := hr k _ (List.getElem?_eq_getElem hk')
    rw [hk] at hu; injection hu with hu; rw [hu]; exact h2
  rcases hown.2 with ⟨hnil, _⟩ | ⟨g, cap, cur, hv', _, hheap, hnc, hcm, hcs, htake⟩
  · rw [hb] at hnil; cases hnil
  · have hgb : g = b := by rw [hb] at hv'; simp at hv'; exact hv'.1.symm
    subst hgb
    have hnn : n = rows.length ∧ c = cap := by rw [hb] at hv'; simp at hv'; exact hv'
    have hxl : xs.length = rows.length * inf'.size := hown.1
    have hcap : rows.length * inf'.size ≤ cur.size := by rw [hcs]; exact Nat.mul_le_mul_right _ hnc
    have hin : i.toNat * inf'.size + off + us.length ≤ cur.size := by rw [hul]; omega
    refine ⟨_, run_storeN (P := P) hheap hin hv, ?_⟩
    have hblk : blk (β t') = some g := by rw [hb]; rfl
    have hmono : ∀ (cs' : Array Value) (o' : AO) (k : Nat), okS S0 w0.heap.size β st.objs w k → okS S0 w0.heap.size β (addO t' o' st.objs) (w.setRow g cs') k ∧ (w.setRow g cs').heap[k]? = w.heap[k]? := by
      intro cs' o' k hk
      obtain ⟨g1, g2, g3⟩ := hk
      have hkb : k ≠ g := fun e => g3 ⟨t', _, hc, by rw [e]; exact hblk⟩
      refine ⟨⟨g1, by simpa using g2, ?_⟩, setRow_other w g k cs' hkb⟩
      rintro ⟨s, q, hs, hk⟩
      by_cases e : s = t'
      · subst e; exact hkb (by rw [hblk] at hk; injection hk with hk; exact hk.symm)
      · exact g3 ⟨s, q, by simpa [addO, e] using hs, hk⟩
    refine (h.upd (w' := w.setRow g (cur.toList.take (i.toNat * inf'.size + off) ++ us ++ cur.toList.drop (i.toNat * inf'.size + off + us.length)).toArray) (o' := .arr e (rows.set i.toNat (splice (rowAt rows i) off ps))) hc hblk rfl rfl rfl (by simp) (fun k hk => setRow_other _ _ _ _ hk) ⟨inf', splice xs (i.toNat * inf'.size + off) us, hi, ?_, fun r hr' => ?_, fun k j r p hk hp => ?_⟩).1
    · rw [List.length_set]
      refine ⟨by rw [splice_length _ _ _ (by rw [hxl, hul]; omega)]; exact hxl, .inr ⟨g, cap, _, hv', Nat.zero_le _, setRow_heap _ _ _ _ _ _ hheap, hnc, hcm, ?_, ?_⟩⟩
      · simp; omega
      · rw [← htake]
        simp only [splice]
        rw [List.take_append, List.take_append]
        simp only [List.length_append, List.length_take, Array.length_toList]
        rw [List.take_of_length_le (l := List.take (i.toNat * inf'.size + off) cur.toList) (by rw [List.length_take]; omega), List.take_take, Nat.min_eq_left (by omega)]
        rw [Nat.min_eq_left (by omega)]
        rw [List.take_of_length_le (l := us) (by omega)]
        congr 1
        rw [List.drop_take]
    · rcases List.mem_or_eq_of_mem_set hr' with h2 | h2
      · exact hrl r h2
      · rw [h2, splice_length _ _ _ hle, hrow]
    · rw [List.getElem?_set] at hk
      by_cases e1 : i.toNat = k
      · rw [if_pos e1, if_pos hit] at hk
        injection hk with hk
        subst hk e1
        have hjl : j < inf'.size := by
          have := (List.getElem?_eq_some_iff.1 hp).1
          rwa [splice_length _ _ _ hle, hrow] at this
        rw [splice_get _ _ _ hle] at hp
        rw [splice_get _ _ _ (by rw [hxl, hul]; omega)]
        by_cases e2 : off ≤ j ∧ j < off + ps.length
        · rw [if_pos e2] at hp
          rw [if_pos (by rw [hul]; omega)]
          obtain ⟨u, hu, h2, h3⟩ := hr _ p hp
          exact ⟨u, by rw [← hu]; congr 1; omega, h2, h3.mono (hmono _ _)⟩
        · rw [if_neg e2] at hp
          rw [if_neg (by rw [hul]; omega)]
          obtain ⟨u, hu, h2, h3⟩ := hcells _ j _ p hg hp
          exact ⟨u, hu, h2, h3.mono (hmono _ _)⟩
      · rw [if_neg e1] at hk
        obtain ⟨u, hu, h2, h3⟩ := hcells k j r p hk hp
        have hjl : j < inf'.size := by rw [← hrl r (List.mem_of_getElem? hk)]; exact (List.getElem?_eq_some_iff.1 hp).1
        refine ⟨u, ?_, h2, h3.mono (hmono _ _)⟩
        rw [splice_get _ _ _ (by rw [hxl, hul]; omega), if_neg ?_]
        · exact hu
        · rintro ⟨g1, g2⟩
          rcases Nat.lt_or_gt_of_ne e1 with hlt | hgt
          · have : (i.toNat + 1) * inf'.size ≤ k * inf'.size := Nat.mul_le_mul_right _ hlt
            rw [Nat.succ_mul] at this
            omega
          · have : (k + 1) * inf'.size ≤ i.toNat * inf'.size := Nat.mul_le_mul_right _ hgt
            rw [Nat.succ_mul] at this
            omega

theorem run_storeOp {ts : TypeId} (ho : o.op = .store ts x y) {ad : Addr} (hx : a.eval x = .pointer (some ad)) (hsz : (sizeOf ts).run P w = .ok (a.eval y).cells.size w) {w' : World} (hst : (storeCells ad (a.eval y).cells.toList).run P w = .ok () w') :
    (execOp a.eval o).run P w = .ok .skip w' := by
  simp only [execOp, ho, Instr.storeAt, hx, Instr.sureAddr, storeVar, Sem.run_bind, Sem.run_pure, Result.andThen_ok, hsz]
  simp [hst]

theorem pvsOf_get : ∀ (cs : List AV) (r : List PV), pvsOf cs = some r → r.length = cs.length ∧ ∀ (j : Nat) (p : PV), r[j]? = some p → cs[j]? = some (.pv p)
  | [], r, hr => by simp [pvsOf] at hr; subst hr; exact ⟨rfl, fun j p hp => by simp at hp⟩
  | c :: cs, r, hr => by
    simp only [pvsOf, Option.bind_eq_some_iff, Option.map_eq_some_iff] at hr
    obtain ⟨p, hp, ps, hps, rfl⟩ := hr
    obtain ⟨h1, h2⟩ := pvsOf_get cs ps hps
    refine ⟨by simp [h1], fun j q hq => ?_⟩
    cases j with
    | zero =>
      simp at hq; subst hq
      cases c <;> simp [pvOf] at hp
      subst hp; rfl
    | succ j => simpa using h2 j q (by simpa using hq)

theorem m_store1 {ts : TypeId} (ho : o.op = .store ts x y) (h1 : sizeT P ts = some 1) (h : Rel P S0 L B0 w0 N st a w β) {od : Option Nat} (hd : ∀ s, od = some s → s < N) {X Y : AV}
    (hX : RV P (okS S0 w0.heap.size β st.objs w) w β (dom st.objs) (a.eval x) X) (hY : RV P (okS S0 w0.heap.size β st.objs w) w β (dom st.objs) (a.eval y) Y)
    {φ : Prop} {tg : Nat} {ao : AO} (hs : semM (.store none) [X, Y] st.objs = some (φ, tg, ao)) (hφ : φ) :
    ∃ w', (execOp a.eval o).run P w = .ok .skip w' ∧ ∃ β', Rel P S0 L B0 w0 N ⟨put od .junk st.vars, addO tg ao st.objs⟩ (a.put od undef) w' β' := by
  cases X with
  | ptr t' i =>
    simp only [semM, Option.bind_eq_some_iff] at hs
    obtain ⟨cs, hcs, he⟩ := hs
    split at he
    · rename_i hcond
      obtain ⟨hone, hlt⟩ := hcond
      simp only [Option.some.injEq, Prod.mk.injEq] at he
      obtain ⟨rfl, rfl, rfl⟩ := he
      obtain ⟨b, hx, hdt, hb⟩ := hX.ptr_inv
      have hv := one_of h.heap hY hone
      obtain ⟨w', hst, hR⟩ := upd_box_splice h (i := i) (vs := [Y]) (us := [a.eval y]) (boxO_inv hcs) hb (by simp [Ab.ones, hone]) (by simp; omega) (.cons hY .nil)
      rw [← set_splice _ _ _ hlt] at hR
      exact ⟨w', run_storeOp ho hx (by rw [hv.2]; exact run_szT h1 w) (by rw [hv.2]; exact hst), β, hR.put hd (.junk _)⟩
    · cases he
  | eptr t' e' i off =>
    cases Y with
    | pv p =>
      simp only [semM, Option.bind_eq_some_iff] at hs
      obtain ⟨⟨e, rows⟩, har, he⟩ := hs
      split at he
      · rename_i hcond
        obtain ⟨hee, hlt, hone⟩ := hcond
        simp only [Option.some.injEq, Prod.mk.injEq] at he
        obtain ⟨rfl, rfl, rfl⟩ := he
        simp only at hee hφ hlt
        subst hee
        obtain ⟨b, n, c, inf, hx, hdt, hi, hb⟩ := hX.eptr_inv
        have hv := one_of h.heap hY hone
        obtain ⟨w', hst, hR⟩ := upd_arr_splice h (off := off) (ps := [p]) (us := [a.eval y]) (arrO_inv har) hi hb hφ.1 hφ.2 (by simp; omega) rfl (fun j q hq => by
          cases j with
          | zero => simp at hq; subst hq; exact ⟨_, rfl, hv.1, hY.pv_inv⟩
          | succ j => simp at hq)
        simp only at hR
        rw [← set_splice _ _ _ hlt] at hR
        exact ⟨w', run_storeOp ho hx (by rw [hv.2]; exact run_szT h1 w) (by rw [hv.2]; exact hst), β, hR.put hd (.junk _)⟩
      · cases he
    | _ => simp [semM] at hs
  | _ => simp [semM] at hs

theorem m_storeN {ts : TypeId} {n : Nat} (ho : o.op = .store ts x y) (hn : aggN P ts = some (some n)) (h : Rel P S0 L B0 w0 N st a w β) {od : Option Nat} (hd : ∀ s, od = some s → s < N) {X Y : AV}
    (hX : RV P (okS S0 w0.heap.size β st.objs w) w β (dom st.objs) (a.eval x) X) (hY : RV P (okS S0 w0.heap.size β st.objs w) w β (dom st.objs) (a.eval y) Y)
    {φ : Prop} {tg : Nat} {ao : AO} (hs : semM (.store (some n)) [X, Y] st.objs = some (φ, tg, ao)) (hφ : φ) :
    ∃ w', (execOp a.eval o).run P w = .ok .skip w' ∧ ∃ β', Rel P S0 L B0 w0 N ⟨put od .junk st.vars, addO tg ao st.objs⟩ (a.put od undef) w' β' := by
  have hsz := (aggN_some hn w).2
  cases Y with
  | agg vs =>
    obtain ⟨us, hy, hl, hcs⟩ := hY.agg_inv
    have hcell : (a.eval y).cells = us.toArray := by rw [hy]; rfl
    cases X with
    | ptr t' i =>
      simp only [semM, Option.bind_eq_some_iff] at hs
      obtain ⟨cs, hbox, he⟩ := hs
      split at he
      · rename_i hcond
        obtain ⟨hone, hvl, hle⟩ := hcond
        simp only [Option.some.injEq, Prod.mk.injEq] at he
        obtain ⟨rfl, rfl, rfl⟩ := he
        obtain ⟨b, hx, hdt, hb⟩ := hX.ptr_inv
        obtain ⟨w', hst, hR⟩ := upd_box_splice h (i := i) (vs := vs) (us := us) (boxO_inv hbox) hb hone (by omega) ⟨hl, hcs⟩
        exact ⟨w', run_storeOp ho hx (by rw [hcell]; simpa [hl, hvl] using hsz) (by rw [hcell]; exact hst), β, hR.put hd (.junk _)⟩
      · cases he
    | eptr t' e' i off =>
      simp only [semM, Option.bind_eq_some_iff] at hs
      obtain ⟨⟨e, rows⟩, har, ps, hps, he⟩ := hs
      split at he
      · rename_i hcond
        obtain ⟨hee, hone, hpl, hle⟩ := hcond
        simp only [Option.some.injEq, Prod.mk.injEq] at he
        obtain ⟨rfl, rfl, rfl⟩ := he
        simp only at hee hφ hle
        subst hee
        obtain ⟨b, n', c, inf, hx, hdt, hi, hb⟩ := hX.eptr_inv
        obtain ⟨g1, g2⟩ := pvsOf_get vs ps hps
        have hones := RVs.ones h.heap (us := us) (cs := vs) ⟨hl, hcs⟩ hone
        obtain ⟨w', hst, hR⟩ := upd_arr_splice h (off := off) (ps := ps) (us := us) (arrO_inv har) hi hb hφ.1 hφ.2 (by simp only; omega) (by omega) (fun j q hq => by
          have hvj := g2 j q hq
          have hlt : j < us.length := by rw [hl]; exact (List.getElem?_eq_some_iff.1 hvj).1
          have hu : us[j]? = some us[j] := List.getElem?_eq_getElem hlt
          exact ⟨_, hu, hones _ (List.mem_of_getElem? hu), (hcs j _ _ hvj hu).pv_inv⟩)
        exact ⟨w', run_storeOp ho hx (by rw [hcell]; simp only [List.size_toArray, hl, ← g1, hpl]; exact hsz) (by rw [hcell]; exact hst), β, hR.put hd (.junk _)⟩
      · cases he
    | _ => simp [semM] at hs
  | _ => cases X <;> simp [semM] at hs

end
end Go.Proofs.Ythblkhafehanfaa.Ab
