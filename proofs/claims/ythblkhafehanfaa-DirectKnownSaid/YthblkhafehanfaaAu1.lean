/- The abstract machine is sound: a slice cleared; a call of a function that writes to a slice that is handed over. -/
import Derived.Test.YthblkhafehanfaaAb14
namespace Go.Proofs.Ythblkhafehanfaa.Ab
open Go Go.RowKit
set_option linter.unusedVariables false
set_option linter.unusedSimpArgs false

section
variable {P : Program} {Γ : Tab} {S0 L : Nat → Prop} {B0 : Nat → Value} {w0 w : World} {N : Nat} {st : St} {a : Act} {β : Nat → Value} {o : Oper} {x : Operand}

/-- Rows of a slice of the call's own written over. -/
theorem upd_arr_rows (h : Rel P S0 L B0 w0 N st a w β) {t' b lo n c : Nat} {e : TypeId} {inf : TypeInfo} {rows mid : List (List PV)} {us : List Value} (hc : st.objs t' = some (.arr e rows)) (hi : P.info? e = some inf)
    (hb : β t' = .slice (some ⟨b, 0, none⟩) n c) (hle : lo + mid.length ≤ rows.length) (hml : ∀ r ∈ mid, r.length = inf.size) (hul : us.length = mid.length * inf.size) (hv : ∀ v ∈ us, v.oneCell' = true)
    (hr : ∀ (i j : Nat) (r : List PV) (p : PV), mid[i]? = some r → r[j]? = some p → ∃ u, us[i * inf.size + j]? = some u ∧ u.oneCell' = true ∧ RPV (okS S0 w0.heap.size β st.objs w) w u p) :
    ∃ w', (storeCells ⟨b, lo * inf.size, none⟩ us).run P w = .ok () w' ∧ Rel P S0 L B0 w0 N ⟨st.vars, addO t' (.arr e (splice rows lo mid)) st.objs⟩ a w' β := by
  obtain ⟨inf', xs, hi', hown, hrl, hcells⟩ := h.heap.arr hc
  have : inf' = inf := by rw [hi] at hi'; injection hi' with hi'; exact hi'.symm
  subst this
  have hfit : lo * inf'.size + mid.length * inf'.size ≤ rows.length * inf'.size := by rw [← Nat.add_mul]; exact Nat.mul_le_mul_right _ hle
  rcases hown.2 with ⟨hnil, _⟩ | ⟨g, cap, cur, hv', _, hheap, hnc, hcm, hcs, htake⟩
  · rw [hb] at hnil; cases hnil
  · have hgb : g = b := by rw [hb] at hv'; simp at hv'; exact hv'.1.symm
    subst hgb
    have hnn : n = rows.length ∧ c = cap := by rw [hb] at hv'; simp at hv'; exact hv'
    have hxl : xs.length = rows.length * inf'.size := hown.1
    have hcap : rows.length * inf'.size ≤ cur.size := by rw [hcs]; exact Nat.mul_le_mul_right _ hnc
    have hin : lo * inf'.size + us.length ≤ cur.size := by rw [hul]; omega
    refine ⟨_, run_storeN (P := P) hheap hin hv, ?_⟩
    have hblk : blk (β t') = some g := by rw [hb]; rfl
    have hmono : ∀ (cs' : Array Value) (o' : AO) (k : Nat), okS S0 w0.heap.size β st.objs w k → okS S0 w0.heap.size β (addO t' o' st.objs) (w.setRow g cs') k ∧ (w.setRow g cs').heap[k]? = w.heap[k]? := by
      intro cs' o' k hk
      obtain ⟨g1, g2, g3⟩ := hk
      have hkb : k ≠ g := fun e => g3 ⟨t', _, hc, by rw [e]; exact hblk⟩
      refine ⟨⟨g1, by simpa using g2, ?_⟩, setRow_other w g k cs' hkb⟩
      rintro ⟨s, q, hs, hk⟩
      by_cases e : s = t'
      · subst e; exact hkb (by rw [hblk] at hk; injection hk with hk; exact hk.symm)
      · exact g3 ⟨s, q, by simpa [addO, e] using hs, hk⟩
    have hsl : (splice rows lo mid).length = rows.length := splice_length _ _ _ hle
    refine (h.upd (w' := w.setRow g (cur.toList.take (lo * inf'.size) ++ us ++ cur.toList.drop (lo * inf'.size + us.length)).toArray) (o' := .arr e (splice rows lo mid)) hc hblk rfl rfl rfl (by simp) (fun k hk => setRow_other _ _ _ _ hk) ⟨inf', splice xs (lo * inf'.size) us, hi, ?_, fun r hr' => ?_, fun k j r p hk hp => ?_⟩).1
    · rw [hsl]
      refine ⟨by rw [splice_length _ _ _ (by rw [hxl, hul]; omega)]; exact hxl, .inr ⟨g, cap, _, hv', Nat.zero_le _, setRow_heap _ _ _ _ _ _ hheap, hnc, hcm, ?_, ?_⟩⟩
      · simp; omega
      · rw [← htake]
        simp only [splice]
        rw [List.take_append, List.take_append]
        simp only [List.length_append, List.length_take, Array.length_toList]
        rw [List.take_of_length_le (l := List.take (lo * inf'.size) cur.toList) (by rw [List.length_take]; omega), List.take_take, Nat.min_eq_left (by omega)]
        rw [Nat.min_eq_left (by omega)]
        rw [List.take_of_length_le (l := us) (by omega)]
        congr 1
        rw [List.drop_take]
    · unfold splice at hr'
      simp only [List.mem_append] at hr'
      rcases hr' with (h1 | h1) | h1
      · exact hrl r (List.mem_of_mem_take h1)
      · exact hml r h1
      · exact hrl r (List.mem_of_mem_drop h1)
    · rw [splice_get _ _ _ hle] at hk
      rw [splice_get _ _ _ (by rw [hxl, hul]; omega)]
      by_cases e1 : lo ≤ k ∧ k < lo + mid.length
      · rw [if_pos e1] at hk
        have hjl : j < inf'.size := by rw [← hml r (List.mem_of_getElem? hk)]; exact (List.getElem?_eq_some_iff.1 hp).1
        have h1 : lo * inf'.size ≤ k * inf'.size := Nat.mul_le_mul_right _ e1.1
        have h2 : (k + 1) * inf'.size ≤ (lo + mid.length) * inf'.size := Nat.mul_le_mul_right _ e1.2
        rw [Nat.succ_mul, Nat.add_mul] at h2
        rw [if_pos (by rw [hul]; omega)]
        obtain ⟨u, hu, h3, h4⟩ := hr _ j r p hk hp
        refine ⟨u, ?_, h3, h4.mono (hmono _ _)⟩
        rw [← hu, Nat.sub_mul]
        congr 1
        omega
      · rw [if_neg e1] at hk
        have hjl : j < inf'.size := by rw [← hrl r (List.mem_of_getElem? hk)]; exact (List.getElem?_eq_some_iff.1 hp).1
        obtain ⟨u, hu, h3, h4⟩ := hcells k j r p hk hp
        refine ⟨u, ?_, h3, h4.mono (hmono _ _)⟩
        rw [if_neg ?_]
        · exact hu
        · rintro ⟨g1, g2⟩
          refine e1 ⟨?_, ?_⟩
          · rcases Nat.lt_or_ge k lo with hlt | hge
            · have : (k + 1) * inf'.size ≤ lo * inf'.size := Nat.mul_le_mul_right _ hlt
              rw [Nat.succ_mul] at this
              omega
            · exact hge
          · rcases Nat.lt_or_ge k (lo + mid.length) with hlt | hge
            · exact hlt
            · have : (lo + mid.length) * inf'.size ≤ k * inf'.size := Nat.mul_le_mul_right _ hge
              rw [Nat.add_mul] at this
              rw [hul] at g2
              omega

theorem zeroCells_get (z : Array Value) (n i j : Nat) (hi : i < n) (hj : j < z.size) : (Builtin.zeroCells z n).toList[i * z.size + j]? = some z[j] := by
  have hlt : i * z.size + j < n * z.size := by
    have := Nat.mul_le_mul_right z.size (show i + 1 ≤ n from hi)
    rw [Nat.succ_mul] at this
    omega
  simp only [Builtin.zeroCells, Array.toList_map, List.getElem?_map, Array.getElem?_toList]
  rw [Array.getElem?_range, if_pos hlt]
  simp only [Option.map_some, Option.some.injEq]
  rw [Nat.mul_comm, Nat.mul_add_mod, Nat.mod_eq_of_lt hj]
  exact getElem!_pos z j hj
theorem zeroCells_mem (z : Array Value) (n : Nat) (v : Value) (h : v ∈ (Builtin.zeroCells z n).toList) : v ∈ z.toList := by
  simp only [Builtin.zeroCells, Array.toList_map, List.mem_map] at h
  obtain ⟨i, hi, rfl⟩ := h
  have hi' : i < n * z.size := by simpa using hi
  have hz : 0 < z.size := by
    rcases Nat.eq_zero_or_pos z.size with h | h
    · rw [h] at hi'; omega
    · exact h
  have := Nat.mod_lt i hz
  rw [getElem!_pos z _ this]
  simp

theorem clr_sound {t e : TypeId} {sz : Nat} {zs : List Value} (ho : o.op = .call { callee := .builtin .clear, args := #[x], argTypes := #[t] }) (ht : P.underlying t = some (.slice e)) (hsz : sizeT P e = some sz) (hz : zeroT P e = some zs) (hpos : 0 < sz) (hall : zs.all (·.oneCell') = true)
    (h : Rel P S0 L B0 w0 N st a w β) (hd : ∀ s, o.dst = some s → s < N) {X : AV} (hX : RV P (okS S0 w0.heap.size β st.objs w) w β (dom st.objs) (a.eval x) X) {r : Nat × AO} (hs : clrO st.objs e zs X = some r) :
    ∃ v w', (execOp a.eval o).run P w = .ok (.value v) w' ∧ Rel P S0 L B0 w0 N ((Eff.upd r.1 r.2).on o.dst st) (a.put o.dst v) w' β := by
  obtain ⟨i, z, hi, hzv, hzs, rfl⟩ := zeroT_inv hz
  have hsi : i.size = sz := by
    obtain ⟨i', hi', rfl⟩ := sizeT_inv hsz
    rw [hi] at hi'; injection hi' with hi'; rw [hi']
  have hzr : (zeroValue e).run P w = .ok z w := by simp [zeroValue, typeInfo, hi, hzv]
  have hex : ∀ (A : Option Addr) (n c : Nat) (w' : World), a.eval x = .slice A n c → ((A = none ∨ n = 0) ∧ w' = w ∨ ∃ ad, A = some ad ∧ n ≠ 0 ∧ (storeCells ad (Builtin.zeroCells z.cells n).toList).run P w = .ok () w') → (execOp a.eval o).run P w = .ok (.value (.tuple #[])) w' := by
    rintro A n c w' hv (⟨h0, rfl⟩ | ⟨ad, rfl, hn, hst⟩)
    · cases A with
      | none => cases n <;> simp [execOp, ho, resolve, invoke, builtin, Builtin.clear_, run_underlying ht, hv]
      | some ad =>
        obtain rfl : n = 0 := by rcases h0 with h0 | h0; cases h0; exact h0
        simp [execOp, ho, resolve, invoke, builtin, Builtin.clear_, run_underlying ht, hv]
    · obtain ⟨m, rfl⟩ : ∃ m, n = m + 1 := ⟨n - 1, by omega⟩
      simp [execOp, ho, resolve, invoke, builtin, Builtin.clear_, run_underlying ht, hv, hzr, hst]
  have hput : ∀ {w' : World} {objs' : Nat → Option AO}, Rel P S0 L B0 w0 N ⟨st.vars, objs'⟩ a w' β → Rel P S0 L B0 w0 N ⟨Ab.put o.dst .junk st.vars, objs'⟩ (a.put o.dst (.tuple #[])) w' β := fun hR => hR.put hd (.junk _)
  -- the rows from lo, hi left out
  have main : ∀ (t' lo hi' : Nat) (rows : List (List PV)) (A1 : Option Addr), st.objs t' = some (.arr e rows) → lo ≤ hi' → hi' ≤ rows.length →
      (∀ A n c, β t' = .slice A n c → a.eval x = .slice A1 (hi' - lo) (c - lo) ∧ (c ≠ lo → A1 = A.map (·.add (lo * i.size)))) →
      ∃ v w', (execOp a.eval o).run P w = .ok (.value v) w' ∧ Rel P S0 L B0 w0 N ⟨Ab.put o.dst .junk st.vars, addO t' (.arr e (splice rows lo (List.replicate (hi' - lo) (z.cells.toList.map cvp)))) st.objs⟩ (a.put o.dst v) w' β := by
    intro t' lo hi' rows A1 hc h1 h2 hx
    obtain ⟨inf', xs, hinf, hown, hrl, hcells⟩ := h.heap.arr hc
    have : inf' = i := by rw [hi] at hinf; injection hinf with hinf; exact hinf.symm
    subst this
    by_cases hz0 : hi' - lo = 0
    · have hsp : splice rows lo (List.replicate (hi' - lo) (z.cells.toList.map cvp)) = rows := by
        rw [hz0]; simp [splice]
      rw [hsp]
      obtain ⟨A, c, hv, hcc⟩ := own_slice hown
      obtain ⟨hxe, _⟩ := hx A rows.length c hv
      rw [hz0] at hxe
      refine ⟨_, w, hex _ _ _ w hxe (.inl ⟨.inr rfl, rfl⟩), ?_⟩
      have hsame : addO t' (.arr e rows) st.objs = st.objs := by
        funext s; by_cases hst : s = t'
        · subst hst; simp [addO, hc]
        · simp [addO, hst]
      rw [hsame]
      exact hput h
    · rcases hown.2 with ⟨_, hr0⟩ | ⟨g, cap, cur, hv, _, _, hnc, _⟩
      · omega
      · obtain ⟨hxe, hA⟩ := hx _ _ _ hv
        rw [hA (by omega)] at hxe
        obtain ⟨w', hst, hR⟩ := upd_arr_rows h (lo := lo) (mid := List.replicate (hi' - lo) (z.cells.toList.map cvp)) (us := (Builtin.zeroCells z.cells (hi' - lo)).toList) hc hi hv (by simp; omega) (fun r hr => by
            rw [List.eq_of_mem_replicate hr]; simp [hzs]) (by rw [Array.length_toList, size_zeroCells, List.length_replicate, hzs])
            (fun v hv' => (List.all_eq_true.1 hall) v (zeroCells_mem _ _ _ hv')) (fun k j r p hk hp => by
              have hk1 : k < hi' - lo := by have := (List.getElem?_eq_some_iff.1 hk).1; simpa using this
              rw [List.getElem?_replicate, if_pos hk1] at hk
              injection hk with hk
              subst hk
              rw [List.getElem?_map, Option.map_eq_some_iff] at hp
              obtain ⟨q, hq, rfl⟩ := hp
              have hj : j < z.cells.size := by have := (List.getElem?_eq_some_iff.1 hq).1; simpa using this
              have hqe : q = z.cells[j] := by
                have : z.cells[j]? = some q := by simpa using hq
                rw [Array.getElem?_eq_getElem hj] at this
                injection this with this; exact this.symm
              have hq1 : q.oneCell' = true := (List.all_eq_true.1 hall) q (List.mem_of_getElem? hq)
              refine ⟨q, ?_, hq1, cvp_sound _ _ q hq1⟩
              rw [← hzs, zeroCells_get _ _ _ _ hk1 hj, hqe])
        have hst' : (storeCells ((⟨g, 0, none⟩ : Addr).add (lo * inf'.size)) (Builtin.zeroCells z.cells (hi' - lo)).toList).run P w = .ok () w' := by
          rw [Addr.add_lit, Nat.zero_add]; exact hst
        exact ⟨_, w', hex _ _ _ w' hxe (.inr ⟨_, rfl, hz0, hst'⟩), hput hR⟩
  cases X with
  | own t' =>
    simp only [clrO, Option.bind_eq_some_iff] at hs
    obtain ⟨⟨e', rows⟩, har, hs⟩ := hs
    split at hs
    · rename_i hee
      simp only at hee
      subst hee
      cases hs
      have hc := arrO_inv har
      have := main t' 0 rows.length rows (match β t' with | .slice A _ _ => A | _ => none) hc (Nat.zero_le _) (Nat.le_refl _) (fun A n c hb => by
        have hx := hX.own_inv.1
        obtain ⟨inf', xs, hinf, hown, _⟩ := h.heap.arr hc
        obtain ⟨A', c', hv, _⟩ := own_slice hown
        rw [hb] at hv
        have hn : n = rows.length := by simp at hv; exact hv.2.1
        rw [hx, hb]
        refine ⟨by simp [hn], fun _ => ?_⟩
        cases A with
        | none => rfl
        | some ad => simp [add_zero'])
      have he : splice rows 0 (List.replicate (rows.length - 0) (z.cells.toList.map cvp)) = List.replicate rows.length (z.cells.toList.map cvp) := by
        simp [splice]
      rw [he] at this
      exact this
    · cases hs
  | sub t' e1 lo hi' =>
    simp only [clrO, Option.bind_eq_some_iff] at hs
    obtain ⟨⟨e', rows⟩, har, hs⟩ := hs
    split at hs
    · rename_i hee
      obtain ⟨hee, hee1⟩ := hee
      simp only at hee
      subst hee hee1
      cases hs
      have hc := arrO_inv har
      obtain ⟨inf1, Ad, Ad1, n, c, hdt, hi1, hbt, g1, g2, g3, g4, g5, hx⟩ := hX.sub_inv
      have hinf : inf1 = i := by rw [hi] at hi1; injection hi1 with hi1; exact hi1.symm
      subst hinf
      obtain ⟨inf', xs, hinf', hown, _⟩ := h.heap.arr hc
      obtain ⟨A', c', hv, _⟩ := own_slice hown
      have hn : n = rows.length := by rw [hbt] at hv; simp at hv; exact hv.2.1
      subst hn
      have := main t' lo hi' rows Ad1 hc g1 g2 (fun A n c' hb => by
        rw [hbt] at hb
        have h3 : Ad = A ∧ rows.length = n ∧ c = c' := by simpa using hb
        obtain ⟨rfl, rfl, rfl⟩ := h3
        exact ⟨hx, g5⟩)
      have he : splice rows lo (List.replicate (hi' - lo) (z.cells.toList.map cvp)) = rows.take lo ++ List.replicate (hi' - lo) (z.cells.toList.map cvp) ++ rows.drop hi' := by
        simp only [splice, List.length_replicate]
        rw [show lo + (hi' - lo) = hi' from by omega]
      rw [he] at this
      exact this
    · cases hs
  | _ => simp [clrO] at hs

end
end Go.Proofs.Ythblkhafehanfaa.Ab
