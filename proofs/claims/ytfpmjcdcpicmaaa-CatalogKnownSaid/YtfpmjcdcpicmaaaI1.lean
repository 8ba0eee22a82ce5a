/- A function that takes over a slice of plain rows for good, known at the machine: its contract. Copying rows of several cells. -/
import Derived.Test.YtfpmjcdcpicmaaaAb24
import Derived.Test.YtfpmjcdcpicmaaaChecked
import Derived.WalkKit
import Derived.Laws.CopyRow
import Derived.Laws.NewBlocks
import Derived.Lib.AppendZerosOnto
import Derived.Lib.Overlaps
import Derived.Lib.Walk
import Derived.Lib.SliceRun
import Derived.Laws.Externs
namespace Go.Proofs.Ytfpmjcdcpicmaaa.Ab
open Go Go.RowKit R
set_option linter.unusedVariables false
set_option linter.unusedSimpArgs false
set_option maxHeartbeats 4000000
set_option maxRecDepth 100000

def pvV : PV → Value
  | .int k n => .int k n
  | .bool b => .bool b
  | .str l => .string ⟨l.toArray⟩
  | _ => undef
def plainP : PV → Bool
  | .int _ _ | .bool _ | .str _ => true
  | _ => false
def cellsV (rows : List (List PV)) : List Value := rows.flatMap fun r => r.map pvV
def plainRows (rows : List (List PV)) : Prop := ∀ r ∈ rows, ∀ p ∈ r, plainP p = true

theorem pvV_of {S : Nat → Prop} {w : World} {v : Value} {p : PV} (h : RPV S w v p) (hp : plainP p = true) : v = pvV p := by
  cases h <;> first | rfl | cases hp
theorem rpv_pvV (S : Nat → Prop) (w : World) {p : PV} (hp : plainP p = true) : RPV S w (pvV p) p ∧ (pvV p).oneCell' = true := by
  cases p with
  | int k n => exact ⟨.int k n, rfl⟩
  | bool b => exact ⟨.bool b, rfl⟩
  | str l => exact ⟨.str l, rfl⟩
  | _ => cases hp
theorem pvV_one {p : PV} (hp : plainP p = true) : (pvV p).oneCell' = true := by cases p <;> first | rfl | cases hp
theorem cellsV_append (a b : List (List PV)) : cellsV (a ++ b) = cellsV a ++ cellsV b := by simp [cellsV]
theorem cellsV_len {sz : Nat} : ∀ {rows : List (List PV)}, (∀ r ∈ rows, r.length = sz) → (cellsV rows).length = rows.length * sz
  | [], _ => by simp [cellsV]
  | r :: rows, h => by
    have ih := cellsV_len (rows := rows) fun r hr => h r (by simp [hr])
    have h0 := h r (by simp)
    unfold cellsV at ih ⊢
    simp only [List.flatMap_cons, List.length_append, List.length_map, List.length_cons, ih, h0, Nat.succ_mul]
    omega
theorem cellsV_get {sz : Nat} : ∀ {rows : List (List PV)}, (∀ r ∈ rows, r.length = sz) → ∀ {i j : Nat} {r : List PV} {p : PV}, rows[i]? = some r → r[j]? = some p → (cellsV rows)[i * sz + j]? = some (pvV p)
  | [], _, i, j, r, p, h, _ => by simp at h
  | r0 :: rows, hs, 0, j, r, p, h, hj => by
    simp only [List.getElem?_cons_zero, Option.some.injEq] at h
    subst h
    have hlt : j < r0.length := (List.getElem?_eq_some_iff.1 hj).1
    simp only [cellsV, List.flatMap_cons, Nat.zero_mul, Nat.zero_add]
    rw [List.getElem?_append_left (by simpa using hlt), List.getElem?_map, hj]; rfl
  | r0 :: rows, hs, i + 1, j, r, p, h, hj => by
    have ih := cellsV_get (rows := rows) (fun r hr => hs r (by simp [hr])) (i := i) (by simpa using h) hj
    have h0 := hs r0 (by simp)
    have e1 : (i + 1) * sz + j - (r0.map pvV).length = i * sz + j := by rw [List.length_map, h0, Nat.succ_mul]; omega
    simp only [cellsV, List.flatMap_cons]
    rw [List.getElem?_append_right (by rw [List.length_map, h0, Nat.succ_mul]; omega), e1]
    exact ih
theorem cellsV_eq {sz : Nat} {w : World} {S : Nat → Prop} {rows : List (List PV)} {us : List Value} (hs : ∀ r ∈ rows, r.length = sz) (hp : plainRows rows) (hl : us.length = rows.length * sz)
    (h : ∀ (i j : Nat) (r : List PV) (p : PV), rows[i]? = some r → r[j]? = some p → ∃ u, us[i * sz + j]? = some u ∧ u.oneCell' = true ∧ RPV S w u p) : us = cellsV rows := by
  apply List.ext_getElem?
  intro k
  by_cases hk : k < rows.length * sz
  · have hsz : 0 < sz := by rcases Nat.eq_zero_or_pos sz with h0 | h0; rw [h0] at hk; omega; exact h0
    have hi : k / sz < rows.length := (Nat.div_lt_iff_lt_mul hsz).2 hk
    have hr : rows[k / sz]? = some rows[k / sz] := List.getElem?_eq_getElem hi
    have hrl : (rows[k / sz]).length = sz := hs _ (List.getElem_mem hi)
    have hj : k % sz < (rows[k / sz]).length := by rw [hrl]; exact Nat.mod_lt _ hsz
    have hpj : (rows[k / sz])[k % sz]? = some (rows[k / sz])[k % sz] := List.getElem?_eq_getElem hj
    have hk2 : k / sz * sz + k % sz = k := by rw [Nat.mul_comm]; exact Nat.div_add_mod k sz
    obtain ⟨u, hu, _, hru⟩ := h _ _ _ _ hr hpj
    have hpl := hp _ (List.getElem_mem hi) _ (List.getElem_mem hj)
    have := cellsV_get hs hr hpj
    rw [hk2] at hu this
    rw [hu, this, pvV_of hru hpl]
  · rw [List.getElem?_eq_none (by omega), List.getElem?_eq_none (by rw [cellsV_len hs]; omega)]
theorem cellsV_one {rows : List (List PV)} (hp : plainRows rows) : ∀ u ∈ cellsV rows, u.oneCell' = true := by
  intro u hu
  simp only [cellsV, List.mem_flatMap, List.mem_map] at hu
  obtain ⟨r, hr, p, hpr, rfl⟩ := hu
  exact pvV_one (hp r hr p hpr)

theorem conU_row {P : Program} {f : FuncId} {e : TypeId} {inf : TypeInfo} (hi : P.info? e = some inf) {rows rows' : List (List PV)} (hs : ∀ r ∈ rows, r.length = inf.size) (hp : plainRows rows)
    (hs' : ∀ r ∈ rows', r.length = inf.size) (hp' : plainRows rows') (zs : List PV)
    (H : ∀ (w : World) (S : Nat → Prop) (V : Value) (vals : List Value), w.ownsRow 0 e inf.size V rows.length (cellsV rows) → (∀ b, S b → b < w.heap.size ∧ V.ownBlock ≠ some b) → vals.length = zs.length →
      (∀ (i : Nat) (v : Value) (p : PV), vals[i]? = some v → zs[i]? = some p → RPV S w v p) →
      Calls P f (V :: vals).toArray w fun r w' => ∃ V', r = .returned V' ∧ w'.ownsRow 0 e inf.size V' rows'.length (cellsV rows') ∧ w.grownBy w' V.ownBlock ∧ (∀ b, V'.ownBlock = some b → V.ownBlock = some b ∨ w.heap.size ≤ b)) :
    ConU P f (.fr e rows :: zs.map .pv) (.fr e rows') := by
  intro w S0 β vals a1 a2 a3 a4 a5
  have hmk : mkO (.fr e rows :: zs.map AV.pv) = [(998, .arr e rows)] := rfl
  rw [hmk] at a2 a3 a5 ⊢
  match vals, a4 with
  | V :: vs, a4 =>
    have hV := a5 0 V (.own 998) rfl rfl
    obtain ⟨hVe, hVd⟩ := hV.own_inv
    obtain ⟨inf', us, hi', hown, hrl, hcs⟩ := a3.holds 998 (.arr e rows) rfl
    have : inf' = inf := by rw [hi] at hi'; injection hi' with h; exact h.symm
    subst this
    have hus := cellsV_eq hs hp hown.1 hcs
    subst hus
    rw [← hVe] at hown
    have hob := (own_blk hown).1
    have hlive : ∀ b, live β (lookO [(998, AO.arr e rows)]) b ↔ V.ownBlock = some b := by
      intro b
      constructor
      · rintro ⟨t, o, ho, hb⟩
        by_cases ht : t = 998
        · subst ht; rw [← hVe, hob] at hb; exact hb
        · simp [lookO, ht] at ho
      · intro hb
        exact ⟨998, _, rfl, by rw [← hVe, hob]; exact hb⟩
    refine (H w (okS S0 w.heap.size β (lookO [(998, AO.arr e rows)]) w) V vs hown (fun b hb => ⟨hb.2.1, fun h => hb.2.2 ((hlive b).2 h)⟩) (by simpa using a4) (fun i v p hv hp => ?_)).mono ?_
    · have := a5 (i + 1) v (.pv p) (by simpa using hv) (by simp [hp, mkA])
      exact this.pv_inv
    · rintro r w' ⟨V', rfl, hown', hg, hbl⟩
      have hob' := (own_blk hown').1
      have hobj : (unionO (lookO (outO (.fr e rows'))) fun t => frO (cellAt (outR (.fr e rows')) t)) = fun t => if t = 0 then some (.arr e rows') else none := by
        funext t
        show (unionO (lookO []) fun t => frO (cellAt (.fr e rows') t)) t = _
        simp only [unionO, lookO, cellAt, cellAt1]
        by_cases h0 : t = 0
        · subst h0; rfl
        · by_cases h1 : t % 1000 = 0
          · have : t / 1000 ≠ 0 := by omega
            simp [h0, h1, this, frO]
          · simp [h0, h1, frO]
      refine ⟨V', fun _ => V', rfl, ⟨hg.os, hg.tape, hg.output, hg.size, fun b hb hnl => hg.block b hb fun h => hnl ((hlive b).2 h.symm)⟩, ?_, ?_, ?_, ?_⟩
      · rw [hobj]
        refine ⟨fun t o ho => ?_, fun t t' b ⟨o, ho⟩ ⟨o', ho'⟩ _ _ => ?_⟩
        · by_cases h0 : t = 0
          · subst h0
            simp only [if_true, Option.some.injEq] at ho
            subst ho
            refine ⟨inf', cellsV rows', hi, hown', hs', fun i j r p h1 h2 => ?_⟩
            have hpl := hp' r (List.mem_of_getElem? h1) p (List.mem_of_getElem? h2)
            exact ⟨pvV p, cellsV_get hs' h1 h2, pvV_one hpl, (rpv_pvV _ w' hpl).1⟩
          · simp [h0] at ho
        · by_cases h0 : t = 0 <;> by_cases h1 : t' = 0
          · rw [h0, h1]
          · simp [h1] at ho'
          · simp [h0] at ho
          · simp [h0] at ho
      · rintro t b _ hb
        rw [hob'] at hb
        rcases hbl b hb with h | h
        · exact .inr ((hlive b).2 h)
        · exact .inl h
      · rintro t ⟨o, ho⟩
        simp [outO, lookO] at ho
      · rw [hobj]
        exact .own 0 ⟨.arr e rows', by simp⟩
  | [], a4 => simp at a4

theorem run_copy_rowN {P : Program} (w : World) (dT sT ty elem : TypeId) (g o dLen dCap : Nat) (a : Addr) (sLen sCap sz : Nat) (cur : Array Value) (t : TypeId) (cs : List Value)
    (hu : P.underlying dT = some (.slice elem)) (hs : (P.info? elem).map (·.size) = some sz)
    (hg : w.heap[g]? = some (.cells cur t (0, 0))) (hn : cs.length = Nat.min sLen dLen * sz)
    (hsrc : ∀ j v, cs[j]? = some v → w.cell? (a.add j) = some v) (hfit : o + cs.length ≤ cur.size) (h1 : ∀ v ∈ cs, v.oneCell' = true) :
    (Builtin.copy_ #[dT, sT] ty #[.slice (some ⟨g, o, none⟩) dLen dCap, .slice (some a) sLen sCap]).run P w =
      .ok (goInt (Nat.min sLen dLen)) (w.setRow g (cur.toList.take o ++ cs ++ cur.toList.drop (o + cs.length)).toArray) := by
  have hl := run_firstCells_some (P := P) (w := w) sz (Nat.min sLen dLen) a sLen sCap cs hn hsrc
  have hst := run_storeCells_at P g o t cs 0 cur w hg (by simpa using hfit) h1
  cases hq : P.info? elem with
  | none => simp [hq] at hs
  | some i =>
    have hi : i.size = sz := by simpa [hq] using hs
    simp only [Nat.add_zero] at hst
    simp [Builtin.copy_, run_underlying hu, Builtin.lenOf, sizeOf, typeInfo, hq, hi, hl, hst]

/-- Rows of a block of the call's own do not overlap what lies elsewhere. -/
theorem run_overlaps_own {P : Program} (w : World) (tS tR e : TypeId) (ht : P.underlying tS = some (.slice e)) (size : Nat) (hz : ∀ w, (Go.sizeOf e).run P w = .ok size w)
    (a b : Addr) (la ca lb cb : Nat) (hne : a.block ≠ b.block) {va : Value} {cur : Array Value} {tb : TypeId} (ha : w.cell? a = some va) (hb : w.heap[b.block]? = some (.cells cur tb (0, 0))) (hcur : 0 < cur.size) :
    (Extern.SlicesOverlaps.overlaps #[tS, tS] #[tR] #[.slice (some a) la ca, .slice (some b) lb cb]).run P w = .ok (.bool false) w := by
  have hnb : (a.block != b.block) = true := by simpa using hne
  have hnb' : (a.block == b.block) = false := by simpa using hne
  have hfb : ∀ n, w.frozen? ⟨b.block, n, none⟩ = false := fun n => by simp [World.frozen?, hb]
  have hfb' : w.frozen? b = false := by simp [World.frozen?, hb]
  have hsb : w.shape? b.block = some (tb, cur.size) := by simp [World.shape?, hb]
  obtain ⟨ca', ta, fa, hca, hla⟩ : ∃ c t f, w.heap[a.block]? = some (.cells c t f) ∧ 0 < c.size := by
    unfold World.cell? at ha
    split at ha
    · rename_i c t f hc
      refine ⟨c, t, f, hc, ?_⟩
      split at ha
      · cases ha
      · have := (Array.getElem?_eq_some_iff.1 ha).1
        omega
    · cases ha
  have hsa : w.shape? a.block = some (ta, ca'.size) := by simp [World.shape?, hca]
  change Sem.run P (α := Value) (do
    let some t := (#[tS, tS] : Array TypeId)[0]? | stuck "slices.overlaps: no parameter types"
    let .slice elem ← underlying t | stuck "slices.overlaps: slice type expected"
    let size ← sizeOf elem
    match (some a : Option Addr), (some b : Option Addr) with
    | some a, some b =>
      if la = 0 ∨ lb = 0 ∨ size = 0 then pure (Value.bool false)
      else if a.block != b.block && (← frozen a) && (← frozen b) then unsupported .addressObserved
      else do
        if a.block != b.block then do
          noView a; noView b
          if ← mayBeOne a b then return Value.bool ((← choose (.extern "sameAddr.stringBytes" 2)) == 1)
        pure (Value.bool (a.block == b.block && a.off < b.off + lb * size && b.off < a.off + la * size))
    | _, _ => pure (Value.bool false)) w = _
  by_cases h0 : la = 0 ∨ lb = 0 ∨ size = 0
  · simp [run_underlying ht, hz, h0]
  · obtain ⟨m, hm⟩ : ∃ m, cur.size = m + 1 := ⟨cur.size - 1, by omega⟩
    obtain ⟨m', hm'⟩ : ∃ m, ca'.size = m + 1 := ⟨ca'.size - 1, by omega⟩
    rw [hm] at hsb
    rw [hm'] at hsa
    cases hfa : w.frozen? a <;> cases hfe : w.frozen? ⟨a.block, m' + 1, none⟩ <;>
      simp [run_underlying ht, hz, h0, hnb, hnb', frozen, noView, viewAt, mayBeOne, stringish, shape, Sem.run, hsa, hsb, hfb, hfb', hfa, hfe]

end Go.Proofs.Ytfpmjcdcpicmaaa.Ab
