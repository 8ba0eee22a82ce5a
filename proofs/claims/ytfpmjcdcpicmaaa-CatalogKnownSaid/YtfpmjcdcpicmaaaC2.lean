/- Chapter 17: the reference's Right; where a name stands; Get; Names. -/
import Derived.Test.YtfpmjcdcpicmaaaC1
namespace Go.Proofs.Ytfpmjcdcpicmaaa.Ab
open Go Go.RowKit R
set_option linter.unusedVariables false
set_option linter.unusedSimpArgs false
set_option maxHeartbeats 4000000
set_option maxRecDepth 100000

theorem c_rRt : ConT Try.prog 29 GRt := by
  intro ys φ r h hφ
  unfold GRt at h
  split at h
  · rename_i ra
    obtain ⟨a, ha, h⟩ := Option.map_eq_some_iff.1 h
    cases h
    cases dec_rowsC_inv ha
    refine con_of (tab_cons c_rNm tab_nil) (by kernel_rfl) fn29 (by simp) ?_
    unfold body29
    simp (config := { maxSteps := 3000000 })
    refine vwp_loop (fun i : Nat => i ≤ a.length ∧ rightC (a.take i) = true) (fun i => ⟨[(0, .pv (.ro (rowsC a))), (2, .pv (.bool false)), (3, .pv (.int .i64 i))], []⟩) (fun i => a.length - i) [] 0 (by simp [rightC]) ?_ ?_
    · simp
    · rintro i ⟨hi, ht⟩
      have w2 : IntKind.i64.wrap ((i : Int) + 1) = (i : Int) + 1 := wrap_i64 (by omega)
      by_cases hlt : i < a.length
      · have r1 := rowsC_at hlt
        have hf := fun h => rightC_fail hlt h
        cases hnm : okNm a[i].n with
        | false =>
          have hf' : rightC a = false := hf fun h => by rw [hnm] at h; cases h.1
          simp (config := { maxSteps := 3000000 }) [hlt, r1, hnm, hf']
        | true =>
          by_cases hid : a[i].i = 0
          · have hf' : rightC a = false := hf fun h => h.2.1 hid
            simp (config := { maxSteps := 3000000 }) [hlt, r1, hnm, hid, hf']
          · simp (config := { maxSteps := 3000000 }) [hlt, r1, hnm, hid]
            refine vwp_loop (fun k : Nat => k ≤ i ∧ ∀ x ∈ a.take k, Op.bytesLess x.n a[i].n = true ∧ x.i ≠ a[i].i) (fun k => ⟨[(0, .pv (.ro (rowsC a))), (2, .pv (.bool false)), (3, .pv (.int .i64 i)), (4, .pv (.int .i64 k))], []⟩) (fun k => i - k) [] 0 (by simp) ?_ ?_
            · simp
            · rintro k ⟨hk, hq⟩
              have w3 : IntKind.i64.wrap ((k : Int) + 1) = (k : Int) + 1 := wrap_i64 (by omega)
              by_cases hki : k < i
              · have hkl : k < a.length := by omega
                have r2 := rowsC_at hkl
                have hmem : a[k] ∈ a.take i := by rw [List.mem_take_iff_getElem]; exact ⟨k, by omega, rfl⟩
                cases hb : Op.bytesLess a[k].n a[i].n with
                | false =>
                  have hf' : rightC a = false := hf fun h => by have := (h.2.2 _ hmem).1; rw [hb] at this; cases this
                  simp (config := { maxSteps := 3000000 }) [hki, hkl, hlt, r1, r2, hb, hf']
                | true =>
                  by_cases he : a[k].i = a[i].i
                  · have hf' : rightC a = false := hf fun h => (h.2.2 _ hmem).2 he
                    simp (config := { maxSteps := 3000000 }) [hki, hkl, hlt, r1, r2, hb, he, hf']
                  · simp (config := { maxSteps := 3000000 }) [hki, hkl, hlt, r1, r2, hb, he, w3]
                    refine ⟨k + 1, ⟨by omega, fun x hx => ?_⟩, by omega, by omega⟩
                    rw [List.take_succ_eq_append_getElem hkl, List.mem_append, List.mem_singleton] at hx
                    rcases hx with hx | rfl
                    · exact hq x hx
                    · exact ⟨hb, he⟩
              · have hki' : k = i := by omega
                subst hki'
                simp (config := { maxSteps := 3000000 }) [w2]
                exact ⟨k + 1, ⟨by omega, rightC_step hlt ht hnm hid hq⟩, by omega, by omega⟩
      · rw [List.take_of_length_le (by omega)] at ht
        simp (config := { maxSteps := 3000000 }) [hlt, ht]
  · cases h

/-! ### Where a name stands -/

noncomputable def Gnan1 : List AV → Option (Prop × AV)
  | [.pv (.str a)] => some (True, .pv (.bool false))
  | _ => none
@[simp] theorem Gnan1_eq (a : List UInt8) : Gnan1 [.pv (.str a)] = some (True, .pv (.bool false)) := rfl
theorem c_nanS : ConT Try.prog 170 Gnan1 := by
  intro ys φ r h hφ
  unfold Gnan1 at h
  split at h
  · cases h
    refine con_of tab_nil (by kernel_rfl) fn170 (by simp) ?_
    unfold body170
    simp (config := { maxSteps := 3000000 })
  · cases h
def cmpS (a b : List UInt8) : Int := if Op.bytesLess a b = true then -1 else if Op.bytesLess b a = true then 1 else 0
theorem cmpS_neg (a b : List UInt8) : (cmpS a b < 0) = (Op.bytesLess a b = true) := by
  unfold cmpS
  by_cases h : Op.bytesLess a b = true
  · simp [h]
  · by_cases h2 : Op.bytesLess b a = true <;> simp [h, h2]
theorem cmpS_zero (a b : List UInt8) : (cmpS a b = 0) = (a = b) := by
  unfold cmpS
  apply propext
  by_cases h : Op.bytesLess a b = true
  · simp only [h, if_true]
    exact ⟨fun h => by omega, fun e => absurd e (bl_ne h)⟩
  · by_cases h2 : Op.bytesLess b a = true
    · simp only [h, h2, if_true, if_false]
      exact ⟨fun h => by simp at h, fun e => absurd e.symm (bl_ne h2)⟩
    · simp only [h, h2, if_false, true_iff]
      exact ⟨fun _ => bl_tri a b (by simpa using h) (by simpa using h2), fun _ => rfl⟩
noncomputable def GcmpS : List AV → Option (Prop × AV)
  | [.pv (.str a), .pv (.str b)] => some (True, .pv (.int .i64 (cmpS a b)))
  | _ => none
@[simp] theorem GcmpS_eq (a b : List UInt8) : GcmpS [.pv (.str a), .pv (.str b)] = some (True, .pv (.int .i64 (cmpS a b))) := rfl
theorem c_cmpS : ConT Try.prog 149 GcmpS := by
  intro ys φ r h hφ
  unfold GcmpS at h
  split at h
  · rename_i a b
    cases h
    refine con_of (tab_cons c_nanS tab_nil) (by kernel_rfl) fn149 (by simp) ?_
    unfold body149
    unfold cmpS
    cases h1 : Op.bytesLess a b with
    | true => simp (config := { maxSteps := 3000000 }) [h1]
    | false =>
      cases h2 : Op.bytesLess b a with
      | true =>
        have hne : ¬ a = b := fun e => bl_ne h2 e.symm
        simp (config := { maxSteps := 3000000 }) [h1, h2, hne]
      | false =>
        have he := bl_tri a b h1 h2
        subst he
        simp (config := { maxSteps := 3000000 }) [bl_irrefl]
  · cases h
noncomputable def Gpl1 : List AV → Option (Prop × AV)
  | [.agg [.pv (.str a), .pv (.int .u64 n)], .pv (.str b)] => some (True, .pv (.int .i64 (cmpS a b)))
  | _ => none
@[simp] theorem Gpl1_eq (a b : List UInt8) (n : Int) : Gpl1 [.agg [.pv (.str a), .pv (.int .u64 n)], .pv (.str b)] = some (True, .pv (.int .i64 (cmpS a b))) := rfl
theorem c_pl1 : ConT Try.prog 148 Gpl1 := by
  intro ys φ r h hφ
  unfold Gpl1 at h
  split at h
  · cases h
    refine con_of (tab_cons c_cmpS tab_nil) (by kernel_rfl) fn148 (by simp) ?_
    unfold body148
    simp (config := { maxSteps := 3000000 })
  · cases h

/-- The first place whose name is not ahead. -/
def lb (l : List En) (s : List UInt8) : Nat := l.findIdx fun e => !Op.bytesLess e.n s
def foundC (l : List En) (s : List UInt8) : Bool := match l[lb l s]? with
  | some e => decide (e.n = s)
  | none => false
theorem lb_le (l : List En) (s : List UInt8) : lb l s ≤ l.length := List.findIdx_le_length
theorem lb_eq {l : List En} {s : List UInt8} {i : Nat} (hi : i ≤ l.length) (h1 : ∀ (k : Nat) (h : k < l.length), k < i → Op.bytesLess l[k].n s = true) (h2 : ∀ (k : Nat) (h : k < l.length), i ≤ k → Op.bytesLess l[k].n s = false) : lb l s = i := by
  unfold lb
  by_cases hlt : i < l.length
  · rw [List.findIdx_eq hlt]
    refine ⟨by simp [h2 i hlt (Nat.le_refl _)], fun j hj => ?_⟩
    simp [h1 j (by omega) hj]
  · have : i = l.length := by omega
    subst this
    rw [List.findIdx_eq_length]
    intro e he
    obtain ⟨k, hk, rfl⟩ := List.getElem_of_mem he
    simp [h1 k hk hk]
theorem lb_lt {l : List En} {s : List UInt8} {k : Nat} (h : k < lb l s) : Op.bytesLess (l[k]'(Nat.lt_of_lt_of_le h (lb_le l s))).n s = true := by
  have := List.not_of_lt_findIdx h
  simpa using this
theorem lb_at {l : List En} {s : List UInt8} (h : lb l s < l.length) : Op.bytesLess l[lb l s].n s = false := by
  have := List.findIdx_getElem (w := h)
  unfold lb
  simpa using this
theorem right_lt {l : List En} (hr : rightC l = true) {i j : Nat} (hj : j < l.length) (hij : i < j) : Op.bytesLess (l[i]'(Nat.lt_trans hij hj)).n l[j].n = true ∧ (l[i]'(Nat.lt_trans hij hj)).i ≠ l[j].i := by
  rw [rightC_iff, List.pairwise_iff_getElem] at hr
  exact hr.2 i j (Nat.lt_trans hij hj) hj hij
theorem lb_ge {l : List En} {s : List UInt8} (hr : rightC l = true) {k : Nat} (hk : k < l.length) (h : lb l s ≤ k) : Op.bytesLess l[k].n s = false := by
  have h0 := lb_at (l := l) (s := s) (by omega)
  rcases Nat.eq_or_lt_of_le h with h | h
  · subst h; exact h0
  · cases hb : Op.bytesLess l[k].n s with
    | false => rfl
    | true =>
      have := bl_trans _ _ _ (right_lt hr hk h).1 hb
      rw [this] at h0; cases h0
theorem found_iff {l : List En} {s : List UInt8} (hr : rightC l = true) : foundC l s = true ↔ ∃ e ∈ l, e.n = s := by
  unfold foundC
  constructor
  · intro h
    split at h
    · rename_i e he
      exact ⟨e, List.mem_of_getElem? he, by simpa using h⟩
    · cases h
  · rintro ⟨e, he, rfl⟩
    obtain ⟨k, hk, rfl⟩ := List.getElem_of_mem he
    have hkl : lb l l[k].n = k := by
      apply lb_eq (by omega)
      · intro j hj hjk; exact (right_lt hr hk hjk).1
      · intro j hj hjk
        rcases Nat.eq_or_lt_of_le hjk with h | h
        · subst h; exact bl_irrefl _
        · exact bl_asymm (right_lt hr hj h).1
    rw [hkl, List.getElem?_eq_getElem hk]
    simp

theorem isfn_pl1 : isFn Try.prog 148 = true := by kernel_rfl
noncomputable def GBs : List AV → Option (Prop × AV)
  | [.pv (.ro a), .pv (.str s), .clo f []] => if f = 148 then (dec rowC a).map fun l => (l.length ≤ 1000000000 ∧ rightC l = true, .tup [.pv (.int .i64 (lb l s)), .pv (.bool (foundC l s))]) else none
  | _ => none
@[simp] theorem GBs_eq (a : List (List PV)) (s : List UInt8) (f : FuncId) : GBs [.pv (.ro a), .pv (.str s), .clo f []] = if f = 148 then (dec rowC a).map fun l => (l.length ≤ 1000000000 ∧ rightC l = true, .tup [.pv (.int .i64 (lb l s)), .pv (.bool (foundC l s))]) else none := rfl
theorem c_Bs : ConT Try.prog 147 GBs := by
  intro ys φ r h hφ
  unfold GBs at h
  split at h
  · rename_i ra s f
    split at h
    · rename_i hf
      subst hf
      obtain ⟨a, ha, h⟩ := Option.map_eq_some_iff.1 h
      cases h
      cases dec_rowsC_inv ha
      obtain ⟨hl9, hr⟩ := hφ
      refine con_of (tab_cons c_pl1 tab_nil) (by kernel_rfl) fn147 (by simp) ?_
      unfold body147
      simp (config := { maxSteps := 3000000 })
      refine vwp_loop (fun q : Nat × Nat => q.1 ≤ q.2 ∧ q.2 ≤ a.length ∧ (∀ (k : Nat) (h : k < a.length), k < q.1 → Op.bytesLess a[k].n s = true) ∧ (∀ (k : Nat) (h : k < a.length), q.2 ≤ k → Op.bytesLess a[k].n s = false))
        (fun q => ⟨[(0, .pv (.ro (rowsC a))), (1, .pv (.str s)), (2, .clo 148 []), (8, .pv (.int .i64 a.length)), (9, .pv (.int .i64 q.1)), (10, .pv (.int .i64 q.2))], []⟩) (fun q => q.2 - q.1) [] (0, a.length) ?_ ?_ ?_
      · exact ⟨Nat.zero_le _, Nat.le_refl _, fun k h h2 => absurd h2 (Nat.not_lt_zero k), fun k h h2 => absurd h2 (Nat.not_le.2 h)⟩
      · simp
      · rintro ⟨i, j⟩ ⟨hij, hj, h1, h2⟩
        simp only at hij hj h1 h2
        by_cases hlt : i < j
        · have hlti : (i : Int) < (j : Int) := by omega
          have w1 : IntKind.i64.wrap ((i : Int) + (j : Int)) = (i : Int) + (j : Int) := wrap_i64 (by omega)
          have w2 : IntKind.u64.wrap ((i : Int) + (j : Int)) = (i : Int) + (j : Int) := wrap_u64 (by omega)
          have hm : (i + j) / 2 < a.length := by omega
          obtain ⟨m, hmd⟩ : ∃ m, m = (i + j) / 2 := ⟨_, rfl⟩
          rw [← hmd] at hm
          have hsh : ((i : Int) + (j : Int)).fdiv (2 ^ min 1 IntKind.u64.bits) = (m : Int) := by
            show ((i : Int) + (j : Int)).fdiv 2 = (m : Int)
            rw [Int.fdiv_eq_ediv_of_nonneg _ (by omega)]; omega
          have w3 : IntKind.i64.wrap (m : Int) = (m : Int) := wrap_i64 (by omega)
          have w4 : IntKind.i64.wrap ((m : Int) + 1) = (m : Int) + 1 := wrap_i64 (by omega)
          have r1 := rowsC_at hm
          have hm0 : (0 : Int) ≤ (m : Int) := by omega
          have hm1 : (m : Int) < (a.length : Int) := by omega
          cases hb : Op.bytesLess a[m].n s with
          | true =>
            have hneg : cmpS a[m].n s < 0 := by rw [cmpS_neg]; exact hb
            simp (config := { maxSteps := 3000000 }) [hlt, w1, w2, hsh, w3, w4, r1, hm, hneg, isfn_pl1]
            refine ⟨m + 1, j, ⟨by omega, hj, fun k hk hkm => ?_, h2⟩, ⟨by omega, rfl⟩, by omega⟩
            rcases Nat.lt_or_ge k m with h | h
            · exact bl_trans _ _ _ (right_lt hr hm h).1 hb
            · have : k = m := by omega
              subst this; exact hb
          | false =>
            have hneg : ¬ cmpS a[m].n s < 0 := by rw [cmpS_neg, hb]; simp
            simp (config := { maxSteps := 3000000 }) [hlt, w1, w2, hsh, w3, w4, r1, hm, hneg, isfn_pl1]
            refine ⟨i, m, ⟨by omega, by omega, h1, fun k hk hkm => ?_⟩, ⟨rfl, rfl⟩, by omega⟩
            rcases Nat.lt_or_ge m k with h | h
            · cases hq : Op.bytesLess a[k].n s with
              | false => rfl
              | true => have := bl_trans _ _ _ (right_lt hr hk h).1 hq; rw [hb] at this; cases this
            · have : k = m := by omega
              subst this; exact hb
        · have hij' : i = j := by omega
          subst hij'
          have hlb : lb a s = i := lb_eq hj h1 h2
          have hfd : foundC a s = (match a[i]? with | some e => decide (e.n = s) | none => false) := by unfold foundC; rw [hlb]
          by_cases hil : i < a.length
          · have r1 := rowsC_at hil
            rw [List.getElem?_eq_getElem hil] at hfd
            simp only at hfd
            have hz : decide (cmpS a[i].n s = 0) = decide (a[i].n = s) := by simp only [cmpS_zero]
            simp (config := { maxSteps := 3000000 }) [hil, r1, isfn_pl1, hlb, hfd, cmpS_zero]
          · rw [List.getElem?_eq_none (by omega)] at hfd
            have r0 : rowAt (rowsC a) (i : Int) = [] := by simp [rowAt, rowsC, hil]
            simp (config := { maxSteps := 3000000 }) [hil, hlb, hfd, r0]
    · cases h
  · cases h
noncomputable def Gplc : List AV → Option (Prop × AV)
  | [.pv (.ro a), .pv (.str s)] => (dec rowC a).map fun l => (l.length ≤ 1000000000 ∧ rightC l = true, .tup [.pv (.int .i64 (lb l s)), .pv (.bool (foundC l s))])
  | _ => none
@[simp] theorem Gplc_eq (a : List (List PV)) (s : List UInt8) : Gplc [.pv (.ro a), .pv (.str s)] = (dec rowC a).map fun l => (l.length ≤ 1000000000 ∧ rightC l = true, .tup [.pv (.int .i64 (lb l s)), .pv (.bool (foundC l s))]) := rfl
theorem c_plc : ConT Try.prog 95 Gplc := by
  intro ys φ r h hφ
  unfold Gplc at h
  split at h
  · rename_i ra s
    obtain ⟨a, ha, h⟩ := Option.map_eq_some_iff.1 h
    cases h
    cases dec_rowsC_inv ha
    obtain ⟨hl9, hr⟩ := hφ
    refine con_of (tab_cons c_Bs tab_nil) (by kernel_rfl) fn95 (by simp) ?_
    unfold body95
    simp (config := { maxSteps := 3000000 }) [hl9, hr]
  · cases h

/-! ### Get -/

def mayC (l : List En) (s : List (List UInt8)) : Int := if rightC l = true then if s.all okNm = true then 0 else 170 else 2
noncomputable def GMay : List AV → Option (Prop × AV)
  | [.pv (.ro a), .pv (.ro b)] => (dec rowC a).bind fun l => (dec rowS b).map fun s => (l.length ≤ 1000000000 ∧ s.length ≤ 1000000000, .pv (.int .i64 (mayC l s)))
  | _ => none
@[simp] theorem GMay_eq (a b : List (List PV)) : GMay [.pv (.ro a), .pv (.ro b)] = (dec rowC a).bind fun l => (dec rowS b).map fun s => (l.length ≤ 1000000000 ∧ s.length ≤ 1000000000, .pv (.int .i64 (mayC l s))) := rfl
theorem c_May : ConT Try.prog 94 GMay := by
  intro ys φ r h hφ
  unfold GMay at h
  split at h
  · rename_i ra rb
    obtain ⟨a, ha, h⟩ := Option.bind_eq_some_iff.1 h
    obtain ⟨b, hb, h⟩ := Option.map_eq_some_iff.1 h
    cases h
    cases dec_rowsC_inv ha
    cases dec_rowsS_inv hb
    obtain ⟨hl9, hs9⟩ := hφ
    refine con_of (tab_cons c_Rt (tab_cons c_Nm tab_nil)) (by kernel_rfl) fn94 (by simp) ?_
    unfold body94
    unfold mayC
    cases hr : rightC a with
    | false => simp (config := { maxSteps := 3000000 }) [hl9, hr]
    | true =>
      generalize hq : b.all okNm = q
      cases q <;> simp (config := { maxSteps := 3000000 }) [hl9, hs9, hr, hq]
  · cases h
def getC (l : List En) (s : List UInt8) : Int × Int := if rightC l = true then if okNm s = true then match l.find? (fun e => decide (e.n = s)) with
    | some e => (e.i, 0)
    | none => (0, 80) else (0, 170) else (0, 2)
theorem getC_found {l : List En} {s : List UInt8} (hr : rightC l = true) (hn : okNm s = true) (hf : foundC l s = true) : ∃ h : lb l s < l.length, getC l s = (l[lb l s].i, 0) ∧ l[lb l s].n = s := by
  have hlt : lb l s < l.length := by
    unfold foundC at hf
    split at hf
    · rename_i e he; exact (List.getElem?_eq_some_iff.1 he).1
    · cases hf
  have hs : l[lb l s].n = s := by
    unfold foundC at hf
    rw [List.getElem?_eq_getElem hlt] at hf
    simpa using hf
  refine ⟨hlt, ?_, hs⟩
  have hfind : l.find? (fun e => decide (e.n = s)) = some l[lb l s] := by
    rw [List.find?_eq_some_iff_getElem]
    refine ⟨by simp [hs], lb l s, hlt, rfl, fun j hj => ?_⟩
    have := bl_ne (lb_lt hj)
    simpa using this
  unfold getC
  rw [if_pos hr, if_pos hn, hfind]
theorem getC_none {l : List En} {s : List UInt8} (hr : rightC l = true) (hn : okNm s = true) (hf : foundC l s = false) : getC l s = (0, 80) := by
  have hfind : l.find? (fun e => decide (e.n = s)) = none := by
    rw [List.find?_eq_none]
    intro e he hh
    have := (found_iff (s := s) hr).2 ⟨e, he, by simpa using hh⟩
    rw [hf] at this; cases this
  unfold getC
  rw [if_pos hr, if_pos hn, hfind]
noncomputable def GGet : List AV → Option (Prop × AV)
  | [.pv (.ro a), .pv (.str s)] => (dec rowC a).map fun l => (l.length ≤ 1000000000, .tup [.pv (.int .u64 (getC l s).1), .pv (.int .i64 (getC l s).2)])
  | _ => none
@[simp] theorem GGet_eq (a : List (List PV)) (s : List UInt8) : GGet [.pv (.ro a), .pv (.str s)] = (dec rowC a).map fun l => (l.length ≤ 1000000000, .tup [.pv (.int .u64 (getC l s).1), .pv (.int .i64 (getC l s).2)]) := rfl
theorem c_Get : ConT Try.prog 19 GGet := by
  intro ys φ r h hφ
  unfold GGet at h
  split at h
  · rename_i ra s
    obtain ⟨a, ha, h⟩ := Option.map_eq_some_iff.1 h
    cases h
    cases dec_rowsC_inv ha
    refine con_of (tab_cons c_May (tab_cons c_plc tab_nil)) (by kernel_rfl) fn19 (by simp) ?_
    unfold body19
    cases hr : rightC a with
    | false =>
      have hg : getC a s = (0, 2) := by unfold getC; rw [if_neg (by simp [hr])]
      simp (config := { maxSteps := 3000000 }) [hφ, mayC, hr, hg]
    | true =>
      cases hn : okNm s with
      | false =>
        have hg : getC a s = (0, 170) := by unfold getC; rw [if_pos hr, if_neg (by simp [hn])]
        simp (config := { maxSteps := 3000000 }) [hφ, mayC, hr, hn, hg]
      | true =>
        cases hf : foundC a s with
        | false =>
          have hg := getC_none hr hn hf
          simp (config := { maxSteps := 3000000 }) [hφ, mayC, hr, hn, hf, hg]
        | true =>
          obtain ⟨hlt, hg, _⟩ := getC_found hr hn hf
          have r1 := rowsC_at hlt
          simp (config := { maxSteps := 3000000 }) [hφ, mayC, hr, hn, hf, hg, r1, hlt]
  · cases h
theorem c_rGet : ConT Try.prog 20 GGet := by
  intro ys φ r h hφ
  unfold GGet at h
  split at h
  · rename_i ra s
    obtain ⟨a, ha, h⟩ := Option.map_eq_some_iff.1 h
    cases h
    cases dec_rowsC_inv ha
    refine con_of (tab_cons c_rRt (tab_cons c_rNm tab_nil)) (by kernel_rfl) fn20 (by simp) ?_
    unfold body20
    cases hr : rightC a with
    | false =>
      have hg : getC a s = (0, 2) := by unfold getC; rw [if_neg (by simp [hr])]
      simp (config := { maxSteps := 3000000 }) [hφ, hr, hg]
    | true =>
      cases hn : okNm s with
      | false =>
        have hg : getC a s = (0, 170) := by unfold getC; rw [if_pos hr, if_neg (by simp [hn])]
        simp (config := { maxSteps := 3000000 }) [hφ, hr, hn, hg]
      | true =>
        have hgf : getC a s = match a.find? (fun e => decide (e.n = s)) with
          | some e => (e.i, 0)
          | none => (0, 80) := by unfold getC; rw [if_pos hr, if_pos hn]
        simp (config := { maxSteps := 3000000 }) [hφ, hr, hn]
        refine vwp_loop (fun i : Nat => i ≤ a.length ∧ ∀ e ∈ a.take i, ¬ e.n = s) (fun i => ⟨[(0, .pv (.ro (rowsC a))), (1, .pv (.str s)), (4, .pv (.int .u64 0)), (5, .pv (.int .i64 0)), (6, .pv (.int .i64 i))], []⟩) (fun i => a.length - i) [] 0 (by simp) ?_ ?_
        · simp
        · rintro i ⟨hi, ht⟩
          have w2 : IntKind.i64.wrap ((i : Int) + 1) = (i : Int) + 1 := wrap_i64 (by omega)
          by_cases hlt : i < a.length
          · have r1 := rowsC_at hlt
            by_cases he : a[i].n = s
            · have hfind : a.find? (fun e => decide (e.n = s)) = some a[i] := by
                rw [List.find?_eq_some_iff_getElem]
                refine ⟨by simp [he], i, hlt, rfl, fun j hj => ?_⟩
                have := ht a[j] (by rw [List.mem_take_iff_getElem]; exact ⟨j, by omega, rfl⟩)
                simpa using this
              rw [hfind] at hgf
              simp only at hgf
              simp (config := { maxSteps := 3000000 }) [hlt, r1, he, hgf]
            · simp (config := { maxSteps := 3000000 }) [hlt, r1, he, w2]
              refine ⟨i + 1, ⟨by omega, fun e hm => ?_⟩, by omega, by omega⟩
              rw [List.take_succ_eq_append_getElem hlt, List.mem_append, List.mem_singleton] at hm
              rcases hm with hm | rfl
              · exact ht e hm
              · exact he
          · rw [List.take_of_length_le (by omega)] at ht
            have hfind : a.find? (fun e => decide (e.n = s)) = none := by
              rw [List.find?_eq_none]
              intro e he hh
              exact ht e he (by simpa using hh)
            rw [hfind] at hgf
            simp only at hgf
            simp (config := { maxSteps := 3000000 }) [hlt, hgf]
  · cases h

/-! ### Names -/

noncomputable def GNames : List AV → Option (Prop × AV)
  | [.pv (.ro a)] => (dec rowC a).map fun l => (l.length ≤ 100000000, .fr 9 (rowsS (l.map En.n)))
  | _ => none
@[simp] theorem GNames_eq (a : List (List PV)) : GNames [.pv (.ro a)] = (dec rowC a).map fun l => (l.length ≤ 100000000, .fr 9 (rowsS (l.map En.n))) := rfl
theorem c_Names : ConT Try.prog 31 GNames := by
  intro ys φ r h hφ
  unfold GNames at h
  split at h
  · rename_i ra
    obtain ⟨a, ha, h⟩ := Option.map_eq_some_iff.1 h
    cases h
    cases dec_rowsC_inv ha
    refine con_of tab_nil (by kernel_rfl) fn31 (by simp) ?_
    unfold body31
    simp (config := { maxSteps := 3000000 })
    refine vwp_loop (fun i : Nat => i ≤ a.length) (fun i => ⟨[(2, .own 2), (5, .pv (.ro (rowsC a))), (6, .pv (.int .i64 a.length)), (7, .pv (.int .i64 i))], [(2, .arr 9 (rowsS ((a.take i).map En.n)))]⟩) (fun i => a.length - i) [] 0 (by simp) ?_ ?_
    · simp
    · intro i hi
      have w2 : IntKind.i64.wrap ((i : Int) + 1) = (i : Int) + 1 := wrap_i64 (by omega)
      by_cases hlt : i < a.length
      · have r1 := rowsC_at hlt
        simp (config := { maxSteps := 3000000 }) [w2, hlt, r1, maxLen_eq]
        refine ⟨⟨by omega, by omega⟩, i + 1, by omega, ⟨by omega, ?_⟩, by omega⟩
        rw [← List.map_take, ← List.map_take, List.take_succ_eq_append_getElem hlt, List.map_append, rowsS_append]; rfl
      · simp (config := { maxSteps := 3000000 }) [hlt]
        rw [List.take_of_length_le (by simp; omega)]
  · cases h
theorem c_rNames : ConT Try.prog 32 GNames := by
  intro ys φ r h hφ
  unfold GNames at h
  split at h
  · rename_i ra
    obtain ⟨a, ha, h⟩ := Option.map_eq_some_iff.1 h
    cases h
    cases dec_rowsC_inv ha
    refine con_of tab_nil (by kernel_rfl) fn32 (by simp) ?_
    unfold body32
    simp (config := { maxSteps := 3000000 })
    refine vwp_loop (fun i : Nat => i ≤ a.length) (fun i => ⟨[(0, .pv (.ro (rowsC a))), (2, .own 2), (3, .own 3), (4, .pv (.int .i64 i))], [(2, .arr 9 []), (3, .arr 9 (rowsS ((a.take i).map En.n)))]⟩) (fun i => a.length - i) [] 0 (by simp) ?_ ?_
    · simp
    · intro i hi
      have w2 : IntKind.i64.wrap ((i : Int) + 1) = (i : Int) + 1 := wrap_i64 (by omega)
      by_cases hlt : i < a.length
      · have r1 := rowsC_at hlt
        simp (config := { maxSteps := 3000000 }) [w2, hlt, r1, maxLen_eq]
        refine ⟨⟨by omega, by omega⟩, i + 1, by omega, ⟨by omega, ?_⟩, by omega⟩
        rw [← List.map_take, ← List.map_take, List.take_succ_eq_append_getElem hlt, List.map_append, rowsS_append]; rfl
      · simp (config := { maxSteps := 3000000 }) [hlt]
        rw [List.take_of_length_le (by simp; omega)]
  · cases h

end Go.Proofs.Ytfpmjcdcpicmaaa.Ab
