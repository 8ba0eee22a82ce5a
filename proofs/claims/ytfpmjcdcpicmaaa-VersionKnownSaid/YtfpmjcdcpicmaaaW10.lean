import Derived.Test.YtfpmjcdcpicmaaaW4
namespace Go.Proofs.Ytfpmjcdcpicmaaa.Ab
open Go Go.RowKit R
set_option linter.unusedVariables false
set_option linter.unusedSimpArgs false
set_option maxHeartbeats 40000000
set_option maxRecDepth 100000
def revI (l m : List Vn) (i : Nat) : Prop := m.length = l.length ∧ ∀ k (h : k < m.length) (h' : k < l.length) (h'' : l.length - 1 - k < l.length), (k < i ∨ l.length - i ≤ k → m[k] = l[l.length - 1 - k]) ∧ (i ≤ k ∧ k < l.length - i → m[k] = l[k])
theorem revI_zero (l : List Vn) : revI l l 0 := ⟨rfl, fun k h h' h'' => ⟨fun h1 => by omega, fun _ => rfl⟩⟩
theorem revI_end {l m : List Vn} {i : Nat} (h : revI l m i) (hi : l.length ≤ 2 * i + 1) : m = l.reverse := by
 obtain ⟨hl, hk⟩ := h
 apply List.ext_getElem
 · simp [hl]
 · intro k h1 h2
   rw [List.getElem_reverse]
   have h3 := hk k h1 (by omega) (by omega)
   by_cases hc : k < i ∨ l.length - i ≤ k
   · exact h3.1 hc
   · have := h3.2 (by omega)
     rw [this]
     congr 1
     omega
theorem revI_step {l m : List Vn} {i : Nat} (h : revI l m i) (hi : 2 * i + 1 < l.length) (h1 : i < m.length) (h2 : l.length - 1 - i < m.length) : revI l ((m.set i m[l.length - 1 - i]).set (l.length - 1 - i) m[i]) (i + 1) := by
 obtain ⟨hl, hk⟩ := h
 refine ⟨by simp [hl], fun k h3 h4 h5 => ?_⟩
 have ha := (hk i h1 (by omega) (by omega)).2 (by omega)
 have hb := (hk (l.length - 1 - i) h2 (by omega) (by omega)).2 (by omega)
 simp only [List.getElem_set]
 constructor
 · intro hc
   by_cases e1 : l.length - 1 - i = k
   · rw [if_pos e1, ha]
     congr 1
     omega
   · rw [if_neg e1]
     by_cases e2 : i = k
     · subst e2
       rw [if_pos rfl, hb]
     · rw [if_neg e2]
       exact (hk k (by omega) h4 h5).1 (by omega)
 · intro hc
   rw [if_neg (by omega), if_neg (by omega)]
   exact (hk k (by omega) h4 h5).2 (by omega)
noncomputable def GRev : List AV → Option (Prop × AV)
 | [.tup [.fr e a]] => if e = 70 then (dec rowV a).map fun l => (l.length ≤ 1000000, .clo 0 [.tup [], .fr 70 (rowsV l.reverse)]) else none
 | _ => none
@[simp] theorem GRev_eq (e : TypeId) (a : List (List PV)) : GRev [.tup [.fr e a]] = if e = 70 then (dec rowV a).map fun l => (l.length ≤ 1000000, .clo 0 [.tup [], .fr 70 (rowsV l.reverse)]) else none := rfl
theorem c_Rev : ConTU Try.prog 114 GRev := by
 intro ys φ r h hφ
 unfold GRev at h
 split at h
 · rename_i e ra
   split at h
   · rename_i hef
     subst hef
     obtain ⟨a, ha, h⟩ := Option.map_eq_some_iff.1 h
     cases h
     cases dec_rowsV_inv ha
     have w0 : IntKind.i64.wrap ((a.length : Int) - 1) = (a.length : Int) - 1 := wrap_i64 (by omega)
     refine con_ofU tab_nil (by kernel_rfl) fn114 (by simp) (by simp [resOK, res1, resC]) (by simp) ?_
     unfold body114
     simp (config := { maxSteps := 3000000 }) [w0]
     refine vwp_loop (fun x : Nat × List Vn => revI a x.2 x.1 ∧ 2 * x.1 ≤ a.length + 1) (fun x => ⟨[(0, .own 999), (2, .pv (.int .i64 x.1)), (3, .pv (.int .i64 ((a.length : Int) - 1 - x.1)))], [(999, .arr 70 (rowsV x.2))]⟩) (fun x => a.length - x.1) [] (0, a) ⟨revI_zero a, by simp⟩ ?_ ?_
     · simp
     · rintro ⟨i, m⟩ ⟨hm, h2⟩
       dsimp only at hm h2
       have hml := hm.1
       have w1 : IntKind.i64.wrap ((i : Int) + 1) = (i : Int) + 1 := wrap_i64 (by omega)
       have w2 : IntKind.i64.wrap ((a.length : Int) - 1 - i - 1) = (a.length : Int) - 1 - i - 1 := wrap_i64 (by omega)
       by_cases hlt : (i : Int) < (a.length : Int) - 1 - i
       · have hi : i < m.length := by omega
         have hj : a.length - 1 - i < m.length := by omega
         have hst := revI_step hm (by omega) hi hj
         have r1 := rowsV_at hi
         have r2 := rowsV_at hj
         have hc : ((a.length - 1 - i : Nat) : Int) = (a.length : Int) - 1 - i := by omega
         rw [hc] at r2
         have b1 : 0 ≤ (a.length : Int) - 1 - i := by omega
         have b2 : (a.length : Int) - 1 - i < m.length := by omega
         have b3 : (i : Int) ≤ (a.length : Int) - 1 := by omega
         have r3 : rowAt ((rowsV m).set i [.int .u64 m[a.length - 1 - i].n, .int .u64 m[a.length - 1 - i].b, .int .u64 m[a.length - 1 - i].p, .int .u64 m[a.length - 1 - i].i, .int .u64 m[a.length - 1 - i].s, .int .u64 m[a.length - 1 - i].z, .int .u64 m[a.length - 1 - i].m, .str m[a.length - 1 - i].t, .bool m[a.length - 1 - i].inl, .bool m[a.length - 1 - i].hid]) ((a.length : Int) - 1 - i) = [.int .u64 m[a.length - 1 - i].n, .int .u64 m[a.length - 1 - i].b, .int .u64 m[a.length - 1 - i].p, .int .u64 m[a.length - 1 - i].i, .int .u64 m[a.length - 1 - i].s, .int .u64 m[a.length - 1 - i].z, .int .u64 m[a.length - 1 - i].m, .str m[a.length - 1 - i].t, .bool m[a.length - 1 - i].inl, .bool m[a.length - 1 - i].hid] := by
           rw [← r2]
           unfold rowAt
           rw [show ((a.length : Int) - 1 - i).toNat = a.length - 1 - i from by omega, List.getD_eq_getElem?_getD, List.getD_eq_getElem?_getD, List.getElem?_set_ne (by omega)]
         have hrows : ((rowsV m).set i (rowV m[a.length - 1 - i])).set (a.length - 1 - i) (rowV m[i]) = rowsV ((m.set i m[a.length - 1 - i]).set (a.length - 1 - i) m[i]) := by
           simp only [rowsV, List.map_set]
         simp only [rowV] at hrows
         simp (config := { maxSteps := 3000000 }) [w1, w2, hlt, r1, r2, hi, b1, b2, b3, r3]
         exact ⟨i + 1, _, ⟨hst, by omega⟩, ⟨⟨by omega, by omega⟩, hrows⟩, by omega⟩
       · have he := revI_end hm (by omega)
         simp (config := { maxSteps := 3000000 }) [hlt, he]
   · cases h
 · cases h
end Go.Proofs.Ytfpmjcdcpicmaaa.Ab
namespace Go.Proofs.Ytfpmjcdcpicmaaa.Ab
open Go Go.RowKit R
set_option linter.unusedVariables false
set_option linter.unusedSimpArgs false
set_option maxHeartbeats 40000000
set_option maxRecDepth 100000
def atV (l : List Vn) (i : Nat) : Vn := (l[i]?).getD v0
theorem atV_eq {l : List Vn} {i : Nat} (h : i < l.length) : atV l i = l[i] := by unfold atV; rw [List.getElem?_eq_getElem h]; rfl
def planF (l : List Vn) : Nat → Nat → List Vn
 | 0, i => [atV l i]
 | f + 1, i => if baseV (atV l i) = 0 then [atV l i] else planF l f (ixV l (baseV (atV l i))).toNat ++ [atV l i]
def planV (l : List Vn) (n : Int) : List Vn × Int :=
 if rightV l = false then ([], 2) else match getV l n with
   | none => ([], 150)
   | some v => (planF l l.length (ixV l v.n).toNat, 0)
theorem base_at {l : List Vn} (hr : rightV l = true) {i : Nat} (h : i < l.length) (hb : baseV l[i] ≠ 0) : ∃ j, ∃ hj : j < i, ixV l (baseV l[i]) = (j : Int) ∧ l[j].n = baseV l[i] := by
 have hok := (rightV_iff l).1 hr i h
 unfold okAt at hok
 rw [List.getElem?_eq_getElem h] at hok
 simp only [Option.getD_some, Bool.and_eq_true, Bool.or_eq_true, decide_eq_true_eq] at hok
 have h0 := hok.2.resolve_left hb
 rcases ixV_cases (l.take i) (baseV l[i]) with ⟨j, hj, h1, h2, h3⟩ | ⟨h1, _⟩
 · rw [List.length_take] at hj
   have hji : j < i := by omega
   have hjl : j < l.length := by omega
   rw [List.getElem_take] at h2
   refine ⟨j, hji, ixV_at hjl h2 fun v hv => h3 v ?_, h2⟩
   rwa [List.take_take, Nat.min_eq_left (by omega)]
 · omega
theorem right_ne {l : List Vn} (hr : rightV l = true) {i j : Nat} (hi : i < l.length) (hj : j < l.length) (h : l[i].n = l[j].n) : i = j := by
 rcases Nat.lt_trichotomy i j with hlt | he | hlt
 · have h1 := right_mono hr (i := i) (j - 1 - i) (by omega)
   have e1 : i + (j - 1 - i) = j - 1 := by omega
   simp only [e1] at h1
   have h2 := right_step hr (i := j - 1) (by omega)
   have e2 : j - 1 + 1 = j := by omega
   simp only [e2] at h2
   omega
 · exact he
 · have h1 := right_mono hr (i := j) (i - 1 - j) (by omega)
   have e1 : j + (i - 1 - j) = i - 1 := by omega
   simp only [e1] at h1
   have h2 := right_step hr (i := i - 1) (by omega)
   have e2 : i - 1 + 1 = i := by omega
   simp only [e2] at h2
   omega
theorem ix_self {l : List Vn} (hr : rightV l = true) {i : Nat} (h : i < l.length) : ixV l l[i].n = i := by
 rcases ixV_cases l l[i].n with ⟨j, hj, h1, h2, _⟩ | ⟨_, h2⟩
 · rw [h1, right_ne hr hj h h2]
 · exact absurd rfl (h2 l[i] (List.getElem_mem h))
theorem get_at {l : List Vn} {n : Int} {v : Vn} (h : getV l n = some v) : ∃ i, ∃ h : i < l.length, v = l[i] ∧ v.n = n := by
 unfold getV at h
 have h1 := List.mem_of_find?_eq_some h
 have h2 := List.find?_some h
 obtain ⟨i, hi, rfl⟩ := List.getElem_of_mem (List.mem_filter.1 h1).1
 exact ⟨i, hi, rfl, by simpa using h2⟩
noncomputable def GPlan (e : TypeId) : List AV → Option (Prop × AV)
 | [.pv (.ro a), .pv (.int .u64 n)] => (dec rowV a).map fun l => (l.length ≤ 100000 ∧ (∀ v ∈ l, okV v), .tup [.fr e (rowsV (planV l n).1), .pv (.int .i64 (planV l n).2)])
 | _ => none
@[simp] theorem GPlan_eq (e : TypeId) (a : List (List PV)) (n : Int) : GPlan e [.pv (.ro a), .pv (.int .u64 n)] = (dec rowV a).map fun l => (l.length ≤ 100000 ∧ (∀ v ∈ l, okV v), .tup [.fr e (rowsV (planV l n).1), .pv (.int .i64 (planV l n).2)]) := rfl
theorem c_Plan : ConT Try.prog 47 (GPlan 70) := by
 intro ys φ r h hφ
 unfold GPlan at h
 split at h
 · rename_i ra n
   obtain ⟨a, ha, h⟩ := Option.map_eq_some_iff.1 h
   cases h
   cases dec_rowsV_inv ha
   obtain ⟨hl5, hov⟩ := hφ
   have hl9 : a.length ≤ 1000000000 := by omega
   have hl6 : a.length ≤ 1000000 := by omega
   have fl : ∀ l, flatRows (rowsV l) := flat_rowsV
   refine con_of (tab_cons c_Rv (tab_cons c_Gv (tab_cons c_base (tab_cons c_of (tab_consU (p := 0) (k := 999) c_Rev (by kernel_rfl) tab_nil))))) (by kernel_rfl) fn47 (by simp) ?_
   unfold body47
   cases hr : rightV a with
   | false =>
     have hp : planV a n = ([], 2) := by simp [planV, hr]
     simp (config := { maxSteps := 3000000 }) [hl9, hr, hp]
   | true =>
   cases hg : getV a n with
   | none =>
     have hp : planV a n = ([], 150) := by simp [planV, hr, hg]
     simp (config := { maxSteps := 3000000 }) [hl9, hl6, hr, hp, hg, cellsV, v0]
   | some v =>
   obtain ⟨i0, hi0, hv, hvn⟩ := get_at hg
   have hp : planV a n = (planF a a.length i0, 0) := by
     simp only [planV, hr, hg]
     rw [if_neg (by simp), hv, ix_self hr hi0, Int.toNat_natCast]
   rw [hp]
   generalize hW : planF a a.length i0 = W
   apply vwp_cut
   · simp (config := { maxSteps := 3000000 })
     exact ⟨rfl, rfl⟩
   apply vwp_cut
   · simp (config := { maxSteps := 3000000 }) [hl9, hr]
     exact ⟨rfl, rfl⟩
   apply vwp_cut
   · simp (config := { maxSteps := 3000000 }) [hl9, hl6, hg, cellsV]
     exact ⟨rfl, rfl⟩
   apply vwp_cut
   · simp (config := { maxSteps := 3000000 })
     exact ⟨rfl, rfl⟩
   simp (config := { maxSteps := 3000000 })
   refine vwp_loop (fun x : Nat × Nat × List Vn => x.1 < a.length ∧ x.1 ≤ x.2.1 ∧ x.2.2.length + x.1 ≤ a.length ∧ W = planF a x.2.1 x.1 ++ x.2.2.reverse)
     (fun x => ⟨[(0, .pv (.ro (rowsV a))), (6, .ptr 6 0), (8, .own 8)], [(6, .box (cellsV (atV a x.1))), (8, .arr 70 (rowsV x.2.2))]⟩) (fun x => x.1) [] (i0, a.length, []) ?_ ?_ ?_
   · exact ⟨hi0, by show i0 ≤ a.length; omega, by simp; omega, by simp [hW]⟩
   · simp [cellsV, atV_eq hi0, hv]
   · rintro ⟨i, f, o⟩ ⟨hi, hf, hol, hWe⟩
     dsimp only at hi hf hol hWe
     rw [atV_eq hi]
     have hbv : (if a[i].inl = true then 0 else a[i].b) = baseV a[i] := rfl
     have hol6 : o.length ≤ 100000 := by omega
     have hrow : rowsV o ++ [[PV.int .u64 a[i].n, .int .u64 a[i].b, .int .u64 a[i].p, .int .u64 a[i].i, .int .u64 a[i].s, .int .u64 a[i].z, .int .u64 a[i].m, .str a[i].t, .bool a[i].inl, .bool a[i].hid]] = rowsV (o ++ [a[i]]) := by
       rw [rowsV_append]; rfl
     have b1 : (o.length + 1) * 80 ≤ 140737488355328 := by omega
     have b2 : o.length ≤ 9223372036854775806 := by omega
     by_cases hb : baseV a[i] = 0
     · have hWr : W = (o ++ [a[i]]).reverse := by
         have hpl : planF a f i = [a[i]] := by
           cases f with
           | zero => rw [planF, atV_eq hi]
           | succ f => rw [planF, atV_eq hi, if_pos hb]
         rw [hWe, hpl]; simp
       have hon : o.length + 1 ≤ 1000000 := by omega
       simp (config := { maxSteps := 3000000 }) [cellsV, hbv, hb, maxLen_eq, hrow, b1, b2, fl, hon]
       rw [hWr, List.reverse_append]; rfl
     · obtain ⟨j, hji, hjx, hjn⟩ := base_at hr hi hb
       have hjl : j < a.length := by omega
       obtain ⟨f, rfl⟩ : ∃ g, f = g + 1 := ⟨f - 1, by omega⟩
       have hpl : planF a (f + 1) i = planF a f j ++ [a[i]] := by
         rw [planF, atV_eq hi, if_neg hb, hjx, Int.toNat_natCast]
       have r1 := rowsV_at hjl
       simp (config := { maxSteps := 3000000 }) [cellsV, hbv, hb, maxLen_eq, hrow, b1, b2, hl9, hjx, r1, hjl]
       refine ⟨j, f, o ++ [a[i]], ⟨hjl, by omega, by rw [List.length_append, List.length_singleton]; omega, ?_⟩, ⟨?_, rfl⟩, hji⟩
       · rw [hWe, hpl]; simp
       · rw [atV_eq hjl]; exact ⟨rfl, rfl, rfl, rfl, rfl, rfl, rfl, rfl, rfl, rfl⟩
 · cases h
end Go.Proofs.Ytfpmjcdcpicmaaa.Ab
namespace Go.Proofs.Ytfpmjcdcpicmaaa.Ab
open Go Go.RowKit R
set_option linter.unusedVariables false
set_option linter.unusedSimpArgs false
set_option maxHeartbeats 40000000
set_option maxRecDepth 100000
theorem planF_zero {l : List Vn} {i : Nat} (hb : baseV (atV l i) = 0) (f : Nat) : planF l f i = [atV l i] := by
 cases f with
 | zero => rfl
 | succ f => rw [planF, if_pos hb]
theorem planF_st {l : List Vn} (hr : rightV l = true) : ∀ (i f g : Nat), i < l.length → i ≤ f → i ≤ g → planF l f i = planF l g i := by
 intro i
 induction i using Nat.strongRecOn with
 | _ i ih =>
   intro f g hi hf hg
   by_cases hb : baseV (atV l i) = 0
   · rw [planF_zero hb, planF_zero hb]
   · obtain ⟨j, hj, hx, _⟩ := base_at hr hi (by rw [← atV_eq hi]; exact hb)
     rw [← atV_eq hi] at hx
     obtain ⟨f, rfl⟩ : ∃ q, f = q + 1 := ⟨f - 1, by omega⟩
     obtain ⟨g, rfl⟩ : ∃ q, g = q + 1 := ⟨g - 1, by omega⟩
     rw [planF, planF, if_neg hb, if_neg hb, hx, Int.toNat_natCast, ih j hj f g (by omega) (by omega) (by omega)]
theorem planF_next {l : List Vn} (hr : rightV l = true) {i j : Nat} (hi : i < l.length) (hb : baseV l[i] ≠ 0) (hj : j < i) (hx : ixV l (baseV l[i]) = (j : Int)) : planF l l.length i = planF l l.length j ++ [l[i]] := by
 rw [planF_st hr i l.length (l.length + 1) hi (by omega) (by omega), planF, atV_eq hi, if_neg hb, hx, Int.toNat_natCast]
theorem planF_len {l : List Vn} : ∀ (f i : Nat), (planF l f i).length ≤ f + 1
 | 0, i => by simp [planF]
 | f + 1, i => by
   rw [planF]
   split
   · simp
   · have := planF_len (l := l) f (ixV l (baseV (atV l i))).toNat
     simp only [List.length_append, List.length_singleton]
     omega
noncomputable def Grp (k : Nat) : List AV → Option (Prop × AV)
 | [.pv (.ro a), .agg [.pv (.int .u64 n), .pv (.int .u64 b), .pv (.int .u64 p), .pv (.int .u64 i), .pv (.int .u64 s), .pv (.int .u64 z), .pv (.int .u64 m), .pv (.str t), .pv (.bool inl), .pv (.bool hid)]] => (dec rowV a).map fun l => (l.length ≤ 100000 ∧ rightV l = true ∧ (∀ v ∈ l, okV v) ∧ ∃ q, q < k ∧ q < l.length ∧ atV l q = ⟨n, b, p, i, s, z, m, t, inl, hid⟩, .fr 75 (rowsV (planF l l.length (ixV l n).toNat)))
 | _ => none
@[simp] theorem Grp_eq (k : Nat) (a : List (List PV)) (n b p i s z m : Int) (t : List UInt8) (inl hid : Bool) : Grp k [.pv (.ro a), .agg [.pv (.int .u64 n), .pv (.int .u64 b), .pv (.int .u64 p), .pv (.int .u64 i), .pv (.int .u64 s), .pv (.int .u64 z), .pv (.int .u64 m), .pv (.str t), .pv (.bool inl), .pv (.bool hid)]] = (dec rowV a).map fun l => (l.length ≤ 100000 ∧ rightV l = true ∧ (∀ v ∈ l, okV v) ∧ ∃ q, q < k ∧ q < l.length ∧ atV l q = ⟨n, b, p, i, s, z, m, t, inl, hid⟩, .fr 75 (rowsV (planF l l.length (ixV l n).toNat))) := rfl
theorem c_rp : ∀ k, ConT Try.prog 115 (Grp k) := by
 intro k
 induction k with
 | zero =>
   intro ys φ r h hφ
   unfold Grp at h
   split at h
   · obtain ⟨a, ha, h⟩ := Option.map_eq_some_iff.1 h
     cases h
     obtain ⟨_, _, _, q, hq, _⟩ := hφ
     omega
   · cases h
 | succ k ih =>
   intro ys φ r h hφ
   unfold Grp at h
   split at h
   · rename_i ra n b p i s z m t inl hid
     obtain ⟨a, ha, h⟩ := Option.map_eq_some_iff.1 h
     cases h
     cases dec_rowsV_inv ha
     obtain ⟨hl5, hr, hov, q, hqk, hq, hat⟩ := hφ
     have hl9 : a.length ≤ 1000000000 := by omega
     have fl : ∀ l, flatRows (rowsV l) := flat_rowsV
     rw [atV_eq hq] at hat
     have hn : a[q].n = n := by rw [hat]
     have hix : ixV a n = (q : Int) := by rw [← hn]; exact ix_self hr hq
     rw [hix, Int.toNat_natCast]
     have hbv : (if inl = true then 0 else b) = baseV a[q] := by rw [hat]; rfl
     have hbp := baseV_pos (hov a[q] (List.getElem_mem hq))
     have hrow : [PV.int .u64 n, .int .u64 b, .int .u64 p, .int .u64 i, .int .u64 s, .int .u64 z, .int .u64 m, .str t, .bool inl, .bool hid] = rowV a[q] := by rw [hat]; rfl
     refine con_of (tab_cons c_made (tab_cons c_find (tab_cons ih tab_nil))) (by kernel_rfl) fn115 (by simp) ?_
     unfold body115
     by_cases hb : baseV a[q] = 0
     · have hpl : planF a a.length q = [a[q]] := by rw [planF_zero (by rw [atV_eq hq]; exact hb), atV_eq hq]
       simp (config := { maxSteps := 3000000 }) [hbv, hb, maxLen_eq, hpl]
       rw [hrow]; rfl
     · obtain ⟨j, hji, hjx, hjn⟩ := base_at hr hq hb
       have hjl : j < a.length := by omega
       have hb' : 0 < baseV a[q] := by omega
       have hpl := planF_next hr hq hb hji hjx
       have r1 := rowsV_at hjl
       have hlen := planF_len (l := a) a.length j
       have hjix : ixV a a[j].n = (j : Int) := ix_self hr hjl
       have htk : a.take a.length = a := List.take_length
       simp (config := { maxSteps := 3000000 }) [hbv, hb', maxLen_eq, hpl, hl9, htk, hjx, r1, hjl, fl, hjix]
       refine ⟨⟨hl5, hr, hov, j, by omega, hjl, by rw [atV_eq hjl]⟩, ⟨by omega, by omega⟩, ?_⟩
       rw [hrow, rowsV_append]; rfl
   · cases h
theorem c_rPlan : ConT Try.prog 48 (GPlan 75) := by
 intro ys φ r h hφ
 unfold GPlan at h
 split at h
 · rename_i ra n
   obtain ⟨a, ha, h⟩ := Option.map_eq_some_iff.1 h
   cases h
   cases dec_rowsV_inv ha
   obtain ⟨hl5, hov⟩ := hφ
   have hl9 : a.length ≤ 1000000000 := by omega
   have hl6 : a.length ≤ 1000000 := by omega
   have fl : ∀ l, flatRows (rowsV l) := flat_rowsV
   refine con_of (tab_cons c_rRv (tab_cons c_rGv (tab_cons (c_rp a.length) tab_nil))) (by kernel_rfl) fn48 (by simp) ?_
   unfold body48
   cases hr : rightV a with
   | false =>
     have hp : planV a n = ([], 2) := by simp [planV, hr]
     simp (config := { maxSteps := 3000000 }) [hl9, hr, hp]
     exact hov
   | true =>
   cases hg : getV a n with
   | none =>
     have hp : planV a n = ([], 150) := by simp [planV, hr, hg]
     simp (config := { maxSteps := 3000000 }) [hl9, hl6, hr, hp, hg, cellsV, v0]
     exact hov
   | some v =>
   obtain ⟨i0, hi0, hv, hvn⟩ := get_at hg
   have hix : ixV a v.n = (i0 : Int) := by rw [hv]; exact ix_self hr hi0
   have hp : planV a n = (planF a a.length i0, 0) := by
     simp only [planV, hr, hg]
     rw [if_neg (by simp), hix, Int.toNat_natCast]
   simp (config := { maxSteps := 3000000 }) [hl9, hl6, hr, hp, hg, cellsV, hix, fl]
   exact ⟨hov, hl5, hov, i0, hi0, by rw [atV_eq hi0, ← hv]⟩
 · cases h
end Go.Proofs.Ytfpmjcdcpicmaaa.Ab
