import Derived.Test.YtfpmjcdcpicmaaaW4
import Derived.Test.YtfpmjcdcpicmaaaCodeW
namespace Go.Proofs.Ytfpmjcdcpicmaaa.Ab
open Go Go.RowKit R
set_option linter.unusedVariables false
set_option linter.unusedSimpArgs false
set_option maxHeartbeats 40000000
set_option maxRecDepth 100000
def addV (l : List Vn) (v : Vn) : List Vn × Int :=
 if rightV l = false ∨ v.hid = true ∨ v.n = 0 ∨ (0 < l.length ∧ v.n ≤ lastN l) then ([], 2)
 else if baseV v ≠ 0 ∧ (getV l (baseV v)).isSome = false then ([], 150) else (l ++ [v], 0)
noncomputable def GAdd (e : TypeId) : List AV → Option (Prop × AV)
 | [.pv (.ro a), .agg [.pv (.int .u64 n), .pv (.int .u64 b), .pv (.int .u64 p), .pv (.int .u64 i), .pv (.int .u64 s), .pv (.int .u64 z), .pv (.int .u64 m), .pv (.str t), .pv (.bool inl), .pv (.bool hid)]] => (dec rowV a).map fun l => (l.length ≤ 100000 ∧ (∀ v ∈ l, okV v) ∧ okV ⟨n, b, p, i, s, z, m, t, inl, hid⟩, .tup [.fr e (rowsV (addV l ⟨n, b, p, i, s, z, m, t, inl, hid⟩).1), .pv (.int .i64 (addV l ⟨n, b, p, i, s, z, m, t, inl, hid⟩).2)])
 | _ => none
@[simp] theorem GAdd_eq (e : TypeId) (a : List (List PV)) (n b p i s z m : Int) (t : List UInt8) (inl hid : Bool) : GAdd e [.pv (.ro a), .agg [.pv (.int .u64 n), .pv (.int .u64 b), .pv (.int .u64 p), .pv (.int .u64 i), .pv (.int .u64 s), .pv (.int .u64 z), .pv (.int .u64 m), .pv (.str t), .pv (.bool inl), .pv (.bool hid)]] = (dec rowV a).map fun l => (l.length ≤ 100000 ∧ (∀ v ∈ l, okV v) ∧ okV ⟨n, b, p, i, s, z, m, t, inl, hid⟩, .tup [.fr e (rowsV (addV l ⟨n, b, p, i, s, z, m, t, inl, hid⟩).1), .pv (.int .i64 (addV l ⟨n, b, p, i, s, z, m, t, inl, hid⟩).2)]) := rfl
theorem c_AddV : ConT Try.prog 58 (GAdd 70) := by
 intro ys φ r h hφ
 unfold GAdd at h
 split at h
 · rename_i ra n b p i s z m t inl hid
   obtain ⟨a, ha, h⟩ := Option.map_eq_some_iff.1 h
   cases h
   cases dec_rowsV_inv ha
   obtain ⟨hl5, hov, hvv⟩ := hφ
   have hl9 : a.length ≤ 1000000000 := by omega
   have hl6 : a.length ≤ 1000000 := by omega
   have fl : ∀ l, flatRows (rowsV l) := flat_rowsV
   have hbv : (if inl = true then 0 else b) = baseV ⟨n, b, p, i, s, z, m, t, inl, hid⟩ := rfl
   refine con_of (tab_cons c_Rv (tab_cons c_base (tab_cons c_Gv (tab_cons c_ClV tab_nil)))) (by kernel_rfl) fn58 (by simp) ?_
   unfold body58
   by_cases h0 : 0 < a.length
   · have w1 : IntKind.i64.wrap ((a.length : Int) - 1) = (a.length : Int) - 1 := wrap_i64 (by omega)
     have hlt : a.length - 1 < a.length := by omega
     have r1 := rowsV_at hlt
     rw [show ((a.length - 1 : Nat) : Int) = (a.length : Int) - 1 from by omega] at r1
     have hln : a[a.length - 1].n = lastN a := by
       unfold lastN; rw [List.getLast?_eq_getElem?, List.getElem?_eq_getElem hlt]; rfl
     rw [hln] at r1
     have b1 : 1 ≤ (a.length : Int) := by omega
     have b2 : (a.length : Int) - 1 < a.length := by omega
     cases hr : rightV a with
     | false =>
       have hi : addV a ⟨n, b, p, i, s, z, m, t, inl, hid⟩ = ([], 2) := by simp [addV, hr]
       simp (config := { maxSteps := 3000000 }) [hl9, hl6, hr, hi, fl, w1, r1, h0, b1, b2]
     | true =>
     cases hid with
     | true =>
       have hi : addV a ⟨n, b, p, i, s, z, m, t, inl, true⟩ = ([], 2) := by simp [addV, hr]
       simp (config := { maxSteps := 3000000 }) [hl9, hl6, hr, hi, fl, w1, r1, h0, b1, b2]
     | false =>
     by_cases hn : n = 0
     · have hi : addV a ⟨n, b, p, i, s, z, m, t, inl, false⟩ = ([], 2) := by simp [addV, hr, hn]
       simp (config := { maxSteps := 3000000 }) [hl9, hl6, hr, hi, fl, w1, r1, h0, b1, b2, hn]
       try (rw [← hn]; simp [hi])
     by_cases hle : n ≤ lastN a
     · have hi : addV a ⟨n, b, p, i, s, z, m, t, inl, false⟩ = ([], 2) := by simp [addV, hr, hn, hle, h0]
       simp (config := { maxSteps := 3000000 }) [hl9, hl6, hr, hi, fl, w1, r1, h0, b1, b2, hn, hle]
     by_cases hb : baseV ⟨n, b, p, i, s, z, m, t, inl, false⟩ = 0
     · have hi : addV a ⟨n, b, p, i, s, z, m, t, inl, false⟩ = (a ++ [⟨n, b, p, i, s, z, m, t, inl, false⟩], 0) := by simp [addV, hr, hn, hle, h0, hb]
       simp (config := { maxSteps := 3000000 }) [hl9, hl6, hr, fl, w1, r1, h0, b1, b2, hn, hle, hbv, cellsV, hb, hi, maxLen_eq]
       exact ⟨⟨by omega, by omega⟩, by rw [rowsV_append]; rfl⟩
     · cases hg : (getV a (baseV ⟨n, b, p, i, s, z, m, t, inl, false⟩)).isSome with
       | false =>
         have hi : addV a ⟨n, b, p, i, s, z, m, t, inl, false⟩ = ([], 150) := by simp [addV, hr, hn, hle, h0, hb, hg]
         simp (config := { maxSteps := 3000000 }) [hl9, hl6, hr, fl, w1, r1, h0, b1, b2, hn, hle, hbv, cellsV, hb, hi, hg]
       | true =>
         have hi : addV a ⟨n, b, p, i, s, z, m, t, inl, false⟩ = (a ++ [⟨n, b, p, i, s, z, m, t, inl, false⟩], 0) := by simp [addV, hr, hn, hle, h0, hb, hg]
         simp (config := { maxSteps := 3000000 }) [hl9, hl6, hr, fl, w1, r1, h0, b1, b2, hn, hle, hbv, cellsV, hb, hi, hg, maxLen_eq]
         exact ⟨⟨by omega, by omega⟩, by rw [rowsV_append]; rfl⟩
   · have : a = [] := List.eq_nil_of_length_eq_zero (by omega)
     subst this
     have hr : rightV [] = true := rfl
     have r0 : ∀ k : Int, rowAt [] k = [] := fun k => by simp [rowAt]
     have hd0 : dec rowV [] = some [] := dec_rowsV []
     have hg0 : ∀ q, getV [] q = none := fun q => rfl
     have f0 : flatRows [] := flat_rowsV []
     cases hid with
     | true =>
       have hi : addV [] ⟨n, b, p, i, s, z, m, t, inl, true⟩ = ([], 2) := by simp [addV, hr]
       simp (config := { maxSteps := 3000000 }) [hr, hi, r0, hd0, f0]
     | false =>
     by_cases hn : n = 0
     · have hi : addV [] ⟨n, b, p, i, s, z, m, t, inl, false⟩ = ([], 2) := by simp [addV, hr, hn]
       simp (config := { maxSteps := 3000000 }) [hr, hi, r0, hd0, f0, hn]
       try (rw [← hn]; simp [hi])
     by_cases hb : baseV ⟨n, b, p, i, s, z, m, t, inl, false⟩ = 0
     · have hi : addV [] ⟨n, b, p, i, s, z, m, t, inl, false⟩ = ([⟨n, b, p, i, s, z, m, t, inl, false⟩], 0) := by simp [addV, hr, hn, hb]
       simp (config := { maxSteps := 3000000 }) [hr, hi, r0, hd0, f0, hg0, hn, hb, hbv, maxLen_eq, v0, cellsV]
       rfl
     · have hi : addV [] ⟨n, b, p, i, s, z, m, t, inl, false⟩ = ([], 150) := by simp [addV, hr, hn, hb, hg0]
       simp (config := { maxSteps := 3000000 }) [hr, hi, r0, hd0, f0, hg0, hn, hb, hbv, v0, cellsV]
 · cases h
theorem c_rAddV : ConT Try.prog 59 (GAdd 75) := by
 intro ys φ r h hφ
 unfold GAdd at h
 split at h
 · rename_i ra n b p i s z m t inl hid
   obtain ⟨a, ha, h⟩ := Option.map_eq_some_iff.1 h
   cases h
   cases dec_rowsV_inv ha
   obtain ⟨hl5, hov, hvv⟩ := hφ
   have hl9 : a.length ≤ 1000000000 := by omega
   have hl6 : a.length ≤ 1000000 := by omega
   have fl : ∀ l, flatRows (rowsV l) := flat_rowsV
   have hbv : (if inl = true then 0 else b) = baseV ⟨n, b, p, i, s, z, m, t, inl, hid⟩ := rfl
   have hbp : 0 ≤ baseV ⟨n, b, p, i, s, z, m, t, inl, hid⟩ := baseV_pos hvv
   refine con_of (tab_cons c_rRv (tab_cons c_made (tab_cons c_rGv tab_nil))) (by kernel_rfl) fn59 (by simp) ?_
   unfold body59
   cases hr : rightV a with
   | false =>
     have hi : addV a ⟨n, b, p, i, s, z, m, t, inl, hid⟩ = ([], 2) := by simp [addV, hr]
     simp (config := { maxSteps := 3000000 }) [hl9, hl6, hr, hi, fl]
     exact hov
   | true =>
   cases hid with
   | true =>
     have hi : addV a ⟨n, b, p, i, s, z, m, t, inl, true⟩ = ([], 2) := by simp [addV, hr]
     simp (config := { maxSteps := 3000000 }) [hl9, hl6, hr, hi, fl]
     exact hov
   | false =>
   by_cases hn : n = 0
   · have hi : addV a ⟨n, b, p, i, s, z, m, t, inl, false⟩ = ([], 2) := by simp [addV, hr, hn]
     simp (config := { maxSteps := 3000000 }) [hl9, hl6, hr, hi, fl, hn]
     refine ⟨hov, ?_⟩
     try (rw [← hn]; simp [hi])
   simp (config := { maxSteps := 3000000 }) [hl9, hl6, hr, fl, hn]
   refine ⟨hov, ?_⟩
   refine vwp_loop (fun i : Nat => i ≤ a.length ∧ ∀ j (h : j < a.length), j < i → a[j].n < n) (fun i' => ⟨[(0, .pv (.ro (rowsV a))), (3, .ptr 3 0), (6, .pv (.int .i64 i'))], [(3, .box [.pv (.int .u64 n), .pv (.int .u64 b), .pv (.int .u64 p), .pv (.int .u64 i), .pv (.int .u64 s), .pv (.int .u64 z), .pv (.int .u64 m), .pv (.str t), .pv (.bool inl), .pv (.bool false)])]⟩) (fun i => a.length - i) [] 0 (by simp) ?_ ?_
   · simp
   · rintro k ⟨hk, ht⟩
     have w2 : IntKind.i64.wrap ((k : Int) + 1) = (k : Int) + 1 := wrap_i64 (by omega)
     by_cases hlt : k < a.length
     · have r1 := rowsV_at hlt
       by_cases hge : n ≤ a[k].n
       · have hla := right_last hr hlt
         have hi : addV a ⟨n, b, p, i, s, z, m, t, inl, false⟩ = ([], 2) := by
           have h1 : 0 < a.length := by omega
           have h2 : n ≤ lastN a := by omega
           simp [addV, h1, h2]
         simp (config := { maxSteps := 3000000 }) [w2, hlt, r1, hge, hi]
       · simp (config := { maxSteps := 3000000 }) [w2, hlt, r1, hge]
         refine ⟨k + 1, ⟨by omega, fun j hj hjk => ?_⟩, by omega, by omega⟩
         by_cases hjk' : j = k
         · subst hjk'; omega
         · exact ht j hj (by omega)
     · have hle : ¬ (0 < a.length ∧ n ≤ lastN a) := by
         rintro ⟨h0, hle⟩
         have hlt' : a.length - 1 < a.length := by omega
         have h1 := ht (a.length - 1) hlt' (by omega)
         have h2 : lastN a = a[a.length - 1].n := by
           unfold lastN; rw [List.getLast?_eq_getElem?, List.getElem?_eq_getElem hlt']; rfl
         omega
       have hle' : 0 < a.length → lastN a < n := fun h1 => by
         by_cases h2 : n ≤ lastN a
         · exact absurd ⟨h1, h2⟩ hle
         · omega
       by_cases hb : baseV ⟨n, b, p, i, s, z, m, t, inl, false⟩ = 0
       · have hi : addV a ⟨n, b, p, i, s, z, m, t, inl, false⟩ = (a ++ [⟨n, b, p, i, s, z, m, t, inl, false⟩], 0) := by simp [addV, hr, hn, hb]; exact fun h1 => hle' (by first | exact h1 | exact List.length_pos_iff.2 h1)
         simp (config := { maxSteps := 3000000 }) [hlt, hl6, hbv, hb, hi, maxLen_eq]
         exact ⟨⟨by omega, by omega, rowsV_ten a⟩, ⟨by omega, by omega⟩, by rw [rowsV_append]; rfl⟩
       · have hb' : 0 < baseV ⟨n, b, p, i, s, z, m, t, inl, false⟩ := by omega
         cases hg : (getV a (baseV ⟨n, b, p, i, s, z, m, t, inl, false⟩)).isSome with
         | false =>
           have hi : addV a ⟨n, b, p, i, s, z, m, t, inl, false⟩ = ([], 150) := by simp [addV, hr, hn, hb, hg]; exact fun h1 => hle' (by first | exact h1 | exact List.length_pos_iff.2 h1)
           simp (config := { maxSteps := 3000000 }) [hlt, hl6, hbv, hb, hb', hi, hg, cellsV]
         | true =>
           have hi : addV a ⟨n, b, p, i, s, z, m, t, inl, false⟩ = (a ++ [⟨n, b, p, i, s, z, m, t, inl, false⟩], 0) := by simp [addV, hr, hn, hb, hg]; exact fun h1 => hle' (by first | exact h1 | exact List.length_pos_iff.2 h1)
           simp (config := { maxSteps := 3000000 }) [hlt, hl6, hbv, hb, hb', hi, hg, cellsV, maxLen_eq]
           exact ⟨⟨by omega, by omega, rowsV_ten a⟩, ⟨by omega, by omega⟩, by rw [rowsV_append]; rfl⟩
 · cases h
def inlV (l : List Vn) (ts : List (List UInt8)) : List Vn := List.zipWith (fun (v : Vn) t => plainV v.n t) l ts
def inlinedV (l : List Vn) (ts : List (List UInt8)) : List Vn × Int :=
 if rightV l = false ∨ ts.length ≠ (seenV l).length then ([], 2) else (inlV (seenV l) ts, 0)
theorem inlV_take {l : List Vn} {ts : List (List UInt8)} {i : Nat} (h1 : i < l.length) (h2 : i < ts.length) : inlV (l.take (i + 1)) (ts.take (i + 1)) = inlV (l.take i) (ts.take i) ++ [plainV l[i].n ts[i]] := by
 unfold inlV
 rw [List.take_succ_eq_append_getElem h1, List.take_succ_eq_append_getElem h2, List.zipWith_append (by simp; omega)]
 rfl
noncomputable def GInl (e : TypeId) : List AV → Option (Prop × AV)
 | [.pv (.ro a), .pv (.ro ts)] => (dec rowV a).bind fun l => (dec rowSt ts).map fun ts => (l.length ≤ 100000 ∧ (∀ v ∈ l, okV v), .tup [.fr e (rowsV (inlinedV l ts).1), .pv (.int .i64 (inlinedV l ts).2)])
 | _ => none
@[simp] theorem GInl_eq (e : TypeId) (a ts : List (List PV)) : GInl e [.pv (.ro a), .pv (.ro ts)] = (dec rowV a).bind fun l => (dec rowSt ts).map fun ts => (l.length ≤ 100000 ∧ (∀ v ∈ l, okV v), .tup [.fr e (rowsV (inlinedV l ts).1), .pv (.int .i64 (inlinedV l ts).2)]) := rfl
theorem c_rInl : ConT Try.prog 61 (GInl 75) := by
 intro ys φ r h hφ
 unfold GInl at h
 split at h
 · rename_i ra rts
   obtain ⟨a, ha, h⟩ := Option.bind_eq_some_iff.1 h
   obtain ⟨ts, hts, h⟩ := Option.map_eq_some_iff.1 h
   cases h
   cases dec_rowsV_inv ha
   cases dec_rowsSt_inv hts
   obtain ⟨hl5, hov⟩ := hφ
   have hl9 : a.length ≤ 1000000000 := by omega
   have hl6 : a.length ≤ 1000000 := by omega
   have hsl := seenV_len a
   have fl : ∀ l, flatRows (rowsV l) := flat_rowsV
   refine con_of (tab_cons c_rSeen (tab_cons c_rRv tab_nil)) (by kernel_rfl) fn61 (by simp) ?_
   unfold body61
   cases hr : rightV a with
   | false =>
     have hi : inlinedV a ts = ([], 2) := by simp [inlinedV, hr]
     simp (config := { maxSteps := 3000000 }) [hl9, hl6, hr, hi, fl]
     exact hov
   | true =>
     by_cases hq : ts.length = (seenV a).length
     · have hi : inlinedV a ts = (inlV (seenV a) ts, 0) := by simp [inlinedV, hr, hq]
       simp (config := { maxSteps := 3000000 }) [hl9, hl6, hr, hi, fl, hq]
       refine ⟨hov, ?_⟩
       refine vwp_loop (fun i : Nat => i ≤ ts.length) (fun i => ⟨[(1, .pv (.ro (rowsSt ts))), (6, .own 10), (7, .own 7), (8, .pv (.int .i64 i))], [(10, .arr 75 (rowsV (seenV a))), (7, .arr 75 (rowsV (inlV ((seenV a).take i) (ts.take i))))]⟩) (fun i => ts.length - i) [] 0 (by simp) ?_ ?_
       · simp [inlV]
       · intro i hi
         have w2 : IntKind.i64.wrap ((i : Int) + 1) = (i : Int) + 1 := wrap_i64 (by omega)
         by_cases hlt : i < ts.length
         · have hls : i < (seenV a).length := by omega
           have r1 := rowsV_at hls
           have r2 := rowsSt_at hlt
           have hil : (inlV ((seenV a).take i) (ts.take i)).length = i := by simp [inlV]; omega
           simp (config := { maxSteps := 3000000 }) [w2, hlt, hls, r1, r2, maxLen_eq, hil]
           refine ⟨⟨by omega, by omega⟩, i + 1, by omega, ⟨by omega, ?_⟩, by omega⟩
           rw [inlV_take hls hlt, rowsV_append]
           rfl
         · simp (config := { maxSteps := 3000000 }) [hlt]
           refine ⟨by omega, fun _ => ?_⟩
           rw [List.take_of_length_le (by omega), List.take_of_length_le (by omega)]
     · have hi : inlinedV a ts = ([], 2) := by simp [inlinedV, hr, hq]
       have hq' : ¬ ((seenV a).length : Int) = ts.length := by omega
       simp (config := { maxSteps := 3000000 }) [hl9, hl6, hr, hi, fl, hq']
       exact hov
 · cases h
def mixV (l : List Vn) (ts : List (List UInt8)) (i : Nat) : List Vn := inlV (l.take i) (ts.take i) ++ l.drop i
theorem mixV_len {l : List Vn} {ts : List (List UInt8)} {i : Nat} (h : ts.length = l.length) (hi : i ≤ l.length) : (mixV l ts i).length = l.length := by
 simp [mixV, inlV]; omega
theorem mixV_at {l : List Vn} {ts : List (List UInt8)} {i : Nat} (h : ts.length = l.length) (hi : i < l.length) : rowAt (rowsV (mixV l ts i)) (i : Int) = rowV l[i] := by
 have hlen : (inlV (l.take i) (ts.take i)).length = i := by simp [inlV]; omega
 have hm : (mixV l ts i)[i]? = some l[i] := by
   unfold mixV
   rw [List.getElem?_append_right (by omega), hlen, Nat.sub_self, List.getElem?_drop, Nat.add_zero, List.getElem?_eq_getElem hi]
 simp [rowAt, rowsV, hm]
theorem mixV_set {l : List Vn} {ts : List (List UInt8)} {i : Nat} (h : ts.length = l.length) (hi : i < l.length) : (rowsV (mixV l ts i)).set i (rowV (plainV l[i].n (ts[i]'(by omega)))) = rowsV (mixV l ts (i + 1)) := by
 have hlen : (inlV (l.take i) (ts.take i)).length = i := by simp [inlV]; omega
 have hts : i < ts.length := by omega
 unfold mixV
 rw [inlV_take hi hts, List.drop_eq_getElem_cons hi]
 simp only [rowsV, List.map_append, List.map_cons, List.map_nil]
 rw [List.set_append_right _ _ (by simp [hlen])]
 simp [hlen]
theorem c_Inl : ConT Try.prog 60 (GInl 70) := by
 intro ys φ r h hφ
 unfold GInl at h
 split at h
 · rename_i ra rts
   obtain ⟨a, ha, h⟩ := Option.bind_eq_some_iff.1 h
   obtain ⟨ts, hts, h⟩ := Option.map_eq_some_iff.1 h
   cases h
   cases dec_rowsV_inv ha
   cases dec_rowsSt_inv hts
   obtain ⟨hl5, hov⟩ := hφ
   have hl9 : a.length ≤ 1000000000 := by omega
   have hl6 : a.length ≤ 1000000 := by omega
   have hsl := seenV_len a
   have fl : ∀ l, flatRows (rowsV l) := flat_rowsV
   refine con_of (tab_cons c_Seen (tab_cons c_Rv (tab_cons c_plain tab_nil))) (by kernel_rfl) fn60 (by simp) ?_
   unfold body60
   cases hr : rightV a with
   | false =>
     have hi : inlinedV a ts = ([], 2) := by simp [inlinedV, hr]
     simp (config := { maxSteps := 3000000 }) [hl9, hl6, hr, hi, fl]
   | true =>
     by_cases hq : ts.length = (seenV a).length
     · have hi : inlinedV a ts = (inlV (seenV a) ts, 0) := by simp [inlinedV, hr, hq]
       simp (config := { maxSteps := 3000000 }) [hl9, hl6, hr, hi, fl, hq]
       refine vwp_loop (fun i : Nat => i ≤ (seenV a).length) (fun i => ⟨[(1, .pv (.ro (rowsSt ts))), (6, .own 10), (21, .own 10), (22, .pv (.int .i64 (seenV a).length)), (23, .pv (.int .i64 i))], [(10, .arr 70 (rowsV (mixV (seenV a) ts i)))]⟩) (fun i => (seenV a).length - i) [] 0 (by simp) ?_ ?_
       · simp [mixV, inlV]
       · intro i hi
         have w2 : IntKind.i64.wrap ((i : Int) + 1) = (i : Int) + 1 := wrap_i64 (by omega)
         have hml := mixV_len (i := i) hq hi
         by_cases hlt : i < (seenV a).length
         · have hls : i < ts.length := by omega
           have r1 := mixV_at hq hlt
           have r2 := rowsSt_at hls
           have hset := mixV_set hq hlt
           simp only [rowV, plainV] at r1 hset
           simp (config := { maxSteps := 3000000 }) [w2, hlt, hls, r1, r2, hml]
           exact ⟨i + 1, by omega, ⟨by omega, hset⟩, by omega⟩
         · simp (config := { maxSteps := 3000000 }) [hlt, hml]
           unfold mixV
           rw [List.take_of_length_le (by omega), List.take_of_length_le (by omega), List.drop_eq_nil_of_le (by omega), List.append_nil]
     · have hi : inlinedV a ts = ([], 2) := by simp [inlinedV, hr, hq]
       have hq' : ¬ (ts.length : Int) = (seenV a).length := by omega
       simp (config := { maxSteps := 3000000 }) [hl9, hl6, hr, hi, fl, hq']
 · cases h
end Go.Proofs.Ytfpmjcdcpicmaaa.Ab
