import Derived.Test.YtfpmjcdcpicmaaaCodeW
import Derived.Test.YtfpmjcdcpicmaaaAb23
import Derived.Test.YtfpmjcdcpicmaaaAb24
namespace Go.Proofs.Ytfpmjcdcpicmaaa.Ab
open Go Go.RowKit R
set_option linter.unusedVariables false
set_option linter.unusedSimpArgs false
set_option maxHeartbeats 40000000
set_option maxRecDepth 100000
structure Vn where
 n : Int
 b : Int
 p : Int
 i : Int
 s : Int
 z : Int
 m : Int
 t : List UInt8
 inl : Bool
 hid : Bool
 deriving DecidableEq
def v0 : Vn := ⟨0, 0, 0, 0, 0, 0, 0, [], false, false⟩
def rowV (v : Vn) : List PV := [.int .u64 v.n, .int .u64 v.b, .int .u64 v.p, .int .u64 v.i, .int .u64 v.s, .int .u64 v.z, .int .u64 v.m, .str v.t, .bool v.inl, .bool v.hid]
def cellsV (v : Vn) : List AV := [.pv (.int .u64 v.n), .pv (.int .u64 v.b), .pv (.int .u64 v.p), .pv (.int .u64 v.i), .pv (.int .u64 v.s), .pv (.int .u64 v.z), .pv (.int .u64 v.m), .pv (.str v.t), .pv (.bool v.inl), .pv (.bool v.hid)]
theorem rowV_inj : ∀ a b, rowV a = rowV b → a = b := by
 intro a b h
 cases a; cases b
 simpa [rowV] using h
def rowsV (l : List Vn) : List (List PV) := l.map rowV
@[simp] theorem rowsV_nil : rowsV [] = [] := rfl
@[simp] theorem rowsV_length (l : List Vn) : (rowsV l).length = l.length := by simp [rowsV]
theorem rowsV_append (l m : List Vn) : rowsV (l ++ m) = rowsV l ++ rowsV m := by simp [rowsV]
theorem rowsV_ten (l : List Vn) : ∀ r ∈ rowsV l, r.length = 10 := by
 intro r hr
 simp only [rowsV, List.mem_map] at hr
 obtain ⟨c, _, rfl⟩ := hr
 rfl
theorem rowsV_at {l : List Vn} {i : Nat} (h : i < l.length) : rowAt (rowsV l) (i : Int) = [.int .u64 l[i].n, .int .u64 l[i].b, .int .u64 l[i].p, .int .u64 l[i].i, .int .u64 l[i].s, .int .u64 l[i].z, .int .u64 l[i].m, .str l[i].t, .bool l[i].inl, .bool l[i].hid] := by
 simp [rowAt, rowsV, h, rowV]
theorem rowsV_cut (l : List Vn) (i : Nat) : cut (rowsV l) 0 (i : Int) = rowsV (l.take i) := by simp [cut, rowsV]
@[simp] theorem dec_rowsV (l : List Vn) : dec rowV (rowsV l) = some l := dec_map rowV_inj l
theorem dec_rowsV_inv {rows : List (List PV)} {l : List Vn} (h : dec rowV rows = some l) : rows = rowsV l := dec_inv h
theorem flat_rowsV (l : List Vn) : flatRows (rowsV l) := by
 intro r hr p hp
 simp only [rowsV, List.mem_map] at hr
 obtain ⟨c, _, rfl⟩ := hr
 simp only [rowV, List.mem_cons, List.not_mem_nil, or_false] at hp
 rcases hp with rfl | rfl | rfl | rfl | rfl | rfl | rfl | rfl | rfl | rfl <;> rfl
def baseV (v : Vn) : Int := if v.inl = true then 0 else v.b
def Gbase : List AV → Option (Prop × AV)
 | [.agg [.pv (.int .u64 _), .pv (.int .u64 b), .pv (.int .u64 _), .pv (.int .u64 _), .pv (.int .u64 _), .pv (.int .u64 _), .pv (.int .u64 _), .pv (.str _), .pv (.bool inl), .pv (.bool _)]] => some (True, .pv (.int .u64 (if inl = true then 0 else b)))
 | _ => none
@[simp] theorem Gbase_eq (n b p i s z m : Int) (t : List UInt8) (inl hid : Bool) : Gbase [.agg [.pv (.int .u64 n), .pv (.int .u64 b), .pv (.int .u64 p), .pv (.int .u64 i), .pv (.int .u64 s), .pv (.int .u64 z), .pv (.int .u64 m), .pv (.str t), .pv (.bool inl), .pv (.bool hid)]] = some (True, .pv (.int .u64 (if inl = true then 0 else b))) := rfl
theorem c_base : ConT Try.prog 113 Gbase := by
 intro ys φ r h hφ
 unfold Gbase at h
 split at h
 · rename_i n b p i s z m t inl hid
   cases h
   refine con_of tab_nil (by kernel_rfl) fn113 (by simp) ?_
   unfold body113
   cases inl <;> simp (config := { maxSteps := 3000000 })
 · cases h
def ixV (l : List Vn) (n : Int) : Int := if l.findIdx (fun v => decide (v.n = n)) < l.length then (l.findIdx (fun v => decide (v.n = n)) : Int) else -1
theorem ixV_at {l : List Vn} {n : Int} {i : Nat} (h : i < l.length) (hq : l[i].n = n) (ht : ∀ v ∈ l.take i, ¬ v.n = n) : ixV l n = i := by
 have hf : l.findIdx (fun v => decide (v.n = n)) = i := by
   rw [List.findIdx_eq h]
   refine ⟨by simpa using hq, fun j hj => ?_⟩
   have : l[j] ∈ l.take i := by
     rw [List.mem_take_iff_getElem]
     exact ⟨j, by omega, rfl⟩
   simpa using ht _ this
 unfold ixV
 rw [hf, if_pos h]
theorem ixV_none {l : List Vn} {n : Int} (ht : ∀ v ∈ l, ¬ v.n = n) : ixV l n = -1 := by
 have hf : l.findIdx (fun v => decide (v.n = n)) = l.length := by
   rw [List.findIdx_eq_length]
   intro v hv
   simpa using ht v hv
 unfold ixV
 rw [hf, if_neg (by omega)]
theorem ixV_cases (l : List Vn) (n : Int) : (∃ i, ∃ h : i < l.length, ixV l n = i ∧ l[i].n = n ∧ ∀ v ∈ l.take i, ¬ v.n = n) ∨ (ixV l n = -1 ∧ ∀ v ∈ l, ¬ v.n = n) := by
 by_cases h : ∃ v ∈ l, v.n = n
 · left
   have hlt : l.findIdx (fun v => decide (v.n = n)) < l.length := by
     rw [List.findIdx_lt_length]
     obtain ⟨v, hv, hn⟩ := h
     exact ⟨v, hv, by simpa using hn⟩
   have h1 : l[l.findIdx (fun v => decide (v.n = n))].n = n := by
     have := List.findIdx_getElem (w := hlt)
     simpa using this
   have h2 : ∀ v ∈ l.take (l.findIdx (fun v => decide (v.n = n))), ¬ v.n = n := by
     intro v hv
     rw [List.mem_take_iff_getElem] at hv
     obtain ⟨j, hj, rfl⟩ := hv
     have := List.not_of_lt_findIdx (show j < l.findIdx (fun v => decide (v.n = n)) by omega)
     simpa using this
   exact ⟨_, hlt, ixV_at hlt h1 h2, h1, h2⟩
 · right
   have h' : ∀ v ∈ l, ¬ v.n = n := fun v hv hn => h ⟨v, hv, hn⟩
   exact ⟨ixV_none h', h'⟩
def Gof1 : List AV → Option (Prop × AV)
 | [.agg [.pv (.int .u64 a), .pv (.int .u64 _), .pv (.int .u64 _), .pv (.int .u64 _), .pv (.int .u64 _), .pv (.int .u64 _), .pv (.int .u64 _), .pv (.str _), .pv (.bool _), .pv (.bool _)], .rp [.int .u64 n]] => some (True, .pv (.bool (decide (a = n))))
 | _ => none
@[simp] theorem Gof1_eq (n b p i s z m q : Int) (t : List UInt8) (inl hid : Bool) : Gof1 [.agg [.pv (.int .u64 n), .pv (.int .u64 b), .pv (.int .u64 p), .pv (.int .u64 i), .pv (.int .u64 s), .pv (.int .u64 z), .pv (.int .u64 m), .pv (.str t), .pv (.bool inl), .pv (.bool hid)], .rp [.int .u64 q]] = some (True, .pv (.bool (decide (n = q)))) := rfl
theorem c_of1 : ConT Try.prog 158 Gof1 := by
 intro ys φ r h hφ
 unfold Gof1 at h
 split at h
 · cases h
   refine con_of tab_nil (by kernel_rfl) fn158 (by simp) ?_
   unfold body158
   simp (config := { maxSteps := 3000000 })
 · cases h
theorem isfnof1 : isFn Try.prog 158 = true := by kernel_rfl
noncomputable def GixV : List AV → Option (Prop × AV)
 | [.pv (.ro a), .clo f [.rp [.int .u64 n]]] => if f = 158 then (dec rowV a).map fun l => (l.length ≤ 1000000000, .pv (.int .i64 (ixV l n))) else none
 | _ => none
@[simp] theorem GixV_eq (a : List (List PV)) (f : FuncId) (n : Int) : GixV [.pv (.ro a), .clo f [.rp [.int .u64 n]]] = if f = 158 then (dec rowV a).map fun l => (l.length ≤ 1000000000, .pv (.int .i64 (ixV l n))) else none := rfl
theorem c_ixV : ConT Try.prog 157 GixV := by
 intro ys φ r h hφ
 unfold GixV at h
 split at h
 · rename_i ra f n
   split at h
   · rename_i hf
     subst hf
     obtain ⟨a, ha, h⟩ := Option.map_eq_some_iff.1 h
     cases h
     cases dec_rowsV_inv ha
     refine con_of (tab_cons c_of1 tab_nil) (by kernel_rfl) fn157 (by simp) ?_
     unfold body157
     simp (config := { maxSteps := 3000000 })
     refine vwp_loop (fun i : Nat => i ≤ a.length ∧ ∀ v ∈ a.take i, ¬ v.n = n) (fun i => ⟨[(0, .pv (.ro (rowsV a))), (1, .clo 158 [.rp [.int .u64 n]]), (7, .pv (.int .i64 a.length)), (8, .pv (.int .i64 i))], []⟩) (fun i => a.length - i) [] 0 (by simp) ?_ ?_
     · simp
     · rintro i ⟨hi, ht⟩
       have w2 : IntKind.i64.wrap ((i : Int) + 1) = (i : Int) + 1 := wrap_i64 (by omega)
       by_cases hlt : i < a.length
       · have r1 := rowsV_at hlt
         have hr : ¬ a[i].n = n → ∀ v ∈ a.take (i + 1), ¬ v.n = n := by
           intro h0 e he
           rw [List.take_succ_eq_append_getElem hlt, List.mem_append] at he
           rcases he with he | he
           · exact ht e he
           · rw [List.mem_singleton] at he; rw [he]; exact h0
         simp (config := { maxSteps := 3000000 }) [w2, hlt, r1, isfnof1]
         refine ⟨fun h => (ixV_at hlt h ht).symm, fun h => ⟨i + 1, ⟨by omega, hr h⟩, by omega, by omega⟩⟩
       · simp (config := { maxSteps := 3000000 }) [hlt]
         rw [List.take_of_length_le (by omega)] at ht
         exact (ixV_none ht).symm
   · cases h
 · cases h
noncomputable def Gof : List AV → Option (Prop × AV)
 | [.pv (.ro a), .pv (.int .u64 n)] => (dec rowV a).map fun l => (l.length ≤ 1000000000, .pv (.int .i64 (ixV l n)))
 | _ => none
@[simp] theorem Gof_eq (a : List (List PV)) (n : Int) : Gof [.pv (.ro a), .pv (.int .u64 n)] = (dec rowV a).map fun l => (l.length ≤ 1000000000, .pv (.int .i64 (ixV l n))) := rfl
theorem c_of : ConT Try.prog 112 Gof := by
 intro ys φ r h hφ
 unfold Gof at h
 split at h
 · rename_i ra n
   obtain ⟨a, ha, h⟩ := Option.map_eq_some_iff.1 h
   cases h
   cases dec_rowsV_inv ha
   refine con_of (tab_cons c_ixV tab_nil) (by kernel_rfl) fn112 (by simp) ?_
   unfold body112
   simp (config := { maxSteps := 3000000 }) [hφ]
 · cases h
def prevN (l : List Vn) (i : Nat) : Int := match i with
 | 0 => 0
 | i + 1 => ((l[i]?).getD v0).n
def okAt (l : List Vn) (i : Nat) : Bool := decide (prevN l i < ((l[i]?).getD v0).n) && (decide (baseV ((l[i]?).getD v0) = 0) || decide (0 ≤ ixV (l.take i) (baseV ((l[i]?).getD v0))))
def rightV (l : List Vn) : Bool := (List.range l.length).all (okAt l)
theorem rightV_iff (l : List Vn) : rightV l = true ↔ ∀ i, i < l.length → okAt l i = true := by
 unfold rightV
 rw [List.all_eq_true]
 exact ⟨fun h i hi => h i (List.mem_range.2 hi), fun h i hi => h i (List.mem_range.1 hi)⟩
theorem rightV_not {l : List Vn} {i : Nat} (hi : i < l.length) (h : okAt l i = false) : rightV l = false := by
 cases hr : rightV l with
 | false => rfl
 | true => rw [(rightV_iff l).1 hr i hi] at h; cases h
noncomputable def GRv : List AV → Option (Prop × AV)
 | [.pv (.ro a)] => (dec rowV a).map fun l => (l.length ≤ 1000000000, .pv (.bool (rightV l)))
 | _ => none
@[simp] theorem GRv_eq (a : List (List PV)) : GRv [.pv (.ro a)] = (dec rowV a).map fun l => (l.length ≤ 1000000000, .pv (.bool (rightV l))) := rfl
theorem c_Rv : ConT Try.prog 53 GRv := by
 intro ys φ r h hφ
 unfold GRv at h
 split at h
 · rename_i ra
   obtain ⟨a, ha, h⟩ := Option.map_eq_some_iff.1 h
   cases h
   cases dec_rowsV_inv ha
   refine con_of (tab_cons c_base (tab_cons c_of tab_nil)) (by kernel_rfl) fn53 (by simp) ?_
   unfold body53
   simp (config := { maxSteps := 3000000 })
   refine vwp_loop (fun i : Nat => i ≤ a.length ∧ ∀ j, j < i → okAt a j = true) (fun i => ⟨[(0, .pv (.ro (rowsV a))), (2, .pv (.bool false)), (3, .pv (.int .u64 (prevN a i))), (6, .pv (.ro (rowsV a))), (7, .pv (.int .i64 a.length)), (8, .pv (.int .i64 i))], []⟩) (fun i => a.length - i) [] 0 (by simp) ?_ ?_
   · simp [prevN]
   · rintro i ⟨hi, ht⟩
     have w2 : IntKind.i64.wrap ((i : Int) + 1) = (i : Int) + 1 := wrap_i64 (by omega)
     by_cases hlt : i < a.length
     · have r1 := rowsV_at hlt
       have hg : (a[i]?).getD v0 = a[i] := by rw [List.getElem?_eq_getElem hlt]; rfl
       have hpn : prevN a (i + 1) = a[i].n := by simp only [prevN]; rw [hg]
       have hok : okAt a i = (decide (prevN a i < a[i].n) && (decide (baseV a[i] = 0) || decide (0 ≤ ixV (a.take i) (baseV a[i])))) := by unfold okAt; rw [hg]
       have hnext : okAt a i = true → ∀ j, j < i + 1 → okAt a j = true := by
         intro h j hj
         by_cases hji : j = i
         · rw [hji]; exact h
         · exact ht j (by omega)
       have hbad : okAt a i = false → rightV a = false := rightV_not hlt
       have hcut := rowsV_cut a i
       have htl : (a.take i).length ≤ 1000000000 := by rw [List.length_take]; omega
       have hbv : (if a[i].inl = true then 0 else a[i].b) = baseV a[i] := rfl
       have hmin : min i a.length ≤ 1000000000 := by omega
       by_cases h1 : a[i].n ≤ prevN a i
       · have hb := hbad (by rw [hok, Bool.and_eq_false_iff]; left; simp; omega)
         simp (config := { maxSteps := 3000000 }) [w2, hlt, r1, h1, hb, hbv, hcut, hmin]
       · have h1' : prevN a i < a[i].n := by omega
         by_cases h2 : baseV a[i] = 0
         · simp (config := { maxSteps := 3000000 }) [w2, hlt, r1, h1, h2, hbv, hcut, hmin]
           exact ⟨i + 1, ⟨by omega, hnext (by rw [hok]; simp [h1', h2])⟩, ⟨hpn.symm, by omega⟩, by omega⟩
         · simp (config := { maxSteps := 3000000 }) [w2, hlt, r1, h1, h2, hbv, hcut, hmin]
           refine ⟨⟨hi, rowsV_ten a⟩, fun h => hbad (by rw [hok]; simp [h1', h2]; omega), fun h => ⟨i + 1, ⟨by omega, hnext (by rw [hok]; simp [h1', h2, h])⟩, ⟨hpn.symm, by omega⟩, by omega⟩⟩
     · have : i = a.length := by omega
       subst this
       have hr : rightV a = true := (rightV_iff a).2 ht
       simp (config := { maxSteps := 3000000 }) [hr]
 · cases h
def seenV (l : List Vn) : List Vn := l.filter fun v => !v.hid
theorem seenV_len (l : List Vn) : (seenV l).length ≤ l.length := List.length_filter_le _ _
theorem seenV_take {l : List Vn} {i : Nat} (h : i < l.length) : seenV (l.take (i + 1)) = if l[i].hid = true then seenV (l.take i) else seenV (l.take i) ++ [l[i]] := by
 rw [List.take_succ_eq_append_getElem h]
 unfold seenV
 rw [List.filter_append]
 cases hh : l[i].hid <;> simp [hh]
noncomputable def GSeen (e : TypeId) : List AV → Option (Prop × AV)
 | [.pv (.ro a)] => (dec rowV a).map fun l => (l.length ≤ 1000000, .fr e (rowsV (seenV l)))
 | _ => none
@[simp] theorem GSeen_eq (e : TypeId) (a : List (List PV)) : GSeen e [.pv (.ro a)] = (dec rowV a).map fun l => (l.length ≤ 1000000, .fr e (rowsV (seenV l))) := rfl
theorem c_Seen : ConT Try.prog 49 (GSeen 70) := by
 intro ys φ r h hφ
 unfold GSeen at h
 split at h
 · rename_i ra
   obtain ⟨a, ha, h⟩ := Option.map_eq_some_iff.1 h
   cases h
   cases dec_rowsV_inv ha
   refine con_of tab_nil (by kernel_rfl) fn49 (by simp) ?_
   unfold body49
   simp (config := { maxSteps := 3000000 })
   refine vwp_loop (fun i : Nat => i ≤ a.length) (fun i => ⟨[(0, .pv (.ro (rowsV a))), (2, .own 2), (5, .pv (.ro (rowsV a))), (6, .pv (.int .i64 a.length)), (7, .pv (.int .i64 i))], [(2, .arr 70 (rowsV (seenV (a.take i))))]⟩) (fun i => a.length - i) [] 0 (by simp) ?_ ?_
   · simp [seenV]
   · intro i hi
     have w2 : IntKind.i64.wrap ((i : Int) + 1) = (i : Int) + 1 := wrap_i64 (by omega)
     by_cases hlt : i < a.length
     · have r1 := rowsV_at hlt
       have hs := seenV_take hlt
       have hl := seenV_len (a.take i)
       have hl1 : (a.take i).length ≤ 1000000 := by rw [List.length_take]; omega
       cases hh : a[i].hid with
       | true =>
         rw [hh, if_pos rfl] at hs
         simp (config := { maxSteps := 3000000 }) [w2, hlt, r1, hh]
         exact ⟨i + 1, by omega, ⟨by omega, by rw [hs]⟩, by omega⟩
       | false =>
         rw [hh, if_neg (by simp)] at hs
         simp (config := { maxSteps := 3000000 }) [w2, hlt, r1, hh, maxLen_eq]
         refine ⟨⟨by omega, by omega⟩, i + 1, by omega, ⟨by omega, ?_⟩, by omega⟩
         rw [hs, rowsV_append]
         simp [rowsV, rowV, hh]
     · simp (config := { maxSteps := 3000000 }) [hlt]
       rw [List.take_of_length_le (by omega)]
 · cases h
def getV (l : List Vn) (n : Int) : Option Vn := (seenV l).find? fun v => decide (v.n = n)
theorem getV_at {l : List Vn} {n : Int} {i : Nat} (h : i < (seenV l).length) (hq : (seenV l)[i].n = n) (ht : ∀ v ∈ (seenV l).take i, ¬ v.n = n) : getV l n = some (seenV l)[i] := by
 unfold getV
 rw [List.find?_eq_some_iff_getElem]
 refine ⟨by simpa using hq, i, h, rfl, fun j hj => ?_⟩
 have : (seenV l)[j] ∈ (seenV l).take i := by
   rw [List.mem_take_iff_getElem]
   exact ⟨j, by omega, rfl⟩
 simpa using ht _ this
theorem getV_none {l : List Vn} {n : Int} (ht : ∀ v ∈ seenV l, ¬ v.n = n) : getV l n = none := by
 unfold getV
 rw [List.find?_eq_none]
 intro v hv
 simpa using ht v hv
noncomputable def GGv : List AV → Option (Prop × AV)
 | [.pv (.ro a), .pv (.int .u64 n)] => (dec rowV a).map fun l => (l.length ≤ 1000000, .tup [.agg (cellsV ((getV l n).getD v0)), .pv (.bool (getV l n).isSome)])
 | _ => none
@[simp] theorem GGv_eq (a : List (List PV)) (n : Int) : GGv [.pv (.ro a), .pv (.int .u64 n)] = (dec rowV a).map fun l => (l.length ≤ 1000000, .tup [.agg (cellsV ((getV l n).getD v0)), .pv (.bool (getV l n).isSome)]) := rfl
theorem c_Gv : ConT Try.prog 43 GGv := by
 intro ys φ r h hφ
 unfold GGv at h
 split at h
 · rename_i ra n
   obtain ⟨a, ha, h⟩ := Option.map_eq_some_iff.1 h
   cases h
   cases dec_rowsV_inv ha
   have hs9 : (seenV a).length ≤ 1000000000 := by have := seenV_len a; omega
   have fl : ∀ l, flatRows (rowsV l) := flat_rowsV
   refine con_of (tab_cons c_Seen (tab_cons c_of tab_nil)) (by kernel_rfl) fn43 (by simp) ?_
   unfold body43
   rcases ixV_cases (seenV a) n with ⟨i, hi, h1, h2, h3⟩ | ⟨h1, h2⟩
   · have r1 := rowsV_at hi
     have hg := getV_at hi h2 h3
     simp (config := { maxSteps := 3000000 }) [hφ, hs9, fl, h1, r1, hi, hg, cellsV]
   · have hg := getV_none h2
     simp (config := { maxSteps := 3000000 }) [hφ, hs9, fl, h1, hg, cellsV, v0]
 · cases h
def curV (l : List Vn) : Option Vn := (seenV l).getLast?
noncomputable def GCv : List AV → Option (Prop × AV)
 | [.pv (.ro a)] => (dec rowV a).map fun l => (l.length ≤ 1000000, .tup [.agg (cellsV ((curV l).getD v0)), .pv (.bool (curV l).isSome)])
 | _ => none
@[simp] theorem GCv_eq (a : List (List PV)) : GCv [.pv (.ro a)] = (dec rowV a).map fun l => (l.length ≤ 1000000, .tup [.agg (cellsV ((curV l).getD v0)), .pv (.bool (curV l).isSome)]) := rfl
theorem c_Cv : ConT Try.prog 45 GCv := by
 intro ys φ r h hφ
 unfold GCv at h
 split at h
 · rename_i ra
   obtain ⟨a, ha, h⟩ := Option.map_eq_some_iff.1 h
   cases h
   cases dec_rowsV_inv ha
   have hsl := seenV_len a
   have fl : ∀ l, flatRows (rowsV l) := flat_rowsV
   refine con_of (tab_cons c_Seen tab_nil) (by kernel_rfl) fn45 (by simp) ?_
   unfold body45
   by_cases hn : seenV a = []
   · have hc : curV a = none := by unfold curV; rw [hn]; rfl
     simp (config := { maxSteps := 3000000 }) [hφ, fl, hn, hc, cellsV, v0]
   · have hl : 0 < (seenV a).length := List.length_pos_iff.2 hn
     have hlt : (seenV a).length - 1 < (seenV a).length := by omega
     have r1 := rowsV_at hlt
     have hcast : (((seenV a).length - 1 : Nat) : Int) = ((seenV a).length : Int) - 1 := by omega
     rw [hcast] at r1
     have hc : curV a = some (seenV a)[(seenV a).length - 1] := by
       unfold curV; rw [List.getLast?_eq_getElem?, List.getElem?_eq_getElem hlt]
     have w1 : IntKind.i64.wrap (((seenV a).length : Int) - 1) = ((seenV a).length : Int) - 1 := wrap_i64 (by omega)
     have hne : ¬ ((seenV a).length : Int) = 0 := by omega
     have b1 : (0 : Int) ≤ ((seenV a).length : Int) - 1 := by omega
     have b2 : ((seenV a).length : Int) - 1 < (seenV a).length := by omega
     simp (config := { maxSteps := 3000000 }) [hφ, fl, hn, hc, w1, hne, b1, b2, r1, cellsV]
     omega
 · cases h
end Go.Proofs.Ytfpmjcdcpicmaaa.Ab
namespace Go.Proofs.Ytfpmjcdcpicmaaa.Ab
open Go Go.RowKit R
set_option linter.unusedVariables false
set_option linter.unusedSimpArgs false
set_option maxHeartbeats 40000000
set_option maxRecDepth 100000
theorem c_made : ConT Try.prog 116 Gbase := by
 intro ys φ r h hφ
 unfold Gbase at h
 split at h
 · rename_i n b p i s z m t inl hid
   cases h
   refine con_of tab_nil (by kernel_rfl) fn116 (by simp) ?_
   unfold body116
   cases inl <;> simp (config := { maxSteps := 3000000 })
 · cases h
noncomputable def Gfind : List AV → Option (Prop × AV)
 | [.pv (.ro a), .pv (.int .i64 k), .pv (.int .u64 n)] => (dec rowV a).map fun l => (l.length ≤ 1000000000 ∧ 0 ≤ k ∧ k ≤ l.length, .pv (.int .i64 (ixV (l.take k.toNat) n)))
 | _ => none
@[simp] theorem Gfind_eq (a : List (List PV)) (k n : Int) : Gfind [.pv (.ro a), .pv (.int .i64 k), .pv (.int .u64 n)] = (dec rowV a).map fun l => (l.length ≤ 1000000000 ∧ 0 ≤ k ∧ k ≤ l.length, .pv (.int .i64 (ixV (l.take k.toNat) n))) := rfl
theorem c_find : ConT Try.prog 117 Gfind := by
 intro ys φ r h hφ
 unfold Gfind at h
 split at h
 · rename_i ra k n
   obtain ⟨a, ha, h⟩ := Option.map_eq_some_iff.1 h
   cases h
   cases dec_rowsV_inv ha
   obtain ⟨hl, h0, hk⟩ := hφ
   obtain ⟨k, rfl⟩ : ∃ q : Nat, k = (q : Int) := ⟨k.toNat, by omega⟩
   simp only [Int.toNat_natCast]
   have hk' : k ≤ a.length := by omega
   refine con_of tab_nil (by kernel_rfl) fn117 (by simp) ?_
   unfold body117
   simp (config := { maxSteps := 3000000 })
   refine vwp_loop (fun i : Nat => i ≤ k ∧ ∀ v ∈ a.take i, ¬ v.n = n) (fun i => ⟨[(0, .pv (.ro (rowsV a))), (1, .pv (.int .i64 k)), (2, .pv (.int .u64 n)), (7, .pv (.int .i64 i))], []⟩) (fun i => k - i) [] 0 (by simp) ?_ ?_
   · simp
   · rintro i ⟨hi, ht⟩
     have w2 : IntKind.i64.wrap ((i : Int) + 1) = (i : Int) + 1 := wrap_i64 (by omega)
     by_cases hik : (i : Int) < k
     · have hlt : i < a.length := by omega
       have r1 := rowsV_at hlt
       by_cases hn : a[i].n = n
       · have hx : ixV (a.take k) n = i := by
           refine ixV_at (by rw [List.length_take]; omega) (by rw [List.getElem_take]; exact hn) ?_
           rw [List.take_take, Nat.min_eq_left (by omega)]; exact ht
         simp (config := { maxSteps := 3000000 }) [w2, hik, hlt, r1, hn, hx]
       · simp (config := { maxSteps := 3000000 }) [w2, hik, hlt, r1, hn]
         refine ⟨i + 1, ⟨by omega, fun v hv => ?_⟩, by omega, by omega⟩
         rw [List.take_succ_eq_append_getElem hlt, List.mem_append] at hv
         rcases hv with hv | hv
         · exact ht v hv
         · rw [List.mem_singleton] at hv; rw [hv]; exact hn
     · have : i = k := by omega
       subst this
       have hx : ixV (a.take i) n = -1 := ixV_none ht
       simp (config := { maxSteps := 3000000 }) [hx]
 · cases h
def okV (v : Vn) : Prop := 0 ≤ v.n ∧ v.n ≤ 18446744073709551615 ∧ 0 ≤ v.b ∧ v.b ≤ 18446744073709551615
theorem baseV_pos {v : Vn} (h : okV v) : 0 ≤ baseV v := by
 unfold baseV; split
 · omega
 · exact h.2.2.1
noncomputable def GrRv : List AV → Option (Prop × AV)
 | [.pv (.ro a)] => (dec rowV a).map fun l => (l.length ≤ 1000000000 ∧ ∀ v ∈ l, okV v, .pv (.bool (rightV l)))
 | _ => none
@[simp] theorem GrRv_eq (a : List (List PV)) : GrRv [.pv (.ro a)] = (dec rowV a).map fun l => (l.length ≤ 1000000000 ∧ ∀ v ∈ l, okV v, .pv (.bool (rightV l))) := rfl
theorem c_rRv : ConT Try.prog 54 GrRv := by
 intro ys φ r h hφ
 unfold GrRv at h
 split at h
 · rename_i ra
   obtain ⟨a, ha, h⟩ := Option.map_eq_some_iff.1 h
   cases h
   cases dec_rowsV_inv ha
   obtain ⟨hl9, hov⟩ := hφ
   refine con_of (tab_cons c_made (tab_cons c_find tab_nil)) (by kernel_rfl) fn54 (by simp) ?_
   unfold body54
   simp (config := { maxSteps := 3000000 })
   refine vwp_loop (fun i : Nat => i ≤ a.length ∧ ∀ j, j < i → okAt a j = true) (fun i => ⟨[(0, .pv (.ro (rowsV a))), (2, .pv (.bool false)), (3, .pv (.int .i64 i))], []⟩) (fun i => a.length - i) [] 0 (by simp) ?_ ?_
   · simp
   · rintro i ⟨hi, ht⟩
     have w2 : IntKind.i64.wrap ((i : Int) + 1) = (i : Int) + 1 := wrap_i64 (by omega)
     by_cases hlt : i < a.length
     · have r1 := rowsV_at hlt
       have hg : (a[i]?).getD v0 = a[i] := by rw [List.getElem?_eq_getElem hlt]; rfl
       have ho := hov a[i] (List.getElem_mem hlt)
       have hb0 := baseV_pos ho
       have hok : okAt a i = (decide (prevN a i < a[i].n) && (decide (baseV a[i] = 0) || decide (0 ≤ ixV (a.take i) (baseV a[i])))) := by unfold okAt; rw [hg]
       have hnext : okAt a i = true → ∀ j, j < i + 1 → okAt a j = true := by
         intro h j hj
         by_cases hji : j = i
         · rw [hji]; exact h
         · exact ht j (by omega)
       have hbad : okAt a i = false → rightV a = false := rightV_not hlt
       have hbv : (if a[i].inl = true then 0 else a[i].b) = baseV a[i] := rfl
       have hn0 := ho.1
       have him : i - 1 < a.length := by omega
       have rm : rowAt (rowsV a) ((i : Int) - 1) = [.int .u64 a[i - 1].n, .int .u64 a[i - 1].b, .int .u64 a[i - 1].p, .int .u64 a[i - 1].i, .int .u64 a[i - 1].s, .int .u64 a[i - 1].z, .int .u64 a[i - 1].m, .str a[i - 1].t, .bool a[i - 1].inl, .bool a[i - 1].hid] := by
         rw [← rowsV_at him]
         unfold rowAt
         congr 1
         omega
       have w1 : IntKind.i64.wrap ((i : Int) - 1) = (i : Int) - 1 := wrap_i64 (by omega)
       have hop := (hov a[i - 1] (List.getElem_mem him)).1
       have hpi : 0 < i → prevN a i = a[i - 1].n := by
         intro h0
         obtain ⟨q, rfl⟩ : ∃ q, i = q + 1 := ⟨i - 1, by omega⟩
         have hq : q < a.length := by omega
         simp only [prevN, Nat.add_sub_cancel]
         rw [List.getElem?_eq_getElem hq]; rfl
       have hp0 : ¬ 0 < i → prevN a i = 0 := by
         intro h0
         have : i = 0 := by omega
         subst this; rfl
       have hmin : min i a.length = i := by omega
       by_cases h1 : a[i].n = 0
       · have hb := hbad (by
           rw [hok, Bool.and_eq_false_iff]; left
           simp only [decide_eq_false_iff_not]
           by_cases h0 : 0 < i
           · rw [hpi h0]; omega
           · rw [hp0 h0]; omega)
         simp (config := { maxSteps := 3000000 }) [w1, w2, hlt, r1, rm, h1, hb, hbv]
       · by_cases h0 : 0 < i
         · have hpi' := hpi h0
           have hb1 : 1 ≤ (i : Int) := by omega
           have hb2 : (i : Int) - 1 < a.length := by omega
           have hne : ¬ i = 0 := by omega
           by_cases h3 : a[i].n ≤ a[i - 1].n
           · have h3' : ¬ a[i - 1].n < a[i].n := by omega
             have hb := hbad (by rw [hok, Bool.and_eq_false_iff]; left; simp; omega)
             simp (config := { maxSteps := 3000000 }) [w1, w2, hlt, r1, rm, h1, h0, hb1, hb2, hne, h3, h3', hb, hbv]
           · have hlp : prevN a i < a[i].n := by omega
             have h3' : a[i - 1].n < a[i].n := by omega
             by_cases h2 : baseV a[i] = 0
             · simp (config := { maxSteps := 3000000 }) [w1, w2, hlt, r1, rm, h1, h0, hb1, hb2, hne, h3, h3', h2, hbv]
               exact ⟨i + 1, ⟨by omega, hnext (by rw [hok]; simp [hlp, h2])⟩, by omega, by omega⟩
             · have h2' : 0 < baseV a[i] := by omega
               simp (config := { maxSteps := 3000000 }) [w1, w2, hlt, r1, rm, h1, h0, hb1, hb2, hne, h3, h3', h2, h2', hbv]
               exact ⟨⟨hl9, hi⟩, fun h => hbad (by rw [hok]; simp [hlp, h2]; omega), fun h => ⟨i + 1, ⟨by omega, hnext (by rw [hok]; simp [hlp, h])⟩, by omega, by omega⟩⟩
         · have hlp : prevN a i < a[i].n := by rw [hp0 h0]; omega
           have hz : (i = 0) = True := by simp; omega
           have h0f : (0 < i) = False := by simp; omega
           by_cases h2 : baseV a[i] = 0
           · simp (config := { maxSteps := 3000000 }) [w1, w2, hlt, r1, rm, h1, h0f, hz, h2, hbv]
             exact ⟨i + 1, ⟨by omega, hnext (by rw [hok]; simp [hlp, h2])⟩, by omega, by omega⟩
           · have h2' : 0 < baseV a[i] := by omega
             simp (config := { maxSteps := 3000000 }) [w1, w2, hlt, r1, rm, h1, h0f, hz, h2, h2', hbv]
             exact ⟨⟨hl9, hi⟩, fun h => hbad (by rw [hok]; simp [hlp, h2]; omega), fun h => ⟨i + 1, ⟨by omega, hnext (by rw [hok]; simp [hlp, h])⟩, by omega, by omega⟩⟩
     · have : i = a.length := by omega
       subst this
       have hr : rightV a = true := (rightV_iff a).2 ht
       simp (config := { maxSteps := 3000000 }) [hr]
 · cases h
theorem c_rSeen : ConT Try.prog 52 (GSeen 75) := by
 intro ys φ r h hφ
 unfold GSeen at h
 split at h
 · rename_i ra
   obtain ⟨a, ha, h⟩ := Option.map_eq_some_iff.1 h
   cases h
   cases dec_rowsV_inv ha
   refine con_of tab_nil (by kernel_rfl) fn52 (by simp) ?_
   unfold body52
   simp (config := { maxSteps := 3000000 })
   refine vwp_loop (fun i : Nat => i ≤ a.length) (fun i => ⟨[(0, .pv (.ro (rowsV a))), (3, .own 3), (4, .pv (.int .i64 i))], [(3, .arr 75 (rowsV (seenV (a.take i))))]⟩) (fun i => a.length - i) [] 0 (by simp) ?_ ?_
   · simp [seenV]
   · intro i hi
     have w2 : IntKind.i64.wrap ((i : Int) + 1) = (i : Int) + 1 := wrap_i64 (by omega)
     by_cases hlt : i < a.length
     · have r1 := rowsV_at hlt
       have hs := seenV_take hlt
       have hl := seenV_len (a.take i)
       have hl1 : (a.take i).length ≤ 1000000 := by rw [List.length_take]; omega
       cases hh : a[i].hid with
       | true =>
         rw [hh, if_pos rfl] at hs
         simp (config := { maxSteps := 3000000 }) [w2, hlt, r1, hh]
         exact ⟨i + 1, by omega, ⟨by omega, by rw [hs]⟩, by omega⟩
       | false =>
         rw [hh, if_neg (by simp)] at hs
         simp (config := { maxSteps := 3000000 }) [w2, hlt, r1, hh, maxLen_eq]
         refine ⟨⟨by omega, by omega⟩, i + 1, by omega, ⟨by omega, ?_⟩, by omega⟩
         rw [hs, rowsV_append]
         simp [rowsV, rowV, hh]
     · simp (config := { maxSteps := 3000000 }) [hlt]
       rw [List.take_of_length_le (by omega)]
 · cases h
theorem getV_first {l : List Vn} {n : Int} {i : Nat} (h : i < l.length) (hq : l[i].n = n) (hh : l[i].hid = false) (ht : ∀ v ∈ l.take i, v.hid = true ∨ ¬ v.n = n) : getV l n = some l[i] := by
 unfold getV seenV
 rw [List.find?_filter, List.find?_eq_some_iff_getElem]
 refine ⟨by simp [hh, hq], i, h, rfl, fun j hj => ?_⟩
 have : l[j] ∈ l.take i := by
   rw [List.mem_take_iff_getElem]
   exact ⟨j, by omega, rfl⟩
 rcases ht _ this with h1 | h1 <;> simp [h1]
theorem getV_nowhere {l : List Vn} {n : Int} (ht : ∀ v ∈ l, v.hid = true ∨ ¬ v.n = n) : getV l n = none := by
 refine getV_none fun v hv hn => ?_
 obtain ⟨h1, h2⟩ := List.mem_filter.1 hv
 rcases ht v h1 with h | h
 · simp [h] at h2
 · exact h hn
theorem c_rGv : ConT Try.prog 44 GGv := by
 intro ys φ r h hφ
 unfold GGv at h
 split at h
 · rename_i ra n
   obtain ⟨a, ha, h⟩ := Option.map_eq_some_iff.1 h
   cases h
   cases dec_rowsV_inv ha
   refine con_of tab_nil (by kernel_rfl) fn44 (by simp) ?_
   unfold body44
   simp (config := { maxSteps := 3000000 })
   refine vwp_loop (fun i : Nat => i ≤ a.length ∧ ∀ v ∈ a.take i, v.hid = true ∨ ¬ v.n = n) (fun i => ⟨[(0, .pv (.ro (rowsV a))), (1, .pv (.int .u64 n)), (4, .ptr 4 0), (5, .pv (.bool false)), (6, .pv (.int .i64 i))], [(4, .box [.pv (.int .u64 0), .pv (.int .u64 0), .pv (.int .u64 0), .pv (.int .u64 0), .pv (.int .u64 0), .pv (.int .u64 0), .pv (.int .u64 0), .pv (.str []), .pv (.bool false), .pv (.bool false)])]⟩) (fun i => a.length - i) [] 0 (by simp) ?_ ?_
   · simp
   · rintro i ⟨hi, ht⟩
     have w2 : IntKind.i64.wrap ((i : Int) + 1) = (i : Int) + 1 := wrap_i64 (by omega)
     by_cases hlt : i < a.length
     · have r1 := rowsV_at hlt
       have hnext : (a[i].hid = true ∨ ¬ a[i].n = n) → ∀ v ∈ a.take (i + 1), v.hid = true ∨ ¬ v.n = n := by
         intro h v hv
         rw [List.take_succ_eq_append_getElem hlt, List.mem_append] at hv
         rcases hv with hv | hv
         · exact ht v hv
         · rw [List.mem_singleton] at hv; rw [hv]; exact h
       by_cases hn : a[i].n = n
       · cases hh : a[i].hid with
         | true =>
           simp (config := { maxSteps := 3000000 }) [w2, hlt, r1, hn, hh]
           exact ⟨i + 1, ⟨by omega, hnext (.inl hh)⟩, by omega, by omega⟩
         | false =>
           have hg := getV_first hlt hn hh ht
           simp (config := { maxSteps := 3000000 }) [w2, hlt, r1, hn, hh, hg, cellsV]
       · simp (config := { maxSteps := 3000000 }) [w2, hlt, r1, hn]
         exact ⟨i + 1, ⟨by omega, hnext (.inr hn)⟩, by omega, by omega⟩
     · rw [List.take_of_length_le (by omega)] at ht
       have hg := getV_nowhere ht
       simp (config := { maxSteps := 3000000 }) [hlt, hg, cellsV, v0]
 · cases h
theorem curV_last {l : List Vn} {k : Nat} (h : k < l.length) (hh : l[k].hid = false) (ht : ∀ v ∈ l.drop (k + 1), v.hid = true) : curV l = some l[k] := by
 unfold curV seenV
 have hl : l = l.take k ++ l[k] :: l.drop (k + 1) := by rw [← List.drop_eq_getElem_cons h, List.take_append_drop]
 have hd : (l.drop (k + 1)).filter (fun v => !v.hid) = [] := by
   rw [List.filter_eq_nil_iff]
   intro v hv
   simp [ht v hv]
 conv => lhs; rw [hl]
 rw [List.filter_append, List.filter_cons, if_pos (by simp [hh]), hd, List.getLast?_append]
 rfl
theorem curV_nowhere {l : List Vn} (ht : ∀ v ∈ l, v.hid = true) : curV l = none := by
 unfold curV seenV
 have hd : l.filter (fun v => !v.hid) = [] := by
   rw [List.filter_eq_nil_iff]
   intro v hv
   simp [ht v hv]
 rw [hd]; rfl
theorem c_rCv : ConT Try.prog 46 GCv := by
 intro ys φ r h hφ
 unfold GCv at h
 split at h
 · rename_i ra
   obtain ⟨a, ha, h⟩ := Option.map_eq_some_iff.1 h
   cases h
   cases dec_rowsV_inv ha
   refine con_of tab_nil (by kernel_rfl) fn46 (by simp) ?_
   unfold body46
   have w0 : IntKind.i64.wrap ((a.length : Int) - 1) = (a.length : Int) - 1 := wrap_i64 (by omega)
   simp (config := { maxSteps := 3000000 }) [w0]
   refine vwp_loop (fun k : Nat => k ≤ a.length ∧ ∀ v ∈ a.drop k, v.hid = true) (fun k => ⟨[(0, .pv (.ro (rowsV a))), (2, .ptr 2 0), (3, .pv (.bool false)), (4, .pv (.int .i64 ((k : Int) - 1)))], [(2, .box [.pv (.int .u64 0), .pv (.int .u64 0), .pv (.int .u64 0), .pv (.int .u64 0), .pv (.int .u64 0), .pv (.int .u64 0), .pv (.int .u64 0), .pv (.str []), .pv (.bool false), .pv (.bool false)])]⟩) (fun k => k) [] a.length (by simp) ?_ ?_
   · simp
   · rintro k ⟨hk, ht⟩
     by_cases h0 : 0 < k
     · obtain ⟨q, rfl⟩ : ∃ q, k = q + 1 := ⟨k - 1, by omega⟩
       have hlt : q < a.length := by omega
       have hc : (((q + 1 : Nat) : Int) - 1) = (q : Int) := by omega
       have r1 := rowsV_at hlt
       have w2 : IntKind.i64.wrap ((q : Int) - 1) = (q : Int) - 1 := wrap_i64 (by omega)
       rw [hc]
       cases hh : a[q].hid with
       | true =>
         simp (config := { maxSteps := 3000000 }) [w2, hlt, r1, hh]
         refine ⟨q, ⟨by omega, fun v hv => ?_⟩, rfl, by omega⟩
         rw [List.drop_eq_getElem_cons hlt] at hv
         rcases List.mem_cons.1 hv with rfl | hv
         · exact hh
         · exact ht v hv
       | false =>
         have hg := curV_last hlt hh ht
         simp (config := { maxSteps := 3000000 }) [w2, hlt, r1, hh, hg, cellsV]
     · have : k = 0 := by omega
       subst this
       have hg := curV_nowhere (l := a) (by simpa using ht)
       simp (config := { maxSteps := 3000000 }) [hg, cellsV, v0]
 · cases h
end Go.Proofs.Ytfpmjcdcpicmaaa.Ab
namespace Go.Proofs.Ytfpmjcdcpicmaaa.Ab
open Go Go.RowKit R
set_option linter.unusedVariables false
set_option linter.unusedSimpArgs false
set_option maxHeartbeats 40000000
set_option maxRecDepth 100000
def Gone : List AV → Option (Prop × AV)
 | [.agg [.pv (.int .u64 n), .pv (.int .u64 b), .pv (.int .u64 p), .pv (.int .u64 i), .pv (.int .u64 s), .pv (.int .u64 z), .pv (.int .u64 m), .pv (.str t), .pv (.bool inl), .pv (.bool hid)]] => some (True, .agg [.pv (.int .u64 n), .pv (.int .u64 b), .pv (.int .u64 p), .pv (.int .u64 i), .pv (.int .u64 s), .pv (.int .u64 z), .pv (.int .u64 m), .pv (.str t), .pv (.bool inl), .pv (.bool hid)])
 | _ => none
@[simp] theorem Gone_eq (n b p i s z m : Int) (t : List UInt8) (inl hid : Bool) : Gone [.agg [.pv (.int .u64 n), .pv (.int .u64 b), .pv (.int .u64 p), .pv (.int .u64 i), .pv (.int .u64 s), .pv (.int .u64 z), .pv (.int .u64 m), .pv (.str t), .pv (.bool inl), .pv (.bool hid)]] = some (True, .agg [.pv (.int .u64 n), .pv (.int .u64 b), .pv (.int .u64 p), .pv (.int .u64 i), .pv (.int .u64 s), .pv (.int .u64 z), .pv (.int .u64 m), .pv (.str t), .pv (.bool inl), .pv (.bool hid)]) := rfl
theorem c_one : ConT Try.prog 50 Gone := by
 intro ys φ r h hφ
 unfold Gone at h
 split at h
 · cases h
   refine con_of tab_nil (by kernel_rfl) fn50 (by simp) ?_
   unfold body50
   simp (config := { maxSteps := 3000000 })
 · cases h
noncomputable def GRefV : List AV → Option (Prop × AV)
 | [.pv (.ro a)] => (dec rowV a).map fun l => (l.length ≤ 1000000, .fr 75 (rowsV l))
 | _ => none
@[simp] theorem GRefV_eq (a : List (List PV)) : GRefV [.pv (.ro a)] = (dec rowV a).map fun l => (l.length ≤ 1000000, .fr 75 (rowsV l)) := rfl
theorem c_RefV : ConT Try.prog 42 GRefV := by
 intro ys φ r h hφ
 unfold GRefV at h
 split at h
 · rename_i ra
   obtain ⟨a, ha, h⟩ := Option.map_eq_some_iff.1 h
   cases h
   cases dec_rowsV_inv ha
   refine con_of (tab_cons c_one tab_nil) (by kernel_rfl) fn42 (by simp) ?_
   unfold body42
   simp (config := { maxSteps := 3000000 })
   refine vwp_loop (fun i : Nat => i ≤ a.length) (fun i => ⟨[(0, .pv (.ro (rowsV a))), (3, .own 3), (4, .pv (.int .i64 i))], [(3, .arr 75 (rowsV (a.take i)))]⟩) (fun i => a.length - i) [] 0 (by simp) ?_ ?_
   · simp
   · intro i hi
     have w2 : IntKind.i64.wrap ((i : Int) + 1) = (i : Int) + 1 := wrap_i64 (by omega)
     by_cases hlt : i < a.length
     · have r1 := rowsV_at hlt
       simp (config := { maxSteps := 3000000 }) [w2, hlt, r1, maxLen_eq]
       refine ⟨⟨by omega, by omega⟩, i + 1, by omega, ⟨by omega, ?_⟩, by omega⟩
       rw [List.take_succ_eq_append_getElem hlt, rowsV_append]
       simp [rowsV, rowV]
     · simp (config := { maxSteps := 3000000 }) [hlt]
       rw [List.take_of_length_le (by omega)]
 · cases h
theorem vn_eq {x y : Vn} : (x.n = y.n ∧ x.b = y.b ∧ x.p = y.p ∧ x.i = y.i ∧ x.s = y.s ∧ x.z = y.z ∧ x.m = y.m ∧ x.t = y.t ∧ x.inl = y.inl ∧ x.hid = y.hid) ↔ x = y := by
 cases x; cases y; simp
theorem eq_cells (x y : Vn) : eqPs [.int .u64 x.n, .int .u64 x.b, .int .u64 x.p, .int .u64 x.i, .int .u64 x.s, .int .u64 x.z, .int .u64 x.m, .str x.t, .bool x.inl, .bool x.hid] [.int .u64 y.n, .int .u64 y.b, .int .u64 y.p, .int .u64 y.i, .int .u64 y.s, .int .u64 y.z, .int .u64 y.m, .str y.t, .bool y.inl, .bool y.hid] = decide (x = y) := by
 rw [Bool.eq_iff_iff]
 simp only [eqPs, eqP, Bool.and_eq_true, decide_eq_true_eq, Bool.and_true]
 rw [← vn_eq]
noncomputable def GSmV : List AV → Option (Prop × AV)
 | [.pv (.ro a), .pv (.ro b)] => (dec rowV a).bind fun la => (dec rowV b).map fun lb => (la.length ≤ 1000000, .pv (.bool (decide (la = lb))))
 | _ => none
@[simp] theorem GSmV_eq (a b : List (List PV)) : GSmV [.pv (.ro a), .pv (.ro b)] = (dec rowV a).bind fun la => (dec rowV b).map fun lb => (la.length ≤ 1000000, .pv (.bool (decide (la = lb)))) := rfl
theorem c_SmV : ConT Try.prog 51 GSmV := by
 intro ys φ r h hφ
 unfold GSmV at h
 split at h
 · rename_i ra rb
   obtain ⟨a, ha, h⟩ := Option.bind_eq_some_iff.1 h
   obtain ⟨b, hb, h⟩ := Option.map_eq_some_iff.1 h
   cases h
   cases dec_rowsV_inv ha
   cases dec_rowsV_inv hb
   have fl : ∀ l, flatRows (rowsV l) := flat_rowsV
   refine con_of (tab_cons c_RefV tab_nil) (by kernel_rfl) fn51 (by simp) ?_
   unfold body51
   by_cases hl : a.length = b.length
   · simp (config := { maxSteps := 3000000 }) [hl, hφ, fl, show b.length ≤ 1000000 from by omega]
     refine vwp_loop (fun i : Nat => i ≤ a.length ∧ a.take i = b.take i) (fun i => ⟨[(1, .pv (.ro (rowsV b))), (4, .pv (.bool false)), (5, .own 8), (6, .pv (.int .i64 i))], [(8, .arr 75 (rowsV a))]⟩) (fun i => a.length - i) [] 0 (by simp) ?_ ?_
     · simp
     · rintro i ⟨hi, ht⟩
       have w2 : IntKind.i64.wrap ((i : Int) + 1) = (i : Int) + 1 := wrap_i64 (by omega)
       by_cases hlt : i < a.length
       · have hltb : i < b.length := by omega
         have r1 := rowsV_at hlt
         have r2 := rowsV_at hltb
         have he := eq_cells a[i] b[i]
         simp (config := { maxSteps := 3000000 }) [w2, hlt, hltb, r1, r2, he]
         refine ⟨fun hn he => hn (by subst he; rfl), fun he => ⟨i + 1, ⟨by omega, ?_⟩, by omega, by omega⟩⟩
         rw [List.take_succ_eq_append_getElem hlt, List.take_succ_eq_append_getElem hltb, ht, he]
       · have hltb : ¬ i < b.length := by omega
         have hab : a = b := by
           rw [List.take_of_length_le (by omega), List.take_of_length_le (by omega)] at ht; exact ht
         subst hab
         simp (config := { maxSteps := 3000000 }) [hlt]
   · have hne : ¬ (a = b) := by intro h; subst h; exact hl rfl
     have hli : ¬ ((a.length : Int) = b.length) := by omega
     simp (config := { maxSteps := 3000000 }) [hli, hne, hφ, fl]
 · cases h
def fewV (l : List Vn) : Bool := decide (l.length ≤ 12) && l.all fun v => decide (v.t.length ≤ 100)
noncomputable def GFewV : List AV → Option (Prop × AV)
 | [.pv (.ro a)] => (dec rowV a).map fun l => (True, .pv (.bool (fewV l)))
 | _ => none
@[simp] theorem GFewV_eq (a : List (List PV)) : GFewV [.pv (.ro a)] = (dec rowV a).map fun l => (True, .pv (.bool (fewV l))) := rfl
theorem c_FewV : ConT Try.prog 40 GFewV := by
 intro ys φ r h hφ
 unfold GFewV at h
 split at h
 · rename_i ra
   obtain ⟨a, ha, h⟩ := Option.map_eq_some_iff.1 h
   cases h
   cases dec_rowsV_inv ha
   refine con_of tab_nil (by kernel_rfl) fn40 (by simp) ?_
   unfold body40
   simp (config := { maxSteps := 3000000 })
   refine vwp_loop (fun i : Nat => i ≤ a.length ∧ i ≤ 13 ∧ ∀ e ∈ a.take i, e.t.length ≤ 100) (fun i => ⟨[(0, .pv (.ro (rowsV a))), (2, .pv (.bool false)), (3, .pv (.int .i64 i))], []⟩) (fun i => a.length - i) [] 0 (by simp) ?_ ?_
   · simp
   · rintro i ⟨hi, hi21, ht⟩
     have w2 : IntKind.i64.wrap ((i : Int) + 1) = (i : Int) + 1 := wrap_i64 (by omega)
     by_cases hlt : i < a.length
     · have r1 := rowsV_at hlt
       by_cases h21 : (i : Int) < 13
       · by_cases hn : (100 : Int) < (a[i].t.length : Int)
         · have hf : fewV a = false := by
             unfold fewV
             rw [Bool.and_eq_false_iff]
             right
             rw [List.all_eq_false]
             exact ⟨a[i], List.getElem_mem hlt, by simp; omega⟩
           simp (config := { maxSteps := 3000000 }) [hlt, h21, r1, hn, hf]
         · simp (config := { maxSteps := 3000000 }) [hlt, h21, r1, hn, w2]
           refine ⟨i + 1, ⟨by omega, by omega, fun e he => ?_⟩, by omega, by omega⟩
           rw [List.take_succ_eq_append_getElem hlt, List.mem_append, List.mem_singleton] at he
           rcases he with he | rfl
           · exact ht e he
           · omega
       · have hl20 : ¬ (a.length : Int) ≤ 12 := by omega
         have hf : fewV a = false := by
           unfold fewV
           rw [Bool.and_eq_false_iff]
           left
           simp; omega
         simp (config := { maxSteps := 3000000 }) [hlt, h21, hl20, hf]
     · rw [List.take_of_length_le (by omega)] at ht
       have hq : decide ((a.length : Int) ≤ 12) = fewV a := by
         unfold fewV
         have : (a.all fun e => decide (e.t.length ≤ 100)) = true := by
           rw [List.all_eq_true]; intro e he; simpa using ht e he
         rw [this, Bool.and_true]
         congr 1
         apply propext
         omega
       simp (config := { maxSteps := 3000000 }) [hlt, hq]
 · cases h
def rowI (n : Int) : List PV := [.int .i64 n]
theorem rowI_inj : ∀ a b, rowI a = rowI b → a = b := by
 intro a b h
 simpa [rowI] using h
def rowsI (l : List Int) : List (List PV) := l.map rowI
@[simp] theorem rowsI_nil : rowsI [] = [] := rfl
@[simp] theorem rowsI_length (l : List Int) : (rowsI l).length = l.length := by simp [rowsI]
theorem rowsI_append (l m : List Int) : rowsI (l ++ m) = rowsI l ++ rowsI m := by simp [rowsI]
theorem rowsI_at {l : List Int} {i : Nat} (h : i < l.length) : rowAt (rowsI l) (i : Int) = [.int .i64 l[i]] := by
 simp [rowAt, rowsI, h, rowI]
@[simp] theorem dec_rowsI (l : List Int) : dec rowI (rowsI l) = some l := dec_map rowI_inj l
theorem dec_rowsI_inv {rows : List (List PV)} {l : List Int} (h : dec rowI rows = some l) : rows = rowsI l := dec_inv h
theorem flat_rowsI (l : List Int) : flatRows (rowsI l) := by
 intro r hr p hp
 simp only [rowsI, List.mem_map] at hr
 obtain ⟨c, _, rfl⟩ := hr
 simp only [rowI, List.mem_cons, List.not_mem_nil, or_false] at hp
 rw [hp]; rfl
def numsV (l : List Vn) : List Int := l.map fun v => IntKind.i64.wrap v.n
noncomputable def GnumsV : List AV → Option (Prop × AV)
 | [.pv (.ro a)] => (dec rowV a).map fun l => (l.length ≤ 1000000, .fr 3 (rowsI (numsV l)))
 | _ => none
@[simp] theorem GnumsV_eq (a : List (List PV)) : GnumsV [.pv (.ro a)] = (dec rowV a).map fun l => (l.length ≤ 1000000, .fr 3 (rowsI (numsV l))) := rfl
theorem c_numsV : ConT Try.prog 57 GnumsV := by
 intro ys φ r h hφ
 unfold GnumsV at h
 split at h
 · rename_i ra
   obtain ⟨a, ha, h⟩ := Option.map_eq_some_iff.1 h
   cases h
   cases dec_rowsV_inv ha
   refine con_of tab_nil (by kernel_rfl) fn57 (by simp) ?_
   unfold body57
   simp (config := { maxSteps := 3000000 })
   refine vwp_loop (fun i : Nat => i ≤ a.length) (fun i => ⟨[(0, .pv (.ro (rowsV a))), (3, .own 3), (4, .pv (.int .i64 i))], [(3, .arr 3 (rowsI (numsV (a.take i))))]⟩) (fun i => a.length - i) [] 0 (by simp) ?_ ?_
   · simp [numsV]
   · intro i hi
     have w2 : IntKind.i64.wrap ((i : Int) + 1) = (i : Int) + 1 := wrap_i64 (by omega)
     by_cases hlt : i < a.length
     · have r1 := rowsV_at hlt
       have hnl : (numsV (a.take i)).length = i := by simp [numsV]; omega
       simp (config := { maxSteps := 3000000 }) [w2, hlt, r1, maxLen_eq, hnl]
       refine ⟨⟨by omega, by omega⟩, i + 1, by omega, ⟨by omega, ?_⟩, by omega⟩
       rw [List.take_succ_eq_append_getElem hlt]
       simp only [numsV, rowsI, List.map_append, List.map_cons, List.map_nil, rowI]
     · simp (config := { maxSteps := 3000000 }) [hlt]
       rw [List.take_of_length_le (by omega)]
 · cases h
noncomputable def GSmI : List AV → Option (Prop × AV)
 | [.pv (.ro a), .pv (.ro b)] => (dec rowI a).bind fun la => (dec rowI b).map fun lb => (la.length ≤ 1000000000, .pv (.bool (decide (la = lb))))
 | _ => none
@[simp] theorem GSmI_eq (a b : List (List PV)) : GSmI [.pv (.ro a), .pv (.ro b)] = (dec rowI a).bind fun la => (dec rowI b).map fun lb => (la.length ≤ 1000000000, .pv (.bool (decide (la = lb)))) := rfl
theorem c_SmI : ConT Try.prog 56 GSmI := by
 intro ys φ r h hφ
 unfold GSmI at h
 split at h
 · rename_i ra rb
   obtain ⟨a, ha, h⟩ := Option.bind_eq_some_iff.1 h
   obtain ⟨b, hb, h⟩ := Option.map_eq_some_iff.1 h
   cases h
   cases dec_rowsI_inv ha
   cases dec_rowsI_inv hb
   refine con_of tab_nil (by kernel_rfl) fn56 (by simp) ?_
   unfold body56
   by_cases hl : a.length = b.length
   · simp (config := { maxSteps := 3000000 }) [hl]
     refine vwp_loop (fun i : Nat => i ≤ a.length ∧ a.take i = b.take i) (fun i => ⟨[(0, .pv (.ro (rowsI a))), (1, .pv (.ro (rowsI b))), (4, .pv (.bool false)), (5, .pv (.int .i64 i))], []⟩) (fun i => a.length - i) [] 0 (by simp) ?_ ?_
     · simp
     · rintro i ⟨hi, ht⟩
       have w2 : IntKind.i64.wrap ((i : Int) + 1) = (i : Int) + 1 := wrap_i64 (by omega)
       by_cases hlt : i < a.length
       · have hltb : i < b.length := by omega
         have r1 := rowsI_at hlt
         have r2 := rowsI_at hltb
         by_cases hq : a[i] = b[i]
         · simp (config := { maxSteps := 3000000 }) [w2, hlt, hltb, r1, r2, hq, hl]
           refine ⟨i + 1, ⟨by omega, ?_⟩, by omega, by omega⟩
           rw [List.take_succ_eq_append_getElem hlt, List.take_succ_eq_append_getElem hltb, ht, hq]
         · have hne : ¬ (a = b) := by intro h; subst h; exact hq rfl
           simp (config := { maxSteps := 3000000 }) [w2, hlt, hltb, r1, r2, hq, hl, hne]
       · have hltb : ¬ i < b.length := by omega
         have hab : a = b := by
           rw [List.take_of_length_le (by omega), List.take_of_length_le (by omega)] at ht; exact ht
         subst hab
         simp (config := { maxSteps := 3000000 }) [hlt]
   · have hne : ¬ (a = b) := by intro h; subst h; exact hl rfl
     have hli : ¬ ((a.length : Int) = b.length) := by omega
     simp (config := { maxSteps := 3000000 }) [hli, hne]
 · cases h
end Go.Proofs.Ytfpmjcdcpicmaaa.Ab
