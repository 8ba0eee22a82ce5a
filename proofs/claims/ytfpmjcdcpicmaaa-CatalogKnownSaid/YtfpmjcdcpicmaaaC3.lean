/- Chapter 17: Bind, Unbind, Rename, as the program and the reference do it. -/
import Derived.Test.YtfpmjcdcpicmaaaC2
import Derived.Test.YtfpmjcdcpicmaaaI5
namespace Go.Proofs.Ytfpmjcdcpicmaaa.Ab
open Go Go.RowKit R
set_option linter.unusedVariables false
set_option linter.unusedSimpArgs false
set_option maxHeartbeats 8000000
set_option maxRecDepth 100000

/-! ### A copy; whether a number is there -/

noncomputable def GCl : List AV → Option (Prop × AV)
  | [.pv (.ro a)] => (dec rowC a).map fun l => (l.length ≤ 100000000, .fr 51 (rowsC l))
  | _ => none
@[simp] theorem GCl_eq (a : List (List PV)) : GCl [.pv (.ro a)] = (dec rowC a).map fun l => (l.length ≤ 100000000, .fr 51 (rowsC l)) := rfl
theorem c_Cl : ConT Try.prog 99 GCl := by
  intro ys φ r h hφ
  unfold GCl at h
  split at h
  · rename_i ra
    obtain ⟨a, ha, h⟩ := Option.map_eq_some_iff.1 h
    cases h
    cases dec_rowsC_inv ha
    refine con_of tab_nil (by kernel_rfl) fn99 (by simp) ?_
    unfold body99
    cases a with
    | nil =>
      simp (config := { maxSteps := 3000000 }) [exNil_eq]
    | cons x l =>
      have hx : rowsC (x :: l) = rowC x :: rowsC l := rfl
      simp (config := { maxSteps := 3000000 }) [hx, maxLen_eq]
      simp only [List.length_cons] at hφ
      exact ⟨by omega, by omega, rfl, rowsC_two l⟩
  · cases h

noncomputable def GB1 : List AV → Option (Prop × AV)
  | [.agg [.pv (.str a), .pv (.int .u64 b)], .rp [.int .u64 n]] => some (True, .pv (.bool (decide (b = n))))
  | _ => none
@[simp] theorem GB1_eq (a : List UInt8) (b n : Int) : GB1 [.agg [.pv (.str a), .pv (.int .u64 b)], .rp [.int .u64 n]] = some (True, .pv (.bool (decide (b = n)))) := rfl
theorem c_B1 : ConT Try.prog 97 GB1 := by
  intro ys φ r h hφ
  unfold GB1 at h
  split at h
  · cases h
    refine con_of tab_nil (by kernel_rfl) fn97 (by simp) ?_
    unfold body97
    simp (config := { maxSteps := 3000000 })
  · cases h
theorem isfn_B1 : isFn Try.prog 97 = true := by kernel_rfl
def idC (l : List En) (n : Int) : Bool := l.any fun e => decide (e.i = n)
noncomputable def GIxC : List AV → Option (Prop × AV)
  | [.pv (.ro a), .clo f [.rp [.int .u64 n]]] => if f = 97 then (dec rowC a).map fun l => (l.length ≤ 1000000000, .pv (.int .i64 (if idC l n = true then ((l.findIdx fun e => decide (e.i = n) : Nat) : Int) else -1))) else none
  | _ => none
@[simp] theorem GIxC_eq (a : List (List PV)) (f : FuncId) (n : Int) : GIxC [.pv (.ro a), .clo f [.rp [.int .u64 n]]] = if f = 97 then (dec rowC a).map fun l => (l.length ≤ 1000000000, .pv (.int .i64 (if idC l n = true then ((l.findIdx fun e => decide (e.i = n) : Nat) : Int) else -1))) else none := rfl
theorem c_IxC : ConT Try.prog 150 GIxC := by
  intro ys φ r h hφ
  unfold GIxC at h
  split at h
  · rename_i ra f n
    split at h
    · rename_i hf
      subst hf
      obtain ⟨a, ha, h⟩ := Option.map_eq_some_iff.1 h
      cases h
      cases dec_rowsC_inv ha
      refine con_of (tab_cons c_B1 tab_nil) (by kernel_rfl) fn150 (by simp) ?_
      unfold body150
      simp (config := { maxSteps := 3000000 })
      refine vwp_loop (fun i : Nat => i ≤ a.length ∧ ∀ e ∈ a.take i, ¬ e.i = n) (fun i => ⟨[(0, .pv (.ro (rowsC a))), (1, .clo 97 [.rp [.int .u64 n]]), (7, .pv (.int .i64 a.length)), (8, .pv (.int .i64 i))], []⟩) (fun i => a.length - i) [] 0 (by simp) ?_ ?_
      · simp
      · rintro i ⟨hi, ht⟩
        have w2 : IntKind.i64.wrap ((i : Int) + 1) = (i : Int) + 1 := wrap_i64 (by omega)
        by_cases hlt : i < a.length
        · have r1 := rowsC_at hlt
          by_cases he : a[i].i = n
          · have hid : idC a n = true := by
              unfold idC
              rw [List.any_eq_true]
              exact ⟨a[i], List.getElem_mem hlt, by simpa using he⟩
            have hfi : a.findIdx (fun e => decide (e.i = n)) = i := by
              rw [List.findIdx_eq hlt]
              refine ⟨by simpa using he, fun j hj => ?_⟩
              have := ht a[j] (by rw [List.mem_take_iff_getElem]; exact ⟨j, by omega, rfl⟩)
              simpa using this
            simp (config := { maxSteps := 3000000 }) [hlt, r1, isfn_B1, he, hid, hfi]
          · simp (config := { maxSteps := 3000000 }) [hlt, r1, isfn_B1, he, w2]
            refine ⟨i + 1, ⟨by omega, fun e hm => ?_⟩, by omega, by omega⟩
            rw [List.take_succ_eq_append_getElem hlt, List.mem_append, List.mem_singleton] at hm
            rcases hm with hm | rfl
            · exact ht e hm
            · exact he
        · rw [List.take_of_length_le (by omega)] at ht
          have hid : idC a n = false := by
            unfold idC
            rw [List.any_eq_false]
            intro e he; simpa using ht e he
          simp (config := { maxSteps := 3000000 }) [hlt, hid]
    · cases h
  · cases h
noncomputable def GCfC : List AV → Option (Prop × AV)
  | [.pv (.ro a), .clo f [.rp [.int .u64 n]]] => if f = 97 then (dec rowC a).map fun l => (l.length ≤ 1000000000, .pv (.bool (idC l n))) else none
  | _ => none
@[simp] theorem GCfC_eq (a : List (List PV)) (f : FuncId) (n : Int) : GCfC [.pv (.ro a), .clo f [.rp [.int .u64 n]]] = if f = 97 then (dec rowC a).map fun l => (l.length ≤ 1000000000, .pv (.bool (idC l n))) else none := rfl
theorem c_CfC : ConT Try.prog 96 GCfC := by
  intro ys φ r h hφ
  unfold GCfC at h
  split at h
  · rename_i ra f n
    split at h
    · rename_i hf
      subst hf
      obtain ⟨a, ha, h⟩ := Option.map_eq_some_iff.1 h
      cases h
      cases dec_rowsC_inv ha
      refine con_of (tab_cons c_IxC tab_nil) (by kernel_rfl) fn96 (by simp) ?_
      unfold body96
      cases hid : idC a n with
      | true => simp (config := { maxSteps := 3000000 }) [hφ, hid]
      | false => simp (config := { maxSteps := 3000000 }) [hφ, hid]
    · cases h
  · cases h

/-! ### Bind -/

def putC (l : List En) (e : En) : List En := insC l (lb l e.n) e
def bindC (l : List En) (s : List UInt8) (n : Int) : List En × Int :=
  if (getC l s).2 = 0 then ([], 81) else if (getC l s).2 ≠ 80 then ([], (getC l s).2) else if n = 0 ∨ idC l n = true then ([], 2) else (putC l ⟨s, n⟩, 0)
theorem getC_cases (l : List En) (s : List UInt8) : (rightC l = false ∧ getC l s = (0, 2)) ∨ (rightC l = true ∧ okNm s = false ∧ getC l s = (0, 170)) ∨ (rightC l = true ∧ okNm s = true ∧ foundC l s = false ∧ getC l s = (0, 80)) ∨
    (rightC l = true ∧ okNm s = true ∧ foundC l s = true ∧ ∃ h : lb l s < l.length, getC l s = (l[lb l s].i, 0) ∧ l[lb l s].n = s) := by
  cases hr : rightC l with
  | false => left; exact ⟨rfl, by unfold getC; rw [if_neg (by simp [hr])]⟩
  | true =>
    right
    cases hn : okNm s with
    | false => left; exact ⟨rfl, rfl, by unfold getC; rw [if_pos hr, if_neg (by simp [hn])]⟩
    | true =>
      right
      cases hf : foundC l s with
      | false => left; exact ⟨rfl, rfl, rfl, getC_none hr hn hf⟩
      | true => right; exact ⟨rfl, rfl, rfl, getC_found hr hn hf⟩
noncomputable def GBind : List AV → Option (Prop × AV)
  | [.pv (.ro a), .pv (.str s), .pv (.int .u64 n)] => (dec rowC a).map fun l => (l.length ≤ 100000, .tup [.fr 51 (rowsC (bindC l s n).1), .pv (.int .i64 (bindC l s n).2)])
  | _ => none
@[simp] theorem GBind_eq (a : List (List PV)) (s : List UInt8) (n : Int) : GBind [.pv (.ro a), .pv (.str s), .pv (.int .u64 n)] = (dec rowC a).map fun l => (l.length ≤ 100000, .tup [.fr 51 (rowsC (bindC l s n).1), .pv (.int .i64 (bindC l s n).2)]) := rfl
theorem c_Bind : ConT Try.prog 21 GBind := by
  intro ys φ r h hφ
  unfold GBind at h
  split at h
  · rename_i ra s n
    obtain ⟨a, ha, h⟩ := Option.map_eq_some_iff.1 h
    cases h
    cases dec_rowsC_inv ha
    have hl9 : a.length ≤ 1000000000 := by omega
    have hl8 : a.length ≤ 100000000 := by omega
    have hl6 : a.length ≤ 1000000 := by omega
    have hinf : (Try.prog.info? 51).isSome = true := by kernel_rfl
    refine con_of (tab_cons c_May (tab_cons c_plc (tab_cons c_CfC (tab_cons c_Cl (tab_consU (p := 0) (k := 998) c_Ins (by kernel_rfl) tab_nil))))) (by kernel_rfl) fn21 (by simp) ?_
    unfold body21
    rcases getC_cases a s with ⟨hr, hg⟩ | ⟨hr, hn, hg⟩ | ⟨hr, hn, hf, hg⟩ | ⟨hr, hn, hf, hlt, hg, _⟩
    · have hb : bindC a s n = ([], 2) := by unfold bindC; rw [hg]; simp
      simp (config := { maxSteps := 3000000 }) [hl9, mayC, hr, hb, hinf]
    · have hb : bindC a s n = ([], 170) := by unfold bindC; rw [hg]; simp
      simp (config := { maxSteps := 3000000 }) [hl9, mayC, hr, hn, hb, hinf]
    · by_cases h0 : n = 0
      · have hb : bindC a s n = ([], 2) := by unfold bindC; rw [hg]; simp [h0]
        simp (config := { maxSteps := 3000000 }) [hl9, mayC, hr, hn, hf, h0, hb, hinf]
        try simp [← h0, hb]
      · cases hid : idC a n with
        | true =>
          have hb : bindC a s n = ([], 2) := by unfold bindC; rw [hg]; simp [hid]
          simp (config := { maxSteps := 3000000 }) [hl9, mayC, hr, hn, hf, h0, hid, hb, hinf]
        | false =>
          have hb : bindC a s n = (insC a (lb a s) ⟨s, n⟩, 0) := by unfold bindC; rw [hg]; simp [hid, h0, putC]
          have hlb := lb_le a s
          simp (config := { maxSteps := 3000000 }) [hl9, hl8, hl6, mayC, hr, hn, hf, h0, hid, hb, hinf, hlb]
          exact flat_rowsC _
    · have hb : bindC a s n = ([], 81) := by unfold bindC; rw [hg]; simp
      simp (config := { maxSteps := 3000000 }) [hl9, mayC, hr, hn, hf, hb, hinf]
  · cases h

noncomputable def GrPut : List AV → Option (Prop × AV)
  | [.pv (.ro a), .agg [.pv (.str s), .pv (.int .u64 n)]] => (dec rowC a).map fun l => (l.length ≤ 1000000 ∧ rightC l = true ∧ foundC l s = false, .fr 147 (rowsC (putC l ⟨s, n⟩)))
  | _ => none
@[simp] theorem GrPut_eq (a : List (List PV)) (s : List UInt8) (n : Int) : GrPut [.pv (.ro a), .agg [.pv (.str s), .pv (.int .u64 n)]] = (dec rowC a).map fun l => (l.length ≤ 1000000 ∧ rightC l = true ∧ foundC l s = false, .fr 147 (rowsC (putC l ⟨s, n⟩))) := rfl
theorem putC_len (l : List En) (e : En) : (putC l e).length = l.length + 1 := by
  have := lb_le l e.n
  unfold putC insC
  simp; omega
theorem c_rPutC : ConT Try.prog 100 GrPut := by
  intro ys φ r h hφ
  unfold GrPut at h
  split at h
  · rename_i ra s n
    obtain ⟨a, ha, h⟩ := Option.map_eq_some_iff.1 h
    cases h
    cases dec_rowsC_inv ha
    obtain ⟨hl6, hr, hf⟩ := hφ
    have hk := lb_le a s
    have hab : ∀ (j : Nat) (h : j < a.length), ¬ a[j].n = s := fun j h e => by
      have := (found_iff (s := s) hr).2 ⟨a[j], List.getElem_mem h, e⟩
      rw [hf] at this; cases this
    obtain ⟨k, hkd⟩ : ∃ k, k = lb a s := ⟨_, rfl⟩
    have hput : putC a ⟨s, n⟩ = a.take k ++ ⟨s, n⟩ :: a.drop k := by unfold putC insC; rw [hkd]
    refine con_of tab_nil (by kernel_rfl) fn100 (by simp) ?_
    unfold body100
    simp (config := { maxSteps := 3000000 })
    refine vwp_loop (fun i : Nat => i ≤ a.length) (fun i => ⟨[(0, .pv (.ro (rowsC a))), (3, .ptr 3 0), (4, .own 4), (5, .own 5), (6, .pv (.bool (decide (k < i)))), (7, .pv (.int .i64 i))], [(3, .box [.pv (.str s), .pv (.int .u64 n)]), (4, .arr 147 []), (5, .arr 147 (rowsC (if k < i then a.take k ++ ⟨s, n⟩ :: (a.take i).drop k else a.take i)))]⟩) (fun i => a.length - i) [] 0 (by simp) ?_ ?_
    · simp
    · intro i hi
      have w2 : IntKind.i64.wrap ((i : Int) + 1) = (i : Int) + 1 := wrap_i64 (by omega)
      by_cases hlt : i < a.length
      · have r1 := rowsC_at hlt
        have hne := hab i hlt
        have hap : ∀ m : List En, rowsC m ++ [[PV.str a[i].n, .int .u64 a[i].i]] = rowsC (m ++ [a[i]]) := fun m => by rw [rowsC_append]; rfl
        have hap2 : ∀ m : List En, rowsC m ++ [[PV.str s, .int .u64 n]] = rowsC (m ++ [⟨s, n⟩]) := fun m => by rw [rowsC_append]; rfl
        have htk : a.take (i + 1) = a.take i ++ [a[i]] := List.take_succ_eq_append_getElem hlt
        have hlen : (a.take i).length = i := by rw [List.length_take]; omega
        rcases Nat.lt_trichotomy i k with hik | hik | hik
        · have hb : Op.bytesLess a[i].n s = true := lb_lt (by omega)
          have c1 : ¬ k < i := by omega
          have c2 : ¬ k < i + 1 := by omega
          simp (config := { maxSteps := 3000000 }) [w2, hlt, r1, hb, c1, hap, maxLen_eq]
          refine ⟨⟨by omega, by omega⟩, i + 1, by omega, ⟨⟨by omega, by omega⟩, by rw [if_neg c2, htk]⟩, by omega⟩
        · have hb : Op.bytesLess a[i].n s = false := lb_ge hr hlt (by omega)
          have c1 : ¬ k < i := by omega
          have c2 : k < i + 1 := by omega
          simp (config := { maxSteps := 3000000 }) [w2, hlt, r1, hb, hne, c1, hap, hap2, maxLen_eq]
          exact ⟨⟨by omega, by omega⟩, ⟨by omega, by omega⟩, i + 1, by omega, ⟨⟨by omega, by omega⟩, by
            have hdr : (a.take i ++ [a[i]]).drop k = [a[i]] := by rw [← hik, List.drop_append_of_le_length (by omega), List.drop_of_length_le (by omega)]; rfl
            rw [if_pos c2, htk, hdr, ← hik]⟩, by omega⟩
        · have c1 : k < i := by omega
          have c2 : k < i + 1 := by omega
          simp (config := { maxSteps := 3000000 }) [w2, hlt, r1, c1, hap, maxLen_eq]
          exact ⟨⟨by omega, by omega⟩, i + 1, by omega, ⟨⟨by omega, by omega⟩, by rw [if_pos c2, htk, List.drop_append_of_le_length (by omega)]⟩, by omega⟩
      · have hia : i = a.length := by omega
        subst hia
        by_cases hkl : k < a.length
        · simp (config := { maxSteps := 3000000 }) [hkl, hput]
        · have hkl' : k = a.length := by omega
          have hap2 : ∀ m : List En, rowsC m ++ [[PV.str s, .int .u64 n]] = rowsC (m ++ [⟨s, n⟩]) := fun m => by rw [rowsC_append]; rfl
          simp (config := { maxSteps := 3000000 }) [hkl, hput, hap2, hkl', maxLen_eq]
          exact ⟨by omega, by omega⟩
  · cases h

noncomputable def GrBind : List AV → Option (Prop × AV)
  | [.pv (.ro a), .pv (.str s), .pv (.int .u64 n)] => (dec rowC a).map fun l => (l.length ≤ 100000, .tup [.fr 147 (rowsC (bindC l s n).1), .pv (.int .i64 (bindC l s n).2)])
  | _ => none
@[simp] theorem GrBind_eq (a : List (List PV)) (s : List UInt8) (n : Int) : GrBind [.pv (.ro a), .pv (.str s), .pv (.int .u64 n)] = (dec rowC a).map fun l => (l.length ≤ 100000, .tup [.fr 147 (rowsC (bindC l s n).1), .pv (.int .i64 (bindC l s n).2)]) := rfl
theorem c_rBind : ConT Try.prog 22 GrBind := by
  intro ys φ r h hφ
  unfold GrBind at h
  split at h
  · rename_i ra s n
    obtain ⟨a, ha, h⟩ := Option.map_eq_some_iff.1 h
    cases h
    cases dec_rowsC_inv ha
    have hl9 : a.length ≤ 1000000000 := by omega
    have hl6 : a.length ≤ 1000000 := by omega
    have hinf : (Try.prog.info? 147).isSome = true := by kernel_rfl
    refine con_of (tab_cons c_rGet (tab_cons c_rPutC tab_nil)) (by kernel_rfl) fn22 (by simp) ?_
    unfold body22
    rcases getC_cases a s with ⟨hr, hg⟩ | ⟨hr, hn, hg⟩ | ⟨hr, hn, hf, hg⟩ | ⟨hr, hn, hf, hlt, hg, _⟩
    · have hb : bindC a s n = ([], 2) := by unfold bindC; rw [hg]; simp
      simp (config := { maxSteps := 3000000 }) [hl9, hg, hb, hinf]
    · have hb : bindC a s n = ([], 170) := by unfold bindC; rw [hg]; simp
      simp (config := { maxSteps := 3000000 }) [hl9, hg, hb, hinf]
    · simp (config := { maxSteps := 3000000 }) [hl9, hg]
      refine vwp_loop (fun i : Nat => i ≤ a.length ∧ idC (a.take i) n = false) (fun i => ⟨[(0, .pv (.ro (rowsC a))), (1, .pv (.str s)), (2, .pv (.int .u64 n)), (6, .own 6), (7, .pv (.int .i64 0)), (10, .pv (.int .i64 i))], [(6, .arr 147 [])]⟩) (fun i => a.length - i) [] 0 (by simp [idC]) ?_ ?_
      · simp
      · rintro i ⟨hi, ht⟩
        have w2 : IntKind.i64.wrap ((i : Int) + 1) = (i : Int) + 1 := wrap_i64 (by omega)
        by_cases hlt : i < a.length
        · have r1 := rowsC_at hlt
          by_cases he : a[i].i = n
          · have hid : idC a n = true := by
              unfold idC
              rw [List.any_eq_true]
              exact ⟨a[i], List.getElem_mem hlt, by simpa using he⟩
            have hb : bindC a s n = ([], 2) := by unfold bindC; rw [hg]; simp [hid]
            simp (config := { maxSteps := 3000000 }) [hlt, r1, he, hb, hinf]
          · simp (config := { maxSteps := 3000000 }) [hlt, r1, he, w2]
            refine ⟨i + 1, ⟨by omega, ?_⟩, by omega, by omega⟩
            rw [List.take_succ_eq_append_getElem hlt]
            unfold idC at ht ⊢
            rw [List.any_append, ht]
            simp [he]
        · rw [List.take_of_length_le (by omega)] at ht
          by_cases h0 : n = 0
          · have hb : bindC a s n = ([], 2) := by unfold bindC; rw [hg]; simp [h0]
            subst h0
            simp (config := { maxSteps := 3000000 }) [hlt, hb, hinf]
          · have hb : bindC a s n = (putC a ⟨s, n⟩, 0) := by unfold bindC; rw [hg]; simp [ht, h0]
            simp (config := { maxSteps := 3000000 }) [hlt, h0, hb, hl6, hr, hf]
    · have hb : bindC a s n = ([], 81) := by unfold bindC; rw [hg]; simp
      simp (config := { maxSteps := 3000000 }) [hl9, hg, hb, hinf]
  · cases h

/-! ### Unbind -/

def withoutC (l : List En) (s : List UInt8) : List En := l.filter fun e => !decide (e.n = s)
def unbC (l : List En) (s : List UInt8) : List En × Int := if (getC l s).2 ≠ 0 then ([], (getC l s).2) else (withoutC l s, 0)
theorem without_at {l : List En} {s : List UInt8} (hr : rightC l = true) (h : lb l s < l.length) (hs : l[lb l s].n = s) : withoutC l s = l.take (lb l s) ++ l.drop (lb l s + 1) := by
  have h1 : l = l.take (lb l s) ++ l[lb l s] :: l.drop (lb l s + 1) := by rw [← List.drop_eq_getElem_cons h, List.take_append_drop]
  have ha : (l.take (lb l s)).filter (fun e => !decide (e.n = s)) = l.take (lb l s) := by
    rw [List.filter_eq_self]
    intro e he
    rw [List.mem_take_iff_getElem] at he
    obtain ⟨j, hj, rfl⟩ := he
    have := bl_ne (lb_lt (l := l) (s := s) (k := j) (by omega))
    simpa using this
  have hd : (l.drop (lb l s + 1)).filter (fun e => !decide (e.n = s)) = l.drop (lb l s + 1) := by
    rw [List.filter_eq_self]
    intro e he
    rw [List.mem_drop_iff_getElem] at he
    obtain ⟨j, hj, rfl⟩ := he
    have := bl_ne (right_lt hr (i := lb l s) (j := lb l s + 1 + j) (by omega) (by omega)).1
    rw [hs] at this
    simpa using fun e => this e.symm
  unfold withoutC
  conv => lhs; rw [h1]
  rw [List.filter_append, ha, List.filter_cons, hd]
  simp [hs]
noncomputable def GUnb : List AV → Option (Prop × AV)
  | [.pv (.ro a), .pv (.str s)] => (dec rowC a).map fun l => (l.length ≤ 100000, .tup [.fr 51 (rowsC (unbC l s).1), .pv (.int .i64 (unbC l s).2)])
  | _ => none
@[simp] theorem GUnb_eq (a : List (List PV)) (s : List UInt8) : GUnb [.pv (.ro a), .pv (.str s)] = (dec rowC a).map fun l => (l.length ≤ 100000, .tup [.fr 51 (rowsC (unbC l s).1), .pv (.int .i64 (unbC l s).2)]) := rfl
theorem c_Unb : ConT Try.prog 23 GUnb := by
  intro ys φ r h hφ
  unfold GUnb at h
  split at h
  · rename_i ra s
    obtain ⟨a, ha, h⟩ := Option.map_eq_some_iff.1 h
    cases h
    cases dec_rowsC_inv ha
    have hl9 : a.length ≤ 1000000000 := by omega
    have hl8 : a.length ≤ 100000000 := by omega
    have hl6 : a.length ≤ 1000000 := by omega
    have hinf : (Try.prog.info? 51).isSome = true := by kernel_rfl
    refine con_of (tab_cons c_Get (tab_cons c_plc (tab_cons c_Cl (tab_consU (p := 0) (k := 998) c_Del (by kernel_rfl) tab_nil)))) (by kernel_rfl) fn23 (by simp) ?_
    unfold body23
    rcases getC_cases a s with ⟨hr, hg⟩ | ⟨hr, hn, hg⟩ | ⟨hr, hn, hf, hg⟩ | ⟨hr, hn, hf, hlt, hg, hs⟩
    · have hb : unbC a s = ([], 2) := by unfold unbC; rw [hg]; simp
      simp (config := { maxSteps := 3000000 }) [hl9, hg, hb, hinf]
    · have hb : unbC a s = ([], 170) := by unfold unbC; rw [hg]; simp
      simp (config := { maxSteps := 3000000 }) [hl9, hg, hb, hinf]
    · have hb : unbC a s = ([], 80) := by unfold unbC; rw [hg]; simp
      simp (config := { maxSteps := 3000000 }) [hl9, hg, hb, hinf]
    · have hb : unbC a s = (a.take (lb a s) ++ a.drop (lb a s + 1), 0) := by unfold unbC; rw [hg]; simp [without_at hr hlt hs]
      have w1 : IntKind.i64.wrap ((lb a s : Int) + 1) = (lb a s : Int) + 1 := wrap_i64 (by omega)
      simp (config := { maxSteps := 3000000 }) [hl9, hl8, hl6, hg, hr, hf, hb, hinf, hlt, w1]
  · cases h
noncomputable def GrWo : List AV → Option (Prop × AV)
  | [.pv (.ro a), .pv (.str s)] => (dec rowC a).map fun l => (l.length ≤ 1000000, .fr 147 (rowsC (withoutC l s)))
  | _ => none
@[simp] theorem GrWo_eq (a : List (List PV)) (s : List UInt8) : GrWo [.pv (.ro a), .pv (.str s)] = (dec rowC a).map fun l => (l.length ≤ 1000000, .fr 147 (rowsC (withoutC l s))) := rfl
theorem without_len (l : List En) (s : List UInt8) : (withoutC l s).length ≤ l.length := List.length_filter_le _ _
theorem c_rWo : ConT Try.prog 102 GrWo := by
  intro ys φ r h hφ
  unfold GrWo at h
  split at h
  · rename_i ra s
    obtain ⟨a, ha, h⟩ := Option.map_eq_some_iff.1 h
    cases h
    cases dec_rowsC_inv ha
    refine con_of tab_nil (by kernel_rfl) fn102 (by simp) ?_
    unfold body102
    simp (config := { maxSteps := 3000000 })
    refine vwp_loop (fun i : Nat => i ≤ a.length) (fun i => ⟨[(0, .pv (.ro (rowsC a))), (1, .pv (.str s)), (4, .own 4), (5, .own 5), (6, .pv (.int .i64 i))], [(4, .arr 147 []), (5, .arr 147 (rowsC (withoutC (a.take i) s)))]⟩) (fun i => a.length - i) [] 0 (by simp) ?_ ?_
    · simp [withoutC]
    · intro i hi
      have w2 : IntKind.i64.wrap ((i : Int) + 1) = (i : Int) + 1 := wrap_i64 (by omega)
      by_cases hlt : i < a.length
      · have r1 := rowsC_at hlt
        have hll := without_len (a.take i) s
        rw [List.length_take] at hll
        have hst : withoutC (a.take (i + 1)) s = withoutC (a.take i) s ++ (if a[i].n = s then [] else [a[i]]) := by
          unfold withoutC
          rw [List.take_succ_eq_append_getElem hlt, List.filter_append]
          by_cases he : a[i].n = s <;> simp [he]
        by_cases he : a[i].n = s
        · rw [if_pos he, List.append_nil] at hst
          simp (config := { maxSteps := 3000000 }) [w2, hlt, r1, he]
          exact ⟨i + 1, by omega, ⟨by omega, by rw [hst]⟩, by omega⟩
        · rw [if_neg he] at hst
          simp (config := { maxSteps := 3000000 }) [w2, hlt, r1, he, maxLen_eq]
          exact ⟨⟨by omega, by omega⟩, i + 1, by omega, ⟨by omega, by rw [hst, rowsC_append]; rfl⟩, by omega⟩
      · simp (config := { maxSteps := 3000000 }) [hlt]
        rw [List.take_of_length_le (by omega)]
  · cases h
noncomputable def GrUnb : List AV → Option (Prop × AV)
  | [.pv (.ro a), .pv (.str s)] => (dec rowC a).map fun l => (l.length ≤ 100000, .tup [.fr 147 (rowsC (unbC l s).1), .pv (.int .i64 (unbC l s).2)])
  | _ => none
@[simp] theorem GrUnb_eq (a : List (List PV)) (s : List UInt8) : GrUnb [.pv (.ro a), .pv (.str s)] = (dec rowC a).map fun l => (l.length ≤ 100000, .tup [.fr 147 (rowsC (unbC l s).1), .pv (.int .i64 (unbC l s).2)]) := rfl
theorem c_rUnb : ConT Try.prog 24 GrUnb := by
  intro ys φ r h hφ
  unfold GrUnb at h
  split at h
  · rename_i ra s
    obtain ⟨a, ha, h⟩ := Option.map_eq_some_iff.1 h
    cases h
    cases dec_rowsC_inv ha
    have hl9 : a.length ≤ 1000000000 := by omega
    have hl6 : a.length ≤ 1000000 := by omega
    have hinf : (Try.prog.info? 147).isSome = true := by kernel_rfl
    refine con_of (tab_cons c_rGet (tab_cons c_rWo tab_nil)) (by kernel_rfl) fn24 (by simp) ?_
    unfold body24
    by_cases h0 : (getC a s).2 = 0
    · have hb : unbC a s = (withoutC a s, 0) := by unfold unbC; rw [if_neg (by simpa using h0)]
      simp (config := { maxSteps := 3000000 }) [hl9, hl6, h0, hb]
      try exact flat_rowsC _
    · have hb : unbC a s = ([], (getC a s).2) := by unfold unbC; rw [if_pos h0]
      simp (config := { maxSteps := 3000000 }) [hl9, h0, hb, hinf]
  · cases h

end Go.Proofs.Ytfpmjcdcpicmaaa.Ab
