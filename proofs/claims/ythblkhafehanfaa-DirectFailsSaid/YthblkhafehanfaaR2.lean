/- Chapter 8, the reference: List, Get, with, Add, Remove, Fail. -/
import Derived.Test.YthblkhafehanfaaR1
namespace Go.Proofs.Ythblkhafehanfaa.Ab
open Go Go.RowKit R
set_option linter.unusedVariables false
set_option linter.unusedSimpArgs false
set_option maxHeartbeats 4000000
set_option maxRecDepth 100000

noncomputable def GrLi : List AV → Option (Prop × AV)
  | [.agg [.pv (.ro a), .pv (.ro b)]] => (dec rowN a).bind fun l => (dec rowA b).map fun m => (l.length ≤ 100000 ∧ m.length ≤ 100000, .pv (.ro (rowsN (aftA l m))))
  | _ => none
@[simp] theorem GrLi_eq (a b : List (List PV)) : GrLi [.agg [.pv (.ro a), .pv (.ro b)]] = (dec rowN a).bind fun l => (dec rowA b).map fun m => (l.length ≤ 100000 ∧ m.length ≤ 100000, .pv (.ro (rowsN (aftA l m)))) := rfl
theorem c_rLi : ConT Try.prog 73 GrLi := by
  intro ys φ r h hφ
  unfold GrLi at h
  split at h
  · rename_i ra rb
    obtain ⟨a, ha, h⟩ := Option.bind_eq_some_iff.1 h
    obtain ⟨b, hb, h⟩ := Option.map_eq_some_iff.1 h
    cases h
    cases dec_rowsN_inv ha
    cases dec_rowsA_inv hb
    obtain ⟨ha5, hb5⟩ := hφ
    refine con_of (tab_cons c_aft tab_nil) (by kernel_rfl) fn73 (by simp) ?_
    unfold body73
    simp (config := { maxSteps := 3000000 }) [ha5, hb5]
  · cases h

/-- the number of the first of a name, and whether there is one -/
def getN (l : List Nm) (s : List UInt8) : Option Int := (l.find? fun e => decide (e.n = s)).map (·.i)
theorem getN_nil (s : List UInt8) : getN [] s = none := rfl
noncomputable def GrGt : List AV → Option (Prop × AV)
  | [.agg [.pv (.ro a), .pv (.ro b)], .pv (.str s)] => (dec rowN a).bind fun l => (dec rowA b).map fun m => (l.length ≤ 100000 ∧ m.length ≤ 100000, .tup [.pv (.int .i64 ((getN (aftA l m) s).getD 0)), .pv (.bool (getN (aftA l m) s).isSome)])
  | _ => none
@[simp] theorem GrGt_eq (a b : List (List PV)) (s : List UInt8) : GrGt [.agg [.pv (.ro a), .pv (.ro b)], .pv (.str s)] = (dec rowN a).bind fun l => (dec rowA b).map fun m => (l.length ≤ 100000 ∧ m.length ≤ 100000, .tup [.pv (.int .i64 ((getN (aftA l m) s).getD 0)), .pv (.bool (getN (aftA l m) s).isSome)]) := rfl
theorem c_rGt : ConT Try.prog 72 GrGt := by
  intro ys φ r h hφ
  unfold GrGt at h
  split at h
  · rename_i ra rb s
    obtain ⟨a, ha, h⟩ := Option.bind_eq_some_iff.1 h
    obtain ⟨b, hb, h⟩ := Option.map_eq_some_iff.1 h
    cases h
    cases dec_rowsN_inv ha
    cases dec_rowsA_inv hb
    obtain ⟨ha5, hb5⟩ := hφ
    have hl := aftA_len b a
    refine con_of (tab_cons c_rLi tab_nil) (by kernel_rfl) fn72 (by simp) ?_
    unfold body72
    simp (config := { maxSteps := 3000000 }) [ha5, hb5]
    generalize aftA a b = c at *
    refine vwp_loop (fun i : Nat => i ≤ c.length ∧ ∀ (j : Nat) (h : j < c.length), j < i → ¬ c[j].n = s) (fun i => ⟨[(1, .pv (.str s)), (2, .ptr 2 0), (4, .pv (.int .i64 0)), (5, .pv (.bool false)), (6, .pv (.ro (rowsN c))), (7, .pv (.int .i64 i))], [(2, .box [.pv (.ro (rowsN a)), .pv (.ro (rowsA b))])]⟩) (fun i => c.length - i) [] 0 (by simp) ?_ ?_
    · simp
    · rintro i ⟨hi, hj⟩
      have w2 : IntKind.i64.wrap ((i : Int) + 1) = (i : Int) + 1 := wrap_i64 (by omega)
      by_cases hlt : i < c.length
      · have r1 := rowsN_at hlt
        by_cases he : c[i].n = s
        · have hg : getN c s = some c[i].i := by
            have hf : c.find? (fun e => decide (e.n = s)) = some c[i] := by
              rw [List.find?_eq_some_iff_getElem]
              exact ⟨by simpa using he, i, hlt, rfl, fun j hji => by simpa using hj j (by omega) hji⟩
            unfold getN
            rw [hf]; rfl
          simp (config := { maxSteps := 3000000 }) [hlt, r1, he, hg]
        · simp (config := { maxSteps := 3000000 }) [hlt, r1, he, w2]
          refine ⟨i + 1, ⟨by omega, fun j h hji => ?_⟩, by omega, by omega⟩
          rcases Nat.lt_or_eq_of_le (Nat.le_of_lt_succ hji) with h1 | rfl
          · exact hj j h h1
          · exact he
      · have hia : i = c.length := by omega
        subst hia
        have hg : getN c s = none := by
          have hf : c.find? (fun e => decide (e.n = s)) = none := by
            rw [List.find?_eq_none]
            intro e he
            obtain ⟨j, h, rfl⟩ := List.getElem_of_mem he
            simpa using hj j h h
          unfold getN
          rw [hf]; rfl
        simp (config := { maxSteps := 3000000 }) [hg]
  · cases h

noncomputable def Gwith : List AV → Option (Prop × AV)
  | [.agg [.pv (.ro a), .pv (.ro b)], .agg [.pv (.bool k), .pv (.str s), .pv (.int .i64 n)]] => (dec rowN a).bind fun l => (dec rowA b).map fun m => (l.length ≤ 100000 ∧ m.length ≤ 100000, .agg [.pv (.ro (rowsN l)), .pv (.ro (rowsA (m ++ [⟨k, s, n⟩])))])
  | _ => none
@[simp] theorem Gwith_eq (a b : List (List PV)) (k : Bool) (s : List UInt8) (n : Int) : Gwith [.agg [.pv (.ro a), .pv (.ro b)], .agg [.pv (.bool k), .pv (.str s), .pv (.int .i64 n)]] = (dec rowN a).bind fun l => (dec rowA b).map fun m => (l.length ≤ 100000 ∧ m.length ≤ 100000, .agg [.pv (.ro (rowsN l)), .pv (.ro (rowsA (m ++ [⟨k, s, n⟩])))]) := rfl
theorem c_with : ConT Try.prog 117 Gwith := by
  intro ys φ r h hφ
  unfold Gwith at h
  split at h
  · rename_i ra rb k s n
    obtain ⟨a, ha, h⟩ := Option.bind_eq_some_iff.1 h
    obtain ⟨b, hb, h⟩ := Option.map_eq_some_iff.1 h
    cases h
    cases dec_rowsN_inv ha
    cases dec_rowsA_inv hb
    obtain ⟨ha5, hb5⟩ := hφ
    have hap : rowsA b ++ [[PV.bool k, .str s, .int .i64 n]] = rowsA (b ++ [⟨k, s, n⟩]) := by rw [rowsA_append]; rfl
    have m1 := flat_rowsA b
    have m2 : ∀ r ∈ rowsA b, r.length = 3 := by
      intro r hr
      simp only [rowsA, List.mem_map] at hr
      obtain ⟨c, _, rfl⟩ := hr
      rfl
    refine con_of tab_nil (by kernel_rfl) fn117 (by simp) ?_
    unfold body117
    simp (config := { maxSteps := 3000000 }) [ha5, hb5, hap, maxLen_eq]
    exact ⟨⟨by omega, by omega, m2⟩, by omega, by omega⟩
  · cases h

/-! ### Add, Remove, Fail of the reference -/

/-- a directory: what was durable, and what is pending -/
structure Dr where
  d : List Nm
  m : List Ac
def Dr.now (r : Dr) : List Nm := aftA r.d r.m
def addR (r : Dr) (s : List UInt8) (n : Int) : Dr × Int :=
  if s = [] ∨ n < 0 then (r, 2) else if (getN r.now s).isSome then (r, 81) else (⟨r.d, r.m ++ [⟨true, s, n⟩]⟩, 0)
def remR (r : Dr) (s : List UInt8) : Dr × Int × Int :=
  match getN r.now s with
  | none => (r, 0, 80)
  | some n => (⟨r.d, r.m ++ [⟨false, s, n⟩]⟩, n, 0)
def failR (r : Dr) (k : Int) : Dr := ⟨aftA r.d (r.m.take k.toNat), []⟩
def drV (r : Dr) : AV := .agg [.pv (.ro (rowsN r.d)), .pv (.ro (rowsA r.m))]

noncomputable def GrAdd : List AV → Option (Prop × AV)
  | [.agg [.pv (.ro a), .pv (.ro b)], .pv (.str s), .pv (.int .i64 n)] => (dec rowN a).bind fun l => (dec rowA b).map fun m => (l.length ≤ 10000 ∧ m.length ≤ 10000, .tup [drV (addR ⟨l, m⟩ s n).1, .pv (.int .i64 (addR ⟨l, m⟩ s n).2)])
  | _ => none
@[simp] theorem GrAdd_eq (a b : List (List PV)) (s : List UInt8) (n : Int) : GrAdd [.agg [.pv (.ro a), .pv (.ro b)], .pv (.str s), .pv (.int .i64 n)] = (dec rowN a).bind fun l => (dec rowA b).map fun m => (l.length ≤ 10000 ∧ m.length ≤ 10000, .tup [drV (addR ⟨l, m⟩ s n).1, .pv (.int .i64 (addR ⟨l, m⟩ s n).2)]) := rfl
theorem c_rAdd : ConT Try.prog 70 GrAdd := by
  intro ys φ r h hφ
  unfold GrAdd at h
  split at h
  · rename_i ra rb s n
    obtain ⟨a, ha, h⟩ := Option.bind_eq_some_iff.1 h
    obtain ⟨b, hb, h⟩ := Option.map_eq_some_iff.1 h
    cases h
    cases dec_rowsN_inv ha
    cases dec_rowsA_inv hb
    obtain ⟨ha5, hb5⟩ := hφ
    have ha6 : a.length ≤ 100000 := by omega
    have hb6 : b.length ≤ 100000 := by omega
    refine con_of (tab_cons c_rGt (tab_cons c_with tab_nil)) (by kernel_rfl) fn70 (by simp) ?_
    unfold body70
    by_cases h1 : s = []
    · subst h1
      have hx : addR ⟨a, b⟩ [] n = (⟨a, b⟩, 2) := by unfold addR; rw [if_pos (.inl rfl)]
      simp (config := { maxSteps := 3000000 }) [hx, drV]
    · by_cases h2 : n < 0
      · have hx : addR ⟨a, b⟩ s n = (⟨a, b⟩, 2) := by unfold addR; rw [if_pos (.inr h2)]
        simp (config := { maxSteps := 3000000 }) [h1, h2, hx, drV]
      · cases hg : getN (aftA a b) s with
        | some k =>
          have hx : addR ⟨a, b⟩ s n = (⟨a, b⟩, 81) := by unfold addR; rw [if_neg (by simp [h1, h2]), if_pos (by simp [Dr.now, hg])]
          simp (config := { maxSteps := 3000000 }) [h1, h2, hx, hg, ha6, hb6, drV]
        | none =>
          have hx : addR ⟨a, b⟩ s n = (⟨a, b ++ [⟨true, s, n⟩]⟩, 0) := by unfold addR; rw [if_neg (by simp [h1, h2]), if_neg (by simp [Dr.now, hg])]
          simp (config := { maxSteps := 3000000 }) [h1, h2, hx, hg, ha6, hb6, drV]
  · cases h

noncomputable def GrRem : List AV → Option (Prop × AV)
  | [.agg [.pv (.ro a), .pv (.ro b)], .pv (.str s)] => (dec rowN a).bind fun l => (dec rowA b).map fun m => (l.length ≤ 10000 ∧ m.length ≤ 10000, .tup [drV (remR ⟨l, m⟩ s).1, .pv (.int .i64 (remR ⟨l, m⟩ s).2.1), .pv (.int .i64 (remR ⟨l, m⟩ s).2.2)])
  | _ => none
@[simp] theorem GrRem_eq (a b : List (List PV)) (s : List UInt8) : GrRem [.agg [.pv (.ro a), .pv (.ro b)], .pv (.str s)] = (dec rowN a).bind fun l => (dec rowA b).map fun m => (l.length ≤ 10000 ∧ m.length ≤ 10000, .tup [drV (remR ⟨l, m⟩ s).1, .pv (.int .i64 (remR ⟨l, m⟩ s).2.1), .pv (.int .i64 (remR ⟨l, m⟩ s).2.2)]) := rfl
theorem c_rRem : ConT Try.prog 71 GrRem := by
  intro ys φ r h hφ
  unfold GrRem at h
  split at h
  · rename_i ra rb s
    obtain ⟨a, ha, h⟩ := Option.bind_eq_some_iff.1 h
    obtain ⟨b, hb, h⟩ := Option.map_eq_some_iff.1 h
    cases h
    cases dec_rowsN_inv ha
    cases dec_rowsA_inv hb
    obtain ⟨ha5, hb5⟩ := hφ
    have ha6 : a.length ≤ 100000 := by omega
    have hb6 : b.length ≤ 100000 := by omega
    refine con_of (tab_cons c_rGt (tab_cons c_with tab_nil)) (by kernel_rfl) fn71 (by simp) ?_
    unfold body71
    cases hg : getN (aftA a b) s with
    | none =>
      have hx : remR ⟨a, b⟩ s = (⟨a, b⟩, 0, 80) := by unfold remR; simp only [Dr.now, hg]
      simp (config := { maxSteps := 3000000 }) [hx, hg, ha6, hb6, drV]
    | some k =>
      have hx : remR ⟨a, b⟩ s = (⟨a, b ++ [⟨false, s, k⟩]⟩, k, 0) := by unfold remR; simp only [Dr.now, hg]
      simp (config := { maxSteps := 3000000 }) [hx, hg, ha6, hb6, drV]
  · cases h

noncomputable def GrFail : List AV → Option (Prop × AV)
  | [.agg [.pv (.ro a), .pv (.ro b)], .pv (.int .i64 n)] => (dec rowN a).bind fun l => (dec rowA b).map fun m => (l.length ≤ 10000 ∧ m.length ≤ 10000, drV (failR ⟨l, m⟩ n))
  | _ => none
@[simp] theorem GrFail_eq (a b : List (List PV)) (n : Int) : GrFail [.agg [.pv (.ro a), .pv (.ro b)], .pv (.int .i64 n)] = (dec rowN a).bind fun l => (dec rowA b).map fun m => (l.length ≤ 10000 ∧ m.length ≤ 10000, drV (failR ⟨l, m⟩ n)) := rfl
theorem c_rFail : ConT Try.prog 74 GrFail := by
  intro ys φ r h hφ
  unfold GrFail at h
  split at h
  · rename_i ra rb n
    obtain ⟨a, ha, h⟩ := Option.bind_eq_some_iff.1 h
    obtain ⟨b, hb, h⟩ := Option.map_eq_some_iff.1 h
    cases h
    cases dec_rowsN_inv ha
    cases dec_rowsA_inv hb
    obtain ⟨ha5, hb5⟩ := hφ
    have ha6 : a.length ≤ 100000 := by omega
    have hb6 : b.length ≤ 100000 := by omega
    refine con_of (tab_cons c_aft tab_nil) (by kernel_rfl) fn74 (by simp) ?_
    unfold body74
    simp (config := { maxSteps := 3000000 }) [ha6, hb6, drV, failR]
    refine ⟨⟨by omega, by omega⟩, ?_⟩
    by_cases hn : n.toNat ≤ b.length
    · rw [show (max 0 (min n (b.length : Int))).toNat = n.toNat by omega]
    · rw [show (max 0 (min n (b.length : Int))).toNat = b.length by omega, List.take_of_length_le (Nat.le_refl _), List.take_of_length_le (i := n.toNat) (by omega)]
  · cases h

end Go.Proofs.Ythblkhafehanfaa.Ab
