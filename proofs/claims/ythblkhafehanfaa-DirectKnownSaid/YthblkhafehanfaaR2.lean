/- Chapter 8, the reference: rows of names; put, without, and what is there behind so many operations. -/
import Derived.Test.YthblkhafehanfaaAb23
import Derived.Test.YthblkhafehanfaaAb24
import Derived.Test.YthblkhafehanfaaCodeR
namespace Go.Proofs.Ythblkhafehanfaa.Ab
open Go Go.RowKit R
set_option linter.unusedVariables false
set_option linter.unusedSimpArgs false
set_option maxHeartbeats 4000000
set_option maxRecDepth 100000

/-! ### The order of texts -/

theorem bl_irrefl : ∀ a : List UInt8, Op.bytesLess a a = false
  | [] => rfl
  | a :: x => by simp [Op.bytesLess, bl_irrefl x]
theorem bl_trans : ∀ a b c : List UInt8, Op.bytesLess a b = true → Op.bytesLess b c = true → Op.bytesLess a c = true
  | _, [], _, h, _ => by simp [Op.bytesLess] at h
  | _, _ :: _, [], _, h => by simp [Op.bytesLess] at h
  | [], _ :: _, _ :: _, _, _ => rfl
  | a :: x, b :: y, c :: z, h1, h2 => by
    simp only [Op.bytesLess, Bool.or_eq_true, decide_eq_true_eq, Bool.and_eq_true, beq_iff_eq] at h1 h2 ⊢
    rcases h1 with h1 | ⟨rfl, h1⟩
    · rcases h2 with h2 | ⟨rfl, h2⟩
      · exact .inl (UInt8.lt_trans h1 h2)
      · exact .inl h1
    · rcases h2 with h2 | ⟨rfl, h2⟩
      · exact .inl h2
      · exact .inr ⟨rfl, bl_trans x y z h1 h2⟩
theorem bl_tri : ∀ a b : List UInt8, Op.bytesLess a b = false → Op.bytesLess b a = false → a = b
  | [], [], _, _ => rfl
  | [], _ :: _, h, _ => by simp [Op.bytesLess] at h
  | _ :: _, [], _, h => by simp [Op.bytesLess] at h
  | a :: x, b :: y, h1, h2 => by
    simp only [Op.bytesLess, Bool.or_eq_false_iff, decide_eq_false_iff_not, Bool.and_eq_false_iff, beq_eq_false_iff_ne] at h1 h2
    have hab : a = b := by
      apply UInt8.toNat_inj.1
      have h3 : ¬ a.toNat < b.toNat := h1.1
      have h4 : ¬ b.toNat < a.toNat := h2.1
      omega
    subst hab
    have h3 := h1.2.resolve_left (fun h => h rfl)
    have h4 := h2.2.resolve_left (fun h => h rfl)
    rw [bl_tri x y h3 h4]
theorem bl_asymm {a b : List UInt8} (h : Op.bytesLess a b = true) : Op.bytesLess b a = false := by
  cases hb : Op.bytesLess b a with
  | false => rfl
  | true => have := bl_trans a b a h hb; rw [bl_irrefl] at this; cases this
theorem bl_ne {a b : List UInt8} (h : Op.bytesLess a b = true) : a ≠ b := by rintro rfl; rw [bl_irrefl] at h; cases h

/-! ### Rows -/

structure Nm where
  n : List UInt8
  i : Int
  deriving DecidableEq
def rowN (e : Nm) : List PV := [.str e.n, .int .i64 e.i]
theorem rowN_inj : ∀ a b, rowN a = rowN b → a = b := by
  rintro ⟨k, n⟩ ⟨k', n'⟩ h
  simp only [rowN, List.cons.injEq, PV.int.injEq, PV.str.injEq, true_and, and_true] at h
  rw [h.1, h.2]
def rowsN (l : List Nm) : List (List PV) := l.map rowN
@[simp] theorem rowsN_nil : rowsN [] = [] := rfl
@[simp] theorem rowsN_length (l : List Nm) : (rowsN l).length = l.length := by simp [rowsN]
theorem rowsN_append (l m : List Nm) : rowsN (l ++ m) = rowsN l ++ rowsN m := by simp [rowsN]
theorem rowsN_at {l : List Nm} {i : Nat} (h : i < l.length) : rowAt (rowsN l) (i : Int) = [.str l[i].n, .int .i64 l[i].i] := by
  simp [rowAt, rowsN, h, rowN]
@[simp] theorem dec_rowsN (l : List Nm) : dec rowN (rowsN l) = some l := dec_map rowN_inj l
theorem dec_rowsN_inv {rows : List (List PV)} {l : List Nm} (h : dec rowN rows = some l) : rows = rowsN l := dec_inv h
theorem flat_rowsN (l : List Nm) : flatRows (rowsN l) := by
  intro r hr p hp
  simp only [rowsN, List.mem_map] at hr
  obtain ⟨c, _, rfl⟩ := hr
  simp only [rowN, List.mem_cons, List.not_mem_nil, or_false] at hp
  rcases hp with rfl | rfl <;> rfl

/-- an operation of the reference: an Add, or a Remove -/
structure Ac where
  a : Bool
  e : Nm
  deriving DecidableEq
def rowA (x : Ac) : List PV := [.bool x.a, .str x.e.n, .int .i64 x.e.i]
theorem rowA_inj : ∀ a b, rowA a = rowA b → a = b := by
  rintro ⟨k, n, i⟩ ⟨k', n', i'⟩ h
  simp only [rowA, List.cons.injEq, PV.int.injEq, PV.str.injEq, PV.bool.injEq, true_and, and_true] at h
  rw [h.1, h.2.1, h.2.2]
def rowsA (l : List Ac) : List (List PV) := l.map rowA
@[simp] theorem rowsA_nil : rowsA [] = [] := rfl
@[simp] theorem rowsA_length (l : List Ac) : (rowsA l).length = l.length := by simp [rowsA]
theorem rowsA_append (l m : List Ac) : rowsA (l ++ m) = rowsA l ++ rowsA m := by simp [rowsA]
theorem rowsA_at {l : List Ac} {i : Nat} (h : i < l.length) : rowAt (rowsA l) (i : Int) = [.bool l[i].a, .str l[i].e.n, .int .i64 l[i].e.i] := by
  simp [rowAt, rowsA, h, rowA]
@[simp] theorem dec_rowsA (l : List Ac) : dec rowA (rowsA l) = some l := dec_map rowA_inj l
theorem dec_rowsA_inv {rows : List (List PV)} {l : List Ac} (h : dec rowA rows = some l) : rows = rowsA l := dec_inv h
theorem flat_rowsA (l : List Ac) : flatRows (rowsA l) := by
  intro r hr p hp
  simp only [rowsA, List.mem_map] at hr
  obtain ⟨c, _, rfl⟩ := hr
  simp only [rowA, List.mem_cons, List.not_mem_nil, or_false] at hp
  rcases hp with rfl | rfl | rfl <;> rfl

/-! ### put, without -/

def plN (l : List Nm) (s : List UInt8) : Nat := l.findIdx fun e => Op.bytesLess s e.n
def putN (l : List Nm) (x : Nm) : List Nm := l.take (plN l x.n) ++ x :: l.drop (plN l x.n)
def woN (l : List Nm) (s : List UInt8) : List Nm := l.filter fun e => !decide (e.n = s)
theorem plN_le (l : List Nm) (s : List UInt8) : plN l s ≤ l.length := List.findIdx_le_length
theorem plN_lt {l : List Nm} {s : List UInt8} {j : Nat} (h : j < plN l s) : Op.bytesLess s (l[j]'(by have := plN_le l s; omega)).n = false := by
  have := List.not_of_lt_findIdx h
  simpa using this
theorem plN_at {l : List Nm} {s : List UInt8} (h : plN l s < l.length) : Op.bytesLess s l[plN l s].n = true := List.findIdx_getElem (w := h)
theorem putN_len (l : List Nm) (e : Nm) : (putN l e).length = l.length + 1 := by
  have := plN_le l e.n
  unfold putN
  simp; omega
theorem woN_len (l : List Nm) (s : List UInt8) : (woN l s).length ≤ l.length := List.length_filter_le _ _

noncomputable def GputN : List AV → Option (Prop × AV)
  | [.pv (.ro a), .agg [.pv (.str s), .pv (.int .i64 n)]] => (dec rowN a).map fun l => (l.length ≤ 1000000, .pv (.ro (rowsN (putN l ⟨s, n⟩))))
  | _ => none
@[simp] theorem GputN_eq (a : List (List PV)) (s : List UInt8) (n : Int) : GputN [.pv (.ro a), .agg [.pv (.str s), .pv (.int .i64 n)]] = (dec rowN a).map fun l => (l.length ≤ 1000000, .pv (.ro (rowsN (putN l ⟨s, n⟩)))) := rfl
theorem c_putN : ConT Try.prog 156 GputN := by
  intro ys φ r h hφ
  unfold GputN at h
  split at h
  · rename_i ra s n
    obtain ⟨a, ha, h⟩ := Option.map_eq_some_iff.1 h
    cases h
    cases dec_rowsN_inv ha
    have hk := plN_le a s
    obtain ⟨k, hkd⟩ : ∃ k, k = plN a s := ⟨_, rfl⟩
    have hput : putN a ⟨s, n⟩ = a.take k ++ ⟨s, n⟩ :: a.drop k := by unfold putN; rw [hkd]
    refine con_of tab_nil (by kernel_rfl) fn156 (by simp) ?_
    unfold body156
    simp (config := { maxSteps := 3000000 })
    refine vwp_loop (fun i : Nat => i ≤ a.length) (fun i => ⟨[(0, .pv (.ro (rowsN a))), (3, .ptr 3 0), (4, .own 4), (5, .own 5), (6, .pv (.bool (decide (k < i)))), (7, .pv (.int .i64 i))], [(3, .box [.pv (.str s), .pv (.int .i64 n)]), (4, .arr 111 []), (5, .arr 111 (rowsN (if k < i then a.take k ++ ⟨s, n⟩ :: (a.take i).drop k else a.take i)))]⟩) (fun i => a.length - i) [] 0 (by simp) ?_ ?_
    · simp
    · intro i hi
      have w2 : IntKind.i64.wrap ((i : Int) + 1) = (i : Int) + 1 := wrap_i64 (by omega)
      by_cases hlt : i < a.length
      · have r1 := rowsN_at hlt
        have hap : ∀ m : List Nm, rowsN m ++ [[PV.str a[i].n, .int .i64 a[i].i]] = rowsN (m ++ [a[i]]) := fun m => by rw [rowsN_append]; rfl
        have hap2 : ∀ m : List Nm, rowsN m ++ [[PV.str s, .int .i64 n]] = rowsN (m ++ [⟨s, n⟩]) := fun m => by rw [rowsN_append]; rfl
        have htk : a.take (i + 1) = a.take i ++ [a[i]] := List.take_succ_eq_append_getElem hlt
        have hlen : (a.take i).length = i := by rw [List.length_take]; omega
        rcases Nat.lt_trichotomy i k with hik | hik | hik
        · have hb : Op.bytesLess s a[i].n = false := plN_lt (by omega)
          have hb3 : Op.bytesLess a[i].n s = false → a[i].n = s := fun h => (bl_tri _ _ h hb)
          have c1 : ¬ k < i := by omega
          have c2 : ¬ k < i + 1 := by omega
          rcases hb4 : Op.bytesLess a[i].n s with _ | _
          · have hb5 := hb3 hb4
            simp (config := { maxSteps := 3000000 }) [w2, hlt, r1, hb5, c1, hap, maxLen_eq]
            refine ⟨⟨by omega, by omega⟩, i + 1, by omega, ⟨⟨by omega, by omega⟩, by rw [if_neg c2, htk, rowsN_append]; simp [rowsN, rowN, hb5]⟩, by omega⟩
          simp (config := { maxSteps := 3000000 }) [w2, hlt, r1, hb4, c1, hap, maxLen_eq]
          refine ⟨⟨by omega, by omega⟩, i + 1, by omega, ⟨⟨by omega, by omega⟩, by rw [if_neg c2, htk]⟩, by omega⟩
        · have hb : Op.bytesLess s a[i].n = true := by
            have := plN_at (l := a) (s := s) (by omega)
            simpa only [← hkd, ← hik] using this
          have hb1 := bl_asymm hb
          have hb2 : ¬ a[i].n = s := fun h => bl_ne hb h.symm
          have c1 : ¬ k < i := by omega
          have c2 : k < i + 1 := by omega
          simp (config := { maxSteps := 3000000 }) [w2, hlt, r1, hb1, hb2, c1, hap, hap2, maxLen_eq]
          exact ⟨⟨by omega, by omega⟩, ⟨by omega, by omega⟩, i + 1, by omega, ⟨⟨by omega, by omega⟩, by
            have hdr : (a.take i ++ [a[i]]).drop k = [a[i]] := by rw [← hik, List.drop_append_of_le_length (by omega), List.drop_of_length_le (by omega)]; rfl
            rw [if_pos c2, htk, hdr, ← hik]⟩, by omega⟩
        · have c1 : k < i := by omega
          have c2 : k < i + 1 := by omega
          simp (config := { maxSteps := 3000000 }) [w2, hlt, r1, c1, hap, maxLen_eq]
          exact ⟨⟨by omega, by omega⟩, i + 1, by omega, ⟨⟨by omega, by omega⟩, by rw [if_pos c2, htk, List.drop_append_of_le_length (by omega)]⟩, by omega⟩
      · have hia : i = a.length := by omega
        subst hia
        by_cases hkl : k < a.length
        · simp (config := { maxSteps := 3000000 }) [hkl, hput]
        · have hkl' : k = a.length := by omega
          have hap2 : ∀ m : List Nm, rowsN m ++ [[PV.str s, .int .i64 n]] = rowsN (m ++ [⟨s, n⟩]) := fun m => by rw [rowsN_append]; rfl
          simp (config := { maxSteps := 3000000 }) [hkl, hput, hap2, hkl', maxLen_eq]
          exact ⟨by omega, by omega⟩
  · cases h

noncomputable def GwoN : List AV → Option (Prop × AV)
  | [.pv (.ro a), .pv (.str s)] => (dec rowN a).map fun l => (l.length ≤ 1000000, .pv (.ro (rowsN (woN l s))))
  | _ => none
@[simp] theorem GwoN_eq (a : List (List PV)) (s : List UInt8) : GwoN [.pv (.ro a), .pv (.str s)] = (dec rowN a).map fun l => (l.length ≤ 1000000, .pv (.ro (rowsN (woN l s)))) := rfl
theorem c_woN : ConT Try.prog 157 GwoN := by
  intro ys φ r h hφ
  unfold GwoN at h
  split at h
  · rename_i ra s
    obtain ⟨a, ha, h⟩ := Option.map_eq_some_iff.1 h
    cases h
    cases dec_rowsN_inv ha
    refine con_of tab_nil (by kernel_rfl) fn157 (by simp) ?_
    unfold body157
    simp (config := { maxSteps := 3000000 })
    refine vwp_loop (fun i : Nat => i ≤ a.length) (fun i => ⟨[(0, .pv (.ro (rowsN a))), (1, .pv (.str s)), (4, .own 4), (5, .own 5), (6, .pv (.int .i64 i))], [(4, .arr 111 []), (5, .arr 111 (rowsN (woN (a.take i) s)))]⟩) (fun i => a.length - i) [] 0 (by simp) ?_ ?_
    · simp [woN]
    · intro i hi
      have w2 : IntKind.i64.wrap ((i : Int) + 1) = (i : Int) + 1 := wrap_i64 (by omega)
      by_cases hlt : i < a.length
      · have r1 := rowsN_at hlt
        have hll := woN_len (a.take i) s
        rw [List.length_take] at hll
        have hst : woN (a.take (i + 1)) s = woN (a.take i) s ++ (if a[i].n = s then [] else [a[i]]) := by
          unfold woN
          rw [List.take_succ_eq_append_getElem hlt, List.filter_append]
          by_cases he : a[i].n = s <;> simp [he]
        by_cases he : a[i].n = s
        · rw [if_pos he, List.append_nil] at hst
          simp (config := { maxSteps := 3000000 }) [w2, hlt, r1, he]
          exact ⟨i + 1, by omega, ⟨by omega, by rw [hst]⟩, by omega⟩
        · rw [if_neg he] at hst
          have hap : ∀ m : List Nm, rowsN m ++ [[PV.str a[i].n, .int .i64 a[i].i]] = rowsN (m ++ [a[i]]) := fun m => by rw [rowsN_append]; rfl
          simp (config := { maxSteps := 3000000 }) [w2, hlt, r1, he, hap, maxLen_eq]
          exact ⟨⟨by omega, by omega⟩, i + 1, by omega, ⟨by omega, by rw [hst]⟩, by omega⟩
      · have hia : i = a.length := by omega
        subst hia
        simp (config := { maxSteps := 3000000 })
  · cases h

/-! ### What is there behind so many -/

def stA (l : List Nm) (x : Ac) : List Nm := if x.a then putN l x.e else woN l x.e.n
def aftA (l : List Nm) (m : List Ac) : List Nm := m.foldl stA l
theorem stA_len (l : List Nm) (x : Ac) : (stA l x).length ≤ l.length + 1 := by
  unfold stA
  split
  · rw [putN_len]; omega
  · have := woN_len l x.e.n; omega
theorem aftA_len (m : List Ac) : ∀ l : List Nm, (aftA l m).length ≤ l.length + m.length := by
  induction m with
  | nil => intro l; exact Nat.le_refl _
  | cons x m ih =>
    intro l
    have h1 := ih (stA l x)
    have h2 := stA_len l x
    have h3 : aftA l (x :: m) = aftA (stA l x) m := rfl
    rw [h3, List.length_cons]
    omega

noncomputable def Gaft : List AV → Option (Prop × AV)
  | [.agg [.pv (.ro a), .pv (.ro b)], .pv (.int .i64 n)] => (dec rowN a).bind fun l => (dec rowA b).map fun m => (l.length ≤ 100000 ∧ m.length ≤ 100000 ∧ 0 ≤ n ∧ n.toNat ≤ m.length, .pv (.ro (rowsN (aftA l (m.take n.toNat)))))
  | _ => none
@[simp] theorem Gaft_eq (a b : List (List PV)) (n : Int) : Gaft [.agg [.pv (.ro a), .pv (.ro b)], .pv (.int .i64 n)] = (dec rowN a).bind fun l => (dec rowA b).map fun m => (l.length ≤ 100000 ∧ m.length ≤ 100000 ∧ 0 ≤ n ∧ n.toNat ≤ m.length, .pv (.ro (rowsN (aftA l (m.take n.toNat))))) := rfl
theorem c_aft : ConT Try.prog 118 Gaft := by
  intro ys φ r h hφ
  unfold Gaft at h
  split at h
  · rename_i ra rb z
    obtain ⟨a, ha, h⟩ := Option.bind_eq_some_iff.1 h
    obtain ⟨b, hb, h⟩ := Option.map_eq_some_iff.1 h
    cases h
    cases dec_rowsN_inv ha
    cases dec_rowsA_inv hb
    obtain ⟨ha5, hb5, hz, hzb⟩ := hφ
    obtain ⟨n, rfl⟩ : ∃ n : Nat, z = n := ⟨z.toNat, by omega⟩
    simp only [Int.toNat_natCast] at hzb ⊢
    refine con_of (tab_cons c_putN (tab_cons c_woN tab_nil)) (by kernel_rfl) fn118 (by simp) ?_
    unfold body118
    simp (config := { maxSteps := 3000000 })
    refine vwp_loop (fun i : Nat => i ≤ n) (fun i => ⟨[(1, .pv (.int .i64 n)), (2, .ptr 2 0), (4, .own 4), (5, .pv (.ro (rowsN (aftA a (b.take i))))), (6, .pv (.int .i64 i))], [(2, .box [.pv (.ro (rowsN a)), .pv (.ro (rowsA b))]), (4, .arr 111 [])]⟩) (fun i => n - i) [] 0 (by simp) ?_ ?_
    · simp [aftA]
    · intro i hi
      have w2 : IntKind.i64.wrap ((i : Int) + 1) = (i : Int) + 1 := wrap_i64 (by omega)
      by_cases hlt : i < n
      · have hlb : i < b.length := by omega
        have r1 := rowsA_at hlb
        have hl6 : (aftA a (b.take i)).length ≤ 1000000 := by
          have := aftA_len (b.take i) a
          rw [List.length_take] at this
          omega
        have hst : aftA a (b.take (i + 1)) = stA (aftA a (b.take i)) b[i] := by
          unfold aftA
          rw [List.take_succ_eq_append_getElem hlb, List.foldl_append]
          rfl
        cases hba : b[i].a with
        | true =>
          have hs2 : stA (aftA a (b.take i)) b[i] = putN (aftA a (b.take i)) ⟨b[i].e.n, b[i].e.i⟩ := by unfold stA; rw [if_pos hba]
          simp (config := { maxSteps := 3000000 }) [w2, hlt, hlb, r1, hba, hl6]
          exact ⟨i + 1, by omega, ⟨by rw [hst, hs2], by omega⟩, by omega⟩
        | false =>
          have hs2 : stA (aftA a (b.take i)) b[i] = woN (aftA a (b.take i)) b[i].e.n := by unfold stA; rw [if_neg (by simp [hba])]
          simp (config := { maxSteps := 3000000 }) [w2, hlt, hlb, r1, hba, hl6]
          exact ⟨i + 1, by omega, ⟨by rw [hst, hs2], by omega⟩, by omega⟩
      · have hia : i = n := by omega
        subst hia
        simp (config := { maxSteps := 3000000 })
  · cases h

end Go.Proofs.Ythblkhafehanfaa.Ab
/- Chapter 8, the reference: List, Get, with, Add, Remove, Fail. -/
namespace Go.Proofs.Ythblkhafehanfaa.Ab
open Go Go.RowKit R
set_option linter.unusedVariables false
set_option linter.unusedSimpArgs false
set_option maxHeartbeats 4000000
set_option maxRecDepth 100000

noncomputable def GrLi : List AV → Option (Prop × AV)
  | [.agg [.pv (.ro a), .pv (.ro b)]] => (dec rowN a).bind fun l => (dec rowA b).map fun m => (l.length ≤ 100000 ∧ m.length ≤ 100000, .pv (.ro (rowsN (aftA l m))))
  | _ => none
@[simp] theorem GrLi_eq (a b : List (List PV)) : GrLi [.agg [.pv (.ro a), .pv (.ro b)]] = (dec rowN a).bind fun l => (dec rowA b).map fun m => (l.length ≤ 100000 ∧ m.length ≤ 100000, .pv (.ro (rowsN (aftA l m)))) := rfl
theorem c_rLi : ConT Try.prog 73 GrLi := by
  intro ys φ r h hφ
  unfold GrLi at h
  split at h
  · rename_i ra rb
    obtain ⟨a, ha, h⟩ := Option.bind_eq_some_iff.1 h
    obtain ⟨b, hb, h⟩ := Option.map_eq_some_iff.1 h
    cases h
    cases dec_rowsN_inv ha
    cases dec_rowsA_inv hb
    obtain ⟨ha5, hb5⟩ := hφ
    refine con_of (tab_cons c_aft tab_nil) (by kernel_rfl) fn73 (by simp) ?_
    unfold body73
    simp (config := { maxSteps := 3000000 }) [ha5, hb5]
  · cases h

/-- the number of the first of a name, and whether there is one -/
def getN (l : List Nm) (s : List UInt8) : Option Int := (l.find? fun e => decide (e.n = s)).map (·.i)
theorem getN_nil (s : List UInt8) : getN [] s = none := rfl
noncomputable def GrGt : List AV → Option (Prop × AV)
  | [.agg [.pv (.ro a), .pv (.ro b)], .pv (.str s)] => (dec rowN a).bind fun l => (dec rowA b).map fun m => (l.length ≤ 100000 ∧ m.length ≤ 100000, .tup [.pv (.int .i64 ((getN (aftA l m) s).getD 0)), .pv (.bool (getN (aftA l m) s).isSome)])
  | _ => none
@[simp] theorem GrGt_eq (a b : List (List PV)) (s : List UInt8) : GrGt [.agg [.pv (.ro a), .pv (.ro b)], .pv (.str s)] = (dec rowN a).bind fun l => (dec rowA b).map fun m => (l.length ≤ 100000 ∧ m.length ≤ 100000, .tup [.pv (.int .i64 ((getN (aftA l m) s).getD 0)), .pv (.bool (getN (aftA l m) s).isSome)]) := rfl
theorem c_rGt : ConT Try.prog 72 GrGt := by
  intro ys φ r h hφ
  unfold GrGt at h
  split at h
  · rename_i ra rb s
    obtain ⟨a, ha, h⟩ := Option.bind_eq_some_iff.1 h
    obtain ⟨b, hb, h⟩ := Option.map_eq_some_iff.1 h
    cases h
    cases dec_rowsN_inv ha
    cases dec_rowsA_inv hb
    obtain ⟨ha5, hb5⟩ := hφ
    have hl := aftA_len b a
    refine con_of (tab_cons c_rLi tab_nil) (by kernel_rfl) fn72 (by simp) ?_
    unfold body72
    simp (config := { maxSteps := 3000000 }) [ha5, hb5]
    generalize aftA a b = c at *
    refine vwp_loop (fun i : Nat => i ≤ c.length ∧ ∀ (j : Nat) (h : j < c.length), j < i → ¬ c[j].n = s) (fun i => ⟨[(1, .pv (.str s)), (2, .ptr 2 0), (4, .pv (.int .i64 0)), (5, .pv (.bool false)), (6, .pv (.ro (rowsN c))), (7, .pv (.int .i64 i))], [(2, .box [.pv (.ro (rowsN a)), .pv (.ro (rowsA b))])]⟩) (fun i => c.length - i) [] 0 (by simp) ?_ ?_
    · simp
    · rintro i ⟨hi, hj⟩
      have w2 : IntKind.i64.wrap ((i : Int) + 1) = (i : Int) + 1 := wrap_i64 (by omega)
      by_cases hlt : i < c.length
      · have r1 := rowsN_at hlt
        by_cases he : c[i].n = s
        · have hg : getN c s = some c[i].i := by
            have hf : c.find? (fun e => decide (e.n = s)) = some c[i] := by
              rw [List.find?_eq_some_iff_getElem]
              exact ⟨by simpa using he, i, hlt, rfl, fun j hji => by simpa using hj j (by omega) hji⟩
            unfold getN
            rw [hf]; rfl
          simp (config := { maxSteps := 3000000 }) [hlt, r1, he, hg]
        · simp (config := { maxSteps := 3000000 }) [hlt, r1, he, w2]
          refine ⟨i + 1, ⟨by omega, fun j h hji => ?_⟩, by omega, by omega⟩
          rcases Nat.lt_or_eq_of_le (Nat.le_of_lt_succ hji) with h1 | rfl
          · exact hj j h h1
          · exact he
      · have hia : i = c.length := by omega
        subst hia
        have hg : getN c s = none := by
          have hf : c.find? (fun e => decide (e.n = s)) = none := by
            rw [List.find?_eq_none]
            intro e he
            obtain ⟨j, h, rfl⟩ := List.getElem_of_mem he
            simpa using hj j h h
          unfold getN
          rw [hf]; rfl
        simp (config := { maxSteps := 3000000 }) [hg]
  · cases h

noncomputable def Gwith : List AV → Option (Prop × AV)
  | [.agg [.pv (.ro a), .pv (.ro b)], .agg [.pv (.bool k), .pv (.str s), .pv (.int .i64 n)]] => (dec rowN a).bind fun l => (dec rowA b).map fun m => (l.length ≤ 100000 ∧ m.length ≤ 100000, .agg [.pv (.ro (rowsN l)), .pv (.ro (rowsA (m ++ [⟨k, s, n⟩])))])
  | _ => none
@[simp] theorem Gwith_eq (a b : List (List PV)) (k : Bool) (s : List UInt8) (n : Int) : Gwith [.agg [.pv (.ro a), .pv (.ro b)], .agg [.pv (.bool k), .pv (.str s), .pv (.int .i64 n)]] = (dec rowN a).bind fun l => (dec rowA b).map fun m => (l.length ≤ 100000 ∧ m.length ≤ 100000, .agg [.pv (.ro (rowsN l)), .pv (.ro (rowsA (m ++ [⟨k, s, n⟩])))]) := rfl
theorem c_with : ConT Try.prog 117 Gwith := by
  intro ys φ r h hφ
  unfold Gwith at h
  split at h
  · rename_i ra rb k s n
    obtain ⟨a, ha, h⟩ := Option.bind_eq_some_iff.1 h
    obtain ⟨b, hb, h⟩ := Option.map_eq_some_iff.1 h
    cases h
    cases dec_rowsN_inv ha
    cases dec_rowsA_inv hb
    obtain ⟨ha5, hb5⟩ := hφ
    have hap : rowsA b ++ [[PV.bool k, .str s, .int .i64 n]] = rowsA (b ++ [⟨k, s, n⟩]) := by rw [rowsA_append]; rfl
    have m1 := flat_rowsA b
    have m2 : ∀ r ∈ rowsA b, r.length = 3 := by
      intro r hr
      simp only [rowsA, List.mem_map] at hr
      obtain ⟨c, _, rfl⟩ := hr
      rfl
    refine con_of tab_nil (by kernel_rfl) fn117 (by simp) ?_
    unfold body117
    simp (config := { maxSteps := 3000000 }) [ha5, hb5, hap, maxLen_eq]
    exact ⟨⟨by omega, by omega, m2⟩, by omega, by omega⟩
  · cases h

/-! ### Add, Remove, Fail of the reference -/

/-- a directory: what was durable, and what is pending -/
structure Dr where
  d : List Nm
  m : List Ac
def Dr.now (r : Dr) : List Nm := aftA r.d r.m
def addR (r : Dr) (s : List UInt8) (n : Int) : Dr × Int :=
  if s = [] ∨ n < 0 then (r, 2) else if (getN r.now s).isSome then (r, 81) else (⟨r.d, r.m ++ [⟨true, s, n⟩]⟩, 0)
def remR (r : Dr) (s : List UInt8) : Dr × Int × Int :=
  match getN r.now s with
  | none => (r, 0, 80)
  | some n => (⟨r.d, r.m ++ [⟨false, s, n⟩]⟩, n, 0)
def failR (r : Dr) (k : Int) : Dr := ⟨aftA r.d (r.m.take k.toNat), []⟩
def drV (r : Dr) : AV := .agg [.pv (.ro (rowsN r.d)), .pv (.ro (rowsA r.m))]

noncomputable def GrAdd : List AV → Option (Prop × AV)
  | [.agg [.pv (.ro a), .pv (.ro b)], .pv (.str s), .pv (.int .i64 n)] => (dec rowN a).bind fun l => (dec rowA b).map fun m => (l.length ≤ 10000 ∧ m.length ≤ 10000, .tup [drV (addR ⟨l, m⟩ s n).1, .pv (.int .i64 (addR ⟨l, m⟩ s n).2)])
  | _ => none
@[simp] theorem GrAdd_eq (a b : List (List PV)) (s : List UInt8) (n : Int) : GrAdd [.agg [.pv (.ro a), .pv (.ro b)], .pv (.str s), .pv (.int .i64 n)] = (dec rowN a).bind fun l => (dec rowA b).map fun m => (l.length ≤ 10000 ∧ m.length ≤ 10000, .tup [drV (addR ⟨l, m⟩ s n).1, .pv (.int .i64 (addR ⟨l, m⟩ s n).2)]) := rfl
theorem c_rAdd : ConT Try.prog 70 GrAdd := by
  intro ys φ r h hφ
  unfold GrAdd at h
  split at h
  · rename_i ra rb s n
    obtain ⟨a, ha, h⟩ := Option.bind_eq_some_iff.1 h
    obtain ⟨b, hb, h⟩ := Option.map_eq_some_iff.1 h
    cases h
    cases dec_rowsN_inv ha
    cases dec_rowsA_inv hb
    obtain ⟨ha5, hb5⟩ := hφ
    have ha6 : a.length ≤ 100000 := by omega
    have hb6 : b.length ≤ 100000 := by omega
    refine con_of (tab_cons c_rGt (tab_cons c_with tab_nil)) (by kernel_rfl) fn70 (by simp) ?_
    unfold body70
    by_cases h1 : s = []
    · subst h1
      have hx : addR ⟨a, b⟩ [] n = (⟨a, b⟩, 2) := by unfold addR; rw [if_pos (.inl rfl)]
      simp (config := { maxSteps := 3000000 }) [hx, drV]
    · by_cases h2 : n < 0
      · have hx : addR ⟨a, b⟩ s n = (⟨a, b⟩, 2) := by unfold addR; rw [if_pos (.inr h2)]
        simp (config := { maxSteps := 3000000 }) [h1, h2, hx, drV]
      · cases hg : getN (aftA a b) s with
        | some k =>
          have hx : addR ⟨a, b⟩ s n = (⟨a, b⟩, 81) := by unfold addR; rw [if_neg (by simp [h1, h2]), if_pos (by simp [Dr.now, hg])]
          simp (config := { maxSteps := 3000000 }) [h1, h2, hx, hg, ha6, hb6, drV]
        | none =>
          have hx : addR ⟨a, b⟩ s n = (⟨a, b ++ [⟨true, s, n⟩]⟩, 0) := by unfold addR; rw [if_neg (by simp [h1, h2]), if_neg (by simp [Dr.now, hg])]
          simp (config := { maxSteps := 3000000 }) [h1, h2, hx, hg, ha6, hb6, drV]
  · cases h

noncomputable def GrRem : List AV → Option (Prop × AV)
  | [.agg [.pv (.ro a), .pv (.ro b)], .pv (.str s)] => (dec rowN a).bind fun l => (dec rowA b).map fun m => (l.length ≤ 10000 ∧ m.length ≤ 10000, .tup [drV (remR ⟨l, m⟩ s).1, .pv (.int .i64 (remR ⟨l, m⟩ s).2.1), .pv (.int .i64 (remR ⟨l, m⟩ s).2.2)])
  | _ => none
@[simp] theorem GrRem_eq (a b : List (List PV)) (s : List UInt8) : GrRem [.agg [.pv (.ro a), .pv (.ro b)], .pv (.str s)] = (dec rowN a).bind fun l => (dec rowA b).map fun m => (l.length ≤ 10000 ∧ m.length ≤ 10000, .tup [drV (remR ⟨l, m⟩ s).1, .pv (.int .i64 (remR ⟨l, m⟩ s).2.1), .pv (.int .i64 (remR ⟨l, m⟩ s).2.2)]) := rfl
theorem c_rRem : ConT Try.prog 71 GrRem := by
  intro ys φ r h hφ
  unfold GrRem at h
  split at h
  · rename_i ra rb s
    obtain ⟨a, ha, h⟩ := Option.bind_eq_some_iff.1 h
    obtain ⟨b, hb, h⟩ := Option.map_eq_some_iff.1 h
    cases h
    cases dec_rowsN_inv ha
    cases dec_rowsA_inv hb
    obtain ⟨ha5, hb5⟩ := hφ
    have ha6 : a.length ≤ 100000 := by omega
    have hb6 : b.length ≤ 100000 := by omega
    refine con_of (tab_cons c_rGt (tab_cons c_with tab_nil)) (by kernel_rfl) fn71 (by simp) ?_
    unfold body71
    cases hg : getN (aftA a b) s with
    | none =>
      have hx : remR ⟨a, b⟩ s = (⟨a, b⟩, 0, 80) := by unfold remR; simp only [Dr.now, hg]
      simp (config := { maxSteps := 3000000 }) [hx, hg, ha6, hb6, drV]
    | some k =>
      have hx : remR ⟨a, b⟩ s = (⟨a, b ++ [⟨false, s, k⟩]⟩, k, 0) := by unfold remR; simp only [Dr.now, hg]
      simp (config := { maxSteps := 3000000 }) [hx, hg, ha6, hb6, drV]
  · cases h

noncomputable def GrFail : List AV → Option (Prop × AV)
  | [.agg [.pv (.ro a), .pv (.ro b)], .pv (.int .i64 n)] => (dec rowN a).bind fun l => (dec rowA b).map fun m => (l.length ≤ 10000 ∧ m.length ≤ 10000, drV (failR ⟨l, m⟩ n))
  | _ => none
@[simp] theorem GrFail_eq (a b : List (List PV)) (n : Int) : GrFail [.agg [.pv (.ro a), .pv (.ro b)], .pv (.int .i64 n)] = (dec rowN a).bind fun l => (dec rowA b).map fun m => (l.length ≤ 10000 ∧ m.length ≤ 10000, drV (failR ⟨l, m⟩ n)) := rfl
theorem c_rFail : ConT Try.prog 74 GrFail := by
  intro ys φ r h hφ
  unfold GrFail at h
  split at h
  · rename_i ra rb n
    obtain ⟨a, ha, h⟩ := Option.bind_eq_some_iff.1 h
    obtain ⟨b, hb, h⟩ := Option.map_eq_some_iff.1 h
    cases h
    cases dec_rowsN_inv ha
    cases dec_rowsA_inv hb
    obtain ⟨ha5, hb5⟩ := hφ
    have ha6 : a.length ≤ 100000 := by omega
    have hb6 : b.length ≤ 100000 := by omega
    refine con_of (tab_cons c_aft tab_nil) (by kernel_rfl) fn74 (by simp) ?_
    unfold body74
    simp (config := { maxSteps := 3000000 }) [ha6, hb6, drV, failR]
    refine ⟨⟨by omega, by omega⟩, ?_⟩
    by_cases hn : n.toNat ≤ b.length
    · rw [show (max 0 (min n (b.length : Int))).toNat = n.toNat by omega]
    · rw [show (max 0 (min n (b.length : Int))).toNat = b.length by omega, List.take_of_length_le (Nat.le_refl _), List.take_of_length_le (i := n.toNat) (by omega)]
  · cases h

end Go.Proofs.Ythblkhafehanfaa.Ab
