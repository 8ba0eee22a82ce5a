/- What the functions of package varint do (as far as the deltas need them). -/
import Derived.Test.YtcgllachkjnlgaaCode
import Derived.Test.YtcgllachkjnlgaaAb22
import Derived.Test.YtcgllachkjnlgaaAb23
namespace Go.Proofs.Ytcgllachkjnlgaa.Ab
open Go Go.RowKit R
set_option linter.unusedVariables false
set_option maxHeartbeats 4000000

/-- A number, seven digits a byte. -/
def vput (n : Nat) : List UInt8 :=
  if h : n < 128 then [n.toUInt8] else (n % 128 + 128).toUInt8 :: vput (n / 128)
termination_by n
decreasing_by omega

def vputP (n : Int) : List UInt8 := vput n.toNat

theorem vput_small {n : Nat} (h : n < 128) : vput n = [n.toUInt8] := by rw [vput, dif_pos h]
theorem vput_big {n : Nat} (h : ¬ n < 128) : vput n = (n % 128 + 128).toUInt8 :: vput (n / 128) := by rw [vput, dif_neg h]

theorem or_128 (m : Nat) : sbit .or .u8 ((m : Int) % 256) 128 = .int .u8 (((m % 128 + 128).toUInt8.toNat : Nat) : Int) := by
  have key : ∀ x : Fin 256, IntKind.u8.wrap ((BitVec.ofInt IntKind.u8.bits (x.val : Int) ||| BitVec.ofInt IntKind.u8.bits 128).toNat : Nat) = (((x.val % 128 + 128).toUInt8.toNat : Nat) : Int) := by decide +kernel
  have h := key ⟨m % 256, by omega⟩
  have e1 : (m : Int) % 256 = ((m % 256 : Nat) : Int) := by omega
  have e2 : m % 256 % 128 = m % 128 := by omega
  rw [e1]
  simp only [e2] at h
  unfold sbit
  exact congrArg _ h

def Gput : List AV → Option (Prop × AV)
  | [.pv (.int .u64 n)] => some (0 ≤ n ∧ n ≤ 18446744073709551615, .fr 5 (bytesRow (vputP n)))
  | _ => none
@[simp] theorem Gput_eq (n : Int) : Gput [.pv (.int .u64 n)] = some (0 ≤ n ∧ n ≤ 18446744073709551615, .fr 5 (bytesRow (vputP n))) := rfl

theorem c_put : ConT Try.prog 39 Gput := by
  intro ys φ r h hφ
  unfold Gput at h
  split at h
  · rename_i N
    cases h
    obtain ⟨n, rfl⟩ := Int.eq_ofNat_of_zero_le hφ.1
    have hn : n ≤ 18446744073709551615 := by omega
    refine con_of tab_nil (by kernel_rfl) fn39 (by simp) ?_
    unfold body39
    simp (config := { maxSteps := 3000000 })
    refine vwp_loop (fun x : Nat × List UInt8 => x.2 ++ vput x.1 = vput n ∧ x.1 ≤ 18446744073709551615 ∧ (x.2.length ≤ 10 ∧ x.1 * 128 ^ x.2.length ≤ n)) (fun x => ⟨[(0, .pv (.int .u64 x.1)), (3, .own 3)], [(3, .arr 5 (bytesRow x.2))]⟩) (fun x => x.1) [] (n, []) ?_ ?_ ?_
    · simp [hn]
    · simp
    · rintro ⟨m, acc⟩ ⟨h1, h2, h3, h4⟩
      dsimp only at h1 h2 h3 h4
      simp (config := { maxSteps := 3000000 }) [wrap_u8, -Int.emod_emod_of_dvd, maxLen_eq]
      rw [or_128]
      refine ⟨fun hm => ⟨by omega, m / 128, acc ++ [(m % 128 + 128).toUInt8], ⟨?_, by omega, ?_, ?_⟩, ⟨?_, ?_⟩, by omega⟩, fun hm => ⟨by omega, ?_⟩⟩
      · rw [← h1, vput_big (n := m) (by omega)]; simp
      · simp only [List.length_append, List.length_singleton]
        have : ¬ 9 ≤ acc.length := by
          intro h9
          have h128 : 128 ^ 9 ≤ 128 ^ acc.length := Nat.pow_le_pow_right (by decide) h9
          have : 128 * 128 ^ acc.length ≤ m * 128 ^ acc.length := Nat.mul_le_mul_right _ (by omega)
          omega
        omega
      · simp only [List.length_append, List.length_singleton, Nat.pow_succ]
        refine Nat.le_trans ?_ h4
        have : m / 128 * 128 ≤ m := by omega
        calc m / 128 * (128 ^ acc.length * 128) = (m / 128 * 128) * 128 ^ acc.length := by rw [Nat.mul_comm (128 ^ acc.length) 128, Nat.mul_assoc]
          _ ≤ m * 128 ^ acc.length := Nat.mul_le_mul_right _ this
      · simp [IntKind.bits, Int.fdiv_eq_ediv_of_nonneg]
      · rw [bytesRow_append]; rfl
      · rw [vputP, Int.toNat_natCast, ← h1, vput_small (n := m) (by omega), bytesRow_append]
        simp [bytesRow]
  · cases h

end Go.Proofs.Ytcgllachkjnlgaa.Ab
/- What the reference's functions for numbers do. -/
namespace Go.Proofs.Ytcgllachkjnlgaa.Ab
open Go Go.RowKit R
set_option linter.unusedVariables false
set_option maxHeartbeats 4000000

theorem vput_len (n : Nat) : 1 ≤ (vput n).length := by
  rw [vput]; split <;> simp
theorem vput_len10 : ∀ (k n : Nat), n < 128 ^ (k + 1) → (vput n).length ≤ k + 1
  | 0, n, h => by rw [vput_small (by simpa using h)]; simp
  | k + 1, n, h => by
    by_cases h1 : n < 128
    · rw [vput_small h1]; simp
    · rw [vput_big h1]
      have : n / 128 < 128 ^ (k + 1) := by
        rw [Nat.div_lt_iff_lt_mul (by decide)]
        rw [Nat.pow_succ] at h
        exact h
      have := vput_len10 k (n / 128) this
      simp; omega
theorem vput_le10 {n : Nat} (h : n ≤ 18446744073709551615) : (vput n).length ≤ 10 := vput_len10 9 n (by omega)

def Ggroups : List AV → Option (Prop × AV)
  | [.pv (.int .u64 n)] => some (0 ≤ n ∧ n ≤ 18446744073709551615, .pv (.int .i64 (vputP n).length))
  | _ => none
@[simp] theorem Ggroups_eq (n : Int) : Ggroups [.pv (.int .u64 n)] = some (0 ≤ n ∧ n ≤ 18446744073709551615, .pv (.int .i64 (vputP n).length)) := rfl

theorem c_groups : ConT Try.prog 54 Ggroups := by
  intro ys φ r h hφ
  unfold Ggroups at h
  split at h
  · rename_i N
    cases h
    obtain ⟨n, rfl⟩ := Int.eq_ofNat_of_zero_le hφ.1
    have hn : n ≤ 18446744073709551615 := by omega
    have hl := vput_le10 hn
    refine con_of tab_nil (by kernel_rfl) fn54 (by simp) ?_
    unfold body54
    simp (config := { maxSteps := 3000000 })
    refine vwp_loop (fun x : Nat × Nat => x.2 + (vput x.1).length = (vput n).length + 1 ∧ x.1 ≤ 18446744073709551615) (fun x => ⟨[(0, .pv (.int .u64 x.1)), (3, .pv (.int .i64 x.2))], []⟩) (fun x => x.1) [] (n, 1) ?_ ?_ ?_
    · simp [hn]; omega
    · simp
    · rintro ⟨m, k⟩ ⟨h1, h2⟩
      dsimp only at h1 h2
      have hl2 := vput_len m
      simp (config := { maxSteps := 3000000 }) (disch := omega) [wrap_i64, wrap_u64]
      refine ⟨fun hm => ⟨m / 128, k + 1, ⟨?_, by omega⟩, ⟨by omega, by omega⟩, by omega⟩, fun hm => ?_⟩
      · rw [vput_big (n := m) (by omega)] at h1
        simp at h1; omega
      · rw [vput_small (n := m) (by omega)] at h1
        simp at h1
        rw [vputP, Int.toNat_natCast]; omega
  · cases h

end Go.Proofs.Ytcgllachkjnlgaa.Ab
/- What the reference's functions for numbers do, second part. -/
namespace Go.Proofs.Ytcgllachkjnlgaa.Ab
open Go Go.RowKit R
set_option linter.unusedVariables false
set_option maxHeartbeats 4000000

theorem byte_of (m : Nat) (h : m < 128) : (m.toUInt8.toNat : Int) = m := by
  have : m.toUInt8.toNat = m := by simp [Nat.toUInt8]; omega
  omega
theorem byte_of' (m : Nat) (h : m < 256) : (m.toUInt8.toNat : Int) = m := by
  have : m.toUInt8.toNat = m := by simp [Nat.toUInt8]; omega
  omega

theorem c_rput : ConT Try.prog 41 Gput := by
  intro ys φ r h hφ
  unfold Gput at h
  split at h
  · rename_i N
    cases h
    obtain ⟨n, rfl⟩ := Int.eq_ofNat_of_zero_le hφ.1
    have hn : n ≤ 18446744073709551615 := by omega
    have hl := vput_le10 hn
    have hl1 := vput_len n
    refine con_of (tab_cons c_groups tab_nil) (by kernel_rfl) fn41 (by simp) ?_
    unfold body41
    simp (config := { maxSteps := 3000000 }) [vputP]
    refine ⟨by omega, ?_⟩
    refine vwp_loop (fun x : Nat × List UInt8 => x.2 ++ (if x.2.length < (vput n).length then vput x.1 else []) = vput n ∧ x.1 ≤ 18446744073709551615 ∧ x.2.length ≤ (vput n).length)
      (fun x => ⟨[(0, .pv (.int .u64 x.1)), (3, .own 3), (4, .pv (.int .i64 (vput n).length)), (5, .pv (.int .i64 x.2.length))], [(3, .arr 5 (bytesRow x.2))]⟩) (fun x => (vput n).length - x.2.length) [] (n, []) ?_ ?_ ?_
    · refine ⟨?_, hn, by simp⟩
      rw [if_pos (by simp only [List.length_nil]; omega), List.nil_append]
    · simp
    · rintro ⟨m, acc⟩ ⟨h1, h2, h3⟩
      dsimp only at h1 h2 h3
      have w1 : IntKind.i64.wrap ((acc.length : Int) + 1) = (acc.length : Int) + 1 := wrap_i64 (by omega)
      have w2 : IntKind.u8.wrap ((m : Int) % 128) = (m : Int) % 128 := by rw [wrap_u8]; omega
      have w3 : IntKind.u8.wrap ((m : Int) % 128 + 128) = (m : Int) % 128 + 128 := by rw [wrap_u8]; omega
      have w4 : IntKind.u64.wrap ((m : Int) / 128) = (m : Int) / 128 := wrap_u64 (by omega)
      have w5 : (m : Int).tmod 128 = (m : Int) % 128 := Int.tmod_eq_emod_of_nonneg (by omega)
      by_cases hlt : acc.length < (vput n).length
      · rw [if_pos hlt] at h1
        have hlen : acc.length + (vput m).length = (vput n).length := by rw [← h1]; simp
        by_cases hm : m < 128
        · have hv := vput_small hm
          rw [hv] at h1 hlen
          simp at hlen
          simp (config := { maxSteps := 3000000 }) [w1, w2, w3, w4, w5, hlt, maxLen_eq]
          refine ⟨fun h => by omega, fun h => ⟨by omega, m / 128, acc ++ [m.toUInt8], ⟨?_, by omega, by simp; omega⟩, ⟨⟨by omega, by simp⟩, ?_⟩, by simp; omega⟩⟩
          · rw [if_neg (by simp; omega), List.append_nil]; exact h1
          · rw [bytesRow_append]; simp only [bytesRow, List.map_cons, List.map_nil]; rw [byte_of m hm]
            have : (m : Int) % 128 = m := by omega
            rw [this]
        · have hv := vput_big hm
          have hl2 := vput_len (m / 128)
          rw [hv] at h1 hlen
          simp at hlen
          simp (config := { maxSteps := 3000000 }) [w1, w2, w3, w4, w5, hlt, maxLen_eq]
          refine ⟨fun h => ⟨by omega, m / 128, acc ++ [(m % 128 + 128).toUInt8], ⟨?_, by omega, by simp; omega⟩, ⟨⟨by omega, by simp⟩, ?_⟩, by simp; omega⟩, fun h => by omega⟩
          · rw [if_pos (by simp; omega)]; simpa using h1
          · rw [bytesRow_append]; simp only [bytesRow, List.map_cons, List.map_nil]; rw [byte_of' (m % 128 + 128) (by omega)]
            simp
      · rw [if_neg hlt, List.append_nil] at h1
        simp (config := { maxSteps := 3000000 }) [hlt]
        rw [h1]
  · cases h

end Go.Proofs.Ytcgllachkjnlgaa.Ab
/- What the functions for texts do. -/
namespace Go.Proofs.Ytcgllachkjnlgaa.Ab
open Go Go.RowKit R
set_option linter.unusedVariables false
set_option maxHeartbeats 4000000

def vtext (s : List UInt8) : List UInt8 := vput s.length ++ s

def Gtext : List AV → Option (Prop × AV)
  | [.pv (.str s)] => some (s.length ≤ 1000000, .fr 5 (bytesRow (vtext s)))
  | _ => none
@[simp] theorem Gtext_eq (s : List UInt8) : Gtext [.pv (.str s)] = some (s.length ≤ 1000000, .fr 5 (bytesRow (vtext s))) := rfl

theorem c_text : ConT Try.prog 38 Gtext := by
  intro ys φ r h hφ
  unfold Gtext at h
  split at h
  · rename_i s
    cases h
    refine con_of (tab_cons c_put tab_nil) (by kernel_rfl) fn38 (by simp) ?_
    have hl := vput_le10 (n := s.length) (by omega)
    have w1 : IntKind.u64.wrap (s.length : Int) = (s.length : Int) := wrap_u64 (by omega)
    unfold body38
    simp (config := { maxSteps := 3000000 }) [w1, vputP, maxLen_eq, vtext, bytesRow_append]
    exact ⟨by omega, by omega, by omega, bytesRow_one s⟩
  · cases h

theorem c_rtext : ConT Try.prog 40 Gtext := by
  intro ys φ r h hφ
  unfold Gtext at h
  split at h
  · rename_i s
    cases h
    refine con_of (tab_cons c_rput tab_nil) (by kernel_rfl) fn40 (by simp) ?_
    have hl := vput_le10 (n := s.length) (by omega)
    have w1 : IntKind.u64.wrap (s.length : Int) = (s.length : Int) := wrap_u64 (by omega)
    unfold body40
    simp (config := { maxSteps := 3000000 }) [w1, vputP]
    refine ⟨by omega, ?_⟩
    refine vwp_loop (fun i : Nat => i ≤ s.length) (fun i => ⟨[(0, .pv (.str s)), (3, .own 8), (4, .pv (.int .i64 i))], [(8, .arr 5 (bytesRow (vput s.length ++ s.take i)))]⟩) (fun i => s.length - i) [] 0 (by omega) ?_ ?_
    · simp
    · intro i hi
      have w2 : IntKind.i64.wrap ((i : Int) + 1) = (i : Int) + 1 := wrap_i64 (by omega)
      by_cases hlt : i < s.length
      · simp (config := { maxSteps := 3000000 }) [w2, hlt, maxLen_eq]
        refine ⟨by omega, i + 1, by omega, ⟨by omega, ?_⟩, by omega⟩
        rw [List.take_succ_eq_append_getElem hlt, ← List.append_assoc, bytesRow_append _ [s[i]]]
        rfl
      · simp (config := { maxSteps := 3000000 }) [hlt]
        rw [List.take_of_length_le (by omega)]
        rfl
  · cases h

end Go.Proofs.Ytcgllachkjnlgaa.Ab
/- Bytes compared. -/
namespace Go.Proofs.Ytcgllachkjnlgaa.Ab
open Go Go.RowKit R
set_option linter.unusedVariables false
set_option maxHeartbeats 4000000

noncomputable def GsameB : List AV → Option (Prop × AV)
  | [.pv (.ro a), .pv (.ro b)] => (dec byteR a).bind fun la => (dec byteR b).map fun lb => (la.length ≤ 1000000000, .pv (.bool (decide (la = lb))))
  | _ => none
@[simp] theorem GsameB_eq (a b : List (List PV)) : GsameB [.pv (.ro a), .pv (.ro b)] = (dec byteR a).bind fun la => (dec byteR b).map fun lb => (la.length ≤ 1000000000, .pv (.bool (decide (la = lb)))) := rfl

theorem c_sameB : ConT Try.prog 20 GsameB := by
  intro ys φ r h hφ
  unfold GsameB at h
  split at h
  · rename_i ra rb
    obtain ⟨a, ha, h⟩ := Option.bind_eq_some_iff.1 h
    obtain ⟨b, hb, h⟩ := Option.map_eq_some_iff.1 h
    cases h
    cases dec_bytes_inv ha
    cases dec_bytes_inv hb
    refine con_of tab_nil (by kernel_rfl) fn20 (by simp) ?_
    unfold body20
    simp (config := { maxSteps := 3000000 })
    refine ⟨fun hne => ?_, fun hlen => ?_⟩
    · intro e; exact hne (by rw [e])
    refine vwp_loop (fun i : Nat => i ≤ a.length ∧ a.take i = b.take i) (fun i => ⟨[(0, .pv (.ro (bytesRow a))), (1, .pv (.ro (bytesRow b))), (5, .pv (.int .i64 i))], []⟩) (fun i => a.length - i) [] 0 (by simp) ?_ ?_
    · simp
    · rintro i ⟨hi, ht⟩
      have w2 : IntKind.i64.wrap ((i : Int) + 1) = (i : Int) + 1 := wrap_i64 (by omega)
      by_cases hlt : i < a.length
      · have r1 := R.bytesRow_at hlt
        have hlb : i < b.length := by omega
        have r2 := R.bytesRow_at hlb
        simp (config := { maxSteps := 3000000 }) [w2, hlt, hlb, r1, r2]
        refine ⟨fun hne e => hne (by subst e; rfl), fun heq => ⟨i + 1, ⟨by omega, ?_⟩, by omega, by omega⟩⟩
        rw [List.take_succ_eq_append_getElem hlt, List.take_succ_eq_append_getElem hlb, ht]
        congr 2
        exact UInt8.toNat_inj.1 (by omega)
      · simp (config := { maxSteps := 3000000 }) [hlt]
        rw [List.take_of_length_le (by omega), List.take_of_length_le (by omega)] at ht
        exact ht
  · cases h

end Go.Proofs.Ytcgllachkjnlgaa.Ab
/- Edits as plain data; rows of edits compared; few edits; the reference's edits. -/
namespace Go.Proofs.Ytcgllachkjnlgaa.Ab
open Go Go.RowKit R
set_option linter.unusedVariables false
set_option maxHeartbeats 4000000
set_option maxRecDepth 100000

structure Ed where
  k : UInt8
  n : Int
  t : List UInt8
  deriving DecidableEq

def rowE (e : Ed) : List PV := [.int .u8 (e.k.toNat : Int), .int .i64 e.n, .str e.t]
theorem rowE_inj : ∀ a b, rowE a = rowE b → a = b := by
  rintro ⟨k, n, t⟩ ⟨k', n', t'⟩ h
  simp only [rowE, List.cons.injEq, PV.int.injEq, PV.str.injEq, true_and, and_true] at h
  obtain ⟨h1, h2, h3⟩ := h
  have : k = k' := UInt8.toNat_inj.1 (by omega)
  rw [this, h2, h3]
def rowsE (l : List Ed) : List (List PV) := l.map rowE
@[simp] theorem rowsE_nil : rowsE [] = [] := rfl
@[simp] theorem rowsE_length (l : List Ed) : (rowsE l).length = l.length := by simp [rowsE]
theorem rowsE_append (l m : List Ed) : rowsE (l ++ m) = rowsE l ++ rowsE m := by simp [rowsE]
theorem rowsE_three (l : List Ed) : ∀ r ∈ rowsE l, r.length = 3 := by
  intro r hr
  simp only [rowsE, List.mem_map] at hr
  obtain ⟨c, _, rfl⟩ := hr
  rfl
theorem rowsE_at {l : List Ed} {i : Nat} (h : i < l.length) : rowAt (rowsE l) (i : Int) = [.int .u8 (l[i].k.toNat : Int), .int .i64 l[i].n, .str l[i].t] := by
  simp [rowAt, rowsE, h, rowE]
@[simp] theorem dec_rowsE (l : List Ed) : dec rowE (rowsE l) = some l := dec_map rowE_inj l
theorem dec_rowsE_inv {rows : List (List PV)} {l : List Ed} (h : dec rowE rows = some l) : rows = rowsE l := dec_inv h

noncomputable def Gsame : List AV → Option (Prop × AV)
  | [.pv (.ro a), .pv (.ro b)] => (dec rowE a).bind fun la => (dec rowE b).map fun lb => (la.length ≤ 1000000000, .pv (.bool (decide (la = lb))))
  | _ => none
@[simp] theorem Gsame_eq (a b : List (List PV)) : Gsame [.pv (.ro a), .pv (.ro b)] = (dec rowE a).bind fun la => (dec rowE b).map fun lb => (la.length ≤ 1000000000, .pv (.bool (decide (la = lb)))) := rfl

theorem c_same : ConT Try.prog 19 Gsame := by
  intro ys φ r h hφ
  unfold Gsame at h
  split at h
  · rename_i ra rb
    obtain ⟨a, ha, h⟩ := Option.bind_eq_some_iff.1 h
    obtain ⟨b, hb, h⟩ := Option.map_eq_some_iff.1 h
    cases h
    cases dec_rowsE_inv ha
    cases dec_rowsE_inv hb
    refine con_of tab_nil (by kernel_rfl) fn19 (by simp) ?_
    unfold body19
    simp (config := { maxSteps := 3000000 })
    refine ⟨fun hne => ?_, fun hlen => ?_⟩
    · intro e; exact hne (by rw [e])
    refine vwp_loop (fun i : Nat => i ≤ a.length ∧ a.take i = b.take i) (fun i => ⟨[(0, .pv (.ro (rowsE a))), (1, .pv (.ro (rowsE b))), (5, .pv (.int .i64 i))], []⟩) (fun i => a.length - i) [] 0 (by simp) ?_ ?_
    · simp
    · rintro i ⟨hi, ht⟩
      have w2 : IntKind.i64.wrap ((i : Int) + 1) = (i : Int) + 1 := wrap_i64 (by omega)
      by_cases hlt : i < a.length
      · have r1 := rowsE_at hlt
        have hlb : i < b.length := by omega
        have r2 := rowsE_at hlb
        simp (config := { maxSteps := 3000000 }) [w2, hlt, hlb, r1, r2]
        refine ⟨fun hne e => by subst e; simp at hne, fun h1 h2 h3 => ⟨i + 1, ⟨by omega, ?_⟩, by omega, by omega⟩⟩
        rw [List.take_succ_eq_append_getElem hlt, List.take_succ_eq_append_getElem hlb, ht]
        congr 2
        exact rowE_inj _ _ (by simp only [rowE, h1, h2, h3])
      · simp (config := { maxSteps := 3000000 }) [hlt]
        rw [List.take_of_length_le (by omega), List.take_of_length_le (by omega)] at ht
        exact ht
  · cases h

end Go.Proofs.Ytcgllachkjnlgaa.Ab
