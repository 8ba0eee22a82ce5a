import Derived.Test.YtfpmjcdcpicmaaaCodeV
import Derived.Test.YtfpmjcdcpicmaaaAb22
import Derived.Test.YtfpmjcdcpicmaaaAb23
namespace Go.Proofs.Ytfpmjcdcpicmaaa.Ab
open Go Go.RowKit R
set_option linter.unusedVariables false
set_option maxHeartbeats 4000000
def vput (n : Nat) : List UInt8 :=
 if h : n < 128 then [n.toUInt8] else (n % 128 + 128).toUInt8 :: vput (n / 128)
termination_by n
decreasing_by omega
def vputP (n : Int) : List UInt8 := vput n.toNat
theorem vput_small {n : Nat} (h : n < 128) : vput n = [n.toUInt8] := by rw [vput, dif_pos h]
theorem vput_big {n : Nat} (h : ¬ n < 128) : vput n = (n % 128 + 128).toUInt8 :: vput (n / 128) := by rw [vput, dif_neg h]
theorem or_128 (m : Nat) : sbit .or .u8 ((m : Int) % 256) 128 = .int .u8 (((m % 128 + 128).toUInt8.toNat : Nat) : Int) := by
 have key : ∀ x : Fin 256, IntKind.u8.wrap ((BitVec.ofInt IntKind.u8.bits (x.val : Int) ||| BitVec.ofInt IntKind.u8.bits 128).toNat : Nat) = (((x.val % 128 + 128).toUInt8.toNat : Nat) : Int) := by decide +kernel
 have h := key ⟨m % 256, by omega⟩
 have e1 : (m : Int) % 256 = ((m % 256 : Nat) : Int) := by omega
 have e2 : m % 256 % 128 = m % 128 := by omega
 rw [e1]
 simp only [e2] at h
 unfold sbit
 exact congrArg _ h
def Gput : List AV → Option (Prop × AV)
 | [.pv (.int .u64 n)] => some (0 ≤ n ∧ n ≤ 18446744073709551615, .fr 5 (bytesRow (vputP n)))
 | _ => none
@[simp] theorem Gput_eq (n : Int) : Gput [.pv (.int .u64 n)] = some (0 ≤ n ∧ n ≤ 18446744073709551615, .fr 5 (bytesRow (vputP n))) := rfl
theorem c_put : ConT Try.prog 103 Gput := by
 intro ys φ r h hφ
 unfold Gput at h
 split at h
 · rename_i N
   cases h
   obtain ⟨n, rfl⟩ := Int.eq_ofNat_of_zero_le hφ.1
   have hn : n ≤ 18446744073709551615 := by omega
   refine con_of tab_nil (by kernel_rfl) fn103 (by simp) ?_
   unfold body103
   simp (config := { maxSteps := 3000000 })
   refine vwp_loop (fun x : Nat × List UInt8 => x.2 ++ vput x.1 = vput n ∧ x.1 ≤ 18446744073709551615 ∧ (x.2.length ≤ 10 ∧ x.1 * 128 ^ x.2.length ≤ n)) (fun x => ⟨[(0, .pv (.int .u64 x.1)), (3, .own 3)], [(3, .arr 5 (bytesRow x.2))]⟩) (fun x => x.1) [] (n, []) ?_ ?_ ?_
   · simp [hn]
   · simp
   · rintro ⟨m, acc⟩ ⟨h1, h2, h3, h4⟩
     dsimp only at h1 h2 h3 h4
     simp (config := { maxSteps := 3000000 }) [wrap_u8, -Int.emod_emod_of_dvd, maxLen_eq]
     rw [or_128]
     refine ⟨fun hm => ⟨by omega, m / 128, acc ++ [(m % 128 + 128).toUInt8], ⟨?_, by omega, ?_, ?_⟩, ⟨?_, ?_⟩, by omega⟩, fun hm => ⟨by omega, ?_⟩⟩
     · rw [← h1, vput_big (n := m) (by omega)]; simp
     · simp only [List.length_append, List.length_singleton]
       have : ¬ 9 ≤ acc.length := by
         intro h9
         have h128 : 128 ^ 9 ≤ 128 ^ acc.length := Nat.pow_le_pow_right (by decide) h9
         have : 128 * 128 ^ acc.length ≤ m * 128 ^ acc.length := Nat.mul_le_mul_right _ (by omega)
         omega
       omega
     · simp only [List.length_append, List.length_singleton, Nat.pow_succ]
       refine Nat.le_trans ?_ h4
       have : m / 128 * 128 ≤ m := by omega
       calc m / 128 * (128 ^ acc.length * 128) = (m / 128 * 128) * 128 ^ acc.length := by rw [Nat.mul_comm (128 ^ acc.length) 128, Nat.mul_assoc]
         _ ≤ m * 128 ^ acc.length := Nat.mul_le_mul_right _ this
     · simp [IntKind.bits, Int.fdiv_eq_ediv_of_nonneg]
     · rw [bytesRow_append]; rfl
     · rw [vputP, Int.toNat_natCast, ← h1, vput_small (n := m) (by omega), bytesRow_append]
       simp [bytesRow]
 · cases h
end Go.Proofs.Ytfpmjcdcpicmaaa.Ab
namespace Go.Proofs.Ytfpmjcdcpicmaaa.Ab
open Go Go.RowKit R
set_option linter.unusedVariables false
set_option maxHeartbeats 4000000
theorem vput_len (n : Nat) : 1 ≤ (vput n).length := by
 rw [vput]; split <;> simp
theorem vput_len10 : ∀ (k n : Nat), n < 128 ^ (k + 1) → (vput n).length ≤ k + 1
 | 0, n, h => by rw [vput_small (by simpa using h)]; simp
 | k + 1, n, h => by
   by_cases h1 : n < 128
   · rw [vput_small h1]; simp
   · rw [vput_big h1]
     have : n / 128 < 128 ^ (k + 1) := by
       rw [Nat.div_lt_iff_lt_mul (by decide)]
       rw [Nat.pow_succ] at h
       exact h
     have := vput_len10 k (n / 128) this
     simp; omega
theorem vput_le10 {n : Nat} (h : n ≤ 18446744073709551615) : (vput n).length ≤ 10 := vput_len10 9 n (by omega)
def Ggroups : List AV → Option (Prop × AV)
 | [.pv (.int .u64 n)] => some (0 ≤ n ∧ n ≤ 18446744073709551615, .pv (.int .i64 (vputP n).length))
 | _ => none
@[simp] theorem Ggroups_eq (n : Int) : Ggroups [.pv (.int .u64 n)] = some (0 ≤ n ∧ n ≤ 18446744073709551615, .pv (.int .i64 (vputP n).length)) := rfl
theorem c_groups : ConT Try.prog 153 Ggroups := by
 intro ys φ r h hφ
 unfold Ggroups at h
 split at h
 · rename_i N
   cases h
   obtain ⟨n, rfl⟩ := Int.eq_ofNat_of_zero_le hφ.1
   have hn : n ≤ 18446744073709551615 := by omega
   have hl := vput_le10 hn
   refine con_of tab_nil (by kernel_rfl) fn153 (by simp) ?_
   unfold body153
   simp (config := { maxSteps := 3000000 })
   refine vwp_loop (fun x : Nat × Nat => x.2 + (vput x.1).length = (vput n).length + 1 ∧ x.1 ≤ 18446744073709551615) (fun x => ⟨[(0, .pv (.int .u64 x.1)), (3, .pv (.int .i64 x.2))], []⟩) (fun x => x.1) [] (n, 1) ?_ ?_ ?_
   · simp [hn]; omega
   · simp
   · rintro ⟨m, k⟩ ⟨h1, h2⟩
     dsimp only at h1 h2
     have hl2 := vput_len m
     simp (config := { maxSteps := 3000000 }) (disch := omega) [wrap_i64, wrap_u64]
     refine ⟨fun hm => ⟨m / 128, k + 1, ⟨?_, by omega⟩, ⟨by omega, by omega⟩, by omega⟩, fun hm => ?_⟩
     · rw [vput_big (n := m) (by omega)] at h1
       simp at h1; omega
     · rw [vput_small (n := m) (by omega)] at h1
       simp at h1
       rw [vputP, Int.toNat_natCast]; omega
 · cases h
end Go.Proofs.Ytfpmjcdcpicmaaa.Ab
namespace Go.Proofs.Ytfpmjcdcpicmaaa.Ab
open Go Go.RowKit R
set_option linter.unusedVariables false
set_option maxHeartbeats 4000000
theorem byte_of (m : Nat) (h : m < 128) : (m.toUInt8.toNat : Int) = m := by
 have : m.toUInt8.toNat = m := by simp [Nat.toUInt8]; omega
 omega
theorem byte_of' (m : Nat) (h : m < 256) : (m.toUInt8.toNat : Int) = m := by
 have : m.toUInt8.toNat = m := by simp [Nat.toUInt8]; omega
 omega
theorem c_rput : ConT Try.prog 105 Gput := by
 intro ys φ r h hφ
 unfold Gput at h
 split at h
 · rename_i N
   cases h
   obtain ⟨n, rfl⟩ := Int.eq_ofNat_of_zero_le hφ.1
   have hn : n ≤ 18446744073709551615 := by omega
   have hl := vput_le10 hn
   have hl1 := vput_len n
   refine con_of (tab_cons c_groups tab_nil) (by kernel_rfl) fn105 (by simp) ?_
   unfold body105
   simp (config := { maxSteps := 3000000 }) [vputP]
   refine ⟨by omega, ?_⟩
   refine vwp_loop (fun x : Nat × List UInt8 => x.2 ++ (if x.2.length < (vput n).length then vput x.1 else []) = vput n ∧ x.1 ≤ 18446744073709551615 ∧ x.2.length ≤ (vput n).length)
     (fun x => ⟨[(0, .pv (.int .u64 x.1)), (3, .own 3), (4, .pv (.int .i64 (vput n).length)), (5, .pv (.int .i64 x.2.length))], [(3, .arr 5 (bytesRow x.2))]⟩) (fun x => (vput n).length - x.2.length) [] (n, []) ?_ ?_ ?_
   · refine ⟨?_, hn, by simp⟩
     rw [if_pos (by simp only [List.length_nil]; omega), List.nil_append]
   · simp
   · rintro ⟨m, acc⟩ ⟨h1, h2, h3⟩
     dsimp only at h1 h2 h3
     have w1 : IntKind.i64.wrap ((acc.length : Int) + 1) = (acc.length : Int) + 1 := wrap_i64 (by omega)
     have w2 : IntKind.u8.wrap ((m : Int) % 128) = (m : Int) % 128 := by rw [wrap_u8]; omega
     have w3 : IntKind.u8.wrap ((m : Int) % 128 + 128) = (m : Int) % 128 + 128 := by rw [wrap_u8]; omega
     have w4 : IntKind.u64.wrap ((m : Int) / 128) = (m : Int) / 128 := wrap_u64 (by omega)
     have w5 : (m : Int).tmod 128 = (m : Int) % 128 := Int.tmod_eq_emod_of_nonneg (by omega)
     by_cases hlt : acc.length < (vput n).length
     · rw [if_pos hlt] at h1
       have hlen : acc.length + (vput m).length = (vput n).length := by rw [← h1]; simp
       by_cases hm : m < 128
       · have hv := vput_small hm
         rw [hv] at h1 hlen
         simp at hlen
         simp (config := { maxSteps := 3000000 }) [w1, w2, w3, w4, w5, hlt, maxLen_eq]
         refine ⟨fun h => by omega, fun h => ⟨by omega, m / 128, acc ++ [m.toUInt8], ⟨?_, by omega, by simp; omega⟩, ⟨⟨by omega, by simp⟩, ?_⟩, by simp; omega⟩⟩
         · rw [if_neg (by simp; omega), List.append_nil]; exact h1
         · rw [bytesRow_append]; simp only [bytesRow, List.map_cons, List.map_nil]; rw [byte_of m hm]
           have : (m : Int) % 128 = m := by omega
           rw [this]
       · have hv := vput_big hm
         have hl2 := vput_len (m / 128)
         rw [hv] at h1 hlen
         simp at hlen
         simp (config := { maxSteps := 3000000 }) [w1, w2, w3, w4, w5, hlt, maxLen_eq]
         refine ⟨fun h => ⟨by omega, m / 128, acc ++ [(m % 128 + 128).toUInt8], ⟨?_, by omega, by simp; omega⟩, ⟨⟨by omega, by simp⟩, ?_⟩, by simp; omega⟩, fun h => by omega⟩
         · rw [if_pos (by simp; omega)]; simpa using h1
         · rw [bytesRow_append]; simp only [bytesRow, List.map_cons, List.map_nil]; rw [byte_of' (m % 128 + 128) (by omega)]
           simp
     · rw [if_neg hlt, List.append_nil] at h1
       simp (config := { maxSteps := 3000000 }) [hlt]
       rw [h1]
 · cases h
end Go.Proofs.Ytfpmjcdcpicmaaa.Ab
namespace Go.Proofs.Ytfpmjcdcpicmaaa.Ab
open Go Go.RowKit R
set_option linter.unusedVariables false
set_option maxHeartbeats 4000000
def vtext (s : List UInt8) : List UInt8 := vput s.length ++ s
def Gtext : List AV → Option (Prop × AV)
 | [.pv (.str s)] => some (s.length ≤ 1000000, .fr 5 (bytesRow (vtext s)))
 | _ => none
@[simp] theorem Gtext_eq (s : List UInt8) : Gtext [.pv (.str s)] = some (s.length ≤ 1000000, .fr 5 (bytesRow (vtext s))) := rfl
theorem c_text : ConT Try.prog 104 Gtext := by
 intro ys φ r h hφ
 unfold Gtext at h
 split at h
 · rename_i s
   cases h
   refine con_of (tab_cons c_put tab_nil) (by kernel_rfl) fn104 (by simp) ?_
   have hl := vput_le10 (n := s.length) (by omega)
   have w1 : IntKind.u64.wrap (s.length : Int) = (s.length : Int) := wrap_u64 (by omega)
   unfold body104
   simp (config := { maxSteps := 3000000 }) [w1, vputP, maxLen_eq, vtext, bytesRow_append]
   exact ⟨by omega, by omega, by omega, bytesRow_one s⟩
 · cases h
theorem c_rtext : ConT Try.prog 106 Gtext := by
 intro ys φ r h hφ
 unfold Gtext at h
 split at h
 · rename_i s
   cases h
   refine con_of (tab_cons c_rput tab_nil) (by kernel_rfl) fn106 (by simp) ?_
   have hl := vput_le10 (n := s.length) (by omega)
   have w1 : IntKind.u64.wrap (s.length : Int) = (s.length : Int) := wrap_u64 (by omega)
   unfold body106
   simp (config := { maxSteps := 3000000 }) [w1, vputP]
   refine ⟨by omega, ?_⟩
   refine vwp_loop (fun i : Nat => i ≤ s.length) (fun i => ⟨[(0, .pv (.str s)), (3, .own 8), (4, .pv (.int .i64 i))], [(8, .arr 5 (bytesRow (vput s.length ++ s.take i)))]⟩) (fun i => s.length - i) [] 0 (by omega) ?_ ?_
   · simp
   · intro i hi
     have w2 : IntKind.i64.wrap ((i : Int) + 1) = (i : Int) + 1 := wrap_i64 (by omega)
     by_cases hlt : i < s.length
     · simp (config := { maxSteps := 3000000 }) [w2, hlt, maxLen_eq]
       refine ⟨by omega, i + 1, by omega, ⟨by omega, ?_⟩, by omega⟩
       rw [List.take_succ_eq_append_getElem hlt, ← List.append_assoc, bytesRow_append _ [s[i]]]
       rfl
     · simp (config := { maxSteps := 3000000 }) [hlt]
       rw [List.take_of_length_le (by omega)]
       rfl
 · cases h
end Go.Proofs.Ytfpmjcdcpicmaaa.Ab
namespace Go.Proofs.Ytfpmjcdcpicmaaa.Ab
open Go Go.RowKit R
set_option linter.unusedVariables false
set_option maxHeartbeats 4000000
noncomputable def GsameB : List AV → Option (Prop × AV)
 | [.pv (.ro a), .pv (.ro b)] => (dec byteR a).bind fun la => (dec byteR b).map fun lb => (la.length ≤ 1000000000, .pv (.bool (decide (la = lb))))
 | _ => none
@[simp] theorem GsameB_eq (a b : List (List PV)) : GsameB [.pv (.ro a), .pv (.ro b)] = (dec byteR a).bind fun la => (dec byteR b).map fun lb => (la.length ≤ 1000000000, .pv (.bool (decide (la = lb)))) := rfl
theorem c_sameB : ConT Try.prog 39 GsameB := by
 intro ys φ r h hφ
 unfold GsameB at h
 split at h
 · rename_i ra rb
   obtain ⟨a, ha, h⟩ := Option.bind_eq_some_iff.1 h
   obtain ⟨b, hb, h⟩ := Option.map_eq_some_iff.1 h
   cases h
   cases dec_bytes_inv ha
   cases dec_bytes_inv hb
   refine con_of tab_nil (by kernel_rfl) fn39 (by simp) ?_
   unfold body39
   simp (config := { maxSteps := 3000000 })
   refine ⟨fun hne => ?_, fun hlen => ?_⟩
   · intro e; exact hne (by rw [e])
   refine vwp_loop (fun i : Nat => i ≤ a.length ∧ a.take i = b.take i) (fun i => ⟨[(0, .pv (.ro (bytesRow a))), (1, .pv (.ro (bytesRow b))), (5, .pv (.int .i64 i))], []⟩) (fun i => a.length - i) [] 0 (by simp) ?_ ?_
   · simp
   · rintro i ⟨hi, ht⟩
     have w2 : IntKind.i64.wrap ((i : Int) + 1) = (i : Int) + 1 := wrap_i64 (by omega)
     by_cases hlt : i < a.length
     · have r1 := R.bytesRow_at hlt
       have hlb : i < b.length := by omega
       have r2 := R.bytesRow_at hlb
       simp (config := { maxSteps := 3000000 }) [w2, hlt, hlb, r1, r2]
       refine ⟨fun hne e => hne (by subst e; rfl), fun heq => ⟨i + 1, ⟨by omega, ?_⟩, by omega, by omega⟩⟩
       rw [List.take_succ_eq_append_getElem hlt, List.take_succ_eq_append_getElem hlb, ht]
       congr 2
       exact UInt8.toNat_inj.1 (by omega)
     · simp (config := { maxSteps := 3000000 }) [hlt]
       rw [List.take_of_length_le (by omega), List.take_of_length_le (by omega)] at ht
       exact ht
 · cases h
end Go.Proofs.Ytfpmjcdcpicmaaa.Ab
namespace Go.Proofs.Ytfpmjcdcpicmaaa.Ab
open Go Go.RowKit R
set_option linter.unusedVariables false
set_option linter.unusedSimpArgs false
set_option maxHeartbeats 4000000
set_option maxRecDepth 100000
def takeG : List UInt8 → Nat → Nat → Nat × Nat × Int
 | [], _, _ => (0, 0, 10)
 | c :: l, i, n => if (i = 9 ∧ 1 < c.toNat) ∨ (c.toNat = 0 ∧ 0 < i) then (0, 0, 11) else
   if c.toNat < 128 then (n + c.toNat % 128 * 2 ^ (7 * i), i + 1, 0) else takeG l (i + 1) (n + c.toNat % 128 * 2 ^ (7 * i))
def takeL (b : List UInt8) (p : Int) : Int × Int × Int :=
 if p < 0 ∨ (b.length : Int) ≤ p then (0, p, 10) else (((takeG (b.drop p.toNat) 0 0).1 : Int), p + ((takeG (b.drop p.toNat) 0 0).2.1 : Int), (takeG (b.drop p.toNat) 0 0).2.2)
theorem takeG_bound : ∀ (l : List UInt8) (i n : Nat), i ≤ 9 → n < 2 ^ (7 * i) → (takeG l i n).1 < 2 ^ 64 ∧ (takeG l i n).2.1 ≤ i + l.length ∧ ((takeG l i n).2.2 = 0 → i < (takeG l i n).2.1) ∧ ((takeG l i n).2.2 ≠ 0 → (takeG l i n).1 = 0 ∧ (takeG l i n).2.1 = 0) ∧ ((takeG l i n).2.2 = 0 ∨ (takeG l i n).2.2 = 10 ∨ (takeG l i n).2.2 = 11)
 | [], i, n, hi, hn => by simp [takeG]
 | c :: l, i, n, hi, hn => by
   unfold takeG
   have hc := c.toNat_lt
   have hcm : c.toNat % 128 ≤ 127 := by omega
   have h1 : n + c.toNat % 128 * 2 ^ (7 * i) < 2 ^ (7 * (i + 1)) := by
     have : c.toNat % 128 * 2 ^ (7 * i) ≤ 127 * 2 ^ (7 * i) := Nat.mul_le_mul_right _ hcm
     rw [Nat.mul_add, Nat.pow_add]; omega
   split
   · simp
   · rename_i h0
     split
     · refine ⟨?_, by simp, by simp, by simp, by simp⟩
       dsimp only
       by_cases h9 : i = 9
       · subst h9
         have hc1 : c.toNat ≤ 1 := by omega
         have : c.toNat % 128 * 2 ^ (7 * 9) ≤ 1 * 2 ^ (7 * 9) := Nat.mul_le_mul_right _ (by omega)
         omega
       · have : 2 ^ (7 * (i + 1)) ≤ 2 ^ 63 := Nat.pow_le_pow_right (by decide) (by omega)
         omega
     · rename_i hbig
       have hi8 : i ≤ 8 := by omega
       obtain ⟨a1, a2, a3, a4⟩ := takeG_bound l (i + 1) _ (by omega) h1
       refine ⟨a1, ?_, fun h => ?_, a4⟩
       · simp only [List.length_cons]; omega
       · have := a3 h; omega
theorem andNot_128 (c : UInt8) : sbit .andNot .u8 (c.toNat : Int) 128 = .int .u8 ((c.toNat % 128 : Nat) : Int) := by
 have key : ∀ x : Fin 256, IntKind.u8.wrap ((BitVec.ofInt IntKind.u8.bits (x.val : Int) &&& ~~~ BitVec.ofInt IntKind.u8.bits 128).toNat : Nat) = ((x.val % 128 : Nat) : Int) := by decide +kernel
 have h := key ⟨c.toNat, c.toNat_lt⟩
 unfold sbit
 exact congrArg _ h
theorem or_u64 {n m i : Nat} (hn : n < 2 ^ (7 * i)) (hm : n + m * 2 ^ (7 * i) < 2 ^ 64) : sbit .or .u64 (n : Int) ((m : Int) * 2 ^ (7 * i)) = .int .u64 ((n + m * 2 ^ (7 * i) : Nat) : Int) := by
 have e1 : ((m : Int) * 2 ^ (7 * i)) = ((m * 2 ^ (7 * i) : Nat) : Int) := by simp
 have hn64 : n < 2 ^ 64 := by omega
 have hm64 : m * 2 ^ (7 * i) < 2 ^ 64 := by omega
 have h1 : (BitVec.ofInt 64 (n : Int)).toNat = n := by rw [BitVec.ofInt_natCast, BitVec.toNat_ofNat, Nat.mod_eq_of_lt hn64]
 have h2 : (BitVec.ofInt 64 ((m * 2 ^ (7 * i) : Nat) : Int)).toNat = m * 2 ^ (7 * i) := by rw [BitVec.ofInt_natCast, BitVec.toNat_ofNat, Nat.mod_eq_of_lt hm64]
 have h3 : n ||| m * 2 ^ (7 * i) = n + m * 2 ^ (7 * i) := by
   rw [Nat.or_comm, ← Nat.shiftLeft_eq, ← Nat.shiftLeft_add_eq_or_of_lt hn, Nat.add_comm]
 rw [e1]
 unfold sbit
 have h4 : (BitVec.ofInt IntKind.u64.bits (n : Int) ||| BitVec.ofInt IntKind.u64.bits ((m * 2 ^ (7 * i) : Nat) : Int)).toNat = n + m * 2 ^ (7 * i) := by
   show (BitVec.ofInt 64 (n : Int) ||| BitVec.ofInt 64 ((m * 2 ^ (7 * i) : Nat) : Int)).toNat = _
   rw [BitVec.toNat_or, h1, h2, h3]
 simp only [h4]
 refine congrArg _ ?_
 exact wrap_u64 (by omega)
def val : List UInt8 → Nat
 | [] => 0
 | c :: l => c.toNat % 128 + 128 * val l
theorem val_snoc (l : List UInt8) (c : UInt8) : val (l ++ [c]) = val l + c.toNat % 128 * 2 ^ (7 * l.length) := by
 induction l with
 | nil => simp [val]
 | cons x l ih =>
   simp only [List.cons_append, val, ih, List.length_cons]
   have : 2 ^ (7 * (l.length + 1)) = 128 * 2 ^ (7 * l.length) := by rw [Nat.mul_add, Nat.pow_add]; omega
   rw [this, Nat.mul_add, Nat.mul_left_comm]; omega
theorem val_lt (l : List UInt8) : val l < 2 ^ (7 * l.length) := by
 induction l with
 | nil => simp [val]
 | cons x l ih =>
   simp only [val, List.length_cons]
   have : 2 ^ (7 * (l.length + 1)) = 128 * 2 ^ (7 * l.length) := by rw [Nat.mul_add, Nat.pow_add]; omega
   omega
theorem vput_val : ∀ (l : List UInt8) (c : UInt8), (∀ x ∈ l, 128 ≤ x.toNat) → c.toNat < 128 → (c.toNat ≠ 0 ∨ l = []) → vput (val (l ++ [c])) = l ++ [c]
 | [], c, _, hc, _ => by
   have : val ([] ++ [c]) = c.toNat := by simp [val]; omega
   rw [this, vput_small hc]
   simp
 | x :: l, c, hl, hc, h0 => by
   have hx := hl x (by simp)
   have hx2 := x.toNat_lt
   have h0 : c.toNat ≠ 0 := by rcases h0 with h | h; exact h; cases h
   have hv : 0 < val (l ++ [c]) := by
     rw [val_snoc]
     have : 0 < c.toNat % 128 * 2 ^ (7 * l.length) := Nat.mul_pos (by omega) (Nat.pow_pos (by decide))
     omega
   have ih := vput_val l c (fun y hy => hl y (by simp [hy])) hc (.inl h0)
   simp only [List.cons_append, val]
   rw [vput_big (by omega), show (x.toNat % 128 + 128 * val (l ++ [c])) / 128 = val (l ++ [c]) from by omega, ih, show (x.toNat % 128 + 128 * val (l ++ [c])) % 128 + 128 = x.toNat from by omega]
   simp
theorem vput_le : ∀ (k n : Nat), n < 2 ^ (7 * (k + 1)) → (vput n).length ≤ k + 1
 | 0, n, h => by rw [vput_small (by simpa using h)]; simp
 | k + 1, n, h => by
   by_cases hn : n < 128
   · rw [vput_small hn]; simp
   · rw [vput_big hn]
     have : 2 ^ (7 * (k + 1 + 1)) = 128 * 2 ^ (7 * (k + 1)) := by rw [Nat.mul_add 7 (k + 1), Nat.pow_add]; omega
     have := vput_le k (n / 128) (by omega)
     simp only [List.length_cons]; omega
end Go.Proofs.Ytfpmjcdcpicmaaa.Ab
namespace Go.Proofs.Ytfpmjcdcpicmaaa.Ab
open Go Go.RowKit R
set_option linter.unusedVariables false
set_option linter.unusedSimpArgs false
set_option maxHeartbeats 4000000
set_option maxRecDepth 100000
noncomputable def Gtake : List AV → Option (Prop × AV)
 | [.pv (.ro b), .pv (.int .i64 p)] => (dec byteR b).map fun l => (l.length ≤ 1000000000 ∧ -9223372036854775808 ≤ p ∧ p ≤ 9223372036854775807, .tup [.pv (.int .u64 (takeL l p).1), .pv (.int .i64 (takeL l p).2.1), .pv (.int .i64 (takeL l p).2.2)])
 | _ => none
@[simp] theorem Gtake_eq (b : List (List PV)) (p : Int) : Gtake [.pv (.ro b), .pv (.int .i64 p)] = (dec byteR b).map fun l => (l.length ≤ 1000000000 ∧ -9223372036854775808 ≤ p ∧ p ≤ 9223372036854775807, .tup [.pv (.int .u64 (takeL l p).1), .pv (.int .i64 (takeL l p).2.1), .pv (.int .i64 (takeL l p).2.2)]) := rfl
theorem grp_lt {n c i : Nat} (hn : n < 2 ^ (7 * i)) (hc : c ≤ 127) : n + c * 2 ^ (7 * i) < 2 ^ (7 * (i + 1)) := by
 have : c * 2 ^ (7 * i) ≤ 127 * 2 ^ (7 * i) := Nat.mul_le_mul_right _ hc
 rw [Nat.mul_add, Nat.pow_add]; omega
theorem cut_bytes (l : List UInt8) (i : Nat) : cut (bytesRow l) (i : Int) (l.length : Int) = bytesRow (l.drop i) := by
 have : List.take l.length (bytesRow l) = bytesRow l := List.take_of_length_le (by simp [bytesRow])
 unfold cut
 rw [Int.toNat_natCast, Int.toNat_natCast, this]
 simp [bytesRow, List.map_drop]
theorem c_take : ConT Try.prog 107 Gtake := by
 intro ys φ r h hφ
 unfold Gtake at h
 split at h
 · rename_i rb p
   obtain ⟨b, hb, h⟩ := Option.map_eq_some_iff.1 h
   cases h
   cases dec_bytes_inv hb
   obtain ⟨hl, hp1, hp2⟩ := hφ
   refine con_of tab_nil (by kernel_rfl) fn107 (by simp) ?_
   unfold body107
   by_cases h0 : p < 0 ∨ (b.length : Int) ≤ p
   · have ht : takeL b p = (0, p, 10) := by unfold takeL; rw [if_pos h0]
     by_cases hp0 : p < 0
     · simp (config := { maxSteps := 3000000 }) [hp0, ht]
     · have hbp : (b.length : Int) ≤ p := by omega
       simp (config := { maxSteps := 3000000 }) [hp0, hbp, ht]
   · obtain ⟨q, rfl⟩ := Int.eq_ofNat_of_zero_le (show 0 ≤ p by omega)
     have ht : takeL b q = (((takeG (b.drop q) 0 0).1 : Int), (q : Int) + ((takeG (b.drop q) 0 0).2.1 : Int), (takeG (b.drop q) 0 0).2.2) := by unfold takeL; rw [if_neg h0]; rfl
     have hq0 : ¬ (q : Int) < 0 := by omega
     have hq1 : ¬ (b.length : Int) ≤ q := by omega
     have hq2 : ¬ b.length ≤ q := by omega
     have hc := cut_bytes b q
     rw [ht]
     simp (config := { maxSteps := 3000000 }) [hq0, hq1, hq2, hc]
     refine ⟨⟨by omega, bytesRow_one b⟩, ?_⟩
     generalize hD : b.drop q = D
     have hDl : D.length + q = b.length := by rw [← hD]; simp; omega
     have hbD : (b.length : Int) - q = (D.length : Int) := by omega
     refine vwp_loop (fun x : Nat × Nat => x.1 ≤ D.length ∧ x.1 ≤ 9 ∧ x.2 < 2 ^ (7 * x.1) ∧ takeG D 0 0 = takeG (D.drop x.1) x.1 x.2)
       (fun x => ⟨[(1, .pv (.int .i64 q)), (4, .pv (.int .u64 x.2)), (6, .pv (.int .i64 10)), (21, .pv (.ro (bytesRow D))), (22, .pv (.int .i64 D.length)), (23, .pv (.int .i64 x.1))], []⟩) (fun x => D.length - x.1) [] (0, 0) ?_ ?_ ?_
     · simp
     · simp
       omega
     · rintro ⟨i, n⟩ ⟨hi, hi9, hn, hG⟩
       dsimp only at hi hi9 hn hG
       have w1 : IntKind.i64.wrap ((i : Int) + 1) = (i : Int) + 1 := wrap_i64 (by omega)
       have w2 : IntKind.i64.wrap (7 * (i : Int)) = 7 * (i : Int) := wrap_i64 (by omega)
       have w3 : IntKind.i64.wrap ((q : Int) + (i : Int)) = (q : Int) + (i : Int) := wrap_i64 (by omega)
       have w4 : IntKind.i64.wrap ((q : Int) + (i : Int) + 1) = (q : Int) + (i : Int) + 1 := wrap_i64 (by omega)
       by_cases hlt : i < D.length
       · have r1 := R.bytesRow_at hlt
         rw [List.drop_eq_getElem_cons hlt, takeG] at hG
         have hc := D[i].toNat_lt
         have ha := andNot_128 D[i]
         simp (config := { maxSteps := 3000000 }) [w1, w2, w3, w4, hlt, r1, ha]
         have hcm : D[i].toNat % 128 ≤ 127 := by omega
         have hn' := grp_lt hn hcm
         have hor : ∀ hm : n + D[i].toNat % 128 * 2 ^ (7 * i) < 2 ^ 64, sbit .or .u64 (n : Int) (IntKind.u64.wrap (IntKind.u64.wrap ((D[i].toNat : Int) % 128) * 2 ^ min (7 * (i : Int)).toNat IntKind.u64.bits)) = .int .u64 ((n + D[i].toNat % 128 * 2 ^ (7 * i) : Nat) : Int) := by
           intro hm
           have e1 : IntKind.u64.wrap ((D[i].toNat : Int) % 128) = ((D[i].toNat % 128 : Nat) : Int) := by rw [wrap_u64 (by omega)]; omega
           have e2 : min (7 * (i : Int)).toNat IntKind.u64.bits = 7 * i := by
             have : (7 * (i : Int)).toNat = 7 * i := by omega
             rw [this]; exact Nat.min_eq_left (show 7 * i ≤ 64 by omega)
           have e3 : IntKind.u64.wrap (((D[i].toNat % 128 : Nat) : Int) * 2 ^ (7 * i)) = ((D[i].toNat % 128 : Nat) : Int) * 2 ^ (7 * i) := by
             have e4 : (((D[i].toNat % 128 : Nat) : Int) * 2 ^ (7 * i)) = ((D[i].toNat % 128 * 2 ^ (7 * i) : Nat) : Int) := by simp
             rw [e4]; exact wrap_u64 (by omega)
           rw [e1, e2, e3]
           exact or_u64 hn hm
         have h63 : i ≤ 8 → n + D[i].toNat % 128 * 2 ^ (7 * i) < 2 ^ 64 := fun h8 => by
           have : 2 ^ (7 * (i + 1)) ≤ 2 ^ 63 := Nat.pow_le_pow_right (by decide) (by omega)
           omega
         have h64 : ¬ (i = 9 ∧ 1 < D[i].toNat) → n + D[i].toNat % 128 * 2 ^ (7 * i) < 2 ^ 64 := fun h => by
           by_cases h9 : i = 9
           · have hle : D[i].toNat % 128 * 2 ^ (7 * i) ≤ 1 * 2 ^ (7 * i) := Nat.mul_le_mul_right _ (by omega)
             have : 2 ^ (7 * i) = 2 ^ 63 := by rw [h9]
             omega
           · exact h63 (by omega)
         have hA : (i = 9 ∧ 1 < D[i].toNat) ∨ (D[i].toNat = 0 ∧ 0 < i) → takeG D 0 0 = (0, 0, 11) := fun h => by rw [hG, if_pos h]
         have hN : ¬ ((i = 9 ∧ 1 < D[i].toNat) ∨ (D[i].toNat = 0 ∧ 0 < i)) → takeG D 0 0 = if D[i].toNat < 128 then (n + D[i].toNat % 128 * 2 ^ (7 * i), i + 1, 0) else takeG (D.drop (i + 1)) (i + 1) (n + D[i].toNat % 128 * 2 ^ (7 * i)) := fun h => by rw [hG, if_neg h]
         clear hG
         generalize n + D[i].toNat % 128 * 2 ^ (7 * i) = m at *
         generalize D[i].toNat = c at *
         refine ⟨fun a1 a2 => ⟨fun _ _ => ?_, fun hx => ?_⟩, fun hx => ⟨fun b1 b2 b3 => ?_, fun hy => ⟨by omega, fun h1 => ?_, fun h2 => ?_⟩⟩⟩
         · rw [hA (.inl ⟨by omega, by omega⟩)]; simp
         · exfalso; have := hx a1; omega
         · rw [hA (.inr ⟨by omega, by omega⟩)]; simp
         · have hno : ¬ ((i = 9 ∧ 1 < c) ∨ (c = 0 ∧ 0 < i)) := by
             rintro (⟨x, y⟩ | ⟨x, y⟩)
             · have := hx (by omega); omega
             · have := hy h1 x; omega
           rw [hN hno, if_pos (by omega), hor (h64 fun h => hno (.inl h))]
           exact ⟨rfl, by simp; omega, rfl⟩
         · have hno : ¬ ((i = 9 ∧ 1 < c) ∨ (c = 0 ∧ 0 < i)) := by
             rintro (⟨x, y⟩ | ⟨x, y⟩)
             · have := hx (by omega); omega
             · omega
           have hi8 : i ≤ 8 := by
             have : ¬ i = 9 := fun h => by have := hx (by omega); omega
             omega
           refine ⟨i + 1, m, ⟨by omega, by omega, hn', ?_⟩, ⟨hor (h63 hi8), by omega⟩, by omega⟩
           rw [hN hno, if_neg (by omega)]
       · have hd : D.drop i = [] := by rw [List.drop_eq_nil_iff]; omega
         have he : takeG D 0 0 = (0, 0, 10) := by rw [hG, hd]; rfl
         simp (config := { maxSteps := 3000000 }) [w1, w2, hlt, he]
 · cases h
end Go.Proofs.Ytfpmjcdcpicmaaa.Ab
namespace Go.Proofs.Ytfpmjcdcpicmaaa.Ab
open Go Go.RowKit R
set_option linter.unusedVariables false
set_option linter.unusedSimpArgs false
set_option maxHeartbeats 4000000
set_option maxRecDepth 100000
theorem takeL_ok (b : List UInt8) (p : Int) : ((takeL b p).2.2 = 0 → 0 ≤ p ∧ p < (takeL b p).2.1 ∧ (takeL b p).2.1 ≤ b.length) ∧ 0 ≤ (takeL b p).1 ∧ (takeL b p).1 ≤ 18446744073709551615 ∧ ((takeL b p).2.2 ≠ 0 → (takeL b p).1 = 0 ∧ (takeL b p).2.1 = p) ∧ ((takeL b p).2.2 = 0 ∨ (takeL b p).2.2 = 10 ∨ (takeL b p).2.2 = 11) := by
 unfold takeL
 split
 · simp
 · rename_i h0
   obtain ⟨h1, h2, h3, h4, h5⟩ := takeG_bound (b.drop p.toNat) 0 0 (by omega) (by simp)
   have hd : (b.drop p.toNat).length = b.length - p.toNat := by simp
   rw [hd] at h2
   dsimp only
   refine ⟨fun h => ?_, by omega, by omega, fun h => ?_, h5⟩
   · have := h3 h; omega
   · have := h4 h; omega
theorem cut_b (l : List UInt8) (i j : Int) : cut (bytesRow l) i j = bytesRow ((l.take j.toNat).drop i.toNat) := by
 simp [cut, bytesRow, List.map_drop, List.map_take]
def takeT (b : List UInt8) (p : Int) : List UInt8 × Int × Int :=
 if (takeL b p).2.2 ≠ 0 then ([], p, (takeL b p).2.2) else if (b.length : Int) - (takeL b p).2.1 < (takeL b p).1 then ([], p, 10) else
   ((b.drop (takeL b p).2.1.toNat).take (takeL b p).1.toNat, (takeL b p).2.1 + (takeL b p).1, 0)
noncomputable def GtakeT : List AV → Option (Prop × AV)
 | [.pv (.ro b), .pv (.int .i64 p)] => (dec byteR b).map fun l => (l.length ≤ 1000000000 ∧ -9223372036854775808 ≤ p ∧ p ≤ 9223372036854775807, .tup [.pv (.str (takeT l p).1), .pv (.int .i64 (takeT l p).2.1), .pv (.int .i64 (takeT l p).2.2)])
 | _ => none
@[simp] theorem GtakeT_eq (b : List (List PV)) (p : Int) : GtakeT [.pv (.ro b), .pv (.int .i64 p)] = (dec byteR b).map fun l => (l.length ≤ 1000000000 ∧ -9223372036854775808 ≤ p ∧ p ≤ 9223372036854775807, .tup [.pv (.str (takeT l p).1), .pv (.int .i64 (takeT l p).2.1), .pv (.int .i64 (takeT l p).2.2)]) := rfl
theorem c_takeT : ConT Try.prog 108 GtakeT := by
 intro ys φ r h hφ
 unfold GtakeT at h
 split at h
 · rename_i rb p
   obtain ⟨b, hb, h⟩ := Option.map_eq_some_iff.1 h
   cases h
   cases dec_bytes_inv hb
   obtain ⟨hl, hp1, hp2⟩ := hφ
   refine con_of (tab_cons c_take tab_nil) (by kernel_rfl) fn108 (by simp) ?_
   unfold body108
   obtain ⟨k1, k2, k3, k4, k5⟩ := takeL_ok b p
   have hT : takeT b p = if (takeL b p).2.2 ≠ 0 then ([], p, (takeL b p).2.2) else if (b.length : Int) - (takeL b p).2.1 < (takeL b p).1 then ([], p, 10) else
     ((b.drop (takeL b p).2.1.toNat).take (takeL b p).1.toNat, (takeL b p).2.1 + (takeL b p).1, 0) := rfl
   generalize takeT b p = T at *
   obtain ⟨n, q, e, hL⟩ : ∃ n q e, takeL b p = (n, q, e) := ⟨_, _, _, rfl⟩
   rw [hL] at k1 k2 k3 k4 k5 hT
   dsimp only at k1 k2 k3 k4 k5 hT
   by_cases he : e = 0
   · obtain ⟨j1, j2, j3⟩ := k1 he
     subst he
     have w1 : IntKind.i64.wrap ((b.length : Int) - q) = (b.length : Int) - q := wrap_i64 (by omega)
     have w2 : IntKind.u64.wrap ((b.length : Int) - q) = (b.length : Int) - q := wrap_u64 (by omega)
     by_cases hgt : (b.length : Int) - q < n
     · rw [if_neg (by simp), if_pos hgt] at hT
       subst hT
       simp (config := { maxSteps := 3000000 }) [hl, hp1, hp2, hL, w1, w2, hgt]
     · rw [if_neg (by simp), if_neg hgt] at hT
       subst hT
       have w3 : IntKind.i64.wrap n = n := wrap_i64 (by omega)
       have w4 : IntKind.i64.wrap (q + n) = q + n := wrap_i64 (by omega)
       have hc : cut (bytesRow b) q (q + n) = bytesRow ((b.drop q.toNat).take n.toNat) := by
         rw [cut_b, List.drop_take, show (q + n).toNat - q.toNat = n.toNat from by omega]
       simp (config := { maxSteps := 3000000 }) [hl, hp1, hp2, hL, w1, w2, w3, w4, hgt, hc]
       exact ⟨by omega, by omega, by omega, bytesRow_one b⟩
   · rw [if_pos he] at hT
     subst hT
     simp (config := { maxSteps := 3000000 }) [hl, hp1, hp2, hL, he]
 · cases h
end Go.Proofs.Ytfpmjcdcpicmaaa.Ab
namespace Go.Proofs.Ytfpmjcdcpicmaaa.Ab
open Go Go.RowKit R
set_option linter.unusedVariables false
set_option linter.unusedSimpArgs false
set_option maxHeartbeats 4000000
set_option maxRecDepth 100000
def standB (b : List UInt8) (at' : Nat) (w : List UInt8) : Bool := decide (at' + w.length ≤ b.length ∧ (b.drop at').take w.length = w)
noncomputable def Gstand : List AV → Option (Prop × AV)
 | [.pv (.ro b), .pv (.int .i64 i), .pv (.ro w)] => (dec byteR b).bind fun lb => (dec byteR w).map fun lw => (0 ≤ i ∧ i ≤ 1000000000 ∧ lb.length ≤ 1000000000 ∧ lw.length ≤ 1000000000, .pv (.bool (standB lb i.toNat lw)))
 | _ => none
@[simp] theorem Gstand_eq (b w : List (List PV)) (i : Int) : Gstand [.pv (.ro b), .pv (.int .i64 i), .pv (.ro w)] = (dec byteR b).bind fun lb => (dec byteR w).map fun lw => (0 ≤ i ∧ i ≤ 1000000000 ∧ lb.length ≤ 1000000000 ∧ lw.length ≤ 1000000000, .pv (.bool (standB lb i.toNat lw))) := rfl
theorem c_rsame : ConT Try.prog 154 Gstand := by
 intro ys φ r h hφ
 unfold Gstand at h
 split at h
 · rename_i rb I rw'
   obtain ⟨b, hb, h⟩ := Option.bind_eq_some_iff.1 h
   obtain ⟨l, hl, h⟩ := Option.map_eq_some_iff.1 h
   cases h
   cases dec_bytes_inv hb
   cases dec_bytes_inv hl
   obtain ⟨p, rfl⟩ := Int.eq_ofNat_of_zero_le hφ.1
   obtain ⟨h0, h1, h2, h3⟩ := hφ
   have w1 : IntKind.i64.wrap ((p : Int) + (l.length : Int)) = (p : Int) + (l.length : Int) := wrap_i64 (by omega)
   refine con_of tab_nil (by kernel_rfl) fn154 (by simp) ?_
   unfold body154
   by_cases hle : p + l.length ≤ b.length
   · have hle' : ¬ (b.length : Int) < (p : Int) + (l.length : Int) := by omega
     simp (config := { maxSteps := 3000000 }) [w1, hle']
     refine vwp_loop (fun i : Nat => i ≤ l.length ∧ (b.drop p).take i = l.take i) (fun i => ⟨[(0, .pv (.ro (bytesRow b))), (1, .pv (.int .i64 p)), (2, .pv (.ro (bytesRow l))), (7, .pv (.int .i64 i))], []⟩) (fun i => l.length - i) [] 0 (by simp) ?_ ?_
     · simp
     · rintro i ⟨hi, ht⟩
       have w2 : IntKind.i64.wrap ((i : Int) + 1) = (i : Int) + 1 := wrap_i64 (by omega)
       have w3 : IntKind.i64.wrap ((p : Int) + (i : Int)) = (p : Int) + (i : Int) := wrap_i64 (by omega)
       by_cases hlt : i < l.length
       · have r1 := R.bytesRow_at hlt
         have hlb : p + i < b.length := by omega
         have hlb' : (p : Int) + (i : Int) < (b.length : Int) := by omega
         have hp0 : 0 ≤ (p : Int) + (i : Int) := by omega
         have r2 : rowAt (bytesRow b) ((p : Int) + (i : Int)) = [.int .u8 (b[p + i].toNat : Int)] := by
           have := R.bytesRow_at hlb
           simpa using this
         have hdl : i < (b.drop p).length := by simp; omega
         simp (config := { maxSteps := 3000000 }) [w2, w3, hlt, hlb, hlb', hp0, r1, r2]
         have hg : (b.drop p)[i] = b[p + i] := by rw [List.getElem_drop]
         refine ⟨fun hne => ?_, fun he => ⟨i + 1, ⟨by omega, ?_⟩, by omega, by omega⟩⟩
         · unfold standB
           rw [decide_eq_false_iff_not]
           rintro ⟨_, e⟩
           refine hne ?_
           have e2 : ((b.drop p).take l.length)[i]? = l[i]? := by rw [e]
           rw [List.getElem?_take, if_pos hlt, List.getElem?_eq_getElem hdl, List.getElem?_eq_getElem hlt, hg] at e2
           simp only [Option.some.injEq] at e2
           rw [e2]
         · rw [List.take_succ_eq_append_getElem hlt, List.take_succ_eq_append_getElem hdl, ht, hg]
           congr 2
           exact UInt8.toNat_inj.1 (by omega)
       · simp (config := { maxSteps := 3000000 }) [hlt]
         unfold standB
         have hil : i = l.length := by omega
         rw [hil, List.take_length] at ht
         simp [hle, ht]
   · have hle' : (b.length : Int) < (p : Int) + (l.length : Int) := by omega
     have hno : standB b p l = false := by unfold standB; simp [hle]
     simp (config := { maxSteps := 3000000 }) [w1, hle', hno]
 · cases h
end Go.Proofs.Ytfpmjcdcpicmaaa.Ab
namespace Go.Proofs.Ytfpmjcdcpicmaaa.Ab
open Go Go.RowKit R
set_option linter.unusedVariables false
set_option linter.unusedSimpArgs false
set_option maxHeartbeats 4000000
set_option maxRecDepth 100000
theorem c_rtake : ConT Try.prog 109 Gtake := by
 intro ys φ r h hφ
 unfold Gtake at h
 split at h
 · rename_i rb p
   obtain ⟨b, hb, h⟩ := Option.map_eq_some_iff.1 h
   cases h
   cases dec_bytes_inv hb
   obtain ⟨hl, hp1, hp2⟩ := hφ
   refine con_of (tab_cons c_rput (tab_cons c_rsame tab_nil)) (by kernel_rfl) fn109 (by simp) ?_
   unfold body109
   by_cases h0 : p < 0 ∨ (b.length : Int) ≤ p
   · have ht : takeL b p = (0, p, 10) := by unfold takeL; rw [if_pos h0]
     by_cases hp0 : p < 0
     · simp (config := { maxSteps := 3000000 }) [hp0, ht]
     · have hbp : (b.length : Int) ≤ p := by omega
       simp (config := { maxSteps := 3000000 }) [hp0, hbp, ht]
   · obtain ⟨q, rfl⟩ := Int.eq_ofNat_of_zero_le (show 0 ≤ p by omega)
     have ht : takeL b q = (((takeG (b.drop q) 0 0).1 : Int), (q : Int) + ((takeG (b.drop q) 0 0).2.1 : Int), (takeG (b.drop q) 0 0).2.2) := by unfold takeL; rw [if_neg h0]; rfl
     have hq0 : ¬ (q : Int) < 0 := by omega
     have hq1 : ¬ (b.length : Int) ≤ q := by omega
     have hq2 : ¬ b.length ≤ q := by omega
     rw [ht]
     simp (config := { maxSteps := 3000000 }) [hq0, hq1, hq2]
     generalize hD : b.drop q = D
     have hDl : D.length + q = b.length := by rw [← hD]; simp; omega
     refine vwp_loop (fun i : Nat => i ≤ D.length ∧ i ≤ 9 ∧ (∀ x ∈ D.take i, 128 ≤ x.toNat) ∧ takeG D 0 0 = takeG (D.drop i) i (val (D.take i)))
       (fun i => ⟨[(0, .pv (.ro (bytesRow b))), (1, .pv (.int .i64 q)), (7, .pv (.int .u64 (val (D.take i)))), (8, .pv (.int .i64 i))], []⟩) (fun i => D.length - i) [] 0 ?_ ?_ ?_
     · simp [val]
     · simp [val]
     · rintro i ⟨hi, hi9, hall, hG⟩
       have w1 : IntKind.i64.wrap ((i : Int) + 1) = (i : Int) + 1 := wrap_i64 (by omega)
       have w2 : IntKind.i64.wrap (7 * (i : Int)) = 7 * (i : Int) := wrap_i64 (by omega)
       have w3 : IntKind.i64.wrap ((q : Int) + (i : Int)) = (q : Int) + (i : Int) := wrap_i64 (by omega)
       have w4 : IntKind.i64.wrap ((q : Int) + (i : Int) + 1) = (q : Int) + (i : Int) + 1 := wrap_i64 (by omega)
       have hi10 : (i : Int) < 10 := by omega
       by_cases hlt : i < D.length
       · have hlt1 : (q : Int) + i < b.length := by omega
         have hlt2 : ¬ (b.length : Int) ≤ (q : Int) + i := by omega
         have hqi : q + i < b.length := by omega
         have r1 : rowAt (bytesRow b) ((q : Int) + (i : Int)) = [.int .u8 (D[i].toNat : Int)] := by
           have h1 := R.bytesRow_at hqi
           have h2 : D[i] = b[q + i] := by subst hD; rw [List.getElem_drop]
           rw [h2]; simpa using h1
         have hq3 : 0 ≤ (q : Int) + i := by omega
         rw [List.drop_eq_getElem_cons hlt, takeG] at hG
         have hc := D[i].toNat_lt
         have hn := val_lt (D.take i)
         have htl : (D.take i).length = i := by simp; omega
         rw [htl] at hn
         have hcm : D[i].toNat % 128 ≤ 127 := by omega
         have hn' := grp_lt hn hcm
         have hv : val (D.take (i + 1)) = val (D.take i) + D[i].toNat % 128 * 2 ^ (7 * i) := by
           rw [List.take_succ_eq_append_getElem hlt, val_snoc, htl]
         have h63 : i ≤ 8 → val (D.take i) + D[i].toNat % 128 * 2 ^ (7 * i) < 2 ^ 64 := fun h8 => by
           have : 2 ^ (7 * (i + 1)) ≤ 2 ^ 63 := Nat.pow_le_pow_right (by decide) (by omega)
           omega
         have h64 : ¬ (i = 9 ∧ 1 < D[i].toNat) → val (D.take i) + D[i].toNat % 128 * 2 ^ (7 * i) < 2 ^ 64 := fun h => by
           by_cases h9 : i = 9
           · have hle : D[i].toNat % 128 * 2 ^ (7 * i) ≤ 1 * 2 ^ (7 * i) := Nat.mul_le_mul_right _ (by omega)
             have : 2 ^ (7 * i) = 2 ^ 63 := by rw [h9]
             omega
           · exact h63 (by omega)
         have c1 : IntKind.u64.wrap (D[i].toNat : Int) = (D[i].toNat : Int) := wrap_u64 (by omega)
         have hpw : 2 ^ (7 * i) ≤ 2 ^ 63 := Nat.pow_le_pow_right (by decide) (by omega)
         have c2 : IntKind.u64.wrap (2 ^ min (7 * (i : Int)).toNat IntKind.u64.bits) = ((2 ^ (7 * i) : Nat) : Int) := by
           have e1 : min (7 * (i : Int)).toNat IntKind.u64.bits = 7 * i := by
             have : (7 * (i : Int)).toNat = 7 * i := by omega
             rw [this]; exact Nat.min_eq_left (show 7 * i ≤ 64 by omega)
           rw [e1, show ((2 : Int) ^ (7 * i)) = ((2 ^ (7 * i) : Nat) : Int) from by simp]
           exact wrap_u64 (by omega)
         by_cases hA : i = 9 ∧ 1 < D[i].toNat
         · rw [if_pos (.inl hA)] at hG
           obtain ⟨h9, h1c⟩ := hA
           have h9' : ((i : Int) = 9) = True := eq_true (by omega)
           have h1c' : (1 : Int) < (D[i].toNat : Int) := by omega
           simp (config := { maxSteps := 3000000 }) [w1, w2, w3, w4, hi10, hlt1, hlt2, hq3, r1, c1, c2, h9', h1c', hG]
           omega
         · have hN := h64 hA
           obtain ⟨M, hM⟩ : ∃ M, M = D[i].toNat % 128 * 2 ^ (7 * i) := ⟨_, rfl⟩
           have c3 : IntKind.u64.wrap ((D[i].toNat : Int).tmod 128 * 2 ^ (7 * i)) = (M : Int) := by
             have e0 : (D[i].toNat : Int).tmod 128 = ((D[i].toNat % 128 : Nat) : Int) := by rw [Int.tmod_eq_emod_of_nonneg (by omega)]; omega
             rw [e0, hM, show ((D[i].toNat % 128 : Nat) : Int) * 2 ^ (7 * i) = ((D[i].toNat % 128 * 2 ^ (7 * i) : Nat) : Int) from by simp]
             exact wrap_u64 (by omega)
           obtain ⟨V, hV⟩ : ∃ V, V = val (D.take (i + 1)) := ⟨_, rfl⟩
           have hVM : V = val (D.take i) + M := by rw [hV, hv, hM]
           have c4 : IntKind.u64.wrap ((val (D.take i) : Int) + (M : Int)) = (V : Int) := by
             rw [show ((val (D.take i) : Int) + (M : Int)) = ((val (D.take i) + M : Nat) : Int) from by simp, ← hVM]; exact wrap_u64 (by omega)
           have hV64 : (V : Int) ≤ 18446744073709551615 := by omega
           have hp : vputP (V : Int) = vput V := by rw [vputP, Int.toNat_natCast]
           have hpl : (vput V).length ≤ 10 := vput_le 9 V (by omega)
           have hpl9 : (vput V).length ≤ 1000000000 := by omega
           have h7 : 0 ≤ 7 * (i : Int) := by omega
           have hq9 : (q : Int) ≤ 1000000000 := by omega
           have hA1 : (i : Int) = 9 → ¬ 1 < (D[i].toNat : Int) := fun h1 h2 => hA ⟨by omega, by omega⟩
           have hA2 : ((i : Int) = 9 → (D[i].toNat : Int) ≤ 1) = True := eq_true fun h1 => by have := hA1 h1; omega
           by_cases h128 : D[i].toNat < 128
           · have h128i : (D[i].toNat : Int) < 128 := by omega
             by_cases h00 : D[i].toNat = 0 ∧ 0 < i
             · rw [if_pos (.inr h00)] at hG
               have hlt7 : (vput V).length ≤ i := by
                 obtain ⟨k, rfl⟩ : ∃ k, i = k + 1 := ⟨i - 1, by omega⟩
                 refine vput_le k V ?_
                 have : M = 0 := by rw [hM, h00.1]; simp
                 omega
               have hne : ¬ ((i : Int) + 1 = ((vput V).length : Int)) := by omega
               by_cases hst : standB b q (vput V) = true
               · simp (config := { maxSteps := 3000000 }) [w1, w2, w3, w4, hi10, hlt1, hlt2, hq3, r1, c1, c2, c3, c4, hV64, hp, hpl9, h7, hq9, hA2, h128i, hst, hne, hG, hl]
               · have hst' : standB b q (vput V) = false := by simpa using hst
                 simp (config := { maxSteps := 3000000 }) [w1, w2, w3, w4, hi10, hlt1, hlt2, hq3, r1, c1, c2, c3, c4, hV64, hp, hpl9, h7, hq9, hA2, h128i, hst', hne, hG, hl]
             · rw [if_neg (by rintro (h | h); exact hA h; exact h00 h), if_pos h128] at hG
               rw [← hM, ← hVM] at hG
               have hpe : vput V = D.take (i + 1) := by
                 have := vput_val (D.take i) D[i] hall h128 (by
                   by_cases hc0 : D[i].toNat = 0
                   · right; have : i = 0 := by omega
                     subst this; simp
                   · exact .inl hc0)
                 rw [← List.take_succ_eq_append_getElem hlt] at this
                 rw [hV, this]
               have hle1 : (vput V).length = i + 1 := by rw [hpe]; simp; omega
               have heq : ((i : Int) + 1 = ((vput V).length : Int)) = True := eq_true (by omega)
               have hst : standB b q (vput V) = true := by
                 unfold standB
                 rw [hD, hle1, hpe]
                 simp; omega
               simp (config := { maxSteps := 3000000 }) [w1, w2, w3, w4, hi10, hlt1, hlt2, hq3, r1, c1, c2, c3, c4, hV64, hp, hpl9, h7, hq9, hA2, h128i, hst, heq, hG, hl]
               omega
           · have h128i : ¬ (D[i].toNat : Int) < 128 := by omega
             rw [if_neg (by rintro (h | h); exact hA h; omega), if_neg h128] at hG
             rw [← hM, ← hVM] at hG
             simp (config := { maxSteps := 3000000 }) [w1, w2, w3, w4, hi10, hlt1, hlt2, hq3, r1, c1, c2, c3, c4, hV64, hp, hpl9, h7, hq9, hA2, h128i]
             have hi8 : i ≤ 8 := by
               have : ¬ i = 9 := fun h9 => hA ⟨h9, by omega⟩
               omega
             have hall' : ∀ x ∈ D.take (i + 1), 128 ≤ x.toNat := by
               intro x hx
               rw [List.take_succ_eq_append_getElem hlt, List.mem_append] at hx
               rcases hx with hx | hx
               · exact hall x hx
               · simp only [List.mem_singleton] at hx
                 subst hx; omega
             exact ⟨fun a1 a2 => absurd a2 (hA1 a1), i + 1, ⟨by omega, by omega, hall', by rw [hG, hV]⟩, ⟨by rw [hV], by omega⟩, by omega⟩
       · have hd : D.drop i = [] := by rw [List.drop_eq_nil_iff]; omega
         have he : takeG D 0 0 = (0, 0, 10) := by rw [hG, hd]; rfl
         have hlt2 : (b.length : Int) ≤ (q : Int) + i := by omega
         simp (config := { maxSteps := 3000000 }) [w1, w2, w3, hi10, hlt2, he]
 · cases h
end Go.Proofs.Ytfpmjcdcpicmaaa.Ab
namespace Go.Proofs.Ytfpmjcdcpicmaaa.Ab
open Go Go.RowKit R
set_option linter.unusedVariables false
set_option linter.unusedSimpArgs false
set_option maxHeartbeats 4000000
set_option maxRecDepth 100000
theorem rtakeT_of (c_rtake : ConT Try.prog 109 Gtake) : ConT Try.prog 110 GtakeT := by
 intro ys φ r h hφ
 unfold GtakeT at h
 split at h
 · rename_i rb p
   obtain ⟨b, hb, h⟩ := Option.map_eq_some_iff.1 h
   cases h
   cases dec_bytes_inv hb
   obtain ⟨hl, hp1, hp2⟩ := hφ
   refine con_of (tab_cons c_rtake tab_nil) (by kernel_rfl) fn110 (by simp) ?_
   unfold body110
   obtain ⟨k1, k2, k3, k4, k5⟩ := takeL_ok b p
   have hT : takeT b p = if (takeL b p).2.2 ≠ 0 then ([], p, (takeL b p).2.2) else if (b.length : Int) - (takeL b p).2.1 < (takeL b p).1 then ([], p, 10) else
     ((b.drop (takeL b p).2.1.toNat).take (takeL b p).1.toNat, (takeL b p).2.1 + (takeL b p).1, 0) := rfl
   generalize takeT b p = T at *
   obtain ⟨n, q, e, hL⟩ : ∃ n q e, takeL b p = (n, q, e) := ⟨_, _, _, rfl⟩
   rw [hL] at k1 k2 k3 k4 k5 hT
   dsimp only at k1 k2 k3 k4 k5 hT
   have w2 : IntKind.u64.wrap (b.length : Int) = (b.length : Int) := wrap_u64 (by omega)
   by_cases he : e = 0
   · obtain ⟨j1, j2, j3⟩ := k1 he
     subst he
     by_cases hgt : (b.length : Int) < n
     · rw [if_neg (by simp), if_pos (by omega)] at hT
       subst hT
       simp (config := { maxSteps := 3000000 }) [hl, hp1, hp2, hL, w2, hgt]
     · have w3 : IntKind.i64.wrap n = n := wrap_i64 (by omega)
       have w4 : IntKind.i64.wrap (q + n) = q + n := wrap_i64 (by omega)
       by_cases hgt2 : (b.length : Int) < q + n
       · rw [if_neg (by simp), if_pos (by omega)] at hT
         subst hT
         simp (config := { maxSteps := 3000000 }) [hl, hp1, hp2, hL, w2, w3, w4, hgt, hgt2]
       · rw [if_neg (by simp), if_neg (by omega)] at hT
         subst hT
         have hc : cut (bytesRow b) q (q + n) = bytesRow ((b.drop q.toNat).take n.toNat) := by
           rw [cut_b, List.drop_take, show (q + n).toNat - q.toNat = n.toNat from by omega]
         simp (config := { maxSteps := 3000000 }) [hl, hp1, hp2, hL, w2, w3, w4, hgt, hgt2, hc]
         exact ⟨by omega, by omega, by omega, bytesRow_one b⟩
   · rw [if_pos he] at hT
     subst hT
     simp (config := { maxSteps := 3000000 }) [hl, hp1, hp2, hL, he]
 · cases h
end Go.Proofs.Ytfpmjcdcpicmaaa.Ab
