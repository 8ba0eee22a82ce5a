/- A number read, seven digits a byte: plain laws. -/
import Derived.Test.YtcgllachkjnlgaaD26
namespace Go.Proofs.Ytcgllachkjnlgaa.Ab
open Go Go.RowKit R
set_option linter.unusedVariables false
set_option linter.unusedSimpArgs false
set_option maxHeartbeats 4000000
set_option maxRecDepth 100000

/-- What stands in bytes from the i-th group on: the number, how many bytes it has, the error's number. -/
def takeG : List UInt8 → Nat → Nat → Nat × Nat × Int
  | [], _, _ => (0, 0, 10)
  | c :: l, i, n => if (i = 9 ∧ 1 < c.toNat) ∨ (c.toNat = 0 ∧ 0 < i) then (0, 0, 11) else
    if c.toNat < 128 then (n + c.toNat % 128 * 2 ^ (7 * i), i + 1, 0) else takeG l (i + 1) (n + c.toNat % 128 * 2 ^ (7 * i))
def takeL (b : List UInt8) (p : Int) : Int × Int × Int :=
  if p < 0 ∨ (b.length : Int) ≤ p then (0, p, 10) else (((takeG (b.drop p.toNat) 0 0).1 : Int), p + ((takeG (b.drop p.toNat) 0 0).2.1 : Int), (takeG (b.drop p.toNat) 0 0).2.2)

theorem takeG_bound : ∀ (l : List UInt8) (i n : Nat), i ≤ 9 → n < 2 ^ (7 * i) → (takeG l i n).1 < 2 ^ 64 ∧ (takeG l i n).2.1 ≤ i + l.length ∧ ((takeG l i n).2.2 = 0 → i < (takeG l i n).2.1) ∧ ((takeG l i n).2.2 ≠ 0 → (takeG l i n).1 = 0 ∧ (takeG l i n).2.1 = 0) ∧ ((takeG l i n).2.2 = 0 ∨ (takeG l i n).2.2 = 10 ∨ (takeG l i n).2.2 = 11)
  | [], i, n, hi, hn => by simp [takeG]
  | c :: l, i, n, hi, hn => by
    unfold takeG
    have hc := c.toNat_lt
    have hcm : c.toNat % 128 ≤ 127 := by omega
    have h1 : n + c.toNat % 128 * 2 ^ (7 * i) < 2 ^ (7 * (i + 1)) := by
      have : c.toNat % 128 * 2 ^ (7 * i) ≤ 127 * 2 ^ (7 * i) := Nat.mul_le_mul_right _ hcm
      rw [Nat.mul_add, Nat.pow_add]; omega
    split
    · simp
    · rename_i h0
      split
      · refine ⟨?_, by simp, by simp, by simp, by simp⟩
        dsimp only
        by_cases h9 : i = 9
        · subst h9
          have hc1 : c.toNat ≤ 1 := by omega
          have : c.toNat % 128 * 2 ^ (7 * 9) ≤ 1 * 2 ^ (7 * 9) := Nat.mul_le_mul_right _ (by omega)
          omega
        · have : 2 ^ (7 * (i + 1)) ≤ 2 ^ 63 := Nat.pow_le_pow_right (by decide) (by omega)
          omega
      · rename_i hbig
        have hi8 : i ≤ 8 := by omega
        obtain ⟨a1, a2, a3, a4⟩ := takeG_bound l (i + 1) _ (by omega) h1
        refine ⟨a1, ?_, fun h => ?_, a4⟩
        · simp only [List.length_cons]; omega
        · have := a3 h; omega

theorem andNot_128 (c : UInt8) : sbit .andNot .u8 (c.toNat : Int) 128 = .int .u8 ((c.toNat % 128 : Nat) : Int) := by
  have key : ∀ x : Fin 256, IntKind.u8.wrap ((BitVec.ofInt IntKind.u8.bits (x.val : Int) &&& ~~~ BitVec.ofInt IntKind.u8.bits 128).toNat : Nat) = ((x.val % 128 : Nat) : Int) := by decide +kernel
  have h := key ⟨c.toNat, c.toNat_lt⟩
  unfold sbit
  exact congrArg _ h
theorem or_u64 {n m i : Nat} (hn : n < 2 ^ (7 * i)) (hm : n + m * 2 ^ (7 * i) < 2 ^ 64) : sbit .or .u64 (n : Int) ((m : Int) * 2 ^ (7 * i)) = .int .u64 ((n + m * 2 ^ (7 * i) : Nat) : Int) := by
  have e1 : ((m : Int) * 2 ^ (7 * i)) = ((m * 2 ^ (7 * i) : Nat) : Int) := by simp
  have hn64 : n < 2 ^ 64 := by omega
  have hm64 : m * 2 ^ (7 * i) < 2 ^ 64 := by omega
  have h1 : (BitVec.ofInt 64 (n : Int)).toNat = n := by rw [BitVec.ofInt_natCast, BitVec.toNat_ofNat, Nat.mod_eq_of_lt hn64]
  have h2 : (BitVec.ofInt 64 ((m * 2 ^ (7 * i) : Nat) : Int)).toNat = m * 2 ^ (7 * i) := by rw [BitVec.ofInt_natCast, BitVec.toNat_ofNat, Nat.mod_eq_of_lt hm64]
  have h3 : n ||| m * 2 ^ (7 * i) = n + m * 2 ^ (7 * i) := by
    rw [Nat.or_comm, ← Nat.shiftLeft_eq, ← Nat.shiftLeft_add_eq_or_of_lt hn, Nat.add_comm]
  rw [e1]
  unfold sbit
  have h4 : (BitVec.ofInt IntKind.u64.bits (n : Int) ||| BitVec.ofInt IntKind.u64.bits ((m * 2 ^ (7 * i) : Nat) : Int)).toNat = n + m * 2 ^ (7 * i) := by
    show (BitVec.ofInt 64 (n : Int) ||| BitVec.ofInt 64 ((m * 2 ^ (7 * i) : Nat) : Int)).toNat = _
    rw [BitVec.toNat_or, h1, h2, h3]
  simp only [h4]
  refine congrArg _ ?_
  exact wrap_u64 (by omega)

/-- The number that groups stand for. -/
def val : List UInt8 → Nat
  | [] => 0
  | c :: l => c.toNat % 128 + 128 * val l
theorem val_snoc (l : List UInt8) (c : UInt8) : val (l ++ [c]) = val l + c.toNat % 128 * 2 ^ (7 * l.length) := by
  induction l with
  | nil => simp [val]
  | cons x l ih =>
    simp only [List.cons_append, val, ih, List.length_cons]
    have : 2 ^ (7 * (l.length + 1)) = 128 * 2 ^ (7 * l.length) := by rw [Nat.mul_add, Nat.pow_add]; omega
    rw [this, Nat.mul_add, Nat.mul_left_comm]; omega
theorem val_lt (l : List UInt8) : val l < 2 ^ (7 * l.length) := by
  induction l with
  | nil => simp [val]
  | cons x l ih =>
    simp only [val, List.length_cons]
    have : 2 ^ (7 * (l.length + 1)) = 128 * 2 ^ (7 * l.length) := by rw [Nat.mul_add, Nat.pow_add]; omega
    omega
theorem vput_val : ∀ (l : List UInt8) (c : UInt8), (∀ x ∈ l, 128 ≤ x.toNat) → c.toNat < 128 → (c.toNat ≠ 0 ∨ l = []) → vput (val (l ++ [c])) = l ++ [c]
  | [], c, _, hc, _ => by
    have : val ([] ++ [c]) = c.toNat := by simp [val]; omega
    rw [this, vput_small hc]
    simp
  | x :: l, c, hl, hc, h0 => by
    have hx := hl x (by simp)
    have hx2 := x.toNat_lt
    have h0 : c.toNat ≠ 0 := by rcases h0 with h | h; exact h; cases h
    have hv : 0 < val (l ++ [c]) := by
      rw [val_snoc]
      have : 0 < c.toNat % 128 * 2 ^ (7 * l.length) := Nat.mul_pos (by omega) (Nat.pow_pos (by decide))
      omega
    have ih := vput_val l c (fun y hy => hl y (by simp [hy])) hc (.inl h0)
    simp only [List.cons_append, val]
    rw [vput_big (by omega), show (x.toNat % 128 + 128 * val (l ++ [c])) / 128 = val (l ++ [c]) from by omega, ih, show (x.toNat % 128 + 128 * val (l ++ [c])) % 128 + 128 = x.toNat from by omega]
    simp
theorem vput_le : ∀ (k n : Nat), n < 2 ^ (7 * (k + 1)) → (vput n).length ≤ k + 1
  | 0, n, h => by rw [vput_small (by simpa using h)]; simp
  | k + 1, n, h => by
    by_cases hn : n < 128
    · rw [vput_small hn]; simp
    · rw [vput_big hn]
      have : 2 ^ (7 * (k + 1 + 1)) = 128 * 2 ^ (7 * (k + 1)) := by rw [Nat.mul_add 7 (k + 1), Nat.pow_add]; omega
      have := vput_le k (n / 128) (by omega)
      simp only [List.length_cons]; omega

end Go.Proofs.Ytcgllachkjnlgaa.Ab
/- A number read: as the program does it. -/
namespace Go.Proofs.Ytcgllachkjnlgaa.Ab
open Go Go.RowKit R
set_option linter.unusedVariables false
set_option linter.unusedSimpArgs false
set_option maxHeartbeats 4000000
set_option maxRecDepth 100000

noncomputable def Gtake : List AV → Option (Prop × AV)
  | [.pv (.ro b), .pv (.int .i64 p)] => (dec byteR b).map fun l => (l.length ≤ 1000000000 ∧ -1000000000 ≤ p ∧ p ≤ 1000000000, .tup [.pv (.int .u64 (takeL l p).1), .pv (.int .i64 (takeL l p).2.1), .pv (.int .i64 (takeL l p).2.2)])
  | _ => none
@[simp] theorem Gtake_eq (b : List (List PV)) (p : Int) : Gtake [.pv (.ro b), .pv (.int .i64 p)] = (dec byteR b).map fun l => (l.length ≤ 1000000000 ∧ -1000000000 ≤ p ∧ p ≤ 1000000000, .tup [.pv (.int .u64 (takeL l p).1), .pv (.int .i64 (takeL l p).2.1), .pv (.int .i64 (takeL l p).2.2)]) := rfl

theorem grp_lt {n c i : Nat} (hn : n < 2 ^ (7 * i)) (hc : c ≤ 127) : n + c * 2 ^ (7 * i) < 2 ^ (7 * (i + 1)) := by
  have : c * 2 ^ (7 * i) ≤ 127 * 2 ^ (7 * i) := Nat.mul_le_mul_right _ hc
  rw [Nat.mul_add, Nat.pow_add]; omega
theorem cut_bytes (l : List UInt8) (i : Nat) : cut (bytesRow l) (i : Int) (l.length : Int) = bytesRow (l.drop i) := by
  have : List.take l.length (bytesRow l) = bytesRow l := List.take_of_length_le (by simp [bytesRow])
  unfold cut
  rw [Int.toNat_natCast, Int.toNat_natCast, this]
  simp [bytesRow, List.map_drop]

theorem c_take : ConT Try.prog 58 Gtake := by
  intro ys φ r h hφ
  unfold Gtake at h
  split at h
  · rename_i rb p
    obtain ⟨b, hb, h⟩ := Option.map_eq_some_iff.1 h
    cases h
    cases dec_bytes_inv hb
    obtain ⟨hl, hp1, hp2⟩ := hφ
    refine con_of tab_nil (by kernel_rfl) fn58 (by simp) ?_
    unfold body58
    by_cases h0 : p < 0 ∨ (b.length : Int) ≤ p
    · have ht : takeL b p = (0, p, 10) := by unfold takeL; rw [if_pos h0]
      by_cases hp0 : p < 0
      · simp (config := { maxSteps := 3000000 }) [hp0, ht]
      · have hbp : (b.length : Int) ≤ p := by omega
        simp (config := { maxSteps := 3000000 }) [hp0, hbp, ht]
    · obtain ⟨q, rfl⟩ := Int.eq_ofNat_of_zero_le (show 0 ≤ p by omega)
      have ht : takeL b q = (((takeG (b.drop q) 0 0).1 : Int), (q : Int) + ((takeG (b.drop q) 0 0).2.1 : Int), (takeG (b.drop q) 0 0).2.2) := by unfold takeL; rw [if_neg h0]; rfl
      have hq0 : ¬ (q : Int) < 0 := by omega
      have hq1 : ¬ (b.length : Int) ≤ q := by omega
      have hq2 : ¬ b.length ≤ q := by omega
      have hc := cut_bytes b q
      rw [ht]
      simp (config := { maxSteps := 3000000 }) [hq0, hq1, hq2, hc]
      refine ⟨⟨by omega, bytesRow_one b⟩, ?_⟩
      generalize hD : b.drop q = D
      have hDl : D.length + q = b.length := by rw [← hD]; simp; omega
      have hbD : (b.length : Int) - q = (D.length : Int) := by omega
      refine vwp_loop (fun x : Nat × Nat => x.1 ≤ D.length ∧ x.1 ≤ 9 ∧ x.2 < 2 ^ (7 * x.1) ∧ takeG D 0 0 = takeG (D.drop x.1) x.1 x.2)
        (fun x => ⟨[(1, .pv (.int .i64 q)), (4, .pv (.int .u64 x.2)), (6, .pv (.int .i64 10)), (21, .pv (.ro (bytesRow D))), (22, .pv (.int .i64 D.length)), (23, .pv (.int .i64 x.1))], []⟩) (fun x => D.length - x.1) [] (0, 0) ?_ ?_ ?_
      · simp
      · simp
        omega
      · rintro ⟨i, n⟩ ⟨hi, hi9, hn, hG⟩
        dsimp only at hi hi9 hn hG
        have w1 : IntKind.i64.wrap ((i : Int) + 1) = (i : Int) + 1 := wrap_i64 (by omega)
        have w2 : IntKind.i64.wrap (7 * (i : Int)) = 7 * (i : Int) := wrap_i64 (by omega)
        have w3 : IntKind.i64.wrap ((q : Int) + (i : Int)) = (q : Int) + (i : Int) := wrap_i64 (by omega)
        have w4 : IntKind.i64.wrap ((q : Int) + (i : Int) + 1) = (q : Int) + (i : Int) + 1 := wrap_i64 (by omega)
        by_cases hlt : i < D.length
        · have r1 := R.bytesRow_at hlt
          rw [List.drop_eq_getElem_cons hlt, takeG] at hG
          have hc := D[i].toNat_lt
          have ha := andNot_128 D[i]
          simp (config := { maxSteps := 3000000 }) [w1, w2, w3, w4, hlt, r1, ha]
          have hcm : D[i].toNat % 128 ≤ 127 := by omega
          have hn' := grp_lt hn hcm
          have hor : ∀ hm : n + D[i].toNat % 128 * 2 ^ (7 * i) < 2 ^ 64, sbit .or .u64 (n : Int) (IntKind.u64.wrap (IntKind.u64.wrap ((D[i].toNat : Int) % 128) * 2 ^ min (7 * (i : Int)).toNat IntKind.u64.bits)) = .int .u64 ((n + D[i].toNat % 128 * 2 ^ (7 * i) : Nat) : Int) := by
            intro hm
            have e1 : IntKind.u64.wrap ((D[i].toNat : Int) % 128) = ((D[i].toNat % 128 : Nat) : Int) := by rw [wrap_u64 (by omega)]; omega
            have e2 : min (7 * (i : Int)).toNat IntKind.u64.bits = 7 * i := by
              have : (7 * (i : Int)).toNat = 7 * i := by omega
              rw [this]; exact Nat.min_eq_left (show 7 * i ≤ 64 by omega)
            have e3 : IntKind.u64.wrap (((D[i].toNat % 128 : Nat) : Int) * 2 ^ (7 * i)) = ((D[i].toNat % 128 : Nat) : Int) * 2 ^ (7 * i) := by
              have e4 : (((D[i].toNat % 128 : Nat) : Int) * 2 ^ (7 * i)) = ((D[i].toNat % 128 * 2 ^ (7 * i) : Nat) : Int) := by simp
              rw [e4]; exact wrap_u64 (by omega)
            rw [e1, e2, e3]
            exact or_u64 hn hm
          have h63 : i ≤ 8 → n + D[i].toNat % 128 * 2 ^ (7 * i) < 2 ^ 64 := fun h8 => by
            have : 2 ^ (7 * (i + 1)) ≤ 2 ^ 63 := Nat.pow_le_pow_right (by decide) (by omega)
            omega
          have h64 : ¬ (i = 9 ∧ 1 < D[i].toNat) → n + D[i].toNat % 128 * 2 ^ (7 * i) < 2 ^ 64 := fun h => by
            by_cases h9 : i = 9
            · have hle : D[i].toNat % 128 * 2 ^ (7 * i) ≤ 1 * 2 ^ (7 * i) := Nat.mul_le_mul_right _ (by omega)
              have : 2 ^ (7 * i) = 2 ^ 63 := by rw [h9]
              omega
            · exact h63 (by omega)
          have hA : (i = 9 ∧ 1 < D[i].toNat) ∨ (D[i].toNat = 0 ∧ 0 < i) → takeG D 0 0 = (0, 0, 11) := fun h => by rw [hG, if_pos h]
          have hN : ¬ ((i = 9 ∧ 1 < D[i].toNat) ∨ (D[i].toNat = 0 ∧ 0 < i)) → takeG D 0 0 = if D[i].toNat < 128 then (n + D[i].toNat % 128 * 2 ^ (7 * i), i + 1, 0) else takeG (D.drop (i + 1)) (i + 1) (n + D[i].toNat % 128 * 2 ^ (7 * i)) := fun h => by rw [hG, if_neg h]
          clear hG
          generalize n + D[i].toNat % 128 * 2 ^ (7 * i) = m at *
          generalize D[i].toNat = c at *
          refine ⟨fun a1 a2 => ⟨fun _ _ => ?_, fun hx => ?_⟩, fun hx => ⟨fun b1 b2 b3 => ?_, fun hy => ⟨by omega, fun h1 => ?_, fun h2 => ?_⟩⟩⟩
          · rw [hA (.inl ⟨by omega, by omega⟩)]; simp
          · exfalso; have := hx a1; omega
          · rw [hA (.inr ⟨by omega, by omega⟩)]; simp
          · have hno : ¬ ((i = 9 ∧ 1 < c) ∨ (c = 0 ∧ 0 < i)) := by
              rintro (⟨x, y⟩ | ⟨x, y⟩)
              · have := hx (by omega); omega
              · have := hy h1 x; omega
            rw [hN hno, if_pos (by omega), hor (h64 fun h => hno (.inl h))]
            exact ⟨rfl, by simp; omega, rfl⟩
          · have hno : ¬ ((i = 9 ∧ 1 < c) ∨ (c = 0 ∧ 0 < i)) := by
              rintro (⟨x, y⟩ | ⟨x, y⟩)
              · have := hx (by omega); omega
              · omega
            have hi8 : i ≤ 8 := by
              have : ¬ i = 9 := fun h => by have := hx (by omega); omega
              omega
            refine ⟨i + 1, m, ⟨by omega, by omega, hn', ?_⟩, ⟨hor (h63 hi8), by omega⟩, by omega⟩
            rw [hN hno, if_neg (by omega)]
        · have hd : D.drop i = [] := by rw [List.drop_eq_nil_iff]; omega
          have he : takeG D 0 0 = (0, 0, 10) := by rw [hG, hd]; rfl
          simp (config := { maxSteps := 3000000 }) [w1, w2, hlt, he]
  · cases h

end Go.Proofs.Ytcgllachkjnlgaa.Ab
/- A text read: as the program does it. -/
namespace Go.Proofs.Ytcgllachkjnlgaa.Ab
open Go Go.RowKit R
set_option linter.unusedVariables false
set_option linter.unusedSimpArgs false
set_option maxHeartbeats 4000000
set_option maxRecDepth 100000

theorem takeL_ok (b : List UInt8) (p : Int) : ((takeL b p).2.2 = 0 → 0 ≤ p ∧ p < (takeL b p).2.1 ∧ (takeL b p).2.1 ≤ b.length) ∧ 0 ≤ (takeL b p).1 ∧ (takeL b p).1 ≤ 18446744073709551615 ∧ ((takeL b p).2.2 ≠ 0 → (takeL b p).1 = 0 ∧ (takeL b p).2.1 = p) ∧ ((takeL b p).2.2 = 0 ∨ (takeL b p).2.2 = 10 ∨ (takeL b p).2.2 = 11) := by
  unfold takeL
  split
  · simp
  · rename_i h0
    obtain ⟨h1, h2, h3, h4, h5⟩ := takeG_bound (b.drop p.toNat) 0 0 (by omega) (by simp)
    have hd : (b.drop p.toNat).length = b.length - p.toNat := by simp
    rw [hd] at h2
    dsimp only
    refine ⟨fun h => ?_, by omega, by omega, fun h => ?_, h5⟩
    · have := h3 h; omega
    · have := h4 h; omega

theorem cut_b (l : List UInt8) (i j : Int) : cut (bytesRow l) i j = bytesRow ((l.take j.toNat).drop i.toNat) := by
  simp [cut, bytesRow, List.map_drop, List.map_take]
/-- A text that stands in bytes at a place. -/
def takeT (b : List UInt8) (p : Int) : List UInt8 × Int × Int :=
  if (takeL b p).2.2 ≠ 0 then ([], p, (takeL b p).2.2) else if (b.length : Int) - (takeL b p).2.1 < (takeL b p).1 then ([], p, 10) else
    ((b.drop (takeL b p).2.1.toNat).take (takeL b p).1.toNat, (takeL b p).2.1 + (takeL b p).1, 0)

noncomputable def GtakeT : List AV → Option (Prop × AV)
  | [.pv (.ro b), .pv (.int .i64 p)] => (dec byteR b).map fun l => (l.length ≤ 1000000000 ∧ -1000000000 ≤ p ∧ p ≤ 1000000000, .tup [.pv (.str (takeT l p).1), .pv (.int .i64 (takeT l p).2.1), .pv (.int .i64 (takeT l p).2.2)])
  | _ => none
@[simp] theorem GtakeT_eq (b : List (List PV)) (p : Int) : GtakeT [.pv (.ro b), .pv (.int .i64 p)] = (dec byteR b).map fun l => (l.length ≤ 1000000000 ∧ -1000000000 ≤ p ∧ p ≤ 1000000000, .tup [.pv (.str (takeT l p).1), .pv (.int .i64 (takeT l p).2.1), .pv (.int .i64 (takeT l p).2.2)]) := rfl

theorem c_takeT : ConT Try.prog 57 GtakeT := by
  intro ys φ r h hφ
  unfold GtakeT at h
  split at h
  · rename_i rb p
    obtain ⟨b, hb, h⟩ := Option.map_eq_some_iff.1 h
    cases h
    cases dec_bytes_inv hb
    obtain ⟨hl, hp1, hp2⟩ := hφ
    refine con_of (tab_cons c_take tab_nil) (by kernel_rfl) fn57 (by simp) ?_
    unfold body57
    obtain ⟨k1, k2, k3, k4, k5⟩ := takeL_ok b p
    have hT : takeT b p = if (takeL b p).2.2 ≠ 0 then ([], p, (takeL b p).2.2) else if (b.length : Int) - (takeL b p).2.1 < (takeL b p).1 then ([], p, 10) else
      ((b.drop (takeL b p).2.1.toNat).take (takeL b p).1.toNat, (takeL b p).2.1 + (takeL b p).1, 0) := rfl
    generalize takeT b p = T at *
    obtain ⟨n, q, e, hL⟩ : ∃ n q e, takeL b p = (n, q, e) := ⟨_, _, _, rfl⟩
    rw [hL] at k1 k2 k3 k4 k5 hT
    dsimp only at k1 k2 k3 k4 k5 hT
    by_cases he : e = 0
    · obtain ⟨j1, j2, j3⟩ := k1 he
      subst he
      have w1 : IntKind.i64.wrap ((b.length : Int) - q) = (b.length : Int) - q := wrap_i64 (by omega)
      have w2 : IntKind.u64.wrap ((b.length : Int) - q) = (b.length : Int) - q := wrap_u64 (by omega)
      by_cases hgt : (b.length : Int) - q < n
      · rw [if_neg (by simp), if_pos hgt] at hT
        subst hT
        simp (config := { maxSteps := 3000000 }) [hl, hp1, hp2, hL, w1, w2, hgt]
      · rw [if_neg (by simp), if_neg hgt] at hT
        subst hT
        have w3 : IntKind.i64.wrap n = n := wrap_i64 (by omega)
        have w4 : IntKind.i64.wrap (q + n) = q + n := wrap_i64 (by omega)
        have hc : cut (bytesRow b) q (q + n) = bytesRow ((b.drop q.toNat).take n.toNat) := by
          rw [cut_b, List.drop_take, show (q + n).toNat - q.toNat = n.toNat from by omega]
        simp (config := { maxSteps := 3000000 }) [hl, hp1, hp2, hL, w1, w2, w3, w4, hgt, hc]
        exact ⟨by omega, by omega, by omega, bytesRow_one b⟩
    · rw [if_pos he] at hT
      subst hT
      simp (config := { maxSteps := 3000000 }) [hl, hp1, hp2, hL, he]
  · cases h

end Go.Proofs.Ytcgllachkjnlgaa.Ab
