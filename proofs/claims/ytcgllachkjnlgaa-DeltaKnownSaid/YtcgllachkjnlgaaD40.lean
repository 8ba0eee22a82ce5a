/- A number read: as the reference does it.  -/
import Derived.Test.YtcgllachkjnlgaaD29
import Derived.Test.YtcgllachkjnlgaaD6
import Derived.Test.YtcgllachkjnlgaaD35
namespace Go.Proofs.Ytcgllachkjnlgaa.Ab
open Go Go.RowKit R
set_option linter.unusedVariables false
set_option linter.unusedSimpArgs false
set_option maxHeartbeats 4000000
set_option maxRecDepth 100000

theorem c_rtake : ConT Try.prog 51 Gtake := by
  intro ys φ r h hφ
  unfold Gtake at h
  split at h
  · rename_i rb p
    obtain ⟨b, hb, h⟩ := Option.map_eq_some_iff.1 h
    cases h
    cases dec_bytes_inv hb
    obtain ⟨hl, hp1, hp2⟩ := hφ
    refine con_of (tab_cons c_rput (tab_cons c_rsame tab_nil)) (by kernel_rfl) fn51 (by simp) ?_
    unfold body51
    by_cases h0 : p < 0 ∨ (b.length : Int) ≤ p
    · have ht : takeL b p = (0, p, 10) := by unfold takeL; rw [if_pos h0]
      by_cases hp0 : p < 0
      · simp (config := { maxSteps := 3000000 }) [hp0, ht]
      · have hbp : (b.length : Int) ≤ p := by omega
        simp (config := { maxSteps := 3000000 }) [hp0, hbp, ht]
    · obtain ⟨q, rfl⟩ := Int.eq_ofNat_of_zero_le (show 0 ≤ p by omega)
      have ht : takeL b q = (((takeG (b.drop q) 0 0).1 : Int), (q : Int) + ((takeG (b.drop q) 0 0).2.1 : Int), (takeG (b.drop q) 0 0).2.2) := by unfold takeL; rw [if_neg h0]; rfl
      have hq0 : ¬ (q : Int) < 0 := by omega
      have hq1 : ¬ (b.length : Int) ≤ q := by omega
      have hq2 : ¬ b.length ≤ q := by omega
      rw [ht]
      simp (config := { maxSteps := 3000000 }) [hq0, hq1, hq2]
      generalize hD : b.drop q = D
      have hDl : D.length + q = b.length := by rw [← hD]; simp; omega
      refine vwp_loop (fun i : Nat => i ≤ D.length ∧ i ≤ 9 ∧ (∀ x ∈ D.take i, 128 ≤ x.toNat) ∧ takeG D 0 0 = takeG (D.drop i) i (val (D.take i)))
        (fun i => ⟨[(0, .pv (.ro (bytesRow b))), (1, .pv (.int .i64 q)), (7, .pv (.int .u64 (val (D.take i)))), (8, .pv (.int .i64 i))], []⟩) (fun i => D.length - i) [] 0 ?_ ?_ ?_
      · simp [val]
      · simp [val]
      · rintro i ⟨hi, hi9, hall, hG⟩
        have w1 : IntKind.i64.wrap ((i : Int) + 1) = (i : Int) + 1 := wrap_i64 (by omega)
        have w2 : IntKind.i64.wrap (7 * (i : Int)) = 7 * (i : Int) := wrap_i64 (by omega)
        have w3 : IntKind.i64.wrap ((q : Int) + (i : Int)) = (q : Int) + (i : Int) := wrap_i64 (by omega)
        have w4 : IntKind.i64.wrap ((q : Int) + (i : Int) + 1) = (q : Int) + (i : Int) + 1 := wrap_i64 (by omega)
        have hi10 : (i : Int) < 10 := by omega
        by_cases hlt : i < D.length
        · have hlt1 : (q : Int) + i < b.length := by omega
          have hlt2 : ¬ (b.length : Int) ≤ (q : Int) + i := by omega
          have hqi : q + i < b.length := by omega
          have r1 : rowAt (bytesRow b) ((q : Int) + (i : Int)) = [.int .u8 (D[i].toNat : Int)] := by
            have h1 := R.bytesRow_at hqi
            have h2 : D[i] = b[q + i] := by subst hD; rw [List.getElem_drop]
            rw [h2]; simpa using h1
          have hq3 : 0 ≤ (q : Int) + i := by omega
          rw [List.drop_eq_getElem_cons hlt, takeG] at hG
          have hc := D[i].toNat_lt
          have hn := val_lt (D.take i)
          have htl : (D.take i).length = i := by simp; omega
          rw [htl] at hn
          have hcm : D[i].toNat % 128 ≤ 127 := by omega
          have hn' := grp_lt hn hcm
          have hv : val (D.take (i + 1)) = val (D.take i) + D[i].toNat % 128 * 2 ^ (7 * i) := by
            rw [List.take_succ_eq_append_getElem hlt, val_snoc, htl]
          have h63 : i ≤ 8 → val (D.take i) + D[i].toNat % 128 * 2 ^ (7 * i) < 2 ^ 64 := fun h8 => by
            have : 2 ^ (7 * (i + 1)) ≤ 2 ^ 63 := Nat.pow_le_pow_right (by decide) (by omega)
            omega
          have h64 : ¬ (i = 9 ∧ 1 < D[i].toNat) → val (D.take i) + D[i].toNat % 128 * 2 ^ (7 * i) < 2 ^ 64 := fun h => by
            by_cases h9 : i = 9
            · have hle : D[i].toNat % 128 * 2 ^ (7 * i) ≤ 1 * 2 ^ (7 * i) := Nat.mul_le_mul_right _ (by omega)
              have : 2 ^ (7 * i) = 2 ^ 63 := by rw [h9]
              omega
            · exact h63 (by omega)
          have c1 : IntKind.u64.wrap (D[i].toNat : Int) = (D[i].toNat : Int) := wrap_u64 (by omega)
          have hpw : 2 ^ (7 * i) ≤ 2 ^ 63 := Nat.pow_le_pow_right (by decide) (by omega)
          have c2 : IntKind.u64.wrap (2 ^ min (7 * (i : Int)).toNat IntKind.u64.bits) = ((2 ^ (7 * i) : Nat) : Int) := by
            have e1 : min (7 * (i : Int)).toNat IntKind.u64.bits = 7 * i := by
              have : (7 * (i : Int)).toNat = 7 * i := by omega
              rw [this]; exact Nat.min_eq_left (show 7 * i ≤ 64 by omega)
            rw [e1, show ((2 : Int) ^ (7 * i)) = ((2 ^ (7 * i) : Nat) : Int) from by simp]
            exact wrap_u64 (by omega)
          by_cases hA : i = 9 ∧ 1 < D[i].toNat
          · rw [if_pos (.inl hA)] at hG
            obtain ⟨h9, h1c⟩ := hA
            have h9' : ((i : Int) = 9) = True := eq_true (by omega)
            have h1c' : (1 : Int) < (D[i].toNat : Int) := by omega
            simp (config := { maxSteps := 3000000 }) [w1, w2, w3, w4, hi10, hlt1, hlt2, hq3, r1, c1, c2, h9', h1c', hG]
            omega
          · have hN := h64 hA
            obtain ⟨M, hM⟩ : ∃ M, M = D[i].toNat % 128 * 2 ^ (7 * i) := ⟨_, rfl⟩
            have c3 : IntKind.u64.wrap ((D[i].toNat : Int).tmod 128 * 2 ^ (7 * i)) = (M : Int) := by
              have e0 : (D[i].toNat : Int).tmod 128 = ((D[i].toNat % 128 : Nat) : Int) := by rw [Int.tmod_eq_emod_of_nonneg (by omega)]; omega
              rw [e0, hM, show ((D[i].toNat % 128 : Nat) : Int) * 2 ^ (7 * i) = ((D[i].toNat % 128 * 2 ^ (7 * i) : Nat) : Int) from by simp]
              exact wrap_u64 (by omega)
            obtain ⟨V, hV⟩ : ∃ V, V = val (D.take (i + 1)) := ⟨_, rfl⟩
            have hVM : V = val (D.take i) + M := by rw [hV, hv, hM]
            have c4 : IntKind.u64.wrap ((val (D.take i) : Int) + (M : Int)) = (V : Int) := by
              rw [show ((val (D.take i) : Int) + (M : Int)) = ((val (D.take i) + M : Nat) : Int) from by simp, ← hVM]; exact wrap_u64 (by omega)
            have hV64 : (V : Int) ≤ 18446744073709551615 := by omega
            have hp : vputP (V : Int) = vput V := by rw [vputP, Int.toNat_natCast]
            have hpl : (vput V).length ≤ 10 := vput_le 9 V (by omega)
            have hpl9 : (vput V).length ≤ 1000000000 := by omega
            have h7 : 0 ≤ 7 * (i : Int) := by omega
            have hq9 : (q : Int) ≤ 1000000000 := hp2
            have hA1 : (i : Int) = 9 → ¬ 1 < (D[i].toNat : Int) := fun h1 h2 => hA ⟨by omega, by omega⟩
            have hA2 : ((i : Int) = 9 → (D[i].toNat : Int) ≤ 1) = True := eq_true fun h1 => by have := hA1 h1; omega
            by_cases h128 : D[i].toNat < 128
            · have h128i : (D[i].toNat : Int) < 128 := by omega
              by_cases h00 : D[i].toNat = 0 ∧ 0 < i
              · rw [if_pos (.inr h00)] at hG
                have hlt7 : (vput V).length ≤ i := by
                  obtain ⟨k, rfl⟩ : ∃ k, i = k + 1 := ⟨i - 1, by omega⟩
                  refine vput_le k V ?_
                  have : M = 0 := by rw [hM, h00.1]; simp
                  omega
                have hne : ¬ ((i : Int) + 1 = ((vput V).length : Int)) := by omega
                by_cases hst : standB b q (vput V) = true
                · simp (config := { maxSteps := 3000000 }) [w1, w2, w3, w4, hi10, hlt1, hlt2, hq3, r1, c1, c2, c3, c4, hV64, hp, hpl9, h7, hq9, hA2, h128i, hst, hne, hG, hl]
                · have hst' : standB b q (vput V) = false := by simpa using hst
                  simp (config := { maxSteps := 3000000 }) [w1, w2, w3, w4, hi10, hlt1, hlt2, hq3, r1, c1, c2, c3, c4, hV64, hp, hpl9, h7, hq9, hA2, h128i, hst', hne, hG, hl]
              · rw [if_neg (by rintro (h | h); exact hA h; exact h00 h), if_pos h128] at hG
                rw [← hM, ← hVM] at hG
                have hpe : vput V = D.take (i + 1) := by
                  have := vput_val (D.take i) D[i] hall h128 (by
                    by_cases hc0 : D[i].toNat = 0
                    · right; have : i = 0 := by omega
                      subst this; simp
                    · exact .inl hc0)
                  rw [← List.take_succ_eq_append_getElem hlt] at this
                  rw [hV, this]
                have hle1 : (vput V).length = i + 1 := by rw [hpe]; simp; omega
                have heq : ((i : Int) + 1 = ((vput V).length : Int)) = True := eq_true (by omega)
                have hst : standB b q (vput V) = true := by
                  unfold standB
                  rw [hD, hle1, hpe]
                  simp; omega
                simp (config := { maxSteps := 3000000 }) [w1, w2, w3, w4, hi10, hlt1, hlt2, hq3, r1, c1, c2, c3, c4, hV64, hp, hpl9, h7, hq9, hA2, h128i, hst, heq, hG, hl]
                omega
            · have h128i : ¬ (D[i].toNat : Int) < 128 := by omega
              rw [if_neg (by rintro (h | h); exact hA h; omega), if_neg h128] at hG
              rw [← hM, ← hVM] at hG
              simp (config := { maxSteps := 3000000 }) [w1, w2, w3, w4, hi10, hlt1, hlt2, hq3, r1, c1, c2, c3, c4, hV64, hp, hpl9, h7, hq9, hA2, h128i]
              have hi8 : i ≤ 8 := by
                have : ¬ i = 9 := fun h9 => hA ⟨h9, by omega⟩
                omega
              have hall' : ∀ x ∈ D.take (i + 1), 128 ≤ x.toNat := by
                intro x hx
                rw [List.take_succ_eq_append_getElem hlt, List.mem_append] at hx
                rcases hx with hx | hx
                · exact hall x hx
                · simp only [List.mem_singleton] at hx
                  subst hx; omega
              exact ⟨fun a1 a2 => absurd a2 (hA1 a1), i + 1, ⟨by omega, by omega, hall', by rw [hG, hV]⟩, ⟨by rw [hV], by omega⟩, by omega⟩
        · have hd : D.drop i = [] := by rw [List.drop_eq_nil_iff]; omega
          have he : takeG D 0 0 = (0, 0, 10) := by rw [hG, hd]; rfl
          have hlt2 : (b.length : Int) ≤ (q : Int) + i := by omega
          simp (config := { maxSteps := 3000000 }) [w1, w2, w3, hi10, hlt2, he]
  · cases h

end Go.Proofs.Ytcgllachkjnlgaa.Ab
/- The law DeltaParses. -/
namespace Go.Proofs.Ytcgllachkjnlgaa.Ab
open Go Go.RowKit R
theorem c_parses (b : List UInt8) : Con Try.prog 5 [] [.pv (.ro (bytesRow b))] [] (.pv (.bool true)) := parses_of c_rtake b
end Go.Proofs.Ytcgllachkjnlgaa.Ab
