/- A text read: as the reference does it, given its reading of a number. -/
import Derived.Test.YtcgllachkjnlgaaD29
import Derived.Test.YtcgllachkjnlgaaD32
import Derived.Test.YtcgllachkjnlgaaD26
import Derived.Test.YtcgllachkjnlgaaD24
namespace Go.Proofs.Ytcgllachkjnlgaa.Ab
open Go Go.RowKit R
set_option linter.unusedVariables false
set_option linter.unusedSimpArgs false
set_option maxHeartbeats 4000000
set_option maxRecDepth 100000

theorem rtakeT_of (c_rtake : ConT Try.prog 51 Gtake) : ConT Try.prog 52 GtakeT := by
  intro ys φ r h hφ
  unfold GtakeT at h
  split at h
  · rename_i rb p
    obtain ⟨b, hb, h⟩ := Option.map_eq_some_iff.1 h
    cases h
    cases dec_bytes_inv hb
    obtain ⟨hl, hp1, hp2⟩ := hφ
    refine con_of (tab_cons c_rtake tab_nil) (by kernel_rfl) fn52 (by simp) ?_
    unfold body52
    obtain ⟨k1, k2, k3, k4, k5⟩ := takeL_ok b p
    have hT : takeT b p = if (takeL b p).2.2 ≠ 0 then ([], p, (takeL b p).2.2) else if (b.length : Int) - (takeL b p).2.1 < (takeL b p).1 then ([], p, 10) else
      ((b.drop (takeL b p).2.1.toNat).take (takeL b p).1.toNat, (takeL b p).2.1 + (takeL b p).1, 0) := rfl
    generalize takeT b p = T at *
    obtain ⟨n, q, e, hL⟩ : ∃ n q e, takeL b p = (n, q, e) := ⟨_, _, _, rfl⟩
    rw [hL] at k1 k2 k3 k4 k5 hT
    dsimp only at k1 k2 k3 k4 k5 hT
    have w2 : IntKind.u64.wrap (b.length : Int) = (b.length : Int) := wrap_u64 (by omega)
    by_cases he : e = 0
    · obtain ⟨j1, j2, j3⟩ := k1 he
      subst he
      by_cases hgt : (b.length : Int) < n
      · rw [if_neg (by simp), if_pos (by omega)] at hT
        subst hT
        simp (config := { maxSteps := 3000000 }) [hl, hp1, hp2, hL, w2, hgt]
      · have w3 : IntKind.i64.wrap n = n := wrap_i64 (by omega)
        have w4 : IntKind.i64.wrap (q + n) = q + n := wrap_i64 (by omega)
        by_cases hgt2 : (b.length : Int) < q + n
        · rw [if_neg (by simp), if_pos (by omega)] at hT
          subst hT
          simp (config := { maxSteps := 3000000 }) [hl, hp1, hp2, hL, w2, w3, w4, hgt, hgt2]
        · rw [if_neg (by simp), if_neg (by omega)] at hT
          subst hT
          have hc : cut (bytesRow b) q (q + n) = bytesRow ((b.drop q.toNat).take n.toNat) := by
            rw [cut_b, List.drop_take, show (q + n).toNat - q.toNat = n.toNat from by omega]
          simp (config := { maxSteps := 3000000 }) [hl, hp1, hp2, hL, w2, w3, w4, hgt, hgt2, hc]
          exact ⟨by omega, by omega, by omega, bytesRow_one b⟩
    · rw [if_pos he] at hT
      subst hT
      simp (config := { maxSteps := 3000000 }) [hl, hp1, hp2, hL, he]
  · cases h

end Go.Proofs.Ytcgllachkjnlgaa.Ab
/- Edits read: as the reference does it, given its reading of a number. -/
namespace Go.Proofs.Ytcgllachkjnlgaa.Ab
open Go Go.RowKit R
set_option linter.unusedVariables false
set_option linter.unusedSimpArgs false
set_option maxHeartbeats 4000000
set_option maxRecDepth 100000

noncomputable def GrParse : List AV → Option (Prop × AV)
  | [.pv (.ro b)] => (dec byteR b).map fun l => (l.length ≤ 100000000, .tup [.fr 61 (rowsE (parseL l).1), .pv (.int .i64 (parseL l).2)])
  | _ => none
@[simp] theorem GrParse_eq (b : List (List PV)) : GrParse [.pv (.ro b)] = (dec byteR b).map fun l => (l.length ≤ 100000000, .tup [.fr 61 (rowsE (parseL l).1), .pv (.int .i64 (parseL l).2)]) := rfl

theorem rParse_of (c_rtake : ConT Try.prog 51 Gtake) : ConT Try.prog 27 GrParse := by
  intro ys φ r h hl
  unfold GrParse at h
  split at h
  · rename_i rb
    obtain ⟨b, hb, h⟩ := Option.map_eq_some_iff.1 h
    cases h
    cases dec_bytes_inv hb
    refine con_of (tab_cons c_rtake (tab_cons (rtakeT_of c_rtake) (tab_cons c_rright tab_nil))) (by kernel_rfl) fn27 (by simp) ?_
    unfold body27
    simp (config := { maxSteps := 3000000 })
    refine vwp_loop (fun x : Nat × Nat × List Ed => x.1 ≤ b.length ∧ b.length < x.2.1 + x.1 ∧ x.2.2.length ≤ x.1 ∧ parseL b = behind x.2.2 (parseG x.2.1 b x.1))
      (fun x => ⟨[(0, .pv (.ro (bytesRow b))), (4, .own 4), (5, .pv (.int .i64 x.1))], [(4, .arr 61 (rowsE x.2.2))]⟩) (fun x => b.length - x.1) [] (0, b.length + 1, []) ?_ ?_ ?_
    · refine ⟨by simp, by simp, by simp, ?_⟩
      rw [behind_nil]; rfl
    · simp
    · rintro ⟨p, f, acc⟩ ⟨hp, hf, hacc, hP⟩
      dsimp only at hp hf hacc hP
      by_cases hlt : p < b.length
      · obtain ⟨f, rfl⟩ : ∃ g, f = g + 1 := ⟨f - 1, by omega⟩
        have hle : ¬ (b.length : Int) ≤ (p : Int) := by omega
        rw [parseG, if_neg hle] at hP
        have r1 := R.bytesRow_at hlt
        have hgd : b.getD ((p : Int).toNat) 0 = b[p] := by simp [hlt]
        have hok := @takeE_ok b p
        have hE : takeE b p = takeK b p b[p] := by unfold takeE; rw [hgd]
        rw [hE] at hP hok
        generalize b[p] = c at *
        have w1 : IntKind.i64.wrap ((p : Int) + 1) = (p : Int) + 1 := wrap_i64 (by omega)
        have g1 : b.length ≤ 1000000000 := by omega
        have g2 : -1000000000 ≤ (p : Int) + 1 := by omega
        have g3 : (p : Int) + 1 ≤ 1000000000 := by omega
        have hbad : ∀ e, (takeK b p c).2.2 = e → e ≠ 0 → parseL b = ([], e) := by
          intro e h1 h2
          rw [hP, if_pos (by rw [h1]; exact h2), h1]; unfold behind; rw [if_pos h2]
        have hgood : (takeK b p c).2.2 = 0 → ∃ a a_1 b_1, (a ≤ b.length ∧ b.length < a_1 + a ∧ List.length b_1 ≤ a ∧ parseL b = behind b_1 (parseG a_1 b (a : Int))) ∧ ((takeK b p c).2.1 = (a : Int) ∧ rowsE acc ++ [[.int .u8 ((takeK b p c).1.k.toNat : Int), .int .i64 (takeK b p c).1.n, .str (takeK b p c).1.t]] = rowsE b_1) ∧ b.length - a < b.length - p := by
          intro h1
          obtain ⟨o1, o2, o3⟩ := hok h1
          obtain ⟨y, hy⟩ := Int.eq_ofNat_of_zero_le (show 0 ≤ (takeK b p c).2.1 by omega)
          rw [hy] at o2 o3 hP ⊢
          refine ⟨y, f, acc ++ [(takeK b p c).1], ⟨by omega, by omega, by simp; omega, ?_⟩, ⟨rfl, by rw [rowsE_append]; rfl⟩, by omega⟩
          rw [hP, if_neg (by simp [h1])]
          unfold behind
          by_cases h0 : (parseG f b (y : Int)).2 = 0
          · simp [h0]
          · simp [h0]
        have hb1 : (acc.length + 1) * 32 ≤ 140737488355328 := by omega
        have hb2 : acc.length ≤ 9223372036854775806 := by omega
        clear hP hok hE
        by_cases hc2 : c = 2
        · subst hc2
          generalize hK : takeK b p 2 = K at *
          have hT : K = (⟨2, 0, (takeT b ((p : Int) + 1)).1⟩, (takeT b ((p : Int) + 1)).2.1, if (takeT b ((p : Int) + 1)).2.2 = 0 ∧ rightE ⟨2, 0, (takeT b ((p : Int) + 1)).1⟩ = false then 2 else (takeT b ((p : Int) + 1)).2.2) := by rw [← hK]; rfl
          obtain ⟨n, x', e', hL⟩ : ∃ n x e, takeL b ((p : Int) + 1) = (n, x, e) := ⟨_, _, _, rfl⟩
          generalize hLT : takeT b ((p : Int) + 1) = t at *
          obtain ⟨s, x, e⟩ := t
          have hr : rightE ⟨2, 0, s⟩ = rightI 2 0 s := rfl
          subst hT
          dsimp only at hbad hgood
          by_cases he : e = 0
          · subst he
            cases hrr : rightI 2 0 s with
            | false =>
              have hP' := hbad 2 (by rw [hr, hrr]; rfl) (by decide)
              simp (config := { maxSteps := 3000000 }) [hlt, r1, w1, g1, g2, g3, hL, hLT, hrr, hP', maxLen_eq]
            | true =>
              have hG := hgood (by rw [hr, hrr]; rfl)
              simp (config := { maxSteps := 3000000 }) [hlt, r1, w1, g1, g2, g3, hL, hLT, hrr, maxLen_eq, hb1, hb2]
              exact hG
          · have hP' := hbad e (by rw [if_neg (by rintro ⟨h, _⟩; exact he h)]) he
            simp (config := { maxSteps := 3000000 }) [hlt, r1, w1, g1, g2, g3, hL, hLT, he, hP', maxLen_eq]
        · by_cases hc13 : c = 1 ∨ c = 3
          · obtain ⟨k1, k2, k3, k4, k5⟩ := takeL_ok b ((p : Int) + 1)
            obtain ⟨n, x, e, hL⟩ : ∃ n x e, takeL b ((p : Int) + 1) = (n, x, e) := ⟨_, _, _, rfl⟩
            have hT : takeK b p c = (if e = 0 ∧ 2147483647 < n then (⟨0, 0, []⟩, 0, 2) else (⟨c, n, []⟩, x, if e = 0 ∧ rightE ⟨c, n, []⟩ = false then 2 else e)) := by
              unfold takeK; rw [if_neg hc2, if_pos hc13, hL]
            rw [hL] at k1 k2 k3 k4 k5
            dsimp only at k1 k2 k3 k4 k5
            have w2 : IntKind.i64.wrap (min n 2147483648) = min n 2147483648 := wrap_i64 (by omega)
            by_cases he : e = 0
            · subst he
              by_cases hbig : 2147483647 < n
              · have hP' := hbad 2 (by rw [hT, if_pos ⟨rfl, hbig⟩]) (by decide)
                have hmin : min n 2147483648 = 2147483648 := by omega
                have w3 : IntKind.i64.wrap 2147483648 = 2147483648 := wrap_i64 (by omega)
                have q1 : rightI 1 2147483648 [] = false := by decide
                have q3 : rightI 3 2147483648 [] = false := by decide
                rcases hc13 with rfl | rfl <;> simp (config := { maxSteps := 3000000 }) [hlt, r1, w1, g1, g2, g3, hL, hmin, w3, q1, q3, hP', maxLen_eq]
              · have hmin : min n 2147483648 = n := by omega
                rw [hmin] at w2
                rw [if_neg (by rintro ⟨_, h⟩; exact hbig h)] at hT
                have hr1 : rightE ⟨1, n, []⟩ = rightI 1 n [] := rfl
                have hr3 : rightE ⟨3, n, []⟩ = rightI 3 n [] := rfl
                rw [hT] at hbad hgood
                dsimp only at hbad hgood
                rcases hc13 with rfl | rfl
                · cases hrr : rightI 1 n [] with
                  | false =>
                    have hP' := hbad 2 (by rw [hr1, hrr]; rfl) (by decide)
                    simp (config := { maxSteps := 3000000 }) [hlt, r1, w1, g1, g2, g3, hL, hmin, w2, hrr, hP', maxLen_eq]
                  | true =>
                    have hG := hgood (by rw [hr1, hrr]; rfl)
                    simp (config := { maxSteps := 3000000 }) [hlt, r1, w1, g1, g2, g3, hL, hmin, w2, hrr, maxLen_eq, hb1, hb2]
                    exact hG
                · cases hrr : rightI 3 n [] with
                  | false =>
                    have hP' := hbad 2 (by rw [hr3, hrr]; rfl) (by decide)
                    simp (config := { maxSteps := 3000000 }) [hlt, r1, w1, g1, g2, g3, hL, hmin, w2, hrr, hP', maxLen_eq]
                  | true =>
                    have hG := hgood (by rw [hr3, hrr]; rfl)
                    simp (config := { maxSteps := 3000000 }) [hlt, r1, w1, g1, g2, g3, hL, hmin, w2, hrr, maxLen_eq, hb1, hb2]
                    exact hG
            · have hP' := hbad e (by rw [hT, if_neg (by rintro ⟨h, _⟩; exact he h)]; dsimp only; rw [if_neg (by rintro ⟨h, _⟩; exact he h)]) he
              rcases hc13 with rfl | rfl <;> simp (config := { maxSteps := 3000000 }) [hlt, r1, w1, g1, g2, g3, hL, w2, he, hP', maxLen_eq]
          · have hT : takeK b p c = (⟨c, 0, []⟩, 0, 60) := by unfold takeK; rw [if_neg hc2, if_neg hc13]
            have hP' := hbad 60 (by rw [hT]) (by decide)
            have n1 : ¬ c.toNat = 1 := fun h => hc13 (.inl (UInt8.toNat_inj.1 h))
            have n2 : ¬ c.toNat = 2 := fun h => hc2 (UInt8.toNat_inj.1 h)
            have n3 : ¬ c.toNat = 3 := fun h => hc13 (.inr (UInt8.toNat_inj.1 h))
            by_cases hc1 : (c.toNat : Int) < 1
            · simp (config := { maxSteps := 3000000 }) [hlt, r1, w1, hc1, hP', maxLen_eq]
            · have hc3 : (3 : Int) < c.toNat := by omega
              simp (config := { maxSteps := 3000000 }) [hlt, r1, w1, hc1, hc3, hP', maxLen_eq]
      · have hle : (b.length : Int) ≤ (p : Int) := by omega
        have hP' : parseL b = (acc, 0) := by
          rw [hP]
          cases f with
          | zero => simp [parseG, behind]
          | succ f => rw [parseG, if_pos hle]; simp [behind]
        simp (config := { maxSteps := 3000000 }) [hlt, hP']
  · cases h

end Go.Proofs.Ytcgllachkjnlgaa.Ab
/- The law DeltaParses, given the reference's reading of a number. -/
namespace Go.Proofs.Ytcgllachkjnlgaa.Ab
open Go Go.RowKit R
set_option linter.unusedVariables false
set_option linter.unusedSimpArgs false
set_option maxHeartbeats 40000000
set_option maxRecDepth 100000

theorem parseG_len : ∀ (f : Nat) (b : List UInt8) (p : Int), 0 ≤ p → p ≤ b.length → ((parseG f b p).1.length : Int) + p ≤ b.length
  | 0, b, p, _, h => by simp [parseG]; omega
  | f + 1, b, p, h0, h => by
    unfold parseG
    split
    · simp; omega
    · split
      · simp; omega
      · rename_i he
        have he : (takeE b p).2.2 = 0 := by simpa using he
        obtain ⟨o1, o2, o3⟩ := takeE_ok he
        have := parseG_len f b (takeE b p).2.1 (by omega) o3
        split
        · simp; omega
        · simp only [List.length_cons]; omega
theorem parseL_len (b : List UInt8) : (parseL b).1.length ≤ b.length := by
  have := parseG_len (b.length + 1) b 0 (by omega) (by omega)
  unfold parseL; omega

theorem parses_of (c_rtake : ConT Try.prog 51 Gtake) (b : List UInt8) : Con Try.prog 5 [] [.pv (.ro (bytesRow b))] [] (.pv (.bool true)) := by
  refine con_of (tab_cons c_works (tab_cons c_own (tab_cons c_Parse (tab_cons (rParse_of c_rtake) (tab_cons c_same (tab_cons c_sameB tab_nil)))))) (by kernel_rfl) L.fn5 (by simp) ?_
  unfold L.body5
  by_cases hb : (2000 : Int) < b.length
  · simp (config := { maxSteps := 3000000 }) [hb]
  · have h8 : b.length ≤ 100000000 := by omega
    have h9 : b.length ≤ 1000000000 := by omega
    have hp := parseL_len b
    have hp9 : (parseL b).1.length ≤ 1000000000 := by omega
    simp (config := { maxSteps := 3000000 }) [hb, h8, h9, hp9]
    exact flat_rowsE _

end Go.Proofs.Ytcgllachkjnlgaa.Ab
