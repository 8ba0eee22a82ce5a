/- Chapter 14: pins read, as the program does it. -/
import Derived.Test.YtfpmjcdcpicmaaaP5
namespace Go.Proofs.Ytfpmjcdcpicmaaa.Ab
open Go Go.RowKit R
set_option linter.unusedVariables false
set_option linter.unusedSimpArgs false
set_option maxHeartbeats 4000000
set_option maxRecDepth 100000

def finP (p : Int) (R : List Pn × Int × Int) : List Pn × Int × Int := if R.2.2 ≠ 0 then ([], p, R.2.2) else if riseP R.1 = false then ([], p, 2) else R
theorem takeP_fin (b : List UInt8) (p : Int) (h : (takeL b p).2.2 = 0) : takeP b p = finP p (takePG b (b.length + 1) (takeL b p).1 (takeL b p).2.1) := by
  unfold takeP; rw [if_neg (by simpa using h)]; rfl
def osP : List Pn → List (Nat × AO)
  | [] => [(4, .box [.pv .nil])]
  | x :: l => [(4, .box [.own 44]), (44, .arr 117 (rowsP (x :: l)))]
theorem rowsP_cons (x : Pn) (l : List Pn) : rowsP (x :: l) = rowP x :: rowsP l := rfl
noncomputable def GpTk : List AV → Option (Prop × AV)
  | [.pv (.ro b), .pv (.int .i64 p)] => (dec byteR b).map fun l => (l.length ≤ 100000000 ∧ -9223372036854775808 ≤ p ∧ p ≤ 9223372036854775807, .tup [.agg [.fr 117 (rowsP (takeP l p).1)], .pv (.int .i64 (takeP l p).2.1), .pv (.int .i64 (takeP l p).2.2)])
  | _ => none
@[simp] theorem GpTk_eq (b : List (List PV)) (p : Int) : GpTk [.pv (.ro b), .pv (.int .i64 p)] = (dec byteR b).map fun l => (l.length ≤ 100000000 ∧ -9223372036854775808 ≤ p ∧ p ≤ 9223372036854775807, .tup [.agg [.fr 117 (rowsP (takeP l p).1)], .pv (.int .i64 (takeP l p).2.1), .pv (.int .i64 (takeP l p).2.2)]) := rfl

theorem c_pTk : ConT Try.prog 90 GpTk := by
  intro ys φ r h hφ
  unfold GpTk at h
  split at h
  · rename_i rb p
    obtain ⟨b, hb, h⟩ := Option.map_eq_some_iff.1 h
    cases h
    cases dec_bytes_inv hb
    obtain ⟨hl8, hp1, hp2⟩ := hφ
    have hl : b.length ≤ 1000000000 := by omega
    refine con_of (tab_cons c_take (tab_cons c_takeA (tab_cons c_pRight tab_nil))) (by kernel_rfl) fn90 (by simp) ?_
    unfold body90
    obtain ⟨k1, k2, k3, k4, k5⟩ := takeL_ok b p
    have hT1 := takeP_fin b p
    have hT2 : (takeL b p).2.2 ≠ 0 → takeP b p = ([], p, (takeL b p).2.2) := fun h => by unfold takeP; rw [if_pos h]
    generalize hP : takeP b p = T at *
    simp (config := { maxSteps := 3000000 }) [hl, hp1, hp2]
    generalize (takeL b p).1 = n at *
    generalize (takeL b p).2.1 = q0 at *
    generalize (takeL b p).2.2 = e0 at *
    have h3 : (3 : Int).toNat = 3 := rfl
    have hinf : (Try.prog.info? 117).isSome = true := by kernel_rfl
    refine vwp_loop (fun x : Nat × Int × List Pn × Int × Int => 0 ≤ x.2.2.2.1 ∧ x.2.2.2.1 ≤ 18446744073709551615 ∧ -9223372036854775808 ≤ x.2.1 ∧ x.2.1 ≤ 9223372036854775807 ∧
        (x.2.2.2.2 = 0 → T = finP p (aheadP x.2.2.1 (takePG b x.1 x.2.2.2.1 x.2.1)) ∧ 0 ≤ x.2.1 ∧ x.2.1 ≤ b.length ∧ (b.length : Int) < x.1 + x.2.1 ∧ (x.2.2.1.length : Int) ≤ x.2.1) ∧ (x.2.2.2.2 ≠ 0 → T = ([], p, x.2.2.2.2)))
      (fun x => ⟨[(0, .pv (.ro (bytesRow b))), (1, .pv (.int .i64 p)), (4, .ptr 4 0), (5, .pv (.int .i64 x.2.1)), (6, .pv (.int .i64 x.2.2.2.2)), (7, .pv (.int .u64 x.2.2.2.1))], osP x.2.2.1⟩)
      (fun x => if x.2.2.2.2 = 0 then (b.length - x.2.1).toNat + 1 else 0) [] (b.length + 1, q0, [], n, e0) ?_ ?_ ?_
    · refine ⟨k2, k3, ?_, ?_, fun h => ⟨?_, ?_⟩, hT2⟩
      · show -9223372036854775808 ≤ q0
        by_cases he : e0 = 0
        · have := k1 he; omega
        · have := k4 he; omega
      · show q0 ≤ 9223372036854775807
        by_cases he : e0 = 0
        · have := k1 he; omega
        · have := k4 he; omega
      · rw [aheadP_nil]; exact hT1 h
      · have := k1 h
        exact ⟨by show 0 ≤ q0; omega, by show q0 ≤ b.length; omega, by show (b.length : Int) < (b.length + 1 : Nat) + q0; omega, by show (0 : Int) ≤ q0; omega⟩
    · simp [osP]
    · rintro ⟨f, q, acc, m, e⟩ ⟨hm0, hm1, hq1, hq2, hz, hnz⟩
      dsimp only at hm0 hm1 hq1 hq2 hz hnz
      by_cases he : e = 0
      · subst he
        obtain ⟨hG, g1, g2, g3, g4⟩ := hz rfl
        clear hz hnz
        have hacc : acc.length ≤ 1000000000 := by omega
        by_cases hlt : 0 < m
        · obtain ⟨f, rfl⟩ : ∃ g, f = g + 1 := ⟨f - 1, by omega⟩
          have wl : IntKind.u64.wrap (m - 1) = m - 1 := wrap_u64 (by omega)
          by_cases h0 : (takeAG b 3 q).2.2 = 0
          · obtain ⟨x, y, z, hx, o1, o2, o3⟩ := takeA_three h0
            obtain ⟨_, _, i3, i4⟩ := takeAG_ok b 3 q h0
            have i4 := (i4 (by omega)).2
            have hA : takeA b q 3 = ([x, y, z], (takeAG b 3 q).2.1, 0) := by
              unfold takeA; rw [if_neg (by simpa using h0), ← hx, ← h0]
            rw [aheadP_step b acc f m q hlt h0, hx] at hG
            have hr : rowsN [x, y, z] = [[.int .u64 x], [.int .u64 y], [.int .u64 z]] := rfl
            have r0 : rowAt [[PV.int .u64 x], [.int .u64 y], [.int .u64 z]] 0 = [.int .u64 x] := rfl
            have r1 : rowAt [[PV.int .u64 x], [.int .u64 y], [.int .u64 z]] 1 = [.int .u64 y] := rfl
            have r2 : rowAt [[PV.int .u64 x], [.int .u64 y], [.int .u64 z]] 2 = [.int .u64 z] := rfl
            cases acc with
            | nil =>
              simp (config := { maxSteps := 3000000 }) [wl, hlt, hl, hq1, hq2, h3, hA, hr, maxLen_eq, r0, r1, r2, hinf, osP]
              refine ⟨f, (takeAG b 3 q).2.1, [pnOf [x, y, z]], m - 1, 0, ⟨by omega, by omega, by omega, by omega, fun _ => ⟨hG, by omega, i4, by omega, by simp; omega⟩, fun h => absurd rfl h⟩, ⟨⟨?_, rfl, rfl, rfl⟩, ?_⟩, ?_⟩
              · simp
              · simp [rowsP, rowP, pnOf]
              · rw [if_pos rfl]; omega
            | cons c acc =>
              simp (config := { maxSteps := 3000000 }) [wl, hlt, hl, hq1, hq2, h3, hA, hr, maxLen_eq, r0, r1, r2, hinf, osP]
              simp only [List.length_cons] at hacc g4
              refine ⟨⟨by omega, by omega⟩, f, (takeAG b 3 q).2.1, c :: (acc ++ [pnOf [x, y, z]]), m - 1, 0, ⟨by omega, by omega, by omega, by omega, fun _ => ⟨hG, by omega, i4, by omega, by simp; omega⟩, fun h => absurd rfl h⟩, ⟨⟨?_, rfl, rfl, rfl⟩, ?_⟩, ?_⟩
              · simp
              · simp [rowsP, rowP, pnOf]
              · rw [if_pos rfl]; omega
          · have hA : takeA b q 3 = ([], q, (takeAG b 3 q).2.2) := by unfold takeA; rw [if_pos h0]
            rw [aheadP_err b acc f m q hlt h0] at hG
            have hTe : T = ([], p, (takeAG b 3 q).2.2) := by rw [hG]; simp [finP, h0]
            cases acc with
            | nil =>
              simp (config := { maxSteps := 3000000 }) [wl, hlt, hl, hq1, hq2, h3, hA, h0, hinf, osP]
              refine ⟨f, q, [], m, (takeAG b 3 q).2.2, ⟨hm0, hm1, hq1, hq2, fun h => absurd h h0, fun _ => hTe⟩, ⟨⟨?_, rfl, rfl, rfl⟩, ?_⟩, ?_⟩
              · simp
              · simp
              · rw [if_neg h0]; omega
            | cons c acc =>
              simp (config := { maxSteps := 3000000 }) [wl, hlt, hl, hq1, hq2, h3, hA, h0, hinf, osP]
              refine ⟨f, q, c :: acc, m, (takeAG b 3 q).2.2, ⟨hm0, hm1, hq1, hq2, fun h => absurd h h0, fun _ => hTe⟩, ⟨⟨?_, rfl, rfl, rfl⟩, ?_⟩, ?_⟩
              · simp
              · simp
              · rw [if_neg h0]; omega
        · rw [aheadP_end b acc f m q (by omega)] at hG
          by_cases hrs : riseP acc = false
          · have hTe : T = ([], p, 2) := by rw [hG]; simp [finP, hrs]
            cases acc with
            | nil => cases hrs
            | cons c acc =>
              simp (config := { maxSteps := 3000000 }) [hlt, hacc, hrs, hTe, hinf, osP]
              simp only [List.length_cons] at hacc
              omega
          · have hrs' : riseP acc = true := by simpa using hrs
            have hTe : T = (acc, q, 0) := by rw [hG]; simp [finP, hrs']
            cases acc with
            | nil =>
              simp (config := { maxSteps := 3000000 }) [hlt, hacc, hrs', hTe, hinf, osP]
            | cons c acc =>
              simp (config := { maxSteps := 3000000 }) [hlt, hacc, hrs', hTe, hinf, osP]
              simp only [List.length_cons] at hacc
              omega
      · have hTe := hnz he
        cases acc with
        | nil =>
          simp (config := { maxSteps := 3000000 }) [he, hTe, hinf, osP]
        | cons c acc =>
          simp (config := { maxSteps := 3000000 }) [he, hTe, hinf, osP]
  · cases h

end Go.Proofs.Ytfpmjcdcpicmaaa.Ab
