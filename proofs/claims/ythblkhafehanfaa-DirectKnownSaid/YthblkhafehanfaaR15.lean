/- Chapter 8: the closed law DirectKnown. -/
import Derived.Test.YthblkhafehanfaaR12
import Derived.Test.YthblkhafehanfaaR13
import Derived.Test.YthblkhafehanfaaR14
namespace Go.Proofs.Ythblkhafehanfaa.Ab
open Go Go.RowKit R
set_option linter.unusedVariables false
set_option linter.unusedSimpArgs false
set_option maxHeartbeats 4000000
set_option maxRecDepth 100000

noncomputable def GPl8 : List AV → Option (Prop × AV)
  | [.pv (.ro a)] => (dec rowQ a).map fun l => (l.length ≤ maxLen, .pv (.bool true))
  | _ => none
@[simp] theorem GPl8_eq (a : List (List PV)) : GPl8 [.pv (.ro a)] = (dec rowQ a).map fun l => (l.length ≤ maxLen, .pv (.bool true)) := rfl
theorem c_Pl8 : ConT Try.prog 4 GPl8 := by
  intro ys φ r h hφ
  unfold GPl8 at h
  split at h
  · obtain ⟨a, ha, h⟩ := Option.map_eq_some_iff.1 h
    cases h
    cases dec_rowsQ_inv ha
    exact c_dirPlays _ hφ
  · cases h
noncomputable def GFl8 : List AV → Option (Prop × AV)
  | [.pv (.ro a), .pv (.ro b), .pv (.int .i64 _)] => (dec rowQ a).bind fun l => (dec rowQ b).map fun m => (l.length ≤ maxLen ∧ m.length ≤ maxLen, .pv (.bool true))
  | _ => none
@[simp] theorem GFl8_eq (a b : List (List PV)) (k : Int) : GFl8 [.pv (.ro a), .pv (.ro b), .pv (.int .i64 k)] = (dec rowQ a).bind fun l => (dec rowQ b).map fun m => (l.length ≤ maxLen ∧ m.length ≤ maxLen, .pv (.bool true)) := rfl
theorem c_Fl8 : ConT Try.prog 3 GFl8 := by
  intro ys φ r h hφ
  unfold GFl8 at h
  split at h
  · obtain ⟨a, ha, h⟩ := Option.bind_eq_some_iff.1 h
    obtain ⟨b, hb, h⟩ := Option.map_eq_some_iff.1 h
    cases h
    cases dec_rowsQ_inv ha
    cases dec_rowsQ_inv hb
    exact c_dirFails _ _ _ hφ.1 hφ.2
  · cases h
noncomputable def GNo8 : List AV → Option (Prop × AV)
  | [.pv (.str _), .pv (.int .i64 _)] => some (True, .pv (.bool true))
  | _ => none
@[simp] theorem GNo8_eq (s : List UInt8) (k : Int) : GNo8 [.pv (.str s), .pv (.int .i64 k)] = some (True, .pv (.bool true)) := rfl
theorem c_No8 : ConT Try.prog 5 GNo8 := by
  intro ys φ r h hφ
  unfold GNo8 at h
  split at h
  · cases h
    exact c_dirNone _ _
  · cases h

def NL8 : List (List PV) := [[.str [97]], [.str [98]], [.str []], [.str [97, 0]]]
theorem NL8_at {k : Int} (h : 0 ≤ k ∧ k < 4) : ∃ s, rowAt NL8 k = [.str s] := by
  rcases (by omega : k = 0 ∨ k = 1 ∨ k = 2 ∨ k = 3) with rfl | rfl | rfl | rfl <;> exact ⟨_, rfl⟩
theorem c_dirKnown : Con Try.prog 6 [] [] [] (.pv (.bool true)) := by
  refine con_of (tab_cons c_Pl8 (tab_cons c_Fl8 (tab_cons c_No8 (tab_cons c_wk tab_nil)))) (by kernel_rfl) fn6 (by simp) ?_
  unfold body6
  apply vwp_cut
  · simp (config := { maxSteps := 3000000 })
    exact ⟨rfl, rfl⟩
  apply vwp_cut
  · simp (config := { maxSteps := 3000000 })
    exact ⟨rfl, rfl⟩
  rw [show ([[PV.str [97]], [.str [98]], [.str []], [.str [97, 0]]] : List (List PV)) = NL8 from rfl]
  rw [vwp_seq]
  · simp (config := { maxSteps := 3000000 })
    refine vwp_loop (fun n : Int => 0 ≤ n ∧ n ≤ 4100) (fun n => ⟨[(0, .pv (.bool false)), (1, .own 6), (2, .pv (.int .i64 n))], [(6, .arr 9 NL8)]⟩) (fun n => (4100 - n).toNat) [] 0 (by simp) ?_ ?_
    · simp
    · rintro n ⟨hn0, hn⟩
      have w5 : IntKind.i64.wrap (n + 5) = n + 5 := wrap_i64 (by omega)
      by_cases hlt : n < 4096
      · apply vwp_cut
        · simp (config := { maxSteps := 3000000 }) [hlt]
          exact ⟨rfl, rfl⟩
        rw [vwp_seq]
        · rw [vwp_block]
          apply vwp_cut
          · simp (config := { maxSteps := 3000000 })
            exact ⟨rfl, rfl⟩
          apply vwp_cut
          · simp (config := { maxSteps := 3000000 })
            exact ⟨rfl, rfl⟩
          apply vwp_cutB (fun st' => ∃ (l : List Cl) (k : Int), l.length = 6 ∧ st' = ⟨look [(0, .pv (.bool false)), (1, .own 6), (2, .pv (.int .i64 n)), (3, .own 3), (4, .pv (.int .i64 k)), (5, .pv (.int .i64 6)), (8, .junk), (13, .pv (.bool false)), (53, .junk)], lookO [(3, .arr 33 (rowsQ l)), (6, .arr 9 NL8)]⟩)
          · simp (config := { maxSteps := 3000000 })
            refine vwp_loop (fun x : Nat × Int × List Cl => x.1 ≤ 6 ∧ (0 ≤ x.2.1 ∧ x.2.1 ≤ 4100) ∧ x.2.2.length = x.1) (fun x => ⟨[(0, .pv (.bool false)), (1, .own 6), (2, .pv (.int .i64 n)), (3, .own 3), (4, .pv (.int .i64 x.2.1)), (5, .pv (.int .i64 (x.1 : Int)))], [(3, .arr 33 (rowsQ x.2.2)), (6, .arr 9 NL8)]⟩) (fun x => 6 - x.1) [] (0, n, []) (by simp; omega) ?_ ?_
            · simp
            · rintro ⟨i, k, l⟩ ⟨hi, ⟨hk0, hk⟩, hll⟩
              have hi : i ≤ 6 := hi
              have hk0 : 0 ≤ k := hk0
              have hk : k ≤ 4100 := hk
              have hll : l.length = i := hll
              by_cases hi6 : i < 6
              · have hiz : (i : Int) < 6 := by omega
                have e1 : k.tmod 6 = k % 6 := Int.tmod_eq_emod_of_nonneg hk0
                have e2 : (i : Int).tmod 2 = (i : Int) % 2 := Int.tmod_eq_emod_of_nonneg (by omega)
                have e3 : (k + i).tmod 4 = (k + i) % 4 := Int.tmod_eq_emod_of_nonneg (by omega)
                have e4 : k.tmod 4 = k % 4 := Int.tmod_eq_emod_of_nonneg hk0
                have e5 : k.tdiv 3 = k / 3 := Int.tdiv_eq_ediv_of_nonneg hk0
                have v1 : IntKind.i64.wrap (k % 6) = k % 6 := wrap_i64 (by omega)
                have v2 : IntKind.i64.wrap ((i : Int) % 2) = (i : Int) % 2 := wrap_i64 (by omega)
                have v3 : IntKind.i64.wrap (k + i) = k + i := wrap_i64 (by omega)
                have v4 : IntKind.i64.wrap ((k + i) % 4) = (k + i) % 4 := wrap_i64 (by omega)
                have v5 : IntKind.i64.wrap (k % 4) = k % 4 := wrap_i64 (by omega)
                have v6 : IntKind.i64.wrap (k / 3) = k / 3 := wrap_i64 (by omega)
                have v7 : IntKind.i64.wrap (7 * (i : Int)) = 7 * (i : Int) := wrap_i64 (by omega)
                have v8 : IntKind.i64.wrap (k / 3 + 7 * (i : Int)) = k / 3 + 7 * (i : Int) := wrap_i64 (by omega)
                have v9 : IntKind.i64.wrap ((i : Int) + 1) = (i : Int) + 1 := wrap_i64 (by omega)
                obtain ⟨s, hs⟩ := NL8_at (k := (k + i) % 4) (by omega)
                have b1 : (k + i) % 4 < 4 := by omega
                have b2 : 0 ≤ (k + i) % 4 := by omega
                have nl : NL8.length = 4 := rfl
                simp (config := { maxSteps := 3000000 }) [hiz, e1, e2, e3, e4, e5, v1, v2, v3, v4, v5, v6, v7, v8, v9, hs, b1, b2, nl]
                refine ⟨by rw [maxLen_eq]; omega, i + 1, k / 3 + 7 * (i : Int), l ++ [⟨IntKind.i64.wrap (k % 6 + (i : Int) % 2), s, IntKind.i64.wrap (k % 4 - 1)⟩], ⟨by omega, by omega, by simp [hll]⟩, ⟨⟨rfl, by omega⟩, by rw [rowsQ_append]; rfl⟩, by omega⟩
              · have : i = 6 := by omega
                subst this
                simp (config := { maxSteps := 3000000 })
                first | exact ⟨l, hll, k, rfl, rfl⟩ | exact ⟨l, hll, ⟨k, rfl⟩, rfl⟩ | exact ⟨l, ⟨hll, k, rfl⟩, rfl⟩
          rintro st' ⟨l, k, hll, rfl⟩
          have t0 : (rowsQ l).take 6 = rowsQ l := List.take_of_length_le (by simp [hll])
          have m6 : 6 ≤ maxLen := by rw [maxLen_eq]; omega
          have m3 : 3 ≤ maxLen := by rw [maxLen_eq]; omega
          have m4 : 4 ≤ maxLen := by rw [maxLen_eq]; omega
          have t6 := rowsQ_three l
          have t1 : (rowsQ l).take 3 = rowsQ (l.take 3) := by simp [rowsQ, List.map_take]
          have t2 : (rowsQ l).drop 2 = rowsQ (l.drop 2) := by simp [rowsQ, List.map_drop]
          have t3 : (l.take 3).length ≤ maxLen := by rw [maxLen_eq, List.length_take]; omega
          have t4 : (l.drop 2).length ≤ maxLen := by rw [maxLen_eq, List.length_drop]; omega
          have t5 : l.length ≤ maxLen := by rw [maxLen_eq]; omega
          have e1 : n.tmod 6 = n % 6 := Int.tmod_eq_emod_of_nonneg hn0
          have v1 : IntKind.i64.wrap (n % 6) = n % 6 := wrap_i64 (by omega)
          apply vwp_cut
          · simp (config := { maxSteps := 3000000 }) [hll, t0, t1, t2, t3, t4, t5, m6, m3, m4, e1, v1]
            exact ⟨t6, rfl, rfl⟩
          simp (config := { maxSteps := 3000000 }) [w5]
          exact ⟨n + 5, ⟨by omega, by omega⟩, rfl, by omega⟩
      · simp (config := { maxSteps := 3000000 }) [hlt]

end Go.Proofs.Ythblkhafehanfaa.Ab
