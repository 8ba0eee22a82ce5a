/- Chapter 17: the law CatalogDoes. -/
import Derived.Test.YtfpmjcdcpicmaaaC5
namespace Go.Proofs.Ytfpmjcdcpicmaaa.Ab
open Go Go.RowKit R
set_option linter.unusedVariables false
set_option linter.unusedSimpArgs false
set_option maxHeartbeats 40000000
set_option maxRecDepth 100000

theorem bind_len (l : List En) (s : List UInt8) (n : Int) : (bindC l s n).1.length ≤ l.length + 1 := by
  unfold bindC
  repeat' split
  all_goals first | (rw [putC_len]; omega) | simp
theorem unb_len (l : List En) (s : List UInt8) : (unbC l s).1.length ≤ l.length := by
  unfold unbC
  repeat' split
  all_goals first | exact without_len l s | simp
theorem ren_len (l : List En) (s t : List UInt8) : (renC l s t).1.length ≤ l.length + 1 := by
  have := without_len l s
  unfold renC
  repeat' split
  all_goals first | (rw [putC_len]; omega) | simp

structure Tl where
  t : Nat
  a : List (List PV)
  x : List (List PV)
  p : List (List PV)
def two (l : List (List PV)) : Prop := (∀ r ∈ l, r.length = 2) ∧ l.length ≤ 1000
theorem two_set {l : List (List PV)} {i : Nat} {r : List PV} (h : two l) (hr : r.length = 2) : two (l.set i r) := by
  refine ⟨fun q hq => ?_, by rw [List.length_set]; exact h.2⟩
  rcases List.mem_or_eq_of_mem_set hq with h1 | rfl
  · exact h.1 q h1
  · exact hr
theorem two_at {l : List (List PV)} {i : Nat} (h : two l) (hi : i < l.length) : (rowAt l (i : Int)).length = 2 := by
  refine h.1 _ ?_
  rw [rowAt, Int.toNat_natCast, List.getD_eq_getElem?_getD, List.getElem?_eq_getElem hi]
  exact List.getElem_mem hi
theorem two_spl {r : List PV} {a b : PV} (h : r.length = 2) : (splice r 0 [a, b]).length = 2 := by
  simp [splice, h]
def FT (l : List En) (x : Tl) : List (Nat × AO) := [(44, .arr 147 (rowsC l)), (61, .arr 51 x.a), (74, .arr 51 x.x), (87, .arr 51 x.p), (167, .rws 23 [.own 61, .own 74, .own 87])]

theorem c_catDoes (l : List En) (s t : List UInt8) (n : Int) :
    Con Try.prog 3 [] [.pv (.ro (rowsC l)), .pv (.str s), .pv (.str t), .pv (.int .u64 n)] [] (.pv (.bool true)) := by
  refine con_of (tab_cons c_worksC (tab_cons c_Few (tab_cons c_Rt (tab_cons c_rRt (tab_cons c_Get (tab_cons c_rGet (tab_cons c_Bind (tab_cons c_rBind (tab_cons c_Unb (tab_cons c_rUnb (tab_cons c_Ren (tab_cons c_rRen (tab_cons c_Names (tab_cons c_rNames (tab_cons c_Nm (tab_cons c_rNm (tab_cons c_SmT (tab_cons c_RefC (tab_cons c_SmC tab_nil))))))))))))))))))) (by kernel_rfl) fn3 (by simp) ?_
  unfold body3
  cases hfw : fewC l with
  | false => simp (config := { maxSteps := 3000000 }) [hfw]
  | true =>
  by_cases hs : (100 : Int) < s.length
  · simp (config := { maxSteps := 3000000 }) [hfw, hs]
  by_cases ht : (100 : Int) < t.length
  · simp (config := { maxSteps := 3000000 }) [hfw, hs, ht]
  have hl20 : l.length ≤ 20 := by
    unfold fewC at hfw
    rw [Bool.and_eq_true] at hfw
    simpa using hfw.1
  have hl9 : l.length ≤ 1000000000 := by omega
  have hl8 : l.length ≤ 100000000 := by omega
  have hl5 : l.length ≤ 100000 := by omega
  have hB := bind_len l s n
  have hU := unb_len l s
  have hR := ren_len l s t
  have hB9 : (bindC l s n).1.length ≤ 1000000000 := by omega
  have hU9 : (unbC l s).1.length ≤ 1000000000 := by omega
  have hR9 : (renC l s t).1.length ≤ 1000000000 := by omega
  have fl : ∀ l, flatRows (rowsC l) := flat_rowsC
  have fs : ∀ l, flatRows (rowsS l) := flat_rowsS
  apply vwp_cut
  · simp (config := { maxSteps := 3000000 })
    exact ⟨rfl, rfl⟩
  apply vwp_cut
  · simp (config := { maxSteps := 3000000 }) [hfw, hs, ht]
    exact ⟨rfl, rfl⟩
  apply vwp_cut
  · simp (config := { maxSteps := 3000000 }) [hl8, fl]
    exact ⟨rfl, rfl⟩
  apply vwp_cut
  · simp (config := { maxSteps := 3000000 }) [hl9]
    exact ⟨rfl, rfl⟩
  apply vwp_cut
  · simp (config := { maxSteps := 3000000 }) [hl9]
    exact ⟨rfl, rfl⟩
  apply vwp_cut
  · simp (config := { maxSteps := 3000000 }) [hl5, fl]
    exact ⟨rfl, rfl⟩
  apply vwp_cut
  · simp (config := { maxSteps := 3000000 }) [hl5, fl]
    exact ⟨rfl, rfl⟩
  apply vwp_cut
  · simp (config := { maxSteps := 3000000 }) [hl5, fl]
    exact ⟨rfl, rfl⟩
  apply vwp_cut
  · simp (config := { maxSteps := 3000000 }) [hl5, fl]
    exact ⟨rfl, rfl⟩
  apply vwp_cut
  · simp (config := { maxSteps := 3000000 }) [hl5, fl]
    exact ⟨rfl, rfl⟩
  apply vwp_cut
  · simp (config := { maxSteps := 3000000 }) [hl5, fl]
    exact ⟨rfl, rfl⟩
  apply vwp_cut
  · simp (config := { maxSteps := 3000000 }) [hB9, hU9, hR9, hl8, hl9, fl, fs]
    exact ⟨rfl, rfl⟩
  apply vwp_cut
  · simp (config := { maxSteps := 3000000 })
    exact ⟨rfl, rfl⟩
  apply vwp_cut
  · simp (config := { maxSteps := 3000000 })
    exact ⟨rfl, rfl⟩
  have hta : two (rowsC (bindC l s n).1) := ⟨rowsC_two _, by rw [rowsC_length]; omega⟩
  have htx : two (rowsC (unbC l s).1) := ⟨rowsC_two _, by rw [rowsC_length]; omega⟩
  have htp : two (rowsC (renC l s t).1) := ⟨rowsC_two _, by rw [rowsC_length]; omega⟩
  generalize rowsC (bindC l s n).1 = A at hta ⊢
  generalize rowsC (unbC l s).1 = X at htx ⊢
  generalize rowsC (renC l s t).1 = Y at htp ⊢
  clear hB hU hR hB9 hU9 hR9
  simp (config := { maxSteps := 3000000 })
  refine vwp_loop (fun x : Tl => x.t ≤ 3 ∧ two x.a ∧ two x.x ∧ two x.p) (fun x => ⟨[(0, .pv (.ro (rowsC l))), (9, .own 44), (26, .own 167), (27, .pv (.int .i64 x.t))], FT l x⟩) (fun x => 3 - x.t) [] ⟨0, A, X, Y⟩ ⟨by simp, hta, htx, htp⟩ ?_ ?_
  · simp [FT]
  · rintro ⟨t, a, x, p⟩ ⟨h3, ha, hx, hp⟩
    simp only at h3 ha hx hp
    have w2 : IntKind.i64.wrap ((t : Int) + 1) = (t : Int) + 1 := wrap_i64 (by omega)
    have hc : t = 0 ∨ t = 1 ∨ t = 2 ∨ t = 3 := by omega
    rcases hc with rfl | rfl | rfl | rfl
    · simp (config := { maxSteps := 3000000 }) [FT]
      refine vwp_loop (fun y : Nat × List (List PV) => y.1 ≤ y.2.length ∧ two y.2) (fun y => ⟨[(0, .pv (.ro (rowsC l))), (9, .own 44), (26, .own 167), (27, .pv (.int .i64 0)), (28, .pv (.int .i64 y.1))], FT l ⟨0, y.2, x, p⟩⟩) (fun y => y.2.length - y.1) [] (0, a) ⟨by simp, ha⟩ (by simp [FT]) ?_
      rintro ⟨j, v⟩ ⟨hj, hv⟩
      simp only at hj hv
      have hv2 := hv.2
      have w3 : IntKind.i64.wrap ((j : Int) + 1) = (j : Int) + 1 := wrap_i64 (by omega)
      by_cases hlt : j < v.length
      · have h2 := two_at hv hlt
        simp (config := { maxSteps := 3000000 }) [FT, hlt, w3, h2]
        exact ⟨j + 1, _, ⟨by rw [List.length_set]; omega, two_set hv (by simp [h2])⟩, ⟨by omega, rfl⟩, by rw [List.length_set]; omega⟩
      · simp (config := { maxSteps := 3000000 }) [FT, hlt]
        exact ⟨⟨1, v, x, p⟩, ⟨by simp, hv, hx, hp⟩, ⟨by show IntKind.i64.wrap 1 = (1 : Int); decide, rfl, rfl, rfl⟩, by simp⟩
    · simp (config := { maxSteps := 3000000 }) [FT]
      refine vwp_loop (fun y : Nat × List (List PV) => y.1 ≤ y.2.length ∧ two y.2) (fun y => ⟨[(0, .pv (.ro (rowsC l))), (9, .own 44), (26, .own 167), (27, .pv (.int .i64 1)), (28, .pv (.int .i64 y.1))], FT l ⟨1, a, y.2, p⟩⟩) (fun y => y.2.length - y.1) [] (0, x) ⟨by simp, hx⟩ (by simp [FT]) ?_
      rintro ⟨j, v⟩ ⟨hj, hv⟩
      simp only at hj hv
      have hv2 := hv.2
      have w3 : IntKind.i64.wrap ((j : Int) + 1) = (j : Int) + 1 := wrap_i64 (by omega)
      by_cases hlt : j < v.length
      · have h2 := two_at hv hlt
        simp (config := { maxSteps := 3000000 }) [FT, hlt, w3, h2]
        exact ⟨j + 1, _, ⟨by rw [List.length_set]; omega, two_set hv (by simp [h2])⟩, ⟨by omega, rfl⟩, by rw [List.length_set]; omega⟩
      · simp (config := { maxSteps := 3000000 }) [FT, hlt]
        exact ⟨⟨2, a, v, p⟩, ⟨by simp, ha, hv, hp⟩, ⟨by show IntKind.i64.wrap 2 = (2 : Int); decide, rfl, rfl, rfl⟩, by simp⟩
    · simp (config := { maxSteps := 3000000 }) [FT]
      refine vwp_loop (fun y : Nat × List (List PV) => y.1 ≤ y.2.length ∧ two y.2) (fun y => ⟨[(0, .pv (.ro (rowsC l))), (9, .own 44), (26, .own 167), (27, .pv (.int .i64 2)), (28, .pv (.int .i64 y.1))], FT l ⟨2, a, x, y.2⟩⟩) (fun y => y.2.length - y.1) [] (0, p) ⟨by simp, hp⟩ (by simp [FT]) ?_
      rintro ⟨j, v⟩ ⟨hj, hv⟩
      simp only at hj hv
      have hv2 := hv.2
      have w3 : IntKind.i64.wrap ((j : Int) + 1) = (j : Int) + 1 := wrap_i64 (by omega)
      by_cases hlt : j < v.length
      · have h2 := two_at hv hlt
        simp (config := { maxSteps := 3000000 }) [FT, hlt, w3, h2]
        exact ⟨j + 1, _, ⟨by rw [List.length_set]; omega, two_set hv (by simp [h2])⟩, ⟨by omega, rfl⟩, by rw [List.length_set]; omega⟩
      · simp (config := { maxSteps := 3000000 }) [FT, hlt]
        exact ⟨⟨3, a, x, v⟩, ⟨by simp, ha, hx, hv⟩, ⟨by show IntKind.i64.wrap 3 = (3 : Int); decide, rfl, rfl, rfl⟩, by simp⟩
    · simp (config := { maxSteps := 3000000 }) [FT, hl9]

end Go.Proofs.Ytfpmjcdcpicmaaa.Ab
