/- Chapter 17: the law CatalogBack. -/
import Derived.Test.YtfpmjcdcpicmaaaC5
import Derived.Test.YtfpmjcdcpicmaaaC6
namespace Go.Proofs.Ytfpmjcdcpicmaaa.Ab
open Go Go.RowKit R
set_option linter.unusedVariables false
set_option linter.unusedSimpArgs false
set_option maxHeartbeats 40000000
set_option maxRecDepth 100000

theorem vwp_condT {P : Program} {Γ : Tab} {x : Operand} {a b : AC} {K : St → Prop} {J : Exit → St → Prop} {vs : List (Nat × AV)} {os : List (Nat × AO)} (h : boolOf (ev (look vs) x) = some true) (h1 : vwp P Γ a K J ⟨look vs, lookO os⟩) : vwp P Γ (.cond x a b) K J ⟨look vs, lookO os⟩ := by
  rw [vwp_cond, h]
  exact ⟨fun _ => h1, fun h => by cases h⟩

theorem c_catBack (l : List En) (s t x : List UInt8) (n : Int) :
    Con Try.prog 4 [] [.pv (.ro (rowsC l)), .pv (.str s), .pv (.str t), .pv (.str x), .pv (.int .u64 n)] [] (.pv (.bool true)) := by
  refine con_of (tab_cons c_worksC (tab_cons c_Few (tab_cons c_Rt (tab_cons c_Get (tab_cons c_Bind (tab_cons c_Unb (tab_cons c_Ren (tab_cons c_RefC (tab_cons c_SmC tab_nil))))))))) (by kernel_rfl) fn4 (by simp) ?_
  unfold body4
  cases hfw : fewC l with
  | false => simp (config := { maxSteps := 3000000 }) [hfw]
  | true =>
  by_cases hs : (100 : Int) < s.length
  · simp (config := { maxSteps := 3000000 }) [hfw, hs]
  by_cases ht : (100 : Int) < t.length
  · simp (config := { maxSteps := 3000000 }) [hfw, hs, ht]
  by_cases hx : (100 : Int) < x.length
  · simp (config := { maxSteps := 3000000 }) [hfw, hs, ht, hx]
  have hl20 : l.length ≤ 20 := by
    unfold fewC at hfw
    rw [Bool.and_eq_true] at hfw
    simpa using hfw.1
  have hl9 : l.length ≤ 1000000000 := by omega
  have hl8 : l.length ≤ 100000000 := by omega
  have hl5 : l.length ≤ 100000 := by omega
  have fl : ∀ l, flatRows (rowsC l) := flat_rowsC
  cases hr : rightC l with
  | false => simp (config := { maxSteps := 3000000 }) [hfw, hs, ht, hx, hr, hl9]
  | true =>
  apply vwp_cut
  · simp (config := { maxSteps := 3000000 })
    exact ⟨rfl, rfl⟩
  apply vwp_cut
  · simp (config := { maxSteps := 3000000 }) [hfw, hs, ht, hx, hr, hl9]
    exact ⟨rfl, rfl⟩
  apply vwp_cut
  · simp (config := { maxSteps := 3000000 }) [hl9]
    exact ⟨rfl, rfl⟩
  apply vwp_cut
  · simp (config := { maxSteps := 3000000 }) [hl5, fl]
    exact ⟨rfl, rfl⟩
  by_cases hb : (bindC l s n).2 = 0
  · obtain ⟨b0, b1, b2, b3, b4⟩ := bind_law hr hb
    have r5 : (bindC l s n).1.length ≤ 100000 := by omega
    have r9 : (bindC l s n).1.length ≤ 1000000000 := by omega
    generalize (bindC l s n).1 = B at b0 b1 b2 b3 b4 r5 r9 ⊢
    by_cases hxs : x = s
    · apply vwp_cut
      · apply vwp_cut
        · simp (config := { maxSteps := 3000000 }) [hb]
          exact ⟨rfl, rfl⟩
        apply vwp_condT rfl
        apply vwp_cut
        · simp (config := { maxSteps := 3000000 }) [r9, b2]
          exact ⟨rfl, rfl⟩
        apply vwp_cut
        · simp (config := { maxSteps := 3000000 }) [r5, b3, fl]
          exact ⟨rfl, rfl⟩
        apply vwp_cut
        · simp (config := { maxSteps := 3000000 }) [r9]
          exact ⟨rfl, rfl⟩
        have wl : IntKind.i64.wrap ((l.length : Int) + 1) = (l.length : Int) + 1 := wrap_i64 (by omega)
        have hbl : (B.length : Int) = (l.length : Int) + 1 := by omega
        simp (config := { maxSteps := 3000000 }) [r9, b1, hl8, hl9, wl, hbl, hxs]
        exact ⟨rfl, rfl⟩
      apply vwp_cut
      · simp (config := { maxSteps := 3000000 }) [hl5, fl]
        exact ⟨rfl, rfl⟩
      by_cases hq : (renC l s t).2 = 0
      rotate_left
      · simp (config := { maxSteps := 3000000 }) [hq]
      obtain ⟨p0, p1, p2, i, p3, p4, p5, p6⟩ := ren_law hr hq
      have q5 : (renC l s t).1.length ≤ 100000 := by omega
      have q9 : (renC l s t).1.length ≤ 1000000000 := by omega
      generalize (renC l s t).1 = P at p0 p1 p2 p3 p5 p6 q5 q9 ⊢
      apply vwp_cut
      · simp (config := { maxSteps := 3000000 }) [hq]
        exact ⟨rfl, rfl⟩
      apply vwp_cut
      · simp (config := { maxSteps := 3000000 }) [q5, p2, fl]
        exact ⟨rfl, rfl⟩
      apply vwp_cut
      · simp (config := { maxSteps := 3000000 }) [q9, p3]
        exact ⟨rfl, rfl⟩
      apply vwp_cut
      · simp (config := { maxSteps := 3000000 }) [hl9, p4]
        exact ⟨rfl, rfl⟩
      apply vwp_cut
      · simp (config := { maxSteps := 3000000 }) [q9, p5]
        exact ⟨rfl, rfl⟩
      apply vwp_cut
      · simp (config := { maxSteps := 3000000 }) [q9]
        exact ⟨rfl, rfl⟩
      simp (config := { maxSteps := 3000000 }) [q9, p1, hl8, hl9, hxs]
    · apply vwp_cut
      · apply vwp_cut
        · simp (config := { maxSteps := 3000000 }) [hb]
          exact ⟨rfl, rfl⟩
        apply vwp_condT rfl
        apply vwp_cut
        · simp (config := { maxSteps := 3000000 }) [r9, b2]
          exact ⟨rfl, rfl⟩
        apply vwp_cut
        · simp (config := { maxSteps := 3000000 }) [r5, b3, fl]
          exact ⟨rfl, rfl⟩
        apply vwp_cut
        · simp (config := { maxSteps := 3000000 }) [r9]
          exact ⟨rfl, rfl⟩
        have wl : IntKind.i64.wrap ((l.length : Int) + 1) = (l.length : Int) + 1 := wrap_i64 (by omega)
        have hbl : (B.length : Int) = (l.length : Int) + 1 := by omega
        have hb4 := b4 x hxs
        simp (config := { maxSteps := 3000000 }) [r9, b1, hl8, hl9, wl, hbl, hxs, hb4]
        exact ⟨rfl, rfl⟩
      apply vwp_cut
      · simp (config := { maxSteps := 3000000 }) [hl5, fl]
        exact ⟨rfl, rfl⟩
      by_cases hq : (renC l s t).2 = 0
      rotate_left
      · simp (config := { maxSteps := 3000000 }) [hq]
      obtain ⟨p0, p1, p2, i, p3, p4, p5, p6⟩ := ren_law hr hq
      have q5 : (renC l s t).1.length ≤ 100000 := by omega
      have q9 : (renC l s t).1.length ≤ 1000000000 := by omega
      generalize (renC l s t).1 = P at p0 p1 p2 p3 p5 p6 q5 q9 ⊢
      apply vwp_cut
      · simp (config := { maxSteps := 3000000 }) [hq]
        exact ⟨rfl, rfl⟩
      apply vwp_cut
      · simp (config := { maxSteps := 3000000 }) [q5, p2, fl]
        exact ⟨rfl, rfl⟩
      apply vwp_cut
      · simp (config := { maxSteps := 3000000 }) [q9, p3]
        exact ⟨rfl, rfl⟩
      apply vwp_cut
      · simp (config := { maxSteps := 3000000 }) [hl9, p4]
        exact ⟨rfl, rfl⟩
      apply vwp_cut
      · simp (config := { maxSteps := 3000000 }) [q9, p5]
        exact ⟨rfl, rfl⟩
      apply vwp_cut
      · simp (config := { maxSteps := 3000000 }) [q9]
        exact ⟨rfl, rfl⟩
      by_cases hxt : x = t
      · simp (config := { maxSteps := 3000000 }) [q9, p1, hl8, hl9, hxs, hxt]
      · have hp6 := p6 x hxs hxt
        simp (config := { maxSteps := 3000000 }) [q9, p1, hl8, hl9, hxs, hxt, hp6]
  · apply vwp_cut
    · simp (config := { maxSteps := 3000000 }) [hb]
      exact ⟨rfl, rfl⟩
    apply vwp_cut
    · simp (config := { maxSteps := 3000000 }) [hl5, fl]
      exact ⟨rfl, rfl⟩
    by_cases hq : (renC l s t).2 = 0
    rotate_left
    · simp (config := { maxSteps := 3000000 }) [hq]
    obtain ⟨p0, p1, p2, i, p3, p4, p5, p6⟩ := ren_law hr hq
    have q5 : (renC l s t).1.length ≤ 100000 := by omega
    have q9 : (renC l s t).1.length ≤ 1000000000 := by omega
    generalize (renC l s t).1 = P at p0 p1 p2 p3 p5 p6 q5 q9 ⊢
    apply vwp_cut
    · simp (config := { maxSteps := 3000000 }) [hq]
      exact ⟨rfl, rfl⟩
    apply vwp_cut
    · simp (config := { maxSteps := 3000000 }) [q5, p2, fl]
      exact ⟨rfl, rfl⟩
    apply vwp_cut
    · simp (config := { maxSteps := 3000000 }) [q9, p3]
      exact ⟨rfl, rfl⟩
    apply vwp_cut
    · simp (config := { maxSteps := 3000000 }) [hl9, p4]
      exact ⟨rfl, rfl⟩
    apply vwp_cut
    · simp (config := { maxSteps := 3000000 }) [q9, p5]
      exact ⟨rfl, rfl⟩
    apply vwp_cut
    · simp (config := { maxSteps := 3000000 }) [q9]
      exact ⟨rfl, rfl⟩
    by_cases hxs : x = s
    · simp (config := { maxSteps := 3000000 }) [q9, p1, hl8, hl9, hxs]
    · by_cases hxt : x = t
      · simp (config := { maxSteps := 3000000 }) [q9, p1, hl8, hl9, hxs, hxt]
      · have hp6 := p6 x hxs hxt
        simp (config := { maxSteps := 3000000 }) [q9, p1, hl8, hl9, hxs, hxt, hp6]

end Go.Proofs.Ytfpmjcdcpicmaaa.Ab
