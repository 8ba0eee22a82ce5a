/- Chapter 14: the law PinsBack. -/
import Derived.Test.YtfpmjcdcpicmaaaP17
namespace Go.Proofs.Ytfpmjcdcpicmaaa.Ab
open Go Go.RowKit R
set_option linter.unusedVariables false
set_option linter.unusedSimpArgs false
set_option maxHeartbeats 40000000
set_option maxRecDepth 100000

theorem vwp_condT {P : Program} {Γ : Tab} {x : Operand} {a b : AC} {K : St → Prop} {J : Exit → St → Prop} {vs : List (Nat × AV)} {os : List (Nat × AO)} (h : boolOf (ev (look vs) x) = some true) (h1 : vwp P Γ a K J ⟨look vs, lookO os⟩) : vwp P Γ (.cond x a b) K J ⟨look vs, lookO os⟩ := by
  rw [vwp_cond, h]
  exact ⟨fun _ => h1, fun h => by cases h⟩
theorem live_len (l : List Pn) (n s : Int) : (liveL l n s).length ≤ l.length := List.length_filter_le _ _
theorem putPs_len {l : List Pn} (ho : ∀ e ∈ l, okP' e) (hl : l.length ≤ 40) : (putPs l).length ≤ 1300 := by
  have h1 := pinsB_len ho
  have h2 : (vputP (l.length : Int)).length ≤ 10 := vputP_len ⟨by omega, by omega⟩
  unfold putPs
  rw [List.length_append]
  omega

theorem c_pinsBack (l : List Pn) (x y z now s more : Int) (b1 b2 : List UInt8) (hok : ∀ e ∈ l, okP' e) (hx : okP' ⟨x, y, z⟩) (hn : okN now) (hs : okN s) (hm : okN more) :
    Con Try.prog 14 [] [.agg [.pv (.ro (rowsP l))], .agg [.pv (.int .u64 x), .pv (.int .u64 y), .pv (.int .u64 z)], .pv (.int .u64 now), .pv (.int .u64 s), .pv (.int .u64 more), .pv (.ro (bytesRow b1)), .pv (.ro (bytesRow b2))] [] (.pv (.bool true)) := by
  refine con_of (tab_cons c_works (tab_cons c_pTk (tab_cons c_pPut (tab_cons c_pSame (tab_cons c_Live (tab_cons c_pRight (tab_cons c_pAdd (tab_cons c_pRem (tab_cons c_pOf tab_nil))))))))) (by kernel_rfl) fn14 (by simp) ?_
  unfold body14
  by_cases hl : (40 : Int) < l.length
  · simp (config := { maxSteps := 3000000 }) [hl]
  have hl9 : l.length ≤ 1000000000 := by omega
  by_cases hb1 : (100 : Int) < b1.length
  · simp (config := { maxSteps := 3000000 }) [hl, hb1]
  by_cases hb2 : (100 : Int) < b2.length
  · simp (config := { maxSteps := 3000000 }) [hl, hb1, hb2]
  by_cases hr : riseP l = true
  rotate_left
  · have hr' : riseP l = false := by simpa using hr
    simp (config := { maxSteps := 3000000 }) [hl, hb1, hb2, hr', hl9]
  have hl6 : l.length ≤ 1000000 := by omega
  have hpl := putPs_len hok (by omega)
  have fl : ∀ l, flatRows (rowsP l) := flat_rowsP
  have fb : ∀ l, flatRows (bytesRow l) := flat_bytes
  have ou : ∀ e ∈ l, okN e.u := fun e he => (hok e he).2.2
  have ouL : ∀ e ∈ liveL l now s, okN e.u := fun e he => ou e (List.mem_filter.1 he).1
  obtain ⟨n1, n2⟩ := hn
  obtain ⟨m1, m2⟩ := hm
  have w1 : IntKind.u64.wrap (18446744073709551615 - now) = 18446744073709551615 - now := wrap_u64 (by omega)
  have w2 : IntKind.u64.wrap (now + min more (18446744073709551615 - now)) = now + min more (18446744073709551615 - now) := wrap_u64 (by omega)
  have on : okN now := ⟨n1, n2⟩
  have on2 : okN (now + min more (18446744073709551615 - now)) := ⟨by omega, by omega⟩
  have hle : now ≤ now + min more (18446744073709551615 - now) := by omega
  have L0 := live_len l now s
  have L6 : (liveL l now s).length ≤ 1000000 := by omega
  have L9 : (liveL l now s).length ≤ 1000000000 := by omega
  have L1 : riseP (liveL l now s) = true := riseP_live now s hr
  have L2 : liveL (liveL l now s) now s = liveL l now s := live_live (Int.le_refl now)
  have L3 : liveL (liveL l now s) (now + min more (18446744073709551615 - now)) s = liveL l (now + min more (18446744073709551615 - now)) s := live_live hle
  have L4 := live_len l (now + min more (18446744073709551615 - now)) s
  have L5 : (liveL l (now + min more (18446744073709551615 - now)) s).length ≤ 1000000000 := by omega
  have hT : takeP (b1 ++ (putPs l ++ b2)) (b1.length : Int) = (l, ((b1.length + (putPs l).length : Nat) : Int), 0) := takeP_put (r := b2) List.drop_left hok (by omega) hr
  have hbl : (b1 ++ (putPs l ++ b2)).length ≤ 100000000 := by simp only [List.length_append]; omega
  have hB : bytesRow b1 ++ (bytesRow (putPs l) ++ bytesRow b2) = bytesRow (b1 ++ (putPs l ++ b2)) := by rw [bytesRow_append, bytesRow_append]
  have one := fun l => bytesRow_one l
  have p1 : -9223372036854775808 ≤ (b1.length : Int) := by omega
  have p2 : (b1.length : Int) ≤ 9223372036854775807 := by omega
  have key : ∀ (K : St → Prop) (J : Exit → St → Prop), True := fun _ _ => trivial
  by_cases hr2 : riseP (l ++ [⟨x, y, z⟩]) = true
  · have hadd : addP l ⟨x, y, z⟩ = (l ++ [⟨x, y, z⟩], 0) := by unfold addP; rw [if_pos hr2]
    have hrem : remP (l ++ [⟨x, y, z⟩]) x = (l, 0) := rem_add hr2
    have hof : ofP (l ++ [⟨x, y, z⟩]) y = true := by simp [ofP]
    have a5 : l.length ≤ 99999 := by omega
    have a9 : l.length ≤ 999999999 := by omega
    apply vwp_cut
    · simp (config := { maxSteps := 3000000 })
      exact ⟨rfl, rfl⟩
    apply vwp_cut
    · simp (config := { maxSteps := 3000000 }) [hl, hb1, hb2, hr, hl9]
      exact ⟨rfl, rfl⟩
    apply vwp_cut
    · simp (config := { maxSteps := 3000000 }) [hl6, hadd, fl]
      exact ⟨rfl, rfl⟩
    apply vwp_cut
    · apply vwp_cut
      · simp (config := { maxSteps := 3000000 })
        exact ⟨rfl, rfl⟩
      apply vwp_condT rfl
      apply vwp_cut
      · simp (config := { maxSteps := 3000000 }) [hrem, a5, fl]
        exact ⟨rfl, rfl⟩
      simp (config := { maxSteps := 3000000 }) [hof, hr2, a5, a9, hl9]
      exact ⟨rfl, rfl⟩
    apply vwp_cut
    · simp (config := { maxSteps := 3000000 }) [hl6, on, hs, fl]
      exact ⟨ou, rfl, rfl⟩
    apply vwp_cut
    · simp (config := { maxSteps := 3000000 }) [hl6, w1, w2, on2, hs, fl]
      exact ⟨ou, rfl, rfl⟩
    apply vwp_cut
    · simp (config := { maxSteps := 3000000 }) [w1, w2, on, on2, hs, fl, L6, L9, L1, L2, L3, L5]
      exact ⟨ouL, rfl, rfl⟩
    simp (config := { maxSteps := 3000000 }) [maxLen_eq, fb, fl, hT, hbl, hB, p1, p2, hl9, hl6]
    exact ⟨⟨by omega, by omega, one _⟩, hok, ⟨by omega, by omega, one _⟩, ⟨by omega, by omega, one _⟩, by omega⟩
  · have hr3 : riseP (l ++ [⟨x, y, z⟩]) = false := by simpa using hr2
    have hadd : addP l ⟨x, y, z⟩ = ([], 2) := by unfold addP; rw [if_neg hr2]
    have fl0 : flatRows [] := flat_rowsP []
    apply vwp_cut
    · simp (config := { maxSteps := 3000000 })
      exact ⟨rfl, rfl⟩
    apply vwp_cut
    · simp (config := { maxSteps := 3000000 }) [hl, hb1, hb2, hr, hl9]
      exact ⟨rfl, rfl⟩
    apply vwp_cut
    · simp (config := { maxSteps := 3000000 }) [hl6, hadd, fl0]
      exact ⟨rfl, rfl⟩
    apply vwp_cut
    · simp (config := { maxSteps := 3000000 })
      exact ⟨rfl, rfl⟩
    apply vwp_cut
    · simp (config := { maxSteps := 3000000 }) [hl6, on, hs, fl]
      exact ⟨ou, rfl, rfl⟩
    apply vwp_cut
    · simp (config := { maxSteps := 3000000 }) [hl6, w1, w2, on2, hs, fl]
      exact ⟨ou, rfl, rfl⟩
    apply vwp_cut
    · simp (config := { maxSteps := 3000000 }) [w1, w2, on, on2, hs, fl, L6, L9, L1, L2, L3, L5]
      exact ⟨ouL, rfl, rfl⟩
    simp (config := { maxSteps := 3000000 }) [maxLen_eq, fb, fl, hT, hbl, hB, p1, p2, hl9, hl6]
    exact ⟨⟨by omega, by omega, one _⟩, hok, ⟨by omega, by omega, one _⟩, ⟨by omega, by omega, one _⟩, by omega⟩

end Go.Proofs.Ytfpmjcdcpicmaaa.Ab
