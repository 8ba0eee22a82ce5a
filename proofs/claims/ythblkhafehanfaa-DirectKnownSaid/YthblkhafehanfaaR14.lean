/- Chapter 8: the law DirectPlays. -/
import Derived.Test.YthblkhafehanfaaR10
import Derived.Test.YthblkhafehanfaaR11
namespace Go.Proofs.Ythblkhafehanfaa.Ab
open Go Go.RowKit R
set_option linter.unusedVariables false
set_option linter.unusedSimpArgs false
set_option maxHeartbeats 4000000
set_option maxRecDepth 100000

def foldB (p : Pd) (l : List Cl) : Pd := l.foldl bothP p
def foldQ (r : Dr) (l : List Cl) : Dr := l.foldl bothR r
theorem foldB_take {p : Pd} {l : List Cl} {i : Nat} (h : i < l.length) : foldB p (l.take (i + 1)) = bothP (foldB p (l.take i)) l[i] := by
  rw [List.take_succ_eq_append_getElem h, foldB, List.foldl_append]
  rfl
theorem foldQ_take {p : Dr} {l : List Cl} {i : Nat} (h : i < l.length) : foldQ p (l.take (i + 1)) = bothR (foldQ p (l.take i)) l[i] := by
  rw [List.take_succ_eq_append_getElem h, foldQ, List.foldl_append]
  rfl
theorem Is.both {p : Pd} {r : Dr} (h : Is p r) (q : Cl) : Is (bothP p q) (bothR r q) := by
  unfold bothP bothR
  split
  · have := h.fail q.k.toNat
    unfold failR at this ⊢
    rwa [Int.toNat_natCast] at this
  · exact h.does q
theorem Is.bothB {p : Pd} {r : Dr} (h : Is p r) (q : Cl) : bothB p r q = true := by
  unfold Ab.bothB
  split
  · exact decide_eq_true (h.add _ _).2
  split
  · have := (h.rem q.n).2
    rw [this]; simp
  split
  · rw [h.now.get]; simp
  · rfl
theorem Is.isB {p : Pd} {r : Dr} (h : Is p r) : isB p r.d r.m = true := by
  unfold Ab.isB
  have h1 : sortN p.now = aftA r.d r.m := h.now.sort
  rw [h1, h.pend]; simp
theorem bothR_len (r : Dr) (q : Cl) : (bothR r q).d.length + (bothR r q).m.length ≤ r.d.length + r.m.length + 1 := by
  have h1 := aftA_len r.m r.d
  unfold bothR
  split
  · unfold failR
    have h2 := aftA_len (r.m.take q.k.toNat) r.d
    rw [List.length_take] at h2
    show (aftA r.d _).length + 0 ≤ _
    omega
  unfold doR
  split
  · unfold addR
    split
    · exact Nat.le_add_right _ _
    split
    · exact Nat.le_add_right _ _
    · show _ + (r.m ++ [_]).length ≤ _
      rw [List.length_append]; exact Nat.le_refl _
  split
  · unfold remR
    split
    · exact Nat.le_add_right _ _
    · show _ + (r.m ++ [_]).length ≤ _
      rw [List.length_append]; exact Nat.le_refl _
  split
  · show r.now.length + 0 ≤ _
    unfold Dr.now
    omega
  · exact Nat.le_add_right _ _
structure Pl (p : Pd) (r : Dr) (i : Nat) : Prop where
  is : Is p r
  len : r.d.length + r.m.length ≤ i
theorem Pl.step {p : Pd} {r : Dr} {i : Nat} (h : Pl p r i) (q : Cl) : Pl (bothP p q) (bothR r q) (i + 1) := ⟨h.is.both q, by have := bothR_len r q; have := h.len; omega⟩
theorem Pl.at (l : List Cl) : ∀ i, i ≤ l.length → Pl (foldB ⟨[], [], []⟩ (l.take i)) (foldQ ⟨[], []⟩ (l.take i)) i
  | 0, _ => ⟨Is.new, Nat.le_refl _⟩
  | i + 1, h => by rw [foldB_take h, foldQ_take h]; exact (Pl.at l i (by omega)).step _
theorem Pl.facts {p : Pd} {r : Dr} {i : Nat} (h : Pl p r i) (hi : i ≤ 60) : p.pend.length ≤ 100000 ∧ r.d.length ≤ 1000 ∧ r.m.length ≤ 1000 ∧ ndN p.now ∧ p.now.length ≤ 1000000 ∧ r.d.length ≤ 10000 ∧ r.m.length ≤ 10000 := by
  have h1 := h.len
  have h2 := aftA_len r.m r.d
  have h3 : p.now.length = (aftA r.d r.m).length := h.is.now.1.length_eq
  have h4 := h.is.pend
  refine ⟨by rw [h4]; omega, by omega, by omega, h.is.now.nd, by omega, by omega, by omega⟩

theorem c_dirPlays (l : List Cl) (hl : l.length ≤ maxLen) : Con Try.prog 4 [] [.pv (.ro (rowsQ l))] [] (.pv (.bool true)) := by
  refine con_of (tab_consG (ks := [1, 0, 0]) c_does (by kernel_rfl) (tab_consR c_New (by kernel_rfl) (tab_cons c_Is (tab_cons c_Fw (tab_cons c_wk tab_nil))))) (by kernel_rfl) fn4 (by simp) ?_
  unfold body4
  apply vwp_cut
  · simp (config := { maxSteps := 3000000 })
    exact ⟨rfl, rfl⟩
  cases hfw : fewQ l 60 with
  | false => simp (config := { maxSteps := 3000000 }) [hl, hfw]
  | true =>
  have hl6 : l.length ≤ 60 := by
    have := (Bool.and_eq_true _ _ ▸ hfw : _ ∧ _).2
    simp at this; omega
  apply vwp_cut
  · simp (config := { maxSteps := 3000000 }) [hl, hfw]
    exact ⟨rfl, rfl⟩
  apply vwp_cut
  · simp (config := { maxSteps := 3000000 }) [pdT]
    exact ⟨rfl, rfl⟩
  apply vwp_cut
  · simp (config := { maxSteps := 3000000 })
    exact ⟨rfl, rfl⟩
  apply vwp_cut
  · simp (config := { maxSteps := 3000000 })
    refine vwp_loopS (fun i : Nat => i ≤ l.length) (fun i => ⟨[(0, .pv (.ro (rowsQ l))), (2, .pv (.bool false)), (3, .ptr 11 0), (4, .ptr 4 0), (5, .pv (.int .i64 (i : Int)))], [(4, .box [.pv (.ro (rowsN (foldQ ⟨[], []⟩ (l.take i)).d)), .pv (.ro (rowsA (foldQ ⟨[], []⟩ (l.take i)).m))]), (11, .box [.own 1011, .own 2011, .own 3011]), (1011, .mpv (mfN (foldB ⟨[], [], []⟩ (l.take i)).dur)), (2011, .mpv (mfN (foldB ⟨[], [], []⟩ (l.take i)).now)), (3011, .arr 124 (rowsP (foldB ⟨[], [], []⟩ (l.take i)).pend))]⟩) (fun i => l.length - i) [] [999996] 0 (by simp) ?_ ?_
    · simp
      exact ⟨⟨rfl, rfl⟩, rfl, rfl, rfl⟩
    · intro i hi
      have hp := Pl.at l i hi
      have w2 : IntKind.i64.wrap ((i : Int) + 1) = (i : Int) + 1 := wrap_i64 (by omega)
      by_cases hlt : i < l.length
      · have r1 := rowsQ_at hlt
        have hs1 := foldB_take (p := ⟨[], [], []⟩) hlt
        have hs2 := foldQ_take (p := ⟨[], []⟩) hlt
        have hp2 := Pl.at l (i + 1) hlt
        obtain ⟨f1, f2, f3, f4, f5, f6, f7⟩ := hp.facts (by omega)
        obtain ⟨g1, g2, g3, g4, g5, g6, g7⟩ := hp2.facts (by omega)
        have hb := hp.is.bothB l[i]
        have hib := hp2.is.isB
        generalize eP : foldB ⟨[], [], []⟩ (l.take (i + 1)) = P2 at *
        generalize eQ : foldQ ⟨[], []⟩ (l.take (i + 1)) = R2 at *
        generalize foldB ⟨[], [], []⟩ (l.take i) = P at *
        generalize foldQ ⟨[], []⟩ (l.take i) = Q at *
        obtain ⟨Qd, Qm⟩ := Q
        obtain ⟨Rd, Rm'⟩ := R2
        apply vwp_cut
        · simp (config := { maxSteps := 3000000 }) [hlt]
          exact ⟨rfl, rfl⟩
        apply vwp_cut
        · rw [vwp_block]
          apply vwp_cut
          · simp (config := { maxSteps := 3000000 })
            exact ⟨rfl, rfl⟩
          apply vwp_cut
          · simp (config := { maxSteps := 3000000 }) [hlt, r1, f1, f2, f3, hb, ← hs1, ← hs2, pdT, drV]
            exact ⟨rfl, rfl⟩
          apply vwp_cut
          · simp (config := { maxSteps := 3000000 }) [g4, g5, g6, g7, hib]
            exact ⟨rfl, rfl⟩
          simp (config := { maxSteps := 3000000 })
          exact ⟨rfl, rfl⟩
        simp (config := { maxSteps := 3000000 }) [w2]
        exact ⟨i + 1, hlt, ⟨rfl, ⟨by rw [eQ], by rw [eQ]⟩, by rw [eP], by rw [eP], by rw [eP]⟩, by omega⟩
      · have hia : i = l.length := by omega
        subst hia
        simp (config := { maxSteps := 3000000 })
        exact ⟨rfl, rfl⟩
  have hp := Pl.at l l.length (Nat.le_refl _)
  obtain ⟨g1, g2, g3, g4, g5, g6, g7⟩ := hp.facts hl6
  have hib := hp.is.isB
  rw [List.take_length] at *
  generalize foldB ⟨[], [], []⟩ l = P2 at *
  generalize foldQ ⟨[], []⟩ l = R2 at *
  obtain ⟨Rd, Rm'⟩ := R2
  simp (config := { maxSteps := 3000000 }) [g4, g5, g6, g7, hib]

end Go.Proofs.Ythblkhafehanfaa.Ab
