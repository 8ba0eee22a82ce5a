/- An edit read: as the program does it. -/
import Derived.Test.YtcgllachkjnlgaaD29
namespace Go.Proofs.Ytcgllachkjnlgaa.Ab
open Go Go.RowKit R
set_option linter.unusedVariables false
set_option linter.unusedSimpArgs false
set_option maxHeartbeats 4000000
set_option maxRecDepth 100000

/-- An edit that stands in bytes at a place, behind its kind. -/
def takeK (b : List UInt8) (p : Int) (c : UInt8) : Ed × Int × Int :=
  if c = 2 then (⟨2, 0, (takeT b (p + 1)).1⟩, (takeT b (p + 1)).2.1, if (takeT b (p + 1)).2.2 = 0 ∧ rightE ⟨2, 0, (takeT b (p + 1)).1⟩ = false then 2 else (takeT b (p + 1)).2.2)
  else if c = 1 ∨ c = 3 then
    (if (takeL b (p + 1)).2.2 = 0 ∧ 2147483647 < (takeL b (p + 1)).1 then (⟨0, 0, []⟩, 0, 2) else
      (⟨c, (takeL b (p + 1)).1, []⟩, (takeL b (p + 1)).2.1, if (takeL b (p + 1)).2.2 = 0 ∧ rightE ⟨c, (takeL b (p + 1)).1, []⟩ = false then 2 else (takeL b (p + 1)).2.2))
  else (⟨c, 0, []⟩, 0, 60)
def takeE (b : List UInt8) (p : Int) : Ed × Int × Int := takeK b p (b.getD p.toNat 0)

noncomputable def GtakeE : List AV → Option (Prop × AV)
  | [.pv (.ro b), .pv (.int .i64 p)] => (dec byteR b).map fun l => (l.length ≤ 100000000 ∧ 0 ≤ p ∧ p < l.length,
      .tup [.agg [.pv (.int .u8 ((takeE l p).1.k.toNat : Int)), .pv (.int .i64 (takeE l p).1.n), .pv (.str (takeE l p).1.t)], .pv (.int .i64 (takeE l p).2.1), .pv (.int .i64 (takeE l p).2.2)])
  | _ => none
@[simp] theorem GtakeE_eq (b : List (List PV)) (p : Int) : GtakeE [.pv (.ro b), .pv (.int .i64 p)] = (dec byteR b).map fun l => (l.length ≤ 100000000 ∧ 0 ≤ p ∧ p < l.length,
      .tup [.agg [.pv (.int .u8 ((takeE l p).1.k.toNat : Int)), .pv (.int .i64 (takeE l p).1.n), .pv (.str (takeE l p).1.t)], .pv (.int .i64 (takeE l p).2.1), .pv (.int .i64 (takeE l p).2.2)]) := rfl

theorem c_takeE : ConT Try.prog 50 GtakeE := by
  intro ys φ r h hφ
  unfold GtakeE at h
  split at h
  · rename_i rb p
    obtain ⟨b, hb, h⟩ := Option.map_eq_some_iff.1 h
    cases h
    cases dec_bytes_inv hb
    obtain ⟨hl, hp1, hp2⟩ := hφ
    obtain ⟨q, rfl⟩ := Int.eq_ofNat_of_zero_le hp1
    have hq : q < b.length := by omega
    have r1 := R.bytesRow_at hq
    have hgd : b.getD ((q : Int).toNat) 0 = b[q] := by simp [hq]
    refine con_of (tab_cons c_takeT (tab_cons c_take (tab_cons c_eright tab_nil))) (by kernel_rfl) fn50 (by simp) ?_
    unfold body50 takeE
    rw [hgd]
    generalize b[q] = c at *
    have w1 : IntKind.i64.wrap ((q : Int) + 1) = (q : Int) + 1 := wrap_i64 (by omega)
    have g1 : b.length ≤ 1000000000 := by omega
    have g2 : -1000000000 ≤ (q : Int) + 1 := by omega
    have g3 : (q : Int) + 1 ≤ 1000000000 := by omega
    obtain ⟨k1, k2, k3, k4, k5⟩ := takeL_ok b ((q : Int) + 1)
    by_cases hc2 : c = 2
    · subst hc2
      have hT : takeK b q 2 = (⟨2, 0, (takeT b ((q : Int) + 1)).1⟩, (takeT b ((q : Int) + 1)).2.1, if (takeT b ((q : Int) + 1)).2.2 = 0 ∧ rightE ⟨2, 0, (takeT b ((q : Int) + 1)).1⟩ = false then 2 else (takeT b ((q : Int) + 1)).2.2) := rfl
      rw [hT]
      generalize hLT : takeT b ((q : Int) + 1) = t
      obtain ⟨s, x, e⟩ := t
      have hr : rightE ⟨2, 0, s⟩ = rightI 2 0 s := rfl
      by_cases he : e = 0
      · subst he
        by_cases hrr : rightI 2 0 s = false
        · simp (config := { maxSteps := 3000000 }) [hq, r1, w1, g1, g2, g3, hLT, hr, hrr]
        · have hrr : rightI 2 0 s = true := by simpa using hrr
          simp (config := { maxSteps := 3000000 }) [hq, r1, w1, g1, g2, g3, hLT, hr, hrr]
      · simp (config := { maxSteps := 3000000 }) [hq, r1, w1, g1, g2, g3, hLT, hr, he]
    · by_cases hc13 : c = 1 ∨ c = 3
      · have hT : takeK b q c = (if (takeL b ((q : Int) + 1)).2.2 = 0 ∧ 2147483647 < (takeL b ((q : Int) + 1)).1 then (⟨0, 0, []⟩, 0, 2) else
          (⟨c, (takeL b ((q : Int) + 1)).1, []⟩, (takeL b ((q : Int) + 1)).2.1, if (takeL b ((q : Int) + 1)).2.2 = 0 ∧ rightE ⟨c, (takeL b ((q : Int) + 1)).1, []⟩ = false then 2 else (takeL b ((q : Int) + 1)).2.2)) := by
          unfold takeK; rw [if_neg hc2, if_pos hc13]
        obtain ⟨n, x, e, hL⟩ : ∃ n x e, takeL b ((q : Int) + 1) = (n, x, e) := ⟨_, _, _, rfl⟩
        rw [hL] at k1 k2 k3 k4 k5 hT
        dsimp only at k1 k2 k3 k4 k5 hT
        rw [hT]
        clear hT
        by_cases he : e = 0
        · subst he
          by_cases hbig : 2147483647 < n
          · rcases hc13 with rfl | rfl <;> simp (config := { maxSteps := 3000000 }) [hq, r1, w1, g1, g2, g3, hL, hbig]
          · have w2 : IntKind.i64.wrap n = n := wrap_i64 (by omega)
            have hr : rightE ⟨c, n, []⟩ = rightI (c.toNat : Int) n [] := rfl
            rcases hc13 with rfl | rfl
            · have hr : rightE ⟨1, n, []⟩ = rightI 1 n [] := rfl
              cases hrr : rightI 1 n [] <;> simp (config := { maxSteps := 3000000 }) [hq, r1, w1, g1, g2, g3, hL, hbig, w2, hr, hrr]
            · have hr : rightE ⟨3, n, []⟩ = rightI 3 n [] := rfl
              cases hrr : rightI 3 n [] <;> simp (config := { maxSteps := 3000000 }) [hq, r1, w1, g1, g2, g3, hL, hbig, w2, hr, hrr]
        · obtain ⟨rfl, rfl⟩ := k4 he
          have w2 : IntKind.i64.wrap 0 = 0 := wrap_i64 (by omega)
          rcases hc13 with rfl | rfl <;> simp (config := { maxSteps := 3000000 }) [hq, r1, w1, g1, g2, g3, hL, he, w2]
      · have hT : takeK b q c = (⟨c, 0, []⟩, 0, 60) := by unfold takeK; rw [if_neg hc2, if_neg hc13]
        rw [hT]
        have n1 : ¬ c.toNat = 1 := fun h => hc13 (.inl (UInt8.toNat_inj.1 h))
        have n2 : ¬ c.toNat = 2 := fun h => hc2 (UInt8.toNat_inj.1 h)
        have n3 : ¬ c.toNat = 3 := fun h => hc13 (.inr (UInt8.toNat_inj.1 h))
        have m1 : ¬ (c.toNat : Int) = 1 := by omega
        have m2 : ¬ (c.toNat : Int) = 2 := by omega
        have m3 : ¬ (c.toNat : Int) = 3 := by omega
        simp (config := { maxSteps := 3000000 }) [hq, r1, w1, m1, m2, m3]
  · cases h

end Go.Proofs.Ytcgllachkjnlgaa.Ab
