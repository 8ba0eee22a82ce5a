/- Chapter 17: plain laws: what is written is read back, what is read was written so. -/
import Derived.Test.YtfpmjcdcpicmaaaC8
import Derived.Test.YtfpmjcdcpicmaaaC9
import Derived.Test.YtfpmjcdcpicmaaaV2
namespace Go.Proofs.Ytfpmjcdcpicmaaa.Ab
open Go Go.RowKit R
set_option linter.unusedVariables false
set_option linter.unusedSimpArgs false
set_option maxHeartbeats 4000000
set_option maxRecDepth 100000

theorem entB_pos (e : En) : 0 < (entB e).length := by
  have := vput_pos e.i.toNat
  unfold entB vputP
  simp only [List.length_append]
  omega
theorem entsB_pos : ∀ l : List En, l.length ≤ (entsB l).length
  | [] => by simp
  | e :: l => by
    have h1 := entB_pos e
    have h2 := entsB_pos l
    unfold entsB at h2 ⊢
    simp only [List.flatMap_cons, List.length_append, List.length_cons]
    omega
theorem takeE1_put {b r : List UInt8} {p : Nat} {e : En} (h : b.drop p = entB e ++ r) (hi : okI e) (hn : e.n.length < 2 ^ 64) : takeE1 b (p : Int) = (e, ((p + (entB e).length : Nat) : Int), 0) := by
  obtain ⟨i1, i2⟩ := hi
  unfold entB at h
  rw [List.append_assoc] at h
  have hT := takeT_vtext h hn
  have hd : b.drop (p + (vtext e.n).length) = vputP e.i ++ r := by rw [← List.drop_drop, h, List.drop_left]
  have hL := takeL_vput (p := p + (vtext e.n).length) (n := e.i.toNat) hd (by omega)
  have e1 : (p : Int) + ((vtext e.n).length : Int) = ((p + (vtext e.n).length : Nat) : Int) := by omega
  have e2 : ((e.i.toNat : Nat) : Int) = e.i := by omega
  rw [e1] at hT
  rw [e2] at hL
  unfold takeE1
  rw [hT]
  dsimp only
  rw [hL, if_neg (by simp), if_neg (by simp)]
  simp only [Prod.mk.injEq, and_true, true_and]
  have e3 : (entB e).length = (vtext e.n).length + (vput e.i.toNat).length := by simp [entB, vputP]
  rw [e3]
  omega
theorem takeCG_put {b : List UInt8} : ∀ (l : List En) (f p : Nat) (r : List UInt8), b.drop p = entsB l ++ r → (∀ e ∈ l, okI e ∧ e.n.length < 2 ^ 64) → l.length ≤ f → takeCG b f l.length (p : Int) = (l, ((p + (entsB l).length : Nat) : Int), 0)
  | [], f, p, r, _, _, _ => by
    cases f with
    | zero => simp [takeCG, entsB]
    | succ f => rw [takeCG, if_pos (by simp)]; simp [entsB]
  | e :: l, f, p, r, h, hn, hf => by
    obtain ⟨f, rfl⟩ : ∃ g, f = g + 1 := ⟨f - 1, by simp at hf; omega⟩
    obtain ⟨o1, o2⟩ := hn e (by simp)
    have hc : entsB (e :: l) = entB e ++ entsB l := by simp [entsB]
    rw [hc, List.append_assoc] at h
    have hE := takeE1_put h o1 o2
    have hd : b.drop (p + (entB e).length) = entsB l ++ r := by rw [← List.drop_drop, h, List.drop_left]
    have ih := takeCG_put l f _ r hd (fun m hm => hn m (by simp [hm])) (by simp at hf; omega)
    have hlen : (((e :: l).length : Nat) : Int) - 1 = (l.length : Int) := by simp
    rw [takeCG, if_neg (by simp only [List.length_cons]; omega), hE]
    dsimp only
    rw [hlen, ih, if_neg (by simp), if_neg (by simp), hc]
    simp only [List.length_append, Prod.mk.injEq, true_and, and_true]
    omega
theorem parse_put {l : List En} (hr : rightC l = true) (hi : ∀ e ∈ l, okI e) (hl : l.length < 2 ^ 64) : parseC (allC l) = (l, 0) := by
  have hn : ∀ e ∈ l, okI e ∧ e.n.length < 2 ^ 64 := fun e he => ⟨hi e he, by have := right_nm hr e he; omega⟩
  have hv : vputP (l.length : Int) = vput l.length := by unfold vputP; rw [Int.toNat_natCast]
  have h0 : (allC l).drop 0 = vput l.length ++ entsB l := by rw [List.drop_zero, allC, hv]
  have hL := takeL_vput (p := 0) h0 hl
  have hd : (allC l).drop (vput l.length).length = entsB l ++ [] := by rw [allC, hv, List.drop_left, List.append_nil]
  have hlen : (allC l).length = (vput l.length).length + (entsB l).length := by rw [allC, hv, List.length_append]
  have hp := entsB_pos l
  have hG := takeCG_put l ((allC l).length + 1) _ [] hd hn (by omega)
  have e1 : ((0 : Nat) : Int) + ((vput l.length).length : Int) = (((vput l.length).length : Nat) : Int) := by omega
  rw [e1] at hL
  unfold parseC
  rw [show (0 : Int) = ((0 : Nat) : Int) from rfl, hL, if_neg (by simp)]
  dsimp only
  rw [hG]
  unfold finC
  rw [if_neg (by simp), if_pos ⟨by rw [hlen], hr⟩]
  rfl

theorem takeT_inv {b : List UInt8} {q : Int} (h : (takeT b q).2.2 = 0) : ∃ k : Nat, q = (k : Int) ∧ (takeT b q).2.1 = ((k + (vtext (takeT b q).1).length : Nat) : Int) ∧ ∃ r, b.drop k = vtext (takeT b q).1 ++ r := by
  by_cases h1 : (takeL b q).2.2 = 0
  · obtain ⟨k, m, rfl, hm, hm2, hq, r, hr⟩ := take_pre h1
    have hp := vput_pos m
    have hl := (drop_len hr (by simp; omega)).2
    simp only [List.length_append] at hl
    by_cases h2 : (b.length : Int) - (takeL b (k : Int)).2.1 < (takeL b (k : Int)).1
    · unfold takeT at h
      rw [if_neg (by simpa using h1), if_pos h2] at h
      cases h
    · have hT : takeT b (k : Int) = (r.take m, ((k + (vput m).length : Nat) : Int) + (m : Int), 0) := by
        unfold takeT
        rw [if_neg (by simpa using h1), if_neg h2, hm, hq]
        have hd : b.drop (k + (vput m).length) = r := by rw [← List.drop_drop, hr, List.drop_left]
        rw [Int.toNat_natCast, Int.toNat_natCast, hd]
      rw [hm, hq] at h2
      have hrm : m ≤ r.length := by omega
      have hvt : vtext (r.take m) = vput m ++ r.take m := by unfold vtext; rw [List.length_take, Nat.min_eq_left hrm]
      rw [hT]
      dsimp only
      refine ⟨k, rfl, ?_, r.drop m, ?_⟩
      · rw [hvt, List.length_append, List.length_take, Nat.min_eq_left hrm]; omega
      · rw [hvt, List.append_assoc, List.take_append_drop, hr]
  · unfold takeT at h
    rw [if_pos h1] at h
    exact absurd h h1
theorem takeE1_inv {b : List UInt8} {q : Int} (h : (takeE1 b q).2.2 = 0) : ∃ k : Nat, q = (k : Int) ∧ (takeE1 b q).2.1 = ((k + (entB (takeE1 b q).1).length : Nat) : Int) ∧ okI (takeE1 b q).1 ∧ ∃ r, b.drop k = entB (takeE1 b q).1 ++ r := by
  by_cases h1 : (takeT b q).2.2 = 0
  · by_cases h2 : (takeL b (takeT b q).2.1).2.2 = 0
    · have hE : takeE1 b q = (⟨(takeT b q).1, (takeL b (takeT b q).2.1).1⟩, (takeL b (takeT b q).2.1).2.1, 0) := by
        unfold takeE1; rw [if_neg (by simpa using h1), if_neg (by simpa using h2)]
      obtain ⟨k, rfl, ht, r, hr⟩ := takeT_inv h1
      obtain ⟨k2, m, hk2, hm, hm2, hq, r2, hr2⟩ := take_pre h2
      rw [ht] at hk2
      have hk : k2 = k + (vtext (takeT b (k : Int)).1).length := by omega
      have hb : entB ⟨(takeT b (k : Int)).1, (takeL b (takeT b (k : Int)).2.1).1⟩ = vtext (takeT b (k : Int)).1 ++ vput m := by
        unfold entB vputP; rw [hm, Int.toNat_natCast]
      rw [hE]
      dsimp only
      rw [hb]
      refine ⟨k, rfl, ?_, ⟨?_, ?_⟩, r2, ?_⟩
      · rw [hq, hk, List.length_append]; congr 1; omega
      · show 0 ≤ (takeL b (takeT b (k : Int)).2.1).1; omega
      · show (takeL b (takeT b (k : Int)).2.1).1 ≤ 18446744073709551615; omega
      · have hd : b.drop k2 = r := by rw [hk, ← List.drop_drop, hr, List.drop_left]
        rw [hr2] at hd
        rw [List.append_assoc, hd, hr]
    · unfold takeE1 at h
      rw [if_neg (by simpa using h1), if_pos h2] at h
      exact absurd h h2
  · unfold takeE1 at h
    rw [if_pos h1] at h
    exact absurd h h1
theorem takeCG_inv {b : List UInt8} : ∀ (f : Nat) (n : Int) (k : Nat), (takeCG b f n (k : Int)).2.2 = 0 → 0 ≤ n → k ≤ b.length → b.length < f + k →
    ((takeCG b f n (k : Int)).1.length : Int) = n ∧ (takeCG b f n (k : Int)).2.1 = ((k + (entsB (takeCG b f n (k : Int)).1).length : Nat) : Int) ∧ (∀ e ∈ (takeCG b f n (k : Int)).1, okI e) ∧ ∃ r, b.drop k = entsB (takeCG b f n (k : Int)).1 ++ r
  | 0, n, k, h, hn, hk, hf => by omega
  | f + 1, n, k, h, hn, hk, hf => by
    by_cases h0 : n ≤ 0
    · have hC : takeCG b (f + 1) n (k : Int) = ([], (k : Int), 0) := by rw [takeCG, if_pos h0]
      rw [hC]
      refine ⟨by simp; omega, by simp [entsB], fun e he => (by cases he), b.drop k, by simp [entsB]⟩
    · by_cases h1 : (takeE1 b (k : Int)).2.2 = 0
      · by_cases h2 : (takeCG b f (n - 1) (takeE1 b (k : Int)).2.1).2.2 = 0
        · have hC : takeCG b (f + 1) n (k : Int) = ((takeE1 b (k : Int)).1 :: (takeCG b f (n - 1) (takeE1 b (k : Int)).2.1).1, (takeCG b f (n - 1) (takeE1 b (k : Int)).2.1).2.1, 0) := by
            rw [takeCG, if_neg h0, if_neg (by simpa using h1), if_neg (by simpa using h2)]
          obtain ⟨k', hk', he, ho, r, hr⟩ := takeE1_inv h1
          have : k' = k := by omega
          subst this
          have hp := entB_pos (takeE1 b (k' : Int)).1
          have hl := (drop_len hr (by simp; omega)).2
          simp only [List.length_append] at hl
          rw [he] at h2 hC
          obtain ⟨g1, g2, g3, r2, g4⟩ := takeCG_inv f (n - 1) _ h2 (by omega) (by omega) (by omega)
          rw [hC]
          generalize takeCG b f (n - 1) _ = R at *
          generalize takeE1 b (k' : Int) = E at *
          have hc : entsB (E.1 :: R.1) = entB E.1 ++ entsB R.1 := by simp [entsB]
          dsimp only
          rw [hc]
          refine ⟨by simp; omega, ?_, fun e hh => ?_, r2, ?_⟩
          · rw [g2, List.length_append]; congr 1; omega
          · rcases List.mem_cons.1 hh with rfl | hh
            · exact ho
            · exact g3 e hh
          · have hd : b.drop (k' + (entB E.1).length) = r := by rw [← List.drop_drop, hr, List.drop_left]
            rw [g4] at hd
            rw [List.append_assoc, hd, hr]
        · rw [takeCG, if_neg h0, if_neg (by simpa using h1), if_pos h2] at h
          exact absurd h h2
      · rw [takeCG, if_neg h0, if_pos h1] at h
        exact absurd h h1
/-- What is read was written so. -/
theorem put_parse {b : List UInt8} (h : (parseC b).2 = 0) : rightC (parseC b).1 = true ∧ allC (parseC b).1 = b ∧ (∀ e ∈ (parseC b).1, okI e) ∧ (parseC b).1.length ≤ b.length := by
  by_cases h0 : (takeL b 0).2.2 = 0
  · have hP : parseC b = finC b (takeCG b (b.length + 1) (takeL b 0).1 (takeL b 0).2.1) := by unfold parseC; rw [if_neg (by simpa using h0)]
    obtain ⟨k, m, hk, hm, hm2, hq, r, hr⟩ := take_pre h0
    have : k = 0 := by omega
    subst this
    rw [List.drop_zero] at hr
    have hbl := congrArg List.length hr
    simp only [List.length_append] at hbl
    have e1 : ((0 + (vput m).length : Nat) : Int) = (((vput m).length : Nat) : Int) := by omega
    rw [hm, hq, e1] at hP
    rw [hP] at h ⊢
    by_cases h1 : (takeCG b (b.length + 1) (m : Int) (((vput m).length : Nat) : Int)).2.2 = 0
    · obtain ⟨g1, g2, g3, r2, g4⟩ := takeCG_inv (b.length + 1) (m : Int) _ h1 (by omega) (by omega) (by omega)
      generalize takeCG b (b.length + 1) (m : Int) _ = R at *
      by_cases h2 : R.2.1 = b.length ∧ rightC R.1 = true
      · have hF : finC b R = (R.1, 0) := by unfold finC; rw [if_neg (by simpa using h1), if_pos h2]
        rw [hF]
        obtain ⟨h3, h4⟩ := h2
        have hr2 : b.drop (vput m).length = r := by rw [hr, List.drop_left]
        rw [g4] at hr2
        have hr2l := congrArg List.length hr2
        simp only [List.length_append] at hr2l
        have : r2 = [] := List.eq_nil_of_length_eq_zero (by omega)
        subst this
        rw [List.append_nil] at hr2
        have hp := entsB_pos R.1
        refine ⟨h4, ?_, g3, by dsimp only; omega⟩
        show vputP (R.1.length : Int) ++ entsB R.1 = b
        rw [g1, hr2]
        unfold vputP
        rw [Int.toNat_natCast, ← hr]
      · unfold finC at h
        rw [if_neg (by simpa using h1), if_neg h2] at h
        cases h
    · unfold finC at h
      rw [if_pos h1] at h
      exact absurd h h1
  · unfold parseC at h
    rw [if_pos h0] at h
    exact absurd h h0
theorem parse_len (b : List UInt8) : (parseC b).1.length ≤ b.length := by
  by_cases h : (parseC b).2 = 0
  · exact (put_parse h).2.2.2
  · unfold parseC finC at h ⊢
    split
    · simp
    · rename_i h1
      rw [if_neg h1] at h
      split
      · simp
      · rename_i h2
        rw [if_neg h2] at h
        split
        · rename_i h3; rw [if_pos h3] at h; exact absurd rfl h
        · simp

end Go.Proofs.Ytfpmjcdcpicmaaa.Ab
