/- Chapter 14: plain laws: what is written is taken as it was; live ones; what is added may be removed. -/
import Derived.Test.YtfpmjcdcpicmaaaP15
import Derived.Test.YtfpmjcdcpicmaaaP16
import Derived.Test.YtfpmjcdcpicmaaaV2
namespace Go.Proofs.Ytfpmjcdcpicmaaa.Ab
open Go Go.RowKit R
set_option linter.unusedVariables false
set_option linter.unusedSimpArgs false
set_option maxHeartbeats 4000000
set_option maxRecDepth 100000

theorem takeAG_all {b : List UInt8} : ∀ (l : List Int) (p : Nat) (r : List UInt8), b.drop p = allL l ++ r → (∀ n ∈ l, okN n) → takeAG b l.length (p : Int) = (l, ((p + (allL l).length : Nat) : Int), 0)
  | [], p, r, _, _ => by simp [takeAG, allL]
  | n :: l, p, r, h, hn => by
    obtain ⟨o1, o2⟩ := hn n (by simp)
    have hc : allL (n :: l) = vputP n ++ allL l := by simp [allL]
    rw [hc, List.append_assoc] at h
    have hL := takeL_vput (p := p) (n := n.toNat) h (by omega)
    have hd : b.drop (p + (vputP n).length) = allL l ++ r := by rw [← List.drop_drop, h, List.drop_left]
    have ih := takeAG_all l _ r hd fun m hm => hn m (by simp [hm])
    have e1 : (p : Int) + ((vput n.toNat).length : Int) = ((p + (vputP n).length : Nat) : Int) := by unfold vputP; omega
    have e2 : ((n.toNat : Nat) : Int) = n := by omega
    rw [e1, e2] at hL
    rw [List.length_cons, takeAG, hL]
    dsimp only
    rw [ih, if_neg (by simp), if_neg (by simp), hc]
    simp only [List.length_append, Prod.mk.injEq, true_and, and_true]
    omega
theorem pinB_pos (e : Pn) : 0 < (pinB e).length := by
  have := vput_pos e.i.toNat
  unfold pinB vputP
  simp only [List.length_append]
  omega
theorem pinsB_pos : ∀ l : List Pn, l.length ≤ (pinsB l).length
  | [] => by simp
  | e :: l => by
    have h1 := pinB_pos e
    have h2 := pinsB_pos l
    unfold pinsB at h2 ⊢
    simp only [List.flatMap_cons, List.length_append, List.length_cons]
    omega
theorem takePG_all {b : List UInt8} : ∀ (l : List Pn) (k p : Nat) (r : List UInt8), l.length ≤ k → b.drop p = pinsB l ++ r → (∀ e ∈ l, okP' e) → takePG b k (l.length : Int) (p : Int) = (l, ((p + (pinsB l).length : Nat) : Int), 0)
  | [], k, p, r, _, _, _ => by cases k <;> simp [takePG, pinsB]
  | e :: l, 0, p, r, hk, _, _ => absurd hk (by simp)
  | e :: l, k + 1, p, r, hk, h, ho => by
    have hc : pinsB (e :: l) = pinB e ++ pinsB l := by simp [pinsB]
    rw [hc, List.append_assoc] at h
    obtain ⟨o1, o2, o3⟩ := ho e (by simp)
    have hA := takeAG_all [e.i, e.v, e.u] p (pinsB l ++ r) (by rw [pinB_all]; exact h) (by
      intro n hn
      simp only [List.mem_cons, List.not_mem_nil, or_false] at hn
      rcases hn with rfl | rfl | rfl
      · exact o1
      · exact o2
      · exact o3)
    rw [pinB_all] at hA
    have hA : takeAG b 3 (p : Int) = ([e.i, e.v, e.u], ((p + (pinB e).length : Nat) : Int), 0) := hA
    have hd : b.drop (p + (pinB e).length) = pinsB l ++ r := by rw [← List.drop_drop, h, List.drop_left]
    have ih := takePG_all l k _ r (by simpa using hk) hd fun m hm => ho m (by simp [hm])
    have e1 : (((e :: l).length : Nat) : Int) - 1 = (l.length : Int) := by simp
    rw [takePG, if_neg (by simp only [List.length_cons]; omega), hA, e1]
    dsimp only
    rw [ih, if_neg (by simp), if_neg (by simp), hc]
    simp only [pnOf, List.length_append, Prod.mk.injEq, true_and, and_true]
    omega
theorem takeP_put {b : List UInt8} {p : Nat} {l : List Pn} {r : List UInt8} (h : b.drop p = putPs l ++ r) (ho : ∀ e ∈ l, okP' e) (hl : l.length < 2 ^ 64) (hr : riseP l = true) : takeP b (p : Int) = (l, ((p + (putPs l).length : Nat) : Int), 0) := by
  unfold putPs at h
  rw [List.append_assoc] at h
  have hv : vputP (l.length : Int) = vput l.length := by unfold vputP; rw [Int.toNat_natCast]
  rw [hv] at h
  have hL := takeL_vput (p := p) h hl
  have hd : b.drop (p + (vput l.length).length) = pinsB l ++ r := by rw [← List.drop_drop, h, List.drop_left]
  have hlen : l.length ≤ b.length + 1 := by
    have h1 := pinsB_pos l
    have h2 := congrArg List.length hd
    simp only [List.length_drop, List.length_append] at h2
    omega
  have hG := takePG_all l (b.length + 1) _ r hlen hd ho
  have e1 : (p : Int) + ((vput l.length).length : Int) = ((p + (vput l.length).length : Nat) : Int) := by omega
  rw [e1] at hL
  unfold takeP
  rw [hL]
  dsimp only
  rw [hG, if_neg (by simp), if_neg (by simp), if_neg (by simp [hr])]
  unfold putPs
  rw [hv]
  simp only [List.length_append, Prod.mk.injEq, true_and, and_true]
  omega

theorem riseP_pw (l : List Pn) : riseP l = true ↔ l.Pairwise (fun a b => a.i < b.i) := by
  rw [riseP_iff, List.pairwise_iff_getElem]
  constructor
  · intro h i j hi hj hij
    obtain ⟨k, rfl⟩ : ∃ k, j = i + 1 + k := ⟨j - (i + 1), by omega⟩
    clear hij
    induction k with
    | zero => exact h i hj
    | succ k ih =>
      have h1 := ih (by omega)
      have h2 := h (i + 1 + k) hj
      exact Int.lt_trans h1 h2
  · intro h k hk
    exact h k (k + 1) (by omega) hk (by omega)
theorem riseP_live {l : List Pn} (n s : Int) (h : riseP l = true) : riseP (liveL l n s) = true := by
  rw [riseP_pw] at h ⊢
  exact h.filter _
theorem live_live {l : List Pn} {n m s : Int} (h : n ≤ m) : liveL (liveL l n s) m s = liveL l m s := by
  unfold liveL
  rw [List.filter_filter]
  apply List.filter_congr
  intro e _
  unfold pastP pastB
  by_cases h1 : e.u + s < n
  · have h2 : e.u + s < m := by omega
    simp [h2]
  · simp [h1]
theorem riseP_fst {l : List Pn} {e : Pn} (h : riseP (l ++ [e]) = true) : riseP l = true := by
  rw [riseP_pw] at h ⊢
  exact (List.pairwise_append.1 h).1
theorem remL_last {e : Pn} : ∀ {l : List Pn}, (∀ x ∈ l, ¬ x.i = e.i) → remL e.i (l ++ [e]) = l
  | [], _ => by simp [remL]
  | x :: l, h => by
    have h1 := h x (by simp)
    have ih := remL_last (e := e) (l := l) fun y hy => h y (by simp [hy])
    simp only [List.cons_append, remL, if_neg h1, ih]
theorem rem_add {l : List Pn} {e : Pn} (h : riseP (l ++ [e]) = true) : remP (l ++ [e]) e.i = (l, 0) := by
  rw [riseP_pw] at h
  obtain ⟨_, _, h3⟩ := List.pairwise_append.1 h
  have hn : ∀ x ∈ l, ¬ x.i = e.i := fun x hx hh => by have := h3 x hx e (by simp); omega
  unfold remP
  rw [if_pos (by simp [hasI]), remL_last hn]

end Go.Proofs.Ytfpmjcdcpicmaaa.Ab
