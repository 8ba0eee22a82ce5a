/- The normal form does what the edits do; the difference makes the one text the other: plain laws. -/
import Derived.Test.YtcgllachkjnlgaaD17
import Derived.Test.YtcgllachkjnlgaaD15
namespace Go.Proofs.Ytcgllachkjnlgaa.Ab
open Go Go.RowKit R
set_option linter.unusedVariables false
set_option linter.unusedSimpArgs false
set_option maxHeartbeats 4000000
set_option maxRecDepth 100000

/-- What holds of edits, and stays as two are brought together, holds of the normal ones. -/
theorem norm_ind {P : List Ed → Prop} (step : ∀ l l', (∀ e ∈ l, okE e) → mergeL l = some l' → P l → P l') : ∀ (n : Nat) (l : List Ed), mu l ≤ n → (∀ e ∈ l, okE e) → P l →
    P (normOut l) ∧ (∀ e ∈ normOut l, okE e) ∧ mergeL (normOut l) = none ∧ normOut (normOut l) = normOut l := by
  intro n
  induction n with
  | zero =>
    intro l hn hl hp
    cases hm : mergeL l with
    | some l' => have := mu_merge hm; omega
    | none =>
      have := (norm_done hl hm).1
      rw [this]; exact ⟨hp, hl, hm, this⟩
  | succ n ih =>
    intro l hn hl hp
    cases hm : mergeL l with
    | some l' =>
      have h1 := mu_merge hm
      have h2 := norm_merge hl hm
      have := ih l' (by omega) h2.2 (step l l' hl hm hp)
      rw [h2.1] at this
      exact this
    | none =>
      have := (norm_done hl hm).1
      rw [this]; exact ⟨hp, hl, hm, this⟩

/-- How many bytes edits read and write, where each may be. -/
def fromE (e : Ed) : Int := if e.k = 2 then 0 else e.n
def toE (e : Ed) : Int := if e.k = 2 then e.t.length else if e.k = 3 then 0 else e.n
def fromL : List Ed → Int
  | [] => 0
  | e :: l => fromE e + fromL l
def toL : List Ed → Int
  | [] => 0
  | e :: l => toE e + toL l
def ttL : List Ed → Nat
  | [] => 0
  | e :: l => e.t.length + ttL l
theorem fromL_app (p q : List Ed) : fromL (p ++ q) = fromL p + fromL q := by
  induction p with
  | nil => simp [fromL]
  | cons e p ih => simp only [List.cons_append, fromL, ih]; omega
theorem toL_app (p q : List Ed) : toL (p ++ q) = toL p + toL q := by
  induction p with
  | nil => simp [toL]
  | cons e p ih => simp only [List.cons_append, toL, ih]; omega
theorem ttL_app (p q : List Ed) : ttL (p ++ q) = ttL p + ttL q := by
  induction p with
  | nil => simp [ttL]
  | cons e p ih => simp only [List.cons_append, ttL, ih]; omega
theorem ttL_mem {l : List Ed} {e : Ed} (h : e ∈ l) : e.t.length ≤ ttL l := by
  induction l with
  | nil => cases h
  | cons x l ih =>
    rcases List.mem_cons.1 h with rfl | h
    · simp [ttL]
    · have := ih h; simp [ttL]; omega
theorem ttL_le : ∀ {l : List Ed} {c : Nat}, (∀ e ∈ l, e.t.length ≤ c) → ttL l ≤ c * l.length
  | [], _, _ => by simp [ttL]
  | e :: l, c, h => by
    have := ttL_le (l := l) fun x hx => h x (by simp [hx])
    have := h e (by simp)
    simp only [ttL, List.length_cons, Nat.mul_add, Nat.mul_one]; omega
theorem tn_mem {l : List Ed} (hl : ∀ e ∈ l, okE e) {e : Ed} (h : e ∈ l) : e.n ≤ tn l := by
  induction l with
  | nil => cases h
  | cons x l ih =>
    have h0 := tn_nonneg (l := l) fun y hy => hl y (by simp [hy])
    have h1 := okE_n (hl x (by simp))
    rcases List.mem_cons.1 h with rfl | h
    · simp only [tn]; omega
    · have := ih (fun y hy => hl y (by simp [hy])) h; simp only [tn]; omega
theorem sizesL_eq : ∀ {l : List Ed}, rightL l = true → sizesL l = (fromL l, toL l)
  | [], _ => rfl
  | e :: l, h => by
    unfold rightL at h
    simp only [List.all_cons, Bool.and_eq_true] at h
    have ih := sizesL_eq (l := l) h.2
    have he : sizesE e = (fromE e, toE e) := by
      have h2 : ((e.k.toNat : Int) = 2) = (e.k = 2) := propext (k_nat (c := 2) (by omega))
      have h3 : ((e.k.toNat : Int) = 3) = (e.k = 3) := propext (k_nat (c := 3) (by omega))
      unfold sizesE sizesI
      rw [if_neg (by rw [show rightI e.k.toNat e.n e.t = true from h.1]; simp)]
      simp only [fromE, toE, h2, h3]
      split
      · rfl
      · split <;> rfl
    simp only [sizesL, ih, he, fromL, toL]

/-- What stays as two edits are brought together. -/
structure Keep (l0 l : List Ed) : Prop where
  fr : fromL l = fromL l0
  to : toL l = toL l0
  tt : ttL l = ttL l0
  tn : Ab.tn l = Ab.tn l0
  len : l.length ≤ l0.length
  out : ∀ base, outL base l = outL base l0
theorem outL_cong (pre : List Ed) {p q : List Ed} (h : ∀ base, outL base p = outL base q) : ∀ base, outL base (pre ++ p) = outL base (pre ++ q) := by
  induction pre with
  | nil => exact h
  | cons e pre ih => intro base; simp only [List.cons_append, outL, ih]
theorem keep_step (l0 : List Ed) (l l' : List Ed) (hl : ∀ e ∈ l, okE e) (hm : mergeL l = some l') (h : Keep l0 l) : Keep l0 l' := by
  obtain ⟨pre, a, b, post, rfl, hc⟩ := mergeL_some hm
  clear hm
  have ha := hl a (by simp)
  have hb := hl b (by simp)
  obtain ⟨h1, h2, h3, h4, h5, h6⟩ := h
  simp only [fromL_app, toL_app, ttL_app, tn_append, fromL, toL, ttL, Ab.tn, List.length_append, List.length_cons] at h1 h2 h3 h4 h5
  have hna := okE_n ha
  have hnb := okE_n hb
  cases a with | mk ak an at' =>
  cases b with | mk bk bn bt =>
  simp only at hna hnb
  rcases hc with ⟨hk, rfl⟩ | ⟨hk3, hk2, rfl⟩
  · simp only at hk
    subst hk
    refine ⟨?_, ?_, ?_, ?_, ?_, ?_⟩
    · simp only [fromL_app, fromL, ← h1, fromE]; split <;> omega
    · simp only [toL_app, toL, ← h2, toE, List.length_append]
      split
      · omega
      · split <;> omega
    · simp only [ttL_app, ttL, ← h3, List.length_append]; omega
    · simp only [tn_append, Ab.tn, ← h4, List.length_append]; omega
    · simp only [List.length_append, List.length_cons]; omega
    · intro base
      rw [← h6 base]
      refine outL_cong pre (fun base => ?_) base
      have e1 : (an + bn).toNat = an.toNat + bn.toNat := by omega
      simp only [outL, e1]
      split
      · rw [List.take_add, List.drop_drop, List.append_assoc]
      · split
        · rw [List.append_assoc]
        · rw [List.drop_drop]
  · simp only at hk3 hk2
    subst hk3 hk2
    refine ⟨?_, ?_, ?_, ?_, ?_, ?_⟩
    · simp only [fromL_app, fromL, ← h1]; omega
    · simp only [toL_app, toL, ← h2]; omega
    · simp only [ttL_app, ttL, ← h3]; omega
    · simp only [tn_append, Ab.tn, ← h4]; omega
    · simp only [List.length_append, List.length_cons]; omega
    · intro base
      rw [← h6 base]
      exact outL_cong pre (fun base => by simp [outL]) base

theorem norm_keep {l : List Ed} (hl : ∀ e ∈ l, okE e) : Keep l (normOut l) ∧ (∀ e ∈ normOut l, okE e) ∧ mergeL (normOut l) = none ∧ normOut (normOut l) = normOut l :=
  norm_ind (keep_step l) (mu l) l (Nat.le_refl _) hl ⟨rfl, rfl, rfl, rfl, Nat.le_refl _, fun _ => rfl⟩
theorem okE_all {l : List Ed} (h : rightL l = true) : ∀ e ∈ l, okE e := fun e he => okE_of (List.all_eq_true.1 h e he)
theorem right_of {e : Ed} (h : okE e) (hn : e.n ≤ 2147483647) : rightE e = true := by
  have h2 : ((e.k.toNat : Int) = 2) = (e.k = 2) := propext (k_nat (c := 2) (by omega))
  have h3 : ((e.k.toNat : Int) = 3) = (e.k = 3) := propext (k_nat (c := 3) (by omega))
  have h1 : ((e.k.toNat : Int) = 1) = (e.k = 1) := propext (k_nat (c := 1) (by omega))
  unfold rightE rightI
  simp only [h1, h2, h3]
  rcases h with ⟨h, h', h''⟩ | ⟨h, h', h''⟩
  · rw [if_pos h]
    have : 0 < e.t.length := List.length_pos_iff.2 h''
    simp [h', this]
  · have : ¬ e.k = 2 := by rcases h with h | h <;> rw [h] <;> decide
    rw [if_neg this]
    simp [h, h', h'', hn]

/-- The normal form of what may be, where it may be: it is its own, and does as much. -/
theorem normal_ok {l : List Ed} (h : (normal l).2 = 0) : rightL l = true ∧ (normal l).1 = normOut l ∧ rightL (normOut l) = true := by
  unfold normal at h ⊢
  split at h
  · cases h
  · rename_i h1
    split at h
    · cases h
    · rename_i h2
      rw [if_neg h1, if_neg h2]
      exact ⟨by simpa using h1, rfl, by simpa using h2⟩
theorem normal_again {l : List Ed} (h : (normal l).2 = 0) : normal (normal l).1 = ((normal l).1, 0) := by
  obtain ⟨h1, h2, h3⟩ := normal_ok h
  have := (norm_keep (okE_all h1)).2.2.2
  rw [h2]
  unfold normal
  rw [this, h3]
  simp
theorem normal_sizes {l : List Ed} (h : (normal l).2 = 0) : sizesL (normal l).1 = sizesL l := by
  obtain ⟨h1, h2, h3⟩ := normal_ok h
  have := (norm_keep (okE_all h1)).1
  rw [h2, sizesL_eq h3, sizesL_eq h1, this.fr, this.to]
theorem normal_apply {l : List Ed} (h : (normal l).2 = 0) (base : List UInt8) : applyL base (normal l).1 = applyL base l := by
  obtain ⟨h1, h2, h3⟩ := normal_ok h
  have := (norm_keep (okE_all h1)).1
  have hs := normal_sizes h
  unfold applyL
  rw [hs, h2, h1, h3, this.out]
theorem normal_le {l : List Ed} (h : (normal l).2 = 0) : (normal l).1.length ≤ l.length := by
  obtain ⟨h1, h2, h3⟩ := normal_ok h
  rw [h2]
  exact (norm_keep (okE_all h1)).1.len
theorem normal_tt {l : List Ed} (h : (normal l).2 = 0) : ttL (normal l).1 = ttL l := by
  obtain ⟨h1, h2, h3⟩ := normal_ok h
  rw [h2]
  exact (norm_keep (okE_all h1)).1.tt
/-- What is applied has as many bytes as the sizes tell. -/
theorem outL_sizes : ∀ {l : List Ed} {base : List UInt8}, (∀ e ∈ l, okE e) → fromL l = base.length → ((outL base l).length : Int) = toL l
  | [], base, _, h => by simp [outL, toL]
  | e :: l, base, hl, h => by
    have hl' : ∀ x ∈ l, okE x := fun x hx => hl x (by simp [hx])
    have he := hl e (by simp)
    have hn := okE_n he
    have hpos : 0 ≤ fromL l := by
      clear h
      revert hl'
      induction l with
      | nil => intro _; simp [fromL]
      | cons y l ih =>
        intro hl'
        have := ih (fun x hx => hl x (by rcases List.mem_cons.1 hx with h | h <;> simp [h])) (fun x hx => hl' x (by simp [hx]))
        have := okE_n (hl' y (by simp))
        simp only [fromL, fromE]
        split <;> omega
    simp only [fromL, fromE] at h
    simp only [outL, toL, toE]
    rcases he with ⟨h1, h2, h3⟩ | ⟨h1 | h1, h2, h3⟩
    · rw [if_pos h1] at h
      have := outL_sizes (l := l) (base := base) hl' (by omega)
      simp [h1]; omega
    · rw [if_neg (by rw [h1]; decide)] at h
      have := outL_sizes (l := l) (base := base.drop e.n.toNat) hl' (by simp; omega)
      simp [h1]; omega
    · rw [if_neg (by rw [h1]; decide)] at h
      have := outL_sizes (l := l) (base := base.drop e.n.toNat) hl' (by simp; omega)
      simp [h1]; omega
theorem applyL_zero {l : List Ed} {base : List UInt8} : (applyL base l).2 = 0 ↔ rightL l = true ∧ (sizesL l).1 = base.length := by
  unfold applyL
  split
  · rename_i h; simp [h]
  · rename_i h; simp [h]
theorem applyL_len {l : List Ed} {base : List UInt8} (h : (applyL base l).2 = 0) : ((applyL base l).1.length : Int) = (sizesL l).2 := by
  have := applyL_zero.1 h
  unfold applyL
  rw [if_pos this]
  rw [sizesL_eq this.1] at this ⊢
  exact outL_sizes (okE_all this.1) this.2

/-! ### The difference -/

theorem lcp_take : ∀ a b : List UInt8, a.take (lcp a b) = b.take (lcp a b)
  | x :: a, y :: b => by
    unfold lcp
    split
    · rename_i h; rw [List.take_succ_cons, List.take_succ_cons, lcp_take a b, h]
    · simp
  | [], _ => by simp [lcp]
  | _ :: _, [] => by simp [lcp]
theorem head_take (a b : List UInt8) : a.take (headN a b) = b.take (headN a b) := lcp_take a b
theorem tail_drop (a b : List UInt8) : a.drop (a.length - tailN a b) = b.drop (b.length - tailN a b) := by
  have hl := tail_le a b
  have h := lcp_take (a.drop (lcp a b)).reverse (b.drop (lcp a b)).reverse
  unfold tailN headN at *
  generalize lcp (a.drop (lcp a b)).reverse (b.drop (lcp a b)).reverse = t at *
  generalize lcp a b = n at *
  have h1 := congrArg List.reverse h
  rw [List.reverse_take, List.reverse_take, List.reverse_reverse, List.reverse_reverse, List.drop_drop, List.drop_drop] at h1
  simp only [List.length_reverse, List.length_drop] at h1
  rw [show a.length - t = n + (a.length - n - t) from by omega, show b.length - t = n + (b.length - n - t) from by omega]
  exact h1

theorem out_keep (h : Nat) (base : List UInt8) (rest : List Ed) : outL base ((if 0 < h then [⟨1, (h : Int), []⟩] else []) ++ rest) = base.take h ++ outL (base.drop h) rest := by
  split
  · simp [outL]
  · have : h = 0 := by omega
    subst this; simp
theorem out_ins {c : Prop} [Decidable c] {w : List UInt8} (h : ¬ c → w = []) (base : List UInt8) (rest : List Ed) : outL base ((if c then [⟨2, 0, w⟩] else []) ++ rest) = w ++ outL base rest := by
  split
  · simp [outL]
  · rename_i hc; simp [h hc]
theorem out_drop {c : Prop} [Decidable c] {n : Int} (h : ¬ c → n.toNat = 0) (base : List UInt8) (rest : List Ed) : outL base ((if c then [⟨3, n, []⟩] else []) ++ rest) = outL (base.drop n.toNat) rest := by
  split
  · simp [outL]
  · rename_i hc; simp [h hc]
theorem rawDiff_out (a b : List UInt8) : outL a (rawDiff a b) = b := by
  have hl := tail_le a b
  have h1 := head_take a b
  have h2 := tail_drop a b
  unfold rawDiff
  rw [List.append_assoc, List.append_assoc, ← List.append_nil (if 0 < tailN a b then _ else _)]
  rw [out_keep, out_ins, out_drop, out_keep, h1]
  · simp only [outL, List.append_nil]
    rw [List.drop_drop, show headN a b + ((a.length : Int) - headN a b - tailN a b).toNat = a.length - tailN a b from by omega, h2]
    rw [List.take_of_length_le (l := List.drop (b.length - tailN a b) b) (by simp; omega)]
    have e1 : b.take (b.length - tailN a b) = b.take (headN a b) ++ (b.take (b.length - tailN a b)).drop (headN a b) := by
      have := List.take_append_drop (headN a b) (b.take (b.length - tailN a b))
      rw [List.take_take, Nat.min_eq_left (by omega)] at this
      exact this.symm
    rw [← List.append_assoc, ← e1, List.take_append_drop]
  · intro h; omega
  · intro h; rw [List.drop_eq_nil_iff]; simp; omega
theorem rawDiff_right (a b : List UInt8) (h : a.length ≤ 1000000 ∧ b.length ≤ 1000000) : rightL (rawDiff a b) = true := by
  have hl := tail_le a b
  unfold rightL
  rw [List.all_eq_true]
  intro e he
  unfold rawDiff at he
  simp only [List.mem_append] at he
  rcases he with ((he | he) | he) | he
  all_goals
    split at he
    · simp only [List.mem_singleton] at he
      subst he
      refine right_of ?_ (by simp; try omega)
      unfold okE
      dsimp only
      first
        | exact .inr ⟨.inl rfl, by omega, rfl⟩
        | exact .inr ⟨.inr rfl, by omega, rfl⟩
        | exact .inl ⟨rfl, rfl, by refine List.length_pos_iff.1 ?_; simp; omega⟩
    · cases he
theorem rawDiff_from (a b : List UInt8) : fromL (rawDiff a b) = a.length ∧ toL (rawDiff a b) = b.length ∧ ttL (rawDiff a b) ≤ b.length ∧ tn (rawDiff a b) ≤ 2 * a.length + b.length ∧ (rawDiff a b).length ≤ 4 := by
  have hl := tail_le a b
  unfold rawDiff
  simp only [fromL_app, toL_app, ttL_app, tn_append, List.length_append]
  refine ⟨?_, ?_, ?_, ?_, ?_⟩
  all_goals (repeat' split) <;> simp [fromL, fromE, toL, toE, ttL, tn] <;> omega

theorem diff_normal (a b : List UInt8) (h : a.length ≤ 1000000 ∧ b.length ≤ 1000000) : (normal (rawDiff a b)).2 = 0 := by
  have hr := rawDiff_right a b h
  have hk := norm_keep (okE_all hr)
  have hf := rawDiff_from a b
  have : rightL (normOut (rawDiff a b)) = true := by
    unfold rightL
    rw [List.all_eq_true]
    intro e he
    refine right_of (hk.2.1 e he) ?_
    have := tn_mem hk.2.1 he
    rw [hk.1.tn] at this
    omega
  unfold normal
  simp [hr, this]
theorem diff_again (a b : List UInt8) (h : a.length ≤ 1000000 ∧ b.length ≤ 1000000) : normal (diffL a b) = (diffL a b, 0) := normal_again (diff_normal a b h)
theorem diff_sizes (a b : List UInt8) (h : a.length ≤ 1000000 ∧ b.length ≤ 1000000) : sizesL (diffL a b) = ((a.length : Int), (b.length : Int)) := by
  unfold diffL
  rw [normal_sizes (diff_normal a b h), sizesL_eq (rawDiff_right a b h), (rawDiff_from a b).1, (rawDiff_from a b).2.1]
theorem diff_apply (a b : List UInt8) (h : a.length ≤ 1000000 ∧ b.length ≤ 1000000) : applyL a (diffL a b) = (b, 0) := by
  unfold diffL
  rw [normal_apply (diff_normal a b h)]
  unfold applyL
  rw [if_pos ⟨rawDiff_right a b h, by rw [sizesL_eq (rawDiff_right a b h), (rawDiff_from a b).1]⟩, rawDiff_out]
theorem diff_okP (a b : List UInt8) (h : a.length ≤ 1000000 ∧ b.length ≤ 1000000) : okP (diffL a b) := by
  have h0 := diff_normal a b h
  have h1 := normal_le h0
  have h2 := normal_tt h0
  have h3 := rawDiff_from a b
  refine ⟨?_, fun e he => ?_⟩
  · unfold diffL; omega
  · have := ttL_mem he
    unfold diffL at this
    omega
theorem diff_len (a b : List UInt8) (h : a.length ≤ 1000000 ∧ b.length ≤ 1000000) : (diffL a b).length ≤ 4 := by
  have h1 := normal_le (diff_normal a b h)
  have h3 := rawDiff_from a b
  unfold diffL; omega

end Go.Proofs.Ytcgllachkjnlgaa.Ab
