/- Edits brought together two by two: plain laws. -/
import Derived.Test.YtcgllachkjnlgaaD11
namespace Go.Proofs.Ytcgllachkjnlgaa.Ab
open Go Go.RowKit R
set_option linter.unusedVariables false
set_option linter.unusedSimpArgs false
set_option maxHeartbeats 4000000
set_option maxRecDepth 100000

/-- The first two edits that may be brought together, or changed about, are. -/
def mergeL : List Ed → Option (List Ed)
  | a :: b :: l => if a.k = b.k then some (⟨a.k, a.n + b.n, a.t ++ b.t⟩ :: l) else if a.k = 3 ∧ b.k = 2 then some (b :: a :: l) else (mergeL (b :: l)).map (a :: ·)
  | _ => none

def okE (e : Ed) : Prop := (e.k = 2 ∧ e.n = 0 ∧ e.t ≠ []) ∨ ((e.k = 1 ∨ e.k = 3) ∧ 1 ≤ e.n ∧ e.t = [])
theorem k_nat {e : Ed} {c : Nat} (hc : c < 256) : (e.k.toNat : Int) = (c : Int) ↔ e.k = c.toUInt8 := by
  constructor
  · intro h
    refine UInt8.toNat_inj.1 ?_
    have : c.toUInt8.toNat = c := by simp [Nat.toUInt8]; omega
    omega
  · intro h
    rw [h]
    have : c.toUInt8.toNat = c := by simp [Nat.toUInt8]; omega
    omega
theorem okE_of {e : Ed} (h : rightE e = true) : okE e := by
  unfold rightE rightI at h
  split at h
  · rename_i h2
    have h2' : e.k = 2 := UInt8.toNat_inj.1 (show e.k.toNat = 2 by omega)
    simp only [Bool.and_eq_true, decide_eq_true_eq] at h
    exact .inl ⟨h2', h.1, by rintro e; rw [e] at h; simp at h⟩
  · simp only [Bool.and_eq_true, Bool.or_eq_true, decide_eq_true_eq] at h
    refine .inr ⟨?_, h.1.1.2, List.eq_nil_of_length_eq_zero h.2⟩
    rcases h.1.1.1 with h1 | h1
    · exact .inl (UInt8.toNat_inj.1 (show e.k.toNat = 1 by omega))
    · exact .inr (UInt8.toNat_inj.1 (show e.k.toNat = 3 by omega))

/-- Where two edits are brought together. -/
theorem mergeL_some {l l' : List Ed} (h : mergeL l = some l') : ∃ pre a b post, l = pre ++ a :: b :: post ∧
    ((a.k = b.k ∧ l' = pre ++ ⟨a.k, a.n + b.n, a.t ++ b.t⟩ :: post) ∨ (a.k = 3 ∧ b.k = 2 ∧ l' = pre ++ b :: a :: post)) := by
  induction l generalizing l' with
  | nil => cases h
  | cons a l ih =>
    cases l with
    | nil => cases h
    | cons b l =>
      unfold mergeL at h
      split at h
      · rename_i hk
        cases h
        exact ⟨[], a, b, l, rfl, .inl ⟨hk, rfl⟩⟩
      · split at h
        · rename_i hk
          cases h
          exact ⟨[], a, b, l, rfl, .inr ⟨hk.1, hk.2, rfl⟩⟩
        · obtain ⟨m, hm, rfl⟩ := Option.map_eq_some_iff.1 h
          obtain ⟨pre, x, y, post, h1, h2⟩ := ih hm
          refine ⟨a :: pre, x, y, post, by rw [h1]; rfl, ?_⟩
          rcases h2 with ⟨h2, rfl⟩ | ⟨h2, h3, rfl⟩
          · exact .inl ⟨h2, rfl⟩
          · exact .inr ⟨h2, h3, rfl⟩

theorem mergeL_none_snoc {p : List Ed} {e : Ed} (h : mergeL (p ++ [e]) = none) : mergeL p = none ∧ ∀ x, p.getLast? = some x → x.k ≠ e.k ∧ ¬ (x.k = 3 ∧ e.k = 2) := by
  induction p with
  | nil => exact ⟨rfl, fun x hx => by simp at hx⟩
  | cons a p ih =>
    cases p with
    | nil =>
      refine ⟨rfl, fun x hx => ?_⟩
      simp only [List.getLast?_singleton, Option.some.injEq] at hx
      subst hx
      simp only [List.singleton_append, List.cons_append, List.nil_append, mergeL] at h
      split at h
      · cases h
      · rename_i h1
        split at h
        · cases h
        · rename_i h2; exact ⟨h1, h2⟩
    | cons b p =>
      simp only [List.cons_append, mergeL] at h
      split at h
      · cases h
      · rename_i h1
        split at h
        · cases h
        · rename_i h2
          have h' : mergeL (b :: p ++ [e]) = none := by simpa using h
          obtain ⟨i1, i2⟩ := ih h'
          refine ⟨?_, fun x hx => i2 x (by simpa using hx)⟩
          simp only [mergeL, if_neg h1, if_neg h2, i1, Option.map_none]

/-! ### The normal form stays -/

theorem runE_nil : runE [] 0 = [] := rfl
theorem normStep_two {s : List Ed × List UInt8 × Int} {a b : Ed} (ha : okE a) (hb : okE b) (hk : a.k = b.k) : normStep (normStep s a) b = normStep s ⟨a.k, a.n + b.n, a.t ++ b.t⟩ := by
  obtain ⟨o, t, n⟩ := s
  rcases ha with ⟨h1, h2, h3⟩ | ⟨h1 | h1, h2, h3⟩
  · have hb1 : b.k = 2 := by rw [← hk, h1]
    simp [normStep, h1, hb1]
  · have hb1 : b.k = 1 := by rw [← hk, h1]
    have hbt : b.t = [] := by rcases hb with ⟨h, _⟩ | ⟨_, _, h⟩; rw [hb1] at h; cases h; exact h
    cases a with | mk ak an at' =>
    simp only at h1 h3
    subst h1 h3
    simp only [normStep, hb1, hbt]
    rcases List.eq_nil_or_concat (o ++ runE t n) with h0 | ⟨pre, e0, h0⟩
    · simp [h0, runE_nil]
    · rw [h0]
      by_cases he : e0.k = 1
      · simp [he, runE_nil, Int.add_assoc]
      · simp [he, runE_nil]
  · have hb1 : b.k = 3 := by rw [← hk, h1]
    simp [normStep, h1, hb1, Int.add_assoc]
theorem normStep_swap {s : List Ed × List UInt8 × Int} {a b : Ed} (ha : a.k = 3) (hb : b.k = 2) : normStep (normStep s a) b = normStep (normStep s b) a := by
  simp [normStep, ha, hb]
theorem normF_cut (p : List Ed) (q : List Ed) : normF (p ++ q) = q.foldl normStep (normF p) := by unfold normF; rw [List.foldl_append]
theorem norm_merge {l l' : List Ed} (hl : ∀ e ∈ l, okE e) (h : mergeL l = some l') : normOut l' = normOut l ∧ ∀ e ∈ l', okE e := by
  obtain ⟨pre, a, b, post, rfl, hc⟩ := mergeL_some h
  clear h
  have ha := hl a (by simp)
  have hb := hl b (by simp)
  rcases hc with ⟨hk, rfl⟩ | ⟨h3, h2, rfl⟩
  · refine ⟨?_, ?_⟩
    · have : normF (pre ++ ⟨a.k, a.n + b.n, a.t ++ b.t⟩ :: post) = normF (pre ++ a :: b :: post) := by
        rw [normF_cut, normF_cut]
        simp only [List.foldl_cons]
        rw [normStep_two ha hb hk]
      unfold normOut
      rw [this]
    · intro e he
      rcases List.mem_append.1 he with he | he
      · exact hl e (by simp [he])
      · rcases List.mem_cons.1 he with rfl | he
        · rcases ha with ⟨h1, h2, h3⟩ | ⟨h1, h2, h3⟩
          · rcases hb with ⟨g1, g2, g3⟩ | ⟨g1, g2, g3⟩
            · exact .inl ⟨h1, by simp [h2, g2], by simp [h3]⟩
            · rw [← hk, h1] at g1; rcases g1 with g | g <;> cases g
          · rcases hb with ⟨g1, g2, g3⟩ | ⟨g1, g2, g3⟩
            · rw [hk, g1] at h1; rcases h1 with g | g <;> cases g
            · exact .inr ⟨h1, by simp; omega, by simp [h3, g3]⟩
        · exact hl e (by simp [he])
  · refine ⟨?_, ?_⟩
    · have : normF (pre ++ b :: a :: post) = normF (pre ++ a :: b :: post) := by
        rw [normF_cut, normF_cut]
        simp only [List.foldl_cons]
        rw [normStep_swap h3 h2]
      unfold normOut
      rw [this]
    · intro e he
      refine hl e ?_
      simp only [List.mem_append, List.mem_cons] at he ⊢
      rcases he with h | h | h | h
      · exact .inl h
      · exact .inr (.inr (.inl h))
      · exact .inr (.inl h)
      · exact .inr (.inr (.inr h))

theorem snoc_ind {α : Type} {P : List α → Prop} (h0 : P []) (h1 : ∀ l a, P l → P (l ++ [a])) : ∀ l, P l := by
  intro l
  have : ∀ n (l : List α), l.length = n → P l := by
    intro n
    induction n with
    | zero => intro l hl; rw [List.eq_nil_of_length_eq_zero hl]; exact h0
    | succ n ih =>
      intro l hl
      rcases List.eq_nil_or_concat l with rfl | ⟨p, a, rfl⟩
      · exact h0
      · rw [List.concat_eq_append] at hl ⊢
        exact h1 p a (ih p (by simpa using hl))
  exact this _ l rfl

theorem norm_done {l : List Ed} : (∀ e ∈ l, okE e) → mergeL l = none → normOut l = l ∧ 0 ≤ (normF l).2.2 := by
  refine snoc_ind (P := fun l => (∀ e ∈ l, okE e) → mergeL l = none → normOut l = l ∧ 0 ≤ (normF l).2.2) ?_ ?_ l
  · intro _ _; exact ⟨rfl, Int.le_refl _⟩
  · intro p e ih hl hm
    obtain ⟨h1, h2⟩ := mergeL_none_snoc hm
    obtain ⟨i1, i2⟩ := ih (fun x hx => hl x (by simp [hx])) h1
    have he := hl e (by simp)
    unfold normOut at i1 ⊢
    rw [normF_snoc]
    generalize normF p = s at *
    obtain ⟨o, t, n⟩ := s
    simp only at i1 i2
    -- what is held is the last of what is there
    have hlast : ∀ x, (o ++ runE t n).getLast? = some x → x.k ≠ e.k ∧ ¬ (x.k = 3 ∧ e.k = 2) := fun x hx => h2 x (by rw [← i1]; exact hx)
    have hn3 : 0 < n → e.k = 1 := by
      intro hn
      have := hlast ⟨3, n, []⟩ (by simp [runE, hn])
      rcases he with ⟨g, _⟩ | ⟨g | g, _⟩
      · exact absurd ⟨rfl, g⟩ this.2
      · exact g
      · exact absurd g.symm this.1
    have ht2 : t ≠ [] → e.k ≠ 2 := by
      intro ht e2
      by_cases hn : 0 < n
      · have := hn3 hn; rw [this] at e2; cases e2
      · have := hlast ⟨2, 0, t⟩ (by simp [runE, hn, ht])
        exact this.1 e2.symm
    rcases he with ⟨g1, g2, g3⟩ | ⟨g1 | g1, g2, g3⟩
    · have hn : ¬ 0 < n := fun hn => by have := hn3 hn; rw [this] at g1; cases g1
      have ht : t = [] := Classical.byContradiction fun ht => ht2 ht g1
      subst ht
      have h0 : n = 0 := by omega
      subst h0
      simp only [normStep, g1, if_true]
      refine ⟨?_, Int.le_refl _⟩
      rw [runE_nil, List.append_nil] at i1
      rw [i1]
      cases e with | mk ek en et =>
      simp only at g1 g2 g3
      subst g1 g2
      simp [runE, g3]
    · have hk2 : ¬ e.k = 2 := by rw [g1]; decide
      have hk3 : ¬ e.k = 3 := by rw [g1]; decide
      simp only [normStep, if_neg hk2, if_neg hk3]
      refine ⟨?_, by simp⟩
      rw [i1, runE_nil, List.append_nil]
      cases hgl : p.getLast? with
      | none =>
        have : p = [] := List.getLast?_eq_none_iff.1 hgl
        subst this; rfl
      | some x =>
        have : ¬ x.k = 1 := fun h => (h2 x hgl).1 (by rw [h, g1])
        simp [this]
    · have hk2 : ¬ e.k = 2 := by rw [g1]; decide
      have hn : ¬ 0 < n := fun hn => by have := hn3 hn; rw [this] at g1; cases g1
      have h0 : n = 0 := by omega
      subst h0
      simp only [normStep, if_neg hk2, if_pos g1]
      refine ⟨?_, by simp; omega⟩
      have hr : runE t (0 + e.n) = runE t 0 ++ [e] := by
        cases e with | mk ek en et =>
        simp only at g1 g2 g3
        subst g1 g3
        have : 0 < en := by omega
        simp [runE, this]
      rw [hr, ← List.append_assoc, i1]

/-- The merging ends. -/
def mu : List Ed → Nat
  | [] => 0
  | a :: l => 1 + (if a.k = 3 then l.countP (fun b => b.k = 2) else 0) + mu l
theorem mu_append (p q : List Ed) : mu (p ++ q) = mu p + p.countP (fun b => b.k = 3) * q.countP (fun b => b.k = 2) + mu q := by
  induction p with
  | nil => simp [mu]
  | cons a p ih =>
    simp only [List.cons_append, mu, ih, List.countP_append, List.countP_cons]
    by_cases h : a.k = 3
    · simp [h, Nat.add_mul]; omega
    · simp [h]; omega
theorem mu_merge {l l' : List Ed} (h : mergeL l = some l') : mu l' < mu l := by
  obtain ⟨pre, a, b, post, rfl, hc⟩ := mergeL_some h
  clear h
  rcases hc with ⟨hk, rfl⟩ | ⟨h3, h2, rfl⟩
  · rw [mu_append, mu_append]
    have hc : List.countP (fun b => decide (b.k = 2)) ((⟨a.k, a.n + b.n, a.t ++ b.t⟩ : Ed) :: post) ≤ List.countP (fun b => decide (b.k = 2)) (a :: b :: post) := by
      simp only [List.countP_cons]; split <;> simp <;> omega
    have hm := Nat.mul_le_mul_left (pre.countP (fun b => b.k = 3)) hc
    have : mu ((⟨a.k, a.n + b.n, a.t ++ b.t⟩ : Ed) :: post) < mu (a :: b :: post) := by
      simp only [mu, List.countP_cons]
      by_cases h3 : a.k = 3
      · simp [h3, ← hk]; omega
      · simp [h3]; omega
    omega
  · rw [mu_append, mu_append]
    have hc : List.countP (fun b => decide (b.k = 2)) (b :: a :: post) = List.countP (fun b => decide (b.k = 2)) (a :: b :: post) := by
      simp only [List.countP_cons]; omega
    rw [hc]
    have : mu (b :: a :: post) < mu (a :: b :: post) := by
      simp [mu, h3, h2]; omega
    omega

end Go.Proofs.Ytcgllachkjnlgaa.Ab
