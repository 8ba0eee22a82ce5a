/- What Put wrote is read back; what is read was written so: numbers. -/
import Derived.Test.YtcgllachkjnlgaaD29
import Derived.Test.YtcgllachkjnlgaaD32
namespace Go.Proofs.Ytcgllachkjnlgaa.Ab
open Go Go.RowKit R
set_option linter.unusedVariables false
set_option linter.unusedSimpArgs false
set_option maxHeartbeats 4000000
set_option maxRecDepth 100000

theorem pow7 (i : Nat) : 2 ^ (7 * (i + 1)) = 128 * 2 ^ (7 * i) := by rw [Nat.mul_add, Nat.pow_add]; omega
theorem takeG_vput (rest : List UInt8) : ∀ (N n i acc : Nat), n ≤ N → n * 2 ^ (7 * i) < 2 ^ 64 → i ≤ 9 → (0 < n ∨ i = 0) → takeG (vput n ++ rest) i acc = (acc + n * 2 ^ (7 * i), i + (vput n).length, 0) := by
  intro N
  induction N with
  | zero =>
    intro n i acc hN h1 h2 h3
    have : n = 0 := by omega
    subst this
    have : i = 0 := by omega
    subst this
    rw [vput_small (by omega)]
    simp [takeG]
  | succ N ih =>
    intro n i acc hN h1 h2 h3
    by_cases hs : n < 128
    · rw [vput_small hs]
      have hc : n.toUInt8.toNat = n := by simp; omega
      simp only [List.singleton_append, takeG, hc]
      have hno : ¬ ((i = 9 ∧ 1 < n) ∨ (n = 0 ∧ 0 < i)) := by
        rintro (⟨rfl, h⟩ | ⟨h, h'⟩)
        · omega
        · omega
      rw [if_neg hno, if_pos hs, Nat.mod_eq_of_lt hs]
      rfl
    · rw [vput_big hs]
      have hc : (n % 128 + 128).toUInt8.toNat = n % 128 + 128 := by simp; omega
      simp only [List.cons_append, takeG, hc]
      have hi9 : ¬ i = 9 := by rintro rfl; omega
      have hno : ¬ ((i = 9 ∧ 1 < n % 128 + 128) ∨ (n % 128 + 128 = 0 ∧ 0 < i)) := by
        rintro (⟨h, _⟩ | ⟨h, _⟩)
        · exact hi9 h
        · omega
      have hp := pow7 i
      have hd : n = n % 128 + 128 * (n / 128) := by omega
      have hm : n * 2 ^ (7 * i) = n % 128 * 2 ^ (7 * i) + n / 128 * 2 ^ (7 * (i + 1)) := by
        rw [hp]
        calc n * 2 ^ (7 * i) = (n % 128 + 128 * (n / 128)) * 2 ^ (7 * i) := by rw [← hd]
          _ = n % 128 * 2 ^ (7 * i) + n / 128 * (128 * 2 ^ (7 * i)) := by rw [Nat.add_mul, Nat.mul_comm 128 (n / 128), Nat.mul_assoc]
      rw [if_neg hno, if_neg (by omega), show (n % 128 + 128) % 128 = n % 128 from by omega]
      rw [ih (n / 128) (i + 1) _ (by omega) (by omega) (by omega) (.inl (by omega))]
      simp only [List.length_cons, Prod.mk.injEq, and_true]
      omega
theorem take_vput (n : Nat) (rest : List UInt8) (h : n < 2 ^ 64) : takeG (vput n ++ rest) 0 0 = (n, (vput n).length, 0) := by
  have := takeG_vput rest n n 0 0 (Nat.le_refl _) (by simpa using h) (by omega) (.inr rfl)
  simpa using this
/-- What is read was written so. -/
theorem takeG_inv : ∀ (l pre : List UInt8), (∀ x ∈ pre, 128 ≤ x.toNat) → (takeG l pre.length (val pre)).2.2 = 0 → (pre ++ l).take (takeG l pre.length (val pre)).2.1 = vput (takeG l pre.length (val pre)).1
  | [], pre, _, h => by simp [takeG] at h
  | c :: l, pre, hp, h => by
    unfold takeG at h ⊢
    split at h
    · cases h
    · rename_i h0
      rw [if_neg h0]
      by_cases hs : c.toNat < 128
      · rw [if_pos hs]
        dsimp only
        rw [← val_snoc, vput_val pre c hp hs]
        · rw [show pre ++ c :: l = (pre ++ [c]) ++ l from by simp, show pre.length + 1 = (pre ++ [c]).length from by simp, List.take_left]
        · by_cases hc : c.toNat = 0
          · right
            have : ¬ 0 < pre.length := fun hh => h0 (.inr ⟨hc, hh⟩)
            exact List.eq_nil_of_length_eq_zero (by omega)
          · exact .inl hc
      · rw [if_neg hs] at h ⊢
        have e1 : pre.length + 1 = (pre ++ [c]).length := by simp
        rw [← val_snoc, e1] at h ⊢
        have := takeG_inv l (pre ++ [c]) (by
          intro x hx
          rcases List.mem_append.1 hx with hx | hx
          · exact hp x hx
          · simp only [List.mem_singleton] at hx; subst hx; omega) h
        rw [List.append_assoc, List.singleton_append] at this
        exact this
theorem take_inv {l : List UInt8} (h : (takeG l 0 0).2.2 = 0) : l.take (takeG l 0 0).2.1 = vput (takeG l 0 0).1 := takeG_inv l [] (by simp) h

end Go.Proofs.Ytcgllachkjnlgaa.Ab
/- What Put wrote is parsed as it was. -/
namespace Go.Proofs.Ytcgllachkjnlgaa.Ab
open Go Go.RowKit R
set_option linter.unusedVariables false
set_option linter.unusedSimpArgs false
set_option maxHeartbeats 4000000
set_option maxRecDepth 100000

theorem vput_pos (n : Nat) : 0 < (vput n).length := by
  by_cases h : n < 128
  · rw [vput_small h]; simp
  · rw [vput_big h]; simp
theorem drop_len {b r : List UInt8} {p : Nat} (h : b.drop p = r) (hr : 0 < r.length) : p < b.length ∧ b.length = p + r.length := by
  have := congrArg List.length h
  simp at this
  omega
theorem takeL_vput {b : List UInt8} {p n : Nat} {r : List UInt8} (h : b.drop p = vput n ++ r) (hn : n < 2 ^ 64) : takeL b p = ((n : Int), (p : Int) + ((vput n).length : Int), 0) := by
  have hp := vput_pos n
  have hl := (drop_len h (by simp; omega)).1
  unfold takeL
  rw [if_neg (by omega), Int.toNat_natCast, h, take_vput n r hn]
theorem takeT_vtext {b : List UInt8} {p : Nat} {s r : List UInt8} (h : b.drop p = vtext s ++ r) (hs : s.length < 2 ^ 64) : takeT b p = (s, (p : Int) + ((vtext s).length : Int), 0) := by
  unfold vtext at h ⊢
  rw [List.append_assoc] at h
  have hL := takeL_vput h hs
  have hp := vput_pos s.length
  have hl := (drop_len h (by simp; omega)).2
  simp only [List.length_append] at hl
  have hd : b.drop (p + (vput s.length).length) = s ++ r := by
    rw [← List.drop_drop, h, List.drop_left]
  unfold takeT
  rw [hL, if_neg (by simp), if_neg (by dsimp only; omega)]
  dsimp only
  rw [show ((p : Int) + ((vput s.length).length : Int)).toNat = p + (vput s.length).length from by omega, hd, Int.toNat_natCast, List.take_left]
  simp only [List.length_append, Prod.mk.injEq, true_and, and_true]
  omega
theorem takeE_put {b : List UInt8} {p : Nat} {e : Ed} {r : List UInt8} (h : b.drop p = putE e ++ r) (he : rightE e = true) (ht : e.t.length ≤ 1000000) : takeE b p = (e, (p : Int) + ((putE e).length : Int), 0) := by
  unfold putE at h ⊢
  rw [List.cons_append] at h
  have hl := (drop_len h (by simp)).1
  have hg : b.getD ((p : Int).toNat) 0 = e.k := by
    rw [Int.toNat_natCast, List.getD_eq_getElem?_getD, List.getElem?_eq_getElem hl]
    rw [List.drop_eq_getElem_cons hl] at h
    injection h with h _
  have hd : b.drop (p + 1) = (if e.k = 2 then vtext e.t else vput e.n.toNat) ++ r := by
    rw [List.drop_eq_getElem_cons hl] at h
    injection h with _ h
  have ho := okE_of he
  have hn : e.n ≤ 2147483647 := by
    unfold rightE rightI at he
    split at he <;> simp only [Bool.and_eq_true, decide_eq_true_eq] at he <;> omega
  unfold takeE
  rw [hg]
  have hc : (p : Int) + 1 = ((p + 1 : Nat) : Int) := by omega
  cases e with | mk k n t =>
  dsimp only at *
  rcases ho with ⟨h1, h2, h3⟩ | ⟨h1, h2, h3⟩
  · simp only at h1 h2 h3
    subst h1 h2
    rw [if_pos rfl] at hd
    unfold takeK
    rw [if_pos rfl, hc, takeT_vtext hd (by omega)]
    dsimp only
    rw [if_neg (by rw [he]; simp)]
    simp only [if_true, List.length_cons, Prod.mk.injEq, true_and, and_true]
    omega
  · simp only at h1 h2 h3
    subst h3
    have h22 : ¬ k = 2 := by rcases h1 with h | h <;> rw [h] <;> decide
    rw [if_neg h22] at hd ⊢
    unfold takeK
    rw [if_neg h22, if_pos h1, hc, takeL_vput hd (by omega)]
    dsimp only
    have hnn : (n.toNat : Int) = n := by omega
    rw [hnn, if_neg (by omega), if_neg (by rw [he]; simp)]
    simp only [List.length_cons, Prod.mk.injEq, true_and, and_true]
    omega

theorem parseG_put : ∀ (l : List Ed) (f : Nat) (b : List UInt8) (p : Nat), l.length < f → b.drop p = putB l → (∀ e ∈ l, rightE e = true ∧ e.t.length ≤ 1000000) → parseG f b p = (l, 0)
  | [], f, b, p, hf, h, _ => by
    obtain ⟨g, rfl⟩ : ∃ g, f = g + 1 := ⟨f - 1, by simp at hf; omega⟩
    have : b.length ≤ p := by
      have h : b.drop p = [] := h
      rwa [List.drop_eq_nil_iff] at h
    unfold parseG
    rw [if_pos (by omega)]
  | e :: l, f, b, p, hf, h, hl => by
    obtain ⟨g, rfl⟩ : ∃ g, f = g + 1 := ⟨f - 1, by simp at hf; omega⟩
    have h1 : b.drop p = putE e ++ putB l := h
    have hE := takeE_put h1 (hl e (by simp)).1 (hl e (by simp)).2
    have hpos : 0 < (putE e ++ putB l).length := by unfold putE; simp
    have hlt := (drop_len h1 hpos).1
    have hd : b.drop (p + (putE e).length) = putB l := by rw [← List.drop_drop, h1, List.drop_left]
    have ih := parseG_put l g b (p + (putE e).length) (by simp at hf; omega) hd fun x hx => hl x (by simp [hx])
    have hc : (p : Int) + ((putE e).length : Int) = ((p + (putE e).length : Nat) : Int) := by omega
    unfold parseG
    rw [if_neg (by omega), hE]
    dsimp only
    rw [hc, ih]
    simp
theorem putB_count : ∀ l : List Ed, l.length ≤ (putB l).length
  | [] => by simp
  | e :: l => by
    have := putB_count l
    unfold putB at this ⊢
    have h2 : 0 < (putE e).length := by unfold putE; simp
    simp only [List.flatMap_cons, List.length_append, List.length_cons]
    omega
/-- What Put wrote is parsed as it was. -/
theorem parse_put {l : List Ed} (h : (putL l).2 = 0) (hl : ∀ e ∈ l, e.t.length ≤ 1000000) : parseL (putL l).1 = (l, 0) := by
  unfold putL at h ⊢
  split at h
  · cases h
  · rename_i hr
    rw [if_neg hr]
    have hr : rightL l = true := by simpa using hr
    have hc := putB_count l
    exact parseG_put l _ (putB l) 0 (by dsimp only; omega) rfl fun e he => ⟨List.all_eq_true.1 hr e he, hl e he⟩

end Go.Proofs.Ytcgllachkjnlgaa.Ab
/- What is parsed was written so. -/
namespace Go.Proofs.Ytcgllachkjnlgaa.Ab
open Go Go.RowKit R
set_option linter.unusedVariables false
set_option linter.unusedSimpArgs false
set_option maxHeartbeats 4000000
set_option maxRecDepth 100000

theorem takeL_inv {b : List UInt8} {p : Nat} (h : (takeL b p).2.2 = 0) : b.drop p = vput (takeL b p).1.toNat ++ b.drop (takeL b p).2.1.toNat := by
  unfold takeL at h ⊢
  split at h
  · cases h
  · rename_i h0
    rw [if_neg h0]
    rw [Int.toNat_natCast] at h ⊢
    dsimp only at h ⊢
    have := take_inv h
    rw [Int.toNat_natCast, show ((p : Int) + ((takeG (b.drop p) 0 0).2.1 : Int)).toNat = p + (takeG (b.drop p) 0 0).2.1 from by omega, ← this, ← List.drop_drop, List.take_append_drop]
theorem takeT_inv {b : List UInt8} {p : Nat} (h : (takeT b p).2.2 = 0) : b.drop p = vtext (takeT b p).1 ++ b.drop (takeT b p).2.1.toNat := by
  obtain ⟨k1, k2, k3, k4, k5⟩ := takeL_ok b p
  unfold takeT at h ⊢
  split at h
  · rename_i h0; exact absurd h h0
  · rename_i h0
    rw [if_neg h0]
    split at h
    · cases h
    · rename_i h1
      rw [if_neg h1]
      have h0 : (takeL b p).2.2 = 0 := by simpa using h0
      have hk := k1 h0
      have hL := takeL_inv h0
      dsimp only
      generalize takeL b p = t at *
      obtain ⟨n, q, e⟩ := t
      dsimp only at *
      have hlen : ((b.drop q.toNat).take n.toNat).length = n.toNat := by simp; omega
      unfold vtext
      rw [hlen, hL, List.append_assoc, show (q + n).toNat = q.toNat + n.toNat from by omega, ← List.drop_drop, List.take_append_drop]
theorem takeE_inv {b : List UInt8} {p : Nat} (hp : p < b.length) (h : (takeE b p).2.2 = 0) : rightE (takeE b p).1 = true ∧ b.drop p = putE (takeE b p).1 ++ b.drop (takeE b p).2.1.toNat := by
  have hd := List.drop_eq_getElem_cons hp
  have hg : b.getD ((p : Int).toNat) 0 = b[p] := by simp [hp]
  have hc : (p : Int) + 1 = ((p + 1 : Nat) : Int) := by omega
  unfold takeE at h ⊢
  rw [hg] at h ⊢
  generalize b[p] = c at *
  unfold takeK at h ⊢
  rw [hc] at h ⊢
  split at h
  · rename_i h2
    rw [if_pos h2]
    dsimp only at h ⊢
    split at h
    · cases h
    · rename_i hr
      have hT := takeT_inv h
      refine ⟨?_, ?_⟩
      · cases hh : rightE ⟨2, 0, (takeT b ((p + 1 : Nat) : Int)).1⟩ with
        | true => rfl
        | false => exact absurd ⟨h, hh⟩ hr
      · unfold putE
        rw [if_pos rfl, hd, hT, h2]; rfl
  · rename_i h2
    rw [if_neg h2]
    split at h
    · rename_i h13
      rw [if_pos h13]
      split at h
      · cases h
      · rename_i hb
        rw [if_neg hb]
        dsimp only at h ⊢
        split at h
        · cases h
        · rename_i hr
          have hL := takeL_inv h
          refine ⟨?_, ?_⟩
          · cases hh : rightE ⟨c, (takeL b ((p + 1 : Nat) : Int)).1, []⟩ with
            | true => rfl
            | false => exact absurd ⟨h, hh⟩ hr
          · unfold putE
            rw [if_neg h2, hd, hL]; rfl
    · cases h
theorem parseG_inv : ∀ (f : Nat) (b : List UInt8) (p : Nat), p ≤ b.length → b.length < f + p → (parseG f b p).2 = 0 → rightL (parseG f b p).1 = true ∧ putB (parseG f b p).1 = b.drop p
  | 0, b, p, h1, h2, _ => by omega
  | f + 1, b, p, h1, h2, h => by
    unfold parseG at h ⊢
    split at h
    · rename_i hle
      rw [if_pos hle]
      exact ⟨rfl, (List.drop_eq_nil_iff.2 (by omega)).symm⟩
    · rename_i hle
      rw [if_neg hle]
      split at h
      · rename_i he; exact absurd h he
      · rename_i he
        rw [if_neg he]
        have he : (takeE b p).2.2 = 0 := by simpa using he
        obtain ⟨o1, o2, o3⟩ := takeE_ok he
        obtain ⟨i1, i2⟩ := takeE_inv (by omega) he
        obtain ⟨y, hy⟩ := Int.eq_ofNat_of_zero_le (show 0 ≤ (takeE b p).2.1 by omega)
        rw [hy] at h o2 o3 i2 ⊢
        split at h
        · rename_i hr; exact absurd h hr
        · rename_i hr
          rw [if_neg hr]
          obtain ⟨j1, j2⟩ := parseG_inv f b y (by omega) (by omega) (by simpa using hr)
          refine ⟨?_, ?_⟩
          · unfold rightL at j1 ⊢
            simp only [List.all_cons, i1, j1, Bool.and_self]
          · rw [i2, Int.toNat_natCast, ← j2]; rfl
/-- What is parsed was written so. -/
theorem put_parse {b : List UInt8} (h : (parseL b).2 = 0) : putL (parseL b).1 = (b, 0) := by
  obtain ⟨h1, h2⟩ := parseG_inv (b.length + 1) b 0 (by omega) (by omega) h
  unfold parseL putL
  have h1 : rightL (parseG (b.length + 1) b 0).1 = true := h1
  have h2 : putB (parseG (b.length + 1) b 0).1 = b := h2
  rw [h1, h2]; simp

end Go.Proofs.Ytcgllachkjnlgaa.Ab
