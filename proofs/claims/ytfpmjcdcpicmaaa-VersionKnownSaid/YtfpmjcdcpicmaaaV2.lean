import Derived.Test.YtfpmjcdcpicmaaaV1
namespace Go.Proofs.Ytfpmjcdcpicmaaa.Ab
open Go Go.RowKit R
set_option linter.unusedVariables false
set_option linter.unusedSimpArgs false
set_option maxHeartbeats 4000000
set_option maxRecDepth 100000
theorem pow7 (i : Nat) : 2 ^ (7 * (i + 1)) = 128 * 2 ^ (7 * i) := by rw [Nat.mul_add, Nat.pow_add]; omega
theorem takeG_vput (rest : List UInt8) : ∀ (N n i acc : Nat), n ≤ N → n * 2 ^ (7 * i) < 2 ^ 64 → i ≤ 9 → (0 < n ∨ i = 0) → takeG (vput n ++ rest) i acc = (acc + n * 2 ^ (7 * i), i + (vput n).length, 0) := by
 intro N
 induction N with
 | zero =>
   intro n i acc hN h1 h2 h3
   have : n = 0 := by omega
   subst this
   have : i = 0 := by omega
   subst this
   rw [vput_small (by omega)]
   simp [takeG]
 | succ N ih =>
   intro n i acc hN h1 h2 h3
   by_cases hs : n < 128
   · rw [vput_small hs]
     have hc : n.toUInt8.toNat = n := by simp; omega
     simp only [List.singleton_append, takeG, hc]
     have hno : ¬ ((i = 9 ∧ 1 < n) ∨ (n = 0 ∧ 0 < i)) := by
       rintro (⟨rfl, h⟩ | ⟨h, h'⟩)
       · omega
       · omega
     rw [if_neg hno, if_pos hs, Nat.mod_eq_of_lt hs]
     rfl
   · rw [vput_big hs]
     have hc : (n % 128 + 128).toUInt8.toNat = n % 128 + 128 := by simp; omega
     simp only [List.cons_append, takeG, hc]
     have hi9 : ¬ i = 9 := by rintro rfl; omega
     have hno : ¬ ((i = 9 ∧ 1 < n % 128 + 128) ∨ (n % 128 + 128 = 0 ∧ 0 < i)) := by
       rintro (⟨h, _⟩ | ⟨h, _⟩)
       · exact hi9 h
       · omega
     have hp := pow7 i
     have hd : n = n % 128 + 128 * (n / 128) := by omega
     have hm : n * 2 ^ (7 * i) = n % 128 * 2 ^ (7 * i) + n / 128 * 2 ^ (7 * (i + 1)) := by
       rw [hp]
       calc n * 2 ^ (7 * i) = (n % 128 + 128 * (n / 128)) * 2 ^ (7 * i) := by rw [← hd]
         _ = n % 128 * 2 ^ (7 * i) + n / 128 * (128 * 2 ^ (7 * i)) := by rw [Nat.add_mul, Nat.mul_comm 128 (n / 128), Nat.mul_assoc]
     rw [if_neg hno, if_neg (by omega), show (n % 128 + 128) % 128 = n % 128 from by omega]
     rw [ih (n / 128) (i + 1) _ (by omega) (by omega) (by omega) (.inl (by omega))]
     simp only [List.length_cons, Prod.mk.injEq, and_true]
     omega
theorem take_vput (n : Nat) (rest : List UInt8) (h : n < 2 ^ 64) : takeG (vput n ++ rest) 0 0 = (n, (vput n).length, 0) := by
 have := takeG_vput rest n n 0 0 (Nat.le_refl _) (by simpa using h) (by omega) (.inr rfl)
 simpa using this
theorem takeG_inv : ∀ (l pre : List UInt8), (∀ x ∈ pre, 128 ≤ x.toNat) → (takeG l pre.length (val pre)).2.2 = 0 → (pre ++ l).take (takeG l pre.length (val pre)).2.1 = vput (takeG l pre.length (val pre)).1
 | [], pre, _, h => by simp [takeG] at h
 | c :: l, pre, hp, h => by
   unfold takeG at h ⊢
   split at h
   · cases h
   · rename_i h0
     rw [if_neg h0]
     by_cases hs : c.toNat < 128
     · rw [if_pos hs]
       dsimp only
       rw [← val_snoc, vput_val pre c hp hs]
       · rw [show pre ++ c :: l = (pre ++ [c]) ++ l from by simp, show pre.length + 1 = (pre ++ [c]).length from by simp, List.take_left]
       · by_cases hc : c.toNat = 0
         · right
           have : ¬ 0 < pre.length := fun hh => h0 (.inr ⟨hc, hh⟩)
           exact List.eq_nil_of_length_eq_zero (by omega)
         · exact .inl hc
     · rw [if_neg hs] at h ⊢
       have e1 : pre.length + 1 = (pre ++ [c]).length := by simp
       rw [← val_snoc, e1] at h ⊢
       have := takeG_inv l (pre ++ [c]) (by
         intro x hx
         rcases List.mem_append.1 hx with hx | hx
         · exact hp x hx
         · simp only [List.mem_singleton] at hx; subst hx; omega) h
       rw [List.append_assoc, List.singleton_append] at this
       exact this
theorem take_inv {l : List UInt8} (h : (takeG l 0 0).2.2 = 0) : l.take (takeG l 0 0).2.1 = vput (takeG l 0 0).1 := takeG_inv l [] (by simp) h
theorem vput_pos (n : Nat) : 0 < (vput n).length := by
 by_cases h : n < 128
 · rw [vput_small h]; simp
 · rw [vput_big h]; simp
theorem drop_len {b r : List UInt8} {p : Nat} (h : b.drop p = r) (hr : 0 < r.length) : p < b.length ∧ b.length = p + r.length := by
 have := congrArg List.length h
 simp at this
 omega
theorem takeL_vput {b : List UInt8} {p n : Nat} {r : List UInt8} (h : b.drop p = vput n ++ r) (hn : n < 2 ^ 64) : takeL b p = ((n : Int), (p : Int) + ((vput n).length : Int), 0) := by
 have hp := vput_pos n
 have hl := (drop_len h (by simp; omega)).1
 unfold takeL
 rw [if_neg (by omega), Int.toNat_natCast, h, take_vput n r hn]
theorem takeT_vtext {b : List UInt8} {p : Nat} {s r : List UInt8} (h : b.drop p = vtext s ++ r) (hs : s.length < 2 ^ 64) : takeT b p = (s, (p : Int) + ((vtext s).length : Int), 0) := by
 unfold vtext at h ⊢
 rw [List.append_assoc] at h
 have hL := takeL_vput h hs
 have hp := vput_pos s.length
 have hl := (drop_len h (by simp; omega)).2
 simp only [List.length_append] at hl
 have hd : b.drop (p + (vput s.length).length) = s ++ r := by
   rw [← List.drop_drop, h, List.drop_left]
 unfold takeT
 rw [hL, if_neg (by simp), if_neg (by dsimp only; omega)]
 dsimp only
 rw [show ((p : Int) + ((vput s.length).length : Int)).toNat = p + (vput s.length).length from by omega, hd, Int.toNat_natCast, List.take_left]
 simp only [List.length_append, Prod.mk.injEq, true_and, and_true]
 omega
theorem take_pre {b : List UInt8} {p : Int} (h : (takeL b p).2.2 = 0) : ∃ q m : Nat, p = (q : Int) ∧ (takeL b p).1 = (m : Int) ∧ m < 2 ^ 64 ∧ (takeL b p).2.1 = ((q + (vput m).length : Nat) : Int) ∧ ∃ r, b.drop q = vput m ++ r := by
 have hok := takeL_ok b p
 obtain ⟨h1, h2, h3, _⟩ := hok
 obtain ⟨a1, a2, a3⟩ := h1 h
 have hT : takeL b p = (((takeG (b.drop p.toNat) 0 0).1 : Int), p + ((takeG (b.drop p.toNat) 0 0).2.1 : Int), (takeG (b.drop p.toNat) 0 0).2.2) := by
   unfold takeL
   rw [if_neg (by omega)]
 rw [hT] at h a2 a3 h2 h3 ⊢
 dsimp only at h a2 a3 h2 h3 ⊢
 have hi := take_inv h
 have hb : (takeG (b.drop p.toNat) 0 0).2.1 ≤ (b.drop p.toNat).length := by simp; omega
 refine ⟨p.toNat, (takeG (b.drop p.toNat) 0 0).1, by omega, rfl, by omega, ?_, (b.drop p.toNat).drop (takeG (b.drop p.toNat) 0 0).2.1, ?_⟩
 · rw [← hi, List.length_take, Nat.min_eq_left hb]; omega
 · rw [← hi, List.take_append_drop]
end Go.Proofs.Ytfpmjcdcpicmaaa.Ab
