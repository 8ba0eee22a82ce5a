import Derived.Test.YtfpmjcdcpicmaaaW14
namespace Go.Proofs.Ytfpmjcdcpicmaaa.Ab.E
open Go Go.RowKit R
set_option linter.unusedVariables false
set_option linter.unusedSimpArgs false
set_option maxHeartbeats 4000000
set_option maxRecDepth 100000
def takeK (b : List UInt8) (p : Int) (c : UInt8) : Ed × Int × Int :=
 if c = 2 then (⟨2, 0, (takeT b (p + 1)).1⟩, (takeT b (p + 1)).2.1, if (takeT b (p + 1)).2.2 = 0 ∧ rightE ⟨2, 0, (takeT b (p + 1)).1⟩ = false then 2 else (takeT b (p + 1)).2.2)
 else if c = 1 ∨ c = 3 then
   (if (takeL b (p + 1)).2.2 = 0 ∧ 2147483647 < (takeL b (p + 1)).1 then (⟨0, 0, []⟩, 0, 2) else
     (⟨c, (takeL b (p + 1)).1, []⟩, (takeL b (p + 1)).2.1, if (takeL b (p + 1)).2.2 = 0 ∧ rightE ⟨c, (takeL b (p + 1)).1, []⟩ = false then 2 else (takeL b (p + 1)).2.2))
 else (⟨c, 0, []⟩, 0, 60)
def takeE (b : List UInt8) (p : Int) : Ed × Int × Int := takeK b p (b.getD p.toNat 0)
noncomputable def GtakeE : List AV → Option (Prop × AV)
 | [.pv (.ro b), .pv (.int .i64 p)] => (dec byteR b).map fun l => (l.length ≤ 100000000 ∧ 0 ≤ p ∧ p < l.length,
     .tup [.agg [.pv (.int .u8 ((takeE l p).1.k.toNat : Int)), .pv (.int .i64 (takeE l p).1.n), .pv (.str (takeE l p).1.t)], .pv (.int .i64 (takeE l p).2.1), .pv (.int .i64 (takeE l p).2.2)])
 | _ => none
@[simp] theorem GtakeE_eq (b : List (List PV)) (p : Int) : GtakeE [.pv (.ro b), .pv (.int .i64 p)] = (dec byteR b).map fun l => (l.length ≤ 100000000 ∧ 0 ≤ p ∧ p < l.length,
     .tup [.agg [.pv (.int .u8 ((takeE l p).1.k.toNat : Int)), .pv (.int .i64 (takeE l p).1.n), .pv (.str (takeE l p).1.t)], .pv (.int .i64 (takeE l p).2.1), .pv (.int .i64 (takeE l p).2.2)]) := rfl
theorem c_takeE : ConT Try.prog 172 GtakeE := by
 intro ys φ r h hφ
 unfold GtakeE at h
 split at h
 · rename_i rb p
   obtain ⟨b, hb, h⟩ := Option.map_eq_some_iff.1 h
   cases h
   cases dec_bytes_inv hb
   obtain ⟨hl, hp1, hp2⟩ := hφ
   obtain ⟨q, rfl⟩ := Int.eq_ofNat_of_zero_le hp1
   have hq : q < b.length := by omega
   have r1 := R.bytesRow_at hq
   have hgd : b.getD ((q : Int).toNat) 0 = b[q] := by simp [hq]
   refine con_of (tab_cons c_takeT (tab_cons c_take (tab_cons c_eright tab_nil))) (by kernel_rfl) fn172 (by simp) ?_
   unfold body172 takeE
   rw [hgd]
   generalize b[q] = c at *
   have w1 : IntKind.i64.wrap ((q : Int) + 1) = (q : Int) + 1 := wrap_i64 (by omega)
   have g1 : b.length ≤ 1000000000 := by omega
   have g2 : -9223372036854775808 ≤ (q : Int) + 1 := by omega
   have g3 : (q : Int) + 1 ≤ 9223372036854775807 := by omega
   obtain ⟨k1, k2, k3, k4, k5⟩ := takeL_ok b ((q : Int) + 1)
   by_cases hc2 : c = 2
   · subst hc2
     have hT : takeK b q 2 = (⟨2, 0, (takeT b ((q : Int) + 1)).1⟩, (takeT b ((q : Int) + 1)).2.1, if (takeT b ((q : Int) + 1)).2.2 = 0 ∧ rightE ⟨2, 0, (takeT b ((q : Int) + 1)).1⟩ = false then 2 else (takeT b ((q : Int) + 1)).2.2) := rfl
     rw [hT]
     generalize hLT : takeT b ((q : Int) + 1) = t
     obtain ⟨s, x, e⟩ := t
     have hr : rightE ⟨2, 0, s⟩ = rightI 2 0 s := rfl
     by_cases he : e = 0
     · subst he
       by_cases hrr : rightI 2 0 s = false
       · simp (config := { maxSteps := 3000000 }) [hq, r1, w1, g1, g2, g3, hLT, hr, hrr]
       · have hrr : rightI 2 0 s = true := by simpa using hrr
         simp (config := { maxSteps := 3000000 }) [hq, r1, w1, g1, g2, g3, hLT, hr, hrr]
     · simp (config := { maxSteps := 3000000 }) [hq, r1, w1, g1, g2, g3, hLT, hr, he]
   · by_cases hc13 : c = 1 ∨ c = 3
     · have hT : takeK b q c = (if (takeL b ((q : Int) + 1)).2.2 = 0 ∧ 2147483647 < (takeL b ((q : Int) + 1)).1 then (⟨0, 0, []⟩, 0, 2) else
         (⟨c, (takeL b ((q : Int) + 1)).1, []⟩, (takeL b ((q : Int) + 1)).2.1, if (takeL b ((q : Int) + 1)).2.2 = 0 ∧ rightE ⟨c, (takeL b ((q : Int) + 1)).1, []⟩ = false then 2 else (takeL b ((q : Int) + 1)).2.2)) := by
         unfold takeK; rw [if_neg hc2, if_pos hc13]
       obtain ⟨n, x, e, hL⟩ : ∃ n x e, takeL b ((q : Int) + 1) = (n, x, e) := ⟨_, _, _, rfl⟩
       rw [hL] at k1 k2 k3 k4 k5 hT
       dsimp only at k1 k2 k3 k4 k5 hT
       rw [hT]
       clear hT
       by_cases he : e = 0
       · subst he
         by_cases hbig : 2147483647 < n
         · rcases hc13 with rfl | rfl <;> simp (config := { maxSteps := 3000000 }) [hq, r1, w1, g1, g2, g3, hL, hbig]
         · have w2 : IntKind.i64.wrap n = n := wrap_i64 (by omega)
           have hr : rightE ⟨c, n, []⟩ = rightI (c.toNat : Int) n [] := rfl
           rcases hc13 with rfl | rfl
           · have hr : rightE ⟨1, n, []⟩ = rightI 1 n [] := rfl
             cases hrr : rightI 1 n [] <;> simp (config := { maxSteps := 3000000 }) [hq, r1, w1, g1, g2, g3, hL, hbig, w2, hr, hrr]
           · have hr : rightE ⟨3, n, []⟩ = rightI 3 n [] := rfl
             cases hrr : rightI 3 n [] <;> simp (config := { maxSteps := 3000000 }) [hq, r1, w1, g1, g2, g3, hL, hbig, w2, hr, hrr]
       · obtain ⟨rfl, rfl⟩ := k4 he
         have w2 : IntKind.i64.wrap 0 = 0 := wrap_i64 (by omega)
         rcases hc13 with rfl | rfl <;> simp (config := { maxSteps := 3000000 }) [hq, r1, w1, g1, g2, g3, hL, he, w2]
     · have hT : takeK b q c = (⟨c, 0, []⟩, 0, 60) := by unfold takeK; rw [if_neg hc2, if_neg hc13]
       rw [hT]
       have n1 : ¬ c.toNat = 1 := fun h => hc13 (.inl (UInt8.toNat_inj.1 h))
       have n2 : ¬ c.toNat = 2 := fun h => hc2 (UInt8.toNat_inj.1 h)
       have n3 : ¬ c.toNat = 3 := fun h => hc13 (.inr (UInt8.toNat_inj.1 h))
       have m1 : ¬ (c.toNat : Int) = 1 := by omega
       have m2 : ¬ (c.toNat : Int) = 2 := by omega
       have m3 : ¬ (c.toNat : Int) = 3 := by omega
       simp (config := { maxSteps := 3000000 }) [hq, r1, w1, m1, m2, m3]
 · cases h
theorem takeT_ok {b : List UInt8} {p : Int} (h : (takeT b p).2.2 = 0) : 0 ≤ p ∧ p < (takeT b p).2.1 ∧ (takeT b p).2.1 ≤ b.length := by
 obtain ⟨k1, k2, k3, k4, k5⟩ := takeL_ok b p
 unfold takeT at h ⊢
 split at h
 · rename_i h0; exact absurd h h0
 · rename_i h0
   rw [if_neg h0]
   split at h
   · cases h
   · rename_i h1
     rw [if_neg h1]
     have := k1 (by simpa using h0)
     dsimp only
     omega
theorem takeE_ok {b : List UInt8} {p : Int} (h : (takeE b p).2.2 = 0) : 0 ≤ p + 1 ∧ p + 1 < (takeE b p).2.1 ∧ (takeE b p).2.1 ≤ b.length := by
 unfold takeE takeK at h ⊢
 split at h
 · rename_i h0
   rw [if_pos h0]
   dsimp only at h ⊢
   split at h
   · cases h
   · exact takeT_ok h
 · rename_i h0
   rw [if_neg h0]
   split at h
   · rename_i h1
     rw [if_pos h1]
     split at h
     · cases h
     · rename_i h2
       rw [if_neg h2]
       dsimp only at h ⊢
       split at h
       · cases h
       · exact (takeL_ok b (p + 1)).1 h
   · cases h
def parseG : Nat → List UInt8 → Int → List Ed × Int
 | 0, _, _ => ([], 0)
 | f + 1, b, p => if (b.length : Int) ≤ p then ([], 0) else if (takeE b p).2.2 ≠ 0 then ([], (takeE b p).2.2) else
   (if (parseG f b (takeE b p).2.1).2 ≠ 0 then ([], (parseG f b (takeE b p).2.1).2) else ((takeE b p).1 :: (parseG f b (takeE b p).2.1).1, 0))
def parseL (b : List UInt8) : List Ed × Int := parseG (b.length + 1) b 0
def behind (acc : List Ed) (r : List Ed × Int) : List Ed × Int := if r.2 ≠ 0 then ([], r.2) else (acc ++ r.1, 0)
theorem behind_nil (f : Nat) (b : List UInt8) (p : Int) : behind [] (parseG f b p) = parseG f b p := by
 unfold behind
 cases f with
 | zero => rfl
 | succ f =>
   unfold parseG
   split
   · rfl
   · split
     · rename_i h; simp [h]
     · split
       · rename_i h; simp [h]
       · rfl
noncomputable def GParse : List AV → Option (Prop × AV)
 | [.pv (.ro b)] => (dec byteR b).map fun l => (l.length ≤ 100000000, .tup [.fr 183 (rowsE (parseL l).1), .pv (.int .i64 (parseL l).2)])
 | _ => none
@[simp] theorem GParse_eq (b : List (List PV)) : GParse [.pv (.ro b)] = (dec byteR b).map fun l => (l.length ≤ 100000000, .tup [.fr 183 (rowsE (parseL l).1), .pv (.int .i64 (parseL l).2)]) := rfl
theorem c_Parse : ConT Try.prog 155 GParse := by
 intro ys φ r h hl
 unfold GParse at h
 split at h
 · rename_i rb
   obtain ⟨b, hb, h⟩ := Option.map_eq_some_iff.1 h
   cases h
   cases dec_bytes_inv hb
   refine con_of (tab_cons c_takeE tab_nil) (by kernel_rfl) fn155 (by simp) ?_
   unfold body155
   simp (config := { maxSteps := 3000000 })
   refine vwp_loop (fun x : Nat × Nat × List Ed => x.1 ≤ b.length ∧ b.length < x.2.1 + x.1 ∧ x.2.2.length ≤ x.1 ∧ parseL b = behind x.2.2 (parseG x.2.1 b x.1))
     (fun x => ⟨[(0, .pv (.ro (bytesRow b))), (4, .own 4), (5, .pv (.int .i64 x.1))], [(4, .arr 183 (rowsE x.2.2))]⟩) (fun x => b.length - x.1) [] (0, b.length + 1, []) ?_ ?_ ?_
   · refine ⟨by simp, by simp, by simp, ?_⟩
     rw [behind_nil]; rfl
   · simp
   · rintro ⟨p, f, acc⟩ ⟨hp, hf, hacc, hP⟩
     dsimp only at hp hf hacc hP
     by_cases hlt : p < b.length
     · obtain ⟨f, rfl⟩ : ∃ g, f = g + 1 := ⟨f - 1, by omega⟩
       have hle : ¬ (b.length : Int) ≤ (p : Int) := by omega
       rw [parseG, if_neg hle] at hP
       obtain ⟨⟨k, n, t⟩, x, e, hE⟩ : ∃ ed x e, takeE b p = (ed, x, e) := ⟨_, _, _, rfl⟩
       have hok := @takeE_ok b p
       rw [hE] at hP hok
       dsimp only at hP hok
       by_cases he : e = 0
       · subst he
         obtain ⟨o1, o2, o3⟩ := hok rfl
         obtain ⟨y, rfl⟩ := Int.eq_ofNat_of_zero_le (show 0 ≤ x by omega)
         simp (config := { maxSteps := 3000000 }) [hlt, hE, hl, maxLen_eq]
         refine ⟨⟨by omega, by omega⟩, y, f, acc ++ [⟨k, n, t⟩], ⟨by omega, by omega, by simp; omega, ?_⟩, ⟨rfl, by rw [rowsE_append]; rfl⟩, by omega⟩
         rw [hP, if_neg (by simp)]
         unfold behind
         by_cases h0 : (parseG f b (y : Int)).2 = 0
         · simp [h0]
         · simp [h0]
       · rw [if_pos he] at hP
         have hP' : parseL b = ([], e) := by rw [hP]; unfold behind; rw [if_pos he]
         simp (config := { maxSteps := 3000000 }) [hlt, hE, hl, he, hP']
     · have hle : (b.length : Int) ≤ (p : Int) := by omega
       have hP' : parseL b = (acc, 0) := by
         rw [hP]
         cases f with
         | zero => simp [parseG, behind]
         | succ f => rw [parseG, if_pos hle]; simp [behind]
       simp (config := { maxSteps := 3000000 }) [hlt, hP']
 · cases h
theorem parseG_len : ∀ (f : Nat) (b : List UInt8) (p : Int), 0 ≤ p → p ≤ b.length → ((parseG f b p).1.length : Int) + p ≤ b.length
 | 0, b, p, _, h => by simp [parseG]; omega
 | f + 1, b, p, h0, h => by
   unfold parseG
   split
   · simp; omega
   · split
     · simp; omega
     · rename_i he
       have he : (takeE b p).2.2 = 0 := by simpa using he
       obtain ⟨o1, o2, o3⟩ := takeE_ok he
       have := parseG_len f b (takeE b p).2.1 (by omega) o3
       split
       · simp; omega
       · simp only [List.length_cons]; omega
theorem parseL_len (b : List UInt8) : (parseL b).1.length ≤ b.length := by
 have := parseG_len (b.length + 1) b 0 (by omega) (by omega)
 unfold parseL; omega
end Go.Proofs.Ytfpmjcdcpicmaaa.Ab.E
