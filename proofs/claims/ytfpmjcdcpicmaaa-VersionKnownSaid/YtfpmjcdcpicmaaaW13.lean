import Derived.Test.YtfpmjcdcpicmaaaW15
import Derived.Test.YtfpmjcdcpicmaaaCodeW
namespace Go.Proofs.Ytfpmjcdcpicmaaa.Ab.E
open Go Go.RowKit R
set_option linter.unusedVariables false
set_option linter.unusedSimpArgs false
set_option maxHeartbeats 4000000
set_option maxRecDepth 100000
theorem c_rright : ConT Try.prog 180 Gright := by
 intro ys φ r h hφ
 unfold Gright at h
 split at h
 · rename_i k n t
   cases h
   refine con_of tab_nil (by kernel_rfl) fn180 (by simp) ?_
   unfold body180
   simp (config := { maxSteps := 3000000 })
   by_cases h2 : k = 2
   · subst h2; simp [rightI]
   · simp [rightI, h2]
 · cases h
theorem c_rRight : ConT Try.prog 182 GRight := by
 intro ys φ r h hφ
 unfold GRight at h
 split at h
 · rename_i ra
   obtain ⟨a, ha, h⟩ := Option.map_eq_some_iff.1 h
   cases h
   cases dec_rowsE_inv ha
   refine con_of (tab_cons c_rright tab_nil) (by kernel_rfl) fn182 (by simp) ?_
   unfold body182
   simp (config := { maxSteps := 3000000 })
   refine vwp_loop (fun i : Nat => i ≤ a.length ∧ ∀ e ∈ a.take i, rightE e = true) (fun i => ⟨[(0, .pv (.ro (rowsE a))), (3, .pv (.int .i64 i))], []⟩) (fun i => a.length - i) [] 0 (by simp) ?_ ?_
   · simp
   · rintro i ⟨hi, ht⟩
     have w2 : IntKind.i64.wrap ((i : Int) + 1) = (i : Int) + 1 := wrap_i64 (by omega)
     by_cases hlt : i < a.length
     · have r1 := rowsE_at hlt
       simp (config := { maxSteps := 3000000 }) [w2, hlt, r1, rightE_eq]
       refine ⟨fun h => ?_, fun h => ⟨i + 1, ⟨by omega, fun e he => ?_⟩, by omega, by omega⟩⟩
       · have : rightL a = false := by
           unfold rightL; rw [List.all_eq_false]; exact ⟨a[i], List.getElem_mem hlt, by simp [h]⟩
         simp [this]
       · rw [List.take_succ_eq_append_getElem hlt, List.mem_append] at he
         rcases he with he | he
         · exact ht e he
         · simp only [List.mem_singleton] at he; rw [he]; exact h
     · simp (config := { maxSteps := 3000000 }) [hlt]
       rw [List.take_of_length_le (by omega)] at ht
       unfold rightL; rw [List.all_eq_true]; exact ht
 · cases h
theorem c_rsizes : ConT Try.prog 181 GSizes := by
 intro ys φ r h hφ
 unfold GSizes at h
 split at h
 · rename_i ra
   obtain ⟨a, ha, h⟩ := Option.map_eq_some_iff.1 h
   cases h
   cases dec_rowsE_inv ha
   obtain ⟨hlen, htx⟩ := hφ
   refine con_of (tab_cons c_rright tab_nil) (by kernel_rfl) fn181 (by simp) ?_
   unfold body181
   simp (config := { maxSteps := 3000000 })
   refine vwp_loop (fun i : Nat => i ≤ a.length) (fun i => ⟨[(0, .pv (.ro (rowsE a))), (6, .pv (.int .i64 i)), (4, .pv (.int .i64 (sizesL (a.take i)).1)), (5, .pv (.int .i64 (sizesL (a.take i)).2))], []⟩) (fun i => a.length - i) [] 0 (by simp) ?_ ?_
   · simp [sizesL]
   · intro i hi
     have w2 : IntKind.i64.wrap ((i : Int) + 1) = (i : Int) + 1 := wrap_i64 (by omega)
     by_cases hlt : i < a.length
     · have r1 := rowsE_at hlt
       have hb := sizesL_bound (a.take i) (fun e he => htx e (List.mem_of_mem_take he))
       have htl := htx _ (List.getElem_mem hlt)
       have hb2 := sizesE_bound a[i] htl
       have hl2 : (a.take i).length ≤ 10000 := by simp; omega
       have hgo : ∀ x y, sizesE a[i] = (x, y) → ∃ x' : Nat, x' ≤ a.length ∧ ((i : Int) + 1 = x' ∧ (sizesL (a.take i)).1 + x = (sizesL (a.take x')).1 ∧ (sizesL (a.take i)).2 + y = (sizesL (a.take x')).2) ∧ a.length - x' < a.length - i := by
         intro x y hxy
         refine ⟨i + 1, by omega, ⟨by omega, ?_, ?_⟩, by omega⟩ <;> rw [List.take_succ_eq_append_getElem hlt, sizesL_append] <;> simp [sizesL, hxy]
       by_cases hr : rightE a[i] = true
       · have hr' : rightI a[i].k.toNat a[i].n a[i].t = true := hr
         have hse : sizesE a[i] = if (a[i].k.toNat : Int) = 2 then (0, (a[i].t.length : Int)) else if (a[i].k.toNat : Int) = 3 then (a[i].n, 0) else (a[i].n, a[i].n) := by
           unfold sizesE sizesI; rw [if_neg (by simp [hr'])]
         unfold rightI at hr'
         by_cases h2 : (a[i].k.toNat : Int) = 2
         · rw [if_pos h2] at hr' hse
           simp only [Bool.and_eq_true, decide_eq_true_eq] at hr'
           have w4 : IntKind.i64.wrap ((sizesL (a.take i)).2 + a[i].n) = (sizesL (a.take i)).2 := by rw [hr'.1, Int.add_zero]; exact wrap_i64 (by omega)
           have w5 : IntKind.i64.wrap ((sizesL (a.take i)).2 + (a[i].t.length : Int)) = (sizesL (a.take i)).2 + (a[i].t.length : Int) := wrap_i64 (by omega)
           have hr2 : rightI 2 a[i].n a[i].t = true := by rw [← h2]; exact hr
           have := hgo _ _ hse
           simp (config := { maxSteps := 3000000 }) [w2, hlt, r1, rightE_eq, hr2, h2, w4, w5]
           simpa using this
         · rw [if_neg h2] at hr' hse
           simp only [Bool.and_eq_true, Bool.or_eq_true, decide_eq_true_eq] at hr'
           have w3 : IntKind.i64.wrap ((sizesL (a.take i)).1 + a[i].n) = (sizesL (a.take i)).1 + a[i].n := wrap_i64 (by omega)
           by_cases h3 : (a[i].k.toNat : Int) = 3
           · rw [if_pos h3] at hse
             have hr2 : rightI 3 a[i].n a[i].t = true := by rw [← h3]; exact hr
             have := hgo _ _ hse
             simp (config := { maxSteps := 3000000 }) [w2, hlt, r1, rightE_eq, hr2, h3, w3]
             simpa using this
           · rw [if_neg h3] at hse
             have w4 : IntKind.i64.wrap ((sizesL (a.take i)).2 + a[i].n) = (sizesL (a.take i)).2 + a[i].n := wrap_i64 (by omega)
             have w5 : IntKind.i64.wrap ((sizesL (a.take i)).2 + a[i].n + (a[i].t.length : Int)) = (sizesL (a.take i)).2 + a[i].n := by rw [hr'.2]; simp; exact w4
             have := hgo _ _ hse
             simp (config := { maxSteps := 3000000 }) [w2, hlt, r1, rightE_eq, hr, h2, h3, w3, w4, w5]
             simpa using this
       · have hr' : rightE a[i] = false := by simpa using hr
         have hse : sizesE a[i] = (0, 0) := by
           unfold sizesE sizesI; rw [if_pos (show rightI a[i].k.toNat a[i].n a[i].t = false from hr')]
         have := hgo _ _ hse
         simp (config := { maxSteps := 3000000 }) [w2, hlt, r1, rightE_eq, hr']
         simpa using this
     · simp (config := { maxSteps := 3000000 }) [hlt]
       rw [List.take_of_length_le (by omega)]
       simp
 · cases h
theorem c_rApply : ConT Try.prog 165 GApply := by
 intro ys φ r h hφ
 unfold GApply at h
 split at h
 · rename_i base ra
   obtain ⟨a, ha, h⟩ := Option.map_eq_some_iff.1 h
   cases h
   cases dec_rowsE_inv ha
   obtain ⟨hbl, hlen, htx⟩ := hφ
   have hoL : okL a := ⟨hlen, fun e he => by have := htx e he; omega⟩
   have hM := outL_len (l := a) (base := base) htx
   refine con_of (tab_cons c_rRight (tab_cons c_rsizes tab_nil)) (by kernel_rfl) fn165 (by simp) ?_
   unfold body165
   have hl9 : a.length ≤ 1000000000 := by omega
   by_cases hcond : rightL a = true ∧ (sizesL a).1 = base.length
   · have hno : applyL base a = (outL base a, 0) := by unfold applyL; rw [if_pos hcond]
     obtain ⟨hr, hs⟩ := hcond
     have hra : ∀ e ∈ a, rightE e = true := by unfold rightL at hr; rw [List.all_eq_true] at hr; exact hr
     simp (config := { maxSteps := 3000000 }) [hr, hs, hno, hoL, hl9]
     refine vwp_loop (fun x : Nat × Nat × List UInt8 => x.1 ≤ a.length ∧ (x.2.1 : Int) + (sizesL (a.drop x.1)).1 = base.length ∧ x.2.2 ++ outL (base.drop x.2.1) (a.drop x.1) = outL base a)
       (fun x => ⟨[(0, .pv (.str base)), (1, .pv (.ro (rowsE a))), (10, .pv (.int .i64 x.1)), (9, .pv (.int .i64 x.2.1)), (8, .own 8)], [(8, .arr 5 (bytesRow x.2.2))]⟩) (fun x => a.length - x.1) [] (0, 0, []) ?_ ?_ ?_
     · simp [hs]
     · simp
     · rintro ⟨i, pos, out⟩ ⟨hi, hpos, hout⟩
       dsimp only at hi hpos hout
       have w2 : IntKind.i64.wrap ((i : Int) + 1) = (i : Int) + 1 := wrap_i64 (by omega)
       by_cases hlt : i < a.length
       · have r1 := rowsE_at hlt
         have hrl := hra _ (List.getElem_mem hlt)
         have htl := htx _ (List.getElem_mem hlt)
         obtain ⟨hs1, hs2, hs3, hs4, hs5⟩ := sizesE_one _ hrl
         rw [List.drop_eq_getElem_cons hlt] at hpos hout
         simp only [sizesL, hs1] at hpos
         have hsb := (sizesL_bound (a.drop (i + 1)) fun e he => by have := htx e (List.mem_of_mem_drop he); omega).1
         simp (config := { maxSteps := 3000000 }) [hlt]
         have hol : out.length ≤ (outL base a).length := by rw [← hout]; simp
         -- what is retained, or deleted
         refine vwp_loop (fun k : Nat => (k : Int) ≤ a[i].n)
           (fun k => ⟨[(0, .pv (.str base)), (1, .pv (.ro (rowsE a))), (10, .pv (.int .i64 i)), (9, .pv (.int .i64 ((pos + k : Nat) : Int))), (8, .own 8), (11, .pv (.int .i64 k))], [(8, .arr 5 (bytesRow (out ++ if a[i].k = 1 then (base.drop pos).take k else [])))]⟩) (fun k => a[i].n.toNat - k) [] 0 ?_ ?_ ?_
         · simpa using hs2
         · simp
         · intro k hk
           have w3 : IntKind.i64.wrap ((k : Int) + 1) = (k : Int) + 1 := wrap_i64 (by omega)
           have w4 : IntKind.i64.wrap ((pos : Int) + (k : Int) + 1) = (pos : Int) + (k : Int) + 1 := wrap_i64 (by omega)
           by_cases hkn : (k : Int) < a[i].n
           · have hpk : pos + k < base.length := by omega
             have hpk' : (pos : Int) + (k : Int) < (base.length : Int) := by omega
             by_cases h1 : (a[i].k.toNat : Int) = 1
             · have hk1 : a[i].k = 1 := UInt8.toNat_inj.1 (show a[i].k.toNat = 1 by omega)
               simp (config := { maxSteps := 3000000 }) [w3, w4, hlt, r1, hkn, h1, hk1, hpk, hpk', maxLen_eq]
               have hb : ((pos : Int) + (k : Int)).toNat = pos + k := by omega
               refine ⟨by omega, ⟨by omega, by omega⟩, k + 1, by omega, ⟨⟨by omega, by omega⟩, ?_⟩, by omega⟩
               have hdk : k < (base.drop pos).length := by simp; omega
               rw [hb, List.take_succ_eq_append_getElem hdk, ← List.append_assoc, bytesRow_append]
               simp [bytesRow, hpk]
             · have hk1 : ¬ a[i].k = 1 := fun e => h1 (by rw [e]; rfl)
               simp (config := { maxSteps := 3000000 }) [w3, w4, hlt, r1, hkn, h1, hk1, hpk, hpk', maxLen_eq]
               exact ⟨k + 1, by omega, ⟨by omega, by omega⟩, by omega⟩
           · simp (config := { maxSteps := 3000000 }) [hlt, r1, hkn]
             have hkn' : (k : Int) = a[i].n := by omega
             have hkt : a[i].n.toNat = k := by omega
             refine vwp_loop (fun j : Nat => j ≤ a[i].t.length)
               (fun j => ⟨[(0, .pv (.str base)), (1, .pv (.ro (rowsE a))), (10, .pv (.int .i64 i)), (9, .pv (.int .i64 ((pos + k : Nat) : Int))), (8, .own 8), (12, .pv (.int .i64 j))], [(8, .arr 5 (bytesRow (out ++ (if a[i].k = 1 then (base.drop pos).take k else []) ++ a[i].t.take j)))]⟩) (fun j => a[i].t.length - j) [] 0 (by simp) ?_ ?_
             · simp
             · intro j hj
               have w5 : IntKind.i64.wrap ((j : Int) + 1) = (j : Int) + 1 := wrap_i64 (by omega)
               have hpre : (out ++ if a[i].k = 1 then (base.drop pos).take k else []).length ≤ 2000000 + 1000000 * a.length := by
                 rw [List.length_append]
                 split <;> simp <;> omega
               generalize hG : (out ++ if a[i].k = 1 then (base.drop pos).take k else []) = G at *
               by_cases hjn : j < a[i].t.length
               · simp (config := { maxSteps := 3000000 }) [w5, hlt, r1, hjn, maxLen_eq]
                 refine ⟨⟨by omega, by omega⟩, j + 1, by omega, ⟨by omega, ?_⟩, by omega⟩
                 rw [List.take_succ_eq_append_getElem hjn, ← List.append_assoc, bytesRow_append (G ++ _)]; rfl
               · simp (config := { maxSteps := 3000000 }) [w2, hlt, r1, hjn, maxLen_eq]
                 refine ⟨i + 1, pos + k, G ++ a[i].t, ⟨by omega, by omega, ?_⟩, ⟨⟨by omega, by omega⟩, by rw [List.take_of_length_le (by omega)]⟩, by omega⟩
                 rw [← hout, ← hG]
                 rcases hs5 with h5 | h5 | h5
                 · have ht := hs4 (by rw [h5]; decide)
                   simp [outL, h5, hkt, ht, List.drop_drop]
                 · have hk0 : k = 0 := by have := hs3 h5; omega
                   subst hk0
                   simp [outL, h5]
                 · have ht := hs4 (by rw [h5]; decide)
                   simp [outL, h5, hkt, ht, List.drop_drop]
       · simp (config := { maxSteps := 3000000 }) [hlt]
         rw [List.drop_eq_nil_of_le (show a.length ≤ i by omega)] at hout
         simp only [outL, List.append_nil] at hout
         exact hout
   · have hno : applyL base a = ([], 50) := by unfold applyL; rw [if_neg hcond]
     by_cases hr : rightL a = true
     · have hs : ¬ (sizesL a).1 = base.length := fun e => hcond ⟨hr, e⟩
       simp (config := { maxSteps := 3000000 }) [hr, hs, hno, hoL, hl9]
     · have hr' : rightL a = false := by simpa using hr
       simp (config := { maxSteps := 3000000 }) [hr', hno, hoL, hl9]
 · cases h
noncomputable def GrParse : List AV → Option (Prop × AV)
 | [.pv (.ro b)] => (dec byteR b).map fun l => (l.length ≤ 100000000, .tup [.fr 247 (rowsE (parseL l).1), .pv (.int .i64 (parseL l).2)])
 | _ => none
@[simp] theorem GrParse_eq (b : List (List PV)) : GrParse [.pv (.ro b)] = (dec byteR b).map fun l => (l.length ≤ 100000000, .tup [.fr 247 (rowsE (parseL l).1), .pv (.int .i64 (parseL l).2)]) := rfl
theorem rParse_of (c_rtake : ConT Try.prog 109 Gtake) : ConT Try.prog 164 GrParse := by
 intro ys φ r h hl
 unfold GrParse at h
 split at h
 · rename_i rb
   obtain ⟨b, hb, h⟩ := Option.map_eq_some_iff.1 h
   cases h
   cases dec_bytes_inv hb
   refine con_of (tab_cons c_rtake (tab_cons (rtakeT_of c_rtake) (tab_cons c_rright tab_nil))) (by kernel_rfl) fn164 (by simp) ?_
   unfold body164
   simp (config := { maxSteps := 3000000 })
   refine vwp_loop (fun x : Nat × Nat × List Ed => x.1 ≤ b.length ∧ b.length < x.2.1 + x.1 ∧ x.2.2.length ≤ x.1 ∧ parseL b = behind x.2.2 (parseG x.2.1 b x.1))
     (fun x => ⟨[(0, .pv (.ro (bytesRow b))), (4, .own 4), (5, .pv (.int .i64 x.1))], [(4, .arr 247 (rowsE x.2.2))]⟩) (fun x => b.length - x.1) [] (0, b.length + 1, []) ?_ ?_ ?_
   · refine ⟨by simp, by simp, by simp, ?_⟩
     rw [behind_nil]; rfl
   · simp
   · rintro ⟨p, f, acc⟩ ⟨hp, hf, hacc, hP⟩
     dsimp only at hp hf hacc hP
     by_cases hlt : p < b.length
     · obtain ⟨f, rfl⟩ : ∃ g, f = g + 1 := ⟨f - 1, by omega⟩
       have hle : ¬ (b.length : Int) ≤ (p : Int) := by omega
       rw [parseG, if_neg hle] at hP
       have r1 := R.bytesRow_at hlt
       have hgd : b.getD ((p : Int).toNat) 0 = b[p] := by simp [hlt]
       have hok := @takeE_ok b p
       have hE : takeE b p = takeK b p b[p] := by unfold takeE; rw [hgd]
       rw [hE] at hP hok
       generalize b[p] = c at *
       have w1 : IntKind.i64.wrap ((p : Int) + 1) = (p : Int) + 1 := wrap_i64 (by omega)
       have g1 : b.length ≤ 1000000000 := by omega
       have g2 : -9223372036854775808 ≤ (p : Int) + 1 := by omega
       have g3 : (p : Int) + 1 ≤ 9223372036854775807 := by omega
       have hbad : ∀ e, (takeK b p c).2.2 = e → e ≠ 0 → parseL b = ([], e) := by
         intro e h1 h2
         rw [hP, if_pos (by rw [h1]; exact h2), h1]; unfold behind; rw [if_pos h2]
       have hgood : (takeK b p c).2.2 = 0 → ∃ a a_1 b_1, (a ≤ b.length ∧ b.length < a_1 + a ∧ List.length b_1 ≤ a ∧ parseL b = behind b_1 (parseG a_1 b (a : Int))) ∧ ((takeK b p c).2.1 = (a : Int) ∧ rowsE acc ++ [[.int .u8 ((takeK b p c).1.k.toNat : Int), .int .i64 (takeK b p c).1.n, .str (takeK b p c).1.t]] = rowsE b_1) ∧ b.length - a < b.length - p := by
         intro h1
         obtain ⟨o1, o2, o3⟩ := hok h1
         obtain ⟨y, hy⟩ := Int.eq_ofNat_of_zero_le (show 0 ≤ (takeK b p c).2.1 by omega)
         rw [hy] at o2 o3 hP ⊢
         refine ⟨y, f, acc ++ [(takeK b p c).1], ⟨by omega, by omega, by simp; omega, ?_⟩, ⟨rfl, by rw [rowsE_append]; rfl⟩, by omega⟩
         rw [hP, if_neg (by simp [h1])]
         unfold behind
         by_cases h0 : (parseG f b (y : Int)).2 = 0
         · simp [h0]
         · simp [h0]
       have hb1 : (acc.length + 1) * 32 ≤ 140737488355328 := by omega
       have hb2 : acc.length ≤ 9223372036854775806 := by omega
       clear hP hok hE
       by_cases hc2 : c = 2
       · subst hc2
         generalize hK : takeK b p 2 = K at *
         have hT : K = (⟨2, 0, (takeT b ((p : Int) + 1)).1⟩, (takeT b ((p : Int) + 1)).2.1, if (takeT b ((p : Int) + 1)).2.2 = 0 ∧ rightE ⟨2, 0, (takeT b ((p : Int) + 1)).1⟩ = false then 2 else (takeT b ((p : Int) + 1)).2.2) := by rw [← hK]; rfl
         obtain ⟨n, x', e', hL⟩ : ∃ n x e, takeL b ((p : Int) + 1) = (n, x, e) := ⟨_, _, _, rfl⟩
         generalize hLT : takeT b ((p : Int) + 1) = t at *
         obtain ⟨s, x, e⟩ := t
         have hr : rightE ⟨2, 0, s⟩ = rightI 2 0 s := rfl
         subst hT
         dsimp only at hbad hgood
         by_cases he : e = 0
         · subst he
           cases hrr : rightI 2 0 s with
           | false =>
             have hP' := hbad 2 (by rw [hr, hrr]; rfl) (by decide)
             simp (config := { maxSteps := 3000000 }) [hlt, r1, w1, g1, g2, g3, hL, hLT, hrr, hP', maxLen_eq]
           | true =>
             have hG := hgood (by rw [hr, hrr]; rfl)
             simp (config := { maxSteps := 3000000 }) [hlt, r1, w1, g1, g2, g3, hL, hLT, hrr, maxLen_eq, hb1, hb2]
             exact hG
         · have hP' := hbad e (by rw [if_neg (by rintro ⟨h, _⟩; exact he h)]) he
           simp (config := { maxSteps := 3000000 }) [hlt, r1, w1, g1, g2, g3, hL, hLT, he, hP', maxLen_eq]
       · by_cases hc13 : c = 1 ∨ c = 3
         · obtain ⟨k1, k2, k3, k4, k5⟩ := takeL_ok b ((p : Int) + 1)
           obtain ⟨n, x, e, hL⟩ : ∃ n x e, takeL b ((p : Int) + 1) = (n, x, e) := ⟨_, _, _, rfl⟩
           have hT : takeK b p c = (if e = 0 ∧ 2147483647 < n then (⟨0, 0, []⟩, 0, 2) else (⟨c, n, []⟩, x, if e = 0 ∧ rightE ⟨c, n, []⟩ = false then 2 else e)) := by
             unfold takeK; rw [if_neg hc2, if_pos hc13, hL]
           rw [hL] at k1 k2 k3 k4 k5
           dsimp only at k1 k2 k3 k4 k5
           have w2 : IntKind.i64.wrap (min n 2147483648) = min n 2147483648 := wrap_i64 (by omega)
           by_cases he : e = 0
           · subst he
             by_cases hbig : 2147483647 < n
             · have hP' := hbad 2 (by rw [hT, if_pos ⟨rfl, hbig⟩]) (by decide)
               have hmin : min n 2147483648 = 2147483648 := by omega
               have w3 : IntKind.i64.wrap 2147483648 = 2147483648 := wrap_i64 (by omega)
               have q1 : rightI 1 2147483648 [] = false := by decide
               have q3 : rightI 3 2147483648 [] = false := by decide
               rcases hc13 with rfl | rfl <;> simp (config := { maxSteps := 3000000 }) [hlt, r1, w1, g1, g2, g3, hL, hmin, w3, q1, q3, hP', maxLen_eq]
             · have hmin : min n 2147483648 = n := by omega
               rw [hmin] at w2
               rw [if_neg (by rintro ⟨_, h⟩; exact hbig h)] at hT
               have hr1 : rightE ⟨1, n, []⟩ = rightI 1 n [] := rfl
               have hr3 : rightE ⟨3, n, []⟩ = rightI 3 n [] := rfl
               rw [hT] at hbad hgood
               dsimp only at hbad hgood
               rcases hc13 with rfl | rfl
               · cases hrr : rightI 1 n [] with
                 | false =>
                   have hP' := hbad 2 (by rw [hr1, hrr]; rfl) (by decide)
                   simp (config := { maxSteps := 3000000 }) [hlt, r1, w1, g1, g2, g3, hL, hmin, w2, hrr, hP', maxLen_eq]
                 | true =>
                   have hG := hgood (by rw [hr1, hrr]; rfl)
                   simp (config := { maxSteps := 3000000 }) [hlt, r1, w1, g1, g2, g3, hL, hmin, w2, hrr, maxLen_eq, hb1, hb2]
                   exact hG
               · cases hrr : rightI 3 n [] with
                 | false =>
                   have hP' := hbad 2 (by rw [hr3, hrr]; rfl) (by decide)
                   simp (config := { maxSteps := 3000000 }) [hlt, r1, w1, g1, g2, g3, hL, hmin, w2, hrr, hP', maxLen_eq]
                 | true =>
                   have hG := hgood (by rw [hr3, hrr]; rfl)
                   simp (config := { maxSteps := 3000000 }) [hlt, r1, w1, g1, g2, g3, hL, hmin, w2, hrr, maxLen_eq, hb1, hb2]
                   exact hG
           · have hP' := hbad e (by rw [hT, if_neg (by rintro ⟨h, _⟩; exact he h)]; dsimp only; rw [if_neg (by rintro ⟨h, _⟩; exact he h)]) he
             rcases hc13 with rfl | rfl <;> simp (config := { maxSteps := 3000000 }) [hlt, r1, w1, g1, g2, g3, hL, w2, he, hP', maxLen_eq]
         · have hT : takeK b p c = (⟨c, 0, []⟩, 0, 60) := by unfold takeK; rw [if_neg hc2, if_neg hc13]
           have hP' := hbad 60 (by rw [hT]) (by decide)
           have n1 : ¬ c.toNat = 1 := fun h => hc13 (.inl (UInt8.toNat_inj.1 h))
           have n2 : ¬ c.toNat = 2 := fun h => hc2 (UInt8.toNat_inj.1 h)
           have n3 : ¬ c.toNat = 3 := fun h => hc13 (.inr (UInt8.toNat_inj.1 h))
           by_cases hc1 : (c.toNat : Int) < 1
           · simp (config := { maxSteps := 3000000 }) [hlt, r1, w1, hc1, hP', maxLen_eq]
           · have hc3 : (3 : Int) < c.toNat := by omega
             simp (config := { maxSteps := 3000000 }) [hlt, r1, w1, hc1, hc3, hP', maxLen_eq]
     · have hle : (b.length : Int) ≤ (p : Int) := by omega
       have hP' : parseL b = (acc, 0) := by
         rw [hP]
         cases f with
         | zero => simp [parseG, behind]
         | succ f => rw [parseG, if_pos hle]; simp [behind]
       simp (config := { maxSteps := 3000000 }) [hlt, hP']
 · cases h
theorem c_rParse : ConT Try.prog 164 GrParse := rParse_of c_rtake
end Go.Proofs.Ytfpmjcdcpicmaaa.Ab.E
