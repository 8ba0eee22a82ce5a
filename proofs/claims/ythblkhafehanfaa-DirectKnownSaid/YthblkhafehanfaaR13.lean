/- Chapter 8: the law DirectFails. -/
import Derived.Test.YthblkhafehanfaaR11
namespace Go.Proofs.Ythblkhafehanfaa.Ab
open Go Go.RowKit R
set_option linter.unusedVariables false
set_option linter.unusedSimpArgs false
set_option maxHeartbeats 4000000
set_option maxRecDepth 100000

/-! ### How long rows are -/
theorem doR_len (r : Dr) (q : Cl) : (doR r q).now.length ≤ r.now.length + 1 ∧ (doR r q).m.length ≤ r.m.length + 1 := by
  unfold doR
  split
  · unfold addR
    split
    · exact ⟨Nat.le_add_right _ _, Nat.le_add_right _ _⟩
    split
    · exact ⟨Nat.le_add_right _ _, Nat.le_add_right _ _⟩
    · have : (Dr.now ⟨r.d, r.m ++ [⟨true, q.n, q.k⟩]⟩) = stA r.now ⟨true, q.n, q.k⟩ := aftA_snoc _ _ _
      refine ⟨?_, by simp⟩
      rw [this]; exact stA_len _ _
  split
  · unfold remR
    split
    · exact ⟨Nat.le_add_right _ _, Nat.le_add_right _ _⟩
    · rename_i n _
      have : (Dr.now ⟨r.d, r.m ++ [⟨false, q.n, n⟩]⟩) = stA r.now ⟨false, q.n, n⟩ := aftA_snoc _ _ _
      refine ⟨?_, by simp⟩
      rw [this]; exact stA_len _ _
  split
  · exact ⟨Nat.le_add_right _ _, Nat.zero_le _⟩
  · exact ⟨Nat.le_add_right _ _, Nat.le_add_right _ _⟩
theorem foldR_len (r : Dr) : ∀ l : List Cl, (foldR r l).now.length ≤ r.now.length + l.length ∧ (foldR r l).m.length ≤ r.m.length + l.length :=
  snocRec ⟨Nat.le_refl _, Nat.le_refl _⟩ fun l q ih => by
    have e : foldR r (l ++ [q]) = doR (foldR r l) q := by simp [foldR, List.foldl_append]
    have := doR_len (foldR r l) q
    rw [e, List.length_append]
    simp only [List.length_cons, List.length_nil]
    omega
theorem foldRn_len (r : Dr) : ∀ l : List Cl, (foldRn r l).now.length ≤ r.now.length + l.length ∧ (foldRn r l).m.length ≤ r.m.length + l.length :=
  snocRec ⟨Nat.le_refl _, Nat.le_refl _⟩ fun l q ih => by
    have := doR_len (foldRn r l) q
    rw [foldRn_snoc, List.length_append]
    simp only [List.length_cons, List.length_nil]
    split <;> omega
theorem foldRn_take {r : Dr} {l : List Cl} {i : Nat} (h : i < l.length) : foldRn r (l.take (i + 1)) = if l[i].d % 6 = 3 then foldRn r (l.take i) else doR (foldRn r (l.take i)) l[i] := by
  rw [List.take_succ_eq_append_getElem h, foldRn_snoc]
theorem foldPn_take {r : Pd} {l : List Cl} {i : Nat} (h : i < l.length) : foldPn r (l.take (i + 1)) = if l[i].d % 6 = 3 then foldPn r (l.take i) else doP (foldPn r (l.take i)) l[i] := by
  rw [List.take_succ_eq_append_getElem h, foldPn_snoc]
@[simp] theorem Pd_eta (p : Pd) : (⟨p.dur, p.now, p.pend⟩ : Pd) = p := rfl
/-- A directory that is the reference's, and small. -/
structure Sm (p : Pd) (r : Dr) : Prop where
  is : Is p r
  n : r.now.length ≤ 1000
  m : r.m.length ≤ 1000
theorem Sm.sort {p : Pd} {r : Dr} (h : Sm p r) : sortN p.now = r.now := h.is.now.sort
theorem Sm.nd {p : Pd} {r : Dr} (h : Sm p r) : ndN p.now := h.is.now.nd
theorem Sm.len {p : Pd} {r : Dr} (h : Sm p r) : p.now.length ≤ 1000000 := by rw [h.is.now.1.length_eq]; exact Nat.le_trans h.n (by decide)
theorem Sm.pend {p : Pd} {r : Dr} (h : Sm p r) : p.pend.length ≤ 1000000 := by rw [h.is.pend]; exact Nat.le_trans h.m (by decide)
theorem Sm.big {p : Pd} {r : Dr} (h : Sm p r) : r.now.length ≤ 1000000000 := Nat.le_trans h.n (by decide)
theorem slc_Q (b : List Cl) {i : Nat} (h : i < b.length) : cut (rowsQ b) (i : Int) ((i : Int) + 1) = rowsQ [b[i]] := by
  unfold cut
  rw [show ((i : Int) + 1).toNat = i + 1 by omega, show (i : Int).toNat = i by omega]
  unfold rowsQ
  rw [← List.map_take, ← List.map_drop, List.take_succ_eq_append_getElem h, List.drop_append_of_le_length (by rw [List.length_take]; omega), List.drop_of_length_le (by rw [List.length_take]; omega), List.nil_append]
theorem rowsQ_three (l : List Cl) : ∀ r ∈ rowsQ l, r.length = 3 := by
  intro r hr
  simp only [rowsQ, List.mem_map] at hr
  obtain ⟨c, _, rfl⟩ := hr
  rfl
theorem foldP_one (p : Pd) (q : Cl) : foldP p [q] = doP p q := rfl
/-- was it found by then? -/
def fndB (D F : List Nm) (r : Dr) (b : List Cl) (i : Nat) : Bool := decide (F = D) || (List.range i).any fun j => decide (F = (foldRn r (b.take (j + 1))).now)
theorem fndB_succ (D F : List Nm) (r : Dr) (b : List Cl) (i : Nat) : fndB D F r b (i + 1) = (fndB D F r b i || decide (F = (foldRn r (b.take (i + 1))).now)) := by
  unfold fndB
  rw [List.range_succ, List.any_append, Bool.or_assoc]
  simp
theorem fndB_end {D F : List Nm} {r : Dr} {b : List Cl} (hD : r.now = D) {k : Nat} (hF : F = aftA D ((foldRn ⟨D, []⟩ b).m.take k)) : fndB D F r b b.length = true := by
  have hn : ∀ l, (foldRn r l).now = (foldRn ⟨D, []⟩ l).now := fun l => foldRn_now ⟨D, []⟩ r hD l
  unfold fndB
  rcases foldRn_found D b k with h | ⟨j, hj, h⟩
  · rw [hF, h]; simp
  · rw [Bool.or_eq_true]
    right
    rw [List.any_eq_true]
    exact ⟨j, List.mem_range.2 hj, by rw [hF, h, hn]; simp⟩

/-- The last loop's round. -/
theorem fails_round {b : List Cl} {F L M : List Nm} {P P2 Z q : Pd} {fn gn : Bool} {i : Nat} {J : Exit → St → Prop} (hlt : i < b.length) (hb4 : b.length ≤ 40)
    (hP2 : P2 = if b[i].d % 6 = 3 then P else doP P b[i]) (hgn : gn = (fn || decide (F = M))) (hp1 : P.pend.length ≤ 999999)
    (mS : sortN P2.now = M) (mN : ndN P2.now) (mQ : P2.now.length ≤ 1000000) (mB : M.length ≤ 1000000000)
    (zS : sortN Z.now = F) (zN : ndN Z.now) (zQ : Z.now.length ≤ 1000000) (tF : F.length ≤ 1000000000) :
    vwp Try.prog (tab [(1000014, tabU 0 996 fun x => none), (2000014, tabG [2, 0] GAll), (1000015, tabU 0 996 fun x => none),
        (2000015, tabG [2] GSync), (1000020, tabU 0 996 fun x => none), (2000020, tabG [2, 0] GFail), (3000019, GCop),
        (3000013, GNew), (17, GPen), (16, GLi), (21, GSa), (11, GFw), (18, GPk), (12, GWk)])
      (((AC.reg [AI.m 118 17, AI.m 119 1, AI.u 120 AK.len 119, AI.w 121 (AK.bin BinOp.lss) 118 120] false keep3).seq
          (AC.cond (Operand.tmp 121) AC.skip (AC.exit 2))).seq
      ((AC.block 3
            (((AC.reg
                      [AI.m 124 1, AI.m 125 17, AI.w 126 (AK.ixa 33 3) 124 125, AI.u 127 (AK.fad 0) 126,
                        AI.u 128 (AK.load none) 127, AI.c 129 (AK.call 18) 128 6, AI.c 130 (AK.bin BinOp.neq) 129 3]
                      false keep3).seq
                  (AC.cond (Operand.tmp 130)
                    (AC.reg
                      [AI.m 131 16, AI.m 132 1, AI.m 133 17, AI.m 134 17, AI.c 135 (AK.bin BinOp.add) 134 1,
                        AI.a 136 (AK.slc 3 true true) [Operand.tmp 132, Operand.tmp 133, Operand.tmp 135],
                        AI.w 137 (AK.call 14) 131 136]
                      false keep3)
                    AC.skip)).seq
              (AC.reg
                [AI.m 138 15, AI.m 139 138, AI.mg 140 14 139 false, AI.bu 141 (AK.call 16) 140 139 false,
                  AI.mg 142 16 139 false, AI.bu 143 (AK.call 16) 142 139 false,
                  AI.bw 144 (AK.call 21) 141 143 139 false, AI.po 145 139 144, AI.m 15 145]
                false keep3))).seq
        (AC.reg [AI.m 122 17, AI.c 123 (AK.bin BinOp.add) 122 1, AI.m 17 123] false keep3)))
      (fun st' => wk Try.prog [] st' ⟨[(1, .pv (.ro (rowsQ b))), (6, .pv (.bool false)), (7, .ptr 27 0), (11, .own 67), (14, .ptr 73 0), (15, .pv (.bool gn)), (16, .ptr 114 0), (17, .pv (.int .i64 ((i + 1 : Nat) : Int)))], [(114, .box [.own 1114, .own 2114, .own 3114]), (1114, .mpv (mfN P2.dur)), (2114, .mpv (mfN P2.now)), (3114, .arr 124 (rowsP P2.pend)), (73, .box [.own 1073, .own 2073, .own 3073]), (1073, .mpv (mfN Z.dur)), (2073, .mpv (mfN Z.now)), (3073, .arr 124 (rowsP [])), (67, .arr 116 (rowsN L)), (27, .box [.own 1027, .own 2027, .own 3027]), (1027, .mpv (mfN q.dur)), (2027, .mpv (mfN q.now)), (3027, .arr 124 (rowsP q.pend))]⟩) J
      (⟨look [(1, .pv (.ro (rowsQ b))), (6, .pv (.bool false)), (7, .ptr 27 0), (11, .own 67), (14, .ptr 73 0), (15, .pv (.bool fn)), (16, .ptr 114 0), (17, .pv (.int .i64 (i : Int)))], lookO [(114, .box [.own 1114, .own 2114, .own 3114]), (1114, .mpv (mfN P.dur)), (2114, .mpv (mfN P.now)), (3114, .arr 124 (rowsP P.pend)), (73, .box [.own 1073, .own 2073, .own 3073]), (1073, .mpv (mfN Z.dur)), (2073, .mpv (mfN Z.now)), (3073, .arr 124 (rowsP [])), (67, .arr 116 (rowsN L)), (27, .box [.own 1027, .own 2027, .own 3027]), (1027, .mpv (mfN q.dur)), (2027, .mpv (mfN q.now)), (3027, .arr 124 (rowsP q.pend))]⟩) := by
  have w2 : IntKind.i64.wrap ((i : Int) + 1) = (i : Int) + 1 := wrap_i64 (by omega)
  have r1 := rowsQ_at hlt
  have hsl := slc_Q b hlt
  subst hgn
  by_cases h3 : b[i].d % 6 = 3
  · rw [if_pos h3] at hP2
    subst hP2
    cases fn with
    | true =>
      apply vwp_cut
      · simp (config := { maxSteps := 3000000 }) [hlt]
        exact ⟨rfl, rfl⟩
      apply vwp_cut
      · rw [vwp_block]
        apply vwp_cut
        · simp (config := { maxSteps := 3000000 }) [hlt, r1, h3]
          exact ⟨rfl, rfl⟩
        simp (config := { maxSteps := 3000000 })
        exact ⟨rfl, rfl⟩
      simp (config := { maxSteps := 3000000 }) [w2]
    | false =>
      apply vwp_cut
      · simp (config := { maxSteps := 3000000 }) [hlt]
        exact ⟨rfl, rfl⟩
      apply vwp_cut
      · rw [vwp_block]
        apply vwp_cut
        · simp (config := { maxSteps := 3000000 }) [hlt, r1, h3]
          exact ⟨rfl, rfl⟩
        simp (config := { maxSteps := 3000000 }) [mS, mN, mQ, mB, zS, zN, zQ, tF, flat_rowsN]
        exact ⟨rfl, rfl⟩
      simp (config := { maxSteps := 3000000 }) [w2]
  · rw [if_neg h3] at hP2
    cases fn with
    | true =>
      apply vwp_cut
      · simp (config := { maxSteps := 3000000 }) [hlt]
        exact ⟨rfl, rfl⟩
      apply vwp_cut
      · rw [vwp_block]
        apply vwp_cut
        · simp (config := { maxSteps := 3000000 }) [hlt, r1, h3, w2, hsl, hp1, pdT, foldP_one, ← hP2]
          exact ⟨⟨by omega, by omega, rowsQ_three b⟩, rfl, rfl⟩
        simp (config := { maxSteps := 3000000 })
        exact ⟨rfl, rfl⟩
      simp (config := { maxSteps := 3000000 }) [w2]
    | false =>
      apply vwp_cut
      · simp (config := { maxSteps := 3000000 }) [hlt]
        exact ⟨rfl, rfl⟩
      apply vwp_cut
      · rw [vwp_block]
        apply vwp_cut
        · simp (config := { maxSteps := 3000000 }) [hlt, r1, h3, w2, hsl, hp1, pdT, foldP_one, ← hP2]
          exact ⟨⟨by omega, by omega, rowsQ_three b⟩, rfl, rfl⟩
        simp (config := { maxSteps := 3000000 }) [mS, mN, mQ, mB, zS, zN, zQ, tF, flat_rowsN]
        exact ⟨rfl, rfl⟩
      simp (config := { maxSteps := 3000000 }) [w2]

theorem c_dirFails (a b : List Cl) (k : Int) (ha : a.length ≤ maxLen) (hb : b.length ≤ maxLen) : Con Try.prog 3 [] [.pv (.ro (rowsQ a)), .pv (.ro (rowsQ b)), .pv (.int .i64 k)] [] (.pv (.bool true)) := by
  refine con_of (tab_consG (ks := [2, 0]) c_all (by kernel_rfl) (tab_consG (ks := [2]) c_Sync (by kernel_rfl) (tab_consG (ks := [2, 0]) c_Fail (by kernel_rfl) (tab_consR c_Cop (by kernel_rfl) (tab_consR c_New (by kernel_rfl) (tab_cons c_Pen (tab_cons c_Li (tab_cons c_Al (tab_cons c_Fw (tab_cons c_Pk (tab_cons c_wk tab_nil))))))))))) (by kernel_rfl) fn3 (by simp) ?_
  unfold body3
  apply vwp_cut
  · simp (config := { maxSteps := 3000000 })
    exact ⟨rfl, rfl⟩
  cases hfa : fewQ a 40 with
  | false => simp (config := { maxSteps := 3000000 }) [ha, hb, hfa]
  | true =>
  cases hfb : fewQ b 40 with
  | false => simp (config := { maxSteps := 3000000 }) [ha, hb, hfa, hfb]
  | true =>
  have ha4 : a.length ≤ 40 := by
    have := (Bool.and_eq_true _ _ ▸ hfa : _ ∧ _).2
    simp at this; omega
  have hb4 : b.length ≤ 40 := by
    have := (Bool.and_eq_true _ _ ▸ hfb : _ ∧ _).2
    simp at this; omega
  apply vwp_cut
  · simp (config := { maxSteps := 3000000 }) [ha, hb, hfa, hfb]
    exact ⟨rfl, rfl⟩
  apply vwp_cut
  · simp (config := { maxSteps := 3000000 }) [pdT]
    exact ⟨rfl, rfl⟩
  -- the directory behind the calls ahead
  obtain ⟨p0, hp0⟩ : ∃ p0, p0 = foldP ⟨[], [], []⟩ a := ⟨_, rfl⟩
  obtain ⟨r0, hr0⟩ : ∃ r0, r0 = foldR ⟨[], []⟩ a := ⟨_, rfl⟩
  have hl0 := foldR_len ⟨[], []⟩ a
  have e0 : (Dr.now ⟨[], []⟩).length = 0 := rfl
  rw [e0, ← hr0, List.length_nil] at hl0
  have s0 : Sm p0 r0 := ⟨by rw [hp0, hr0]; exact Is.new.fold, by omega, by omega⟩
  have ha5 : a.length ≤ 1000000 := by omega
  apply vwp_cut
  · simp (config := { maxSteps := 3000000 }) [← hp0, pdT, ha5]
    exact ⟨rfl, rfl⟩
  obtain ⟨q0, hq0⟩ : ∃ q0, q0 = failP p0 p0.pend.length := ⟨_, rfl⟩
  obtain ⟨D, hD⟩ : ∃ D, D = r0.now := ⟨_, rfl⟩
  have eD : Dr.now ⟨D, []⟩ = D := rfl
  have t0 : Sm q0 ⟨D, []⟩ := ⟨by rw [hq0, hD]; exact s0.is.sync, by rw [eD, hD]; exact s0.n, Nat.zero_le _⟩
  have hq0p : q0.pend = [] := by rw [hq0]; rfl
  apply vwp_cut
  · simp (config := { maxSteps := 3000000 }) [← hq0, pdT, s0.pend]
    exact ⟨rfl, rfl⟩
  have hs0 : sortN q0.now = D := t0.sort
  apply vwp_cut
  · simp (config := { maxSteps := 3000000 }) [t0.nd, t0.len, hs0, flat_rowsN]
    exact ⟨rfl, rfl⟩
  apply vwp_cut
  · simp (config := { maxSteps := 3000000 }) [hq0p]
    exact ⟨rfl, rfl⟩
  apply vwp_cut
  · simp (config := { maxSteps := 3000000 })
    exact ⟨rfl, rfl⟩
  have tn : ∀ i, i ≤ b.length → Sm (foldPn q0 (b.take i)) (foldRn ⟨D, []⟩ (b.take i)) := fun i hi => by
    have h1 := foldRn_len ⟨D, []⟩ (b.take i)
    have h2 : (b.take i).length ≤ 40 := by rw [List.length_take]; omega
    have h3 := t0.n
    rw [eD] at h1 h3
    have h4 : D.length ≤ 40 := by rw [hD]; omega
    exact ⟨t0.is.foldn, by omega, by simp only [List.length_nil] at h1; omega⟩
  apply vwp_cut
  · simp (config := { maxSteps := 3000000 })
    refine vwp_loop (fun i : Nat => i ≤ b.length) (fun i => ⟨[(0, .pv (.ro (rowsQ a))), (1, .pv (.ro (rowsQ b))), (2, .pv (.int .i64 k)), (6, .pv (.bool false)), (7, .ptr 27 0), (8, .own 34), (9, .pv (.int .i64 ((foldPn q0 (b.take i)).pend.length : Int))), (10, .pv (.int .i64 (i : Int)))], [(27, .box [.own 1027, .own 2027, .own 3027]), (1027, .mpv (mfN (foldPn q0 (b.take i)).dur)), (2027, .mpv (mfN (foldPn q0 (b.take i)).now)), (3027, .arr 124 (rowsP (foldPn q0 (b.take i)).pend)), (34, .arr 116 (rowsN D))]⟩) (fun i => b.length - i) [] 0 (by simp) ?_ ?_
    · simp
      rw [show foldPn q0 [] = q0 from rfl, hq0p]
      exact ⟨rfl, rfl, rfl, rfl⟩
    · intro i hi
      have w2 : IntKind.i64.wrap ((i : Int) + 1) = (i : Int) + 1 := wrap_i64 (by omega)
      by_cases hlt : i < b.length
      · have r1 := rowsQ_at hlt
        have hst := foldPn_take (r := q0) hlt
        have hi1 := tn i hi
        by_cases h3 : b[i].d % 6 = 3
        · rw [if_pos h3] at hst
          simp (config := { maxSteps := 3000000 }) [hlt, r1, w2, h3]
          exact ⟨i + 1, by omega, ⟨⟨by rw [hst], by omega⟩, by rw [hst], by rw [hst], by rw [hst]⟩, by omega⟩
        · have hrt := foldRn_take (r := ⟨D, []⟩) hlt
          rw [if_neg h3] at hst hrt
          have hi2 := tn (i + 1) hlt
          have hmo := foldRn_mono ⟨D, []⟩ (b.take i) b[i]
          rw [← List.take_succ_eq_append_getElem hlt, ← hi1.is.pend, ← hi2.is.pend] at hmo
          rw [hst] at hmo hi2
          have hsl := slc_Q b hlt
          have hp1 : (foldPn q0 (b.take i)).pend.length + 1 ≤ 1000000 := by rw [hi1.is.pend]; have := hi1.m; omega
          generalize foldPn q0 (b.take i) = P at *
          have hmx : max (P.pend.length : Int) ((doP P b[i]).pend.length : Int) = ((doP P b[i]).pend.length : Int) := by omega
          simp (config := { maxSteps := 3000000 }) [hlt, r1, w2, h3, hsl, hp1, pdT, foldP_one, hmx]
          exact ⟨⟨by omega, by omega, rowsQ_three b⟩, by omega, i + 1, by omega, ⟨⟨by rw [hst], by omega⟩, by rw [hst], by rw [hst], by rw [hst]⟩, by omega⟩
      · have hia : i = b.length := by omega
        subst hia
        simp (config := { maxSteps := 3000000 })
        exact ⟨rfl, rfl⟩
  -- behind the calls behind
  have tq := tn b.length (Nat.le_refl _)
  rw [List.take_length] at tq
  have hrd : (foldRn ⟨D, []⟩ b).d = D := foldRn_d _ _
  obtain ⟨r, hr⟩ : ∃ r, r = foldRn ⟨D, []⟩ b := ⟨_, rfl⟩
  rw [← hr] at tq hrd
  obtain ⟨q, hq⟩ : ∃ q, q = foldPn q0 b := ⟨_, rfl⟩
  rw [← hq] at tq ⊢
  obtain ⟨L, hL⟩ : ∃ L, L = r.now := ⟨_, rfl⟩
  have hsq : sortN q.now = L := by rw [tq.sort, hL]
  have tL : L.length ≤ 1000000000 := by rw [hL]; exact tq.big
  have tD : D.length ≤ 1000000000 := by rw [hD]; exact s0.big
  apply vwp_cut
  · simp (config := { maxSteps := 3000000 }) [tq.nd, tq.len, hsq, flat_rowsN]
    exact ⟨rfl, rfl⟩
  apply vwp_cut
  · simp (config := { maxSteps := 3000000 }) [tq.pend, pdT]
    exact ⟨rfl, rfl⟩
  have hlen : ∀ j : Nat, (aftA D (r.m.take j)).length ≤ 1000000 := fun j => by
    have h1 := aftA_len (r.m.take j) D
    have h2 := tq.m
    rw [List.length_take] at h1
    have h4 : D.length ≤ 40 := by rw [hD]; omega
    omega
  have hIs : ∀ j : Nat, Rm (failP q j).now (aftA D (r.m.take j)) := fun j => by
    have := (tq.is.fail j).now
    unfold failR Dr.now at this
    rw [hrd, Int.toNat_natCast] at this
    exact this
  have hS : ∀ j : Nat, sortN (failP q j).now = aftA D (r.m.take j) := fun j => (hIs j).sort
  have hN : ∀ j : Nat, ndN (failP q j).now := fun j => (hIs j).nd
  have hQ : ∀ j : Nat, (failP q j).now.length ≤ 1000000 := fun j => by rw [(hIs j).1.length_eq]; exact hlen j
  have hP : ∀ j : Nat, (failP q j).pend = [] := fun _ => rfl
  obtain ⟨X, hX⟩ : ∃ X, X = failP q q.pend.length := ⟨_, rfl⟩
  obtain ⟨Y, hY⟩ : ∃ Y, Y = failP q 0 := ⟨_, rfl⟩
  obtain ⟨Z, hZ⟩ : ∃ Z, Z = failP q k.toNat := ⟨_, rfl⟩
  obtain ⟨F, hF⟩ : ∃ F, F = aftA D (r.m.take k.toNat) := ⟨_, rfl⟩
  have xS : sortN X.now = L := by
    rw [hX, hS, hL, tq.is.pend, List.take_length]
    show aftA D r.m = aftA r.d r.m
    rw [hrd]
  have yS : sortN Y.now = D := by rw [hY, hS]; rfl
  have zS : sortN Z.now = F := by rw [hZ, hS, hF]
  have tF : F.length ≤ 1000000000 := by rw [hF]; exact Nat.le_trans (hlen _) (by decide)
  have xN : ndN X.now := by rw [hX]; exact hN _
  have yN : ndN Y.now := by rw [hY]; exact hN _
  have zN : ndN Z.now := by rw [hZ]; exact hN _
  have xQ : X.now.length ≤ 1000000 := by rw [hX]; exact hQ _
  have yQ : Y.now.length ≤ 1000000 := by rw [hY]; exact hQ _
  have zQ : Z.now.length ≤ 1000000 := by rw [hZ]; exact hQ _
  have xP : X.pend = [] := by rw [hX]; rfl
  have yP : Y.pend = [] := by rw [hY]; rfl
  have zP : Z.pend = [] := by rw [hZ]; rfl
  apply vwp_cut
  · simp (config := { maxSteps := 3000000 }) [tq.pend, ← hX, pdT]
    exact ⟨rfl, rfl⟩
  apply vwp_cut
  · simp (config := { maxSteps := 3000000 }) [tq.pend, ← hY, pdT]
    exact ⟨rfl, rfl⟩
  apply vwp_cut
  · simp (config := { maxSteps := 3000000 }) [tq.pend, ← hZ, pdT]
    exact ⟨rfl, rfl⟩
  apply vwp_cut
  · rw [vwp_seq]
    apply vwp_at
    · refine (show stepsX _ _ _ _ _ from ?_)
      apply stepsX_spl 6 rfl rfl
      · simp (config := { maxSteps := 3000000 }) [xS, xN, xQ, tL, flat_rowsN]
        exact ⟨rfl, rfl⟩
      apply stepsX_spl 7 rfl rfl
      · simp (config := { maxSteps := 3000000 }) [yS, yN, yQ, tD, flat_rowsN]
        exact ⟨rfl, rfl⟩
      apply stepsX_spl 5 rfl rfl
      · simp (config := { maxSteps := 3000000 }) [xP]
        exact ⟨rfl, rfl⟩
      apply stepsX_spl 5 rfl rfl
      · simp (config := { maxSteps := 3000000 }) [yP]
        exact ⟨rfl, rfl⟩
      simp (config := { maxSteps := 3000000 }) [zP]
      exact ⟨rfl, rfl⟩
    apply vwp_cF rfl
    simp (config := { maxSteps := 3000000 })
    exact ⟨rfl, rfl⟩
  apply vwp_cut
  · simp (config := { maxSteps := 3000000 }) [zS, zN, zQ, tF, tD, flat_rowsN]
    exact ⟨rfl, rfl⟩
  apply vwp_cut
  · simp (config := { maxSteps := 3000000 }) [pdT]
    exact ⟨rfl, rfl⟩
  apply vwp_cut
  · simp (config := { maxSteps := 3000000 }) [← hp0, pdT, ha5]
    exact ⟨rfl, rfl⟩
  have te : ∀ i, i ≤ b.length → Sm (foldPn p0 (b.take i)) (foldRn r0 (b.take i)) := fun i hi => by
    have h1 := foldRn_len r0 (b.take i)
    have h2 : (b.take i).length ≤ 40 := by rw [List.length_take]; omega
    exact ⟨s0.is.foldn, by omega, by omega⟩
  apply vwp_cut
  · simp (config := { maxSteps := 3000000 })
    refine vwp_loop (fun i : Nat => i ≤ b.length) (fun i => ⟨[(1, .pv (.ro (rowsQ b))), (6, .pv (.bool false)), (7, .ptr 27 0), (11, .own 67), (14, .ptr 73 0), (15, .pv (.bool (fndB D F r0 b i))), (16, .ptr 114 0), (17, .pv (.int .i64 (i : Int)))], [(114, .box [.own 1114, .own 2114, .own 3114]), (1114, .mpv (mfN (foldPn p0 (b.take i)).dur)), (2114, .mpv (mfN (foldPn p0 (b.take i)).now)), (3114, .arr 124 (rowsP (foldPn p0 (b.take i)).pend)), (73, .box [.own 1073, .own 2073, .own 3073]), (1073, .mpv (mfN Z.dur)), (2073, .mpv (mfN Z.now)), (3073, .arr 124 (rowsP [])), (67, .arr 116 (rowsN L)), (27, .box [.own 1027, .own 2027, .own 3027]), (1027, .mpv (mfN q.dur)), (2027, .mpv (mfN q.now)), (3027, .arr 124 (rowsP q.pend))]⟩) (fun i => b.length - i) [] 0 (by simp) ?_ ?_
    · simp
      exact ⟨by simp [fndB], rfl, rfl, rfl⟩
    · intro i hi
      by_cases hlt : i < b.length
      · have hi1 := te i hi
        have hi2 := te (i + 1) hlt
        have hp1 : (foldPn p0 (b.take i)).pend.length ≤ 999999 := by rw [hi1.is.pend]; have := hi1.m; omega
        exact vwp_mono (fun st' h => ⟨i + 1, hlt, h, by omega⟩) (fun _ _ h => h) (fails_round hlt hb4 (foldPn_take hlt) (fndB_succ D F r0 b i) hp1 hi2.sort hi2.nd hi2.len hi2.big zS zN zQ tF)
      · have hia : i = b.length := by omega
        subst hia
        simp (config := { maxSteps := 3000000 })
        exact ⟨rfl, rfl⟩
  have hfe : fndB D F r0 b b.length = true := fndB_end hD.symm (by rw [hF, hr])
  simp (config := { maxSteps := 3000000 }) [hfe, tq.nd, tq.len, hsq, tL, flat_rowsN]

end Go.Proofs.Ythblkhafehanfaa.Ab
