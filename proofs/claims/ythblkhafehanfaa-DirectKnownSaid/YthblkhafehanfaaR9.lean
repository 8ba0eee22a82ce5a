/- Chapter 8: what the laws share: Pick, few, same, alike, is. -/
import Derived.Test.YthblkhafehanfaaR7
import Derived.Test.YthblkhafehanfaaCodeE
namespace Go.Proofs.Ythblkhafehanfaa.Ab
open Go Go.RowKit R
set_option linter.unusedVariables false
set_option linter.unusedSimpArgs false
set_option maxHeartbeats 4000000
set_option maxRecDepth 100000

/-! ### Rows of calls -/
def rowQ (x : Cl) : List PV := [.int .i64 x.d, .str x.n, .int .i64 x.k]
theorem rowQ_inj : ∀ a b, rowQ a = rowQ b → a = b := by
  rintro ⟨d, n, k⟩ ⟨d', n', k'⟩ h
  simp only [rowQ, List.cons.injEq, PV.int.injEq, PV.str.injEq, true_and, and_true] at h
  rw [h.1, h.2.1, h.2.2]
def rowsQ (l : List Cl) : List (List PV) := l.map rowQ
@[simp] theorem rowsQ_nil : rowsQ [] = [] := rfl
@[simp] theorem rowsQ_length (l : List Cl) : (rowsQ l).length = l.length := by simp [rowsQ]
theorem rowsQ_append (l m : List Cl) : rowsQ (l ++ m) = rowsQ l ++ rowsQ m := by simp [rowsQ]
theorem rowsQ_at {l : List Cl} {i : Nat} (h : i < l.length) : rowAt (rowsQ l) (i : Int) = [.int .i64 l[i].d, .str l[i].n, .int .i64 l[i].k] := by
  simp [rowAt, rowsQ, h, rowQ]
@[simp] theorem dec_rowsQ (l : List Cl) : dec rowQ (rowsQ l) = some l := dec_map rowQ_inj l

theorem dec_rowsQ_inv {rows : List (List PV)} {l : List Cl} (h : dec rowQ rows = some l) : rows = rowsQ l := dec_inv h

/-! ### Pick -/
theorem pick_eq (i : Int) : (IntKind.i64.wrap (i.tmod 6 + 6)).tmod 6 = i % 6 := by
  have h1 : i.tmod 6 = if 0 ≤ i then i % 6 else -((-i) % 6) := by
    split
    · rename_i h; exact Int.tmod_eq_emod_of_nonneg h
    · rename_i h
      have e := Int.neg_tmod (-i) 6
      rw [Int.neg_neg] at e
      rw [e, Int.tmod_eq_emod_of_nonneg (by omega)]
  have h2 : 0 ≤ i.tmod 6 + 6 ∧ i.tmod 6 + 6 < 12 := by rw [h1]; split <;> omega
  rw [wrap_i64 (by omega), Int.tmod_eq_emod_of_nonneg h2.1, h1]
  split <;> omega
noncomputable def GPk : List AV → Option (Prop × AV)
  | [.pv (.int .i64 i), .pv (.int .i64 m)] => if m = 6 then some (True, .pv (.int .i64 (i % 6))) else none
  | _ => none
@[simp] theorem GPk_eq (i m : Int) : GPk [.pv (.int .i64 i), .pv (.int .i64 m)] = if m = 6 then some (True, .pv (.int .i64 (i % 6))) else none := rfl
theorem c_Pk : ConT Try.prog 18 GPk := by
  intro ys φ r h hφ
  unfold GPk at h
  split at h
  · rename_i i m
    split at h
    · rename_i hm
      subst hm
      cases h
      refine con_of tab_nil (by kernel_rfl) fn18 (by simp) ?_
      unfold body18
      simp (config := { maxSteps := 3000000 })
      exact pick_eq i
    · cases h
  · cases h

/-! ### few -/
def fewQ (l : List Cl) (m : Int) : Bool := l.all (fun x => decide (x.n.length ≤ 80)) && decide ((l.length : Int) ≤ m)
noncomputable def GFw : List AV → Option (Prop × AV)
  | [.pv (.ro a), .pv (.int .i64 m)] => (dec rowQ a).map fun l => (l.length ≤ maxLen, .pv (.bool (fewQ l m)))
  | _ => none
@[simp] theorem GFw_eq (a : List (List PV)) (m : Int) : GFw [.pv (.ro a), .pv (.int .i64 m)] = (dec rowQ a).map fun l => (l.length ≤ maxLen, .pv (.bool (fewQ l m))) := rfl
theorem c_Fw : ConT Try.prog 11 GFw := by
  intro ys φ r h hφ
  unfold GFw at h
  split at h
  · rename_i ra m
    obtain ⟨a, ha, h⟩ := Option.map_eq_some_iff.1 h
    cases h
    cases dec_rowsQ_inv ha
    refine con_of tab_nil (by kernel_rfl) fn11 (by simp) ?_
    unfold body11
    simp (config := { maxSteps := 3000000 })
    refine vwp_loop (fun i : Nat => i ≤ a.length ∧ ∀ (j : Nat) (h : j < a.length), j < i → a[j].n.length ≤ 80) (fun i => ⟨[(0, .pv (.ro (rowsQ a))), (1, .pv (.int .i64 m)), (4, .pv (.bool false)), (5, .pv (.int .i64 i))], []⟩) (fun i => a.length - i) [] 0 (by simp) ?_ ?_
    · simp
    · rintro i ⟨hi, hj⟩
      by_cases hlt : i < a.length
      · have w2 : IntKind.i64.wrap ((i : Int) + 1) = (i : Int) + 1 := wrap_i64 (by rw [maxLen_eq] at hφ; omega)
        have r1 := rowsQ_at hlt
        by_cases he : a[i].n.length ≤ 80
        · have he2 : ((a[i].n.length : Int) ≤ 80) = True := by simp; omega
          have he3 : ¬ (80 : Int) < (a[i].n.length : Int) := by omega
          simp (config := { maxSteps := 3000000 }) [hlt, r1, he2, he3, w2]
          refine ⟨i + 1, ⟨by omega, fun j h hji => ?_⟩, by omega, by omega⟩
          rcases Nat.lt_or_eq_of_le (Nat.le_of_lt_succ hji) with h1 | rfl
          · exact hj j h h1
          · exact he
        · have he2 : ((a[i].n.length : Int) ≤ 80) = False := by simp; omega
          have he3 : (80 : Int) < (a[i].n.length : Int) := by omega
          have hx : fewQ a m = false := by
            unfold fewQ
            rw [List.all_eq_false.2 ⟨a[i], List.getElem_mem hlt, by simpa using he⟩]
            rfl
          simp (config := { maxSteps := 3000000 }) [hlt, r1, he2, he3, hx]
      · have hia : i = a.length := by omega
        subst hia
        have hx : fewQ a m = decide ((a.length : Int) ≤ m) := by
          unfold fewQ
          rw [List.all_eq_true.2 fun x hx => by
            obtain ⟨j, h, rfl⟩ := List.getElem_of_mem hx
            simpa using hj j h h]
          rfl
        simp (config := { maxSteps := 3000000 }) [hx]
  · cases h

/-! ### same, alike -/
theorem rows_ne {a b : List Nm} (h : a.length = b.length) (hn : a ≠ b) : ∃ (i : Nat) (h1 : i < a.length) (h2 : i < b.length), a[i] ≠ b[i] := by
  apply Classical.byContradiction
  intro hc
  exact hn (List.ext_getElem h fun i h1 h2 => Classical.byContradiction fun hne => hc ⟨i, h1, h2, hne⟩)
noncomputable def GSa : List AV → Option (Prop × AV)
  | [.pv (.ro a), .pv (.ro b)] => (dec rowN a).bind fun l => (dec rowN b).map fun m => (l.length ≤ 1000000000 ∧ m.length ≤ 1000000000, .pv (.bool (decide (l = m))))
  | _ => none
@[simp] theorem GSa_eq (a b : List (List PV)) : GSa [.pv (.ro a), .pv (.ro b)] = (dec rowN a).bind fun l => (dec rowN b).map fun m => (l.length ≤ 1000000000 ∧ m.length ≤ 1000000000, .pv (.bool (decide (l = m)))) := rfl
theorem c_Sa : ConT Try.prog 64 GSa := by
  intro ys φ r h hφ
  unfold GSa at h
  split at h
  · rename_i ra rb
    obtain ⟨a, ha, h⟩ := Option.bind_eq_some_iff.1 h
    obtain ⟨b, hb, h⟩ := Option.map_eq_some_iff.1 h
    cases h
    cases dec_rowsN_inv ha
    cases dec_rowsN_inv hb
    obtain ⟨h5, h6⟩ := hφ
    refine con_of tab_nil (by kernel_rfl) fn64 (by simp) ?_
    unfold body64
    by_cases hl : a.length = b.length
    · simp (config := { maxSteps := 3000000 }) [hl]
      refine vwp_loop (fun i : Nat => i ≤ a.length ∧ ∀ (j : Nat) (h : j < a.length) (h2 : j < b.length), j < i → a[j] = b[j]) (fun i => ⟨[(0, .pv (.ro (rowsN a))), (1, .pv (.ro (rowsN b))), (4, .pv (.bool false)), (5, .pv (.int .i64 i))], []⟩) (fun i => a.length - i) [] 0 (by simp) ?_ ?_
      · simp
      · rintro i ⟨hi, hj⟩
        have w2 : IntKind.i64.wrap ((i : Int) + 1) = (i : Int) + 1 := wrap_i64 (by omega)
        by_cases hlt : i < a.length
        · have hlb : i < b.length := by omega
          have r1 := rowsN_at hlt
          have r2 := rowsN_at hlb
          by_cases he : a[i] = b[i]
          · have e1 : a[i].n = b[i].n := by rw [he]
            have e2 : a[i].i = b[i].i := by rw [he]
            simp (config := { maxSteps := 3000000 }) [hl, hlt, hlb, r1, r2, e1, e2, w2]
            refine ⟨i + 1, ⟨by omega, fun j h h2 hji => ?_⟩, by omega, by omega⟩
            rcases Nat.lt_or_eq_of_le (Nat.le_of_lt_succ hji) with h1 | rfl
            · exact hj j (by omega) (by omega) h1
            · exact he
          · have hx : ¬ a = b := fun e => by subst e; exact he rfl
            by_cases e1 : a[i].n = b[i].n
            · have e2 : ¬ a[i].i = b[i].i := fun e2 => he (by
                have : ∀ x y : Nm, x.n = y.n → x.i = y.i → x = y := by rintro ⟨_, _⟩ ⟨_, _⟩ rfl rfl; rfl
                exact this _ _ e1 e2)
              simp (config := { maxSteps := 3000000 }) [hl, hlt, hlb, r1, r2, e1, e2, hx]
            · simp (config := { maxSteps := 3000000 }) [hl, hlt, hlb, r1, r2, e1, hx]
        · have hia : i = a.length := by omega
          subst hia
          have hx : a = b := List.ext_getElem hl fun j h1 h2 => hj j h1 h2 h1
          simp (config := { maxSteps := 3000000 }) [hx]
    · have hx : ¬ a = b := fun e => hl (by rw [e])
      have hl2 : ¬ (a.length : Int) = (b.length : Int) := by omega
      simp (config := { maxSteps := 3000000 }) [hl, hl2, hx]
  · cases h

theorem c_Al : ConT Try.prog 21 GSa := by
  intro ys φ r h hφ
  unfold GSa at h
  split at h
  · rename_i ra rb
    obtain ⟨a, ha, h⟩ := Option.bind_eq_some_iff.1 h
    obtain ⟨b, hb, h⟩ := Option.map_eq_some_iff.1 h
    cases h
    cases dec_rowsN_inv ha
    cases dec_rowsN_inv hb
    obtain ⟨h5, h6⟩ := hφ
    refine con_of tab_nil (by kernel_rfl) fn21 (by simp) ?_
    unfold body21
    by_cases hl : a.length = b.length
    · simp (config := { maxSteps := 3000000 }) [hl]
      refine vwp_loop (fun i : Nat => i ≤ a.length ∧ ∀ (j : Nat) (h : j < a.length) (h2 : j < b.length), j < i → a[j] = b[j]) (fun i => ⟨[(0, .pv (.ro (rowsN a))), (1, .pv (.ro (rowsN b))), (4, .pv (.bool false)), (5, .pv (.int .i64 i))], []⟩) (fun i => a.length - i) [] 0 (by simp) ?_ ?_
      · simp
      · rintro i ⟨hi, hj⟩
        have w2 : IntKind.i64.wrap ((i : Int) + 1) = (i : Int) + 1 := wrap_i64 (by omega)
        by_cases hlt : i < a.length
        · have hlb : i < b.length := by omega
          have r1 := rowsN_at hlt
          have r2 := rowsN_at hlb
          by_cases he : a[i] = b[i]
          · have e1 : a[i].n = b[i].n := by rw [he]
            have e2 : a[i].i = b[i].i := by rw [he]
            simp (config := { maxSteps := 3000000 }) [hl, hlt, hlb, r1, r2, e1, e2, w2, eqPs, eqP]
            refine ⟨i + 1, ⟨by omega, fun j h h2 hji => ?_⟩, by omega, by omega⟩
            rcases Nat.lt_or_eq_of_le (Nat.le_of_lt_succ hji) with h1 | rfl
            · exact hj j (by omega) (by omega) h1
            · exact he
          · have hx : ¬ a = b := fun e => by subst e; exact he rfl
            by_cases e1 : a[i].n = b[i].n
            · have e2 : ¬ a[i].i = b[i].i := fun e2 => he (by
                have : ∀ x y : Nm, x.n = y.n → x.i = y.i → x = y := by rintro ⟨_, _⟩ ⟨_, _⟩ rfl rfl; rfl
                exact this _ _ e1 e2)
              simp (config := { maxSteps := 3000000 }) [hl, hlt, hlb, r1, r2, e1, e2, hx, eqPs, eqP]
            · simp (config := { maxSteps := 3000000 }) [hl, hlt, hlb, r1, r2, e1, hx, eqPs, eqP]
        · have hia : i = a.length := by omega
          subst hia
          have hx : a = b := List.ext_getElem hl fun j h1 h2 => hj j h1 h2 h1
          simp (config := { maxSteps := 3000000 }) [hx]
    · have hx : ¬ a = b := fun e => hl (by rw [e])
      have hl2 : ¬ (a.length : Int) = (b.length : Int) := by omega
      simp (config := { maxSteps := 3000000 }) [hl, hl2, hx]
  · cases h

end Go.Proofs.Ythblkhafehanfaa.Ab
/- Chapter 8: what the laws share: is, all. -/
namespace Go.Proofs.Ythblkhafehanfaa.Ab
open Go Go.RowKit R
set_option linter.unusedVariables false
set_option linter.unusedSimpArgs false
set_option maxHeartbeats 4000000
set_option maxRecDepth 100000

def isB (p : Pd) (l : List Nm) (m : List Ac) : Bool := decide (sortN p.now = aftA l m) && decide (p.pend.length = m.length)
noncomputable def GIs : List AV → Option (Prop × AV)
  | [y, .agg [.pv (.ro a), .pv (.ro b)]] => (decR y).bind fun p => (dec rowN a).bind fun l => (dec rowA b).map fun m => (ndN p.now ∧ p.now.length ≤ 1000000 ∧ l.length ≤ 10000 ∧ m.length ≤ 10000, .pv (.bool (isB p l m)))
  | _ => none
@[simp] theorem GIs_eq (y : AV) (a b : List (List PV)) : GIs [y, .agg [.pv (.ro a), .pv (.ro b)]] = (decR y).bind fun p => (dec rowN a).bind fun l => (dec rowA b).map fun m => (ndN p.now ∧ p.now.length ≤ 1000000 ∧ l.length ≤ 10000 ∧ m.length ≤ 10000, .pv (.bool (isB p l m))) := rfl
theorem c_Is : ConT Try.prog 23 GIs := by
  intro ys φ r h hφ
  unfold GIs at h
  split at h
  · rename_i y ra rb
    rw [Option.bind_eq_some_iff] at h
    obtain ⟨p, hp, h⟩ := h
    rw [Option.bind_eq_some_iff] at h
    obtain ⟨l, ha, h⟩ := h
    obtain ⟨m, hb, h⟩ := Option.map_eq_some_iff.1 h
    cases h
    cases decR_inv hp
    cases dec_rowsN_inv ha
    cases dec_rowsA_inv hb
    obtain ⟨d, b, c⟩ := p
    obtain ⟨hn, h6, h7, h8⟩ : ndN b ∧ b.length ≤ 1000000 ∧ l.length ≤ 10000 ∧ m.length ≤ 10000 := hφ
    have h9 : l.length ≤ 100000 := by omega
    have h10 : m.length ≤ 100000 := by omega
    have h11 := aftA_len m l
    have h12 : (aftA l m).length ≤ 1000000000 := by omega
    have h13 : (sortN b).length = b.length := (sortN_perm b).length_eq
    have h14 : b.length ≤ 1000000000 := by omega
    have hx : isB ⟨d, b, c⟩ l m = (decide (sortN b = aftA l m) && decide (c.length = m.length)) := rfl
    refine con_of (tab_cons c_Li (tab_cons c_rLi (tab_cons c_Sa (tab_cons c_Pen tab_nil)))) (by kernel_rfl) fn23 (by simp) ?_
    unfold body23
    rw [hx]
    generalize hq : (decide (sortN b = aftA l m) && decide (c.length = m.length)) = q at *
    simp (config := { maxSteps := 3000000 }) [pdR, hn, h6, h9, h10, h12, h13, h14, hq]
    have hq2 : (decide (sortN b = aftA l m) && decide ((c.length : Int) = (m.length : Int))) = q := by rw [← hq]; congr 1; simp only [decide_eq_decide]; omega
    rw [hq2]
    refine vwp_loop (fun i : Nat × List Nm => i.1 ≤ b.length ∧ i.2.length = b.length) (fun i => ⟨[(5, .own 9), (6, .pv (.bool q)), (7, .pv (.int .i64 (i.1 : Int)))], [(9, .arr 116 (rowsN i.2))]⟩) (fun i => b.length - i.1) [] (0, sortN b) (by simp [h13]) ?_ ?_
    · simp
    · rintro ⟨i, x⟩ ⟨hi, hxl⟩
      have hi : i ≤ b.length := hi
      have hxl : x.length = b.length := hxl
      have w2 : IntKind.i64.wrap ((i : Int) + 1) = (i : Int) + 1 := wrap_i64 (by omega)
      by_cases hlt : i < b.length
      · have hset : (rowsN x).set i [PV.str [], .int .i64 0] = rowsN (x.set i ⟨[], 0⟩) := by
          unfold rowsN; rw [List.map_set]; rfl
        have r1 := rowsN_at (l := x) (i := i) (by omega)
        simp (config := { maxSteps := 3000000 }) [hlt, hxl, w2, hset, r1]
        exact ⟨i + 1, x.set i ⟨[], 0⟩, ⟨by omega, by rw [List.length_set, hxl]⟩, ⟨by omega, rfl⟩, by omega⟩
      · have hib : i = b.length := by omega
        subst hib
        simp (config := { maxSteps := 3000000 }) [hxl]
  · cases h

noncomputable def GAll : List AV → Option (Prop × AV)
  | [.tup [y], .pv (.ro a)] => (decT y).bind fun p => (dec rowQ a).map fun l => (p.pend.length + l.length ≤ 1000000, .clo 0 [.tup [], pdT (foldP p l)])
  | _ => none
@[simp] theorem GAll_eq (y : AV) (a : List (List PV)) : GAll [.tup [y], .pv (.ro a)] = (decT y).bind fun p => (dec rowQ a).map fun l => (p.pend.length + l.length ≤ 1000000, .clo 0 [.tup [], pdT (foldP p l)]) := rfl
theorem doP_pend (p : Pd) (q : Cl) : (doP p q).pend.length ≤ p.pend.length + 1 := by
  unfold doP
  split
  · unfold addP
    split
    · exact Nat.le_add_right _ _
    split
    · exact Nat.le_add_right _ _
    · rw [List.length_append]; exact Nat.le_refl _
  split
  · unfold remP
    split
    · exact Nat.le_add_right _ _
    · rw [List.length_append]; exact Nat.le_refl _
  split
  · exact Nat.zero_le _
  · exact Nat.le_add_right _ _
theorem foldP_snoc (p : Pd) (l : List Cl) (q : Cl) : foldP p (l ++ [q]) = doP (foldP p l) q := by simp [foldP, List.foldl_append]
theorem foldP_take {p : Pd} {l : List Cl} {i : Nat} (h : i < l.length) : foldP p (l.take (i + 1)) = doP (foldP p (l.take i)) l[i] := by
  rw [List.take_succ_eq_append_getElem h, foldP_snoc]
theorem foldP_pend (p : Pd) : ∀ l : List Cl, (foldP p l).pend.length ≤ p.pend.length + l.length :=
  snocRec (p := fun l => (foldP p l).pend.length ≤ p.pend.length + l.length) (Nat.le_refl _) fun l q ih => by
    rw [foldP_snoc, List.length_append]
    have := doP_pend (foldP p l) q
    simp only [List.length_cons, List.length_nil]
    omega
theorem c_all : ConTG Try.prog 14 GAll := by
  intro ys φ r h hφ
  unfold GAll at h
  split at h
  · rename_i y ra
    rw [Option.bind_eq_some_iff] at h
    obtain ⟨p, hp, h⟩ := h
    obtain ⟨l, hl, h⟩ := Option.map_eq_some_iff.1 h
    cases h
    cases decT_inv hp
    cases dec_rowsQ_inv hl
    refine con_ofG (tab_cons c_Pk (tab_consG (ks := [2, 0, 0]) c_Add (by kernel_rfl) (tab_consG (ks := [2, 0]) c_Rem (by kernel_rfl) (tab_consG (ks := [2]) c_Sync (by kernel_rfl) tab_nil)))) (by kernel_rfl) fn14 (by simp) rfl (by simp [pdT]) ?_
    unfold body14
    simp (config := { maxSteps := 3000000 }) [pdT]
    refine vwp_loop (fun i : Nat => i ≤ l.length) (fun i => ⟨[(0, .ptr 999 0), (1, .pv (.ro (rowsQ l))), (4, .pv (.int .i64 (i : Int)))], [(999, .box [.own 998, .own 1998, .own 2998]), (998, .mpv (mfN (foldP p (l.take i)).dur)), (1998, .mpv (mfN (foldP p (l.take i)).now)), (2998, .arr 124 (rowsP (foldP p (l.take i)).pend))]⟩) (fun i => l.length - i) [] 0 (by simp) ?_ ?_
    · simp
      exact ⟨rfl, rfl, rfl⟩
    · intro i hi
      have w2 : IntKind.i64.wrap ((i : Int) + 1) = (i : Int) + 1 := wrap_i64 (by omega)
      by_cases hlt : i < l.length
      · have r1 := rowsQ_at hlt
        have hst := foldP_take (p := p) hlt
        have hpn : (foldP p (l.take i)).pend.length ≤ 1000000 := by
          have := foldP_pend p (l.take i)
          rw [List.length_take] at this
          omega
        generalize foldP p (l.take i) = P at *
        obtain ⟨a, b, c⟩ := P
        by_cases h0 : l[i].d % 6 = 0
        · have hx : doP ⟨a, b, c⟩ l[i] = (addP ⟨a, b, c⟩ l[i].n l[i].k).1 := by unfold doP; rw [if_pos h0]
          simp (config := { maxSteps := 3000000 }) [hlt, r1, w2, h0, hpn, pdT]
          exact ⟨i + 1, by omega, ⟨by omega, by rw [hst, hx], by rw [hst, hx], by rw [hst, hx]⟩, by omega⟩
        by_cases h1 : l[i].d % 6 = 1
        · have hx : doP ⟨a, b, c⟩ l[i] = (remP ⟨a, b, c⟩ l[i].n).1 := by unfold doP; rw [if_neg h0, if_pos h1]
          simp (config := { maxSteps := 3000000 }) [hlt, r1, w2, h0, h1, hpn, pdT]
          exact ⟨i + 1, by omega, ⟨by omega, by rw [hst, hx], by rw [hst, hx], by rw [hst, hx]⟩, by omega⟩
        by_cases h3 : l[i].d % 6 = 3
        · have hx : doP ⟨a, b, c⟩ l[i] = failP ⟨a, b, c⟩ c.length := by unfold doP; rw [if_neg h0, if_neg h1, if_pos h3]
          simp (config := { maxSteps := 3000000 }) [hlt, r1, w2, h0, h1, h3, hpn, pdT]
          exact ⟨i + 1, by omega, ⟨by omega, by rw [hst, hx], by rw [hst, hx], by rw [hst, hx]⟩, by omega⟩
        · have hx : doP ⟨a, b, c⟩ l[i] = ⟨a, b, c⟩ := by unfold doP; rw [if_neg h0, if_neg h1, if_neg h3]
          simp (config := { maxSteps := 3000000 }) [hlt, r1, w2, h0, h1, h3, hpn, pdT]
          exact ⟨i + 1, by omega, ⟨by omega, by rw [hst, hx], by rw [hst, hx], by rw [hst, hx]⟩, by omega⟩
      · have hia : i = l.length := by omega
        subst hia
        simp (config := { maxSteps := 3000000 })
  · cases h

end Go.Proofs.Ythblkhafehanfaa.Ab
