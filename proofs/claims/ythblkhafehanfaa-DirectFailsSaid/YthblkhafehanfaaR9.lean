/- Chapter 8: what the laws share: is, all. -/
import Derived.Test.YthblkhafehanfaaR8
namespace Go.Proofs.Ythblkhafehanfaa.Ab
open Go Go.RowKit R
set_option linter.unusedVariables false
set_option linter.unusedSimpArgs false
set_option maxHeartbeats 4000000
set_option maxRecDepth 100000

def isB (p : Pd) (l : List Nm) (m : List Ac) : Bool := decide (sortN p.now = aftA l m) && decide (p.pend.length = m.length)
noncomputable def GIs : List AV → Option (Prop × AV)
  | [y, .agg [.pv (.ro a), .pv (.ro b)]] => (decR y).bind fun p => (dec rowN a).bind fun l => (dec rowA b).map fun m => (ndN p.now ∧ p.now.length ≤ 1000000 ∧ l.length ≤ 10000 ∧ m.length ≤ 10000, .pv (.bool (isB p l m)))
  | _ => none
@[simp] theorem GIs_eq (y : AV) (a b : List (List PV)) : GIs [y, .agg [.pv (.ro a), .pv (.ro b)]] = (decR y).bind fun p => (dec rowN a).bind fun l => (dec rowA b).map fun m => (ndN p.now ∧ p.now.length ≤ 1000000 ∧ l.length ≤ 10000 ∧ m.length ≤ 10000, .pv (.bool (isB p l m))) := rfl
theorem c_Is : ConT Try.prog 23 GIs := by
  intro ys φ r h hφ
  unfold GIs at h
  split at h
  · rename_i y ra rb
    rw [Option.bind_eq_some_iff] at h
    obtain ⟨p, hp, h⟩ := h
    rw [Option.bind_eq_some_iff] at h
    obtain ⟨l, ha, h⟩ := h
    obtain ⟨m, hb, h⟩ := Option.map_eq_some_iff.1 h
    cases h
    cases decR_inv hp
    cases dec_rowsN_inv ha
    cases dec_rowsA_inv hb
    obtain ⟨d, b, c⟩ := p
    obtain ⟨hn, h6, h7, h8⟩ : ndN b ∧ b.length ≤ 1000000 ∧ l.length ≤ 10000 ∧ m.length ≤ 10000 := hφ
    have h9 : l.length ≤ 100000 := by omega
    have h10 : m.length ≤ 100000 := by omega
    have h11 := aftA_len m l
    have h12 : (aftA l m).length ≤ 1000000000 := by omega
    have h13 : (sortN b).length = b.length := (sortN_perm b).length_eq
    have h14 : b.length ≤ 1000000000 := by omega
    have hx : isB ⟨d, b, c⟩ l m = (decide (sortN b = aftA l m) && decide (c.length = m.length)) := rfl
    refine con_of (tab_cons c_Li (tab_cons c_rLi (tab_cons c_Sa (tab_cons c_Pen tab_nil)))) (by kernel_rfl) fn23 (by simp) ?_
    unfold body23
    rw [hx]
    generalize hq : (decide (sortN b = aftA l m) && decide (c.length = m.length)) = q at *
    simp (config := { maxSteps := 3000000 }) [pdR, hn, h6, h9, h10, h12, h13, h14, hq]
    have hq2 : (decide (sortN b = aftA l m) && decide ((c.length : Int) = (m.length : Int))) = q := by rw [← hq]; congr 1; simp only [decide_eq_decide]; omega
    rw [hq2]
    refine vwp_loop (fun i : Nat × List Nm => i.1 ≤ b.length ∧ i.2.length = b.length) (fun i => ⟨[(5, .own 9), (6, .pv (.bool q)), (7, .pv (.int .i64 (i.1 : Int)))], [(9, .arr 116 (rowsN i.2))]⟩) (fun i => b.length - i.1) [] (0, sortN b) (by simp [h13]) ?_ ?_
    · simp
    · rintro ⟨i, x⟩ ⟨hi, hxl⟩
      have hi : i ≤ b.length := hi
      have hxl : x.length = b.length := hxl
      have w2 : IntKind.i64.wrap ((i : Int) + 1) = (i : Int) + 1 := wrap_i64 (by omega)
      by_cases hlt : i < b.length
      · have hset : (rowsN x).set i [PV.str [], .int .i64 0] = rowsN (x.set i ⟨[], 0⟩) := by
          unfold rowsN; rw [List.map_set]; rfl
        have r1 := rowsN_at (l := x) (i := i) (by omega)
        simp (config := { maxSteps := 3000000 }) [hlt, hxl, w2, hset, r1]
        exact ⟨i + 1, x.set i ⟨[], 0⟩, ⟨by omega, by rw [List.length_set, hxl]⟩, ⟨by omega, rfl⟩, by omega⟩
      · have hib : i = b.length := by omega
        subst hib
        simp (config := { maxSteps := 3000000 }) [hxl]
  · cases h

noncomputable def GAll : List AV → Option (Prop × AV)
  | [.tup [y], .pv (.ro a)] => (decT y).bind fun p => (dec rowQ a).map fun l => (p.pend.length + l.length ≤ 1000000, .clo 0 [.tup [], pdT (foldP p l)])
  | _ => none
@[simp] theorem GAll_eq (y : AV) (a : List (List PV)) : GAll [.tup [y], .pv (.ro a)] = (decT y).bind fun p => (dec rowQ a).map fun l => (p.pend.length + l.length ≤ 1000000, .clo 0 [.tup [], pdT (foldP p l)]) := rfl
theorem doP_pend (p : Pd) (q : Cl) : (doP p q).pend.length ≤ p.pend.length + 1 := by
  unfold doP
  split
  · unfold addP
    split
    · exact Nat.le_add_right _ _
    split
    · exact Nat.le_add_right _ _
    · rw [List.length_append]; exact Nat.le_refl _
  split
  · unfold remP
    split
    · exact Nat.le_add_right _ _
    · rw [List.length_append]; exact Nat.le_refl _
  split
  · exact Nat.zero_le _
  · exact Nat.le_add_right _ _
theorem foldP_snoc (p : Pd) (l : List Cl) (q : Cl) : foldP p (l ++ [q]) = doP (foldP p l) q := by simp [foldP, List.foldl_append]
theorem foldP_take {p : Pd} {l : List Cl} {i : Nat} (h : i < l.length) : foldP p (l.take (i + 1)) = doP (foldP p (l.take i)) l[i] := by
  rw [List.take_succ_eq_append_getElem h, foldP_snoc]
theorem foldP_pend (p : Pd) : ∀ l : List Cl, (foldP p l).pend.length ≤ p.pend.length + l.length :=
  snocRec (p := fun l => (foldP p l).pend.length ≤ p.pend.length + l.length) (Nat.le_refl _) fun l q ih => by
    rw [foldP_snoc, List.length_append]
    have := doP_pend (foldP p l) q
    simp only [List.length_cons, List.length_nil]
    omega
theorem c_all : ConTG Try.prog 14 GAll := by
  intro ys φ r h hφ
  unfold GAll at h
  split at h
  · rename_i y ra
    rw [Option.bind_eq_some_iff] at h
    obtain ⟨p, hp, h⟩ := h
    obtain ⟨l, hl, h⟩ := Option.map_eq_some_iff.1 h
    cases h
    cases decT_inv hp
    cases dec_rowsQ_inv hl
    refine con_ofG (tab_cons c_Pk (tab_consG (ks := [2, 0, 0]) c_Add (by kernel_rfl) (tab_consG (ks := [2, 0]) c_Rem (by kernel_rfl) (tab_consG (ks := [2]) c_Sync (by kernel_rfl) tab_nil)))) (by kernel_rfl) fn14 (by simp) rfl (by simp [pdT]) ?_
    unfold body14
    simp (config := { maxSteps := 3000000 }) [pdT]
    refine vwp_loop (fun i : Nat => i ≤ l.length) (fun i => ⟨[(0, .ptr 999 0), (1, .pv (.ro (rowsQ l))), (4, .pv (.int .i64 (i : Int)))], [(999, .box [.own 998, .own 1998, .own 2998]), (998, .mpv (mfN (foldP p (l.take i)).dur)), (1998, .mpv (mfN (foldP p (l.take i)).now)), (2998, .arr 124 (rowsP (foldP p (l.take i)).pend))]⟩) (fun i => l.length - i) [] 0 (by simp) ?_ ?_
    · simp
      exact ⟨rfl, rfl, rfl⟩
    · intro i hi
      have w2 : IntKind.i64.wrap ((i : Int) + 1) = (i : Int) + 1 := wrap_i64 (by omega)
      by_cases hlt : i < l.length
      · have r1 := rowsQ_at hlt
        have hst := foldP_take (p := p) hlt
        have hpn : (foldP p (l.take i)).pend.length ≤ 1000000 := by
          have := foldP_pend p (l.take i)
          rw [List.length_take] at this
          omega
        generalize foldP p (l.take i) = P at *
        obtain ⟨a, b, c⟩ := P
        by_cases h0 : l[i].d % 6 = 0
        · have hx : doP ⟨a, b, c⟩ l[i] = (addP ⟨a, b, c⟩ l[i].n l[i].k).1 := by unfold doP; rw [if_pos h0]
          simp (config := { maxSteps := 3000000 }) [hlt, r1, w2, h0, hpn, pdT]
          exact ⟨i + 1, by omega, ⟨by omega, by rw [hst, hx], by rw [hst, hx], by rw [hst, hx]⟩, by omega⟩
        by_cases h1 : l[i].d % 6 = 1
        · have hx : doP ⟨a, b, c⟩ l[i] = (remP ⟨a, b, c⟩ l[i].n).1 := by unfold doP; rw [if_neg h0, if_pos h1]
          simp (config := { maxSteps := 3000000 }) [hlt, r1, w2, h0, h1, hpn, pdT]
          exact ⟨i + 1, by omega, ⟨by omega, by rw [hst, hx], by rw [hst, hx], by rw [hst, hx]⟩, by omega⟩
        by_cases h3 : l[i].d % 6 = 3
        · have hx : doP ⟨a, b, c⟩ l[i] = failP ⟨a, b, c⟩ c.length := by unfold doP; rw [if_neg h0, if_neg h1, if_pos h3]
          simp (config := { maxSteps := 3000000 }) [hlt, r1, w2, h0, h1, h3, hpn, pdT]
          exact ⟨i + 1, by omega, ⟨by omega, by rw [hst, hx], by rw [hst, hx], by rw [hst, hx]⟩, by omega⟩
        · have hx : doP ⟨a, b, c⟩ l[i] = ⟨a, b, c⟩ := by unfold doP; rw [if_neg h0, if_neg h1, if_neg h3]
          simp (config := { maxSteps := 3000000 }) [hlt, r1, w2, h0, h1, h3, hpn, pdT]
          exact ⟨i + 1, by omega, ⟨by omega, by rw [hst, hx], by rw [hst, hx], by rw [hst, hx]⟩, by omega⟩
      · have hia : i = l.length := by omega
        subst hia
        simp (config := { maxSteps := 3000000 })
  · cases h

end Go.Proofs.Ythblkhafehanfaa.Ab
