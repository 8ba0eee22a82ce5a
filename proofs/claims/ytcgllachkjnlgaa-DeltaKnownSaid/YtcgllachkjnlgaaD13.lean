/- The reference's normal form. -/
import Derived.Test.YtcgllachkjnlgaaD12
namespace Go.Proofs.Ytcgllachkjnlgaa.Ab
open Go Go.RowKit R
set_option linter.unusedVariables false
set_option linter.unusedSimpArgs false
set_option maxHeartbeats 4000000
set_option maxRecDepth 100000

def tn : List Ed → Int
  | [] => 0
  | e :: l => e.n + (e.t.length : Int) + tn l
theorem tn_append (p q : List Ed) : tn (p ++ q) = tn p + tn q := by
  induction p with
  | nil => simp [tn]
  | cons e p ih => simp only [List.cons_append, tn, ih]; omega
theorem okE_n {e : Ed} (h : okE e) : 0 ≤ e.n := by rcases h with ⟨_, h, _⟩ | ⟨_, h, _⟩ <;> omega
theorem tn_nonneg : ∀ {l : List Ed}, (∀ e ∈ l, okE e) → 0 ≤ tn l
  | [], _ => Int.le_refl _
  | e :: l, h => by
    have := tn_nonneg (l := l) fun x hx => h x (by simp [hx])
    have := okE_n (h e (by simp))
    simp only [tn]; omega

structure okM (l : List Ed) : Prop where
  len : l.length ≤ 30000
  all : ∀ e ∈ l, okE e
  tn : Ab.tn l ≤ 1000000000000000
theorem okM_merge {l l' : List Ed} (h : okM l) (hm : mergeL l = some l') : okM l' := by
  refine ⟨?_, (norm_merge h.all hm).2, ?_⟩
  · have h1 := h.len
    obtain ⟨pre, a, b, post, rfl, hc⟩ := mergeL_some hm
    rcases hc with ⟨hk, rfl⟩ | ⟨h3, h2, rfl⟩ <;> simp at h1 ⊢ <;> omega
  · have h1 := h.tn
    obtain ⟨pre, a, b, post, rfl, hc⟩ := mergeL_some hm
    rcases hc with ⟨hk, rfl⟩ | ⟨h3, h2, rfl⟩ <;> simp [tn_append, Ab.tn] at h1 ⊢ <;> omega
theorem okM_of {l : List Ed} (h : okL l) (hr : rightL l = true) : okM l := by
  unfold rightL at hr
  rw [List.all_eq_true] at hr
  refine ⟨by have := h.1; omega, fun e he => okE_of (hr e he), ?_⟩
  have : ∀ m : List Ed, (∀ e ∈ m, rightE e = true ∧ e.t.length ≤ 2147483647) → tn m ≤ 4294967294 * m.length := by
    intro m
    induction m with
    | nil => intro _; simp [tn]
    | cons e m ih =>
      intro hm
      have h1 := ih fun x hx => hm x (by simp [hx])
      have h2 := (hm e (by simp)).2
      have h3 := (hm e (by simp)).1
      unfold rightE rightI at h3
      simp only [tn, List.length_cons]
      split at h3 <;> simp only [Bool.and_eq_true, decide_eq_true_eq] at h3 <;> omega
  have := this l fun e he => ⟨hr e he, h.2 e he⟩
  have := h.1
  omega

noncomputable def Gmerge : List AV → Option (Prop × AV)
  | [.pv (.ro a)] => (dec rowE a).bind fun l => match mergeL l with
    | some l' => some (okM l, .tup [.fr 61 (rowsE l'), .pv (.bool true)])
    | none => some (okM l, .tup [.pv (.ro (rowsE l)), .pv (.bool false)])
  | _ => none
@[simp] theorem Gmerge_eq (a : List (List PV)) : Gmerge [.pv (.ro a)] = (dec rowE a).bind fun l => match mergeL l with
    | some l' => some (okM l, .tup [.fr 61 (rowsE l'), .pv (.bool true)])
    | none => some (okM l, .tup [.pv (.ro (rowsE l)), .pv (.bool false)]) := rfl

theorem cut_rows (l : List Ed) (i j : Nat) : cut (rowsE l) (i : Int) (j : Int) = rowsE ((l.take j).drop i) := by
  simp [cut, rowsE, List.map_drop, List.map_take]

theorem merge_walk (a : List Ed) (hφ : okM a) (r : AV) (hr : r = match mergeL a with
    | some l' => .tup [.fr 61 (rowsE l'), .pv (.bool true)]
    | none => .tup [.pv (.ro (rowsE a)), .pv (.bool false)]) : Con Try.prog 37 [] [.pv (.ro (rowsE a))] [] r := by
  have hlen := hφ.len
  refine con_of tab_nil (by kernel_rfl) fn37 (by simp) ?_
  unfold body37
  simp (config := { maxSteps := 3000000 })
  refine vwp_loop (fun i : Nat => i ≤ a.length ∧ mergeL a = (mergeL (a.drop i)).map (a.take i ++ ·)) (fun i => ⟨[(0, .pv (.ro (rowsE a))), (4, .pv (.int .i64 i))], []⟩) (fun i => a.length - i) [] 0 ?_ ?_ ?_
  · simp
  · simp
  · rintro i ⟨hi, hm⟩
    have w2 : IntKind.i64.wrap ((i : Int) + 1) = (i : Int) + 1 := wrap_i64 (by omega)
    have w3 : IntKind.i64.wrap ((i : Int) + 2) = (i : Int) + 2 := wrap_i64 (by omega)
    by_cases hlt : i + 1 < a.length
    · have hlt' : (i : Int) + 1 < (a.length : Int) := by omega
      have hi0 : i < a.length := by omega
      have r1 := rowsE_at hi0
      have r2 : rowAt (rowsE a) ((i : Int) + 1) = [.int .u8 (a[i+1].k.toNat : Int), .int .i64 a[i+1].n, .str a[i+1].t] := by
        have := rowsE_at hlt
        simpa using this
      have hdr : a.drop i = a[i] :: a[i+1] :: a.drop (i + 2) := by
        rw [List.drop_eq_getElem_cons hi0, List.drop_eq_getElem_cons hlt]
      have hal : a = a.take i ++ (a[i] :: a[i+1] :: a.drop (i + 2)) := by rw [← hdr, List.take_append_drop]
      have hnn : 0 ≤ a[i].n ∧ 0 ≤ a[i+1].n ∧ a[i].n + a[i+1].n + a[i].t.length + a[i+1].t.length ≤ 1000000000000000 := by
        have h1 : tn (a.take i ++ (a[i] :: a[i+1] :: a.drop (i + 2))) ≤ 1000000000000000 := by rw [← hal]; exact hφ.tn
        have ha1 := okE_n (hφ.all _ (List.getElem_mem hi0))
        have ha2 := okE_n (hφ.all _ (List.getElem_mem hlt))
        have hp : 0 ≤ tn (a.take i) := tn_nonneg fun e he => hφ.all e (List.mem_of_mem_take he)
        have hq : 0 ≤ tn (a.drop (i + 2)) := tn_nonneg fun e he => hφ.all e (List.mem_of_mem_drop he)
        rw [tn_append] at h1
        simp only [tn] at h1
        omega
      rw [hdr] at hm
      have c1 : cut (rowsE a) 0 (i : Int) = rowsE (a.take i) := by have := cut_rows a 0 i; simpa using this
      have c2 : cut (rowsE a) ((i : Int) + 2) (a.length : Int) = rowsE (a.drop (i + 2)) := by have := cut_rows a (i + 2) a.length; simpa using this
      have w4 : IntKind.i64.wrap (a[i].n + a[i+1].n) = a[i].n + a[i+1].n := wrap_i64 (by omega)
      have hcons : ∀ (e : Ed) (l : List Ed), rowsE (e :: l) = [.int .u8 (e.k.toNat : Int), .int .i64 e.n, .str e.t] :: rowsE l := fun e l => rfl
      have h33 : ∀ l : List Ed, (∀ r ∈ rowsE l, r.length = 3) = True := fun l => eq_true (rowsE_three l)
      by_cases hk : (a[i].k.toNat : Int) = (a[i+1].k.toNat : Int)
      · have hkk : a[i].k = a[i+1].k := UInt8.toNat_inj.1 (by omega)
        have hma : mergeL a = some (a.take i ++ ⟨a[i].k, a[i].n + a[i+1].n, a[i].t ++ a[i+1].t⟩ :: a.drop (i + 2)) := by
          rw [hm]; simp [mergeL, hkk]
        rw [hma] at hr
        subst hr
        simp (config := { maxSteps := 3000000 }) [w2, w3, hlt', hlt, hi0, r1, r2, hk, maxLen_eq, c1, c2, w4, rowsE_append, hcons, h33]
        omega
      · have hkk : ¬ a[i].k = a[i+1].k := fun e => hk (by rw [e])
        by_cases h32 : (a[i].k.toNat : Int) = 3 ∧ (a[i+1].k.toNat : Int) = 2
        · obtain ⟨h3, h2⟩ := h32
          have hk3 : a[i].k = 3 := UInt8.toNat_inj.1 (show a[i].k.toNat = 3 by omega)
          have hk2 : a[i+1].k = 2 := UInt8.toNat_inj.1 (show a[i+1].k.toNat = 2 by omega)
          have hma : mergeL a = some (a.take i ++ a[i+1] :: a[i] :: a.drop (i + 2)) := by
            rw [hm]; simp [mergeL, hk3, hk2]
          rw [hma] at hr
          subst hr
          simp (config := { maxSteps := 3000000 }) [w2, w3, hlt', hlt, hi0, r1, r2, hk, h3, h2, maxLen_eq, c1, c2, w4, rowsE_append, hcons, h33]
          omega
        · have hkk2 : ¬ (a[i].k = 3 ∧ a[i+1].k = 2) := fun e => h32 (by rw [e.1, e.2]; exact ⟨rfl, rfl⟩)
          have hma : mergeL a = (mergeL (a.drop (i + 1))).map (a.take (i + 1) ++ ·) := by
            rw [hm, List.drop_eq_getElem_cons hlt, List.take_succ_eq_append_getElem hi0]
            rw [mergeL, if_neg hkk, if_neg hkk2, Option.map_map]
            congr 1
            funext x
            simp only [Function.comp, List.append_assoc, List.singleton_append]
          have hgo : ∃ x' : Nat, (x' ≤ a.length ∧ mergeL a = (mergeL (a.drop x')).map (a.take x' ++ ·)) ∧ (i : Int) + 1 = x' ∧ a.length - x' < a.length - i := ⟨i + 1, ⟨by omega, hma⟩, by omega, by omega⟩
          by_cases h3 : (a[i].k.toNat : Int) = 3
          · have h2 : ¬ (a[i+1].k.toNat : Int) = 2 := fun e => h32 ⟨h3, e⟩
            have hk' : ¬ 3 = (a[i+1].k.toNat : Int) := fun e => hk (by omega)
            simp (config := { maxSteps := 3000000 }) [w2, w3, hlt', hlt, hi0, r1, r2, hk', h3, h2, maxLen_eq, c1, c2, w4, rowsE_append, hcons, h33]
            refine ⟨by omega, by omega, by omega, hgo⟩
          · simp (config := { maxSteps := 3000000 }) [w2, w3, hlt', hlt, hi0, r1, r2, hk, h3, maxLen_eq, c1, c2, w4, rowsE_append, hcons, h33]
            refine ⟨by omega, by omega, by omega, hgo⟩
    · have hlt' : ¬ (i : Int) + 1 < (a.length : Int) := by omega
      have hma : mergeL a = none := by
        rw [hm]
        have : (a.drop i).length ≤ 1 := by simp; omega
        rcases hd : a.drop i with _ | ⟨x, _ | ⟨y, l⟩⟩
        · rfl
        · rfl
        · rw [hd] at this; simp at this
      rw [hma] at hr
      subst hr
      simp (config := { maxSteps := 3000000 }) [w2, hlt', hlt]

theorem c_merge : ConT Try.prog 37 Gmerge := by
  intro ys φ r h hφ
  unfold Gmerge at h
  split at h
  · rename_i ra
    obtain ⟨a, ha, h2⟩ := Option.bind_eq_some_iff.1 h
    clear h
    have h := h2
    clear h2
    cases dec_rowsE_inv ha
    cases hm : mergeL a with
    | some l' =>
      simp only [hm] at h
      cases h
      exact merge_walk a hφ _ (by rw [hm])
    | none =>
      simp only [hm] at h
      cases h
      exact merge_walk a hφ _ (by rw [hm])
  · cases h

noncomputable def GrNormal : List AV → Option (Prop × AV)
  | [.pv (.ro a)] => (dec rowE a).map fun l => (okL l, .tup [.pv (.ro (rowsE (normal l).1)), .pv (.int .i64 (normal l).2)])
  | _ => none
@[simp] theorem GrNormal_eq (a : List (List PV)) : GrNormal [.pv (.ro a)] = (dec rowE a).map fun l => (okL l, .tup [.pv (.ro (rowsE (normal l).1)), .pv (.int .i64 (normal l).2)]) := rfl

theorem c_rnormal : ConT Try.prog 16 GrNormal := by
  intro ys φ r h hφ
  unfold GrNormal at h
  split at h
  · rename_i ra
    obtain ⟨a, ha, h⟩ := Option.map_eq_some_iff.1 h
    cases h
    cases dec_rowsE_inv ha
    refine con_of (tab_cons c_rRight (tab_cons c_merge tab_nil)) (by kernel_rfl) fn16 (by simp) ?_
    unfold body16
    have hlen := hφ.1
    by_cases hr' : rightL a = false
    · have hno : normal a = ([], 2) := by unfold normal; rw [if_pos hr']
      simp (config := { maxSteps := 3000000 }) [hr', hno]
      omega
    have hr : rightL a = true := by simpa using hr'
    simp (config := { maxSteps := 3000000 }) [hr]
    refine ⟨by omega, ?_⟩
    refine vwp_loopS (fun x : List Ed × Bool => okM x.1 ∧ normOut x.1 = normOut a ∧ (x.2 = false → mergeL x.1 = none)) (fun x => ⟨[(0, .pv (.ro (rowsE x.1))), (4, .pv (.bool x.2))], []⟩) (fun x => 2 * mu x.1 + (if x.2 then 1 else 0)) [] [11] (a, true) ?_ ?_ ?_
    · exact ⟨okM_of hφ hr, rfl, fun h => by cases h⟩
    · simp
    · rintro ⟨l, more⟩ ⟨hM, hN, hdone⟩
      dsimp only at hM hN hdone
      cases more with
      | true =>
        cases hm : mergeL l with
        | some l' =>
          have hmu := mu_merge hm
          simp (config := { maxSteps := 3000000 }) [hm]
          exact ⟨hM, l', ⟨okM_merge hM hm, (norm_merge hM.all hm).1.trans hN⟩, rfl, hmu⟩
        | none =>
          simp (config := { maxSteps := 3000000 }) [hm]
          exact ⟨hM, l, ⟨hM, hN, hm⟩, rfl, by omega⟩
      | false =>
        have hd := hdone rfl
        have hnl : normOut a = l := hN.symm.trans (norm_done hM.all hd).1
        have hlen2 := hM.len
        simp (config := { maxSteps := 3000000 })
        refine ⟨by omega, fun h => ?_, fun h => ?_⟩
        · unfold normal; rw [if_neg (by simp [hr]), hnl, if_pos h]; exact ⟨rfl, rfl⟩
        · unfold normal; rw [if_neg (by simp [hr]), hnl, if_neg (by simp [h])]; exact ⟨rfl, rfl⟩
  · cases h

end Go.Proofs.Ytcgllachkjnlgaa.Ab
