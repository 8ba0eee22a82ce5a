/- Chapter 17: rows of entries; the order of texts; what a right catalog is; names; as the program and the reference tell it. -/
import Derived.Test.YtfpmjcdcpicmaaaV1
import Derived.Test.YtfpmjcdcpicmaaaCodeC
namespace Go.Proofs.Ytfpmjcdcpicmaaa.Ab
open Go Go.RowKit R
set_option linter.unusedVariables false
set_option linter.unusedSimpArgs false
set_option maxHeartbeats 4000000
set_option maxRecDepth 100000

/-! ### The order of texts -/

theorem bl_irrefl : ∀ a : List UInt8, Op.bytesLess a a = false
  | [] => rfl
  | a :: x => by simp [Op.bytesLess, bl_irrefl x]
theorem bl_trans : ∀ a b c : List UInt8, Op.bytesLess a b = true → Op.bytesLess b c = true → Op.bytesLess a c = true
  | _, [], _, h, _ => by simp [Op.bytesLess] at h
  | _, _ :: _, [], _, h => by simp [Op.bytesLess] at h
  | [], _ :: _, _ :: _, _, _ => rfl
  | a :: x, b :: y, c :: z, h1, h2 => by
    simp only [Op.bytesLess, Bool.or_eq_true, decide_eq_true_eq, Bool.and_eq_true, beq_iff_eq] at h1 h2 ⊢
    rcases h1 with h1 | ⟨rfl, h1⟩
    · rcases h2 with h2 | ⟨rfl, h2⟩
      · exact .inl (UInt8.lt_trans h1 h2)
      · exact .inl h1
    · rcases h2 with h2 | ⟨rfl, h2⟩
      · exact .inl h2
      · exact .inr ⟨rfl, bl_trans x y z h1 h2⟩
theorem bl_tri : ∀ a b : List UInt8, Op.bytesLess a b = false → Op.bytesLess b a = false → a = b
  | [], [], _, _ => rfl
  | [], _ :: _, h, _ => by simp [Op.bytesLess] at h
  | _ :: _, [], _, h => by simp [Op.bytesLess] at h
  | a :: x, b :: y, h1, h2 => by
    simp only [Op.bytesLess, Bool.or_eq_false_iff, decide_eq_false_iff_not, Bool.and_eq_false_iff, beq_eq_false_iff_ne] at h1 h2
    have hab : a = b := by
      apply UInt8.toNat_inj.1
      have h3 : ¬ a.toNat < b.toNat := h1.1
      have h4 : ¬ b.toNat < a.toNat := h2.1
      omega
    subst hab
    have h3 := h1.2.resolve_left (fun h => h rfl)
    have h4 := h2.2.resolve_left (fun h => h rfl)
    rw [bl_tri x y h3 h4]
theorem bl_asymm {a b : List UInt8} (h : Op.bytesLess a b = true) : Op.bytesLess b a = false := by
  cases hb : Op.bytesLess b a with
  | false => rfl
  | true => have := bl_trans a b a h hb; rw [bl_irrefl] at this; cases this
theorem bl_ne {a b : List UInt8} (h : Op.bytesLess a b = true) : a ≠ b := by rintro rfl; rw [bl_irrefl] at h; cases h

/-! ### Rows -/

structure En where
  n : List UInt8
  i : Int
  deriving DecidableEq
def rowC (e : En) : List PV := [.str e.n, .int .u64 e.i]
theorem rowC_inj : ∀ a b, rowC a = rowC b → a = b := by
  rintro ⟨k, n⟩ ⟨k', n'⟩ h
  simp only [rowC, List.cons.injEq, PV.int.injEq, PV.str.injEq, true_and, and_true] at h
  rw [h.1, h.2]
def rowsC (l : List En) : List (List PV) := l.map rowC
@[simp] theorem rowsC_nil : rowsC [] = [] := rfl
@[simp] theorem rowsC_length (l : List En) : (rowsC l).length = l.length := by simp [rowsC]
theorem rowsC_append (l m : List En) : rowsC (l ++ m) = rowsC l ++ rowsC m := by simp [rowsC]
theorem rowsC_two (l : List En) : ∀ r ∈ rowsC l, r.length = 2 := by
  intro r hr
  simp only [rowsC, List.mem_map] at hr
  obtain ⟨c, _, rfl⟩ := hr
  rfl
theorem rowsC_at {l : List En} {i : Nat} (h : i < l.length) : rowAt (rowsC l) (i : Int) = [.str l[i].n, .int .u64 l[i].i] := by
  simp [rowAt, rowsC, h, rowC]
@[simp] theorem dec_rowsC (l : List En) : dec rowC (rowsC l) = some l := dec_map rowC_inj l
theorem dec_rowsC_inv {rows : List (List PV)} {l : List En} (h : dec rowC rows = some l) : rows = rowsC l := dec_inv h
theorem flat_rowsC (l : List En) : flatRows (rowsC l) := by
  intro r hr p hp
  simp only [rowsC, List.mem_map] at hr
  obtain ⟨c, _, rfl⟩ := hr
  simp only [rowC, List.mem_cons, List.not_mem_nil, or_false] at hp
  rcases hp with rfl | rfl <;> rfl

def rowS (s : List UInt8) : List PV := [.str s]
theorem rowS_inj : ∀ a b, rowS a = rowS b → a = b := by
  intro a b h
  simpa [rowS] using h
def rowsS (l : List (List UInt8)) : List (List PV) := l.map rowS
@[simp] theorem rowsS_nil : rowsS [] = [] := rfl
@[simp] theorem rowsS_length (l : List (List UInt8)) : (rowsS l).length = l.length := by simp [rowsS]
theorem rowsS_append (l m : List (List UInt8)) : rowsS (l ++ m) = rowsS l ++ rowsS m := by simp [rowsS]
theorem rowsS_one (l : List (List UInt8)) : ∀ r ∈ rowsS l, r.length = 1 := by
  intro r hr
  simp only [rowsS, List.mem_map] at hr
  obtain ⟨c, _, rfl⟩ := hr
  rfl
theorem rowsS_at {l : List (List UInt8)} {i : Nat} (h : i < l.length) : rowAt (rowsS l) (i : Int) = [.str l[i]] := by
  simp [rowAt, rowsS, h, rowS]
@[simp] theorem dec_rowsS (l : List (List UInt8)) : dec rowS (rowsS l) = some l := dec_map rowS_inj l
theorem dec_rowsS_inv {rows : List (List PV)} {l : List (List UInt8)} (h : dec rowS rows = some l) : rows = rowsS l := dec_inv h
theorem flat_rowsS (l : List (List UInt8)) : flatRows (rowsS l) := by
  intro r hr p hp
  simp only [rowsS, List.mem_map] at hr
  obtain ⟨c, _, rfl⟩ := hr
  simp only [rowS, List.mem_cons, List.not_mem_nil, or_false] at hp
  subst hp; rfl
@[simp] theorem dec_s1 (a : List UInt8) : dec rowS [[.str a]] = some [a] := dec_rowsS [a]
@[simp] theorem dec_s2 (a b : List UInt8) : dec rowS [[.str a], [.str b]] = some [a, b] := dec_rowsS [a, b]

/-! ### Names -/

def okNm (s : List UInt8) : Bool := decide (s ≠ []) && decide (s.length ≤ 64)
theorem okNm_ne {s : List UInt8} (h : ¬ s = []) : okNm s = decide (s.length ≤ 64) := by simp [okNm, h]
noncomputable def GNm : List AV → Option (Prop × AV)
  | [.pv (.ro a)] => (dec rowS a).map fun l => (l.length ≤ 1000000000, .pv (.bool (l.all okNm)))
  | _ => none
@[simp] theorem GNm_eq (a : List (List PV)) : GNm [.pv (.ro a)] = (dec rowS a).map fun l => (l.length ≤ 1000000000, .pv (.bool (l.all okNm))) := rfl
theorem c_Nm : ConT Try.prog 33 GNm := by
  intro ys φ r h hφ
  unfold GNm at h
  split at h
  · rename_i ra
    obtain ⟨a, ha, h⟩ := Option.map_eq_some_iff.1 h
    cases h
    cases dec_rowsS_inv ha
    refine con_of tab_nil (by kernel_rfl) fn33 (by simp) ?_
    unfold body33
    simp (config := { maxSteps := 3000000 })
    refine vwp_loop (fun i : Nat => i ≤ a.length ∧ (a.take i).all okNm = true) (fun i => ⟨[(0, .pv (.ro (rowsS a))), (2, .pv (.bool false)), (5, .pv (.ro (rowsS a))), (6, .pv (.int .i64 a.length)), (7, .pv (.int .i64 i))], []⟩) (fun i => a.length - i) [] 0 (by simp) ?_ ?_
    · simp
    · rintro i ⟨hi, ht⟩
      have w2 : IntKind.i64.wrap ((i : Int) + 1) = (i : Int) + 1 := wrap_i64 (by omega)
      by_cases hlt : i < a.length
      · have r1 := rowsS_at hlt
        have hno : okNm a[i] = false → a.all okNm = false := by
          intro h0
          rw [List.all_eq_false]
          exact ⟨a[i], List.getElem_mem hlt, by simp [h0]⟩
        have hyes : okNm a[i] = true → (a.take (i + 1)).all okNm = true := by
          intro h0
          rw [List.take_succ_eq_append_getElem hlt, List.all_append, ht]
          simp [h0]
        by_cases hz : a[i] = []
        · have hf := hno (by simp [okNm, hz])
          simp (config := { maxSteps := 3000000 }) [w2, hlt, r1, hz, hf]
        · by_cases hl : a[i].length ≤ 64
          · have hl' : (a[i].length : Int) ≤ 64 := by omega
            simp (config := { maxSteps := 3000000 }) [w2, hlt, r1, hz, hl, hl']
            exact ⟨i + 1, ⟨by omega, by simpa using hyes (by simp [okNm, hz, hl])⟩, by omega, by omega⟩
          · have hl' : ¬ (a[i].length : Int) ≤ 64 := by omega
            have hf := hno (by simp [okNm, hl])
            simp (config := { maxSteps := 3000000 }) [w2, hlt, r1, hz, hl, hl', hf]
      · rw [List.take_of_length_le (by omega)] at ht
        simp (config := { maxSteps := 3000000 }) [hlt, ht]
  · cases h
noncomputable def GrNm : List AV → Option (Prop × AV)
  | [.pv (.str s)] => some (True, .pv (.bool (okNm s)))
  | _ => none
@[simp] theorem GrNm_eq (s : List UInt8) : GrNm [.pv (.str s)] = some (True, .pv (.bool (okNm s))) := rfl
theorem c_rNm : ConT Try.prog 34 GrNm := by
  intro ys φ r h hφ
  unfold GrNm at h
  split at h
  · rename_i s
    cases h
    refine con_of tab_nil (by kernel_rfl) fn34 (by simp) ?_
    unfold body34
    by_cases hz : s = []
    · subst hz
      simp (config := { maxSteps := 3000000 }) [okNm]
    · have h1 : (1 : Int) ≤ s.length := by have := List.length_pos_iff.2 hz; omega
      have hd : decide ((s.length : Int) ≤ 64) = decide (s.length ≤ 64) := by
        by_cases h : s.length ≤ 64
        · simp [h]; omega
        · simp [h]; omega
      simp (config := { maxSteps := 3000000 }) [okNm, hz, h1, hd]
  · cases h

/-! ### What is right -/

def rightC (l : List En) : Bool := l.all (fun e => okNm e.n && decide (e.i ≠ 0)) && decide (l.Pairwise fun a b => Op.bytesLess a.n b.n = true ∧ a.i ≠ b.i)
theorem rightC_iff (l : List En) : rightC l = true ↔ (∀ e ∈ l, okNm e.n = true ∧ e.i ≠ 0) ∧ l.Pairwise fun a b => Op.bytesLess a.n b.n = true ∧ a.i ≠ b.i := by
  simp only [rightC, Bool.and_eq_true, List.all_eq_true, decide_eq_true_eq]
theorem rightC_snoc (l : List En) (e : En) : rightC (l ++ [e]) = true ↔ rightC l = true ∧ okNm e.n = true ∧ e.i ≠ 0 ∧ ∀ x ∈ l, Op.bytesLess x.n e.n = true ∧ x.i ≠ e.i := by
  simp only [rightC_iff, List.pairwise_append, List.mem_append, List.mem_singleton, List.pairwise_singleton, true_and]
  constructor
  · rintro ⟨h1, h2, h3⟩
    exact ⟨⟨fun x hx => h1 x (.inl hx), h2⟩, (h1 e (.inr rfl)).1, (h1 e (.inr rfl)).2, fun x hx => h3 x hx e rfl⟩
  · rintro ⟨⟨h1, h2⟩, h3, h4, h5⟩
    refine ⟨?_, h2, ?_⟩
    · rintro x (hx | rfl)
      · exact h1 x hx
      · exact ⟨h3, h4⟩
    · rintro x hx _ rfl
      exact h5 x hx
theorem rightC_take {l : List En} (k : Nat) (h : rightC l = true) : rightC (l.take k) = true := by
  rw [rightC_iff] at h ⊢
  exact ⟨fun e he => h.1 e (List.mem_of_mem_take he), h.2.sublist (List.take_sublist k l)⟩
theorem rightC_fail {l : List En} {i : Nat} (hlt : i < l.length) (h : ¬ (okNm l[i].n = true ∧ l[i].i ≠ 0 ∧ ∀ x ∈ l.take i, Op.bytesLess x.n l[i].n = true ∧ x.i ≠ l[i].i)) : rightC l = false := by
  cases hr : rightC l with
  | false => rfl
  | true =>
    have := rightC_take (i + 1) hr
    rw [List.take_succ_eq_append_getElem hlt, rightC_snoc] at this
    exact absurd this.2 h
theorem rightC_step {l : List En} {i : Nat} (hlt : i < l.length) (h0 : rightC (l.take i) = true) (h1 : okNm l[i].n = true) (h2 : l[i].i ≠ 0) (h3 : ∀ x ∈ l.take i, Op.bytesLess x.n l[i].n = true ∧ x.i ≠ l[i].i) : rightC (l.take (i + 1)) = true := by
  rw [List.take_succ_eq_append_getElem hlt, rightC_snoc]
  exact ⟨h0, h1, h2, h3⟩
/-- Who is above the last one is above all. -/
theorem rightC_last {l : List En} {k : Nat} (hlt : k + 1 < l.length) (h0 : rightC (l.take (k + 1)) = true) (h : Op.bytesLess l[k].n l[k + 1].n = true) : ∀ x ∈ l.take (k + 1), Op.bytesLess x.n l[k + 1].n = true := by
  have hk : k < l.length := by omega
  intro x hx
  rw [List.take_succ_eq_append_getElem hk, rightC_snoc] at h0
  rw [List.take_succ_eq_append_getElem hk, List.mem_append, List.mem_singleton] at hx
  rcases hx with hx | rfl
  · exact bl_trans _ _ _ (h0.2.2.2 x hx).1 h
  · exact h

def unitV : AV := avZ (.agg #[])
def mapI (l : List En) : List (PV × AV) := (.int .u64 0, .agg []) :: l.map fun e => (.int .u64 e.i, .agg [])
theorem getM_mapI (l : List En) (n : Int) : (getM (.int .u64 n) (mapI l)).isSome = (decide (n = 0) || l.any fun e => decide (n = e.i)) := by
  unfold mapI
  have : ∀ l : List En, (getM (.int .u64 n) (l.map fun e => (PV.int .u64 e.i, AV.agg []))).isSome = l.any fun e => decide (n = e.i) := by
    intro l
    induction l with
    | nil => rfl
    | cons e l ih =>
      simp only [List.map_cons, getM, eqP, List.any_cons]
      by_cases h : n = e.i
      · simp [h]
      · simp [h, ih]
  simp only [getM, eqP]
  by_cases h : n = 0
  · simp [h]
  · simp [h, this]
theorem getD_mapI (l : List En) (k : PV) : (getM k (mapI l)).getD (.agg []) = .agg [] := by
  unfold mapI
  have : ∀ l : List En, (getM k (l.map fun e => (PV.int .u64 e.i, AV.agg []))).getD (.agg []) = .agg [] := by
    intro l
    induction l with
    | nil => rfl
    | cons e l ih =>
      simp only [List.map_cons, getM]
      split
      · rfl
      · exact ih
  simp only [getM]
  split
  · rfl
  · exact this l
theorem putM_new : ∀ (es : List (PV × AV)) (k : PV) (v : AV), (getM k es).isSome = false → putM k v es = es ++ [(k, v)]
  | [], k, v, _ => rfl
  | e :: es, k, v, h => by
    unfold getM at h
    unfold putM
    split at h
    · cases h
    · rename_i h1
      rw [if_neg h1, putM_new es k v h]; rfl
theorem mapI_snoc (l : List En) (e : En) : mapI l ++ [(.int .u64 e.i, .agg [])] = mapI (l ++ [e]) := by simp [mapI]
theorem keysOK_mapI (l : List En) : keysOK 9 (mapI l) = True := by
  simp only [eq_iff_iff, iff_true]
  intro e he
  simp only [mapI, List.mem_cons, List.mem_map] at he
  rcases he with rfl | ⟨x, _, rfl⟩ <;> rfl

noncomputable def GRt : List AV → Option (Prop × AV)
  | [.pv (.ro a)] => (dec rowC a).map fun l => (l.length ≤ 1000000000, .pv (.bool (rightC l)))
  | _ => none
@[simp] theorem GRt_eq (a : List (List PV)) : GRt [.pv (.ro a)] = (dec rowC a).map fun l => (l.length ≤ 1000000000, .pv (.bool (rightC l))) := rfl
theorem c_Rt : ConT Try.prog 28 GRt := by
  intro ys φ r h hφ
  unfold GRt at h
  split at h
  · rename_i ra
    obtain ⟨a, ha, h⟩ := Option.map_eq_some_iff.1 h
    cases h
    cases dec_rowsC_inv ha
    refine con_of (tab_cons c_Nm tab_nil) (by kernel_rfl) fn28 (by simp) ?_
    unfold body28
    simp (config := { maxSteps := 3000000 })
    refine vwp_loop (fun i : Nat => i ≤ a.length ∧ rightC (a.take i) = true) (fun i => ⟨[(0, .pv (.ro (rowsC a))), (2, .pv (.bool false)), (3, .own 8), (11, .pv (.ro (rowsC a))), (12, .pv (.int .i64 a.length)), (13, .pv (.int .i64 i))], [(8, .map (mapI (a.take i)))]⟩) (fun i => a.length - i) [] 0 (by simp [rightC]) ?_ ?_
    · simp [mapI, putM]
    · rintro i ⟨hi, ht⟩
      have w2 : IntKind.i64.wrap ((i : Int) + 1) = (i : Int) + 1 := wrap_i64 (by omega)
      by_cases hlt : i < a.length
      · have r1 := rowsC_at hlt
        have hk := keysOK_mapI (a.take i)
        have hd := getD_mapI (a.take i)
        have hg := getM_mapI (a.take i) a[i].i
        have hf := fun h => rightC_fail hlt h
        have htwF : (getM (.int .u64 a[i].i) (mapI (a.take i))).isSome = true → rightC a = false := fun htw => by
          apply hf
          rintro ⟨_, h2, h3⟩
          rw [hg, Bool.or_eq_true, decide_eq_true_eq, List.any_eq_true] at htw
          rcases htw with h | ⟨x, hx, h⟩
          · exact h2 h
          · exact (h3 x hx).2 (by simpa using (of_decide_eq_true h).symm)
        have hids : (getM (.int .u64 a[i].i) (mapI (a.take i))).isSome = false → a[i].i ≠ 0 ∧ ∀ x ∈ a.take i, x.i ≠ a[i].i := fun htw' => by
          rw [hg, Bool.or_eq_false_iff, decide_eq_false_iff_not, List.any_eq_false] at htw'
          exact ⟨htw'.1, fun x hx h => htw'.2 x hx (by simpa using h.symm)⟩
        have hpm : (getM (.int .u64 a[i].i) (mapI (a.take i))).isSome = false → putM (.int .u64 a[i].i) (.agg []) (mapI (a.take i)) = mapI (a.take (i + 1)) := fun htw' => by
          have := putM_new (mapI (a.take i)) (.int .u64 a[i].i) (.agg []) htw'
          rwa [mapI_snoc, ← List.take_succ_eq_append_getElem hlt] at this
        by_cases h0 : i = 0
        · subst h0
          have wm : IntKind.i64.wrap (-1) = -1 := wrap_i64 (by omega)
          have rm : rowAt (rowsC a) (-1) = [.str a[0].n, .int .u64 a[0].i] := r1
          have rz : rowAt (rowsC a) 0 = [.str a[0].n, .int .u64 a[0].i] := r1
          simp only [List.take_zero] at hk hd htwF hids hpm
          cases htw : (getM (.int .u64 a[0].i) (mapI [])).isSome with
          | true =>
            have hf' := htwF htw
            simp (config := { maxSteps := 3000000 }) [hlt, rm, rz, wm, hk, hd, htw, hf']
          | false =>
            cases hnm : okNm a[0].n with
            | true =>
              have hq := hpm htw
              simp (config := { maxSteps := 3000000 }) [hlt, rm, rz, wm, hk, hd, htw, hnm, hq]
              exact ⟨1, ⟨by omega, rightC_step hlt ht hnm (hids htw).1 (by simp)⟩, ⟨by rw [wrap_i64 (by omega)]; rfl, rfl⟩, by omega⟩
            | false =>
              have hf' : rightC a = false := hf fun h => by rw [hnm] at h; cases h.1
              simp (config := { maxSteps := 3000000 }) [hlt, rm, rz, wm, hk, hd, htw, hnm, hf']
        · obtain ⟨k, rfl⟩ : ∃ k, i = k + 1 := ⟨i - 1, by omega⟩
          have hk2 : k < a.length := by omega
          have r2 := rowsC_at hk2
          have w3 : IntKind.i64.wrap (((k + 1 : Nat) : Int) - 1) = (k : Int) := by rw [wrap_i64 (by omega)]; omega
          have hp : (0 : Int) < ((k + 1 : Nat) : Int) := by omega
          have hlti : ((k + 1 : Nat) : Int) < a.length := by omega
          have hlti2 : (k : Int) < a.length := by omega
          have hb0 : (0 : Int) ≤ ((k + 1 : Nat) : Int) := by omega
          generalize hgen : ((k + 1 : Nat) : Int) = I at *
          cases htw : (getM (.int .u64 a[k + 1].i) (mapI (a.take (k + 1)))).isSome with
          | true =>
            have hf' := htwF htw
            simp (config := { maxSteps := 3000000 }) [hlti, hlti2, hb0, r1, r2, w3, hp, hk, hd, htw, hf']
          | false =>
            cases hnm : okNm a[k + 1].n with
            | true =>
              have hq := hpm htw
              cases hb : Op.bytesLess a[k].n a[k + 1].n with
              | true =>
                simp (config := { maxSteps := 3000000 }) [hlti, hlti2, hb0, r1, r2, w3, w2, hp, hk, hd, htw, hnm, hq, hb]
                have h1 := rightC_last hlt ht hb
                have h2 := hids htw
                exact ⟨k + 2, ⟨by omega, rightC_step hlt ht hnm h2.1 fun x hx => ⟨h1 x hx, h2.2 x hx⟩⟩, ⟨by omega, rfl⟩, by omega⟩
              | false =>
                have hf' : rightC a = false := hf fun h => by
                  have := (h.2.2 a[k] (by rw [List.mem_take_iff_getElem]; exact ⟨k, by omega, rfl⟩)).1
                  rw [hb] at this; cases this
                simp (config := { maxSteps := 3000000 }) [hlti, hlti2, hb0, r1, r2, w3, hp, hk, hd, htw, hnm, hb, hf']
            | false =>
              have hf' : rightC a = false := hf fun h => by rw [hnm] at h; cases h.1
              simp (config := { maxSteps := 3000000 }) [hlti, hlti2, hb0, r1, r2, w3, hp, hk, hd, htw, hnm, hf']
      · rw [List.take_of_length_le (by omega)] at ht
        simp (config := { maxSteps := 3000000 }) [hlt, ht]
  · cases h

end Go.Proofs.Ytfpmjcdcpicmaaa.Ab
