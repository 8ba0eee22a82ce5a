/- Chapter 8: plain laws: rows in order, maps as rows in any order, replays. -/
import Derived.Test.YthblkhafehanfaaR2
namespace Go.Proofs.Ythblkhafehanfaa.Ab
open Go Go.RowKit R
set_option linter.unusedVariables false
set_option linter.unusedSimpArgs false
set_option maxHeartbeats 4000000
set_option maxRecDepth 100000

/-! ### A map as a row in any order -/
def nmPut : List Nm → Nm → List Nm
  | [], x => [x]
  | e :: l, x => if x.n = e.n then x :: l else e :: nmPut l x
def nmDel : List Nm → List UInt8 → List Nm
  | [], _ => []
  | e :: l, s => if s = e.n then l else e :: nmDel l s
def srtN (l : List Nm) : Prop := l.Pairwise fun a b => Op.bytesLess a.n b.n = true
def ndN (l : List Nm) : Prop := (l.map (·.n)).Nodup
/-- A map holds what a row in order holds. -/
def Rm (now L : List Nm) : Prop := now.Perm L ∧ srtN L

theorem srtN_nd {l : List Nm} (h : srtN l) : ndN l := by
  unfold ndN
  rw [List.Nodup, List.pairwise_map]
  exact h.imp fun hab => bl_ne hab
theorem Rm.nd {now L : List Nm} (h : Rm now L) : ndN now := by
  have h1 : (L.map (·.n)).Nodup := srtN_nd h.2
  exact (h.1.map (fun e : Nm => e.n)).nodup_iff.2 h1
theorem getN_cons (e : Nm) (l : List Nm) (s : List UInt8) : getN (e :: l) s = if e.n = s then some e.i else getN l s := by
  unfold getN
  by_cases h : e.n = s <;> simp [h]
theorem getN_mem : ∀ {l : List Nm} {s : List UInt8} {i : Int}, getN l s = some i → ⟨s, i⟩ ∈ l
  | [], s, i, h => by cases h
  | e :: l, s, i, h => by
    rw [getN_cons] at h
    split at h
    · rename_i he
      cases h
      subst he
      exact List.mem_cons_self
    · exact List.mem_cons_of_mem _ (getN_mem h)
theorem getN_of_mem : ∀ {l : List Nm} {e : Nm}, ndN l → e ∈ l → getN l e.n = some e.i
  | x :: l, e, hn, h => by
    unfold ndN at hn
    rw [List.map_cons, List.nodup_cons] at hn
    rw [getN_cons]
    rcases List.mem_cons.1 h with rfl | h
    · rw [if_pos rfl]
    · rw [if_neg (fun he => hn.1 (by rw [he]; exact List.mem_map_of_mem h))]
      exact getN_of_mem hn.2 h
theorem getN_none {l : List Nm} {s : List UInt8} : getN l s = none ↔ ∀ e ∈ l, e.n ≠ s := by
  unfold getN
  simp
theorem Rm.get {now L : List Nm} (h : Rm now L) (s : List UInt8) : getN now s = getN L s := by
  cases hg : getN L s with
  | none =>
    rw [getN_none] at hg ⊢
    exact fun e he => hg e (h.1.mem_iff.1 he)
  | some i => exact getN_of_mem h.nd (h.1.mem_iff.2 (getN_mem hg))
theorem nmPut_perm : ∀ {l : List Nm} {x : Nm}, getN l x.n = none → (nmPut l x).Perm (x :: l)
  | [], x, _ => List.Perm.refl _
  | e :: l, x, h => by
    rw [getN_cons] at h
    split at h
    · cases h
    · rename_i he
      unfold nmPut
      rw [if_neg (fun e => he e.symm)]
      exact ((nmPut_perm h).cons e).trans (List.Perm.swap x e l)
theorem nmDel_eq : ∀ {l : List Nm} (s : List UInt8), ndN l → nmDel l s = woN l s
  | [], s, _ => rfl
  | e :: l, s, h => by
    unfold ndN at h
    rw [List.map_cons, List.nodup_cons] at h
    unfold nmDel woN
    rw [List.filter_cons]
    by_cases he : s = e.n
    · subst he
      rw [if_pos rfl, if_neg (by simp)]
      symm
      rw [List.filter_eq_self]
      intro a ha
      have : a.n ≠ e.n := fun e1 => h.1 (by rw [← e1]; exact List.mem_map_of_mem ha)
      simpa using this
    · rw [if_neg he, if_pos (by simpa using fun e1 => he e1.symm), nmDel_eq s h.2]
      rfl
theorem putN_perm (l : List Nm) (x : Nm) : (putN l x).Perm (x :: l) := by
  unfold putN
  refine List.perm_middle.trans ?_
  rw [List.take_append_drop]
theorem putN_srt {l : List Nm} {x : Nm} (h : srtN l) (hx : getN l x.n = none) : srtN (putN l x) := by
  have hk := plN_le l x.n
  have hlt : ∀ a ∈ l.take (plN l x.n), Op.bytesLess a.n x.n = true := by
    intro a ha
    obtain ⟨j, hj, rfl⟩ := List.getElem_of_mem ha
    rw [List.length_take] at hj
    rw [List.getElem_take]
    have h1 := plN_lt (l := l) (s := x.n) (j := j) (by omega)
    cases hb : Op.bytesLess l[j].n x.n with
    | true => rfl
    | false => exact absurd (bl_tri _ _ hb h1) (getN_none.1 hx _ (List.getElem_mem _))
  have hgt : ∀ b ∈ l.drop (plN l x.n), Op.bytesLess x.n b.n = true := by
    intro b hb
    obtain ⟨j, hj, rfl⟩ := List.getElem_of_mem hb
    rw [List.length_drop] at hj
    rw [List.getElem_drop]
    have h1 := plN_at (l := l) (s := x.n) (by omega)
    rcases Nat.eq_zero_or_pos j with rfl | hj0
    · simpa using h1
    · have h2 := List.pairwise_iff_getElem.1 h (plN l x.n) (plN l x.n + j) (by omega) (by omega) (by omega)
      exact bl_trans _ _ _ h1 h2
  unfold putN srtN
  rw [List.pairwise_append]
  refine ⟨List.Pairwise.sublist (List.take_sublist _ _) h, List.pairwise_cons.2 ⟨hgt, List.Pairwise.sublist (List.drop_sublist _ _) h⟩, ?_⟩
  intro a ha b hb
  rcases List.mem_cons.1 hb with rfl | hb
  · exact hlt a ha
  · exact bl_trans _ _ _ (hlt a ha) (hgt b hb)
theorem Rm.put {now L : List Nm} {x : Nm} (h : Rm now L) (hx : getN L x.n = none) : Rm (nmPut now x) (putN L x) :=
  ⟨(nmPut_perm (by rw [h.get]; exact hx)).trans ((h.1.cons x).trans (putN_perm L x).symm), putN_srt h.2 hx⟩
theorem Rm.wo {now L : List Nm} (h : Rm now L) (s : List UInt8) : Rm (nmDel now s) (woN L s) := by
  refine ⟨?_, List.Pairwise.filter _ h.2⟩
  rw [nmDel_eq s h.nd]
  exact h.1.filter _
theorem Rm.nil : Rm [] [] := ⟨List.Perm.refl _, List.Pairwise.nil⟩
/-- Two rows in order of one map are one. -/
theorem srtN_uniq {a b : List Nm} (h : a.Perm b) (ha : srtN a) (hb : srtN b) : a = b := by
  refine List.Perm.eq_of_pairwise (le := fun (a b : Nm) => Op.bytesLess a.n b.n = true) ?_ ha hb h
  intro x y _ _ h1 h2
  rw [bl_asymm h1] at h2
  cases h2

/-! ### Replays -/
def stM (l : List Nm) (x : Ac) : List Nm := if x.a then nmPut l x.e else nmDel l x.e.n
def runM (l : List Nm) (m : List Ac) : List Nm := m.foldl stM l
/-- Each Add of a row of operations puts a name that is not there. -/
def okA : List Nm → List Ac → Prop
  | _, [] => True
  | d, x :: m => (x.a = true → getN d x.e.n = none) ∧ okA (stA d x) m
theorem aftA_cons (d : List Nm) (x : Ac) (m : List Ac) : aftA d (x :: m) = aftA (stA d x) m := rfl
theorem aftA_snoc (d : List Nm) (m : List Ac) (x : Ac) : aftA d (m ++ [x]) = stA (aftA d m) x := by simp [aftA, List.foldl_append]
theorem runM_snoc (d : List Nm) (m : List Ac) (x : Ac) : runM d (m ++ [x]) = stM (runM d m) x := by simp [runM, List.foldl_append]
theorem okA_snoc : ∀ {d : List Nm} {m : List Ac} {x : Ac}, okA d m → (x.a = true → getN (aftA d m) x.e.n = none) → okA d (m ++ [x])
  | d, [], x, _, h => ⟨h, trivial⟩
  | d, y :: m, x, h1, h2 => ⟨h1.1, okA_snoc h1.2 h2⟩
theorem okA_take : ∀ {d : List Nm} {m : List Ac} (k : Nat), okA d m → okA d (m.take k)
  | d, m, 0, _ => by rw [List.take_zero]; trivial
  | d, [], k + 1, h => h
  | d, y :: m, k + 1, h => ⟨h.1, okA_take k h.2⟩
theorem Rm.st {now L : List Nm} {x : Ac} (h : Rm now L) (hx : x.a = true → getN L x.e.n = none) : Rm (stM now x) (stA L x) := by
  unfold stM stA
  cases ha : x.a with
  | true => simpa using h.put (hx ha)
  | false => simpa using h.wo x.e.n
theorem Rm.run : ∀ {m : List Ac} {now L : List Nm}, Rm now L → okA L m → Rm (runM now m) (aftA L m)
  | [], _, _, h, _ => h
  | x :: m, now, L, h, hk => Rm.run (m := m) (h.st hk.1) hk.2

/-! ### A directory of the program -/
structure Pd where
  dur : List Nm
  now : List Nm
  pend : List Ac
def addP (p : Pd) (s : List UInt8) (n : Int) : Pd × Int :=
  if s = [] ∨ n < 0 then (p, 2) else if (getN p.now s).isSome then (p, 81) else (⟨p.dur, nmPut p.now ⟨s, n⟩, p.pend ++ [⟨true, s, n⟩]⟩, 0)
def remP (p : Pd) (s : List UInt8) : Pd × Int × Int :=
  match getN p.now s with
  | none => (p, 0, 80)
  | some n => (⟨p.dur, nmDel p.now s, p.pend ++ [⟨false, s, n⟩]⟩, n, 0)
def failP (p : Pd) (k : Nat) : Pd := ⟨runM p.dur (p.pend.take k), runM p.dur (p.pend.take k), []⟩
/-- A directory is the reference's. -/
structure Is (p : Pd) (r : Dr) : Prop where
  dur : Rm p.dur r.d
  now : Rm p.now r.now
  pend : p.pend = r.m
  ok : okA r.d r.m
theorem Is.add {p : Pd} {r : Dr} (h : Is p r) (s : List UInt8) (n : Int) : Is (addP p s n).1 (addR r s n).1 ∧ (addP p s n).2 = (addR r s n).2 := by
  unfold addP addR
  rw [h.now.get]
  by_cases h1 : s = [] ∨ n < 0
  · rw [if_pos h1, if_pos h1]; exact ⟨h, rfl⟩
  rw [if_neg h1, if_neg h1]
  cases hg : getN r.now s with
  | some i => exact ⟨h, rfl⟩
  | none =>
    have e : Dr.now ⟨r.d, r.m ++ [⟨true, s, n⟩]⟩ = putN r.now ⟨s, n⟩ := (aftA_snoc r.d r.m ⟨true, s, n⟩).trans rfl
    exact ⟨⟨h.dur, by rw [if_neg (by simp), if_neg (by simp), e]; exact h.now.put hg, by rw [if_neg (by simp), if_neg (by simp), h.pend], by rw [if_neg (by simp)]; exact okA_snoc h.ok fun _ => hg⟩, rfl⟩
theorem Is.rem {p : Pd} {r : Dr} (h : Is p r) (s : List UInt8) : Is (remP p s).1 (remR r s).1 ∧ (remP p s).2 = (remR r s).2 := by
  unfold remP remR
  rw [h.now.get]
  cases hg : getN r.now s with
  | none => exact ⟨h, rfl⟩
  | some n =>
    have e : Dr.now ⟨r.d, r.m ++ [⟨false, s, n⟩]⟩ = woN r.now s := (aftA_snoc r.d r.m ⟨false, s, n⟩).trans rfl
    exact ⟨⟨h.dur, by show Rm (nmDel p.now s) _; rw [e]; exact h.now.wo s, by rw [h.pend], okA_snoc h.ok fun h1 => by cases h1⟩, rfl⟩
theorem Is.fail {p : Pd} {r : Dr} (h : Is p r) (k : Nat) : Is (failP p k) (failR r k) := by
  have h1 : Rm (runM p.dur (p.pend.take k)) (aftA r.d (r.m.take k)) := by rw [h.pend]; exact h.dur.run (okA_take k h.ok)
  exact ⟨h1, h1, rfl, trivial⟩
theorem Is.new : Is ⟨[], [], []⟩ ⟨[], []⟩ := ⟨Rm.nil, Rm.nil, rfl, trivial⟩
theorem Is.sync {p : Pd} {r : Dr} (h : Is p r) : Is (failP p p.pend.length) ⟨r.now, []⟩ := by
  have := h.fail p.pend.length
  unfold failR at this
  rw [h.pend] at this ⊢
  simpa [Dr.now] using this

/-! ### Calls -/
structure Cl where
  d : Int
  n : List UInt8
  k : Int
def doP (p : Pd) (q : Cl) : Pd := if q.d % 6 = 0 then (addP p q.n q.k).1 else if q.d % 6 = 1 then (remP p q.n).1 else if q.d % 6 = 3 then failP p p.pend.length else p
def doR (r : Dr) (q : Cl) : Dr := if q.d % 6 = 0 then (addR r q.n q.k).1 else if q.d % 6 = 1 then (remR r q.n).1 else if q.d % 6 = 3 then ⟨r.now, []⟩ else r
theorem Is.does {p : Pd} {r : Dr} (h : Is p r) (q : Cl) : Is (doP p q) (doR r q) := by
  unfold doP doR
  split
  · exact (h.add _ _).1
  split
  · exact (h.rem _).1
  split
  · exact h.sync
  · exact h
/-- the row of a directory's names, in order -/
def sortN (l : List Nm) : List Nm := l.mergeSort fun a b => !Op.bytesLess b.n a.n
theorem sortN_perm (l : List Nm) : (sortN l).Perm l := List.mergeSort_perm _ _
theorem sortN_of {l m : List Nm} (h : ndN l) (hp : m.Perm l) (hs : m.Pairwise fun a b => Op.bytesLess b.n a.n = false) : srtN m := by
  have h1 : (m.map (fun e : Nm => e.n)).Nodup := (hp.map (fun e : Nm => e.n)).nodup_iff.2 h
  rw [List.Nodup, List.pairwise_map] at h1
  refine (List.pairwise_and_iff.2 ⟨hs, h1⟩).imp ?_
  intro a b hab
  cases hb : Op.bytesLess a.n b.n with
  | true => rfl
  | false => exact absurd (bl_tri _ _ hb hab.1) hab.2
theorem sortN_srt {l : List Nm} (h : ndN l) : srtN (sortN l) := by
  refine sortN_of h (sortN_perm l) ?_
  have := List.pairwise_mergeSort (le := fun (a b : Nm) => !Op.bytesLess b.n a.n) ?_ ?_ l
  · exact this.imp fun hab => by simpa using hab
  · intro a b c h1 h2
    simp only [Bool.not_eq_true'] at h1 h2 ⊢
    cases hc : Op.bytesLess c.n a.n with
    | false => rfl
    | true =>
      cases h3 : Op.bytesLess a.n b.n with
      | true => exact absurd (bl_trans _ _ _ hc h3) (by rw [h2]; simp)
      | false =>
        have e := bl_tri _ _ h3 h1
        rw [e, h2] at hc
        cases hc
  · intro a b
    cases h3 : Op.bytesLess a.n b.n with
    | true => rw [bl_asymm h3]; simp
    | false => simp
theorem Rm.sort {now L : List Nm} (h : Rm now L) : sortN now = L :=
  srtN_uniq ((sortN_perm now).trans h.1) (sortN_srt h.nd) h.2

/-! ### Failing -/
def foldP (p : Pd) (l : List Cl) : Pd := l.foldl doP p
def foldR (r : Dr) (l : List Cl) : Dr := l.foldl doR r
/-- without Syncs -/
def foldPn (p : Pd) (l : List Cl) : Pd := l.foldl (fun p q => if q.d % 6 = 3 then p else doP p q) p
def foldRn (r : Dr) (l : List Cl) : Dr := l.foldl (fun p q => if q.d % 6 = 3 then p else doR p q) r
theorem Is.fold : ∀ {l : List Cl} {p : Pd} {r : Dr}, Is p r → Is (foldP p l) (foldR r l)
  | [], _, _, h => h
  | q :: l, p, r, h => Is.fold (l := l) (h.does q)
theorem Is.foldn : ∀ {l : List Cl} {p : Pd} {r : Dr}, Is p r → Is (foldPn p l) (foldRn r l)
  | [], _, _, h => h
  | q :: l, p, r, h => by
    refine Is.foldn (l := l) ?_
    show Is (if _ then _ else _) (if _ then _ else _)
    split
    · exact h
    · exact h.does q
theorem foldRn_snoc (r : Dr) (l : List Cl) (q : Cl) : foldRn r (l ++ [q]) = if q.d % 6 = 3 then foldRn r l else doR (foldRn r l) q := by simp [foldRn, List.foldl_append]
theorem foldPn_snoc (r : Pd) (l : List Cl) (q : Cl) : foldPn r (l ++ [q]) = if q.d % 6 = 3 then foldPn r l else doP (foldPn r l) q := by simp [foldPn, List.foldl_append]
/-- A call that is no Sync: what is durable stays, at most one operation more; and the names hang on the names alone. -/
theorem doR_step (r : Dr) (q : Cl) (hq : ¬ q.d % 6 = 3) : (doR r q).d = r.d ∧ ((doR r q).m = r.m ∨ ∃ x, (doR r q).m = r.m ++ [x]) ∧ ∀ e : Dr, e.now = r.now → (doR e q).now = (doR r q).now := by
  unfold doR
  by_cases h0 : q.d % 6 = 0
  · simp only [if_pos h0]
    unfold addR
    by_cases h1 : q.n = [] ∨ q.k < 0
    · simp only [if_pos h1]; exact ⟨trivial, .inl trivial, fun e h => h⟩
    simp only [if_neg h1]
    cases hg : getN r.now q.n with
    | some i => exact ⟨rfl, .inl rfl, fun e h => by rw [h, hg]; exact h⟩
    | none => exact ⟨rfl, .inr ⟨_, rfl⟩, fun e h => by rw [h, hg]; exact (aftA_snoc _ _ _).trans ((congrArg (fun l => stA l _) h).trans (aftA_snoc _ _ _).symm)⟩
  by_cases h1 : q.d % 6 = 1
  · simp only [if_neg h0, if_pos h1]
    unfold remR
    cases hg : getN r.now q.n with
    | none => exact ⟨rfl, .inl rfl, fun e h => by rw [h, hg]; exact h⟩
    | some i => exact ⟨rfl, .inr ⟨_, rfl⟩, fun e h => by rw [h, hg]; exact (aftA_snoc _ _ _).trans ((congrArg (fun l => stA l _) h).trans (aftA_snoc _ _ _).symm)⟩
  · simp only [if_neg h0, if_neg h1, if_neg hq]
    exact ⟨trivial, .inl trivial, fun e h => h⟩
theorem snocRec {α : Type} {p : List α → Prop} (nil : p []) (append_singleton : ∀ l q, p l → p (l ++ [q])) (l : List α) : p l := by
  have h : ∀ m : List α, p m.reverse := by
    intro m
    induction m with
    | nil => exact nil
    | cons x m ih => rw [List.reverse_cons]; exact append_singleton _ _ ih
  have := h l.reverse
  rwa [List.reverse_reverse] at this
theorem foldRn_d (r : Dr) (l : List Cl) : (foldRn r l).d = r.d := by
  induction l using snocRec with
  | nil => rfl
  | append_singleton l q ih =>
    rw [foldRn_snoc]
    split
    · exact ih
    · rename_i hq
      rw [(doR_step _ q hq).1, ih]
theorem foldRn_now (r e : Dr) (h : e.now = r.now) (l : List Cl) : (foldRn e l).now = (foldRn r l).now := by
  induction l using snocRec with
  | nil => exact h
  | append_singleton l q ih =>
    rw [foldRn_snoc, foldRn_snoc]
    split
    · exact ih
    · rename_i hq
      exact (doR_step _ q hq).2.2 _ ih
theorem foldRn_mono (r : Dr) (l : List Cl) (q : Cl) : (foldRn r l).m.length ≤ (foldRn r (l ++ [q])).m.length := by
  rw [foldRn_snoc]
  split
  · exact Nat.le_refl _
  · rename_i hq
    rcases (doR_step (foldRn r l) q hq).2.1 with h | ⟨x, h⟩
    · rw [h]; exact Nat.le_refl _
    · rw [h, List.length_append]; exact Nat.le_add_right _ _
/-- What is there behind any failure was there behind some call, or ahead of all. -/
theorem foldRn_found (D : List Nm) (l : List Cl) : ∀ k, aftA D ((foldRn ⟨D, []⟩ l).m.take k) = D ∨ ∃ j, j < l.length ∧ aftA D ((foldRn ⟨D, []⟩ l).m.take k) = (foldRn ⟨D, []⟩ (l.take (j + 1))).now := by
  induction l using snocRec with
  | nil => intro k; left; show aftA D (List.take k []) = D; rw [List.take_nil]; rfl
  | append_singleton l q ih =>
    intro k
    have hw : ∀ {X : List Nm}, (X = D ∨ ∃ j, j < l.length ∧ X = (foldRn ⟨D, []⟩ (l.take (j + 1))).now) → (X = D ∨ ∃ j, j < (l ++ [q]).length ∧ X = (foldRn ⟨D, []⟩ ((l ++ [q]).take (j + 1))).now) := by
      rintro X (h | ⟨j, hj, h⟩)
      · exact .inl h
      · exact .inr ⟨j, by simp; omega, by rw [List.take_append_of_le_length (by omega)]; exact h⟩
    have hs := foldRn_snoc ⟨D, []⟩ l q
    by_cases hq : q.d % 6 = 3
    · rw [if_pos hq] at hs
      rw [hs]
      exact hw (ih k)
    · rw [if_neg hq] at hs
      rcases (doR_step (foldRn ⟨D, []⟩ l) q hq).2.1 with hm | ⟨x, hm⟩
      · rw [hs, hm]
        exact hw (ih k)
      · rcases Nat.lt_or_ge (foldRn ⟨D, []⟩ l).m.length k with hk | hk
        · right
          refine ⟨l.length, by simp, ?_⟩
          rw [List.take_of_length_le (by rw [hs, hm, List.length_append]; exact hk), List.take_of_length_le (by simp)]
          have : (foldRn ⟨D, []⟩ (l ++ [q])).d = D := foldRn_d _ _
          unfold Dr.now
          rw [this]
        · rw [hs, hm, List.take_append_of_le_length hk]
          exact hw (ih k)

end Go.Proofs.Ythblkhafehanfaa.Ab
