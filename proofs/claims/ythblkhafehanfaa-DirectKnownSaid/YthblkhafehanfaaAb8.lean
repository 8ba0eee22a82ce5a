/- The abstract machine is sound, fourth part: operations that read (slices, structs, addresses). -/
import Derived.Test.YthblkhafehanfaaAb7
import Derived.Lib.Strings
namespace Go.Proofs.Ythblkhafehanfaa.Ab
open Go Go.RowKit
set_option linter.unusedVariables false
set_option linter.unusedSimpArgs false

section
variable {P : Program} {S : Nat → Prop} {w : World} {β : Nat → Value} {objs : Nat → Option AO} {a : Act} {vars : Nat → AV} {N : Nat} {x y z : Operand} {o : Oper}

theorem run_sz {t : TypeId} {i : TypeInfo} (h : P.info? t = some i) (w : World) : (sizeOf t).run P w = .ok i.size w := by simp [sizeOf, typeInfo, h]
theorem sizeT_inv {t : TypeId} {n : Nat} (h : sizeT P t = some n) : ∃ i, P.info? t = some i ∧ i.size = n := by
  unfold sizeT at h
  obtain ⟨i, hi, he⟩ := Option.map_eq_some_iff.1 h
  exact ⟨i, hi, he⟩
theorem run_szT {t : TypeId} {n : Nat} (h : sizeT P t = some n) (w : World) : (sizeOf t).run P w = .ok n w := by
  obtain ⟨i, hi, rfl⟩ := sizeT_inv h
  exact run_sz hi w

theorem aggN_none {t : TypeId} (h : aggN P t = some none) (w : World) : (isAgg t).run P w = .ok false w := by
  unfold aggN at h
  cases hu : P.underlying t with
  | none => rw [hu] at h; cases h
  | some d =>
    rw [hu] at h
    cases d <;> simp [isAgg, run_underlying hu] <;> simp at h
theorem aggN_some {t : TypeId} {n : Nat} (h : aggN P t = some (some n)) (w : World) : (isAgg t).run P w = .ok true w ∧ (sizeOf t).run P w = .ok n w := by
  unfold aggN at h
  cases hu : P.underlying t with
  | none => rw [hu] at h; cases h
  | some d =>
    rw [hu] at h
    cases d <;> simp at h
    · obtain ⟨i, hi, rfl⟩ := h
      exact ⟨by simp [isAgg, run_underlying hu], run_sz hi w⟩
    · obtain ⟨i, hi, rfl⟩ := h
      exact ⟨by simp [isAgg, run_underlying hu], run_sz hi w⟩

theorem run_loadVar1 {t : TypeId} (h : aggN P t = some none) {ad : Addr} {v : Value} {w : World} (hc : w.cell? ad = some v) : (loadVar t ad).run P w = .ok v w := by
  simp [loadVar, aggN_none h, hc]
theorem run_loadVarN {t : TypeId} {n : Nat} (h : aggN P t = some (some n)) {ad : Addr} {us : List Value} {w : World} (hl : us.length = n) (hc : ∀ (j : Nat) (v : Value), us[j]? = some v → w.cell? (ad.add j) = some v) :
    (loadVar t ad).run P w = .ok (.agg us.toArray) w := by
  subst hl
  simp [loadVar, (aggN_some h w).1, (aggN_some h w).2, run_loadCells_list (P := P) w ad us hc]

/-! Bounds of a slice expression -/

theorem run_sb (sl : Bool) (n cap : Nat) {lo hi : Option Value} {A B : Int} (hlo : (lo = none ∧ A = 0) ∨ ∃ k, lo = some (.int k A)) (hhi : (hi = none ∧ B = n) ∨ ∃ k, hi = some (.int k B))
    (h0 : 0 ≤ A) (h1 : A ≤ B) (h2 : B ≤ n) (hc : n ≤ cap) : (Instr.sliceBounds sl n cap lo hi none).run P w = .ok (A.toNat, B.toNat, cap) w := by
  have e1 : (max B 0 : Int) = B := by omega
  rcases hlo with ⟨rfl, rfl⟩ | ⟨k, rfl⟩ <;> rcases hhi with ⟨rfl, rfl⟩ | ⟨k', rfl⟩
  · simp [Instr.sliceBounds]
  · simp [Instr.sliceBounds, Instr.sliceBound, asIntOf, show 0 ≤ B ∧ B ≤ (cap : Int) from by omega]
  · simp [Instr.sliceBounds, Instr.sliceBound, asIntOf, show 0 ≤ A ∧ A ≤ (n : Int) from by omega]
  · simp [Instr.sliceBounds, Instr.sliceBound, asIntOf, show 0 ≤ B ∧ B ≤ (cap : Int) from by omega, show 0 ≤ A ∧ A ≤ B from by omega, e1]

theorem bounds_inv {lo hi : Option Operand} {n : Nat} {A B : Int} (hev : ∀ z : Operand, asks (ev vars z) → RV P S w β (dom objs) (a.eval z) (strip (ev vars z))) (ha : asksL ((lo.toList ++ hi.toList).map (ev vars)))
    (h : bounds n lo.isSome hi.isSome (((lo.toList ++ hi.toList).map (ev vars)).map strip) = some (A, B)) :
    ((lo.map a.eval = none ∧ A = 0) ∨ ∃ k, lo.map a.eval = some (.int k A)) ∧ ((hi.map a.eval = none ∧ B = n) ∨ ∃ k, hi.map a.eval = some (.int k B)) := by
  cases lo with
  | none =>
    cases hi with
    | none => simp [bounds] at h; simp [h.1.symm, h.2.symm]
    | some z =>
      simp only [Option.toList, List.nil_append, List.map_cons, List.map_nil, asksL, Option.isSome] at h ha
      have hz := hev z ha.1
      generalize strip (ev vars z) = Z at h hz
      cases Z with
      | pv p =>
        cases p with
        | int k i => simp [bounds] at h; obtain ⟨rfl, rfl⟩ := h; exact ⟨.inl ⟨rfl, rfl⟩, .inr ⟨k, by simp [hz.int_inv]⟩⟩
        | _ => simp [bounds] at h
      | _ => simp [bounds] at h
  | some y =>
    cases hi with
    | none =>
      simp only [Option.toList, List.append_nil, List.map_cons, List.map_nil, asksL, Option.isSome] at h ha
      have hy := hev y ha.1
      generalize strip (ev vars y) = Y at h hy
      cases Y with
      | pv p =>
        cases p with
        | int k i => simp [bounds] at h; obtain ⟨rfl, rfl⟩ := h; exact ⟨.inr ⟨k, by simp [hy.int_inv]⟩, .inl ⟨rfl, rfl⟩⟩
        | _ => simp [bounds] at h
      | _ => simp [bounds] at h
    | some z =>
      simp only [Option.toList, List.cons_append, List.nil_append, List.map_cons, List.map_nil, asksL, Option.isSome] at h ha
      have hy := hev y ha.1
      have hz := hev z ha.2.1
      generalize strip (ev vars y) = Y at h hy
      generalize strip (ev vars z) = Z at h hz
      cases Y with
      | pv p =>
        cases p with
        | int k i =>
          cases Z with
          | pv q =>
            cases q with
            | int k' j => simp [bounds] at h; obtain ⟨rfl, rfl⟩ := h; exact ⟨.inr ⟨k, by simp [hy.int_inv]⟩, .inr ⟨k', by simp [hz.int_inv]⟩⟩
            | _ => simp [bounds] at h
          | _ => simp [bounds] at h
        | _ => cases Z <;> simp [bounds] at h
      | _ => simp [bounds] at h

theorem q_ssl {t : TypeId} {lo hi : Option Operand} (ho : o.op = .slice t x lo hi none) (ht : P.underlying t = some .string) (hev : ∀ z : Operand, asks (ev vars z) → RV P S w β (dom objs) (a.eval z) (strip (ev vars z)))
    {X : AV} (hX : RV P S w β (dom objs) (a.eval x) X) (ha : asksL ((lo.toList ++ hi.toList).map (ev vars))) {φ : Prop} {v : AV}
    (h : semQ (.ssl lo.isSome hi.isSome) (X :: ((lo.toList ++ hi.toList).map (ev vars)).map strip) objs = some (φ, v)) (hφ : φ) : ∃ r, (execOp a.eval o).run P w = .ok (.value r) w ∧ RV P S w β (dom objs) r v := by
  cases X with
  | pv p =>
    cases p with
    | str l =>
      simp only [semQ, Option.map_eq_some_iff] at h
      obtain ⟨⟨A, B⟩, hb, he⟩ := h
      simp only [Prod.mk.injEq] at he
      obtain ⟨rfl, rfl⟩ := he
      obtain ⟨h0, h1, h2⟩ := hφ
      obtain ⟨hlo, hhi⟩ := bounds_inv hev ha hb
      refine ⟨.string ⟨(cut l A B).toArray⟩, ?_, .pv _ _ (.str _)⟩
      have hs := run_sb (P := P) (w := w) false (ByteArray.mk l.toArray).size (ByteArray.mk l.toArray).size hlo (by rw [bsz]; exact hhi) h0 h1 (by rw [bsz]; exact h2) (Nat.le_refl _)
      have he : (ByteArray.mk l.toArray).extract A.toNat B.toNat = ⟨(cut l A B).toArray⟩ := by
        rw [Lib.extract_eq]
        simp [cut, List.drop_take]
      simp [execOp, ho, Instr.sliceAt, Instr.slice, run_underlying ht, hX.str_inv, hs, he]
    | _ => simp [semQ] at h
  | _ => simp [semQ] at h

theorem cut_length {α : Type} (l : List α) {A B : Int} (h0 : 0 ≤ A) (h1 : A ≤ B) (h2 : B ≤ l.length) : (cut l A B).length = B.toNat - A.toNat := by
  simp [cut, List.length_drop, List.length_take]; omega
theorem cut_get {α : Type} (l : List α) {A B : Int} (i : Nat) {r : α} (h : (cut l A B)[i]? = some r) : l[A.toNat + i]? = some r := by
  simp only [cut, List.getElem?_drop, List.getElem?_take] at h
  split at h
  · exact h
  · cases h

theorem add_zero' (a : Addr) : a.add 0 = a := by unfold Addr.add; simp
theorem q_slc {t e : TypeId} {sz : Nat} {lo hi : Option Operand} (ho : o.op = .slice t x lo hi none) (ht : P.underlying t = some (.slice e)) (hsz : sizeT P e = some sz) (hh : Heap P S w β objs)
    (hev : ∀ z : Operand, asks (ev vars z) → RV P S w β (dom objs) (a.eval z) (strip (ev vars z)))
    {X : AV} (hX : RV P S w β (dom objs) (a.eval x) X) (ha : asksL ((lo.toList ++ hi.toList).map (ev vars))) {φ : Prop} {v : AV}
    (h : semQ (.slc sz lo.isSome hi.isSome) (X :: ((lo.toList ++ hi.toList).map (ev vars)).map strip) objs = some (φ, v)) (hφ : φ) : ∃ r, (execOp a.eval o).run P w = .ok (.value r) w ∧ RV P S w β (dom objs) r v := by
  cases X with
  | pv p =>
    cases p with
    | ro rows =>
      simp only [semQ, Option.map_eq_some_iff] at h
      obtain ⟨⟨A, B⟩, hb, he⟩ := h
      simp only [Prod.mk.injEq] at he
      obtain ⟨rfl, rfl⟩ := he
      obtain ⟨h0, h1, h2, h3⟩ := hφ
      obtain ⟨hlo, hhi⟩ := bounds_inv hev ha hb
      obtain ⟨Ad, c, hv, hc, hne⟩ := hX.pv_inv.ro_inv
      have hs := run_sb (P := P) (w := w) true rows.length c hlo hhi h0 h1 h2 hc
      refine ⟨.slice (if c = A.toNat then Ad else Ad.map (·.add (A.toNat * sz))) (B.toNat - A.toNat) (c - A.toNat), ?_, .pv _ _ ?_⟩
      · simp [execOp, ho, Instr.sliceAt, Instr.slice, run_underlying ht, hv, hs, run_szT hsz]
      · have hcl := cut_length rows h0 h1 h2
        by_cases hz : B.toNat - A.toNat = 0
        · have hnil : cut rows A B = [] := List.eq_nil_of_length_eq_zero (hcl.trans hz)
          rw [hnil, hz]
          exact .ro0 _ _
        · have hrn : rows ≠ [] := by rintro rfl; simp at h2; omega
          obtain ⟨ad, sz0, us, rfl, g1, g2, g3, g4, g5⟩ := hne hrn
          have hsz0 : sz0 = sz := by
            obtain ⟨r, hr⟩ := List.exists_mem_of_ne_nil rows hrn
            rw [← g2 r hr, h3 r hr]
          subst hsz0
          rw [if_neg (by omega), ← hcl]
          refine .ro (ad.add (A.toNat * sz0)) _ _ sz0 (fun i j => us (A.toNat + i) j) (by rw [add_block]; exact g1) (by omega) (fun r hr => ?_) (fun i j hi hj => ?_) (fun i j r p hr hp => ?_) (fun i j r p hr hp => ?_)
          · exact g2 r (List.mem_of_mem_take (List.mem_of_mem_drop hr))
          · rw [add_add', ← g3 (A.toNat + i) j (by omega) hj, Nat.add_mul, Nat.add_assoc]
          · exact g4 _ j r p (cut_get rows i hr) hp
          · exact g5 _ j r p (cut_get rows i hr) hp
    | nil =>
      simp only [semQ, Option.map_eq_some_iff] at h
      obtain ⟨⟨A, B⟩, hb, he⟩ := h
      simp only [Prod.mk.injEq] at he
      obtain ⟨rfl, rfl⟩ := he
      obtain ⟨h0, h1⟩ := hφ
      subst h0 h1
      obtain ⟨hlo, hhi⟩ := bounds_inv hev ha hb
      have hv := hX.pv_inv.nil_inv
      have hs := run_sb (P := P) (w := w) true 0 0 hlo hhi (Int.le_refl 0) (Int.le_refl 0) (by simp) (Nat.le_refl 0)
      refine ⟨.slice none 0 0, ?_, .pv _ _ .nil⟩
      simp [execOp, ho, Instr.sliceAt, Instr.slice, run_underlying ht, hv, hs, run_szT hsz]
    | _ => simp [semQ] at h
  | own t' =>
    simp only [semQ, Option.bind_eq_some_iff, Option.map_eq_some_iff] at h
    obtain ⟨⟨e', rows⟩, hs, ⟨A, B⟩, hb, he⟩ := h
    simp only [Prod.mk.injEq] at he
    obtain ⟨rfl, rfl⟩ := he
    obtain ⟨h0, h1, h2, h3⟩ := hφ
    obtain ⟨hlo, hhi⟩ := bounds_inv hev ha hb
    obtain ⟨inf, us, hi', hown, hrl, _⟩ := hh.arr (arrO_inv hs)
    simp only at hi' hown hrl
    obtain ⟨Ad, c, hv, hc⟩ := own_slice hown
    have hx := hX.own_inv.1.trans hv
    have hsb := run_sb (P := P) (w := w) true rows.length c hlo hhi h0 h1 h2 hc
    have hmul : A.toNat * sz = A.toNat * inf.size := by
      by_cases hz : rows = []
      · subst hz; simp only [List.length_nil] at h2; rw [show A.toNat = 0 from by omega]; simp
      · obtain ⟨r, hr⟩ := List.exists_mem_of_ne_nil rows hz
        rw [← h3 r hr, hrl r hr]
    refine ⟨.slice (if c = A.toNat then Ad else Ad.map (·.add (A.toNat * sz))) (B.toNat - A.toNat) (c - A.toNat), ?_, .sub _ t' e' A.toNat B.toNat inf Ad _ rows.length c hX.own_inv.2 hi' hv (by omega) (by omega) hc (fun e0 => ?_) (fun hne => ?_) rfl⟩
    · simp [execOp, ho, Instr.sliceAt, Instr.slice, run_underlying ht, hx, hsb, run_szT hsz]
    · rw [e0]
      split
      · rfl
      · cases Ad with
        | none => rfl
        | some ad => simp [add_zero']
    · rw [if_neg hne, hmul]
  | sub t' e1 l m =>
    have hsem := h
    simp only [semQ, Option.bind_eq_some_iff] at hsem
    obtain ⟨⟨e', rows⟩, hs, hsem⟩ := hsem
    split at hsem
    · rename_i hee
      simp only at hee
      subst hee
      obtain ⟨⟨A, B⟩, hb, he⟩ := Option.map_eq_some_iff.1 hsem
      simp only [Prod.mk.injEq] at he
      obtain ⟨rfl, rfl⟩ := he
      obtain ⟨h0, h1, h2, h3⟩ := hφ
      obtain ⟨hlo, hhi⟩ := bounds_inv hev ha hb
      obtain ⟨inf, us, hi', hown, hrl, _⟩ := hh.arr (arrO_inv hs)
      simp only at hi' hown hrl
      obtain ⟨inf1, Ad, Ad1, n, c, hdt, hi1, hbt, g1, g2, g3, g4, g5, hx⟩ := hX.sub_inv
      rw [hi'] at hi1
      injection hi1 with hi1
      subst hi1
      obtain ⟨Ad', c', hv', _⟩ := own_slice hown
      have hn : n = rows.length := by rw [hbt] at hv'; simp at hv'; exact hv'.2.1
      subst hn
      have hsb := run_sb (P := P) (w := w) true (m - l) (c - l) hlo hhi h0 h1 h2 (by omega)
      have hmul : A.toNat * sz = A.toNat * inf.size := by
        by_cases hz : rows = []
        · subst hz; simp only [List.length_nil] at g2; rw [show A.toNat = 0 from by omega]; simp
        · obtain ⟨r, hr⟩ := List.exists_mem_of_ne_nil rows hz
          rw [← h3 r hr, hrl r hr]
      refine ⟨.slice (if c - l = A.toNat then Ad1 else Ad1.map (·.add (A.toNat * sz))) (B.toNat - A.toNat) (c - l - A.toNat), ?_, .sub _ t' e' (l + A.toNat) (l + B.toNat) inf Ad (if c - l = A.toNat then Ad1 else Ad1.map (·.add (A.toNat * sz))) rows.length c hdt hi' hbt (by omega) (by omega) g3 (fun e0 => ?_) (fun hne => ?_) ?_⟩
      · simp [execOp, ho, Instr.sliceAt, Instr.slice, run_underlying ht, hx, hsb, run_szT hsz]
      · rw [show A.toNat = 0 from by omega]
        rw [g4 (by omega)]
        split
        · rfl
        · cases Ad with
          | none => rfl
          | some ad => simp [add_zero']
      · rw [if_neg (by omega), g5 (by omega), hmul]
        cases Ad with
        | none => rfl
        | some ad => simp [add_add', Nat.add_mul]
      · rw [show l + B.toNat - (l + A.toNat) = B.toNat - A.toNat from by omega, show c - (l + A.toNat) = c - l - A.toNat from by omega]
    · cases hsem
  | _ => simp [semQ] at h

theorem rowAt_get {rows : List (List PV)} {i : Int} (h0 : 0 ≤ i) (h1 : i < rows.length) : rows[i.toNat]? = some (rowAt rows i) := by
  have : i.toNat < rows.length := by omega
  simp [rowAt, List.getD_eq_getElem?_getD, this]

theorem q_ixa {t e : TypeId} {sz : Nat} (ho : o.op = .indexAddr t x y) (ht : P.underlying t = some (.slice e)) (hsz : sizeT P e = some sz) (hh : Heap P S w β objs)
    {X Y : AV} (hX : RV P S w β (dom objs) (a.eval x) X) (hY : RV P S w β (dom objs) (a.eval y) Y) {φ : Prop} {v : AV}
    (h : semQ (.ixa e sz) [X, Y] objs = some (φ, v)) (hφ : φ) : ∃ r, (execOp a.eval o).run P w = .ok (.value r) w ∧ RV P S w β (dom objs) r v := by
  cases X with
  | pv p =>
    cases Y with
    | pv q =>
      cases p with
      | ro rows =>
        cases q with
        | int k i =>
          simp only [semQ, Option.some.injEq, Prod.mk.injEq] at h
          obtain ⟨rfl, rfl⟩ := h
          obtain ⟨h0, h1, h2⟩ := hφ
          obtain ⟨Ad, c, hv, hc, hne⟩ := hX.pv_inv.ro_inv
          have hrn : rows ≠ [] := by rintro rfl; simp at h1; omega
          obtain ⟨ad, sz0, us, rfl, g1, g2, g3, g4, g5⟩ := hne hrn
          have hg := rowAt_get h0 h1
          have hsz0 : sz0 = sz := by rw [← g2 _ (List.mem_of_getElem? hg), h2]
          subst hsz0
          refine ⟨.pointer (some (ad.add (i.toNat * sz0))), ?_, .rp _ _ (fun j => us i.toNat j) (by rw [add_block]; exact g1) (fun j hj => ?_) (fun j p hp => g4 _ j _ p hg hp) (fun j p hp => g5 _ j _ p hg hp)⟩
          · simp [execOp, ho, Instr.indexAt, asIntOf, run_underlying ht, hv, hY.int_inv, h0, h1, run_szT hsz]
          · rw [add_add']; exact g3 i.toNat j (by omega) (by omega)
        | _ => simp [semQ] at h
      | _ => cases q <;> simp [semQ] at h
    | _ => cases p <;> simp [semQ] at h
  | own t' =>
    cases Y with
    | pv q =>
      cases q with
      | int k i =>
        simp only [semQ, Option.bind_eq_some_iff] at h
        obtain ⟨⟨e', n⟩, hs, he⟩ := h
        split at he
        · rename_i hee
          simp only [Option.some.injEq, Prod.mk.injEq] at he
          obtain ⟨rfl, rfl⟩ := he
          obtain ⟨h0, h1⟩ := hφ
          simp only at hee h1
          subst hee
          obtain ⟨inf, us, hi, hown⟩ := idxO_owns hh hs
          have hinf : inf.size = sz := by
            obtain ⟨i', hi', rfl⟩ := sizeT_inv hsz
            rw [hi] at hi'; injection hi' with hi'; rw [hi']
          rcases hown.2 with ⟨_, hz⟩ | ⟨g, cap, cur, hv, _⟩
          · omega
          · have hx : a.eval x = .slice (some ⟨g, 0, none⟩) n cap := hX.own_inv.1.trans hv
            have hE : RV P S w β (dom objs) (.pointer (some ⟨g, i.toNat * inf.size + 0, none⟩)) (.eptr t' e' i 0) := .eptr t' e' i 0 g n cap inf hX.own_inv.2 hi hv
            refine ⟨_, ?_, hE⟩
            simp [execOp, ho, Instr.indexAt, asIntOf, run_underlying ht, hx, hY.int_inv, h0, h1, run_szT hsz, hinf, Addr.add_lit]
        · cases he
      | _ => simp [semQ] at h
    | _ => simp [semQ] at h
  | sub t' e1 lo hi =>
    cases Y with
    | pv q =>
      cases q with
      | int k i =>
        simp only [semQ, Option.bind_eq_some_iff] at h
        obtain ⟨⟨e', rows⟩, hs, he⟩ := h
        have hs' := arrO_inv hs
        split at he
        · rename_i hee
          simp only [Option.some.injEq, Prod.mk.injEq] at he
          obtain ⟨rfl, rfl⟩ := he
          obtain ⟨h0, h1⟩ := hφ
          simp only at hee hs'
          obtain ⟨rfl, rfl⟩ := hee
          obtain ⟨inf, us, hi', hown, hr, hc⟩ := hh.arr hs'
          have hinf : inf.size = sz := by
            obtain ⟨i', hi1, rfl⟩ := sizeT_inv hsz
            rw [hi'] at hi1; injection hi1 with hi1; rw [hi1]
          obtain ⟨inf1, Ad, Ad1, n, c, hdt, hi1, hbt, g1, g2, g3, g4, g5, hx⟩ := hX.sub_inv
          rw [hi'] at hi1
          injection hi1 with hi1
          subst hi1
          rcases hown.2 with ⟨hv, hz⟩ | ⟨g, cap, cur, hv, _⟩
          · rw [hv] at hbt; simp at hbt; omega
          · rw [hv] at hbt
            have hx3 : some (⟨g, 0, none⟩ : Addr) = Ad ∧ rows.length = n ∧ cap = c := by simpa using hbt
            obtain ⟨rfl, rfl, rfl⟩ := hx3
            have hx := hx
            rw [g5 (by omega)] at hx
            have hE : RV P S w β (dom objs) (.pointer (some ⟨g, ((lo : Int) + i).toNat * inf.size + 0, none⟩)) (.eptr t' e1 ((lo : Int) + i) 0) := .eptr t' e1 _ 0 g rows.length cap inf hdt hi' hv
            refine ⟨_, ?_, hE⟩
            have hlen : i < ((hi - lo : Nat) : Int) := by omega
            have hadd : ((lo : Int) + i).toNat * inf.size = lo * inf.size + i.toNat * inf.size := by
              rw [show ((lo : Int) + i).toNat = lo + i.toNat from by omega, Nat.add_mul]
            rw [hadd]
            simp [execOp, ho, Instr.indexAt, asIntOf, run_underlying ht, hx, hY.int_inv, h0, hlen, run_szT hsz, ← hinf, Addr.add_lit]
        · cases he
      | _ => simp [semQ] at h
    | _ => simp [semQ] at h
  | _ => simp [semQ] at h

theorem q_fad {s : TypeId} {i : Nat} {fs : Array Field} {f : Field} {n : Nat} (ho : o.op = .fieldAddr s x i) (ht : P.underlying s = some (.struct fs)) (hf : fs[i]? = some f) (hsz : sizeT P f.type = some (n + 1))
    {X : AV} (hX : RV P S w β (dom objs) (a.eval x) X) {φ : Prop} {v : AV}
    (h : semQ (.fad f.offset) [X] objs = some (φ, v)) (hφ : φ) : ∃ r, (execOp a.eval o).run P w = .ok (.value r) w ∧ RV P S w β (dom objs) r v := by
  have hr : ∀ ad : Addr, a.eval x = .pointer (some ad) → (execOp a.eval o).run P w = .ok (.value (.pointer (some (ad.add f.offset)))) w := by
    intro ad hv
    simp [execOp, ho, Instr.fieldAt, run_underlying ht, hf, hv, Instr.sureAddr, fieldPlace, run_szT hsz]
  cases X with
  | ptr t' o' =>
    simp only [semQ, Option.some.injEq, Prod.mk.injEq] at h
    obtain ⟨rfl, rfl⟩ := h
    obtain ⟨b, hv, hd, hb⟩ := hX.ptr_inv
    refine ⟨_, hr _ hv, ?_⟩
    rw [Addr.add_lit]
    exact .ptr t' _ b hd hb
  | eptr t' e' i' o' =>
    simp only [semQ, Option.some.injEq, Prod.mk.injEq] at h
    obtain ⟨rfl, rfl⟩ := h
    obtain ⟨b, n', c, inf, hv, hd, hi, hb⟩ := hX.eptr_inv
    refine ⟨_, hr _ hv, ?_⟩
    rw [Addr.add_lit, Nat.add_assoc]
    exact .eptr t' e' i' _ b n' c inf hd hi hb
  | rp cs =>
    simp only [semQ, Option.some.injEq, Prod.mk.injEq] at h
    obtain ⟨rfl, rfl⟩ := h
    obtain ⟨ad, us, hv, h1, h2, h3, h4⟩ := hX.rp_inv
    refine ⟨_, hr _ hv, .rp _ _ (fun j => us (f.offset + j)) (by rw [add_block]; exact h1) (fun j hj => ?_) (fun j p hp => ?_) (fun j p hp => ?_)⟩
    · rw [add_add']; exact h2 _ (by simp at hj; omega)
    · exact h3 _ p (by rw [← hp, List.getElem?_drop])
    · exact h4 _ p (by rw [← hp, List.getElem?_drop])
  | _ => simp [semQ] at h

theorem q_ixp {t e : TypeId} {n sz : Nat} (ho : o.op = .indexAddr t x y) (ht : P.underlying t = some (.array n e)) (hsz : sizeT P e = some sz)
    {X Y : AV} (hX : RV P S w β (dom objs) (a.eval x) X) (hY : RV P S w β (dom objs) (a.eval y) Y) {φ : Prop} {v : AV}
    (h : semQ (.ixp n sz) [X, Y] objs = some (φ, v)) (hφ : φ) : ∃ r, (execOp a.eval o).run P w = .ok (.value r) w ∧ RV P S w β (dom objs) r v := by
  have hr : ∀ (ad : Addr) (k : IntKind) (i : Int), a.eval x = .pointer (some ad) → a.eval y = .int k i → 0 ≤ i → i < (n : Int) → (execOp a.eval o).run P w = .ok (.value (.pointer (some (ad.add (i.toNat * sz))))) w := by
    intro ad k i hv hi h0 h1
    simp [execOp, ho, Instr.indexAt, asIntOf, run_underlying ht, hv, hi, Instr.sureAddr, h0, h1, run_szT hsz]
  cases X with
  | ptr t' o' =>
    cases Y with
    | pv q =>
      cases q with
      | int k i =>
        simp only [semQ, Option.some.injEq, Prod.mk.injEq] at h
        obtain ⟨rfl, rfl⟩ := h
        obtain ⟨b, hv, hd, hb⟩ := hX.ptr_inv
        refine ⟨_, hr _ k i hv hY.int_inv hφ.1 hφ.2, ?_⟩
        rw [Addr.add_lit]
        exact .ptr t' _ b hd hb
      | _ => simp [semQ] at h
    | _ => simp [semQ] at h
  | rp cs =>
    cases Y with
    | pv q =>
      cases q with
      | int k i =>
        simp only [semQ, Option.some.injEq, Prod.mk.injEq] at h
        obtain ⟨rfl, rfl⟩ := h
        obtain ⟨ad, us, hv, h1, h2, h3, h4⟩ := hX.rp_inv
        refine ⟨_, hr _ k i hv hY.int_inv hφ.1 hφ.2, .rp _ _ (fun j => us (i.toNat * sz + j)) (by rw [add_block]; exact h1) (fun j hj => ?_) (fun j p hp => ?_) (fun j p hp => ?_)⟩
        · rw [add_add']; exact h2 _ (by simp at hj; omega)
        · exact h3 _ p (by rw [← hp, List.getElem?_drop])
        · exact h4 _ p (by rw [← hp, List.getElem?_drop])
      | _ => simp [semQ] at h
    | _ => simp [semQ] at h
  | _ => simp [semQ] at h

theorem q_nck (ho : o.op = .nilCheck x) {X : AV} (hX : RV P S w β (dom objs) (a.eval x) X) {φ : Prop} {v : AV}
    (h : semQ .nck [X] objs = some (φ, v)) (hφ : φ) : ∃ r, (execOp a.eval o).run P w = .ok (.value r) w ∧ RV P S w β (dom objs) r v := by
  have hr : ∀ ad : Addr, a.eval x = .pointer (some ad) → (execOp a.eval o).run P w = .ok (.value (.pointer (some ad))) w := by
    intro ad hv
    simp [execOp, ho, hv]
  cases X with
  | ptr t' o' =>
    simp only [semQ, Option.some.injEq, Prod.mk.injEq] at h
    obtain ⟨rfl, rfl⟩ := h
    have hX' := hX
    obtain ⟨b, hv, hd, hb⟩ := hX.ptr_inv
    exact ⟨_, hr _ hv, by rw [← hv]; exact hX'⟩
  | eptr t' e' i' o' =>
    simp only [semQ, Option.some.injEq, Prod.mk.injEq] at h
    obtain ⟨rfl, rfl⟩ := h
    have hX' := hX
    obtain ⟨b, n', c, inf, hv, hd, hi, hb⟩ := hX.eptr_inv
    exact ⟨_, hr _ hv, by rw [← hv]; exact hX'⟩
  | rp cs =>
    simp only [semQ, Option.some.injEq, Prod.mk.injEq] at h
    obtain ⟨rfl, rfl⟩ := h
    have hX' := hX
    obtain ⟨ad, us, hv, h1, h2, h3, h4⟩ := hX.rp_inv
    exact ⟨_, hr _ hv, by rw [← hv]; exact hX'⟩
  | _ => simp [semQ] at h

theorem Heap.box (hh : Heap P S w β objs) {t : Nat} {cs : List AV} (h : objs t = some (.box cs)) : HoldsO P S w β (dom objs) t (.box cs) := hh.holds t _ h

theorem q_load1 {t : TypeId} (ho : o.op = .load t x) (ht : aggN P t = some none) (hh : Heap P S w β objs) {X : AV} (hX : RV P S w β (dom objs) (a.eval x) X) {φ : Prop} {v : AV}
    (h : semQ (.load none) [X] objs = some (φ, v)) (hφ : φ) : ∃ r, (execOp a.eval o).run P w = .ok (.value r) w ∧ RV P S w β (dom objs) r v := by
  have hr : ∀ (ad : Addr) (u : Value), a.eval x = .pointer (some ad) → w.cell? ad = some u → (execOp a.eval o).run P w = .ok (.value u) w := by
    intro ad u hv hc
    simp [execOp, ho, Instr.loadAt, hv, Instr.sureAddr, run_loadVar1 ht hc]
  cases X with
  | ptr t' o' =>
    simp only [semQ, Option.bind_eq_some_iff] at h
    obtain ⟨cs, hcs, c, hc, he⟩ := h
    split at he
    rotate_left
    · cases he
    simp only [Option.some.injEq, Prod.mk.injEq] at he
    obtain ⟨rfl, rfl⟩ := he
    obtain ⟨b, hv, hd, hb⟩ := hX.ptr_inv
    obtain ⟨b', us, ty, hp, hheap, hl, hcells⟩ := hh.box (boxO_inv hcs)
    have hbb : b' = b := by rw [hb] at hp; simpa using hp.symm
    subst hbb
    have hlt : o' < us.size := by rw [hl]; exact (List.getElem?_eq_some_iff.1 hc).1
    have hu : us[o']? = some us[o'] := Array.getElem?_eq_getElem hlt
    exact ⟨us[o'], hr _ _ hv ((cell_of_row w b' o' us ty (0, 0) hheap).trans hu), (hcells o' c _ hc hu).2⟩
  | eptr t' e' i' o' =>
    have he : loadE e' i' o' (objs t') = some (φ, v) := h
    unfold loadE at he
    split at he
    rotate_left
    · rename_i e cs hs'
      split at he
      rotate_left
      · cases he
      rename_i hee
      obtain ⟨rfl, rfl⟩ := hee
      obtain ⟨c, hc, he⟩ := Option.bind_eq_some_iff.1 he
      split at he
      rotate_left
      · cases he
      simp only [Option.some.injEq, Prod.mk.injEq] at he
      obtain ⟨rfl, rfl⟩ := he
      obtain ⟨b, n', c', inf, hv, hd, hi, hb⟩ := hX.eptr_inv
      obtain ⟨inf', us, hi', h1s, hown, hcells⟩ := hh.holds t' _ hs'
      have : inf' = inf := by rw [hi] at hi'; injection hi' with hi'; exact hi'.symm
      subst this
      have hlt : i'.toNat < us.length := by
        rw [hown.1, h1s, Nat.mul_one]; exact (List.getElem?_eq_some_iff.1 hc).1
      have hu : us[i'.toNat]? = some us[i'.toNat] := List.getElem?_eq_getElem hlt
      have hob : (β t').ownBlock = some b := by rw [hb]; rfl
      have hcell := hown.cells hob _ _ hu
      rw [Addr.add_lit, Nat.zero_add] at hcell
      refine ⟨us[i'.toNat], hr _ _ hv ?_, (hcells _ c _ hc hu).2⟩
      rw [h1s, Nat.mul_one, Nat.add_zero]
      exact hcell
    · cases he
    rename_i e rows hs'
    split at he
    · rename_i hee
      subst hee
      simp only [Option.some.injEq, Prod.mk.injEq] at he
      obtain ⟨rfl, rfl⟩ := he
      obtain ⟨hφ0, hφ1, hφ2⟩ := hφ
      have hc : (rowAt rows i')[o']? = some ((rowAt rows i').getD o' (.int .u8 0)) := by simp [List.getD_eq_getElem?_getD, hφ2]
      generalize (rowAt rows i').getD o' (.int .u8 0) = c at hc
      obtain ⟨b, n', c', inf, hv, hd, hi, hb⟩ := hX.eptr_inv
      obtain ⟨inf', us, hi', hown, hrl, hcells⟩ := hh.arr hs'
      have : inf' = inf := by rw [hi] at hi'; injection hi' with hi'; exact hi'.symm
      subst this
      obtain ⟨u, hu, h1, h2⟩ := hcells _ o' _ c (rowAt_get hφ0 hφ1) hc
      have hob : (β t').ownBlock = some b := by rw [hb]; rfl
      have hcell := hown.cells hob _ u hu
      rw [Addr.add_lit, Nat.zero_add] at hcell
      exact ⟨u, hr _ _ hv hcell, .pv _ _ h2⟩
    · cases he
  | rp cs =>
    cases cs with
    | nil =>
      simp only [semQ, Option.some.injEq, Prod.mk.injEq] at h
      obtain ⟨rfl, rfl⟩ := h
      exact hφ.elim
    | cons c cs =>
      simp only [semQ, Option.some.injEq, Prod.mk.injEq] at h
      obtain ⟨rfl, rfl⟩ := h
      obtain ⟨ad, us, hv, h1, h2, h3, h4⟩ := hX.rp_inv
      have hcell := h2 0 (by simp)
      exact ⟨us 0, hr _ _ hv (by simpa [Addr.add] using hcell), .pv _ _ (h4 0 c rfl)⟩
  | _ => simp [semQ] at h

theorem q_loadN {t : TypeId} {n : Nat} (ho : o.op = .load t x) (ht : aggN P t = some (some n)) (hh : Heap P S w β objs) {X : AV} (hX : RV P S w β (dom objs) (a.eval x) X) {φ : Prop} {v : AV}
    (h : semQ (.load (some n)) [X] objs = some (φ, v)) (hφ : φ) : ∃ r, (execOp a.eval o).run P w = .ok (.value r) w ∧ RV P S w β (dom objs) r v := by
  have hr : ∀ (ad : Addr) (us : List Value), a.eval x = .pointer (some ad) → us.length = n → (∀ (j : Nat) (u : Value), us[j]? = some u → w.cell? (ad.add j) = some u) → (execOp a.eval o).run P w = .ok (.value (.agg us.toArray)) w := by
    intro ad us hv hl hc
    simp [execOp, ho, Instr.loadAt, hv, Instr.sureAddr, run_loadVarN ht hl hc]
  cases X with
  | ptr t' o' =>
    simp only [semQ, Option.bind_eq_some_iff] at h
    obtain ⟨cs, hcs, he⟩ := h
    split at he
    · rename_i hle
      simp only [Option.some.injEq, Prod.mk.injEq] at he
      obtain ⟨rfl, rfl⟩ := he
      obtain ⟨b, hv, hd, hb⟩ := hX.ptr_inv
      obtain ⟨b', us, ty, hp, hheap, hl, hcells⟩ := hh.box (boxO_inv hcs)
      have hbb : b' = b := by rw [hb] at hp; simpa using hp.symm
      subst hbb
      have hlen : ((us.toList.drop o').take n).length = n := by simp; omega
      refine ⟨_, hr _ ((us.toList.drop o').take n) hv hlen (fun j u hu => ?_), .agg _ _ (by simp [hl]) (fun j c u hc hu => ?_)⟩
      · rw [Addr.add_lit, cell_of_row w b' _ us ty (0, 0) hheap]
        rw [List.getElem?_take] at hu
        split at hu
        · rw [List.getElem?_drop] at hu; simpa using hu
        · cases hu
      · rw [List.getElem?_take] at hu hc
        split at hu
        · rw [List.getElem?_drop] at hu
          rename_i hj
          rw [if_pos hj, List.getElem?_drop] at hc
          exact (hcells _ c u hc (by simpa using hu)).2
        · cases hu
    · cases he
  | eptr t' e' i' o' =>
    simp only [semQ, Option.bind_eq_some_iff] at h
    obtain ⟨⟨e, rows⟩, hs, he⟩ := h
    have hs' := arrO_inv hs
    simp only at he hs'
    split at he
    · rename_i hee
      obtain ⟨rfl, hle⟩ := hee
      simp only [Option.some.injEq, Prod.mk.injEq] at he
      obtain ⟨rfl, rfl⟩ := he
      obtain ⟨b, n', c', inf, hv, hd, hi, hb⟩ := hX.eptr_inv
      obtain ⟨inf', us, hi', hown, hrl, hcells⟩ := hh.arr hs'
      have : inf' = inf := by rw [hi] at hi'; injection hi' with hi'; exact hi'.symm
      subst this
      have hg := rowAt_get hφ.1 hφ.2
      have hrs : (rowAt rows i').length = inf'.size := hrl _ (List.mem_of_getElem? hg)
      have hob : (β t').ownBlock = some b := by rw [hb]; rfl
      have hone : ∀ j, j < n → ∃ u, us[i'.toNat * inf'.size + (o' + j)]? = some u := fun j hj => by
        obtain ⟨u, hu, _⟩ := hcells _ (o' + j) _ _ hg (List.getElem?_eq_getElem (show o' + j < (rowAt rows i').length by omega))
        exact ⟨u, hu⟩
      have hlen : ((us.drop (i'.toNat * inf'.size + o')).take n).length = n := by
        rw [List.length_take, List.length_drop]
        rcases Nat.eq_zero_or_pos n with h0 | h0
        · omega
        · obtain ⟨u, hu⟩ := hone (n - 1) (by omega)
          have := (List.getElem?_eq_some_iff.1 hu).1
          omega
      refine ⟨_, hr _ ((us.drop (i'.toNat * inf'.size + o')).take n) hv hlen (fun j u hu => ?_), .agg _ _ (by rw [hlen]; simp; omega) (fun j c u hc hu => ?_)⟩
      · rw [List.getElem?_take] at hu
        split at hu
        · rw [List.getElem?_drop] at hu
          have hcell := hown.cells hob _ u hu
          rw [Addr.add_lit, Nat.zero_add] at hcell
          rw [Addr.add_lit]; exact hcell
        · cases hu
      · rw [List.getElem?_take] at hu
        split at hu
        · rename_i hj
          rw [List.getElem?_drop, Nat.add_assoc] at hu
          rw [List.getElem?_map, Option.map_eq_some_iff] at hc
          obtain ⟨p, hp, rfl⟩ := hc
          rw [List.getElem?_take, if_pos hj, List.getElem?_drop] at hp
          obtain ⟨u', hu', _, h2⟩ := hcells _ (o' + j) _ p hg hp
          rw [hu] at hu'
          injection hu' with hu'
          rw [hu']
          exact .pv _ _ h2
        · cases hu
    · cases he
  | rp cs =>
    simp only [semQ] at h
    split at h
    · rename_i hle
      simp only [Option.some.injEq, Prod.mk.injEq] at h
      obtain ⟨rfl, rfl⟩ := h
      obtain ⟨ad, us, hv, h1, h2, h3, h4⟩ := hX.rp_inv
      have hg : ∀ (j : Nat) (u : Value), ((List.range n).map us)[j]? = some u → j < n ∧ u = us j := fun j u hu => by
        simp only [List.getElem?_map, Option.map_eq_some_iff] at hu
        obtain ⟨k, hk, rfl⟩ := hu
        have hjn : j < n := by
          have := (List.getElem?_eq_some_iff.1 hk).1
          simpa using this
        rw [List.getElem?_range hjn] at hk
        injection hk with hk
        exact ⟨hjn, by rw [hk]⟩
      refine ⟨_, hr _ ((List.range n).map us) hv (by simp) (fun j u hu => ?_), .agg _ _ (by simp; omega) (fun j c u hc hu => ?_)⟩
      · obtain ⟨hj, rfl⟩ := hg j u hu
        exact h2 j (by omega)
      · obtain ⟨hj, rfl⟩ := hg j u hu
        rw [List.getElem?_map, Option.map_eq_some_iff] at hc
        obtain ⟨p, hp, rfl⟩ := hc
        rw [List.getElem?_take, if_pos hj] at hp
        exact .pv _ _ (h4 j p hp)
    · cases h
  | _ => simp [semQ] at h

theorem q_fld1 {s : TypeId} {i : Nat} {fs : Array Field} {f : Field} (ho : o.op = .field s x i) (ht : P.underlying s = some (.struct fs)) (hf : fs[i]? = some f) (hn : aggN P f.type = some none)
    {X : AV} (hX : RV P S w β (dom objs) (a.eval x) X) {φ : Prop} {v : AV}
    (h : semQ (.fld f.offset none) [X] objs = some (φ, v)) (hφ : φ) : ∃ r, (execOp a.eval o).run P w = .ok (.value r) w ∧ RV P S w β (dom objs) r v := by
  cases X with
  | agg cs =>
    simp only [semQ, Option.map_eq_some_iff] at h
    obtain ⟨c, hc, he⟩ := h
    simp only [Prod.mk.injEq] at he
    obtain ⟨rfl, rfl⟩ := he
    obtain ⟨us, hv, hl, hcs⟩ := hX.agg_inv
    have hlt : f.offset < us.length := by rw [hl]; exact (List.getElem?_eq_some_iff.1 hc).1
    have hu : us[f.offset]? = some us[f.offset] := List.getElem?_eq_getElem hlt
    refine ⟨us[f.offset], ?_, hcs _ c _ hc hu⟩
    simp [execOp, ho, Instr.field, run_underlying ht, hf, hv, asAgg, part, aggN_none hn, hlt]
  | _ => simp [semQ] at h

theorem q_fldN {s : TypeId} {i n : Nat} {fs : Array Field} {f : Field} (ho : o.op = .field s x i) (ht : P.underlying s = some (.struct fs)) (hf : fs[i]? = some f) (hn : aggN P f.type = some (some n))
    {X : AV} (hX : RV P S w β (dom objs) (a.eval x) X) {φ : Prop} {v : AV}
    (h : semQ (.fld f.offset (some n)) [X] objs = some (φ, v)) (hφ : φ) : ∃ r, (execOp a.eval o).run P w = .ok (.value r) w ∧ RV P S w β (dom objs) r v := by
  cases X with
  | agg cs =>
    simp only [semQ] at h
    split at h
    · rename_i hle
      simp only [Option.some.injEq, Prod.mk.injEq] at h
      obtain ⟨rfl, rfl⟩ := h
      obtain ⟨us, hv, hl, hcs⟩ := hX.agg_inv
      refine ⟨.agg ((us.drop f.offset).take n).toArray, ?_, .agg _ _ (by simp [hl]) (fun j c u hc hu => ?_)⟩
      · have he : us.toArray.extract f.offset (f.offset + n) = ((us.drop f.offset).take n).toArray := by
          simp [List.extract_toArray, List.extract_eq_take_drop]
        simp [execOp, ho, Instr.field, run_underlying ht, hf, hv, asAgg, part, (aggN_some hn w).1, (aggN_some hn w).2, he]
      · rw [List.getElem?_take] at hu hc
        split at hu
        · rename_i hj
          rw [if_pos hj, List.getElem?_drop] at hc
          rw [List.getElem?_drop] at hu
          exact hcs _ c u hc hu
        · cases hu
    · cases h
  | _ => simp [semQ] at h

theorem q_ext {i : Nat} (ho : o.op = .extract x i) {X : AV} (hX : RV P S w β (dom objs) (a.eval x) X) {φ : Prop} {v : AV}
    (h : semQ (.ext i) [X] objs = some (φ, v)) (hφ : φ) : ∃ r, (execOp a.eval o).run P w = .ok (.value r) w ∧ RV P S w β (dom objs) r v := by
  cases X with
  | tup cs =>
    simp only [semQ, Option.map_eq_some_iff] at h
    obtain ⟨c, hc, he⟩ := h
    simp only [Prod.mk.injEq] at he
    obtain ⟨rfl, rfl⟩ := he
    obtain ⟨us, hv, hl, hcs⟩ := hX.tup_inv
    have hlt : i < us.length := by rw [hl]; exact (List.getElem?_eq_some_iff.1 hc).1
    have hu : us[i]? = some us[i] := List.getElem?_eq_getElem hlt
    refine ⟨us[i], ?_, hcs _ c _ hc hu⟩
    simp [execOp, ho, Instr.extract, hv, hlt]
  | _ => simp [semQ] at h
end

end Go.Proofs.Ythblkhafehanfaa.Ab
