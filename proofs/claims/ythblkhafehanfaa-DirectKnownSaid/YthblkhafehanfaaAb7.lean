/- The abstract machine is sound, third part: operations that read. -/
import Derived.Test.YthblkhafehanfaaAb6
import Derived.Lib.MinMax
import Derived.Lib.BufferRead
import Derived.Laws.IdiomStrings
namespace Go.Proofs.Ythblkhafehanfaa.Ab
open Go Go.RowKit
set_option linter.unusedVariables false
set_option linter.unusedSimpArgs false

section
variable {P : Program} {S : Nat → Prop} {w : World} {β : Nat → Value} {D : Nat → Prop} {v : Value}
theorem RPV.int_inv {k : IntKind} {n : Int} (h : RPV S w v (.int k n)) : v = .int k n := by cases h; rfl
theorem RPV.bool_inv {b : Bool} (h : RPV S w v (.bool b)) : v = .bool b := by cases h; rfl
theorem RPV.str_inv {l : List UInt8} (h : RPV S w v (.str l)) : v = .string ⟨l.toArray⟩ := by cases h; rfl
theorem RPV.nil_inv (h : RPV S w v .nil) : v = .slice none 0 0 := by cases h; rfl
theorem RV.pv_inv {p : PV} (h : RV P S w β D v (.pv p)) : RPV S w v p := by cases h; assumption
theorem RV.int_inv {k : IntKind} {n : Int} (h : RV P S w β D v (.pv (.int k n))) : v = .int k n := h.pv_inv.int_inv
theorem RV.bool_inv {b : Bool} (h : RV P S w β D v (.pv (.bool b))) : v = .bool b := h.pv_inv.bool_inv
theorem RV.str_inv {l : List UInt8} (h : RV P S w β D v (.pv (.str l))) : v = .string ⟨l.toArray⟩ := h.pv_inv.str_inv
theorem RV.own_inv {t : Nat} (h : RV P S w β D v (.own t)) : v = β t ∧ D t := by cases h; exact ⟨rfl, by assumption⟩
theorem RV.ptr_inv {t o : Nat} (h : RV P S w β D v (.ptr t o)) : ∃ b, v = .pointer (some ⟨b, o, none⟩) ∧ D t ∧ β t = .pointer (some ⟨b, 0, none⟩) := by
  cases h with | ptr _ _ b h hb => exact ⟨b, rfl, h, hb⟩
theorem RV.eptr_inv {t : Nat} {e : TypeId} {i : Int} {o : Nat} (h : RV P S w β D v (.eptr t e i o)) : ∃ b n c inf, v = .pointer (some ⟨b, i.toNat * inf.size + o, none⟩) ∧ D t ∧ P.info? e = some inf ∧ β t = .slice (some ⟨b, 0, none⟩) n c := by
  cases h with | eptr _ _ _ _ b n c inf h hi hb => exact ⟨b, n, c, inf, rfl, h, hi, hb⟩
theorem RV.rp_inv {cs : List PV} (h : RV P S w β D v (.rp cs)) : ∃ (ad : Addr) (us : Nat → Value), v = .pointer (some ad) ∧ S ad.block ∧ (∀ j, j < cs.length → w.cell? (ad.add j) = some (us j)) ∧
    (∀ (j : Nat) (p : PV), cs[j]? = some p → (us j).oneCell' = true) ∧ (∀ (j : Nat) (p : PV), cs[j]? = some p → RPV S w (us j) p) := by
  cases h with | rp ad _ us h1 h2 h3 h4 => exact ⟨ad, us, rfl, h1, h2, h3, h4⟩
theorem RV.agg_inv {cs : List AV} (h : RV P S w β D v (.agg cs)) : ∃ us : List Value, v = .agg us.toArray ∧ us.length = cs.length ∧ (∀ (i : Nat) (c : AV) (u : Value), cs[i]? = some c → us[i]? = some u → RV P S w β D u c) := by
  cases h with | agg _ us hl h => exact ⟨us, rfl, hl, h⟩
theorem RV.tup_inv {cs : List AV} (h : RV P S w β D v (.tup cs)) : ∃ us : List Value, v = .tuple us.toArray ∧ us.length = cs.length ∧ (∀ (i : Nat) (c : AV) (u : Value), cs[i]? = some c → us[i]? = some u → RV P S w β D u c) := by
  cases h with | tup _ us hl h => exact ⟨us, rfl, hl, h⟩
theorem RV.clo_inv {f : FuncId} {cs : List AV} (h : RV P S w β D v (.clo f cs)) : ∃ us : List Value, v = .func (.func f) #[] us.toArray ∧ us.length = cs.length ∧ (∀ (i : Nat) (c : AV) (u : Value), cs[i]? = some c → us[i]? = some u → RV P S w β D u c) := by
  cases h with | clo _ _ us hl h => exact ⟨us, rfl, hl, h⟩
/-- A slice that is read. -/
theorem RPV.ro_inv {rows : List (List PV)} (h : RPV S w v (.ro rows)) : ∃ (A : Option Addr) (c : Nat), v = .slice A rows.length c ∧ rows.length ≤ c ∧
    (rows ≠ [] → ∃ (ad : Addr) (sz : Nat) (us : Nat → Nat → Value), A = some ad ∧ S ad.block ∧ (∀ r, r ∈ rows → r.length = sz) ∧ (∀ i j, i < rows.length → j < sz → w.cell? (ad.add (i * sz + j)) = some (us i j)) ∧
      (∀ (i j : Nat) (r : List PV) (p : PV), rows[i]? = some r → r[j]? = some p → (us i j).oneCell' = true) ∧ (∀ (i j : Nat) (r : List PV) (p : PV), rows[i]? = some r → r[j]? = some p → RPV S w (us i j) p)) := by
  cases h with
  | ro0 A c => exact ⟨A, c, rfl, by simp, fun h => absurd rfl h⟩
  | ro ad c _ sz us h1 h2 h3 h4 h5 h6 => exact ⟨some ad, c, rfl, h2, fun _ => ⟨ad, sz, us, rfl, h1, h3, h4, h5, h6⟩⟩
end

theorem cvp_sound (S : Nat → Prop) (w : World) (v : Value) (hv : v.oneCell' = true) : RPV S w v (cvp v) := by
  unfold cvp
  split
  · exact .int _ _
  · exact .bool _
  · rename_i s
    have : s = ⟨s.data.toList.toArray⟩ := by simp
    rw [show RPV S w (.string s) (.str s.data.toList) = RPV S w (.string ⟨s.data.toList.toArray⟩) (.str s.data.toList) from by rw [← this]]
    exact .str _
  · exact .nil
  · exact .val _ hv
theorem cv_sound (P : Program) (S : Nat → Prop) (w : World) (β : Nat → Value) (D : Nat → Prop) (v : Value) : RV P S w β D v (cv v) := by
  unfold cv
  split
  · rename_i h; exact .pv _ _ (cvp_sound S w v h)
  · exact .junk _

section
variable {P : Program} {S : Nat → Prop} {w : World} {β : Nat → Value} {objs : Nat → Option AO} {a : Act} {vars : Nat → AV} {N : Nat} {x y z : Operand} {o : Oper}

theorem ev_sound (h : ∀ s, RV P S w β (dom objs) (a.tmps.getD s undef) (vars s)) (x : Operand) : RV P S w β (dom objs) (a.eval x) (ev vars x) := by
  cases x with
  | tmp t => exact h t
  | const v => exact cv_sound P S w β (dom objs) v
  | func f => exact .clo f [] [] rfl (fun i c u hc => by simp at hc)
  | global g => exact .junk _

theorem sbin_sound {op : BinOp} {p q r : PV} {φ : Prop} {u v : Value} (hs : sbin op p q = some (φ, r)) (hφ : φ) (hu : RPV S w u p) (hv : RPV S w v q) :
    ∃ r', RPV S w r' r ∧ ∀ (t : TypeId) (x y : Operand) (W : World), (do eqGuard op t x y u v; binOp op t u v : Sem Value).run P W = .ok r' W := by
  cases p with
  | int k m =>
    cases q with
    | int k' n =>
      have eu := hu.int_inv
      have ev := hv.int_inv
      subst eu ev
      by_cases hk : k = k'
      · subst hk
        cases op <;> simp only [sbin, if_true, Option.some.injEq, Prod.mk.injEq] at hs <;> obtain ⟨rfl, rfl⟩ := hs
        · exact ⟨_, .int _ _, fun t x y W => by simp [eqGuard, binOp, Op.intArith]⟩
        · exact ⟨_, .int _ _, fun t x y W => by simp [eqGuard, binOp, Op.intArith]⟩
        · exact ⟨_, .int _ _, fun t x y W => by simp [eqGuard, binOp, Op.intArith]⟩
        · exact ⟨_, .int _ _, fun t x y W => by simp [eqGuard, binOp, Op.intDiv, hφ]⟩
        · exact ⟨_, .int _ _, fun t x y W => by simp [eqGuard, binOp, Op.intDiv, hφ]⟩
        · exact ⟨_, .int _ _, fun t x y W => by simp [eqGuard, binOp, Op.intBits]⟩
        · exact ⟨_, .int _ _, fun t x y W => by simp [eqGuard, binOp, Op.intBits]⟩
        · exact ⟨_, .int _ _, fun t x y W => by simp [eqGuard, binOp, Op.intBits]⟩
        · exact ⟨_, .int _ _, fun t x y W => by simp [eqGuard, binOp, Op.shift, show ¬ n < 0 from by omega]⟩
        · exact ⟨_, .int _ _, fun t x y W => by simp [eqGuard, binOp, Op.shift, show ¬ n < 0 from by omega]⟩
        · exact ⟨_, .int _ _, fun t x y W => by simp [eqGuard, binOp, Op.intBits]⟩
        · exact ⟨_, .bool _, fun t x y W => by simp [eqGuard, binOp, Op.intCmp]; rfl⟩
        · exact ⟨_, .bool _, fun t x y W => by simp [eqGuard, binOp, Op.intCmp, bne]; rfl⟩
        · exact ⟨_, .bool _, fun t x y W => by simp [eqGuard, binOp, Op.intCmp]⟩
        · exact ⟨_, .bool _, fun t x y W => by simp [eqGuard, binOp, Op.intCmp]⟩
        · exact ⟨_, .bool _, fun t x y W => by simp [eqGuard, binOp, Op.intCmp]⟩
        · exact ⟨_, .bool _, fun t x y W => by simp [eqGuard, binOp, Op.intCmp]⟩
      · cases op <;> simp only [sbin, if_neg hk, Option.some.injEq, Prod.mk.injEq, reduceCtorEq] at hs <;> obtain ⟨rfl, rfl⟩ := hs
        · exact ⟨_, .int _ _, fun t x y W => by simp [eqGuard, binOp, Op.shift, show ¬ n < 0 from by omega]⟩
        · exact ⟨_, .int _ _, fun t x y W => by simp [eqGuard, binOp, Op.shift, show ¬ n < 0 from by omega]⟩
    | _ => simp [sbin] at hs
  | str l =>
    cases q with
    | str m =>
      have eu := hu.str_inv
      have ev := hv.str_inv
      subst eu ev
      have hl : ∀ k : List UInt8, (ByteArray.mk k.toArray).toList = k := ByteArray.toList_mk
      have hsz : ∀ k : List UInt8, (ByteArray.mk k.toArray).size = k.length := fun k => by simp [ByteArray.size]
      have he : (l == m) = decide (l = m) := by rw [Bool.eq_iff_iff]; simp
      cases op <;> simp only [sbin, Option.some.injEq, Prod.mk.injEq, reduceCtorEq] at hs <;> obtain ⟨rfl, rfl⟩ := hs
      · refine ⟨_, .str _, fun t x y W => ?_⟩
        have h1 : ¬ (9223372036854775807 < ((l.length : Int) + (m.length : Int))) := by omega
        have h2 : (ByteArray.mk l.toArray ++ ByteArray.mk m.toArray) = ByteArray.mk (l ++ m).toArray := by
          apply ByteArray.ext
          simp
        simp [eqGuard, binOp, Op.stringOp, hsz, h1, h2]
      · exact ⟨_, .bool _, fun t x y W => by simp [eqGuard, binOp, Op.stringOp, he]⟩
      · exact ⟨_, .bool _, fun t x y W => by simp [eqGuard, binOp, Op.stringOp, he]⟩
      · exact ⟨_, .bool _, fun t x y W => by simp [eqGuard, binOp, Op.stringOp, hl]⟩
      · exact ⟨_, .bool _, fun t x y W => by simp [eqGuard, binOp, Op.stringOp, hl, he]⟩
      · exact ⟨_, .bool _, fun t x y W => by simp [eqGuard, binOp, Op.stringOp, hl, he]⟩
      · exact ⟨_, .bool _, fun t x y W => by simp [eqGuard, binOp, Op.stringOp, hl]⟩
    | _ => simp [sbin] at hs
  | _ => simp [sbin] at hs

theorem q_bin {op : BinOp} {t yt : TypeId} (ho : o.op = .binOp op t x y yt) {X Y : AV} (hX : RV P S w β (dom objs) (a.eval x) X) (hY : RV P S w β (dom objs) (a.eval y) Y) {φ : Prop} {v : AV}
    (h : semQ (.bin op) [X, Y] objs = some (φ, v)) (hφ : φ) : ∃ r, (execOp a.eval o).run P w = .ok (.value r) w ∧ RV P S w β (dom objs) r v := by
  cases X with
  | pv p =>
    cases Y with
    | pv q =>
      simp only [semQ, Option.map_eq_some_iff] at h
      obtain ⟨⟨φ', r⟩, hs, he⟩ := h
      simp only [Prod.mk.injEq] at he
      obtain ⟨rfl, rfl⟩ := he
      obtain ⟨r', h1, h2⟩ := sbin_sound hs hφ hX.pv_inv hY.pv_inv
      refine ⟨r', ?_, .pv _ _ h1⟩
      have := h2 t x y w
      simp only [execOp, ho, Sem.run_bind] at this ⊢
      rw [this]; rfl
    | _ => simp [semQ] at h
  | _ => simp [semQ] at h

theorem run_eq_bool {t : TypeId} (ht : P.underlying t = some .bool) (b c : Bool) (W : World) : (Op.equal t (.bool b) (.bool c)).run P W = .ok (b == c) W := by
  have h : ∀ d : Nat, (Op.equalIn (d + 1) t (.bool b) (.bool c)).run P W = .ok (b == c) W := fun d => by
    simp [Op.equalIn, run_underlying ht]
  simp [Op.equal, Op.maxDepth, h 9999]

theorem bsz (l : List UInt8) : (ByteArray.mk l.toArray).size = l.length := by simp [ByteArray.size]

theorem q_beq {ne : Bool} {t yt : TypeId} (ho : o.op = .binOp (if ne then .neq else .eql) t x y yt) (ht : P.underlying t = some .bool) {X Y : AV} (hX : RV P S w β (dom objs) (a.eval x) X) (hY : RV P S w β (dom objs) (a.eval y) Y) {φ : Prop} {v : AV}
    (h : semQ (.beq ne) [X, Y] objs = some (φ, v)) (hφ : φ) : ∃ r, (execOp a.eval o).run P w = .ok (.value r) w ∧ RV P S w β (dom objs) r v := by
  cases X with
  | pv p =>
    cases Y with
    | pv q =>
      cases p with
      | bool b =>
        cases q with
        | bool c =>
          simp only [semQ, Option.some.injEq, Prod.mk.injEq] at h
          obtain ⟨rfl, rfl⟩ := h
          refine ⟨_, ?_, .pv _ _ (.bool _)⟩
          cases ne <;> simp [execOp, ho, hX.bool_inv, hY.bool_inv, eqGuard, binOp, run_eq_bool ht, bne]
        | _ => simp [semQ] at h
      | _ => cases q <;> simp [semQ] at h
    | _ => cases p <;> simp [semQ] at h
  | _ => simp [semQ] at h

theorem q_not {t : TypeId} (ho : o.op = .unOp .not t x) {X : AV} (hX : RV P S w β (dom objs) (a.eval x) X) {φ : Prop} {v : AV}
    (h : semQ .not [X] objs = some (φ, v)) (hφ : φ) : ∃ r, (execOp a.eval o).run P w = .ok (.value r) w ∧ RV P S w β (dom objs) r v := by
  cases X with
  | pv p =>
    cases p with
    | bool b =>
      simp only [semQ, Option.some.injEq, Prod.mk.injEq] at h
      obtain ⟨rfl, rfl⟩ := h
      exact ⟨_, by simp [execOp, ho, hX.bool_inv, Op.unary], .pv _ _ (.bool _)⟩
    | _ => simp [semQ] at h
  | _ => simp [semQ] at h

theorem q_neg {t : TypeId} (ho : o.op = .unOp .neg t x) {X : AV} (hX : RV P S w β (dom objs) (a.eval x) X) {φ : Prop} {v : AV}
    (h : semQ .neg [X] objs = some (φ, v)) (hφ : φ) : ∃ r, (execOp a.eval o).run P w = .ok (.value r) w ∧ RV P S w β (dom objs) r v := by
  cases X with
  | pv p =>
    cases p with
    | int k n =>
      simp only [semQ, Option.some.injEq, Prod.mk.injEq] at h
      obtain ⟨rfl, rfl⟩ := h
      exact ⟨_, by simp [execOp, ho, hX.int_inv, Op.unary, Op.intArith], .pv _ _ (.int _ _)⟩
    | _ => simp [semQ] at h
  | _ => simp [semQ] at h

theorem q_cvi {src dst : TypeId} {k k0 : IntKind} (ho : o.op = .convert src dst x) (hs : P.underlying src = some (.int k0)) (hd : P.underlying dst = some (.int k)) {X : AV} (hX : RV P S w β (dom objs) (a.eval x) X) {φ : Prop} {v : AV}
    (h : semQ (.cvi k) [X] objs = some (φ, v)) (hφ : φ) : ∃ r, (execOp a.eval o).run P w = .ok (.value r) w ∧ RV P S w β (dom objs) r v := by
  cases X with
  | pv p =>
    cases p with
    | int k' n =>
      simp only [semQ, Option.some.injEq, Prod.mk.injEq] at h
      obtain ⟨rfl, rfl⟩ := h
      exact ⟨_, by simp [execOp, ho, hX.int_inv, convert, run_underlying hs, run_underlying hd, Conv.intToInt], .pv _ _ (.int _ _)⟩
    | _ => simp [semQ] at h
  | _ => simp [semQ] at h

theorem q_scv {src dst : TypeId} (ho : o.op = .convert src dst x) (hs : P.underlying src = some .string) (hd : P.underlying dst = some .string) {X : AV} (hX : RV P S w β (dom objs) (a.eval x) X) {φ : Prop} {v : AV}
    (h : semQ .scv [X] objs = some (φ, v)) (hφ : φ) : ∃ r, (execOp a.eval o).run P w = .ok (.value r) w ∧ RV P S w β (dom objs) r v := by
  cases X with
  | pv p =>
    cases p with
    | str l =>
      simp only [semQ, Option.some.injEq, Prod.mk.injEq] at h
      obtain ⟨rfl, rfl⟩ := h
      exact ⟨_, by simp [execOp, ho, hX.str_inv, convert, run_underlying hs, run_underlying hd], .pv _ _ (.str _)⟩
    | _ => simp [semQ] at h
  | _ => simp [semQ] at h

theorem arrO_inv {q : Option AO} {r : TypeId × List (List PV)} (h : arrO q = some r) : q = some (.arr r.1 r.2) := by
  unfold arrO at h
  split at h
  · injection h with h; subst h; rfl
  · cases h
theorem boxO_inv {q : Option AO} {cs : List AV} (h : boxO q = some cs) : q = some (.box cs) := by
  unfold boxO at h
  split at h
  · injection h with h; subst h; rfl
  · cases h

theorem RV.sub_inv {D : Nat → Prop} {v : Value} {t : Nat} {e : TypeId} {lo hi : Nat} (h : RV P S w β D v (.sub t e lo hi)) : ∃ inf A A1 n c, D t ∧ P.info? e = some inf ∧ β t = .slice A n c ∧ lo ≤ hi ∧ hi ≤ n ∧ n ≤ c ∧ (lo = 0 → A1 = A) ∧ (c ≠ lo → A1 = A.map (·.add (lo * inf.size))) ∧ v = .slice A1 (hi - lo) (c - lo) := by
  cases h with | sub v t e lo hi inf A A1 n c h hi' hb h1 h2 h3 h4 h5 hv => exact ⟨inf, A, A1, n, c, h, hi', hb, h1, h2, h3, h4, h5, hv⟩

/-- A part of a slice that is read alone. -/
theorem RPV.cut {A A1 : Option Addr} {c sz lo hi : Nat} {rows : List (List PV)} (h : RPV S w (.slice A rows.length c) (.ro rows)) (h1 : lo ≤ hi) (h2 : hi ≤ rows.length) (hc : rows.length ≤ c) (hsz : ∀ r ∈ rows, r.length = sz) (hA : c ≠ lo → A1 = A.map (·.add (lo * sz))) :
    RPV S w (.slice A1 (hi - lo) (c - lo)) (.ro ((rows.take hi).drop lo)) := by
  obtain ⟨A', c', hv, _, hne⟩ := h.ro_inv
  have hAc : A = A' ∧ c = c' := by simpa using hv
  obtain ⟨rfl, rfl⟩ := hAc
  have hcl : ((rows.take hi).drop lo).length = hi - lo := by simp; omega
  by_cases hz : hi - lo = 0
  · have hnil : (rows.take hi).drop lo = [] := List.eq_nil_of_length_eq_zero (hcl.trans hz)
    rw [hnil, hz]
    exact .ro0 _ _
  · have hrn : rows ≠ [] := by rintro rfl; simp at h2; omega
    obtain ⟨ad, sz0, us, rfl, g1, g2, g3, g4, g5⟩ := hne hrn
    have hsz0 : sz0 = sz := by
      obtain ⟨r, hr⟩ := List.exists_mem_of_ne_nil rows hrn
      rw [← g2 r hr, hsz r hr]
    subst hsz0
    have hget : ∀ (i : Nat) (r : List PV), ((rows.take hi).drop lo)[i]? = some r → rows[lo + i]? = some r := by
      intro i r hr
      simp only [List.getElem?_drop, List.getElem?_take] at hr
      split at hr
      · exact hr
      · cases hr
    rw [hA (by omega), ← hcl]
    refine .ro (ad.add (lo * sz0)) _ _ sz0 (fun i j => us (lo + i) j) (by rw [add_block]; exact g1) (by omega) (fun r hr => ?_) (fun i j hi' hj => ?_) (fun i j r p hr hp => ?_) (fun i j r p hr hp => ?_)
    · exact g2 r (List.mem_of_mem_take (List.mem_of_mem_drop hr))
    · rw [add_add', ← g3 (lo + i) j (by omega) hj, Nat.add_mul, Nat.add_assoc]
    · exact g4 _ j r p (hget i r hr) hp
    · exact g5 _ j r p (hget i r hr) hp

/-- A slice of the call's own, in memory. -/
theorem Heap.arr (hh : Heap P S w β objs) {t : Nat} {e : TypeId} {rows : List (List PV)} (h : objs t = some (.arr e rows)) : HoldsO P S w β (dom objs) t (.arr e rows) := hh.holds t _ h
theorem own_slice {w : World} {b : Nat} {e : TypeId} {sz n : Nat} {v : Value} {us : List Value} (h : w.ownsRow b e sz v n us) : ∃ A c, v = .slice A n c ∧ n ≤ c := by
  rcases h.2 with ⟨rfl, rfl⟩ | ⟨g, cap, cur, rfl, _, _, h, _⟩
  · exact ⟨none, 0, rfl, Nat.le_refl _⟩
  · exact ⟨_, cap, rfl, h⟩

/-- A slice of the call's own, read. -/
theorem own_ro {S' : Nat → Prop} {D : Nat → Prop} {t : Nat} {e : TypeId} {rows : List (List PV)} (h : HoldsO P S w β D t (.arr e rows)) (hS : ∀ b, S b → S' b) (hb : ∀ b, blk (β t) = some b → S' b) :
    RPV S' w (β t) (.ro rows) ∧ ∃ inf A c, P.info? e = some inf ∧ β t = .slice A rows.length c ∧ rows.length ≤ c ∧ ∀ r ∈ rows, r.length = inf.size := by
  obtain ⟨inf, us, hi, hown, hrl, hcs⟩ := h
  obtain ⟨A, c, hv, hc⟩ := own_slice hown
  refine ⟨?_, inf, A, c, hi, hv, hc, hrl⟩
  have hm : ∀ b, S b → S' b ∧ w.heap[b]? = w.heap[b]? := fun b hb => ⟨hS b hb, rfl⟩
  by_cases hz : rows = []
  · subst hz
    rw [hv]; exact .ro0 A c
  · rcases hown.2 with ⟨_, hz0⟩ | ⟨g, cap, cur, hv, _, hheap, hnc, _⟩
    · exact absurd (List.eq_nil_of_length_eq_zero hz0) hz
    · have hob : (β t).ownBlock = some g := by rw [hv]; rfl
      have hcell := hown.cells hob
      have hg := hb g (by rw [hv]; rfl)
      rw [hv]
      have hlook : ∀ i j, i < rows.length → j < inf.size → ∃ u, us[i * inf.size + j]? = some u := fun i j hi hj => by
        have hr : rows[i]? = some rows[i] := List.getElem?_eq_getElem hi
        have hj' : j < rows[i].length := by rw [hrl _ (List.mem_of_getElem? hr)]; exact hj
        obtain ⟨u, hu, _⟩ := hcs i j _ _ hr (List.getElem?_eq_getElem hj')
        exact ⟨u, hu⟩
      refine .ro ⟨g, 0, none⟩ cap rows inf.size (fun i j => us.getD (i * inf.size + j) undef) hg hnc hrl (fun i j hi hj => ?_) (fun i j r p h1 h2 => ?_) (fun i j r p h1 h2 => ?_)
      · obtain ⟨u, hu⟩ := hlook i j hi hj
        rw [hcell _ u hu]
        simp [List.getD_eq_getElem?_getD, hu]
      · obtain ⟨u, hu, h3, _⟩ := hcs i j r p h1 h2
        simp only [List.getD_eq_getElem?_getD, hu, Option.getD_some]
        exact h3
      · obtain ⟨u, hu, _, h3⟩ := hcs i j r p h1 h2
        simp only [List.getD_eq_getElem?_getD, hu, Option.getD_some]
        exact h3.mono hm
theorem sub_ro {S' S1 : Nat → Prop} {D D1 : Nat → Prop} {t lo hi : Nat} {e : TypeId} {rows : List (List PV)} {v : Value} (h : HoldsO P S w β D t (.arr e rows)) (hS : ∀ b, S b → S' b) (hb : ∀ b, blk (β t) = some b → S' b)
    (hv : RV P S1 w β D1 v (.sub t e lo hi)) : RPV S' w v (.ro ((rows.take hi).drop lo)) := by
  obtain ⟨hro, inf, A, c, hi', hbt, hc, hrl⟩ := own_ro h hS hb
  obtain ⟨inf1, A1, A2, n1, c1, _, hi1, hb1, h1, h2, h3, h4, h5, hv⟩ := hv.sub_inv
  rw [hi'] at hi1
  injection hi1 with hi1
  subst hi1
  rw [hbt] at hb1 hro
  have hx : A = A1 ∧ rows.length = n1 ∧ c = c1 := by simpa using hb1
  obtain ⟨rfl, rfl, rfl⟩ := hx
  rw [hv]
  exact hro.cut h1 h2 h3 hrl h5

theorem q_slen {t : TypeId} (ho : o.op = .call { callee := .builtin .len, args := #[x], argTypes := #[t] }) (ht : P.underlying t = some .string)
    {X : AV} (hX : RV P S w β (dom objs) (a.eval x) X) {φ : Prop} {v : AV}
    (h : semQ .slen [X] objs = some (φ, v)) (hφ : φ) : ∃ r, (execOp a.eval o).run P w = .ok (.value r) w ∧ RV P S w β (dom objs) r v := by
  cases X with
  | pv p =>
    cases p with
    | str l =>
      simp only [semQ, Option.some.injEq, Prod.mk.injEq] at h
      obtain ⟨rfl, rfl⟩ := h
      exact ⟨_, by simp [execOp, ho, resolve, invoke, builtin, Builtin.len_, run_underlying ht, hX.str_inv, goInt, bsz], .pv _ _ (.int _ _)⟩
    | _ => simp [semQ] at h
  | _ => simp [semQ] at h

theorem idxO_owns (hh : Heap P S w β objs) {t e : Nat} {n : Nat} (h : idxO (objs t) = some (e, n)) : ∃ inf us, P.info? e = some inf ∧ w.ownsRow 0 e inf.size (β t) n us := by
  unfold idxO at h
  split at h
  · rename_i e' rows ho
    cases h
    obtain ⟨inf, us, hi, hown, _⟩ := hh.holds t _ ho
    exact ⟨inf, us, hi, hown⟩
  · rename_i e' cs ho
    cases h
    obtain ⟨inf, us, hi, _, hown, _⟩ := hh.holds t _ ho
    exact ⟨inf, us, hi, hown⟩
  · cases h

theorem q_len {t e : TypeId} (ho : o.op = .call { callee := .builtin .len, args := #[x], argTypes := #[t] }) (ht : P.underlying t = some (.slice e))
    (hh : Heap P S w β objs) {X : AV} (hX : RV P S w β (dom objs) (a.eval x) X) {φ : Prop} {v : AV}
    (h : semQ .len [X] objs = some (φ, v)) (hφ : φ) : ∃ r, (execOp a.eval o).run P w = .ok (.value r) w ∧ RV P S w β (dom objs) r v := by
  have hsl : ∀ (A : Option Addr) (n c : Nat), a.eval x = .slice A n c → (execOp a.eval o).run P w = .ok (.value (.int .i64 n)) w := by
    intro A n c hv
    simp [execOp, ho, resolve, invoke, builtin, Builtin.len_, run_underlying ht, hv, goInt]
  cases X with
  | pv p =>
    cases p with
    | nil =>
      simp only [semQ, Option.some.injEq, Prod.mk.injEq] at h
      obtain ⟨rfl, rfl⟩ := h
      exact ⟨_, hsl none 0 0 hX.pv_inv.nil_inv, .pv _ _ (.int _ _)⟩
    | ro rows =>
      simp only [semQ, Option.some.injEq, Prod.mk.injEq] at h
      obtain ⟨rfl, rfl⟩ := h
      obtain ⟨A, c, hv, _⟩ := hX.pv_inv.ro_inv
      exact ⟨_, hsl A rows.length c hv, .pv _ _ (.int _ _)⟩
    | _ => simp [semQ] at h
  | own t' =>
    simp only [semQ, Option.map_eq_some_iff] at h
    obtain ⟨⟨e', n⟩, hs, he⟩ := h
    simp only [Prod.mk.injEq] at he
    obtain ⟨rfl, rfl⟩ := he
    obtain ⟨inf, us, _, hown⟩ := idxO_owns hh hs
    obtain ⟨A, c, hv, _⟩ := own_slice hown
    exact ⟨_, hsl A n c (hX.own_inv.1.trans hv), .pv _ _ (.int _ _)⟩
  | sub t' e1 lo hi =>
    simp only [semQ, Option.map_eq_some_iff] at h
    obtain ⟨r, hs, he⟩ := h
    simp only [Prod.mk.injEq] at he
    obtain ⟨rfl, rfl⟩ := he
    obtain ⟨inf, A, A1, n, c, _, _, hb, h1, h2, h3, h4, h5, hv⟩ := hX.sub_inv
    refine ⟨_, hsl _ _ _ hv, ?_⟩
    rw [show ((hi : Int) - (lo : Int)) = ((hi - lo : Nat) : Int) from by omega]
    exact .pv _ _ (.int _ _)
  | _ => simp [semQ] at h

theorem q_mnx {mx : Bool} {t t' : TypeId} (ho : o.op = .call { callee := .builtin (if mx then .max else .min), args := #[x, y], argTypes := #[t, t'] }) {X Y : AV} (hX : RV P S w β (dom objs) (a.eval x) X) (hY : RV P S w β (dom objs) (a.eval y) Y) {φ : Prop} {v : AV}
    (h : semQ (.mnx mx) [X, Y] objs = some (φ, v)) : ∃ r, (execOp a.eval o).run P w = .ok (.value r) w ∧ RV P S w β (dom objs) r v := by
  cases X with
  | pv p =>
    cases p with
    | int k n =>
      cases Y with
      | pv q =>
        cases q with
        | int k' m =>
          simp only [semQ] at h
          split at h
          · rename_i hk
            subst hk
            simp only [Option.some.injEq, Prod.mk.injEq] at h
            obtain ⟨rfl, rfl⟩ := h
            cases mx with
            | false => exact ⟨_, by simp [execOp, ho, resolve, invoke, builtin, hX.int_inv, hY.int_inv, Lib.run_min_ints, Result.andThen], .pv _ _ (.int _ _)⟩
            | true => exact ⟨_, by simp [execOp, ho, resolve, invoke, builtin, hX.int_inv, hY.int_inv, Lib.run_max_ints, Result.andThen], .pv _ _ (.int _ _)⟩
          · cases h
        | _ => simp [semQ] at h
      | _ => simp [semQ] at h
    | _ => simp [semQ] at h
  | _ => simp [semQ] at h

theorem byteOf_inv {r : List PV} {c : UInt8} (h : byteOf r = some c) : r = [.int .u8 (c.toNat : Int)] := by
  unfold byteOf at h
  split at h
  · rename_i n
    split at h
    · rename_i hn
      simp only [Option.some.injEq] at h
      subst h
      have : (UInt8.ofNat n.toNat).toNat = n.toNat := by simp; omega
      rw [this]
      have : (n.toNat : Int) = n := by omega
      rw [this]
    · cases h
  · cases h
theorem bytesOf_get : ∀ {rows : List (List PV)} {l : List UInt8}, bytesOf rows = some l → rows.length = l.length ∧ ∀ (i : Nat) (c : UInt8), l[i]? = some c → rows[i]? = some [.int .u8 (c.toNat : Int)]
  | [], l, h => by simp only [bytesOf, Option.some.injEq] at h; subst h; exact ⟨rfl, fun i c h => by simp at h⟩
  | r :: rows, l, h => by
    simp only [bytesOf, Option.bind_eq_some_iff, Option.map_eq_some_iff] at h
    obtain ⟨c, hc, m, hm, rfl⟩ := h
    obtain ⟨h1, h2⟩ := bytesOf_get hm
    refine ⟨by simp [h1], fun i d hd => ?_⟩
    cases i with
    | zero => simp only [List.getElem?_cons_zero, Option.some.injEq] at hd ⊢; subst hd; exact byteOf_inv hc
    | succ i => simpa using h2 i d (by simpa using hd)

theorem q_btoS {src dst e : TypeId} (ho : o.op = .convert src dst x) (hs : P.underlying src = some (.slice e)) (he : P.underlying e = some (.int .u8)) (hd : P.underlying dst = some .string)
    (hh : Heap P S w β objs) {X : AV} (hX : RV P S w β (dom objs) (a.eval x) X) {φ : Prop} {v : AV}
    (h : semQ .btoS [X] objs = some (φ, v)) : ∃ r, (execOp a.eval o).run P w = .ok (.value r) w ∧ RV P S w β (dom objs) r v := by
  simp only [semQ, Option.bind_eq_some_iff, Option.map_eq_some_iff] at h
  obtain ⟨rows, hr, l, hl, he'⟩ := h
  simp only [Prod.mk.injEq] at he'
  obtain ⟨rfl, rfl⟩ := he'
  obtain ⟨hlen, hget⟩ := bytesOf_get hl
  have hrocase : ∀ (S' : Nat → Prop), RPV S' w (a.eval x) (.ro rows) → ∃ r, (execOp a.eval o).run P w = .ok (.value r) w ∧ RV P S w β (dom objs) r (.pv (.str l)) := by
    intro S' hX
    have hnil : ∀ (A : Option Addr) (c : Nat), l = [] → a.eval x = .slice A 0 c → ∃ r, (execOp a.eval o).run P w = .ok (.value r) w ∧ RV P S w β (dom objs) r (.pv (.str l)) := by
      rintro A c rfl hv
      refine ⟨.string ⟨#[]⟩, ?_, .pv _ _ (.str [])⟩
      cases A with
      | none =>
        simp only [execOp, ho, hv]
        have := Lib.run_convert_nil_bytes (P := P) w src dst e c hs he hd
        simp [this]
      | some ad =>
        have := run_convert_bytes_back (P := P) w src dst e ad c [] hs he hd (fun j hj => by simp at hj)
        simp only [List.length_nil] at this
        simp [execOp, ho, hv, this]
    obtain ⟨A, c, hv, hc, hne⟩ := hX.ro_inv
    by_cases hrn : rows = []
    · subst hrn
      have : l = [] := List.eq_nil_of_length_eq_zero (by simpa using hlen.symm)
      exact hnil A c this (by simpa using hv)
    · obtain ⟨ad, sz, us, rfl, g1, g2, g3, g4, g5⟩ := hne hrn
      have hsz : sz = 1 := by
        have h0 : 0 < l.length := by rw [← hlen]; exact List.length_pos_iff.2 hrn
        have := hget 0 l[0] (by simp [h0])
        rw [← g2 _ (List.mem_of_getElem? this)]
        rfl
      subst hsz
      refine ⟨.string ⟨l.toArray⟩, ?_, .pv _ _ (.str l)⟩
      have := run_convert_bytes_back (P := P) w src dst e ad c l hs he hd (fun j hj => ?_)
      · rw [hlen] at hv
        simp [execOp, ho, hv, this]
      · have hg := hget j l[j] (by simp [hj])
        have h3 := g3 j 0 (by rw [hlen]; exact hj) (by omega)
        rw [Nat.mul_one, Nat.add_zero] at h3
        rw [h3]
        have h5 := (g5 j 0 _ (.int .u8 (l[j].toNat : Int)) hg rfl).int_inv
        rw [h5]
  have hnil : ∀ (A : Option Addr) (c : Nat), l = [] → a.eval x = .slice A 0 c → ∃ r, (execOp a.eval o).run P w = .ok (.value r) w ∧ RV P S w β (dom objs) r (.pv (.str l)) := by
    rintro A c rfl hv
    refine ⟨.string ⟨#[]⟩, ?_, .pv _ _ (.str [])⟩
    cases A with
    | none =>
      simp only [execOp, ho, hv]
      have := Lib.run_convert_nil_bytes (P := P) w src dst e c hs he hd
      simp [this]
    | some ad =>
      have := run_convert_bytes_back (P := P) w src dst e ad c [] hs he hd (fun j hj => by simp at hj)
      simp only [List.length_nil] at this
      simp [execOp, ho, hv, this]
  cases X with
  | pv p =>
    cases p with
    | nil =>
      simp only [rowsB, Option.some.injEq] at hr
      subst hr
      have : l = [] := List.eq_nil_of_length_eq_zero (by simpa using hlen.symm)
      exact hnil none 0 this hX.pv_inv.nil_inv
    | ro rows' =>
      simp only [rowsB, Option.some.injEq] at hr
      subst hr
      obtain ⟨A, c, hv, hc, hne⟩ := hX.pv_inv.ro_inv
      by_cases hrn : rows' = []
      · subst hrn
        have : l = [] := List.eq_nil_of_length_eq_zero (by simpa using hlen.symm)
        exact hnil A c this (by simpa using hv)
      · obtain ⟨ad, sz, us, rfl, g1, g2, g3, g4, g5⟩ := hne hrn
        have hsz : sz = 1 := by
          have h0 : 0 < l.length := by rw [← hlen]; exact List.length_pos_iff.2 hrn
          have := hget 0 l[0] (by simp [h0])
          rw [← g2 _ (List.mem_of_getElem? this)]
          rfl
        subst hsz
        refine ⟨.string ⟨l.toArray⟩, ?_, .pv _ _ (.str l)⟩
        have := run_convert_bytes_back (P := P) w src dst e ad c l hs he hd (fun j hj => ?_)
        · rw [hlen] at hv
          simp [execOp, ho, hv, this]
        · have hg := hget j l[j] (by simp [hj])
          have h3 := g3 j 0 (by rw [hlen]; exact hj) (by omega)
          rw [Nat.mul_one, Nat.add_zero] at h3
          rw [h3]
          have h5 := (g5 j 0 _ (.int .u8 (l[j].toNat : Int)) hg rfl).int_inv
          rw [h5]
    | _ => simp [rowsB] at hr
  | own t' =>
    simp only [rowsB, Option.map_eq_some_iff] at hr
    obtain ⟨⟨e', rows'⟩, hs', rfl⟩ := hr
    obtain ⟨inf, us, hi, hown, hrl, hcs⟩ := hh.arr (arrO_inv hs')
    have hv0 := hX.own_inv.1
    rcases hown.2 with ⟨hv, h0⟩ | ⟨g, cap, cur, hv, hrest⟩
    · have : l = [] := List.eq_nil_of_length_eq_zero (by rw [← hlen]; exact h0)
      exact hnil none 0 this (hv0.trans hv)
    · by_cases hl0 : l = []
      · rw [hl0] at hlen
        refine hnil (some ⟨g, 0, none⟩) cap hl0 (hv0.trans ?_)
        rw [hv]
        simp only [List.length_nil] at hlen
        rw [hlen]
      · have hinf : inf.size = 1 := by
          have h0 : 0 < l.length := List.length_pos_iff.2 hl0
          have := hget 0 l[0] (by simp [h0])
          rw [← hrl _ (List.mem_of_getElem? this)]
          rfl
        refine ⟨.string ⟨l.toArray⟩, ?_, .pv _ _ (.str l)⟩
        have := run_convert_bytes_back (P := P) w src dst e ⟨g, 0, none⟩ cap l hs he hd (fun j hj => ?_)
        · have hv1 := hv0.trans hv
          dsimp only at hlen
          rw [hlen] at hv1
          simp [execOp, ho, hv1, this]
        · have hg := hget j l[j] (by simp [hj])
          obtain ⟨u, hu, _, hru⟩ := hcs j 0 _ (.int .u8 (l[j].toNat : Int)) hg rfl
          rw [hru.int_inv, hinf, Nat.mul_one, Nat.add_zero] at hu
          obtain ⟨_, hhp, _, _, _, htk⟩ := hrest
          exact Lib.cells_of_row hhp _ j _ (by rw [htk]; exact hu)
  | sub t' e1 lo hi =>
    simp only [rowsB, Option.bind_eq_some_iff] at hr
    obtain ⟨r, hs', hr⟩ := hr
    split at hr
    · rename_i he1
      simp only [Option.some.injEq] at hr
      subst hr he1
      exact hrocase (fun _ => True) (sub_ro (hh.arr (arrO_inv hs')) (fun _ _ => trivial) (fun _ _ => trivial) hX)
    · cases hr
  | _ => simp [rowsB] at hr

theorem q_sidx {t : TypeId} (ho : o.op = .index t x y) (ht : P.underlying t = some .string) {X Y : AV} (hX : RV P S w β (dom objs) (a.eval x) X) (hY : RV P S w β (dom objs) (a.eval y) Y) {φ : Prop} {v : AV}
    (h : semQ .sidx [X, Y] objs = some (φ, v)) (hφ : φ) : ∃ r, (execOp a.eval o).run P w = .ok (.value r) w ∧ RV P S w β (dom objs) r v := by
  cases X with
  | pv p =>
    cases Y with
    | pv q =>
      cases p with
      | str l =>
        cases q with
        | int k i =>
          simp only [semQ, Option.some.injEq, Prod.mk.injEq] at h
          obtain ⟨rfl, rfl⟩ := h
          obtain ⟨h0, h1⟩ := hφ
          refine ⟨_, ?_, .pv _ _ (.int _ _)⟩
          have hlt : i.toNat < l.length := by omega
          have hg : (ByteArray.mk l.toArray)[i.toNat]? = some (l.getD i.toNat 0) := by
            rw [getElem?_pos (ByteArray.mk l.toArray) i.toNat (by rw [bsz]; exact hlt)]
            simp [List.getD_eq_getElem?_getD, hlt]
            rfl
          simp [execOp, ho, Instr.index, asIntOf, run_underlying ht, hX.str_inv, hY.int_inv, h0, hg]
        | _ => simp [semQ] at h
      | _ => cases q <;> simp [semQ] at h
    | _ => cases p <;> simp [semQ] at h
  | _ => simp [semQ] at h

end


section
variable {P : Program} {S0 L : Nat → Prop} {B0 : Nat → Value} {w0 w : World} {N : Nat} {st : St} {a : Act} {β : Nat → Value}

theorem dom_shM {t s : Nat} {objs : Nat → Option AO} : dom (shM t objs) s ↔ s ≠ t ∧ dom objs s := by
  unfold dom shM
  by_cases h : s = t
  · simp [h]
  · simp only [h, if_false, ne_eq, not_false_eq_true, true_and]
    constructor
    · rintro ⟨o, ho⟩
      obtain ⟨o', ho', _⟩ := Option.map_eq_some_iff.1 ho
      exact ⟨o', ho'⟩
    · rintro ⟨o, ho⟩
      exact ⟨killO t o, by rw [ho]; rfl⟩

theorem shCs_length (t : Nat) (e : TypeId) (rows : List (List PV)) : ∀ cs : List AV, (shCs t e rows cs).length = cs.length
  | [] => rfl
  | c :: cs => by simp only [shCs, List.length_cons, shCs_length t e rows cs]
theorem shCs_get (t : Nat) (e : TypeId) (rows : List (List PV)) : ∀ (cs : List AV) (i : Nat), (shCs t e rows cs)[i]? = cs[i]?.map (shC t e rows)
  | [], _ => rfl
  | c :: cs, 0 => rfl
  | c :: cs, i + 1 => by simp only [shCs, List.getElem?_cons_succ, shCs_get t e rows cs i]

/-- A slice of the call's own is written no more. -/
theorem Rel.shareG (hL : ∀ b, L b → S0 b) (h : Rel P S0 L B0 w0 N st a w β) {t : Nat} {e : TypeId} {rows : List (List PV)} (ht : st.objs t = some (.arr e rows))
    {vars' : Nat → AV} {objs' : Nat → Option AO} (hvars : ∀ s, vars' s = sh t e rows (st.vars s) ∨ vars' s = sh2 t e rows (st.vars s)) (hdom : ∀ s, dom objs' s ↔ s ≠ t ∧ dom st.objs s)
    (hob : ∀ s o, objs' s = some o → ∃ o', st.objs s = some o' ∧ (o = killO t o' ∨ o = shO t e rows o')) :
    Rel P S0 L B0 w0 N ⟨vars', objs'⟩ a w β := by
  have hdt : dom st.objs t := ⟨_, ht⟩
  obtain ⟨inf, us, hi, hown, hrl, hcs⟩ := h.heap.holds t _ ht
  have hbt := (own_blk hown).1
  have hp := (own_blk hown).2
  have hlive : ∀ b, live β (objs') b → live β st.objs b := by
    rintro b ⟨s, o, hs, hb⟩
    obtain ⟨o', ho'⟩ := ((hdom _).1 ⟨o, hs⟩).2
    exact ⟨s, o', ho', hb⟩
  have hm : ∀ b, okS S0 w0.heap.size β st.objs w b → okS S0 w0.heap.size β (objs') w b ∧ w.heap[b]? = w.heap[b]? := fun b ⟨h1, h2, h3⟩ => ⟨⟨h1, h2, fun hl => h3 (hlive b hl)⟩, rfl⟩
  have hbk : ∀ b, blk (β t) = some b → okS S0 w0.heap.size β (objs') w b := by
    intro b hb
    refine ⟨(h.old t b hdt hb).elim .inr fun hx => .inl (hL b hx), h.lt hdt hb, ?_⟩
    rintro ⟨s, o, hs, hbs⟩
    obtain ⟨h1, h2⟩ := (hdom _).1 ⟨o, hs⟩
    exact h1 (h.heap.inj s t b h2 hdt hbs hb)
  have hD : ∀ s, dom st.objs s → s ≠ t → dom (objs') s ∧ β s = β s := fun s hs hne => ⟨(hdom _).2 ⟨hne, hs⟩, rfl⟩
  have hro : RPV (okS S0 w0.heap.size β (objs') w) w (β t) (.ro rows) := by
    by_cases hz : rows = []
    · subst hz
      rcases hown.2 with ⟨hv, _⟩ | ⟨g, cap, cur, hv, _⟩
      · rw [hv]; exact .ro0 none 0
      · rw [hv]; exact .ro0 _ _
    · rcases hown.2 with ⟨_, hz0⟩ | ⟨g, cap, cur, hv, _, hheap, hnc, _⟩
      · exact absurd (List.eq_nil_of_length_eq_zero hz0) hz
      · have hob : (β t).ownBlock = some g := by rw [hv]; rfl
        have hcell := hown.cells hob
        have hg := hbk g (by rw [hbt]; exact hob)
        rw [hv]
        have hlook : ∀ i j, i < rows.length → j < inf.size → ∃ u, us[i * inf.size + j]? = some u := fun i j hi hj => by
          have hr : rows[i]? = some rows[i] := List.getElem?_eq_getElem hi
          have hj' : j < rows[i].length := by rw [hrl _ (List.mem_of_getElem? hr)]; exact hj
          obtain ⟨u, hu, _⟩ := hcs i j _ _ hr (List.getElem?_eq_getElem hj')
          exact ⟨u, hu⟩
        refine .ro ⟨g, 0, none⟩ cap rows inf.size (fun i j => us.getD (i * inf.size + j) undef) hg hnc hrl (fun i j hi hj => ?_) (fun i j r p h1 h2 => ?_) (fun i j r p h1 h2 => ?_)
        · obtain ⟨u, hu⟩ := hlook i j hi hj
          rw [hcell _ u hu]
          simp [List.getD_eq_getElem?_getD, hu]
        · obtain ⟨u, hu, h3, _⟩ := hcs i j r p h1 h2
          simp only [List.getD_eq_getElem?_getD, hu, Option.getD_some]
          exact h3
        · obtain ⟨u, hu, _, h3⟩ := hcs i j r p h1 h2
          simp only [List.getD_eq_getElem?_getD, hu, Option.getD_some]
          exact h3.mono hm
  have hcell : ∀ (v : Value) (x : AV), RV P (okS S0 w0.heap.size β st.objs w) w β (dom st.objs) v x → RV P (okS S0 w0.heap.size β objs' w) w β (dom objs') v (shC t e rows x) ∧ ((∀ cs, x ≠ .agg cs) → RV P (okS S0 w0.heap.size β objs' w) w β (dom objs') v (sh t e rows x)) := by
    intro v x hv
    cases x with
    | own u =>
      have : RV P (okS S0 w0.heap.size β objs' w) w β (dom objs') v (sh t e rows (.own u)) := by
        simp only [sh]
        split
        · rename_i e'
          subst e'
          rw [hv.own_inv.1]
          exact .pv _ _ hro
        · rename_i hne
          rw [hv.own_inv.1]
          exact .own u (hD u hv.own_inv.2 hne).1
      exact ⟨this, fun _ => this⟩
    | sub u e1 lo hi =>
      have : RV P (okS S0 w0.heap.size β objs' w) w β (dom objs') v (sh t e rows (.sub u e1 lo hi)) := by
        simp only [sh]
        obtain ⟨inf1, A, A1, n, c, hdu, hi1, hb, h1, h2, h3, h4, h5, hv1⟩ := hv.sub_inv
        split
        · rename_i e'
          subst e'
          split
          · rename_i e2
            subst e2
            rw [hv1]
            rw [hi] at hi1
            injection hi1 with hi1
            subst hi1
            obtain ⟨A', c', hv', hc'⟩ := own_slice hown
            rw [hb] at hv'
            have hx : A = A' ∧ n = rows.length ∧ c = c' := by simpa using hv'
            obtain ⟨rfl, rfl, rfl⟩ := hx
            rw [hb] at hro
            exact .pv _ _ (hro.cut h1 h2 h3 hrl h5)
          · exact .junk _
        · rename_i hne
          exact .sub _ u e1 lo hi inf1 A A1 n c (hD u hdu hne).1 hi1 hb h1 h2 h3 h4 h5 hv1
      exact ⟨this, fun _ => this⟩
    | _ => exact ⟨hv.killC hp hm hD, fun _ => hv.kill hp hm hD⟩
  have hcs2 : ∀ (v : Value) (x : AV), RV P (okS S0 w0.heap.size β st.objs w) w β (dom st.objs) v x → RV P (okS S0 w0.heap.size β objs' w) w β (dom objs') v (sh2 t e rows x) := by
    intro v x hv
    cases x with
    | agg cs =>
      cases hv with
      | agg _ us hl h =>
        refine .agg _ us (by rw [shCs_length]; exact hl) fun i c u hc hu => ?_
        rw [shCs_get] at hc
        obtain ⟨c', hc', rfl⟩ := Option.map_eq_some_iff.1 hc
        exact (hcell u c' (h i c' u hc' hu)).1
    | _ => exact (hcell v _ hv).2 (fun _ e => by cases e)
  refine ⟨h.size, h.defers, fun s => ?_, ⟨fun s o hs => ?_, fun s s' b hs hs' hbs hbs' => ?_⟩, fun s b hs hbs => ?_, h.lim, fun s h9 hs => h.pin s h9 ((hdom _).1 hs).2, h.fram⟩
  · have hv := h.vars s
    show RV P _ w β _ _ (vars' s)
    rcases hvars s with hx | hx
    · rw [hx]
      by_cases hag : ∃ cs, st.vars s = .agg cs
      · obtain ⟨cs, hag⟩ := hag
        rw [hag] at hv ⊢
        exact hv.kill hp hm hD
      · exact (hcell _ _ hv).2 fun cs e => hag ⟨cs, e⟩
    · rw [hx]
      exact hcs2 _ _ hv
  · obtain ⟨o', ho', hx⟩ := hob s o hs
    rcases hx with rfl | rfl
    · exact (h.heap.holds s o' ho').kill hp hm hD rfl (fun b hb => rfl)
    · cases o' with
      | box cs =>
        obtain ⟨b, us, ty, hpt, hh, hl, hc⟩ := h.heap.holds s _ ho'
        refine ⟨b, us, ty, hpt, hh, by rw [shCs_length]; exact hl, fun i c u h1 h2 => ?_⟩
        rw [shCs_get] at h1
        obtain ⟨c', hc', rfl⟩ := Option.map_eq_some_iff.1 h1
        exact ⟨(hc i c' u hc' h2).1, (hcell u c' (hc i c' u hc' h2).2).1⟩
      | _ => exact (h.heap.holds s _ ho').kill hp hm hD rfl (fun b hb => rfl)
  · exact h.heap.inj s s' b ((hdom _).1 hs).2 ((hdom _).1 hs').2 hbs hbs'
  · exact h.old s b ((hdom _).1 hs).2 hbs
theorem Rel.share (hL : ∀ b, L b → S0 b) (h : Rel P S0 L B0 w0 N st a w β) {t : Nat} {e : TypeId} {rows : List (List PV)} (ht : st.objs t = some (.arr e rows)) :
    Rel P S0 L B0 w0 N ⟨shV t e rows st.vars, shM t st.objs⟩ a w β := by
  refine h.shareG hL ht (fun s => .inl rfl) (fun s => dom_shM) fun s o hs => ?_
  by_cases e' : s = t
  · simp [shM, e'] at hs
  · have hs' : (st.objs s).map (killO t) = some o := by simpa [shM, e'] using hs
    obtain ⟨o', ho', rfl⟩ := Option.map_eq_some_iff.1 hs'
    exact ⟨o', ho', .inl rfl⟩
theorem Rel.shareB (hL : ∀ b, L b → S0 b) (h : Rel P S0 L B0 w0 N st a w β) {t : Nat} {e : TypeId} {rows : List (List PV)} (ht : st.objs t = some (.arr e rows)) :
    Rel P S0 L B0 w0 N ⟨shW t e rows st.vars, shMb t e rows st.objs⟩ a w β := by
  refine h.shareG hL ht (fun s => .inr rfl) (fun s => ?_) fun s o hs => ?_
  · unfold dom shMb
    by_cases h : s = t
    · simp [h]
    · simp only [h, if_false, ne_eq, not_false_eq_true, true_and]
      constructor
      · rintro ⟨o, ho⟩
        obtain ⟨o', ho', _⟩ := Option.map_eq_some_iff.1 ho
        exact ⟨o', ho'⟩
      · rintro ⟨o, ho⟩
        exact ⟨shO t e rows o, by rw [ho]; rfl⟩
  · by_cases e' : s = t
    · simp [shMb, e'] at hs
    · have hs' : (st.objs s).map (shO t e rows) = some o := by simpa [shMb, e'] using hs
      obtain ⟨o', ho', rfl⟩ := Option.map_eq_some_iff.1 hs'
      exact ⟨o', ho', .inr rfl⟩

theorem Rel.drop (hL : ∀ b, L b → S0 b) (h : Rel P S0 L B0 w0 N st a w β) (t : Nat) : Rel P S0 L B0 w0 N (dropT t st) a w β := by
  unfold dropT
  split
  · rename_i r hr
    obtain ⟨e, rows⟩ := r
    have ht : st.objs t = some (.arr e rows) := by
      unfold arrO at hr
      split at hr
      · rename_i h1; cases hr; exact h1
      · cases hr
    refine (h.share hL ht).keep fun s => ?_
    show killV t st.vars s = shV t e rows st.vars s ∨ _
    unfold killV shV
    cases hv : st.vars s with
    | own u =>
      simp only [sh, kill, killC]
      split
      · exact .inr rfl
      · exact .inl rfl
    | sub u e1 lo hi =>
      simp only [sh, kill, killC]
      split
      · exact .inr rfl
      · exact .inl rfl
    | _ => exact .inl rfl
  · exact h
theorem Rel.share1 (hL : ∀ b, L b → S0 b) (h : Rel P S0 L B0 w0 N st a w β) (v : AV) : Rel P S0 L B0 w0 N (share1 st v) a w β := by
  cases v with
  | own t =>
    simp only [Ab.share1]
    split
    · rename_i r hr
      obtain ⟨e, rows⟩ := r
      have : st.objs t = some (.arr e rows) := by
        unfold arrO at hr
        split at hr
        · rename_i h1; cases hr; exact h1
        · cases hr
      exact h.shareB hL this
    · exact h
  | _ => exact h
theorem Rel.shareAll (hL : ∀ b, L b → S0 b) : ∀ (l : List AV) {st : St}, Rel P S0 L B0 w0 N st a w β → Rel P S0 L B0 w0 N (shareAll st l) a w β
  | [], _, h => h
  | v :: l, _, h => Rel.shareAll hL l (h.share1 hL v)
theorem nilCs_length : ∀ cs : List AV, (nilCs cs).length = cs.length
  | [] => rfl
  | c :: cs => by simp only [nilCs, List.length_cons, nilCs_length cs]
theorem nilCs_get : ∀ (cs : List AV) (i : Nat), (nilCs cs)[i]? = cs[i]?.map nilC
  | [], _ => rfl
  | c :: cs, 0 => rfl
  | c :: cs, i + 1 => by simp only [nilCs, List.getElem?_cons_succ, nilCs_get cs i]
theorem RV.nilC {S : Nat → Prop} {D : Nat → Prop} {v : Value} {x : AV} (h : RV P S w β D v x) : RV P S w β D v (nilC x) := by
  cases h with
  | pv _ p h =>
    cases h with
    | nil => exact .pv _ _ (.ro0 none 0)
    | int k n => exact .pv _ _ (.int k n)
    | bool b => exact .pv _ _ (.bool b)
    | str l => exact .pv _ _ (.str l)
    | val v hv => exact .pv _ _ (.val v hv)
    | mp b us c ks h1 h2 h3 h4 => exact .pv _ _ (.mp b us c ks h1 h2 h3 h4)
    | mv b us c es h1 h2 h3 h4 h5 h6 => exact .pv _ _ (.mv b us c es h1 h2 h3 h4 h5 h6)
    | pt ad cs us h1 h2 h3 h4 => exact .pv _ _ (.pt ad cs us h1 h2 h3 h4)
    | ro0 A c => exact .pv _ _ (.ro0 A c)
    | ro ad c rows sz us h1 h2 h3 h4 h5 h6 => exact .pv _ _ (.ro ad c rows sz us h1 h2 h3 h4 h5 h6)
  | own t h => exact .own t h
  | ptr t o b h hb => exact .ptr t o b h hb
  | eptr t e i o b n c inf h hi hb => exact .eptr t e i o b n c inf h hi hb
  | sub v t e lo hi inf A A1 n c h hi' hb h1 h2 h3 h4 h5 hv => exact .sub v t e lo hi inf A A1 n c h hi' hb h1 h2 h3 h4 h5 hv
  | rp ad cs us h1 h2 h3 h4 => exact .rp ad cs us h1 h2 h3 h4
  | agg cs us hl h => exact .agg cs us hl h
  | tup cs us hl h => exact .tup cs us hl h
  | clo f cs us hl h => exact .clo f cs us hl h
  | cnd g v av h hu => exact .cnd g v av h hu
  | junk v => exact .junk v
theorem RV.nilV {S : Nat → Prop} {D : Nat → Prop} {v : Value} {x : AV} (h : RV P S w β D v x) : RV P S w β D v (nilV x) := by
  by_cases hag : ∃ cs, x = .agg cs
  · obtain ⟨cs, rfl⟩ := hag
    cases h with
    | agg _ us hl h =>
      refine .agg _ us (by rw [nilCs_length]; exact hl) fun i c u hc hu => ?_
      rw [nilCs_get] at hc
      obtain ⟨c', hc', rfl⟩ := Option.map_eq_some_iff.1 hc
      exact (h i c' u hc' hu).nilC
  · have : Ab.nilV x = Ab.nilC x := by cases x <;> first | rfl | exact absurd ⟨_, rfl⟩ hag
    rw [this]
    exact h.nilC
theorem Rel.nilRo (h : Rel P S0 L B0 w0 N st a w β) : Rel P S0 L B0 w0 N (nilRo st) a w β := by
  have hdom : ∀ s, dom (fun s => (st.objs s).map nilO) s ↔ dom st.objs s := by
    intro s
    unfold dom
    constructor
    · rintro ⟨o, ho⟩
      obtain ⟨o', ho', _⟩ := Option.map_eq_some_iff.1 ho
      exact ⟨o', ho'⟩
    · rintro ⟨o, ho⟩
      exact ⟨nilO o, by show (st.objs s).map nilO = _; rw [ho]; rfl⟩
  have hlive : ∀ b, live β (fun s => (st.objs s).map nilO) b → live β st.objs b := by
    rintro b ⟨s, o, hs, hb⟩
    obtain ⟨o', ho'⟩ := (hdom _).1 ⟨o, hs⟩
    exact ⟨s, o', ho', hb⟩
  have hm : ∀ b, okS S0 w0.heap.size β st.objs w b → okS S0 w0.heap.size β (fun s => (st.objs s).map nilO) w b ∧ w.heap[b]? = w.heap[b]? := fun b ⟨h1, h2, h3⟩ => ⟨⟨h1, h2, fun hl => h3 (hlive b hl)⟩, rfl⟩
  have hD : ∀ s, dom st.objs s → dom (fun s => (st.objs s).map nilO) s ∧ β s = β s := fun s hs => ⟨(hdom _).2 hs, rfl⟩
  refine ⟨h.size, h.defers, fun s => ((h.vars s).mono hm hD).nilV, ⟨fun s o hs => ?_, fun s s' b hs hs' hbs hbs' => ?_⟩, fun s b hs hbs => ?_, h.lim, fun s h9 hs => h.pin s h9 ((hdom _).1 hs), h.fram⟩
  · obtain ⟨o', ho', rfl⟩ := Option.map_eq_some_iff.1 hs
    have h1 := (h.heap.holds s o' ho').mono hm hD rfl (fun b hb => rfl)
    cases o' with
    | box cs =>
      obtain ⟨b, us, ty, hpt, hh, hl, hc⟩ := h1
      refine ⟨b, us, ty, hpt, hh, by rw [nilCs_length]; exact hl, fun i c u h1 h2 => ?_⟩
      rw [nilCs_get] at h1
      obtain ⟨c', hc', rfl⟩ := Option.map_eq_some_iff.1 h1
      exact ⟨(hc i c' u hc' h2).1, (hc i c' u hc' h2).2.nilC⟩
    | _ => exact h1
  · exact h.heap.inj s s' b ((hdom _).1 hs) ((hdom _).1 hs') hbs hbs'
  · exact h.old s b ((hdom _).1 hs) hbs
theorem Rel.shareT (hL : ∀ b, L b → S0 b) : ∀ (l : List Nat) {st : St}, Rel P S0 L B0 w0 N st a w β → Rel P S0 L B0 w0 N (shareT l st) a w β
  | [], _, h => h
  | t :: l, st, h => by
    refine Rel.shareT hL l ?_
    unfold sharT1
    split
    · exact h.nilRo
    · exact h.share1 hL _
end

end Go.Proofs.Ythblkhafehanfaa.Ab
