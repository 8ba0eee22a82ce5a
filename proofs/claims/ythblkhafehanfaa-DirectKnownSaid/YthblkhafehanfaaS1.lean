/- slices.SortFunc at the entries of a directory, maps.Clone: contracts, from the library's. -/
import Derived.Test.YthblkhafehanfaaR3a
import Derived.Test.YthblkhafehanfaaShelf
import Derived.WalkKit
import Derived.Shelf.SlSortCmp.NoneTotal
namespace Go.Proofs.Ythblkhafehanfaa.Ab
open Go Go.RowKit Go.Sort Go.Lib R
set_option linter.unusedVariables false
set_option linter.unusedSimpArgs false
set_option maxHeartbeats 4000000
set_option maxRecDepth 100000

instance : Inhabited Nm := ⟨⟨[], 0⟩⟩
def encN (e : Nm) : List Value := [.string ⟨e.n.toArray⟩, .int .i64 e.i]
theorem flat_enc (l : List Nm) : (flatK encN 2 l.toArray).toList = l.flatMap encN := by
  have hlen : ∀ l : List Nm, (l.flatMap encN).length = l.length * 2 := by
    intro l
    induction l with
    | nil => rfl
    | cons x l ih => rw [List.flatMap_cons, List.length_append, ih, List.length_cons]; show 2 + _ = _; omega
  have hget : ∀ (l : List Nm) (t : Nat), t < l.length * 2 → (l.flatMap encN)[t]! = (encN l[t / 2]!)[t % 2]! := by
    intro l
    induction l with
    | nil => intro t h; simp at h
    | cons x l ih =>
      intro t h
      rw [List.flatMap_cons]
      rcases Nat.lt_or_ge t 2 with h2 | h2
      · have h0 : t / 2 = 0 := by omega
        have h1 : t % 2 = t := by omega
        rw [h0, h1]
        rcases (by omega : t = 0 ∨ t = 1) with rfl | rfl <;> rfl
      · obtain ⟨s, rfl⟩ : ∃ s, t = s + 2 := ⟨t - 2, by omega⟩
        have h0 : (s + 2) / 2 = s / 2 + 1 := by omega
        have h1 : (s + 2) % 2 = s % 2 := by omega
        rw [h0, h1]
        have := ih s (by simp at h; omega)
        show (x.n |> fun _ => (encN x ++ l.flatMap encN))[s + 2]! = _
        show (encN x ++ l.flatMap encN)[s + 2]! = (encN (x :: l)[s / 2 + 1]!)[s % 2]!
        rw [show (x :: l)[s / 2 + 1]! = l[s / 2]! by simp]
        rw [← this]
        simp [encN]
  apply List.ext_getElem
  · rw [hlen, Array.length_toList, size_flatK]; simp
  · intro t h1 h2
    have ht : t < l.length * 2 := by rwa [hlen] at h2
    have e1 := get_flatK encN 2 l.toArray t (by simpa using ht)
    have e2 := hget l t ht
    rw [getElem!_pos (l.flatMap encN) t h2] at e2
    rw [getElem!_pos _ t (by simpa using ht)] at e1
    rw [e2, Array.getElem_toList, e1]
    simp
theorem holds_row {w : World} {g : Nat} {cur : Array Value} {e : TypeId} (hg : w.heap[g]? = some (.cells cur e (0, 0))) {l : List Nm} (htk : cur.toList.take (l.length * 2) = l.flatMap encN) : HoldsK encN 2 w g 0 l.toArray := by
  intro j hj
  have hj2 : j < l.length * 2 := by simpa using hj
  rw [Nat.zero_add]
  refine ⟨?_, ?_⟩
  · show (match w.heap[g]? with | some (.cells c _ _) => if (none : Option _).isSome then none else c[j]? | _ => none) = _
    rw [hg]
    show cur[j]? = _
    have h1 : (cur.toList.take (l.length * 2))[j]? = cur[j]? := by rw [List.getElem?_take_of_lt hj2, Array.getElem?_toList]
    rw [← h1, htk, ← flat_enc, Array.getElem?_toList, Array.getElem?_eq_getElem hj, getElem!_pos _ j hj]
    rfl
  · show (match w.heap[g]? with | some (.cells _ _ (lo, hi)) => (decide (lo ≤ j) && decide (j < hi)) | _ => false) = false
    rw [hg]
    simp
theorem after_row {w : World} {g : Nat} {cur : Array Value} {e : TypeId} (hg : w.heap[g]? = some (.cells cur e (0, 0))) {l : List Nm} (hl : l.length * 2 ≤ cur.size) (n : Nat) (os : Array Obj) :
    ∃ cur' : Array Value, (sortWorldK encN 2 w g 0 n l.toArray os).heap[g]? = some (.cells cur' e (0, 0)) ∧ cur'.size = cur.size ∧ cur'.toList.take (l.length * 2) = l.flatMap encN := by
  have hlt : g < w.heap.size := (Array.getElem?_eq_some_iff.1 hg).1
  refine ⟨putCells id 0 (flatK encN 2 l.toArray) cur, ?_, by simp [putCells], ?_⟩
  · show (w.heap.modify g (onCells (putCells id 0 (flatK encN 2 l.toArray))) ++ os)[g]? = _
    rw [Array.getElem?_append_left (by simpa using hlt), Array.getElem?_modify, if_pos rfl, hg]
    rfl
  · rw [← flat_enc]
    apply List.ext_getElem?
    intro t
    rcases Nat.lt_or_ge t (l.length * 2) with ht | ht
    · have h2 : t < (flatK encN 2 l.toArray).size := by simpa using ht
      rw [List.getElem?_take_of_lt ht, Array.getElem?_toList, Array.getElem?_toList, putCells, Array.getElem?_mapIdx, Array.getElem?_eq_getElem (by omega : t < cur.size), Array.getElem?_eq_getElem h2]
      simp only [Option.map_some, Nat.zero_le, true_and, Nat.zero_add, if_pos h2, Nat.sub_zero, id]
      rw [getElem!_pos _ t h2]
    · rw [List.getElem?_eq_none (by rw [List.length_take]; omega), List.getElem?_eq_none (by simpa using ht)]
theorem after_other {w : World} {g : Nat} {l : List Nm} (n : Nat) (os : Array Obj) {k : Nat} (hk : k < w.heap.size) (hkg : k ≠ g) : (sortWorldK encN 2 w g 0 n l.toArray os).heap[k]? = w.heap[k]? := by
  show (w.heap.modify g (onCells (putCells id 0 (flatK encN 2 l.toArray))) ++ os)[k]? = _
  rw [Array.getElem?_append_left (by simpa using hk), Array.getElem?_modify, if_neg (fun h => hkg h.symm)]
theorem after_grown (w : World) (g : Nat) (l : List Nm) (n : Nat) (os : Array Obj) : w.grownBy (sortWorldK encN 2 w g 0 n l.toArray os) (some g) := by
  refine ⟨rfl, rfl, rfl, ?_, fun k hk hkg => after_other n os hk (fun e => hkg (by rw [e]))⟩
  show w.heap.size ≤ (w.heap.modify g _ ++ os).size
  simp

/-! ### The closure of List -/
def cmpB (x y : List UInt8) : Int := if Op.bytesLess x y = true then -1 else if (!x == y) = true then 1 else 0
def cfN (a b : Nm) : Int := cmpB a.n b.n

theorem nan_str (x : List UInt8) (W : World) : Calls Try.prog 115 #[.string ⟨x.toArray⟩] W fun e w' => e = .returned (.bool false) ∧ w' = W := by
  go_enter Try.func115, Try.ntmps115
  go_wp2
  go_ret
  exact ⟨rfl, rfl⟩

theorem cmp_str (x y : List UInt8) (W : World) : Calls Try.prog 67 #[.string ⟨x.toArray⟩, .string ⟨y.toArray⟩] W fun e w' => e = .returned (.int .i64 (cmpB x y)) ∧ w' = W := by
  have h1 := fun (x : List UInt8) W => nan_str x W
  go_enter Try.func67, Try.ntmps67
  go_wp2_with (go_at_call 115; refine (h1 _ _).mono ?_; rintro e w' ⟨rfl, rfl⟩)
  all_goals
    go_ret
    refine ⟨?_, rfl⟩
    simp [cmpB, *]

theorem clo_cmp (x y : Nm) (W : World) : Calls Try.prog 66 #[.agg (encN x).toArray, .agg (encN y).toArray] W fun e w' => e = .returned (.int .i64 (cfN x y)) ∧ ∃ q os', w' = grow (W.drewN q) os' := by
  have hcon := fun W' => cmp_str x.n y.n W'
  unfold cfN encN
  generalize cmpB x.n y.n = r at hcon ⊢
  go_enter Try.func66, Try.ntmps66
  go_wp2_with (go_at_call 67; refine (hcon _).mono ?_; rintro e w' ⟨rfl, rfl⟩)
  go_ret
  exact ⟨rfl, 0, _, by rw [alloc_eq_grow, alloc_eq_grow, grow_grow]; rfl⟩

theorem lt_cf (x y : Nm) : ltOf cfN x y = Op.bytesLess x.n y.n := by
  unfold ltOf cfN cmpB
  cases h : Op.bytesLess x.n y.n with
  | true => simp
  | false =>
    by_cases h2 : (!x.n == y.n) = true
    · rw [if_neg (by simp), if_pos h2]; decide
    · rw [if_neg (by simp), if_neg h2]; decide
theorem swo_cf : SWO (ltOf cfN) where
  irrefl x := by rw [lt_cf, bl_irrefl]
  trans x y z h1 h2 := by rw [lt_cf] at *; exact bl_trans _ _ _ h1 h2
  ntrans x y z h1 h2 := by
    rw [lt_cf] at *
    cases h3 : Op.bytesLess x.n z.n with
    | false => rfl
    | true =>
      cases h4 : Op.bytesLess z.n y.n with
      | true => rw [bl_trans _ _ _ h3 h4] at h1; cases h1
      | false => rw [← bl_tri _ _ h2 h4] at h3; rw [h3] at h1; cases h1

theorem sort_at (l : List Nm) (g cap : Nat) (cur : Array Value) (w : World) (hg : w.heap[g]? = some (.cells cur 116 (0, 0))) (hl : l.length * 2 ≤ cur.size) (htk : cur.toList.take (l.length * 2) = l.flatMap encN) (hn : ndN l) (h6 : l.length ≤ 1000000) :
    Calls Try.prog 65 #[.slice (some ⟨g, 0, none⟩) l.length cap, .func (.func 66) #[] #[]] w fun e w' => e = .returned (.tuple #[]) ∧
      ∃ (cur' : Array Value), w.grownBy w' (some g) ∧ w'.heap[g]? = some (.cells cur' 116 (0, 0)) ∧ cur'.size = cur.size ∧ cur'.toList.take (l.length * 2) = (sortN l).flatMap encN := by
  have eg : ∀ args w, (callFunc 66 args).run Try.prog w = .ok (.enter 66 args) w := enters_of Try.func66 (by kernel_rfl) rfl
  have hlt : g < w.heap.size := (Array.getElem?_eq_some_iff.1 hg).1
  have hcon := AnyQ.slices_SortFunc Try.sortEnt 2 Try.isAgg116 Try.sizeOf116 encN (fun _ => rfl) (fun x v hv => by simp [encN] at hv; rcases hv with rfl | rfl <;> rfl) cfN swo_cf 66 #[] g 0 cap l.toArray w eg (fun _ _ _ _ x y => clo_cmp x y _) (holds_row hg htk) hlt (by simp; omega)
  change Calls Try.prog 65 _ _ _ at hcon
  refine hcon.mono ?_
  rintro e w' ⟨rfl, d', n, os, hp, hs, rfl⟩
  refine ⟨rfl, ?_⟩
  obtain ⟨l', rfl⟩ : ∃ l' : List Nm, d' = l'.toArray := ⟨d'.toList, by simp⟩
  have hperm : l'.Perm l := by
    have h := hp.2.2
    have h1 : l'.length = l.length := by simpa using hp.1
    have e1 : ((l'.toArray).extract 0 l.toArray.size).toList = l' := by simp [← h1]
    have e2 : ((l.toArray).extract 0 l.toArray.size).toList = l := by simp
    rwa [e1, e2] at h
  have hsrt : srtN l' := by
    refine sortN_of hn hperm (List.pairwise_iff_getElem.2 fun i j hi hj hij => ?_)
    have h1 := hs i j (Nat.zero_le _) hij (by simpa [hperm.length_eq] using hj)
    rw [lt_cf] at h1
    simpa [hi, hj] using h1
  have hl' : l' = sortN l := srtN_uniq (hperm.trans (sortN_perm l).symm) hsrt (sortN_srt hn)
  rw [← hl', ← hperm.length_eq]
  rw [← hperm.length_eq] at hl
  obtain ⟨cur', h1, h2, h3⟩ := after_row hg hl n os
  exact ⟨cur', after_grown w g l' n os, h1, h2, h3⟩

/-! ### The cells of rows of names -/
theorem cells_rowsN {S : Nat → Prop} {w : World} : ∀ {l : List Nm} {us : List Value}, us.length = l.length * 2 →
    (∀ (i j : Nat) (r : List PV) (p : PV), (rowsN l)[i]? = some r → r[j]? = some p → ∃ u, us[i * 2 + j]? = some u ∧ u.oneCell' = true ∧ RPV S w u p) → us = l.flatMap encN
  | [], us, h, _ => List.eq_nil_of_length_eq_zero (by simpa using h)
  | x :: l, [], h, _ => by simp at h
  | x :: l, [_], h, _ => by simp at h; omega
  | x :: l, u :: v :: us, h, hc => by
    have h0 := hc 0 0 (rowN x) (.str x.n) rfl rfl
    have h1 := hc 0 1 (rowN x) (.int .i64 x.i) rfl rfl
    obtain ⟨a, e1, _, e2⟩ := h0
    obtain ⟨b, e3, _, e4⟩ := h1
    simp at e1 e3
    subst e1 e3
    have ih := cells_rowsN (l := l) (us := us) (by simp at h; omega) fun i j r p hr hp => by
      have := hc (i + 1) j r p (by simpa [rowsN] using hr) hp
      rwa [show (i + 1) * 2 + j = (i * 2 + j) + 2 by omega, List.getElem?_cons_succ, List.getElem?_cons_succ] at this
    rw [List.flatMap_cons, ← ih, e2.str_inv, e4.int_inv]
    rfl
theorem rowsN_cells (S : Nat → Prop) (w : World) : ∀ (l : List Nm) (i j : Nat) (r : List PV) (p : PV), (rowsN l)[i]? = some r → r[j]? = some p → ∃ u, (l.flatMap encN)[i * 2 + j]? = some u ∧ u.oneCell' = true ∧ RPV S w u p
  | [], i, j, r, p, h, _ => by simp at h
  | x :: l, 0, j, r, p, h, hp => by
    have : rowN x = r := by simpa [rowsN] using h
    subst this
    match j, hp with
    | 0, hp => cases hp; exact ⟨_, rfl, rfl, .str _⟩
    | 1, hp => cases hp; exact ⟨_, rfl, rfl, .int _ _⟩
    | j + 2, hp => simp [rowN] at hp
  | x :: l, i + 1, j, r, p, h, hp => by
    have := rowsN_cells S w l i j r p (by simpa [rowsN] using h) hp
    rwa [List.flatMap_cons, show (i + 1) * 2 + j = (i * 2 + j) + 2 by omega, show encN x = [.string ⟨x.n.toArray⟩, .int .i64 x.i] from rfl, List.cons_append, List.cons_append, List.nil_append, List.getElem?_cons_succ, List.getElem?_cons_succ]
theorem rowsN_two (l : List Nm) : ∀ r ∈ rowsN l, r.length = 2 := by
  intro r hr
  simp only [rowsN, List.mem_map] at hr
  obtain ⟨c, _, rfl⟩ := hr
  rfl
theorem ent_size {inf : TypeInfo} (h : Try.prog.info? 116 = some inf) : inf.size = 2 := by
  have h2 : (Try.prog.info? 116).map (·.size) = some 2 := by kernel_rfl
  rw [h] at h2
  simpa using h2

noncomputable def GSrt : List AV → Option (Prop × AV)
  | [.tup [.fr e a], .clo f []] => if e = 116 ∧ f = 66 then (dec rowN a).map fun l => (ndN l ∧ l.length ≤ 1000000, .clo 0 [.tup [], .fr 116 (rowsN (sortN l))]) else none
  | _ => none
@[simp] theorem GSrt_eq (e : TypeId) (a : List (List PV)) (f : FuncId) : GSrt [.tup [.fr e a], .clo f []] = if e = 116 ∧ f = 66 then (dec rowN a).map fun l => (ndN l ∧ l.length ≤ 1000000, .clo 0 [.tup [], .fr 116 (rowsN (sortN l))]) else none := rfl
theorem c_Srt : ConTG Try.prog 65 GSrt := by
  intro ys φ r h hφ
  unfold GSrt at h
  split at h
  · rename_i e ra f
    split at h
    · rename_i he
      obtain ⟨rfl, rfl⟩ := he
      obtain ⟨l, hl, h⟩ := Option.map_eq_some_iff.1 h
      cases h
      cases dec_rowsN_inv hl
      obtain ⟨hn, h6⟩ := hφ
      intro w S0 vals bss hS0 hnd hts
      have hvl : vals.length = 2 := hts.1
      have hbl : bss.length = 2 := hts.2.1
      match vals, hvl, bss, hbl with
      | [V, F], _, [b0, b1], _ =>
        have h0 := hts.2.2 0 _ V b0 rfl rfl rfl
        have h1 := hts.2.2 1 _ F b1 rfl rfl rfl
        change HT Try.prog S0 w V (.fr 116 (rowsN l)) b0 at h0
        change HT Try.prog S0 w F (.clo 66 []) b1 at h1
        have e1 : b1 = [] ∧ F = .func (.func 66) #[] #[] := by
          cases h1 with
          | leaf _ _ hr =>
            obtain ⟨us, rfl, hu, _⟩ := hr.clo_inv
            cases us with
            | nil => exact ⟨rfl, rfl⟩
            | cons _ _ => simp at hu
        obtain ⟨rfl, rfl⟩ := e1
        have hlen : (sortN l).length = l.length := (sortN_perm l).length_eq
        cases h0 with
        | leaf _ _ hr => exact absurd rfl (hr.tree_inv.1 _ _)
        | fr _ _ _ inf us hi hown hrl hcs =>
          have hsz := ent_size hi
          rw [hsz, rowsN_length] at hown
          have hus : us = l.flatMap encN := cells_rowsN hown.1 fun i j r p h1 h2 => by rw [← hsz]; exact hcs i j r p h1 h2
          subst hus
          rcases hown.2 with ⟨rfl, hl0⟩ | ⟨g, cap, cur, rfl, hb0, hg, hnc, hcm, hcs2, htk⟩
          · have : l = [] := List.eq_nil_of_length_eq_zero hl0
            subst this
            have hcon := AnyF.slices_SortFunc_none Try.sortEnt none 0 (.func (.func 66) #[] #[]) w
            change Calls Try.prog 65 _ _ _ at hcon
            refine hcon.mono ?_
            rintro e w' ⟨rfl, rfl⟩
            refine ⟨_, [[], []], rfl, ⟨rfl, rfl, rfl, Nat.le_refl _, fun _ _ _ => rfl⟩, by simp, by simp, rfl, rfl, ?_⟩
            intro i y v bs hy hv hb
            match i, hy, hv, hb with
            | 0, hy, hv, hb =>
              cases hy; cases hv; cases hb
              exact .fr _ _ _ inf [] hi ⟨by simp [sortN], .inl ⟨rfl, by simp [sortN]⟩⟩ (by simp [sortN]) (by intro i j r p h; simp [sortN] at h)
            | 1, hy, hv, hb =>
              cases hy; cases hv; cases hb
              exact .tup [] [] [] rfl rfl (by intro i c u bs h; simp at h)
            | i + 2, hy, _, _ => simp [outG] at hy
          · refine (sort_at l g cap cur w hg (by rw [hcs2]; exact Nat.mul_le_mul_right 2 hnc) htk hn h6).mono ?_
            rintro e w' ⟨rfl, cur', hgr, hg', hs', ht'⟩
            refine ⟨_, [[g], []], rfl, ⟨hgr.os, hgr.tape, hgr.output, hgr.size, fun b hb hnb => hgr.block b hb (fun e => hnb (by cases e; simp [blk]))⟩, by simp, by simp [blk], rfl, rfl, ?_⟩
            intro i y v bs hy hv hb
            match i, hy, hv, hb with
            | 0, hy, hv, hb =>
              cases hy; cases hv; cases hb
              refine HT.fr _ _ _ inf ((sortN l).flatMap encN) hi ?_ (fun r hr => by rw [hsz]; exact rowsN_two _ r hr) (fun i j r p h1 h2 => by rw [hsz]; exact rowsN_cells _ _ _ i j r p h1 h2)
              rw [hsz, rowsN_length, hlen]
              refine ⟨?_, .inr ⟨g, cap, cur', rfl, hb0, hg', hnc, hcm, by rw [hs', hcs2], ht'⟩⟩
              have hq : cur'.toList.length = cap * 2 := by rw [Array.length_toList, hs', hcs2]
              rw [← ht', List.length_take, hq]
              exact Nat.min_eq_left (Nat.mul_le_mul_right 2 hnc)
            | 1, hy, hv, hb =>
              cases hy; cases hv; cases hb
              exact .tup [] [] [] rfl rfl (by intro i c u bs h; simp at h)
            | i + 2, hy, _, _ => simp [outG] at hy
    · cases h
  · cases h

/-! ### maps.Clone -/
noncomputable def GMcl : List AV → Option (Prop × AV)
  | [.pv (.mv es)] => some (True, .mf es)
  | _ => none
@[simp] theorem GMcl_eq (es : List (PV × PV)) : GMcl [.pv (.mv es)] = some (True, .mf es) := rfl
theorem c_Mcl : ConTR Try.prog 68 GMcl := by
  intro ys φ r h hφ
  unfold GMcl at h
  split at h
  · rename_i es
    cases h
    intro w S0 vals bss hS0 hnd hts
    have hvl : vals.length = 1 := hts.1
    have hbl : bss.length = 1 := hts.2.1
    match vals, hvl, bss, hbl with
    | [V], _, [b0], _ =>
      have h0 := hts.2.2 0 _ V b0 rfl rfl rfl
      change HT Try.prog S0 w V (.pv (.mv es)) b0 at h0
      cases h0 with
      | leaf _ _ hr =>
        cases hr.pv_inv with
        | mv b us c _ hb hh hst hl hk hv =>
          have hcon := AnyW.maps_Clone Try.cloneMap b us c w hh
          change Calls Try.prog 68 _ _ _ at hcon
          refine hcon.mono ?_
          rintro e w' ⟨rfl, rfl⟩
          have hold : ∀ k, k < w.heap.size → (w.alloc (.map us c)).heap[k]? = w.heap[k]? := fun k hk => by show (w.heap.push _)[k]? = _; rw [Array.getElem?_push, if_neg (by omega)]
          have hnew : (w.alloc (.map us c)).heap[w.heap.size]? = some (.map us c) := by show (w.heap.push _)[w.heap.size]? = _; rw [Array.getElem?_push, if_pos rfl]
          refine ⟨_, [[w.heap.size]], rfl, ⟨rfl, rfl, rfl, by simp, fun k hk _ => hold k hk⟩, by simp, by simp, rfl, rfl, ?_⟩
          intro i y v bs hy hv' hb'
          match i, hy, hv', hb' with
          | 0, hy, hv', hb' =>
            cases hy; cases hv'; cases hb'
            refine .mf w.heap.size us c es hnew hst hl fun i e u h1 h2 => ?_
            obtain ⟨k1, k2, k3⟩ := hk i e u h1 h2
            refine ⟨k1, k2, k3, (hv i e u h1 h2).mono2 fun b' hb' => ?_⟩
            have hlt := (hS0 b' hb').1
            refine ⟨⟨.inl hb', by simp; omega, by simp; omega⟩, ?_⟩
            exact SameB.of (hold b' hlt)
          | i + 1, hy, _, _ => simp [outG] at hy
  · cases h

end Go.Proofs.Ythblkhafehanfaa.Ab
