import Derived.Test.YtfpmjcdcpicmaaaW14
import Derived.Test.YtfpmjcdcpicmaaaShelf
import Derived.WalkKit
import Derived.BigCall
namespace Go.Proofs.Ytfpmjcdcpicmaaa.Ab.E
open Go Go.RowKit R
set_option linter.unusedVariables false
set_option linter.unusedSimpArgs false
theorem sizes_calls (k n : Int) (t : List UInt8) (w : World) : Calls Try.prog 173 #[.agg #[.int .u8 k, .int .i64 n, .string ⟨t.toArray⟩]] w fun e w' =>
   e = .returned (.tuple #[.int .i64 (sizesI k n t).1, .int .i64 (sizesI k n t).2]) ∧ Below w.heap.size w w' := by
 have hc := c_esizes [.agg [.pv (.int .u8 k), .pv (.int .i64 n), .pv (.str t)]] True _ rfl trivial
 have h := hc w (fun _ => False) (fun _ => .nilIface) [.agg #[.int .u8 k, .int .i64 n, .string ⟨t.toArray⟩]] (fun b hb => hb.elim) (fun t b ⟨o, ho⟩ => by simp [lookO] at ho)
   ⟨fun t o ho => by simp [lookO] at ho, fun t t' b ⟨o, ho⟩ => by simp [lookO] at ho⟩ rfl ?_
 · refine h.mono ?_
   rintro e w' ⟨v, β', rfl, hf, _, _, hv⟩
   obtain ⟨us, rfl, hl, hus⟩ := RV.tup_inv hv
   match us, hl with
   | [a, b], _ =>
     have ha := (hus 0 _ a rfl rfl).int_inv
     have hb := (hus 1 _ b rfl rfl).int_inv
     subst ha hb
     exact ⟨rfl, hf.os, hf.tape, hf.output, hf.size, fun k hk => hf.block k hk fun ⟨t, o, ho, _⟩ => by simp [lookO] at ho⟩
 · intro i v x hi hx
   match i with
   | 0 =>
     simp only [List.getElem?_cons_zero, Option.some.injEq] at hi hx
     subst hi hx
     refine .agg _ [.int .u8 k, .int .i64 n, .string ⟨t.toArray⟩] rfl ?_
     intro j c u hc hu
     match j with
     | 0 => simp at hc hu; subst hc hu; exact .pv _ _ (.int _ _)
     | 1 => simp at hc hu; subst hc hu; exact .pv _ _ (.int _ _)
     | 2 => simp at hc hu; subst hc hu; exact .pv _ _ (.str _)
     | j + 3 => simp at hc
   | i + 1 => simp at hx
theorem right_calls (k n : Int) (t : List UInt8) (w : World) : Calls Try.prog 174 #[.agg #[.int .u8 k, .int .i64 n, .string ⟨t.toArray⟩]] w fun e w' =>
   e = .returned (.bool (rightI k n t)) ∧ Below w.heap.size w w' := by
 have hc := c_eright [.agg [.pv (.int .u8 k), .pv (.int .i64 n), .pv (.str t)]] True _ rfl trivial
 have h := hc w (fun _ => False) (fun _ => .nilIface) [.agg #[.int .u8 k, .int .i64 n, .string ⟨t.toArray⟩]] (fun b hb => hb.elim) (fun t b ⟨o, ho⟩ => by simp [lookO] at ho)
   ⟨fun t o ho => by simp [lookO] at ho, fun t t' b ⟨o, ho⟩ => by simp [lookO] at ho⟩ rfl ?_
 · refine h.mono ?_
   rintro e w' ⟨v, β', rfl, hf, _, _, hv⟩
   have ha := RV.bool_inv hv
   subst ha
   exact ⟨rfl, hf.os, hf.tape, hf.output, hf.size, fun k hk => hf.block k hk fun ⟨t, o, ho, _⟩ => by simp [lookO] at ho⟩
 · intro i v x hi hx
   match i with
   | 0 =>
     simp only [List.getElem?_cons_zero, Option.some.injEq] at hi hx
     subst hi hx
     refine .agg _ [.int .u8 k, .int .i64 n, .string ⟨t.toArray⟩] rfl ?_
     intro j c u hc hu
     match j with
     | 0 => simp at hc hu; subst hc hu; exact .pv _ _ (.int _ _)
     | 1 => simp at hc hu; subst hc hu; exact .pv _ _ (.int _ _)
     | 2 => simp at hc hu; subst hc hu; exact .pv _ _ (.str _)
     | j + 3 => simp at hc
   | i + 1 => simp at hx
theorem isB_below {B b : Nat} {bs : List Value} {w w' : World} (h : Lib.IsBuilderF 236 5 B b bs w) (hb : Below w.heap.size w w') : Lib.IsBuilderF 236 5 B b bs w' := by
 have hg : w.grownBy w' none := ⟨hb.os, hb.tape, hb.output, hb.size, fun k hk _ => hb.block k hk⟩
 have one : ∀ p, Lib.BuilderAtF 236 5 B b p bs w → Lib.BuilderAtF 236 5 B b p bs w' := by
   intro p h
   have hlt := h.lt
   obtain ⟨hB, v, hbk, hown, hne⟩ := h
   exact ⟨hB, v, (hb.block b hlt).trans hbk, hown.kept hg (by cases hv : v.ownBlock <;> simp), hne⟩
 exact h.elim (fun x => .inl (one _ x)) (fun x => .inr (one _ x))
def iOf : Value → Nat
 | .int _ n => n.toNat
 | _ => 0
set_option maxHeartbeats 1500000 in
set_option maxRecDepth 1000000 in
theorem apply_walk (base : List UInt8) (a : List Ed) (ha : okA base a) (A : Option Addr) (c : Nat) (hc : a.length ≤ c) (w : World)
   (hA : 0 < a.length → ∃ b o, A = some ⟨b, o, none⟩ ∧ b < w.heap.size ∧ ∀ (i : Nat) (h : i < a.length), w.cell? ⟨b, o + i * 3, none⟩ = some (.int .u8 (a[i].k.toNat : Int)) ∧ w.cell? ⟨b, o + i * 3 + 1, none⟩ = some (.int .i64 a[i].n) ∧ w.cell? ⟨b, o + i * 3 + 2, none⟩ = some (.string ⟨a[i].t.toArray⟩)) :
   Calls Try.prog 156 #[.string ⟨base.toArray⟩, .slice A a.length c] w fun e w' =>
     e = .returned (.tuple #[.string ⟨(applyL base a).1.toArray⟩, .int .i64 (applyL base a).2]) ∧ Below w.heap.size w w' := by
 go_enter Try.func156, Try.ntmps156
 have hbl := ha.1
 have hlen30 := ha.2.1
 go_wp2
 go_loopw [0, 13] (fun vb vi wr => ∃ (i pos : Nat) (acc : List UInt8), i ≤ a.length ∧ vi = .int .i64 i ∧ pos ≤ base.length ∧ vb = .string ⟨(base.drop pos).toArray⟩ ∧ Lib.IsBuilderF 236 5 w.heap.size w.heap.size (Lib.byteCells acc) wr ∧ Below w.heap.size w wr ∧ (∀ e ∈ a.take i, rightE e = true) ∧ (pos : Int) = (sizesL (a.take i)).1 ∧ acc ++ outL (base.drop pos) (a.drop i) = outL base a) (fun _ vi _ => a.length - iOf vi)
 case atStart =>
   refine ⟨0, 0, [], by omega, rfl, by omega, by simp, Lib.IsBuilderF.of (Lib.fresh_isBuilder 236 5 w), ?_, by simp, by simp [sizesL], by simp⟩
   exact (Below.refl _ w).alloc (Nat.le_refl _) _
 case round =>
   obtain ⟨i, pos, acc, hi, rfl, hpos, rfl, hI, hbw, hra, hps, hout⟩ := hrel
   by_cases hlt : i < a.length
   · have hlt' : (i : Int) < (a.length : Int) := by omega
     obtain ⟨b, o, rfl, hb, hcell⟩ := hA (by omega)
     obtain ⟨c1, c2, c3⟩ := hcell i hlt
     have hcw : ∀ n v, w.cell? ⟨b, n, none⟩ = some v → wr.cell? ⟨b, n, none⟩ = some v := fun n v hv => by
       rw [← hv]; unfold World.cell?; rw [hbw.block b hb]
     replace c1 := hcw _ _ c1
     replace c2 := hcw _ _ c2
     replace c3 := hcw _ _ c3
     go_wp2_with (go_at_call 173; refine (sizes_calls (a[i].k.toNat : Int) a[i].n a[i].t _).mono ?_)
     rintro e W1 ⟨rfl, hb1⟩
     have hx0 : ∀ o : Obj, (wr.alloc o).heap[wr.heap.size]? = some o := fun o => by
       show (wr.heap.push o)[wr.heap.size]? = _
       exact Array.getElem?_push_size
     have hx1 : W1.heap[wr.heap.size]? = some (.cells #[.int .u8 (a[i].k.toNat : Int), .int .i64 a[i].n, .string ⟨a[i].t.toArray⟩] 183 (0, 0)) := by
       rw [hb1.block _ (by simp), hx0]
     have d0 : W1.cell? ⟨wr.heap.size, 0, none⟩ = some (.int .u8 (a[i].k.toNat : Int)) := by rw [Lib.cell_of_heap hx1]; rfl
     have d1 : W1.cell? ⟨wr.heap.size, 1, none⟩ = some (.int .i64 a[i].n) := by rw [Lib.cell_of_heap hx1]; rfl
     have d2 : W1.cell? ⟨wr.heap.size, 2, none⟩ = some (.string ⟨a[i].t.toArray⟩) := by rw [Lib.cell_of_heap hx1]; rfl
     have hs1 : wr.heap.size + 1 ≤ W1.heap.size := by have := hb1.size; simpa using this
     have hI1 := isB_below ((hI.alloc _)) hb1
     go_wp2_with (go_at_call 174; refine (right_calls (a[i].k.toNat : Int) a[i].n a[i].t _).mono ?_)
     rintro e W2 ⟨rfl, hb2⟩
     have hx2 := (hb2.block wr.heap.size (by omega)).trans hx1
     have f0 : W2.cell? ⟨wr.heap.size, 0, none⟩ = some (.int .u8 (a[i].k.toNat : Int)) := by rw [Lib.cell_of_heap hx2]; rfl
     have f2 : W2.cell? ⟨wr.heap.size, 2, none⟩ = some (.string ⟨a[i].t.toArray⟩) := by rw [Lib.cell_of_heap hx2]; rfl
     have hs2 : W1.heap.size ≤ W2.heap.size := hb2.size
     have hI2 := isB_below hI1 hb2
     have hbw2 : Below w.heap.size w W2 := by
       have hwr := hbw.size
       refine (hbw.alloc hwr _).trans (Below.trans ⟨hb1.os, hb1.tape, hb1.output, hb1.size, fun k hk => hb1.block k (by simp; omega)⟩ ⟨hb2.os, hb2.tape, hb2.output, hb2.size, fun k hk => hb2.block k (by omega)⟩)
     clear d0 d1 d2 c1 c2 c3 hx0 hx1 hb1 hb2 hcw
     cases hr : rightE a[i] with
     | false =>
       have hr' : rightI (a[i].k.toNat : Int) a[i].n a[i].t = false := hr
       have hno : applyL base a = ([], 50) := by
         unfold applyL
         refine if_neg fun hh => ?_
         have := hh.1
         unfold rightL at this
         rw [List.all_eq_true] at this
         rw [this _ (List.getElem_mem hlt)] at hr; cases hr
       rw [hr']
       go_wp2
       go_ret2
       rw [hno]
       exact ⟨rfl, hbw2⟩
     | true =>
       have hr' : rightI (a[i].k.toNat : Int) a[i].n a[i].t = true := hr
       obtain ⟨hz1, hz2, hz3, hz4, hz5⟩ := sizesE_one _ hr
       have hsz : sizesI (a[i].k.toNat : Int) a[i].n a[i].t = (a[i].n, (sizesE a[i]).2) := Prod.ext hz1 rfl
       have hsum : (sizesL a).1 = (pos : Int) + a[i].n + (sizesL (a.drop (i + 1))).1 := by
         have h1 : a = a.take i ++ (a[i] :: a.drop (i + 1)) := by rw [← List.drop_eq_getElem_cons hlt, List.take_append_drop]
         have h2 : (sizesL (a.take i ++ (a[i] :: a.drop (i + 1)))).1 = (pos : Int) + a[i].n + (sizesL (a.drop (i + 1))).1 := by
           rw [sizesL_append]; simp only [sizesL, hz1]; omega
         rw [← h2, ← h1]
       have hsn : 0 ≤ (sizesL (a.drop (i + 1))).1 := (sizesL_bound _ fun e he => by have := ha.2.2 e (List.mem_of_mem_drop he); omega).1
       rw [hr', hsz]
       by_cases hgt : ((base.length - pos : Nat) : Int) < a[i].n
       · have hno : applyL base a = ([], 50) := by
           unfold applyL
           refine if_neg fun hh => ?_
           have := hh.2
           omega
         go_wp2_with fail
         all_goals first
           | (exfalso; omega)
           | (go_ret2
              rw [hno]
              exact ⟨rfl, hbw2⟩)
       · have F : Hid ((ByteArray.mk (base.drop pos).toArray).extract 0 a[i].n.toNat = ⟨((base.drop pos).take a[i].n.toNat).toArray⟩ ∧
             (ByteArray.mk (base.drop pos).toArray).extract a[i].n.toNat (base.length - pos) = ⟨(base.drop (pos + a[i].n.toNat)).toArray⟩ ∧
             wrap64 ((i : Int) + 1) = ((i + 1 : Nat) : Int) ∧ (∀ e ∈ a.take (i + 1), rightE e = true) ∧ ((pos + a[i].n.toNat : Nat) : Int) = (sizesL (a.take (i + 1))).1 ∧ pos + a[i].n.toNat ≤ base.length ∧
             acc.length ≤ 20000000000 ∧ a[i].t.length ≤ 1000000 ∧ acc ++ outL (base.drop pos) (a[i] :: a.drop (i + 1)) = outL base a ∧ (a[i].k = 2 → a[i].n.toNat = 0) ∧
             a.length - iOf (.int .i64 ((i + 1 : Nat) : Int)) < a.length - iOf (.int .i64 (i : Int))) := by
           have hnp : pos + a[i].n.toNat ≤ base.length := by omega
           refine ⟨?_, ?_, ?_, ?_, ?_, hnp, ?_, ha.2.2 _ (List.getElem_mem hlt), ?_, fun h5 => by have := hz3 h5; omega, ?_⟩
           · rw [Lib.extract_eq]; simp
           · rw [Lib.extract_eq]
             congr 2
             rw [List.take_of_length_le (by simp; omega), List.drop_drop]
           · have := hlen30; unfold wrap64; omega
           · intro e he
             rw [List.take_succ_eq_append_getElem hlt, List.mem_append] at he
             rcases he with he | he
             · exact hra e he
             · simp only [List.mem_singleton] at he; rw [he]; exact hr
           · rw [List.take_succ_eq_append_getElem hlt, sizesL_append]; simp only [sizesL, hz1]; omega
           · have h1 : acc.length ≤ (outL base a).length := by rw [← hout]; simp
             have h2 := outL_len (l := a) (base := base) ha.2.2
             have h3 := ha.2.1
             omega
           · rw [← List.drop_eq_getElem_cons hlt]; exact hout
           · show a.length - (((i + 1 : Nat) : Int)).toNat < a.length - ((i : Int)).toNat
             rw [Int.toNat_natCast, Int.toNat_natCast]
             exact Nat.sub_lt_sub_left hlt (Nat.lt_succ_self i)
         have hbs : w.heap.size ≤ W2.heap.size := hbw2.size
         clear hsum hsn hz1 hz3 hz4 hout hps hra hcell hA hbl hlen30 hs1 hs2 hI hI1 hx2 hr hc hi hb
         rcases hz5 with h5 | h5 | h5
         · rw [h5] at f0
           go_wp2_with (go_at_call 175; refine (Try.Builder_WriteString_k w.heap.size w.heap.size (Lib.byteCells acc) _ W2 hI2 ?hl33 hbs).mono ?_)
           case hl33 =>
             obtain ⟨hex1, _, _, _, _, hnp, hacc, _, _, _, _⟩ := F.out
             rw [Lib.byteCells_length, hex1]
             have : (ByteArray.mk ((base.drop pos).take a[i].n.toNat).toArray).size ≤ base.length := by simp [ByteArray.size]; omega
             have := ha.1
             omega
           rintro e W3 ⟨rfl, h1, b1, k1⟩
           clear hgt
           go_wp2
           obtain ⟨hex1, hex2, hwi, hra', hps', hnp, hacc, htl, hout, hn2, hmeas⟩ := F.out
           rw [hex1] at h1
           refine ⟨⟨i + 1, pos + a[i].n.toNat, acc ++ (base.drop pos).take a[i].n.toNat, hlt, by rw [hwi], hnp, by rw [hex2], .inr (by rw [Lib.byteCells_append]; exact h1), hbw2.trans b1, hra', hps', ?_⟩, by rw [hwi]; exact hmeas⟩
           rw [← hout]
           simp [outL, h5, List.drop_drop]
         · rw [h5] at f0
           go_wp2_with (go_at_call 175; refine (Try.Builder_WriteString_k w.heap.size w.heap.size (Lib.byteCells acc) _ W2 hI2 ?hl33 hbs).mono ?_)
           case hl33 =>
             obtain ⟨_, _, _, _, _, hnp, hacc, htl, _, _, _⟩ := F.out
             rw [Lib.byteCells_length]
             have : (ByteArray.mk a[i].t.toArray).size = a[i].t.length := by simp [ByteArray.size]
             omega
           rintro e W3 ⟨rfl, h1, b1, k1⟩
           go_wp2
           obtain ⟨hex1, hex2, hwi, hra', hps', hnp, hacc, htl, hout, hn2, hmeas⟩ := F.out
           refine ⟨⟨i + 1, pos + a[i].n.toNat, acc ++ a[i].t, hlt, by rw [hwi], hnp, by rw [hex2], .inr (by rw [Lib.byteCells_append]; exact h1), hbw2.trans b1, hra', hps', ?_⟩, by rw [hwi]; exact hmeas⟩
           rw [← hout, hn2 h5]
           simp [outL, h5]
         · rw [h5] at f0
           go_wp2_with fail
           obtain ⟨hex1, hex2, hwi, hra', hps', hnp, hacc, htl, hout, hn2, hmeas⟩ := F.out
           refine ⟨⟨i + 1, pos + a[i].n.toNat, acc, hlt, by rw [hwi], hnp, by rw [hex2], hI2, hbw2, hra', hps', ?_⟩, by rw [hwi]; exact hmeas⟩
           rw [← hout]
           simp [outL, h5, List.drop_drop]
   · have hia : i = a.length := by omega
     subst hia
     rw [List.take_length] at hra hps
     rw [List.drop_eq_nil_of_le (Nat.le_refl a.length)] at hout
     simp only [outL, List.append_nil] at hout
     subst hout
     have hrl : rightL a = true := by unfold rightL; rw [List.all_eq_true]; exact hra
     cases hpe : base.drop pos with
     | nil =>
       have hpl : pos = base.length := by have := congrArg List.length hpe; simp at this; omega
       have hno : applyL base a = (outL base a, 0) := by unfold applyL; rw [if_pos ⟨hrl, by omega⟩]
       go_wp2_with (go_at_call 176; refine (Try.Builder_String_any_k w.heap.size w.heap.size _ _ hI hbw.size).mono ?_)
       rintro e W1 ⟨rfl, _, b1, _⟩
       go_wp2
       go_ret2
       rw [hno]
       exact ⟨rfl, hbw.trans b1⟩
     | cons x l =>
       have hpl : pos < base.length := by
         have := congrArg List.length hpe
         simp at this; omega
       have hno : applyL base a = ([], 50) := by unfold applyL; rw [if_neg (fun h => by have := h.2; omega)]
       go_wp2
       go_ret2
       rw [hno]
       exact ⟨rfl, hbw⟩
theorem con_two {P : Program} {f : FuncId} {args : List AV} {p q : PV} {u v : Value} (h : ∀ (w : World) (S : Nat → Prop) (vals : List Value), (∀ b, S b → b < w.heap.size) → vals.length = args.length →
     (∀ (i : Nat) (x : Value) (y : AV), vals[i]? = some x → args[i]? = some y → RV P S w (fun _ => .nilIface) (fun _ => False) x y) →
     Calls P f vals.toArray w fun e w' => e = .returned (.tuple #[u, v]) ∧ Below w.heap.size w w')
   (hu : ∀ S w, RPV S w u p) (hv : ∀ S w, RPV S w v q) : Con P f [] args [] (.tup [.pv p, .pv q]) := by
 intro w S0 β vals hS0 hlt hheap hvl hvr
 have hno : ∀ t, unionO (lookO []) (fun t => frO (cellAt (.tup [.pv p, .pv q]) t)) t = none := by
   intro t
   show frO (cellAt (.tup [.pv p, .pv q]) t) = none
   cases hc : cellAt (.tup [.pv p, .pv q]) t with
   | none => rfl
   | some x =>
     have : x = .pv p ∨ x = .pv q := by
       simp only [cellAt] at hc
       obtain ⟨y, hy, hc⟩ := Option.bind_eq_some_iff.1 hc
       have hy' : y = .pv p ∨ y = .pv q := by
         match t % 1000, hy with
         | 0, hy => simp at hy; exact .inl hy.symm
         | 1, hy => simp at hy; exact .inr hy.symm
         | n + 2, hy => simp at hy
       rcases hy' with rfl | rfl <;> (simp only [cellAt1] at hc; split at hc <;> simp at hc; try (subst hc; simp))
     rcases this with rfl | rfl <;> rfl
 refine (h w (okS S0 w.heap.size β (lookO []) w) vals (fun b hb => hb.2.1) hvl fun i x y hx hy => ?_).mono ?_
 · exact (hvr i x y hx hy).mono (fun b hb => ⟨hb, rfl⟩) (fun t ⟨o, ho⟩ => by simp [lookO] at ho)
 · rintro e w' ⟨rfl, hb⟩
   refine ⟨_, fun _ => .nilIface, rfl, ⟨hb.os, hb.tape, hb.output, hb.size, fun k hk _ => hb.block k hk⟩, ⟨fun t o ho => ?_, fun t t' b ⟨o, ho⟩ => ?_⟩, fun t b ⟨o, ho⟩ => ?_, ?_⟩
   · rw [hno] at ho; cases ho
   · rw [hno] at ho; cases ho
   · rw [hno] at ho; cases ho
   · refine .tup [.pv p, .pv q] [u, v] rfl fun i c x hc hx => ?_
     match i with
     | 0 => simp at hc hx; subst hc hx; exact .pv _ _ (hu _ _)
     | 1 => simp at hc hx; subst hc hx; exact .pv _ _ (hv _ _)
     | i + 2 => simp at hc
theorem c_apply : ConT Try.prog 156 GApply := by
 intro ys φ r h hφ
 unfold GApply at h
 split at h
 · rename_i base ra
   obtain ⟨a, ha, h⟩ := Option.map_eq_some_iff.1 h
   cases h
   cases dec_rowsE_inv ha
   refine con_two (u := .string ⟨(applyL base a).1.toArray⟩) (v := .int .i64 (applyL base a).2) ?_ (fun S w => .str _) (fun S w => .int _ _)
   intro w S vals hS hvl hvr
   match vals, hvl with
   | [v0, v1], _ =>
     have h0 := (hvr 0 v0 _ rfl rfl).str_inv
     obtain ⟨A, c, hv, hc, hne⟩ := ((hvr 1 v1 _ rfl rfl).pv_inv).ro_inv
     rw [rowsE_length] at hv hc
     subst h0 hv
     refine apply_walk base a hφ A c hc w fun hpos => ?_
     have hrn : rowsE a ≠ [] := by intro e; rw [← rowsE_length, e] at hpos; simp at hpos
     obtain ⟨ad, sz, us, rfl, g1, g2, g3, g4, g5⟩ := hne hrn
     have hsz : sz = 3 := by
       have := rowsE_three a _ (List.getElem_mem (by simpa using hpos : 0 < (rowsE a).length))
       rw [← g2 _ (List.getElem_mem (by simpa using hpos : 0 < (rowsE a).length)), this]
     subst hsz
     have hcl : ∀ (i : Nat) (h : i < a.length) (j : Nat) (p : PV), j < 3 → (rowE a[i])[j]? = some p → ∃ x, w.cell? (ad.add (i * 3 + j)) = some x ∧ RPV S w x p := by
       intro i hi j p hj hp
       have hr : (rowsE a)[i]? = some (rowE a[i]) := by simp [rowsE, hi]
       exact ⟨us i j, g3 i j (by simpa using hi) hj, g5 i j _ p hr hp⟩
     obtain ⟨b, o, sp⟩ := ad
     have hsp : sp = none := by
       obtain ⟨x, hx, _⟩ := hcl 0 hpos 0 _ (by omega) rfl
       cases sp with
       | none => rfl
       | some s =>
         exfalso
         simp [Addr.add, World.cell?] at hx
         try (split at hx <;> simp at hx)
     subst hsp
     refine ⟨b, o, rfl, hS _ g1, fun i hi => ?_⟩
     obtain ⟨x0, e0, r0⟩ := hcl i hi 0 _ (by omega) rfl
     obtain ⟨x1, e1, r1⟩ := hcl i hi 1 _ (by omega) rfl
     obtain ⟨x2, e2, r2⟩ := hcl i hi 2 _ (by omega) rfl
     rw [r0.int_inv, Addr.add_lit] at e0
     rw [r1.int_inv, Addr.add_lit] at e1
     rw [r2.str_inv, Addr.add_lit] at e2
     exact ⟨by simpa using e0, by rw [← Nat.add_assoc] at e1; exact e1, by rw [← Nat.add_assoc] at e2; exact e2⟩
 · cases h
end Go.Proofs.Ytfpmjcdcpicmaaa.Ab.E
