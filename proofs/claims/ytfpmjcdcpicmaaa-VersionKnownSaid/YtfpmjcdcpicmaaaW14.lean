import Derived.Test.YtfpmjcdcpicmaaaCodeW
import Derived.Test.YtfpmjcdcpicmaaaV1
import Derived.Test.YtfpmjcdcpicmaaaV2
namespace Go.Proofs.Ytfpmjcdcpicmaaa.Ab.E
open Go Go.RowKit R
set_option linter.unusedVariables false
set_option linter.unusedSimpArgs false
set_option maxHeartbeats 4000000
set_option maxRecDepth 100000
structure Ed where
 k : UInt8
 n : Int
 t : List UInt8
 deriving DecidableEq
def rowE (e : Ed) : List PV := [.int .u8 (e.k.toNat : Int), .int .i64 e.n, .str e.t]
theorem rowE_inj : ∀ a b, rowE a = rowE b → a = b := by
 rintro ⟨k, n, t⟩ ⟨k', n', t'⟩ h
 simp only [rowE, List.cons.injEq, PV.int.injEq, PV.str.injEq, true_and, and_true] at h
 obtain ⟨h1, h2, h3⟩ := h
 have : k = k' := UInt8.toNat_inj.1 (by omega)
 rw [this, h2, h3]
def rowsE (l : List Ed) : List (List PV) := l.map rowE
@[simp] theorem rowsE_nil : rowsE [] = [] := rfl
@[simp] theorem rowsE_length (l : List Ed) : (rowsE l).length = l.length := by simp [rowsE]
theorem rowsE_append (l m : List Ed) : rowsE (l ++ m) = rowsE l ++ rowsE m := by simp [rowsE]
theorem rowsE_three (l : List Ed) : ∀ r ∈ rowsE l, r.length = 3 := by
 intro r hr
 simp only [rowsE, List.mem_map] at hr
 obtain ⟨c, _, rfl⟩ := hr
 rfl
theorem rowsE_at {l : List Ed} {i : Nat} (h : i < l.length) : rowAt (rowsE l) (i : Int) = [.int .u8 (l[i].k.toNat : Int), .int .i64 l[i].n, .str l[i].t] := by
 simp [rowAt, rowsE, h, rowE]
@[simp] theorem dec_rowsE (l : List Ed) : dec rowE (rowsE l) = some l := dec_map rowE_inj l
theorem dec_rowsE_inv {rows : List (List PV)} {l : List Ed} (h : dec rowE rows = some l) : rows = rowsE l := dec_inv h
def rightI (k n : Int) (t : List UInt8) : Bool :=
 if k = 2 then decide (n = 0) && decide (0 < t.length) else (decide (k = 1) || decide (k = 3)) && decide (1 ≤ n) && decide (n ≤ 2147483647) && decide (t.length = 0)
noncomputable def Gright : List AV → Option (Prop × AV)
 | [.agg [.pv (.int .u8 k), .pv (.int .i64 n), .pv (.str t)]] => some (True, .pv (.bool (rightI k n t)))
 | _ => none
@[simp] theorem Gright_eq (k n : Int) (t : List UInt8) : Gright [.agg [.pv (.int .u8 k), .pv (.int .i64 n), .pv (.str t)]] = some (True, .pv (.bool (rightI k n t))) := rfl
theorem c_eright : ConT Try.prog 174 Gright := by
 intro ys φ r h hφ
 unfold Gright at h
 split at h
 · rename_i k n t
   cases h
   refine con_of tab_nil (by kernel_rfl) fn174 (by simp) ?_
   unfold body174
   simp (config := { maxSteps := 3000000 })
   have e1 : (0 < n) = (1 ≤ n) := propext (by omega)
   have e2 : decide (0 < t.length) = !decide (t = []) := by cases t <;> simp
   by_cases h1 : k = 1
   · subst h1; simp [rightI, e1]
   · by_cases h2 : k = 2
     · subst h2; simp [rightI, e2]
     · by_cases h3 : k = 3
       · subst h3; simp [rightI, e1]
       · simp [rightI, h1, h2, h3]
 · cases h
def sizesI (k n : Int) (t : List UInt8) : Int × Int :=
 if rightI k n t = false then (0, 0) else if k = 2 then (0, t.length) else if k = 3 then (n, 0) else (n, n)
noncomputable def Gsizes : List AV → Option (Prop × AV)
 | [.agg [.pv (.int .u8 k), .pv (.int .i64 n), .pv (.str t)]] => some (True, .tup [.pv (.int .i64 (sizesI k n t).1), .pv (.int .i64 (sizesI k n t).2)])
 | _ => none
@[simp] theorem Gsizes_eq (k n : Int) (t : List UInt8) : Gsizes [.agg [.pv (.int .u8 k), .pv (.int .i64 n), .pv (.str t)]] = some (True, .tup [.pv (.int .i64 (sizesI k n t).1), .pv (.int .i64 (sizesI k n t).2)]) := rfl
theorem c_esizes : ConT Try.prog 173 Gsizes := by
 intro ys φ r h hφ
 unfold Gsizes at h
 split at h
 · rename_i k n t
   cases h
   refine con_of (tab_cons c_eright tab_nil) (by kernel_rfl) fn173 (by simp) ?_
   unfold body173
   simp (config := { maxSteps := 3000000 })
   unfold sizesI
   refine ⟨fun h => ?_, fun h => ⟨fun h2 => ?_, fun h2 => ⟨fun h3 => ?_, fun h3 => ?_⟩⟩⟩ <;> (try subst h2) <;> (try subst h3) <;> simp [*]
 · cases h
noncomputable def Gwrong : List AV → Option (Prop × AV)
 | [.agg [.pv (.int .u8 k), .pv (.int .i64 n), .pv (.str t)]] => some (True, .pv (.bool (!rightI k n t)))
 | _ => none
@[simp] theorem Gwrong_eq (k n : Int) (t : List UInt8) : Gwrong [.agg [.pv (.int .u8 k), .pv (.int .i64 n), .pv (.str t)]] = some (True, .pv (.bool (!rightI k n t))) := rfl
theorem c_wrong1 : ConT Try.prog 178 Gwrong := by
 intro ys φ r h hφ
 unfold Gwrong at h
 split at h
 · rename_i k n t
   cases h
   refine con_of (tab_cons c_eright tab_nil) (by kernel_rfl) fn178 (by simp) ?_
   unfold body178
   simp (config := { maxSteps := 3000000 })
 · cases h
def rightE (e : Ed) : Bool := rightI e.k.toNat e.n e.t
theorem rightE_eq (e : Ed) : rightI e.k.toNat e.n e.t = rightE e := rfl
def rightL (l : List Ed) : Bool := l.all rightE
def wrongIdx (l : List Ed) : Int := if l.findIdx (fun e => !rightE e) < l.length then (l.findIdx (fun e => !rightE e) : Nat) else -1
theorem wrongIdx_at {l : List Ed} {i : Nat} (hi : i < l.length) (h : rightE l[i] = false) (ha : ∀ e ∈ l.take i, rightE e = true) : wrongIdx l = (i : Int) := by
 have : l.findIdx (fun e => !rightE e) = i := by
   rw [List.findIdx_eq hi]
   refine ⟨by simp [h], fun j hj => ?_⟩
   have := ha l[j] (by rw [List.mem_take_iff_getElem]; exact ⟨j, by omega, rfl⟩)
   simp [this]
 unfold wrongIdx
 rw [this, if_pos hi]
theorem wrongIdx_none {l : List Ed} (ha : rightL l = true) : wrongIdx l = -1 := by
 have : l.findIdx (fun e => !rightE e) = l.length := by
   rw [List.findIdx_eq_length]
   intro e he
   unfold rightL at ha
   rw [List.all_eq_true] at ha
   simp [ha e he]
 unfold wrongIdx
 rw [this, if_neg (by omega)]
theorem wrongIdx_neg (l : List Ed) : (0 ≤ wrongIdx l) = (rightL l = false) := by
 apply propext
 by_cases h : rightL l = true
 · rw [wrongIdx_none h]; simp [h]
 · have h' : rightL l = false := by simpa using h
   unfold rightL at h'
   rw [List.all_eq_false] at h'
   obtain ⟨e, he, hr⟩ := h'
   have : l.findIdx (fun e => !rightE e) < l.length := by
     rw [List.findIdx_lt_length]
     exact ⟨e, he, by simpa using hr⟩
   unfold wrongIdx
   rw [if_pos this]
   simp [h]
noncomputable def Gindex : List AV → Option (Prop × AV)
 | [.pv (.ro a), .clo f []] => if f = 178 then (dec rowE a).map fun l => (l.length ≤ 1000000000, .pv (.int .i64 (wrongIdx l))) else none
 | _ => none
@[simp] theorem Gindex_eq (a : List (List PV)) (f : FuncId) : Gindex [.pv (.ro a), .clo f []] = if f = 178 then (dec rowE a).map fun l => (l.length ≤ 1000000000, .pv (.int .i64 (wrongIdx l))) else none := rfl
theorem isfn1 : isFn Try.prog 178 = true := by kernel_rfl
theorem c_index : ConT Try.prog 196 Gindex := by
 intro ys φ r h hφ
 unfold Gindex at h
 split at h
 · rename_i ra f
   have hall : ∀ f, (f = 178) → ∀ a : List Ed, a.length ≤ 1000000000 → Con Try.prog 196 [] [.pv (.ro (rowsE a)), .clo f []] [] (.pv (.int .i64 (wrongIdx a))) := by
     intro f hf a hφ
     have hfn : isFn Try.prog f = true := by rcases hf with rfl; exact isfn1
     refine con_of (tab_cons c_wrong1 tab_nil) (by kernel_rfl) fn196 (by simp) ?_
     unfold body196
     simp (config := { maxSteps := 3000000 })
     refine vwp_loop (fun i : Nat => i ≤ a.length ∧ ∀ e ∈ a.take i, rightE e = true) (fun i => ⟨[(0, .pv (.ro (rowsE a))), (1, .clo f []), (7, .pv (.int .i64 a.length)), (8, .pv (.int .i64 i))], []⟩) (fun i => a.length - i) [] 0 (by simp) ?_ ?_
     · simp
     · rintro i ⟨hi, ht⟩
       have w2 : IntKind.i64.wrap ((i : Int) + 1) = (i : Int) + 1 := wrap_i64 (by omega)
       by_cases hlt : i < a.length
       · have r1 := rowsE_at hlt
         have hr : ∀ e ∈ a.take (i + 1), rightE e = true ∨ e = a[i] := by
           intro e he
           rw [List.take_succ_eq_append_getElem hlt, List.mem_append] at he
           rcases he with he | he
           · exact .inl (ht e he)
           · exact .inr (by simpa using he)
         rcases hf with rfl
         · simp (config := { maxSteps := 3000000 }) [w2, hlt, r1, hfn, rightE_eq]
           refine ⟨fun h => wrongIdx_at hlt h ht ▸ rfl, fun h => ⟨i + 1, ⟨by omega, fun e he => ?_⟩, by omega, by omega⟩⟩
           rcases hr e he with h1 | h1
           · exact h1
           · rw [h1]; exact h
       · simp (config := { maxSteps := 3000000 }) [hlt]
         rw [List.take_of_length_le (by omega)] at ht
         rw [wrongIdx_none (by unfold rightL; rw [List.all_eq_true]; exact ht)]
   split at h
   · rename_i hf
     obtain ⟨a, ha, h⟩ := Option.map_eq_some_iff.1 h
     cases h
     cases dec_rowsE_inv ha
     exact hall f hf a hφ
   · cases h
 · cases h
noncomputable def Gcontains : List AV → Option (Prop × AV)
 | [.pv (.ro a), .clo f []] => if f = 178 then (dec rowE a).map fun l => (l.length ≤ 1000000000, .pv (.bool (!rightL l))) else none
 | _ => none
@[simp] theorem Gcontains_eq (a : List (List PV)) (f : FuncId) : Gcontains [.pv (.ro a), .clo f []] = if f = 178 then (dec rowE a).map fun l => (l.length ≤ 1000000000, .pv (.bool (!rightL l))) else none := rfl
theorem c_contains : ConT Try.prog 177 Gcontains := by
 intro ys φ r h hφ
 unfold Gcontains at h
 split at h
 · rename_i ra f
   split at h
   · rename_i hf
     subst hf
     obtain ⟨a, ha, h⟩ := Option.map_eq_some_iff.1 h
     cases h
     cases dec_rowsE_inv ha
     refine con_of (tab_cons c_index tab_nil) (by kernel_rfl) fn177 (by simp) ?_
     unfold body177
     simp (config := { maxSteps := 3000000 }) [wrongIdx_neg]
     exact hφ
   · cases h
 · cases h
noncomputable def GRight : List AV → Option (Prop × AV)
 | [.pv (.ro a)] => (dec rowE a).map fun l => (l.length ≤ 1000000000, .pv (.bool (rightL l)))
 | _ => none
@[simp] theorem GRight_eq (a : List (List PV)) : GRight [.pv (.ro a)] = (dec rowE a).map fun l => (l.length ≤ 1000000000, .pv (.bool (rightL l))) := rfl
theorem c_right : ConT Try.prog 160 GRight := by
 intro ys φ r h hφ
 unfold GRight at h
 split at h
 · rename_i ra
   obtain ⟨a, ha, h⟩ := Option.map_eq_some_iff.1 h
   cases h
   cases dec_rowsE_inv ha
   refine con_of (tab_cons c_contains tab_nil) (by kernel_rfl) fn160 (by simp) ?_
   unfold body160
   simp (config := { maxSteps := 3000000 })
   exact hφ
 · cases h
def sizesE (e : Ed) : Int × Int := sizesI e.k.toNat e.n e.t
theorem sizesE_eq (e : Ed) : sizesI e.k.toNat e.n e.t = sizesE e := rfl
def sizesL : List Ed → Int × Int
 | [] => (0, 0)
 | e :: l => ((sizesE e).1 + (sizesL l).1, (sizesE e).2 + (sizesL l).2)
theorem sizesL_append (l m : List Ed) : sizesL (l ++ m) = ((sizesL l).1 + (sizesL m).1, (sizesL l).2 + (sizesL m).2) := by
 induction l with
 | nil => simp [sizesL]
 | cons e l ih => simp only [List.cons_append, sizesL, ih]; ext <;> simp <;> omega
theorem sizesE_bound (e : Ed) (h : e.t.length ≤ 2147483647) : 0 ≤ (sizesE e).1 ∧ (sizesE e).1 ≤ 2147483647 ∧ 0 ≤ (sizesE e).2 ∧ (sizesE e).2 ≤ 2147483647 := by
 unfold sizesE sizesI
 split
 · simp
 · rename_i hr
   have hr : rightI e.k.toNat e.n e.t = true := by simpa using hr
   unfold rightI at hr
   split
   · simp; omega
   · rename_i h2
     rw [if_neg h2] at hr
     simp only [Bool.and_eq_true, decide_eq_true_eq] at hr
     split
     · simp; omega
     · simp; omega
theorem sizesL_bound : ∀ (l : List Ed), (∀ e ∈ l, e.t.length ≤ 2147483647) → 0 ≤ (sizesL l).1 ∧ (sizesL l).1 ≤ 2147483647 * l.length ∧ 0 ≤ (sizesL l).2 ∧ (sizesL l).2 ≤ 2147483647 * l.length
 | [], _ => by simp [sizesL]
 | e :: l, h => by
   have h1 := sizesE_bound e (h e (by simp))
   have h2 := sizesL_bound l (fun x hx => h x (by simp [hx]))
   simp only [sizesL, List.length_cons]
   omega
def okL (l : List Ed) : Prop := l.length ≤ 10000 ∧ ∀ e ∈ l, e.t.length ≤ 2147483647
noncomputable def GSizes : List AV → Option (Prop × AV)
 | [.pv (.ro a)] => (dec rowE a).map fun l => (okL l, .tup [.pv (.int .i64 (sizesL l).1), .pv (.int .i64 (sizesL l).2)])
 | _ => none
@[simp] theorem GSizes_eq (a : List (List PV)) : GSizes [.pv (.ro a)] = (dec rowE a).map fun l => (okL l, .tup [.pv (.int .i64 (sizesL l).1), .pv (.int .i64 (sizesL l).2)]) := rfl
def okE (e : Ed) : Prop := (e.k = 2 ∧ e.n = 0 ∧ e.t ≠ []) ∨ ((e.k = 1 ∨ e.k = 3) ∧ 1 ≤ e.n ∧ e.t = [])
theorem k_nat {e : Ed} {c : Nat} (hc : c < 256) : (e.k.toNat : Int) = (c : Int) ↔ e.k = c.toUInt8 := by
 constructor
 · intro h
   refine UInt8.toNat_inj.1 ?_
   have : c.toUInt8.toNat = c := by simp [Nat.toUInt8]; omega
   omega
 · intro h
   rw [h]
   have : c.toUInt8.toNat = c := by simp [Nat.toUInt8]; omega
   omega
theorem okE_of {e : Ed} (h : rightE e = true) : okE e := by
 unfold rightE rightI at h
 split at h
 · rename_i h2
   have h2' : e.k = 2 := UInt8.toNat_inj.1 (show e.k.toNat = 2 by omega)
   simp only [Bool.and_eq_true, decide_eq_true_eq] at h
   exact .inl ⟨h2', h.1, by rintro e; rw [e] at h; simp at h⟩
 · simp only [Bool.and_eq_true, Bool.or_eq_true, decide_eq_true_eq] at h
   refine .inr ⟨?_, h.1.1.2, List.eq_nil_of_length_eq_zero h.2⟩
   rcases h.1.1.1 with h1 | h1
   · exact .inl (UInt8.toNat_inj.1 (show e.k.toNat = 1 by omega))
   · exact .inr (UInt8.toNat_inj.1 (show e.k.toNat = 3 by omega))
def putE (e : Ed) : List UInt8 := e.k :: (if e.k = 2 then vtext e.t else vput e.n.toNat)
def putB (l : List Ed) : List UInt8 := l.flatMap putE
def putL (l : List Ed) : List UInt8 × Int := if rightL l = false then ([], 2) else (putB l, 0)
def okP (l : List Ed) : Prop := l.length ≤ 10000 ∧ ∀ e ∈ l, e.t.length ≤ 1000000
theorem putE_len {e : Ed} (h : e.t.length ≤ 1000000) (hr : rightE e = true) : (putE e).length ≤ 1000011 := by
 unfold putE
 split
 · have := vput_le10 (n := e.t.length) (by omega)
   unfold vtext
   simp; omega
 · have hn : e.n.toNat ≤ 2147483647 := by
     unfold rightE rightI at hr
     split at hr <;> simp only [Bool.and_eq_true, decide_eq_true_eq] at hr <;> omega
   have := vput_le10 (n := e.n.toNat) (by omega)
   simp; omega
theorem putB_len : ∀ {l : List Ed}, (∀ e ∈ l, e.t.length ≤ 1000000 ∧ rightE e = true) → (putB l).length ≤ 1000011 * l.length
 | [], _ => by simp [putB]
 | e :: l, h => by
   have h1 := putB_len (l := l) fun x hx => h x (by simp [hx])
   have h2 := putE_len (h e (by simp)).1 (h e (by simp)).2
   unfold putB at h1 ⊢
   simp only [List.flatMap_cons, List.length_append, List.length_cons]
   omega
theorem putB_snoc (l : List Ed) (e : Ed) : putB (l ++ [e]) = putB l ++ putE e := by simp [putB]
noncomputable def GPut : List AV → Option (Prop × AV)
 | [.pv (.ro a)] => (dec rowE a).map fun l => (okP l, .tup [.fr 5 (bytesRow (putL l).1), .pv (.int .i64 (putL l).2)])
 | _ => none
@[simp] theorem GPut_eq (a : List (List PV)) : GPut [.pv (.ro a)] = (dec rowE a).map fun l => (okP l, .tup [.fr 5 (bytesRow (putL l).1), .pv (.int .i64 (putL l).2)]) := rfl
theorem c_Put : ConT Try.prog 126 GPut := by
 intro ys φ r h hφ
 unfold GPut at h
 split at h
 · rename_i ra
   obtain ⟨a, ha, h⟩ := Option.map_eq_some_iff.1 h
   cases h
   cases dec_rowsE_inv ha
   obtain ⟨hlen, htx⟩ := hφ
   refine con_of (tab_cons c_right (tab_cons c_text (tab_cons c_put tab_nil))) (by kernel_rfl) fn126 (by simp) ?_
   unfold body126
   by_cases hr' : rightL a = false
   · have hno : putL a = ([], 2) := by unfold putL; rw [if_pos hr']
     simp (config := { maxSteps := 3000000 }) [hr', hno]
     omega
   have hr : rightL a = true := by simpa using hr'
   have hno : putL a = (putB a, 0) := by unfold putL; rw [if_neg hr']
   simp (config := { maxSteps := 3000000 }) [hr, hno]
   refine ⟨by omega, ?_⟩
   refine vwp_loop (fun i : Nat => i ≤ a.length) (fun i => ⟨[(10, .pv (.ro (rowsE a))), (11, .pv (.int .i64 a.length)), (12, .pv (.int .i64 i)), (4, .own 4)], [(4, .arr 5 (bytesRow (putB (a.take i))))]⟩) (fun i => a.length - i) [] 0 (by simp) ?_ ?_
   · simp [putB]
   · intro i hi
     have w2 : IntKind.i64.wrap ((i : Int) + 1) = (i : Int) + 1 := wrap_i64 (by omega)
     by_cases hlt : i < a.length
     · have r1 := rowsE_at hlt
       have hra : ∀ e ∈ a, rightE e = true := by unfold rightL at hr; rw [List.all_eq_true] at hr; exact hr
       have hrl := hra _ (List.getElem_mem hlt)
       have htl := htx _ (List.getElem_mem hlt)
       have hpb := putB_len (l := a.take i) fun e he => ⟨htx e (List.mem_of_mem_take he), hra e (List.mem_of_mem_take he)⟩
       have hpe := putE_len htl hrl
       have hl2 : (a.take i).length ≤ 10000 := by simp; omega
       have hgo : ∀ x, putE a[i] = x → ∃ x' : Nat, x' ≤ a.length ∧ ((i : Int) + 1 = x' ∧ bytesRow (putB (a.take i)) ++ bytesRow x = bytesRow (putB (a.take x'))) ∧ a.length - x' < a.length - i := by
         rintro x rfl
         refine ⟨i + 1, by omega, ⟨by omega, ?_⟩, by omega⟩
         rw [List.take_succ_eq_append_getElem hlt, putB_snoc, bytesRow_append]
       by_cases h2 : (a[i].k.toNat : Int) = 2
       · have hk : a[i].k = 2 := UInt8.toNat_inj.1 (show a[i].k.toNat = 2 by omega)
         have hx : putE a[i] = 2 :: vtext a[i].t := by simp [putE, hk]
         have := hgo _ hx
         rw [hx] at hpe
         simp only [List.length_cons] at hpe
         simp (config := { maxSteps := 3000000 }) [w2, hlt, r1, h2, maxLen_eq]
         exact ⟨⟨by omega, by omega⟩, htl, ⟨by omega, by omega, bytesRow_one _⟩, this⟩
       · have hk : ¬ a[i].k = 2 := fun e => h2 (by rw [e]; rfl)
         have hx : putE a[i] = a[i].k :: vput a[i].n.toNat := by simp [putE, hk]
         have := hgo _ hx
         rw [hx] at hpe
         simp only [List.length_cons] at hpe
         have hn : 1 ≤ a[i].n ∧ a[i].n ≤ 2147483647 := by
           unfold rightE rightI at hrl
           rw [if_neg h2] at hrl
           simp only [Bool.and_eq_true, decide_eq_true_eq] at hrl; omega
         have w3 : IntKind.u64.wrap a[i].n = a[i].n := wrap_u64 (by omega)
         simp (config := { maxSteps := 3000000 }) [w2, hlt, r1, h2, maxLen_eq, w3, vputP]
         exact ⟨⟨by omega, by omega⟩, ⟨by omega, by omega⟩, ⟨by omega, by omega, bytesRow_one _⟩, this⟩
     · simp (config := { maxSteps := 3000000 }) [hlt]
       rw [List.take_of_length_le (by omega)]
 · cases h
def outL : List UInt8 → List Ed → List UInt8
 | _, [] => []
 | base, e :: l => if e.k = 1 then base.take e.n.toNat ++ outL (base.drop e.n.toNat) l else if e.k = 2 then e.t ++ outL base l else outL (base.drop e.n.toNat) l
def applyL (base : List UInt8) (l : List Ed) : List UInt8 × Int := if rightL l = true ∧ (sizesL l).1 = base.length then (outL base l, 0) else ([], 50)
theorem outL_len : ∀ {l : List Ed} {base : List UInt8}, (∀ e ∈ l, e.t.length ≤ 1000000) → (outL base l).length ≤ base.length + 1000000 * l.length
 | [], _, _ => by simp [outL]
 | e :: l, base, h => by
   have h0 := h e (by simp)
   have h1 := fun b : List UInt8 => outL_len (l := l) (base := b) fun x hx => h x (by simp [hx])
   unfold outL
   split
   · have := h1 (base.drop e.n.toNat)
     simp at this ⊢; omega
   · split
     · have := h1 base
       simp; omega
     · have := h1 (base.drop e.n.toNat)
       simp at this ⊢; omega
def okA (base : List UInt8) (l : List Ed) : Prop := base.length ≤ 1000000 ∧ okP l
theorem sizesE_one (e : Ed) (h : rightE e = true) : (sizesE e).1 = e.n ∧ 0 ≤ e.n ∧ (e.k = 2 → e.n = 0) ∧ (e.k ≠ 2 → e.t = []) ∧ (e.k = 1 ∨ e.k = 2 ∨ e.k = 3) := by
 have ho := okE_of h
 have hs : sizesE e = if (e.k.toNat : Int) = 2 then (0, (e.t.length : Int)) else if (e.k.toNat : Int) = 3 then (e.n, 0) else (e.n, e.n) := by
   unfold sizesE sizesI; rw [if_neg (by rw [show rightI e.k.toNat e.n e.t = true from h]; simp)]
 rcases ho with ⟨h1, h2, h3⟩ | ⟨h1 | h1, h2, h3⟩
 · rw [hs, h1]; simp [h2]
 · rw [hs, h1]; simp [h3]; omega
 · rw [hs, h1]; simp [h3]; omega
noncomputable def GApply : List AV → Option (Prop × AV)
 | [.pv (.str base), .pv (.ro a)] => (dec rowE a).map fun l => (okA base l, .tup [.pv (.str (applyL base l).1), .pv (.int .i64 (applyL base l).2)])
 | _ => none
@[simp] theorem GApply_eq (base : List UInt8) (a : List (List PV)) : GApply [.pv (.str base), .pv (.ro a)] = (dec rowE a).map fun l => (okA base l, .tup [.pv (.str (applyL base l).1), .pv (.int .i64 (applyL base l).2)]) := rfl
end Go.Proofs.Ytfpmjcdcpicmaaa.Ab.E
