import Derived.Test.YtfpmjcdcpicmaaaCodeW
import Derived.Test.YtfpmjcdcpicmaaaAb23
import Derived.Test.YtfpmjcdcpicmaaaAb24
import Derived.Test.YtfpmjcdcpicmaaaW10
namespace Go.Proofs.Ytfpmjcdcpicmaaa.Ab
open Go Go.RowKit R
set_option linter.unusedVariables false
set_option linter.unusedSimpArgs false
set_option maxHeartbeats 4000000
set_option maxRecDepth 100000
def rowU (n : Int) : List PV := [.int .u64 n]
theorem rowU_inj : ∀ a b, rowU a = rowU b → a = b := by
 intro a b h
 simpa [rowU] using h
def rowsU (l : List Int) : List (List PV) := l.map rowU
@[simp] theorem rowsU_nil : rowsU [] = [] := rfl
@[simp] theorem rowsU_length (l : List Int) : (rowsU l).length = l.length := by simp [rowsU]
theorem rowsU_at {l : List Int} {i : Nat} (h : i < l.length) : rowAt (rowsU l) (i : Int) = [.int .u64 l[i]] := by
 simp [rowAt, rowsU, h, rowU]
@[simp] theorem dec_rowsU (l : List Int) : dec rowU (rowsU l) = some l := dec_map rowU_inj l
theorem dec_rowsU_inv {rows : List (List PV)} {l : List Int} (h : dec rowU rows = some l) : rows = rowsU l := dec_inv h
def inU (l : List Int) (n : Int) : Bool := decide (n ∈ l)
theorem inU_at {l : List Int} {n : Int} {i : Nat} (h : i < l.length) (hq : l[i] = n) : inU l n = true := by
 unfold inU; rw [decide_eq_true_eq, ← hq]; exact List.getElem_mem h
theorem inU_none {l : List Int} {n : Int} (h : ∀ x ∈ l, ¬ x = n) : inU l n = false := by
 unfold inU; rw [decide_eq_false_iff_not]; exact fun hn => h n hn rfl
def ixU (l : List Int) (n : Int) : Int := if inU l n = true then (l.findIdx (fun x => decide (x = n)) : Int) else -1
theorem ixU_at {l : List Int} {n : Int} {i : Nat} (h : i < l.length) (hq : l[i] = n) (ht : ∀ x ∈ l.take i, ¬ x = n) : ixU l n = i := by
 have hf : l.findIdx (fun x => decide (x = n)) = i := by
   rw [List.findIdx_eq h]
   refine ⟨by simpa using hq, fun j hj => ?_⟩
   have : l[j] ∈ l.take i := by
     rw [List.mem_take_iff_getElem]
     exact ⟨j, by omega, rfl⟩
   simpa using ht _ this
 unfold ixU
 rw [inU_at h hq, if_pos rfl, hf]
theorem ixU_none {l : List Int} {n : Int} (h : ∀ x ∈ l, ¬ x = n) : ixU l n = -1 := by
 unfold ixU; rw [inU_none h, if_neg (by simp)]
theorem ixU_in (l : List Int) (n : Int) : decide (0 ≤ ixU l n) = inU l n := by
 unfold ixU
 cases inU l n <;> simp
noncomputable def GixU : List AV → Option (Prop × AV)
 | [.pv (.ro a), .pv (.int .u64 n)] => (dec rowU a).map fun l => (l.length ≤ 1000000000, .pv (.int .i64 (ixU l n)))
 | _ => none
@[simp] theorem GixU_eq (a : List (List PV)) (n : Int) : GixU [.pv (.ro a), .pv (.int .u64 n)] = (dec rowU a).map fun l => (l.length ≤ 1000000000, .pv (.int .i64 (ixU l n))) := rfl
theorem c_ixU : ConT Try.prog 159 GixU := by
 intro ys φ r h hφ
 unfold GixU at h
 split at h
 · rename_i ra n
   obtain ⟨a, ha, h⟩ := Option.map_eq_some_iff.1 h
   cases h
   cases dec_rowsU_inv ha
   refine con_of tab_nil (by kernel_rfl) fn159 (by simp) ?_
   unfold body159
   simp (config := { maxSteps := 3000000 })
   refine vwp_loop (fun i : Nat => i ≤ a.length ∧ ∀ x ∈ a.take i, ¬ x = n) (fun i => ⟨[(0, .pv (.ro (rowsU a))), (1, .pv (.int .u64 n)), (7, .pv (.int .i64 a.length)), (8, .pv (.int .i64 i))], []⟩) (fun i => a.length - i) [] 0 (by simp) ?_ ?_
   · simp
   · rintro i ⟨hi, ht⟩
     have w2 : IntKind.i64.wrap ((i : Int) + 1) = (i : Int) + 1 := wrap_i64 (by omega)
     by_cases hlt : i < a.length
     · have r1 := rowsU_at hlt
       by_cases hq : a[i] = n
       · have hx := ixU_at hlt hq ht
         simp (config := { maxSteps := 3000000 }) [w2, hlt, r1, hq, hx]
       · have hq' : ¬ n = a[i] := fun e => hq e.symm
         simp (config := { maxSteps := 3000000 }) [w2, hlt, r1, hq']
         refine ⟨i + 1, ⟨by omega, fun x hx => ?_⟩, by omega, by omega⟩
         rw [List.take_succ_eq_append_getElem hlt, List.mem_append] at hx
         rcases hx with hx | hx
         · exact ht x hx
         · rw [List.mem_singleton] at hx; rw [hx]; exact hq
     · rw [List.take_of_length_le (by omega)] at ht
       have hx := ixU_none ht
       simp (config := { maxSteps := 3000000 }) [hlt, hx]
 · cases h
noncomputable def GinU : List AV → Option (Prop × AV)
 | [.pv (.ro a), .pv (.int .u64 n)] => (dec rowU a).map fun l => (l.length ≤ 1000000000, .pv (.bool (inU l n)))
 | _ => none
@[simp] theorem GinU_eq (a : List (List PV)) (n : Int) : GinU [.pv (.ro a), .pv (.int .u64 n)] = (dec rowU a).map fun l => (l.length ≤ 1000000000, .pv (.bool (inU l n))) := rfl
theorem c_cnU : ConT Try.prog 119 GinU := by
 intro ys φ r h hφ
 unfold GinU at h
 split at h
 · rename_i ra n
   obtain ⟨a, ha, h⟩ := Option.map_eq_some_iff.1 h
   cases h
   cases dec_rowsU_inv ha
   have hq := ixU_in a n
   refine con_of (tab_cons c_ixU tab_nil) (by kernel_rfl) fn119 (by simp) ?_
   unfold body119
   simp (config := { maxSteps := 3000000 }) [hφ, hq]
 · cases h
theorem c_kept : ConT Try.prog 123 GinU := by
 intro ys φ r h hφ
 unfold GinU at h
 split at h
 · rename_i ra n
   obtain ⟨a, ha, h⟩ := Option.map_eq_some_iff.1 h
   cases h
   cases dec_rowsU_inv ha
   refine con_of tab_nil (by kernel_rfl) fn123 (by simp) ?_
   unfold body123
   simp (config := { maxSteps := 3000000 })
   refine vwp_loop (fun i : Nat => i ≤ a.length ∧ ∀ x ∈ a.take i, ¬ x = n) (fun i => ⟨[(0, .pv (.ro (rowsU a))), (1, .pv (.int .u64 n)), (5, .pv (.int .i64 i))], []⟩) (fun i => a.length - i) [] 0 (by simp) ?_ ?_
   · simp
   · rintro i ⟨hi, ht⟩
     have w2 : IntKind.i64.wrap ((i : Int) + 1) = (i : Int) + 1 := wrap_i64 (by omega)
     by_cases hlt : i < a.length
     · have r1 := rowsU_at hlt
       by_cases hq : a[i] = n
       · have hx := inU_at hlt hq
         simp (config := { maxSteps := 3000000 }) [w2, hlt, r1, hq, hx]
       · simp (config := { maxSteps := 3000000 }) [w2, hlt, r1, hq]
         refine ⟨i + 1, ⟨by omega, fun x hx => ?_⟩, by omega, by omega⟩
         rw [List.take_succ_eq_append_getElem hlt, List.mem_append] at hx
         rcases hx with hx | hx
         · exact ht x hx
         · rw [List.mem_singleton] at hx; rw [hx]; exact hq
     · rw [List.take_of_length_le (by omega)] at ht
       have hx := inU_none ht
       simp (config := { maxSteps := 3000000 }) [hlt, hx]
 · cases h
end Go.Proofs.Ytfpmjcdcpicmaaa.Ab
namespace Go.Proofs.Ytfpmjcdcpicmaaa.Ab
open Go Go.RowKit R
set_option linter.unusedVariables false
set_option linter.unusedSimpArgs false
set_option maxHeartbeats 4000000
set_option maxRecDepth 100000
def hasK (ks : List PV) (n : Int) : Bool := ks.any (eqP (.int .u64 n))
def Gfg1 : List AV → Option (Prop × AV)
 | [.agg [.pv (.int .u64 n), .pv (.int .u64 _), .pv (.int .u64 _), .pv (.int .u64 _), .pv (.int .u64 _), .pv (.int .u64 _), .pv (.int .u64 _), .pv (.str _), .pv (.bool _), .pv (.bool _)], .rp [.mp ks]] => some ((∀ x ∈ ks, srt x = 9), .pv (.bool (!hasK ks n)))
 | _ => none
@[simp] theorem Gfg1_eq (n b p i s z m : Int) (t : List UInt8) (inl hid : Bool) (ks : List PV) : Gfg1 [.agg [.pv (.int .u64 n), .pv (.int .u64 b), .pv (.int .u64 p), .pv (.int .u64 i), .pv (.int .u64 s), .pv (.int .u64 z), .pv (.int .u64 m), .pv (.str t), .pv (.bool inl), .pv (.bool hid)], .rp [.mp ks]] = some ((∀ x ∈ ks, srt x = 9), .pv (.bool (!hasK ks n))) := rfl
theorem c_fg1 : ConT Try.prog 121 Gfg1 := by
 intro ys φ r h hφ
 unfold Gfg1 at h
 split at h
 · cases h
   refine con_of tab_nil (by kernel_rfl) fn121 (by simp) ?_
   unfold body121
   simp (config := { maxSteps := 3000000 }) [splice]
   exact ⟨hφ, rfl⟩
 · cases h
theorem isfnfg1 : isFn Try.prog 121 = true := by kernel_rfl
def ixQ (p : Vn → Bool) (l : List Vn) : Int := if l.findIdx p < l.length then (l.findIdx p : Int) else -1
theorem ixQ_at {p : Vn → Bool} {l : List Vn} {i : Nat} (h : i < l.length) (hq : p l[i] = true) (ht : ∀ v ∈ l.take i, p v = false) : ixQ p l = i := by
 have hf : l.findIdx p = i := by
   rw [List.findIdx_eq h]
   refine ⟨hq, fun j hj => ?_⟩
   have : l[j] ∈ l.take i := by
     rw [List.mem_take_iff_getElem]
     exact ⟨j, by omega, rfl⟩
   exact ht _ this
 unfold ixQ
 rw [hf, if_pos h]
theorem ixQ_none {p : Vn → Bool} {l : List Vn} (ht : ∀ v ∈ l, p v = false) : ixQ p l = -1 := by
 have hf : l.findIdx p = l.length := by
   rw [List.findIdx_eq_length]
   exact ht
 unfold ixQ
 rw [hf, if_neg (by omega)]
theorem ixQ_neg (p : Vn → Bool) (l : List Vn) : 0 ≤ ixQ p l ↔ l.any p = true := by
 unfold ixQ
 split
 · rename_i h
   have := List.findIdx_lt_length.1 h
   simp only [List.any_eq_true]
   exact ⟨fun _ => this, fun _ => by omega⟩
 · rename_i h
   rw [List.findIdx_lt_length] at h
   simp only [List.any_eq_true]
   exact ⟨fun h' => by omega, fun h' => absurd h' h⟩
theorem ixQ_filter {p : Vn → Bool} {l : List Vn} {k : Nat} (h : ixQ p l = (k : Int)) : k < l.length ∧ (l.take (k + 1)).filter (fun e => !p e) = l.take k := by
 unfold ixQ at h
 split at h
 · rename_i hlt
   have hk : l.findIdx p = k := by omega
   rw [hk] at hlt
   refine ⟨hlt, ?_⟩
   obtain ⟨h1, h2⟩ := (List.findIdx_eq hlt).1 hk
   rw [List.take_succ_eq_append_getElem hlt, List.filter_append]
   have hf : (l.take k).filter (fun e => !p e) = l.take k := by
     rw [List.filter_eq_self]
     intro e he
     rw [List.mem_take_iff_getElem] at he
     obtain ⟨j, hj, rfl⟩ := he
     have := h2 j (by omega)
     simpa using this
   rw [hf]
   simp [h1]
 · omega
def outK (ks : List PV) (v : Vn) : Bool := !hasK ks v.n
noncomputable def GixK : List AV → Option (Prop × AV)
 | [.pv (.ro a), .clo f [.rp [.mp ks]]] => if f = 121 then (dec rowV a).map fun l => (l.length ≤ 1000000000 ∧ ∀ x ∈ ks, srt x = 9, .pv (.int .i64 (ixQ (outK ks) l))) else none
 | _ => none
@[simp] theorem GixK_eq (a : List (List PV)) (f : FuncId) (ks : List PV) : GixK [.pv (.ro a), .clo f [.rp [.mp ks]]] = if f = 121 then (dec rowV a).map fun l => (l.length ≤ 1000000000 ∧ ∀ x ∈ ks, srt x = 9, .pv (.int .i64 (ixQ (outK ks) l))) else none := rfl
theorem c_ixK : ConT Try.prog 157 GixK := by
 intro ys φ r h hφ
 unfold GixK at h
 split at h
 · rename_i ra f ks
   split at h
   · rename_i hf
     subst hf
     obtain ⟨a, ha, h⟩ := Option.map_eq_some_iff.1 h
     cases h
     cases dec_rowsV_inv ha
     obtain ⟨hφ, hks⟩ := hφ
     refine con_of (tab_cons c_fg1 tab_nil) (by kernel_rfl) fn157 (by simp) ?_
     unfold body157
     simp (config := { maxSteps := 3000000 })
     refine vwp_loop (fun i : Nat => i ≤ a.length ∧ ∀ v ∈ a.take i, outK ks v = false) (fun i => ⟨[(0, .pv (.ro (rowsV a))), (1, .clo 121 [.rp [.mp ks]]), (7, .pv (.int .i64 a.length)), (8, .pv (.int .i64 i))], []⟩) (fun i => a.length - i) [] 0 (by simp) ?_ ?_
     · simp
     · rintro i ⟨hi, ht⟩
       have w2 : IntKind.i64.wrap ((i : Int) + 1) = (i : Int) + 1 := wrap_i64 (by omega)
       by_cases hlt : i < a.length
       · have r1 := rowsV_at hlt
         have hr : outK ks a[i] = false → ∀ v ∈ a.take (i + 1), outK ks v = false := by
           intro h0 e he
           rw [List.take_succ_eq_append_getElem hlt, List.mem_append] at he
           rcases he with he | he
           · exact ht e he
           · rw [List.mem_singleton] at he; rw [he]; exact h0
         simp (config := { maxSteps := 3000000 }) [w2, hlt, r1, isfnfg1]
         refine ⟨hks, fun h => (ixQ_at hlt (by simp [outK, h]) ht).symm, fun h => ⟨i + 1, ⟨by omega, hr (by simp [outK, h])⟩, by omega, by omega⟩⟩
       · simp (config := { maxSteps := 3000000 }) [hlt]
         rw [List.take_of_length_le (by omega)] at ht
         exact (ixQ_none ht).symm
   · cases h
 · cases h
theorem rowsV_set (l : List Vn) (i : Nat) (e : Vn) : (rowsV l).set i [.int .u64 e.n, .int .u64 e.b, .int .u64 e.p, .int .u64 e.i, .int .u64 e.s, .int .u64 e.z, .int .u64 e.m, .str e.t, .bool e.inl, .bool e.hid] = rowsV (l.set i e) := by
 unfold rowsV
 rw [List.map_set]
 rfl
def inK (ks : List PV) (l : List Vn) : List Vn := l.filter fun v => !outK ks v
noncomputable def GdelV : List AV → Option (Prop × AV)
 | [.fr e a, .clo f [.rp [.mp ks]]] => if e = 70 ∧ f = 121 then (dec rowV a).map fun l => (l.length ≤ 1000000 ∧ ∀ x ∈ ks, srt x = 9, .fr 70 (rowsV (inK ks l))) else none
 | _ => none
@[simp] theorem GdelV_eq (e : TypeId) (a : List (List PV)) (f : FuncId) (ks : List PV) : GdelV [.fr e a, .clo f [.rp [.mp ks]]] = if e = 70 ∧ f = 121 then (dec rowV a).map fun l => (l.length ≤ 1000000 ∧ ∀ x ∈ ks, srt x = 9, .fr 70 (rowsV (inK ks l))) else none := rfl
theorem c_delV : ConTU Try.prog 120 GdelV := by
 intro ys φ r h hφ
 unfold GdelV at h
 split at h
 · rename_i e ra f ks
   split at h
   · rename_i hef
     obtain ⟨rfl, rfl⟩ := hef
     obtain ⟨a, ha, h⟩ := Option.map_eq_some_iff.1 h
     cases h
     cases dec_rowsV_inv ha
     obtain ⟨hl6, hks⟩ := hφ
     refine con_ofU (tab_cons c_ixK (tab_cons c_fg1 tab_nil)) (by kernel_rfl) fn120 (by simp) (by simp [resOK, res1, resC]) (by simp) ?_
     unfold body120
     have hl9 : a.length ≤ 1000000000 := by omega
     have isfn3 := isfnfg1
     by_cases hr : a.any (outK ks) = true
     · have hw : 0 ≤ ixQ (outK ks) a := (ixQ_neg _ _).2 hr
       obtain ⟨k, hk⟩ := Int.eq_ofNat_of_zero_le hw
       obtain ⟨hkl, hkf⟩ := ixQ_filter hk
       have hne : ¬ ((k : Int) = -1) := by omega
       have w1 : IntKind.i64.wrap ((k : Int) + 1) = (k : Int) + 1 := wrap_i64 (by omega)
       simp (config := { maxSteps := 3000000 }) [hk, hne, w1, hl9]
       refine ⟨hks, ?_⟩
       refine vwp_loop (fun x : Nat × Nat × List Vn => x.1 < x.2.1 ∧ x.2.1 ≤ a.length ∧ x.2.2.length = a.length ∧ x.2.2.take x.1 = (a.take x.2.1).filter (fun e => !outK ks e) ∧ x.2.2.drop x.2.1 = a.drop x.2.1)
         (fun x => ⟨[(0, .own 998), (1, .clo 121 [.rp [.mp ks]]), (5, .pv (.int .i64 x.1)), (6, .pv (.int .i64 x.2.1))], [(998, .arr 70 (rowsV x.2.2))]⟩) (fun x => a.length - x.2.1) [] (k, k + 1, a) ?_ ?_ ?_
       · exact ⟨by simp, by simp; omega, rfl, by simp [hkf], rfl⟩
       · simp
       · rintro ⟨i, j, b⟩ ⟨h1, h2, h3, h4, h5⟩
         dsimp only at h1 h2 h3 h4 h5
         have w2 : IntKind.i64.wrap ((j : Int) + 1) = (j : Int) + 1 := wrap_i64 (by omega)
         have w3 : IntKind.i64.wrap ((i : Int) + 1) = (i : Int) + 1 := wrap_i64 (by omega)
         by_cases hlt : j < a.length
         · have hjb : j < b.length := by omega
           have hib : i < b.length := by omega
           have hbj : b[j] = a[j] := by
             have e1 := List.drop_eq_getElem_cons hjb
             have e2 := List.drop_eq_getElem_cons hlt
             rw [h5, e2] at e1
             injection e1 with e1 _; exact e1.symm
           have r1 := rowsV_at hjb
           rw [hbj] at r1
           have r2 := rowsV_at hib
           have hib' : (i : Int) < a.length := by omega
           have hdrop : ∀ e, (b.set i e).drop (j + 1) = a.drop (j + 1) := by
             intro e
             rw [List.drop_set_of_lt (by omega)]
             have e1 : (b.drop j).drop 1 = (a.drop j).drop 1 := by rw [h5]
             simpa [List.drop_drop] using e1
           by_cases hq : outK ks a[j] = true
           · have hq' : hasK ks a[j].n = false := by simpa [outK] using hq
             simp (config := { maxSteps := 3000000 }) [w2, w3, hlt, hjb, r1, r2, h3, hq', rowsV_set, hib', isfn3]
             refine ⟨hks, i, j + 1, b, ⟨by omega, by omega, h3, ?_, ?_⟩, ⟨⟨rfl, by omega⟩, rfl⟩, by omega⟩
             · rw [List.take_succ_eq_append_getElem hlt, List.filter_append, ← h4]
               simp [hq]
             · have e1 : (b.drop j).drop 1 = (a.drop j).drop 1 := by rw [h5]
               simpa [List.drop_drop] using e1
           · have hq0 : outK ks a[j] = false := by simpa using hq
             have hq' : hasK ks a[j].n = true := by simpa [outK] using hq
             simp (config := { maxSteps := 3000000 }) [w2, w3, hlt, hjb, r1, r2, h3, hq', rowsV_set, hib', isfn3]
             refine ⟨hks, by omega, i + 1, j + 1, b.set i a[j], ⟨by omega, by omega, by simp [h3], ?_, hdrop _⟩, ⟨⟨by omega, by omega⟩, rfl⟩, by omega⟩
             rw [List.take_succ_eq_append_getElem hlt, List.filter_append, ← h4, List.take_succ_eq_append_getElem (by simp; omega)]
             simp [hq0, List.take_set_of_le]
         · simp (config := { maxSteps := 3000000 }) [hlt, h3]
           have hja : j = a.length := by omega
           subst hja
           rw [List.take_length] at h4
           have h3r := rowsV_ten b
           refine ⟨⟨by omega, h3r⟩, ⟨by omega, ?_⟩, ?_⟩
           · rintro x (hx | ⟨_, rfl⟩ | hx)
             · exact h3r x (List.mem_of_mem_take hx)
             · rfl
             · exact h3r x (List.mem_of_mem_drop hx)
           · rw [List.take_append_of_le_length (by simp; omega), List.take_take, Nat.min_self]
             unfold inK
             rw [← h4]
             simp [rowsV, List.map_take]
     · have hw : ixQ (outK ks) a = -1 := by
         apply ixQ_none
         have := hr
         simp only [List.any_eq_true, not_exists, not_and] at this
         intro e he; simpa using this e he
       have hfil : inK ks a = a := by
         unfold inK; rw [List.filter_eq_self]; intro e he
         have := hr
         simp only [List.any_eq_true, not_exists, not_and] at this
         simpa using this e he
       simp (config := { maxSteps := 3000000 }) [hw, hfil, hl9]
       exact hks
   · cases h
 · cases h
end Go.Proofs.Ytfpmjcdcpicmaaa.Ab
namespace Go.Proofs.Ytfpmjcdcpicmaaa.Ab
open Go Go.RowKit R
set_option linter.unusedVariables false
set_option linter.unusedSimpArgs false
set_option maxHeartbeats 40000000
set_option maxRecDepth 100000
def hidF (c : Int) (keep : List Int) (v : Vn) : Vn := { v with hid := v.hid || (!decide (v.n = c) && !inU keep v.n) }
def curN (l : List Vn) : Int := ((curV l).getD v0).n
def hidL (l : List Vn) (keep : List Int) : List Vn := l.map (hidF (curN l) keep)
def needB (o : List Vn) (n : Int) : Bool := (List.range o.length).any fun k => !(atV o k).hid && (planF o o.length k).any fun w => decide (w.n = n)
def forgetV (l : List Vn) (keep : List Int) : List Vn := if rightV l = false then [] else (hidL l keep).filter fun v => needB (hidL l keep) v.n
theorem hidF_n (c : Int) (keep : List Int) (v : Vn) : (hidF c keep v).n = v.n := rfl
theorem hidF_b (c : Int) (keep : List Int) (v : Vn) : baseV (hidF c keep v) = baseV v := rfl
theorem ixV_map {f : Vn → Vn} (hf : ∀ v, (f v).n = v.n) (l : List Vn) (n : Int) : ixV (l.map f) n = ixV l n := by
 unfold ixV
 rw [List.findIdx_map]
 have : ((fun v : Vn => decide (v.n = n)) ∘ f) = fun v : Vn => decide (v.n = n) := by funext v; simp [hf]
 rw [this, List.length_map]
theorem right_map {f : Vn → Vn} (hf : ∀ v, (f v).n = v.n) (hb : ∀ v, baseV (f v) = baseV v) (l : List Vn) : rightV (l.map f) = rightV l := by
 have key : ∀ i, i < l.length → okAt (l.map f) i = okAt l i := by
   intro i hi
   have h1 : (l.map f)[i]? = some (f l[i]) := by simp [hi]
   have h2 : l[i]? = some l[i] := List.getElem?_eq_getElem hi
   have h3 : prevN (l.map f) i = prevN l i := by
     unfold prevN
     cases i with
     | zero => rfl
     | succ i =>
       have hi' : i < l.length := by omega
       simp [hi', hf]
   unfold okAt
   rw [h1, h2, h3]
   simp only [Option.getD_some, hf, hb]
   rw [← List.map_take, ixV_map hf]
 unfold rightV
 rw [List.length_map]
 have : ∀ l' : List Nat, (∀ i ∈ l', i < l.length) → l'.all (okAt (l.map f)) = l'.all (okAt l) := by
   intro l'
   induction l' with
   | nil => intro _; rfl
   | cons x l' ih =>
     intro h
     simp only [List.all_cons]
     rw [key x (h x (by simp)), ih fun i hi => h i (by simp [hi])]
 exact this _ fun i hi => List.mem_range.1 hi
theorem right_hid (l : List Vn) (keep : List Int) : rightV (hidL l keep) = rightV l := right_map (f := hidF (curN l) keep) (fun _ => rfl) (fun _ => rfl) l
theorem okV_hid {l : List Vn} (h : ∀ v ∈ l, okV v) (keep : List Int) : ∀ v ∈ hidL l keep, okV v := by
 intro v hv
 obtain ⟨w, hw, rfl⟩ := List.mem_map.1 hv
 exact h w hw
theorem hidL_len (l : List Vn) (keep : List Int) : (hidL l keep).length = l.length := by simp [hidL]
def setU (ns : List Int) : List (PV × AV) := ns.map fun n => (.int .u64 n, .agg [])
def putU (n : Int) (ns : List Int) : List Int := if n ∈ ns then ns else ns ++ [n]
theorem setU_put (n : Int) : ∀ ns : List Int, putM (.int .u64 n) (.agg []) (setU ns) = setU (putU n ns)
 | [] => by simp [setU, putU, putM]
 | m :: ns => by
   have ih := setU_put n ns
   unfold setU at ih ⊢
   simp only [List.map_cons, putM, eqP]
   by_cases h : n = m
   · subst h
     simp [putU]
   · have h' : decide (n = m) = false := by simpa using h
     simp only [h', Bool.false_eq_true, if_false, ih]
     unfold putU
     by_cases hn : n ∈ ns
     · simp [hn]
     · simp [hn, h]
theorem setU_keys (ns : List Int) : keysOK 9 (setU ns) := by
 intro e he
 obtain ⟨n, _, rfl⟩ := List.mem_map.1 he
 rfl
theorem setU_unit (ns : List Int) : (setU ns).all (fun e => unitB e.2) = true := by
 rw [List.all_eq_true]
 intro e he
 obtain ⟨n, _, rfl⟩ := List.mem_map.1 he
 rfl
def keysU (ns : List Int) : List PV := ns.map (.int .u64)
theorem setU_fst (ns : List Int) : (setU ns).map (·.1) = keysU ns := by simp [setU, keysU]
theorem keysU_srt (ns : List Int) : ∀ x ∈ keysU ns, srt x = 9 := by
 intro x hx
 obtain ⟨n, _, rfl⟩ := List.mem_map.1 hx
 rfl
theorem keysU_has (ns : List Int) (n : Int) : hasK (keysU ns) n = decide (n ∈ ns) := by
 unfold hasK keysU
 induction ns with
 | nil => simp
 | cons m ns ih =>
   simp only [List.map_cons, List.any_cons, ih, eqP, List.mem_cons]
   by_cases h : n = m <;> simp [h]
theorem putU_mem (m n : Int) (ns : List Int) : m ∈ putU n ns ↔ m = n ∨ m ∈ ns := by
 unfold putU
 split
 · rename_i h
   exact ⟨.inr, fun h' => h'.elim (fun e => e ▸ h) id⟩
 · simp only [List.mem_append, List.mem_singleton]
   exact ⟨fun h => h.elim .inr .inl, fun h => h.elim .inr .inl⟩
def planN (o : List Vn) (v : Vn) : List Int := (planV o v.n).1.map (·.n)
theorem need_iff {o : List Vn} (hr : rightV o = true) (n : Int) : needB o n = true ↔ ∃ v ∈ seenV o, n ∈ planN o v := by
 unfold needB
 simp only [List.any_eq_true, List.mem_range, Bool.and_eq_true, Bool.not_eq_true', decide_eq_true_eq]
 constructor
 · rintro ⟨k, hk, hh, w, hw, hn⟩
   rw [atV_eq hk] at hh
   have hs : o[k] ∈ seenV o := by unfold seenV; simp [hh]
   refine ⟨o[k], hs, ?_⟩
   have hg : ∃ v, getV o o[k].n = some v := by
     unfold getV
     cases hf : (seenV o).find? fun v => decide (v.n = o[k].n) with
     | some v => exact ⟨v, rfl⟩
     | none => rw [List.find?_eq_none] at hf; exact absurd (decide_eq_true rfl) (hf _ hs)
   obtain ⟨v, hg⟩ := hg
   obtain ⟨i, hi, hv, hvn⟩ := get_at hg
   have hp : planV o o[k].n = (planF o o.length k, 0) := by
     simp only [planV, hr, hg]
     rw [if_neg (by simp), hvn, ix_self hr hk, Int.toNat_natCast]
   unfold planN
   rw [hp]
   exact List.mem_map.2 ⟨w, hw, hn⟩
 · rintro ⟨v, hv, hn⟩
   have hv' : v ∈ o ∧ v.hid = false := by unfold seenV at hv; simpa using hv
   obtain ⟨k, hk, rfl⟩ := List.getElem_of_mem hv'.1
   have hg : ∃ v, getV o o[k].n = some v := by
     unfold getV
     cases hf : (seenV o).find? fun v => decide (v.n = o[k].n) with
     | some v => exact ⟨v, rfl⟩
     | none => rw [List.find?_eq_none] at hf; exact absurd (decide_eq_true rfl) (hf _ hv)
   obtain ⟨v, hg⟩ := hg
   obtain ⟨i, hi, hv1, hvn⟩ := get_at hg
   have hp : planV o o[k].n = (planF o o.length k, 0) := by
     simp only [planV, hr, hg]
     rw [if_neg (by simp), hvn, ix_self hr hk, Int.toNat_natCast]
   unfold planN at hn
   rw [hp] at hn
   obtain ⟨w, hw, hwn⟩ := List.mem_map.1 hn
   exact ⟨k, hk, by rw [atV_eq hk]; exact hv'.2, w, hw, hwn⟩
theorem planV_len {o : List Vn} (n : Int) : (planV o n).1.length ≤ o.length + 1 := by
 unfold planV
 split
 · simp
 · split
   · simp
   · exact planF_len _ _
def mxhV (f : Vn → Vn) (a : List Vn) (i : Nat) : List Vn := (a.take i).map f ++ a.drop i
theorem mxhV_len (f : Vn → Vn) (a : List Vn) (i : Nat) : (mxhV f a i).length = a.length := by simp [mxhV]; omega
theorem mxhV_set (f : Vn → Vn) {a : List Vn} {i : Nat} (h : i < a.length) : (mxhV f a i).set i (f a[i]) = mxhV f a (i + 1) := by
 unfold mxhV
 rw [List.set_append, if_neg (by simp; omega)]
 simp only [List.length_map, List.length_take]
 rw [Nat.min_eq_left (show i ≤ a.length by omega), Nat.sub_self, List.drop_eq_getElem_cons h, List.set_cons_zero, List.take_succ_eq_append_getElem h, List.map_append]
 simp only [List.map_cons, List.map_nil, List.append_assoc, List.cons_append, List.nil_append]
theorem mxhV_at (f : Vn → Vn) {a : List Vn} {i : Nat} (h : i < a.length) : (mxhV f a i)[i]'(by rw [mxhV_len]; exact h) = a[i] := by
 unfold mxhV
 rw [List.getElem_append_right (by simp; omega)]
 simp only [List.length_map, List.length_take, Nat.min_eq_left (show i ≤ a.length by omega), Nat.sub_self]
 simp
noncomputable def GForget (e : TypeId) : List AV → Option (Prop × AV)
 | [.pv (.ro a), .pv (.ro k)] => (dec rowV a).bind fun l => (dec rowU k).map fun ks => (l.length ≤ 100000 ∧ ks.length ≤ 1000000 ∧ (∀ v ∈ l, okV v), .fr e (rowsV (forgetV l ks)))
 | _ => none
@[simp] theorem GForget_eq (e : TypeId) (a k : List (List PV)) : GForget e [.pv (.ro a), .pv (.ro k)] = (dec rowV a).bind fun l => (dec rowU k).map fun ks => (l.length ≤ 100000 ∧ ks.length ≤ 1000000 ∧ (∀ v ∈ l, okV v), .fr e (rowsV (forgetV l ks))) := rfl
theorem c_Forget : ConT Try.prog 55 (GForget 70) := by
 intro ys φ r h hφ
 unfold GForget at h
 split at h
 · rename_i ra rk
   obtain ⟨a, ha, h⟩ := Option.bind_eq_some_iff.1 h
   obtain ⟨ks, hk, h⟩ := Option.map_eq_some_iff.1 h
   cases h
   cases dec_rowsV_inv ha
   cases dec_rowsU_inv hk
   obtain ⟨hl5, hk6, hov⟩ := hφ
   have hl9 : a.length ≤ 1000000000 := by omega
   have hl6 : a.length ≤ 1000000 := by omega
   have hk9 : ks.length ≤ 1000000000 := by omega
   have fl : ∀ l, flatRows (rowsV l) := flat_rowsV
   refine con_of (tab_cons c_Rv (tab_cons c_ClV (tab_cons c_Cv (tab_cons c_cnU (tab_cons c_Seen (tab_cons c_Plan (tab_consU (p := 0) (k := 998) c_delV (by kernel_rfl) tab_nil))))))) (by kernel_rfl) fn55 (by simp) ?_
   unfold body55
   cases hr : rightV a with
   | false =>
     have hp : forgetV a ks = [] := by simp [forgetV, hr]
     simp (config := { maxSteps := 3000000 }) [hl9, hr, hp]
   | true =>
   have hp : forgetV a ks = (hidL a ks).filter fun v => needB (hidL a ks) v.n := by simp [forgetV, hr]
   rw [hp]
   have hrO := (right_hid a ks).trans hr
   have hovO := okV_hid hov ks
   have hlO := hidL_len a ks
   have hO : hidL a ks = a.map (hidF (curN a) ks) := rfl
   have hcur : ((curV a).getD v0).n = curN a := rfl
   generalize hidL a ks = O at hrO hovO hlO hO
   generalize hcc : (curV a).getD v0 = cc at hcur
   simp (config := { maxSteps := 3000000 }) [hl9, hl6, hr, hcc, cellsV]
   refine vwp_loop (fun i : Nat => i ≤ a.length) (fun i => ⟨[(1, .pv (.ro (rowsU ks))), (5, .own 21), (6, .ptr 6 0), (27, .own 21), (28, .pv (.int .i64 a.length)), (29, .pv (.int .i64 i))], [(21, .arr 70 (rowsV (mxhV (hidF (curN a) ks) a i))), (6, .box (cellsV cc))]⟩) (fun i => a.length - i) [] 0 (by simp) ?_ ?_
   · simp [mxhV, cellsV]
   · rintro i hi
     have w2 : IntKind.i64.wrap ((i : Int) + 1) = (i : Int) + 1 := wrap_i64 (by omega)
     have hml := mxhV_len (hidF (curN a) ks) a i
     by_cases hlt : i < a.length
     · have r1 := rowsV_at (l := mxhV (hidF (curN a) ks) a i) (i := i) (by omega)
       rw [mxhV_at _ hlt] at r1
       have hst := mxhV_set (hidF (curN a) ks) hlt
       have hrs := fun e => rowsV_set (mxhV (hidF (curN a) ks) a i) i e
       have hfin : ∀ b, b = (hidF (curN a) ks a[i]).hid → (rowsV (mxhV (hidF (curN a) ks) a i)).set i [.int .u64 a[i].n, .int .u64 a[i].b, .int .u64 a[i].p, .int .u64 a[i].i, .int .u64 a[i].s, .int .u64 a[i].z, .int .u64 a[i].m, .str a[i].t, .bool a[i].inl, .bool b] = rowsV (mxhV (hidF (curN a) ks) a (i + 1)) := by
         intro b hb
         rw [← hst, ← hrs]
         subst hb; rfl
       have hhid : (hidF (curN a) ks a[i]).hid = (a[i].hid || (!decide (a[i].n = curN a) && !inU ks a[i].n)) := rfl
       cases hh : a[i].hid with
       | true =>
         rw [hh] at r1 hhid
         simp (config := { maxSteps := 3000000 }) [w2, hlt, hml, r1, cellsV]
         exact ⟨i + 1, by omega, ⟨by omega, hfin _ (by rw [hhid]; rfl)⟩, by omega⟩
       | false =>
         rw [hh] at r1 hhid
         by_cases hn : a[i].n = curN a
         · simp (config := { maxSteps := 3000000 }) [w2, hlt, hml, r1, cellsV, hcur, hn]
           refine ⟨i + 1, by omega, ⟨by omega, ?_⟩, by omega⟩
           rw [← hfin false (by rw [hhid]; simp [hn]), hn]
         · simp (config := { maxSteps := 3000000 }) [w2, hlt, hml, r1, cellsV, hcur, hn]
           exact ⟨hk9, i + 1, by omega, ⟨by omega, hfin _ (by rw [hhid]; simp [hn])⟩, by omega⟩
     · have hie : i = a.length := by omega
       subst hie
       have hmx : mxhV (hidF (curN a) ks) a a.length = O := by rw [hO]; unfold mxhV; simp
       rw [hmx]
       have hm1 : (Value.map none).oneCell' = true := rfl
       have hm2 : cv (Value.map none) = .pv (.val (.map none)) := rfl
       have hlO6 : O.length ≤ 1000000 := by omega
       simp (config := { maxSteps := 3000000 }) [cellsV, hm1, hm2, hlO6, fl]
       have hs6 : (seenV O).length ≤ 1000000 := Nat.le_trans (List.length_filter_le _ _) hlO6
       have hO5 : O.length ≤ 100000 := by omega
       refine vwp_loop (fun x : Nat × List Int => x.1 ≤ (seenV O).length ∧ ∀ n, n ∈ x.2 ↔ ∃ v ∈ (seenV O).take x.1, n ∈ planN O v)
         (fun x => ⟨[(5, .own 21), (10, .ptr 10 0), (57, .own 57), (58, .pv (.int .i64 (seenV O).length)), (59, .pv (.int .i64 x.1))], [(57, .arr 70 (rowsV (seenV O))), (10, .box [.own 55]), (55, .map (setU x.2)), (21, .arr 70 (rowsV O))]⟩) (fun x => (seenV O).length - x.1) [] (0, []) ?_ ?_ ?_
       · exact ⟨by simp, by simp⟩
       · simp [setU]
       · rintro ⟨j, ns⟩ ⟨hj, hns⟩
         dsimp only at hj hns
         have w4 : IntKind.i64.wrap ((j : Int) + 1) = (j : Int) + 1 := wrap_i64 (by omega)
         by_cases hjl : j < (seenV O).length
         · have r2 := rowsV_at hjl
           have hpl := planV_len (o := O) (seenV O)[j].n
           have hpN : planN O (seenV O)[j] = (planV O (seenV O)[j].n).1.map (fun v : Vn => v.n) := rfl
           have hnext : ∀ ns' : List Int, (∀ n : Int, n ∈ ns' ↔ n ∈ ns ∨ n ∈ planN O (seenV O)[j]) → ∀ n : Int, n ∈ ns' ↔ ∃ v ∈ (seenV O).take (j + 1), n ∈ planN O v := by
             intro ns' hn' n
             rw [hn', hns, List.take_succ_eq_append_getElem hjl]
             constructor
             · rintro (⟨v, hv, hm⟩ | hm)
               · exact ⟨v, List.mem_append.2 (.inl hv), hm⟩
               · exact ⟨_, List.mem_append.2 (.inr (List.mem_singleton.2 rfl)), hm⟩
             · rintro ⟨v, hv, hm⟩
               rw [List.mem_append, List.mem_singleton] at hv
               rcases hv with hv | rfl
               · exact .inl ⟨v, hv, hm⟩
               · exact .inr hm
           simp (config := { maxSteps := 3000000 }) [w4, hjl, r2, fl, hO5, hovO]
           generalize hW : (planV O (seenV O)[j].n).1 = W at hpl hpN
           refine ⟨hovO, ?_⟩
           refine vwp_loop (fun x : Nat × List Int => x.1 ≤ W.length ∧ ∀ n, n ∈ x.2 ↔ n ∈ ns ∨ n ∈ (W.take x.1).map (fun v : Vn => v.n))
             (fun x => ⟨[(5, .own 21), (10, .ptr 10 0), (57, .own 57), (58, .pv (.int .i64 (seenV O).length)), (59, .pv (.int .i64 j)), (70, .own 67), (71, .pv (.int .i64 W.length)), (72, .pv (.int .i64 x.1))], [(67, .arr 70 (rowsV W)), (57, .arr 70 (rowsV (seenV O))), (10, .box [.own 55]), (55, .map (setU x.2)), (21, .arr 70 (rowsV O))]⟩) (fun x => W.length - x.1) [] (0, ns) ?_ ?_ ?_
           · exact ⟨by simp, by simp⟩
           · simp
           · rintro ⟨k, ms⟩ ⟨hk', hms⟩
             dsimp only at hk' hms
             have w5 : IntKind.i64.wrap ((k : Int) + 1) = (k : Int) + 1 := wrap_i64 (by omega)
             have hks9 := setU_keys ms
             by_cases hkl : k < W.length
             · have r3 := rowsV_at hkl
               have hput := setU_put W[k].n ms
               simp (config := { maxSteps := 3000000 }) [w5, hkl, r3, hks9, hput]
               refine ⟨k + 1, putU W[k].n ms, ⟨by omega, fun n => ?_⟩, ⟨by omega, rfl⟩, by omega⟩
               rw [putU_mem, hms, ← List.map_take, List.take_succ_eq_append_getElem hkl]
               simp only [List.map_append, List.map_cons, List.map_nil, List.mem_append, List.mem_singleton]
               constructor
               · rintro (h | h | h)
                 · exact .inr (.inr h)
                 · exact .inl h
                 · exact .inr (.inl h)
               · rintro (h | h | h)
                 · exact .inr (.inl h)
                 · exact .inr (.inr h)
                 · exact .inl h
             · have hke : k = W.length := by omega
               subst hke
               simp (config := { maxSteps := 3000000 }) [w4, hjl]
               exact ⟨j + 1, ms, ⟨by omega, hnext ms fun n => by rw [hms, List.take_length, hpN]⟩, ⟨by omega, rfl⟩, by omega⟩
         · have hje : j = (seenV O).length := by omega
           subst hje
           rw [List.take_length] at hns
           have hun := setU_unit ns
           have hfs := setU_fst ns
           have hkk := keysU_srt ns
           have hin : inK (keysU ns) O = O.filter fun v => needB O v.n := by
             unfold inK
             congr 1
             funext v
             simp only [outK, keysU_has, Bool.not_not]
             rw [Bool.eq_iff_iff, decide_eq_true_eq, hns, need_iff hrO]
           have hkm : ∀ t es, killO t (.map es) = .map es := fun _ _ => rfl
           simp (config := { maxSteps := 3000000 }) [hun, hfs, hin, hlO6, fl, hkm]
           exact hkk
 · cases h
end Go.Proofs.Ytfpmjcdcpicmaaa.Ab
namespace Go.Proofs.Ytfpmjcdcpicmaaa.Ab
open Go Go.RowKit R
set_option linter.unusedVariables false
set_option linter.unusedSimpArgs false
set_option maxHeartbeats 40000000
set_option maxRecDepth 100000
def need1 (o : List Vn) (n : Int) (k : Nat) : Bool := !(atV o k).hid && (planF o o.length k).any fun w => decide (w.n = n)
theorem ixV_any (l : List Vn) (n : Int) : decide (0 ≤ ixV l n) = l.any fun w => decide (w.n = n) := by
 rcases ixV_cases l n with ⟨i, h, h1, h2, _⟩ | ⟨h1, h2⟩
 · rw [h1]
   have : (l.any fun w => decide (w.n = n)) = true := by
     rw [List.any_eq_true]
     exact ⟨l[i], List.getElem_mem h, by simpa using h2⟩
   rw [this]; simp
 · rw [h1]
   have : (l.any fun w => decide (w.n = n)) = false := by
     rw [List.any_eq_false]
     intro w hw
     simpa using h2 w hw
   rw [this]; simp
theorem c_rForget : ConT Try.prog 62 (GForget 75) := by
 intro ys φ r h hφ
 unfold GForget at h
 split at h
 · rename_i ra rk
   obtain ⟨a, ha, h⟩ := Option.bind_eq_some_iff.1 h
   obtain ⟨ks, hk, h⟩ := Option.map_eq_some_iff.1 h
   cases h
   cases dec_rowsV_inv ha
   cases dec_rowsU_inv hk
   obtain ⟨hl5, hk6, hov⟩ := hφ
   have hl9 : a.length ≤ 1000000000 := by omega
   have hl6 : a.length ≤ 1000000 := by omega
   have hk9 : ks.length ≤ 1000000000 := by omega
   have fl : ∀ l, flatRows (rowsV l) := flat_rowsV
   refine con_of (tab_cons c_rRv (tab_cons c_rCv (tab_cons c_kept (tab_cons (c_rp a.length) (tab_cons c_find tab_nil))))) (by kernel_rfl) fn62 (by simp) ?_
   unfold body62
   cases hr : rightV a with
   | false =>
     have hp : forgetV a ks = [] := by simp [forgetV, hr]
     simp (config := { maxSteps := 3000000 }) [hl9, hr, hp]
     exact hov
   | true =>
   have hp : forgetV a ks = (hidL a ks).filter fun v => needB (hidL a ks) v.n := by simp [forgetV, hr]
   rw [hp]
   have hrO := (right_hid a ks).trans hr
   have hovO := okV_hid hov ks
   have hlO := hidL_len a ks
   have hO : hidL a ks = a.map (hidF (curN a) ks) := rfl
   have hcur : ((curV a).getD v0).n = curN a := rfl
   generalize hidL a ks = O at hrO hovO hlO hO
   generalize hcc : (curV a).getD v0 = cc at hcur
   simp (config := { maxSteps := 3000000 }) [hl9, hl6, hr, hcc, cellsV]
   refine ⟨hov, ?_⟩
   refine vwp_loop (fun i : Nat => i ≤ a.length) (fun i => ⟨[(0, .pv (.ro (rowsV a))), (1, .pv (.ro (rowsU ks))), (5, .ptr 5 0), (7, .own 7), (8, .own 8), (9, .pv (.int .i64 i))], [(7, .arr 75 (rowsV ((a.take i).map (hidF (curN a) ks)))), (8, .arr 75 []), (5, .box (cellsV cc))]⟩) (fun i => a.length - i) [] 0 (by simp) ?_ ?_
   · simp [cellsV]
   · rintro i hi
     have w2 : IntKind.i64.wrap ((i : Int) + 1) = (i : Int) + 1 := wrap_i64 (by omega)
     have b1 : (i + 1) * 80 ≤ 140737488355328 := by omega
     have b2 : i ≤ 9223372036854775806 := by omega
     have bm : min i a.length = i := Nat.min_eq_left hi
     by_cases hlt : i < a.length
     · have r1 := rowsV_at hlt
       have hrow : ∀ b, b = (hidF (curN a) ks a[i]).hid → rowsV ((a.take i).map (hidF (curN a) ks)) ++ [[PV.int .u64 a[i].n, .int .u64 a[i].b, .int .u64 a[i].p, .int .u64 a[i].i, .int .u64 a[i].s, .int .u64 a[i].z, .int .u64 a[i].m, .str a[i].t, .bool a[i].inl, .bool b]] = rowsV ((a.take (i + 1)).map (hidF (curN a) ks)) := by
         intro b hb
         subst hb
         rw [List.take_succ_eq_append_getElem hlt, List.map_append, rowsV_append]
         rfl
       have hhid : (hidF (curN a) ks a[i]).hid = (a[i].hid || (!decide (a[i].n = curN a) && !inU ks a[i].n)) := rfl
       cases hh : a[i].hid with
       | true =>
         rw [hh] at r1 hhid
         simp (config := { maxSteps := 3000000 }) [w2, hlt, r1, cellsV, b1, b2, bm, maxLen_eq]
         refine ⟨i + 1, by omega, ⟨by omega, ?_⟩, by omega⟩
         rw [← List.map_take, ← List.map_take]
         exact hrow _ (by rw [hhid]; rfl)
       | false =>
         rw [hh] at r1 hhid
         by_cases hn : a[i].n = curN a
         · simp (config := { maxSteps := 3000000 }) [w2, hlt, r1, cellsV, hcur, hn, b1, b2, bm, maxLen_eq]
           refine ⟨i + 1, by omega, ⟨by omega, ?_⟩, by omega⟩
           rw [← List.map_take, ← List.map_take, ← hrow false (by rw [hhid]; simp [hn]), hn]
         · simp (config := { maxSteps := 3000000 }) [w2, hlt, r1, cellsV, hcur, hn, b1, b2, bm, maxLen_eq]
           refine ⟨hk9, i + 1, by omega, ⟨by omega, ?_⟩, by omega⟩
           rw [← List.map_take, ← List.map_take]
           exact hrow _ (by rw [hhid]; simp [hn])
     · have hie : i = a.length := by omega
       subst hie
       have hmx : (a.take a.length).map (hidF (curN a) ks) = O := by rw [hO, List.take_length]
       rw [hmx]
       have hlO6 : O.length ≤ 1000000 := by omega
       have hlO9 : O.length ≤ 1000000000 := by omega
       have hO5 : O.length ≤ 100000 := by omega
       simp (config := { maxSteps := 3000000 }) [cellsV]
       refine vwp_loop (fun i : Nat => i ≤ O.length)
         (fun i => ⟨[(7, .own 7), (8, .own 8), (11, .pv (.int .i64 i))], [(7, .arr 75 (rowsV O)), (8, .arr 75 (rowsV ((O.take i).filter fun v => needB O v.n)))]⟩) (fun i => O.length - i) [] 0 (by simp) ?_ ?_
       · simp
       · rintro i hi
         have w4 : IntKind.i64.wrap ((i : Int) + 1) = (i : Int) + 1 := wrap_i64 (by omega)
         by_cases hil : i < O.length
         · have r2 := rowsV_at hil
           simp (config := { maxSteps := 3000000 }) [hil]
           refine vwp_loop (fun k : Nat => k ≤ O.length)
             (fun k => ⟨[(7, .own 7), (8, .own 8), (11, .pv (.int .i64 i)), (12, .pv (.bool ((List.range k).any (need1 O O[i].n)))), (13, .pv (.int .i64 k))], [(7, .arr 75 (rowsV O)), (8, .arr 75 (rowsV ((O.take i).filter fun v => needB O v.n)))]⟩) (fun k => O.length - k) [] 0 (by simp) ?_ ?_
           · simp
           · rintro k hk'
             have w5 : IntKind.i64.wrap ((k : Int) + 1) = (k : Int) + 1 := wrap_i64 (by omega)
             by_cases hkl : k < O.length
             · have r3 := rowsV_at hkl
               have hix : ixV O O[k].n = (k : Int) := ix_self hrO hkl
               have hpl := planF_len (l := O) O.length k
               have hat := atV_eq hkl
               have hn1 : (List.range (k + 1)).any (need1 O O[i].n) = ((List.range k).any (need1 O O[i].n) || need1 O O[i].n k) := by
                 rw [List.range_succ, List.any_append]; simp
               cases hh : O[k].hid with
               | true =>
                 rw [hh] at r3
                 have hq : need1 O O[i].n k = false := by unfold need1; rw [hat, hh]; rfl
                 simp (config := { maxSteps := 3000000 }) [w5, hkl, r3, hil, r2]
                 exact ⟨k + 1, by omega, ⟨by rw [hn1, hq, Bool.or_false], by omega⟩, by omega⟩
               | false =>
                 rw [hh] at r3
                 have hq : need1 O O[i].n k = (planF O O.length k).any fun w => decide (w.n = O[i].n) := by unfold need1; rw [hat, hh]; rfl
                 rw [← ixV_any] at hq
                 have hp9 : (planF O O.length k).length ≤ 1000000000 := by omega
                 have htk : (planF O O.length k).take (planF O O.length k).length = planF O O.length k := List.take_length
                 simp (config := { maxSteps := 3000000 }) [w5, hkl, r3, hil, r2, hix, hp9, htk, fl]
                 refine ⟨⟨hO5, hrO, hovO, k, by omega, hkl, by rw [hat, ← hh]⟩, fun h0 => ⟨k + 1, by omega, ⟨⟨k, by omega, by rw [hq]; simpa using h0⟩, by omega⟩, by omega⟩, fun h0 => ⟨k + 1, by omega, ⟨?_, by omega⟩, by omega⟩⟩
                 rw [hn1, hq, decide_eq_false (by omega), Bool.or_false]
             · have hke : k = O.length := by omega
               subst hke
               have hnb : (List.range O.length).any (need1 O O[i].n) = needB O O[i].n := rfl
               rw [hnb]
               have b3 : (((O.take i).filter fun v => needB O v.n).length + 1) * 80 ≤ 140737488355328 := by
                 have := List.length_filter_le (fun v => needB O v.n) (O.take i)
                 rw [List.length_take] at this
                 omega
               cases hnd : needB O O[i].n with
               | true =>
                 simp (config := { maxSteps := 3000000 }) [w4, hil, r2, maxLen_eq, b3]
                 refine ⟨by omega, i + 1, by omega, ⟨by omega, ?_⟩, by omega⟩
                 rw [List.take_succ_eq_append_getElem hil, List.filter_append, rowsV_append]
                 congr 1
                 simp only [List.filter_cons, hnd, List.filter_nil, if_true]
                 rfl
               | false =>
                 simp (config := { maxSteps := 3000000 }) [w4, hil]
                 refine ⟨i + 1, by omega, ⟨by omega, ?_⟩, by omega⟩
                 rw [List.take_succ_eq_append_getElem hil, List.filter_append]
                 simp [hnd]
         · have hie : i = O.length := by omega
           subst hie
           simp (config := { maxSteps := 3000000 }) [List.take_length, fl]
 · cases h
end Go.Proofs.Ytfpmjcdcpicmaaa.Ab
