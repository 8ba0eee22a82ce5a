import Derived.Test.YtfpmjcdcpicmaaaW4
import Derived.Test.YtfpmjcdcpicmaaaV1
import Derived.Test.YtfpmjcdcpicmaaaV2
namespace Go.Proofs.Ytfpmjcdcpicmaaa.Ab
open Go Go.RowKit R
set_option linter.unusedVariables false
set_option linter.unusedSimpArgs false
set_option maxHeartbeats 40000000
set_option maxRecDepth 100000
def plainB (v : Vn) : Bool := decide (v = plainV v.n v.t)
def allPl (l : List Vn) : Bool := l.all plainB
def oddIx (l : List Vn) : Int := if allPl l = true then -1 else (l.findIdx (fun v => !plainB v) : Int)
def Godd : List AV → Option (Prop × AV)
 | [.agg [.pv (.int .u64 n), .pv (.int .u64 b), .pv (.int .u64 p), .pv (.int .u64 i), .pv (.int .u64 s), .pv (.int .u64 z), .pv (.int .u64 m), .pv (.str t), .pv (.bool inl), .pv (.bool hid)]] => some (True, .pv (.bool (!plainB ⟨n, b, p, i, s, z, m, t, inl, hid⟩)))
 | _ => none
@[simp] theorem Godd_eq (n b p i s z m : Int) (t : List UInt8) (inl hid : Bool) : Godd [.agg [.pv (.int .u64 n), .pv (.int .u64 b), .pv (.int .u64 p), .pv (.int .u64 i), .pv (.int .u64 s), .pv (.int .u64 z), .pv (.int .u64 m), .pv (.str t), .pv (.bool inl), .pv (.bool hid)]] = some (True, .pv (.bool (!plainB ⟨n, b, p, i, s, z, m, t, inl, hid⟩))) := rfl
theorem c_odd : ConT Try.prog 124 Godd := by
 intro ys φ r h hφ
 unfold Godd at h
 split at h
 · rename_i n b p i s z m t inl hid
   cases h
   have he := eq_cells ⟨n, b, p, i, s, z, m, t, inl, hid⟩ (plainV n t)
   simp only [plainV] at he
   have hp : plainB ⟨n, b, p, i, s, z, m, t, inl, hid⟩ = decide ((⟨n, b, p, i, s, z, m, t, inl, hid⟩ : Vn) = ⟨n, 0, 0, 0, 0, 0, 0, t, true, false⟩) := rfl
   refine con_of (tab_cons c_plain tab_nil) (by kernel_rfl) fn124 (by simp) ?_
   unfold body124
   simp (config := { maxSteps := 3000000 }) [hp]
 · cases h
theorem isfnodd : isFn Try.prog 124 = true := by kernel_rfl
noncomputable def GixO : List AV → Option (Prop × AV)
 | [.pv (.ro a), .clo f []] => if f = 124 then (dec rowV a).map fun l => (l.length ≤ 1000000000, .pv (.int .i64 (oddIx l))) else none
 | _ => none
@[simp] theorem GixO_eq (a : List (List PV)) (f : FuncId) : GixO [.pv (.ro a), .clo f []] = if f = 124 then (dec rowV a).map fun l => (l.length ≤ 1000000000, .pv (.int .i64 (oddIx l))) else none := rfl
theorem c_ixO : ConT Try.prog 157 GixO := by
 intro ys φ r h hφ
 unfold GixO at h
 split at h
 · rename_i ra f
   split at h
   · rename_i hf
     subst hf
     obtain ⟨a, ha, h⟩ := Option.map_eq_some_iff.1 h
     cases h
     cases dec_rowsV_inv ha
     refine con_of (tab_cons c_odd tab_nil) (by kernel_rfl) fn157 (by simp) ?_
     unfold body157
     simp (config := { maxSteps := 3000000 })
     refine vwp_loop (fun i : Nat => i ≤ a.length ∧ ∀ v ∈ a.take i, plainB v = true) (fun i => ⟨[(0, .pv (.ro (rowsV a))), (1, .clo 124 []), (7, .pv (.int .i64 a.length)), (8, .pv (.int .i64 i))], []⟩) (fun i => a.length - i) [] 0 (by simp) ?_ ?_
     · simp
     · rintro i ⟨hi, ht⟩
       have w2 : IntKind.i64.wrap ((i : Int) + 1) = (i : Int) + 1 := wrap_i64 (by omega)
       by_cases hlt : i < a.length
       · have r1 := rowsV_at hlt
         have he : (⟨a[i].n, a[i].b, a[i].p, a[i].i, a[i].s, a[i].z, a[i].m, a[i].t, a[i].inl, a[i].hid⟩ : Vn) = a[i] := rfl
         cases hp : plainB a[i] with
         | true =>
           simp (config := { maxSteps := 3000000 }) [w2, hlt, r1, isfnodd, he, hp]
           refine ⟨i + 1, ⟨by omega, fun v hv => ?_⟩, by omega, by omega⟩
           rw [List.take_succ_eq_append_getElem hlt, List.mem_append] at hv
           rcases hv with hv | hv
           · exact ht v hv
           · rw [List.mem_singleton] at hv; rw [hv]; exact hp
         | false =>
           have hall : allPl a = false := by
             unfold allPl; rw [List.all_eq_false]; exact ⟨a[i], List.getElem_mem hlt, by simp [hp]⟩
           have hfi : a.findIdx (fun v => !plainB v) = i := by
             rw [List.findIdx_eq hlt]
             refine ⟨by simp [hp], fun j hj => ?_⟩
             have : a[j] ∈ a.take i := by
               rw [List.mem_take_iff_getElem]
               exact ⟨j, by omega, rfl⟩
             simp [ht _ this]
           have hox : oddIx a = i := by unfold oddIx; rw [hall, if_neg (by simp), hfi]
           simp (config := { maxSteps := 3000000 }) [w2, hlt, r1, isfnodd, he, hp, hox]
       · rw [List.take_of_length_le (by omega)] at ht
         have hall : allPl a = true := by unfold allPl; rw [List.all_eq_true]; exact ht
         have hox : oddIx a = -1 := by unfold oddIx; rw [hall, if_pos rfl]
         simp (config := { maxSteps := 3000000 }) [hlt, hox]
   · cases h
 · cases h
noncomputable def GcfO : List AV → Option (Prop × AV)
 | [.pv (.ro a), .clo f []] => if f = 124 then (dec rowV a).map fun l => (l.length ≤ 1000000000, .pv (.bool (!allPl l))) else none
 | _ => none
@[simp] theorem GcfO_eq (a : List (List PV)) (f : FuncId) : GcfO [.pv (.ro a), .clo f []] = if f = 124 then (dec rowV a).map fun l => (l.length ≤ 1000000000, .pv (.bool (!allPl l))) else none := rfl
theorem c_cfO : ConT Try.prog 125 GcfO := by
 intro ys φ r h hφ
 unfold GcfO at h
 split at h
 · rename_i ra f
   split at h
   · rename_i hf
     subst hf
     obtain ⟨a, ha, h⟩ := Option.map_eq_some_iff.1 h
     cases h
     cases dec_rowsV_inv ha
     refine con_of (tab_cons c_ixO tab_nil) (by kernel_rfl) fn125 (by simp) ?_
     unfold body125
     have hq : decide (0 ≤ oddIx a) = !allPl a := by
       unfold oddIx
       cases hall : allPl a <;> simp
     simp (config := { maxSteps := 3000000 }) [hφ, hq]
   · cases h
 · cases h
def entVB (v : Vn) : List UInt8 := vputP v.n ++ vtext v.t
def entsVB (l : List Vn) : List UInt8 := l.flatMap entVB
def allVB (l : List Vn) : List UInt8 := vputP l.length ++ entsVB l
def putVt (l : List Vn) : List UInt8 × Int := if rightV l = true ∧ allPl l = true then (allVB l, 0) else ([], 2)
theorem vputP_lenW {n : Int} (h : 0 ≤ n ∧ n ≤ 18446744073709551615) : (vputP n).length ≤ 10 := vput_le10 (by omega)
theorem entVB_len {v : Vn} (h : okV v) (ht : v.t.length ≤ 1000000) : (entVB v).length ≤ 1000020 := by
 have h1 := vputP_lenW (n := v.n) ⟨h.1, h.2.1⟩
 have h2 := vput_le10 (n := v.t.length) (by omega)
 simp only [entVB, vtext, List.length_append]
 omega
theorem entsVB_len : ∀ {l : List Vn}, (∀ v ∈ l, okV v ∧ v.t.length ≤ 1000000) → (entsVB l).length ≤ 1000020 * l.length
 | [], _ => by simp [entsVB]
 | n :: l, h => by
   have h1 := entVB_len (h n (by simp)).1 (h n (by simp)).2
   have h2 := entsVB_len (l := l) fun m hm => h m (by simp [hm])
   unfold entsVB at h2 ⊢
   simp only [List.flatMap_cons, List.length_append, List.length_cons]
   omega
theorem entsVB_snoc (l : List Vn) (e : Vn) : entsVB (l ++ [e]) = entsVB l ++ entVB e := by simp [entsVB]
noncomputable def GputV : List AV → Option (Prop × AV)
 | [.pv (.ro a)] => (dec rowV a).map fun l => (l.length ≤ 1000 ∧ (∀ v ∈ l, okV v ∧ v.t.length ≤ 1000000), .tup [.fr 5 (bytesRow (putVt l).1), .pv (.int .i64 (putVt l).2)])
 | _ => none
@[simp] theorem GputV_eq (a : List (List PV)) : GputV [.pv (.ro a)] = (dec rowV a).map fun l => (l.length ≤ 1000 ∧ (∀ v ∈ l, okV v ∧ v.t.length ≤ 1000000), .tup [.fr 5 (bytesRow (putVt l).1), .pv (.int .i64 (putVt l).2)]) := rfl
theorem c_putV : ConT Try.prog 63 GputV := by
 intro ys φ r h hφ
 unfold GputV at h
 split at h
 · rename_i ra
   obtain ⟨a, ha, h⟩ := Option.map_eq_some_iff.1 h
   cases h
   cases dec_rowsV_inv ha
   obtain ⟨hl, hn⟩ := hφ
   refine con_of (tab_cons c_Rv (tab_cons c_cfO (tab_cons c_put (tab_cons c_text tab_nil)))) (by kernel_rfl) fn63 (by simp) ?_
   unfold body63
   have hl9 : a.length ≤ 1000000000 := by omega
   cases hr : rightV a with
   | false =>
     have hp : putVt a = ([], 2) := by simp [putVt, hr]
     simp (config := { maxSteps := 3000000 }) [hl9, hr, hp]
   | true =>
   cases hall : allPl a with
   | false =>
     have hp : putVt a = ([], 2) := by simp [putVt, hall]
     simp (config := { maxSteps := 3000000 }) [hl9, hr, hall, hp]
   | true =>
   have hp : putVt a = (allVB a, 0) := by simp [putVt, hr, hall]
   have wl : IntKind.u64.wrap (a.length : Int) = (a.length : Int) := wrap_u64 (by omega)
   have l0 : (0 : Int) ≤ (a.length : Int) := by omega
   have l1 : (a.length : Int) ≤ 18446744073709551615 := by omega
   have hv := vputP_lenW (n := (a.length : Int)) ⟨by omega, by omega⟩
   simp (config := { maxSteps := 3000000 }) [wl, l0, l1, hl9, hr, hall, hp]
   refine vwp_loop (fun i : Nat => i ≤ a.length) (fun i => ⟨[(5, .own 19), (20, .pv (.ro (rowsV a))), (21, .pv (.int .i64 a.length)), (22, .pv (.int .i64 i))], [(19, .arr 5 (bytesRow (vputP a.length ++ entsVB (a.take i))))]⟩) (fun i => a.length - i) [] 0 (by simp) ?_ ?_
   · simp [entsVB]
   · rintro i hi
     have w2 : IntKind.i64.wrap ((i : Int) + 1) = (i : Int) + 1 := wrap_i64 (by omega)
     by_cases hlt : i < a.length
     · have r1 := rowsV_at hlt
       have ho := hn _ (List.getElem_mem hlt)
       have h1 := entVB_len ho.1 ho.2
       have h2 := entsVB_len (l := a.take i) fun n h => hn n (List.mem_of_mem_take h)
       rw [List.length_take] at h2
       have h3 : (entVB a[i]).length = (vputP a[i].n).length + (vtext a[i].t).length := by simp [entVB]
       obtain ⟨⟨o1, o2, _, _⟩, hm6⟩ := ho
       simp (config := { maxSteps := 3000000 }) [w2, hlt, r1, maxLen_eq, o1, o2, hm6]
       refine ⟨⟨by omega, by omega, bytesRow_one _⟩, ⟨by omega, by omega, bytesRow_one _⟩, i + 1, by omega, ⟨by omega, ?_⟩, by omega⟩
       rw [List.take_succ_eq_append_getElem hlt, entsVB_snoc]
       simp only [bytesRow_append, entVB, List.append_assoc]
     · simp (config := { maxSteps := 3000000 }) [hlt]
       rw [List.take_of_length_le (by omega)]
       rfl
 · cases h
theorem plainB_iff (v : Vn) : plainB v = true ↔ (v.inl = true ∧ v.hid = false ∧ v.b = 0 ∧ v.p = 0 ∧ v.i = 0 ∧ v.s = 0 ∧ v.z = 0 ∧ v.m = 0) := by
 unfold plainB
 rw [decide_eq_true_eq, ← vn_eq]
 simp only [plainV]
 constructor
 · rintro ⟨_, h1, h2, h3, h4, h5, h6, _, h7, h8⟩
   exact ⟨h7, h8, h1, h2, h3, h4, h5, h6⟩
 · rintro ⟨h7, h8, h1, h2, h3, h4, h5, h6⟩
   exact ⟨trivial, h1, h2, h3, h4, h5, h6, trivial, h7, h8⟩
theorem c_rputV : ConT Try.prog 64 GputV := by
 intro ys φ r h hφ
 unfold GputV at h
 split at h
 · rename_i ra
   obtain ⟨a, ha, h⟩ := Option.map_eq_some_iff.1 h
   cases h
   cases dec_rowsV_inv ha
   obtain ⟨hl, hn⟩ := hφ
   refine con_of (tab_cons c_rRv (tab_cons c_rput (tab_cons c_rtext tab_nil))) (by kernel_rfl) fn64 (by simp) ?_
   unfold body64
   have hl9 : a.length ≤ 1000000000 := by omega
   have hov : ∀ v ∈ a, okV v := fun v hv => (hn v hv).1
   cases hr : rightV a with
   | false =>
     have hp : putVt a = ([], 2) := by simp [putVt, hr]
     simp (config := { maxSteps := 3000000 }) [hl9, hr, hp]
     exact hov
   | true =>
   have wl : IntKind.u64.wrap (a.length : Int) = (a.length : Int) := wrap_u64 (by omega)
   have l0 : (0 : Int) ≤ (a.length : Int) := by omega
   have l1 : (a.length : Int) ≤ 18446744073709551615 := by omega
   have hv := vputP_lenW (n := (a.length : Int)) ⟨by omega, by omega⟩
   simp (config := { maxSteps := 3000000 }) [wl, l0, l1, hl9, hr]
   refine ⟨hov, ?_⟩
   refine vwp_loop (fun i : Nat => i ≤ a.length ∧ ∀ v ∈ a.take i, plainB v = true) (fun i => ⟨[(0, .pv (.ro (rowsV a))), (4, .own 13), (5, .pv (.int .i64 i))], [(13, .arr 5 (bytesRow (vputP a.length ++ entsVB (a.take i))))]⟩) (fun i => a.length - i) [] 0 (by simp) ?_ ?_
   · simp [entsVB]
   · rintro i ⟨hi, ht⟩
     have w2 : IntKind.i64.wrap ((i : Int) + 1) = (i : Int) + 1 := wrap_i64 (by omega)
     by_cases hlt : i < a.length
     · have r1 := rowsV_at hlt
       cases hpl : plainB a[i] with
       | false =>
         have hall : allPl a = false := by
           unfold allPl; rw [List.all_eq_false]; exact ⟨a[i], List.getElem_mem hlt, by simp [hpl]⟩
         have hp : putVt a = ([], 2) := by simp [putVt, hall]
         have hnot : ¬ (a[i].inl = true ∧ a[i].hid = false ∧ a[i].b = 0 ∧ a[i].p = 0 ∧ a[i].i = 0 ∧ a[i].s = 0 ∧ a[i].z = 0 ∧ a[i].m = 0) := by
           rw [← plainB_iff, hpl]; simp
         cases e0 : a[i].inl with
         | false => simp (config := { maxSteps := 3000000 }) [hlt, r1, hp, e0]
         | true =>
         cases e1 : a[i].hid with
         | true => simp (config := { maxSteps := 3000000 }) [hlt, r1, hp, e0, e1]
         | false =>
         by_cases e2 : a[i].b = 0
         rotate_left
         · simp (config := { maxSteps := 3000000 }) [hlt, r1, hp, e0, e1, e2]
         by_cases e3 : a[i].p = 0
         rotate_left
         · simp (config := { maxSteps := 3000000 }) [hlt, r1, hp, e0, e1, e2, e3]
         by_cases e4 : a[i].i = 0
         rotate_left
         · simp (config := { maxSteps := 3000000 }) [hlt, r1, hp, e0, e1, e2, e3, e4]
         by_cases e5 : a[i].s = 0
         rotate_left
         · simp (config := { maxSteps := 3000000 }) [hlt, r1, hp, e0, e1, e2, e3, e4, e5]
         by_cases e6 : a[i].z = 0
         rotate_left
         · simp (config := { maxSteps := 3000000 }) [hlt, r1, hp, e0, e1, e2, e3, e4, e5, e6]
         by_cases e7 : a[i].m = 0
         rotate_left
         · simp (config := { maxSteps := 3000000 }) [hlt, r1, hp, e0, e1, e2, e3, e4, e5, e6, e7]
         exact absurd ⟨e0, e1, e2, e3, e4, e5, e6, e7⟩ hnot
       | true =>
         obtain ⟨e1, e2, e3, e4, e5, e6, e7, e8⟩ := (plainB_iff _).1 hpl
         have ho := hn _ (List.getElem_mem hlt)
         have h1 := entVB_len ho.1 ho.2
         have h2 := entsVB_len (l := a.take i) fun n h => hn n (List.mem_of_mem_take h)
         rw [List.length_take] at h2
         have h3 : (entVB a[i]).length = (vputP a[i].n).length + (vtext a[i].t).length := by simp [entVB]
         obtain ⟨⟨o1, o2, _, _⟩, hm6⟩ := ho
         simp (config := { maxSteps := 3000000 }) [w2, hlt, r1, maxLen_eq, o1, o2, hm6, e1, e2, e3, e4, e5, e6, e7, e8]
         refine ⟨⟨by omega, by omega, bytesRow_one _⟩, ⟨by omega, by omega, bytesRow_one _⟩, i + 1, ⟨by omega, fun v hv => ?_⟩, ⟨by omega, ?_⟩, by omega⟩
         · rw [List.take_succ_eq_append_getElem hlt, List.mem_append] at hv
           rcases hv with hv | hv
           · exact ht v hv
           · rw [List.mem_singleton] at hv; rw [hv]; exact hpl
         · rw [List.take_succ_eq_append_getElem hlt, entsVB_snoc]
           simp only [bytesRow_append, entVB, List.append_assoc]
     · rw [List.take_of_length_le (by omega)] at ht
       have hall : allPl a = true := by unfold allPl; rw [List.all_eq_true]; exact ht
       have hp : putVt a = (allVB a, 0) := by simp [putVt, hr, hall]
       simp (config := { maxSteps := 3000000 }) [hlt, hp]
       rw [List.take_of_length_le (by omega)]
       rfl
 · cases h
end Go.Proofs.Ytfpmjcdcpicmaaa.Ab
namespace Go.Proofs.Ytfpmjcdcpicmaaa.Ab
open Go Go.RowKit R
set_option linter.unusedVariables false
set_option linter.unusedSimpArgs false
set_option maxHeartbeats 40000000
set_option maxRecDepth 100000
theorem takeT_okW (b : List UInt8) (q : Int) : ((takeT b q).2.2 = 0 → 0 ≤ q ∧ q < (takeT b q).2.1 ∧ (takeT b q).2.1 ≤ b.length) ∧ ((takeT b q).2.2 ≠ 0 → (takeT b q).2.1 = q) := by
 obtain ⟨h1, h2, h3, h4, _⟩ := takeL_ok b q
 unfold takeT
 split
 · rename_i h; exact ⟨fun h' => absurd h' h, fun _ => rfl⟩
 · rename_i h
   have h0 : (takeL b q).2.2 = 0 := by simpa using h
   obtain ⟨g1, g2, g3⟩ := h1 h0
   split
   · exact ⟨fun h' => by simp at h', fun _ => rfl⟩
   · rename_i h'
     refine ⟨fun _ => ?_, fun h => absurd rfl h⟩
     dsimp only
     omega
def takeV1 (b : List UInt8) (q : Int) : Vn × Int × Int :=
 if (takeL b q).2.2 ≠ 0 then (v0, 0, (takeL b q).2.2) else
   if (takeT b (takeL b q).2.1).2.2 ≠ 0 then (v0, 0, (takeT b (takeL b q).2.1).2.2) else
     (plainV (takeL b q).1 (takeT b (takeL b q).2.1).1, (takeT b (takeL b q).2.1).2.1, 0)
def takeVG (b : List UInt8) : Nat → Int → Int → List Vn × Int × Int
 | 0, _, q => ([], q, 0)
 | f + 1, n, q => if n ≤ 0 then ([], q, 0) else if (takeV1 b q).2.2 ≠ 0 then ([], 0, (takeV1 b q).2.2) else
     if (takeVG b f (n - 1) (takeV1 b q).2.1).2.2 ≠ 0 then ([], 0, (takeVG b f (n - 1) (takeV1 b q).2.1).2.2)
     else ((takeV1 b q).1 :: (takeVG b f (n - 1) (takeV1 b q).2.1).1, (takeVG b f (n - 1) (takeV1 b q).2.1).2.1, 0)
def finV (b : List UInt8) (R : List Vn × Int × Int) : List Vn × Int := if R.2.2 ≠ 0 then ([], R.2.2) else if R.2.1 = b.length ∧ rightV R.1 = true then (R.1, 0) else ([], 2)
def parseV (b : List UInt8) : List Vn × Int := if (takeL b 0).2.2 ≠ 0 then ([], (takeL b 0).2.2) else finV b (takeVG b (b.length + 1) (takeL b 0).1 (takeL b 0).2.1)
def aheadV (L : List Vn) (q : List Vn × Int × Int) : List Vn × Int × Int := if q.2.2 ≠ 0 then ([], 0, q.2.2) else (L ++ q.1, q.2.1, 0)
theorem takeVG_form (b : List UInt8) : ∀ (k : Nat) (n p : Int), (takeVG b k n p).2.2 ≠ 0 → takeVG b k n p = ([], 0, (takeVG b k n p).2.2)
 | 0, n, p, h => absurd rfl h
 | k + 1, n, p, h => by
   unfold takeVG at h ⊢
   split
   · rename_i h0; rw [if_pos h0] at h; exact absurd rfl h
   · rename_i h0
     rw [if_neg h0] at h
     split
     · rfl
     · split
       · rfl
       · rename_i h1 h2
         rw [if_neg h1, if_neg h2] at h
         exact absurd rfl h
theorem aheadV_nil (b : List UInt8) (k : Nat) (n p : Int) : aheadV [] (takeVG b k n p) = takeVG b k n p := by
 unfold aheadV
 split
 · rename_i h; exact (takeVG_form b k n p h).symm
 · rename_i h
   have : (takeVG b k n p).2.2 = 0 := by simpa using h
   rw [← this]; rfl
theorem aheadV_step (b : List UInt8) (L : List Vn) (k : Nat) (n p : Int) (hn : 0 < n) (h : (takeV1 b p).2.2 = 0) : aheadV L (takeVG b (k + 1) n p) = aheadV (L ++ [(takeV1 b p).1]) (takeVG b k (n - 1) (takeV1 b p).2.1) := by
 rw [takeVG, if_neg (by omega), if_neg (by simpa using h)]
 by_cases h2 : (takeVG b k (n - 1) (takeV1 b p).2.1).2.2 = 0
 · rw [if_neg (by simpa using h2)]
   simp [aheadV, h2]
 · rw [if_pos h2]
   simp [aheadV, h2]
theorem aheadV_err (b : List UInt8) (L : List Vn) (k : Nat) (n p : Int) (hn : 0 < n) (h : (takeV1 b p).2.2 ≠ 0) : aheadV L (takeVG b (k + 1) n p) = ([], 0, (takeV1 b p).2.2) := by
 rw [takeVG, if_neg (by omega), if_pos h]
 simp [aheadV, h]
theorem aheadV_end (b : List UInt8) (L : List Vn) (k : Nat) (n p : Int) (hn : n ≤ 0) : aheadV L (takeVG b k n p) = (L, p, 0) := by
 cases k with
 | zero => simp [takeVG, aheadV]
 | succ k => rw [takeVG, if_pos hn]; simp [aheadV]
noncomputable def GVpar (e : TypeId) : List AV → Option (Prop × AV)
 | [.pv (.ro b)] => (dec byteR b).map fun l => (l.length ≤ 100000000, .tup [.fr e (rowsV (parseV l).1), .pv (.int .i64 (parseV l).2)])
 | _ => none
@[simp] theorem GVpar_eq (e : TypeId) (b : List (List PV)) : GVpar e [.pv (.ro b)] = (dec byteR b).map fun l => (l.length ≤ 100000000, .tup [.fr e (rowsV (parseV l).1), .pv (.int .i64 (parseV l).2)]) := rfl
theorem c_rVpar : ConT Try.prog 66 (GVpar 75) := by
 intro ys φ r h hφ
 unfold GVpar at h
 split at h
 · rename_i rb
   obtain ⟨b, hb, h⟩ := Option.map_eq_some_iff.1 h
   cases h
   cases dec_bytes_inv hb
   have hl : b.length ≤ 1000000000 := by omega
   refine con_of (tab_cons c_rtake (tab_cons (rtakeT_of c_rtake) (tab_cons c_rRv tab_nil))) (by kernel_rfl) fn66 (by simp) ?_
   unfold body66
   by_cases he : (takeL b 0).2.2 = 0
   · have hT : parseV b = finV b (takeVG b (b.length + 1) (takeL b 0).1 (takeL b 0).2.1) := by
       unfold parseV; rw [if_neg (by simpa using he)]
     obtain ⟨k1, k2, k3, k4, k5⟩ := takeL_ok b 0
     obtain ⟨j1, j2, j3⟩ := k1 he
     generalize hP : parseV b = T at *
     simp (config := { maxSteps := 3000000 }) [hl, he]
     generalize (takeL b 0).1 = n at *
     generalize (takeL b 0).2.1 = q0 at *
     refine vwp_loop (fun x : Nat × Int × List Vn => (x.2.2.length : Int) ≤ n ∧ 0 ≤ x.2.1 ∧ x.2.1 ≤ b.length ∧ (b.length : Int) < x.1 + x.2.1 ∧ x.2.2.length ≤ x.2.1 ∧ T = finV b (aheadV x.2.2 (takeVG b x.1 (n - x.2.2.length) x.2.1)) ∧ ∀ v ∈ x.2.2, okV v)
       (fun x => ⟨[(0, .pv (.ro (bytesRow b))), (4, .pv (.int .u64 n)), (5, .pv (.int .i64 x.2.1)), (7, .own 7)], [(7, .arr 75 (rowsV x.2.2))]⟩) (fun x => (b.length - x.2.1).toNat) [] (b.length + 1, q0, []) ?_ ?_ ?_
     · exact ⟨by simpa using k2, by show 0 ≤ q0; omega, j3, by simp; omega, by simp; omega, by rw [aheadV_nil]; simpa using hT, fun v hv => by cases hv⟩
     · simp
     · rintro ⟨f, q, acc⟩ ⟨hn, hq0, hq1, hf, hacc, hG, hokv⟩
       dsimp only at hn hq0 hq1 hf hacc hG hokv
       have wl : IntKind.u64.wrap (acc.length : Int) = (acc.length : Int) := wrap_u64 (by omega)
       have hq2 : -9223372036854775808 ≤ q := by omega
       have hq3 : q ≤ 9223372036854775807 := by omega
       by_cases hlt : (acc.length : Int) < n
       · obtain ⟨f, rfl⟩ : ∃ g, f = g + 1 := ⟨f - 1, by omega⟩
         obtain ⟨t1, t2, t2b, t2c, t2d⟩ := takeL_ok b q
         by_cases h0 : (takeL b q).2.2 = 0
         · obtain ⟨t3, t4, t5⟩ := t1 h0
           obtain ⟨l1, l2⟩ := takeT_okW b (takeL b q).2.1
           have hq4 : -9223372036854775808 ≤ (takeL b q).2.1 := by omega
           have hq5 : (takeL b q).2.1 ≤ 9223372036854775807 := by omega
           by_cases h1 : (takeT b (takeL b q).2.1).2.2 = 0
           · obtain ⟨l6, l7, l8⟩ := l1 h1
             have hE : takeV1 b q = (plainV (takeL b q).1 (takeT b (takeL b q).2.1).1, (takeT b (takeL b q).2.1).2.1, 0) := by
               unfold takeV1; rw [if_neg (by simpa using h0), if_neg (by simpa using h1)]
             rw [aheadV_step b acc f (n - acc.length) q (by omega) (by rw [hE]), hE] at hG
             simp (config := { maxSteps := 3000000 }) [wl, hlt, hl, hq2, hq3, hq4, hq5, h0, h1, maxLen_eq]
             refine ⟨by omega, f, (takeT b (takeL b q).2.1).2.1, acc ++ [plainV (takeL b q).1 (takeT b (takeL b q).2.1).1], ?_⟩
             have hlen : ((acc ++ [(plainV (takeL b q).1 (takeT b (takeL b q).2.1).1)]).length : Int) = acc.length + 1 := by simp
             have hi : n - ((acc ++ [(plainV (takeL b q).1 (takeT b (takeL b q).2.1).1)]).length : Int) = n - acc.length - 1 := by omega
             refine ⟨⟨by omega, by omega, l8, by omega, by omega, by rw [hi]; exact hG, fun v hv => by
               rcases List.mem_append.1 hv with hv | hv
               · exact hokv v hv
               · rw [List.mem_singleton] at hv; subst hv; exact ⟨t2, t2b, Int.le_refl 0, by show (0 : Int) ≤ 18446744073709551615; decide⟩⟩, ⟨rfl, ?_⟩, by omega⟩
             rw [rowsV_append]; rfl
           · have hE : takeV1 b q = (v0, 0, (takeT b (takeL b q).2.1).2.2) := by
               unfold takeV1; rw [if_neg (by simpa using h0), if_pos h1]
             rw [aheadV_err b acc f _ q (by omega) (by rw [hE]; exact h1), hE] at hG
             have hTe : T = ([], (takeT b (takeL b q).2.1).2.2) := by rw [hG]; simp [finV, h1]
             simp (config := { maxSteps := 3000000 }) [wl, hlt, hl, hq2, hq3, hq4, hq5, h0, h1, hTe]
         · have hE : takeV1 b q = (v0, 0, (takeL b q).2.2) := by unfold takeV1; rw [if_pos h0]
           rw [aheadV_err b acc f _ q (by omega) (by rw [hE]; exact h0), hE] at hG
           have hTe : T = ([], (takeL b q).2.2) := by rw [hG]; simp [finV, h0]
           simp (config := { maxSteps := 3000000 }) [wl, hlt, hl, hq2, hq3, h0, hTe]
       · have hle : n - acc.length ≤ 0 := by omega
         rw [aheadV_end b acc f _ q hle] at hG
         have ha9 : acc.length ≤ 1000000000 := by omega
         by_cases hqb : q = b.length
         · cases hrs : rightV acc with
           | false =>
             have hTe : T = ([], 2) := by rw [hG]; simp [finV, hrs]
             simp (config := { maxSteps := 3000000 }) [wl, hlt, ha9, hrs, hqb, hTe]
             try exact hokv
           | true =>
             have hTe : T = (acc, 0) := by rw [hG]; simp [finV, hrs, hqb]
             simp (config := { maxSteps := 3000000 }) [wl, hlt, ha9, hrs, hqb, hTe]
             try exact hokv
         · have hTe : T = ([], 2) := by rw [hG]; simp [finV, hqb]
           simp (config := { maxSteps := 3000000 }) [wl, hlt, ha9, hqb, hTe]
           try exact hokv
   · have hT : parseV b = ([], (takeL b 0).2.2) := by unfold parseV; rw [if_pos he]
     simp (config := { maxSteps := 3000000 }) [hl, he, hT]
 · cases h
theorem c_Vpar : ConT Try.prog 65 (GVpar 70) := by
 intro ys φ r h hφ
 unfold GVpar at h
 split at h
 · rename_i rb
   obtain ⟨b, hb, h⟩ := Option.map_eq_some_iff.1 h
   cases h
   cases dec_bytes_inv hb
   have hl : b.length ≤ 1000000000 := by omega
   refine con_of (tab_cons c_take (tab_cons c_takeT (tab_cons c_Rv tab_nil))) (by kernel_rfl) fn65 (by simp) ?_
   unfold body65
   obtain ⟨k1, k2, k3, k4, k5⟩ := takeL_ok b 0
   have hT1 : (takeL b 0).2.2 = 0 → parseV b = finV b (takeVG b (b.length + 1) (takeL b 0).1 (takeL b 0).2.1) := fun h => by
     unfold parseV; rw [if_neg (by simpa using h)]
   have hT2 : (takeL b 0).2.2 ≠ 0 → parseV b = ([], (takeL b 0).2.2) := fun h => by unfold parseV; rw [if_pos h]
   generalize hP : parseV b = T at *
   simp (config := { maxSteps := 3000000 }) [hl]
   generalize (takeL b 0).1 = n at *
   generalize (takeL b 0).2.1 = q0 at *
   generalize (takeL b 0).2.2 = e0 at *
   refine vwp_loop (fun x : Nat × Int × List Vn × Int × Int => 0 ≤ x.2.2.2.1 ∧ x.2.2.2.1 ≤ n ∧
       (x.2.2.2.2 = 0 → T = finV b (aheadV x.2.2.1 (takeVG b x.1 (n - x.2.2.2.1) x.2.1)) ∧ 0 ≤ x.2.1 ∧ x.2.1 ≤ b.length ∧ (b.length : Int) < x.1 + x.2.1 ∧ (x.2.2.1.length : Int) ≤ x.2.1) ∧ (x.2.2.2.2 ≠ 0 → T = ([], x.2.2.2.2)))
     (fun x => ⟨[(0, .pv (.ro (bytesRow b))), (4, .pv (.int .u64 n)), (5, .pv (.int .i64 x.2.1)), (6, .pv (.int .i64 x.2.2.2.2)), (7, .own 7), (8, .pv (.int .u64 x.2.2.2.1))], [(7, .arr 70 (rowsV x.2.2.1))]⟩)
     (fun x => if x.2.2.2.2 = 0 then (b.length - x.2.1).toNat + 1 else 0) [] (b.length + 1, q0, [], 0, e0) ?_ ?_ ?_
   · refine ⟨by show (0 : Int) ≤ 0; omega, k2, fun h => ⟨?_, ?_⟩, hT2⟩
     · rw [aheadV_nil]; simpa using hT1 h
     · have := k1 h
       exact ⟨by show 0 ≤ q0; omega, by show q0 ≤ b.length; omega, by show (b.length : Int) < (b.length + 1 : Nat) + q0; omega, by show (0 : Int) ≤ q0; omega⟩
   · simp
   · rintro ⟨f, q, acc, m, e⟩ ⟨hm0, hm1, hz, hnz⟩
     dsimp only at hm0 hm1 hz hnz
     by_cases he : e = 0
     · subst he
       obtain ⟨hG, g1, g2, g3, g4⟩ := hz rfl
       clear hz hnz
       have hacc : acc.length ≤ 1000000000 := by omega
       have hq2 : -9223372036854775808 ≤ q := by omega
       have hq3 : q ≤ 9223372036854775807 := by omega
       by_cases hlt : m < n
       · obtain ⟨f, rfl⟩ : ∃ g, f = g + 1 := ⟨f - 1, by omega⟩
         have wl : IntKind.u64.wrap (m + 1) = m + 1 := wrap_u64 (by omega)
         obtain ⟨t1, t2, t2b, t2c, t2d⟩ := takeL_ok b q
         by_cases h0 : (takeL b q).2.2 = 0
         · obtain ⟨t3, t4, t5⟩ := t1 h0
           obtain ⟨l1, l2⟩ := takeT_okW b (takeL b q).2.1
           have hq4 : -9223372036854775808 ≤ (takeL b q).2.1 := by omega
           have hq5 : (takeL b q).2.1 ≤ 9223372036854775807 := by omega
           by_cases h1 : (takeT b (takeL b q).2.1).2.2 = 0
           · obtain ⟨l6, l7, l8⟩ := l1 h1
             have hE : takeV1 b q = (plainV (takeL b q).1 (takeT b (takeL b q).2.1).1, (takeT b (takeL b q).2.1).2.1, 0) := by
               unfold takeV1; rw [if_neg (by simpa using h0), if_neg (by simpa using h1)]
             rw [aheadV_step b acc f (n - m) q (by omega) (by rw [hE]), hE] at hG
             simp (config := { maxSteps := 3000000 }) [wl, hlt, hl, hq2, hq3, hq4, hq5, h0, h1, maxLen_eq]
             refine ⟨⟨by omega, by omega⟩, f, (takeT b (takeL b q).2.1).2.1, acc ++ [plainV (takeL b q).1 (takeT b (takeL b q).2.1).1], m + 1, 0, ⟨by omega, by omega, fun _ => ⟨by rw [show n - (m + 1) = n - m - 1 from by omega]; exact hG, by omega, l8, by omega, by simp; omega⟩, fun h => absurd rfl h⟩, ⟨⟨rfl, rfl, rfl⟩, by rw [rowsV_append]; rfl⟩, ?_⟩
             rw [if_pos rfl]; omega
           · have hE : takeV1 b q = (v0, 0, (takeT b (takeL b q).2.1).2.2) := by
               unfold takeV1; rw [if_neg (by simpa using h0), if_pos h1]
             rw [aheadV_err b acc f _ q (by omega) (by rw [hE]; exact h1), hE] at hG
             have hTe : T = ([], (takeT b (takeL b q).2.1).2.2) := by rw [hG]; simp [finV, h1]
             simp (config := { maxSteps := 3000000 }) [wl, hlt, hl, hq2, hq3, hq4, hq5, h0, h1, hTe, maxLen_eq]
             refine ⟨⟨by omega, by omega⟩, f, (takeT b (takeL b q).2.1).2.1, acc ++ [plainV (takeL b q).1 (takeT b (takeL b q).2.1).1], m + 1, (takeT b (takeL b q).2.1).2.2, ⟨by omega, by omega, fun h => absurd h h1, fun _ => rfl⟩, ⟨⟨rfl, rfl, rfl⟩, by rw [rowsV_append]; rfl⟩, ?_⟩
             rw [if_neg h1]; omega
         · have hE : takeV1 b q = (v0, 0, (takeL b q).2.2) := by unfold takeV1; rw [if_pos h0]
           rw [aheadV_err b acc f _ q (by omega) (by rw [hE]; exact h0), hE] at hG
           have hTe : T = ([], (takeL b q).2.2) := by rw [hG]; simp [finV, h0]
           simp (config := { maxSteps := 3000000 }) [wl, hlt, hl, hq2, hq3, h0, hTe]
       · rw [aheadV_end b acc f _ q (by omega)] at hG
         by_cases hqb : q = b.length
         · cases hrs : rightV acc with
           | false =>
             have hTe : T = ([], 2) := by rw [hG]; simp [finV, hrs]
             simp (config := { maxSteps := 3000000 }) [hlt, hacc, hrs, hqb, hTe]
           | true =>
             have hTe : T = (acc, 0) := by rw [hG]; simp [finV, hrs, hqb]
             simp (config := { maxSteps := 3000000 }) [hlt, hacc, hrs, hqb, hTe]
         · have hTe : T = ([], 2) := by rw [hG]; simp [finV, hqb]
           simp (config := { maxSteps := 3000000 }) [hlt, hacc, hqb, hTe]
     · have hTe := hnz he
       simp (config := { maxSteps := 3000000 }) [he, hTe]
 · cases h
end Go.Proofs.Ytfpmjcdcpicmaaa.Ab
namespace Go.Proofs.Ytfpmjcdcpicmaaa.Ab
open Go Go.RowKit R
set_option linter.unusedVariables false
set_option linter.unusedSimpArgs false
set_option maxHeartbeats 4000000
set_option maxRecDepth 100000
def okW (v : Vn) : Prop := okV v ∧ plainB v = true
theorem entVB_pos (e : Vn) : 0 < (entVB e).length := by
 have := vput_pos e.n.toNat
 unfold entVB vputP
 simp only [List.length_append]
 omega
theorem entsVB_pos : ∀ l : List Vn, l.length ≤ (entsVB l).length
 | [] => by simp
 | e :: l => by
   have h1 := entVB_pos e
   have h2 := entsVB_pos l
   unfold entsVB at h2 ⊢
   simp only [List.flatMap_cons, List.length_append, List.length_cons]
   omega
theorem plain_eq {v : Vn} (h : plainB v = true) : plainV v.n v.t = v := by
 unfold plainB at h
 rw [decide_eq_true_eq] at h
 exact h.symm
theorem takeV1_put {b r : List UInt8} {p : Nat} {e : Vn} (h : b.drop p = entVB e ++ r) (hi : okW e) (hn : e.t.length < 2 ^ 64) : takeV1 b (p : Int) = (e, ((p + (entVB e).length : Nat) : Int), 0) := by
 obtain ⟨⟨i1, i2, _, _⟩, hpl⟩ := hi
 unfold entVB at h
 rw [List.append_assoc] at h
 have hL := takeL_vput (p := p) (n := e.n.toNat) h (by omega)
 have hd : b.drop (p + (vput e.n.toNat).length) = vtext e.t ++ r := by
   rw [← List.drop_drop, h]; unfold vputP; rw [List.drop_left]
 have hT := takeT_vtext hd hn
 have e1 : (p : Int) + ((vput e.n.toNat).length : Int) = ((p + (vput e.n.toNat).length : Nat) : Int) := by omega
 have e2 : ((e.n.toNat : Nat) : Int) = e.n := by omega
 rw [e1, e2] at hL
 unfold takeV1
 rw [hL]
 dsimp only
 rw [hT, if_neg (by simp), if_neg (by simp), plain_eq hpl]
 simp only [Prod.mk.injEq, and_true, true_and]
 have e3 : (entVB e).length = (vput e.n.toNat).length + (vtext e.t).length := by simp [entVB, vputP]
 rw [e3]
 omega
theorem takeVG_put {b : List UInt8} : ∀ (l : List Vn) (f p : Nat) (r : List UInt8), b.drop p = entsVB l ++ r → (∀ e ∈ l, okW e ∧ e.t.length < 2 ^ 64) → l.length ≤ f → takeVG b f l.length (p : Int) = (l, ((p + (entsVB l).length : Nat) : Int), 0)
 | [], f, p, r, _, _, _ => by
   cases f with
   | zero => simp [takeVG, entsVB]
   | succ f => rw [takeVG, if_pos (by simp)]; simp [entsVB]
 | e :: l, f, p, r, h, hn, hf => by
   obtain ⟨f, rfl⟩ : ∃ g, f = g + 1 := ⟨f - 1, by simp at hf; omega⟩
   obtain ⟨o1, o2⟩ := hn e (by simp)
   have hc : entsVB (e :: l) = entVB e ++ entsVB l := by simp [entsVB]
   rw [hc, List.append_assoc] at h
   have hE := takeV1_put h o1 o2
   have hd : b.drop (p + (entVB e).length) = entsVB l ++ r := by rw [← List.drop_drop, h, List.drop_left]
   have ih := takeVG_put l f _ r hd (fun m hm => hn m (by simp [hm])) (by simp at hf; omega)
   have hlen : (((e :: l).length : Nat) : Int) - 1 = (l.length : Int) := by simp
   rw [takeVG, if_neg (by simp only [List.length_cons]; omega), hE]
   dsimp only
   rw [hlen, ih, if_neg (by simp), if_neg (by simp), hc]
   simp only [List.length_append, Prod.mk.injEq, true_and, and_true]
   omega
theorem parse_putV {l : List Vn} (hr : rightV l = true) (hn : ∀ e ∈ l, okW e ∧ e.t.length < 2 ^ 64) (hl : l.length < 2 ^ 64) : parseV (allVB l) = (l, 0) := by
 have hv : vputP (l.length : Int) = vput l.length := by unfold vputP; rw [Int.toNat_natCast]
 have h0 : (allVB l).drop 0 = vput l.length ++ entsVB l := by rw [List.drop_zero, allVB, hv]
 have hL := takeL_vput (p := 0) h0 hl
 have hd : (allVB l).drop (vput l.length).length = entsVB l ++ [] := by rw [allVB, hv, List.drop_left, List.append_nil]
 have hlen : (allVB l).length = (vput l.length).length + (entsVB l).length := by rw [allVB, hv, List.length_append]
 have hp := entsVB_pos l
 have hG := takeVG_put l ((allVB l).length + 1) _ [] hd hn (by omega)
 have e1 : ((0 : Nat) : Int) + ((vput l.length).length : Int) = (((vput l.length).length : Nat) : Int) := by omega
 rw [e1] at hL
 unfold parseV
 rw [show (0 : Int) = ((0 : Nat) : Int) from rfl, hL, if_neg (by simp)]
 dsimp only
 rw [hG]
 unfold finV
 rw [if_neg (by simp), if_pos ⟨by rw [hlen], hr⟩]
 rfl
theorem takeT_inv {b : List UInt8} {q : Int} (h : (takeT b q).2.2 = 0) : ∃ k : Nat, q = (k : Int) ∧ (takeT b q).2.1 = ((k + (vtext (takeT b q).1).length : Nat) : Int) ∧ ∃ r, b.drop k = vtext (takeT b q).1 ++ r := by
 by_cases h1 : (takeL b q).2.2 = 0
 · obtain ⟨k, m, rfl, hm, hm2, hq, r, hr⟩ := take_pre h1
   have hp := vput_pos m
   have hl := (drop_len hr (by simp; omega)).2
   simp only [List.length_append] at hl
   by_cases h2 : (b.length : Int) - (takeL b (k : Int)).2.1 < (takeL b (k : Int)).1
   · unfold takeT at h
     rw [if_neg (by simpa using h1), if_pos h2] at h
     cases h
   · have hT : takeT b (k : Int) = (r.take m, ((k + (vput m).length : Nat) : Int) + (m : Int), 0) := by
       unfold takeT
       rw [if_neg (by simpa using h1), if_neg h2, hm, hq]
       have hd : b.drop (k + (vput m).length) = r := by rw [← List.drop_drop, hr, List.drop_left]
       rw [Int.toNat_natCast, Int.toNat_natCast, hd]
     rw [hm, hq] at h2
     have hrm : m ≤ r.length := by omega
     have hvt : vtext (r.take m) = vput m ++ r.take m := by unfold vtext; rw [List.length_take, Nat.min_eq_left hrm]
     rw [hT]
     dsimp only
     refine ⟨k, rfl, ?_, r.drop m, ?_⟩
     · rw [hvt, List.length_append, List.length_take, Nat.min_eq_left hrm]; omega
     · rw [hvt, List.append_assoc, List.take_append_drop, hr]
 · unfold takeT at h
   rw [if_pos h1] at h
   exact absurd h h1
theorem takeV1_inv {b : List UInt8} {q : Int} (h : (takeV1 b q).2.2 = 0) : ∃ k : Nat, q = (k : Int) ∧ (takeV1 b q).2.1 = ((k + (entVB (takeV1 b q).1).length : Nat) : Int) ∧ okW (takeV1 b q).1 ∧ ∃ r, b.drop k = entVB (takeV1 b q).1 ++ r := by
 by_cases h1 : (takeL b q).2.2 = 0
 · by_cases h2 : (takeT b (takeL b q).2.1).2.2 = 0
   · have hE : takeV1 b q = (plainV (takeL b q).1 (takeT b (takeL b q).2.1).1, (takeT b (takeL b q).2.1).2.1, 0) := by
       unfold takeV1; rw [if_neg (by simpa using h1), if_neg (by simpa using h2)]
     obtain ⟨k, m, rfl, hm, hm2, hq, r, hr⟩ := take_pre h1
     obtain ⟨k2, hk2, ht, r2, hr2⟩ := takeT_inv h2
     rw [hq] at hk2
     have hk : k2 = k + (vput m).length := by omega
     have hb : entVB (plainV (takeL b (k : Int)).1 (takeT b (takeL b (k : Int)).2.1).1) = vput m ++ vtext (takeT b (takeL b (k : Int)).2.1).1 := by
       unfold entVB vputP plainV; dsimp only; rw [hm, Int.toNat_natCast]
     rw [hE]
     dsimp only
     rw [hb]
     refine ⟨k, rfl, ?_, ⟨⟨?_, ?_, Int.le_refl 0, ?_⟩, ?_⟩, r2, ?_⟩
     · rw [ht, hk, List.length_append]; congr 1; omega
     · show 0 ≤ (takeL b (k : Int)).1; omega
     · show (takeL b (k : Int)).1 ≤ 18446744073709551615; omega
     · show (0 : Int) ≤ 18446744073709551615; decide
     · simp [plainB, plainV]
     · have hd : b.drop k2 = r := by rw [hk, ← List.drop_drop, hr, List.drop_left]
       rw [hr2] at hd
       rw [List.append_assoc, hd, hr]
   · unfold takeV1 at h
     rw [if_neg (by simpa using h1), if_pos h2] at h
     exact absurd h h2
 · unfold takeV1 at h
   rw [if_pos h1] at h
   exact absurd h h1
theorem takeVG_inv {b : List UInt8} : ∀ (f : Nat) (n : Int) (k : Nat), (takeVG b f n (k : Int)).2.2 = 0 → 0 ≤ n → k ≤ b.length → b.length < f + k →
   ((takeVG b f n (k : Int)).1.length : Int) = n ∧ (takeVG b f n (k : Int)).2.1 = ((k + (entsVB (takeVG b f n (k : Int)).1).length : Nat) : Int) ∧ (∀ e ∈ (takeVG b f n (k : Int)).1, okW e) ∧ ∃ r, b.drop k = entsVB (takeVG b f n (k : Int)).1 ++ r
 | 0, n, k, h, hn, hk, hf => by omega
 | f + 1, n, k, h, hn, hk, hf => by
   by_cases h0 : n ≤ 0
   · have hC : takeVG b (f + 1) n (k : Int) = ([], (k : Int), 0) := by rw [takeVG, if_pos h0]
     rw [hC]
     refine ⟨by simp; omega, by simp [entsVB], fun e he => (by cases he), b.drop k, by simp [entsVB]⟩
   · by_cases h1 : (takeV1 b (k : Int)).2.2 = 0
     · by_cases h2 : (takeVG b f (n - 1) (takeV1 b (k : Int)).2.1).2.2 = 0
       · have hC : takeVG b (f + 1) n (k : Int) = ((takeV1 b (k : Int)).1 :: (takeVG b f (n - 1) (takeV1 b (k : Int)).2.1).1, (takeVG b f (n - 1) (takeV1 b (k : Int)).2.1).2.1, 0) := by
           rw [takeVG, if_neg h0, if_neg (by simpa using h1), if_neg (by simpa using h2)]
         obtain ⟨k', hk', he, ho, r, hr⟩ := takeV1_inv h1
         have : k' = k := by omega
         subst this
         have hp := entVB_pos (takeV1 b (k' : Int)).1
         have hl := (drop_len hr (by simp; omega)).2
         simp only [List.length_append] at hl
         rw [he] at h2 hC
         obtain ⟨g1, g2, g3, r2, g4⟩ := takeVG_inv f (n - 1) _ h2 (by omega) (by omega) (by omega)
         rw [hC]
         generalize takeVG b f (n - 1) _ = R at *
         generalize takeV1 b (k' : Int) = E at *
         have hc : entsVB (E.1 :: R.1) = entVB E.1 ++ entsVB R.1 := by simp [entsVB]
         dsimp only
         rw [hc]
         refine ⟨by simp; omega, ?_, fun e hh => ?_, r2, ?_⟩
         · rw [g2, List.length_append]; congr 1; omega
         · rcases List.mem_cons.1 hh with rfl | hh
           · exact ho
           · exact g3 e hh
         · have hd : b.drop (k' + (entVB E.1).length) = r := by rw [← List.drop_drop, hr, List.drop_left]
           rw [g4] at hd
           rw [List.append_assoc, hd, hr]
       · rw [takeVG, if_neg h0, if_neg (by simpa using h1), if_pos h2] at h
         exact absurd h h2
     · rw [takeVG, if_neg h0, if_pos h1] at h
       exact absurd h h1
theorem put_parseV {b : List UInt8} (h : (parseV b).2 = 0) : rightV (parseV b).1 = true ∧ allVB (parseV b).1 = b ∧ (∀ e ∈ (parseV b).1, okW e) ∧ (parseV b).1.length ≤ b.length := by
 by_cases h0 : (takeL b 0).2.2 = 0
 · have hP : parseV b = finV b (takeVG b (b.length + 1) (takeL b 0).1 (takeL b 0).2.1) := by unfold parseV; rw [if_neg (by simpa using h0)]
   obtain ⟨k, m, hk, hm, hm2, hq, r, hr⟩ := take_pre h0
   have : k = 0 := by omega
   subst this
   rw [List.drop_zero] at hr
   have hbl := congrArg List.length hr
   simp only [List.length_append] at hbl
   have e1 : ((0 + (vput m).length : Nat) : Int) = (((vput m).length : Nat) : Int) := by omega
   rw [hm, hq, e1] at hP
   rw [hP] at h ⊢
   by_cases h1 : (takeVG b (b.length + 1) (m : Int) (((vput m).length : Nat) : Int)).2.2 = 0
   · obtain ⟨g1, g2, g3, r2, g4⟩ := takeVG_inv (b.length + 1) (m : Int) _ h1 (by omega) (by omega) (by omega)
     generalize takeVG b (b.length + 1) (m : Int) _ = R at *
     by_cases h2 : R.2.1 = b.length ∧ rightV R.1 = true
     · have hF : finV b R = (R.1, 0) := by unfold finV; rw [if_neg (by simpa using h1), if_pos h2]
       rw [hF]
       obtain ⟨h3, h4⟩ := h2
       have hr2 : b.drop (vput m).length = r := by rw [hr, List.drop_left]
       rw [g4] at hr2
       have hr2l := congrArg List.length hr2
       simp only [List.length_append] at hr2l
       have : r2 = [] := List.eq_nil_of_length_eq_zero (by omega)
       subst this
       rw [List.append_nil] at hr2
       have hp := entsVB_pos R.1
       refine ⟨h4, ?_, g3, by dsimp only; omega⟩
       show vputP (R.1.length : Int) ++ entsVB R.1 = b
       rw [g1, hr2]
       unfold vputP
       rw [Int.toNat_natCast, ← hr]
     · unfold finV at h
       rw [if_neg (by simpa using h1), if_neg h2] at h
       cases h
   · unfold finV at h
     rw [if_pos h1] at h
     exact absurd h h1
 · unfold parseV at h
   rw [if_pos h0] at h
   exact absurd h h0
theorem parse_lenV (b : List UInt8) : (parseV b).1.length ≤ b.length := by
 by_cases h : (parseV b).2 = 0
 · exact (put_parseV h).2.2.2
 · unfold parseV finV at h ⊢
   split
   · simp
   · rename_i h1
     rw [if_neg h1] at h
     split
     · simp
     · rename_i h2
       rw [if_neg h2] at h
       split
       · rename_i h3; rw [if_pos h3] at h; exact absurd rfl h
       · simp
end Go.Proofs.Ytfpmjcdcpicmaaa.Ab
namespace Go.Proofs.Ytfpmjcdcpicmaaa.Ab
open Go Go.RowKit R
set_option linter.unusedVariables false
set_option linter.unusedSimpArgs false
theorem entsVB_txt : ∀ {l : List Vn} {v : Vn}, v ∈ l → v.t.length ≤ (entsVB l).length
 | [], v, h => by cases h
 | w :: l, v, h => by
   have hc : entsVB (w :: l) = entVB w ++ entsVB l := by simp [entsVB]
   rw [hc, List.length_append]
   rcases List.mem_cons.1 h with rfl | h
   · have : v.t.length ≤ (entVB v).length := by
       simp only [entVB, vtext, List.length_append]; omega
     omega
   · have := entsVB_txt h
     omega
theorem parse_txt {b : List UInt8} (h : (parseV b).2 = 0) : ∀ v ∈ (parseV b).1, v.t.length ≤ b.length := by
 intro v hv
 obtain ⟨_, h2, _⟩ := put_parseV h
 have h3 := entsVB_txt hv
 have h4 : (entsVB (parseV b).1).length ≤ (allVB (parseV b).1).length := by
   unfold allVB; rw [List.length_append]; omega
 rw [h2] at h4
 omega
theorem allPl_of {l : List Vn} (h : ∀ v ∈ l, okW v) : allPl l = true := by
 unfold allPl
 rw [List.all_eq_true]
 exact fun v hv => (h v hv).2
theorem okW_of {l : List Vn} (h : allPl l = true) (hv : ∀ v ∈ l, okV v) : ∀ v ∈ l, okW v := by
 unfold allPl at h
 rw [List.all_eq_true] at h
 exact fun v hm => ⟨hv v hm, h v hm⟩
end Go.Proofs.Ytfpmjcdcpicmaaa.Ab
