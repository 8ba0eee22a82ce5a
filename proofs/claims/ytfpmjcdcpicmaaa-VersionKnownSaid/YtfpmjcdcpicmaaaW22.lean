import Derived.Test.YtfpmjcdcpicmaaaW3
import Derived.Test.YtfpmjcdcpicmaaaW15
import Derived.Test.YtfpmjcdcpicmaaaW16
import Derived.Test.YtfpmjcdcpicmaaaK2
import Derived.Test.YtfpmjcdcpicmaaaCodeW
import Derived.Test.YtfpmjcdcpicmaaaW19
namespace Go.Proofs.Ytfpmjcdcpicmaaa.Ab
open Go Go.RowKit R
set_option linter.unusedVariables false
set_option linter.unusedSimpArgs false
set_option maxHeartbeats 40000000
set_option maxRecDepth 100000
def bsP : PV → Option (List UInt8)
 | .nil => some []
 | .ro b => bytesOf b
 | _ => none
def decB : List (List PV) → Option (List (List UInt8))
 | [] => some []
 | [p] :: rows => (bsP p).bind fun b => (decB rows).map (b :: ·)
 | _ => none
theorem decB_len : ∀ {rows : List (List PV)} {ls : List (List UInt8)}, decB rows = some ls → rows.length = ls.length
 | [], ls, h => by simp [decB] at h; subst h; rfl
 | [] :: rows, ls, h => by simp [decB] at h
 | (_ :: _ :: _) :: rows, ls, h => by simp [decB] at h
 | [p] :: rows, ls, h => by
   simp only [decB, Option.bind_eq_some_iff, Option.map_eq_some_iff] at h
   obtain ⟨b, hb, l, hl, rfl⟩ := h
   simp [decB_len hl]
theorem decB_at : ∀ {rows : List (List PV)} {ls : List (List UInt8)} {i : Nat} (hi : i < ls.length), decB rows = some ls → ∃ p, rowAt rows (i : Int) = [p] ∧ bsP p = some ls[i]
 | [], ls, i, hi, h => by simp [decB] at h; subst h; simp at hi
 | [] :: rows, ls, i, hi, h => by simp [decB] at h
 | (_ :: _ :: _) :: rows, ls, i, hi, h => by simp [decB] at h
 | [p] :: rows, ls, i, hi, h => by
   simp only [decB, Option.bind_eq_some_iff, Option.map_eq_some_iff] at h
   obtain ⟨b, hb, l, hl, rfl⟩ := h
   cases i with
   | zero => exact ⟨p, rfl, hb⟩
   | succ i =>
     obtain ⟨q, h1, h2⟩ := decB_at (i := i) (by simpa using hi) hl
     refine ⟨q, ?_, h2⟩
     simpa [rowAt] using h1
theorem bsP_rei {p : PV} {l : List UInt8} (h : bsP p = some l) (objs : Nat → Option AO) : reiP objs (.pv p) = some (.ro (bytesRow l)) := by
 unfold bsP at h
 split at h
 · cases h; rfl
 · rw [bytesOf_row h]; rfl
 · cases h
theorem bsP_rows {p : PV} {l : List UInt8} (h : bsP p = some l) (objs : Nat → Option AO) : rowsB objs (.pv p) = some (bytesRow l) := by
 unfold bsP at h
 split at h
 · cases h; rfl
 · rw [bytesOf_row h]; rfl
 · cases h
theorem takeE_txt (b : List UInt8) (p : Int) : (E.takeE b p).1.t.length ≤ b.length := by
 unfold E.takeE E.takeK
 split
 · show (takeT b (p + 1)).1.length ≤ b.length
   unfold takeT
   split
   · simp
   · split
     · simp
     · simp; omega
 · split
   · split <;> simp
   · simp
theorem parseG_txt : ∀ (f : Nat) (b : List UInt8) (p : Int), ∀ e ∈ (E.parseG f b p).1, e.t.length ≤ b.length
 | 0, b, p => by simp [E.parseG]
 | f + 1, b, p => by
   unfold E.parseG
   split
   · simp
   · split
     · simp
     · split
       · simp
       · intro e he
         rcases List.mem_cons.1 he with rfl | he
         · exact takeE_txt b p
         · exact parseG_txt f b _ e he
theorem outL_len2 {M : Nat} : ∀ {l : List E.Ed} {base : List UInt8}, (∀ e ∈ l, e.t.length ≤ M) → (E.outL base l).length ≤ base.length + M * l.length
 | [], _, _ => by simp [E.outL]
 | e :: l, base, h => by
   have h0 := h e (by simp)
   have h1 := fun b : List UInt8 => outL_len2 (l := l) (base := b) fun x hx => h x (by simp [hx])
   unfold E.outL
   rw [List.length_cons, Nat.mul_succ]
   split
   · have := h1 (base.drop e.n.toNat)
     simp at this ⊢; omega
   · split
     · have := h1 base
       simp; omega
     · have := h1 (base.drop e.n.toNat)
       simp at this ⊢; omega
theorem apply_size {t p : List UInt8} (hp : p.length ≤ 100) : (E.applyL t (E.parseL p).1).1.length ≤ t.length + 10000 := by
 unfold E.applyL
 split
 · have h1 := outL_len2 (M := 100) (l := (E.parseL p).1) (base := t) fun e he => Nat.le_trans (parseG_txt _ _ _ e he) hp
   have h2 := E.parseL_len p
   have h3 : 100 * (E.parseL p).1.length ≤ 10000 := by omega
   exact Nat.le_trans h1 (by omega)
 · simp
theorem parse_ok {t p : List UInt8} (ht : t.length ≤ 1000000) (hp : p.length ≤ 100) : E.okA t (E.parseL p).1 := by
 refine ⟨ht, ?_, fun e he => ?_⟩
 · have h2 := E.parseL_len p
   omega
 · have := parseG_txt _ _ _ e he
   omega
def refB (v : Vn) (p : List UInt8) : Bool := decide ((p.length : Int) = v.z) && decide (((sumN p : Nat) : Int) = v.m)
def sayG : Bool → List UInt8 → List Vn → List (List UInt8) → List UInt8 × Int
 | f, t, v :: l, p :: ps =>
   if v.inl = true then sayG false v.t l ps else
   if refB v p = false then ([], 110) else
   if f = true then sayG false p l ps else
   if (E.parseL p).2 ≠ 0 then ([], (E.parseL p).2) else
   if (E.applyL t (E.parseL p).1).2 ≠ 0 then ([], (E.applyL t (E.parseL p).1).2) else sayG false (E.applyL t (E.parseL p).1).1 l ps
 | _, t, _, _ => (t, 0)
def sayV (l : List Vn) (ps : List (List UInt8)) : List UInt8 × Int := if l.length = 0 ∨ ps.length ≠ l.length then ([], 2) else sayG true [] l ps
noncomputable def GSay : List AV → Option (Prop × AV)
 | [.pv (.ro a), .pv (.ro b)] => (dec rowV a).bind fun l => (decB b).map fun ps => (l.length ≤ 12 ∧ (∀ v ∈ l, v.t.length ≤ 100) ∧ (∀ p ∈ ps, p.length ≤ 100), .tup [.pv (.str (sayV l ps).1), .pv (.int .i64 (sayV l ps).2)])
 | _ => none
@[simp] theorem GSay_eq (a b : List (List PV)) : GSay [.pv (.ro a), .pv (.ro b)] = (dec rowV a).bind fun l => (decB b).map fun ps => (l.length ≤ 12 ∧ (∀ v ∈ l, v.t.length ≤ 100) ∧ (∀ p ∈ ps, p.length ≤ 100), .tup [.pv (.str (sayV l ps).1), .pv (.int .i64 (sayV l ps).2)]) := rfl
theorem c_Says : ConT Try.prog 111 GSay := by
 intro ys φ r h hφ
 unfold GSay at h
 split at h
 · rename_i ra rb
   obtain ⟨a, ha, h⟩ := Option.bind_eq_some_iff.1 h
   obtain ⟨ps, hb, h⟩ := Option.map_eq_some_iff.1 h
   cases h
   cases dec_rowsV_inv ha
   obtain ⟨hl, hvt, hpt⟩ := hφ
   have hbl := decB_len hb
   refine con_of (tab_cons c_Of (tab_cons E.c_Parse (tab_cons E.c_apply tab_nil))) (by kernel_rfl) fn111 (by simp) ?_
   unfold body111
   by_cases h0 : a.length = 0
   · have hs : sayV a ps = ([], 2) := by unfold sayV; rw [if_pos (.inl h0)]
     have ha0 : a = [] := List.eq_nil_of_length_eq_zero h0
     subst ha0
     simp (config := { maxSteps := 3000000 }) [hs, hbl]
   by_cases h1 : ps.length = a.length
   rotate_left
   · have hs : sayV a ps = ([], 2) := by unfold sayV; rw [if_pos (.inr h1)]
     have h0' : ¬ a = [] := fun e => h0 (by rw [e]; rfl)
     have h1' : ¬ ((ps.length : Int) = (a.length : Int)) := by omega
     simp (config := { maxSteps := 3000000 }) [hs, hbl, h0', h1', h1]
   have hs : sayV a ps = sayG true [] a ps := by unfold sayV; rw [if_neg (by rintro (h | h); exact h0 h; exact h h1)]
   rw [hs]
   have h0' : ¬ a = [] := fun e => h0 (by rw [e]; rfl)
   generalize hR : sayG true [] a ps = R
   simp (config := { maxSteps := 3000000 }) [hbl, h0', h1]
   refine vwp_loop (fun x : Nat × List UInt8 => x.1 ≤ a.length ∧ x.2.length ≤ 10100 * (x.1 + 1) ∧ sayG (decide (x.1 = 0)) x.2 (a.drop x.1) (ps.drop x.1) = R)
     (fun x => ⟨[(1, .pv (.ro rb)), (6, .pv (.str x.2)), (22, .pv (.ro (rowsV a))), (23, .pv (.int .i64 a.length)), (24, .pv (.int .i64 x.1))], []⟩) (fun x => a.length - x.1) [] (0, []) ?_ ?_ ?_
   · exact ⟨by simp, by simp, by simpa using hR⟩
   · simp
   · rintro ⟨i, t⟩ ⟨hi, ht, hG⟩
     dsimp only at hi ht hG
     have w2 : IntKind.i64.wrap ((i : Int) + 1) = (i : Int) + 1 := wrap_i64 (by omega)
     by_cases hlt : i < a.length
     · have r1 := rowsV_at hlt
       obtain ⟨p, hp1, hp2⟩ := decB_at (i := i) (by omega) hb
       have hips : i < ps.length := by omega
       have hpl : ps[i].length ≤ 100 := hpt _ (List.getElem_mem hips)
       have htl : a[i].t.length ≤ 100 := hvt _ (List.getElem_mem hlt)
       have hrei := bsP_rei hp2
       have hrows := bsP_rows hp2
       have hbb := bytesOf_bytes ps[i]
       have hdb : dec byteR (bytesRow ps[i]) = some ps[i] := by simp
       rw [List.drop_eq_getElem_cons hlt, List.drop_eq_getElem_cons hips] at hG
       generalize ps[i] = q at hpl hrei hrows hbb hdb hG
       have hq9 : q.length ≤ 1000000000 := by omega
       have hq8 : q.length ≤ 100000000 := by omega
       cases hin : a[i].inl with
       | true =>
         rw [hin] at r1
         have hG2 : sayG false a[i].t (a.drop (i + 1)) (ps.drop (i + 1)) = R := by rw [← hG, sayG, if_pos hin]
         simp (config := { maxSteps := 3000000 }) [w2, hlt, r1, hp1, hbl, h1]
         refine ⟨i + 1, a[i].t, ⟨by omega, by omega, ?_⟩, ⟨rfl, by omega⟩, by omega⟩
         rw [show decide (i + 1 = 0) = false from by simp]
         exact hG2
       | false =>
         rw [hin] at r1
         rw [sayG, if_neg (by rw [hin]; simp)] at hG
         cases hrf : refB a[i] q with
         | false =>
           rw [if_pos hrf] at hG
           subst hG
           have he : ¬ ((q.length : Int) = a[i].z ∧ ((sumN q : Nat) : Int) = a[i].m) := by
             rintro ⟨e1, e2⟩
             unfold refB at hrf
             rw [decide_eq_true e1, decide_eq_true e2] at hrf
             cases hrf
           by_cases e1 : (q.length : Int) = a[i].z
           · have e2 : ¬ (((sumN q : Nat) : Int) = a[i].m) := fun e => he ⟨e1, e⟩
             simp (config := { maxSteps := 3000000 }) [hlt, r1, hp1, hbl, h1, hrei, hbb, hq9, e1, e2]
           · simp (config := { maxSteps := 3000000 }) [hlt, r1, hp1, hbl, h1, hrei, hbb, hq9, e1]
         | true =>
           rw [if_neg (by rw [hrf]; simp)] at hG
           have he : (q.length : Int) = a[i].z ∧ ((sumN q : Nat) : Int) = a[i].m := by
             unfold refB at hrf
             simpa using hrf
           obtain ⟨he1, he2⟩ := he
           by_cases hi0 : i = 0
           · subst hi0
             rw [if_pos (by simp)] at hG
             rw [show ((0 : Nat) : Int) = 0 from rfl] at r1 hp1
             simp (config := { maxSteps := 3000000 }) [w2, hlt, r1, hp1, hbl, h1, hrei, hbb, hq9, he1, he2, hrows]
             refine ⟨1, q, ⟨by omega, by omega, ?_⟩, ⟨rfl, by decide⟩, by omega⟩
             rw [show decide (1 = 0) = false from rfl]
             exact hG
           · rw [if_neg (by simpa using hi0)] at hG
             have hi0' : ¬ ((i : Int) = 0) := by omega
             by_cases hpe : (E.parseL q).2 = 0
             rotate_left
             · rw [if_pos hpe] at hG
               subst hG
               simp (config := { maxSteps := 3000000 }) [w2, hlt, r1, hp1, hbl, h1, hrei, hbb, hq9, he1, he2, hi0, hi0', hq8, hpe]
             · rw [if_neg (by simp [hpe])] at hG
               have hok := parse_ok (t := t) (p := q) (by omega) hpl
               have hsz := apply_size (t := t) hpl
               generalize hap : E.applyL t (E.parseL q).1 = A at hG hsz
               by_cases hae : A.2 = 0
               rotate_left
               · rw [if_pos hae] at hG
                 subst hG
                 simp (config := { maxSteps := 3000000 }) [w2, hlt, r1, hp1, hbl, h1, hrei, hbb, hq9, he1, he2, hi0, hi0', hq8, hpe, hok, hap, hae]
               · rw [if_neg (by simp [hae])] at hG
                 simp (config := { maxSteps := 3000000 }) [w2, hlt, r1, hp1, hbl, h1, hrei, hbb, hq9, he1, he2, hi0, hi0', hq8, hpe, hok, hap, hae]
                 refine ⟨i + 1, A.1, ⟨by omega, by omega, ?_⟩, ⟨rfl, by omega⟩, by omega⟩
                 rw [show decide (i + 1 = 0) = false from by simp]
                 exact hG
     · have hie : i = a.length := by omega
       subst hie
       have hR2 : R = (t, 0) := by
         rw [← hG, List.drop_eq_nil_of_le (Nat.le_refl _)]
         cases hd : ps.drop a.length <;> rfl
       subst hR2
       simp (config := { maxSteps := 3000000 })
 · cases h
end Go.Proofs.Ytfpmjcdcpicmaaa.Ab
namespace Go.Proofs.Ytfpmjcdcpicmaaa.Ab
open Go Go.RowKit R
set_option linter.unusedVariables false
set_option linter.unusedSimpArgs false
set_option maxHeartbeats 40000000
set_option maxRecDepth 100000
theorem flat_byR (l : List UInt8) : flatRows (bytesRow l) := by
 intro r hr p hp
 simp only [bytesRow, List.mem_map] at hr
 obtain ⟨c, _, rfl⟩ := hr
 simp only [List.mem_singleton] at hp
 subst hp
 rfl
def bA : List UInt8 := [97, 98, 99]
def bC : List UInt8 := [1, 2, 3, 1]
def bD : List UInt8 := [1, 2, 2, 1, 122]
def exV : List Vn := [⟨3, 0, 0, 0, 0, 3, (sumN bA : Nat), [], false, false⟩, ⟨5, 3, 0, 0, 0, 4, (sumN bC : Nat), [], false, false⟩, ⟨8, 5, 0, 0, 0, 5, (sumN bD : Nat), [], false, false⟩, ⟨9, 0, 0, 0, 0, 0, (sumN [] : Nat), [], false, false⟩]
def edC : List E.Ed := [⟨1, 2, []⟩, ⟨3, 1, []⟩]
def edD : List E.Ed := [⟨1, 2, []⟩, ⟨2, 0, [122]⟩]
theorem edC_rows : dec E.rowE [[.int .u8 1, .int .i64 2, .str []], [.int .u8 3, .int .i64 1, .str []]] = some edC := E.dec_rowsE edC
theorem edD_rows : dec E.rowE [[.int .u8 1, .int .i64 2, .str []], [.int .u8 2, .int .i64 0, .str [122]]] = some edD := E.dec_rowsE edD
theorem edC_put : E.putL edC = (bC, 0) := by
 have h : E.rightL edC = true := rfl
 unfold E.putL
 rw [if_neg (by rw [h]; simp)]
 simp [edC, E.putB, E.putE, vput_small, bC]
theorem edD_put : E.putL edD = (bD, 0) := by
 have h : E.rightL edD = true := rfl
 unfold E.putL
 rw [if_neg (by rw [h]; simp)]
 simp [edD, E.putB, E.putE, vput_small, bD, vtext]
theorem edC_ok : E.okP edC := ⟨by decide, by decide⟩
theorem edD_ok : E.okP edD := ⟨by decide, by decide⟩
def Gexm : List AV → Option (Prop × AV)
 | [] => some (True, .fr 70 (rowsV exV))
 | _ => none
@[simp] theorem Gexm_eq : Gexm [] = some (True, .fr 70 (rowsV exV)) := rfl
theorem c_exm : ConT Try.prog 69 Gexm := by
 intro ys φ r h hφ
 unfold Gexm at h
 split at h
 · cases h
   refine con_of (tab_cons E.c_Put (tab_cons c_Of tab_nil)) (by kernel_rfl) fn69 (by simp) ?_
   unfold body69
   have d1 := edC_rows
   have d2 := edD_rows
   have p1 := edC_put
   have p2 := edD_put
   have k1 := edC_ok
   have k2 := edD_ok
   have b0 : bytesOf [[.int .u8 97], [.int .u8 98], [.int .u8 99]] = some bA := rfl
   have b1 := bytesOf_bytes bC
   have b2 := bytesOf_bytes bD
   have b3 : bytesOf [] = some [] := rfl
   have l1 : bC.length = 4 := rfl
   have l2 : bD.length = 5 := rfl
   have l0 : bA.length = 3 := rfl
   simp (config := { maxSteps := 3000000 }) [d1, d2, p1, p2, k1, k2, b0, b1, b2, b3, l0, l1, l2]
   exact ⟨flat_byR _, flat_byR _, rfl⟩
 · cases h
def Gpay : List AV → Option (Prop × AV)
 | [] => some (True, .fr 54 [[.ro (bytesRow bA)], [.ro (bytesRow bC)], [.ro (bytesRow bD)]])
 | _ => none
@[simp] theorem Gpay_eq : Gpay [] = some (True, .fr 54 [[.ro (bytesRow bA)], [.ro (bytesRow bC)], [.ro (bytesRow bD)]]) := rfl
theorem c_pay : ConT Try.prog 67 Gpay := by
 intro ys φ r h hφ
 unfold Gpay at h
 split at h
 · cases h
   refine con_of (tab_cons E.c_Put tab_nil) (by kernel_rfl) fn67 (by simp) ?_
   unfold body67
   have d1 := edC_rows
   have d2 := edD_rows
   have p1 := edC_put
   have p2 := edD_put
   have k1 := edC_ok
   have k2 := edD_ok
   simp (config := { maxSteps := 3000000 }) [d1, d2, p1, p2, k1, k2]
   exact ⟨flat_byR _, flat_byR _, rfl⟩
 · cases h
def exP : List Vn := exV.take 3
def exF : List Vn := [⟨3, 0, 0, 0, 0, 3, (sumN bA : Nat), [], false, true⟩, ⟨5, 3, 0, 0, 0, 4, (sumN bC : Nat), [], false, false⟩, ⟨9, 0, 0, 0, 0, 0, (sumN [] : Nat), [], false, false⟩]
def ex9 : Vn := ⟨9, 0, 0, 0, 0, 0, (sumN [] : Nat), [], false, false⟩
theorem x_plan : planV exV 8 = (exP, 0) := by kernel_rfl
theorem x_cur : curV exV = some ex9 := by kernel_rfl
theorem x_for : forgetV exV [5] = exF := by kernel_rfl
theorem x_for2 : forgetV exF [] = [ex9] := by kernel_rfl
theorem x_say : sayV (exV.take 2) [bA, bC] = ([97, 98], 0) := by kernel_rfl
theorem x_okV : ∀ v ∈ exV, okV v := by
 intro v hv
 simp only [exV, List.mem_cons, List.not_mem_nil, or_false] at hv
 rcases hv with rfl | rfl | rfl | rfl <;> simp [okV]
theorem x_okF : ∀ v ∈ exF, okV v := by
 intro v hv
 simp only [exF, List.mem_cons, List.not_mem_nil, or_false] at hv
 rcases hv with rfl | rfl | rfl <;> simp [okV]
def GworksV : List AV → Option (Prop × AV)
 | [] => some (True, .pv (.bool true))
 | _ => none
@[simp] theorem GworksV_eq : GworksV [] = some (True, .pv (.bool true)) := rfl
theorem c_worksV : ConT Try.prog 41 GworksV := by
 intro ys φ r h hφ
 unfold GworksV at h
 split at h
 · cases h
   refine con_of (tab_cons c_exm (tab_cons c_Plan (tab_cons c_Cv (tab_cons c_Forget (tab_cons c_pay (tab_cons c_Says (tab_cons c_numsV (tab_cons c_SmI tab_nil)))))))) (by kernel_rfl) fn41 (by simp) ?_
   unfold body41
   have fl : ∀ l, flatRows (rowsV l) := flat_rowsV
   have h1 := x_plan
   have h2 := x_cur
   have h3 := x_for
   have h4 := x_for2
   have h5 := x_say
   have h6 := x_okV
   have h7 := x_okF
   have l1 : exV.length = 4 := rfl
   have l2 : exF.length = 3 := rfl
   have u5 : dec rowU [[.int .u64 5]] = some [5] := dec_rowsU [5]
   have u0 : dec rowU [] = some [] := dec_rowsU []
   apply vwp_cut
   · simp (config := { maxSteps := 3000000 })
     exact ⟨rfl, rfl⟩
   apply vwp_cut
   · simp (config := { maxSteps := 3000000 }) [fl]
     exact ⟨rfl, rfl⟩
   apply vwp_cut
   · simp (config := { maxSteps := 3000000 }) [h1, l1, fl]
     exact ⟨h6, rfl, rfl⟩
   apply vwp_cut
   · simp (config := { maxSteps := 3000000 }) [h2, l1, fl, cellsV]
     exact ⟨rfl, rfl⟩
   apply vwp_cut
   · simp (config := { maxSteps := 3000000 }) [h3, l1, fl, u5]
     exact ⟨h6, rfl, rfl⟩
   apply vwp_cut
   · simp (config := { maxSteps := 3000000 }) [h4, l2, fl, u0]
     exact ⟨h7, rfl, rfl⟩
   have dt : dec rowV ((rowsV exV).take 2) = some (exV.take 2) := dec_rowsV (exV.take 2)
   have db : decB [[.ro (bytesRow bA)], [.ro (bytesRow bC)]] = some [bA, bC] := by simp [decB, bsP, bytesOf_bytes]
   have la : bA.length = 3 := rfl
   have lc : bC.length = 4 := rfl
   have lt : (exV.take 2).length = 2 := rfl
   have tt : ∀ v ∈ exV.take 2, v.t.length ≤ 100 := by
     intro v hv
     have := List.mem_of_mem_take hv
     simp only [exV, List.mem_cons, List.not_mem_nil, or_false] at this
     rcases this with rfl | rfl | rfl | rfl <;> simp
   have ten := rowsV_ten exV
   apply vwp_cut
   · simp (config := { maxSteps := 3000000 }) [h5, l1, fl, dt, db, la, lc, lt]
     exact ⟨ten, tt, rfl, rfl⟩
   have n1 : numsV exP = [3, 5, 8] := by kernel_rfl
   have n2 : numsV exF = [3, 5, 9] := by kernel_rfl
   have n3 : numsV [ex9] = [9] := by kernel_rfl
   have m1 : dec rowI [[.int .i64 3], [.int .i64 5], [.int .i64 8]] = some [3, 5, 8] := dec_map rowI_inj [3, 5, 8]
   have m2 : dec rowI [[.int .i64 3], [.int .i64 5], [.int .i64 9]] = some [3, 5, 9] := dec_map rowI_inj [3, 5, 9]
   have m3 : dec rowI [[.int .i64 9]] = some [9] := dec_map rowI_inj [9]
   have e9 : ex9.n = 9 := rfl
   have q0 : rowAt (rowsV exF) 0 = [.int .u64 3, .int .u64 0, .int .u64 0, .int .u64 0, .int .u64 0, .int .u64 3, .int .u64 (sumN bA : Nat), .str [], .bool false, .bool true] := rfl
   have q1 : rowAt (rowsV exF) 1 = [.int .u64 5, .int .u64 3, .int .u64 0, .int .u64 0, .int .u64 0, .int .u64 4, .int .u64 (sumN bC : Nat), .str [], .bool false, .bool false] := rfl
   have lp : exP.length = 3 := rfl
   have fi : ∀ l : List Int, flatRows (rowsI l) := by
     intro l r hr p hp
     simp only [rowsI, List.mem_map] at hr
     obtain ⟨c, _, rfl⟩ := hr
     simp only [rowI, List.mem_singleton] at hp
     subst hp
     rfl
   simp (config := { maxSteps := 3000000 }) [fl, fi, n1, n2, n3, m1, m2, m3, e9, q0, q1, l2, lp]
 · cases h
end Go.Proofs.Ytfpmjcdcpicmaaa.Ab
