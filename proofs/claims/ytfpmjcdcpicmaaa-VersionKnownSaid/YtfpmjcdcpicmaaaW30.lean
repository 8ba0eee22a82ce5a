import Derived.Test.YtfpmjcdcpicmaaaW13
import Derived.Test.YtfpmjcdcpicmaaaW23
import Derived.Test.YtfpmjcdcpicmaaaCodeW
import Derived.Test.YtfpmjcdcpicmaaaW28
namespace Go.Proofs.Ytfpmjcdcpicmaaa.Ab
open Go Go.RowKit R
set_option linter.unusedVariables false
set_option linter.unusedSimpArgs false
set_option maxHeartbeats 40000000
set_option maxRecDepth 100000
theorem c_rSays : ConT Try.prog 128 GSay := by
 intro ys φ r h hφ
 unfold GSay at h
 split at h
 · rename_i ra rb
   obtain ⟨a, ha, h⟩ := Option.bind_eq_some_iff.1 h
   obtain ⟨ps, hb, h⟩ := Option.map_eq_some_iff.1 h
   cases h
   cases dec_rowsV_inv ha
   obtain ⟨hl, hvt, hpt⟩ := hφ
   have hbl := decB_len hb
   refine con_of (tab_cons c_rOf (tab_cons E.c_rParse (tab_cons E.c_rApply tab_nil))) (by kernel_rfl) fn128 (by simp) ?_
   unfold body128
   by_cases h0 : a.length = 0
   · have hs : sayV a ps = ([], 2) := by unfold sayV; rw [if_pos (.inl h0)]
     have ha0 : a = [] := List.eq_nil_of_length_eq_zero h0
     subst ha0
     simp (config := { maxSteps := 3000000 }) [hs, hbl]
   by_cases h1 : ps.length = a.length
   rotate_left
   · have hs : sayV a ps = ([], 2) := by unfold sayV; rw [if_pos (.inr h1)]
     have h0' : ¬ a = [] := fun e => h0 (by rw [e]; rfl)
     have h1' : ¬ ((ps.length : Int) = (a.length : Int)) := by omega
     have h2' : ¬ ((a.length : Int) = (ps.length : Int)) := by omega
     simp (config := { maxSteps := 3000000 }) [hs, hbl, h0', h1', h1, h2']
   have hs : sayV a ps = sayG true [] a ps := by unfold sayV; rw [if_neg (by rintro (h | h); exact h0 h; exact h h1)]
   rw [hs]
   have h0' : ¬ a = [] := fun e => h0 (by rw [e]; rfl)
   generalize hR : sayG true [] a ps = R
   simp (config := { maxSteps := 3000000 }) [hbl, h0', h1]
   refine vwp_loop (fun x : Nat × List UInt8 => x.1 ≤ a.length ∧ x.2.length ≤ 10100 * (x.1 + 1) ∧ sayG (decide (x.1 = 0)) x.2 (a.drop x.1) (ps.drop x.1) = R)
     (fun x => ⟨[(0, .pv (.ro (rowsV a))), (1, .pv (.ro rb)), (6, .pv (.str x.2)), (7, .pv (.int .i64 x.1))], []⟩) (fun x => a.length - x.1) [] (0, []) ?_ ?_ ?_
   · exact ⟨by simp, by simp, by simpa using hR⟩
   · simp
   · rintro ⟨i, t⟩ ⟨hi, ht, hG⟩
     dsimp only at hi ht hG
     have w2 : IntKind.i64.wrap ((i : Int) + 1) = (i : Int) + 1 := wrap_i64 (by omega)
     by_cases hlt : i < a.length
     · have r1 := rowsV_at hlt
       obtain ⟨p, hp1, hp2⟩ := decB_at (i := i) (by omega) hb
       have hips : i < ps.length := by omega
       have hpl : ps[i].length ≤ 100 := hpt _ (List.getElem_mem hips)
       have htl : a[i].t.length ≤ 100 := hvt _ (List.getElem_mem hlt)
       have hrei := bsP_rei hp2
       have hrows := bsP_rows hp2
       have hbb := bytesOf_bytes ps[i]
       have hdb : dec byteR (bytesRow ps[i]) = some ps[i] := by simp
       rw [List.drop_eq_getElem_cons hlt, List.drop_eq_getElem_cons hips] at hG
       generalize ps[i] = q at hpl hrei hrows hbb hdb hG
       have hq9 : q.length ≤ 1000000000 := by omega
       have hq8 : q.length ≤ 100000000 := by omega
       cases hin : a[i].inl with
       | true =>
         rw [hin] at r1
         have hG2 : sayG false a[i].t (a.drop (i + 1)) (ps.drop (i + 1)) = R := by rw [← hG, sayG, if_pos hin]
         simp (config := { maxSteps := 3000000 }) [w2, hlt, r1, hp1, hbl, h1]
         refine ⟨i + 1, a[i].t, ⟨by omega, by omega, ?_⟩, ⟨rfl, by omega⟩, by omega⟩
         rw [show decide (i + 1 = 0) = false from by simp]
         exact hG2
       | false =>
         rw [hin] at r1
         rw [sayG, if_neg (by rw [hin]; simp)] at hG
         cases hrf : refB a[i] q with
         | false =>
           rw [if_pos hrf] at hG
           subst hG
           have he : ¬ ((q.length : Int) = a[i].z ∧ ((sumN q : Nat) : Int) = a[i].m) := by
             rintro ⟨e1, e2⟩
             unfold refB at hrf
             rw [decide_eq_true e1, decide_eq_true e2] at hrf
             cases hrf
           by_cases e1 : (q.length : Int) = a[i].z
           · have e2 : ¬ (((sumN q : Nat) : Int) = a[i].m) := fun e => he ⟨e1, e⟩
             simp (config := { maxSteps := 3000000 }) [hlt, r1, hp1, hbl, h1, hrei, hbb, hq9, e1, e2]
           · simp (config := { maxSteps := 3000000 }) [hlt, r1, hp1, hbl, h1, hrei, hbb, hq9, e1]
         | true =>
           rw [if_neg (by rw [hrf]; simp)] at hG
           have he : (q.length : Int) = a[i].z ∧ ((sumN q : Nat) : Int) = a[i].m := by
             unfold refB at hrf
             simpa using hrf
           obtain ⟨he1, he2⟩ := he
           by_cases hi0 : i = 0
           · subst hi0
             rw [if_pos (by simp)] at hG
             rw [show ((0 : Nat) : Int) = 0 from rfl] at r1 hp1
             simp (config := { maxSteps := 3000000 }) [w2, hlt, r1, hp1, hbl, h1, hrei, hbb, hq9, he1, he2, hrows]
             refine ⟨1, q, ⟨by omega, by omega, ?_⟩, ⟨rfl, by decide⟩, by omega⟩
             rw [show decide (1 = 0) = false from rfl]
             exact hG
           · rw [if_neg (by simpa using hi0)] at hG
             have hi0' : ¬ ((i : Int) = 0) := by omega
             by_cases hpe : (E.parseL q).2 = 0
             rotate_left
             · rw [if_pos hpe] at hG
               subst hG
               simp (config := { maxSteps := 3000000 }) [w2, hlt, r1, hp1, hbl, h1, hrei, hbb, hq9, he1, he2, hi0, hi0', hq8, hpe]
             · rw [if_neg (by simp [hpe])] at hG
               have hok := parse_ok (t := t) (p := q) (by omega) hpl
               have hsz := apply_size (t := t) hpl
               generalize hap : E.applyL t (E.parseL q).1 = A at hG hsz
               by_cases hae : A.2 = 0
               rotate_left
               · rw [if_pos hae] at hG
                 subst hG
                 simp (config := { maxSteps := 3000000 }) [w2, hlt, r1, hp1, hbl, h1, hrei, hbb, hq9, he1, he2, hi0, hi0', hq8, hpe, hok, hap, hae]
               · rw [if_neg (by simp [hae])] at hG
                 simp (config := { maxSteps := 3000000 }) [w2, hlt, r1, hp1, hbl, h1, hrei, hbb, hq9, he1, he2, hi0, hi0', hq8, hpe, hok, hap, hae]
                 refine ⟨i + 1, A.1, ⟨by omega, by omega, ?_⟩, ⟨rfl, by omega⟩, by omega⟩
                 rw [show decide (i + 1 = 0) = false from by simp]
                 exact hG
     · have hie : i = a.length := by omega
       subst hie
       have hR2 : R = (t, 0) := by
         rw [← hG, List.drop_eq_nil_of_le (Nat.le_refl _)]
         cases hd : ps.drop a.length <;> rfl
       subst hR2
       simp (config := { maxSteps := 3000000 })
 · cases h
theorem bsP_cases {p : PV} {l : List UInt8} (h : bsP p = some l) : (p = .nil ∧ l = []) ∨ p = .ro (bytesRow l) := by
 unfold bsP at h
 split at h
 · cases h; exact .inl ⟨rfl, rfl⟩
 · rw [bytesOf_row h]; exact .inr rfl
 · cases h
def GOwn : List AV → Option (Prop × AV)
 | [.pv (.ro b)] => some (b.length ≤ 1000000 ∧ ∀ r ∈ b, r.length = 1, .fr 5 b)
 | _ => none
@[simp] theorem GOwn_eq (b : List (List PV)) : GOwn [.pv (.ro b)] = some (b.length ≤ 1000000 ∧ ∀ r ∈ b, r.length = 1, .fr 5 b) := rfl
theorem c_OwnK : ConT Try.prog 68 GOwn := by
 intro ys φ r h hφ
 unfold GOwn at h
 split at h
 · cases h
   refine con_of tab_nil (by kernel_rfl) fn68 (by simp) ?_
   unfold body68
   obtain ⟨h1, h2⟩ := hφ
   simp (config := { maxSteps := 3000000 }) [maxLen_eq]
   exact ⟨by omega, by omega, h2⟩
 · cases h
theorem c_verSays (l : List Vn) (rb : List (List PV)) (ps : List (List UInt8)) (hb : decB rb = some ps) :
   Con Try.prog 71 [] [.pv (.ro (rowsV l)), .pv (.ro rb)] [] (.pv (.bool true)) := by
 refine con_of (tab_cons c_worksV (tab_cons c_FewV (tab_cons c_RefV (tab_cons c_Says (tab_cons c_rSays tab_nil))))) (by kernel_rfl) fn71 (by simp) ?_
 unfold body71
 cases hfw : fewV l with
 | false => simp (config := { maxSteps := 3000000 }) [hfw]
 | true =>
 obtain ⟨hl12, htx⟩ := few_len hfw
 have hbl := decB_len hb
 have fl : ∀ l, flatRows (rowsV l) := flat_rowsV
 have hl6 : l.length ≤ 1000000 := by omega
 by_cases h12 : (12 : Int) < (ps.length : Int)
 · simp (config := { maxSteps := 3000000 }) [hfw, hbl, h12]
 by_cases hall : ∀ p ∈ ps, p.length ≤ 100
 rotate_left
 · simp (config := { maxSteps := 3000000 }) [hfw, hbl, h12]
   refine vwp_loop (fun i : Nat => i ≤ ps.length ∧ ∀ p ∈ ps.take i, p.length ≤ 100) (fun i => ⟨[(0, .pv (.ro (rowsV l))), (1, .pv (.ro rb)), (5, .pv (.int .i64 i))], []⟩) (fun i => ps.length - i) [] 0 (by simp) (by simp) ?_
   rintro i ⟨hi, ht⟩
   have w2 : IntKind.i64.wrap ((i : Int) + 1) = (i : Int) + 1 := wrap_i64 (by omega)
   by_cases hlt : i < ps.length
   · obtain ⟨p, hp1, hp2⟩ := decB_at hlt hb
     have htk : ∀ (h : (ps[i]'hlt).length ≤ 100), ∀ p ∈ ps.take (i + 1), p.length ≤ 100 := by
       intro h p hp
       rw [List.take_succ_eq_append_getElem hlt] at hp
       rcases List.mem_append.1 hp with hp | hp
       · exact ht p hp
       · rw [List.mem_singleton] at hp; rw [hp]; exact h
     by_cases hle : (100 : Int) < ((ps[i]'hlt).length : Int)
     · rcases bsP_cases hp2 with ⟨rfl, h0⟩ | rfl
       · rw [h0] at hle; simp at hle
       · simp (config := { maxSteps := 3000000 }) [hlt, hbl, hp1, hle]
     · have hk := htk (by omega)
       rcases bsP_cases hp2 with ⟨rfl, h0⟩ | rfl
       · simp (config := { maxSteps := 3000000 }) [w2, hlt, hbl, hp1]
         exact ⟨i + 1, ⟨by omega, hk⟩, rfl, by omega⟩
       · simp (config := { maxSteps := 3000000 }) [w2, hlt, hbl, hp1, hle]
         exact ⟨i + 1, ⟨by omega, hk⟩, rfl, by omega⟩
   · have hie : i = ps.length := by omega
     rw [hie, List.take_length] at ht
     exact absurd ht hall
 apply vwp_cut
 · simp (config := { maxSteps := 3000000 })
   exact ⟨rfl, rfl⟩
 apply vwp_cut
 · simp (config := { maxSteps := 3000000 }) [hfw, hbl, h12]
   exact ⟨rfl, rfl⟩
 apply vwp_cut
 · simp (config := { maxSteps := 3000000 }) [hfw, hbl, h12]
   refine vwp_loop (fun i : Nat => i ≤ ps.length ∧ ∀ p ∈ ps.take i, p.length ≤ 100) (fun i => ⟨[(0, .pv (.ro (rowsV l))), (1, .pv (.ro rb)), (5, .pv (.int .i64 i))], []⟩) (fun i => ps.length - i) [] 0 (by simp) (by simp) ?_
   rintro i ⟨hi, ht⟩
   have w2 : IntKind.i64.wrap ((i : Int) + 1) = (i : Int) + 1 := wrap_i64 (by omega)
   by_cases hlt : i < ps.length
   · obtain ⟨p, hp1, hp2⟩ := decB_at hlt hb
     have htk : ∀ (h : (ps[i]'hlt).length ≤ 100), ∀ p ∈ ps.take (i + 1), p.length ≤ 100 := by
       intro h p hp
       rw [List.take_succ_eq_append_getElem hlt] at hp
       rcases List.mem_append.1 hp with hp | hp
       · exact ht p hp
       · rw [List.mem_singleton] at hp; rw [hp]; exact h
     by_cases hle : (100 : Int) < ((ps[i]'hlt).length : Int)
     · rcases bsP_cases hp2 with ⟨rfl, h0⟩ | rfl
       · rw [h0] at hle; simp at hle
       · simp (config := { maxSteps := 3000000 }) [hlt, hbl, hp1, hle]
     · have hk := htk (by omega)
       rcases bsP_cases hp2 with ⟨rfl, h0⟩ | rfl
       · simp (config := { maxSteps := 3000000 }) [w2, hlt, hbl, hp1]
         exact ⟨i + 1, ⟨by omega, hk⟩, rfl, by omega⟩
       · simp (config := { maxSteps := 3000000 }) [w2, hlt, hbl, hp1, hle]
         exact ⟨i + 1, ⟨by omega, hk⟩, rfl, by omega⟩
   · have hie : i = ps.length := by omega
     rw [hie, List.take_length] at ht
     subst hie
     simp (config := { maxSteps := 3000000 }) [hbl]
     exact ⟨rfl, rfl⟩
 generalize hS : sayV l ps = S
 have hc : l.length ≤ 12 ∧ (∀ v ∈ l, v.t.length ≤ 100) ∧ (∀ p ∈ ps, p.length ≤ 100) := ⟨hl12, htx, hall⟩
 apply vwp_cut
 · simp (config := { maxSteps := 3000000 }) [hb, hS]
   exact ⟨hc, rfl, rfl⟩
 apply vwp_cut
 · simp (config := { maxSteps := 3000000 }) [hb, hS, hl6, fl]
   exact ⟨hc, rfl, rfl⟩
 simp (config := { maxSteps := 3000000 })
end Go.Proofs.Ytfpmjcdcpicmaaa.Ab
namespace Go.Proofs.Ytfpmjcdcpicmaaa.Ab
open Go Go.RowKit R
set_option linter.unusedVariables false
set_option linter.unusedSimpArgs false
set_option maxHeartbeats 40000000
set_option maxRecDepth 100000
noncomputable def GTl : List AV → Option (Prop × AV)
 | [.pv (.ro a), .pv (.int .u64 n)] => (dec rowV a).map fun l => (∀ v ∈ l, okV v, .pv (.bool true))
 | _ => none
@[simp] theorem GTl_eq (a : List (List PV)) (n : Int) : GTl [.pv (.ro a), .pv (.int .u64 n)] = (dec rowV a).map fun l => (∀ v ∈ l, okV v, .pv (.bool true)) := rfl
theorem c_Tl : ConT Try.prog 7 GTl := by
 intro ys φ r h hφ
 unfold GTl at h
 split at h
 · obtain ⟨a, ha, h⟩ := Option.map_eq_some_iff.1 h
   cases h
   cases dec_rowsV_inv ha
   exact c_verTells _ _ hφ
 · cases h
noncomputable def GCh : List AV → Option (Prop × AV)
 | [.pv (.ro a), .agg [.pv (.int .u64 n), .pv (.int .u64 b), .pv (.int .u64 p), .pv (.int .u64 i), .pv (.int .u64 s), .pv (.int .u64 z), .pv (.int .u64 m), .pv (.str t), .pv (.bool inl), .pv (.bool hid)], .pv (.ro k), .pv (.ro ts)] =>
   (dec rowV a).bind fun l => (dec rowU k).bind fun _ => (dec rowSt ts).map fun _ => ((∀ v ∈ l, okV v) ∧ okV ⟨n, b, p, i, s, z, m, t, inl, hid⟩, .pv (.bool true))
 | _ => none
@[simp] theorem GCh_eq (a k ts : List (List PV)) (n b p i s z m : Int) (t : List UInt8) (inl hid : Bool) : GCh [.pv (.ro a), .agg [.pv (.int .u64 n), .pv (.int .u64 b), .pv (.int .u64 p), .pv (.int .u64 i), .pv (.int .u64 s), .pv (.int .u64 z), .pv (.int .u64 m), .pv (.str t), .pv (.bool inl), .pv (.bool hid)], .pv (.ro k), .pv (.ro ts)] =
   (dec rowV a).bind fun l => (dec rowU k).bind fun _ => (dec rowSt ts).map fun _ => ((∀ v ∈ l, okV v) ∧ okV ⟨n, b, p, i, s, z, m, t, inl, hid⟩, .pv (.bool true)) := rfl
theorem c_Ch : ConT Try.prog 9 GCh := by
 intro ys φ r h hφ
 unfold GCh at h
 split at h
 · obtain ⟨a, ha, h⟩ := Option.bind_eq_some_iff.1 h
   obtain ⟨k, hk, h⟩ := Option.bind_eq_some_iff.1 h
   obtain ⟨ts, ht, h⟩ := Option.map_eq_some_iff.1 h
   cases h
   cases dec_rowsV_inv ha
   cases dec_rowsU_inv hk
   cases dec_rowsSt_inv ht
   exact c_verChanges _ _ _ _ hφ.1 hφ.2
 · cases h
noncomputable def GKp : List AV → Option (Prop × AV)
 | [.pv (.ro a), .pv (.ro k), .pv (.ro g)] => (dec rowV a).bind fun l => (dec rowU k).bind fun _ => (dec rowU g).map fun _ => (∀ v ∈ l, okV v, .pv (.bool true))
 | _ => none
@[simp] theorem GKp_eq (a k g : List (List PV)) : GKp [.pv (.ro a), .pv (.ro k), .pv (.ro g)] = (dec rowV a).bind fun l => (dec rowU k).bind fun _ => (dec rowU g).map fun _ => (∀ v ∈ l, okV v, .pv (.bool true)) := rfl
theorem c_Kp : ConT Try.prog 8 GKp := by
 intro ys φ r h hφ
 unfold GKp at h
 split at h
 · obtain ⟨a, ha, h⟩ := Option.bind_eq_some_iff.1 h
   obtain ⟨k, hk, h⟩ := Option.bind_eq_some_iff.1 h
   obtain ⟨g, hg, h⟩ := Option.map_eq_some_iff.1 h
   cases h
   cases dec_rowsV_inv ha
   cases dec_rowsU_inv hk
   cases dec_rowsU_inv hg
   exact c_verKeeps _ _ _ hφ
 · cases h
noncomputable def GBy : List AV → Option (Prop × AV)
 | [.pv (.ro a), .pv (.ro b)] => (dec rowV a).bind fun l => (dec byteR b).map fun _ => (∀ v ∈ l, okV v, .pv (.bool true))
 | _ => none
@[simp] theorem GBy_eq (a b : List (List PV)) : GBy [.pv (.ro a), .pv (.ro b)] = (dec rowV a).bind fun l => (dec byteR b).map fun _ => (∀ v ∈ l, okV v, .pv (.bool true)) := rfl
theorem c_By : ConT Try.prog 10 GBy := by
 intro ys φ r h hφ
 unfold GBy at h
 split at h
 · obtain ⟨a, ha, h⟩ := Option.bind_eq_some_iff.1 h
   obtain ⟨b, hb, h⟩ := Option.map_eq_some_iff.1 h
   cases h
   cases dec_rowsV_inv ha
   cases dec_bytes_inv hb
   exact c_verBytes _ _ hφ
 · cases h
noncomputable def GSy : List AV → Option (Prop × AV)
 | [.pv (.ro a), .pv (.ro b)] => (dec rowV a).bind fun l => (decB b).map fun _ => (True, .pv (.bool true))
 | _ => none
@[simp] theorem GSy_eq (a b : List (List PV)) : GSy [.pv (.ro a), .pv (.ro b)] = (dec rowV a).bind fun l => (decB b).map fun _ => (True, .pv (.bool true)) := rfl
theorem c_Sy : ConT Try.prog 71 GSy := by
 intro ys φ r h hφ
 unfold GSy at h
 split at h
 · obtain ⟨a, ha, h⟩ := Option.bind_eq_some_iff.1 h
   obtain ⟨b, hb, h⟩ := Option.map_eq_some_iff.1 h
   cases h
   cases dec_rowsV_inv ha
   exact c_verSays _ _ _ hb
 · cases h
theorem u64_any (x : Int) : 0 ≤ IntKind.u64.wrap x ∧ IntKind.u64.wrap x ≤ 18446744073709551615 := by
 simp only [IntKind.wrap, IntKind.bits, IntKind.signed]
 simp
 omega
theorem u8_row (x : Int) : ∃ c : UInt8, [PV.int .u8 (IntKind.u8.wrap x)] = byteR c := by
 refine ⟨UInt8.ofNat (x % 256).toNat, ?_⟩
 rw [wrap_u8]
 unfold byteR
 simp
 omega
theorem dec_six (A E : Int) : ∃ l, dec byteR [[.int .u8 (IntKind.u8.wrap A)], [.int .u8 1], [.int .u8 1], [.int .u8 97], [.int .u8 (IntKind.u8.wrap E)], [.int .u8 0]] = some l := by
 obtain ⟨a, ha⟩ := u8_row A
 obtain ⟨e, he⟩ := u8_row E
 rw [ha, he]
 exact ⟨_, dec_bytes [a, 1, 1, 97, e, 0]⟩
theorem dec_two (a b : Int) : dec rowU [[.int .u64 a], [.int .u64 b]] = some [a, b] := dec_rowsU [a, b]
theorem dec_one (a : Int) : dec rowU [[.int .u64 a]] = some [a] := dec_rowsU [a]
theorem dec_rep (k : Nat) : dec rowSt (List.replicate k [.str []]) = some (List.replicate k []) := by
 have := dec_rowsSt (List.replicate k [])
 rwa [show rowsSt (List.replicate k []) = List.replicate k [.str []] from by simp [rowsSt, rowSt]] at this
theorem okV_set {L : List Vn} {i : Nat} {v : Vn} (h : ∀ v ∈ L, okV v) (hv : okV v) : ∀ x ∈ L.set i v, okV x := by
 intro x hx
 rcases List.mem_or_eq_of_mem_set hx with hx | rfl
 · exact h x hx
 · exact hv
theorem set_bytes (b : List UInt8) (k : Nat) (c : UInt8) : (bytesRow b).set k [.int .u8 (c.toNat : Int)] = bytesRow (b.set k c) := by
 unfold bytesRow
 rw [List.map_set]
theorem xor_row (x y : Int) : ∃ c : UInt8, sbit .xor .u8 x y = .int .u8 (c.toNat : Int) := by
 obtain ⟨c, hc⟩ := u8_row ((BitVec.ofInt IntKind.u8.bits x ^^^ BitVec.ofInt IntKind.u8.bits y).toNat : Nat)
 exact ⟨c, (List.cons.inj hc).1⟩
theorem dec_take (l : List Vn) (k : Nat) : dec rowV ((rowsV l).take k) = some (l.take k) := by
 rw [show (rowsV l).take k = rowsV (l.take k) from List.map_take.symm]
 exact dec_rowsV _
def bad0 : List Vn := [⟨0, 0, 0, 0, 0, 0, 0, [], false, false⟩]
def bad1 : List Vn := [⟨2, 0, 0, 0, 0, 0, 0, [], false, false⟩, ⟨2, 0, 0, 0, 0, 0, 0, [], false, false⟩]
def bad2 : List Vn := [⟨2, 1, 0, 0, 0, 0, 0, [], false, false⟩]
def bad3 : List Vn := [⟨2, 2, 0, 0, 0, 0, 0, [], false, false⟩]
def bad4 : List Vn := [⟨3, 4, 0, 0, 0, 0, 0, [], false, false⟩, ⟨4, 0, 0, 0, 0, 0, 0, [], false, false⟩]
def bad5 : List Vn := [⟨1, 9, 0, 0, 0, 0, 0, [97], true, false⟩]
def bad6 : List Vn := [⟨1, 0, 0, 0, 0, 0, 0, [97], true, false⟩, ⟨2, 0, 0, 0, 0, 0, 0, [98], true, false⟩]
def tsI : List (List UInt8) := [[97], [98], [99], [100]]
def exI : List Vn := [plainV 3 [97], plainV 5 [98], plainV 8 [99], plainV 9 [100]]
theorem x_inl : inlinedV exV tsI = (exI, 0) := by kernel_rfl
theorem x_p3 : planV exI 3 = ([plainV 3 [97]], 0) := by kernel_rfl
theorem x_p5 : planV exI 5 = ([plainV 5 [98]], 0) := by kernel_rfl
theorem x_p8 : planV exI 8 = ([plainV 8 [99]], 0) := by kernel_rfl
theorem x_p9 : planV exI 9 = ([plainV 9 [100]], 0) := by kernel_rfl
theorem decB_three (a b c : List UInt8) : decB [[.ro (bytesRow a)], [.ro (bytesRow b)], [.ro (bytesRow c)]] = some [a, b, c] := by simp [decB, bsP]
theorem c_verKnown : Con Try.prog 11 [] [] [] (.pv (.bool true)) := by
 refine con_of (tab_cons c_Tl (tab_cons c_Ch (tab_cons c_Kp (tab_cons c_By (tab_cons c_Sy (tab_cons c_pay (tab_cons c_OwnK (tab_cons c_exm (tab_cons c_Of (tab_cons c_Inl (tab_cons c_Plan (tab_cons c_worksV tab_nil)))))))))))) (by kernel_rfl) fn11 (by simp) ?_
 unfold body11
 have fl : ∀ l, flatRows (rowsV l) := flat_rowsV
 apply vwp_cut
 · simp (config := { maxSteps := 3000000 })
   exact ⟨rfl, rfl⟩
 apply vwp_cut
 · simp (config := { maxSteps := 3000000 })
   refine vwp_loop (fun n : Nat => n ≤ 192) (fun n => ⟨[(1, .pv (.int .i64 n))], []⟩) (fun n => 192 - n) [] 0 (by simp) ?_ ?_
   · simp
   intro n hn
   have wn : IntKind.i64.wrap ((n : Int) + 1) = (n : Int) + 1 := wrap_i64 (by omega)
   by_cases hlt : (n : Int) < 192
   rotate_left
   · have : n = 192 := by omega
     subst this
     simp (config := { maxSteps := 3000000 })
     exact ⟨rfl, rfl⟩
   obtain ⟨j, hj0, hj3, hj⟩ : ∃ j, 0 ≤ j ∧ j < 3 ∧ (IntKind.i64.wrap ((n : Int) / 2)).tmod 3 = j := by
     rw [wrap_i64 (by omega)]
     exact ⟨_, by rw [Int.tmod_eq_emod_of_nonneg (by omega)]; omega, by rw [Int.tmod_eq_emod_of_nonneg (by omega)]; omega, rfl⟩
   obtain ⟨k, hk0, hk4, hk⟩ : ∃ j, 0 ≤ j ∧ j < 4 ∧ (IntKind.i64.wrap ((n : Int) / 6)).tmod 4 = j := by
     rw [wrap_i64 (by omega)]
     exact ⟨_, by rw [Int.tmod_eq_emod_of_nonneg (by omega)]; omega, by rw [Int.tmod_eq_emod_of_nonneg (by omega)]; omega, rfl⟩
   obtain ⟨x, hx0, hx9, hx⟩ : ∃ x : Int, 0 ≤ x ∧ x ≤ 18446744073709551615 ∧ rowAt [[PV.int IntKind.u64 0], [PV.int IntKind.u64 2], [PV.int IntKind.u64 3]] j = [PV.int IntKind.u64 x] := by
     have : j = 0 ∨ j = 1 ∨ j = 2 := by omega
     rcases this with rfl | rfl | rfl
     · exact ⟨0, by omega, by omega, rfl⟩
     · exact ⟨2, by omega, by omega, rfl⟩
     · exact ⟨3, by omega, by omega, rfl⟩
   obtain ⟨y, hy0, hy9, hy⟩ : ∃ x : Int, 0 ≤ x ∧ x ≤ 18446744073709551615 ∧ rowAt [[PV.int IntKind.u64 0], [PV.int IntKind.u64 2], [PV.int IntKind.u64 3], [PV.int IntKind.u64 7]] k = [PV.int IntKind.u64 x] := by
     have : k = 0 ∨ k = 1 ∨ k = 2 ∨ k = 3 := by omega
     rcases this with rfl | rfl | rfl | rfl
     · exact ⟨0, by omega, by omega, rfl⟩
     · exact ⟨2, by omega, by omega, rfl⟩
     · exact ⟨3, by omega, by omega, rfl⟩
     · exact ⟨7, by omega, by omega, rfl⟩
   obtain ⟨hb0, hb9⟩ := u64_any (IntKind.i64.wrap ((n : Int).tmod 2 * 2))
   generalize hbb : IntKind.u64.wrap (IntKind.i64.wrap ((n : Int).tmod 2 * 2)) = b at hb0 hb9
   generalize hd0 : decide ((n : Int).tmod 5 = 0) = h5
   apply vwp_cut
   · simp (config := { maxSteps := 3000000 }) [hlt]
     exact ⟨rfl, rfl⟩
   rw [vwp_seq, vwp_block]
   apply vwp_cut
   · simp (config := { maxSteps := 3000000 }) [hj, hj0, hj3, hk, hk0, hk4, hx, hy, hbb, hd0]
     exact ⟨rfl, rfl⟩
   refine vwp_cutB (fun st => ∃ L : List Vn, L.length = 4 ∧ (∀ v ∈ L, okV v) ∧ st = ⟨look [(0, .junk), (1, .pv (.int .i64 n)), (2, .own 46), (3, .pv (.int .i64 4)), (4, .junk), (5, .junk), (6, .junk), (7, .junk), (8, .junk), (9, .junk), (10, .junk), (11, .junk), (12, .junk), (13, .junk), (14, .junk), (15, .junk), (16, .junk), (17, .junk), (18, .junk), (20, .junk), (48, .pv (.bool false)), (126, .junk), (131, .junk), (140, .junk), (209, .junk), (231, .junk), (268, .junk), (278, .junk), (297, .junk)], lookO [(46, .arr 70 (rowsV L))]⟩) ?_ ?_
   rotate_left
   · rintro st ⟨L, hL, ho, rfl⟩
     obtain ⟨lb, hlb⟩ := dec_six ((n : Int).tmod 3) ((n : Int).tmod 4)
     have hT := eq_true ho
     have hV : ∀ a b : Int, okV ⟨IntKind.u64.wrap a, IntKind.u64.wrap b, 0, 0, 0, 0, 0, [], false, false⟩ := fun a b => ⟨(u64_any a).1, (u64_any a).2, (u64_any b).1, (u64_any b).2⟩
     obtain ⟨q, hq5, hq⟩ : ∃ q : Nat, q < 5 ∧ (n : Int).tmod 5 = q := ⟨n % 5, by omega, by rw [Int.tmod_eq_emod_of_nonneg (by omega)]; omega⟩
     have hq9 : q ≤ 140737488355328 := by omega
     have hcv : cvp (Value.string ⟨#[]⟩) = .str [] := rfl
     have hqi : (q : Int) ≤ 140737488355328 := by omega
     have hq8 : q * 16 ≤ 140737488355328 := by omega
     apply vwp_cut
     · refine (show stepsX _ _ _ _ _ from ?_)
       apply stepsX_spl 7 rfl rfl
       · simp (config := { maxSteps := 3000000 }) [hT, fl]
         exact ⟨rfl, rfl⟩
       apply stepsX_spl 20 rfl rfl
       · simp (config := { maxSteps := 3000000 }) [hT, fl, hq, hq9, hqi, hq8, hV, dec_two, dec_one, hcv, dec_rep]
         exact ⟨rfl, rfl⟩
       apply stepsX_spl 14 rfl rfl
       · simp (config := { maxSteps := 3000000 }) [hT, fl, hV, dec_two, dec_one]
         exact ⟨rfl, rfl⟩
       simp (config := { maxSteps := 3000000 }) [hT, fl, hlb]
       exact ⟨rfl, rfl⟩
     simp (config := { maxSteps := 3000000 })
     exact ⟨n + 1, by omega, by rw [wn]; omega, by omega⟩
   simp (config := { maxSteps := 3000000 })
   refine vwp_loop (fun x : Nat × List Vn => x.1 ≤ 4 ∧ x.2.length = 4 ∧ ∀ v ∈ x.2, okV v) (fun x => ⟨[(1, .pv (.int .i64 n)), (2, .own 46), (3, .pv (.int .i64 x.1))], [(46, .arr 70 (rowsV x.2))]⟩) (fun x => 4 - x.1) []
     (0, [⟨2, 0, 0, 0, 0, 0, 0, [], false, false⟩, ⟨3, b, 0, 0, 0, 0, 0, [], false, false⟩, ⟨7, x, 0, 0, 0, 0, 0, [], false, h5⟩, ⟨9, y, 0, 0, 0, 0, 0, [], false, false⟩]) ?_ ?_ ?_
   · refine ⟨by simp, rfl, fun v hv => ?_⟩
     simp only [List.mem_cons, List.not_mem_nil, or_false] at hv
     rcases hv with rfl | rfl | rfl | rfl <;> exact ⟨by simp, by simp, by simp [*], by simp [*]⟩
   · simp [rowsV, rowV]
   rintro ⟨i, L⟩ ⟨hi, hL, ho⟩
   simp only at hi hL ho
   have wi : IntKind.i64.wrap ((i : Int) + 1) = (i : Int) + 1 := wrap_i64 (by omega)
   by_cases hi4 : (i : Int) < 4
   · have hiL : i < L.length := by omega
     have r1 := rowsV_at hiL
     have key : ∀ p q : Bool, (rowsV L).set i [.int .u64 L[i].n, .int .u64 L[i].b, .int .u64 L[i].p, .int .u64 L[i].i, .int .u64 L[i].s, .int .u64 L[i].z, .int .u64 L[i].m, .str L[i].t, .bool p, .bool q] = rowsV (L.set i ⟨L[i].n, L[i].b, L[i].p, L[i].i, L[i].s, L[i].z, L[i].m, L[i].t, p, q⟩) := fun p q => rowsV_set L i ⟨L[i].n, L[i].b, L[i].p, L[i].i, L[i].s, L[i].z, L[i].m, L[i].t, p, q⟩
     cases hh : L[i].hid with
     | true =>
       rw [hh] at r1
       simp (config := { maxSteps := 3000000 }) [wi, hi4, r1, hL, hiL]
       exact ⟨by omega, i + 1, L.set i ⟨L[i].n, L[i].b, L[i].p, L[i].i, L[i].s, L[i].z, L[i].m, L[i].t, _, _⟩, ⟨by omega, by simpa using hL, okV_set ho (by have := ho _ (List.getElem_mem hiL); exact this)⟩, ⟨by omega, key _ _⟩, by omega⟩
     | false =>
       rw [hh] at r1
       simp (config := { maxSteps := 3000000 }) [wi, hi4, r1, hL, hiL]
       exact ⟨by omega, i + 1, L.set i ⟨L[i].n, L[i].b, L[i].p, L[i].i, L[i].s, L[i].z, L[i].m, L[i].t, _, _⟩, ⟨by omega, by simpa using hL, okV_set ho (by have := ho _ (List.getElem_mem hiL); exact this)⟩, ⟨by omega, key _ _⟩, by omega⟩
   · have hie : i = 4 := by omega
     subst hie
     simp (config := { maxSteps := 3000000 })
     exact ⟨L, hL, ho, rfl⟩
 apply vwp_cut
 · simp (config := { maxSteps := 3000000 })
   exact ⟨rfl, rfl⟩
 apply vwp_cut
 · simp (config := { maxSteps := 3000000 })
   refine vwp_loop (fun i : Nat => i ≤ 3) (fun i => ⟨[(5, .own 127), (6, .pv (.int .i64 i))], [(127, .arr 54 [[.ro (bytesRow bA)], [.ro (bytesRow bC)], [.ro (bytesRow bD)]])]⟩) (fun i => 3 - i) [] 0 (by simp) ?_ ?_
   · simp
   intro i hi
   by_cases hlt : (i : Int) < 3
   rotate_left
   · have : i = 3 := by omega
     subst this
     simp (config := { maxSteps := 3000000 })
     exact ⟨rfl, rfl⟩
   have pr0 : rowAt [[PV.ro (bytesRow bA)], [PV.ro (bytesRow bC)], [PV.ro (bytesRow bD)]] 0 = [.ro (bytesRow bA)] := rfl
   have pr1 : rowAt [[PV.ro (bytesRow bA)], [PV.ro (bytesRow bC)], [PV.ro (bytesRow bD)]] 1 = [.ro (bytesRow bC)] := rfl
   have pr2 : rowAt [[PV.ro (bytesRow bA)], [PV.ro (bytesRow bC)], [PV.ro (bytesRow bD)]] 2 = [.ro (bytesRow bD)] := rfl
   have hi3 : i = 0 ∨ i = 1 ∨ i = 2 := by omega
   rcases hi3 with rfl | rfl | rfl
   · simp (config := { maxSteps := 3000000 })
     refine vwp_loop (fun k : Nat => k ≤ bA.length) (fun k => ⟨[(5, .own 127), (6, .pv (.int .i64 0)), (7, .pv (.int .i64 k))], [(127, .arr 54 [[.ro (bytesRow bA)], [.ro (bytesRow bC)], [.ro (bytesRow bD)]])]⟩) (fun k => bA.length - k) [] 0 (by simp) ?_ ?_
     · simp
     intro k hk
     have wk : IntKind.i64.wrap ((k : Int) + 1) = (k : Int) + 1 := wrap_i64 (by have : bA.length = 3 := rfl; omega)
     by_cases hkl : k < bA.length
     rotate_left
     · simp (config := { maxSteps := 3000000 }) [hkl, pr0]
       exact ⟨1, by omega, by decide, by omega⟩
     apply vwp_cut
     · simp (config := { maxSteps := 3000000 }) [hkl, pr0]
       exact ⟨rfl, rfl⟩
     rw [vwp_seq, vwp_block]
     apply vwp_cut
     · refine (show steps _ _ _ _ _ from ?_)
       simp (config := { maxSteps := 3000000 }) [pr0, pr1, pr2]
       exact ⟨rfl, rfl⟩
     have rk := R.bytesRow_at (l := bA) (i := k) hkl
     obtain ⟨c, hc⟩ := xor_row (bA[k].toNat : Int) 1
     have hb1 : ∀ r ∈ bytesRow bA, r.length = 1 := bytesRow_one bA
     have hb2 : bA.length ≤ 1000000 := by decide
     apply vwp_cut
     · simp (config := { maxSteps := 3000000 }) [hb2, pr0]
       exact ⟨hb1, rfl, rfl⟩
     apply vwp_cut
     · refine (show steps _ _ _ _ _ from ?_)
       simp (config := { maxSteps := 3000000 }) [hkl, rk, hc, set_bytes]
       exact ⟨rfl, rfl⟩
     obtain ⟨V, r0, key⟩ : ∃ V : Vn, rowAt (rowsV exV) 0 = [.int .u64 V.n, .int .u64 V.b, .int .u64 V.p, .int .u64 V.i, .int .u64 V.s, .int .u64 V.z, .int .u64 V.m, .str V.t, .bool V.inl, .bool V.hid] ∧
         ∀ z m : Int, (rowsV exV).set 0 [.int .u64 V.n, .int .u64 V.b, .int .u64 V.p, .int .u64 V.i, .int .u64 V.s, .int .u64 z, .int .u64 m, .str V.t, .bool V.inl, .bool V.hid] = rowsV (exV.set 0 ⟨V.n, V.b, V.p, V.i, V.s, z, m, V.t, V.inl, V.hid⟩) :=
       ⟨exV[0], rowsV_at (l := exV) (i := 0) (by decide), fun z m => rowsV_set exV 0 ⟨exV[0].n, exV[0].b, exV[0].p, exV[0].i, exV[0].s, z, m, exV[0].t, exV[0].inl, exV[0].hid⟩⟩
     have l4 : exV.length = 4 := rfl
     have hb9 : bA.length ≤ 1000000000 := by decide
     apply vwp_cut
     · simp (config := { maxSteps := 3000000 })
       exact ⟨rfl, rfl⟩
     apply vwp_cut
     · simp (config := { maxSteps := 3000000 }) [r0, l4]
       exact ⟨rfl, rfl⟩
     apply vwp_cut
     · simp (config := { maxSteps := 3000000 }) [hb9]
       exact ⟨rfl, rfl⟩
     apply vwp_cut
     · simp (config := { maxSteps := 3000000 })
       exact ⟨rfl, rfl⟩
     apply vwp_cut
     · simp (config := { maxSteps := 3000000 }) [l4, r0, key]
       exact ⟨rfl, rfl⟩
     apply vwp_cut
     · refine (show stepsX _ _ _ _ _ from ?_)
       apply stepsX_spl 6 rfl rfl
       · simp (config := { maxSteps := 3000000 }) [l4, dec_take, decB_three]
         exact ⟨rowsV_ten _, rfl, rfl⟩
       apply stepsX_spl 7 rfl rfl
       · simp (config := { maxSteps := 3000000 }) [l4, dec_take, decB_three]
         exact ⟨rowsV_ten _, rfl, rfl⟩
       simp (config := { maxSteps := 3000000 }) [l4, dec_take, decB_three]
       exact ⟨rowsV_ten _, rfl, rfl⟩
     simp (config := { maxSteps := 3000000 })
     exact ⟨k + 1, by omega, by rw [wk]; omega, by omega⟩
   · simp (config := { maxSteps := 3000000 })
     refine vwp_loop (fun k : Nat => k ≤ bC.length) (fun k => ⟨[(5, .own 127), (6, .pv (.int .i64 1)), (7, .pv (.int .i64 k))], [(127, .arr 54 [[.ro (bytesRow bA)], [.ro (bytesRow bC)], [.ro (bytesRow bD)]])]⟩) (fun k => bC.length - k) [] 0 (by simp) ?_ ?_
     · simp
     intro k hk
     have wk : IntKind.i64.wrap ((k : Int) + 1) = (k : Int) + 1 := wrap_i64 (by have : bC.length = 4 := rfl; omega)
     by_cases hkl : k < bC.length
     rotate_left
     · simp (config := { maxSteps := 3000000 }) [hkl, pr1]
       exact ⟨2, by omega, by decide, by omega⟩
     apply vwp_cut
     · simp (config := { maxSteps := 3000000 }) [hkl, pr1]
       exact ⟨rfl, rfl⟩
     rw [vwp_seq, vwp_block]
     apply vwp_cut
     · refine (show steps _ _ _ _ _ from ?_)
       simp (config := { maxSteps := 3000000 }) [pr0, pr1, pr2]
       exact ⟨rfl, rfl⟩
     have rk := R.bytesRow_at (l := bC) (i := k) hkl
     obtain ⟨c, hc⟩ := xor_row (bC[k].toNat : Int) 1
     have hb1 : ∀ r ∈ bytesRow bC, r.length = 1 := bytesRow_one bC
     have hb2 : bC.length ≤ 1000000 := by decide
     apply vwp_cut
     · simp (config := { maxSteps := 3000000 }) [hb2, pr1]
       exact ⟨hb1, rfl, rfl⟩
     apply vwp_cut
     · refine (show steps _ _ _ _ _ from ?_)
       simp (config := { maxSteps := 3000000 }) [hkl, rk, hc, set_bytes]
       exact ⟨rfl, rfl⟩
     obtain ⟨V, r0, key⟩ : ∃ V : Vn, rowAt (rowsV exV) 1 = [.int .u64 V.n, .int .u64 V.b, .int .u64 V.p, .int .u64 V.i, .int .u64 V.s, .int .u64 V.z, .int .u64 V.m, .str V.t, .bool V.inl, .bool V.hid] ∧
         ∀ z m : Int, (rowsV exV).set 1 [.int .u64 V.n, .int .u64 V.b, .int .u64 V.p, .int .u64 V.i, .int .u64 V.s, .int .u64 z, .int .u64 m, .str V.t, .bool V.inl, .bool V.hid] = rowsV (exV.set 1 ⟨V.n, V.b, V.p, V.i, V.s, z, m, V.t, V.inl, V.hid⟩) :=
       ⟨exV[1], rowsV_at (l := exV) (i := 1) (by decide), fun z m => rowsV_set exV 1 ⟨exV[1].n, exV[1].b, exV[1].p, exV[1].i, exV[1].s, z, m, exV[1].t, exV[1].inl, exV[1].hid⟩⟩
     have l4 : exV.length = 4 := rfl
     have hb9 : bC.length ≤ 1000000000 := by decide
     apply vwp_cut
     · simp (config := { maxSteps := 3000000 })
       exact ⟨rfl, rfl⟩
     apply vwp_cut
     · simp (config := { maxSteps := 3000000 }) [r0, l4]
       exact ⟨rfl, rfl⟩
     apply vwp_cut
     · simp (config := { maxSteps := 3000000 }) [hb9]
       exact ⟨rfl, rfl⟩
     apply vwp_cut
     · simp (config := { maxSteps := 3000000 })
       exact ⟨rfl, rfl⟩
     apply vwp_cut
     · simp (config := { maxSteps := 3000000 }) [l4, r0, key]
       exact ⟨rfl, rfl⟩
     apply vwp_cut
     · refine (show stepsX _ _ _ _ _ from ?_)
       apply stepsX_spl 6 rfl rfl
       · simp (config := { maxSteps := 3000000 }) [l4, dec_take, decB_three]
         exact ⟨rowsV_ten _, rfl, rfl⟩
       apply stepsX_spl 7 rfl rfl
       · simp (config := { maxSteps := 3000000 }) [l4, dec_take, decB_three]
         exact ⟨rowsV_ten _, rfl, rfl⟩
       simp (config := { maxSteps := 3000000 }) [l4, dec_take, decB_three]
       exact ⟨rowsV_ten _, rfl, rfl⟩
     simp (config := { maxSteps := 3000000 })
     exact ⟨k + 1, by omega, by rw [wk]; omega, by omega⟩
   · simp (config := { maxSteps := 3000000 })
     refine vwp_loop (fun k : Nat => k ≤ bD.length) (fun k => ⟨[(5, .own 127), (6, .pv (.int .i64 2)), (7, .pv (.int .i64 k))], [(127, .arr 54 [[.ro (bytesRow bA)], [.ro (bytesRow bC)], [.ro (bytesRow bD)]])]⟩) (fun k => bD.length - k) [] 0 (by simp) ?_ ?_
     · simp
     intro k hk
     have wk : IntKind.i64.wrap ((k : Int) + 1) = (k : Int) + 1 := wrap_i64 (by have : bD.length = 5 := rfl; omega)
     by_cases hkl : k < bD.length
     rotate_left
     · simp (config := { maxSteps := 3000000 }) [hkl, pr2]
       exact ⟨3, by omega, by decide, by omega⟩
     apply vwp_cut
     · simp (config := { maxSteps := 3000000 }) [hkl, pr2]
       exact ⟨rfl, rfl⟩
     rw [vwp_seq, vwp_block]
     apply vwp_cut
     · refine (show steps _ _ _ _ _ from ?_)
       simp (config := { maxSteps := 3000000 }) [pr0, pr1, pr2]
       exact ⟨rfl, rfl⟩
     have rk := R.bytesRow_at (l := bD) (i := k) hkl
     obtain ⟨c, hc⟩ := xor_row (bD[k].toNat : Int) 1
     have hb1 : ∀ r ∈ bytesRow bD, r.length = 1 := bytesRow_one bD
     have hb2 : bD.length ≤ 1000000 := by decide
     apply vwp_cut
     · simp (config := { maxSteps := 3000000 }) [hb2, pr2]
       exact ⟨hb1, rfl, rfl⟩
     apply vwp_cut
     · refine (show steps _ _ _ _ _ from ?_)
       simp (config := { maxSteps := 3000000 }) [hkl, rk, hc, set_bytes]
       exact ⟨rfl, rfl⟩
     obtain ⟨V, r0, key⟩ : ∃ V : Vn, rowAt (rowsV exV) 2 = [.int .u64 V.n, .int .u64 V.b, .int .u64 V.p, .int .u64 V.i, .int .u64 V.s, .int .u64 V.z, .int .u64 V.m, .str V.t, .bool V.inl, .bool V.hid] ∧
         ∀ z m : Int, (rowsV exV).set 2 [.int .u64 V.n, .int .u64 V.b, .int .u64 V.p, .int .u64 V.i, .int .u64 V.s, .int .u64 z, .int .u64 m, .str V.t, .bool V.inl, .bool V.hid] = rowsV (exV.set 2 ⟨V.n, V.b, V.p, V.i, V.s, z, m, V.t, V.inl, V.hid⟩) :=
       ⟨exV[2], rowsV_at (l := exV) (i := 2) (by decide), fun z m => rowsV_set exV 2 ⟨exV[2].n, exV[2].b, exV[2].p, exV[2].i, exV[2].s, z, m, exV[2].t, exV[2].inl, exV[2].hid⟩⟩
     have l4 : exV.length = 4 := rfl
     have hb9 : bD.length ≤ 1000000000 := by decide
     apply vwp_cut
     · simp (config := { maxSteps := 3000000 })
       exact ⟨rfl, rfl⟩
     apply vwp_cut
     · simp (config := { maxSteps := 3000000 }) [r0, l4]
       exact ⟨rfl, rfl⟩
     apply vwp_cut
     · simp (config := { maxSteps := 3000000 }) [hb9]
       exact ⟨rfl, rfl⟩
     apply vwp_cut
     · simp (config := { maxSteps := 3000000 })
       exact ⟨rfl, rfl⟩
     apply vwp_cut
     · simp (config := { maxSteps := 3000000 }) [l4, r0, key]
       exact ⟨rfl, rfl⟩
     apply vwp_cut
     · refine (show stepsX _ _ _ _ _ from ?_)
       apply stepsX_spl 6 rfl rfl
       · simp (config := { maxSteps := 3000000 }) [l4, dec_take, decB_three]
         exact ⟨rowsV_ten _, rfl, rfl⟩
       apply stepsX_spl 7 rfl rfl
       · simp (config := { maxSteps := 3000000 }) [l4, dec_take, decB_three]
         exact ⟨rowsV_ten _, rfl, rfl⟩
       simp (config := { maxSteps := 3000000 }) [l4, dec_take, decB_three]
       exact ⟨rowsV_ten _, rfl, rfl⟩
     simp (config := { maxSteps := 3000000 })
     exact ⟨k + 1, by omega, by rw [wk]; omega, by omega⟩
 have okB : ∀ l : List Vn, (l.all fun v => decide (0 ≤ v.n) && decide (v.n ≤ 18446744073709551615) && decide (0 ≤ v.b) && decide (v.b ≤ 18446744073709551615)) = true → ∀ v ∈ l, okV v := by
   intro l h v hv
   have := List.all_eq_true.1 h v hv
   simp only [Bool.and_eq_true, decide_eq_true_eq] at this
   exact ⟨this.1.1.1, this.1.1.2, this.1.2, this.2⟩
 apply vwp_cut
 · simp (config := { maxSteps := 3000000 })
   exact ⟨rfl, rfl⟩
 have hS1 : dec rowSt [[.str [97]]] = some [[97]] := dec_rowsSt [[97]]
 have hU0 : dec rowU [] = some [] := dec_rowsU []
 have hV0 : dec rowV [] = some [] := dec_rowsV []
 have hB5 : dec byteR [[.int .u8 1], [.int .u8 1], [.int .u8 1], [.int .u8 97], [.int .u8 0]] = some [1, 1, 1, 97, 0] := dec_bytes [1, 1, 1, 97, 0]
 have hBs : decB [[.ro []]] = some [[]] := rfl
 have hV9 : okV ⟨9, 0, 0, 0, 0, 0, 0, [], false, false⟩ := by refine ⟨?_, ?_, ?_, ?_⟩ <;> decide
 have hb0 := eq_true (okB bad0 (by decide))
 have hb1 := eq_true (okB bad1 (by decide))
 have hb2 := eq_true (okB bad2 (by decide))
 have hb3 := eq_true (okB bad3 (by decide))
 have hb4 := eq_true (okB bad4 (by decide))
 have hb5 := eq_true (okB bad5 (by decide))
 have hb6 := eq_true (okB bad6 (by decide))
 apply vwp_cut
 · simp (config := { maxSteps := 3000000 })
   refine vwp_loop (fun i : Nat => i ≤ 7) (fun i => ⟨[(12, .own 227), (13, .pv (.int .i64 i))], [(227, .rws 63 [.own 211, .own 214, .own 216, .own 218, .own 221, .own 223, .own 226]), (211, .arr 70 (rowsV bad0)), (214, .arr 70 (rowsV bad1)), (216, .arr 70 (rowsV bad2)), (218, .arr 70 (rowsV bad3)), (221, .arr 70 (rowsV bad4)), (223, .arr 70 (rowsV bad5)), (226, .arr 70 (rowsV bad6))]⟩) (fun i => 7 - i) [] 0 (by simp) ?_ ?_
   · simp
     exact ⟨rfl, rfl, rfl, rfl, rfl, rfl, rfl⟩
   intro i hi
   by_cases hlt : (i : Int) < 7
   rotate_left
   · have : i = 7 := by omega
     subst this
     simp (config := { maxSteps := 3000000 })
     exact ⟨rfl, rfl⟩
   have hi7 : i = 0 ∨ i = 1 ∨ i = 2 ∨ i = 3 ∨ i = 4 ∨ i = 5 ∨ i = 6 := by omega
   apply vwp_cut
   · simp (config := { maxSteps := 3000000 }) [hlt]
     exact ⟨rfl, rfl⟩
   rw [vwp_seq, vwp_block]
   rcases hi7 with rfl | rfl | rfl | rfl | rfl | rfl | rfl
   · apply vwp_cut
     · refine (show stepsX _ _ _ _ _ from ?_)
       apply stepsX_spl 7 rfl rfl
       · simp (config := { maxSteps := 3000000 }) [hb0]
         exact ⟨rfl, rfl⟩
       apply stepsX_spl 10 rfl rfl
       · simp (config := { maxSteps := 3000000 }) [hb0, hS1, hU0, hV9]
         exact ⟨rfl, rfl⟩
       apply stepsX_spl 9 rfl rfl
       · simp (config := { maxSteps := 3000000 }) [hb0, hB5]
         exact ⟨rfl, rfl⟩
       simp (config := { maxSteps := 3000000 }) [hBs]
       exact ⟨rfl, rfl⟩
     simp (config := { maxSteps := 3000000 })
     exact ⟨1, by omega, by decide, by omega⟩
   · apply vwp_cut
     · refine (show stepsX _ _ _ _ _ from ?_)
       apply stepsX_spl 7 rfl rfl
       · simp (config := { maxSteps := 3000000 }) [hb1]
         exact ⟨rfl, rfl⟩
       apply stepsX_spl 10 rfl rfl
       · simp (config := { maxSteps := 3000000 }) [hb1, hS1, hU0, hV9]
         exact ⟨rfl, rfl⟩
       apply stepsX_spl 9 rfl rfl
       · simp (config := { maxSteps := 3000000 }) [hb1, hB5]
         exact ⟨rfl, rfl⟩
       simp (config := { maxSteps := 3000000 }) [hBs]
       exact ⟨rfl, rfl⟩
     simp (config := { maxSteps := 3000000 })
     exact ⟨2, by omega, by decide, by omega⟩
   · apply vwp_cut
     · refine (show stepsX _ _ _ _ _ from ?_)
       apply stepsX_spl 7 rfl rfl
       · simp (config := { maxSteps := 3000000 }) [hb2]
         exact ⟨rfl, rfl⟩
       apply stepsX_spl 10 rfl rfl
       · simp (config := { maxSteps := 3000000 }) [hb2, hS1, hU0, hV9]
         exact ⟨rfl, rfl⟩
       apply stepsX_spl 9 rfl rfl
       · simp (config := { maxSteps := 3000000 }) [hb2, hB5]
         exact ⟨rfl, rfl⟩
       simp (config := { maxSteps := 3000000 }) [hBs]
       exact ⟨rfl, rfl⟩
     simp (config := { maxSteps := 3000000 })
     exact ⟨3, by omega, by decide, by omega⟩
   · apply vwp_cut
     · refine (show stepsX _ _ _ _ _ from ?_)
       apply stepsX_spl 7 rfl rfl
       · simp (config := { maxSteps := 3000000 }) [hb3]
         exact ⟨rfl, rfl⟩
       apply stepsX_spl 10 rfl rfl
       · simp (config := { maxSteps := 3000000 }) [hb3, hS1, hU0, hV9]
         exact ⟨rfl, rfl⟩
       apply stepsX_spl 9 rfl rfl
       · simp (config := { maxSteps := 3000000 }) [hb3, hB5]
         exact ⟨rfl, rfl⟩
       simp (config := { maxSteps := 3000000 }) [hBs]
       exact ⟨rfl, rfl⟩
     simp (config := { maxSteps := 3000000 })
     exact ⟨4, by omega, by decide, by omega⟩
   · apply vwp_cut
     · refine (show stepsX _ _ _ _ _ from ?_)
       apply stepsX_spl 7 rfl rfl
       · simp (config := { maxSteps := 3000000 }) [hb4]
         exact ⟨rfl, rfl⟩
       apply stepsX_spl 10 rfl rfl
       · simp (config := { maxSteps := 3000000 }) [hb4, hS1, hU0, hV9]
         exact ⟨rfl, rfl⟩
       apply stepsX_spl 9 rfl rfl
       · simp (config := { maxSteps := 3000000 }) [hb4, hB5]
         exact ⟨rfl, rfl⟩
       simp (config := { maxSteps := 3000000 }) [hBs]
       exact ⟨rfl, rfl⟩
     simp (config := { maxSteps := 3000000 })
     exact ⟨5, by omega, by decide, by omega⟩
   · apply vwp_cut
     · refine (show stepsX _ _ _ _ _ from ?_)
       apply stepsX_spl 7 rfl rfl
       · simp (config := { maxSteps := 3000000 }) [hb5]
         exact ⟨rfl, rfl⟩
       apply stepsX_spl 10 rfl rfl
       · simp (config := { maxSteps := 3000000 }) [hb5, hS1, hU0, hV9]
         exact ⟨rfl, rfl⟩
       apply stepsX_spl 9 rfl rfl
       · simp (config := { maxSteps := 3000000 }) [hb5, hB5]
         exact ⟨rfl, rfl⟩
       simp (config := { maxSteps := 3000000 }) [hBs]
       exact ⟨rfl, rfl⟩
     simp (config := { maxSteps := 3000000 })
     exact ⟨6, by omega, by decide, by omega⟩
   · apply vwp_cut
     · refine (show stepsX _ _ _ _ _ from ?_)
       apply stepsX_spl 7 rfl rfl
       · simp (config := { maxSteps := 3000000 }) [hb6]
         exact ⟨rfl, rfl⟩
       apply stepsX_spl 10 rfl rfl
       · simp (config := { maxSteps := 3000000 }) [hb6, hS1, hU0, hV9]
         exact ⟨rfl, rfl⟩
       apply stepsX_spl 9 rfl rfl
       · simp (config := { maxSteps := 3000000 }) [hb6, hB5]
         exact ⟨rfl, rfl⟩
       simp (config := { maxSteps := 3000000 }) [hBs]
       exact ⟨rfl, rfl⟩
     simp (config := { maxSteps := 3000000 })
     exact ⟨7, by omega, by decide, by omega⟩
 have hTs : dec rowSt [[.str [97]], [.str [98]], [.str [99]], [.str [100]]] = some tsI := dec_rowsSt tsI
 have hxi := x_inl
 have hxo := eq_true x_okV
 have l4 : exV.length = 4 := rfl
 have l4i : exI.length = 4 := rfl
 have fli : flatRows (rowsV exI) := flat_rowsV _
 apply vwp_cut
 · simp (config := { maxSteps := 3000000 }) [hTs, hxi, hxo, l4, fl]
   exact ⟨rfl, rfl⟩
 have hoI := eq_true (okB exI (by decide))
 apply vwp_cut
 · simp (config := { maxSteps := 3000000 }) [l4i]
   refine vwp_loop (fun i : Nat => i ≤ 4) (fun i => ⟨[(14, .own 272), (15, .pv (.int .i64 0)), (16, .pv (.int .i64 i))], [(272, .arr 70 (rowsV exI))]⟩) (fun i => 4 - i) [] 0 (by simp) ?_ ?_
   · simp
   intro i hi
   by_cases hlt : (i : Int) < 4
   rotate_left
   · have : i = 4 := by omega
     subst this
     simp (config := { maxSteps := 3000000 }) [l4i]
     exact ⟨rfl, rfl⟩
   have hi4 : i = 0 ∨ i = 1 ∨ i = 2 ∨ i = 3 := by omega
   apply vwp_cut
   · simp (config := { maxSteps := 3000000 }) [hlt, l4i]
     exact ⟨rfl, rfl⟩
   rw [vwp_seq, vwp_block]
   rcases hi4 with rfl | rfl | rfl | rfl
   · have rj : rowAt (rowsV exI) 0 = [.int .u64 3, .int .u64 0, .int .u64 0, .int .u64 0, .int .u64 0, .int .u64 0, .int .u64 0, .str [97], .bool true, .bool false] := rfl
     have hp := x_p3
     apply vwp_cut
     · simp (config := { maxSteps := 3000000 }) [l4i, rj, hp, hoI, fli]
       exact ⟨fl _, rfl, rfl⟩
     simp (config := { maxSteps := 3000000 })
     exact ⟨1, by omega, by decide, by omega⟩
   · have rj : rowAt (rowsV exI) 1 = [.int .u64 5, .int .u64 0, .int .u64 0, .int .u64 0, .int .u64 0, .int .u64 0, .int .u64 0, .str [98], .bool true, .bool false] := rfl
     have hp := x_p5
     apply vwp_cut
     · simp (config := { maxSteps := 3000000 }) [l4i, rj, hp, hoI, fli]
       exact ⟨fl _, rfl, rfl⟩
     simp (config := { maxSteps := 3000000 })
     exact ⟨2, by omega, by decide, by omega⟩
   · have rj : rowAt (rowsV exI) 2 = [.int .u64 8, .int .u64 0, .int .u64 0, .int .u64 0, .int .u64 0, .int .u64 0, .int .u64 0, .str [99], .bool true, .bool false] := rfl
     have hp := x_p8
     apply vwp_cut
     · simp (config := { maxSteps := 3000000 }) [l4i, rj, hp, hoI, fli]
       exact ⟨fl _, rfl, rfl⟩
     simp (config := { maxSteps := 3000000 })
     exact ⟨3, by omega, by decide, by omega⟩
   · have rj : rowAt (rowsV exI) 3 = [.int .u64 9, .int .u64 0, .int .u64 0, .int .u64 0, .int .u64 0, .int .u64 0, .int .u64 0, .str [100], .bool true, .bool false] := rfl
     have hp := x_p9
     apply vwp_cut
     · simp (config := { maxSteps := 3000000 }) [l4i, rj, hp, hoI, fli]
       exact ⟨fl _, rfl, rfl⟩
     simp (config := { maxSteps := 3000000 })
     exact ⟨4, by omega, by decide, by omega⟩
 have hB12 : dec byteR [[.int .u8 255], [.int .u8 255], [.int .u8 255], [.int .u8 255], [.int .u8 255], [.int .u8 255], [.int .u8 255], [.int .u8 255], [.int .u8 255], [.int .u8 1], [.int .u8 1], [.int .u8 0]] = some [255, 255, 255, 255, 255, 255, 255, 255, 255, 1, 1, 0] := dec_bytes [255, 255, 255, 255, 255, 255, 255, 255, 255, 1, 1, 0]
 have hBn : decB [] = some [] := rfl
 apply vwp_cut
 · refine (show stepsX _ _ _ _ _ from ?_)
   apply stepsX_spl 13 rfl rfl
   · simp (config := { maxSteps := 3000000 }) [l4i, hB12, hoI]
     exact ⟨rfl, rfl⟩
   simp (config := { maxSteps := 3000000 }) [hV0, hU0, hBn]
   exact ⟨rfl, rfl⟩
 simp (config := { maxSteps := 3000000 })
end Go.Proofs.Ytfpmjcdcpicmaaa.Ab
