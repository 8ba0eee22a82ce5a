/- Bytes at a place, as the reference compares them. -/
import Derived.Test.YtcgllachkjnlgaaD6
import Derived.Test.YtcgllachkjnlgaaD17
import Derived.Test.YtcgllachkjnlgaaD10
import Derived.Test.YtcgllachkjnlgaaM2
import Derived.Test.YtcgllachkjnlgaaAb24
import Derived.Test.YtcgllachkjnlgaaCodeL
namespace Go.Proofs.Ytcgllachkjnlgaa.Ab
open Go Go.RowKit R
set_option linter.unusedVariables false
set_option linter.unusedSimpArgs false
set_option maxHeartbeats 4000000

/-- Do bytes stand at a place? -/
def standB (b : List UInt8) (at' : Nat) (w : List UInt8) : Bool := decide (at' + w.length ≤ b.length ∧ (b.drop at').take w.length = w)

noncomputable def Gstand : List AV → Option (Prop × AV)
  | [.pv (.ro b), .pv (.int .i64 i), .pv (.ro w)] => (dec byteR b).bind fun lb => (dec byteR w).map fun lw => (0 ≤ i ∧ i ≤ 1000000000 ∧ lb.length ≤ 1000000000 ∧ lw.length ≤ 1000000000, .pv (.bool (standB lb i.toNat lw)))
  | _ => none
@[simp] theorem Gstand_eq (b w : List (List PV)) (i : Int) : Gstand [.pv (.ro b), .pv (.int .i64 i), .pv (.ro w)] = (dec byteR b).bind fun lb => (dec byteR w).map fun lw => (0 ≤ i ∧ i ≤ 1000000000 ∧ lb.length ≤ 1000000000 ∧ lw.length ≤ 1000000000, .pv (.bool (standB lb i.toNat lw))) := rfl

theorem c_rsame : ConT Try.prog 59 Gstand := by
  intro ys φ r h hφ
  unfold Gstand at h
  split at h
  · rename_i rb I rw'
    obtain ⟨b, hb, h⟩ := Option.bind_eq_some_iff.1 h
    obtain ⟨l, hl, h⟩ := Option.map_eq_some_iff.1 h
    cases h
    cases dec_bytes_inv hb
    cases dec_bytes_inv hl
    obtain ⟨p, rfl⟩ := Int.eq_ofNat_of_zero_le hφ.1
    obtain ⟨h0, h1, h2, h3⟩ := hφ
    have w1 : IntKind.i64.wrap ((p : Int) + (l.length : Int)) = (p : Int) + (l.length : Int) := wrap_i64 (by omega)
    refine con_of tab_nil (by kernel_rfl) fn59 (by simp) ?_
    unfold body59
    by_cases hle : p + l.length ≤ b.length
    · have hle' : ¬ (b.length : Int) < (p : Int) + (l.length : Int) := by omega
      simp (config := { maxSteps := 3000000 }) [w1, hle']
      refine vwp_loop (fun i : Nat => i ≤ l.length ∧ (b.drop p).take i = l.take i) (fun i => ⟨[(0, .pv (.ro (bytesRow b))), (1, .pv (.int .i64 p)), (2, .pv (.ro (bytesRow l))), (7, .pv (.int .i64 i))], []⟩) (fun i => l.length - i) [] 0 (by simp) ?_ ?_
      · simp
      · rintro i ⟨hi, ht⟩
        have w2 : IntKind.i64.wrap ((i : Int) + 1) = (i : Int) + 1 := wrap_i64 (by omega)
        have w3 : IntKind.i64.wrap ((p : Int) + (i : Int)) = (p : Int) + (i : Int) := wrap_i64 (by omega)
        by_cases hlt : i < l.length
        · have r1 := R.bytesRow_at hlt
          have hlb : p + i < b.length := by omega
          have hlb' : (p : Int) + (i : Int) < (b.length : Int) := by omega
          have hp0 : 0 ≤ (p : Int) + (i : Int) := by omega
          have r2 : rowAt (bytesRow b) ((p : Int) + (i : Int)) = [.int .u8 (b[p + i].toNat : Int)] := by
            have := R.bytesRow_at hlb
            simpa using this
          have hdl : i < (b.drop p).length := by simp; omega
          simp (config := { maxSteps := 3000000 }) [w2, w3, hlt, hlb, hlb', hp0, r1, r2]
          have hg : (b.drop p)[i] = b[p + i] := by rw [List.getElem_drop]
          refine ⟨fun hne => ?_, fun he => ⟨i + 1, ⟨by omega, ?_⟩, by omega, by omega⟩⟩
          · unfold standB
            rw [decide_eq_false_iff_not]
            rintro ⟨_, e⟩
            refine hne ?_
            have e2 : ((b.drop p).take l.length)[i]? = l[i]? := by rw [e]
            rw [List.getElem?_take, if_pos hlt, List.getElem?_eq_getElem hdl, List.getElem?_eq_getElem hlt, hg] at e2
            simp only [Option.some.injEq] at e2
            rw [e2]
          · rw [List.take_succ_eq_append_getElem hlt, List.take_succ_eq_append_getElem hdl, ht, hg]
            congr 2
            exact UInt8.toNat_inj.1 (by omega)
        · simp (config := { maxSteps := 3000000 }) [hlt]
          unfold standB
          have hil : i = l.length := by omega
          rw [hil, List.take_length] at ht
          simp [hle, ht]
    · have hle' : (b.length : Int) < (p : Int) + (l.length : Int) := by omega
      have hno : standB b p l = false := by unfold standB; simp [hle]
      simp (config := { maxSteps := 3000000 }) [w1, hle', hno]
  · cases h

end Go.Proofs.Ytcgllachkjnlgaa.Ab
/- The chapter's examples come out as they should, if Diff does what the document says. -/
namespace Go.Proofs.Ytcgllachkjnlgaa.Ab
open Go Go.RowKit R
set_option linter.unusedVariables false
set_option linter.unusedSimpArgs false
set_option maxHeartbeats 4000000
set_option maxRecDepth 100000

noncomputable def GDiff : List AV → Option (Prop × AV)
  | [.pv (.str a), .pv (.str b)] => some (a.length ≤ 1000000 ∧ b.length ≤ 1000000, .fr 47 (rowsE (diffL a b)))
  | _ => none
@[simp] theorem GDiff_eq (a b : List UInt8) : GDiff [.pv (.str a), .pv (.str b)] = some (a.length ≤ 1000000 ∧ b.length ≤ 1000000, .fr 47 (rowsE (diffL a b))) := rfl

def Gworks : List AV → Option (Prop × AV)
  | [] => some (True, .pv (.bool true))
  | _ => none
@[simp] theorem Gworks_eq : Gworks [] = some (True, .pv (.bool true)) := rfl

theorem e_apply1 : applyL [104, 101, 108, 108, 111] [⟨1, 1, []⟩, ⟨3, 3, []⟩, ⟨2, 0, [105, 112, 112]⟩, ⟨1, 1, []⟩] = ([104, 105, 112, 112, 111], 0) := by decide
theorem e_apply2 : applyL [104, 101, 108, 108] [⟨1, 1, []⟩, ⟨3, 3, []⟩, ⟨2, 0, [105, 112, 112]⟩, ⟨1, 1, []⟩] = ([], 50) := by decide
theorem e_apply3 : applyL [104, 101, 108, 108, 111] [⟨1, 1, []⟩, ⟨3, 3, []⟩, ⟨2, 0, [105, 112, 112]⟩] = ([], 50) := by decide
theorem e_normal : normal [⟨1, 1, []⟩, ⟨3, 1, []⟩, ⟨2, 0, [97]⟩, ⟨1, 2, []⟩, ⟨1, 1, []⟩] = ([⟨1, 1, []⟩, ⟨2, 0, [97]⟩, ⟨3, 1, []⟩, ⟨1, 3, []⟩], 0) := by decide
theorem e_put : putL [⟨1, 5, []⟩, ⟨2, 0, [97, 98]⟩] = ([1, 5, 2, 2, 97, 98], 0) := by
  have h1 : rightL [⟨1, 5, []⟩, ⟨2, 0, [97, 98]⟩] = true := by decide
  have h2 : vput 5 = [5] := vput_small (by omega)
  have h3 : vput 2 = [2] := vput_small (by omega)
  simp [putL, h1, putB, putE, vtext, h2, h3]
theorem e_diff1 : diffL [104, 101, 108, 108, 111] [104, 105, 112, 112, 111] = [⟨1, 1, []⟩, ⟨2, 0, [105, 112, 112]⟩, ⟨3, 3, []⟩, ⟨1, 1, []⟩] := by decide
theorem e_diff2 : diffL [97, 97] [97, 97, 97] = [⟨1, 2, []⟩, ⟨2, 0, [97]⟩] := by decide

end Go.Proofs.Ytcgllachkjnlgaa.Ab
/- slices.DeleteFunc on edits: what may not be is left out; in place. -/
namespace Go.Proofs.Ytcgllachkjnlgaa.Ab
open Go Go.RowKit R
set_option linter.unusedVariables false
set_option linter.unusedSimpArgs false
set_option maxHeartbeats 4000000
set_option maxRecDepth 100000

theorem wrongIdx_filter {l : List Ed} {k : Nat} (h : wrongIdx l = (k : Int)) : k < l.length ∧ (l.take (k + 1)).filter rightE = l.take k := by
  unfold wrongIdx at h
  split at h
  · rename_i hlt
    have hk : l.findIdx (fun e => !rightE e) = k := by omega
    rw [hk] at hlt
    refine ⟨hlt, ?_⟩
    obtain ⟨h1, h2⟩ := (List.findIdx_eq hlt).1 hk
    rw [List.take_succ_eq_append_getElem hlt, List.filter_append]
    have hf : (l.take k).filter rightE = l.take k := by
      rw [List.filter_eq_self]
      intro e he
      rw [List.mem_take_iff_getElem] at he
      obtain ⟨j, hj, rfl⟩ := he
      have := h2 j (by omega)
      simpa using this
    rw [hf]
    have : rightE l[k] = false := by simpa using h1
    simp [this]
  · omega
theorem rowsE_set (l : List Ed) (i : Nat) (e : Ed) : (rowsE l).set i [.int .u8 (e.k.toNat : Int), .int .i64 e.n, .str e.t] = rowsE (l.set i e) := by
  unfold rowsE
  rw [List.map_set]
  rfl

noncomputable def GdelF : List AV → Option (Prop × AV)
  | [.fr e a, .clo f []] => if e = 47 ∧ f = 49 then (dec rowE a).map fun l => (l.length ≤ 1000000, .fr 47 (rowsE (l.filter rightE))) else none
  | _ => none
@[simp] theorem GdelF_eq (e : TypeId) (a : List (List PV)) (f : FuncId) : GdelF [.fr e a, .clo f []] = if e = 47 ∧ f = 49 then (dec rowE a).map fun l => (l.length ≤ 1000000, .fr 47 (rowsE (l.filter rightE))) else none := rfl

theorem c_delF : ConTU Try.prog 48 GdelF := by
  intro ys φ r h hφ
  unfold GdelF at h
  split at h
  · rename_i e ra f
    split at h
    · rename_i hef
      obtain ⟨rfl, rfl⟩ := hef
      obtain ⟨a, ha, h⟩ := Option.map_eq_some_iff.1 h
      cases h
      cases dec_rowsE_inv ha
      refine con_ofU (tab_cons c_index (tab_cons c_wrong3 tab_nil)) (by kernel_rfl) fn48 (by simp) (by simp [resOK, res1, resC]) (by simp) ?_
      unfold body48
      have hl9 : a.length ≤ 1000000000 := by omega
      by_cases hr : rightL a = true
      · have hw := wrongIdx_none hr
        have hfil : a.filter rightE = a := by
          rw [List.filter_eq_self]; intro e he; unfold rightL at hr; exact (List.all_eq_true.1 hr) e he
        simp (config := { maxSteps := 3000000 }) [hw, hfil, hl9]
      · have hw : 0 ≤ wrongIdx a := by rw [wrongIdx_neg]; simpa using hr
        obtain ⟨k, hk⟩ := Int.eq_ofNat_of_zero_le hw
        obtain ⟨hkl, hkf⟩ := wrongIdx_filter hk
        have hne : ¬ ((k : Int) = -1) := by omega
        have w1 : IntKind.i64.wrap ((k : Int) + 1) = (k : Int) + 1 := wrap_i64 (by omega)
        simp (config := { maxSteps := 3000000 }) [hk, hne, w1, hl9]
        refine vwp_loop (fun x : Nat × Nat × List Ed => x.1 < x.2.1 ∧ x.2.1 ≤ a.length ∧ x.2.2.length = a.length ∧ x.2.2.take x.1 = (a.take x.2.1).filter rightE ∧ x.2.2.drop x.2.1 = a.drop x.2.1)
          (fun x => ⟨[(0, .own 998), (1, .clo 49 []), (5, .pv (.int .i64 x.1)), (6, .pv (.int .i64 x.2.1))], [(998, .arr 47 (rowsE x.2.2))]⟩) (fun x => a.length - x.2.1) [] (k, k + 1, a) ?_ ?_ ?_
        · exact ⟨by simp, by simp; omega, rfl, by simp [hkf], rfl⟩
        · simp
        · rintro ⟨i, j, b⟩ ⟨h1, h2, h3, h4, h5⟩
          dsimp only at h1 h2 h3 h4 h5
          have w2 : IntKind.i64.wrap ((j : Int) + 1) = (j : Int) + 1 := wrap_i64 (by omega)
          have w3 : IntKind.i64.wrap ((i : Int) + 1) = (i : Int) + 1 := wrap_i64 (by omega)
          by_cases hlt : j < a.length
          · have hjb : j < b.length := by omega
            have hib : i < b.length := by omega
            have hbj : b[j] = a[j] := by
              have e1 := List.drop_eq_getElem_cons hjb
              have e2 := List.drop_eq_getElem_cons hlt
              rw [h5, e2] at e1
              injection e1 with e1 _; exact e1.symm
            have r1 := rowsE_at hjb
            rw [hbj] at r1
            have r2 := rowsE_at hib
            have hib' : (i : Int) < a.length := by omega
            have hdrop : ∀ e, (b.set i e).drop (j + 1) = a.drop (j + 1) := by
              intro e
              rw [List.drop_set_of_lt (by omega)]
              have e1 : (b.drop j).drop 1 = (a.drop j).drop 1 := by rw [h5]
              simpa [List.drop_drop] using e1
            by_cases hq : rightE a[j] = true
            · simp (config := { maxSteps := 3000000 }) [w2, w3, hlt, hjb, r1, r2, h3, rightE_eq, hq, rowsE_set, hib']
              refine ⟨isfn3, by omega, i + 1, j + 1, b.set i a[j], ⟨by omega, by omega, by simp [h3], ?_, hdrop _⟩, ⟨⟨by omega, by omega⟩, rfl⟩, by omega⟩
              rw [List.take_succ_eq_append_getElem hlt, List.filter_append, ← h4, List.take_succ_eq_append_getElem (by simp; omega)]
              simp [hq, List.take_set_of_le]
            · have hq' : rightE a[j] = false := by simpa using hq
              simp (config := { maxSteps := 3000000 }) [w2, w3, hlt, hjb, r1, r2, h3, rightE_eq, hq', rowsE_set, hib']
              refine ⟨isfn3, i, j + 1, b, ⟨by omega, by omega, h3, ?_, ?_⟩, ⟨⟨rfl, by omega⟩, rfl⟩, by omega⟩
              · rw [List.take_succ_eq_append_getElem hlt, List.filter_append, ← h4]
                simp [hq']
              · have e1 : (b.drop j).drop 1 = (a.drop j).drop 1 := by rw [h5]
                simpa [List.drop_drop] using e1
          · simp (config := { maxSteps := 3000000 }) [hlt, h3]
            have hja : j = a.length := by omega
            subst hja
            rw [List.take_length] at h4
            have h3r := rowsE_three b
            refine ⟨⟨by omega, h3r⟩, ⟨by omega, ?_⟩, ?_⟩
            · rintro x (hx | ⟨_, rfl⟩ | hx)
              · exact h3r x (List.mem_of_mem_take hx)
              · rfl
              · exact h3r x (List.mem_of_mem_drop hx)
            · rw [List.take_append_of_le_length (by simp; omega), List.take_take, Nat.min_self, ← h4]
              simp [rowsE, List.map_take]
    · cases h
  · cases h

end Go.Proofs.Ytcgllachkjnlgaa.Ab
/- The difference of two texts. -/
namespace Go.Proofs.Ytcgllachkjnlgaa.Ab
open Go Go.RowKit R
set_option linter.unusedVariables false
set_option linter.unusedSimpArgs false
set_option maxHeartbeats 4000000
set_option maxRecDepth 100000

theorem rawDiff_filter (a b : List UInt8) (h : a.length ≤ 1000000 ∧ b.length ≤ 1000000) : ([⟨1, (headN a b : Nat), []⟩, ⟨2, 0, (b.drop (headN a b)).take ((b.drop (headN a b)).length - tailN a b)⟩, ⟨3, ((a.drop (headN a b)).length : Int) - tailN a b, []⟩, ⟨1, (tailN a b : Nat), []⟩] : List Ed).filter rightE = rawDiff a b := by
  obtain ⟨h1, h2⟩ := tail_le a b
  have r1 : ∀ n : Nat, n ≤ 1000000 → rightE ⟨1, (n : Int), []⟩ = decide (0 < n) := by
    intro n hn
    unfold rightE rightI
    by_cases h0 : 0 < n
    · simp [h0]; omega
    · simp [h0]; omega
  have r2 : ∀ t : List UInt8, rightE ⟨2, 0, t⟩ = decide (0 < t.length) := by
    intro t
    unfold rightE rightI
    cases t <;> simp
  have r3 : rightE ⟨3, ((a.drop (headN a b)).length : Int) - tailN a b, []⟩ = decide (headN a b + tailN a b < a.length) := by
    unfold rightE rightI
    simp
    by_cases h0 : headN a b + tailN a b < a.length
    · simp [h0]; omega
    · simp [h0]; omega
  have e2 : (b.drop (headN a b)).take ((b.drop (headN a b)).length - tailN a b) = (b.take (b.length - tailN a b)).drop (headN a b) := by
    rw [List.drop_take, List.length_drop]
    congr 1
    omega
  have l2 : ((b.take (b.length - tailN a b)).drop (headN a b)).length = b.length - tailN a b - headN a b := by simp
  have r2' : rightE ⟨2, 0, (b.take (b.length - tailN a b)).drop (headN a b)⟩ = decide (headN a b + tailN a b < b.length) := by
    rw [r2, l2]
    by_cases k : headN a b + tailN a b < b.length
    · simp [k]; omega
    · simp [k]; omega
  have e3 : ((a.drop (headN a b)).length : Int) - tailN a b = (a.length : Int) - headN a b - tailN a b := by simp; omega
  rw [e3] at r3 ⊢
  simp only [List.filter_cons, List.filter_nil, r1 (headN a b) (by omega), r1 (tailN a b) (by omega), r3, e2, r2']
  unfold rawDiff
  by_cases k1 : 0 < headN a b <;> by_cases k2 : headN a b + tailN a b < b.length <;> by_cases k3 : headN a b + tailN a b < a.length <;> by_cases k4 : 0 < tailN a b <;> simp [k1, k2, k3, k4]

theorem flat_rowsE (l : List Ed) : flatRows (rowsE l) := by
  intro r hr p hp
  simp only [rowsE, List.mem_map] at hr
  obtain ⟨e, _, rfl⟩ := hr
  simp only [rowE, List.mem_cons, List.not_mem_nil, or_false] at hp
  rcases hp with rfl | rfl | rfl <;> rfl

theorem c_diff : ConT Try.prog 23 GDiff := by
  intro ys φ r h hφ
  unfold GDiff at h
  split at h
  · rename_i a b
    cases h
    obtain ⟨ha, hb⟩ := hφ
    refine con_of (tab_cons c_common (tab_cons c_clone (tab_consU (p := 0) (k := 998) c_delF (by kernel_rfl) (tab_cons c_normal tab_nil)))) (by kernel_rfl) fn23 (by simp) ?_
    unfold body23
    obtain ⟨h1, h2⟩ := tail_le a b
    have hf := rawDiff_filter a b ⟨ha, hb⟩
    have hok := rawDiff_ok a b ⟨ha, hb⟩
    have ha9 : a.length ≤ 1000000000 := by omega
    have hb9 : b.length ≤ 1000000000 := by omega
    have hh : lcp a b = headN a b := rfl
    have ht : lcp (a.drop (headN a b)).reverse (b.drop (headN a b)).reverse = tailN a b := rfl
    have wb : IntKind.i64.wrap (((b.length - headN a b : Nat) : Int) - (tailN a b : Int)) = ((b.length - headN a b - tailN a b : Nat) : Int) := by
      rw [show (((b.length - headN a b : Nat) : Int) - (tailN a b : Int)) = ((b.length - headN a b - tailN a b : Nat) : Int) from by omega]
      exact wrap_i64 (by omega)
    have wa : IntKind.i64.wrap (((a.length - headN a b : Nat) : Int) - (tailN a b : Int)) = ((a.length - headN a b - tailN a b : Nat) : Int) := by
      rw [show (((a.length - headN a b : Nat) : Int) - (tailN a b : Int)) = ((a.length - headN a b - tailN a b : Nat) : Int) from by omega]
      exact wrap_i64 (by omega)
    have hf' : ([⟨1, (headN a b : Nat), []⟩, ⟨2, 0, (b.drop (headN a b)).take (b.length - headN a b - tailN a b)⟩, ⟨3, ((a.length - headN a b - tailN a b : Nat) : Int), []⟩, ⟨1, (tailN a b : Nat), []⟩] : List Ed).filter rightE = rawDiff a b := by
      rw [← hf, List.length_drop, List.length_drop]
      rw [show (((a.length - headN a b - tailN a b : Nat) : Int)) = ((a.length - headN a b : Nat) : Int) - (tailN a b : Int) from by omega]
    clear hf
    simp (config := { maxSteps := 3000000 }) [ha9, hb9, hh, ht, cut, wb, wa, dec_1, dec_2, dec_3, hf', hok, diffL, shM_look]
    exact ⟨by omega, by omega, ⟨by omega, by omega⟩, by omega, flat_rowsE _⟩
  · cases h

end Go.Proofs.Ytcgllachkjnlgaa.Ab
/- The chapter's examples come out as they should. -/
namespace Go.Proofs.Ytcgllachkjnlgaa.Ab
open Go Go.RowKit R
set_option linter.unusedVariables false
set_option linter.unusedSimpArgs false
set_option maxHeartbeats 40000000
set_option maxRecDepth 100000

theorem c_works : ConT Try.prog 9 Gworks := by
  intro ys φ r h hφ
  unfold Gworks at h
  split at h
  · cases h
    refine con_of (tab_cons c_retain (tab_cons c_insert (tab_cons c_drop (tab_cons c_apply (tab_cons c_normal (tab_cons c_Put (tab_cons c_same (tab_cons c_refs (tab_cons c_sameB (tab_cons c_diff tab_nil)))))))))) (by kernel_rfl) L.fn9 (by simp) ?_
    unfold L.body9
    have hl : ∀ (e : Ed) (l : List Ed), rowsE (e :: l) = [.int .u8 (e.k.toNat : Int), .int .i64 e.n, .str e.t] :: rowsE l := fun e l => rfl
    have hb : dec byteR [[.int .u8 1], [.int .u8 5], [.int .u8 2], [.int .u8 2], [.int .u8 97], [.int .u8 98]] = some [1, 5, 2, 2, 97, 98] := dec_bytes [1, 5, 2, 2, 97, 98]
    apply vwp_cut
    · simp (config := { maxSteps := 3000000 }) [maxLen_eq]
      exact ⟨rfl, rfl⟩
    apply vwp_cut
    · simp (config := { maxSteps := 3000000 }) [dec_1, dec_2, dec_3, okA, okP, okL, hl, maxLen_eq, e_apply1]
      exact ⟨rfl, rfl⟩
    apply vwp_cut
    · simp (config := { maxSteps := 3000000 }) [dec_1, dec_2, dec_3, okA, okP, okL, hl, maxLen_eq, e_apply2]
      exact ⟨rfl, rfl⟩
    apply vwp_cut
    · simp (config := { maxSteps := 3000000 }) [dec_1, dec_2, dec_3, okA, okP, okL, hl, maxLen_eq, e_apply3]
      exact ⟨rfl, rfl⟩
    apply vwp_cut
    · simp (config := { maxSteps := 3000000 }) [dec_1, dec_2, dec_3, okA, okP, okL, hl, maxLen_eq, e_normal]
      refine ⟨?_, rfl, rfl⟩
      intro r hr p hp
      simp at hr
      rcases hr with rfl | rfl | rfl | rfl <;> simp at hp <;> rcases hp with rfl | rfl | rfl <;> rfl
    apply vwp_cut
    · simp (config := { maxSteps := 3000000 }) [dec_1, dec_2, dec_3, okA, okP, okL, hl, maxLen_eq, e_put]
      refine ⟨?_, rfl, rfl⟩
      intro r hr p hp
      simp [bytesRow] at hr
      rcases hr with rfl | rfl | rfl | rfl | rfl | rfl <;> simp at hp <;> subst hp <;> rfl
    refine (show stepsX _ _ _ _ _ from ?_)
    apply stepsX_spl 15 rfl rfl
    · simp (config := { maxSteps := 3000000 }) [dec_1, dec_2, dec_3, okA, okP, okL, hl, maxLen_eq, e_diff1, e_diff2, hb]
      exact ⟨rfl, rfl⟩
    apply stepsX_spl 10 rfl rfl
    · simp (config := { maxSteps := 3000000 }) [dec_1, dec_2, dec_3, okA, okP, okL, hl, maxLen_eq, e_diff1, e_diff2, hb]
      exact ⟨flat_rowsE [⟨1, 1, []⟩, ⟨2, 0, [97]⟩, ⟨3, 1, []⟩, ⟨1, 3, []⟩], rfl, rfl⟩
    apply stepsX_spl 10 rfl rfl
    · simp (config := { maxSteps := 3000000 }) [dec_1, dec_2, dec_3, okA, okP, okL, hl, maxLen_eq, e_diff1, e_diff2, hb]
      exact ⟨flat_rowsE [⟨1, 1, []⟩, ⟨2, 0, [105, 112, 112]⟩, ⟨3, 3, []⟩, ⟨1, 1, []⟩], rfl, rfl⟩
    apply stepsX_spl 8 rfl rfl
    · simp (config := { maxSteps := 3000000 }) [dec_1, dec_2, dec_3, okA, okP, okL, hl, maxLen_eq, e_diff1, e_diff2, hb]
      exact ⟨flat_rowsE [⟨1, 2, []⟩, ⟨2, 0, [97]⟩], rfl, rfl⟩
    simp (config := { maxSteps := 3000000 }) [dec_1, dec_2, dec_3, okA, okP, okL, hl, maxLen_eq, e_diff1, e_diff2, hb]
  · cases h

end Go.Proofs.Ytcgllachkjnlgaa.Ab
