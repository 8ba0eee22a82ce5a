/- Chapter 17: Rename, as the program and the reference do it. -/
import Derived.Test.YtfpmjcdcpicmaaaC3
namespace Go.Proofs.Ytfpmjcdcpicmaaa.Ab
open Go Go.RowKit R
set_option linter.unusedVariables false
set_option linter.unusedSimpArgs false
set_option maxHeartbeats 8000000
set_option maxRecDepth 100000

theorem right_without {l : List En} (s : List UInt8) (hr : rightC l = true) : rightC (withoutC l s) = true := by
  rw [rightC_iff] at hr ⊢
  exact ⟨fun e he => hr.1 e (List.mem_filter.1 he).1, hr.2.filter _⟩
theorem found_without {l : List En} {s t : List UInt8} (hr : rightC l = true) (h : foundC l t = false) : foundC (withoutC l s) t = false := by
  cases hf : foundC (withoutC l s) t with
  | false => rfl
  | true =>
    obtain ⟨e, he, hn⟩ := (found_iff (right_without s hr)).1 hf
    have := (found_iff (s := t) hr).2 ⟨e, (List.mem_filter.1 he).1, hn⟩
    rw [h] at this; cases this
theorem id_without {l : List En} {s : List UInt8} (hr : rightC l = true) {e : En} (he : e ∈ l) (hs : e.n = s) : idC (withoutC l s) e.i = false := by
  unfold idC
  rw [List.any_eq_false]
  intro x hx hi
  have hxl := (List.mem_filter.1 hx).1
  have hxn : ¬ x.n = s := by simpa using (List.mem_filter.1 hx).2
  have hi' : x.i = e.i := by simpa using hi
  obtain ⟨j, hj, rfl⟩ := List.getElem_of_mem hxl
  obtain ⟨k, hk, rfl⟩ := List.getElem_of_mem he
  rcases Nat.lt_trichotomy j k with h | h | h
  · exact (right_lt hr hk h).2 hi'
  · subst h; exact hxn hs
  · exact (right_lt hr hj h).2 hi'.symm
theorem bind_without {l : List En} {s t : List UInt8} (hr : rightC l = true) (hlt : lb l s < l.length) (hs : l[lb l s].n = s) (ht : okNm t = true) (hf : foundC l t = false) :
    bindC (withoutC l s) t l[lb l s].i = (putC (withoutC l s) ⟨t, l[lb l s].i⟩, 0) := by
  have hg := getC_none (right_without s hr) ht (found_without (s := s) hr hf)
  have hid := id_without hr (List.getElem_mem hlt) hs
  have h0 : l[lb l s].i ≠ 0 := ((rightC_iff l).1 hr).1 _ (List.getElem_mem hlt) |>.2
  unfold bindC
  rw [hg, if_neg (by simp), if_neg (by simp), if_neg (by simp [hid, h0])]
def renC (l : List En) (s t : List UInt8) : List En × Int :=
  if rightC l = true ∧ (okNm s = false ∨ okNm t = false) then ([], 170) else if (getC l s).2 ≠ 0 then ([], (getC l s).2) else if (getC l t).2 = 0 then ([], 81) else (putC (withoutC l s) ⟨t, (getC l s).1⟩, 0)

noncomputable def GRen : List AV → Option (Prop × AV)
  | [.pv (.ro a), .pv (.str s), .pv (.str t)] => (dec rowC a).map fun l => (l.length ≤ 100000, .tup [.fr 51 (rowsC (renC l s t).1), .pv (.int .i64 (renC l s t).2)])
  | _ => none
@[simp] theorem GRen_eq (a : List (List PV)) (s t : List UInt8) : GRen [.pv (.ro a), .pv (.str s), .pv (.str t)] = (dec rowC a).map fun l => (l.length ≤ 100000, .tup [.fr 51 (rowsC (renC l s t).1), .pv (.int .i64 (renC l s t).2)]) := rfl
noncomputable def GrRen : List AV → Option (Prop × AV)
  | [.pv (.ro a), .pv (.str s), .pv (.str t)] => (dec rowC a).map fun l => (l.length ≤ 100000, .tup [.fr 147 (rowsC (renC l s t).1), .pv (.int .i64 (renC l s t).2)])
  | _ => none
@[simp] theorem GrRen_eq (a : List (List PV)) (s t : List UInt8) : GrRen [.pv (.ro a), .pv (.str s), .pv (.str t)] = (dec rowC a).map fun l => (l.length ≤ 100000, .tup [.fr 147 (rowsC (renC l s t).1), .pv (.int .i64 (renC l s t).2)]) := rfl

theorem c_Ren : ConT Try.prog 25 GRen := by
  intro ys φ r h hφ
  unfold GRen at h
  split at h
  · rename_i ra s t
    obtain ⟨a, ha, h⟩ := Option.map_eq_some_iff.1 h
    cases h
    cases dec_rowsC_inv ha
    have hl9 : a.length ≤ 1000000000 := by omega
    have hl5 : a.length ≤ 100000 := hφ
    have hw5 : (withoutC a s).length ≤ 100000 := by have := without_len a s; omega
    have hinf : (Try.prog.info? 51).isSome = true := by kernel_rfl
    have fl : ∀ l, flatRows (rowsC l) := flat_rowsC
    refine con_of (tab_cons c_May (tab_cons c_Get (tab_cons c_plc (tab_cons c_Unb (tab_cons c_Bind tab_nil))))) (by kernel_rfl) fn25 (by simp) ?_
    unfold body25
    rcases getC_cases a s with ⟨hr, hg⟩ | ⟨hr, hn, hg⟩ | ⟨hr, hn, hf, hg⟩ | ⟨hr, hn, hf, hlt, hg, hs⟩
    · have hb : renC a s t = ([], 2) := by unfold renC; rw [hg]; simp [hr]
      simp (config := { maxSteps := 3000000 }) [hl9, mayC, hr, hb, hinf]
    · have hb : renC a s t = ([], 170) := by unfold renC; simp [hr, hn]
      simp (config := { maxSteps := 3000000 }) [hl9, mayC, hr, hn, hb, hinf]
    · cases ht : okNm t with
      | false =>
        have hb : renC a s t = ([], 170) := by unfold renC; simp [hr, ht]
        simp (config := { maxSteps := 3000000 }) [hl9, mayC, hr, hn, ht, hb, hinf]
      | true =>
        have hb : renC a s t = ([], 80) := by unfold renC; rw [hg]; simp [hr, hn, ht]
        simp (config := { maxSteps := 3000000 }) [hl9, mayC, hr, hn, ht, hg, hb, hinf]
    · cases ht : okNm t with
      | false =>
        have hb : renC a s t = ([], 170) := by unfold renC; simp [hr, ht]
        simp (config := { maxSteps := 3000000 }) [hl9, mayC, hr, hn, ht, hb, hinf]
      | true =>
        cases hft : foundC a t with
        | true =>
          have hgt := (getC_found hr ht hft).2.1
          have hb : renC a s t = ([], 81) := by unfold renC; rw [hg, hgt]; simp [hr, hn, ht]
          simp (config := { maxSteps := 3000000 }) [hl9, mayC, hr, hn, ht, hg, hft, hb, hinf]
        | false =>
          have hgt := getC_none hr ht hft
          have hb : renC a s t = (putC (withoutC a s) ⟨t, a[lb a s].i⟩, 0) := by unfold renC; rw [hg, hgt]; simp [hr, hn, ht]
          have hu : unbC a s = (withoutC a s, 0) := by unfold unbC; rw [hg]; simp
          have hbw := bind_without hr hlt hs ht hft
          simp (config := { maxSteps := 3000000 }) [hl9, hl5, hw5, mayC, hr, hn, ht, hg, hft, hb, hinf, hu, hbw, fl]
  · cases h
theorem c_rRen : ConT Try.prog 26 GrRen := by
  intro ys φ r h hφ
  unfold GrRen at h
  split at h
  · rename_i ra s t
    obtain ⟨a, ha, h⟩ := Option.map_eq_some_iff.1 h
    cases h
    cases dec_rowsC_inv ha
    have hl9 : a.length ≤ 1000000000 := by omega
    have hl6 : a.length ≤ 1000000 := by omega
    have hw6 : (withoutC a s).length ≤ 1000000 := by have := without_len a s; omega
    have hinf : (Try.prog.info? 147).isSome = true := by kernel_rfl
    have fl : ∀ l, flatRows (rowsC l) := flat_rowsC
    refine con_of (tab_cons c_rRt (tab_cons c_rNm (tab_cons c_rGet (tab_cons c_rWo (tab_cons c_rPutC tab_nil))))) (by kernel_rfl) fn26 (by simp) ?_
    unfold body26
    rcases getC_cases a s with ⟨hr, hg⟩ | ⟨hr, hn, hg⟩ | ⟨hr, hn, hf, hg⟩ | ⟨hr, hn, hf, hlt, hg, hs⟩
    · have hb : renC a s t = ([], 2) := by unfold renC; rw [hg]; simp [hr]
      simp (config := { maxSteps := 3000000 }) [hl9, hr, hg, hb, hinf]
    · have hb : renC a s t = ([], 170) := by unfold renC; simp [hr, hn]
      simp (config := { maxSteps := 3000000 }) [hl9, hr, hn, hb, hinf]
    · cases ht : okNm t with
      | false =>
        have hb : renC a s t = ([], 170) := by unfold renC; simp [hr, ht]
        simp (config := { maxSteps := 3000000 }) [hl9, hr, hn, ht, hb, hinf]
      | true =>
        have hb : renC a s t = ([], 80) := by unfold renC; rw [hg]; simp [hr, hn, ht]
        simp (config := { maxSteps := 3000000 }) [hl9, hr, hn, ht, hg, hb, hinf]
    · cases ht : okNm t with
      | false =>
        have hb : renC a s t = ([], 170) := by unfold renC; simp [hr, ht]
        simp (config := { maxSteps := 3000000 }) [hl9, hr, hn, ht, hb, hinf]
      | true =>
        cases hft : foundC a t with
        | true =>
          have hgt := (getC_found hr ht hft).2.1
          have hb : renC a s t = ([], 81) := by unfold renC; rw [hg, hgt]; simp [hr, hn, ht]
          simp (config := { maxSteps := 3000000 }) [hl9, hr, hn, ht, hg, hgt, hb, hinf]
        | false =>
          have hgt := getC_none hr ht hft
          have hb : renC a s t = (putC (withoutC a s) ⟨t, a[lb a s].i⟩, 0) := by unfold renC; rw [hg, hgt]; simp [hr, hn, ht]
          have hw := right_without s hr
          have hfw := found_without (s := s) hr hft
          simp (config := { maxSteps := 3000000 }) [hl9, hl6, hw6, hr, hn, ht, hg, hgt, hb, hinf, hw, hfw, fl]
  · cases h

end Go.Proofs.Ytfpmjcdcpicmaaa.Ab
