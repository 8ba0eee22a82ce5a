/- Chapter 17: catalogs written, as the program and the reference do it. -/
import Derived.Test.YtfpmjcdcpicmaaaC2
namespace Go.Proofs.Ytfpmjcdcpicmaaa.Ab
open Go Go.RowKit R
set_option linter.unusedVariables false
set_option linter.unusedSimpArgs false
set_option maxHeartbeats 4000000
set_option maxRecDepth 100000

def okI (e : En) : Prop := 0 ≤ e.i ∧ e.i ≤ 18446744073709551615
def entB (e : En) : List UInt8 := vtext e.n ++ vputP e.i
def entsB (l : List En) : List UInt8 := l.flatMap entB
def allC (l : List En) : List UInt8 := vputP l.length ++ entsB l
def putCt (l : List En) : List UInt8 × Int := if rightC l then (allC l, 0) else ([], 2)
theorem vputP_len' {n : Int} (h : 0 ≤ n ∧ n ≤ 18446744073709551615) : (vputP n).length ≤ 10 := vput_le10 (by omega)
theorem entB_len {e : En} (h : okI e) (hn : e.n.length ≤ 64) : (entB e).length ≤ 84 := by
  have h1 := vputP_len' h
  have h2 := vput_le10 (n := e.n.length) (by omega)
  simp only [entB, vtext, List.length_append]
  omega
theorem entsB_len : ∀ {l : List En}, (∀ e ∈ l, okI e ∧ e.n.length ≤ 64) → (entsB l).length ≤ 84 * l.length
  | [], _ => by simp [entsB]
  | n :: l, h => by
    have h1 := entB_len (h n (by simp)).1 (h n (by simp)).2
    have h2 := entsB_len (l := l) fun m hm => h m (by simp [hm])
    unfold entsB at h2 ⊢
    simp only [List.flatMap_cons, List.length_append, List.length_cons]
    omega
theorem entsB_snoc (l : List En) (e : En) : entsB (l ++ [e]) = entsB l ++ entB e := by simp [entsB]
theorem flat_bytesC (l : List UInt8) : flatRows (bytesRow l) := by
  intro r hr p hp
  simp only [bytesRow, List.mem_map] at hr
  obtain ⟨c, _, rfl⟩ := hr
  simp only [List.mem_singleton] at hp
  subst hp; rfl
theorem right_nm {l : List En} (h : rightC l = true) : ∀ e ∈ l, e.n.length ≤ 64 := by
  intro e he
  have := (((rightC_iff l).1 h).1 e he).1
  simp only [okNm, Bool.and_eq_true, decide_eq_true_eq] at this
  exact this.2

noncomputable def GCput : List AV → Option (Prop × AV)
  | [.pv (.ro a)] => (dec rowC a).map fun l => (l.length ≤ 1000000 ∧ (∀ e ∈ l, okI e), .tup [.fr 5 (bytesRow (putCt l).1), .pv (.int .i64 (putCt l).2)])
  | _ => none
@[simp] theorem GCput_eq (a : List (List PV)) : GCput [.pv (.ro a)] = (dec rowC a).map fun l => (l.length ≤ 1000000 ∧ (∀ e ∈ l, okI e), .tup [.fr 5 (bytesRow (putCt l).1), .pv (.int .i64 (putCt l).2)]) := rfl
theorem c_Cput : ConT Try.prog 35 GCput := by
  intro ys φ r h hφ
  unfold GCput at h
  split at h
  · rename_i ra
    obtain ⟨a, ha, h⟩ := Option.map_eq_some_iff.1 h
    cases h
    cases dec_rowsC_inv ha
    obtain ⟨hl, hn⟩ := hφ
    refine con_of (tab_cons c_Rt (tab_cons c_put (tab_cons c_text tab_nil))) (by kernel_rfl) fn35 (by simp) ?_
    unfold body35
    have hl9 : a.length ≤ 1000000000 := by omega
    cases hr : rightC a with
    | false =>
      have hp : putCt a = ([], 2) := by simp [putCt, hr]
      simp (config := { maxSteps := 3000000 }) [hl9, hr, hp]
    | true =>
    have hp : putCt a = (allC a, 0) := by simp [putCt, hr]
    have hnm := right_nm hr
    have wl : IntKind.u64.wrap (a.length : Int) = (a.length : Int) := wrap_u64 (by omega)
    have l0 : (0 : Int) ≤ (a.length : Int) := by omega
    have l1 : (a.length : Int) ≤ 18446744073709551615 := by omega
    have hv := vputP_len' (n := (a.length : Int)) ⟨by omega, by omega⟩
    simp (config := { maxSteps := 3000000 }) [wl, l0, l1, hl9, hr, hp]
    refine vwp_loop (fun i : Nat => i ≤ a.length) (fun i => ⟨[(4, .own 13), (14, .pv (.ro (rowsC a))), (15, .pv (.int .i64 a.length)), (16, .pv (.int .i64 i))], [(13, .arr 5 (bytesRow (vputP a.length ++ entsB (a.take i))))]⟩) (fun i => a.length - i) [] 0 (by simp) ?_ ?_
    · simp [entsB]
    · rintro i hi
      have w2 : IntKind.i64.wrap ((i : Int) + 1) = (i : Int) + 1 := wrap_i64 (by omega)
      by_cases hlt : i < a.length
      · have r1 := rowsC_at hlt
        have ho := hn _ (List.getElem_mem hlt)
        have hm := hnm _ (List.getElem_mem hlt)
        have h1 := entB_len ho hm
        have h2 := entsB_len (l := a.take i) fun n h => ⟨hn n (List.mem_of_mem_take h), hnm n (List.mem_of_mem_take h)⟩
        rw [List.length_take] at h2
        have h3 : (entB a[i]).length = (vtext a[i].n).length + (vputP a[i].i).length := by simp [entB]
        have hm6 : a[i].n.length ≤ 1000000 := by omega
        obtain ⟨o1, o2⟩ := ho
        simp (config := { maxSteps := 3000000 }) [w2, hlt, r1, maxLen_eq, o1, o2, hm6]
        refine ⟨⟨by omega, by omega, bytesRow_one _⟩, ⟨by omega, by omega, bytesRow_one _⟩, i + 1, by omega, ⟨by omega, ?_⟩, by omega⟩
        rw [List.take_succ_eq_append_getElem hlt, entsB_snoc]
        simp only [bytesRow_append, entB, List.append_assoc]
      · simp (config := { maxSteps := 3000000 }) [hlt]
        rw [List.take_of_length_le (by omega)]
        rfl
  · cases h

theorem c_rCput : ConT Try.prog 36 GCput := by
  intro ys φ r h hφ
  unfold GCput at h
  split at h
  · rename_i ra
    obtain ⟨a, ha, h⟩ := Option.map_eq_some_iff.1 h
    cases h
    cases dec_rowsC_inv ha
    obtain ⟨hl, hn⟩ := hφ
    refine con_of (tab_cons c_rRt (tab_cons c_rput (tab_cons c_rtext tab_nil))) (by kernel_rfl) fn36 (by simp) ?_
    unfold body36
    have hl9 : a.length ≤ 1000000000 := by omega
    cases hr : rightC a with
    | false =>
      have hp : putCt a = ([], 2) := by simp [putCt, hr]
      simp (config := { maxSteps := 3000000 }) [hl9, hr, hp]
    | true =>
    have hp : putCt a = (allC a, 0) := by simp [putCt, hr]
    have hnm := right_nm hr
    have wl : IntKind.u64.wrap (a.length : Int) = (a.length : Int) := wrap_u64 (by omega)
    have l0 : (0 : Int) ≤ (a.length : Int) := by omega
    have l1 : (a.length : Int) ≤ 18446744073709551615 := by omega
    have hv := vputP_len' (n := (a.length : Int)) ⟨by omega, by omega⟩
    simp (config := { maxSteps := 3000000 }) [wl, l0, l1, hl9, hr, hp]
    refine vwp_loop (fun i : Nat => i ≤ a.length) (fun i => ⟨[(0, .pv (.ro (rowsC a))), (4, .own 12), (5, .pv (.int .i64 i))], [(12, .arr 5 (bytesRow (vputP a.length ++ entsB (a.take i))))]⟩) (fun i => a.length - i) [] 0 (by simp) ?_ ?_
    · simp [entsB]
    · rintro i hi
      have w2 : IntKind.i64.wrap ((i : Int) + 1) = (i : Int) + 1 := wrap_i64 (by omega)
      by_cases hlt : i < a.length
      · have r1 := rowsC_at hlt
        have ho := hn _ (List.getElem_mem hlt)
        have hm := hnm _ (List.getElem_mem hlt)
        have h1 := entB_len ho hm
        have h2 := entsB_len (l := a.take i) fun n h => ⟨hn n (List.mem_of_mem_take h), hnm n (List.mem_of_mem_take h)⟩
        rw [List.length_take] at h2
        have h3 : (entB a[i]).length = (vtext a[i].n).length + (vputP a[i].i).length := by simp [entB]
        have hm6 : a[i].n.length ≤ 1000000 := by omega
        obtain ⟨o1, o2⟩ := ho
        simp (config := { maxSteps := 3000000 }) [w2, hlt, r1, maxLen_eq, o1, o2, hm6]
        refine ⟨⟨by omega, by omega, bytesRow_one _⟩, ⟨by omega, by omega, bytesRow_one _⟩, i + 1, by omega, ⟨by omega, ?_⟩, by omega⟩
        rw [List.take_succ_eq_append_getElem hlt, entsB_snoc]
        simp only [bytesRow_append, entB, List.append_assoc]
      · simp (config := { maxSteps := 3000000 }) [hlt]
        rw [List.take_of_length_le (by omega)]
        rfl
  · cases h

end Go.Proofs.Ytfpmjcdcpicmaaa.Ab
