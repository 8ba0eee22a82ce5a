/- Edits written. -/
import Derived.Test.YtcgllachkjnlgaaD10
namespace Go.Proofs.Ytcgllachkjnlgaa.Ab
open Go Go.RowKit R
set_option linter.unusedVariables false
set_option linter.unusedSimpArgs false
set_option maxHeartbeats 4000000
set_option maxRecDepth 100000

def putE (e : Ed) : List UInt8 := e.k :: (if e.k = 2 then vtext e.t else vput e.n.toNat)
def putB (l : List Ed) : List UInt8 := l.flatMap putE
def putL (l : List Ed) : List UInt8 × Int := if rightL l = false then ([], 2) else (putB l, 0)
def okP (l : List Ed) : Prop := l.length ≤ 10000 ∧ ∀ e ∈ l, e.t.length ≤ 1000000
theorem putE_len {e : Ed} (h : e.t.length ≤ 1000000) (hr : rightE e = true) : (putE e).length ≤ 1000011 := by
  unfold putE
  split
  · have := vput_le10 (n := e.t.length) (by omega)
    unfold vtext
    simp; omega
  · have hn : e.n.toNat ≤ 2147483647 := by
      unfold rightE rightI at hr
      split at hr <;> simp only [Bool.and_eq_true, decide_eq_true_eq] at hr <;> omega
    have := vput_le10 (n := e.n.toNat) (by omega)
    simp; omega
theorem putB_len : ∀ {l : List Ed}, (∀ e ∈ l, e.t.length ≤ 1000000 ∧ rightE e = true) → (putB l).length ≤ 1000011 * l.length
  | [], _ => by simp [putB]
  | e :: l, h => by
    have h1 := putB_len (l := l) fun x hx => h x (by simp [hx])
    have h2 := putE_len (h e (by simp)).1 (h e (by simp)).2
    unfold putB at h1 ⊢
    simp only [List.flatMap_cons, List.length_append, List.length_cons]
    omega
theorem putB_snoc (l : List Ed) (e : Ed) : putB (l ++ [e]) = putB l ++ putE e := by simp [putB]

noncomputable def GPut : List AV → Option (Prop × AV)
  | [.pv (.ro a)] => (dec rowE a).map fun l => (okP l, .tup [.fr 5 (bytesRow (putL l).1), .pv (.int .i64 (putL l).2)])
  | _ => none
@[simp] theorem GPut_eq (a : List (List PV)) : GPut [.pv (.ro a)] = (dec rowE a).map fun l => (okP l, .tup [.fr 5 (bytesRow (putL l).1), .pv (.int .i64 (putL l).2)]) := rfl

theorem c_Put : ConT Try.prog 17 GPut := by
  intro ys φ r h hφ
  unfold GPut at h
  split at h
  · rename_i ra
    obtain ⟨a, ha, h⟩ := Option.map_eq_some_iff.1 h
    cases h
    cases dec_rowsE_inv ha
    obtain ⟨hlen, htx⟩ := hφ
    refine con_of (tab_cons c_right (tab_cons c_text (tab_cons c_put tab_nil))) (by kernel_rfl) fn17 (by simp) ?_
    unfold body17
    by_cases hr' : rightL a = false
    · have hno : putL a = ([], 2) := by unfold putL; rw [if_pos hr']
      simp (config := { maxSteps := 3000000 }) [hr', hno]
      omega
    have hr : rightL a = true := by simpa using hr'
    have hno : putL a = (putB a, 0) := by unfold putL; rw [if_neg hr']
    simp (config := { maxSteps := 3000000 }) [hr, hno]
    refine ⟨by omega, ?_⟩
    refine vwp_loop (fun i : Nat => i ≤ a.length) (fun i => ⟨[(10, .pv (.ro (rowsE a))), (11, .pv (.int .i64 a.length)), (12, .pv (.int .i64 i)), (4, .own 4)], [(4, .arr 5 (bytesRow (putB (a.take i))))]⟩) (fun i => a.length - i) [] 0 (by simp) ?_ ?_
    · simp [putB]
    · intro i hi
      have w2 : IntKind.i64.wrap ((i : Int) + 1) = (i : Int) + 1 := wrap_i64 (by omega)
      by_cases hlt : i < a.length
      · have r1 := rowsE_at hlt
        have hra : ∀ e ∈ a, rightE e = true := by unfold rightL at hr; rw [List.all_eq_true] at hr; exact hr
        have hrl := hra _ (List.getElem_mem hlt)
        have htl := htx _ (List.getElem_mem hlt)
        have hpb := putB_len (l := a.take i) fun e he => ⟨htx e (List.mem_of_mem_take he), hra e (List.mem_of_mem_take he)⟩
        have hpe := putE_len htl hrl
        have hl2 : (a.take i).length ≤ 10000 := by simp; omega
        have hgo : ∀ x, putE a[i] = x → ∃ x' : Nat, x' ≤ a.length ∧ ((i : Int) + 1 = x' ∧ bytesRow (putB (a.take i)) ++ bytesRow x = bytesRow (putB (a.take x'))) ∧ a.length - x' < a.length - i := by
          rintro x rfl
          refine ⟨i + 1, by omega, ⟨by omega, ?_⟩, by omega⟩
          rw [List.take_succ_eq_append_getElem hlt, putB_snoc, bytesRow_append]
        by_cases h2 : (a[i].k.toNat : Int) = 2
        · have hk : a[i].k = 2 := UInt8.toNat_inj.1 (show a[i].k.toNat = 2 by omega)
          have hx : putE a[i] = 2 :: vtext a[i].t := by simp [putE, hk]
          have := hgo _ hx
          rw [hx] at hpe
          simp only [List.length_cons] at hpe
          simp (config := { maxSteps := 3000000 }) [w2, hlt, r1, h2, maxLen_eq]
          exact ⟨⟨by omega, by omega⟩, htl, ⟨by omega, by omega, bytesRow_one _⟩, this⟩
        · have hk : ¬ a[i].k = 2 := fun e => h2 (by rw [e]; rfl)
          have hx : putE a[i] = a[i].k :: vput a[i].n.toNat := by simp [putE, hk]
          have := hgo _ hx
          rw [hx] at hpe
          simp only [List.length_cons] at hpe
          have hn : 1 ≤ a[i].n ∧ a[i].n ≤ 2147483647 := by
            unfold rightE rightI at hrl
            rw [if_neg h2] at hrl
            simp only [Bool.and_eq_true, decide_eq_true_eq] at hrl; omega
          have w3 : IntKind.u64.wrap a[i].n = a[i].n := wrap_u64 (by omega)
          simp (config := { maxSteps := 3000000 }) [w2, hlt, r1, h2, maxLen_eq, w3, vputP]
          exact ⟨⟨by omega, by omega⟩, ⟨by omega, by omega⟩, ⟨by omega, by omega, bytesRow_one _⟩, this⟩
      · simp (config := { maxSteps := 3000000 }) [hlt]
        rw [List.take_of_length_le (by omega)]
  · cases h

theorem c_rPut : ConT Try.prog 18 GPut := by
  intro ys φ r h hφ
  unfold GPut at h
  split at h
  · rename_i ra
    obtain ⟨a, ha, h⟩ := Option.map_eq_some_iff.1 h
    cases h
    cases dec_rowsE_inv ha
    obtain ⟨hlen, htx⟩ := hφ
    refine con_of (tab_cons c_rRight (tab_cons c_rtext (tab_cons c_rput tab_nil))) (by kernel_rfl) fn18 (by simp) ?_
    unfold body18
    by_cases hr' : rightL a = false
    · have hno : putL a = ([], 2) := by unfold putL; rw [if_pos hr']
      simp (config := { maxSteps := 3000000 }) [hr', hno]
      omega
    have hr : rightL a = true := by simpa using hr'
    have hno : putL a = (putB a, 0) := by unfold putL; rw [if_neg hr']
    simp (config := { maxSteps := 3000000 }) [hr, hno]
    refine ⟨by omega, ?_⟩
    refine vwp_loop (fun i : Nat => i ≤ a.length) (fun i => ⟨[(0, .pv (.ro (rowsE a))), (5, .pv (.int .i64 i)), (4, .own 4)], [(4, .arr 5 (bytesRow (putB (a.take i))))]⟩) (fun i => a.length - i) [] 0 (by simp) ?_ ?_
    · simp [putB]
    · intro i hi
      have w2 : IntKind.i64.wrap ((i : Int) + 1) = (i : Int) + 1 := wrap_i64 (by omega)
      by_cases hlt : i < a.length
      · have r1 := rowsE_at hlt
        have hra : ∀ e ∈ a, rightE e = true := by unfold rightL at hr; rw [List.all_eq_true] at hr; exact hr
        have hrl := hra _ (List.getElem_mem hlt)
        have htl := htx _ (List.getElem_mem hlt)
        have hpb := putB_len (l := a.take i) fun e he => ⟨htx e (List.mem_of_mem_take he), hra e (List.mem_of_mem_take he)⟩
        have hpe := putE_len htl hrl
        have hl2 : (a.take i).length ≤ 10000 := by simp; omega
        have hgo : ∀ x, putE a[i] = x → ∃ x' : Nat, x' ≤ a.length ∧ ((i : Int) + 1 = x' ∧ bytesRow (putB (a.take i)) ++ bytesRow x = bytesRow (putB (a.take x'))) ∧ a.length - x' < a.length - i := by
          rintro x rfl
          refine ⟨i + 1, by omega, ⟨by omega, ?_⟩, by omega⟩
          rw [List.take_succ_eq_append_getElem hlt, putB_snoc, bytesRow_append]
        by_cases h2 : (a[i].k.toNat : Int) = 2
        · have hk : a[i].k = 2 := UInt8.toNat_inj.1 (show a[i].k.toNat = 2 by omega)
          have hx : putE a[i] = 2 :: vtext a[i].t := by simp [putE, hk]
          have := hgo _ hx
          rw [hx] at hpe
          simp only [List.length_cons] at hpe
          simp (config := { maxSteps := 3000000 }) [w2, hlt, r1, h2, maxLen_eq]
          exact ⟨⟨by omega, by omega⟩, htl, ⟨by omega, by omega, bytesRow_one _⟩, this⟩
        · have hk : ¬ a[i].k = 2 := fun e => h2 (by rw [e]; rfl)
          have hx : putE a[i] = a[i].k :: vput a[i].n.toNat := by simp [putE, hk]
          have := hgo _ hx
          rw [hx] at hpe
          simp only [List.length_cons] at hpe
          have hn : 1 ≤ a[i].n ∧ a[i].n ≤ 2147483647 := by
            unfold rightE rightI at hrl
            rw [if_neg h2] at hrl
            simp only [Bool.and_eq_true, decide_eq_true_eq] at hrl; omega
          have w3 : IntKind.u64.wrap a[i].n = a[i].n := wrap_u64 (by omega)
          simp (config := { maxSteps := 3000000 }) [w2, hlt, r1, h2, maxLen_eq, w3, vputP]
          exact ⟨⟨by omega, by omega⟩, ⟨by omega, by omega⟩, ⟨by omega, by omega, bytesRow_one _⟩, this⟩
      · simp (config := { maxSteps := 3000000 }) [hlt]
        rw [List.take_of_length_le (by omega)]
  · cases h

end Go.Proofs.Ytcgllachkjnlgaa.Ab
