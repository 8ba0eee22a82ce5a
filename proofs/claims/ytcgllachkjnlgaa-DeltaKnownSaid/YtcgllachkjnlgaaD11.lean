/- The normal form, as the program makes it. -/
import Derived.Test.YtcgllachkjnlgaaD10
namespace Go.Proofs.Ytcgllachkjnlgaa.Ab
open Go Go.RowKit R
set_option linter.unusedVariables false
set_option linter.unusedSimpArgs false
set_option maxHeartbeats 4000000
set_option maxRecDepth 100000

/-- The edits of a run. -/
def runE (t : List UInt8) (n : Int) : List Ed := (if t = [] then [] else [⟨2, 0, t⟩]) ++ (if 0 < n then [⟨3, n, []⟩] else [])

noncomputable def Grun : List AV → Option (Prop × AV)
  | [.agg [.pv (.str t), .pv (.int .i64 n)]] => some (True, .fr 47 (rowsE (runE t n)))
  | _ => none
@[simp] theorem Grun_eq (t : List UInt8) (n : Int) : Grun [.agg [.pv (.str t), .pv (.int .i64 n)]] = some (True, .fr 47 (rowsE (runE t n))) := rfl

theorem c_run : ConT Try.prog 36 Grun := by
  intro ys φ r h hφ
  unfold Grun at h
  split at h
  · rename_i t n
    cases h
    refine con_of tab_nil (by kernel_rfl) fn36 (by simp) ?_
    unfold body36
    simp (config := { maxSteps := 3000000 }) [maxLen_eq, runE, rowsE, rowE]
    by_cases ht : t = [] <;> by_cases hn : 0 < n <;> simp [ht, hn]
    all_goals first | rfl | exact ⟨rfl, rfl⟩ | exact fun _ => rfl
  · cases h

/-- One edit more, where some are out, and a run is held. -/
def normStep (s : List Ed × List UInt8 × Int) (e : Ed) : List Ed × List UInt8 × Int :=
  if e.k = 2 then (s.1, s.2.1 ++ e.t, s.2.2) else if e.k = 3 then (s.1, s.2.1, s.2.2 + e.n) else
    (match (s.1 ++ runE s.2.1 s.2.2).getLast? with
      | some e0 => if e0.k = 1 then (s.1 ++ runE s.2.1 s.2.2).dropLast ++ [⟨1, e0.n + e.n, e0.t⟩] else s.1 ++ runE s.2.1 s.2.2 ++ [e]
      | none => [e], [], 0)
def normF (l : List Ed) : List Ed × List UInt8 × Int := l.foldl normStep ([], [], 0)
def normOut (l : List Ed) : List Ed := (normF l).1 ++ runE (normF l).2.1 (normF l).2.2
/-- The normal edits, and the error's number. -/
def normal (l : List Ed) : List Ed × Int := if rightL l = false then ([], 2) else if rightL (normOut l) = false then ([], 3) else (normOut l, 0)

theorem normF_snoc (l : List Ed) (e : Ed) : normF (l ++ [e]) = normStep (normF l) e := by unfold normF; rw [List.foldl_append]; rfl

/-- What is held stays within bounds. -/
structure NB (s : List Ed × List UInt8 × Int) (i : Nat) : Prop where
  len : s.1.length ≤ 3 * i
  txt : s.2.1.length ≤ 2147483647 * i
  num : 0 ≤ s.2.2 ∧ s.2.2 ≤ 2147483647 * i
  all : ∀ e ∈ s.1, 0 ≤ e.n ∧ e.n ≤ 2147483647 * i
theorem runE_len (t : List UInt8) (n : Int) : (runE t n).length ≤ 2 := by
  unfold runE
  split <;> split <;> simp
theorem NB.step {s : List Ed × List UInt8 × Int} {i : Nat} (h : NB s i) {e : Ed} (hr : rightE e = true) (ht : e.t.length ≤ 2147483647) : NB (normStep s e) (i + 1) := by
  have hn : 0 ≤ e.n ∧ e.n ≤ 2147483647 := by
    unfold rightE rightI at hr
    split at hr <;> simp only [Bool.and_eq_true, decide_eq_true_eq] at hr <;> omega
  have hl := runE_len s.2.1 s.2.2
  have hle := h.len
  have htx := h.txt
  have hnu := h.num
  have hall : ∀ x ∈ s.1 ++ runE s.2.1 s.2.2, 0 ≤ x.n ∧ x.n ≤ 2147483647 * i := by
    intro x hx
    rcases List.mem_append.1 hx with hx | hx
    · exact h.all x hx
    · unfold runE at hx
      rcases List.mem_append.1 hx with hx | hx
      · split at hx
        · cases hx
        · simp only [List.mem_singleton] at hx; subst hx; simp; omega
      · split at hx
        · simp only [List.mem_singleton] at hx; subst hx; exact hnu
        · cases hx
  unfold normStep
  split
  · exact ⟨by simp; omega, by simp; omega, by simp; omega, fun x hx => by have := h.all x hx; simp; omega⟩
  · split
    · exact ⟨by simp; omega, by simp; omega, by simp; omega, fun x hx => by have := h.all x hx; simp; omega⟩
    · have hol : (s.1 ++ runE s.2.1 s.2.2).length ≤ 3 * i + 2 := by rw [List.length_append]; omega
      generalize s.1 ++ runE s.2.1 s.2.2 = out at *
      refine ⟨?_, by simp, by simp; omega, ?_⟩
      · dsimp only
        split
        · split
          · simp; omega
          · simp; omega
        · simp; omega
      · dsimp only
        split
        · rename_i e0 h0
          have hm := hall e0 (List.mem_of_getLast? h0)
          split
          · intro x hx
            rcases List.mem_append.1 hx with hx | hx
            · have := hall x ((List.dropLast_subset _ hx)); simp; omega
            · simp only [List.mem_singleton] at hx; subst hx; simp; omega
          · intro x hx
            rcases List.mem_append.1 hx with hx | hx
            · have := hall x hx; simp; omega
            · simp only [List.mem_singleton] at hx; subst hx; simp; omega
        · intro x hx
          simp only [List.mem_singleton] at hx; subst hx; simp; omega

noncomputable def GNormal : List AV → Option (Prop × AV)
  | [.pv (.ro a)] => (dec rowE a).map fun l => (okL l, .tup [.fr 47 (rowsE (normal l).1), .pv (.int .i64 (normal l).2)])
  | _ => none
@[simp] theorem GNormal_eq (a : List (List PV)) : GNormal [.pv (.ro a)] = (dec rowE a).map fun l => (okL l, .tup [.fr 47 (rowsE (normal l).1), .pv (.int .i64 (normal l).2)]) := rfl

theorem c_normal : ConT Try.prog 15 GNormal := by
  intro ys φ r h hφ
  unfold GNormal at h
  split at h
  · rename_i ra
    obtain ⟨a, ha, h⟩ := Option.map_eq_some_iff.1 h
    cases h
    cases dec_rowsE_inv ha
    obtain ⟨hlen, htx⟩ := hφ
    refine con_of (tab_cons c_right (tab_cons c_run tab_nil)) (by kernel_rfl) fn15 (by simp) ?_
    unfold body15
    by_cases hr' : rightL a = false
    · have hno : normal a = ([], 2) := by unfold normal; rw [if_pos hr']
      simp (config := { maxSteps := 3000000 }) [hr', hno]
      omega
    have hr : rightL a = true := by simpa using hr'
    simp (config := { maxSteps := 3000000 }) [hr]
    refine ⟨by omega, ?_⟩
    refine vwp_loop (fun i : Nat => i ≤ a.length ∧ NB (normF (a.take i)) i) (fun i => ⟨[(12, .pv (.ro (rowsE a))), (13, .pv (.int .i64 a.length)), (14, .pv (.int .i64 i)), (4, .own 4), (5, .ptr 5 0)], [(4, .arr 47 (rowsE (normF (a.take i)).1)), (5, .box [.pv (.str (normF (a.take i)).2.1), .pv (.int .i64 (normF (a.take i)).2.2)])]⟩) (fun i => a.length - i) [] 0 ?_ ?_ ?_
    · refine ⟨Nat.zero_le _, ?_⟩
      simp [normF]
      exact ⟨by simp, by simp, by simp, by simp⟩
    · simp [normF]
    · rintro i ⟨hi, hnb⟩
      have w2 : IntKind.i64.wrap ((i : Int) + 1) = (i : Int) + 1 := wrap_i64 (by omega)
      by_cases hlt : i < a.length
      · have r1 := rowsE_at hlt
        have hrl : rightE a[i] = true := by unfold rightL at hr; rw [List.all_eq_true] at hr; exact hr _ (List.getElem_mem hlt)
        have htl := htx _ (List.getElem_mem hlt)
        have hsn : normF (a.take (i + 1)) = normStep (normF (a.take i)) a[i] := by rw [List.take_succ_eq_append_getElem hlt, normF_snoc]
        have hnb' := hnb.step hrl htl
        rw [← hsn] at hnb'
        generalize hs : normF (a.take i) = s at *
        obtain ⟨out, t, n⟩ := s
        have hb1 := hnb.len
        have hb2 := hnb.txt
        have hb3 := hnb.num
        dsimp only at hb1 hb2 hb3
        have hen : 0 ≤ a[i].n ∧ a[i].n ≤ 2147483647 := by
          unfold rightE rightI at hrl
          split at hrl <;> simp only [Bool.and_eq_true, decide_eq_true_eq] at hrl <;> omega
        have w3 : IntKind.i64.wrap (n + a[i].n) = n + a[i].n := wrap_i64 (by omega)
        by_cases h2 : (a[i].k.toNat : Int) = 2
        · have hk : a[i].k = 2 := UInt8.toNat_inj.1 (show a[i].k.toNat = 2 by omega)
          simp (config := { maxSteps := 3000000 }) [w2, hlt, r1, h2, maxLen_eq]
          refine ⟨by omega, i + 1, ⟨by omega, hnb'⟩, ⟨by omega, ?_⟩, by omega⟩
          rw [hsn]; simp [normStep, hk]
        · have hk : ¬ a[i].k = 2 := fun e => h2 (by rw [e]; rfl)
          by_cases h3 : (a[i].k.toNat : Int) = 3
          · have hk3 : a[i].k = 3 := UInt8.toNat_inj.1 (show a[i].k.toNat = 3 by omega)
            simp (config := { maxSteps := 3000000 }) [w2, hlt, r1, h2, h3, maxLen_eq, w3]
            refine ⟨i + 1, ⟨by omega, hnb'⟩, ⟨by omega, ?_⟩, by omega⟩
            rw [hsn]; simp [normStep, hk3]
          · have hk3 : ¬ a[i].k = 3 := fun e => h3 (by rw [e]; rfl)
            have hrn := runE_len t n
            have hw : IntKind.i64.wrap (-1) = -1 := wrap_i64 (by omega)
            have hrow : ∀ i : Int, rowAt [] i = [] := fun i => by simp [rowAt]
            have hro : [PV.int .u8 (a[i].k.toNat : Int), .int .i64 a[i].n, .str a[i].t] = rowE a[i] := rfl
            have h33 := rowsE_three (runE t n)
            rcases List.eq_nil_or_concat (out ++ runE t n) with h0 | ⟨pre, e0, h0⟩
            · have h0' : rowsE out ++ rowsE (runE t n) = [] := by rw [← rowsE_append, h0]; rfl
              simp (config := { maxSteps := 3000000 }) [w2, hlt, r1, h2, h3, maxLen_eq, h0', hw, hrow]
              refine ⟨⟨by omega, by omega, h33⟩, i + 1, ⟨by omega, hnb'⟩, ⟨by omega, ?_⟩, by omega⟩
              rw [hsn]; simp [normStep, hk, hk3, h0, rowsE, rowE]
            · have h0' : rowsE out ++ rowsE (runE t n) = rowsE pre ++ [rowE e0] := by rw [← rowsE_append, h0, List.concat_eq_append, rowsE_append]; rfl
              have hpl : pre.length + 1 = out.length + (runE t n).length := by
                have := congrArg List.length h0
                simp at this; omega
              have w4 : IntKind.i64.wrap (pre.length : Int) = (pre.length : Int) := wrap_i64 (by omega)
              have hra : rowAt (rowsE pre ++ [rowE e0]) (pre.length : Int) = [.int .u8 (e0.k.toNat : Int), .int .i64 e0.n, .str e0.t] := by simp [rowAt, rowE]
              have hse : ∀ x, (rowsE pre ++ [rowE e0]).set pre.length x = rowsE pre ++ [x] := fun x => by simp [List.set_append]
              have he0 : 0 ≤ e0.n ∧ e0.n ≤ 2147483647 * i := by
                have hm : e0 ∈ out ++ runE t n := by rw [h0]; simp
                rcases List.mem_append.1 hm with hm | hm
                · exact hnb.all e0 hm
                · unfold runE at hm
                  rcases List.mem_append.1 hm with hm | hm
                  · split at hm
                    · cases hm
                    · simp only [List.mem_singleton] at hm; subst hm; simp; omega
                  · split at hm
                    · simp only [List.mem_singleton] at hm; subst hm; exact hb3
                    · cases hm
              have w5 : IntKind.i64.wrap (e0.n + a[i].n) = e0.n + a[i].n := wrap_i64 (by omega)
              by_cases h1 : (e0.k.toNat : Int) = 1
              · simp (config := { maxSteps := 3000000 }) [w2, hlt, r1, h2, h3, maxLen_eq, h0', w4, hra, hse, w5, h1]
                refine ⟨⟨by omega, by omega, h33⟩, i + 1, ⟨by omega, hnb'⟩, ⟨by omega, ?_⟩, by omega⟩
                have hk1 : e0.k = 1 := UInt8.toNat_inj.1 (show e0.k.toNat = 1 by omega)
                rw [hsn]; simp [normStep, hk, hk3, h0, hk1, rowsE_append]; rfl
              · simp (config := { maxSteps := 3000000 }) [w2, hlt, r1, h2, h3, maxLen_eq, h0', w4, hra, hse, w5, h1]
                refine ⟨⟨by omega, by omega, h33⟩, ⟨by omega, by omega⟩, i + 1, ⟨by omega, hnb'⟩, ⟨by omega, ?_⟩, by omega⟩
                have hk1 : ¬ e0.k = 1 := fun e => h1 (by rw [e]; rfl)
                rw [hsn]; simp [normStep, hk, hk3, h0, hk1, rowsE_append]; rfl
      · have hie : i = a.length := by omega
        subst hie
        rw [List.take_length] at hnb ⊢
        have hb1 := hnb.len
        have hrn := runE_len (normF a).2.1 (normF a).2.2
        have h33 := rowsE_three (runE (normF a).2.1 (normF a).2.2)
        have hno : rowsE (normF a).1 ++ rowsE (runE (normF a).2.1 (normF a).2.2) = rowsE (normOut a) := by rw [← rowsE_append]; rfl
        have hnl : (normOut a).length ≤ 1000000000 := by unfold normOut; rw [List.length_append]; omega
        simp (config := { maxSteps := 3000000 }) [maxLen_eq, hno]
        refine ⟨⟨by omega, by omega, h33⟩, hnl, fun h => ?_, fun h => ?_⟩
        · unfold normal; rw [if_neg (by simp [hr]), if_pos h]; exact ⟨rfl, rfl⟩
        · unfold normal; rw [if_neg (by simp [hr]), if_neg (by simp [h])]; exact ⟨rfl, rfl⟩
  · cases h

end Go.Proofs.Ytcgllachkjnlgaa.Ab
