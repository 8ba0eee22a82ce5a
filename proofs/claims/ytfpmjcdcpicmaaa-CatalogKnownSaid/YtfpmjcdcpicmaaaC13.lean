/- Chapter 17: the closed law CatalogKnown. -/
import Derived.Test.YtfpmjcdcpicmaaaC7
import Derived.Test.YtfpmjcdcpicmaaaC11
import Derived.Test.YtfpmjcdcpicmaaaC12
namespace Go.Proofs.Ytfpmjcdcpicmaaa.Ab
open Go Go.RowKit R
set_option linter.unusedVariables false
set_option linter.unusedSimpArgs false
set_option maxHeartbeats 40000000
set_option maxRecDepth 100000

noncomputable def GDoesC : List AV → Option (Prop × AV)
  | [.pv (.ro a), .pv (.str _), .pv (.str _), .pv (.int .u64 _)] => (dec rowC a).map fun _ => (True, .pv (.bool true))
  | _ => none
@[simp] theorem GDoesC_eq (a : List (List PV)) (s t : List UInt8) (n : Int) : GDoesC [.pv (.ro a), .pv (.str s), .pv (.str t), .pv (.int .u64 n)] = (dec rowC a).map fun _ => (True, .pv (.bool true)) := rfl
theorem c_DoesC : ConT Try.prog 3 GDoesC := by
  intro ys φ r h hφ
  unfold GDoesC at h
  split at h
  · obtain ⟨a, ha, h⟩ := Option.map_eq_some_iff.1 h
    cases h
    cases dec_rowsC_inv ha
    exact c_catDoes _ _ _ _
  · cases h
noncomputable def GBackC : List AV → Option (Prop × AV)
  | [.pv (.ro a), .pv (.str _), .pv (.str _), .pv (.str _), .pv (.int .u64 _)] => (dec rowC a).map fun _ => (True, .pv (.bool true))
  | _ => none
@[simp] theorem GBackC_eq (a : List (List PV)) (s t x : List UInt8) (n : Int) : GBackC [.pv (.ro a), .pv (.str s), .pv (.str t), .pv (.str x), .pv (.int .u64 n)] = (dec rowC a).map fun _ => (True, .pv (.bool true)) := rfl
theorem c_BackC : ConT Try.prog 4 GBackC := by
  intro ys φ r h hφ
  unfold GBackC at h
  split at h
  · obtain ⟨a, ha, h⟩ := Option.map_eq_some_iff.1 h
    cases h
    cases dec_rowsC_inv ha
    exact c_catBack _ _ _ _ _
  · cases h
noncomputable def GBytesC : List AV → Option (Prop × AV)
  | [.pv (.ro a), .pv (.ro b)] => (dec rowC a).bind fun l => (dec byteR b).map fun _ => (∀ e ∈ l, okI e, .pv (.bool true))
  | _ => none
@[simp] theorem GBytesC_eq (a b : List (List PV)) : GBytesC [.pv (.ro a), .pv (.ro b)] = (dec rowC a).bind fun l => (dec byteR b).map fun _ => (∀ e ∈ l, okI e, .pv (.bool true)) := rfl
theorem c_BytesC : ConT Try.prog 5 GBytesC := by
  intro ys φ r h hφ
  unfold GBytesC at h
  split at h
  · obtain ⟨a, ha, h⟩ := Option.bind_eq_some_iff.1 h
    obtain ⟨b, hb, h⟩ := Option.map_eq_some_iff.1 h
    cases h
    cases dec_rowsC_inv ha
    cases dec_bytes_inv hb
    exact c_catBytes _ _ hφ
  · cases h

def NLc : List (List UInt8) := [[], [97], [98], [98, 97], [255], [99]]
theorem NLc_rows : rowsS NLc = [[.str []], [.str [97]], [.str [98]], [.str [98, 97]], [.str [255]], [.str [99]]] := rfl
theorem NLc_len : NLc.length = 6 := rfl
theorem NLc_two : ∀ s ∈ NLc, s.length ≤ 2 := by decide

theorem isOwn_own' (t : Nat) (l : List AV) : isOwn (.own t :: l) = true := rfl
theorem putCt_len5 {l : List En} (h5 : l.length ≤ 5) (ho : ∀ e ∈ l, okI e) : (putCt l).1.length ≤ 500 := by
  cases hr : rightC l with
  | false => simp [putCt, hr]
  | true =>
    have h1 := entsB_len (l := l) fun e he => ⟨ho e he, right_nm hr e he⟩
    have h2 := vputP_len' (n := (l.length : Int)) ⟨by omega, by omega⟩
    simp only [putCt, hr, if_true, allC]
    rw [List.length_append]
    omega

theorem c_catKnown : Con Try.prog 6 [] [] [] (.pv (.bool true)) := by
  refine con_of (tab_cons c_DoesC (tab_cons c_BackC (tab_cons c_BytesC (tab_cons c_worksC (tab_cons c_Cput tab_nil))))) (by kernel_rfl) fn6 (by simp) ?_
  unfold body6
  have fl : ∀ l, flatRows (rowsC l) := flat_rowsC
  have fb : ∀ l, flatRows (bytesRow l) := flat_bytesC
  apply vwp_cut
  · simp (config := { maxSteps := 3000000 })
    exact ⟨rfl, rfl⟩
  apply vwp_cut
  · simp (config := { maxSteps := 3000000 })
    exact ⟨rfl, rfl⟩
  have kw : IntKind.i64.wrap 0 = 0 ∧ IntKind.i64.wrap 1 = 1 ∧ IntKind.i64.wrap 2 = 2 ∧ IntKind.i64.wrap 3 = 3 ∧ IntKind.i64.wrap 4 = 4 ∧ IntKind.i64.wrap 5 = 5 ∧ IntKind.i64.wrap 6 = 6 := by decide
  have ku : IntKind.u64.wrap 6 = 6 ∧ IntKind.u64.wrap 5 = 5 ∧ IntKind.u64.wrap 4 = 4 ∧ IntKind.u64.wrap 3 = 3 ∧ IntKind.u64.wrap 2 = 2 := by decide
  apply vwp_cut
  · simp (config := { maxSteps := 3000000 })
    refine vwp_loop (fun n : Nat => n ≤ 32) (fun n => ⟨[(1, .own 12), (2, .pv (.int .i64 n))], [(12, .arr 9 (rowsS NLc))]⟩) (fun n => 32 - n) [] 0 (by simp) ?_ ?_
    · simp [NLc_rows]
    intro n hn
    have wn : IntKind.i64.wrap ((n : Int) + 1) = (n : Int) + 1 := wrap_i64 (by omega)
    by_cases hlt : (n : Int) < 32
    rotate_left
    · have : n = 32 := by omega
      subst this
      simp (config := { maxSteps := 3000000 })
      exact ⟨rfl, rfl⟩
    simp (config := { maxSteps := 3000000 }) [hlt]
    refine vwp_loop (fun x : Nat × List En => 1 ≤ x.1 ∧ x.1 ≤ 6 ∧ x.2.length + 1 ≤ x.1 ∧ ∀ e ∈ x.2, okI e) (fun x => ⟨[(1, .own 12), (2, .pv (.int .i64 n)), (3, .own 3), (4, .pv (.int .i64 x.1))], [(12, .arr 9 (rowsS NLc)), (3, .arr 51 (rowsC x.2))]⟩) (fun x => 6 - x.1) [] (1, []) (by simp) ?_ ?_
    · simp
    rintro ⟨i, l⟩ ⟨h1, h6, hl, ho⟩
    simp only at h1 h6 hl ho
    by_cases hi : (i : Int) < 6
    · have hi5 : i = 1 ∨ i = 2 ∨ i = 3 ∨ i = 4 ∨ i = 5 := by omega
      have hl9 : l.length ≤ 1000 := by omega
      rcases hi5 with rfl | rfl | rfl | rfl | rfl
      · simp (config := { maxSteps := 3000000 }) [maxLen_eq, hl9, rowAt, kw, ku]
        refine ⟨fun _ => ⟨⟨by omega, by omega⟩, 2, l ++ [⟨[97], 6⟩], ⟨by omega, by omega, by rw [List.length_append, List.length_singleton]; omega, fun e he => ?_⟩, ⟨by decide, by rw [rowsC_append]; rfl⟩, by omega⟩, fun _ => ⟨2, l, ⟨by omega, by omega, by omega, ho⟩, ⟨by decide, rfl⟩, by omega⟩⟩
        rcases List.mem_append.1 he with he | he
        · exact ho e he
        · rw [List.mem_singleton] at he
          subst he
          exact ⟨by decide, by decide⟩
      · simp (config := { maxSteps := 3000000 }) [maxLen_eq, hl9, rowAt, kw, ku]
        refine ⟨fun _ => ⟨⟨by omega, by omega⟩, 3, l ++ [⟨[98], 5⟩], ⟨by omega, by omega, by rw [List.length_append, List.length_singleton]; omega, fun e he => ?_⟩, ⟨by decide, by rw [rowsC_append]; rfl⟩, by omega⟩, fun _ => ⟨3, l, ⟨by omega, by omega, by omega, ho⟩, ⟨by decide, rfl⟩, by omega⟩⟩
        rcases List.mem_append.1 he with he | he
        · exact ho e he
        · rw [List.mem_singleton] at he
          subst he
          exact ⟨by decide, by decide⟩
      · simp (config := { maxSteps := 3000000 }) [maxLen_eq, hl9, rowAt, kw, ku]
        refine ⟨fun _ => ⟨⟨by omega, by omega⟩, 4, l ++ [⟨[98, 97], 4⟩], ⟨by omega, by omega, by rw [List.length_append, List.length_singleton]; omega, fun e he => ?_⟩, ⟨by decide, by rw [rowsC_append]; rfl⟩, by omega⟩, fun _ => ⟨4, l, ⟨by omega, by omega, by omega, ho⟩, ⟨by decide, rfl⟩, by omega⟩⟩
        rcases List.mem_append.1 he with he | he
        · exact ho e he
        · rw [List.mem_singleton] at he
          subst he
          exact ⟨by decide, by decide⟩
      · simp (config := { maxSteps := 3000000 }) [maxLen_eq, hl9, rowAt, kw, ku]
        refine ⟨fun _ => ⟨⟨by omega, by omega⟩, 5, l ++ [⟨[99], 3⟩], ⟨by omega, by omega, by rw [List.length_append, List.length_singleton]; omega, fun e he => ?_⟩, ⟨by decide, by rw [rowsC_append]; rfl⟩, by omega⟩, fun _ => ⟨5, l, ⟨by omega, by omega, by omega, ho⟩, ⟨by decide, rfl⟩, by omega⟩⟩
        rcases List.mem_append.1 he with he | he
        · exact ho e he
        · rw [List.mem_singleton] at he
          subst he
          exact ⟨by decide, by decide⟩
      · simp (config := { maxSteps := 3000000 }) [maxLen_eq, hl9, rowAt, kw, ku]
        refine ⟨fun _ => ⟨⟨by omega, by omega⟩, 6, l ++ [⟨[255], 2⟩], ⟨by omega, by omega, by rw [List.length_append, List.length_singleton]; omega, fun e he => ?_⟩, ⟨by decide, by rw [rowsC_append]; rfl⟩, by omega⟩, fun _ => ⟨6, l, ⟨by omega, by omega, by omega, ho⟩, ⟨by decide, rfl⟩, by omega⟩⟩
        rcases List.mem_append.1 he with he | he
        · exact ho e he
        · rw [List.mem_singleton] at he
          subst he
          exact ⟨by decide, by decide⟩
    · have : i = 6 := by omega
      subst this
      simp (config := { maxSteps := 3000000 }) [NLc_len]
      have hl9 : l.length ≤ 5 := by omega
      refine vwp_loop (fun i : Nat => i ≤ 6) (fun i => ⟨[(1, .own 12), (2, .pv (.int .i64 n)), (3, .own 3), (5, .pv (.int .i64 i))], [(12, .arr 9 (rowsS NLc)), (3, .arr 51 (rowsC l))]⟩) (fun i => 6 - i) [] 0 (by simp) ?_ ?_
      · simp
      intro i hi
      have wi : IntKind.i64.wrap ((i : Int) + 1) = (i : Int) + 1 := wrap_i64 (by omega)
      by_cases hilt : (i : Int) < 6
      · simp (config := { maxSteps := 3000000 }) [hilt, NLc_len]
        refine vwp_loop (fun k : Nat => k ≤ 6) (fun k => ⟨[(1, .own 12), (2, .pv (.int .i64 n)), (3, .own 3), (5, .pv (.int .i64 i)), (6, .pv (.int .i64 k))], [(12, .arr 9 (rowsS NLc)), (3, .arr 51 (rowsC l))]⟩) (fun k => 6 - k) [] 0 (by simp) ?_ ?_
        · simp
        intro k hk
        have wk' : IntKind.i64.wrap ((k : Int) + 1) = (k : Int) + 1 := wrap_i64 (by omega)
        by_cases hklt : (k : Int) < 6
        · have hiN : i < NLc.length := by rw [NLc_len]; omega
          have hkN : k < NLc.length := by rw [NLc_len]; omega
          have r1 := rowsS_at hiN
          have r2 := rowsS_at hkN
          have wik : IntKind.i64.wrap ((i : Int) + (k : Int)) = (i : Int) + (k : Int) := wrap_i64 (by omega)
          have hmod : ((i : Int) + (k : Int)).tmod 6 = ((i : Int) + (k : Int)) % 6 := Int.tmod_eq_emod_of_nonneg (by omega)
          have hmN : (i + k) % 6 < NLc.length := by rw [NLc_len]; omega
          have r3 : rowAt (rowsS NLc) (((i : Int) + (k : Int)) % 6) = [.str NLc[(i + k) % 6]] := by
            rw [show ((i : Int) + (k : Int)) % 6 = (((i + k) % 6 : Nat) : Int) from by omega]; exact rowsS_at hmN
          have m0 : 0 ≤ ((i : Int) + (k : Int)) % 6 := by omega
          have m6 : ((i : Int) + (k : Int)) % 6 < 6 := by omega
          have hi6 : i < 6 := by omega
          have hk6 : k < 6 := by omega
          simp (config := { maxSteps := 3000000 }) [hilt, hklt, NLc_len, r1, r2, r3, wik, hmod, wk', m0, m6, hi6, hk6]
          exact ⟨k + 1, by omega, by omega, by omega⟩
        · have : k = 6 := by omega
          subst this
          simp (config := { maxSteps := 3000000 }) [hilt, NLc_len, wi]
          exact ⟨i + 1, by omega, by omega, by omega⟩
      · have : i = 6 := by omega
        subst this
        have hlr := putCt_len5 hl9 ho
        have hmod : (n : Int).tmod 6 = (n : Int) % 6 := Int.tmod_eq_emod_of_nonneg (by omega)
        have hmN : n % 6 < NLc.length := by rw [NLc_len]; omega
        have r3 : rowAt (rowsS NLc) ((n : Int) % 6) = [.str NLc[n % 6]] := by
          rw [show (n : Int) % 6 = ((n % 6 : Nat) : Int) from by omega]; exact rowsS_at hmN
        have h2 := NLc_two NLc[n % 6] (List.getElem_mem hmN)
        generalize NLc[n % 6] = nm at r3 h2
        have m0 : 0 ≤ (n : Int) % 6 := by omega
        have m6 : (n : Int) % 6 < 6 := by omega
        have hl6 : l.length ≤ 1000000 := by omega
        have b1 : (putCt l).1.length + nm.length ≤ 140737488355328 := by omega
        have b2 : (putCt l).1.length + nm.length ≤ maxLen := by unfold maxLen; omega
        simp (config := { maxSteps := 3000000 }) [NLc_len, hl6, hmod, m0, m6, r3, fb, ← bytesRow_append, b1, b2, isOwn_own', wn]
        exact ⟨ho, bytesRow_one nm, ho, n + 1, by omega, by omega, by omega⟩
  obtain ⟨R, hR, L, hL, hz⟩ : ∃ R, List.replicate 64 [cvp (Value.int .u8 0)] = R ∧ ∃ L : List UInt8, L.length = 64 ∧ bytesOf R = some L := ⟨_, rfl, List.replicate 64 0, by simp, by decide⟩
  have hd1 : ∀ (a : List UInt8) (x : Int), dec rowC [[.str a, .int .u64 x]] = some [⟨a, x⟩] := fun a x => dec_rowsC [⟨a, x⟩]
  have hd2 : ∀ (a b : List UInt8) (x y : Int), dec rowC [[.str a, .int .u64 x], [.str b, .int .u64 y]] = some [⟨a, x⟩, ⟨b, y⟩] := fun a b x y => dec_rowsC [⟨a, x⟩, ⟨b, y⟩]
  apply vwp_cut
  · simp (config := { maxSteps := 3000000 }) [hz, hR, -List.reduceReplicate]
    exact ⟨rfl, rfl⟩
  have hL9 : L.length + 1 ≤ 9223372036854775807 := by omega
  apply vwp_cut
  · simp (config := { maxSteps := 3000000 }) [hL9]
    exact ⟨rfl, rfl⟩
  have hb : ∀ x y : UInt8, dec byteR [[.int .u8 1], [.int .u8 1], [.int .u8 97], [.int .u8 (x.toNat : Int)], [.int .u8 (y.toNat : Int)]] = some [1, 1, 97, x, y] := fun x y => dec_bytes [1, 1, 97, x, y]
  have hb0 := hb 0 0
  have hb1 := hb 1 1
  have hb2 := hb 0 2
  have hb3 := hb 1 3
  have hb4 := hb 0 4
  have hb5 := hb 1 5
  have hb6 := hb 0 6
  simp only [show ((0 : UInt8).toNat : Int) = 0 from rfl, show ((1 : UInt8).toNat : Int) = 1 from rfl, show ((2 : UInt8).toNat : Int) = 2 from rfl, show ((3 : UInt8).toNat : Int) = 3 from rfl, show ((4 : UInt8).toNat : Int) = 4 from rfl, show ((5 : UInt8).toNat : Int) = 5 from rfl, show ((6 : UInt8).toNat : Int) = 6 from rfl] at hb0 hb1 hb2 hb3 hb4 hb5 hb6
  have hok : ∀ (a : List UInt8), okI ⟨a, 0⟩ ∧ okI ⟨a, 1⟩ ∧ okI ⟨a, 2⟩ := by intro a; simp [okI]
  have k8 : IntKind.u8.wrap 0 = 0 ∧ IntKind.u8.wrap 1 = 1 ∧ IntKind.u8.wrap 2 = 2 ∧ IntKind.u8.wrap 3 = 3 ∧ IntKind.u8.wrap 4 = 4 ∧ IntKind.u8.wrap 5 = 5 ∧ IntKind.u8.wrap 6 = 6 := by decide
  have k7 : IntKind.i64.wrap 7 = 7 := by decide
  apply vwp_cut
  · simp (config := { maxSteps := 3000000 })
    refine vwp_loop (fun n : Nat => n ≤ 7) (fun n => ⟨[(9, .pv (.str L)), (10, .own 129), (11, .pv (.int .i64 n))], [(110, .arr 51 [[.str [], .int .u64 1]]), (112, .arr 51 [[.str [97], .int .u64 0]]), (115, .arr 51 [[.str [97], .int .u64 1], [.str [98], .int .u64 1]]), (118, .arr 51 [[.str [98], .int .u64 1], [.str [97], .int .u64 2]]), (121, .arr 51 [[.str [97], .int .u64 1], [.str [97], .int .u64 2]]), (125, .arr 51 [[.str (L ++ [97]), .int .u64 1]]), (128, .arr 51 [[.str L, .int .u64 1]]), (129, .rws 23 [.own 110, .own 112, .own 115, .own 118, .own 121, .own 125, .own 128])]⟩) (fun n => 7 - n) [] 0 (by simp) ?_ ?_
    · simp
    intro n hn
    have hc : n = 0 ∨ n = 1 ∨ n = 2 ∨ n = 3 ∨ n = 4 ∨ n = 5 ∨ n = 6 ∨ n = 7 := by omega
    rcases hc with rfl | rfl | rfl | rfl | rfl | rfl | rfl | rfl
    · simp (config := { maxSteps := 3000000 }) [hL9, hd1, hd2, hb0, hok, kw, k8, k7]
      exact ⟨1, by omega, by omega, by omega⟩
    · simp (config := { maxSteps := 3000000 }) [hL9, hd1, hd2, hb1, hok, kw, k8, k7]
      exact ⟨2, by omega, by omega, by omega⟩
    · simp (config := { maxSteps := 3000000 }) [hL9, hd1, hd2, hb2, hok, kw, k8, k7]
      exact ⟨3, by omega, by omega, by omega⟩
    · simp (config := { maxSteps := 3000000 }) [hL9, hd1, hd2, hb3, hok, kw, k8, k7]
      exact ⟨4, by omega, by omega, by omega⟩
    · simp (config := { maxSteps := 3000000 }) [hL9, hd1, hd2, hb4, hok, kw, k8, k7]
      exact ⟨5, by omega, by omega, by omega⟩
    · simp (config := { maxSteps := 3000000 }) [hL9, hd1, hd2, hb5, hok, kw, k8, k7]
      exact ⟨6, by omega, by omega, by omega⟩
    · simp (config := { maxSteps := 3000000 }) [hL9, hd1, hd2, hb6, hok, kw, k8, k7]
      exact ⟨7, by omega, by omega, by omega⟩
    · simp (config := { maxSteps := 3000000 })
      exact ⟨rfl, rfl⟩
  have hb7 : dec byteR [[.int .u8 2], [.int .u8 1], [.int .u8 98], [.int .u8 1], [.int .u8 1], [.int .u8 97], [.int .u8 2]] = some [2, 1, 98, 1, 1, 97, 2] := dec_bytes [2, 1, 98, 1, 1, 97, 2]
  have hb8 : dec byteR [[.int .u8 2], [.int .u8 1], [.int .u8 97], [.int .u8 1]] = some [2, 1, 97, 1] := dec_bytes [2, 1, 97, 1]
  simp (config := { maxSteps := 3000000 }) [hb7, hb8]

end Go.Proofs.Ytfpmjcdcpicmaaa.Ab
