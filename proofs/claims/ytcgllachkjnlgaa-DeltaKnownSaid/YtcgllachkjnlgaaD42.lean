/- The law DeltaKnown, given the other laws. -/
import Derived.Test.YtcgllachkjnlgaaD10
import Derived.Test.YtcgllachkjnlgaaCodeL
import Derived.Test.YtcgllachkjnlgaaAb24
import Derived.Test.YtcgllachkjnlgaaD24
import Derived.Test.YtcgllachkjnlgaaD26
import Derived.Test.YtcgllachkjnlgaaD39
import Derived.Test.YtcgllachkjnlgaaD40
namespace Go.Proofs.Ytcgllachkjnlgaa.Ab
open Go Go.RowKit R
set_option linter.unusedVariables false
set_option linter.unusedSimpArgs false
set_option maxHeartbeats 40000000
set_option maxRecDepth 100000

noncomputable def GkA : List AV → Option (Prop × AV)
  | [.pv (.str s), .pv (.ro r)] => (dec rowE r).map fun _ => (True, .pv (.bool true))
  | _ => none
@[simp] theorem GkA_eq (s : List UInt8) (r : List (List PV)) : GkA [.pv (.str s), .pv (.ro r)] = (dec rowE r).map fun _ => (True, .pv (.bool true)) := rfl
noncomputable def GkB : List AV → Option (Prop × AV)
  | [.pv (.str s), .pv (.ro r), .pv (.ro b)] => (dec rowE r).bind fun _ => (bytesOf b).map fun _ => (True, .pv (.bool true))
  | _ => none
@[simp] theorem GkB_eq (s : List UInt8) (r b : List (List PV)) : GkB [.pv (.str s), .pv (.ro r), .pv (.ro b)] = (dec rowE r).bind fun _ => (bytesOf b).map fun _ => (True, .pv (.bool true)) := rfl
noncomputable def GkP : List AV → Option (Prop × AV)
  | [.pv (.ro b)] => (bytesOf b).map fun _ => (True, .pv (.bool true))
  | _ => none
@[simp] theorem GkP_eq (b : List (List PV)) : GkP [.pv (.ro b)] = (bytesOf b).map fun _ => (True, .pv (.bool true)) := rfl
noncomputable def GkD : List AV → Option (Prop × AV)
  | [.pv (.str s), .pv (.str t)] => some (True, .pv (.bool true))
  | _ => none
@[simp] theorem GkD_eq (s t : List UInt8) : GkD [.pv (.str s), .pv (.str t)] = some (True, .pv (.bool true)) := rfl
noncomputable def GkW : List AV → Option (Prop × AV)
  | [] => some (True, .pv (.bool true))
  | _ => none
@[simp] theorem GkW_eq : GkW [] = some (True, .pv (.bool true)) := rfl

def kn : List Ed := [⟨1, 1, []⟩, ⟨1, 2, []⟩, ⟨2, 0, [120]⟩, ⟨2, 0, [121, 122]⟩, ⟨3, 1, []⟩, ⟨3, 3, []⟩, ⟨1, 0, []⟩, ⟨4, 1, []⟩, ⟨2, 1, [97]⟩, ⟨1, 1, [97]⟩, ⟨2, 0, []⟩, ⟨3, -1, []⟩, ⟨1, 2147483647, []⟩, ⟨3, 2147483648, []⟩, ⟨1, 1099511627776, []⟩]
def rowsS (l : List (List UInt8)) : List (List PV) := l.map fun s => [.str s]
theorem rowsS_at {l : List (List UInt8)} {i : Nat} (h : i < l.length) : rowAt (rowsS l) (i : Int) = [.str l[i]] := by
  unfold rowAt rowsS
  simp [List.getD_eq_getElem?_getD, h]
theorem dec_ed (e : Ed) (rows : List (List PV)) : dec rowE ([.int .u8 (e.k.toNat : Int), .int .i64 e.n, .str e.t] :: rows) = (dec rowE rows).map (e :: ·) := by
  cases h : dec rowE rows with
  | none =>
    cases h2 : dec rowE ([.int .u8 (e.k.toNat : Int), .int .i64 e.n, .str e.t] :: rows) with
    | none => rfl
    | some l =>
      have := dec_inv h2
      cases l with
      | nil => cases this
      | cons x l =>
        injection this with _ h3
        subst h3
        rw [dec_map rowE_inj l] at h
        cases h
  | some l =>
    have := dec_inv h
    subst this
    exact dec_map rowE_inj (e :: l)
theorem byteOf_some {n : Int} (h0 : 0 ≤ n) (h : n < 256) : byteOf [.int .u8 n] = some (UInt8.ofNat n.toNat) := by
  show (if 0 ≤ n ∧ n < 256 then some (UInt8.ofNat n.toNat) else none) = _
  rw [if_pos ⟨h0, h⟩]
theorem bytesOf_cons (r : List PV) (l : List (List PV)) : bytesOf (r :: l) = (byteOf r).bind fun c => (bytesOf l).map (c :: ·) := rfl

def kb : List (List PV) := [[.nil], [.ro [[.int .u8 1]]], [.ro [[.int .u8 2]]], [.ro [[.int .u8 4], [.int .u8 1]]], [.ro [[.int .u8 0]]], [.ro [[.int .u8 1], [.int .u8 0]]], [.ro [[.int .u8 2], [.int .u8 0]]], [.ro [[.int .u8 2], [.int .u8 3], [.int .u8 97], [.int .u8 97]]], [.ro [[.int .u8 1], [.int .u8 128], [.int .u8 0]]], [.ro [[.int .u8 3], [.int .u8 255], [.int .u8 255], [.int .u8 255], [.int .u8 255], [.int .u8 7]]], [.ro [[.int .u8 3], [.int .u8 128], [.int .u8 128], [.int .u8 128], [.int .u8 128], [.int .u8 8]]], [.ro [[.int .u8 1], [.int .u8 255], [.int .u8 255], [.int .u8 255], [.int .u8 255], [.int .u8 255], [.int .u8 255], [.int .u8 255], [.int .u8 255], [.int .u8 255], [.int .u8 1]]], [.ro [[.int .u8 1], [.int .u8 1], [.int .u8 2], [.int .u8 1], [.int .u8 97], [.int .u8 3], [.int .u8 4]]]]
theorem kb_at {j : Nat} (h : j < 13) : ∃ p, rowAt kb (j : Int) = [p] ∧ (p = .nil ∨ ∃ b, p = .ro b ∧ ∃ l, bytesOf b = some l) := by
  match j, h with
  | 0, _ => exact ⟨_, rfl, .inl rfl⟩
  | 1, _ | 2, _ | 3, _ | 4, _ | 5, _ | 6, _ | 7, _ | 8, _ | 9, _ | 10, _ | 11, _ | 12, _ => exact ⟨_, rfl, .inr ⟨_, rfl, _, rfl⟩⟩
  | j + 13, h => omega

theorem known_of (hA : ConT Try.prog 3 GkA) (hB : ConT Try.prog 6 GkB) (hP : ConT Try.prog 5 GkP)
    (hD : ConT Try.prog 4 GkD) (hW : ConT Try.prog 9 GkW) : Con Try.prog 7 [] [] [] (.pv (.bool true)) := by
  refine con_of (tab_cons c_retain (tab_cons c_insert (tab_cons c_drop (tab_cons hA (tab_cons hB (tab_cons hP (tab_cons hD (tab_cons hW tab_nil)))))))) (by kernel_rfl) L.fn7 (by simp) ?_
  unfold L.body7
  have e0 : rowsE kn = [[.int .u8 1, .int .i64 1, .str []], [.int .u8 1, .int .i64 2, .str []], [.int .u8 2, .int .i64 0, .str [120]], [.int .u8 2, .int .i64 0, .str [121, 122]], [.int .u8 3, .int .i64 1, .str []], [.int .u8 3, .int .i64 3, .str []], [.int .u8 1, .int .i64 0, .str []], [.int .u8 4, .int .i64 1, .str []], [.int .u8 2, .int .i64 1, .str [97]], [.int .u8 1, .int .i64 1, .str [97]], [.int .u8 2, .int .i64 0, .str []], [.int .u8 3, .int .i64 (-1), .str []], [.int .u8 1, .int .i64 2147483647, .str []], [.int .u8 3, .int .i64 2147483648, .str []], [.int .u8 1, .int .i64 1099511627776, .str []]] := rfl
  have kl : kn.length = 15 := rfl
  simp (config := { maxSteps := 3000000 }) [maxLen_eq]
  refine vwp_loop (fun i : Nat => i ≤ 15) (fun i => ⟨[(1, .own 28), (2, .pv (.int .i64 i))], [(28, .arr 47 (rowsE kn))]⟩) (fun i => 15 - i) [] 0 ?_ ?_ ?_
  · omega
  · simp [e0]
  · intro i hi
    have wi : IntKind.i64.wrap ((i : Int) + 1) = (i : Int) + 1 := wrap_i64 (by omega)
    by_cases hlt : i < 15
    · have hlti : (i : Int) < 15 := by omega
      simp (config := { maxSteps := 3000000 }) [hlti, kl]
      refine vwp_loop (fun k : Nat => k ≤ 15) (fun k => ⟨[(1, .own 28), (2, .pv (.int .i64 i)), (3, .pv (.int .i64 k))], [(28, .arr 47 (rowsE kn))]⟩) (fun k => 15 - k) [] 0 ?_ ?_ ?_
      · omega
      · simp
      · intro k hk
        have wk1 : IntKind.i64.wrap ((k : Int) + 1) = (k : Int) + 1 := wrap_i64 (by omega)
        by_cases hkt : k < 15
        · have hkti : (k : Int) < 15 := by omega
          simp (config := { maxSteps := 3000000 }) [hkti, kl]
          have s4 : rowsS [[], [97], [97, 98, 99], [97, 98, 99, 100]] = [[.str []], [.str [97]], [.str [97, 98, 99]], [.str [97, 98, 99, 100]]] := rfl
          generalize hss : ([[], [97], [97, 98, 99], [97, 98, 99, 100]] : List (List UInt8)) = ss at s4
          have sl : ss.length = 4 := by rw [← hss]; rfl
          refine vwp_loop (fun j : Nat => j ≤ 4) (fun j => ⟨[(1, .own 28), (2, .pv (.int .i64 i)), (3, .pv (.int .i64 k)), (41, .own 41), (42, .pv (.int .i64 4)), (43, .pv (.int .i64 j))], [(28, .arr 47 (rowsE kn)), (41, .arr 9 (rowsS ss))]⟩) (fun j => 4 - j) [] 0 ?_ ?_ ?_
          · omega
          · simp [s4]
          · intro j hj
            have wj : IntKind.i64.wrap ((j : Int) + 1) = (j : Int) + 1 := wrap_i64 (by omega)
            by_cases hjt : j < 4
            · have hjti : (j : Int) < 4 := by omega
              have rl : (rowsS ss).length = 4 := by simp [rowsS, sl]
              have hi0 : i < kn.length := by omega
              have hk0 : k < kn.length := by omega
              have r0 := rowsS_at (l := ss) (i := j) (by omega)
              have r1 := rowsE_at hi0
              have r2 := rowsE_at hk0
              have hik : i * k ≤ 14 * 14 := Nat.mul_le_mul (by omega) (by omega)
              have m1 : IntKind.i64.wrap ((i : Int) * (k : Int)) = (i : Int) * (k : Int) := by
                rw [← Int.natCast_mul]; exact wrap_i64 (by omega)
              have m2 : IntKind.i64.wrap ((i : Int) * (k : Int) + 2) = (i : Int) * (k : Int) + 2 := by
                rw [← Int.natCast_mul]; exact wrap_i64 (by omega)
              obtain ⟨q, hq⟩ : ∃ q, q = (i * k + 2) % 6 := ⟨_, rfl⟩
              have m3 : ((i : Int) * (k : Int) + 2).tmod 6 = (q : Int) := by
                rw [← Int.natCast_mul, Int.tmod_eq_emod_of_nonneg (by omega)]; omega
              have hq6 : q < 15 := by omega
              have hqi : (q : Int) < 15 := by omega
              have r3 := rowsE_at (l := kn) (i := q) (by omega)
              have u1 : IntKind.u8.wrap (k : Int) = (k : Int) := by rw [wrap_u8]; omega
              have u2 : IntKind.u8.wrap (i : Int) = (i : Int) := by rw [wrap_u8]; omega
              have b1 := byteOf_some (n := (k : Int)) (by omega) (by omega)
              have b2 := byteOf_some (n := (i : Int)) (by omega) (by omega)
              have b3 := byteOf_some (n := 97) (by omega) (by omega)
              have b4 : byteOf [.int .u8 (kn[i].k.toNat : Int)] = some (UInt8.ofNat ((kn[i].k.toNat : Int)).toNat) := byteOf_some (by omega) (by have := UInt8.toNat_lt (kn[i].k); omega)
              simp (config := { maxSteps := 3000000 }) [hlti, hkti, hjti, kl, rl, r0, r1, r2, r3, m1, m2, m3, hqi, u1, u2, b1, b2, b3, b4, bytesOf_cons, dec_ed, wj]
              exact ⟨by omega, by omega, by omega, by omega, by omega, j + 1, by omega, by omega, by omega⟩
            · have hjtn : ¬ (j : Int) < 4 := by omega
              have hjtn' : (4 : Int) ≤ (j : Int) := by omega
              simp (config := { maxSteps := 3000000 }) [hjtn, hjtn', wk1]
              exact ⟨k + 1, by omega, by omega, by omega⟩
        · have hktn : ¬ (k : Int) < 15 := by omega
          have hktn' : (15 : Int) ≤ (k : Int) := by omega
          simp (config := { maxSteps := 3000000 }) [hktn, hktn', kl, wi]
          exact ⟨i + 1, by omega, by omega, by omega⟩
    · have hltn : ¬ (i : Int) < 15 := by omega
      have hltn' : (15 : Int) ≤ (i : Int) := by omega
      simp (config := { maxSteps := 3000000 }) [hltn, hltn', kl]
      -- bytes
      refine vwp_loop (fun j : Nat => j ≤ 13) (fun j => ⟨[(104, .own 104), (105, .pv (.int .i64 13)), (106, .pv (.int .i64 j))], [(104, .arr 38 kb)]⟩) (fun j => 13 - j) [] 0 ?_ ?_ ?_
      · omega
      · simp [kb]
      · intro j hj
        have wj : IntKind.i64.wrap ((j : Int) + 1) = (j : Int) + 1 := wrap_i64 (by omega)
        by_cases hjt : j < 13
        · have hjti : (j : Int) < 13 := by omega
          obtain ⟨p, hp, hpc⟩ := kb_at hjt
          have kbl : kb.length = 13 := rfl
          rcases hpc with rfl | ⟨b, rfl, l, hb⟩
          · simp (config := { maxSteps := 3000000 }) [hjti, hp, wj, kbl, bytesOf_nil]
            exact ⟨by omega, j + 1, by omega, by omega, by omega⟩
          · simp (config := { maxSteps := 3000000 }) [hjti, hp, wj, kbl, hb, bytesOf_nil]
            exact ⟨by omega, j + 1, by omega, by omega, by omega⟩
        · have hjtn : ¬ (j : Int) < 13 := by omega
          have hjtn' : (13 : Int) ≤ (j : Int) := by omega
          simp (config := { maxSteps := 3000000 }) [hjtn, hjtn']
          have s7 : rowsS [[], [97], [97, 97], [97, 98], [97, 97, 98], [97, 98, 97, 98], [98, 97]] = [[.str []], [.str [97]], [.str [97, 97]], [.str [97, 98]], [.str [97, 97, 98]], [.str [97, 98, 97, 98]], [.str [98, 97]]] := rfl
          generalize hss : ([[], [97], [97, 97], [97, 98], [97, 97, 98], [97, 98, 97, 98], [98, 97]] : List (List UInt8)) = ss at s7
          have sl : ss.length = 7 := by rw [← hss]; rfl
          have rl : (rowsS ss).length = 7 := by simp [rowsS, sl]
          refine vwp_loop (fun i : Nat => i ≤ 7) (fun i => ⟨[(119, .own 119), (120, .pv (.int .i64 7)), (121, .pv (.int .i64 i))], [(119, .arr 9 (rowsS ss))]⟩) (fun i => 7 - i) [] 0 ?_ ?_ ?_
          · omega
          · simp [s7]
          · intro i hi
            have wi : IntKind.i64.wrap ((i : Int) + 1) = (i : Int) + 1 := wrap_i64 (by omega)
            by_cases hit : i < 7
            · have hiti : (i : Int) < 7 := by omega
              have r0 := rowsS_at (l := ss) (i := i) (by omega)
              simp (config := { maxSteps := 3000000 }) [hiti, rl, r0]
              have t7 : rowsS [[], [97], [97, 97, 97], [98], [97, 98], [97, 98, 97], [97, 98, 98, 97]] = [[.str []], [.str [97]], [.str [97, 97, 97]], [.str [98]], [.str [97, 98]], [.str [97, 98, 97]], [.str [97, 98, 98, 97]]] := rfl
              generalize htt : ([[], [97], [97, 97, 97], [98], [97, 98], [97, 98, 97], [97, 98, 98, 97]] : List (List UInt8)) = tt at t7
              have tl : tt.length = 7 := by rw [← htt]; rfl
              have rt : (rowsS tt).length = 7 := by simp [rowsS, tl]
              have hi0 : i < ss.length := by omega
              refine ⟨by omega, ?_⟩
              refine vwp_loop (fun k : Nat => k ≤ 7) (fun k => ⟨[(119, .own 119), (120, .pv (.int .i64 7)), (121, .pv (.int .i64 i)), (10, .pv (.str ss[i])), (125, .own 125), (126, .pv (.int .i64 7)), (127, .pv (.int .i64 k))], [(119, .arr 9 (rowsS ss)), (125, .arr 9 (rowsS tt))]⟩) (fun k => 7 - k) [] 0 ?_ ?_ ?_
              · omega
              · simp [t7]
              · intro k hk
                have wk1 : IntKind.i64.wrap ((k : Int) + 1) = (k : Int) + 1 := wrap_i64 (by omega)
                by_cases hkt : k < 7
                · have hkti : (k : Int) < 7 := by omega
                  have r1 := rowsS_at (l := tt) (i := k) (by omega)
                  simp (config := { maxSteps := 3000000 }) [hkti, rt, r1, wk1]
                  exact ⟨by omega, k + 1, by omega, by omega, by omega⟩
                · have hktn : ¬ (k : Int) < 7 := by omega
                  have hktn' : (7 : Int) ≤ (k : Int) := by omega
                  simp (config := { maxSteps := 3000000 }) [hktn, hktn', wi]
                  exact ⟨i + 1, by omega, by omega, by omega⟩
            · have hitn : ¬ (i : Int) < 7 := by omega
              have hitn' : (7 : Int) ≤ (i : Int) := by omega
              simp (config := { maxSteps := 3000000 }) [hitn, hitn']

end Go.Proofs.Ytcgllachkjnlgaa.Ab
/- The law DeltaKnown. -/
namespace Go.Proofs.Ytcgllachkjnlgaa.Ab
open Go Go.RowKit R
set_option linter.unusedVariables false

theorem bytesOf_inv : ∀ {rows : List (List PV)} {l : List UInt8}, bytesOf rows = some l → rows = bytesRow l
  | [], l, h => by cases h; rfl
  | r :: rows, l, h => by
    rw [bytesOf_cons] at h
    obtain ⟨c, hc, h⟩ := Option.bind_eq_some_iff.1 h
    obtain ⟨m, hm, rfl⟩ := Option.map_eq_some_iff.1 h
    rw [byteOf_inv hc, bytesOf_inv hm]; rfl

theorem c_known : Con Try.prog 7 [] [] [] (.pv (.bool true)) := by
  refine known_of ?_ ?_ ?_ ?_ ?_
  · intro ys φ r h hφ
    unfold GkA at h
    split at h
    · obtain ⟨l, hl, h⟩ := Option.map_eq_some_iff.1 h
      cases h
      cases dec_rowsE_inv hl
      exact c_applies _ l
    · cases h
  · intro ys φ r h hφ
    unfold GkB at h
    split at h
    · obtain ⟨l, hl, h⟩ := Option.bind_eq_some_iff.1 h
      obtain ⟨b, hb, h⟩ := Option.map_eq_some_iff.1 h
      cases h
      cases dec_rowsE_inv hl
      cases bytesOf_inv hb
      exact c_back _ l b
    · cases h
  · intro ys φ r h hφ
    unfold GkP at h
    split at h
    · obtain ⟨b, hb, h⟩ := Option.map_eq_some_iff.1 h
      cases h
      cases bytesOf_inv hb
      exact c_parses b
    · cases h
  · intro ys φ r h hφ
    unfold GkD at h
    split at h
    · cases h
      exact c_diffs _ _
    · cases h
  · intro ys φ r h hφ
    unfold GkW at h
    split at h
    · cases h
      exact c_works [] True _ rfl trivial
    · cases h

end Go.Proofs.Ytcgllachkjnlgaa.Ab
