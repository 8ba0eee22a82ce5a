/- The reference's difference. -/
import Derived.Test.YtcgllachkjnlgaaD16
namespace Go.Proofs.Ytcgllachkjnlgaa.Ab
open Go Go.RowKit R
set_option linter.unusedVariables false
set_option linter.unusedSimpArgs false
set_option maxHeartbeats 4000000
set_option maxRecDepth 100000

def headN (a b : List UInt8) : Nat := lcp a b
def tailN (a b : List UInt8) : Nat := lcp (a.drop (lcp a b)).reverse (b.drop (lcp a b)).reverse
def rawDiff (a b : List UInt8) : List Ed :=
  (if 0 < headN a b then [⟨1, headN a b, []⟩] else []) ++ (if headN a b + tailN a b < b.length then [⟨2, 0, (b.take (b.length - tailN a b)).drop (headN a b)⟩] else []) ++
  (if headN a b + tailN a b < a.length then [⟨3, (a.length : Int) - headN a b - tailN a b, []⟩] else []) ++ (if 0 < tailN a b then [⟨1, tailN a b, []⟩] else [])
def diffL (a b : List UInt8) : List Ed := (normal (rawDiff a b)).1

noncomputable def GrDiff : List AV → Option (Prop × AV)
  | [.pv (.str a), .pv (.str b)] => some (a.length ≤ 1000000 ∧ b.length ≤ 1000000, .pv (.ro (rowsE (diffL a b))))
  | _ => none
@[simp] theorem GrDiff_eq (a b : List UInt8) : GrDiff [.pv (.str a), .pv (.str b)] = some (a.length ≤ 1000000 ∧ b.length ≤ 1000000, .pv (.ro (rowsE (diffL a b)))) := rfl

theorem tail_le (a b : List UInt8) : headN a b + tailN a b ≤ a.length ∧ headN a b + tailN a b ≤ b.length := by
  have h1 := lcp_le a b
  have h2 := lcp_le (a.drop (lcp a b)).reverse (b.drop (lcp a b)).reverse
  unfold headN tailN
  simp at h2
  omega
theorem rawDiff_ok (a b : List UInt8) (h : a.length ≤ 1000000 ∧ b.length ≤ 1000000) : okL (rawDiff a b) := by
  refine ⟨?_, fun e he => ?_⟩
  · unfold rawDiff
    simp only [List.length_append]
    split <;> split <;> split <;> split <;> simp
  · unfold rawDiff at he
    simp only [List.mem_append] at he
    rcases he with ((he | he) | he) | he <;> (split at he <;> simp only [List.mem_singleton, List.not_mem_nil] at he; try (subst he; simp; try omega))

theorem dec_cons {k : Int} {c : UInt8} (hk : k = (c.toNat : Int)) (n : Int) (t : List UInt8) (rows : List (List PV)) {l : List Ed} (h : dec rowE rows = some l) : dec rowE ([.int .u8 k, .int .i64 n, .str t] :: rows) = some (⟨c, n, t⟩ :: l) := by
  have := dec_rowsE_inv h
  subst this
  subst hk
  exact dec_rowsE (⟨c, n, t⟩ :: l)
theorem dec_none {k : Int} {c : UInt8} (hk : k = (c.toNat : Int)) (n : Int) (t : List UInt8) (rows : List (List PV)) : dec rowE ([.int .u8 k, .int .i64 n, .str t] :: rows) = (dec rowE rows).map (⟨c, n, t⟩ :: ·) := by
  cases h : dec rowE rows with
  | some l => exact dec_cons hk n t rows h
  | none =>
    cases h2 : dec rowE ([.int .u8 k, .int .i64 n, .str t] :: rows) with
    | none => rfl
    | some m =>
      exfalso
      have := dec_rowsE_inv h2
      cases m with
      | nil => cases this
      | cons e m =>
        simp only [rowsE, List.map_cons, List.cons.injEq] at this
        have h3 := dec_rowsE m
        rw [show rowsE m = rows from this.2.symm, h] at h3
        cases h3
theorem dec_1 (n : Int) (t : List UInt8) (rows : List (List PV)) : dec rowE ([.int .u8 1, .int .i64 n, .str t] :: rows) = (dec rowE rows).map (⟨1, n, t⟩ :: ·) := dec_none (c := 1) rfl n t rows
theorem dec_2 (n : Int) (t : List UInt8) (rows : List (List PV)) : dec rowE ([.int .u8 2, .int .i64 n, .str t] :: rows) = (dec rowE rows).map (⟨2, n, t⟩ :: ·) := dec_none (c := 2) rfl n t rows
theorem dec_3 (n : Int) (t : List UInt8) (rows : List (List PV)) : dec rowE ([.int .u8 3, .int .i64 n, .str t] :: rows) = (dec rowE rows).map (⟨3, n, t⟩ :: ·) := dec_none (c := 3) rfl n t rows

theorem c_rDiff : ConT Try.prog 24 GrDiff := by
  intro ys φ r h hφ
  unfold GrDiff at h
  split at h
  · rename_i a b
    cases h
    obtain ⟨hla, hlb⟩ := hφ
    have hok := rawDiff_ok a b ⟨hla, hlb⟩
    have htl := tail_le a b
    refine con_of (tab_cons c_rnormal tab_nil) (by kernel_rfl) fn24 (by simp) ?_
    unfold body24
    simp (config := { maxSteps := 3000000 })
    refine vwp_loop (fun n : Nat => n ≤ a.length ∧ n ≤ b.length ∧ lcp a b = n + lcp (a.drop n) (b.drop n)) (fun n => ⟨[(0, .pv (.str a)), (1, .pv (.str b)), (5, .pv (.int .i64 n))], []⟩) (fun n => a.length - n) [] 0 (by simp) ?_ ?_
    · simp
    · rintro n ⟨hna, hnb, hn⟩
      have w2 : IntKind.i64.wrap ((n : Int) + 1) = (n : Int) + 1 := wrap_i64 (by omega)
      simp (config := { maxSteps := 3000000 }) [w2]
      refine ⟨fun x y => ⟨⟨x, y⟩, x⟩, fun h1 h2 he => ⟨n + 1, ⟨by omega, by omega, ?_⟩, by omega, by omega⟩, fun hx => ?_⟩
      · refine hn.trans (lcp_step h1 h2 (UInt8.toNat_inj.1 ?_))
        simp [h1, h2] at he
        omega
      -- the heads are through
      have hhn : headN a b = n := by
        unfold headN
        rw [hn]
        by_cases h12 : n < a.length ∧ n < b.length
        · refine lcp_ne h12.1 h12.2 fun e => ?_
          have := hx h12.1 h12.2
          simp [h12.1, h12.2, e] at this
        · exact lcp_end h12
      have hta : tailN a b = lcp (a.drop n).reverse (b.drop n).reverse := by unfold tailN; rw [show lcp a b = n from hhn]
      rw [hhn] at htl
      have w3 : IntKind.i64.wrap ((a.length : Int) - (n : Int)) = (a.length : Int) - (n : Int) := wrap_i64 (by omega)
      have w4 : IntKind.i64.wrap ((b.length : Int) - (n : Int)) = (b.length : Int) - (n : Int) := wrap_i64 (by omega)
      have w5 : IntKind.i64.wrap ((a.length : Int) - 1) = (a.length : Int) - 1 := wrap_i64 (by omega)
      have w6 : IntKind.i64.wrap ((b.length : Int) - 1) = (b.length : Int) - 1 := wrap_i64 (by omega)
      refine vwp_loop (fun t : Nat => n + t ≤ a.length ∧ n + t ≤ b.length ∧ tailN a b = t + lcp ((a.drop n).reverse.drop t) ((b.drop n).reverse.drop t)) (fun t => ⟨[(0, .pv (.str a)), (1, .pv (.str b)), (5, .pv (.int .i64 n)), (6, .pv (.int .i64 t))], []⟩) (fun t => a.length - t) [] 0 ?_ ?_ ?_
      · simpa using ⟨hna, hnb, hta⟩
      · simp
      · rintro t ⟨hta1, htb1, ht⟩
        have w7 : IntKind.i64.wrap ((t : Int) + 1) = (t : Int) + 1 := wrap_i64 (by omega)
        have w8 : IntKind.i64.wrap ((a.length : Int) - 1 - (t : Int)) = (a.length : Int) - 1 - (t : Int) := wrap_i64 (by omega)
        have w9 : IntKind.i64.wrap ((b.length : Int) - 1 - (t : Int)) = (b.length : Int) - 1 - (t : Int) := wrap_i64 (by omega)
        have w10 : IntKind.i64.wrap ((n : Int) + (t : Int)) = (n : Int) + (t : Int) := wrap_i64 (by omega)
        have w11 : IntKind.i64.wrap ((b.length : Int) - (t : Int)) = (b.length : Int) - (t : Int) := wrap_i64 (by omega)
        have w12 : IntKind.i64.wrap ((a.length : Int) - (n : Int) - (t : Int)) = (a.length : Int) - (n : Int) - (t : Int) := wrap_i64 (by omega)
        have v1 : ((a.length : Int) - 1 - (t : Int)).toNat = a.length - 1 - t := by omega
        have v2 : ((b.length : Int) - 1 - (t : Int)).toNat = b.length - 1 - t := by omega
        simp (config := { maxSteps := 6000000 }) [w3, w4, w5, w6, w7, w8, w9, w10, w11, w12, v1, v2, maxLen_eq, dec_1, dec_2, dec_3]
        have hrev : ∀ (l : List UInt8) (hl : n + t < l.length) (h : t < (l.drop n).reverse.length), (l.drop n).reverse[t] = l[l.length - 1 - t]'(by omega) := by
          intro l hl h
          rw [List.getElem_reverse, List.getElem_drop]
          congr 1
          simp; omega
        have hstep : ∀ (h1 : n + t < a.length) (h2 : n + t < b.length), (((a[a.length - 1 - t]?.getD 0).toNat : Int) = ((b[b.length - 1 - t]?.getD 0).toNat : Int)) → tailN a b = t + 1 + lcp ((a.drop n).reverse.drop (t + 1)) ((b.drop n).reverse.drop (t + 1)) := by
          intro h1 h2 he
          have k1 : t < (a.drop n).reverse.length := by simp; omega
          have k2 : t < (b.drop n).reverse.length := by simp; omega
          refine ht.trans (lcp_step k1 k2 ?_)
          rw [hrev a h1, hrev b h2]
          refine UInt8.toNat_inj.1 ?_
          have e1 : a.length - 1 - t < a.length := by omega
          have e2 : b.length - 1 - t < b.length := by omega
          simp [e1, e2] at he
          omega
        have hraw : ∀ L, L = rawDiff a b → okL L ∧ rowsE (normal L).1 = rowsE (diffL a b) := by
          rintro _ rfl; exact ⟨hok, rfl⟩
        have hcut : cut b (n : Int) ((b.length : Int) - (t : Int)) = (b.take (b.length - t)).drop n := by
          have : ((b.length : Int) - (t : Int)).toNat = b.length - t := by omega
          simp [cut, this]
        refine ⟨fun x y => by omega, fun x y => by omega, fun h1 h2 he => ⟨t + 1, ⟨by omega, by omega, hstep (by omega) (by omega) he⟩, by omega, by omega⟩, fun hx2 => ?_⟩
        have htt : tailN a b = t := by
          rw [ht]
          by_cases h12 : n + t < a.length ∧ n + t < b.length
          · have k1 : t < (a.drop n).reverse.length := by simp; omega
            have k2 : t < (b.drop n).reverse.length := by simp; omega
            refine lcp_ne k1 k2 fun e => ?_
            rw [hrev a h12.1, hrev b h12.2] at e
            have e1 : a.length - 1 - t < a.length := by omega
            have e2 : b.length - 1 - t < b.length := by omega
            have := hx2 (by omega) (by omega)
            simp [e1, e2, e] at this
          · exact lcp_end (by simp; omega)
        clear hx hx2 hstep hrev ht hta hn hok
        rw [hcut]
        repeat' first
          | exact hraw _ (by
              unfold rawDiff
              rw [hhn, htt]
              (repeat' split) <;> first | (exfalso; omega) | simp)
          | (intro _)
          | refine ⟨?_, ?_⟩
          | omega
  · cases h

end Go.Proofs.Ytcgllachkjnlgaa.Ab
