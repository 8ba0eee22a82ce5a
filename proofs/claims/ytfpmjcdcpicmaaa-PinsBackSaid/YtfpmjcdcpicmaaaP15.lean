/- Chapter 14: the law PinsWrite: what is written reads back alike on both sides. -/
import Derived.Test.YtfpmjcdcpicmaaaP14
namespace Go.Proofs.Ytfpmjcdcpicmaaa.Ab
open Go Go.RowKit R
set_option linter.unusedVariables false
set_option linter.unusedSimpArgs false
set_option maxHeartbeats 40000000
set_option maxRecDepth 100000

theorem takePG_len (b : List UInt8) : ∀ (k : Nat) (n p : Int), (takePG b k n p).1.length ≤ k
  | 0, n, p => by simp [takePG]
  | k + 1, n, p => by
    unfold takePG
    split
    · simp
    · split
      · simp
      · split
        · simp
        · have := takePG_len b k (n - 1) (takeAG b 3 p).2.1
          simp only [List.length_cons]
          omega
theorem takeP_len (b : List UInt8) (p : Int) : (takeP b p).1.length ≤ b.length + 1 := by
  unfold takeP
  split
  · simp
  · split
    · simp
    · split
      · simp
      · exact takePG_len b _ _ _
theorem c_pinsWrite (l : List Pn) (b : List UInt8) (p : Int) (hok : ∀ e ∈ l, okP' e) (hp1 : -9223372036854775808 ≤ p) (hp2 : p ≤ 9223372036854775807) :
    Con Try.prog 13 [] [.agg [.pv (.ro (rowsP l))], .pv (.ro (bytesRow b)), .pv (.int .i64 p)] [] (.pv (.bool true)) := by
  refine con_of (tab_cons c_works (tab_cons c_pTk (tab_cons c_rTk (tab_cons c_pPut (tab_cons c_pref (tab_cons c_rPut (tab_cons c_sameB (tab_cons c_rSame tab_nil)))))))) (by kernel_rfl) fn13 (by simp) ?_
  unfold body13
  by_cases hl : (40 : Int) < l.length
  · simp (config := { maxSteps := 3000000 }) [hl]
  · by_cases hb : (300 : Int) < b.length
    · simp (config := { maxSteps := 3000000 }) [hl, hb]
    · have hl6 : l.length ≤ 1000000 := by omega
      have hl8 : l.length ≤ 100000000 := by omega
      have hb8 : b.length ≤ 100000000 := by omega
      have hb9 : b.length ≤ 1000000000 := by omega
      have hpl : (putPs l).length ≤ 1000000000 := by
        have h1 := pinsB_len hok
        have h2 : (vputP (l.length : Int)).length ≤ 10 := vputP_len ⟨by omega, by omega⟩
        unfold putPs
        rw [List.length_append]
        omega
      have ht := takeP_len b p
      have ht8 : (takeP b p).1.length ≤ 100000000 := by omega
      have ht9 : (takeP b p).1.length ≤ 1000000000 := by omega
      simp (config := { maxSteps := 3000000 }) [hl, hb, hl6, hl8, hb8, hb9, hpl, ht8, ht9, hp1, hp2, maxLen_eq]
      refine ⟨⟨by omega, by omega, bytesRow_one b⟩, ?_⟩
      and_intros
      all_goals first | exact flat_rowsP _ | exact flat_bytes _ | exact hok | exact ht8 | exact ht9

end Go.Proofs.Ytfpmjcdcpicmaaa.Ab
