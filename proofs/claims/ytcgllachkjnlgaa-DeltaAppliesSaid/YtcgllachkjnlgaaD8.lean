/- An edit looked at: whether it may be, and how many bytes it is. -/
import Derived.Test.YtcgllachkjnlgaaD7
namespace Go.Proofs.Ytcgllachkjnlgaa.Ab
open Go Go.RowKit R
set_option linter.unusedVariables false
set_option maxHeartbeats 4000000
set_option maxRecDepth 100000

/-- May an edit be? -/
def rightI (k n : Int) (t : List UInt8) : Bool :=
  if k = 2 then decide (n = 0) && decide (0 < t.length) else (decide (k = 1) || decide (k = 3)) && decide (1 ≤ n) && decide (n ≤ 2147483647) && decide (t.length = 0)

noncomputable def Gright : List AV → Option (Prop × AV)
  | [.agg [.pv (.int .u8 k), .pv (.int .i64 n), .pv (.str t)]] => some (True, .pv (.bool (rightI k n t)))
  | _ => none
@[simp] theorem Gright_eq (k n : Int) (t : List UInt8) : Gright [.agg [.pv (.int .u8 k), .pv (.int .i64 n), .pv (.str t)]] = some (True, .pv (.bool (rightI k n t))) := rfl

theorem c_eright : ConT Try.prog 32 Gright := by
  intro ys φ r h hφ
  unfold Gright at h
  split at h
  · rename_i k n t
    cases h
    refine con_of tab_nil (by kernel_rfl) fn32 (by simp) ?_
    unfold body32
    simp (config := { maxSteps := 3000000 })
    have e1 : (0 < n) = (1 ≤ n) := propext (by omega)
    have e2 : decide (0 < t.length) = !decide (t = []) := by cases t <;> simp
    by_cases h1 : k = 1
    · subst h1; simp [rightI, e1]
    · by_cases h2 : k = 2
      · subst h2; simp [rightI, e2]
      · by_cases h3 : k = 3
        · subst h3; simp [rightI, e1]
        · simp [rightI, h1, h2, h3]
  · cases h

theorem c_rright : ConT Try.prog 35 Gright := by
  intro ys φ r h hφ
  unfold Gright at h
  split at h
  · rename_i k n t
    cases h
    refine con_of tab_nil (by kernel_rfl) fn35 (by simp) ?_
    unfold body35
    simp (config := { maxSteps := 3000000 })
    by_cases h2 : k = 2
    · subst h2; simp [rightI]
    · simp [rightI, h2]
  · cases h

def sizesI (k n : Int) (t : List UInt8) : Int × Int :=
  if rightI k n t = false then (0, 0) else if k = 2 then (0, t.length) else if k = 3 then (n, 0) else (n, n)

noncomputable def Gsizes : List AV → Option (Prop × AV)
  | [.agg [.pv (.int .u8 k), .pv (.int .i64 n), .pv (.str t)]] => some (True, .tup [.pv (.int .i64 (sizesI k n t).1), .pv (.int .i64 (sizesI k n t).2)])
  | _ => none
@[simp] theorem Gsizes_eq (k n : Int) (t : List UInt8) : Gsizes [.agg [.pv (.int .u8 k), .pv (.int .i64 n), .pv (.str t)]] = some (True, .tup [.pv (.int .i64 (sizesI k n t).1), .pv (.int .i64 (sizesI k n t).2)]) := rfl

theorem c_esizes : ConT Try.prog 31 Gsizes := by
  intro ys φ r h hφ
  unfold Gsizes at h
  split at h
  · rename_i k n t
    cases h
    refine con_of (tab_cons c_eright tab_nil) (by kernel_rfl) fn31 (by simp) ?_
    unfold body31
    simp (config := { maxSteps := 3000000 })
    unfold sizesI
    refine ⟨fun h => ?_, fun h => ⟨fun h2 => ?_, fun h2 => ⟨fun h3 => ?_, fun h3 => ?_⟩⟩⟩ <;> (try subst h2) <;> (try subst h3) <;> simp [*]
  · cases h

noncomputable def Gwrong : List AV → Option (Prop × AV)
  | [.agg [.pv (.int .u8 k), .pv (.int .i64 n), .pv (.str t)]] => some (True, .pv (.bool (!rightI k n t)))
  | _ => none
@[simp] theorem Gwrong_eq (k n : Int) (t : List UInt8) : Gwrong [.agg [.pv (.int .u8 k), .pv (.int .i64 n), .pv (.str t)]] = some (True, .pv (.bool (!rightI k n t))) := rfl
theorem c_wrong1 : ConT Try.prog 43 Gwrong := by
  intro ys φ r h hφ
  unfold Gwrong at h
  split at h
  · rename_i k n t
    cases h
    refine con_of (tab_cons c_eright tab_nil) (by kernel_rfl) fn43 (by simp) ?_
    unfold body43
    simp (config := { maxSteps := 3000000 })
  · cases h
theorem c_wrong3 : ConT Try.prog 49 Gwrong := by
  intro ys φ r h hφ
  unfold Gwrong at h
  split at h
  · rename_i k n t
    cases h
    refine con_of (tab_cons c_eright tab_nil) (by kernel_rfl) fn49 (by simp) ?_
    unfold body49
    simp (config := { maxSteps := 3000000 })
  · cases h

noncomputable def Gretain : List AV → Option (Prop × AV)
  | [.pv (.int .i64 n)] => some (True, .agg [.pv (.int .u8 1), .pv (.int .i64 n), .pv (.str [])])
  | _ => none
@[simp] theorem Gretain_eq (n : Int) : Gretain [.pv (.int .i64 n)] = some (True, .agg [.pv (.int .u8 1), .pv (.int .i64 n), .pv (.str [])]) := rfl
theorem c_retain : ConT Try.prog 28 Gretain := by
  intro ys φ r h hφ
  unfold Gretain at h
  split at h
  · cases h
    refine con_of tab_nil (by kernel_rfl) fn28 (by simp) ?_
    unfold body28
    simp (config := { maxSteps := 3000000 })
  · cases h
noncomputable def Gdrop : List AV → Option (Prop × AV)
  | [.pv (.int .i64 n)] => some (True, .agg [.pv (.int .u8 3), .pv (.int .i64 n), .pv (.str [])])
  | _ => none
@[simp] theorem Gdrop_eq (n : Int) : Gdrop [.pv (.int .i64 n)] = some (True, .agg [.pv (.int .u8 3), .pv (.int .i64 n), .pv (.str [])]) := rfl
theorem c_drop : ConT Try.prog 30 Gdrop := by
  intro ys φ r h hφ
  unfold Gdrop at h
  split at h
  · cases h
    refine con_of tab_nil (by kernel_rfl) fn30 (by simp) ?_
    unfold body30
    simp (config := { maxSteps := 3000000 })
  · cases h
noncomputable def Ginsert : List AV → Option (Prop × AV)
  | [.pv (.str t)] => some (True, .agg [.pv (.int .u8 2), .pv (.int .i64 0), .pv (.str t)])
  | _ => none
@[simp] theorem Ginsert_eq (t : List UInt8) : Ginsert [.pv (.str t)] = some (True, .agg [.pv (.int .u8 2), .pv (.int .i64 0), .pv (.str t)]) := rfl
theorem c_insert : ConT Try.prog 29 Ginsert := by
  intro ys φ r h hφ
  unfold Ginsert at h
  split at h
  · cases h
    refine con_of tab_nil (by kernel_rfl) fn29 (by simp) ?_
    unfold body29
    simp (config := { maxSteps := 3000000 })
  · cases h

end Go.Proofs.Ytcgllachkjnlgaa.Ab
