import Derived.Test.YtfpmjcdcpicmaaaW22
namespace Go.Proofs.Ytfpmjcdcpicmaaa.Ab
open Go Go.RowKit R
set_option linter.unusedVariables false
set_option linter.unusedSimpArgs false
set_option maxHeartbeats 40000000
set_option maxRecDepth 100000
theorem vwp_condT' {P : Program} {Γ : Tab} {x : Operand} {a b : AC} {K : St → Prop} {J : Exit → St → Prop} {vs : List (Nat × AV)} {os : List (Nat × AO)} (h : boolOf (ev (look vs) x) = some true) (h1 : vwp P Γ a K J ⟨look vs, lookO os⟩) : vwp P Γ (.cond x a b) K J ⟨look vs, lookO os⟩ := by
 rw [vwp_cond, h]
 exact ⟨fun _ => h1, fun h => by cases h⟩
theorem few_len {l : List Vn} (h : fewV l = true) : l.length ≤ 12 ∧ ∀ v ∈ l, v.t.length ≤ 100 := by
 unfold fewV at h
 rw [Bool.and_eq_true, decide_eq_true_eq, List.all_eq_true] at h
 exact ⟨h.1, fun v hv => by simpa using h.2 v hv⟩
theorem eq_cellsI (v : Vn) : eqPs [.int .u64 v.n, .int .u64 v.b, .int .u64 v.p, .int .u64 v.i, .int .u64 v.s, .int .u64 v.z, .int .u64 v.m, .str v.t, .bool v.inl, .bool v.hid] [.int .u64 v.n, .int .u64 v.b, .int .u64 v.p, .int .u64 v.i, .int .u64 v.s, .int .u64 v.z, .int .u64 v.m, .str v.t, .bool v.inl, .bool v.hid] = true := by
 rw [eq_cells]; simp
theorem steps_cut {P : Program} {Γ : Tab} {is js : List AI} {K : St → Prop} {st : St} (vs : List (Nat × AV)) (os : List (Nat × AO)) (h1 : steps P Γ is (fun st' => st' = ⟨look vs, lookO os⟩) st) (h2 : steps P Γ js K ⟨look vs, lookO os⟩) : steps P Γ (is ++ js) K st := by
 have key : ∀ (is : List AI) (st : St), steps P Γ is (fun st' => steps P Γ js K st') st → steps P Γ (is ++ js) K st := by
   intro is
   induction is with
   | nil => exact fun st h => h
   | cons i is ih => exact fun st h => stepD_mono (fun st hs => ih st hs) h
 exact key is st (steps_wk (fun st' (hs : st' = _) => by rw [hs]; exact h2) h1)
theorem steps_spl {P : Program} {Γ : Tab} (k : Nat) {is l1 l2 : List AI} {K : St → Prop} {st : St} {vs : List (Nat × AV)} {os : List (Nat × AO)} (e1 : is.take k = l1) (e2 : is.drop k = l2) (h1 : steps P Γ l1 (fun st' => st' = ⟨look vs, lookO os⟩) st) (h2 : steps P Γ l2 K ⟨look vs, lookO os⟩) : steps P Γ is K st := by
 subst e1 e2
 have := steps_cut vs os h1 h2
 rwa [List.take_append_drop] at this
end Go.Proofs.Ytfpmjcdcpicmaaa.Ab
