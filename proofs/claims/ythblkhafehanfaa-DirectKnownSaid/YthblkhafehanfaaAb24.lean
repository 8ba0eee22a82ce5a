/- The abstract machine: what is to hold behind may be weakened; a row of statements cut in two. -/
import Derived.Test.YthblkhafehanfaaAb23
namespace Go.Proofs.Ythblkhafehanfaa.Ab
open Go Go.RowKit
set_option linter.unusedVariables false

section
variable {P : Program} {Γ : Tab}

theorem withO_mono {α : Type} {o : Option α} {K K' : α → Prop} (h : ∀ x, K x → K' x) (hs : withO o K) : withO o K' := by
  cases o with
  | none => exact hs
  | some x => exact h x hs
theorem semCall_mono {d : Option Nat} {f : FuncId} {xs : List AV} {objs : Nat → Option AO} {C C' : Eff → Prop} (h : ∀ e, C e → C' e) (hs : semCall P Γ d f xs objs C) : semCall P Γ d f xs objs C' := by
  unfold semCall at hs ⊢
  refine withO_mono (fun d hs => ⟨hs.1, withO_mono (fun ys hs => withO_mono (fun x hs => ?_) hs) hs.2⟩) hs
  exact ⟨hs.1, hs.2.1, hs.2.2.1, hs.2.2.2.1, h _ hs.2.2.2.2⟩
theorem stepI_wk {i : AI} {K K' : St → Prop} (h : ∀ st, K st → K' st) {st : St} (hs : stepI P Γ i K st) : stepI P Γ i K' st := by
  obtain ⟨e, he, hk⟩ := stepI_iff.1 hs
  exact stepI_iff.2 ⟨e, he, h _ hk⟩
theorem stepF_mono {i : AI} {f : FuncId} {K K' : St → Prop} (h : ∀ st, K st → K' st) {st : St} (hs : stepF P Γ i f K st) : stepF P Γ i f K' st := by
  unfold stepF at hs ⊢
  refine withO_mono (fun ys hs => withO_mono (fun x hs => ?_) hs) hs
  split at hs
  · rename_i hc
    rw [if_pos hc]
    exact semCall_mono (fun e he => h _ he) hs
  · rename_i hc
    rw [if_neg hc]
    exact stepI_wk h hs
theorem pickJ_mono {b f : Bool} {A B A' B' : Prop} (hA : A → A') (hB : B → B') (h : pickJ b f A B) : pickJ b f A' B' := by
  cases b with
  | false => exact hA h
  | true => cases f with
    | false => exact hA h
    | true => exact hB h
theorem stepJ_mono {i : AI} {K K' : St → Prop} (h : ∀ st, K st → K' st) {st : St} (hs : stepJ P Γ i K st) : stepJ P Γ i K' st := by
  unfold stepJ at hs ⊢
  split at hs
  · exact stepI_wk h hs
  · exact pickJ_mono (stepI_wk h) (h _) hs
theorem stepXo_mono {i : AI} {K K' : St → Prop} (h : ∀ st, K st → K' st) {st : St} (hs : stepXo P Γ i K st) : stepXo P Γ i K' st := by
  have hE : ∀ {d : Option Nat} {x : XK} {xs : List AV}, stepEx d x xs K st → stepEx d x xs K' st := by
    intro d x xs hs
    unfold stepEx at hs ⊢
    split at hs
    · exact withO_mono (fun d hs => ⟨hs.1, h _ hs.2⟩) hs
    · exact ⟨hs.1, withO_mono (fun es hs => ⟨hs.1, hs.2.1, hs.2.2.1, h _ hs.2.2.2⟩) hs.2⟩
    · exact ⟨hs.1, withO_mono (fun es hs => ⟨hs.1, hs.2.1, h _ hs.2.2⟩) hs.2⟩
    · unfold exAdd at hs ⊢
      split at hs
      · exact ⟨hs.1, hs.2.1, h _ hs.2.2⟩
      · exact hs
    · exact ⟨hs.1, withO_mono (fun rows hs b hb => h _ (hs b hb)) hs.2⟩
    · exact ⟨hs.1, h _ hs.2⟩
    · unfold exAppz at hs ⊢
      split at hs
      · exact withO_mono (fun d hs => ⟨hs.1, hs.2.1, hs.2.2.1, h _ hs.2.2.2⟩) hs
      · exact hs
    · exact withO_mono (fun d hs => ⟨hs.1, hs.2.1, hs.2.2.1, h _ hs.2.2.2⟩) hs
    · unfold exMks at hs ⊢
      split at hs
      · exact withO_mono (fun d hs => ⟨hs.1, hs.2.1, hs.2.2.1, h _ hs.2.2.2⟩) hs
      · exact hs
    · exact ⟨hs.1, hs.2.1, hs.2.2.1, hs.2.2.2.1, h _ hs.2.2.2.2⟩
    · exact ⟨hs.1, withO_mono (fun r hs => ⟨hs.1, h _ hs.2⟩) hs.2⟩
    · unfold exMore at hs ⊢
      split at hs
      · unfold exRst at hs ⊢
        split at hs
        · exact ⟨hs.1, withO_mono (fun r hs => ⟨hs.1, hs.2.1, h _ hs.2.2⟩) hs.2⟩
        · exact hs
      · unfold exPubk at hs ⊢
        split at hs
        · exact ⟨hs.1, withO_mono (fun r hs => withO_mono (fun j hs => withO_mono (fun s hs => withO_mono (fun ps hs => h _ hs) hs) hs) hs) hs.2⟩
        · exact hs
      · exact withO_mono (fun d hs => ⟨hs.1, h _ hs.2⟩) hs
      · unfold exPuv at hs ⊢
        split at hs
        · exact ⟨hs.1, withO_mono (fun r hs => ⟨hs.1, hs.2.1, h _ hs.2.2⟩) hs.2⟩
        · exact hs
      · unfold exGev at hs ⊢
        split at hs
        · exact ⟨hs.1, withO_mono (fun r hs => ⟨hs.1, hs.2.1, hs.2.2.1, h _ hs.2.2.2⟩) hs.2⟩
        · exact hs
      · unfold exDlv at hs ⊢
        split at hs
        · exact ⟨hs.1, withO_mono (fun r hs => ⟨hs.1, hs.2.1, h _ hs.2.2⟩) hs.2⟩
        · exact hs
      · exact ⟨hs.1, withO_mono (fun r hs => h _ hs) hs.2⟩
      · unfold exRng at hs ⊢
        split at hs
        · exact withO_mono (fun d hs => ⟨hs.1, hs.2.1, h _ hs.2.2⟩) hs
        · exact hs
      · unfold exNxt at hs ⊢
        split at hs
        · exact ⟨hs.1, withO_mono (fun r hs => ⟨fun e => h _ (hs.1 e), fun e l m q => h _ (hs.2 e l m q)⟩) hs.2⟩
        · exact hs
      · unfold exEnt at hs ⊢
        split at hs
        · exact ⟨hs.1, withO_mono (fun r hs => withO_mono (fun e hs => h _ hs) hs) hs.2⟩
        · exact hs
      · exact hs
  unfold stepXo at hs ⊢
  split at hs
  · exact hE hs
  · unfold stepEg at hs ⊢
    refine withO_mono (fun c hs => ?_) hs
    split at hs
    · rename_i h1; rw [if_pos h1]; exact hE hs
    · rename_i h1; rw [if_neg h1]; exact h _ hs
  · exact stepJ_mono h hs
  · rename_i e sz zs e1 e2
    unfold stepClr at hs ⊢
    exact ⟨hs.1, withO_mono (fun X hs => withO_mono (fun r hs => h _ hs) hs) hs.2⟩
  · unfold stepH stepHF at hs ⊢
    split at hs
    · split at hs
      · rename_i h0
        rw [if_pos h0]
        refine withO_mono (fun c hs => ?_) hs
        split at hs
        · rename_i h2; rw [if_pos h2]; exact stepG_mono h hs
        · rename_i h2; rw [if_neg h2]; exact h _ hs
      · exact hs.elim
    refine pickJ_mono (fun hs => ?_) (h _) hs
    refine withO_mono (fun c hs => withO_mono (fun ys hs => withO_mono (fun x hs => ?_) hs) hs) hs
    split at hs
    · rename_i h1
      rw [if_pos h1]
      split at hs
      · rename_i h2; rw [if_pos h2]; exact stepF_mono h hs
      · rename_i h2; rw [if_neg h2]; exact h _ hs
    · rename_i h1
      rw [if_neg h1]
      exact stepI_wk h hs
  · unfold stepC at hs ⊢
    split at hs
    · refine ⟨hs.1, withO_mono (fun x hs => ⟨hs.1, ?_⟩) hs.2⟩
      have hs := hs.2
      unfold stepCF at hs ⊢
      split at hs
      · split at hs
        · rename_i h1; rw [if_pos h1]; exact stepG_mono h hs
        · exact hs.elim
      · exact semCall_mono (fun e he => h _ he) hs
    · refine pickJ_mono (fun hs => ?_) (h _) hs
      unfold stepCg at hs ⊢
      refine withO_mono (fun c hs => withO_mono (fun x hs => ⟨hs.1, ?_⟩) hs) hs
      have hs := hs.2
      unfold semGc at hs ⊢
      exact withO_mono (fun ys hs => withO_mono (fun x hs => ⟨hs.1, hs.2.1, hs.2.2.1, hs.2.2.2.1, hs.2.2.2.2.1, h _ hs.2.2.2.2.2⟩) hs) hs
  · unfold stepFU at hs ⊢
    split at hs
    · split at hs
      · rename_i h1
        rw [if_pos h1]
        unfold stepN at hs ⊢
        exact withO_mono (fun d hs => ⟨hs.1, withO_mono (fun ys hs => withO_mono (fun x hs => ⟨hs.1, hs.2.1, hs.2.2.1, hs.2.2.2.1, h _ hs.2.2.2.2⟩) hs) hs.2⟩) hs
      · rename_i h1
        rw [if_neg h1]
        split at hs
        · rename_i h2; rw [if_pos h2]; exact stepG_mono h hs
        rename_i h2
        rw [if_neg h2]
        unfold stepU at hs ⊢
        refine withO_mono (fun d hs => ⟨hs.1, withO_mono (fun X hs => withO_mono (fun T hs => ⟨hs.1, withO_mono (fun ys hs => withO_mono (fun x hs => ?_) hs) hs.2⟩) hs) hs.2⟩) hs
        exact ⟨hs.1, hs.2.1, hs.2.2.1, hs.2.2.2.1, h _ hs.2.2.2.2⟩
    · exact stepF_mono h hs
  · exact stepI_wk h hs
  · exact stepJ_mono h hs
theorem stepX_mono {i : AI} {K K' : St → Prop} (h : ∀ st, K st → K' st) {st : St} (hs : stepX P Γ i K st) : stepX P Γ i K' st := by
  unfold stepX at hs ⊢
  split at hs
  · split at hs
    · rename_i h1; rw [if_pos h1]
      exact ⟨hs.1, withO_mono (fun r hs => ⟨hs.1, hs.2.1, h _ hs.2.2⟩) hs.2⟩
    · rename_i h1; rw [if_neg h1]; exact stepXo_mono h hs
  · exact stepXo_mono h hs
theorem stepsX_mono {K K' : St → Prop} (h : ∀ st, K st → K' st) : ∀ {is : List AI} {st : St}, stepsX P Γ is K st → stepsX P Γ is K' st
  | [], st, hs => h st hs
  | i :: is, st, hs => stepX_mono (fun st hs => stepsX_mono h hs) hs
theorem steps_wk {K K' : St → Prop} (h : ∀ st, K st → K' st) : ∀ {is : List AI} {st : St}, steps P Γ is K st → steps P Γ is K' st
  | [], st, hs => h st hs
  | i :: is, st, hs => stepD_mono (fun st hs => steps_wk h hs) hs
theorem vwp_mono : ∀ {a : AC} {K K' : St → Prop} {J J' : Exit → St → Prop} {st : St}, (∀ st, K st → K' st) → (∀ e st, J e st → J' e st) → vwp P Γ a K J st → vwp P Γ a K' J' st
  | .skip, _, _, _, _, st, h, _, hs => h st hs
  | .reg is d keep, _, _, _, _, st, h, _, hs => by
    unfold vwp at hs ⊢
    split at hs
    · rename_i hd; rw [if_pos hd]; exact steps_wk (fun st hs => h _ hs) hs
    · rename_i hd; rw [if_neg hd]; exact stepsX_mono (fun st hs => h _ hs) hs
  | .seq a b, _, _, _, _, st, h, hj, hs => vwp_mono (a := a) (fun st hs => vwp_mono (a := b) h hj hs) hj hs
  | .cond x a b, _, _, _, _, st, h, hj, hs => withO_mono (fun c hs => ⟨fun e => vwp_mono (a := a) h hj (hs.1 e), fun e => vwp_mono (a := b) h hj (hs.2 e)⟩) (show withO _ _ from hs)
  | .block id a, K, K', J, J', st, h, hj, hs => vwp_mono (a := a) h (fun e st hs => by
      cases e with
      | exit id' =>
        simp only [inBlk] at hs ⊢
        split at hs
        · rename_i h1; rw [if_pos h1]; exact h _ hs
        · rename_i h1; rw [if_neg h1]; exact hj _ _ hs
      | _ => exact hj _ _ hs) (show vwp P Γ a K (inBlk id K J) st from hs)
  | .loop a, _, _, _, _, st, h, hj, hs => by
    obtain ⟨ι, F, μ, ad, shs, i0, hw, hr⟩ := hs
    exact ⟨ι, F, μ, ad, shs, i0, hw, fun i => vwp_mono (a := a) (fun st hs => hs) hj (hr i)⟩
  | .exit id, _, _, _, _, st, _, hj, hs => hj _ _ hs
  | .ret, _, _, _, _, st, _, hj, hs => hj _ _ hs

/-- A row of statements, cut: the state behind the first. -/
theorem vwp_cut {a b : AC} {K : St → Prop} {J : Exit → St → Prop} {st : St} (vs : List (Nat × AV)) (os : List (Nat × AO)) (h1 : vwp P Γ a (fun st' => st' = ⟨look vs, lookO os⟩) J st) (h2 : vwp P Γ b K J ⟨look vs, lookO os⟩) : vwp P Γ (.seq a b) K J st :=
  vwp_mono (a := a) (fun st' (hs : st' = _) => by rw [hs]; exact h2) (fun _ _ h => h) h1
theorem vwp_cT {x : Operand} {a b : AC} {K : St → Prop} {J : Exit → St → Prop} {vs : List (Nat × AV)} {os : List (Nat × AO)} (h : boolOf (ev (look vs) x) = some true) (h1 : vwp P Γ a K J ⟨look vs, lookO os⟩) : vwp P Γ (.cond x a b) K J ⟨look vs, lookO os⟩ := by
  rw [R.vwp_cond, h]
  exact ⟨fun _ => h1, fun e => Bool.noConfusion e⟩
theorem vwp_cF {x : Operand} {a b : AC} {K : St → Prop} {J : Exit → St → Prop} {vs : List (Nat × AV)} {os : List (Nat × AO)} (h : boolOf (ev (look vs) x) = some false) (h1 : vwp P Γ b K J ⟨look vs, lookO os⟩) : vwp P Γ (.cond x a b) K J ⟨look vs, lookO os⟩ := by
  rw [R.vwp_cond, h]
  exact ⟨fun e => Bool.noConfusion e, fun _ => h1⟩
/-- As 'vwp_cut', where what follows stands behind. -/
theorem vwp_at {a : AC} {K : St → Prop} {J : Exit → St → Prop} {st : St} (vs : List (Nat × AV)) (os : List (Nat × AO)) (h1 : vwp P Γ a (fun st' => st' = ⟨look vs, lookO os⟩) J st) (h2 : K ⟨look vs, lookO os⟩) : vwp P Γ a K J st :=
  vwp_mono (a := a) (fun st' (hs : st' = _) => by rw [hs]; exact h2) (fun _ _ h => h) h1
/-- As 'vwp_cut', where some of the frame is forgotten. -/
theorem vwp_cutB {a b : AC} {K : St → Prop} {J : Exit → St → Prop} {st : St} (Q : St → Prop) (h1 : vwp P Γ a Q J st) (h2 : ∀ st', Q st' → vwp P Γ b K J st') : vwp P Γ (.seq a b) K J st :=
  vwp_mono (a := a) (fun st' hs => h2 st' hs) (fun _ _ h => h) h1
theorem stepsX_cut {is js : List AI} {K : St → Prop} {st : St} (vs : List (Nat × AV)) (os : List (Nat × AO)) (h1 : stepsX P Γ is (fun st' => st' = ⟨look vs, lookO os⟩) st) (h2 : stepsX P Γ js K ⟨look vs, lookO os⟩) : stepsX P Γ (is ++ js) K st := by
  have key : ∀ (is : List AI) (st : St), stepsX P Γ is (fun st' => stepsX P Γ js K st') st → stepsX P Γ (is ++ js) K st := by
    intro is
    induction is with
    | nil => exact fun st h => h
    | cons i is ih => exact fun st h => stepX_mono (fun st hs => ih st hs) h
  exact key is st (stepsX_mono (fun st' (hs : st' = _) => by rw [hs]; exact h2) h1)
/-- A row of operations, cut behind the first k. -/
theorem stepsX_at (k : Nat) {is : List AI} {K : St → Prop} {st : St} (vs : List (Nat × AV)) (os : List (Nat × AO)) (h1 : stepsX P Γ (is.take k) (fun st' => st' = ⟨look vs, lookO os⟩) st) (h2 : stepsX P Γ (is.drop k) K ⟨look vs, lookO os⟩) : stepsX P Γ is K st := by
  have := stepsX_cut vs os h1 h2
  rwa [List.take_append_drop] at this
theorem stepsX_spl (k : Nat) {is l1 l2 : List AI} {K : St → Prop} {st : St} {vs : List (Nat × AV)} {os : List (Nat × AO)} (e1 : is.take k = l1) (e2 : is.drop k = l2) (h1 : stepsX P Γ l1 (fun st' => st' = ⟨look vs, lookO os⟩) st) (h2 : stepsX P Γ l2 K ⟨look vs, lookO os⟩) : stepsX P Γ is K st := by
  subst e1 e2
  exact stepsX_at k vs os h1 h2
end
end Go.Proofs.Ythblkhafehanfaa.Ab
