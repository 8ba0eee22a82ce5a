/- strings.Clone; a row of bytes in new memory. -/
import Derived.Test.YtcgllachkjnlgaaM1
import Derived.Test.YtcgllachkjnlgaaD6
namespace Go.Proofs.Ytcgllachkjnlgaa.Ab
open Go Go.RowKit R
set_option linter.unusedVariables false
set_option linter.unusedSimpArgs false
set_option maxHeartbeats 4000000
set_option maxRecDepth 100000

/-- As 'con_two', with one answer. -/
theorem con_one {P : Program} {f : FuncId} {args : List AV} {p : PV} {u : Value} (h : ∀ (w : World) (S : Nat → Prop) (vals : List Value), (∀ b, S b → b < w.heap.size) → vals.length = args.length →
      (∀ (i : Nat) (x : Value) (y : AV), vals[i]? = some x → args[i]? = some y → RV P S w (fun _ => .nilIface) (fun _ => False) x y) →
      Calls P f vals.toArray w fun e w' => e = .returned u ∧ Below w.heap.size w w')
    (hu : ∀ S w, RPV S w u p) : Con P f [] args [] (.pv p) := by
  intro w S0 β vals hS0 hlt hheap hvl hvr
  have hno : ∀ t, unionO (lookO []) (fun t => frO (cellAt (.pv p) t)) t = none := by
    intro t
    show frO (cellAt (.pv p) t) = none
    cases hc : cellAt (.pv p) t with
    | none => rfl
    | some x =>
      have : x = .pv p := by
        simp only [cellAt, cellAt1] at hc
        split at hc
        · split at hc
          · simpa using hc.symm
          · cases hc
        · cases hc
      subst this
      rfl
  refine (h w (okS S0 w.heap.size β (lookO []) w) vals (fun b hb => hb.2.1) hvl fun i x y hx hy => ?_).mono ?_
  · exact (hvr i x y hx hy).mono (fun b hb => ⟨hb, rfl⟩) (fun t ⟨o, ho⟩ => by simp [lookO] at ho)
  · rintro e w' ⟨rfl, hb⟩
    refine ⟨_, fun _ => .nilIface, rfl, ⟨hb.os, hb.tape, hb.output, hb.size, fun k hk _ => hb.block k hk⟩, ⟨fun t o ho => ?_, fun t t' b ⟨o, ho⟩ => ?_⟩, fun t b ⟨o, ho⟩ => ?_, .pv _ _ (hu _ _)⟩
    · rw [hno] at ho; cases ho
    · rw [hno] at ho; cases ho
    · rw [hno] at ho; cases ho

noncomputable def Gclone : List AV → Option (Prop × AV)
  | [.pv (.str s)] => some (s.length ≤ 1000000000, .pv (.str s))
  | _ => none
@[simp] theorem Gclone_eq (s : List UInt8) : Gclone [.pv (.str s)] = some (s.length ≤ 1000000000, .pv (.str s)) := rfl
theorem c_lite : ConT Try.prog 56 Gclone := by
  intro ys φ r h hφ
  unfold Gclone at h
  split at h
  · rename_i s
    cases h
    refine con_one (u := .string ⟨s.toArray⟩) ?_ (fun S w => .str _)
    intro w S vals hS hvl hvr
    match vals, hvl with
    | [v0], _ =>
      have h0 := (hvr 0 v0 _ rfl rfl).str_inv
      subst h0
      exact Try.stringslite_Clone ⟨s.toArray⟩ w (by simp [ByteArray.size]; omega)
  · cases h
theorem c_clone : ConT Try.prog 47 Gclone := by
  intro ys φ r h hφ
  unfold Gclone at h
  split at h
  · cases h
    refine con_of (tab_cons c_lite tab_nil) (by kernel_rfl) fn47 (by simp) ?_
    unfold body47
    simp (config := { maxSteps := 3000000 })
    exact hφ
  · cases h

noncomputable def Gown : List AV → Option (Prop × AV)
  | [.pv (.ro a)] => (dec byteR a).map fun l => (l.length ≤ 1000000000, .fr 5 (bytesRow l))
  | _ => none
@[simp] theorem Gown_eq (a : List (List PV)) : Gown [.pv (.ro a)] = (dec byteR a).map fun l => (l.length ≤ 1000000000, .fr 5 (bytesRow l)) := rfl
theorem c_own : ConT Try.prog 25 Gown := by
  intro ys φ r h hφ
  unfold Gown at h
  split at h
  · rename_i ra
    obtain ⟨a, ha, h⟩ := Option.map_eq_some_iff.1 h
    cases h
    cases dec_bytes_inv ha
    refine con_of tab_nil (by kernel_rfl) fn25 (by simp) ?_
    unfold body25
    simp (config := { maxSteps := 3000000 }) [maxLen_eq]
    refine ⟨by omega, by omega, bytesRow_one _⟩
  · cases h

end Go.Proofs.Ytcgllachkjnlgaa.Ab
