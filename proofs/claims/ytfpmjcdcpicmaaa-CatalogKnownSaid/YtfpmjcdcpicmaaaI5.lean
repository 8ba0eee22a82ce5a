/- slices.Insert and slices.Delete of one entry: contracts. -/
import Derived.Test.YtfpmjcdcpicmaaaI3
import Derived.Test.YtfpmjcdcpicmaaaI4
import Derived.Test.YtfpmjcdcpicmaaaC1
namespace Go.Proofs.Ytfpmjcdcpicmaaa.Ab
open Go Go.RowKit R
set_option linter.unusedVariables false
set_option linter.unusedSimpArgs false
set_option maxHeartbeats 4000000
set_option maxRecDepth 100000

theorem plain_rowsC (l : List En) : plainRows (rowsC l) := by
  intro r hr p hp
  simp only [rowsC, List.mem_map] at hr
  obtain ⟨e, _, rfl⟩ := hr
  simp only [rowC, List.mem_cons, List.not_mem_nil, or_false] at hp
  rcases hp with rfl | rfl <;> rfl
theorem rowsC_take (l : List En) (i : Nat) : rowsC (l.take i) = (rowsC l).take i := by simp [rowsC, List.map_take]
theorem rowsC_drop (l : List En) (i : Nat) : rowsC (l.drop i) = (rowsC l).drop i := by simp [rowsC, List.map_drop]
theorem cellsV_rowC (e : En) : cellsV [rowC e] = [Value.string ⟨e.n.toArray⟩, Value.int .u64 e.i] := rfl
def insC (l : List En) (i : Nat) (e : En) : List En := l.take i ++ e :: l.drop i
theorem cells_ins (l : List En) (i : Nat) (e : En) : cellsV (rowsC (insC l i e)) = (cellsV (rowsC l)).take (i * 2) ++ [Value.string ⟨e.n.toArray⟩, Value.int .u64 e.i] ++ (cellsV (rowsC l)).drop (i * 2) := by
  unfold insC
  rw [show l.take i ++ e :: l.drop i = l.take i ++ ([e] ++ l.drop i) from rfl, rowsC_append, rowsC_append, cellsV_append, cellsV_append, rowsC_take, rowsC_drop, cellsV_take i (rowsC_two l), cellsV_drop i (rowsC_two l), List.append_assoc]
  rfl
theorem cells_del (l : List En) (i : Nat) : cellsV (rowsC (l.take i ++ l.drop (i + 1))) = (cellsV (rowsC l)).take (i * 2) ++ (cellsV (rowsC l)).drop ((i + 1) * 2) := by
  rw [rowsC_append, cellsV_append, rowsC_take, rowsC_drop, cellsV_take i (rowsC_two l), cellsV_drop (i + 1) (rowsC_two l)]

noncomputable def GIns : List AV → Option (Prop × AV)
  | [.fr e a, .pv (.int .i64 i), .pv (.ro [[.str nm, .int .u64 id]])] => if e = 51 then (dec rowC a).map fun l => (0 ≤ i ∧ i ≤ l.length ∧ l.length ≤ 1000000, .fr 51 (rowsC (insC l i.toNat ⟨nm, id⟩))) else none
  | _ => none
@[simp] theorem GIns_eq (e : TypeId) (a : List (List PV)) (i id : Int) (nm : List UInt8) : GIns [.fr e a, .pv (.int .i64 i), .pv (.ro [[.str nm, .int .u64 id]])] = if e = 51 then (dec rowC a).map fun l => (0 ≤ i ∧ i ≤ l.length ∧ l.length ≤ 1000000, .fr 51 (rowsC (insC l i.toNat ⟨nm, id⟩))) else none := rfl
theorem c_Ins : ConTU Try.prog 98 GIns := by
  intro ys φ r h hφ
  unfold GIns at h
  split at h
  · rename_i e ra i nm id
    split at h
    · rename_i hef
      subst hef
      obtain ⟨l, hl, h⟩ := Option.map_eq_some_iff.1 h
      cases h
      cases dec_rowsC_inv hl
      obtain ⟨h0, h1, h2⟩ := hφ
      obtain ⟨k, rfl⟩ : ∃ k : Nat, i = (k : Int) := ⟨i.toNat, by omega⟩
      simp only [Int.toNat_natCast]
      obtain ⟨inf, z, hi, hz, hzs, hsz, hby⟩ := ent_info
      have hins : (insC l k ⟨nm, id⟩).length = l.length + 1 := by unfold insC; simp; omega
      refine conU_row hi (rows := rowsC l) (rows' := rowsC (insC l k ⟨nm, id⟩)) (by rw [hsz]; exact rowsC_two l) (plain_rowsC l) (by rw [hsz]; exact rowsC_two _) (plain_rowsC _) [.int .i64 (k : Int), .ro [[.str nm, .int .u64 id]]] ?_
      intro w S V vals hown hS hlen hv
      rw [hsz] at hown ⊢
      match vals, hlen with
      | [v1, v2], _ =>
        have e1 := (hv 0 v1 _ rfl rfl).int_inv
        subst e1
        obtain ⟨A, c, rfl, hc, hne⟩ := (hv 1 v2 _ rfl rfl).ro_inv
        obtain ⟨ad, sz, us, rfl, g1, g2, g3, g4, g5⟩ := hne (by simp)
        have hs2 : sz = 2 := (g2 [.str nm, .int .u64 id] (by simp)).symm
        subst hs2
        have u0 : us 0 0 = .string ⟨nm.toArray⟩ := (g5 0 0 _ _ rfl rfl).str_inv
        have u1 : us 0 1 = .int .u64 id := (g5 0 1 _ _ rfl rfl).int_inv
        have k0 : w.cell? (ad.add 0) = some (.string ⟨nm.toArray⟩) := by rw [← u0]; exact g3 0 0 (by simp) (by omega)
        have k1 : w.cell? (ad.add 1) = some (.int .u64 id) := by rw [← u1]; exact g3 0 1 (by simp) (by omega)
        have hb := (hS _ g1).2
        rw [rowsC_length, hins, cells_ins]
        rw [rowsC_length] at hown
        rcases Nat.lt_or_ge k l.length with hk | hk
        · rcases hown.2 with ⟨_, hn⟩ | ⟨g, cap, cur, rfl, hb0, hg0, hnc, hcm, hcs, htk⟩
          · omega
          · have hbg : ad.block ≠ g := fun e => hb (by rw [e]; rfl)
            rcases Nat.lt_or_ge cap (l.length + 1) with hr | hr
            · exact insert_grow w (rowsC l) (rowsC_two l) (plain_rowsC l) k l.length (rowsC_length l) hk h2 nm id g cap cur hg0 hnc hcs htk hr ad c k0 k1
            · exact insert_room w (rowsC l) (rowsC_two l) (plain_rowsC l) k l.length (rowsC_length l) hk h2 nm id g cap cur hg0 hcm hcs htk hr ad c hbg k0 k1
        · have hkl : k = l.length := by omega
          subst hkl
          have hcl : (cellsV (rowsC l)).length = l.length * 2 := by rw [cellsV_len (rowsC_two l), rowsC_length]
          rw [List.take_of_length_le (by omega), List.drop_of_length_le (by omega), List.append_nil]
          have := insert_end w V (rowsC l) (rowsC_two l) (plain_rowsC l) (by simpa using h2) nm id (by rw [rowsC_length]; exact hown) ad c k0 k1
          rw [rowsC_length] at this
          exact this
    · cases h
  · cases h

noncomputable def GDel : List AV → Option (Prop × AV)
  | [.fr e a, .pv (.int .i64 i), .pv (.int .i64 j)] => if e = 51 then (dec rowC a).map fun l => (0 ≤ i ∧ i < l.length ∧ j = i + 1 ∧ l.length ≤ 1000000, .fr 51 (rowsC (l.take i.toNat ++ l.drop (i.toNat + 1)))) else none
  | _ => none
@[simp] theorem GDel_eq (e : TypeId) (a : List (List PV)) (i j : Int) : GDel [.fr e a, .pv (.int .i64 i), .pv (.int .i64 j)] = if e = 51 then (dec rowC a).map fun l => (0 ≤ i ∧ i < l.length ∧ j = i + 1 ∧ l.length ≤ 1000000, .fr 51 (rowsC (l.take i.toNat ++ l.drop (i.toNat + 1)))) else none := rfl
theorem c_Del : ConTU Try.prog 101 GDel := by
  intro ys φ r h hφ
  unfold GDel at h
  split at h
  · rename_i e ra i j
    split at h
    · rename_i hef
      subst hef
      obtain ⟨l, hl, h⟩ := Option.map_eq_some_iff.1 h
      cases h
      cases dec_rowsC_inv hl
      obtain ⟨h0, h1, hj, h2⟩ := hφ
      subst hj
      obtain ⟨k, rfl⟩ : ∃ k : Nat, i = (k : Int) := ⟨i.toNat, by omega⟩
      simp only [Int.toNat_natCast]
      obtain ⟨inf, z, hi, hz, hzs, hsz, hby⟩ := ent_info
      have hins : (l.take k ++ l.drop (k + 1)).length = l.length - 1 := by simp; omega
      refine conU_row hi (rows := rowsC l) (rows' := rowsC (l.take k ++ l.drop (k + 1))) (by rw [hsz]; exact rowsC_two l) (plain_rowsC l) (by rw [hsz]; exact rowsC_two _) (plain_rowsC _) [.int .i64 (k : Int), .int .i64 ((k : Int) + 1)] ?_
      intro w S V vals hown hS hlen hv
      rw [hsz] at hown ⊢
      match vals, hlen with
      | [v1, v2], _ =>
        have e1 := (hv 0 v1 _ rfl rfl).int_inv
        have e2 := (hv 1 v2 _ rfl rfl).int_inv
        subst e1 e2
        rw [rowsC_length, hins, cells_del]
        rw [rowsC_length] at hown
        rcases hown.2 with ⟨_, hn⟩ | ⟨g, cap, cur, rfl, hb0, hg0, hnc, hcm, hcs, htk⟩
        · omega
        · exact delete_walk w (rowsC l) (rowsC_two l) (plain_rowsC l) k l.length (rowsC_length l) (by omega) h2 g cap cur hg0 hnc hcm hcs htk
    · cases h
  · cases h

end Go.Proofs.Ytfpmjcdcpicmaaa.Ab
