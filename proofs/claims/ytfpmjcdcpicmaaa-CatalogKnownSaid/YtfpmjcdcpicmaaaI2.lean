/- slices.Insert of one entry, walked at the machine. -/
import Derived.Test.YtfpmjcdcpicmaaaI1
import Derived.Shelf.Spec.SlicesInsert
namespace Go.Proofs.Ytfpmjcdcpicmaaa.Ab
open Go Go.RowKit R
set_option linter.unusedVariables false
set_option linter.unusedSimpArgs false
set_option maxHeartbeats 4000000
set_option maxRecDepth 100000

theorem ent_info : ∃ inf z, Try.prog.info? 51 = some inf ∧ inf.zero = some z ∧ z.cells.size = inf.size ∧ inf.size = 2 ∧ inf.bytes = 24 := by
  refine ⟨_, _, rfl, rfl, ?_, ?_, ?_⟩ <;> kernel_rfl

theorem insert_end (w : World) (V : Value) (rows : List (List PV)) (hs2 : ∀ r ∈ rows, r.length = 2) (hp : plainRows rows) (hsm : rows.length ≤ 1000000) (nm : List UInt8) (id : Int)
    (hown : w.ownsRow 0 51 2 V rows.length (cellsV rows)) (ad : Addr) (c : Nat)
    (h0 : w.cell? (ad.add 0) = some (.string ⟨nm.toArray⟩)) (h1 : w.cell? (ad.add 1) = some (.int .u64 id)) :
    Calls Try.prog 98 #[V, .int .i64 rows.length, .slice (some ad) 1 c] w fun r w' => ∃ V', r = .returned V' ∧
      w'.ownsRow 0 51 2 V' (rows.length + 1) (cellsV rows ++ [.string ⟨nm.toArray⟩, .int .u64 id]) ∧ w.grownBy w' V.ownBlock ∧ (∀ b, V'.ownBlock = some b → V.ownBlock = some b ∨ w.heap.size ≤ b) := by
  obtain ⟨inf, z, hi, hz, hzs, hsz, hby⟩ := ent_info
  have hsrc : Src Try.prog inf.size 22 (.slice (some ad) 1 c) 1 [.string ⟨nm.toArray⟩, .int .u64 id] w := by
    rw [hsz]
    refine Src.ofSlice w Try.underlying22 ad 1 c _ (by simp) (fun j u hj => ?_) (fun u hu => ?_)
    · match j with
      | 0 => simp at hj; subst hj; exact h0
      | 1 => simp at hj; subst hj; exact h1
      | j + 2 => simp at hj
    · simp only [List.mem_cons, List.not_mem_nil, or_false] at hu
      rcases hu with rfl | rfl <;> rfl
  rw [← hsz] at hown
  obtain ⟨v', w', hrun, hown', hg, hbl⟩ := run_app w 23 22 23 51 inf z Try.underlying23 hi hz hzs (by omega) V rows.length (cellsV rows) hown (.slice (some ad) 1 c) 1 _ hsrc
    (by unfold maxLen; omega) (by rw [hby]; omega)
  rw [hsz] at hown' hown
  have hfin : ∃ V', (Ending.returned v' : Ending) = .returned V' ∧ w'.ownsRow 0 51 2 V' (rows.length + 1) (cellsV rows ++ [.string ⟨nm.toArray⟩, .int .u64 id]) ∧ w.grownBy w' V.ownBlock ∧ (∀ b, V'.ownBlock = some b → V.ownBlock = some b ∨ w.heap.size ≤ b) :=
    ⟨v', rfl, hown', hg, fun b hb => by
      rcases hbl with h | h
      · rw [h] at hb; exact .inl hb
      · rw [h] at hb; injection hb with hb; exact .inr (by omega)⟩
  have key : ∀ Φ : Ending → World → Prop, Φ (.returned v') w' → Calls Try.prog 98 #[V, .int .i64 rows.length, .slice (some ad) 1 c] w Φ := by
    intro Φ hΦ
    rcases hown.2 with ⟨rfl, hn⟩ | ⟨g, cap, cur, rfl, hb0, hg0, hnc, hcm, hcs, htk⟩
    · obtain rfl : rows = [] := List.eq_nil_of_length_eq_zero hn
      simp only [List.length_nil]
      clear hown hbl hg hown' hfin
      go_enter Try.func98, Try.ntmps98
      go_wp2_with (at_builtin; refine Lib.wpList_append_run _ rfl _ _ _ _ rfl _ _ rfl rfl _ _ hrun ?_)
      all_goals exact hΦ
    · generalize hn : rows.length = n at *
      have e1 : (0 : Int) ≤ (n : Int) := by omega
      have e2 : (n : Int) ≤ (n : Int) := by omega
      clear hown hbl hg hown' hfin
      go_enter Try.func98, Try.ntmps98
      go_wp2_with (at_builtin; refine Lib.wpList_append_run _ rfl _ _ _ _ rfl _ _ rfl rfl _ _ hrun ?_)
      all_goals exact hΦ
  exact key _ hfin

theorem cellsV_take {sz : Nat} : ∀ {rows : List (List PV)} (i : Nat), (∀ r ∈ rows, r.length = sz) → cellsV (rows.take i) = (cellsV rows).take (i * sz)
  | [], i, _ => by simp [cellsV]
  | r :: rows, 0, _ => by simp [cellsV]
  | r :: rows, i + 1, h => by
    have ih := cellsV_take (rows := rows) i fun r hr => h r (by simp [hr])
    have h0 := h r (by simp)
    unfold cellsV at ih ⊢
    simp only [List.take_succ_cons, List.flatMap_cons, ih]
    have e1 : (i + 1) * sz - (r.map pvV).length = i * sz := by rw [List.length_map, h0, Nat.succ_mul]; omega
    have e2 : (r.map pvV).take ((i + 1) * sz) = r.map pvV := List.take_of_length_le (by rw [List.length_map, h0, Nat.succ_mul]; omega)
    rw [List.take_append, e1, e2]
theorem cellsV_drop {sz : Nat} {rows : List (List PV)} (i : Nat) (h : ∀ r ∈ rows, r.length = sz) : cellsV (rows.drop i) = (cellsV rows).drop (i * sz) := by
  have h1 := cellsV_take i h
  have h2 : cellsV (rows.take i) ++ cellsV (rows.drop i) = cellsV rows := by rw [← cellsV_append, List.take_append_drop]
  rw [h1] at h2
  have h3 := List.take_append_drop (i * sz) (cellsV rows)
  exact List.append_cancel_left (h2.trans h3.symm)

set_option maxHeartbeats 8000000 in
theorem insert_room (w : World) (rows : List (List PV)) (hs2 : ∀ r ∈ rows, r.length = 2) (hp : plainRows rows) (i n : Nat) (hn : rows.length = n) (hi : i < n) (hsm : n ≤ 1000000) (nm : List UInt8) (id : Int)
    (g cap : Nat) (cur : Array Value) (hg0 : w.heap[g]? = some (.cells cur 51 (0, 0))) (hcm : cap ≤ maxLen) (hcs : cur.size = cap * 2) (htk : cur.toList.take (n * 2) = cellsV rows) (hroom : n + 1 ≤ cap) (ad : Addr) (c : Nat) (hb : ad.block ≠ g)
    (h0 : w.cell? (ad.add 0) = some (.string ⟨nm.toArray⟩)) (h1 : w.cell? (ad.add 1) = some (.int .u64 id)) :
    Calls Try.prog 98 #[.slice (some ⟨g, 0, none⟩) n cap, .int .i64 i, .slice (some ad) 1 c] w fun r w' => ∃ V', r = .returned V' ∧
      w'.ownsRow 0 51 2 V' (n + 1) ((cellsV rows).take (i * 2) ++ [.string ⟨nm.toArray⟩, .int .u64 id] ++ (cellsV rows).drop (i * 2)) ∧ w.grownBy w' (Value.slice (some ⟨g, 0, none⟩) n cap).ownBlock ∧ (∀ b, V'.ownBlock = some b → (Value.slice (some ⟨g, 0, none⟩) n cap).ownBlock = some b ∨ w.heap.size ≤ b) := by
  obtain ⟨inf, z, hi', hz, hzs, hsz, hby⟩ := ent_info
  have hszm : (Try.prog.info? 51).map (·.size) = some 2 := by rw [hi']; simp [hsz]
  have hcl : (cellsV rows).length = n * 2 := by rw [cellsV_len hs2, hn]
  obtain ⟨cs, hcse⟩ : ∃ cs, cs = (cellsV rows).drop (i * 2) := ⟨_, rfl⟩
  have hcsl : cs.length = (n - i) * 2 := by rw [hcse, List.length_drop, hcl]; omega
  have hcur : cur.toList.length = cap * 2 := by simpa using hcs
  have hone := cellsV_one hp
  obtain ⟨X1, hX1⟩ : ∃ X1, X1 = (cur.toList.take ((i + 1) * 2) ++ cs ++ cur.toList.drop ((i + 1) * 2 + cs.length)).toArray := ⟨_, rfl⟩
  have hX1l : X1.size = cap * 2 := by
    rw [hX1]; simp only [List.size_toArray, List.length_append, List.length_take, List.length_drop, hcur, hcsl]; omega
  have hcell : ∀ j v, cs[j]? = some v → w.cell? ((⟨g, i * 2, none⟩ : Addr).add j) = some v := by
    intro j v hj
    rw [Addr.add_lit]
    have hjl : j < cs.length := (List.getElem?_eq_some_iff.1 hj).1
    rw [hcse, List.getElem?_drop, ← htk, List.getElem?_take] at hj
    split at hj
    · simp only [World.cell?, hg0]
      simpa using hj
    · cases hj
  have hcp1 : ∀ sT ty dc sc, (Builtin.copy_ #[23, sT] ty #[.slice (some ⟨g, (i + 1) * 2, none⟩) (n - i) dc, .slice (some ⟨g, i * 2, none⟩) (n + 1 - i) sc]).run Try.prog w.drew = .ok (goInt (n - i)) (w.drew.setRow g X1) := fun sT ty dc sc => by
    have := run_copy_rowN w.drew 23 sT ty 51 g ((i + 1) * 2) (n - i) dc ⟨g, i * 2, none⟩ (n + 1 - i) sc 2 cur 51 cs Try.underlying23 hszm hg0
      (by rw [hcsl]; congr 1; simp only [Nat.min_def]; split <;> omega) hcell (by rw [hcsl, hcs]; omega) (fun v hv => hone v (by rw [hcse] at hv; exact List.mem_of_mem_drop hv))
    rw [this, hX1]
    congr 2
    simp only [Nat.min_def]; split <;> omega
  obtain ⟨X2, hX2⟩ : ∃ X2, X2 = (X1.toList.take (i * 2) ++ [Value.string ⟨nm.toArray⟩, Value.int .u64 id] ++ X1.toList.drop (i * 2 + 2)).toArray := ⟨_, rfl⟩
  have hcp2 : ∀ W : World, W.heap = (w.drew.setRow g X1).heap → ∀ sT ty dc, (Builtin.copy_ #[23, sT] ty #[.slice (some ⟨g, i * 2, none⟩) (n + 1 - i) dc, .slice (some ad) 1 c]).run Try.prog W = .ok (goInt 1) (W.setRow g X2) := fun W hW sT ty dc => by
    have hWg : W.heap[g]? = some (.cells X1 51 (0, 0)) := by rw [hW]; exact setRow_heap w.drew g cur X1 _ _ hg0
    have hWc : ∀ x : Addr, x.block ≠ g → W.cell? x = w.cell? x := fun x hx => by
      have : (w.drew.setRow g X1).cell? x = w.drew.cell? x := cell_setRow_other w.drew g X1 x hx
      unfold World.cell? at this ⊢
      rw [hW]
      exact this
    have := run_copy_rowN W 23 sT ty 51 g (i * 2) (n + 1 - i) dc ad 1 c 2 X1 51 [.string ⟨nm.toArray⟩, .int .u64 id] Try.underlying23 hszm hWg
      (by simp only [List.length_cons, List.length_nil, Nat.min_def]; split <;> omega)
      (fun j v hj => by
        have hab : ∀ j, (ad.add j).block ≠ g := fun j => by rw [add_block]; exact hb
        match j with
        | 0 => simp at hj; subst hj; rw [hWc _ (hab 0)]; exact h0
        | 1 => simp at hj; subst hj; rw [hWc _ (hab 1)]; exact h1
        | j + 2 => simp at hj)
      (by simp only [List.length_cons, List.length_nil, hX1l]; omega) (by
        intro v hv
        simp only [List.mem_cons, List.not_mem_nil, or_false] at hv
        rcases hv with rfl | rfl <;> rfl)
    rw [this, hX2]
    congr 2
    simp only [Nat.min_def]; split <;> omega
  have hzr : ∀ w, (Go.sizeOf 51).run Try.prog w = .ok 2 w := fun w => by rw [run_sz hi' w, hsz]
  have hov : ∀ W : World, W.heap = w.heap → ∀ o lb cb, (callFunc 151 #[.slice (some ad) 1 c, .slice (some ⟨g, o, none⟩) lb cb]).run Try.prog W = .ok (.value (.bool false)) W := fun W hW o lb cb => by
    rw [run_callFunc_extern Try.func151 (by kernel_rfl) (by kernel_rfl) (by kernel_rfl) (e := Extern.SlicesOverlaps.overlaps #[22, 22] #[4]) (by kernel_rfl),
      run_overlaps_own W 22 4 51 Try.underlying22 2 hzr ad ⟨g, o, none⟩ 1 c lb cb hb (va := .string ⟨nm.toArray⟩) (cur := cur) (tb := 51)
        (by rw [add_zero'] at h0; unfold World.cell? at h0 ⊢; rw [hW]; exact h0) (by rw [hW]; exact hg0) (by omega)]
    rfl
  have key : ∀ Φ : Ending → World → Prop, (∀ w', w'.heap = ((w.setRow g X1).setRow g X2).heap → w'.os = w.os → w'.tape = w.tape → w'.output = w.output → Φ (.returned (.slice (some ⟨g, 0, none⟩) (n + 1) cap)) w') →
      Calls Try.prog 98 #[.slice (some ⟨g, 0, none⟩) n cap, .int .i64 i, .slice (some ad) 1 c] w Φ := by
    intro Φ hΦ
    have q1 : ¬ ((i : Int) = (n : Int)) := by omega
    have q2 : ¬ ((cap : Int) < (n : Int) + 1) := by omega
    have q3 : (i : Int) ≤ (n : Int) := by omega
    have q4 : (n : Int) + 1 ≤ (cap : Int) := by omega
    have q5 : (0 : Int) ≤ (n : Int) + 1 := by omega
    have q6 : (i : Int) + 1 ≤ (n : Int) + 1 := by omega
    have q7 : IntKind.i64.wrap ((n : Int) + 1) = (n : Int) + 1 := by rw [IntKind.wrap_i64]; omega
    have q8 : IntKind.i64.wrap ((i : Int) + 1) = (i : Int) + 1 := by rw [IntKind.wrap_i64]; omega
    have q9 : ((n : Int) + 1).toNat = n + 1 := by omega
    have q10 : ((i : Int) + 1).toNat = i + 1 := by omega
    have q11 : (0 : Int) ≤ (i : Int) + 1 := by omega
    have q12 : ¬ (cap = i + 1) := by omega
    have q13 : ¬ (cap = i) := by omega
    have q14 : (i : Int) ≤ (n : Int) + 1 := by omega
    have mixed : Try.prog.follows .mixedOrders = true := by kernel_rfl
    clear hcell hone hX1 hX2 htk hcur
    go_enter Try.func98, Try.ntmps98
    go_wp2_with (simp only [hov])
    go_region_law_o (refine step_copy_runI rfl _ _ 23 23 rfl _ _ (by simp [Act.eval, Act.put]) (by simp [Act.eval, Act.put]) (hcp1 _ _ _ _) ?_)
    go_wp2_with (at_builtin; refine wpList_copy_runI _ rfl _ _ 23 22 rfl _ _ rfl rfl (hcp2 _ rfl _ _ _) ?_)
    exact hΦ _ rfl rfl rfl rfl
  have hAt : (cellsV rows).take (i * 2) = cur.toList.take (i * 2) := by rw [← htk, List.take_take, Nat.min_eq_left (by omega)]
  have e1 : X1.toList.take (i * 2) = (cellsV rows).take (i * 2) := by
    rw [hX1, hAt]
    simp only [List.append_assoc]
    rw [List.take_append_of_le_length (by rw [List.length_take]; omega), List.take_take, Nat.min_eq_left (by omega)]
  have e2 : ∃ rest, X1.toList.drop (i * 2 + 2) = cs ++ rest := by
    refine ⟨cur.toList.drop ((i + 1) * 2 + cs.length), ?_⟩
    rw [hX1]
    simp only [List.append_assoc]
    rw [show i * 2 + 2 = (cur.toList.take ((i + 1) * 2)).length from by rw [List.length_take]; omega, List.drop_left]
  obtain ⟨rest, e2⟩ := e2
  have hA2 : ((cellsV rows).take (i * 2)).length = i * 2 := by rw [List.length_take]; omega
  have e3 : X2.toList = ((cellsV rows).take (i * 2) ++ [Value.string ⟨nm.toArray⟩, Value.int .u64 id] ++ (cellsV rows).drop (i * 2)) ++ rest := by
    rw [hX2, e1, e2, hcse]
    simp only [List.append_assoc]
  have e4 : ((cellsV rows).take (i * 2) ++ [Value.string ⟨nm.toArray⟩, Value.int .u64 id] ++ (cellsV rows).drop (i * 2)).length = (n + 1) * 2 := by
    simp only [List.length_append, hA2, List.length_cons, List.length_nil, List.length_drop, hcl]; omega
  have hX2l : X2.size = cap * 2 := by
    rw [hX2]; simp only [List.size_toArray, List.length_append, List.length_take, List.length_drop, Array.length_toList, hX1l, List.length_cons, List.length_nil]; omega
  refine key _ fun w' hh ho ht hou => ⟨_, rfl, ⟨e4, .inr ⟨g, cap, X2, rfl, Nat.zero_le _, ?_, hroom, hcm, hX2l, ?_⟩⟩, ⟨ho, ht, hou, ?_, ?_⟩, fun b hb => .inl hb⟩
  · rw [hh]
    exact setRow_heap (w.setRow g X1) g X1 X2 _ _ (setRow_heap w g cur X1 _ _ hg0)
  · rw [e3, ← e4]; exact List.take_left
  · rw [hh]; simp [World.setRow]
  · intro k hk hne
    have hkg : k ≠ g := fun e => hne (by rw [e]; rfl)
    rw [hh, setRow_other _ g k _ hkg, setRow_other _ g k _ hkg]

end Go.Proofs.Ytfpmjcdcpicmaaa.Ab
