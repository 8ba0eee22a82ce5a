/- slices.Insert of one entry where there is no room, walked at the machine. -/
import Derived.Test.YtfpmjcdcpicmaaaI2
namespace Go.Proofs.Ytfpmjcdcpicmaaa.Ab
open Go Go.RowKit R
set_option linter.unusedVariables false
set_option linter.unusedSimpArgs false
set_option maxHeartbeats 4000000
set_option maxRecDepth 100000

set_option maxHeartbeats 8000000 in
theorem insert_grow (w : World) (rows : List (List PV)) (hs2 : ∀ r ∈ rows, r.length = 2) (hp : plainRows rows) (i n : Nat) (hn : rows.length = n) (hi : i < n) (hsm : n ≤ 1000000) (nm : List UInt8) (id : Int)
    (g cap : Nat) (cur : Array Value) (hg0 : w.heap[g]? = some (.cells cur 51 (0, 0))) (hnc : n ≤ cap) (hcs : cur.size = cap * 2) (htk : cur.toList.take (n * 2) = cellsV rows) (hroom : cap < n + 1) (ad : Addr) (c : Nat)
    (h0 : w.cell? (ad.add 0) = some (.string ⟨nm.toArray⟩)) (h1 : w.cell? (ad.add 1) = some (.int .u64 id)) :
    Calls Try.prog 98 #[.slice (some ⟨g, 0, none⟩) n cap, .int .i64 i, .slice (some ad) 1 c] w fun r w' => ∃ V', r = .returned V' ∧
      w'.ownsRow 0 51 2 V' (n + 1) ((cellsV rows).take (i * 2) ++ [.string ⟨nm.toArray⟩, .int .u64 id] ++ (cellsV rows).drop (i * 2)) ∧ w.grownBy w' (Value.slice (some ⟨g, 0, none⟩) n cap).ownBlock ∧ (∀ b, V'.ownBlock = some b → (Value.slice (some ⟨g, 0, none⟩) n cap).ownBlock = some b ∨ w.heap.size ≤ b) := by
  obtain ⟨inf, z, hi', hz, hzs, hsz, hby⟩ := ent_info
  have hszm : (Try.prog.info? 51).map (·.size) = some 2 := by rw [hi']; simp [hsz]
  have hcl : (cellsV rows).length = n * 2 := by rw [cellsV_len hs2, hn]
  obtain ⟨cs, hcse⟩ : ∃ cs, cs = (cellsV rows).drop (i * 2) := ⟨_, rfl⟩
  have hcsl : cs.length = (n - i) * 2 := by rw [hcse, List.length_drop, hcl]; omega
  have hcur : cur.toList.length = cap * 2 := by simpa using hcs
  have hone := cellsV_one hp
  have hgw : g < w.heap.size := (Array.getElem?_eq_some_iff.1 hg0).1
  have hadw : ad.block < w.heap.size := by
    have := h0
    rw [add_zero'] at this
    unfold World.cell? at this
    split at this
    · rename_i hq; exact (Array.getElem?_eq_some_iff.1 hq).1
    · cases this
  have hcellA : ∀ j v, (cellsV rows)[j]? = some v → w.cell? ⟨g, j, none⟩ = some v := by
    intro j v hj
    rw [← htk, List.getElem?_take] at hj
    split at hj
    · simp only [World.cell?, hg0]
      simpa using hj
    · cases hj
  have hold : (Builtin.firstCells inf.size i (.slice (some ⟨g, 0, none⟩) i cap)).run Try.prog w.drew = .ok ((cellsV rows).take (i * 2)).toArray w.drew := by
    rw [hsz]
    exact run_firstCells_some w.drew 2 i ⟨g, 0, none⟩ i cap _ (by rw [List.length_take]; omega) (fun j v hj => by
      rw [Addr.add_lit]
      rw [List.getElem?_take] at hj
      split at hj
      · rw [Nat.zero_add]; exact hcellA j v hj
      · cases hj)
  have hkk : (n : Int) + 1 - (i : Int) = ((n + 1 - i : Nat) : Int) := by omega
  have hrz : ∀ ty, (Builtin.append_ #[23, 3] ty #[.slice (some ⟨g, 0, none⟩) i cap, .int .i64 ((n : Int) + 1 - (i : Int))]).run Try.prog w =
      .ok (.slice (some ⟨w.heap.size, 0, none⟩) (n + 1) (grownCap w (n + 1) cap 51)) (w.drew.alloc (.cells (((cellsV rows).take (i * 2)).toArray ++ Builtin.zeroCells z.cells (n + 1 - i) ++ Builtin.zeroCells z.cells (grownCap w (n + 1) cap 51 - (n + 1))) 51)) := fun ty => by
    have h := Lib.run_append_grow_zeros w 23 3 ty 51 inf z .i64 .i64 Try.underlying23 Try.underlying3 hi' hz (some ⟨g, 0, none⟩) i cap ((cellsV rows).take (i * 2)) hold (n + 1 - i) (by omega) (by omega) (by omega) (by omega) (by rw [hby]; omega) (by rw [hby]; exact growslice_fits (by omega) (by omega))
    rw [show i + (n + 1 - i) = n + 1 from by omega] at h
    rw [hkk]
    exact h
  have hGn : n + 1 ≤ grownCap w (n + 1) cap 51 := grownCap_ge w _ _ _
  have hGm : grownCap w (n + 1) cap 51 ≤ maxLen := grownCap_le_maxLen w (n + 1) cap _ (by unfold maxLen; omega)
  generalize grownCap w (n + 1) cap 51 = G at hrz hGn hGm
  obtain ⟨ROW, hROW⟩ : ∃ ROW, ROW = ((cellsV rows).take (i * 2)).toArray ++ Builtin.zeroCells z.cells (n + 1 - i) ++ Builtin.zeroCells z.cells (G - (n + 1)) := ⟨_, rfl⟩
  rw [← hROW] at hrz
  have hRl : ROW.size = G * 2 := by
    rw [hROW]; simp only [Array.size_append, List.size_toArray, List.length_take, hcl, size_zeroCells, hzs, hsz]; omega
  have hRt : ROW.toList.take (i * 2) = (cellsV rows).take (i * 2) := by
    rw [hROW]
    simp only [Array.toList_append, List.append_assoc]
    rw [List.take_append_of_le_length (by rw [List.length_take, hcl]; omega), List.take_of_length_le (by rw [List.length_take]; omega)]
  obtain ⟨N, hN⟩ : ∃ N, N = w.heap.size := ⟨_, rfl⟩
  obtain ⟨W1, hW1⟩ : ∃ W1, W1 = w.drew.alloc (.cells ROW 51) := ⟨_, rfl⟩
  have hW1N : W1.heap[N]? = some (.cells ROW 51 (0, 0)) := by rw [hW1, hN]; exact heap_alloc_new w.drew _
  have hW1o : ∀ k, k < w.heap.size → W1.heap[k]? = w.heap[k]? := fun k hk => by rw [hW1]; exact Below.heap_alloc w.drew _ k hk
  obtain ⟨X1, hX1⟩ : ∃ X1, X1 = (ROW.toList.take (i * 2) ++ [Value.string ⟨nm.toArray⟩, Value.int .u64 id] ++ ROW.toList.drop (i * 2 + 2)).toArray := ⟨_, rfl⟩
  have hX1l : X1.size = G * 2 := by
    rw [hX1]; simp only [List.size_toArray, List.length_append, List.length_take, List.length_drop, Array.length_toList, hRl, List.length_cons, List.length_nil]; omega
  have hold' : ∀ W : World, (∀ k, k < w.heap.size → W.heap[k]? = w.heap[k]?) → ∀ x : Addr, x.block < w.heap.size → W.cell? x = w.cell? x := fun W hW x hx => by
    unfold World.cell?
    rw [hW _ hx]
  have hcpA : ∀ W : World, W.heap = W1.heap → ∀ sT ty dc, (Builtin.copy_ #[23, sT] ty #[.slice (some ⟨N, i * 2, none⟩) (n + 1 - i) dc, .slice (some ad) 1 c]).run Try.prog W = .ok (goInt 1) (W.setRow N X1) := fun W hW sT ty dc => by
    have := run_copy_rowN W 23 sT ty 51 N (i * 2) (n + 1 - i) dc ad 1 c 2 ROW 51 [.string ⟨nm.toArray⟩, .int .u64 id] Try.underlying23 hszm (by rw [hW]; exact hW1N)
      (by simp only [List.length_cons, List.length_nil, Nat.min_def]; split <;> omega)
      (fun j v hj => by
        have hab : ∀ j, (ad.add j).block < w.heap.size := fun j => by rw [add_block]; exact hadw
        have ho : ∀ k, k < w.heap.size → W.heap[k]? = w.heap[k]? := fun k hk => by rw [hW]; exact hW1o k hk
        match j with
        | 0 => simp at hj; subst hj; rw [hold' W ho _ (hab 0)]; exact h0
        | 1 => simp at hj; subst hj; rw [hold' W ho _ (hab 1)]; exact h1
        | j + 2 => simp at hj)
      (by simp only [List.length_cons, List.length_nil, hRl]; omega) (by
        intro v hv
        simp only [List.mem_cons, List.not_mem_nil, or_false] at hv
        rcases hv with rfl | rfl <;> rfl)
    rw [this, hX1]
    congr 2
    simp only [Nat.min_def]; split <;> omega
  obtain ⟨X2, hX2⟩ : ∃ X2, X2 = (X1.toList.take ((i + 1) * 2) ++ cs ++ X1.toList.drop ((i + 1) * 2 + cs.length)).toArray := ⟨_, rfl⟩
  have hX2l : X2.size = G * 2 := by
    rw [hX2]; simp only [List.size_toArray, List.length_append, List.length_take, List.length_drop, Array.length_toList, hX1l, hcsl]; omega
  have hW2o : ∀ k, k < w.heap.size → (W1.setRow N X1).heap[k]? = w.heap[k]? := fun k hk => by rw [setRow_other _ N k _ (by omega)]; exact hW1o k hk
  have hcpB : ∀ W : World, W.heap = (W1.setRow N X1).heap → ∀ sT ty dc sc, (Builtin.copy_ #[23, sT] ty #[.slice (some ⟨N, (i + 1) * 2, none⟩) (n - i) dc, .slice (some ⟨g, i * 2, none⟩) (n - i) sc]).run Try.prog W = .ok (goInt (n - i)) (W.setRow N X2) := fun W hW sT ty dc sc => by
    have := run_copy_rowN W 23 sT ty 51 N ((i + 1) * 2) (n - i) dc ⟨g, i * 2, none⟩ (n - i) sc 2 X1 51 cs Try.underlying23 hszm
      (by rw [hW]; exact setRow_heap W1 N ROW X1 _ _ hW1N)
      (by rw [hcsl]; congr 1; simp only [Nat.min_def]; split <;> omega)
      (fun j v hj => by
        rw [hold' W (fun k hk => by rw [hW]; exact hW2o k hk) _ (by rw [add_block]; exact hgw), Addr.add_lit]
        rw [hcse, List.getElem?_drop] at hj
        exact hcellA _ v hj)
      (by rw [hcsl, hX1l]; omega) (fun v hv => hone v (by rw [hcse] at hv; exact List.mem_of_mem_drop hv))
    rw [this, hX2]
    congr 2
    simp only [Nat.min_def]; split <;> omega
  have key : ∀ Φ : Ending → World → Prop, (∀ w', w'.heap = ((W1.setRow N X1).setRow N X2).heap → w'.os = w.os → w'.tape = w.tape → w'.output = w.output → Φ (.returned (.slice (some ⟨N, 0, none⟩) (n + 1) G)) w') →
      Calls Try.prog 98 #[.slice (some ⟨g, 0, none⟩) n cap, .int .i64 i, .slice (some ad) 1 c] w Φ := by
    intro Φ hΦ
    have q1 : ¬ ((i : Int) = (n : Int)) := by omega
    have q2 : (cap : Int) < (n : Int) + 1 := by omega
    have q3 : (i : Int) ≤ (n : Int) := by omega
    have q5 : (0 : Int) ≤ (n : Int) + 1 := by omega
    have q6 : (i : Int) + 1 ≤ (n : Int) + 1 := by omega
    have q7 : IntKind.i64.wrap ((n : Int) + 1) = (n : Int) + 1 := by rw [IntKind.wrap_i64]; omega
    have q8 : IntKind.i64.wrap ((i : Int) + 1) = (i : Int) + 1 := by rw [IntKind.wrap_i64]; omega
    have q9 : IntKind.i64.wrap ((n : Int) + 1 - (i : Int)) = (n : Int) + 1 - (i : Int) := by rw [IntKind.wrap_i64]; omega
    have q10 : ((i : Int) + 1).toNat = i + 1 := by omega
    have q11 : (0 : Int) ≤ (i : Int) + 1 := by omega
    have q12 : ¬ (G = i + 1) := by omega
    have q13 : ¬ (G = i) := by omega
    have q14 : (i : Int) ≤ (n : Int) + 1 := by omega
    have q15 : ¬ (cap = i) := by omega
    have mixed : Try.prog.follows .mixedOrders = true := by kernel_rfl
    have hΦ' : Φ (.returned (.slice (some ⟨N, 0, none⟩) (n + 1) G)) (((W1.setRow N X1).drew).setRow N X2) := hΦ _ rfl (by rw [hW1]; rfl) (by rw [hW1]; rfl) (by rw [hW1]; rfl)
    rw [← hW1] at hrz
    subst hN
    clear hkk hΦ hold hone hX1 hX2 htk hcur hROW hRt hW1N hW1o hW2o hold' hcellA hW1
    go_enter Try.func98, Try.ntmps98
    go_wp2_with (first
      | (at_builtin; refine Lib.wpList_append_run _ rfl _ _ _ _ rfl _ _ rfl rfl _ _ (hrz _) ?_)
      | (at_builtin; refine wpList_copy_runI _ rfl _ _ 23 22 rfl _ _ rfl rfl (hcpA _ rfl _ _ _) ?_))
    go_region_law_o (refine step_copy_runI rfl _ _ 23 23 rfl (.slice (some ⟨w.heap.size, (i + 1) * 2, none⟩) (n - i) (G - (i + 1))) (.slice (some ⟨g, i * 2, none⟩) (n - i) (cap - i)) (by simp [Act.eval, Act.put]) (by simp [Act.eval, Act.put]) (hcpB (W1.setRow w.heap.size X1).drew rfl 23 3 (G - (i + 1)) (cap - i)) ?_)
    go_wp2
    exact hΦ'
  have e1 : X1.toList.take ((i + 1) * 2) = (cellsV rows).take (i * 2) ++ [Value.string ⟨nm.toArray⟩, Value.int .u64 id] := by
    rw [hX1, hRt]
    have hl : ((cellsV rows).take (i * 2) ++ [Value.string ⟨nm.toArray⟩, Value.int .u64 id]).length = (i + 1) * 2 := by
      simp only [List.length_append, List.length_take, hcl, List.length_cons, List.length_nil]; omega
    rw [← hl]
    exact List.take_left
  have e3 : X2.toList = ((cellsV rows).take (i * 2) ++ [Value.string ⟨nm.toArray⟩, Value.int .u64 id] ++ (cellsV rows).drop (i * 2)) ++ X1.toList.drop ((i + 1) * 2 + cs.length) := by
    rw [hX2, e1, hcse]
  have e4 : ((cellsV rows).take (i * 2) ++ [Value.string ⟨nm.toArray⟩, Value.int .u64 id] ++ (cellsV rows).drop (i * 2)).length = (n + 1) * 2 := by
    simp only [List.length_append, List.length_take, List.length_cons, List.length_nil, List.length_drop, hcl]; omega
  refine key _ fun w' hh ho ht hou => ⟨_, rfl, ⟨e4, .inr ⟨N, G, X2, rfl, Nat.zero_le _, ?_, hGn, hGm, hX2l, ?_⟩⟩, ⟨ho, ht, hou, ?_, ?_⟩, fun b hb => .inr ?_⟩
  · rw [hh]
    exact setRow_heap (W1.setRow N X1) N X1 X2 _ _ (setRow_heap W1 N ROW X1 _ _ hW1N)
  · rw [e3, ← e4]; exact List.take_left
  · rw [hh, hW1]; simp [World.setRow]
  · intro k hk hne
    rw [hh, setRow_other _ N k _ (by omega)]
    exact hW2o k hk
  · simp [Value.ownBlock] at hb; omega

end Go.Proofs.Ytfpmjcdcpicmaaa.Ab
