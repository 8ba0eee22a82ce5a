/- slices.Delete of one entry, walked at the machine. -/
import Derived.Test.YtfpmjcdcpicmaaaI2
namespace Go.Proofs.Ytfpmjcdcpicmaaa.Ab
open Go Go.RowKit R
set_option linter.unusedVariables false
set_option linter.unusedSimpArgs false
set_option maxHeartbeats 8000000
set_option maxRecDepth 100000

theorem step_append_runI {P : Program} {ops : Array Oper} {o : Oper} {a : Act} {w : World} {K : Act → World → Prop} {Q : Exit → Act → World → Prop} {E : Prop}
    (hg : o.guard = none) (d x : Operand) (dT sT : TypeId) (hop : o.op = Op.call { callee := Callee.builtin Builtin.append, args := #[d, x], argTypes := #[dT, sT] })
    (v u : Value) (hd : a.eval d = v) (hx : a.eval x = u) {v' : Value} {w' : World} (hr : (Builtin.append_ #[dT, sT] o.type #[v, u]).run P w = .ok v' w') (hK : K (a.put o.dst v') w') :
    if Region.wanted o (yielded ops a.tmps) = true then Oper.wp P o a w K Q else E := by
  have hw : Region.wanted o (yielded ops a.tmps) = true := by simp [Region.wanted, hg]
  rw [if_pos hw]
  unfold Oper.wp
  simp [execOp, hop, resolve, invoke, builtin, hd, hx, hr, Result.andThen]
  exact hK
theorem wpList_clear_run {P : Program} (w : World) {ops : Array Oper} {rest : List Oper} {o : Oper} {a : Act} {Q : Exit → Act → World → Prop} (hgd : o.guard = none) (x : Operand) (t : TypeId)
    (ho : o.op = .call { callee := .builtin .clear, args := #[x], argTypes := #[t] }) (v : Value) (hx : a.eval x = v) {v' : Value} {w' : World}
    (hr : (Builtin.clear_ #[t] o.type #[v]).run P w = .ok v' w') (h : wpList P ops Q rest (a.put o.dst v') w') : wpList P ops Q (o :: rest) a w :=
  wpList_plain hgd fun _ hK => by
    unfold Oper.wp execOp
    simp only [ho, resolve, invoke, builtin, Sem.run_bind, Sem.run_pure, Result.andThen_ok, List.map_toArray, List.map_cons, List.map_nil, hx, hr]
    exact hK _ _ h
theorem ent_zero {inf : TypeInfo} {z : Value} (hi : Try.prog.info? 51 = some inf) (hz : inf.zero = some z) : ∀ v ∈ z.cells.toList, v.oneCell' = true := by
  have key : ((Try.prog.info? 51).bind fun i => i.zero.map fun z => z.cells.toList.all (·.oneCell')) = some true := by kernel_rfl
  rw [hi] at key
  simp only [Option.bind_some, hz, Option.map_some, Option.some.injEq] at key
  exact List.all_eq_true.1 key

theorem delete_walk (w : World) (rows : List (List PV)) (hs2 : ∀ r ∈ rows, r.length = 2) (hp : plainRows rows) (i n : Nat) (hn : rows.length = n) (hi : i < n) (hsm : n ≤ 1000000)
    (g cap : Nat) (cur : Array Value) (hg0 : w.heap[g]? = some (.cells cur 51 (0, 0))) (hnc : n ≤ cap) (hcm : cap ≤ maxLen) (hcs : cur.size = cap * 2) (htk : cur.toList.take (n * 2) = cellsV rows) :
    Calls Try.prog 101 #[.slice (some ⟨g, 0, none⟩) n cap, .int .i64 i, .int .i64 ((i : Int) + 1)] w fun r w' => ∃ V', r = .returned V' ∧
      w'.ownsRow 0 51 2 V' (n - 1) ((cellsV rows).take (i * 2) ++ (cellsV rows).drop ((i + 1) * 2)) ∧ w.grownBy w' (Value.slice (some ⟨g, 0, none⟩) n cap).ownBlock ∧ (∀ b, V'.ownBlock = some b → (Value.slice (some ⟨g, 0, none⟩) n cap).ownBlock = some b ∨ w.heap.size ≤ b) := by
  obtain ⟨inf, z, hi', hz, hzs, hsz, hby⟩ := ent_info
  have hzone := ent_zero hi' hz
  have hcl : (cellsV rows).length = n * 2 := by rw [cellsV_len hs2, hn]
  obtain ⟨cs, hcse⟩ : ∃ cs, cs = (cellsV rows).drop ((i + 1) * 2) := ⟨_, rfl⟩
  have hcsl : cs.length = (n - (i + 1)) * 2 := by rw [hcse, List.length_drop, hcl]; omega
  have hcur : cur.toList.length = cap * 2 := by simpa using hcs
  have hone := cellsV_one hp
  obtain ⟨X1, hX1⟩ : ∃ X1, X1 = (cur.toList.take (i * 2) ++ cs ++ cur.toList.drop (i * 2 + cs.length)).toArray := ⟨_, rfl⟩
  have hX1l : X1.size = cap * 2 := by
    rw [hX1]; simp only [List.size_toArray, List.length_append, List.length_take, List.length_drop, hcur, hcsl]; omega
  have hcell : ∀ j v, cs[j]? = some v → w.drew.cell? ((⟨g, (i + 1) * 2, none⟩ : Addr).add j) = some v := by
    intro j v hj
    rw [Addr.add_lit]
    rw [hcse, List.getElem?_drop, ← htk, List.getElem?_take] at hj
    split at hj
    · simp only [World.cell?, World.drew, hg0]
      simpa using hj
    · cases hj
  have hap : ∀ ty (a : Addr) c', (n - (i + 1) ≠ 0 → a = ⟨g, (i + 1) * 2, none⟩) → (Builtin.append_ #[23, 23] ty #[.slice (some ⟨g, 0, none⟩) i cap, .slice (some a) (n - (i + 1)) c']).run Try.prog w.drew = .ok (.slice (some ⟨g, 0, none⟩) (n - 1) cap) (w.drew.setRow g X1) := by
    intro ty a c' ha
    have hfc : (Builtin.firstCells inf.size (n - (i + 1)) (.slice (some a) (n - (i + 1)) c')).run Try.prog w.drew = .ok cs.toArray w.drew := by
      rw [hsz]
      refine run_firstCells_some w.drew 2 (n - (i + 1)) a (n - (i + 1)) c' cs hcsl fun j v hj => ?_
      rw [ha (fun h0 => by
        rw [h0] at hcsl
        have := (List.getElem?_eq_some_iff.1 hj).1
        omega)]
      exact hcell j v hj
    have hst := run_storeCells_at Try.prog g (i * 2) 51 cs 0 cur w.drew hg0 (by rw [hcsl, hcs]; omega) (fun v hv => hone v (by rw [hcse] at hv; exact List.mem_of_mem_drop hv))
    simp only [Nat.add_zero] at hst
    rw [← hX1] at hst
    have hlen : ∀ W : World, (Builtin.lenOf (.slice (some a) (n - (i + 1)) c')).run Try.prog W = .ok (n - (i + 1)) W := fun W => rfl
    have hroom : n - 1 ≤ cap := by omega
    rw [hsz] at hfc
    have hsum : i + (n - (i + 1)) = n - 1 := by omega
    simp [Builtin.append_, run_underlying Try.underlying23, sizeOf, typeInfo, hi', hlen, hroom, hfc, Addr.add_lit, hsz, hst, hsum]
  obtain ⟨zc, hzc⟩ : ∃ zc, zc = (Builtin.zeroCells z.cells 1).toList := ⟨_, rfl⟩
  have hzl : zc.length = 2 := by rw [hzc, Array.length_toList, size_zeroCells, hzs, hsz]
  obtain ⟨X2, hX2⟩ : ∃ X2, X2 = (X1.toList.take ((n - 1) * 2) ++ zc ++ X1.toList.drop ((n - 1) * 2 + zc.length)).toArray := ⟨_, rfl⟩
  have hX2l : X2.size = cap * 2 := by
    rw [hX2]; simp only [List.size_toArray, List.length_append, List.length_take, List.length_drop, Array.length_toList, hX1l, hzl]; omega
  have hclr : ∀ W : World, W.heap = (w.drew.setRow g X1).heap → ∀ ty c', (Builtin.clear_ #[23] ty #[.slice (some ⟨g, (n - 1) * 2, none⟩) 1 c']).run Try.prog W = .ok (.tuple #[]) (W.setRow g X2) := by
    intro W hW ty c'
    have hWg : W.heap[g]? = some (.cells X1 51 (0, 0)) := by rw [hW]; exact setRow_heap w.drew g cur X1 _ _ hg0
    have hst := run_storeCells_at Try.prog g ((n - 1) * 2) 51 zc 0 X1 W hWg (by rw [hzl, hX1l]; omega) (fun v hv => hzone v (by rw [hzc] at hv; exact zeroCells_mem _ _ _ hv))
    simp only [Nat.add_zero] at hst
    rw [← hX2, hzc] at hst
    have hzr : (zeroValue 51).run Try.prog W = .ok z W := by simp [zeroValue, typeInfo, hi', hz]
    simp [Builtin.clear_, run_underlying Try.underlying23, hzr, hst]
  have key : ∀ Φ : Ending → World → Prop, (∀ w', w'.heap = ((w.setRow g X1).setRow g X2).heap → w'.os = w.os → w'.tape = w.tape → w'.output = w.output → Φ (.returned (.slice (some ⟨g, 0, none⟩) (n - 1) cap)) w') →
      Calls Try.prog 101 #[.slice (some ⟨g, 0, none⟩) n cap, .int .i64 i, .int .i64 ((i : Int) + 1)] w Φ := by
    intro Φ hΦ
    have q1 : ¬ ((i : Int) = (i : Int) + 1) := by omega
    have q3 : (i : Int) ≤ (n : Int) := by omega
    have q4 : (n : Int) ≤ (cap : Int) := by omega
    have q5 : (0 : Int) ≤ (i : Int) + 1 := by omega
    have q6 : (i : Int) + 1 ≤ (n : Int) := by omega
    have q7 : (i : Int) ≤ (i : Int) + 1 := by omega
    have q10 : ((i : Int) + 1).toNat = i + 1 := by omega
    have q11 : ((n - 1 : Nat) : Int) ≤ (n : Int) := by omega
    have q12 : ¬ (cap = n - 1) := by omega
    have q13 : n - (n - 1) = 1 := by omega
    have q14 : (i : Int) ≤ (cap : Int) := by omega
    have q15 : (i : Int) + 1 ≤ (cap : Int) := by omega
    have mixed : Try.prog.follows .mixedOrders = true := by kernel_rfl
    by_cases hcap : cap = i + 1
    · have hap' : ∀ ty, (Builtin.append_ #[23, 23] ty #[.slice (some ⟨g, 0, none⟩) i cap, .slice (some ⟨g, 0, none⟩) 0 0]).run Try.prog w.drew = .ok (.slice (some ⟨g, 0, none⟩) (n - 1) cap) (w.drew.setRow g X1) := fun ty => by
        have := hap ty ⟨g, 0, none⟩ 0 (fun h => by omega)
        rwa [show n - (i + 1) = 0 from by omega] at this
      subst hcap
      clear hcell hone hX1 hX2 htk hcur hzc hap
      go_enter Try.func101, Try.ntmps101
      go_wp2
      go_region_law_o (refine step_append_runI rfl _ _ 23 23 rfl (.slice (some ⟨g, 0, none⟩) i (i + 1)) (.slice (some ⟨g, 0, none⟩) 0 0) (by simp [Act.eval, Act.put]) (by simp [Act.eval, Act.put]) (hap' 23) ?_)
      go_wp2_with (at_builtin; refine wpList_clear_run _ rfl _ 23 rfl _ rfl (hclr _ rfl _ _) ?_)
      exact hΦ _ rfl rfl rfl rfl
    · have hap' := fun ty c' => hap ty ⟨g, (i + 1) * 2, none⟩ c' (fun _ => rfl)
      clear hcell hone hX1 hX2 htk hcur hzc hap
      go_enter Try.func101, Try.ntmps101
      go_wp2
      go_region_law_o (refine step_append_runI rfl _ _ 23 23 rfl (.slice (some ⟨g, 0, none⟩) i cap) (.slice (some ⟨g, (i + 1) * 2, none⟩) (n - (i + 1)) (cap - (i + 1))) (by simp [Act.eval, Act.put]) (by simp [Act.eval, Act.put]) (hap' 23 (cap - (i + 1))) ?_)
      go_wp2_with (at_builtin; refine wpList_clear_run _ rfl _ 23 rfl _ rfl (hclr _ rfl _ _) ?_)
      exact hΦ _ rfl rfl rfl rfl
  have hAt : (cellsV rows).take (i * 2) = cur.toList.take (i * 2) := by rw [← htk, List.take_take, Nat.min_eq_left (by omega)]
  have hA2 : ((cellsV rows).take (i * 2)).length = i * 2 := by rw [List.length_take]; omega
  have e4 : ((cellsV rows).take (i * 2) ++ (cellsV rows).drop ((i + 1) * 2)).length = (n - 1) * 2 := by
    rw [List.length_append, hA2, ← hcse, hcsl]; omega
  have e3 : X2.toList.take ((n - 1) * 2) = (cellsV rows).take (i * 2) ++ (cellsV rows).drop ((i + 1) * 2) := by
    have hl : (X1.toList.take ((n - 1) * 2)).length = (n - 1) * 2 := by rw [List.length_take, Array.length_toList, hX1l]; omega
    have h1 : X2.toList.take ((n - 1) * 2) = X1.toList.take ((n - 1) * 2) := by
      rw [hX2]
      simp only [List.append_assoc]
      rw [List.take_append_of_le_length (by omega), List.take_of_length_le (by omega)]
    rw [h1, hX1, ← hAt, hcse, ← e4]
    exact List.take_left
  refine key _ fun w' hh ho ht hou => ⟨_, rfl, ⟨e4, .inr ⟨g, cap, X2, rfl, Nat.zero_le _, ?_, by omega, hcm, hX2l, e3⟩⟩, ⟨ho, ht, hou, ?_, ?_⟩, fun b hb => .inl hb⟩
  · rw [hh]
    exact setRow_heap (w.setRow g X1) g X1 X2 _ _ (setRow_heap w g cur X1 _ _ hg0)
  · rw [hh]; simp [World.setRow]
  · intro k hk hne
    have hkg : k ≠ g := fun e => hne (by rw [e]; rfl)
    rw [hh, setRow_other _ g k _ hkg, setRow_other _ g k _ hkg]

end Go.Proofs.Ytfpmjcdcpicmaaa.Ab
