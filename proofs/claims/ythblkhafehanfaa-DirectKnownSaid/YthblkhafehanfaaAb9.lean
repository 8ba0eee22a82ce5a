/- The abstract machine is sound, fifth part: structs built of parts, and all operations that read. -/
import Derived.Test.YthblkhafehanfaaAb8
namespace Go.Proofs.Ythblkhafehanfaa.Ab
open Go Go.RowKit
set_option linter.unusedVariables false
set_option linter.unusedSimpArgs false

/-- What is laid over a row's cells. -/
theorem lay_foldl : ∀ (vs : List Value) (k off : Nat) (cells : List Value), off + k + vs.length ≤ cells.length →
    (vs.zipIdx k).foldl (fun (cs : Array Value) (p : Value × Nat) => cs.setIfInBounds (off + p.2) p.1) cells.toArray = (cells.take (off + k) ++ vs ++ cells.drop (off + k + vs.length)).toArray
  | [], k, off, cells, _ => by simp
  | v :: vs, k, off, cells, h => by
    simp only [List.zipIdx_cons, List.foldl_cons, List.length_cons] at h ⊢
    have hs : cells.toArray.setIfInBounds (off + k) v = (cells.set (off + k) v).toArray := by simp
    rw [hs, lay_foldl vs (k + 1) off (cells.set (off + k) v) (by simp; omega)]
    have hk : off + k < cells.length := by omega
    have e1 : (cells.set (off + k) v).take (off + (k + 1)) = cells.take (off + k) ++ [v] := by
      rw [show off + (k + 1) = off + k + 1 from by omega]
      rw [List.take_succ_eq_append_getElem (by simpa using hk)]
      rw [List.take_set, List.set_eq_of_length_le (by simp; omega)]
      simp
    have e2 : (cells.set (off + k) v).drop (off + (k + 1) + vs.length) = cells.drop (off + k + (vs.length + 1)) := by
      rw [List.drop_set, if_pos (by omega)]
      congr 1
      omega
    rw [e1, e2]
    simp

theorem splice_fold (vs : Array Value) (off : Nat) (cells : List Value) (h : off + vs.size ≤ cells.length) :
    vs.zipIdx.foldl (fun (cs : Array Value) (p : Value × Nat) => cs.setIfInBounds (off + p.2) p.1) cells.toArray = (cells.take off ++ vs.toList ++ cells.drop (off + vs.size)).toArray := by
  have hz : vs.zipIdx = (vs.toList.zipIdx 0).toArray := by
    apply Array.ext'
    simp
  rw [hz]
  have := lay_foldl vs.toList 0 off cells (by simpa using h)
  simpa using this

section
variable {P : Program} {S : Nat → Prop} {w : World} {β : Nat → Value} {objs : Nat → Option AO} {a : Act} {vars : Nat → AV} {N : Nat} {x y z : Operand} {o : Oper}

/-- Cell by cell. -/
def RVs (P : Program) (S : Nat → Prop) (w : World) (β : Nat → Value) (D : Nat → Prop) (us : List Value) (cs : List AV) : Prop :=
  us.length = cs.length ∧ ∀ (i : Nat) (c : AV) (u : Value), cs[i]? = some c → us[i]? = some u → RV P S w β D u c

theorem RVs.append {D : Nat → Prop} {us us' : List Value} {cs cs' : List AV} (h : RVs P S w β D us cs) (h' : RVs P S w β D us' cs') : RVs P S w β D (us ++ us') (cs ++ cs') := by
  refine ⟨by simp [h.1, h'.1], fun i c u hc hu => ?_⟩
  by_cases hi : i < cs.length
  · rw [List.getElem?_append_left hi] at hc
    rw [List.getElem?_append_left (by rw [h.1]; exact hi)] at hu
    exact h.2 i c u hc hu
  · rw [List.getElem?_append_right (by omega)] at hc
    rw [List.getElem?_append_right (by rw [h.1]; omega), h.1] at hu
    exact h'.2 _ c u hc hu
theorem RVs.take {D : Nat → Prop} {us : List Value} {cs : List AV} (h : RVs P S w β D us cs) (n : Nat) : RVs P S w β D (us.take n) (cs.take n) := by
  refine ⟨by simp [h.1], fun i c u hc hu => ?_⟩
  rw [List.getElem?_take] at hc hu
  split at hc
  · rename_i hi
    rw [if_pos hi] at hu
    exact h.2 i c u hc hu
  · cases hc
theorem RVs.drop {D : Nat → Prop} {us : List Value} {cs : List AV} (h : RVs P S w β D us cs) (n : Nat) : RVs P S w β D (us.drop n) (cs.drop n) := by
  refine ⟨by simp [h.1], fun i c u hc hu => ?_⟩
  rw [List.getElem?_drop] at hc hu
  exact h.2 _ c u hc hu
theorem RVs.cons {D : Nat → Prop} {u : Value} {c : AV} {us : List Value} {cs : List AV} (h : RV P S w β D u c) (h' : RVs P S w β D us cs) : RVs P S w β D (u :: us) (c :: cs) := by
  refine ⟨by simp [h'.1], fun i c' u' hc hu => ?_⟩
  cases i with
  | zero => simp at hc hu; subst hc hu; exact h
  | succ i => exact h'.2 i c' u' (by simpa using hc) (by simpa using hu)
theorem RVs.nil {D : Nat → Prop} : RVs P S w β D [] [] := ⟨rfl, fun i c u hc => by simp at hc⟩
theorem RVs.cv_ (D : Nat → Prop) : ∀ zs : List Value, RVs P S w β D zs (zs.map cv)
  | [] => .nil
  | z :: zs => .cons (cv_sound P S w β D z) (RVs.cv_ D zs)

theorem one_of (hh : Heap P S w β objs) {u : Value} {c : AV} (h : RV P S w β (dom objs) u c) (ho : oneAV c = true) : u.oneCell' = true ∧ u.cells = #[u] := by
  cases h with
  | pv v p h =>
    cases h with
    | val v h => cases u <;> first | exact ⟨rfl, rfl⟩ | (simp [Value.oneCell'] at h)
    | _ => exact ⟨rfl, rfl⟩
  | own t h =>
    obtain ⟨o, ho'⟩ := h
    cases o with
    | box cs => obtain ⟨b, us, ty, hp, _⟩ := hh.holds t _ ho'; rw [hp]; exact ⟨rfl, rfl⟩
    | arr e rows => obtain ⟨inf, us, _, hown, _⟩ := hh.holds t _ ho'; obtain ⟨A, c, hv, _⟩ := own_slice hown; rw [hv]; exact ⟨rfl, rfl⟩
    | map es => obtain ⟨b, us, c, hp, _⟩ := hh.holds t _ ho'; rw [hp]; exact ⟨rfl, rfl⟩
    | rws e cs => obtain ⟨inf, us, _, _, hown, _⟩ := hh.holds t _ ho'; obtain ⟨A, c, hv, _⟩ := own_slice hown; rw [hv]; exact ⟨rfl, rfl⟩
    | mpv es => obtain ⟨b, us, c, hp, _⟩ := hh.holds t _ ho'; rw [hp]; exact ⟨rfl, rfl⟩
    | itr rem cur => obtain ⟨r, m, us, c, seen, hp, _⟩ := hh.holds t _ ho'; rw [hp]; exact ⟨rfl, rfl⟩
  | ptr t o b h hb => exact ⟨rfl, rfl⟩
  | eptr t e i o b n c inf h hi hb => exact ⟨rfl, rfl⟩
  | sub v t e lo hi inf A A1 n c h hi' hb h1 h2 h3 h4 h5 hv => rw [hv]; exact ⟨rfl, rfl⟩
  | rp ad cs us h1 h2 h3 h4 => exact ⟨rfl, rfl⟩
  | clo f cs us hl h => exact ⟨rfl, rfl⟩
  | agg cs us hl h => simp [oneAV] at ho
  | tup cs us hl h => simp [oneAV] at ho
  | cnd g v av h => simp [oneAV] at ho
  | junk v => simp [oneAV] at ho

theorem cells_of (hh : Heap P S w β objs) {u : Value} {x : AV} (h : RV P S w β (dom objs) u x) (ho : partOK x = true) : RVs P S w β (dom objs) u.cells.toList (cellsOf x) := by
  cases x with
  | agg cs =>
    obtain ⟨us, rfl, hl, hc⟩ := h.agg_inv
    exact ⟨by simpa [Value.cells, cellsOf] using hl, by simpa [Value.cells, cellsOf] using hc⟩
  | _ =>
    have h1 := (one_of hh h ho).2
    rw [h1]
    exact RVs.cons h RVs.nil

theorem RV.nrm {S : Nat → Prop} {D : Nat → Prop} {u : Value} {c : AV} (h : RV P S w β D u c) : RV P S w β D u (nrmF c) := by
  unfold nrmF
  split
  · obtain ⟨us, rfl, hl, _⟩ := h.clo_inv
    have : us = [] := List.eq_nil_of_length_eq_zero hl
    subst this
    exact .pv _ _ (.val _ rfl)
  · exact h
theorem RVs.nrm {S : Nat → Prop} {D : Nat → Prop} {us : List Value} {cs : List AV} (h : RVs P S w β D us cs) : RVs P S w β D us (cs.map nrmF) :=
  ⟨by rw [List.length_map]; exact h.1, fun i c u hc hu => by
    rw [List.getElem?_map] at hc
    obtain ⟨c', hc', rfl⟩ := Option.map_eq_some_iff.1 hc
    exact (h.2 i c' u hc' hu).nrm⟩
theorem fill_sound (hh : Heap P S w β objs) (place : Nat → Option (Nat × Nat)) : ∀ (ops : List (Nat × Operand)) (ps : List (Nat × Nat)) (xs : List AV) (us : List Value) (cs out : List AV),
    (∀ k : Nat, (ops[k]?).bind (fun p => place p.1) = ps[k]? ∨ ps[k]? = none) → ps.length = ops.length → xs.length = ops.length →
    (∀ (k : Nat) (p : Nat × Operand) (X : AV), ops[k]? = some p → xs[k]? = some X → RV P S w β (dom objs) (a.eval p.2) X) →
    RVs P S w β (dom objs) us cs → layAll cs ps xs = some out →
    ∃ us' : List Value, Instr.fill place us.toArray (ops.map fun p => (p.1, a.eval p.2)) = some us'.toArray ∧ RVs P S w β (dom objs) us' out
  | [], [], [], us, cs, out, _, _, _, _, hr, h => by
    simp only [layAll, Option.some.injEq] at h
    subst h
    exact ⟨us, rfl, hr⟩
  | (i, z) :: ops, (off, n) :: ps, X :: xs, us, cs, out, hp, hl1, hl2, hrv, hr, h => by
    simp only [layAll] at h
    split at h
    · rename_i hc
      obtain ⟨hok, hlen, hle⟩ := hc
      have h0 := hp 0
      simp at h0
      have hX := hrv 0 (i, z) X rfl rfl
      have hcells := (cells_of hh hX hok).nrm
      have hlen : ((cellsOf X).map nrmF).length = n := by rw [List.length_map]; exact hlen
      have hsz : (a.eval z).cells.size = n := by rw [← Array.length_toList, hcells.1, hlen]
      have hin : off + (a.eval z).cells.size ≤ us.length := by rw [hsz, hr.1]; exact hle
      have hnext := fill_sound hh place ops ps xs (us.take off ++ (a.eval z).cells.toList ++ us.drop (off + (a.eval z).cells.size)) (lay cs off ((cellsOf X).map nrmF)) out
        (fun k => by simpa using hp (k + 1)) (by simpa using hl1) (by simpa using hl2) (fun k p Y h1 h2 => hrv (k + 1) p Y h1 h2)
        (by
          unfold lay
          rw [hsz, ← hlen]
          exact ((hr.take off).append hcells).append (hr.drop _)) h
      obtain ⟨us', hf, hr'⟩ := hnext
      refine ⟨us', ?_, hr'⟩
      simp only [List.map_cons, Instr.fill, h0]
      rw [if_neg (by simp [hsz]; omega)]
      rw [show (fun (cs : Array Value) (x : Value × Nat) => match x with | (c, j) => cs.setIfInBounds (off + j) c) = fun (cs : Array Value) (p : Value × Nat) => cs.setIfInBounds (off + p.2) p.1 from rfl]
      rw [splice_fold _ off us hin]
      exact hf
    · cases h

theorem partsS_get {fs : Array Field} : ∀ (ops : List (Nat × Operand)) (ps : List (Nat × Nat)), partsS P fs ops = some ps →
    ps.length = ops.length ∧ ∀ (k : Nat) (p : Nat × Operand), ops[k]? = some p → ∃ f n, fs[p.1]? = some f ∧ sizeT P f.type = some n ∧ ps[k]? = some (f.offset, n)
  | [], ps, h => by simp [partsS] at h; subst h; exact ⟨rfl, fun k p hk => by simp at hk⟩
  | (i, z) :: ops, ps, h => by
    simp only [partsS] at h
    split at h
    · rename_i f r hf hr
      obtain ⟨n, hn, rfl⟩ := Option.map_eq_some_iff.1 h
      obtain ⟨h1, h2⟩ := partsS_get ops r hr
      refine ⟨by simp [h1], fun k p hk => ?_⟩
      cases k with
      | zero => simp at hk; subst hk; exact ⟨f, n, hf, hn, rfl⟩
      | succ k => obtain ⟨f', n', a1, a2, a3⟩ := h2 k p (by simpa using hk); exact ⟨f', n', a1, a2, by simpa using a3⟩
    · cases h

theorem run_places (fs : Array Field) (w : World) (h : fs.all (fun f => (P.info? f.type).isSome) = true) :
    (fs.mapM fun f => do pure (f.offset, ← sizeOf f.type) : Sem (Array (Nat × Nat))).run P w = .ok (fs.map fun f => (f.offset, (sizeT P f.type).getD 0)) w := by
  have key : ∀ (l : List Field), (∀ f ∈ l, (P.info? f.type).isSome = true) → (l.mapM fun f => do pure (f.offset, ← sizeOf f.type) : Sem (List (Nat × Nat))).run P w = .ok (l.map fun f => (f.offset, (sizeT P f.type).getD 0)) w := by
    intro l
    induction l with
    | nil => intro _; rfl
    | cons f l ih =>
      intro hl
      obtain ⟨i, hi⟩ := Option.isSome_iff_exists.1 (hl f (by simp))
      have hsz : sizeT P f.type = some i.size := by simp [sizeT, hi]
      have ih' := ih (fun g hg => hl g (by simp [hg]))
      simp only [List.mapM_cons, Sem.run_bind, run_sz hi w, Result.andThen_ok, Sem.run_pure, ih', List.map_cons, hsz, Option.getD_some]
  have hl : ∀ f ∈ fs.toList, (P.info? f.type).isSome = true := fun f hf => by
    rw [Array.all_eq_true] at h
    obtain ⟨k, hk, rfl⟩ := Array.mem_iff_getElem.1 (Array.mem_def.2 hf)
    exact h k hk
  rw [Array.mapM_eq_mapM_toList]
  rw [Sem.run_map, key fs.toList hl]
  simp [Result.andThen]
  apply Array.ext'
  simp

theorem zeroT_inv {t : TypeId} {zs : List Value} (h : zeroT P t = some zs) : ∃ i z, P.info? t = some i ∧ i.zero = some z ∧ z.cells.size = i.size ∧ zs = z.cells.toList := by
  unfold zeroT at h
  obtain ⟨i, hi, h⟩ := Option.bind_eq_some_iff.1 h
  obtain ⟨z, hz, h⟩ := Option.bind_eq_some_iff.1 h
  split at h
  · rename_i hs
    injection h with h
    exact ⟨i, z, hi, hz, hs, h.symm⟩
  · cases h

theorem q_bld {t : TypeId} {fs : Array Field} {ops : Array (Nat × Operand)} {zs : List Value} {ps : List (Nat × Nat)} (ho : o.op = .build t ops) (hz : zeroT P t = some zs) (ht : P.underlying t = some (.struct fs))
    (hall : fs.all (fun f => (P.info? f.type).isSome) = true) (hps : partsS P fs ops.toList = some ps) (hh : Heap P S w β objs)
    (hev : ∀ z : Operand, asks (ev vars z) → RV P S w β (dom objs) (a.eval z) (strip (ev vars z))) (ha : asksL ((ops.toList.map (·.2)).map (ev vars))) {φ : Prop} {v : AV}
    (h : semQ (.bld zs ps) (((ops.toList.map (·.2)).map (ev vars)).map strip) objs = some (φ, v)) (hφ : φ) : ∃ r, (execOp a.eval o).run P w = .ok (.value r) w ∧ RV P S w β (dom objs) r v := by
  unfold semQ at h
  simp only [Option.map_eq_some_iff] at h
  obtain ⟨cs, hcs, he⟩ := h
  simp only [Prod.mk.injEq] at he
  obtain ⟨rfl, rfl⟩ := he
  obtain ⟨i, zv, hi, hzv, hzs, rfl⟩ := zeroT_inv hz
  obtain ⟨hpl, hpg⟩ := partsS_get ops.toList ps hps
  have hasks : ∀ (l : List Operand) (k : Nat) (z : Operand), asksL (l.map (ev vars)) → l[k]? = some z → asks (ev vars z) := by
    intro l
    induction l with
    | nil => intro k z _ hk; simp at hk
    | cons y l ih =>
      intro k z h hk
      cases k with
      | zero => simp at hk; subst hk; exact h.1
      | succ k => exact ih k z h.2 (by simpa using hk)
  have hplace : ∀ (k : Nat) (f : Field), fs[k]? = some f → (fs.map fun f => (f.offset, (sizeT P f.type).getD 0))[k]? = some (f.offset, (sizeT P f.type).getD 0) := fun k f hf => by simp [hf]
  obtain ⟨us', hf, hr⟩ := fill_sound (a := a) hh (fun k => (fs.map fun f => (f.offset, (sizeT P f.type).getD 0))[k]?) ops.toList ps (((ops.toList.map (·.2)).map (ev vars)).map strip) zv.cells.toList (zv.cells.toList.map cv) cs
    (fun k => by
      cases hk : ops.toList[k]? with
      | none =>
        refine .inr ?_
        rw [List.getElem?_eq_none_iff] at hk ⊢
        omega
      | some p =>
        obtain ⟨f, n, h1, h2, h3⟩ := hpg k p hk
        refine .inl ?_
        rw [h3]
        simp only [Option.bind_some]
        rw [hplace _ f h1, h2]; rfl)
    hpl (by simp) (fun k p X h1 h2 => by
      have hk2 : (ops.toList.map (·.2))[k]? = some p.2 := by simp [h1]
      have hX : X = strip (ev vars p.2) := by
        simp only [List.getElem?_map, h1, Option.map_some, Option.some.injEq] at h2
        exact h2.symm
      subst hX
      exact hev p.2 (hasks _ k _ ha hk2))
    (RVs.cv_ _ _) hcs
  refine ⟨.agg us'.toArray, ?_, .agg _ _ hr.1 hr.2⟩
  have hf' : Instr.fill (fun k => (fs.map fun f => (f.offset, (sizeT P f.type).getD 0))[k]?) zv.cells (ops.toList.map fun p => (p.1, a.eval p.2)) = some us'.toArray := by
    rw [← hf]
  have hzr : (zeroValue t).run P w = .ok zv w := by simp [zeroValue, typeInfo, hi, hzv]
  have hml : (ops.map fun x => (x.1, a.eval x.2)).toList = ops.toList.map fun p => (p.1, a.eval p.2) := by simp
  simp only [execOp, ho]
  simp only [Instr.build, Sem.run_bind, hzr, Result.andThen_ok, run_underlying ht, run_places fs w hall]
  rw [show (fun (x : Nat × Operand) => match x with | (i, x) => (i, a.eval x)) = fun x => (x.1, a.eval x.2) from rfl]
  rw [hml]
  simp only [hf', Sem.run_bind, Sem.run_pure, Result.andThen_ok]

theorem q_mkf {f : FuncId} {caps : Array Operand} (ho : o.op = .makeFunc (.func f) #[] caps)
    (hev : ∀ z : Operand, asks (ev vars z) → RV P S w β (dom objs) (a.eval z) (strip (ev vars z))) (ha : asksL (caps.toList.map (ev vars))) {φ : Prop} {v : AV}
    (h : semQ (.mkf f) ((caps.toList.map (ev vars)).map strip) objs = some (φ, v)) (hφ : φ) : ∃ r, (execOp a.eval o).run P w = .ok (.value r) w ∧ RV P S w β (dom objs) r v := by
  unfold semQ at h
  simp only [Option.some.injEq, Prod.mk.injEq] at h
  obtain ⟨rfl, rfl⟩ := h
  have key : ∀ l : List Operand, asksL (l.map (ev vars)) → RVs P S w β (dom objs) (l.map a.eval) ((l.map (ev vars)).map strip) := by
    intro l
    induction l with
    | nil => intro _; exact .nil
    | cons z l ih => intro h; exact .cons (hev z h.1) (ih h.2)
  have hr := key caps.toList ha
  refine ⟨.func (.func f) #[] (caps.toList.map a.eval).toArray, ?_, .clo f _ _ hr.1 hr.2⟩
  have : (caps.toList.map a.eval).toArray = caps.map a.eval := by
    apply Array.ext'
    simp
  rw [this]
  simp [execOp, ho, Instr.makeFunc]

end
end Go.Proofs.Ythblkhafehanfaa.Ab
