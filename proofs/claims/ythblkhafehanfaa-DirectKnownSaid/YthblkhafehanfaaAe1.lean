/- The abstract machine is sound: structs held against each other. -/
import Derived.Test.YthblkhafehanfaaAb7
import Derived.Laws.StructEq
namespace Go.Proofs.Ythblkhafehanfaa.Ab
open Go Go.RowKit
set_option linter.unusedVariables false
set_option linter.unusedSimpArgs false

theorem kIdx_inj {k k' : IntKind} (h : kIdx k = kIdx k') : k = k' := by
  cases k <;> cases k' <;> first | rfl | (simp [kIdx] at h)

theorem eqPs_append : ∀ {a c b d : List PV}, a.length = c.length → eqPs (a ++ b) (c ++ d) = (eqPs a c && eqPs b d)
  | [], [], b, d, _ => by simp [eqPs]
  | x :: a, y :: c, b, d, h => by
    simp only [List.cons_append, eqPs]
    rw [eqPs_append (by simpa using h), Bool.and_assoc]
  | [], _ :: _, _, _, h => by simp at h
  | _ :: _, [], _, _, h => by simp at h

section
variable {P : Program}

/-- A value made of its cells. -/
def mkT (P : Program) (t : TypeId) (us : List Value) : Value :=
  match P.underlying t with
  | some (.struct _) | some (.array _ _) => .agg us.toArray
  | _ => us.headD undef

theorem part_at (w : World) {t : TypeId} {n : Nat} {A us rest : List Value} (ht : (P.underlying t).isSome = true) (hn : sizeT P t = some n) (hl : us.length = n) (h1 : (∃ fs, P.underlying t = some (.struct fs)) ∨ (us ≠ [] ∧ ∀ k e, P.underlying t ≠ some (.array k e))) :
    (part t (A ++ us ++ rest).toArray A.length).run P w = .ok (mkT P t us) w := by
  obtain ⟨d, hd⟩ := Option.isSome_iff_exists.1 ht
  obtain ⟨i, hi, hsz⟩ : ∃ i, P.info? t = some i ∧ i.size = n := by
    unfold sizeT at hn
    obtain ⟨i, hi, rfl⟩ := Option.map_eq_some_iff.1 hn
    exact ⟨i, hi, rfl⟩
  have hs : (Go.sizeOf t).run P w = .ok n w := by simp [Go.sizeOf, typeInfo, hi, hsz]
  have hagg : (∃ fs, d = .struct fs) → (part t (A ++ us ++ rest).toArray A.length).run P w = .ok (.agg us.toArray) w := by
    rintro ⟨fs, rfl⟩
    have he : (A ++ us ++ rest).toArray.extract A.length (A.length + n) = us.toArray := by
      apply Array.ext'
      simp only [List.extract_toArray, List.extract_eq_take_drop]
      rw [List.append_assoc, List.drop_left, Nat.add_sub_cancel_left, ← hl, List.take_left]
    simp only [part, isAgg, Sem.run_bind, run_underlying hd, hs, Result.andThen_ok, Sem.run_pure, if_true, he]
  unfold mkT
  rw [hd]
  rcases h1 with ⟨fs, h1⟩ | ⟨h1, h2⟩
  · rw [hd] at h1; cases h1; exact hagg ⟨fs, rfl⟩
  · match us, h1 with
    | u :: l, _ =>
      have h4 : (A ++ (u :: l) ++ rest).toArray[A.length]? = some u := by simp
      cases d with
      | struct fs => exact hagg ⟨fs, rfl⟩
      | array k e => exact absurd hd (h2 k e)
      | _ => simp [part, isAgg, run_underlying hd, Result.andThen]

theorem keyV_bool {p : PV} (h : srt p = 0) : ∃ b, p = .bool b := by
  cases p <;> simp [srt] at h; exact ⟨_, rfl⟩
theorem keyV_str {p : PV} (h : srt p = 1) : ∃ l, p = .str l := by
  cases p with
  | str l => exact ⟨l, rfl⟩
  | int k n => simp only [srt] at h; omega
  | _ => simp [srt] at h
theorem keyV_int {p : PV} {k : IntKind} (h : srt p = 2 + kIdx k) : ∃ n, p = .int k n := by
  have : kIdx k ≤ 7 := by cases k <;> decide
  cases p with
  | int k' n =>
    simp only [srt] at h
    have := kIdx_inj (show kIdx k' = kIdx k by omega)
    subst this
    exact ⟨n, rfl⟩
  | bool b => simp only [srt] at h; omega
  | str b => simp only [srt] at h; omega
  | _ => simp only [srt] at h; omega

theorem bytes_eq (a b : List UInt8) : ((⟨a.toArray⟩ : ByteArray).toList == (⟨b.toArray⟩ : ByteArray).toList) = decide (a = b) := by
  rw [ByteArray.toList_eq, ByteArray.toList_eq]
  by_cases h : a = b
  · subst h; simp
  · simp [h]

theorem cellKs_len : ∀ (n : Nat) (t : TypeId) (ks : List Nat), cellKs P n t = some ks → (P.underlying t).isSome = true ∧ ((∃ fs, P.underlying t = some (.struct fs)) ∨ (ks ≠ [] ∧ ∀ k e, P.underlying t ≠ some (.array k e)))
  | 0, t, ks, h => by cases h
  | n + 1, t, ks, h => by
    unfold cellKs at h
    split at h
    · rename_i hu; cases h; rw [hu]; exact ⟨rfl, .inr ⟨by simp, fun k e h => by cases h⟩⟩
    · rename_i hu; cases h; rw [hu]; exact ⟨rfl, .inr ⟨by simp, fun k e h => by cases h⟩⟩
    · rename_i hu; cases h; rw [hu]; exact ⟨rfl, .inr ⟨by simp, fun k e h => by cases h⟩⟩
    · rename_i fs hu; rw [hu]; exact ⟨rfl, .inl ⟨fs, rfl⟩⟩
    · cases h

theorem eq_fields {f : TypeId → Option (List Nat)} {d : Nat} (hl : ∀ t ks, f t = some ks → (P.underlying t).isSome = true ∧ ((∃ fs, P.underlying t = some (.struct fs)) ∨ (ks ≠ [] ∧ ∀ k e, P.underlying t ≠ some (.array k e))))
    (hf : ∀ t ks, f t = some ks → ∀ (w : World) (ps qs : List PV), ps.map srt = ks → qs.map srt = ks → (Op.equalIn d t (mkT P t (ps.map keyV)) (mkT P t (qs.map keyV))).run P w = .ok (eqPs ps qs) w) (w : World) :
    ∀ (fs : List Field) (off : Nat) (ks : List Nat) (A B : List Value) (ps qs : List PV), fieldKs P f off fs = some ks → A.length = off → B.length = off → ps.map srt = ks → qs.map srt = ks →
      (Op.eqFields d (A ++ ps.map keyV).toArray (B ++ qs.map keyV).toArray fs).run P w = .ok (eqPs ps qs) w
  | [], off, ks, A, B, ps, qs, h, hA, hB, hp, hq => by
    cases h
    have : ps = [] := List.map_eq_nil_iff.1 hp
    have : qs = [] := List.map_eq_nil_iff.1 hq
    subst_vars
    simp [Op.eqFields, eqPs]
  | fl :: fs, off, ks, A, B, ps, qs, h, hA, hB, hp, hq => by
    unfold fieldKs at h
    split at h
    · rename_i hc
      obtain ⟨hn, ho⟩ := hc
      obtain ⟨a, ha, h⟩ := Option.bind_eq_some_iff.1 h
      split at h
      · rename_i hs
        obtain ⟨r, hr, rfl⟩ := Option.map_eq_some_iff.1 h
        have key : ∀ l : List PV, l.map srt = a ++ r → ∃ l1 l2, l = l1 ++ l2 ∧ l1.map srt = a ∧ l2.map srt = r := by
          intro l h
          obtain ⟨l1, l2, rfl, h1, h2⟩ := List.map_eq_append_iff.1 h
          exact ⟨l1, l2, rfl, h1, h2⟩
        obtain ⟨p1, p2, rfl, hp1, hp2⟩ := key ps hp
        obtain ⟨q1, q2, rfl, hq1, hq2⟩ := key qs hq
        have l1 : p1.length = a.length := by rw [← hp1]; simp
        have l2 : q1.length = a.length := by rw [← hq1]; simp
        obtain ⟨g1, g2⟩ := hl _ _ ha
        have e1 : ((fl.offset : Nat)) = A.length := by rw [hA, ho]
        have e2 : A.length = B.length := by rw [hA, hB]
        have hpa := part_at (P := P) (t := fl.type) (n := a.length) (A := A) (us := p1.map keyV) (rest := p2.map keyV) w g1 hs (by simpa using l1) (g2.imp id fun h => ⟨by intro h0; apply h.1; rw [← hp1, List.map_eq_nil_iff.1 h0]; rfl, h.2⟩)
        have hqa := part_at (P := P) (t := fl.type) (n := a.length) (A := B) (us := q1.map keyV) (rest := q2.map keyV) w g1 hs (by simpa using l2) (g2.imp id fun h => ⟨by intro h0; apply h.1; rw [← hq1, List.map_eq_nil_iff.1 h0]; rfl, h.2⟩)
        have ih := eq_fields hl hf w fs (off + a.length) r (A ++ p1.map keyV) (B ++ q1.map keyV) p2 q2 hr (by simp [hA, l1]) (by simp [hB, l2]) hp2 hq2
        rw [List.map_append, List.map_append, ← List.append_assoc, ← List.append_assoc, eqPs_append (by rw [l1, l2])]
        unfold Op.eqFields
        rw [if_pos hn, e1]
        simp only [Sem.run_bind, hpa, Result.andThen_ok]
        rw [e2]
        simp only [hqa, Result.andThen_ok, hf _ _ ha w p1 q1 hp1 hq1]
        cases h1 : eqPs p1 q1 with
        | true =>
          simp only [Bool.not_true, Bool.false_eq_true, if_false, Bool.true_and]
          exact ih
        | false => simp
      · cases h
    · cases h

theorem eq_sound : ∀ (n : Nat) (t : TypeId) (ks : List Nat), cellKs P n t = some ks → ∀ (d : Nat), n ≤ d → ∀ (w : World) (ps qs : List PV), ps.map srt = ks → qs.map srt = ks →
    (Op.equalIn d t (mkT P t (ps.map keyV)) (mkT P t (qs.map keyV))).run P w = .ok (eqPs ps qs) w
  | 0, t, ks, h => by cases h
  | n + 1, t, ks, h => by
    intro d hd w ps qs hp hq
    obtain ⟨d, rfl⟩ : ∃ e, d = e + 1 := ⟨d - 1, by omega⟩
    have one : ∀ k, ks = [k] → ∃ p q, ps = [p] ∧ qs = [q] ∧ srt p = k ∧ srt q = k := by
      rintro k rfl
      rcases ps with _ | ⟨p, _ | ⟨p', ps⟩⟩ <;> simp at hp
      rcases qs with _ | ⟨q, _ | ⟨q', qs⟩⟩ <;> simp at hq
      exact ⟨p, q, rfl, rfl, hp, hq⟩
    unfold cellKs at h
    split at h
    · rename_i hu
      injection h with h
      obtain ⟨p, q, rfl, rfl, h1, h2⟩ := one _ h.symm
      obtain ⟨b, rfl⟩ := keyV_bool h1
      obtain ⟨c, rfl⟩ := keyV_bool h2
      simp only [mkT, hu, List.map_cons, List.map_nil, List.headD_cons, keyV]
      rw [run_equalIn_bool' w d t b c hu]
      cases b <;> cases c <;> rfl
    · rename_i hu
      injection h with h
      obtain ⟨p, q, rfl, rfl, h1, h2⟩ := one _ h.symm
      obtain ⟨b, rfl⟩ := keyV_str h1
      obtain ⟨c, rfl⟩ := keyV_str h2
      simp only [mkT, hu, List.map_cons, List.map_nil, List.headD_cons, keyV]
      rw [run_equalIn_string w d t _ _ hu, bytes_eq]
      simp [eqPs, eqP]
    · rename_i k hu
      injection h with h
      obtain ⟨p, q, rfl, rfl, h1, h2⟩ := one _ h.symm
      obtain ⟨b, rfl⟩ := keyV_int h1
      obtain ⟨c, rfl⟩ := keyV_int h2
      simp only [mkT, hu, List.map_cons, List.map_nil, List.headD_cons, keyV]
      rw [run_equalIn_int w d t k k b c hu]
      simp only [eqPs, eqP, Bool.and_true]
      rfl
    · rename_i fs hu
      split at h
      · rename_i hst
        have hfo : P.fieldsOf t = fs := by simp [Program.fieldsOf, hu]
        simp only [mkT, hu]
        rw [run_equalIn_struct w d t _ _ (by rw [hfo]; exact hu) hst, hfo]
        have := eq_fields (P := P) (f := cellKs P n) (d := d) (fun t ks h => cellKs_len n t ks h) (fun t ks h w ps qs => eq_sound n t ks h d (by omega) w ps qs) w fs.toList 0 ks [] [] ps qs h rfl rfl hp hq
        simpa using this
      · cases h
    · cases h

end

section
variable {P : Program} {S : Nat → Prop} {w : World} {β : Nat → Value} {objs : Nat → Option AO} {a : Act} {o : Oper} {x y : Operand}

theorem pvsOf_inv : ∀ {cs : List AV} {ps : List PV}, pvsOf cs = some ps → cs = ps.map .pv
  | [], ps, h => by cases h; rfl
  | c :: cs, ps, h => by
    simp only [pvsOf, Option.bind_eq_some_iff, Option.map_eq_some_iff] at h
    obtain ⟨p, hp, l, hl, rfl⟩ := h
    rw [pvsOf_inv hl]
    cases c <;> simp [pvOf] at hp
    subst hp; rfl

/-- Cells of known sorts, as values. -/
theorem cells_keyV {D : Nat → Prop} {ps : List PV} {ks : List Nat} (hks : ∀ k ∈ ks, k < 99) (hs : ps.map srt = ks) {us : List Value} (hl : us.length = (ps.map AV.pv).length)
    (hr : ∀ (i : Nat) (c : AV) (u : Value), (ps.map AV.pv)[i]? = some c → us[i]? = some u → RV P S w β D u c) : us = ps.map keyV := by
  subst hs
  have hl' : us.length = ps.length := by simpa using hl
  apply List.ext_getElem?
  intro i
  cases hu : us[i]? with
  | none =>
    have : us.length ≤ i := List.getElem?_eq_none_iff.1 hu
    rw [List.getElem?_eq_none (by simp; omega)]
  | some u =>
    have hi : i < us.length := (List.getElem?_eq_some_iff.1 hu).1
    obtain ⟨p, hp⟩ : ∃ p, ps[i]? = some p := ⟨ps[i], List.getElem?_eq_getElem (by omega)⟩
    have h3 := (hr i (.pv p) u (by simp [hp]) hu).pv_inv
    have h4 := hks (srt p) (by simp only [List.mem_map]; exact ⟨_, List.mem_of_getElem? hp, rfl⟩)
    rw [List.getElem?_map, hp]
    simp only [Option.map_some, Option.some.injEq]
    cases h3 with
    | int q n => rfl
    | bool b => rfl
    | str l => rfl
    | _ => simp only [srt] at h4; omega

theorem q_eqs {ne : Bool} {t yt : TypeId} {fs : Array Field} {ks : List Nat} (ho : o.op = .binOp (if ne = true then .neq else .eql) t x y yt) (hu : P.underlying t = some (.struct fs)) (hk : cellKs P 8 t = some ks) (hks : ks.all (· < 99) = true) (hg : P.eqGuardType P.depth t = false)
    {X Y : AV} (hX : RV P S w β (dom objs) (a.eval x) X) (hY : RV P S w β (dom objs) (a.eval y) Y) {φ : Prop} {v : AV} (h : semQ (.eqs ne ks) [X, Y] objs = some (φ, v)) (hφ : φ) :
    ∃ r, (execOp a.eval o).run P w = .ok (.value r) w ∧ RV P S w β (dom objs) r v := by
  have hks' : ∀ k ∈ ks, k < 99 := fun k hk => by simpa using (List.all_eq_true.1 hks) k hk
  cases X with
  | agg xs =>
    cases Y with
    | agg ys =>
      simp only [semQ, Option.bind_eq_some_iff, Option.map_eq_some_iff] at h
      obtain ⟨ps, hps, qs, hqs, he⟩ := h
      cases he
      cases pvsOf_inv hps
      cases pvsOf_inv hqs
      obtain ⟨us, hxu, hul, hur⟩ := hX.agg_inv
      obtain ⟨vs, hyv, hvl, hvr⟩ := hY.agg_inv
      have e1 := cells_keyV hks' hφ.1 hul hur
      have e2 := cells_keyV hks' hφ.2 hvl hvr
      have hrun := eq_sound 8 t ks hk 10000 (by omega) w ps qs hφ.1 hφ.2
      simp only [mkT, hu] at hrun
      rw [e1] at hxu
      rw [e2] at hyv
      cases ne with
      | false => exact ⟨_, by simp [execOp, ho, hxu, hyv, run_eqGuard_agg w .eql t x y _ _ hg, run_eql_struct, hrun, Result.andThen], .pv _ _ (.bool _)⟩
      | true => exact ⟨_, by simp [execOp, ho, hxu, hyv, run_eqGuard_agg w .neq t x y _ _ hg, run_neq_struct, hrun, Result.andThen], .pv _ _ (.bool _)⟩
    | _ => simp [semQ] at h
  | _ => simp [semQ] at h
end
end Go.Proofs.Ythblkhafehanfaa.Ab
