/- The abstract machine: something is appended to a slice, and something else is looked at, or made: the two may change places. -/
import Derived.Test.YthblkhafehanfaaAb17
namespace Go.Proofs.Ythblkhafehanfaa.Ab
open Go Go.RowKit
set_option linter.unusedVariables false
set_option linter.unusedSimpArgs false

theorem arrO_some' {q : Option AO} {r : TypeId × List (List PV)} (h : arrO q = some r) : q = some (.arr r.1 r.2) := by
  unfold arrO at h
  split at h
  · cases h; rfl
  · cases h

theorem rowsIn_ext {objs objs' : Nat → Option AO} (hs : ∀ s o, objs s = some o → objs' s = some o) {X : AV} {rows : List (List PV)} (h : rowsIn objs X = some rows) : rowsIn objs' X = some rows := by
  cases X with
  | pv p => cases p <;> first | exact h | (simp [rowsIn] at h)
  | own t =>
    simp only [rowsIn, Option.map_eq_some_iff] at h ⊢
    obtain ⟨r, hr, rfl⟩ := h
    have := hs _ _ (arrO_some' hr)
    exact ⟨r, by rw [this]; rfl, rfl⟩
  | sub t e lo hi =>
    simp only [rowsIn, Option.bind_eq_some_iff] at h ⊢
    obtain ⟨r, hr, h⟩ := h
    have := hs _ _ (arrO_some' hr)
    exact ⟨r, by rw [this]; rfl, h⟩
  | _ => simp [rowsIn] at h

theorem rowsIn_noM {objs objs' : Nat → Option AO} {X : AV} {rows : List (List PV)} {un : List Nat} (h : rowsIn objs X = some rows) (hn : noM un objs X) : noM un objs' X := by
  cases X with
  | pv p => trivial
  | own t => exact hn
  | sub t e lo hi => exact hn
  | _ => simp [rowsIn] at h

section
variable {P : Program} {Γ : Tab} {d : Option Nat} {e : TypeId} {sz bytes : Nat} {xs : List AV} {objs objs' : Nat → Option AO} {ee : Eff}

/-- What it comes to to append. -/
theorem app_inv (h : semK P Γ d (.app e sz bytes) xs objs fun e1 => e1 = ee) :
    (∃ (t : Nat) (X : AV) (r : TypeId × List (List PV)) (more : List (List PV)), xs.map strip = [.own t, X] ∧ objs t = some (.arr r.1 r.2) ∧ rowsIn objs X = some more ∧ ee = .app t (.arr r.1 (r.2 ++ more))) ∨
    (∃ (dd : Nat) (X : AV) (rows : List (List PV)), d = some dd ∧ xs.map strip = [.pv .nil, X] ∧ rowsIn objs X = some rows ∧ objs dd = none ∧ ee = .new (.own dd) [(dd, .arr e rows)]) := by
  dsimp only [semK] at h
  obtain ⟨ha, h⟩ := h
  generalize xs.map strip = ys at h ⊢
  split at h
  · rename_i ho
    obtain ⟨x, hx, hφ, rfl⟩ := withO_inv h
    rcases ys with _ | ⟨y, _ | ⟨X, _ | ⟨z, l⟩⟩⟩
    · simp [isOwn] at ho
    · cases y <;> simp [semM] at hx
    · cases y with
      | own t =>
        simp only [semM, Option.bind_eq_some_iff] at hx
        obtain ⟨r, hr, more, hm, hx⟩ := hx
        split at hx
        · cases hx
          rename_i hc
          exact .inl ⟨t, X, r, more, rfl, arrO_some' hr, hm, by rw [hc.1]⟩
        · cases hx
      | _ => simp [isOwn] at ho
    · cases y <;> simp [semM] at hx
  · obtain ⟨dd, hd, h⟩ := withO_inv h
    obtain ⟨x, hx, hφ, hn, rfl⟩ := withO_inv h
    rcases ys with _ | ⟨y, _ | ⟨X, _ | ⟨z, l⟩⟩⟩
    · simp [semF] at hx
    · cases y with
      | pv p => cases p <;> simp [semF] at hx
      | _ => simp [semF] at hx
    · cases y with
      | pv p =>
        cases p with
        | nil =>
          simp only [semF, Option.map_eq_some_iff] at hx
          obtain ⟨rows, hr, rfl⟩ := hx
          exact .inr ⟨dd, X, rows, hd, rfl, hr, hn, rfl⟩
        | _ => simp [semF] at hx
      | _ => simp [semF] at hx
    · cases y with
      | pv p => cases p <;> simp [semF] at hx
      | _ => simp [semF] at hx

theorem app_ext (hs : ∀ s o, objs s = some o → objs' s = some o) (hn : ∀ dd, d = some dd → objs dd = none → objs' dd = none) (h : semK P Γ d (.app e sz bytes) xs objs fun e1 => e1 = ee) :
    semK P Γ d (.app e sz bytes) xs objs' fun e1 => e1 = ee := by
  dsimp only [semK] at h ⊢
  obtain ⟨ha, h⟩ := h
  refine ⟨ha, ?_⟩
  generalize xs.map strip = ys at h ⊢
  split at h
  · rename_i ho
    rw [if_pos ho]
    obtain ⟨x, hx, hφ, he⟩ := withO_inv h
    have hx' : semM (.app e sz bytes) ys objs' = some x := by
      rcases ys with _ | ⟨y, _ | ⟨X, _ | ⟨z, l⟩⟩⟩
      · simp [isOwn] at ho
      · cases y <;> simp [semM] at hx
      · cases y with
        | own t =>
          simp only [semM, Option.bind_eq_some_iff] at hx ⊢
          obtain ⟨r, hr, more, hm, hx⟩ := hx
          have := hs _ _ (arrO_some' hr)
          exact ⟨r, by rw [this]; rfl, more, rowsIn_ext hs hm, hx⟩
        | _ => simp [isOwn] at ho
      · cases y <;> simp [semM] at hx
    rw [hx']
    exact ⟨hφ, he⟩
  · rename_i ho
    rw [if_neg ho]
    obtain ⟨dd, hd, h⟩ := withO_inv h
    obtain ⟨x, hx, hφ, hnn, he⟩ := withO_inv h
    rw [hd]
    show withO (semF (.app e sz bytes) dd ys objs') _
    have hx' : semF (.app e sz bytes) dd ys objs' = some x := by
      rcases ys with _ | ⟨y, _ | ⟨X, _ | ⟨z, l⟩⟩⟩
      · simp [semF] at hx
      · cases y with
        | pv p => cases p <;> simp [semF] at hx
        | _ => simp [semF] at hx
      · cases y with
        | pv p =>
          cases p with
          | nil =>
            simp only [semF, Option.map_eq_some_iff] at hx ⊢
            obtain ⟨rows, hr, hx⟩ := hx
            exact ⟨rows, rowsIn_ext hs hr, hx⟩
          | _ => simp [semF] at hx
        | _ => simp [semF] at hx
      · cases y with
        | pv p => cases p <;> simp [semF] at hx
        | _ => simp [semF] at hx
    rw [hx']
    exact ⟨hφ, hn _ hd hnn, he⟩

theorem noMC_unkill {un : List Nat} {t : Nat} (ht : noT un t) {c : AV} (h : noMC un (killC t c)) : noMC un c := by
  cases c with
  | own s => by_cases e : s = t
             · subst e; exact ht
             · simpa [killC, e] using h
  | eptr s _ _ _ => by_cases e : s = t
                    · subst e; exact ht
                    · simpa [killC, e] using h
  | sub s _ _ _ => by_cases e : s = t
                   · subst e; exact ht
                   · simpa [killC, e] using h
  | ptr s o => exact h
  | _ => trivial
theorem noMCs_unkill {un : List Nat} {t : Nat} (ht : noT un t) : ∀ {cs : List AV}, noMCs un (killCs t cs) → noMCs un cs
  | [], _ => trivial
  | c :: cs, h => ⟨noMC_unkill ht h.1, noMCs_unkill ht h.2⟩

theorem killCs_take (t : Nat) : ∀ (n : Nat) (cs : List AV), (killCs t cs).take n = killCs t (cs.take n)
  | 0, _ => by simp [killCs]
  | n + 1, [] => by simp [killCs]
  | n + 1, c :: cs => by simp [killCs, killCs_take t n cs]
theorem killCs_drop (t : Nat) : ∀ (n : Nat) (cs : List AV), (killCs t cs).drop n = killCs t (cs.drop n)
  | 0, _ => by simp
  | n + 1, [] => by simp [killCs]
  | n + 1, c :: cs => by simp [killCs, killCs_drop t n cs]
theorem killCs_pvs (t : Nat) : ∀ (ps : List PV), killCs t (ps.map AV.pv) = ps.map .pv
  | [] => rfl
  | p :: ps => by simp only [List.map_cons, killCs, killCs_pvs t ps]; rfl
theorem killCs_cv (t : Nat) : ∀ (zs : List Value), killCs t (zs.map cv) = zs.map cv
  | [] => rfl
  | z :: zs => by
    simp only [List.map_cons, killCs, killCs_cv t zs]
    congr 1
    unfold cv; split <;> rfl

/-- A pointer that is left when a slice's other names are forgotten. -/
theorem kill_ptr {t : Nat} {X : AV} {s o : Nat} (h : kill t X = .ptr s o) : X = .ptr s o := by
  cases X with
  | ptr s' o' => exact h
  | own s => have h : (if s = t then AV.junk else .own s) = .ptr _ _ := h; split at h <;> cases h
  | eptr s e i o => have h : (if s = t then AV.junk else .eptr s e i o) = .ptr _ _ := h; split at h <;> cases h
  | sub s e i o => have h : (if s = t then AV.junk else .sub s e i o) = .ptr _ _ := h; split at h <;> cases h
  | clo f cs => cases cs <;> cases h
  | _ => cases h
theorem kill_eptr {t : Nat} {X : AV} {s o : Nat} {e : TypeId} {i : Int} (h : kill t X = .eptr s e i o) : X = .eptr s e i o ∧ s ≠ t := by
  cases X with
  | eptr s' e' i' o' =>
    have h : (if s' = t then AV.junk else .eptr s' e' i' o') = .eptr _ _ _ _ := h
    split at h
    · cases h
    · rename_i hne; cases h; exact ⟨rfl, hne⟩
  | own s => have h : (if s = t then AV.junk else .own s) = .eptr _ _ _ _ := h; split at h <;> cases h
  | sub s e i o => have h : (if s = t then AV.junk else .sub s e i o) = .eptr _ _ _ _ := h; split at h <;> cases h
  | clo f cs => cases cs <;> cases h
  | _ => cases h
theorem kill_rp {t : Nat} {X : AV} {cs : List PV} (h : kill t X = .rp cs) : X = .rp cs := by
  cases X with
  | rp cs' => exact h
  | own s => have h : (if s = t then AV.junk else .own s) = .rp _ := h; split at h <;> cases h
  | eptr s e i o => have h : (if s = t then AV.junk else .eptr s e i o) = .rp _ := h; split at h <;> cases h
  | sub s e i o => have h : (if s = t then AV.junk else .sub s e i o) = .rp _ := h; split at h <;> cases h
  | clo f cs => cases cs <;> cases h
  | _ => cases h

/-- Looks of this kind look at one pointer. -/
theorem lk_arg {k : AK} (hk : isLk k = true) {ys : List AV} {objs : Nat → Option AO} {r : Prop × AV} (h : semQ k ys objs = some r) : ∃ X, ys = [X] ∧ ((∃ s o, X = .ptr s o) ∨ (∃ s e i o, X = .eptr s e i o) ∨ ∃ cs, X = .rp cs) := by
  cases k with
  | load n =>
    rcases ys with _ | ⟨y, _ | ⟨z, l⟩⟩
    · cases n <;> simp [semQ] at h
    · cases y with
      | ptr s o => exact ⟨_, rfl, .inl ⟨s, o, rfl⟩⟩
      | eptr s e i o => exact ⟨_, rfl, .inr (.inl ⟨s, e, i, o, rfl⟩)⟩
      | rp cs => exact ⟨_, rfl, .inr (.inr ⟨cs, rfl⟩)⟩
      | _ => cases n <;> simp [semQ] at h
    · cases n <;> cases y <;> simp [semQ] at h
  | fad off =>
    rcases ys with _ | ⟨y, _ | ⟨z, l⟩⟩
    · simp [semQ] at h
    · cases y with
      | ptr s o => exact ⟨_, rfl, .inl ⟨s, o, rfl⟩⟩
      | eptr s e i o => exact ⟨_, rfl, .inr (.inl ⟨s, e, i, o, rfl⟩)⟩
      | rp cs => exact ⟨_, rfl, .inr (.inr ⟨cs, rfl⟩)⟩
      | _ => simp [semQ] at h
    · cases y <;> simp [semQ] at h
  | _ => simp [isLk] at hk

/-- The look ahead of the append. -/
theorem lk_unkill {k : AK} (hk : isLk k = true) {t : Nat} {X : AV} {e : TypeId} {rows rows' : List (List PV)} (hob : objs t = some (.arr e rows)) {φ : Prop} {v : AV}
    (h : semQ k [kill t X] (addO t (.arr e rows') (killM t objs)) = some (φ, v)) : ∃ u, semQ k [X] objs = some (φ, u) ∧ v = kill t u := by
  obtain ⟨Y, hY, hc⟩ := lk_arg hk h
  simp only [List.cons.injEq, and_true] at hY
  have hbox : ∀ s cs, boxO (addO t (.arr e rows') (killM t objs) s) = some cs → ∃ cs0, boxO (objs s) = some cs0 ∧ cs = killCs t cs0 := by
    intro s cs hb
    unfold addO at hb
    split at hb
    · cases hb
    · unfold killM at hb
      cases ho : objs s with
      | none => rw [ho] at hb; cases hb
      | some q =>
        rw [ho] at hb
        cases q with
        | box cs0 => cases hb; exact ⟨cs0, rfl, rfl⟩
        | arr e rows => cases hb
        | map es => cases hb
        | rws e cs => cases hb
        | mpv es => cases hb
        | itr rem cur => cases hb
  have harr : ∀ s, s ≠ t → arrO (addO t (.arr e rows') (killM t objs) s) = arrO (objs s) := by
    intro s hs
    unfold addO killM
    rw [if_neg hs]
    cases ho : objs s with
    | none => rfl
    | some q => cases q <;> rfl
  have hboxa : ∀ s, s ≠ t → True := fun _ _ => trivial
  rcases hc with ⟨s, o, rfl⟩ | ⟨s, e', i, o, rfl⟩ | ⟨cs, rfl⟩
  · cases kill_ptr hY
    rw [hY] at h
    cases k with
    | load n =>
      cases n with
      | none =>
        simp only [semQ, Option.bind_eq_some_iff] at h ⊢
        obtain ⟨cs, hcs, c, hcc, h⟩ := h
        obtain ⟨cs0, hcs0, rfl⟩ := hbox _ _ hcs
        rw [killCs_get] at hcc
        obtain ⟨c0, hc0, rfl⟩ := Option.map_eq_some_iff.1 hcc
        split at h
        · rename_i hkc
          cases h
          by_cases hcell : cellB c0 = true
          · refine ⟨c0, ⟨cs0, hcs0, c0, hc0, by rw [if_pos hcell]⟩, ?_⟩
            cases c0 <;> first | rfl | (simp [cellB] at hcell)
          · exfalso
            cases c0 <;> first | (exact hcell rfl) | (simp [killC, cellB] at hkc)
        · cases h
      | some n =>
        simp only [semQ, Option.bind_eq_some_iff] at h ⊢
        obtain ⟨cs, hcs, h⟩ := h
        obtain ⟨cs0, hcs0, rfl⟩ := hbox _ _ hcs
        split at h
        · rename_i hle
          cases h
          refine ⟨_, ⟨cs0, hcs0, by rw [if_pos (by simpa [killCs_length] using hle)]⟩, ?_⟩
          show AV.agg _ = AV.agg _
          rw [killCs_drop, killCs_take]
        · cases h
    | fad off => cases h; exact ⟨_, rfl, rfl⟩
    | _ => simp [isLk] at hk
  · obtain ⟨rfl, hst⟩ := kill_eptr hY
    rw [hY] at h
    cases k with
    | load n =>
      cases n with
      | none =>
        have h : loadE e' i o (addO t (.arr e rows') (killM t objs) s) = some (φ, v) := h
        show ∃ u, loadE e' i o (objs s) = some (φ, u) ∧ v = kill t u
        have he : addO t (.arr e rows') (killM t objs) s = (objs s).map (killO t) := by
          unfold addO killM
          rw [if_neg hst]
        rw [he] at h
        cases hos : objs s with
        | none => rw [hos] at h; cases h
        | some q =>
          rw [hos] at h
          cases q with
          | box cs => cases h
          | map es => cases h
          | mpv es => cases h
          | itr r c => cases h
          | arr e1 rows1 =>
            have h : loadE e' i o (some (.arr e1 rows1)) = some (φ, v) := h
            unfold loadE at h ⊢
            simp only at h ⊢
            split at h
            · cases h; exact ⟨_, by rw [if_pos ‹_›], rfl⟩
            · cases h
          | rws e1 cs =>
            have h : loadE e' i o (some (.rws e1 (killCs t cs))) = some (φ, v) := h
            unfold loadE at h ⊢
            simp only at h ⊢
            split at h
            rotate_left
            · cases h
            rename_i h1
            obtain ⟨c, hc, h⟩ := Option.bind_eq_some_iff.1 h
            rw [killCs_get] at hc
            obtain ⟨c0, hc0, rfl⟩ := Option.map_eq_some_iff.1 hc
            rw [if_pos h1, hc0]
            split at h
            · rename_i hkc
              cases h
              by_cases hcell : cellB c0 = true
              · refine ⟨c0, by simp only [Option.bind_some]; rw [if_pos hcell], ?_⟩
                cases c0 <;> first | rfl | (simp [cellB] at hcell)
              · exfalso
                cases c0 <;> first | (exact hcell rfl) | (simp [killC, cellB] at hkc)
            · cases h
      | some n =>
        simp only [semQ, harr s hst] at h ⊢
        obtain ⟨r, hr, h⟩ := Option.bind_eq_some_iff.1 h
        split at h
        · rename_i h1
          cases h
          refine ⟨_, by rw [hr]; simp only [Option.bind_some]; rw [if_pos h1], ?_⟩
          show AV.agg _ = AV.agg _
          rw [killCs_pvs]
        · cases h
    | fad off =>
      cases h
      refine ⟨_, rfl, ?_⟩
      show AV.eptr _ _ _ _ = (if s = t then AV.junk else .eptr _ _ _ _)
      rw [if_neg hst]
    | _ => simp [isLk] at hk
  · cases kill_rp hY
    rw [hY] at h
    cases k with
    | load n =>
      cases n with
      | none =>
        cases cs with
        | nil => cases h; exact ⟨_, rfl, rfl⟩
        | cons c cs => cases h; exact ⟨_, rfl, rfl⟩
      | some n =>
        simp only [semQ] at h ⊢
        split at h
        · rename_i h1
          cases h
          refine ⟨_, by rw [if_pos h1], ?_⟩
          show AV.agg _ = AV.agg _
          rw [killCs_pvs]
        · cases h
    | fad off => cases h; exact ⟨_, rfl, rfl⟩
    | _ => simp [isLk] at hk
end

/-! ### The two change places -/

structure ApartA (x y : AI) : Prop where
  app : ∃ e sz b, x.k = .app e sz b
  xg : x.g = none
  yg : y.g = none
  yt : y.tg = none
  ds : ∃ d d', x.d = some d ∧ y.d = some d' ∧ d ∉ usesOf y ∧ d' ∉ usesOf x ∧ d ≠ d' ∧ d < 1000 ∧ d' < 1000
  kd : (∃ zs, y.k = .alloc zs ∧ y.xs = []) ∨ (isLk y.k = true ∧ (∀ d, x.d = some d → y.un.contains d = true) ∧ ∀ t, y.un.contains t = true → x.un.contains (t + 1000) = true)

theorem apartA_spec {x y : AI} (h : apartA x y = true) : ApartA x y := by
  unfold apartA at h
  simp only [Bool.and_eq_true] at h
  obtain ⟨⟨⟨⟨h1, h2⟩, h3⟩, h4⟩, h5⟩ := h
  split at h5
  · rename_i d d' hd hd'
    simp only [Bool.and_eq_true, Bool.not_eq_true', List.contains_eq_mem, decide_eq_false_iff_not, bne_iff_ne, decide_eq_true_eq, Bool.or_eq_true] at h5
    obtain ⟨⟨⟨⟨⟨g1, g2⟩, g3⟩, g4⟩, g5⟩, g6⟩ := h5
    refine ⟨?_, by simpa using h2, by simpa using h3, by simpa using h4, ⟨d, d', hd, hd', g1, g2, g3, g4, g5⟩, ?_⟩
    · cases hk : x.k with
      | app e sz b => exact ⟨_, _, _, rfl⟩
      | _ => rw [hk] at h1; cases h1
    · rcases g6 with ⟨g6, g7⟩ | ⟨⟨g6, g7⟩, g8⟩
      · refine .inl ?_
        cases hk : y.k with
        | alloc zs => exact ⟨zs, rfl, by simpa using g7⟩
        | _ => rw [hk] at g6; cases g6
      · refine .inr ⟨g6, fun d0 h0 => ?_, fun t ht => ?_⟩
        · rw [hd] at h0; cases h0; simpa using g7
        · have := (List.all_eq_true.1 g8) t (by simpa using ht)
          simpa using this
  · cases h5

theorem on_app {d : Option Nat} {t : Nat} {o : AO} {st : St} : (Eff.app t o).on d st = ⟨Ab.put d (.own t) (killV t st.vars), addO t o (killM t st.objs)⟩ := rfl
theorem on_new {d : Option Nat} {v : AV} {os : List (Nat × AO)} {st : St} : (Eff.new v os).on d st = ⟨Ab.put d v st.vars, addL os st.objs⟩ := rfl

section
variable {P : Program} {Γ : Tab} {x y : AI} {st : St} {e e' : Eff}

theorem Yi.varsA {vars vars' : Nat → AV} {objs : Nat → Option AO} (hvs : ∀ s ∈ usesOf y, vars s = vars' s) (h : Yi P Γ y ⟨vars, objs⟩ e) : Yi P Γ y ⟨vars', objs⟩ e := by
  have hev : y.xs.map (Ab.ev vars) = y.xs.map (Ab.ev vars') := evs_agree fun s hs => hvs s (List.mem_append_left _ hs)
  obtain ⟨h1, h2, h3⟩ := h
  simp only at h1 h2
  exact ⟨by simp only [← hev]; exact h1, semI_vars hvs h2, h3⟩

theorem swapA (hap : ApartA x y) (hx : Yi P Γ x st e) (hy : Yi P Γ y (e.on x.d st) e') : ∃ e1 e2, Yi P Γ y st e1 ∧ Yi P Γ x (e1.on y.d st) e2 ∧ e2.on x.d (e1.on y.d st) = e'.on y.d (e.on x.d st) := by
  obtain ⟨ea, sz, b, hxk⟩ := hap.app
  obtain ⟨d, d', hd, hd', hu1, hu2, hdd, hlt, hlt'⟩ := hap.ds
  have hcd : ∀ s, x.d = some s → y.d ≠ some s := fun s h1 h2 => hdd (by rw [hd] at h1; rw [hd'] at h2; cases h1; cases h2; rfl)
  have hvx : ∀ (v : AV) (f : Nat → AV), ∀ s ∈ usesOf y, Ab.put x.d v f s = f s := fun v f s hs => put_off fun h => hu1 (by rw [hd] at h; cases h; exact hs)
  have hvy : ∀ (v : AV) (f : Nat → AV), ∀ s ∈ usesOf x, Ab.put y.d v f s = f s := fun v f s hs => put_off fun h => hu2 (by rw [hd'] at h; cases h; exact hs)
  have hxs : semK P Γ x.d (.app ea sz b) (x.xs.map (Ab.ev st.vars)) st.objs fun e1 => e1 = e := by
    have := hx.2.1
    unfold semI at this
    rw [hap.xg, hxk] at this
    exact this
  have hinv := app_inv hxs
  rcases hap.kd with ⟨zs, hyk, hyx⟩ | ⟨hyk, hun1, hun2⟩
  · -- something is made
    have hys : withO y.d fun d => asksL [] ∧ withO (semF (.alloc zs) d [] (e.on x.d st).objs) fun r => r.1 ∧ (e.on x.d st).objs d = none ∧ Eff.new r.2.1 [(d, r.2.2)] = e' := by
      have := hy.2.1
      unfold semI at this
      rw [hap.yg, hyk, hyx] at this
      exact this
    rw [hd'] at hys
    obtain ⟨_, hys⟩ := hys
    obtain ⟨r, hr, hφ, hn, rfl⟩ := withO_inv hys
    have hr0 : r = (True, .ptr d' 0, .box (zs.map cv)) ∧ zs.all (·.oneCell') = true := by
      simp only [semF] at hr
      split at hr
      · rename_i hz; cases hr; exact ⟨rfl, hz⟩
      · cases hr
    obtain ⟨rfl, hz⟩ := hr0
    have hn0 : st.objs d' = none := by
      rcases hinv with ⟨t, X, r, more, _, _, _, rfl⟩ | ⟨dd, X, rows, h1, _, _, _, rfl⟩
      · rw [on_app] at hn
        simp only [addO] at hn
        split at hn
        · cases hn
        · simpa [killM] using hn
      · rw [on_new, addL_one] at hn
        simp only [addO] at hn
        split at hn
        · cases hn
        · exact hn
    have hyi : Yi P Γ y st (.new (.ptr d' 0) [(d', .box (zs.map cv))]) := by
      refine ⟨?_, ?_, hy.2.2⟩
      · rw [hyx]; exact .inr trivial
      · unfold semI
        rw [hap.yg, hyk, hyx, hd']
        exact ⟨trivial, by show withO (semF (.alloc zs) d' [] st.objs) _; rw [show semF (.alloc zs) d' [] st.objs = some (True, .ptr d' 0, .box (zs.map cv)) from by simp only [semF]; rw [if_pos hz]]; exact ⟨trivial, hn0, rfl⟩⟩
    have hsub : ∀ s o, st.objs s = some o → addL [(d', .box (zs.map cv))] st.objs s = some o := by
      intro s o hs
      rw [addL_one]
      simp only [addO]
      split
      · rename_i h; subst h; rw [hn0] at hs; cases hs
      · exact hs
    have hxi : Yi P Γ x ((Eff.new (.ptr d' 0) [(d', .box (zs.map cv))]).on y.d st) e := by
      refine Yi.varsA (vars := st.vars) (fun s hs => (hvy _ _ s hs).symm) ⟨?_, ?_, hx.2.2⟩
      · refine hx.1.imp id fun hm => ?_
        rcases hinv with ⟨t, X, r, more, h1, _, h3, _⟩ | ⟨dd, X, rows, _, h1, h3, _, _⟩
        · rw [h1] at hm ⊢
          exact ⟨hm.1, rowsIn_noM h3 hm.2.1, trivial⟩
        · rw [h1] at hm ⊢
          exact ⟨trivial, rowsIn_noM h3 hm.2.1, trivial⟩
      · unfold semI
        rw [hap.xg, hxk]
        refine app_ext hsub (fun dd h1 h2 => ?_) hxs
        rw [addL_one]
        simp only [addO]
        rw [hd] at h1
        cases h1
        rw [if_neg hdd]; exact h2
    refine ⟨_, _, hyi, hxi, ?_⟩
    rcases hinv with ⟨t, X, r, more, _, hob, _, rfl⟩ | ⟨dd, X, rows, _, _, _, _, rfl⟩
    · have htd : d' ≠ t := fun h => by subst h; rw [hn0] at hob; cases hob
      rw [on_app, on_new, on_app, on_new]
      refine St.ext' ?_ ?_
      · show Ab.put x.d (.own t) (killV t (Ab.put y.d (.ptr d' 0) st.vars)) = Ab.put y.d (.ptr d' 0) (Ab.put x.d (.own t) (killV t st.vars))
        rw [kill_put]
        exact put_comm hcd
      · show addO t _ (killM t (addL [(d', .box (zs.map cv))] st.objs)) = addL [(d', .box (zs.map cv))] (addO t _ (killM t st.objs))
        rw [addL_one, addL_one]
        funext s
        simp only [addO, killM]
        by_cases h1 : s = t
        · subst h1; rw [if_pos rfl, if_neg (Ne.symm htd), if_pos rfl]
        · rw [if_neg h1]
          by_cases h2 : s = d'
          · subst h2; rw [if_pos rfl, if_pos rfl]; simp [killO, killCs_cv]
          · rw [if_neg h2, if_neg h2, if_neg h1]
    · rw [on_new, on_new, on_new, on_new]
      refine St.ext' (put_comm hcd) ?_
      show addL [(dd, _)] (addL [(d', _)] st.objs) = addL [(d', _)] (addL [(dd, _)] st.objs)
      rename_i h1 _ _ _
      rw [hd] at h1
      cases h1
      rw [addL_one, addL_one, addL_one, addL_one]
      funext s
      simp only [addO]
      by_cases h1 : s = d
      · subst h1; rw [if_pos rfl, if_neg hdd, if_pos rfl]
      · by_cases h2 : s = d'
        · subst h2; rw [if_neg h1, if_pos rfl, if_pos rfl]
        · rw [if_neg h1, if_neg h2, if_neg h2, if_neg h1]
  · -- something is looked at
    have hun0 : y.un ≠ [] := fun h => by have := hun1 d hd; rw [h] at this; simp at this
    have hny := hy.1.resolve_left hun0
    have hys : asksL (y.xs.map (Ab.ev (e.on x.d st).vars)) ∧ withO (semQ y.k ((y.xs.map (Ab.ev (e.on x.d st).vars)).map strip) (e.on x.d st).objs) fun r => r.1 ∧ Eff.put r.2 = e' := by
      have := hy.2.1
      unfold semI at this
      rw [hap.yg] at this
      cases hk : y.k with
      | load n => rw [hk] at this; exact this
      | fad off => rw [hk] at this; exact this
      | _ => rw [hk] at hyk; cases hyk
    obtain ⟨has, hys⟩ := hys
    obtain ⟨r, hr, hφ, rfl⟩ := withO_inv hys
    have hmk : ∀ {objs : Nat → Option AO} {vars : Nat → AV} {φ : Prop} {v : AV}, asksL (y.xs.map (Ab.ev vars)) → semQ y.k ((y.xs.map (Ab.ev vars)).map strip) objs = some (φ, v) → φ → semI P Γ y vars objs fun e1 => e1 = .put v := by
      intro objs vars φ v h1 h2 h3
      unfold semI
      rw [hap.yg]
      cases hk : y.k with
      | load n => rw [hk] at h2; exact ⟨h1, by rw [h2]; exact ⟨h3, rfl⟩⟩
      | fad off => rw [hk] at h2; exact ⟨h1, by rw [h2]; exact ⟨h3, rfl⟩⟩
      | _ => rw [hk] at hyk; cases hyk
    have htg : ∀ v, tgU y.un y.tg (.put v) := fun v => by rw [hap.yt]; exact And.intro trivial trivial
    obtain ⟨X1, hX1, hcase⟩ := lk_arg hyk hr
    rcases hinv with ⟨t, X, rr, more, hargs, hob, _, rfl⟩ | ⟨dd, X, rows, h1, _, _, hnone, rfl⟩
    · rw [on_app] at hr has hny hX1
      simp only at hr has hny hX1
      have hev : y.xs.map (Ab.ev (Ab.put x.d (.own t) (killV t st.vars))) = (y.xs.map (Ab.ev st.vars)).map (kill t) := by
        rw [evs_agree (vars := Ab.put x.d (.own t) (killV t st.vars)) (vars' := killV t st.vars) fun s hs => hvx _ _ s (List.mem_append_left _ hs), evs_kill]
      rw [hev] at hr has hny hX1
      rw [asksL_kill] at has
      -- one argument
      obtain ⟨A, hA⟩ : ∃ A, y.xs.map (Ab.ev st.vars) = [A] := by
        have : ((y.xs.map (Ab.ev st.vars)).map (kill t)).length = 1 := by
          have := congrArg List.length hX1; simpa using this
        simp only [List.length_map] at this
        obtain ⟨z, hz⟩ := List.length_eq_one_iff.1 this
        exact ⟨Ab.ev st.vars z, by rw [hz]; rfl⟩
      rw [hA] at hr has hny hX1
      simp only [List.map_cons, List.map_nil, strip_kill, List.cons.injEq, and_true] at hr hny hX1
      obtain ⟨u, hu, hvu⟩ := lk_unkill hyk (rows := rr.2) (rows' := rr.2 ++ more) hob hr
      have htu : noT y.un t := by
        have h0 : x.un.contains (t % 1000 + 1000) = false := hx.2.2.2
        unfold noT
        cases hc : y.un.contains (t % 1000) with
        | false => rfl
        | true => rw [hun2 _ hc] at h0; cases h0
      have hyi : Yi P Γ y st (.put u) := by
        refine ⟨.inr ?_, hmk (by rw [hA]; exact has) (by rw [hA]; exact hu) hφ, htg _⟩
        rw [hA]
        refine ⟨?_, trivial⟩
        have hn1 := hny.1
        rcases hcase with ⟨s, o, rfl⟩ | ⟨s, e1, i, o, rfl⟩ | ⟨cs, rfl⟩
        · have h9 := kill_ptr hX1
          show noM y.un st.objs (strip A)
          rw [h9]
          rw [hX1] at hn1
          refine ⟨hn1.1, ?_⟩
          have h8 := hn1.2
          unfold addO at h8
          by_cases hst : s = t
          · subst hst; rw [hob]; trivial
          · rw [if_neg hst] at h8
            unfold killM at h8
            cases hos : st.objs s with
            | none => trivial
            | some q =>
              rw [hos] at h8
              cases q with
              | box cs => exact noMCs_unkill htu h8
              | arr e rows => trivial
              | map es => trivial
              | rws e cs => trivial
              | mpv es => trivial
              | itr rem cur => trivial
        · have h9 := (kill_eptr hX1).1
          show noM y.un st.objs (strip A)
          rw [h9]
          rw [hX1] at hn1
          exact hn1
        · have h9 := kill_rp hX1
          show noM y.un st.objs (strip A)
          rw [h9]; trivial
      refine ⟨_, _, hyi, Yi.varsA (vars := st.vars) (fun s hs => (hvy _ _ s hs).symm) hx, ?_⟩
      rw [on_app]
      refine St.ext' ?_ rfl
      show Ab.put x.d (.own t) (killV t (Ab.put y.d u st.vars)) = Ab.put y.d r.2 (Ab.put x.d (.own t) (killV t st.vars))
      rw [kill_put, hvu]
      exact put_comm hcd
    · rw [hd] at h1
      cases h1
      rw [on_new] at hr has hny hX1
      simp only at hr has hny hX1
      have hev : y.xs.map (Ab.ev (Ab.put x.d (.own d) st.vars)) = y.xs.map (Ab.ev st.vars) := evs_agree fun s hs => hvx _ _ s (List.mem_append_left _ hs)
      rw [hev] at hr has hny hX1
      rw [hX1] at hr hny
      have hnd : ¬ noT y.un d := fun h => by
        unfold noT at h
        rw [Nat.mod_eq_of_lt hlt, hun1 d hd] at h; cases h
      have hsame : ∀ s, noT y.un s → addL [(d, AO.arr ea rows)] st.objs s = st.objs s := by
        intro s hs
        rw [addL_one]
        simp only [addO]
        rw [if_neg (fun h : s = d => hnd (by rw [← h]; exact hs))]
      have hgo : semQ y.k [X1] st.objs = some r ∧ noM y.un st.objs X1 := by
        have hn1 := hny.1
        rcases hcase with ⟨s, o, rfl⟩ | ⟨s, e1, i, o, rfl⟩ | ⟨cs, rfl⟩
        · have hs := hsame s hn1.1
          refine ⟨?_, ?_⟩
          · cases hk : y.k with
            | load n => rw [hk] at hr; cases n <;> (simp only [semQ, hs] at hr ⊢; exact hr)
            | fad off => rw [hk] at hr; exact hr
            | _ => rw [hk] at hyk; cases hyk
          · have := hn1.2
            rw [hs] at this
            exact ⟨hn1.1, this⟩
        · have hs := hsame s hn1
          refine ⟨?_, hn1⟩
          cases hk : y.k with
          | load n => rw [hk] at hr; cases n <;> (simp only [semQ, hs] at hr ⊢; exact hr)
          | fad off => rw [hk] at hr; exact hr
          | _ => rw [hk] at hyk; cases hyk
        · refine ⟨?_, trivial⟩
          cases hk : y.k with
          | load n => rw [hk] at hr; cases n <;> cases cs <;> exact hr
          | fad off => rw [hk] at hr; exact hr
          | _ => rw [hk] at hyk; cases hyk
      have hyi : Yi P Γ y st (.put r.2) := ⟨.inr (by rw [hX1]; exact ⟨hgo.2, trivial⟩), hmk has (by rw [hX1]; exact hgo.1) hφ, htg _⟩
      refine ⟨_, _, hyi, Yi.varsA (vars := st.vars) (fun s hs => (hvy _ _ s hs).symm) hx, ?_⟩
      rw [on_new]
      exact St.ext' (put_comm hcd) rfl
end

/-- May the two change places? -/
def Apt (x y : AI) : Prop := Apart x y ∨ ApartA x y
theorem apt_spec {x y : AI} (h : apartB x y = true) : Apt x y := by
  unfold apartB at h
  rcases Bool.or_eq_true_iff.1 h with h | h
  · exact .inl (apart_spec h)
  · exact .inr (apartA_spec h)
end Go.Proofs.Ythblkhafehanfaa.Ab
