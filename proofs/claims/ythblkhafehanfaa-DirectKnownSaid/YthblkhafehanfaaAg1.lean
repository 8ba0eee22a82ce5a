/- The abstract machine is sound: objects that are handed over whole, as trees. -/
import Derived.Test.YthblkhafehanfaaAb12
namespace Go.Proofs.Ythblkhafehanfaa.Ab
open Go Go.RowKit

/-- A part from the beginning, as a slice of its own. -/
theorem ownsRow_take {w : World} {b : Nat} {e : TypeId} {sz n : Nat} {v : Value} {us : List Value} (h : w.ownsRow b e sz v n us) {hi : Nat} (hle : hi ≤ n) {A : Option Addr} {c : Nat} (hv : v = .slice A n c) : w.ownsRow b e sz (.slice A hi c) hi (us.take (hi * sz)) := by
  subst hv
  have hm : hi * sz ≤ n * sz := Nat.mul_le_mul_right _ hle
  refine ⟨by rw [List.length_take, h.1]; omega, ?_⟩
  rcases h.2 with ⟨h1, h2⟩ | ⟨g, cap, cur, h1, h2, h3, h4, h5, h6, h7⟩
  · have : A = none ∧ n = 0 ∧ c = 0 := by simpa using h1
    obtain ⟨rfl, rfl, rfl⟩ := this
    obtain rfl : hi = 0 := by omega
    exact .inl ⟨rfl, rfl⟩
  · have : A = some ⟨g, 0, none⟩ ∧ c = cap := by simpa using h1
    obtain ⟨rfl, rfl⟩ := this
    refine .inr ⟨g, c, cur, rfl, h2, h3, by omega, h5, h6, ?_⟩
    rw [← h7, List.take_take, Nat.min_eq_left hm]

section
variable {P : Program} {S S' : Nat → Prop} {w w' : World} {β β' : Nat → Value} {D D' : Nat → Prop} {W : List Nat}

/-! ### Names forgotten -/
theorem RV.wipeC {v : Value} {x : AV} (h : RV P S w β D v x) (hS : ∀ b, S b → S' b ∧ w'.heap[b]? = w.heap[b]?)
    (hD : ∀ s, D s → W.contains s = false → D' s ∧ β' s = β s) : RV P S' w' β' D' v (wipeC W x) := by
  cases h with
  | pv v p h => exact .pv _ _ (h.mono hS)
  | own s h =>
    simp only [Ab.wipeC]
    split
    · exact .junk _
    · rename_i hne
      have := hD s h (by simpa using hne)
      rw [← this.2]; exact .own s this.1
  | ptr s o b h hb =>
    simp only [Ab.wipeC]
    split
    · exact .junk _
    · rename_i hne
      have := hD s h (by simpa using hne)
      exact .ptr s o b this.1 (this.2.trans hb)
  | eptr s e i o b n c inf h hi hb =>
    simp only [Ab.wipeC]
    split
    · exact .junk _
    · rename_i hne
      have := hD s h (by simpa using hne)
      exact .eptr s e i o b n c inf this.1 hi (this.2.trans hb)
  | sub v s e lo hi inf A A1 n c h hi' hb h1 h2 h3 h4 h5 hv =>
    simp only [Ab.wipeC]
    split
    · exact .junk _
    · rename_i hne
      have := hD s h (by simpa using hne)
      exact .sub v s e lo hi inf A A1 n c this.1 hi' (this.2.trans hb) h1 h2 h3 h4 h5 hv
  | rp ad cs us h1 h2 h3 h4 => exact .rp ad cs us (hS _ h1).1 (fun j hj => (cell_same (hS _ h1).2 _).trans (h2 j hj)) h3 (fun j p hp => (h4 j p hp).mono hS)
  | agg cs us hl h => exact .junk _
  | tup cs us hl h => exact .junk _
  | clo f cs us hl h =>
    cases cs with
    | nil =>
      refine .clo f [] us hl ?_
      intro i c u hc
      simp at hc
    | cons c cs => exact .junk _
  | cnd g v av h => exact .junk _
  | junk v => exact .junk _

theorem RV.wipe1 {v : Value} {x : AV} (h : RV P S w β D v x) (hS : ∀ b, S b → S' b ∧ w'.heap[b]? = w.heap[b]?)
    (hD : ∀ s, D s → W.contains s = false → D' s ∧ β' s = β s) : RV P S' w' β' D' v (wipe1 W x) := by
  by_cases hx : ∃ cs, x = .agg cs
  · obtain ⟨cs, rfl⟩ := hx
    obtain ⟨us, rfl, hl, h⟩ := h.agg_inv
    refine .agg _ us (by rw [List.length_map]; exact hl) fun i c u hc hu => ?_
    rw [List.getElem?_map] at hc
    obtain ⟨c', hc', rfl⟩ := Option.map_eq_some_iff.1 hc
    exact (h i c' u hc' hu).wipeC hS hD
  · have : Ab.wipe1 W x = Ab.wipeC W x := by cases x <;> first | rfl | exact absurd ⟨_, rfl⟩ hx
    rw [this]; exact h.wipeC hS hD

theorem RV.wipe0 {v : Value} {x : AV} (h : RV P S w β D v x) (hS : ∀ b, S b → S' b ∧ w'.heap[b]? = w.heap[b]?)
    (hD : ∀ s, D s → W.contains s = false → D' s ∧ β' s = β s) : RV P S' w' β' D' v (wipe0 W x) := by
  induction h with
  | tup cs us hl h _ =>
    refine .tup _ us (by rw [List.length_map]; exact hl) fun i c u hc hu => ?_
    rw [List.getElem?_map] at hc
    obtain ⟨c', hc', rfl⟩ := Option.map_eq_some_iff.1 hc
    exact (h i c' u hc' hu).wipe1 hS hD
  | clo f cs us hl h _ =>
    refine .clo f _ us (by rw [List.length_map]; exact hl) fun i c u hc hu => ?_
    rw [List.getElem?_map] at hc
    obtain ⟨c', hc', rfl⟩ := Option.map_eq_some_iff.1 hc
    exact (h i c' u hc' hu).wipe1 hS hD
  | cnd g v av h hu ih => exact .cnd g v _ (fun hg => ih hg) hu
  | agg cs us hl h _ => exact RV.wipe1 (x := .agg cs) (.agg cs us hl h) hS hD
  | pv v p h => exact RV.wipe1 (x := .pv p) (.pv v p h) hS hD
  | own s h => exact RV.wipe1 (x := .own s) (.own s h) hS hD
  | ptr s o b h hb => exact RV.wipe1 (x := .ptr s o) (.ptr s o b h hb) hS hD
  | eptr s e i o b n c inf h hi hb => exact RV.wipe1 (x := .eptr s e i o) (.eptr s e i o b n c inf h hi hb) hS hD
  | sub v s e lo hi inf A A1 n c h hi' hb h1 h2 h3 h4 h5 hv => exact RV.wipe1 (x := .sub s e lo hi) (.sub v s e lo hi inf A A1 n c h hi' hb h1 h2 h3 h4 h5 hv) hS hD
  | rp ad cs us h1 h2 h3 h4 => exact RV.wipe1 (x := .rp cs) (.rp ad cs us h1 h2 h3 h4) hS hD
  | junk v => exact .junk _

theorem RV.wipe {v : Value} {x : AV} (h : RV P S w β D v x) (hS : ∀ b, S b → S' b ∧ w'.heap[b]? = w.heap[b]?)
    (hD : ∀ s, D s → W.contains s = false → D' s ∧ β' s = β s) : RV P S' w' β' D' v (wipe W x) := by
  unfold Ab.wipe
  split
  · rename_i he
    have : W = [] := by simpa using he
    subst this
    exact h.mono hS fun s hs => hD s hs rfl
  · exact h.wipe0 hS hD
theorem HoldsO.wipe {s : Nat} {o : AO} (h : HoldsO P S w β D s o) (hS : ∀ b, S b → S' b ∧ w'.heap[b]? = w.heap[b]?)
    (hD : ∀ s, D s → W.contains s = false → D' s ∧ β' s = β s) (ht : β' s = β s) (hb : ∀ b, blk (β s) = some b → w'.heap[b]? = w.heap[b]?) : HoldsO P S' w' β' D' s (wipeO W o) := by
  unfold wipeO
  split
  · rename_i he
    have : W = [] := by simpa using he
    subst this
    exact h.mono hS (fun s hs => hD s hs rfl) ht hb
  cases o with
  | box cs =>
    obtain ⟨b, us, ty, hpt, hh, hl, hc⟩ := h
    refine ⟨b, us, ty, ht.trans hpt, (hb b (by rw [hpt]; rfl)).trans hh, by rw [List.length_map]; exact hl, fun i c u h1 h2 => ?_⟩
    rw [List.getElem?_map] at h1
    obtain ⟨c', hc', rfl⟩ := Option.map_eq_some_iff.1 h1
    exact ⟨(hc i c' u hc' h2).1, (hc i c' u hc' h2).2.wipeC hS hD⟩
  | arr e rows => exact HoldsO.mono (D := fun _ => False) (show HoldsO P S w β (fun _ => False) s (.arr e rows) from h) hS (fun _ hf => hf.elim) ht hb
  | map es => exact HoldsO.mono (D := fun _ => False) (show HoldsO P S w β (fun _ => False) s (.map es) from h) hS (fun _ hf => hf.elim) ht hb
  | mpv es => exact HoldsO.mono (D := fun _ => False) (show HoldsO P S w β (fun _ => False) s (.mpv es) from h) hS (fun _ hf => hf.elim) ht hb
  | itr rem cur => exact HoldsO.mono (D := fun _ => False) (show HoldsO P S w β (fun _ => False) s (.itr rem cur) from h) hS (fun _ hf => hf.elim) ht hb
  | rws e cs =>
    obtain ⟨inf, us, hi, h1s, hown, hc⟩ := h
    refine ⟨inf, us, hi, h1s, ?_, fun i c u h1 h2 => ?_⟩
    · rw [ht, List.length_map]
      refine ⟨hown.1, ?_⟩
      rcases hown.2 with h0 | ⟨g, cap, cur, hv, h1, h2, h3, h4, h5, h6⟩
      · exact .inl h0
      · exact .inr ⟨g, cap, cur, hv, h1, (hb g (by rw [hv]; rfl)).trans h2, h3, h4, h5, h6⟩
    · rw [List.getElem?_map] at h1
      obtain ⟨c', hc', rfl⟩ := Option.map_eq_some_iff.1 h1
      exact ⟨(hc i c' u hc' h2).1, (hc i c' u hc' h2).2.wipeC hS hD⟩
end

/-! ### A value's tree, read in the state -/

def mtW (f : AV → AV → Prop) : List AV → List AV → Prop
  | [], [] => True
  | c :: cs, y :: ys => f c y ∧ mtW f cs ys
  | _, _ => False
/-- A value is what a contract tells. -/
def mt (P : Program) (objs : Nat → Option AO) : Nat → AV → AV → Prop
  | 0, _, _ => False
  | n + 1, x, y => match y with
    | .fr e rows => fzC P objs x (.fr e rows)
    | .mf es => ∃ t, x = .own t ∧ objs t = some (.mpv es)
    | .bx cs => ∃ t l, x = .ptr t 0 ∧ objs t = some (.box l) ∧ mtW (mt P objs n) l cs
    | .agg cs => ∃ l, x = .agg l ∧ mtW (mt P objs n) l cs
    | .tup cs => ∃ l, x = .tup l ∧ mtW (mt P objs n) l cs
    | .pv p => x = .pv p
    | .rp cs => x = .rp cs
    | .clo f cs => x = .clo f [] ∧ cs = []
    | _ => False
def tg (objs : Nat → Option AO) : Nat → AV → List Nat
  | 0, _ => []
  | n + 1, x => match x with
    | .own t => [t]
    | .sub t _ _ _ => [t]
    | .ptr t 0 => t :: ((boxO (objs t)).getD []).flatMap (tg objs n)
    | .agg cs => cs.flatMap (tg objs n)
    | .tup cs => cs.flatMap (tg objs n)
    | _ => []

theorem mtW_get {f : AV → AV → Prop} : ∀ {l ys : List AV}, mtW f l ys → l.length = ys.length ∧ ∀ (i : Nat) (c y : AV), l[i]? = some c → ys[i]? = some y → f c y
  | [], [], _ => ⟨rfl, fun i c y hc => by simp at hc⟩
  | c :: cs, y :: ys, h => by
    obtain ⟨h1, h2⟩ := mtW_get h.2
    refine ⟨by simp [h1], fun i c' y' hc hy => ?_⟩
    cases i with
    | zero => simp at hc hy; rw [← hc, ← hy]; exact h.1
    | succ i => exact h2 i c' y' (by simpa using hc) (by simpa using hy)
  | [], _ :: _, h => h.elim
  | _ :: _, [], h => h.elim

/-- The blocks of tags. -/
def blks (β : Nat → Value) (ts : List Nat) : List Nat := ts.filterMap fun t => blk (β t)
theorem blks_append (β : Nat → Value) (a b : List Nat) : blks β (a ++ b) = blks β a ++ blks β b := List.filterMap_append
theorem blks_one (β : Nat → Value) (t : Nat) : blks β [t] = (blk (β t)).toList := by
  unfold blks
  cases h : blk (β t) <;> simp [h]
theorem blks_flatMap {α : Type} (β : Nat → Value) (f : α → List Nat) : ∀ l : List α, blks β (l.flatMap f) = (l.map fun c => blks β (f c)).flatten
  | [] => rfl
  | c :: l => by rw [List.flatMap_cons, blks_append, blks_flatMap β f l]; rfl

section
variable {P : Program} {S S' : Nat → Prop} {w w' : World} {β : Nat → Value} {objs : Nat → Option AO}

theorem mt_sound (hh : Heap P S w β objs) (hS : ∀ b, S b → S' b) : ∀ (n : Nat) {v : Value} {x y : AV}, mt P objs n x y → RV P S w β (dom objs) v x → HT P S' w v y (blks β (tg objs n x))
  | 0, _, _, _, h, _ => h.elim
  | n + 1, v, x, y, h, hv => by
    have hS2 : ∀ b, S b → S' b ∧ w.heap[b]? = w.heap[b]? := fun b hb => ⟨hS b hb, rfl⟩
    have lst : ∀ {l cs : List AV} {us : List Value}, mtW (mt P objs n) l cs → (∀ (i : Nat) (c : AV) (u : Value), l[i]? = some c → us[i]? = some u → RV P S w β (dom objs) u c) →
        ∀ (i : Nat) (c : AV) (u : Value) (bs : List Nat), cs[i]? = some c → us[i]? = some u → (l.map fun c => blks β (tg objs n c))[i]? = some bs → HT P S' w u c bs := by
      intro l cs us hm hc i c u bs h1 h2 h3
      obtain ⟨hl, hg⟩ := mtW_get hm
      have hi : i < l.length := by rw [hl]; exact (List.getElem?_eq_some_iff.1 h1).1
      have h4 : l[i]? = some l[i] := List.getElem?_eq_getElem hi
      rw [List.getElem?_map, h4] at h3
      simp only [Option.map_some, Option.some.injEq] at h3
      rw [← h3]
      exact mt_sound hh hS n (hg i _ c h4 h1) (hc i _ u h4 h2)
    unfold mt at h
    split at h
    · rename_i e rows
      rcases h with ⟨t, rfl, ht⟩ | ⟨rfl, rfl, hi⟩ | ⟨t, hi, rs, rfl, ht, rfl⟩
      · obtain ⟨rfl, _⟩ := hv.own_inv
        obtain ⟨inf, us, h1, h2, h3, h4⟩ := hh.holds t _ ht
        have : blks β (tg objs (n + 1) (.own t)) = (blk (β t)).toList := blks_one β t
        rw [this]
        exact .fr _ e rows inf us h1 h2 h3 fun i j r p hr hp => by obtain ⟨u, hu, ho, hr⟩ := h4 i j r p hr hp; exact ⟨u, hu, ho, hr.mono hS2⟩
      · obtain ⟨inf, hi⟩ := Option.isSome_iff_exists.1 hi
        have hvn := hv.pv_inv.nil_inv
        subst hvn
        exact .fr (.slice none 0 0) e [] inf [] hi (World.ownsRow_nil w 0 e inf.size) (fun r hr => by simp at hr) (fun i j r p hr => by simp at hr)
      · obtain ⟨inf, us, hinf, how, hrl, hcl⟩ := hh.holds t _ ht
        obtain ⟨A, c, hbt, hcc⟩ := own_slice how
        obtain ⟨inf1, Ad, Ad1, n', c1, hdt, hi1, hb1, g1, g2, g3, g4, g5, hux⟩ := hv.sub_inv
        rw [hbt] at hb1
        have h3 : A = Ad ∧ rs.length = n' ∧ c = c1 := by simpa using hb1
        obtain ⟨rfl, rfl, rfl⟩ := h3
        have hlen : (rs.take hi).length = hi := by rw [List.length_take]; omega
        have hv2 : v = .slice A hi c := by rw [hux, g4 rfl]; simp
        subst hv2
        have hb2 : blks β (tg objs (n + 1) (.sub t e 0 hi)) = (blk (.slice A hi c)).toList := by
          refine (blks_one β t).trans ?_
          rw [hbt]
          cases A <;> rfl
        rw [hb2]
        refine .fr _ e _ inf (us.take (hi * inf.size)) hinf ?_ (fun r hr => hrl r (List.mem_of_mem_take hr)) fun i j r p hr hp => ?_
        · rw [hlen]; exact ownsRow_take how g2 hbt
        · have hi2 : i < hi := by rw [← hlen]; exact (List.getElem?_eq_some_iff.1 hr).1
          rw [List.getElem?_take, if_pos hi2] at hr
          obtain ⟨u, hu, h1, h2⟩ := hcl i j r p hr hp
          have hj : j < inf.size := by rw [← hrl r (List.mem_of_getElem? hr)]; exact (List.getElem?_eq_some_iff.1 hp).1
          have hlt : i * inf.size + j < hi * inf.size := by
            have := Nat.mul_le_mul_right inf.size (show i + 1 ≤ hi from hi2)
            rw [Nat.succ_mul] at this
            omega
          exact ⟨u, by rw [List.getElem?_take, if_pos hlt]; exact hu, h1, h2.mono hS2⟩
    · rename_i es
      obtain ⟨t, rfl, ht⟩ := h
      obtain ⟨rfl, _⟩ := hv.own_inv
      obtain ⟨b, us, c, h1, h2, hst, h3, h4⟩ := hh.holds t _ ht
      have : blks β (tg objs (n + 1) (.own t)) = [b] := (blks_one β t).trans (by rw [h1]; rfl)
      rw [this, h1]
      exact .mf b us c es h2 hst h3 fun i e u he hu => ⟨(h4 i e u he hu).1, (h4 i e u he hu).2.1, (h4 i e u he hu).2.2.1, (h4 i e u he hu).2.2.2.mono hS2⟩
    · rename_i cs
      obtain ⟨t, l, rfl, ht, hm⟩ := h
      obtain ⟨b, rfl, _, hb⟩ := hv.ptr_inv
      obtain ⟨b', us, ty, h1, h2, h3, h4⟩ := hh.holds t _ ht
      rw [hb] at h1
      injection h1 with h1
      injection h1 with h1
      injection h1 with h1
      subst h1
      have e1 : blks β (tg objs (n + 1) (.ptr t 0)) = b :: (l.map fun c => blks β (tg objs n c)).flatten := by
        show blks β (t :: ((boxO (objs t)).getD []).flatMap (tg objs n)) = _
        rw [ht]
        show blks β ([t] ++ l.flatMap (tg objs n)) = _
        rw [blks_append, blks_flatMap, blks_one, hb]
        rfl
      rw [e1]
      refine .bx b us ty cs _ h2 (h3.trans (mtW_get hm).1) (by rw [List.length_map]; exact (mtW_get hm).1) (fun i u hu => ?_) fun i c u bs h5 h6 h7 => lst (us := us.toList) hm (fun i c u hc hu => (h4 i c u hc (by simpa using hu)).2) i c u bs h5 (by simpa using h6) h7
      have hi : i < l.length := by rw [← h3]; exact (Array.getElem?_eq_some_iff.1 hu).1
      exact (h4 i _ u (List.getElem?_eq_getElem hi) hu).1
    · rename_i cs
      obtain ⟨l, rfl, hm⟩ := h
      obtain ⟨us, rfl, hl, hc⟩ := hv.agg_inv
      have e1 : blks β (tg objs (n + 1) (.agg l)) = (l.map fun c => blks β (tg objs n c)).flatten := blks_flatMap β (tg objs n) l
      rw [e1]
      exact .agg us cs _ (hl.trans (mtW_get hm).1) (by rw [List.length_map]; exact (mtW_get hm).1) (lst hm hc)
    · rename_i cs
      obtain ⟨l, rfl, hm⟩ := h
      obtain ⟨us, rfl, hl, hc⟩ := hv.tup_inv
      have e1 : blks β (tg objs (n + 1) (.tup l)) = (l.map fun c => blks β (tg objs n c)).flatten := blks_flatMap β (tg objs n) l
      rw [e1]
      exact .tup us cs _ (hl.trans (mtW_get hm).1) (by rw [List.length_map]; exact (mtW_get hm).1) (lst hm hc)
    · subst h
      cases hv with
      | pv v p h => exact .leaf _ _ (.pv _ _ (h.mono hS2))
    · subst h
      obtain ⟨ad, us, rfl, h1, h2, h3, h4⟩ := hv.rp_inv
      exact .leaf _ _ (.rp ad _ us (hS _ h1) h2 h3 fun j p hp => (h4 j p hp).mono hS2)
    · obtain ⟨rfl, rfl⟩ := h
      obtain ⟨us, rfl, hl, _⟩ := hv.clo_inv
      exact .leaf _ _ (.clo _ [] us hl fun i c u hc => by simp at hc)
    · exact h.elim

/-- What is read is what a contract is told. -/
theorem rdW_get {f : AV → Option (AV × List Nat)} {g : AV → List Nat} (hg : ∀ c r, f c = some r → g c = r.2) : ∀ {l : List AV} {q : List AV × List Nat}, rdW f l = some q →
    mtW (fun c y => ∃ r, f c = some r ∧ r.1 = y) l q.1 ∧ l.flatMap g = q.2
  | [], q, h => by cases h; exact ⟨trivial, rfl⟩
  | c :: l, q, h => by
    obtain ⟨r, hr, h⟩ := Option.bind_eq_some_iff.1 h
    obtain ⟨q', hq, rfl⟩ := Option.map_eq_some_iff.1 h
    obtain ⟨h1, h2⟩ := rdW_get hg hq
    exact ⟨⟨⟨r, hr, rfl⟩, h1⟩, by rw [List.flatMap_cons, hg c r hr, h2]⟩
theorem mtW_mono {f g : AV → AV → Prop} (h : ∀ c y, f c y → g c y) : ∀ {l ys : List AV}, mtW f l ys → mtW g l ys
  | [], [], _ => trivial
  | _ :: _, _ :: _, hm => ⟨h _ _ hm.1, mtW_mono h hm.2⟩
  | [], _ :: _, hm => hm.elim
  | _ :: _, [], hm => hm.elim
theorem rd_mt : ∀ (n : Nat) {x : AV} {r : AV × List Nat}, rd n objs x = some r → mt P objs n x r.1 ∧ tg objs n x = r.2
  | 0, _, _, h => by cases h
  | n + 1, x, r, h => by
    have lst : ∀ {l : List AV} {q : List AV × List Nat}, rdW (rd n objs) l = some q → mtW (mt P objs n) l q.1 ∧ l.flatMap (tg objs n) = q.2 := fun {l q} h => by
      obtain ⟨h1, h2⟩ := rdW_get (g := tg objs n) (fun c r hr => (rd_mt n hr).2) h
      exact ⟨mtW_mono (fun c y ⟨r, hr, e⟩ => e ▸ (rd_mt n hr).1) h1, h2⟩
    unfold rd at h
    split at h
    · rename_i t
      obtain ⟨y, hy, rfl⟩ := Option.map_eq_some_iff.1 h
      unfold rdO at hy
      split at hy
      · rename_i e rows ho
        cases hy
        exact ⟨.inl ⟨t, rfl, ho⟩, rfl⟩
      · rename_i es ho
        cases hy
        exact ⟨⟨t, rfl, ho⟩, rfl⟩
      · cases hy
    · rename_i t
      obtain ⟨cs, hc, h⟩ := Option.bind_eq_some_iff.1 h
      obtain ⟨q, hq, rfl⟩ := Option.map_eq_some_iff.1 h
      obtain ⟨h1, h2⟩ := lst hq
      have ho := boxO_inv hc
      refine ⟨⟨t, cs, rfl, ho, h1⟩, ?_⟩
      show t :: ((boxO (objs t)).getD []).flatMap (tg objs n) = _
      rw [hc, Option.getD_some, h2]
    · obtain ⟨q, hq, rfl⟩ := Option.map_eq_some_iff.1 h
      obtain ⟨h1, h2⟩ := lst hq
      exact ⟨⟨_, rfl, h1⟩, h2⟩
    · cases h; exact ⟨rfl, rfl⟩
    · cases h; exact ⟨rfl, rfl⟩
    · cases h; exact ⟨⟨rfl, rfl⟩, rfl⟩
    · cases h
end

/-! ### A tree laid into a state -/

theorem tk_perm {top : Bool} {s : List Nat × List Nat} {q : Nat × List Nat × List Nat} (h : tk top s = some q) : (q.1 :: (q.2.1 ++ q.2.2)).Perm (s.1 ++ s.2) := by
  unfold tk at h
  split at h
  · cases h; exact .refl _
  · cases h; exact List.perm_middle.symm
  · cases h

/-- What a tree lies in: where its objects lie is told apart from how they are named. -/
def Lies (P : Program) (S : Nat → Prop) (w : World) (os : List (Nat × AO)) (bs : List Nat) (R : (Nat → Value) → (Nat → Prop) → Prop) : Prop :=
  ∃ βn : Nat → Value, (∀ (β : Nat → Value) (D : Nat → Prop), (∀ p ∈ os, β p.1 = βn p.1 ∧ D p.1) → (∀ p ∈ os, HoldsO P S w β D p.1 p.2) ∧ R β D) ∧
    (∀ p ∈ os, ∀ b, blk (βn p.1) = some b → b ∈ bs) ∧
    (∀ p ∈ os, ∀ q ∈ os, ∀ b, blk (βn p.1) = some b → blk (βn q.1) = some b → p.1 = q.1)

theorem Lies.none {P : Program} {S : Nat → Prop} {w : World} {R : (Nat → Value) → (Nat → Prop) → Prop} (bs : List Nat) (h : ∀ β D, R β D) : Lies P S w [] bs R :=
  ⟨fun _ => undef, fun β D _ => ⟨fun p hp => by simp at hp, h β D⟩, fun p hp => by simp at hp, fun p hp => by simp at hp⟩

theorem Lies.imp {P : Program} {S : Nat → Prop} {w : World} {os : List (Nat × AO)} {bs bs' : List Nat} {R R' : (Nat → Value) → (Nat → Prop) → Prop} (h : Lies P S w os bs R) (hb : ∀ b ∈ bs, b ∈ bs') (hR : ∀ β D, R β D → R' β D) : Lies P S w os bs' R' := by
  obtain ⟨βn, h1, h2, h3⟩ := h
  exact ⟨βn, fun β D hp => ⟨(h1 β D hp).1, hR β D (h1 β D hp).2⟩, fun p hp b hpb => hb b (h2 p hp b hpb), h3⟩

theorem Lies.append {P : Program} {S : Nat → Prop} {w : World} {os os' : List (Nat × AO)} {bs bs' : List Nat} {R R' : (Nat → Value) → (Nat → Prop) → Prop} (h : Lies P S w os bs R) (h' : Lies P S w os' bs' R')
    (hb : ∀ b ∈ bs, b ∉ bs') (ht : ∀ p ∈ os, ∀ q ∈ os', p.1 ≠ q.1) : Lies P S w (os ++ os') (bs ++ bs') (fun β D => R β D ∧ R' β D) := by
  classical
  obtain ⟨β1, a1, a2, a3⟩ := h
  obtain ⟨β2, b1, b2, b3⟩ := h'
  have e1 : ∀ p ∈ os, (if ∃ q ∈ os, q.1 = p.1 then β1 p.1 else β2 p.1) = β1 p.1 := fun p hp => if_pos ⟨p, hp, rfl⟩
  have e2 : ∀ p ∈ os', (if ∃ q ∈ os, q.1 = p.1 then β1 p.1 else β2 p.1) = β2 p.1 := fun p hp => if_neg fun ⟨q, hq, e⟩ => ht q hq p hp e
  refine ⟨fun t => if ∃ q ∈ os, q.1 = t then β1 t else β2 t, fun β D hp => ?_, fun p hp b hb' => ?_, fun p hp q hq b hpb hqb => ?_⟩
  · have k1 := a1 β D fun p hpo => ⟨(hp p (List.mem_append_left _ hpo)).1.trans (e1 p hpo), (hp p (List.mem_append_left _ hpo)).2⟩
    have k2 := b1 β D fun p hpo => ⟨(hp p (List.mem_append_right _ hpo)).1.trans (e2 p hpo), (hp p (List.mem_append_right _ hpo)).2⟩
    refine ⟨fun p hpo => ?_, k1.2, k2.2⟩
    rcases List.mem_append.1 hpo with h | h
    · exact k1.1 p h
    · exact k2.1 p h
  · dsimp only at hb'
    rcases List.mem_append.1 hp with h | h
    · rw [e1 p h] at hb'; exact List.mem_append_left _ (a2 p h b hb')
    · rw [e2 p h] at hb'; exact List.mem_append_right _ (b2 p h b hb')
  · dsimp only at hpb hqb
    rcases List.mem_append.1 hp with h | h <;> rcases List.mem_append.1 hq with g | g
    · rw [e1 p h] at hpb; rw [e1 q g] at hqb; exact a3 p h q g b hpb hqb
    · rw [e1 p h] at hpb; rw [e2 q g] at hqb; exact absurd (b2 q g b hqb) (hb b (a2 p h b hpb))
    · rw [e2 p h] at hpb; rw [e1 q g] at hqb; exact absurd (b2 p h b hpb) (hb b (a2 q g b hqb))
    · rw [e2 p h] at hpb; rw [e2 q g] at hqb; exact b3 p h q g b hpb hqb

section
variable {P : Program} {S S' : Nat → Prop} {w : World}

/-- What is asked of the naming of one tree. -/
def NumOK (P : Program) (S S' : Nat → Prop) (w : World) (f : AV → List Nat × List Nat → Option (AV × List (Nat × AO) × List Nat × List Nat)) : Prop :=
  ∀ (y : AV) (s : List Nat × List Nat) (q : AV × List (Nat × AO) × List Nat × List Nat), f y s = some q → (q.2.1.map (·.1) ++ (q.2.2.1 ++ q.2.2.2)).Perm (s.1 ++ s.2) ∧
    ∀ (v : Value) (bs : List Nat), HT P S w v y bs → bs.Nodup → (s.1 ++ s.2).Nodup → Lies P S' w q.2.1 bs fun β D => RV P S' w β D v q.1

theorem numW_ok {f : AV → List Nat × List Nat → Option (AV × List (Nat × AO) × List Nat × List Nat)} (hf : NumOK P S S' w f) : ∀ (ys : List AV) (s : List Nat × List Nat) (q : List AV × List (Nat × AO) × List Nat × List Nat), numW f ys s = some q →
    (q.2.1.map (·.1) ++ (q.2.2.1 ++ q.2.2.2)).Perm (s.1 ++ s.2) ∧ q.1.length = ys.length ∧
    ∀ (vs : List Value) (bss : List (List Nat)), HTs P S w vs ys bss → bss.flatten.Nodup → (s.1 ++ s.2).Nodup →
      Lies P S' w q.2.1 bss.flatten fun β D => ∀ (i : Nat) (c : AV) (u : Value), q.1[i]? = some c → vs[i]? = some u → RV P S' w β D u c
  | [], s, q, h => by
    cases h
    exact ⟨.refl _, rfl, fun vs bss _ _ _ => Lies.none _ fun β D i c u hc => by simp at hc⟩
  | y :: ys, s, q, h => by
    obtain ⟨r, hr, h⟩ := Option.bind_eq_some_iff.1 h
    obtain ⟨q', hq, rfl⟩ := Option.map_eq_some_iff.1 h
    obtain ⟨p1, l1⟩ := hf y s r hr
    obtain ⟨p2, n2, l2⟩ := numW_ok hf ys r.2.2 q' hq
    have hp : ((r.2.1 ++ q'.2.1).map (·.1) ++ (q'.2.2.1 ++ q'.2.2.2)).Perm (s.1 ++ s.2) := by
      rw [List.map_append, List.append_assoc]
      exact (p2.append_left _).trans p1
    refine ⟨hp, by simp [n2], fun vs bss ⟨hl1, hl2, hg⟩ hnd hs => ?_⟩
    match vs, bss, hl1, hl2 with
    | v :: vs, bs :: bss, hl1, hl2 =>
      rw [List.flatten_cons, List.nodup_append] at hnd
      have hs1 := p1.nodup_iff.2 hs
      rw [List.nodup_append] at hs1
      have hs2 : (r.2.2.1 ++ r.2.2.2).Nodup := hs1.2.1
      have k1 := l1 v bs (hg 0 y v bs rfl rfl rfl) hnd.1 hs
      have k2 := l2 vs bss ⟨by simpa using hl1, by simpa using hl2, fun i y v bs h1 h2 h3 => hg (i + 1) y v bs (by simpa using h1) (by simpa using h2) (by simpa using h3)⟩ hnd.2.1 hs2
      refine (k1.append k2 (fun b hb hb' => hnd.2.2 b hb b hb' rfl) fun p hp q hq e => ?_).imp (fun b hb => by simpa using hb) fun β D ⟨a1, a2⟩ i c u hc hu => ?_
      · have : q.1 ∈ r.2.2.1 ++ r.2.2.2 := p2.mem_iff.1 (List.mem_append_left _ (List.mem_map_of_mem hq))
        exact hs1.2.2 _ (List.mem_map_of_mem hp) _ this e
      · cases i with
        | zero =>
          simp only [List.getElem?_cons_zero, Option.some.injEq] at hc hu
          rw [← hc, ← hu]; exact a1
        | succ i => exact a2 i c u (by simpa using hc) (by simpa using hu)

theorem HT.leaf_inv {v : Value} {y : AV} {bs : List Nat} (h : HT P S w v y bs) (hy : (∃ p, y = .pv p) ∨ (∃ cs, y = .rp cs) ∨ ∃ f cs, y = .clo f cs) : RV P S w (fun _ => undef) (fun _ => False) v y := by
  cases h with
  | leaf v y h => exact h
  | _ => rcases hy with ⟨p, h⟩ | ⟨p, h⟩ | ⟨f, p, h⟩ <;> cases h

theorem RV.tree_inv {β : Nat → Value} {v : Value} {y : AV} (h : RV P S w β (fun _ => False) v y) : (∀ e rows, y ≠ .fr e rows) ∧ (∀ cs, y ≠ .bx cs) ∧ ∀ es, y ≠ .mf es := by
  cases h <;> exact ⟨fun _ _ h => (by cases h), fun _ h => (by cases h), fun _ h => (by cases h)⟩

theorem num_ok (hS : ∀ b, S b → S' b) : ∀ (n : Nat) (top : Bool), NumOK P S S' w (num n top)
  | 0, _, _, _, _, h => by cases h
  | n + 1, top, y, s, q, h => by
    have hS2 : ∀ b, S b → S' b ∧ w.heap[b]? = w.heap[b]? := fun b hb => ⟨hS b hb, rfl⟩
    have leaf : ∀ {v : Value} {x : AV}, RV P S w (fun _ => undef) (fun _ => False) v x → ∀ β D, RV P S' w β D v x := fun h β D => h.mono hS2 fun _ hf => hf.elim
    -- an aggregate that bears no tree is one all the same
    have lists : ∀ (v : Value) (cs : List AV) (bs : List Nat), (HT P S w v (.agg cs) bs → ∃ us bss, v = .agg us.toArray ∧ bs = bss.flatten ∧ HTs P S w us cs bss) ∧ (HT P S w v (.tup cs) bs → ∃ us bss, v = .tuple us.toArray ∧ bs = bss.flatten ∧ HTs P S w us cs bss) := by
      intro v cs bs
      constructor
      · intro h
        cases h with
        | agg us cs bss h1 h2 h3 => exact ⟨us, bss, rfl, rfl, h1, h2, fun i y v bs a b c => h3 i y v bs a b c⟩
        | leaf v y h =>
          obtain ⟨us, rfl, hl, hc⟩ := h.agg_inv
          refine ⟨us, cs.map fun _ => [], rfl, by simp, hl, by simp, fun i y v bs h1 h2 h3 => ?_⟩
          rw [List.getElem?_map, h1] at h3
          cases h3
          exact .leaf _ _ (hc i y v h1 h2)
      · intro h
        cases h with
        | tup us cs bss h1 h2 h3 => exact ⟨us, bss, rfl, rfl, h1, h2, fun i y v bs a b c => h3 i y v bs a b c⟩
        | leaf v y h =>
          obtain ⟨us, rfl, hl, hc⟩ := h.tup_inv
          refine ⟨us, cs.map fun _ => [], rfl, by simp, hl, by simp, fun i y v bs h1 h2 h3 => ?_⟩
          rw [List.getElem?_map, h1] at h3
          cases h3
          exact .leaf _ _ (hc i y v h1 h2)
    unfold num at h
    split at h
    · rename_i e rows
      obtain ⟨k, hk, rfl⟩ := Option.map_eq_some_iff.1 h
      refine ⟨tk_perm hk, fun v bs hv hb hs => ?_⟩
      cases hv with
      | leaf v y h => exact absurd rfl (h.tree_inv.1 _ _)
      | fr v e rows inf us h1 h2 h3 h4 =>
        refine ⟨fun _ => v, fun β D hp => ?_, fun p hp b hb => ?_, fun p hp q hq b _ _ => ?_⟩
        · obtain ⟨e1, hd⟩ := hp (k.1, .arr e rows) (by simp)
          refine ⟨fun p hp => ?_, ?_⟩
          · simp only [List.mem_singleton] at hp
            subst hp
            exact ⟨inf, us, h1, by rw [e1]; exact h2, h3, fun i j r p hr hp => by obtain ⟨u, a, b, c⟩ := h4 i j r p hr hp; exact ⟨u, a, b, c.mono hS2⟩⟩
          · have := RV.own (P := P) (S := S') (w := w) (β := β) k.1 hd
            rw [e1] at this; exact this
        · simp only [hb, Option.toList_some, List.mem_singleton]
        · simp only [List.mem_singleton] at hp hq
          rw [hp, hq]
    · rename_i es
      obtain ⟨k, hk, rfl⟩ := Option.map_eq_some_iff.1 h
      refine ⟨tk_perm hk, fun v bs hv hb hs => ?_⟩
      cases hv with
      | leaf v y h => exact absurd rfl (h.tree_inv.2.2 _)
      | mf b us c es h1 hst h2 h3 =>
        refine ⟨fun _ => .map (some b), fun β D hp => ?_, fun p hp b' hb => ?_, fun p hp q hq b _ _ => ?_⟩
        · obtain ⟨e1, hd⟩ := hp (k.1, .mpv es) (by simp)
          refine ⟨fun p hp => ?_, ?_⟩
          · simp only [List.mem_singleton] at hp
            subst hp
            exact ⟨b, us, c, e1, h1, hst, h2, fun i e u he hu => ⟨(h3 i e u he hu).1, (h3 i e u he hu).2.1, (h3 i e u he hu).2.2.1, (h3 i e u he hu).2.2.2.mono hS2⟩⟩
          · have := RV.own (P := P) (S := S') (w := w) (β := β) k.1 hd
            rw [e1] at this; exact this
        · simp only [blk, Option.some.injEq] at hb
          simp [hb]
        · simp only [List.mem_singleton] at hp hq
          rw [hp, hq]
    · rename_i cs
      obtain ⟨k, hk, h⟩ := Option.bind_eq_some_iff.1 h
      obtain ⟨r, hr, rfl⟩ := Option.map_eq_some_iff.1 h
      obtain ⟨p2, n2, l2⟩ := numW_ok (num_ok hS n false) cs k.2 r hr
      have p1 := tk_perm hk
      refine ⟨?_, fun v bs hv hb hs => ?_⟩
      · exact ((p2.cons k.1).trans p1)
      cases hv with
      | leaf v y h => exact absurd rfl (h.tree_inv.2.1 _)
      | bx b us ty cs bss h1 h2 h3 h4 h5 =>
        rw [List.nodup_cons] at hb
        have hs1 := p1.nodup_iff.2 hs
        rw [List.nodup_cons] at hs1
        have k2 := l2 us.toList bss ⟨by simpa using h2, h3, fun i y v bs a1 a2 a3 => h5 i y v bs a1 (by simpa using a2) a3⟩ hb.2 hs1.2
        obtain ⟨βn, a1, a2, a3⟩ := k2
        have hne : ∀ p ∈ r.2.1, p.1 ≠ k.1 := fun p hp e => by
          have : p.1 ∈ k.2.1 ++ k.2.2 := p2.mem_iff.1 (List.mem_append_left _ (List.mem_map_of_mem hp))
          exact hs1.1 (e ▸ this)
        have e2 : ∀ p ∈ r.2.1, (if p.1 = k.1 then Value.pointer (some ⟨b, 0, none⟩) else βn p.1) = βn p.1 := fun p hp => if_neg (hne p hp)
        refine ⟨fun t => if t = k.1 then .pointer (some ⟨b, 0, none⟩) else βn t, fun β D hp => ?_, fun p hp b' hb' => ?_, fun p hp q hq b' hpb hqb => ?_⟩
        · obtain ⟨e1, hd⟩ := hp (k.1, .box r.1) (by simp)
          simp only [if_true] at e1
          obtain ⟨c1, c2⟩ := a1 β D fun p hpo => ⟨(hp p (List.mem_cons_of_mem _ hpo)).1.trans (e2 p hpo), (hp p (List.mem_cons_of_mem _ hpo)).2⟩
          refine ⟨fun p hpo => ?_, .ptr k.1 0 b hd e1⟩
          rcases List.mem_cons.1 hpo with rfl | hpo
          · exact ⟨b, us, ty, e1, h1, h2.trans n2.symm, fun i c u hc hu => ⟨h4 i u hu, c2 i c u hc (by simpa using hu)⟩⟩
          · exact c1 p hpo
        · dsimp only at hb'
          rcases List.mem_cons.1 hp with rfl | hpo
          · simp only [if_true, blk, Option.some.injEq] at hb'
            simp [hb']
          · rw [e2 p hpo] at hb'
            exact List.mem_cons_of_mem _ (a2 p hpo b' hb')
        · dsimp only at hpb hqb
          rcases List.mem_cons.1 hp with rfl | hpo <;> rcases List.mem_cons.1 hq with rfl | hqo
          · rfl
          · simp only [if_true, blk, Option.some.injEq] at hpb
            rw [e2 q hqo] at hqb
            exact absurd (a2 q hqo b' hqb) (hpb ▸ hb.1)
          · simp only [if_true, blk, Option.some.injEq] at hqb
            rw [e2 p hpo] at hpb
            exact absurd (a2 p hpo b' hpb) (hqb ▸ hb.1)
          · rw [e2 p hpo] at hpb
            rw [e2 q hqo] at hqb
            exact a3 p hpo q hqo b' hpb hqb
    · rename_i cs
      obtain ⟨r, hr, rfl⟩ := Option.map_eq_some_iff.1 h
      obtain ⟨p2, n2, l2⟩ := numW_ok (num_ok hS n top) cs s r hr
      refine ⟨p2, fun v bs hv hb hs => ?_⟩
      obtain ⟨us, bss, rfl, rfl, hts⟩ := (lists v cs bs).1 hv
      exact (l2 us bss hts hb hs).imp (fun b hb => hb) fun β D hc => .agg r.1 us (hts.1.trans n2.symm) hc
    · rename_i cs
      obtain ⟨r, hr, rfl⟩ := Option.map_eq_some_iff.1 h
      obtain ⟨p2, n2, l2⟩ := numW_ok (num_ok hS n top) cs s r hr
      refine ⟨p2, fun v bs hv hb hs => ?_⟩
      obtain ⟨us, bss, rfl, rfl, hts⟩ := (lists v cs bs).2 hv
      exact (l2 us bss hts hb hs).imp (fun b hb => hb) fun β D hc => .tup r.1 us (hts.1.trans n2.symm) hc
    · cases h; exact ⟨.refl _, fun v bs hv _ _ => Lies.none _ (leaf (hv.leaf_inv (.inl ⟨_, rfl⟩)))⟩
    · cases h; exact ⟨.refl _, fun v bs hv _ _ => Lies.none _ (leaf (hv.leaf_inv (.inr (.inl ⟨_, rfl⟩))))⟩
    · split at h
      · cases h; exact ⟨.refl _, fun v bs hv _ _ => Lies.none _ (leaf (hv.leaf_inv (.inr (.inr ⟨_, _, rfl⟩))))⟩
      · cases h
    · cases h
end

end Go.Proofs.Ythblkhafehanfaa.Ab
