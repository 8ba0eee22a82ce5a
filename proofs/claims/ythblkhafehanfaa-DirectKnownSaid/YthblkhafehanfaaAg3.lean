/- The abstract machine is sound: the contract of a function that takes objects whole, or borrows them. -/
import Derived.Test.YthblkhafehanfaaAb20
namespace Go.Proofs.Ythblkhafehanfaa.Ab
open Go Go.RowKit

/-- The arguments laid out: what is taken, what is lent. -/
def numA : List AV → List Nat × List Nat → Option (List AV × List (Nat × AO) × List Nat × List Nat)
  | [], s => some ([], [], s)
  | y :: ys, s => (num 5 (isT y) (unT y) s).bind fun r => (numA ys r.2.2).map fun q => (r.1 :: q.1, r.2.1 ++ q.2.1, q.2.2)
def supG : List Nat × List Nat := ([999, 1999, 2999, 3999, 4999, 5999], [998, 1998, 2998, 3998, 4998, 5998, 6998, 7998, 8998, 9998, 10998, 11998])
/-- All that it names lies on top. -/
def topK : AV → Bool
  | .own _ | .ptr _ 0 | .pv _ | .rp _ | .clo _ [] => true
  | _ => false
def topOK : AV → Bool
  | .agg cs => cs.all topK
  | x => topK x
def EndsKG (P : Program) (rs : List (Nat × Option (Option Nat))) (L : List AV) (x : AV) (st : St) : Prop :=
  resVals st rs fun vs => mt P st.objs 6 (tupleOf vs) (retG x) ∧ mtW (mt P st.objs 5) L (outG x) ∧ (L.flatMap (tg st.objs 5) ++ tg st.objs 6 (tupleOf vs)).Nodup
def EndsG (P : Program) (rs : List (Nat × Option (Option Nat))) (L : List AV) (x : AV) (st : St) : Prop :=
  resVals st rs fun vs => EndsKG P rs L x (shareT (pubs (tupleOf vs) (retG x)) st)

section
variable {P : Program} {S S' : Nat → Prop} {w w' : World} {β β' : Nat → Value} {objs : Nat → Option AO}

theorem numA_ok (hS : ∀ b, S b → S' b) : ∀ (ys : List AV) (s : List Nat × List Nat) (q : List AV × List (Nat × AO) × List Nat × List Nat), numA ys s = some q →
    (q.2.1.map (·.1) ++ (q.2.2.1 ++ q.2.2.2)).Perm (s.1 ++ s.2) ∧ q.1.length = ys.length ∧
    ∀ (vs : List Value) (bss : List (List Nat)), HTs P S w vs (ys.map unT) bss → bss.flatten.Nodup → (s.1 ++ s.2).Nodup →
      Lies P S' w q.2.1 bss.flatten fun β D => ∀ (i : Nat) (c : AV) (u : Value), q.1[i]? = some c → vs[i]? = some u → RV P S' w β D u c
  | [], s, q, h => by
    cases h
    exact ⟨.refl _, rfl, fun vs bss _ _ _ => Lies.none _ fun β D i c u hc => by simp at hc⟩
  | y :: ys, s, q, h => by
    obtain ⟨r, hr, h⟩ := Option.bind_eq_some_iff.1 h
    obtain ⟨q', hq, rfl⟩ := Option.map_eq_some_iff.1 h
    obtain ⟨p1, l1⟩ := num_ok (P := P) (S := S) (S' := S') (w := w) hS 5 (isT y) (unT y) s r hr
    obtain ⟨p2, n2, l2⟩ := numA_ok hS ys r.2.2 q' hq
    have hp : ((r.2.1 ++ q'.2.1).map (·.1) ++ (q'.2.2.1 ++ q'.2.2.2)).Perm (s.1 ++ s.2) := by
      rw [List.map_append, List.append_assoc]
      exact (p2.append_left _).trans p1
    refine ⟨hp, by simp [n2], fun vs bss ⟨hl1, hl2, hg⟩ hnd hs => ?_⟩
    match vs, bss, hl1, hl2 with
    | v :: vs, bs :: bss, hl1, hl2 =>
      rw [List.flatten_cons, List.nodup_append] at hnd
      have hs1 := p1.nodup_iff.2 hs
      rw [List.nodup_append] at hs1
      have hs2 : (r.2.2.1 ++ r.2.2.2).Nodup := hs1.2.1
      have k1 := l1 v bs (hg 0 _ v bs rfl rfl rfl) hnd.1 hs
      have k2 := l2 vs bss ⟨by simpa using hl1, by simpa using hl2, fun i y v bs h1 h2 h3 => hg (i + 1) y v bs (by simpa using h1) (by simpa using h2) (by simpa using h3)⟩ hnd.2.1 hs2
      refine (k1.append k2 (fun b hb hb' => hnd.2.2 b hb b hb' rfl) fun p hp q hq e => ?_).imp (fun b hb => by simpa using hb) fun β D ⟨a1, a2⟩ i c u hc hu => ?_
      · have : q.1 ∈ r.2.2.1 ++ r.2.2.2 := p2.mem_iff.1 (List.mem_append_left _ (List.mem_map_of_mem hq))
        exact hs1.2.2 _ (List.mem_map_of_mem hp) _ this e
      · cases i with
        | zero =>
          simp only [List.getElem?_cons_zero, Option.some.injEq] at hc hu
          rw [← hc, ← hu]; exact a1
        | succ i => exact a2 i c u (by simpa using hc) (by simpa using hu)

theorem blks_nodup (hinj : ∀ t t' b, dom objs t → dom objs t' → blk (β t) = some b → blk (β t') = some b → t = t') : ∀ l : List Nat, l.Nodup → (∀ t ∈ l, dom objs t) → (blks β l).Nodup
  | [], _, _ => List.nodup_nil
  | t :: l, hn, hd => by
    rw [List.nodup_cons] at hn
    have e : blks β (t :: l) = (blk (β t)).toList ++ blks β l := by rw [← blks_one]; exact blks_append β [t] l
    rw [e]
    cases hb : blk (β t) with
    | none => exact blks_nodup hinj l hn.2 fun t ht => hd t (List.mem_cons_of_mem _ ht)
    | some b =>
      show (b :: blks β l).Nodup
      rw [List.nodup_cons]
      refine ⟨fun hm => ?_, blks_nodup hinj l hn.2 fun t ht => hd t (List.mem_cons_of_mem _ ht)⟩
      obtain ⟨s, hs, hb'⟩ := List.mem_filterMap.1 hm
      exact hn.1 (hinj t s b (hd t List.mem_cons_self) (hd s (List.mem_cons_of_mem _ hs)) hb hb' ▸ hs)

theorem mt_dom : ∀ (n : Nat) {x y : AV}, mt P objs n x y → ∀ t ∈ tg objs n x, dom objs t
  | 0, _, _, h => h.elim
  | n + 1, x, y, h => by
    have lst : ∀ {l cs : List AV}, mtW (mt P objs n) l cs → ∀ t ∈ l.flatMap (tg objs n), dom objs t := by
      intro l
      induction l with
      | nil => intro cs _ t ht; simp at ht
      | cons c l ih =>
        intro cs hm t ht
        cases cs with
        | nil => exact hm.elim
        | cons y cs =>
          rw [List.flatMap_cons] at ht
          rcases List.mem_append.1 ht with ht | ht
          · exact mt_dom n hm.1 t ht
          · exact ih hm.2 t ht
    unfold mt at h
    intro s hs
    split at h
    · rcases h with ⟨t, rfl, ht⟩ | ⟨rfl, _, _⟩ | ⟨t, hi, rs, rfl, ht, _⟩
      · simp only [tg, List.mem_singleton] at hs; rw [hs]; exact ⟨_, ht⟩
      · simp [tg] at hs
      · simp only [tg, List.mem_singleton] at hs; rw [hs]; exact ⟨_, ht⟩
    · obtain ⟨t, rfl, ht⟩ := h
      simp only [tg, List.mem_singleton] at hs; rw [hs]; exact ⟨_, ht⟩
    · obtain ⟨t, l, rfl, ht, hm⟩ := h
      have e1 : tg objs (n + 1) (.ptr t 0) = t :: l.flatMap (tg objs n) := by
        show t :: ((boxO (objs t)).getD []).flatMap (tg objs n) = _
        rw [ht]; rfl
      rw [e1] at hs
      rcases List.mem_cons.1 hs with rfl | hs
      · exact ⟨_, ht⟩
      · exact lst hm s hs
    · obtain ⟨l, rfl, hm⟩ := h
      exact lst hm s hs
    · obtain ⟨l, rfl, hm⟩ := h
      exact lst hm s hs
    · subst h; simp [tg] at hs
    · subst h; simp [tg] at hs
    · obtain ⟨rfl, _⟩ := h; simp [tg] at hs
    · exact h.elim

theorem topK_top {D : Nat → Prop} {v : Value} {x : AV} (hk : topK x = true) (h : RV P S w β D v x) : RV P S w β (· ∈ topC x) v x := by
  cases h with
  | pv v p h => exact .pv v p h
  | own t h => exact .own t (by simp [topC])
  | ptr t o b h hb =>
    cases o with
    | zero => exact .ptr t 0 b (by simp [topC]) hb
    | succ o => simp [topK] at hk
  | rp ad cs us h1 h2 h3 h4 => exact .rp ad cs us h1 h2 h3 h4
  | clo f cs us hl h =>
    cases cs with
    | nil => exact .clo f [] us hl fun i c u hc => by simp at hc
    | cons c cs => simp [topK] at hk
  | _ => simp [topK] at hk
theorem topOK_top {D : Nat → Prop} {v : Value} {x : AV} (hk : topOK x = true) (h : RV P S w β D v x) : RV P S w β (· ∈ tops x) v x := by
  by_cases hx : ∃ cs, x = .agg cs
  · obtain ⟨cs, rfl⟩ := hx
    obtain ⟨us, rfl, hl, hc⟩ := h.agg_inv
    refine .agg cs us hl fun i c u a b => ?_
    have hm := List.mem_of_getElem? a
    simp only [topOK, List.all_eq_true] at hk
    exact (topK_top (hk c hm) (hc i c u a b)).mono (fun b hb => ⟨hb, rfl⟩) fun t ht => ⟨List.mem_flatMap.2 ⟨c, hm, ht⟩, rfl⟩
  · have e1 : topOK x = topK x := by cases x <;> first | rfl | exact absurd ⟨_, rfl⟩ hx
    have e2 : tops x = topC x := by cases x <;> first | rfl | exact absurd ⟨_, rfl⟩ hx
    rw [e1] at hk
    rw [e2]; exact topK_top hk h

/-- What is lent lies on top, and so it is found again behind the call. -/
theorem mt_tops {n : Nat} {x y : AV} (h : mt P objs (n + 2) x y) (hk : topOK x = true) : ∀ t ∈ tops x, dom objs t := by
  intro t ht
  refine mt_dom (n + 2) h t ?_
  have hC : ∀ {c : AV}, t ∈ topC c → ∀ m, t ∈ tg objs (m + 1) c := by
    intro c hc m
    unfold topC at hc
    split at hc
    · simpa [tg] using hc
    · simp only [List.mem_singleton] at hc; subst hc; exact List.mem_cons_self
    · simp at hc
  by_cases hx : ∃ cs, x = .agg cs
  · obtain ⟨cs, rfl⟩ := hx
    obtain ⟨c, hc, ht⟩ := List.mem_flatMap.1 ht
    exact List.mem_flatMap.2 ⟨c, hc, hC ht n⟩
  · have e2 : tops x = topC x := by cases x <;> first | rfl | exact absurd ⟨_, rfl⟩ hx
    rw [e2] at ht
    exact hC ht (n + 1)

theorem lent_get {R : Value → AV → Prop} : ∀ {ys xs : List AV} {vs : List Value}, xs.length = ys.length → vs.length = ys.length → (∀ (i : Nat) (c : AV) (u : Value), xs[i]? = some c → vs[i]? = some u → R u c) →
    (lent ys xs).length = (lent ys vs).length ∧ ∀ (i : Nat) (c : AV) (u : Value), (lent ys xs)[i]? = some c → (lent ys vs)[i]? = some u → R u c
  | [], [], [], _, _, _ => ⟨rfl, fun i c u hc => by simp [lent] at hc⟩
  | y :: ys, x :: xs, v :: vs, h1, h2, h => by
    obtain ⟨k1, k2⟩ := lent_get (ys := ys) (xs := xs) (vs := vs) (by simpa using h1) (by simpa using h2) fun i c u hc hu => h (i + 1) c u (by simpa using hc) (by simpa using hu)
    simp only [lent]
    split
    · refine ⟨by simp [k1], fun i c u hc hu => ?_⟩
      cases i with
      | zero =>
        simp only [List.getElem?_cons_zero, Option.some.injEq] at hc hu
        rw [← hc, ← hu]; exact h 0 x v rfl rfl
      | succ i => exact k2 i c u (by simpa using hc) (by simpa using hu)
    · exact ⟨k1, k2⟩
  | [], _ :: _, _, h, _, _ => by simp at h
  | [], [], _ :: _, _, h, _ => by simp at h
  | _ :: _, [], _, h, _, _ => by simp at h
  | _ :: _, _ :: _, [], _, h, _ => by simp at h
end

theorem con_ofG {P : Program} {Γ : Tab} (hΓ : TabOK P Γ) {f : FuncId} {keep : List Nat} {F : AFn} {ys : List AV} {x : AV} {s : List AV × List (Nat × AO) × List Nat × List Nat} (hm : P.follows .mixedOrders = true) (hc : compFn P f keep = some F) (hlen : ys.length ≤ F.n)
    (hnum : numA ys supG = some s) (htop : ∀ c ∈ lent ys s.1, topOK c = true ∧ ∀ t ∈ tops c, t % 1000 = 999)
    (hs : vwp P Γ F.body (EndsG P F.res (lent ys s.1) x) (retJ (EndsG P F.res (lent ys s.1) x)) ⟨look (argL 0 s.1), lookO s.2.1⟩) : ConG P f ys x := by
  intro w S0 vals bss hS0 hnd hts
  obtain ⟨p1, n1, l1⟩ := numA_ok (P := P) (S := S0) (S' := S0) (w := w) (fun b hb => hb) ys supG s hnum
  obtain ⟨β, c1, c2, c3⟩ := l1 vals bss hts hnd (by decide)
  generalize hB : bss.flatten = B at *
  obtain ⟨d1, d2⟩ := c1 β (dom (lookO s.2.1)) fun p hp => ⟨rfl, by obtain ⟨o, ho⟩ := lookO_dom hp; exact ⟨o, ho⟩⟩
  have hvl : vals.length = ys.length := by have := hts.1; simpa using this
  have hblt : ∀ b ∈ B, b < w.heap.size := by
    -- blocks lie in the heap
    have hlt : ∀ {v y bs}, HT P S0 w v y bs → ∀ b ∈ bs, b < w.heap.size := by
      intro v y bs h
      have hin : ∀ {b : Nat} {o : Obj}, w.heap[b]? = some o → b < w.heap.size := fun h => (Array.getElem?_eq_some_iff.1 h).1
      have lst : ∀ {us : List Value} {cs : List AV} {bss : List (List Nat)}, us.length = cs.length → bss.length = cs.length →
          (∀ (i : Nat) (c : AV) (u : Value) (bs : List Nat), cs[i]? = some c → us[i]? = some u → bss[i]? = some bs → ∀ b ∈ bs, b < w.heap.size) → ∀ b ∈ bss.flatten, b < w.heap.size := by
        intro us cs bss h1 h2 h b hb
        obtain ⟨bs, hbs, hb⟩ := List.mem_flatten.1 hb
        obtain ⟨i, hi⟩ := List.getElem?_of_mem hbs
        have hl := (List.getElem?_eq_some_iff.1 hi).1
        exact h i _ _ bs (List.getElem?_eq_getElem (by omega)) (List.getElem?_eq_getElem (by omega)) hi b hb
      induction h with
      | leaf v y h => intro b hb; simp at hb
      | fr v e rows inf us h1 h2 h3 h4 =>
        intro b hb
        rcases h2.2 with ⟨rfl, _⟩ | ⟨g, cap, cur, rfl, _, h5, _⟩
        · simp [blk] at hb
        · simp only [blk, Option.toList_some, List.mem_singleton] at hb
          rw [hb]; exact hin h5
      | mf b us c es h1 h2 h3 => intro b' hb; simp only [List.mem_singleton] at hb; rw [hb]; exact hin h1
      | bx b us ty cs bss h1 h2 h3 h4 h5 ih =>
        intro b' hb
        rcases List.mem_cons.1 hb with rfl | hb
        · exact hin h1
        · exact lst (us := us.toList) (by simpa using h2) h3 (fun i c u bs a1 a2 a3 => ih i c u bs a1 (by simpa using a2) a3) b' hb
      | agg us cs bss h1 h2 h3 ih => exact lst h1 h2 ih
      | tup us cs bss h1 h2 h3 ih => exact lst h1 h2 ih
    rw [← hB]
    intro b hb
    obtain ⟨bs, hbs, hb⟩ := List.mem_flatten.1 hb
    obtain ⟨i, hi⟩ := List.getElem?_of_mem hbs
    have hl := (List.getElem?_eq_some_iff.1 hi).1
    have h2 := hts.2.1
    have h1 := hts.1
    exact hlt (hts.2.2 i _ _ bs (List.getElem?_eq_getElem (by omega)) (List.getElem?_eq_getElem (by omega)) hi) b hb
  have hos : ∀ t o, lookO s.2.1 t = some o → (t, o) ∈ s.2.1 := fun t o h => lookO_mem2 h
  have hlive : ∀ b, live β (lookO s.2.1) b → b ∈ B := by
    rintro b ⟨t, o, ho, hb⟩
    exact c2 (t, o) (hos t o ho) b hb
  let S1 : Nat → Prop := fun b => S0 b ∨ b ∈ B
  have hS1 : ∀ b, S0 b → okS S1 w.heap.size β (lookO s.2.1) w b ∧ w.heap[b]? = w.heap[b]? := fun b hb => ⟨⟨.inl (.inl hb), (hS0 b hb).1, fun hl => (hS0 b hb).2 (hlive b hl)⟩, rfl⟩
  have hvr : ∀ (i : Nat) (v : Value) (c : AV), vals[i]? = some v → s.1[i]? = some c → RV P S0 w β (dom (lookO s.2.1)) v c := fun i v c hv hc => d2 i c v hc hv
  unfold compFn at hc
  split at hc
  · rename_i fn hfn
    split at hc
    · rename_i c rs hb hrs
      obtain ⟨b, hcomp, hc⟩ := Option.bind_eq_some_iff.1 hc
      split at hc
      case isFalse => cases hc
      rename_i hN
      simp only [Option.some.injEq] at hc
      subst hc
      simp only at hs hlen
      refine calls_of_wp hfn hb ?_
      have hrel : Rel P S1 (· ∈ B) β w fn.ntmps ⟨look (argL 0 s.1), lookO s.2.1⟩ { tmps := vals.toArray ++ Array.replicate (fn.ntmps - vals.toArray.size) undef, defers := [] } w β := by
        refine ⟨by simp; omega, rfl, fun q => ?_, ⟨fun t o ho => ?_, fun t t' b ht ht' hb hb' => ?_⟩, fun t b ht hb => .inr ?_, hN, fun t _ _ => rfl, ⟨rfl, rfl, rfl, Nat.le_refl _, fun _ _ _ => rfl⟩⟩
        · show RV P _ w β _ _ (look (argL 0 s.1) q)
          rw [argL_look]
          simp only [Nat.zero_le, if_true, Nat.sub_zero]
          cases ha : s.1[q]? with
          | none => exact .junk _
          | some x =>
            have hs1 := (List.getElem?_eq_some_iff.1 ha).1
            have hs2 : q < vals.length := by omega
            have hv : vals[q]? = some vals[q] := List.getElem?_eq_getElem hs2
            have hget : (vals.toArray ++ Array.replicate (fn.ntmps - vals.toArray.size) undef).getD q undef = vals[q] := by
              rw [Array.getD_eq_getD_getElem?, Array.getElem?_append_left (by simpa using hs2)]
              simp [hs2]
            rw [hget]
            exact (hvr q _ x hv ha).mono hS1 fun t ht => ⟨ht, rfl⟩
        · exact (d1 (t, o) (hos t o ho)).mono hS1 (fun t ht => ⟨ht, rfl⟩) rfl (fun _ _ => rfl)
        · obtain ⟨o, ho⟩ := ht
          obtain ⟨o', ho'⟩ := ht'
          exact c3 (t, o) (hos t o ho) (t', o') (hos t' o' ho') b hb hb'
        · obtain ⟨o, ho⟩ := ht
          exact c2 (t, o) (hos t o ho) b hb
      have fin : ∀ st a w' β', EndsG P rs (lent ys s.1) x st → Rel P S1 (· ∈ B) β w fn.ntmps st a w' β' → a.defers = [] ∧ ∃ v, (results fn a.tmps).run P w' = .ok v w' ∧
          ∃ v0 bss', Ending.returned v = .returned v0 ∧ Fram (· ∈ B) w w' ∧ bss'.flatten.Nodup ∧ (∀ b ∈ bss'.flatten, w.heap.size ≤ b ∨ b ∈ B) ∧
            HTs P (fun b => (S0 b ∨ b ∈ B ∨ w.heap.size ≤ b) ∧ b < w'.heap.size ∧ b ∉ bss'.flatten) w' (lent ys vals ++ [v0]) (outG x ++ [retG x]) bss' := by
        intro st0 a w' β' hF0 hR0
        obtain ⟨_, vs0, hF, _, _⟩ := result_sound hrs hR0 hF0
        have hR := hR0.shareT (fun b hb => .inr hb) (pubs (tupleOf vs0) (retG x))
        change EndsKG P rs (lent ys s.1) x (shareT _ st0) at hF
        generalize shareT (pubs (tupleOf vs0) (retG x)) st0 = st at hF hR
        obtain ⟨v, vs, ⟨hmt, hmL, hnd'⟩, hrun, hv⟩ := result_sound hrs hR hF
        refine ⟨hR.defers, v, hrun, v, ?_⟩
        generalize tupleOf vs = X at hmt hnd' hv
        generalize hLL : lent ys s.1 = L at *
        have hLd : ∀ t ∈ L.flatMap (tg st.objs 5), dom st.objs t := by
          intro t ht
          obtain ⟨c, hc, ht⟩ := List.mem_flatMap.1 ht
          obtain ⟨i, hi⟩ := List.getElem?_of_mem hc
          obtain ⟨g1, g2⟩ := mtW_get hmL
          exact mt_dom 5 (g2 i c _ hi (List.getElem?_eq_getElem (by have := (List.getElem?_eq_some_iff.1 hi).1; omega))) t ht
        have hXd : ∀ t ∈ tg st.objs 6 X, dom st.objs t := mt_dom 6 hmt
        have ebs : ((L.map fun c => blks β' (tg st.objs 5 c)) ++ [blks β' (tg st.objs 6 X)]).flatten = blks β' (L.flatMap (tg st.objs 5) ++ tg st.objs 6 X) := by
          rw [List.flatten_append, blks_append, blks_flatMap]; simp
        have hall : ∀ t ∈ L.flatMap (tg st.objs 5) ++ tg st.objs 6 X, dom st.objs t := fun t ht => (List.mem_append.1 ht).elim (hLd t) (hXd t)
        refine ⟨(L.map fun c => blks β' (tg st.objs 5 c)) ++ [blks β' (tg st.objs 6 X)], rfl, hR.fram, ?_, ?_, ?_⟩
        · rw [ebs]; exact blks_nodup hR.heap.inj _ hnd' hall
        · rw [ebs]
          intro b hb
          obtain ⟨t, ht, hb⟩ := List.mem_filterMap.1 hb
          exact hR.old t b (hall t ht) hb
        rw [ebs]
        have hSS : ∀ b, okS S1 w.heap.size β' st.objs w' b → ((S0 b ∨ b ∈ B ∨ w.heap.size ≤ b) ∧ b < w'.heap.size ∧ b ∉ blks β' (L.flatMap (tg st.objs 5) ++ tg st.objs 6 X)) := by
          rintro b ⟨h1, h2, h3⟩
          refine ⟨?_, h2, fun hb => ?_⟩
          · rcases h1 with (h1 | h1) | h1
            · exact .inl h1
            · exact .inr (.inl h1)
            · exact .inr (.inr h1)
          · obtain ⟨t, ht, hb⟩ := List.mem_filterMap.1 hb
            obtain ⟨o, ho⟩ := hall t ht
            exact h3 ⟨t, o, ho, hb⟩
        obtain ⟨k1, k2⟩ := lent_get (R := fun u c => RV P S0 w β (dom (lookO s.2.1)) u c) (ys := ys) (xs := s.1) (vs := vals) n1 hvl fun i c u hc hu => hvr i u c hu hc
        rw [hLL] at k1 k2
        obtain ⟨g1, g2⟩ := mtW_get hmL
        have hlast := mt_sound hR.heap hSS 6 hmt hv
        refine ⟨by simp [← k1, g1], by simp [g1], fun i y u bs a1 a2 a3 => ?_⟩
        by_cases hi : i < (outG x).length
        · rw [List.getElem?_append_left hi] at a1
          rw [List.getElem?_append_left (by omega)] at a2
          rw [List.getElem?_append_left (by rw [List.length_map]; omega), List.getElem?_map] at a3
          obtain ⟨c, hc, rfl⟩ := Option.map_eq_some_iff.1 a3
          have hcm := List.mem_of_getElem? hc
          obtain ⟨t1, t2⟩ := htop c hcm
          have hmc := g2 i c y hc a1
          refine mt_sound hR.heap hSS 5 hmc ((topOK_top t1 (k2 i c u hc a2)).mono (fun b hb => ?_) fun t ht => ?_)
          · refine ⟨⟨.inl (.inl hb), Nat.lt_of_lt_of_le (hS0 b hb).1 hR.fram.size, fun ⟨t, o, ho, hbt⟩ => ?_⟩, hR.fram.block b (hS0 b hb).1 (hS0 b hb).2⟩
            rcases hR.old t b ⟨o, ho⟩ hbt with h4 | h4
            · have := (hS0 b hb).1; omega
            · exact (hS0 b hb).2 h4
          · have hd := mt_tops (n := 3) hmc t1 t ht
            exact ⟨hd, hR.pin t (t2 t ht) hd⟩
        · have hi2 : i = (outG x).length := by
            have := (List.getElem?_eq_some_iff.1 a1).1
            simp at this; omega
          subst hi2
          have e1 : y = retG x := by simpa using a1.symm
          have e2 : u = v := by
            rw [← g1, k1] at a2
            simpa using a2.symm
          have e3 : bs = blks β' (tg st.objs 6 X) := by
            rw [← g1, ← List.length_map (as := L) (f := fun c => blks β' (tg st.objs 5 c))] at a3
            simpa using a3.symm
          rw [e1, e2, e3]; exact hlast
      refine code_sound hΓ (S0 := S1) (L := (· ∈ B)) (fun b hb => .inr hb) (w0 := w) hm keep c b hcomp (EndsG P rs (lent ys s.1) x) (retJ (EndsG P rs (lent ys s.1) x)) _ _ _ w β ?_ ?_ ?_ hrel hs
      · intro st a w' β' hF hR
        exact fin st a w' β' hF hR
      · intro st a w' β' id hj; exact hj.elim
      · intro st a w' β' hF hR
        exact fin st a w' β' hF hR
    · cases hc
  · cases hc

end Go.Proofs.Ythblkhafehanfaa.Ab
