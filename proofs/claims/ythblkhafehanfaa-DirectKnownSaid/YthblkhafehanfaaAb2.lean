/- What it means that a machine's frame and memory are the plain data of the abstract machine; contracts; the abstract machine's steps; and how the code of a function is brought into its form. Definitions alone. -/
import Derived.Test.YthblkhafehanfaaAb1
import Derived.MapKept
import Derived.Maps.RangeRun
namespace Go.Proofs.Ythblkhafehanfaa.Ab
open Go Go.RowKit
set_option linter.unusedVariables false

/-! ### Values and memory -/

def blk : Value → Option Nat
  | .slice (some a) _ _ => some a.block
  | .pointer (some a) => some a.block
  | .map (some b) => some b
  | _ => none

/-- A map's key as a value; the sort of a key. -/
def keyV : PV → Value
  | .int k n => .int k n
  | .str l => .string ⟨l.toArray⟩
  | .bool b => .bool b
  | _ => undef
inductive RPV (S : Nat → Prop) (w : World) : Value → PV → Prop
  | int (k : IntKind) (n : Int) : RPV S w (.int k n) (.int k n)
  | bool (b : Bool) : RPV S w (.bool b) (.bool b)
  | str (l : List UInt8) : RPV S w (.string ⟨l.toArray⟩) (.str l)
  | nil : RPV S w (.slice none 0 0) .nil
  | val (v : Value) : v.oneCell' = true → RPV S w v (.val v)
  | mp (b : Nat) (us : Array MapEntry) (c : Nat) (ks : List PV) : S b → w.heap[b]? = some (.map us c) → us.toList.length = ks.length →
      (∀ (i : Nat) (k : PV) (u : MapEntry), ks[i]? = some k → us.toList[i]? = some u → u.key = keyV k ∧ u.val = .agg #[]) → RPV S w (.map (some b)) (.mp ks)
  | mv (b : Nat) (us : Array MapEntry) (c : Nat) (es : List (PV × PV)) : S b → w.heap[b]? = some (.map us c) → MapKept.Stamped us c → us.toList.length = es.length →
      (∀ (i : Nat) (e : PV × PV) (u : MapEntry), es[i]? = some e → us.toList[i]? = some u → u.key = keyV e.1 ∧ srt e.1 < 99 ∧ u.val.oneCell' = true) →
      (∀ (i : Nat) (e : PV × PV) (u : MapEntry), es[i]? = some e → us.toList[i]? = some u → RPV S w u.val e.2) → RPV S w (.map (some b)) (.mv es)
  | pt (ad : Addr) (cs : List PV) (us : Nat → Value) : S ad.block → (∀ j, j < cs.length → w.cell? (ad.add j) = some (us j)) →
      (∀ (j : Nat) (p : PV), cs[j]? = some p → (us j).oneCell' = true) → (∀ (j : Nat) (p : PV), cs[j]? = some p → RPV S w (us j) p) → RPV S w (.pointer (some ad)) (.pt cs)
  | ro0 (A : Option Addr) (c : Nat) : RPV S w (.slice A 0 c) (.ro [])
  | ro (ad : Addr) (c : Nat) (rows : List (List PV)) (sz : Nat) (us : Nat → Nat → Value) :
      S ad.block → rows.length ≤ c → (∀ r, r ∈ rows → r.length = sz) →
      (∀ i j, i < rows.length → j < sz → w.cell? (ad.add (i * sz + j)) = some (us i j)) →
      (∀ (i j : Nat) (r : List PV) (p : PV), rows[i]? = some r → r[j]? = some p → (us i j).oneCell' = true) →
      (∀ (i j : Nat) (r : List PV) (p : PV), rows[i]? = some r → r[j]? = some p → RPV S w (us i j) p) →
      RPV S w (.slice (some ad) rows.length c) (.ro rows)

inductive RV (P : Program) (S : Nat → Prop) (w : World) (β : Nat → Value) (D : Nat → Prop) : Value → AV → Prop
  | pv (v : Value) (p : PV) : RPV S w v p → RV P S w β D v (.pv p)
  | own (t : Nat) : D t → RV P S w β D (β t) (.own t)
  | ptr (t o b : Nat) : D t → β t = .pointer (some ⟨b, 0, none⟩) → RV P S w β D (.pointer (some ⟨b, o, none⟩)) (.ptr t o)
  | eptr (t : Nat) (e : TypeId) (i : Int) (o b n c : Nat) (inf : TypeInfo) : D t → P.info? e = some inf → β t = .slice (some ⟨b, 0, none⟩) n c →
      RV P S w β D (.pointer (some ⟨b, i.toNat * inf.size + o, none⟩)) (.eptr t e i o)
  | sub (v : Value) (t : Nat) (e : TypeId) (lo hi : Nat) (inf : TypeInfo) (A A1 : Option Addr) (n c : Nat) : D t → P.info? e = some inf → β t = .slice A n c → lo ≤ hi → hi ≤ n → n ≤ c → (lo = 0 → A1 = A) → (c ≠ lo → A1 = A.map (·.add (lo * inf.size))) → v = .slice A1 (hi - lo) (c - lo) →
      RV P S w β D v (.sub t e lo hi)
  | rp (ad : Addr) (cs : List PV) (us : Nat → Value) : S ad.block → (∀ j, j < cs.length → w.cell? (ad.add j) = some (us j)) →
      (∀ (j : Nat) (p : PV), cs[j]? = some p → (us j).oneCell' = true) → (∀ (j : Nat) (p : PV), cs[j]? = some p → RPV S w (us j) p) →
      RV P S w β D (.pointer (some ad)) (.rp cs)
  | agg (cs : List AV) (us : List Value) : us.length = cs.length → (∀ (i : Nat) (c : AV) (u : Value), cs[i]? = some c → us[i]? = some u → RV P S w β D u c) →
      RV P S w β D (.agg us.toArray) (.agg cs)
  | tup (vs : List AV) (us : List Value) : us.length = vs.length → (∀ (i : Nat) (c : AV) (u : Value), vs[i]? = some c → us[i]? = some u → RV P S w β D u c) →
      RV P S w β D (.tuple us.toArray) (.tup vs)
  | clo (f : FuncId) (cs : List AV) (us : List Value) : us.length = cs.length → (∀ (i : Nat) (c : AV) (u : Value), cs[i]? = some c → us[i]? = some u → RV P S w β D u c) →
      RV P S w β D (.func (.func f) #[] us.toArray) (.clo f cs)
  | cnd (g : Bool) (v : Value) (av : AV) : (g = true → RV P S w β D v av) → (g = false → v = undef) → RV P S w β D v (.cnd g av)
  | junk (v : Value) : RV P S w β D v .junk

def keysOK (s : Nat) (es : List (PV × AV)) : Prop := ∀ e ∈ es, srt e.1 = s
def getM (k : PV) : List (PV × AV) → Option AV
  | [] => none
  | e :: l => if eqP k e.1 = true then some e.2 else getM k l
def putM (k : PV) (v : AV) : List (PV × AV) → List (PV × AV)
  | [] => [(k, v)]
  | e :: l => if eqP k e.1 = true then (k, v) :: l else e :: putM k v l
def avZ : Value → AV
  | .agg cs => .agg (cs.toList.map cv)
  | v => cv v

def HoldsO (P : Program) (S : Nat → Prop) (w : World) (β : Nat → Value) (D : Nat → Prop) (t : Nat) : AO → Prop
  | .box cs => ∃ b us ty, β t = .pointer (some ⟨b, 0, none⟩) ∧ w.heap[b]? = some (.cells us ty (0, 0)) ∧ us.size = cs.length ∧
      ∀ (i : Nat) (c : AV) (u : Value), cs[i]? = some c → us[i]? = some u → u.oneCell' = true ∧ RV P S w β D u c
  | .arr e rows => ∃ inf us, P.info? e = some inf ∧ w.ownsRow 0 e inf.size (β t) rows.length us ∧ (∀ r, r ∈ rows → r.length = inf.size) ∧
      ∀ (i j : Nat) (r : List PV) (p : PV), rows[i]? = some r → r[j]? = some p → ∃ u, us[i * inf.size + j]? = some u ∧ u.oneCell' = true ∧ RPV S w u p
  | .map es => ∃ (b : Nat) (us : Array MapEntry) (c : Nat), β t = .map (some b) ∧ w.heap[b]? = some (.map us c) ∧ us.toList.length = es.length ∧
      ∀ (i : Nat) (e : PV × AV) (u : MapEntry), es[i]? = some e → us.toList[i]? = some u → u.key = keyV e.1 ∧ RV P S w β (fun _ => False) u.val e.2
  | .rws e cs => ∃ inf us, P.info? e = some inf ∧ inf.size = 1 ∧ w.ownsRow 0 e inf.size (β t) cs.length us ∧
      ∀ (i : Nat) (c : AV) (u : Value), cs[i]? = some c → us[i]? = some u → u.oneCell' = true ∧ RV P S w β D u c
  | .mpv es => ∃ (b : Nat) (us : Array MapEntry) (c : Nat), β t = .map (some b) ∧ w.heap[b]? = some (.map us c) ∧ MapKept.Stamped us c ∧ us.toList.length = es.length ∧
      ∀ (i : Nat) (e : PV × PV) (u : MapEntry), es[i]? = some e → us.toList[i]? = some u → u.key = keyV e.1 ∧ srt e.1 < 99 ∧ u.val.oneCell' = true ∧ RPV S w u.val e.2
  | .itr rem cur => ∃ (r m : Nat) (us : Array MapEntry) (c : Nat) (seen : Array Nat), β t = .pointer (some ⟨r, 0, none⟩) ∧ w.heap[r]? = some (.mapIter (some m) c seen c) ∧ S m ∧ w.heap[m]? = some (.map us c) ∧ MapKept.Stamped us c ∧
      (leftOf us seen).toList.length = rem.length ∧ (∀ (i : Nat) (e : PV × PV) (u : MapEntry), rem[i]? = some e → (leftOf us seen).toList[i]? = some u → u.key = keyV e.1 ∧ srt e.1 < 99 ∧ u.val.oneCell' = true ∧ RPV S w u.val e.2) ∧
      ∀ e, cur = some e → ∃ (u : MapEntry) (seen' : Array Nat), seen = seen'.push u.born ∧ u ∈ us.toList ∧ u.key = keyV e.1 ∧ srt e.1 < 99 ∧ u.val.oneCell' = true ∧ RPV S w u.val e.2

def dom {α : Type} (objs : Nat → Option α) (t : Nat) : Prop := ∃ o, objs t = some o
def live (β : Nat → Value) (objs : Nat → Option AO) (b : Nat) : Prop := ∃ t o, objs t = some o ∧ blk (β t) = some b
def okS (S0 : Nat → Prop) (n0 : Nat) (β : Nat → Value) (objs : Nat → Option AO) (w : World) (b : Nat) : Prop := (S0 b ∨ n0 ≤ b) ∧ b < w.heap.size ∧ ¬ live β objs b

/-- The objects lie in memory, each in a block of its own. -/
structure Heap (P : Program) (S : Nat → Prop) (w : World) (β : Nat → Value) (objs : Nat → Option AO) : Prop where
  holds : ∀ t o, objs t = some o → HoldsO P S w β (dom objs) t o
  inj : ∀ t t' b, dom objs t → dom objs t' → blk (β t) = some b → blk (β t') = some b → t = t'

/-- But for the blocks L, and new ones, the world is as it was. -/
structure Fram (L : Nat → Prop) (w w' : World) : Prop where
  os : w'.os = w.os
  tape : w'.tape = w.tape
  output : w'.output = w.output
  size : w.heap.size ≤ w'.heap.size
  block : ∀ b, b < w.heap.size → ¬ L b → w'.heap[b]? = w.heap[b]?

structure Rel (P : Program) (S0 : Nat → Prop) (L : Nat → Prop) (B0 : Nat → Value) (w0 : World) (N : Nat) (st : St) (a : Act) (w : World) (β : Nat → Value) : Prop where
  size : a.tmps.size = N
  defers : a.defers = []
  vars : ∀ s, RV P (okS S0 w0.heap.size β st.objs w) w β (dom st.objs) (a.tmps.getD s undef) (st.vars s)
  heap : Heap P (okS S0 w0.heap.size β st.objs w) w β st.objs
  old : ∀ t b, dom st.objs t → blk (β t) = some b → w0.heap.size ≤ b ∨ L b
  lim : N ≤ 998
  pin : ∀ t, t % 1000 = 999 → dom st.objs t → β t = B0 t
  fram : Fram L w0 w

/-! ### Results -/

/-- The cells of a result, by their places: part i, cell j: i + 1000 j. -/
def cellAt1 : AV → Nat → Option AV
  | .agg cs, j => cs[j]?
  | v, j => if j = 0 then some v else none
def cellAt : AV → Nat → Option AV
  | .tup vs, p => (vs[p % 1000]?).bind fun v => cellAt1 v (p / 1000)
  | v, p => if p % 1000 = 0 then cellAt1 v (p / 1000) else none

def mapCs (g : Nat → AV → AV) (j : Nat) : List AV → List AV
  | [] => []
  | c :: cs => g (1000 * j) c :: mapCs g (j + 1) cs
def map1 (g : Nat → AV → AV) : AV → AV
  | .agg cs => .agg (mapCs g 0 cs)
  | v => g 0 v
def mapVs (g : Nat → AV → AV) (i : Nat) : List AV → List AV
  | [] => []
  | v :: vs => map1 (fun p c => g (p + i) c) v :: mapVs g (i + 1) vs
def mapTop (g : Nat → AV → AV) : AV → AV
  | .tup vs => .tup (mapVs g 0 vs)
  | v => map1 g v

/-- Fresh slices take the tags d + 1000 p. -/
def tagC (d : Nat) (p : Nat) : AV → AV
  | .fr _ _ => .own (d + 1000 * p)
  | v => v
/-- In a contract a fresh slice's tag is its place. -/
def tagP (p : Nat) : AV → AV
  | .fr _ _ => .own p
  | v => v
def frO : Option AV → Option AO
  | some (.fr e rows) => some (.arr e rows)
  | _ => none

def frsCs (j : Nat) : List AV → List (Nat × AO)
  | [] => []
  | .fr e rows :: cs => (1000 * j, .arr e rows) :: frsCs (j + 1) cs
  | _ :: cs => frsCs (j + 1) cs
def frs1 : AV → List (Nat × AO)
  | .agg cs => frsCs 0 cs
  | .fr e rows => [(0, .arr e rows)]
  | _ => []
def frsVs (i : Nat) : List AV → List (Nat × AO)
  | [] => []
  | v :: vs => (frs1 v).map (fun x => (x.1 + i, x.2)) ++ frsVs (i + 1) vs
def frs : AV → List (Nat × AO)
  | .tup vs => frsVs 0 vs
  | v => frs1 v

/-- Nothing in it leads to memory that is not its own. -/
def flatP : PV → Bool
  | .int _ _ | .bool _ | .str _ | .nil | .val _ => true
  | .ro rows => rows.isEmpty
  | .mp _ | .mv _ | .pt _ => false
def flatRows (rows : List (List PV)) : Prop := ∀ r ∈ rows, ∀ p ∈ r, flatP p = true
def flatC : AV → Prop
  | .pv p => flatP p = true
  | .fr _ rows => flatRows rows
  | _ => False
def flatL : List AV → Prop
  | [] => True
  | c :: cs => flatC c ∧ flatL cs
def flat1 : AV → Prop
  | .agg cs => flatL cs
  | v => flatC v
def flatV : List AV → Prop
  | [] => True
  | c :: cs => flat1 c ∧ flatV cs
def flat : AV → Prop
  | .tup vs => flatV vs
  | v => flat1 v

/-! ### Contracts -/

def unionO (f g : Nat → Option AO) : Nat → Option AO := fun t => match f t with
  | some o => some o
  | none => g t

/-- Called with these arguments, over these objects, the function returns this, and leaves the objects so; all else is as it was. -/
def Con (P : Program) (f : FuncId) (hin : List (Nat × AO)) (args : List AV) (hout : List (Nat × AO)) (r : AV) : Prop :=
  ∀ (w : World) (S0 : Nat → Prop) (β : Nat → Value) (vals : List Value),
    (∀ b, S0 b → b < w.heap.size) →
    (∀ t b, dom (lookO hin) t → blk (β t) = some b → b < w.heap.size) →
    Heap P (okS S0 w.heap.size β (lookO hin) w) w β (lookO hin) →
    vals.length = args.length →
    (∀ (i : Nat) (v : Value) (x : AV), vals[i]? = some v → args[i]? = some x → RV P (okS S0 w.heap.size β (lookO hin) w) w β (dom (lookO hin)) v x) →
    Calls P f vals.toArray w fun e w' => ∃ v β', e = .returned v ∧ Fram (live β (lookO hin)) w w' ∧
      Heap P (okS S0 w.heap.size β' (unionO (lookO hout) fun t => frO (cellAt r t)) w') w' β' (unionO (lookO hout) fun t => frO (cellAt r t)) ∧
      (∀ t b, dom (unionO (lookO hout) fun t => frO (cellAt r t)) t → blk (β' t) = some b → w.heap.size ≤ b ∨ live β (lookO hin) b) ∧
      RV P (okS S0 w.heap.size β' (unionO (lookO hout) fun t => frO (cellAt r t)) w') w' β' (dom (unionO (lookO hout) fun t => frO (cellAt r t))) v (mapTop tagP r)

/-! ### Contracts of functions that write to a slice that is handed over -/

/-- A slice that is handed over: for good (its tag: 998), or to be written to (999). -/
def mkA : AV → AV
  | .fr _ _ => .own 998
  | .tup [.fr _ _] => .own 999
  | x => x
def mkO : List AV → List (Nat × AO)
  | [] => []
  | .fr e rows :: _ => [(998, .arr e rows)]
  | .tup [.fr e rows] :: _ => [(999, .arr e rows)]
  | _ :: l => mkO l
/-- The result, and the slice as it is written. -/
def outR : AV → AV
  | .clo _ [r, .fr _ _] => r
  | r => r
def outO : AV → List (Nat × AO)
  | .clo _ [_, .fr e rows] => [(999, .arr e rows)]
  | _ => []

def ConU (P : Program) (f : FuncId) (ys : List AV) (x : AV) : Prop :=
  ∀ (w : World) (S0 : Nat → Prop) (β : Nat → Value) (vals : List Value),
    (∀ b, S0 b → b < w.heap.size) →
    (∀ t b, dom (lookO (mkO ys)) t → blk (β t) = some b → b < w.heap.size) →
    Heap P (okS S0 w.heap.size β (lookO (mkO ys)) w) w β (lookO (mkO ys)) →
    vals.length = ys.length →
    (∀ (i : Nat) (v : Value) (x : AV), vals[i]? = some v → (ys.map mkA)[i]? = some x → RV P (okS S0 w.heap.size β (lookO (mkO ys)) w) w β (dom (lookO (mkO ys))) v x) →
    Calls P f vals.toArray w fun e w' => ∃ v β', e = .returned v ∧ Fram (live β (lookO (mkO ys))) w w' ∧
      Heap P (okS (fun b => S0 b ∨ live β (lookO (mkO ys)) b) w.heap.size β' (unionO (lookO (outO x)) fun t => frO (cellAt (outR x) t)) w') w' β' (unionO (lookO (outO x)) fun t => frO (cellAt (outR x) t)) ∧
      (∀ t b, dom (unionO (lookO (outO x)) fun t => frO (cellAt (outR x) t)) t → blk (β' t) = some b → w.heap.size ≤ b ∨ live β (lookO (mkO ys)) b) ∧
      (∀ t, dom (lookO (outO x)) t → dom (lookO (mkO ys)) t ∧ β' t = β t) ∧
      RV P (okS (fun b => S0 b ∨ live β (lookO (mkO ys)) b) w.heap.size β' (unionO (lookO (outO x)) fun t => frO (cellAt (outR x) t)) w') w' β' (dom (unionO (lookO (outO x)) fun t => frO (cellAt (outR x) t))) v (mapTop tagP (outR x))

/-! ### Objects handed over whole: trees (fr: a slice; bx: a box; mf: a map), and the blocks in which they lie -/

inductive HT (P : Program) (S : Nat → Prop) (w : World) : Value → AV → List Nat → Prop
  | leaf (v : Value) (y : AV) : RV P S w (fun _ => undef) (fun _ => False) v y → HT P S w v y []
  | fr (v : Value) (e : TypeId) (rows : List (List PV)) (inf : TypeInfo) (us : List Value) : P.info? e = some inf → w.ownsRow 0 e inf.size v rows.length us → (∀ r, r ∈ rows → r.length = inf.size) →
      (∀ (i j : Nat) (r : List PV) (p : PV), rows[i]? = some r → r[j]? = some p → ∃ u, us[i * inf.size + j]? = some u ∧ u.oneCell' = true ∧ RPV S w u p) → HT P S w v (.fr e rows) (blk v).toList
  | mf (b : Nat) (us : Array MapEntry) (c : Nat) (es : List (PV × PV)) : w.heap[b]? = some (.map us c) → MapKept.Stamped us c → us.toList.length = es.length →
      (∀ (i : Nat) (e : PV × PV) (u : MapEntry), es[i]? = some e → us.toList[i]? = some u → u.key = keyV e.1 ∧ srt e.1 < 99 ∧ u.val.oneCell' = true ∧ RPV S w u.val e.2) → HT P S w (.map (some b)) (.mf es) [b]
  | bx (b : Nat) (us : Array Value) (ty : TypeId) (cs : List AV) (bss : List (List Nat)) : w.heap[b]? = some (.cells us ty (0, 0)) → us.size = cs.length → bss.length = cs.length →
      (∀ (i : Nat) (u : Value), us[i]? = some u → u.oneCell' = true) →
      (∀ (i : Nat) (c : AV) (u : Value) (bs : List Nat), cs[i]? = some c → us[i]? = some u → bss[i]? = some bs → HT P S w u c bs) → HT P S w (.pointer (some ⟨b, 0, none⟩)) (.bx cs) (b :: bss.flatten)
  | agg (us : List Value) (cs : List AV) (bss : List (List Nat)) : us.length = cs.length → bss.length = cs.length →
      (∀ (i : Nat) (c : AV) (u : Value) (bs : List Nat), cs[i]? = some c → us[i]? = some u → bss[i]? = some bs → HT P S w u c bs) → HT P S w (.agg us.toArray) (.agg cs) bss.flatten
  | tup (us : List Value) (cs : List AV) (bss : List (List Nat)) : us.length = cs.length → bss.length = cs.length →
      (∀ (i : Nat) (c : AV) (u : Value) (bs : List Nat), cs[i]? = some c → us[i]? = some u → bss[i]? = some bs → HT P S w u c bs) → HT P S w (.tuple us.toArray) (.tup cs) bss.flatten

/-- A row of values, tree by tree. -/
def HTs (P : Program) (S : Nat → Prop) (w : World) (vs : List Value) (ys : List AV) (bss : List (List Nat)) : Prop :=
  vs.length = ys.length ∧ bss.length = ys.length ∧ ∀ (i : Nat) (y : AV) (v : Value) (bs : List Nat), ys[i]? = some y → vs[i]? = some v → bss[i]? = some bs → HT P S w v y bs

/-- An argument that is lent: it is handed back, as the contract tells. -/
def unT : AV → AV
  | .tup [y] => y
  | y => y
def isT : AV → Bool
  | .tup [_] => true
  | _ => false
def lent {α : Type} : List AV → List α → List α
  | y :: ys, v :: vs => if isT y = true then v :: lent ys vs else lent ys vs
  | _, _ => []
/-- What a contract tells: the result, and what is lent as it is then. -/
def retG : AV → AV
  | .clo _ (r :: _) => r
  | r => r
def outG : AV → List AV
  | .clo _ (_ :: os) => os
  | _ => []

def ConG (P : Program) (f : FuncId) (ys : List AV) (x : AV) : Prop :=
  ∀ (w : World) (S0 : Nat → Prop) (vals : List Value) (bss : List (List Nat)),
    (∀ b, S0 b → b < w.heap.size ∧ b ∉ bss.flatten) → bss.flatten.Nodup → HTs P S0 w vals (ys.map unT) bss →
    Calls P f vals.toArray w fun e w' => ∃ v bss', e = .returned v ∧ Fram (· ∈ bss.flatten) w w' ∧ bss'.flatten.Nodup ∧ (∀ b ∈ bss'.flatten, w.heap.size ≤ b ∨ b ∈ bss.flatten) ∧
      HTs P (fun b => (S0 b ∨ b ∈ bss.flatten ∨ w.heap.size ≤ b) ∧ b < w'.heap.size ∧ b ∉ bss'.flatten) w' (lent ys vals ++ [v]) (outG x ++ [retG x]) bss'

/-! ### Arguments: what the call's own objects read as -/

def unitB : AV → Bool
  | .agg [] => true
  | _ => false
def unitV : Value → Bool
  | .agg cs => cs.isEmpty
  | _ => false
/-- What an object reads as. -/
def reiO : Option AO → Option PV
  | some (.arr _ rows) => some (.ro rows)
  | some (.map es) => if es.all (fun e => unitB e.2) = true then some (.mp (es.map (·.1))) else none
  | some (.mpv es) => some (.mv es)
  | _ => none
def reiP (objs : Nat → Option AO) : AV → Option PV
  | .pv .nil => some (.ro [])
  | .pv p => some p
  | .own t => reiO (objs t)
  | .sub t e lo hi => (arrO (objs t)).bind fun r => if r.1 = e then some (.ro ((r.2.take hi).drop lo)) else none
  | _ => none
def reiPs (objs : Nat → Option AO) : List AV → Option (List PV)
  | [] => some []
  | c :: cs => (reiP objs c).bind fun p => (reiPs objs cs).map (p :: ·)
/-- An argument of one cell, a capture. -/
def rei1 (objs : Nat → Option AO) : AV → Option AV
  | .ptr t o => (boxO (objs t)).bind fun cs => (reiPs objs (cs.drop o)).map .rp
  | .rp cs => some (.rp cs)
  | .agg cs => (reiPs objs cs).map fun ps => .agg (ps.map .pv)
  | .clo f [] => some (.clo f [])
  | v => (reiP objs v).map .pv
def rei1s (objs : Nat → Option AO) : List AV → Option (List AV)
  | [] => some []
  | c :: cs => (rei1 objs c).bind fun p => (rei1s objs cs).map (p :: ·)
def rei (objs : Nat → Option AO) : AV → Option AV
  | .clo f caps => (rei1s objs caps).map (.clo f)
  | v => rei1 objs v
def reis (objs : Nat → Option AO) : List AV → Option (List AV)
  | [] => some []
  | c :: cs => (rei objs c).bind fun p => (reis objs cs).map (p :: ·)

/-- No object of the call's own is named. -/
def pureC : AV → Bool
  | .pv _ | .rp _ => true
  | _ => false
def pureCs : List AV → Bool
  | [] => true
  | c :: cs => pureC c && pureCs cs
def pure1 : AV → Bool
  | .agg cs => pureCs cs
  | .clo _ cs => pureCs cs
  | v => pureC v
def pures : List AV → Bool
  | [] => true
  | c :: cs => pure1 c && pures cs

/-! ### Trees read, and laid -/

def rdO : Option AO → Option AV
  | some (.arr e rows) => some (.fr e rows)
  | some (.mpv es) => some (.mf es)
  | _ => none
def rdW (f : AV → Option (AV × List Nat)) : List AV → Option (List AV × List Nat)
  | [] => some ([], [])
  | c :: cs => (f c).bind fun r => (rdW f cs).map fun q => (r.1 :: q.1, r.2 ++ q.2)
/-- The tree of a value, and the tags of its objects. -/
def rd : Nat → (Nat → Option AO) → AV → Option (AV × List Nat)
  | 0, _, _ => none
  | n + 1, objs, x => match x with
    | .own t => (rdO (objs t)).map fun y => (y, [t])
    | .ptr t 0 => (boxO (objs t)).bind fun cs => (rdW (rd n objs) cs).map fun r => (.bx r.1, t :: r.2)
    | .agg cs => (rdW (rd n objs) cs).map fun r => (.agg r.1, r.2)
    | .pv p => some (.pv p, [])
    | .rp cs => some (.rp cs, [])
    | .clo f [] => some (.clo f [], [])
    | _ => none
/-- Tags taken of a store: for what is lent the first store. -/
def tk : Bool → List Nat × List Nat → Option (Nat × List Nat × List Nat)
  | true, (p :: ps, us) => some (p, ps, us)
  | false, (ps, u :: us) => some (u, ps, us)
  | _, _ => none
def numW (f : AV → List Nat × List Nat → Option (AV × List (Nat × AO) × List Nat × List Nat)) : List AV → List Nat × List Nat → Option (List AV × List (Nat × AO) × List Nat × List Nat)
  | [], s => some ([], [], s)
  | c :: cs, s => (f c s).bind fun r => (numW f cs r.2.2).map fun q => (r.1 :: q.1, r.2.1 ++ q.2.1, q.2.2)
/-- A tree as a value over objects. -/
def num : Nat → Bool → AV → List Nat × List Nat → Option (AV × List (Nat × AO) × List Nat × List Nat)
  | 0, _, _, _ => none
  | n + 1, top, y, s => match y with
    | .fr e rows => (tk top s).map fun q => (.own q.1, [(q.1, .arr e rows)], q.2)
    | .mf es => (tk top s).map fun q => (.own q.1, [(q.1, .mpv es)], q.2)
    | .bx cs => (tk top s).bind fun q => (numW (num n false) cs q.2).map fun r => (.ptr q.1 0, (q.1, .box r.1) :: r.2.1, r.2.2)
    | .agg cs => (numW (num n top) cs s).map fun r => (.agg r.1, r.2)
    | .tup cs => (numW (num n top) cs s).map fun r => (.tup r.1, r.2)
    | .pv p => some (.pv p, [], s)
    | .rp cs => some (.rp cs, [], s)
    | .clo f caps => if pureCs caps = true then some (.clo f caps, [], s) else none
    | _ => none
/-- The tags of what is lent, not of what lies in it. -/
def topC : AV → List Nat
  | .own t => [t]
  | .ptr t 0 => [t]
  | _ => []
def tops : AV → List Nat
  | .agg cs => cs.flatMap topC
  | x => topC x
/-- Names of these tags are forgotten. -/
def wipeC (W : List Nat) : AV → AV
  | .own t => if W.contains t then .junk else .own t
  | .ptr t o => if W.contains t then .junk else .ptr t o
  | .eptr t e i o => if W.contains t then .junk else .eptr t e i o
  | .sub t e lo hi => if W.contains t then .junk else .sub t e lo hi
  | .pv p => .pv p
  | .rp cs => .rp cs
  | .clo f [] => .clo f []
  | _ => .junk
def wipe1 (W : List Nat) : AV → AV
  | .agg cs => .agg (cs.map (wipeC W))
  | v => wipeC W v
def wipe0 (W : List Nat) : AV → AV
  | .tup cs => .tup (cs.map (wipe1 W))
  | .clo f cs => .clo f (cs.map (wipe1 W))
  | .cnd g v => .cnd g (wipe0 W v)
  | v => wipe1 W v
def wipe (W : List Nat) (v : AV) : AV := if W.isEmpty = true then v else wipe0 W v
def wipeO0 (W : List Nat) : AO → AO
  | .box cs => .box (cs.map (wipeC W))
  | .rws e cs => .rws e (cs.map (wipeC W))
  | o => o
def wipeO (W : List Nat) (o : AO) : AO := if W.isEmpty = true then o else wipeO0 W o
def wipeV (W : List Nat) (f : Nat → AV) : Nat → AV := fun s => wipe W (f s)
def wipeM (T W : List Nat) (f : Nat → Option AO) : Nat → Option AO := fun t => if T.contains t then none else (f t).map (wipeO W)
/-- The arguments as the contract has them: kinds: 0 read, 1 taken, 2 lent. -/
def ysG (objs objs' : Nat → Option AO) (T : List Nat) : List Nat → List AV → Option (List AV)
  | [], [] => some []
  | k :: ks, x :: xs => (if k = 0 then rei objs' (wipe T x) else if k = 1 then (rd 5 objs x).map (·.1) else (rd 5 objs x).map fun r => .tup [r.1]).bind fun y => (ysG objs objs' T ks xs).map (y :: ·)
  | _, _ => none
def tagsG (objs : Nat → Option AO) : List Nat → List AV → List Nat
  | k :: ks, x :: xs => (if k = 0 then [] else ((rd 5 objs x).map (·.2)).getD []) ++ tagsG objs ks xs
  | _, _ => []
def lentG : List Nat → List AV → List AV
  | k :: ks, x :: xs => if 1 < k then x :: lentG ks xs else lentG ks xs
  | _, _ => []
def puresG (T : List Nat) : List Nat → List AV → Bool
  | k :: ks, x :: xs => (k != 0 || pure1 (wipe T x)) && puresG T ks xs
  | _, _ => true
def flatG : Nat → AV → Prop
  | 0, _ => False
  | n + 1, y => match y with
    | .fr _ rows => flatRows rows
    | .mf es => ∀ e ∈ es, flatP e.2 = true
    | .bx cs | .agg cs | .tup cs => ∀ c ∈ cs, flatG n c
    | .pv p => flatP p = true
    | .clo _ [] => True
    | _ => False
def frTags (d : Nat) (r : AV) : List (Nat × AO) := (frs r).map fun x => (d + 1000 * x.1, x.2)
/-! ### Steps -/

def splice {α : Type} (l : List α) (o : Nat) (ps : List α) : List α := l.take o ++ ps ++ l.drop (o + ps.length)

/-- What becomes of the other names of a slice that is appended to. -/
def killC (t : Nat) : AV → AV
  | .own s => if s = t then .junk else .own s
  | .eptr s e i o => if s = t then .junk else .eptr s e i o
  | .sub s e i o => if s = t then .junk else .sub s e i o
  | .pv p => .pv p
  | .ptr s o => .ptr s o
  | .rp cs => .rp cs
  | .clo f [] => .clo f []
  | _ => .junk
def killCs (t : Nat) : List AV → List AV
  | [] => []
  | c :: cs => killC t c :: killCs t cs
def kill (t : Nat) : AV → AV
  | .agg cs => .agg (killCs t cs)
  | .tup cs => .tup (killCs t cs)
  | .cnd g v => .cnd g (kill t v)
  | v => killC t v
def killO (t : Nat) : AO → AO
  | .box cs => .box (killCs t cs)
  | .rws e cs => .rws e (killCs t cs)
  | o => o

def killV (t : Nat) (f : Nat → AV) : Nat → AV := fun s => kill t (f s)
def killM (t : Nat) (f : Nat → Option AO) : Nat → Option AO := fun s => (f s).map (killO t)

/-- Operations that make an object: side condition, value, object; the object's tag is the slot. -/
def semF (k : AK) (d : Nat) (xs : List AV) (objs : Nat → Option AO) : Option (Prop × AV × AO) :=
  match k, xs with
  | .nilS e, _ => some (True, .own d, .arr e [])
  | .box, [x] => if ones (cellsOf x) then some (True, .ptr d 0, .box (cellsOf x)) else none
  | .alloc zs, _ => if zs.all (·.oneCell') then some (True, .ptr d 0, .box (zs.map cv)) else none
  | .bsl e sz, xs => (rowsOf xs).map fun rows => (∀ r ∈ rows, r.length = sz, .own d, .arr e rows)
  | .app e sz bytes, [.pv .nil, x] => (rowsIn objs x).map fun rows => (rows.length * bytes ≤ 140737488355328 ∧ rows.length ≤ maxLen ∧ (∀ r ∈ rows, r.length = sz), .own d, .arr e rows)
  | _, _ => none

/-- Operations that write to an object: side condition, the object's tag, and the object anew. -/
def semM (k : AK) (xs : List AV) (objs : Nat → Option AO) : Option (Prop × Nat × AO) :=
  match k, xs with
  | .store none, [.ptr t o, v] => (boxO (objs t)).bind fun cs => if oneAV v ∧ o < cs.length then some (True, t, .box (cs.set o v)) else none
  | .store (some n), [.ptr t o, .agg vs] => (boxO (objs t)).bind fun cs => if ones vs ∧ vs.length = n ∧ o + n ≤ cs.length then some (True, t, .box (splice cs o vs)) else none
  | .store none, [.eptr t e i o, .pv p] => (arrO (objs t)).bind fun r => if r.1 = e ∧ o < (rowAt r.2 i).length ∧ oneAV (.pv p) then
      some (0 ≤ i ∧ i < r.2.length, t, .arr e (r.2.set i.toNat ((rowAt r.2 i).set o p))) else none
  | .store (some n), [.eptr t e i o, .agg vs] => (arrO (objs t)).bind fun r => (pvsOf vs).bind fun ps => if r.1 = e ∧ ones vs ∧ ps.length = n ∧ o + n ≤ (rowAt r.2 i).length then
      some (0 ≤ i ∧ i < r.2.length, t, .arr e (r.2.set i.toNat (splice (rowAt r.2 i) o ps))) else none
  | .app e sz bytes, [.own t, x] => (arrO (objs t)).bind fun r => (rowsIn objs x).bind fun more => if r.1 = e ∧ t % 1000 ≠ 999 then
      some ((r.2.length + more.length) * bytes ≤ 140737488355328 ∧ r.2.length + more.length ≤ maxLen ∧ (∀ r ∈ more, r.length = sz), t, .arr e (r.2 ++ more)) else none
  | _, _ => none

/-- The reckoning goes on with what an option holds. -/
def withO {α : Type} (o : Option α) (K : α → Prop) : Prop :=
  match o with
  | some x => K x
  | none => False

def apick2 (φ ψ : Prop) (c : Bool) : AV → AV → Option (Prop × AV)
  | .pv (.bool x), .pv (.bool y) => some ((c = true → φ) ∧ (c = false → ψ), .pv (.bool (cond c x y)))
  | .pv (.bool x), _ => some (c = true ∧ φ, .pv (.bool x))
  | _, .pv (.bool y) => some (c = false ∧ ψ, .pv (.bool y))
  | _, _ => none
def boolOf : AV → Option Bool
  | .pv (.bool c) => some c
  | _ => none
def apick : List AV → Option (Prop × AV)
  | [c, a, b] => (boolOf (strip c)).bind fun g => (apick2 (asks a) (asks b) g (strip a) (strip b)).map fun r => (asks c ∧ r.1, r.2)
  | _ => none

def addL (os : List (Nat × AO)) (objs : Nat → Option AO) : Nat → Option AO := fun t => match lookO os t with
  | some o => some o
  | none => objs t

/-- What an operation does to the state. -/
inductive Eff where
  | put (v : AV)
  | new (v : AV) (os : List (Nat × AO))
  | upd (t : Nat) (o : AO)
  | app (t : Nat) (o : AO)

def Eff.on (d : Option Nat) : Eff → St → St
  | .put v, st => ⟨Ab.put d v st.vars, st.objs⟩
  | .new v os, st => ⟨Ab.put d v st.vars, addL os st.objs⟩
  | .upd t o, st => ⟨Ab.put d .junk st.vars, addO t o st.objs⟩
  | .app t o, st => ⟨Ab.put d (.own t) (killV t st.vars), addO t o (killM t st.objs)⟩

def isOwn : List AV → Bool
  | .own _ :: _ => true
  | _ => false


def tupOK : AV → Bool
  | .tup vs => decide (vs.length ≤ 1000)
  | _ => true
/-- What a result may hold. -/
def resC : AV → Bool
  | .pv _ | .rp _ | .fr _ _ => true
  | _ => false
def resCs : List AV → Bool
  | [] => true
  | c :: cs => resC c && resCs cs
def res1 : AV → Bool
  | .agg cs => resCs cs
  | v => resC v
def resVs : List AV → Bool
  | [] => true
  | c :: cs => res1 c && resVs cs
def resOK : AV → Bool
  | .tup vs => decide (vs.length ≤ 900) && resVs vs
  | v => res1 v

/-- Does a result bring boxes, or maps? -/
def trC : AV → Bool
  | .bx _ | .mf _ => true
  | .agg cs => cs.any fun c => match c with | .bx _ | .mf _ => true | _ => false
  | _ => false
def trR : AV → Bool
  | .tup vs => vs.any trC
  | v => trC v
def pool8 (d : Nat) : List Nat := [d, d + 1000, d + 2000, d + 3000, d + 4000, d + 5000, d + 6000, d + 7000]
def flatR (r : AV) : Prop := if trR r = true then flatG 5 r else flat r
def newO (d : Nat) (r : AV) : List (Nat × AO) := if trR r = true then (((num 5 false r ([], pool8 d)).map (·.2.1)).getD []) else frTags d r
def newV (d : Nat) (r : AV) : AV := if trR r = true then (((num 5 false r ([], pool8 d)).map (·.1)).getD .junk) else mapTop (tagC d) r
def resR (d : Nat) (r : AV) : Bool := if trR r = true then (num 5 false r ([], pool8 d)).isSome else resOK r
/-- What a plain call's contract says; a result may bring boxes, and maps. -/
def ConR (P : Program) (f : FuncId) (ys : List AV) (r : AV) : Prop := (trR r = true → ConG P f ys (.clo 0 [r])) ∧ (trR r = false → Con P f [] ys [] r)
/-- What functions are known to do: by number and arguments, a condition and a result. -/
abbrev Tab := FuncId → List AV → Option (Prop × AV)
def TabOK (P : Program) (Γ : Tab) : Prop := ∀ f ys φ r, Γ f ys = some (φ, r) → φ → (f < 1000000 ∧ Con P f [] ys [] r) ∨ (P.funcs.size ≤ 1000000 ∧ 1000000 ≤ f ∧ f < 2000000 ∧ (ys = [.junk] ∨ ConU P (f - 1000000) ys r)) ∨ (P.funcs.size ≤ 1000000 ∧ 2000000 ≤ f ∧ f < 3000000 ∧ (ys = [.junk] ∨ ConG P (f - 2000000) ys r)) ∨ (P.funcs.size ≤ 1000000 ∧ 3000000 ≤ f ∧ ConG P (f - 3000000) ys (.clo 0 [r]))
/-- What a plain call is known to do: a result that brings boxes, or maps, stands under a number of its own. -/
def gtO : Option (Prop × AV) → Option (Prop × AV) → Option (Prop × AV)
  | some x, _ => some (x.1 ∧ trR x.2 = false, x.2)
  | none, y => y.map fun x => (x.1 ∧ trR x.2 = true, x.2)
def gt (Γ : Tab) (f : FuncId) (ys : List AV) : Option (Prop × AV) := gtO (Γ f ys) (Γ (f + 3000000) ys)
theorem no3 {n f : Nat} (h : 3000000 ≤ f) (hn : n ≤ 1000000) : ¬ f < n := by omega
theorem TabOK.con {P : Program} {Γ : Tab} (h : TabOK P Γ) {f : FuncId} (hf : f < P.funcs.size) {ys : List AV} {φ : Prop} {r : AV} (hr : gt Γ f ys = some (φ, r)) (hφ : φ) : ConR P f ys r := by
  unfold gt at hr
  cases hg : Γ f ys with
  | some x =>
    rw [hg] at hr
    have hr : some (x.1 ∧ trR x.2 = false, x.2) = some (φ, r) := hr
    simp only [Option.some.injEq, Prod.mk.injEq] at hr
    obtain ⟨rfl, rfl⟩ := hr
    refine ⟨fun e => absurd (hφ.2.symm.trans e) Bool.false_ne_true, fun _ => ?_⟩
    rcases h f ys x.1 x.2 hg hφ.1 with ⟨_, h⟩ | ⟨h, h2, _⟩ | ⟨h, h2, _⟩ | ⟨h, h2, _⟩
    · exact h
    · exact absurd hf (Nat.not_lt.2 (Nat.le_trans h h2))
    · exact absurd hf (Nat.not_lt.2 (Nat.le_trans h (Nat.le_trans (by decide) h2)))
    · exact absurd hf (no3 h2 h)
  | none =>
    rw [hg] at hr
    obtain ⟨x, hx, hr⟩ := Option.map_eq_some_iff.1 (show (Γ (f + 3000000) ys).map (fun x => (x.1 ∧ trR x.2 = true, x.2)) = some (φ, r) from hr)
    simp only [Prod.mk.injEq] at hr
    obtain ⟨rfl, rfl⟩ := hr
    refine ⟨fun _ => ?_, fun e => absurd (e.symm.trans hφ.2) Bool.false_ne_true⟩
    rcases h (f + 3000000) ys x.1 x.2 hx hφ.1 with ⟨h, _⟩ | ⟨_, _, h, _⟩ | ⟨_, _, h, _⟩ | ⟨_, _, h⟩
    · exact absurd h (Nat.not_lt.2 (Nat.le_trans (by decide) (Nat.le_add_left 3000000 f)))
    · exact absurd h (Nat.not_lt.2 (Nat.le_trans (by decide) (Nat.le_add_left 3000000 f)))
    · exact absurd h (Nat.not_lt.2 (Nat.le_add_left 3000000 f))
    · rw [show f + 3000000 - 3000000 = f from Nat.add_sub_cancel _ _] at h; exact h

def semCall (P : Program) (Γ : Tab) (d : Option Nat) (f : FuncId) (xs : List AV) (objs : Nat → Option AO) (C : Eff → Prop) : Prop :=
  withO d fun d => asksL xs ∧ withO (reis objs (xs.map strip)) fun ys =>
    withO (gt Γ f ys) fun x => x.1 ∧ (pures (xs.map strip) = true ∨ flatR x.2) ∧ (∀ y ∈ newO d x.2, objs y.1 = none) ∧ resR d x.2 = true ∧ C (.new (newV d x.2) (newO d x.2))

/-- One operation that is not guarded. -/
def semK (P : Program) (Γ : Tab) (d : Option Nat) (k : AK) (xs : List AV) (objs : Nat → Option AO) (C : Eff → Prop) : Prop :=
  match k with
  | .mov => withO xs.head? fun x => xs.length = 1 ∧ C (.put x)
  | .pick => withO (apick xs) fun x => x.1 ∧ C (.put x.2)
  | .nilS _ | .box | .alloc _ | .bsl _ _ => withO d fun d => asksL xs ∧ withO (semF k d (xs.map strip) objs) fun x => x.1 ∧ objs d = none ∧ C (.new x.2.1 [(d, x.2.2)])
  | .store _ => asksL xs ∧ withO (semM k (xs.map strip) objs) fun x => x.1 ∧ C (.upd x.2.1 x.2.2)
  | .app _ _ _ => asksL xs ∧ if isOwn (xs.map strip) then withO (semM k (xs.map strip) objs) fun x => x.1 ∧ C (.app x.2.1 x.2.2)
      else withO d fun d => withO (semF k d (xs.map strip) objs) fun x => x.1 ∧ objs d = none ∧ C (.new x.2.1 [(d, x.2.2)])
  | .call f => semCall P Γ d f xs objs C
  | _ => asksL xs ∧ withO (semQ k (xs.map strip) objs) fun x => x.1 ∧ C (.put x.2)

/-- A guarded call of a function whose result makes no slice. -/
def semGc (Γ : Tab) (c : Bool) (f : FuncId) (xs : List AV) (objs : Nat → Option AO) (C : Eff → Prop) : Prop :=
  withO (reis objs (xs.map strip)) fun ys => withO (gt Γ f ys) fun x => (c = true → asksL xs ∧ x.1) ∧ flat x.2 ∧ frs x.2 = [] ∧ resOK x.2 = true ∧ C (.put (.cnd c x.2))

/-- A result as it would be read. -/
def unfrC : AV → AV
  | .fr _ rows => .pv (.ro rows)
  | v => v
def unfr1 : AV → AV
  | .agg cs => .agg (cs.map unfrC)
  | v => unfrC v
def unfr : AV → AV
  | .tup vs => .tup (vs.map unfr1)
  | v => unfr1 v
/-- A row that is not made, as its elements would be. -/
def voidC : Option (List (List PV)) → AV
  | some rows => .cnd false (.pv (.ro rows))
  | none => .junk
def voidB (xs : List AV) : AV := voidC (rowsOf (xs.map strip))
/-- A guarded operation: one that reads alone is reckoned in any case; its value counts where the guard holds. -/
def semG (P : Program) (Γ : Tab) (c : Bool) (d : Option Nat) (k : AK) (xs : List AV) (objs : Nat → Option AO) (C : Eff → Prop) : Prop :=
  match k with
  | .mov => withO xs.head? fun x => xs.length = 1 ∧ C (.put (.cnd c x))
  | .pick => withO (apick xs) fun x => (c = true → x.1) ∧ C (.put (.cnd c x.2))
  | .bsl _ _ => (c = true → semK P Γ d k xs objs C) ∧ (c = false → C (.put (voidB xs)))
  | .nilS _ | .box | .alloc _ | .store _ | .app _ _ _ => (c = true → semK P Γ d k xs objs C) ∧ (c = false → C (.put .junk))
  | .call f => withO (reis objs (xs.map strip)) fun ys => withO (gt Γ f ys) fun x => if (!trR x.2 && (frs x.2).isEmpty) = true then (c = true → asksL xs ∧ x.1) ∧ flat x.2 ∧ frs x.2 = [] ∧ resOK x.2 = true ∧ C (.put (.cnd c x.2)) else (c = true → semK P Γ d k xs objs C) ∧ (c = false → C (.put (.cnd false (unfr x.2))))
  | _ => withO (semQ k (xs.map strip) objs) fun x => (c = true → asksL xs ∧ x.1) ∧ C (.put (.cnd c x.2))

/-- The guard's Bool. -/
def condB : Bool → Option Bool → Option Bool
  | false, _ => some false
  | true, o => o
def guardB : AV → Bool → Option Bool
  | .pv (.bool b), want => some (if want then b else !b)
  | .cnd c v, want => condB c (guardB v want)
  | _, _ => none

/-- No tag of these slots is named. -/
def noT (un : List Nat) (t : Nat) : Prop := un.contains (t % 1000) = false
def noMC (un : List Nat) : AV → Prop
  | .own t | .ptr t _ | .eptr t _ _ _ | .sub t _ _ _ => noT un t
  | _ => True
def noMCs (un : List Nat) : List AV → Prop
  | [] => True
  | c :: cs => noMC un c ∧ noMCs un cs
def noMP (un : List Nat) (objs : Nat → Option AO) : AV → Prop
  | .ptr t _ => noT un t ∧ noMCs un ((boxO (objs t)).getD [])
  | .agg cs => noMCs un cs
  | v => noMC un v
def noMPs (un : List Nat) (objs : Nat → Option AO) : List AV → Prop
  | [] => True
  | c :: cs => noMP un objs c ∧ noMPs un objs cs
def noM (un : List Nat) (objs : Nat → Option AO) : AV → Prop
  | .clo _ cs => noMPs un objs cs
  | v => noMP un objs v
def noMs (un : List Nat) (objs : Nat → Option AO) : List AV → Prop
  | [] => True
  | c :: cs => noM un objs c ∧ noMs un objs cs

def tgOK : Option Nat → Eff → Prop
  | none, _ => True
  | some s, .upd t _ => t = s
  | some _, _ => False

/-- What is appended to is not among what must not be named where something is looked at (these stand in the row as 1000 more). -/
def appOK (un : List Nat) : Eff → Prop
  | .app t _ => un.contains (t % 1000 + 1000) = false
  | _ => True
def tgU (un : List Nat) (tg : Option Nat) (e : Eff) : Prop := tgOK tg e ∧ appOK un e

def semI (P : Program) (Γ : Tab) (i : AI) (vars : Nat → AV) (objs : Nat → Option AO) (C : Eff → Prop) : Prop :=
  match i.g with
  | none => semK P Γ i.d i.k (i.xs.map (ev vars)) objs C
  | some (s, want) => withO (guardB (vars s) want) fun c => semG P Γ c i.d i.k (i.xs.map (ev vars)) objs C

def stepI (P : Program) (Γ : Tab) (i : AI) (K : St → Prop) (st : St) : Prop :=
  (i.un = [] ∨ noMs i.un st.objs ((i.xs.map (ev st.vars)).map strip)) ∧ semI P Γ i st.vars st.objs fun e => tgU i.un i.tg e ∧ K (e.on i.d st)


/-! ### Operations of a region whose order is the text's -/

def isFn (P : Program) (f : FuncId) : Bool :=
  match P.funcs[f]? with
  | some fn => fn.name != "runtime.NumGoroutine" && fn.body.isSome
  | none => false

/-- A function value's function, and what it holds. -/
def cloOf : List AV → Option (FuncId × List AV)
  | .clo f caps :: args => some (f, args ++ caps)
  | .pv (.val v) :: args => (funcV v).map fun f => (f, args)
  | _ => none
where funcV : Value → Option FuncId
  | .func (.func f) ⟨[]⟩ ⟨[]⟩ => some f
  | _ => none

/-- Does it read what is not known? -/
def hasJ : List AV → Bool
  | [] => false
  | .junk :: _ => true
  | .pv (.val _) :: _ => true
  | .rp [] :: _ => true
  | _ :: l => hasJ l
def isF : Option Bool → Bool
  | some false => true
  | _ => false
/-- What is reckoned of what reads nothing unknown (A), or else hangs on the guard. -/
def pickJ : Bool → Bool → Prop → Prop → Prop
  | false, _, A, _ => A
  | true, f, A, B => if f = true then B else A
def stepCg (P : Program) (Γ : Tab) (d : Option Nat) (xs : List AV) (s : Nat) (w : Bool) (K : St → Prop) (st : St) : Prop :=
  withO (guardB (st.vars s) w) fun c => withO (cloOf (xs.map strip)) fun x => isFn P x.1 = true ∧ semGc Γ c x.1 x.2 st.objs fun e => (c = true → asksL xs) ∧ K (e.on d st)
/-- A slice of the call's own is written no more: it may be read from now on as any other. -/
def sh (t : Nat) (e0 : TypeId) (rows : List (List PV)) : AV → AV
  | .own s => if s = t then .pv (.ro rows) else .own s
  | .sub s e lo hi => if s = t then (if e = e0 then .pv (.ro ((rows.take hi).drop lo)) else .junk) else .sub s e lo hi
  | v => kill t v
def shV (t : Nat) (e0 : TypeId) (rows : List (List PV)) (f : Nat → AV) : Nat → AV := fun s => sh t e0 rows (f s)
def shM (t : Nat) (f : Nat → Option AO) : Nat → Option AO := fun s => if s = t then none else (f s).map (killO t)
/-- As 'sh', in cells too. -/
def shC (t : Nat) (e0 : TypeId) (rows : List (List PV)) : AV → AV
  | .own s => if s = t then .pv (.ro rows) else .own s
  | .sub s e lo hi => if s = t then (if e = e0 then .pv (.ro ((rows.take hi).drop lo)) else .junk) else .sub s e lo hi
  | c => killC t c
def shCs (t : Nat) (e0 : TypeId) (rows : List (List PV)) : List AV → List AV
  | [] => []
  | c :: cs => shC t e0 rows c :: shCs t e0 rows cs
def sh2 (t : Nat) (e0 : TypeId) (rows : List (List PV)) : AV → AV
  | .agg cs => .agg (shCs t e0 rows cs)
  | v => sh t e0 rows v
def shO (t : Nat) (e0 : TypeId) (rows : List (List PV)) : AO → AO
  | .box cs => .box (shCs t e0 rows cs)
  | o => killO t o
def shW (t : Nat) (e0 : TypeId) (rows : List (List PV)) (f : Nat → AV) : Nat → AV := fun s => sh2 t e0 rows (f s)
def shMb (t : Nat) (e0 : TypeId) (rows : List (List PV)) (f : Nat → Option AO) : Nat → Option AO := fun s => if s = t then none else (f s).map (shO t e0 rows)
def share1 (st : St) : AV → St
  | .own t => match arrO (st.objs t) with
    | some r => ⟨shW t r.1 r.2 st.vars, shMb t r.1 r.2 st.objs⟩
    | none => st
  | _ => st
def shareAll (st : St) : List AV → St
  | [] => st
  | v :: l => shareAll (share1 st v) l

/-- Nil slices may be read as empty ones. -/
def nilP : PV → PV
  | .nil => .ro []
  | p => p
def nilC : AV → AV
  | .pv p => .pv (nilP p)
  | c => c
def nilCs : List AV → List AV
  | [] => []
  | c :: cs => nilC c :: nilCs cs
def nilV : AV → AV
  | .agg cs => .agg (nilCs cs)
  | v => nilC v
def nilO : AO → AO
  | .box cs => .box (nilCs cs)
  | o => o
def nilRo (st : St) : St := ⟨fun s => nilV (st.vars s), fun s => (st.objs s).map nilO⟩
def sharT1 (t : Nat) (st : St) : St := if t = 999996 then nilRo st else share1 st (.own t)
/-- Slices of these tags are shared. -/
def shareT : List Nat → St → St
  | [], st => st
  | t :: ts, st => shareT ts (sharT1 t st)

/-- Does a result tell of memory that is read alone? -/
def roC : AV → Bool
  | .pv (.ro _) | .pv (.mp _) | .pv (.mv _) | .pv (.pt _) | .rp _ => true
  | _ => false
def roCs : List AV → Bool
  | [] => false
  | c :: cs => roC c || roCs cs
def ro1 : AV → Bool
  | .agg cs => roCs cs
  | v => roC v
def roVs : List AV → Bool
  | [] => false
  | c :: cs => ro1 c || roVs cs
def roR : AV → Bool
  | .tup vs => roVs vs
  | v => ro1 v

/-- A slice of the call's own is forgotten. -/
def dropT (t : Nat) (st : St) : St := match arrO (st.objs t) with
  | some _ => ⟨killV t st.vars, shM t st.objs⟩
  | none => st

/-- A call in a state of which what is handed over has been shared. -/
def stepS (P : Program) (Γ : Tab) (d : Option Nat) (f : FuncId) (xs : List Operand) (K : St → Prop) (st : St) : Prop :=
  semCall P Γ d f (xs.map (ev st.vars)) st.objs fun e => K (e.on d st)
def stepF (P : Program) (Γ : Tab) (i : AI) (f : FuncId) (K : St → Prop) (st : St) : Prop :=
  withO (reis st.objs ((i.xs.map (ev st.vars)).map strip)) fun ys => withO (gt Γ f ys) fun x =>
    if (roR x.2 && !pures ((i.xs.map (ev st.vars)).map strip)) = true then stepS P Γ i.d f i.xs K (shareAll st ((i.xs.map (ev st.vars)).map strip)) else stepI P Γ i K st

/-- Does a result tell of memory? -/
def frC : AV → Bool
  | .pv (.ro _) | .pv (.mp _) | .pv (.mv _) | .pv (.pt _) | .rp _ | .fr _ _ | .bx _ | .mf _ => true
  | _ => false
def frCs : List AV → Bool
  | [] => false
  | c :: cs => frC c || frCs cs
def fr1 : AV → Bool
  | .agg cs => frCs cs
  | v => frC v
def frVs : List AV → Bool
  | [] => false
  | c :: cs => fr1 c || frVs cs
def frR : AV → Bool
  | .tup vs => frVs vs
  | v => fr1 v

/-! A call of a function that writes to a slice that is handed over -/

/-- Names nothing of this tag. -/
def offC (t : Nat) : AV → Prop
  | .own s | .ptr s _ | .eptr s _ _ _ | .sub s _ _ _ => s ≠ t
  | .pv _ | .rp _ | .junk => True
  | .clo _ [] => True
  | _ => False
def offCs (t : Nat) : List AV → Prop
  | [] => True
  | c :: cs => offC t c ∧ offCs t cs
def offV (t : Nat) : AV → Prop
  | .agg cs | .clo _ cs => offCs t cs
  | v => offC t v
def offVs (t p : Nat) : List AV → Prop
  | [] => True
  | v :: vs => (match p with | 0 => offVs0 vs | p + 1 => offV t v ∧ offVs t p vs)
where offVs0 : List AV → Prop
  | [] => True
  | v :: vs => offV t v ∧ offVs0 vs

/-- The slice that is handed over. -/
def handed (objs : Nat → Option AO) (k : Nat) : AV → Option (Nat × TypeId × List (List PV))
  | .own t => (arrO (objs t)).map fun r => (t, r.1, r.2)
  | .sub t e 0 hi => if k = 998 then (arrO (objs t)).bind fun r => if r.1 = e then some (t, e, r.2.take hi) else none else none
  | _ => none
def markA (k : Nat) (e : TypeId) (rows : List (List PV)) : AV := if k = 998 then .fr e rows else .tup [.fr e rows]
def reisU (objs : Nat → Option AO) (m : AV) : Nat → List AV → Option (List AV)
  | _, [] => some []
  | 0, _ :: vs => (reis objs vs).map (m :: ·)
  | p + 1, v :: vs => (rei objs v).bind fun y => (reisU objs m p vs).map (y :: ·)
def puresU : Nat → List AV → Bool
  | _, [] => true
  | 0, _ :: vs => pures vs
  | p + 1, v :: vs => pure1 v && puresU p vs
def flatO : List (Nat × AO) → Prop
  | [] => True
  | (_, .arr _ rows) :: l => flatRows rows ∧ flatO l
  | _ :: l => flatO l
/-- What becomes of the memory. -/
def objsU (t : Nat) (x : AV) (objs : Nat → Option AO) : Nat → Option AO :=
  match outO x with
  | (_, o) :: _ => addO t o objs
  | [] => shM t objs
def varsU (t : Nat) (x : AV) (vars : Nat → AV) : Nat → AV :=
  match outO x with
  | _ :: _ => vars
  | [] => killV t vars
def isPtr : AV → Option (Nat × Nat)
  | .ptr p k => if k = 998 ∨ k = 999 ∨ k = 997 ∨ k = 996 then some (p, k) else none
  | _ => none
/-- Is a function known as one that writes to what is handed over? Which argument, and how. -/
def flagU (Γ : Tab) (f : FuncId) : Option (Nat × Nat) := (Γ (f + 1000000) [.junk]).bind fun x => isPtr x.2
def stepU (P : Program) (Γ : Tab) (d : Option Nat) (f : FuncId) (xs : List AV) (p k : Nat) (K : St → Prop) (st : St) : Prop :=
  withO d fun d => asksL xs ∧ withO ((xs.map strip)[p]?) fun X => withO (handed st.objs k X) fun T =>
    offVs T.1 p (xs.map strip) ∧ withO (reisU (shM T.1 st.objs) (markA k T.2.1 T.2.2) p (xs.map strip)) fun ys => withO (Γ (f + 1000000) ys) fun x =>
      x.1 ∧ (puresU p (xs.map strip) = true ∨ (flat (outR x.2) ∧ flatO (outO x.2))) ∧ (∀ y ∈ frTags d (outR x.2), st.objs y.1 = none) ∧ resOK (outR x.2) = true ∧
        K ⟨put (some d) (mapTop (tagC d) (outR x.2)) (varsU T.1 x.2 st.vars), addL (frTags d (outR x.2)) (objsU T.1 x.2 st.objs)⟩

/-- A call of which one argument is the nil slice, known as that (997). -/
def reisN (objs : Nat → Option AO) : Nat → List AV → Option (List AV)
  | _, [] => some []
  | 0, .pv .nil :: vs => (reis objs vs).map (.pv .nil :: ·)
  | 0, _ :: _ => none
  | p + 1, v :: vs => (rei objs v).bind fun y => (reisN objs p vs).map (y :: ·)
def stepN (P : Program) (Γ : Tab) (d : Option Nat) (f : FuncId) (xs : List AV) (p : Nat) (K : St → Prop) (st : St) : Prop :=
  withO d fun d => asksL xs ∧ withO (reisN st.objs p (xs.map strip)) fun ys => withO (Γ (f + 1000000) ys) fun x =>
    x.1 ∧ (pures (xs.map strip) = true ∨ flat x.2) ∧ (∀ y ∈ frTags d x.2, st.objs y.1 = none) ∧ resOK x.2 = true ∧ K ⟨put (some d) (mapTop (tagC d) x.2) st.vars, addL (frTags d x.2) st.objs⟩
/-! A call of a function that takes objects whole, or borrows them (996) -/

def ksOf : AV → Option (List Nat)
  | .rp l => some (l.map fun p => match p with | .int _ n => n.toNat | _ => 0)
  | _ => none
def flagG (Γ : Tab) (f : FuncId) : Option (List Nat) := (Γ (f + 2000000) [.junk]).bind fun x => ksOf x.2
/-- The tags for what comes back. -/
def poolG (d : Nat) (T W : List Nat) : List Nat := W.filter (fun t => t % 1000 != 999) ++ [d, d + 1000, d + 2000, d + 3000, d + 4000, d + 5000, d + 6000, d + 7000].filter fun t => !T.contains t
def stepG3 (Γ : Tab) (d f : Nat) (ks : List Nat) (xs : List AV) (T Q W : List Nat) (K : St → Prop) (st : St) (ys : List AV) : Prop :=
  withO (Γ (f + 2000000) ys) fun x => x.1 ∧ (puresG T ks xs = true ∨ ∀ y ∈ outG x.2 ++ [retG x.2], flatG 5 y) ∧
    withO (numW (num 5 true) (outG x.2) (Q, poolG d T W)) fun o => o.1 = lentG ks xs ∧ withO (num 5 false (retG x.2) o.2.2) fun r =>
      (∀ p ∈ o.2.1 ++ r.2.1, T.contains p.1 = true ∨ st.objs p.1 = none) ∧ K ⟨put (some d) r.1 (wipeV W st.vars), addL (o.2.1 ++ r.2.1) (wipeM T W st.objs)⟩
def stepG2 (Γ : Tab) (d f : Nat) (ks : List Nat) (xs : List AV) (T Q W : List Nat) (K : St → Prop) (st : St) : Prop :=
  Q.Nodup ∧ withO (ysG st.objs (wipeM T T st.objs) T ks xs) fun ys => stepG3 Γ d f ks xs T Q W K st ys
def stepG1 (Γ : Tab) (d f : Nat) (ks : List Nat) (xs : List AV) (T Q : List Nat) (K : St → Prop) (st : St) : Prop :=
  T.Nodup ∧ (∀ t ∈ Q, t ∈ T) ∧ stepG2 Γ d f ks xs T Q (T.filter fun t => !Q.contains t) K st
def stepG (Γ : Tab) (d : Option Nat) (f : FuncId) (xs : List AV) (ks : Option (List Nat)) (K : St → Prop) (st : St) : Prop :=
  withO d fun d => asksL xs ∧ withO ks fun ks => stepG1 Γ d f ks (xs.map strip) (tagsG st.objs ks (xs.map strip)) ((lentG ks (xs.map strip)).flatMap tops) K st
/-- A guarded call: one whose result tells of memory, or that takes objects whole, is reckoned where its guard is known. -/
def stepHF (P : Program) (Γ : Tab) (i : AI) (f : FuncId) (s : Nat) (w : Bool) (o : Option (Nat × Nat)) (K : St → Prop) (st : St) : Prop :=
  match o with
  | some (_, k) => if k = 996 then withO (guardB (st.vars s) w) fun c => if c = true then stepG Γ i.d f (i.xs.map (ev st.vars)) (flagG Γ f) K st else K ((Eff.put (.cnd false .junk)).on i.d st) else False
  | none => pickJ (hasJ ((i.xs.map (ev st.vars)).map strip)) (isF (guardB (st.vars s) w)) (withO (guardB (st.vars s) w) fun c => withO (reis st.objs ((i.xs.map (ev st.vars)).map strip)) fun ys => withO (gt Γ f ys) fun x =>
      if frR x.2 = true then (if c = true then stepF P Γ ⟨i.d, i.k, i.xs, none, [], none⟩ f K st else K ((Eff.put (.cnd false .junk)).on i.d st)) else stepI P Γ i K st) (K ((Eff.put (.cnd false .junk)).on i.d st))
def stepH (P : Program) (Γ : Tab) (i : AI) (f : FuncId) (s : Nat) (w : Bool) (K : St → Prop) (st : St) : Prop := stepHF P Γ i f s w (flagU Γ f) K st

/-- A function value's call, by what its function is known to be. -/
def stepCF (P : Program) (Γ : Tab) (d : Option Nat) (f : FuncId) (ys : List AV) (o : Option (Nat × Nat)) (K : St → Prop) (st : St) : Prop :=
  match o with
  | some (_, k) => if k = 996 then stepG Γ d f ys (flagG Γ f) K st else False
  | none => semCall P Γ d f ys st.objs fun e => K (e.on d st)
/-- A call of a function value. -/
def stepC (P : Program) (Γ : Tab) (d : Option Nat) (xs : List AV) (g : Option (Nat × Bool)) (K : St → Prop) (st : St) : Prop :=
  match g with
  | none => (asksL xs ∧ withO (cloOf (xs.map strip)) fun x => isFn P x.1 = true ∧ stepCF P Γ d x.1 x.2 (flagU Γ x.1) K st)
  | some (s, w) => pickJ (hasJ (xs.map strip)) (isF (guardB (st.vars s) w)) (stepCg P Γ d xs s w K st) (K ((Eff.put (.cnd false .junk)).on d st))

/-- What is looked at ahead of a call that takes objects whole, and not bound to it: a box of plain values that the call does not take. -/
def allPV : List AV → Bool
  | [] => true
  | .pv _ :: l => allPV l
  | _ => false
def ldT (objs : Nat → Option AO) : AV → Option Nat
  | .ptr t _ => (boxO (objs t)).bind fun cs => if allPV cs = true then some t else none
  | _ => none
def ldsOK (T : List Nat) (st : St) : List Nat → Prop
  | [] => True
  | s :: l => withO (ldT st.objs (st.vars s)) (fun t => T.contains t = false) ∧ ldsOK T st l
def tagsK (ks : Option (List Nat)) (objs : Nat → Option AO) (xs : List AV) : List Nat :=
  match ks with
  | some ks => tagsG objs ks xs
  | none => []
/-- A call in a region whose order is drawn, where all that is not bound to it is a mov, or a load ahead of it (mark: 999999; the loads' slots stand in its row): it may take a slice over. -/
def stepM (P : Program) (Γ : Tab) (i : AI) (f : FuncId) (o : Option (Nat × Nat)) (K : St → Prop) (st : St) : Prop :=
  match o with
  | some (p, k) => if k = 998 then i.un = [] ∧ stepU P Γ i.d f (i.xs.map (ev st.vars)) p k K st else if k = 996 then ldsOK (tagsK (flagG Γ f) st.objs ((i.xs.map (ev st.vars)).map strip)) st i.un ∧ stepG Γ i.d f (i.xs.map (ev st.vars)) (flagG Γ f) K st else False
  | none => stepI P Γ ⟨i.d, i.k, i.xs, i.g, [], none⟩ K st
def stepD (P : Program) (Γ : Tab) (i : AI) (K : St → Prop) (st : St) : Prop :=
  match i.k, i.tg, i.g with
  | .call f, some 999999, none => stepM P Γ i f (flagU Γ f) K st
  | .calv, some 999999, none => stepC P Γ i.d (i.xs.map (ev st.vars)) none K st
  | _, _, _ => stepI P Γ i K st
def steps (P : Program) (Γ : Tab) (is : List AI) (K : St → Prop) (st : St) : Prop :=
  match is with
  | [] => K st
  | i :: is => stepD P Γ i (fun st' => steps P Γ is K st') st
def stepFU (P : Program) (Γ : Tab) (i : AI) (f : FuncId) (o : Option (Nat × Nat)) (K : St → Prop) (st : St) : Prop :=
  match o with
  | some (p, k) => if k = 997 then stepN P Γ i.d f (i.xs.map (ev st.vars)) p K st else if k = 996 then stepG Γ i.d f (i.xs.map (ev st.vars)) (flagG Γ f) K st else stepU P Γ i.d f (i.xs.map (ev st.vars)) p k K st
  | none => stepF P Γ i f K st

/-- A slice cleared. -/
def clrO (objs : Nat → Option AO) (e : TypeId) (zs : List Value) : AV → Option (Nat × AO)
  | .own t => (arrO (objs t)).bind fun r => if r.1 = e then some (t, .arr e (List.replicate r.2.length (zs.map cvp))) else none
  | .sub t e1 lo hi => (arrO (objs t)).bind fun r => if r.1 = e ∧ e1 = e then some (t, .arr e (r.2.take lo ++ List.replicate (hi - lo) (zs.map cvp) ++ r.2.drop hi)) else none
  | _ => none
def stepClr (d : Option Nat) (e : TypeId) (sz : Nat) (zs : List Value) (xs : List AV) (K : St → Prop) (st : St) : Prop :=
  asksL xs ∧ withO ((xs.map strip).head?) fun X => withO (clrO st.objs e zs X) fun r => K ((Eff.upd r.1 r.2).on d st)

/-- A guarded operation on what is not known: passed over where its guard is known as false. -/
def stepJ (P : Program) (Γ : Tab) (i : AI) (K : St → Prop) (st : St) : Prop :=
  match i.g with
  | none => stepI P Γ i K st
  | some (s, w) => pickJ (hasJ ((i.xs.map (ev st.vars)).map strip)) (isF (guardB (st.vars s) w)) (stepI P Γ i K st) (K ((Eff.put (.cnd false .junk)).on i.d st))

def mapO : Option AO → Option (List (PV × AV))
  | some (.map es) => some es
  | _ => none
def exAdd (d : Option Nat) (xs ys : List AV) (K : St → Prop) (st : St) : Prop :=
  match ys with
  | [.pv (.int .u64 a), .pv (.int .u64 b), .pv (.int .u64 c)] => asksL xs ∧ (0 ≤ a ∧ 0 ≤ b ∧ 0 ≤ c ∧ c ≤ 1) ∧ K ⟨put d (.tup [.pv (.int .u64 ((a + b + c) % 18446744073709551616)), .pv (.int .u64 ((a + b + c) / 18446744073709551616))]) st.vars, st.objs⟩
  | _ => False
def exAppz (d : Option Nat) (e : TypeId) (bytes : Nat) (zs : List Value) (xs ys : List AV) (K : St → Prop) (st : St) : Prop :=
  match ys with
  | [.pv .nil, .pv (.int .i64 n)] => withO d fun d => asksL xs ∧ (0 ≤ n ∧ n ≤ 140737488355328 ∧ n.toNat * bytes ≤ 140737488355328) ∧ st.objs d = none ∧ K ⟨put (some d) (.own d) st.vars, addL [(d, .arr e (List.replicate n.toNat (zs.map cvp)))] st.objs⟩
  | _ => False
def exMks (d : Option Nat) (e : TypeId) (bytes : Nat) (zs : List Value) (xs ys : List AV) (K : St → Prop) (st : St) : Prop :=
  match ys with
  | [.pv (.int _ n), .pv (.int _ c)] => withO d fun d => asksL xs ∧ (c = n ∧ 0 ≤ n ∧ n ≤ 140737488355328 ∧ n.toNat * bytes ≤ 140737488355328) ∧ st.objs d = none ∧ K ⟨put (some d) (.own d) st.vars, addL [(d, .arr e (List.replicate n.toNat (zs.map cvp)))] st.objs⟩
  | _ => False
def exBslk (d : Option Nat) (e : TypeId) (xs ys : List AV) (K : St → Prop) (st : St) : Prop :=
  withO d fun d => asksL xs ∧ ones ys = true ∧ st.objs d = none ∧ K ⟨put (some d) (.own d) st.vars, addL [(d, .rws e ys)] st.objs⟩
/-- The first of a row's cells that is a slice of the call's own: where, and which. -/
def fstOwn : List AV → Option (Nat × Nat)
  | [] => none
  | c :: l => match c with
    | .own q => some (0, q)
    | _ => (fstOwn l).map fun r => (r.1 + 1, r.2)
/-- A slice of the call's own is laid into a slice of slices. -/
def exRst (d : Option Nat) (X Y : AV) (xs : List AV) (K : St → Prop) (st : St) : Prop :=
  match X, Y with
  | .eptr t e i o, .own q => asksL xs ∧ withO (arrO (st.objs t)) fun r => (r.1 = e ∧ o = 0) ∧ (0 ≤ i ∧ i < r.2.length ∧ (rowAt r.2 i).length = 1) ∧
      K ⟨put d .junk st.vars, addO t (.rws e ((r.2.map fun x => AV.pv (x.getD 0 .nil)).set i.toNat (.own q))) st.objs⟩
  | _, _ => False
/-- What lies there is written no more. -/
def exPubk (d : Option Nat) (X : AV) (xs : List AV) (K : St → Prop) (st : St) : Prop :=
  match X with
  | .own t => asksL xs ∧ withO (rwsO (st.objs t)) fun r => withO (fstOwn r.2) fun j => withO (arrO (st.objs j.2)) fun s =>
      withO (pvsOf (r.2.set j.1 (.pv (.ro s.2)))) fun ps => K ⟨put d (.own t) (shV j.2 s.1 s.2 st.vars), addO t (.arr r.1 (ps.map fun p => [p])) (shM j.2 st.objs)⟩
  | _ => False
def mpvO : Option AO → Option (List (PV × PV))
  | some (.mpv es) => some es
  | _ => none
def itrO : Option AO → Option (List (PV × PV) × Option (PV × PV))
  | some (.itr rem cur) => some (rem, cur)
  | _ => none
def getV (k : PV) : List (PV × PV) → Option PV
  | [] => none
  | e :: l => if eqP k e.1 = true then some e.2 else getV k l
def putV (k v : PV) : List (PV × PV) → List (PV × PV)
  | [] => [(k, v)]
  | e :: l => if eqP k e.1 = true then (k, v) :: l else e :: putV k v l
def delV (k : PV) : List (PV × PV) → List (PV × PV)
  | [] => []
  | e :: l => if eqP k e.1 = true then l else e :: delV k l
def keysV (s : Nat) (es : List (PV × PV)) : Prop := ∀ e ∈ es, srt e.1 = s
def isNilP : AV → Option Bool
  | .ptr _ _ | .eptr _ _ _ _ | .rp _ | .pv (.pt _) => some false
  | .pv (.val v) => match v with
    | .pointer none => some true
    | _ => none
  | _ => none
def gotV (z : Value) (ok : Bool) (o : Option PV) : AV := if ok = true then .tup [.pv (o.getD (cvp z)), .pv (.bool o.isSome)] else .pv (o.getD (cvp z))
/-- Maps of plain values; ranges over them. -/
def exPuv (d : Option Nat) (s : Nat) (X Y Z : AV) (xs : List AV) (K : St → Prop) (st : St) : Prop :=
  match X, Y, Z with
  | .own t, .pv k, .pv v => asksL xs ∧ withO (mpvO (st.objs t)) fun es => srt k = s ∧ keysV s es ∧ K ⟨put d .junk st.vars, addO t (.mpv (putV k v es)) st.objs⟩
  | _, _, _ => False
def mvOf (objs : Nat → Option AO) : AV → Option (List (PV × PV))
  | .own t => mpvO (objs t)
  | .pv (.mv es) => some es
  | _ => none
def exGev (d : Option Nat) (s : Nat) (z : Value) (ok : Bool) (X Y : AV) (xs : List AV) (K : St → Prop) (st : St) : Prop :=
  match Y with
  | .pv k => asksL xs ∧ withO (mvOf st.objs X) fun es => z.oneCell' = true ∧ srt k = s ∧ keysV s es ∧ K ⟨put d (gotV z ok (getV k es)) st.vars, st.objs⟩
  | _ => False
def exDlv (d : Option Nat) (s : Nat) (X Y : AV) (xs : List AV) (K : St → Prop) (st : St) : Prop :=
  match X, Y with
  | .own t, .pv k => asksL xs ∧ withO (mpvO (st.objs t)) fun es => srt k = s ∧ keysV s es ∧ K ⟨put d .junk st.vars, addO t (.mpv (delV k es)) st.objs⟩
  | _, _ => False
def exRng (d : Option Nat) (X : AV) (xs : List AV) (K : St → Prop) (st : St) : Prop :=
  match X with
  | .pv (.mv es) => withO d fun d => asksL xs ∧ st.objs d = none ∧ K ⟨put (some d) (.ptr d 0) st.vars, addL [(d, .itr es none)] st.objs⟩
  | _ => False
def exNxt (d : Option Nat) (X : AV) (xs : List AV) (K : St → Prop) (st : St) : Prop :=
  match X with
  | .ptr t 0 => asksL xs ∧ withO (itrO (st.objs t)) fun r => (r.1 = [] → K ⟨put d (.tup [.pv (.bool false)]) st.vars, st.objs⟩) ∧
      ∀ (e : PV × PV) (l m : List (PV × PV)), r.1 = l ++ e :: m → K ⟨put d (.tup [.pv (.bool true), .pv e.1, .pv e.2]) st.vars, addO t (.itr (l ++ m) (some e)) st.objs⟩
  | _ => False
def exEnt (d : Option Nat) (X : AV) (xs : List AV) (K : St → Prop) (st : St) : Prop :=
  match X with
  | .ptr t 0 => asksL xs ∧ withO (itrO (st.objs t)) fun r => withO r.2 fun e => K ⟨put d (.tup [.pv e.1, .pv e.2]) st.vars, st.objs⟩
  | _ => False
def exMore (d : Option Nat) (x : XK) (xs ys : List AV) (K : St → Prop) (st : St) : Prop :=
  match x, ys with
  | .rst, [X, Y] => exRst d X Y xs K st
  | .pubk, [X] => exPubk d X xs K st
  | .mkv, [] => withO d fun d => st.objs d = none ∧ K ⟨put (some d) (.own d) st.vars, addL [(d, .mpv [])] st.objs⟩
  | .puv s, [X, Y, Z] => exPuv d s X Y Z xs K st
  | .gev s z ok, [X, Y] => exGev d s z ok X Y xs K st
  | .dlv s, [X, Y] => exDlv d s X Y xs K st
  | .pnil ne, [X] => asksL xs ∧ withO (isNilP X) fun b => K ⟨put d (.pv (.bool (b != ne))) st.vars, st.objs⟩
  | .rng, [X] => exRng d X xs K st
  | .nxt, [X] => exNxt d X xs K st
  | .ent, [X] => exEnt d X xs K st
  | _, _ => False
def stepEx (d : Option Nat) (x : XK) (xs : List AV) (K : St → Prop) (st : St) : Prop :=
  match x, xs.map strip with
  | .mkm, [] => withO d fun d => st.objs d = none ∧ K ⟨put (some d) (.own d) st.vars, addL [(d, .map [])] st.objs⟩
  | .mput s, [.own t, .pv k, v] => asksL xs ∧ withO (mapO (st.objs t)) fun es => srt k = s ∧ keysOK s es ∧ pure1 v = true ∧ K ⟨put d .junk st.vars, addO t (.map (putM k v es)) st.objs⟩
  | .mget s z ok, [.own t, .pv k] => asksL xs ∧ withO (mapO (st.objs t)) fun es => srt k = s ∧ keysOK s es ∧
      K ⟨put d (if ok = true then .tup [(getM k es).getD (avZ z), .pv (.bool (getM k es).isSome)] else (getM k es).getD (avZ z)) st.vars, st.objs⟩
  | .add64, ys => exAdd d xs ys K st
  | .isnil ne, [X] => asksL xs ∧ withO (rowsB st.objs X) fun rows => ∀ b : Bool, (rows ≠ [] → b = false) → K ⟨put d (.pv (.bool (if ne = true then !b else b))) st.vars, st.objs⟩
  | .capn, [.pv .nil] => asksL xs ∧ K ⟨put d (.pv (.int .i64 0)) st.vars, st.objs⟩
  | .appz e sz bytes zs, ys => exAppz d e bytes zs xs ys K st
  | .bslk e, ys => exBslk d e xs ys K st
  | .mks e bytes zs, ys => exMks d e bytes zs xs ys K st
  | .mget s z ok, [.pv (.mp ks), .pv k] => asksL xs ∧ unitV z = true ∧ srt k = s ∧ (∀ x ∈ ks, srt x = s) ∧ K ⟨put d (if ok = true then .tup [.agg [], .pv (.bool (ks.any (eqP k)))] else .agg []) st.vars, st.objs⟩
  | .mark, [.own t] => asksL xs ∧ withO (arrO (st.objs t)) fun r => r.2 ≠ [] ∧ K ⟨put d (.pv (.ro r.2)) (shV t r.1 r.2 st.vars), shM t st.objs⟩
  | x, ys => exMore d x xs ys K st
/-- As the rules reckon it. -/
def exPut (d : Option Nat) (s t : Nat) (k v : AV) (xs : List AV) (K : St → Prop) (st : St) : Prop :=
  match k with
  | .pv k => asksL xs ∧ withO (mapO (st.objs t)) fun es => srt k = s ∧ keysOK s es ∧ pure1 v = true ∧ K ⟨put d .junk st.vars, addO t (.map (putM k v es)) st.objs⟩
  | _ => False
def exGet (d : Option Nat) (s t : Nat) (z : Value) (ok : Bool) (k : AV) (xs : List AV) (K : St → Prop) (st : St) : Prop :=
  match k with
  | .pv k => asksL xs ∧ withO (mapO (st.objs t)) fun es => srt k = s ∧ keysOK s es ∧
      K ⟨put d (if ok = true then .tup [(getM k es).getD (avZ z), .pv (.bool (getM k es).isSome)] else (getM k es).getD (avZ z)) st.vars, st.objs⟩
  | _ => False
/-- A row of constant bytes, behind its conversion. -/
def exMark (d : Option Nat) (x : AV) (xs : List AV) (K : St → Prop) (st : St) : Prop :=
  match x with
  | .own t => asksL xs ∧ withO (arrO (st.objs t)) fun r => r.2 ≠ [] ∧ K ⟨put d (.pv (.ro r.2)) (shV t r.1 r.2 st.vars), shM t st.objs⟩
  | _ => False
/-- A map that is read alone. -/
def exGetp (d : Option Nat) (s : Nat) (ks : List PV) (z : Value) (ok : Bool) (k : AV) (xs : List AV) (K : St → Prop) (st : St) : Prop :=
  match k with
  | .pv k => asksL xs ∧ unitV z = true ∧ srt k = s ∧ (∀ x ∈ ks, srt x = s) ∧ K ⟨put d (if ok = true then .tup [.agg [], .pv (.bool (ks.any (eqP k)))] else .agg []) st.vars, st.objs⟩
  | _ => False
def exCapn (d : Option Nat) (x : AV) (xs : List AV) (K : St → Prop) (st : St) : Prop :=
  match x with
  | .pv .nil => asksL xs ∧ K ⟨put d (.pv (.int .i64 0)) st.vars, st.objs⟩
  | _ => False
def exNil (d : Option Nat) (ne : Bool) (rows : List (List PV)) (K : St → Prop) (st : St) : Prop := ∀ b : Bool, (rows ≠ [] → b = false) → K ⟨put d (.pv (.bool (if ne = true then !b else b))) st.vars, st.objs⟩
/-- Guarded: where the guard is known. -/
def stepEg (i : AI) (x : XK) (s : Nat) (w : Bool) (K : St → Prop) (st : St) : Prop :=
  withO (guardB (st.vars s) w) fun c => if c = true then stepEx i.d x (i.xs.map (ev st.vars)) K st else K ((Eff.put (.cnd false .junk)).on i.d st)

/-- A slice is appended to, and read on as it was: both are published. -/
def shA (t : Nat) (rows : List (List PV)) : AV → AV
  | .own s => if s = t then .pv (.ro rows) else .own s
  | v => kill t v
def shAV (t : Nat) (rows : List (List PV)) (f : Nat → AV) : Nat → AV := fun s => shA t rows (f s)
def apsO (objs : Nat → Option AO) (e : TypeId) : List AV → Option (Nat × List (List PV) × List (List PV))
  | [.own t, x] => (arrO (objs t)).bind fun r => (rowsIn objs x).bind fun more => if r.1 = e then some (t, r.2, more) else none
  | _ => none
def stepAps (d : Option Nat) (e : TypeId) (sz bytes : Nat) (xs : List AV) (K : St → Prop) (st : St) : Prop :=
  asksL xs ∧ withO (apsO st.objs e (xs.map strip)) fun r => ((r.2.1.length + r.2.2.length) * bytes ≤ 140737488355328 ∧ r.2.1.length + r.2.2.length ≤ maxLen ∧ (∀ q ∈ r.2.2, q.length = sz)) ∧ r.1 % 1000 ≠ 999 ∧
    K ⟨put d (.pv (.ro (r.2.1 ++ r.2.2))) (shAV r.1 r.2.1 st.vars), shM r.1 st.objs⟩
def apsM (i : AI) : Option (TypeId × Nat × Nat) :=
  match i.k, i.tg, i.g with
  | .app e sz b, some 999998, none => some (e, sz, b)
  | _, _, _ => none

def stepXo (P : Program) (Γ : Tab) (i : AI) (K : St → Prop) (st : St) : Prop :=
  match i.k, i.g with
  | .ex x, none => stepEx i.d x (i.xs.map (ev st.vars)) K st
  | .ex x, some (s, w) => stepEg i x s w K st
  | .bsl _ _, _ => stepJ P Γ i K (shareAll st ((i.xs.map (ev st.vars)).map strip))
  | .clr e sz zs, none => stepClr i.d e sz zs (i.xs.map (ev st.vars)) K st
  | .call f, some (s, w) => stepH P Γ i f s w K st
  | .calv, g => stepC P Γ i.d (i.xs.map (ev st.vars)) g K st
  | .call f, none => stepFU P Γ i f (flagU Γ f) K st
  | .nilS _, _ => stepI P Γ i K (dropT (i.d.getD 0) st)
  | _, _ => stepJ P Γ i K st

def stepX (P : Program) (Γ : Tab) (i : AI) (K : St → Prop) (st : St) : Prop :=
  match apsM i with
  | some r => if isOwn ((i.xs.map (ev st.vars)).map strip) = true then stepAps i.d r.1 r.2.1 r.2.2 (i.xs.map (ev st.vars)) K st else stepXo P Γ i K st
  | none => stepXo P Γ i K st

def stepsX (P : Program) (Γ : Tab) (is : List AI) (K : St → Prop) (st : St) : Prop :=
  match is with
  | [] => K st
  | i :: is => stepX P Γ i (fun st' => stepsX P Γ is K st') st

/-- What is kept of the frame behind a region. -/
def keepS (keep : List Nat) (f : Nat → AV) : Nat → AV := fun s => if keep.contains s then f s else .junk

/-- A frame as two lists. -/
structure Fr where
  vs : List (Nat × AV)
  os : List (Nat × AO)
def Fr.st (f : Fr) : St := ⟨look f.vs, lookO f.os⟩

def liveC (os : List (Nat × AO)) : AV → Prop
  | .own t | .ptr t _ | .eptr t _ _ _ | .sub t _ _ _ => dom (lookO os) t
  | .pv _ | .rp _ | .junk => True
  | _ => False
def liveCs (os : List (Nat × AO)) : List AV → Prop
  | [] => True
  | c :: cs => liveC os c ∧ liveCs os cs
def liveV (os : List (Nat × AO)) : AV → Prop
  | .agg cs | .clo _ cs | .tup cs => liveCs os cs
  | .cnd _ v => liveC os v
  | v => liveC os v
def liveO (os : List (Nat × AO)) : AO → Prop
  | .box cs => liveCs os cs
  | .arr _ _ => True
  | .map _ => True
  | .mpv _ => True
  | .itr _ _ => True
  | .rws _ cs => liveCs os cs

/-- A frame that tells no more than a state; slices that are nil may be taken for objects of their own (ad). -/
def wkV (ad : List Nat) (st : St) (os : List (Nat × AO)) : List (Nat × AV) → Prop
  | [] => True
  | (s, v) :: l => (v = .junk ∨ (st.vars s = v ∧ liveV os v) ∨ (∃ t, v = .own t ∧ ad.contains t = true ∧ dom (lookO os) t ∧ st.vars s = .pv .nil)) ∧ wkV ad st os l
def wkO (P : Program) (ad : List Nat) (st : St) (os : List (Nat × AO)) : List (Nat × AO) → Prop
  | [] => True
  | (t, o) :: l => ((st.objs t = some o ∧ ad.contains t = false ∧ liveO os o) ∨ (∃ e, o = .arr e [] ∧ ad.contains t = true ∧ st.objs t = none ∧ (P.info? e).isSome = true ∧ t % 1000 ≠ 999)) ∧ wkO P ad st os l
def wk (P : Program) (ad : List Nat) (st : St) (f : Fr) : Prop := wkV ad st f.os f.vs ∧ wkO P ad st f.os f.os

/-! ### What a function gives back -/

/-- The values of the result slots; those that lie in cells are loaded. -/
def resVals (st : St) : List (Nat × Option (Option Nat)) → (List AV → Prop) → Prop
  | [], C => C []
  | (t, none) :: l, C => resVals st l fun vs => C (st.vars t :: vs)
  | (a, some n) :: l, C => withO (semQ (.load n) [st.vars a] st.objs) fun x => x.1 ∧ resVals st l fun vs => C (x.2 :: vs)

def tupleOf : List AV → AV
  | [v] => v
  | vs => .tup vs

/-- A cell as the contract tells it: a slice of the call's own is fresh. -/
def fzC (P : Program) (objs : Nat → Option AO) (v r : AV) : Prop :=
  match r with
  | .fr e rows => (∃ t, v = .own t ∧ objs t = some (.arr e rows)) ∨ (v = .pv .nil ∧ rows = [] ∧ (P.info? e).isSome = true) ∨ (∃ t hi rs, v = .sub t e 0 hi ∧ objs t = some (.arr e rs) ∧ rows = rs.take hi)
  | r => v = r ∧ resC r = true
def fzCs (P : Program) (objs : Nat → Option AO) : List AV → List AV → Prop
  | [], [] => True
  | c :: cs, r :: rs => fzC P objs c r ∧ fzCs P objs cs rs
  | _, _ => False
def fz1 (P : Program) (objs : Nat → Option AO) (v r : AV) : Prop :=
  match v, r with
  | .agg cs, .agg rs => fzCs P objs cs rs
  | .agg _, _ => False
  | v, r => fzC P objs v r
def fzVs (P : Program) (objs : Nat → Option AO) : List AV → List AV → Prop
  | [], [] => True
  | c :: cs, r :: rs => fz1 P objs c r ∧ fzVs P objs cs rs
  | _, _ => False
def fz (P : Program) (objs : Nat → Option AO) (v r : AV) : Prop :=
  match v, r with
  | .tup vs, .tup rs => vs.length ≤ 1000 ∧ fzVs P objs vs rs
  | .tup _, _ => False
  | v, r => fz1 P objs v r

/-- Where a value names slices of the call's own. -/
def plCs (j : Nat) : List AV → List (Nat × Nat)
  | [] => []
  | .own t :: cs => (1000 * j, t) :: plCs (j + 1) cs
  | .sub t _ _ _ :: cs => (1000 * j, t) :: plCs (j + 1) cs
  | _ :: cs => plCs (j + 1) cs
def pl1 : AV → List (Nat × Nat)
  | .agg cs => plCs 0 cs
  | .own t => [(0, t)]
  | .sub t _ _ _ => [(0, t)]
  | _ => []
def plVs (i : Nat) : List AV → List (Nat × Nat)
  | [] => []
  | v :: vs => (pl1 v).map (fun x => (x.1 + i, x.2)) ++ plVs (i + 1) vs
def pl : AV → List (Nat × Nat)
  | .tup vs => plVs 0 vs
  | v => pl1 v
def apartL : List (Nat × Nat) → Prop
  | [] => True
  | x :: l => (∀ y ∈ l, y.2 ≠ x.2) ∧ apartL l

/-- Slices of the call's own that the contract tells as read alone. -/
def pubC : AV → AV → List Nat
  | .own t, .pv (.ro _) => [t]
  | .pv .nil, .pv (.ro _) => [999996]
  | _, _ => []
def pubCs : List AV → List AV → List Nat
  | c :: cs, r :: rs => pubC c r ++ pubCs cs rs
  | _, _ => []
def pub1 : AV → AV → List Nat
  | .agg cs, .agg rs => pubCs cs rs
  | v, r => pubC v r
def pubVs : List AV → List AV → List Nat
  | c :: cs, r :: rs => pub1 c r ++ pubVs cs rs
  | _, _ => []
def pubs : AV → AV → List Nat
  | .tup vs, .tup rs => pubVs vs rs
  | v, r => pub1 v r

def EndsK (P : Program) (rs : List (Nat × Option (Option Nat))) (r : AV) (st : St) : Prop :=
  resVals st rs fun vs => fz P st.objs (tupleOf vs) r ∧ apartL (pl (tupleOf vs))
def Ends (P : Program) (rs : List (Nat × Option (Option Nat))) (r : AV) (st : St) : Prop :=
  resVals st rs fun vs => EndsK P rs r (shareT (pubs (tupleOf vs) r) st)

/-- As 'Ends', with the slices that are handed back. -/
def backOK (objs : Nat → Option AO) (l : List (Nat × Nat)) : List (Nat × AO) → Prop
  | [] => True
  | x :: hout => objs x.1 = some x.2 ∧ (∀ y ∈ l, y.2 ≠ x.1) ∧ backOK objs l hout
def EndsKU (P : Program) (rs : List (Nat × Option (Option Nat))) (r : AV) (hout : List (Nat × AO)) (st : St) : Prop :=
  resVals st rs fun vs => fz P st.objs (tupleOf vs) r ∧ apartL (pl (tupleOf vs)) ∧ backOK st.objs (pl (tupleOf vs)) hout
def EndsU (P : Program) (rs : List (Nat × Option (Option Nat))) (r : AV) (hout : List (Nat × AO)) (st : St) : Prop :=
  resVals st rs fun vs => EndsKU P rs r hout (shareT (pubs (tupleOf vs) r) st)

/-- The end of a function's body. -/
def retJ (K : St → Prop) : Exit → St → Prop
  | .ret, st => K st
  | _, _ => False

def inBlk (id : Nat) (K : St → Prop) (J : Exit → St → Prop) : Exit → St → Prop
  | .exit id', st => if id' = id then K st else J (.exit id') st
  | e, st => J e st

def vwp (P : Program) (Γ : Tab) : AC → (St → Prop) → (Exit → St → Prop) → St → Prop
  | .skip, K, _, st => K st
  | .reg is d keep, K, _, st => if d then steps P Γ is (fun st' => K ⟨keepS keep st'.vars, st'.objs⟩) st else stepsX P Γ is (fun st' => K ⟨keepS keep st'.vars, st'.objs⟩) st
  | .seq a b, K, J, st => vwp P Γ a (fun st' => vwp P Γ b K J st') J st
  | .cond x a b, K, J, st => withO (boolOf (ev st.vars x)) fun c =>
      (c = true → vwp P Γ a K J st) ∧ (c = false → vwp P Γ b K J st)
  | .block id a, K, J, st => vwp P Γ a K (inBlk id K J) st
  | .loop a, _, J, st => ∃ (ι : Type) (F : ι → Fr) (μ : ι → Nat) (ad shs : List Nat) (i0 : ι), wk P ad (shareT shs st) (F i0) ∧ ∀ i, vwp P Γ a (fun st' => ∃ i', wk P [] (shareT shs st') (F i') ∧ μ i' < μ i) J (F i).st
  | .exit id, _, J, st => J (.exit id) st
  | .ret, _, J, st => J .ret st

end Go.Proofs.Ythblkhafehanfaa.Ab
