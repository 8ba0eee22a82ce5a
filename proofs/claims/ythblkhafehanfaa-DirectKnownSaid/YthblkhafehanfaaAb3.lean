/- How the code of a function is brought into the abstract machine's form. Definitions alone. -/
import Derived.Test.YthblkhafehanfaaAb2
namespace Go.Proofs.Ythblkhafehanfaa.Ab
open Go Go.RowKit
set_option linter.unusedVariables false

/-- Of how many cells is a value of the type, if it is a struct or an array? -/
def aggN (P : Program) (t : TypeId) : Option (Option Nat) :=
  match P.underlying t with
  | some (.struct _) | some (.array _ _) => (P.info? t).map fun i => some i.size
  | some _ => some none
  | none => none

def sizeT (P : Program) (t : TypeId) : Option Nat := (P.info? t).map (·.size)
def zeroT (P : Program) (t : TypeId) : Option (List Value) := (P.info? t).bind fun i => i.zero.bind fun z => if z.cells.size = i.size then some z.cells.toList else none

def isNilSlice : Operand → Bool
  | .const (.slice none 0 0) => true
  | _ => false

def partsS (P : Program) (fs : Array Field) : List (Nat × Operand) → Option (List (Nat × Nat))
  | [] => some []
  | (i, _) :: l => match fs[i]?, partsS P fs l with
    | some f, some r => (sizeT P f.type).map fun n => (f.offset, n) :: r
    | _, _ => none

/-- The sorts of the cells of a type of numbers, texts and Bools. -/
def fieldKs (P : Program) (f : TypeId → Option (List Nat)) : Nat → List Field → Option (List Nat)
  | _, [] => some []
  | off, fl :: fs => if fl.name ≠ "_" ∧ fl.offset = off then (f fl.type).bind fun a => if sizeT P fl.type = some a.length then (fieldKs P f (off + a.length) fs).map (a ++ ·) else none else none
def cellKs (P : Program) : Nat → TypeId → Option (List Nat)
  | 0, _ => none
  | n + 1, t => match P.underlying t with
    | some .bool => some [0]
    | some .string => some [1]
    | some (.int k) => some [2 + kIdx k]
    | some (.struct fs) => if P.stoodInHeld t = false then fieldKs P (cellKs P n) 0 fs.toList else none
    | _ => none

def compBuiltin (P : Program) (b : Builtin) (xs : List Operand) (ts : List TypeId) : Option (AK × List Operand) :=
  match b, xs, ts with
  | .len, [x], [t] => match P.underlying t with
    | some .string => some (.slen, [x])
    | some (.slice _) => some (.len, [x])
    | _ => none
  | .append, [s, x], [t, t'] => match P.underlying t, P.underlying t' with
    | some (.slice e), some .string => match P.info? e with
      | some i => if i.size = 1 ∧ (zeroT P e).isSome = true then some (.app e i.size i.bytes, [s, x]) else none
      | none => none
    | some (.slice e), some (.slice _) => match P.info? e with
      | some i => if 0 < i.size ∧ (zeroT P e).isSome = true then some (.app e i.size i.bytes, [s, x]) else none
      | none => none
    | _, _ => none
  | .min, [x, y], [_, _] => some (.mnx false, [x, y])
  | .max, [x, y], [_, _] => some (.mnx true, [x, y])
  | .clear, [x], [t] => match P.underlying t with
    | some (.slice e) => match sizeT P e, zeroT P e with
      | some sz, some zs => if 0 < sz ∧ zs.all (·.oneCell') = true then some (.clr e sz zs, [x]) else none
      | _, _ => none
    | _ => none
  | _, _, _ => none

def compCall (P : Program) (c : Call) : Option (AK × List Operand) :=
  match c.callee with
  | .builtin b => compBuiltin P b c.args.toList c.argTypes.toList
  | .value (.func f) => if isFn P f then some (.call f, c.args.toList) else none
  | .value x => some (.calv, x :: c.args.toList)
  | .invoke _ _ => none

/-- The sort of a map's keys. -/
def srtT (P : Program) (t : TypeId) : Option Nat :=
  match P.underlying t with
  | some .bool => some 0
  | some .string => some 1
  | some (.int k) => some (2 + kIdx k)
  | _ => none
def zeroV (P : Program) (t : TypeId) : Option Value := (P.info? t).bind (·.zero)
def mapT (P : Program) (t : TypeId) : Option (TypeId × TypeId) :=
  match P.underlying t with
  | some (.map k e) => some (k, e)
  | _ => none
def isAdd64 (P : Program) (f : FuncId) : Bool :=
  match P.funcs[f]? with
  | some fn => fn.name == "math/bits.Add64" && fn.body.isNone && (Extern.findNext fn).isNone
  | none => false
def compXB (P : Program) (b : Builtin) (xs : List Operand) (ts : List TypeId) : Option (XK × List Operand) :=
  match b, xs, ts with
  | .cap, [x], [t] => match P.underlying t with
    | some (.slice _) => some (.capn, [x])
    | _ => none
  | .append, [s, x], [t, t'] => match P.underlying t, P.underlying t' with
    | some (.slice e), some (.int _) => match P.info? e, zeroT P e with
      | some i, some zs => if 0 < i.size ∧ zs.all (·.oneCell') = true then some (.appz e i.size i.bytes zs, [s, x]) else none
      | _, _ => none
    | _, _ => none
  | _, _, _ => none
/-- Is it a slice's type that has a name? -/
def rwsT (P : Program) (e : TypeId) : Bool :=
  match (P.info? e).map (fun i : TypeInfo => i.desc), P.underlying e with
  | some (TypeDesc.named _ _), some (TypeDesc.slice _) => true
  | _, _ => false
/-- Where a slice of slices is to hold a slice of the call's own. -/
def hintX (P : Program) (o : Oper) : Bool :=
  match o.op, o.dst with
  | .move (.tmp 8), some 193 | .assign (.tmp 8), some 193 => match P.underlying o.type with
    | some (.slice e) => match P.underlying e with
      | some (.slice _) => true
      | _ => false
    | _ => false
  | .store t (.tmp 160) (.tmp 159), none => match P.underlying t with
    | some (.slice _) => true
    | _ => false
  | _, _ => false
def compX (P : Program) (o : Oper) : Option (XK × List Operand) :=
  match o.op with
  | .makeMap t none => match mapT P t with
    | some _ => some (.mkm, [])
    | none => none
  | .mapUpdate t m k x | .insert t m k x => match mapT P t with
    | some (kt, _) => match srtT P kt with
      | some s => some (.mput s, [m, k, x])
      | none => none
    | none => none
  | .lookup t m k ok => match mapT P t with
    | some (kt, et) => match srtT P kt, zeroV P et with
      | some s, some z => some (.mget s z ok, [m, k])
      | _, _ => none
    | none => none
  | .buildSlice t n ps => match P.underlying t with
    | some (.slice e) => match sizeT P e, zeroT P e with
      | some sz, some zs => if sz = 1 ∧ ps.toList.map (·.1) = List.range n ∧ n * sz ≤ 2 ^ 24 ∧ zs.length = sz then some (.bslk e, ps.toList.map (·.2)) else none
      | _, _ => none
    | _ => none
  | .convert src dst x => if src = dst then match P.underlying src with
    | some (.slice e) => match P.underlying e with
      | some (.int .u8) => some (.mark, [x])
      | _ => none
    | _ => none else none
  | .makeSlice t l c => match P.underlying t with
    | some (.slice e) => match P.info? e, zeroT P e with
      | some i, some zs => if 0 < i.size ∧ zs.all (·.oneCell') = true then some (.mks e i.bytes zs, [l, c]) else none
      | _, _ => none
    | _ => none
  | .binOp op t x y _ => match P.underlying t with
    | some (.slice _) => if isNilSlice y then match op with
      | .eql => some (.isnil false, [x])
      | .neq => some (.isnil true, [x])
      | _ => none else none
    | _ => none
  | .call c => match c.callee with
    | .value (.func f) => if isAdd64 P f = true then some (.add64, c.args.toList) else none
    | .builtin b => compXB P b c.args.toList c.argTypes.toList
    | _ => none
  | .move x => if hintX P o = true then some (.pubk, [x]) else none
  | .assign x => if hintX P o = true then some (.pubk, [x]) else none
  | .store t x y => if hintX P o = true ∧ sizeT P t = some 1 then some (.rst, [x, y]) else none
  | _ => none
/-- A type of one cell of plain data. -/
def oneT (P : Program) (t : TypeId) : Bool :=
  match P.underlying t with
  | some .bool | some .string | some (.int _) => true
  | _ => false
/-- Words that depend on what a map holds. -/
def compV (P : Program) (o : Oper) : Option (XK × List Operand) :=
  match o.op with
  | .makeMap t none => match mapT P t with
    | some (_, et) => if oneT P et = true then some (.mkv, []) else none
    | none => none
  | .mapUpdate t m k x | .insert t m k x => match mapT P t with
    | some (kt, et) => match srtT P kt with
      | some s => if oneT P et = true then some (.puv s, [m, k, x]) else none
      | none => none
    | none => none
  | .lookup t m k ok => match mapT P t with
    | some (kt, et) => match srtT P kt, zeroV P et with
      | some s, some z => if oneT P et = true then some (.gev s z ok, [m, k]) else none
      | _, _ => none
    | none => none
  | .binOp op t x y _ => match P.underlying t with
    | some (.pointer _) => match y with
      | .const (.pointer none) => match op with
        | .eql => some (.pnil false, [x])
        | .neq => some (.pnil true, [x])
        | _ => none
      | _ => none
    | _ => none
  | .call c => match c.callee, c.args.toList, c.argTypes.toList with
    | .builtin .delete, [m, k], [t, kt'] => match mapT P t with
      | some (kt, et) => match srtT P kt with
        | some s => if oneT P et = true ∧ kt' = kt then some (.dlv s, [m, k]) else none
        | none => none
      | none => none
    | _, _, _ => none
  | .range t x => match mapT P t with
    | some _ => some (.rng, [x])
    | none => none
  | .next x false => some (.nxt, [x])
  | .entry x => some (.ent, [x])
  | _ => none
/-- What is not known is never to be come to. -/
def compXD (P : Program) (o : Oper) : XK × List Operand :=
  match compV P o with
  | some r => r
  | none => (compX P o).getD (.dead, [])

def compOp0 (P : Program) (o : Oper) : Option (AK × List Operand) :=
  match o.op with
  | .move x | .assign x =>
    if isNilSlice x then match P.underlying o.type with
      | some (.slice e) => if (P.info? e).isSome then some (.nilS e, []) else none
      | _ => none
    else some (.mov, [x])
  | .pick c a b => some (.pick, [c, a, b])
  | .alloc e => (zeroT P e).map fun zs => (.alloc zs, [])
  | .box _ x => some (.box, [x])
  | .build t ps => match zeroT P t, P.underlying t with
    | some zs, some (.struct fs) => if fs.all (fun f => (P.info? f.type).isSome) = false then none else (partsS P fs ps.toList).map fun l => (.bld zs l, ps.toList.map (·.2))
    | _, _ => none
  | .buildSlice t n ps => match P.underlying t with
    | some (.slice e) => match sizeT P e, zeroT P e with
      | some sz, some zs => if rwsT P e = false ∧ ps.toList.map (·.1) = List.range n ∧ n * sz ≤ 2 ^ 24 ∧ zs.length = sz ∧ 0 < sz then some (.bsl e sz, ps.toList.map (·.2)) else none
      | _, _ => none
    | _ => none
  | .load t a => (aggN P t).map fun n => (.load n, [a])
  | .store t a v => match aggN P t with
    | some none => if sizeT P t = some 1 then some (.store none, [a, v]) else none
    | some (some n) => some (.store (some n), [a, v])
    | none => none
  | .binOp op t x y _ => match P.underlying t with
    | some .bool => match op with
      | .eql => some (.beq false, [x, y])
      | .neq => some (.beq true, [x, y])
      | _ => none
    | some (.int _) | some .string => some (.bin op, [x, y])
    | some (.struct _) => match cellKs P 8 t with
      | some ks => if ks.all (· < 99) = true ∧ P.eqGuardType P.depth t = false then match op with
        | .eql => some (.eqs false ks, [x, y])
        | .neq => some (.eqs true ks, [x, y])
        | _ => none else none
      | none => none
    | _ => none
  | .unOp .not _ x => some (.not, [x])
  | .unOp .neg _ x => some (.neg, [x])
  | .convert src dst x => match P.underlying src, P.underlying dst with
    | some (.int _), some (.int k) => some (.cvi k, [x])
    | some .string, some .string => some (.scv, [x])
    | some (.slice e), some .string => match P.underlying e with
      | some (.int .u8) => some (.btoS, [x])
      | _ => none
    | some .string, some (.slice e) => match P.underlying e with
      | some (.int .u8) => some (.stoB e, [x])
      | _ => none
    | _, _ => none
  | .fieldAddr s x i => match P.underlying s with
    | some (.struct fs) => match fs[i]? with
      | some f => match sizeT P f.type with
        | some (_ + 1) => some (.fad f.offset, [x])
        | _ => none
      | none => none
    | _ => none
  | .field s x i => match P.underlying s with
    | some (.struct fs) => match fs[i]? with
      | some f => (aggN P f.type).map fun n => (.fld f.offset n, [x])
      | none => none
    | _ => none
  | .indexAddr t x i => match P.underlying t with
    | some (.slice e) => (sizeT P e).map fun sz => (.ixa e sz, [x, i])
    | some (.array n e) => (sizeT P e).map fun sz => (.ixp n sz, [x, i])
    | _ => none
  | .index t x i => match P.underlying t with
    | some .string => some (.sidx, [x, i])
    | _ => none
  | .slice t x lo hi none => match P.underlying t with
    | some .string => some (.ssl lo.isSome hi.isSome, [x] ++ lo.toList ++ hi.toList)
    | some (.slice e) => (sizeT P e).map fun sz => (.slc sz lo.isSome hi.isSome, [x] ++ lo.toList ++ hi.toList)
    | _ => none
  | .extract x i => some (.ext i, [x])
  | .nilCheck x => some (.nck, [x])
  | .makeFunc (.func f) first caps => match first.toList with
    | [] => some (.mkf f, caps.toList)
    | _ => none
  | .call c => compCall P c
  | _ => none

def compOp (P : Program) (o : Oper) : Option (AK × List Operand) :=
  match if hintX P o = true then none else compOp0 P o with
  | some r => some r
  | none => some (.ex (compXD P o).1, (compXD P o).2)
theorem compOp_cases {P : Program} {o : Oper} {k : AK} {xs : List Operand} (h : compOp P o = some (k, xs)) : compOp0 P o = some (k, xs) ∨ ∃ x, k = .ex x ∧ compXD P o = (x, xs) := by
  unfold compOp at h
  split at h
  · rename_i r hr
    split at hr
    · cases hr
    · rw [hr]; exact .inl h
  · cases h; exact .inr ⟨_, rfl, rfl⟩

/-- Does it make an object whose tag is its slot? -/
def makes : AK → Bool
  | .nilS _ | .box | .alloc _ | .bsl _ _ | .app _ _ _ | .call _ | .calv | .btoS | .stoB _ | .ex .mkm | .ex .mkv | .ex .rng | .ex (.appz _ _ _ _) | .ex (.bslk _) | .ex (.mks _ _ _) => true
  | _ => false
def writes : AK → Bool
  | .store _ | .app _ _ _ => true
  | _ => false
/-- Operations that look at values alone. -/
def looksAway : AK → Bool
  | .mov | .bin _ | .beq _ | .not | .neg | .cvi _ | .scv => true
  | _ => false

def tmpsOf : List Operand → List Nat
  | [] => []
  | .tmp t :: l => t :: tmpsOf l
  | _ :: l => tmpsOf l

def usesOf (i : AI) : List Nat := tmpsOf i.xs ++ (match i.g with | some (s, _) => [s] | none => [])

def isSome' : Option Nat → Bool
  | some _ => true
  | none => false

/-- The slots whose tags it makes, or writes to. -/
def tagsOf (i : AI) : List Nat :=
  if makes i.k then i.d.toList else if writes i.k then i.tg.toList else []
def isApp : AK → Bool
  | .app _ _ _ => true
  | _ => false

/-- Something is appended to a slice, and something else is looked at, or made. -/
def isAlc : AK → Bool
  | .alloc _ => true
  | _ => false
def isLk : AK → Bool
  | .load _ | .fad _ => true
  | _ => false
def apartA (x y : AI) : Bool :=
  isApp x.k && x.g.isNone && y.g.isNone && y.tg.isNone &&
  (match x.d, y.d with
    | some d, some d' => !(usesOf y).contains d && !(usesOf x).contains d' && d != d' && decide (d < 1000) && decide (d' < 1000) && ((isAlc y.k && y.xs.isEmpty) || (isLk y.k && y.un.contains d && y.un.all fun t => x.un.contains (t + 1000)))
    | _, _ => false)

/-- May the two change places? -/
def apartO (x y : AI) : Bool :=
  (match x.d with | some d => !(usesOf y).contains d && y.d != some d && y.tg != some d && decide (d < 1000) | none => true) &&
  (match y.d with | some d => !(usesOf x).contains d && x.tg != some d && decide (d < 1000) | none => true) &&
  ((looksAway y.k && y.un.isEmpty) || (!isApp x.k && (!writes x.k || isSome' x.tg) && (tagsOf x).all fun t => decide (t < 1000) && y.un.contains t)) &&
  ((looksAway x.k && x.un.isEmpty) || (!isApp y.k && (!writes y.k || isSome' y.tg) && (tagsOf y).all fun t => decide (t < 1000) && x.un.contains t)) &&
  (looksAway x.k || looksAway y.k || !writes x.k || !writes y.k || x.tg != y.tg)

def apartB (x y : AI) : Bool := apartO x y || apartA x y

def compI (P : Program) (N : Nat) (ops : Array Oper) (o : Oper) : Option AI :=
  match compOp P o with
  | none => none
  | some (k, xs) =>
    let okd := match o.dst with | some d => decide (d < N ∧ d < 1000) | none => !makes k && (k matches .store _ || k matches .clr _ _ _ || k matches .ex _)
    if !okd then none else
    match o.guard with
    | none => some ⟨o.dst, k, xs, none, [], none⟩
    | some (j, want) => match (ops[j]?).bind (·.dst) with
      | some s => some ⟨o.dst, k, xs, some (s, want), [], none⟩
      | none => none

def compIs (P : Program) (N : Nat) (ops : Array Oper) : List Oper → Option (List AI)
  | [] => some []
  | o :: l => match compI P N ops o, compIs P N ops l with
    | some i, some is => some (i :: is)
    | _, _ => none

/-- Each two operations of which none is bound to be first may change places; what is bound to be first, and the order of the text. -/
def bits (ops : Array Oper) (i j : Nat) : Bool := ((Region.before ops).getD j 0).testBit i
def chainB (ops : Array Oper) (i j : Nat) : Bool :=
  !bits ops i j || match ops[j]? with
    | some o => o.after.any fun e => Region.binds .any e && (e.on == i || (decide (i < e.on) && decide (e.on < j) && bits ops i e.on))
    | none => false
def earlierB (ops : Array Oper) (j : Nat) : Bool :=
  match ops[j]? with
  | some o => o.after.all fun e => !Region.binds .any e || decide (e.on < j)
  | none => true
def freeB (ops : Array Oper) (is : Array AI) : Bool :=
  (List.range ops.size).all fun j => earlierB ops j && (List.range j).all fun i => chainB ops i j && (bits ops i j || match is[i]?, is[j]? with
    | some x, some y => apartB x y
    | _, _ => false)

/-- The tags of what operations make, or write to, that may come ahead of this one or behind it. -/
def unOf (ops : Array Oper) (is : Array AI) (j : Nat) : List Nat :=
  let b := Region.before ops
  (List.range is.size).filterMap fun i => if i = j || (b.getD j 0).testBit i || (b.getD i 0).testBit j then none else
    match is[i]?, is[j]? with
    | some x, some y => if looksAway y.k then none else (tagsOf x).head?
    | _, _ => none

/-- What is appended to is not what is not to be named where something is looked at. -/
def unA (ops : Array Oper) (is : Array AI) (j : Nat) : List Nat :=
  let b := Region.before ops
  match is[j]? with
  | some y => if isApp y.k then (List.range is.size).flatMap fun i => if i = j || (b.getD j 0).testBit i || (b.getD i 0).testBit j then [] else
      match is[i]? with
      | some x => if isLk x.k then x.un.map (· + 1000) else []
      | none => [] else []
  | none => []
def setUnA (ops : Array Oper) (is : Array AI) (j : Nat) : List AI → List AI
  | [] => []
  | i :: l => { i with un := i.un ++ unA ops is j } :: setUnA ops is (j + 1) l

def setUn (ops : Array Oper) (is : Array AI) (j : Nat) : List AI → List AI
  | [] => []
  | i :: l => { i with un := unOf ops is j } :: setUn ops is (j + 1) l

/-- A store to what an operation of the same region has made: its tag. -/
def tgOf (is : List AI) (i : AI) : Option Nat :=
  match i.k, i.xs with
  | .store _, .tmp s :: _ => if is.any fun x => x.d == some s && (match x.k with | .alloc _ | .box => true | _ => false) then some s else none
  | _, _ => none
def setTg (is : List AI) : List AI → List AI
  | [] => []
  | i :: l => { i with tg := tgOf is i } :: setTg is l
/-- A store to what lies in a slot: its tag is the slot. -/
def tgOf2 (i : AI) : Option Nat :=
  match i.k, i.xs with
  | .store _, .tmp s :: _ => some s
  | _, _ => none
def setTg2 : List AI → List AI
  | [] => []
  | i :: l => { i with tg := tgOf2 i } :: setTg2 l

/-- A constant, or a slot, laid into a slot that the other does not know of. -/
def okOp (x : AI) : Operand → Bool
  | .const _ => true
  | .tmp s => x.d != some s
  | _ => false
def cmB (y x : AI) : Bool :=
  match y.k, y.xs, y.d, y.g, y.tg, y.un with
  | .mov, [o], some dd, none, none, [] => okOp x o && !(usesOf x).contains dd && x.d != some dd
  | _, _, _, _, _, _ => false
/-- A load ahead of a call. -/
def ldB (y x : AI) : Bool :=
  match y.k, y.xs, y.d, y.g, y.tg, x.k with
  | .load _, [.tmp s], some dd, none, none, .call _ => x.d != some s && !(usesOf x).contains dd && x.d != some dd && dd != s
  | _, _, _, _, _, _ => false
def slotOf (y : AI) : List Nat :=
  match y.k, y.xs with
  | .load _, [.tmp s] => [s]
  | _, _ => []
def isCall : AK → Bool
  | .call _ | .calv => true
  | _ => false
def ldsOf (ops : Array Oper) (is : Array AI) (j : Nat) : List Nat :=
  (List.range j).flatMap fun q => if bits ops q j then [] else match is[q]? with
    | some y => slotOf y
    | none => []
/-- May the call take objects over? All that is not bound to it is such a mov, or a load ahead of it. -/
def mayM (ops : Array Oper) (is : Array AI) (j : Nat) (x : AI) : Bool :=
  isCall x.k && x.g.isNone && x.tg.isNone && x.un.isEmpty && (List.range is.size).all fun q => q == j || (if q < j then bits ops q j else bits ops j q) || (match is[q]? with
    | some y => (cmB y x || (decide (q < j) && ldB y x)) && (match y.d with | some dd => !(ldsOf ops is j).contains dd | none => true)
    | none => false)
def setM (ops : Array Oper) (is : Array AI) (j : Nat) : List AI → List AI
  | [] => []
  | i :: l => (if mayM ops is j i then { i with tg := some 999999, un := ldsOf ops is j } else i) :: setM ops is (j + 1) l

/-- Is a slot read on, as it is? Where does a slot's value come from? -/
def readsOld (b : Nat) : List AI → Bool
  | [] => false
  | i :: l => (match i.k, i.xs with
    | .mov, [.tmp s] => s == b
    | _, _ => false) || (if i.d == some b then false else readsOld b l)
def movOf (s : Nat) : List AI → Option Nat
  | [] => none
  | i :: l => if i.d == some s then (match i.k, i.xs with
    | .mov, [.tmp b] => some b
    | _, _ => none) else movOf s l
def apsB (i : AI) (pre l : List AI) : Bool :=
  match i.k, i.xs, i.g with
  | .app _ _ _, .tmp s :: _, none => match movOf s pre with
    | some b => readsOld b l
    | none => false
  | _, _, _ => false
def setA (pre : List AI) : List AI → List AI
  | [] => []
  | i :: l => (if apsB i pre l then { i with tg := some 999998 } else i) :: setA (i :: pre) l

/-- A region whose order is drawn. -/
def drawn (ops : Array Oper) (js : List AI) : Option AC :=
  let hs := setUn ops js.toArray 0 js
  let ks := setUnA ops hs.toArray 0 hs
  if freeB ops ks.toArray && ks.all (fun i => i.tg != some 999999) then some (.reg (setM ops ks.toArray 0 ks) true []) else none
/-- An order in which what is appended comes first, with all that it needs. -/
def appsFirst (ops : Array Oper) (js : List AI) : List Nat :=
  let b := Region.before ops
  let f := fun j => (List.range ops.size).any fun i => (match js[i]? with | some x => isApp x.k | none => false) && (i == j || (b.getD i 0).testBit j)
  (List.range ops.size).filter f ++ (List.range ops.size).filter fun j => !f j
/-- What is bound to be first comes first; each two that may change places do. -/
def ordB (ops : Array Oper) (ks : Array AI) : List Nat → List Nat → Bool
  | _, [] => true
  | pre, j :: l => (match ops[j]? with
      | some o => o.after.all fun e => !Region.binds .any e || pre.contains e.on
      | none => false) && (!pre.contains j) && (l.all fun b => (decide (j < b) && bits ops j b) || match ks[j]?, ks[b]? with
        | some x, some y => apartB x y
        | _, _ => false) && ordB ops ks (j :: pre) l
def drawn2 (ops : Array Oper) (js : List AI) (l : List Nat) : Option AC :=
  let hs := setUn ops js.toArray 0 js
  let ks := setUnA ops hs.toArray 0 hs
  if l.length = ops.size ∧ ordB ops ks.toArray [] l = true ∧ ((List.range ops.size).all fun j => earlierB ops j && (List.range j).all fun i => chainB ops i j) = true ∧ (l.all fun j => decide (j < ops.size)) = true ∧ ((List.range ops.size).all fun j => l.contains j) = true ∧ ks.all (fun i => i.tg != some 999999) = true then some (.reg (l.filterMap fun j => ks[j]?) true []) else none
def comp (P : Program) (N : Nat) : Code → Option AC
  | .skip => some .skip
  | .region _ ops draw => match compIs P N ops ops.toList with
    | some is => if draw then
      ((drawn ops (setTg is is)).or (drawn ops (setTg2 is))).or ((drawn2 ops (setTg is is) (appsFirst ops is)).or (drawn2 ops (setTg2 is) (appsFirst ops is)))
      else some (.reg (setA [] is) false [])
    | none => none
  | .seq a b => match comp P N a, comp P N b with
    | some x, some y => some (.seq x y)
    | _, _ => none
  | .cond c a b => match comp P N a, comp P N b with
    | some x, some y => some (.cond c x y)
    | _, _ => none
  | .block id a => (comp P N a).map (.block id)
  | .loop a => (comp P N a).map .loop
  | .exit id => some (.exit id)
  | .ret => some .ret
  | .scope a => comp P N a
  | .label _ => some .skip
  | _ => none

/-- Slots that a row of operations reads ahead of writing them. -/
def exposed (w : List Nat) : List AI → List Nat
  | [] => []
  | i :: l => (usesOf i).filter (fun s => !w.contains s) ++ exposed (i.d.toList ++ w) l
def needs : AC → List Nat
  | .reg is _ _ => exposed [] is
  | .seq a b => needs a ++ needs b
  | .cond x a b => tmpsOf [x] ++ needs a ++ needs b
  | .block _ a | .loop a => needs a
  | _ => []
def setKeep (keep : List Nat) : AC → AC
  | .reg is d _ => .reg is d keep
  | .seq a b => .seq (setKeep keep a) (setKeep keep b)
  | .cond x a b => .cond x (setKeep keep a) (setKeep keep b)
  | .block id a => .block id (setKeep keep a)
  | .loop a => .loop (setKeep keep a)
  | c => c

/-- The slots of the results; those that lie in cells are loaded. -/
def resVars (P : Program) : List ResultVar → Option (List (Nat × Option (Option Nat)))
  | [] => some []
  | .tmp t :: l => (resVars P l).map ((t, none) :: ·)
  | .cell a t :: l => (aggN P t).bind fun n => (resVars P l).map ((a, some n) :: ·)

structure AFn where
  n : Nat
  params : Nat
  res : List (Nat × Option (Option Nat))
  body : AC

def compFn (P : Program) (f : FuncId) (keep : List Nat) : Option AFn :=
  match P.funcs[f]? with
  | some fn => match fn.body, resVars P fn.results.toList with
    | some c, some rs => (comp P fn.ntmps c).bind fun b => if fn.ntmps ≤ 998 then some ⟨fn.ntmps, fn.params.size + fn.nfree, rs, setKeep keep b⟩ else none
    | _, _ => none
  | none => none

end Go.Proofs.Ythblkhafehanfaa.Ab
