/- An abstract machine for the code of one function: slices, strings and structs as plain data; what each operation makes of them. Definitions alone. -/
import Derived.WalkKit
import Derived.WalkSpells
import Derived.WalkLawsBesides
namespace Go.Proofs.Ythblkhafehanfaa.Ab
open Go Go.RowKit

/-- One cell as plain data. -/
inductive PV where
  | int (k : IntKind) (n : Int)
  | bool (b : Bool)
  | str (l : List UInt8)
  | nil
  | ro (rows : List (List PV))
  | mp (ks : List PV)
  | mv (es : List (PV × PV))
  | pt (cs : List PV)
  | val (v : Value)

/-- A slot's value. -/
inductive AV where
  | pv (p : PV)
  | own (t : Nat)
  | ptr (t off : Nat)
  | eptr (t : Nat) (e : TypeId) (i : Int) (off : Nat)
  | sub (t : Nat) (e : TypeId) (lo hi : Nat)
  | rp (cs : List PV)
  | agg (cs : List AV)
  | tup (vs : List AV)
  | clo (f : FuncId) (caps : List AV)
  | fr (e : TypeId) (rows : List (List PV))
  | bx (cs : List AV)
  | mf (es : List (PV × PV))
  | cnd (g : Bool) (v : AV)
  | junk

/-- An object that the call owns. -/
inductive AO where
  | box (cs : List AV)
  | arr (e : TypeId) (rows : List (List PV))
  | map (es : List (PV × AV))
  | rws (e : TypeId) (cs : List AV)
  | mpv (es : List (PV × PV))
  | itr (rem : List (PV × PV)) (cur : Option (PV × PV))

structure St where
  vars : Nat → AV
  objs : Nat → Option AO

def cvp : Value → PV
  | .int k n => .int k n
  | .bool b => .bool b
  | .string s => .str s.data.toList
  | .slice none 0 0 => .nil
  | v => .val v

def cv (v : Value) : AV := if v.oneCell' = true then .pv (cvp v) else .junk

def ev (vars : Nat → AV) : Operand → AV
  | .tmp t => vars t
  | .const v => cv v
  | .func f => .clo f []
  | .global _ => .junk

def put (d : Option Nat) (v : AV) (f : Nat → AV) : Nat → AV :=
  match d with
  | some d => fun s => if s = d then v else f s
  | none => f

def addO (t : Nat) (o : AO) (f : Nat → Option AO) : Nat → Option AO := fun s => if s = t then some o else f s

/-- The frame as a list, for reckoning. -/
def look (l : List (Nat × AV)) (s : Nat) : AV :=
  match l with
  | [] => .junk
  | (t, v) :: l => if s = t then v else look l s
def lookO (l : List (Nat × AO)) (s : Nat) : Option AO :=
  match l with
  | [] => none
  | (t, v) :: l => if s = t then some v else lookO l s

/-- What a conditional value asks, and what it is then. -/
def asks : AV → Prop
  | .cnd g v => g = true ∧ asks v
  | _ => True
def strip : AV → AV
  | .cnd _ v => strip v
  | v => v
def asksL : List AV → Prop
  | [] => True
  | v :: l => asks v ∧ asksL l

/-- Operations of their own, done in the text's order alone: a map made, an entry put, a key looked up (the sort of the keys; the zero value; with 'ok'?). -/
inductive XK where
  | mkm
  | mput (s : Nat)
  | mget (s : Nat) (z : Value) (ok : Bool)
  | dead
  | isnil (ne : Bool)
  | add64
  | capn
  | appz (e : TypeId) (sz bytes : Nat) (zs : List Value)
  | bslk (e : TypeId)
  | mks (e : TypeId) (bytes : Nat) (zs : List Value)
  | mark
  | rst
  | pubk
  | mkv
  | puv (s : Nat)
  | gev (s : Nat) (z : Value) (ok : Bool)
  | dlv (s : Nat)
  | pnil (ne : Bool)
  | rng
  | nxt
  | ent

inductive AK where
  | mov | pick
  | bin (op : BinOp) | beq (ne : Bool) | not | neg
  | cvi (k : IntKind) | scv
  | len | slen
  | sidx | ssl (lo hi : Bool)
  | fld (off : Nat) (n : Option Nat)
  | fad (off : Nat)
  | load (n : Option Nat)
  | ixa (e : TypeId) (sz : Nat)
  | ixp (n sz : Nat)
  | nck
  | slc (sz : Nat) (lo hi : Bool)
  | ext (i : Nat)
  | bld (zs : List Value) (parts : List (Nat × Nat))
  | mkf (f : FuncId)
  | nilS (e : TypeId)
  | box
  | alloc (zs : List Value)
  | bsl (e : TypeId) (sz : Nat)
  | call (f : FuncId)
  | calv
  | mnx (mx : Bool)
  | eqs (ne : Bool) (ks : List Nat)
  | store (n : Option Nat)
  | app (e : TypeId) (sz bytes : Nat)
  | btoS
  | stoB (e : TypeId)
  | clr (e : TypeId) (sz : Nat) (zs : List Value)
  | ex (x : XK)

structure AI where
  d : Option Nat
  k : AK
  xs : List Operand
  g : Option (Nat × Bool)
  un : List Nat
  tg : Option Nat

inductive AC where
  | skip
  | reg (is : List AI) (drawn : Bool) (keep : List Nat)
  | seq (a b : AC)
  | cond (x : Operand) (a b : AC)
  | block (id : Nat) (a : AC)
  | loop (a : AC)
  | exit (id : Nat)
  | ret

/-! ### What an operation makes of plain data -/

def sbit (op : BinOp) (k : IntKind) (a b : Int) : PV := .int k (k.wrap (match op with
  | .and => (BitVec.ofInt k.bits a &&& BitVec.ofInt k.bits b).toNat
  | .or => (BitVec.ofInt k.bits a ||| BitVec.ofInt k.bits b).toNat
  | .xor => (BitVec.ofInt k.bits a ^^^ BitVec.ofInt k.bits b).toNat
  | _ => (BitVec.ofInt k.bits a &&& ~~~ BitVec.ofInt k.bits b).toNat : Nat))

def sbin (op : BinOp) (x y : PV) : Option (Prop × PV) :=
  match x, y with
  | .int k a, .int k' b =>
    match op with
    | .shl => some (0 ≤ b, .int k (k.wrap (a * 2 ^ (min b.toNat k.bits))))
    | .shr => some (0 ≤ b, .int k (a.fdiv (2 ^ (min b.toNat k.bits))))
    | op => if k = k' then
      match op with
      | .add => some (True, .int k (k.wrap (a + b)))
      | .sub => some (True, .int k (k.wrap (a - b)))
      | .mul => some (True, .int k (k.wrap (a * b)))
      | .quo => some (b ≠ 0, .int k (k.wrap (a.tdiv b)))
      | .rem => some (b ≠ 0, .int k (a.tmod b))
      | .eql => some (True, .bool (decide (a = b)))
      | .neq => some (True, .bool (!decide (a = b)))
      | .lss => some (True, .bool (decide (a < b)))
      | .leq => some (True, .bool (decide (a ≤ b)))
      | .gtr => some (True, .bool (decide (b < a)))
      | .geq => some (True, .bool (decide (b ≤ a)))
      | op => some (True, sbit op k a b)
      else none
  | .str a, .str b =>
    match op with
    | .add => some (a.length + b.length ≤ 9223372036854775807, .str (a ++ b))
    | .eql => some (True, .bool (decide (a = b)))
    | .neq => some (True, .bool (!decide (a = b)))
    | .lss => some (True, .bool (Op.bytesLess a b))
    | .leq => some (True, .bool (Op.bytesLess a b || decide (a = b)))
    | .gtr => some (True, .bool (!(Op.bytesLess a b || decide (a = b))))
    | .geq => some (True, .bool (!Op.bytesLess a b))
    | _ => none
  | _, _ => none

def kIdx : IntKind → Nat
  | .i8 => 0 | .i16 => 1 | .i32 => 2 | .i64 => 3 | .u8 => 4 | .u16 => 5 | .u32 => 6 | .u64 => 7
def srt : PV → Nat
  | .bool _ => 0
  | .str _ => 1
  | .int k _ => 2 + kIdx k
  | _ => 99
def eqP : PV → PV → Bool
  | .int _ a, .int _ b => decide (a = b)
  | .str a, .str b => decide (a = b)
  | .bool a, .bool b => decide (a = b)
  | _, _ => false
/-- Structs of numbers, texts and Bools: cell by cell. -/
def eqPs : List PV → List PV → Bool
  | [], [] => true
  | a :: l, b :: m => eqP a b && eqPs l m
  | _, _ => false

def rowAt (rows : List (List PV)) (i : Int) : List PV := rows.getD i.toNat []

def bytesRow (l : List UInt8) : List (List PV) := l.map fun c => [.int .u8 (c.toNat : Int)]

/-- A cell as plain data, if it is that. -/
def pvOf : AV → Option PV
  | .pv p => some p
  | _ => none
def pvsOf : List AV → Option (List PV)
  | [] => some []
  | v :: l => (pvOf v).bind fun p => (pvsOf l).map (p :: ·)
/-- An element of a slice, as a row of cells. -/
def rowOf : AV → Option (List PV)
  | .agg cs => pvsOf cs
  | .pv p => some [p]
  | _ => none
def rowsOf : List AV → Option (List (List PV))
  | [] => some []
  | v :: l => (rowOf v).bind fun p => (rowsOf l).map (p :: ·)

def cellsOf : AV → List AV
  | .agg cs => cs
  | v => [v]

def oneAV : AV → Bool
  | .pv (.val v) => v.oneCell'
  | .pv _ | .own _ | .ptr _ _ | .eptr _ _ _ _ | .sub _ _ _ _ | .rp _ | .clo _ _ => true
  | _ => false
def ones : List AV → Bool
  | [] => true
  | c :: cs => oneAV c && ones cs
/-- Its cells are known. -/
def partOK : AV → Bool
  | .agg _ => true
  | v => oneAV v

/-- A function by its name alone is plain data in a struct. -/
def nrmF : AV → AV
  | .clo f [] => .pv (.val (.func (.func f) #[] #[]))
  | v => v
/-- Parts laid into a struct's cells. -/
def lay (cs : List AV) (off : Nat) (ps : List AV) : List AV := cs.take off ++ ps ++ cs.drop (off + ps.length)
def layAll (cs : List AV) : List (Nat × Nat) → List AV → Option (List AV)
  | [], [] => some cs
  | (off, n) :: ps, x :: xs => if partOK x = true ∧ (cellsOf x).length = n ∧ off + n ≤ cs.length then layAll (lay cs off ((cellsOf x).map nrmF)) ps xs else none
  | _, _ => none

def bounds (n : Nat) (lo hi : Bool) (xs : List AV) : Option (Int × Int) :=
  match lo, hi, xs with
  | false, false, [] => some (0, n)
  | true, false, [.pv (.int _ l)] => some (l, n)
  | false, true, [.pv (.int _ h)] => some (0, h)
  | true, true, [.pv (.int _ l), .pv (.int _ h)] => some (l, h)
  | _, _, _ => none

def cut {α : Type} (l : List α) (lo hi : Int) : List α := (l.take hi.toNat).drop lo.toNat

def arrO : Option AO → Option (TypeId × List (List PV))
  | some (.arr e rows) => some (e, rows)
  | _ => none
def rwsO : Option AO → Option (TypeId × List AV)
  | some (.rws e cs) => some (e, cs)
  | _ => none
/-- A slice's length; the elements' type with it. -/
def idxO : Option AO → Option (TypeId × Nat)
  | some (.arr e rows) => some (e, rows.length)
  | some (.rws e cs) => some (e, cs.length)
  | _ => none
def boxO : Option AO → Option (List AV)
  | some (.box cs) => some cs
  | _ => none

def rowsIn (objs : Nat → Option AO) : AV → Option (List (List PV))
  | .pv .nil => some []
  | .pv (.ro rows) => some rows
  | .pv (.str l) => some (bytesRow l)
  | .own t => (arrO (objs t)).map (·.2)
  | .sub t e lo hi => (arrO (objs t)).bind fun r => if r.1 = e then some ((r.2.take hi).drop lo) else none
  | _ => none

/-- The rows of a slice. -/
def rowsB (objs : Nat → Option AO) : AV → Option (List (List PV))
  | .pv .nil => some []
  | .pv (.ro rows) => some rows
  | .own t => (arrO (objs t)).map (·.2)
  | .sub t e lo hi => (arrO (objs t)).bind fun r => if r.1 = e then some ((r.2.take hi).drop lo) else none
  | _ => none

/-- A row of bytes read back. -/
def byteOf : List PV → Option UInt8
  | [.int .u8 n] => if 0 ≤ n ∧ n < 256 then some (UInt8.ofNat n.toNat) else none
  | _ => none
def bytesOf : List (List PV) → Option (List UInt8)
  | [] => some []
  | r :: l => (byteOf r).bind fun c => (bytesOf l).map (c :: ·)

/-- May it be what one cell holds? -/
def cellB : AV → Bool
  | .agg _ | .tup _ | .cnd _ _ | .junk => false
  | _ => true

/-- A cell of an element. -/
def loadE (e : TypeId) (i : Int) (o : Nat) : Option AO → Option (Prop × AV)
  | some (.arr e' rows) => if e' = e then some (0 ≤ i ∧ i < rows.length ∧ o < (rowAt rows i).length, .pv ((rowAt rows i).getD o (.int .u8 0))) else none
  | some (.rws e' cs) => if e' = e ∧ o = 0 then (cs[i.toNat]?).bind fun c => if cellB c = true then some (0 ≤ i, c) else none else none
  | _ => none
/-- Operations that read, and write a slot alone. -/
def semQ (k : AK) (xs : List AV) (objs : Nat → Option AO) : Option (Prop × AV) :=
  match k, xs with
  | .bin op, [.pv x, .pv y] => (sbin op x y).map fun r => (r.1, .pv r.2)
  | .beq ne, [.pv (.bool x), .pv (.bool y)] => some (True, .pv (.bool (if ne then x != y else x == y)))
  | .not, [.pv (.bool b)] => some (True, .pv (.bool (!b)))
  | .neg, [.pv (.int k n)] => some (True, .pv (.int k (k.wrap (0 - n))))
  | .cvi k, [.pv (.int _ n)] => some (True, .pv (.int k (k.wrap n)))
  | .scv, [.pv (.str l)] => some (True, .pv (.str l))
  | .slen, [.pv (.str l)] => some (True, .pv (.int .i64 l.length))
  | .len, [.pv .nil] => some (True, .pv (.int .i64 0))
  | .len, [.pv (.ro rows)] => some (True, .pv (.int .i64 rows.length))
  | .len, [.own t] => (idxO (objs t)).map fun r => (True, .pv (.int .i64 r.2))
  | .len, [.sub t _ lo hi] => (arrO (objs t)).map fun _ => (True, .pv (.int .i64 ((hi : Int) - (lo : Int))))
  | .sidx, [.pv (.str l), .pv (.int _ i)] => some (0 ≤ i ∧ i < l.length, .pv (.int .u8 ((l.getD i.toNat 0).toNat : Int)))
  | .ssl lo hi, .pv (.str l) :: bs => (bounds l.length lo hi bs).map fun b : Int × Int => (0 ≤ b.1 ∧ b.1 ≤ b.2 ∧ b.2 ≤ (l.length : Int), .pv (.str (cut l b.1 b.2)))
  | .fld off none, [.agg cs] => (cs[off]?).map fun c => (True, c)
  | .fld off (some n), [.agg cs] => if off + n ≤ cs.length then some (True, .agg ((cs.drop off).take n)) else none
  | .fad off, [.ptr t o] => some (True, .ptr t (o + off))
  | .fad off, [.eptr t e i o] => some (True, .eptr t e i (o + off))
  | .fad off, [.rp cs] => some (True, .rp (cs.drop off))
  | .ixp n sz, [.ptr t o, .pv (.int _ i)] => some (0 ≤ i ∧ i < (n : Int), .ptr t (o + i.toNat * sz))
  | .ixp n sz, [.rp cs, .pv (.int _ i)] => some (0 ≤ i ∧ i < (n : Int), .rp (cs.drop (i.toNat * sz)))
  | .nck, [.ptr t o] => some (True, .ptr t o)
  | .nck, [.eptr t e i o] => some (True, .eptr t e i o)
  | .nck, [.rp cs] => some (True, .rp cs)
  | .load none, [.ptr t o] => (boxO (objs t)).bind fun cs => (cs[o]?).bind fun c => if cellB c = true then some (True, c) else none
  | .load (some n), [.ptr t o] => (boxO (objs t)).bind fun cs => if o + n ≤ cs.length then some (True, .agg ((cs.drop o).take n)) else none
  | .load none, [.eptr t e i o] => loadE e i o (objs t)
  | .load (some n), [.eptr t e i o] => (arrO (objs t)).bind fun r => if r.1 = e ∧ o + n ≤ (rowAt r.2 i).length then some (0 ≤ i ∧ i < r.2.length, .agg ((((rowAt r.2 i).drop o).take n).map .pv)) else none
  | .load none, [.rp (c :: _)] => some (True, .pv c)
  | .load none, [.rp []] => some (False, .pv (.int .u64 0))
  | .load (some n), [.rp cs] => if n ≤ cs.length then some (True, .agg ((cs.take n).map .pv)) else none
  | .ixa _ sz, [.pv (.ro rows), .pv (.int _ i)] => some (0 ≤ i ∧ i < rows.length ∧ (rowAt rows i).length = sz, .rp (rowAt rows i))
  | .ixa e _, [.own t, .pv (.int _ i)] => (idxO (objs t)).bind fun r => if r.1 = e then some (0 ≤ i ∧ i < r.2, .eptr t e i 0) else none
  | .ixa e _, [.sub t e1 lo hi, .pv (.int _ i)] => (arrO (objs t)).bind fun r => if r.1 = e ∧ e1 = e then some (0 ≤ i ∧ i < (hi : Int) - (lo : Int), .eptr t e ((lo : Int) + i) 0) else none
  | .slc sz lo hi, .own t :: bs => (arrO (objs t)).bind fun r => (bounds r.2.length lo hi bs).map fun b : Int × Int => (0 ≤ b.1 ∧ b.1 ≤ b.2 ∧ b.2 ≤ (r.2.length : Int) ∧ (∀ x ∈ r.2, x.length = sz), .sub t r.1 b.1.toNat b.2.toNat)
  | .slc sz lo hi, .sub t e l h :: bs => (arrO (objs t)).bind fun r => if r.1 = e then (bounds (h - l) lo hi bs).map fun b : Int × Int => (0 ≤ b.1 ∧ b.1 ≤ b.2 ∧ b.2 ≤ ((h - l : Nat) : Int) ∧ (∀ x ∈ r.2, x.length = sz), .sub t e (l + b.1.toNat) (l + b.2.toNat)) else none
  | .slc sz lo hi, .pv (.ro rows) :: bs => (bounds rows.length lo hi bs).map fun b : Int × Int => (0 ≤ b.1 ∧ b.1 ≤ b.2 ∧ b.2 ≤ (rows.length : Int) ∧ (∀ r ∈ rows, r.length = sz), .pv (.ro (cut rows b.1 b.2)))
  | .slc _ lo hi, .pv .nil :: bs => (bounds 0 lo hi bs).map fun b : Int × Int => (b.1 = 0 ∧ b.2 = 0, .pv .nil)
  | .ext i, [.tup vs] => (vs[i]?).map fun v => (True, v)
  | .bld zs ps, xs => (layAll (zs.map cv) ps xs).map fun cs => (True, .agg cs)
  | .mkf f, xs => some (True, .clo f xs)
  | .mnx mx, [.pv (.int k a), .pv (.int k' b)] => if k = k' then some (True, .pv (.int k (if mx then max a b else min a b))) else none
  | .eqs ne ks, [.agg xs, .agg ys] => (pvsOf xs).bind fun a => (pvsOf ys).map fun b => (a.map srt = ks ∧ b.map srt = ks, .pv (.bool (if ne then !eqPs a b else eqPs a b)))
  | .btoS, [x] => (rowsB objs x).bind fun rows => (bytesOf rows).map fun l => (True, .pv (.str l))
  | _, _ => none

end Go.Proofs.Ythblkhafehanfaa.Ab
