/-
  No cell of these rows narrows 'for every input' (looked for: loops, veiled, ifaces, maps, wideKeys, modest, calm, conditions, laid).
  DERIVED. THE GIVEN ROWS OF THIS SEAT. 8 by the template 'for every input the law returns true; each argument reads behind the call as it read before'; 0 by the template 'total and deterministic' (their statements: YthblkhafehanfaaTotals.lean).
  GIVEN WITH THE SEED: the statements are not yours to turn. If you find one false, say at which input.
  Laid BY PROGRAM, IN A SANDBOX (cutbox-rows.mjs): the forced cells as the released guide's own fill.sh prints them over the translation 1fda463626767070… (all of the seat's roots in one cut). By AI agents, Wed Nov 11 2026. No macro, syntax, notation, axiom, sorry.
-/
import Derived.Test.YthblkhafehanfaaChecked
import GoSem.Claim
import GoSem.ClaimJoined
import GoSem.ClaimMapViews
import Derived.JoinedTies
import Derived.KernelRfl
namespace Go.Proofs.Ythblkhafehanfaa
/- THE CELL 'sum', in the pinned program and in every row, IS THE sha256 OF THE DUMP (.gsa) THAT YthblkhafehanfaaProg.lean LOADS. Nothing in Lean hashes anything: it is a label: what it is worth is what the hold of that sum in a sandbox is worth. -/
noncomputable def Try.pinned : Pinned := { name := "ythblkhafehanfaa", sum := "1fda463626767070e23606513bd79c238e7d1f1947bf682ab69519150266f77b", checked := Try.checked }
namespace Rows
def none {H : Type} : Left H := { results := [], args := [] }

/-- 'chartroomlaw08.DirectFails': WHATEVER THE INPUT: true; the input reads as it did. -/
def directFailsSpec : ChangeSpec := { name := "directFails", fn := fun _ => fun
  | [d1, d2, d3] => { results := [.lit (.bool true)], args := [d1, d2, d3] }
  | _ => none }
def directFailsRow : OpenClaim := { program := "ythblkhafehanfaa", sum := "1fda463626767070e23606513bd79c238e7d1f1947bf682ab69519150266f77b", func := "chartroom/chartroomlaw08.DirectFails", spec := "directFails", inPlace := ["maps.clone"], unfollowed := true, recurses := true, apart := false }
def DirectFailsSaid : Prop := directFailsRow.holds Try.pinned (OpenSpec.ofChange directFailsSpec)

/-- ITS FALSE NEIGHBOUR: 'it returns false'. Refute it at one input. -/
def directFailsWrong : ChangeSpec := { name := "directFails", fn := fun _ => fun
  | [d1, d2, d3] => { results := [.lit (.bool false)], args := [d1, d2, d3] }
  | _ => none }
def DirectFailsWrongFalsely : Prop := directFailsRow.holds Try.pinned (OpenSpec.ofChange directFailsWrong)

/-- 'chartroomlaw08.DirectPlays': WHATEVER THE INPUT: true; the input reads as it did. -/
def directPlaysSpec : ChangeSpec := { name := "directPlays", fn := fun _ => fun
  | [d] => { results := [.lit (.bool true)], args := [d] }
  | _ => none }
def directPlaysRow : OpenClaim := { program := "ythblkhafehanfaa", sum := "1fda463626767070e23606513bd79c238e7d1f1947bf682ab69519150266f77b", func := "chartroom/chartroomlaw08.DirectPlays", spec := "directPlays", inPlace := ["maps.clone"], unfollowed := true, recurses := true, apart := false }
def DirectPlaysSaid : Prop := directPlaysRow.holds Try.pinned (OpenSpec.ofChange directPlaysSpec)

/-- ITS FALSE NEIGHBOUR: 'it returns false'. Refute it at one input. -/
def directPlaysWrong : ChangeSpec := { name := "directPlays", fn := fun _ => fun
  | [d] => { results := [.lit (.bool false)], args := [d] }
  | _ => none }
def DirectPlaysWrongFalsely : Prop := directPlaysRow.holds Try.pinned (OpenSpec.ofChange directPlaysWrong)

/-- 'chartroomlaw08.DirectNone': WHATEVER THE INPUT: true; the input reads as it did. -/
def directNoneSpec : ChangeSpec := { name := "directNone", fn := fun _ => fun
  | [d1, d2] => { results := [.lit (.bool true)], args := [d1, d2] }
  | _ => none }
def directNoneRow : OpenClaim := { program := "ythblkhafehanfaa", sum := "1fda463626767070e23606513bd79c238e7d1f1947bf682ab69519150266f77b", func := "chartroom/chartroomlaw08.DirectNone", spec := "directNone", inPlace := ["maps.clone"], unfollowed := true, recurses := true, apart := false }
def DirectNoneSaid : Prop := directNoneRow.holds Try.pinned (OpenSpec.ofChange directNoneSpec)

/-- ITS FALSE NEIGHBOUR: 'it returns false'. Refute it at one input. -/
def directNoneWrong : ChangeSpec := { name := "directNone", fn := fun _ => fun
  | [d1, d2] => { results := [.lit (.bool false)], args := [d1, d2] }
  | _ => none }
def DirectNoneWrongFalsely : Prop := directNoneRow.holds Try.pinned (OpenSpec.ofChange directNoneWrong)

/-- 'chartroomlaw08.DirectKnown': WHATEVER THE INPUT: true; the input reads as it did. -/
def directKnownSpec : ChangeSpec := { name := "directKnown", fn := fun _ => fun
  | [] => { results := [.lit (.bool true)], args := [] }
  | _ => none }
def directKnownRow : OpenClaim := { program := "ythblkhafehanfaa", sum := "1fda463626767070e23606513bd79c238e7d1f1947bf682ab69519150266f77b", func := "chartroom/chartroomlaw08.DirectKnown", spec := "directKnown", inPlace := ["maps.clone"], unfollowed := true, recurses := true, apart := false }
def DirectKnownSaid : Prop := directKnownRow.holds Try.pinned (OpenSpec.ofChange directKnownSpec)

/-- ITS FALSE NEIGHBOUR: 'it returns false'. Refute it at one input. -/
def directKnownWrong : ChangeSpec := { name := "directKnown", fn := fun _ => fun
  | [] => { results := [.lit (.bool false)], args := [] }
  | _ => none }
def DirectKnownWrongFalsely : Prop := directKnownRow.holds Try.pinned (OpenSpec.ofChange directKnownWrong)

/-- 'chartroomlaw09.InodeKeeps': WHATEVER THE INPUT: true; the input reads as it did. -/
def inodeKeepsSpec : ChangeSpec := { name := "inodeKeeps", fn := fun _ => fun
  | [d1, d2, d3] => { results := [.lit (.bool true)], args := [d1, d2, d3] }
  | _ => none }
def inodeKeepsRow : OpenClaim := { program := "ythblkhafehanfaa", sum := "1fda463626767070e23606513bd79c238e7d1f1947bf682ab69519150266f77b", func := "chartroom/chartroomlaw09.InodeKeeps", spec := "inodeKeeps", unfollowed := true, recurses := true, apart := false }
def InodeKeepsSaid : Prop := inodeKeepsRow.holds Try.pinned (OpenSpec.ofChange inodeKeepsSpec)

/-- ITS FALSE NEIGHBOUR: 'it returns false'. Refute it at one input. -/
def inodeKeepsWrong : ChangeSpec := { name := "inodeKeeps", fn := fun _ => fun
  | [d1, d2, d3] => { results := [.lit (.bool false)], args := [d1, d2, d3] }
  | _ => none }
def InodeKeepsWrongFalsely : Prop := inodeKeepsRow.holds Try.pinned (OpenSpec.ofChange inodeKeepsWrong)

/-- 'chartroomlaw09.InodeKnown': WHATEVER THE INPUT: true; the input reads as it did. -/
def inodeKnownSpec : ChangeSpec := { name := "inodeKnown", fn := fun _ => fun
  | [] => { results := [.lit (.bool true)], args := [] }
  | _ => none }
def inodeKnownRow : OpenClaim := { program := "ythblkhafehanfaa", sum := "1fda463626767070e23606513bd79c238e7d1f1947bf682ab69519150266f77b", func := "chartroom/chartroomlaw09.InodeKnown", spec := "inodeKnown", unfollowed := true, recurses := true, apart := false }
def InodeKnownSaid : Prop := inodeKnownRow.holds Try.pinned (OpenSpec.ofChange inodeKnownSpec)

/-- ITS FALSE NEIGHBOUR: 'it returns false'. Refute it at one input. -/
def inodeKnownWrong : ChangeSpec := { name := "inodeKnown", fn := fun _ => fun
  | [] => { results := [.lit (.bool false)], args := [] }
  | _ => none }
def InodeKnownWrongFalsely : Prop := inodeKnownRow.holds Try.pinned (OpenSpec.ofChange inodeKnownWrong)

/-- 'chartroomlaw14.PinsTell': WHATEVER THE INPUT: true; the input reads as it did. -/
def pinsTellSpec : ChangeSpec := { name := "pinsTell", fn := fun _ => fun
  | [d1, d2, d3, d4, d5] => { results := [.lit (.bool true)], args := [d1, d2, d3, d4, d5] }
  | _ => none }
def pinsTellRow : OpenClaim := { program := "ythblkhafehanfaa", sum := "1fda463626767070e23606513bd79c238e7d1f1947bf682ab69519150266f77b", func := "chartroom/chartroomlaw14.PinsTell", spec := "pinsTell", inPlace := ["math/bits.Add64"], unfollowed := true, recurses := true, apart := false }
def PinsTellSaid : Prop := pinsTellRow.holds Try.pinned (OpenSpec.ofChange pinsTellSpec)

/-- ITS FALSE NEIGHBOUR: 'it returns false'. Refute it at one input. -/
def pinsTellWrong : ChangeSpec := { name := "pinsTell", fn := fun _ => fun
  | [d1, d2, d3, d4, d5] => { results := [.lit (.bool false)], args := [d1, d2, d3, d4, d5] }
  | _ => none }
def PinsTellWrongFalsely : Prop := pinsTellRow.holds Try.pinned (OpenSpec.ofChange pinsTellWrong)

/-- 'chartroomlaw14.PinsKnown': WHATEVER THE INPUT: true; the input reads as it did. -/
def pinsKnownSpec : ChangeSpec := { name := "pinsKnown", fn := fun _ => fun
  | [] => { results := [.lit (.bool true)], args := [] }
  | _ => none }
def pinsKnownRow : OpenClaim := { program := "ythblkhafehanfaa", sum := "1fda463626767070e23606513bd79c238e7d1f1947bf682ab69519150266f77b", func := "chartroom/chartroomlaw14.PinsKnown", spec := "pinsKnown", inPlace := ["math/bits.Add64"], unfollowed := true, recurses := true, apart := false }
def PinsKnownSaid : Prop := pinsKnownRow.holds Try.pinned (OpenSpec.ofChange pinsKnownSpec)

/-- ITS FALSE NEIGHBOUR: 'it returns false'. Refute it at one input. -/
def pinsKnownWrong : ChangeSpec := { name := "pinsKnown", fn := fun _ => fun
  | [] => { results := [.lit (.bool false)], args := [] }
  | _ => none }
def PinsKnownWrongFalsely : Prop := pinsKnownRow.holds Try.pinned (OpenSpec.ofChange pinsKnownWrong)

/- THE SECOND FORM. 'bulk': how many values and letters a reading holds, each counted each time it is reached (what is shared counts as often as it is met; a slice's spare places count too). A statement '..UptoSaid' is the law's where the arguments, and the package variables that the reading takes, are together of bulk at most 1048576: NARROWER than '..Said'. Prove '..Said' where nothing that the law and all that it calls make is longer than what came in: it says more and counts as full. Else prove '..UptoSaid'. A law counts once. -/
mutual
def uptoBulk {H : Type} : DataW H → Nat
  | .lit (.string bytes) => bytes.length + 1
  | .lit _ => 1
  | .nil => 1
  | .ptr d => uptoBulk d + 1
  | .slice elems spare => uptoBulkAll elems + uptoBulkAll spare + 1
  | .agg parts => uptoBulkAll parts + 1
  | .iface _ d => uptoBulk d + 1
  | .map entries => uptoBulkEntries entries + 1
  | .held _ => 1
def uptoBulkAll {H : Type} : List (DataW H) → Nat
  | [] => 0
  | d :: r => uptoBulk d + uptoBulkAll r
def uptoBulkEntries {H : Type} : List (Lit × DataW H) → Nat
  | [] => 0
  | x :: r => uptoBulkEntry x + uptoBulkEntries r
def uptoBulkEntry {H : Type} : Lit × DataW H → Nat
  | (.string bytes, d) => bytes.length + uptoBulk d + 1
  | (_, d) => uptoBulk d + 1
 end
def uptoSmall : (H : Type) → List (DataW H) → Bool := fun _ ds => decide (uptoBulkAll ds ≤ 1048576)
def OpenSpec.upto (s : _root_.Go.ChangeSpec) : _root_.Go.OpenSpec := { _root_.Go.OpenSpec.ofChange s with cond := some uptoSmall }

/-- 'chartroomlaw08.DirectFails', WHERE WHAT IT READS IS OF BULK AT MOST 1048576: true; the input reads as it did. -/
def directFailsUptoRow : OpenClaim := { program := "ythblkhafehanfaa", sum := "1fda463626767070e23606513bd79c238e7d1f1947bf682ab69519150266f77b", func := "chartroom/chartroomlaw08.DirectFails", spec := "directFails", inPlace := ["maps.clone"], unfollowed := true, recurses := true, apart := false, narrowed := true }
def DirectFailsUptoSaid : Prop := directFailsUptoRow.holds Try.pinned (OpenSpec.upto directFailsSpec)

/-- 'chartroomlaw08.DirectPlays', WHERE WHAT IT READS IS OF BULK AT MOST 1048576: true; the input reads as it did. -/
def directPlaysUptoRow : OpenClaim := { program := "ythblkhafehanfaa", sum := "1fda463626767070e23606513bd79c238e7d1f1947bf682ab69519150266f77b", func := "chartroom/chartroomlaw08.DirectPlays", spec := "directPlays", inPlace := ["maps.clone"], unfollowed := true, recurses := true, apart := false, narrowed := true }
def DirectPlaysUptoSaid : Prop := directPlaysUptoRow.holds Try.pinned (OpenSpec.upto directPlaysSpec)

/-- 'chartroomlaw08.DirectNone', WHERE WHAT IT READS IS OF BULK AT MOST 1048576: true; the input reads as it did. -/
def directNoneUptoRow : OpenClaim := { program := "ythblkhafehanfaa", sum := "1fda463626767070e23606513bd79c238e7d1f1947bf682ab69519150266f77b", func := "chartroom/chartroomlaw08.DirectNone", spec := "directNone", inPlace := ["maps.clone"], unfollowed := true, recurses := true, apart := false, narrowed := true }
def DirectNoneUptoSaid : Prop := directNoneUptoRow.holds Try.pinned (OpenSpec.upto directNoneSpec)

/-- 'chartroomlaw08.DirectKnown', WHERE WHAT IT READS IS OF BULK AT MOST 1048576: true; the input reads as it did. -/
def directKnownUptoRow : OpenClaim := { program := "ythblkhafehanfaa", sum := "1fda463626767070e23606513bd79c238e7d1f1947bf682ab69519150266f77b", func := "chartroom/chartroomlaw08.DirectKnown", spec := "directKnown", inPlace := ["maps.clone"], unfollowed := true, recurses := true, apart := false, narrowed := true }
def DirectKnownUptoSaid : Prop := directKnownUptoRow.holds Try.pinned (OpenSpec.upto directKnownSpec)

/-- 'chartroomlaw09.InodeKeeps', WHERE WHAT IT READS IS OF BULK AT MOST 1048576: true; the input reads as it did. -/
def inodeKeepsUptoRow : OpenClaim := { program := "ythblkhafehanfaa", sum := "1fda463626767070e23606513bd79c238e7d1f1947bf682ab69519150266f77b", func := "chartroom/chartroomlaw09.InodeKeeps", spec := "inodeKeeps", unfollowed := true, recurses := true, apart := false, narrowed := true }
def InodeKeepsUptoSaid : Prop := inodeKeepsUptoRow.holds Try.pinned (OpenSpec.upto inodeKeepsSpec)

/-- 'chartroomlaw09.InodeKnown', WHERE WHAT IT READS IS OF BULK AT MOST 1048576: true; the input reads as it did. -/
def inodeKnownUptoRow : OpenClaim := { program := "ythblkhafehanfaa", sum := "1fda463626767070e23606513bd79c238e7d1f1947bf682ab69519150266f77b", func := "chartroom/chartroomlaw09.InodeKnown", spec := "inodeKnown", unfollowed := true, recurses := true, apart := false, narrowed := true }
def InodeKnownUptoSaid : Prop := inodeKnownUptoRow.holds Try.pinned (OpenSpec.upto inodeKnownSpec)

/-- 'chartroomlaw14.PinsTell', WHERE WHAT IT READS IS OF BULK AT MOST 1048576: true; the input reads as it did. -/
def pinsTellUptoRow : OpenClaim := { program := "ythblkhafehanfaa", sum := "1fda463626767070e23606513bd79c238e7d1f1947bf682ab69519150266f77b", func := "chartroom/chartroomlaw14.PinsTell", spec := "pinsTell", inPlace := ["math/bits.Add64"], unfollowed := true, recurses := true, apart := false, narrowed := true }
def PinsTellUptoSaid : Prop := pinsTellUptoRow.holds Try.pinned (OpenSpec.upto pinsTellSpec)

/-- 'chartroomlaw14.PinsKnown', WHERE WHAT IT READS IS OF BULK AT MOST 1048576: true; the input reads as it did. -/
def pinsKnownUptoRow : OpenClaim := { program := "ythblkhafehanfaa", sum := "1fda463626767070e23606513bd79c238e7d1f1947bf682ab69519150266f77b", func := "chartroom/chartroomlaw14.PinsKnown", spec := "pinsKnown", inPlace := ["math/bits.Add64"], unfollowed := true, recurses := true, apart := false, narrowed := true }
def PinsKnownUptoSaid : Prop := pinsKnownUptoRow.holds Try.pinned (OpenSpec.upto pinsKnownSpec)

end Rows
end Go.Proofs.Ythblkhafehanfaa
