/-
  No cell of these rows narrows 'for every input' (looked for: loops, veiled, ifaces, maps, wideKeys, modest, calm, conditions, laid).
  DERIVED. THE GIVEN ROWS OF THIS SEAT. 4 by the template 'for every input the law returns true; each argument reads behind the call as it read before'; 0 by the template 'total and deterministic' (their statements: YtifcndkhigakfaaGreatTotals.lean).
  GIVEN WITH THE SEED: the statements are not yours to turn. If you find one false, say at which input.
  Laid BY PROGRAM, IN A SANDBOX (cutbox-rows.mjs): the forced cells as the released guide's own fill.sh prints them over the translation c2436bfcabceb6ef… (all of the seat's roots in one cut). By AI agents, Wed Nov 11 2026. No macro, syntax, notation, axiom, sorry.
-/
import Derived.Test.YtifcndkhigakfaaGreatChecked
import GoSem.Claim
import GoSem.ClaimJoined
import GoSem.ClaimMapViews
import Derived.JoinedTies
import Derived.KernelRfl
namespace Go.Proofs.YtifcndkhigakfaaGreat
/- THE CELL 'sum', in the pinned program and in every row, IS THE sha256 OF THE DUMP (.gsa) THAT YtifcndkhigakfaaGreatProg.lean LOADS. Nothing in Lean hashes anything: it is a label: what it is worth is what the hold of that sum in a sandbox is worth. -/
noncomputable def Tryz.pinned : Pinned := { name := "ytifcndkhigakfaagreat", sum := "c2436bfcabceb6ef728dd26d2d2e712dc86ec61479d1ea816e0105918bbc3fc4", checked := Tryz.checked }
namespace Rows
def none {H : Type} : Left H := { results := [], args := [] }

/-- 'chartroomlaw18.StateWrites': WHATEVER THE INPUT: true; the input reads as it did. -/
def stateWritesSpec : ChangeSpec := { name := "stateWrites", fn := fun _ => fun
  | [d1, d2] => { results := [.lit (.bool true)], args := [d1, d2] }
  | _ => none }
def stateWritesRow : OpenClaim := { program := "ytifcndkhigakfaagreat", sum := "c2436bfcabceb6ef728dd26d2d2e712dc86ec61479d1ea816e0105918bbc3fc4", func := "chartroom/chartroomlaw18.StateWrites", spec := "stateWrites", inPlace := ["slices.overlaps[chartroom/state.Who]", "slices.overlaps[chartroom/catalog.Entry]", "math/bits.Add64"], unfollowed := true, recurses := true, apart := false }
def StateWritesSaid : Prop := stateWritesRow.holds Tryz.pinned (OpenSpec.ofChange stateWritesSpec)

/-- ITS FALSE NEIGHBOUR: 'it returns false'. Refute it at one input. -/
def stateWritesWrong : ChangeSpec := { name := "stateWrites", fn := fun _ => fun
  | [d1, d2] => { results := [.lit (.bool false)], args := [d1, d2] }
  | _ => none }
def StateWritesWrongFalsely : Prop := stateWritesRow.holds Tryz.pinned (OpenSpec.ofChange stateWritesWrong)

/-- 'chartroomlaw18.StateBodies': WHATEVER THE INPUT: true; the input reads as it did. -/
def stateBodiesSpec : ChangeSpec := { name := "stateBodies", fn := fun _ => fun
  | [d1, d2] => { results := [.lit (.bool true)], args := [d1, d2] }
  | _ => none }
def stateBodiesRow : OpenClaim := { program := "ytifcndkhigakfaagreat", sum := "c2436bfcabceb6ef728dd26d2d2e712dc86ec61479d1ea816e0105918bbc3fc4", func := "chartroom/chartroomlaw18.StateBodies", spec := "stateBodies", inPlace := ["slices.overlaps[chartroom/state.Who]", "slices.overlaps[chartroom/catalog.Entry]", "math/bits.Add64"], unfollowed := true, recurses := true, apart := false }
def StateBodiesSaid : Prop := stateBodiesRow.holds Tryz.pinned (OpenSpec.ofChange stateBodiesSpec)

/-- ITS FALSE NEIGHBOUR: 'it returns false'. Refute it at one input. -/
def stateBodiesWrong : ChangeSpec := { name := "stateBodies", fn := fun _ => fun
  | [d1, d2] => { results := [.lit (.bool false)], args := [d1, d2] }
  | _ => none }
def StateBodiesWrongFalsely : Prop := stateBodiesRow.holds Tryz.pinned (OpenSpec.ofChange stateBodiesWrong)

/-- 'chartroomlaw18.StateGoes': WHATEVER THE INPUT: true; the input reads as it did. -/
def stateGoesSpec : ChangeSpec := { name := "stateGoes", fn := fun _ => fun
  | [d1, d2, d3] => { results := [.lit (.bool true)], args := [d1, d2, d3] }
  | _ => none }
def stateGoesRow : OpenClaim := { program := "ytifcndkhigakfaagreat", sum := "c2436bfcabceb6ef728dd26d2d2e712dc86ec61479d1ea816e0105918bbc3fc4", func := "chartroom/chartroomlaw18.StateGoes", spec := "stateGoes", inPlace := ["slices.overlaps[chartroom/state.Who]", "slices.overlaps[chartroom/catalog.Entry]", "math/bits.Add64"], unfollowed := true, recurses := true, apart := false }
def StateGoesSaid : Prop := stateGoesRow.holds Tryz.pinned (OpenSpec.ofChange stateGoesSpec)

/-- ITS FALSE NEIGHBOUR: 'it returns false'. Refute it at one input. -/
def stateGoesWrong : ChangeSpec := { name := "stateGoes", fn := fun _ => fun
  | [d1, d2, d3] => { results := [.lit (.bool false)], args := [d1, d2, d3] }
  | _ => none }
def StateGoesWrongFalsely : Prop := stateGoesRow.holds Tryz.pinned (OpenSpec.ofChange stateGoesWrong)

/-- 'chartroomlaw18.StateKnown': WHATEVER THE INPUT: true; the input reads as it did. -/
def stateKnownSpec : ChangeSpec := { name := "stateKnown", fn := fun _ => fun
  | [] => { results := [.lit (.bool true)], args := [] }
  | _ => none }
def stateKnownRow : OpenClaim := { program := "ytifcndkhigakfaagreat", sum := "c2436bfcabceb6ef728dd26d2d2e712dc86ec61479d1ea816e0105918bbc3fc4", func := "chartroom/chartroomlaw18.StateKnown", spec := "stateKnown", inPlace := ["slices.overlaps[chartroom/state.Who]", "slices.overlaps[chartroom/catalog.Entry]", "math/bits.Add64"], unfollowed := true, recurses := true, apart := false }
def StateKnownSaid : Prop := stateKnownRow.holds Tryz.pinned (OpenSpec.ofChange stateKnownSpec)

/-- ITS FALSE NEIGHBOUR: 'it returns false'. Refute it at one input. -/
def stateKnownWrong : ChangeSpec := { name := "stateKnown", fn := fun _ => fun
  | [] => { results := [.lit (.bool false)], args := [] }
  | _ => none }
def StateKnownWrongFalsely : Prop := stateKnownRow.holds Tryz.pinned (OpenSpec.ofChange stateKnownWrong)

/- THE SECOND FORM. 'bulk': how many values and letters a reading holds, each counted each time it is reached (what is shared counts as often as it is met; a slice's spare places count too). A statement '..UptoSaid' is the law's where the arguments, and the package variables that the reading takes, are together of bulk at most 1048576: NARROWER than '..Said'. Prove '..Said' where nothing that the law and all that it calls make is longer than what came in: it says more and counts as full. Else prove '..UptoSaid'. A law counts once. -/
mutual
def uptoBulk {H : Type} : DataW H → Nat
  | .lit (.string bytes) => bytes.length + 1
  | .lit _ => 1
  | .nil => 1
  | .ptr d => uptoBulk d + 1
  | .slice elems spare => uptoBulkAll elems + uptoBulkAll spare + 1
  | .agg parts => uptoBulkAll parts + 1
  | .iface _ d => uptoBulk d + 1
  | .map entries => uptoBulkEntries entries + 1
  | .held _ => 1
def uptoBulkAll {H : Type} : List (DataW H) → Nat
  | [] => 0
  | d :: r => uptoBulk d + uptoBulkAll r
def uptoBulkEntries {H : Type} : List (Lit × DataW H) → Nat
  | [] => 0
  | x :: r => uptoBulkEntry x + uptoBulkEntries r
def uptoBulkEntry {H : Type} : Lit × DataW H → Nat
  | (.string bytes, d) => bytes.length + uptoBulk d + 1
  | (_, d) => uptoBulk d + 1
 end
def uptoSmall : (H : Type) → List (DataW H) → Bool := fun _ ds => decide (uptoBulkAll ds ≤ 1048576)
def OpenSpec.upto (s : _root_.Go.ChangeSpec) : _root_.Go.OpenSpec := { _root_.Go.OpenSpec.ofChange s with cond := some uptoSmall }

/-- 'chartroomlaw18.StateWrites', WHERE WHAT IT READS IS OF BULK AT MOST 1048576: true; the input reads as it did. -/
def stateWritesUptoRow : OpenClaim := { program := "ytifcndkhigakfaagreat", sum := "c2436bfcabceb6ef728dd26d2d2e712dc86ec61479d1ea816e0105918bbc3fc4", func := "chartroom/chartroomlaw18.StateWrites", spec := "stateWrites", inPlace := ["slices.overlaps[chartroom/state.Who]", "slices.overlaps[chartroom/catalog.Entry]", "math/bits.Add64"], unfollowed := true, recurses := true, apart := false, narrowed := true }
def StateWritesUptoSaid : Prop := stateWritesUptoRow.holds Tryz.pinned (OpenSpec.upto stateWritesSpec)

/-- 'chartroomlaw18.StateBodies', WHERE WHAT IT READS IS OF BULK AT MOST 1048576: true; the input reads as it did. -/
def stateBodiesUptoRow : OpenClaim := { program := "ytifcndkhigakfaagreat", sum := "c2436bfcabceb6ef728dd26d2d2e712dc86ec61479d1ea816e0105918bbc3fc4", func := "chartroom/chartroomlaw18.StateBodies", spec := "stateBodies", inPlace := ["slices.overlaps[chartroom/state.Who]", "slices.overlaps[chartroom/catalog.Entry]", "math/bits.Add64"], unfollowed := true, recurses := true, apart := false, narrowed := true }
def StateBodiesUptoSaid : Prop := stateBodiesUptoRow.holds Tryz.pinned (OpenSpec.upto stateBodiesSpec)

/-- 'chartroomlaw18.StateGoes', WHERE WHAT IT READS IS OF BULK AT MOST 1048576: true; the input reads as it did. -/
def stateGoesUptoRow : OpenClaim := { program := "ytifcndkhigakfaagreat", sum := "c2436bfcabceb6ef728dd26d2d2e712dc86ec61479d1ea816e0105918bbc3fc4", func := "chartroom/chartroomlaw18.StateGoes", spec := "stateGoes", inPlace := ["slices.overlaps[chartroom/state.Who]", "slices.overlaps[chartroom/catalog.Entry]", "math/bits.Add64"], unfollowed := true, recurses := true, apart := false, narrowed := true }
def StateGoesUptoSaid : Prop := stateGoesUptoRow.holds Tryz.pinned (OpenSpec.upto stateGoesSpec)

/-- 'chartroomlaw18.StateKnown', WHERE WHAT IT READS IS OF BULK AT MOST 1048576: true; the input reads as it did. -/
def stateKnownUptoRow : OpenClaim := { program := "ytifcndkhigakfaagreat", sum := "c2436bfcabceb6ef728dd26d2d2e712dc86ec61479d1ea816e0105918bbc3fc4", func := "chartroom/chartroomlaw18.StateKnown", spec := "stateKnown", inPlace := ["slices.overlaps[chartroom/state.Who]", "slices.overlaps[chartroom/catalog.Entry]", "math/bits.Add64"], unfollowed := true, recurses := true, apart := false, narrowed := true }
def StateKnownUptoSaid : Prop := stateKnownUptoRow.holds Tryz.pinned (OpenSpec.upto stateKnownSpec)

end Rows
end Go.Proofs.YtifcndkhigakfaaGreat
