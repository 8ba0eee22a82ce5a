/-
  No cell of these rows narrows 'for every input' (looked for: loops, veiled, ifaces, maps, wideKeys, modest, calm, conditions, laid).
  DERIVED. THE GIVEN ROWS OF THIS SEAT. 3 by the template 'for every input the law returns true; each argument reads behind the call as it read before'; 0 by the template 'total and deterministic' (their statements: YtlmkcmfmfahcfaaGreatTotals.lean).
  GIVEN WITH THE SEED: the statements are not yours to turn. If you find one false, say at which input.
  Laid BY PROGRAM, IN A SANDBOX (cutbox-rows.mjs): the forced cells as the released guide's own fill.sh prints them over the translation be188850f92bea7c… (all of the seat's roots in one cut). By AI agents, Wed Nov 11 2026. No macro, syntax, notation, axiom, sorry.
-/
import Derived.Test.YtlmkcmfmfahcfaaGreatChecked
import GoSem.Claim
import GoSem.ClaimJoined
import GoSem.ClaimMapViews
import Derived.JoinedTies
import Derived.KernelRfl
namespace Go.Proofs.YtlmkcmfmfahcfaaGreat
/- THE CELL 'sum', in the pinned program and in every row, IS THE sha256 OF THE DUMP (.gsa) THAT YtlmkcmfmfahcfaaGreatProg.lean LOADS. Nothing in Lean hashes anything: it is a label: what it is worth is what the hold of that sum in a sandbox is worth. -/
noncomputable def Tryz.pinned : Pinned := { name := "ytlmkcmfmfahcfaagreat", sum := "be188850f92bea7c817ee8eda17a25d89644aecf53d6e55e01fe2ebe8d3b4745", checked := Tryz.checked }
namespace Rows
def none {H : Type} : Left H := { results := [], args := [] }

/-- 'chartroomlaw16.DocApplies': WHATEVER THE INPUT: true; the input reads as it did. -/
def docAppliesSpec : ChangeSpec := { name := "docApplies", fn := fun _ => fun
  | [d1, d2, d3, d4] => { results := [.lit (.bool true)], args := [d1, d2, d3, d4] }
  | _ => none }
def docAppliesRow : OpenClaim := { program := "ytlmkcmfmfahcfaagreat", sum := "be188850f92bea7c817ee8eda17a25d89644aecf53d6e55e01fe2ebe8d3b4745", func := "chartroom/chartroomlaw16.DocApplies", spec := "docApplies", inPlace := ["math/bits.Add64"], unfollowed := true, recurses := true, apart := false }
def DocAppliesSaid : Prop := docAppliesRow.holds Tryz.pinned (OpenSpec.ofChange docAppliesSpec)

/-- ITS FALSE NEIGHBOUR: 'it returns false'. Refute it at one input. -/
def docAppliesWrong : ChangeSpec := { name := "docApplies", fn := fun _ => fun
  | [d1, d2, d3, d4] => { results := [.lit (.bool false)], args := [d1, d2, d3, d4] }
  | _ => none }
def DocAppliesWrongFalsely : Prop := docAppliesRow.holds Tryz.pinned (OpenSpec.ofChange docAppliesWrong)

/-- 'chartroomlaw16.DocWrites': WHATEVER THE INPUT: true; the input reads as it did. -/
def docWritesSpec : ChangeSpec := { name := "docWrites", fn := fun _ => fun
  | [d1, d2] => { results := [.lit (.bool true)], args := [d1, d2] }
  | _ => none }
def docWritesRow : OpenClaim := { program := "ytlmkcmfmfahcfaagreat", sum := "be188850f92bea7c817ee8eda17a25d89644aecf53d6e55e01fe2ebe8d3b4745", func := "chartroom/chartroomlaw16.DocWrites", spec := "docWrites", inPlace := ["math/bits.Add64"], unfollowed := true, recurses := true, apart := false }
def DocWritesSaid : Prop := docWritesRow.holds Tryz.pinned (OpenSpec.ofChange docWritesSpec)

/-- ITS FALSE NEIGHBOUR: 'it returns false'. Refute it at one input. -/
def docWritesWrong : ChangeSpec := { name := "docWrites", fn := fun _ => fun
  | [d1, d2] => { results := [.lit (.bool false)], args := [d1, d2] }
  | _ => none }
def DocWritesWrongFalsely : Prop := docWritesRow.holds Tryz.pinned (OpenSpec.ofChange docWritesWrong)

/-- 'chartroomlaw16.DocKnown': WHATEVER THE INPUT: true; the input reads as it did. -/
def docKnownSpec : ChangeSpec := { name := "docKnown", fn := fun _ => fun
  | [] => { results := [.lit (.bool true)], args := [] }
  | _ => none }
def docKnownRow : OpenClaim := { program := "ytlmkcmfmfahcfaagreat", sum := "be188850f92bea7c817ee8eda17a25d89644aecf53d6e55e01fe2ebe8d3b4745", func := "chartroom/chartroomlaw16.DocKnown", spec := "docKnown", inPlace := ["math/bits.Add64"], unfollowed := true, recurses := true, apart := false }
def DocKnownSaid : Prop := docKnownRow.holds Tryz.pinned (OpenSpec.ofChange docKnownSpec)

/-- ITS FALSE NEIGHBOUR: 'it returns false'. Refute it at one input. -/
def docKnownWrong : ChangeSpec := { name := "docKnown", fn := fun _ => fun
  | [] => { results := [.lit (.bool false)], args := [] }
  | _ => none }
def DocKnownWrongFalsely : Prop := docKnownRow.holds Tryz.pinned (OpenSpec.ofChange docKnownWrong)

/- THE SECOND FORM. 'bulk': how many values and letters a reading holds, each counted each time it is reached (what is shared counts as often as it is met; a slice's spare places count too). A statement '..UptoSaid' is the law's where the arguments, and the package variables that the reading takes, are together of bulk at most 1048576: NARROWER than '..Said'. Prove '..Said' where nothing that the law and all that it calls make is longer than what came in: it says more and counts as full. Else prove '..UptoSaid'. A law counts once. -/
mutual
def uptoBulk {H : Type} : DataW H → Nat
  | .lit (.string bytes) => bytes.length + 1
  | .lit _ => 1
  | .nil => 1
  | .ptr d => uptoBulk d + 1
  | .slice elems spare => uptoBulkAll elems + uptoBulkAll spare + 1
  | .agg parts => uptoBulkAll parts + 1
  | .iface _ d => uptoBulk d + 1
  | .map entries => uptoBulkEntries entries + 1
  | .held _ => 1
def uptoBulkAll {H : Type} : List (DataW H) → Nat
  | [] => 0
  | d :: r => uptoBulk d + uptoBulkAll r
def uptoBulkEntries {H : Type} : List (Lit × DataW H) → Nat
  | [] => 0
  | x :: r => uptoBulkEntry x + uptoBulkEntries r
def uptoBulkEntry {H : Type} : Lit × DataW H → Nat
  | (.string bytes, d) => bytes.length + uptoBulk d + 1
  | (_, d) => uptoBulk d + 1
 end
def uptoSmall : (H : Type) → List (DataW H) → Bool := fun _ ds => decide (uptoBulkAll ds ≤ 1048576)
def OpenSpec.upto (s : _root_.Go.ChangeSpec) : _root_.Go.OpenSpec := { _root_.Go.OpenSpec.ofChange s with cond := some uptoSmall }

/-- 'chartroomlaw16.DocApplies', WHERE WHAT IT READS IS OF BULK AT MOST 1048576: true; the input reads as it did. -/
def docAppliesUptoRow : OpenClaim := { program := "ytlmkcmfmfahcfaagreat", sum := "be188850f92bea7c817ee8eda17a25d89644aecf53d6e55e01fe2ebe8d3b4745", func := "chartroom/chartroomlaw16.DocApplies", spec := "docApplies", inPlace := ["math/bits.Add64"], unfollowed := true, recurses := true, apart := false, narrowed := true }
def DocAppliesUptoSaid : Prop := docAppliesUptoRow.holds Tryz.pinned (OpenSpec.upto docAppliesSpec)

/-- 'chartroomlaw16.DocWrites', WHERE WHAT IT READS IS OF BULK AT MOST 1048576: true; the input reads as it did. -/
def docWritesUptoRow : OpenClaim := { program := "ytlmkcmfmfahcfaagreat", sum := "be188850f92bea7c817ee8eda17a25d89644aecf53d6e55e01fe2ebe8d3b4745", func := "chartroom/chartroomlaw16.DocWrites", spec := "docWrites", inPlace := ["math/bits.Add64"], unfollowed := true, recurses := true, apart := false, narrowed := true }
def DocWritesUptoSaid : Prop := docWritesUptoRow.holds Tryz.pinned (OpenSpec.upto docWritesSpec)

/-- 'chartroomlaw16.DocKnown', WHERE WHAT IT READS IS OF BULK AT MOST 1048576: true; the input reads as it did. -/
def docKnownUptoRow : OpenClaim := { program := "ytlmkcmfmfahcfaagreat", sum := "be188850f92bea7c817ee8eda17a25d89644aecf53d6e55e01fe2ebe8d3b4745", func := "chartroom/chartroomlaw16.DocKnown", spec := "docKnown", inPlace := ["math/bits.Add64"], unfollowed := true, recurses := true, apart := false, narrowed := true }
def DocKnownUptoSaid : Prop := docKnownUptoRow.holds Tryz.pinned (OpenSpec.upto docKnownSpec)

end Rows
end Go.Proofs.YtlmkcmfmfahcfaaGreat
