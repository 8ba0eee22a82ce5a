/-
  No cell of these rows narrows 'for every input' (looked for: loops, veiled, ifaces, maps, wideKeys, modest, calm, conditions, laid).
  DERIVED. THE GIVEN ROWS OF THIS SEAT. 13 by the template 'for every input the law returns true; each argument reads behind the call as it read before'; 0 by the template 'total and deterministic' (their statements: YtfpmjcdcpicmaaaTotals.lean).
  GIVEN WITH THE SEED: the statements are not yours to turn. If you find one false, say at which input.
  Laid BY PROGRAM, IN A SANDBOX (cutbox-rows.mjs): the forced cells as the released guide's own fill.sh prints them over the translation 87c202e03ed3b164… (all of the seat's roots in one cut). By AI agents, Wed Nov 11 2026. No macro, syntax, notation, axiom, sorry.
-/
import Derived.Test.YtfpmjcdcpicmaaaChecked
import GoSem.Claim
import GoSem.ClaimJoined
import GoSem.ClaimMapViews
import Derived.JoinedTies
import Derived.KernelRfl
namespace Go.Proofs.Ytfpmjcdcpicmaaa
/- THE CELL 'sum', in the pinned program and in every row, IS THE sha256 OF THE DUMP (.gsa) THAT YtfpmjcdcpicmaaaProg.lean LOADS. Nothing in Lean hashes anything: it is a label: what it is worth is what the hold of that sum in a sandbox is worth. -/
noncomputable def Try.pinned : Pinned := { name := "ytfpmjcdcpicmaaa", sum := "87c202e03ed3b16410165c0b082d82cd5ab152a3797cffb19dda3197a772cf6a", checked := Try.checked }
namespace Rows
def none {H : Type} : Left H := { results := [], args := [] }

/-- 'chartroomlaw17.CatalogDoes': WHATEVER THE INPUT: true; the input reads as it did. -/
def catalogDoesSpec : ChangeSpec := { name := "catalogDoes", fn := fun _ => fun
  | [d1, d2, d3, d4] => { results := [.lit (.bool true)], args := [d1, d2, d3, d4] }
  | _ => none }
def catalogDoesRow : OpenClaim := { program := "ytfpmjcdcpicmaaa", sum := "87c202e03ed3b16410165c0b082d82cd5ab152a3797cffb19dda3197a772cf6a", func := "chartroom/chartroomlaw17.CatalogDoes", spec := "catalogDoes", inPlace := ["slices.overlaps[chartroom/catalog.Entry]"], unfollowed := true, recurses := true, apart := false }
def CatalogDoesSaid : Prop := catalogDoesRow.holds Try.pinned (OpenSpec.ofChange catalogDoesSpec)

/-- ITS FALSE NEIGHBOUR: 'it returns false'. Refute it at one input. -/
def catalogDoesWrong : ChangeSpec := { name := "catalogDoes", fn := fun _ => fun
  | [d1, d2, d3, d4] => { results := [.lit (.bool false)], args := [d1, d2, d3, d4] }
  | _ => none }
def CatalogDoesWrongFalsely : Prop := catalogDoesRow.holds Try.pinned (OpenSpec.ofChange catalogDoesWrong)

/-- 'chartroomlaw17.CatalogBack': WHATEVER THE INPUT: true; the input reads as it did. -/
def catalogBackSpec : ChangeSpec := { name := "catalogBack", fn := fun _ => fun
  | [d1, d2, d3, d4, d5] => { results := [.lit (.bool true)], args := [d1, d2, d3, d4, d5] }
  | _ => none }
def catalogBackRow : OpenClaim := { program := "ytfpmjcdcpicmaaa", sum := "87c202e03ed3b16410165c0b082d82cd5ab152a3797cffb19dda3197a772cf6a", func := "chartroom/chartroomlaw17.CatalogBack", spec := "catalogBack", inPlace := ["slices.overlaps[chartroom/catalog.Entry]"], unfollowed := true, recurses := true, apart := false }
def CatalogBackSaid : Prop := catalogBackRow.holds Try.pinned (OpenSpec.ofChange catalogBackSpec)

/-- ITS FALSE NEIGHBOUR: 'it returns false'. Refute it at one input. -/
def catalogBackWrong : ChangeSpec := { name := "catalogBack", fn := fun _ => fun
  | [d1, d2, d3, d4, d5] => { results := [.lit (.bool false)], args := [d1, d2, d3, d4, d5] }
  | _ => none }
def CatalogBackWrongFalsely : Prop := catalogBackRow.holds Try.pinned (OpenSpec.ofChange catalogBackWrong)

/-- 'chartroomlaw17.CatalogBytes': WHATEVER THE INPUT: true; the input reads as it did. -/
def catalogBytesSpec : ChangeSpec := { name := "catalogBytes", fn := fun _ => fun
  | [d1, d2] => { results := [.lit (.bool true)], args := [d1, d2] }
  | _ => none }
def catalogBytesRow : OpenClaim := { program := "ytfpmjcdcpicmaaa", sum := "87c202e03ed3b16410165c0b082d82cd5ab152a3797cffb19dda3197a772cf6a", func := "chartroom/chartroomlaw17.CatalogBytes", spec := "catalogBytes", inPlace := ["slices.overlaps[chartroom/catalog.Entry]"], unfollowed := true, recurses := true, apart := false }
def CatalogBytesSaid : Prop := catalogBytesRow.holds Try.pinned (OpenSpec.ofChange catalogBytesSpec)

/-- ITS FALSE NEIGHBOUR: 'it returns false'. Refute it at one input. -/
def catalogBytesWrong : ChangeSpec := { name := "catalogBytes", fn := fun _ => fun
  | [d1, d2] => { results := [.lit (.bool false)], args := [d1, d2] }
  | _ => none }
def CatalogBytesWrongFalsely : Prop := catalogBytesRow.holds Try.pinned (OpenSpec.ofChange catalogBytesWrong)

/-- 'chartroomlaw17.CatalogKnown': WHATEVER THE INPUT: true; the input reads as it did. -/
def catalogKnownSpec : ChangeSpec := { name := "catalogKnown", fn := fun _ => fun
  | [] => { results := [.lit (.bool true)], args := [] }
  | _ => none }
def catalogKnownRow : OpenClaim := { program := "ytfpmjcdcpicmaaa", sum := "87c202e03ed3b16410165c0b082d82cd5ab152a3797cffb19dda3197a772cf6a", func := "chartroom/chartroomlaw17.CatalogKnown", spec := "catalogKnown", inPlace := ["slices.overlaps[chartroom/catalog.Entry]"], unfollowed := true, recurses := true, apart := false }
def CatalogKnownSaid : Prop := catalogKnownRow.holds Try.pinned (OpenSpec.ofChange catalogKnownSpec)

/-- ITS FALSE NEIGHBOUR: 'it returns false'. Refute it at one input. -/
def catalogKnownWrong : ChangeSpec := { name := "catalogKnown", fn := fun _ => fun
  | [] => { results := [.lit (.bool false)], args := [] }
  | _ => none }
def CatalogKnownWrongFalsely : Prop := catalogKnownRow.holds Try.pinned (OpenSpec.ofChange catalogKnownWrong)

/-- 'chartroomlaw15.VersionTells': WHATEVER THE INPUT: true; the input reads as it did. -/
def versionTellsSpec : ChangeSpec := { name := "versionTells", fn := fun _ => fun
  | [d1, d2] => { results := [.lit (.bool true)], args := [d1, d2] }
  | _ => none }
def versionTellsRow : OpenClaim := { program := "ytfpmjcdcpicmaaa", sum := "87c202e03ed3b16410165c0b082d82cd5ab152a3797cffb19dda3197a772cf6a", func := "chartroom/chartroomlaw15.VersionTells", spec := "versionTells", inPlace := ["internal/abi.NoEscape"], unfollowed := true, recurses := true, apart := false }
def VersionTellsSaid : Prop := versionTellsRow.holds Try.pinned (OpenSpec.ofChange versionTellsSpec)

/-- ITS FALSE NEIGHBOUR: 'it returns false'. Refute it at one input. -/
def versionTellsWrong : ChangeSpec := { name := "versionTells", fn := fun _ => fun
  | [d1, d2] => { results := [.lit (.bool false)], args := [d1, d2] }
  | _ => none }
def VersionTellsWrongFalsely : Prop := versionTellsRow.holds Try.pinned (OpenSpec.ofChange versionTellsWrong)

/-- 'chartroomlaw15.VersionKeeps': WHATEVER THE INPUT: true; the input reads as it did. -/
def versionKeepsSpec : ChangeSpec := { name := "versionKeeps", fn := fun _ => fun
  | [d1, d2, d3] => { results := [.lit (.bool true)], args := [d1, d2, d3] }
  | _ => none }
def versionKeepsRow : OpenClaim := { program := "ytfpmjcdcpicmaaa", sum := "87c202e03ed3b16410165c0b082d82cd5ab152a3797cffb19dda3197a772cf6a", func := "chartroom/chartroomlaw15.VersionKeeps", spec := "versionKeeps", inPlace := ["internal/abi.NoEscape"], unfollowed := true, recurses := true, apart := false }
def VersionKeepsSaid : Prop := versionKeepsRow.holds Try.pinned (OpenSpec.ofChange versionKeepsSpec)

/-- ITS FALSE NEIGHBOUR: 'it returns false'. Refute it at one input. -/
def versionKeepsWrong : ChangeSpec := { name := "versionKeeps", fn := fun _ => fun
  | [d1, d2, d3] => { results := [.lit (.bool false)], args := [d1, d2, d3] }
  | _ => none }
def VersionKeepsWrongFalsely : Prop := versionKeepsRow.holds Try.pinned (OpenSpec.ofChange versionKeepsWrong)

/-- 'chartroomlaw15.VersionChanges': WHATEVER THE INPUT: true; the input reads as it did. -/
def versionChangesSpec : ChangeSpec := { name := "versionChanges", fn := fun _ => fun
  | [d1, d2, d3, d4] => { results := [.lit (.bool true)], args := [d1, d2, d3, d4] }
  | _ => none }
def versionChangesRow : OpenClaim := { program := "ytfpmjcdcpicmaaa", sum := "87c202e03ed3b16410165c0b082d82cd5ab152a3797cffb19dda3197a772cf6a", func := "chartroom/chartroomlaw15.VersionChanges", spec := "versionChanges", inPlace := ["internal/abi.NoEscape"], unfollowed := true, recurses := true, apart := false }
def VersionChangesSaid : Prop := versionChangesRow.holds Try.pinned (OpenSpec.ofChange versionChangesSpec)

/-- ITS FALSE NEIGHBOUR: 'it returns false'. Refute it at one input. -/
def versionChangesWrong : ChangeSpec := { name := "versionChanges", fn := fun _ => fun
  | [d1, d2, d3, d4] => { results := [.lit (.bool false)], args := [d1, d2, d3, d4] }
  | _ => none }
def VersionChangesWrongFalsely : Prop := versionChangesRow.holds Try.pinned (OpenSpec.ofChange versionChangesWrong)

/-- 'chartroomlaw15.VersionBytes': WHATEVER THE INPUT: true; the input reads as it did. -/
def versionBytesSpec : ChangeSpec := { name := "versionBytes", fn := fun _ => fun
  | [d1, d2] => { results := [.lit (.bool true)], args := [d1, d2] }
  | _ => none }
def versionBytesRow : OpenClaim := { program := "ytfpmjcdcpicmaaa", sum := "87c202e03ed3b16410165c0b082d82cd5ab152a3797cffb19dda3197a772cf6a", func := "chartroom/chartroomlaw15.VersionBytes", spec := "versionBytes", inPlace := ["internal/abi.NoEscape"], unfollowed := true, recurses := true, apart := false }
def VersionBytesSaid : Prop := versionBytesRow.holds Try.pinned (OpenSpec.ofChange versionBytesSpec)

/-- ITS FALSE NEIGHBOUR: 'it returns false'. Refute it at one input. -/
def versionBytesWrong : ChangeSpec := { name := "versionBytes", fn := fun _ => fun
  | [d1, d2] => { results := [.lit (.bool false)], args := [d1, d2] }
  | _ => none }
def VersionBytesWrongFalsely : Prop := versionBytesRow.holds Try.pinned (OpenSpec.ofChange versionBytesWrong)

/-- 'chartroomlaw15.VersionKnown': WHATEVER THE INPUT: true; the input reads as it did. -/
def versionKnownSpec : ChangeSpec := { name := "versionKnown", fn := fun _ => fun
  | [] => { results := [.lit (.bool true)], args := [] }
  | _ => none }
def versionKnownRow : OpenClaim := { program := "ytfpmjcdcpicmaaa", sum := "87c202e03ed3b16410165c0b082d82cd5ab152a3797cffb19dda3197a772cf6a", func := "chartroom/chartroomlaw15.VersionKnown", spec := "versionKnown", inPlace := ["internal/abi.NoEscape"], unfollowed := true, recurses := true, apart := false }
def VersionKnownSaid : Prop := versionKnownRow.holds Try.pinned (OpenSpec.ofChange versionKnownSpec)

/-- ITS FALSE NEIGHBOUR: 'it returns false'. Refute it at one input. -/
def versionKnownWrong : ChangeSpec := { name := "versionKnown", fn := fun _ => fun
  | [] => { results := [.lit (.bool false)], args := [] }
  | _ => none }
def VersionKnownWrongFalsely : Prop := versionKnownRow.holds Try.pinned (OpenSpec.ofChange versionKnownWrong)

/-- 'chartroomlaw14.PinsTell': WHATEVER THE INPUT: true; the input reads as it did. -/
def pinsTellSpec : ChangeSpec := { name := "pinsTell", fn := fun _ => fun
  | [d1, d2, d3, d4, d5] => { results := [.lit (.bool true)], args := [d1, d2, d3, d4, d5] }
  | _ => none }
def pinsTellRow : OpenClaim := { program := "ytfpmjcdcpicmaaa", sum := "87c202e03ed3b16410165c0b082d82cd5ab152a3797cffb19dda3197a772cf6a", func := "chartroom/chartroomlaw14.PinsTell", spec := "pinsTell", inPlace := ["math/bits.Add64"], unfollowed := true, recurses := true, apart := false }
def PinsTellSaid : Prop := pinsTellRow.holds Try.pinned (OpenSpec.ofChange pinsTellSpec)

/-- ITS FALSE NEIGHBOUR: 'it returns false'. Refute it at one input. -/
def pinsTellWrong : ChangeSpec := { name := "pinsTell", fn := fun _ => fun
  | [d1, d2, d3, d4, d5] => { results := [.lit (.bool false)], args := [d1, d2, d3, d4, d5] }
  | _ => none }
def PinsTellWrongFalsely : Prop := pinsTellRow.holds Try.pinned (OpenSpec.ofChange pinsTellWrong)

/-- 'chartroomlaw14.PinsWrite': WHATEVER THE INPUT: true; the input reads as it did. -/
def pinsWriteSpec : ChangeSpec := { name := "pinsWrite", fn := fun _ => fun
  | [d1, d2, d3] => { results := [.lit (.bool true)], args := [d1, d2, d3] }
  | _ => none }
def pinsWriteRow : OpenClaim := { program := "ytfpmjcdcpicmaaa", sum := "87c202e03ed3b16410165c0b082d82cd5ab152a3797cffb19dda3197a772cf6a", func := "chartroom/chartroomlaw14.PinsWrite", spec := "pinsWrite", inPlace := ["math/bits.Add64"], unfollowed := true, recurses := true, apart := false }
def PinsWriteSaid : Prop := pinsWriteRow.holds Try.pinned (OpenSpec.ofChange pinsWriteSpec)

/-- ITS FALSE NEIGHBOUR: 'it returns false'. Refute it at one input. -/
def pinsWriteWrong : ChangeSpec := { name := "pinsWrite", fn := fun _ => fun
  | [d1, d2, d3] => { results := [.lit (.bool false)], args := [d1, d2, d3] }
  | _ => none }
def PinsWriteWrongFalsely : Prop := pinsWriteRow.holds Try.pinned (OpenSpec.ofChange pinsWriteWrong)

/-- 'chartroomlaw14.PinsBack': WHATEVER THE INPUT: true; the input reads as it did. -/
def pinsBackSpec : ChangeSpec := { name := "pinsBack", fn := fun _ => fun
  | [d1, d2, d3, d4, d5, d6, d7] => { results := [.lit (.bool true)], args := [d1, d2, d3, d4, d5, d6, d7] }
  | _ => none }
def pinsBackRow : OpenClaim := { program := "ytfpmjcdcpicmaaa", sum := "87c202e03ed3b16410165c0b082d82cd5ab152a3797cffb19dda3197a772cf6a", func := "chartroom/chartroomlaw14.PinsBack", spec := "pinsBack", inPlace := ["math/bits.Add64"], unfollowed := true, recurses := true, apart := false }
def PinsBackSaid : Prop := pinsBackRow.holds Try.pinned (OpenSpec.ofChange pinsBackSpec)

/-- ITS FALSE NEIGHBOUR: 'it returns false'. Refute it at one input. -/
def pinsBackWrong : ChangeSpec := { name := "pinsBack", fn := fun _ => fun
  | [d1, d2, d3, d4, d5, d6, d7] => { results := [.lit (.bool false)], args := [d1, d2, d3, d4, d5, d6, d7] }
  | _ => none }
def PinsBackWrongFalsely : Prop := pinsBackRow.holds Try.pinned (OpenSpec.ofChange pinsBackWrong)

/-- 'chartroomlaw14.PinsKnown': WHATEVER THE INPUT: true; the input reads as it did. -/
def pinsKnownSpec : ChangeSpec := { name := "pinsKnown", fn := fun _ => fun
  | [] => { results := [.lit (.bool true)], args := [] }
  | _ => none }
def pinsKnownRow : OpenClaim := { program := "ytfpmjcdcpicmaaa", sum := "87c202e03ed3b16410165c0b082d82cd5ab152a3797cffb19dda3197a772cf6a", func := "chartroom/chartroomlaw14.PinsKnown", spec := "pinsKnown", inPlace := ["math/bits.Add64"], unfollowed := true, recurses := true, apart := false }
def PinsKnownSaid : Prop := pinsKnownRow.holds Try.pinned (OpenSpec.ofChange pinsKnownSpec)

/-- ITS FALSE NEIGHBOUR: 'it returns false'. Refute it at one input. -/
def pinsKnownWrong : ChangeSpec := { name := "pinsKnown", fn := fun _ => fun
  | [] => { results := [.lit (.bool false)], args := [] }
  | _ => none }
def PinsKnownWrongFalsely : Prop := pinsKnownRow.holds Try.pinned (OpenSpec.ofChange pinsKnownWrong)

/- THE SECOND FORM. 'bulk': how many values and letters a reading holds, each counted each time it is reached (what is shared counts as often as it is met; a slice's spare places count too). A statement '..UptoSaid' is the law's where the arguments, and the package variables that the reading takes, are together of bulk at most 1048576: NARROWER than '..Said'. Prove '..Said' where nothing that the law and all that it calls make is longer than what came in: it says more and counts as full. Else prove '..UptoSaid'. A law counts once. -/
mutual
def uptoBulk {H : Type} : DataW H → Nat
  | .lit (.string bytes) => bytes.length + 1
  | .lit _ => 1
  | .nil => 1
  | .ptr d => uptoBulk d + 1
  | .slice elems spare => uptoBulkAll elems + uptoBulkAll spare + 1
  | .agg parts => uptoBulkAll parts + 1
  | .iface _ d => uptoBulk d + 1
  | .map entries => uptoBulkEntries entries + 1
  | .held _ => 1
def uptoBulkAll {H : Type} : List (DataW H) → Nat
  | [] => 0
  | d :: r => uptoBulk d + uptoBulkAll r
def uptoBulkEntries {H : Type} : List (Lit × DataW H) → Nat
  | [] => 0
  | x :: r => uptoBulkEntry x + uptoBulkEntries r
def uptoBulkEntry {H : Type} : Lit × DataW H → Nat
  | (.string bytes, d) => bytes.length + uptoBulk d + 1
  | (_, d) => uptoBulk d + 1
 end
def uptoSmall : (H : Type) → List (DataW H) → Bool := fun _ ds => decide (uptoBulkAll ds ≤ 1048576)
def OpenSpec.upto (s : _root_.Go.ChangeSpec) : _root_.Go.OpenSpec := { _root_.Go.OpenSpec.ofChange s with cond := some uptoSmall }

/-- 'chartroomlaw17.CatalogDoes', WHERE WHAT IT READS IS OF BULK AT MOST 1048576: true; the input reads as it did. -/
def catalogDoesUptoRow : OpenClaim := { program := "ytfpmjcdcpicmaaa", sum := "87c202e03ed3b16410165c0b082d82cd5ab152a3797cffb19dda3197a772cf6a", func := "chartroom/chartroomlaw17.CatalogDoes", spec := "catalogDoes", inPlace := ["slices.overlaps[chartroom/catalog.Entry]"], unfollowed := true, recurses := true, apart := false, narrowed := true }
def CatalogDoesUptoSaid : Prop := catalogDoesUptoRow.holds Try.pinned (OpenSpec.upto catalogDoesSpec)

/-- 'chartroomlaw17.CatalogBack', WHERE WHAT IT READS IS OF BULK AT MOST 1048576: true; the input reads as it did. -/
def catalogBackUptoRow : OpenClaim := { program := "ytfpmjcdcpicmaaa", sum := "87c202e03ed3b16410165c0b082d82cd5ab152a3797cffb19dda3197a772cf6a", func := "chartroom/chartroomlaw17.CatalogBack", spec := "catalogBack", inPlace := ["slices.overlaps[chartroom/catalog.Entry]"], unfollowed := true, recurses := true, apart := false, narrowed := true }
def CatalogBackUptoSaid : Prop := catalogBackUptoRow.holds Try.pinned (OpenSpec.upto catalogBackSpec)

/-- 'chartroomlaw17.CatalogBytes', WHERE WHAT IT READS IS OF BULK AT MOST 1048576: true; the input reads as it did. -/
def catalogBytesUptoRow : OpenClaim := { program := "ytfpmjcdcpicmaaa", sum := "87c202e03ed3b16410165c0b082d82cd5ab152a3797cffb19dda3197a772cf6a", func := "chartroom/chartroomlaw17.CatalogBytes", spec := "catalogBytes", inPlace := ["slices.overlaps[chartroom/catalog.Entry]"], unfollowed := true, recurses := true, apart := false, narrowed := true }
def CatalogBytesUptoSaid : Prop := catalogBytesUptoRow.holds Try.pinned (OpenSpec.upto catalogBytesSpec)

/-- 'chartroomlaw17.CatalogKnown', WHERE WHAT IT READS IS OF BULK AT MOST 1048576: true; the input reads as it did. -/
def catalogKnownUptoRow : OpenClaim := { program := "ytfpmjcdcpicmaaa", sum := "87c202e03ed3b16410165c0b082d82cd5ab152a3797cffb19dda3197a772cf6a", func := "chartroom/chartroomlaw17.CatalogKnown", spec := "catalogKnown", inPlace := ["slices.overlaps[chartroom/catalog.Entry]"], unfollowed := true, recurses := true, apart := false, narrowed := true }
def CatalogKnownUptoSaid : Prop := catalogKnownUptoRow.holds Try.pinned (OpenSpec.upto catalogKnownSpec)

/-- 'chartroomlaw15.VersionTells', WHERE WHAT IT READS IS OF BULK AT MOST 1048576: true; the input reads as it did. -/
def versionTellsUptoRow : OpenClaim := { program := "ytfpmjcdcpicmaaa", sum := "87c202e03ed3b16410165c0b082d82cd5ab152a3797cffb19dda3197a772cf6a", func := "chartroom/chartroomlaw15.VersionTells", spec := "versionTells", inPlace := ["internal/abi.NoEscape"], unfollowed := true, recurses := true, apart := false, narrowed := true }
def VersionTellsUptoSaid : Prop := versionTellsUptoRow.holds Try.pinned (OpenSpec.upto versionTellsSpec)

/-- 'chartroomlaw15.VersionKeeps', WHERE WHAT IT READS IS OF BULK AT MOST 1048576: true; the input reads as it did. -/
def versionKeepsUptoRow : OpenClaim := { program := "ytfpmjcdcpicmaaa", sum := "87c202e03ed3b16410165c0b082d82cd5ab152a3797cffb19dda3197a772cf6a", func := "chartroom/chartroomlaw15.VersionKeeps", spec := "versionKeeps", inPlace := ["internal/abi.NoEscape"], unfollowed := true, recurses := true, apart := false, narrowed := true }
def VersionKeepsUptoSaid : Prop := versionKeepsUptoRow.holds Try.pinned (OpenSpec.upto versionKeepsSpec)

/-- 'chartroomlaw15.VersionChanges', WHERE WHAT IT READS IS OF BULK AT MOST 1048576: true; the input reads as it did. -/
def versionChangesUptoRow : OpenClaim := { program := "ytfpmjcdcpicmaaa", sum := "87c202e03ed3b16410165c0b082d82cd5ab152a3797cffb19dda3197a772cf6a", func := "chartroom/chartroomlaw15.VersionChanges", spec := "versionChanges", inPlace := ["internal/abi.NoEscape"], unfollowed := true, recurses := true, apart := false, narrowed := true }
def VersionChangesUptoSaid : Prop := versionChangesUptoRow.holds Try.pinned (OpenSpec.upto versionChangesSpec)

/-- 'chartroomlaw15.VersionBytes', WHERE WHAT IT READS IS OF BULK AT MOST 1048576: true; the input reads as it did. -/
def versionBytesUptoRow : OpenClaim := { program := "ytfpmjcdcpicmaaa", sum := "87c202e03ed3b16410165c0b082d82cd5ab152a3797cffb19dda3197a772cf6a", func := "chartroom/chartroomlaw15.VersionBytes", spec := "versionBytes", inPlace := ["internal/abi.NoEscape"], unfollowed := true, recurses := true, apart := false, narrowed := true }
def VersionBytesUptoSaid : Prop := versionBytesUptoRow.holds Try.pinned (OpenSpec.upto versionBytesSpec)

/-- 'chartroomlaw15.VersionKnown', WHERE WHAT IT READS IS OF BULK AT MOST 1048576: true; the input reads as it did. -/
def versionKnownUptoRow : OpenClaim := { program := "ytfpmjcdcpicmaaa", sum := "87c202e03ed3b16410165c0b082d82cd5ab152a3797cffb19dda3197a772cf6a", func := "chartroom/chartroomlaw15.VersionKnown", spec := "versionKnown", inPlace := ["internal/abi.NoEscape"], unfollowed := true, recurses := true, apart := false, narrowed := true }
def VersionKnownUptoSaid : Prop := versionKnownUptoRow.holds Try.pinned (OpenSpec.upto versionKnownSpec)

/-- 'chartroomlaw14.PinsTell', WHERE WHAT IT READS IS OF BULK AT MOST 1048576: true; the input reads as it did. -/
def pinsTellUptoRow : OpenClaim := { program := "ytfpmjcdcpicmaaa", sum := "87c202e03ed3b16410165c0b082d82cd5ab152a3797cffb19dda3197a772cf6a", func := "chartroom/chartroomlaw14.PinsTell", spec := "pinsTell", inPlace := ["math/bits.Add64"], unfollowed := true, recurses := true, apart := false, narrowed := true }
def PinsTellUptoSaid : Prop := pinsTellUptoRow.holds Try.pinned (OpenSpec.upto pinsTellSpec)

/-- 'chartroomlaw14.PinsWrite', WHERE WHAT IT READS IS OF BULK AT MOST 1048576: true; the input reads as it did. -/
def pinsWriteUptoRow : OpenClaim := { program := "ytfpmjcdcpicmaaa", sum := "87c202e03ed3b16410165c0b082d82cd5ab152a3797cffb19dda3197a772cf6a", func := "chartroom/chartroomlaw14.PinsWrite", spec := "pinsWrite", inPlace := ["math/bits.Add64"], unfollowed := true, recurses := true, apart := false, narrowed := true }
def PinsWriteUptoSaid : Prop := pinsWriteUptoRow.holds Try.pinned (OpenSpec.upto pinsWriteSpec)

/-- 'chartroomlaw14.PinsBack', WHERE WHAT IT READS IS OF BULK AT MOST 1048576: true; the input reads as it did. -/
def pinsBackUptoRow : OpenClaim := { program := "ytfpmjcdcpicmaaa", sum := "87c202e03ed3b16410165c0b082d82cd5ab152a3797cffb19dda3197a772cf6a", func := "chartroom/chartroomlaw14.PinsBack", spec := "pinsBack", inPlace := ["math/bits.Add64"], unfollowed := true, recurses := true, apart := false, narrowed := true }
def PinsBackUptoSaid : Prop := pinsBackUptoRow.holds Try.pinned (OpenSpec.upto pinsBackSpec)

/-- 'chartroomlaw14.PinsKnown', WHERE WHAT IT READS IS OF BULK AT MOST 1048576: true; the input reads as it did. -/
def pinsKnownUptoRow : OpenClaim := { program := "ytfpmjcdcpicmaaa", sum := "87c202e03ed3b16410165c0b082d82cd5ab152a3797cffb19dda3197a772cf6a", func := "chartroom/chartroomlaw14.PinsKnown", spec := "pinsKnown", inPlace := ["math/bits.Add64"], unfollowed := true, recurses := true, apart := false, narrowed := true }
def PinsKnownUptoSaid : Prop := pinsKnownUptoRow.holds Try.pinned (OpenSpec.upto pinsKnownSpec)

end Rows
end Go.Proofs.Ytfpmjcdcpicmaaa
