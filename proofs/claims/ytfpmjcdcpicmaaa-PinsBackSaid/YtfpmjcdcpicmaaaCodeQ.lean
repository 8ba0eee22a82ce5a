/- The code of the functions, in the abstract machine's form (printed by wip/mk.py). -/
import Derived.Test.YtfpmjcdcpicmaaaAb21
import Derived.Test.YtfpmjcdcpicmaaaChecked
namespace Go.Proofs.Ytfpmjcdcpicmaaa.Ab
open Go Go.RowKit
set_option maxRecDepth 100000

/- chartroom/chartroomref12.Past -/
def body138 : AC :=
  .seq (.reg [
  ⟨some 6, .mov, [.const (.bool false)], none, [], none⟩] false [0, 1, 2, 6])
  (.seq (.reg [
  ⟨some 7, .mov, [.tmp 1], none, [], none⟩,
  ⟨some 8, (.bin .sub), [.const (.int .u64 18446744073709551615), .tmp 7], none, [], none⟩,
  ⟨some 9, .mov, [.tmp 2], none, [], none⟩,
  ⟨some 10, (.bin .geq), [.tmp 8, .tmp 9], none, [], none⟩,
  ⟨some 11, .mov, [.tmp 10], none, [], none⟩,
  ⟨some 12, .mov, [.tmp 0], some (11, true), [], none⟩,
  ⟨some 13, .mov, [.tmp 1], some (11, true), [], none⟩,
  ⟨some 14, .mov, [.tmp 2], some (11, true), [], none⟩,
  ⟨some 15, (.bin .add), [.tmp 13, .tmp 14], some (11, true), [], none⟩,
  ⟨some 16, (.bin .gtr), [.tmp 12, .tmp 15], some (11, true), [], none⟩,
  ⟨some 17, .pick, [.tmp 11, .tmp 16, .const (.bool false)], none, [], none⟩,
  ⟨some 6, .mov, [.tmp 17], none, [], none⟩] false [0, 1, 2, 6])
  (.ret))
def keep138 : List Nat := [0, 1, 2, 6]
theorem fn138 : compFn Try.prog 138 keep138 = some ⟨18, 3, [(6, none)], body138⟩ := by kernel_rfl

end Go.Proofs.Ytfpmjcdcpicmaaa.Ab
