/- The code of the functions, in the abstract machine's form (printed by wip/mk.py). -/
import Derived.Test.YtfpmjcdcpicmaaaAb21
import Derived.Test.YtfpmjcdcpicmaaaChecked
namespace Go.Proofs.Ytfpmjcdcpicmaaa.Ab
open Go Go.RowKit
set_option maxRecDepth 100000

/- chartroom/chartroomlaw15.VersionChanges -/
def body9 : AC :=
  .seq (.reg [
  ⟨some 5, .box, [.tmp 1], none, [], none⟩,
  ⟨some 8, .mov, [.const (.bool false)], none, [], none⟩] false [0, 1, 2, 3, 5, 8, 9, 10, 11, 12, 13, 14, 15, 16, 17, 18, 19, 20, 21, 22, 41, 46, 54, 113, 117, 127, 137])
  (.seq (.seq (.reg [
  ⟨some 23, .mov, [.tmp 0], none, [], none⟩,
  ⟨some 24, (.call 40), [.tmp 23], none, [], none⟩,
  ⟨some 25, .not, [.tmp 24], none, [], none⟩,
  ⟨some 26, .mov, [.tmp 25], none, [], none⟩,
  ⟨some 27, (.fad 7), [.tmp 5], some (26, false), [], none⟩,
  ⟨some 28, (.load none), [.tmp 27], some (26, false), [], none⟩,
  ⟨some 29, .slen, [.tmp 28], some (26, false), [], none⟩,
  ⟨some 30, (.bin .gtr), [.tmp 29, .const (.int .i64 100)], some (26, false), [], none⟩,
  ⟨some 31, .pick, [.tmp 26, .const (.bool true), .tmp 30], none, [], none⟩,
  ⟨some 32, .mov, [.tmp 31], none, [], none⟩,
  ⟨some 33, .mov, [.tmp 2], some (32, false), [], none⟩,
  ⟨some 34, .len, [.tmp 33], some (32, false), [], none⟩,
  ⟨some 35, (.bin .gtr), [.tmp 34, .const (.int .i64 20)], some (32, false), [], none⟩,
  ⟨some 36, .pick, [.tmp 32, .const (.bool true), .tmp 35], none, [], none⟩,
  ⟨some 37, .mov, [.tmp 36], none, [], none⟩,
  ⟨some 38, .mov, [.tmp 3], some (37, false), [], none⟩,
  ⟨some 39, .len, [.tmp 38], some (37, false), [], none⟩,
  ⟨some 40, (.bin .gtr), [.tmp 39, .const (.int .i64 20)], some (37, false), [], none⟩,
  ⟨some 41, .pick, [.tmp 37, .const (.bool true), .tmp 40], none, [], none⟩] false [0, 1, 2, 3, 5, 8, 9, 10, 11, 12, 13, 14, 15, 16, 17, 18, 19, 20, 21, 22, 41, 46, 54, 113, 117, 127, 137])
  (.cond (.tmp 41) (.seq (.reg [
  ⟨some 42, (.call 41), [], none, [], none⟩,
  ⟨some 8, .mov, [.tmp 42], none, [], none⟩] false [0, 1, 2, 3, 5, 8, 9, 10, 11, 12, 13, 14, 15, 16, 17, 18, 19, 20, 21, 22, 41, 46, 54, 113, 117, 127, 137])
  (.ret)) (.skip)))
  (.seq (.seq (.reg [
  ⟨some 9, .mov, [.const (.int .i64 0)], none, [], none⟩] false [0, 1, 2, 3, 5, 8, 9, 10, 11, 12, 13, 14, 15, 16, 17, 18, 19, 20, 21, 22, 41, 46, 54, 113, 117, 127, 137])
  (.block 0 (.loop (.seq (.seq (.reg [
   ⟨some 43, .mov, [.tmp 9], none, [], none⟩,
   ⟨some 44, .mov, [.tmp 3], none, [], none⟩,
   ⟨some 45, .len, [.tmp 44], none, [], none⟩,
   ⟨some 46, (.bin .lss), [.tmp 43, .tmp 45], none, [], none⟩] false [0, 1, 2, 3, 5, 8, 9, 10, 11, 12, 13, 14, 15, 16, 17, 18, 19, 20, 21, 22, 41, 46, 54, 113, 117, 127, 137])
   (.cond (.tmp 46) (.skip) (.exit 0)))
   (.seq (.block 1 (.seq (.reg [
   ⟨some 49, .mov, [.tmp 3], none, [], none⟩,
   ⟨some 50, .mov, [.tmp 9], none, [], none⟩,
   ⟨some 51, (.ixa 9 1), [.tmp 49, .tmp 50], none, [], none⟩,
   ⟨some 52, (.load none), [.tmp 51], none, [], none⟩,
   ⟨some 53, .slen, [.tmp 52], none, [], none⟩,
   ⟨some 54, (.bin .gtr), [.tmp 53, .const (.int .i64 100)], none, [], none⟩] false [0, 1, 2, 3, 5, 8, 9, 10, 11, 12, 13, 14, 15, 16, 17, 18, 19, 20, 21, 22, 41, 46, 54, 113, 117, 127, 137])
   (.cond (.tmp 54) (.seq (.reg [
   ⟨some 55, (.call 41), [], none, [], none⟩,
   ⟨some 8, .mov, [.tmp 55], none, [], none⟩] false [0, 1, 2, 3, 5, 8, 9, 10, 11, 12, 13, 14, 15, 16, 17, 18, 19, 20, 21, 22, 41, 46, 54, 113, 117, 127, 137])
   (.ret)) (.skip))))
   (.reg [
   ⟨some 47, .mov, [.tmp 9], none, [], none⟩,
   ⟨some 48, (.bin .add), [.tmp 47, .const (.int .i64 1)], none, [], none⟩,
   ⟨some 9, .mov, [.tmp 48], none, [], none⟩] false [0, 1, 2, 3, 5, 8, 9, 10, 11, 12, 13, 14, 15, 16, 17, 18, 19, 20, 21, 22, 41, 46, 54, 113, 117, 127, 137]))))))
  (.seq (.reg [
  ⟨some 56, .mov, [.tmp 0], none, [], none⟩,
  ⟨some 57, (.call 42), [.tmp 56], none, [], none⟩,
  ⟨some 10, .mov, [.tmp 57], none, [], none⟩] false [0, 1, 2, 3, 5, 8, 9, 10, 11, 12, 13, 14, 15, 16, 17, 18, 19, 20, 21, 22, 41, 46, 54, 113, 117, 127, 137])
  (.seq (.reg [
  ⟨some 59, .mov, [.tmp 0], none, [], none⟩,
  ⟨some 60, (.load (some 10)), [.tmp 5], none, [], none⟩,
  ⟨some 61, (.call 58), [.tmp 59, .tmp 60], none, [], none⟩,
  ⟨some 58, .mov, [.tmp 61], none, [], none⟩,
  ⟨some 62, (.ext 0), [.tmp 58], none, [], none⟩,
  ⟨some 63, (.ext 1), [.tmp 58], none, [], none⟩,
  ⟨some 11, .mov, [.tmp 62], none, [], none⟩,
  ⟨some 12, .mov, [.tmp 63], none, [], none⟩] false [0, 1, 2, 3, 5, 8, 9, 10, 11, 12, 13, 14, 15, 16, 17, 18, 19, 20, 21, 22, 41, 46, 54, 113, 117, 127, 137])
  (.seq (.reg [
  ⟨some 65, .mov, [.tmp 10], none, [], none⟩,
  ⟨some 66, (.load (some 10)), [.tmp 5], none, [], none⟩,
  ⟨some 67, (.call 50), [.tmp 66], none, [], none⟩,
  ⟨some 68, (.call 59), [.tmp 65, .tmp 67], none, [], none⟩,
  ⟨some 64, .mov, [.tmp 68], none, [], none⟩,
  ⟨some 69, (.ext 0), [.tmp 64], none, [], none⟩,
  ⟨some 70, (.ext 1), [.tmp 64], none, [], none⟩,
  ⟨some 13, .mov, [.tmp 69], none, [], none⟩,
  ⟨some 14, .mov, [.tmp 70], none, [], none⟩] false [0, 1, 2, 3, 5, 8, 9, 10, 11, 12, 13, 14, 15, 16, 17, 18, 19, 20, 21, 22, 41, 46, 54, 113, 117, 127, 137])
  (.seq (.reg [
  ⟨some 72, .mov, [.tmp 0], none, [], none⟩,
  ⟨some 73, .mov, [.tmp 3], none, [], none⟩,
  ⟨some 74, (.call 60), [.tmp 72, .tmp 73], none, [], none⟩,
  ⟨some 71, .mov, [.tmp 74], none, [], none⟩,
  ⟨some 75, (.ext 0), [.tmp 71], none, [], none⟩,
  ⟨some 76, (.ext 1), [.tmp 71], none, [], none⟩,
  ⟨some 15, .mov, [.tmp 75], none, [], none⟩,
  ⟨some 16, .mov, [.tmp 76], none, [], none⟩] false [0, 1, 2, 3, 5, 8, 9, 10, 11, 12, 13, 14, 15, 16, 17, 18, 19, 20, 21, 22, 41, 46, 54, 113, 117, 127, 137])
  (.seq (.reg [
  ⟨some 78, .mov, [.tmp 10], none, [], none⟩,
  ⟨some 79, .mov, [.tmp 3], none, [], none⟩,
  ⟨some 80, (.call 61), [.tmp 78, .tmp 79], none, [], none⟩,
  ⟨some 77, .mov, [.tmp 80], none, [], none⟩,
  ⟨some 81, (.ext 0), [.tmp 77], none, [], none⟩,
  ⟨some 82, (.ext 1), [.tmp 77], none, [], none⟩,
  ⟨some 17, .mov, [.tmp 81], none, [], none⟩,
  ⟨some 18, .mov, [.tmp 82], none, [], none⟩] false [0, 1, 2, 3, 5, 8, 9, 10, 11, 12, 13, 14, 15, 16, 17, 18, 19, 20, 21, 22, 41, 46, 54, 113, 117, 127, 137])
  (.seq (.reg [
  ⟨some 83, .mov, [.tmp 0], none, [], none⟩,
  ⟨some 84, .mov, [.tmp 2], none, [], none⟩,
  ⟨some 85, (.call 55), [.tmp 83, .tmp 84], none, [], none⟩,
  ⟨some 19, .mov, [.tmp 85], none, [], none⟩] false [0, 1, 2, 3, 5, 8, 9, 10, 11, 12, 13, 14, 15, 16, 17, 18, 19, 20, 21, 22, 41, 46, 54, 113, 117, 127, 137])
  (.seq (.seq (.reg [
  ⟨some 86, .mov, [.tmp 11], none, [], none⟩,
  ⟨some 87, .mov, [.tmp 13], none, [], none⟩,
  ⟨some 88, (.call 51), [.tmp 86, .tmp 87], none, [], none⟩,
  ⟨some 89, .not, [.tmp 88], none, [], none⟩,
  ⟨some 90, .mov, [.tmp 89], none, [], none⟩,
  ⟨some 91, .mov, [.tmp 12], some (90, false), [], none⟩,
  ⟨some 92, .mov, [.tmp 14], some (90, false), [], none⟩,
  ⟨some 93, (.bin .neq), [.tmp 91, .tmp 92], some (90, false), [], none⟩,
  ⟨some 94, .pick, [.tmp 90, .const (.bool true), .tmp 93], none, [], none⟩,
  ⟨some 95, .mov, [.tmp 94], none, [], none⟩,
  ⟨some 96, .mov, [.tmp 15], some (95, false), [], none⟩,
  ⟨some 97, .mov, [.tmp 17], some (95, false), [], none⟩,
  ⟨some 98, (.call 51), [.tmp 96, .tmp 97], some (95, false), [], none⟩,
  ⟨some 99, .not, [.tmp 98], some (95, false), [], none⟩,
  ⟨some 100, .pick, [.tmp 95, .const (.bool true), .tmp 99], none, [], none⟩,
  ⟨some 101, .mov, [.tmp 100], none, [], none⟩,
  ⟨some 102, .mov, [.tmp 16], some (101, false), [], none⟩,
  ⟨some 103, .mov, [.tmp 18], some (101, false), [], none⟩,
  ⟨some 104, (.bin .neq), [.tmp 102, .tmp 103], some (101, false), [], none⟩,
  ⟨some 105, .pick, [.tmp 101, .const (.bool true), .tmp 104], none, [], none⟩,
  ⟨some 106, .mov, [.tmp 105], none, [], none⟩,
  ⟨some 107, .mov, [.tmp 19], some (106, false), [], none⟩,
  ⟨some 108, .mov, [.tmp 10], some (106, false), [], none⟩,
  ⟨some 109, .mov, [.tmp 2], some (106, false), [], none⟩,
  ⟨some 110, (.call 62), [.tmp 108, .tmp 109], some (106, false), [], none⟩,
  ⟨some 111, (.call 51), [.tmp 107, .tmp 110], some (106, false), [], none⟩,
  ⟨some 112, .not, [.tmp 111], some (106, false), [], none⟩,
  ⟨some 113, .pick, [.tmp 106, .const (.bool true), .tmp 112], none, [], none⟩] false [0, 1, 2, 3, 5, 8, 9, 10, 11, 12, 13, 14, 15, 16, 17, 18, 19, 20, 21, 22, 41, 46, 54, 113, 117, 127, 137])
  (.cond (.tmp 113) (.seq (.reg [
  ⟨some 8, .mov, [.const (.bool false)], none, [], none⟩] false [0, 1, 2, 3, 5, 8, 9, 10, 11, 12, 13, 14, 15, 16, 17, 18, 19, 20, 21, 22, 41, 46, 54, 113, 117, 127, 137])
  (.ret)) (.skip)))
  (.seq (.seq (.reg [
  ⟨some 20, .mov, [.const (.int .i64 0)], none, [], none⟩] false [0, 1, 2, 3, 5, 8, 9, 10, 11, 12, 13, 14, 15, 16, 17, 18, 19, 20, 21, 22, 41, 46, 54, 113, 117, 127, 137])
  (.block 2 (.loop (.seq (.seq (.reg [
   ⟨some 114, .mov, [.tmp 20], none, [], none⟩,
   ⟨some 115, .mov, [.tmp 11], none, [], none⟩,
   ⟨some 116, .len, [.tmp 115], none, [], none⟩,
   ⟨some 117, (.bin .lss), [.tmp 114, .tmp 116], none, [], none⟩] false [0, 1, 2, 3, 5, 8, 9, 10, 11, 12, 13, 14, 15, 16, 17, 18, 19, 20, 21, 22, 41, 46, 54, 113, 117, 127, 137])
   (.cond (.tmp 117) (.skip) (.exit 2)))
   (.seq (.block 3 (.reg [
   ⟨some 120, .mov, [.tmp 11], none, [], none⟩,
   ⟨some 121, .mov, [.tmp 20], none, [], none⟩,
   ⟨some 122, (.bld [(.int .u64 0), (.int .u64 0), (.int .u64 0), (.int .u64 0), (.int .u64 0), (.int .u64 0), (.int .u64 0), (.string ⟨#[]⟩), (.bool false), (.bool false)] []), [], none, [], none⟩,
   ⟨some 123, (.ixa 70 10), [.tmp 120, .tmp 121], none, [], none⟩,
   ⟨none, (.store (some 10)), [.tmp 123, .tmp 122], none, [], none⟩] false [0, 1, 2, 3, 5, 8, 9, 10, 11, 12, 13, 14, 15, 16, 17, 18, 19, 20, 21, 22, 41, 46, 54, 113, 117, 127, 137]))
   (.reg [
   ⟨some 118, .mov, [.tmp 20], none, [], none⟩,
   ⟨some 119, (.bin .add), [.tmp 118, .const (.int .i64 1)], none, [], none⟩,
   ⟨some 20, .mov, [.tmp 119], none, [], none⟩] false [0, 1, 2, 3, 5, 8, 9, 10, 11, 12, 13, 14, 15, 16, 17, 18, 19, 20, 21, 22, 41, 46, 54, 113, 117, 127, 137]))))))
  (.seq (.seq (.reg [
  ⟨some 21, .mov, [.const (.int .i64 0)], none, [], none⟩] false [0, 1, 2, 3, 5, 8, 9, 10, 11, 12, 13, 14, 15, 16, 17, 18, 19, 20, 21, 22, 41, 46, 54, 113, 117, 127, 137])
  (.block 4 (.loop (.seq (.seq (.reg [
   ⟨some 124, .mov, [.tmp 21], none, [], none⟩,
   ⟨some 125, .mov, [.tmp 19], none, [], none⟩,
   ⟨some 126, .len, [.tmp 125], none, [], none⟩,
   ⟨some 127, (.bin .lss), [.tmp 124, .tmp 126], none, [], none⟩] false [0, 1, 2, 3, 5, 8, 9, 10, 11, 12, 13, 14, 15, 16, 17, 18, 19, 20, 21, 22, 41, 46, 54, 113, 117, 127, 137])
   (.cond (.tmp 127) (.skip) (.exit 4)))
   (.seq (.block 5 (.reg [
   ⟨some 130, .mov, [.tmp 19], none, [], none⟩,
   ⟨some 131, .mov, [.tmp 21], none, [], none⟩,
   ⟨some 132, (.bld [(.int .u64 0), (.int .u64 0), (.int .u64 0), (.int .u64 0), (.int .u64 0), (.int .u64 0), (.int .u64 0), (.string ⟨#[]⟩), (.bool false), (.bool false)] []), [], none, [], none⟩,
   ⟨some 133, (.ixa 70 10), [.tmp 130, .tmp 131], none, [], none⟩,
   ⟨none, (.store (some 10)), [.tmp 133, .tmp 132], none, [], none⟩] false [0, 1, 2, 3, 5, 8, 9, 10, 11, 12, 13, 14, 15, 16, 17, 18, 19, 20, 21, 22, 41, 46, 54, 113, 117, 127, 137]))
   (.reg [
   ⟨some 128, .mov, [.tmp 21], none, [], none⟩,
   ⟨some 129, (.bin .add), [.tmp 128, .const (.int .i64 1)], none, [], none⟩,
   ⟨some 21, .mov, [.tmp 129], none, [], none⟩] false [0, 1, 2, 3, 5, 8, 9, 10, 11, 12, 13, 14, 15, 16, 17, 18, 19, 20, 21, 22, 41, 46, 54, 113, 117, 127, 137]))))))
  (.seq (.seq (.reg [
  ⟨some 22, .mov, [.const (.int .i64 0)], none, [], none⟩] false [0, 1, 2, 3, 5, 8, 9, 10, 11, 12, 13, 14, 15, 16, 17, 18, 19, 20, 21, 22, 41, 46, 54, 113, 117, 127, 137])
  (.block 6 (.loop (.seq (.seq (.reg [
   ⟨some 134, .mov, [.tmp 22], none, [], none⟩,
   ⟨some 135, .mov, [.tmp 15], none, [], none⟩,
   ⟨some 136, .len, [.tmp 135], none, [], none⟩,
   ⟨some 137, (.bin .lss), [.tmp 134, .tmp 136], none, [], none⟩] false [0, 1, 2, 3, 5, 8, 9, 10, 11, 12, 13, 14, 15, 16, 17, 18, 19, 20, 21, 22, 41, 46, 54, 113, 117, 127, 137])
   (.cond (.tmp 137) (.skip) (.exit 6)))
   (.seq (.block 7 (.reg [
   ⟨some 140, .mov, [.tmp 15], none, [], none⟩,
   ⟨some 141, .mov, [.tmp 22], none, [], none⟩,
   ⟨some 142, (.bld [(.int .u64 0), (.int .u64 0), (.int .u64 0), (.int .u64 0), (.int .u64 0), (.int .u64 0), (.int .u64 0), (.string ⟨#[]⟩), (.bool false), (.bool false)] []), [], none, [], none⟩,
   ⟨some 143, (.ixa 70 10), [.tmp 140, .tmp 141], none, [], none⟩,
   ⟨none, (.store (some 10)), [.tmp 143, .tmp 142], none, [], none⟩] false [0, 1, 2, 3, 5, 8, 9, 10, 11, 12, 13, 14, 15, 16, 17, 18, 19, 20, 21, 22, 41, 46, 54, 113, 117, 127, 137]))
   (.reg [
   ⟨some 138, .mov, [.tmp 22], none, [], none⟩,
   ⟨some 139, (.bin .add), [.tmp 138, .const (.int .i64 1)], none, [], none⟩,
   ⟨some 22, .mov, [.tmp 139], none, [], none⟩] false [0, 1, 2, 3, 5, 8, 9, 10, 11, 12, 13, 14, 15, 16, 17, 18, 19, 20, 21, 22, 41, 46, 54, 113, 117, 127, 137]))))))
  (.seq (.reg [
  ⟨some 144, .mov, [.tmp 0], none, [], none⟩,
  ⟨some 145, .mov, [.tmp 10], none, [], none⟩,
  ⟨some 146, (.call 51), [.tmp 144, .tmp 145], none, [], none⟩,
  ⟨some 147, .mov, [.tmp 146], none, [], none⟩,
  ⟨some 148, (.call 41), [], some (147, true), [], none⟩,
  ⟨some 149, .pick, [.tmp 147, .tmp 148, .const (.bool false)], none, [], none⟩,
  ⟨some 8, .mov, [.tmp 149], none, [], none⟩] false [0, 1, 2, 3, 5, 8, 9, 10, 11, 12, 13, 14, 15, 16, 17, 18, 19, 20, 21, 22, 41, 46, 54, 113, 117, 127, 137])
  (.ret))))))))))))))
def keep9 : List Nat := [0, 1, 2, 3, 5, 8, 9, 10, 11, 12, 13, 14, 15, 16, 17, 18, 19, 20, 21, 22, 41, 46, 54, 113, 117, 127, 137]
theorem fn9 : compFn Try.prog 9 keep9 = some ⟨150, 4, [(8, none)], body9⟩ := by kernel_rfl

end Go.Proofs.Ytfpmjcdcpicmaaa.Ab
