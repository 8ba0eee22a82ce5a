/- The code of the functions, in the abstract machine's form (printed by wip/mk.py). -/
import Derived.Test.YtcgllachkjnlgaaAb21
import Derived.Test.YtcgllachkjnlgaaChecked
namespace Go.Proofs.Ytcgllachkjnlgaa.Ab
open Go Go.RowKit
set_option maxRecDepth 100000

/- chartroom/chartroomlaw05.DeltaApplies -/
def body3 : AC :=
  .seq (.reg [
  ⟨some 4, .mov, [.const (.bool false)], none, [], none⟩] false [0, 1, 4, 5, 6, 7, 8, 9, 10, 11, 12, 13, 14, 15, 16, 17, 18, 19, 20, 21, 22, 30, 122, 126])
  (.seq (.seq (.reg [
  ⟨some 23, .mov, [.tmp 0], none, [], none⟩,
  ⟨some 24, .slen, [.tmp 23], none, [], none⟩,
  ⟨some 25, (.bin .gtr), [.tmp 24, .const (.int .i64 2000)], none, [], none⟩,
  ⟨some 26, .mov, [.tmp 25], none, [], none⟩,
  ⟨some 27, .mov, [.tmp 1], some (26, false), [], none⟩,
  ⟨some 28, (.call 8), [.tmp 27], some (26, false), [], none⟩,
  ⟨some 29, .not, [.tmp 28], some (26, false), [], none⟩,
  ⟨some 30, .pick, [.tmp 26, .const (.bool true), .tmp 29], none, [], none⟩] false [0, 1, 4, 5, 6, 7, 8, 9, 10, 11, 12, 13, 14, 15, 16, 17, 18, 19, 20, 21, 22, 30, 122, 126])
  (.cond (.tmp 30) (.seq (.reg [
  ⟨some 31, (.call 9), [], none, [], none⟩,
  ⟨some 4, .mov, [.tmp 31], none, [], none⟩] false [0, 1, 4, 5, 6, 7, 8, 9, 10, 11, 12, 13, 14, 15, 16, 17, 18, 19, 20, 21, 22, 30, 122, 126])
  (.ret)) (.skip)))
  (.seq (.reg [
  ⟨some 32, .mov, [.tmp 1], none, [], none⟩,
  ⟨some 33, (.call 10), [.tmp 32], none, [], none⟩,
  ⟨some 5, .mov, [.tmp 33], none, [], none⟩] false [0, 1, 4, 5, 6, 7, 8, 9, 10, 11, 12, 13, 14, 15, 16, 17, 18, 19, 20, 21, 22, 30, 122, 126])
  (.seq (.reg [
  ⟨some 35, .mov, [.tmp 0], none, [], none⟩,
  ⟨some 36, .mov, [.tmp 1], none, [], none⟩,
  ⟨some 37, (.call 11), [.tmp 35, .tmp 36], none, [], none⟩,
  ⟨some 34, .mov, [.tmp 37], none, [], none⟩,
  ⟨some 38, (.ext 0), [.tmp 34], none, [], none⟩,
  ⟨some 39, (.ext 1), [.tmp 34], none, [], none⟩,
  ⟨some 6, .mov, [.tmp 38], none, [], none⟩,
  ⟨some 7, .mov, [.tmp 39], none, [], none⟩] false [0, 1, 4, 5, 6, 7, 8, 9, 10, 11, 12, 13, 14, 15, 16, 17, 18, 19, 20, 21, 22, 30, 122, 126])
  (.seq (.reg [
  ⟨some 41, .mov, [.tmp 0], none, [], none⟩,
  ⟨some 42, .mov, [.tmp 5], none, [], none⟩,
  ⟨some 43, (.call 12), [.tmp 41, .tmp 42], none, [], none⟩,
  ⟨some 40, .mov, [.tmp 43], none, [], none⟩,
  ⟨some 44, (.ext 0), [.tmp 40], none, [], none⟩,
  ⟨some 45, (.ext 1), [.tmp 40], none, [], none⟩,
  ⟨some 8, .mov, [.tmp 44], none, [], none⟩,
  ⟨some 9, .mov, [.tmp 45], none, [], none⟩] false [0, 1, 4, 5, 6, 7, 8, 9, 10, 11, 12, 13, 14, 15, 16, 17, 18, 19, 20, 21, 22, 30, 122, 126])
  (.seq (.reg [
  ⟨some 47, .mov, [.tmp 1], none, [], none⟩,
  ⟨some 48, (.call 13), [.tmp 47], none, [], none⟩,
  ⟨some 46, .mov, [.tmp 48], none, [], none⟩,
  ⟨some 49, (.ext 0), [.tmp 46], none, [], none⟩,
  ⟨some 50, (.ext 1), [.tmp 46], none, [], none⟩,
  ⟨some 10, .mov, [.tmp 49], none, [], none⟩,
  ⟨some 11, .mov, [.tmp 50], none, [], none⟩] false [0, 1, 4, 5, 6, 7, 8, 9, 10, 11, 12, 13, 14, 15, 16, 17, 18, 19, 20, 21, 22, 30, 122, 126])
  (.seq (.reg [
  ⟨some 52, .mov, [.tmp 5], none, [], none⟩,
  ⟨some 53, (.call 14), [.tmp 52], none, [], none⟩,
  ⟨some 51, .mov, [.tmp 53], none, [], none⟩,
  ⟨some 54, (.ext 0), [.tmp 51], none, [], none⟩,
  ⟨some 55, (.ext 1), [.tmp 51], none, [], none⟩,
  ⟨some 12, .mov, [.tmp 54], none, [], none⟩,
  ⟨some 13, .mov, [.tmp 55], none, [], none⟩] false [0, 1, 4, 5, 6, 7, 8, 9, 10, 11, 12, 13, 14, 15, 16, 17, 18, 19, 20, 21, 22, 30, 122, 126])
  (.seq (.reg [
  ⟨some 57, .mov, [.tmp 1], none, [], none⟩,
  ⟨some 58, (.call 15), [.tmp 57], none, [], none⟩,
  ⟨some 56, .mov, [.tmp 58], none, [], none⟩,
  ⟨some 59, (.ext 0), [.tmp 56], none, [], none⟩,
  ⟨some 60, (.ext 1), [.tmp 56], none, [], none⟩,
  ⟨some 14, .mov, [.tmp 59], none, [], none⟩,
  ⟨some 15, .mov, [.tmp 60], none, [], none⟩] false [0, 1, 4, 5, 6, 7, 8, 9, 10, 11, 12, 13, 14, 15, 16, 17, 18, 19, 20, 21, 22, 30, 122, 126])
  (.seq (.reg [
  ⟨some 62, .mov, [.tmp 5], none, [], none⟩,
  ⟨some 63, (.call 16), [.tmp 62], none, [], none⟩,
  ⟨some 61, .mov, [.tmp 63], none, [], none⟩,
  ⟨some 64, (.ext 0), [.tmp 61], none, [], none⟩,
  ⟨some 65, (.ext 1), [.tmp 61], none, [], none⟩,
  ⟨some 16, .mov, [.tmp 64], none, [], none⟩,
  ⟨some 17, .mov, [.tmp 65], none, [], none⟩] false [0, 1, 4, 5, 6, 7, 8, 9, 10, 11, 12, 13, 14, 15, 16, 17, 18, 19, 20, 21, 22, 30, 122, 126])
  (.seq (.reg [
  ⟨some 67, .mov, [.tmp 1], none, [], none⟩,
  ⟨some 68, (.call 17), [.tmp 67], none, [], none⟩,
  ⟨some 66, .mov, [.tmp 68], none, [], none⟩,
  ⟨some 69, (.ext 0), [.tmp 66], none, [], none⟩,
  ⟨some 70, (.ext 1), [.tmp 66], none, [], none⟩,
  ⟨some 18, .mov, [.tmp 69], none, [], none⟩,
  ⟨some 19, .mov, [.tmp 70], none, [], none⟩] false [0, 1, 4, 5, 6, 7, 8, 9, 10, 11, 12, 13, 14, 15, 16, 17, 18, 19, 20, 21, 22, 30, 122, 126])
  (.seq (.reg [
  ⟨some 72, .mov, [.tmp 5], none, [], none⟩,
  ⟨some 73, (.call 18), [.tmp 72], none, [], none⟩,
  ⟨some 71, .mov, [.tmp 73], none, [], none⟩,
  ⟨some 74, (.ext 0), [.tmp 71], none, [], none⟩,
  ⟨some 75, (.ext 1), [.tmp 71], none, [], none⟩,
  ⟨some 20, .mov, [.tmp 74], none, [], none⟩,
  ⟨some 21, .mov, [.tmp 75], none, [], none⟩] false [0, 1, 4, 5, 6, 7, 8, 9, 10, 11, 12, 13, 14, 15, 16, 17, 18, 19, 20, 21, 22, 30, 122, 126])
  (.seq (.seq (.reg (
  ⟨some 76, .mov, [.tmp 6], none, [], none⟩ ::
  ⟨some 77, .mov, [.tmp 8], none, [], none⟩ ::
  ⟨some 78, (.bin .neq), [.tmp 76, .tmp 77], none, [], none⟩ ::
  ⟨some 79, .mov, [.tmp 78], none, [], none⟩ ::
  ⟨some 80, .mov, [.tmp 7], some (79, false), [], none⟩ ::
  ⟨some 81, .mov, [.tmp 9], some (79, false), [], none⟩ ::
  ⟨some 82, (.bin .neq), [.tmp 80, .tmp 81], some (79, false), [], none⟩ ::
  ⟨some 83, .pick, [.tmp 79, .const (.bool true), .tmp 82], none, [], none⟩ ::
  ⟨some 84, .mov, [.tmp 83], none, [], none⟩ ::
  ⟨some 85, .mov, [.tmp 10], some (84, false), [], none⟩ ::
  ⟨some 86, .mov, [.tmp 12], some (84, false), [], none⟩ ::
  ⟨some 87, (.bin .neq), [.tmp 85, .tmp 86], some (84, false), [], none⟩ ::
  ⟨some 88, .pick, [.tmp 84, .const (.bool true), .tmp 87], none, [], none⟩ ::
  ⟨some 89, .mov, [.tmp 88], none, [], none⟩ ::
  ⟨some 90, .mov, [.tmp 11], some (89, false), [], none⟩ ::
  ⟨some 91, .mov, [.tmp 13], some (89, false), [], none⟩ ::
  ⟨some 92, (.bin .neq), [.tmp 90, .tmp 91], some (89, false), [], none⟩ ::
  ⟨some 93, .pick, [.tmp 89, .const (.bool true), .tmp 92], none, [], none⟩ ::
  ⟨some 94, .mov, [.tmp 93], none, [], none⟩ ::
  ⟨some 95, .mov, [.tmp 14], some (94, false), [], none⟩ ::
  ⟨some 96, .mov, [.tmp 16], some (94, false), [], none⟩ ::
  ⟨some 97, (.call 19), [.tmp 95, .tmp 96], some (94, false), [], none⟩ ::
  ⟨some 98, .not, [.tmp 97], some (94, false), [], none⟩ ::
  ⟨some 99, .pick, [.tmp 94, .const (.bool true), .tmp 98], none, [], none⟩ ::
  ⟨some 100, .mov, [.tmp 99], none, [], none⟩ ::
  ⟨some 101, .mov, [.tmp 15], some (100, false), [], none⟩ ::
  ⟨some 102, .mov, [.tmp 17], some (100, false), [], none⟩ ::
  ⟨some 103, (.bin .neq), [.tmp 101, .tmp 102], some (100, false), [], none⟩ ::
  ⟨some 104, .pick, [.tmp 100, .const (.bool true), .tmp 103], none, [], none⟩ ::
  ⟨some 105, .mov, [.tmp 104], none, [], none⟩ ::
  ⟨some 106, .mov, [.tmp 18], some (105, false), [], none⟩ ::
  ⟨some 107, .mov, [.tmp 20], some (105, false), [], none⟩ ::
  ⟨some 108, (.call 20), [.tmp 106, .tmp 107], some (105, false), [], none⟩ ::
  ⟨some 109, .not, [.tmp 108], some (105, false), [], none⟩ ::
  ⟨some 110, .pick, [.tmp 105, .const (.bool true), .tmp 109], none, [], none⟩ ::
  ⟨some 111, .mov, [.tmp 110], none, [], none⟩ ::
  ⟨some 112, .mov, [.tmp 19], some (111, false), [], none⟩ ::
  ⟨some 113, .mov, [.tmp 21], some (111, false), [], none⟩ ::
  ⟨some 114, (.bin .neq), [.tmp 112, .tmp 113], some (111, false), [], none⟩ ::
  ⟨some 115, .pick, [.tmp 111, .const (.bool true), .tmp 114], none, [], none⟩ ::
  ⟨some 116, .mov, [.tmp 115], none, [], none⟩ ::
  ⟨some 117, .mov, [.tmp 1], some (116, false), [], none⟩ ::
  ⟨some 118, (.call 21), [.tmp 117], some (116, false), [], none⟩ ::
  ⟨some 119, .mov, [.tmp 5], some (116, false), [], none⟩ ::
  ⟨some 120, (.call 22), [.tmp 119], some (116, false), [], none⟩ ::
  ⟨some 121, (.beq true), [.tmp 118, .tmp 120], some (116, false), [], none⟩ ::
  ⟨some 122, .pick, [.tmp 116, .const (.bool true), .tmp 121], none, [], none⟩ :: []) false [0, 1, 4, 5, 6, 7, 8, 9, 10, 11, 12, 13, 14, 15, 16, 17, 18, 19, 20, 21, 22, 30, 122, 126])
  (.cond (.tmp 122) (.seq (.reg [
  ⟨some 4, .mov, [.const (.bool false)], none, [], none⟩] false [0, 1, 4, 5, 6, 7, 8, 9, 10, 11, 12, 13, 14, 15, 16, 17, 18, 19, 20, 21, 22, 30, 122, 126])
  (.ret)) (.skip)))
  (.seq (.seq (.reg [
  ⟨some 22, .mov, [.const (.int .i64 0)], none, [], none⟩] false [0, 1, 4, 5, 6, 7, 8, 9, 10, 11, 12, 13, 14, 15, 16, 17, 18, 19, 20, 21, 22, 30, 122, 126])
  (.block 0 (.loop (.seq (.seq (.reg [
   ⟨some 123, .mov, [.tmp 22], none, [], none⟩,
   ⟨some 124, .mov, [.tmp 14], none, [], none⟩,
   ⟨some 125, .len, [.tmp 124], none, [], none⟩,
   ⟨some 126, (.bin .lss), [.tmp 123, .tmp 125], none, [], none⟩] false [0, 1, 4, 5, 6, 7, 8, 9, 10, 11, 12, 13, 14, 15, 16, 17, 18, 19, 20, 21, 22, 30, 122, 126])
   (.cond (.tmp 126) (.skip) (.exit 0)))
   (.seq (.block 1 (.reg [
   ⟨some 129, .mov, [.tmp 14], none, [], none⟩,
   ⟨some 130, .mov, [.tmp 22], none, [], none⟩,
   ⟨some 131, (.bld [(.int .u8 0), (.int .i64 0), (.string ⟨#[]⟩)] []), [], none, [], none⟩,
   ⟨some 132, (.ixa 47 3), [.tmp 129, .tmp 130], none, [], none⟩,
   ⟨none, (.store (some 3)), [.tmp 132, .tmp 131], none, [], none⟩] false [0, 1, 4, 5, 6, 7, 8, 9, 10, 11, 12, 13, 14, 15, 16, 17, 18, 19, 20, 21, 22, 30, 122, 126]))
   (.reg [
   ⟨some 127, .mov, [.tmp 22], none, [], none⟩,
   ⟨some 128, (.bin .add), [.tmp 127, .const (.int .i64 1)], none, [], none⟩,
   ⟨some 22, .mov, [.tmp 128], none, [], none⟩] false [0, 1, 4, 5, 6, 7, 8, 9, 10, 11, 12, 13, 14, 15, 16, 17, 18, 19, 20, 21, 22, 30, 122, 126]))))))
  (.seq (.reg [
  ⟨some 133, .mov, [.tmp 1], none, [], none⟩,
  ⟨some 134, .mov, [.tmp 5], none, [], none⟩,
  ⟨some 135, (.call 19), [.tmp 133, .tmp 134], none, [], none⟩,
  ⟨some 136, .mov, [.tmp 135], none, [], none⟩,
  ⟨some 137, (.call 9), [], some (136, true), [], none⟩,
  ⟨some 138, .pick, [.tmp 136, .tmp 137, .const (.bool false)], none, [], none⟩,
  ⟨some 4, .mov, [.tmp 138], none, [], none⟩] false [0, 1, 4, 5, 6, 7, 8, 9, 10, 11, 12, 13, 14, 15, 16, 17, 18, 19, 20, 21, 22, 30, 122, 126])
  (.ret))))))))))))))
def keep3 : List Nat := [0, 1, 4, 5, 6, 7, 8, 9, 10, 11, 12, 13, 14, 15, 16, 17, 18, 19, 20, 21, 22, 30, 122, 126]
theorem fn3 : compFn Try.prog 3 keep3 = some ⟨139, 2, [(4, none)], body3⟩ := by kernel_rfl

/- chartroom/chartroomlaw05.DeltaDiffs -/
def body4 : AC :=
  .seq (.reg [
  ⟨some 4, .mov, [.const (.bool false)], none, [], none⟩] false [0, 1, 4, 5, 6, 7, 8, 9, 10, 11, 19])
  (.seq (.seq (.reg [
  ⟨some 12, .mov, [.tmp 0], none, [], none⟩,
  ⟨some 13, .slen, [.tmp 12], none, [], none⟩,
  ⟨some 14, (.bin .gtr), [.tmp 13, .const (.int .i64 2000)], none, [], none⟩,
  ⟨some 15, .mov, [.tmp 14], none, [], none⟩,
  ⟨some 16, .mov, [.tmp 1], some (15, false), [], none⟩,
  ⟨some 17, .slen, [.tmp 16], some (15, false), [], none⟩,
  ⟨some 18, (.bin .gtr), [.tmp 17, .const (.int .i64 2000)], some (15, false), [], none⟩,
  ⟨some 19, .pick, [.tmp 15, .const (.bool true), .tmp 18], none, [], none⟩] false [0, 1, 4, 5, 6, 7, 8, 9, 10, 11, 19])
  (.cond (.tmp 19) (.seq (.reg [
  ⟨some 20, (.call 9), [], none, [], none⟩,
  ⟨some 4, .mov, [.tmp 20], none, [], none⟩] false [0, 1, 4, 5, 6, 7, 8, 9, 10, 11, 19])
  (.ret)) (.skip)))
  (.seq (.reg [
  ⟨some 21, .mov, [.tmp 0], none, [], none⟩,
  ⟨some 22, .mov, [.tmp 1], none, [], none⟩,
  ⟨some 23, (.call 23), [.tmp 21, .tmp 22], none, [], none⟩,
  ⟨some 5, .mov, [.tmp 23], none, [], none⟩] false [0, 1, 4, 5, 6, 7, 8, 9, 10, 11, 19])
  (.seq (.reg [
  ⟨some 25, .mov, [.tmp 0], none, [], none⟩,
  ⟨some 26, .mov, [.tmp 5], none, [], none⟩,
  ⟨some 27, (.call 11), [.tmp 25, .tmp 26], none, [], none⟩,
  ⟨some 24, .mov, [.tmp 27], none, [], none⟩,
  ⟨some 28, (.ext 0), [.tmp 24], none, [], none⟩,
  ⟨some 29, (.ext 1), [.tmp 24], none, [], none⟩,
  ⟨some 6, .mov, [.tmp 28], none, [], none⟩,
  ⟨some 7, .mov, [.tmp 29], none, [], none⟩] false [0, 1, 4, 5, 6, 7, 8, 9, 10, 11, 19])
  (.seq (.reg [
  ⟨some 31, .mov, [.tmp 5], none, [], none⟩,
  ⟨some 32, (.call 15), [.tmp 31], none, [], none⟩,
  ⟨some 30, .mov, [.tmp 32], none, [], none⟩,
  ⟨some 33, (.ext 0), [.tmp 30], none, [], none⟩,
  ⟨some 34, (.ext 1), [.tmp 30], none, [], none⟩,
  ⟨some 8, .mov, [.tmp 33], none, [], none⟩,
  ⟨some 9, .mov, [.tmp 34], none, [], none⟩] false [0, 1, 4, 5, 6, 7, 8, 9, 10, 11, 19])
  (.seq (.reg [
  ⟨some 36, .mov, [.tmp 5], none, [], none⟩,
  ⟨some 37, (.call 13), [.tmp 36], none, [], none⟩,
  ⟨some 35, .mov, [.tmp 37], none, [], none⟩,
  ⟨some 38, (.ext 0), [.tmp 35], none, [], none⟩,
  ⟨some 39, (.ext 1), [.tmp 35], none, [], none⟩,
  ⟨some 10, .mov, [.tmp 38], none, [], none⟩,
  ⟨some 11, .mov, [.tmp 39], none, [], none⟩] false [0, 1, 4, 5, 6, 7, 8, 9, 10, 11, 19])
  (.seq (.reg (
  ⟨some 40, .mov, [.tmp 5], none, [], none⟩ ::
  ⟨some 41, .mov, [.tmp 0], none, [], none⟩ ::
  ⟨some 42, .mov, [.tmp 1], none, [], none⟩ ::
  ⟨some 43, (.call 24), [.tmp 41, .tmp 42], none, [], none⟩ ::
  ⟨some 44, (.call 19), [.tmp 40, .tmp 43], none, [], none⟩ ::
  ⟨some 45, .mov, [.tmp 44], none, [], none⟩ ::
  ⟨some 46, .mov, [.tmp 7], some (45, true), [], none⟩ ::
  ⟨some 47, (.bin .eql), [.tmp 46, .const (.int .i64 0)], some (45, true), [], none⟩ ::
  ⟨some 48, .pick, [.tmp 45, .tmp 47, .const (.bool false)], none, [], none⟩ ::
  ⟨some 49, .mov, [.tmp 48], none, [], none⟩ ::
  ⟨some 50, .mov, [.tmp 6], some (49, true), [], none⟩ ::
  ⟨some 51, .mov, [.tmp 1], some (49, true), [], none⟩ ::
  ⟨some 52, (.bin .eql), [.tmp 50, .tmp 51], some (49, true), [], none⟩ ::
  ⟨some 53, .pick, [.tmp 49, .tmp 52, .const (.bool false)], none, [], none⟩ ::
  ⟨some 54, .mov, [.tmp 53], none, [], none⟩ ::
  ⟨some 55, .mov, [.tmp 9], some (54, true), [], none⟩ ::
  ⟨some 56, (.bin .eql), [.tmp 55, .const (.int .i64 0)], some (54, true), [], none⟩ ::
  ⟨some 57, .pick, [.tmp 54, .tmp 56, .const (.bool false)], none, [], none⟩ ::
  ⟨some 58, .mov, [.tmp 57], none, [], none⟩ ::
  ⟨some 59, .mov, [.tmp 8], some (58, true), [], none⟩ ::
  ⟨some 60, .mov, [.tmp 5], some (58, true), [], none⟩ ::
  ⟨some 61, (.call 10), [.tmp 60], some (58, true), [], none⟩ ::
  ⟨some 62, (.call 19), [.tmp 59, .tmp 61], some (58, true), [], none⟩ ::
  ⟨some 63, .pick, [.tmp 58, .tmp 62, .const (.bool false)], none, [], none⟩ ::
  ⟨some 64, .mov, [.tmp 63], none, [], none⟩ ::
  ⟨some 65, .mov, [.tmp 10], some (64, true), [], none⟩ ::
  ⟨some 66, .mov, [.tmp 0], some (64, true), [], none⟩ ::
  ⟨some 67, .slen, [.tmp 66], some (64, true), [], none⟩ ::
  ⟨some 68, (.bin .eql), [.tmp 65, .tmp 67], some (64, true), [], none⟩ ::
  ⟨some 69, .pick, [.tmp 64, .tmp 68, .const (.bool false)], none, [], none⟩ ::
  ⟨some 70, .mov, [.tmp 69], none, [], none⟩ ::
  ⟨some 71, .mov, [.tmp 11], some (70, true), [], none⟩ ::
  ⟨some 72, .mov, [.tmp 1], some (70, true), [], none⟩ ::
  ⟨some 73, .slen, [.tmp 72], some (70, true), [], none⟩ ::
  ⟨some 74, (.bin .eql), [.tmp 71, .tmp 73], some (70, true), [], none⟩ ::
  ⟨some 75, .pick, [.tmp 70, .tmp 74, .const (.bool false)], none, [], none⟩ ::
  ⟨some 76, .mov, [.tmp 75], none, [], none⟩ ::
  ⟨some 77, (.call 9), [], some (76, true), [], none⟩ ::
  ⟨some 78, .pick, [.tmp 76, .tmp 77, .const (.bool false)], none, [], none⟩ ::
  ⟨some 4, .mov, [.tmp 78], none, [], none⟩ :: []) false [0, 1, 4, 5, 6, 7, 8, 9, 10, 11, 19])
  (.ret)))))))
def keep4 : List Nat := [0, 1, 4, 5, 6, 7, 8, 9, 10, 11, 19]
theorem fn4 : compFn Try.prog 4 keep4 = some ⟨79, 2, [(4, none)], body4⟩ := by kernel_rfl

/- chartroom/chartroomlaw05.DeltaParses -/
def body5 : AC :=
  .seq (.reg [
  ⟨some 2, .mov, [.const (.bool false)], none, [], none⟩] false [0, 2, 3, 4, 5, 6, 7, 10])
  (.seq (.seq (.reg [
  ⟨some 8, .mov, [.tmp 0], none, [], none⟩,
  ⟨some 9, .len, [.tmp 8], none, [], none⟩,
  ⟨some 10, (.bin .gtr), [.tmp 9, .const (.int .i64 2000)], none, [], none⟩] false [0, 2, 3, 4, 5, 6, 7, 10])
  (.cond (.tmp 10) (.seq (.reg [
  ⟨some 11, (.call 9), [], none, [], none⟩,
  ⟨some 2, .mov, [.tmp 11], none, [], none⟩] false [0, 2, 3, 4, 5, 6, 7, 10])
  (.ret)) (.skip)))
  (.seq (.reg [
  ⟨some 12, .mov, [.tmp 0], none, [], none⟩,
  ⟨some 13, (.call 25), [.tmp 12], none, [], none⟩,
  ⟨some 3, .mov, [.tmp 13], none, [], none⟩] false [0, 2, 3, 4, 5, 6, 7, 10])
  (.seq (.reg [
  ⟨some 15, .mov, [.tmp 0], none, [], none⟩,
  ⟨some 16, (.call 26), [.tmp 15], none, [], none⟩,
  ⟨some 14, .mov, [.tmp 16], none, [], none⟩,
  ⟨some 17, (.ext 0), [.tmp 14], none, [], none⟩,
  ⟨some 18, (.ext 1), [.tmp 14], none, [], none⟩,
  ⟨some 4, .mov, [.tmp 17], none, [], none⟩,
  ⟨some 5, .mov, [.tmp 18], none, [], none⟩] false [0, 2, 3, 4, 5, 6, 7, 10])
  (.seq (.reg [
  ⟨some 20, .mov, [.tmp 3], none, [], none⟩,
  ⟨some 21, (.call 27), [.tmp 20], none, [], none⟩,
  ⟨some 19, .mov, [.tmp 21], none, [], none⟩,
  ⟨some 22, (.ext 0), [.tmp 19], none, [], none⟩,
  ⟨some 23, (.ext 1), [.tmp 19], none, [], none⟩,
  ⟨some 6, .mov, [.tmp 22], none, [], none⟩,
  ⟨some 7, .mov, [.tmp 23], none, [], none⟩] false [0, 2, 3, 4, 5, 6, 7, 10])
  (.seq (.reg [
  ⟨some 24, .mov, [.tmp 5], none, [], none⟩,
  ⟨some 25, .mov, [.tmp 7], none, [], none⟩,
  ⟨some 26, (.bin .eql), [.tmp 24, .tmp 25], none, [], none⟩,
  ⟨some 27, .mov, [.tmp 26], none, [], none⟩,
  ⟨some 28, .mov, [.tmp 4], some (27, true), [], none⟩,
  ⟨some 29, .mov, [.tmp 6], some (27, true), [], none⟩,
  ⟨some 30, (.call 19), [.tmp 28, .tmp 29], some (27, true), [], none⟩,
  ⟨some 31, .pick, [.tmp 27, .tmp 30, .const (.bool false)], none, [], none⟩,
  ⟨some 32, .mov, [.tmp 31], none, [], none⟩,
  ⟨some 33, .mov, [.tmp 0], some (32, true), [], none⟩,
  ⟨some 34, .mov, [.tmp 3], some (32, true), [], none⟩,
  ⟨some 35, (.call 20), [.tmp 33, .tmp 34], some (32, true), [], none⟩,
  ⟨some 36, .pick, [.tmp 32, .tmp 35, .const (.bool false)], none, [], none⟩,
  ⟨some 37, .mov, [.tmp 36], none, [], none⟩,
  ⟨some 38, (.call 9), [], some (37, true), [], none⟩,
  ⟨some 39, .pick, [.tmp 37, .tmp 38, .const (.bool false)], none, [], none⟩,
  ⟨some 2, .mov, [.tmp 39], none, [], none⟩] false [0, 2, 3, 4, 5, 6, 7, 10])
  (.ret))))))
def keep5 : List Nat := [0, 2, 3, 4, 5, 6, 7, 10]
theorem fn5 : compFn Try.prog 5 keep5 = some ⟨40, 1, [(2, none)], body5⟩ := by kernel_rfl

/- chartroom/chartroomlaw05.DeltaBack -/
def body6 : AC :=
  .seq (.reg [
  ⟨some 6, .mov, [.const (.bool false)], none, [], none⟩] false [0, 1, 2, 6, 7, 8, 9, 10, 11, 12, 13, 14, 15, 16, 17, 18, 19, 20, 21, 22, 23, 24, 25, 26, 39, 47, 61, 68, 81, 94, 152])
  (.seq (.seq (.reg [
  ⟨some 27, .mov, [.tmp 0], none, [], none⟩,
  ⟨some 28, .slen, [.tmp 27], none, [], none⟩,
  ⟨some 29, (.bin .gtr), [.tmp 28, .const (.int .i64 2000)], none, [], none⟩,
  ⟨some 30, .mov, [.tmp 29], none, [], none⟩,
  ⟨some 31, .mov, [.tmp 1], some (30, false), [], none⟩,
  ⟨some 32, (.call 8), [.tmp 31], some (30, false), [], none⟩,
  ⟨some 33, .not, [.tmp 32], some (30, false), [], none⟩,
  ⟨some 34, .pick, [.tmp 30, .const (.bool true), .tmp 33], none, [], none⟩,
  ⟨some 35, .mov, [.tmp 34], none, [], none⟩,
  ⟨some 36, .mov, [.tmp 2], some (35, false), [], none⟩,
  ⟨some 37, .len, [.tmp 36], some (35, false), [], none⟩,
  ⟨some 38, (.bin .gtr), [.tmp 37, .const (.int .i64 500)], some (35, false), [], none⟩,
  ⟨some 39, .pick, [.tmp 35, .const (.bool true), .tmp 38], none, [], none⟩] false [0, 1, 2, 6, 7, 8, 9, 10, 11, 12, 13, 14, 15, 16, 17, 18, 19, 20, 21, 22, 23, 24, 25, 26, 39, 47, 61, 68, 81, 94, 152])
  (.cond (.tmp 39) (.seq (.reg [
  ⟨some 40, (.call 9), [], none, [], none⟩,
  ⟨some 6, .mov, [.tmp 40], none, [], none⟩] false [0, 1, 2, 6, 7, 8, 9, 10, 11, 12, 13, 14, 15, 16, 17, 18, 19, 20, 21, 22, 23, 24, 25, 26, 39, 47, 61, 68, 81, 94, 152])
  (.ret)) (.skip)))
  (.seq (.reg [
  ⟨some 42, .mov, [.tmp 1], none, [], none⟩,
  ⟨some 43, (.call 17), [.tmp 42], none, [], none⟩,
  ⟨some 41, .mov, [.tmp 43], none, [], none⟩,
  ⟨some 44, (.ext 0), [.tmp 41], none, [], none⟩,
  ⟨some 45, (.ext 1), [.tmp 41], none, [], none⟩,
  ⟨some 7, .mov, [.tmp 44], none, [], none⟩,
  ⟨some 8, .mov, [.tmp 45], none, [], none⟩] false [0, 1, 2, 6, 7, 8, 9, 10, 11, 12, 13, 14, 15, 16, 17, 18, 19, 20, 21, 22, 23, 24, 25, 26, 39, 47, 61, 68, 81, 94, 152])
  (.seq (.seq (.reg [
  ⟨some 46, .mov, [.tmp 8], none, [], none⟩,
  ⟨some 47, (.bin .eql), [.tmp 46, .const (.int .i64 0)], none, [], none⟩] false [0, 1, 2, 6, 7, 8, 9, 10, 11, 12, 13, 14, 15, 16, 17, 18, 19, 20, 21, 22, 23, 24, 25, 26, 39, 47, 61, 68, 81, 94, 152])
  (.cond (.tmp 47) (.seq (.reg [
  ⟨some 49, .mov, [.tmp 7], none, [], none⟩,
  ⟨some 50, (.call 26), [.tmp 49], none, [], none⟩,
  ⟨some 48, .mov, [.tmp 50], none, [], none⟩,
  ⟨some 51, (.ext 0), [.tmp 48], none, [], none⟩,
  ⟨some 52, (.ext 1), [.tmp 48], none, [], none⟩,
  ⟨some 9, .mov, [.tmp 51], none, [], none⟩,
  ⟨some 10, .mov, [.tmp 52], none, [], none⟩] false [0, 1, 2, 6, 7, 8, 9, 10, 11, 12, 13, 14, 15, 16, 17, 18, 19, 20, 21, 22, 23, 24, 25, 26, 39, 47, 61, 68, 81, 94, 152])
  (.seq (.reg [
  ⟨some 53, .mov, [.tmp 10], none, [], none⟩,
  ⟨some 54, (.bin .neq), [.tmp 53, .const (.int .i64 0)], none, [], none⟩,
  ⟨some 55, .mov, [.tmp 54], none, [], none⟩,
  ⟨some 56, .mov, [.tmp 9], some (55, false), [], none⟩,
  ⟨some 57, .mov, [.tmp 1], some (55, false), [], none⟩,
  ⟨some 58, (.call 10), [.tmp 57], some (55, false), [], none⟩,
  ⟨some 59, (.call 19), [.tmp 56, .tmp 58], some (55, false), [], none⟩,
  ⟨some 60, .not, [.tmp 59], some (55, false), [], none⟩,
  ⟨some 61, .pick, [.tmp 55, .const (.bool true), .tmp 60], none, [], none⟩] false [0, 1, 2, 6, 7, 8, 9, 10, 11, 12, 13, 14, 15, 16, 17, 18, 19, 20, 21, 22, 23, 24, 25, 26, 39, 47, 61, 68, 81, 94, 152])
  (.cond (.tmp 61) (.seq (.reg [
  ⟨some 6, .mov, [.const (.bool false)], none, [], none⟩] false [0, 1, 2, 6, 7, 8, 9, 10, 11, 12, 13, 14, 15, 16, 17, 18, 19, 20, 21, 22, 23, 24, 25, 26, 39, 47, 61, 68, 81, 94, 152])
  (.ret)) (.skip)))) (.skip)))
  (.seq (.reg [
  ⟨some 63, .mov, [.tmp 2], none, [], none⟩,
  ⟨some 64, (.call 26), [.tmp 63], none, [], none⟩,
  ⟨some 62, .mov, [.tmp 64], none, [], none⟩,
  ⟨some 65, (.ext 0), [.tmp 62], none, [], none⟩,
  ⟨some 66, (.ext 1), [.tmp 62], none, [], none⟩,
  ⟨some 11, .mov, [.tmp 65], none, [], none⟩,
  ⟨some 12, .mov, [.tmp 66], none, [], none⟩] false [0, 1, 2, 6, 7, 8, 9, 10, 11, 12, 13, 14, 15, 16, 17, 18, 19, 20, 21, 22, 23, 24, 25, 26, 39, 47, 61, 68, 81, 94, 152])
  (.seq (.seq (.reg [
  ⟨some 67, .mov, [.tmp 12], none, [], none⟩,
  ⟨some 68, (.bin .eql), [.tmp 67, .const (.int .i64 0)], none, [], none⟩] false [0, 1, 2, 6, 7, 8, 9, 10, 11, 12, 13, 14, 15, 16, 17, 18, 19, 20, 21, 22, 23, 24, 25, 26, 39, 47, 61, 68, 81, 94, 152])
  (.cond (.tmp 68) (.seq (.reg [
  ⟨some 70, .mov, [.tmp 11], none, [], none⟩,
  ⟨some 71, (.call 17), [.tmp 70], none, [], none⟩,
  ⟨some 69, .mov, [.tmp 71], none, [], none⟩,
  ⟨some 72, (.ext 0), [.tmp 69], none, [], none⟩,
  ⟨some 73, (.ext 1), [.tmp 69], none, [], none⟩,
  ⟨some 13, .mov, [.tmp 72], none, [], none⟩,
  ⟨some 14, .mov, [.tmp 73], none, [], none⟩] false [0, 1, 2, 6, 7, 8, 9, 10, 11, 12, 13, 14, 15, 16, 17, 18, 19, 20, 21, 22, 23, 24, 25, 26, 39, 47, 61, 68, 81, 94, 152])
  (.seq (.reg [
  ⟨some 74, .mov, [.tmp 14], none, [], none⟩,
  ⟨some 75, (.bin .neq), [.tmp 74, .const (.int .i64 0)], none, [], none⟩,
  ⟨some 76, .mov, [.tmp 75], none, [], none⟩,
  ⟨some 77, .mov, [.tmp 13], some (76, false), [], none⟩,
  ⟨some 78, .mov, [.tmp 2], some (76, false), [], none⟩,
  ⟨some 79, (.call 20), [.tmp 77, .tmp 78], some (76, false), [], none⟩,
  ⟨some 80, .not, [.tmp 79], some (76, false), [], none⟩,
  ⟨some 81, .pick, [.tmp 76, .const (.bool true), .tmp 80], none, [], none⟩] false [0, 1, 2, 6, 7, 8, 9, 10, 11, 12, 13, 14, 15, 16, 17, 18, 19, 20, 21, 22, 23, 24, 25, 26, 39, 47, 61, 68, 81, 94, 152])
  (.cond (.tmp 81) (.seq (.reg [
  ⟨some 6, .mov, [.const (.bool false)], none, [], none⟩] false [0, 1, 2, 6, 7, 8, 9, 10, 11, 12, 13, 14, 15, 16, 17, 18, 19, 20, 21, 22, 23, 24, 25, 26, 39, 47, 61, 68, 81, 94, 152])
  (.ret)) (.skip)))) (.skip)))
  (.seq (.reg [
  ⟨some 83, .mov, [.tmp 1], none, [], none⟩,
  ⟨some 84, (.call 15), [.tmp 83], none, [], none⟩,
  ⟨some 82, .mov, [.tmp 84], none, [], none⟩,
  ⟨some 85, (.ext 0), [.tmp 82], none, [], none⟩,
  ⟨some 86, (.ext 1), [.tmp 82], none, [], none⟩,
  ⟨some 15, .mov, [.tmp 85], none, [], none⟩,
  ⟨some 16, .mov, [.tmp 86], none, [], none⟩] false [0, 1, 2, 6, 7, 8, 9, 10, 11, 12, 13, 14, 15, 16, 17, 18, 19, 20, 21, 22, 23, 24, 25, 26, 39, 47, 61, 68, 81, 94, 152])
  (.seq (.reg [
  ⟨some 88, .mov, [.tmp 0], none, [], none⟩,
  ⟨some 89, .mov, [.tmp 1], none, [], none⟩,
  ⟨some 90, (.call 11), [.tmp 88, .tmp 89], none, [], none⟩,
  ⟨some 87, .mov, [.tmp 90], none, [], none⟩,
  ⟨some 91, (.ext 0), [.tmp 87], none, [], none⟩,
  ⟨some 92, (.ext 1), [.tmp 87], none, [], none⟩,
  ⟨some 17, .mov, [.tmp 91], none, [], none⟩,
  ⟨some 18, .mov, [.tmp 92], none, [], none⟩] false [0, 1, 2, 6, 7, 8, 9, 10, 11, 12, 13, 14, 15, 16, 17, 18, 19, 20, 21, 22, 23, 24, 25, 26, 39, 47, 61, 68, 81, 94, 152])
  (.seq (.seq (.reg [
  ⟨some 93, .mov, [.tmp 16], none, [], none⟩,
  ⟨some 94, (.bin .neq), [.tmp 93, .const (.int .i64 0)], none, [], none⟩] false [0, 1, 2, 6, 7, 8, 9, 10, 11, 12, 13, 14, 15, 16, 17, 18, 19, 20, 21, 22, 23, 24, 25, 26, 39, 47, 61, 68, 81, 94, 152])
  (.cond (.tmp 94) (.seq (.reg [
  ⟨some 95, (.call 9), [], none, [], none⟩,
  ⟨some 6, .mov, [.tmp 95], none, [], none⟩] false [0, 1, 2, 6, 7, 8, 9, 10, 11, 12, 13, 14, 15, 16, 17, 18, 19, 20, 21, 22, 23, 24, 25, 26, 39, 47, 61, 68, 81, 94, 152])
  (.ret)) (.skip)))
  (.seq (.reg [
  ⟨some 97, .mov, [.tmp 0], none, [], none⟩,
  ⟨some 98, .mov, [.tmp 15], none, [], none⟩,
  ⟨some 99, (.call 11), [.tmp 97, .tmp 98], none, [], none⟩,
  ⟨some 96, .mov, [.tmp 99], none, [], none⟩,
  ⟨some 100, (.ext 0), [.tmp 96], none, [], none⟩,
  ⟨some 101, (.ext 1), [.tmp 96], none, [], none⟩,
  ⟨some 19, .mov, [.tmp 100], none, [], none⟩,
  ⟨some 20, .mov, [.tmp 101], none, [], none⟩] false [0, 1, 2, 6, 7, 8, 9, 10, 11, 12, 13, 14, 15, 16, 17, 18, 19, 20, 21, 22, 23, 24, 25, 26, 39, 47, 61, 68, 81, 94, 152])
  (.seq (.reg [
  ⟨some 103, .mov, [.tmp 15], none, [], none⟩,
  ⟨some 104, (.call 15), [.tmp 103], none, [], none⟩,
  ⟨some 102, .mov, [.tmp 104], none, [], none⟩,
  ⟨some 105, (.ext 0), [.tmp 102], none, [], none⟩,
  ⟨some 106, (.ext 1), [.tmp 102], none, [], none⟩,
  ⟨some 21, .mov, [.tmp 105], none, [], none⟩,
  ⟨some 22, .mov, [.tmp 106], none, [], none⟩] false [0, 1, 2, 6, 7, 8, 9, 10, 11, 12, 13, 14, 15, 16, 17, 18, 19, 20, 21, 22, 23, 24, 25, 26, 39, 47, 61, 68, 81, 94, 152])
  (.seq (.reg [
  ⟨some 108, .mov, [.tmp 1], none, [], none⟩,
  ⟨some 109, (.call 13), [.tmp 108], none, [], none⟩,
  ⟨some 107, .mov, [.tmp 109], none, [], none⟩,
  ⟨some 110, (.ext 0), [.tmp 107], none, [], none⟩,
  ⟨some 111, (.ext 1), [.tmp 107], none, [], none⟩,
  ⟨some 23, .mov, [.tmp 110], none, [], none⟩,
  ⟨some 24, .mov, [.tmp 111], none, [], none⟩] false [0, 1, 2, 6, 7, 8, 9, 10, 11, 12, 13, 14, 15, 16, 17, 18, 19, 20, 21, 22, 23, 24, 25, 26, 39, 47, 61, 68, 81, 94, 152])
  (.seq (.reg [
  ⟨some 113, .mov, [.tmp 15], none, [], none⟩,
  ⟨some 114, (.call 13), [.tmp 113], none, [], none⟩,
  ⟨some 112, .mov, [.tmp 114], none, [], none⟩,
  ⟨some 115, (.ext 0), [.tmp 112], none, [], none⟩,
  ⟨some 116, (.ext 1), [.tmp 112], none, [], none⟩,
  ⟨some 25, .mov, [.tmp 115], none, [], none⟩,
  ⟨some 26, .mov, [.tmp 116], none, [], none⟩] false [0, 1, 2, 6, 7, 8, 9, 10, 11, 12, 13, 14, 15, 16, 17, 18, 19, 20, 21, 22, 23, 24, 25, 26, 39, 47, 61, 68, 81, 94, 152])
  (.seq (.seq (.reg (
  ⟨some 117, .mov, [.tmp 19], none, [], none⟩ ::
  ⟨some 118, .mov, [.tmp 17], none, [], none⟩ ::
  ⟨some 119, (.bin .neq), [.tmp 117, .tmp 118], none, [], none⟩ ::
  ⟨some 120, .mov, [.tmp 119], none, [], none⟩ ::
  ⟨some 121, .mov, [.tmp 20], some (120, false), [], none⟩ ::
  ⟨some 122, .mov, [.tmp 18], some (120, false), [], none⟩ ::
  ⟨some 123, (.bin .neq), [.tmp 121, .tmp 122], some (120, false), [], none⟩ ::
  ⟨some 124, .pick, [.tmp 120, .const (.bool true), .tmp 123], none, [], none⟩ ::
  ⟨some 125, .mov, [.tmp 124], none, [], none⟩ ::
  ⟨some 126, .mov, [.tmp 15], some (125, false), [], none⟩ ::
  ⟨some 127, .len, [.tmp 126], some (125, false), [], none⟩ ::
  ⟨some 128, .mov, [.tmp 1], some (125, false), [], none⟩ ::
  ⟨some 129, .len, [.tmp 128], some (125, false), [], none⟩ ::
  ⟨some 130, (.bin .gtr), [.tmp 127, .tmp 129], some (125, false), [], none⟩ ::
  ⟨some 131, .pick, [.tmp 125, .const (.bool true), .tmp 130], none, [], none⟩ ::
  ⟨some 132, .mov, [.tmp 131], none, [], none⟩ ::
  ⟨some 133, .mov, [.tmp 22], some (132, false), [], none⟩ ::
  ⟨some 134, (.bin .neq), [.tmp 133, .const (.int .i64 0)], some (132, false), [], none⟩ ::
  ⟨some 135, .pick, [.tmp 132, .const (.bool true), .tmp 134], none, [], none⟩ ::
  ⟨some 136, .mov, [.tmp 135], none, [], none⟩ ::
  ⟨some 137, .mov, [.tmp 21], some (136, false), [], none⟩ ::
  ⟨some 138, .mov, [.tmp 15], some (136, false), [], none⟩ ::
  ⟨some 139, (.call 10), [.tmp 138], some (136, false), [], none⟩ ::
  ⟨some 140, (.call 19), [.tmp 137, .tmp 139], some (136, false), [], none⟩ ::
  ⟨some 141, .not, [.tmp 140], some (136, false), [], none⟩ ::
  ⟨some 142, .pick, [.tmp 136, .const (.bool true), .tmp 141], none, [], none⟩ ::
  ⟨some 143, .mov, [.tmp 142], none, [], none⟩ ::
  ⟨some 144, .mov, [.tmp 23], some (143, false), [], none⟩ ::
  ⟨some 145, .mov, [.tmp 25], some (143, false), [], none⟩ ::
  ⟨some 146, (.bin .neq), [.tmp 144, .tmp 145], some (143, false), [], none⟩ ::
  ⟨some 147, .pick, [.tmp 143, .const (.bool true), .tmp 146], none, [], none⟩ ::
  ⟨some 148, .mov, [.tmp 147], none, [], none⟩ ::
  ⟨some 149, .mov, [.tmp 24], some (148, false), [], none⟩ ::
  ⟨some 150, .mov, [.tmp 26], some (148, false), [], none⟩ ::
  ⟨some 151, (.bin .neq), [.tmp 149, .tmp 150], some (148, false), [], none⟩ ::
  ⟨some 152, .pick, [.tmp 148, .const (.bool true), .tmp 151], none, [], none⟩ :: []) false [0, 1, 2, 6, 7, 8, 9, 10, 11, 12, 13, 14, 15, 16, 17, 18, 19, 20, 21, 22, 23, 24, 25, 26, 39, 47, 61, 68, 81, 94, 152])
  (.cond (.tmp 152) (.seq (.reg [
  ⟨some 6, .mov, [.const (.bool false)], none, [], none⟩] false [0, 1, 2, 6, 7, 8, 9, 10, 11, 12, 13, 14, 15, 16, 17, 18, 19, 20, 21, 22, 23, 24, 25, 26, 39, 47, 61, 68, 81, 94, 152])
  (.ret)) (.skip)))
  (.seq (.reg [
  ⟨some 153, .mov, [.tmp 18], none, [], none⟩,
  ⟨some 154, (.bin .eql), [.tmp 153, .const (.int .i64 0)], none, [], none⟩,
  ⟨some 155, .mov, [.tmp 23], none, [], none⟩,
  ⟨some 156, .mov, [.tmp 0], none, [], none⟩,
  ⟨some 157, .slen, [.tmp 156], none, [], none⟩,
  ⟨some 158, (.bin .eql), [.tmp 155, .tmp 157], none, [], none⟩,
  ⟨some 159, (.beq false), [.tmp 154, .tmp 158], none, [], none⟩,
  ⟨some 160, .mov, [.tmp 159], none, [], none⟩,
  ⟨some 161, .mov, [.tmp 18], some (160, true), [], none⟩,
  ⟨some 162, (.bin .neq), [.tmp 161, .const (.int .i64 0)], some (160, true), [], none⟩,
  ⟨some 163, .mov, [.tmp 162], some (160, true), [], none⟩,
  ⟨some 164, .mov, [.tmp 17], some (163, false), [], none⟩,
  ⟨some 165, .slen, [.tmp 164], some (163, false), [], none⟩,
  ⟨some 166, .mov, [.tmp 24], some (163, false), [], none⟩,
  ⟨some 167, (.bin .eql), [.tmp 165, .tmp 166], some (163, false), [], none⟩,
  ⟨some 168, .pick, [.tmp 163, .const (.bool true), .tmp 167], some (160, true), [], none⟩,
  ⟨some 169, .pick, [.tmp 160, .tmp 168, .const (.bool false)], none, [], none⟩,
  ⟨some 170, .mov, [.tmp 169], none, [], none⟩,
  ⟨some 171, (.call 9), [], some (170, true), [], none⟩,
  ⟨some 172, .pick, [.tmp 170, .tmp 171, .const (.bool false)], none, [], none⟩,
  ⟨some 6, .mov, [.tmp 172], none, [], none⟩] false [0, 1, 2, 6, 7, 8, 9, 10, 11, 12, 13, 14, 15, 16, 17, 18, 19, 20, 21, 22, 23, 24, 25, 26, 39, 47, 61, 68, 81, 94, 152])
  (.ret)))))))))))))))
def keep6 : List Nat := [0, 1, 2, 6, 7, 8, 9, 10, 11, 12, 13, 14, 15, 16, 17, 18, 19, 20, 21, 22, 23, 24, 25, 26, 39, 47, 61, 68, 81, 94, 152]
theorem fn6 : compFn Try.prog 6 keep6 = some ⟨173, 3, [(6, none)], body6⟩ := by kernel_rfl

/- chartroom/chartroomlaw05.DeltaKnown -/
def body7 : AC :=
  .seq (.reg [
  ⟨some 0, .mov, [.const (.bool false)], none, [], none⟩] false [0, 1, 2, 3, 5, 6, 8, 10, 12, 32, 38, 41, 42, 43, 44, 90, 104, 105, 106, 107, 117, 119, 120, 121, 122, 125, 126, 127, 128, 134])
  (.seq (.reg [
  ⟨some 13, (.call 28), [.const (.int .i64 1)], none, [], none⟩,
  ⟨some 14, (.call 28), [.const (.int .i64 2)], none, [], none⟩,
  ⟨some 15, (.call 29), [.const (.string ⟨#[120]⟩)], none, [], none⟩,
  ⟨some 16, (.call 29), [.const (.string ⟨#[121, 122]⟩)], none, [], none⟩,
  ⟨some 17, (.call 30), [.const (.int .i64 1)], none, [], none⟩,
  ⟨some 18, (.call 30), [.const (.int .i64 3)], none, [], none⟩,
  ⟨some 19, (.call 28), [.const (.int .i64 0)], none, [], none⟩,
  ⟨some 20, (.bld [(.int .u8 0), (.int .i64 0), (.string ⟨#[]⟩)] [(0, 1), (1, 1)]), [.const (.int .u8 4), .const (.int .i64 1)], none, [], none⟩,
  ⟨some 21, (.bld [(.int .u8 0), (.int .i64 0), (.string ⟨#[]⟩)] [(0, 1), (1, 1), (2, 1)]), [.const (.int .u8 2), .const (.int .i64 1), .const (.string ⟨#[97]⟩)], none, [], none⟩,
  ⟨some 22, (.bld [(.int .u8 0), (.int .i64 0), (.string ⟨#[]⟩)] [(0, 1), (1, 1), (2, 1)]), [.const (.int .u8 1), .const (.int .i64 1), .const (.string ⟨#[97]⟩)], none, [], none⟩,
  ⟨some 23, (.call 29), [.const (.string ⟨#[]⟩)], none, [], none⟩,
  ⟨some 24, (.call 30), [.const (.int .i64 (-1))], none, [], none⟩,
  ⟨some 25, (.call 28), [.const (.int .i64 2147483647)], none, [], none⟩,
  ⟨some 26, (.call 30), [.const (.int .i64 2147483648)], none, [], none⟩,
  ⟨some 27, (.call 28), [.const (.int .i64 1099511627776)], none, [], none⟩,
  ⟨some 28, (.bsl 47 3), [.tmp 13, .tmp 14, .tmp 15, .tmp 16, .tmp 17, .tmp 18, .tmp 19, .tmp 20, .tmp 21, .tmp 22, .tmp 23, .tmp 24, .tmp 25, .tmp 26, .tmp 27], none, [], none⟩,
  ⟨some 1, .mov, [.tmp 28], none, [], none⟩] false [0, 1, 2, 3, 5, 6, 8, 10, 12, 32, 38, 41, 42, 43, 44, 90, 104, 105, 106, 107, 117, 119, 120, 121, 122, 125, 126, 127, 128, 134])
  (.seq (.seq (.reg [
  ⟨some 2, .mov, [.const (.int .i64 0)], none, [], none⟩] false [0, 1, 2, 3, 5, 6, 8, 10, 12, 32, 38, 41, 42, 43, 44, 90, 104, 105, 106, 107, 117, 119, 120, 121, 122, 125, 126, 127, 128, 134])
  (.block 0 (.loop (.seq (.seq (.reg [
   ⟨some 29, .mov, [.tmp 2], none, [], none⟩,
   ⟨some 30, .mov, [.tmp 1], none, [], none⟩,
   ⟨some 31, .len, [.tmp 30], none, [], none⟩,
   ⟨some 32, (.bin .lss), [.tmp 29, .tmp 31], none, [], none⟩] false [0, 1, 2, 3, 5, 6, 8, 10, 12, 32, 38, 41, 42, 43, 44, 90, 104, 105, 106, 107, 117, 119, 120, 121, 122, 125, 126, 127, 128, 134])
   (.cond (.tmp 32) (.skip) (.exit 0)))
   (.seq (.block 1 (.seq (.reg [
   ⟨some 3, .mov, [.const (.int .i64 0)], none, [], none⟩] false [0, 1, 2, 3, 5, 6, 8, 10, 12, 32, 38, 41, 42, 43, 44, 90, 104, 105, 106, 107, 117, 119, 120, 121, 122, 125, 126, 127, 128, 134])
   (.block 2 (.loop (.seq (.seq (.reg [
    ⟨some 35, .mov, [.tmp 3], none, [], none⟩,
    ⟨some 36, .mov, [.tmp 1], none, [], none⟩,
    ⟨some 37, .len, [.tmp 36], none, [], none⟩,
    ⟨some 38, (.bin .lss), [.tmp 35, .tmp 37], none, [], none⟩] false [0, 1, 2, 3, 5, 6, 8, 10, 12, 32, 38, 41, 42, 43, 44, 90, 104, 105, 106, 107, 117, 119, 120, 121, 122, 125, 126, 127, 128, 134])
    (.cond (.tmp 38) (.skip) (.exit 2)))
    (.seq (.block 3 (.seq (.reg [
    ⟨some 41, (.bsl 9 1), [.const (.string ⟨#[]⟩), .const (.string ⟨#[97]⟩), .const (.string ⟨#[97, 98, 99]⟩), .const (.string ⟨#[97, 98, 99, 100]⟩)], none, [], none⟩,
    ⟨some 42, .len, [.tmp 41], none, [], none⟩,
    ⟨some 43, .mov, [.const (.int .i64 0)], none, [], none⟩] false [0, 1, 2, 3, 5, 6, 8, 10, 12, 32, 38, 41, 42, 43, 44, 90, 104, 105, 106, 107, 117, 119, 120, 121, 122, 125, 126, 127, 128, 134])
    (.block 4 (.loop (.seq (.reg [
     ⟨some 44, (.bin .lss), [.tmp 43, .tmp 42], none, [], none⟩] false [0, 1, 2, 3, 5, 6, 8, 10, 12, 32, 38, 41, 42, 43, 44, 90, 104, 105, 106, 107, 117, 119, 120, 121, 122, 125, 126, 127, 128, 134])
     (.seq (.cond (.tmp 44) (.skip) (.exit 4))
     (.seq (.block 5 (.seq (.reg [
     ⟨some 45, (.ixa 9 1), [.tmp 41, .tmp 43], none, [], none⟩,
     ⟨some 46, (.load none), [.tmp 45], none, [], none⟩,
     ⟨some 5, .mov, [.tmp 46], none, [], none⟩] false [0, 1, 2, 3, 5, 6, 8, 10, 12, 32, 38, 41, 42, 43, 44, 90, 104, 105, 106, 107, 117, 119, 120, 121, 122, 125, 126, 127, 128, 134])
     (.seq (.reg [
     ⟨some 47, .mov, [.tmp 1], none, [], none⟩,
     ⟨some 48, .mov, [.tmp 2], none, [], none⟩,
     ⟨some 49, (.ixa 47 3), [.tmp 47, .tmp 48], none, [], none⟩,
     ⟨some 50, (.load (some 3)), [.tmp 49], none, [], none⟩,
     ⟨some 51, .mov, [.tmp 1], none, [], none⟩,
     ⟨some 52, .mov, [.tmp 3], none, [], none⟩,
     ⟨some 53, (.ixa 47 3), [.tmp 51, .tmp 52], none, [], none⟩,
     ⟨some 54, (.load (some 3)), [.tmp 53], none, [], none⟩,
     ⟨some 55, .mov, [.tmp 1], none, [], none⟩,
     ⟨some 56, .mov, [.tmp 2], none, [], none⟩,
     ⟨some 57, .mov, [.tmp 3], none, [], none⟩,
     ⟨some 58, (.bin .mul), [.tmp 56, .tmp 57], none, [], none⟩,
     ⟨some 59, (.bin .add), [.tmp 58, .const (.int .i64 2)], none, [], none⟩,
     ⟨some 60, (.bin .rem), [.tmp 59, .const (.int .i64 6)], none, [], none⟩,
     ⟨some 61, (.ixa 47 3), [.tmp 55, .tmp 60], none, [], none⟩,
     ⟨some 62, (.load (some 3)), [.tmp 61], none, [], none⟩,
     ⟨some 63, (.bsl 47 3), [.tmp 50, .tmp 54, .tmp 62], none, [], none⟩,
     ⟨some 6, .mov, [.tmp 63], none, [], none⟩] true [0, 1, 2, 3, 5, 6, 8, 10, 12, 32, 38, 41, 42, 43, 44, 90, 104, 105, 106, 107, 117, 119, 120, 121, 122, 125, 126, 127, 128, 134])
     (.seq (.reg [
     ⟨some 64, .mov, [.tmp 5], none, [], none⟩,
     ⟨some 65, .mov, [.tmp 6], none, [], none⟩,
     ⟨some 66, (.call 3), [.tmp 64, .tmp 65], none, [], none⟩,
     ⟨some 67, .not, [.tmp 66], none, [], none⟩,
     ⟨some 68, .mov, [.tmp 67], none, [], none⟩,
     ⟨some 69, .mov, [.tmp 5], some (68, false), [], none⟩,
     ⟨some 70, .mov, [.tmp 6], some (68, false), [], none⟩,
     ⟨some 71, (.slc 3 false true), [.tmp 70, .const (.int .i64 2)], some (68, false), [], none⟩,
     ⟨some 72, (.call 3), [.tmp 69, .tmp 71], some (68, false), [], none⟩,
     ⟨some 73, .not, [.tmp 72], some (68, false), [], none⟩,
     ⟨some 74, .pick, [.tmp 68, .const (.bool true), .tmp 73], none, [], none⟩,
     ⟨some 75, .mov, [.tmp 74], none, [], none⟩,
     ⟨some 76, .mov, [.tmp 5], some (75, false), [], none⟩,
     ⟨some 77, .mov, [.tmp 6], some (75, false), [], none⟩,
     ⟨some 78, .mov, [.tmp 1], some (75, false), [], none⟩,
     ⟨some 79, .mov, [.tmp 2], some (75, false), [], none⟩,
     ⟨some 80, (.ixa 47 3), [.tmp 78, .tmp 79], some (75, false), [], none⟩,
     ⟨some 81, (.fad 0), [.tmp 80], some (75, false), [], none⟩,
     ⟨some 82, (.load none), [.tmp 81], some (75, false), [], none⟩,
     ⟨some 83, .mov, [.tmp 3], some (75, false), [], none⟩,
     ⟨some 84, (.cvi .u8), [.tmp 83], some (75, false), [], none⟩,
     ⟨some 85, .mov, [.tmp 2], some (75, false), [], none⟩,
     ⟨some 86, (.cvi .u8), [.tmp 85], some (75, false), [], none⟩,
     ⟨some 87, (.bsl 5 1), [.tmp 82, .tmp 84, .tmp 86, .const (.int .u8 97)], some (75, false), [], none⟩,
     ⟨some 88, (.call 6), [.tmp 76, .tmp 77, .tmp 87], some (75, false), [], none⟩,
     ⟨some 89, .not, [.tmp 88], some (75, false), [], none⟩,
     ⟨some 90, .pick, [.tmp 75, .const (.bool true), .tmp 89], none, [], none⟩] false [0, 1, 2, 3, 5, 6, 8, 10, 12, 32, 38, 41, 42, 43, 44, 90, 104, 105, 106, 107, 117, 119, 120, 121, 122, 125, 126, 127, 128, 134])
     (.cond (.tmp 90) (.seq (.reg [
     ⟨some 0, .mov, [.const (.bool false)], none, [], none⟩] false [0, 1, 2, 3, 5, 6, 8, 10, 12, 32, 38, 41, 42, 43, 44, 90, 104, 105, 106, 107, 117, 119, 120, 121, 122, 125, 126, 127, 128, 134])
     (.ret)) (.skip))))))
     (.reg [
     ⟨some 91, (.bin .add), [.tmp 43, .const (.int .i64 1)], none, [], none⟩,
     ⟨some 43, .mov, [.tmp 91], none, [], none⟩] false [0, 1, 2, 3, 5, 6, 8, 10, 12, 32, 38, 41, 42, 43, 44, 90, 104, 105, 106, 107, 117, 119, 120, 121, 122, 125, 126, 127, 128, 134]))))))))
    (.reg [
    ⟨some 39, .mov, [.tmp 3], none, [], none⟩,
    ⟨some 40, (.bin .add), [.tmp 39, .const (.int .i64 1)], none, [], none⟩,
    ⟨some 3, .mov, [.tmp 40], none, [], none⟩] false [0, 1, 2, 3, 5, 6, 8, 10, 12, 32, 38, 41, 42, 43, 44, 90, 104, 105, 106, 107, 117, 119, 120, 121, 122, 125, 126, 127, 128, 134])))))))
   (.reg [
   ⟨some 33, .mov, [.tmp 2], none, [], none⟩,
   ⟨some 34, (.bin .add), [.tmp 33, .const (.int .i64 1)], none, [], none⟩,
   ⟨some 2, .mov, [.tmp 34], none, [], none⟩] false [0, 1, 2, 3, 5, 6, 8, 10, 12, 32, 38, 41, 42, 43, 44, 90, 104, 105, 106, 107, 117, 119, 120, 121, 122, 125, 126, 127, 128, 134]))))))
  (.seq (.seq (.reg [
  ⟨some 92, (.bsl 5 1), [.const (.int .u8 1)], none, [], none⟩,
  ⟨some 93, (.bsl 5 1), [.const (.int .u8 2)], none, [], none⟩,
  ⟨some 94, (.bsl 5 1), [.const (.int .u8 4), .const (.int .u8 1)], none, [], none⟩,
  ⟨some 95, (.bsl 5 1), [.const (.int .u8 0)], none, [], none⟩,
  ⟨some 96, (.bsl 5 1), [.const (.int .u8 1), .const (.int .u8 0)], none, [], none⟩,
  ⟨some 97, (.bsl 5 1), [.const (.int .u8 2), .const (.int .u8 0)], none, [], none⟩,
  ⟨some 98, (.bsl 5 1), [.const (.int .u8 2), .const (.int .u8 3), .const (.int .u8 97), .const (.int .u8 97)], none, [], none⟩,
  ⟨some 99, (.bsl 5 1), [.const (.int .u8 1), .const (.int .u8 128), .const (.int .u8 0)], none, [], none⟩,
  ⟨some 100, (.bsl 5 1), [.const (.int .u8 3), .const (.int .u8 255), .const (.int .u8 255), .const (.int .u8 255), .const (.int .u8 255), .const (.int .u8 7)], none, [], none⟩,
  ⟨some 101, (.bsl 5 1), [.const (.int .u8 3), .const (.int .u8 128), .const (.int .u8 128), .const (.int .u8 128), .const (.int .u8 128), .const (.int .u8 8)], none, [], none⟩,
  ⟨some 102, (.bsl 5 1), [.const (.int .u8 1), .const (.int .u8 255), .const (.int .u8 255), .const (.int .u8 255), .const (.int .u8 255), .const (.int .u8 255), .const (.int .u8 255), .const (.int .u8 255), .const (.int .u8 255), .const (.int .u8 255), .const (.int .u8 1)], none, [], none⟩,
  ⟨some 103, (.bsl 5 1), [.const (.int .u8 1), .const (.int .u8 1), .const (.int .u8 2), .const (.int .u8 1), .const (.int .u8 97), .const (.int .u8 3), .const (.int .u8 4)], none, [], none⟩,
  ⟨some 104, (.bsl 38 1), [.const (.slice none 0 0), .tmp 92, .tmp 93, .tmp 94, .tmp 95, .tmp 96, .tmp 97, .tmp 98, .tmp 99, .tmp 100, .tmp 101, .tmp 102, .tmp 103], none, [], none⟩,
  ⟨some 105, .len, [.tmp 104], none, [], none⟩,
  ⟨some 106, .mov, [.const (.int .i64 0)], none, [], none⟩] false [0, 1, 2, 3, 5, 6, 8, 10, 12, 32, 38, 41, 42, 43, 44, 90, 104, 105, 106, 107, 117, 119, 120, 121, 122, 125, 126, 127, 128, 134])
  (.block 6 (.loop (.seq (.reg [
   ⟨some 107, (.bin .lss), [.tmp 106, .tmp 105], none, [], none⟩] false [0, 1, 2, 3, 5, 6, 8, 10, 12, 32, 38, 41, 42, 43, 44, 90, 104, 105, 106, 107, 117, 119, 120, 121, 122, 125, 126, 127, 128, 134])
   (.seq (.cond (.tmp 107) (.skip) (.exit 6))
   (.seq (.block 7 (.seq (.reg [
   ⟨some 108, (.ixa 38 1), [.tmp 104, .tmp 106], none, [], none⟩,
   ⟨some 109, (.load none), [.tmp 108], none, [], none⟩,
   ⟨some 8, .mov, [.tmp 109], none, [], none⟩] false [0, 1, 2, 3, 5, 6, 8, 10, 12, 32, 38, 41, 42, 43, 44, 90, 104, 105, 106, 107, 117, 119, 120, 121, 122, 125, 126, 127, 128, 134])
   (.seq (.reg [
   ⟨some 110, .mov, [.tmp 8], none, [], none⟩,
   ⟨some 111, (.call 5), [.tmp 110], none, [], none⟩,
   ⟨some 112, .not, [.tmp 111], none, [], none⟩,
   ⟨some 113, .mov, [.tmp 112], none, [], none⟩,
   ⟨some 114, .mov, [.tmp 8], some (113, false), [], none⟩,
   ⟨some 115, (.call 6), [.const (.string ⟨#[]⟩), .const (.slice none 0 0), .tmp 114], some (113, false), [], none⟩,
   ⟨some 116, .not, [.tmp 115], some (113, false), [], none⟩,
   ⟨some 117, .pick, [.tmp 113, .const (.bool true), .tmp 116], none, [], none⟩] false [0, 1, 2, 3, 5, 6, 8, 10, 12, 32, 38, 41, 42, 43, 44, 90, 104, 105, 106, 107, 117, 119, 120, 121, 122, 125, 126, 127, 128, 134])
   (.cond (.tmp 117) (.seq (.reg [
   ⟨some 0, .mov, [.const (.bool false)], none, [], none⟩] false [0, 1, 2, 3, 5, 6, 8, 10, 12, 32, 38, 41, 42, 43, 44, 90, 104, 105, 106, 107, 117, 119, 120, 121, 122, 125, 126, 127, 128, 134])
   (.ret)) (.skip)))))
   (.reg [
   ⟨some 118, (.bin .add), [.tmp 106, .const (.int .i64 1)], none, [], none⟩,
   ⟨some 106, .mov, [.tmp 118], none, [], none⟩] false [0, 1, 2, 3, 5, 6, 8, 10, 12, 32, 38, 41, 42, 43, 44, 90, 104, 105, 106, 107, 117, 119, 120, 121, 122, 125, 126, 127, 128, 134])))))))
  (.seq (.seq (.reg [
  ⟨some 119, (.bsl 9 1), [.const (.string ⟨#[]⟩), .const (.string ⟨#[97]⟩), .const (.string ⟨#[97, 97]⟩), .const (.string ⟨#[97, 98]⟩), .const (.string ⟨#[97, 97, 98]⟩), .const (.string ⟨#[97, 98, 97, 98]⟩), .const (.string ⟨#[98, 97]⟩)], none, [], none⟩,
  ⟨some 120, .len, [.tmp 119], none, [], none⟩,
  ⟨some 121, .mov, [.const (.int .i64 0)], none, [], none⟩] false [0, 1, 2, 3, 5, 6, 8, 10, 12, 32, 38, 41, 42, 43, 44, 90, 104, 105, 106, 107, 117, 119, 120, 121, 122, 125, 126, 127, 128, 134])
  (.block 8 (.loop (.seq (.reg [
   ⟨some 122, (.bin .lss), [.tmp 121, .tmp 120], none, [], none⟩] false [0, 1, 2, 3, 5, 6, 8, 10, 12, 32, 38, 41, 42, 43, 44, 90, 104, 105, 106, 107, 117, 119, 120, 121, 122, 125, 126, 127, 128, 134])
   (.seq (.cond (.tmp 122) (.skip) (.exit 8))
   (.seq (.block 9 (.seq (.reg [
   ⟨some 123, (.ixa 9 1), [.tmp 119, .tmp 121], none, [], none⟩,
   ⟨some 124, (.load none), [.tmp 123], none, [], none⟩,
   ⟨some 10, .mov, [.tmp 124], none, [], none⟩] false [0, 1, 2, 3, 5, 6, 8, 10, 12, 32, 38, 41, 42, 43, 44, 90, 104, 105, 106, 107, 117, 119, 120, 121, 122, 125, 126, 127, 128, 134])
   (.seq (.reg [
   ⟨some 125, (.bsl 9 1), [.const (.string ⟨#[]⟩), .const (.string ⟨#[97]⟩), .const (.string ⟨#[97, 97, 97]⟩), .const (.string ⟨#[98]⟩), .const (.string ⟨#[97, 98]⟩), .const (.string ⟨#[97, 98, 97]⟩), .const (.string ⟨#[97, 98, 98, 97]⟩)], none, [], none⟩,
   ⟨some 126, .len, [.tmp 125], none, [], none⟩,
   ⟨some 127, .mov, [.const (.int .i64 0)], none, [], none⟩] false [0, 1, 2, 3, 5, 6, 8, 10, 12, 32, 38, 41, 42, 43, 44, 90, 104, 105, 106, 107, 117, 119, 120, 121, 122, 125, 126, 127, 128, 134])
   (.block 10 (.loop (.seq (.reg [
    ⟨some 128, (.bin .lss), [.tmp 127, .tmp 126], none, [], none⟩] false [0, 1, 2, 3, 5, 6, 8, 10, 12, 32, 38, 41, 42, 43, 44, 90, 104, 105, 106, 107, 117, 119, 120, 121, 122, 125, 126, 127, 128, 134])
    (.seq (.cond (.tmp 128) (.skip) (.exit 10))
    (.seq (.block 11 (.seq (.reg [
    ⟨some 129, (.ixa 9 1), [.tmp 125, .tmp 127], none, [], none⟩,
    ⟨some 130, (.load none), [.tmp 129], none, [], none⟩,
    ⟨some 12, .mov, [.tmp 130], none, [], none⟩] false [0, 1, 2, 3, 5, 6, 8, 10, 12, 32, 38, 41, 42, 43, 44, 90, 104, 105, 106, 107, 117, 119, 120, 121, 122, 125, 126, 127, 128, 134])
    (.seq (.reg [
    ⟨some 131, .mov, [.tmp 10], none, [], none⟩,
    ⟨some 132, .mov, [.tmp 12], none, [], none⟩,
    ⟨some 133, (.call 4), [.tmp 131, .tmp 132], none, [], none⟩,
    ⟨some 134, .not, [.tmp 133], none, [], none⟩] false [0, 1, 2, 3, 5, 6, 8, 10, 12, 32, 38, 41, 42, 43, 44, 90, 104, 105, 106, 107, 117, 119, 120, 121, 122, 125, 126, 127, 128, 134])
    (.cond (.tmp 134) (.seq (.reg [
    ⟨some 0, .mov, [.const (.bool false)], none, [], none⟩] false [0, 1, 2, 3, 5, 6, 8, 10, 12, 32, 38, 41, 42, 43, 44, 90, 104, 105, 106, 107, 117, 119, 120, 121, 122, 125, 126, 127, 128, 134])
    (.ret)) (.skip)))))
    (.reg [
    ⟨some 135, (.bin .add), [.tmp 127, .const (.int .i64 1)], none, [], none⟩,
    ⟨some 127, .mov, [.tmp 135], none, [], none⟩] false [0, 1, 2, 3, 5, 6, 8, 10, 12, 32, 38, 41, 42, 43, 44, 90, 104, 105, 106, 107, 117, 119, 120, 121, 122, 125, 126, 127, 128, 134])))))))))
   (.reg [
   ⟨some 136, (.bin .add), [.tmp 121, .const (.int .i64 1)], none, [], none⟩,
   ⟨some 121, .mov, [.tmp 136], none, [], none⟩] false [0, 1, 2, 3, 5, 6, 8, 10, 12, 32, 38, 41, 42, 43, 44, 90, 104, 105, 106, 107, 117, 119, 120, 121, 122, 125, 126, 127, 128, 134])))))))
  (.seq (.reg [
  ⟨some 137, (.call 9), [], none, [], none⟩,
  ⟨some 0, .mov, [.tmp 137], none, [], none⟩] false [0, 1, 2, 3, 5, 6, 8, 10, 12, 32, 38, 41, 42, 43, 44, 90, 104, 105, 106, 107, 117, 119, 120, 121, 122, 125, 126, 127, 128, 134])
  (.ret))))))
def keep7 : List Nat := [0, 1, 2, 3, 5, 6, 8, 10, 12, 32, 38, 41, 42, 43, 44, 90, 104, 105, 106, 107, 117, 119, 120, 121, 122, 125, 126, 127, 128, 134]
theorem fn7 : compFn Try.prog 7 keep7 = some ⟨138, 0, [(0, none)], body7⟩ := by kernel_rfl

/- chartroom/chartroomlaw05.few -/
def body8 : AC :=
  .seq (.reg [
  ⟨some 2, .mov, [.const (.bool false)], none, [], none⟩] false [0, 2, 3, 11, 20])
  (.seq (.seq (.reg [
  ⟨some 3, .mov, [.const (.int .i64 0)], none, [], none⟩] false [0, 2, 3, 11, 20])
  (.block 0 (.loop (.seq (.seq (.reg [
   ⟨some 4, .mov, [.tmp 3], none, [], none⟩,
   ⟨some 5, .mov, [.tmp 0], none, [], none⟩,
   ⟨some 6, .len, [.tmp 5], none, [], none⟩,
   ⟨some 7, (.bin .lss), [.tmp 4, .tmp 6], none, [], none⟩,
   ⟨some 8, .mov, [.tmp 7], none, [], none⟩,
   ⟨some 9, .mov, [.tmp 3], some (8, true), [], none⟩,
   ⟨some 10, (.bin .lss), [.tmp 9, .const (.int .i64 31)], some (8, true), [], none⟩,
   ⟨some 11, .pick, [.tmp 8, .tmp 10, .const (.bool false)], none, [], none⟩] false [0, 2, 3, 11, 20])
   (.cond (.tmp 11) (.skip) (.exit 0)))
   (.seq (.block 1 (.seq (.reg [
   ⟨some 14, .mov, [.tmp 0], none, [], none⟩,
   ⟨some 15, .mov, [.tmp 3], none, [], none⟩,
   ⟨some 16, (.ixa 47 3), [.tmp 14, .tmp 15], none, [], none⟩,
   ⟨some 17, (.fad 2), [.tmp 16], none, [], none⟩,
   ⟨some 18, (.load none), [.tmp 17], none, [], none⟩,
   ⟨some 19, .slen, [.tmp 18], none, [], none⟩,
   ⟨some 20, (.bin .gtr), [.tmp 19, .const (.int .i64 200)], none, [], none⟩] false [0, 2, 3, 11, 20])
   (.cond (.tmp 20) (.seq (.reg [
   ⟨some 2, .mov, [.const (.bool false)], none, [], none⟩] false [0, 2, 3, 11, 20])
   (.ret)) (.skip))))
   (.reg [
   ⟨some 12, .mov, [.tmp 3], none, [], none⟩,
   ⟨some 13, (.bin .add), [.tmp 12, .const (.int .i64 1)], none, [], none⟩,
   ⟨some 3, .mov, [.tmp 13], none, [], none⟩] false [0, 2, 3, 11, 20]))))))
  (.seq (.reg [
  ⟨some 21, .mov, [.tmp 0], none, [], none⟩,
  ⟨some 22, .len, [.tmp 21], none, [], none⟩,
  ⟨some 23, (.bin .leq), [.tmp 22, .const (.int .i64 30)], none, [], none⟩,
  ⟨some 2, .mov, [.tmp 23], none, [], none⟩] false [0, 2, 3, 11, 20])
  (.ret)))
def keep8 : List Nat := [0, 2, 3, 11, 20]
theorem fn8 : compFn Try.prog 8 keep8 = some ⟨24, 1, [(2, none)], body8⟩ := by kernel_rfl

/- chartroom/chartroomlaw05.works -/
def body9 : AC :=
  .seq (.reg [
  ⟨some 0, .mov, [.const (.bool false)], none, [], none⟩] false [0, 1, 2, 4, 6, 7, 9, 10])
  (.seq (.reg [
  ⟨some 12, (.call 28), [.const (.int .i64 1)], none, [], none⟩,
  ⟨some 13, (.call 30), [.const (.int .i64 3)], none, [], none⟩,
  ⟨some 14, (.call 29), [.const (.string ⟨#[105, 112, 112]⟩)], none, [], none⟩,
  ⟨some 15, (.call 28), [.const (.int .i64 1)], none, [], none⟩,
  ⟨some 16, (.bsl 47 3), [.tmp 12, .tmp 13, .tmp 14, .tmp 15], none, [], none⟩,
  ⟨some 17, (.call 11), [.const (.string ⟨#[104, 101, 108, 108, 111]⟩), .tmp 16], none, [], none⟩,
  ⟨some 11, .mov, [.tmp 17], none, [], none⟩,
  ⟨some 18, (.ext 0), [.tmp 11], none, [], none⟩,
  ⟨some 19, (.ext 1), [.tmp 11], none, [], none⟩,
  ⟨some 1, .mov, [.tmp 18], none, [], none⟩,
  ⟨some 2, .mov, [.tmp 19], none, [], none⟩] false [0, 1, 2, 4, 6, 7, 9, 10])
  (.seq (.reg [
  ⟨some 21, (.call 28), [.const (.int .i64 1)], none, [], none⟩,
  ⟨some 22, (.call 30), [.const (.int .i64 3)], none, [], none⟩,
  ⟨some 23, (.call 29), [.const (.string ⟨#[105, 112, 112]⟩)], none, [], none⟩,
  ⟨some 24, (.call 28), [.const (.int .i64 1)], none, [], none⟩,
  ⟨some 25, (.bsl 47 3), [.tmp 21, .tmp 22, .tmp 23, .tmp 24], none, [], none⟩,
  ⟨some 26, (.call 11), [.const (.string ⟨#[104, 101, 108, 108]⟩), .tmp 25], none, [], none⟩,
  ⟨some 20, .mov, [.tmp 26], none, [], none⟩,
  ⟨some 27, (.ext 0), [.tmp 20], none, [], none⟩,
  ⟨some 28, (.ext 1), [.tmp 20], none, [], none⟩,
  ⟨some 3, .mov, [.tmp 27], none, [], none⟩,
  ⟨some 4, .mov, [.tmp 28], none, [], none⟩] false [0, 1, 2, 4, 6, 7, 9, 10])
  (.seq (.reg [
  ⟨some 30, (.call 28), [.const (.int .i64 1)], none, [], none⟩,
  ⟨some 31, (.call 30), [.const (.int .i64 3)], none, [], none⟩,
  ⟨some 32, (.call 29), [.const (.string ⟨#[105, 112, 112]⟩)], none, [], none⟩,
  ⟨some 33, (.bsl 47 3), [.tmp 30, .tmp 31, .tmp 32], none, [], none⟩,
  ⟨some 34, (.call 11), [.const (.string ⟨#[104, 101, 108, 108, 111]⟩), .tmp 33], none, [], none⟩,
  ⟨some 29, .mov, [.tmp 34], none, [], none⟩,
  ⟨some 35, (.ext 0), [.tmp 29], none, [], none⟩,
  ⟨some 36, (.ext 1), [.tmp 29], none, [], none⟩,
  ⟨some 5, .mov, [.tmp 35], none, [], none⟩,
  ⟨some 6, .mov, [.tmp 36], none, [], none⟩] false [0, 1, 2, 4, 6, 7, 9, 10])
  (.seq (.reg [
  ⟨some 38, (.call 28), [.const (.int .i64 1)], none, [], none⟩,
  ⟨some 39, (.call 30), [.const (.int .i64 1)], none, [], none⟩,
  ⟨some 40, (.call 29), [.const (.string ⟨#[97]⟩)], none, [], none⟩,
  ⟨some 41, (.call 28), [.const (.int .i64 2)], none, [], none⟩,
  ⟨some 42, (.call 28), [.const (.int .i64 1)], none, [], none⟩,
  ⟨some 43, (.bsl 47 3), [.tmp 38, .tmp 39, .tmp 40, .tmp 41, .tmp 42], none, [], none⟩,
  ⟨some 44, (.call 15), [.tmp 43], none, [], none⟩,
  ⟨some 37, .mov, [.tmp 44], none, [], none⟩,
  ⟨some 45, (.ext 0), [.tmp 37], none, [], none⟩,
  ⟨some 46, (.ext 1), [.tmp 37], none, [], none⟩,
  ⟨some 7, .mov, [.tmp 45], none, [], none⟩,
  ⟨some 8, .mov, [.tmp 46], none, [], none⟩] false [0, 1, 2, 4, 6, 7, 9, 10])
  (.seq (.reg [
  ⟨some 48, (.call 28), [.const (.int .i64 5)], none, [], none⟩,
  ⟨some 49, (.call 29), [.const (.string ⟨#[97, 98]⟩)], none, [], none⟩,
  ⟨some 50, (.bsl 47 3), [.tmp 48, .tmp 49], none, [], none⟩,
  ⟨some 51, (.call 17), [.tmp 50], none, [], none⟩,
  ⟨some 47, .mov, [.tmp 51], none, [], none⟩,
  ⟨some 52, (.ext 0), [.tmp 47], none, [], none⟩,
  ⟨some 53, (.ext 1), [.tmp 47], none, [], none⟩,
  ⟨some 9, .mov, [.tmp 52], none, [], none⟩,
  ⟨some 10, .mov, [.tmp 53], none, [], none⟩] false [0, 1, 2, 4, 6, 7, 9, 10])
  (.seq (.reg (
  ⟨some 54, .mov, [.tmp 2], none, [], none⟩ ::
  ⟨some 55, (.bin .eql), [.tmp 54, .const (.int .i64 0)], none, [], none⟩ ::
  ⟨some 56, .mov, [.tmp 55], none, [], none⟩ ::
  ⟨some 57, .mov, [.tmp 1], some (56, true), [], none⟩ ::
  ⟨some 58, (.bin .eql), [.tmp 57, .const (.string ⟨#[104, 105, 112, 112, 111]⟩)], some (56, true), [], none⟩ ::
  ⟨some 59, .pick, [.tmp 56, .tmp 58, .const (.bool false)], none, [], none⟩ ::
  ⟨some 60, .mov, [.tmp 59], none, [], none⟩ ::
  ⟨some 61, .mov, [.tmp 4], some (60, true), [], none⟩ ::
  ⟨some 62, (.bin .eql), [.tmp 61, .const (.int .i64 50)], some (60, true), [], none⟩ ::
  ⟨some 63, .pick, [.tmp 60, .tmp 62, .const (.bool false)], none, [], none⟩ ::
  ⟨some 64, .mov, [.tmp 63], none, [], none⟩ ::
  ⟨some 65, .mov, [.tmp 6], some (64, true), [], none⟩ ::
  ⟨some 66, (.bin .eql), [.tmp 65, .const (.int .i64 50)], some (64, true), [], none⟩ ::
  ⟨some 67, .pick, [.tmp 64, .tmp 66, .const (.bool false)], none, [], none⟩ ::
  ⟨some 68, .mov, [.tmp 67], none, [], none⟩ ::
  ⟨some 69, .mov, [.tmp 7], some (68, true), [], none⟩ ::
  ⟨some 70, (.call 28), [.const (.int .i64 1)], some (68, true), [], none⟩ ::
  ⟨some 71, (.call 29), [.const (.string ⟨#[97]⟩)], some (68, true), [], none⟩ ::
  ⟨some 72, (.call 30), [.const (.int .i64 1)], some (68, true), [], none⟩ ::
  ⟨some 73, (.call 28), [.const (.int .i64 3)], some (68, true), [], none⟩ ::
  ⟨some 74, (.bsl 47 3), [.tmp 70, .tmp 71, .tmp 72, .tmp 73], some (68, true), [], none⟩ ::
  ⟨some 75, (.call 10), [.tmp 74], some (68, true), [], none⟩ ::
  ⟨some 76, (.call 19), [.tmp 69, .tmp 75], some (68, true), [], none⟩ ::
  ⟨some 77, .pick, [.tmp 68, .tmp 76, .const (.bool false)], none, [], none⟩ ::
  ⟨some 78, .mov, [.tmp 77], none, [], none⟩ ::
  ⟨some 79, (.call 23), [.const (.string ⟨#[104, 101, 108, 108, 111]⟩), .const (.string ⟨#[104, 105, 112, 112, 111]⟩)], some (78, true), [], none⟩ ::
  ⟨some 80, (.call 28), [.const (.int .i64 1)], some (78, true), [], none⟩ ::
  ⟨some 81, (.call 29), [.const (.string ⟨#[105, 112, 112]⟩)], some (78, true), [], none⟩ ::
  ⟨some 82, (.call 30), [.const (.int .i64 3)], some (78, true), [], none⟩ ::
  ⟨some 83, (.call 28), [.const (.int .i64 1)], some (78, true), [], none⟩ ::
  ⟨some 84, (.bsl 47 3), [.tmp 80, .tmp 81, .tmp 82, .tmp 83], some (78, true), [], none⟩ ::
  ⟨some 85, (.call 10), [.tmp 84], some (78, true), [], none⟩ ::
  ⟨some 86, (.call 19), [.tmp 79, .tmp 85], some (78, true), [], none⟩ ::
  ⟨some 87, .pick, [.tmp 78, .tmp 86, .const (.bool false)], none, [], none⟩ ::
  ⟨some 88, .mov, [.tmp 87], none, [], none⟩ ::
  ⟨some 89, (.call 23), [.const (.string ⟨#[97, 97]⟩), .const (.string ⟨#[97, 97, 97]⟩)], some (88, true), [], none⟩ ::
  ⟨some 90, (.call 28), [.const (.int .i64 2)], some (88, true), [], none⟩ ::
  ⟨some 91, (.call 29), [.const (.string ⟨#[97]⟩)], some (88, true), [], none⟩ ::
  ⟨some 92, (.bsl 47 3), [.tmp 90, .tmp 91], some (88, true), [], none⟩ ::
  ⟨some 93, (.call 10), [.tmp 92], some (88, true), [], none⟩ ::
  ⟨some 94, (.call 19), [.tmp 89, .tmp 93], some (88, true), [], none⟩ ::
  ⟨some 95, .pick, [.tmp 88, .tmp 94, .const (.bool false)], none, [], none⟩ ::
  ⟨some 96, .mov, [.tmp 95], none, [], none⟩ ::
  ⟨some 97, .mov, [.tmp 10], some (96, true), [], none⟩ ::
  ⟨some 98, (.bin .eql), [.tmp 97, .const (.int .i64 0)], some (96, true), [], none⟩ ::
  ⟨some 99, .pick, [.tmp 96, .tmp 98, .const (.bool false)], none, [], none⟩ ::
  ⟨some 100, .mov, [.tmp 99], none, [], none⟩ ::
  ⟨some 101, .mov, [.tmp 9], some (100, true), [], none⟩ ::
  ⟨some 102, (.bsl 5 1), [.const (.int .u8 1), .const (.int .u8 5), .const (.int .u8 2), .const (.int .u8 2), .const (.int .u8 97), .const (.int .u8 98)], some (100, true), [], none⟩ ::
  ⟨some 103, (.call 20), [.tmp 101, .tmp 102], some (100, true), [], none⟩ ::
  ⟨some 104, .pick, [.tmp 100, .tmp 103, .const (.bool false)], none, [], none⟩ ::
  ⟨some 0, .mov, [.tmp 104], none, [], none⟩ :: []) false [0, 1, 2, 4, 6, 7, 9, 10])
  (.ret)))))))
def keep9 : List Nat := [0, 1, 2, 4, 6, 7, 9, 10]
theorem fn9 : compFn Try.prog 9 keep9 = some ⟨105, 0, [(0, none)], body9⟩ := by kernel_rfl

/- chartroom/chartroomlaw05.refs -/
def body10 : AC :=
  .seq (.reg [
  ⟨some 2, (.nilS 61), [], none, [], none⟩] false [0, 2, 3, 4, 8])
  (.seq (.reg [
  ⟨some 3, (.nilS 61), [], none, [], none⟩] false [0, 2, 3, 4, 8])
  (.seq (.seq (.reg [
  ⟨some 4, .mov, [.const (.int .i64 0)], none, [], none⟩] false [0, 2, 3, 4, 8])
  (.block 0 (.loop (.seq (.seq (.reg [
   ⟨some 5, .mov, [.tmp 4], none, [], none⟩,
   ⟨some 6, .mov, [.tmp 0], none, [], none⟩,
   ⟨some 7, .len, [.tmp 6], none, [], none⟩,
   ⟨some 8, (.bin .lss), [.tmp 5, .tmp 7], none, [], none⟩] false [0, 2, 3, 4, 8])
   (.cond (.tmp 8) (.skip) (.exit 0)))
   (.seq (.block 1 (.reg [
   ⟨some 11, .mov, [.tmp 3], none, [], none⟩,
   ⟨some 12, .mov, [.tmp 0], none, [], none⟩,
   ⟨some 13, .mov, [.tmp 4], none, [], none⟩,
   ⟨some 14, (.ixa 47 3), [.tmp 12, .tmp 13], none, [], none⟩,
   ⟨some 15, (.fad 0), [.tmp 14], none, [], none⟩,
   ⟨some 16, (.load none), [.tmp 15], none, [], none⟩,
   ⟨some 17, .mov, [.tmp 0], none, [], none⟩,
   ⟨some 18, .mov, [.tmp 4], none, [], none⟩,
   ⟨some 19, (.ixa 47 3), [.tmp 17, .tmp 18], none, [], none⟩,
   ⟨some 20, (.fad 1), [.tmp 19], none, [], none⟩,
   ⟨some 21, (.load none), [.tmp 20], none, [], none⟩,
   ⟨some 22, .mov, [.tmp 0], none, [], none⟩,
   ⟨some 23, .mov, [.tmp 4], none, [], none⟩,
   ⟨some 24, (.ixa 47 3), [.tmp 22, .tmp 23], none, [], none⟩,
   ⟨some 25, (.fad 2), [.tmp 24], none, [], none⟩,
   ⟨some 26, (.load none), [.tmp 25], none, [], none⟩,
   ⟨some 27, (.bld [(.int .u8 0), (.int .i64 0), (.string ⟨#[]⟩)] [(0, 1), (1, 1), (2, 1)]), [.tmp 16, .tmp 21, .tmp 26], none, [], none⟩,
   ⟨some 28, (.bsl 61 3), [.tmp 27], none, [], none⟩,
   ⟨some 29, (.app 61 3 32), [.tmp 11, .tmp 28], none, [], none⟩,
   ⟨some 3, .mov, [.tmp 29], none, [], none⟩] true [0, 2, 3, 4, 8]))
   (.reg [
   ⟨some 9, .mov, [.tmp 4], none, [], none⟩,
   ⟨some 10, (.bin .add), [.tmp 9, .const (.int .i64 1)], none, [], none⟩,
   ⟨some 4, .mov, [.tmp 10], none, [], none⟩] false [0, 2, 3, 4, 8]))))))
  (.seq (.reg [
  ⟨some 30, .mov, [.tmp 3], none, [], none⟩,
  ⟨some 2, .mov, [.tmp 30], none, [], none⟩] false [0, 2, 3, 4, 8])
  (.ret))))
def keep10 : List Nat := [0, 2, 3, 4, 8]
theorem fn10 : compFn Try.prog 10 keep10 = some ⟨31, 1, [(2, none)], body10⟩ := by kernel_rfl

/- chartroom/delta.Apply -/
def body11 : AC :=
  .seq (.reg [
  ⟨some 4, .mov, [.const (.string ⟨#[]⟩)], none, [], none⟩,
  ⟨some 5, .mov, [.const (.int .i64 0)], none, [], none⟩] false [0, 1, 4, 5, 6, 8, 9, 11, 12, 13, 14, 30, 32, 33, 39, 49])
  (.seq (.reg [
  ⟨some 6, (.alloc [(.pointer none), (.slice none 0 0)]), [], none, [], none⟩] false [0, 1, 4, 5, 6, 8, 9, 11, 12, 13, 14, 30, 32, 33, 39, 49])
  (.seq (.seq (.reg [
  ⟨some 11, .mov, [.tmp 1], none, [], none⟩,
  ⟨some 12, .len, [.tmp 11], none, [], none⟩,
  ⟨some 13, .mov, [.const (.int .i64 0)], none, [], none⟩] false [0, 1, 4, 5, 6, 8, 9, 11, 12, 13, 14, 30, 32, 33, 39, 49])
  (.block 0 (.loop (.seq (.reg [
   ⟨some 14, (.bin .lss), [.tmp 13, .tmp 12], none, [], none⟩] false [0, 1, 4, 5, 6, 8, 9, 11, 12, 13, 14, 30, 32, 33, 39, 49])
   (.seq (.cond (.tmp 14) (.skip) (.exit 0))
   (.seq (.block 1 (.seq (.reg [
   ⟨some 15, (.ixa 47 3), [.tmp 11, .tmp 13], none, [], none⟩,
   ⟨some 16, (.load (some 3)), [.tmp 15], none, [], none⟩,
   ⟨some 8, (.alloc [(.int .u8 0), (.int .i64 0), (.string ⟨#[]⟩)]), [], none, [], none⟩,
   ⟨none, (.store (some 3)), [.tmp 8, .tmp 16], none, [], none⟩] false [0, 1, 4, 5, 6, 8, 9, 11, 12, 13, 14, 30, 32, 33, 39, 49])
   (.seq (.reg [
   ⟨some 18, (.load (some 3)), [.tmp 8], none, [], none⟩,
   ⟨some 19, (.call 31), [.tmp 18], none, [], none⟩,
   ⟨some 17, .mov, [.tmp 19], none, [], none⟩,
   ⟨some 20, (.ext 0), [.tmp 17], none, [], none⟩,
   ⟨some 21, (.ext 1), [.tmp 17], none, [], none⟩,
   ⟨some 9, .mov, [.tmp 20], none, [], none⟩,
   ⟨some 10, .mov, [.tmp 21], none, [], none⟩] false [0, 1, 4, 5, 6, 8, 9, 11, 12, 13, 14, 30, 32, 33, 39, 49])
   (.seq (.seq (.reg [
   ⟨some 22, (.load (some 3)), [.tmp 8], none, [], none⟩,
   ⟨some 23, (.call 32), [.tmp 22], none, [], none⟩,
   ⟨some 24, .not, [.tmp 23], none, [], none⟩,
   ⟨some 25, .mov, [.tmp 24], none, [], none⟩,
   ⟨some 26, .mov, [.tmp 9], some (25, false), [], none⟩,
   ⟨some 27, .mov, [.tmp 0], some (25, false), [], none⟩,
   ⟨some 28, .slen, [.tmp 27], some (25, false), [], none⟩,
   ⟨some 29, (.bin .gtr), [.tmp 26, .tmp 28], some (25, false), [], none⟩,
   ⟨some 30, .pick, [.tmp 25, .const (.bool true), .tmp 29], none, [], none⟩] false [0, 1, 4, 5, 6, 8, 9, 11, 12, 13, 14, 30, 32, 33, 39, 49])
   (.cond (.tmp 30) (.seq (.reg [
   ⟨some 4, .mov, [.const (.string ⟨#[]⟩)], none, [], none⟩,
   ⟨some 5, .mov, [.const (.int .i64 50)], none, [], none⟩] false [0, 1, 4, 5, 6, 8, 9, 11, 12, 13, 14, 30, 32, 33, 39, 49])
   (.ret)) (.skip)))
   (.seq (.seq (.reg [
   ⟨some 31, (.fad 0), [.tmp 8], none, [], none⟩,
   ⟨some 32, (.load none), [.tmp 31], none, [], none⟩] false [0, 1, 4, 5, 6, 8, 9, 11, 12, 13, 14, 30, 32, 33, 39, 49])
   (.block 2 (.seq (.reg [
   ⟨some 34, (.bin .eql), [.tmp 32, .const (.int .u8 1)], none, [], none⟩,
   ⟨some 33, .mov, [.tmp 34], none, [], none⟩] false [0, 1, 4, 5, 6, 8, 9, 11, 12, 13, 14, 30, 32, 33, 39, 49])
   (.cond (.tmp 33) (.reg [
   ⟨some 35, .mov, [.tmp 0], none, [], none⟩,
   ⟨some 36, .mov, [.tmp 9], none, [], none⟩,
   ⟨some 37, (.ssl false true), [.tmp 35, .tmp 36], none, [], none⟩,
   ⟨some 38, (.call 33), [.tmp 6, .tmp 37], none, [], none⟩] false [0, 1, 4, 5, 6, 8, 9, 11, 12, 13, 14, 30, 32, 33, 39, 49]) (.seq (.reg [
   ⟨some 40, (.bin .eql), [.tmp 32, .const (.int .u8 2)], none, [], none⟩,
   ⟨some 39, .mov, [.tmp 40], none, [], none⟩] false [0, 1, 4, 5, 6, 8, 9, 11, 12, 13, 14, 30, 32, 33, 39, 49])
   (.cond (.tmp 39) (.reg [
   ⟨some 41, (.fad 2), [.tmp 8], none, [], none⟩,
   ⟨some 42, (.load none), [.tmp 41], none, [], none⟩,
   ⟨some 43, (.call 33), [.tmp 6, .tmp 42], none, [], none⟩] false [0, 1, 4, 5, 6, 8, 9, 11, 12, 13, 14, 30, 32, 33, 39, 49]) (.skip)))))))
   (.reg [
   ⟨some 44, .mov, [.tmp 0], none, [], none⟩,
   ⟨some 45, .mov, [.tmp 9], none, [], none⟩,
   ⟨some 46, (.ssl true false), [.tmp 44, .tmp 45], none, [], none⟩,
   ⟨some 0, .mov, [.tmp 46], none, [], none⟩] false [0, 1, 4, 5, 6, 8, 9, 11, 12, 13, 14, 30, 32, 33, 39, 49]))))))
   (.reg [
   ⟨some 47, (.bin .add), [.tmp 13, .const (.int .i64 1)], none, [], none⟩,
   ⟨some 13, .mov, [.tmp 47], none, [], none⟩] false [0, 1, 4, 5, 6, 8, 9, 11, 12, 13, 14, 30, 32, 33, 39, 49])))))))
  (.seq (.seq (.reg [
  ⟨some 48, .mov, [.tmp 0], none, [], none⟩,
  ⟨some 49, (.bin .neq), [.tmp 48, .const (.string ⟨#[]⟩)], none, [], none⟩] false [0, 1, 4, 5, 6, 8, 9, 11, 12, 13, 14, 30, 32, 33, 39, 49])
  (.cond (.tmp 49) (.seq (.reg [
  ⟨some 4, .mov, [.const (.string ⟨#[]⟩)], none, [], none⟩,
  ⟨some 5, .mov, [.const (.int .i64 50)], none, [], none⟩] false [0, 1, 4, 5, 6, 8, 9, 11, 12, 13, 14, 30, 32, 33, 39, 49])
  (.ret)) (.skip)))
  (.seq (.reg [
  ⟨some 50, (.call 34), [.tmp 6], none, [], none⟩,
  ⟨some 4, .mov, [.tmp 50], none, [], none⟩,
  ⟨some 5, .mov, [.const (.int .i64 0)], none, [], none⟩] false [0, 1, 4, 5, 6, 8, 9, 11, 12, 13, 14, 30, 32, 33, 39, 49])
  (.ret)))))
def keep11 : List Nat := [0, 1, 4, 5, 6, 8, 9, 11, 12, 13, 14, 30, 32, 33, 39, 49]
theorem fn11 : compFn Try.prog 11 keep11 = some ⟨51, 2, [(4, none), (5, none)], body11⟩ := by kernel_rfl

/- chartroom/chartroomref05.Apply -/
def body12 : AC :=
  .seq (.reg [
  ⟨some 4, .mov, [.const (.string ⟨#[]⟩)], none, [], none⟩,
  ⟨some 5, .mov, [.const (.int .i64 0)], none, [], none⟩] false [0, 1, 4, 5, 6, 8, 9, 10, 11, 12, 26, 30, 39, 47, 63])
  (.seq (.reg [
  ⟨some 14, .mov, [.tmp 1], none, [], none⟩,
  ⟨some 15, (.call 14), [.tmp 14], none, [], none⟩,
  ⟨some 13, .mov, [.tmp 15], none, [], none⟩,
  ⟨some 16, (.ext 0), [.tmp 13], none, [], none⟩,
  ⟨some 17, (.ext 1), [.tmp 13], none, [], none⟩,
  ⟨some 6, .mov, [.tmp 16], none, [], none⟩,
  ⟨some 7, .mov, [.tmp 17], none, [], none⟩] false [0, 1, 4, 5, 6, 8, 9, 10, 11, 12, 26, 30, 39, 47, 63])
  (.seq (.seq (.reg [
  ⟨some 18, .mov, [.tmp 1], none, [], none⟩,
  ⟨some 19, (.call 22), [.tmp 18], none, [], none⟩,
  ⟨some 20, .not, [.tmp 19], none, [], none⟩,
  ⟨some 21, .mov, [.tmp 20], none, [], none⟩,
  ⟨some 22, .mov, [.tmp 6], some (21, false), [], none⟩,
  ⟨some 23, .mov, [.tmp 0], some (21, false), [], none⟩,
  ⟨some 24, .slen, [.tmp 23], some (21, false), [], none⟩,
  ⟨some 25, (.bin .neq), [.tmp 22, .tmp 24], some (21, false), [], none⟩,
  ⟨some 26, .pick, [.tmp 21, .const (.bool true), .tmp 25], none, [], none⟩] false [0, 1, 4, 5, 6, 8, 9, 10, 11, 12, 26, 30, 39, 47, 63])
  (.cond (.tmp 26) (.seq (.reg [
  ⟨some 4, .mov, [.const (.string ⟨#[]⟩)], none, [], none⟩,
  ⟨some 5, .mov, [.const (.int .i64 50)], none, [], none⟩] false [0, 1, 4, 5, 6, 8, 9, 10, 11, 12, 26, 30, 39, 47, 63])
  (.ret)) (.skip)))
  (.seq (.reg [
  ⟨some 8, (.nilS 5), [], none, [], none⟩] false [0, 1, 4, 5, 6, 8, 9, 10, 11, 12, 26, 30, 39, 47, 63])
  (.seq (.reg [
  ⟨some 9, .mov, [.const (.int .i64 0)], none, [], none⟩] false [0, 1, 4, 5, 6, 8, 9, 10, 11, 12, 26, 30, 39, 47, 63])
  (.seq (.seq (.reg [
  ⟨some 10, .mov, [.const (.int .i64 0)], none, [], none⟩] false [0, 1, 4, 5, 6, 8, 9, 10, 11, 12, 26, 30, 39, 47, 63])
  (.block 0 (.loop (.seq (.seq (.reg [
   ⟨some 27, .mov, [.tmp 10], none, [], none⟩,
   ⟨some 28, .mov, [.tmp 1], none, [], none⟩,
   ⟨some 29, .len, [.tmp 28], none, [], none⟩,
   ⟨some 30, (.bin .lss), [.tmp 27, .tmp 29], none, [], none⟩] false [0, 1, 4, 5, 6, 8, 9, 10, 11, 12, 26, 30, 39, 47, 63])
   (.cond (.tmp 30) (.skip) (.exit 0)))
   (.seq (.block 1 (.seq (.seq (.reg [
   ⟨some 11, .mov, [.const (.int .i64 0)], none, [], none⟩] false [0, 1, 4, 5, 6, 8, 9, 10, 11, 12, 26, 30, 39, 47, 63])
   (.block 2 (.loop (.seq (.seq (.reg [
    ⟨some 33, .mov, [.tmp 11], none, [], none⟩,
    ⟨some 34, .mov, [.tmp 1], none, [], none⟩,
    ⟨some 35, .mov, [.tmp 10], none, [], none⟩,
    ⟨some 36, (.ixa 61 3), [.tmp 34, .tmp 35], none, [], none⟩,
    ⟨some 37, (.fad 1), [.tmp 36], none, [], none⟩,
    ⟨some 38, (.load none), [.tmp 37], none, [], none⟩,
    ⟨some 39, (.bin .lss), [.tmp 33, .tmp 38], none, [], none⟩] false [0, 1, 4, 5, 6, 8, 9, 10, 11, 12, 26, 30, 39, 47, 63])
    (.cond (.tmp 39) (.skip) (.exit 2)))
    (.seq (.block 3 (.seq (.seq (.reg [
    ⟨some 42, .mov, [.tmp 1], none, [], none⟩,
    ⟨some 43, .mov, [.tmp 10], none, [], none⟩,
    ⟨some 44, (.ixa 61 3), [.tmp 42, .tmp 43], none, [], none⟩,
    ⟨some 45, (.fad 0), [.tmp 44], none, [], none⟩,
    ⟨some 46, (.load none), [.tmp 45], none, [], none⟩,
    ⟨some 47, (.bin .eql), [.tmp 46, .const (.int .u8 1)], none, [], none⟩] false [0, 1, 4, 5, 6, 8, 9, 10, 11, 12, 26, 30, 39, 47, 63])
    (.cond (.tmp 47) (.reg [
    ⟨some 48, .mov, [.tmp 8], none, [], none⟩,
    ⟨some 49, .mov, [.tmp 0], none, [], none⟩,
    ⟨some 50, .mov, [.tmp 9], none, [], none⟩,
    ⟨some 51, .sidx, [.tmp 49, .tmp 50], none, [], none⟩,
    ⟨some 52, (.bsl 5 1), [.tmp 51], none, [], none⟩,
    ⟨some 53, (.app 5 1 1), [.tmp 48, .tmp 52], none, [], none⟩,
    ⟨some 8, .mov, [.tmp 53], none, [], none⟩] false [0, 1, 4, 5, 6, 8, 9, 10, 11, 12, 26, 30, 39, 47, 63]) (.skip)))
    (.reg [
    ⟨some 54, .mov, [.tmp 9], none, [], none⟩,
    ⟨some 55, (.bin .add), [.tmp 54, .const (.int .i64 1)], none, [], none⟩,
    ⟨some 9, .mov, [.tmp 55], none, [], none⟩] false [0, 1, 4, 5, 6, 8, 9, 10, 11, 12, 26, 30, 39, 47, 63])))
    (.reg [
    ⟨some 40, .mov, [.tmp 11], none, [], none⟩,
    ⟨some 41, (.bin .add), [.tmp 40, .const (.int .i64 1)], none, [], none⟩,
    ⟨some 11, .mov, [.tmp 41], none, [], none⟩] false [0, 1, 4, 5, 6, 8, 9, 10, 11, 12, 26, 30, 39, 47, 63]))))))
   (.seq (.reg [
   ⟨some 12, .mov, [.const (.int .i64 0)], none, [], none⟩] false [0, 1, 4, 5, 6, 8, 9, 10, 11, 12, 26, 30, 39, 47, 63])
   (.block 4 (.loop (.seq (.seq (.reg [
    ⟨some 56, .mov, [.tmp 12], none, [], none⟩,
    ⟨some 57, .mov, [.tmp 1], none, [], none⟩,
    ⟨some 58, .mov, [.tmp 10], none, [], none⟩,
    ⟨some 59, (.ixa 61 3), [.tmp 57, .tmp 58], none, [], none⟩,
    ⟨some 60, (.fad 2), [.tmp 59], none, [], none⟩,
    ⟨some 61, (.load none), [.tmp 60], none, [], none⟩,
    ⟨some 62, .slen, [.tmp 61], none, [], none⟩,
    ⟨some 63, (.bin .lss), [.tmp 56, .tmp 62], none, [], none⟩] false [0, 1, 4, 5, 6, 8, 9, 10, 11, 12, 26, 30, 39, 47, 63])
    (.cond (.tmp 63) (.skip) (.exit 4)))
    (.seq (.block 5 (.reg [
    ⟨some 66, .mov, [.tmp 8], none, [], none⟩,
    ⟨some 67, .mov, [.tmp 1], none, [], none⟩,
    ⟨some 68, .mov, [.tmp 10], none, [], none⟩,
    ⟨some 69, (.ixa 61 3), [.tmp 67, .tmp 68], none, [], none⟩,
    ⟨some 70, (.fad 2), [.tmp 69], none, [], none⟩,
    ⟨some 71, (.load none), [.tmp 70], none, [], none⟩,
    ⟨some 72, .mov, [.tmp 12], none, [], none⟩,
    ⟨some 73, .sidx, [.tmp 71, .tmp 72], none, [], none⟩,
    ⟨some 74, (.bsl 5 1), [.tmp 73], none, [], none⟩,
    ⟨some 75, (.app 5 1 1), [.tmp 66, .tmp 74], none, [], none⟩,
    ⟨some 8, .mov, [.tmp 75], none, [], none⟩] false [0, 1, 4, 5, 6, 8, 9, 10, 11, 12, 26, 30, 39, 47, 63]))
    (.reg [
    ⟨some 64, .mov, [.tmp 12], none, [], none⟩,
    ⟨some 65, (.bin .add), [.tmp 64, .const (.int .i64 1)], none, [], none⟩,
    ⟨some 12, .mov, [.tmp 65], none, [], none⟩] false [0, 1, 4, 5, 6, 8, 9, 10, 11, 12, 26, 30, 39, 47, 63]))))))))
   (.reg [
   ⟨some 31, .mov, [.tmp 10], none, [], none⟩,
   ⟨some 32, (.bin .add), [.tmp 31, .const (.int .i64 1)], none, [], none⟩,
   ⟨some 10, .mov, [.tmp 32], none, [], none⟩] false [0, 1, 4, 5, 6, 8, 9, 10, 11, 12, 26, 30, 39, 47, 63]))))))
  (.seq (.reg [
  ⟨some 76, .mov, [.tmp 8], none, [], none⟩,
  ⟨some 77, .btoS, [.tmp 76], none, [], none⟩,
  ⟨some 4, .mov, [.tmp 77], none, [], none⟩,
  ⟨some 5, .mov, [.const (.int .i64 0)], none, [], none⟩] false [0, 1, 4, 5, 6, 8, 9, 10, 11, 12, 26, 30, 39, 47, 63])
  (.ret)))))))
def keep12 : List Nat := [0, 1, 4, 5, 6, 8, 9, 10, 11, 12, 26, 30, 39, 47, 63]
theorem fn12 : compFn Try.prog 12 keep12 = some ⟨78, 2, [(4, none), (5, none)], body12⟩ := by kernel_rfl

/- chartroom/delta.Sizes -/
def body13 : AC :=
  .seq (.reg [
  ⟨some 2, .mov, [.const (.int .i64 0)], none, [], none⟩,
  ⟨some 3, .mov, [.const (.int .i64 0)], none, [], none⟩] false [0, 2, 3, 5, 6, 7, 8, 9, 10, 11])
  (.seq (.seq (.reg [
  ⟨some 8, .mov, [.tmp 0], none, [], none⟩,
  ⟨some 9, .len, [.tmp 8], none, [], none⟩,
  ⟨some 10, .mov, [.const (.int .i64 0)], none, [], none⟩] false [0, 2, 3, 5, 6, 7, 8, 9, 10, 11])
  (.block 0 (.loop (.seq (.reg [
   ⟨some 11, (.bin .lss), [.tmp 10, .tmp 9], none, [], none⟩] false [0, 2, 3, 5, 6, 7, 8, 9, 10, 11])
   (.seq (.cond (.tmp 11) (.skip) (.exit 0))
   (.seq (.block 1 (.seq (.reg [
   ⟨some 12, (.ixa 47 3), [.tmp 8, .tmp 10], none, [], none⟩,
   ⟨some 13, (.load (some 3)), [.tmp 12], none, [], none⟩,
   ⟨some 5, (.alloc [(.int .u8 0), (.int .i64 0), (.string ⟨#[]⟩)]), [], none, [], none⟩,
   ⟨none, (.store (some 3)), [.tmp 5, .tmp 13], none, [], none⟩] false [0, 2, 3, 5, 6, 7, 8, 9, 10, 11])
   (.seq (.reg [
   ⟨some 15, (.load (some 3)), [.tmp 5], none, [], none⟩,
   ⟨some 16, (.call 31), [.tmp 15], none, [], none⟩,
   ⟨some 14, .mov, [.tmp 16], none, [], none⟩,
   ⟨some 17, (.ext 0), [.tmp 14], none, [], none⟩,
   ⟨some 18, (.ext 1), [.tmp 14], none, [], none⟩,
   ⟨some 6, .mov, [.tmp 17], none, [], none⟩,
   ⟨some 7, .mov, [.tmp 18], none, [], none⟩] false [0, 2, 3, 5, 6, 7, 8, 9, 10, 11])
   (.reg [
   ⟨some 19, .mov, [.tmp 2], none, [], none⟩,
   ⟨some 20, .mov, [.tmp 6], none, [], none⟩,
   ⟨some 21, (.bin .add), [.tmp 19, .tmp 20], none, [], none⟩,
   ⟨some 22, .mov, [.tmp 3], none, [], none⟩,
   ⟨some 23, .mov, [.tmp 7], none, [], none⟩,
   ⟨some 24, (.bin .add), [.tmp 22, .tmp 23], none, [], none⟩,
   ⟨some 2, .mov, [.tmp 21], none, [], none⟩,
   ⟨some 3, .mov, [.tmp 24], none, [], none⟩] false [0, 2, 3, 5, 6, 7, 8, 9, 10, 11]))))
   (.reg [
   ⟨some 25, (.bin .add), [.tmp 10, .const (.int .i64 1)], none, [], none⟩,
   ⟨some 10, .mov, [.tmp 25], none, [], none⟩] false [0, 2, 3, 5, 6, 7, 8, 9, 10, 11])))))))
  (.seq (.reg [
  ⟨some 26, .mov, [.tmp 2], none, [], none⟩,
  ⟨some 27, .mov, [.tmp 3], none, [], none⟩,
  ⟨some 2, .mov, [.tmp 26], none, [], none⟩,
  ⟨some 3, .mov, [.tmp 27], none, [], none⟩] false [0, 2, 3, 5, 6, 7, 8, 9, 10, 11])
  (.ret)))
def keep13 : List Nat := [0, 2, 3, 5, 6, 7, 8, 9, 10, 11]
theorem fn13 : compFn Try.prog 13 keep13 = some ⟨28, 1, [(2, none), (3, none)], body13⟩ := by kernel_rfl

/- chartroom/chartroomref05.Sizes -/
def body14 : AC :=
  .seq (.reg [
  ⟨some 2, .mov, [.const (.int .i64 0)], none, [], none⟩,
  ⟨some 3, .mov, [.const (.int .i64 0)], none, [], none⟩] false [0, 2, 3, 4, 5, 6, 10, 18, 24, 37])
  (.seq (.reg [
  ⟨some 4, .mov, [.const (.int .i64 0)], none, [], none⟩,
  ⟨some 5, .mov, [.const (.int .i64 0)], none, [], none⟩] false [0, 2, 3, 4, 5, 6, 10, 18, 24, 37])
  (.seq (.seq (.reg [
  ⟨some 6, .mov, [.const (.int .i64 0)], none, [], none⟩] false [0, 2, 3, 4, 5, 6, 10, 18, 24, 37])
  (.block 0 (.loop (.seq (.seq (.reg [
   ⟨some 7, .mov, [.tmp 6], none, [], none⟩,
   ⟨some 8, .mov, [.tmp 0], none, [], none⟩,
   ⟨some 9, .len, [.tmp 8], none, [], none⟩,
   ⟨some 10, (.bin .lss), [.tmp 7, .tmp 9], none, [], none⟩] false [0, 2, 3, 4, 5, 6, 10, 18, 24, 37])
   (.cond (.tmp 10) (.skip) (.exit 0)))
   (.seq (.block 1 (.seq (.seq (.reg [
   ⟨some 13, .mov, [.tmp 0], none, [], none⟩,
   ⟨some 14, .mov, [.tmp 6], none, [], none⟩,
   ⟨some 15, (.ixa 61 3), [.tmp 13, .tmp 14], none, [], none⟩,
   ⟨some 16, (.load (some 3)), [.tmp 15], none, [], none⟩,
   ⟨some 17, (.call 35), [.tmp 16], none, [], none⟩,
   ⟨some 18, .not, [.tmp 17], none, [], none⟩] false [0, 2, 3, 4, 5, 6, 10, 18, 24, 37])
   (.cond (.tmp 18) (.exit 1) (.skip)))
   (.seq (.seq (.reg [
   ⟨some 19, .mov, [.tmp 0], none, [], none⟩,
   ⟨some 20, .mov, [.tmp 6], none, [], none⟩,
   ⟨some 21, (.ixa 61 3), [.tmp 19, .tmp 20], none, [], none⟩,
   ⟨some 22, (.fad 0), [.tmp 21], none, [], none⟩,
   ⟨some 23, (.load none), [.tmp 22], none, [], none⟩,
   ⟨some 24, (.bin .neq), [.tmp 23, .const (.int .u8 2)], none, [], none⟩] false [0, 2, 3, 4, 5, 6, 10, 18, 24, 37])
   (.cond (.tmp 24) (.reg [
   ⟨some 25, .mov, [.tmp 4], none, [], none⟩,
   ⟨some 26, .mov, [.tmp 0], none, [], none⟩,
   ⟨some 27, .mov, [.tmp 6], none, [], none⟩,
   ⟨some 28, (.ixa 61 3), [.tmp 26, .tmp 27], none, [], none⟩,
   ⟨some 29, (.fad 1), [.tmp 28], none, [], none⟩,
   ⟨some 30, (.load none), [.tmp 29], none, [], none⟩,
   ⟨some 31, (.bin .add), [.tmp 25, .tmp 30], none, [], none⟩,
   ⟨some 4, .mov, [.tmp 31], none, [], none⟩] false [0, 2, 3, 4, 5, 6, 10, 18, 24, 37]) (.skip)))
   (.seq (.reg [
   ⟨some 32, .mov, [.tmp 0], none, [], none⟩,
   ⟨some 33, .mov, [.tmp 6], none, [], none⟩,
   ⟨some 34, (.ixa 61 3), [.tmp 32, .tmp 33], none, [], none⟩,
   ⟨some 35, (.fad 0), [.tmp 34], none, [], none⟩,
   ⟨some 36, (.load none), [.tmp 35], none, [], none⟩,
   ⟨some 37, (.bin .neq), [.tmp 36, .const (.int .u8 3)], none, [], none⟩] false [0, 2, 3, 4, 5, 6, 10, 18, 24, 37])
   (.cond (.tmp 37) (.reg [
   ⟨some 38, .mov, [.tmp 5], none, [], none⟩,
   ⟨some 39, .mov, [.tmp 0], none, [], none⟩,
   ⟨some 40, .mov, [.tmp 6], none, [], none⟩,
   ⟨some 41, (.ixa 61 3), [.tmp 39, .tmp 40], none, [], none⟩,
   ⟨some 42, (.fad 1), [.tmp 41], none, [], none⟩,
   ⟨some 43, (.load none), [.tmp 42], none, [], none⟩,
   ⟨some 44, (.bin .add), [.tmp 38, .tmp 43], none, [], none⟩,
   ⟨some 45, .mov, [.tmp 0], none, [], none⟩,
   ⟨some 46, .mov, [.tmp 6], none, [], none⟩,
   ⟨some 47, (.ixa 61 3), [.tmp 45, .tmp 46], none, [], none⟩,
   ⟨some 48, (.fad 2), [.tmp 47], none, [], none⟩,
   ⟨some 49, (.load none), [.tmp 48], none, [], none⟩,
   ⟨some 50, .slen, [.tmp 49], none, [], none⟩,
   ⟨some 51, (.bin .add), [.tmp 44, .tmp 50], none, [], none⟩,
   ⟨some 5, .mov, [.tmp 51], none, [], none⟩] true [0, 2, 3, 4, 5, 6, 10, 18, 24, 37]) (.skip))))))
   (.reg [
   ⟨some 11, .mov, [.tmp 6], none, [], none⟩,
   ⟨some 12, (.bin .add), [.tmp 11, .const (.int .i64 1)], none, [], none⟩,
   ⟨some 6, .mov, [.tmp 12], none, [], none⟩] false [0, 2, 3, 4, 5, 6, 10, 18, 24, 37]))))))
  (.seq (.reg [
  ⟨some 52, .mov, [.tmp 4], none, [], none⟩,
  ⟨some 53, .mov, [.tmp 5], none, [], none⟩,
  ⟨some 2, .mov, [.tmp 52], none, [], none⟩,
  ⟨some 3, .mov, [.tmp 53], none, [], none⟩] false [0, 2, 3, 4, 5, 6, 10, 18, 24, 37])
  (.ret))))
def keep14 : List Nat := [0, 2, 3, 4, 5, 6, 10, 18, 24, 37]
theorem fn14 : compFn Try.prog 14 keep14 = some ⟨54, 1, [(2, none), (3, none)], body14⟩ := by kernel_rfl

/- chartroom/delta.Normal -/
def body15 : AC :=
  .seq (.reg [
  ⟨some 2, (.nilS 47), [], none, [], none⟩,
  ⟨some 3, .mov, [.const (.int .i64 0)], none, [], none⟩] false [0, 2, 3, 4, 5, 7, 8, 11, 12, 13, 14, 15, 19, 20, 28, 53, 76])
  (.seq (.seq (.reg [
  ⟨some 9, .mov, [.tmp 0], none, [], none⟩,
  ⟨some 10, (.call 21), [.tmp 9], none, [], none⟩,
  ⟨some 11, .not, [.tmp 10], none, [], none⟩] false [0, 2, 3, 4, 5, 7, 8, 11, 12, 13, 14, 15, 19, 20, 28, 53, 76])
  (.cond (.tmp 11) (.seq (.reg [
  ⟨some 2, (.nilS 47), [], none, [], none⟩,
  ⟨some 3, .mov, [.const (.int .i64 2)], none, [], none⟩] false [0, 2, 3, 4, 5, 7, 8, 11, 12, 13, 14, 15, 19, 20, 28, 53, 76])
  (.ret)) (.skip)))
  (.seq (.reg [
  ⟨some 4, (.nilS 47), [], none, [], none⟩] false [0, 2, 3, 4, 5, 7, 8, 11, 12, 13, 14, 15, 19, 20, 28, 53, 76])
  (.seq (.reg [
  ⟨some 5, (.alloc [(.string ⟨#[]⟩), (.int .i64 0)]), [], none, [], none⟩] false [0, 2, 3, 4, 5, 7, 8, 11, 12, 13, 14, 15, 19, 20, 28, 53, 76])
  (.seq (.skip)
  (.seq (.seq (.reg [
  ⟨some 12, .mov, [.tmp 0], none, [], none⟩,
  ⟨some 13, .len, [.tmp 12], none, [], none⟩,
  ⟨some 14, .mov, [.const (.int .i64 0)], none, [], none⟩] false [0, 2, 3, 4, 5, 7, 8, 11, 12, 13, 14, 15, 19, 20, 28, 53, 76])
  (.block 0 (.loop (.seq (.reg [
   ⟨some 15, (.bin .lss), [.tmp 14, .tmp 13], none, [], none⟩] false [0, 2, 3, 4, 5, 7, 8, 11, 12, 13, 14, 15, 19, 20, 28, 53, 76])
   (.seq (.cond (.tmp 15) (.skip) (.exit 0))
   (.seq (.block 1 (.seq (.reg [
   ⟨some 16, (.ixa 47 3), [.tmp 12, .tmp 14], none, [], none⟩,
   ⟨some 17, (.load (some 3)), [.tmp 16], none, [], none⟩,
   ⟨some 7, (.alloc [(.int .u8 0), (.int .i64 0), (.string ⟨#[]⟩)]), [], none, [], none⟩,
   ⟨none, (.store (some 3)), [.tmp 7, .tmp 17], none, [], none⟩] false [0, 2, 3, 4, 5, 7, 8, 11, 12, 13, 14, 15, 19, 20, 28, 53, 76])
   (.seq (.seq (.reg [
   ⟨some 18, (.fad 0), [.tmp 7], none, [], none⟩,
   ⟨some 19, (.load none), [.tmp 18], none, [], none⟩] false [0, 2, 3, 4, 5, 7, 8, 11, 12, 13, 14, 15, 19, 20, 28, 53, 76])
   (.block 2 (.seq (.reg [
   ⟨some 21, (.bin .eql), [.tmp 19, .const (.int .u8 2)], none, [], none⟩,
   ⟨some 20, .mov, [.tmp 21], none, [], none⟩] false [0, 2, 3, 4, 5, 7, 8, 11, 12, 13, 14, 15, 19, 20, 28, 53, 76])
   (.cond (.tmp 20) (.seq (.reg [
   ⟨some 22, (.fad 0), [.tmp 5], none, [], none⟩,
   ⟨some 23, (.load none), [.tmp 22], none, [], none⟩,
   ⟨some 24, (.fad 2), [.tmp 7], none, [], none⟩,
   ⟨some 25, (.load none), [.tmp 24], none, [], none⟩,
   ⟨some 26, (.bin .add), [.tmp 23, .tmp 25], none, [], none⟩,
   ⟨some 27, (.fad 0), [.tmp 5], none, [], none⟩,
   ⟨none, (.store none), [.tmp 27, .tmp 26], none, [], none⟩] false [0, 2, 3, 4, 5, 7, 8, 11, 12, 13, 14, 15, 19, 20, 28, 53, 76])
   (.exit 1)) (.seq (.reg [
   ⟨some 29, (.bin .eql), [.tmp 19, .const (.int .u8 3)], none, [], none⟩,
   ⟨some 28, .mov, [.tmp 29], none, [], none⟩] false [0, 2, 3, 4, 5, 7, 8, 11, 12, 13, 14, 15, 19, 20, 28, 53, 76])
   (.cond (.tmp 28) (.seq (.reg [
   ⟨some 30, (.fad 1), [.tmp 5], none, [], none⟩,
   ⟨some 31, (.load none), [.tmp 30], none, [], none⟩,
   ⟨some 32, (.fad 1), [.tmp 7], none, [], none⟩,
   ⟨some 33, (.load none), [.tmp 32], none, [], none⟩,
   ⟨some 34, (.bin .add), [.tmp 31, .tmp 33], none, [], none⟩,
   ⟨some 35, (.fad 1), [.tmp 5], none, [], none⟩,
   ⟨none, (.store none), [.tmp 35, .tmp 34], none, [], none⟩] false [0, 2, 3, 4, 5, 7, 8, 11, 12, 13, 14, 15, 19, 20, 28, 53, 76])
   (.exit 1)) (.skip)))))))
   (.seq (.reg [
   ⟨some 36, .mov, [.tmp 4], none, [], none⟩,
   ⟨some 37, (.load (some 2)), [.tmp 5], none, [], none⟩,
   ⟨some 38, (.call 36), [.tmp 37], none, [], none⟩,
   ⟨some 39, (.app 47 3 32), [.tmp 36, .tmp 38], none, [], none⟩,
   ⟨some 40, (.bld [(.string ⟨#[]⟩), (.int .i64 0)] []), [], none, [], none⟩,
   ⟨some 4, .mov, [.tmp 39], none, [], none⟩,
   ⟨none, (.store (some 2)), [.tmp 5, .tmp 40], none, [], none⟩] false [0, 2, 3, 4, 5, 7, 8, 11, 12, 13, 14, 15, 19, 20, 28, 53, 76])
   (.seq (.seq (.reg [
   ⟨some 41, .mov, [.tmp 4], none, [], none⟩,
   ⟨some 42, .len, [.tmp 41], none, [], none⟩,
   ⟨some 8, .mov, [.tmp 42], none, [], none⟩] false [0, 2, 3, 4, 5, 7, 8, 11, 12, 13, 14, 15, 19, 20, 28, 53, 76])
   (.seq (.reg [
   ⟨some 43, .mov, [.tmp 8], none, [], none⟩,
   ⟨some 44, (.bin .gtr), [.tmp 43, .const (.int .i64 0)], none, [], none⟩,
   ⟨some 45, .mov, [.tmp 44], none, [], none⟩,
   ⟨some 46, .mov, [.tmp 4], some (45, true), [], none⟩,
   ⟨some 47, .mov, [.tmp 8], some (45, true), [], none⟩,
   ⟨some 48, (.bin .sub), [.tmp 47, .const (.int .i64 1)], some (45, true), [], none⟩,
   ⟨some 49, (.ixa 47 3), [.tmp 46, .tmp 48], some (45, true), [], none⟩,
   ⟨some 50, (.fad 0), [.tmp 49], some (45, true), [], none⟩,
   ⟨some 51, (.load none), [.tmp 50], some (45, true), [], none⟩,
   ⟨some 52, (.bin .eql), [.tmp 51, .const (.int .u8 1)], some (45, true), [], none⟩,
   ⟨some 53, .pick, [.tmp 45, .tmp 52, .const (.bool false)], none, [], none⟩] false [0, 2, 3, 4, 5, 7, 8, 11, 12, 13, 14, 15, 19, 20, 28, 53, 76])
   (.cond (.tmp 53) (.seq (.reg [
   ⟨some 54, .mov, [.tmp 4], none, [], none⟩,
   ⟨some 55, .mov, [.tmp 8], none, [], none⟩,
   ⟨some 56, (.bin .sub), [.tmp 55, .const (.int .i64 1)], none, [], none⟩,
   ⟨some 57, (.ixa 47 3), [.tmp 54, .tmp 56], none, [], none⟩,
   ⟨some 58, (.fad 1), [.tmp 57], none, [], none⟩,
   ⟨some 59, (.load none), [.tmp 58], none, [], none⟩,
   ⟨some 60, (.fad 1), [.tmp 7], none, [], none⟩,
   ⟨some 61, (.load none), [.tmp 60], none, [], none⟩,
   ⟨some 62, (.bin .add), [.tmp 59, .tmp 61], none, [], none⟩,
   ⟨some 63, (.ixa 47 3), [.tmp 54, .tmp 56], none, [], none⟩,
   ⟨some 64, (.fad 1), [.tmp 63], none, [], none⟩,
   ⟨none, (.store none), [.tmp 64, .tmp 62], none, [], none⟩] true [0, 2, 3, 4, 5, 7, 8, 11, 12, 13, 14, 15, 19, 20, 28, 53, 76])
   (.exit 1)) (.skip))))
   (.reg [
   ⟨some 65, .mov, [.tmp 4], none, [], none⟩,
   ⟨some 66, (.load (some 3)), [.tmp 7], none, [], none⟩,
   ⟨some 67, (.bsl 47 3), [.tmp 66], none, [], none⟩,
   ⟨some 68, (.app 47 3 32), [.tmp 65, .tmp 67], none, [], none⟩,
   ⟨some 4, .mov, [.tmp 68], none, [], none⟩] false [0, 2, 3, 4, 5, 7, 8, 11, 12, 13, 14, 15, 19, 20, 28, 53, 76]))))))
   (.reg [
   ⟨some 69, (.bin .add), [.tmp 14, .const (.int .i64 1)], none, [], none⟩,
   ⟨some 14, .mov, [.tmp 69], none, [], none⟩] false [0, 2, 3, 4, 5, 7, 8, 11, 12, 13, 14, 15, 19, 20, 28, 53, 76])))))))
  (.seq (.reg [
  ⟨some 70, .mov, [.tmp 4], none, [], none⟩,
  ⟨some 71, (.load (some 2)), [.tmp 5], none, [], none⟩,
  ⟨some 72, (.call 36), [.tmp 71], none, [], none⟩,
  ⟨some 73, (.app 47 3 32), [.tmp 70, .tmp 72], none, [], none⟩,
  ⟨some 4, .mov, [.tmp 73], none, [], none⟩] false [0, 2, 3, 4, 5, 7, 8, 11, 12, 13, 14, 15, 19, 20, 28, 53, 76])
  (.seq (.seq (.reg [
  ⟨some 74, .mov, [.tmp 4], none, [], none⟩,
  ⟨some 75, (.call 21), [.tmp 74], none, [], none⟩,
  ⟨some 76, .not, [.tmp 75], none, [], none⟩] false [0, 2, 3, 4, 5, 7, 8, 11, 12, 13, 14, 15, 19, 20, 28, 53, 76])
  (.cond (.tmp 76) (.seq (.reg [
  ⟨some 2, (.nilS 47), [], none, [], none⟩,
  ⟨some 3, .mov, [.const (.int .i64 3)], none, [], none⟩] false [0, 2, 3, 4, 5, 7, 8, 11, 12, 13, 14, 15, 19, 20, 28, 53, 76])
  (.ret)) (.skip)))
  (.seq (.reg [
  ⟨some 77, .mov, [.tmp 4], none, [], none⟩,
  ⟨some 2, .mov, [.tmp 77], none, [], none⟩,
  ⟨some 3, .mov, [.const (.int .i64 0)], none, [], none⟩] false [0, 2, 3, 4, 5, 7, 8, 11, 12, 13, 14, 15, 19, 20, 28, 53, 76])
  (.ret)))))))))
def keep15 : List Nat := [0, 2, 3, 4, 5, 7, 8, 11, 12, 13, 14, 15, 19, 20, 28, 53, 76]
theorem fn15 : compFn Try.prog 15 keep15 = some ⟨78, 1, [(2, none), (3, none)], body15⟩ := by kernel_rfl

/- chartroom/chartroomref05.Normal -/
def body16 : AC :=
  .seq (.reg [
  ⟨some 2, (.nilS 61), [], none, [], none⟩,
  ⟨some 3, .mov, [.const (.int .i64 0)], none, [], none⟩] false [0, 2, 3, 4, 7, 8, 16])
  (.seq (.seq (.reg [
  ⟨some 5, .mov, [.tmp 0], none, [], none⟩,
  ⟨some 6, (.call 22), [.tmp 5], none, [], none⟩,
  ⟨some 7, .not, [.tmp 6], none, [], none⟩] false [0, 2, 3, 4, 7, 8, 16])
  (.cond (.tmp 7) (.seq (.reg [
  ⟨some 2, (.nilS 61), [], none, [], none⟩,
  ⟨some 3, .mov, [.const (.int .i64 2)], none, [], none⟩] false [0, 2, 3, 4, 7, 8, 16])
  (.ret)) (.skip)))
  (.seq (.reg [
  ⟨some 4, .mov, [.const (.bool true)], none, [], none⟩] false [0, 2, 3, 4, 7, 8, 16])
  (.seq (.block 0 (.loop (.seq (.seq (.reg [
   ⟨some 8, .mov, [.tmp 4], none, [], none⟩] false [0, 2, 3, 4, 7, 8, 16])
   (.cond (.tmp 8) (.skip) (.exit 0)))
   (.block 1 (.reg [
   ⟨some 10, .mov, [.tmp 0], none, [], none⟩,
   ⟨some 11, (.call 37), [.tmp 10], none, [], none⟩,
   ⟨some 9, .mov, [.tmp 11], none, [], none⟩,
   ⟨some 12, (.ext 0), [.tmp 9], none, [], none⟩,
   ⟨some 13, (.ext 1), [.tmp 9], none, [], none⟩,
   ⟨some 0, .mov, [.tmp 12], none, [], none⟩,
   ⟨some 4, .mov, [.tmp 13], none, [], none⟩] false [0, 2, 3, 4, 7, 8, 16])))))
  (.seq (.seq (.reg [
  ⟨some 14, .mov, [.tmp 0], none, [], none⟩,
  ⟨some 15, (.call 22), [.tmp 14], none, [], none⟩,
  ⟨some 16, .not, [.tmp 15], none, [], none⟩] false [0, 2, 3, 4, 7, 8, 16])
  (.cond (.tmp 16) (.seq (.reg [
  ⟨some 2, (.nilS 61), [], none, [], none⟩,
  ⟨some 3, .mov, [.const (.int .i64 3)], none, [], none⟩] false [0, 2, 3, 4, 7, 8, 16])
  (.ret)) (.skip)))
  (.seq (.reg [
  ⟨some 17, .mov, [.tmp 0], none, [], none⟩,
  ⟨some 2, .mov, [.tmp 17], none, [], none⟩,
  ⟨some 3, .mov, [.const (.int .i64 0)], none, [], none⟩] false [0, 2, 3, 4, 7, 8, 16])
  (.ret))))))
def keep16 : List Nat := [0, 2, 3, 4, 7, 8, 16]
theorem fn16 : compFn Try.prog 16 keep16 = some ⟨18, 1, [(2, none), (3, none)], body16⟩ := by kernel_rfl

/- chartroom/delta.Put -/
def body17 : AC :=
  .seq (.reg [
  ⟨some 2, (.nilS 5), [], none, [], none⟩,
  ⟨some 3, .mov, [.const (.int .i64 0)], none, [], none⟩] false [0, 2, 3, 4, 6, 9, 10, 11, 12, 13, 23])
  (.seq (.seq (.reg [
  ⟨some 7, .mov, [.tmp 0], none, [], none⟩,
  ⟨some 8, (.call 21), [.tmp 7], none, [], none⟩,
  ⟨some 9, .not, [.tmp 8], none, [], none⟩] false [0, 2, 3, 4, 6, 9, 10, 11, 12, 13, 23])
  (.cond (.tmp 9) (.seq (.reg [
  ⟨some 2, (.nilS 5), [], none, [], none⟩,
  ⟨some 3, .mov, [.const (.int .i64 2)], none, [], none⟩] false [0, 2, 3, 4, 6, 9, 10, 11, 12, 13, 23])
  (.ret)) (.skip)))
  (.seq (.reg [
  ⟨some 4, (.nilS 5), [], none, [], none⟩] false [0, 2, 3, 4, 6, 9, 10, 11, 12, 13, 23])
  (.seq (.seq (.reg [
  ⟨some 10, .mov, [.tmp 0], none, [], none⟩,
  ⟨some 11, .len, [.tmp 10], none, [], none⟩,
  ⟨some 12, .mov, [.const (.int .i64 0)], none, [], none⟩] false [0, 2, 3, 4, 6, 9, 10, 11, 12, 13, 23])
  (.block 0 (.loop (.seq (.reg [
   ⟨some 13, (.bin .lss), [.tmp 12, .tmp 11], none, [], none⟩] false [0, 2, 3, 4, 6, 9, 10, 11, 12, 13, 23])
   (.seq (.cond (.tmp 13) (.skip) (.exit 0))
   (.seq (.block 1 (.seq (.reg [
   ⟨some 14, (.ixa 47 3), [.tmp 10, .tmp 12], none, [], none⟩,
   ⟨some 15, (.load (some 3)), [.tmp 14], none, [], none⟩,
   ⟨some 6, (.alloc [(.int .u8 0), (.int .i64 0), (.string ⟨#[]⟩)]), [], none, [], none⟩,
   ⟨none, (.store (some 3)), [.tmp 6, .tmp 15], none, [], none⟩] false [0, 2, 3, 4, 6, 9, 10, 11, 12, 13, 23])
   (.seq (.reg [
   ⟨some 16, .mov, [.tmp 4], none, [], none⟩,
   ⟨some 17, (.fad 0), [.tmp 6], none, [], none⟩,
   ⟨some 18, (.load none), [.tmp 17], none, [], none⟩,
   ⟨some 19, (.bsl 5 1), [.tmp 18], none, [], none⟩,
   ⟨some 20, (.app 5 1 1), [.tmp 16, .tmp 19], none, [], none⟩,
   ⟨some 4, .mov, [.tmp 20], none, [], none⟩] false [0, 2, 3, 4, 6, 9, 10, 11, 12, 13, 23])
   (.seq (.seq (.reg [
   ⟨some 21, (.fad 0), [.tmp 6], none, [], none⟩,
   ⟨some 22, (.load none), [.tmp 21], none, [], none⟩,
   ⟨some 23, (.bin .eql), [.tmp 22, .const (.int .u8 2)], none, [], none⟩] false [0, 2, 3, 4, 6, 9, 10, 11, 12, 13, 23])
   (.cond (.tmp 23) (.seq (.reg [
   ⟨some 24, .mov, [.tmp 4], none, [], none⟩,
   ⟨some 25, (.fad 2), [.tmp 6], none, [], none⟩,
   ⟨some 26, (.load none), [.tmp 25], none, [], none⟩,
   ⟨some 27, (.call 38), [.tmp 26], none, [], none⟩,
   ⟨some 28, (.app 5 1 1), [.tmp 24, .tmp 27], none, [], none⟩,
   ⟨some 4, .mov, [.tmp 28], none, [], none⟩] false [0, 2, 3, 4, 6, 9, 10, 11, 12, 13, 23])
   (.exit 1)) (.skip)))
   (.reg [
   ⟨some 29, .mov, [.tmp 4], none, [], none⟩,
   ⟨some 30, (.fad 1), [.tmp 6], none, [], none⟩,
   ⟨some 31, (.load none), [.tmp 30], none, [], none⟩,
   ⟨some 32, (.cvi .u64), [.tmp 31], none, [], none⟩,
   ⟨some 33, (.call 39), [.tmp 32], none, [], none⟩,
   ⟨some 34, (.app 5 1 1), [.tmp 29, .tmp 33], none, [], none⟩,
   ⟨some 4, .mov, [.tmp 34], none, [], none⟩] false [0, 2, 3, 4, 6, 9, 10, 11, 12, 13, 23])))))
   (.reg [
   ⟨some 35, (.bin .add), [.tmp 12, .const (.int .i64 1)], none, [], none⟩,
   ⟨some 12, .mov, [.tmp 35], none, [], none⟩] false [0, 2, 3, 4, 6, 9, 10, 11, 12, 13, 23])))))))
  (.seq (.reg [
  ⟨some 36, .mov, [.tmp 4], none, [], none⟩,
  ⟨some 2, .mov, [.tmp 36], none, [], none⟩,
  ⟨some 3, .mov, [.const (.int .i64 0)], none, [], none⟩] false [0, 2, 3, 4, 6, 9, 10, 11, 12, 13, 23])
  (.ret)))))
def keep17 : List Nat := [0, 2, 3, 4, 6, 9, 10, 11, 12, 13, 23]
theorem fn17 : compFn Try.prog 17 keep17 = some ⟨37, 1, [(2, none), (3, none)], body17⟩ := by kernel_rfl

/- chartroom/chartroomref05.Put -/
def body18 : AC :=
  .seq (.reg [
  ⟨some 2, (.nilS 5), [], none, [], none⟩,
  ⟨some 3, .mov, [.const (.int .i64 0)], none, [], none⟩] false [0, 2, 3, 4, 5, 8, 12, 28])
  (.seq (.seq (.reg [
  ⟨some 6, .mov, [.tmp 0], none, [], none⟩,
  ⟨some 7, (.call 22), [.tmp 6], none, [], none⟩,
  ⟨some 8, .not, [.tmp 7], none, [], none⟩] false [0, 2, 3, 4, 5, 8, 12, 28])
  (.cond (.tmp 8) (.seq (.reg [
  ⟨some 2, (.nilS 5), [], none, [], none⟩,
  ⟨some 3, .mov, [.const (.int .i64 2)], none, [], none⟩] false [0, 2, 3, 4, 5, 8, 12, 28])
  (.ret)) (.skip)))
  (.seq (.reg [
  ⟨some 4, (.nilS 5), [], none, [], none⟩] false [0, 2, 3, 4, 5, 8, 12, 28])
  (.seq (.seq (.reg [
  ⟨some 5, .mov, [.const (.int .i64 0)], none, [], none⟩] false [0, 2, 3, 4, 5, 8, 12, 28])
  (.block 0 (.loop (.seq (.seq (.reg [
   ⟨some 9, .mov, [.tmp 5], none, [], none⟩,
   ⟨some 10, .mov, [.tmp 0], none, [], none⟩,
   ⟨some 11, .len, [.tmp 10], none, [], none⟩,
   ⟨some 12, (.bin .lss), [.tmp 9, .tmp 11], none, [], none⟩] false [0, 2, 3, 4, 5, 8, 12, 28])
   (.cond (.tmp 12) (.skip) (.exit 0)))
   (.seq (.block 1 (.seq (.reg [
   ⟨some 15, .mov, [.tmp 4], none, [], none⟩,
   ⟨some 16, .mov, [.tmp 0], none, [], none⟩,
   ⟨some 17, .mov, [.tmp 5], none, [], none⟩,
   ⟨some 18, (.ixa 61 3), [.tmp 16, .tmp 17], none, [], none⟩,
   ⟨some 19, (.fad 0), [.tmp 18], none, [], none⟩,
   ⟨some 20, (.load none), [.tmp 19], none, [], none⟩,
   ⟨some 21, (.bsl 5 1), [.tmp 20], none, [], none⟩,
   ⟨some 22, (.app 5 1 1), [.tmp 15, .tmp 21], none, [], none⟩,
   ⟨some 4, .mov, [.tmp 22], none, [], none⟩] false [0, 2, 3, 4, 5, 8, 12, 28])
   (.seq (.reg [
   ⟨some 23, .mov, [.tmp 0], none, [], none⟩,
   ⟨some 24, .mov, [.tmp 5], none, [], none⟩,
   ⟨some 25, (.ixa 61 3), [.tmp 23, .tmp 24], none, [], none⟩,
   ⟨some 26, (.fad 0), [.tmp 25], none, [], none⟩,
   ⟨some 27, (.load none), [.tmp 26], none, [], none⟩,
   ⟨some 28, (.bin .eql), [.tmp 27, .const (.int .u8 2)], none, [], none⟩] false [0, 2, 3, 4, 5, 8, 12, 28])
   (.cond (.tmp 28) (.reg [
   ⟨some 29, .mov, [.tmp 4], none, [], none⟩,
   ⟨some 30, .mov, [.tmp 0], none, [], none⟩,
   ⟨some 31, .mov, [.tmp 5], none, [], none⟩,
   ⟨some 32, (.ixa 61 3), [.tmp 30, .tmp 31], none, [], none⟩,
   ⟨some 33, (.fad 2), [.tmp 32], none, [], none⟩,
   ⟨some 34, (.load none), [.tmp 33], none, [], none⟩,
   ⟨some 35, (.call 40), [.tmp 34], none, [], none⟩,
   ⟨some 36, (.app 5 1 1), [.tmp 29, .tmp 35], none, [], none⟩,
   ⟨some 4, .mov, [.tmp 36], none, [], none⟩] false [0, 2, 3, 4, 5, 8, 12, 28]) (.reg [
   ⟨some 37, .mov, [.tmp 4], none, [], none⟩,
   ⟨some 38, .mov, [.tmp 0], none, [], none⟩,
   ⟨some 39, .mov, [.tmp 5], none, [], none⟩,
   ⟨some 40, (.ixa 61 3), [.tmp 38, .tmp 39], none, [], none⟩,
   ⟨some 41, (.fad 1), [.tmp 40], none, [], none⟩,
   ⟨some 42, (.load none), [.tmp 41], none, [], none⟩,
   ⟨some 43, (.cvi .u64), [.tmp 42], none, [], none⟩,
   ⟨some 44, (.call 41), [.tmp 43], none, [], none⟩,
   ⟨some 45, (.app 5 1 1), [.tmp 37, .tmp 44], none, [], none⟩,
   ⟨some 4, .mov, [.tmp 45], none, [], none⟩] false [0, 2, 3, 4, 5, 8, 12, 28])))))
   (.reg [
   ⟨some 13, .mov, [.tmp 5], none, [], none⟩,
   ⟨some 14, (.bin .add), [.tmp 13, .const (.int .i64 1)], none, [], none⟩,
   ⟨some 5, .mov, [.tmp 14], none, [], none⟩] false [0, 2, 3, 4, 5, 8, 12, 28]))))))
  (.seq (.reg [
  ⟨some 46, .mov, [.tmp 4], none, [], none⟩,
  ⟨some 2, .mov, [.tmp 46], none, [], none⟩,
  ⟨some 3, .mov, [.const (.int .i64 0)], none, [], none⟩] false [0, 2, 3, 4, 5, 8, 12, 28])
  (.ret)))))
def keep18 : List Nat := [0, 2, 3, 4, 5, 8, 12, 28]
theorem fn18 : compFn Try.prog 18 keep18 = some ⟨47, 1, [(2, none), (3, none)], body18⟩ := by kernel_rfl

/- chartroom/chartroomlaw05.same -/
def body19 : AC :=
  .seq (.reg [
  ⟨some 4, .mov, [.const (.bool false)], none, [], none⟩] false [0, 1, 4, 5, 10, 14, 53])
  (.seq (.seq (.reg [
  ⟨some 6, .mov, [.tmp 0], none, [], none⟩,
  ⟨some 7, .len, [.tmp 6], none, [], none⟩,
  ⟨some 8, .mov, [.tmp 1], none, [], none⟩,
  ⟨some 9, .len, [.tmp 8], none, [], none⟩,
  ⟨some 10, (.bin .neq), [.tmp 7, .tmp 9], none, [], none⟩] false [0, 1, 4, 5, 10, 14, 53])
  (.cond (.tmp 10) (.seq (.reg [
  ⟨some 4, .mov, [.const (.bool false)], none, [], none⟩] false [0, 1, 4, 5, 10, 14, 53])
  (.ret)) (.skip)))
  (.seq (.seq (.reg [
  ⟨some 5, .mov, [.const (.int .i64 0)], none, [], none⟩] false [0, 1, 4, 5, 10, 14, 53])
  (.block 0 (.loop (.seq (.seq (.reg [
   ⟨some 11, .mov, [.tmp 5], none, [], none⟩,
   ⟨some 12, .mov, [.tmp 0], none, [], none⟩,
   ⟨some 13, .len, [.tmp 12], none, [], none⟩,
   ⟨some 14, (.bin .lss), [.tmp 11, .tmp 13], none, [], none⟩] false [0, 1, 4, 5, 10, 14, 53])
   (.cond (.tmp 14) (.skip) (.exit 0)))
   (.seq (.block 1 (.seq (.reg (
   ⟨some 17, .mov, [.tmp 0], none, [], none⟩ ::
   ⟨some 18, .mov, [.tmp 5], none, [], none⟩ ::
   ⟨some 19, (.ixa 47 3), [.tmp 17, .tmp 18], none, [], none⟩ ::
   ⟨some 20, (.fad 0), [.tmp 19], none, [], none⟩ ::
   ⟨some 21, (.load none), [.tmp 20], none, [], none⟩ ::
   ⟨some 22, .mov, [.tmp 1], none, [], none⟩ ::
   ⟨some 23, .mov, [.tmp 5], none, [], none⟩ ::
   ⟨some 24, (.ixa 61 3), [.tmp 22, .tmp 23], none, [], none⟩ ::
   ⟨some 25, (.fad 0), [.tmp 24], none, [], none⟩ ::
   ⟨some 26, (.load none), [.tmp 25], none, [], none⟩ ::
   ⟨some 27, (.bin .neq), [.tmp 21, .tmp 26], none, [], none⟩ ::
   ⟨some 28, .mov, [.tmp 27], none, [], none⟩ ::
   ⟨some 29, .mov, [.tmp 0], some (28, false), [], none⟩ ::
   ⟨some 30, .mov, [.tmp 5], some (28, false), [], none⟩ ::
   ⟨some 31, (.ixa 47 3), [.tmp 29, .tmp 30], some (28, false), [], none⟩ ::
   ⟨some 32, (.fad 1), [.tmp 31], some (28, false), [], none⟩ ::
   ⟨some 33, (.load none), [.tmp 32], some (28, false), [], none⟩ ::
   ⟨some 34, .mov, [.tmp 1], some (28, false), [], none⟩ ::
   ⟨some 35, .mov, [.tmp 5], some (28, false), [], none⟩ ::
   ⟨some 36, (.ixa 61 3), [.tmp 34, .tmp 35], some (28, false), [], none⟩ ::
   ⟨some 37, (.fad 1), [.tmp 36], some (28, false), [], none⟩ ::
   ⟨some 38, (.load none), [.tmp 37], some (28, false), [], none⟩ ::
   ⟨some 39, (.bin .neq), [.tmp 33, .tmp 38], some (28, false), [], none⟩ ::
   ⟨some 40, .pick, [.tmp 28, .const (.bool true), .tmp 39], none, [], none⟩ ::
   ⟨some 41, .mov, [.tmp 40], none, [], none⟩ ::
   ⟨some 42, .mov, [.tmp 0], some (41, false), [], none⟩ ::
   ⟨some 43, .mov, [.tmp 5], some (41, false), [], none⟩ ::
   ⟨some 44, (.ixa 47 3), [.tmp 42, .tmp 43], some (41, false), [], none⟩ ::
   ⟨some 45, (.fad 2), [.tmp 44], some (41, false), [], none⟩ ::
   ⟨some 46, (.load none), [.tmp 45], some (41, false), [], none⟩ ::
   ⟨some 47, .mov, [.tmp 1], some (41, false), [], none⟩ ::
   ⟨some 48, .mov, [.tmp 5], some (41, false), [], none⟩ ::
   ⟨some 49, (.ixa 61 3), [.tmp 47, .tmp 48], some (41, false), [], none⟩ ::
   ⟨some 50, (.fad 2), [.tmp 49], some (41, false), [], none⟩ ::
   ⟨some 51, (.load none), [.tmp 50], some (41, false), [], none⟩ ::
   ⟨some 52, (.bin .neq), [.tmp 46, .tmp 51], some (41, false), [], none⟩ ::
   ⟨some 53, .pick, [.tmp 41, .const (.bool true), .tmp 52], none, [], none⟩ :: []) true [0, 1, 4, 5, 10, 14, 53])
   (.cond (.tmp 53) (.seq (.reg [
   ⟨some 4, .mov, [.const (.bool false)], none, [], none⟩] false [0, 1, 4, 5, 10, 14, 53])
   (.ret)) (.skip))))
   (.reg [
   ⟨some 15, .mov, [.tmp 5], none, [], none⟩,
   ⟨some 16, (.bin .add), [.tmp 15, .const (.int .i64 1)], none, [], none⟩,
   ⟨some 5, .mov, [.tmp 16], none, [], none⟩] false [0, 1, 4, 5, 10, 14, 53]))))))
  (.seq (.reg [
  ⟨some 4, .mov, [.const (.bool true)], none, [], none⟩] false [0, 1, 4, 5, 10, 14, 53])
  (.ret))))
def keep19 : List Nat := [0, 1, 4, 5, 10, 14, 53]
theorem fn19 : compFn Try.prog 19 keep19 = some ⟨54, 2, [(4, none)], body19⟩ := by kernel_rfl

/- chartroom/chartroomkit.SameBytes -/
def body20 : AC :=
  .seq (.reg [
  ⟨some 4, .mov, [.const (.bool false)], none, [], none⟩] false [0, 1, 4, 5, 10, 14, 25])
  (.seq (.seq (.reg [
  ⟨some 6, .mov, [.tmp 0], none, [], none⟩,
  ⟨some 7, .len, [.tmp 6], none, [], none⟩,
  ⟨some 8, .mov, [.tmp 1], none, [], none⟩,
  ⟨some 9, .len, [.tmp 8], none, [], none⟩,
  ⟨some 10, (.bin .neq), [.tmp 7, .tmp 9], none, [], none⟩] false [0, 1, 4, 5, 10, 14, 25])
  (.cond (.tmp 10) (.seq (.reg [
  ⟨some 4, .mov, [.const (.bool false)], none, [], none⟩] false [0, 1, 4, 5, 10, 14, 25])
  (.ret)) (.skip)))
  (.seq (.seq (.reg [
  ⟨some 5, .mov, [.const (.int .i64 0)], none, [], none⟩] false [0, 1, 4, 5, 10, 14, 25])
  (.block 0 (.loop (.seq (.seq (.reg [
   ⟨some 11, .mov, [.tmp 5], none, [], none⟩,
   ⟨some 12, .mov, [.tmp 0], none, [], none⟩,
   ⟨some 13, .len, [.tmp 12], none, [], none⟩,
   ⟨some 14, (.bin .lss), [.tmp 11, .tmp 13], none, [], none⟩] false [0, 1, 4, 5, 10, 14, 25])
   (.cond (.tmp 14) (.skip) (.exit 0)))
   (.seq (.block 1 (.seq (.reg [
   ⟨some 17, .mov, [.tmp 0], none, [], none⟩,
   ⟨some 18, .mov, [.tmp 5], none, [], none⟩,
   ⟨some 19, (.ixa 5 1), [.tmp 17, .tmp 18], none, [], none⟩,
   ⟨some 20, (.load none), [.tmp 19], none, [], none⟩,
   ⟨some 21, .mov, [.tmp 1], none, [], none⟩,
   ⟨some 22, .mov, [.tmp 5], none, [], none⟩,
   ⟨some 23, (.ixa 5 1), [.tmp 21, .tmp 22], none, [], none⟩,
   ⟨some 24, (.load none), [.tmp 23], none, [], none⟩,
   ⟨some 25, (.bin .neq), [.tmp 20, .tmp 24], none, [], none⟩] true [0, 1, 4, 5, 10, 14, 25])
   (.cond (.tmp 25) (.seq (.reg [
   ⟨some 4, .mov, [.const (.bool false)], none, [], none⟩] false [0, 1, 4, 5, 10, 14, 25])
   (.ret)) (.skip))))
   (.reg [
   ⟨some 15, .mov, [.tmp 5], none, [], none⟩,
   ⟨some 16, (.bin .add), [.tmp 15, .const (.int .i64 1)], none, [], none⟩,
   ⟨some 5, .mov, [.tmp 16], none, [], none⟩] false [0, 1, 4, 5, 10, 14, 25]))))))
  (.seq (.reg [
  ⟨some 4, .mov, [.const (.bool true)], none, [], none⟩] false [0, 1, 4, 5, 10, 14, 25])
  (.ret))))
def keep20 : List Nat := [0, 1, 4, 5, 10, 14, 25]
theorem fn20 : compFn Try.prog 20 keep20 = some ⟨26, 2, [(4, none)], body20⟩ := by kernel_rfl

/- chartroom/delta.Right -/
def body21 : AC :=
  .seq (.reg [
  ⟨some 2, .mov, [.const (.bool false)], none, [], none⟩] false [0, 2])
  (.seq (.reg [
  ⟨some 3, .mov, [.tmp 0], none, [], none⟩,
  ⟨some 4, (.call 42), [.tmp 3, .func 43], none, [], none⟩,
  ⟨some 5, .not, [.tmp 4], none, [], none⟩,
  ⟨some 2, .mov, [.tmp 5], none, [], none⟩] false [0, 2])
  (.ret))
def keep21 : List Nat := [0, 2]
theorem fn21 : compFn Try.prog 21 keep21 = some ⟨6, 1, [(2, none)], body21⟩ := by kernel_rfl

/- chartroom/chartroomref05.Right -/
def body22 : AC :=
  .seq (.reg [
  ⟨some 2, .mov, [.const (.bool false)], none, [], none⟩] false [0, 2, 3, 7, 15])
  (.seq (.seq (.reg [
  ⟨some 3, .mov, [.const (.int .i64 0)], none, [], none⟩] false [0, 2, 3, 7, 15])
  (.block 0 (.loop (.seq (.seq (.reg [
   ⟨some 4, .mov, [.tmp 3], none, [], none⟩,
   ⟨some 5, .mov, [.tmp 0], none, [], none⟩,
   ⟨some 6, .len, [.tmp 5], none, [], none⟩,
   ⟨some 7, (.bin .lss), [.tmp 4, .tmp 6], none, [], none⟩] false [0, 2, 3, 7, 15])
   (.cond (.tmp 7) (.skip) (.exit 0)))
   (.seq (.block 1 (.seq (.reg [
   ⟨some 10, .mov, [.tmp 0], none, [], none⟩,
   ⟨some 11, .mov, [.tmp 3], none, [], none⟩,
   ⟨some 12, (.ixa 61 3), [.tmp 10, .tmp 11], none, [], none⟩,
   ⟨some 13, (.load (some 3)), [.tmp 12], none, [], none⟩,
   ⟨some 14, (.call 35), [.tmp 13], none, [], none⟩,
   ⟨some 15, .not, [.tmp 14], none, [], none⟩] false [0, 2, 3, 7, 15])
   (.cond (.tmp 15) (.seq (.reg [
   ⟨some 2, .mov, [.const (.bool false)], none, [], none⟩] false [0, 2, 3, 7, 15])
   (.ret)) (.skip))))
   (.reg [
   ⟨some 8, .mov, [.tmp 3], none, [], none⟩,
   ⟨some 9, (.bin .add), [.tmp 8, .const (.int .i64 1)], none, [], none⟩,
   ⟨some 3, .mov, [.tmp 9], none, [], none⟩] false [0, 2, 3, 7, 15]))))))
  (.seq (.reg [
  ⟨some 2, .mov, [.const (.bool true)], none, [], none⟩] false [0, 2, 3, 7, 15])
  (.ret)))
def keep22 : List Nat := [0, 2, 3, 7, 15]
theorem fn22 : compFn Try.prog 22 keep22 = some ⟨16, 1, [(2, none)], body22⟩ := by kernel_rfl

/- chartroom/delta.Diff -/
def body23 : AC :=
  .seq (.reg [
  ⟨some 4, (.nilS 47), [], none, [], none⟩] false [0, 1, 4, 5, 6, 7, 8])
  (.seq (.reg [
  ⟨some 10, .mov, [.tmp 0], none, [], none⟩,
  ⟨some 11, .mov, [.tmp 1], none, [], none⟩,
  ⟨some 12, (.call 44), [.tmp 10, .tmp 11, .func 45], none, [], none⟩,
  ⟨some 5, .mov, [.tmp 12], none, [], none⟩] false [0, 1, 4, 5, 6, 7, 8])
  (.seq (.reg [
  ⟨some 13, .mov, [.tmp 0], none, [], none⟩,
  ⟨some 14, .mov, [.tmp 5], none, [], none⟩,
  ⟨some 15, (.ssl true false), [.tmp 13, .tmp 14], none, [], none⟩,
  ⟨some 16, .mov, [.tmp 1], none, [], none⟩,
  ⟨some 17, .mov, [.tmp 5], none, [], none⟩,
  ⟨some 18, (.ssl true false), [.tmp 16, .tmp 17], none, [], none⟩,
  ⟨some 0, .mov, [.tmp 15], none, [], none⟩,
  ⟨some 1, .mov, [.tmp 18], none, [], none⟩] true [0, 1, 4, 5, 6, 7, 8])
  (.seq (.reg [
  ⟨some 19, .mov, [.tmp 0], none, [], none⟩,
  ⟨some 20, .mov, [.tmp 1], none, [], none⟩,
  ⟨some 21, (.call 44), [.tmp 19, .tmp 20, .func 46], none, [], none⟩,
  ⟨some 6, .mov, [.tmp 21], none, [], none⟩] false [0, 1, 4, 5, 6, 7, 8])
  (.seq (.reg [
  ⟨some 22, .mov, [.tmp 5], none, [], none⟩,
  ⟨some 23, (.bld [(.int .u8 0), (.int .i64 0), (.string ⟨#[]⟩)] [(0, 1), (1, 1)]), [.const (.int .u8 1), .tmp 22], none, [], none⟩,
  ⟨some 24, .mov, [.tmp 1], none, [], none⟩,
  ⟨some 25, .mov, [.tmp 1], none, [], none⟩,
  ⟨some 26, .slen, [.tmp 25], none, [], none⟩,
  ⟨some 27, .mov, [.tmp 6], none, [], none⟩,
  ⟨some 28, (.bin .sub), [.tmp 26, .tmp 27], none, [], none⟩,
  ⟨some 29, (.ssl false true), [.tmp 24, .tmp 28], none, [], none⟩,
  ⟨some 30, (.call 47), [.tmp 29], none, [], none⟩,
  ⟨some 31, (.bld [(.int .u8 0), (.int .i64 0), (.string ⟨#[]⟩)] [(0, 1), (2, 1)]), [.const (.int .u8 2), .tmp 30], none, [], none⟩,
  ⟨some 32, .mov, [.tmp 0], none, [], none⟩,
  ⟨some 33, .slen, [.tmp 32], none, [], none⟩,
  ⟨some 34, .mov, [.tmp 6], none, [], none⟩,
  ⟨some 35, (.bin .sub), [.tmp 33, .tmp 34], none, [], none⟩,
  ⟨some 36, (.bld [(.int .u8 0), (.int .i64 0), (.string ⟨#[]⟩)] [(0, 1), (1, 1)]), [.const (.int .u8 3), .tmp 35], none, [], none⟩,
  ⟨some 37, .mov, [.tmp 6], none, [], none⟩,
  ⟨some 38, (.bld [(.int .u8 0), (.int .i64 0), (.string ⟨#[]⟩)] [(0, 1), (1, 1)]), [.const (.int .u8 1), .tmp 37], none, [], none⟩,
  ⟨some 39, (.bsl 47 3), [.tmp 23, .tmp 31, .tmp 36, .tmp 38], none, [], none⟩,
  ⟨some 7, .mov, [.tmp 39], none, [], none⟩] false [0, 1, 4, 5, 6, 7, 8])
  (.seq (.reg [
  ⟨some 40, .mov, [.tmp 7], none, [], none⟩,
  ⟨some 41, (.call 48), [.tmp 40, .func 49], none, [], none⟩,
  ⟨some 7, .mov, [.tmp 41], none, [], none⟩] false [0, 1, 4, 5, 6, 7, 8])
  (.seq (.reg [
  ⟨some 43, .mov, [.tmp 7], none, [], none⟩,
  ⟨some 44, (.call 15), [.tmp 43], none, [], none⟩,
  ⟨some 42, .mov, [.tmp 44], none, [], none⟩,
  ⟨some 45, (.ext 0), [.tmp 42], none, [], none⟩,
  ⟨some 46, (.ext 1), [.tmp 42], none, [], none⟩,
  ⟨some 8, .mov, [.tmp 45], none, [], none⟩,
  ⟨some 9, .mov, [.tmp 46], none, [], none⟩] false [0, 1, 4, 5, 6, 7, 8])
  (.seq (.reg [
  ⟨some 47, .mov, [.tmp 8], none, [], none⟩,
  ⟨some 4, .mov, [.tmp 47], none, [], none⟩] false [0, 1, 4, 5, 6, 7, 8])
  (.ret))))))))
def keep23 : List Nat := [0, 1, 4, 5, 6, 7, 8]
theorem fn23 : compFn Try.prog 23 keep23 = some ⟨48, 2, [(4, none)], body23⟩ := by kernel_rfl

/- chartroom/chartroomref05.Diff -/
def body24 : AC :=
  .seq (.reg [
  ⟨some 4, (.nilS 61), [], none, [], none⟩] false [0, 1, 4, 5, 6, 7, 8, 28, 61, 65, 76, 93, 105])
  (.seq (.reg [
  ⟨some 5, .mov, [.const (.int .i64 0)], none, [], none⟩] false [0, 1, 4, 5, 6, 7, 8, 28, 61, 65, 76, 93, 105])
  (.seq (.block 0 (.loop (.seq (.seq (.reg [
   ⟨some 10, .mov, [.tmp 5], none, [], none⟩,
   ⟨some 11, .mov, [.tmp 0], none, [], none⟩,
   ⟨some 12, .slen, [.tmp 11], none, [], none⟩,
   ⟨some 13, (.bin .lss), [.tmp 10, .tmp 12], none, [], none⟩,
   ⟨some 14, .mov, [.tmp 13], none, [], none⟩,
   ⟨some 15, .mov, [.tmp 5], some (14, true), [], none⟩,
   ⟨some 16, .mov, [.tmp 1], some (14, true), [], none⟩,
   ⟨some 17, .slen, [.tmp 16], some (14, true), [], none⟩,
   ⟨some 18, (.bin .lss), [.tmp 15, .tmp 17], some (14, true), [], none⟩,
   ⟨some 19, .pick, [.tmp 14, .tmp 18, .const (.bool false)], none, [], none⟩,
   ⟨some 20, .mov, [.tmp 19], none, [], none⟩,
   ⟨some 21, .mov, [.tmp 0], some (20, true), [], none⟩,
   ⟨some 22, .mov, [.tmp 5], some (20, true), [], none⟩,
   ⟨some 23, .sidx, [.tmp 21, .tmp 22], some (20, true), [], none⟩,
   ⟨some 24, .mov, [.tmp 1], some (20, true), [], none⟩,
   ⟨some 25, .mov, [.tmp 5], some (20, true), [], none⟩,
   ⟨some 26, .sidx, [.tmp 24, .tmp 25], some (20, true), [], none⟩,
   ⟨some 27, (.bin .eql), [.tmp 23, .tmp 26], some (20, true), [], none⟩,
   ⟨some 28, .pick, [.tmp 20, .tmp 27, .const (.bool false)], none, [], none⟩] true [0, 1, 4, 5, 6, 7, 8, 28, 61, 65, 76, 93, 105])
   (.cond (.tmp 28) (.skip) (.exit 0)))
   (.block 1 (.reg [
   ⟨some 29, .mov, [.tmp 5], none, [], none⟩,
   ⟨some 30, (.bin .add), [.tmp 29, .const (.int .i64 1)], none, [], none⟩,
   ⟨some 5, .mov, [.tmp 30], none, [], none⟩] false [0, 1, 4, 5, 6, 7, 8, 28, 61, 65, 76, 93, 105])))))
  (.seq (.reg [
  ⟨some 6, .mov, [.const (.int .i64 0)], none, [], none⟩] false [0, 1, 4, 5, 6, 7, 8, 28, 61, 65, 76, 93, 105])
  (.seq (.block 2 (.loop (.seq (.seq (.reg (
   ⟨some 31, .mov, [.tmp 6], none, [], none⟩ ::
   ⟨some 32, .mov, [.tmp 0], none, [], none⟩ ::
   ⟨some 33, .slen, [.tmp 32], none, [], none⟩ ::
   ⟨some 34, .mov, [.tmp 5], none, [], none⟩ ::
   ⟨some 35, (.bin .sub), [.tmp 33, .tmp 34], none, [], none⟩ ::
   ⟨some 36, (.bin .lss), [.tmp 31, .tmp 35], none, [], none⟩ ::
   ⟨some 37, .mov, [.tmp 36], none, [], none⟩ ::
   ⟨some 38, .mov, [.tmp 6], some (37, true), [], none⟩ ::
   ⟨some 39, .mov, [.tmp 1], some (37, true), [], none⟩ ::
   ⟨some 40, .slen, [.tmp 39], some (37, true), [], none⟩ ::
   ⟨some 41, .mov, [.tmp 5], some (37, true), [], none⟩ ::
   ⟨some 42, (.bin .sub), [.tmp 40, .tmp 41], some (37, true), [], none⟩ ::
   ⟨some 43, (.bin .lss), [.tmp 38, .tmp 42], some (37, true), [], none⟩ ::
   ⟨some 44, .pick, [.tmp 37, .tmp 43, .const (.bool false)], none, [], none⟩ ::
   ⟨some 45, .mov, [.tmp 44], none, [], none⟩ ::
   ⟨some 46, .mov, [.tmp 0], some (45, true), [], none⟩ ::
   ⟨some 47, .mov, [.tmp 0], some (45, true), [], none⟩ ::
   ⟨some 48, .slen, [.tmp 47], some (45, true), [], none⟩ ::
   ⟨some 49, (.bin .sub), [.tmp 48, .const (.int .i64 1)], some (45, true), [], none⟩ ::
   ⟨some 50, .mov, [.tmp 6], some (45, true), [], none⟩ ::
   ⟨some 51, (.bin .sub), [.tmp 49, .tmp 50], some (45, true), [], none⟩ ::
   ⟨some 52, .sidx, [.tmp 46, .tmp 51], some (45, true), [], none⟩ ::
   ⟨some 53, .mov, [.tmp 1], some (45, true), [], none⟩ ::
   ⟨some 54, .mov, [.tmp 1], some (45, true), [], none⟩ ::
   ⟨some 55, .slen, [.tmp 54], some (45, true), [], none⟩ ::
   ⟨some 56, (.bin .sub), [.tmp 55, .const (.int .i64 1)], some (45, true), [], none⟩ ::
   ⟨some 57, .mov, [.tmp 6], some (45, true), [], none⟩ ::
   ⟨some 58, (.bin .sub), [.tmp 56, .tmp 57], some (45, true), [], none⟩ ::
   ⟨some 59, .sidx, [.tmp 53, .tmp 58], some (45, true), [], none⟩ ::
   ⟨some 60, (.bin .eql), [.tmp 52, .tmp 59], some (45, true), [], none⟩ ::
   ⟨some 61, .pick, [.tmp 45, .tmp 60, .const (.bool false)], none, [], none⟩ :: []) true [0, 1, 4, 5, 6, 7, 8, 28, 61, 65, 76, 93, 105])
   (.cond (.tmp 61) (.skip) (.exit 2)))
   (.block 3 (.reg [
   ⟨some 62, .mov, [.tmp 6], none, [], none⟩,
   ⟨some 63, (.bin .add), [.tmp 62, .const (.int .i64 1)], none, [], none⟩,
   ⟨some 6, .mov, [.tmp 63], none, [], none⟩] false [0, 1, 4, 5, 6, 7, 8, 28, 61, 65, 76, 93, 105])))))
  (.seq (.reg [
  ⟨some 7, (.nilS 61), [], none, [], none⟩] false [0, 1, 4, 5, 6, 7, 8, 28, 61, 65, 76, 93, 105])
  (.seq (.seq (.reg [
  ⟨some 64, .mov, [.tmp 5], none, [], none⟩,
  ⟨some 65, (.bin .gtr), [.tmp 64, .const (.int .i64 0)], none, [], none⟩] false [0, 1, 4, 5, 6, 7, 8, 28, 61, 65, 76, 93, 105])
  (.cond (.tmp 65) (.reg [
  ⟨some 66, .mov, [.tmp 7], none, [], none⟩,
  ⟨some 67, .mov, [.tmp 5], none, [], none⟩,
  ⟨some 68, (.bld [(.int .u8 0), (.int .i64 0), (.string ⟨#[]⟩)] [(0, 1), (1, 1), (2, 1)]), [.const (.int .u8 1), .tmp 67, .const (.string ⟨#[]⟩)], none, [], none⟩,
  ⟨some 69, (.bsl 61 3), [.tmp 68], none, [], none⟩,
  ⟨some 70, (.app 61 3 32), [.tmp 66, .tmp 69], none, [], none⟩,
  ⟨some 7, .mov, [.tmp 70], none, [], none⟩] false [0, 1, 4, 5, 6, 7, 8, 28, 61, 65, 76, 93, 105]) (.skip)))
  (.seq (.seq (.reg [
  ⟨some 71, .mov, [.tmp 1], none, [], none⟩,
  ⟨some 72, .slen, [.tmp 71], none, [], none⟩,
  ⟨some 73, .mov, [.tmp 5], none, [], none⟩,
  ⟨some 74, .mov, [.tmp 6], none, [], none⟩,
  ⟨some 75, (.bin .add), [.tmp 73, .tmp 74], none, [], none⟩,
  ⟨some 76, (.bin .gtr), [.tmp 72, .tmp 75], none, [], none⟩] false [0, 1, 4, 5, 6, 7, 8, 28, 61, 65, 76, 93, 105])
  (.cond (.tmp 76) (.reg [
  ⟨some 77, .mov, [.tmp 7], none, [], none⟩,
  ⟨some 78, .mov, [.tmp 1], none, [], none⟩,
  ⟨some 79, .mov, [.tmp 5], none, [], none⟩,
  ⟨some 80, .mov, [.tmp 1], none, [], none⟩,
  ⟨some 81, .slen, [.tmp 80], none, [], none⟩,
  ⟨some 82, .mov, [.tmp 6], none, [], none⟩,
  ⟨some 83, (.bin .sub), [.tmp 81, .tmp 82], none, [], none⟩,
  ⟨some 84, (.ssl true true), [.tmp 78, .tmp 79, .tmp 83], none, [], none⟩,
  ⟨some 85, (.bld [(.int .u8 0), (.int .i64 0), (.string ⟨#[]⟩)] [(0, 1), (1, 1), (2, 1)]), [.const (.int .u8 2), .const (.int .i64 0), .tmp 84], none, [], none⟩,
  ⟨some 86, (.bsl 61 3), [.tmp 85], none, [], none⟩,
  ⟨some 87, (.app 61 3 32), [.tmp 77, .tmp 86], none, [], none⟩,
  ⟨some 7, .mov, [.tmp 87], none, [], none⟩] false [0, 1, 4, 5, 6, 7, 8, 28, 61, 65, 76, 93, 105]) (.skip)))
  (.seq (.seq (.reg [
  ⟨some 88, .mov, [.tmp 0], none, [], none⟩,
  ⟨some 89, .slen, [.tmp 88], none, [], none⟩,
  ⟨some 90, .mov, [.tmp 5], none, [], none⟩,
  ⟨some 91, .mov, [.tmp 6], none, [], none⟩,
  ⟨some 92, (.bin .add), [.tmp 90, .tmp 91], none, [], none⟩,
  ⟨some 93, (.bin .gtr), [.tmp 89, .tmp 92], none, [], none⟩] false [0, 1, 4, 5, 6, 7, 8, 28, 61, 65, 76, 93, 105])
  (.cond (.tmp 93) (.reg [
  ⟨some 94, .mov, [.tmp 7], none, [], none⟩,
  ⟨some 95, .mov, [.tmp 0], none, [], none⟩,
  ⟨some 96, .slen, [.tmp 95], none, [], none⟩,
  ⟨some 97, .mov, [.tmp 5], none, [], none⟩,
  ⟨some 98, (.bin .sub), [.tmp 96, .tmp 97], none, [], none⟩,
  ⟨some 99, .mov, [.tmp 6], none, [], none⟩,
  ⟨some 100, (.bin .sub), [.tmp 98, .tmp 99], none, [], none⟩,
  ⟨some 101, (.bld [(.int .u8 0), (.int .i64 0), (.string ⟨#[]⟩)] [(0, 1), (1, 1), (2, 1)]), [.const (.int .u8 3), .tmp 100, .const (.string ⟨#[]⟩)], none, [], none⟩,
  ⟨some 102, (.bsl 61 3), [.tmp 101], none, [], none⟩,
  ⟨some 103, (.app 61 3 32), [.tmp 94, .tmp 102], none, [], none⟩,
  ⟨some 7, .mov, [.tmp 103], none, [], none⟩] false [0, 1, 4, 5, 6, 7, 8, 28, 61, 65, 76, 93, 105]) (.skip)))
  (.seq (.seq (.reg [
  ⟨some 104, .mov, [.tmp 6], none, [], none⟩,
  ⟨some 105, (.bin .gtr), [.tmp 104, .const (.int .i64 0)], none, [], none⟩] false [0, 1, 4, 5, 6, 7, 8, 28, 61, 65, 76, 93, 105])
  (.cond (.tmp 105) (.reg [
  ⟨some 106, .mov, [.tmp 7], none, [], none⟩,
  ⟨some 107, .mov, [.tmp 6], none, [], none⟩,
  ⟨some 108, (.bld [(.int .u8 0), (.int .i64 0), (.string ⟨#[]⟩)] [(0, 1), (1, 1), (2, 1)]), [.const (.int .u8 1), .tmp 107, .const (.string ⟨#[]⟩)], none, [], none⟩,
  ⟨some 109, (.bsl 61 3), [.tmp 108], none, [], none⟩,
  ⟨some 110, (.app 61 3 32), [.tmp 106, .tmp 109], none, [], none⟩,
  ⟨some 7, .mov, [.tmp 110], none, [], none⟩] false [0, 1, 4, 5, 6, 7, 8, 28, 61, 65, 76, 93, 105]) (.skip)))
  (.seq (.reg [
  ⟨some 112, .mov, [.tmp 7], none, [], none⟩,
  ⟨some 113, (.call 16), [.tmp 112], none, [], none⟩,
  ⟨some 111, .mov, [.tmp 113], none, [], none⟩,
  ⟨some 114, (.ext 0), [.tmp 111], none, [], none⟩,
  ⟨some 115, (.ext 1), [.tmp 111], none, [], none⟩,
  ⟨some 8, .mov, [.tmp 114], none, [], none⟩,
  ⟨some 9, .mov, [.tmp 115], none, [], none⟩] false [0, 1, 4, 5, 6, 7, 8, 28, 61, 65, 76, 93, 105])
  (.seq (.reg [
  ⟨some 116, .mov, [.tmp 8], none, [], none⟩,
  ⟨some 4, .mov, [.tmp 116], none, [], none⟩] false [0, 1, 4, 5, 6, 7, 8, 28, 61, 65, 76, 93, 105])
  (.ret))))))))))))
def keep24 : List Nat := [0, 1, 4, 5, 6, 7, 8, 28, 61, 65, 76, 93, 105]
theorem fn24 : compFn Try.prog 24 keep24 = some ⟨117, 2, [(4, none)], body24⟩ := by kernel_rfl

/- chartroom/chartroomkit.Own -/
def body25 : AC :=
  .seq (.reg [
  ⟨some 2, (.nilS 5), [], none, [], none⟩] false [0, 2, 3])
  (.seq (.reg [
  ⟨some 3, (.nilS 5), [], none, [], none⟩] false [0, 2, 3])
  (.seq (.reg [
  ⟨some 4, .mov, [.tmp 3], none, [], none⟩,
  ⟨some 5, .mov, [.tmp 0], none, [], none⟩,
  ⟨some 6, (.app 5 1 1), [.tmp 4, .tmp 5], none, [], none⟩,
  ⟨some 2, .mov, [.tmp 6], none, [], none⟩] false [0, 2, 3])
  (.ret)))
def keep25 : List Nat := [0, 2, 3]
theorem fn25 : compFn Try.prog 25 keep25 = some ⟨7, 1, [(2, none)], body25⟩ := by kernel_rfl

/- chartroom/delta.Parse -/
def body26 : AC :=
  .seq (.reg [
  ⟨some 2, (.nilS 47), [], none, [], none⟩,
  ⟨some 3, .mov, [.const (.int .i64 0)], none, [], none⟩] false [0, 2, 3, 4, 5, 6, 7, 8, 12, 21])
  (.seq (.reg [
  ⟨some 4, (.nilS 47), [], none, [], none⟩] false [0, 2, 3, 4, 5, 6, 7, 8, 12, 21])
  (.seq (.seq (.reg [
  ⟨some 5, .mov, [.const (.int .i64 0)], none, [], none⟩] false [0, 2, 3, 4, 5, 6, 7, 8, 12, 21])
  (.block 0 (.loop (.seq (.seq (.reg [
   ⟨some 9, .mov, [.tmp 5], none, [], none⟩,
   ⟨some 10, .mov, [.tmp 0], none, [], none⟩,
   ⟨some 11, .len, [.tmp 10], none, [], none⟩,
   ⟨some 12, (.bin .lss), [.tmp 9, .tmp 11], none, [], none⟩] false [0, 2, 3, 4, 5, 6, 7, 8, 12, 21])
   (.cond (.tmp 12) (.skip) (.exit 0)))
   (.block 1 (.seq (.reg [
   ⟨some 14, .mov, [.tmp 0], none, [], none⟩,
   ⟨some 15, .mov, [.tmp 5], none, [], none⟩,
   ⟨some 16, (.call 50), [.tmp 14, .tmp 15], none, [], none⟩,
   ⟨some 13, .mov, [.tmp 16], none, [], none⟩,
   ⟨some 17, (.ext 0), [.tmp 13], none, [], none⟩,
   ⟨some 18, (.ext 1), [.tmp 13], none, [], none⟩,
   ⟨some 19, (.ext 2), [.tmp 13], none, [], none⟩,
   ⟨some 6, (.alloc [(.int .u8 0), (.int .i64 0), (.string ⟨#[]⟩)]), [], none, [], none⟩,
   ⟨none, (.store (some 3)), [.tmp 6, .tmp 17], none, [], none⟩,
   ⟨some 7, .mov, [.tmp 18], none, [], none⟩,
   ⟨some 8, .mov, [.tmp 19], none, [], none⟩] false [0, 2, 3, 4, 5, 6, 7, 8, 12, 21])
   (.seq (.seq (.reg [
   ⟨some 20, .mov, [.tmp 8], none, [], none⟩,
   ⟨some 21, (.bin .neq), [.tmp 20, .const (.int .i64 0)], none, [], none⟩] false [0, 2, 3, 4, 5, 6, 7, 8, 12, 21])
   (.cond (.tmp 21) (.seq (.reg [
   ⟨some 22, .mov, [.tmp 8], none, [], none⟩,
   ⟨some 2, (.nilS 47), [], none, [], none⟩,
   ⟨some 3, .mov, [.tmp 22], none, [], none⟩] false [0, 2, 3, 4, 5, 6, 7, 8, 12, 21])
   (.ret)) (.skip)))
   (.reg [
   ⟨some 23, .mov, [.tmp 4], none, [], none⟩,
   ⟨some 24, (.load (some 3)), [.tmp 6], none, [], none⟩,
   ⟨some 25, (.bsl 47 3), [.tmp 24], none, [], none⟩,
   ⟨some 26, (.app 47 3 32), [.tmp 23, .tmp 25], none, [], none⟩,
   ⟨some 27, .mov, [.tmp 7], none, [], none⟩,
   ⟨some 4, .mov, [.tmp 26], none, [], none⟩,
   ⟨some 5, .mov, [.tmp 27], none, [], none⟩] false [0, 2, 3, 4, 5, 6, 7, 8, 12, 21]))))))))
  (.seq (.reg [
  ⟨some 28, .mov, [.tmp 4], none, [], none⟩,
  ⟨some 2, .mov, [.tmp 28], none, [], none⟩,
  ⟨some 3, .mov, [.const (.int .i64 0)], none, [], none⟩] false [0, 2, 3, 4, 5, 6, 7, 8, 12, 21])
  (.ret))))
def keep26 : List Nat := [0, 2, 3, 4, 5, 6, 7, 8, 12, 21]
theorem fn26 : compFn Try.prog 26 keep26 = some ⟨29, 1, [(2, none), (3, none)], body26⟩ := by kernel_rfl

/- chartroom/chartroomref05.Parse -/
def body27 : AC :=
  .seq (.reg [
  ⟨some 2, (.nilS 61), [], none, [], none⟩,
  ⟨some 3, .mov, [.const (.int .i64 0)], none, [], none⟩] false [0, 2, 3, 4, 5, 6, 7, 8, 9, 13, 26, 37, 52, 56])
  (.seq (.reg [
  ⟨some 4, (.nilS 61), [], none, [], none⟩] false [0, 2, 3, 4, 5, 6, 7, 8, 9, 13, 26, 37, 52, 56])
  (.seq (.seq (.reg [
  ⟨some 5, .mov, [.const (.int .i64 0)], none, [], none⟩] false [0, 2, 3, 4, 5, 6, 7, 8, 9, 13, 26, 37, 52, 56])
  (.block 0 (.loop (.seq (.seq (.reg [
   ⟨some 10, .mov, [.tmp 5], none, [], none⟩,
   ⟨some 11, .mov, [.tmp 0], none, [], none⟩,
   ⟨some 12, .len, [.tmp 11], none, [], none⟩,
   ⟨some 13, (.bin .lss), [.tmp 10, .tmp 12], none, [], none⟩] false [0, 2, 3, 4, 5, 6, 7, 8, 9, 13, 26, 37, 52, 56])
   (.cond (.tmp 13) (.skip) (.exit 0)))
   (.block 1 (.seq (.reg [
   ⟨some 14, .mov, [.tmp 0], none, [], none⟩,
   ⟨some 15, .mov, [.tmp 5], none, [], none⟩,
   ⟨some 16, (.ixa 5 1), [.tmp 14, .tmp 15], none, [], none⟩,
   ⟨some 17, (.load none), [.tmp 16], none, [], none⟩,
   ⟨some 18, (.bld [(.int .u8 0), (.int .i64 0), (.string ⟨#[]⟩)] [(0, 1)]), [.tmp 17], none, [], none⟩,
   ⟨some 6, (.alloc [(.int .u8 0), (.int .i64 0), (.string ⟨#[]⟩)]), [], none, [], none⟩,
   ⟨none, (.store (some 3)), [.tmp 6, .tmp 18], none, [], none⟩] false [0, 2, 3, 4, 5, 6, 7, 8, 9, 13, 26, 37, 52, 56])
   (.seq (.seq (.reg [
   ⟨some 19, (.fad 0), [.tmp 6], none, [], none⟩,
   ⟨some 20, (.load none), [.tmp 19], none, [], none⟩,
   ⟨some 21, (.bin .lss), [.tmp 20, .const (.int .u8 1)], none, [], none⟩,
   ⟨some 22, .mov, [.tmp 21], none, [], none⟩,
   ⟨some 23, (.fad 0), [.tmp 6], some (22, false), [], none⟩,
   ⟨some 24, (.load none), [.tmp 23], some (22, false), [], none⟩,
   ⟨some 25, (.bin .gtr), [.tmp 24, .const (.int .u8 3)], some (22, false), [], none⟩,
   ⟨some 26, .pick, [.tmp 22, .const (.bool true), .tmp 25], none, [], none⟩] false [0, 2, 3, 4, 5, 6, 7, 8, 9, 13, 26, 37, 52, 56])
   (.cond (.tmp 26) (.seq (.reg [
   ⟨some 2, (.nilS 61), [], none, [], none⟩,
   ⟨some 3, .mov, [.const (.int .i64 60)], none, [], none⟩] false [0, 2, 3, 4, 5, 6, 7, 8, 9, 13, 26, 37, 52, 56])
   (.ret)) (.skip)))
   (.seq (.reg [
   ⟨some 28, .mov, [.tmp 0], none, [], none⟩,
   ⟨some 29, .mov, [.tmp 5], none, [], none⟩,
   ⟨some 30, (.bin .add), [.tmp 29, .const (.int .i64 1)], none, [], none⟩,
   ⟨some 31, (.call 51), [.tmp 28, .tmp 30], none, [], none⟩,
   ⟨some 27, .mov, [.tmp 31], none, [], none⟩,
   ⟨some 32, (.ext 0), [.tmp 27], none, [], none⟩,
   ⟨some 33, (.ext 1), [.tmp 27], none, [], none⟩,
   ⟨some 34, (.ext 2), [.tmp 27], none, [], none⟩,
   ⟨some 7, .mov, [.tmp 32], none, [], none⟩,
   ⟨some 8, .mov, [.tmp 33], none, [], none⟩,
   ⟨some 9, .mov, [.tmp 34], none, [], none⟩] false [0, 2, 3, 4, 5, 6, 7, 8, 9, 13, 26, 37, 52, 56])
   (.seq (.seq (.reg [
   ⟨some 35, (.fad 0), [.tmp 6], none, [], none⟩,
   ⟨some 36, (.load none), [.tmp 35], none, [], none⟩,
   ⟨some 37, (.bin .eql), [.tmp 36, .const (.int .u8 2)], none, [], none⟩] false [0, 2, 3, 4, 5, 6, 7, 8, 9, 13, 26, 37, 52, 56])
   (.cond (.tmp 37) (.reg [
   ⟨some 39, .mov, [.tmp 0], none, [], none⟩,
   ⟨some 40, .mov, [.tmp 5], none, [], none⟩,
   ⟨some 41, (.bin .add), [.tmp 40, .const (.int .i64 1)], none, [], none⟩,
   ⟨some 42, (.call 52), [.tmp 39, .tmp 41], none, [], none⟩,
   ⟨some 38, .mov, [.tmp 42], none, [], none⟩,
   ⟨some 43, (.ext 0), [.tmp 38], none, [], none⟩,
   ⟨some 44, (.ext 1), [.tmp 38], none, [], none⟩,
   ⟨some 45, (.ext 2), [.tmp 38], none, [], none⟩,
   ⟨some 46, (.fad 2), [.tmp 6], none, [], none⟩,
   ⟨none, (.store none), [.tmp 46, .tmp 43], none, [], none⟩,
   ⟨some 8, .mov, [.tmp 44], none, [], none⟩,
   ⟨some 9, .mov, [.tmp 45], none, [], none⟩] false [0, 2, 3, 4, 5, 6, 7, 8, 9, 13, 26, 37, 52, 56]) (.reg [
   ⟨some 47, .mov, [.tmp 7], none, [], none⟩,
   ⟨some 48, (.mnx false), [.tmp 47, .const (.int .u64 2147483648)], none, [], none⟩,
   ⟨some 49, (.cvi .i64), [.tmp 48], none, [], none⟩,
   ⟨some 50, (.fad 1), [.tmp 6], none, [], none⟩,
   ⟨none, (.store none), [.tmp 50, .tmp 49], none, [], none⟩] false [0, 2, 3, 4, 5, 6, 7, 8, 9, 13, 26, 37, 52, 56])))
   (.seq (.seq (.reg [
   ⟨some 51, .mov, [.tmp 9], none, [], none⟩,
   ⟨some 52, (.bin .neq), [.tmp 51, .const (.int .i64 0)], none, [], none⟩] false [0, 2, 3, 4, 5, 6, 7, 8, 9, 13, 26, 37, 52, 56])
   (.cond (.tmp 52) (.seq (.reg [
   ⟨some 53, .mov, [.tmp 9], none, [], none⟩,
   ⟨some 2, (.nilS 61), [], none, [], none⟩,
   ⟨some 3, .mov, [.tmp 53], none, [], none⟩] false [0, 2, 3, 4, 5, 6, 7, 8, 9, 13, 26, 37, 52, 56])
   (.ret)) (.skip)))
   (.seq (.seq (.reg [
   ⟨some 54, (.load (some 3)), [.tmp 6], none, [], none⟩,
   ⟨some 55, (.call 35), [.tmp 54], none, [], none⟩,
   ⟨some 56, .not, [.tmp 55], none, [], none⟩] false [0, 2, 3, 4, 5, 6, 7, 8, 9, 13, 26, 37, 52, 56])
   (.cond (.tmp 56) (.seq (.reg [
   ⟨some 2, (.nilS 61), [], none, [], none⟩,
   ⟨some 3, .mov, [.const (.int .i64 2)], none, [], none⟩] false [0, 2, 3, 4, 5, 6, 7, 8, 9, 13, 26, 37, 52, 56])
   (.ret)) (.skip)))
   (.seq (.reg [
   ⟨some 57, .mov, [.tmp 4], none, [], none⟩,
   ⟨some 58, (.load (some 3)), [.tmp 6], none, [], none⟩,
   ⟨some 59, (.bsl 61 3), [.tmp 58], none, [], none⟩,
   ⟨some 60, (.app 61 3 32), [.tmp 57, .tmp 59], none, [], none⟩,
   ⟨some 4, .mov, [.tmp 60], none, [], none⟩] false [0, 2, 3, 4, 5, 6, 7, 8, 9, 13, 26, 37, 52, 56])
   (.reg [
   ⟨some 61, .mov, [.tmp 8], none, [], none⟩,
   ⟨some 5, .mov, [.tmp 61], none, [], none⟩] false [0, 2, 3, 4, 5, 6, 7, 8, 9, 13, 26, 37, 52, 56])))))))))))))
  (.seq (.reg [
  ⟨some 62, .mov, [.tmp 4], none, [], none⟩,
  ⟨some 2, .mov, [.tmp 62], none, [], none⟩,
  ⟨some 3, .mov, [.const (.int .i64 0)], none, [], none⟩] false [0, 2, 3, 4, 5, 6, 7, 8, 9, 13, 26, 37, 52, 56])
  (.ret))))
def keep27 : List Nat := [0, 2, 3, 4, 5, 6, 7, 8, 9, 13, 26, 37, 52, 56]
theorem fn27 : compFn Try.prog 27 keep27 = some ⟨63, 1, [(2, none), (3, none)], body27⟩ := by kernel_rfl

/- chartroom/chartroomlaw05.retain -/
def body28 : AC :=
  .seq (.reg [
  ⟨some 2, (.alloc [(.int .u8 0), (.int .i64 0), (.string ⟨#[]⟩)]), [], none, [], none⟩] false [0, 2])
  (.seq (.reg [
  ⟨some 3, .mov, [.tmp 0], none, [], none⟩,
  ⟨some 4, (.bld [(.int .u8 0), (.int .i64 0), (.string ⟨#[]⟩)] [(0, 1), (1, 1)]), [.const (.int .u8 1), .tmp 3], none, [], none⟩,
  ⟨none, (.store (some 3)), [.tmp 2, .tmp 4], none, [], none⟩] false [0, 2])
  (.ret))
def keep28 : List Nat := [0, 2]
theorem fn28 : compFn Try.prog 28 keep28 = some ⟨5, 1, [(2, some (some 3))], body28⟩ := by kernel_rfl

/- chartroom/chartroomlaw05.insert -/
def body29 : AC :=
  .seq (.reg [
  ⟨some 2, (.alloc [(.int .u8 0), (.int .i64 0), (.string ⟨#[]⟩)]), [], none, [], none⟩] false [0, 2])
  (.seq (.reg [
  ⟨some 3, .mov, [.tmp 0], none, [], none⟩,
  ⟨some 4, (.bld [(.int .u8 0), (.int .i64 0), (.string ⟨#[]⟩)] [(0, 1), (2, 1)]), [.const (.int .u8 2), .tmp 3], none, [], none⟩,
  ⟨none, (.store (some 3)), [.tmp 2, .tmp 4], none, [], none⟩] false [0, 2])
  (.ret))
def keep29 : List Nat := [0, 2]
theorem fn29 : compFn Try.prog 29 keep29 = some ⟨5, 1, [(2, some (some 3))], body29⟩ := by kernel_rfl

/- chartroom/chartroomlaw05.drop -/
def body30 : AC :=
  .seq (.reg [
  ⟨some 2, (.alloc [(.int .u8 0), (.int .i64 0), (.string ⟨#[]⟩)]), [], none, [], none⟩] false [0, 2])
  (.seq (.reg [
  ⟨some 3, .mov, [.tmp 0], none, [], none⟩,
  ⟨some 4, (.bld [(.int .u8 0), (.int .i64 0), (.string ⟨#[]⟩)] [(0, 1), (1, 1)]), [.const (.int .u8 3), .tmp 3], none, [], none⟩,
  ⟨none, (.store (some 3)), [.tmp 2, .tmp 4], none, [], none⟩] false [0, 2])
  (.ret))
def keep30 : List Nat := [0, 2]
theorem fn30 : compFn Try.prog 30 keep30 = some ⟨5, 1, [(2, some (some 3))], body30⟩ := by kernel_rfl

/- (chartroom/delta.Edit).sizes -/
def body31 : AC :=
  .seq (.reg [
  ⟨some 1, .box, [.tmp 0], none, [], none⟩,
  ⟨some 2, .mov, [.const (.int .i64 0)], none, [], none⟩,
  ⟨some 3, .mov, [.const (.int .i64 0)], none, [], none⟩] false [0, 1, 2, 3, 4, 8, 15])
  (.seq (.block 0 (.seq (.reg [
  ⟨some 5, (.load (some 3)), [.tmp 1], none, [], none⟩,
  ⟨some 6, (.call 32), [.tmp 5], none, [], none⟩,
  ⟨some 7, .not, [.tmp 6], none, [], none⟩,
  ⟨some 4, .mov, [.tmp 7], none, [], none⟩] false [0, 1, 2, 3, 4, 8, 15])
  (.cond (.tmp 4) (.seq (.reg [
  ⟨some 2, .mov, [.const (.int .i64 0)], none, [], none⟩,
  ⟨some 3, .mov, [.const (.int .i64 0)], none, [], none⟩] false [0, 1, 2, 3, 4, 8, 15])
  (.ret)) (.seq (.reg [
  ⟨some 9, (.fad 0), [.tmp 1], none, [], none⟩,
  ⟨some 10, (.load none), [.tmp 9], none, [], none⟩,
  ⟨some 11, (.bin .eql), [.tmp 10, .const (.int .u8 2)], none, [], none⟩,
  ⟨some 8, .mov, [.tmp 11], none, [], none⟩] false [0, 1, 2, 3, 4, 8, 15])
  (.cond (.tmp 8) (.seq (.reg [
  ⟨some 12, (.fad 2), [.tmp 1], none, [], none⟩,
  ⟨some 13, (.load none), [.tmp 12], none, [], none⟩,
  ⟨some 14, .slen, [.tmp 13], none, [], none⟩,
  ⟨some 2, .mov, [.const (.int .i64 0)], none, [], none⟩,
  ⟨some 3, .mov, [.tmp 14], none, [], none⟩] true [0, 1, 2, 3, 4, 8, 15])
  (.ret)) (.seq (.reg [
  ⟨some 16, (.fad 0), [.tmp 1], none, [], none⟩,
  ⟨some 17, (.load none), [.tmp 16], none, [], none⟩,
  ⟨some 18, (.bin .eql), [.tmp 17, .const (.int .u8 3)], none, [], none⟩,
  ⟨some 15, .mov, [.tmp 18], none, [], none⟩] false [0, 1, 2, 3, 4, 8, 15])
  (.cond (.tmp 15) (.seq (.reg [
  ⟨some 19, (.fad 1), [.tmp 1], none, [], none⟩,
  ⟨some 20, (.load none), [.tmp 19], none, [], none⟩,
  ⟨some 2, .mov, [.tmp 20], none, [], none⟩,
  ⟨some 3, .mov, [.const (.int .i64 0)], none, [], none⟩] false [0, 1, 2, 3, 4, 8, 15])
  (.ret)) (.skip))))))))
  (.seq (.reg [
  ⟨some 21, (.fad 1), [.tmp 1], none, [], none⟩,
  ⟨some 22, (.load none), [.tmp 21], none, [], none⟩,
  ⟨some 23, (.fad 1), [.tmp 1], none, [], none⟩,
  ⟨some 24, (.load none), [.tmp 23], none, [], none⟩,
  ⟨some 2, .mov, [.tmp 22], none, [], none⟩,
  ⟨some 3, .mov, [.tmp 24], none, [], none⟩] true [0, 1, 2, 3, 4, 8, 15])
  (.ret)))
def keep31 : List Nat := [0, 1, 2, 3, 4, 8, 15]
theorem fn31 : compFn Try.prog 31 keep31 = some ⟨25, 1, [(2, none), (3, none)], body31⟩ := by kernel_rfl

/- (chartroom/delta.Edit).right -/
def body32 : AC :=
  .seq (.reg [
  ⟨some 1, .box, [.tmp 0], none, [], none⟩,
  ⟨some 2, .mov, [.const (.bool false)], none, [], none⟩] false [0, 1, 2, 4, 5, 21])
  (.seq (.seq (.reg [
  ⟨some 3, (.fad 0), [.tmp 1], none, [], none⟩,
  ⟨some 4, (.load none), [.tmp 3], none, [], none⟩] false [0, 1, 2, 4, 5, 21])
  (.block 0 (.seq (.seq (.reg [
  ⟨some 6, (.bin .eql), [.tmp 4, .const (.int .u8 1)], none, [], none⟩,
  ⟨some 5, .mov, [.tmp 6], none, [], none⟩] false [0, 1, 2, 4, 5, 21])
  (.cond (.tmp 5) (.skip) (.reg [
  ⟨some 7, (.bin .eql), [.tmp 4, .const (.int .u8 3)], none, [], none⟩,
  ⟨some 5, .mov, [.tmp 7], none, [], none⟩] false [0, 1, 2, 4, 5, 21])))
  (.cond (.tmp 5) (.seq (.reg [
  ⟨some 8, (.fad 1), [.tmp 1], none, [], none⟩,
  ⟨some 9, (.load none), [.tmp 8], none, [], none⟩,
  ⟨some 10, (.bin .gtr), [.tmp 9, .const (.int .i64 0)], none, [], none⟩,
  ⟨some 11, .mov, [.tmp 10], none, [], none⟩,
  ⟨some 12, (.fad 1), [.tmp 1], some (11, true), [], none⟩,
  ⟨some 13, (.load none), [.tmp 12], some (11, true), [], none⟩,
  ⟨some 14, (.bin .leq), [.tmp 13, .const (.int .i64 2147483647)], some (11, true), [], none⟩,
  ⟨some 15, .pick, [.tmp 11, .tmp 14, .const (.bool false)], none, [], none⟩,
  ⟨some 16, .mov, [.tmp 15], none, [], none⟩,
  ⟨some 17, (.fad 2), [.tmp 1], some (16, true), [], none⟩,
  ⟨some 18, (.load none), [.tmp 17], some (16, true), [], none⟩,
  ⟨some 19, (.bin .eql), [.tmp 18, .const (.string ⟨#[]⟩)], some (16, true), [], none⟩,
  ⟨some 20, .pick, [.tmp 16, .tmp 19, .const (.bool false)], none, [], none⟩,
  ⟨some 2, .mov, [.tmp 20], none, [], none⟩] false [0, 1, 2, 4, 5, 21])
  (.ret)) (.seq (.reg [
  ⟨some 22, (.bin .eql), [.tmp 4, .const (.int .u8 2)], none, [], none⟩,
  ⟨some 21, .mov, [.tmp 22], none, [], none⟩] false [0, 1, 2, 4, 5, 21])
  (.cond (.tmp 21) (.seq (.reg [
  ⟨some 23, (.fad 1), [.tmp 1], none, [], none⟩,
  ⟨some 24, (.load none), [.tmp 23], none, [], none⟩,
  ⟨some 25, (.bin .eql), [.tmp 24, .const (.int .i64 0)], none, [], none⟩,
  ⟨some 26, .mov, [.tmp 25], none, [], none⟩,
  ⟨some 27, (.fad 2), [.tmp 1], some (26, true), [], none⟩,
  ⟨some 28, (.load none), [.tmp 27], some (26, true), [], none⟩,
  ⟨some 29, (.bin .neq), [.tmp 28, .const (.string ⟨#[]⟩)], some (26, true), [], none⟩,
  ⟨some 30, .pick, [.tmp 26, .tmp 29, .const (.bool false)], none, [], none⟩,
  ⟨some 2, .mov, [.tmp 30], none, [], none⟩] false [0, 1, 2, 4, 5, 21])
  (.ret)) (.skip)))))))
  (.seq (.reg [
  ⟨some 2, .mov, [.const (.bool false)], none, [], none⟩] false [0, 1, 2, 4, 5, 21])
  (.ret)))
def keep32 : List Nat := [0, 1, 2, 4, 5, 21]
theorem fn32 : compFn Try.prog 32 keep32 = some ⟨31, 1, [(2, none)], body32⟩ := by kernel_rfl

/- chartroom/chartroomref05.right -/
def body35 : AC :=
  .seq (.reg [
  ⟨some 1, .box, [.tmp 0], none, [], none⟩,
  ⟨some 2, .mov, [.const (.bool false)], none, [], none⟩] false [0, 1, 2, 5])
  (.seq (.seq (.reg [
  ⟨some 3, (.fad 0), [.tmp 1], none, [], none⟩,
  ⟨some 4, (.load none), [.tmp 3], none, [], none⟩,
  ⟨some 5, (.bin .eql), [.tmp 4, .const (.int .u8 2)], none, [], none⟩] false [0, 1, 2, 5])
  (.cond (.tmp 5) (.seq (.reg [
  ⟨some 6, (.fad 1), [.tmp 1], none, [], none⟩,
  ⟨some 7, (.load none), [.tmp 6], none, [], none⟩,
  ⟨some 8, (.bin .eql), [.tmp 7, .const (.int .i64 0)], none, [], none⟩,
  ⟨some 9, .mov, [.tmp 8], none, [], none⟩,
  ⟨some 10, (.fad 2), [.tmp 1], some (9, true), [], none⟩,
  ⟨some 11, (.load none), [.tmp 10], some (9, true), [], none⟩,
  ⟨some 12, .slen, [.tmp 11], some (9, true), [], none⟩,
  ⟨some 13, (.bin .gtr), [.tmp 12, .const (.int .i64 0)], some (9, true), [], none⟩,
  ⟨some 14, .pick, [.tmp 9, .tmp 13, .const (.bool false)], none, [], none⟩,
  ⟨some 2, .mov, [.tmp 14], none, [], none⟩] false [0, 1, 2, 5])
  (.ret)) (.skip)))
  (.seq (.reg [
  ⟨some 15, (.fad 0), [.tmp 1], none, [], none⟩,
  ⟨some 16, (.load none), [.tmp 15], none, [], none⟩,
  ⟨some 17, (.bin .eql), [.tmp 16, .const (.int .u8 1)], none, [], none⟩,
  ⟨some 18, .mov, [.tmp 17], none, [], none⟩,
  ⟨some 19, (.fad 0), [.tmp 1], some (18, false), [], none⟩,
  ⟨some 20, (.load none), [.tmp 19], some (18, false), [], none⟩,
  ⟨some 21, (.bin .eql), [.tmp 20, .const (.int .u8 3)], some (18, false), [], none⟩,
  ⟨some 22, .pick, [.tmp 18, .const (.bool true), .tmp 21], none, [], none⟩,
  ⟨some 23, .mov, [.tmp 22], none, [], none⟩,
  ⟨some 24, (.fad 1), [.tmp 1], some (23, true), [], none⟩,
  ⟨some 25, (.load none), [.tmp 24], some (23, true), [], none⟩,
  ⟨some 26, (.bin .geq), [.tmp 25, .const (.int .i64 1)], some (23, true), [], none⟩,
  ⟨some 27, .pick, [.tmp 23, .tmp 26, .const (.bool false)], none, [], none⟩,
  ⟨some 28, .mov, [.tmp 27], none, [], none⟩,
  ⟨some 29, (.fad 1), [.tmp 1], some (28, true), [], none⟩,
  ⟨some 30, (.load none), [.tmp 29], some (28, true), [], none⟩,
  ⟨some 31, (.bin .leq), [.tmp 30, .const (.int .i64 2147483647)], some (28, true), [], none⟩,
  ⟨some 32, .pick, [.tmp 28, .tmp 31, .const (.bool false)], none, [], none⟩,
  ⟨some 33, .mov, [.tmp 32], none, [], none⟩,
  ⟨some 34, (.fad 2), [.tmp 1], some (33, true), [], none⟩,
  ⟨some 35, (.load none), [.tmp 34], some (33, true), [], none⟩,
  ⟨some 36, .slen, [.tmp 35], some (33, true), [], none⟩,
  ⟨some 37, (.bin .eql), [.tmp 36, .const (.int .i64 0)], some (33, true), [], none⟩,
  ⟨some 38, .pick, [.tmp 33, .tmp 37, .const (.bool false)], none, [], none⟩,
  ⟨some 2, .mov, [.tmp 38], none, [], none⟩] false [0, 1, 2, 5])
  (.ret)))
def keep35 : List Nat := [0, 1, 2, 5]
theorem fn35 : compFn Try.prog 35 keep35 = some ⟨39, 1, [(2, none)], body35⟩ := by kernel_rfl

/- (chartroom/delta.run).edits -/
def body36 : AC :=
  .seq (.reg [
  ⟨some 1, .box, [.tmp 0], none, [], none⟩,
  ⟨some 2, (.nilS 47), [], none, [], none⟩] false [0, 1, 2, 5, 14])
  (.seq (.seq (.reg [
  ⟨some 3, (.fad 0), [.tmp 1], none, [], none⟩,
  ⟨some 4, (.load none), [.tmp 3], none, [], none⟩,
  ⟨some 5, (.bin .neq), [.tmp 4, .const (.string ⟨#[]⟩)], none, [], none⟩] false [0, 1, 2, 5, 14])
  (.cond (.tmp 5) (.reg [
  ⟨some 6, .mov, [.tmp 2], none, [], none⟩,
  ⟨some 7, (.fad 0), [.tmp 1], none, [], none⟩,
  ⟨some 8, (.load none), [.tmp 7], none, [], none⟩,
  ⟨some 9, (.bld [(.int .u8 0), (.int .i64 0), (.string ⟨#[]⟩)] [(0, 1), (2, 1)]), [.const (.int .u8 2), .tmp 8], none, [], none⟩,
  ⟨some 10, (.bsl 47 3), [.tmp 9], none, [], none⟩,
  ⟨some 11, (.app 47 3 32), [.tmp 6, .tmp 10], none, [], none⟩,
  ⟨some 2, .mov, [.tmp 11], none, [], none⟩] false [0, 1, 2, 5, 14]) (.skip)))
  (.seq (.seq (.reg [
  ⟨some 12, (.fad 1), [.tmp 1], none, [], none⟩,
  ⟨some 13, (.load none), [.tmp 12], none, [], none⟩,
  ⟨some 14, (.bin .gtr), [.tmp 13, .const (.int .i64 0)], none, [], none⟩] false [0, 1, 2, 5, 14])
  (.cond (.tmp 14) (.reg [
  ⟨some 15, .mov, [.tmp 2], none, [], none⟩,
  ⟨some 16, (.fad 1), [.tmp 1], none, [], none⟩,
  ⟨some 17, (.load none), [.tmp 16], none, [], none⟩,
  ⟨some 18, (.bld [(.int .u8 0), (.int .i64 0), (.string ⟨#[]⟩)] [(0, 1), (1, 1)]), [.const (.int .u8 3), .tmp 17], none, [], none⟩,
  ⟨some 19, (.bsl 47 3), [.tmp 18], none, [], none⟩,
  ⟨some 20, (.app 47 3 32), [.tmp 15, .tmp 19], none, [], none⟩,
  ⟨some 2, .mov, [.tmp 20], none, [], none⟩] false [0, 1, 2, 5, 14]) (.skip)))
  (.seq (.reg [
  ⟨some 21, .mov, [.tmp 2], none, [], none⟩,
  ⟨some 2, .mov, [.tmp 21], none, [], none⟩] false [0, 1, 2, 5, 14])
  (.ret))))
def keep36 : List Nat := [0, 1, 2, 5, 14]
theorem fn36 : compFn Try.prog 36 keep36 = some ⟨22, 1, [(2, none)], body36⟩ := by kernel_rfl

/- chartroom/chartroomref05.merge -/
def body37 : AC :=
  .seq (.reg [
  ⟨some 2, (.nilS 61), [], none, [], none⟩,
  ⟨some 3, .mov, [.const (.bool false)], none, [], none⟩] false [0, 2, 3, 4, 5, 6, 7, 12, 33, 63])
  (.seq (.seq (.reg [
  ⟨some 4, .mov, [.const (.int .i64 0)], none, [], none⟩] false [0, 2, 3, 4, 5, 6, 7, 12, 33, 63])
  (.block 0 (.loop (.seq (.seq (.reg [
   ⟨some 8, .mov, [.tmp 4], none, [], none⟩,
   ⟨some 9, (.bin .add), [.tmp 8, .const (.int .i64 1)], none, [], none⟩,
   ⟨some 10, .mov, [.tmp 0], none, [], none⟩,
   ⟨some 11, .len, [.tmp 10], none, [], none⟩,
   ⟨some 12, (.bin .lss), [.tmp 9, .tmp 11], none, [], none⟩] false [0, 2, 3, 4, 5, 6, 7, 12, 33, 63])
   (.cond (.tmp 12) (.skip) (.exit 0)))
   (.seq (.block 1 (.seq (.reg [
   ⟨some 15, .mov, [.tmp 0], none, [], none⟩,
   ⟨some 16, .mov, [.tmp 4], none, [], none⟩,
   ⟨some 17, (.ixa 61 3), [.tmp 15, .tmp 16], none, [5, 6], none⟩,
   ⟨some 18, (.load (some 3)), [.tmp 17], none, [5, 6], none⟩,
   ⟨some 19, .mov, [.tmp 0], none, [], none⟩,
   ⟨some 20, .mov, [.tmp 4], none, [], none⟩,
   ⟨some 21, (.bin .add), [.tmp 20, .const (.int .i64 1)], none, [], none⟩,
   ⟨some 22, (.ixa 61 3), [.tmp 19, .tmp 21], none, [5, 6, 5], none⟩,
   ⟨some 23, (.load (some 3)), [.tmp 22], none, [5, 6, 5], none⟩,
   ⟨some 5, (.alloc [(.int .u8 0), (.int .i64 0), (.string ⟨#[]⟩)]), [], none, [6], none⟩,
   ⟨some 6, (.alloc [(.int .u8 0), (.int .i64 0), (.string ⟨#[]⟩)]), [], none, [5], none⟩,
   ⟨none, (.store (some 3)), [.tmp 5, .tmp 18], none, [], (some 5)⟩,
   ⟨none, (.store (some 3)), [.tmp 6, .tmp 23], none, [], (some 6)⟩] true [0, 2, 3, 4, 5, 6, 7, 12, 33, 63])
   (.seq (.reg [
   ⟨some 7, (.nilS 61), [], none, [], none⟩] false [0, 2, 3, 4, 5, 6, 7, 12, 33, 63])
   (.seq (.reg [
   ⟨some 24, .mov, [.tmp 7], none, [], none⟩,
   ⟨some 25, .mov, [.tmp 0], none, [], none⟩,
   ⟨some 26, .mov, [.tmp 4], none, [], none⟩,
   ⟨some 27, (.slc 3 false true), [.tmp 25, .tmp 26], none, [], none⟩,
   ⟨some 28, (.app 61 3 32), [.tmp 24, .tmp 27], none, [], none⟩,
   ⟨some 7, .mov, [.tmp 28], none, [], none⟩] false [0, 2, 3, 4, 5, 6, 7, 12, 33, 63])
   (.seq (.seq (.reg [
   ⟨some 29, (.fad 0), [.tmp 5], none, [], none⟩,
   ⟨some 30, (.load none), [.tmp 29], none, [], none⟩,
   ⟨some 31, (.fad 0), [.tmp 6], none, [], none⟩,
   ⟨some 32, (.load none), [.tmp 31], none, [], none⟩,
   ⟨some 33, (.bin .eql), [.tmp 30, .tmp 32], none, [], none⟩] false [0, 2, 3, 4, 5, 6, 7, 12, 33, 63])
   (.cond (.tmp 33) (.seq (.reg [
   ⟨some 34, .mov, [.tmp 7], none, [], none⟩,
   ⟨some 35, (.fad 0), [.tmp 5], none, [], none⟩,
   ⟨some 36, (.load none), [.tmp 35], none, [], none⟩,
   ⟨some 37, (.fad 1), [.tmp 5], none, [], none⟩,
   ⟨some 38, (.load none), [.tmp 37], none, [], none⟩,
   ⟨some 39, (.fad 1), [.tmp 6], none, [], none⟩,
   ⟨some 40, (.load none), [.tmp 39], none, [], none⟩,
   ⟨some 41, (.bin .add), [.tmp 38, .tmp 40], none, [], none⟩,
   ⟨some 42, (.fad 2), [.tmp 5], none, [], none⟩,
   ⟨some 43, (.load none), [.tmp 42], none, [], none⟩,
   ⟨some 44, (.fad 2), [.tmp 6], none, [], none⟩,
   ⟨some 45, (.load none), [.tmp 44], none, [], none⟩,
   ⟨some 46, (.bin .add), [.tmp 43, .tmp 45], none, [], none⟩,
   ⟨some 47, (.bld [(.int .u8 0), (.int .i64 0), (.string ⟨#[]⟩)] [(0, 1), (1, 1), (2, 1)]), [.tmp 36, .tmp 41, .tmp 46], none, [], none⟩,
   ⟨some 48, (.bsl 61 3), [.tmp 47], none, [], none⟩,
   ⟨some 49, (.app 61 3 32), [.tmp 34, .tmp 48], none, [], none⟩,
   ⟨some 7, .mov, [.tmp 49], none, [], none⟩] false [0, 2, 3, 4, 5, 6, 7, 12, 33, 63])
   (.seq (.reg [
   ⟨some 50, .mov, [.tmp 7], none, [], none⟩,
   ⟨some 51, .mov, [.tmp 0], none, [], none⟩,
   ⟨some 52, .mov, [.tmp 4], none, [], none⟩,
   ⟨some 53, (.bin .add), [.tmp 52, .const (.int .i64 2)], none, [], none⟩,
   ⟨some 54, (.slc 3 true false), [.tmp 51, .tmp 53], none, [], none⟩,
   ⟨some 55, (.app 61 3 32), [.tmp 50, .tmp 54], none, [], none⟩,
   ⟨some 2, .mov, [.tmp 55], none, [], none⟩,
   ⟨some 3, .mov, [.const (.bool true)], none, [], none⟩] false [0, 2, 3, 4, 5, 6, 7, 12, 33, 63])
   (.ret))) (.skip)))
   (.seq (.reg [
   ⟨some 56, (.fad 0), [.tmp 5], none, [], none⟩,
   ⟨some 57, (.load none), [.tmp 56], none, [], none⟩,
   ⟨some 58, (.bin .eql), [.tmp 57, .const (.int .u8 3)], none, [], none⟩,
   ⟨some 59, .mov, [.tmp 58], none, [], none⟩,
   ⟨some 60, (.fad 0), [.tmp 6], some (59, true), [], none⟩,
   ⟨some 61, (.load none), [.tmp 60], some (59, true), [], none⟩,
   ⟨some 62, (.bin .eql), [.tmp 61, .const (.int .u8 2)], some (59, true), [], none⟩,
   ⟨some 63, .pick, [.tmp 59, .tmp 62, .const (.bool false)], none, [], none⟩] false [0, 2, 3, 4, 5, 6, 7, 12, 33, 63])
   (.cond (.tmp 63) (.seq (.reg [
   ⟨some 64, .mov, [.tmp 7], none, [], none⟩,
   ⟨some 65, (.load (some 3)), [.tmp 6], none, [], none⟩,
   ⟨some 66, (.load (some 3)), [.tmp 5], none, [], none⟩,
   ⟨some 67, (.bsl 61 3), [.tmp 65, .tmp 66], none, [], none⟩,
   ⟨some 68, (.app 61 3 32), [.tmp 64, .tmp 67], none, [], none⟩,
   ⟨some 7, .mov, [.tmp 68], none, [], none⟩] false [0, 2, 3, 4, 5, 6, 7, 12, 33, 63])
   (.seq (.reg [
   ⟨some 69, .mov, [.tmp 7], none, [], none⟩,
   ⟨some 70, .mov, [.tmp 0], none, [], none⟩,
   ⟨some 71, .mov, [.tmp 4], none, [], none⟩,
   ⟨some 72, (.bin .add), [.tmp 71, .const (.int .i64 2)], none, [], none⟩,
   ⟨some 73, (.slc 3 true false), [.tmp 70, .tmp 72], none, [], none⟩,
   ⟨some 74, (.app 61 3 32), [.tmp 69, .tmp 73], none, [], none⟩,
   ⟨some 2, .mov, [.tmp 74], none, [], none⟩,
   ⟨some 3, .mov, [.const (.bool true)], none, [], none⟩] false [0, 2, 3, 4, 5, 6, 7, 12, 33, 63])
   (.ret))) (.skip))))))))
   (.reg [
   ⟨some 13, .mov, [.tmp 4], none, [], none⟩,
   ⟨some 14, (.bin .add), [.tmp 13, .const (.int .i64 1)], none, [], none⟩,
   ⟨some 4, .mov, [.tmp 14], none, [], none⟩] false [0, 2, 3, 4, 5, 6, 7, 12, 33, 63]))))))
  (.seq (.reg [
  ⟨some 75, .mov, [.tmp 0], none, [], none⟩,
  ⟨some 2, .mov, [.tmp 75], none, [], none⟩,
  ⟨some 3, .mov, [.const (.bool false)], none, [], none⟩] false [0, 2, 3, 4, 5, 6, 7, 12, 33, 63])
  (.ret)))
def keep37 : List Nat := [0, 2, 3, 4, 5, 6, 7, 12, 33, 63]
theorem fn37 : compFn Try.prog 37 keep37 = some ⟨76, 1, [(2, none), (3, none)], body37⟩ := by kernel_rfl

/- chartroom/varint.Text -/
def body38 : AC :=
  .seq (.reg [
  ⟨some 2, (.nilS 5), [], none, [], none⟩] false [0, 2])
  (.seq (.reg [
  ⟨some 3, .mov, [.tmp 0], none, [], none⟩,
  ⟨some 4, .slen, [.tmp 3], none, [], none⟩,
  ⟨some 5, (.cvi .u64), [.tmp 4], none, [], none⟩,
  ⟨some 6, (.call 39), [.tmp 5], none, [], none⟩,
  ⟨some 7, .mov, [.tmp 0], none, [], none⟩,
  ⟨some 8, (.app 5 1 1), [.tmp 6, .tmp 7], none, [], none⟩,
  ⟨some 2, .mov, [.tmp 8], none, [], none⟩] false [0, 2])
  (.ret))
def keep38 : List Nat := [0, 2]
theorem fn38 : compFn Try.prog 38 keep38 = some ⟨9, 1, [(2, none)], body38⟩ := by kernel_rfl

/- chartroom/varint.Put -/
def body39 : AC :=
  .seq (.reg [
  ⟨some 2, (.nilS 5), [], none, [], none⟩] false [0, 2, 3, 5])
  (.seq (.reg [
  ⟨some 3, (.nilS 5), [], none, [], none⟩] false [0, 2, 3, 5])
  (.seq (.block 0 (.loop (.seq (.seq (.reg [
   ⟨some 4, .mov, [.tmp 0], none, [], none⟩,
   ⟨some 5, (.bin .geq), [.tmp 4, .const (.int .u64 128)], none, [], none⟩] false [0, 2, 3, 5])
   (.cond (.tmp 5) (.skip) (.exit 0)))
   (.seq (.block 1 (.reg [
   ⟨some 8, .mov, [.tmp 3], none, [], none⟩,
   ⟨some 9, .mov, [.tmp 0], none, [], none⟩,
   ⟨some 10, (.cvi .u8), [.tmp 9], none, [], none⟩,
   ⟨some 11, (.bin .or), [.tmp 10, .const (.int .u8 128)], none, [], none⟩,
   ⟨some 12, (.bsl 5 1), [.tmp 11], none, [], none⟩,
   ⟨some 13, (.app 5 1 1), [.tmp 8, .tmp 12], none, [], none⟩,
   ⟨some 3, .mov, [.tmp 13], none, [], none⟩] false [0, 2, 3, 5]))
   (.reg [
   ⟨some 6, .mov, [.tmp 0], none, [], none⟩,
   ⟨some 7, (.bin .shr), [.tmp 6, .const (.int .u64 7)], none, [], none⟩,
   ⟨some 0, .mov, [.tmp 7], none, [], none⟩] false [0, 2, 3, 5])))))
  (.seq (.reg [
  ⟨some 14, .mov, [.tmp 3], none, [], none⟩,
  ⟨some 15, .mov, [.tmp 0], none, [], none⟩,
  ⟨some 16, (.cvi .u8), [.tmp 15], none, [], none⟩,
  ⟨some 17, (.bsl 5 1), [.tmp 16], none, [], none⟩,
  ⟨some 18, (.app 5 1 1), [.tmp 14, .tmp 17], none, [], none⟩,
  ⟨some 2, .mov, [.tmp 18], none, [], none⟩] false [0, 2, 3, 5])
  (.ret))))
def keep39 : List Nat := [0, 2, 3, 5]
theorem fn39 : compFn Try.prog 39 keep39 = some ⟨19, 1, [(2, none)], body39⟩ := by kernel_rfl

/- chartroom/chartroomref01.Text -/
def body40 : AC :=
  .seq (.reg [
  ⟨some 2, (.nilS 5), [], none, [], none⟩] false [0, 2, 3, 4, 12])
  (.seq (.reg [
  ⟨some 5, .mov, [.tmp 0], none, [], none⟩,
  ⟨some 6, .slen, [.tmp 5], none, [], none⟩,
  ⟨some 7, (.cvi .u64), [.tmp 6], none, [], none⟩,
  ⟨some 8, (.call 41), [.tmp 7], none, [], none⟩,
  ⟨some 3, .mov, [.tmp 8], none, [], none⟩] false [0, 2, 3, 4, 12])
  (.seq (.seq (.reg [
  ⟨some 4, .mov, [.const (.int .i64 0)], none, [], none⟩] false [0, 2, 3, 4, 12])
  (.block 0 (.loop (.seq (.seq (.reg [
   ⟨some 9, .mov, [.tmp 4], none, [], none⟩,
   ⟨some 10, .mov, [.tmp 0], none, [], none⟩,
   ⟨some 11, .slen, [.tmp 10], none, [], none⟩,
   ⟨some 12, (.bin .lss), [.tmp 9, .tmp 11], none, [], none⟩] false [0, 2, 3, 4, 12])
   (.cond (.tmp 12) (.skip) (.exit 0)))
   (.seq (.block 1 (.reg [
   ⟨some 15, .mov, [.tmp 3], none, [], none⟩,
   ⟨some 16, .mov, [.tmp 0], none, [], none⟩,
   ⟨some 17, .mov, [.tmp 4], none, [], none⟩,
   ⟨some 18, .sidx, [.tmp 16, .tmp 17], none, [], none⟩,
   ⟨some 19, (.bsl 5 1), [.tmp 18], none, [], none⟩,
   ⟨some 20, (.app 5 1 1), [.tmp 15, .tmp 19], none, [], none⟩,
   ⟨some 3, .mov, [.tmp 20], none, [], none⟩] false [0, 2, 3, 4, 12]))
   (.reg [
   ⟨some 13, .mov, [.tmp 4], none, [], none⟩,
   ⟨some 14, (.bin .add), [.tmp 13, .const (.int .i64 1)], none, [], none⟩,
   ⟨some 4, .mov, [.tmp 14], none, [], none⟩] false [0, 2, 3, 4, 12]))))))
  (.seq (.reg [
  ⟨some 21, .mov, [.tmp 3], none, [], none⟩,
  ⟨some 2, .mov, [.tmp 21], none, [], none⟩] false [0, 2, 3, 4, 12])
  (.ret))))
def keep40 : List Nat := [0, 2, 3, 4, 12]
theorem fn40 : compFn Try.prog 40 keep40 = some ⟨22, 1, [(2, none)], body40⟩ := by kernel_rfl

/- chartroom/chartroomref01.Put -/
def body41 : AC :=
  .seq (.reg [
  ⟨some 2, (.nilS 5), [], none, [], none⟩] false [0, 2, 3, 4, 5, 6, 11, 20])
  (.seq (.reg [
  ⟨some 3, (.nilS 5), [], none, [], none⟩] false [0, 2, 3, 4, 5, 6, 11, 20])
  (.seq (.reg [
  ⟨some 7, .mov, [.tmp 0], none, [], none⟩,
  ⟨some 8, (.call 54), [.tmp 7], none, [], none⟩,
  ⟨some 4, .mov, [.tmp 8], none, [], none⟩] false [0, 2, 3, 4, 5, 6, 11, 20])
  (.seq (.seq (.reg [
  ⟨some 5, .mov, [.const (.int .i64 0)], none, [], none⟩] false [0, 2, 3, 4, 5, 6, 11, 20])
  (.block 0 (.loop (.seq (.seq (.reg [
   ⟨some 9, .mov, [.tmp 5], none, [], none⟩,
   ⟨some 10, .mov, [.tmp 4], none, [], none⟩,
   ⟨some 11, (.bin .lss), [.tmp 9, .tmp 10], none, [], none⟩] false [0, 2, 3, 4, 5, 6, 11, 20])
   (.cond (.tmp 11) (.skip) (.exit 0)))
   (.seq (.block 1 (.seq (.reg [
   ⟨some 14, .mov, [.tmp 0], none, [], none⟩,
   ⟨some 15, (.bin .rem), [.tmp 14, .const (.int .u64 128)], none, [], none⟩,
   ⟨some 16, (.cvi .u8), [.tmp 15], none, [], none⟩,
   ⟨some 6, .mov, [.tmp 16], none, [], none⟩] false [0, 2, 3, 4, 5, 6, 11, 20])
   (.seq (.seq (.reg [
   ⟨some 17, .mov, [.tmp 5], none, [], none⟩,
   ⟨some 18, (.bin .add), [.tmp 17, .const (.int .i64 1)], none, [], none⟩,
   ⟨some 19, .mov, [.tmp 4], none, [], none⟩,
   ⟨some 20, (.bin .lss), [.tmp 18, .tmp 19], none, [], none⟩] false [0, 2, 3, 4, 5, 6, 11, 20])
   (.cond (.tmp 20) (.reg [
   ⟨some 21, .mov, [.tmp 6], none, [], none⟩,
   ⟨some 22, (.bin .add), [.tmp 21, .const (.int .u8 128)], none, [], none⟩,
   ⟨some 6, .mov, [.tmp 22], none, [], none⟩] false [0, 2, 3, 4, 5, 6, 11, 20]) (.skip)))
   (.seq (.reg [
   ⟨some 23, .mov, [.tmp 3], none, [], none⟩,
   ⟨some 24, .mov, [.tmp 6], none, [], none⟩,
   ⟨some 25, (.bsl 5 1), [.tmp 24], none, [], none⟩,
   ⟨some 26, (.app 5 1 1), [.tmp 23, .tmp 25], none, [], none⟩,
   ⟨some 3, .mov, [.tmp 26], none, [], none⟩] false [0, 2, 3, 4, 5, 6, 11, 20])
   (.reg [
   ⟨some 27, .mov, [.tmp 0], none, [], none⟩,
   ⟨some 28, (.bin .quo), [.tmp 27, .const (.int .u64 128)], none, [], none⟩,
   ⟨some 0, .mov, [.tmp 28], none, [], none⟩] false [0, 2, 3, 4, 5, 6, 11, 20])))))
   (.reg [
   ⟨some 12, .mov, [.tmp 5], none, [], none⟩,
   ⟨some 13, (.bin .add), [.tmp 12, .const (.int .i64 1)], none, [], none⟩,
   ⟨some 5, .mov, [.tmp 13], none, [], none⟩] false [0, 2, 3, 4, 5, 6, 11, 20]))))))
  (.seq (.reg [
  ⟨some 29, .mov, [.tmp 3], none, [], none⟩,
  ⟨some 2, .mov, [.tmp 29], none, [], none⟩] false [0, 2, 3, 4, 5, 6, 11, 20])
  (.ret)))))
def keep41 : List Nat := [0, 2, 3, 4, 5, 6, 11, 20]
theorem fn41 : compFn Try.prog 41 keep41 = some ⟨30, 1, [(2, none)], body41⟩ := by kernel_rfl

/- slices.ContainsFunc[[]chartroom/delta.Edit,chartroom/delta.Edit] -/
def body42 : AC :=
  .seq (.reg [
  ⟨some 4, .mov, [.const (.bool false)], none, [], none⟩] false [0, 1, 4])
  (.seq (.reg [
  ⟨some 5, .mov, [.tmp 0], none, [], none⟩,
  ⟨some 6, .mov, [.tmp 1], none, [], none⟩,
  ⟨some 7, (.call 55), [.tmp 5, .tmp 6], none, [], none⟩,
  ⟨some 8, (.bin .geq), [.tmp 7, .const (.int .i64 0)], none, [], none⟩,
  ⟨some 4, .mov, [.tmp 8], none, [], none⟩] false [0, 1, 4])
  (.ret))
def keep42 : List Nat := [0, 1, 4]
theorem fn42 : compFn Try.prog 42 keep42 = some ⟨9, 2, [(4, none)], body42⟩ := by kernel_rfl

/- chartroom/delta.Right$1 -/
def body43 : AC :=
  .seq (.reg [
  ⟨some 1, .box, [.tmp 0], none, [], none⟩,
  ⟨some 2, .mov, [.const (.bool false)], none, [], none⟩] false [0, 1, 2])
  (.seq (.reg [
  ⟨some 3, (.load (some 3)), [.tmp 1], none, [], none⟩,
  ⟨some 4, (.call 32), [.tmp 3], none, [], none⟩,
  ⟨some 5, .not, [.tmp 4], none, [], none⟩,
  ⟨some 2, .mov, [.tmp 5], none, [], none⟩] false [0, 1, 2])
  (.ret))
def keep43 : List Nat := [0, 1, 2]
theorem fn43 : compFn Try.prog 43 keep43 = some ⟨6, 1, [(2, none)], body43⟩ := by kernel_rfl

/- chartroom/delta.common -/
def body44 : AC :=
  .seq (.reg [
  ⟨some 6, .mov, [.const (.int .i64 0)], none, [], none⟩] false [0, 1, 2, 6, 7, 28])
  (.seq (.reg [
  ⟨some 7, .mov, [.const (.int .i64 0)], none, [], none⟩] false [0, 1, 2, 6, 7, 28])
  (.seq (.block 0 (.loop (.seq (.seq (.reg [
   ⟨some 8, .mov, [.tmp 7], none, [], none⟩,
   ⟨some 9, .mov, [.tmp 0], none, [], none⟩,
   ⟨some 10, .slen, [.tmp 9], none, [], none⟩,
   ⟨some 11, (.bin .lss), [.tmp 8, .tmp 10], none, [], none⟩,
   ⟨some 12, .mov, [.tmp 11], none, [], none⟩,
   ⟨some 13, .mov, [.tmp 7], some (12, true), [], none⟩,
   ⟨some 14, .mov, [.tmp 1], some (12, true), [], none⟩,
   ⟨some 15, .slen, [.tmp 14], some (12, true), [], none⟩,
   ⟨some 16, (.bin .lss), [.tmp 13, .tmp 15], some (12, true), [], none⟩,
   ⟨some 17, .pick, [.tmp 12, .tmp 16, .const (.bool false)], none, [], none⟩,
   ⟨some 18, .mov, [.tmp 17], none, [], none⟩,
   ⟨some 19, .mov, [.tmp 2], some (18, true), [], none⟩,
   ⟨some 20, .mov, [.tmp 0], some (18, true), [], none⟩,
   ⟨some 21, .mov, [.tmp 7], some (18, true), [], none⟩,
   ⟨some 22, .calv, [.tmp 19, .tmp 20, .tmp 21], some (18, true), [], none⟩,
   ⟨some 23, .mov, [.tmp 2], some (18, true), [], none⟩,
   ⟨some 24, .mov, [.tmp 1], some (18, true), [], none⟩,
   ⟨some 25, .mov, [.tmp 7], some (18, true), [], none⟩,
   ⟨some 26, .calv, [.tmp 23, .tmp 24, .tmp 25], some (18, true), [], none⟩,
   ⟨some 27, (.bin .eql), [.tmp 22, .tmp 26], some (18, true), [], none⟩,
   ⟨some 28, .pick, [.tmp 18, .tmp 27, .const (.bool false)], none, [], none⟩] false [0, 1, 2, 6, 7, 28])
   (.cond (.tmp 28) (.skip) (.exit 0)))
   (.block 1 (.reg [
   ⟨some 29, .mov, [.tmp 7], none, [], none⟩,
   ⟨some 30, (.bin .add), [.tmp 29, .const (.int .i64 1)], none, [], none⟩,
   ⟨some 7, .mov, [.tmp 30], none, [], none⟩] false [0, 1, 2, 6, 7, 28])))))
  (.seq (.reg [
  ⟨some 31, .mov, [.tmp 7], none, [], none⟩,
  ⟨some 6, .mov, [.tmp 31], none, [], none⟩] false [0, 1, 2, 6, 7, 28])
  (.ret))))
def keep44 : List Nat := [0, 1, 2, 6, 7, 28]
theorem fn44 : compFn Try.prog 44 keep44 = some ⟨32, 3, [(6, none)], body44⟩ := by kernel_rfl

/- chartroom/delta.Diff$1 -/
def body45 : AC :=
  .seq (.reg [
  ⟨some 4, .mov, [.const (.int .u8 0)], none, [], none⟩] false [0, 1, 4])
  (.seq (.reg [
  ⟨some 5, .mov, [.tmp 0], none, [], none⟩,
  ⟨some 6, .mov, [.tmp 1], none, [], none⟩,
  ⟨some 7, .sidx, [.tmp 5, .tmp 6], none, [], none⟩,
  ⟨some 4, .mov, [.tmp 7], none, [], none⟩] false [0, 1, 4])
  (.ret))
def keep45 : List Nat := [0, 1, 4]
theorem fn45 : compFn Try.prog 45 keep45 = some ⟨8, 2, [(4, none)], body45⟩ := by kernel_rfl

/- chartroom/delta.Diff$2 -/
def body46 : AC :=
  .seq (.reg [
  ⟨some 4, .mov, [.const (.int .u8 0)], none, [], none⟩] false [0, 1, 4])
  (.seq (.reg [
  ⟨some 5, .mov, [.tmp 0], none, [], none⟩,
  ⟨some 6, .mov, [.tmp 0], none, [], none⟩,
  ⟨some 7, .slen, [.tmp 6], none, [], none⟩,
  ⟨some 8, (.bin .sub), [.tmp 7, .const (.int .i64 1)], none, [], none⟩,
  ⟨some 9, .mov, [.tmp 1], none, [], none⟩,
  ⟨some 10, (.bin .sub), [.tmp 8, .tmp 9], none, [], none⟩,
  ⟨some 11, .sidx, [.tmp 5, .tmp 10], none, [], none⟩,
  ⟨some 4, .mov, [.tmp 11], none, [], none⟩] false [0, 1, 4])
  (.ret))
def keep46 : List Nat := [0, 1, 4]
theorem fn46 : compFn Try.prog 46 keep46 = some ⟨12, 2, [(4, none)], body46⟩ := by kernel_rfl

/- strings.Clone -/
def body47 : AC :=
  .seq (.reg [
  ⟨some 2, .mov, [.const (.string ⟨#[]⟩)], none, [], none⟩] false [0, 2])
  (.seq (.reg [
  ⟨some 3, .mov, [.tmp 0], none, [], none⟩,
  ⟨some 4, (.call 56), [.tmp 3], none, [], none⟩,
  ⟨some 2, .mov, [.tmp 4], none, [], none⟩] false [0, 2])
  (.ret))
def keep47 : List Nat := [0, 2]
theorem fn47 : compFn Try.prog 47 keep47 = some ⟨5, 1, [(2, none)], body47⟩ := by kernel_rfl

/- slices.DeleteFunc[[]chartroom/delta.Edit,chartroom/delta.Edit] -/
def body48 : AC :=
  .seq (.reg [
  ⟨some 4, (.nilS 47), [], none, [], none⟩] false [0, 1, 4, 5, 6, 7, 12, 19, 29])
  (.seq (.reg [
  ⟨some 8, .mov, [.tmp 0], none, [], none⟩,
  ⟨some 9, .mov, [.tmp 1], none, [], none⟩,
  ⟨some 10, (.call 55), [.tmp 8, .tmp 9], none, [], none⟩,
  ⟨some 5, .mov, [.tmp 10], none, [], none⟩] false [0, 1, 4, 5, 6, 7, 12, 19, 29])
  (.seq (.seq (.reg [
  ⟨some 11, .mov, [.tmp 5], none, [], none⟩,
  ⟨some 12, (.bin .eql), [.tmp 11, .const (.int .i64 (-1))], none, [], none⟩] false [0, 1, 4, 5, 6, 7, 12, 19, 29])
  (.cond (.tmp 12) (.seq (.reg [
  ⟨some 13, .mov, [.tmp 0], none, [], none⟩,
  ⟨some 4, .mov, [.tmp 13], none, [], none⟩] false [0, 1, 4, 5, 6, 7, 12, 19, 29])
  (.ret)) (.skip)))
  (.seq (.seq (.reg [
  ⟨some 14, .mov, [.tmp 5], none, [], none⟩,
  ⟨some 15, (.bin .add), [.tmp 14, .const (.int .i64 1)], none, [], none⟩,
  ⟨some 6, .mov, [.tmp 15], none, [], none⟩] false [0, 1, 4, 5, 6, 7, 12, 19, 29])
  (.block 0 (.loop (.seq (.seq (.reg [
   ⟨some 16, .mov, [.tmp 6], none, [], none⟩,
   ⟨some 17, .mov, [.tmp 0], none, [], none⟩,
   ⟨some 18, .len, [.tmp 17], none, [], none⟩,
   ⟨some 19, (.bin .lss), [.tmp 16, .tmp 18], none, [], none⟩] false [0, 1, 4, 5, 6, 7, 12, 19, 29])
   (.cond (.tmp 19) (.skip) (.exit 0)))
   (.seq (.block 1 (.seq (.reg [
   ⟨some 22, .mov, [.tmp 0], none, [], none⟩,
   ⟨some 23, .mov, [.tmp 6], none, [], none⟩,
   ⟨some 24, (.ixa 47 3), [.tmp 22, .tmp 23], none, [], none⟩,
   ⟨some 25, (.load (some 3)), [.tmp 24], none, [], none⟩,
   ⟨some 7, (.alloc [(.int .u8 0), (.int .i64 0), (.string ⟨#[]⟩)]), [], none, [], none⟩,
   ⟨none, (.store (some 3)), [.tmp 7, .tmp 25], none, [], none⟩] false [0, 1, 4, 5, 6, 7, 12, 19, 29])
   (.seq (.reg [
   ⟨some 26, .mov, [.tmp 1], none, [], none⟩,
   ⟨some 27, (.load (some 3)), [.tmp 7], none, [], none⟩,
   ⟨some 28, .calv, [.tmp 26, .tmp 27], none, [], none⟩,
   ⟨some 29, .not, [.tmp 28], none, [], none⟩] false [0, 1, 4, 5, 6, 7, 12, 19, 29])
   (.cond (.tmp 29) (.seq (.reg [
   ⟨some 30, .mov, [.tmp 0], none, [], none⟩,
   ⟨some 31, .mov, [.tmp 5], none, [], none⟩,
   ⟨some 32, (.load (some 3)), [.tmp 7], none, [], none⟩,
   ⟨some 33, (.ixa 47 3), [.tmp 30, .tmp 31], none, [], none⟩,
   ⟨none, (.store (some 3)), [.tmp 33, .tmp 32], none, [], none⟩] false [0, 1, 4, 5, 6, 7, 12, 19, 29])
   (.reg [
   ⟨some 34, .mov, [.tmp 5], none, [], none⟩,
   ⟨some 35, (.bin .add), [.tmp 34, .const (.int .i64 1)], none, [], none⟩,
   ⟨some 5, .mov, [.tmp 35], none, [], none⟩] false [0, 1, 4, 5, 6, 7, 12, 19, 29])) (.skip)))))
   (.reg [
   ⟨some 20, .mov, [.tmp 6], none, [], none⟩,
   ⟨some 21, (.bin .add), [.tmp 20, .const (.int .i64 1)], none, [], none⟩,
   ⟨some 6, .mov, [.tmp 21], none, [], none⟩] false [0, 1, 4, 5, 6, 7, 12, 19, 29]))))))
  (.seq (.reg [
  ⟨some 36, .mov, [.tmp 0], none, [], none⟩,
  ⟨some 37, .mov, [.tmp 5], none, [], none⟩,
  ⟨some 38, (.slc 3 true false), [.tmp 36, .tmp 37], none, [], none⟩,
  ⟨none, (.clr 47 3 [(.int .u8 0), (.int .i64 0), (.string ⟨#[]⟩)]), [.tmp 38], none, [], none⟩] false [0, 1, 4, 5, 6, 7, 12, 19, 29])
  (.seq (.reg [
  ⟨some 39, .mov, [.tmp 0], none, [], none⟩,
  ⟨some 40, .mov, [.tmp 5], none, [], none⟩,
  ⟨some 41, (.slc 3 false true), [.tmp 39, .tmp 40], none, [], none⟩,
  ⟨some 4, .mov, [.tmp 41], none, [], none⟩] false [0, 1, 4, 5, 6, 7, 12, 19, 29])
  (.ret))))))
def keep48 : List Nat := [0, 1, 4, 5, 6, 7, 12, 19, 29]
theorem fn48 : compFn Try.prog 48 keep48 = some ⟨42, 2, [(4, none)], body48⟩ := by kernel_rfl

/- chartroom/delta.Diff$3 -/
def body49 : AC :=
  .seq (.reg [
  ⟨some 1, .box, [.tmp 0], none, [], none⟩,
  ⟨some 2, .mov, [.const (.bool false)], none, [], none⟩] false [0, 1, 2])
  (.seq (.reg [
  ⟨some 3, (.load (some 3)), [.tmp 1], none, [], none⟩,
  ⟨some 4, (.call 32), [.tmp 3], none, [], none⟩,
  ⟨some 5, .not, [.tmp 4], none, [], none⟩,
  ⟨some 2, .mov, [.tmp 5], none, [], none⟩] false [0, 1, 2])
  (.ret))
def keep49 : List Nat := [0, 1, 2]
theorem fn49 : compFn Try.prog 49 keep49 = some ⟨6, 1, [(2, none)], body49⟩ := by kernel_rfl

/- chartroom/delta.take -/
def body50 : AC :=
  .seq (.reg [
  ⟨some 4, (.alloc [(.int .u8 0), (.int .i64 0), (.string ⟨#[]⟩)]), [], none, [], none⟩,
  ⟨some 5, .mov, [.const (.int .i64 0)], none, [], none⟩,
  ⟨some 6, .mov, [.const (.int .i64 0)], none, [], none⟩] false [0, 1, 4, 5, 6, 7, 14, 15, 26, 42, 53])
  (.seq (.reg [
  ⟨some 8, .mov, [.tmp 0], none, [], none⟩,
  ⟨some 9, .mov, [.tmp 1], none, [], none⟩,
  ⟨some 10, (.ixa 5 1), [.tmp 8, .tmp 9], none, [], none⟩,
  ⟨some 11, (.load none), [.tmp 10], none, [], none⟩,
  ⟨some 12, (.fad 0), [.tmp 4], none, [], none⟩,
  ⟨none, (.store none), [.tmp 12, .tmp 11], none, [], none⟩] false [0, 1, 4, 5, 6, 7, 14, 15, 26, 42, 53])
  (.seq (.seq (.reg [
  ⟨some 13, (.fad 0), [.tmp 4], none, [], none⟩,
  ⟨some 14, (.load none), [.tmp 13], none, [], none⟩] false [0, 1, 4, 5, 6, 7, 14, 15, 26, 42, 53])
  (.block 0 (.seq (.reg [
  ⟨some 16, (.bin .eql), [.tmp 14, .const (.int .u8 2)], none, [], none⟩,
  ⟨some 15, .mov, [.tmp 16], none, [], none⟩] false [0, 1, 4, 5, 6, 7, 14, 15, 26, 42, 53])
  (.cond (.tmp 15) (.reg [
  ⟨some 18, .mov, [.tmp 0], none, [], none⟩,
  ⟨some 19, .mov, [.tmp 1], none, [], none⟩,
  ⟨some 20, (.bin .add), [.tmp 19, .const (.int .i64 1)], none, [], none⟩,
  ⟨some 21, (.call 57), [.tmp 18, .tmp 20], none, [], none⟩,
  ⟨some 17, .mov, [.tmp 21], none, [], none⟩,
  ⟨some 22, (.ext 0), [.tmp 17], none, [], none⟩,
  ⟨some 23, (.ext 1), [.tmp 17], none, [], none⟩,
  ⟨some 24, (.ext 2), [.tmp 17], none, [], none⟩,
  ⟨some 25, (.fad 2), [.tmp 4], none, [], none⟩,
  ⟨none, (.store none), [.tmp 25, .tmp 22], none, [], none⟩,
  ⟨some 5, .mov, [.tmp 23], none, [], none⟩,
  ⟨some 6, .mov, [.tmp 24], none, [], none⟩] false [0, 1, 4, 5, 6, 7, 14, 15, 26, 42, 53]) (.seq (.seq (.reg [
  ⟨some 27, (.bin .eql), [.tmp 14, .const (.int .u8 1)], none, [], none⟩,
  ⟨some 26, .mov, [.tmp 27], none, [], none⟩] false [0, 1, 4, 5, 6, 7, 14, 15, 26, 42, 53])
  (.cond (.tmp 26) (.skip) (.reg [
  ⟨some 28, (.bin .eql), [.tmp 14, .const (.int .u8 3)], none, [], none⟩,
  ⟨some 26, .mov, [.tmp 28], none, [], none⟩] false [0, 1, 4, 5, 6, 7, 14, 15, 26, 42, 53])))
  (.cond (.tmp 26) (.seq (.reg [
  ⟨some 7, .mov, [.const (.int .u64 0)], none, [], none⟩] false [0, 1, 4, 5, 6, 7, 14, 15, 26, 42, 53])
  (.seq (.reg [
  ⟨some 30, .mov, [.tmp 0], none, [], none⟩,
  ⟨some 31, .mov, [.tmp 1], none, [], none⟩,
  ⟨some 32, (.bin .add), [.tmp 31, .const (.int .i64 1)], none, [], none⟩,
  ⟨some 33, (.call 58), [.tmp 30, .tmp 32], none, [], none⟩,
  ⟨some 29, .mov, [.tmp 33], none, [], none⟩,
  ⟨some 34, (.ext 0), [.tmp 29], none, [], none⟩,
  ⟨some 35, (.ext 1), [.tmp 29], none, [], none⟩,
  ⟨some 36, (.ext 2), [.tmp 29], none, [], none⟩,
  ⟨some 7, .mov, [.tmp 34], none, [], none⟩,
  ⟨some 5, .mov, [.tmp 35], none, [], none⟩,
  ⟨some 6, .mov, [.tmp 36], none, [], none⟩] false [0, 1, 4, 5, 6, 7, 14, 15, 26, 42, 53])
  (.seq (.seq (.reg [
  ⟨some 37, .mov, [.tmp 6], none, [], none⟩,
  ⟨some 38, (.bin .eql), [.tmp 37, .const (.int .i64 0)], none, [], none⟩,
  ⟨some 39, .mov, [.tmp 38], none, [], none⟩,
  ⟨some 40, .mov, [.tmp 7], some (39, true), [], none⟩,
  ⟨some 41, (.bin .gtr), [.tmp 40, .const (.int .u64 2147483647)], some (39, true), [], none⟩,
  ⟨some 42, .pick, [.tmp 39, .tmp 41, .const (.bool false)], none, [], none⟩] false [0, 1, 4, 5, 6, 7, 14, 15, 26, 42, 53])
  (.cond (.tmp 42) (.seq (.reg [
  ⟨some 43, (.bld [(.int .u8 0), (.int .i64 0), (.string ⟨#[]⟩)] []), [], none, [], none⟩,
  ⟨none, (.store (some 3)), [.tmp 4, .tmp 43], none, [], none⟩,
  ⟨some 5, .mov, [.const (.int .i64 0)], none, [], none⟩,
  ⟨some 6, .mov, [.const (.int .i64 2)], none, [], none⟩] false [0, 1, 4, 5, 6, 7, 14, 15, 26, 42, 53])
  (.ret)) (.skip)))
  (.reg [
  ⟨some 44, .mov, [.tmp 7], none, [], none⟩,
  ⟨some 45, (.cvi .i64), [.tmp 44], none, [], none⟩,
  ⟨some 46, (.fad 1), [.tmp 4], none, [], none⟩,
  ⟨none, (.store none), [.tmp 46, .tmp 45], none, [], none⟩] false [0, 1, 4, 5, 6, 7, 14, 15, 26, 42, 53])))) (.reg [
  ⟨some 6, .mov, [.const (.int .i64 60)], none, [], none⟩] false [0, 1, 4, 5, 6, 7, 14, 15, 26, 42, 53])))))))
  (.seq (.seq (.reg [
  ⟨some 47, .mov, [.tmp 6], none, [], none⟩,
  ⟨some 48, (.bin .eql), [.tmp 47, .const (.int .i64 0)], none, [], none⟩,
  ⟨some 49, .mov, [.tmp 48], none, [], none⟩,
  ⟨some 50, (.load (some 3)), [.tmp 4], some (49, true), [], none⟩,
  ⟨some 51, (.call 32), [.tmp 50], some (49, true), [], none⟩,
  ⟨some 52, .not, [.tmp 51], some (49, true), [], none⟩,
  ⟨some 53, .pick, [.tmp 49, .tmp 52, .const (.bool false)], none, [], none⟩] false [0, 1, 4, 5, 6, 7, 14, 15, 26, 42, 53])
  (.cond (.tmp 53) (.reg [
  ⟨some 6, .mov, [.const (.int .i64 2)], none, [], none⟩] false [0, 1, 4, 5, 6, 7, 14, 15, 26, 42, 53]) (.skip)))
  (.seq (.reg [
  ⟨some 54, (.load (some 3)), [.tmp 4], none, [], none⟩,
  ⟨some 55, .mov, [.tmp 5], none, [], none⟩,
  ⟨some 56, .mov, [.tmp 6], none, [], none⟩,
  ⟨none, (.store (some 3)), [.tmp 4, .tmp 54], none, [], none⟩,
  ⟨some 5, .mov, [.tmp 55], none, [], none⟩,
  ⟨some 6, .mov, [.tmp 56], none, [], none⟩] false [0, 1, 4, 5, 6, 7, 14, 15, 26, 42, 53])
  (.ret)))))
def keep50 : List Nat := [0, 1, 4, 5, 6, 7, 14, 15, 26, 42, 53]
theorem fn50 : compFn Try.prog 50 keep50 = some ⟨57, 2, [(4, some (some 3)), (5, none), (6, none)], body50⟩ := by kernel_rfl

/- chartroom/chartroomref01.Take -/
def body51 : AC :=
  .seq (.reg [
  ⟨some 4, .mov, [.const (.int .u64 0)], none, [], none⟩,
  ⟨some 5, .mov, [.const (.int .i64 0)], none, [], none⟩,
  ⟨some 6, .mov, [.const (.int .i64 0)], none, [], none⟩] false [0, 1, 4, 5, 6, 7, 8, 9, 10, 18, 21, 29, 46, 55, 69])
  (.seq (.seq (.reg [
  ⟨some 11, .mov, [.tmp 1], none, [], none⟩,
  ⟨some 12, (.bin .lss), [.tmp 11, .const (.int .i64 0)], none, [], none⟩,
  ⟨some 13, .mov, [.tmp 12], none, [], none⟩,
  ⟨some 14, .mov, [.tmp 1], some (13, false), [], none⟩,
  ⟨some 15, .mov, [.tmp 0], some (13, false), [], none⟩,
  ⟨some 16, .len, [.tmp 15], some (13, false), [], none⟩,
  ⟨some 17, (.bin .geq), [.tmp 14, .tmp 16], some (13, false), [], none⟩,
  ⟨some 18, .pick, [.tmp 13, .const (.bool true), .tmp 17], none, [], none⟩] false [0, 1, 4, 5, 6, 7, 8, 9, 10, 18, 21, 29, 46, 55, 69])
  (.cond (.tmp 18) (.seq (.reg [
  ⟨some 19, .mov, [.tmp 1], none, [], none⟩,
  ⟨some 4, .mov, [.const (.int .u64 0)], none, [], none⟩,
  ⟨some 5, .mov, [.tmp 19], none, [], none⟩,
  ⟨some 6, .mov, [.const (.int .i64 10)], none, [], none⟩] false [0, 1, 4, 5, 6, 7, 8, 9, 10, 18, 21, 29, 46, 55, 69])
  (.ret)) (.skip)))
  (.seq (.reg [
  ⟨some 7, .mov, [.const (.int .u64 0)], none, [], none⟩] false [0, 1, 4, 5, 6, 7, 8, 9, 10, 18, 21, 29, 46, 55, 69])
  (.seq (.seq (.reg [
  ⟨some 8, .mov, [.const (.int .i64 0)], none, [], none⟩] false [0, 1, 4, 5, 6, 7, 8, 9, 10, 18, 21, 29, 46, 55, 69])
  (.block 0 (.loop (.seq (.seq (.reg [
   ⟨some 20, .mov, [.tmp 8], none, [], none⟩,
   ⟨some 21, (.bin .lss), [.tmp 20, .const (.int .i64 10)], none, [], none⟩] false [0, 1, 4, 5, 6, 7, 8, 9, 10, 18, 21, 29, 46, 55, 69])
   (.cond (.tmp 21) (.skip) (.exit 0)))
   (.seq (.block 1 (.seq (.seq (.reg [
   ⟨some 24, .mov, [.tmp 1], none, [], none⟩,
   ⟨some 25, .mov, [.tmp 8], none, [], none⟩,
   ⟨some 26, (.bin .add), [.tmp 24, .tmp 25], none, [], none⟩,
   ⟨some 27, .mov, [.tmp 0], none, [], none⟩,
   ⟨some 28, .len, [.tmp 27], none, [], none⟩,
   ⟨some 29, (.bin .geq), [.tmp 26, .tmp 28], none, [], none⟩] false [0, 1, 4, 5, 6, 7, 8, 9, 10, 18, 21, 29, 46, 55, 69])
   (.cond (.tmp 29) (.seq (.reg [
   ⟨some 30, .mov, [.tmp 1], none, [], none⟩,
   ⟨some 4, .mov, [.const (.int .u64 0)], none, [], none⟩,
   ⟨some 5, .mov, [.tmp 30], none, [], none⟩,
   ⟨some 6, .mov, [.const (.int .i64 10)], none, [], none⟩] false [0, 1, 4, 5, 6, 7, 8, 9, 10, 18, 21, 29, 46, 55, 69])
   (.ret)) (.skip)))
   (.seq (.reg [
   ⟨some 31, .mov, [.tmp 0], none, [], none⟩,
   ⟨some 32, .mov, [.tmp 1], none, [], none⟩,
   ⟨some 33, .mov, [.tmp 8], none, [], none⟩,
   ⟨some 34, (.bin .add), [.tmp 32, .tmp 33], none, [], none⟩,
   ⟨some 35, (.ixa 5 1), [.tmp 31, .tmp 34], none, [], none⟩,
   ⟨some 36, (.load none), [.tmp 35], none, [], none⟩,
   ⟨some 37, (.cvi .u64), [.tmp 36], none, [], none⟩,
   ⟨some 9, .mov, [.tmp 37], none, [], none⟩] false [0, 1, 4, 5, 6, 7, 8, 9, 10, 18, 21, 29, 46, 55, 69])
   (.seq (.reg [
   ⟨some 38, .mov, [.tmp 8], none, [], none⟩,
   ⟨some 39, (.bin .mul), [.const (.int .i64 7), .tmp 38], none, [], none⟩,
   ⟨some 40, (.bin .shl), [.const (.int .u64 1), .tmp 39], none, [], none⟩,
   ⟨some 10, .mov, [.tmp 40], none, [], none⟩] false [0, 1, 4, 5, 6, 7, 8, 9, 10, 18, 21, 29, 46, 55, 69])
   (.seq (.seq (.reg [
   ⟨some 41, .mov, [.tmp 8], none, [], none⟩,
   ⟨some 42, (.bin .eql), [.tmp 41, .const (.int .i64 9)], none, [], none⟩,
   ⟨some 43, .mov, [.tmp 42], none, [], none⟩,
   ⟨some 44, .mov, [.tmp 9], some (43, true), [], none⟩,
   ⟨some 45, (.bin .gtr), [.tmp 44, .const (.int .u64 1)], some (43, true), [], none⟩,
   ⟨some 46, .pick, [.tmp 43, .tmp 45, .const (.bool false)], none, [], none⟩] false [0, 1, 4, 5, 6, 7, 8, 9, 10, 18, 21, 29, 46, 55, 69])
   (.cond (.tmp 46) (.seq (.reg [
   ⟨some 47, .mov, [.tmp 1], none, [], none⟩,
   ⟨some 4, .mov, [.const (.int .u64 0)], none, [], none⟩,
   ⟨some 5, .mov, [.tmp 47], none, [], none⟩,
   ⟨some 6, .mov, [.const (.int .i64 11)], none, [], none⟩] false [0, 1, 4, 5, 6, 7, 8, 9, 10, 18, 21, 29, 46, 55, 69])
   (.ret)) (.skip)))
   (.seq (.reg [
   ⟨some 48, .mov, [.tmp 7], none, [], none⟩,
   ⟨some 49, .mov, [.tmp 9], none, [], none⟩,
   ⟨some 50, (.bin .rem), [.tmp 49, .const (.int .u64 128)], none, [], none⟩,
   ⟨some 51, .mov, [.tmp 10], none, [], none⟩,
   ⟨some 52, (.bin .mul), [.tmp 50, .tmp 51], none, [], none⟩,
   ⟨some 53, (.bin .add), [.tmp 48, .tmp 52], none, [], none⟩,
   ⟨some 7, .mov, [.tmp 53], none, [], none⟩] false [0, 1, 4, 5, 6, 7, 8, 9, 10, 18, 21, 29, 46, 55, 69])
   (.seq (.reg [
   ⟨some 54, .mov, [.tmp 9], none, [], none⟩,
   ⟨some 55, (.bin .lss), [.tmp 54, .const (.int .u64 128)], none, [], none⟩] false [0, 1, 4, 5, 6, 7, 8, 9, 10, 18, 21, 29, 46, 55, 69])
   (.cond (.tmp 55) (.seq (.seq (.reg [
   ⟨some 56, .mov, [.tmp 0], none, [], none⟩,
   ⟨some 57, .mov, [.tmp 1], none, [], none⟩,
   ⟨some 58, .mov, [.tmp 7], none, [], none⟩,
   ⟨some 59, (.call 41), [.tmp 58], none, [], none⟩,
   ⟨some 60, (.call 59), [.tmp 56, .tmp 57, .tmp 59], none, [], none⟩,
   ⟨some 61, .not, [.tmp 60], none, [], none⟩,
   ⟨some 62, .mov, [.tmp 61], none, [], none⟩,
   ⟨some 63, .mov, [.tmp 8], some (62, false), [], none⟩,
   ⟨some 64, (.bin .add), [.tmp 63, .const (.int .i64 1)], some (62, false), [], none⟩,
   ⟨some 65, .mov, [.tmp 7], some (62, false), [], none⟩,
   ⟨some 66, (.call 41), [.tmp 65], some (62, false), [], none⟩,
   ⟨some 67, .len, [.tmp 66], some (62, false), [], none⟩,
   ⟨some 68, (.bin .neq), [.tmp 64, .tmp 67], some (62, false), [], none⟩,
   ⟨some 69, .pick, [.tmp 62, .const (.bool true), .tmp 68], none, [], none⟩] false [0, 1, 4, 5, 6, 7, 8, 9, 10, 18, 21, 29, 46, 55, 69])
   (.cond (.tmp 69) (.seq (.reg [
   ⟨some 70, .mov, [.tmp 1], none, [], none⟩,
   ⟨some 4, .mov, [.const (.int .u64 0)], none, [], none⟩,
   ⟨some 5, .mov, [.tmp 70], none, [], none⟩,
   ⟨some 6, .mov, [.const (.int .i64 11)], none, [], none⟩] false [0, 1, 4, 5, 6, 7, 8, 9, 10, 18, 21, 29, 46, 55, 69])
   (.ret)) (.skip)))
   (.seq (.reg [
   ⟨some 71, .mov, [.tmp 7], none, [], none⟩,
   ⟨some 72, .mov, [.tmp 1], none, [], none⟩,
   ⟨some 73, .mov, [.tmp 8], none, [], none⟩,
   ⟨some 74, (.bin .add), [.tmp 72, .tmp 73], none, [], none⟩,
   ⟨some 75, (.bin .add), [.tmp 74, .const (.int .i64 1)], none, [], none⟩,
   ⟨some 4, .mov, [.tmp 71], none, [], none⟩,
   ⟨some 5, .mov, [.tmp 75], none, [], none⟩,
   ⟨some 6, .mov, [.const (.int .i64 0)], none, [], none⟩] false [0, 1, 4, 5, 6, 7, 8, 9, 10, 18, 21, 29, 46, 55, 69])
   (.ret))) (.skip)))))))))
   (.reg [
   ⟨some 22, .mov, [.tmp 8], none, [], none⟩,
   ⟨some 23, (.bin .add), [.tmp 22, .const (.int .i64 1)], none, [], none⟩,
   ⟨some 8, .mov, [.tmp 23], none, [], none⟩] false [0, 1, 4, 5, 6, 7, 8, 9, 10, 18, 21, 29, 46, 55, 69]))))))
  (.seq (.reg [
  ⟨some 76, .mov, [.tmp 1], none, [], none⟩,
  ⟨some 4, .mov, [.const (.int .u64 0)], none, [], none⟩,
  ⟨some 5, .mov, [.tmp 76], none, [], none⟩,
  ⟨some 6, .mov, [.const (.int .i64 11)], none, [], none⟩] false [0, 1, 4, 5, 6, 7, 8, 9, 10, 18, 21, 29, 46, 55, 69])
  (.ret)))))
def keep51 : List Nat := [0, 1, 4, 5, 6, 7, 8, 9, 10, 18, 21, 29, 46, 55, 69]
theorem fn51 : compFn Try.prog 51 keep51 = some ⟨77, 2, [(4, none), (5, none), (6, none)], body51⟩ := by kernel_rfl

/- chartroom/chartroomref01.TakeText -/
def body52 : AC :=
  .seq (.reg [
  ⟨some 4, .mov, [.const (.string ⟨#[]⟩)], none, [], none⟩,
  ⟨some 5, .mov, [.const (.int .i64 0)], none, [], none⟩,
  ⟨some 6, .mov, [.const (.int .i64 0)], none, [], none⟩] false [0, 1, 4, 5, 6, 7, 8, 9, 18, 34])
  (.seq (.reg [
  ⟨some 11, .mov, [.tmp 0], none, [], none⟩,
  ⟨some 12, .mov, [.tmp 1], none, [], none⟩,
  ⟨some 13, (.call 51), [.tmp 11, .tmp 12], none, [], none⟩,
  ⟨some 10, .mov, [.tmp 13], none, [], none⟩,
  ⟨some 14, (.ext 0), [.tmp 10], none, [], none⟩,
  ⟨some 15, (.ext 1), [.tmp 10], none, [], none⟩,
  ⟨some 16, (.ext 2), [.tmp 10], none, [], none⟩,
  ⟨some 7, .mov, [.tmp 14], none, [], none⟩,
  ⟨some 8, .mov, [.tmp 15], none, [], none⟩,
  ⟨some 9, .mov, [.tmp 16], none, [], none⟩] false [0, 1, 4, 5, 6, 7, 8, 9, 18, 34])
  (.seq (.seq (.reg [
  ⟨some 17, .mov, [.tmp 9], none, [], none⟩,
  ⟨some 18, (.bin .neq), [.tmp 17, .const (.int .i64 0)], none, [], none⟩] false [0, 1, 4, 5, 6, 7, 8, 9, 18, 34])
  (.cond (.tmp 18) (.seq (.reg [
  ⟨some 19, .mov, [.tmp 1], none, [], none⟩,
  ⟨some 20, .mov, [.tmp 9], none, [], none⟩,
  ⟨some 4, .mov, [.const (.string ⟨#[]⟩)], none, [], none⟩,
  ⟨some 5, .mov, [.tmp 19], none, [], none⟩,
  ⟨some 6, .mov, [.tmp 20], none, [], none⟩] false [0, 1, 4, 5, 6, 7, 8, 9, 18, 34])
  (.ret)) (.skip)))
  (.seq (.seq (.reg [
  ⟨some 21, .mov, [.tmp 7], none, [], none⟩,
  ⟨some 22, .mov, [.tmp 0], none, [], none⟩,
  ⟨some 23, .len, [.tmp 22], none, [], none⟩,
  ⟨some 24, (.cvi .u64), [.tmp 23], none, [], none⟩,
  ⟨some 25, (.bin .gtr), [.tmp 21, .tmp 24], none, [], none⟩,
  ⟨some 26, .mov, [.tmp 25], none, [], none⟩,
  ⟨some 27, .mov, [.tmp 8], some (26, false), [], none⟩,
  ⟨some 28, .mov, [.tmp 7], some (26, false), [], none⟩,
  ⟨some 29, (.cvi .i64), [.tmp 28], some (26, false), [], none⟩,
  ⟨some 30, (.bin .add), [.tmp 27, .tmp 29], some (26, false), [], none⟩,
  ⟨some 31, .mov, [.tmp 0], some (26, false), [], none⟩,
  ⟨some 32, .len, [.tmp 31], some (26, false), [], none⟩,
  ⟨some 33, (.bin .gtr), [.tmp 30, .tmp 32], some (26, false), [], none⟩,
  ⟨some 34, .pick, [.tmp 26, .const (.bool true), .tmp 33], none, [], none⟩] false [0, 1, 4, 5, 6, 7, 8, 9, 18, 34])
  (.cond (.tmp 34) (.seq (.reg [
  ⟨some 35, .mov, [.tmp 1], none, [], none⟩,
  ⟨some 4, .mov, [.const (.string ⟨#[]⟩)], none, [], none⟩,
  ⟨some 5, .mov, [.tmp 35], none, [], none⟩,
  ⟨some 6, .mov, [.const (.int .i64 10)], none, [], none⟩] false [0, 1, 4, 5, 6, 7, 8, 9, 18, 34])
  (.ret)) (.skip)))
  (.seq (.reg [
  ⟨some 36, .mov, [.tmp 0], none, [], none⟩,
  ⟨some 37, .mov, [.tmp 8], none, [], none⟩,
  ⟨some 38, .mov, [.tmp 8], none, [], none⟩,
  ⟨some 39, .mov, [.tmp 7], none, [], none⟩,
  ⟨some 40, (.cvi .i64), [.tmp 39], none, [], none⟩,
  ⟨some 41, (.bin .add), [.tmp 38, .tmp 40], none, [], none⟩,
  ⟨some 42, (.slc 1 true true), [.tmp 36, .tmp 37, .tmp 41], none, [], none⟩,
  ⟨some 43, .btoS, [.tmp 42], none, [], none⟩,
  ⟨some 44, .mov, [.tmp 8], none, [], none⟩,
  ⟨some 45, .mov, [.tmp 7], none, [], none⟩,
  ⟨some 46, (.cvi .i64), [.tmp 45], none, [], none⟩,
  ⟨some 47, (.bin .add), [.tmp 44, .tmp 46], none, [], none⟩,
  ⟨some 4, .mov, [.tmp 43], none, [], none⟩,
  ⟨some 5, .mov, [.tmp 47], none, [], none⟩,
  ⟨some 6, .mov, [.const (.int .i64 0)], none, [], none⟩] false [0, 1, 4, 5, 6, 7, 8, 9, 18, 34])
  (.ret)))))
def keep52 : List Nat := [0, 1, 4, 5, 6, 7, 8, 9, 18, 34]
theorem fn52 : compFn Try.prog 52 keep52 = some ⟨48, 2, [(4, none), (5, none), (6, none)], body52⟩ := by kernel_rfl

/- chartroom/chartroomref01.groups -/
def body54 : AC :=
  .seq (.reg [
  ⟨some 2, .mov, [.const (.int .i64 0)], none, [], none⟩] false [0, 2, 3, 6])
  (.seq (.reg [
  ⟨some 3, .mov, [.const (.int .i64 1)], none, [], none⟩] false [0, 2, 3, 6])
  (.seq (.block 0 (.loop (.seq (.seq (.reg [
   ⟨some 4, .mov, [.tmp 0], none, [], none⟩,
   ⟨some 5, (.bin .quo), [.tmp 4, .const (.int .u64 128)], none, [], none⟩,
   ⟨some 6, (.bin .gtr), [.tmp 5, .const (.int .u64 0)], none, [], none⟩] false [0, 2, 3, 6])
   (.cond (.tmp 6) (.skip) (.exit 0)))
   (.block 1 (.seq (.reg [
   ⟨some 7, .mov, [.tmp 0], none, [], none⟩,
   ⟨some 8, (.bin .quo), [.tmp 7, .const (.int .u64 128)], none, [], none⟩,
   ⟨some 0, .mov, [.tmp 8], none, [], none⟩] false [0, 2, 3, 6])
   (.reg [
   ⟨some 9, .mov, [.tmp 3], none, [], none⟩,
   ⟨some 10, (.bin .add), [.tmp 9, .const (.int .i64 1)], none, [], none⟩,
   ⟨some 3, .mov, [.tmp 10], none, [], none⟩] false [0, 2, 3, 6]))))))
  (.seq (.reg [
  ⟨some 11, .mov, [.tmp 3], none, [], none⟩,
  ⟨some 2, .mov, [.tmp 11], none, [], none⟩] false [0, 2, 3, 6])
  (.ret))))
def keep54 : List Nat := [0, 2, 3, 6]
theorem fn54 : compFn Try.prog 54 keep54 = some ⟨12, 1, [(2, none)], body54⟩ := by kernel_rfl

/- slices.IndexFunc[[]chartroom/delta.Edit,chartroom/delta.Edit] -/
def body55 : AC :=
  .seq (.reg [
  ⟨some 4, .mov, [.const (.int .i64 0)], none, [], none⟩] false [0, 1, 4, 5, 7, 8, 9, 16])
  (.seq (.seq (.reg [
  ⟨some 6, .mov, [.tmp 0], none, [], none⟩,
  ⟨some 7, .len, [.tmp 6], none, [], none⟩,
  ⟨some 8, .mov, [.const (.int .i64 0)], none, [], none⟩] false [0, 1, 4, 5, 7, 8, 9, 16])
  (.block 0 (.loop (.seq (.reg [
   ⟨some 9, (.bin .lss), [.tmp 8, .tmp 7], none, [], none⟩] false [0, 1, 4, 5, 7, 8, 9, 16])
   (.seq (.cond (.tmp 9) (.skip) (.exit 0))
   (.seq (.block 1 (.seq (.reg [
   ⟨some 10, .mov, [.tmp 8], none, [], none⟩,
   ⟨some 5, .mov, [.tmp 10], none, [], none⟩] false [0, 1, 4, 5, 7, 8, 9, 16])
   (.seq (.reg [
   ⟨some 11, .mov, [.tmp 1], none, [], none⟩,
   ⟨some 12, .mov, [.tmp 0], none, [], none⟩,
   ⟨some 13, .mov, [.tmp 5], none, [], none⟩,
   ⟨some 14, (.ixa 47 3), [.tmp 12, .tmp 13], none, [], none⟩,
   ⟨some 15, (.load (some 3)), [.tmp 14], none, [], none⟩,
   ⟨some 16, .calv, [.tmp 11, .tmp 15], none, [], none⟩] false [0, 1, 4, 5, 7, 8, 9, 16])
   (.cond (.tmp 16) (.seq (.reg [
   ⟨some 17, .mov, [.tmp 5], none, [], none⟩,
   ⟨some 4, .mov, [.tmp 17], none, [], none⟩] false [0, 1, 4, 5, 7, 8, 9, 16])
   (.ret)) (.skip)))))
   (.reg [
   ⟨some 18, (.bin .add), [.tmp 8, .const (.int .i64 1)], none, [], none⟩,
   ⟨some 8, .mov, [.tmp 18], none, [], none⟩] false [0, 1, 4, 5, 7, 8, 9, 16])))))))
  (.seq (.reg [
  ⟨some 4, .mov, [.const (.int .i64 (-1))], none, [], none⟩] false [0, 1, 4, 5, 7, 8, 9, 16])
  (.ret)))
def keep55 : List Nat := [0, 1, 4, 5, 7, 8, 9, 16]
theorem fn55 : compFn Try.prog 55 keep55 = some ⟨19, 2, [(4, none)], body55⟩ := by kernel_rfl

/- chartroom/varint.TakeText -/
def body57 : AC :=
  .seq (.reg [
  ⟨some 4, .mov, [.const (.string ⟨#[]⟩)], none, [], none⟩,
  ⟨some 5, .mov, [.const (.int .i64 0)], none, [], none⟩,
  ⟨some 6, .mov, [.const (.int .i64 0)], none, [], none⟩] false [0, 1, 4, 5, 6, 7, 15, 20])
  (.seq (.reg [
  ⟨some 9, .mov, [.tmp 0], none, [], none⟩,
  ⟨some 10, .mov, [.tmp 1], none, [], none⟩,
  ⟨some 11, (.call 58), [.tmp 9, .tmp 10], none, [], none⟩,
  ⟨some 8, .mov, [.tmp 11], none, [], none⟩,
  ⟨some 12, (.ext 0), [.tmp 8], none, [], none⟩,
  ⟨some 13, (.ext 1), [.tmp 8], none, [], none⟩,
  ⟨some 14, (.ext 2), [.tmp 8], none, [], none⟩,
  ⟨some 7, .mov, [.tmp 12], none, [], none⟩,
  ⟨some 5, .mov, [.tmp 13], none, [], none⟩,
  ⟨some 6, .mov, [.tmp 14], none, [], none⟩] false [0, 1, 4, 5, 6, 7, 15, 20])
  (.seq (.block 0 (.seq (.reg [
  ⟨some 16, .mov, [.tmp 6], none, [], none⟩,
  ⟨some 17, (.bin .neq), [.tmp 16, .const (.int .i64 0)], none, [], none⟩,
  ⟨some 15, .mov, [.tmp 17], none, [], none⟩] false [0, 1, 4, 5, 6, 7, 15, 20])
  (.cond (.tmp 15) (.seq (.reg [
  ⟨some 18, .mov, [.tmp 1], none, [], none⟩,
  ⟨some 19, .mov, [.tmp 6], none, [], none⟩,
  ⟨some 4, .mov, [.const (.string ⟨#[]⟩)], none, [], none⟩,
  ⟨some 5, .mov, [.tmp 18], none, [], none⟩,
  ⟨some 6, .mov, [.tmp 19], none, [], none⟩] false [0, 1, 4, 5, 6, 7, 15, 20])
  (.ret)) (.seq (.reg [
  ⟨some 21, .mov, [.tmp 7], none, [], none⟩,
  ⟨some 22, .mov, [.tmp 0], none, [], none⟩,
  ⟨some 23, .len, [.tmp 22], none, [], none⟩,
  ⟨some 24, .mov, [.tmp 5], none, [], none⟩,
  ⟨some 25, (.bin .sub), [.tmp 23, .tmp 24], none, [], none⟩,
  ⟨some 26, (.cvi .u64), [.tmp 25], none, [], none⟩,
  ⟨some 27, (.bin .gtr), [.tmp 21, .tmp 26], none, [], none⟩,
  ⟨some 20, .mov, [.tmp 27], none, [], none⟩] false [0, 1, 4, 5, 6, 7, 15, 20])
  (.cond (.tmp 20) (.seq (.reg [
  ⟨some 28, .mov, [.tmp 1], none, [], none⟩,
  ⟨some 4, .mov, [.const (.string ⟨#[]⟩)], none, [], none⟩,
  ⟨some 5, .mov, [.tmp 28], none, [], none⟩,
  ⟨some 6, .mov, [.const (.int .i64 10)], none, [], none⟩] false [0, 1, 4, 5, 6, 7, 15, 20])
  (.ret)) (.skip))))))
  (.seq (.reg [
  ⟨some 29, .mov, [.tmp 0], none, [], none⟩,
  ⟨some 30, .mov, [.tmp 5], none, [], none⟩,
  ⟨some 31, .mov, [.tmp 5], none, [], none⟩,
  ⟨some 32, .mov, [.tmp 7], none, [], none⟩,
  ⟨some 33, (.cvi .i64), [.tmp 32], none, [], none⟩,
  ⟨some 34, (.bin .add), [.tmp 31, .tmp 33], none, [], none⟩,
  ⟨some 35, (.slc 1 true true), [.tmp 29, .tmp 30, .tmp 34], none, [], none⟩,
  ⟨some 36, .btoS, [.tmp 35], none, [], none⟩,
  ⟨some 37, .mov, [.tmp 5], none, [], none⟩,
  ⟨some 38, .mov, [.tmp 7], none, [], none⟩,
  ⟨some 39, (.cvi .i64), [.tmp 38], none, [], none⟩,
  ⟨some 40, (.bin .add), [.tmp 37, .tmp 39], none, [], none⟩,
  ⟨some 4, .mov, [.tmp 36], none, [], none⟩,
  ⟨some 5, .mov, [.tmp 40], none, [], none⟩,
  ⟨some 6, .mov, [.const (.int .i64 0)], none, [], none⟩] false [0, 1, 4, 5, 6, 7, 15, 20])
  (.ret))))
def keep57 : List Nat := [0, 1, 4, 5, 6, 7, 15, 20]
theorem fn57 : compFn Try.prog 57 keep57 = some ⟨41, 2, [(4, none), (5, none), (6, none)], body57⟩ := by kernel_rfl

/- chartroom/varint.Take -/
def body58 : AC :=
  .seq (.reg [
  ⟨some 4, .mov, [.const (.int .u64 0)], none, [], none⟩,
  ⟨some 5, .mov, [.const (.int .i64 0)], none, [], none⟩,
  ⟨some 6, .mov, [.const (.int .i64 0)], none, [], none⟩] false [0, 1, 4, 5, 6, 7, 8, 9, 17, 21, 22, 23, 24, 30, 54])
  (.seq (.seq (.reg [
  ⟨some 10, .mov, [.tmp 1], none, [], none⟩,
  ⟨some 11, (.bin .lss), [.tmp 10, .const (.int .i64 0)], none, [], none⟩,
  ⟨some 12, .mov, [.tmp 11], none, [], none⟩,
  ⟨some 13, .mov, [.tmp 1], some (12, false), [], none⟩,
  ⟨some 14, .mov, [.tmp 0], some (12, false), [], none⟩,
  ⟨some 15, .len, [.tmp 14], some (12, false), [], none⟩,
  ⟨some 16, (.bin .geq), [.tmp 13, .tmp 15], some (12, false), [], none⟩,
  ⟨some 17, .pick, [.tmp 12, .const (.bool true), .tmp 16], none, [], none⟩] false [0, 1, 4, 5, 6, 7, 8, 9, 17, 21, 22, 23, 24, 30, 54])
  (.cond (.tmp 17) (.seq (.reg [
  ⟨some 18, .mov, [.tmp 1], none, [], none⟩,
  ⟨some 4, .mov, [.const (.int .u64 0)], none, [], none⟩,
  ⟨some 5, .mov, [.tmp 18], none, [], none⟩,
  ⟨some 6, .mov, [.const (.int .i64 10)], none, [], none⟩] false [0, 1, 4, 5, 6, 7, 8, 9, 17, 21, 22, 23, 24, 30, 54])
  (.ret)) (.skip)))
  (.seq (.reg [
  ⟨some 6, .mov, [.const (.int .i64 10)], none, [], none⟩] false [0, 1, 4, 5, 6, 7, 8, 9, 17, 21, 22, 23, 24, 30, 54])
  (.seq (.skip)
  (.seq (.seq (.reg [
  ⟨some 19, .mov, [.tmp 0], none, [], none⟩,
  ⟨some 20, .mov, [.tmp 1], none, [], none⟩,
  ⟨some 21, (.slc 1 true false), [.tmp 19, .tmp 20], none, [], none⟩,
  ⟨some 22, .len, [.tmp 21], none, [], none⟩,
  ⟨some 23, .mov, [.const (.int .i64 0)], none, [], none⟩] false [0, 1, 4, 5, 6, 7, 8, 9, 17, 21, 22, 23, 24, 30, 54])
  (.block 0 (.loop (.seq (.reg [
   ⟨some 24, (.bin .lss), [.tmp 23, .tmp 22], none, [], none⟩] false [0, 1, 4, 5, 6, 7, 8, 9, 17, 21, 22, 23, 24, 30, 54])
   (.seq (.cond (.tmp 24) (.skip) (.exit 0))
   (.seq (.block 1 (.seq (.reg [
   ⟨some 25, .mov, [.tmp 23], none, [], none⟩,
   ⟨some 26, (.ixa 5 1), [.tmp 21, .tmp 23], none, [], none⟩,
   ⟨some 27, (.load none), [.tmp 26], none, [], none⟩,
   ⟨some 7, .mov, [.tmp 25], none, [], none⟩,
   ⟨some 8, .mov, [.tmp 27], none, [], none⟩] false [0, 1, 4, 5, 6, 7, 8, 9, 17, 21, 22, 23, 24, 30, 54])
   (.seq (.reg [
   ⟨some 28, .mov, [.tmp 8], none, [], none⟩,
   ⟨some 29, (.bin .lss), [.tmp 28, .const (.int .u8 128)], none, [], none⟩,
   ⟨some 9, .mov, [.tmp 29], none, [], none⟩] false [0, 1, 4, 5, 6, 7, 8, 9, 17, 21, 22, 23, 24, 30, 54])
   (.seq (.block 2 (.seq (.seq (.reg [
   ⟨some 31, .mov, [.tmp 7], none, [], none⟩,
   ⟨some 32, (.bin .eql), [.tmp 31, .const (.int .i64 9)], none, [], none⟩,
   ⟨some 33, .mov, [.tmp 32], none, [], none⟩,
   ⟨some 34, .mov, [.tmp 8], some (33, true), [], none⟩,
   ⟨some 35, (.bin .gtr), [.tmp 34, .const (.int .u8 1)], some (33, true), [], none⟩,
   ⟨some 36, .pick, [.tmp 33, .tmp 35, .const (.bool false)], none, [], none⟩,
   ⟨some 30, .mov, [.tmp 36], none, [], none⟩] false [0, 1, 4, 5, 6, 7, 8, 9, 17, 21, 22, 23, 24, 30, 54])
   (.cond (.tmp 30) (.skip) (.reg [
   ⟨some 37, .mov, [.tmp 9], none, [], none⟩,
   ⟨some 38, .mov, [.tmp 37], none, [], none⟩,
   ⟨some 39, .mov, [.tmp 8], some (38, true), [], none⟩,
   ⟨some 40, (.bin .eql), [.tmp 39, .const (.int .u8 0)], some (38, true), [], none⟩,
   ⟨some 41, .pick, [.tmp 38, .tmp 40, .const (.bool false)], none, [], none⟩,
   ⟨some 42, .mov, [.tmp 41], none, [], none⟩,
   ⟨some 43, .mov, [.tmp 7], some (42, true), [], none⟩,
   ⟨some 44, (.bin .gtr), [.tmp 43, .const (.int .i64 0)], some (42, true), [], none⟩,
   ⟨some 45, .pick, [.tmp 42, .tmp 44, .const (.bool false)], none, [], none⟩,
   ⟨some 30, .mov, [.tmp 45], none, [], none⟩] false [0, 1, 4, 5, 6, 7, 8, 9, 17, 21, 22, 23, 24, 30, 54])))
   (.cond (.tmp 30) (.seq (.reg [
   ⟨some 6, .mov, [.const (.int .i64 11)], none, [], none⟩] false [0, 1, 4, 5, 6, 7, 8, 9, 17, 21, 22, 23, 24, 30, 54])
   (.exit 0)) (.skip))))
   (.seq (.reg [
   ⟨some 46, .mov, [.tmp 4], none, [], none⟩,
   ⟨some 47, .mov, [.tmp 8], none, [], none⟩,
   ⟨some 48, (.bin .andNot), [.tmp 47, .const (.int .u8 128)], none, [], none⟩,
   ⟨some 49, (.cvi .u64), [.tmp 48], none, [], none⟩,
   ⟨some 50, .mov, [.tmp 7], none, [], none⟩,
   ⟨some 51, (.bin .mul), [.const (.int .i64 7), .tmp 50], none, [], none⟩,
   ⟨some 52, (.bin .shl), [.tmp 49, .tmp 51], none, [], none⟩,
   ⟨some 53, (.bin .or), [.tmp 46, .tmp 52], none, [], none⟩,
   ⟨some 4, .mov, [.tmp 53], none, [], none⟩] false [0, 1, 4, 5, 6, 7, 8, 9, 17, 21, 22, 23, 24, 30, 54])
   (.seq (.reg [
   ⟨some 54, .mov, [.tmp 9], none, [], none⟩] false [0, 1, 4, 5, 6, 7, 8, 9, 17, 21, 22, 23, 24, 30, 54])
   (.cond (.tmp 54) (.seq (.reg [
   ⟨some 55, .mov, [.tmp 4], none, [], none⟩,
   ⟨some 56, .mov, [.tmp 1], none, [], none⟩,
   ⟨some 57, .mov, [.tmp 7], none, [], none⟩,
   ⟨some 58, (.bin .add), [.tmp 56, .tmp 57], none, [], none⟩,
   ⟨some 59, (.bin .add), [.tmp 58, .const (.int .i64 1)], none, [], none⟩,
   ⟨some 4, .mov, [.tmp 55], none, [], none⟩,
   ⟨some 5, .mov, [.tmp 59], none, [], none⟩,
   ⟨some 6, .mov, [.const (.int .i64 0)], none, [], none⟩] false [0, 1, 4, 5, 6, 7, 8, 9, 17, 21, 22, 23, 24, 30, 54])
   (.ret)) (.skip))))))))
   (.reg [
   ⟨some 60, (.bin .add), [.tmp 23, .const (.int .i64 1)], none, [], none⟩,
   ⟨some 23, .mov, [.tmp 60], none, [], none⟩] false [0, 1, 4, 5, 6, 7, 8, 9, 17, 21, 22, 23, 24, 30, 54])))))))
  (.seq (.reg [
  ⟨some 61, .mov, [.tmp 1], none, [], none⟩,
  ⟨some 62, .mov, [.tmp 6], none, [], none⟩,
  ⟨some 4, .mov, [.const (.int .u64 0)], none, [], none⟩,
  ⟨some 5, .mov, [.tmp 61], none, [], none⟩,
  ⟨some 6, .mov, [.tmp 62], none, [], none⟩] false [0, 1, 4, 5, 6, 7, 8, 9, 17, 21, 22, 23, 24, 30, 54])
  (.ret))))))
def keep58 : List Nat := [0, 1, 4, 5, 6, 7, 8, 9, 17, 21, 22, 23, 24, 30, 54]
theorem fn58 : compFn Try.prog 58 keep58 = some ⟨63, 2, [(4, none), (5, none), (6, none)], body58⟩ := by kernel_rfl

/- chartroom/chartroomref01.same -/
def body59 : AC :=
  .seq (.reg [
  ⟨some 6, .mov, [.const (.bool false)], none, [], none⟩] false [0, 1, 2, 6, 7, 14, 18, 31])
  (.seq (.seq (.reg [
  ⟨some 8, .mov, [.tmp 1], none, [], none⟩,
  ⟨some 9, .mov, [.tmp 2], none, [], none⟩,
  ⟨some 10, .len, [.tmp 9], none, [], none⟩,
  ⟨some 11, (.bin .add), [.tmp 8, .tmp 10], none, [], none⟩,
  ⟨some 12, .mov, [.tmp 0], none, [], none⟩,
  ⟨some 13, .len, [.tmp 12], none, [], none⟩,
  ⟨some 14, (.bin .gtr), [.tmp 11, .tmp 13], none, [], none⟩] false [0, 1, 2, 6, 7, 14, 18, 31])
  (.cond (.tmp 14) (.seq (.reg [
  ⟨some 6, .mov, [.const (.bool false)], none, [], none⟩] false [0, 1, 2, 6, 7, 14, 18, 31])
  (.ret)) (.skip)))
  (.seq (.seq (.reg [
  ⟨some 7, .mov, [.const (.int .i64 0)], none, [], none⟩] false [0, 1, 2, 6, 7, 14, 18, 31])
  (.block 0 (.loop (.seq (.seq (.reg [
   ⟨some 15, .mov, [.tmp 7], none, [], none⟩,
   ⟨some 16, .mov, [.tmp 2], none, [], none⟩,
   ⟨some 17, .len, [.tmp 16], none, [], none⟩,
   ⟨some 18, (.bin .lss), [.tmp 15, .tmp 17], none, [], none⟩] false [0, 1, 2, 6, 7, 14, 18, 31])
   (.cond (.tmp 18) (.skip) (.exit 0)))
   (.seq (.block 1 (.seq (.reg [
   ⟨some 21, .mov, [.tmp 0], none, [], none⟩,
   ⟨some 22, .mov, [.tmp 1], none, [], none⟩,
   ⟨some 23, .mov, [.tmp 7], none, [], none⟩,
   ⟨some 24, (.bin .add), [.tmp 22, .tmp 23], none, [], none⟩,
   ⟨some 25, (.ixa 5 1), [.tmp 21, .tmp 24], none, [], none⟩,
   ⟨some 26, (.load none), [.tmp 25], none, [], none⟩,
   ⟨some 27, .mov, [.tmp 2], none, [], none⟩,
   ⟨some 28, .mov, [.tmp 7], none, [], none⟩,
   ⟨some 29, (.ixa 5 1), [.tmp 27, .tmp 28], none, [], none⟩,
   ⟨some 30, (.load none), [.tmp 29], none, [], none⟩,
   ⟨some 31, (.bin .neq), [.tmp 26, .tmp 30], none, [], none⟩] true [0, 1, 2, 6, 7, 14, 18, 31])
   (.cond (.tmp 31) (.seq (.reg [
   ⟨some 6, .mov, [.const (.bool false)], none, [], none⟩] false [0, 1, 2, 6, 7, 14, 18, 31])
   (.ret)) (.skip))))
   (.reg [
   ⟨some 19, .mov, [.tmp 7], none, [], none⟩,
   ⟨some 20, (.bin .add), [.tmp 19, .const (.int .i64 1)], none, [], none⟩,
   ⟨some 7, .mov, [.tmp 20], none, [], none⟩] false [0, 1, 2, 6, 7, 14, 18, 31]))))))
  (.seq (.reg [
  ⟨some 6, .mov, [.const (.bool true)], none, [], none⟩] false [0, 1, 2, 6, 7, 14, 18, 31])
  (.ret))))
def keep59 : List Nat := [0, 1, 2, 6, 7, 14, 18, 31]
theorem fn59 : compFn Try.prog 59 keep59 = some ⟨32, 3, [(6, none)], body59⟩ := by kernel_rfl

end Go.Proofs.Ytcgllachkjnlgaa.Ab
