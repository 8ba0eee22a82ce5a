/- The code of the functions, in the abstract machine's form (printed by wip/mk.py). -/
import Derived.Test.YtcgllachkjnlgaaAb21
import Derived.Test.YtcgllachkjnlgaaChecked
namespace Go.Proofs.Ytcgllachkjnlgaa.Ab.L
open Go Go.RowKit
set_option maxRecDepth 100000

/- chartroom/chartroomlaw05.DeltaApplies -/
def body3 : AC :=
  .seq (.reg [
  ⟨some 4, .mov, [.const (.bool false)], none, [], none⟩] false [0, 1, 4, 5, 6, 7, 8, 9, 10, 11, 12, 13, 14, 15, 16, 17, 18, 19, 20, 21, 22, 30, 122, 126])
  (.seq (.seq (.reg [
  ⟨some 23, .mov, [.tmp 0], none, [], none⟩,
  ⟨some 24, .slen, [.tmp 23], none, [], none⟩,
  ⟨some 25, (.bin .gtr), [.tmp 24, .const (.int .i64 2000)], none, [], none⟩,
  ⟨some 26, .mov, [.tmp 25], none, [], none⟩,
  ⟨some 27, .mov, [.tmp 1], some (26, false), [], none⟩,
  ⟨some 28, (.call 8), [.tmp 27], some (26, false), [], none⟩,
  ⟨some 29, .not, [.tmp 28], some (26, false), [], none⟩,
  ⟨some 30, .pick, [.tmp 26, .const (.bool true), .tmp 29], none, [], none⟩] false [0, 1, 4, 5, 6, 7, 8, 9, 10, 11, 12, 13, 14, 15, 16, 17, 18, 19, 20, 21, 22, 30, 122, 126])
  (.cond (.tmp 30) (.seq (.reg [
  ⟨some 31, (.call 9), [], none, [], none⟩,
  ⟨some 4, .mov, [.tmp 31], none, [], none⟩] false [0, 1, 4, 5, 6, 7, 8, 9, 10, 11, 12, 13, 14, 15, 16, 17, 18, 19, 20, 21, 22, 30, 122, 126])
  (.ret)) (.skip)))
  (.seq (.reg [
  ⟨some 32, .mov, [.tmp 1], none, [], none⟩,
  ⟨some 33, (.call 10), [.tmp 32], none, [], none⟩,
  ⟨some 5, .mov, [.tmp 33], none, [], none⟩] false [0, 1, 4, 5, 6, 7, 8, 9, 10, 11, 12, 13, 14, 15, 16, 17, 18, 19, 20, 21, 22, 30, 122, 126])
  (.seq (.reg [
  ⟨some 35, .mov, [.tmp 0], none, [], none⟩,
  ⟨some 36, .mov, [.tmp 1], none, [], none⟩,
  ⟨some 37, (.call 11), [.tmp 35, .tmp 36], none, [], none⟩,
  ⟨some 34, .mov, [.tmp 37], none, [], none⟩,
  ⟨some 38, (.ext 0), [.tmp 34], none, [], none⟩,
  ⟨some 39, (.ext 1), [.tmp 34], none, [], none⟩,
  ⟨some 6, .mov, [.tmp 38], none, [], none⟩,
  ⟨some 7, .mov, [.tmp 39], none, [], none⟩] false [0, 1, 4, 5, 6, 7, 8, 9, 10, 11, 12, 13, 14, 15, 16, 17, 18, 19, 20, 21, 22, 30, 122, 126])
  (.seq (.reg [
  ⟨some 41, .mov, [.tmp 0], none, [], none⟩,
  ⟨some 42, .mov, [.tmp 5], none, [], none⟩,
  ⟨some 43, (.call 12), [.tmp 41, .tmp 42], none, [], none⟩,
  ⟨some 40, .mov, [.tmp 43], none, [], none⟩,
  ⟨some 44, (.ext 0), [.tmp 40], none, [], none⟩,
  ⟨some 45, (.ext 1), [.tmp 40], none, [], none⟩,
  ⟨some 8, .mov, [.tmp 44], none, [], none⟩,
  ⟨some 9, .mov, [.tmp 45], none, [], none⟩] false [0, 1, 4, 5, 6, 7, 8, 9, 10, 11, 12, 13, 14, 15, 16, 17, 18, 19, 20, 21, 22, 30, 122, 126])
  (.seq (.reg [
  ⟨some 47, .mov, [.tmp 1], none, [], none⟩,
  ⟨some 48, (.call 13), [.tmp 47], none, [], none⟩,
  ⟨some 46, .mov, [.tmp 48], none, [], none⟩,
  ⟨some 49, (.ext 0), [.tmp 46], none, [], none⟩,
  ⟨some 50, (.ext 1), [.tmp 46], none, [], none⟩,
  ⟨some 10, .mov, [.tmp 49], none, [], none⟩,
  ⟨some 11, .mov, [.tmp 50], none, [], none⟩] false [0, 1, 4, 5, 6, 7, 8, 9, 10, 11, 12, 13, 14, 15, 16, 17, 18, 19, 20, 21, 22, 30, 122, 126])
  (.seq (.reg [
  ⟨some 52, .mov, [.tmp 5], none, [], none⟩,
  ⟨some 53, (.call 14), [.tmp 52], none, [], none⟩,
  ⟨some 51, .mov, [.tmp 53], none, [], none⟩,
  ⟨some 54, (.ext 0), [.tmp 51], none, [], none⟩,
  ⟨some 55, (.ext 1), [.tmp 51], none, [], none⟩,
  ⟨some 12, .mov, [.tmp 54], none, [], none⟩,
  ⟨some 13, .mov, [.tmp 55], none, [], none⟩] false [0, 1, 4, 5, 6, 7, 8, 9, 10, 11, 12, 13, 14, 15, 16, 17, 18, 19, 20, 21, 22, 30, 122, 126])
  (.seq (.reg [
  ⟨some 57, .mov, [.tmp 1], none, [], none⟩,
  ⟨some 58, (.call 15), [.tmp 57], none, [], none⟩,
  ⟨some 56, .mov, [.tmp 58], none, [], none⟩,
  ⟨some 59, (.ext 0), [.tmp 56], none, [], none⟩,
  ⟨some 60, (.ext 1), [.tmp 56], none, [], none⟩,
  ⟨some 14, .mov, [.tmp 59], none, [], none⟩,
  ⟨some 15, .mov, [.tmp 60], none, [], none⟩] false [0, 1, 4, 5, 6, 7, 8, 9, 10, 11, 12, 13, 14, 15, 16, 17, 18, 19, 20, 21, 22, 30, 122, 126])
  (.seq (.reg [
  ⟨some 62, .mov, [.tmp 5], none, [], none⟩,
  ⟨some 63, (.call 16), [.tmp 62], none, [], none⟩,
  ⟨some 61, .mov, [.tmp 63], none, [], none⟩,
  ⟨some 64, (.ext 0), [.tmp 61], none, [], none⟩,
  ⟨some 65, (.ext 1), [.tmp 61], none, [], none⟩,
  ⟨some 16, .mov, [.tmp 64], none, [], none⟩,
  ⟨some 17, .mov, [.tmp 65], none, [], none⟩] false [0, 1, 4, 5, 6, 7, 8, 9, 10, 11, 12, 13, 14, 15, 16, 17, 18, 19, 20, 21, 22, 30, 122, 126])
  (.seq (.reg [
  ⟨some 67, .mov, [.tmp 1], none, [], none⟩,
  ⟨some 68, (.call 17), [.tmp 67], none, [], none⟩,
  ⟨some 66, .mov, [.tmp 68], none, [], none⟩,
  ⟨some 69, (.ext 0), [.tmp 66], none, [], none⟩,
  ⟨some 70, (.ext 1), [.tmp 66], none, [], none⟩,
  ⟨some 18, .mov, [.tmp 69], none, [], none⟩,
  ⟨some 19, .mov, [.tmp 70], none, [], none⟩] false [0, 1, 4, 5, 6, 7, 8, 9, 10, 11, 12, 13, 14, 15, 16, 17, 18, 19, 20, 21, 22, 30, 122, 126])
  (.seq (.reg [
  ⟨some 72, .mov, [.tmp 5], none, [], none⟩,
  ⟨some 73, (.call 18), [.tmp 72], none, [], none⟩,
  ⟨some 71, .mov, [.tmp 73], none, [], none⟩,
  ⟨some 74, (.ext 0), [.tmp 71], none, [], none⟩,
  ⟨some 75, (.ext 1), [.tmp 71], none, [], none⟩,
  ⟨some 20, .mov, [.tmp 74], none, [], none⟩,
  ⟨some 21, .mov, [.tmp 75], none, [], none⟩] false [0, 1, 4, 5, 6, 7, 8, 9, 10, 11, 12, 13, 14, 15, 16, 17, 18, 19, 20, 21, 22, 30, 122, 126])
  (.seq (.seq (.reg (
  ⟨some 76, .mov, [.tmp 6], none, [], none⟩ ::
  ⟨some 77, .mov, [.tmp 8], none, [], none⟩ ::
  ⟨some 78, (.bin .neq), [.tmp 76, .tmp 77], none, [], none⟩ ::
  ⟨some 79, .mov, [.tmp 78], none, [], none⟩ ::
  ⟨some 80, .mov, [.tmp 7], some (79, false), [], none⟩ ::
  ⟨some 81, .mov, [.tmp 9], some (79, false), [], none⟩ ::
  ⟨some 82, (.bin .neq), [.tmp 80, .tmp 81], some (79, false), [], none⟩ ::
  ⟨some 83, .pick, [.tmp 79, .const (.bool true), .tmp 82], none, [], none⟩ ::
  ⟨some 84, .mov, [.tmp 83], none, [], none⟩ ::
  ⟨some 85, .mov, [.tmp 10], some (84, false), [], none⟩ ::
  ⟨some 86, .mov, [.tmp 12], some (84, false), [], none⟩ ::
  ⟨some 87, (.bin .neq), [.tmp 85, .tmp 86], some (84, false), [], none⟩ ::
  ⟨some 88, .pick, [.tmp 84, .const (.bool true), .tmp 87], none, [], none⟩ ::
  ⟨some 89, .mov, [.tmp 88], none, [], none⟩ ::
  ⟨some 90, .mov, [.tmp 11], some (89, false), [], none⟩ ::
  ⟨some 91, .mov, [.tmp 13], some (89, false), [], none⟩ ::
  ⟨some 92, (.bin .neq), [.tmp 90, .tmp 91], some (89, false), [], none⟩ ::
  ⟨some 93, .pick, [.tmp 89, .const (.bool true), .tmp 92], none, [], none⟩ ::
  ⟨some 94, .mov, [.tmp 93], none, [], none⟩ ::
  ⟨some 95, .mov, [.tmp 14], some (94, false), [], none⟩ ::
  ⟨some 96, .mov, [.tmp 16], some (94, false), [], none⟩ ::
  ⟨some 97, (.call 19), [.tmp 95, .tmp 96], some (94, false), [], none⟩ ::
  ⟨some 98, .not, [.tmp 97], some (94, false), [], none⟩ ::
  ⟨some 99, .pick, [.tmp 94, .const (.bool true), .tmp 98], none, [], none⟩ ::
  ⟨some 100, .mov, [.tmp 99], none, [], none⟩ ::
  ⟨some 101, .mov, [.tmp 15], some (100, false), [], none⟩ ::
  ⟨some 102, .mov, [.tmp 17], some (100, false), [], none⟩ ::
  ⟨some 103, (.bin .neq), [.tmp 101, .tmp 102], some (100, false), [], none⟩ ::
  ⟨some 104, .pick, [.tmp 100, .const (.bool true), .tmp 103], none, [], none⟩ ::
  ⟨some 105, .mov, [.tmp 104], none, [], none⟩ ::
  ⟨some 106, .mov, [.tmp 18], some (105, false), [], none⟩ ::
  ⟨some 107, .mov, [.tmp 20], some (105, false), [], none⟩ ::
  ⟨some 108, (.call 20), [.tmp 106, .tmp 107], some (105, false), [], none⟩ ::
  ⟨some 109, .not, [.tmp 108], some (105, false), [], none⟩ ::
  ⟨some 110, .pick, [.tmp 105, .const (.bool true), .tmp 109], none, [], none⟩ ::
  ⟨some 111, .mov, [.tmp 110], none, [], none⟩ ::
  ⟨some 112, .mov, [.tmp 19], some (111, false), [], none⟩ ::
  ⟨some 113, .mov, [.tmp 21], some (111, false), [], none⟩ ::
  ⟨some 114, (.bin .neq), [.tmp 112, .tmp 113], some (111, false), [], none⟩ ::
  ⟨some 115, .pick, [.tmp 111, .const (.bool true), .tmp 114], none, [], none⟩ ::
  ⟨some 116, .mov, [.tmp 115], none, [], none⟩ ::
  ⟨some 117, .mov, [.tmp 1], some (116, false), [], none⟩ ::
  ⟨some 118, (.call 21), [.tmp 117], some (116, false), [], none⟩ ::
  ⟨some 119, .mov, [.tmp 5], some (116, false), [], none⟩ ::
  ⟨some 120, (.call 22), [.tmp 119], some (116, false), [], none⟩ ::
  ⟨some 121, (.beq true), [.tmp 118, .tmp 120], some (116, false), [], none⟩ ::
  ⟨some 122, .pick, [.tmp 116, .const (.bool true), .tmp 121], none, [], none⟩ :: []) false [0, 1, 4, 5, 6, 7, 8, 9, 10, 11, 12, 13, 14, 15, 16, 17, 18, 19, 20, 21, 22, 30, 122, 126])
  (.cond (.tmp 122) (.seq (.reg [
  ⟨some 4, .mov, [.const (.bool false)], none, [], none⟩] false [0, 1, 4, 5, 6, 7, 8, 9, 10, 11, 12, 13, 14, 15, 16, 17, 18, 19, 20, 21, 22, 30, 122, 126])
  (.ret)) (.skip)))
  (.seq (.seq (.reg [
  ⟨some 22, .mov, [.const (.int .i64 0)], none, [], none⟩] false [0, 1, 4, 5, 6, 7, 8, 9, 10, 11, 12, 13, 14, 15, 16, 17, 18, 19, 20, 21, 22, 30, 122, 126])
  (.block 0 (.loop (.seq (.seq (.reg [
   ⟨some 123, .mov, [.tmp 22], none, [], none⟩,
   ⟨some 124, .mov, [.tmp 14], none, [], none⟩,
   ⟨some 125, .len, [.tmp 124], none, [], none⟩,
   ⟨some 126, (.bin .lss), [.tmp 123, .tmp 125], none, [], none⟩] false [0, 1, 4, 5, 6, 7, 8, 9, 10, 11, 12, 13, 14, 15, 16, 17, 18, 19, 20, 21, 22, 30, 122, 126])
   (.cond (.tmp 126) (.skip) (.exit 0)))
   (.seq (.block 1 (.reg [
   ⟨some 129, .mov, [.tmp 14], none, [], none⟩,
   ⟨some 130, .mov, [.tmp 22], none, [], none⟩,
   ⟨some 131, (.bld [(.int .u8 0), (.int .i64 0), (.string ⟨#[]⟩)] []), [], none, [], none⟩,
   ⟨some 132, (.ixa 47 3), [.tmp 129, .tmp 130], none, [], none⟩,
   ⟨none, (.store (some 3)), [.tmp 132, .tmp 131], none, [], none⟩] false [0, 1, 4, 5, 6, 7, 8, 9, 10, 11, 12, 13, 14, 15, 16, 17, 18, 19, 20, 21, 22, 30, 122, 126]))
   (.reg [
   ⟨some 127, .mov, [.tmp 22], none, [], none⟩,
   ⟨some 128, (.bin .add), [.tmp 127, .const (.int .i64 1)], none, [], none⟩,
   ⟨some 22, .mov, [.tmp 128], none, [], none⟩] false [0, 1, 4, 5, 6, 7, 8, 9, 10, 11, 12, 13, 14, 15, 16, 17, 18, 19, 20, 21, 22, 30, 122, 126]))))))
  (.seq (.reg [
  ⟨some 133, .mov, [.tmp 1], none, [], none⟩,
  ⟨some 134, .mov, [.tmp 5], none, [], none⟩,
  ⟨some 135, (.call 19), [.tmp 133, .tmp 134], none, [], none⟩,
  ⟨some 136, .mov, [.tmp 135], none, [], none⟩,
  ⟨some 137, (.call 9), [], some (136, true), [], none⟩,
  ⟨some 138, .pick, [.tmp 136, .tmp 137, .const (.bool false)], none, [], none⟩,
  ⟨some 4, .mov, [.tmp 138], none, [], none⟩] false [0, 1, 4, 5, 6, 7, 8, 9, 10, 11, 12, 13, 14, 15, 16, 17, 18, 19, 20, 21, 22, 30, 122, 126])
  (.ret))))))))))))))
def keep3 : List Nat := [0, 1, 4, 5, 6, 7, 8, 9, 10, 11, 12, 13, 14, 15, 16, 17, 18, 19, 20, 21, 22, 30, 122, 126]
theorem fn3 : compFn Try.prog 3 keep3 = some ⟨139, 2, [(4, none)], body3⟩ := by kernel_rfl

/- chartroom/chartroomlaw05.DeltaDiffs -/
def body4 : AC :=
  .seq (.reg [
  ⟨some 4, .mov, [.const (.bool false)], none, [], none⟩] false [0, 1, 4, 5, 6, 7, 8, 9, 10, 11, 19])
  (.seq (.seq (.reg [
  ⟨some 12, .mov, [.tmp 0], none, [], none⟩,
  ⟨some 13, .slen, [.tmp 12], none, [], none⟩,
  ⟨some 14, (.bin .gtr), [.tmp 13, .const (.int .i64 2000)], none, [], none⟩,
  ⟨some 15, .mov, [.tmp 14], none, [], none⟩,
  ⟨some 16, .mov, [.tmp 1], some (15, false), [], none⟩,
  ⟨some 17, .slen, [.tmp 16], some (15, false), [], none⟩,
  ⟨some 18, (.bin .gtr), [.tmp 17, .const (.int .i64 2000)], some (15, false), [], none⟩,
  ⟨some 19, .pick, [.tmp 15, .const (.bool true), .tmp 18], none, [], none⟩] false [0, 1, 4, 5, 6, 7, 8, 9, 10, 11, 19])
  (.cond (.tmp 19) (.seq (.reg [
  ⟨some 20, (.call 9), [], none, [], none⟩,
  ⟨some 4, .mov, [.tmp 20], none, [], none⟩] false [0, 1, 4, 5, 6, 7, 8, 9, 10, 11, 19])
  (.ret)) (.skip)))
  (.seq (.reg [
  ⟨some 21, .mov, [.tmp 0], none, [], none⟩,
  ⟨some 22, .mov, [.tmp 1], none, [], none⟩,
  ⟨some 23, (.call 23), [.tmp 21, .tmp 22], none, [], none⟩,
  ⟨some 5, .mov, [.tmp 23], none, [], none⟩] false [0, 1, 4, 5, 6, 7, 8, 9, 10, 11, 19])
  (.seq (.reg [
  ⟨some 25, .mov, [.tmp 0], none, [], none⟩,
  ⟨some 26, .mov, [.tmp 5], none, [], none⟩,
  ⟨some 27, (.call 11), [.tmp 25, .tmp 26], none, [], none⟩,
  ⟨some 24, .mov, [.tmp 27], none, [], none⟩,
  ⟨some 28, (.ext 0), [.tmp 24], none, [], none⟩,
  ⟨some 29, (.ext 1), [.tmp 24], none, [], none⟩,
  ⟨some 6, .mov, [.tmp 28], none, [], none⟩,
  ⟨some 7, .mov, [.tmp 29], none, [], none⟩] false [0, 1, 4, 5, 6, 7, 8, 9, 10, 11, 19])
  (.seq (.reg [
  ⟨some 31, .mov, [.tmp 5], none, [], none⟩,
  ⟨some 32, (.call 15), [.tmp 31], none, [], none⟩,
  ⟨some 30, .mov, [.tmp 32], none, [], none⟩,
  ⟨some 33, (.ext 0), [.tmp 30], none, [], none⟩,
  ⟨some 34, (.ext 1), [.tmp 30], none, [], none⟩,
  ⟨some 8, .mov, [.tmp 33], none, [], none⟩,
  ⟨some 9, .mov, [.tmp 34], none, [], none⟩] false [0, 1, 4, 5, 6, 7, 8, 9, 10, 11, 19])
  (.seq (.reg [
  ⟨some 36, .mov, [.tmp 5], none, [], none⟩,
  ⟨some 37, (.call 13), [.tmp 36], none, [], none⟩,
  ⟨some 35, .mov, [.tmp 37], none, [], none⟩,
  ⟨some 38, (.ext 0), [.tmp 35], none, [], none⟩,
  ⟨some 39, (.ext 1), [.tmp 35], none, [], none⟩,
  ⟨some 10, .mov, [.tmp 38], none, [], none⟩,
  ⟨some 11, .mov, [.tmp 39], none, [], none⟩] false [0, 1, 4, 5, 6, 7, 8, 9, 10, 11, 19])
  (.seq (.reg (
  ⟨some 40, .mov, [.tmp 5], none, [], none⟩ ::
  ⟨some 41, .mov, [.tmp 0], none, [], none⟩ ::
  ⟨some 42, .mov, [.tmp 1], none, [], none⟩ ::
  ⟨some 43, (.call 24), [.tmp 41, .tmp 42], none, [], none⟩ ::
  ⟨some 44, (.call 19), [.tmp 40, .tmp 43], none, [], none⟩ ::
  ⟨some 45, .mov, [.tmp 44], none, [], none⟩ ::
  ⟨some 46, .mov, [.tmp 7], some (45, true), [], none⟩ ::
  ⟨some 47, (.bin .eql), [.tmp 46, .const (.int .i64 0)], some (45, true), [], none⟩ ::
  ⟨some 48, .pick, [.tmp 45, .tmp 47, .const (.bool false)], none, [], none⟩ ::
  ⟨some 49, .mov, [.tmp 48], none, [], none⟩ ::
  ⟨some 50, .mov, [.tmp 6], some (49, true), [], none⟩ ::
  ⟨some 51, .mov, [.tmp 1], some (49, true), [], none⟩ ::
  ⟨some 52, (.bin .eql), [.tmp 50, .tmp 51], some (49, true), [], none⟩ ::
  ⟨some 53, .pick, [.tmp 49, .tmp 52, .const (.bool false)], none, [], none⟩ ::
  ⟨some 54, .mov, [.tmp 53], none, [], none⟩ ::
  ⟨some 55, .mov, [.tmp 9], some (54, true), [], none⟩ ::
  ⟨some 56, (.bin .eql), [.tmp 55, .const (.int .i64 0)], some (54, true), [], none⟩ ::
  ⟨some 57, .pick, [.tmp 54, .tmp 56, .const (.bool false)], none, [], none⟩ ::
  ⟨some 58, .mov, [.tmp 57], none, [], none⟩ ::
  ⟨some 59, .mov, [.tmp 8], some (58, true), [], none⟩ ::
  ⟨some 60, .mov, [.tmp 5], some (58, true), [], none⟩ ::
  ⟨some 61, (.call 10), [.tmp 60], some (58, true), [], none⟩ ::
  ⟨some 62, (.call 19), [.tmp 59, .tmp 61], some (58, true), [], none⟩ ::
  ⟨some 63, .pick, [.tmp 58, .tmp 62, .const (.bool false)], none, [], none⟩ ::
  ⟨some 64, .mov, [.tmp 63], none, [], none⟩ ::
  ⟨some 65, .mov, [.tmp 10], some (64, true), [], none⟩ ::
  ⟨some 66, .mov, [.tmp 0], some (64, true), [], none⟩ ::
  ⟨some 67, .slen, [.tmp 66], some (64, true), [], none⟩ ::
  ⟨some 68, (.bin .eql), [.tmp 65, .tmp 67], some (64, true), [], none⟩ ::
  ⟨some 69, .pick, [.tmp 64, .tmp 68, .const (.bool false)], none, [], none⟩ ::
  ⟨some 70, .mov, [.tmp 69], none, [], none⟩ ::
  ⟨some 71, .mov, [.tmp 11], some (70, true), [], none⟩ ::
  ⟨some 72, .mov, [.tmp 1], some (70, true), [], none⟩ ::
  ⟨some 73, .slen, [.tmp 72], some (70, true), [], none⟩ ::
  ⟨some 74, (.bin .eql), [.tmp 71, .tmp 73], some (70, true), [], none⟩ ::
  ⟨some 75, .pick, [.tmp 70, .tmp 74, .const (.bool false)], none, [], none⟩ ::
  ⟨some 76, .mov, [.tmp 75], none, [], none⟩ ::
  ⟨some 77, (.call 9), [], some (76, true), [], none⟩ ::
  ⟨some 78, .pick, [.tmp 76, .tmp 77, .const (.bool false)], none, [], none⟩ ::
  ⟨some 4, .mov, [.tmp 78], none, [], none⟩ :: []) false [0, 1, 4, 5, 6, 7, 8, 9, 10, 11, 19])
  (.ret)))))))
def keep4 : List Nat := [0, 1, 4, 5, 6, 7, 8, 9, 10, 11, 19]
theorem fn4 : compFn Try.prog 4 keep4 = some ⟨79, 2, [(4, none)], body4⟩ := by kernel_rfl

/- chartroom/chartroomlaw05.DeltaParses -/
def body5 : AC :=
  .seq (.reg [
  ⟨some 2, .mov, [.const (.bool false)], none, [], none⟩] false [0, 2, 3, 4, 5, 6, 7, 10])
  (.seq (.seq (.reg [
  ⟨some 8, .mov, [.tmp 0], none, [], none⟩,
  ⟨some 9, .len, [.tmp 8], none, [], none⟩,
  ⟨some 10, (.bin .gtr), [.tmp 9, .const (.int .i64 2000)], none, [], none⟩] false [0, 2, 3, 4, 5, 6, 7, 10])
  (.cond (.tmp 10) (.seq (.reg [
  ⟨some 11, (.call 9), [], none, [], none⟩,
  ⟨some 2, .mov, [.tmp 11], none, [], none⟩] false [0, 2, 3, 4, 5, 6, 7, 10])
  (.ret)) (.skip)))
  (.seq (.reg [
  ⟨some 12, .mov, [.tmp 0], none, [], none⟩,
  ⟨some 13, (.call 25), [.tmp 12], none, [], none⟩,
  ⟨some 3, .mov, [.tmp 13], none, [], none⟩] false [0, 2, 3, 4, 5, 6, 7, 10])
  (.seq (.reg [
  ⟨some 15, .mov, [.tmp 0], none, [], none⟩,
  ⟨some 16, (.call 26), [.tmp 15], none, [], none⟩,
  ⟨some 14, .mov, [.tmp 16], none, [], none⟩,
  ⟨some 17, (.ext 0), [.tmp 14], none, [], none⟩,
  ⟨some 18, (.ext 1), [.tmp 14], none, [], none⟩,
  ⟨some 4, .mov, [.tmp 17], none, [], none⟩,
  ⟨some 5, .mov, [.tmp 18], none, [], none⟩] false [0, 2, 3, 4, 5, 6, 7, 10])
  (.seq (.reg [
  ⟨some 20, .mov, [.tmp 3], none, [], none⟩,
  ⟨some 21, (.call 27), [.tmp 20], none, [], none⟩,
  ⟨some 19, .mov, [.tmp 21], none, [], none⟩,
  ⟨some 22, (.ext 0), [.tmp 19], none, [], none⟩,
  ⟨some 23, (.ext 1), [.tmp 19], none, [], none⟩,
  ⟨some 6, .mov, [.tmp 22], none, [], none⟩,
  ⟨some 7, .mov, [.tmp 23], none, [], none⟩] false [0, 2, 3, 4, 5, 6, 7, 10])
  (.seq (.reg [
  ⟨some 24, .mov, [.tmp 5], none, [], none⟩,
  ⟨some 25, .mov, [.tmp 7], none, [], none⟩,
  ⟨some 26, (.bin .eql), [.tmp 24, .tmp 25], none, [], none⟩,
  ⟨some 27, .mov, [.tmp 26], none, [], none⟩,
  ⟨some 28, .mov, [.tmp 4], some (27, true), [], none⟩,
  ⟨some 29, .mov, [.tmp 6], some (27, true), [], none⟩,
  ⟨some 30, (.call 19), [.tmp 28, .tmp 29], some (27, true), [], none⟩,
  ⟨some 31, .pick, [.tmp 27, .tmp 30, .const (.bool false)], none, [], none⟩,
  ⟨some 32, .mov, [.tmp 31], none, [], none⟩,
  ⟨some 33, .mov, [.tmp 0], some (32, true), [], none⟩,
  ⟨some 34, .mov, [.tmp 3], some (32, true), [], none⟩,
  ⟨some 35, (.call 20), [.tmp 33, .tmp 34], some (32, true), [], none⟩,
  ⟨some 36, .pick, [.tmp 32, .tmp 35, .const (.bool false)], none, [], none⟩,
  ⟨some 37, .mov, [.tmp 36], none, [], none⟩,
  ⟨some 38, (.call 9), [], some (37, true), [], none⟩,
  ⟨some 39, .pick, [.tmp 37, .tmp 38, .const (.bool false)], none, [], none⟩,
  ⟨some 2, .mov, [.tmp 39], none, [], none⟩] false [0, 2, 3, 4, 5, 6, 7, 10])
  (.ret))))))
def keep5 : List Nat := [0, 2, 3, 4, 5, 6, 7, 10]
theorem fn5 : compFn Try.prog 5 keep5 = some ⟨40, 1, [(2, none)], body5⟩ := by kernel_rfl

/- chartroom/chartroomlaw05.DeltaBack -/
def body6 : AC :=
  .seq (.reg [
  ⟨some 6, .mov, [.const (.bool false)], none, [], none⟩] false [0, 1, 2, 6, 7, 8, 9, 10, 11, 12, 13, 14, 15, 16, 17, 18, 19, 20, 21, 22, 23, 24, 25, 26, 39, 47, 61, 68, 81, 94, 152])
  (.seq (.seq (.reg [
  ⟨some 27, .mov, [.tmp 0], none, [], none⟩,
  ⟨some 28, .slen, [.tmp 27], none, [], none⟩,
  ⟨some 29, (.bin .gtr), [.tmp 28, .const (.int .i64 2000)], none, [], none⟩,
  ⟨some 30, .mov, [.tmp 29], none, [], none⟩,
  ⟨some 31, .mov, [.tmp 1], some (30, false), [], none⟩,
  ⟨some 32, (.call 8), [.tmp 31], some (30, false), [], none⟩,
  ⟨some 33, .not, [.tmp 32], some (30, false), [], none⟩,
  ⟨some 34, .pick, [.tmp 30, .const (.bool true), .tmp 33], none, [], none⟩,
  ⟨some 35, .mov, [.tmp 34], none, [], none⟩,
  ⟨some 36, .mov, [.tmp 2], some (35, false), [], none⟩,
  ⟨some 37, .len, [.tmp 36], some (35, false), [], none⟩,
  ⟨some 38, (.bin .gtr), [.tmp 37, .const (.int .i64 500)], some (35, false), [], none⟩,
  ⟨some 39, .pick, [.tmp 35, .const (.bool true), .tmp 38], none, [], none⟩] false [0, 1, 2, 6, 7, 8, 9, 10, 11, 12, 13, 14, 15, 16, 17, 18, 19, 20, 21, 22, 23, 24, 25, 26, 39, 47, 61, 68, 81, 94, 152])
  (.cond (.tmp 39) (.seq (.reg [
  ⟨some 40, (.call 9), [], none, [], none⟩,
  ⟨some 6, .mov, [.tmp 40], none, [], none⟩] false [0, 1, 2, 6, 7, 8, 9, 10, 11, 12, 13, 14, 15, 16, 17, 18, 19, 20, 21, 22, 23, 24, 25, 26, 39, 47, 61, 68, 81, 94, 152])
  (.ret)) (.skip)))
  (.seq (.reg [
  ⟨some 42, .mov, [.tmp 1], none, [], none⟩,
  ⟨some 43, (.call 17), [.tmp 42], none, [], none⟩,
  ⟨some 41, .mov, [.tmp 43], none, [], none⟩,
  ⟨some 44, (.ext 0), [.tmp 41], none, [], none⟩,
  ⟨some 45, (.ext 1), [.tmp 41], none, [], none⟩,
  ⟨some 7, .mov, [.tmp 44], none, [], none⟩,
  ⟨some 8, .mov, [.tmp 45], none, [], none⟩] false [0, 1, 2, 6, 7, 8, 9, 10, 11, 12, 13, 14, 15, 16, 17, 18, 19, 20, 21, 22, 23, 24, 25, 26, 39, 47, 61, 68, 81, 94, 152])
  (.seq (.seq (.reg [
  ⟨some 46, .mov, [.tmp 8], none, [], none⟩,
  ⟨some 47, (.bin .eql), [.tmp 46, .const (.int .i64 0)], none, [], none⟩] false [0, 1, 2, 6, 7, 8, 9, 10, 11, 12, 13, 14, 15, 16, 17, 18, 19, 20, 21, 22, 23, 24, 25, 26, 39, 47, 61, 68, 81, 94, 152])
  (.cond (.tmp 47) (.seq (.reg [
  ⟨some 49, .mov, [.tmp 7], none, [], none⟩,
  ⟨some 50, (.call 26), [.tmp 49], none, [], none⟩,
  ⟨some 48, .mov, [.tmp 50], none, [], none⟩,
  ⟨some 51, (.ext 0), [.tmp 48], none, [], none⟩,
  ⟨some 52, (.ext 1), [.tmp 48], none, [], none⟩,
  ⟨some 9, .mov, [.tmp 51], none, [], none⟩,
  ⟨some 10, .mov, [.tmp 52], none, [], none⟩] false [0, 1, 2, 6, 7, 8, 9, 10, 11, 12, 13, 14, 15, 16, 17, 18, 19, 20, 21, 22, 23, 24, 25, 26, 39, 47, 61, 68, 81, 94, 152])
  (.seq (.reg [
  ⟨some 53, .mov, [.tmp 10], none, [], none⟩,
  ⟨some 54, (.bin .neq), [.tmp 53, .const (.int .i64 0)], none, [], none⟩,
  ⟨some 55, .mov, [.tmp 54], none, [], none⟩,
  ⟨some 56, .mov, [.tmp 9], some (55, false), [], none⟩,
  ⟨some 57, .mov, [.tmp 1], some (55, false), [], none⟩,
  ⟨some 58, (.call 10), [.tmp 57], some (55, false), [], none⟩,
  ⟨some 59, (.call 19), [.tmp 56, .tmp 58], some (55, false), [], none⟩,
  ⟨some 60, .not, [.tmp 59], some (55, false), [], none⟩,
  ⟨some 61, .pick, [.tmp 55, .const (.bool true), .tmp 60], none, [], none⟩] false [0, 1, 2, 6, 7, 8, 9, 10, 11, 12, 13, 14, 15, 16, 17, 18, 19, 20, 21, 22, 23, 24, 25, 26, 39, 47, 61, 68, 81, 94, 152])
  (.cond (.tmp 61) (.seq (.reg [
  ⟨some 6, .mov, [.const (.bool false)], none, [], none⟩] false [0, 1, 2, 6, 7, 8, 9, 10, 11, 12, 13, 14, 15, 16, 17, 18, 19, 20, 21, 22, 23, 24, 25, 26, 39, 47, 61, 68, 81, 94, 152])
  (.ret)) (.skip)))) (.skip)))
  (.seq (.reg [
  ⟨some 63, .mov, [.tmp 2], none, [], none⟩,
  ⟨some 64, (.call 26), [.tmp 63], none, [], none⟩,
  ⟨some 62, .mov, [.tmp 64], none, [], none⟩,
  ⟨some 65, (.ext 0), [.tmp 62], none, [], none⟩,
  ⟨some 66, (.ext 1), [.tmp 62], none, [], none⟩,
  ⟨some 11, .mov, [.tmp 65], none, [], none⟩,
  ⟨some 12, .mov, [.tmp 66], none, [], none⟩] false [0, 1, 2, 6, 7, 8, 9, 10, 11, 12, 13, 14, 15, 16, 17, 18, 19, 20, 21, 22, 23, 24, 25, 26, 39, 47, 61, 68, 81, 94, 152])
  (.seq (.seq (.reg [
  ⟨some 67, .mov, [.tmp 12], none, [], none⟩,
  ⟨some 68, (.bin .eql), [.tmp 67, .const (.int .i64 0)], none, [], none⟩] false [0, 1, 2, 6, 7, 8, 9, 10, 11, 12, 13, 14, 15, 16, 17, 18, 19, 20, 21, 22, 23, 24, 25, 26, 39, 47, 61, 68, 81, 94, 152])
  (.cond (.tmp 68) (.seq (.reg [
  ⟨some 70, .mov, [.tmp 11], none, [], none⟩,
  ⟨some 71, (.call 17), [.tmp 70], none, [], none⟩,
  ⟨some 69, .mov, [.tmp 71], none, [], none⟩,
  ⟨some 72, (.ext 0), [.tmp 69], none, [], none⟩,
  ⟨some 73, (.ext 1), [.tmp 69], none, [], none⟩,
  ⟨some 13, .mov, [.tmp 72], none, [], none⟩,
  ⟨some 14, .mov, [.tmp 73], none, [], none⟩] false [0, 1, 2, 6, 7, 8, 9, 10, 11, 12, 13, 14, 15, 16, 17, 18, 19, 20, 21, 22, 23, 24, 25, 26, 39, 47, 61, 68, 81, 94, 152])
  (.seq (.reg [
  ⟨some 74, .mov, [.tmp 14], none, [], none⟩,
  ⟨some 75, (.bin .neq), [.tmp 74, .const (.int .i64 0)], none, [], none⟩,
  ⟨some 76, .mov, [.tmp 75], none, [], none⟩,
  ⟨some 77, .mov, [.tmp 13], some (76, false), [], none⟩,
  ⟨some 78, .mov, [.tmp 2], some (76, false), [], none⟩,
  ⟨some 79, (.call 20), [.tmp 77, .tmp 78], some (76, false), [], none⟩,
  ⟨some 80, .not, [.tmp 79], some (76, false), [], none⟩,
  ⟨some 81, .pick, [.tmp 76, .const (.bool true), .tmp 80], none, [], none⟩] false [0, 1, 2, 6, 7, 8, 9, 10, 11, 12, 13, 14, 15, 16, 17, 18, 19, 20, 21, 22, 23, 24, 25, 26, 39, 47, 61, 68, 81, 94, 152])
  (.cond (.tmp 81) (.seq (.reg [
  ⟨some 6, .mov, [.const (.bool false)], none, [], none⟩] false [0, 1, 2, 6, 7, 8, 9, 10, 11, 12, 13, 14, 15, 16, 17, 18, 19, 20, 21, 22, 23, 24, 25, 26, 39, 47, 61, 68, 81, 94, 152])
  (.ret)) (.skip)))) (.skip)))
  (.seq (.reg [
  ⟨some 83, .mov, [.tmp 1], none, [], none⟩,
  ⟨some 84, (.call 15), [.tmp 83], none, [], none⟩,
  ⟨some 82, .mov, [.tmp 84], none, [], none⟩,
  ⟨some 85, (.ext 0), [.tmp 82], none, [], none⟩,
  ⟨some 86, (.ext 1), [.tmp 82], none, [], none⟩,
  ⟨some 15, .mov, [.tmp 85], none, [], none⟩,
  ⟨some 16, .mov, [.tmp 86], none, [], none⟩] false [0, 1, 2, 6, 7, 8, 9, 10, 11, 12, 13, 14, 15, 16, 17, 18, 19, 20, 21, 22, 23, 24, 25, 26, 39, 47, 61, 68, 81, 94, 152])
  (.seq (.reg [
  ⟨some 88, .mov, [.tmp 0], none, [], none⟩,
  ⟨some 89, .mov, [.tmp 1], none, [], none⟩,
  ⟨some 90, (.call 11), [.tmp 88, .tmp 89], none, [], none⟩,
  ⟨some 87, .mov, [.tmp 90], none, [], none⟩,
  ⟨some 91, (.ext 0), [.tmp 87], none, [], none⟩,
  ⟨some 92, (.ext 1), [.tmp 87], none, [], none⟩,
  ⟨some 17, .mov, [.tmp 91], none, [], none⟩,
  ⟨some 18, .mov, [.tmp 92], none, [], none⟩] false [0, 1, 2, 6, 7, 8, 9, 10, 11, 12, 13, 14, 15, 16, 17, 18, 19, 20, 21, 22, 23, 24, 25, 26, 39, 47, 61, 68, 81, 94, 152])
  (.seq (.seq (.reg [
  ⟨some 93, .mov, [.tmp 16], none, [], none⟩,
  ⟨some 94, (.bin .neq), [.tmp 93, .const (.int .i64 0)], none, [], none⟩] false [0, 1, 2, 6, 7, 8, 9, 10, 11, 12, 13, 14, 15, 16, 17, 18, 19, 20, 21, 22, 23, 24, 25, 26, 39, 47, 61, 68, 81, 94, 152])
  (.cond (.tmp 94) (.seq (.reg [
  ⟨some 95, (.call 9), [], none, [], none⟩,
  ⟨some 6, .mov, [.tmp 95], none, [], none⟩] false [0, 1, 2, 6, 7, 8, 9, 10, 11, 12, 13, 14, 15, 16, 17, 18, 19, 20, 21, 22, 23, 24, 25, 26, 39, 47, 61, 68, 81, 94, 152])
  (.ret)) (.skip)))
  (.seq (.reg [
  ⟨some 97, .mov, [.tmp 0], none, [], none⟩,
  ⟨some 98, .mov, [.tmp 15], none, [], none⟩,
  ⟨some 99, (.call 11), [.tmp 97, .tmp 98], none, [], none⟩,
  ⟨some 96, .mov, [.tmp 99], none, [], none⟩,
  ⟨some 100, (.ext 0), [.tmp 96], none, [], none⟩,
  ⟨some 101, (.ext 1), [.tmp 96], none, [], none⟩,
  ⟨some 19, .mov, [.tmp 100], none, [], none⟩,
  ⟨some 20, .mov, [.tmp 101], none, [], none⟩] false [0, 1, 2, 6, 7, 8, 9, 10, 11, 12, 13, 14, 15, 16, 17, 18, 19, 20, 21, 22, 23, 24, 25, 26, 39, 47, 61, 68, 81, 94, 152])
  (.seq (.reg [
  ⟨some 103, .mov, [.tmp 15], none, [], none⟩,
  ⟨some 104, (.call 15), [.tmp 103], none, [], none⟩,
  ⟨some 102, .mov, [.tmp 104], none, [], none⟩,
  ⟨some 105, (.ext 0), [.tmp 102], none, [], none⟩,
  ⟨some 106, (.ext 1), [.tmp 102], none, [], none⟩,
  ⟨some 21, .mov, [.tmp 105], none, [], none⟩,
  ⟨some 22, .mov, [.tmp 106], none, [], none⟩] false [0, 1, 2, 6, 7, 8, 9, 10, 11, 12, 13, 14, 15, 16, 17, 18, 19, 20, 21, 22, 23, 24, 25, 26, 39, 47, 61, 68, 81, 94, 152])
  (.seq (.reg [
  ⟨some 108, .mov, [.tmp 1], none, [], none⟩,
  ⟨some 109, (.call 13), [.tmp 108], none, [], none⟩,
  ⟨some 107, .mov, [.tmp 109], none, [], none⟩,
  ⟨some 110, (.ext 0), [.tmp 107], none, [], none⟩,
  ⟨some 111, (.ext 1), [.tmp 107], none, [], none⟩,
  ⟨some 23, .mov, [.tmp 110], none, [], none⟩,
  ⟨some 24, .mov, [.tmp 111], none, [], none⟩] false [0, 1, 2, 6, 7, 8, 9, 10, 11, 12, 13, 14, 15, 16, 17, 18, 19, 20, 21, 22, 23, 24, 25, 26, 39, 47, 61, 68, 81, 94, 152])
  (.seq (.reg [
  ⟨some 113, .mov, [.tmp 15], none, [], none⟩,
  ⟨some 114, (.call 13), [.tmp 113], none, [], none⟩,
  ⟨some 112, .mov, [.tmp 114], none, [], none⟩,
  ⟨some 115, (.ext 0), [.tmp 112], none, [], none⟩,
  ⟨some 116, (.ext 1), [.tmp 112], none, [], none⟩,
  ⟨some 25, .mov, [.tmp 115], none, [], none⟩,
  ⟨some 26, .mov, [.tmp 116], none, [], none⟩] false [0, 1, 2, 6, 7, 8, 9, 10, 11, 12, 13, 14, 15, 16, 17, 18, 19, 20, 21, 22, 23, 24, 25, 26, 39, 47, 61, 68, 81, 94, 152])
  (.seq (.seq (.reg (
  ⟨some 117, .mov, [.tmp 19], none, [], none⟩ ::
  ⟨some 118, .mov, [.tmp 17], none, [], none⟩ ::
  ⟨some 119, (.bin .neq), [.tmp 117, .tmp 118], none, [], none⟩ ::
  ⟨some 120, .mov, [.tmp 119], none, [], none⟩ ::
  ⟨some 121, .mov, [.tmp 20], some (120, false), [], none⟩ ::
  ⟨some 122, .mov, [.tmp 18], some (120, false), [], none⟩ ::
  ⟨some 123, (.bin .neq), [.tmp 121, .tmp 122], some (120, false), [], none⟩ ::
  ⟨some 124, .pick, [.tmp 120, .const (.bool true), .tmp 123], none, [], none⟩ ::
  ⟨some 125, .mov, [.tmp 124], none, [], none⟩ ::
  ⟨some 126, .mov, [.tmp 15], some (125, false), [], none⟩ ::
  ⟨some 127, .len, [.tmp 126], some (125, false), [], none⟩ ::
  ⟨some 128, .mov, [.tmp 1], some (125, false), [], none⟩ ::
  ⟨some 129, .len, [.tmp 128], some (125, false), [], none⟩ ::
  ⟨some 130, (.bin .gtr), [.tmp 127, .tmp 129], some (125, false), [], none⟩ ::
  ⟨some 131, .pick, [.tmp 125, .const (.bool true), .tmp 130], none, [], none⟩ ::
  ⟨some 132, .mov, [.tmp 131], none, [], none⟩ ::
  ⟨some 133, .mov, [.tmp 22], some (132, false), [], none⟩ ::
  ⟨some 134, (.bin .neq), [.tmp 133, .const (.int .i64 0)], some (132, false), [], none⟩ ::
  ⟨some 135, .pick, [.tmp 132, .const (.bool true), .tmp 134], none, [], none⟩ ::
  ⟨some 136, .mov, [.tmp 135], none, [], none⟩ ::
  ⟨some 137, .mov, [.tmp 21], some (136, false), [], none⟩ ::
  ⟨some 138, .mov, [.tmp 15], some (136, false), [], none⟩ ::
  ⟨some 139, (.call 10), [.tmp 138], some (136, false), [], none⟩ ::
  ⟨some 140, (.call 19), [.tmp 137, .tmp 139], some (136, false), [], none⟩ ::
  ⟨some 141, .not, [.tmp 140], some (136, false), [], none⟩ ::
  ⟨some 142, .pick, [.tmp 136, .const (.bool true), .tmp 141], none, [], none⟩ ::
  ⟨some 143, .mov, [.tmp 142], none, [], none⟩ ::
  ⟨some 144, .mov, [.tmp 23], some (143, false), [], none⟩ ::
  ⟨some 145, .mov, [.tmp 25], some (143, false), [], none⟩ ::
  ⟨some 146, (.bin .neq), [.tmp 144, .tmp 145], some (143, false), [], none⟩ ::
  ⟨some 147, .pick, [.tmp 143, .const (.bool true), .tmp 146], none, [], none⟩ ::
  ⟨some 148, .mov, [.tmp 147], none, [], none⟩ ::
  ⟨some 149, .mov, [.tmp 24], some (148, false), [], none⟩ ::
  ⟨some 150, .mov, [.tmp 26], some (148, false), [], none⟩ ::
  ⟨some 151, (.bin .neq), [.tmp 149, .tmp 150], some (148, false), [], none⟩ ::
  ⟨some 152, .pick, [.tmp 148, .const (.bool true), .tmp 151], none, [], none⟩ :: []) false [0, 1, 2, 6, 7, 8, 9, 10, 11, 12, 13, 14, 15, 16, 17, 18, 19, 20, 21, 22, 23, 24, 25, 26, 39, 47, 61, 68, 81, 94, 152])
  (.cond (.tmp 152) (.seq (.reg [
  ⟨some 6, .mov, [.const (.bool false)], none, [], none⟩] false [0, 1, 2, 6, 7, 8, 9, 10, 11, 12, 13, 14, 15, 16, 17, 18, 19, 20, 21, 22, 23, 24, 25, 26, 39, 47, 61, 68, 81, 94, 152])
  (.ret)) (.skip)))
  (.seq (.reg [
  ⟨some 153, .mov, [.tmp 18], none, [], none⟩,
  ⟨some 154, (.bin .eql), [.tmp 153, .const (.int .i64 0)], none, [], none⟩,
  ⟨some 155, .mov, [.tmp 23], none, [], none⟩,
  ⟨some 156, .mov, [.tmp 0], none, [], none⟩,
  ⟨some 157, .slen, [.tmp 156], none, [], none⟩,
  ⟨some 158, (.bin .eql), [.tmp 155, .tmp 157], none, [], none⟩,
  ⟨some 159, (.beq false), [.tmp 154, .tmp 158], none, [], none⟩,
  ⟨some 160, .mov, [.tmp 159], none, [], none⟩,
  ⟨some 161, .mov, [.tmp 18], some (160, true), [], none⟩,
  ⟨some 162, (.bin .neq), [.tmp 161, .const (.int .i64 0)], some (160, true), [], none⟩,
  ⟨some 163, .mov, [.tmp 162], some (160, true), [], none⟩,
  ⟨some 164, .mov, [.tmp 17], some (163, false), [], none⟩,
  ⟨some 165, .slen, [.tmp 164], some (163, false), [], none⟩,
  ⟨some 166, .mov, [.tmp 24], some (163, false), [], none⟩,
  ⟨some 167, (.bin .eql), [.tmp 165, .tmp 166], some (163, false), [], none⟩,
  ⟨some 168, .pick, [.tmp 163, .const (.bool true), .tmp 167], some (160, true), [], none⟩,
  ⟨some 169, .pick, [.tmp 160, .tmp 168, .const (.bool false)], none, [], none⟩,
  ⟨some 170, .mov, [.tmp 169], none, [], none⟩,
  ⟨some 171, (.call 9), [], some (170, true), [], none⟩,
  ⟨some 172, .pick, [.tmp 170, .tmp 171, .const (.bool false)], none, [], none⟩,
  ⟨some 6, .mov, [.tmp 172], none, [], none⟩] false [0, 1, 2, 6, 7, 8, 9, 10, 11, 12, 13, 14, 15, 16, 17, 18, 19, 20, 21, 22, 23, 24, 25, 26, 39, 47, 61, 68, 81, 94, 152])
  (.ret)))))))))))))))
def keep6 : List Nat := [0, 1, 2, 6, 7, 8, 9, 10, 11, 12, 13, 14, 15, 16, 17, 18, 19, 20, 21, 22, 23, 24, 25, 26, 39, 47, 61, 68, 81, 94, 152]
theorem fn6 : compFn Try.prog 6 keep6 = some ⟨173, 3, [(6, none)], body6⟩ := by kernel_rfl

/- chartroom/chartroomlaw05.DeltaKnown -/
def body7 : AC :=
  .seq (.reg [
  ⟨some 0, .mov, [.const (.bool false)], none, [], none⟩] false [0, 1, 2, 3, 5, 6, 8, 10, 12, 32, 38, 41, 42, 43, 44, 90, 104, 105, 106, 107, 117, 119, 120, 121, 122, 125, 126, 127, 128, 134])
  (.seq (.reg [
  ⟨some 13, (.call 28), [.const (.int .i64 1)], none, [], none⟩,
  ⟨some 14, (.call 28), [.const (.int .i64 2)], none, [], none⟩,
  ⟨some 15, (.call 29), [.const (.string ⟨#[120]⟩)], none, [], none⟩,
  ⟨some 16, (.call 29), [.const (.string ⟨#[121, 122]⟩)], none, [], none⟩,
  ⟨some 17, (.call 30), [.const (.int .i64 1)], none, [], none⟩,
  ⟨some 18, (.call 30), [.const (.int .i64 3)], none, [], none⟩,
  ⟨some 19, (.call 28), [.const (.int .i64 0)], none, [], none⟩,
  ⟨some 20, (.bld [(.int .u8 0), (.int .i64 0), (.string ⟨#[]⟩)] [(0, 1), (1, 1)]), [.const (.int .u8 4), .const (.int .i64 1)], none, [], none⟩,
  ⟨some 21, (.bld [(.int .u8 0), (.int .i64 0), (.string ⟨#[]⟩)] [(0, 1), (1, 1), (2, 1)]), [.const (.int .u8 2), .const (.int .i64 1), .const (.string ⟨#[97]⟩)], none, [], none⟩,
  ⟨some 22, (.bld [(.int .u8 0), (.int .i64 0), (.string ⟨#[]⟩)] [(0, 1), (1, 1), (2, 1)]), [.const (.int .u8 1), .const (.int .i64 1), .const (.string ⟨#[97]⟩)], none, [], none⟩,
  ⟨some 23, (.call 29), [.const (.string ⟨#[]⟩)], none, [], none⟩,
  ⟨some 24, (.call 30), [.const (.int .i64 (-1))], none, [], none⟩,
  ⟨some 25, (.call 28), [.const (.int .i64 2147483647)], none, [], none⟩,
  ⟨some 26, (.call 30), [.const (.int .i64 2147483648)], none, [], none⟩,
  ⟨some 27, (.call 28), [.const (.int .i64 1099511627776)], none, [], none⟩,
  ⟨some 28, (.bsl 47 3), [.tmp 13, .tmp 14, .tmp 15, .tmp 16, .tmp 17, .tmp 18, .tmp 19, .tmp 20, .tmp 21, .tmp 22, .tmp 23, .tmp 24, .tmp 25, .tmp 26, .tmp 27], none, [], none⟩,
  ⟨some 1, .mov, [.tmp 28], none, [], none⟩] false [0, 1, 2, 3, 5, 6, 8, 10, 12, 32, 38, 41, 42, 43, 44, 90, 104, 105, 106, 107, 117, 119, 120, 121, 122, 125, 126, 127, 128, 134])
  (.seq (.seq (.reg [
  ⟨some 2, .mov, [.const (.int .i64 0)], none, [], none⟩] false [0, 1, 2, 3, 5, 6, 8, 10, 12, 32, 38, 41, 42, 43, 44, 90, 104, 105, 106, 107, 117, 119, 120, 121, 122, 125, 126, 127, 128, 134])
  (.block 0 (.loop (.seq (.seq (.reg [
   ⟨some 29, .mov, [.tmp 2], none, [], none⟩,
   ⟨some 30, .mov, [.tmp 1], none, [], none⟩,
   ⟨some 31, .len, [.tmp 30], none, [], none⟩,
   ⟨some 32, (.bin .lss), [.tmp 29, .tmp 31], none, [], none⟩] false [0, 1, 2, 3, 5, 6, 8, 10, 12, 32, 38, 41, 42, 43, 44, 90, 104, 105, 106, 107, 117, 119, 120, 121, 122, 125, 126, 127, 128, 134])
   (.cond (.tmp 32) (.skip) (.exit 0)))
   (.seq (.block 1 (.seq (.reg [
   ⟨some 3, .mov, [.const (.int .i64 0)], none, [], none⟩] false [0, 1, 2, 3, 5, 6, 8, 10, 12, 32, 38, 41, 42, 43, 44, 90, 104, 105, 106, 107, 117, 119, 120, 121, 122, 125, 126, 127, 128, 134])
   (.block 2 (.loop (.seq (.seq (.reg [
    ⟨some 35, .mov, [.tmp 3], none, [], none⟩,
    ⟨some 36, .mov, [.tmp 1], none, [], none⟩,
    ⟨some 37, .len, [.tmp 36], none, [], none⟩,
    ⟨some 38, (.bin .lss), [.tmp 35, .tmp 37], none, [], none⟩] false [0, 1, 2, 3, 5, 6, 8, 10, 12, 32, 38, 41, 42, 43, 44, 90, 104, 105, 106, 107, 117, 119, 120, 121, 122, 125, 126, 127, 128, 134])
    (.cond (.tmp 38) (.skip) (.exit 2)))
    (.seq (.block 3 (.seq (.reg [
    ⟨some 41, (.bsl 9 1), [.const (.string ⟨#[]⟩), .const (.string ⟨#[97]⟩), .const (.string ⟨#[97, 98, 99]⟩), .const (.string ⟨#[97, 98, 99, 100]⟩)], none, [], none⟩,
    ⟨some 42, .len, [.tmp 41], none, [], none⟩,
    ⟨some 43, .mov, [.const (.int .i64 0)], none, [], none⟩] false [0, 1, 2, 3, 5, 6, 8, 10, 12, 32, 38, 41, 42, 43, 44, 90, 104, 105, 106, 107, 117, 119, 120, 121, 122, 125, 126, 127, 128, 134])
    (.block 4 (.loop (.seq (.reg [
     ⟨some 44, (.bin .lss), [.tmp 43, .tmp 42], none, [], none⟩] false [0, 1, 2, 3, 5, 6, 8, 10, 12, 32, 38, 41, 42, 43, 44, 90, 104, 105, 106, 107, 117, 119, 120, 121, 122, 125, 126, 127, 128, 134])
     (.seq (.cond (.tmp 44) (.skip) (.exit 4))
     (.seq (.block 5 (.seq (.reg [
     ⟨some 45, (.ixa 9 1), [.tmp 41, .tmp 43], none, [], none⟩,
     ⟨some 46, (.load none), [.tmp 45], none, [], none⟩,
     ⟨some 5, .mov, [.tmp 46], none, [], none⟩] false [0, 1, 2, 3, 5, 6, 8, 10, 12, 32, 38, 41, 42, 43, 44, 90, 104, 105, 106, 107, 117, 119, 120, 121, 122, 125, 126, 127, 128, 134])
     (.seq (.reg [
     ⟨some 47, .mov, [.tmp 1], none, [], none⟩,
     ⟨some 48, .mov, [.tmp 2], none, [], none⟩,
     ⟨some 49, (.ixa 47 3), [.tmp 47, .tmp 48], none, [], none⟩,
     ⟨some 50, (.load (some 3)), [.tmp 49], none, [], none⟩,
     ⟨some 51, .mov, [.tmp 1], none, [], none⟩,
     ⟨some 52, .mov, [.tmp 3], none, [], none⟩,
     ⟨some 53, (.ixa 47 3), [.tmp 51, .tmp 52], none, [], none⟩,
     ⟨some 54, (.load (some 3)), [.tmp 53], none, [], none⟩,
     ⟨some 55, .mov, [.tmp 1], none, [], none⟩,
     ⟨some 56, .mov, [.tmp 2], none, [], none⟩,
     ⟨some 57, .mov, [.tmp 3], none, [], none⟩,
     ⟨some 58, (.bin .mul), [.tmp 56, .tmp 57], none, [], none⟩,
     ⟨some 59, (.bin .add), [.tmp 58, .const (.int .i64 2)], none, [], none⟩,
     ⟨some 60, (.bin .rem), [.tmp 59, .const (.int .i64 6)], none, [], none⟩,
     ⟨some 61, (.ixa 47 3), [.tmp 55, .tmp 60], none, [], none⟩,
     ⟨some 62, (.load (some 3)), [.tmp 61], none, [], none⟩,
     ⟨some 63, (.bsl 47 3), [.tmp 50, .tmp 54, .tmp 62], none, [], none⟩,
     ⟨some 6, .mov, [.tmp 63], none, [], none⟩] true [0, 1, 2, 3, 5, 6, 8, 10, 12, 32, 38, 41, 42, 43, 44, 90, 104, 105, 106, 107, 117, 119, 120, 121, 122, 125, 126, 127, 128, 134])
     (.seq (.reg [
     ⟨some 64, .mov, [.tmp 5], none, [], none⟩,
     ⟨some 65, .mov, [.tmp 6], none, [], none⟩,
     ⟨some 66, (.call 3), [.tmp 64, .tmp 65], none, [], none⟩,
     ⟨some 67, .not, [.tmp 66], none, [], none⟩,
     ⟨some 68, .mov, [.tmp 67], none, [], none⟩,
     ⟨some 69, .mov, [.tmp 5], some (68, false), [], none⟩,
     ⟨some 70, .mov, [.tmp 6], some (68, false), [], none⟩,
     ⟨some 71, (.slc 3 false true), [.tmp 70, .const (.int .i64 2)], some (68, false), [], none⟩,
     ⟨some 72, (.call 3), [.tmp 69, .tmp 71], some (68, false), [], none⟩,
     ⟨some 73, .not, [.tmp 72], some (68, false), [], none⟩,
     ⟨some 74, .pick, [.tmp 68, .const (.bool true), .tmp 73], none, [], none⟩,
     ⟨some 75, .mov, [.tmp 74], none, [], none⟩,
     ⟨some 76, .mov, [.tmp 5], some (75, false), [], none⟩,
     ⟨some 77, .mov, [.tmp 6], some (75, false), [], none⟩,
     ⟨some 78, .mov, [.tmp 1], some (75, false), [], none⟩,
     ⟨some 79, .mov, [.tmp 2], some (75, false), [], none⟩,
     ⟨some 80, (.ixa 47 3), [.tmp 78, .tmp 79], some (75, false), [], none⟩,
     ⟨some 81, (.fad 0), [.tmp 80], some (75, false), [], none⟩,
     ⟨some 82, (.load none), [.tmp 81], some (75, false), [], none⟩,
     ⟨some 83, .mov, [.tmp 3], some (75, false), [], none⟩,
     ⟨some 84, (.cvi .u8), [.tmp 83], some (75, false), [], none⟩,
     ⟨some 85, .mov, [.tmp 2], some (75, false), [], none⟩,
     ⟨some 86, (.cvi .u8), [.tmp 85], some (75, false), [], none⟩,
     ⟨some 87, (.bsl 5 1), [.tmp 82, .tmp 84, .tmp 86, .const (.int .u8 97)], some (75, false), [], none⟩,
     ⟨some 88, (.call 6), [.tmp 76, .tmp 77, .tmp 87], some (75, false), [], none⟩,
     ⟨some 89, .not, [.tmp 88], some (75, false), [], none⟩,
     ⟨some 90, .pick, [.tmp 75, .const (.bool true), .tmp 89], none, [], none⟩] false [0, 1, 2, 3, 5, 6, 8, 10, 12, 32, 38, 41, 42, 43, 44, 90, 104, 105, 106, 107, 117, 119, 120, 121, 122, 125, 126, 127, 128, 134])
     (.cond (.tmp 90) (.seq (.reg [
     ⟨some 0, .mov, [.const (.bool false)], none, [], none⟩] false [0, 1, 2, 3, 5, 6, 8, 10, 12, 32, 38, 41, 42, 43, 44, 90, 104, 105, 106, 107, 117, 119, 120, 121, 122, 125, 126, 127, 128, 134])
     (.ret)) (.skip))))))
     (.reg [
     ⟨some 91, (.bin .add), [.tmp 43, .const (.int .i64 1)], none, [], none⟩,
     ⟨some 43, .mov, [.tmp 91], none, [], none⟩] false [0, 1, 2, 3, 5, 6, 8, 10, 12, 32, 38, 41, 42, 43, 44, 90, 104, 105, 106, 107, 117, 119, 120, 121, 122, 125, 126, 127, 128, 134]))))))))
    (.reg [
    ⟨some 39, .mov, [.tmp 3], none, [], none⟩,
    ⟨some 40, (.bin .add), [.tmp 39, .const (.int .i64 1)], none, [], none⟩,
    ⟨some 3, .mov, [.tmp 40], none, [], none⟩] false [0, 1, 2, 3, 5, 6, 8, 10, 12, 32, 38, 41, 42, 43, 44, 90, 104, 105, 106, 107, 117, 119, 120, 121, 122, 125, 126, 127, 128, 134])))))))
   (.reg [
   ⟨some 33, .mov, [.tmp 2], none, [], none⟩,
   ⟨some 34, (.bin .add), [.tmp 33, .const (.int .i64 1)], none, [], none⟩,
   ⟨some 2, .mov, [.tmp 34], none, [], none⟩] false [0, 1, 2, 3, 5, 6, 8, 10, 12, 32, 38, 41, 42, 43, 44, 90, 104, 105, 106, 107, 117, 119, 120, 121, 122, 125, 126, 127, 128, 134]))))))
  (.seq (.seq (.reg [
  ⟨some 92, (.bsl 5 1), [.const (.int .u8 1)], none, [], none⟩,
  ⟨some 93, (.bsl 5 1), [.const (.int .u8 2)], none, [], none⟩,
  ⟨some 94, (.bsl 5 1), [.const (.int .u8 4), .const (.int .u8 1)], none, [], none⟩,
  ⟨some 95, (.bsl 5 1), [.const (.int .u8 0)], none, [], none⟩,
  ⟨some 96, (.bsl 5 1), [.const (.int .u8 1), .const (.int .u8 0)], none, [], none⟩,
  ⟨some 97, (.bsl 5 1), [.const (.int .u8 2), .const (.int .u8 0)], none, [], none⟩,
  ⟨some 98, (.bsl 5 1), [.const (.int .u8 2), .const (.int .u8 3), .const (.int .u8 97), .const (.int .u8 97)], none, [], none⟩,
  ⟨some 99, (.bsl 5 1), [.const (.int .u8 1), .const (.int .u8 128), .const (.int .u8 0)], none, [], none⟩,
  ⟨some 100, (.bsl 5 1), [.const (.int .u8 3), .const (.int .u8 255), .const (.int .u8 255), .const (.int .u8 255), .const (.int .u8 255), .const (.int .u8 7)], none, [], none⟩,
  ⟨some 101, (.bsl 5 1), [.const (.int .u8 3), .const (.int .u8 128), .const (.int .u8 128), .const (.int .u8 128), .const (.int .u8 128), .const (.int .u8 8)], none, [], none⟩,
  ⟨some 102, (.bsl 5 1), [.const (.int .u8 1), .const (.int .u8 255), .const (.int .u8 255), .const (.int .u8 255), .const (.int .u8 255), .const (.int .u8 255), .const (.int .u8 255), .const (.int .u8 255), .const (.int .u8 255), .const (.int .u8 255), .const (.int .u8 1)], none, [], none⟩,
  ⟨some 103, (.bsl 5 1), [.const (.int .u8 1), .const (.int .u8 1), .const (.int .u8 2), .const (.int .u8 1), .const (.int .u8 97), .const (.int .u8 3), .const (.int .u8 4)], none, [], none⟩,
  ⟨some 104, (.bsl 38 1), [.const (.slice none 0 0), .tmp 92, .tmp 93, .tmp 94, .tmp 95, .tmp 96, .tmp 97, .tmp 98, .tmp 99, .tmp 100, .tmp 101, .tmp 102, .tmp 103], none, [], none⟩,
  ⟨some 105, .len, [.tmp 104], none, [], none⟩,
  ⟨some 106, .mov, [.const (.int .i64 0)], none, [], none⟩] false [0, 1, 2, 3, 5, 6, 8, 10, 12, 32, 38, 41, 42, 43, 44, 90, 104, 105, 106, 107, 117, 119, 120, 121, 122, 125, 126, 127, 128, 134])
  (.block 6 (.loop (.seq (.reg [
   ⟨some 107, (.bin .lss), [.tmp 106, .tmp 105], none, [], none⟩] false [0, 1, 2, 3, 5, 6, 8, 10, 12, 32, 38, 41, 42, 43, 44, 90, 104, 105, 106, 107, 117, 119, 120, 121, 122, 125, 126, 127, 128, 134])
   (.seq (.cond (.tmp 107) (.skip) (.exit 6))
   (.seq (.block 7 (.seq (.reg [
   ⟨some 108, (.ixa 38 1), [.tmp 104, .tmp 106], none, [], none⟩,
   ⟨some 109, (.load none), [.tmp 108], none, [], none⟩,
   ⟨some 8, .mov, [.tmp 109], none, [], none⟩] false [0, 1, 2, 3, 5, 6, 8, 10, 12, 32, 38, 41, 42, 43, 44, 90, 104, 105, 106, 107, 117, 119, 120, 121, 122, 125, 126, 127, 128, 134])
   (.seq (.reg [
   ⟨some 110, .mov, [.tmp 8], none, [], none⟩,
   ⟨some 111, (.call 5), [.tmp 110], none, [], none⟩,
   ⟨some 112, .not, [.tmp 111], none, [], none⟩,
   ⟨some 113, .mov, [.tmp 112], none, [], none⟩,
   ⟨some 114, .mov, [.tmp 8], some (113, false), [], none⟩,
   ⟨some 115, (.call 6), [.const (.string ⟨#[]⟩), .const (.slice none 0 0), .tmp 114], some (113, false), [], none⟩,
   ⟨some 116, .not, [.tmp 115], some (113, false), [], none⟩,
   ⟨some 117, .pick, [.tmp 113, .const (.bool true), .tmp 116], none, [], none⟩] false [0, 1, 2, 3, 5, 6, 8, 10, 12, 32, 38, 41, 42, 43, 44, 90, 104, 105, 106, 107, 117, 119, 120, 121, 122, 125, 126, 127, 128, 134])
   (.cond (.tmp 117) (.seq (.reg [
   ⟨some 0, .mov, [.const (.bool false)], none, [], none⟩] false [0, 1, 2, 3, 5, 6, 8, 10, 12, 32, 38, 41, 42, 43, 44, 90, 104, 105, 106, 107, 117, 119, 120, 121, 122, 125, 126, 127, 128, 134])
   (.ret)) (.skip)))))
   (.reg [
   ⟨some 118, (.bin .add), [.tmp 106, .const (.int .i64 1)], none, [], none⟩,
   ⟨some 106, .mov, [.tmp 118], none, [], none⟩] false [0, 1, 2, 3, 5, 6, 8, 10, 12, 32, 38, 41, 42, 43, 44, 90, 104, 105, 106, 107, 117, 119, 120, 121, 122, 125, 126, 127, 128, 134])))))))
  (.seq (.seq (.reg [
  ⟨some 119, (.bsl 9 1), [.const (.string ⟨#[]⟩), .const (.string ⟨#[97]⟩), .const (.string ⟨#[97, 97]⟩), .const (.string ⟨#[97, 98]⟩), .const (.string ⟨#[97, 97, 98]⟩), .const (.string ⟨#[97, 98, 97, 98]⟩), .const (.string ⟨#[98, 97]⟩)], none, [], none⟩,
  ⟨some 120, .len, [.tmp 119], none, [], none⟩,
  ⟨some 121, .mov, [.const (.int .i64 0)], none, [], none⟩] false [0, 1, 2, 3, 5, 6, 8, 10, 12, 32, 38, 41, 42, 43, 44, 90, 104, 105, 106, 107, 117, 119, 120, 121, 122, 125, 126, 127, 128, 134])
  (.block 8 (.loop (.seq (.reg [
   ⟨some 122, (.bin .lss), [.tmp 121, .tmp 120], none, [], none⟩] false [0, 1, 2, 3, 5, 6, 8, 10, 12, 32, 38, 41, 42, 43, 44, 90, 104, 105, 106, 107, 117, 119, 120, 121, 122, 125, 126, 127, 128, 134])
   (.seq (.cond (.tmp 122) (.skip) (.exit 8))
   (.seq (.block 9 (.seq (.reg [
   ⟨some 123, (.ixa 9 1), [.tmp 119, .tmp 121], none, [], none⟩,
   ⟨some 124, (.load none), [.tmp 123], none, [], none⟩,
   ⟨some 10, .mov, [.tmp 124], none, [], none⟩] false [0, 1, 2, 3, 5, 6, 8, 10, 12, 32, 38, 41, 42, 43, 44, 90, 104, 105, 106, 107, 117, 119, 120, 121, 122, 125, 126, 127, 128, 134])
   (.seq (.reg [
   ⟨some 125, (.bsl 9 1), [.const (.string ⟨#[]⟩), .const (.string ⟨#[97]⟩), .const (.string ⟨#[97, 97, 97]⟩), .const (.string ⟨#[98]⟩), .const (.string ⟨#[97, 98]⟩), .const (.string ⟨#[97, 98, 97]⟩), .const (.string ⟨#[97, 98, 98, 97]⟩)], none, [], none⟩,
   ⟨some 126, .len, [.tmp 125], none, [], none⟩,
   ⟨some 127, .mov, [.const (.int .i64 0)], none, [], none⟩] false [0, 1, 2, 3, 5, 6, 8, 10, 12, 32, 38, 41, 42, 43, 44, 90, 104, 105, 106, 107, 117, 119, 120, 121, 122, 125, 126, 127, 128, 134])
   (.block 10 (.loop (.seq (.reg [
    ⟨some 128, (.bin .lss), [.tmp 127, .tmp 126], none, [], none⟩] false [0, 1, 2, 3, 5, 6, 8, 10, 12, 32, 38, 41, 42, 43, 44, 90, 104, 105, 106, 107, 117, 119, 120, 121, 122, 125, 126, 127, 128, 134])
    (.seq (.cond (.tmp 128) (.skip) (.exit 10))
    (.seq (.block 11 (.seq (.reg [
    ⟨some 129, (.ixa 9 1), [.tmp 125, .tmp 127], none, [], none⟩,
    ⟨some 130, (.load none), [.tmp 129], none, [], none⟩,
    ⟨some 12, .mov, [.tmp 130], none, [], none⟩] false [0, 1, 2, 3, 5, 6, 8, 10, 12, 32, 38, 41, 42, 43, 44, 90, 104, 105, 106, 107, 117, 119, 120, 121, 122, 125, 126, 127, 128, 134])
    (.seq (.reg [
    ⟨some 131, .mov, [.tmp 10], none, [], none⟩,
    ⟨some 132, .mov, [.tmp 12], none, [], none⟩,
    ⟨some 133, (.call 4), [.tmp 131, .tmp 132], none, [], none⟩,
    ⟨some 134, .not, [.tmp 133], none, [], none⟩] false [0, 1, 2, 3, 5, 6, 8, 10, 12, 32, 38, 41, 42, 43, 44, 90, 104, 105, 106, 107, 117, 119, 120, 121, 122, 125, 126, 127, 128, 134])
    (.cond (.tmp 134) (.seq (.reg [
    ⟨some 0, .mov, [.const (.bool false)], none, [], none⟩] false [0, 1, 2, 3, 5, 6, 8, 10, 12, 32, 38, 41, 42, 43, 44, 90, 104, 105, 106, 107, 117, 119, 120, 121, 122, 125, 126, 127, 128, 134])
    (.ret)) (.skip)))))
    (.reg [
    ⟨some 135, (.bin .add), [.tmp 127, .const (.int .i64 1)], none, [], none⟩,
    ⟨some 127, .mov, [.tmp 135], none, [], none⟩] false [0, 1, 2, 3, 5, 6, 8, 10, 12, 32, 38, 41, 42, 43, 44, 90, 104, 105, 106, 107, 117, 119, 120, 121, 122, 125, 126, 127, 128, 134])))))))))
   (.reg [
   ⟨some 136, (.bin .add), [.tmp 121, .const (.int .i64 1)], none, [], none⟩,
   ⟨some 121, .mov, [.tmp 136], none, [], none⟩] false [0, 1, 2, 3, 5, 6, 8, 10, 12, 32, 38, 41, 42, 43, 44, 90, 104, 105, 106, 107, 117, 119, 120, 121, 122, 125, 126, 127, 128, 134])))))))
  (.seq (.reg [
  ⟨some 137, (.call 9), [], none, [], none⟩,
  ⟨some 0, .mov, [.tmp 137], none, [], none⟩] false [0, 1, 2, 3, 5, 6, 8, 10, 12, 32, 38, 41, 42, 43, 44, 90, 104, 105, 106, 107, 117, 119, 120, 121, 122, 125, 126, 127, 128, 134])
  (.ret))))))
def keep7 : List Nat := [0, 1, 2, 3, 5, 6, 8, 10, 12, 32, 38, 41, 42, 43, 44, 90, 104, 105, 106, 107, 117, 119, 120, 121, 122, 125, 126, 127, 128, 134]
theorem fn7 : compFn Try.prog 7 keep7 = some ⟨138, 0, [(0, none)], body7⟩ := by kernel_rfl

/- chartroom/chartroomlaw05.works -/
def body9 : AC :=
  .seq (.reg [
  ⟨some 0, .mov, [.const (.bool false)], none, [], none⟩] false [0, 1, 2, 4, 6, 7, 9, 10])
  (.seq (.reg [
  ⟨some 12, (.call 28), [.const (.int .i64 1)], none, [], none⟩,
  ⟨some 13, (.call 30), [.const (.int .i64 3)], none, [], none⟩,
  ⟨some 14, (.call 29), [.const (.string ⟨#[105, 112, 112]⟩)], none, [], none⟩,
  ⟨some 15, (.call 28), [.const (.int .i64 1)], none, [], none⟩,
  ⟨some 16, (.bsl 47 3), [.tmp 12, .tmp 13, .tmp 14, .tmp 15], none, [], none⟩,
  ⟨some 17, (.call 11), [.const (.string ⟨#[104, 101, 108, 108, 111]⟩), .tmp 16], none, [], none⟩,
  ⟨some 11, .mov, [.tmp 17], none, [], none⟩,
  ⟨some 18, (.ext 0), [.tmp 11], none, [], none⟩,
  ⟨some 19, (.ext 1), [.tmp 11], none, [], none⟩,
  ⟨some 1, .mov, [.tmp 18], none, [], none⟩,
  ⟨some 2, .mov, [.tmp 19], none, [], none⟩] false [0, 1, 2, 4, 6, 7, 9, 10])
  (.seq (.reg [
  ⟨some 21, (.call 28), [.const (.int .i64 1)], none, [], none⟩,
  ⟨some 22, (.call 30), [.const (.int .i64 3)], none, [], none⟩,
  ⟨some 23, (.call 29), [.const (.string ⟨#[105, 112, 112]⟩)], none, [], none⟩,
  ⟨some 24, (.call 28), [.const (.int .i64 1)], none, [], none⟩,
  ⟨some 25, (.bsl 47 3), [.tmp 21, .tmp 22, .tmp 23, .tmp 24], none, [], none⟩,
  ⟨some 26, (.call 11), [.const (.string ⟨#[104, 101, 108, 108]⟩), .tmp 25], none, [], none⟩,
  ⟨some 20, .mov, [.tmp 26], none, [], none⟩,
  ⟨some 27, (.ext 0), [.tmp 20], none, [], none⟩,
  ⟨some 28, (.ext 1), [.tmp 20], none, [], none⟩,
  ⟨some 3, .mov, [.tmp 27], none, [], none⟩,
  ⟨some 4, .mov, [.tmp 28], none, [], none⟩] false [0, 1, 2, 4, 6, 7, 9, 10])
  (.seq (.reg [
  ⟨some 30, (.call 28), [.const (.int .i64 1)], none, [], none⟩,
  ⟨some 31, (.call 30), [.const (.int .i64 3)], none, [], none⟩,
  ⟨some 32, (.call 29), [.const (.string ⟨#[105, 112, 112]⟩)], none, [], none⟩,
  ⟨some 33, (.bsl 47 3), [.tmp 30, .tmp 31, .tmp 32], none, [], none⟩,
  ⟨some 34, (.call 11), [.const (.string ⟨#[104, 101, 108, 108, 111]⟩), .tmp 33], none, [], none⟩,
  ⟨some 29, .mov, [.tmp 34], none, [], none⟩,
  ⟨some 35, (.ext 0), [.tmp 29], none, [], none⟩,
  ⟨some 36, (.ext 1), [.tmp 29], none, [], none⟩,
  ⟨some 5, .mov, [.tmp 35], none, [], none⟩,
  ⟨some 6, .mov, [.tmp 36], none, [], none⟩] false [0, 1, 2, 4, 6, 7, 9, 10])
  (.seq (.reg [
  ⟨some 38, (.call 28), [.const (.int .i64 1)], none, [], none⟩,
  ⟨some 39, (.call 30), [.const (.int .i64 1)], none, [], none⟩,
  ⟨some 40, (.call 29), [.const (.string ⟨#[97]⟩)], none, [], none⟩,
  ⟨some 41, (.call 28), [.const (.int .i64 2)], none, [], none⟩,
  ⟨some 42, (.call 28), [.const (.int .i64 1)], none, [], none⟩,
  ⟨some 43, (.bsl 47 3), [.tmp 38, .tmp 39, .tmp 40, .tmp 41, .tmp 42], none, [], none⟩,
  ⟨some 44, (.call 15), [.tmp 43], none, [], none⟩,
  ⟨some 37, .mov, [.tmp 44], none, [], none⟩,
  ⟨some 45, (.ext 0), [.tmp 37], none, [], none⟩,
  ⟨some 46, (.ext 1), [.tmp 37], none, [], none⟩,
  ⟨some 7, .mov, [.tmp 45], none, [], none⟩,
  ⟨some 8, .mov, [.tmp 46], none, [], none⟩] false [0, 1, 2, 4, 6, 7, 9, 10])
  (.seq (.reg [
  ⟨some 48, (.call 28), [.const (.int .i64 5)], none, [], none⟩,
  ⟨some 49, (.call 29), [.const (.string ⟨#[97, 98]⟩)], none, [], none⟩,
  ⟨some 50, (.bsl 47 3), [.tmp 48, .tmp 49], none, [], none⟩,
  ⟨some 51, (.call 17), [.tmp 50], none, [], none⟩,
  ⟨some 47, .mov, [.tmp 51], none, [], none⟩,
  ⟨some 52, (.ext 0), [.tmp 47], none, [], none⟩,
  ⟨some 53, (.ext 1), [.tmp 47], none, [], none⟩,
  ⟨some 9, .mov, [.tmp 52], none, [], none⟩,
  ⟨some 10, .mov, [.tmp 53], none, [], none⟩] false [0, 1, 2, 4, 6, 7, 9, 10])
  (.seq (.reg (
  ⟨some 54, .mov, [.tmp 2], none, [], none⟩ ::
  ⟨some 55, (.bin .eql), [.tmp 54, .const (.int .i64 0)], none, [], none⟩ ::
  ⟨some 56, .mov, [.tmp 55], none, [], none⟩ ::
  ⟨some 57, .mov, [.tmp 1], some (56, true), [], none⟩ ::
  ⟨some 58, (.bin .eql), [.tmp 57, .const (.string ⟨#[104, 105, 112, 112, 111]⟩)], some (56, true), [], none⟩ ::
  ⟨some 59, .pick, [.tmp 56, .tmp 58, .const (.bool false)], none, [], none⟩ ::
  ⟨some 60, .mov, [.tmp 59], none, [], none⟩ ::
  ⟨some 61, .mov, [.tmp 4], some (60, true), [], none⟩ ::
  ⟨some 62, (.bin .eql), [.tmp 61, .const (.int .i64 50)], some (60, true), [], none⟩ ::
  ⟨some 63, .pick, [.tmp 60, .tmp 62, .const (.bool false)], none, [], none⟩ ::
  ⟨some 64, .mov, [.tmp 63], none, [], none⟩ ::
  ⟨some 65, .mov, [.tmp 6], some (64, true), [], none⟩ ::
  ⟨some 66, (.bin .eql), [.tmp 65, .const (.int .i64 50)], some (64, true), [], none⟩ ::
  ⟨some 67, .pick, [.tmp 64, .tmp 66, .const (.bool false)], none, [], none⟩ ::
  ⟨some 68, .mov, [.tmp 67], none, [], none⟩ ::
  ⟨some 69, .mov, [.tmp 7], some (68, true), [], none⟩ ::
  ⟨some 70, (.call 28), [.const (.int .i64 1)], some (68, true), [], none⟩ ::
  ⟨some 71, (.call 29), [.const (.string ⟨#[97]⟩)], some (68, true), [], none⟩ ::
  ⟨some 72, (.call 30), [.const (.int .i64 1)], some (68, true), [], none⟩ ::
  ⟨some 73, (.call 28), [.const (.int .i64 3)], some (68, true), [], none⟩ ::
  ⟨some 74, (.bsl 47 3), [.tmp 70, .tmp 71, .tmp 72, .tmp 73], some (68, true), [], none⟩ ::
  ⟨some 75, (.call 10), [.tmp 74], some (68, true), [], none⟩ ::
  ⟨some 76, (.call 19), [.tmp 69, .tmp 75], some (68, true), [], none⟩ ::
  ⟨some 77, .pick, [.tmp 68, .tmp 76, .const (.bool false)], none, [], none⟩ ::
  ⟨some 78, .mov, [.tmp 77], none, [], none⟩ ::
  ⟨some 79, (.call 23), [.const (.string ⟨#[104, 101, 108, 108, 111]⟩), .const (.string ⟨#[104, 105, 112, 112, 111]⟩)], some (78, true), [], none⟩ ::
  ⟨some 80, (.call 28), [.const (.int .i64 1)], some (78, true), [], none⟩ ::
  ⟨some 81, (.call 29), [.const (.string ⟨#[105, 112, 112]⟩)], some (78, true), [], none⟩ ::
  ⟨some 82, (.call 30), [.const (.int .i64 3)], some (78, true), [], none⟩ ::
  ⟨some 83, (.call 28), [.const (.int .i64 1)], some (78, true), [], none⟩ ::
  ⟨some 84, (.bsl 47 3), [.tmp 80, .tmp 81, .tmp 82, .tmp 83], some (78, true), [], none⟩ ::
  ⟨some 85, (.call 10), [.tmp 84], some (78, true), [], none⟩ ::
  ⟨some 86, (.call 19), [.tmp 79, .tmp 85], some (78, true), [], none⟩ ::
  ⟨some 87, .pick, [.tmp 78, .tmp 86, .const (.bool false)], none, [], none⟩ ::
  ⟨some 88, .mov, [.tmp 87], none, [], none⟩ ::
  ⟨some 89, (.call 23), [.const (.string ⟨#[97, 97]⟩), .const (.string ⟨#[97, 97, 97]⟩)], some (88, true), [], none⟩ ::
  ⟨some 90, (.call 28), [.const (.int .i64 2)], some (88, true), [], none⟩ ::
  ⟨some 91, (.call 29), [.const (.string ⟨#[97]⟩)], some (88, true), [], none⟩ ::
  ⟨some 92, (.bsl 47 3), [.tmp 90, .tmp 91], some (88, true), [], none⟩ ::
  ⟨some 93, (.call 10), [.tmp 92], some (88, true), [], none⟩ ::
  ⟨some 94, (.call 19), [.tmp 89, .tmp 93], some (88, true), [], none⟩ ::
  ⟨some 95, .pick, [.tmp 88, .tmp 94, .const (.bool false)], none, [], none⟩ ::
  ⟨some 96, .mov, [.tmp 95], none, [], none⟩ ::
  ⟨some 97, .mov, [.tmp 10], some (96, true), [], none⟩ ::
  ⟨some 98, (.bin .eql), [.tmp 97, .const (.int .i64 0)], some (96, true), [], none⟩ ::
  ⟨some 99, .pick, [.tmp 96, .tmp 98, .const (.bool false)], none, [], none⟩ ::
  ⟨some 100, .mov, [.tmp 99], none, [], none⟩ ::
  ⟨some 101, .mov, [.tmp 9], some (100, true), [], none⟩ ::
  ⟨some 102, (.bsl 5 1), [.const (.int .u8 1), .const (.int .u8 5), .const (.int .u8 2), .const (.int .u8 2), .const (.int .u8 97), .const (.int .u8 98)], some (100, true), [], none⟩ ::
  ⟨some 103, (.call 20), [.tmp 101, .tmp 102], some (100, true), [], none⟩ ::
  ⟨some 104, .pick, [.tmp 100, .tmp 103, .const (.bool false)], none, [], none⟩ ::
  ⟨some 0, .mov, [.tmp 104], none, [], none⟩ :: []) false [0, 1, 2, 4, 6, 7, 9, 10])
  (.ret)))))))
def keep9 : List Nat := [0, 1, 2, 4, 6, 7, 9, 10]
theorem fn9 : compFn Try.prog 9 keep9 = some ⟨105, 0, [(0, none)], body9⟩ := by kernel_rfl

end Go.Proofs.Ytcgllachkjnlgaa.Ab.L
