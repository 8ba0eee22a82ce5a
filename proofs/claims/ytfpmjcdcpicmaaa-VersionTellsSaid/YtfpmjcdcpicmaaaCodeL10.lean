/- The code of the functions, in the abstract machine's form (printed by wip/mk.py). -/
import Derived.Test.YtfpmjcdcpicmaaaAb21
import Derived.Test.YtfpmjcdcpicmaaaChecked
namespace Go.Proofs.Ytfpmjcdcpicmaaa.Ab
open Go Go.RowKit
set_option maxRecDepth 100000

/- chartroom/chartroomlaw15.VersionBytes -/
def body10 : AC :=
  .seq (.reg [
  ⟨some 4, .mov, [.const (.bool false)], none, [], none⟩] false [0, 1, 4, 5, 6, 7, 8, 9, 10, 11, 12, 13, 14, 15, 16, 24, 66, 68, 82, 84, 97])
  (.seq (.seq (.reg [
  ⟨some 17, .mov, [.tmp 0], none, [], none⟩,
  ⟨some 18, (.call 40), [.tmp 17], none, [], none⟩,
  ⟨some 19, .not, [.tmp 18], none, [], none⟩,
  ⟨some 20, .mov, [.tmp 19], none, [], none⟩,
  ⟨some 21, .mov, [.tmp 1], some (20, false), [], none⟩,
  ⟨some 22, .len, [.tmp 21], some (20, false), [], none⟩,
  ⟨some 23, (.bin .gtr), [.tmp 22, .const (.int .i64 1000)], some (20, false), [], none⟩,
  ⟨some 24, .pick, [.tmp 20, .const (.bool true), .tmp 23], none, [], none⟩] false [0, 1, 4, 5, 6, 7, 8, 9, 10, 11, 12, 13, 14, 15, 16, 24, 66, 68, 82, 84, 97])
  (.cond (.tmp 24) (.seq (.reg [
  ⟨some 25, (.call 41), [], none, [], none⟩,
  ⟨some 4, .mov, [.tmp 25], none, [], none⟩] false [0, 1, 4, 5, 6, 7, 8, 9, 10, 11, 12, 13, 14, 15, 16, 24, 66, 68, 82, 84, 97])
  (.ret)) (.skip)))
  (.seq (.reg [
  ⟨some 27, .mov, [.tmp 0], none, [], none⟩,
  ⟨some 28, (.call 63), [.tmp 27], none, [], none⟩,
  ⟨some 26, .mov, [.tmp 28], none, [], none⟩,
  ⟨some 29, (.ext 0), [.tmp 26], none, [], none⟩,
  ⟨some 30, (.ext 1), [.tmp 26], none, [], none⟩,
  ⟨some 5, .mov, [.tmp 29], none, [], none⟩,
  ⟨some 6, .mov, [.tmp 30], none, [], none⟩] false [0, 1, 4, 5, 6, 7, 8, 9, 10, 11, 12, 13, 14, 15, 16, 24, 66, 68, 82, 84, 97])
  (.seq (.reg [
  ⟨some 32, .mov, [.tmp 0], none, [], none⟩,
  ⟨some 33, (.call 42), [.tmp 32], none, [], none⟩,
  ⟨some 34, (.call 64), [.tmp 33], none, [], none⟩,
  ⟨some 31, .mov, [.tmp 34], none, [], none⟩,
  ⟨some 35, (.ext 0), [.tmp 31], none, [], none⟩,
  ⟨some 36, (.ext 1), [.tmp 31], none, [], none⟩,
  ⟨some 7, .mov, [.tmp 35], none, [], none⟩,
  ⟨some 8, .mov, [.tmp 36], none, [], none⟩] false [0, 1, 4, 5, 6, 7, 8, 9, 10, 11, 12, 13, 14, 15, 16, 24, 66, 68, 82, 84, 97])
  (.seq (.reg [
  ⟨some 38, .mov, [.tmp 1], none, [], none⟩,
  ⟨some 39, (.call 65), [.tmp 38], none, [], none⟩,
  ⟨some 37, .mov, [.tmp 39], none, [], none⟩,
  ⟨some 40, (.ext 0), [.tmp 37], none, [], none⟩,
  ⟨some 41, (.ext 1), [.tmp 37], none, [], none⟩,
  ⟨some 9, .mov, [.tmp 40], none, [], none⟩,
  ⟨some 10, .mov, [.tmp 41], none, [], none⟩] false [0, 1, 4, 5, 6, 7, 8, 9, 10, 11, 12, 13, 14, 15, 16, 24, 66, 68, 82, 84, 97])
  (.seq (.reg [
  ⟨some 43, .mov, [.tmp 1], none, [], none⟩,
  ⟨some 44, (.call 66), [.tmp 43], none, [], none⟩,
  ⟨some 42, .mov, [.tmp 44], none, [], none⟩,
  ⟨some 45, (.ext 0), [.tmp 42], none, [], none⟩,
  ⟨some 46, (.ext 1), [.tmp 42], none, [], none⟩,
  ⟨some 11, .mov, [.tmp 45], none, [], none⟩,
  ⟨some 12, .mov, [.tmp 46], none, [], none⟩] false [0, 1, 4, 5, 6, 7, 8, 9, 10, 11, 12, 13, 14, 15, 16, 24, 66, 68, 82, 84, 97])
  (.seq (.seq (.reg [
  ⟨some 47, .mov, [.tmp 5], none, [], none⟩,
  ⟨some 48, .mov, [.tmp 7], none, [], none⟩,
  ⟨some 49, (.call 39), [.tmp 47, .tmp 48], none, [], none⟩,
  ⟨some 50, .not, [.tmp 49], none, [], none⟩,
  ⟨some 51, .mov, [.tmp 50], none, [], none⟩,
  ⟨some 52, .mov, [.tmp 6], some (51, false), [], none⟩,
  ⟨some 53, .mov, [.tmp 8], some (51, false), [], none⟩,
  ⟨some 54, (.bin .neq), [.tmp 52, .tmp 53], some (51, false), [], none⟩,
  ⟨some 55, .pick, [.tmp 51, .const (.bool true), .tmp 54], none, [], none⟩,
  ⟨some 56, .mov, [.tmp 55], none, [], none⟩,
  ⟨some 57, .mov, [.tmp 9], some (56, false), [], none⟩,
  ⟨some 58, .mov, [.tmp 11], some (56, false), [], none⟩,
  ⟨some 59, (.call 51), [.tmp 57, .tmp 58], some (56, false), [], none⟩,
  ⟨some 60, .not, [.tmp 59], some (56, false), [], none⟩,
  ⟨some 61, .pick, [.tmp 56, .const (.bool true), .tmp 60], none, [], none⟩,
  ⟨some 62, .mov, [.tmp 61], none, [], none⟩,
  ⟨some 63, .mov, [.tmp 10], some (62, false), [], none⟩,
  ⟨some 64, .mov, [.tmp 12], some (62, false), [], none⟩,
  ⟨some 65, (.bin .neq), [.tmp 63, .tmp 64], some (62, false), [], none⟩,
  ⟨some 66, .pick, [.tmp 62, .const (.bool true), .tmp 65], none, [], none⟩] false [0, 1, 4, 5, 6, 7, 8, 9, 10, 11, 12, 13, 14, 15, 16, 24, 66, 68, 82, 84, 97])
  (.cond (.tmp 66) (.seq (.reg [
  ⟨some 4, .mov, [.const (.bool false)], none, [], none⟩] false [0, 1, 4, 5, 6, 7, 8, 9, 10, 11, 12, 13, 14, 15, 16, 24, 66, 68, 82, 84, 97])
  (.ret)) (.skip)))
  (.seq (.seq (.reg [
  ⟨some 67, .mov, [.tmp 6], none, [], none⟩,
  ⟨some 68, (.bin .eql), [.tmp 67, .const (.int .i64 0)], none, [], none⟩] false [0, 1, 4, 5, 6, 7, 8, 9, 10, 11, 12, 13, 14, 15, 16, 24, 66, 68, 82, 84, 97])
  (.cond (.tmp 68) (.seq (.reg [
  ⟨some 70, .mov, [.tmp 5], none, [], none⟩,
  ⟨some 71, (.call 65), [.tmp 70], none, [], none⟩,
  ⟨some 69, .mov, [.tmp 71], none, [], none⟩,
  ⟨some 72, (.ext 0), [.tmp 69], none, [], none⟩,
  ⟨some 73, (.ext 1), [.tmp 69], none, [], none⟩,
  ⟨some 13, .mov, [.tmp 72], none, [], none⟩,
  ⟨some 14, .mov, [.tmp 73], none, [], none⟩] false [0, 1, 4, 5, 6, 7, 8, 9, 10, 11, 12, 13, 14, 15, 16, 24, 66, 68, 82, 84, 97])
  (.seq (.reg [
  ⟨some 74, .mov, [.tmp 14], none, [], none⟩,
  ⟨some 75, (.bin .neq), [.tmp 74, .const (.int .i64 0)], none, [], none⟩,
  ⟨some 76, .mov, [.tmp 75], none, [], none⟩,
  ⟨some 77, .mov, [.tmp 13], some (76, false), [], none⟩,
  ⟨some 78, .mov, [.tmp 0], some (76, false), [], none⟩,
  ⟨some 79, (.call 42), [.tmp 78], some (76, false), [], none⟩,
  ⟨some 80, (.call 51), [.tmp 77, .tmp 79], some (76, false), [], none⟩,
  ⟨some 81, .not, [.tmp 80], some (76, false), [], none⟩,
  ⟨some 82, .pick, [.tmp 76, .const (.bool true), .tmp 81], none, [], none⟩] false [0, 1, 4, 5, 6, 7, 8, 9, 10, 11, 12, 13, 14, 15, 16, 24, 66, 68, 82, 84, 97])
  (.cond (.tmp 82) (.seq (.reg [
  ⟨some 4, .mov, [.const (.bool false)], none, [], none⟩] false [0, 1, 4, 5, 6, 7, 8, 9, 10, 11, 12, 13, 14, 15, 16, 24, 66, 68, 82, 84, 97])
  (.ret)) (.skip)))) (.skip)))
  (.seq (.seq (.reg [
  ⟨some 83, .mov, [.tmp 10], none, [], none⟩,
  ⟨some 84, (.bin .eql), [.tmp 83, .const (.int .i64 0)], none, [], none⟩] false [0, 1, 4, 5, 6, 7, 8, 9, 10, 11, 12, 13, 14, 15, 16, 24, 66, 68, 82, 84, 97])
  (.cond (.tmp 84) (.seq (.reg [
  ⟨some 86, .mov, [.tmp 9], none, [], none⟩,
  ⟨some 87, (.call 63), [.tmp 86], none, [], none⟩,
  ⟨some 85, .mov, [.tmp 87], none, [], none⟩,
  ⟨some 88, (.ext 0), [.tmp 85], none, [], none⟩,
  ⟨some 89, (.ext 1), [.tmp 85], none, [], none⟩,
  ⟨some 15, .mov, [.tmp 88], none, [], none⟩,
  ⟨some 16, .mov, [.tmp 89], none, [], none⟩] false [0, 1, 4, 5, 6, 7, 8, 9, 10, 11, 12, 13, 14, 15, 16, 24, 66, 68, 82, 84, 97])
  (.seq (.reg [
  ⟨some 90, .mov, [.tmp 16], none, [], none⟩,
  ⟨some 91, (.bin .neq), [.tmp 90, .const (.int .i64 0)], none, [], none⟩,
  ⟨some 92, .mov, [.tmp 91], none, [], none⟩,
  ⟨some 93, .mov, [.tmp 15], some (92, false), [], none⟩,
  ⟨some 94, .mov, [.tmp 1], some (92, false), [], none⟩,
  ⟨some 95, (.call 39), [.tmp 93, .tmp 94], some (92, false), [], none⟩,
  ⟨some 96, .not, [.tmp 95], some (92, false), [], none⟩,
  ⟨some 97, .pick, [.tmp 92, .const (.bool true), .tmp 96], none, [], none⟩] false [0, 1, 4, 5, 6, 7, 8, 9, 10, 11, 12, 13, 14, 15, 16, 24, 66, 68, 82, 84, 97])
  (.cond (.tmp 97) (.seq (.reg [
  ⟨some 4, .mov, [.const (.bool false)], none, [], none⟩] false [0, 1, 4, 5, 6, 7, 8, 9, 10, 11, 12, 13, 14, 15, 16, 24, 66, 68, 82, 84, 97])
  (.ret)) (.skip)))) (.skip)))
  (.seq (.reg [
  ⟨some 98, (.call 41), [], none, [], none⟩,
  ⟨some 4, .mov, [.tmp 98], none, [], none⟩] false [0, 1, 4, 5, 6, 7, 8, 9, 10, 11, 12, 13, 14, 15, 16, 24, 66, 68, 82, 84, 97])
  (.ret))))))))))
def keep10 : List Nat := [0, 1, 4, 5, 6, 7, 8, 9, 10, 11, 12, 13, 14, 15, 16, 24, 66, 68, 82, 84, 97]
theorem fn10 : compFn Try.prog 10 keep10 = some ⟨99, 2, [(4, none)], body10⟩ := by kernel_rfl

end Go.Proofs.Ytfpmjcdcpicmaaa.Ab
