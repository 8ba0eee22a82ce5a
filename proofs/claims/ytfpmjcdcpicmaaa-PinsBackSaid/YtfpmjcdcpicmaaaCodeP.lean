/- The code of the functions, in the abstract machine's form (printed by wip/mk.py). -/
import Derived.Test.YtfpmjcdcpicmaaaAb21
import Derived.Test.YtfpmjcdcpicmaaaChecked
namespace Go.Proofs.Ytfpmjcdcpicmaaa.Ab
open Go Go.RowKit
set_option maxRecDepth 100000

/- chartroom/chartroomlaw14.PinsWrite -/
def body13 : AC :=
  .seq (.reg [
  ⟨some 3, .box, [.tmp 0], none, [], none⟩,
  ⟨some 6, .mov, [.const (.bool false)], none, [], none⟩] false [0, 1, 2, 3, 6, 7, 8, 9, 10, 11, 12, 13, 22])
  (.seq (.seq (.reg [
  ⟨some 14, (.fad 0), [.tmp 3], none, [], none⟩,
  ⟨some 15, (.load none), [.tmp 14], none, [], none⟩,
  ⟨some 16, .len, [.tmp 15], none, [], none⟩,
  ⟨some 17, (.bin .gtr), [.tmp 16, .const (.int .i64 40)], none, [], none⟩,
  ⟨some 18, .mov, [.tmp 17], none, [], none⟩,
  ⟨some 19, .mov, [.tmp 1], some (18, false), [], none⟩,
  ⟨some 20, .len, [.tmp 19], some (18, false), [], none⟩,
  ⟨some 21, (.bin .gtr), [.tmp 20, .const (.int .i64 300)], some (18, false), [], none⟩,
  ⟨some 22, .pick, [.tmp 18, .const (.bool true), .tmp 21], none, [], none⟩] false [0, 1, 2, 3, 6, 7, 8, 9, 10, 11, 12, 13, 22])
  (.cond (.tmp 22) (.seq (.reg [
  ⟨some 23, (.call 72), [], none, [], none⟩,
  ⟨some 6, .mov, [.tmp 23], none, [], none⟩] false [0, 1, 2, 3, 6, 7, 8, 9, 10, 11, 12, 13, 22])
  (.ret)) (.skip)))
  (.seq (.reg [
  ⟨some 7, (.nilS 5), [], none, [], none⟩] false [0, 1, 2, 3, 6, 7, 8, 9, 10, 11, 12, 13, 22])
  (.seq (.reg [
  ⟨some 24, .mov, [.tmp 7], none, [], none⟩,
  ⟨some 25, .mov, [.tmp 1], none, [], none⟩,
  ⟨some 26, (.app 5 1 1), [.tmp 24, .tmp 25], none, [], none⟩,
  ⟨some 7, .mov, [.tmp 26], none, [], none⟩] false [0, 1, 2, 3, 6, 7, 8, 9, 10, 11, 12, 13, 22])
  (.seq (.reg [
  ⟨some 28, .mov, [.tmp 1], none, [], none⟩,
  ⟨some 29, .mov, [.tmp 2], none, [], none⟩,
  ⟨some 30, (.call 90), [.tmp 28, .tmp 29], none, [], none⟩,
  ⟨some 27, .mov, [.tmp 30], none, [], none⟩,
  ⟨some 31, (.ext 0), [.tmp 27], none, [], none⟩,
  ⟨some 32, (.ext 1), [.tmp 27], none, [], none⟩,
  ⟨some 33, (.ext 2), [.tmp 27], none, [], none⟩,
  ⟨some 8, (.alloc [(.slice none 0 0)]), [], none, [], none⟩,
  ⟨none, (.store (some 1)), [.tmp 8, .tmp 31], none, [], none⟩,
  ⟨some 9, .mov, [.tmp 32], none, [], none⟩,
  ⟨some 10, .mov, [.tmp 33], none, [], none⟩] false [0, 1, 2, 3, 6, 7, 8, 9, 10, 11, 12, 13, 22])
  (.seq (.reg [
  ⟨some 35, .mov, [.tmp 7], none, [], none⟩,
  ⟨some 36, .mov, [.tmp 2], none, [], none⟩,
  ⟨some 37, (.call 91), [.tmp 35, .tmp 36], none, [], none⟩,
  ⟨some 34, .mov, [.tmp 37], none, [], none⟩,
  ⟨some 38, (.ext 0), [.tmp 34], none, [], none⟩,
  ⟨some 39, (.ext 1), [.tmp 34], none, [], none⟩,
  ⟨some 40, (.ext 2), [.tmp 34], none, [], none⟩,
  ⟨some 11, .mov, [.tmp 38], none, [], none⟩,
  ⟨some 12, .mov, [.tmp 39], none, [], none⟩,
  ⟨some 13, .mov, [.tmp 40], none, [], none⟩] false [0, 1, 2, 3, 6, 7, 8, 9, 10, 11, 12, 13, 22])
  (.seq (.reg (
  ⟨some 41, (.load (some 1)), [.tmp 3], none, [], none⟩ ::
  ⟨some 42, (.call 92), [.tmp 41], none, [], none⟩ ::
  ⟨some 43, (.load (some 1)), [.tmp 3], none, [42], none⟩ ::
  ⟨some 44, (.call 73), [.tmp 43], none, [], none⟩ ::
  ⟨some 45, (.call 93), [.tmp 44], none, [], none⟩ ::
  ⟨some 46, (.call 39), [.tmp 42, .tmp 45], none, [], none⟩ ::
  ⟨some 47, .mov, [.tmp 46], none, [], none⟩ ::
  ⟨some 48, (.load (some 1)), [.tmp 8], some (47, true), [], none⟩ ::
  ⟨some 49, (.call 73), [.tmp 48], some (47, true), [], none⟩ ::
  ⟨some 50, .mov, [.tmp 11], some (47, true), [], none⟩ ::
  ⟨some 51, (.call 80), [.tmp 49, .tmp 50], some (47, true), [], none⟩ ::
  ⟨some 52, .pick, [.tmp 47, .tmp 51, .const (.bool false)], none, [], none⟩ ::
  ⟨some 53, .mov, [.tmp 52], none, [], none⟩ ::
  ⟨some 54, .mov, [.tmp 9], some (53, true), [], none⟩ ::
  ⟨some 55, .mov, [.tmp 12], some (53, true), [], none⟩ ::
  ⟨some 56, (.bin .eql), [.tmp 54, .tmp 55], some (53, true), [], none⟩ ::
  ⟨some 57, .pick, [.tmp 53, .tmp 56, .const (.bool false)], none, [], none⟩ ::
  ⟨some 58, .mov, [.tmp 57], none, [], none⟩ ::
  ⟨some 59, .mov, [.tmp 10], some (58, true), [], none⟩ ::
  ⟨some 60, .mov, [.tmp 13], some (58, true), [], none⟩ ::
  ⟨some 61, (.bin .eql), [.tmp 59, .tmp 60], some (58, true), [], none⟩ ::
  ⟨some 62, .pick, [.tmp 58, .tmp 61, .const (.bool false)], none, [], none⟩ ::
  ⟨some 63, .mov, [.tmp 62], none, [], none⟩ ::
  ⟨some 64, .mov, [.tmp 1], some (63, true), [], none⟩ ::
  ⟨some 65, .mov, [.tmp 7], some (63, true), [], none⟩ ::
  ⟨some 66, (.call 39), [.tmp 64, .tmp 65], some (63, true), [], none⟩ ::
  ⟨some 67, .pick, [.tmp 63, .tmp 66, .const (.bool false)], none, [], none⟩ ::
  ⟨some 68, .mov, [.tmp 67], none, [], none⟩ ::
  ⟨some 69, (.call 72), [], some (68, true), [], none⟩ ::
  ⟨some 70, .pick, [.tmp 68, .tmp 69, .const (.bool false)], none, [], none⟩ ::
  ⟨some 6, .mov, [.tmp 70], none, [], none⟩ :: []) true [0, 1, 2, 3, 6, 7, 8, 9, 10, 11, 12, 13, 22])
  (.ret)))))))
def keep13 : List Nat := [0, 1, 2, 3, 6, 7, 8, 9, 10, 11, 12, 13, 22]
theorem fn13 : compFn Try.prog 13 keep13 = some ⟨71, 3, [(6, none)], body13⟩ := by kernel_rfl

/- chartroom/chartroomlaw14.PinsBack -/
def body14 : AC :=
  .seq (.reg [
  ⟨some 7, .box, [.tmp 0], none, [], none⟩,
  ⟨some 8, .box, [.tmp 1], none, [], none⟩,
  ⟨some 14, .mov, [.const (.bool false)], none, [], none⟩] false [0, 1, 2, 3, 4, 5, 6, 7, 8, 14, 15, 16, 17, 18, 19, 20, 21, 22, 23, 24, 25, 44, 53, 80, 119])
  (.seq (.seq (.reg [
  ⟨some 26, (.fad 0), [.tmp 7], none, [], none⟩,
  ⟨some 27, (.load none), [.tmp 26], none, [], none⟩,
  ⟨some 28, .len, [.tmp 27], none, [], none⟩,
  ⟨some 29, (.bin .gtr), [.tmp 28, .const (.int .i64 40)], none, [], none⟩,
  ⟨some 30, .mov, [.tmp 29], none, [], none⟩,
  ⟨some 31, .mov, [.tmp 5], some (30, false), [], none⟩,
  ⟨some 32, .len, [.tmp 31], some (30, false), [], none⟩,
  ⟨some 33, (.bin .gtr), [.tmp 32, .const (.int .i64 100)], some (30, false), [], none⟩,
  ⟨some 34, .pick, [.tmp 30, .const (.bool true), .tmp 33], none, [], none⟩,
  ⟨some 35, .mov, [.tmp 34], none, [], none⟩,
  ⟨some 36, .mov, [.tmp 6], some (35, false), [], none⟩,
  ⟨some 37, .len, [.tmp 36], some (35, false), [], none⟩,
  ⟨some 38, (.bin .gtr), [.tmp 37, .const (.int .i64 100)], some (35, false), [], none⟩,
  ⟨some 39, .pick, [.tmp 35, .const (.bool true), .tmp 38], none, [], none⟩,
  ⟨some 40, .mov, [.tmp 39], none, [], none⟩,
  ⟨some 41, (.load (some 1)), [.tmp 7], some (40, false), [], none⟩,
  ⟨some 42, (.call 85), [.tmp 41], some (40, false), [], none⟩,
  ⟨some 43, .not, [.tmp 42], some (40, false), [], none⟩,
  ⟨some 44, .pick, [.tmp 40, .const (.bool true), .tmp 43], none, [], none⟩] false [0, 1, 2, 3, 4, 5, 6, 7, 8, 14, 15, 16, 17, 18, 19, 20, 21, 22, 23, 24, 25, 44, 53, 80, 119])
  (.cond (.tmp 44) (.seq (.reg [
  ⟨some 45, (.call 72), [], none, [], none⟩,
  ⟨some 14, .mov, [.tmp 45], none, [], none⟩] false [0, 1, 2, 3, 4, 5, 6, 7, 8, 14, 15, 16, 17, 18, 19, 20, 21, 22, 23, 24, 25, 44, 53, 80, 119])
  (.ret)) (.skip)))
  (.seq (.reg [
  ⟨some 47, (.load (some 1)), [.tmp 7], none, [], none⟩,
  ⟨some 48, (.load (some 3)), [.tmp 8], none, [], none⟩,
  ⟨some 49, (.call 76), [.tmp 47, .tmp 48], none, [], none⟩,
  ⟨some 46, .mov, [.tmp 49], none, [], none⟩,
  ⟨some 50, (.ext 0), [.tmp 46], none, [], none⟩,
  ⟨some 51, (.ext 1), [.tmp 46], none, [], none⟩,
  ⟨some 15, (.alloc [(.slice none 0 0)]), [], none, [], none⟩,
  ⟨none, (.store (some 1)), [.tmp 15, .tmp 50], none, [], none⟩,
  ⟨some 16, .mov, [.tmp 51], none, [], none⟩] false [0, 1, 2, 3, 4, 5, 6, 7, 8, 14, 15, 16, 17, 18, 19, 20, 21, 22, 23, 24, 25, 44, 53, 80, 119])
  (.seq (.seq (.reg [
  ⟨some 52, .mov, [.tmp 16], none, [], none⟩,
  ⟨some 53, (.bin .eql), [.tmp 52, .const (.int .i64 0)], none, [], none⟩] false [0, 1, 2, 3, 4, 5, 6, 7, 8, 14, 15, 16, 17, 18, 19, 20, 21, 22, 23, 24, 25, 44, 53, 80, 119])
  (.cond (.tmp 53) (.seq (.reg [
  ⟨some 55, (.load (some 1)), [.tmp 15], none, [], none⟩,
  ⟨some 56, (.fad 0), [.tmp 8], none, [], none⟩,
  ⟨some 57, (.load none), [.tmp 56], none, [], none⟩,
  ⟨some 58, (.call 77), [.tmp 55, .tmp 57], none, [], none⟩,
  ⟨some 54, .mov, [.tmp 58], none, [], none⟩,
  ⟨some 59, (.ext 0), [.tmp 54], none, [], none⟩,
  ⟨some 60, (.ext 1), [.tmp 54], none, [], none⟩,
  ⟨some 17, (.alloc [(.slice none 0 0)]), [], none, [], none⟩,
  ⟨none, (.store (some 1)), [.tmp 17, .tmp 59], none, [], none⟩,
  ⟨some 18, .mov, [.tmp 60], none, [], none⟩] false [0, 1, 2, 3, 4, 5, 6, 7, 8, 14, 15, 16, 17, 18, 19, 20, 21, 22, 23, 24, 25, 44, 53, 80, 119])
  (.seq (.reg [
  ⟨some 61, .mov, [.tmp 18], none, [], none⟩,
  ⟨some 62, (.bin .neq), [.tmp 61, .const (.int .i64 0)], none, [], none⟩,
  ⟨some 63, .mov, [.tmp 62], none, [], none⟩,
  ⟨some 64, (.load (some 1)), [.tmp 17], some (63, false), [], none⟩,
  ⟨some 65, (.load (some 1)), [.tmp 7], some (63, false), [], none⟩,
  ⟨some 66, (.call 89), [.tmp 64, .tmp 65], some (63, false), [], none⟩,
  ⟨some 67, .not, [.tmp 66], some (63, false), [], none⟩,
  ⟨some 68, .pick, [.tmp 63, .const (.bool true), .tmp 67], none, [], none⟩,
  ⟨some 69, .mov, [.tmp 68], none, [], none⟩,
  ⟨some 70, (.load (some 1)), [.tmp 15], some (69, false), [], none⟩,
  ⟨some 71, (.call 85), [.tmp 70], some (69, false), [], none⟩,
  ⟨some 72, .not, [.tmp 71], some (69, false), [], none⟩,
  ⟨some 73, .pick, [.tmp 69, .const (.bool true), .tmp 72], none, [], none⟩,
  ⟨some 74, .mov, [.tmp 73], none, [], none⟩,
  ⟨some 75, (.load (some 1)), [.tmp 15], some (74, false), [], none⟩,
  ⟨some 76, (.fad 1), [.tmp 8], some (74, false), [], none⟩,
  ⟨some 77, (.load none), [.tmp 76], some (74, false), [], none⟩,
  ⟨some 78, (.call 87), [.tmp 75, .tmp 77], some (74, false), [], none⟩,
  ⟨some 79, .not, [.tmp 78], some (74, false), [], none⟩,
  ⟨some 80, .pick, [.tmp 74, .const (.bool true), .tmp 79], none, [], none⟩] false [0, 1, 2, 3, 4, 5, 6, 7, 8, 14, 15, 16, 17, 18, 19, 20, 21, 22, 23, 24, 25, 44, 53, 80, 119])
  (.cond (.tmp 80) (.seq (.reg [
  ⟨some 14, .mov, [.const (.bool false)], none, [], none⟩] false [0, 1, 2, 3, 4, 5, 6, 7, 8, 14, 15, 16, 17, 18, 19, 20, 21, 22, 23, 24, 25, 44, 53, 80, 119])
  (.ret)) (.skip)))) (.skip)))
  (.seq (.reg [
  ⟨some 81, (.load (some 1)), [.tmp 7], none, [], none⟩,
  ⟨some 82, .mov, [.tmp 2], none, [], none⟩,
  ⟨some 83, .mov, [.tmp 3], none, [], none⟩,
  ⟨some 84, (.call 78), [.tmp 81, .tmp 82, .tmp 83], none, [], none⟩,
  ⟨some 19, (.alloc [(.slice none 0 0)]), [], none, [], none⟩,
  ⟨none, (.store (some 1)), [.tmp 19, .tmp 84], none, [], none⟩] false [0, 1, 2, 3, 4, 5, 6, 7, 8, 14, 15, 16, 17, 18, 19, 20, 21, 22, 23, 24, 25, 44, 53, 80, 119])
  (.seq (.reg [
  ⟨some 85, (.load (some 1)), [.tmp 7], none, [], none⟩,
  ⟨some 86, .mov, [.tmp 2], none, [], none⟩,
  ⟨some 87, .mov, [.tmp 4], none, [], none⟩,
  ⟨some 88, .mov, [.tmp 2], none, [], none⟩,
  ⟨some 89, (.bin .sub), [.const (.int .u64 18446744073709551615), .tmp 88], none, [], none⟩,
  ⟨some 90, (.mnx false), [.tmp 87, .tmp 89], none, [], none⟩,
  ⟨some 91, (.bin .add), [.tmp 86, .tmp 90], none, [], none⟩,
  ⟨some 92, .mov, [.tmp 3], none, [], none⟩,
  ⟨some 93, (.call 78), [.tmp 85, .tmp 91, .tmp 92], none, [], none⟩,
  ⟨some 20, (.alloc [(.slice none 0 0)]), [], none, [], none⟩,
  ⟨none, (.store (some 1)), [.tmp 20, .tmp 93], none, [], none⟩] false [0, 1, 2, 3, 4, 5, 6, 7, 8, 14, 15, 16, 17, 18, 19, 20, 21, 22, 23, 24, 25, 44, 53, 80, 119])
  (.seq (.seq (.reg [
  ⟨some 94, (.load (some 1)), [.tmp 19], none, [], none⟩,
  ⟨some 95, (.call 85), [.tmp 94], none, [], none⟩,
  ⟨some 96, .not, [.tmp 95], none, [], none⟩,
  ⟨some 97, .mov, [.tmp 96], none, [], none⟩,
  ⟨some 98, (.load (some 1)), [.tmp 19], some (97, false), [], none⟩,
  ⟨some 99, .mov, [.tmp 2], some (97, false), [], none⟩,
  ⟨some 100, .mov, [.tmp 3], some (97, false), [], none⟩,
  ⟨some 101, (.call 78), [.tmp 98, .tmp 99, .tmp 100], some (97, false), [], none⟩,
  ⟨some 102, (.load (some 1)), [.tmp 19], some (97, false), [101], none⟩,
  ⟨some 103, (.call 89), [.tmp 101, .tmp 102], some (97, false), [], none⟩,
  ⟨some 104, .not, [.tmp 103], some (97, false), [], none⟩,
  ⟨some 105, .pick, [.tmp 97, .const (.bool true), .tmp 104], none, [], none⟩,
  ⟨some 106, .mov, [.tmp 105], none, [], none⟩,
  ⟨some 107, (.load (some 1)), [.tmp 19], some (106, false), [], none⟩,
  ⟨some 108, .mov, [.tmp 2], some (106, false), [], none⟩,
  ⟨some 109, .mov, [.tmp 4], some (106, false), [], none⟩,
  ⟨some 110, .mov, [.tmp 2], some (106, false), [], none⟩,
  ⟨some 111, (.bin .sub), [.const (.int .u64 18446744073709551615), .tmp 110], some (106, false), [], none⟩,
  ⟨some 112, (.mnx false), [.tmp 109, .tmp 111], some (106, false), [], none⟩,
  ⟨some 113, (.bin .add), [.tmp 108, .tmp 112], some (106, false), [], none⟩,
  ⟨some 114, .mov, [.tmp 3], some (106, false), [], none⟩,
  ⟨some 115, (.call 78), [.tmp 107, .tmp 113, .tmp 114], some (106, false), [], none⟩,
  ⟨some 116, (.load (some 1)), [.tmp 20], some (106, false), [115], none⟩,
  ⟨some 117, (.call 89), [.tmp 115, .tmp 116], some (106, false), [], none⟩,
  ⟨some 118, .not, [.tmp 117], some (106, false), [], none⟩,
  ⟨some 119, .pick, [.tmp 106, .const (.bool true), .tmp 118], none, [], none⟩] true [0, 1, 2, 3, 4, 5, 6, 7, 8, 14, 15, 16, 17, 18, 19, 20, 21, 22, 23, 24, 25, 44, 53, 80, 119])
  (.cond (.tmp 119) (.seq (.reg [
  ⟨some 14, .mov, [.const (.bool false)], none, [], none⟩] false [0, 1, 2, 3, 4, 5, 6, 7, 8, 14, 15, 16, 17, 18, 19, 20, 21, 22, 23, 24, 25, 44, 53, 80, 119])
  (.ret)) (.skip)))
  (.seq (.reg [
  ⟨some 21, (.nilS 5), [], none, [], none⟩] false [0, 1, 2, 3, 4, 5, 6, 7, 8, 14, 15, 16, 17, 18, 19, 20, 21, 22, 23, 24, 25, 44, 53, 80, 119])
  (.seq (.reg [
  ⟨some 120, .mov, [.tmp 21], none, [], none⟩,
  ⟨some 121, .mov, [.tmp 5], none, [], none⟩,
  ⟨some 122, (.app 5 1 1), [.tmp 120, .tmp 121], none, [], none⟩,
  ⟨some 21, .mov, [.tmp 122], none, [], none⟩] false [0, 1, 2, 3, 4, 5, 6, 7, 8, 14, 15, 16, 17, 18, 19, 20, 21, 22, 23, 24, 25, 44, 53, 80, 119])
  (.seq (.reg [
  ⟨some 123, .mov, [.tmp 21], none, [], none⟩,
  ⟨some 124, (.load (some 1)), [.tmp 7], none, [], none⟩,
  ⟨some 125, (.call 92), [.tmp 124], none, [], none⟩,
  ⟨some 126, (.app 5 1 1), [.tmp 123, .tmp 125], none, [], none⟩,
  ⟨some 21, .mov, [.tmp 126], none, [], none⟩] false [0, 1, 2, 3, 4, 5, 6, 7, 8, 14, 15, 16, 17, 18, 19, 20, 21, 22, 23, 24, 25, 44, 53, 80, 119])
  (.seq (.reg [
  ⟨some 127, .mov, [.tmp 21], none, [], none⟩,
  ⟨some 128, .len, [.tmp 127], none, [], none⟩,
  ⟨some 22, .mov, [.tmp 128], none, [], none⟩] false [0, 1, 2, 3, 4, 5, 6, 7, 8, 14, 15, 16, 17, 18, 19, 20, 21, 22, 23, 24, 25, 44, 53, 80, 119])
  (.seq (.reg [
  ⟨some 129, .mov, [.tmp 21], none, [], none⟩,
  ⟨some 130, .mov, [.tmp 6], none, [], none⟩,
  ⟨some 131, (.app 5 1 1), [.tmp 129, .tmp 130], none, [], none⟩,
  ⟨some 21, .mov, [.tmp 131], none, [], none⟩] false [0, 1, 2, 3, 4, 5, 6, 7, 8, 14, 15, 16, 17, 18, 19, 20, 21, 22, 23, 24, 25, 44, 53, 80, 119])
  (.seq (.reg [
  ⟨some 133, .mov, [.tmp 21], none, [], none⟩,
  ⟨some 134, .mov, [.tmp 5], none, [], none⟩,
  ⟨some 135, .len, [.tmp 134], none, [], none⟩,
  ⟨some 136, (.call 90), [.tmp 133, .tmp 135], none, [], none⟩,
  ⟨some 132, .mov, [.tmp 136], none, [], none⟩,
  ⟨some 137, (.ext 0), [.tmp 132], none, [], none⟩,
  ⟨some 138, (.ext 1), [.tmp 132], none, [], none⟩,
  ⟨some 139, (.ext 2), [.tmp 132], none, [], none⟩,
  ⟨some 23, (.alloc [(.slice none 0 0)]), [], none, [], none⟩,
  ⟨none, (.store (some 1)), [.tmp 23, .tmp 137], none, [], none⟩,
  ⟨some 24, .mov, [.tmp 138], none, [], none⟩,
  ⟨some 25, .mov, [.tmp 139], none, [], none⟩] false [0, 1, 2, 3, 4, 5, 6, 7, 8, 14, 15, 16, 17, 18, 19, 20, 21, 22, 23, 24, 25, 44, 53, 80, 119])
  (.seq (.reg [
  ⟨some 140, .mov, [.tmp 25], none, [], none⟩,
  ⟨some 141, (.bin .eql), [.tmp 140, .const (.int .i64 0)], none, [], none⟩,
  ⟨some 142, .mov, [.tmp 141], none, [], none⟩,
  ⟨some 143, .mov, [.tmp 24], some (142, true), [], none⟩,
  ⟨some 144, .mov, [.tmp 22], some (142, true), [], none⟩,
  ⟨some 145, (.bin .eql), [.tmp 143, .tmp 144], some (142, true), [], none⟩,
  ⟨some 146, .pick, [.tmp 142, .tmp 145, .const (.bool false)], none, [], none⟩,
  ⟨some 147, .mov, [.tmp 146], none, [], none⟩,
  ⟨some 148, (.load (some 1)), [.tmp 7], some (147, true), [], none⟩,
  ⟨some 149, (.load (some 1)), [.tmp 23], some (147, true), [], none⟩,
  ⟨some 150, (.call 89), [.tmp 148, .tmp 149], some (147, true), [], none⟩,
  ⟨some 151, .pick, [.tmp 147, .tmp 150, .const (.bool false)], none, [], none⟩,
  ⟨some 152, .mov, [.tmp 151], none, [], none⟩,
  ⟨some 153, (.call 72), [], some (152, true), [], none⟩,
  ⟨some 154, .pick, [.tmp 152, .tmp 153, .const (.bool false)], none, [], none⟩,
  ⟨some 14, .mov, [.tmp 154], none, [], none⟩] false [0, 1, 2, 3, 4, 5, 6, 7, 8, 14, 15, 16, 17, 18, 19, 20, 21, 22, 23, 24, 25, 44, 53, 80, 119])
  (.ret))))))))))))))
def keep14 : List Nat := [0, 1, 2, 3, 4, 5, 6, 7, 8, 14, 15, 16, 17, 18, 19, 20, 21, 22, 23, 24, 25, 44, 53, 80, 119]
theorem fn14 : compFn Try.prog 14 keep14 = some ⟨155, 7, [(14, none)], body14⟩ := by kernel_rfl

/- chartroom/chartroomlaw14.works -/
def body72 : AC :=
  .seq (.reg [
  ⟨some 0, .mov, [.const (.bool false)], none, [], none⟩] false [0, 1, 2, 4, 5, 6])
  (.seq (.reg [
  ⟨some 8, (.bld [(.slice none 0 0)] []), [], none, [], none⟩,
  ⟨some 9, (.bld [(.int .u64 0), (.int .u64 0), (.int .u64 0)] [(0, 1), (1, 1), (2, 1)]), [.const (.int .u64 3), .const (.int .u64 1), .const (.int .u64 10)], none, [], none⟩,
  ⟨some 10, (.call 76), [.tmp 8, .tmp 9], none, [], none⟩,
  ⟨some 7, .mov, [.tmp 10], none, [], none⟩,
  ⟨some 11, (.ext 0), [.tmp 7], none, [], none⟩,
  ⟨some 12, (.ext 1), [.tmp 7], none, [], none⟩,
  ⟨some 1, (.alloc [(.slice none 0 0)]), [], none, [], none⟩,
  ⟨none, (.store (some 1)), [.tmp 1, .tmp 11], none, [], none⟩,
  ⟨some 2, .mov, [.tmp 12], none, [], none⟩] false [0, 1, 2, 4, 5, 6])
  (.seq (.reg [
  ⟨some 14, (.load (some 1)), [.tmp 1], none, [], none⟩,
  ⟨some 15, (.bld [(.int .u64 0), (.int .u64 0), (.int .u64 0)] [(0, 1), (1, 1), (2, 1)]), [.const (.int .u64 3), .const (.int .u64 2), .const (.int .u64 5)], none, [], none⟩,
  ⟨some 16, (.call 76), [.tmp 14, .tmp 15], none, [], none⟩,
  ⟨some 13, .mov, [.tmp 16], none, [], none⟩,
  ⟨some 17, (.ext 0), [.tmp 13], none, [], none⟩,
  ⟨some 18, (.ext 1), [.tmp 13], none, [], none⟩,
  ⟨some 3, (.alloc [(.slice none 0 0)]), [], none, [], none⟩,
  ⟨none, (.store (some 1)), [.tmp 3, .tmp 17], none, [], none⟩,
  ⟨some 4, .mov, [.tmp 18], none, [], none⟩] false [0, 1, 2, 4, 5, 6])
  (.seq (.reg [
  ⟨some 20, (.load (some 1)), [.tmp 1], none, [], none⟩,
  ⟨some 21, (.bld [(.int .u64 0), (.int .u64 0), (.int .u64 0)] [(0, 1), (1, 1), (2, 1)]), [.const (.int .u64 4), .const (.int .u64 1), .const (.int .u64 7)], none, [], none⟩,
  ⟨some 22, (.call 76), [.tmp 20, .tmp 21], none, [], none⟩,
  ⟨some 19, .mov, [.tmp 22], none, [], none⟩,
  ⟨some 23, (.ext 0), [.tmp 19], none, [], none⟩,
  ⟨some 24, (.ext 1), [.tmp 19], none, [], none⟩,
  ⟨some 5, (.alloc [(.slice none 0 0)]), [], none, [], none⟩,
  ⟨none, (.store (some 1)), [.tmp 5, .tmp 23], none, [], none⟩,
  ⟨some 6, .mov, [.tmp 24], none, [], none⟩] false [0, 1, 2, 4, 5, 6])
  (.seq (.reg (
  ⟨some 25, .mov, [.tmp 2], none, [], none⟩ ::
  ⟨some 26, (.bin .eql), [.tmp 25, .const (.int .i64 0)], none, [], none⟩ ::
  ⟨some 27, .mov, [.tmp 26], none, [], none⟩ ::
  ⟨some 28, .mov, [.tmp 4], some (27, true), [], none⟩ ::
  ⟨some 29, (.bin .eql), [.tmp 28, .const (.int .i64 2)], some (27, true), [], none⟩ ::
  ⟨some 30, .pick, [.tmp 27, .tmp 29, .const (.bool false)], none, [], none⟩ ::
  ⟨some 31, .mov, [.tmp 30], none, [], none⟩ ::
  ⟨some 32, .mov, [.tmp 6], some (31, true), [], none⟩ ::
  ⟨some 33, (.bin .eql), [.tmp 32, .const (.int .i64 0)], some (31, true), [], none⟩ ::
  ⟨some 34, .pick, [.tmp 31, .tmp 33, .const (.bool false)], none, [], none⟩ ::
  ⟨some 35, .mov, [.tmp 34], none, [], none⟩ ::
  ⟨some 36, (.load (some 1)), [.tmp 5], some (35, true), [], none⟩ ::
  ⟨some 37, (.call 78), [.tmp 36, .const (.int .u64 8), .const (.int .u64 0)], some (35, true), [], none⟩ ::
  ⟨some 38, (.load (some 1)), [.tmp 1], some (35, true), [37], none⟩ ::
  ⟨some 39, (.call 89), [.tmp 37, .tmp 38], some (35, true), [], none⟩ ::
  ⟨some 40, .pick, [.tmp 35, .tmp 39, .const (.bool false)], none, [], none⟩ ::
  ⟨some 41, .mov, [.tmp 40], none, [], none⟩ ::
  ⟨some 42, (.load (some 1)), [.tmp 5], some (41, true), [], none⟩ ::
  ⟨some 43, (.call 78), [.tmp 42, .const (.int .u64 8), .const (.int .u64 1)], some (41, true), [], none⟩ ::
  ⟨some 44, (.load (some 1)), [.tmp 5], some (41, true), [43], none⟩ ::
  ⟨some 45, (.call 89), [.tmp 43, .tmp 44], some (41, true), [], none⟩ ::
  ⟨some 46, .pick, [.tmp 41, .tmp 45, .const (.bool false)], none, [], none⟩ ::
  ⟨some 47, .mov, [.tmp 46], none, [], none⟩ ::
  ⟨some 48, (.fad 0), [.tmp 1], some (47, true), [], none⟩ ::
  ⟨some 49, (.load none), [.tmp 48], some (47, true), [], none⟩ ::
  ⟨some 50, .len, [.tmp 49], some (47, true), [], none⟩ ::
  ⟨some 51, (.bin .eql), [.tmp 50, .const (.int .i64 1)], some (47, true), [], none⟩ ::
  ⟨some 52, .pick, [.tmp 47, .tmp 51, .const (.bool false)], none, [], none⟩ ::
  ⟨some 53, .mov, [.tmp 52], none, [], none⟩ ::
  ⟨some 54, (.fad 0), [.tmp 5], some (53, true), [], none⟩ ::
  ⟨some 55, (.load none), [.tmp 54], some (53, true), [], none⟩ ::
  ⟨some 56, .len, [.tmp 55], some (53, true), [], none⟩ ::
  ⟨some 57, (.bin .eql), [.tmp 56, .const (.int .i64 2)], some (53, true), [], none⟩ ::
  ⟨some 58, .pick, [.tmp 53, .tmp 57, .const (.bool false)], none, [], none⟩ ::
  ⟨some 59, .mov, [.tmp 58], none, [], none⟩ ::
  ⟨some 60, (.load (some 1)), [.tmp 5], some (59, true), [62], none⟩ ::
  ⟨some 61, (.call 79), [.tmp 60], some (59, true), [62], none⟩ ::
  ⟨some 62, (.bsl 24 1), [.const (.int .u64 1)], some (59, true), [61], none⟩ ::
  ⟨some 63, (.call 82), [.tmp 61, .tmp 62], some (59, true), [], none⟩ ::
  ⟨some 64, .pick, [.tmp 59, .tmp 63, .const (.bool false)], none, [], none⟩ ::
  ⟨some 65, .mov, [.tmp 64], none, [], none⟩ ::
  ⟨some 66, (.load (some 1)), [.tmp 1], some (65, true), [68], none⟩ ::
  ⟨some 67, (.call 92), [.tmp 66], some (65, true), [68], none⟩ ::
  ⟨some 68, (.bsl 5 1), [.const (.int .u8 1), .const (.int .u8 3), .const (.int .u8 1), .const (.int .u8 10)], some (65, true), [67], none⟩ ::
  ⟨some 69, (.call 39), [.tmp 67, .tmp 68], some (65, true), [], none⟩ ::
  ⟨some 70, .pick, [.tmp 65, .tmp 69, .const (.bool false)], none, [], none⟩ ::
  ⟨some 0, .mov, [.tmp 70], none, [], none⟩ :: []) true [0, 1, 2, 4, 5, 6])
  (.ret)))))
def keep72 : List Nat := [0, 1, 2, 4, 5, 6]
theorem fn72 : compFn Try.prog 72 keep72 = some ⟨71, 0, [(0, none)], body72⟩ := by kernel_rfl

/- chartroom/chartroomlaw14.ref -/
def body73 : AC :=
  .seq (.reg [
  ⟨some 1, .box, [.tmp 0], none, [], none⟩,
  ⟨some 2, (.nilS 120), [], none, [], none⟩] false [0, 1, 2, 3, 4, 5, 10])
  (.seq (.reg [
  ⟨some 3, (.nilS 120), [], none, [], none⟩] false [0, 1, 2, 3, 4, 5, 10])
  (.seq (.seq (.reg [
  ⟨some 4, .mov, [.const (.int .i64 0)], none, [], none⟩] false [0, 1, 2, 3, 4, 5, 10])
  (.block 0 (.loop (.seq (.seq (.reg [
   ⟨some 6, .mov, [.tmp 4], none, [], none⟩,
   ⟨some 7, (.fad 0), [.tmp 1], none, [], none⟩,
   ⟨some 8, (.load none), [.tmp 7], none, [], none⟩,
   ⟨some 9, .len, [.tmp 8], none, [], none⟩,
   ⟨some 10, (.bin .lss), [.tmp 6, .tmp 9], none, [], none⟩] false [0, 1, 2, 3, 4, 5, 10])
   (.cond (.tmp 10) (.skip) (.exit 0)))
   (.seq (.block 1 (.seq (.reg [
   ⟨some 13, (.fad 0), [.tmp 1], none, [], none⟩,
   ⟨some 14, (.load none), [.tmp 13], none, [], none⟩,
   ⟨some 15, .mov, [.tmp 4], none, [], none⟩,
   ⟨some 16, (.ixa 117 3), [.tmp 14, .tmp 15], none, [], none⟩,
   ⟨some 17, (.load (some 3)), [.tmp 16], none, [], none⟩,
   ⟨some 5, (.alloc [(.int .u64 0), (.int .u64 0), (.int .u64 0)]), [], none, [], none⟩,
   ⟨none, (.store (some 3)), [.tmp 5, .tmp 17], none, [], none⟩] false [0, 1, 2, 3, 4, 5, 10])
   (.reg [
   ⟨some 18, .mov, [.tmp 3], none, [], none⟩,
   ⟨some 19, (.fad 0), [.tmp 5], none, [], none⟩,
   ⟨some 20, (.load none), [.tmp 19], none, [], none⟩,
   ⟨some 21, (.fad 1), [.tmp 5], none, [], none⟩,
   ⟨some 22, (.load none), [.tmp 21], none, [], none⟩,
   ⟨some 23, (.fad 2), [.tmp 5], none, [], none⟩,
   ⟨some 24, (.load none), [.tmp 23], none, [], none⟩,
   ⟨some 25, (.bld [(.int .u64 0), (.int .u64 0), (.int .u64 0)] [(0, 1), (1, 1), (2, 1)]), [.tmp 20, .tmp 22, .tmp 24], none, [], none⟩,
   ⟨some 26, (.bsl 120 3), [.tmp 25], none, [], none⟩,
   ⟨some 27, (.app 120 3 24), [.tmp 18, .tmp 26], none, [], none⟩,
   ⟨some 3, .mov, [.tmp 27], none, [], none⟩] false [0, 1, 2, 3, 4, 5, 10])))
   (.reg [
   ⟨some 11, .mov, [.tmp 4], none, [], none⟩,
   ⟨some 12, (.bin .add), [.tmp 11, .const (.int .i64 1)], none, [], none⟩,
   ⟨some 4, .mov, [.tmp 12], none, [], none⟩] false [0, 1, 2, 3, 4, 5, 10]))))))
  (.seq (.reg [
  ⟨some 28, .mov, [.tmp 3], none, [], none⟩,
  ⟨some 2, .mov, [.tmp 28], none, [], none⟩] false [0, 1, 2, 3, 4, 5, 10])
  (.ret))))
def keep73 : List Nat := [0, 1, 2, 3, 4, 5, 10]
theorem fn73 : compFn Try.prog 73 keep73 = some ⟨29, 1, [(2, none)], body73⟩ := by kernel_rfl

/- chartroom/chartroomref14.Add -/
def body74 : AC :=
  .seq (.reg [
  ⟨some 3, .box, [.tmp 1], none, [], none⟩,
  ⟨some 4, (.nilS 120), [], none, [], none⟩,
  ⟨some 5, .mov, [.const (.int .i64 0)], none, [], none⟩] false [0, 1, 3, 4, 5, 6, 16])
  (.seq (.reg [
  ⟨some 6, (.nilS 120), [], none, [], none⟩] false [0, 1, 3, 4, 5, 6, 16])
  (.seq (.reg [
  ⟨some 7, .mov, [.tmp 6], none, [], none⟩,
  ⟨some 8, .mov, [.tmp 0], none, [], none⟩,
  ⟨some 9, (.app 120 3 24), [.tmp 7, .tmp 8], none, [], none⟩,
  ⟨some 6, .mov, [.tmp 9], none, [], none⟩] false [0, 1, 3, 4, 5, 6, 16])
  (.seq (.reg [
  ⟨some 10, .mov, [.tmp 6], none, [], none⟩,
  ⟨some 11, (.load (some 3)), [.tmp 3], none, [], none⟩,
  ⟨some 12, (.bsl 120 3), [.tmp 11], none, [], none⟩,
  ⟨some 13, (.app 120 3 24), [.tmp 10, .tmp 12], none, [], none⟩,
  ⟨some 6, .mov, [.tmp 13], none, [], none⟩] false [0, 1, 3, 4, 5, 6, 16])
  (.seq (.seq (.reg [
  ⟨some 14, .mov, [.tmp 6], none, [], none⟩,
  ⟨some 15, (.call 86), [.tmp 14], none, [], none⟩,
  ⟨some 16, .not, [.tmp 15], none, [], none⟩] false [0, 1, 3, 4, 5, 6, 16])
  (.cond (.tmp 16) (.seq (.reg [
  ⟨some 4, (.nilS 120), [], none, [], none⟩,
  ⟨some 5, .mov, [.const (.int .i64 2)], none, [], none⟩] false [0, 1, 3, 4, 5, 6, 16])
  (.ret)) (.skip)))
  (.seq (.reg [
  ⟨some 17, .mov, [.tmp 6], none, [], none⟩,
  ⟨some 4, .mov, [.tmp 17], none, [], none⟩,
  ⟨some 5, .mov, [.const (.int .i64 0)], none, [], none⟩] false [0, 1, 3, 4, 5, 6, 16])
  (.ret))))))
def keep74 : List Nat := [0, 1, 3, 4, 5, 6, 16]
theorem fn74 : compFn Try.prog 74 keep74 = some ⟨18, 2, [(4, none), (5, none)], body74⟩ := by kernel_rfl

/- chartroom/chartroomref14.Remove -/
def body75 : AC :=
  .seq (.reg [
  ⟨some 4, (.nilS 120), [], none, [], none⟩,
  ⟨some 5, .mov, [.const (.int .i64 0)], none, [], none⟩] false [0, 1, 4, 5, 6, 7, 8, 12, 25, 34])
  (.seq (.reg [
  ⟨some 6, (.nilS 120), [], none, [], none⟩] false [0, 1, 4, 5, 6, 7, 8, 12, 25, 34])
  (.seq (.reg [
  ⟨some 7, .mov, [.const (.bool false)], none, [], none⟩] false [0, 1, 4, 5, 6, 7, 8, 12, 25, 34])
  (.seq (.seq (.reg [
  ⟨some 8, .mov, [.const (.int .i64 0)], none, [], none⟩] false [0, 1, 4, 5, 6, 7, 8, 12, 25, 34])
  (.block 0 (.loop (.seq (.seq (.reg [
   ⟨some 9, .mov, [.tmp 8], none, [], none⟩,
   ⟨some 10, .mov, [.tmp 0], none, [], none⟩,
   ⟨some 11, .len, [.tmp 10], none, [], none⟩,
   ⟨some 12, (.bin .lss), [.tmp 9, .tmp 11], none, [], none⟩] false [0, 1, 4, 5, 6, 7, 8, 12, 25, 34])
   (.cond (.tmp 12) (.skip) (.exit 0)))
   (.seq (.block 1 (.seq (.reg [
   ⟨some 15, .mov, [.tmp 0], none, [], none⟩,
   ⟨some 16, .mov, [.tmp 8], none, [], none⟩,
   ⟨some 17, (.ixa 120 3), [.tmp 15, .tmp 16], none, [], none⟩,
   ⟨some 18, (.fad 0), [.tmp 17], none, [], none⟩,
   ⟨some 19, (.load none), [.tmp 18], none, [], none⟩,
   ⟨some 20, .mov, [.tmp 1], none, [], none⟩,
   ⟨some 21, (.bin .eql), [.tmp 19, .tmp 20], none, [], none⟩,
   ⟨some 22, .mov, [.tmp 21], none, [], none⟩,
   ⟨some 23, .mov, [.tmp 7], some (22, true), [], none⟩,
   ⟨some 24, .not, [.tmp 23], some (22, true), [], none⟩,
   ⟨some 25, .pick, [.tmp 22, .tmp 24, .const (.bool false)], none, [], none⟩] false [0, 1, 4, 5, 6, 7, 8, 12, 25, 34])
   (.cond (.tmp 25) (.reg [
   ⟨some 7, .mov, [.const (.bool true)], none, [], none⟩] false [0, 1, 4, 5, 6, 7, 8, 12, 25, 34]) (.reg [
   ⟨some 26, .mov, [.tmp 6], none, [], none⟩,
   ⟨some 27, .mov, [.tmp 0], none, [], none⟩,
   ⟨some 28, .mov, [.tmp 8], none, [], none⟩,
   ⟨some 29, (.ixa 120 3), [.tmp 27, .tmp 28], none, [], none⟩,
   ⟨some 30, (.load (some 3)), [.tmp 29], none, [], none⟩,
   ⟨some 31, (.bsl 120 3), [.tmp 30], none, [], none⟩,
   ⟨some 32, (.app 120 3 24), [.tmp 26, .tmp 31], none, [], none⟩,
   ⟨some 6, .mov, [.tmp 32], none, [], none⟩] false [0, 1, 4, 5, 6, 7, 8, 12, 25, 34]))))
   (.reg [
   ⟨some 13, .mov, [.tmp 8], none, [], none⟩,
   ⟨some 14, (.bin .add), [.tmp 13, .const (.int .i64 1)], none, [], none⟩,
   ⟨some 8, .mov, [.tmp 14], none, [], none⟩] false [0, 1, 4, 5, 6, 7, 8, 12, 25, 34]))))))
  (.seq (.seq (.reg [
  ⟨some 33, .mov, [.tmp 7], none, [], none⟩,
  ⟨some 34, .not, [.tmp 33], none, [], none⟩] false [0, 1, 4, 5, 6, 7, 8, 12, 25, 34])
  (.cond (.tmp 34) (.seq (.reg [
  ⟨some 4, (.nilS 120), [], none, [], none⟩,
  ⟨some 5, .mov, [.const (.int .i64 80)], none, [], none⟩] false [0, 1, 4, 5, 6, 7, 8, 12, 25, 34])
  (.ret)) (.skip)))
  (.seq (.reg [
  ⟨some 35, .mov, [.tmp 6], none, [], none⟩,
  ⟨some 4, .mov, [.tmp 35], none, [], none⟩,
  ⟨some 5, .mov, [.const (.int .i64 0)], none, [], none⟩] false [0, 1, 4, 5, 6, 7, 8, 12, 25, 34])
  (.ret))))))
def keep75 : List Nat := [0, 1, 4, 5, 6, 7, 8, 12, 25, 34]
theorem fn75 : compFn Try.prog 75 keep75 = some ⟨36, 2, [(4, none), (5, none)], body75⟩ := by kernel_rfl

/- (chartroom/pins.Pins).Add -/
def body76 : AC :=
  .seq (.reg [
  ⟨some 2, .box, [.tmp 0], none, [], none⟩,
  ⟨some 3, .box, [.tmp 1], none, [], none⟩,
  ⟨some 4, (.alloc [(.slice none 0 0)]), [], none, [], none⟩,
  ⟨some 5, .mov, [.const (.int .i64 0)], none, [], none⟩] false [0, 1, 2, 3, 4, 5, 6, 16])
  (.seq (.reg [
  ⟨some 7, (.fad 0), [.tmp 2], none, [11, 6], none⟩,
  ⟨some 8, (.load none), [.tmp 7], none, [11, 6], none⟩,
  ⟨some 9, (.call 129), [.tmp 8], none, [11, 6], none⟩,
  ⟨some 10, (.load (some 3)), [.tmp 3], none, [9, 6], none⟩,
  ⟨some 11, (.bsl 117 3), [.tmp 10], none, [9, 6], none⟩,
  ⟨some 12, (.app 117 3 24), [.tmp 9, .tmp 11], none, [6], none⟩,
  ⟨some 13, (.bld [(.slice none 0 0)] [(0, 1)]), [.tmp 12], none, [6], none⟩,
  ⟨some 6, (.alloc [(.slice none 0 0)]), [], none, [9, 11, 12], none⟩,
  ⟨none, (.store (some 1)), [.tmp 6, .tmp 13], none, [], (some 6)⟩] true [0, 1, 2, 3, 4, 5, 6, 16])
  (.seq (.seq (.reg [
  ⟨some 14, (.load (some 1)), [.tmp 6], none, [], none⟩,
  ⟨some 15, (.call 85), [.tmp 14], none, [], none⟩,
  ⟨some 16, .not, [.tmp 15], none, [], none⟩] false [0, 1, 2, 3, 4, 5, 6, 16])
  (.cond (.tmp 16) (.seq (.reg [
  ⟨some 17, (.bld [(.slice none 0 0)] []), [], none, [], none⟩,
  ⟨none, (.store (some 1)), [.tmp 4, .tmp 17], none, [], none⟩,
  ⟨some 5, .mov, [.const (.int .i64 2)], none, [], none⟩] false [0, 1, 2, 3, 4, 5, 6, 16])
  (.ret)) (.skip)))
  (.seq (.reg [
  ⟨some 18, (.load (some 1)), [.tmp 6], none, [], none⟩,
  ⟨none, (.store (some 1)), [.tmp 4, .tmp 18], none, [], none⟩,
  ⟨some 5, .mov, [.const (.int .i64 0)], none, [], none⟩] false [0, 1, 2, 3, 4, 5, 6, 16])
  (.ret))))
def keep76 : List Nat := [0, 1, 2, 3, 4, 5, 6, 16]
theorem fn76 : compFn Try.prog 76 keep76 = some ⟨19, 2, [(4, some (some 1)), (5, none)], body76⟩ := by kernel_rfl

/- (chartroom/pins.Pins).Remove -/
def body77 : AC :=
  .seq (.reg [
  ⟨some 2, .box, [.tmp 0], none, [], none⟩,
  ⟨some 3, .box, [.tmp 1], none, [], none⟩,
  ⟨some 4, (.alloc [(.slice none 0 0)]), [], none, [], none⟩,
  ⟨some 5, .mov, [.const (.int .i64 0)], none, [], none⟩] false [0, 1, 2, 3, 4, 5, 6, 12])
  (.seq (.reg [
  ⟨some 7, (.fad 0), [.tmp 2], none, [], none⟩,
  ⟨some 8, (.load none), [.tmp 7], none, [], none⟩,
  ⟨some 9, (.mkf 131), [.tmp 3], none, [], none⟩,
  ⟨some 10, (.call 130), [.tmp 8, .tmp 9], none, [], none⟩,
  ⟨some 6, .mov, [.tmp 10], none, [], none⟩] false [0, 1, 2, 3, 4, 5, 6, 12])
  (.seq (.seq (.reg [
  ⟨some 11, .mov, [.tmp 6], none, [], none⟩,
  ⟨some 12, (.bin .lss), [.tmp 11, .const (.int .i64 0)], none, [], none⟩] false [0, 1, 2, 3, 4, 5, 6, 12])
  (.cond (.tmp 12) (.seq (.reg [
  ⟨some 13, (.bld [(.slice none 0 0)] []), [], none, [], none⟩,
  ⟨none, (.store (some 1)), [.tmp 4, .tmp 13], none, [], none⟩,
  ⟨some 5, .mov, [.const (.int .i64 80)], none, [], none⟩] false [0, 1, 2, 3, 4, 5, 6, 12])
  (.ret)) (.skip)))
  (.seq (.reg [
  ⟨some 14, (.fad 0), [.tmp 2], none, [], none⟩,
  ⟨some 15, (.load none), [.tmp 14], none, [], none⟩,
  ⟨some 16, .mov, [.tmp 6], none, [], none⟩,
  ⟨some 17, (.slc 3 false true), [.tmp 15, .tmp 16], none, [], none⟩,
  ⟨some 18, (.fad 0), [.tmp 2], none, [], none⟩,
  ⟨some 19, (.load none), [.tmp 18], none, [], none⟩,
  ⟨some 20, .mov, [.tmp 6], none, [], none⟩,
  ⟨some 21, (.bin .add), [.tmp 20, .const (.int .i64 1)], none, [], none⟩,
  ⟨some 22, (.slc 3 true false), [.tmp 19, .tmp 21], none, [], none⟩,
  ⟨some 23, (.bsl 113 1), [.tmp 17, .tmp 22], none, [], none⟩,
  ⟨some 24, (.call 132), [.tmp 23], none, [], none⟩,
  ⟨some 25, (.bld [(.slice none 0 0)] [(0, 1)]), [.tmp 24], none, [], none⟩,
  ⟨none, (.store (some 1)), [.tmp 4, .tmp 25], none, [], none⟩,
  ⟨some 5, .mov, [.const (.int .i64 0)], none, [], none⟩] true [0, 1, 2, 3, 4, 5, 6, 12])
  (.ret))))
def keep77 : List Nat := [0, 1, 2, 3, 4, 5, 6, 12]
theorem fn77 : compFn Try.prog 77 keep77 = some ⟨26, 2, [(4, some (some 1)), (5, none)], body77⟩ := by kernel_rfl

/- (chartroom/pins.Pins).Live -/
def body78 : AC :=
  .seq (.reg [
  ⟨some 3, .box, [.tmp 0], none, [], none⟩,
  ⟨some 4, .box, [.tmp 1], none, [], none⟩,
  ⟨some 5, .box, [.tmp 2], none, [], none⟩,
  ⟨some 6, (.alloc [(.slice none 0 0)]), [], none, [], none⟩] false [0, 1, 2, 3, 4, 5, 6, 7])
  (.seq (.reg [
  ⟨some 8, (.mkf 133), [.tmp 4, .tmp 5], none, [], none⟩,
  ⟨some 7, .mov, [.tmp 8], none, [], none⟩] false [0, 1, 2, 3, 4, 5, 6, 7])
  (.seq (.reg [
  ⟨some 9, (.fad 0), [.tmp 3], none, [], none⟩,
  ⟨some 10, (.load none), [.tmp 9], none, [], none⟩,
  ⟨some 11, (.call 129), [.tmp 10], none, [], none⟩,
  ⟨some 12, .mov, [.tmp 7], none, [], none⟩,
  ⟨some 13, (.call 135), [.tmp 11, .tmp 12], none, [], none⟩,
  ⟨some 14, (.bld [(.slice none 0 0)] [(0, 1)]), [.tmp 13], none, [], none⟩,
  ⟨none, (.store (some 1)), [.tmp 6, .tmp 14], none, [], none⟩] false [0, 1, 2, 3, 4, 5, 6, 7])
  (.ret)))
def keep78 : List Nat := [0, 1, 2, 3, 4, 5, 6, 7]
theorem fn78 : compFn Try.prog 78 keep78 = some ⟨15, 3, [(6, some (some 1))], body78⟩ := by kernel_rfl

/- (chartroom/pins.Pins).Versions -/
def body79 : AC :=
  .seq (.reg [
  ⟨some 1, .box, [.tmp 0], none, [], none⟩,
  ⟨some 2, (.nilS 24), [], none, [], none⟩] false [0, 1, 2, 3, 5, 7, 8, 9, 10])
  (.seq (.reg [
  ⟨some 3, (.nilS 24), [], none, [], none⟩] false [0, 1, 2, 3, 5, 7, 8, 9, 10])
  (.seq (.seq (.reg [
  ⟨some 6, (.fad 0), [.tmp 1], none, [], none⟩,
  ⟨some 7, (.load none), [.tmp 6], none, [], none⟩,
  ⟨some 8, .len, [.tmp 7], none, [], none⟩,
  ⟨some 9, .mov, [.const (.int .i64 0)], none, [], none⟩] false [0, 1, 2, 3, 5, 7, 8, 9, 10])
  (.block 0 (.loop (.seq (.reg [
   ⟨some 10, (.bin .lss), [.tmp 9, .tmp 8], none, [], none⟩] false [0, 1, 2, 3, 5, 7, 8, 9, 10])
   (.seq (.cond (.tmp 10) (.skip) (.exit 0))
   (.seq (.block 1 (.seq (.reg [
   ⟨some 11, (.ixa 117 3), [.tmp 7, .tmp 9], none, [], none⟩,
   ⟨some 12, (.load (some 3)), [.tmp 11], none, [], none⟩,
   ⟨some 5, (.alloc [(.int .u64 0), (.int .u64 0), (.int .u64 0)]), [], none, [], none⟩,
   ⟨none, (.store (some 3)), [.tmp 5, .tmp 12], none, [], none⟩] false [0, 1, 2, 3, 5, 7, 8, 9, 10])
   (.reg [
   ⟨some 13, .mov, [.tmp 3], none, [], none⟩,
   ⟨some 14, (.fad 1), [.tmp 5], none, [], none⟩,
   ⟨some 15, (.load none), [.tmp 14], none, [], none⟩,
   ⟨some 16, (.bsl 24 1), [.tmp 15], none, [], none⟩,
   ⟨some 17, (.app 24 1 8), [.tmp 13, .tmp 16], none, [], none⟩,
   ⟨some 3, .mov, [.tmp 17], none, [], none⟩] false [0, 1, 2, 3, 5, 7, 8, 9, 10])))
   (.reg [
   ⟨some 18, (.bin .add), [.tmp 9, .const (.int .i64 1)], none, [], none⟩,
   ⟨some 9, .mov, [.tmp 18], none, [], none⟩] false [0, 1, 2, 3, 5, 7, 8, 9, 10])))))))
  (.seq (.reg [
  ⟨some 19, .mov, [.tmp 3], none, [], none⟩,
  ⟨some 20, (.call 136), [.tmp 19], none, [], none⟩] false [0, 1, 2, 3, 5, 7, 8, 9, 10])
  (.seq (.reg [
  ⟨some 21, .mov, [.tmp 3], none, [], none⟩,
  ⟨some 22, (.call 137), [.tmp 21], none, [], none⟩,
  ⟨some 2, .mov, [.tmp 22], none, [], none⟩] false [0, 1, 2, 3, 5, 7, 8, 9, 10])
  (.ret)))))
def keep79 : List Nat := [0, 1, 2, 3, 5, 7, 8, 9, 10]
theorem fn79 : compFn Try.prog 79 keep79 = some ⟨23, 1, [(2, none)], body79⟩ := by kernel_rfl

/- chartroom/chartroomref14.Same -/
def body80 : AC :=
  .seq (.reg [
  ⟨some 4, .mov, [.const (.bool false)], none, [], none⟩] false [0, 1, 4, 5, 10, 14, 25])
  (.seq (.seq (.reg [
  ⟨some 6, .mov, [.tmp 0], none, [], none⟩,
  ⟨some 7, .len, [.tmp 6], none, [], none⟩,
  ⟨some 8, .mov, [.tmp 1], none, [], none⟩,
  ⟨some 9, .len, [.tmp 8], none, [], none⟩,
  ⟨some 10, (.bin .neq), [.tmp 7, .tmp 9], none, [], none⟩] false [0, 1, 4, 5, 10, 14, 25])
  (.cond (.tmp 10) (.seq (.reg [
  ⟨some 4, .mov, [.const (.bool false)], none, [], none⟩] false [0, 1, 4, 5, 10, 14, 25])
  (.ret)) (.skip)))
  (.seq (.seq (.reg [
  ⟨some 5, .mov, [.const (.int .i64 0)], none, [], none⟩] false [0, 1, 4, 5, 10, 14, 25])
  (.block 0 (.loop (.seq (.seq (.reg [
   ⟨some 11, .mov, [.tmp 5], none, [], none⟩,
   ⟨some 12, .mov, [.tmp 0], none, [], none⟩,
   ⟨some 13, .len, [.tmp 12], none, [], none⟩,
   ⟨some 14, (.bin .lss), [.tmp 11, .tmp 13], none, [], none⟩] false [0, 1, 4, 5, 10, 14, 25])
   (.cond (.tmp 14) (.skip) (.exit 0)))
   (.seq (.block 1 (.seq (.reg [
   ⟨some 17, .mov, [.tmp 0], none, [], none⟩,
   ⟨some 18, .mov, [.tmp 5], none, [], none⟩,
   ⟨some 19, (.ixa 120 3), [.tmp 17, .tmp 18], none, [], none⟩,
   ⟨some 20, (.load (some 3)), [.tmp 19], none, [], none⟩,
   ⟨some 21, .mov, [.tmp 1], none, [], none⟩,
   ⟨some 22, .mov, [.tmp 5], none, [], none⟩,
   ⟨some 23, (.ixa 120 3), [.tmp 21, .tmp 22], none, [], none⟩,
   ⟨some 24, (.load (some 3)), [.tmp 23], none, [], none⟩,
   ⟨some 25, (.eqs true [9, 9, 9]), [.tmp 20, .tmp 24], none, [], none⟩] true [0, 1, 4, 5, 10, 14, 25])
   (.cond (.tmp 25) (.seq (.reg [
   ⟨some 4, .mov, [.const (.bool false)], none, [], none⟩] false [0, 1, 4, 5, 10, 14, 25])
   (.ret)) (.skip))))
   (.reg [
   ⟨some 15, .mov, [.tmp 5], none, [], none⟩,
   ⟨some 16, (.bin .add), [.tmp 15, .const (.int .i64 1)], none, [], none⟩,
   ⟨some 5, .mov, [.tmp 16], none, [], none⟩] false [0, 1, 4, 5, 10, 14, 25]))))))
  (.seq (.reg [
  ⟨some 4, .mov, [.const (.bool true)], none, [], none⟩] false [0, 1, 4, 5, 10, 14, 25])
  (.ret))))
def keep80 : List Nat := [0, 1, 4, 5, 10, 14, 25]
theorem fn80 : compFn Try.prog 80 keep80 = some ⟨26, 2, [(4, none)], body80⟩ := by kernel_rfl

/- chartroom/chartroomref14.Live -/
def body81 : AC :=
  .seq (.reg [
  ⟨some 6, (.nilS 120), [], none, [], none⟩] false [0, 1, 2, 6, 7, 8, 12, 23])
  (.seq (.reg [
  ⟨some 7, (.nilS 120), [], none, [], none⟩] false [0, 1, 2, 6, 7, 8, 12, 23])
  (.seq (.seq (.reg [
  ⟨some 8, .mov, [.const (.int .i64 0)], none, [], none⟩] false [0, 1, 2, 6, 7, 8, 12, 23])
  (.block 0 (.loop (.seq (.seq (.reg [
   ⟨some 9, .mov, [.tmp 8], none, [], none⟩,
   ⟨some 10, .mov, [.tmp 0], none, [], none⟩,
   ⟨some 11, .len, [.tmp 10], none, [], none⟩,
   ⟨some 12, (.bin .lss), [.tmp 9, .tmp 11], none, [], none⟩] false [0, 1, 2, 6, 7, 8, 12, 23])
   (.cond (.tmp 12) (.skip) (.exit 0)))
   (.seq (.block 1 (.seq (.reg [
   ⟨some 15, .mov, [.tmp 1], none, [], none⟩,
   ⟨some 16, .mov, [.tmp 0], none, [], none⟩,
   ⟨some 17, .mov, [.tmp 8], none, [], none⟩,
   ⟨some 18, (.ixa 120 3), [.tmp 16, .tmp 17], none, [], none⟩,
   ⟨some 19, (.fad 2), [.tmp 18], none, [], none⟩,
   ⟨some 20, (.load none), [.tmp 19], none, [], none⟩,
   ⟨some 21, .mov, [.tmp 2], none, [], none⟩,
   ⟨some 22, (.call 138), [.tmp 15, .tmp 20, .tmp 21], none, [], none⟩,
   ⟨some 23, .not, [.tmp 22], none, [], none⟩] false [0, 1, 2, 6, 7, 8, 12, 23])
   (.cond (.tmp 23) (.reg [
   ⟨some 24, .mov, [.tmp 7], none, [], none⟩,
   ⟨some 25, .mov, [.tmp 0], none, [], none⟩,
   ⟨some 26, .mov, [.tmp 8], none, [], none⟩,
   ⟨some 27, (.ixa 120 3), [.tmp 25, .tmp 26], none, [], none⟩,
   ⟨some 28, (.load (some 3)), [.tmp 27], none, [], none⟩,
   ⟨some 29, (.bsl 120 3), [.tmp 28], none, [], none⟩,
   ⟨some 30, (.app 120 3 24), [.tmp 24, .tmp 29], none, [], none⟩,
   ⟨some 7, .mov, [.tmp 30], none, [], none⟩] false [0, 1, 2, 6, 7, 8, 12, 23]) (.skip))))
   (.reg [
   ⟨some 13, .mov, [.tmp 8], none, [], none⟩,
   ⟨some 14, (.bin .add), [.tmp 13, .const (.int .i64 1)], none, [], none⟩,
   ⟨some 8, .mov, [.tmp 14], none, [], none⟩] false [0, 1, 2, 6, 7, 8, 12, 23]))))))
  (.seq (.reg [
  ⟨some 31, .mov, [.tmp 7], none, [], none⟩,
  ⟨some 6, .mov, [.tmp 31], none, [], none⟩] false [0, 1, 2, 6, 7, 8, 12, 23])
  (.ret))))
def keep81 : List Nat := [0, 1, 2, 6, 7, 8, 12, 23]
theorem fn81 : compFn Try.prog 81 keep81 = some ⟨32, 3, [(6, none)], body81⟩ := by kernel_rfl

/- chartroom/chartroomlaw14.numbers -/
def body82 : AC :=
  .seq (.reg [
  ⟨some 4, .mov, [.const (.bool false)], none, [], none⟩] false [0, 1, 4, 5, 10, 14, 25])
  (.seq (.seq (.reg [
  ⟨some 6, .mov, [.tmp 0], none, [], none⟩,
  ⟨some 7, .len, [.tmp 6], none, [], none⟩,
  ⟨some 8, .mov, [.tmp 1], none, [], none⟩,
  ⟨some 9, .len, [.tmp 8], none, [], none⟩,
  ⟨some 10, (.bin .neq), [.tmp 7, .tmp 9], none, [], none⟩] false [0, 1, 4, 5, 10, 14, 25])
  (.cond (.tmp 10) (.seq (.reg [
  ⟨some 4, .mov, [.const (.bool false)], none, [], none⟩] false [0, 1, 4, 5, 10, 14, 25])
  (.ret)) (.skip)))
  (.seq (.seq (.reg [
  ⟨some 5, .mov, [.const (.int .i64 0)], none, [], none⟩] false [0, 1, 4, 5, 10, 14, 25])
  (.block 0 (.loop (.seq (.seq (.reg [
   ⟨some 11, .mov, [.tmp 5], none, [], none⟩,
   ⟨some 12, .mov, [.tmp 0], none, [], none⟩,
   ⟨some 13, .len, [.tmp 12], none, [], none⟩,
   ⟨some 14, (.bin .lss), [.tmp 11, .tmp 13], none, [], none⟩] false [0, 1, 4, 5, 10, 14, 25])
   (.cond (.tmp 14) (.skip) (.exit 0)))
   (.seq (.block 1 (.seq (.reg [
   ⟨some 17, .mov, [.tmp 0], none, [], none⟩,
   ⟨some 18, .mov, [.tmp 5], none, [], none⟩,
   ⟨some 19, (.ixa 24 1), [.tmp 17, .tmp 18], none, [], none⟩,
   ⟨some 20, (.load none), [.tmp 19], none, [], none⟩,
   ⟨some 21, .mov, [.tmp 1], none, [], none⟩,
   ⟨some 22, .mov, [.tmp 5], none, [], none⟩,
   ⟨some 23, (.ixa 24 1), [.tmp 21, .tmp 22], none, [], none⟩,
   ⟨some 24, (.load none), [.tmp 23], none, [], none⟩,
   ⟨some 25, (.bin .neq), [.tmp 20, .tmp 24], none, [], none⟩] true [0, 1, 4, 5, 10, 14, 25])
   (.cond (.tmp 25) (.seq (.reg [
   ⟨some 4, .mov, [.const (.bool false)], none, [], none⟩] false [0, 1, 4, 5, 10, 14, 25])
   (.ret)) (.skip))))
   (.reg [
   ⟨some 15, .mov, [.tmp 5], none, [], none⟩,
   ⟨some 16, (.bin .add), [.tmp 15, .const (.int .i64 1)], none, [], none⟩,
   ⟨some 5, .mov, [.tmp 16], none, [], none⟩] false [0, 1, 4, 5, 10, 14, 25]))))))
  (.seq (.reg [
  ⟨some 4, .mov, [.const (.bool true)], none, [], none⟩] false [0, 1, 4, 5, 10, 14, 25])
  (.ret))))
def keep82 : List Nat := [0, 1, 4, 5, 10, 14, 25]
theorem fn82 : compFn Try.prog 82 keep82 = some ⟨26, 2, [(4, none)], body82⟩ := by kernel_rfl

/- chartroom/chartroomref14.Versions -/
def body83 : AC :=
  .seq (.reg [
  ⟨some 2, (.nilS 24), [], none, [], none⟩] false [0, 2, 3, 4, 5, 9, 20, 45])
  (.seq (.reg [
  ⟨some 3, (.nilS 24), [], none, [], none⟩] false [0, 2, 3, 4, 5, 9, 20, 45])
  (.seq (.seq (.reg [
  ⟨some 4, .mov, [.const (.int .i64 0)], none, [], none⟩] false [0, 2, 3, 4, 5, 9, 20, 45])
  (.block 0 (.loop (.seq (.seq (.reg [
   ⟨some 6, .mov, [.tmp 4], none, [], none⟩,
   ⟨some 7, .mov, [.tmp 0], none, [], none⟩,
   ⟨some 8, .len, [.tmp 7], none, [], none⟩,
   ⟨some 9, (.bin .lss), [.tmp 6, .tmp 8], none, [], none⟩] false [0, 2, 3, 4, 5, 9, 20, 45])
   (.cond (.tmp 9) (.skip) (.exit 0)))
   (.seq (.block 1 (.seq (.seq (.reg [
   ⟨some 12, .mov, [.tmp 0], none, [], none⟩,
   ⟨some 13, .mov, [.tmp 4], none, [], none⟩,
   ⟨some 14, (.slc 3 false true), [.tmp 12, .tmp 13], none, [], none⟩,
   ⟨some 15, .mov, [.tmp 0], none, [], none⟩,
   ⟨some 16, .mov, [.tmp 4], none, [], none⟩,
   ⟨some 17, (.ixa 120 3), [.tmp 15, .tmp 16], none, [], none⟩,
   ⟨some 18, (.fad 1), [.tmp 17], none, [], none⟩,
   ⟨some 19, (.load none), [.tmp 18], none, [], none⟩,
   ⟨some 20, (.call 88), [.tmp 14, .tmp 19], none, [], none⟩] true [0, 2, 3, 4, 5, 9, 20, 45])
   (.cond (.tmp 20) (.exit 1) (.skip)))
   (.seq (.reg [
   ⟨some 21, .mov, [.tmp 3], none, [], none⟩,
   ⟨some 22, .mov, [.tmp 0], none, [], none⟩,
   ⟨some 23, .mov, [.tmp 4], none, [], none⟩,
   ⟨some 24, (.ixa 120 3), [.tmp 22, .tmp 23], none, [], none⟩,
   ⟨some 25, (.fad 1), [.tmp 24], none, [], none⟩,
   ⟨some 26, (.load none), [.tmp 25], none, [], none⟩,
   ⟨some 27, (.bsl 24 1), [.tmp 26], none, [], none⟩,
   ⟨some 28, (.app 24 1 8), [.tmp 21, .tmp 27], none, [], none⟩,
   ⟨some 3, .mov, [.tmp 28], none, [], none⟩] false [0, 2, 3, 4, 5, 9, 20, 45])
   (.seq (.reg [
   ⟨some 29, .mov, [.tmp 3], none, [], none⟩,
   ⟨some 30, .len, [.tmp 29], none, [], none⟩,
   ⟨some 31, (.bin .sub), [.tmp 30, .const (.int .i64 1)], none, [], none⟩,
   ⟨some 5, .mov, [.tmp 31], none, [], none⟩] false [0, 2, 3, 4, 5, 9, 20, 45])
   (.block 2 (.loop (.seq (.seq (.reg [
    ⟨some 32, .mov, [.tmp 5], none, [], none⟩,
    ⟨some 33, (.bin .gtr), [.tmp 32, .const (.int .i64 0)], none, [], none⟩,
    ⟨some 34, .mov, [.tmp 33], none, [], none⟩,
    ⟨some 35, .mov, [.tmp 3], some (34, true), [], none⟩,
    ⟨some 36, .mov, [.tmp 5], some (34, true), [], none⟩,
    ⟨some 37, (.bin .sub), [.tmp 36, .const (.int .i64 1)], some (34, true), [], none⟩,
    ⟨some 38, (.ixa 24 1), [.tmp 35, .tmp 37], some (34, true), [], none⟩,
    ⟨some 39, (.load none), [.tmp 38], some (34, true), [], none⟩,
    ⟨some 40, .mov, [.tmp 3], some (34, true), [], none⟩,
    ⟨some 41, .mov, [.tmp 5], some (34, true), [], none⟩,
    ⟨some 42, (.ixa 24 1), [.tmp 40, .tmp 41], some (34, true), [], none⟩,
    ⟨some 43, (.load none), [.tmp 42], some (34, true), [], none⟩,
    ⟨some 44, (.bin .gtr), [.tmp 39, .tmp 43], some (34, true), [], none⟩,
    ⟨some 45, .pick, [.tmp 34, .tmp 44, .const (.bool false)], none, [], none⟩] true [0, 2, 3, 4, 5, 9, 20, 45])
    (.cond (.tmp 45) (.skip) (.exit 2)))
    (.seq (.block 3 (.reg [
    ⟨some 48, .mov, [.tmp 3], none, [], none⟩,
    ⟨some 49, .mov, [.tmp 5], none, [], none⟩,
    ⟨some 50, (.bin .sub), [.tmp 49, .const (.int .i64 1)], none, [], none⟩,
    ⟨some 51, .mov, [.tmp 3], none, [], none⟩,
    ⟨some 52, .mov, [.tmp 5], none, [], none⟩,
    ⟨some 53, .mov, [.tmp 3], none, [], none⟩,
    ⟨some 54, .mov, [.tmp 5], none, [], none⟩,
    ⟨some 55, (.ixa 24 1), [.tmp 53, .tmp 54], none, [], none⟩,
    ⟨some 56, (.load none), [.tmp 55], none, [], none⟩,
    ⟨some 57, .mov, [.tmp 3], none, [], none⟩,
    ⟨some 58, .mov, [.tmp 5], none, [], none⟩,
    ⟨some 59, (.bin .sub), [.tmp 58, .const (.int .i64 1)], none, [], none⟩,
    ⟨some 60, (.ixa 24 1), [.tmp 57, .tmp 59], none, [], none⟩,
    ⟨some 61, (.load none), [.tmp 60], none, [], none⟩,
    ⟨some 62, (.ixa 24 1), [.tmp 48, .tmp 50], none, [], none⟩,
    ⟨none, (.store none), [.tmp 62, .tmp 56], none, [], none⟩,
    ⟨some 63, (.ixa 24 1), [.tmp 51, .tmp 52], none, [], none⟩,
    ⟨none, (.store none), [.tmp 63, .tmp 61], none, [], none⟩] true [0, 2, 3, 4, 5, 9, 20, 45]))
    (.reg [
    ⟨some 46, .mov, [.tmp 5], none, [], none⟩,
    ⟨some 47, (.bin .sub), [.tmp 46, .const (.int .i64 1)], none, [], none⟩,
    ⟨some 5, .mov, [.tmp 47], none, [], none⟩] false [0, 2, 3, 4, 5, 9, 20, 45])))))))))
   (.reg [
   ⟨some 10, .mov, [.tmp 4], none, [], none⟩,
   ⟨some 11, (.bin .add), [.tmp 10, .const (.int .i64 1)], none, [], none⟩,
   ⟨some 4, .mov, [.tmp 11], none, [], none⟩] false [0, 2, 3, 4, 5, 9, 20, 45]))))))
  (.seq (.reg [
  ⟨some 64, .mov, [.tmp 3], none, [], none⟩,
  ⟨some 2, .mov, [.tmp 64], none, [], none⟩] false [0, 2, 3, 4, 5, 9, 20, 45])
  (.ret))))
def keep83 : List Nat := [0, 2, 3, 4, 5, 9, 20, 45]
theorem fn83 : compFn Try.prog 83 keep83 = some ⟨65, 1, [(2, none)], body83⟩ := by kernel_rfl

/- chartroom/chartroomlaw14.spoil -/
def body84 : AC :=
  .seq (.reg [
  ⟨some 1, .box, [.tmp 0], none, [], none⟩] false [0, 1, 2, 7])
  (.seq (.reg [
  ⟨some 2, .mov, [.const (.int .i64 0)], none, [], none⟩] false [0, 1, 2, 7])
  (.block 0 (.loop (.seq (.seq (.reg [
   ⟨some 3, .mov, [.tmp 2], none, [], none⟩,
   ⟨some 4, (.fad 0), [.tmp 1], none, [], none⟩,
   ⟨some 5, (.load none), [.tmp 4], none, [], none⟩,
   ⟨some 6, .len, [.tmp 5], none, [], none⟩,
   ⟨some 7, (.bin .lss), [.tmp 3, .tmp 6], none, [], none⟩] false [0, 1, 2, 7])
   (.cond (.tmp 7) (.skip) (.exit 0)))
   (.seq (.block 1 (.reg [
   ⟨some 10, (.fad 0), [.tmp 1], none, [], none⟩,
   ⟨some 11, (.load none), [.tmp 10], none, [], none⟩,
   ⟨some 12, .mov, [.tmp 2], none, [], none⟩,
   ⟨some 13, (.bld [(.int .u64 0), (.int .u64 0), (.int .u64 0)] [(0, 1), (1, 1)]), [.const (.int .u64 77), .const (.int .u64 77)], none, [], none⟩,
   ⟨some 14, (.ixa 117 3), [.tmp 11, .tmp 12], none, [], none⟩,
   ⟨none, (.store (some 3)), [.tmp 14, .tmp 13], none, [], none⟩] false [0, 1, 2, 7]))
   (.reg [
   ⟨some 8, .mov, [.tmp 2], none, [], none⟩,
   ⟨some 9, (.bin .add), [.tmp 8, .const (.int .i64 1)], none, [], none⟩,
   ⟨some 2, .mov, [.tmp 9], none, [], none⟩] false [0, 1, 2, 7]))))))
def keep84 : List Nat := [0, 1, 2, 7]
theorem fn84 : compFn Try.prog 84 keep84 = some ⟨15, 1, [], body84⟩ := by kernel_rfl

/- (chartroom/pins.Pins).Right -/
def body85 : AC :=
  .seq (.reg [
  ⟨some 1, .box, [.tmp 0], none, [], none⟩,
  ⟨some 2, .mov, [.const (.bool false)], none, [], none⟩] false [0, 1, 2, 3, 6, 7, 8, 27])
  (.seq (.seq (.reg [
  ⟨some 4, (.fad 0), [.tmp 1], none, [], none⟩,
  ⟨some 5, (.load none), [.tmp 4], none, [], none⟩,
  ⟨some 6, .len, [.tmp 5], none, [], none⟩,
  ⟨some 7, .mov, [.const (.int .i64 0)], none, [], none⟩] false [0, 1, 2, 3, 6, 7, 8, 27])
  (.block 0 (.loop (.seq (.reg [
   ⟨some 8, (.bin .lss), [.tmp 7, .tmp 6], none, [], none⟩] false [0, 1, 2, 3, 6, 7, 8, 27])
   (.seq (.cond (.tmp 8) (.skip) (.exit 0))
   (.seq (.block 1 (.seq (.reg [
   ⟨some 9, .mov, [.tmp 7], none, [], none⟩,
   ⟨some 3, .mov, [.tmp 9], none, [], none⟩] false [0, 1, 2, 3, 6, 7, 8, 27])
   (.seq (.reg [
   ⟨some 10, .mov, [.tmp 3], none, [], none⟩,
   ⟨some 11, (.bin .gtr), [.tmp 10, .const (.int .i64 0)], none, [], none⟩,
   ⟨some 12, .mov, [.tmp 11], none, [], none⟩,
   ⟨some 13, (.fad 0), [.tmp 1], some (12, true), [], none⟩,
   ⟨some 14, (.load none), [.tmp 13], some (12, true), [], none⟩,
   ⟨some 15, .mov, [.tmp 3], some (12, true), [], none⟩,
   ⟨some 16, (.bin .sub), [.tmp 15, .const (.int .i64 1)], some (12, true), [], none⟩,
   ⟨some 17, (.ixa 117 3), [.tmp 14, .tmp 16], some (12, true), [], none⟩,
   ⟨some 18, (.fad 0), [.tmp 17], some (12, true), [], none⟩,
   ⟨some 19, (.load none), [.tmp 18], some (12, true), [], none⟩,
   ⟨some 20, (.fad 0), [.tmp 1], some (12, true), [], none⟩,
   ⟨some 21, (.load none), [.tmp 20], some (12, true), [], none⟩,
   ⟨some 22, .mov, [.tmp 3], some (12, true), [], none⟩,
   ⟨some 23, (.ixa 117 3), [.tmp 21, .tmp 22], some (12, true), [], none⟩,
   ⟨some 24, (.fad 0), [.tmp 23], some (12, true), [], none⟩,
   ⟨some 25, (.load none), [.tmp 24], some (12, true), [], none⟩,
   ⟨some 26, (.bin .geq), [.tmp 19, .tmp 25], some (12, true), [], none⟩,
   ⟨some 27, .pick, [.tmp 12, .tmp 26, .const (.bool false)], none, [], none⟩] true [0, 1, 2, 3, 6, 7, 8, 27])
   (.cond (.tmp 27) (.seq (.reg [
   ⟨some 2, .mov, [.const (.bool false)], none, [], none⟩] false [0, 1, 2, 3, 6, 7, 8, 27])
   (.ret)) (.skip)))))
   (.reg [
   ⟨some 28, (.bin .add), [.tmp 7, .const (.int .i64 1)], none, [], none⟩,
   ⟨some 7, .mov, [.tmp 28], none, [], none⟩] false [0, 1, 2, 3, 6, 7, 8, 27])))))))
  (.seq (.reg [
  ⟨some 2, .mov, [.const (.bool true)], none, [], none⟩] false [0, 1, 2, 3, 6, 7, 8, 27])
  (.ret)))
def keep85 : List Nat := [0, 1, 2, 3, 6, 7, 8, 27]
theorem fn85 : compFn Try.prog 85 keep85 = some ⟨29, 1, [(2, none)], body85⟩ := by kernel_rfl

/- chartroom/chartroomref14.Right -/
def body86 : AC :=
  .seq (.reg [
  ⟨some 2, .mov, [.const (.bool false)], none, [], none⟩] false [0, 2, 3, 7, 21])
  (.seq (.seq (.reg [
  ⟨some 3, .mov, [.const (.int .i64 1)], none, [], none⟩] false [0, 2, 3, 7, 21])
  (.block 0 (.loop (.seq (.seq (.reg [
   ⟨some 4, .mov, [.tmp 3], none, [], none⟩,
   ⟨some 5, .mov, [.tmp 0], none, [], none⟩,
   ⟨some 6, .len, [.tmp 5], none, [], none⟩,
   ⟨some 7, (.bin .lss), [.tmp 4, .tmp 6], none, [], none⟩] false [0, 2, 3, 7, 21])
   (.cond (.tmp 7) (.skip) (.exit 0)))
   (.seq (.block 1 (.seq (.reg [
   ⟨some 10, .mov, [.tmp 0], none, [], none⟩,
   ⟨some 11, .mov, [.tmp 3], none, [], none⟩,
   ⟨some 12, (.bin .sub), [.tmp 11, .const (.int .i64 1)], none, [], none⟩,
   ⟨some 13, (.ixa 120 3), [.tmp 10, .tmp 12], none, [], none⟩,
   ⟨some 14, (.fad 0), [.tmp 13], none, [], none⟩,
   ⟨some 15, (.load none), [.tmp 14], none, [], none⟩,
   ⟨some 16, .mov, [.tmp 0], none, [], none⟩,
   ⟨some 17, .mov, [.tmp 3], none, [], none⟩,
   ⟨some 18, (.ixa 120 3), [.tmp 16, .tmp 17], none, [], none⟩,
   ⟨some 19, (.fad 0), [.tmp 18], none, [], none⟩,
   ⟨some 20, (.load none), [.tmp 19], none, [], none⟩,
   ⟨some 21, (.bin .geq), [.tmp 15, .tmp 20], none, [], none⟩] true [0, 2, 3, 7, 21])
   (.cond (.tmp 21) (.seq (.reg [
   ⟨some 2, .mov, [.const (.bool false)], none, [], none⟩] false [0, 2, 3, 7, 21])
   (.ret)) (.skip))))
   (.reg [
   ⟨some 8, .mov, [.tmp 3], none, [], none⟩,
   ⟨some 9, (.bin .add), [.tmp 8, .const (.int .i64 1)], none, [], none⟩,
   ⟨some 3, .mov, [.tmp 9], none, [], none⟩] false [0, 2, 3, 7, 21]))))))
  (.seq (.reg [
  ⟨some 2, .mov, [.const (.bool true)], none, [], none⟩] false [0, 2, 3, 7, 21])
  (.ret)))
def keep86 : List Nat := [0, 2, 3, 7, 21]
theorem fn86 : compFn Try.prog 86 keep86 = some ⟨22, 1, [(2, none)], body86⟩ := by kernel_rfl

/- (chartroom/pins.Pins).Of -/
def body87 : AC :=
  .seq (.reg [
  ⟨some 2, .box, [.tmp 0], none, [], none⟩,
  ⟨some 3, .box, [.tmp 1], none, [], none⟩,
  ⟨some 4, .mov, [.const (.bool false)], none, [], none⟩] false [0, 1, 2, 3, 4])
  (.seq (.reg [
  ⟨some 5, (.fad 0), [.tmp 2], none, [], none⟩,
  ⟨some 6, (.load none), [.tmp 5], none, [], none⟩,
  ⟨some 7, (.mkf 140), [.tmp 3], none, [], none⟩,
  ⟨some 8, (.call 139), [.tmp 6, .tmp 7], none, [], none⟩,
  ⟨some 4, .mov, [.tmp 8], none, [], none⟩] false [0, 1, 2, 3, 4])
  (.ret))
def keep87 : List Nat := [0, 1, 2, 3, 4]
theorem fn87 : compFn Try.prog 87 keep87 = some ⟨9, 2, [(4, none)], body87⟩ := by kernel_rfl

/- chartroom/chartroomref14.Of -/
def body88 : AC :=
  .seq (.reg [
  ⟨some 4, .mov, [.const (.bool false)], none, [], none⟩] false [0, 1, 4, 5, 9, 18])
  (.seq (.seq (.reg [
  ⟨some 5, .mov, [.const (.int .i64 0)], none, [], none⟩] false [0, 1, 4, 5, 9, 18])
  (.block 0 (.loop (.seq (.seq (.reg [
   ⟨some 6, .mov, [.tmp 5], none, [], none⟩,
   ⟨some 7, .mov, [.tmp 0], none, [], none⟩,
   ⟨some 8, .len, [.tmp 7], none, [], none⟩,
   ⟨some 9, (.bin .lss), [.tmp 6, .tmp 8], none, [], none⟩] false [0, 1, 4, 5, 9, 18])
   (.cond (.tmp 9) (.skip) (.exit 0)))
   (.seq (.block 1 (.seq (.reg [
   ⟨some 12, .mov, [.tmp 0], none, [], none⟩,
   ⟨some 13, .mov, [.tmp 5], none, [], none⟩,
   ⟨some 14, (.ixa 120 3), [.tmp 12, .tmp 13], none, [], none⟩,
   ⟨some 15, (.fad 1), [.tmp 14], none, [], none⟩,
   ⟨some 16, (.load none), [.tmp 15], none, [], none⟩,
   ⟨some 17, .mov, [.tmp 1], none, [], none⟩,
   ⟨some 18, (.bin .eql), [.tmp 16, .tmp 17], none, [], none⟩] false [0, 1, 4, 5, 9, 18])
   (.cond (.tmp 18) (.seq (.reg [
   ⟨some 4, .mov, [.const (.bool true)], none, [], none⟩] false [0, 1, 4, 5, 9, 18])
   (.ret)) (.skip))))
   (.reg [
   ⟨some 10, .mov, [.tmp 5], none, [], none⟩,
   ⟨some 11, (.bin .add), [.tmp 10, .const (.int .i64 1)], none, [], none⟩,
   ⟨some 5, .mov, [.tmp 11], none, [], none⟩] false [0, 1, 4, 5, 9, 18]))))))
  (.seq (.reg [
  ⟨some 4, .mov, [.const (.bool false)], none, [], none⟩] false [0, 1, 4, 5, 9, 18])
  (.ret)))
def keep88 : List Nat := [0, 1, 4, 5, 9, 18]
theorem fn88 : compFn Try.prog 88 keep88 = some ⟨19, 2, [(4, none)], body88⟩ := by kernel_rfl

/- chartroom/pins.Same -/
def body89 : AC :=
  .seq (.reg [
  ⟨some 2, .box, [.tmp 0], none, [], none⟩,
  ⟨some 3, .box, [.tmp 1], none, [], none⟩,
  ⟨some 4, .mov, [.const (.bool false)], none, [], none⟩] false [0, 1, 2, 3, 4])
  (.seq (.reg [
  ⟨some 5, (.fad 0), [.tmp 2], none, [], none⟩,
  ⟨some 6, (.load none), [.tmp 5], none, [], none⟩,
  ⟨some 7, (.fad 0), [.tmp 3], none, [], none⟩,
  ⟨some 8, (.load none), [.tmp 7], none, [], none⟩,
  ⟨some 9, (.call 141), [.tmp 6, .tmp 8, .func 142], none, [], none⟩,
  ⟨some 4, .mov, [.tmp 9], none, [], none⟩] false [0, 1, 2, 3, 4])
  (.ret))
def keep89 : List Nat := [0, 1, 2, 3, 4]
theorem fn89 : compFn Try.prog 89 keep89 = some ⟨10, 2, [(4, none)], body89⟩ := by kernel_rfl

/- chartroom/pins.Take -/
def body90 : AC :=
  .seq (.reg [
  ⟨some 4, (.alloc [(.slice none 0 0)]), [], none, [], none⟩,
  ⟨some 5, .mov, [.const (.int .i64 0)], none, [], none⟩,
  ⟨some 6, .mov, [.const (.int .i64 0)], none, [], none⟩] false [0, 1, 4, 5, 6, 7, 8, 21, 30, 48, 54])
  (.seq (.reg [
  ⟨some 10, .mov, [.tmp 0], none, [], none⟩,
  ⟨some 11, .mov, [.tmp 1], none, [], none⟩,
  ⟨some 12, (.call 107), [.tmp 10, .tmp 11], none, [], none⟩,
  ⟨some 9, .mov, [.tmp 12], none, [], none⟩,
  ⟨some 13, (.ext 0), [.tmp 9], none, [], none⟩,
  ⟨some 14, (.ext 1), [.tmp 9], none, [], none⟩,
  ⟨some 15, (.ext 2), [.tmp 9], none, [], none⟩,
  ⟨some 7, .mov, [.tmp 13], none, [], none⟩,
  ⟨some 5, .mov, [.tmp 14], none, [], none⟩,
  ⟨some 6, .mov, [.tmp 15], none, [], none⟩] false [0, 1, 4, 5, 6, 7, 8, 21, 30, 48, 54])
  (.seq (.block 0 (.loop (.seq (.seq (.reg [
   ⟨some 16, .mov, [.tmp 6], none, [], none⟩,
   ⟨some 17, (.bin .eql), [.tmp 16, .const (.int .i64 0)], none, [], none⟩,
   ⟨some 18, .mov, [.tmp 17], none, [], none⟩,
   ⟨some 19, .mov, [.tmp 7], some (18, true), [], none⟩,
   ⟨some 20, (.bin .gtr), [.tmp 19, .const (.int .u64 0)], some (18, true), [], none⟩,
   ⟨some 21, .pick, [.tmp 18, .tmp 20, .const (.bool false)], none, [], none⟩] false [0, 1, 4, 5, 6, 7, 8, 21, 30, 48, 54])
   (.cond (.tmp 21) (.skip) (.exit 0)))
   (.block 1 (.seq (.reg [
   ⟨some 8, (.nilS 24), [], none, [], none⟩] false [0, 1, 4, 5, 6, 7, 8, 21, 30, 48, 54])
   (.seq (.reg [
   ⟨some 23, .mov, [.tmp 0], none, [], none⟩,
   ⟨some 24, .mov, [.tmp 5], none, [], none⟩,
   ⟨some 25, (.call 143), [.tmp 23, .tmp 24, .const (.int .i64 3)], none, [], none⟩,
   ⟨some 22, .mov, [.tmp 25], none, [], none⟩,
   ⟨some 26, (.ext 0), [.tmp 22], none, [], none⟩,
   ⟨some 27, (.ext 1), [.tmp 22], none, [], none⟩,
   ⟨some 28, (.ext 2), [.tmp 22], none, [], none⟩,
   ⟨some 8, .mov, [.tmp 26], none, [], none⟩,
   ⟨some 5, .mov, [.tmp 27], none, [], none⟩,
   ⟨some 6, .mov, [.tmp 28], none, [], none⟩] false [0, 1, 4, 5, 6, 7, 8, 21, 30, 48, 54])
   (.seq (.reg [
   ⟨some 29, .mov, [.tmp 6], none, [], none⟩,
   ⟨some 30, (.bin .eql), [.tmp 29, .const (.int .i64 0)], none, [], none⟩] false [0, 1, 4, 5, 6, 7, 8, 21, 30, 48, 54])
   (.cond (.tmp 30) (.seq (.reg [
   ⟨some 31, (.fad 0), [.tmp 4], none, [43], none⟩,
   ⟨some 32, (.load none), [.tmp 31], none, [43], none⟩,
   ⟨some 33, .mov, [.tmp 8], none, [], none⟩,
   ⟨some 34, (.ixa 24 1), [.tmp 33, .const (.int .i64 0)], none, [], none⟩,
   ⟨some 35, (.load none), [.tmp 34], none, [], none⟩,
   ⟨some 36, .mov, [.tmp 8], none, [], none⟩,
   ⟨some 37, (.ixa 24 1), [.tmp 36, .const (.int .i64 1)], none, [], none⟩,
   ⟨some 38, (.load none), [.tmp 37], none, [], none⟩,
   ⟨some 39, .mov, [.tmp 8], none, [], none⟩,
   ⟨some 40, (.ixa 24 1), [.tmp 39, .const (.int .i64 2)], none, [], none⟩,
   ⟨some 41, (.load none), [.tmp 40], none, [], none⟩,
   ⟨some 42, (.bld [(.int .u64 0), (.int .u64 0), (.int .u64 0)] [(0, 1), (1, 1), (2, 1)]), [.tmp 35, .tmp 38, .tmp 41], none, [], none⟩,
   ⟨some 43, (.bsl 117 3), [.tmp 42], none, [], none⟩,
   ⟨some 44, (.app 117 3 24), [.tmp 32, .tmp 43], none, [], none⟩,
   ⟨some 45, (.fad 0), [.tmp 4], none, [], none⟩,
   ⟨none, (.store none), [.tmp 45, .tmp 44], none, [], none⟩] true [0, 1, 4, 5, 6, 7, 8, 21, 30, 48, 54])
   (.reg [
   ⟨some 46, .mov, [.tmp 7], none, [], none⟩,
   ⟨some 47, (.bin .sub), [.tmp 46, .const (.int .u64 1)], none, [], none⟩,
   ⟨some 7, .mov, [.tmp 47], none, [], none⟩] false [0, 1, 4, 5, 6, 7, 8, 21, 30, 48, 54])) (.skip)))))))))
  (.seq (.block 2 (.seq (.reg [
  ⟨some 49, .mov, [.tmp 6], none, [], none⟩,
  ⟨some 50, (.bin .neq), [.tmp 49, .const (.int .i64 0)], none, [], none⟩,
  ⟨some 48, .mov, [.tmp 50], none, [], none⟩] false [0, 1, 4, 5, 6, 7, 8, 21, 30, 48, 54])
  (.cond (.tmp 48) (.seq (.reg [
  ⟨some 51, (.bld [(.slice none 0 0)] []), [], none, [], none⟩,
  ⟨some 52, .mov, [.tmp 1], none, [], none⟩,
  ⟨some 53, .mov, [.tmp 6], none, [], none⟩,
  ⟨none, (.store (some 1)), [.tmp 4, .tmp 51], none, [], none⟩,
  ⟨some 5, .mov, [.tmp 52], none, [], none⟩,
  ⟨some 6, .mov, [.tmp 53], none, [], none⟩] false [0, 1, 4, 5, 6, 7, 8, 21, 30, 48, 54])
  (.ret)) (.seq (.reg [
  ⟨some 55, (.load (some 1)), [.tmp 4], none, [], none⟩,
  ⟨some 56, (.call 85), [.tmp 55], none, [], none⟩,
  ⟨some 57, .not, [.tmp 56], none, [], none⟩,
  ⟨some 54, .mov, [.tmp 57], none, [], none⟩] false [0, 1, 4, 5, 6, 7, 8, 21, 30, 48, 54])
  (.cond (.tmp 54) (.seq (.reg [
  ⟨some 58, (.bld [(.slice none 0 0)] []), [], none, [], none⟩,
  ⟨some 59, .mov, [.tmp 1], none, [], none⟩,
  ⟨none, (.store (some 1)), [.tmp 4, .tmp 58], none, [], none⟩,
  ⟨some 5, .mov, [.tmp 59], none, [], none⟩,
  ⟨some 6, .mov, [.const (.int .i64 2)], none, [], none⟩] false [0, 1, 4, 5, 6, 7, 8, 21, 30, 48, 54])
  (.ret)) (.skip))))))
  (.seq (.reg [
  ⟨some 60, (.load (some 1)), [.tmp 4], none, [], none⟩,
  ⟨some 61, .mov, [.tmp 5], none, [], none⟩,
  ⟨none, (.store (some 1)), [.tmp 4, .tmp 60], none, [], none⟩,
  ⟨some 5, .mov, [.tmp 61], none, [], none⟩,
  ⟨some 6, .mov, [.const (.int .i64 0)], none, [], none⟩] false [0, 1, 4, 5, 6, 7, 8, 21, 30, 48, 54])
  (.ret)))))
def keep90 : List Nat := [0, 1, 4, 5, 6, 7, 8, 21, 30, 48, 54]
theorem fn90 : compFn Try.prog 90 keep90 = some ⟨62, 2, [(4, some (some 1)), (5, none), (6, none)], body90⟩ := by kernel_rfl

/- chartroom/chartroomref14.Take -/
def body91 : AC :=
  .seq (.reg [
  ⟨some 4, (.nilS 120), [], none, [], none⟩,
  ⟨some 5, .mov, [.const (.int .i64 0)], none, [], none⟩,
  ⟨some 6, .mov, [.const (.int .i64 0)], none, [], none⟩] false [0, 1, 4, 5, 6, 7, 8, 9, 10, 11, 12, 13, 22, 29, 38, 57])
  (.seq (.reg [
  ⟨some 15, .mov, [.tmp 0], none, [], none⟩,
  ⟨some 16, .mov, [.tmp 1], none, [], none⟩,
  ⟨some 17, (.call 109), [.tmp 15, .tmp 16], none, [], none⟩,
  ⟨some 14, .mov, [.tmp 17], none, [], none⟩,
  ⟨some 18, (.ext 0), [.tmp 14], none, [], none⟩,
  ⟨some 19, (.ext 1), [.tmp 14], none, [], none⟩,
  ⟨some 20, (.ext 2), [.tmp 14], none, [], none⟩,
  ⟨some 7, .mov, [.tmp 18], none, [], none⟩,
  ⟨some 8, .mov, [.tmp 19], none, [], none⟩,
  ⟨some 9, .mov, [.tmp 20], none, [], none⟩] false [0, 1, 4, 5, 6, 7, 8, 9, 10, 11, 12, 13, 22, 29, 38, 57])
  (.seq (.seq (.reg [
  ⟨some 21, .mov, [.tmp 9], none, [], none⟩,
  ⟨some 22, (.bin .neq), [.tmp 21, .const (.int .i64 0)], none, [], none⟩] false [0, 1, 4, 5, 6, 7, 8, 9, 10, 11, 12, 13, 22, 29, 38, 57])
  (.cond (.tmp 22) (.seq (.reg [
  ⟨some 23, .mov, [.tmp 1], none, [], none⟩,
  ⟨some 24, .mov, [.tmp 9], none, [], none⟩,
  ⟨some 4, (.nilS 120), [], none, [], none⟩,
  ⟨some 5, .mov, [.tmp 23], none, [], none⟩,
  ⟨some 6, .mov, [.tmp 24], none, [], none⟩] false [0, 1, 4, 5, 6, 7, 8, 9, 10, 11, 12, 13, 22, 29, 38, 57])
  (.ret)) (.skip)))
  (.seq (.reg [
  ⟨some 10, (.nilS 120), [], none, [], none⟩] false [0, 1, 4, 5, 6, 7, 8, 9, 10, 11, 12, 13, 22, 29, 38, 57])
  (.seq (.block 0 (.loop (.seq (.seq (.reg [
   ⟨some 25, .mov, [.tmp 10], none, [], none⟩,
   ⟨some 26, .len, [.tmp 25], none, [], none⟩,
   ⟨some 27, (.cvi .u64), [.tmp 26], none, [], none⟩,
   ⟨some 28, .mov, [.tmp 7], none, [], none⟩,
   ⟨some 29, (.bin .lss), [.tmp 27, .tmp 28], none, [], none⟩] false [0, 1, 4, 5, 6, 7, 8, 9, 10, 11, 12, 13, 22, 29, 38, 57])
   (.cond (.tmp 29) (.skip) (.exit 0)))
   (.block 1 (.seq (.reg [
   ⟨some 31, .mov, [.tmp 0], none, [], none⟩,
   ⟨some 32, .mov, [.tmp 8], none, [], none⟩,
   ⟨some 33, (.call 144), [.tmp 31, .tmp 32, .const (.int .i64 3)], none, [], none⟩,
   ⟨some 30, .mov, [.tmp 33], none, [], none⟩,
   ⟨some 34, (.ext 0), [.tmp 30], none, [], none⟩,
   ⟨some 35, (.ext 1), [.tmp 30], none, [], none⟩,
   ⟨some 36, (.ext 2), [.tmp 30], none, [], none⟩,
   ⟨some 11, .mov, [.tmp 34], none, [], none⟩,
   ⟨some 12, .mov, [.tmp 35], none, [], none⟩,
   ⟨some 13, .mov, [.tmp 36], none, [], none⟩] false [0, 1, 4, 5, 6, 7, 8, 9, 10, 11, 12, 13, 22, 29, 38, 57])
   (.seq (.seq (.reg [
   ⟨some 37, .mov, [.tmp 13], none, [], none⟩,
   ⟨some 38, (.bin .neq), [.tmp 37, .const (.int .i64 0)], none, [], none⟩] false [0, 1, 4, 5, 6, 7, 8, 9, 10, 11, 12, 13, 22, 29, 38, 57])
   (.cond (.tmp 38) (.seq (.reg [
   ⟨some 39, .mov, [.tmp 1], none, [], none⟩,
   ⟨some 40, .mov, [.tmp 13], none, [], none⟩,
   ⟨some 4, (.nilS 120), [], none, [], none⟩,
   ⟨some 5, .mov, [.tmp 39], none, [], none⟩,
   ⟨some 6, .mov, [.tmp 40], none, [], none⟩] false [0, 1, 4, 5, 6, 7, 8, 9, 10, 11, 12, 13, 22, 29, 38, 57])
   (.ret)) (.skip)))
   (.seq (.reg [
   ⟨some 41, .mov, [.tmp 10], none, [], none⟩,
   ⟨some 42, .mov, [.tmp 11], none, [], none⟩,
   ⟨some 43, (.ixa 24 1), [.tmp 42, .const (.int .i64 0)], none, [], none⟩,
   ⟨some 44, (.load none), [.tmp 43], none, [], none⟩,
   ⟨some 45, .mov, [.tmp 11], none, [], none⟩,
   ⟨some 46, (.ixa 24 1), [.tmp 45, .const (.int .i64 1)], none, [], none⟩,
   ⟨some 47, (.load none), [.tmp 46], none, [], none⟩,
   ⟨some 48, .mov, [.tmp 11], none, [], none⟩,
   ⟨some 49, (.ixa 24 1), [.tmp 48, .const (.int .i64 2)], none, [], none⟩,
   ⟨some 50, (.load none), [.tmp 49], none, [], none⟩,
   ⟨some 51, (.bld [(.int .u64 0), (.int .u64 0), (.int .u64 0)] [(0, 1), (1, 1), (2, 1)]), [.tmp 44, .tmp 47, .tmp 50], none, [], none⟩,
   ⟨some 52, (.bsl 120 3), [.tmp 51], none, [], none⟩,
   ⟨some 53, (.app 120 3 24), [.tmp 41, .tmp 52], none, [], none⟩,
   ⟨some 10, .mov, [.tmp 53], none, [], none⟩] true [0, 1, 4, 5, 6, 7, 8, 9, 10, 11, 12, 13, 22, 29, 38, 57])
   (.reg [
   ⟨some 54, .mov, [.tmp 12], none, [], none⟩,
   ⟨some 8, .mov, [.tmp 54], none, [], none⟩] false [0, 1, 4, 5, 6, 7, 8, 9, 10, 11, 12, 13, 22, 29, 38, 57]))))))))
  (.seq (.seq (.reg [
  ⟨some 55, .mov, [.tmp 10], none, [], none⟩,
  ⟨some 56, (.call 86), [.tmp 55], none, [], none⟩,
  ⟨some 57, .not, [.tmp 56], none, [], none⟩] false [0, 1, 4, 5, 6, 7, 8, 9, 10, 11, 12, 13, 22, 29, 38, 57])
  (.cond (.tmp 57) (.seq (.reg [
  ⟨some 58, .mov, [.tmp 1], none, [], none⟩,
  ⟨some 4, (.nilS 120), [], none, [], none⟩,
  ⟨some 5, .mov, [.tmp 58], none, [], none⟩,
  ⟨some 6, .mov, [.const (.int .i64 2)], none, [], none⟩] false [0, 1, 4, 5, 6, 7, 8, 9, 10, 11, 12, 13, 22, 29, 38, 57])
  (.ret)) (.skip)))
  (.seq (.reg [
  ⟨some 59, .mov, [.tmp 10], none, [], none⟩,
  ⟨some 60, .mov, [.tmp 8], none, [], none⟩,
  ⟨some 4, .mov, [.tmp 59], none, [], none⟩,
  ⟨some 5, .mov, [.tmp 60], none, [], none⟩,
  ⟨some 6, .mov, [.const (.int .i64 0)], none, [], none⟩] false [0, 1, 4, 5, 6, 7, 8, 9, 10, 11, 12, 13, 22, 29, 38, 57])
  (.ret)))))))
def keep91 : List Nat := [0, 1, 4, 5, 6, 7, 8, 9, 10, 11, 12, 13, 22, 29, 38, 57]
theorem fn91 : compFn Try.prog 91 keep91 = some ⟨61, 2, [(4, none), (5, none), (6, none)], body91⟩ := by kernel_rfl

/- (chartroom/pins.Pins).Put -/
def body92 : AC :=
  .seq (.reg [
  ⟨some 1, .box, [.tmp 0], none, [], none⟩,
  ⟨some 2, (.nilS 5), [], none, [], none⟩] false [0, 1, 2, 3, 5, 12, 13, 14, 15])
  (.seq (.reg [
  ⟨some 6, (.fad 0), [.tmp 1], none, [], none⟩,
  ⟨some 7, (.load none), [.tmp 6], none, [], none⟩,
  ⟨some 8, .len, [.tmp 7], none, [], none⟩,
  ⟨some 9, (.cvi .u64), [.tmp 8], none, [], none⟩,
  ⟨some 10, (.call 103), [.tmp 9], none, [], none⟩,
  ⟨some 3, .mov, [.tmp 10], none, [], none⟩] false [0, 1, 2, 3, 5, 12, 13, 14, 15])
  (.seq (.seq (.reg [
  ⟨some 11, (.fad 0), [.tmp 1], none, [], none⟩,
  ⟨some 12, (.load none), [.tmp 11], none, [], none⟩,
  ⟨some 13, .len, [.tmp 12], none, [], none⟩,
  ⟨some 14, .mov, [.const (.int .i64 0)], none, [], none⟩] false [0, 1, 2, 3, 5, 12, 13, 14, 15])
  (.block 0 (.loop (.seq (.reg [
   ⟨some 15, (.bin .lss), [.tmp 14, .tmp 13], none, [], none⟩] false [0, 1, 2, 3, 5, 12, 13, 14, 15])
   (.seq (.cond (.tmp 15) (.skip) (.exit 0))
   (.seq (.block 1 (.seq (.reg [
   ⟨some 16, (.ixa 117 3), [.tmp 12, .tmp 14], none, [], none⟩,
   ⟨some 17, (.load (some 3)), [.tmp 16], none, [], none⟩,
   ⟨some 5, (.alloc [(.int .u64 0), (.int .u64 0), (.int .u64 0)]), [], none, [], none⟩,
   ⟨none, (.store (some 3)), [.tmp 5, .tmp 17], none, [], none⟩] false [0, 1, 2, 3, 5, 12, 13, 14, 15])
   (.reg [
   ⟨some 18, .mov, [.tmp 3], none, [], none⟩,
   ⟨some 19, (.fad 0), [.tmp 5], none, [], none⟩,
   ⟨some 20, (.load none), [.tmp 19], none, [], none⟩,
   ⟨some 21, (.fad 1), [.tmp 5], none, [], none⟩,
   ⟨some 22, (.load none), [.tmp 21], none, [], none⟩,
   ⟨some 23, (.fad 2), [.tmp 5], none, [], none⟩,
   ⟨some 24, (.load none), [.tmp 23], none, [], none⟩,
   ⟨some 25, (.bsl 24 1), [.tmp 20, .tmp 22, .tmp 24], none, [], none⟩,
   ⟨some 26, (.call 145), [.tmp 25], none, [], none⟩,
   ⟨some 27, (.app 5 1 1), [.tmp 18, .tmp 26], none, [], none⟩,
   ⟨some 3, .mov, [.tmp 27], none, [], none⟩] false [0, 1, 2, 3, 5, 12, 13, 14, 15])))
   (.reg [
   ⟨some 28, (.bin .add), [.tmp 14, .const (.int .i64 1)], none, [], none⟩,
   ⟨some 14, .mov, [.tmp 28], none, [], none⟩] false [0, 1, 2, 3, 5, 12, 13, 14, 15])))))))
  (.seq (.reg [
  ⟨some 29, .mov, [.tmp 3], none, [], none⟩,
  ⟨some 2, .mov, [.tmp 29], none, [], none⟩] false [0, 1, 2, 3, 5, 12, 13, 14, 15])
  (.ret))))
def keep92 : List Nat := [0, 1, 2, 3, 5, 12, 13, 14, 15]
theorem fn92 : compFn Try.prog 92 keep92 = some ⟨30, 1, [(2, none)], body92⟩ := by kernel_rfl

/- chartroom/chartroomref14.Put -/
def body93 : AC :=
  .seq (.reg [
  ⟨some 2, (.nilS 5), [], none, [], none⟩] false [0, 2, 3, 4, 12])
  (.seq (.reg [
  ⟨some 5, .mov, [.tmp 0], none, [], none⟩,
  ⟨some 6, .len, [.tmp 5], none, [], none⟩,
  ⟨some 7, (.cvi .u64), [.tmp 6], none, [], none⟩,
  ⟨some 8, (.call 105), [.tmp 7], none, [], none⟩,
  ⟨some 3, .mov, [.tmp 8], none, [], none⟩] false [0, 2, 3, 4, 12])
  (.seq (.seq (.reg [
  ⟨some 4, .mov, [.const (.int .i64 0)], none, [], none⟩] false [0, 2, 3, 4, 12])
  (.block 0 (.loop (.seq (.seq (.reg [
   ⟨some 9, .mov, [.tmp 4], none, [], none⟩,
   ⟨some 10, .mov, [.tmp 0], none, [], none⟩,
   ⟨some 11, .len, [.tmp 10], none, [], none⟩,
   ⟨some 12, (.bin .lss), [.tmp 9, .tmp 11], none, [], none⟩] false [0, 2, 3, 4, 12])
   (.cond (.tmp 12) (.skip) (.exit 0)))
   (.seq (.block 1 (.reg [
   ⟨some 15, .mov, [.tmp 3], none, [], none⟩,
   ⟨some 16, .mov, [.tmp 0], none, [], none⟩,
   ⟨some 17, .mov, [.tmp 4], none, [], none⟩,
   ⟨some 18, (.ixa 120 3), [.tmp 16, .tmp 17], none, [], none⟩,
   ⟨some 19, (.fad 0), [.tmp 18], none, [], none⟩,
   ⟨some 20, (.load none), [.tmp 19], none, [], none⟩,
   ⟨some 21, .mov, [.tmp 0], none, [], none⟩,
   ⟨some 22, .mov, [.tmp 4], none, [], none⟩,
   ⟨some 23, (.ixa 120 3), [.tmp 21, .tmp 22], none, [], none⟩,
   ⟨some 24, (.fad 1), [.tmp 23], none, [], none⟩,
   ⟨some 25, (.load none), [.tmp 24], none, [], none⟩,
   ⟨some 26, .mov, [.tmp 0], none, [], none⟩,
   ⟨some 27, .mov, [.tmp 4], none, [], none⟩,
   ⟨some 28, (.ixa 120 3), [.tmp 26, .tmp 27], none, [], none⟩,
   ⟨some 29, (.fad 2), [.tmp 28], none, [], none⟩,
   ⟨some 30, (.load none), [.tmp 29], none, [], none⟩,
   ⟨some 31, (.bsl 24 1), [.tmp 20, .tmp 25, .tmp 30], none, [], none⟩,
   ⟨some 32, (.call 146), [.tmp 31], none, [], none⟩,
   ⟨some 33, (.app 5 1 1), [.tmp 15, .tmp 32], none, [], none⟩,
   ⟨some 3, .mov, [.tmp 33], none, [], none⟩] true [0, 2, 3, 4, 12]))
   (.reg [
   ⟨some 13, .mov, [.tmp 4], none, [], none⟩,
   ⟨some 14, (.bin .add), [.tmp 13, .const (.int .i64 1)], none, [], none⟩,
   ⟨some 4, .mov, [.tmp 14], none, [], none⟩] false [0, 2, 3, 4, 12]))))))
  (.seq (.reg [
  ⟨some 34, .mov, [.tmp 3], none, [], none⟩,
  ⟨some 2, .mov, [.tmp 34], none, [], none⟩] false [0, 2, 3, 4, 12])
  (.ret))))
def keep93 : List Nat := [0, 2, 3, 4, 12]
theorem fn93 : compFn Try.prog 93 keep93 = some ⟨35, 1, [(2, none)], body93⟩ := by kernel_rfl

/- slices.Clone[[]chartroom/pins.Pin,chartroom/pins.Pin] -/
def body129 : AC :=
  .seq (.reg [
  ⟨some 2, (.nilS 117), [], none, [], none⟩] false [0, 2, 4])
  (.seq (.seq (.reg [
  ⟨some 3, .mov, [.tmp 0], none, [], none⟩,
  ⟨some 4, (.ex (.isnil false)), [.tmp 3], none, [], none⟩] false [0, 2, 4])
  (.cond (.tmp 4) (.seq (.reg [
  ⟨some 2, (.nilS 117), [], none, [], none⟩] false [0, 2, 4])
  (.ret)) (.skip)))
  (.seq (.reg [
  ⟨some 5, (.bsl 117 3), [], none, [], none⟩,
  ⟨some 6, .mov, [.tmp 0], none, [], none⟩,
  ⟨some 7, (.app 117 3 24), [.tmp 5, .tmp 6], none, [], none⟩,
  ⟨some 2, .mov, [.tmp 7], none, [], none⟩] false [0, 2, 4])
  (.ret)))
def keep129 : List Nat := [0, 2, 4]
theorem fn129 : compFn Try.prog 129 keep129 = some ⟨8, 1, [(2, none)], body129⟩ := by kernel_rfl

/- slices.IndexFunc[[]chartroom/pins.Pin,chartroom/pins.Pin] -/
def body130 : AC :=
  .seq (.reg [
  ⟨some 4, .mov, [.const (.int .i64 0)], none, [], none⟩] false [0, 1, 4, 5, 7, 8, 9, 16])
  (.seq (.seq (.reg [
  ⟨some 6, .mov, [.tmp 0], none, [], none⟩,
  ⟨some 7, .len, [.tmp 6], none, [], none⟩,
  ⟨some 8, .mov, [.const (.int .i64 0)], none, [], none⟩] false [0, 1, 4, 5, 7, 8, 9, 16])
  (.block 0 (.loop (.seq (.reg [
   ⟨some 9, (.bin .lss), [.tmp 8, .tmp 7], none, [], none⟩] false [0, 1, 4, 5, 7, 8, 9, 16])
   (.seq (.cond (.tmp 9) (.skip) (.exit 0))
   (.seq (.block 1 (.seq (.reg [
   ⟨some 10, .mov, [.tmp 8], none, [], none⟩,
   ⟨some 5, .mov, [.tmp 10], none, [], none⟩] false [0, 1, 4, 5, 7, 8, 9, 16])
   (.seq (.reg [
   ⟨some 11, .mov, [.tmp 1], none, [], none⟩,
   ⟨some 12, .mov, [.tmp 0], none, [], none⟩,
   ⟨some 13, .mov, [.tmp 5], none, [], none⟩,
   ⟨some 14, (.ixa 117 3), [.tmp 12, .tmp 13], none, [], none⟩,
   ⟨some 15, (.load (some 3)), [.tmp 14], none, [], none⟩,
   ⟨some 16, .calv, [.tmp 11, .tmp 15], none, [], none⟩] false [0, 1, 4, 5, 7, 8, 9, 16])
   (.cond (.tmp 16) (.seq (.reg [
   ⟨some 17, .mov, [.tmp 5], none, [], none⟩,
   ⟨some 4, .mov, [.tmp 17], none, [], none⟩] false [0, 1, 4, 5, 7, 8, 9, 16])
   (.ret)) (.skip)))))
   (.reg [
   ⟨some 18, (.bin .add), [.tmp 8, .const (.int .i64 1)], none, [], none⟩,
   ⟨some 8, .mov, [.tmp 18], none, [], none⟩] false [0, 1, 4, 5, 7, 8, 9, 16])))))))
  (.seq (.reg [
  ⟨some 4, .mov, [.const (.int .i64 (-1))], none, [], none⟩] false [0, 1, 4, 5, 7, 8, 9, 16])
  (.ret)))
def keep130 : List Nat := [0, 1, 4, 5, 7, 8, 9, 16]
theorem fn130 : compFn Try.prog 130 keep130 = some ⟨19, 2, [(4, none)], body130⟩ := by kernel_rfl

/- (chartroom/pins.Pins).Remove$1 -/
def body131 : AC :=
  .seq (.reg [
  ⟨some 2, .box, [.tmp 0], none, [], none⟩,
  ⟨some 3, .mov, [.const (.bool false)], none, [], none⟩] false [0, 1, 2, 3])
  (.seq (.reg [
  ⟨some 4, (.fad 0), [.tmp 2], none, [], none⟩,
  ⟨some 5, (.load none), [.tmp 4], none, [], none⟩,
  ⟨some 6, (.load none), [.tmp 1], none, [], none⟩,
  ⟨some 7, (.bin .eql), [.tmp 5, .tmp 6], none, [], none⟩,
  ⟨some 3, .mov, [.tmp 7], none, [], none⟩] false [0, 1, 2, 3])
  (.ret))
def keep131 : List Nat := [0, 1, 2, 3]
theorem fn131 : compFn Try.prog 131 keep131 = some ⟨8, 2, [(3, none)], body131⟩ := by kernel_rfl

/- slices.Concat[[]chartroom/pins.Pin,chartroom/pins.Pin] -/
def body132 : AC :=
  .seq (.reg [
  ⟨some 2, (.nilS 117), [], none, [], none⟩] false [0, 2, 3, 5, 6, 8, 9, 10, 11, 12, 20, 25, 26, 27, 28])
  (.seq (.reg [
  ⟨some 3, .mov, [.const (.int .i64 0)], none, [], none⟩] false [0, 2, 3, 5, 6, 8, 9, 10, 11, 12, 20, 25, 26, 27, 28])
  (.seq (.seq (.reg [
  ⟨some 9, .mov, [.tmp 0], none, [], none⟩,
  ⟨some 10, .len, [.tmp 9], none, [], none⟩,
  ⟨some 11, .mov, [.const (.int .i64 0)], none, [], none⟩] false [0, 2, 3, 5, 6, 8, 9, 10, 11, 12, 20, 25, 26, 27, 28])
  (.block 0 (.loop (.seq (.reg [
   ⟨some 12, (.bin .lss), [.tmp 11, .tmp 10], none, [], none⟩] false [0, 2, 3, 5, 6, 8, 9, 10, 11, 12, 20, 25, 26, 27, 28])
   (.seq (.cond (.tmp 12) (.skip) (.exit 0))
   (.seq (.block 1 (.seq (.reg [
   ⟨some 13, (.ixa 113 1), [.tmp 9, .tmp 11], none, [], none⟩,
   ⟨some 14, (.load none), [.tmp 13], none, [], none⟩,
   ⟨some 5, .mov, [.tmp 14], none, [], none⟩] false [0, 2, 3, 5, 6, 8, 9, 10, 11, 12, 20, 25, 26, 27, 28])
   (.seq (.reg [
   ⟨some 15, .mov, [.tmp 3], none, [], none⟩,
   ⟨some 16, .mov, [.tmp 5], none, [], none⟩,
   ⟨some 17, .len, [.tmp 16], none, [], none⟩,
   ⟨some 18, (.bin .add), [.tmp 15, .tmp 17], none, [], none⟩,
   ⟨some 3, .mov, [.tmp 18], none, [], none⟩] false [0, 2, 3, 5, 6, 8, 9, 10, 11, 12, 20, 25, 26, 27, 28])
   (.seq (.reg [
   ⟨some 19, .mov, [.tmp 3], none, [], none⟩,
   ⟨some 20, (.bin .lss), [.tmp 19, .const (.int .i64 0)], none, [], none⟩] false [0, 2, 3, 5, 6, 8, 9, 10, 11, 12, 20, 25, 26, 27, 28])
   (.cond (.tmp 20) (.reg [
   ⟨some 21, (.ex .dead), [], none, [], none⟩,
   ⟨none, (.ex .dead), [], none, [], none⟩] false [0, 2, 3, 5, 6, 8, 9, 10, 11, 12, 20, 25, 26, 27, 28]) (.skip))))))
   (.reg [
   ⟨some 22, (.bin .add), [.tmp 11, .const (.int .i64 1)], none, [], none⟩,
   ⟨some 11, .mov, [.tmp 22], none, [], none⟩] false [0, 2, 3, 5, 6, 8, 9, 10, 11, 12, 20, 25, 26, 27, 28])))))))
  (.seq (.reg [
  ⟨some 23, .mov, [.tmp 3], none, [], none⟩,
  ⟨some 24, (.call 166), [.const (.slice none 0 0), .tmp 23], none, [], none⟩,
  ⟨some 6, .mov, [.tmp 24], none, [], none⟩] false [0, 2, 3, 5, 6, 8, 9, 10, 11, 12, 20, 25, 26, 27, 28])
  (.seq (.seq (.reg [
  ⟨some 25, .mov, [.tmp 0], none, [], none⟩,
  ⟨some 26, .len, [.tmp 25], none, [], none⟩,
  ⟨some 27, .mov, [.const (.int .i64 0)], none, [], none⟩] false [0, 2, 3, 5, 6, 8, 9, 10, 11, 12, 20, 25, 26, 27, 28])
  (.block 2 (.loop (.seq (.reg [
   ⟨some 28, (.bin .lss), [.tmp 27, .tmp 26], none, [], none⟩] false [0, 2, 3, 5, 6, 8, 9, 10, 11, 12, 20, 25, 26, 27, 28])
   (.seq (.cond (.tmp 28) (.skip) (.exit 2))
   (.seq (.block 3 (.seq (.reg [
   ⟨some 29, (.ixa 113 1), [.tmp 25, .tmp 27], none, [], none⟩,
   ⟨some 30, (.load none), [.tmp 29], none, [], none⟩,
   ⟨some 8, .mov, [.tmp 30], none, [], none⟩] false [0, 2, 3, 5, 6, 8, 9, 10, 11, 12, 20, 25, 26, 27, 28])
   (.reg [
   ⟨some 31, .mov, [.tmp 6], none, [], none⟩,
   ⟨some 32, .mov, [.tmp 8], none, [], none⟩,
   ⟨some 33, (.app 117 3 24), [.tmp 31, .tmp 32], none, [], none⟩,
   ⟨some 6, .mov, [.tmp 33], none, [], none⟩] false [0, 2, 3, 5, 6, 8, 9, 10, 11, 12, 20, 25, 26, 27, 28])))
   (.reg [
   ⟨some 34, (.bin .add), [.tmp 27, .const (.int .i64 1)], none, [], none⟩,
   ⟨some 27, .mov, [.tmp 34], none, [], none⟩] false [0, 2, 3, 5, 6, 8, 9, 10, 11, 12, 20, 25, 26, 27, 28])))))))
  (.seq (.reg [
  ⟨some 35, .mov, [.tmp 6], none, [], none⟩,
  ⟨some 2, .mov, [.tmp 35], none, [], none⟩] false [0, 2, 3, 5, 6, 8, 9, 10, 11, 12, 20, 25, 26, 27, 28])
  (.ret))))))
def keep132 : List Nat := [0, 2, 3, 5, 6, 8, 9, 10, 11, 12, 20, 25, 26, 27, 28]
theorem fn132 : compFn Try.prog 132 keep132 = some ⟨36, 1, [(2, none)], body132⟩ := by kernel_rfl

/- (chartroom/pins.Pins).Live$1 -/
def body133 : AC :=
  .seq (.reg [
  ⟨some 3, .box, [.tmp 0], none, [], none⟩,
  ⟨some 4, .mov, [.const (.bool false)], none, [], none⟩] false [0, 1, 2, 3, 4])
  (.seq (.reg [
  ⟨some 5, (.load none), [.tmp 1], none, [], none⟩,
  ⟨some 6, (.fad 2), [.tmp 3], none, [], none⟩,
  ⟨some 7, (.load none), [.tmp 6], none, [], none⟩,
  ⟨some 8, (.load none), [.tmp 2], none, [], none⟩,
  ⟨some 9, (.call 134), [.tmp 5, .tmp 7, .tmp 8], none, [], none⟩,
  ⟨some 4, .mov, [.tmp 9], none, [], none⟩] false [0, 1, 2, 3, 4])
  (.ret))
def keep133 : List Nat := [0, 1, 2, 3, 4]
theorem fn133 : compFn Try.prog 133 keep133 = some ⟨10, 3, [(4, none)], body133⟩ := by kernel_rfl

/- chartroom/clock.Past -/
def body134 : AC :=
  .seq (.reg [
  ⟨some 6, .mov, [.const (.bool false)], none, [], none⟩] false [0, 1, 2, 6, 7, 8])
  (.seq (.reg [
  ⟨some 10, .mov, [.tmp 1], none, [], none⟩,
  ⟨some 11, .mov, [.tmp 2], none, [], none⟩,
  ⟨some 12, (.ex .add64), [.tmp 10, .tmp 11, .const (.int .u64 0)], none, [], none⟩,
  ⟨some 9, .mov, [.tmp 12], none, [], none⟩,
  ⟨some 13, (.ext 0), [.tmp 9], none, [], none⟩,
  ⟨some 14, (.ext 1), [.tmp 9], none, [], none⟩,
  ⟨some 7, .mov, [.tmp 13], none, [], none⟩,
  ⟨some 8, .mov, [.tmp 14], none, [], none⟩] false [0, 1, 2, 6, 7, 8])
  (.seq (.reg [
  ⟨some 15, .mov, [.tmp 8], none, [], none⟩,
  ⟨some 16, (.bin .eql), [.tmp 15, .const (.int .u64 0)], none, [], none⟩,
  ⟨some 17, .mov, [.tmp 16], none, [], none⟩,
  ⟨some 18, .mov, [.tmp 0], some (17, true), [], none⟩,
  ⟨some 19, .mov, [.tmp 7], some (17, true), [], none⟩,
  ⟨some 20, (.bin .gtr), [.tmp 18, .tmp 19], some (17, true), [], none⟩,
  ⟨some 21, .pick, [.tmp 17, .tmp 20, .const (.bool false)], none, [], none⟩,
  ⟨some 6, .mov, [.tmp 21], none, [], none⟩] false [0, 1, 2, 6, 7, 8])
  (.ret)))
def keep134 : List Nat := [0, 1, 2, 6, 7, 8]
theorem fn134 : compFn Try.prog 134 keep134 = some ⟨22, 3, [(6, none)], body134⟩ := by kernel_rfl

/- slices.DeleteFunc[[]chartroom/pins.Pin,chartroom/pins.Pin] -/
def body135 : AC :=
  .seq (.reg [
  ⟨some 4, (.nilS 117), [], none, [], none⟩] false [0, 1, 4, 5, 6, 7, 12, 19, 29])
  (.seq (.reg [
  ⟨some 8, .mov, [.tmp 0], none, [], none⟩,
  ⟨some 9, .mov, [.tmp 1], none, [], none⟩,
  ⟨some 10, (.call 130), [.tmp 8, .tmp 9], none, [], none⟩,
  ⟨some 5, .mov, [.tmp 10], none, [], none⟩] false [0, 1, 4, 5, 6, 7, 12, 19, 29])
  (.seq (.seq (.reg [
  ⟨some 11, .mov, [.tmp 5], none, [], none⟩,
  ⟨some 12, (.bin .eql), [.tmp 11, .const (.int .i64 (-1))], none, [], none⟩] false [0, 1, 4, 5, 6, 7, 12, 19, 29])
  (.cond (.tmp 12) (.seq (.reg [
  ⟨some 13, .mov, [.tmp 0], none, [], none⟩,
  ⟨some 4, .mov, [.tmp 13], none, [], none⟩] false [0, 1, 4, 5, 6, 7, 12, 19, 29])
  (.ret)) (.skip)))
  (.seq (.seq (.reg [
  ⟨some 14, .mov, [.tmp 5], none, [], none⟩,
  ⟨some 15, (.bin .add), [.tmp 14, .const (.int .i64 1)], none, [], none⟩,
  ⟨some 6, .mov, [.tmp 15], none, [], none⟩] false [0, 1, 4, 5, 6, 7, 12, 19, 29])
  (.block 0 (.loop (.seq (.seq (.reg [
   ⟨some 16, .mov, [.tmp 6], none, [], none⟩,
   ⟨some 17, .mov, [.tmp 0], none, [], none⟩,
   ⟨some 18, .len, [.tmp 17], none, [], none⟩,
   ⟨some 19, (.bin .lss), [.tmp 16, .tmp 18], none, [], none⟩] false [0, 1, 4, 5, 6, 7, 12, 19, 29])
   (.cond (.tmp 19) (.skip) (.exit 0)))
   (.seq (.block 1 (.seq (.reg [
   ⟨some 22, .mov, [.tmp 0], none, [], none⟩,
   ⟨some 23, .mov, [.tmp 6], none, [], none⟩,
   ⟨some 24, (.ixa 117 3), [.tmp 22, .tmp 23], none, [], none⟩,
   ⟨some 25, (.load (some 3)), [.tmp 24], none, [], none⟩,
   ⟨some 7, (.alloc [(.int .u64 0), (.int .u64 0), (.int .u64 0)]), [], none, [], none⟩,
   ⟨none, (.store (some 3)), [.tmp 7, .tmp 25], none, [], none⟩] false [0, 1, 4, 5, 6, 7, 12, 19, 29])
   (.seq (.reg [
   ⟨some 26, .mov, [.tmp 1], none, [], none⟩,
   ⟨some 27, (.load (some 3)), [.tmp 7], none, [], none⟩,
   ⟨some 28, .calv, [.tmp 26, .tmp 27], none, [], none⟩,
   ⟨some 29, .not, [.tmp 28], none, [], none⟩] false [0, 1, 4, 5, 6, 7, 12, 19, 29])
   (.cond (.tmp 29) (.seq (.reg [
   ⟨some 30, .mov, [.tmp 0], none, [], none⟩,
   ⟨some 31, .mov, [.tmp 5], none, [], none⟩,
   ⟨some 32, (.load (some 3)), [.tmp 7], none, [], none⟩,
   ⟨some 33, (.ixa 117 3), [.tmp 30, .tmp 31], none, [], none⟩,
   ⟨none, (.store (some 3)), [.tmp 33, .tmp 32], none, [], none⟩] false [0, 1, 4, 5, 6, 7, 12, 19, 29])
   (.reg [
   ⟨some 34, .mov, [.tmp 5], none, [], none⟩,
   ⟨some 35, (.bin .add), [.tmp 34, .const (.int .i64 1)], none, [], none⟩,
   ⟨some 5, .mov, [.tmp 35], none, [], none⟩] false [0, 1, 4, 5, 6, 7, 12, 19, 29])) (.skip)))))
   (.reg [
   ⟨some 20, .mov, [.tmp 6], none, [], none⟩,
   ⟨some 21, (.bin .add), [.tmp 20, .const (.int .i64 1)], none, [], none⟩,
   ⟨some 6, .mov, [.tmp 21], none, [], none⟩] false [0, 1, 4, 5, 6, 7, 12, 19, 29]))))))
  (.seq (.reg [
  ⟨some 36, .mov, [.tmp 0], none, [], none⟩,
  ⟨some 37, .mov, [.tmp 5], none, [], none⟩,
  ⟨some 38, (.slc 3 true false), [.tmp 36, .tmp 37], none, [], none⟩,
  ⟨none, (.clr 117 3 [(.int .u64 0), (.int .u64 0), (.int .u64 0)]), [.tmp 38], none, [], none⟩] false [0, 1, 4, 5, 6, 7, 12, 19, 29])
  (.seq (.reg [
  ⟨some 39, .mov, [.tmp 0], none, [], none⟩,
  ⟨some 40, .mov, [.tmp 5], none, [], none⟩,
  ⟨some 41, (.slc 3 false true), [.tmp 39, .tmp 40], none, [], none⟩,
  ⟨some 4, .mov, [.tmp 41], none, [], none⟩] false [0, 1, 4, 5, 6, 7, 12, 19, 29])
  (.ret))))))
def keep135 : List Nat := [0, 1, 4, 5, 6, 7, 12, 19, 29]
theorem fn135 : compFn Try.prog 135 keep135 = some ⟨42, 2, [(4, none)], body135⟩ := by kernel_rfl

/- slices.Sort[[]uint64,uint64] -/
def body136 : AC :=
  .seq (.reg [
  ⟨some 3, .mov, [.tmp 0], none, [], none⟩,
  ⟨some 4, .len, [.tmp 3], none, [], none⟩,
  ⟨some 2, .mov, [.tmp 4], none, [], none⟩] false [0, 2])
  (.reg [
  ⟨some 5, .mov, [.tmp 0], none, [], none⟩,
  ⟨some 6, .mov, [.tmp 2], none, [], none⟩,
  ⟨some 7, .mov, [.tmp 2], none, [], none⟩,
  ⟨some 8, (.cvi .u64), [.tmp 7], none, [], none⟩,
  ⟨some 9, (.call 169), [.tmp 8], none, [], none⟩,
  ⟨some 10, (.call 168), [.tmp 5, .const (.int .i64 0), .tmp 6, .tmp 9], none, [], none⟩] false [0, 2])
def keep136 : List Nat := [0, 2]
theorem fn136 : compFn Try.prog 136 keep136 = some ⟨11, 1, [], body136⟩ := by kernel_rfl

/- slices.Compact[[]uint64,uint64] -/
def body137 : AC :=
  .seq (.reg [
  ⟨some 2, (.nilS 24), [], none, [], none⟩] false [0, 2, 3, 4, 5, 8, 13, 25, 32, 44])
  (.seq (.seq (.reg [
  ⟨some 6, .mov, [.tmp 0], none, [], none⟩,
  ⟨some 7, .len, [.tmp 6], none, [], none⟩,
  ⟨some 8, (.bin .lss), [.tmp 7, .const (.int .i64 2)], none, [], none⟩] false [0, 2, 3, 4, 5, 8, 13, 25, 32, 44])
  (.cond (.tmp 8) (.seq (.reg [
  ⟨some 9, .mov, [.tmp 0], none, [], none⟩,
  ⟨some 2, .mov, [.tmp 9], none, [], none⟩] false [0, 2, 3, 4, 5, 8, 13, 25, 32, 44])
  (.ret)) (.skip)))
  (.seq (.seq (.reg [
  ⟨some 3, .mov, [.const (.int .i64 1)], none, [], none⟩] false [0, 2, 3, 4, 5, 8, 13, 25, 32, 44])
  (.block 0 (.loop (.seq (.seq (.reg [
   ⟨some 10, .mov, [.tmp 3], none, [], none⟩,
   ⟨some 11, .mov, [.tmp 0], none, [], none⟩,
   ⟨some 12, .len, [.tmp 11], none, [], none⟩,
   ⟨some 13, (.bin .lss), [.tmp 10, .tmp 12], none, [], none⟩] false [0, 2, 3, 4, 5, 8, 13, 25, 32, 44])
   (.cond (.tmp 13) (.skip) (.exit 0)))
   (.seq (.block 1 (.seq (.reg [
   ⟨some 16, .mov, [.tmp 0], none, [], none⟩,
   ⟨some 17, .mov, [.tmp 3], none, [], none⟩,
   ⟨some 18, (.ixa 24 1), [.tmp 16, .tmp 17], none, [], none⟩,
   ⟨some 19, (.load none), [.tmp 18], none, [], none⟩,
   ⟨some 20, .mov, [.tmp 0], none, [], none⟩,
   ⟨some 21, .mov, [.tmp 3], none, [], none⟩,
   ⟨some 22, (.bin .sub), [.tmp 21, .const (.int .i64 1)], none, [], none⟩,
   ⟨some 23, (.ixa 24 1), [.tmp 20, .tmp 22], none, [], none⟩,
   ⟨some 24, (.load none), [.tmp 23], none, [], none⟩,
   ⟨some 25, (.bin .eql), [.tmp 19, .tmp 24], none, [], none⟩] true [0, 2, 3, 4, 5, 8, 13, 25, 32, 44])
   (.cond (.tmp 25) (.seq (.reg [
   ⟨some 26, .mov, [.tmp 0], none, [], none⟩,
   ⟨some 27, .mov, [.tmp 3], none, [], none⟩,
   ⟨some 28, (.slc 1 true false), [.tmp 26, .tmp 27], none, [], none⟩,
   ⟨some 4, .mov, [.tmp 28], none, [], none⟩] false [0, 2, 3, 4, 5, 8, 13, 25, 32, 44])
   (.seq (.seq (.reg [
   ⟨some 5, .mov, [.const (.int .i64 1)], none, [], none⟩] false [0, 2, 3, 4, 5, 8, 13, 25, 32, 44])
   (.block 2 (.loop (.seq (.seq (.reg [
    ⟨some 29, .mov, [.tmp 5], none, [], none⟩,
    ⟨some 30, .mov, [.tmp 4], none, [], none⟩,
    ⟨some 31, .len, [.tmp 30], none, [], none⟩,
    ⟨some 32, (.bin .lss), [.tmp 29, .tmp 31], none, [], none⟩] false [0, 2, 3, 4, 5, 8, 13, 25, 32, 44])
    (.cond (.tmp 32) (.skip) (.exit 2)))
    (.seq (.block 3 (.seq (.reg [
    ⟨some 35, .mov, [.tmp 4], none, [], none⟩,
    ⟨some 36, .mov, [.tmp 5], none, [], none⟩,
    ⟨some 37, (.ixa 24 1), [.tmp 35, .tmp 36], none, [], none⟩,
    ⟨some 38, (.load none), [.tmp 37], none, [], none⟩,
    ⟨some 39, .mov, [.tmp 4], none, [], none⟩,
    ⟨some 40, .mov, [.tmp 5], none, [], none⟩,
    ⟨some 41, (.bin .sub), [.tmp 40, .const (.int .i64 1)], none, [], none⟩,
    ⟨some 42, (.ixa 24 1), [.tmp 39, .tmp 41], none, [], none⟩,
    ⟨some 43, (.load none), [.tmp 42], none, [], none⟩,
    ⟨some 44, (.bin .neq), [.tmp 38, .tmp 43], none, [], none⟩] true [0, 2, 3, 4, 5, 8, 13, 25, 32, 44])
    (.cond (.tmp 44) (.seq (.reg [
    ⟨some 45, .mov, [.tmp 0], none, [], none⟩,
    ⟨some 46, .mov, [.tmp 3], none, [], none⟩,
    ⟨some 47, .mov, [.tmp 4], none, [], none⟩,
    ⟨some 48, .mov, [.tmp 5], none, [], none⟩,
    ⟨some 49, (.ixa 24 1), [.tmp 47, .tmp 48], none, [], none⟩,
    ⟨some 50, (.load none), [.tmp 49], none, [], none⟩,
    ⟨some 51, (.ixa 24 1), [.tmp 45, .tmp 46], none, [], none⟩,
    ⟨none, (.store none), [.tmp 51, .tmp 50], none, [], none⟩] false [0, 2, 3, 4, 5, 8, 13, 25, 32, 44])
    (.reg [
    ⟨some 52, .mov, [.tmp 3], none, [], none⟩,
    ⟨some 53, (.bin .add), [.tmp 52, .const (.int .i64 1)], none, [], none⟩,
    ⟨some 3, .mov, [.tmp 53], none, [], none⟩] false [0, 2, 3, 4, 5, 8, 13, 25, 32, 44])) (.skip))))
    (.reg [
    ⟨some 33, .mov, [.tmp 5], none, [], none⟩,
    ⟨some 34, (.bin .add), [.tmp 33, .const (.int .i64 1)], none, [], none⟩,
    ⟨some 5, .mov, [.tmp 34], none, [], none⟩] false [0, 2, 3, 4, 5, 8, 13, 25, 32, 44]))))))
   (.seq (.reg [
   ⟨some 54, .mov, [.tmp 0], none, [], none⟩,
   ⟨some 55, .mov, [.tmp 3], none, [], none⟩,
   ⟨some 56, (.slc 1 true false), [.tmp 54, .tmp 55], none, [], none⟩,
   ⟨none, (.clr 24 1 [(.int .u64 0)]), [.tmp 56], none, [], none⟩] false [0, 2, 3, 4, 5, 8, 13, 25, 32, 44])
   (.seq (.reg [
   ⟨some 57, .mov, [.tmp 0], none, [], none⟩,
   ⟨some 58, .mov, [.tmp 3], none, [], none⟩,
   ⟨some 59, (.slc 1 false true), [.tmp 57, .tmp 58], none, [], none⟩,
   ⟨some 2, .mov, [.tmp 59], none, [], none⟩] false [0, 2, 3, 4, 5, 8, 13, 25, 32, 44])
   (.ret))))) (.skip))))
   (.reg [
   ⟨some 14, .mov, [.tmp 3], none, [], none⟩,
   ⟨some 15, (.bin .add), [.tmp 14, .const (.int .i64 1)], none, [], none⟩,
   ⟨some 3, .mov, [.tmp 15], none, [], none⟩] false [0, 2, 3, 4, 5, 8, 13, 25, 32, 44]))))))
  (.seq (.reg [
  ⟨some 60, .mov, [.tmp 0], none, [], none⟩,
  ⟨some 2, .mov, [.tmp 60], none, [], none⟩] false [0, 2, 3, 4, 5, 8, 13, 25, 32, 44])
  (.ret))))
def keep137 : List Nat := [0, 2, 3, 4, 5, 8, 13, 25, 32, 44]
theorem fn137 : compFn Try.prog 137 keep137 = some ⟨61, 1, [(2, none)], body137⟩ := by kernel_rfl

/- slices.ContainsFunc[[]chartroom/pins.Pin,chartroom/pins.Pin] -/
def body139 : AC :=
  .seq (.reg [
  ⟨some 4, .mov, [.const (.bool false)], none, [], none⟩] false [0, 1, 4])
  (.seq (.reg [
  ⟨some 5, .mov, [.tmp 0], none, [], none⟩,
  ⟨some 6, .mov, [.tmp 1], none, [], none⟩,
  ⟨some 7, (.call 130), [.tmp 5, .tmp 6], none, [], none⟩,
  ⟨some 8, (.bin .geq), [.tmp 7, .const (.int .i64 0)], none, [], none⟩,
  ⟨some 4, .mov, [.tmp 8], none, [], none⟩] false [0, 1, 4])
  (.ret))
def keep139 : List Nat := [0, 1, 4]
theorem fn139 : compFn Try.prog 139 keep139 = some ⟨9, 2, [(4, none)], body139⟩ := by kernel_rfl

/- (chartroom/pins.Pins).Of$1 -/
def body140 : AC :=
  .seq (.reg [
  ⟨some 2, .box, [.tmp 0], none, [], none⟩,
  ⟨some 3, .mov, [.const (.bool false)], none, [], none⟩] false [0, 1, 2, 3])
  (.seq (.reg [
  ⟨some 4, (.fad 1), [.tmp 2], none, [], none⟩,
  ⟨some 5, (.load none), [.tmp 4], none, [], none⟩,
  ⟨some 6, (.load none), [.tmp 1], none, [], none⟩,
  ⟨some 7, (.bin .eql), [.tmp 5, .tmp 6], none, [], none⟩,
  ⟨some 3, .mov, [.tmp 7], none, [], none⟩] false [0, 1, 2, 3])
  (.ret))
def keep140 : List Nat := [0, 1, 2, 3]
theorem fn140 : compFn Try.prog 140 keep140 = some ⟨8, 2, [(3, none)], body140⟩ := by kernel_rfl

/- slices.EqualFunc[[]chartroom/pins.Pin,[]chartroom/pins.Pin,chartroom/pins.Pin,chartroom/pins.Pin] -/
def body141 : AC :=
  .seq (.reg [
  ⟨some 6, .mov, [.const (.bool false)], none, [], none⟩] false [0, 1, 2, 6, 7, 8, 9, 14, 15, 16, 17, 18, 30])
  (.seq (.seq (.reg [
  ⟨some 10, .mov, [.tmp 0], none, [], none⟩,
  ⟨some 11, .len, [.tmp 10], none, [], none⟩,
  ⟨some 12, .mov, [.tmp 1], none, [], none⟩,
  ⟨some 13, .len, [.tmp 12], none, [], none⟩,
  ⟨some 14, (.bin .neq), [.tmp 11, .tmp 13], none, [], none⟩] false [0, 1, 2, 6, 7, 8, 9, 14, 15, 16, 17, 18, 30])
  (.cond (.tmp 14) (.seq (.reg [
  ⟨some 6, .mov, [.const (.bool false)], none, [], none⟩] false [0, 1, 2, 6, 7, 8, 9, 14, 15, 16, 17, 18, 30])
  (.ret)) (.skip)))
  (.seq (.seq (.reg [
  ⟨some 15, .mov, [.tmp 0], none, [], none⟩,
  ⟨some 16, .len, [.tmp 15], none, [], none⟩,
  ⟨some 17, .mov, [.const (.int .i64 0)], none, [], none⟩] false [0, 1, 2, 6, 7, 8, 9, 14, 15, 16, 17, 18, 30])
  (.block 0 (.loop (.seq (.reg [
   ⟨some 18, (.bin .lss), [.tmp 17, .tmp 16], none, [], none⟩] false [0, 1, 2, 6, 7, 8, 9, 14, 15, 16, 17, 18, 30])
   (.seq (.cond (.tmp 18) (.skip) (.exit 0))
   (.seq (.block 1 (.seq (.reg [
   ⟨some 19, .mov, [.tmp 17], none, [], none⟩,
   ⟨some 20, (.ixa 117 3), [.tmp 15, .tmp 17], none, [], none⟩,
   ⟨some 21, (.load (some 3)), [.tmp 20], none, [], none⟩,
   ⟨some 8, (.alloc [(.int .u64 0), (.int .u64 0), (.int .u64 0)]), [], none, [], none⟩,
   ⟨some 7, .mov, [.tmp 19], none, [], none⟩,
   ⟨none, (.store (some 3)), [.tmp 8, .tmp 21], none, [], none⟩] false [0, 1, 2, 6, 7, 8, 9, 14, 15, 16, 17, 18, 30])
   (.seq (.reg [
   ⟨some 22, .mov, [.tmp 1], none, [], none⟩,
   ⟨some 23, .mov, [.tmp 7], none, [], none⟩,
   ⟨some 24, (.ixa 117 3), [.tmp 22, .tmp 23], none, [], none⟩,
   ⟨some 25, (.load (some 3)), [.tmp 24], none, [], none⟩,
   ⟨some 9, (.alloc [(.int .u64 0), (.int .u64 0), (.int .u64 0)]), [], none, [], none⟩,
   ⟨none, (.store (some 3)), [.tmp 9, .tmp 25], none, [], none⟩] false [0, 1, 2, 6, 7, 8, 9, 14, 15, 16, 17, 18, 30])
   (.seq (.reg [
   ⟨some 26, .mov, [.tmp 2], none, [], none⟩,
   ⟨some 27, (.load (some 3)), [.tmp 8], none, [], none⟩,
   ⟨some 28, (.load (some 3)), [.tmp 9], none, [], none⟩,
   ⟨some 29, .calv, [.tmp 26, .tmp 27, .tmp 28], none, [], none⟩,
   ⟨some 30, .not, [.tmp 29], none, [], none⟩] false [0, 1, 2, 6, 7, 8, 9, 14, 15, 16, 17, 18, 30])
   (.cond (.tmp 30) (.seq (.reg [
   ⟨some 6, .mov, [.const (.bool false)], none, [], none⟩] false [0, 1, 2, 6, 7, 8, 9, 14, 15, 16, 17, 18, 30])
   (.ret)) (.skip))))))
   (.reg [
   ⟨some 31, (.bin .add), [.tmp 17, .const (.int .i64 1)], none, [], none⟩,
   ⟨some 17, .mov, [.tmp 31], none, [], none⟩] false [0, 1, 2, 6, 7, 8, 9, 14, 15, 16, 17, 18, 30])))))))
  (.seq (.reg [
  ⟨some 6, .mov, [.const (.bool true)], none, [], none⟩] false [0, 1, 2, 6, 7, 8, 9, 14, 15, 16, 17, 18, 30])
  (.ret))))
def keep141 : List Nat := [0, 1, 2, 6, 7, 8, 9, 14, 15, 16, 17, 18, 30]
theorem fn141 : compFn Try.prog 141 keep141 = some ⟨32, 3, [(6, none)], body141⟩ := by kernel_rfl

/- chartroom/pins.Same$1 -/
def body142 : AC :=
  .seq (.reg [
  ⟨some 2, .box, [.tmp 0], none, [], none⟩,
  ⟨some 3, .box, [.tmp 1], none, [], none⟩,
  ⟨some 4, .mov, [.const (.bool false)], none, [], none⟩] false [0, 1, 2, 3, 4])
  (.seq (.reg [
  ⟨some 5, (.load (some 3)), [.tmp 2], none, [], none⟩,
  ⟨some 6, (.load (some 3)), [.tmp 3], none, [], none⟩,
  ⟨some 7, (.eqs false [9, 9, 9]), [.tmp 5, .tmp 6], none, [], none⟩,
  ⟨some 4, .mov, [.tmp 7], none, [], none⟩] false [0, 1, 2, 3, 4])
  (.ret))
def keep142 : List Nat := [0, 1, 2, 3, 4]
theorem fn142 : compFn Try.prog 142 keep142 = some ⟨8, 2, [(4, none)], body142⟩ := by kernel_rfl

/- slices.Grow[[]chartroom/pins.Pin,chartroom/pins.Pin] -/
def body166 : AC :=
  .seq (.reg [
  ⟨some 4, (.nilS 117), [], none, [], none⟩] false [0, 1, 4, 6, 16])
  (.seq (.seq (.reg [
  ⟨some 5, .mov, [.tmp 1], none, [], none⟩,
  ⟨some 6, (.bin .lss), [.tmp 5, .const (.int .i64 0)], none, [], none⟩] false [0, 1, 4, 6, 16])
  (.cond (.tmp 6) (.reg [
  ⟨some 7, (.ex .dead), [], none, [], none⟩,
  ⟨none, (.ex .dead), [], none, [], none⟩] false [0, 1, 4, 6, 16]) (.skip)))
  (.seq (.seq (.reg [
  ⟨some 8, .mov, [.tmp 1], none, [], none⟩,
  ⟨some 9, .mov, [.tmp 0], none, [], none⟩,
  ⟨some 10, (.ex .capn), [.tmp 9], none, [], none⟩,
  ⟨some 11, .mov, [.tmp 0], none, [], none⟩,
  ⟨some 12, .len, [.tmp 11], none, [], none⟩,
  ⟨some 13, (.bin .sub), [.tmp 10, .tmp 12], none, [], none⟩,
  ⟨some 14, (.bin .sub), [.tmp 8, .tmp 13], none, [], none⟩,
  ⟨some 1, .mov, [.tmp 14], none, [], none⟩] false [0, 1, 4, 6, 16])
  (.seq (.reg [
  ⟨some 15, .mov, [.tmp 1], none, [], none⟩,
  ⟨some 16, (.bin .gtr), [.tmp 15, .const (.int .i64 0)], none, [], none⟩] false [0, 1, 4, 6, 16])
  (.cond (.tmp 16) (.reg [
  ⟨some 17, .mov, [.tmp 0], none, [], none⟩,
  ⟨some 18, .mov, [.tmp 0], none, [], none⟩,
  ⟨some 19, (.ex .capn), [.tmp 18], none, [], none⟩,
  ⟨some 20, (.slc 3 false true), [.tmp 17, .tmp 19], none, [], none⟩,
  ⟨some 21, .mov, [.tmp 1], none, [], none⟩,
  ⟨some 22, (.ex (.appz 117 3 24 [(.int .u64 0), (.int .u64 0), (.int .u64 0)])), [.tmp 20, .tmp 21], none, [], none⟩,
  ⟨some 23, .mov, [.tmp 0], none, [], none⟩,
  ⟨some 24, .len, [.tmp 23], none, [], none⟩,
  ⟨some 25, (.slc 3 false true), [.tmp 22, .tmp 24], none, [], none⟩,
  ⟨some 0, .mov, [.tmp 25], none, [], none⟩] false [0, 1, 4, 6, 16]) (.skip))))
  (.seq (.reg [
  ⟨some 26, .mov, [.tmp 0], none, [], none⟩,
  ⟨some 4, .mov, [.tmp 26], none, [], none⟩] false [0, 1, 4, 6, 16])
  (.ret))))
def keep166 : List Nat := [0, 1, 4, 6, 16]
theorem fn166 : compFn Try.prog 166 keep166 = some ⟨27, 2, [(4, none)], body166⟩ := by kernel_rfl

/- slices.pdqsortOrdered[uint64] -/
def body168 : AC :=
  .seq (.reg [
  ⟨some 8, .mov, [.const (.bool true)], none, [], none⟩] false [0, 1, 2, 3, 8, 9, 10, 11, 12, 13, 14, 15, 16, 17, 18, 23, 29, 35, 50, 68, 72, 87, 113])
  (.seq (.reg [
  ⟨some 9, .mov, [.const (.bool true)], none, [], none⟩] false [0, 1, 2, 3, 8, 9, 10, 11, 12, 13, 14, 15, 16, 17, 18, 23, 29, 35, 50, 68, 72, 87, 113])
  (.block 0 (.loop (.block 1 (.seq (.reg [
   ⟨some 19, .mov, [.tmp 2], none, [], none⟩,
   ⟨some 20, .mov, [.tmp 1], none, [], none⟩,
   ⟨some 21, (.bin .sub), [.tmp 19, .tmp 20], none, [], none⟩,
   ⟨some 10, .mov, [.tmp 21], none, [], none⟩] false [0, 1, 2, 3, 8, 9, 10, 11, 12, 13, 14, 15, 16, 17, 18, 23, 29, 35, 50, 68, 72, 87, 113])
   (.seq (.seq (.reg [
   ⟨some 22, .mov, [.tmp 10], none, [], none⟩,
   ⟨some 23, (.bin .leq), [.tmp 22, .const (.int .i64 12)], none, [], none⟩] false [0, 1, 2, 3, 8, 9, 10, 11, 12, 13, 14, 15, 16, 17, 18, 23, 29, 35, 50, 68, 72, 87, 113])
   (.cond (.tmp 23) (.seq (.reg [
   ⟨some 24, .mov, [.tmp 0], none, [], none⟩,
   ⟨some 25, .mov, [.tmp 1], none, [], none⟩,
   ⟨some 26, .mov, [.tmp 2], none, [], none⟩,
   ⟨some 27, (.call 183), [.tmp 24, .tmp 25, .tmp 26], none, [], none⟩] false [0, 1, 2, 3, 8, 9, 10, 11, 12, 13, 14, 15, 16, 17, 18, 23, 29, 35, 50, 68, 72, 87, 113])
   (.ret)) (.skip)))
   (.seq (.seq (.reg [
   ⟨some 28, .mov, [.tmp 3], none, [], none⟩,
   ⟨some 29, (.bin .eql), [.tmp 28, .const (.int .i64 0)], none, [], none⟩] false [0, 1, 2, 3, 8, 9, 10, 11, 12, 13, 14, 15, 16, 17, 18, 23, 29, 35, 50, 68, 72, 87, 113])
   (.cond (.tmp 29) (.seq (.reg [
   ⟨some 30, .mov, [.tmp 0], none, [], none⟩,
   ⟨some 31, .mov, [.tmp 1], none, [], none⟩,
   ⟨some 32, .mov, [.tmp 2], none, [], none⟩,
   ⟨some 33, (.call 184), [.tmp 30, .tmp 31, .tmp 32], none, [], none⟩] false [0, 1, 2, 3, 8, 9, 10, 11, 12, 13, 14, 15, 16, 17, 18, 23, 29, 35, 50, 68, 72, 87, 113])
   (.ret)) (.skip)))
   (.seq (.seq (.reg [
   ⟨some 34, .mov, [.tmp 8], none, [], none⟩,
   ⟨some 35, .not, [.tmp 34], none, [], none⟩] false [0, 1, 2, 3, 8, 9, 10, 11, 12, 13, 14, 15, 16, 17, 18, 23, 29, 35, 50, 68, 72, 87, 113])
   (.cond (.tmp 35) (.seq (.reg [
   ⟨some 36, .mov, [.tmp 0], none, [], none⟩,
   ⟨some 37, .mov, [.tmp 1], none, [], none⟩,
   ⟨some 38, .mov, [.tmp 2], none, [], none⟩,
   ⟨some 39, (.call 185), [.tmp 36, .tmp 37, .tmp 38], none, [], none⟩] false [0, 1, 2, 3, 8, 9, 10, 11, 12, 13, 14, 15, 16, 17, 18, 23, 29, 35, 50, 68, 72, 87, 113])
   (.reg [
   ⟨some 40, .mov, [.tmp 3], none, [], none⟩,
   ⟨some 41, (.bin .sub), [.tmp 40, .const (.int .i64 1)], none, [], none⟩,
   ⟨some 3, .mov, [.tmp 41], none, [], none⟩] false [0, 1, 2, 3, 8, 9, 10, 11, 12, 13, 14, 15, 16, 17, 18, 23, 29, 35, 50, 68, 72, 87, 113])) (.skip)))
   (.seq (.reg [
   ⟨some 43, .mov, [.tmp 0], none, [], none⟩,
   ⟨some 44, .mov, [.tmp 1], none, [], none⟩,
   ⟨some 45, .mov, [.tmp 2], none, [], none⟩,
   ⟨some 46, (.call 186), [.tmp 43, .tmp 44, .tmp 45], none, [], none⟩,
   ⟨some 42, .mov, [.tmp 46], none, [], none⟩,
   ⟨some 47, (.ext 0), [.tmp 42], none, [], none⟩,
   ⟨some 48, (.ext 1), [.tmp 42], none, [], none⟩,
   ⟨some 11, .mov, [.tmp 47], none, [], none⟩,
   ⟨some 12, .mov, [.tmp 48], none, [], none⟩] false [0, 1, 2, 3, 8, 9, 10, 11, 12, 13, 14, 15, 16, 17, 18, 23, 29, 35, 50, 68, 72, 87, 113])
   (.seq (.seq (.reg [
   ⟨some 49, .mov, [.tmp 12], none, [], none⟩,
   ⟨some 50, (.bin .eql), [.tmp 49, .const (.int .i64 2)], none, [], none⟩] false [0, 1, 2, 3, 8, 9, 10, 11, 12, 13, 14, 15, 16, 17, 18, 23, 29, 35, 50, 68, 72, 87, 113])
   (.cond (.tmp 50) (.seq (.reg [
   ⟨some 51, .mov, [.tmp 0], none, [], none⟩,
   ⟨some 52, .mov, [.tmp 1], none, [], none⟩,
   ⟨some 53, .mov, [.tmp 2], none, [], none⟩,
   ⟨some 54, (.call 187), [.tmp 51, .tmp 52, .tmp 53], none, [], none⟩] false [0, 1, 2, 3, 8, 9, 10, 11, 12, 13, 14, 15, 16, 17, 18, 23, 29, 35, 50, 68, 72, 87, 113])
   (.seq (.reg [
   ⟨some 55, .mov, [.tmp 2], none, [], none⟩,
   ⟨some 56, (.bin .sub), [.tmp 55, .const (.int .i64 1)], none, [], none⟩,
   ⟨some 57, .mov, [.tmp 11], none, [], none⟩,
   ⟨some 58, .mov, [.tmp 1], none, [], none⟩,
   ⟨some 59, (.bin .sub), [.tmp 57, .tmp 58], none, [], none⟩,
   ⟨some 60, (.bin .sub), [.tmp 56, .tmp 59], none, [], none⟩,
   ⟨some 11, .mov, [.tmp 60], none, [], none⟩] false [0, 1, 2, 3, 8, 9, 10, 11, 12, 13, 14, 15, 16, 17, 18, 23, 29, 35, 50, 68, 72, 87, 113])
   (.reg [
   ⟨some 12, .mov, [.const (.int .i64 1)], none, [], none⟩] false [0, 1, 2, 3, 8, 9, 10, 11, 12, 13, 14, 15, 16, 17, 18, 23, 29, 35, 50, 68, 72, 87, 113]))) (.skip)))
   (.seq (.seq (.reg [
   ⟨some 61, .mov, [.tmp 8], none, [], none⟩,
   ⟨some 62, .mov, [.tmp 61], none, [], none⟩,
   ⟨some 63, .mov, [.tmp 9], some (62, true), [], none⟩,
   ⟨some 64, .pick, [.tmp 62, .tmp 63, .const (.bool false)], none, [], none⟩,
   ⟨some 65, .mov, [.tmp 64], none, [], none⟩,
   ⟨some 66, .mov, [.tmp 12], some (65, true), [], none⟩,
   ⟨some 67, (.bin .eql), [.tmp 66, .const (.int .i64 1)], some (65, true), [], none⟩,
   ⟨some 68, .pick, [.tmp 65, .tmp 67, .const (.bool false)], none, [], none⟩] false [0, 1, 2, 3, 8, 9, 10, 11, 12, 13, 14, 15, 16, 17, 18, 23, 29, 35, 50, 68, 72, 87, 113])
   (.cond (.tmp 68) (.seq (.reg [
   ⟨some 69, .mov, [.tmp 0], none, [], none⟩,
   ⟨some 70, .mov, [.tmp 1], none, [], none⟩,
   ⟨some 71, .mov, [.tmp 2], none, [], none⟩,
   ⟨some 72, (.call 188), [.tmp 69, .tmp 70, .tmp 71], none, [], none⟩] false [0, 1, 2, 3, 8, 9, 10, 11, 12, 13, 14, 15, 16, 17, 18, 23, 29, 35, 50, 68, 72, 87, 113])
   (.cond (.tmp 72) (.ret) (.skip))) (.skip)))
   (.seq (.seq (.reg [
   ⟨some 73, .mov, [.tmp 1], none, [], none⟩,
   ⟨some 74, (.bin .gtr), [.tmp 73, .const (.int .i64 0)], none, [], none⟩,
   ⟨some 75, .mov, [.tmp 74], none, [], none⟩,
   ⟨some 76, .mov, [.tmp 0], some (75, true), [], none⟩,
   ⟨some 77, .mov, [.tmp 1], some (75, true), [], none⟩,
   ⟨some 78, (.bin .sub), [.tmp 77, .const (.int .i64 1)], some (75, true), [], none⟩,
   ⟨some 79, (.ixa 24 1), [.tmp 76, .tmp 78], some (75, true), [], none⟩,
   ⟨some 80, (.load none), [.tmp 79], some (75, true), [], none⟩,
   ⟨some 81, .mov, [.tmp 0], some (75, true), [], none⟩,
   ⟨some 82, .mov, [.tmp 11], some (75, true), [], none⟩,
   ⟨some 83, (.ixa 24 1), [.tmp 81, .tmp 82], some (75, true), [], none⟩,
   ⟨some 84, (.load none), [.tmp 83], some (75, true), [], none⟩,
   ⟨some 85, (.call 189), [.tmp 80, .tmp 84], some (75, true), [], none⟩,
   ⟨some 86, .not, [.tmp 85], some (75, true), [], none⟩,
   ⟨some 87, .pick, [.tmp 75, .tmp 86, .const (.bool false)], none, [], none⟩] true [0, 1, 2, 3, 8, 9, 10, 11, 12, 13, 14, 15, 16, 17, 18, 23, 29, 35, 50, 68, 72, 87, 113])
   (.cond (.tmp 87) (.seq (.reg [
   ⟨some 88, .mov, [.tmp 0], none, [], none⟩,
   ⟨some 89, .mov, [.tmp 1], none, [], none⟩,
   ⟨some 90, .mov, [.tmp 2], none, [], none⟩,
   ⟨some 91, .mov, [.tmp 11], none, [], none⟩,
   ⟨some 92, (.call 190), [.tmp 88, .tmp 89, .tmp 90, .tmp 91], none, [], none⟩,
   ⟨some 13, .mov, [.tmp 92], none, [], none⟩] false [0, 1, 2, 3, 8, 9, 10, 11, 12, 13, 14, 15, 16, 17, 18, 23, 29, 35, 50, 68, 72, 87, 113])
   (.seq (.reg [
   ⟨some 93, .mov, [.tmp 13], none, [], none⟩,
   ⟨some 1, .mov, [.tmp 93], none, [], none⟩] false [0, 1, 2, 3, 8, 9, 10, 11, 12, 13, 14, 15, 16, 17, 18, 23, 29, 35, 50, 68, 72, 87, 113])
   (.exit 1))) (.skip)))
   (.seq (.reg [
   ⟨some 95, .mov, [.tmp 0], none, [], none⟩,
   ⟨some 96, .mov, [.tmp 1], none, [], none⟩,
   ⟨some 97, .mov, [.tmp 2], none, [], none⟩,
   ⟨some 98, .mov, [.tmp 11], none, [], none⟩,
   ⟨some 99, (.call 191), [.tmp 95, .tmp 96, .tmp 97, .tmp 98], none, [], none⟩,
   ⟨some 94, .mov, [.tmp 99], none, [], none⟩,
   ⟨some 100, (.ext 0), [.tmp 94], none, [], none⟩,
   ⟨some 101, (.ext 1), [.tmp 94], none, [], none⟩,
   ⟨some 14, .mov, [.tmp 100], none, [], none⟩,
   ⟨some 15, .mov, [.tmp 101], none, [], none⟩] false [0, 1, 2, 3, 8, 9, 10, 11, 12, 13, 14, 15, 16, 17, 18, 23, 29, 35, 50, 68, 72, 87, 113])
   (.seq (.reg [
   ⟨some 102, .mov, [.tmp 15], none, [], none⟩,
   ⟨some 9, .mov, [.tmp 102], none, [], none⟩] false [0, 1, 2, 3, 8, 9, 10, 11, 12, 13, 14, 15, 16, 17, 18, 23, 29, 35, 50, 68, 72, 87, 113])
   (.seq (.reg [
   ⟨some 103, .mov, [.tmp 14], none, [], none⟩,
   ⟨some 104, .mov, [.tmp 1], none, [], none⟩,
   ⟨some 105, (.bin .sub), [.tmp 103, .tmp 104], none, [], none⟩,
   ⟨some 106, .mov, [.tmp 2], none, [], none⟩,
   ⟨some 107, .mov, [.tmp 14], none, [], none⟩,
   ⟨some 108, (.bin .sub), [.tmp 106, .tmp 107], none, [], none⟩,
   ⟨some 16, .mov, [.tmp 105], none, [], none⟩,
   ⟨some 17, .mov, [.tmp 108], none, [], none⟩] false [0, 1, 2, 3, 8, 9, 10, 11, 12, 13, 14, 15, 16, 17, 18, 23, 29, 35, 50, 68, 72, 87, 113])
   (.seq (.reg [
   ⟨some 109, .mov, [.tmp 10], none, [], none⟩,
   ⟨some 110, (.bin .quo), [.tmp 109, .const (.int .i64 8)], none, [], none⟩,
   ⟨some 18, .mov, [.tmp 110], none, [], none⟩] false [0, 1, 2, 3, 8, 9, 10, 11, 12, 13, 14, 15, 16, 17, 18, 23, 29, 35, 50, 68, 72, 87, 113])
   (.seq (.reg [
   ⟨some 111, .mov, [.tmp 16], none, [], none⟩,
   ⟨some 112, .mov, [.tmp 17], none, [], none⟩,
   ⟨some 113, (.bin .lss), [.tmp 111, .tmp 112], none, [], none⟩] false [0, 1, 2, 3, 8, 9, 10, 11, 12, 13, 14, 15, 16, 17, 18, 23, 29, 35, 50, 68, 72, 87, 113])
   (.cond (.tmp 113) (.seq (.reg [
   ⟨some 114, .mov, [.tmp 16], none, [], none⟩,
   ⟨some 115, .mov, [.tmp 18], none, [], none⟩,
   ⟨some 116, (.bin .geq), [.tmp 114, .tmp 115], none, [], none⟩,
   ⟨some 8, .mov, [.tmp 116], none, [], none⟩] false [0, 1, 2, 3, 8, 9, 10, 11, 12, 13, 14, 15, 16, 17, 18, 23, 29, 35, 50, 68, 72, 87, 113])
   (.seq (.reg [
   ⟨some 117, .mov, [.tmp 0], none, [], none⟩,
   ⟨some 118, .mov, [.tmp 1], none, [], none⟩,
   ⟨some 119, .mov, [.tmp 14], none, [], none⟩,
   ⟨some 120, .mov, [.tmp 3], none, [], none⟩,
   ⟨some 121, (.call 168), [.tmp 117, .tmp 118, .tmp 119, .tmp 120], none, [], none⟩] false [0, 1, 2, 3, 8, 9, 10, 11, 12, 13, 14, 15, 16, 17, 18, 23, 29, 35, 50, 68, 72, 87, 113])
   (.reg [
   ⟨some 122, .mov, [.tmp 14], none, [], none⟩,
   ⟨some 123, (.bin .add), [.tmp 122, .const (.int .i64 1)], none, [], none⟩,
   ⟨some 1, .mov, [.tmp 123], none, [], none⟩] false [0, 1, 2, 3, 8, 9, 10, 11, 12, 13, 14, 15, 16, 17, 18, 23, 29, 35, 50, 68, 72, 87, 113]))) (.seq (.reg [
   ⟨some 124, .mov, [.tmp 17], none, [], none⟩,
   ⟨some 125, .mov, [.tmp 18], none, [], none⟩,
   ⟨some 126, (.bin .geq), [.tmp 124, .tmp 125], none, [], none⟩,
   ⟨some 8, .mov, [.tmp 126], none, [], none⟩] false [0, 1, 2, 3, 8, 9, 10, 11, 12, 13, 14, 15, 16, 17, 18, 23, 29, 35, 50, 68, 72, 87, 113])
   (.seq (.reg [
   ⟨some 127, .mov, [.tmp 0], none, [], none⟩,
   ⟨some 128, .mov, [.tmp 14], none, [], none⟩,
   ⟨some 129, (.bin .add), [.tmp 128, .const (.int .i64 1)], none, [], none⟩,
   ⟨some 130, .mov, [.tmp 2], none, [], none⟩,
   ⟨some 131, .mov, [.tmp 3], none, [], none⟩,
   ⟨some 132, (.call 168), [.tmp 127, .tmp 129, .tmp 130, .tmp 131], none, [], none⟩] false [0, 1, 2, 3, 8, 9, 10, 11, 12, 13, 14, 15, 16, 17, 18, 23, 29, 35, 50, 68, 72, 87, 113])
   (.reg [
   ⟨some 133, .mov, [.tmp 14], none, [], none⟩,
   ⟨some 2, .mov, [.tmp 133], none, [], none⟩] false [0, 1, 2, 3, 8, 9, 10, 11, 12, 13, 14, 15, 16, 17, 18, 23, 29, 35, 50, 68, 72, 87, 113])))))))))))))))))))))
def keep168 : List Nat := [0, 1, 2, 3, 8, 9, 10, 11, 12, 13, 14, 15, 16, 17, 18, 23, 29, 35, 50, 68, 72, 87, 113]
theorem fn168 : compFn Try.prog 168 keep168 = some ⟨134, 4, [], body168⟩ := by kernel_rfl

/- slices.insertionSortOrdered[uint64] -/
def body183 : AC :=
  .seq (.reg [
  ⟨some 8, .mov, [.tmp 1], none, [], none⟩,
  ⟨some 9, (.bin .add), [.tmp 8, .const (.int .i64 1)], none, [], none⟩,
  ⟨some 6, .mov, [.tmp 9], none, [], none⟩] false [0, 1, 2, 6, 7, 12, 30])
  (.block 0 (.loop (.seq (.seq (.reg [
   ⟨some 10, .mov, [.tmp 6], none, [], none⟩,
   ⟨some 11, .mov, [.tmp 2], none, [], none⟩,
   ⟨some 12, (.bin .lss), [.tmp 10, .tmp 11], none, [], none⟩] false [0, 1, 2, 6, 7, 12, 30])
   (.cond (.tmp 12) (.skip) (.exit 0)))
   (.seq (.block 1 (.seq (.reg [
   ⟨some 15, .mov, [.tmp 6], none, [], none⟩,
   ⟨some 7, .mov, [.tmp 15], none, [], none⟩] false [0, 1, 2, 6, 7, 12, 30])
   (.block 2 (.loop (.seq (.seq (.reg [
    ⟨some 16, .mov, [.tmp 7], none, [], none⟩,
    ⟨some 17, .mov, [.tmp 1], none, [], none⟩,
    ⟨some 18, (.bin .gtr), [.tmp 16, .tmp 17], none, [], none⟩,
    ⟨some 19, .mov, [.tmp 18], none, [], none⟩,
    ⟨some 20, .mov, [.tmp 0], some (19, true), [], none⟩,
    ⟨some 21, .mov, [.tmp 7], some (19, true), [], none⟩,
    ⟨some 22, (.ixa 24 1), [.tmp 20, .tmp 21], some (19, true), [], none⟩,
    ⟨some 23, (.load none), [.tmp 22], some (19, true), [], none⟩,
    ⟨some 24, .mov, [.tmp 0], some (19, true), [], none⟩,
    ⟨some 25, .mov, [.tmp 7], some (19, true), [], none⟩,
    ⟨some 26, (.bin .sub), [.tmp 25, .const (.int .i64 1)], some (19, true), [], none⟩,
    ⟨some 27, (.ixa 24 1), [.tmp 24, .tmp 26], some (19, true), [], none⟩,
    ⟨some 28, (.load none), [.tmp 27], some (19, true), [], none⟩,
    ⟨some 29, (.call 189), [.tmp 23, .tmp 28], some (19, true), [], none⟩,
    ⟨some 30, .pick, [.tmp 19, .tmp 29, .const (.bool false)], none, [], none⟩] true [0, 1, 2, 6, 7, 12, 30])
    (.cond (.tmp 30) (.skip) (.exit 2)))
    (.seq (.block 3 (.reg [
    ⟨some 33, .mov, [.tmp 0], none, [], none⟩,
    ⟨some 34, .mov, [.tmp 7], none, [], none⟩,
    ⟨some 35, .mov, [.tmp 0], none, [], none⟩,
    ⟨some 36, .mov, [.tmp 7], none, [], none⟩,
    ⟨some 37, (.bin .sub), [.tmp 36, .const (.int .i64 1)], none, [], none⟩,
    ⟨some 38, .mov, [.tmp 0], none, [], none⟩,
    ⟨some 39, .mov, [.tmp 7], none, [], none⟩,
    ⟨some 40, (.bin .sub), [.tmp 39, .const (.int .i64 1)], none, [], none⟩,
    ⟨some 41, (.ixa 24 1), [.tmp 38, .tmp 40], none, [], none⟩,
    ⟨some 42, (.load none), [.tmp 41], none, [], none⟩,
    ⟨some 43, .mov, [.tmp 0], none, [], none⟩,
    ⟨some 44, .mov, [.tmp 7], none, [], none⟩,
    ⟨some 45, (.ixa 24 1), [.tmp 43, .tmp 44], none, [], none⟩,
    ⟨some 46, (.load none), [.tmp 45], none, [], none⟩,
    ⟨some 47, (.ixa 24 1), [.tmp 33, .tmp 34], none, [], none⟩,
    ⟨none, (.store none), [.tmp 47, .tmp 42], none, [], none⟩,
    ⟨some 48, (.ixa 24 1), [.tmp 35, .tmp 37], none, [], none⟩,
    ⟨none, (.store none), [.tmp 48, .tmp 46], none, [], none⟩] true [0, 1, 2, 6, 7, 12, 30]))
    (.reg [
    ⟨some 31, .mov, [.tmp 7], none, [], none⟩,
    ⟨some 32, (.bin .sub), [.tmp 31, .const (.int .i64 1)], none, [], none⟩,
    ⟨some 7, .mov, [.tmp 32], none, [], none⟩] false [0, 1, 2, 6, 7, 12, 30])))))))
   (.reg [
   ⟨some 13, .mov, [.tmp 6], none, [], none⟩,
   ⟨some 14, (.bin .add), [.tmp 13, .const (.int .i64 1)], none, [], none⟩,
   ⟨some 6, .mov, [.tmp 14], none, [], none⟩] false [0, 1, 2, 6, 7, 12, 30])))))
def keep183 : List Nat := [0, 1, 2, 6, 7, 12, 30]
theorem fn183 : compFn Try.prog 183 keep183 = some ⟨49, 3, [], body183⟩ := by kernel_rfl

end Go.Proofs.Ytfpmjcdcpicmaaa.Ab
