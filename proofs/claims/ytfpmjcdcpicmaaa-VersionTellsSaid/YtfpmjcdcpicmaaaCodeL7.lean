/- The code of the functions, in the abstract machine's form (printed by wip/mk.py). -/
import Derived.Test.YtfpmjcdcpicmaaaAb21
import Derived.Test.YtfpmjcdcpicmaaaChecked
namespace Go.Proofs.Ytfpmjcdcpicmaaa.Ab
open Go Go.RowKit
set_option maxRecDepth 100000

/- chartroom/chartroomlaw15.VersionTells -/
def body7 : AC :=
  .seq (.reg [
  ⟨some 4, .mov, [.const (.bool false)], none, [], none⟩] false [0, 1, 4, 5, 6, 7, 8, 9, 10, 11, 12, 13, 14, 15, 16, 17, 18, 19, 20, 23, 107, 111, 121])
  (.seq (.seq (.reg [
  ⟨some 21, .mov, [.tmp 0], none, [], none⟩,
  ⟨some 22, (.call 40), [.tmp 21], none, [], none⟩,
  ⟨some 23, .not, [.tmp 22], none, [], none⟩] false [0, 1, 4, 5, 6, 7, 8, 9, 10, 11, 12, 13, 14, 15, 16, 17, 18, 19, 20, 23, 107, 111, 121])
  (.cond (.tmp 23) (.seq (.reg [
  ⟨some 24, (.call 41), [], none, [], none⟩,
  ⟨some 4, .mov, [.tmp 24], none, [], none⟩] false [0, 1, 4, 5, 6, 7, 8, 9, 10, 11, 12, 13, 14, 15, 16, 17, 18, 19, 20, 23, 107, 111, 121])
  (.ret)) (.skip)))
  (.seq (.reg [
  ⟨some 25, .mov, [.tmp 0], none, [], none⟩,
  ⟨some 26, (.call 42), [.tmp 25], none, [], none⟩,
  ⟨some 5, .mov, [.tmp 26], none, [], none⟩] false [0, 1, 4, 5, 6, 7, 8, 9, 10, 11, 12, 13, 14, 15, 16, 17, 18, 19, 20, 23, 107, 111, 121])
  (.seq (.reg [
  ⟨some 28, .mov, [.tmp 0], none, [], none⟩,
  ⟨some 29, .mov, [.tmp 1], none, [], none⟩,
  ⟨some 30, (.call 43), [.tmp 28, .tmp 29], none, [], none⟩,
  ⟨some 27, .mov, [.tmp 30], none, [], none⟩,
  ⟨some 31, (.ext 0), [.tmp 27], none, [], none⟩,
  ⟨some 32, (.ext 1), [.tmp 27], none, [], none⟩,
  ⟨some 6, (.alloc [(.int .u64 0), (.int .u64 0), (.int .u64 0), (.int .u64 0), (.int .u64 0), (.int .u64 0), (.int .u64 0), (.string ⟨#[]⟩), (.bool false), (.bool false)]), [], none, [], none⟩,
  ⟨none, (.store (some 10)), [.tmp 6, .tmp 31], none, [], none⟩,
  ⟨some 7, .mov, [.tmp 32], none, [], none⟩] false [0, 1, 4, 5, 6, 7, 8, 9, 10, 11, 12, 13, 14, 15, 16, 17, 18, 19, 20, 23, 107, 111, 121])
  (.seq (.reg [
  ⟨some 34, .mov, [.tmp 5], none, [], none⟩,
  ⟨some 35, .mov, [.tmp 1], none, [], none⟩,
  ⟨some 36, (.call 44), [.tmp 34, .tmp 35], none, [], none⟩,
  ⟨some 33, .mov, [.tmp 36], none, [], none⟩,
  ⟨some 37, (.ext 0), [.tmp 33], none, [], none⟩,
  ⟨some 38, (.ext 1), [.tmp 33], none, [], none⟩,
  ⟨some 8, (.alloc [(.int .u64 0), (.int .u64 0), (.int .u64 0), (.int .u64 0), (.int .u64 0), (.int .u64 0), (.int .u64 0), (.string ⟨#[]⟩), (.bool false), (.bool false)]), [], none, [], none⟩,
  ⟨none, (.store (some 10)), [.tmp 8, .tmp 37], none, [], none⟩,
  ⟨some 9, .mov, [.tmp 38], none, [], none⟩] false [0, 1, 4, 5, 6, 7, 8, 9, 10, 11, 12, 13, 14, 15, 16, 17, 18, 19, 20, 23, 107, 111, 121])
  (.seq (.reg [
  ⟨some 40, .mov, [.tmp 0], none, [], none⟩,
  ⟨some 41, (.call 45), [.tmp 40], none, [], none⟩,
  ⟨some 39, .mov, [.tmp 41], none, [], none⟩,
  ⟨some 42, (.ext 0), [.tmp 39], none, [], none⟩,
  ⟨some 43, (.ext 1), [.tmp 39], none, [], none⟩,
  ⟨some 10, (.alloc [(.int .u64 0), (.int .u64 0), (.int .u64 0), (.int .u64 0), (.int .u64 0), (.int .u64 0), (.int .u64 0), (.string ⟨#[]⟩), (.bool false), (.bool false)]), [], none, [], none⟩,
  ⟨none, (.store (some 10)), [.tmp 10, .tmp 42], none, [], none⟩,
  ⟨some 11, .mov, [.tmp 43], none, [], none⟩] false [0, 1, 4, 5, 6, 7, 8, 9, 10, 11, 12, 13, 14, 15, 16, 17, 18, 19, 20, 23, 107, 111, 121])
  (.seq (.reg [
  ⟨some 45, .mov, [.tmp 5], none, [], none⟩,
  ⟨some 46, (.call 46), [.tmp 45], none, [], none⟩,
  ⟨some 44, .mov, [.tmp 46], none, [], none⟩,
  ⟨some 47, (.ext 0), [.tmp 44], none, [], none⟩,
  ⟨some 48, (.ext 1), [.tmp 44], none, [], none⟩,
  ⟨some 12, (.alloc [(.int .u64 0), (.int .u64 0), (.int .u64 0), (.int .u64 0), (.int .u64 0), (.int .u64 0), (.int .u64 0), (.string ⟨#[]⟩), (.bool false), (.bool false)]), [], none, [], none⟩,
  ⟨none, (.store (some 10)), [.tmp 12, .tmp 47], none, [], none⟩,
  ⟨some 13, .mov, [.tmp 48], none, [], none⟩] false [0, 1, 4, 5, 6, 7, 8, 9, 10, 11, 12, 13, 14, 15, 16, 17, 18, 19, 20, 23, 107, 111, 121])
  (.seq (.reg [
  ⟨some 50, .mov, [.tmp 0], none, [], none⟩,
  ⟨some 51, .mov, [.tmp 1], none, [], none⟩,
  ⟨some 52, (.call 47), [.tmp 50, .tmp 51], none, [], none⟩,
  ⟨some 49, .mov, [.tmp 52], none, [], none⟩,
  ⟨some 53, (.ext 0), [.tmp 49], none, [], none⟩,
  ⟨some 54, (.ext 1), [.tmp 49], none, [], none⟩,
  ⟨some 14, .mov, [.tmp 53], none, [], none⟩,
  ⟨some 15, .mov, [.tmp 54], none, [], none⟩] false [0, 1, 4, 5, 6, 7, 8, 9, 10, 11, 12, 13, 14, 15, 16, 17, 18, 19, 20, 23, 107, 111, 121])
  (.seq (.reg [
  ⟨some 56, .mov, [.tmp 5], none, [], none⟩,
  ⟨some 57, .mov, [.tmp 1], none, [], none⟩,
  ⟨some 58, (.call 48), [.tmp 56, .tmp 57], none, [], none⟩,
  ⟨some 55, .mov, [.tmp 58], none, [], none⟩,
  ⟨some 59, (.ext 0), [.tmp 55], none, [], none⟩,
  ⟨some 60, (.ext 1), [.tmp 55], none, [], none⟩,
  ⟨some 16, .mov, [.tmp 59], none, [], none⟩,
  ⟨some 17, .mov, [.tmp 60], none, [], none⟩] false [0, 1, 4, 5, 6, 7, 8, 9, 10, 11, 12, 13, 14, 15, 16, 17, 18, 19, 20, 23, 107, 111, 121])
  (.seq (.reg [
  ⟨some 61, .mov, [.tmp 0], none, [], none⟩,
  ⟨some 62, (.call 49), [.tmp 61], none, [], none⟩,
  ⟨some 18, .mov, [.tmp 62], none, [], none⟩] false [0, 1, 4, 5, 6, 7, 8, 9, 10, 11, 12, 13, 14, 15, 16, 17, 18, 19, 20, 23, 107, 111, 121])
  (.seq (.seq (.reg (
  ⟨some 63, (.load (some 10)), [.tmp 6], none, [], none⟩ ::
  ⟨some 64, (.call 50), [.tmp 63], none, [], none⟩ ::
  ⟨some 65, (.load (some 10)), [.tmp 8], none, [64], none⟩ ::
  ⟨some 66, (.eqs true [9, 9, 9, 9, 9, 9, 9, 1, 0, 0]), [.tmp 64, .tmp 65], none, [], none⟩ ::
  ⟨some 67, .mov, [.tmp 66], none, [], none⟩ ::
  ⟨some 68, .mov, [.tmp 7], some (67, false), [], none⟩ ::
  ⟨some 69, .mov, [.tmp 9], some (67, false), [], none⟩ ::
  ⟨some 70, (.beq true), [.tmp 68, .tmp 69], some (67, false), [], none⟩ ::
  ⟨some 71, .pick, [.tmp 67, .const (.bool true), .tmp 70], none, [], none⟩ ::
  ⟨some 72, .mov, [.tmp 71], none, [], none⟩ ::
  ⟨some 73, (.load (some 10)), [.tmp 10], some (72, false), [], none⟩ ::
  ⟨some 74, (.call 50), [.tmp 73], some (72, false), [], none⟩ ::
  ⟨some 75, (.load (some 10)), [.tmp 12], some (72, false), [74], none⟩ ::
  ⟨some 76, (.eqs true [9, 9, 9, 9, 9, 9, 9, 1, 0, 0]), [.tmp 74, .tmp 75], some (72, false), [], none⟩ ::
  ⟨some 77, .pick, [.tmp 72, .const (.bool true), .tmp 76], none, [], none⟩ ::
  ⟨some 78, .mov, [.tmp 77], none, [], none⟩ ::
  ⟨some 79, .mov, [.tmp 11], some (78, false), [], none⟩ ::
  ⟨some 80, .mov, [.tmp 13], some (78, false), [], none⟩ ::
  ⟨some 81, (.beq true), [.tmp 79, .tmp 80], some (78, false), [], none⟩ ::
  ⟨some 82, .pick, [.tmp 78, .const (.bool true), .tmp 81], none, [], none⟩ ::
  ⟨some 83, .mov, [.tmp 82], none, [], none⟩ ::
  ⟨some 84, .mov, [.tmp 14], some (83, false), [], none⟩ ::
  ⟨some 85, .mov, [.tmp 16], some (83, false), [], none⟩ ::
  ⟨some 86, (.call 51), [.tmp 84, .tmp 85], some (83, false), [], none⟩ ::
  ⟨some 87, .not, [.tmp 86], some (83, false), [], none⟩ ::
  ⟨some 88, .pick, [.tmp 83, .const (.bool true), .tmp 87], none, [], none⟩ ::
  ⟨some 89, .mov, [.tmp 88], none, [], none⟩ ::
  ⟨some 90, .mov, [.tmp 15], some (89, false), [], none⟩ ::
  ⟨some 91, .mov, [.tmp 17], some (89, false), [], none⟩ ::
  ⟨some 92, (.bin .neq), [.tmp 90, .tmp 91], some (89, false), [], none⟩ ::
  ⟨some 93, .pick, [.tmp 89, .const (.bool true), .tmp 92], none, [], none⟩ ::
  ⟨some 94, .mov, [.tmp 93], none, [], none⟩ ::
  ⟨some 95, .mov, [.tmp 18], some (94, false), [], none⟩ ::
  ⟨some 96, .mov, [.tmp 5], some (94, false), [], none⟩ ::
  ⟨some 97, (.call 52), [.tmp 96], some (94, false), [], none⟩ ::
  ⟨some 98, (.call 51), [.tmp 95, .tmp 97], some (94, false), [], none⟩ ::
  ⟨some 99, .not, [.tmp 98], some (94, false), [], none⟩ ::
  ⟨some 100, .pick, [.tmp 94, .const (.bool true), .tmp 99], none, [], none⟩ ::
  ⟨some 101, .mov, [.tmp 100], none, [], none⟩ ::
  ⟨some 102, .mov, [.tmp 0], some (101, false), [], none⟩ ::
  ⟨some 103, (.call 53), [.tmp 102], some (101, false), [], none⟩ ::
  ⟨some 104, .mov, [.tmp 5], some (101, false), [], none⟩ ::
  ⟨some 105, (.call 54), [.tmp 104], some (101, false), [], none⟩ ::
  ⟨some 106, (.beq true), [.tmp 103, .tmp 105], some (101, false), [], none⟩ ::
  ⟨some 107, .pick, [.tmp 101, .const (.bool true), .tmp 106], none, [], none⟩ :: []) true [0, 1, 4, 5, 6, 7, 8, 9, 10, 11, 12, 13, 14, 15, 16, 17, 18, 19, 20, 23, 107, 111, 121])
  (.cond (.tmp 107) (.seq (.reg [
  ⟨some 4, .mov, [.const (.bool false)], none, [], none⟩] false [0, 1, 4, 5, 6, 7, 8, 9, 10, 11, 12, 13, 14, 15, 16, 17, 18, 19, 20, 23, 107, 111, 121])
  (.ret)) (.skip)))
  (.seq (.seq (.reg [
  ⟨some 19, .mov, [.const (.int .i64 0)], none, [], none⟩] false [0, 1, 4, 5, 6, 7, 8, 9, 10, 11, 12, 13, 14, 15, 16, 17, 18, 19, 20, 23, 107, 111, 121])
  (.block 0 (.loop (.seq (.seq (.reg [
   ⟨some 108, .mov, [.tmp 19], none, [], none⟩,
   ⟨some 109, .mov, [.tmp 18], none, [], none⟩,
   ⟨some 110, .len, [.tmp 109], none, [], none⟩,
   ⟨some 111, (.bin .lss), [.tmp 108, .tmp 110], none, [], none⟩] false [0, 1, 4, 5, 6, 7, 8, 9, 10, 11, 12, 13, 14, 15, 16, 17, 18, 19, 20, 23, 107, 111, 121])
   (.cond (.tmp 111) (.skip) (.exit 0)))
   (.seq (.block 1 (.reg [
   ⟨some 114, .mov, [.tmp 18], none, [], none⟩,
   ⟨some 115, .mov, [.tmp 19], none, [], none⟩,
   ⟨some 116, (.bld [(.int .u64 0), (.int .u64 0), (.int .u64 0), (.int .u64 0), (.int .u64 0), (.int .u64 0), (.int .u64 0), (.string ⟨#[]⟩), (.bool false), (.bool false)] []), [], none, [], none⟩,
   ⟨some 117, (.ixa 70 10), [.tmp 114, .tmp 115], none, [], none⟩,
   ⟨none, (.store (some 10)), [.tmp 117, .tmp 116], none, [], none⟩] false [0, 1, 4, 5, 6, 7, 8, 9, 10, 11, 12, 13, 14, 15, 16, 17, 18, 19, 20, 23, 107, 111, 121]))
   (.reg [
   ⟨some 112, .mov, [.tmp 19], none, [], none⟩,
   ⟨some 113, (.bin .add), [.tmp 112, .const (.int .i64 1)], none, [], none⟩,
   ⟨some 19, .mov, [.tmp 113], none, [], none⟩] false [0, 1, 4, 5, 6, 7, 8, 9, 10, 11, 12, 13, 14, 15, 16, 17, 18, 19, 20, 23, 107, 111, 121]))))))
  (.seq (.seq (.reg [
  ⟨some 20, .mov, [.const (.int .i64 0)], none, [], none⟩] false [0, 1, 4, 5, 6, 7, 8, 9, 10, 11, 12, 13, 14, 15, 16, 17, 18, 19, 20, 23, 107, 111, 121])
  (.block 2 (.loop (.seq (.seq (.reg [
   ⟨some 118, .mov, [.tmp 20], none, [], none⟩,
   ⟨some 119, .mov, [.tmp 14], none, [], none⟩,
   ⟨some 120, .len, [.tmp 119], none, [], none⟩,
   ⟨some 121, (.bin .lss), [.tmp 118, .tmp 120], none, [], none⟩] false [0, 1, 4, 5, 6, 7, 8, 9, 10, 11, 12, 13, 14, 15, 16, 17, 18, 19, 20, 23, 107, 111, 121])
   (.cond (.tmp 121) (.skip) (.exit 2)))
   (.seq (.block 3 (.reg [
   ⟨some 124, .mov, [.tmp 14], none, [], none⟩,
   ⟨some 125, .mov, [.tmp 20], none, [], none⟩,
   ⟨some 126, (.bld [(.int .u64 0), (.int .u64 0), (.int .u64 0), (.int .u64 0), (.int .u64 0), (.int .u64 0), (.int .u64 0), (.string ⟨#[]⟩), (.bool false), (.bool false)] []), [], none, [], none⟩,
   ⟨some 127, (.ixa 70 10), [.tmp 124, .tmp 125], none, [], none⟩,
   ⟨none, (.store (some 10)), [.tmp 127, .tmp 126], none, [], none⟩] false [0, 1, 4, 5, 6, 7, 8, 9, 10, 11, 12, 13, 14, 15, 16, 17, 18, 19, 20, 23, 107, 111, 121]))
   (.reg [
   ⟨some 122, .mov, [.tmp 20], none, [], none⟩,
   ⟨some 123, (.bin .add), [.tmp 122, .const (.int .i64 1)], none, [], none⟩,
   ⟨some 20, .mov, [.tmp 123], none, [], none⟩] false [0, 1, 4, 5, 6, 7, 8, 9, 10, 11, 12, 13, 14, 15, 16, 17, 18, 19, 20, 23, 107, 111, 121]))))))
  (.seq (.reg [
  ⟨some 128, .mov, [.tmp 0], none, [], none⟩,
  ⟨some 129, .mov, [.tmp 5], none, [], none⟩,
  ⟨some 130, (.call 51), [.tmp 128, .tmp 129], none, [], none⟩,
  ⟨some 131, .mov, [.tmp 130], none, [], none⟩,
  ⟨some 132, (.call 41), [], some (131, true), [], none⟩,
  ⟨some 133, .pick, [.tmp 131, .tmp 132, .const (.bool false)], none, [], none⟩,
  ⟨some 4, .mov, [.tmp 133], none, [], none⟩] false [0, 1, 4, 5, 6, 7, 8, 9, 10, 11, 12, 13, 14, 15, 16, 17, 18, 19, 20, 23, 107, 111, 121])
  (.ret))))))))))))))
def keep7 : List Nat := [0, 1, 4, 5, 6, 7, 8, 9, 10, 11, 12, 13, 14, 15, 16, 17, 18, 19, 20, 23, 107, 111, 121]
theorem fn7 : compFn Try.prog 7 keep7 = some ⟨134, 2, [(4, none)], body7⟩ := by kernel_rfl

end Go.Proofs.Ytfpmjcdcpicmaaa.Ab
