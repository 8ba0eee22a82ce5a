/- The code of the functions, in the abstract machine's form (printed by wip/mk.py). -/
import Derived.Test.YtfpmjcdcpicmaaaAb21
import Derived.Test.YtfpmjcdcpicmaaaChecked
namespace Go.Proofs.Ytfpmjcdcpicmaaa.Ab
open Go Go.RowKit
set_option maxRecDepth 100000

/- chartroom/chartroomlaw15.VersionKeeps -/
def body8 : AC :=
  .seq (.reg [
  ⟨some 6, .mov, [.const (.bool false)], none, [], none⟩] false [0, 1, 2, 6, 7, 8, 9, 10, 11, 12, 13, 14, 16, 18, 20, 21, 22, 23, 24, 25, 26, 44, 73, 91, 95, 132, 134, 176, 180, 217])
  (.seq (.seq (.reg [
  ⟨some 27, .mov, [.tmp 0], none, [], none⟩,
  ⟨some 28, (.call 40), [.tmp 27], none, [], none⟩,
  ⟨some 29, .not, [.tmp 28], none, [], none⟩,
  ⟨some 30, .mov, [.tmp 29], none, [], none⟩,
  ⟨some 31, .mov, [.tmp 1], some (30, false), [], none⟩,
  ⟨some 32, .len, [.tmp 31], some (30, false), [], none⟩,
  ⟨some 33, (.bin .gtr), [.tmp 32, .const (.int .i64 20)], some (30, false), [], none⟩,
  ⟨some 34, .pick, [.tmp 30, .const (.bool true), .tmp 33], none, [], none⟩,
  ⟨some 35, .mov, [.tmp 34], none, [], none⟩,
  ⟨some 36, .mov, [.tmp 2], some (35, false), [], none⟩,
  ⟨some 37, .len, [.tmp 36], some (35, false), [], none⟩,
  ⟨some 38, (.bin .gtr), [.tmp 37, .const (.int .i64 20)], some (35, false), [], none⟩,
  ⟨some 39, .pick, [.tmp 35, .const (.bool true), .tmp 38], none, [], none⟩,
  ⟨some 40, .mov, [.tmp 39], none, [], none⟩,
  ⟨some 41, .mov, [.tmp 0], some (40, false), [], none⟩,
  ⟨some 42, (.call 53), [.tmp 41], some (40, false), [], none⟩,
  ⟨some 43, .not, [.tmp 42], some (40, false), [], none⟩,
  ⟨some 44, .pick, [.tmp 40, .const (.bool true), .tmp 43], none, [], none⟩] false [0, 1, 2, 6, 7, 8, 9, 10, 11, 12, 13, 14, 16, 18, 20, 21, 22, 23, 24, 25, 26, 44, 73, 91, 95, 132, 134, 176, 180, 217])
  (.cond (.tmp 44) (.seq (.reg [
  ⟨some 45, (.call 41), [], none, [], none⟩,
  ⟨some 6, .mov, [.tmp 45], none, [], none⟩] false [0, 1, 2, 6, 7, 8, 9, 10, 11, 12, 13, 14, 16, 18, 20, 21, 22, 23, 24, 25, 26, 44, 73, 91, 95, 132, 134, 176, 180, 217])
  (.ret)) (.skip)))
  (.seq (.reg [
  ⟨some 46, .mov, [.tmp 0], none, [], none⟩,
  ⟨some 47, .mov, [.tmp 1], none, [], none⟩,
  ⟨some 48, (.call 55), [.tmp 46, .tmp 47], none, [], none⟩,
  ⟨some 7, .mov, [.tmp 48], none, [], none⟩] false [0, 1, 2, 6, 7, 8, 9, 10, 11, 12, 13, 14, 16, 18, 20, 21, 22, 23, 24, 25, 26, 44, 73, 91, 95, 132, 134, 176, 180, 217])
  (.seq (.reg [
  ⟨some 49, .mov, [.tmp 7], none, [], none⟩,
  ⟨some 50, .mov, [.tmp 2], none, [], none⟩,
  ⟨some 51, (.call 55), [.tmp 49, .tmp 50], none, [], none⟩,
  ⟨some 8, .mov, [.tmp 51], none, [], none⟩] false [0, 1, 2, 6, 7, 8, 9, 10, 11, 12, 13, 14, 16, 18, 20, 21, 22, 23, 24, 25, 26, 44, 73, 91, 95, 132, 134, 176, 180, 217])
  (.seq (.seq (.reg [
  ⟨some 52, .mov, [.tmp 7], none, [], none⟩,
  ⟨some 53, (.call 53), [.tmp 52], none, [], none⟩,
  ⟨some 54, .not, [.tmp 53], none, [], none⟩,
  ⟨some 55, .mov, [.tmp 54], none, [], none⟩,
  ⟨some 56, .mov, [.tmp 8], some (55, false), [], none⟩,
  ⟨some 57, (.call 53), [.tmp 56], some (55, false), [], none⟩,
  ⟨some 58, .not, [.tmp 57], some (55, false), [], none⟩,
  ⟨some 59, .pick, [.tmp 55, .const (.bool true), .tmp 58], none, [], none⟩,
  ⟨some 60, .mov, [.tmp 59], none, [], none⟩,
  ⟨some 61, .mov, [.tmp 8], some (60, false), [], none⟩,
  ⟨some 62, .len, [.tmp 61], some (60, false), [], none⟩,
  ⟨some 63, .mov, [.tmp 7], some (60, false), [], none⟩,
  ⟨some 64, .len, [.tmp 63], some (60, false), [], none⟩,
  ⟨some 65, (.bin .gtr), [.tmp 62, .tmp 64], some (60, false), [], none⟩,
  ⟨some 66, .pick, [.tmp 60, .const (.bool true), .tmp 65], none, [], none⟩,
  ⟨some 67, .mov, [.tmp 66], none, [], none⟩,
  ⟨some 68, .mov, [.tmp 7], some (67, false), [], none⟩,
  ⟨some 69, .len, [.tmp 68], some (67, false), [], none⟩,
  ⟨some 70, .mov, [.tmp 0], some (67, false), [], none⟩,
  ⟨some 71, .len, [.tmp 70], some (67, false), [], none⟩,
  ⟨some 72, (.bin .gtr), [.tmp 69, .tmp 71], some (67, false), [], none⟩,
  ⟨some 73, .pick, [.tmp 67, .const (.bool true), .tmp 72], none, [], none⟩] false [0, 1, 2, 6, 7, 8, 9, 10, 11, 12, 13, 14, 16, 18, 20, 21, 22, 23, 24, 25, 26, 44, 73, 91, 95, 132, 134, 176, 180, 217])
  (.cond (.tmp 73) (.seq (.reg [
  ⟨some 6, .mov, [.const (.bool false)], none, [], none⟩] false [0, 1, 2, 6, 7, 8, 9, 10, 11, 12, 13, 14, 16, 18, 20, 21, 22, 23, 24, 25, 26, 44, 73, 91, 95, 132, 134, 176, 180, 217])
  (.ret)) (.skip)))
  (.seq (.reg [
  ⟨some 75, .mov, [.tmp 0], none, [], none⟩,
  ⟨some 76, (.call 45), [.tmp 75], none, [], none⟩,
  ⟨some 74, .mov, [.tmp 76], none, [], none⟩,
  ⟨some 77, (.ext 0), [.tmp 74], none, [], none⟩,
  ⟨some 78, (.ext 1), [.tmp 74], none, [], none⟩,
  ⟨some 9, (.alloc [(.int .u64 0), (.int .u64 0), (.int .u64 0), (.int .u64 0), (.int .u64 0), (.int .u64 0), (.int .u64 0), (.string ⟨#[]⟩), (.bool false), (.bool false)]), [], none, [], none⟩,
  ⟨none, (.store (some 10)), [.tmp 9, .tmp 77], none, [], none⟩,
  ⟨some 10, .mov, [.tmp 78], none, [], none⟩] false [0, 1, 2, 6, 7, 8, 9, 10, 11, 12, 13, 14, 16, 18, 20, 21, 22, 23, 24, 25, 26, 44, 73, 91, 95, 132, 134, 176, 180, 217])
  (.seq (.reg [
  ⟨some 80, .mov, [.tmp 7], none, [], none⟩,
  ⟨some 81, (.call 45), [.tmp 80], none, [], none⟩,
  ⟨some 79, .mov, [.tmp 81], none, [], none⟩,
  ⟨some 82, (.ext 0), [.tmp 79], none, [], none⟩,
  ⟨some 83, (.ext 1), [.tmp 79], none, [], none⟩,
  ⟨some 11, (.alloc [(.int .u64 0), (.int .u64 0), (.int .u64 0), (.int .u64 0), (.int .u64 0), (.int .u64 0), (.int .u64 0), (.string ⟨#[]⟩), (.bool false), (.bool false)]), [], none, [], none⟩,
  ⟨none, (.store (some 10)), [.tmp 11, .tmp 82], none, [], none⟩,
  ⟨some 12, .mov, [.tmp 83], none, [], none⟩] false [0, 1, 2, 6, 7, 8, 9, 10, 11, 12, 13, 14, 16, 18, 20, 21, 22, 23, 24, 25, 26, 44, 73, 91, 95, 132, 134, 176, 180, 217])
  (.seq (.seq (.reg [
  ⟨some 84, .mov, [.tmp 10], none, [], none⟩,
  ⟨some 85, .mov, [.tmp 12], none, [], none⟩,
  ⟨some 86, (.beq true), [.tmp 84, .tmp 85], none, [], none⟩,
  ⟨some 87, .mov, [.tmp 86], none, [], none⟩,
  ⟨some 88, (.load (some 10)), [.tmp 9], some (87, false), [], none⟩,
  ⟨some 89, (.load (some 10)), [.tmp 11], some (87, false), [], none⟩,
  ⟨some 90, (.eqs true [9, 9, 9, 9, 9, 9, 9, 1, 0, 0]), [.tmp 88, .tmp 89], some (87, false), [], none⟩,
  ⟨some 91, .pick, [.tmp 87, .const (.bool true), .tmp 90], none, [], none⟩] false [0, 1, 2, 6, 7, 8, 9, 10, 11, 12, 13, 14, 16, 18, 20, 21, 22, 23, 24, 25, 26, 44, 73, 91, 95, 132, 134, 176, 180, 217])
  (.cond (.tmp 91) (.seq (.reg [
  ⟨some 6, .mov, [.const (.bool false)], none, [], none⟩] false [0, 1, 2, 6, 7, 8, 9, 10, 11, 12, 13, 14, 16, 18, 20, 21, 22, 23, 24, 25, 26, 44, 73, 91, 95, 132, 134, 176, 180, 217])
  (.ret)) (.skip)))
  (.seq (.seq (.reg [
  ⟨some 13, .mov, [.const (.int .i64 0)], none, [], none⟩] false [0, 1, 2, 6, 7, 8, 9, 10, 11, 12, 13, 14, 16, 18, 20, 21, 22, 23, 24, 25, 26, 44, 73, 91, 95, 132, 134, 176, 180, 217])
  (.block 0 (.loop (.seq (.seq (.reg [
   ⟨some 92, .mov, [.tmp 13], none, [], none⟩,
   ⟨some 93, .mov, [.tmp 0], none, [], none⟩,
   ⟨some 94, .len, [.tmp 93], none, [], none⟩,
   ⟨some 95, (.bin .lss), [.tmp 92, .tmp 94], none, [], none⟩] false [0, 1, 2, 6, 7, 8, 9, 10, 11, 12, 13, 14, 16, 18, 20, 21, 22, 23, 24, 25, 26, 44, 73, 91, 95, 132, 134, 176, 180, 217])
   (.cond (.tmp 95) (.skip) (.exit 0)))
   (.seq (.block 1 (.seq (.reg [
   ⟨some 98, .mov, [.tmp 0], none, [], none⟩,
   ⟨some 99, .mov, [.tmp 13], none, [], none⟩,
   ⟨some 100, (.ixa 70 10), [.tmp 98, .tmp 99], none, [], none⟩,
   ⟨some 101, (.fad 0), [.tmp 100], none, [], none⟩,
   ⟨some 102, (.load none), [.tmp 101], none, [], none⟩,
   ⟨some 14, .mov, [.tmp 102], none, [], none⟩] false [0, 1, 2, 6, 7, 8, 9, 10, 11, 12, 13, 14, 16, 18, 20, 21, 22, 23, 24, 25, 26, 44, 73, 91, 95, 132, 134, 176, 180, 217])
   (.seq (.reg [
   ⟨some 104, .mov, [.tmp 0], none, [], none⟩,
   ⟨some 105, .mov, [.tmp 14], none, [], none⟩,
   ⟨some 106, (.call 43), [.tmp 104, .tmp 105], none, [], none⟩,
   ⟨some 103, .mov, [.tmp 106], none, [], none⟩,
   ⟨some 107, (.ext 0), [.tmp 103], none, [], none⟩,
   ⟨some 108, (.ext 1), [.tmp 103], none, [], none⟩,
   ⟨some 15, (.alloc [(.int .u64 0), (.int .u64 0), (.int .u64 0), (.int .u64 0), (.int .u64 0), (.int .u64 0), (.int .u64 0), (.string ⟨#[]⟩), (.bool false), (.bool false)]), [], none, [], none⟩,
   ⟨none, (.store (some 10)), [.tmp 15, .tmp 107], none, [], none⟩,
   ⟨some 16, .mov, [.tmp 108], none, [], none⟩] false [0, 1, 2, 6, 7, 8, 9, 10, 11, 12, 13, 14, 16, 18, 20, 21, 22, 23, 24, 25, 26, 44, 73, 91, 95, 132, 134, 176, 180, 217])
   (.seq (.reg [
   ⟨some 110, .mov, [.tmp 7], none, [], none⟩,
   ⟨some 111, .mov, [.tmp 14], none, [], none⟩,
   ⟨some 112, (.call 43), [.tmp 110, .tmp 111], none, [], none⟩,
   ⟨some 109, .mov, [.tmp 112], none, [], none⟩,
   ⟨some 113, (.ext 0), [.tmp 109], none, [], none⟩,
   ⟨some 114, (.ext 1), [.tmp 109], none, [], none⟩,
   ⟨some 17, (.alloc [(.int .u64 0), (.int .u64 0), (.int .u64 0), (.int .u64 0), (.int .u64 0), (.int .u64 0), (.int .u64 0), (.string ⟨#[]⟩), (.bool false), (.bool false)]), [], none, [], none⟩,
   ⟨none, (.store (some 10)), [.tmp 17, .tmp 113], none, [], none⟩,
   ⟨some 18, .mov, [.tmp 114], none, [], none⟩] false [0, 1, 2, 6, 7, 8, 9, 10, 11, 12, 13, 14, 16, 18, 20, 21, 22, 23, 24, 25, 26, 44, 73, 91, 95, 132, 134, 176, 180, 217])
   (.seq (.reg [
   ⟨some 116, .mov, [.tmp 8], none, [], none⟩,
   ⟨some 117, .mov, [.tmp 14], none, [], none⟩,
   ⟨some 118, (.call 43), [.tmp 116, .tmp 117], none, [], none⟩,
   ⟨some 115, .mov, [.tmp 118], none, [], none⟩,
   ⟨some 119, (.ext 0), [.tmp 115], none, [], none⟩,
   ⟨some 120, (.ext 1), [.tmp 115], none, [], none⟩,
   ⟨some 19, (.alloc [(.int .u64 0), (.int .u64 0), (.int .u64 0), (.int .u64 0), (.int .u64 0), (.int .u64 0), (.int .u64 0), (.string ⟨#[]⟩), (.bool false), (.bool false)]), [], none, [], none⟩,
   ⟨none, (.store (some 10)), [.tmp 19, .tmp 119], none, [], none⟩,
   ⟨some 20, .mov, [.tmp 120], none, [], none⟩] false [0, 1, 2, 6, 7, 8, 9, 10, 11, 12, 13, 14, 16, 18, 20, 21, 22, 23, 24, 25, 26, 44, 73, 91, 95, 132, 134, 176, 180, 217])
   (.seq (.seq (.reg [
   ⟨some 121, .mov, [.tmp 16], none, [], none⟩,
   ⟨some 122, .not, [.tmp 121], none, [], none⟩,
   ⟨some 123, .mov, [.tmp 122], none, [], none⟩,
   ⟨some 124, .mov, [.tmp 18], some (123, true), [], none⟩,
   ⟨some 125, .pick, [.tmp 123, .tmp 124, .const (.bool false)], none, [], none⟩,
   ⟨some 126, .mov, [.tmp 125], none, [], none⟩,
   ⟨some 127, .mov, [.tmp 18], some (126, false), [], none⟩,
   ⟨some 128, .not, [.tmp 127], some (126, false), [], none⟩,
   ⟨some 129, .mov, [.tmp 128], some (126, false), [], none⟩,
   ⟨some 130, .mov, [.tmp 20], some (129, true), [], none⟩,
   ⟨some 131, .pick, [.tmp 129, .tmp 130, .const (.bool false)], some (126, false), [], none⟩,
   ⟨some 132, .pick, [.tmp 126, .const (.bool true), .tmp 131], none, [], none⟩] false [0, 1, 2, 6, 7, 8, 9, 10, 11, 12, 13, 14, 16, 18, 20, 21, 22, 23, 24, 25, 26, 44, 73, 91, 95, 132, 134, 176, 180, 217])
   (.cond (.tmp 132) (.seq (.reg [
   ⟨some 6, .mov, [.const (.bool false)], none, [], none⟩] false [0, 1, 2, 6, 7, 8, 9, 10, 11, 12, 13, 14, 16, 18, 20, 21, 22, 23, 24, 25, 26, 44, 73, 91, 95, 132, 134, 176, 180, 217])
   (.ret)) (.skip)))
   (.seq (.seq (.reg [
   ⟨some 133, .mov, [.tmp 18], none, [], none⟩,
   ⟨some 134, .not, [.tmp 133], none, [], none⟩] false [0, 1, 2, 6, 7, 8, 9, 10, 11, 12, 13, 14, 16, 18, 20, 21, 22, 23, 24, 25, 26, 44, 73, 91, 95, 132, 134, 176, 180, 217])
   (.cond (.tmp 134) (.exit 1) (.skip)))
   (.seq (.reg [
   ⟨some 136, .mov, [.tmp 0], none, [], none⟩,
   ⟨some 137, .mov, [.tmp 14], none, [], none⟩,
   ⟨some 138, (.call 47), [.tmp 136, .tmp 137], none, [], none⟩,
   ⟨some 135, .mov, [.tmp 138], none, [], none⟩,
   ⟨some 139, (.ext 0), [.tmp 135], none, [], none⟩,
   ⟨some 140, (.ext 1), [.tmp 135], none, [], none⟩,
   ⟨some 21, .mov, [.tmp 139], none, [], none⟩,
   ⟨some 22, .mov, [.tmp 140], none, [], none⟩] false [0, 1, 2, 6, 7, 8, 9, 10, 11, 12, 13, 14, 16, 18, 20, 21, 22, 23, 24, 25, 26, 44, 73, 91, 95, 132, 134, 176, 180, 217])
   (.seq (.reg [
   ⟨some 142, .mov, [.tmp 7], none, [], none⟩,
   ⟨some 143, .mov, [.tmp 14], none, [], none⟩,
   ⟨some 144, (.call 47), [.tmp 142, .tmp 143], none, [], none⟩,
   ⟨some 141, .mov, [.tmp 144], none, [], none⟩,
   ⟨some 145, (.ext 0), [.tmp 141], none, [], none⟩,
   ⟨some 146, (.ext 1), [.tmp 141], none, [], none⟩,
   ⟨some 23, .mov, [.tmp 145], none, [], none⟩,
   ⟨some 24, .mov, [.tmp 146], none, [], none⟩] false [0, 1, 2, 6, 7, 8, 9, 10, 11, 12, 13, 14, 16, 18, 20, 21, 22, 23, 24, 25, 26, 44, 73, 91, 95, 132, 134, 176, 180, 217])
   (.seq (.seq (.reg [
   ⟨some 147, .mov, [.tmp 22], none, [], none⟩,
   ⟨some 148, (.bin .neq), [.tmp 147, .const (.int .i64 0)], none, [], none⟩,
   ⟨some 149, .mov, [.tmp 148], none, [], none⟩,
   ⟨some 150, .mov, [.tmp 24], some (149, false), [], none⟩,
   ⟨some 151, (.bin .neq), [.tmp 150, .const (.int .i64 0)], some (149, false), [], none⟩,
   ⟨some 152, .pick, [.tmp 149, .const (.bool true), .tmp 151], none, [], none⟩,
   ⟨some 153, .mov, [.tmp 152], none, [], none⟩,
   ⟨some 154, .mov, [.tmp 21], some (153, false), [], none⟩,
   ⟨some 155, (.call 57), [.tmp 154], some (153, false), [], none⟩,
   ⟨some 156, .mov, [.tmp 23], some (153, false), [], none⟩,
   ⟨some 157, (.call 57), [.tmp 156], some (153, false), [], none⟩,
   ⟨some 158, (.call 56), [.tmp 155, .tmp 157], some (153, false), [], none⟩,
   ⟨some 159, .not, [.tmp 158], some (153, false), [], none⟩,
   ⟨some 160, .pick, [.tmp 153, .const (.bool true), .tmp 159], none, [], none⟩,
   ⟨some 161, .mov, [.tmp 160], none, [], none⟩,
   ⟨some 162, .mov, [.tmp 21], some (161, false), [], none⟩,
   ⟨some 163, .len, [.tmp 162], some (161, false), [], none⟩,
   ⟨some 164, (.bin .eql), [.tmp 163, .const (.int .i64 0)], some (161, false), [], none⟩,
   ⟨some 165, .pick, [.tmp 161, .const (.bool true), .tmp 164], none, [], none⟩,
   ⟨some 166, .mov, [.tmp 165], none, [], none⟩,
   ⟨some 167, .mov, [.tmp 21], some (166, false), [], none⟩,
   ⟨some 168, .mov, [.tmp 21], some (166, false), [], none⟩,
   ⟨some 169, .len, [.tmp 168], some (166, false), [], none⟩,
   ⟨some 170, (.bin .sub), [.tmp 169, .const (.int .i64 1)], some (166, false), [], none⟩,
   ⟨some 171, (.ixa 70 10), [.tmp 167, .tmp 170], some (166, false), [], none⟩,
   ⟨some 172, (.fad 0), [.tmp 171], some (166, false), [], none⟩,
   ⟨some 173, (.load none), [.tmp 172], some (166, false), [], none⟩,
   ⟨some 174, .mov, [.tmp 14], some (166, false), [], none⟩,
   ⟨some 175, (.bin .neq), [.tmp 173, .tmp 174], some (166, false), [], none⟩,
   ⟨some 176, .pick, [.tmp 166, .const (.bool true), .tmp 175], none, [], none⟩] false [0, 1, 2, 6, 7, 8, 9, 10, 11, 12, 13, 14, 16, 18, 20, 21, 22, 23, 24, 25, 26, 44, 73, 91, 95, 132, 134, 176, 180, 217])
   (.cond (.tmp 176) (.seq (.reg [
   ⟨some 6, .mov, [.const (.bool false)], none, [], none⟩] false [0, 1, 2, 6, 7, 8, 9, 10, 11, 12, 13, 14, 16, 18, 20, 21, 22, 23, 24, 25, 26, 44, 73, 91, 95, 132, 134, 176, 180, 217])
   (.ret)) (.skip)))
   (.seq (.reg [
   ⟨some 25, .mov, [.const (.int .i64 0)], none, [], none⟩] false [0, 1, 2, 6, 7, 8, 9, 10, 11, 12, 13, 14, 16, 18, 20, 21, 22, 23, 24, 25, 26, 44, 73, 91, 95, 132, 134, 176, 180, 217])
   (.block 2 (.loop (.seq (.seq (.reg [
    ⟨some 177, .mov, [.tmp 25], none, [], none⟩,
    ⟨some 178, .mov, [.tmp 21], none, [], none⟩,
    ⟨some 179, .len, [.tmp 178], none, [], none⟩,
    ⟨some 180, (.bin .lss), [.tmp 177, .tmp 179], none, [], none⟩] false [0, 1, 2, 6, 7, 8, 9, 10, 11, 12, 13, 14, 16, 18, 20, 21, 22, 23, 24, 25, 26, 44, 73, 91, 95, 132, 134, 176, 180, 217])
    (.cond (.tmp 180) (.skip) (.exit 2)))
    (.seq (.block 3 (.seq (.reg [
    ⟨some 183, .mov, [.tmp 21], none, [], none⟩,
    ⟨some 184, .mov, [.tmp 25], none, [], none⟩,
    ⟨some 185, (.ixa 70 10), [.tmp 183, .tmp 184], none, [], none⟩,
    ⟨some 186, (.fad 8), [.tmp 185], none, [], none⟩,
    ⟨some 187, (.load none), [.tmp 186], none, [], none⟩,
    ⟨some 188, .mov, [.tmp 187], none, [], none⟩,
    ⟨some 189, .mov, [.tmp 21], some (188, false), [], none⟩,
    ⟨some 190, .mov, [.tmp 25], some (188, false), [], none⟩,
    ⟨some 191, (.ixa 70 10), [.tmp 189, .tmp 190], some (188, false), [], none⟩,
    ⟨some 192, (.fad 1), [.tmp 191], some (188, false), [], none⟩,
    ⟨some 193, (.load none), [.tmp 192], some (188, false), [], none⟩,
    ⟨some 194, (.bin .eql), [.tmp 193, .const (.int .u64 0)], some (188, false), [], none⟩,
    ⟨some 195, .pick, [.tmp 188, .const (.bool true), .tmp 194], none, [], none⟩,
    ⟨some 26, .mov, [.tmp 195], none, [], none⟩] false [0, 1, 2, 6, 7, 8, 9, 10, 11, 12, 13, 14, 16, 18, 20, 21, 22, 23, 24, 25, 26, 44, 73, 91, 95, 132, 134, 176, 180, 217])
    (.seq (.reg [
    ⟨some 196, .mov, [.tmp 25], none, [], none⟩,
    ⟨some 197, (.bin .eql), [.tmp 196, .const (.int .i64 0)], none, [], none⟩,
    ⟨some 198, .mov, [.tmp 26], none, [], none⟩,
    ⟨some 199, (.beq true), [.tmp 197, .tmp 198], none, [], none⟩,
    ⟨some 200, .mov, [.tmp 199], none, [], none⟩,
    ⟨some 201, .mov, [.tmp 25], some (200, false), [], none⟩,
    ⟨some 202, (.bin .gtr), [.tmp 201, .const (.int .i64 0)], some (200, false), [], none⟩,
    ⟨some 203, .mov, [.tmp 202], some (200, false), [], none⟩,
    ⟨some 204, .mov, [.tmp 21], some (203, true), [], none⟩,
    ⟨some 205, .mov, [.tmp 25], some (203, true), [], none⟩,
    ⟨some 206, (.ixa 70 10), [.tmp 204, .tmp 205], some (203, true), [], none⟩,
    ⟨some 207, (.fad 1), [.tmp 206], some (203, true), [], none⟩,
    ⟨some 208, (.load none), [.tmp 207], some (203, true), [], none⟩,
    ⟨some 209, .mov, [.tmp 21], some (203, true), [], none⟩,
    ⟨some 210, .mov, [.tmp 25], some (203, true), [], none⟩,
    ⟨some 211, (.bin .sub), [.tmp 210, .const (.int .i64 1)], some (203, true), [], none⟩,
    ⟨some 212, (.ixa 70 10), [.tmp 209, .tmp 211], some (203, true), [], none⟩,
    ⟨some 213, (.fad 0), [.tmp 212], some (203, true), [], none⟩,
    ⟨some 214, (.load none), [.tmp 213], some (203, true), [], none⟩,
    ⟨some 215, (.bin .neq), [.tmp 208, .tmp 214], some (203, true), [], none⟩,
    ⟨some 216, .pick, [.tmp 203, .tmp 215, .const (.bool false)], some (200, false), [], none⟩,
    ⟨some 217, .pick, [.tmp 200, .const (.bool true), .tmp 216], none, [], none⟩] true [0, 1, 2, 6, 7, 8, 9, 10, 11, 12, 13, 14, 16, 18, 20, 21, 22, 23, 24, 25, 26, 44, 73, 91, 95, 132, 134, 176, 180, 217])
    (.cond (.tmp 217) (.seq (.reg [
    ⟨some 6, .mov, [.const (.bool false)], none, [], none⟩] false [0, 1, 2, 6, 7, 8, 9, 10, 11, 12, 13, 14, 16, 18, 20, 21, 22, 23, 24, 25, 26, 44, 73, 91, 95, 132, 134, 176, 180, 217])
    (.ret)) (.skip)))))
    (.reg [
    ⟨some 181, .mov, [.tmp 25], none, [], none⟩,
    ⟨some 182, (.bin .add), [.tmp 181, .const (.int .i64 1)], none, [], none⟩,
    ⟨some 25, .mov, [.tmp 182], none, [], none⟩] false [0, 1, 2, 6, 7, 8, 9, 10, 11, 12, 13, 14, 16, 18, 20, 21, 22, 23, 24, 25, 26, 44, 73, 91, 95, 132, 134, 176, 180, 217]))))))))))))))))
   (.reg [
   ⟨some 96, .mov, [.tmp 13], none, [], none⟩,
   ⟨some 97, (.bin .add), [.tmp 96, .const (.int .i64 1)], none, [], none⟩,
   ⟨some 13, .mov, [.tmp 97], none, [], none⟩] false [0, 1, 2, 6, 7, 8, 9, 10, 11, 12, 13, 14, 16, 18, 20, 21, 22, 23, 24, 25, 26, 44, 73, 91, 95, 132, 134, 176, 180, 217]))))))
  (.seq (.reg [
  ⟨some 218, (.call 41), [], none, [], none⟩,
  ⟨some 6, .mov, [.tmp 218], none, [], none⟩] false [0, 1, 2, 6, 7, 8, 9, 10, 11, 12, 13, 14, 16, 18, 20, 21, 22, 23, 24, 25, 26, 44, 73, 91, 95, 132, 134, 176, 180, 217])
  (.ret))))))))))
def keep8 : List Nat := [0, 1, 2, 6, 7, 8, 9, 10, 11, 12, 13, 14, 16, 18, 20, 21, 22, 23, 24, 25, 26, 44, 73, 91, 95, 132, 134, 176, 180, 217]
theorem fn8 : compFn Try.prog 8 keep8 = some ⟨219, 3, [(6, none)], body8⟩ := by kernel_rfl

end Go.Proofs.Ytfpmjcdcpicmaaa.Ab
