/- The code of the functions, in the abstract machine's form (printed by wip/mk.py). -/
import Derived.Test.YtfpmjcdcpicmaaaAb21
import Derived.Test.YtfpmjcdcpicmaaaChecked
namespace Go.Proofs.Ytfpmjcdcpicmaaa.Ab
open Go Go.RowKit
set_option maxRecDepth 100000

/- chartroom/chartroomlaw17.CatalogDoes -/
def body3 : AC :=
  .seq (.reg [
  ⟨some 8, .mov, [.const (.bool false)], none, [], none⟩] false [0, 1, 2, 3, 8, 9, 10, 11, 12, 13, 14, 15, 16, 17, 18, 19, 20, 21, 22, 23, 24, 25, 26, 27, 28, 41, 152, 163, 171, 180])
  (.seq (.seq (.reg [
  ⟨some 29, .mov, [.tmp 0], none, [], none⟩,
  ⟨some 30, (.call 16), [.tmp 29], none, [], none⟩,
  ⟨some 31, .not, [.tmp 30], none, [], none⟩,
  ⟨some 32, .mov, [.tmp 31], none, [], none⟩,
  ⟨some 33, .mov, [.tmp 1], some (32, false), [], none⟩,
  ⟨some 34, .slen, [.tmp 33], some (32, false), [], none⟩,
  ⟨some 35, (.bin .gtr), [.tmp 34, .const (.int .i64 100)], some (32, false), [], none⟩,
  ⟨some 36, .pick, [.tmp 32, .const (.bool true), .tmp 35], none, [], none⟩,
  ⟨some 37, .mov, [.tmp 36], none, [], none⟩,
  ⟨some 38, .mov, [.tmp 2], some (37, false), [], none⟩,
  ⟨some 39, .slen, [.tmp 38], some (37, false), [], none⟩,
  ⟨some 40, (.bin .gtr), [.tmp 39, .const (.int .i64 100)], some (37, false), [], none⟩,
  ⟨some 41, .pick, [.tmp 37, .const (.bool true), .tmp 40], none, [], none⟩] false [0, 1, 2, 3, 8, 9, 10, 11, 12, 13, 14, 15, 16, 17, 18, 19, 20, 21, 22, 23, 24, 25, 26, 27, 28, 41, 152, 163, 171, 180])
  (.cond (.tmp 41) (.seq (.reg [
  ⟨some 42, (.call 17), [], none, [], none⟩,
  ⟨some 8, .mov, [.tmp 42], none, [], none⟩] false [0, 1, 2, 3, 8, 9, 10, 11, 12, 13, 14, 15, 16, 17, 18, 19, 20, 21, 22, 23, 24, 25, 26, 27, 28, 41, 152, 163, 171, 180])
  (.ret)) (.skip)))
  (.seq (.reg [
  ⟨some 43, .mov, [.tmp 0], none, [], none⟩,
  ⟨some 44, (.call 18), [.tmp 43], none, [], none⟩,
  ⟨some 9, .mov, [.tmp 44], none, [], none⟩] false [0, 1, 2, 3, 8, 9, 10, 11, 12, 13, 14, 15, 16, 17, 18, 19, 20, 21, 22, 23, 24, 25, 26, 27, 28, 41, 152, 163, 171, 180])
  (.seq (.reg [
  ⟨some 46, .mov, [.tmp 0], none, [], none⟩,
  ⟨some 47, .mov, [.tmp 1], none, [], none⟩,
  ⟨some 48, (.call 19), [.tmp 46, .tmp 47], none, [], none⟩,
  ⟨some 45, .mov, [.tmp 48], none, [], none⟩,
  ⟨some 49, (.ext 0), [.tmp 45], none, [], none⟩,
  ⟨some 50, (.ext 1), [.tmp 45], none, [], none⟩,
  ⟨some 10, .mov, [.tmp 49], none, [], none⟩,
  ⟨some 11, .mov, [.tmp 50], none, [], none⟩] false [0, 1, 2, 3, 8, 9, 10, 11, 12, 13, 14, 15, 16, 17, 18, 19, 20, 21, 22, 23, 24, 25, 26, 27, 28, 41, 152, 163, 171, 180])
  (.seq (.reg [
  ⟨some 52, .mov, [.tmp 9], none, [], none⟩,
  ⟨some 53, .mov, [.tmp 1], none, [], none⟩,
  ⟨some 54, (.call 20), [.tmp 52, .tmp 53], none, [], none⟩,
  ⟨some 51, .mov, [.tmp 54], none, [], none⟩,
  ⟨some 55, (.ext 0), [.tmp 51], none, [], none⟩,
  ⟨some 56, (.ext 1), [.tmp 51], none, [], none⟩,
  ⟨some 12, .mov, [.tmp 55], none, [], none⟩,
  ⟨some 13, .mov, [.tmp 56], none, [], none⟩] false [0, 1, 2, 3, 8, 9, 10, 11, 12, 13, 14, 15, 16, 17, 18, 19, 20, 21, 22, 23, 24, 25, 26, 27, 28, 41, 152, 163, 171, 180])
  (.seq (.reg [
  ⟨some 58, .mov, [.tmp 0], none, [], none⟩,
  ⟨some 59, .mov, [.tmp 1], none, [], none⟩,
  ⟨some 60, .mov, [.tmp 3], none, [], none⟩,
  ⟨some 61, (.call 21), [.tmp 58, .tmp 59, .tmp 60], none, [], none⟩,
  ⟨some 57, .mov, [.tmp 61], none, [], none⟩,
  ⟨some 62, (.ext 0), [.tmp 57], none, [], none⟩,
  ⟨some 63, (.ext 1), [.tmp 57], none, [], none⟩,
  ⟨some 14, .mov, [.tmp 62], none, [], none⟩,
  ⟨some 15, .mov, [.tmp 63], none, [], none⟩] false [0, 1, 2, 3, 8, 9, 10, 11, 12, 13, 14, 15, 16, 17, 18, 19, 20, 21, 22, 23, 24, 25, 26, 27, 28, 41, 152, 163, 171, 180])
  (.seq (.reg [
  ⟨some 65, .mov, [.tmp 9], none, [], none⟩,
  ⟨some 66, .mov, [.tmp 1], none, [], none⟩,
  ⟨some 67, .mov, [.tmp 3], none, [], none⟩,
  ⟨some 68, (.call 22), [.tmp 65, .tmp 66, .tmp 67], none, [], none⟩,
  ⟨some 64, .mov, [.tmp 68], none, [], none⟩,
  ⟨some 69, (.ext 0), [.tmp 64], none, [], none⟩,
  ⟨some 70, (.ext 1), [.tmp 64], none, [], none⟩,
  ⟨some 16, .mov, [.tmp 69], none, [], none⟩,
  ⟨some 17, .mov, [.tmp 70], none, [], none⟩] false [0, 1, 2, 3, 8, 9, 10, 11, 12, 13, 14, 15, 16, 17, 18, 19, 20, 21, 22, 23, 24, 25, 26, 27, 28, 41, 152, 163, 171, 180])
  (.seq (.reg [
  ⟨some 72, .mov, [.tmp 0], none, [], none⟩,
  ⟨some 73, .mov, [.tmp 1], none, [], none⟩,
  ⟨some 74, (.call 23), [.tmp 72, .tmp 73], none, [], none⟩,
  ⟨some 71, .mov, [.tmp 74], none, [], none⟩,
  ⟨some 75, (.ext 0), [.tmp 71], none, [], none⟩,
  ⟨some 76, (.ext 1), [.tmp 71], none, [], none⟩,
  ⟨some 18, .mov, [.tmp 75], none, [], none⟩,
  ⟨some 19, .mov, [.tmp 76], none, [], none⟩] false [0, 1, 2, 3, 8, 9, 10, 11, 12, 13, 14, 15, 16, 17, 18, 19, 20, 21, 22, 23, 24, 25, 26, 27, 28, 41, 152, 163, 171, 180])
  (.seq (.reg [
  ⟨some 78, .mov, [.tmp 9], none, [], none⟩,
  ⟨some 79, .mov, [.tmp 1], none, [], none⟩,
  ⟨some 80, (.call 24), [.tmp 78, .tmp 79], none, [], none⟩,
  ⟨some 77, .mov, [.tmp 80], none, [], none⟩,
  ⟨some 81, (.ext 0), [.tmp 77], none, [], none⟩,
  ⟨some 82, (.ext 1), [.tmp 77], none, [], none⟩,
  ⟨some 20, .mov, [.tmp 81], none, [], none⟩,
  ⟨some 21, .mov, [.tmp 82], none, [], none⟩] false [0, 1, 2, 3, 8, 9, 10, 11, 12, 13, 14, 15, 16, 17, 18, 19, 20, 21, 22, 23, 24, 25, 26, 27, 28, 41, 152, 163, 171, 180])
  (.seq (.reg [
  ⟨some 84, .mov, [.tmp 0], none, [], none⟩,
  ⟨some 85, .mov, [.tmp 1], none, [], none⟩,
  ⟨some 86, .mov, [.tmp 2], none, [], none⟩,
  ⟨some 87, (.call 25), [.tmp 84, .tmp 85, .tmp 86], none, [], none⟩,
  ⟨some 83, .mov, [.tmp 87], none, [], none⟩,
  ⟨some 88, (.ext 0), [.tmp 83], none, [], none⟩,
  ⟨some 89, (.ext 1), [.tmp 83], none, [], none⟩,
  ⟨some 22, .mov, [.tmp 88], none, [], none⟩,
  ⟨some 23, .mov, [.tmp 89], none, [], none⟩] false [0, 1, 2, 3, 8, 9, 10, 11, 12, 13, 14, 15, 16, 17, 18, 19, 20, 21, 22, 23, 24, 25, 26, 27, 28, 41, 152, 163, 171, 180])
  (.seq (.reg [
  ⟨some 91, .mov, [.tmp 9], none, [], none⟩,
  ⟨some 92, .mov, [.tmp 1], none, [], none⟩,
  ⟨some 93, .mov, [.tmp 2], none, [], none⟩,
  ⟨some 94, (.call 26), [.tmp 91, .tmp 92, .tmp 93], none, [], none⟩,
  ⟨some 90, .mov, [.tmp 94], none, [], none⟩,
  ⟨some 95, (.ext 0), [.tmp 90], none, [], none⟩,
  ⟨some 96, (.ext 1), [.tmp 90], none, [], none⟩,
  ⟨some 24, .mov, [.tmp 95], none, [], none⟩,
  ⟨some 25, .mov, [.tmp 96], none, [], none⟩] false [0, 1, 2, 3, 8, 9, 10, 11, 12, 13, 14, 15, 16, 17, 18, 19, 20, 21, 22, 23, 24, 25, 26, 27, 28, 41, 152, 163, 171, 180])
  (.seq (.seq (.reg (
  ⟨some 97, .mov, [.tmp 10], none, [], none⟩ ::
  ⟨some 98, .mov, [.tmp 12], none, [], none⟩ ::
  ⟨some 99, (.bin .neq), [.tmp 97, .tmp 98], none, [], none⟩ ::
  ⟨some 100, .mov, [.tmp 99], none, [], none⟩ ::
  ⟨some 101, .mov, [.tmp 11], some (100, false), [], none⟩ ::
  ⟨some 102, .mov, [.tmp 13], some (100, false), [], none⟩ ::
  ⟨some 103, (.bin .neq), [.tmp 101, .tmp 102], some (100, false), [], none⟩ ::
  ⟨some 104, .pick, [.tmp 100, .const (.bool true), .tmp 103], none, [], none⟩ ::
  ⟨some 105, .mov, [.tmp 104], none, [], none⟩ ::
  ⟨some 106, .mov, [.tmp 14], some (105, false), [], none⟩ ::
  ⟨some 107, .mov, [.tmp 16], some (105, false), [], none⟩ ::
  ⟨some 108, (.call 27), [.tmp 106, .tmp 107], some (105, false), [], none⟩ ::
  ⟨some 109, .not, [.tmp 108], some (105, false), [], none⟩ ::
  ⟨some 110, .pick, [.tmp 105, .const (.bool true), .tmp 109], none, [], none⟩ ::
  ⟨some 111, .mov, [.tmp 110], none, [], none⟩ ::
  ⟨some 112, .mov, [.tmp 15], some (111, false), [], none⟩ ::
  ⟨some 113, .mov, [.tmp 17], some (111, false), [], none⟩ ::
  ⟨some 114, (.bin .neq), [.tmp 112, .tmp 113], some (111, false), [], none⟩ ::
  ⟨some 115, .pick, [.tmp 111, .const (.bool true), .tmp 114], none, [], none⟩ ::
  ⟨some 116, .mov, [.tmp 115], none, [], none⟩ ::
  ⟨some 117, .mov, [.tmp 18], some (116, false), [], none⟩ ::
  ⟨some 118, .mov, [.tmp 20], some (116, false), [], none⟩ ::
  ⟨some 119, (.call 27), [.tmp 117, .tmp 118], some (116, false), [], none⟩ ::
  ⟨some 120, .not, [.tmp 119], some (116, false), [], none⟩ ::
  ⟨some 121, .pick, [.tmp 116, .const (.bool true), .tmp 120], none, [], none⟩ ::
  ⟨some 122, .mov, [.tmp 121], none, [], none⟩ ::
  ⟨some 123, .mov, [.tmp 19], some (122, false), [], none⟩ ::
  ⟨some 124, .mov, [.tmp 21], some (122, false), [], none⟩ ::
  ⟨some 125, (.bin .neq), [.tmp 123, .tmp 124], some (122, false), [], none⟩ ::
  ⟨some 126, .pick, [.tmp 122, .const (.bool true), .tmp 125], none, [], none⟩ ::
  ⟨some 127, .mov, [.tmp 126], none, [], none⟩ ::
  ⟨some 128, .mov, [.tmp 22], some (127, false), [], none⟩ ::
  ⟨some 129, .mov, [.tmp 24], some (127, false), [], none⟩ ::
  ⟨some 130, (.call 27), [.tmp 128, .tmp 129], some (127, false), [], none⟩ ::
  ⟨some 131, .not, [.tmp 130], some (127, false), [], none⟩ ::
  ⟨some 132, .pick, [.tmp 127, .const (.bool true), .tmp 131], none, [], none⟩ ::
  ⟨some 133, .mov, [.tmp 132], none, [], none⟩ ::
  ⟨some 134, .mov, [.tmp 23], some (133, false), [], none⟩ ::
  ⟨some 135, .mov, [.tmp 25], some (133, false), [], none⟩ ::
  ⟨some 136, (.bin .neq), [.tmp 134, .tmp 135], some (133, false), [], none⟩ ::
  ⟨some 137, .pick, [.tmp 133, .const (.bool true), .tmp 136], none, [], none⟩ ::
  ⟨some 138, .mov, [.tmp 137], none, [], none⟩ ::
  ⟨some 139, .mov, [.tmp 0], some (138, false), [], none⟩ ::
  ⟨some 140, (.call 28), [.tmp 139], some (138, false), [], none⟩ ::
  ⟨some 141, .mov, [.tmp 9], some (138, false), [], none⟩ ::
  ⟨some 142, (.call 29), [.tmp 141], some (138, false), [], none⟩ ::
  ⟨some 143, (.beq true), [.tmp 140, .tmp 142], some (138, false), [], none⟩ ::
  ⟨some 144, .pick, [.tmp 138, .const (.bool true), .tmp 143], none, [], none⟩ ::
  ⟨some 145, .mov, [.tmp 144], none, [], none⟩ ::
  ⟨some 146, .mov, [.tmp 0], some (145, false), [], none⟩ ::
  ⟨some 147, (.call 31), [.tmp 146], some (145, false), [], none⟩ ::
  ⟨some 148, .mov, [.tmp 9], some (145, false), [], none⟩ ::
  ⟨some 149, (.call 32), [.tmp 148], some (145, false), [], none⟩ ::
  ⟨some 150, (.call 30), [.tmp 147, .tmp 149], some (145, false), [], none⟩ ::
  ⟨some 151, .not, [.tmp 150], some (145, false), [], none⟩ ::
  ⟨some 152, .pick, [.tmp 145, .const (.bool true), .tmp 151], none, [], none⟩ :: []) false [0, 1, 2, 3, 8, 9, 10, 11, 12, 13, 14, 15, 16, 17, 18, 19, 20, 21, 22, 23, 24, 25, 26, 27, 28, 41, 152, 163, 171, 180])
  (.cond (.tmp 152) (.seq (.reg [
  ⟨some 8, .mov, [.const (.bool false)], none, [], none⟩] false [0, 1, 2, 3, 8, 9, 10, 11, 12, 13, 14, 15, 16, 17, 18, 19, 20, 21, 22, 23, 24, 25, 26, 27, 28, 41, 152, 163, 171, 180])
  (.ret)) (.skip)))
  (.seq (.seq (.reg [
  ⟨some 153, .mov, [.tmp 1], none, [], none⟩,
  ⟨some 154, .mov, [.tmp 2], none, [], none⟩,
  ⟨some 155, (.bsl 9 1), [.tmp 153, .tmp 154], none, [], none⟩,
  ⟨some 156, (.call 33), [.tmp 155], none, [], none⟩,
  ⟨some 157, .mov, [.tmp 1], none, [], none⟩,
  ⟨some 158, (.call 34), [.tmp 157], none, [], none⟩,
  ⟨some 159, .mov, [.tmp 158], none, [], none⟩,
  ⟨some 160, .mov, [.tmp 2], some (159, true), [], none⟩,
  ⟨some 161, (.call 34), [.tmp 160], some (159, true), [], none⟩,
  ⟨some 162, .pick, [.tmp 159, .tmp 161, .const (.bool false)], none, [], none⟩,
  ⟨some 163, (.beq true), [.tmp 156, .tmp 162], none, [], none⟩] false [0, 1, 2, 3, 8, 9, 10, 11, 12, 13, 14, 15, 16, 17, 18, 19, 20, 21, 22, 23, 24, 25, 26, 27, 28, 41, 152, 163, 171, 180])
  (.cond (.tmp 163) (.seq (.reg [
  ⟨some 8, .mov, [.const (.bool false)], none, [], none⟩] false [0, 1, 2, 3, 8, 9, 10, 11, 12, 13, 14, 15, 16, 17, 18, 19, 20, 21, 22, 23, 24, 25, 26, 27, 28, 41, 152, 163, 171, 180])
  (.ret)) (.skip)))
  (.seq (.reg [
  ⟨some 164, .mov, [.tmp 14], none, [], none⟩,
  ⟨some 165, .mov, [.tmp 18], none, [], none⟩,
  ⟨some 166, .mov, [.tmp 22], none, [], none⟩,
  ⟨some 167, (.ex (.bslk 23)), [.tmp 164, .tmp 165, .tmp 166], none, [], none⟩,
  ⟨some 26, .mov, [.tmp 167], none, [], none⟩] false [0, 1, 2, 3, 8, 9, 10, 11, 12, 13, 14, 15, 16, 17, 18, 19, 20, 21, 22, 23, 24, 25, 26, 27, 28, 41, 152, 163, 171, 180])
  (.seq (.seq (.reg [
  ⟨some 27, .mov, [.const (.int .i64 0)], none, [], none⟩] false [0, 1, 2, 3, 8, 9, 10, 11, 12, 13, 14, 15, 16, 17, 18, 19, 20, 21, 22, 23, 24, 25, 26, 27, 28, 41, 152, 163, 171, 180])
  (.block 0 (.loop (.seq (.seq (.reg [
   ⟨some 168, .mov, [.tmp 27], none, [], none⟩,
   ⟨some 169, .mov, [.tmp 26], none, [], none⟩,
   ⟨some 170, .len, [.tmp 169], none, [], none⟩,
   ⟨some 171, (.bin .lss), [.tmp 168, .tmp 170], none, [], none⟩] false [0, 1, 2, 3, 8, 9, 10, 11, 12, 13, 14, 15, 16, 17, 18, 19, 20, 21, 22, 23, 24, 25, 26, 27, 28, 41, 152, 163, 171, 180])
   (.cond (.tmp 171) (.skip) (.exit 0)))
   (.seq (.block 1 (.seq (.reg [
   ⟨some 28, .mov, [.const (.int .i64 0)], none, [], none⟩] false [0, 1, 2, 3, 8, 9, 10, 11, 12, 13, 14, 15, 16, 17, 18, 19, 20, 21, 22, 23, 24, 25, 26, 27, 28, 41, 152, 163, 171, 180])
   (.block 2 (.loop (.seq (.seq (.reg [
    ⟨some 174, .mov, [.tmp 28], none, [], none⟩,
    ⟨some 175, .mov, [.tmp 26], none, [], none⟩,
    ⟨some 176, .mov, [.tmp 27], none, [], none⟩,
    ⟨some 177, (.ixa 23 1), [.tmp 175, .tmp 176], none, [], none⟩,
    ⟨some 178, (.load none), [.tmp 177], none, [], none⟩,
    ⟨some 179, .len, [.tmp 178], none, [], none⟩,
    ⟨some 180, (.bin .lss), [.tmp 174, .tmp 179], none, [], none⟩] false [0, 1, 2, 3, 8, 9, 10, 11, 12, 13, 14, 15, 16, 17, 18, 19, 20, 21, 22, 23, 24, 25, 26, 27, 28, 41, 152, 163, 171, 180])
    (.cond (.tmp 180) (.skip) (.exit 2)))
    (.seq (.block 3 (.reg [
    ⟨some 183, .mov, [.tmp 26], none, [], none⟩,
    ⟨some 184, .mov, [.tmp 27], none, [], none⟩,
    ⟨some 185, (.ixa 23 1), [.tmp 183, .tmp 184], none, [], none⟩,
    ⟨some 186, (.load none), [.tmp 185], none, [], none⟩,
    ⟨some 187, .mov, [.tmp 28], none, [], none⟩,
    ⟨some 188, (.bld [(.string ⟨#[]⟩), (.int .u64 0)] []), [], none, [], none⟩,
    ⟨some 189, (.ixa 51 2), [.tmp 186, .tmp 187], none, [], none⟩,
    ⟨none, (.store (some 2)), [.tmp 189, .tmp 188], none, [], none⟩] false [0, 1, 2, 3, 8, 9, 10, 11, 12, 13, 14, 15, 16, 17, 18, 19, 20, 21, 22, 23, 24, 25, 26, 27, 28, 41, 152, 163, 171, 180]))
    (.reg [
    ⟨some 181, .mov, [.tmp 28], none, [], none⟩,
    ⟨some 182, (.bin .add), [.tmp 181, .const (.int .i64 1)], none, [], none⟩,
    ⟨some 28, .mov, [.tmp 182], none, [], none⟩] false [0, 1, 2, 3, 8, 9, 10, 11, 12, 13, 14, 15, 16, 17, 18, 19, 20, 21, 22, 23, 24, 25, 26, 27, 28, 41, 152, 163, 171, 180])))))))
   (.reg [
   ⟨some 172, .mov, [.tmp 27], none, [], none⟩,
   ⟨some 173, (.bin .add), [.tmp 172, .const (.int .i64 1)], none, [], none⟩,
   ⟨some 27, .mov, [.tmp 173], none, [], none⟩] false [0, 1, 2, 3, 8, 9, 10, 11, 12, 13, 14, 15, 16, 17, 18, 19, 20, 21, 22, 23, 24, 25, 26, 27, 28, 41, 152, 163, 171, 180]))))))
  (.seq (.reg [
  ⟨some 190, .mov, [.tmp 0], none, [], none⟩,
  ⟨some 191, .mov, [.tmp 9], none, [], none⟩,
  ⟨some 192, (.call 27), [.tmp 190, .tmp 191], none, [], none⟩,
  ⟨some 193, .mov, [.tmp 192], none, [], none⟩,
  ⟨some 194, (.call 17), [], some (193, true), [], none⟩,
  ⟨some 195, .pick, [.tmp 193, .tmp 194, .const (.bool false)], none, [], none⟩,
  ⟨some 8, .mov, [.tmp 195], none, [], none⟩] false [0, 1, 2, 3, 8, 9, 10, 11, 12, 13, 14, 15, 16, 17, 18, 19, 20, 21, 22, 23, 24, 25, 26, 27, 28, 41, 152, 163, 171, 180])
  (.ret))))))))))))))))
def keep3 : List Nat := [0, 1, 2, 3, 8, 9, 10, 11, 12, 13, 14, 15, 16, 17, 18, 19, 20, 21, 22, 23, 24, 25, 26, 27, 28, 41, 152, 163, 171, 180]
theorem fn3 : compFn Try.prog 3 keep3 = some ⟨196, 4, [(8, none)], body3⟩ := by kernel_rfl

/- chartroom/chartroomlaw17.CatalogBack -/
def body4 : AC :=
  .seq (.reg [
  ⟨some 10, .mov, [.const (.bool false)], none, [], none⟩] false [0, 1, 2, 3, 4, 10, 11, 12, 13, 14, 15, 16, 17, 18, 19, 20, 21, 22, 23, 24, 25, 26, 27, 28, 30, 31, 32, 55, 71, 135, 144])
  (.seq (.seq (.reg [
  ⟨some 33, .mov, [.tmp 0], none, [], none⟩,
  ⟨some 34, (.call 16), [.tmp 33], none, [], none⟩,
  ⟨some 35, .not, [.tmp 34], none, [], none⟩,
  ⟨some 36, .mov, [.tmp 35], none, [], none⟩,
  ⟨some 37, .mov, [.tmp 1], some (36, false), [], none⟩,
  ⟨some 38, .slen, [.tmp 37], some (36, false), [], none⟩,
  ⟨some 39, (.bin .gtr), [.tmp 38, .const (.int .i64 100)], some (36, false), [], none⟩,
  ⟨some 40, .pick, [.tmp 36, .const (.bool true), .tmp 39], none, [], none⟩,
  ⟨some 41, .mov, [.tmp 40], none, [], none⟩,
  ⟨some 42, .mov, [.tmp 2], some (41, false), [], none⟩,
  ⟨some 43, .slen, [.tmp 42], some (41, false), [], none⟩,
  ⟨some 44, (.bin .gtr), [.tmp 43, .const (.int .i64 100)], some (41, false), [], none⟩,
  ⟨some 45, .pick, [.tmp 41, .const (.bool true), .tmp 44], none, [], none⟩,
  ⟨some 46, .mov, [.tmp 45], none, [], none⟩,
  ⟨some 47, .mov, [.tmp 3], some (46, false), [], none⟩,
  ⟨some 48, .slen, [.tmp 47], some (46, false), [], none⟩,
  ⟨some 49, (.bin .gtr), [.tmp 48, .const (.int .i64 100)], some (46, false), [], none⟩,
  ⟨some 50, .pick, [.tmp 46, .const (.bool true), .tmp 49], none, [], none⟩,
  ⟨some 51, .mov, [.tmp 50], none, [], none⟩,
  ⟨some 52, .mov, [.tmp 0], some (51, false), [], none⟩,
  ⟨some 53, (.call 28), [.tmp 52], some (51, false), [], none⟩,
  ⟨some 54, .not, [.tmp 53], some (51, false), [], none⟩,
  ⟨some 55, .pick, [.tmp 51, .const (.bool true), .tmp 54], none, [], none⟩] false [0, 1, 2, 3, 4, 10, 11, 12, 13, 14, 15, 16, 17, 18, 19, 20, 21, 22, 23, 24, 25, 26, 27, 28, 30, 31, 32, 55, 71, 135, 144])
  (.cond (.tmp 55) (.seq (.reg [
  ⟨some 56, (.call 17), [], none, [], none⟩,
  ⟨some 10, .mov, [.tmp 56], none, [], none⟩] false [0, 1, 2, 3, 4, 10, 11, 12, 13, 14, 15, 16, 17, 18, 19, 20, 21, 22, 23, 24, 25, 26, 27, 28, 30, 31, 32, 55, 71, 135, 144])
  (.ret)) (.skip)))
  (.seq (.reg [
  ⟨some 58, .mov, [.tmp 0], none, [], none⟩,
  ⟨some 59, .mov, [.tmp 3], none, [], none⟩,
  ⟨some 60, (.call 19), [.tmp 58, .tmp 59], none, [], none⟩,
  ⟨some 57, .mov, [.tmp 60], none, [], none⟩,
  ⟨some 61, (.ext 0), [.tmp 57], none, [], none⟩,
  ⟨some 62, (.ext 1), [.tmp 57], none, [], none⟩,
  ⟨some 11, .mov, [.tmp 61], none, [], none⟩,
  ⟨some 12, .mov, [.tmp 62], none, [], none⟩] false [0, 1, 2, 3, 4, 10, 11, 12, 13, 14, 15, 16, 17, 18, 19, 20, 21, 22, 23, 24, 25, 26, 27, 28, 30, 31, 32, 55, 71, 135, 144])
  (.seq (.reg [
  ⟨some 64, .mov, [.tmp 0], none, [], none⟩,
  ⟨some 65, .mov, [.tmp 1], none, [], none⟩,
  ⟨some 66, .mov, [.tmp 4], none, [], none⟩,
  ⟨some 67, (.call 21), [.tmp 64, .tmp 65, .tmp 66], none, [], none⟩,
  ⟨some 63, .mov, [.tmp 67], none, [], none⟩,
  ⟨some 68, (.ext 0), [.tmp 63], none, [], none⟩,
  ⟨some 69, (.ext 1), [.tmp 63], none, [], none⟩,
  ⟨some 13, .mov, [.tmp 68], none, [], none⟩,
  ⟨some 14, .mov, [.tmp 69], none, [], none⟩] false [0, 1, 2, 3, 4, 10, 11, 12, 13, 14, 15, 16, 17, 18, 19, 20, 21, 22, 23, 24, 25, 26, 27, 28, 30, 31, 32, 55, 71, 135, 144])
  (.seq (.seq (.reg [
  ⟨some 70, .mov, [.tmp 14], none, [], none⟩,
  ⟨some 71, (.bin .eql), [.tmp 70, .const (.int .i64 0)], none, [], none⟩] false [0, 1, 2, 3, 4, 10, 11, 12, 13, 14, 15, 16, 17, 18, 19, 20, 21, 22, 23, 24, 25, 26, 27, 28, 30, 31, 32, 55, 71, 135, 144])
  (.cond (.tmp 71) (.seq (.reg [
  ⟨some 73, .mov, [.tmp 13], none, [], none⟩,
  ⟨some 74, .mov, [.tmp 1], none, [], none⟩,
  ⟨some 75, (.call 19), [.tmp 73, .tmp 74], none, [], none⟩,
  ⟨some 72, .mov, [.tmp 75], none, [], none⟩,
  ⟨some 76, (.ext 0), [.tmp 72], none, [], none⟩,
  ⟨some 77, (.ext 1), [.tmp 72], none, [], none⟩,
  ⟨some 15, .mov, [.tmp 76], none, [], none⟩,
  ⟨some 16, .mov, [.tmp 77], none, [], none⟩] false [0, 1, 2, 3, 4, 10, 11, 12, 13, 14, 15, 16, 17, 18, 19, 20, 21, 22, 23, 24, 25, 26, 27, 28, 30, 31, 32, 55, 71, 135, 144])
  (.seq (.reg [
  ⟨some 79, .mov, [.tmp 13], none, [], none⟩,
  ⟨some 80, .mov, [.tmp 1], none, [], none⟩,
  ⟨some 81, (.call 23), [.tmp 79, .tmp 80], none, [], none⟩,
  ⟨some 78, .mov, [.tmp 81], none, [], none⟩,
  ⟨some 82, (.ext 0), [.tmp 78], none, [], none⟩,
  ⟨some 83, (.ext 1), [.tmp 78], none, [], none⟩,
  ⟨some 17, .mov, [.tmp 82], none, [], none⟩,
  ⟨some 18, .mov, [.tmp 83], none, [], none⟩] false [0, 1, 2, 3, 4, 10, 11, 12, 13, 14, 15, 16, 17, 18, 19, 20, 21, 22, 23, 24, 25, 26, 27, 28, 30, 31, 32, 55, 71, 135, 144])
  (.seq (.reg [
  ⟨some 85, .mov, [.tmp 13], none, [], none⟩,
  ⟨some 86, .mov, [.tmp 3], none, [], none⟩,
  ⟨some 87, (.call 19), [.tmp 85, .tmp 86], none, [], none⟩,
  ⟨some 84, .mov, [.tmp 87], none, [], none⟩,
  ⟨some 88, (.ext 0), [.tmp 84], none, [], none⟩,
  ⟨some 89, (.ext 1), [.tmp 84], none, [], none⟩,
  ⟨some 19, .mov, [.tmp 88], none, [], none⟩,
  ⟨some 20, .mov, [.tmp 89], none, [], none⟩] false [0, 1, 2, 3, 4, 10, 11, 12, 13, 14, 15, 16, 17, 18, 19, 20, 21, 22, 23, 24, 25, 26, 27, 28, 30, 31, 32, 55, 71, 135, 144])
  (.seq (.reg (
  ⟨some 90, .mov, [.tmp 13], none, [], none⟩ ::
  ⟨some 91, (.call 28), [.tmp 90], none, [], none⟩ ::
  ⟨some 92, .not, [.tmp 91], none, [], none⟩ ::
  ⟨some 93, .mov, [.tmp 92], none, [], none⟩ ::
  ⟨some 94, .mov, [.tmp 13], some (93, false), [], none⟩ ::
  ⟨some 95, .len, [.tmp 94], some (93, false), [], none⟩ ::
  ⟨some 96, .mov, [.tmp 0], some (93, false), [], none⟩ ::
  ⟨some 97, .len, [.tmp 96], some (93, false), [], none⟩ ::
  ⟨some 98, (.bin .add), [.tmp 97, .const (.int .i64 1)], some (93, false), [], none⟩ ::
  ⟨some 99, (.bin .neq), [.tmp 95, .tmp 98], some (93, false), [], none⟩ ::
  ⟨some 100, .pick, [.tmp 93, .const (.bool true), .tmp 99], none, [], none⟩ ::
  ⟨some 101, .mov, [.tmp 100], none, [], none⟩ ::
  ⟨some 102, .mov, [.tmp 15], some (101, false), [], none⟩ ::
  ⟨some 103, .mov, [.tmp 4], some (101, false), [], none⟩ ::
  ⟨some 104, (.bin .neq), [.tmp 102, .tmp 103], some (101, false), [], none⟩ ::
  ⟨some 105, .pick, [.tmp 101, .const (.bool true), .tmp 104], none, [], none⟩ ::
  ⟨some 106, .mov, [.tmp 105], none, [], none⟩ ::
  ⟨some 107, .mov, [.tmp 16], some (106, false), [], none⟩ ::
  ⟨some 108, (.bin .neq), [.tmp 107, .const (.int .i64 0)], some (106, false), [], none⟩ ::
  ⟨some 109, .pick, [.tmp 106, .const (.bool true), .tmp 108], none, [], none⟩ ::
  ⟨some 110, .mov, [.tmp 109], none, [], none⟩ ::
  ⟨some 111, .mov, [.tmp 18], some (110, false), [], none⟩ ::
  ⟨some 112, (.bin .neq), [.tmp 111, .const (.int .i64 0)], some (110, false), [], none⟩ ::
  ⟨some 113, .pick, [.tmp 110, .const (.bool true), .tmp 112], none, [], none⟩ ::
  ⟨some 114, .mov, [.tmp 113], none, [], none⟩ ::
  ⟨some 115, .mov, [.tmp 17], some (114, false), [], none⟩ ::
  ⟨some 116, .mov, [.tmp 0], some (114, false), [], none⟩ ::
  ⟨some 117, (.call 18), [.tmp 116], some (114, false), [], none⟩ ::
  ⟨some 118, (.call 27), [.tmp 115, .tmp 117], some (114, false), [], none⟩ ::
  ⟨some 119, .not, [.tmp 118], some (114, false), [], none⟩ ::
  ⟨some 120, .pick, [.tmp 114, .const (.bool true), .tmp 119], none, [], none⟩ ::
  ⟨some 121, .mov, [.tmp 120], none, [], none⟩ ::
  ⟨some 122, .mov, [.tmp 3], some (121, false), [], none⟩ ::
  ⟨some 123, .mov, [.tmp 1], some (121, false), [], none⟩ ::
  ⟨some 124, (.bin .neq), [.tmp 122, .tmp 123], some (121, false), [], none⟩ ::
  ⟨some 125, .mov, [.tmp 124], some (121, false), [], none⟩ ::
  ⟨some 126, .mov, [.tmp 19], some (125, true), [], none⟩ ::
  ⟨some 127, .mov, [.tmp 11], some (125, true), [], none⟩ ::
  ⟨some 128, (.bin .neq), [.tmp 126, .tmp 127], some (125, true), [], none⟩ ::
  ⟨some 129, .mov, [.tmp 128], some (125, true), [], none⟩ ::
  ⟨some 130, .mov, [.tmp 20], some (129, false), [], none⟩ ::
  ⟨some 131, .mov, [.tmp 12], some (129, false), [], none⟩ ::
  ⟨some 132, (.bin .neq), [.tmp 130, .tmp 131], some (129, false), [], none⟩ ::
  ⟨some 133, .pick, [.tmp 129, .const (.bool true), .tmp 132], some (125, true), [], none⟩ ::
  ⟨some 134, .pick, [.tmp 125, .tmp 133, .const (.bool false)], some (121, false), [], none⟩ ::
  ⟨some 135, .pick, [.tmp 121, .const (.bool true), .tmp 134], none, [], none⟩ :: []) false [0, 1, 2, 3, 4, 10, 11, 12, 13, 14, 15, 16, 17, 18, 19, 20, 21, 22, 23, 24, 25, 26, 27, 28, 30, 31, 32, 55, 71, 135, 144])
  (.cond (.tmp 135) (.seq (.reg [
  ⟨some 10, .mov, [.const (.bool false)], none, [], none⟩] false [0, 1, 2, 3, 4, 10, 11, 12, 13, 14, 15, 16, 17, 18, 19, 20, 21, 22, 23, 24, 25, 26, 27, 28, 30, 31, 32, 55, 71, 135, 144])
  (.ret)) (.skip)))))) (.skip)))
  (.seq (.reg [
  ⟨some 137, .mov, [.tmp 0], none, [], none⟩,
  ⟨some 138, .mov, [.tmp 1], none, [], none⟩,
  ⟨some 139, .mov, [.tmp 2], none, [], none⟩,
  ⟨some 140, (.call 25), [.tmp 137, .tmp 138, .tmp 139], none, [], none⟩,
  ⟨some 136, .mov, [.tmp 140], none, [], none⟩,
  ⟨some 141, (.ext 0), [.tmp 136], none, [], none⟩,
  ⟨some 142, (.ext 1), [.tmp 136], none, [], none⟩,
  ⟨some 21, .mov, [.tmp 141], none, [], none⟩,
  ⟨some 22, .mov, [.tmp 142], none, [], none⟩] false [0, 1, 2, 3, 4, 10, 11, 12, 13, 14, 15, 16, 17, 18, 19, 20, 21, 22, 23, 24, 25, 26, 27, 28, 30, 31, 32, 55, 71, 135, 144])
  (.seq (.seq (.reg [
  ⟨some 143, .mov, [.tmp 22], none, [], none⟩,
  ⟨some 144, (.bin .neq), [.tmp 143, .const (.int .i64 0)], none, [], none⟩] false [0, 1, 2, 3, 4, 10, 11, 12, 13, 14, 15, 16, 17, 18, 19, 20, 21, 22, 23, 24, 25, 26, 27, 28, 30, 31, 32, 55, 71, 135, 144])
  (.cond (.tmp 144) (.seq (.reg [
  ⟨some 145, (.call 17), [], none, [], none⟩,
  ⟨some 10, .mov, [.tmp 145], none, [], none⟩] false [0, 1, 2, 3, 4, 10, 11, 12, 13, 14, 15, 16, 17, 18, 19, 20, 21, 22, 23, 24, 25, 26, 27, 28, 30, 31, 32, 55, 71, 135, 144])
  (.ret)) (.skip)))
  (.seq (.reg [
  ⟨some 147, .mov, [.tmp 21], none, [], none⟩,
  ⟨some 148, .mov, [.tmp 2], none, [], none⟩,
  ⟨some 149, .mov, [.tmp 1], none, [], none⟩,
  ⟨some 150, (.call 25), [.tmp 147, .tmp 148, .tmp 149], none, [], none⟩,
  ⟨some 146, .mov, [.tmp 150], none, [], none⟩,
  ⟨some 151, (.ext 0), [.tmp 146], none, [], none⟩,
  ⟨some 152, (.ext 1), [.tmp 146], none, [], none⟩,
  ⟨some 23, .mov, [.tmp 151], none, [], none⟩,
  ⟨some 24, .mov, [.tmp 152], none, [], none⟩] false [0, 1, 2, 3, 4, 10, 11, 12, 13, 14, 15, 16, 17, 18, 19, 20, 21, 22, 23, 24, 25, 26, 27, 28, 30, 31, 32, 55, 71, 135, 144])
  (.seq (.reg [
  ⟨some 154, .mov, [.tmp 21], none, [], none⟩,
  ⟨some 155, .mov, [.tmp 2], none, [], none⟩,
  ⟨some 156, (.call 19), [.tmp 154, .tmp 155], none, [], none⟩,
  ⟨some 153, .mov, [.tmp 156], none, [], none⟩,
  ⟨some 157, (.ext 0), [.tmp 153], none, [], none⟩,
  ⟨some 158, (.ext 1), [.tmp 153], none, [], none⟩,
  ⟨some 25, .mov, [.tmp 157], none, [], none⟩,
  ⟨some 26, .mov, [.tmp 158], none, [], none⟩] false [0, 1, 2, 3, 4, 10, 11, 12, 13, 14, 15, 16, 17, 18, 19, 20, 21, 22, 23, 24, 25, 26, 27, 28, 30, 31, 32, 55, 71, 135, 144])
  (.seq (.reg [
  ⟨some 160, .mov, [.tmp 0], none, [], none⟩,
  ⟨some 161, .mov, [.tmp 1], none, [], none⟩,
  ⟨some 162, (.call 19), [.tmp 160, .tmp 161], none, [], none⟩,
  ⟨some 159, .mov, [.tmp 162], none, [], none⟩,
  ⟨some 163, (.ext 0), [.tmp 159], none, [], none⟩,
  ⟨some 164, (.ext 1), [.tmp 159], none, [], none⟩,
  ⟨some 27, .mov, [.tmp 163], none, [], none⟩,
  ⟨some 28, .mov, [.tmp 164], none, [], none⟩] false [0, 1, 2, 3, 4, 10, 11, 12, 13, 14, 15, 16, 17, 18, 19, 20, 21, 22, 23, 24, 25, 26, 27, 28, 30, 31, 32, 55, 71, 135, 144])
  (.seq (.reg [
  ⟨some 166, .mov, [.tmp 21], none, [], none⟩,
  ⟨some 167, .mov, [.tmp 1], none, [], none⟩,
  ⟨some 168, (.call 19), [.tmp 166, .tmp 167], none, [], none⟩,
  ⟨some 165, .mov, [.tmp 168], none, [], none⟩,
  ⟨some 169, (.ext 0), [.tmp 165], none, [], none⟩,
  ⟨some 170, (.ext 1), [.tmp 165], none, [], none⟩,
  ⟨some 29, .mov, [.tmp 169], none, [], none⟩,
  ⟨some 30, .mov, [.tmp 170], none, [], none⟩] false [0, 1, 2, 3, 4, 10, 11, 12, 13, 14, 15, 16, 17, 18, 19, 20, 21, 22, 23, 24, 25, 26, 27, 28, 30, 31, 32, 55, 71, 135, 144])
  (.seq (.reg [
  ⟨some 172, .mov, [.tmp 21], none, [], none⟩,
  ⟨some 173, .mov, [.tmp 3], none, [], none⟩,
  ⟨some 174, (.call 19), [.tmp 172, .tmp 173], none, [], none⟩,
  ⟨some 171, .mov, [.tmp 174], none, [], none⟩,
  ⟨some 175, (.ext 0), [.tmp 171], none, [], none⟩,
  ⟨some 176, (.ext 1), [.tmp 171], none, [], none⟩,
  ⟨some 31, .mov, [.tmp 175], none, [], none⟩,
  ⟨some 32, .mov, [.tmp 176], none, [], none⟩] false [0, 1, 2, 3, 4, 10, 11, 12, 13, 14, 15, 16, 17, 18, 19, 20, 21, 22, 23, 24, 25, 26, 27, 28, 30, 31, 32, 55, 71, 135, 144])
  (.seq (.reg (
  ⟨some 177, .mov, [.tmp 21], none, [], none⟩ ::
  ⟨some 178, (.call 28), [.tmp 177], none, [], none⟩ ::
  ⟨some 179, .mov, [.tmp 178], none, [], none⟩ ::
  ⟨some 180, .mov, [.tmp 24], some (179, true), [], none⟩ ::
  ⟨some 181, (.bin .eql), [.tmp 180, .const (.int .i64 0)], some (179, true), [], none⟩ ::
  ⟨some 182, .pick, [.tmp 179, .tmp 181, .const (.bool false)], none, [], none⟩ ::
  ⟨some 183, .mov, [.tmp 182], none, [], none⟩ ::
  ⟨some 184, .mov, [.tmp 23], some (183, true), [], none⟩ ::
  ⟨some 185, .mov, [.tmp 0], some (183, true), [], none⟩ ::
  ⟨some 186, (.call 18), [.tmp 185], some (183, true), [], none⟩ ::
  ⟨some 187, (.call 27), [.tmp 184, .tmp 186], some (183, true), [], none⟩ ::
  ⟨some 188, .pick, [.tmp 183, .tmp 187, .const (.bool false)], none, [], none⟩ ::
  ⟨some 189, .mov, [.tmp 188], none, [], none⟩ ::
  ⟨some 190, .mov, [.tmp 26], some (189, true), [], none⟩ ::
  ⟨some 191, (.bin .eql), [.tmp 190, .const (.int .i64 0)], some (189, true), [], none⟩ ::
  ⟨some 192, .pick, [.tmp 189, .tmp 191, .const (.bool false)], none, [], none⟩ ::
  ⟨some 193, .mov, [.tmp 192], none, [], none⟩ ::
  ⟨some 194, .mov, [.tmp 28], some (193, true), [], none⟩ ::
  ⟨some 195, (.bin .eql), [.tmp 194, .const (.int .i64 0)], some (193, true), [], none⟩ ::
  ⟨some 196, .pick, [.tmp 193, .tmp 195, .const (.bool false)], none, [], none⟩ ::
  ⟨some 197, .mov, [.tmp 196], none, [], none⟩ ::
  ⟨some 198, .mov, [.tmp 25], some (197, true), [], none⟩ ::
  ⟨some 199, .mov, [.tmp 27], some (197, true), [], none⟩ ::
  ⟨some 200, (.bin .eql), [.tmp 198, .tmp 199], some (197, true), [], none⟩ ::
  ⟨some 201, .pick, [.tmp 197, .tmp 200, .const (.bool false)], none, [], none⟩ ::
  ⟨some 202, .mov, [.tmp 201], none, [], none⟩ ::
  ⟨some 203, .mov, [.tmp 30], some (202, true), [], none⟩ ::
  ⟨some 204, (.bin .eql), [.tmp 203, .const (.int .i64 80)], some (202, true), [], none⟩ ::
  ⟨some 205, .pick, [.tmp 202, .tmp 204, .const (.bool false)], none, [], none⟩ ::
  ⟨some 206, .mov, [.tmp 205], none, [], none⟩ ::
  ⟨some 207, .mov, [.tmp 3], some (206, true), [], none⟩ ::
  ⟨some 208, .mov, [.tmp 1], some (206, true), [], none⟩ ::
  ⟨some 209, (.bin .eql), [.tmp 207, .tmp 208], some (206, true), [], none⟩ ::
  ⟨some 210, .mov, [.tmp 209], some (206, true), [], none⟩ ::
  ⟨some 211, .mov, [.tmp 3], some (210, false), [], none⟩ ::
  ⟨some 212, .mov, [.tmp 2], some (210, false), [], none⟩ ::
  ⟨some 213, (.bin .eql), [.tmp 211, .tmp 212], some (210, false), [], none⟩ ::
  ⟨some 214, .pick, [.tmp 210, .const (.bool true), .tmp 213], some (206, true), [], none⟩ ::
  ⟨some 215, .mov, [.tmp 214], some (206, true), [], none⟩ ::
  ⟨some 216, .mov, [.tmp 31], some (215, false), [], none⟩ ::
  ⟨some 217, .mov, [.tmp 11], some (215, false), [], none⟩ ::
  ⟨some 218, (.bin .eql), [.tmp 216, .tmp 217], some (215, false), [], none⟩ ::
  ⟨some 219, .mov, [.tmp 218], some (215, false), [], none⟩ ::
  ⟨some 220, .mov, [.tmp 32], some (219, true), [], none⟩ ::
  ⟨some 221, .mov, [.tmp 12], some (219, true), [], none⟩ ::
  ⟨some 222, (.bin .eql), [.tmp 220, .tmp 221], some (219, true), [], none⟩ ::
  ⟨some 223, .pick, [.tmp 219, .tmp 222, .const (.bool false)], some (215, false), [], none⟩ ::
  ⟨some 224, .pick, [.tmp 215, .const (.bool true), .tmp 223], some (206, true), [], none⟩ ::
  ⟨some 225, .pick, [.tmp 206, .tmp 224, .const (.bool false)], none, [], none⟩ ::
  ⟨some 226, .mov, [.tmp 225], none, [], none⟩ ::
  ⟨some 227, (.call 17), [], some (226, true), [], none⟩ ::
  ⟨some 228, .pick, [.tmp 226, .tmp 227, .const (.bool false)], none, [], none⟩ ::
  ⟨some 10, .mov, [.tmp 228], none, [], none⟩ :: []) false [0, 1, 2, 3, 4, 10, 11, 12, 13, 14, 15, 16, 17, 18, 19, 20, 21, 22, 23, 24, 25, 26, 27, 28, 30, 31, 32, 55, 71, 135, 144])
  (.ret)))))))))))))
def keep4 : List Nat := [0, 1, 2, 3, 4, 10, 11, 12, 13, 14, 15, 16, 17, 18, 19, 20, 21, 22, 23, 24, 25, 26, 27, 28, 30, 31, 32, 55, 71, 135, 144]
theorem fn4 : compFn Try.prog 4 keep4 = some ⟨229, 5, [(10, none)], body4⟩ := by kernel_rfl

/- chartroom/chartroomlaw17.CatalogBytes -/
def body5 : AC :=
  .seq (.reg [
  ⟨some 4, .mov, [.const (.bool false)], none, [], none⟩] false [0, 1, 4, 5, 6, 7, 8, 9, 10, 11, 12, 13, 14, 15, 16, 24, 66, 68, 82, 84, 97])
  (.seq (.seq (.reg [
  ⟨some 17, .mov, [.tmp 0], none, [], none⟩,
  ⟨some 18, (.call 16), [.tmp 17], none, [], none⟩,
  ⟨some 19, .not, [.tmp 18], none, [], none⟩,
  ⟨some 20, .mov, [.tmp 19], none, [], none⟩,
  ⟨some 21, .mov, [.tmp 1], some (20, false), [], none⟩,
  ⟨some 22, .len, [.tmp 21], some (20, false), [], none⟩,
  ⟨some 23, (.bin .gtr), [.tmp 22, .const (.int .i64 1000)], some (20, false), [], none⟩,
  ⟨some 24, .pick, [.tmp 20, .const (.bool true), .tmp 23], none, [], none⟩] false [0, 1, 4, 5, 6, 7, 8, 9, 10, 11, 12, 13, 14, 15, 16, 24, 66, 68, 82, 84, 97])
  (.cond (.tmp 24) (.seq (.reg [
  ⟨some 25, (.call 17), [], none, [], none⟩,
  ⟨some 4, .mov, [.tmp 25], none, [], none⟩] false [0, 1, 4, 5, 6, 7, 8, 9, 10, 11, 12, 13, 14, 15, 16, 24, 66, 68, 82, 84, 97])
  (.ret)) (.skip)))
  (.seq (.reg [
  ⟨some 27, .mov, [.tmp 0], none, [], none⟩,
  ⟨some 28, (.call 35), [.tmp 27], none, [], none⟩,
  ⟨some 26, .mov, [.tmp 28], none, [], none⟩,
  ⟨some 29, (.ext 0), [.tmp 26], none, [], none⟩,
  ⟨some 30, (.ext 1), [.tmp 26], none, [], none⟩,
  ⟨some 5, .mov, [.tmp 29], none, [], none⟩,
  ⟨some 6, .mov, [.tmp 30], none, [], none⟩] false [0, 1, 4, 5, 6, 7, 8, 9, 10, 11, 12, 13, 14, 15, 16, 24, 66, 68, 82, 84, 97])
  (.seq (.reg [
  ⟨some 32, .mov, [.tmp 0], none, [], none⟩,
  ⟨some 33, (.call 18), [.tmp 32], none, [], none⟩,
  ⟨some 34, (.call 36), [.tmp 33], none, [], none⟩,
  ⟨some 31, .mov, [.tmp 34], none, [], none⟩,
  ⟨some 35, (.ext 0), [.tmp 31], none, [], none⟩,
  ⟨some 36, (.ext 1), [.tmp 31], none, [], none⟩,
  ⟨some 7, .mov, [.tmp 35], none, [], none⟩,
  ⟨some 8, .mov, [.tmp 36], none, [], none⟩] false [0, 1, 4, 5, 6, 7, 8, 9, 10, 11, 12, 13, 14, 15, 16, 24, 66, 68, 82, 84, 97])
  (.seq (.reg [
  ⟨some 38, .mov, [.tmp 1], none, [], none⟩,
  ⟨some 39, (.call 37), [.tmp 38], none, [], none⟩,
  ⟨some 37, .mov, [.tmp 39], none, [], none⟩,
  ⟨some 40, (.ext 0), [.tmp 37], none, [], none⟩,
  ⟨some 41, (.ext 1), [.tmp 37], none, [], none⟩,
  ⟨some 9, .mov, [.tmp 40], none, [], none⟩,
  ⟨some 10, .mov, [.tmp 41], none, [], none⟩] false [0, 1, 4, 5, 6, 7, 8, 9, 10, 11, 12, 13, 14, 15, 16, 24, 66, 68, 82, 84, 97])
  (.seq (.reg [
  ⟨some 43, .mov, [.tmp 1], none, [], none⟩,
  ⟨some 44, (.call 38), [.tmp 43], none, [], none⟩,
  ⟨some 42, .mov, [.tmp 44], none, [], none⟩,
  ⟨some 45, (.ext 0), [.tmp 42], none, [], none⟩,
  ⟨some 46, (.ext 1), [.tmp 42], none, [], none⟩,
  ⟨some 11, .mov, [.tmp 45], none, [], none⟩,
  ⟨some 12, .mov, [.tmp 46], none, [], none⟩] false [0, 1, 4, 5, 6, 7, 8, 9, 10, 11, 12, 13, 14, 15, 16, 24, 66, 68, 82, 84, 97])
  (.seq (.seq (.reg [
  ⟨some 47, .mov, [.tmp 5], none, [], none⟩,
  ⟨some 48, .mov, [.tmp 7], none, [], none⟩,
  ⟨some 49, (.call 39), [.tmp 47, .tmp 48], none, [], none⟩,
  ⟨some 50, .not, [.tmp 49], none, [], none⟩,
  ⟨some 51, .mov, [.tmp 50], none, [], none⟩,
  ⟨some 52, .mov, [.tmp 6], some (51, false), [], none⟩,
  ⟨some 53, .mov, [.tmp 8], some (51, false), [], none⟩,
  ⟨some 54, (.bin .neq), [.tmp 52, .tmp 53], some (51, false), [], none⟩,
  ⟨some 55, .pick, [.tmp 51, .const (.bool true), .tmp 54], none, [], none⟩,
  ⟨some 56, .mov, [.tmp 55], none, [], none⟩,
  ⟨some 57, .mov, [.tmp 9], some (56, false), [], none⟩,
  ⟨some 58, .mov, [.tmp 11], some (56, false), [], none⟩,
  ⟨some 59, (.call 27), [.tmp 57, .tmp 58], some (56, false), [], none⟩,
  ⟨some 60, .not, [.tmp 59], some (56, false), [], none⟩,
  ⟨some 61, .pick, [.tmp 56, .const (.bool true), .tmp 60], none, [], none⟩,
  ⟨some 62, .mov, [.tmp 61], none, [], none⟩,
  ⟨some 63, .mov, [.tmp 10], some (62, false), [], none⟩,
  ⟨some 64, .mov, [.tmp 12], some (62, false), [], none⟩,
  ⟨some 65, (.bin .neq), [.tmp 63, .tmp 64], some (62, false), [], none⟩,
  ⟨some 66, .pick, [.tmp 62, .const (.bool true), .tmp 65], none, [], none⟩] false [0, 1, 4, 5, 6, 7, 8, 9, 10, 11, 12, 13, 14, 15, 16, 24, 66, 68, 82, 84, 97])
  (.cond (.tmp 66) (.seq (.reg [
  ⟨some 4, .mov, [.const (.bool false)], none, [], none⟩] false [0, 1, 4, 5, 6, 7, 8, 9, 10, 11, 12, 13, 14, 15, 16, 24, 66, 68, 82, 84, 97])
  (.ret)) (.skip)))
  (.seq (.seq (.reg [
  ⟨some 67, .mov, [.tmp 6], none, [], none⟩,
  ⟨some 68, (.bin .eql), [.tmp 67, .const (.int .i64 0)], none, [], none⟩] false [0, 1, 4, 5, 6, 7, 8, 9, 10, 11, 12, 13, 14, 15, 16, 24, 66, 68, 82, 84, 97])
  (.cond (.tmp 68) (.seq (.reg [
  ⟨some 70, .mov, [.tmp 5], none, [], none⟩,
  ⟨some 71, (.call 37), [.tmp 70], none, [], none⟩,
  ⟨some 69, .mov, [.tmp 71], none, [], none⟩,
  ⟨some 72, (.ext 0), [.tmp 69], none, [], none⟩,
  ⟨some 73, (.ext 1), [.tmp 69], none, [], none⟩,
  ⟨some 13, .mov, [.tmp 72], none, [], none⟩,
  ⟨some 14, .mov, [.tmp 73], none, [], none⟩] false [0, 1, 4, 5, 6, 7, 8, 9, 10, 11, 12, 13, 14, 15, 16, 24, 66, 68, 82, 84, 97])
  (.seq (.reg [
  ⟨some 74, .mov, [.tmp 14], none, [], none⟩,
  ⟨some 75, (.bin .neq), [.tmp 74, .const (.int .i64 0)], none, [], none⟩,
  ⟨some 76, .mov, [.tmp 75], none, [], none⟩,
  ⟨some 77, .mov, [.tmp 13], some (76, false), [], none⟩,
  ⟨some 78, .mov, [.tmp 0], some (76, false), [], none⟩,
  ⟨some 79, (.call 18), [.tmp 78], some (76, false), [], none⟩,
  ⟨some 80, (.call 27), [.tmp 77, .tmp 79], some (76, false), [], none⟩,
  ⟨some 81, .not, [.tmp 80], some (76, false), [], none⟩,
  ⟨some 82, .pick, [.tmp 76, .const (.bool true), .tmp 81], none, [], none⟩] false [0, 1, 4, 5, 6, 7, 8, 9, 10, 11, 12, 13, 14, 15, 16, 24, 66, 68, 82, 84, 97])
  (.cond (.tmp 82) (.seq (.reg [
  ⟨some 4, .mov, [.const (.bool false)], none, [], none⟩] false [0, 1, 4, 5, 6, 7, 8, 9, 10, 11, 12, 13, 14, 15, 16, 24, 66, 68, 82, 84, 97])
  (.ret)) (.skip)))) (.skip)))
  (.seq (.seq (.reg [
  ⟨some 83, .mov, [.tmp 10], none, [], none⟩,
  ⟨some 84, (.bin .eql), [.tmp 83, .const (.int .i64 0)], none, [], none⟩] false [0, 1, 4, 5, 6, 7, 8, 9, 10, 11, 12, 13, 14, 15, 16, 24, 66, 68, 82, 84, 97])
  (.cond (.tmp 84) (.seq (.reg [
  ⟨some 86, .mov, [.tmp 9], none, [], none⟩,
  ⟨some 87, (.call 35), [.tmp 86], none, [], none⟩,
  ⟨some 85, .mov, [.tmp 87], none, [], none⟩,
  ⟨some 88, (.ext 0), [.tmp 85], none, [], none⟩,
  ⟨some 89, (.ext 1), [.tmp 85], none, [], none⟩,
  ⟨some 15, .mov, [.tmp 88], none, [], none⟩,
  ⟨some 16, .mov, [.tmp 89], none, [], none⟩] false [0, 1, 4, 5, 6, 7, 8, 9, 10, 11, 12, 13, 14, 15, 16, 24, 66, 68, 82, 84, 97])
  (.seq (.reg [
  ⟨some 90, .mov, [.tmp 16], none, [], none⟩,
  ⟨some 91, (.bin .neq), [.tmp 90, .const (.int .i64 0)], none, [], none⟩,
  ⟨some 92, .mov, [.tmp 91], none, [], none⟩,
  ⟨some 93, .mov, [.tmp 15], some (92, false), [], none⟩,
  ⟨some 94, .mov, [.tmp 1], some (92, false), [], none⟩,
  ⟨some 95, (.call 39), [.tmp 93, .tmp 94], some (92, false), [], none⟩,
  ⟨some 96, .not, [.tmp 95], some (92, false), [], none⟩,
  ⟨some 97, .pick, [.tmp 92, .const (.bool true), .tmp 96], none, [], none⟩] false [0, 1, 4, 5, 6, 7, 8, 9, 10, 11, 12, 13, 14, 15, 16, 24, 66, 68, 82, 84, 97])
  (.cond (.tmp 97) (.seq (.reg [
  ⟨some 4, .mov, [.const (.bool false)], none, [], none⟩] false [0, 1, 4, 5, 6, 7, 8, 9, 10, 11, 12, 13, 14, 15, 16, 24, 66, 68, 82, 84, 97])
  (.ret)) (.skip)))) (.skip)))
  (.seq (.reg [
  ⟨some 98, (.call 17), [], none, [], none⟩,
  ⟨some 4, .mov, [.tmp 98], none, [], none⟩] false [0, 1, 4, 5, 6, 7, 8, 9, 10, 11, 12, 13, 14, 15, 16, 24, 66, 68, 82, 84, 97])
  (.ret))))))))))
def keep5 : List Nat := [0, 1, 4, 5, 6, 7, 8, 9, 10, 11, 12, 13, 14, 15, 16, 24, 66, 68, 82, 84, 97]
theorem fn5 : compFn Try.prog 5 keep5 = some ⟨99, 2, [(4, none)], body5⟩ := by kernel_rfl

/- chartroom/chartroomlaw17.CatalogKnown -/
def body6 : AC :=
  .seq (.reg [
  ⟨some 0, .mov, [.const (.bool false)], none, [], none⟩] false [0, 1, 2, 3, 4, 5, 6, 7, 9, 10, 11, 14, 18, 26, 41, 47, 85, 106, 133, 167])
  (.seq (.reg [
  ⟨some 12, (.bsl 9 1), [.const (.string ⟨#[]⟩), .const (.string ⟨#[97]⟩), .const (.string ⟨#[98]⟩), .const (.string ⟨#[98, 97]⟩), .const (.string ⟨#[255]⟩), .const (.string ⟨#[99]⟩)], none, [], none⟩,
  ⟨some 1, .mov, [.tmp 12], none, [], none⟩] false [0, 1, 2, 3, 4, 5, 6, 7, 9, 10, 11, 14, 18, 26, 41, 47, 85, 106, 133, 167])
  (.seq (.seq (.reg [
  ⟨some 2, .mov, [.const (.int .i64 0)], none, [], none⟩] false [0, 1, 2, 3, 4, 5, 6, 7, 9, 10, 11, 14, 18, 26, 41, 47, 85, 106, 133, 167])
  (.block 0 (.loop (.seq (.seq (.reg [
   ⟨some 13, .mov, [.tmp 2], none, [], none⟩,
   ⟨some 14, (.bin .lss), [.tmp 13, .const (.int .i64 32)], none, [], none⟩] false [0, 1, 2, 3, 4, 5, 6, 7, 9, 10, 11, 14, 18, 26, 41, 47, 85, 106, 133, 167])
   (.cond (.tmp 14) (.skip) (.exit 0)))
   (.seq (.block 1 (.seq (.reg [
   ⟨some 3, (.nilS 51), [], none, [], none⟩] false [0, 1, 2, 3, 4, 5, 6, 7, 9, 10, 11, 14, 18, 26, 41, 47, 85, 106, 133, 167])
   (.seq (.seq (.reg [
   ⟨some 4, .mov, [.const (.int .i64 1)], none, [], none⟩] false [0, 1, 2, 3, 4, 5, 6, 7, 9, 10, 11, 14, 18, 26, 41, 47, 85, 106, 133, 167])
   (.block 2 (.loop (.seq (.seq (.reg [
    ⟨some 17, .mov, [.tmp 4], none, [], none⟩,
    ⟨some 18, (.bin .lss), [.tmp 17, .const (.int .i64 6)], none, [], none⟩] false [0, 1, 2, 3, 4, 5, 6, 7, 9, 10, 11, 14, 18, 26, 41, 47, 85, 106, 133, 167])
    (.cond (.tmp 18) (.skip) (.exit 2)))
    (.seq (.block 3 (.seq (.reg [
    ⟨some 21, .mov, [.tmp 2], none, [], none⟩,
    ⟨some 22, .mov, [.tmp 4], none, [], none⟩,
    ⟨some 23, (.bin .sub), [.tmp 22, .const (.int .i64 1)], none, [], none⟩,
    ⟨some 24, (.bin .shr), [.tmp 21, .tmp 23], none, [], none⟩,
    ⟨some 25, (.bin .rem), [.tmp 24, .const (.int .i64 2)], none, [], none⟩,
    ⟨some 26, (.bin .eql), [.tmp 25, .const (.int .i64 1)], none, [], none⟩] false [0, 1, 2, 3, 4, 5, 6, 7, 9, 10, 11, 14, 18, 26, 41, 47, 85, 106, 133, 167])
    (.cond (.tmp 26) (.reg [
    ⟨some 27, .mov, [.tmp 3], none, [], none⟩,
    ⟨some 28, (.bsl 9 1), [.const (.string ⟨#[]⟩), .const (.string ⟨#[97]⟩), .const (.string ⟨#[98]⟩), .const (.string ⟨#[98, 97]⟩), .const (.string ⟨#[99]⟩), .const (.string ⟨#[255]⟩)], none, [], none⟩,
    ⟨some 29, .mov, [.tmp 4], none, [], none⟩,
    ⟨some 30, (.ixa 9 1), [.tmp 28, .tmp 29], none, [], none⟩,
    ⟨some 31, (.load none), [.tmp 30], none, [], none⟩,
    ⟨some 32, .mov, [.tmp 4], none, [], none⟩,
    ⟨some 33, (.bin .sub), [.const (.int .i64 7), .tmp 32], none, [], none⟩,
    ⟨some 34, (.cvi .u64), [.tmp 33], none, [], none⟩,
    ⟨some 35, (.bld [(.string ⟨#[]⟩), (.int .u64 0)] [(0, 1), (1, 1)]), [.tmp 31, .tmp 34], none, [], none⟩,
    ⟨some 36, (.bsl 51 2), [.tmp 35], none, [], none⟩,
    ⟨some 37, (.app 51 2 24), [.tmp 27, .tmp 36], none, [], none⟩,
    ⟨some 3, .mov, [.tmp 37], none, [], none⟩] false [0, 1, 2, 3, 4, 5, 6, 7, 9, 10, 11, 14, 18, 26, 41, 47, 85, 106, 133, 167]) (.skip))))
    (.reg [
    ⟨some 19, .mov, [.tmp 4], none, [], none⟩,
    ⟨some 20, (.bin .add), [.tmp 19, .const (.int .i64 1)], none, [], none⟩,
    ⟨some 4, .mov, [.tmp 20], none, [], none⟩] false [0, 1, 2, 3, 4, 5, 6, 7, 9, 10, 11, 14, 18, 26, 41, 47, 85, 106, 133, 167]))))))
   (.seq (.seq (.reg [
   ⟨some 5, .mov, [.const (.int .i64 0)], none, [], none⟩] false [0, 1, 2, 3, 4, 5, 6, 7, 9, 10, 11, 14, 18, 26, 41, 47, 85, 106, 133, 167])
   (.block 4 (.loop (.seq (.seq (.reg [
    ⟨some 38, .mov, [.tmp 5], none, [], none⟩,
    ⟨some 39, .mov, [.tmp 1], none, [], none⟩,
    ⟨some 40, .len, [.tmp 39], none, [], none⟩,
    ⟨some 41, (.bin .lss), [.tmp 38, .tmp 40], none, [], none⟩] false [0, 1, 2, 3, 4, 5, 6, 7, 9, 10, 11, 14, 18, 26, 41, 47, 85, 106, 133, 167])
    (.cond (.tmp 41) (.skip) (.exit 4)))
    (.seq (.block 5 (.seq (.reg [
    ⟨some 6, .mov, [.const (.int .i64 0)], none, [], none⟩] false [0, 1, 2, 3, 4, 5, 6, 7, 9, 10, 11, 14, 18, 26, 41, 47, 85, 106, 133, 167])
    (.block 6 (.loop (.seq (.seq (.reg [
     ⟨some 44, .mov, [.tmp 6], none, [], none⟩,
     ⟨some 45, .mov, [.tmp 1], none, [], none⟩,
     ⟨some 46, .len, [.tmp 45], none, [], none⟩,
     ⟨some 47, (.bin .lss), [.tmp 44, .tmp 46], none, [], none⟩] false [0, 1, 2, 3, 4, 5, 6, 7, 9, 10, 11, 14, 18, 26, 41, 47, 85, 106, 133, 167])
     (.cond (.tmp 47) (.skip) (.exit 6)))
     (.seq (.block 7 (.seq (.reg (
     ⟨some 50, .mov, [.tmp 3], none, [], none⟩ ::
     ⟨some 51, .mov, [.tmp 1], none, [], none⟩ ::
     ⟨some 52, .mov, [.tmp 5], none, [], none⟩ ::
     ⟨some 53, (.ixa 9 1), [.tmp 51, .tmp 52], none, [], none⟩ ::
     ⟨some 54, (.load none), [.tmp 53], none, [], none⟩ ::
     ⟨some 55, .mov, [.tmp 1], none, [], none⟩ ::
     ⟨some 56, .mov, [.tmp 6], none, [], none⟩ ::
     ⟨some 57, (.ixa 9 1), [.tmp 55, .tmp 56], none, [], none⟩ ::
     ⟨some 58, (.load none), [.tmp 57], none, [], none⟩ ::
     ⟨some 59, .mov, [.tmp 6], none, [], none⟩ ::
     ⟨some 60, (.cvi .u64), [.tmp 59], none, [], none⟩ ::
     ⟨some 61, (.call 3), [.tmp 50, .tmp 54, .tmp 58, .tmp 60], none, [], (some 999999)⟩ ::
     ⟨some 62, .not, [.tmp 61], none, [], none⟩ ::
     ⟨some 63, .mov, [.tmp 62], none, [], none⟩ ::
     ⟨some 64, .mov, [.tmp 3], some (63, false), [], none⟩ ::
     ⟨some 65, .mov, [.tmp 1], some (63, false), [], none⟩ ::
     ⟨some 66, .mov, [.tmp 5], some (63, false), [], none⟩ ::
     ⟨some 67, (.ixa 9 1), [.tmp 65, .tmp 66], some (63, false), [], none⟩ ::
     ⟨some 68, (.load none), [.tmp 67], some (63, false), [], none⟩ ::
     ⟨some 69, .mov, [.tmp 1], some (63, false), [], none⟩ ::
     ⟨some 70, .mov, [.tmp 6], some (63, false), [], none⟩ ::
     ⟨some 71, (.ixa 9 1), [.tmp 69, .tmp 70], some (63, false), [], none⟩ ::
     ⟨some 72, (.load none), [.tmp 71], some (63, false), [], none⟩ ::
     ⟨some 73, .mov, [.tmp 1], some (63, false), [], none⟩ ::
     ⟨some 74, .mov, [.tmp 5], some (63, false), [], none⟩ ::
     ⟨some 75, .mov, [.tmp 6], some (63, false), [], none⟩ ::
     ⟨some 76, (.bin .add), [.tmp 74, .tmp 75], some (63, false), [], none⟩ ::
     ⟨some 77, (.bin .rem), [.tmp 76, .const (.int .i64 6)], some (63, false), [], none⟩ ::
     ⟨some 78, (.ixa 9 1), [.tmp 73, .tmp 77], some (63, false), [], none⟩ ::
     ⟨some 79, (.load none), [.tmp 78], some (63, false), [], none⟩ ::
     ⟨some 80, .mov, [.tmp 6], some (63, false), [], none⟩ ::
     ⟨some 81, (.bin .add), [.const (.int .i64 9), .tmp 80], some (63, false), [], none⟩ ::
     ⟨some 82, (.cvi .u64), [.tmp 81], some (63, false), [], none⟩ ::
     ⟨some 83, (.call 4), [.tmp 64, .tmp 68, .tmp 72, .tmp 79, .tmp 82], some (63, false), [], none⟩ ::
     ⟨some 84, .not, [.tmp 83], some (63, false), [], none⟩ ::
     ⟨some 85, .pick, [.tmp 63, .const (.bool true), .tmp 84], none, [], none⟩ :: []) true [0, 1, 2, 3, 4, 5, 6, 7, 9, 10, 11, 14, 18, 26, 41, 47, 85, 106, 133, 167])
     (.cond (.tmp 85) (.seq (.reg [
     ⟨some 0, .mov, [.const (.bool false)], none, [], none⟩] false [0, 1, 2, 3, 4, 5, 6, 7, 9, 10, 11, 14, 18, 26, 41, 47, 85, 106, 133, 167])
     (.ret)) (.skip))))
     (.reg [
     ⟨some 48, .mov, [.tmp 6], none, [], none⟩,
     ⟨some 49, (.bin .add), [.tmp 48, .const (.int .i64 1)], none, [], none⟩,
     ⟨some 6, .mov, [.tmp 49], none, [], none⟩] false [0, 1, 2, 3, 4, 5, 6, 7, 9, 10, 11, 14, 18, 26, 41, 47, 85, 106, 133, 167])))))))
    (.reg [
    ⟨some 42, .mov, [.tmp 5], none, [], none⟩,
    ⟨some 43, (.bin .add), [.tmp 42, .const (.int .i64 1)], none, [], none⟩,
    ⟨some 5, .mov, [.tmp 43], none, [], none⟩] false [0, 1, 2, 3, 4, 5, 6, 7, 9, 10, 11, 14, 18, 26, 41, 47, 85, 106, 133, 167]))))))
   (.seq (.reg [
   ⟨some 87, .mov, [.tmp 3], none, [], none⟩,
   ⟨some 88, (.call 35), [.tmp 87], none, [], none⟩,
   ⟨some 86, .mov, [.tmp 88], none, [], none⟩,
   ⟨some 89, (.ext 0), [.tmp 86], none, [], none⟩,
   ⟨some 90, (.ext 1), [.tmp 86], none, [], none⟩,
   ⟨some 7, .mov, [.tmp 89], none, [], none⟩,
   ⟨some 8, .mov, [.tmp 90], none, [], none⟩] false [0, 1, 2, 3, 4, 5, 6, 7, 9, 10, 11, 14, 18, 26, 41, 47, 85, 106, 133, 167])
   (.seq (.reg [
   ⟨some 91, .mov, [.tmp 3], none, [], none⟩,
   ⟨some 92, .mov, [.tmp 7], none, [], none⟩,
   ⟨some 93, .mov, [.tmp 1], none, [], none⟩,
   ⟨some 94, .mov, [.tmp 2], none, [], none⟩,
   ⟨some 95, (.bin .rem), [.tmp 94, .const (.int .i64 6)], none, [], none⟩,
   ⟨some 96, (.ixa 9 1), [.tmp 93, .tmp 95], none, [], none⟩,
   ⟨some 97, (.load none), [.tmp 96], none, [], none⟩,
   ⟨some 98, (.app 5 1 1), [.tmp 92, .tmp 97], none, [], (some 999998)⟩,
   ⟨some 99, (.call 5), [.tmp 91, .tmp 98], none, [], none⟩,
   ⟨some 100, .not, [.tmp 99], none, [], none⟩,
   ⟨some 101, .mov, [.tmp 100], none, [], none⟩,
   ⟨some 102, .mov, [.tmp 3], some (101, false), [], none⟩,
   ⟨some 103, .mov, [.tmp 7], some (101, false), [], none⟩,
   ⟨some 104, (.call 5), [.tmp 102, .tmp 103], some (101, false), [], none⟩,
   ⟨some 105, .not, [.tmp 104], some (101, false), [], none⟩,
   ⟨some 106, .pick, [.tmp 101, .const (.bool true), .tmp 105], none, [], none⟩] false [0, 1, 2, 3, 4, 5, 6, 7, 9, 10, 11, 14, 18, 26, 41, 47, 85, 106, 133, 167])
   (.cond (.tmp 106) (.seq (.reg [
   ⟨some 0, .mov, [.const (.bool false)], none, [], none⟩] false [0, 1, 2, 3, 4, 5, 6, 7, 9, 10, 11, 14, 18, 26, 41, 47, 85, 106, 133, 167])
   (.ret)) (.skip))))))))
   (.reg [
   ⟨some 15, .mov, [.tmp 2], none, [], none⟩,
   ⟨some 16, (.bin .add), [.tmp 15, .const (.int .i64 1)], none, [], none⟩,
   ⟨some 2, .mov, [.tmp 16], none, [], none⟩] false [0, 1, 2, 3, 4, 5, 6, 7, 9, 10, 11, 14, 18, 26, 41, 47, 85, 106, 133, 167]))))))
  (.seq (.reg [
  ⟨some 107, (.ex (.mks 5 1 [(.int .u8 0)])), [.const (.int .i64 64), .const (.int .i64 64)], none, [], none⟩,
  ⟨some 108, .btoS, [.tmp 107], none, [], none⟩,
  ⟨some 9, .mov, [.tmp 108], none, [], none⟩] false [0, 1, 2, 3, 4, 5, 6, 7, 9, 10, 11, 14, 18, 26, 41, 47, 85, 106, 133, 167])
  (.seq (.reg [
  ⟨some 109, (.bld [(.string ⟨#[]⟩), (.int .u64 0)] [(0, 1), (1, 1)]), [.const (.string ⟨#[]⟩), .const (.int .u64 1)], none, [], none⟩,
  ⟨some 110, (.bsl 51 2), [.tmp 109], none, [], none⟩,
  ⟨some 111, (.bld [(.string ⟨#[]⟩), (.int .u64 0)] [(0, 1)]), [.const (.string ⟨#[97]⟩)], none, [], none⟩,
  ⟨some 112, (.bsl 51 2), [.tmp 111], none, [], none⟩,
  ⟨some 113, (.bld [(.string ⟨#[]⟩), (.int .u64 0)] [(0, 1), (1, 1)]), [.const (.string ⟨#[97]⟩), .const (.int .u64 1)], none, [], none⟩,
  ⟨some 114, (.bld [(.string ⟨#[]⟩), (.int .u64 0)] [(0, 1), (1, 1)]), [.const (.string ⟨#[98]⟩), .const (.int .u64 1)], none, [], none⟩,
  ⟨some 115, (.bsl 51 2), [.tmp 113, .tmp 114], none, [], none⟩,
  ⟨some 116, (.bld [(.string ⟨#[]⟩), (.int .u64 0)] [(0, 1), (1, 1)]), [.const (.string ⟨#[98]⟩), .const (.int .u64 1)], none, [], none⟩,
  ⟨some 117, (.bld [(.string ⟨#[]⟩), (.int .u64 0)] [(0, 1), (1, 1)]), [.const (.string ⟨#[97]⟩), .const (.int .u64 2)], none, [], none⟩,
  ⟨some 118, (.bsl 51 2), [.tmp 116, .tmp 117], none, [], none⟩,
  ⟨some 119, (.bld [(.string ⟨#[]⟩), (.int .u64 0)] [(0, 1), (1, 1)]), [.const (.string ⟨#[97]⟩), .const (.int .u64 1)], none, [], none⟩,
  ⟨some 120, (.bld [(.string ⟨#[]⟩), (.int .u64 0)] [(0, 1), (1, 1)]), [.const (.string ⟨#[97]⟩), .const (.int .u64 2)], none, [], none⟩,
  ⟨some 121, (.bsl 51 2), [.tmp 119, .tmp 120], none, [], none⟩,
  ⟨some 122, .mov, [.tmp 9], none, [], none⟩,
  ⟨some 123, (.bin .add), [.tmp 122, .const (.string ⟨#[97]⟩)], none, [], none⟩,
  ⟨some 124, (.bld [(.string ⟨#[]⟩), (.int .u64 0)] [(0, 1), (1, 1)]), [.tmp 123, .const (.int .u64 1)], none, [], none⟩,
  ⟨some 125, (.bsl 51 2), [.tmp 124], none, [], none⟩,
  ⟨some 126, .mov, [.tmp 9], none, [], none⟩,
  ⟨some 127, (.bld [(.string ⟨#[]⟩), (.int .u64 0)] [(0, 1), (1, 1)]), [.tmp 126, .const (.int .u64 1)], none, [], none⟩,
  ⟨some 128, (.bsl 51 2), [.tmp 127], none, [], none⟩,
  ⟨some 129, (.ex (.bslk 23)), [.tmp 110, .tmp 112, .tmp 115, .tmp 118, .tmp 121, .tmp 125, .tmp 128], none, [], none⟩,
  ⟨some 10, .mov, [.tmp 129], none, [], none⟩] false [0, 1, 2, 3, 4, 5, 6, 7, 9, 10, 11, 14, 18, 26, 41, 47, 85, 106, 133, 167])
  (.seq (.seq (.reg [
  ⟨some 11, .mov, [.const (.int .i64 0)], none, [], none⟩] false [0, 1, 2, 3, 4, 5, 6, 7, 9, 10, 11, 14, 18, 26, 41, 47, 85, 106, 133, 167])
  (.block 8 (.loop (.seq (.seq (.reg [
   ⟨some 130, .mov, [.tmp 11], none, [], none⟩,
   ⟨some 131, .mov, [.tmp 10], none, [], none⟩,
   ⟨some 132, .len, [.tmp 131], none, [], none⟩,
   ⟨some 133, (.bin .lss), [.tmp 130, .tmp 132], none, [], none⟩] false [0, 1, 2, 3, 4, 5, 6, 7, 9, 10, 11, 14, 18, 26, 41, 47, 85, 106, 133, 167])
   (.cond (.tmp 133) (.skip) (.exit 8)))
   (.seq (.block 9 (.seq (.reg (
   ⟨some 136, .mov, [.tmp 10], none, [], none⟩ ::
   ⟨some 137, .mov, [.tmp 11], none, [], none⟩ ::
   ⟨some 138, (.ixa 23 1), [.tmp 136, .tmp 137], none, [], none⟩ ::
   ⟨some 139, (.load none), [.tmp 138], none, [], none⟩ ::
   ⟨some 140, .mov, [.tmp 9], none, [], none⟩ ::
   ⟨some 141, (.call 3), [.tmp 139, .const (.string ⟨#[97]⟩), .tmp 140, .const (.int .u64 3)], none, [], none⟩ ::
   ⟨some 142, .not, [.tmp 141], none, [], none⟩ ::
   ⟨some 143, .mov, [.tmp 142], none, [], none⟩ ::
   ⟨some 144, .mov, [.tmp 10], some (143, false), [], none⟩ ::
   ⟨some 145, .mov, [.tmp 11], some (143, false), [], none⟩ ::
   ⟨some 146, (.ixa 23 1), [.tmp 144, .tmp 145], some (143, false), [], none⟩ ::
   ⟨some 147, (.load none), [.tmp 146], some (143, false), [], none⟩ ::
   ⟨some 148, .mov, [.tmp 9], some (143, false), [], none⟩ ::
   ⟨some 149, .mov, [.tmp 9], some (143, false), [], none⟩ ::
   ⟨some 150, (.bin .add), [.tmp 149, .const (.string ⟨#[97]⟩)], some (143, false), [], none⟩ ::
   ⟨some 151, (.call 3), [.tmp 147, .tmp 148, .tmp 150, .const (.int .u64 3)], some (143, false), [], none⟩ ::
   ⟨some 152, .not, [.tmp 151], some (143, false), [], none⟩ ::
   ⟨some 153, .pick, [.tmp 143, .const (.bool true), .tmp 152], none, [], none⟩ ::
   ⟨some 154, .mov, [.tmp 153], none, [], none⟩ ::
   ⟨some 155, .mov, [.tmp 10], some (154, false), [], none⟩ ::
   ⟨some 156, .mov, [.tmp 11], some (154, false), [], none⟩ ::
   ⟨some 157, (.ixa 23 1), [.tmp 155, .tmp 156], some (154, false), [], none⟩ ::
   ⟨some 158, (.load none), [.tmp 157], some (154, false), [], none⟩ ::
   ⟨some 159, .mov, [.tmp 11], some (154, false), [], none⟩ ::
   ⟨some 160, (.bin .rem), [.tmp 159, .const (.int .i64 2)], some (154, false), [], none⟩ ::
   ⟨some 161, (.cvi .u8), [.tmp 160], some (154, false), [], none⟩ ::
   ⟨some 162, .mov, [.tmp 11], some (154, false), [], none⟩ ::
   ⟨some 163, (.cvi .u8), [.tmp 162], some (154, false), [], none⟩ ::
   ⟨some 164, (.bsl 5 1), [.const (.int .u8 1), .const (.int .u8 1), .const (.int .u8 97), .tmp 161, .tmp 163], some (154, false), [], none⟩ ::
   ⟨some 165, (.call 5), [.tmp 158, .tmp 164], some (154, false), [], none⟩ ::
   ⟨some 166, .not, [.tmp 165], some (154, false), [], none⟩ ::
   ⟨some 167, .pick, [.tmp 154, .const (.bool true), .tmp 166], none, [], none⟩ :: []) false [0, 1, 2, 3, 4, 5, 6, 7, 9, 10, 11, 14, 18, 26, 41, 47, 85, 106, 133, 167])
   (.cond (.tmp 167) (.seq (.reg [
   ⟨some 0, .mov, [.const (.bool false)], none, [], none⟩] false [0, 1, 2, 3, 4, 5, 6, 7, 9, 10, 11, 14, 18, 26, 41, 47, 85, 106, 133, 167])
   (.ret)) (.skip))))
   (.reg [
   ⟨some 134, .mov, [.tmp 11], none, [], none⟩,
   ⟨some 135, (.bin .add), [.tmp 134, .const (.int .i64 1)], none, [], none⟩,
   ⟨some 11, .mov, [.tmp 135], none, [], none⟩] false [0, 1, 2, 3, 4, 5, 6, 7, 9, 10, 11, 14, 18, 26, 41, 47, 85, 106, 133, 167]))))))
  (.seq (.reg [
  ⟨some 168, (.bsl 5 1), [.const (.int .u8 2), .const (.int .u8 1), .const (.int .u8 98), .const (.int .u8 1), .const (.int .u8 1), .const (.int .u8 97), .const (.int .u8 2)], none, [], none⟩,
  ⟨some 169, (.call 5), [.const (.slice none 0 0), .tmp 168], none, [], none⟩,
  ⟨some 170, .mov, [.tmp 169], none, [], none⟩,
  ⟨some 171, (.bsl 5 1), [.const (.int .u8 2), .const (.int .u8 1), .const (.int .u8 97), .const (.int .u8 1)], some (170, true), [], none⟩,
  ⟨some 172, (.call 5), [.const (.slice none 0 0), .tmp 171], some (170, true), [], none⟩,
  ⟨some 173, .pick, [.tmp 170, .tmp 172, .const (.bool false)], none, [], none⟩,
  ⟨some 174, .mov, [.tmp 173], none, [], none⟩,
  ⟨some 175, (.call 5), [.const (.slice none 0 0), .const (.slice none 0 0)], some (174, true), [], none⟩,
  ⟨some 176, .pick, [.tmp 174, .tmp 175, .const (.bool false)], none, [], none⟩,
  ⟨some 177, .mov, [.tmp 176], none, [], none⟩,
  ⟨some 178, (.call 4), [.const (.slice none 0 0), .const (.string ⟨#[97]⟩), .const (.string ⟨#[98]⟩), .const (.string ⟨#[99]⟩), .const (.int .u64 1)], some (177, true), [], none⟩,
  ⟨some 179, .pick, [.tmp 177, .tmp 178, .const (.bool false)], none, [], none⟩,
  ⟨some 180, .mov, [.tmp 179], none, [], none⟩,
  ⟨some 181, (.call 17), [], some (180, true), [], none⟩,
  ⟨some 182, .pick, [.tmp 180, .tmp 181, .const (.bool false)], none, [], none⟩,
  ⟨some 0, .mov, [.tmp 182], none, [], none⟩] false [0, 1, 2, 3, 4, 5, 6, 7, 9, 10, 11, 14, 18, 26, 41, 47, 85, 106, 133, 167])
  (.ret)))))))
def keep6 : List Nat := [0, 1, 2, 3, 4, 5, 6, 7, 9, 10, 11, 14, 18, 26, 41, 47, 85, 106, 133, 167]
theorem fn6 : compFn Try.prog 6 keep6 = some ⟨183, 0, [(0, none)], body6⟩ := by kernel_rfl

/- chartroom/chartroomlaw17.few -/
def body16 : AC :=
  .seq (.reg [
  ⟨some 2, .mov, [.const (.bool false)], none, [], none⟩] false [0, 2, 3, 11, 20])
  (.seq (.seq (.reg [
  ⟨some 3, .mov, [.const (.int .i64 0)], none, [], none⟩] false [0, 2, 3, 11, 20])
  (.block 0 (.loop (.seq (.seq (.reg [
   ⟨some 4, .mov, [.tmp 3], none, [], none⟩,
   ⟨some 5, .mov, [.tmp 0], none, [], none⟩,
   ⟨some 6, .len, [.tmp 5], none, [], none⟩,
   ⟨some 7, (.bin .lss), [.tmp 4, .tmp 6], none, [], none⟩,
   ⟨some 8, .mov, [.tmp 7], none, [], none⟩,
   ⟨some 9, .mov, [.tmp 3], some (8, true), [], none⟩,
   ⟨some 10, (.bin .lss), [.tmp 9, .const (.int .i64 21)], some (8, true), [], none⟩,
   ⟨some 11, .pick, [.tmp 8, .tmp 10, .const (.bool false)], none, [], none⟩] false [0, 2, 3, 11, 20])
   (.cond (.tmp 11) (.skip) (.exit 0)))
   (.seq (.block 1 (.seq (.reg [
   ⟨some 14, .mov, [.tmp 0], none, [], none⟩,
   ⟨some 15, .mov, [.tmp 3], none, [], none⟩,
   ⟨some 16, (.ixa 51 2), [.tmp 14, .tmp 15], none, [], none⟩,
   ⟨some 17, (.fad 0), [.tmp 16], none, [], none⟩,
   ⟨some 18, (.load none), [.tmp 17], none, [], none⟩,
   ⟨some 19, .slen, [.tmp 18], none, [], none⟩,
   ⟨some 20, (.bin .gtr), [.tmp 19, .const (.int .i64 100)], none, [], none⟩] false [0, 2, 3, 11, 20])
   (.cond (.tmp 20) (.seq (.reg [
   ⟨some 2, .mov, [.const (.bool false)], none, [], none⟩] false [0, 2, 3, 11, 20])
   (.ret)) (.skip))))
   (.reg [
   ⟨some 12, .mov, [.tmp 3], none, [], none⟩,
   ⟨some 13, (.bin .add), [.tmp 12, .const (.int .i64 1)], none, [], none⟩,
   ⟨some 3, .mov, [.tmp 13], none, [], none⟩] false [0, 2, 3, 11, 20]))))))
  (.seq (.reg [
  ⟨some 21, .mov, [.tmp 0], none, [], none⟩,
  ⟨some 22, .len, [.tmp 21], none, [], none⟩,
  ⟨some 23, (.bin .leq), [.tmp 22, .const (.int .i64 20)], none, [], none⟩,
  ⟨some 2, .mov, [.tmp 23], none, [], none⟩] false [0, 2, 3, 11, 20])
  (.ret)))
def keep16 : List Nat := [0, 2, 3, 11, 20]
theorem fn16 : compFn Try.prog 16 keep16 = some ⟨24, 1, [(2, none)], body16⟩ := by kernel_rfl

/- chartroom/chartroomlaw17.works -/
def body17 : AC :=
  .seq (.reg [
  ⟨some 0, .mov, [.const (.bool false)], none, [], none⟩] false [0, 1, 2, 3, 5, 7, 8, 9, 11, 13, 14, 15])
  (.seq (.reg [
  ⟨some 16, (.bld [(.string ⟨#[]⟩), (.int .u64 0)] [(0, 1), (1, 1)]), [.const (.string ⟨#[98]⟩), .const (.int .u64 2)], none, [], none⟩,
  ⟨some 17, (.bld [(.string ⟨#[]⟩), (.int .u64 0)] [(0, 1), (1, 1)]), [.const (.string ⟨#[100]⟩), .const (.int .u64 4)], none, [], none⟩,
  ⟨some 18, (.bsl 51 2), [.tmp 16, .tmp 17], none, [], none⟩,
  ⟨some 1, .mov, [.tmp 18], none, [], none⟩] false [0, 1, 2, 3, 5, 7, 8, 9, 11, 13, 14, 15])
  (.seq (.reg [
  ⟨some 20, .mov, [.tmp 1], none, [], none⟩,
  ⟨some 21, (.call 21), [.tmp 20, .const (.string ⟨#[99]⟩), .const (.int .u64 3)], none, [], none⟩,
  ⟨some 19, .mov, [.tmp 21], none, [], none⟩,
  ⟨some 22, (.ext 0), [.tmp 19], none, [], none⟩,
  ⟨some 23, (.ext 1), [.tmp 19], none, [], none⟩,
  ⟨some 2, .mov, [.tmp 22], none, [], none⟩,
  ⟨some 3, .mov, [.tmp 23], none, [], none⟩] false [0, 1, 2, 3, 5, 7, 8, 9, 11, 13, 14, 15])
  (.seq (.reg [
  ⟨some 25, .mov, [.tmp 1], none, [], none⟩,
  ⟨some 26, (.call 21), [.tmp 25, .const (.string ⟨#[98]⟩), .const (.int .u64 5)], none, [], none⟩,
  ⟨some 24, .mov, [.tmp 26], none, [], none⟩,
  ⟨some 27, (.ext 0), [.tmp 24], none, [], none⟩,
  ⟨some 28, (.ext 1), [.tmp 24], none, [], none⟩,
  ⟨some 4, .mov, [.tmp 27], none, [], none⟩,
  ⟨some 5, .mov, [.tmp 28], none, [], none⟩] false [0, 1, 2, 3, 5, 7, 8, 9, 11, 13, 14, 15])
  (.seq (.reg [
  ⟨some 30, .mov, [.tmp 1], none, [], none⟩,
  ⟨some 31, (.call 21), [.tmp 30, .const (.string ⟨#[101]⟩), .const (.int .u64 4)], none, [], none⟩,
  ⟨some 29, .mov, [.tmp 31], none, [], none⟩,
  ⟨some 32, (.ext 0), [.tmp 29], none, [], none⟩,
  ⟨some 33, (.ext 1), [.tmp 29], none, [], none⟩,
  ⟨some 6, .mov, [.tmp 32], none, [], none⟩,
  ⟨some 7, .mov, [.tmp 33], none, [], none⟩] false [0, 1, 2, 3, 5, 7, 8, 9, 11, 13, 14, 15])
  (.seq (.reg [
  ⟨some 35, .mov, [.tmp 1], none, [], none⟩,
  ⟨some 36, (.call 25), [.tmp 35, .const (.string ⟨#[98]⟩), .const (.string ⟨#[101]⟩)], none, [], none⟩,
  ⟨some 34, .mov, [.tmp 36], none, [], none⟩,
  ⟨some 37, (.ext 0), [.tmp 34], none, [], none⟩,
  ⟨some 38, (.ext 1), [.tmp 34], none, [], none⟩,
  ⟨some 8, .mov, [.tmp 37], none, [], none⟩,
  ⟨some 9, .mov, [.tmp 38], none, [], none⟩] false [0, 1, 2, 3, 5, 7, 8, 9, 11, 13, 14, 15])
  (.seq (.reg [
  ⟨some 40, .mov, [.tmp 1], none, [], none⟩,
  ⟨some 41, (.call 25), [.tmp 40, .const (.string ⟨#[98]⟩), .const (.string ⟨#[100]⟩)], none, [], none⟩,
  ⟨some 39, .mov, [.tmp 41], none, [], none⟩,
  ⟨some 42, (.ext 0), [.tmp 39], none, [], none⟩,
  ⟨some 43, (.ext 1), [.tmp 39], none, [], none⟩,
  ⟨some 10, .mov, [.tmp 42], none, [], none⟩,
  ⟨some 11, .mov, [.tmp 43], none, [], none⟩] false [0, 1, 2, 3, 5, 7, 8, 9, 11, 13, 14, 15])
  (.seq (.reg [
  ⟨some 45, .mov, [.tmp 1], none, [], none⟩,
  ⟨some 46, (.call 25), [.tmp 45, .const (.string ⟨#[120]⟩), .const (.string ⟨#[100]⟩)], none, [], none⟩,
  ⟨some 44, .mov, [.tmp 46], none, [], none⟩,
  ⟨some 47, (.ext 0), [.tmp 44], none, [], none⟩,
  ⟨some 48, (.ext 1), [.tmp 44], none, [], none⟩,
  ⟨some 12, .mov, [.tmp 47], none, [], none⟩,
  ⟨some 13, .mov, [.tmp 48], none, [], none⟩] false [0, 1, 2, 3, 5, 7, 8, 9, 11, 13, 14, 15])
  (.seq (.reg [
  ⟨some 50, .mov, [.tmp 1], none, [], none⟩,
  ⟨some 51, (.call 23), [.tmp 50, .const (.string ⟨#[100]⟩)], none, [], none⟩,
  ⟨some 49, .mov, [.tmp 51], none, [], none⟩,
  ⟨some 52, (.ext 0), [.tmp 49], none, [], none⟩,
  ⟨some 53, (.ext 1), [.tmp 49], none, [], none⟩,
  ⟨some 14, .mov, [.tmp 52], none, [], none⟩,
  ⟨some 15, .mov, [.tmp 53], none, [], none⟩] false [0, 1, 2, 3, 5, 7, 8, 9, 11, 13, 14, 15])
  (.seq (.reg (
  ⟨some 54, .mov, [.tmp 3], none, [], none⟩ ::
  ⟨some 55, (.bin .eql), [.tmp 54, .const (.int .i64 0)], none, [], none⟩ ::
  ⟨some 56, .mov, [.tmp 55], none, [], none⟩ ::
  ⟨some 57, .mov, [.tmp 2], some (56, true), [], none⟩ ::
  ⟨some 58, (.call 31), [.tmp 57], some (56, true), [], none⟩ ::
  ⟨some 59, (.bsl 9 1), [.const (.string ⟨#[98]⟩), .const (.string ⟨#[99]⟩), .const (.string ⟨#[100]⟩)], some (56, true), [], none⟩ ::
  ⟨some 60, (.call 30), [.tmp 58, .tmp 59], some (56, true), [], none⟩ ::
  ⟨some 61, .pick, [.tmp 56, .tmp 60, .const (.bool false)], none, [], none⟩ ::
  ⟨some 62, .mov, [.tmp 61], none, [], none⟩ ::
  ⟨some 63, .mov, [.tmp 5], some (62, true), [], none⟩ ::
  ⟨some 64, (.bin .eql), [.tmp 63, .const (.int .i64 81)], some (62, true), [], none⟩ ::
  ⟨some 65, .pick, [.tmp 62, .tmp 64, .const (.bool false)], none, [], none⟩ ::
  ⟨some 66, .mov, [.tmp 65], none, [], none⟩ ::
  ⟨some 67, .mov, [.tmp 7], some (66, true), [], none⟩ ::
  ⟨some 68, (.bin .eql), [.tmp 67, .const (.int .i64 2)], some (66, true), [], none⟩ ::
  ⟨some 69, .pick, [.tmp 66, .tmp 68, .const (.bool false)], none, [], none⟩ ::
  ⟨some 70, .mov, [.tmp 69], none, [], none⟩ ::
  ⟨some 71, .mov, [.tmp 9], some (70, true), [], none⟩ ::
  ⟨some 72, (.bin .eql), [.tmp 71, .const (.int .i64 0)], some (70, true), [], none⟩ ::
  ⟨some 73, .pick, [.tmp 70, .tmp 72, .const (.bool false)], none, [], none⟩ ::
  ⟨some 74, .mov, [.tmp 73], none, [], none⟩ ::
  ⟨some 75, .mov, [.tmp 8], some (74, true), [], none⟩ ::
  ⟨some 76, (.bld [(.string ⟨#[]⟩), (.int .u64 0)] [(0, 1), (1, 1)]), [.const (.string ⟨#[100]⟩), .const (.int .u64 4)], some (74, true), [], none⟩ ::
  ⟨some 77, (.bld [(.string ⟨#[]⟩), (.int .u64 0)] [(0, 1), (1, 1)]), [.const (.string ⟨#[101]⟩), .const (.int .u64 2)], some (74, true), [], none⟩ ::
  ⟨some 78, (.bsl 147 2), [.tmp 76, .tmp 77], some (74, true), [], none⟩ ::
  ⟨some 79, (.call 27), [.tmp 75, .tmp 78], some (74, true), [], none⟩ ::
  ⟨some 80, .pick, [.tmp 74, .tmp 79, .const (.bool false)], none, [], none⟩ ::
  ⟨some 81, .mov, [.tmp 80], none, [], none⟩ ::
  ⟨some 82, .mov, [.tmp 11], some (81, true), [], none⟩ ::
  ⟨some 83, (.bin .eql), [.tmp 82, .const (.int .i64 81)], some (81, true), [], none⟩ ::
  ⟨some 84, .pick, [.tmp 81, .tmp 83, .const (.bool false)], none, [], none⟩ ::
  ⟨some 85, .mov, [.tmp 84], none, [], none⟩ ::
  ⟨some 86, .mov, [.tmp 13], some (85, true), [], none⟩ ::
  ⟨some 87, (.bin .eql), [.tmp 86, .const (.int .i64 80)], some (85, true), [], none⟩ ::
  ⟨some 88, .pick, [.tmp 85, .tmp 87, .const (.bool false)], none, [], none⟩ ::
  ⟨some 89, .mov, [.tmp 88], none, [], none⟩ ::
  ⟨some 90, .mov, [.tmp 15], some (89, true), [], none⟩ ::
  ⟨some 91, (.bin .eql), [.tmp 90, .const (.int .i64 0)], some (89, true), [], none⟩ ::
  ⟨some 92, .pick, [.tmp 89, .tmp 91, .const (.bool false)], none, [], none⟩ ::
  ⟨some 93, .mov, [.tmp 92], none, [], none⟩ ::
  ⟨some 94, .mov, [.tmp 14], some (93, true), [], none⟩ ::
  ⟨some 95, (.call 31), [.tmp 94], some (93, true), [], none⟩ ::
  ⟨some 96, (.bsl 9 1), [.const (.string ⟨#[98]⟩)], some (93, true), [], none⟩ ::
  ⟨some 97, (.call 30), [.tmp 95, .tmp 96], some (93, true), [], none⟩ ::
  ⟨some 98, .pick, [.tmp 93, .tmp 97, .const (.bool false)], none, [], none⟩ ::
  ⟨some 0, .mov, [.tmp 98], none, [], none⟩ :: []) false [0, 1, 2, 3, 5, 7, 8, 9, 11, 13, 14, 15])
  (.ret))))))))))
def keep17 : List Nat := [0, 1, 2, 3, 5, 7, 8, 9, 11, 13, 14, 15]
theorem fn17 : compFn Try.prog 17 keep17 = some ⟨99, 0, [(0, none)], body17⟩ := by kernel_rfl

/- chartroom/chartroomlaw17.ref -/
def body18 : AC :=
  .seq (.reg [
  ⟨some 2, (.nilS 147), [], none, [], none⟩] false [0, 2, 3, 4, 8])
  (.seq (.reg [
  ⟨some 3, (.nilS 147), [], none, [], none⟩] false [0, 2, 3, 4, 8])
  (.seq (.seq (.reg [
  ⟨some 4, .mov, [.const (.int .i64 0)], none, [], none⟩] false [0, 2, 3, 4, 8])
  (.block 0 (.loop (.seq (.seq (.reg [
   ⟨some 5, .mov, [.tmp 4], none, [], none⟩,
   ⟨some 6, .mov, [.tmp 0], none, [], none⟩,
   ⟨some 7, .len, [.tmp 6], none, [], none⟩,
   ⟨some 8, (.bin .lss), [.tmp 5, .tmp 7], none, [], none⟩] false [0, 2, 3, 4, 8])
   (.cond (.tmp 8) (.skip) (.exit 0)))
   (.seq (.block 1 (.reg [
   ⟨some 11, .mov, [.tmp 3], none, [], none⟩,
   ⟨some 12, .mov, [.tmp 0], none, [], none⟩,
   ⟨some 13, .mov, [.tmp 4], none, [], none⟩,
   ⟨some 14, (.ixa 51 2), [.tmp 12, .tmp 13], none, [], none⟩,
   ⟨some 15, (.fad 0), [.tmp 14], none, [], none⟩,
   ⟨some 16, (.load none), [.tmp 15], none, [], none⟩,
   ⟨some 17, .mov, [.tmp 0], none, [], none⟩,
   ⟨some 18, .mov, [.tmp 4], none, [], none⟩,
   ⟨some 19, (.ixa 51 2), [.tmp 17, .tmp 18], none, [], none⟩,
   ⟨some 20, (.fad 1), [.tmp 19], none, [], none⟩,
   ⟨some 21, (.load none), [.tmp 20], none, [], none⟩,
   ⟨some 22, (.bld [(.string ⟨#[]⟩), (.int .u64 0)] [(0, 1), (1, 1)]), [.tmp 16, .tmp 21], none, [], none⟩,
   ⟨some 23, (.bsl 147 2), [.tmp 22], none, [], none⟩,
   ⟨some 24, (.app 147 2 24), [.tmp 11, .tmp 23], none, [], none⟩,
   ⟨some 3, .mov, [.tmp 24], none, [], none⟩] true [0, 2, 3, 4, 8]))
   (.reg [
   ⟨some 9, .mov, [.tmp 4], none, [], none⟩,
   ⟨some 10, (.bin .add), [.tmp 9, .const (.int .i64 1)], none, [], none⟩,
   ⟨some 4, .mov, [.tmp 10], none, [], none⟩] false [0, 2, 3, 4, 8]))))))
  (.seq (.reg [
  ⟨some 25, .mov, [.tmp 3], none, [], none⟩,
  ⟨some 2, .mov, [.tmp 25], none, [], none⟩] false [0, 2, 3, 4, 8])
  (.ret))))
def keep18 : List Nat := [0, 2, 3, 4, 8]
theorem fn18 : compFn Try.prog 18 keep18 = some ⟨26, 1, [(2, none)], body18⟩ := by kernel_rfl

/- (chartroom/catalog.Catalog).Get -/
def body19 : AC :=
  .seq (.reg [
  ⟨some 4, .mov, [.const (.int .u64 0)], none, [], none⟩,
  ⟨some 5, .mov, [.const (.int .i64 0)], none, [], none⟩] false [0, 1, 4, 5, 6, 7, 8, 14, 22])
  (.seq (.seq (.reg [
  ⟨some 9, .mov, [.tmp 0], none, [], none⟩,
  ⟨some 10, .mov, [.tmp 1], none, [], none⟩,
  ⟨some 11, (.bsl 9 1), [.tmp 10], none, [], none⟩,
  ⟨some 12, (.call 94), [.tmp 9, .tmp 11], none, [], none⟩,
  ⟨some 6, .mov, [.tmp 12], none, [], none⟩] false [0, 1, 4, 5, 6, 7, 8, 14, 22])
  (.seq (.reg [
  ⟨some 13, .mov, [.tmp 6], none, [], none⟩,
  ⟨some 14, (.bin .neq), [.tmp 13, .const (.int .i64 0)], none, [], none⟩] false [0, 1, 4, 5, 6, 7, 8, 14, 22])
  (.cond (.tmp 14) (.seq (.reg [
  ⟨some 15, .mov, [.tmp 6], none, [], none⟩,
  ⟨some 4, .mov, [.const (.int .u64 0)], none, [], none⟩,
  ⟨some 5, .mov, [.tmp 15], none, [], none⟩] false [0, 1, 4, 5, 6, 7, 8, 14, 22])
  (.ret)) (.skip))))
  (.seq (.seq (.reg [
  ⟨some 17, .mov, [.tmp 0], none, [], none⟩,
  ⟨some 18, .mov, [.tmp 1], none, [], none⟩,
  ⟨some 19, (.call 95), [.tmp 17, .tmp 18], none, [], none⟩,
  ⟨some 16, .mov, [.tmp 19], none, [], none⟩,
  ⟨some 20, (.ext 0), [.tmp 16], none, [], none⟩,
  ⟨some 21, (.ext 1), [.tmp 16], none, [], none⟩,
  ⟨some 7, .mov, [.tmp 20], none, [], none⟩,
  ⟨some 8, .mov, [.tmp 21], none, [], none⟩] false [0, 1, 4, 5, 6, 7, 8, 14, 22])
  (.seq (.reg [
  ⟨some 22, .mov, [.tmp 8], none, [], none⟩] false [0, 1, 4, 5, 6, 7, 8, 14, 22])
  (.cond (.tmp 22) (.seq (.reg [
  ⟨some 23, .mov, [.tmp 0], none, [], none⟩,
  ⟨some 24, .mov, [.tmp 7], none, [], none⟩,
  ⟨some 25, (.ixa 51 2), [.tmp 23, .tmp 24], none, [], none⟩,
  ⟨some 26, (.fad 1), [.tmp 25], none, [], none⟩,
  ⟨some 27, (.load none), [.tmp 26], none, [], none⟩,
  ⟨some 4, .mov, [.tmp 27], none, [], none⟩,
  ⟨some 5, .mov, [.const (.int .i64 0)], none, [], none⟩] false [0, 1, 4, 5, 6, 7, 8, 14, 22])
  (.ret)) (.skip))))
  (.seq (.reg [
  ⟨some 4, .mov, [.const (.int .u64 0)], none, [], none⟩,
  ⟨some 5, .mov, [.const (.int .i64 80)], none, [], none⟩] false [0, 1, 4, 5, 6, 7, 8, 14, 22])
  (.ret))))
def keep19 : List Nat := [0, 1, 4, 5, 6, 7, 8, 14, 22]
theorem fn19 : compFn Try.prog 19 keep19 = some ⟨28, 2, [(4, none), (5, none)], body19⟩ := by kernel_rfl

/- chartroom/chartroomref17.Get -/
def body20 : AC :=
  .seq (.reg [
  ⟨some 4, .mov, [.const (.int .u64 0)], none, [], none⟩,
  ⟨some 5, .mov, [.const (.int .i64 0)], none, [], none⟩] false [0, 1, 4, 5, 6, 9, 12, 16, 25])
  (.seq (.seq (.reg [
  ⟨some 7, .mov, [.tmp 0], none, [], none⟩,
  ⟨some 8, (.call 29), [.tmp 7], none, [], none⟩,
  ⟨some 9, .not, [.tmp 8], none, [], none⟩] false [0, 1, 4, 5, 6, 9, 12, 16, 25])
  (.cond (.tmp 9) (.seq (.reg [
  ⟨some 4, .mov, [.const (.int .u64 0)], none, [], none⟩,
  ⟨some 5, .mov, [.const (.int .i64 2)], none, [], none⟩] false [0, 1, 4, 5, 6, 9, 12, 16, 25])
  (.ret)) (.skip)))
  (.seq (.seq (.reg [
  ⟨some 10, .mov, [.tmp 1], none, [], none⟩,
  ⟨some 11, (.call 34), [.tmp 10], none, [], none⟩,
  ⟨some 12, .not, [.tmp 11], none, [], none⟩] false [0, 1, 4, 5, 6, 9, 12, 16, 25])
  (.cond (.tmp 12) (.seq (.reg [
  ⟨some 4, .mov, [.const (.int .u64 0)], none, [], none⟩,
  ⟨some 5, .mov, [.const (.int .i64 170)], none, [], none⟩] false [0, 1, 4, 5, 6, 9, 12, 16, 25])
  (.ret)) (.skip)))
  (.seq (.seq (.reg [
  ⟨some 6, .mov, [.const (.int .i64 0)], none, [], none⟩] false [0, 1, 4, 5, 6, 9, 12, 16, 25])
  (.block 0 (.loop (.seq (.seq (.reg [
   ⟨some 13, .mov, [.tmp 6], none, [], none⟩,
   ⟨some 14, .mov, [.tmp 0], none, [], none⟩,
   ⟨some 15, .len, [.tmp 14], none, [], none⟩,
   ⟨some 16, (.bin .lss), [.tmp 13, .tmp 15], none, [], none⟩] false [0, 1, 4, 5, 6, 9, 12, 16, 25])
   (.cond (.tmp 16) (.skip) (.exit 0)))
   (.seq (.block 1 (.seq (.reg [
   ⟨some 19, .mov, [.tmp 0], none, [], none⟩,
   ⟨some 20, .mov, [.tmp 6], none, [], none⟩,
   ⟨some 21, (.ixa 147 2), [.tmp 19, .tmp 20], none, [], none⟩,
   ⟨some 22, (.fad 0), [.tmp 21], none, [], none⟩,
   ⟨some 23, (.load none), [.tmp 22], none, [], none⟩,
   ⟨some 24, .mov, [.tmp 1], none, [], none⟩,
   ⟨some 25, (.bin .eql), [.tmp 23, .tmp 24], none, [], none⟩] false [0, 1, 4, 5, 6, 9, 12, 16, 25])
   (.cond (.tmp 25) (.seq (.reg [
   ⟨some 26, .mov, [.tmp 0], none, [], none⟩,
   ⟨some 27, .mov, [.tmp 6], none, [], none⟩,
   ⟨some 28, (.ixa 147 2), [.tmp 26, .tmp 27], none, [], none⟩,
   ⟨some 29, (.fad 1), [.tmp 28], none, [], none⟩,
   ⟨some 30, (.load none), [.tmp 29], none, [], none⟩,
   ⟨some 4, .mov, [.tmp 30], none, [], none⟩,
   ⟨some 5, .mov, [.const (.int .i64 0)], none, [], none⟩] false [0, 1, 4, 5, 6, 9, 12, 16, 25])
   (.ret)) (.skip))))
   (.reg [
   ⟨some 17, .mov, [.tmp 6], none, [], none⟩,
   ⟨some 18, (.bin .add), [.tmp 17, .const (.int .i64 1)], none, [], none⟩,
   ⟨some 6, .mov, [.tmp 18], none, [], none⟩] false [0, 1, 4, 5, 6, 9, 12, 16, 25]))))))
  (.seq (.reg [
  ⟨some 4, .mov, [.const (.int .u64 0)], none, [], none⟩,
  ⟨some 5, .mov, [.const (.int .i64 80)], none, [], none⟩] false [0, 1, 4, 5, 6, 9, 12, 16, 25])
  (.ret)))))
def keep20 : List Nat := [0, 1, 4, 5, 6, 9, 12, 16, 25]
theorem fn20 : compFn Try.prog 20 keep20 = some ⟨31, 2, [(4, none), (5, none)], body20⟩ := by kernel_rfl

/- (chartroom/catalog.Catalog).Bind -/
def body21 : AC :=
  .seq (.reg [
  ⟨some 5, .box, [.tmp 2], none, [], none⟩,
  ⟨some 6, (.nilS 51), [], none, [], none⟩,
  ⟨some 7, .mov, [.const (.int .i64 0)], none, [], none⟩] false [0, 1, 2, 5, 6, 7, 8, 9, 10, 16, 24, 26])
  (.seq (.seq (.reg [
  ⟨some 11, .mov, [.tmp 0], none, [], none⟩,
  ⟨some 12, .mov, [.tmp 1], none, [], none⟩,
  ⟨some 13, (.bsl 9 1), [.tmp 12], none, [], none⟩,
  ⟨some 14, (.call 94), [.tmp 11, .tmp 13], none, [], none⟩,
  ⟨some 8, .mov, [.tmp 14], none, [], none⟩] false [0, 1, 2, 5, 6, 7, 8, 9, 10, 16, 24, 26])
  (.seq (.reg [
  ⟨some 15, .mov, [.tmp 8], none, [], none⟩,
  ⟨some 16, (.bin .neq), [.tmp 15, .const (.int .i64 0)], none, [], none⟩] false [0, 1, 2, 5, 6, 7, 8, 9, 10, 16, 24, 26])
  (.cond (.tmp 16) (.seq (.reg [
  ⟨some 17, .mov, [.tmp 8], none, [], none⟩,
  ⟨some 6, (.nilS 51), [], none, [], none⟩,
  ⟨some 7, .mov, [.tmp 17], none, [], none⟩] false [0, 1, 2, 5, 6, 7, 8, 9, 10, 16, 24, 26])
  (.ret)) (.skip))))
  (.seq (.reg [
  ⟨some 19, .mov, [.tmp 0], none, [], none⟩,
  ⟨some 20, .mov, [.tmp 1], none, [], none⟩,
  ⟨some 21, (.call 95), [.tmp 19, .tmp 20], none, [], none⟩,
  ⟨some 18, .mov, [.tmp 21], none, [], none⟩,
  ⟨some 22, (.ext 0), [.tmp 18], none, [], none⟩,
  ⟨some 23, (.ext 1), [.tmp 18], none, [], none⟩,
  ⟨some 9, .mov, [.tmp 22], none, [], none⟩,
  ⟨some 10, .mov, [.tmp 23], none, [], none⟩] false [0, 1, 2, 5, 6, 7, 8, 9, 10, 16, 24, 26])
  (.seq (.block 0 (.seq (.reg [
  ⟨some 25, .mov, [.tmp 10], none, [], none⟩,
  ⟨some 24, .mov, [.tmp 25], none, [], none⟩] false [0, 1, 2, 5, 6, 7, 8, 9, 10, 16, 24, 26])
  (.cond (.tmp 24) (.seq (.reg [
  ⟨some 6, (.nilS 51), [], none, [], none⟩,
  ⟨some 7, .mov, [.const (.int .i64 81)], none, [], none⟩] false [0, 1, 2, 5, 6, 7, 8, 9, 10, 16, 24, 26])
  (.ret)) (.seq (.reg [
  ⟨some 27, (.load none), [.tmp 5], none, [], none⟩,
  ⟨some 28, (.bin .eql), [.tmp 27, .const (.int .u64 0)], none, [], none⟩,
  ⟨some 29, .mov, [.tmp 28], none, [], none⟩,
  ⟨some 30, .mov, [.tmp 0], some (29, false), [], none⟩,
  ⟨some 31, (.mkf 97), [.tmp 5], some (29, false), [], none⟩,
  ⟨some 32, (.call 96), [.tmp 30, .tmp 31], some (29, false), [], none⟩,
  ⟨some 33, .pick, [.tmp 29, .const (.bool true), .tmp 32], none, [], none⟩,
  ⟨some 26, .mov, [.tmp 33], none, [], none⟩] false [0, 1, 2, 5, 6, 7, 8, 9, 10, 16, 24, 26])
  (.cond (.tmp 26) (.seq (.reg [
  ⟨some 6, (.nilS 51), [], none, [], none⟩,
  ⟨some 7, .mov, [.const (.int .i64 2)], none, [], none⟩] false [0, 1, 2, 5, 6, 7, 8, 9, 10, 16, 24, 26])
  (.ret)) (.skip))))))
  (.seq (.reg [
  ⟨some 34, .mov, [.tmp 0], none, [], none⟩,
  ⟨some 35, (.call 99), [.tmp 34], none, [40], none⟩,
  ⟨some 36, .mov, [.tmp 9], none, [], none⟩,
  ⟨some 37, .mov, [.tmp 1], none, [], none⟩,
  ⟨some 38, (.load none), [.tmp 5], none, [35], none⟩,
  ⟨some 39, (.bld [(.string ⟨#[]⟩), (.int .u64 0)] [(0, 1), (1, 1)]), [.tmp 37, .tmp 38], none, [35], none⟩,
  ⟨some 40, (.bsl 51 2), [.tmp 39], none, [35], none⟩,
  ⟨some 41, (.call 98), [.tmp 35, .tmp 36, .tmp 40], none, [], (some 999999)⟩,
  ⟨some 6, .mov, [.tmp 41], none, [], none⟩,
  ⟨some 7, .mov, [.const (.int .i64 0)], none, [], none⟩] true [0, 1, 2, 5, 6, 7, 8, 9, 10, 16, 24, 26])
  (.ret)))))
def keep21 : List Nat := [0, 1, 2, 5, 6, 7, 8, 9, 10, 16, 24, 26]
theorem fn21 : compFn Try.prog 21 keep21 = some ⟨42, 3, [(6, none), (7, none)], body21⟩ := by kernel_rfl

/- chartroom/chartroomref17.Bind -/
def body22 : AC :=
  .seq (.reg [
  ⟨some 6, (.nilS 147), [], none, [], none⟩,
  ⟨some 7, .mov, [.const (.int .i64 0)], none, [], none⟩] false [0, 1, 2, 6, 7, 9, 10, 18, 20, 25, 34, 36])
  (.seq (.reg [
  ⟨some 12, .mov, [.tmp 0], none, [], none⟩,
  ⟨some 13, .mov, [.tmp 1], none, [], none⟩,
  ⟨some 14, (.call 20), [.tmp 12, .tmp 13], none, [], none⟩,
  ⟨some 11, .mov, [.tmp 14], none, [], none⟩,
  ⟨some 15, (.ext 0), [.tmp 11], none, [], none⟩,
  ⟨some 16, (.ext 1), [.tmp 11], none, [], none⟩,
  ⟨some 8, .mov, [.tmp 15], none, [], none⟩,
  ⟨some 9, .mov, [.tmp 16], none, [], none⟩] false [0, 1, 2, 6, 7, 9, 10, 18, 20, 25, 34, 36])
  (.seq (.seq (.reg [
  ⟨some 17, .mov, [.tmp 9], none, [], none⟩,
  ⟨some 18, (.bin .eql), [.tmp 17, .const (.int .i64 0)], none, [], none⟩] false [0, 1, 2, 6, 7, 9, 10, 18, 20, 25, 34, 36])
  (.cond (.tmp 18) (.seq (.reg [
  ⟨some 6, (.nilS 147), [], none, [], none⟩,
  ⟨some 7, .mov, [.const (.int .i64 81)], none, [], none⟩] false [0, 1, 2, 6, 7, 9, 10, 18, 20, 25, 34, 36])
  (.ret)) (.skip)))
  (.seq (.seq (.reg [
  ⟨some 19, .mov, [.tmp 9], none, [], none⟩,
  ⟨some 20, (.bin .neq), [.tmp 19, .const (.int .i64 80)], none, [], none⟩] false [0, 1, 2, 6, 7, 9, 10, 18, 20, 25, 34, 36])
  (.cond (.tmp 20) (.seq (.reg [
  ⟨some 21, .mov, [.tmp 9], none, [], none⟩,
  ⟨some 6, (.nilS 147), [], none, [], none⟩,
  ⟨some 7, .mov, [.tmp 21], none, [], none⟩] false [0, 1, 2, 6, 7, 9, 10, 18, 20, 25, 34, 36])
  (.ret)) (.skip)))
  (.seq (.seq (.reg [
  ⟨some 10, .mov, [.const (.int .i64 0)], none, [], none⟩] false [0, 1, 2, 6, 7, 9, 10, 18, 20, 25, 34, 36])
  (.block 0 (.loop (.seq (.seq (.reg [
   ⟨some 22, .mov, [.tmp 10], none, [], none⟩,
   ⟨some 23, .mov, [.tmp 0], none, [], none⟩,
   ⟨some 24, .len, [.tmp 23], none, [], none⟩,
   ⟨some 25, (.bin .lss), [.tmp 22, .tmp 24], none, [], none⟩] false [0, 1, 2, 6, 7, 9, 10, 18, 20, 25, 34, 36])
   (.cond (.tmp 25) (.skip) (.exit 0)))
   (.seq (.block 1 (.seq (.reg [
   ⟨some 28, .mov, [.tmp 0], none, [], none⟩,
   ⟨some 29, .mov, [.tmp 10], none, [], none⟩,
   ⟨some 30, (.ixa 147 2), [.tmp 28, .tmp 29], none, [], none⟩,
   ⟨some 31, (.fad 1), [.tmp 30], none, [], none⟩,
   ⟨some 32, (.load none), [.tmp 31], none, [], none⟩,
   ⟨some 33, .mov, [.tmp 2], none, [], none⟩,
   ⟨some 34, (.bin .eql), [.tmp 32, .tmp 33], none, [], none⟩] false [0, 1, 2, 6, 7, 9, 10, 18, 20, 25, 34, 36])
   (.cond (.tmp 34) (.seq (.reg [
   ⟨some 6, (.nilS 147), [], none, [], none⟩,
   ⟨some 7, .mov, [.const (.int .i64 2)], none, [], none⟩] false [0, 1, 2, 6, 7, 9, 10, 18, 20, 25, 34, 36])
   (.ret)) (.skip))))
   (.reg [
   ⟨some 26, .mov, [.tmp 10], none, [], none⟩,
   ⟨some 27, (.bin .add), [.tmp 26, .const (.int .i64 1)], none, [], none⟩,
   ⟨some 10, .mov, [.tmp 27], none, [], none⟩] false [0, 1, 2, 6, 7, 9, 10, 18, 20, 25, 34, 36]))))))
  (.seq (.seq (.reg [
  ⟨some 35, .mov, [.tmp 2], none, [], none⟩,
  ⟨some 36, (.bin .eql), [.tmp 35, .const (.int .u64 0)], none, [], none⟩] false [0, 1, 2, 6, 7, 9, 10, 18, 20, 25, 34, 36])
  (.cond (.tmp 36) (.seq (.reg [
  ⟨some 6, (.nilS 147), [], none, [], none⟩,
  ⟨some 7, .mov, [.const (.int .i64 2)], none, [], none⟩] false [0, 1, 2, 6, 7, 9, 10, 18, 20, 25, 34, 36])
  (.ret)) (.skip)))
  (.seq (.reg [
  ⟨some 37, .mov, [.tmp 0], none, [], none⟩,
  ⟨some 38, .mov, [.tmp 1], none, [], none⟩,
  ⟨some 39, .mov, [.tmp 2], none, [], none⟩,
  ⟨some 40, (.bld [(.string ⟨#[]⟩), (.int .u64 0)] [(0, 1), (1, 1)]), [.tmp 38, .tmp 39], none, [], none⟩,
  ⟨some 41, (.call 100), [.tmp 37, .tmp 40], none, [], none⟩,
  ⟨some 6, .mov, [.tmp 41], none, [], none⟩,
  ⟨some 7, .mov, [.const (.int .i64 0)], none, [], none⟩] false [0, 1, 2, 6, 7, 9, 10, 18, 20, 25, 34, 36])
  (.ret)))))))
def keep22 : List Nat := [0, 1, 2, 6, 7, 9, 10, 18, 20, 25, 34, 36]
theorem fn22 : compFn Try.prog 22 keep22 = some ⟨42, 3, [(6, none), (7, none)], body22⟩ := by kernel_rfl

/- (chartroom/catalog.Catalog).Unbind -/
def body23 : AC :=
  .seq (.reg [
  ⟨some 4, (.nilS 51), [], none, [], none⟩,
  ⟨some 5, .mov, [.const (.int .i64 0)], none, [], none⟩] false [0, 1, 4, 5, 7, 8, 17])
  (.seq (.seq (.reg [
  ⟨some 11, .mov, [.tmp 0], none, [], none⟩,
  ⟨some 12, .mov, [.tmp 1], none, [], none⟩,
  ⟨some 13, (.call 19), [.tmp 11, .tmp 12], none, [], none⟩,
  ⟨some 10, .mov, [.tmp 13], none, [], none⟩,
  ⟨some 14, (.ext 0), [.tmp 10], none, [], none⟩,
  ⟨some 15, (.ext 1), [.tmp 10], none, [], none⟩,
  ⟨some 6, .mov, [.tmp 14], none, [], none⟩,
  ⟨some 7, .mov, [.tmp 15], none, [], none⟩] false [0, 1, 4, 5, 7, 8, 17])
  (.seq (.reg [
  ⟨some 16, .mov, [.tmp 7], none, [], none⟩,
  ⟨some 17, (.bin .neq), [.tmp 16, .const (.int .i64 0)], none, [], none⟩] false [0, 1, 4, 5, 7, 8, 17])
  (.cond (.tmp 17) (.seq (.reg [
  ⟨some 18, .mov, [.tmp 7], none, [], none⟩,
  ⟨some 4, (.nilS 51), [], none, [], none⟩,
  ⟨some 5, .mov, [.tmp 18], none, [], none⟩] false [0, 1, 4, 5, 7, 8, 17])
  (.ret)) (.skip))))
  (.seq (.reg [
  ⟨some 20, .mov, [.tmp 0], none, [], none⟩,
  ⟨some 21, .mov, [.tmp 1], none, [], none⟩,
  ⟨some 22, (.call 95), [.tmp 20, .tmp 21], none, [], none⟩,
  ⟨some 19, .mov, [.tmp 22], none, [], none⟩,
  ⟨some 23, (.ext 0), [.tmp 19], none, [], none⟩,
  ⟨some 24, (.ext 1), [.tmp 19], none, [], none⟩,
  ⟨some 8, .mov, [.tmp 23], none, [], none⟩,
  ⟨some 9, .mov, [.tmp 24], none, [], none⟩] false [0, 1, 4, 5, 7, 8, 17])
  (.seq (.reg [
  ⟨some 25, .mov, [.tmp 0], none, [], none⟩,
  ⟨some 26, (.call 99), [.tmp 25], none, [], none⟩,
  ⟨some 27, .mov, [.tmp 8], none, [], none⟩,
  ⟨some 28, .mov, [.tmp 8], none, [], none⟩,
  ⟨some 29, (.bin .add), [.tmp 28, .const (.int .i64 1)], none, [], none⟩,
  ⟨some 30, (.call 101), [.tmp 26, .tmp 27, .tmp 29], none, [], none⟩,
  ⟨some 4, .mov, [.tmp 30], none, [], none⟩,
  ⟨some 5, .mov, [.const (.int .i64 0)], none, [], none⟩] false [0, 1, 4, 5, 7, 8, 17])
  (.ret))))
def keep23 : List Nat := [0, 1, 4, 5, 7, 8, 17]
theorem fn23 : compFn Try.prog 23 keep23 = some ⟨31, 2, [(4, none), (5, none)], body23⟩ := by kernel_rfl

/- chartroom/chartroomref17.Unbind -/
def body24 : AC :=
  .seq (.reg [
  ⟨some 4, (.nilS 147), [], none, [], none⟩,
  ⟨some 5, .mov, [.const (.int .i64 0)], none, [], none⟩] false [0, 1, 4, 5, 7, 15])
  (.seq (.reg [
  ⟨some 9, .mov, [.tmp 0], none, [], none⟩,
  ⟨some 10, .mov, [.tmp 1], none, [], none⟩,
  ⟨some 11, (.call 20), [.tmp 9, .tmp 10], none, [], none⟩,
  ⟨some 8, .mov, [.tmp 11], none, [], none⟩,
  ⟨some 12, (.ext 0), [.tmp 8], none, [], none⟩,
  ⟨some 13, (.ext 1), [.tmp 8], none, [], none⟩,
  ⟨some 6, .mov, [.tmp 12], none, [], none⟩,
  ⟨some 7, .mov, [.tmp 13], none, [], none⟩] false [0, 1, 4, 5, 7, 15])
  (.seq (.seq (.reg [
  ⟨some 14, .mov, [.tmp 7], none, [], none⟩,
  ⟨some 15, (.bin .neq), [.tmp 14, .const (.int .i64 0)], none, [], none⟩] false [0, 1, 4, 5, 7, 15])
  (.cond (.tmp 15) (.seq (.reg [
  ⟨some 16, .mov, [.tmp 7], none, [], none⟩,
  ⟨some 4, (.nilS 147), [], none, [], none⟩,
  ⟨some 5, .mov, [.tmp 16], none, [], none⟩] false [0, 1, 4, 5, 7, 15])
  (.ret)) (.skip)))
  (.seq (.reg [
  ⟨some 17, .mov, [.tmp 0], none, [], none⟩,
  ⟨some 18, .mov, [.tmp 1], none, [], none⟩,
  ⟨some 19, (.call 102), [.tmp 17, .tmp 18], none, [], none⟩,
  ⟨some 4, .mov, [.tmp 19], none, [], none⟩,
  ⟨some 5, .mov, [.const (.int .i64 0)], none, [], none⟩] false [0, 1, 4, 5, 7, 15])
  (.ret))))
def keep24 : List Nat := [0, 1, 4, 5, 7, 15]
theorem fn24 : compFn Try.prog 24 keep24 = some ⟨20, 2, [(4, none), (5, none)], body24⟩ := by kernel_rfl

/- (chartroom/catalog.Catalog).Rename -/
def body25 : AC :=
  .seq (.reg [
  ⟨some 6, (.nilS 51), [], none, [], none⟩,
  ⟨some 7, .mov, [.const (.int .i64 0)], none, [], none⟩] false [0, 1, 2, 6, 7, 8, 9, 10, 12, 13, 21, 30, 38])
  (.seq (.seq (.reg [
  ⟨some 15, .mov, [.tmp 0], none, [], none⟩,
  ⟨some 16, .mov, [.tmp 1], none, [], none⟩,
  ⟨some 17, .mov, [.tmp 2], none, [], none⟩,
  ⟨some 18, (.bsl 9 1), [.tmp 16, .tmp 17], none, [], none⟩,
  ⟨some 19, (.call 94), [.tmp 15, .tmp 18], none, [], none⟩,
  ⟨some 8, .mov, [.tmp 19], none, [], none⟩] false [0, 1, 2, 6, 7, 8, 9, 10, 12, 13, 21, 30, 38])
  (.seq (.reg [
  ⟨some 20, .mov, [.tmp 8], none, [], none⟩,
  ⟨some 21, (.bin .neq), [.tmp 20, .const (.int .i64 0)], none, [], none⟩] false [0, 1, 2, 6, 7, 8, 9, 10, 12, 13, 21, 30, 38])
  (.cond (.tmp 21) (.seq (.reg [
  ⟨some 22, .mov, [.tmp 8], none, [], none⟩,
  ⟨some 6, (.nilS 51), [], none, [], none⟩,
  ⟨some 7, .mov, [.tmp 22], none, [], none⟩] false [0, 1, 2, 6, 7, 8, 9, 10, 12, 13, 21, 30, 38])
  (.ret)) (.skip))))
  (.seq (.reg [
  ⟨some 24, .mov, [.tmp 0], none, [], none⟩,
  ⟨some 25, .mov, [.tmp 1], none, [], none⟩,
  ⟨some 26, (.call 19), [.tmp 24, .tmp 25], none, [], none⟩,
  ⟨some 23, .mov, [.tmp 26], none, [], none⟩,
  ⟨some 27, (.ext 0), [.tmp 23], none, [], none⟩,
  ⟨some 28, (.ext 1), [.tmp 23], none, [], none⟩,
  ⟨some 9, .mov, [.tmp 27], none, [], none⟩,
  ⟨some 10, .mov, [.tmp 28], none, [], none⟩] false [0, 1, 2, 6, 7, 8, 9, 10, 12, 13, 21, 30, 38])
  (.seq (.seq (.reg [
  ⟨some 29, .mov, [.tmp 10], none, [], none⟩,
  ⟨some 30, (.bin .neq), [.tmp 29, .const (.int .i64 0)], none, [], none⟩] false [0, 1, 2, 6, 7, 8, 9, 10, 12, 13, 21, 30, 38])
  (.cond (.tmp 30) (.seq (.reg [
  ⟨some 31, .mov, [.tmp 10], none, [], none⟩,
  ⟨some 6, (.nilS 51), [], none, [], none⟩,
  ⟨some 7, .mov, [.tmp 31], none, [], none⟩] false [0, 1, 2, 6, 7, 8, 9, 10, 12, 13, 21, 30, 38])
  (.ret)) (.skip)))
  (.seq (.seq (.reg [
  ⟨some 33, .mov, [.tmp 0], none, [], none⟩,
  ⟨some 34, .mov, [.tmp 2], none, [], none⟩,
  ⟨some 35, (.call 95), [.tmp 33, .tmp 34], none, [], none⟩,
  ⟨some 32, .mov, [.tmp 35], none, [], none⟩,
  ⟨some 36, (.ext 0), [.tmp 32], none, [], none⟩,
  ⟨some 37, (.ext 1), [.tmp 32], none, [], none⟩,
  ⟨some 11, .mov, [.tmp 36], none, [], none⟩,
  ⟨some 12, .mov, [.tmp 37], none, [], none⟩] false [0, 1, 2, 6, 7, 8, 9, 10, 12, 13, 21, 30, 38])
  (.seq (.reg [
  ⟨some 38, .mov, [.tmp 12], none, [], none⟩] false [0, 1, 2, 6, 7, 8, 9, 10, 12, 13, 21, 30, 38])
  (.cond (.tmp 38) (.seq (.reg [
  ⟨some 6, (.nilS 51), [], none, [], none⟩,
  ⟨some 7, .mov, [.const (.int .i64 81)], none, [], none⟩] false [0, 1, 2, 6, 7, 8, 9, 10, 12, 13, 21, 30, 38])
  (.ret)) (.skip))))
  (.seq (.reg [
  ⟨some 40, .mov, [.tmp 0], none, [], none⟩,
  ⟨some 41, .mov, [.tmp 1], none, [], none⟩,
  ⟨some 42, (.call 23), [.tmp 40, .tmp 41], none, [], none⟩,
  ⟨some 39, .mov, [.tmp 42], none, [], none⟩,
  ⟨some 43, (.ext 0), [.tmp 39], none, [], none⟩,
  ⟨some 44, (.ext 1), [.tmp 39], none, [], none⟩,
  ⟨some 13, .mov, [.tmp 43], none, [], none⟩,
  ⟨some 14, .mov, [.tmp 44], none, [], none⟩] false [0, 1, 2, 6, 7, 8, 9, 10, 12, 13, 21, 30, 38])
  (.seq (.reg [
  ⟨some 45, .mov, [.tmp 13], none, [], none⟩,
  ⟨some 46, .mov, [.tmp 2], none, [], none⟩,
  ⟨some 47, .mov, [.tmp 9], none, [], none⟩,
  ⟨some 48, (.call 21), [.tmp 45, .tmp 46, .tmp 47], none, [], none⟩,
  ⟨some 49, (.ext 0), [.tmp 48], none, [], none⟩,
  ⟨some 50, (.ext 1), [.tmp 48], none, [], none⟩,
  ⟨some 6, .mov, [.tmp 49], none, [], none⟩,
  ⟨some 7, .mov, [.tmp 50], none, [], none⟩] false [0, 1, 2, 6, 7, 8, 9, 10, 12, 13, 21, 30, 38])
  (.ret)))))))
def keep25 : List Nat := [0, 1, 2, 6, 7, 8, 9, 10, 12, 13, 21, 30, 38]
theorem fn25 : compFn Try.prog 25 keep25 = some ⟨51, 3, [(6, none), (7, none)], body25⟩ := by kernel_rfl

/- chartroom/chartroomref17.Rename -/
def body26 : AC :=
  .seq (.reg [
  ⟨some 6, (.nilS 147), [], none, [], none⟩,
  ⟨some 7, .mov, [.const (.int .i64 0)], none, [], none⟩] false [0, 1, 2, 6, 7, 8, 9, 11, 23, 31, 40])
  (.seq (.seq (.reg [
  ⟨some 12, .mov, [.tmp 0], none, [], none⟩,
  ⟨some 13, (.call 29), [.tmp 12], none, [], none⟩,
  ⟨some 14, .mov, [.tmp 13], none, [], none⟩,
  ⟨some 15, .mov, [.tmp 1], some (14, true), [], none⟩,
  ⟨some 16, (.call 34), [.tmp 15], some (14, true), [], none⟩,
  ⟨some 17, .not, [.tmp 16], some (14, true), [], none⟩,
  ⟨some 18, .mov, [.tmp 17], some (14, true), [], none⟩,
  ⟨some 19, .mov, [.tmp 2], some (18, false), [], none⟩,
  ⟨some 20, (.call 34), [.tmp 19], some (18, false), [], none⟩,
  ⟨some 21, .not, [.tmp 20], some (18, false), [], none⟩,
  ⟨some 22, .pick, [.tmp 18, .const (.bool true), .tmp 21], some (14, true), [], none⟩,
  ⟨some 23, .pick, [.tmp 14, .tmp 22, .const (.bool false)], none, [], none⟩] false [0, 1, 2, 6, 7, 8, 9, 11, 23, 31, 40])
  (.cond (.tmp 23) (.seq (.reg [
  ⟨some 6, (.nilS 147), [], none, [], none⟩,
  ⟨some 7, .mov, [.const (.int .i64 170)], none, [], none⟩] false [0, 1, 2, 6, 7, 8, 9, 11, 23, 31, 40])
  (.ret)) (.skip)))
  (.seq (.reg [
  ⟨some 25, .mov, [.tmp 0], none, [], none⟩,
  ⟨some 26, .mov, [.tmp 1], none, [], none⟩,
  ⟨some 27, (.call 20), [.tmp 25, .tmp 26], none, [], none⟩,
  ⟨some 24, .mov, [.tmp 27], none, [], none⟩,
  ⟨some 28, (.ext 0), [.tmp 24], none, [], none⟩,
  ⟨some 29, (.ext 1), [.tmp 24], none, [], none⟩,
  ⟨some 8, .mov, [.tmp 28], none, [], none⟩,
  ⟨some 9, .mov, [.tmp 29], none, [], none⟩] false [0, 1, 2, 6, 7, 8, 9, 11, 23, 31, 40])
  (.seq (.seq (.reg [
  ⟨some 30, .mov, [.tmp 9], none, [], none⟩,
  ⟨some 31, (.bin .neq), [.tmp 30, .const (.int .i64 0)], none, [], none⟩] false [0, 1, 2, 6, 7, 8, 9, 11, 23, 31, 40])
  (.cond (.tmp 31) (.seq (.reg [
  ⟨some 32, .mov, [.tmp 9], none, [], none⟩,
  ⟨some 6, (.nilS 147), [], none, [], none⟩,
  ⟨some 7, .mov, [.tmp 32], none, [], none⟩] false [0, 1, 2, 6, 7, 8, 9, 11, 23, 31, 40])
  (.ret)) (.skip)))
  (.seq (.reg [
  ⟨some 34, .mov, [.tmp 0], none, [], none⟩,
  ⟨some 35, .mov, [.tmp 2], none, [], none⟩,
  ⟨some 36, (.call 20), [.tmp 34, .tmp 35], none, [], none⟩,
  ⟨some 33, .mov, [.tmp 36], none, [], none⟩,
  ⟨some 37, (.ext 0), [.tmp 33], none, [], none⟩,
  ⟨some 38, (.ext 1), [.tmp 33], none, [], none⟩,
  ⟨some 10, .mov, [.tmp 37], none, [], none⟩,
  ⟨some 11, .mov, [.tmp 38], none, [], none⟩] false [0, 1, 2, 6, 7, 8, 9, 11, 23, 31, 40])
  (.seq (.seq (.reg [
  ⟨some 39, .mov, [.tmp 11], none, [], none⟩,
  ⟨some 40, (.bin .eql), [.tmp 39, .const (.int .i64 0)], none, [], none⟩] false [0, 1, 2, 6, 7, 8, 9, 11, 23, 31, 40])
  (.cond (.tmp 40) (.seq (.reg [
  ⟨some 6, (.nilS 147), [], none, [], none⟩,
  ⟨some 7, .mov, [.const (.int .i64 81)], none, [], none⟩] false [0, 1, 2, 6, 7, 8, 9, 11, 23, 31, 40])
  (.ret)) (.skip)))
  (.seq (.reg [
  ⟨some 41, .mov, [.tmp 0], none, [], none⟩,
  ⟨some 42, .mov, [.tmp 1], none, [], none⟩,
  ⟨some 43, (.call 102), [.tmp 41, .tmp 42], none, [], none⟩,
  ⟨some 44, .mov, [.tmp 2], none, [], none⟩,
  ⟨some 45, .mov, [.tmp 8], none, [], none⟩,
  ⟨some 46, (.bld [(.string ⟨#[]⟩), (.int .u64 0)] [(0, 1), (1, 1)]), [.tmp 44, .tmp 45], none, [], none⟩,
  ⟨some 47, (.call 100), [.tmp 43, .tmp 46], none, [], none⟩,
  ⟨some 6, .mov, [.tmp 47], none, [], none⟩,
  ⟨some 7, .mov, [.const (.int .i64 0)], none, [], none⟩] false [0, 1, 2, 6, 7, 8, 9, 11, 23, 31, 40])
  (.ret)))))))
def keep26 : List Nat := [0, 1, 2, 6, 7, 8, 9, 11, 23, 31, 40]
theorem fn26 : compFn Try.prog 26 keep26 = some ⟨48, 3, [(6, none), (7, none)], body26⟩ := by kernel_rfl

/- chartroom/chartroomlaw17.same -/
def body27 : AC :=
  .seq (.reg [
  ⟨some 4, .mov, [.const (.bool false)], none, [], none⟩] false [0, 1, 4, 5, 10, 14, 40])
  (.seq (.seq (.reg [
  ⟨some 6, .mov, [.tmp 0], none, [], none⟩,
  ⟨some 7, .len, [.tmp 6], none, [], none⟩,
  ⟨some 8, .mov, [.tmp 1], none, [], none⟩,
  ⟨some 9, .len, [.tmp 8], none, [], none⟩,
  ⟨some 10, (.bin .neq), [.tmp 7, .tmp 9], none, [], none⟩] false [0, 1, 4, 5, 10, 14, 40])
  (.cond (.tmp 10) (.seq (.reg [
  ⟨some 4, .mov, [.const (.bool false)], none, [], none⟩] false [0, 1, 4, 5, 10, 14, 40])
  (.ret)) (.skip)))
  (.seq (.seq (.reg [
  ⟨some 5, .mov, [.const (.int .i64 0)], none, [], none⟩] false [0, 1, 4, 5, 10, 14, 40])
  (.block 0 (.loop (.seq (.seq (.reg [
   ⟨some 11, .mov, [.tmp 5], none, [], none⟩,
   ⟨some 12, .mov, [.tmp 0], none, [], none⟩,
   ⟨some 13, .len, [.tmp 12], none, [], none⟩,
   ⟨some 14, (.bin .lss), [.tmp 11, .tmp 13], none, [], none⟩] false [0, 1, 4, 5, 10, 14, 40])
   (.cond (.tmp 14) (.skip) (.exit 0)))
   (.seq (.block 1 (.seq (.reg [
   ⟨some 17, .mov, [.tmp 0], none, [], none⟩,
   ⟨some 18, .mov, [.tmp 5], none, [], none⟩,
   ⟨some 19, (.ixa 51 2), [.tmp 17, .tmp 18], none, [], none⟩,
   ⟨some 20, (.fad 0), [.tmp 19], none, [], none⟩,
   ⟨some 21, (.load none), [.tmp 20], none, [], none⟩,
   ⟨some 22, .mov, [.tmp 1], none, [], none⟩,
   ⟨some 23, .mov, [.tmp 5], none, [], none⟩,
   ⟨some 24, (.ixa 147 2), [.tmp 22, .tmp 23], none, [], none⟩,
   ⟨some 25, (.fad 0), [.tmp 24], none, [], none⟩,
   ⟨some 26, (.load none), [.tmp 25], none, [], none⟩,
   ⟨some 27, (.bin .neq), [.tmp 21, .tmp 26], none, [], none⟩,
   ⟨some 28, .mov, [.tmp 27], none, [], none⟩,
   ⟨some 29, .mov, [.tmp 0], some (28, false), [], none⟩,
   ⟨some 30, .mov, [.tmp 5], some (28, false), [], none⟩,
   ⟨some 31, (.ixa 51 2), [.tmp 29, .tmp 30], some (28, false), [], none⟩,
   ⟨some 32, (.fad 1), [.tmp 31], some (28, false), [], none⟩,
   ⟨some 33, (.load none), [.tmp 32], some (28, false), [], none⟩,
   ⟨some 34, .mov, [.tmp 1], some (28, false), [], none⟩,
   ⟨some 35, .mov, [.tmp 5], some (28, false), [], none⟩,
   ⟨some 36, (.ixa 147 2), [.tmp 34, .tmp 35], some (28, false), [], none⟩,
   ⟨some 37, (.fad 1), [.tmp 36], some (28, false), [], none⟩,
   ⟨some 38, (.load none), [.tmp 37], some (28, false), [], none⟩,
   ⟨some 39, (.bin .neq), [.tmp 33, .tmp 38], some (28, false), [], none⟩,
   ⟨some 40, .pick, [.tmp 28, .const (.bool true), .tmp 39], none, [], none⟩] true [0, 1, 4, 5, 10, 14, 40])
   (.cond (.tmp 40) (.seq (.reg [
   ⟨some 4, .mov, [.const (.bool false)], none, [], none⟩] false [0, 1, 4, 5, 10, 14, 40])
   (.ret)) (.skip))))
   (.reg [
   ⟨some 15, .mov, [.tmp 5], none, [], none⟩,
   ⟨some 16, (.bin .add), [.tmp 15, .const (.int .i64 1)], none, [], none⟩,
   ⟨some 5, .mov, [.tmp 16], none, [], none⟩] false [0, 1, 4, 5, 10, 14, 40]))))))
  (.seq (.reg [
  ⟨some 4, .mov, [.const (.bool true)], none, [], none⟩] false [0, 1, 4, 5, 10, 14, 40])
  (.ret))))
def keep27 : List Nat := [0, 1, 4, 5, 10, 14, 40]
theorem fn27 : compFn Try.prog 27 keep27 = some ⟨41, 2, [(4, none)], body27⟩ := by kernel_rfl

/- (chartroom/catalog.Catalog).Right -/
def body28 : AC :=
  .seq (.reg [
  ⟨some 2, .mov, [.const (.bool false)], none, [], none⟩] false [0, 2, 3, 4, 5, 7, 11, 12, 13, 14, 47])
  (.seq (.reg [
  ⟨some 8, (.ex .mkm), [], none, [], none⟩,
  ⟨some 9, (.bld [] []), [], none, [], none⟩,
  ⟨none, (.ex (.mput 9)), [.tmp 8, .const (.int .u64 0), .tmp 9], none, [], none⟩,
  ⟨some 10, .mov, [.tmp 8], none, [], none⟩,
  ⟨some 3, .mov, [.tmp 10], none, [], none⟩] false [0, 2, 3, 4, 5, 7, 11, 12, 13, 14, 47])
  (.seq (.seq (.reg [
  ⟨some 11, .mov, [.tmp 0], none, [], none⟩,
  ⟨some 12, .len, [.tmp 11], none, [], none⟩,
  ⟨some 13, .mov, [.const (.int .i64 0)], none, [], none⟩] false [0, 2, 3, 4, 5, 7, 11, 12, 13, 14, 47])
  (.block 0 (.loop (.seq (.reg [
   ⟨some 14, (.bin .lss), [.tmp 13, .tmp 12], none, [], none⟩] false [0, 2, 3, 4, 5, 7, 11, 12, 13, 14, 47])
   (.seq (.cond (.tmp 14) (.skip) (.exit 0))
   (.seq (.block 1 (.seq (.reg [
   ⟨some 15, .mov, [.tmp 13], none, [], none⟩,
   ⟨some 16, (.ixa 51 2), [.tmp 11, .tmp 13], none, [], none⟩,
   ⟨some 17, (.load (some 2)), [.tmp 16], none, [], none⟩,
   ⟨some 5, (.alloc [(.string ⟨#[]⟩), (.int .u64 0)]), [], none, [], none⟩,
   ⟨some 4, .mov, [.tmp 15], none, [], none⟩,
   ⟨none, (.store (some 2)), [.tmp 5, .tmp 17], none, [], none⟩] false [0, 2, 3, 4, 5, 7, 11, 12, 13, 14, 47])
   (.seq (.reg [
   ⟨some 19, .mov, [.tmp 3], none, [], none⟩,
   ⟨some 20, (.fad 1), [.tmp 5], none, [], none⟩,
   ⟨some 21, (.load none), [.tmp 20], none, [], none⟩,
   ⟨some 22, (.ex (.mget 9 (.agg #[]) true)), [.tmp 19, .tmp 21], none, [], none⟩,
   ⟨some 18, .mov, [.tmp 22], none, [], none⟩,
   ⟨some 23, (.ext 0), [.tmp 18], none, [], none⟩,
   ⟨some 24, (.ext 1), [.tmp 18], none, [], none⟩,
   ⟨some 6, (.alloc []), [], none, [], none⟩,
   ⟨none, (.store (some 0)), [.tmp 6, .tmp 23], none, [], none⟩,
   ⟨some 7, .mov, [.tmp 24], none, [], none⟩] false [0, 2, 3, 4, 5, 7, 11, 12, 13, 14, 47])
   (.seq (.seq (.reg [
   ⟨some 25, .mov, [.tmp 7], none, [], none⟩,
   ⟨some 26, .mov, [.tmp 25], none, [], none⟩,
   ⟨some 27, (.fad 0), [.tmp 5], some (26, false), [], none⟩,
   ⟨some 28, (.load none), [.tmp 27], some (26, false), [], none⟩,
   ⟨some 29, (.bsl 9 1), [.tmp 28], some (26, false), [], none⟩,
   ⟨some 30, (.call 33), [.tmp 29], some (26, false), [], none⟩,
   ⟨some 31, .not, [.tmp 30], some (26, false), [], none⟩,
   ⟨some 32, .pick, [.tmp 26, .const (.bool true), .tmp 31], none, [], none⟩,
   ⟨some 33, .mov, [.tmp 32], none, [], none⟩,
   ⟨some 34, .mov, [.tmp 4], some (33, false), [], none⟩,
   ⟨some 35, (.bin .gtr), [.tmp 34, .const (.int .i64 0)], some (33, false), [], none⟩,
   ⟨some 36, .mov, [.tmp 35], some (33, false), [], none⟩,
   ⟨some 37, .mov, [.tmp 0], some (36, true), [], none⟩,
   ⟨some 38, .mov, [.tmp 4], some (36, true), [], none⟩,
   ⟨some 39, (.bin .sub), [.tmp 38, .const (.int .i64 1)], some (36, true), [], none⟩,
   ⟨some 40, (.ixa 51 2), [.tmp 37, .tmp 39], some (36, true), [], none⟩,
   ⟨some 41, (.fad 0), [.tmp 40], some (36, true), [], none⟩,
   ⟨some 42, (.load none), [.tmp 41], some (36, true), [], none⟩,
   ⟨some 43, (.fad 0), [.tmp 5], some (36, true), [], none⟩,
   ⟨some 44, (.load none), [.tmp 43], some (36, true), [], none⟩,
   ⟨some 45, (.bin .geq), [.tmp 42, .tmp 44], some (36, true), [], none⟩,
   ⟨some 46, .pick, [.tmp 36, .tmp 45, .const (.bool false)], some (33, false), [], none⟩,
   ⟨some 47, .pick, [.tmp 33, .const (.bool true), .tmp 46], none, [], none⟩] true [0, 2, 3, 4, 5, 7, 11, 12, 13, 14, 47])
   (.cond (.tmp 47) (.seq (.reg [
   ⟨some 2, .mov, [.const (.bool false)], none, [], none⟩] false [0, 2, 3, 4, 5, 7, 11, 12, 13, 14, 47])
   (.ret)) (.skip)))
   (.reg [
   ⟨some 48, .mov, [.tmp 3], none, [], none⟩,
   ⟨some 49, (.fad 1), [.tmp 5], none, [], none⟩,
   ⟨some 50, (.load none), [.tmp 49], none, [], none⟩,
   ⟨some 51, (.bld [] []), [], none, [], none⟩,
   ⟨none, (.ex (.mput 9)), [.tmp 48, .tmp 50, .tmp 51], none, [], none⟩] false [0, 2, 3, 4, 5, 7, 11, 12, 13, 14, 47])))))
   (.reg [
   ⟨some 52, (.bin .add), [.tmp 13, .const (.int .i64 1)], none, [], none⟩,
   ⟨some 13, .mov, [.tmp 52], none, [], none⟩] false [0, 2, 3, 4, 5, 7, 11, 12, 13, 14, 47])))))))
  (.seq (.reg [
  ⟨some 2, .mov, [.const (.bool true)], none, [], none⟩] false [0, 2, 3, 4, 5, 7, 11, 12, 13, 14, 47])
  (.ret))))
def keep28 : List Nat := [0, 2, 3, 4, 5, 7, 11, 12, 13, 14, 47]
theorem fn28 : compFn Try.prog 28 keep28 = some ⟨53, 1, [(2, none)], body28⟩ := by kernel_rfl

/- chartroom/chartroomref17.Right -/
def body29 : AC :=
  .seq (.reg [
  ⟨some 2, .mov, [.const (.bool false)], none, [], none⟩] false [0, 2, 3, 4, 8, 25, 28, 54])
  (.seq (.seq (.reg [
  ⟨some 3, .mov, [.const (.int .i64 0)], none, [], none⟩] false [0, 2, 3, 4, 8, 25, 28, 54])
  (.block 0 (.loop (.seq (.seq (.reg [
   ⟨some 5, .mov, [.tmp 3], none, [], none⟩,
   ⟨some 6, .mov, [.tmp 0], none, [], none⟩,
   ⟨some 7, .len, [.tmp 6], none, [], none⟩,
   ⟨some 8, (.bin .lss), [.tmp 5, .tmp 7], none, [], none⟩] false [0, 2, 3, 4, 8, 25, 28, 54])
   (.cond (.tmp 8) (.skip) (.exit 0)))
   (.seq (.block 1 (.seq (.seq (.reg [
   ⟨some 11, .mov, [.tmp 0], none, [], none⟩,
   ⟨some 12, .mov, [.tmp 3], none, [], none⟩,
   ⟨some 13, (.ixa 147 2), [.tmp 11, .tmp 12], none, [], none⟩,
   ⟨some 14, (.fad 0), [.tmp 13], none, [], none⟩,
   ⟨some 15, (.load none), [.tmp 14], none, [], none⟩,
   ⟨some 16, (.call 34), [.tmp 15], none, [], none⟩,
   ⟨some 17, .not, [.tmp 16], none, [], none⟩,
   ⟨some 18, .mov, [.tmp 17], none, [], none⟩,
   ⟨some 19, .mov, [.tmp 0], some (18, false), [], none⟩,
   ⟨some 20, .mov, [.tmp 3], some (18, false), [], none⟩,
   ⟨some 21, (.ixa 147 2), [.tmp 19, .tmp 20], some (18, false), [], none⟩,
   ⟨some 22, (.fad 1), [.tmp 21], some (18, false), [], none⟩,
   ⟨some 23, (.load none), [.tmp 22], some (18, false), [], none⟩,
   ⟨some 24, (.bin .eql), [.tmp 23, .const (.int .u64 0)], some (18, false), [], none⟩,
   ⟨some 25, .pick, [.tmp 18, .const (.bool true), .tmp 24], none, [], none⟩] false [0, 2, 3, 4, 8, 25, 28, 54])
   (.cond (.tmp 25) (.seq (.reg [
   ⟨some 2, .mov, [.const (.bool false)], none, [], none⟩] false [0, 2, 3, 4, 8, 25, 28, 54])
   (.ret)) (.skip)))
   (.seq (.reg [
   ⟨some 4, .mov, [.const (.int .i64 0)], none, [], none⟩] false [0, 2, 3, 4, 8, 25, 28, 54])
   (.block 2 (.loop (.seq (.seq (.reg [
    ⟨some 26, .mov, [.tmp 4], none, [], none⟩,
    ⟨some 27, .mov, [.tmp 3], none, [], none⟩,
    ⟨some 28, (.bin .lss), [.tmp 26, .tmp 27], none, [], none⟩] false [0, 2, 3, 4, 8, 25, 28, 54])
    (.cond (.tmp 28) (.skip) (.exit 2)))
    (.seq (.block 3 (.seq (.reg [
    ⟨some 31, .mov, [.tmp 0], none, [], none⟩,
    ⟨some 32, .mov, [.tmp 4], none, [], none⟩,
    ⟨some 33, (.ixa 147 2), [.tmp 31, .tmp 32], none, [], none⟩,
    ⟨some 34, (.fad 0), [.tmp 33], none, [], none⟩,
    ⟨some 35, (.load none), [.tmp 34], none, [], none⟩,
    ⟨some 36, .mov, [.tmp 0], none, [], none⟩,
    ⟨some 37, .mov, [.tmp 3], none, [], none⟩,
    ⟨some 38, (.ixa 147 2), [.tmp 36, .tmp 37], none, [], none⟩,
    ⟨some 39, (.fad 0), [.tmp 38], none, [], none⟩,
    ⟨some 40, (.load none), [.tmp 39], none, [], none⟩,
    ⟨some 41, (.bin .geq), [.tmp 35, .tmp 40], none, [], none⟩,
    ⟨some 42, .mov, [.tmp 41], none, [], none⟩,
    ⟨some 43, .mov, [.tmp 0], some (42, false), [], none⟩,
    ⟨some 44, .mov, [.tmp 4], some (42, false), [], none⟩,
    ⟨some 45, (.ixa 147 2), [.tmp 43, .tmp 44], some (42, false), [], none⟩,
    ⟨some 46, (.fad 1), [.tmp 45], some (42, false), [], none⟩,
    ⟨some 47, (.load none), [.tmp 46], some (42, false), [], none⟩,
    ⟨some 48, .mov, [.tmp 0], some (42, false), [], none⟩,
    ⟨some 49, .mov, [.tmp 3], some (42, false), [], none⟩,
    ⟨some 50, (.ixa 147 2), [.tmp 48, .tmp 49], some (42, false), [], none⟩,
    ⟨some 51, (.fad 1), [.tmp 50], some (42, false), [], none⟩,
    ⟨some 52, (.load none), [.tmp 51], some (42, false), [], none⟩,
    ⟨some 53, (.bin .eql), [.tmp 47, .tmp 52], some (42, false), [], none⟩,
    ⟨some 54, .pick, [.tmp 42, .const (.bool true), .tmp 53], none, [], none⟩] true [0, 2, 3, 4, 8, 25, 28, 54])
    (.cond (.tmp 54) (.seq (.reg [
    ⟨some 2, .mov, [.const (.bool false)], none, [], none⟩] false [0, 2, 3, 4, 8, 25, 28, 54])
    (.ret)) (.skip))))
    (.reg [
    ⟨some 29, .mov, [.tmp 4], none, [], none⟩,
    ⟨some 30, (.bin .add), [.tmp 29, .const (.int .i64 1)], none, [], none⟩,
    ⟨some 4, .mov, [.tmp 30], none, [], none⟩] false [0, 2, 3, 4, 8, 25, 28, 54]))))))))
   (.reg [
   ⟨some 9, .mov, [.tmp 3], none, [], none⟩,
   ⟨some 10, (.bin .add), [.tmp 9, .const (.int .i64 1)], none, [], none⟩,
   ⟨some 3, .mov, [.tmp 10], none, [], none⟩] false [0, 2, 3, 4, 8, 25, 28, 54]))))))
  (.seq (.reg [
  ⟨some 2, .mov, [.const (.bool true)], none, [], none⟩] false [0, 2, 3, 4, 8, 25, 28, 54])
  (.ret)))
def keep29 : List Nat := [0, 2, 3, 4, 8, 25, 28, 54]
theorem fn29 : compFn Try.prog 29 keep29 = some ⟨55, 1, [(2, none)], body29⟩ := by kernel_rfl

/- chartroom/chartroomkit.SameTexts -/
def body30 : AC :=
  .seq (.reg [
  ⟨some 4, .mov, [.const (.bool false)], none, [], none⟩] false [0, 1, 4, 5, 10, 14, 25])
  (.seq (.seq (.reg [
  ⟨some 6, .mov, [.tmp 0], none, [], none⟩,
  ⟨some 7, .len, [.tmp 6], none, [], none⟩,
  ⟨some 8, .mov, [.tmp 1], none, [], none⟩,
  ⟨some 9, .len, [.tmp 8], none, [], none⟩,
  ⟨some 10, (.bin .neq), [.tmp 7, .tmp 9], none, [], none⟩] false [0, 1, 4, 5, 10, 14, 25])
  (.cond (.tmp 10) (.seq (.reg [
  ⟨some 4, .mov, [.const (.bool false)], none, [], none⟩] false [0, 1, 4, 5, 10, 14, 25])
  (.ret)) (.skip)))
  (.seq (.seq (.reg [
  ⟨some 5, .mov, [.const (.int .i64 0)], none, [], none⟩] false [0, 1, 4, 5, 10, 14, 25])
  (.block 0 (.loop (.seq (.seq (.reg [
   ⟨some 11, .mov, [.tmp 5], none, [], none⟩,
   ⟨some 12, .mov, [.tmp 0], none, [], none⟩,
   ⟨some 13, .len, [.tmp 12], none, [], none⟩,
   ⟨some 14, (.bin .lss), [.tmp 11, .tmp 13], none, [], none⟩] false [0, 1, 4, 5, 10, 14, 25])
   (.cond (.tmp 14) (.skip) (.exit 0)))
   (.seq (.block 1 (.seq (.reg [
   ⟨some 17, .mov, [.tmp 0], none, [], none⟩,
   ⟨some 18, .mov, [.tmp 5], none, [], none⟩,
   ⟨some 19, (.ixa 9 1), [.tmp 17, .tmp 18], none, [], none⟩,
   ⟨some 20, (.load none), [.tmp 19], none, [], none⟩,
   ⟨some 21, .mov, [.tmp 1], none, [], none⟩,
   ⟨some 22, .mov, [.tmp 5], none, [], none⟩,
   ⟨some 23, (.ixa 9 1), [.tmp 21, .tmp 22], none, [], none⟩,
   ⟨some 24, (.load none), [.tmp 23], none, [], none⟩,
   ⟨some 25, (.bin .neq), [.tmp 20, .tmp 24], none, [], none⟩] true [0, 1, 4, 5, 10, 14, 25])
   (.cond (.tmp 25) (.seq (.reg [
   ⟨some 4, .mov, [.const (.bool false)], none, [], none⟩] false [0, 1, 4, 5, 10, 14, 25])
   (.ret)) (.skip))))
   (.reg [
   ⟨some 15, .mov, [.tmp 5], none, [], none⟩,
   ⟨some 16, (.bin .add), [.tmp 15, .const (.int .i64 1)], none, [], none⟩,
   ⟨some 5, .mov, [.tmp 16], none, [], none⟩] false [0, 1, 4, 5, 10, 14, 25]))))))
  (.seq (.reg [
  ⟨some 4, .mov, [.const (.bool true)], none, [], none⟩] false [0, 1, 4, 5, 10, 14, 25])
  (.ret))))
def keep30 : List Nat := [0, 1, 4, 5, 10, 14, 25]
theorem fn30 : compFn Try.prog 30 keep30 = some ⟨26, 2, [(4, none)], body30⟩ := by kernel_rfl

/- (chartroom/catalog.Catalog).Names -/
def body31 : AC :=
  .seq (.reg [
  ⟨some 2, (.nilS 9), [], none, [], none⟩] false [0, 2, 4, 5, 6, 7, 8])
  (.seq (.seq (.reg [
  ⟨some 5, .mov, [.tmp 0], none, [], none⟩,
  ⟨some 6, .len, [.tmp 5], none, [], none⟩,
  ⟨some 7, .mov, [.const (.int .i64 0)], none, [], none⟩] false [0, 2, 4, 5, 6, 7, 8])
  (.block 0 (.loop (.seq (.reg [
   ⟨some 8, (.bin .lss), [.tmp 7, .tmp 6], none, [], none⟩] false [0, 2, 4, 5, 6, 7, 8])
   (.seq (.cond (.tmp 8) (.skip) (.exit 0))
   (.seq (.block 1 (.seq (.reg [
   ⟨some 9, (.ixa 51 2), [.tmp 5, .tmp 7], none, [], none⟩,
   ⟨some 10, (.load (some 2)), [.tmp 9], none, [], none⟩,
   ⟨some 4, (.alloc [(.string ⟨#[]⟩), (.int .u64 0)]), [], none, [], none⟩,
   ⟨none, (.store (some 2)), [.tmp 4, .tmp 10], none, [], none⟩] false [0, 2, 4, 5, 6, 7, 8])
   (.reg [
   ⟨some 11, .mov, [.tmp 2], none, [], none⟩,
   ⟨some 12, (.fad 0), [.tmp 4], none, [], none⟩,
   ⟨some 13, (.load none), [.tmp 12], none, [], none⟩,
   ⟨some 14, (.bsl 9 1), [.tmp 13], none, [], none⟩,
   ⟨some 15, (.app 9 1 16), [.tmp 11, .tmp 14], none, [], none⟩,
   ⟨some 2, .mov, [.tmp 15], none, [], none⟩] false [0, 2, 4, 5, 6, 7, 8])))
   (.reg [
   ⟨some 16, (.bin .add), [.tmp 7, .const (.int .i64 1)], none, [], none⟩,
   ⟨some 7, .mov, [.tmp 16], none, [], none⟩] false [0, 2, 4, 5, 6, 7, 8])))))))
  (.seq (.reg [
  ⟨some 17, .mov, [.tmp 2], none, [], none⟩,
  ⟨some 2, .mov, [.tmp 17], none, [], none⟩] false [0, 2, 4, 5, 6, 7, 8])
  (.ret)))
def keep31 : List Nat := [0, 2, 4, 5, 6, 7, 8]
theorem fn31 : compFn Try.prog 31 keep31 = some ⟨18, 1, [(2, none)], body31⟩ := by kernel_rfl

/- chartroom/chartroomref17.Names -/
def body32 : AC :=
  .seq (.reg [
  ⟨some 2, (.nilS 9), [], none, [], none⟩] false [0, 2, 3, 4, 8])
  (.seq (.reg [
  ⟨some 3, (.nilS 9), [], none, [], none⟩] false [0, 2, 3, 4, 8])
  (.seq (.seq (.reg [
  ⟨some 4, .mov, [.const (.int .i64 0)], none, [], none⟩] false [0, 2, 3, 4, 8])
  (.block 0 (.loop (.seq (.seq (.reg [
   ⟨some 5, .mov, [.tmp 4], none, [], none⟩,
   ⟨some 6, .mov, [.tmp 0], none, [], none⟩,
   ⟨some 7, .len, [.tmp 6], none, [], none⟩,
   ⟨some 8, (.bin .lss), [.tmp 5, .tmp 7], none, [], none⟩] false [0, 2, 3, 4, 8])
   (.cond (.tmp 8) (.skip) (.exit 0)))
   (.seq (.block 1 (.reg [
   ⟨some 11, .mov, [.tmp 3], none, [], none⟩,
   ⟨some 12, .mov, [.tmp 0], none, [], none⟩,
   ⟨some 13, .mov, [.tmp 4], none, [], none⟩,
   ⟨some 14, (.ixa 147 2), [.tmp 12, .tmp 13], none, [], none⟩,
   ⟨some 15, (.fad 0), [.tmp 14], none, [], none⟩,
   ⟨some 16, (.load none), [.tmp 15], none, [], none⟩,
   ⟨some 17, (.bsl 9 1), [.tmp 16], none, [], none⟩,
   ⟨some 18, (.app 9 1 16), [.tmp 11, .tmp 17], none, [], none⟩,
   ⟨some 3, .mov, [.tmp 18], none, [], none⟩] false [0, 2, 3, 4, 8]))
   (.reg [
   ⟨some 9, .mov, [.tmp 4], none, [], none⟩,
   ⟨some 10, (.bin .add), [.tmp 9, .const (.int .i64 1)], none, [], none⟩,
   ⟨some 4, .mov, [.tmp 10], none, [], none⟩] false [0, 2, 3, 4, 8]))))))
  (.seq (.reg [
  ⟨some 19, .mov, [.tmp 3], none, [], none⟩,
  ⟨some 2, .mov, [.tmp 19], none, [], none⟩] false [0, 2, 3, 4, 8])
  (.ret))))
def keep32 : List Nat := [0, 2, 3, 4, 8]
theorem fn32 : compFn Try.prog 32 keep32 = some ⟨20, 1, [(2, none)], body32⟩ := by kernel_rfl

/- chartroom/catalog.IsName -/
def body33 : AC :=
  .seq (.reg [
  ⟨some 2, .mov, [.const (.bool false)], none, [], none⟩] false [0, 2, 4, 5, 6, 7, 8, 17])
  (.seq (.skip)
  (.seq (.seq (.reg [
  ⟨some 5, .mov, [.tmp 0], none, [], none⟩,
  ⟨some 6, .len, [.tmp 5], none, [], none⟩,
  ⟨some 7, .mov, [.const (.int .i64 0)], none, [], none⟩] false [0, 2, 4, 5, 6, 7, 8, 17])
  (.block 0 (.loop (.seq (.reg [
   ⟨some 8, (.bin .lss), [.tmp 7, .tmp 6], none, [], none⟩] false [0, 2, 4, 5, 6, 7, 8, 17])
   (.seq (.cond (.tmp 8) (.skip) (.exit 0))
   (.seq (.block 1 (.seq (.reg [
   ⟨some 9, (.ixa 9 1), [.tmp 5, .tmp 7], none, [], none⟩,
   ⟨some 10, (.load none), [.tmp 9], none, [], none⟩,
   ⟨some 4, .mov, [.tmp 10], none, [], none⟩] false [0, 2, 4, 5, 6, 7, 8, 17])
   (.seq (.seq (.reg [
   ⟨some 11, .mov, [.tmp 4], none, [], none⟩,
   ⟨some 12, (.bin .neq), [.tmp 11, .const (.string ⟨#[]⟩)], none, [], none⟩,
   ⟨some 13, .mov, [.tmp 12], none, [], none⟩,
   ⟨some 14, .mov, [.tmp 4], some (13, true), [], none⟩,
   ⟨some 15, .slen, [.tmp 14], some (13, true), [], none⟩,
   ⟨some 16, (.bin .leq), [.tmp 15, .const (.int .i64 64)], some (13, true), [], none⟩,
   ⟨some 17, .pick, [.tmp 13, .tmp 16, .const (.bool false)], none, [], none⟩] false [0, 2, 4, 5, 6, 7, 8, 17])
   (.cond (.tmp 17) (.exit 1) (.skip)))
   (.seq (.reg [
   ⟨some 2, .mov, [.const (.bool false)], none, [], none⟩] false [0, 2, 4, 5, 6, 7, 8, 17])
   (.ret)))))
   (.reg [
   ⟨some 18, (.bin .add), [.tmp 7, .const (.int .i64 1)], none, [], none⟩,
   ⟨some 7, .mov, [.tmp 18], none, [], none⟩] false [0, 2, 4, 5, 6, 7, 8, 17])))))))
  (.seq (.reg [
  ⟨some 2, .mov, [.const (.bool true)], none, [], none⟩] false [0, 2, 4, 5, 6, 7, 8, 17])
  (.ret))))
def keep33 : List Nat := [0, 2, 4, 5, 6, 7, 8, 17]
theorem fn33 : compFn Try.prog 33 keep33 = some ⟨19, 1, [(2, none)], body33⟩ := by kernel_rfl

/- chartroom/chartroomref17.IsName -/
def body34 : AC :=
  .seq (.reg [
  ⟨some 2, .mov, [.const (.bool false)], none, [], none⟩] false [0, 2])
  (.seq (.reg [
  ⟨some 3, .mov, [.tmp 0], none, [], none⟩,
  ⟨some 4, .slen, [.tmp 3], none, [], none⟩,
  ⟨some 5, (.bin .geq), [.tmp 4, .const (.int .i64 1)], none, [], none⟩,
  ⟨some 6, .mov, [.tmp 5], none, [], none⟩,
  ⟨some 7, .mov, [.tmp 0], some (6, true), [], none⟩,
  ⟨some 8, .slen, [.tmp 7], some (6, true), [], none⟩,
  ⟨some 9, (.bin .leq), [.tmp 8, .const (.int .i64 64)], some (6, true), [], none⟩,
  ⟨some 10, .pick, [.tmp 6, .tmp 9, .const (.bool false)], none, [], none⟩,
  ⟨some 2, .mov, [.tmp 10], none, [], none⟩] false [0, 2])
  (.ret))
def keep34 : List Nat := [0, 2]
theorem fn34 : compFn Try.prog 34 keep34 = some ⟨11, 1, [(2, none)], body34⟩ := by kernel_rfl

/- chartroom/catalog.Put -/
def body35 : AC :=
  .seq (.reg [
  ⟨some 2, (.nilS 5), [], none, [], none⟩,
  ⟨some 3, .mov, [.const (.int .i64 0)], none, [], none⟩] false [0, 2, 3, 4, 6, 9, 14, 15, 16, 17])
  (.seq (.seq (.reg [
  ⟨some 7, .mov, [.tmp 0], none, [], none⟩,
  ⟨some 8, (.call 28), [.tmp 7], none, [], none⟩,
  ⟨some 9, .not, [.tmp 8], none, [], none⟩] false [0, 2, 3, 4, 6, 9, 14, 15, 16, 17])
  (.cond (.tmp 9) (.seq (.reg [
  ⟨some 2, (.nilS 5), [], none, [], none⟩,
  ⟨some 3, .mov, [.const (.int .i64 2)], none, [], none⟩] false [0, 2, 3, 4, 6, 9, 14, 15, 16, 17])
  (.ret)) (.skip)))
  (.seq (.reg [
  ⟨some 10, .mov, [.tmp 0], none, [], none⟩,
  ⟨some 11, .len, [.tmp 10], none, [], none⟩,
  ⟨some 12, (.cvi .u64), [.tmp 11], none, [], none⟩,
  ⟨some 13, (.call 103), [.tmp 12], none, [], none⟩,
  ⟨some 4, .mov, [.tmp 13], none, [], none⟩] false [0, 2, 3, 4, 6, 9, 14, 15, 16, 17])
  (.seq (.seq (.reg [
  ⟨some 14, .mov, [.tmp 0], none, [], none⟩,
  ⟨some 15, .len, [.tmp 14], none, [], none⟩,
  ⟨some 16, .mov, [.const (.int .i64 0)], none, [], none⟩] false [0, 2, 3, 4, 6, 9, 14, 15, 16, 17])
  (.block 0 (.loop (.seq (.reg [
   ⟨some 17, (.bin .lss), [.tmp 16, .tmp 15], none, [], none⟩] false [0, 2, 3, 4, 6, 9, 14, 15, 16, 17])
   (.seq (.cond (.tmp 17) (.skip) (.exit 0))
   (.seq (.block 1 (.seq (.reg [
   ⟨some 18, (.ixa 51 2), [.tmp 14, .tmp 16], none, [], none⟩,
   ⟨some 19, (.load (some 2)), [.tmp 18], none, [], none⟩,
   ⟨some 6, (.alloc [(.string ⟨#[]⟩), (.int .u64 0)]), [], none, [], none⟩,
   ⟨none, (.store (some 2)), [.tmp 6, .tmp 19], none, [], none⟩] false [0, 2, 3, 4, 6, 9, 14, 15, 16, 17])
   (.reg [
   ⟨some 20, .mov, [.tmp 4], none, [], none⟩,
   ⟨some 21, (.fad 0), [.tmp 6], none, [], none⟩,
   ⟨some 22, (.load none), [.tmp 21], none, [], none⟩,
   ⟨some 23, (.call 104), [.tmp 22], none, [], none⟩,
   ⟨some 24, (.app 5 1 1), [.tmp 20, .tmp 23], none, [1023, 1024, 1023, 1024], none⟩,
   ⟨some 25, (.fad 1), [.tmp 6], none, [23, 24], none⟩,
   ⟨some 26, (.load none), [.tmp 25], none, [23, 24], none⟩,
   ⟨some 27, (.call 103), [.tmp 26], none, [], (some 999999)⟩,
   ⟨some 28, (.app 5 1 1), [.tmp 24, .tmp 27], none, [], none⟩,
   ⟨some 4, .mov, [.tmp 28], none, [], none⟩] true [0, 2, 3, 4, 6, 9, 14, 15, 16, 17])))
   (.reg [
   ⟨some 29, (.bin .add), [.tmp 16, .const (.int .i64 1)], none, [], none⟩,
   ⟨some 16, .mov, [.tmp 29], none, [], none⟩] false [0, 2, 3, 4, 6, 9, 14, 15, 16, 17])))))))
  (.seq (.reg [
  ⟨some 30, .mov, [.tmp 4], none, [], none⟩,
  ⟨some 2, .mov, [.tmp 30], none, [], none⟩,
  ⟨some 3, .mov, [.const (.int .i64 0)], none, [], none⟩] false [0, 2, 3, 4, 6, 9, 14, 15, 16, 17])
  (.ret)))))
def keep35 : List Nat := [0, 2, 3, 4, 6, 9, 14, 15, 16, 17]
theorem fn35 : compFn Try.prog 35 keep35 = some ⟨31, 1, [(2, none), (3, none)], body35⟩ := by kernel_rfl

/- chartroom/chartroomref17.Put -/
def body36 : AC :=
  .seq (.reg [
  ⟨some 2, (.nilS 5), [], none, [], none⟩,
  ⟨some 3, .mov, [.const (.int .i64 0)], none, [], none⟩] false [0, 2, 3, 4, 5, 8, 16])
  (.seq (.seq (.reg [
  ⟨some 6, .mov, [.tmp 0], none, [], none⟩,
  ⟨some 7, (.call 29), [.tmp 6], none, [], none⟩,
  ⟨some 8, .not, [.tmp 7], none, [], none⟩] false [0, 2, 3, 4, 5, 8, 16])
  (.cond (.tmp 8) (.seq (.reg [
  ⟨some 2, (.nilS 5), [], none, [], none⟩,
  ⟨some 3, .mov, [.const (.int .i64 2)], none, [], none⟩] false [0, 2, 3, 4, 5, 8, 16])
  (.ret)) (.skip)))
  (.seq (.reg [
  ⟨some 9, .mov, [.tmp 0], none, [], none⟩,
  ⟨some 10, .len, [.tmp 9], none, [], none⟩,
  ⟨some 11, (.cvi .u64), [.tmp 10], none, [], none⟩,
  ⟨some 12, (.call 105), [.tmp 11], none, [], none⟩,
  ⟨some 4, .mov, [.tmp 12], none, [], none⟩] false [0, 2, 3, 4, 5, 8, 16])
  (.seq (.seq (.reg [
  ⟨some 5, .mov, [.const (.int .i64 0)], none, [], none⟩] false [0, 2, 3, 4, 5, 8, 16])
  (.block 0 (.loop (.seq (.seq (.reg [
   ⟨some 13, .mov, [.tmp 5], none, [], none⟩,
   ⟨some 14, .mov, [.tmp 0], none, [], none⟩,
   ⟨some 15, .len, [.tmp 14], none, [], none⟩,
   ⟨some 16, (.bin .lss), [.tmp 13, .tmp 15], none, [], none⟩] false [0, 2, 3, 4, 5, 8, 16])
   (.cond (.tmp 16) (.skip) (.exit 0)))
   (.seq (.block 1 (.seq (.reg [
   ⟨some 19, .mov, [.tmp 4], none, [], none⟩,
   ⟨some 20, .mov, [.tmp 0], none, [], none⟩,
   ⟨some 21, .mov, [.tmp 5], none, [], none⟩,
   ⟨some 22, (.ixa 147 2), [.tmp 20, .tmp 21], none, [], none⟩,
   ⟨some 23, (.fad 0), [.tmp 22], none, [], none⟩,
   ⟨some 24, (.load none), [.tmp 23], none, [], none⟩,
   ⟨some 25, (.call 106), [.tmp 24], none, [], none⟩,
   ⟨some 26, (.app 5 1 1), [.tmp 19, .tmp 25], none, [], none⟩,
   ⟨some 4, .mov, [.tmp 26], none, [], none⟩] false [0, 2, 3, 4, 5, 8, 16])
   (.reg [
   ⟨some 27, .mov, [.tmp 4], none, [], none⟩,
   ⟨some 28, .mov, [.tmp 0], none, [], none⟩,
   ⟨some 29, .mov, [.tmp 5], none, [], none⟩,
   ⟨some 30, (.ixa 147 2), [.tmp 28, .tmp 29], none, [], none⟩,
   ⟨some 31, (.fad 1), [.tmp 30], none, [], none⟩,
   ⟨some 32, (.load none), [.tmp 31], none, [], none⟩,
   ⟨some 33, (.call 105), [.tmp 32], none, [], none⟩,
   ⟨some 34, (.app 5 1 1), [.tmp 27, .tmp 33], none, [], none⟩,
   ⟨some 4, .mov, [.tmp 34], none, [], none⟩] false [0, 2, 3, 4, 5, 8, 16])))
   (.reg [
   ⟨some 17, .mov, [.tmp 5], none, [], none⟩,
   ⟨some 18, (.bin .add), [.tmp 17, .const (.int .i64 1)], none, [], none⟩,
   ⟨some 5, .mov, [.tmp 18], none, [], none⟩] false [0, 2, 3, 4, 5, 8, 16]))))))
  (.seq (.reg [
  ⟨some 35, .mov, [.tmp 4], none, [], none⟩,
  ⟨some 2, .mov, [.tmp 35], none, [], none⟩,
  ⟨some 3, .mov, [.const (.int .i64 0)], none, [], none⟩] false [0, 2, 3, 4, 5, 8, 16])
  (.ret)))))
def keep36 : List Nat := [0, 2, 3, 4, 5, 8, 16]
theorem fn36 : compFn Try.prog 36 keep36 = some ⟨36, 1, [(2, none), (3, none)], body36⟩ := by kernel_rfl

/- chartroom/catalog.Parse -/
def body37 : AC :=
  .seq (.reg [
  ⟨some 2, (.nilS 51), [], none, [], none⟩,
  ⟨some 3, .mov, [.const (.int .i64 0)], none, [], none⟩] false [0, 2, 3, 4, 5, 6, 7, 8, 9, 22, 34, 47, 51])
  (.seq (.reg [
  ⟨some 11, .mov, [.tmp 0], none, [], none⟩,
  ⟨some 12, (.call 107), [.tmp 11, .const (.int .i64 0)], none, [], none⟩,
  ⟨some 10, .mov, [.tmp 12], none, [], none⟩,
  ⟨some 13, (.ext 0), [.tmp 10], none, [], none⟩,
  ⟨some 14, (.ext 1), [.tmp 10], none, [], none⟩,
  ⟨some 15, (.ext 2), [.tmp 10], none, [], none⟩,
  ⟨some 4, .mov, [.tmp 13], none, [], none⟩,
  ⟨some 5, .mov, [.tmp 14], none, [], none⟩,
  ⟨some 6, .mov, [.tmp 15], none, [], none⟩] false [0, 2, 3, 4, 5, 6, 7, 8, 9, 22, 34, 47, 51])
  (.seq (.reg [
  ⟨some 7, (.nilS 51), [], none, [], none⟩] false [0, 2, 3, 4, 5, 6, 7, 8, 9, 22, 34, 47, 51])
  (.seq (.seq (.reg [
  ⟨some 8, .mov, [.const (.int .u64 0)], none, [], none⟩] false [0, 2, 3, 4, 5, 6, 7, 8, 9, 22, 34, 47, 51])
  (.block 0 (.loop (.seq (.seq (.reg [
   ⟨some 16, .mov, [.tmp 8], none, [], none⟩,
   ⟨some 17, .mov, [.tmp 4], none, [], none⟩,
   ⟨some 18, (.bin .lss), [.tmp 16, .tmp 17], none, [], none⟩,
   ⟨some 19, .mov, [.tmp 18], none, [], none⟩,
   ⟨some 20, .mov, [.tmp 6], some (19, true), [], none⟩,
   ⟨some 21, (.bin .eql), [.tmp 20, .const (.int .i64 0)], some (19, true), [], none⟩,
   ⟨some 22, .pick, [.tmp 19, .tmp 21, .const (.bool false)], none, [], none⟩] false [0, 2, 3, 4, 5, 6, 7, 8, 9, 22, 34, 47, 51])
   (.cond (.tmp 22) (.skip) (.exit 0)))
   (.seq (.block 1 (.seq (.reg [
   ⟨some 9, (.alloc [(.string ⟨#[]⟩), (.int .u64 0)]), [], none, [], none⟩] false [0, 2, 3, 4, 5, 6, 7, 8, 9, 22, 34, 47, 51])
   (.seq (.seq (.reg [
   ⟨some 26, .mov, [.tmp 0], none, [], none⟩,
   ⟨some 27, .mov, [.tmp 5], none, [], none⟩,
   ⟨some 28, (.call 108), [.tmp 26, .tmp 27], none, [], none⟩,
   ⟨some 25, .mov, [.tmp 28], none, [], none⟩,
   ⟨some 29, (.ext 0), [.tmp 25], none, [], none⟩,
   ⟨some 30, (.ext 1), [.tmp 25], none, [], none⟩,
   ⟨some 31, (.ext 2), [.tmp 25], none, [], none⟩,
   ⟨some 32, (.fad 0), [.tmp 9], none, [], none⟩,
   ⟨none, (.store none), [.tmp 32, .tmp 29], none, [], none⟩,
   ⟨some 5, .mov, [.tmp 30], none, [], none⟩,
   ⟨some 6, .mov, [.tmp 31], none, [], none⟩] false [0, 2, 3, 4, 5, 6, 7, 8, 9, 22, 34, 47, 51])
   (.seq (.reg [
   ⟨some 33, .mov, [.tmp 6], none, [], none⟩,
   ⟨some 34, (.bin .neq), [.tmp 33, .const (.int .i64 0)], none, [], none⟩] false [0, 2, 3, 4, 5, 6, 7, 8, 9, 22, 34, 47, 51])
   (.cond (.tmp 34) (.exit 0) (.skip))))
   (.seq (.reg [
   ⟨some 36, .mov, [.tmp 0], none, [], none⟩,
   ⟨some 37, .mov, [.tmp 5], none, [], none⟩,
   ⟨some 38, (.call 107), [.tmp 36, .tmp 37], none, [], none⟩,
   ⟨some 35, .mov, [.tmp 38], none, [], none⟩,
   ⟨some 39, (.ext 0), [.tmp 35], none, [], none⟩,
   ⟨some 40, (.ext 1), [.tmp 35], none, [], none⟩,
   ⟨some 41, (.ext 2), [.tmp 35], none, [], none⟩,
   ⟨some 42, (.fad 1), [.tmp 9], none, [], none⟩,
   ⟨none, (.store none), [.tmp 42, .tmp 39], none, [], none⟩,
   ⟨some 5, .mov, [.tmp 40], none, [], none⟩,
   ⟨some 6, .mov, [.tmp 41], none, [], none⟩] false [0, 2, 3, 4, 5, 6, 7, 8, 9, 22, 34, 47, 51])
   (.reg [
   ⟨some 43, .mov, [.tmp 7], none, [], none⟩,
   ⟨some 44, (.load (some 2)), [.tmp 9], none, [], none⟩,
   ⟨some 45, (.bsl 51 2), [.tmp 44], none, [], none⟩,
   ⟨some 46, (.app 51 2 24), [.tmp 43, .tmp 45], none, [], none⟩,
   ⟨some 7, .mov, [.tmp 46], none, [], none⟩] false [0, 2, 3, 4, 5, 6, 7, 8, 9, 22, 34, 47, 51])))))
   (.reg [
   ⟨some 23, .mov, [.tmp 8], none, [], none⟩,
   ⟨some 24, (.bin .add), [.tmp 23, .const (.int .u64 1)], none, [], none⟩,
   ⟨some 8, .mov, [.tmp 24], none, [], none⟩] false [0, 2, 3, 4, 5, 6, 7, 8, 9, 22, 34, 47, 51]))))))
  (.seq (.block 2 (.seq (.reg [
  ⟨some 48, .mov, [.tmp 6], none, [], none⟩,
  ⟨some 49, (.bin .neq), [.tmp 48, .const (.int .i64 0)], none, [], none⟩,
  ⟨some 47, .mov, [.tmp 49], none, [], none⟩] false [0, 2, 3, 4, 5, 6, 7, 8, 9, 22, 34, 47, 51])
  (.cond (.tmp 47) (.seq (.reg [
  ⟨some 50, .mov, [.tmp 6], none, [], none⟩,
  ⟨some 2, (.nilS 51), [], none, [], none⟩,
  ⟨some 3, .mov, [.tmp 50], none, [], none⟩] false [0, 2, 3, 4, 5, 6, 7, 8, 9, 22, 34, 47, 51])
  (.ret)) (.seq (.reg [
  ⟨some 52, .mov, [.tmp 5], none, [], none⟩,
  ⟨some 53, .mov, [.tmp 0], none, [], none⟩,
  ⟨some 54, .len, [.tmp 53], none, [], none⟩,
  ⟨some 55, (.bin .neq), [.tmp 52, .tmp 54], none, [], none⟩,
  ⟨some 56, .mov, [.tmp 55], none, [], none⟩,
  ⟨some 57, .mov, [.tmp 7], some (56, false), [], none⟩,
  ⟨some 58, (.call 28), [.tmp 57], some (56, false), [], none⟩,
  ⟨some 59, .not, [.tmp 58], some (56, false), [], none⟩,
  ⟨some 60, .pick, [.tmp 56, .const (.bool true), .tmp 59], none, [], none⟩,
  ⟨some 51, .mov, [.tmp 60], none, [], none⟩] false [0, 2, 3, 4, 5, 6, 7, 8, 9, 22, 34, 47, 51])
  (.cond (.tmp 51) (.seq (.reg [
  ⟨some 2, (.nilS 51), [], none, [], none⟩,
  ⟨some 3, .mov, [.const (.int .i64 2)], none, [], none⟩] false [0, 2, 3, 4, 5, 6, 7, 8, 9, 22, 34, 47, 51])
  (.ret)) (.skip))))))
  (.seq (.reg [
  ⟨some 61, .mov, [.tmp 7], none, [], none⟩,
  ⟨some 2, .mov, [.tmp 61], none, [], none⟩,
  ⟨some 3, .mov, [.const (.int .i64 0)], none, [], none⟩] false [0, 2, 3, 4, 5, 6, 7, 8, 9, 22, 34, 47, 51])
  (.ret))))))
def keep37 : List Nat := [0, 2, 3, 4, 5, 6, 7, 8, 9, 22, 34, 47, 51]
theorem fn37 : compFn Try.prog 37 keep37 = some ⟨62, 1, [(2, none), (3, none)], body37⟩ := by kernel_rfl

/- chartroom/chartroomref17.Parse -/
def body38 : AC :=
  .seq (.reg [
  ⟨some 2, (.nilS 147), [], none, [], none⟩,
  ⟨some 3, .mov, [.const (.int .i64 0)], none, [], none⟩] false [0, 2, 3, 4, 5, 6, 7, 8, 9, 10, 11, 12, 13, 21, 27, 36, 46, 63])
  (.seq (.reg [
  ⟨some 15, .mov, [.tmp 0], none, [], none⟩,
  ⟨some 16, (.call 109), [.tmp 15, .const (.int .i64 0)], none, [], none⟩,
  ⟨some 14, .mov, [.tmp 16], none, [], none⟩,
  ⟨some 17, (.ext 0), [.tmp 14], none, [], none⟩,
  ⟨some 18, (.ext 1), [.tmp 14], none, [], none⟩,
  ⟨some 19, (.ext 2), [.tmp 14], none, [], none⟩,
  ⟨some 4, .mov, [.tmp 17], none, [], none⟩,
  ⟨some 5, .mov, [.tmp 18], none, [], none⟩,
  ⟨some 6, .mov, [.tmp 19], none, [], none⟩] false [0, 2, 3, 4, 5, 6, 7, 8, 9, 10, 11, 12, 13, 21, 27, 36, 46, 63])
  (.seq (.seq (.reg [
  ⟨some 20, .mov, [.tmp 6], none, [], none⟩,
  ⟨some 21, (.bin .neq), [.tmp 20, .const (.int .i64 0)], none, [], none⟩] false [0, 2, 3, 4, 5, 6, 7, 8, 9, 10, 11, 12, 13, 21, 27, 36, 46, 63])
  (.cond (.tmp 21) (.seq (.reg [
  ⟨some 22, .mov, [.tmp 6], none, [], none⟩,
  ⟨some 2, (.nilS 147), [], none, [], none⟩,
  ⟨some 3, .mov, [.tmp 22], none, [], none⟩] false [0, 2, 3, 4, 5, 6, 7, 8, 9, 10, 11, 12, 13, 21, 27, 36, 46, 63])
  (.ret)) (.skip)))
  (.seq (.reg [
  ⟨some 7, (.nilS 147), [], none, [], none⟩] false [0, 2, 3, 4, 5, 6, 7, 8, 9, 10, 11, 12, 13, 21, 27, 36, 46, 63])
  (.seq (.block 0 (.loop (.seq (.seq (.reg [
   ⟨some 23, .mov, [.tmp 7], none, [], none⟩,
   ⟨some 24, .len, [.tmp 23], none, [], none⟩,
   ⟨some 25, (.cvi .u64), [.tmp 24], none, [], none⟩,
   ⟨some 26, .mov, [.tmp 4], none, [], none⟩,
   ⟨some 27, (.bin .lss), [.tmp 25, .tmp 26], none, [], none⟩] false [0, 2, 3, 4, 5, 6, 7, 8, 9, 10, 11, 12, 13, 21, 27, 36, 46, 63])
   (.cond (.tmp 27) (.skip) (.exit 0)))
   (.block 1 (.seq (.reg [
   ⟨some 29, .mov, [.tmp 0], none, [], none⟩,
   ⟨some 30, .mov, [.tmp 5], none, [], none⟩,
   ⟨some 31, (.call 110), [.tmp 29, .tmp 30], none, [], none⟩,
   ⟨some 28, .mov, [.tmp 31], none, [], none⟩,
   ⟨some 32, (.ext 0), [.tmp 28], none, [], none⟩,
   ⟨some 33, (.ext 1), [.tmp 28], none, [], none⟩,
   ⟨some 34, (.ext 2), [.tmp 28], none, [], none⟩,
   ⟨some 8, .mov, [.tmp 32], none, [], none⟩,
   ⟨some 9, .mov, [.tmp 33], none, [], none⟩,
   ⟨some 10, .mov, [.tmp 34], none, [], none⟩] false [0, 2, 3, 4, 5, 6, 7, 8, 9, 10, 11, 12, 13, 21, 27, 36, 46, 63])
   (.seq (.seq (.reg [
   ⟨some 35, .mov, [.tmp 10], none, [], none⟩,
   ⟨some 36, (.bin .neq), [.tmp 35, .const (.int .i64 0)], none, [], none⟩] false [0, 2, 3, 4, 5, 6, 7, 8, 9, 10, 11, 12, 13, 21, 27, 36, 46, 63])
   (.cond (.tmp 36) (.seq (.reg [
   ⟨some 37, .mov, [.tmp 10], none, [], none⟩,
   ⟨some 2, (.nilS 147), [], none, [], none⟩,
   ⟨some 3, .mov, [.tmp 37], none, [], none⟩] false [0, 2, 3, 4, 5, 6, 7, 8, 9, 10, 11, 12, 13, 21, 27, 36, 46, 63])
   (.ret)) (.skip)))
   (.seq (.reg [
   ⟨some 39, .mov, [.tmp 0], none, [], none⟩,
   ⟨some 40, .mov, [.tmp 9], none, [], none⟩,
   ⟨some 41, (.call 109), [.tmp 39, .tmp 40], none, [], none⟩,
   ⟨some 38, .mov, [.tmp 41], none, [], none⟩,
   ⟨some 42, (.ext 0), [.tmp 38], none, [], none⟩,
   ⟨some 43, (.ext 1), [.tmp 38], none, [], none⟩,
   ⟨some 44, (.ext 2), [.tmp 38], none, [], none⟩,
   ⟨some 11, .mov, [.tmp 42], none, [], none⟩,
   ⟨some 12, .mov, [.tmp 43], none, [], none⟩,
   ⟨some 13, .mov, [.tmp 44], none, [], none⟩] false [0, 2, 3, 4, 5, 6, 7, 8, 9, 10, 11, 12, 13, 21, 27, 36, 46, 63])
   (.seq (.seq (.reg [
   ⟨some 45, .mov, [.tmp 13], none, [], none⟩,
   ⟨some 46, (.bin .neq), [.tmp 45, .const (.int .i64 0)], none, [], none⟩] false [0, 2, 3, 4, 5, 6, 7, 8, 9, 10, 11, 12, 13, 21, 27, 36, 46, 63])
   (.cond (.tmp 46) (.seq (.reg [
   ⟨some 47, .mov, [.tmp 13], none, [], none⟩,
   ⟨some 2, (.nilS 147), [], none, [], none⟩,
   ⟨some 3, .mov, [.tmp 47], none, [], none⟩] false [0, 2, 3, 4, 5, 6, 7, 8, 9, 10, 11, 12, 13, 21, 27, 36, 46, 63])
   (.ret)) (.skip)))
   (.seq (.reg [
   ⟨some 48, .mov, [.tmp 7], none, [], none⟩,
   ⟨some 49, .mov, [.tmp 8], none, [], none⟩,
   ⟨some 50, .mov, [.tmp 11], none, [], none⟩,
   ⟨some 51, (.bld [(.string ⟨#[]⟩), (.int .u64 0)] [(0, 1), (1, 1)]), [.tmp 49, .tmp 50], none, [], none⟩,
   ⟨some 52, (.bsl 147 2), [.tmp 51], none, [], none⟩,
   ⟨some 53, (.app 147 2 24), [.tmp 48, .tmp 52], none, [], none⟩,
   ⟨some 7, .mov, [.tmp 53], none, [], none⟩] false [0, 2, 3, 4, 5, 6, 7, 8, 9, 10, 11, 12, 13, 21, 27, 36, 46, 63])
   (.reg [
   ⟨some 54, .mov, [.tmp 12], none, [], none⟩,
   ⟨some 5, .mov, [.tmp 54], none, [], none⟩] false [0, 2, 3, 4, 5, 6, 7, 8, 9, 10, 11, 12, 13, 21, 27, 36, 46, 63]))))))))))
  (.seq (.seq (.reg [
  ⟨some 55, .mov, [.tmp 5], none, [], none⟩,
  ⟨some 56, .mov, [.tmp 0], none, [], none⟩,
  ⟨some 57, .len, [.tmp 56], none, [], none⟩,
  ⟨some 58, (.bin .neq), [.tmp 55, .tmp 57], none, [], none⟩,
  ⟨some 59, .mov, [.tmp 58], none, [], none⟩,
  ⟨some 60, .mov, [.tmp 7], some (59, false), [], none⟩,
  ⟨some 61, (.call 29), [.tmp 60], some (59, false), [], none⟩,
  ⟨some 62, .not, [.tmp 61], some (59, false), [], none⟩,
  ⟨some 63, .pick, [.tmp 59, .const (.bool true), .tmp 62], none, [], none⟩] false [0, 2, 3, 4, 5, 6, 7, 8, 9, 10, 11, 12, 13, 21, 27, 36, 46, 63])
  (.cond (.tmp 63) (.seq (.reg [
  ⟨some 2, (.nilS 147), [], none, [], none⟩,
  ⟨some 3, .mov, [.const (.int .i64 2)], none, [], none⟩] false [0, 2, 3, 4, 5, 6, 7, 8, 9, 10, 11, 12, 13, 21, 27, 36, 46, 63])
  (.ret)) (.skip)))
  (.seq (.reg [
  ⟨some 64, .mov, [.tmp 7], none, [], none⟩,
  ⟨some 2, .mov, [.tmp 64], none, [], none⟩,
  ⟨some 3, .mov, [.const (.int .i64 0)], none, [], none⟩] false [0, 2, 3, 4, 5, 6, 7, 8, 9, 10, 11, 12, 13, 21, 27, 36, 46, 63])
  (.ret)))))))
def keep38 : List Nat := [0, 2, 3, 4, 5, 6, 7, 8, 9, 10, 11, 12, 13, 21, 27, 36, 46, 63]
theorem fn38 : compFn Try.prog 38 keep38 = some ⟨65, 1, [(2, none), (3, none)], body38⟩ := by kernel_rfl

/- (chartroom/catalog.Catalog).may -/
def body94 : AC :=
  .seq (.reg [
  ⟨some 4, .mov, [.const (.int .i64 0)], none, [], none⟩] false [0, 1, 4, 5, 9])
  (.seq (.block 0 (.seq (.reg [
  ⟨some 6, .mov, [.tmp 0], none, [], none⟩,
  ⟨some 7, (.call 28), [.tmp 6], none, [], none⟩,
  ⟨some 8, .not, [.tmp 7], none, [], none⟩,
  ⟨some 5, .mov, [.tmp 8], none, [], none⟩] false [0, 1, 4, 5, 9])
  (.cond (.tmp 5) (.seq (.reg [
  ⟨some 4, .mov, [.const (.int .i64 2)], none, [], none⟩] false [0, 1, 4, 5, 9])
  (.ret)) (.seq (.reg [
  ⟨some 10, .mov, [.tmp 1], none, [], none⟩,
  ⟨some 11, (.call 33), [.tmp 10], none, [], none⟩,
  ⟨some 12, .not, [.tmp 11], none, [], none⟩,
  ⟨some 9, .mov, [.tmp 12], none, [], none⟩] false [0, 1, 4, 5, 9])
  (.cond (.tmp 9) (.seq (.reg [
  ⟨some 4, .mov, [.const (.int .i64 170)], none, [], none⟩] false [0, 1, 4, 5, 9])
  (.ret)) (.skip))))))
  (.seq (.reg [
  ⟨some 4, .mov, [.const (.int .i64 0)], none, [], none⟩] false [0, 1, 4, 5, 9])
  (.ret)))
def keep94 : List Nat := [0, 1, 4, 5, 9]
theorem fn94 : compFn Try.prog 94 keep94 = some ⟨13, 2, [(4, none)], body94⟩ := by kernel_rfl

/- (chartroom/catalog.Catalog).place -/
def body95 : AC :=
  .seq (.reg [
  ⟨some 4, .mov, [.const (.int .i64 0)], none, [], none⟩,
  ⟨some 5, .mov, [.const (.bool false)], none, [], none⟩] false [0, 1, 4, 5])
  (.seq (.reg [
  ⟨some 6, .mov, [.tmp 0], none, [], none⟩,
  ⟨some 7, .mov, [.tmp 1], none, [], none⟩,
  ⟨some 8, (.call 147), [.tmp 6, .tmp 7, .func 148], none, [], none⟩,
  ⟨some 9, (.ext 0), [.tmp 8], none, [], none⟩,
  ⟨some 10, (.ext 1), [.tmp 8], none, [], none⟩,
  ⟨some 4, .mov, [.tmp 9], none, [], none⟩,
  ⟨some 5, .mov, [.tmp 10], none, [], none⟩] false [0, 1, 4, 5])
  (.ret))
def keep95 : List Nat := [0, 1, 4, 5]
theorem fn95 : compFn Try.prog 95 keep95 = some ⟨11, 2, [(4, none), (5, none)], body95⟩ := by kernel_rfl

/- slices.ContainsFunc[chartroom/catalog.Catalog,chartroom/catalog.Entry] -/
def body96 : AC :=
  .seq (.reg [
  ⟨some 4, .mov, [.const (.bool false)], none, [], none⟩] false [0, 1, 4])
  (.seq (.reg [
  ⟨some 5, .mov, [.tmp 0], none, [], none⟩,
  ⟨some 6, .mov, [.tmp 1], none, [], none⟩,
  ⟨some 7, (.call 150), [.tmp 5, .tmp 6], none, [], none⟩,
  ⟨some 8, (.bin .geq), [.tmp 7, .const (.int .i64 0)], none, [], none⟩,
  ⟨some 4, .mov, [.tmp 8], none, [], none⟩] false [0, 1, 4])
  (.ret))
def keep96 : List Nat := [0, 1, 4]
theorem fn96 : compFn Try.prog 96 keep96 = some ⟨9, 2, [(4, none)], body96⟩ := by kernel_rfl

/- (chartroom/catalog.Catalog).Bind$1 -/
def body97 : AC :=
  .seq (.reg [
  ⟨some 2, .box, [.tmp 0], none, [], none⟩,
  ⟨some 3, .mov, [.const (.bool false)], none, [], none⟩] false [0, 1, 2, 3])
  (.seq (.reg [
  ⟨some 4, (.fad 1), [.tmp 2], none, [], none⟩,
  ⟨some 5, (.load none), [.tmp 4], none, [], none⟩,
  ⟨some 6, (.load none), [.tmp 1], none, [], none⟩,
  ⟨some 7, (.bin .eql), [.tmp 5, .tmp 6], none, [], none⟩,
  ⟨some 3, .mov, [.tmp 7], none, [], none⟩] false [0, 1, 2, 3])
  (.ret))
def keep97 : List Nat := [0, 1, 2, 3]
theorem fn97 : compFn Try.prog 97 keep97 = some ⟨8, 2, [(3, none)], body97⟩ := by kernel_rfl

/- slices.Clone[chartroom/catalog.Catalog,chartroom/catalog.Entry] -/
def body99 : AC :=
  .seq (.reg [
  ⟨some 2, (.nilS 51), [], none, [], none⟩] false [0, 2, 4])
  (.seq (.seq (.reg [
  ⟨some 3, .mov, [.tmp 0], none, [], none⟩,
  ⟨some 4, (.ex (.isnil false)), [.tmp 3], none, [], none⟩] false [0, 2, 4])
  (.cond (.tmp 4) (.seq (.reg [
  ⟨some 2, (.nilS 51), [], none, [], none⟩] false [0, 2, 4])
  (.ret)) (.skip)))
  (.seq (.reg [
  ⟨some 5, (.bsl 51 2), [], none, [], none⟩,
  ⟨some 6, .mov, [.tmp 0], none, [], none⟩,
  ⟨some 7, (.app 51 2 24), [.tmp 5, .tmp 6], none, [], none⟩,
  ⟨some 2, .mov, [.tmp 7], none, [], none⟩] false [0, 2, 4])
  (.ret)))
def keep99 : List Nat := [0, 2, 4]
theorem fn99 : compFn Try.prog 99 keep99 = some ⟨8, 1, [(2, none)], body99⟩ := by kernel_rfl

/- chartroom/chartroomref17.put -/
def body100 : AC :=
  .seq (.reg [
  ⟨some 3, .box, [.tmp 1], none, [], none⟩,
  ⟨some 4, (.nilS 147), [], none, [], none⟩] false [0, 1, 3, 4, 5, 6, 7, 11, 25, 38])
  (.seq (.reg [
  ⟨some 5, (.nilS 147), [], none, [], none⟩] false [0, 1, 3, 4, 5, 6, 7, 11, 25, 38])
  (.seq (.reg [
  ⟨some 6, .mov, [.const (.bool false)], none, [], none⟩] false [0, 1, 3, 4, 5, 6, 7, 11, 25, 38])
  (.seq (.seq (.reg [
  ⟨some 7, .mov, [.const (.int .i64 0)], none, [], none⟩] false [0, 1, 3, 4, 5, 6, 7, 11, 25, 38])
  (.block 0 (.loop (.seq (.seq (.reg [
   ⟨some 8, .mov, [.tmp 7], none, [], none⟩,
   ⟨some 9, .mov, [.tmp 0], none, [], none⟩,
   ⟨some 10, .len, [.tmp 9], none, [], none⟩,
   ⟨some 11, (.bin .lss), [.tmp 8, .tmp 10], none, [], none⟩] false [0, 1, 3, 4, 5, 6, 7, 11, 25, 38])
   (.cond (.tmp 11) (.skip) (.exit 0)))
   (.seq (.block 1 (.seq (.seq (.reg [
   ⟨some 14, .mov, [.tmp 6], none, [], none⟩,
   ⟨some 15, .not, [.tmp 14], none, [], none⟩,
   ⟨some 16, .mov, [.tmp 15], none, [], none⟩,
   ⟨some 17, .mov, [.tmp 0], some (16, true), [], none⟩,
   ⟨some 18, .mov, [.tmp 7], some (16, true), [], none⟩,
   ⟨some 19, (.ixa 147 2), [.tmp 17, .tmp 18], some (16, true), [], none⟩,
   ⟨some 20, (.fad 0), [.tmp 19], some (16, true), [], none⟩,
   ⟨some 21, (.load none), [.tmp 20], some (16, true), [], none⟩,
   ⟨some 22, (.fad 0), [.tmp 3], some (16, true), [], none⟩,
   ⟨some 23, (.load none), [.tmp 22], some (16, true), [], none⟩,
   ⟨some 24, (.bin .gtr), [.tmp 21, .tmp 23], some (16, true), [], none⟩,
   ⟨some 25, .pick, [.tmp 16, .tmp 24, .const (.bool false)], none, [], none⟩] true [0, 1, 3, 4, 5, 6, 7, 11, 25, 38])
   (.cond (.tmp 25) (.seq (.reg [
   ⟨some 26, .mov, [.tmp 5], none, [], none⟩,
   ⟨some 27, (.load (some 2)), [.tmp 3], none, [], none⟩,
   ⟨some 28, (.bsl 147 2), [.tmp 27], none, [], none⟩,
   ⟨some 29, (.app 147 2 24), [.tmp 26, .tmp 28], none, [], none⟩,
   ⟨some 5, .mov, [.tmp 29], none, [], none⟩] false [0, 1, 3, 4, 5, 6, 7, 11, 25, 38])
   (.reg [
   ⟨some 6, .mov, [.const (.bool true)], none, [], none⟩] false [0, 1, 3, 4, 5, 6, 7, 11, 25, 38])) (.skip)))
   (.reg [
   ⟨some 30, .mov, [.tmp 5], none, [], none⟩,
   ⟨some 31, .mov, [.tmp 0], none, [], none⟩,
   ⟨some 32, .mov, [.tmp 7], none, [], none⟩,
   ⟨some 33, (.ixa 147 2), [.tmp 31, .tmp 32], none, [], none⟩,
   ⟨some 34, (.load (some 2)), [.tmp 33], none, [], none⟩,
   ⟨some 35, (.bsl 147 2), [.tmp 34], none, [], none⟩,
   ⟨some 36, (.app 147 2 24), [.tmp 30, .tmp 35], none, [], none⟩,
   ⟨some 5, .mov, [.tmp 36], none, [], none⟩] false [0, 1, 3, 4, 5, 6, 7, 11, 25, 38])))
   (.reg [
   ⟨some 12, .mov, [.tmp 7], none, [], none⟩,
   ⟨some 13, (.bin .add), [.tmp 12, .const (.int .i64 1)], none, [], none⟩,
   ⟨some 7, .mov, [.tmp 13], none, [], none⟩] false [0, 1, 3, 4, 5, 6, 7, 11, 25, 38]))))))
  (.seq (.seq (.reg [
  ⟨some 37, .mov, [.tmp 6], none, [], none⟩,
  ⟨some 38, .not, [.tmp 37], none, [], none⟩] false [0, 1, 3, 4, 5, 6, 7, 11, 25, 38])
  (.cond (.tmp 38) (.reg [
  ⟨some 39, .mov, [.tmp 5], none, [], none⟩,
  ⟨some 40, (.load (some 2)), [.tmp 3], none, [], none⟩,
  ⟨some 41, (.bsl 147 2), [.tmp 40], none, [], none⟩,
  ⟨some 42, (.app 147 2 24), [.tmp 39, .tmp 41], none, [], none⟩,
  ⟨some 5, .mov, [.tmp 42], none, [], none⟩] false [0, 1, 3, 4, 5, 6, 7, 11, 25, 38]) (.skip)))
  (.seq (.reg [
  ⟨some 43, .mov, [.tmp 5], none, [], none⟩,
  ⟨some 4, .mov, [.tmp 43], none, [], none⟩] false [0, 1, 3, 4, 5, 6, 7, 11, 25, 38])
  (.ret))))))
def keep100 : List Nat := [0, 1, 3, 4, 5, 6, 7, 11, 25, 38]
theorem fn100 : compFn Try.prog 100 keep100 = some ⟨44, 2, [(4, none)], body100⟩ := by kernel_rfl

/- slices.Delete[chartroom/catalog.Catalog,chartroom/catalog.Entry] -/
def body101 : AC :=
  .seq (.reg [
  ⟨some 6, (.nilS 51), [], none, [], none⟩] false [0, 1, 2, 6, 7, 16])
  (.seq (.reg [
  ⟨some 8, .mov, [.tmp 0], none, [], none⟩,
  ⟨some 9, .mov, [.tmp 1], none, [], none⟩,
  ⟨some 10, .mov, [.tmp 2], none, [], none⟩,
  ⟨some 11, .mov, [.tmp 0], none, [], none⟩,
  ⟨some 12, .len, [.tmp 11], none, [], none⟩,
  ⟨some 13, (.ex .dead), [], none, [], none⟩] false [0, 1, 2, 6, 7, 16])
  (.seq (.seq (.reg [
  ⟨some 14, .mov, [.tmp 1], none, [], none⟩,
  ⟨some 15, .mov, [.tmp 2], none, [], none⟩,
  ⟨some 16, (.bin .eql), [.tmp 14, .tmp 15], none, [], none⟩] false [0, 1, 2, 6, 7, 16])
  (.cond (.tmp 16) (.seq (.reg [
  ⟨some 17, .mov, [.tmp 0], none, [], none⟩,
  ⟨some 6, .mov, [.tmp 17], none, [], none⟩] false [0, 1, 2, 6, 7, 16])
  (.ret)) (.skip)))
  (.seq (.reg [
  ⟨some 18, .mov, [.tmp 0], none, [], none⟩,
  ⟨some 19, .len, [.tmp 18], none, [], none⟩,
  ⟨some 7, .mov, [.tmp 19], none, [], none⟩] false [0, 1, 2, 6, 7, 16])
  (.seq (.reg [
  ⟨some 20, .mov, [.tmp 0], none, [], none⟩,
  ⟨some 21, .mov, [.tmp 1], none, [], none⟩,
  ⟨some 22, (.slc 2 false true), [.tmp 20, .tmp 21], none, [], none⟩,
  ⟨some 23, .mov, [.tmp 0], none, [], none⟩,
  ⟨some 24, .mov, [.tmp 2], none, [], none⟩,
  ⟨some 25, (.slc 2 true false), [.tmp 23, .tmp 24], none, [], none⟩,
  ⟨some 26, (.app 51 2 24), [.tmp 22, .tmp 25], none, [], none⟩,
  ⟨some 0, .mov, [.tmp 26], none, [], none⟩] true [0, 1, 2, 6, 7, 16])
  (.seq (.reg [
  ⟨some 27, .mov, [.tmp 0], none, [], none⟩,
  ⟨some 28, .mov, [.tmp 0], none, [], none⟩,
  ⟨some 29, .len, [.tmp 28], none, [], none⟩,
  ⟨some 30, .mov, [.tmp 7], none, [], none⟩,
  ⟨some 31, (.slc 2 true true), [.tmp 27, .tmp 29, .tmp 30], none, [], none⟩,
  ⟨none, (.clr 51 2 [(.string ⟨#[]⟩), (.int .u64 0)]), [.tmp 31], none, [], none⟩] false [0, 1, 2, 6, 7, 16])
  (.seq (.reg [
  ⟨some 32, .mov, [.tmp 0], none, [], none⟩,
  ⟨some 6, .mov, [.tmp 32], none, [], none⟩] false [0, 1, 2, 6, 7, 16])
  (.ret)))))))
def keep101 : List Nat := [0, 1, 2, 6, 7, 16]
theorem fn101 : compFn Try.prog 101 keep101 = some ⟨33, 3, [(6, none)], body101⟩ := by kernel_rfl

/- chartroom/chartroomref17.without -/
def body102 : AC :=
  .seq (.reg [
  ⟨some 4, (.nilS 147), [], none, [], none⟩] false [0, 1, 4, 5, 6, 10, 19])
  (.seq (.reg [
  ⟨some 5, (.nilS 147), [], none, [], none⟩] false [0, 1, 4, 5, 6, 10, 19])
  (.seq (.seq (.reg [
  ⟨some 6, .mov, [.const (.int .i64 0)], none, [], none⟩] false [0, 1, 4, 5, 6, 10, 19])
  (.block 0 (.loop (.seq (.seq (.reg [
   ⟨some 7, .mov, [.tmp 6], none, [], none⟩,
   ⟨some 8, .mov, [.tmp 0], none, [], none⟩,
   ⟨some 9, .len, [.tmp 8], none, [], none⟩,
   ⟨some 10, (.bin .lss), [.tmp 7, .tmp 9], none, [], none⟩] false [0, 1, 4, 5, 6, 10, 19])
   (.cond (.tmp 10) (.skip) (.exit 0)))
   (.seq (.block 1 (.seq (.reg [
   ⟨some 13, .mov, [.tmp 0], none, [], none⟩,
   ⟨some 14, .mov, [.tmp 6], none, [], none⟩,
   ⟨some 15, (.ixa 147 2), [.tmp 13, .tmp 14], none, [], none⟩,
   ⟨some 16, (.fad 0), [.tmp 15], none, [], none⟩,
   ⟨some 17, (.load none), [.tmp 16], none, [], none⟩,
   ⟨some 18, .mov, [.tmp 1], none, [], none⟩,
   ⟨some 19, (.bin .neq), [.tmp 17, .tmp 18], none, [], none⟩] false [0, 1, 4, 5, 6, 10, 19])
   (.cond (.tmp 19) (.reg [
   ⟨some 20, .mov, [.tmp 5], none, [], none⟩,
   ⟨some 21, .mov, [.tmp 0], none, [], none⟩,
   ⟨some 22, .mov, [.tmp 6], none, [], none⟩,
   ⟨some 23, (.ixa 147 2), [.tmp 21, .tmp 22], none, [], none⟩,
   ⟨some 24, (.load (some 2)), [.tmp 23], none, [], none⟩,
   ⟨some 25, (.bsl 147 2), [.tmp 24], none, [], none⟩,
   ⟨some 26, (.app 147 2 24), [.tmp 20, .tmp 25], none, [], none⟩,
   ⟨some 5, .mov, [.tmp 26], none, [], none⟩] false [0, 1, 4, 5, 6, 10, 19]) (.skip))))
   (.reg [
   ⟨some 11, .mov, [.tmp 6], none, [], none⟩,
   ⟨some 12, (.bin .add), [.tmp 11, .const (.int .i64 1)], none, [], none⟩,
   ⟨some 6, .mov, [.tmp 12], none, [], none⟩] false [0, 1, 4, 5, 6, 10, 19]))))))
  (.seq (.reg [
  ⟨some 27, .mov, [.tmp 5], none, [], none⟩,
  ⟨some 4, .mov, [.tmp 27], none, [], none⟩] false [0, 1, 4, 5, 6, 10, 19])
  (.ret))))
def keep102 : List Nat := [0, 1, 4, 5, 6, 10, 19]
theorem fn102 : compFn Try.prog 102 keep102 = some ⟨28, 2, [(4, none)], body102⟩ := by kernel_rfl

/- slices.BinarySearchFunc[chartroom/catalog.Catalog,chartroom/catalog.Entry,string] -/
def body147 : AC :=
  .seq (.reg [
  ⟨some 6, .mov, [.const (.int .i64 0)], none, [], none⟩,
  ⟨some 7, .mov, [.const (.bool false)], none, [], none⟩] false [0, 1, 2, 6, 7, 8, 9, 10, 11, 17, 31])
  (.seq (.reg [
  ⟨some 12, .mov, [.tmp 0], none, [], none⟩,
  ⟨some 13, .len, [.tmp 12], none, [], none⟩,
  ⟨some 8, .mov, [.tmp 13], none, [], none⟩] false [0, 1, 2, 6, 7, 8, 9, 10, 11, 17, 31])
  (.seq (.reg [
  ⟨some 14, .mov, [.tmp 8], none, [], none⟩,
  ⟨some 9, .mov, [.const (.int .i64 0)], none, [], none⟩,
  ⟨some 10, .mov, [.tmp 14], none, [], none⟩] false [0, 1, 2, 6, 7, 8, 9, 10, 11, 17, 31])
  (.seq (.block 0 (.loop (.seq (.seq (.reg [
   ⟨some 15, .mov, [.tmp 9], none, [], none⟩,
   ⟨some 16, .mov, [.tmp 10], none, [], none⟩,
   ⟨some 17, (.bin .lss), [.tmp 15, .tmp 16], none, [], none⟩] false [0, 1, 2, 6, 7, 8, 9, 10, 11, 17, 31])
   (.cond (.tmp 17) (.skip) (.exit 0)))
   (.block 1 (.seq (.reg [
   ⟨some 18, .mov, [.tmp 9], none, [], none⟩,
   ⟨some 19, .mov, [.tmp 10], none, [], none⟩,
   ⟨some 20, (.bin .add), [.tmp 18, .tmp 19], none, [], none⟩,
   ⟨some 21, (.cvi .u64), [.tmp 20], none, [], none⟩,
   ⟨some 22, (.bin .shr), [.tmp 21, .const (.int .u64 1)], none, [], none⟩,
   ⟨some 23, (.cvi .i64), [.tmp 22], none, [], none⟩,
   ⟨some 11, .mov, [.tmp 23], none, [], none⟩] false [0, 1, 2, 6, 7, 8, 9, 10, 11, 17, 31])
   (.seq (.reg [
   ⟨some 24, .mov, [.tmp 2], none, [], none⟩,
   ⟨some 25, .mov, [.tmp 0], none, [], none⟩,
   ⟨some 26, .mov, [.tmp 11], none, [], none⟩,
   ⟨some 27, (.ixa 51 2), [.tmp 25, .tmp 26], none, [], none⟩,
   ⟨some 28, (.load (some 2)), [.tmp 27], none, [], none⟩,
   ⟨some 29, .mov, [.tmp 1], none, [], none⟩,
   ⟨some 30, .calv, [.tmp 24, .tmp 28, .tmp 29], none, [], none⟩,
   ⟨some 31, (.bin .lss), [.tmp 30, .const (.int .i64 0)], none, [], none⟩] false [0, 1, 2, 6, 7, 8, 9, 10, 11, 17, 31])
   (.cond (.tmp 31) (.reg [
   ⟨some 32, .mov, [.tmp 11], none, [], none⟩,
   ⟨some 33, (.bin .add), [.tmp 32, .const (.int .i64 1)], none, [], none⟩,
   ⟨some 9, .mov, [.tmp 33], none, [], none⟩] false [0, 1, 2, 6, 7, 8, 9, 10, 11, 17, 31]) (.reg [
   ⟨some 34, .mov, [.tmp 11], none, [], none⟩,
   ⟨some 10, .mov, [.tmp 34], none, [], none⟩] false [0, 1, 2, 6, 7, 8, 9, 10, 11, 17, 31]))))))))
  (.seq (.reg [
  ⟨some 35, .mov, [.tmp 9], none, [], none⟩,
  ⟨some 36, .mov, [.tmp 9], none, [], none⟩,
  ⟨some 37, .mov, [.tmp 8], none, [], none⟩,
  ⟨some 38, (.bin .lss), [.tmp 36, .tmp 37], none, [], none⟩,
  ⟨some 39, .mov, [.tmp 38], none, [], none⟩,
  ⟨some 40, .mov, [.tmp 2], some (39, true), [], none⟩,
  ⟨some 41, .mov, [.tmp 0], some (39, true), [], none⟩,
  ⟨some 42, .mov, [.tmp 9], some (39, true), [], none⟩,
  ⟨some 43, (.ixa 51 2), [.tmp 41, .tmp 42], some (39, true), [], none⟩,
  ⟨some 44, (.load (some 2)), [.tmp 43], some (39, true), [], none⟩,
  ⟨some 45, .mov, [.tmp 1], some (39, true), [], none⟩,
  ⟨some 46, .calv, [.tmp 40, .tmp 44, .tmp 45], some (39, true), [], none⟩,
  ⟨some 47, (.bin .eql), [.tmp 46, .const (.int .i64 0)], some (39, true), [], none⟩,
  ⟨some 48, .pick, [.tmp 39, .tmp 47, .const (.bool false)], none, [], none⟩,
  ⟨some 6, .mov, [.tmp 35], none, [], none⟩,
  ⟨some 7, .mov, [.tmp 48], none, [], none⟩] false [0, 1, 2, 6, 7, 8, 9, 10, 11, 17, 31])
  (.ret)))))
def keep147 : List Nat := [0, 1, 2, 6, 7, 8, 9, 10, 11, 17, 31]
theorem fn147 : compFn Try.prog 147 keep147 = some ⟨49, 3, [(6, none), (7, none)], body147⟩ := by kernel_rfl

/- (chartroom/catalog.Catalog).place$1 -/
def body148 : AC :=
  .seq (.reg [
  ⟨some 2, .box, [.tmp 0], none, [], none⟩,
  ⟨some 4, .mov, [.const (.int .i64 0)], none, [], none⟩] false [0, 1, 2, 4])
  (.seq (.reg [
  ⟨some 5, (.fad 0), [.tmp 2], none, [], none⟩,
  ⟨some 6, (.load none), [.tmp 5], none, [], none⟩,
  ⟨some 7, .mov, [.tmp 1], none, [], none⟩,
  ⟨some 8, (.call 149), [.tmp 6, .tmp 7], none, [], none⟩,
  ⟨some 4, .mov, [.tmp 8], none, [], none⟩] false [0, 1, 2, 4])
  (.ret))
def keep148 : List Nat := [0, 1, 2, 4]
theorem fn148 : compFn Try.prog 148 keep148 = some ⟨9, 2, [(4, none)], body148⟩ := by kernel_rfl

/- cmp.Compare[string] -/
def body149 : AC :=
  .seq (.reg [
  ⟨some 4, .mov, [.const (.int .i64 0)], none, [], none⟩] false [0, 1, 4, 5, 6, 11, 12, 13, 16, 19])
  (.seq (.reg [
  ⟨some 7, .mov, [.tmp 0], none, [], none⟩,
  ⟨some 8, (.call 170), [.tmp 7], none, [], none⟩,
  ⟨some 5, .mov, [.tmp 8], none, [], none⟩] false [0, 1, 4, 5, 6, 11, 12, 13, 16, 19])
  (.seq (.reg [
  ⟨some 9, .mov, [.tmp 1], none, [], none⟩,
  ⟨some 10, (.call 170), [.tmp 9], none, [], none⟩,
  ⟨some 6, .mov, [.tmp 10], none, [], none⟩] false [0, 1, 4, 5, 6, 11, 12, 13, 16, 19])
  (.seq (.seq (.reg [
  ⟨some 11, .mov, [.tmp 5], none, [], none⟩] false [0, 1, 4, 5, 6, 11, 12, 13, 16, 19])
  (.cond (.tmp 11) (.seq (.seq (.reg [
  ⟨some 12, .mov, [.tmp 6], none, [], none⟩] false [0, 1, 4, 5, 6, 11, 12, 13, 16, 19])
  (.cond (.tmp 12) (.seq (.reg [
  ⟨some 4, .mov, [.const (.int .i64 0)], none, [], none⟩] false [0, 1, 4, 5, 6, 11, 12, 13, 16, 19])
  (.ret)) (.skip)))
  (.seq (.reg [
  ⟨some 4, .mov, [.const (.int .i64 (-1))], none, [], none⟩] false [0, 1, 4, 5, 6, 11, 12, 13, 16, 19])
  (.ret))) (.skip)))
  (.seq (.seq (.reg [
  ⟨some 13, .mov, [.tmp 6], none, [], none⟩] false [0, 1, 4, 5, 6, 11, 12, 13, 16, 19])
  (.cond (.tmp 13) (.seq (.reg [
  ⟨some 4, .mov, [.const (.int .i64 1)], none, [], none⟩] false [0, 1, 4, 5, 6, 11, 12, 13, 16, 19])
  (.ret)) (.skip)))
  (.seq (.seq (.reg [
  ⟨some 14, .mov, [.tmp 0], none, [], none⟩,
  ⟨some 15, .mov, [.tmp 1], none, [], none⟩,
  ⟨some 16, (.bin .lss), [.tmp 14, .tmp 15], none, [], none⟩] false [0, 1, 4, 5, 6, 11, 12, 13, 16, 19])
  (.cond (.tmp 16) (.seq (.reg [
  ⟨some 4, .mov, [.const (.int .i64 (-1))], none, [], none⟩] false [0, 1, 4, 5, 6, 11, 12, 13, 16, 19])
  (.ret)) (.skip)))
  (.seq (.seq (.reg [
  ⟨some 17, .mov, [.tmp 0], none, [], none⟩,
  ⟨some 18, .mov, [.tmp 1], none, [], none⟩,
  ⟨some 19, (.bin .gtr), [.tmp 17, .tmp 18], none, [], none⟩] false [0, 1, 4, 5, 6, 11, 12, 13, 16, 19])
  (.cond (.tmp 19) (.seq (.reg [
  ⟨some 4, .mov, [.const (.int .i64 1)], none, [], none⟩] false [0, 1, 4, 5, 6, 11, 12, 13, 16, 19])
  (.ret)) (.skip)))
  (.seq (.reg [
  ⟨some 4, .mov, [.const (.int .i64 0)], none, [], none⟩] false [0, 1, 4, 5, 6, 11, 12, 13, 16, 19])
  (.ret))))))))
def keep149 : List Nat := [0, 1, 4, 5, 6, 11, 12, 13, 16, 19]
theorem fn149 : compFn Try.prog 149 keep149 = some ⟨20, 2, [(4, none)], body149⟩ := by kernel_rfl

/- slices.IndexFunc[chartroom/catalog.Catalog,chartroom/catalog.Entry] -/
def body150 : AC :=
  .seq (.reg [
  ⟨some 4, .mov, [.const (.int .i64 0)], none, [], none⟩] false [0, 1, 4, 5, 7, 8, 9, 16])
  (.seq (.seq (.reg [
  ⟨some 6, .mov, [.tmp 0], none, [], none⟩,
  ⟨some 7, .len, [.tmp 6], none, [], none⟩,
  ⟨some 8, .mov, [.const (.int .i64 0)], none, [], none⟩] false [0, 1, 4, 5, 7, 8, 9, 16])
  (.block 0 (.loop (.seq (.reg [
   ⟨some 9, (.bin .lss), [.tmp 8, .tmp 7], none, [], none⟩] false [0, 1, 4, 5, 7, 8, 9, 16])
   (.seq (.cond (.tmp 9) (.skip) (.exit 0))
   (.seq (.block 1 (.seq (.reg [
   ⟨some 10, .mov, [.tmp 8], none, [], none⟩,
   ⟨some 5, .mov, [.tmp 10], none, [], none⟩] false [0, 1, 4, 5, 7, 8, 9, 16])
   (.seq (.reg [
   ⟨some 11, .mov, [.tmp 1], none, [], none⟩,
   ⟨some 12, .mov, [.tmp 0], none, [], none⟩,
   ⟨some 13, .mov, [.tmp 5], none, [], none⟩,
   ⟨some 14, (.ixa 51 2), [.tmp 12, .tmp 13], none, [], none⟩,
   ⟨some 15, (.load (some 2)), [.tmp 14], none, [], none⟩,
   ⟨some 16, .calv, [.tmp 11, .tmp 15], none, [], none⟩] false [0, 1, 4, 5, 7, 8, 9, 16])
   (.cond (.tmp 16) (.seq (.reg [
   ⟨some 17, .mov, [.tmp 5], none, [], none⟩,
   ⟨some 4, .mov, [.tmp 17], none, [], none⟩] false [0, 1, 4, 5, 7, 8, 9, 16])
   (.ret)) (.skip)))))
   (.reg [
   ⟨some 18, (.bin .add), [.tmp 8, .const (.int .i64 1)], none, [], none⟩,
   ⟨some 8, .mov, [.tmp 18], none, [], none⟩] false [0, 1, 4, 5, 7, 8, 9, 16])))))))
  (.seq (.reg [
  ⟨some 4, .mov, [.const (.int .i64 (-1))], none, [], none⟩] false [0, 1, 4, 5, 7, 8, 9, 16])
  (.ret)))
def keep150 : List Nat := [0, 1, 4, 5, 7, 8, 9, 16]
theorem fn150 : compFn Try.prog 150 keep150 = some ⟨19, 2, [(4, none)], body150⟩ := by kernel_rfl

/- cmp.isNaN[string] -/
def body170 : AC :=
  .seq (.reg [
  ⟨some 2, .mov, [.const (.bool false)], none, [], none⟩] false [0, 2])
  (.seq (.reg [
  ⟨some 3, .mov, [.tmp 0], none, [], none⟩,
  ⟨some 4, .mov, [.tmp 0], none, [], none⟩,
  ⟨some 5, (.bin .neq), [.tmp 3, .tmp 4], none, [], none⟩,
  ⟨some 2, .mov, [.tmp 5], none, [], none⟩] false [0, 2])
  (.ret))
def keep170 : List Nat := [0, 2]
theorem fn170 : compFn Try.prog 170 keep170 = some ⟨6, 1, [(2, none)], body170⟩ := by kernel_rfl

end Go.Proofs.Ytfpmjcdcpicmaaa.Ab
