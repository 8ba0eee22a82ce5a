/- The code of the functions, in the abstract machine's form (printed by wip/mk.py). -/
import Derived.Test.YtfpmjcdcpicmaaaAb21
import Derived.Test.YtfpmjcdcpicmaaaChecked
namespace Go.Proofs.Ytfpmjcdcpicmaaa.Ab
open Go Go.RowKit
set_option maxRecDepth 100000

/- chartroom/chartroomlaw15.few -/
def body40 : AC :=
  .seq (.reg [
  ⟨some 2, .mov, [.const (.bool false)], none, [], none⟩] false [0, 2, 3, 11, 20])
  (.seq (.seq (.reg [
  ⟨some 3, .mov, [.const (.int .i64 0)], none, [], none⟩] false [0, 2, 3, 11, 20])
  (.block 0 (.loop (.seq (.seq (.reg [
   ⟨some 4, .mov, [.tmp 3], none, [], none⟩,
   ⟨some 5, .mov, [.tmp 0], none, [], none⟩,
   ⟨some 6, .len, [.tmp 5], none, [], none⟩,
   ⟨some 7, (.bin .lss), [.tmp 4, .tmp 6], none, [], none⟩,
   ⟨some 8, .mov, [.tmp 7], none, [], none⟩,
   ⟨some 9, .mov, [.tmp 3], some (8, true), [], none⟩,
   ⟨some 10, (.bin .lss), [.tmp 9, .const (.int .i64 13)], some (8, true), [], none⟩,
   ⟨some 11, .pick, [.tmp 8, .tmp 10, .const (.bool false)], none, [], none⟩] false [0, 2, 3, 11, 20])
   (.cond (.tmp 11) (.skip) (.exit 0)))
   (.seq (.block 1 (.seq (.reg [
   ⟨some 14, .mov, [.tmp 0], none, [], none⟩,
   ⟨some 15, .mov, [.tmp 3], none, [], none⟩,
   ⟨some 16, (.ixa 70 10), [.tmp 14, .tmp 15], none, [], none⟩,
   ⟨some 17, (.fad 7), [.tmp 16], none, [], none⟩,
   ⟨some 18, (.load none), [.tmp 17], none, [], none⟩,
   ⟨some 19, .slen, [.tmp 18], none, [], none⟩,
   ⟨some 20, (.bin .gtr), [.tmp 19, .const (.int .i64 100)], none, [], none⟩] false [0, 2, 3, 11, 20])
   (.cond (.tmp 20) (.seq (.reg [
   ⟨some 2, .mov, [.const (.bool false)], none, [], none⟩] false [0, 2, 3, 11, 20])
   (.ret)) (.skip))))
   (.reg [
   ⟨some 12, .mov, [.tmp 3], none, [], none⟩,
   ⟨some 13, (.bin .add), [.tmp 12, .const (.int .i64 1)], none, [], none⟩,
   ⟨some 3, .mov, [.tmp 13], none, [], none⟩] false [0, 2, 3, 11, 20]))))))
  (.seq (.reg [
  ⟨some 21, .mov, [.tmp 0], none, [], none⟩,
  ⟨some 22, .len, [.tmp 21], none, [], none⟩,
  ⟨some 23, (.bin .leq), [.tmp 22, .const (.int .i64 12)], none, [], none⟩,
  ⟨some 2, .mov, [.tmp 23], none, [], none⟩] false [0, 2, 3, 11, 20])
  (.ret)))
def keep40 : List Nat := [0, 2, 3, 11, 20]
theorem fn40 : compFn Try.prog 40 keep40 = some ⟨24, 1, [(2, none)], body40⟩ := by kernel_rfl

/- chartroom/chartroomlaw15.works -/
def body41 : AC :=
  .seq (.reg [
  ⟨some 0, .mov, [.const (.bool false)], none, [], none⟩] false [0, 1, 2, 3, 4, 5, 6, 7, 8, 9])
  (.seq (.reg [
  ⟨some 10, (.call 69), [], none, [], none⟩,
  ⟨some 1, .mov, [.tmp 10], none, [], none⟩] false [0, 1, 2, 3, 4, 5, 6, 7, 8, 9])
  (.seq (.reg [
  ⟨some 12, .mov, [.tmp 1], none, [], none⟩,
  ⟨some 13, (.call 47), [.tmp 12, .const (.int .u64 8)], none, [], none⟩,
  ⟨some 11, .mov, [.tmp 13], none, [], none⟩,
  ⟨some 14, (.ext 0), [.tmp 11], none, [], none⟩,
  ⟨some 15, (.ext 1), [.tmp 11], none, [], none⟩,
  ⟨some 2, .mov, [.tmp 14], none, [], none⟩,
  ⟨some 3, .mov, [.tmp 15], none, [], none⟩] false [0, 1, 2, 3, 4, 5, 6, 7, 8, 9])
  (.seq (.reg [
  ⟨some 17, .mov, [.tmp 1], none, [], none⟩,
  ⟨some 18, (.call 45), [.tmp 17], none, [], none⟩,
  ⟨some 16, .mov, [.tmp 18], none, [], none⟩,
  ⟨some 19, (.ext 0), [.tmp 16], none, [], none⟩,
  ⟨some 20, (.ext 1), [.tmp 16], none, [], none⟩,
  ⟨some 4, (.alloc [(.int .u64 0), (.int .u64 0), (.int .u64 0), (.int .u64 0), (.int .u64 0), (.int .u64 0), (.int .u64 0), (.string ⟨#[]⟩), (.bool false), (.bool false)]), [], none, [], none⟩,
  ⟨none, (.store (some 10)), [.tmp 4, .tmp 19], none, [], none⟩,
  ⟨some 5, .mov, [.tmp 20], none, [], none⟩] false [0, 1, 2, 3, 4, 5, 6, 7, 8, 9])
  (.seq (.reg [
  ⟨some 21, .mov, [.tmp 1], none, [], none⟩,
  ⟨some 22, (.bsl 24 1), [.const (.int .u64 5)], none, [], none⟩,
  ⟨some 23, (.call 55), [.tmp 21, .tmp 22], none, [], none⟩,
  ⟨some 6, .mov, [.tmp 23], none, [], none⟩] false [0, 1, 2, 3, 4, 5, 6, 7, 8, 9])
  (.seq (.reg [
  ⟨some 24, .mov, [.tmp 6], none, [], none⟩,
  ⟨some 25, (.call 55), [.tmp 24, .const (.slice none 0 0)], none, [], none⟩,
  ⟨some 7, .mov, [.tmp 25], none, [], none⟩] false [0, 1, 2, 3, 4, 5, 6, 7, 8, 9])
  (.seq (.reg [
  ⟨some 27, .mov, [.tmp 1], none, [], none⟩,
  ⟨some 28, (.slc 10 false true), [.tmp 27, .const (.int .i64 2)], none, [29], none⟩,
  ⟨some 29, (.call 67), [], none, [], none⟩,
  ⟨some 30, (.slc 1 false true), [.tmp 29, .const (.int .i64 2)], none, [], none⟩,
  ⟨some 31, (.call 111), [.tmp 28, .tmp 30], none, [], (some 999999)⟩,
  ⟨some 26, .mov, [.tmp 31], none, [], none⟩,
  ⟨some 32, (.ext 0), [.tmp 26], none, [], none⟩,
  ⟨some 33, (.ext 1), [.tmp 26], none, [], none⟩,
  ⟨some 8, .mov, [.tmp 32], none, [], none⟩,
  ⟨some 9, .mov, [.tmp 33], none, [], none⟩] true [0, 1, 2, 3, 4, 5, 6, 7, 8, 9])
  (.seq (.reg (
  ⟨some 34, .mov, [.tmp 3], none, [], none⟩ ::
  ⟨some 35, (.bin .eql), [.tmp 34, .const (.int .i64 0)], none, [], none⟩ ::
  ⟨some 36, .mov, [.tmp 35], none, [], none⟩ ::
  ⟨some 37, .mov, [.tmp 2], some (36, true), [], none⟩ ::
  ⟨some 38, (.call 57), [.tmp 37], some (36, true), [], none⟩ ::
  ⟨some 39, (.bsl 3 1), [.const (.int .i64 3), .const (.int .i64 5), .const (.int .i64 8)], some (36, true), [], none⟩ ::
  ⟨some 40, (.call 56), [.tmp 38, .tmp 39], some (36, true), [], none⟩ ::
  ⟨some 41, .pick, [.tmp 36, .tmp 40, .const (.bool false)], none, [], none⟩ ::
  ⟨some 42, .mov, [.tmp 41], none, [], none⟩ ::
  ⟨some 43, .mov, [.tmp 5], some (42, true), [], none⟩ ::
  ⟨some 44, .pick, [.tmp 42, .tmp 43, .const (.bool false)], none, [], none⟩ ::
  ⟨some 45, .mov, [.tmp 44], none, [], none⟩ ::
  ⟨some 46, (.fad 0), [.tmp 4], some (45, true), [], none⟩ ::
  ⟨some 47, (.load none), [.tmp 46], some (45, true), [], none⟩ ::
  ⟨some 48, (.bin .eql), [.tmp 47, .const (.int .u64 9)], some (45, true), [], none⟩ ::
  ⟨some 49, .pick, [.tmp 45, .tmp 48, .const (.bool false)], none, [], none⟩ ::
  ⟨some 50, .mov, [.tmp 49], none, [], none⟩ ::
  ⟨some 51, .mov, [.tmp 6], some (50, true), [], none⟩ ::
  ⟨some 52, .len, [.tmp 51], some (50, true), [], none⟩ ::
  ⟨some 53, (.bin .eql), [.tmp 52, .const (.int .i64 3)], some (50, true), [], none⟩ ::
  ⟨some 54, .pick, [.tmp 50, .tmp 53, .const (.bool false)], none, [], none⟩ ::
  ⟨some 55, .mov, [.tmp 54], none, [], none⟩ ::
  ⟨some 56, .mov, [.tmp 6], some (55, true), [], none⟩ ::
  ⟨some 57, (.call 57), [.tmp 56], some (55, true), [], none⟩ ::
  ⟨some 58, (.bsl 3 1), [.const (.int .i64 3), .const (.int .i64 5), .const (.int .i64 9)], some (55, true), [], none⟩ ::
  ⟨some 59, (.call 56), [.tmp 57, .tmp 58], some (55, true), [], none⟩ ::
  ⟨some 60, .pick, [.tmp 55, .tmp 59, .const (.bool false)], none, [], none⟩ ::
  ⟨some 61, .mov, [.tmp 60], none, [], none⟩ ::
  ⟨some 62, .mov, [.tmp 6], some (61, true), [], none⟩ ::
  ⟨some 63, (.ixa 70 10), [.tmp 62, .const (.int .i64 0)], some (61, true), [], none⟩ ::
  ⟨some 64, (.fad 9), [.tmp 63], some (61, true), [], none⟩ ::
  ⟨some 65, (.load none), [.tmp 64], some (61, true), [], none⟩ ::
  ⟨some 66, .pick, [.tmp 61, .tmp 65, .const (.bool false)], none, [], none⟩ ::
  ⟨some 67, .mov, [.tmp 66], none, [], none⟩ ::
  ⟨some 68, .mov, [.tmp 6], some (67, true), [], none⟩ ::
  ⟨some 69, (.ixa 70 10), [.tmp 68, .const (.int .i64 1)], some (67, true), [], none⟩ ::
  ⟨some 70, (.fad 9), [.tmp 69], some (67, true), [], none⟩ ::
  ⟨some 71, (.load none), [.tmp 70], some (67, true), [], none⟩ ::
  ⟨some 72, .not, [.tmp 71], some (67, true), [], none⟩ ::
  ⟨some 73, .pick, [.tmp 67, .tmp 72, .const (.bool false)], none, [], none⟩ ::
  ⟨some 74, .mov, [.tmp 73], none, [], none⟩ ::
  ⟨some 75, .mov, [.tmp 7], some (74, true), [], none⟩ ::
  ⟨some 76, (.call 57), [.tmp 75], some (74, true), [], none⟩ ::
  ⟨some 77, (.bsl 3 1), [.const (.int .i64 9)], some (74, true), [], none⟩ ::
  ⟨some 78, (.call 56), [.tmp 76, .tmp 77], some (74, true), [], none⟩ ::
  ⟨some 79, .pick, [.tmp 74, .tmp 78, .const (.bool false)], none, [], none⟩ ::
  ⟨some 80, .mov, [.tmp 79], none, [], none⟩ ::
  ⟨some 81, .mov, [.tmp 9], some (80, true), [], none⟩ ::
  ⟨some 82, (.bin .eql), [.tmp 81, .const (.int .i64 0)], some (80, true), [], none⟩ ::
  ⟨some 83, .pick, [.tmp 80, .tmp 82, .const (.bool false)], none, [], none⟩ ::
  ⟨some 84, .mov, [.tmp 83], none, [], none⟩ ::
  ⟨some 85, .mov, [.tmp 8], some (84, true), [], none⟩ ::
  ⟨some 86, (.bin .eql), [.tmp 85, .const (.string ⟨#[97, 98]⟩)], some (84, true), [], none⟩ ::
  ⟨some 87, .pick, [.tmp 84, .tmp 86, .const (.bool false)], none, [], none⟩ ::
  ⟨some 0, .mov, [.tmp 87], none, [], none⟩ :: []) false [0, 1, 2, 3, 4, 5, 6, 7, 8, 9])
  (.ret))))))))
def keep41 : List Nat := [0, 1, 2, 3, 4, 5, 6, 7, 8, 9]
theorem fn41 : compFn Try.prog 41 keep41 = some ⟨88, 0, [(0, none)], body41⟩ := by kernel_rfl

/- chartroom/chartroomlaw15.ref -/
def body42 : AC :=
  .seq (.reg [
  ⟨some 2, (.nilS 75), [], none, [], none⟩] false [0, 2, 3, 4, 8])
  (.seq (.reg [
  ⟨some 3, (.nilS 75), [], none, [], none⟩] false [0, 2, 3, 4, 8])
  (.seq (.seq (.reg [
  ⟨some 4, .mov, [.const (.int .i64 0)], none, [], none⟩] false [0, 2, 3, 4, 8])
  (.block 0 (.loop (.seq (.seq (.reg [
   ⟨some 5, .mov, [.tmp 4], none, [], none⟩,
   ⟨some 6, .mov, [.tmp 0], none, [], none⟩,
   ⟨some 7, .len, [.tmp 6], none, [], none⟩,
   ⟨some 8, (.bin .lss), [.tmp 5, .tmp 7], none, [], none⟩] false [0, 2, 3, 4, 8])
   (.cond (.tmp 8) (.skip) (.exit 0)))
   (.seq (.block 1 (.reg [
   ⟨some 11, .mov, [.tmp 3], none, [], none⟩,
   ⟨some 12, .mov, [.tmp 0], none, [], none⟩,
   ⟨some 13, .mov, [.tmp 4], none, [], none⟩,
   ⟨some 14, (.ixa 70 10), [.tmp 12, .tmp 13], none, [], none⟩,
   ⟨some 15, (.load (some 10)), [.tmp 14], none, [], none⟩,
   ⟨some 16, (.call 50), [.tmp 15], none, [], none⟩,
   ⟨some 17, (.bsl 75 10), [.tmp 16], none, [], none⟩,
   ⟨some 18, (.app 75 10 80), [.tmp 11, .tmp 17], none, [], none⟩,
   ⟨some 3, .mov, [.tmp 18], none, [], none⟩] false [0, 2, 3, 4, 8]))
   (.reg [
   ⟨some 9, .mov, [.tmp 4], none, [], none⟩,
   ⟨some 10, (.bin .add), [.tmp 9, .const (.int .i64 1)], none, [], none⟩,
   ⟨some 4, .mov, [.tmp 10], none, [], none⟩] false [0, 2, 3, 4, 8]))))))
  (.seq (.reg [
  ⟨some 19, .mov, [.tmp 3], none, [], none⟩,
  ⟨some 2, .mov, [.tmp 19], none, [], none⟩] false [0, 2, 3, 4, 8])
  (.ret))))
def keep42 : List Nat := [0, 2, 3, 4, 8]
theorem fn42 : compFn Try.prog 42 keep42 = some ⟨20, 1, [(2, none)], body42⟩ := by kernel_rfl

/- (chartroom/version.Versions).Get -/
def body43 : AC :=
  .seq (.reg [
  ⟨some 4, (.alloc [(.int .u64 0), (.int .u64 0), (.int .u64 0), (.int .u64 0), (.int .u64 0), (.int .u64 0), (.int .u64 0), (.string ⟨#[]⟩), (.bool false), (.bool false)]), [], none, [], none⟩,
  ⟨some 5, .mov, [.const (.bool false)], none, [], none⟩] false [0, 1, 4, 5, 6, 7, 14])
  (.seq (.reg [
  ⟨some 8, .mov, [.tmp 0], none, [], none⟩,
  ⟨some 9, (.call 49), [.tmp 8], none, [], none⟩,
  ⟨some 6, .mov, [.tmp 9], none, [], none⟩] false [0, 1, 4, 5, 6, 7, 14])
  (.seq (.seq (.reg [
  ⟨some 10, .mov, [.tmp 6], none, [], none⟩,
  ⟨some 11, .mov, [.tmp 1], none, [], none⟩,
  ⟨some 12, (.call 112), [.tmp 10, .tmp 11], none, [], none⟩,
  ⟨some 7, .mov, [.tmp 12], none, [], none⟩] false [0, 1, 4, 5, 6, 7, 14])
  (.seq (.reg [
  ⟨some 13, .mov, [.tmp 7], none, [], none⟩,
  ⟨some 14, (.bin .geq), [.tmp 13, .const (.int .i64 0)], none, [], none⟩] false [0, 1, 4, 5, 6, 7, 14])
  (.cond (.tmp 14) (.seq (.reg [
  ⟨some 15, .mov, [.tmp 6], none, [], none⟩,
  ⟨some 16, .mov, [.tmp 7], none, [], none⟩,
  ⟨some 17, (.ixa 70 10), [.tmp 15, .tmp 16], none, [], none⟩,
  ⟨some 18, (.load (some 10)), [.tmp 17], none, [], none⟩,
  ⟨none, (.store (some 10)), [.tmp 4, .tmp 18], none, [], none⟩,
  ⟨some 5, .mov, [.const (.bool true)], none, [], none⟩] false [0, 1, 4, 5, 6, 7, 14])
  (.ret)) (.skip))))
  (.seq (.reg [
  ⟨some 19, (.bld [(.int .u64 0), (.int .u64 0), (.int .u64 0), (.int .u64 0), (.int .u64 0), (.int .u64 0), (.int .u64 0), (.string ⟨#[]⟩), (.bool false), (.bool false)] []), [], none, [], none⟩,
  ⟨none, (.store (some 10)), [.tmp 4, .tmp 19], none, [], none⟩,
  ⟨some 5, .mov, [.const (.bool false)], none, [], none⟩] false [0, 1, 4, 5, 6, 7, 14])
  (.ret))))
def keep43 : List Nat := [0, 1, 4, 5, 6, 7, 14]
theorem fn43 : compFn Try.prog 43 keep43 = some ⟨20, 2, [(4, some (some 10)), (5, none)], body43⟩ := by kernel_rfl

/- chartroom/chartroomref15.Get -/
def body44 : AC :=
  .seq (.reg [
  ⟨some 4, (.alloc [(.int .u64 0), (.int .u64 0), (.int .u64 0), (.int .u64 0), (.int .u64 0), (.int .u64 0), (.int .u64 0), (.string ⟨#[]⟩), (.bool false), (.bool false)]), [], none, [], none⟩,
  ⟨some 5, .mov, [.const (.bool false)], none, [], none⟩] false [0, 1, 4, 5, 6, 10, 27])
  (.seq (.seq (.reg [
  ⟨some 6, .mov, [.const (.int .i64 0)], none, [], none⟩] false [0, 1, 4, 5, 6, 10, 27])
  (.block 0 (.loop (.seq (.seq (.reg [
   ⟨some 7, .mov, [.tmp 6], none, [], none⟩,
   ⟨some 8, .mov, [.tmp 0], none, [], none⟩,
   ⟨some 9, .len, [.tmp 8], none, [], none⟩,
   ⟨some 10, (.bin .lss), [.tmp 7, .tmp 9], none, [], none⟩] false [0, 1, 4, 5, 6, 10, 27])
   (.cond (.tmp 10) (.skip) (.exit 0)))
   (.seq (.block 1 (.seq (.reg [
   ⟨some 13, .mov, [.tmp 0], none, [], none⟩,
   ⟨some 14, .mov, [.tmp 6], none, [], none⟩,
   ⟨some 15, (.ixa 75 10), [.tmp 13, .tmp 14], none, [], none⟩,
   ⟨some 16, (.fad 0), [.tmp 15], none, [], none⟩,
   ⟨some 17, (.load none), [.tmp 16], none, [], none⟩,
   ⟨some 18, .mov, [.tmp 1], none, [], none⟩,
   ⟨some 19, (.bin .eql), [.tmp 17, .tmp 18], none, [], none⟩,
   ⟨some 20, .mov, [.tmp 19], none, [], none⟩,
   ⟨some 21, .mov, [.tmp 0], some (20, true), [], none⟩,
   ⟨some 22, .mov, [.tmp 6], some (20, true), [], none⟩,
   ⟨some 23, (.ixa 75 10), [.tmp 21, .tmp 22], some (20, true), [], none⟩,
   ⟨some 24, (.fad 9), [.tmp 23], some (20, true), [], none⟩,
   ⟨some 25, (.load none), [.tmp 24], some (20, true), [], none⟩,
   ⟨some 26, .not, [.tmp 25], some (20, true), [], none⟩,
   ⟨some 27, .pick, [.tmp 20, .tmp 26, .const (.bool false)], none, [], none⟩] false [0, 1, 4, 5, 6, 10, 27])
   (.cond (.tmp 27) (.seq (.reg [
   ⟨some 28, .mov, [.tmp 0], none, [], none⟩,
   ⟨some 29, .mov, [.tmp 6], none, [], none⟩,
   ⟨some 30, (.ixa 75 10), [.tmp 28, .tmp 29], none, [], none⟩,
   ⟨some 31, (.load (some 10)), [.tmp 30], none, [], none⟩,
   ⟨none, (.store (some 10)), [.tmp 4, .tmp 31], none, [], none⟩,
   ⟨some 5, .mov, [.const (.bool true)], none, [], none⟩] false [0, 1, 4, 5, 6, 10, 27])
   (.ret)) (.skip))))
   (.reg [
   ⟨some 11, .mov, [.tmp 6], none, [], none⟩,
   ⟨some 12, (.bin .add), [.tmp 11, .const (.int .i64 1)], none, [], none⟩,
   ⟨some 6, .mov, [.tmp 12], none, [], none⟩] false [0, 1, 4, 5, 6, 10, 27]))))))
  (.seq (.reg [
  ⟨some 32, (.bld [(.int .u64 0), (.int .u64 0), (.int .u64 0), (.int .u64 0), (.int .u64 0), (.int .u64 0), (.int .u64 0), (.string ⟨#[]⟩), (.bool false), (.bool false)] []), [], none, [], none⟩,
  ⟨none, (.store (some 10)), [.tmp 4, .tmp 32], none, [], none⟩,
  ⟨some 5, .mov, [.const (.bool false)], none, [], none⟩] false [0, 1, 4, 5, 6, 10, 27])
  (.ret)))
def keep44 : List Nat := [0, 1, 4, 5, 6, 10, 27]
theorem fn44 : compFn Try.prog 44 keep44 = some ⟨33, 2, [(4, some (some 10)), (5, none)], body44⟩ := by kernel_rfl

/- (chartroom/version.Versions).Current -/
def body45 : AC :=
  .seq (.reg [
  ⟨some 2, (.alloc [(.int .u64 0), (.int .u64 0), (.int .u64 0), (.int .u64 0), (.int .u64 0), (.int .u64 0), (.int .u64 0), (.string ⟨#[]⟩), (.bool false), (.bool false)]), [], none, [], none⟩,
  ⟨some 3, .mov, [.const (.bool false)], none, [], none⟩] false [0, 2, 3, 4, 9])
  (.seq (.reg [
  ⟨some 5, .mov, [.tmp 0], none, [], none⟩,
  ⟨some 6, (.call 49), [.tmp 5], none, [], none⟩,
  ⟨some 4, .mov, [.tmp 6], none, [], none⟩] false [0, 2, 3, 4, 9])
  (.seq (.seq (.reg [
  ⟨some 7, .mov, [.tmp 4], none, [], none⟩,
  ⟨some 8, .len, [.tmp 7], none, [], none⟩,
  ⟨some 9, (.bin .eql), [.tmp 8, .const (.int .i64 0)], none, [], none⟩] false [0, 2, 3, 4, 9])
  (.cond (.tmp 9) (.seq (.reg [
  ⟨some 10, (.bld [(.int .u64 0), (.int .u64 0), (.int .u64 0), (.int .u64 0), (.int .u64 0), (.int .u64 0), (.int .u64 0), (.string ⟨#[]⟩), (.bool false), (.bool false)] []), [], none, [], none⟩,
  ⟨none, (.store (some 10)), [.tmp 2, .tmp 10], none, [], none⟩,
  ⟨some 3, .mov, [.const (.bool false)], none, [], none⟩] false [0, 2, 3, 4, 9])
  (.ret)) (.skip)))
  (.seq (.reg [
  ⟨some 11, .mov, [.tmp 4], none, [], none⟩,
  ⟨some 12, .mov, [.tmp 4], none, [], none⟩,
  ⟨some 13, .len, [.tmp 12], none, [], none⟩,
  ⟨some 14, (.bin .sub), [.tmp 13, .const (.int .i64 1)], none, [], none⟩,
  ⟨some 15, (.ixa 70 10), [.tmp 11, .tmp 14], none, [], none⟩,
  ⟨some 16, (.load (some 10)), [.tmp 15], none, [], none⟩,
  ⟨none, (.store (some 10)), [.tmp 2, .tmp 16], none, [], none⟩,
  ⟨some 3, .mov, [.const (.bool true)], none, [], none⟩] false [0, 2, 3, 4, 9])
  (.ret))))
def keep45 : List Nat := [0, 2, 3, 4, 9]
theorem fn45 : compFn Try.prog 45 keep45 = some ⟨17, 1, [(2, some (some 10)), (3, none)], body45⟩ := by kernel_rfl

/- chartroom/chartroomref15.Current -/
def body46 : AC :=
  .seq (.reg [
  ⟨some 2, (.alloc [(.int .u64 0), (.int .u64 0), (.int .u64 0), (.int .u64 0), (.int .u64 0), (.int .u64 0), (.int .u64 0), (.string ⟨#[]⟩), (.bool false), (.bool false)]), [], none, [], none⟩,
  ⟨some 3, .mov, [.const (.bool false)], none, [], none⟩] false [0, 2, 3, 4, 9, 17])
  (.seq (.seq (.reg [
  ⟨some 5, .mov, [.tmp 0], none, [], none⟩,
  ⟨some 6, .len, [.tmp 5], none, [], none⟩,
  ⟨some 7, (.bin .sub), [.tmp 6, .const (.int .i64 1)], none, [], none⟩,
  ⟨some 4, .mov, [.tmp 7], none, [], none⟩] false [0, 2, 3, 4, 9, 17])
  (.block 0 (.loop (.seq (.seq (.reg [
   ⟨some 8, .mov, [.tmp 4], none, [], none⟩,
   ⟨some 9, (.bin .geq), [.tmp 8, .const (.int .i64 0)], none, [], none⟩] false [0, 2, 3, 4, 9, 17])
   (.cond (.tmp 9) (.skip) (.exit 0)))
   (.seq (.block 1 (.seq (.reg [
   ⟨some 12, .mov, [.tmp 0], none, [], none⟩,
   ⟨some 13, .mov, [.tmp 4], none, [], none⟩,
   ⟨some 14, (.ixa 75 10), [.tmp 12, .tmp 13], none, [], none⟩,
   ⟨some 15, (.fad 9), [.tmp 14], none, [], none⟩,
   ⟨some 16, (.load none), [.tmp 15], none, [], none⟩,
   ⟨some 17, .not, [.tmp 16], none, [], none⟩] false [0, 2, 3, 4, 9, 17])
   (.cond (.tmp 17) (.seq (.reg [
   ⟨some 18, .mov, [.tmp 0], none, [], none⟩,
   ⟨some 19, .mov, [.tmp 4], none, [], none⟩,
   ⟨some 20, (.ixa 75 10), [.tmp 18, .tmp 19], none, [], none⟩,
   ⟨some 21, (.load (some 10)), [.tmp 20], none, [], none⟩,
   ⟨none, (.store (some 10)), [.tmp 2, .tmp 21], none, [], none⟩,
   ⟨some 3, .mov, [.const (.bool true)], none, [], none⟩] false [0, 2, 3, 4, 9, 17])
   (.ret)) (.skip))))
   (.reg [
   ⟨some 10, .mov, [.tmp 4], none, [], none⟩,
   ⟨some 11, (.bin .sub), [.tmp 10, .const (.int .i64 1)], none, [], none⟩,
   ⟨some 4, .mov, [.tmp 11], none, [], none⟩] false [0, 2, 3, 4, 9, 17]))))))
  (.seq (.reg [
  ⟨some 22, (.bld [(.int .u64 0), (.int .u64 0), (.int .u64 0), (.int .u64 0), (.int .u64 0), (.int .u64 0), (.int .u64 0), (.string ⟨#[]⟩), (.bool false), (.bool false)] []), [], none, [], none⟩,
  ⟨none, (.store (some 10)), [.tmp 2, .tmp 22], none, [], none⟩,
  ⟨some 3, .mov, [.const (.bool false)], none, [], none⟩] false [0, 2, 3, 4, 9, 17])
  (.ret)))
def keep46 : List Nat := [0, 2, 3, 4, 9, 17]
theorem fn46 : compFn Try.prog 46 keep46 = some ⟨23, 1, [(2, some (some 10)), (3, none)], body46⟩ := by kernel_rfl

/- (chartroom/version.Versions).Plan -/
def body47 : AC :=
  .seq (.reg [
  ⟨some 4, (.nilS 70), [], none, [], none⟩,
  ⟨some 5, .mov, [.const (.int .i64 0)], none, [], none⟩] false [0, 1, 4, 5, 6, 7, 8, 11, 19, 26])
  (.seq (.seq (.reg [
  ⟨some 9, .mov, [.tmp 0], none, [], none⟩,
  ⟨some 10, (.call 53), [.tmp 9], none, [], none⟩,
  ⟨some 11, .not, [.tmp 10], none, [], none⟩] false [0, 1, 4, 5, 6, 7, 8, 11, 19, 26])
  (.cond (.tmp 11) (.seq (.reg [
  ⟨some 4, (.nilS 70), [], none, [], none⟩,
  ⟨some 5, .mov, [.const (.int .i64 2)], none, [], none⟩] false [0, 1, 4, 5, 6, 7, 8, 11, 19, 26])
  (.ret)) (.skip)))
  (.seq (.reg [
  ⟨some 13, .mov, [.tmp 0], none, [], none⟩,
  ⟨some 14, .mov, [.tmp 1], none, [], none⟩,
  ⟨some 15, (.call 43), [.tmp 13, .tmp 14], none, [], none⟩,
  ⟨some 12, .mov, [.tmp 15], none, [], none⟩,
  ⟨some 16, (.ext 0), [.tmp 12], none, [], none⟩,
  ⟨some 17, (.ext 1), [.tmp 12], none, [], none⟩,
  ⟨some 6, (.alloc [(.int .u64 0), (.int .u64 0), (.int .u64 0), (.int .u64 0), (.int .u64 0), (.int .u64 0), (.int .u64 0), (.string ⟨#[]⟩), (.bool false), (.bool false)]), [], none, [], none⟩,
  ⟨none, (.store (some 10)), [.tmp 6, .tmp 16], none, [], none⟩,
  ⟨some 7, .mov, [.tmp 17], none, [], none⟩] false [0, 1, 4, 5, 6, 7, 8, 11, 19, 26])
  (.seq (.seq (.reg [
  ⟨some 18, .mov, [.tmp 7], none, [], none⟩,
  ⟨some 19, .not, [.tmp 18], none, [], none⟩] false [0, 1, 4, 5, 6, 7, 8, 11, 19, 26])
  (.cond (.tmp 19) (.seq (.reg [
  ⟨some 4, (.nilS 70), [], none, [], none⟩,
  ⟨some 5, .mov, [.const (.int .i64 150)], none, [], none⟩] false [0, 1, 4, 5, 6, 7, 8, 11, 19, 26])
  (.ret)) (.skip)))
  (.seq (.reg [
  ⟨some 8, (.nilS 70), [], none, [], none⟩] false [0, 1, 4, 5, 6, 7, 8, 11, 19, 26])
  (.seq (.skip)
  (.seq (.block 0 (.loop (.block 1 (.seq (.reg [
   ⟨some 20, .mov, [.tmp 8], none, [], none⟩,
   ⟨some 21, (.load (some 10)), [.tmp 6], none, [], none⟩,
   ⟨some 22, (.bsl 70 10), [.tmp 21], none, [], none⟩,
   ⟨some 23, (.app 70 10 80), [.tmp 20, .tmp 22], none, [], none⟩,
   ⟨some 8, .mov, [.tmp 23], none, [], none⟩] false [0, 1, 4, 5, 6, 7, 8, 11, 19, 26])
   (.seq (.seq (.reg [
   ⟨some 24, (.load (some 10)), [.tmp 6], none, [], none⟩,
   ⟨some 25, (.call 113), [.tmp 24], none, [], none⟩,
   ⟨some 26, (.bin .eql), [.tmp 25, .const (.int .u64 0)], none, [], none⟩] false [0, 1, 4, 5, 6, 7, 8, 11, 19, 26])
   (.cond (.tmp 26) (.exit 0) (.skip)))
   (.reg [
   ⟨some 27, .mov, [.tmp 0], none, [], none⟩,
   ⟨some 28, .mov, [.tmp 0], none, [], none⟩,
   ⟨some 29, (.load (some 10)), [.tmp 6], none, [], none⟩,
   ⟨some 30, (.call 113), [.tmp 29], none, [], none⟩,
   ⟨some 31, (.call 112), [.tmp 28, .tmp 30], none, [], none⟩,
   ⟨some 32, (.ixa 70 10), [.tmp 27, .tmp 31], none, [], none⟩,
   ⟨some 33, (.load (some 10)), [.tmp 32], none, [], none⟩,
   ⟨none, (.store (some 10)), [.tmp 6, .tmp 33], none, [], none⟩] false [0, 1, 4, 5, 6, 7, 8, 11, 19, 26]))))))
  (.seq (.reg [
  ⟨some 34, .mov, [.tmp 8], none, [], none⟩,
  ⟨some 35, (.call 114), [.tmp 34], none, [], none⟩] false [0, 1, 4, 5, 6, 7, 8, 11, 19, 26])
  (.seq (.reg [
  ⟨some 36, .mov, [.tmp 8], none, [], none⟩,
  ⟨some 4, .mov, [.tmp 36], none, [], none⟩,
  ⟨some 5, .mov, [.const (.int .i64 0)], none, [], none⟩] false [0, 1, 4, 5, 6, 7, 8, 11, 19, 26])
  (.ret)))))))))
def keep47 : List Nat := [0, 1, 4, 5, 6, 7, 8, 11, 19, 26]
theorem fn47 : compFn Try.prog 47 keep47 = some ⟨37, 2, [(4, none), (5, none)], body47⟩ := by kernel_rfl

/- chartroom/chartroomref15.Plan -/
def body48 : AC :=
  .seq (.reg [
  ⟨some 4, (.nilS 75), [], none, [], none⟩,
  ⟨some 5, .mov, [.const (.int .i64 0)], none, [], none⟩] false [0, 1, 4, 5, 6, 7, 10, 18])
  (.seq (.seq (.reg [
  ⟨some 8, .mov, [.tmp 0], none, [], none⟩,
  ⟨some 9, (.call 54), [.tmp 8], none, [], none⟩,
  ⟨some 10, .not, [.tmp 9], none, [], none⟩] false [0, 1, 4, 5, 6, 7, 10, 18])
  (.cond (.tmp 10) (.seq (.reg [
  ⟨some 4, (.nilS 75), [], none, [], none⟩,
  ⟨some 5, .mov, [.const (.int .i64 2)], none, [], none⟩] false [0, 1, 4, 5, 6, 7, 10, 18])
  (.ret)) (.skip)))
  (.seq (.reg [
  ⟨some 12, .mov, [.tmp 0], none, [], none⟩,
  ⟨some 13, .mov, [.tmp 1], none, [], none⟩,
  ⟨some 14, (.call 44), [.tmp 12, .tmp 13], none, [], none⟩,
  ⟨some 11, .mov, [.tmp 14], none, [], none⟩,
  ⟨some 15, (.ext 0), [.tmp 11], none, [], none⟩,
  ⟨some 16, (.ext 1), [.tmp 11], none, [], none⟩,
  ⟨some 6, (.alloc [(.int .u64 0), (.int .u64 0), (.int .u64 0), (.int .u64 0), (.int .u64 0), (.int .u64 0), (.int .u64 0), (.string ⟨#[]⟩), (.bool false), (.bool false)]), [], none, [], none⟩,
  ⟨none, (.store (some 10)), [.tmp 6, .tmp 15], none, [], none⟩,
  ⟨some 7, .mov, [.tmp 16], none, [], none⟩] false [0, 1, 4, 5, 6, 7, 10, 18])
  (.seq (.seq (.reg [
  ⟨some 17, .mov, [.tmp 7], none, [], none⟩,
  ⟨some 18, .not, [.tmp 17], none, [], none⟩] false [0, 1, 4, 5, 6, 7, 10, 18])
  (.cond (.tmp 18) (.seq (.reg [
  ⟨some 4, (.nilS 75), [], none, [], none⟩,
  ⟨some 5, .mov, [.const (.int .i64 150)], none, [], none⟩] false [0, 1, 4, 5, 6, 7, 10, 18])
  (.ret)) (.skip)))
  (.seq (.reg [
  ⟨some 19, .mov, [.tmp 0], none, [], none⟩,
  ⟨some 20, (.load (some 10)), [.tmp 6], none, [], none⟩,
  ⟨some 21, (.call 115), [.tmp 19, .tmp 20], none, [], none⟩,
  ⟨some 4, .mov, [.tmp 21], none, [], none⟩,
  ⟨some 5, .mov, [.const (.int .i64 0)], none, [], none⟩] false [0, 1, 4, 5, 6, 7, 10, 18])
  (.ret)))))
def keep48 : List Nat := [0, 1, 4, 5, 6, 7, 10, 18]
theorem fn48 : compFn Try.prog 48 keep48 = some ⟨22, 2, [(4, none), (5, none)], body48⟩ := by kernel_rfl

/- (chartroom/version.Versions).Seen -/
def body49 : AC :=
  .seq (.reg [
  ⟨some 2, (.nilS 70), [], none, [], none⟩] false [0, 2, 4, 5, 6, 7, 8, 13])
  (.seq (.seq (.reg [
  ⟨some 5, .mov, [.tmp 0], none, [], none⟩,
  ⟨some 6, .len, [.tmp 5], none, [], none⟩,
  ⟨some 7, .mov, [.const (.int .i64 0)], none, [], none⟩] false [0, 2, 4, 5, 6, 7, 8, 13])
  (.block 0 (.loop (.seq (.reg [
   ⟨some 8, (.bin .lss), [.tmp 7, .tmp 6], none, [], none⟩] false [0, 2, 4, 5, 6, 7, 8, 13])
   (.seq (.cond (.tmp 8) (.skip) (.exit 0))
   (.seq (.block 1 (.seq (.reg [
   ⟨some 9, (.ixa 70 10), [.tmp 5, .tmp 7], none, [], none⟩,
   ⟨some 10, (.load (some 10)), [.tmp 9], none, [], none⟩,
   ⟨some 4, (.alloc [(.int .u64 0), (.int .u64 0), (.int .u64 0), (.int .u64 0), (.int .u64 0), (.int .u64 0), (.int .u64 0), (.string ⟨#[]⟩), (.bool false), (.bool false)]), [], none, [], none⟩,
   ⟨none, (.store (some 10)), [.tmp 4, .tmp 10], none, [], none⟩] false [0, 2, 4, 5, 6, 7, 8, 13])
   (.seq (.reg [
   ⟨some 11, (.fad 9), [.tmp 4], none, [], none⟩,
   ⟨some 12, (.load none), [.tmp 11], none, [], none⟩,
   ⟨some 13, .not, [.tmp 12], none, [], none⟩] false [0, 2, 4, 5, 6, 7, 8, 13])
   (.cond (.tmp 13) (.reg [
   ⟨some 14, .mov, [.tmp 2], none, [], none⟩,
   ⟨some 15, (.load (some 10)), [.tmp 4], none, [], none⟩,
   ⟨some 16, (.bsl 70 10), [.tmp 15], none, [], none⟩,
   ⟨some 17, (.app 70 10 80), [.tmp 14, .tmp 16], none, [], none⟩,
   ⟨some 2, .mov, [.tmp 17], none, [], none⟩] false [0, 2, 4, 5, 6, 7, 8, 13]) (.skip)))))
   (.reg [
   ⟨some 18, (.bin .add), [.tmp 7, .const (.int .i64 1)], none, [], none⟩,
   ⟨some 7, .mov, [.tmp 18], none, [], none⟩] false [0, 2, 4, 5, 6, 7, 8, 13])))))))
  (.seq (.reg [
  ⟨some 19, .mov, [.tmp 2], none, [], none⟩,
  ⟨some 2, .mov, [.tmp 19], none, [], none⟩] false [0, 2, 4, 5, 6, 7, 8, 13])
  (.ret)))
def keep49 : List Nat := [0, 2, 4, 5, 6, 7, 8, 13]
theorem fn49 : compFn Try.prog 49 keep49 = some ⟨20, 1, [(2, none)], body49⟩ := by kernel_rfl

/- chartroom/chartroomlaw15.one -/
def body50 : AC :=
  .seq (.reg [
  ⟨some 1, .box, [.tmp 0], none, [], none⟩,
  ⟨some 2, (.alloc [(.int .u64 0), (.int .u64 0), (.int .u64 0), (.int .u64 0), (.int .u64 0), (.int .u64 0), (.int .u64 0), (.string ⟨#[]⟩), (.bool false), (.bool false)]), [], none, [], none⟩] false [0, 1, 2])
  (.seq (.reg [
  ⟨some 3, (.fad 0), [.tmp 1], none, [], none⟩,
  ⟨some 4, (.load none), [.tmp 3], none, [], none⟩,
  ⟨some 5, (.fad 1), [.tmp 1], none, [], none⟩,
  ⟨some 6, (.load none), [.tmp 5], none, [], none⟩,
  ⟨some 7, (.fad 2), [.tmp 1], none, [], none⟩,
  ⟨some 8, (.load none), [.tmp 7], none, [], none⟩,
  ⟨some 9, (.fad 3), [.tmp 1], none, [], none⟩,
  ⟨some 10, (.load none), [.tmp 9], none, [], none⟩,
  ⟨some 11, (.fad 4), [.tmp 1], none, [], none⟩,
  ⟨some 12, (.load none), [.tmp 11], none, [], none⟩,
  ⟨some 13, (.fad 5), [.tmp 1], none, [], none⟩,
  ⟨some 14, (.fad 0), [.tmp 13], none, [], none⟩,
  ⟨some 15, (.load none), [.tmp 14], none, [], none⟩,
  ⟨some 16, (.fad 5), [.tmp 1], none, [], none⟩,
  ⟨some 17, (.fad 1), [.tmp 16], none, [], none⟩,
  ⟨some 18, (.load none), [.tmp 17], none, [], none⟩,
  ⟨some 19, (.bld [(.int .u64 0), (.int .u64 0)] [(0, 1), (1, 1)]), [.tmp 15, .tmp 18], none, [], none⟩,
  ⟨some 20, (.fad 7), [.tmp 1], none, [], none⟩,
  ⟨some 21, (.load none), [.tmp 20], none, [], none⟩,
  ⟨some 22, (.fad 8), [.tmp 1], none, [], none⟩,
  ⟨some 23, (.load none), [.tmp 22], none, [], none⟩,
  ⟨some 24, (.fad 9), [.tmp 1], none, [], none⟩,
  ⟨some 25, (.load none), [.tmp 24], none, [], none⟩,
  ⟨some 26, (.bld [(.int .u64 0), (.int .u64 0), (.int .u64 0), (.int .u64 0), (.int .u64 0), (.int .u64 0), (.int .u64 0), (.string ⟨#[]⟩), (.bool false), (.bool false)] [(0, 1), (1, 1), (2, 1), (3, 1), (4, 1), (5, 2), (7, 1), (8, 1), (9, 1)]), [.tmp 4, .tmp 6, .tmp 8, .tmp 10, .tmp 12, .tmp 19, .tmp 21, .tmp 23, .tmp 25], none, [], none⟩,
  ⟨none, (.store (some 10)), [.tmp 2, .tmp 26], none, [], none⟩] false [0, 1, 2])
  (.ret))
def keep50 : List Nat := [0, 1, 2]
theorem fn50 : compFn Try.prog 50 keep50 = some ⟨27, 1, [(2, some (some 10))], body50⟩ := by kernel_rfl

/- chartroom/chartroomlaw15.same -/
def body51 : AC :=
  .seq (.reg [
  ⟨some 4, .mov, [.const (.bool false)], none, [], none⟩] false [0, 1, 4, 5, 6, 13, 17, 28])
  (.seq (.reg [
  ⟨some 7, .mov, [.tmp 0], none, [], none⟩,
  ⟨some 8, (.call 42), [.tmp 7], none, [], none⟩,
  ⟨some 5, .mov, [.tmp 8], none, [], none⟩] false [0, 1, 4, 5, 6, 13, 17, 28])
  (.seq (.seq (.reg [
  ⟨some 9, .mov, [.tmp 5], none, [], none⟩,
  ⟨some 10, .len, [.tmp 9], none, [], none⟩,
  ⟨some 11, .mov, [.tmp 1], none, [], none⟩,
  ⟨some 12, .len, [.tmp 11], none, [], none⟩,
  ⟨some 13, (.bin .neq), [.tmp 10, .tmp 12], none, [], none⟩] false [0, 1, 4, 5, 6, 13, 17, 28])
  (.cond (.tmp 13) (.seq (.reg [
  ⟨some 4, .mov, [.const (.bool false)], none, [], none⟩] false [0, 1, 4, 5, 6, 13, 17, 28])
  (.ret)) (.skip)))
  (.seq (.seq (.reg [
  ⟨some 6, .mov, [.const (.int .i64 0)], none, [], none⟩] false [0, 1, 4, 5, 6, 13, 17, 28])
  (.block 0 (.loop (.seq (.seq (.reg [
   ⟨some 14, .mov, [.tmp 6], none, [], none⟩,
   ⟨some 15, .mov, [.tmp 5], none, [], none⟩,
   ⟨some 16, .len, [.tmp 15], none, [], none⟩,
   ⟨some 17, (.bin .lss), [.tmp 14, .tmp 16], none, [], none⟩] false [0, 1, 4, 5, 6, 13, 17, 28])
   (.cond (.tmp 17) (.skip) (.exit 0)))
   (.seq (.block 1 (.seq (.reg [
   ⟨some 20, .mov, [.tmp 5], none, [], none⟩,
   ⟨some 21, .mov, [.tmp 6], none, [], none⟩,
   ⟨some 22, (.ixa 75 10), [.tmp 20, .tmp 21], none, [], none⟩,
   ⟨some 23, (.load (some 10)), [.tmp 22], none, [], none⟩,
   ⟨some 24, .mov, [.tmp 1], none, [], none⟩,
   ⟨some 25, .mov, [.tmp 6], none, [], none⟩,
   ⟨some 26, (.ixa 75 10), [.tmp 24, .tmp 25], none, [], none⟩,
   ⟨some 27, (.load (some 10)), [.tmp 26], none, [], none⟩,
   ⟨some 28, (.eqs true [9, 9, 9, 9, 9, 9, 9, 1, 0, 0]), [.tmp 23, .tmp 27], none, [], none⟩] true [0, 1, 4, 5, 6, 13, 17, 28])
   (.cond (.tmp 28) (.seq (.reg [
   ⟨some 4, .mov, [.const (.bool false)], none, [], none⟩] false [0, 1, 4, 5, 6, 13, 17, 28])
   (.ret)) (.skip))))
   (.reg [
   ⟨some 18, .mov, [.tmp 6], none, [], none⟩,
   ⟨some 19, (.bin .add), [.tmp 18, .const (.int .i64 1)], none, [], none⟩,
   ⟨some 6, .mov, [.tmp 19], none, [], none⟩] false [0, 1, 4, 5, 6, 13, 17, 28]))))))
  (.seq (.reg [
  ⟨some 4, .mov, [.const (.bool true)], none, [], none⟩] false [0, 1, 4, 5, 6, 13, 17, 28])
  (.ret)))))
def keep51 : List Nat := [0, 1, 4, 5, 6, 13, 17, 28]
theorem fn51 : compFn Try.prog 51 keep51 = some ⟨29, 2, [(4, none)], body51⟩ := by kernel_rfl

/- chartroom/chartroomref15.Seen -/
def body52 : AC :=
  .seq (.reg [
  ⟨some 2, (.nilS 75), [], none, [], none⟩] false [0, 2, 3, 4, 8, 16])
  (.seq (.reg [
  ⟨some 3, (.nilS 75), [], none, [], none⟩] false [0, 2, 3, 4, 8, 16])
  (.seq (.seq (.reg [
  ⟨some 4, .mov, [.const (.int .i64 0)], none, [], none⟩] false [0, 2, 3, 4, 8, 16])
  (.block 0 (.loop (.seq (.seq (.reg [
   ⟨some 5, .mov, [.tmp 4], none, [], none⟩,
   ⟨some 6, .mov, [.tmp 0], none, [], none⟩,
   ⟨some 7, .len, [.tmp 6], none, [], none⟩,
   ⟨some 8, (.bin .lss), [.tmp 5, .tmp 7], none, [], none⟩] false [0, 2, 3, 4, 8, 16])
   (.cond (.tmp 8) (.skip) (.exit 0)))
   (.seq (.block 1 (.seq (.reg [
   ⟨some 11, .mov, [.tmp 0], none, [], none⟩,
   ⟨some 12, .mov, [.tmp 4], none, [], none⟩,
   ⟨some 13, (.ixa 75 10), [.tmp 11, .tmp 12], none, [], none⟩,
   ⟨some 14, (.fad 9), [.tmp 13], none, [], none⟩,
   ⟨some 15, (.load none), [.tmp 14], none, [], none⟩,
   ⟨some 16, .not, [.tmp 15], none, [], none⟩] false [0, 2, 3, 4, 8, 16])
   (.cond (.tmp 16) (.reg [
   ⟨some 17, .mov, [.tmp 3], none, [], none⟩,
   ⟨some 18, .mov, [.tmp 0], none, [], none⟩,
   ⟨some 19, .mov, [.tmp 4], none, [], none⟩,
   ⟨some 20, (.ixa 75 10), [.tmp 18, .tmp 19], none, [], none⟩,
   ⟨some 21, (.load (some 10)), [.tmp 20], none, [], none⟩,
   ⟨some 22, (.bsl 75 10), [.tmp 21], none, [], none⟩,
   ⟨some 23, (.app 75 10 80), [.tmp 17, .tmp 22], none, [], none⟩,
   ⟨some 3, .mov, [.tmp 23], none, [], none⟩] false [0, 2, 3, 4, 8, 16]) (.skip))))
   (.reg [
   ⟨some 9, .mov, [.tmp 4], none, [], none⟩,
   ⟨some 10, (.bin .add), [.tmp 9, .const (.int .i64 1)], none, [], none⟩,
   ⟨some 4, .mov, [.tmp 10], none, [], none⟩] false [0, 2, 3, 4, 8, 16]))))))
  (.seq (.reg [
  ⟨some 24, .mov, [.tmp 3], none, [], none⟩,
  ⟨some 2, .mov, [.tmp 24], none, [], none⟩] false [0, 2, 3, 4, 8, 16])
  (.ret))))
def keep52 : List Nat := [0, 2, 3, 4, 8, 16]
theorem fn52 : compFn Try.prog 52 keep52 = some ⟨25, 1, [(2, none)], body52⟩ := by kernel_rfl

/- (chartroom/version.Versions).Right -/
def body53 : AC :=
  .seq (.reg [
  ⟨some 2, .mov, [.const (.bool false)], none, [], none⟩] false [0, 2, 3, 4, 5, 6, 7, 8, 9, 30])
  (.seq (.reg [
  ⟨some 3, .mov, [.const (.int .u64 0)], none, [], none⟩] false [0, 2, 3, 4, 5, 6, 7, 8, 9, 30])
  (.seq (.seq (.reg [
  ⟨some 6, .mov, [.tmp 0], none, [], none⟩,
  ⟨some 7, .len, [.tmp 6], none, [], none⟩,
  ⟨some 8, .mov, [.const (.int .i64 0)], none, [], none⟩] false [0, 2, 3, 4, 5, 6, 7, 8, 9, 30])
  (.block 0 (.loop (.seq (.reg [
   ⟨some 9, (.bin .lss), [.tmp 8, .tmp 7], none, [], none⟩] false [0, 2, 3, 4, 5, 6, 7, 8, 9, 30])
   (.seq (.cond (.tmp 9) (.skip) (.exit 0))
   (.seq (.block 1 (.seq (.reg [
   ⟨some 10, .mov, [.tmp 8], none, [], none⟩,
   ⟨some 11, (.ixa 70 10), [.tmp 6, .tmp 8], none, [], none⟩,
   ⟨some 12, (.load (some 10)), [.tmp 11], none, [], none⟩,
   ⟨some 5, (.alloc [(.int .u64 0), (.int .u64 0), (.int .u64 0), (.int .u64 0), (.int .u64 0), (.int .u64 0), (.int .u64 0), (.string ⟨#[]⟩), (.bool false), (.bool false)]), [], none, [], none⟩,
   ⟨some 4, .mov, [.tmp 10], none, [], none⟩,
   ⟨none, (.store (some 10)), [.tmp 5, .tmp 12], none, [], none⟩] false [0, 2, 3, 4, 5, 6, 7, 8, 9, 30])
   (.seq (.seq (.reg [
   ⟨some 13, (.fad 0), [.tmp 5], none, [], none⟩,
   ⟨some 14, (.load none), [.tmp 13], none, [], none⟩,
   ⟨some 15, .mov, [.tmp 3], none, [], none⟩,
   ⟨some 16, (.bin .leq), [.tmp 14, .tmp 15], none, [], none⟩,
   ⟨some 17, .mov, [.tmp 16], none, [], none⟩,
   ⟨some 18, (.load (some 10)), [.tmp 5], some (17, false), [], none⟩,
   ⟨some 19, (.call 113), [.tmp 18], some (17, false), [], none⟩,
   ⟨some 20, (.bin .neq), [.tmp 19, .const (.int .u64 0)], some (17, false), [], none⟩,
   ⟨some 21, .mov, [.tmp 20], some (17, false), [], none⟩,
   ⟨some 22, .mov, [.tmp 0], some (21, true), [], none⟩,
   ⟨some 23, .mov, [.tmp 4], some (21, true), [], none⟩,
   ⟨some 24, (.slc 10 false true), [.tmp 22, .tmp 23], some (21, true), [26], none⟩,
   ⟨some 25, (.load (some 10)), [.tmp 5], some (21, true), [], none⟩,
   ⟨some 26, (.call 113), [.tmp 25], some (21, true), [], none⟩,
   ⟨some 27, (.call 112), [.tmp 24, .tmp 26], some (21, true), [], none⟩,
   ⟨some 28, (.bin .lss), [.tmp 27, .const (.int .i64 0)], some (21, true), [], none⟩,
   ⟨some 29, .pick, [.tmp 21, .tmp 28, .const (.bool false)], some (17, false), [], none⟩,
   ⟨some 30, .pick, [.tmp 17, .const (.bool true), .tmp 29], none, [], none⟩] true [0, 2, 3, 4, 5, 6, 7, 8, 9, 30])
   (.cond (.tmp 30) (.seq (.reg [
   ⟨some 2, .mov, [.const (.bool false)], none, [], none⟩] false [0, 2, 3, 4, 5, 6, 7, 8, 9, 30])
   (.ret)) (.skip)))
   (.reg [
   ⟨some 31, (.fad 0), [.tmp 5], none, [], none⟩,
   ⟨some 32, (.load none), [.tmp 31], none, [], none⟩,
   ⟨some 3, .mov, [.tmp 32], none, [], none⟩] false [0, 2, 3, 4, 5, 6, 7, 8, 9, 30]))))
   (.reg [
   ⟨some 33, (.bin .add), [.tmp 8, .const (.int .i64 1)], none, [], none⟩,
   ⟨some 8, .mov, [.tmp 33], none, [], none⟩] false [0, 2, 3, 4, 5, 6, 7, 8, 9, 30])))))))
  (.seq (.reg [
  ⟨some 2, .mov, [.const (.bool true)], none, [], none⟩] false [0, 2, 3, 4, 5, 6, 7, 8, 9, 30])
  (.ret))))
def keep53 : List Nat := [0, 2, 3, 4, 5, 6, 7, 8, 9, 30]
theorem fn53 : compFn Try.prog 53 keep53 = some ⟨34, 1, [(2, none)], body53⟩ := by kernel_rfl

/- chartroom/chartroomref15.Right -/
def body54 : AC :=
  .seq (.reg [
  ⟨some 2, .mov, [.const (.bool false)], none, [], none⟩] false [0, 2, 3, 7, 52])
  (.seq (.seq (.reg [
  ⟨some 3, .mov, [.const (.int .i64 0)], none, [], none⟩] false [0, 2, 3, 7, 52])
  (.block 0 (.loop (.seq (.seq (.reg [
   ⟨some 4, .mov, [.tmp 3], none, [], none⟩,
   ⟨some 5, .mov, [.tmp 0], none, [], none⟩,
   ⟨some 6, .len, [.tmp 5], none, [], none⟩,
   ⟨some 7, (.bin .lss), [.tmp 4, .tmp 6], none, [], none⟩] false [0, 2, 3, 7, 52])
   (.cond (.tmp 7) (.skip) (.exit 0)))
   (.seq (.block 1 (.seq (.reg (
   ⟨some 10, .mov, [.tmp 0], none, [], none⟩ ::
   ⟨some 11, .mov, [.tmp 3], none, [], none⟩ ::
   ⟨some 12, (.ixa 75 10), [.tmp 10, .tmp 11], none, [], none⟩ ::
   ⟨some 13, (.fad 0), [.tmp 12], none, [], none⟩ ::
   ⟨some 14, (.load none), [.tmp 13], none, [], none⟩ ::
   ⟨some 15, (.bin .eql), [.tmp 14, .const (.int .u64 0)], none, [], none⟩ ::
   ⟨some 16, .mov, [.tmp 15], none, [], none⟩ ::
   ⟨some 17, .mov, [.tmp 3], some (16, false), [], none⟩ ::
   ⟨some 18, (.bin .gtr), [.tmp 17, .const (.int .i64 0)], some (16, false), [], none⟩ ::
   ⟨some 19, .mov, [.tmp 18], some (16, false), [], none⟩ ::
   ⟨some 20, .mov, [.tmp 0], some (19, true), [], none⟩ ::
   ⟨some 21, .mov, [.tmp 3], some (19, true), [], none⟩ ::
   ⟨some 22, (.ixa 75 10), [.tmp 20, .tmp 21], some (19, true), [], none⟩ ::
   ⟨some 23, (.fad 0), [.tmp 22], some (19, true), [], none⟩ ::
   ⟨some 24, (.load none), [.tmp 23], some (19, true), [], none⟩ ::
   ⟨some 25, .mov, [.tmp 0], some (19, true), [], none⟩ ::
   ⟨some 26, .mov, [.tmp 3], some (19, true), [], none⟩ ::
   ⟨some 27, (.bin .sub), [.tmp 26, .const (.int .i64 1)], some (19, true), [], none⟩ ::
   ⟨some 28, (.ixa 75 10), [.tmp 25, .tmp 27], some (19, true), [], none⟩ ::
   ⟨some 29, (.fad 0), [.tmp 28], some (19, true), [], none⟩ ::
   ⟨some 30, (.load none), [.tmp 29], some (19, true), [], none⟩ ::
   ⟨some 31, (.bin .leq), [.tmp 24, .tmp 30], some (19, true), [], none⟩ ::
   ⟨some 32, .pick, [.tmp 19, .tmp 31, .const (.bool false)], some (16, false), [], none⟩ ::
   ⟨some 33, .pick, [.tmp 16, .const (.bool true), .tmp 32], none, [], none⟩ ::
   ⟨some 34, .mov, [.tmp 33], none, [], none⟩ ::
   ⟨some 35, .mov, [.tmp 0], some (34, false), [], none⟩ ::
   ⟨some 36, .mov, [.tmp 3], some (34, false), [], none⟩ ::
   ⟨some 37, (.ixa 75 10), [.tmp 35, .tmp 36], some (34, false), [], none⟩ ::
   ⟨some 38, (.load (some 10)), [.tmp 37], some (34, false), [], none⟩ ::
   ⟨some 39, (.call 116), [.tmp 38], some (34, false), [], none⟩ ::
   ⟨some 40, (.bin .gtr), [.tmp 39, .const (.int .u64 0)], some (34, false), [], none⟩ ::
   ⟨some 41, .mov, [.tmp 40], some (34, false), [], none⟩ ::
   ⟨some 42, .mov, [.tmp 0], some (41, true), [], none⟩ ::
   ⟨some 43, .mov, [.tmp 3], some (41, true), [], none⟩ ::
   ⟨some 44, .mov, [.tmp 0], some (41, true), [], none⟩ ::
   ⟨some 45, .mov, [.tmp 3], some (41, true), [], none⟩ ::
   ⟨some 46, (.ixa 75 10), [.tmp 44, .tmp 45], some (41, true), [], none⟩ ::
   ⟨some 47, (.load (some 10)), [.tmp 46], some (41, true), [], none⟩ ::
   ⟨some 48, (.call 116), [.tmp 47], some (41, true), [], none⟩ ::
   ⟨some 49, (.call 117), [.tmp 42, .tmp 43, .tmp 48], some (41, true), [], none⟩ ::
   ⟨some 50, (.bin .lss), [.tmp 49, .const (.int .i64 0)], some (41, true), [], none⟩ ::
   ⟨some 51, .pick, [.tmp 41, .tmp 50, .const (.bool false)], some (34, false), [], none⟩ ::
   ⟨some 52, .pick, [.tmp 34, .const (.bool true), .tmp 51], none, [], none⟩ :: []) true [0, 2, 3, 7, 52])
   (.cond (.tmp 52) (.seq (.reg [
   ⟨some 2, .mov, [.const (.bool false)], none, [], none⟩] false [0, 2, 3, 7, 52])
   (.ret)) (.skip))))
   (.reg [
   ⟨some 8, .mov, [.tmp 3], none, [], none⟩,
   ⟨some 9, (.bin .add), [.tmp 8, .const (.int .i64 1)], none, [], none⟩,
   ⟨some 3, .mov, [.tmp 9], none, [], none⟩] false [0, 2, 3, 7, 52]))))))
  (.seq (.reg [
  ⟨some 2, .mov, [.const (.bool true)], none, [], none⟩] false [0, 2, 3, 7, 52])
  (.ret)))
def keep54 : List Nat := [0, 2, 3, 7, 52]
theorem fn54 : compFn Try.prog 54 keep54 = some ⟨53, 1, [(2, none)], body54⟩ := by kernel_rfl

/- (chartroom/version.Versions).Forget -/
def body55 : AC :=
  .seq (.reg [
  ⟨some 4, (.nilS 70), [], none, [], none⟩] false [0, 1, 4, 5, 6, 8, 9, 10, 12, 13, 16, 19, 27, 28, 29, 30, 57, 58, 59, 60, 70, 71, 72, 73])
  (.seq (.seq (.reg [
  ⟨some 17, .mov, [.tmp 0], none, [], none⟩,
  ⟨some 18, (.call 53), [.tmp 17], none, [], none⟩,
  ⟨some 19, .not, [.tmp 18], none, [], none⟩] false [0, 1, 4, 5, 6, 8, 9, 10, 12, 13, 16, 19, 27, 28, 29, 30, 57, 58, 59, 60, 70, 71, 72, 73])
  (.cond (.tmp 19) (.seq (.reg [
  ⟨some 4, (.nilS 70), [], none, [], none⟩] false [0, 1, 4, 5, 6, 8, 9, 10, 12, 13, 16, 19, 27, 28, 29, 30, 57, 58, 59, 60, 70, 71, 72, 73])
  (.ret)) (.skip)))
  (.seq (.reg [
  ⟨some 20, .mov, [.tmp 0], none, [], none⟩,
  ⟨some 21, (.call 118), [.tmp 20], none, [], none⟩,
  ⟨some 5, .mov, [.tmp 21], none, [], none⟩] false [0, 1, 4, 5, 6, 8, 9, 10, 12, 13, 16, 19, 27, 28, 29, 30, 57, 58, 59, 60, 70, 71, 72, 73])
  (.seq (.reg [
  ⟨some 23, .mov, [.tmp 0], none, [], none⟩,
  ⟨some 24, (.call 45), [.tmp 23], none, [], none⟩,
  ⟨some 22, .mov, [.tmp 24], none, [], none⟩,
  ⟨some 25, (.ext 0), [.tmp 22], none, [], none⟩,
  ⟨some 26, (.ext 1), [.tmp 22], none, [], none⟩,
  ⟨some 6, (.alloc [(.int .u64 0), (.int .u64 0), (.int .u64 0), (.int .u64 0), (.int .u64 0), (.int .u64 0), (.int .u64 0), (.string ⟨#[]⟩), (.bool false), (.bool false)]), [], none, [], none⟩,
  ⟨none, (.store (some 10)), [.tmp 6, .tmp 25], none, [], none⟩,
  ⟨some 7, .mov, [.tmp 26], none, [], none⟩] false [0, 1, 4, 5, 6, 8, 9, 10, 12, 13, 16, 19, 27, 28, 29, 30, 57, 58, 59, 60, 70, 71, 72, 73])
  (.seq (.seq (.reg [
  ⟨some 27, .mov, [.tmp 5], none, [], none⟩,
  ⟨some 28, .len, [.tmp 27], none, [], none⟩,
  ⟨some 29, .mov, [.const (.int .i64 0)], none, [], none⟩] false [0, 1, 4, 5, 6, 8, 9, 10, 12, 13, 16, 19, 27, 28, 29, 30, 57, 58, 59, 60, 70, 71, 72, 73])
  (.block 0 (.loop (.seq (.reg [
   ⟨some 30, (.bin .lss), [.tmp 29, .tmp 28], none, [], none⟩] false [0, 1, 4, 5, 6, 8, 9, 10, 12, 13, 16, 19, 27, 28, 29, 30, 57, 58, 59, 60, 70, 71, 72, 73])
   (.seq (.cond (.tmp 30) (.skip) (.exit 0))
   (.seq (.block 1 (.seq (.reg [
   ⟨some 31, .mov, [.tmp 29], none, [], none⟩,
   ⟨some 32, (.ixa 70 10), [.tmp 27, .tmp 29], none, [], none⟩,
   ⟨some 33, (.load (some 10)), [.tmp 32], none, [], none⟩,
   ⟨some 9, (.alloc [(.int .u64 0), (.int .u64 0), (.int .u64 0), (.int .u64 0), (.int .u64 0), (.int .u64 0), (.int .u64 0), (.string ⟨#[]⟩), (.bool false), (.bool false)]), [], none, [], none⟩,
   ⟨some 8, .mov, [.tmp 31], none, [], none⟩,
   ⟨none, (.store (some 10)), [.tmp 9, .tmp 33], none, [], none⟩] false [0, 1, 4, 5, 6, 8, 9, 10, 12, 13, 16, 19, 27, 28, 29, 30, 57, 58, 59, 60, 70, 71, 72, 73])
   (.reg [
   ⟨some 34, .mov, [.tmp 5], none, [], none⟩,
   ⟨some 35, .mov, [.tmp 8], none, [], none⟩,
   ⟨some 36, (.fad 9), [.tmp 9], none, [], none⟩,
   ⟨some 37, (.load none), [.tmp 36], none, [], none⟩,
   ⟨some 38, .mov, [.tmp 37], none, [], none⟩,
   ⟨some 39, (.fad 0), [.tmp 9], some (38, false), [], none⟩,
   ⟨some 40, (.load none), [.tmp 39], some (38, false), [], none⟩,
   ⟨some 41, (.fad 0), [.tmp 6], some (38, false), [], none⟩,
   ⟨some 42, (.load none), [.tmp 41], some (38, false), [], none⟩,
   ⟨some 43, (.bin .neq), [.tmp 40, .tmp 42], some (38, false), [], none⟩,
   ⟨some 44, .mov, [.tmp 43], some (38, false), [], none⟩,
   ⟨some 45, .mov, [.tmp 1], some (44, true), [], none⟩,
   ⟨some 46, (.fad 0), [.tmp 9], some (44, true), [], none⟩,
   ⟨some 47, (.load none), [.tmp 46], some (44, true), [], none⟩,
   ⟨some 48, (.call 119), [.tmp 45, .tmp 47], some (44, true), [], none⟩,
   ⟨some 49, .not, [.tmp 48], some (44, true), [], none⟩,
   ⟨some 50, .pick, [.tmp 44, .tmp 49, .const (.bool false)], some (38, false), [], none⟩,
   ⟨some 51, .pick, [.tmp 38, .const (.bool true), .tmp 50], none, [], none⟩,
   ⟨some 52, (.ixa 70 10), [.tmp 34, .tmp 35], none, [], none⟩,
   ⟨some 53, (.fad 9), [.tmp 52], none, [], none⟩,
   ⟨none, (.store none), [.tmp 53, .tmp 51], none, [], none⟩] false [0, 1, 4, 5, 6, 8, 9, 10, 12, 13, 16, 19, 27, 28, 29, 30, 57, 58, 59, 60, 70, 71, 72, 73])))
   (.reg [
   ⟨some 54, (.bin .add), [.tmp 29, .const (.int .i64 1)], none, [], none⟩,
   ⟨some 29, .mov, [.tmp 54], none, [], none⟩] false [0, 1, 4, 5, 6, 8, 9, 10, 12, 13, 16, 19, 27, 28, 29, 30, 57, 58, 59, 60, 70, 71, 72, 73])))))))
  (.seq (.reg [
  ⟨some 55, (.ex .mkm), [], none, [], none⟩,
  ⟨some 10, (.alloc [(.map none)]), [], none, [], none⟩,
  ⟨none, (.store none), [.tmp 10, .tmp 55], none, [], none⟩] false [0, 1, 4, 5, 6, 8, 9, 10, 12, 13, 16, 19, 27, 28, 29, 30, 57, 58, 59, 60, 70, 71, 72, 73])
  (.seq (.seq (.reg [
  ⟨some 56, .mov, [.tmp 5], none, [], none⟩,
  ⟨some 57, (.call 49), [.tmp 56], none, [], none⟩,
  ⟨some 58, .len, [.tmp 57], none, [], none⟩,
  ⟨some 59, .mov, [.const (.int .i64 0)], none, [], none⟩] false [0, 1, 4, 5, 6, 8, 9, 10, 12, 13, 16, 19, 27, 28, 29, 30, 57, 58, 59, 60, 70, 71, 72, 73])
  (.block 2 (.loop (.seq (.reg [
   ⟨some 60, (.bin .lss), [.tmp 59, .tmp 58], none, [], none⟩] false [0, 1, 4, 5, 6, 8, 9, 10, 12, 13, 16, 19, 27, 28, 29, 30, 57, 58, 59, 60, 70, 71, 72, 73])
   (.seq (.cond (.tmp 60) (.skip) (.exit 2))
   (.seq (.block 3 (.seq (.reg [
   ⟨some 61, (.ixa 70 10), [.tmp 57, .tmp 59], none, [], none⟩,
   ⟨some 62, (.load (some 10)), [.tmp 61], none, [], none⟩,
   ⟨some 12, (.alloc [(.int .u64 0), (.int .u64 0), (.int .u64 0), (.int .u64 0), (.int .u64 0), (.int .u64 0), (.int .u64 0), (.string ⟨#[]⟩), (.bool false), (.bool false)]), [], none, [], none⟩,
   ⟨none, (.store (some 10)), [.tmp 12, .tmp 62], none, [], none⟩] false [0, 1, 4, 5, 6, 8, 9, 10, 12, 13, 16, 19, 27, 28, 29, 30, 57, 58, 59, 60, 70, 71, 72, 73])
   (.seq (.reg [
   ⟨some 64, .mov, [.tmp 5], none, [], none⟩,
   ⟨some 65, (.fad 0), [.tmp 12], none, [], none⟩,
   ⟨some 66, (.load none), [.tmp 65], none, [], none⟩,
   ⟨some 67, (.call 47), [.tmp 64, .tmp 66], none, [], none⟩,
   ⟨some 63, .mov, [.tmp 67], none, [], none⟩,
   ⟨some 68, (.ext 0), [.tmp 63], none, [], none⟩,
   ⟨some 69, (.ext 1), [.tmp 63], none, [], none⟩,
   ⟨some 13, .mov, [.tmp 68], none, [], none⟩,
   ⟨some 14, .mov, [.tmp 69], none, [], none⟩] false [0, 1, 4, 5, 6, 8, 9, 10, 12, 13, 16, 19, 27, 28, 29, 30, 57, 58, 59, 60, 70, 71, 72, 73])
   (.seq (.reg [
   ⟨some 70, .mov, [.tmp 13], none, [], none⟩,
   ⟨some 71, .len, [.tmp 70], none, [], none⟩,
   ⟨some 72, .mov, [.const (.int .i64 0)], none, [], none⟩] false [0, 1, 4, 5, 6, 8, 9, 10, 12, 13, 16, 19, 27, 28, 29, 30, 57, 58, 59, 60, 70, 71, 72, 73])
   (.block 4 (.loop (.seq (.reg [
    ⟨some 73, (.bin .lss), [.tmp 72, .tmp 71], none, [], none⟩] false [0, 1, 4, 5, 6, 8, 9, 10, 12, 13, 16, 19, 27, 28, 29, 30, 57, 58, 59, 60, 70, 71, 72, 73])
    (.seq (.cond (.tmp 73) (.skip) (.exit 4))
    (.seq (.block 5 (.seq (.reg [
    ⟨some 74, (.ixa 70 10), [.tmp 70, .tmp 72], none, [], none⟩,
    ⟨some 75, (.load (some 10)), [.tmp 74], none, [], none⟩,
    ⟨some 16, (.alloc [(.int .u64 0), (.int .u64 0), (.int .u64 0), (.int .u64 0), (.int .u64 0), (.int .u64 0), (.int .u64 0), (.string ⟨#[]⟩), (.bool false), (.bool false)]), [], none, [], none⟩,
    ⟨none, (.store (some 10)), [.tmp 16, .tmp 75], none, [], none⟩] false [0, 1, 4, 5, 6, 8, 9, 10, 12, 13, 16, 19, 27, 28, 29, 30, 57, 58, 59, 60, 70, 71, 72, 73])
    (.reg [
    ⟨some 76, (.load none), [.tmp 10], none, [], none⟩,
    ⟨some 77, (.fad 0), [.tmp 16], none, [], none⟩,
    ⟨some 78, (.load none), [.tmp 77], none, [], none⟩,
    ⟨some 79, (.bld [] []), [], none, [], none⟩,
    ⟨none, (.ex (.mput 9)), [.tmp 76, .tmp 78, .tmp 79], none, [], none⟩] false [0, 1, 4, 5, 6, 8, 9, 10, 12, 13, 16, 19, 27, 28, 29, 30, 57, 58, 59, 60, 70, 71, 72, 73])))
    (.reg [
    ⟨some 80, (.bin .add), [.tmp 72, .const (.int .i64 1)], none, [], none⟩,
    ⟨some 72, .mov, [.tmp 80], none, [], none⟩] false [0, 1, 4, 5, 6, 8, 9, 10, 12, 13, 16, 19, 27, 28, 29, 30, 57, 58, 59, 60, 70, 71, 72, 73]))))))))))
   (.reg [
   ⟨some 81, (.bin .add), [.tmp 59, .const (.int .i64 1)], none, [], none⟩,
   ⟨some 59, .mov, [.tmp 81], none, [], none⟩] false [0, 1, 4, 5, 6, 8, 9, 10, 12, 13, 16, 19, 27, 28, 29, 30, 57, 58, 59, 60, 70, 71, 72, 73])))))))
  (.seq (.reg [
  ⟨some 82, .mov, [.tmp 5], none, [], none⟩,
  ⟨some 83, (.mkf 121), [.tmp 10], none, [], none⟩,
  ⟨some 84, (.call 120), [.tmp 82, .tmp 83], none, [], none⟩,
  ⟨some 4, .mov, [.tmp 84], none, [], none⟩] false [0, 1, 4, 5, 6, 8, 9, 10, 12, 13, 16, 19, 27, 28, 29, 30, 57, 58, 59, 60, 70, 71, 72, 73])
  (.ret))))))))
def keep55 : List Nat := [0, 1, 4, 5, 6, 8, 9, 10, 12, 13, 16, 19, 27, 28, 29, 30, 57, 58, 59, 60, 70, 71, 72, 73]
theorem fn55 : compFn Try.prog 55 keep55 = some ⟨85, 2, [(4, none)], body55⟩ := by kernel_rfl

/- chartroom/chartroomkit.SameInts -/
def body56 : AC :=
  .seq (.reg [
  ⟨some 4, .mov, [.const (.bool false)], none, [], none⟩] false [0, 1, 4, 5, 10, 14, 25])
  (.seq (.seq (.reg [
  ⟨some 6, .mov, [.tmp 0], none, [], none⟩,
  ⟨some 7, .len, [.tmp 6], none, [], none⟩,
  ⟨some 8, .mov, [.tmp 1], none, [], none⟩,
  ⟨some 9, .len, [.tmp 8], none, [], none⟩,
  ⟨some 10, (.bin .neq), [.tmp 7, .tmp 9], none, [], none⟩] false [0, 1, 4, 5, 10, 14, 25])
  (.cond (.tmp 10) (.seq (.reg [
  ⟨some 4, .mov, [.const (.bool false)], none, [], none⟩] false [0, 1, 4, 5, 10, 14, 25])
  (.ret)) (.skip)))
  (.seq (.seq (.reg [
  ⟨some 5, .mov, [.const (.int .i64 0)], none, [], none⟩] false [0, 1, 4, 5, 10, 14, 25])
  (.block 0 (.loop (.seq (.seq (.reg [
   ⟨some 11, .mov, [.tmp 5], none, [], none⟩,
   ⟨some 12, .mov, [.tmp 0], none, [], none⟩,
   ⟨some 13, .len, [.tmp 12], none, [], none⟩,
   ⟨some 14, (.bin .lss), [.tmp 11, .tmp 13], none, [], none⟩] false [0, 1, 4, 5, 10, 14, 25])
   (.cond (.tmp 14) (.skip) (.exit 0)))
   (.seq (.block 1 (.seq (.reg [
   ⟨some 17, .mov, [.tmp 0], none, [], none⟩,
   ⟨some 18, .mov, [.tmp 5], none, [], none⟩,
   ⟨some 19, (.ixa 3 1), [.tmp 17, .tmp 18], none, [], none⟩,
   ⟨some 20, (.load none), [.tmp 19], none, [], none⟩,
   ⟨some 21, .mov, [.tmp 1], none, [], none⟩,
   ⟨some 22, .mov, [.tmp 5], none, [], none⟩,
   ⟨some 23, (.ixa 3 1), [.tmp 21, .tmp 22], none, [], none⟩,
   ⟨some 24, (.load none), [.tmp 23], none, [], none⟩,
   ⟨some 25, (.bin .neq), [.tmp 20, .tmp 24], none, [], none⟩] true [0, 1, 4, 5, 10, 14, 25])
   (.cond (.tmp 25) (.seq (.reg [
   ⟨some 4, .mov, [.const (.bool false)], none, [], none⟩] false [0, 1, 4, 5, 10, 14, 25])
   (.ret)) (.skip))))
   (.reg [
   ⟨some 15, .mov, [.tmp 5], none, [], none⟩,
   ⟨some 16, (.bin .add), [.tmp 15, .const (.int .i64 1)], none, [], none⟩,
   ⟨some 5, .mov, [.tmp 16], none, [], none⟩] false [0, 1, 4, 5, 10, 14, 25]))))))
  (.seq (.reg [
  ⟨some 4, .mov, [.const (.bool true)], none, [], none⟩] false [0, 1, 4, 5, 10, 14, 25])
  (.ret))))
def keep56 : List Nat := [0, 1, 4, 5, 10, 14, 25]
theorem fn56 : compFn Try.prog 56 keep56 = some ⟨26, 2, [(4, none)], body56⟩ := by kernel_rfl

/- chartroom/chartroomlaw15.numbers -/
def body57 : AC :=
  .seq (.reg [
  ⟨some 2, (.nilS 3), [], none, [], none⟩] false [0, 2, 3, 4, 8])
  (.seq (.reg [
  ⟨some 3, (.nilS 3), [], none, [], none⟩] false [0, 2, 3, 4, 8])
  (.seq (.seq (.reg [
  ⟨some 4, .mov, [.const (.int .i64 0)], none, [], none⟩] false [0, 2, 3, 4, 8])
  (.block 0 (.loop (.seq (.seq (.reg [
   ⟨some 5, .mov, [.tmp 4], none, [], none⟩,
   ⟨some 6, .mov, [.tmp 0], none, [], none⟩,
   ⟨some 7, .len, [.tmp 6], none, [], none⟩,
   ⟨some 8, (.bin .lss), [.tmp 5, .tmp 7], none, [], none⟩] false [0, 2, 3, 4, 8])
   (.cond (.tmp 8) (.skip) (.exit 0)))
   (.seq (.block 1 (.reg [
   ⟨some 11, .mov, [.tmp 3], none, [], none⟩,
   ⟨some 12, .mov, [.tmp 0], none, [], none⟩,
   ⟨some 13, .mov, [.tmp 4], none, [], none⟩,
   ⟨some 14, (.ixa 70 10), [.tmp 12, .tmp 13], none, [], none⟩,
   ⟨some 15, (.fad 0), [.tmp 14], none, [], none⟩,
   ⟨some 16, (.load none), [.tmp 15], none, [], none⟩,
   ⟨some 17, (.cvi .i64), [.tmp 16], none, [], none⟩,
   ⟨some 18, (.bsl 3 1), [.tmp 17], none, [], none⟩,
   ⟨some 19, (.app 3 1 8), [.tmp 11, .tmp 18], none, [], none⟩,
   ⟨some 3, .mov, [.tmp 19], none, [], none⟩] false [0, 2, 3, 4, 8]))
   (.reg [
   ⟨some 9, .mov, [.tmp 4], none, [], none⟩,
   ⟨some 10, (.bin .add), [.tmp 9, .const (.int .i64 1)], none, [], none⟩,
   ⟨some 4, .mov, [.tmp 10], none, [], none⟩] false [0, 2, 3, 4, 8]))))))
  (.seq (.reg [
  ⟨some 20, .mov, [.tmp 3], none, [], none⟩,
  ⟨some 2, .mov, [.tmp 20], none, [], none⟩] false [0, 2, 3, 4, 8])
  (.ret))))
def keep57 : List Nat := [0, 2, 3, 4, 8]
theorem fn57 : compFn Try.prog 57 keep57 = some ⟨21, 1, [(2, none)], body57⟩ := by kernel_rfl

/- chartroom/chartroomref15.Forget -/
def body62 : AC :=
  .seq (.reg [
  ⟨some 4, (.nilS 75), [], none, [], none⟩] false [0, 1, 4, 5, 7, 8, 9, 10, 11, 12, 13, 16, 25, 56, 62, 92, 93])
  (.seq (.seq (.reg [
  ⟨some 14, .mov, [.tmp 0], none, [], none⟩,
  ⟨some 15, (.call 54), [.tmp 14], none, [], none⟩,
  ⟨some 16, .not, [.tmp 15], none, [], none⟩] false [0, 1, 4, 5, 7, 8, 9, 10, 11, 12, 13, 16, 25, 56, 62, 92, 93])
  (.cond (.tmp 16) (.seq (.reg [
  ⟨some 4, (.nilS 75), [], none, [], none⟩] false [0, 1, 4, 5, 7, 8, 9, 10, 11, 12, 13, 16, 25, 56, 62, 92, 93])
  (.ret)) (.skip)))
  (.seq (.reg [
  ⟨some 18, .mov, [.tmp 0], none, [], none⟩,
  ⟨some 19, (.call 46), [.tmp 18], none, [], none⟩,
  ⟨some 17, .mov, [.tmp 19], none, [], none⟩,
  ⟨some 20, (.ext 0), [.tmp 17], none, [], none⟩,
  ⟨some 21, (.ext 1), [.tmp 17], none, [], none⟩,
  ⟨some 5, (.alloc [(.int .u64 0), (.int .u64 0), (.int .u64 0), (.int .u64 0), (.int .u64 0), (.int .u64 0), (.int .u64 0), (.string ⟨#[]⟩), (.bool false), (.bool false)]), [], none, [], none⟩,
  ⟨none, (.store (some 10)), [.tmp 5, .tmp 20], none, [], none⟩,
  ⟨some 6, .mov, [.tmp 21], none, [], none⟩] false [0, 1, 4, 5, 7, 8, 9, 10, 11, 12, 13, 16, 25, 56, 62, 92, 93])
  (.seq (.reg [
  ⟨some 7, (.nilS 75), [], none, [], none⟩,
  ⟨some 8, (.nilS 75), [], none, [], none⟩] false [0, 1, 4, 5, 7, 8, 9, 10, 11, 12, 13, 16, 25, 56, 62, 92, 93])
  (.seq (.seq (.reg [
  ⟨some 9, .mov, [.const (.int .i64 0)], none, [], none⟩] false [0, 1, 4, 5, 7, 8, 9, 10, 11, 12, 13, 16, 25, 56, 62, 92, 93])
  (.block 0 (.loop (.seq (.seq (.reg [
   ⟨some 22, .mov, [.tmp 9], none, [], none⟩,
   ⟨some 23, .mov, [.tmp 0], none, [], none⟩,
   ⟨some 24, .len, [.tmp 23], none, [], none⟩,
   ⟨some 25, (.bin .lss), [.tmp 22, .tmp 24], none, [], none⟩] false [0, 1, 4, 5, 7, 8, 9, 10, 11, 12, 13, 16, 25, 56, 62, 92, 93])
   (.cond (.tmp 25) (.skip) (.exit 0)))
   (.seq (.block 1 (.seq (.reg [
   ⟨some 28, .mov, [.tmp 0], none, [], none⟩,
   ⟨some 29, .mov, [.tmp 9], none, [], none⟩,
   ⟨some 30, (.ixa 75 10), [.tmp 28, .tmp 29], none, [], none⟩,
   ⟨some 31, (.load (some 10)), [.tmp 30], none, [], none⟩,
   ⟨some 10, (.alloc [(.int .u64 0), (.int .u64 0), (.int .u64 0), (.int .u64 0), (.int .u64 0), (.int .u64 0), (.int .u64 0), (.string ⟨#[]⟩), (.bool false), (.bool false)]), [], none, [], none⟩,
   ⟨none, (.store (some 10)), [.tmp 10, .tmp 31], none, [], none⟩] false [0, 1, 4, 5, 7, 8, 9, 10, 11, 12, 13, 16, 25, 56, 62, 92, 93])
   (.seq (.reg [
   ⟨some 32, (.fad 9), [.tmp 10], none, [], none⟩,
   ⟨some 33, (.load none), [.tmp 32], none, [], none⟩,
   ⟨some 34, .mov, [.tmp 33], none, [], none⟩,
   ⟨some 35, (.fad 0), [.tmp 10], some (34, false), [], none⟩,
   ⟨some 36, (.load none), [.tmp 35], some (34, false), [], none⟩,
   ⟨some 37, (.fad 0), [.tmp 5], some (34, false), [], none⟩,
   ⟨some 38, (.load none), [.tmp 37], some (34, false), [], none⟩,
   ⟨some 39, (.bin .neq), [.tmp 36, .tmp 38], some (34, false), [], none⟩,
   ⟨some 40, .mov, [.tmp 39], some (34, false), [], none⟩,
   ⟨some 41, .mov, [.tmp 1], some (40, true), [], none⟩,
   ⟨some 42, (.fad 0), [.tmp 10], some (40, true), [], none⟩,
   ⟨some 43, (.load none), [.tmp 42], some (40, true), [], none⟩,
   ⟨some 44, (.call 123), [.tmp 41, .tmp 43], some (40, true), [], none⟩,
   ⟨some 45, .not, [.tmp 44], some (40, true), [], none⟩,
   ⟨some 46, .pick, [.tmp 40, .tmp 45, .const (.bool false)], some (34, false), [], none⟩,
   ⟨some 47, .pick, [.tmp 34, .const (.bool true), .tmp 46], none, [], none⟩,
   ⟨some 48, (.fad 9), [.tmp 10], none, [], none⟩,
   ⟨none, (.store none), [.tmp 48, .tmp 47], none, [], none⟩] false [0, 1, 4, 5, 7, 8, 9, 10, 11, 12, 13, 16, 25, 56, 62, 92, 93])
   (.reg [
   ⟨some 49, .mov, [.tmp 7], none, [], none⟩,
   ⟨some 50, (.load (some 10)), [.tmp 10], none, [], none⟩,
   ⟨some 51, (.bsl 75 10), [.tmp 50], none, [], none⟩,
   ⟨some 52, (.app 75 10 80), [.tmp 49, .tmp 51], none, [], none⟩,
   ⟨some 7, .mov, [.tmp 52], none, [], none⟩] false [0, 1, 4, 5, 7, 8, 9, 10, 11, 12, 13, 16, 25, 56, 62, 92, 93]))))
   (.reg [
   ⟨some 26, .mov, [.tmp 9], none, [], none⟩,
   ⟨some 27, (.bin .add), [.tmp 26, .const (.int .i64 1)], none, [], none⟩,
   ⟨some 9, .mov, [.tmp 27], none, [], none⟩] false [0, 1, 4, 5, 7, 8, 9, 10, 11, 12, 13, 16, 25, 56, 62, 92, 93]))))))
  (.seq (.seq (.reg [
  ⟨some 11, .mov, [.const (.int .i64 0)], none, [], none⟩] false [0, 1, 4, 5, 7, 8, 9, 10, 11, 12, 13, 16, 25, 56, 62, 92, 93])
  (.block 2 (.loop (.seq (.seq (.reg [
   ⟨some 53, .mov, [.tmp 11], none, [], none⟩,
   ⟨some 54, .mov, [.tmp 7], none, [], none⟩,
   ⟨some 55, .len, [.tmp 54], none, [], none⟩,
   ⟨some 56, (.bin .lss), [.tmp 53, .tmp 55], none, [], none⟩] false [0, 1, 4, 5, 7, 8, 9, 10, 11, 12, 13, 16, 25, 56, 62, 92, 93])
   (.cond (.tmp 56) (.skip) (.exit 2)))
   (.seq (.block 3 (.seq (.reg [
   ⟨some 12, .mov, [.const (.bool false)], none, [], none⟩] false [0, 1, 4, 5, 7, 8, 9, 10, 11, 12, 13, 16, 25, 56, 62, 92, 93])
   (.seq (.seq (.reg [
   ⟨some 13, .mov, [.const (.int .i64 0)], none, [], none⟩] false [0, 1, 4, 5, 7, 8, 9, 10, 11, 12, 13, 16, 25, 56, 62, 92, 93])
   (.block 4 (.loop (.seq (.seq (.reg [
    ⟨some 59, .mov, [.tmp 13], none, [], none⟩,
    ⟨some 60, .mov, [.tmp 7], none, [], none⟩,
    ⟨some 61, .len, [.tmp 60], none, [], none⟩,
    ⟨some 62, (.bin .lss), [.tmp 59, .tmp 61], none, [], none⟩] false [0, 1, 4, 5, 7, 8, 9, 10, 11, 12, 13, 16, 25, 56, 62, 92, 93])
    (.cond (.tmp 62) (.skip) (.exit 4)))
    (.seq (.block 5 (.seq (.reg [
    ⟨some 65, .mov, [.tmp 7], none, [], none⟩,
    ⟨some 66, .mov, [.tmp 13], none, [], none⟩,
    ⟨some 67, (.ixa 75 10), [.tmp 65, .tmp 66], none, [], none⟩,
    ⟨some 68, (.fad 9), [.tmp 67], none, [], none⟩,
    ⟨some 69, (.load none), [.tmp 68], none, [], none⟩,
    ⟨some 70, .not, [.tmp 69], none, [], none⟩,
    ⟨some 71, .mov, [.tmp 70], none, [], none⟩,
    ⟨some 72, .mov, [.tmp 7], some (71, true), [], none⟩,
    ⟨some 73, .mov, [.tmp 7], some (71, true), [], none⟩,
    ⟨some 74, .mov, [.tmp 13], some (71, true), [], none⟩,
    ⟨some 75, (.ixa 75 10), [.tmp 73, .tmp 74], some (71, true), [], none⟩,
    ⟨some 76, (.load (some 10)), [.tmp 75], some (71, true), [], none⟩,
    ⟨some 77, (.call 115), [.tmp 72, .tmp 76], some (71, true), [], none⟩,
    ⟨some 78, .mov, [.tmp 7], some (71, true), [], none⟩,
    ⟨some 79, .mov, [.tmp 7], some (71, true), [], none⟩,
    ⟨some 80, .mov, [.tmp 13], some (71, true), [], none⟩,
    ⟨some 81, (.ixa 75 10), [.tmp 79, .tmp 80], some (71, true), [77], none⟩,
    ⟨some 82, (.load (some 10)), [.tmp 81], some (71, true), [77], none⟩,
    ⟨some 83, (.call 115), [.tmp 78, .tmp 82], some (71, true), [], none⟩,
    ⟨some 84, .len, [.tmp 83], some (71, true), [], none⟩,
    ⟨some 85, .mov, [.tmp 7], some (71, true), [], none⟩,
    ⟨some 86, .mov, [.tmp 11], some (71, true), [], none⟩,
    ⟨some 87, (.ixa 75 10), [.tmp 85, .tmp 86], some (71, true), [77, 83], none⟩,
    ⟨some 88, (.fad 0), [.tmp 87], some (71, true), [77, 83], none⟩,
    ⟨some 89, (.load none), [.tmp 88], some (71, true), [77, 83], none⟩,
    ⟨some 90, (.call 117), [.tmp 77, .tmp 84, .tmp 89], some (71, true), [], none⟩,
    ⟨some 91, (.bin .geq), [.tmp 90, .const (.int .i64 0)], some (71, true), [], none⟩,
    ⟨some 92, .pick, [.tmp 71, .tmp 91, .const (.bool false)], none, [], none⟩] true [0, 1, 4, 5, 7, 8, 9, 10, 11, 12, 13, 16, 25, 56, 62, 92, 93])
    (.cond (.tmp 92) (.reg [
    ⟨some 12, .mov, [.const (.bool true)], none, [], none⟩] false [0, 1, 4, 5, 7, 8, 9, 10, 11, 12, 13, 16, 25, 56, 62, 92, 93]) (.skip))))
    (.reg [
    ⟨some 63, .mov, [.tmp 13], none, [], none⟩,
    ⟨some 64, (.bin .add), [.tmp 63, .const (.int .i64 1)], none, [], none⟩,
    ⟨some 13, .mov, [.tmp 64], none, [], none⟩] false [0, 1, 4, 5, 7, 8, 9, 10, 11, 12, 13, 16, 25, 56, 62, 92, 93]))))))
   (.seq (.reg [
   ⟨some 93, .mov, [.tmp 12], none, [], none⟩] false [0, 1, 4, 5, 7, 8, 9, 10, 11, 12, 13, 16, 25, 56, 62, 92, 93])
   (.cond (.tmp 93) (.reg [
   ⟨some 94, .mov, [.tmp 8], none, [], none⟩,
   ⟨some 95, .mov, [.tmp 7], none, [], none⟩,
   ⟨some 96, .mov, [.tmp 11], none, [], none⟩,
   ⟨some 97, (.ixa 75 10), [.tmp 95, .tmp 96], none, [], none⟩,
   ⟨some 98, (.load (some 10)), [.tmp 97], none, [], none⟩,
   ⟨some 99, (.bsl 75 10), [.tmp 98], none, [], none⟩,
   ⟨some 100, (.app 75 10 80), [.tmp 94, .tmp 99], none, [], none⟩,
   ⟨some 8, .mov, [.tmp 100], none, [], none⟩] false [0, 1, 4, 5, 7, 8, 9, 10, 11, 12, 13, 16, 25, 56, 62, 92, 93]) (.skip))))))
   (.reg [
   ⟨some 57, .mov, [.tmp 11], none, [], none⟩,
   ⟨some 58, (.bin .add), [.tmp 57, .const (.int .i64 1)], none, [], none⟩,
   ⟨some 11, .mov, [.tmp 58], none, [], none⟩] false [0, 1, 4, 5, 7, 8, 9, 10, 11, 12, 13, 16, 25, 56, 62, 92, 93]))))))
  (.seq (.reg [
  ⟨some 101, .mov, [.tmp 8], none, [], none⟩,
  ⟨some 4, .mov, [.tmp 101], none, [], none⟩] false [0, 1, 4, 5, 7, 8, 9, 10, 11, 12, 13, 16, 25, 56, 62, 92, 93])
  (.ret)))))))
def keep62 : List Nat := [0, 1, 4, 5, 7, 8, 9, 10, 11, 12, 13, 16, 25, 56, 62, 92, 93]
theorem fn62 : compFn Try.prog 62 keep62 = some ⟨102, 2, [(4, none)], body62⟩ := by kernel_rfl

/- chartroom/version.Put -/
def body63 : AC :=
  .seq (.reg [
  ⟨some 2, (.nilS 5), [], none, [], none⟩,
  ⟨some 3, .mov, [.const (.int .i64 0)], none, [], none⟩] false [0, 2, 3, 4, 5, 7, 15, 20, 21, 22, 23])
  (.seq (.reg [
  ⟨some 4, .mov, [.func 124], none, [], none⟩] false [0, 2, 3, 4, 5, 7, 15, 20, 21, 22, 23])
  (.seq (.seq (.reg [
  ⟨some 8, .mov, [.tmp 0], none, [], none⟩,
  ⟨some 9, (.call 53), [.tmp 8], none, [], none⟩,
  ⟨some 10, .not, [.tmp 9], none, [], none⟩,
  ⟨some 11, .mov, [.tmp 10], none, [], none⟩,
  ⟨some 12, .mov, [.tmp 0], some (11, false), [], none⟩,
  ⟨some 13, .mov, [.tmp 4], some (11, false), [], none⟩,
  ⟨some 14, (.call 125), [.tmp 12, .tmp 13], some (11, false), [], none⟩,
  ⟨some 15, .pick, [.tmp 11, .const (.bool true), .tmp 14], none, [], none⟩] false [0, 2, 3, 4, 5, 7, 15, 20, 21, 22, 23])
  (.cond (.tmp 15) (.seq (.reg [
  ⟨some 2, (.nilS 5), [], none, [], none⟩,
  ⟨some 3, .mov, [.const (.int .i64 2)], none, [], none⟩] false [0, 2, 3, 4, 5, 7, 15, 20, 21, 22, 23])
  (.ret)) (.skip)))
  (.seq (.reg [
  ⟨some 16, .mov, [.tmp 0], none, [], none⟩,
  ⟨some 17, .len, [.tmp 16], none, [], none⟩,
  ⟨some 18, (.cvi .u64), [.tmp 17], none, [], none⟩,
  ⟨some 19, (.call 103), [.tmp 18], none, [], none⟩,
  ⟨some 5, .mov, [.tmp 19], none, [], none⟩] false [0, 2, 3, 4, 5, 7, 15, 20, 21, 22, 23])
  (.seq (.seq (.reg [
  ⟨some 20, .mov, [.tmp 0], none, [], none⟩,
  ⟨some 21, .len, [.tmp 20], none, [], none⟩,
  ⟨some 22, .mov, [.const (.int .i64 0)], none, [], none⟩] false [0, 2, 3, 4, 5, 7, 15, 20, 21, 22, 23])
  (.block 0 (.loop (.seq (.reg [
   ⟨some 23, (.bin .lss), [.tmp 22, .tmp 21], none, [], none⟩] false [0, 2, 3, 4, 5, 7, 15, 20, 21, 22, 23])
   (.seq (.cond (.tmp 23) (.skip) (.exit 0))
   (.seq (.block 1 (.seq (.reg [
   ⟨some 24, (.ixa 70 10), [.tmp 20, .tmp 22], none, [], none⟩,
   ⟨some 25, (.load (some 10)), [.tmp 24], none, [], none⟩,
   ⟨some 7, (.alloc [(.int .u64 0), (.int .u64 0), (.int .u64 0), (.int .u64 0), (.int .u64 0), (.int .u64 0), (.int .u64 0), (.string ⟨#[]⟩), (.bool false), (.bool false)]), [], none, [], none⟩,
   ⟨none, (.store (some 10)), [.tmp 7, .tmp 25], none, [], none⟩] false [0, 2, 3, 4, 5, 7, 15, 20, 21, 22, 23])
   (.reg [
   ⟨some 26, .mov, [.tmp 5], none, [], none⟩,
   ⟨some 27, (.fad 0), [.tmp 7], none, [], none⟩,
   ⟨some 28, (.load none), [.tmp 27], none, [], none⟩,
   ⟨some 29, (.call 103), [.tmp 28], none, [], none⟩,
   ⟨some 30, (.app 5 1 1), [.tmp 26, .tmp 29], none, [1029, 1030, 1029, 1030], none⟩,
   ⟨some 31, (.fad 7), [.tmp 7], none, [29, 30], none⟩,
   ⟨some 32, (.load none), [.tmp 31], none, [29, 30], none⟩,
   ⟨some 33, (.call 104), [.tmp 32], none, [], (some 999999)⟩,
   ⟨some 34, (.app 5 1 1), [.tmp 30, .tmp 33], none, [], none⟩,
   ⟨some 5, .mov, [.tmp 34], none, [], none⟩] true [0, 2, 3, 4, 5, 7, 15, 20, 21, 22, 23])))
   (.reg [
   ⟨some 35, (.bin .add), [.tmp 22, .const (.int .i64 1)], none, [], none⟩,
   ⟨some 22, .mov, [.tmp 35], none, [], none⟩] false [0, 2, 3, 4, 5, 7, 15, 20, 21, 22, 23])))))))
  (.seq (.reg [
  ⟨some 36, .mov, [.tmp 5], none, [], none⟩,
  ⟨some 2, .mov, [.tmp 36], none, [], none⟩,
  ⟨some 3, .mov, [.const (.int .i64 0)], none, [], none⟩] false [0, 2, 3, 4, 5, 7, 15, 20, 21, 22, 23])
  (.ret))))))
def keep63 : List Nat := [0, 2, 3, 4, 5, 7, 15, 20, 21, 22, 23]
theorem fn63 : compFn Try.prog 63 keep63 = some ⟨37, 1, [(2, none), (3, none)], body63⟩ := by kernel_rfl

/- chartroom/chartroomref15.Put -/
def body64 : AC :=
  .seq (.reg [
  ⟨some 2, (.nilS 5), [], none, [], none⟩,
  ⟨some 3, .mov, [.const (.int .i64 0)], none, [], none⟩] false [0, 2, 3, 4, 5, 6, 9, 17, 62])
  (.seq (.seq (.reg [
  ⟨some 7, .mov, [.tmp 0], none, [], none⟩,
  ⟨some 8, (.call 54), [.tmp 7], none, [], none⟩,
  ⟨some 9, .not, [.tmp 8], none, [], none⟩] false [0, 2, 3, 4, 5, 6, 9, 17, 62])
  (.cond (.tmp 9) (.seq (.reg [
  ⟨some 2, (.nilS 5), [], none, [], none⟩,
  ⟨some 3, .mov, [.const (.int .i64 2)], none, [], none⟩] false [0, 2, 3, 4, 5, 6, 9, 17, 62])
  (.ret)) (.skip)))
  (.seq (.reg [
  ⟨some 10, .mov, [.tmp 0], none, [], none⟩,
  ⟨some 11, .len, [.tmp 10], none, [], none⟩,
  ⟨some 12, (.cvi .u64), [.tmp 11], none, [], none⟩,
  ⟨some 13, (.call 105), [.tmp 12], none, [], none⟩,
  ⟨some 4, .mov, [.tmp 13], none, [], none⟩] false [0, 2, 3, 4, 5, 6, 9, 17, 62])
  (.seq (.seq (.reg [
  ⟨some 5, .mov, [.const (.int .i64 0)], none, [], none⟩] false [0, 2, 3, 4, 5, 6, 9, 17, 62])
  (.block 0 (.loop (.seq (.seq (.reg [
   ⟨some 14, .mov, [.tmp 5], none, [], none⟩,
   ⟨some 15, .mov, [.tmp 0], none, [], none⟩,
   ⟨some 16, .len, [.tmp 15], none, [], none⟩,
   ⟨some 17, (.bin .lss), [.tmp 14, .tmp 16], none, [], none⟩] false [0, 2, 3, 4, 5, 6, 9, 17, 62])
   (.cond (.tmp 17) (.skip) (.exit 0)))
   (.seq (.block 1 (.seq (.reg [
   ⟨some 20, .mov, [.tmp 0], none, [], none⟩,
   ⟨some 21, .mov, [.tmp 5], none, [], none⟩,
   ⟨some 22, (.ixa 75 10), [.tmp 20, .tmp 21], none, [], none⟩,
   ⟨some 23, (.load (some 10)), [.tmp 22], none, [], none⟩,
   ⟨some 6, (.alloc [(.int .u64 0), (.int .u64 0), (.int .u64 0), (.int .u64 0), (.int .u64 0), (.int .u64 0), (.int .u64 0), (.string ⟨#[]⟩), (.bool false), (.bool false)]), [], none, [], none⟩,
   ⟨none, (.store (some 10)), [.tmp 6, .tmp 23], none, [], none⟩] false [0, 2, 3, 4, 5, 6, 9, 17, 62])
   (.seq (.seq (.reg (
   ⟨some 24, (.fad 8), [.tmp 6], none, [], none⟩ ::
   ⟨some 25, (.load none), [.tmp 24], none, [], none⟩ ::
   ⟨some 26, .not, [.tmp 25], none, [], none⟩ ::
   ⟨some 27, .mov, [.tmp 26], none, [], none⟩ ::
   ⟨some 28, (.fad 9), [.tmp 6], some (27, false), [], none⟩ ::
   ⟨some 29, (.load none), [.tmp 28], some (27, false), [], none⟩ ::
   ⟨some 30, .pick, [.tmp 27, .const (.bool true), .tmp 29], none, [], none⟩ ::
   ⟨some 31, .mov, [.tmp 30], none, [], none⟩ ::
   ⟨some 32, (.fad 1), [.tmp 6], some (31, false), [], none⟩ ::
   ⟨some 33, (.load none), [.tmp 32], some (31, false), [], none⟩ ::
   ⟨some 34, (.bin .neq), [.tmp 33, .const (.int .u64 0)], some (31, false), [], none⟩ ::
   ⟨some 35, .pick, [.tmp 31, .const (.bool true), .tmp 34], none, [], none⟩ ::
   ⟨some 36, .mov, [.tmp 35], none, [], none⟩ ::
   ⟨some 37, (.fad 2), [.tmp 6], some (36, false), [], none⟩ ::
   ⟨some 38, (.load none), [.tmp 37], some (36, false), [], none⟩ ::
   ⟨some 39, (.bin .neq), [.tmp 38, .const (.int .u64 0)], some (36, false), [], none⟩ ::
   ⟨some 40, .pick, [.tmp 36, .const (.bool true), .tmp 39], none, [], none⟩ ::
   ⟨some 41, .mov, [.tmp 40], none, [], none⟩ ::
   ⟨some 42, (.fad 3), [.tmp 6], some (41, false), [], none⟩ ::
   ⟨some 43, (.load none), [.tmp 42], some (41, false), [], none⟩ ::
   ⟨some 44, (.bin .neq), [.tmp 43, .const (.int .u64 0)], some (41, false), [], none⟩ ::
   ⟨some 45, .pick, [.tmp 41, .const (.bool true), .tmp 44], none, [], none⟩ ::
   ⟨some 46, .mov, [.tmp 45], none, [], none⟩ ::
   ⟨some 47, (.fad 4), [.tmp 6], some (46, false), [], none⟩ ::
   ⟨some 48, (.load none), [.tmp 47], some (46, false), [], none⟩ ::
   ⟨some 49, (.bin .neq), [.tmp 48, .const (.int .u64 0)], some (46, false), [], none⟩ ::
   ⟨some 50, .pick, [.tmp 46, .const (.bool true), .tmp 49], none, [], none⟩ ::
   ⟨some 51, .mov, [.tmp 50], none, [], none⟩ ::
   ⟨some 52, (.fad 5), [.tmp 6], some (51, false), [], none⟩ ::
   ⟨some 53, (.fad 0), [.tmp 52], some (51, false), [], none⟩ ::
   ⟨some 54, (.load none), [.tmp 53], some (51, false), [], none⟩ ::
   ⟨some 55, (.bin .neq), [.tmp 54, .const (.int .u64 0)], some (51, false), [], none⟩ ::
   ⟨some 56, .pick, [.tmp 51, .const (.bool true), .tmp 55], none, [], none⟩ ::
   ⟨some 57, .mov, [.tmp 56], none, [], none⟩ ::
   ⟨some 58, (.fad 5), [.tmp 6], some (57, false), [], none⟩ ::
   ⟨some 59, (.fad 1), [.tmp 58], some (57, false), [], none⟩ ::
   ⟨some 60, (.load none), [.tmp 59], some (57, false), [], none⟩ ::
   ⟨some 61, (.bin .neq), [.tmp 60, .const (.int .u64 0)], some (57, false), [], none⟩ ::
   ⟨some 62, .pick, [.tmp 57, .const (.bool true), .tmp 61], none, [], none⟩ :: []) false [0, 2, 3, 4, 5, 6, 9, 17, 62])
   (.cond (.tmp 62) (.seq (.reg [
   ⟨some 2, (.nilS 5), [], none, [], none⟩,
   ⟨some 3, .mov, [.const (.int .i64 2)], none, [], none⟩] false [0, 2, 3, 4, 5, 6, 9, 17, 62])
   (.ret)) (.skip)))
   (.seq (.reg [
   ⟨some 63, .mov, [.tmp 4], none, [], none⟩,
   ⟨some 64, (.fad 0), [.tmp 6], none, [], none⟩,
   ⟨some 65, (.load none), [.tmp 64], none, [], none⟩,
   ⟨some 66, (.call 105), [.tmp 65], none, [], none⟩,
   ⟨some 67, (.app 5 1 1), [.tmp 63, .tmp 66], none, [], none⟩,
   ⟨some 4, .mov, [.tmp 67], none, [], none⟩] false [0, 2, 3, 4, 5, 6, 9, 17, 62])
   (.reg [
   ⟨some 68, .mov, [.tmp 4], none, [], none⟩,
   ⟨some 69, (.fad 7), [.tmp 6], none, [], none⟩,
   ⟨some 70, (.load none), [.tmp 69], none, [], none⟩,
   ⟨some 71, (.call 106), [.tmp 70], none, [], none⟩,
   ⟨some 72, (.app 5 1 1), [.tmp 68, .tmp 71], none, [], none⟩,
   ⟨some 4, .mov, [.tmp 72], none, [], none⟩] false [0, 2, 3, 4, 5, 6, 9, 17, 62])))))
   (.reg [
   ⟨some 18, .mov, [.tmp 5], none, [], none⟩,
   ⟨some 19, (.bin .add), [.tmp 18, .const (.int .i64 1)], none, [], none⟩,
   ⟨some 5, .mov, [.tmp 19], none, [], none⟩] false [0, 2, 3, 4, 5, 6, 9, 17, 62]))))))
  (.seq (.reg [
  ⟨some 73, .mov, [.tmp 4], none, [], none⟩,
  ⟨some 2, .mov, [.tmp 73], none, [], none⟩,
  ⟨some 3, .mov, [.const (.int .i64 0)], none, [], none⟩] false [0, 2, 3, 4, 5, 6, 9, 17, 62])
  (.ret)))))
def keep64 : List Nat := [0, 2, 3, 4, 5, 6, 9, 17, 62]
theorem fn64 : compFn Try.prog 64 keep64 = some ⟨74, 1, [(2, none), (3, none)], body64⟩ := by kernel_rfl

/- chartroom/version.Parse -/
def body65 : AC :=
  .seq (.reg [
  ⟨some 2, (.nilS 70), [], none, [], none⟩,
  ⟨some 3, .mov, [.const (.int .i64 0)], none, [], none⟩] false [0, 2, 3, 4, 5, 6, 7, 8, 9, 22, 34, 48, 52])
  (.seq (.reg [
  ⟨some 11, .mov, [.tmp 0], none, [], none⟩,
  ⟨some 12, (.call 107), [.tmp 11, .const (.int .i64 0)], none, [], none⟩,
  ⟨some 10, .mov, [.tmp 12], none, [], none⟩,
  ⟨some 13, (.ext 0), [.tmp 10], none, [], none⟩,
  ⟨some 14, (.ext 1), [.tmp 10], none, [], none⟩,
  ⟨some 15, (.ext 2), [.tmp 10], none, [], none⟩,
  ⟨some 4, .mov, [.tmp 13], none, [], none⟩,
  ⟨some 5, .mov, [.tmp 14], none, [], none⟩,
  ⟨some 6, .mov, [.tmp 15], none, [], none⟩] false [0, 2, 3, 4, 5, 6, 7, 8, 9, 22, 34, 48, 52])
  (.seq (.reg [
  ⟨some 7, (.nilS 70), [], none, [], none⟩] false [0, 2, 3, 4, 5, 6, 7, 8, 9, 22, 34, 48, 52])
  (.seq (.seq (.reg [
  ⟨some 8, .mov, [.const (.int .u64 0)], none, [], none⟩] false [0, 2, 3, 4, 5, 6, 7, 8, 9, 22, 34, 48, 52])
  (.block 0 (.loop (.seq (.seq (.reg [
   ⟨some 16, .mov, [.tmp 8], none, [], none⟩,
   ⟨some 17, .mov, [.tmp 4], none, [], none⟩,
   ⟨some 18, (.bin .lss), [.tmp 16, .tmp 17], none, [], none⟩,
   ⟨some 19, .mov, [.tmp 18], none, [], none⟩,
   ⟨some 20, .mov, [.tmp 6], some (19, true), [], none⟩,
   ⟨some 21, (.bin .eql), [.tmp 20, .const (.int .i64 0)], some (19, true), [], none⟩,
   ⟨some 22, .pick, [.tmp 19, .tmp 21, .const (.bool false)], none, [], none⟩] false [0, 2, 3, 4, 5, 6, 7, 8, 9, 22, 34, 48, 52])
   (.cond (.tmp 22) (.skip) (.exit 0)))
   (.seq (.block 1 (.seq (.reg [
   ⟨some 9, (.alloc [(.int .u64 0), (.int .u64 0), (.int .u64 0), (.int .u64 0), (.int .u64 0), (.int .u64 0), (.int .u64 0), (.string ⟨#[]⟩), (.bool false), (.bool false)]), [], none, [], none⟩] false [0, 2, 3, 4, 5, 6, 7, 8, 9, 22, 34, 48, 52])
   (.seq (.seq (.reg [
   ⟨some 26, .mov, [.tmp 0], none, [], none⟩,
   ⟨some 27, .mov, [.tmp 5], none, [], none⟩,
   ⟨some 28, (.call 107), [.tmp 26, .tmp 27], none, [], none⟩,
   ⟨some 25, .mov, [.tmp 28], none, [], none⟩,
   ⟨some 29, (.ext 0), [.tmp 25], none, [], none⟩,
   ⟨some 30, (.ext 1), [.tmp 25], none, [], none⟩,
   ⟨some 31, (.ext 2), [.tmp 25], none, [], none⟩,
   ⟨some 32, (.fad 0), [.tmp 9], none, [], none⟩,
   ⟨none, (.store none), [.tmp 32, .tmp 29], none, [], none⟩,
   ⟨some 5, .mov, [.tmp 30], none, [], none⟩,
   ⟨some 6, .mov, [.tmp 31], none, [], none⟩] false [0, 2, 3, 4, 5, 6, 7, 8, 9, 22, 34, 48, 52])
   (.seq (.reg [
   ⟨some 33, .mov, [.tmp 6], none, [], none⟩,
   ⟨some 34, (.bin .neq), [.tmp 33, .const (.int .i64 0)], none, [], none⟩] false [0, 2, 3, 4, 5, 6, 7, 8, 9, 22, 34, 48, 52])
   (.cond (.tmp 34) (.exit 0) (.skip))))
   (.seq (.reg [
   ⟨some 35, (.fad 8), [.tmp 9], none, [], none⟩,
   ⟨none, (.store none), [.tmp 35, .const (.bool true)], none, [], none⟩] false [0, 2, 3, 4, 5, 6, 7, 8, 9, 22, 34, 48, 52])
   (.seq (.reg [
   ⟨some 37, .mov, [.tmp 0], none, [], none⟩,
   ⟨some 38, .mov, [.tmp 5], none, [], none⟩,
   ⟨some 39, (.call 108), [.tmp 37, .tmp 38], none, [], none⟩,
   ⟨some 36, .mov, [.tmp 39], none, [], none⟩,
   ⟨some 40, (.ext 0), [.tmp 36], none, [], none⟩,
   ⟨some 41, (.ext 1), [.tmp 36], none, [], none⟩,
   ⟨some 42, (.ext 2), [.tmp 36], none, [], none⟩,
   ⟨some 43, (.fad 7), [.tmp 9], none, [], none⟩,
   ⟨none, (.store none), [.tmp 43, .tmp 40], none, [], none⟩,
   ⟨some 5, .mov, [.tmp 41], none, [], none⟩,
   ⟨some 6, .mov, [.tmp 42], none, [], none⟩] false [0, 2, 3, 4, 5, 6, 7, 8, 9, 22, 34, 48, 52])
   (.reg [
   ⟨some 44, .mov, [.tmp 7], none, [], none⟩,
   ⟨some 45, (.load (some 10)), [.tmp 9], none, [], none⟩,
   ⟨some 46, (.bsl 70 10), [.tmp 45], none, [], none⟩,
   ⟨some 47, (.app 70 10 80), [.tmp 44, .tmp 46], none, [], none⟩,
   ⟨some 7, .mov, [.tmp 47], none, [], none⟩] false [0, 2, 3, 4, 5, 6, 7, 8, 9, 22, 34, 48, 52]))))))
   (.reg [
   ⟨some 23, .mov, [.tmp 8], none, [], none⟩,
   ⟨some 24, (.bin .add), [.tmp 23, .const (.int .u64 1)], none, [], none⟩,
   ⟨some 8, .mov, [.tmp 24], none, [], none⟩] false [0, 2, 3, 4, 5, 6, 7, 8, 9, 22, 34, 48, 52]))))))
  (.seq (.block 2 (.seq (.reg [
  ⟨some 49, .mov, [.tmp 6], none, [], none⟩,
  ⟨some 50, (.bin .neq), [.tmp 49, .const (.int .i64 0)], none, [], none⟩,
  ⟨some 48, .mov, [.tmp 50], none, [], none⟩] false [0, 2, 3, 4, 5, 6, 7, 8, 9, 22, 34, 48, 52])
  (.cond (.tmp 48) (.seq (.reg [
  ⟨some 51, .mov, [.tmp 6], none, [], none⟩,
  ⟨some 2, (.nilS 70), [], none, [], none⟩,
  ⟨some 3, .mov, [.tmp 51], none, [], none⟩] false [0, 2, 3, 4, 5, 6, 7, 8, 9, 22, 34, 48, 52])
  (.ret)) (.seq (.reg [
  ⟨some 53, .mov, [.tmp 5], none, [], none⟩,
  ⟨some 54, .mov, [.tmp 0], none, [], none⟩,
  ⟨some 55, .len, [.tmp 54], none, [], none⟩,
  ⟨some 56, (.bin .neq), [.tmp 53, .tmp 55], none, [], none⟩,
  ⟨some 57, .mov, [.tmp 56], none, [], none⟩,
  ⟨some 58, .mov, [.tmp 7], some (57, false), [], none⟩,
  ⟨some 59, (.call 53), [.tmp 58], some (57, false), [], none⟩,
  ⟨some 60, .not, [.tmp 59], some (57, false), [], none⟩,
  ⟨some 61, .pick, [.tmp 57, .const (.bool true), .tmp 60], none, [], none⟩,
  ⟨some 52, .mov, [.tmp 61], none, [], none⟩] false [0, 2, 3, 4, 5, 6, 7, 8, 9, 22, 34, 48, 52])
  (.cond (.tmp 52) (.seq (.reg [
  ⟨some 2, (.nilS 70), [], none, [], none⟩,
  ⟨some 3, .mov, [.const (.int .i64 2)], none, [], none⟩] false [0, 2, 3, 4, 5, 6, 7, 8, 9, 22, 34, 48, 52])
  (.ret)) (.skip))))))
  (.seq (.reg [
  ⟨some 62, .mov, [.tmp 7], none, [], none⟩,
  ⟨some 2, .mov, [.tmp 62], none, [], none⟩,
  ⟨some 3, .mov, [.const (.int .i64 0)], none, [], none⟩] false [0, 2, 3, 4, 5, 6, 7, 8, 9, 22, 34, 48, 52])
  (.ret))))))
def keep65 : List Nat := [0, 2, 3, 4, 5, 6, 7, 8, 9, 22, 34, 48, 52]
theorem fn65 : compFn Try.prog 65 keep65 = some ⟨63, 1, [(2, none), (3, none)], body65⟩ := by kernel_rfl

/- chartroom/chartroomref15.Parse -/
def body66 : AC :=
  .seq (.reg [
  ⟨some 2, (.nilS 75), [], none, [], none⟩,
  ⟨some 3, .mov, [.const (.int .i64 0)], none, [], none⟩] false [0, 2, 3, 4, 5, 6, 7, 8, 9, 10, 11, 12, 13, 21, 27, 36, 46, 63])
  (.seq (.reg [
  ⟨some 15, .mov, [.tmp 0], none, [], none⟩,
  ⟨some 16, (.call 109), [.tmp 15, .const (.int .i64 0)], none, [], none⟩,
  ⟨some 14, .mov, [.tmp 16], none, [], none⟩,
  ⟨some 17, (.ext 0), [.tmp 14], none, [], none⟩,
  ⟨some 18, (.ext 1), [.tmp 14], none, [], none⟩,
  ⟨some 19, (.ext 2), [.tmp 14], none, [], none⟩,
  ⟨some 4, .mov, [.tmp 17], none, [], none⟩,
  ⟨some 5, .mov, [.tmp 18], none, [], none⟩,
  ⟨some 6, .mov, [.tmp 19], none, [], none⟩] false [0, 2, 3, 4, 5, 6, 7, 8, 9, 10, 11, 12, 13, 21, 27, 36, 46, 63])
  (.seq (.seq (.reg [
  ⟨some 20, .mov, [.tmp 6], none, [], none⟩,
  ⟨some 21, (.bin .neq), [.tmp 20, .const (.int .i64 0)], none, [], none⟩] false [0, 2, 3, 4, 5, 6, 7, 8, 9, 10, 11, 12, 13, 21, 27, 36, 46, 63])
  (.cond (.tmp 21) (.seq (.reg [
  ⟨some 22, .mov, [.tmp 6], none, [], none⟩,
  ⟨some 2, (.nilS 75), [], none, [], none⟩,
  ⟨some 3, .mov, [.tmp 22], none, [], none⟩] false [0, 2, 3, 4, 5, 6, 7, 8, 9, 10, 11, 12, 13, 21, 27, 36, 46, 63])
  (.ret)) (.skip)))
  (.seq (.reg [
  ⟨some 7, (.nilS 75), [], none, [], none⟩] false [0, 2, 3, 4, 5, 6, 7, 8, 9, 10, 11, 12, 13, 21, 27, 36, 46, 63])
  (.seq (.block 0 (.loop (.seq (.seq (.reg [
   ⟨some 23, .mov, [.tmp 7], none, [], none⟩,
   ⟨some 24, .len, [.tmp 23], none, [], none⟩,
   ⟨some 25, (.cvi .u64), [.tmp 24], none, [], none⟩,
   ⟨some 26, .mov, [.tmp 4], none, [], none⟩,
   ⟨some 27, (.bin .lss), [.tmp 25, .tmp 26], none, [], none⟩] false [0, 2, 3, 4, 5, 6, 7, 8, 9, 10, 11, 12, 13, 21, 27, 36, 46, 63])
   (.cond (.tmp 27) (.skip) (.exit 0)))
   (.block 1 (.seq (.reg [
   ⟨some 29, .mov, [.tmp 0], none, [], none⟩,
   ⟨some 30, .mov, [.tmp 5], none, [], none⟩,
   ⟨some 31, (.call 109), [.tmp 29, .tmp 30], none, [], none⟩,
   ⟨some 28, .mov, [.tmp 31], none, [], none⟩,
   ⟨some 32, (.ext 0), [.tmp 28], none, [], none⟩,
   ⟨some 33, (.ext 1), [.tmp 28], none, [], none⟩,
   ⟨some 34, (.ext 2), [.tmp 28], none, [], none⟩,
   ⟨some 8, .mov, [.tmp 32], none, [], none⟩,
   ⟨some 9, .mov, [.tmp 33], none, [], none⟩,
   ⟨some 10, .mov, [.tmp 34], none, [], none⟩] false [0, 2, 3, 4, 5, 6, 7, 8, 9, 10, 11, 12, 13, 21, 27, 36, 46, 63])
   (.seq (.seq (.reg [
   ⟨some 35, .mov, [.tmp 10], none, [], none⟩,
   ⟨some 36, (.bin .neq), [.tmp 35, .const (.int .i64 0)], none, [], none⟩] false [0, 2, 3, 4, 5, 6, 7, 8, 9, 10, 11, 12, 13, 21, 27, 36, 46, 63])
   (.cond (.tmp 36) (.seq (.reg [
   ⟨some 37, .mov, [.tmp 10], none, [], none⟩,
   ⟨some 2, (.nilS 75), [], none, [], none⟩,
   ⟨some 3, .mov, [.tmp 37], none, [], none⟩] false [0, 2, 3, 4, 5, 6, 7, 8, 9, 10, 11, 12, 13, 21, 27, 36, 46, 63])
   (.ret)) (.skip)))
   (.seq (.reg [
   ⟨some 39, .mov, [.tmp 0], none, [], none⟩,
   ⟨some 40, .mov, [.tmp 9], none, [], none⟩,
   ⟨some 41, (.call 110), [.tmp 39, .tmp 40], none, [], none⟩,
   ⟨some 38, .mov, [.tmp 41], none, [], none⟩,
   ⟨some 42, (.ext 0), [.tmp 38], none, [], none⟩,
   ⟨some 43, (.ext 1), [.tmp 38], none, [], none⟩,
   ⟨some 44, (.ext 2), [.tmp 38], none, [], none⟩,
   ⟨some 11, .mov, [.tmp 42], none, [], none⟩,
   ⟨some 12, .mov, [.tmp 43], none, [], none⟩,
   ⟨some 13, .mov, [.tmp 44], none, [], none⟩] false [0, 2, 3, 4, 5, 6, 7, 8, 9, 10, 11, 12, 13, 21, 27, 36, 46, 63])
   (.seq (.seq (.reg [
   ⟨some 45, .mov, [.tmp 13], none, [], none⟩,
   ⟨some 46, (.bin .neq), [.tmp 45, .const (.int .i64 0)], none, [], none⟩] false [0, 2, 3, 4, 5, 6, 7, 8, 9, 10, 11, 12, 13, 21, 27, 36, 46, 63])
   (.cond (.tmp 46) (.seq (.reg [
   ⟨some 47, .mov, [.tmp 13], none, [], none⟩,
   ⟨some 2, (.nilS 75), [], none, [], none⟩,
   ⟨some 3, .mov, [.tmp 47], none, [], none⟩] false [0, 2, 3, 4, 5, 6, 7, 8, 9, 10, 11, 12, 13, 21, 27, 36, 46, 63])
   (.ret)) (.skip)))
   (.seq (.reg [
   ⟨some 48, .mov, [.tmp 7], none, [], none⟩,
   ⟨some 49, .mov, [.tmp 8], none, [], none⟩,
   ⟨some 50, .mov, [.tmp 11], none, [], none⟩,
   ⟨some 51, (.bld [(.int .u64 0), (.int .u64 0), (.int .u64 0), (.int .u64 0), (.int .u64 0), (.int .u64 0), (.int .u64 0), (.string ⟨#[]⟩), (.bool false), (.bool false)] [(0, 1), (7, 1), (8, 1)]), [.tmp 49, .tmp 50, .const (.bool true)], none, [], none⟩,
   ⟨some 52, (.bsl 75 10), [.tmp 51], none, [], none⟩,
   ⟨some 53, (.app 75 10 80), [.tmp 48, .tmp 52], none, [], none⟩,
   ⟨some 7, .mov, [.tmp 53], none, [], none⟩] false [0, 2, 3, 4, 5, 6, 7, 8, 9, 10, 11, 12, 13, 21, 27, 36, 46, 63])
   (.reg [
   ⟨some 54, .mov, [.tmp 12], none, [], none⟩,
   ⟨some 5, .mov, [.tmp 54], none, [], none⟩] false [0, 2, 3, 4, 5, 6, 7, 8, 9, 10, 11, 12, 13, 21, 27, 36, 46, 63]))))))))))
  (.seq (.seq (.reg [
  ⟨some 55, .mov, [.tmp 5], none, [], none⟩,
  ⟨some 56, .mov, [.tmp 0], none, [], none⟩,
  ⟨some 57, .len, [.tmp 56], none, [], none⟩,
  ⟨some 58, (.bin .neq), [.tmp 55, .tmp 57], none, [], none⟩,
  ⟨some 59, .mov, [.tmp 58], none, [], none⟩,
  ⟨some 60, .mov, [.tmp 7], some (59, false), [], none⟩,
  ⟨some 61, (.call 54), [.tmp 60], some (59, false), [], none⟩,
  ⟨some 62, .not, [.tmp 61], some (59, false), [], none⟩,
  ⟨some 63, .pick, [.tmp 59, .const (.bool true), .tmp 62], none, [], none⟩] false [0, 2, 3, 4, 5, 6, 7, 8, 9, 10, 11, 12, 13, 21, 27, 36, 46, 63])
  (.cond (.tmp 63) (.seq (.reg [
  ⟨some 2, (.nilS 75), [], none, [], none⟩,
  ⟨some 3, .mov, [.const (.int .i64 2)], none, [], none⟩] false [0, 2, 3, 4, 5, 6, 7, 8, 9, 10, 11, 12, 13, 21, 27, 36, 46, 63])
  (.ret)) (.skip)))
  (.seq (.reg [
  ⟨some 64, .mov, [.tmp 7], none, [], none⟩,
  ⟨some 2, .mov, [.tmp 64], none, [], none⟩,
  ⟨some 3, .mov, [.const (.int .i64 0)], none, [], none⟩] false [0, 2, 3, 4, 5, 6, 7, 8, 9, 10, 11, 12, 13, 21, 27, 36, 46, 63])
  (.ret)))))))
def keep66 : List Nat := [0, 2, 3, 4, 5, 6, 7, 8, 9, 10, 11, 12, 13, 21, 27, 36, 46, 63]
theorem fn66 : compFn Try.prog 66 keep66 = some ⟨65, 1, [(2, none), (3, none)], body66⟩ := by kernel_rfl

/- chartroom/chartroomlaw15.example -/
def body69 : AC :=
  .seq (.reg [
  ⟨some 0, (.nilS 70), [], none, [], none⟩] false [0, 1, 3])
  (.seq (.reg [
  ⟨some 6, (.bld [(.int .u8 0), (.int .i64 0), (.string ⟨#[]⟩)] [(0, 1), (1, 1)]), [.const (.int .u8 1), .const (.int .i64 2)], none, [], none⟩,
  ⟨some 7, (.bld [(.int .u8 0), (.int .i64 0), (.string ⟨#[]⟩)] [(0, 1), (1, 1)]), [.const (.int .u8 3), .const (.int .i64 1)], none, [], none⟩,
  ⟨some 8, (.bsl 183 3), [.tmp 6, .tmp 7], none, [], none⟩,
  ⟨some 9, (.call 126), [.tmp 8], none, [], none⟩,
  ⟨some 5, .mov, [.tmp 9], none, [], none⟩,
  ⟨some 10, (.ext 0), [.tmp 5], none, [], none⟩,
  ⟨some 11, (.ext 1), [.tmp 5], none, [], none⟩,
  ⟨some 1, .mov, [.tmp 10], none, [], none⟩,
  ⟨some 2, .mov, [.tmp 11], none, [], none⟩] false [0, 1, 3])
  (.seq (.reg [
  ⟨some 13, (.bld [(.int .u8 0), (.int .i64 0), (.string ⟨#[]⟩)] [(0, 1), (1, 1)]), [.const (.int .u8 1), .const (.int .i64 2)], none, [], none⟩,
  ⟨some 14, (.bld [(.int .u8 0), (.int .i64 0), (.string ⟨#[]⟩)] [(0, 1), (2, 1)]), [.const (.int .u8 2), .const (.string ⟨#[122]⟩)], none, [], none⟩,
  ⟨some 15, (.bsl 183 3), [.tmp 13, .tmp 14], none, [], none⟩,
  ⟨some 16, (.call 126), [.tmp 15], none, [], none⟩,
  ⟨some 12, .mov, [.tmp 16], none, [], none⟩,
  ⟨some 17, (.ext 0), [.tmp 12], none, [], none⟩,
  ⟨some 18, (.ext 1), [.tmp 12], none, [], none⟩,
  ⟨some 3, .mov, [.tmp 17], none, [], none⟩,
  ⟨some 4, .mov, [.tmp 18], none, [], none⟩] false [0, 1, 3])
  (.seq (.reg [
  ⟨some 19, (.bsl 5 1), [.const (.int .u8 97), .const (.int .u8 98), .const (.int .u8 99)], none, [], none⟩,
  ⟨some 20, (.ex .mark), [.tmp 19], none, [], none⟩,
  ⟨some 21, (.call 70), [.tmp 20], none, [], none⟩,
  ⟨some 22, (.bld [(.int .u64 0), (.int .u64 0), (.int .u64 0), (.int .u64 0), (.int .u64 0), (.int .u64 0), (.int .u64 0), (.string ⟨#[]⟩), (.bool false), (.bool false)] [(0, 1), (5, 2)]), [.const (.int .u64 3), .tmp 21], none, [], none⟩,
  ⟨some 23, .mov, [.tmp 1], none, [], none⟩,
  ⟨some 24, (.call 70), [.tmp 23], none, [], none⟩,
  ⟨some 25, (.bld [(.int .u64 0), (.int .u64 0), (.int .u64 0), (.int .u64 0), (.int .u64 0), (.int .u64 0), (.int .u64 0), (.string ⟨#[]⟩), (.bool false), (.bool false)] [(0, 1), (1, 1), (5, 2)]), [.const (.int .u64 5), .const (.int .u64 3), .tmp 24], none, [], none⟩,
  ⟨some 26, .mov, [.tmp 3], none, [], none⟩,
  ⟨some 27, (.call 70), [.tmp 26], none, [], none⟩,
  ⟨some 28, (.bld [(.int .u64 0), (.int .u64 0), (.int .u64 0), (.int .u64 0), (.int .u64 0), (.int .u64 0), (.int .u64 0), (.string ⟨#[]⟩), (.bool false), (.bool false)] [(0, 1), (1, 1), (5, 2)]), [.const (.int .u64 8), .const (.int .u64 5), .tmp 27], none, [], none⟩,
  ⟨some 29, (.call 70), [.const (.slice none 0 0)], none, [], none⟩,
  ⟨some 30, (.bld [(.int .u64 0), (.int .u64 0), (.int .u64 0), (.int .u64 0), (.int .u64 0), (.int .u64 0), (.int .u64 0), (.string ⟨#[]⟩), (.bool false), (.bool false)] [(0, 1), (5, 2)]), [.const (.int .u64 9), .tmp 29], none, [], none⟩,
  ⟨some 31, (.bsl 70 10), [.tmp 22, .tmp 25, .tmp 28, .tmp 30], none, [], none⟩,
  ⟨some 0, .mov, [.tmp 31], none, [], none⟩] false [0, 1, 3])
  (.ret))))
def keep69 : List Nat := [0, 1, 3]
theorem fn69 : compFn Try.prog 69 keep69 = some ⟨32, 0, [(0, none)], body69⟩ := by kernel_rfl

/- (chartroom/version.Versions).of -/
def body112 : AC :=
  .seq (.reg [
  ⟨some 3, .box, [.tmp 1], none, [], none⟩,
  ⟨some 4, .mov, [.const (.int .i64 0)], none, [], none⟩] false [0, 1, 3, 4])
  (.seq (.reg [
  ⟨some 5, .mov, [.tmp 0], none, [], none⟩,
  ⟨some 6, (.mkf 158), [.tmp 3], none, [], none⟩,
  ⟨some 7, (.call 157), [.tmp 5, .tmp 6], none, [], none⟩,
  ⟨some 4, .mov, [.tmp 7], none, [], none⟩] false [0, 1, 3, 4])
  (.ret))
def keep112 : List Nat := [0, 1, 3, 4]
theorem fn112 : compFn Try.prog 112 keep112 = some ⟨8, 2, [(4, none)], body112⟩ := by kernel_rfl

/- (chartroom/version.Version).base -/
def body113 : AC :=
  .seq (.reg [
  ⟨some 1, .box, [.tmp 0], none, [], none⟩,
  ⟨some 2, .mov, [.const (.int .u64 0)], none, [], none⟩] false [0, 1, 2, 4])
  (.seq (.seq (.reg [
  ⟨some 3, (.fad 8), [.tmp 1], none, [], none⟩,
  ⟨some 4, (.load none), [.tmp 3], none, [], none⟩] false [0, 1, 2, 4])
  (.cond (.tmp 4) (.seq (.reg [
  ⟨some 2, .mov, [.const (.int .u64 0)], none, [], none⟩] false [0, 1, 2, 4])
  (.ret)) (.skip)))
  (.seq (.reg [
  ⟨some 5, (.fad 1), [.tmp 1], none, [], none⟩,
  ⟨some 6, (.load none), [.tmp 5], none, [], none⟩,
  ⟨some 2, .mov, [.tmp 6], none, [], none⟩] false [0, 1, 2, 4])
  (.ret)))
def keep113 : List Nat := [0, 1, 2, 4]
theorem fn113 : compFn Try.prog 113 keep113 = some ⟨7, 1, [(2, none)], body113⟩ := by kernel_rfl

/- slices.Reverse[chartroom/version.Versions,chartroom/version.Version] -/
def body114 : AC :=
  .seq (.reg [
  ⟨some 4, .mov, [.tmp 0], none, [], none⟩,
  ⟨some 5, .len, [.tmp 4], none, [], none⟩,
  ⟨some 6, (.bin .sub), [.tmp 5, .const (.int .i64 1)], none, [], none⟩,
  ⟨some 2, .mov, [.const (.int .i64 0)], none, [], none⟩,
  ⟨some 3, .mov, [.tmp 6], none, [], none⟩] false [0, 2, 3, 9])
  (.block 0 (.loop (.seq (.seq (.reg [
   ⟨some 7, .mov, [.tmp 2], none, [], none⟩,
   ⟨some 8, .mov, [.tmp 3], none, [], none⟩,
   ⟨some 9, (.bin .lss), [.tmp 7, .tmp 8], none, [], none⟩] false [0, 2, 3, 9])
   (.cond (.tmp 9) (.skip) (.exit 0)))
   (.seq (.block 1 (.reg [
   ⟨some 14, .mov, [.tmp 0], none, [], none⟩,
   ⟨some 15, .mov, [.tmp 2], none, [], none⟩,
   ⟨some 16, .mov, [.tmp 0], none, [], none⟩,
   ⟨some 17, .mov, [.tmp 3], none, [], none⟩,
   ⟨some 18, .mov, [.tmp 0], none, [], none⟩,
   ⟨some 19, .mov, [.tmp 3], none, [], none⟩,
   ⟨some 20, (.ixa 70 10), [.tmp 18, .tmp 19], none, [], none⟩,
   ⟨some 21, (.load (some 10)), [.tmp 20], none, [], none⟩,
   ⟨some 22, .mov, [.tmp 0], none, [], none⟩,
   ⟨some 23, .mov, [.tmp 2], none, [], none⟩,
   ⟨some 24, (.ixa 70 10), [.tmp 22, .tmp 23], none, [], none⟩,
   ⟨some 25, (.load (some 10)), [.tmp 24], none, [], none⟩,
   ⟨some 26, (.ixa 70 10), [.tmp 14, .tmp 15], none, [], none⟩,
   ⟨none, (.store (some 10)), [.tmp 26, .tmp 21], none, [], none⟩,
   ⟨some 27, (.ixa 70 10), [.tmp 16, .tmp 17], none, [], none⟩,
   ⟨none, (.store (some 10)), [.tmp 27, .tmp 25], none, [], none⟩] true [0, 2, 3, 9]))
   (.reg [
   ⟨some 10, .mov, [.tmp 2], none, [], none⟩,
   ⟨some 11, (.bin .add), [.tmp 10, .const (.int .i64 1)], none, [], none⟩,
   ⟨some 12, .mov, [.tmp 3], none, [], none⟩,
   ⟨some 13, (.bin .sub), [.tmp 12, .const (.int .i64 1)], none, [], none⟩,
   ⟨some 2, .mov, [.tmp 11], none, [], none⟩,
   ⟨some 3, .mov, [.tmp 13], none, [], none⟩] false [0, 2, 3, 9])))))
def keep114 : List Nat := [0, 2, 3, 9]
theorem fn114 : compFn Try.prog 114 keep114 = some ⟨28, 1, [], body114⟩ := by kernel_rfl

/- chartroom/chartroomref15.plan -/
def body115 : AC :=
  .seq (.reg [
  ⟨some 3, .box, [.tmp 1], none, [], none⟩,
  ⟨some 4, (.nilS 75), [], none, [], none⟩] false [0, 1, 3, 4, 5, 8])
  (.seq (.reg [
  ⟨some 5, (.nilS 75), [], none, [], none⟩] false [0, 1, 3, 4, 5, 8])
  (.seq (.seq (.reg [
  ⟨some 6, (.load (some 10)), [.tmp 3], none, [], none⟩,
  ⟨some 7, (.call 116), [.tmp 6], none, [], none⟩,
  ⟨some 8, (.bin .gtr), [.tmp 7, .const (.int .u64 0)], none, [], none⟩] false [0, 1, 3, 4, 5, 8])
  (.cond (.tmp 8) (.reg [
  ⟨some 9, .mov, [.tmp 0], none, [], none⟩,
  ⟨some 10, .mov, [.tmp 0], none, [], none⟩,
  ⟨some 11, .mov, [.tmp 0], none, [], none⟩,
  ⟨some 12, .mov, [.tmp 0], none, [], none⟩,
  ⟨some 13, .len, [.tmp 12], none, [], none⟩,
  ⟨some 14, (.load (some 10)), [.tmp 3], none, [], none⟩,
  ⟨some 15, (.call 116), [.tmp 14], none, [], none⟩,
  ⟨some 16, (.call 117), [.tmp 11, .tmp 13, .tmp 15], none, [], none⟩,
  ⟨some 17, (.ixa 75 10), [.tmp 10, .tmp 16], none, [], none⟩,
  ⟨some 18, (.load (some 10)), [.tmp 17], none, [], none⟩,
  ⟨some 19, (.call 115), [.tmp 9, .tmp 18], none, [], none⟩,
  ⟨some 5, .mov, [.tmp 19], none, [], none⟩] false [0, 1, 3, 4, 5, 8]) (.skip)))
  (.seq (.reg [
  ⟨some 20, .mov, [.tmp 5], none, [], none⟩,
  ⟨some 21, (.load (some 10)), [.tmp 3], none, [], none⟩,
  ⟨some 22, (.bsl 75 10), [.tmp 21], none, [], none⟩,
  ⟨some 23, (.app 75 10 80), [.tmp 20, .tmp 22], none, [], none⟩,
  ⟨some 4, .mov, [.tmp 23], none, [], none⟩] false [0, 1, 3, 4, 5, 8])
  (.ret))))
def keep115 : List Nat := [0, 1, 3, 4, 5, 8]
theorem fn115 : compFn Try.prog 115 keep115 = some ⟨24, 2, [(4, none)], body115⟩ := by kernel_rfl

/- chartroom/chartroomref15.made -/
def body116 : AC :=
  .seq (.reg [
  ⟨some 1, .box, [.tmp 0], none, [], none⟩,
  ⟨some 2, .mov, [.const (.int .u64 0)], none, [], none⟩] false [0, 1, 2, 4])
  (.seq (.seq (.reg [
  ⟨some 3, (.fad 8), [.tmp 1], none, [], none⟩,
  ⟨some 4, (.load none), [.tmp 3], none, [], none⟩] false [0, 1, 2, 4])
  (.cond (.tmp 4) (.seq (.reg [
  ⟨some 2, .mov, [.const (.int .u64 0)], none, [], none⟩] false [0, 1, 2, 4])
  (.ret)) (.skip)))
  (.seq (.reg [
  ⟨some 5, (.fad 1), [.tmp 1], none, [], none⟩,
  ⟨some 6, (.load none), [.tmp 5], none, [], none⟩,
  ⟨some 2, .mov, [.tmp 6], none, [], none⟩] false [0, 1, 2, 4])
  (.ret)))
def keep116 : List Nat := [0, 1, 2, 4]
theorem fn116 : compFn Try.prog 116 keep116 = some ⟨7, 1, [(2, none)], body116⟩ := by kernel_rfl

/- chartroom/chartroomref15.find -/
def body117 : AC :=
  .seq (.reg [
  ⟨some 6, .mov, [.const (.int .i64 0)], none, [], none⟩] false [0, 1, 2, 6, 7, 10, 19])
  (.seq (.seq (.reg [
  ⟨some 7, .mov, [.const (.int .i64 0)], none, [], none⟩] false [0, 1, 2, 6, 7, 10, 19])
  (.block 0 (.loop (.seq (.seq (.reg [
   ⟨some 8, .mov, [.tmp 7], none, [], none⟩,
   ⟨some 9, .mov, [.tmp 1], none, [], none⟩,
   ⟨some 10, (.bin .lss), [.tmp 8, .tmp 9], none, [], none⟩] false [0, 1, 2, 6, 7, 10, 19])
   (.cond (.tmp 10) (.skip) (.exit 0)))
   (.seq (.block 1 (.seq (.reg [
   ⟨some 13, .mov, [.tmp 0], none, [], none⟩,
   ⟨some 14, .mov, [.tmp 7], none, [], none⟩,
   ⟨some 15, (.ixa 75 10), [.tmp 13, .tmp 14], none, [], none⟩,
   ⟨some 16, (.fad 0), [.tmp 15], none, [], none⟩,
   ⟨some 17, (.load none), [.tmp 16], none, [], none⟩,
   ⟨some 18, .mov, [.tmp 2], none, [], none⟩,
   ⟨some 19, (.bin .eql), [.tmp 17, .tmp 18], none, [], none⟩] false [0, 1, 2, 6, 7, 10, 19])
   (.cond (.tmp 19) (.seq (.reg [
   ⟨some 20, .mov, [.tmp 7], none, [], none⟩,
   ⟨some 6, .mov, [.tmp 20], none, [], none⟩] false [0, 1, 2, 6, 7, 10, 19])
   (.ret)) (.skip))))
   (.reg [
   ⟨some 11, .mov, [.tmp 7], none, [], none⟩,
   ⟨some 12, (.bin .add), [.tmp 11, .const (.int .i64 1)], none, [], none⟩,
   ⟨some 7, .mov, [.tmp 12], none, [], none⟩] false [0, 1, 2, 6, 7, 10, 19]))))))
  (.seq (.reg [
  ⟨some 6, .mov, [.const (.int .i64 (-1))], none, [], none⟩] false [0, 1, 2, 6, 7, 10, 19])
  (.ret)))
def keep117 : List Nat := [0, 1, 2, 6, 7, 10, 19]
theorem fn117 : compFn Try.prog 117 keep117 = some ⟨21, 3, [(6, none)], body117⟩ := by kernel_rfl

/- slices.Clone[chartroom/version.Versions,chartroom/version.Version] -/
def body118 : AC :=
  .seq (.reg [
  ⟨some 2, (.nilS 70), [], none, [], none⟩] false [0, 2, 4])
  (.seq (.seq (.reg [
  ⟨some 3, .mov, [.tmp 0], none, [], none⟩,
  ⟨some 4, (.ex (.isnil false)), [.tmp 3], none, [], none⟩] false [0, 2, 4])
  (.cond (.tmp 4) (.seq (.reg [
  ⟨some 2, (.nilS 70), [], none, [], none⟩] false [0, 2, 4])
  (.ret)) (.skip)))
  (.seq (.reg [
  ⟨some 5, (.bsl 70 10), [], none, [], none⟩,
  ⟨some 6, .mov, [.tmp 0], none, [], none⟩,
  ⟨some 7, (.app 70 10 80), [.tmp 5, .tmp 6], none, [], none⟩,
  ⟨some 2, .mov, [.tmp 7], none, [], none⟩] false [0, 2, 4])
  (.ret)))
def keep118 : List Nat := [0, 2, 4]
theorem fn118 : compFn Try.prog 118 keep118 = some ⟨8, 1, [(2, none)], body118⟩ := by kernel_rfl

/- slices.Contains[[]uint64,uint64] -/
def body119 : AC :=
  .seq (.reg [
  ⟨some 4, .mov, [.const (.bool false)], none, [], none⟩] false [0, 1, 4])
  (.seq (.reg [
  ⟨some 5, .mov, [.tmp 0], none, [], none⟩,
  ⟨some 6, .mov, [.tmp 1], none, [], none⟩,
  ⟨some 7, (.call 159), [.tmp 5, .tmp 6], none, [], none⟩,
  ⟨some 8, (.bin .geq), [.tmp 7, .const (.int .i64 0)], none, [], none⟩,
  ⟨some 4, .mov, [.tmp 8], none, [], none⟩] false [0, 1, 4])
  (.ret))
def keep119 : List Nat := [0, 1, 4]
theorem fn119 : compFn Try.prog 119 keep119 = some ⟨9, 2, [(4, none)], body119⟩ := by kernel_rfl

/- slices.DeleteFunc[chartroom/version.Versions,chartroom/version.Version] -/
def body120 : AC :=
  .seq (.reg [
  ⟨some 4, (.nilS 70), [], none, [], none⟩] false [0, 1, 4, 5, 6, 7, 12, 19, 29])
  (.seq (.reg [
  ⟨some 8, .mov, [.tmp 0], none, [], none⟩,
  ⟨some 9, .mov, [.tmp 1], none, [], none⟩,
  ⟨some 10, (.call 157), [.tmp 8, .tmp 9], none, [], none⟩,
  ⟨some 5, .mov, [.tmp 10], none, [], none⟩] false [0, 1, 4, 5, 6, 7, 12, 19, 29])
  (.seq (.seq (.reg [
  ⟨some 11, .mov, [.tmp 5], none, [], none⟩,
  ⟨some 12, (.bin .eql), [.tmp 11, .const (.int .i64 (-1))], none, [], none⟩] false [0, 1, 4, 5, 6, 7, 12, 19, 29])
  (.cond (.tmp 12) (.seq (.reg [
  ⟨some 13, .mov, [.tmp 0], none, [], none⟩,
  ⟨some 4, .mov, [.tmp 13], none, [], none⟩] false [0, 1, 4, 5, 6, 7, 12, 19, 29])
  (.ret)) (.skip)))
  (.seq (.seq (.reg [
  ⟨some 14, .mov, [.tmp 5], none, [], none⟩,
  ⟨some 15, (.bin .add), [.tmp 14, .const (.int .i64 1)], none, [], none⟩,
  ⟨some 6, .mov, [.tmp 15], none, [], none⟩] false [0, 1, 4, 5, 6, 7, 12, 19, 29])
  (.block 0 (.loop (.seq (.seq (.reg [
   ⟨some 16, .mov, [.tmp 6], none, [], none⟩,
   ⟨some 17, .mov, [.tmp 0], none, [], none⟩,
   ⟨some 18, .len, [.tmp 17], none, [], none⟩,
   ⟨some 19, (.bin .lss), [.tmp 16, .tmp 18], none, [], none⟩] false [0, 1, 4, 5, 6, 7, 12, 19, 29])
   (.cond (.tmp 19) (.skip) (.exit 0)))
   (.seq (.block 1 (.seq (.reg [
   ⟨some 22, .mov, [.tmp 0], none, [], none⟩,
   ⟨some 23, .mov, [.tmp 6], none, [], none⟩,
   ⟨some 24, (.ixa 70 10), [.tmp 22, .tmp 23], none, [], none⟩,
   ⟨some 25, (.load (some 10)), [.tmp 24], none, [], none⟩,
   ⟨some 7, (.alloc [(.int .u64 0), (.int .u64 0), (.int .u64 0), (.int .u64 0), (.int .u64 0), (.int .u64 0), (.int .u64 0), (.string ⟨#[]⟩), (.bool false), (.bool false)]), [], none, [], none⟩,
   ⟨none, (.store (some 10)), [.tmp 7, .tmp 25], none, [], none⟩] false [0, 1, 4, 5, 6, 7, 12, 19, 29])
   (.seq (.reg [
   ⟨some 26, .mov, [.tmp 1], none, [], none⟩,
   ⟨some 27, (.load (some 10)), [.tmp 7], none, [], none⟩,
   ⟨some 28, .calv, [.tmp 26, .tmp 27], none, [], none⟩,
   ⟨some 29, .not, [.tmp 28], none, [], none⟩] false [0, 1, 4, 5, 6, 7, 12, 19, 29])
   (.cond (.tmp 29) (.seq (.reg [
   ⟨some 30, .mov, [.tmp 0], none, [], none⟩,
   ⟨some 31, .mov, [.tmp 5], none, [], none⟩,
   ⟨some 32, (.load (some 10)), [.tmp 7], none, [], none⟩,
   ⟨some 33, (.ixa 70 10), [.tmp 30, .tmp 31], none, [], none⟩,
   ⟨none, (.store (some 10)), [.tmp 33, .tmp 32], none, [], none⟩] false [0, 1, 4, 5, 6, 7, 12, 19, 29])
   (.reg [
   ⟨some 34, .mov, [.tmp 5], none, [], none⟩,
   ⟨some 35, (.bin .add), [.tmp 34, .const (.int .i64 1)], none, [], none⟩,
   ⟨some 5, .mov, [.tmp 35], none, [], none⟩] false [0, 1, 4, 5, 6, 7, 12, 19, 29])) (.skip)))))
   (.reg [
   ⟨some 20, .mov, [.tmp 6], none, [], none⟩,
   ⟨some 21, (.bin .add), [.tmp 20, .const (.int .i64 1)], none, [], none⟩,
   ⟨some 6, .mov, [.tmp 21], none, [], none⟩] false [0, 1, 4, 5, 6, 7, 12, 19, 29]))))))
  (.seq (.reg [
  ⟨some 36, .mov, [.tmp 0], none, [], none⟩,
  ⟨some 37, .mov, [.tmp 5], none, [], none⟩,
  ⟨some 38, (.slc 10 true false), [.tmp 36, .tmp 37], none, [], none⟩,
  ⟨none, (.clr 70 10 [(.int .u64 0), (.int .u64 0), (.int .u64 0), (.int .u64 0), (.int .u64 0), (.int .u64 0), (.int .u64 0), (.string ⟨#[]⟩), (.bool false), (.bool false)]), [.tmp 38], none, [], none⟩] false [0, 1, 4, 5, 6, 7, 12, 19, 29])
  (.seq (.reg [
  ⟨some 39, .mov, [.tmp 0], none, [], none⟩,
  ⟨some 40, .mov, [.tmp 5], none, [], none⟩,
  ⟨some 41, (.slc 10 false true), [.tmp 39, .tmp 40], none, [], none⟩,
  ⟨some 4, .mov, [.tmp 41], none, [], none⟩] false [0, 1, 4, 5, 6, 7, 12, 19, 29])
  (.ret))))))
def keep120 : List Nat := [0, 1, 4, 5, 6, 7, 12, 19, 29]
theorem fn120 : compFn Try.prog 120 keep120 = some ⟨42, 2, [(4, none)], body120⟩ := by kernel_rfl

/- (chartroom/version.Versions).Forget$1 -/
def body121 : AC :=
  .seq (.reg [
  ⟨some 2, .box, [.tmp 0], none, [], none⟩,
  ⟨some 3, .mov, [.const (.bool false)], none, [], none⟩] false [0, 1, 2, 3, 5])
  (.seq (.reg [
  ⟨some 7, (.load none), [.tmp 1], none, [], none⟩,
  ⟨some 8, (.fad 0), [.tmp 2], none, [], none⟩,
  ⟨some 9, (.load none), [.tmp 8], none, [], none⟩,
  ⟨some 10, (.ex (.mget 9 (.agg #[]) true)), [.tmp 7, .tmp 9], none, [], none⟩,
  ⟨some 6, .mov, [.tmp 10], none, [], none⟩,
  ⟨some 11, (.ext 0), [.tmp 6], none, [], none⟩,
  ⟨some 12, (.ext 1), [.tmp 6], none, [], none⟩,
  ⟨some 4, (.alloc []), [], none, [], none⟩,
  ⟨none, (.store (some 0)), [.tmp 4, .tmp 11], none, [], none⟩,
  ⟨some 5, .mov, [.tmp 12], none, [], none⟩] false [0, 1, 2, 3, 5])
  (.seq (.reg [
  ⟨some 13, .mov, [.tmp 5], none, [], none⟩,
  ⟨some 14, .not, [.tmp 13], none, [], none⟩,
  ⟨some 3, .mov, [.tmp 14], none, [], none⟩] false [0, 1, 2, 3, 5])
  (.ret)))
def keep121 : List Nat := [0, 1, 2, 3, 5]
theorem fn121 : compFn Try.prog 121 keep121 = some ⟨15, 2, [(3, none)], body121⟩ := by kernel_rfl

/- chartroom/version.plain -/
def body122 : AC :=
  .seq (.reg [
  ⟨some 4, (.alloc [(.int .u64 0), (.int .u64 0), (.int .u64 0), (.int .u64 0), (.int .u64 0), (.int .u64 0), (.int .u64 0), (.string ⟨#[]⟩), (.bool false), (.bool false)]), [], none, [], none⟩] false [0, 1, 4])
  (.seq (.reg [
  ⟨some 5, .mov, [.tmp 0], none, [], none⟩,
  ⟨some 6, .mov, [.tmp 1], none, [], none⟩,
  ⟨some 7, (.bld [(.int .u64 0), (.int .u64 0), (.int .u64 0), (.int .u64 0), (.int .u64 0), (.int .u64 0), (.int .u64 0), (.string ⟨#[]⟩), (.bool false), (.bool false)] [(0, 1), (7, 1), (8, 1)]), [.tmp 5, .tmp 6, .const (.bool true)], none, [], none⟩,
  ⟨none, (.store (some 10)), [.tmp 4, .tmp 7], none, [], none⟩] false [0, 1, 4])
  (.ret))
def keep122 : List Nat := [0, 1, 4]
theorem fn122 : compFn Try.prog 122 keep122 = some ⟨8, 2, [(4, some (some 10))], body122⟩ := by kernel_rfl

/- chartroom/chartroomref15.kept -/
def body123 : AC :=
  .seq (.reg [
  ⟨some 4, .mov, [.const (.bool false)], none, [], none⟩] false [0, 1, 4, 5, 9, 17])
  (.seq (.seq (.reg [
  ⟨some 5, .mov, [.const (.int .i64 0)], none, [], none⟩] false [0, 1, 4, 5, 9, 17])
  (.block 0 (.loop (.seq (.seq (.reg [
   ⟨some 6, .mov, [.tmp 5], none, [], none⟩,
   ⟨some 7, .mov, [.tmp 0], none, [], none⟩,
   ⟨some 8, .len, [.tmp 7], none, [], none⟩,
   ⟨some 9, (.bin .lss), [.tmp 6, .tmp 8], none, [], none⟩] false [0, 1, 4, 5, 9, 17])
   (.cond (.tmp 9) (.skip) (.exit 0)))
   (.seq (.block 1 (.seq (.reg [
   ⟨some 12, .mov, [.tmp 0], none, [], none⟩,
   ⟨some 13, .mov, [.tmp 5], none, [], none⟩,
   ⟨some 14, (.ixa 24 1), [.tmp 12, .tmp 13], none, [], none⟩,
   ⟨some 15, (.load none), [.tmp 14], none, [], none⟩,
   ⟨some 16, .mov, [.tmp 1], none, [], none⟩,
   ⟨some 17, (.bin .eql), [.tmp 15, .tmp 16], none, [], none⟩] false [0, 1, 4, 5, 9, 17])
   (.cond (.tmp 17) (.seq (.reg [
   ⟨some 4, .mov, [.const (.bool true)], none, [], none⟩] false [0, 1, 4, 5, 9, 17])
   (.ret)) (.skip))))
   (.reg [
   ⟨some 10, .mov, [.tmp 5], none, [], none⟩,
   ⟨some 11, (.bin .add), [.tmp 10, .const (.int .i64 1)], none, [], none⟩,
   ⟨some 5, .mov, [.tmp 11], none, [], none⟩] false [0, 1, 4, 5, 9, 17]))))))
  (.seq (.reg [
  ⟨some 4, .mov, [.const (.bool false)], none, [], none⟩] false [0, 1, 4, 5, 9, 17])
  (.ret)))
def keep123 : List Nat := [0, 1, 4, 5, 9, 17]
theorem fn123 : compFn Try.prog 123 keep123 = some ⟨18, 2, [(4, none)], body123⟩ := by kernel_rfl

/- chartroom/version.Put$1 -/
def body124 : AC :=
  .seq (.reg [
  ⟨some 1, .box, [.tmp 0], none, [], none⟩,
  ⟨some 2, .mov, [.const (.bool false)], none, [], none⟩] false [0, 1, 2])
  (.seq (.reg [
  ⟨some 3, (.load (some 10)), [.tmp 1], none, [8], none⟩,
  ⟨some 4, (.fad 0), [.tmp 1], none, [], none⟩,
  ⟨some 5, (.load none), [.tmp 4], none, [], none⟩,
  ⟨some 6, (.fad 7), [.tmp 1], none, [], none⟩,
  ⟨some 7, (.load none), [.tmp 6], none, [], none⟩,
  ⟨some 8, (.call 122), [.tmp 5, .tmp 7], none, [], none⟩,
  ⟨some 9, (.eqs true [9, 9, 9, 9, 9, 9, 9, 1, 0, 0]), [.tmp 3, .tmp 8], none, [], none⟩,
  ⟨some 2, .mov, [.tmp 9], none, [], none⟩] true [0, 1, 2])
  (.ret))
def keep124 : List Nat := [0, 1, 2]
theorem fn124 : compFn Try.prog 124 keep124 = some ⟨10, 1, [(2, none)], body124⟩ := by kernel_rfl

/- slices.ContainsFunc[chartroom/version.Versions,chartroom/version.Version] -/
def body125 : AC :=
  .seq (.reg [
  ⟨some 4, .mov, [.const (.bool false)], none, [], none⟩] false [0, 1, 4])
  (.seq (.reg [
  ⟨some 5, .mov, [.tmp 0], none, [], none⟩,
  ⟨some 6, .mov, [.tmp 1], none, [], none⟩,
  ⟨some 7, (.call 157), [.tmp 5, .tmp 6], none, [], none⟩,
  ⟨some 8, (.bin .geq), [.tmp 7, .const (.int .i64 0)], none, [], none⟩,
  ⟨some 4, .mov, [.tmp 8], none, [], none⟩] false [0, 1, 4])
  (.ret))
def keep125 : List Nat := [0, 1, 4]
theorem fn125 : compFn Try.prog 125 keep125 = some ⟨9, 2, [(4, none)], body125⟩ := by kernel_rfl

/- slices.IndexFunc[chartroom/version.Versions,chartroom/version.Version] -/
def body157 : AC :=
  .seq (.reg [
  ⟨some 4, .mov, [.const (.int .i64 0)], none, [], none⟩] false [0, 1, 4, 5, 7, 8, 9, 16])
  (.seq (.seq (.reg [
  ⟨some 6, .mov, [.tmp 0], none, [], none⟩,
  ⟨some 7, .len, [.tmp 6], none, [], none⟩,
  ⟨some 8, .mov, [.const (.int .i64 0)], none, [], none⟩] false [0, 1, 4, 5, 7, 8, 9, 16])
  (.block 0 (.loop (.seq (.reg [
   ⟨some 9, (.bin .lss), [.tmp 8, .tmp 7], none, [], none⟩] false [0, 1, 4, 5, 7, 8, 9, 16])
   (.seq (.cond (.tmp 9) (.skip) (.exit 0))
   (.seq (.block 1 (.seq (.reg [
   ⟨some 10, .mov, [.tmp 8], none, [], none⟩,
   ⟨some 5, .mov, [.tmp 10], none, [], none⟩] false [0, 1, 4, 5, 7, 8, 9, 16])
   (.seq (.reg [
   ⟨some 11, .mov, [.tmp 1], none, [], none⟩,
   ⟨some 12, .mov, [.tmp 0], none, [], none⟩,
   ⟨some 13, .mov, [.tmp 5], none, [], none⟩,
   ⟨some 14, (.ixa 70 10), [.tmp 12, .tmp 13], none, [], none⟩,
   ⟨some 15, (.load (some 10)), [.tmp 14], none, [], none⟩,
   ⟨some 16, .calv, [.tmp 11, .tmp 15], none, [], none⟩] false [0, 1, 4, 5, 7, 8, 9, 16])
   (.cond (.tmp 16) (.seq (.reg [
   ⟨some 17, .mov, [.tmp 5], none, [], none⟩,
   ⟨some 4, .mov, [.tmp 17], none, [], none⟩] false [0, 1, 4, 5, 7, 8, 9, 16])
   (.ret)) (.skip)))))
   (.reg [
   ⟨some 18, (.bin .add), [.tmp 8, .const (.int .i64 1)], none, [], none⟩,
   ⟨some 8, .mov, [.tmp 18], none, [], none⟩] false [0, 1, 4, 5, 7, 8, 9, 16])))))))
  (.seq (.reg [
  ⟨some 4, .mov, [.const (.int .i64 (-1))], none, [], none⟩] false [0, 1, 4, 5, 7, 8, 9, 16])
  (.ret)))
def keep157 : List Nat := [0, 1, 4, 5, 7, 8, 9, 16]
theorem fn157 : compFn Try.prog 157 keep157 = some ⟨19, 2, [(4, none)], body157⟩ := by kernel_rfl

/- (chartroom/version.Versions).of$1 -/
def body158 : AC :=
  .seq (.reg [
  ⟨some 2, .box, [.tmp 0], none, [], none⟩,
  ⟨some 3, .mov, [.const (.bool false)], none, [], none⟩] false [0, 1, 2, 3])
  (.seq (.reg [
  ⟨some 4, (.fad 0), [.tmp 2], none, [], none⟩,
  ⟨some 5, (.load none), [.tmp 4], none, [], none⟩,
  ⟨some 6, (.load none), [.tmp 1], none, [], none⟩,
  ⟨some 7, (.bin .eql), [.tmp 5, .tmp 6], none, [], none⟩,
  ⟨some 3, .mov, [.tmp 7], none, [], none⟩] false [0, 1, 2, 3])
  (.ret))
def keep158 : List Nat := [0, 1, 2, 3]
theorem fn158 : compFn Try.prog 158 keep158 = some ⟨8, 2, [(3, none)], body158⟩ := by kernel_rfl

/- slices.Index[[]uint64,uint64] -/
def body159 : AC :=
  .seq (.reg [
  ⟨some 4, .mov, [.const (.int .i64 0)], none, [], none⟩] false [0, 1, 4, 5, 7, 8, 9, 16])
  (.seq (.seq (.reg [
  ⟨some 6, .mov, [.tmp 0], none, [], none⟩,
  ⟨some 7, .len, [.tmp 6], none, [], none⟩,
  ⟨some 8, .mov, [.const (.int .i64 0)], none, [], none⟩] false [0, 1, 4, 5, 7, 8, 9, 16])
  (.block 0 (.loop (.seq (.reg [
   ⟨some 9, (.bin .lss), [.tmp 8, .tmp 7], none, [], none⟩] false [0, 1, 4, 5, 7, 8, 9, 16])
   (.seq (.cond (.tmp 9) (.skip) (.exit 0))
   (.seq (.block 1 (.seq (.reg [
   ⟨some 10, .mov, [.tmp 8], none, [], none⟩,
   ⟨some 5, .mov, [.tmp 10], none, [], none⟩] false [0, 1, 4, 5, 7, 8, 9, 16])
   (.seq (.reg [
   ⟨some 11, .mov, [.tmp 1], none, [], none⟩,
   ⟨some 12, .mov, [.tmp 0], none, [], none⟩,
   ⟨some 13, .mov, [.tmp 5], none, [], none⟩,
   ⟨some 14, (.ixa 24 1), [.tmp 12, .tmp 13], none, [], none⟩,
   ⟨some 15, (.load none), [.tmp 14], none, [], none⟩,
   ⟨some 16, (.bin .eql), [.tmp 11, .tmp 15], none, [], none⟩] false [0, 1, 4, 5, 7, 8, 9, 16])
   (.cond (.tmp 16) (.seq (.reg [
   ⟨some 17, .mov, [.tmp 5], none, [], none⟩,
   ⟨some 4, .mov, [.tmp 17], none, [], none⟩] false [0, 1, 4, 5, 7, 8, 9, 16])
   (.ret)) (.skip)))))
   (.reg [
   ⟨some 18, (.bin .add), [.tmp 8, .const (.int .i64 1)], none, [], none⟩,
   ⟨some 8, .mov, [.tmp 18], none, [], none⟩] false [0, 1, 4, 5, 7, 8, 9, 16])))))))
  (.seq (.reg [
  ⟨some 4, .mov, [.const (.int .i64 (-1))], none, [], none⟩] false [0, 1, 4, 5, 7, 8, 9, 16])
  (.ret)))
def keep159 : List Nat := [0, 1, 4, 5, 7, 8, 9, 16]
theorem fn159 : compFn Try.prog 159 keep159 = some ⟨19, 2, [(4, none)], body159⟩ := by kernel_rfl

end Go.Proofs.Ytfpmjcdcpicmaaa.Ab
