/- The code of the functions, in the abstract machine's form (printed by wip/mk.py). -/
import Derived.Test.YtfpmjcdcpicmaaaAb21
import Derived.Test.YtfpmjcdcpicmaaaChecked
namespace Go.Proofs.Ytfpmjcdcpicmaaa.Ab
open Go Go.RowKit
set_option maxRecDepth 100000

/- chartroom/chartroomlaw15.payloads -/
def body67 : AC :=
  .seq (.reg [
  ⟨some 0, (.nilS 54), [], none, [], none⟩] false [0, 1, 3])
  (.seq (.reg [
  ⟨some 6, (.bld [(.int .u8 0), (.int .i64 0), (.string ⟨#[]⟩)] [(0, 1), (1, 1)]), [.const (.int .u8 1), .const (.int .i64 2)], none, [], none⟩,
  ⟨some 7, (.bld [(.int .u8 0), (.int .i64 0), (.string ⟨#[]⟩)] [(0, 1), (1, 1)]), [.const (.int .u8 3), .const (.int .i64 1)], none, [], none⟩,
  ⟨some 8, (.bsl 183 3), [.tmp 6, .tmp 7], none, [], none⟩,
  ⟨some 9, (.call 126), [.tmp 8], none, [], none⟩,
  ⟨some 5, .mov, [.tmp 9], none, [], none⟩,
  ⟨some 10, (.ext 0), [.tmp 5], none, [], none⟩,
  ⟨some 11, (.ext 1), [.tmp 5], none, [], none⟩,
  ⟨some 1, .mov, [.tmp 10], none, [], none⟩,
  ⟨some 2, .mov, [.tmp 11], none, [], none⟩] false [0, 1, 3])
  (.seq (.reg [
  ⟨some 13, (.bld [(.int .u8 0), (.int .i64 0), (.string ⟨#[]⟩)] [(0, 1), (1, 1)]), [.const (.int .u8 1), .const (.int .i64 2)], none, [], none⟩,
  ⟨some 14, (.bld [(.int .u8 0), (.int .i64 0), (.string ⟨#[]⟩)] [(0, 1), (2, 1)]), [.const (.int .u8 2), .const (.string ⟨#[122]⟩)], none, [], none⟩,
  ⟨some 15, (.bsl 183 3), [.tmp 13, .tmp 14], none, [], none⟩,
  ⟨some 16, (.call 126), [.tmp 15], none, [], none⟩,
  ⟨some 12, .mov, [.tmp 16], none, [], none⟩,
  ⟨some 17, (.ext 0), [.tmp 12], none, [], none⟩,
  ⟨some 18, (.ext 1), [.tmp 12], none, [], none⟩,
  ⟨some 3, .mov, [.tmp 17], none, [], none⟩,
  ⟨some 4, .mov, [.tmp 18], none, [], none⟩] false [0, 1, 3])
  (.seq (.reg [
  ⟨some 19, (.bsl 5 1), [.const (.int .u8 97), .const (.int .u8 98), .const (.int .u8 99)], none, [], none⟩,
  ⟨some 20, (.ex .mark), [.tmp 19], none, [], none⟩,
  ⟨some 21, .mov, [.tmp 1], none, [], none⟩,
  ⟨some 22, .mov, [.tmp 3], none, [], none⟩,
  ⟨some 23, (.bsl 54 1), [.tmp 20, .tmp 21, .tmp 22], none, [], none⟩,
  ⟨some 0, .mov, [.tmp 23], none, [], none⟩] false [0, 1, 3])
  (.ret))))
def keep67 : List Nat := [0, 1, 3]
theorem fn67 : compFn Try.prog 67 keep67 = some ⟨24, 0, [(0, none)], body67⟩ := by kernel_rfl

/- chartroom/version.Says -/
def body111 : AC :=
  .seq (.reg [
  ⟨some 4, .mov, [.const (.string ⟨#[]⟩)], none, [], none⟩,
  ⟨some 5, .mov, [.const (.int .i64 0)], none, [], none⟩] false [0, 1, 4, 5, 6, 7, 8, 9, 10, 11, 21, 22, 23, 24, 25, 33, 38, 44, 55, 64])
  (.seq (.seq (.reg [
  ⟨some 12, .mov, [.tmp 0], none, [], none⟩,
  ⟨some 13, .len, [.tmp 12], none, [], none⟩,
  ⟨some 14, (.bin .eql), [.tmp 13, .const (.int .i64 0)], none, [], none⟩,
  ⟨some 15, .mov, [.tmp 14], none, [], none⟩,
  ⟨some 16, .mov, [.tmp 1], some (15, false), [], none⟩,
  ⟨some 17, .len, [.tmp 16], some (15, false), [], none⟩,
  ⟨some 18, .mov, [.tmp 0], some (15, false), [], none⟩,
  ⟨some 19, .len, [.tmp 18], some (15, false), [], none⟩,
  ⟨some 20, (.bin .neq), [.tmp 17, .tmp 19], some (15, false), [], none⟩,
  ⟨some 21, .pick, [.tmp 15, .const (.bool true), .tmp 20], none, [], none⟩] false [0, 1, 4, 5, 6, 7, 8, 9, 10, 11, 21, 22, 23, 24, 25, 33, 38, 44, 55, 64])
  (.cond (.tmp 21) (.seq (.reg [
  ⟨some 4, .mov, [.const (.string ⟨#[]⟩)], none, [], none⟩,
  ⟨some 5, .mov, [.const (.int .i64 2)], none, [], none⟩] false [0, 1, 4, 5, 6, 7, 8, 9, 10, 11, 21, 22, 23, 24, 25, 33, 38, 44, 55, 64])
  (.ret)) (.skip)))
  (.seq (.reg [
  ⟨some 6, .mov, [.const (.string ⟨#[]⟩)], none, [], none⟩] false [0, 1, 4, 5, 6, 7, 8, 9, 10, 11, 21, 22, 23, 24, 25, 33, 38, 44, 55, 64])
  (.seq (.seq (.reg [
  ⟨some 22, .mov, [.tmp 0], none, [], none⟩,
  ⟨some 23, .len, [.tmp 22], none, [], none⟩,
  ⟨some 24, .mov, [.const (.int .i64 0)], none, [], none⟩] false [0, 1, 4, 5, 6, 7, 8, 9, 10, 11, 21, 22, 23, 24, 25, 33, 38, 44, 55, 64])
  (.block 0 (.loop (.seq (.reg [
   ⟨some 25, (.bin .lss), [.tmp 24, .tmp 23], none, [], none⟩] false [0, 1, 4, 5, 6, 7, 8, 9, 10, 11, 21, 22, 23, 24, 25, 33, 38, 44, 55, 64])
   (.seq (.cond (.tmp 25) (.skip) (.exit 0))
   (.seq (.block 1 (.seq (.reg [
   ⟨some 26, .mov, [.tmp 24], none, [], none⟩,
   ⟨some 27, (.ixa 70 10), [.tmp 22, .tmp 24], none, [], none⟩,
   ⟨some 28, (.load (some 10)), [.tmp 27], none, [], none⟩,
   ⟨some 8, (.alloc [(.int .u64 0), (.int .u64 0), (.int .u64 0), (.int .u64 0), (.int .u64 0), (.int .u64 0), (.int .u64 0), (.string ⟨#[]⟩), (.bool false), (.bool false)]), [], none, [], none⟩,
   ⟨some 7, .mov, [.tmp 26], none, [], none⟩,
   ⟨none, (.store (some 10)), [.tmp 8, .tmp 28], none, [], none⟩] false [0, 1, 4, 5, 6, 7, 8, 9, 10, 11, 21, 22, 23, 24, 25, 33, 38, 44, 55, 64])
   (.seq (.reg [
   ⟨some 29, .mov, [.tmp 1], none, [], none⟩,
   ⟨some 30, .mov, [.tmp 7], none, [], none⟩,
   ⟨some 31, (.ixa 54 1), [.tmp 29, .tmp 30], none, [], none⟩,
   ⟨some 32, (.load none), [.tmp 31], none, [], none⟩,
   ⟨some 9, .mov, [.tmp 32], none, [], none⟩] false [0, 1, 4, 5, 6, 7, 8, 9, 10, 11, 21, 22, 23, 24, 25, 33, 38, 44, 55, 64])
   (.seq (.block 2 (.seq (.reg [
   ⟨some 34, (.fad 8), [.tmp 8], none, [], none⟩,
   ⟨some 35, (.load none), [.tmp 34], none, [], none⟩,
   ⟨some 33, .mov, [.tmp 35], none, [], none⟩] false [0, 1, 4, 5, 6, 7, 8, 9, 10, 11, 21, 22, 23, 24, 25, 33, 38, 44, 55, 64])
   (.cond (.tmp 33) (.seq (.reg [
   ⟨some 36, (.fad 7), [.tmp 8], none, [], none⟩,
   ⟨some 37, (.load none), [.tmp 36], none, [], none⟩,
   ⟨some 6, .mov, [.tmp 37], none, [], none⟩] false [0, 1, 4, 5, 6, 7, 8, 9, 10, 11, 21, 22, 23, 24, 25, 33, 38, 44, 55, 64])
   (.exit 1)) (.seq (.reg [
   ⟨some 39, .mov, [.tmp 9], none, [], none⟩,
   ⟨some 40, (.call 70), [.tmp 39], none, [], none⟩,
   ⟨some 41, (.fad 5), [.tmp 8], none, [40], none⟩,
   ⟨some 42, (.load (some 2)), [.tmp 41], none, [40], none⟩,
   ⟨some 43, (.eqs true [9, 9]), [.tmp 40, .tmp 42], none, [], none⟩,
   ⟨some 38, .mov, [.tmp 43], none, [], none⟩] true [0, 1, 4, 5, 6, 7, 8, 9, 10, 11, 21, 22, 23, 24, 25, 33, 38, 44, 55, 64])
   (.cond (.tmp 38) (.seq (.reg [
   ⟨some 4, .mov, [.const (.string ⟨#[]⟩)], none, [], none⟩,
   ⟨some 5, .mov, [.const (.int .i64 110)], none, [], none⟩] false [0, 1, 4, 5, 6, 7, 8, 9, 10, 11, 21, 22, 23, 24, 25, 33, 38, 44, 55, 64])
   (.ret)) (.seq (.reg [
   ⟨some 45, .mov, [.tmp 7], none, [], none⟩,
   ⟨some 46, (.bin .eql), [.tmp 45, .const (.int .i64 0)], none, [], none⟩,
   ⟨some 44, .mov, [.tmp 46], none, [], none⟩] false [0, 1, 4, 5, 6, 7, 8, 9, 10, 11, 21, 22, 23, 24, 25, 33, 38, 44, 55, 64])
   (.cond (.tmp 44) (.seq (.reg [
   ⟨some 47, .mov, [.tmp 9], none, [], none⟩,
   ⟨some 48, .btoS, [.tmp 47], none, [], none⟩,
   ⟨some 6, .mov, [.tmp 48], none, [], none⟩] false [0, 1, 4, 5, 6, 7, 8, 9, 10, 11, 21, 22, 23, 24, 25, 33, 38, 44, 55, 64])
   (.exit 1)) (.skip))))))))
   (.seq (.reg [
   ⟨some 50, .mov, [.tmp 9], none, [], none⟩,
   ⟨some 51, (.call 155), [.tmp 50], none, [], none⟩,
   ⟨some 49, .mov, [.tmp 51], none, [], none⟩,
   ⟨some 52, (.ext 0), [.tmp 49], none, [], none⟩,
   ⟨some 53, (.ext 1), [.tmp 49], none, [], none⟩,
   ⟨some 10, .mov, [.tmp 52], none, [], none⟩,
   ⟨some 11, .mov, [.tmp 53], none, [], none⟩] false [0, 1, 4, 5, 6, 7, 8, 9, 10, 11, 21, 22, 23, 24, 25, 33, 38, 44, 55, 64])
   (.seq (.seq (.reg [
   ⟨some 54, .mov, [.tmp 11], none, [], none⟩,
   ⟨some 55, (.bin .neq), [.tmp 54, .const (.int .i64 0)], none, [], none⟩] false [0, 1, 4, 5, 6, 7, 8, 9, 10, 11, 21, 22, 23, 24, 25, 33, 38, 44, 55, 64])
   (.cond (.tmp 55) (.seq (.reg [
   ⟨some 56, .mov, [.tmp 11], none, [], none⟩,
   ⟨some 4, .mov, [.const (.string ⟨#[]⟩)], none, [], none⟩,
   ⟨some 5, .mov, [.tmp 56], none, [], none⟩] false [0, 1, 4, 5, 6, 7, 8, 9, 10, 11, 21, 22, 23, 24, 25, 33, 38, 44, 55, 64])
   (.ret)) (.skip)))
   (.seq (.reg [
   ⟨some 58, .mov, [.tmp 6], none, [], none⟩,
   ⟨some 59, .mov, [.tmp 10], none, [], none⟩,
   ⟨some 60, (.call 156), [.tmp 58, .tmp 59], none, [], none⟩,
   ⟨some 57, .mov, [.tmp 60], none, [], none⟩,
   ⟨some 61, (.ext 0), [.tmp 57], none, [], none⟩,
   ⟨some 62, (.ext 1), [.tmp 57], none, [], none⟩,
   ⟨some 6, .mov, [.tmp 61], none, [], none⟩,
   ⟨some 11, .mov, [.tmp 62], none, [], none⟩] false [0, 1, 4, 5, 6, 7, 8, 9, 10, 11, 21, 22, 23, 24, 25, 33, 38, 44, 55, 64])
   (.seq (.reg [
   ⟨some 63, .mov, [.tmp 11], none, [], none⟩,
   ⟨some 64, (.bin .neq), [.tmp 63, .const (.int .i64 0)], none, [], none⟩] false [0, 1, 4, 5, 6, 7, 8, 9, 10, 11, 21, 22, 23, 24, 25, 33, 38, 44, 55, 64])
   (.cond (.tmp 64) (.seq (.reg [
   ⟨some 65, .mov, [.tmp 11], none, [], none⟩,
   ⟨some 4, .mov, [.const (.string ⟨#[]⟩)], none, [], none⟩,
   ⟨some 5, .mov, [.tmp 65], none, [], none⟩] false [0, 1, 4, 5, 6, 7, 8, 9, 10, 11, 21, 22, 23, 24, 25, 33, 38, 44, 55, 64])
   (.ret)) (.skip))))))))))
   (.reg [
   ⟨some 66, (.bin .add), [.tmp 24, .const (.int .i64 1)], none, [], none⟩,
   ⟨some 24, .mov, [.tmp 66], none, [], none⟩] false [0, 1, 4, 5, 6, 7, 8, 9, 10, 11, 21, 22, 23, 24, 25, 33, 38, 44, 55, 64])))))))
  (.seq (.reg [
  ⟨some 67, .mov, [.tmp 6], none, [], none⟩,
  ⟨some 4, .mov, [.tmp 67], none, [], none⟩,
  ⟨some 5, .mov, [.const (.int .i64 0)], none, [], none⟩] false [0, 1, 4, 5, 6, 7, 8, 9, 10, 11, 21, 22, 23, 24, 25, 33, 38, 44, 55, 64])
  (.ret)))))
def keep111 : List Nat := [0, 1, 4, 5, 6, 7, 8, 9, 10, 11, 21, 22, 23, 24, 25, 33, 38, 44, 55, 64]
theorem fn111 : compFn Try.prog 111 keep111 = some ⟨68, 2, [(4, none), (5, none)], body111⟩ := by kernel_rfl

end Go.Proofs.Ytfpmjcdcpicmaaa.Ab
