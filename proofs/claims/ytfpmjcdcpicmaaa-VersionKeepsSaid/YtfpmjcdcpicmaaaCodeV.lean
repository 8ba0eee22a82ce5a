/- The code of the functions, in the abstract machine's form (printed by wip/mk.py). -/
import Derived.Test.YtfpmjcdcpicmaaaAb21
import Derived.Test.YtfpmjcdcpicmaaaChecked
namespace Go.Proofs.Ytfpmjcdcpicmaaa.Ab
open Go Go.RowKit
set_option maxRecDepth 100000

/- chartroom/varint.Put -/
def body103 : AC :=
  .seq (.reg [
  ⟨some 2, (.nilS 5), [], none, [], none⟩] false [0, 2, 3, 5])
  (.seq (.reg [
  ⟨some 3, (.nilS 5), [], none, [], none⟩] false [0, 2, 3, 5])
  (.seq (.block 0 (.loop (.seq (.seq (.reg [
   ⟨some 4, .mov, [.tmp 0], none, [], none⟩,
   ⟨some 5, (.bin .geq), [.tmp 4, .const (.int .u64 128)], none, [], none⟩] false [0, 2, 3, 5])
   (.cond (.tmp 5) (.skip) (.exit 0)))
   (.seq (.block 1 (.reg [
   ⟨some 8, .mov, [.tmp 3], none, [], none⟩,
   ⟨some 9, .mov, [.tmp 0], none, [], none⟩,
   ⟨some 10, (.cvi .u8), [.tmp 9], none, [], none⟩,
   ⟨some 11, (.bin .or), [.tmp 10, .const (.int .u8 128)], none, [], none⟩,
   ⟨some 12, (.bsl 5 1), [.tmp 11], none, [], none⟩,
   ⟨some 13, (.app 5 1 1), [.tmp 8, .tmp 12], none, [], none⟩,
   ⟨some 3, .mov, [.tmp 13], none, [], none⟩] false [0, 2, 3, 5]))
   (.reg [
   ⟨some 6, .mov, [.tmp 0], none, [], none⟩,
   ⟨some 7, (.bin .shr), [.tmp 6, .const (.int .u64 7)], none, [], none⟩,
   ⟨some 0, .mov, [.tmp 7], none, [], none⟩] false [0, 2, 3, 5])))))
  (.seq (.reg [
  ⟨some 14, .mov, [.tmp 3], none, [], none⟩,
  ⟨some 15, .mov, [.tmp 0], none, [], none⟩,
  ⟨some 16, (.cvi .u8), [.tmp 15], none, [], none⟩,
  ⟨some 17, (.bsl 5 1), [.tmp 16], none, [], none⟩,
  ⟨some 18, (.app 5 1 1), [.tmp 14, .tmp 17], none, [], none⟩,
  ⟨some 2, .mov, [.tmp 18], none, [], none⟩] false [0, 2, 3, 5])
  (.ret))))
def keep103 : List Nat := [0, 2, 3, 5]
theorem fn103 : compFn Try.prog 103 keep103 = some ⟨19, 1, [(2, none)], body103⟩ := by kernel_rfl

/- chartroom/varint.Text -/
def body104 : AC :=
  .seq (.reg [
  ⟨some 2, (.nilS 5), [], none, [], none⟩] false [0, 2])
  (.seq (.reg [
  ⟨some 3, .mov, [.tmp 0], none, [], none⟩,
  ⟨some 4, .slen, [.tmp 3], none, [], none⟩,
  ⟨some 5, (.cvi .u64), [.tmp 4], none, [], none⟩,
  ⟨some 6, (.call 103), [.tmp 5], none, [], none⟩,
  ⟨some 7, .mov, [.tmp 0], none, [], none⟩,
  ⟨some 8, (.app 5 1 1), [.tmp 6, .tmp 7], none, [], none⟩,
  ⟨some 2, .mov, [.tmp 8], none, [], none⟩] false [0, 2])
  (.ret))
def keep104 : List Nat := [0, 2]
theorem fn104 : compFn Try.prog 104 keep104 = some ⟨9, 1, [(2, none)], body104⟩ := by kernel_rfl

/- chartroom/chartroomref01.Put -/
def body105 : AC :=
  .seq (.reg [
  ⟨some 2, (.nilS 5), [], none, [], none⟩] false [0, 2, 3, 4, 5, 6, 11, 20])
  (.seq (.reg [
  ⟨some 3, (.nilS 5), [], none, [], none⟩] false [0, 2, 3, 4, 5, 6, 11, 20])
  (.seq (.reg [
  ⟨some 7, .mov, [.tmp 0], none, [], none⟩,
  ⟨some 8, (.call 153), [.tmp 7], none, [], none⟩,
  ⟨some 4, .mov, [.tmp 8], none, [], none⟩] false [0, 2, 3, 4, 5, 6, 11, 20])
  (.seq (.seq (.reg [
  ⟨some 5, .mov, [.const (.int .i64 0)], none, [], none⟩] false [0, 2, 3, 4, 5, 6, 11, 20])
  (.block 0 (.loop (.seq (.seq (.reg [
   ⟨some 9, .mov, [.tmp 5], none, [], none⟩,
   ⟨some 10, .mov, [.tmp 4], none, [], none⟩,
   ⟨some 11, (.bin .lss), [.tmp 9, .tmp 10], none, [], none⟩] false [0, 2, 3, 4, 5, 6, 11, 20])
   (.cond (.tmp 11) (.skip) (.exit 0)))
   (.seq (.block 1 (.seq (.reg [
   ⟨some 14, .mov, [.tmp 0], none, [], none⟩,
   ⟨some 15, (.bin .rem), [.tmp 14, .const (.int .u64 128)], none, [], none⟩,
   ⟨some 16, (.cvi .u8), [.tmp 15], none, [], none⟩,
   ⟨some 6, .mov, [.tmp 16], none, [], none⟩] false [0, 2, 3, 4, 5, 6, 11, 20])
   (.seq (.seq (.reg [
   ⟨some 17, .mov, [.tmp 5], none, [], none⟩,
   ⟨some 18, (.bin .add), [.tmp 17, .const (.int .i64 1)], none, [], none⟩,
   ⟨some 19, .mov, [.tmp 4], none, [], none⟩,
   ⟨some 20, (.bin .lss), [.tmp 18, .tmp 19], none, [], none⟩] false [0, 2, 3, 4, 5, 6, 11, 20])
   (.cond (.tmp 20) (.reg [
   ⟨some 21, .mov, [.tmp 6], none, [], none⟩,
   ⟨some 22, (.bin .add), [.tmp 21, .const (.int .u8 128)], none, [], none⟩,
   ⟨some 6, .mov, [.tmp 22], none, [], none⟩] false [0, 2, 3, 4, 5, 6, 11, 20]) (.skip)))
   (.seq (.reg [
   ⟨some 23, .mov, [.tmp 3], none, [], none⟩,
   ⟨some 24, .mov, [.tmp 6], none, [], none⟩,
   ⟨some 25, (.bsl 5 1), [.tmp 24], none, [], none⟩,
   ⟨some 26, (.app 5 1 1), [.tmp 23, .tmp 25], none, [], none⟩,
   ⟨some 3, .mov, [.tmp 26], none, [], none⟩] false [0, 2, 3, 4, 5, 6, 11, 20])
   (.reg [
   ⟨some 27, .mov, [.tmp 0], none, [], none⟩,
   ⟨some 28, (.bin .quo), [.tmp 27, .const (.int .u64 128)], none, [], none⟩,
   ⟨some 0, .mov, [.tmp 28], none, [], none⟩] false [0, 2, 3, 4, 5, 6, 11, 20])))))
   (.reg [
   ⟨some 12, .mov, [.tmp 5], none, [], none⟩,
   ⟨some 13, (.bin .add), [.tmp 12, .const (.int .i64 1)], none, [], none⟩,
   ⟨some 5, .mov, [.tmp 13], none, [], none⟩] false [0, 2, 3, 4, 5, 6, 11, 20]))))))
  (.seq (.reg [
  ⟨some 29, .mov, [.tmp 3], none, [], none⟩,
  ⟨some 2, .mov, [.tmp 29], none, [], none⟩] false [0, 2, 3, 4, 5, 6, 11, 20])
  (.ret)))))
def keep105 : List Nat := [0, 2, 3, 4, 5, 6, 11, 20]
theorem fn105 : compFn Try.prog 105 keep105 = some ⟨30, 1, [(2, none)], body105⟩ := by kernel_rfl

/- chartroom/chartroomref01.Text -/
def body106 : AC :=
  .seq (.reg [
  ⟨some 2, (.nilS 5), [], none, [], none⟩] false [0, 2, 3, 4, 12])
  (.seq (.reg [
  ⟨some 5, .mov, [.tmp 0], none, [], none⟩,
  ⟨some 6, .slen, [.tmp 5], none, [], none⟩,
  ⟨some 7, (.cvi .u64), [.tmp 6], none, [], none⟩,
  ⟨some 8, (.call 105), [.tmp 7], none, [], none⟩,
  ⟨some 3, .mov, [.tmp 8], none, [], none⟩] false [0, 2, 3, 4, 12])
  (.seq (.seq (.reg [
  ⟨some 4, .mov, [.const (.int .i64 0)], none, [], none⟩] false [0, 2, 3, 4, 12])
  (.block 0 (.loop (.seq (.seq (.reg [
   ⟨some 9, .mov, [.tmp 4], none, [], none⟩,
   ⟨some 10, .mov, [.tmp 0], none, [], none⟩,
   ⟨some 11, .slen, [.tmp 10], none, [], none⟩,
   ⟨some 12, (.bin .lss), [.tmp 9, .tmp 11], none, [], none⟩] false [0, 2, 3, 4, 12])
   (.cond (.tmp 12) (.skip) (.exit 0)))
   (.seq (.block 1 (.reg [
   ⟨some 15, .mov, [.tmp 3], none, [], none⟩,
   ⟨some 16, .mov, [.tmp 0], none, [], none⟩,
   ⟨some 17, .mov, [.tmp 4], none, [], none⟩,
   ⟨some 18, .sidx, [.tmp 16, .tmp 17], none, [], none⟩,
   ⟨some 19, (.bsl 5 1), [.tmp 18], none, [], none⟩,
   ⟨some 20, (.app 5 1 1), [.tmp 15, .tmp 19], none, [], none⟩,
   ⟨some 3, .mov, [.tmp 20], none, [], none⟩] false [0, 2, 3, 4, 12]))
   (.reg [
   ⟨some 13, .mov, [.tmp 4], none, [], none⟩,
   ⟨some 14, (.bin .add), [.tmp 13, .const (.int .i64 1)], none, [], none⟩,
   ⟨some 4, .mov, [.tmp 14], none, [], none⟩] false [0, 2, 3, 4, 12]))))))
  (.seq (.reg [
  ⟨some 21, .mov, [.tmp 3], none, [], none⟩,
  ⟨some 2, .mov, [.tmp 21], none, [], none⟩] false [0, 2, 3, 4, 12])
  (.ret))))
def keep106 : List Nat := [0, 2, 3, 4, 12]
theorem fn106 : compFn Try.prog 106 keep106 = some ⟨22, 1, [(2, none)], body106⟩ := by kernel_rfl

/- chartroom/varint.Take -/
def body107 : AC :=
  .seq (.reg [
  ⟨some 4, .mov, [.const (.int .u64 0)], none, [], none⟩,
  ⟨some 5, .mov, [.const (.int .i64 0)], none, [], none⟩,
  ⟨some 6, .mov, [.const (.int .i64 0)], none, [], none⟩] false [0, 1, 4, 5, 6, 7, 8, 9, 17, 21, 22, 23, 24, 30, 54])
  (.seq (.seq (.reg [
  ⟨some 10, .mov, [.tmp 1], none, [], none⟩,
  ⟨some 11, (.bin .lss), [.tmp 10, .const (.int .i64 0)], none, [], none⟩,
  ⟨some 12, .mov, [.tmp 11], none, [], none⟩,
  ⟨some 13, .mov, [.tmp 1], some (12, false), [], none⟩,
  ⟨some 14, .mov, [.tmp 0], some (12, false), [], none⟩,
  ⟨some 15, .len, [.tmp 14], some (12, false), [], none⟩,
  ⟨some 16, (.bin .geq), [.tmp 13, .tmp 15], some (12, false), [], none⟩,
  ⟨some 17, .pick, [.tmp 12, .const (.bool true), .tmp 16], none, [], none⟩] false [0, 1, 4, 5, 6, 7, 8, 9, 17, 21, 22, 23, 24, 30, 54])
  (.cond (.tmp 17) (.seq (.reg [
  ⟨some 18, .mov, [.tmp 1], none, [], none⟩,
  ⟨some 4, .mov, [.const (.int .u64 0)], none, [], none⟩,
  ⟨some 5, .mov, [.tmp 18], none, [], none⟩,
  ⟨some 6, .mov, [.const (.int .i64 10)], none, [], none⟩] false [0, 1, 4, 5, 6, 7, 8, 9, 17, 21, 22, 23, 24, 30, 54])
  (.ret)) (.skip)))
  (.seq (.reg [
  ⟨some 6, .mov, [.const (.int .i64 10)], none, [], none⟩] false [0, 1, 4, 5, 6, 7, 8, 9, 17, 21, 22, 23, 24, 30, 54])
  (.seq (.skip)
  (.seq (.seq (.reg [
  ⟨some 19, .mov, [.tmp 0], none, [], none⟩,
  ⟨some 20, .mov, [.tmp 1], none, [], none⟩,
  ⟨some 21, (.slc 1 true false), [.tmp 19, .tmp 20], none, [], none⟩,
  ⟨some 22, .len, [.tmp 21], none, [], none⟩,
  ⟨some 23, .mov, [.const (.int .i64 0)], none, [], none⟩] false [0, 1, 4, 5, 6, 7, 8, 9, 17, 21, 22, 23, 24, 30, 54])
  (.block 0 (.loop (.seq (.reg [
   ⟨some 24, (.bin .lss), [.tmp 23, .tmp 22], none, [], none⟩] false [0, 1, 4, 5, 6, 7, 8, 9, 17, 21, 22, 23, 24, 30, 54])
   (.seq (.cond (.tmp 24) (.skip) (.exit 0))
   (.seq (.block 1 (.seq (.reg [
   ⟨some 25, .mov, [.tmp 23], none, [], none⟩,
   ⟨some 26, (.ixa 5 1), [.tmp 21, .tmp 23], none, [], none⟩,
   ⟨some 27, (.load none), [.tmp 26], none, [], none⟩,
   ⟨some 7, .mov, [.tmp 25], none, [], none⟩,
   ⟨some 8, .mov, [.tmp 27], none, [], none⟩] false [0, 1, 4, 5, 6, 7, 8, 9, 17, 21, 22, 23, 24, 30, 54])
   (.seq (.reg [
   ⟨some 28, .mov, [.tmp 8], none, [], none⟩,
   ⟨some 29, (.bin .lss), [.tmp 28, .const (.int .u8 128)], none, [], none⟩,
   ⟨some 9, .mov, [.tmp 29], none, [], none⟩] false [0, 1, 4, 5, 6, 7, 8, 9, 17, 21, 22, 23, 24, 30, 54])
   (.seq (.block 2 (.seq (.seq (.reg [
   ⟨some 31, .mov, [.tmp 7], none, [], none⟩,
   ⟨some 32, (.bin .eql), [.tmp 31, .const (.int .i64 9)], none, [], none⟩,
   ⟨some 33, .mov, [.tmp 32], none, [], none⟩,
   ⟨some 34, .mov, [.tmp 8], some (33, true), [], none⟩,
   ⟨some 35, (.bin .gtr), [.tmp 34, .const (.int .u8 1)], some (33, true), [], none⟩,
   ⟨some 36, .pick, [.tmp 33, .tmp 35, .const (.bool false)], none, [], none⟩,
   ⟨some 30, .mov, [.tmp 36], none, [], none⟩] false [0, 1, 4, 5, 6, 7, 8, 9, 17, 21, 22, 23, 24, 30, 54])
   (.cond (.tmp 30) (.skip) (.reg [
   ⟨some 37, .mov, [.tmp 9], none, [], none⟩,
   ⟨some 38, .mov, [.tmp 37], none, [], none⟩,
   ⟨some 39, .mov, [.tmp 8], some (38, true), [], none⟩,
   ⟨some 40, (.bin .eql), [.tmp 39, .const (.int .u8 0)], some (38, true), [], none⟩,
   ⟨some 41, .pick, [.tmp 38, .tmp 40, .const (.bool false)], none, [], none⟩,
   ⟨some 42, .mov, [.tmp 41], none, [], none⟩,
   ⟨some 43, .mov, [.tmp 7], some (42, true), [], none⟩,
   ⟨some 44, (.bin .gtr), [.tmp 43, .const (.int .i64 0)], some (42, true), [], none⟩,
   ⟨some 45, .pick, [.tmp 42, .tmp 44, .const (.bool false)], none, [], none⟩,
   ⟨some 30, .mov, [.tmp 45], none, [], none⟩] false [0, 1, 4, 5, 6, 7, 8, 9, 17, 21, 22, 23, 24, 30, 54])))
   (.cond (.tmp 30) (.seq (.reg [
   ⟨some 6, .mov, [.const (.int .i64 11)], none, [], none⟩] false [0, 1, 4, 5, 6, 7, 8, 9, 17, 21, 22, 23, 24, 30, 54])
   (.exit 0)) (.skip))))
   (.seq (.reg [
   ⟨some 46, .mov, [.tmp 4], none, [], none⟩,
   ⟨some 47, .mov, [.tmp 8], none, [], none⟩,
   ⟨some 48, (.bin .andNot), [.tmp 47, .const (.int .u8 128)], none, [], none⟩,
   ⟨some 49, (.cvi .u64), [.tmp 48], none, [], none⟩,
   ⟨some 50, .mov, [.tmp 7], none, [], none⟩,
   ⟨some 51, (.bin .mul), [.const (.int .i64 7), .tmp 50], none, [], none⟩,
   ⟨some 52, (.bin .shl), [.tmp 49, .tmp 51], none, [], none⟩,
   ⟨some 53, (.bin .or), [.tmp 46, .tmp 52], none, [], none⟩,
   ⟨some 4, .mov, [.tmp 53], none, [], none⟩] false [0, 1, 4, 5, 6, 7, 8, 9, 17, 21, 22, 23, 24, 30, 54])
   (.seq (.reg [
   ⟨some 54, .mov, [.tmp 9], none, [], none⟩] false [0, 1, 4, 5, 6, 7, 8, 9, 17, 21, 22, 23, 24, 30, 54])
   (.cond (.tmp 54) (.seq (.reg [
   ⟨some 55, .mov, [.tmp 4], none, [], none⟩,
   ⟨some 56, .mov, [.tmp 1], none, [], none⟩,
   ⟨some 57, .mov, [.tmp 7], none, [], none⟩,
   ⟨some 58, (.bin .add), [.tmp 56, .tmp 57], none, [], none⟩,
   ⟨some 59, (.bin .add), [.tmp 58, .const (.int .i64 1)], none, [], none⟩,
   ⟨some 4, .mov, [.tmp 55], none, [], none⟩,
   ⟨some 5, .mov, [.tmp 59], none, [], none⟩,
   ⟨some 6, .mov, [.const (.int .i64 0)], none, [], none⟩] false [0, 1, 4, 5, 6, 7, 8, 9, 17, 21, 22, 23, 24, 30, 54])
   (.ret)) (.skip))))))))
   (.reg [
   ⟨some 60, (.bin .add), [.tmp 23, .const (.int .i64 1)], none, [], none⟩,
   ⟨some 23, .mov, [.tmp 60], none, [], none⟩] false [0, 1, 4, 5, 6, 7, 8, 9, 17, 21, 22, 23, 24, 30, 54])))))))
  (.seq (.reg [
  ⟨some 61, .mov, [.tmp 1], none, [], none⟩,
  ⟨some 62, .mov, [.tmp 6], none, [], none⟩,
  ⟨some 4, .mov, [.const (.int .u64 0)], none, [], none⟩,
  ⟨some 5, .mov, [.tmp 61], none, [], none⟩,
  ⟨some 6, .mov, [.tmp 62], none, [], none⟩] false [0, 1, 4, 5, 6, 7, 8, 9, 17, 21, 22, 23, 24, 30, 54])
  (.ret))))))
def keep107 : List Nat := [0, 1, 4, 5, 6, 7, 8, 9, 17, 21, 22, 23, 24, 30, 54]
theorem fn107 : compFn Try.prog 107 keep107 = some ⟨63, 2, [(4, none), (5, none), (6, none)], body107⟩ := by kernel_rfl

/- chartroom/varint.TakeText -/
def body108 : AC :=
  .seq (.reg [
  ⟨some 4, .mov, [.const (.string ⟨#[]⟩)], none, [], none⟩,
  ⟨some 5, .mov, [.const (.int .i64 0)], none, [], none⟩,
  ⟨some 6, .mov, [.const (.int .i64 0)], none, [], none⟩] false [0, 1, 4, 5, 6, 7, 15, 20])
  (.seq (.reg [
  ⟨some 9, .mov, [.tmp 0], none, [], none⟩,
  ⟨some 10, .mov, [.tmp 1], none, [], none⟩,
  ⟨some 11, (.call 107), [.tmp 9, .tmp 10], none, [], none⟩,
  ⟨some 8, .mov, [.tmp 11], none, [], none⟩,
  ⟨some 12, (.ext 0), [.tmp 8], none, [], none⟩,
  ⟨some 13, (.ext 1), [.tmp 8], none, [], none⟩,
  ⟨some 14, (.ext 2), [.tmp 8], none, [], none⟩,
  ⟨some 7, .mov, [.tmp 12], none, [], none⟩,
  ⟨some 5, .mov, [.tmp 13], none, [], none⟩,
  ⟨some 6, .mov, [.tmp 14], none, [], none⟩] false [0, 1, 4, 5, 6, 7, 15, 20])
  (.seq (.block 0 (.seq (.reg [
  ⟨some 16, .mov, [.tmp 6], none, [], none⟩,
  ⟨some 17, (.bin .neq), [.tmp 16, .const (.int .i64 0)], none, [], none⟩,
  ⟨some 15, .mov, [.tmp 17], none, [], none⟩] false [0, 1, 4, 5, 6, 7, 15, 20])
  (.cond (.tmp 15) (.seq (.reg [
  ⟨some 18, .mov, [.tmp 1], none, [], none⟩,
  ⟨some 19, .mov, [.tmp 6], none, [], none⟩,
  ⟨some 4, .mov, [.const (.string ⟨#[]⟩)], none, [], none⟩,
  ⟨some 5, .mov, [.tmp 18], none, [], none⟩,
  ⟨some 6, .mov, [.tmp 19], none, [], none⟩] false [0, 1, 4, 5, 6, 7, 15, 20])
  (.ret)) (.seq (.reg [
  ⟨some 21, .mov, [.tmp 7], none, [], none⟩,
  ⟨some 22, .mov, [.tmp 0], none, [], none⟩,
  ⟨some 23, .len, [.tmp 22], none, [], none⟩,
  ⟨some 24, .mov, [.tmp 5], none, [], none⟩,
  ⟨some 25, (.bin .sub), [.tmp 23, .tmp 24], none, [], none⟩,
  ⟨some 26, (.cvi .u64), [.tmp 25], none, [], none⟩,
  ⟨some 27, (.bin .gtr), [.tmp 21, .tmp 26], none, [], none⟩,
  ⟨some 20, .mov, [.tmp 27], none, [], none⟩] false [0, 1, 4, 5, 6, 7, 15, 20])
  (.cond (.tmp 20) (.seq (.reg [
  ⟨some 28, .mov, [.tmp 1], none, [], none⟩,
  ⟨some 4, .mov, [.const (.string ⟨#[]⟩)], none, [], none⟩,
  ⟨some 5, .mov, [.tmp 28], none, [], none⟩,
  ⟨some 6, .mov, [.const (.int .i64 10)], none, [], none⟩] false [0, 1, 4, 5, 6, 7, 15, 20])
  (.ret)) (.skip))))))
  (.seq (.reg [
  ⟨some 29, .mov, [.tmp 0], none, [], none⟩,
  ⟨some 30, .mov, [.tmp 5], none, [], none⟩,
  ⟨some 31, .mov, [.tmp 5], none, [], none⟩,
  ⟨some 32, .mov, [.tmp 7], none, [], none⟩,
  ⟨some 33, (.cvi .i64), [.tmp 32], none, [], none⟩,
  ⟨some 34, (.bin .add), [.tmp 31, .tmp 33], none, [], none⟩,
  ⟨some 35, (.slc 1 true true), [.tmp 29, .tmp 30, .tmp 34], none, [], none⟩,
  ⟨some 36, .btoS, [.tmp 35], none, [], none⟩,
  ⟨some 37, .mov, [.tmp 5], none, [], none⟩,
  ⟨some 38, .mov, [.tmp 7], none, [], none⟩,
  ⟨some 39, (.cvi .i64), [.tmp 38], none, [], none⟩,
  ⟨some 40, (.bin .add), [.tmp 37, .tmp 39], none, [], none⟩,
  ⟨some 4, .mov, [.tmp 36], none, [], none⟩,
  ⟨some 5, .mov, [.tmp 40], none, [], none⟩,
  ⟨some 6, .mov, [.const (.int .i64 0)], none, [], none⟩] false [0, 1, 4, 5, 6, 7, 15, 20])
  (.ret))))
def keep108 : List Nat := [0, 1, 4, 5, 6, 7, 15, 20]
theorem fn108 : compFn Try.prog 108 keep108 = some ⟨41, 2, [(4, none), (5, none), (6, none)], body108⟩ := by kernel_rfl

/- chartroom/chartroomref01.Take -/
def body109 : AC :=
  .seq (.reg [
  ⟨some 4, .mov, [.const (.int .u64 0)], none, [], none⟩,
  ⟨some 5, .mov, [.const (.int .i64 0)], none, [], none⟩,
  ⟨some 6, .mov, [.const (.int .i64 0)], none, [], none⟩] false [0, 1, 4, 5, 6, 7, 8, 9, 10, 18, 21, 29, 46, 55, 69])
  (.seq (.seq (.reg [
  ⟨some 11, .mov, [.tmp 1], none, [], none⟩,
  ⟨some 12, (.bin .lss), [.tmp 11, .const (.int .i64 0)], none, [], none⟩,
  ⟨some 13, .mov, [.tmp 12], none, [], none⟩,
  ⟨some 14, .mov, [.tmp 1], some (13, false), [], none⟩,
  ⟨some 15, .mov, [.tmp 0], some (13, false), [], none⟩,
  ⟨some 16, .len, [.tmp 15], some (13, false), [], none⟩,
  ⟨some 17, (.bin .geq), [.tmp 14, .tmp 16], some (13, false), [], none⟩,
  ⟨some 18, .pick, [.tmp 13, .const (.bool true), .tmp 17], none, [], none⟩] false [0, 1, 4, 5, 6, 7, 8, 9, 10, 18, 21, 29, 46, 55, 69])
  (.cond (.tmp 18) (.seq (.reg [
  ⟨some 19, .mov, [.tmp 1], none, [], none⟩,
  ⟨some 4, .mov, [.const (.int .u64 0)], none, [], none⟩,
  ⟨some 5, .mov, [.tmp 19], none, [], none⟩,
  ⟨some 6, .mov, [.const (.int .i64 10)], none, [], none⟩] false [0, 1, 4, 5, 6, 7, 8, 9, 10, 18, 21, 29, 46, 55, 69])
  (.ret)) (.skip)))
  (.seq (.reg [
  ⟨some 7, .mov, [.const (.int .u64 0)], none, [], none⟩] false [0, 1, 4, 5, 6, 7, 8, 9, 10, 18, 21, 29, 46, 55, 69])
  (.seq (.seq (.reg [
  ⟨some 8, .mov, [.const (.int .i64 0)], none, [], none⟩] false [0, 1, 4, 5, 6, 7, 8, 9, 10, 18, 21, 29, 46, 55, 69])
  (.block 0 (.loop (.seq (.seq (.reg [
   ⟨some 20, .mov, [.tmp 8], none, [], none⟩,
   ⟨some 21, (.bin .lss), [.tmp 20, .const (.int .i64 10)], none, [], none⟩] false [0, 1, 4, 5, 6, 7, 8, 9, 10, 18, 21, 29, 46, 55, 69])
   (.cond (.tmp 21) (.skip) (.exit 0)))
   (.seq (.block 1 (.seq (.seq (.reg [
   ⟨some 24, .mov, [.tmp 1], none, [], none⟩,
   ⟨some 25, .mov, [.tmp 8], none, [], none⟩,
   ⟨some 26, (.bin .add), [.tmp 24, .tmp 25], none, [], none⟩,
   ⟨some 27, .mov, [.tmp 0], none, [], none⟩,
   ⟨some 28, .len, [.tmp 27], none, [], none⟩,
   ⟨some 29, (.bin .geq), [.tmp 26, .tmp 28], none, [], none⟩] false [0, 1, 4, 5, 6, 7, 8, 9, 10, 18, 21, 29, 46, 55, 69])
   (.cond (.tmp 29) (.seq (.reg [
   ⟨some 30, .mov, [.tmp 1], none, [], none⟩,
   ⟨some 4, .mov, [.const (.int .u64 0)], none, [], none⟩,
   ⟨some 5, .mov, [.tmp 30], none, [], none⟩,
   ⟨some 6, .mov, [.const (.int .i64 10)], none, [], none⟩] false [0, 1, 4, 5, 6, 7, 8, 9, 10, 18, 21, 29, 46, 55, 69])
   (.ret)) (.skip)))
   (.seq (.reg [
   ⟨some 31, .mov, [.tmp 0], none, [], none⟩,
   ⟨some 32, .mov, [.tmp 1], none, [], none⟩,
   ⟨some 33, .mov, [.tmp 8], none, [], none⟩,
   ⟨some 34, (.bin .add), [.tmp 32, .tmp 33], none, [], none⟩,
   ⟨some 35, (.ixa 5 1), [.tmp 31, .tmp 34], none, [], none⟩,
   ⟨some 36, (.load none), [.tmp 35], none, [], none⟩,
   ⟨some 37, (.cvi .u64), [.tmp 36], none, [], none⟩,
   ⟨some 9, .mov, [.tmp 37], none, [], none⟩] false [0, 1, 4, 5, 6, 7, 8, 9, 10, 18, 21, 29, 46, 55, 69])
   (.seq (.reg [
   ⟨some 38, .mov, [.tmp 8], none, [], none⟩,
   ⟨some 39, (.bin .mul), [.const (.int .i64 7), .tmp 38], none, [], none⟩,
   ⟨some 40, (.bin .shl), [.const (.int .u64 1), .tmp 39], none, [], none⟩,
   ⟨some 10, .mov, [.tmp 40], none, [], none⟩] false [0, 1, 4, 5, 6, 7, 8, 9, 10, 18, 21, 29, 46, 55, 69])
   (.seq (.seq (.reg [
   ⟨some 41, .mov, [.tmp 8], none, [], none⟩,
   ⟨some 42, (.bin .eql), [.tmp 41, .const (.int .i64 9)], none, [], none⟩,
   ⟨some 43, .mov, [.tmp 42], none, [], none⟩,
   ⟨some 44, .mov, [.tmp 9], some (43, true), [], none⟩,
   ⟨some 45, (.bin .gtr), [.tmp 44, .const (.int .u64 1)], some (43, true), [], none⟩,
   ⟨some 46, .pick, [.tmp 43, .tmp 45, .const (.bool false)], none, [], none⟩] false [0, 1, 4, 5, 6, 7, 8, 9, 10, 18, 21, 29, 46, 55, 69])
   (.cond (.tmp 46) (.seq (.reg [
   ⟨some 47, .mov, [.tmp 1], none, [], none⟩,
   ⟨some 4, .mov, [.const (.int .u64 0)], none, [], none⟩,
   ⟨some 5, .mov, [.tmp 47], none, [], none⟩,
   ⟨some 6, .mov, [.const (.int .i64 11)], none, [], none⟩] false [0, 1, 4, 5, 6, 7, 8, 9, 10, 18, 21, 29, 46, 55, 69])
   (.ret)) (.skip)))
   (.seq (.reg [
   ⟨some 48, .mov, [.tmp 7], none, [], none⟩,
   ⟨some 49, .mov, [.tmp 9], none, [], none⟩,
   ⟨some 50, (.bin .rem), [.tmp 49, .const (.int .u64 128)], none, [], none⟩,
   ⟨some 51, .mov, [.tmp 10], none, [], none⟩,
   ⟨some 52, (.bin .mul), [.tmp 50, .tmp 51], none, [], none⟩,
   ⟨some 53, (.bin .add), [.tmp 48, .tmp 52], none, [], none⟩,
   ⟨some 7, .mov, [.tmp 53], none, [], none⟩] false [0, 1, 4, 5, 6, 7, 8, 9, 10, 18, 21, 29, 46, 55, 69])
   (.seq (.reg [
   ⟨some 54, .mov, [.tmp 9], none, [], none⟩,
   ⟨some 55, (.bin .lss), [.tmp 54, .const (.int .u64 128)], none, [], none⟩] false [0, 1, 4, 5, 6, 7, 8, 9, 10, 18, 21, 29, 46, 55, 69])
   (.cond (.tmp 55) (.seq (.seq (.reg [
   ⟨some 56, .mov, [.tmp 0], none, [], none⟩,
   ⟨some 57, .mov, [.tmp 1], none, [], none⟩,
   ⟨some 58, .mov, [.tmp 7], none, [], none⟩,
   ⟨some 59, (.call 105), [.tmp 58], none, [], none⟩,
   ⟨some 60, (.call 154), [.tmp 56, .tmp 57, .tmp 59], none, [], none⟩,
   ⟨some 61, .not, [.tmp 60], none, [], none⟩,
   ⟨some 62, .mov, [.tmp 61], none, [], none⟩,
   ⟨some 63, .mov, [.tmp 8], some (62, false), [], none⟩,
   ⟨some 64, (.bin .add), [.tmp 63, .const (.int .i64 1)], some (62, false), [], none⟩,
   ⟨some 65, .mov, [.tmp 7], some (62, false), [], none⟩,
   ⟨some 66, (.call 105), [.tmp 65], some (62, false), [], none⟩,
   ⟨some 67, .len, [.tmp 66], some (62, false), [], none⟩,
   ⟨some 68, (.bin .neq), [.tmp 64, .tmp 67], some (62, false), [], none⟩,
   ⟨some 69, .pick, [.tmp 62, .const (.bool true), .tmp 68], none, [], none⟩] false [0, 1, 4, 5, 6, 7, 8, 9, 10, 18, 21, 29, 46, 55, 69])
   (.cond (.tmp 69) (.seq (.reg [
   ⟨some 70, .mov, [.tmp 1], none, [], none⟩,
   ⟨some 4, .mov, [.const (.int .u64 0)], none, [], none⟩,
   ⟨some 5, .mov, [.tmp 70], none, [], none⟩,
   ⟨some 6, .mov, [.const (.int .i64 11)], none, [], none⟩] false [0, 1, 4, 5, 6, 7, 8, 9, 10, 18, 21, 29, 46, 55, 69])
   (.ret)) (.skip)))
   (.seq (.reg [
   ⟨some 71, .mov, [.tmp 7], none, [], none⟩,
   ⟨some 72, .mov, [.tmp 1], none, [], none⟩,
   ⟨some 73, .mov, [.tmp 8], none, [], none⟩,
   ⟨some 74, (.bin .add), [.tmp 72, .tmp 73], none, [], none⟩,
   ⟨some 75, (.bin .add), [.tmp 74, .const (.int .i64 1)], none, [], none⟩,
   ⟨some 4, .mov, [.tmp 71], none, [], none⟩,
   ⟨some 5, .mov, [.tmp 75], none, [], none⟩,
   ⟨some 6, .mov, [.const (.int .i64 0)], none, [], none⟩] false [0, 1, 4, 5, 6, 7, 8, 9, 10, 18, 21, 29, 46, 55, 69])
   (.ret))) (.skip)))))))))
   (.reg [
   ⟨some 22, .mov, [.tmp 8], none, [], none⟩,
   ⟨some 23, (.bin .add), [.tmp 22, .const (.int .i64 1)], none, [], none⟩,
   ⟨some 8, .mov, [.tmp 23], none, [], none⟩] false [0, 1, 4, 5, 6, 7, 8, 9, 10, 18, 21, 29, 46, 55, 69]))))))
  (.seq (.reg [
  ⟨some 76, .mov, [.tmp 1], none, [], none⟩,
  ⟨some 4, .mov, [.const (.int .u64 0)], none, [], none⟩,
  ⟨some 5, .mov, [.tmp 76], none, [], none⟩,
  ⟨some 6, .mov, [.const (.int .i64 11)], none, [], none⟩] false [0, 1, 4, 5, 6, 7, 8, 9, 10, 18, 21, 29, 46, 55, 69])
  (.ret)))))
def keep109 : List Nat := [0, 1, 4, 5, 6, 7, 8, 9, 10, 18, 21, 29, 46, 55, 69]
theorem fn109 : compFn Try.prog 109 keep109 = some ⟨77, 2, [(4, none), (5, none), (6, none)], body109⟩ := by kernel_rfl

/- chartroom/chartroomref01.TakeText -/
def body110 : AC :=
  .seq (.reg [
  ⟨some 4, .mov, [.const (.string ⟨#[]⟩)], none, [], none⟩,
  ⟨some 5, .mov, [.const (.int .i64 0)], none, [], none⟩,
  ⟨some 6, .mov, [.const (.int .i64 0)], none, [], none⟩] false [0, 1, 4, 5, 6, 7, 8, 9, 18, 34])
  (.seq (.reg [
  ⟨some 11, .mov, [.tmp 0], none, [], none⟩,
  ⟨some 12, .mov, [.tmp 1], none, [], none⟩,
  ⟨some 13, (.call 109), [.tmp 11, .tmp 12], none, [], none⟩,
  ⟨some 10, .mov, [.tmp 13], none, [], none⟩,
  ⟨some 14, (.ext 0), [.tmp 10], none, [], none⟩,
  ⟨some 15, (.ext 1), [.tmp 10], none, [], none⟩,
  ⟨some 16, (.ext 2), [.tmp 10], none, [], none⟩,
  ⟨some 7, .mov, [.tmp 14], none, [], none⟩,
  ⟨some 8, .mov, [.tmp 15], none, [], none⟩,
  ⟨some 9, .mov, [.tmp 16], none, [], none⟩] false [0, 1, 4, 5, 6, 7, 8, 9, 18, 34])
  (.seq (.seq (.reg [
  ⟨some 17, .mov, [.tmp 9], none, [], none⟩,
  ⟨some 18, (.bin .neq), [.tmp 17, .const (.int .i64 0)], none, [], none⟩] false [0, 1, 4, 5, 6, 7, 8, 9, 18, 34])
  (.cond (.tmp 18) (.seq (.reg [
  ⟨some 19, .mov, [.tmp 1], none, [], none⟩,
  ⟨some 20, .mov, [.tmp 9], none, [], none⟩,
  ⟨some 4, .mov, [.const (.string ⟨#[]⟩)], none, [], none⟩,
  ⟨some 5, .mov, [.tmp 19], none, [], none⟩,
  ⟨some 6, .mov, [.tmp 20], none, [], none⟩] false [0, 1, 4, 5, 6, 7, 8, 9, 18, 34])
  (.ret)) (.skip)))
  (.seq (.seq (.reg [
  ⟨some 21, .mov, [.tmp 7], none, [], none⟩,
  ⟨some 22, .mov, [.tmp 0], none, [], none⟩,
  ⟨some 23, .len, [.tmp 22], none, [], none⟩,
  ⟨some 24, (.cvi .u64), [.tmp 23], none, [], none⟩,
  ⟨some 25, (.bin .gtr), [.tmp 21, .tmp 24], none, [], none⟩,
  ⟨some 26, .mov, [.tmp 25], none, [], none⟩,
  ⟨some 27, .mov, [.tmp 8], some (26, false), [], none⟩,
  ⟨some 28, .mov, [.tmp 7], some (26, false), [], none⟩,
  ⟨some 29, (.cvi .i64), [.tmp 28], some (26, false), [], none⟩,
  ⟨some 30, (.bin .add), [.tmp 27, .tmp 29], some (26, false), [], none⟩,
  ⟨some 31, .mov, [.tmp 0], some (26, false), [], none⟩,
  ⟨some 32, .len, [.tmp 31], some (26, false), [], none⟩,
  ⟨some 33, (.bin .gtr), [.tmp 30, .tmp 32], some (26, false), [], none⟩,
  ⟨some 34, .pick, [.tmp 26, .const (.bool true), .tmp 33], none, [], none⟩] false [0, 1, 4, 5, 6, 7, 8, 9, 18, 34])
  (.cond (.tmp 34) (.seq (.reg [
  ⟨some 35, .mov, [.tmp 1], none, [], none⟩,
  ⟨some 4, .mov, [.const (.string ⟨#[]⟩)], none, [], none⟩,
  ⟨some 5, .mov, [.tmp 35], none, [], none⟩,
  ⟨some 6, .mov, [.const (.int .i64 10)], none, [], none⟩] false [0, 1, 4, 5, 6, 7, 8, 9, 18, 34])
  (.ret)) (.skip)))
  (.seq (.reg [
  ⟨some 36, .mov, [.tmp 0], none, [], none⟩,
  ⟨some 37, .mov, [.tmp 8], none, [], none⟩,
  ⟨some 38, .mov, [.tmp 8], none, [], none⟩,
  ⟨some 39, .mov, [.tmp 7], none, [], none⟩,
  ⟨some 40, (.cvi .i64), [.tmp 39], none, [], none⟩,
  ⟨some 41, (.bin .add), [.tmp 38, .tmp 40], none, [], none⟩,
  ⟨some 42, (.slc 1 true true), [.tmp 36, .tmp 37, .tmp 41], none, [], none⟩,
  ⟨some 43, .btoS, [.tmp 42], none, [], none⟩,
  ⟨some 44, .mov, [.tmp 8], none, [], none⟩,
  ⟨some 45, .mov, [.tmp 7], none, [], none⟩,
  ⟨some 46, (.cvi .i64), [.tmp 45], none, [], none⟩,
  ⟨some 47, (.bin .add), [.tmp 44, .tmp 46], none, [], none⟩,
  ⟨some 4, .mov, [.tmp 43], none, [], none⟩,
  ⟨some 5, .mov, [.tmp 47], none, [], none⟩,
  ⟨some 6, .mov, [.const (.int .i64 0)], none, [], none⟩] false [0, 1, 4, 5, 6, 7, 8, 9, 18, 34])
  (.ret)))))
def keep110 : List Nat := [0, 1, 4, 5, 6, 7, 8, 9, 18, 34]
theorem fn110 : compFn Try.prog 110 keep110 = some ⟨48, 2, [(4, none), (5, none), (6, none)], body110⟩ := by kernel_rfl

/- chartroom/chartroomkit.SameBytes -/
def body39 : AC :=
  .seq (.reg [
  ⟨some 4, .mov, [.const (.bool false)], none, [], none⟩] false [0, 1, 4, 5, 10, 14, 25])
  (.seq (.seq (.reg [
  ⟨some 6, .mov, [.tmp 0], none, [], none⟩,
  ⟨some 7, .len, [.tmp 6], none, [], none⟩,
  ⟨some 8, .mov, [.tmp 1], none, [], none⟩,
  ⟨some 9, .len, [.tmp 8], none, [], none⟩,
  ⟨some 10, (.bin .neq), [.tmp 7, .tmp 9], none, [], none⟩] false [0, 1, 4, 5, 10, 14, 25])
  (.cond (.tmp 10) (.seq (.reg [
  ⟨some 4, .mov, [.const (.bool false)], none, [], none⟩] false [0, 1, 4, 5, 10, 14, 25])
  (.ret)) (.skip)))
  (.seq (.seq (.reg [
  ⟨some 5, .mov, [.const (.int .i64 0)], none, [], none⟩] false [0, 1, 4, 5, 10, 14, 25])
  (.block 0 (.loop (.seq (.seq (.reg [
   ⟨some 11, .mov, [.tmp 5], none, [], none⟩,
   ⟨some 12, .mov, [.tmp 0], none, [], none⟩,
   ⟨some 13, .len, [.tmp 12], none, [], none⟩,
   ⟨some 14, (.bin .lss), [.tmp 11, .tmp 13], none, [], none⟩] false [0, 1, 4, 5, 10, 14, 25])
   (.cond (.tmp 14) (.skip) (.exit 0)))
   (.seq (.block 1 (.seq (.reg [
   ⟨some 17, .mov, [.tmp 0], none, [], none⟩,
   ⟨some 18, .mov, [.tmp 5], none, [], none⟩,
   ⟨some 19, (.ixa 5 1), [.tmp 17, .tmp 18], none, [], none⟩,
   ⟨some 20, (.load none), [.tmp 19], none, [], none⟩,
   ⟨some 21, .mov, [.tmp 1], none, [], none⟩,
   ⟨some 22, .mov, [.tmp 5], none, [], none⟩,
   ⟨some 23, (.ixa 5 1), [.tmp 21, .tmp 22], none, [], none⟩,
   ⟨some 24, (.load none), [.tmp 23], none, [], none⟩,
   ⟨some 25, (.bin .neq), [.tmp 20, .tmp 24], none, [], none⟩] true [0, 1, 4, 5, 10, 14, 25])
   (.cond (.tmp 25) (.seq (.reg [
   ⟨some 4, .mov, [.const (.bool false)], none, [], none⟩] false [0, 1, 4, 5, 10, 14, 25])
   (.ret)) (.skip))))
   (.reg [
   ⟨some 15, .mov, [.tmp 5], none, [], none⟩,
   ⟨some 16, (.bin .add), [.tmp 15, .const (.int .i64 1)], none, [], none⟩,
   ⟨some 5, .mov, [.tmp 16], none, [], none⟩] false [0, 1, 4, 5, 10, 14, 25]))))))
  (.seq (.reg [
  ⟨some 4, .mov, [.const (.bool true)], none, [], none⟩] false [0, 1, 4, 5, 10, 14, 25])
  (.ret))))
def keep39 : List Nat := [0, 1, 4, 5, 10, 14, 25]
theorem fn39 : compFn Try.prog 39 keep39 = some ⟨26, 2, [(4, none)], body39⟩ := by kernel_rfl

/- chartroom/chartroomref01.groups -/
def body153 : AC :=
  .seq (.reg [
  ⟨some 2, .mov, [.const (.int .i64 0)], none, [], none⟩] false [0, 2, 3, 6])
  (.seq (.reg [
  ⟨some 3, .mov, [.const (.int .i64 1)], none, [], none⟩] false [0, 2, 3, 6])
  (.seq (.block 0 (.loop (.seq (.seq (.reg [
   ⟨some 4, .mov, [.tmp 0], none, [], none⟩,
   ⟨some 5, (.bin .quo), [.tmp 4, .const (.int .u64 128)], none, [], none⟩,
   ⟨some 6, (.bin .gtr), [.tmp 5, .const (.int .u64 0)], none, [], none⟩] false [0, 2, 3, 6])
   (.cond (.tmp 6) (.skip) (.exit 0)))
   (.block 1 (.seq (.reg [
   ⟨some 7, .mov, [.tmp 0], none, [], none⟩,
   ⟨some 8, (.bin .quo), [.tmp 7, .const (.int .u64 128)], none, [], none⟩,
   ⟨some 0, .mov, [.tmp 8], none, [], none⟩] false [0, 2, 3, 6])
   (.reg [
   ⟨some 9, .mov, [.tmp 3], none, [], none⟩,
   ⟨some 10, (.bin .add), [.tmp 9, .const (.int .i64 1)], none, [], none⟩,
   ⟨some 3, .mov, [.tmp 10], none, [], none⟩] false [0, 2, 3, 6]))))))
  (.seq (.reg [
  ⟨some 11, .mov, [.tmp 3], none, [], none⟩,
  ⟨some 2, .mov, [.tmp 11], none, [], none⟩] false [0, 2, 3, 6])
  (.ret))))
def keep153 : List Nat := [0, 2, 3, 6]
theorem fn153 : compFn Try.prog 153 keep153 = some ⟨12, 1, [(2, none)], body153⟩ := by kernel_rfl

/- chartroom/chartroomref01.same -/
def body154 : AC :=
  .seq (.reg [
  ⟨some 6, .mov, [.const (.bool false)], none, [], none⟩] false [0, 1, 2, 6, 7, 14, 18, 31])
  (.seq (.seq (.reg [
  ⟨some 8, .mov, [.tmp 1], none, [], none⟩,
  ⟨some 9, .mov, [.tmp 2], none, [], none⟩,
  ⟨some 10, .len, [.tmp 9], none, [], none⟩,
  ⟨some 11, (.bin .add), [.tmp 8, .tmp 10], none, [], none⟩,
  ⟨some 12, .mov, [.tmp 0], none, [], none⟩,
  ⟨some 13, .len, [.tmp 12], none, [], none⟩,
  ⟨some 14, (.bin .gtr), [.tmp 11, .tmp 13], none, [], none⟩] false [0, 1, 2, 6, 7, 14, 18, 31])
  (.cond (.tmp 14) (.seq (.reg [
  ⟨some 6, .mov, [.const (.bool false)], none, [], none⟩] false [0, 1, 2, 6, 7, 14, 18, 31])
  (.ret)) (.skip)))
  (.seq (.seq (.reg [
  ⟨some 7, .mov, [.const (.int .i64 0)], none, [], none⟩] false [0, 1, 2, 6, 7, 14, 18, 31])
  (.block 0 (.loop (.seq (.seq (.reg [
   ⟨some 15, .mov, [.tmp 7], none, [], none⟩,
   ⟨some 16, .mov, [.tmp 2], none, [], none⟩,
   ⟨some 17, .len, [.tmp 16], none, [], none⟩,
   ⟨some 18, (.bin .lss), [.tmp 15, .tmp 17], none, [], none⟩] false [0, 1, 2, 6, 7, 14, 18, 31])
   (.cond (.tmp 18) (.skip) (.exit 0)))
   (.seq (.block 1 (.seq (.reg [
   ⟨some 21, .mov, [.tmp 0], none, [], none⟩,
   ⟨some 22, .mov, [.tmp 1], none, [], none⟩,
   ⟨some 23, .mov, [.tmp 7], none, [], none⟩,
   ⟨some 24, (.bin .add), [.tmp 22, .tmp 23], none, [], none⟩,
   ⟨some 25, (.ixa 5 1), [.tmp 21, .tmp 24], none, [], none⟩,
   ⟨some 26, (.load none), [.tmp 25], none, [], none⟩,
   ⟨some 27, .mov, [.tmp 2], none, [], none⟩,
   ⟨some 28, .mov, [.tmp 7], none, [], none⟩,
   ⟨some 29, (.ixa 5 1), [.tmp 27, .tmp 28], none, [], none⟩,
   ⟨some 30, (.load none), [.tmp 29], none, [], none⟩,
   ⟨some 31, (.bin .neq), [.tmp 26, .tmp 30], none, [], none⟩] true [0, 1, 2, 6, 7, 14, 18, 31])
   (.cond (.tmp 31) (.seq (.reg [
   ⟨some 6, .mov, [.const (.bool false)], none, [], none⟩] false [0, 1, 2, 6, 7, 14, 18, 31])
   (.ret)) (.skip))))
   (.reg [
   ⟨some 19, .mov, [.tmp 7], none, [], none⟩,
   ⟨some 20, (.bin .add), [.tmp 19, .const (.int .i64 1)], none, [], none⟩,
   ⟨some 7, .mov, [.tmp 20], none, [], none⟩] false [0, 1, 2, 6, 7, 14, 18, 31]))))))
  (.seq (.reg [
  ⟨some 6, .mov, [.const (.bool true)], none, [], none⟩] false [0, 1, 2, 6, 7, 14, 18, 31])
  (.ret))))
def keep154 : List Nat := [0, 1, 2, 6, 7, 14, 18, 31]
theorem fn154 : compFn Try.prog 154 keep154 = some ⟨32, 3, [(6, none)], body154⟩ := by kernel_rfl

end Go.Proofs.Ytfpmjcdcpicmaaa.Ab
