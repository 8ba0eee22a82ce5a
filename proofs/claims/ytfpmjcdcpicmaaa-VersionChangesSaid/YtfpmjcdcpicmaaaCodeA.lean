/- The code of the functions, in the abstract machine's form (printed by wip/mk.py). -/
import Derived.Test.YtfpmjcdcpicmaaaAb21
import Derived.Test.YtfpmjcdcpicmaaaChecked
namespace Go.Proofs.Ytfpmjcdcpicmaaa.Ab
open Go Go.RowKit
set_option maxRecDepth 100000

/- (chartroom/version.Versions).Add -/
def body58 : AC :=
  .seq (.reg [
  ⟨some 3, .box, [.tmp 1], none, [], none⟩,
  ⟨some 4, (.nilS 70), [], none, [], none⟩,
  ⟨some 5, .mov, [.const (.int .i64 0)], none, [], none⟩] false [0, 1, 3, 4, 5, 7, 36, 50])
  (.seq (.seq (.reg [
  ⟨some 8, .mov, [.tmp 0], none, [], none⟩,
  ⟨some 9, (.call 53), [.tmp 8], none, [], (some 999999)⟩,
  ⟨some 10, .not, [.tmp 9], none, [], none⟩,
  ⟨some 11, .mov, [.tmp 10], none, [], none⟩,
  ⟨some 12, (.fad 9), [.tmp 3], some (11, false), [], none⟩,
  ⟨some 13, (.load none), [.tmp 12], some (11, false), [], none⟩,
  ⟨some 14, .pick, [.tmp 11, .const (.bool true), .tmp 13], none, [], none⟩,
  ⟨some 15, .mov, [.tmp 14], none, [], none⟩,
  ⟨some 16, (.fad 0), [.tmp 3], some (15, false), [], none⟩,
  ⟨some 17, (.load none), [.tmp 16], some (15, false), [], none⟩,
  ⟨some 18, (.bin .eql), [.tmp 17, .const (.int .u64 0)], some (15, false), [], none⟩,
  ⟨some 19, .pick, [.tmp 15, .const (.bool true), .tmp 18], none, [], none⟩,
  ⟨some 20, .mov, [.tmp 19], none, [], none⟩,
  ⟨some 21, .mov, [.tmp 0], some (20, false), [], none⟩,
  ⟨some 22, .len, [.tmp 21], some (20, false), [], none⟩,
  ⟨some 23, (.bin .gtr), [.tmp 22, .const (.int .i64 0)], some (20, false), [], none⟩,
  ⟨some 24, .mov, [.tmp 23], some (20, false), [], none⟩,
  ⟨some 25, (.fad 0), [.tmp 3], some (24, true), [], none⟩,
  ⟨some 26, (.load none), [.tmp 25], some (24, true), [], none⟩,
  ⟨some 27, .mov, [.tmp 0], some (24, true), [], none⟩,
  ⟨some 28, .mov, [.tmp 0], some (24, true), [], none⟩,
  ⟨some 29, .len, [.tmp 28], some (24, true), [], none⟩,
  ⟨some 30, (.bin .sub), [.tmp 29, .const (.int .i64 1)], some (24, true), [], none⟩,
  ⟨some 31, (.ixa 70 10), [.tmp 27, .tmp 30], some (24, true), [], none⟩,
  ⟨some 32, (.fad 0), [.tmp 31], some (24, true), [], none⟩,
  ⟨some 33, (.load none), [.tmp 32], some (24, true), [], none⟩,
  ⟨some 34, (.bin .leq), [.tmp 26, .tmp 33], some (24, true), [], none⟩,
  ⟨some 35, .pick, [.tmp 24, .tmp 34, .const (.bool false)], some (20, false), [], none⟩,
  ⟨some 36, .pick, [.tmp 20, .const (.bool true), .tmp 35], none, [], none⟩] true [0, 1, 3, 4, 5, 7, 36, 50])
  (.cond (.tmp 36) (.seq (.reg [
  ⟨some 4, (.nilS 70), [], none, [], none⟩,
  ⟨some 5, .mov, [.const (.int .i64 2)], none, [], none⟩] false [0, 1, 3, 4, 5, 7, 36, 50])
  (.ret)) (.skip)))
  (.seq (.seq (.reg [
  ⟨some 38, .mov, [.tmp 0], none, [], none⟩,
  ⟨some 39, (.load (some 10)), [.tmp 3], none, [], none⟩,
  ⟨some 40, (.call 113), [.tmp 39], none, [], none⟩,
  ⟨some 41, (.call 43), [.tmp 38, .tmp 40], none, [], none⟩,
  ⟨some 37, .mov, [.tmp 41], none, [], none⟩,
  ⟨some 42, (.ext 0), [.tmp 37], none, [], none⟩,
  ⟨some 43, (.ext 1), [.tmp 37], none, [], none⟩,
  ⟨some 6, (.alloc [(.int .u64 0), (.int .u64 0), (.int .u64 0), (.int .u64 0), (.int .u64 0), (.int .u64 0), (.int .u64 0), (.string ⟨#[]⟩), (.bool false), (.bool false)]), [], none, [], none⟩,
  ⟨none, (.store (some 10)), [.tmp 6, .tmp 42], none, [], none⟩,
  ⟨some 7, .mov, [.tmp 43], none, [], none⟩] false [0, 1, 3, 4, 5, 7, 36, 50])
  (.seq (.reg [
  ⟨some 44, (.load (some 10)), [.tmp 3], none, [], none⟩,
  ⟨some 45, (.call 113), [.tmp 44], none, [], none⟩,
  ⟨some 46, (.bin .neq), [.tmp 45, .const (.int .u64 0)], none, [], none⟩,
  ⟨some 47, .mov, [.tmp 46], none, [], none⟩,
  ⟨some 48, .mov, [.tmp 7], some (47, true), [], none⟩,
  ⟨some 49, .not, [.tmp 48], some (47, true), [], none⟩,
  ⟨some 50, .pick, [.tmp 47, .tmp 49, .const (.bool false)], none, [], none⟩] false [0, 1, 3, 4, 5, 7, 36, 50])
  (.cond (.tmp 50) (.seq (.reg [
  ⟨some 4, (.nilS 70), [], none, [], none⟩,
  ⟨some 5, .mov, [.const (.int .i64 150)], none, [], none⟩] false [0, 1, 3, 4, 5, 7, 36, 50])
  (.ret)) (.skip))))
  (.seq (.reg [
  ⟨some 51, .mov, [.tmp 0], none, [], none⟩,
  ⟨some 52, (.call 118), [.tmp 51], none, [54], none⟩,
  ⟨some 53, (.load (some 10)), [.tmp 3], none, [52], none⟩,
  ⟨some 54, (.bsl 70 10), [.tmp 53], none, [52], none⟩,
  ⟨some 55, (.app 70 10 80), [.tmp 52, .tmp 54], none, [], none⟩,
  ⟨some 4, .mov, [.tmp 55], none, [], none⟩,
  ⟨some 5, .mov, [.const (.int .i64 0)], none, [], none⟩] true [0, 1, 3, 4, 5, 7, 36, 50])
  (.ret))))
def keep58 : List Nat := [0, 1, 3, 4, 5, 7, 36, 50]
theorem fn58 : compFn Try.prog 58 keep58 = some ⟨56, 2, [(4, none), (5, none)], body58⟩ := by kernel_rfl

/- chartroom/chartroomref15.Add -/
def body59 : AC :=
  .seq (.reg [
  ⟨some 3, .box, [.tmp 1], none, [], none⟩,
  ⟨some 4, (.nilS 75), [], none, [], none⟩,
  ⟨some 5, .mov, [.const (.int .i64 0)], none, [], none⟩] false [0, 1, 3, 4, 5, 6, 8, 9, 21, 25, 35, 38, 47])
  (.seq (.seq (.reg [
  ⟨some 10, .mov, [.tmp 0], none, [], none⟩,
  ⟨some 11, (.call 54), [.tmp 10], none, [], none⟩,
  ⟨some 12, .not, [.tmp 11], none, [], none⟩,
  ⟨some 13, .mov, [.tmp 12], none, [], none⟩,
  ⟨some 14, (.fad 9), [.tmp 3], some (13, false), [], none⟩,
  ⟨some 15, (.load none), [.tmp 14], some (13, false), [], none⟩,
  ⟨some 16, .pick, [.tmp 13, .const (.bool true), .tmp 15], none, [], none⟩,
  ⟨some 17, .mov, [.tmp 16], none, [], none⟩,
  ⟨some 18, (.fad 0), [.tmp 3], some (17, false), [], none⟩,
  ⟨some 19, (.load none), [.tmp 18], some (17, false), [], none⟩,
  ⟨some 20, (.bin .eql), [.tmp 19, .const (.int .u64 0)], some (17, false), [], none⟩,
  ⟨some 21, .pick, [.tmp 17, .const (.bool true), .tmp 20], none, [], none⟩] false [0, 1, 3, 4, 5, 6, 8, 9, 21, 25, 35, 38, 47])
  (.cond (.tmp 21) (.seq (.reg [
  ⟨some 4, (.nilS 75), [], none, [], none⟩,
  ⟨some 5, .mov, [.const (.int .i64 2)], none, [], none⟩] false [0, 1, 3, 4, 5, 6, 8, 9, 21, 25, 35, 38, 47])
  (.ret)) (.skip)))
  (.seq (.seq (.reg [
  ⟨some 6, .mov, [.const (.int .i64 0)], none, [], none⟩] false [0, 1, 3, 4, 5, 6, 8, 9, 21, 25, 35, 38, 47])
  (.block 0 (.loop (.seq (.seq (.reg [
   ⟨some 22, .mov, [.tmp 6], none, [], none⟩,
   ⟨some 23, .mov, [.tmp 0], none, [], none⟩,
   ⟨some 24, .len, [.tmp 23], none, [], none⟩,
   ⟨some 25, (.bin .lss), [.tmp 22, .tmp 24], none, [], none⟩] false [0, 1, 3, 4, 5, 6, 8, 9, 21, 25, 35, 38, 47])
   (.cond (.tmp 25) (.skip) (.exit 0)))
   (.seq (.block 1 (.seq (.reg [
   ⟨some 28, .mov, [.tmp 0], none, [], none⟩,
   ⟨some 29, .mov, [.tmp 6], none, [], none⟩,
   ⟨some 30, (.ixa 75 10), [.tmp 28, .tmp 29], none, [], none⟩,
   ⟨some 31, (.fad 0), [.tmp 30], none, [], none⟩,
   ⟨some 32, (.load none), [.tmp 31], none, [], none⟩,
   ⟨some 33, (.fad 0), [.tmp 3], none, [], none⟩,
   ⟨some 34, (.load none), [.tmp 33], none, [], none⟩,
   ⟨some 35, (.bin .geq), [.tmp 32, .tmp 34], none, [], none⟩] true [0, 1, 3, 4, 5, 6, 8, 9, 21, 25, 35, 38, 47])
   (.cond (.tmp 35) (.seq (.reg [
   ⟨some 4, (.nilS 75), [], none, [], none⟩,
   ⟨some 5, .mov, [.const (.int .i64 2)], none, [], none⟩] false [0, 1, 3, 4, 5, 6, 8, 9, 21, 25, 35, 38, 47])
   (.ret)) (.skip))))
   (.reg [
   ⟨some 26, .mov, [.tmp 6], none, [], none⟩,
   ⟨some 27, (.bin .add), [.tmp 26, .const (.int .i64 1)], none, [], none⟩,
   ⟨some 6, .mov, [.tmp 27], none, [], none⟩] false [0, 1, 3, 4, 5, 6, 8, 9, 21, 25, 35, 38, 47]))))))
  (.seq (.seq (.reg [
  ⟨some 36, (.load (some 10)), [.tmp 3], none, [], none⟩,
  ⟨some 37, (.call 116), [.tmp 36], none, [], none⟩,
  ⟨some 38, (.bin .gtr), [.tmp 37, .const (.int .u64 0)], none, [], none⟩] false [0, 1, 3, 4, 5, 6, 8, 9, 21, 25, 35, 38, 47])
  (.cond (.tmp 38) (.seq (.reg [
  ⟨some 40, .mov, [.tmp 0], none, [], none⟩,
  ⟨some 41, (.load (some 10)), [.tmp 3], none, [], none⟩,
  ⟨some 42, (.call 116), [.tmp 41], none, [], none⟩,
  ⟨some 43, (.call 44), [.tmp 40, .tmp 42], none, [], none⟩,
  ⟨some 39, .mov, [.tmp 43], none, [], none⟩,
  ⟨some 44, (.ext 0), [.tmp 39], none, [], none⟩,
  ⟨some 45, (.ext 1), [.tmp 39], none, [], none⟩,
  ⟨some 7, (.alloc [(.int .u64 0), (.int .u64 0), (.int .u64 0), (.int .u64 0), (.int .u64 0), (.int .u64 0), (.int .u64 0), (.string ⟨#[]⟩), (.bool false), (.bool false)]), [], none, [], none⟩,
  ⟨none, (.store (some 10)), [.tmp 7, .tmp 44], none, [], none⟩,
  ⟨some 8, .mov, [.tmp 45], none, [], none⟩] false [0, 1, 3, 4, 5, 6, 8, 9, 21, 25, 35, 38, 47])
  (.seq (.reg [
  ⟨some 46, .mov, [.tmp 8], none, [], none⟩,
  ⟨some 47, .not, [.tmp 46], none, [], none⟩] false [0, 1, 3, 4, 5, 6, 8, 9, 21, 25, 35, 38, 47])
  (.cond (.tmp 47) (.seq (.reg [
  ⟨some 4, (.nilS 75), [], none, [], none⟩,
  ⟨some 5, .mov, [.const (.int .i64 150)], none, [], none⟩] false [0, 1, 3, 4, 5, 6, 8, 9, 21, 25, 35, 38, 47])
  (.ret)) (.skip)))) (.skip)))
  (.seq (.reg [
  ⟨some 9, (.nilS 75), [], none, [], none⟩] false [0, 1, 3, 4, 5, 6, 8, 9, 21, 25, 35, 38, 47])
  (.seq (.reg [
  ⟨some 48, .mov, [.tmp 9], none, [], none⟩,
  ⟨some 49, .mov, [.tmp 0], none, [], none⟩,
  ⟨some 50, (.app 75 10 80), [.tmp 48, .tmp 49], none, [], none⟩,
  ⟨some 9, .mov, [.tmp 50], none, [], none⟩] false [0, 1, 3, 4, 5, 6, 8, 9, 21, 25, 35, 38, 47])
  (.seq (.reg [
  ⟨some 51, .mov, [.tmp 9], none, [], none⟩,
  ⟨some 52, (.load (some 10)), [.tmp 3], none, [], none⟩,
  ⟨some 53, (.bsl 75 10), [.tmp 52], none, [], none⟩,
  ⟨some 54, (.app 75 10 80), [.tmp 51, .tmp 53], none, [], none⟩,
  ⟨some 4, .mov, [.tmp 54], none, [], none⟩,
  ⟨some 5, .mov, [.const (.int .i64 0)], none, [], none⟩] false [0, 1, 3, 4, 5, 6, 8, 9, 21, 25, 35, 38, 47])
  (.ret)))))))
def keep59 : List Nat := [0, 1, 3, 4, 5, 6, 8, 9, 21, 25, 35, 38, 47]
theorem fn59 : compFn Try.prog 59 keep59 = some ⟨55, 2, [(4, none), (5, none)], body59⟩ := by kernel_rfl

/- (chartroom/version.Versions).Inlined -/
def body60 : AC :=
  .seq (.reg [
  ⟨some 4, (.nilS 70), [], none, [], none⟩,
  ⟨some 5, .mov, [.const (.int .i64 0)], none, [], none⟩] false [0, 1, 4, 5, 6, 7, 8, 20, 21, 22, 23, 24])
  (.seq (.reg [
  ⟨some 9, .mov, [.tmp 0], none, [], none⟩,
  ⟨some 10, (.call 49), [.tmp 9], none, [], none⟩,
  ⟨some 6, .mov, [.tmp 10], none, [], none⟩] false [0, 1, 4, 5, 6, 7, 8, 20, 21, 22, 23, 24])
  (.seq (.seq (.reg [
  ⟨some 11, .mov, [.tmp 0], none, [], none⟩,
  ⟨some 12, (.call 53), [.tmp 11], none, [], none⟩,
  ⟨some 13, .not, [.tmp 12], none, [], none⟩,
  ⟨some 14, .mov, [.tmp 13], none, [], none⟩,
  ⟨some 15, .mov, [.tmp 1], some (14, false), [], none⟩,
  ⟨some 16, .len, [.tmp 15], some (14, false), [], none⟩,
  ⟨some 17, .mov, [.tmp 6], some (14, false), [], none⟩,
  ⟨some 18, .len, [.tmp 17], some (14, false), [], none⟩,
  ⟨some 19, (.bin .neq), [.tmp 16, .tmp 18], some (14, false), [], none⟩,
  ⟨some 20, .pick, [.tmp 14, .const (.bool true), .tmp 19], none, [], none⟩] false [0, 1, 4, 5, 6, 7, 8, 20, 21, 22, 23, 24])
  (.cond (.tmp 20) (.seq (.reg [
  ⟨some 4, (.nilS 70), [], none, [], none⟩,
  ⟨some 5, .mov, [.const (.int .i64 2)], none, [], none⟩] false [0, 1, 4, 5, 6, 7, 8, 20, 21, 22, 23, 24])
  (.ret)) (.skip)))
  (.seq (.seq (.reg [
  ⟨some 21, .mov, [.tmp 6], none, [], none⟩,
  ⟨some 22, .len, [.tmp 21], none, [], none⟩,
  ⟨some 23, .mov, [.const (.int .i64 0)], none, [], none⟩] false [0, 1, 4, 5, 6, 7, 8, 20, 21, 22, 23, 24])
  (.block 0 (.loop (.seq (.reg [
   ⟨some 24, (.bin .lss), [.tmp 23, .tmp 22], none, [], none⟩] false [0, 1, 4, 5, 6, 7, 8, 20, 21, 22, 23, 24])
   (.seq (.cond (.tmp 24) (.skip) (.exit 0))
   (.seq (.block 1 (.seq (.reg [
   ⟨some 25, .mov, [.tmp 23], none, [], none⟩,
   ⟨some 26, (.ixa 70 10), [.tmp 21, .tmp 23], none, [], none⟩,
   ⟨some 27, (.load (some 10)), [.tmp 26], none, [], none⟩,
   ⟨some 8, (.alloc [(.int .u64 0), (.int .u64 0), (.int .u64 0), (.int .u64 0), (.int .u64 0), (.int .u64 0), (.int .u64 0), (.string ⟨#[]⟩), (.bool false), (.bool false)]), [], none, [], none⟩,
   ⟨some 7, .mov, [.tmp 25], none, [], none⟩,
   ⟨none, (.store (some 10)), [.tmp 8, .tmp 27], none, [], none⟩] false [0, 1, 4, 5, 6, 7, 8, 20, 21, 22, 23, 24])
   (.reg [
   ⟨some 28, .mov, [.tmp 6], none, [], none⟩,
   ⟨some 29, .mov, [.tmp 7], none, [], none⟩,
   ⟨some 30, (.fad 0), [.tmp 8], none, [], none⟩,
   ⟨some 31, (.load none), [.tmp 30], none, [], none⟩,
   ⟨some 32, .mov, [.tmp 1], none, [], none⟩,
   ⟨some 33, .mov, [.tmp 7], none, [], none⟩,
   ⟨some 34, (.ixa 9 1), [.tmp 32, .tmp 33], none, [], none⟩,
   ⟨some 35, (.load none), [.tmp 34], none, [], none⟩,
   ⟨some 36, (.call 122), [.tmp 31, .tmp 35], none, [], none⟩,
   ⟨some 37, (.ixa 70 10), [.tmp 28, .tmp 29], none, [], none⟩,
   ⟨none, (.store (some 10)), [.tmp 37, .tmp 36], none, [], none⟩] true [0, 1, 4, 5, 6, 7, 8, 20, 21, 22, 23, 24])))
   (.reg [
   ⟨some 38, (.bin .add), [.tmp 23, .const (.int .i64 1)], none, [], none⟩,
   ⟨some 23, .mov, [.tmp 38], none, [], none⟩] false [0, 1, 4, 5, 6, 7, 8, 20, 21, 22, 23, 24])))))))
  (.seq (.reg [
  ⟨some 39, .mov, [.tmp 6], none, [], none⟩,
  ⟨some 4, .mov, [.tmp 39], none, [], none⟩,
  ⟨some 5, .mov, [.const (.int .i64 0)], none, [], none⟩] false [0, 1, 4, 5, 6, 7, 8, 20, 21, 22, 23, 24])
  (.ret)))))
def keep60 : List Nat := [0, 1, 4, 5, 6, 7, 8, 20, 21, 22, 23, 24]
theorem fn60 : compFn Try.prog 60 keep60 = some ⟨40, 2, [(4, none), (5, none)], body60⟩ := by kernel_rfl

/- chartroom/chartroomref15.Inlined -/
def body61 : AC :=
  .seq (.reg [
  ⟨some 4, (.nilS 75), [], none, [], none⟩,
  ⟨some 5, .mov, [.const (.int .i64 0)], none, [], none⟩] false [0, 1, 4, 5, 6, 7, 8, 20, 24])
  (.seq (.reg [
  ⟨some 9, .mov, [.tmp 0], none, [], none⟩,
  ⟨some 10, (.call 52), [.tmp 9], none, [], none⟩,
  ⟨some 6, .mov, [.tmp 10], none, [], none⟩] false [0, 1, 4, 5, 6, 7, 8, 20, 24])
  (.seq (.seq (.reg [
  ⟨some 11, .mov, [.tmp 0], none, [], none⟩,
  ⟨some 12, (.call 54), [.tmp 11], none, [], none⟩,
  ⟨some 13, .not, [.tmp 12], none, [], none⟩,
  ⟨some 14, .mov, [.tmp 13], none, [], none⟩,
  ⟨some 15, .mov, [.tmp 6], some (14, false), [], none⟩,
  ⟨some 16, .len, [.tmp 15], some (14, false), [], none⟩,
  ⟨some 17, .mov, [.tmp 1], some (14, false), [], none⟩,
  ⟨some 18, .len, [.tmp 17], some (14, false), [], none⟩,
  ⟨some 19, (.bin .neq), [.tmp 16, .tmp 18], some (14, false), [], none⟩,
  ⟨some 20, .pick, [.tmp 14, .const (.bool true), .tmp 19], none, [], none⟩] false [0, 1, 4, 5, 6, 7, 8, 20, 24])
  (.cond (.tmp 20) (.seq (.reg [
  ⟨some 4, (.nilS 75), [], none, [], none⟩,
  ⟨some 5, .mov, [.const (.int .i64 2)], none, [], none⟩] false [0, 1, 4, 5, 6, 7, 8, 20, 24])
  (.ret)) (.skip)))
  (.seq (.reg [
  ⟨some 7, (.nilS 75), [], none, [], none⟩] false [0, 1, 4, 5, 6, 7, 8, 20, 24])
  (.seq (.seq (.reg [
  ⟨some 8, .mov, [.const (.int .i64 0)], none, [], none⟩] false [0, 1, 4, 5, 6, 7, 8, 20, 24])
  (.block 0 (.loop (.seq (.seq (.reg [
   ⟨some 21, .mov, [.tmp 8], none, [], none⟩,
   ⟨some 22, .mov, [.tmp 6], none, [], none⟩,
   ⟨some 23, .len, [.tmp 22], none, [], none⟩,
   ⟨some 24, (.bin .lss), [.tmp 21, .tmp 23], none, [], none⟩] false [0, 1, 4, 5, 6, 7, 8, 20, 24])
   (.cond (.tmp 24) (.skip) (.exit 0)))
   (.seq (.block 1 (.reg [
   ⟨some 27, .mov, [.tmp 7], none, [], none⟩,
   ⟨some 28, .mov, [.tmp 6], none, [], none⟩,
   ⟨some 29, .mov, [.tmp 8], none, [], none⟩,
   ⟨some 30, (.ixa 75 10), [.tmp 28, .tmp 29], none, [], none⟩,
   ⟨some 31, (.fad 0), [.tmp 30], none, [], none⟩,
   ⟨some 32, (.load none), [.tmp 31], none, [], none⟩,
   ⟨some 33, .mov, [.tmp 1], none, [], none⟩,
   ⟨some 34, .mov, [.tmp 8], none, [], none⟩,
   ⟨some 35, (.ixa 9 1), [.tmp 33, .tmp 34], none, [], none⟩,
   ⟨some 36, (.load none), [.tmp 35], none, [], none⟩,
   ⟨some 37, (.bld [(.int .u64 0), (.int .u64 0), (.int .u64 0), (.int .u64 0), (.int .u64 0), (.int .u64 0), (.int .u64 0), (.string ⟨#[]⟩), (.bool false), (.bool false)] [(0, 1), (7, 1), (8, 1)]), [.tmp 32, .tmp 36, .const (.bool true)], none, [], none⟩,
   ⟨some 38, (.bsl 75 10), [.tmp 37], none, [], none⟩,
   ⟨some 39, (.app 75 10 80), [.tmp 27, .tmp 38], none, [], none⟩,
   ⟨some 7, .mov, [.tmp 39], none, [], none⟩] true [0, 1, 4, 5, 6, 7, 8, 20, 24]))
   (.reg [
   ⟨some 25, .mov, [.tmp 8], none, [], none⟩,
   ⟨some 26, (.bin .add), [.tmp 25, .const (.int .i64 1)], none, [], none⟩,
   ⟨some 8, .mov, [.tmp 26], none, [], none⟩] false [0, 1, 4, 5, 6, 7, 8, 20, 24]))))))
  (.seq (.reg [
  ⟨some 40, .mov, [.tmp 7], none, [], none⟩,
  ⟨some 4, .mov, [.tmp 40], none, [], none⟩,
  ⟨some 5, .mov, [.const (.int .i64 0)], none, [], none⟩] false [0, 1, 4, 5, 6, 7, 8, 20, 24])
  (.ret))))))
def keep61 : List Nat := [0, 1, 4, 5, 6, 7, 8, 20, 24]
theorem fn61 : compFn Try.prog 61 keep61 = some ⟨41, 2, [(4, none), (5, none)], body61⟩ := by kernel_rfl

end Go.Proofs.Ytfpmjcdcpicmaaa.Ab
