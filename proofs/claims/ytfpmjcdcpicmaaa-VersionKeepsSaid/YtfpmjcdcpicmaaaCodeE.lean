/- The code of the functions, in the abstract machine's form (printed by wip/mk.py). -/
import Derived.Test.YtfpmjcdcpicmaaaAb21
import Derived.Test.YtfpmjcdcpicmaaaChecked
namespace Go.Proofs.Ytfpmjcdcpicmaaa.Ab
open Go Go.RowKit
set_option maxRecDepth 100000

/- chartroom/delta.Put -/
def body126 : AC :=
  .seq (.reg [
  ⟨some 2, (.nilS 5), [], none, [], none⟩,
  ⟨some 3, .mov, [.const (.int .i64 0)], none, [], none⟩] false [0, 2, 3, 4, 6, 9, 10, 11, 12, 13, 23])
  (.seq (.seq (.reg [
  ⟨some 7, .mov, [.tmp 0], none, [], none⟩,
  ⟨some 8, (.call 160), [.tmp 7], none, [], none⟩,
  ⟨some 9, .not, [.tmp 8], none, [], none⟩] false [0, 2, 3, 4, 6, 9, 10, 11, 12, 13, 23])
  (.cond (.tmp 9) (.seq (.reg [
  ⟨some 2, (.nilS 5), [], none, [], none⟩,
  ⟨some 3, .mov, [.const (.int .i64 2)], none, [], none⟩] false [0, 2, 3, 4, 6, 9, 10, 11, 12, 13, 23])
  (.ret)) (.skip)))
  (.seq (.reg [
  ⟨some 4, (.nilS 5), [], none, [], none⟩] false [0, 2, 3, 4, 6, 9, 10, 11, 12, 13, 23])
  (.seq (.seq (.reg [
  ⟨some 10, .mov, [.tmp 0], none, [], none⟩,
  ⟨some 11, .len, [.tmp 10], none, [], none⟩,
  ⟨some 12, .mov, [.const (.int .i64 0)], none, [], none⟩] false [0, 2, 3, 4, 6, 9, 10, 11, 12, 13, 23])
  (.block 0 (.loop (.seq (.reg [
   ⟨some 13, (.bin .lss), [.tmp 12, .tmp 11], none, [], none⟩] false [0, 2, 3, 4, 6, 9, 10, 11, 12, 13, 23])
   (.seq (.cond (.tmp 13) (.skip) (.exit 0))
   (.seq (.block 1 (.seq (.reg [
   ⟨some 14, (.ixa 183 3), [.tmp 10, .tmp 12], none, [], none⟩,
   ⟨some 15, (.load (some 3)), [.tmp 14], none, [], none⟩,
   ⟨some 6, (.alloc [(.int .u8 0), (.int .i64 0), (.string ⟨#[]⟩)]), [], none, [], none⟩,
   ⟨none, (.store (some 3)), [.tmp 6, .tmp 15], none, [], none⟩] false [0, 2, 3, 4, 6, 9, 10, 11, 12, 13, 23])
   (.seq (.reg [
   ⟨some 16, .mov, [.tmp 4], none, [], none⟩,
   ⟨some 17, (.fad 0), [.tmp 6], none, [], none⟩,
   ⟨some 18, (.load none), [.tmp 17], none, [], none⟩,
   ⟨some 19, (.bsl 5 1), [.tmp 18], none, [], none⟩,
   ⟨some 20, (.app 5 1 1), [.tmp 16, .tmp 19], none, [], none⟩,
   ⟨some 4, .mov, [.tmp 20], none, [], none⟩] false [0, 2, 3, 4, 6, 9, 10, 11, 12, 13, 23])
   (.seq (.seq (.reg [
   ⟨some 21, (.fad 0), [.tmp 6], none, [], none⟩,
   ⟨some 22, (.load none), [.tmp 21], none, [], none⟩,
   ⟨some 23, (.bin .eql), [.tmp 22, .const (.int .u8 2)], none, [], none⟩] false [0, 2, 3, 4, 6, 9, 10, 11, 12, 13, 23])
   (.cond (.tmp 23) (.seq (.reg [
   ⟨some 24, .mov, [.tmp 4], none, [], none⟩,
   ⟨some 25, (.fad 2), [.tmp 6], none, [], none⟩,
   ⟨some 26, (.load none), [.tmp 25], none, [], none⟩,
   ⟨some 27, (.call 104), [.tmp 26], none, [], none⟩,
   ⟨some 28, (.app 5 1 1), [.tmp 24, .tmp 27], none, [], none⟩,
   ⟨some 4, .mov, [.tmp 28], none, [], none⟩] false [0, 2, 3, 4, 6, 9, 10, 11, 12, 13, 23])
   (.exit 1)) (.skip)))
   (.reg [
   ⟨some 29, .mov, [.tmp 4], none, [], none⟩,
   ⟨some 30, (.fad 1), [.tmp 6], none, [], none⟩,
   ⟨some 31, (.load none), [.tmp 30], none, [], none⟩,
   ⟨some 32, (.cvi .u64), [.tmp 31], none, [], none⟩,
   ⟨some 33, (.call 103), [.tmp 32], none, [], none⟩,
   ⟨some 34, (.app 5 1 1), [.tmp 29, .tmp 33], none, [], none⟩,
   ⟨some 4, .mov, [.tmp 34], none, [], none⟩] false [0, 2, 3, 4, 6, 9, 10, 11, 12, 13, 23])))))
   (.reg [
   ⟨some 35, (.bin .add), [.tmp 12, .const (.int .i64 1)], none, [], none⟩,
   ⟨some 12, .mov, [.tmp 35], none, [], none⟩] false [0, 2, 3, 4, 6, 9, 10, 11, 12, 13, 23])))))))
  (.seq (.reg [
  ⟨some 36, .mov, [.tmp 4], none, [], none⟩,
  ⟨some 2, .mov, [.tmp 36], none, [], none⟩,
  ⟨some 3, .mov, [.const (.int .i64 0)], none, [], none⟩] false [0, 2, 3, 4, 6, 9, 10, 11, 12, 13, 23])
  (.ret)))))
def keep126 : List Nat := [0, 2, 3, 4, 6, 9, 10, 11, 12, 13, 23]
theorem fn126 : compFn Try.prog 126 keep126 = some ⟨37, 1, [(2, none), (3, none)], body126⟩ := by kernel_rfl

/- chartroom/delta.Parse -/
def body155 : AC :=
  .seq (.reg [
  ⟨some 2, (.nilS 183), [], none, [], none⟩,
  ⟨some 3, .mov, [.const (.int .i64 0)], none, [], none⟩] false [0, 2, 3, 4, 5, 6, 7, 8, 12, 21])
  (.seq (.reg [
  ⟨some 4, (.nilS 183), [], none, [], none⟩] false [0, 2, 3, 4, 5, 6, 7, 8, 12, 21])
  (.seq (.seq (.reg [
  ⟨some 5, .mov, [.const (.int .i64 0)], none, [], none⟩] false [0, 2, 3, 4, 5, 6, 7, 8, 12, 21])
  (.block 0 (.loop (.seq (.seq (.reg [
   ⟨some 9, .mov, [.tmp 5], none, [], none⟩,
   ⟨some 10, .mov, [.tmp 0], none, [], none⟩,
   ⟨some 11, .len, [.tmp 10], none, [], none⟩,
   ⟨some 12, (.bin .lss), [.tmp 9, .tmp 11], none, [], none⟩] false [0, 2, 3, 4, 5, 6, 7, 8, 12, 21])
   (.cond (.tmp 12) (.skip) (.exit 0)))
   (.block 1 (.seq (.reg [
   ⟨some 14, .mov, [.tmp 0], none, [], none⟩,
   ⟨some 15, .mov, [.tmp 5], none, [], none⟩,
   ⟨some 16, (.call 172), [.tmp 14, .tmp 15], none, [], none⟩,
   ⟨some 13, .mov, [.tmp 16], none, [], none⟩,
   ⟨some 17, (.ext 0), [.tmp 13], none, [], none⟩,
   ⟨some 18, (.ext 1), [.tmp 13], none, [], none⟩,
   ⟨some 19, (.ext 2), [.tmp 13], none, [], none⟩,
   ⟨some 6, (.alloc [(.int .u8 0), (.int .i64 0), (.string ⟨#[]⟩)]), [], none, [], none⟩,
   ⟨none, (.store (some 3)), [.tmp 6, .tmp 17], none, [], none⟩,
   ⟨some 7, .mov, [.tmp 18], none, [], none⟩,
   ⟨some 8, .mov, [.tmp 19], none, [], none⟩] false [0, 2, 3, 4, 5, 6, 7, 8, 12, 21])
   (.seq (.seq (.reg [
   ⟨some 20, .mov, [.tmp 8], none, [], none⟩,
   ⟨some 21, (.bin .neq), [.tmp 20, .const (.int .i64 0)], none, [], none⟩] false [0, 2, 3, 4, 5, 6, 7, 8, 12, 21])
   (.cond (.tmp 21) (.seq (.reg [
   ⟨some 22, .mov, [.tmp 8], none, [], none⟩,
   ⟨some 2, (.nilS 183), [], none, [], none⟩,
   ⟨some 3, .mov, [.tmp 22], none, [], none⟩] false [0, 2, 3, 4, 5, 6, 7, 8, 12, 21])
   (.ret)) (.skip)))
   (.reg [
   ⟨some 23, .mov, [.tmp 4], none, [], none⟩,
   ⟨some 24, (.load (some 3)), [.tmp 6], none, [], none⟩,
   ⟨some 25, (.bsl 183 3), [.tmp 24], none, [], none⟩,
   ⟨some 26, (.app 183 3 32), [.tmp 23, .tmp 25], none, [], none⟩,
   ⟨some 27, .mov, [.tmp 7], none, [], none⟩,
   ⟨some 4, .mov, [.tmp 26], none, [], none⟩,
   ⟨some 5, .mov, [.tmp 27], none, [], none⟩] false [0, 2, 3, 4, 5, 6, 7, 8, 12, 21]))))))))
  (.seq (.reg [
  ⟨some 28, .mov, [.tmp 4], none, [], none⟩,
  ⟨some 2, .mov, [.tmp 28], none, [], none⟩,
  ⟨some 3, .mov, [.const (.int .i64 0)], none, [], none⟩] false [0, 2, 3, 4, 5, 6, 7, 8, 12, 21])
  (.ret))))
def keep155 : List Nat := [0, 2, 3, 4, 5, 6, 7, 8, 12, 21]
theorem fn155 : compFn Try.prog 155 keep155 = some ⟨29, 1, [(2, none), (3, none)], body155⟩ := by kernel_rfl

/- chartroom/delta.Right -/
def body160 : AC :=
  .seq (.reg [
  ⟨some 2, .mov, [.const (.bool false)], none, [], none⟩] false [0, 2])
  (.seq (.reg [
  ⟨some 3, .mov, [.tmp 0], none, [], none⟩,
  ⟨some 4, (.call 177), [.tmp 3, .func 178], none, [], none⟩,
  ⟨some 5, .not, [.tmp 4], none, [], none⟩,
  ⟨some 2, .mov, [.tmp 5], none, [], none⟩] false [0, 2])
  (.ret))
def keep160 : List Nat := [0, 2]
theorem fn160 : compFn Try.prog 160 keep160 = some ⟨6, 1, [(2, none)], body160⟩ := by kernel_rfl

/- chartroom/delta.take -/
def body172 : AC :=
  .seq (.reg [
  ⟨some 4, (.alloc [(.int .u8 0), (.int .i64 0), (.string ⟨#[]⟩)]), [], none, [], none⟩,
  ⟨some 5, .mov, [.const (.int .i64 0)], none, [], none⟩,
  ⟨some 6, .mov, [.const (.int .i64 0)], none, [], none⟩] false [0, 1, 4, 5, 6, 7, 14, 15, 26, 42, 53])
  (.seq (.reg [
  ⟨some 8, .mov, [.tmp 0], none, [], none⟩,
  ⟨some 9, .mov, [.tmp 1], none, [], none⟩,
  ⟨some 10, (.ixa 5 1), [.tmp 8, .tmp 9], none, [], none⟩,
  ⟨some 11, (.load none), [.tmp 10], none, [], none⟩,
  ⟨some 12, (.fad 0), [.tmp 4], none, [], none⟩,
  ⟨none, (.store none), [.tmp 12, .tmp 11], none, [], none⟩] false [0, 1, 4, 5, 6, 7, 14, 15, 26, 42, 53])
  (.seq (.seq (.reg [
  ⟨some 13, (.fad 0), [.tmp 4], none, [], none⟩,
  ⟨some 14, (.load none), [.tmp 13], none, [], none⟩] false [0, 1, 4, 5, 6, 7, 14, 15, 26, 42, 53])
  (.block 0 (.seq (.reg [
  ⟨some 16, (.bin .eql), [.tmp 14, .const (.int .u8 2)], none, [], none⟩,
  ⟨some 15, .mov, [.tmp 16], none, [], none⟩] false [0, 1, 4, 5, 6, 7, 14, 15, 26, 42, 53])
  (.cond (.tmp 15) (.reg [
  ⟨some 18, .mov, [.tmp 0], none, [], none⟩,
  ⟨some 19, .mov, [.tmp 1], none, [], none⟩,
  ⟨some 20, (.bin .add), [.tmp 19, .const (.int .i64 1)], none, [], none⟩,
  ⟨some 21, (.call 108), [.tmp 18, .tmp 20], none, [], none⟩,
  ⟨some 17, .mov, [.tmp 21], none, [], none⟩,
  ⟨some 22, (.ext 0), [.tmp 17], none, [], none⟩,
  ⟨some 23, (.ext 1), [.tmp 17], none, [], none⟩,
  ⟨some 24, (.ext 2), [.tmp 17], none, [], none⟩,
  ⟨some 25, (.fad 2), [.tmp 4], none, [], none⟩,
  ⟨none, (.store none), [.tmp 25, .tmp 22], none, [], none⟩,
  ⟨some 5, .mov, [.tmp 23], none, [], none⟩,
  ⟨some 6, .mov, [.tmp 24], none, [], none⟩] false [0, 1, 4, 5, 6, 7, 14, 15, 26, 42, 53]) (.seq (.seq (.reg [
  ⟨some 27, (.bin .eql), [.tmp 14, .const (.int .u8 1)], none, [], none⟩,
  ⟨some 26, .mov, [.tmp 27], none, [], none⟩] false [0, 1, 4, 5, 6, 7, 14, 15, 26, 42, 53])
  (.cond (.tmp 26) (.skip) (.reg [
  ⟨some 28, (.bin .eql), [.tmp 14, .const (.int .u8 3)], none, [], none⟩,
  ⟨some 26, .mov, [.tmp 28], none, [], none⟩] false [0, 1, 4, 5, 6, 7, 14, 15, 26, 42, 53])))
  (.cond (.tmp 26) (.seq (.reg [
  ⟨some 7, .mov, [.const (.int .u64 0)], none, [], none⟩] false [0, 1, 4, 5, 6, 7, 14, 15, 26, 42, 53])
  (.seq (.reg [
  ⟨some 30, .mov, [.tmp 0], none, [], none⟩,
  ⟨some 31, .mov, [.tmp 1], none, [], none⟩,
  ⟨some 32, (.bin .add), [.tmp 31, .const (.int .i64 1)], none, [], none⟩,
  ⟨some 33, (.call 107), [.tmp 30, .tmp 32], none, [], none⟩,
  ⟨some 29, .mov, [.tmp 33], none, [], none⟩,
  ⟨some 34, (.ext 0), [.tmp 29], none, [], none⟩,
  ⟨some 35, (.ext 1), [.tmp 29], none, [], none⟩,
  ⟨some 36, (.ext 2), [.tmp 29], none, [], none⟩,
  ⟨some 7, .mov, [.tmp 34], none, [], none⟩,
  ⟨some 5, .mov, [.tmp 35], none, [], none⟩,
  ⟨some 6, .mov, [.tmp 36], none, [], none⟩] false [0, 1, 4, 5, 6, 7, 14, 15, 26, 42, 53])
  (.seq (.seq (.reg [
  ⟨some 37, .mov, [.tmp 6], none, [], none⟩,
  ⟨some 38, (.bin .eql), [.tmp 37, .const (.int .i64 0)], none, [], none⟩,
  ⟨some 39, .mov, [.tmp 38], none, [], none⟩,
  ⟨some 40, .mov, [.tmp 7], some (39, true), [], none⟩,
  ⟨some 41, (.bin .gtr), [.tmp 40, .const (.int .u64 2147483647)], some (39, true), [], none⟩,
  ⟨some 42, .pick, [.tmp 39, .tmp 41, .const (.bool false)], none, [], none⟩] false [0, 1, 4, 5, 6, 7, 14, 15, 26, 42, 53])
  (.cond (.tmp 42) (.seq (.reg [
  ⟨some 43, (.bld [(.int .u8 0), (.int .i64 0), (.string ⟨#[]⟩)] []), [], none, [], none⟩,
  ⟨none, (.store (some 3)), [.tmp 4, .tmp 43], none, [], none⟩,
  ⟨some 5, .mov, [.const (.int .i64 0)], none, [], none⟩,
  ⟨some 6, .mov, [.const (.int .i64 2)], none, [], none⟩] false [0, 1, 4, 5, 6, 7, 14, 15, 26, 42, 53])
  (.ret)) (.skip)))
  (.reg [
  ⟨some 44, .mov, [.tmp 7], none, [], none⟩,
  ⟨some 45, (.cvi .i64), [.tmp 44], none, [], none⟩,
  ⟨some 46, (.fad 1), [.tmp 4], none, [], none⟩,
  ⟨none, (.store none), [.tmp 46, .tmp 45], none, [], none⟩] false [0, 1, 4, 5, 6, 7, 14, 15, 26, 42, 53])))) (.reg [
  ⟨some 6, .mov, [.const (.int .i64 60)], none, [], none⟩] false [0, 1, 4, 5, 6, 7, 14, 15, 26, 42, 53])))))))
  (.seq (.seq (.reg [
  ⟨some 47, .mov, [.tmp 6], none, [], none⟩,
  ⟨some 48, (.bin .eql), [.tmp 47, .const (.int .i64 0)], none, [], none⟩,
  ⟨some 49, .mov, [.tmp 48], none, [], none⟩,
  ⟨some 50, (.load (some 3)), [.tmp 4], some (49, true), [], none⟩,
  ⟨some 51, (.call 174), [.tmp 50], some (49, true), [], none⟩,
  ⟨some 52, .not, [.tmp 51], some (49, true), [], none⟩,
  ⟨some 53, .pick, [.tmp 49, .tmp 52, .const (.bool false)], none, [], none⟩] false [0, 1, 4, 5, 6, 7, 14, 15, 26, 42, 53])
  (.cond (.tmp 53) (.reg [
  ⟨some 6, .mov, [.const (.int .i64 2)], none, [], none⟩] false [0, 1, 4, 5, 6, 7, 14, 15, 26, 42, 53]) (.skip)))
  (.seq (.reg [
  ⟨some 54, (.load (some 3)), [.tmp 4], none, [], none⟩,
  ⟨some 55, .mov, [.tmp 5], none, [], none⟩,
  ⟨some 56, .mov, [.tmp 6], none, [], none⟩,
  ⟨none, (.store (some 3)), [.tmp 4, .tmp 54], none, [], none⟩,
  ⟨some 5, .mov, [.tmp 55], none, [], none⟩,
  ⟨some 6, .mov, [.tmp 56], none, [], none⟩] false [0, 1, 4, 5, 6, 7, 14, 15, 26, 42, 53])
  (.ret)))))
def keep172 : List Nat := [0, 1, 4, 5, 6, 7, 14, 15, 26, 42, 53]
theorem fn172 : compFn Try.prog 172 keep172 = some ⟨57, 2, [(4, some (some 3)), (5, none), (6, none)], body172⟩ := by kernel_rfl

/- (chartroom/delta.Edit).sizes -/
def body173 : AC :=
  .seq (.reg [
  ⟨some 1, .box, [.tmp 0], none, [], none⟩,
  ⟨some 2, .mov, [.const (.int .i64 0)], none, [], none⟩,
  ⟨some 3, .mov, [.const (.int .i64 0)], none, [], none⟩] false [0, 1, 2, 3, 4, 8, 15])
  (.seq (.block 0 (.seq (.reg [
  ⟨some 5, (.load (some 3)), [.tmp 1], none, [], none⟩,
  ⟨some 6, (.call 174), [.tmp 5], none, [], none⟩,
  ⟨some 7, .not, [.tmp 6], none, [], none⟩,
  ⟨some 4, .mov, [.tmp 7], none, [], none⟩] false [0, 1, 2, 3, 4, 8, 15])
  (.cond (.tmp 4) (.seq (.reg [
  ⟨some 2, .mov, [.const (.int .i64 0)], none, [], none⟩,
  ⟨some 3, .mov, [.const (.int .i64 0)], none, [], none⟩] false [0, 1, 2, 3, 4, 8, 15])
  (.ret)) (.seq (.reg [
  ⟨some 9, (.fad 0), [.tmp 1], none, [], none⟩,
  ⟨some 10, (.load none), [.tmp 9], none, [], none⟩,
  ⟨some 11, (.bin .eql), [.tmp 10, .const (.int .u8 2)], none, [], none⟩,
  ⟨some 8, .mov, [.tmp 11], none, [], none⟩] false [0, 1, 2, 3, 4, 8, 15])
  (.cond (.tmp 8) (.seq (.reg [
  ⟨some 12, (.fad 2), [.tmp 1], none, [], none⟩,
  ⟨some 13, (.load none), [.tmp 12], none, [], none⟩,
  ⟨some 14, .slen, [.tmp 13], none, [], none⟩,
  ⟨some 2, .mov, [.const (.int .i64 0)], none, [], none⟩,
  ⟨some 3, .mov, [.tmp 14], none, [], none⟩] true [0, 1, 2, 3, 4, 8, 15])
  (.ret)) (.seq (.reg [
  ⟨some 16, (.fad 0), [.tmp 1], none, [], none⟩,
  ⟨some 17, (.load none), [.tmp 16], none, [], none⟩,
  ⟨some 18, (.bin .eql), [.tmp 17, .const (.int .u8 3)], none, [], none⟩,
  ⟨some 15, .mov, [.tmp 18], none, [], none⟩] false [0, 1, 2, 3, 4, 8, 15])
  (.cond (.tmp 15) (.seq (.reg [
  ⟨some 19, (.fad 1), [.tmp 1], none, [], none⟩,
  ⟨some 20, (.load none), [.tmp 19], none, [], none⟩,
  ⟨some 2, .mov, [.tmp 20], none, [], none⟩,
  ⟨some 3, .mov, [.const (.int .i64 0)], none, [], none⟩] false [0, 1, 2, 3, 4, 8, 15])
  (.ret)) (.skip))))))))
  (.seq (.reg [
  ⟨some 21, (.fad 1), [.tmp 1], none, [], none⟩,
  ⟨some 22, (.load none), [.tmp 21], none, [], none⟩,
  ⟨some 23, (.fad 1), [.tmp 1], none, [], none⟩,
  ⟨some 24, (.load none), [.tmp 23], none, [], none⟩,
  ⟨some 2, .mov, [.tmp 22], none, [], none⟩,
  ⟨some 3, .mov, [.tmp 24], none, [], none⟩] true [0, 1, 2, 3, 4, 8, 15])
  (.ret)))
def keep173 : List Nat := [0, 1, 2, 3, 4, 8, 15]
theorem fn173 : compFn Try.prog 173 keep173 = some ⟨25, 1, [(2, none), (3, none)], body173⟩ := by kernel_rfl

/- (chartroom/delta.Edit).right -/
def body174 : AC :=
  .seq (.reg [
  ⟨some 1, .box, [.tmp 0], none, [], none⟩,
  ⟨some 2, .mov, [.const (.bool false)], none, [], none⟩] false [0, 1, 2, 4, 5, 21])
  (.seq (.seq (.reg [
  ⟨some 3, (.fad 0), [.tmp 1], none, [], none⟩,
  ⟨some 4, (.load none), [.tmp 3], none, [], none⟩] false [0, 1, 2, 4, 5, 21])
  (.block 0 (.seq (.seq (.reg [
  ⟨some 6, (.bin .eql), [.tmp 4, .const (.int .u8 1)], none, [], none⟩,
  ⟨some 5, .mov, [.tmp 6], none, [], none⟩] false [0, 1, 2, 4, 5, 21])
  (.cond (.tmp 5) (.skip) (.reg [
  ⟨some 7, (.bin .eql), [.tmp 4, .const (.int .u8 3)], none, [], none⟩,
  ⟨some 5, .mov, [.tmp 7], none, [], none⟩] false [0, 1, 2, 4, 5, 21])))
  (.cond (.tmp 5) (.seq (.reg [
  ⟨some 8, (.fad 1), [.tmp 1], none, [], none⟩,
  ⟨some 9, (.load none), [.tmp 8], none, [], none⟩,
  ⟨some 10, (.bin .gtr), [.tmp 9, .const (.int .i64 0)], none, [], none⟩,
  ⟨some 11, .mov, [.tmp 10], none, [], none⟩,
  ⟨some 12, (.fad 1), [.tmp 1], some (11, true), [], none⟩,
  ⟨some 13, (.load none), [.tmp 12], some (11, true), [], none⟩,
  ⟨some 14, (.bin .leq), [.tmp 13, .const (.int .i64 2147483647)], some (11, true), [], none⟩,
  ⟨some 15, .pick, [.tmp 11, .tmp 14, .const (.bool false)], none, [], none⟩,
  ⟨some 16, .mov, [.tmp 15], none, [], none⟩,
  ⟨some 17, (.fad 2), [.tmp 1], some (16, true), [], none⟩,
  ⟨some 18, (.load none), [.tmp 17], some (16, true), [], none⟩,
  ⟨some 19, (.bin .eql), [.tmp 18, .const (.string ⟨#[]⟩)], some (16, true), [], none⟩,
  ⟨some 20, .pick, [.tmp 16, .tmp 19, .const (.bool false)], none, [], none⟩,
  ⟨some 2, .mov, [.tmp 20], none, [], none⟩] false [0, 1, 2, 4, 5, 21])
  (.ret)) (.seq (.reg [
  ⟨some 22, (.bin .eql), [.tmp 4, .const (.int .u8 2)], none, [], none⟩,
  ⟨some 21, .mov, [.tmp 22], none, [], none⟩] false [0, 1, 2, 4, 5, 21])
  (.cond (.tmp 21) (.seq (.reg [
  ⟨some 23, (.fad 1), [.tmp 1], none, [], none⟩,
  ⟨some 24, (.load none), [.tmp 23], none, [], none⟩,
  ⟨some 25, (.bin .eql), [.tmp 24, .const (.int .i64 0)], none, [], none⟩,
  ⟨some 26, .mov, [.tmp 25], none, [], none⟩,
  ⟨some 27, (.fad 2), [.tmp 1], some (26, true), [], none⟩,
  ⟨some 28, (.load none), [.tmp 27], some (26, true), [], none⟩,
  ⟨some 29, (.bin .neq), [.tmp 28, .const (.string ⟨#[]⟩)], some (26, true), [], none⟩,
  ⟨some 30, .pick, [.tmp 26, .tmp 29, .const (.bool false)], none, [], none⟩,
  ⟨some 2, .mov, [.tmp 30], none, [], none⟩] false [0, 1, 2, 4, 5, 21])
  (.ret)) (.skip)))))))
  (.seq (.reg [
  ⟨some 2, .mov, [.const (.bool false)], none, [], none⟩] false [0, 1, 2, 4, 5, 21])
  (.ret)))
def keep174 : List Nat := [0, 1, 2, 4, 5, 21]
theorem fn174 : compFn Try.prog 174 keep174 = some ⟨31, 1, [(2, none)], body174⟩ := by kernel_rfl

/- slices.ContainsFunc[[]chartroom/delta.Edit,chartroom/delta.Edit] -/
def body177 : AC :=
  .seq (.reg [
  ⟨some 4, .mov, [.const (.bool false)], none, [], none⟩] false [0, 1, 4])
  (.seq (.reg [
  ⟨some 5, .mov, [.tmp 0], none, [], none⟩,
  ⟨some 6, .mov, [.tmp 1], none, [], none⟩,
  ⟨some 7, (.call 196), [.tmp 5, .tmp 6], none, [], none⟩,
  ⟨some 8, (.bin .geq), [.tmp 7, .const (.int .i64 0)], none, [], none⟩,
  ⟨some 4, .mov, [.tmp 8], none, [], none⟩] false [0, 1, 4])
  (.ret))
def keep177 : List Nat := [0, 1, 4]
theorem fn177 : compFn Try.prog 177 keep177 = some ⟨9, 2, [(4, none)], body177⟩ := by kernel_rfl

/- chartroom/delta.Right$1 -/
def body178 : AC :=
  .seq (.reg [
  ⟨some 1, .box, [.tmp 0], none, [], none⟩,
  ⟨some 2, .mov, [.const (.bool false)], none, [], none⟩] false [0, 1, 2])
  (.seq (.reg [
  ⟨some 3, (.load (some 3)), [.tmp 1], none, [], none⟩,
  ⟨some 4, (.call 174), [.tmp 3], none, [], none⟩,
  ⟨some 5, .not, [.tmp 4], none, [], none⟩,
  ⟨some 2, .mov, [.tmp 5], none, [], none⟩] false [0, 1, 2])
  (.ret))
def keep178 : List Nat := [0, 1, 2]
theorem fn178 : compFn Try.prog 178 keep178 = some ⟨6, 1, [(2, none)], body178⟩ := by kernel_rfl

/- slices.IndexFunc[[]chartroom/delta.Edit,chartroom/delta.Edit] -/
def body196 : AC :=
  .seq (.reg [
  ⟨some 4, .mov, [.const (.int .i64 0)], none, [], none⟩] false [0, 1, 4, 5, 7, 8, 9, 16])
  (.seq (.seq (.reg [
  ⟨some 6, .mov, [.tmp 0], none, [], none⟩,
  ⟨some 7, .len, [.tmp 6], none, [], none⟩,
  ⟨some 8, .mov, [.const (.int .i64 0)], none, [], none⟩] false [0, 1, 4, 5, 7, 8, 9, 16])
  (.block 0 (.loop (.seq (.reg [
   ⟨some 9, (.bin .lss), [.tmp 8, .tmp 7], none, [], none⟩] false [0, 1, 4, 5, 7, 8, 9, 16])
   (.seq (.cond (.tmp 9) (.skip) (.exit 0))
   (.seq (.block 1 (.seq (.reg [
   ⟨some 10, .mov, [.tmp 8], none, [], none⟩,
   ⟨some 5, .mov, [.tmp 10], none, [], none⟩] false [0, 1, 4, 5, 7, 8, 9, 16])
   (.seq (.reg [
   ⟨some 11, .mov, [.tmp 1], none, [], none⟩,
   ⟨some 12, .mov, [.tmp 0], none, [], none⟩,
   ⟨some 13, .mov, [.tmp 5], none, [], none⟩,
   ⟨some 14, (.ixa 183 3), [.tmp 12, .tmp 13], none, [], none⟩,
   ⟨some 15, (.load (some 3)), [.tmp 14], none, [], none⟩,
   ⟨some 16, .calv, [.tmp 11, .tmp 15], none, [], none⟩] false [0, 1, 4, 5, 7, 8, 9, 16])
   (.cond (.tmp 16) (.seq (.reg [
   ⟨some 17, .mov, [.tmp 5], none, [], none⟩,
   ⟨some 4, .mov, [.tmp 17], none, [], none⟩] false [0, 1, 4, 5, 7, 8, 9, 16])
   (.ret)) (.skip)))))
   (.reg [
   ⟨some 18, (.bin .add), [.tmp 8, .const (.int .i64 1)], none, [], none⟩,
   ⟨some 8, .mov, [.tmp 18], none, [], none⟩] false [0, 1, 4, 5, 7, 8, 9, 16])))))))
  (.seq (.reg [
  ⟨some 4, .mov, [.const (.int .i64 (-1))], none, [], none⟩] false [0, 1, 4, 5, 7, 8, 9, 16])
  (.ret)))
def keep196 : List Nat := [0, 1, 4, 5, 7, 8, 9, 16]
theorem fn196 : compFn Try.prog 196 keep196 = some ⟨19, 2, [(4, none)], body196⟩ := by kernel_rfl

end Go.Proofs.Ytfpmjcdcpicmaaa.Ab
