/- The code of the functions, in the abstract machine's form (printed by wip/mk.py). -/
import Derived.Test.YtfpmjcdcpicmaaaAb21
import Derived.Test.YtfpmjcdcpicmaaaChecked
namespace Go.Proofs.Ytfpmjcdcpicmaaa.Ab
open Go Go.RowKit
set_option maxRecDepth 100000

/- chartroom/journal.Of -/
def body70 : AC :=
  .seq (.reg [
  ⟨some 2, (.alloc [(.int .u64 0), (.int .u64 0)]), [], none, [], none⟩] false [0, 2])
  (.seq (.reg [
  ⟨some 3, .mov, [.tmp 0], none, [], none⟩,
  ⟨some 4, .len, [.tmp 3], none, [], none⟩,
  ⟨some 5, (.cvi .u64), [.tmp 4], none, [], none⟩,
  ⟨some 6, .mov, [.tmp 0], none, [], none⟩,
  ⟨some 7, (.bsl 54 1), [.tmp 6], none, [], none⟩,
  ⟨some 8, (.call 127), [.tmp 7], none, [], none⟩,
  ⟨some 9, (.cvi .u64), [.tmp 8], none, [], none⟩,
  ⟨some 10, (.bld [(.int .u64 0), (.int .u64 0)] [(0, 1), (1, 1)]), [.tmp 5, .tmp 9], none, [], none⟩,
  ⟨none, (.store (some 2)), [.tmp 2, .tmp 10], none, [], none⟩] false [0, 2])
  (.ret))
def keep70 : List Nat := [0, 2]
theorem fn70 : compFn Try.prog 70 keep70 = some ⟨11, 1, [(2, some (some 2))], body70⟩ := by kernel_rfl

/- chartroom/crc.Sum -/
def body127 : AC :=
  .seq (.reg [
  ⟨some 2, .mov, [.const (.int .u32 0)], none, [], none⟩] false [0, 2, 3, 4, 6, 8, 9, 10, 11])
  (.seq (.reg [
  ⟨some 7, (.call 161), [], none, [], none⟩,
  ⟨some 3, (.alloc (List.replicate 256 (Value.int .u32 0))), [], none, [], none⟩,
  ⟨none, (.store (some 256)), [.tmp 3, .tmp 7], none, [], none⟩] false [0, 2, 3, 4, 6, 8, 9, 10, 11])
  (.seq (.reg [
  ⟨some 4, .mov, [.const (.int .u32 0)], none, [], none⟩] false [0, 2, 3, 4, 6, 8, 9, 10, 11])
  (.seq (.seq (.reg [
  ⟨some 8, .mov, [.tmp 0], none, [], none⟩,
  ⟨some 9, .len, [.tmp 8], none, [], none⟩,
  ⟨some 10, .mov, [.const (.int .i64 0)], none, [], none⟩] false [0, 2, 3, 4, 6, 8, 9, 10, 11])
  (.block 0 (.loop (.seq (.reg [
   ⟨some 11, (.bin .lss), [.tmp 10, .tmp 9], none, [], none⟩] false [0, 2, 3, 4, 6, 8, 9, 10, 11])
   (.seq (.cond (.tmp 11) (.skip) (.exit 0))
   (.seq (.block 1 (.seq (.reg [
   ⟨some 12, (.ixa 54 1), [.tmp 8, .tmp 10], none, [], none⟩,
   ⟨some 13, (.load none), [.tmp 12], none, [], none⟩,
   ⟨some 6, .mov, [.tmp 13], none, [], none⟩] false [0, 2, 3, 4, 6, 8, 9, 10, 11])
   (.reg [
   ⟨some 14, .mov, [.tmp 4], none, [], none⟩,
   ⟨some 15, .mov, [.tmp 6], none, [], none⟩,
   ⟨some 16, (.call 162), [.tmp 3, .tmp 14, .tmp 15], none, [], none⟩,
   ⟨some 4, .mov, [.tmp 16], none, [], none⟩] false [0, 2, 3, 4, 6, 8, 9, 10, 11])))
   (.reg [
   ⟨some 17, (.bin .add), [.tmp 10, .const (.int .i64 1)], none, [], none⟩,
   ⟨some 10, .mov, [.tmp 17], none, [], none⟩] false [0, 2, 3, 4, 6, 8, 9, 10, 11])))))))
  (.seq (.reg [
  ⟨some 18, .mov, [.tmp 4], none, [], none⟩,
  ⟨some 2, .mov, [.tmp 18], none, [], none⟩] false [0, 2, 3, 4, 6, 8, 9, 10, 11])
  (.ret)))))
def keep127 : List Nat := [0, 2, 3, 4, 6, 8, 9, 10, 11]
theorem fn127 : compFn Try.prog 127 keep127 = some ⟨19, 1, [(2, none)], body127⟩ := by kernel_rfl

/- chartroom/crc.Table -/
def body161 : AC :=
  .seq (.reg [
  ⟨some 0, (.alloc (List.replicate 256 (Value.int .u32 0))), [], none, [], none⟩] false [0, 1, 2, 3, 4, 5, 9, 10])
  (.seq (.reg [
  ⟨some 1, (.alloc (List.replicate 256 (Value.int .u32 0))), [], none, [], none⟩] false [0, 1, 2, 3, 4, 5, 9, 10])
  (.seq (.seq (.reg [
  ⟨some 4, .mov, [.const (.int .i64 0)], none, [], none⟩] false [0, 1, 2, 3, 4, 5, 9, 10])
  (.block 0 (.loop (.seq (.reg [
   ⟨some 5, (.bin .lss), [.tmp 4, .const (.int .i64 256)], none, [], none⟩] false [0, 1, 2, 3, 4, 5, 9, 10])
   (.seq (.cond (.tmp 5) (.skip) (.exit 0))
   (.seq (.block 1 (.seq (.reg [
   ⟨some 6, .mov, [.tmp 4], none, [], none⟩,
   ⟨some 2, .mov, [.tmp 6], none, [], none⟩] false [0, 1, 2, 3, 4, 5, 9, 10])
   (.seq (.reg [
   ⟨some 7, .mov, [.tmp 2], none, [], none⟩,
   ⟨some 8, (.cvi .u32), [.tmp 7], none, [], none⟩,
   ⟨some 3, .mov, [.tmp 8], none, [], none⟩] false [0, 1, 2, 3, 4, 5, 9, 10])
   (.seq (.seq (.reg [
   ⟨some 9, .mov, [.const (.int .i64 0)], none, [], none⟩] false [0, 1, 2, 3, 4, 5, 9, 10])
   (.block 2 (.loop (.seq (.reg [
    ⟨some 10, (.bin .lss), [.tmp 9, .const (.int .i64 8)], none, [], none⟩] false [0, 1, 2, 3, 4, 5, 9, 10])
    (.seq (.cond (.tmp 10) (.skip) (.exit 2))
    (.seq (.block 3 (.reg [
    ⟨some 11, .mov, [.tmp 3], none, [], none⟩,
    ⟨some 12, (.bin .shr), [.tmp 11, .const (.int .u64 1)], none, [], none⟩,
    ⟨some 13, .mov, [.tmp 3], none, [], none⟩,
    ⟨some 14, (.bin .and), [.tmp 13, .const (.int .u32 1)], none, [], none⟩,
    ⟨some 15, .neg, [.tmp 14], none, [], none⟩,
    ⟨some 16, (.bin .and), [.const (.int .u32 2197175160), .tmp 15], none, [], none⟩,
    ⟨some 17, (.bin .xor), [.tmp 12, .tmp 16], none, [], none⟩,
    ⟨some 3, .mov, [.tmp 17], none, [], none⟩] false [0, 1, 2, 3, 4, 5, 9, 10]))
    (.reg [
    ⟨some 18, (.bin .add), [.tmp 9, .const (.int .i64 1)], none, [], none⟩,
    ⟨some 9, .mov, [.tmp 18], none, [], none⟩] false [0, 1, 2, 3, 4, 5, 9, 10])))))))
   (.reg [
   ⟨some 19, .mov, [.tmp 2], none, [], none⟩,
   ⟨some 20, .mov, [.tmp 3], none, [], none⟩,
   ⟨some 21, (.ixp 256 1), [.tmp 1, .tmp 19], none, [], none⟩,
   ⟨none, (.store none), [.tmp 21, .tmp 20], none, [], none⟩] false [0, 1, 2, 3, 4, 5, 9, 10])))))
   (.reg [
   ⟨some 22, (.bin .add), [.tmp 4, .const (.int .i64 1)], none, [], none⟩,
   ⟨some 4, .mov, [.tmp 22], none, [], none⟩] false [0, 1, 2, 3, 4, 5, 9, 10])))))))
  (.seq (.reg [
  ⟨some 23, (.load (some 256)), [.tmp 1], none, [], none⟩,
  ⟨none, (.store (some 256)), [.tmp 0, .tmp 23], none, [], none⟩] false [0, 1, 2, 3, 4, 5, 9, 10])
  (.ret))))
def keep161 : List Nat := [0, 1, 2, 3, 4, 5, 9, 10]
theorem fn161 : compFn Try.prog 161 keep161 = some ⟨24, 0, [(0, some (some 256))], body161⟩ := by kernel_rfl

/- chartroom/crc.update -/
def body162 : AC :=
  .seq (.reg [
  ⟨some 6, .mov, [.const (.int .u32 0)], none, [], none⟩] false [0, 1, 2, 6, 8, 11, 12, 13, 14])
  (.seq (.reg [
  ⟨some 9, .mov, [.tmp 1], none, [], none⟩,
  ⟨some 10, (.bin .xor), [.tmp 9, .const (.int .u32 4294967295)], none, [], none⟩,
  ⟨some 1, .mov, [.tmp 10], none, [], none⟩] false [0, 1, 2, 6, 8, 11, 12, 13, 14])
  (.seq (.seq (.reg [
  ⟨some 11, .mov, [.tmp 2], none, [], none⟩,
  ⟨some 12, .len, [.tmp 11], none, [], none⟩,
  ⟨some 13, .mov, [.const (.int .i64 0)], none, [], none⟩] false [0, 1, 2, 6, 8, 11, 12, 13, 14])
  (.block 0 (.loop (.seq (.reg [
   ⟨some 14, (.bin .lss), [.tmp 13, .tmp 12], none, [], none⟩] false [0, 1, 2, 6, 8, 11, 12, 13, 14])
   (.seq (.cond (.tmp 14) (.skip) (.exit 0))
   (.seq (.block 1 (.seq (.reg [
   ⟨some 15, (.ixa 5 1), [.tmp 11, .tmp 13], none, [], none⟩,
   ⟨some 16, (.load none), [.tmp 15], none, [], none⟩,
   ⟨some 8, .mov, [.tmp 16], none, [], none⟩] false [0, 1, 2, 6, 8, 11, 12, 13, 14])
   (.reg [
   ⟨some 17, .mov, [.tmp 0], none, [], none⟩,
   ⟨some 18, .mov, [.tmp 1], none, [], none⟩,
   ⟨some 19, (.cvi .u8), [.tmp 18], none, [], none⟩,
   ⟨some 20, .mov, [.tmp 8], none, [], none⟩,
   ⟨some 21, (.bin .xor), [.tmp 19, .tmp 20], none, [], none⟩,
   ⟨some 22, .nck, [.tmp 17], none, [], none⟩,
   ⟨some 23, (.ixp 256 1), [.tmp 22, .tmp 21], none, [], none⟩,
   ⟨some 24, (.load none), [.tmp 23], none, [], none⟩,
   ⟨some 25, .mov, [.tmp 1], none, [], none⟩,
   ⟨some 26, (.bin .shr), [.tmp 25, .const (.int .u64 8)], none, [], none⟩,
   ⟨some 27, (.bin .xor), [.tmp 24, .tmp 26], none, [], none⟩,
   ⟨some 1, .mov, [.tmp 27], none, [], none⟩] false [0, 1, 2, 6, 8, 11, 12, 13, 14])))
   (.reg [
   ⟨some 28, (.bin .add), [.tmp 13, .const (.int .i64 1)], none, [], none⟩,
   ⟨some 13, .mov, [.tmp 28], none, [], none⟩] false [0, 1, 2, 6, 8, 11, 12, 13, 14])))))))
  (.seq (.reg [
  ⟨some 29, .mov, [.tmp 1], none, [], none⟩,
  ⟨some 30, (.bin .xor), [.tmp 29, .const (.int .u32 4294967295)], none, [], none⟩,
  ⟨some 6, .mov, [.tmp 30], none, [], none⟩] false [0, 1, 2, 6, 8, 11, 12, 13, 14])
  (.ret))))
def keep162 : List Nat := [0, 1, 2, 6, 8, 11, 12, 13, 14]
theorem fn162 : compFn Try.prog 162 keep162 = some ⟨31, 3, [(6, none)], body162⟩ := by kernel_rfl

/- chartroom/chartroomref11.Of -/
def body163 : AC :=
  .seq (.reg [
  ⟨some 2, (.alloc [(.int .u64 0), (.int .u64 0)]), [], none, [], none⟩] false [0, 2])
  (.seq (.reg [
  ⟨some 3, .mov, [.tmp 0], none, [], none⟩,
  ⟨some 4, .len, [.tmp 3], none, [], none⟩,
  ⟨some 5, (.cvi .u64), [.tmp 4], none, [], none⟩,
  ⟨some 6, .mov, [.tmp 0], none, [], none⟩,
  ⟨some 7, (.bsl 54 1), [.tmp 6], none, [], none⟩,
  ⟨some 8, (.call 179), [.tmp 7], none, [], none⟩,
  ⟨some 9, (.cvi .u64), [.tmp 8], none, [], none⟩,
  ⟨some 10, (.bld [(.int .u64 0), (.int .u64 0)] [(0, 1), (1, 1)]), [.tmp 5, .tmp 9], none, [], none⟩,
  ⟨none, (.store (some 2)), [.tmp 2, .tmp 10], none, [], none⟩] false [0, 2])
  (.ret))
def keep163 : List Nat := [0, 2]
theorem fn163 : compFn Try.prog 163 keep163 = some ⟨11, 1, [(2, some (some 2))], body163⟩ := by kernel_rfl

/- chartroom/chartroomref02.Sum -/
def body179 : AC :=
  .seq (.reg [
  ⟨some 2, .mov, [.const (.int .u32 0)], none, [], none⟩] false [0, 2, 3, 4, 8])
  (.seq (.reg [
  ⟨some 3, (.nilS 5), [], none, [], none⟩] false [0, 2, 3, 4, 8])
  (.seq (.seq (.reg [
  ⟨some 4, .mov, [.const (.int .i64 0)], none, [], none⟩] false [0, 2, 3, 4, 8])
  (.block 0 (.loop (.seq (.seq (.reg [
   ⟨some 5, .mov, [.tmp 4], none, [], none⟩,
   ⟨some 6, .mov, [.tmp 0], none, [], none⟩,
   ⟨some 7, .len, [.tmp 6], none, [], none⟩,
   ⟨some 8, (.bin .lss), [.tmp 5, .tmp 7], none, [], none⟩] false [0, 2, 3, 4, 8])
   (.cond (.tmp 8) (.skip) (.exit 0)))
   (.seq (.block 1 (.reg [
   ⟨some 11, .mov, [.tmp 3], none, [], none⟩,
   ⟨some 12, .mov, [.tmp 0], none, [], none⟩,
   ⟨some 13, .mov, [.tmp 4], none, [], none⟩,
   ⟨some 14, (.ixa 54 1), [.tmp 12, .tmp 13], none, [], none⟩,
   ⟨some 15, (.load none), [.tmp 14], none, [], none⟩,
   ⟨some 16, (.app 5 1 1), [.tmp 11, .tmp 15], none, [], none⟩,
   ⟨some 3, .mov, [.tmp 16], none, [], none⟩] false [0, 2, 3, 4, 8]))
   (.reg [
   ⟨some 9, .mov, [.tmp 4], none, [], none⟩,
   ⟨some 10, (.bin .add), [.tmp 9, .const (.int .i64 1)], none, [], none⟩,
   ⟨some 4, .mov, [.tmp 10], none, [], none⟩] false [0, 2, 3, 4, 8]))))))
  (.seq (.reg [
  ⟨some 17, .mov, [.tmp 3], none, [], none⟩,
  ⟨some 18, (.call 197), [.const (.int .u32 0), .tmp 17], none, [], none⟩,
  ⟨some 2, .mov, [.tmp 18], none, [], none⟩] false [0, 2, 3, 4, 8])
  (.ret))))
def keep179 : List Nat := [0, 2, 3, 4, 8]
theorem fn179 : compFn Try.prog 179 keep179 = some ⟨19, 1, [(2, none)], body179⟩ := by kernel_rfl

/- chartroom/chartroomref02.Update -/
def body197 : AC :=
  .seq (.reg [
  ⟨some 4, .mov, [.const (.int .u32 0)], none, [], none⟩] false [0, 1, 4, 5, 6, 7, 13, 17])
  (.seq (.reg [
  ⟨some 8, .mov, [.tmp 0], none, [], none⟩,
  ⟨some 9, (.bin .xor), [.tmp 8, .const (.int .u32 4294967295)], none, [], none⟩,
  ⟨some 0, .mov, [.tmp 9], none, [], none⟩] false [0, 1, 4, 5, 6, 7, 13, 17])
  (.seq (.seq (.reg [
  ⟨some 5, .mov, [.const (.int .i64 0)], none, [], none⟩] false [0, 1, 4, 5, 6, 7, 13, 17])
  (.block 0 (.loop (.seq (.seq (.reg [
   ⟨some 10, .mov, [.tmp 5], none, [], none⟩,
   ⟨some 11, .mov, [.tmp 1], none, [], none⟩,
   ⟨some 12, .len, [.tmp 11], none, [], none⟩,
   ⟨some 13, (.bin .lss), [.tmp 10, .tmp 12], none, [], none⟩] false [0, 1, 4, 5, 6, 7, 13, 17])
   (.cond (.tmp 13) (.skip) (.exit 0)))
   (.seq (.block 1 (.seq (.reg [
   ⟨some 6, .mov, [.const (.int .i64 0)], none, [], none⟩] false [0, 1, 4, 5, 6, 7, 13, 17])
   (.block 2 (.loop (.seq (.seq (.reg [
    ⟨some 16, .mov, [.tmp 6], none, [], none⟩,
    ⟨some 17, (.bin .lss), [.tmp 16, .const (.int .i64 8)], none, [], none⟩] false [0, 1, 4, 5, 6, 7, 13, 17])
    (.cond (.tmp 17) (.skip) (.exit 2)))
    (.seq (.block 3 (.seq (.reg [
    ⟨some 20, .mov, [.tmp 1], none, [], none⟩,
    ⟨some 21, .mov, [.tmp 5], none, [], none⟩,
    ⟨some 22, (.ixa 5 1), [.tmp 20, .tmp 21], none, [], none⟩,
    ⟨some 23, (.load none), [.tmp 22], none, [], none⟩,
    ⟨some 24, .mov, [.tmp 6], none, [], none⟩,
    ⟨some 25, (.bin .shr), [.tmp 23, .tmp 24], none, [], none⟩,
    ⟨some 26, (.cvi .u32), [.tmp 25], none, [], none⟩,
    ⟨some 27, (.bin .rem), [.tmp 26, .const (.int .u32 2)], none, [], none⟩,
    ⟨some 7, .mov, [.tmp 27], none, [], none⟩] false [0, 1, 4, 5, 6, 7, 13, 17])
    (.reg [
    ⟨some 28, .mov, [.tmp 0], none, [], none⟩,
    ⟨some 29, .mov, [.tmp 7], none, [], none⟩,
    ⟨some 30, (.bin .xor), [.tmp 28, .tmp 29], none, [], none⟩,
    ⟨some 31, (.call 205), [.tmp 30], none, [], none⟩,
    ⟨some 0, .mov, [.tmp 31], none, [], none⟩] false [0, 1, 4, 5, 6, 7, 13, 17])))
    (.reg [
    ⟨some 18, .mov, [.tmp 6], none, [], none⟩,
    ⟨some 19, (.bin .add), [.tmp 18, .const (.int .i64 1)], none, [], none⟩,
    ⟨some 6, .mov, [.tmp 19], none, [], none⟩] false [0, 1, 4, 5, 6, 7, 13, 17])))))))
   (.reg [
   ⟨some 14, .mov, [.tmp 5], none, [], none⟩,
   ⟨some 15, (.bin .add), [.tmp 14, .const (.int .i64 1)], none, [], none⟩,
   ⟨some 5, .mov, [.tmp 15], none, [], none⟩] false [0, 1, 4, 5, 6, 7, 13, 17]))))))
  (.seq (.reg [
  ⟨some 32, .mov, [.tmp 0], none, [], none⟩,
  ⟨some 33, (.bin .xor), [.tmp 32, .const (.int .u32 4294967295)], none, [], none⟩,
  ⟨some 4, .mov, [.tmp 33], none, [], none⟩] false [0, 1, 4, 5, 6, 7, 13, 17])
  (.ret))))
def keep197 : List Nat := [0, 1, 4, 5, 6, 7, 13, 17]
theorem fn197 : compFn Try.prog 197 keep197 = some ⟨34, 2, [(4, none)], body197⟩ := by kernel_rfl

/- chartroom/chartroomref02.Step -/
def body205 : AC :=
  .seq (.reg [
  ⟨some 2, .mov, [.const (.int .u32 0)], none, [], none⟩] false [0, 2, 5])
  (.seq (.seq (.reg [
  ⟨some 3, .mov, [.tmp 0], none, [], none⟩,
  ⟨some 4, (.bin .rem), [.tmp 3, .const (.int .u32 2)], none, [], none⟩,
  ⟨some 5, (.bin .eql), [.tmp 4, .const (.int .u32 1)], none, [], none⟩] false [0, 2, 5])
  (.cond (.tmp 5) (.seq (.reg [
  ⟨some 6, .mov, [.tmp 0], none, [], none⟩,
  ⟨some 7, (.bin .quo), [.tmp 6, .const (.int .u32 2)], none, [], none⟩,
  ⟨some 8, (.bin .xor), [.tmp 7, .const (.int .u32 2197175160)], none, [], none⟩,
  ⟨some 2, .mov, [.tmp 8], none, [], none⟩] false [0, 2, 5])
  (.ret)) (.skip)))
  (.seq (.reg [
  ⟨some 9, .mov, [.tmp 0], none, [], none⟩,
  ⟨some 10, (.bin .quo), [.tmp 9, .const (.int .u32 2)], none, [], none⟩,
  ⟨some 2, .mov, [.tmp 10], none, [], none⟩] false [0, 2, 5])
  (.ret)))
def keep205 : List Nat := [0, 2, 5]
theorem fn205 : compFn Try.prog 205 keep205 = some ⟨11, 1, [(2, none)], body205⟩ := by kernel_rfl

end Go.Proofs.Ytfpmjcdcpicmaaa.Ab
