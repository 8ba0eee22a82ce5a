/- The code of the functions, in the abstract machine's form (printed by wip/mk.py). -/
import Derived.Test.YtfpmjcdcpicmaaaAb21
import Derived.Test.YtfpmjcdcpicmaaaChecked
namespace Go.Proofs.Ytfpmjcdcpicmaaa.Ab
open Go Go.RowKit
set_option maxRecDepth 100000

/- math/bits.Len -/
def body169 : AC :=
  .seq (.reg [
  ⟨some 2, .mov, [.const (.int .i64 0)], none, [], none⟩] false [0, 2])
  (.seq (.cond (.const (.bool false)) (.seq (.reg [
  ⟨some 3, .mov, [.tmp 0], none, [], none⟩,
  ⟨some 4, (.cvi .u32), [.tmp 3], none, [], none⟩,
  ⟨some 5, (.call 192), [.tmp 4], none, [], none⟩,
  ⟨some 2, .mov, [.tmp 5], none, [], none⟩] false [0, 2])
  (.ret)) (.skip))
  (.seq (.reg [
  ⟨some 6, .mov, [.tmp 0], none, [], none⟩,
  ⟨some 7, (.call 193), [.tmp 6], none, [], none⟩,
  ⟨some 2, .mov, [.tmp 7], none, [], none⟩] false [0, 2])
  (.ret)))
def keep169 : List Nat := [0, 2]
theorem fn169 : compFn Try.prog 169 keep169 = some ⟨8, 1, [(2, none)], body169⟩ := by kernel_rfl

/- cmp.Less[uint64] -/
def body189 : AC :=
  .seq (.reg [
  ⟨some 4, .mov, [.const (.bool false)], none, [], none⟩] false [0, 1, 4])
  (.seq (.reg [
  ⟨some 5, .mov, [.tmp 0], none, [], none⟩,
  ⟨some 6, (.call 203), [.tmp 5], none, [], none⟩,
  ⟨some 7, .mov, [.tmp 6], none, [], none⟩,
  ⟨some 8, .mov, [.tmp 1], some (7, true), [], none⟩,
  ⟨some 9, (.call 203), [.tmp 8], some (7, true), [], none⟩,
  ⟨some 10, .not, [.tmp 9], some (7, true), [], none⟩,
  ⟨some 11, .pick, [.tmp 7, .tmp 10, .const (.bool false)], none, [], none⟩,
  ⟨some 12, .mov, [.tmp 11], none, [], none⟩,
  ⟨some 13, .mov, [.tmp 0], some (12, false), [], none⟩,
  ⟨some 14, .mov, [.tmp 1], some (12, false), [], none⟩,
  ⟨some 15, (.bin .lss), [.tmp 13, .tmp 14], some (12, false), [], none⟩,
  ⟨some 16, .pick, [.tmp 12, .const (.bool true), .tmp 15], none, [], none⟩,
  ⟨some 4, .mov, [.tmp 16], none, [], none⟩] false [0, 1, 4])
  (.ret))
def keep189 : List Nat := [0, 1, 4]
theorem fn189 : compFn Try.prog 189 keep189 = some ⟨17, 2, [(4, none)], body189⟩ := by kernel_rfl

/- math/bits.Len64 -/
def body193 : AC :=
  .seq (.reg [
  ⟨some 2, .mov, [.const (.int .i64 0)], none, [], none⟩] false [0, 2, 4, 8, 14])
  (.seq (.seq (.reg [
  ⟨some 3, .mov, [.tmp 0], none, [], none⟩,
  ⟨some 4, (.bin .geq), [.tmp 3, .const (.int .u64 4294967296)], none, [], none⟩] false [0, 2, 4, 8, 14])
  (.cond (.tmp 4) (.seq (.reg [
  ⟨some 5, .mov, [.tmp 0], none, [], none⟩,
  ⟨some 6, (.bin .shr), [.tmp 5, .const (.int .u64 32)], none, [], none⟩,
  ⟨some 0, .mov, [.tmp 6], none, [], none⟩] false [0, 2, 4, 8, 14])
  (.reg [
  ⟨some 2, .mov, [.const (.int .i64 32)], none, [], none⟩] false [0, 2, 4, 8, 14])) (.skip)))
  (.seq (.seq (.reg [
  ⟨some 7, .mov, [.tmp 0], none, [], none⟩,
  ⟨some 8, (.bin .geq), [.tmp 7, .const (.int .u64 65536)], none, [], none⟩] false [0, 2, 4, 8, 14])
  (.cond (.tmp 8) (.seq (.reg [
  ⟨some 9, .mov, [.tmp 0], none, [], none⟩,
  ⟨some 10, (.bin .shr), [.tmp 9, .const (.int .u64 16)], none, [], none⟩,
  ⟨some 0, .mov, [.tmp 10], none, [], none⟩] false [0, 2, 4, 8, 14])
  (.reg [
  ⟨some 11, .mov, [.tmp 2], none, [], none⟩,
  ⟨some 12, (.bin .add), [.tmp 11, .const (.int .i64 16)], none, [], none⟩,
  ⟨some 2, .mov, [.tmp 12], none, [], none⟩] false [0, 2, 4, 8, 14])) (.skip)))
  (.seq (.seq (.reg [
  ⟨some 13, .mov, [.tmp 0], none, [], none⟩,
  ⟨some 14, (.bin .geq), [.tmp 13, .const (.int .u64 256)], none, [], none⟩] false [0, 2, 4, 8, 14])
  (.cond (.tmp 14) (.seq (.reg [
  ⟨some 15, .mov, [.tmp 0], none, [], none⟩,
  ⟨some 16, (.bin .shr), [.tmp 15, .const (.int .u64 8)], none, [], none⟩,
  ⟨some 0, .mov, [.tmp 16], none, [], none⟩] false [0, 2, 4, 8, 14])
  (.reg [
  ⟨some 17, .mov, [.tmp 2], none, [], none⟩,
  ⟨some 18, (.bin .add), [.tmp 17, .const (.int .i64 8)], none, [], none⟩,
  ⟨some 2, .mov, [.tmp 18], none, [], none⟩] false [0, 2, 4, 8, 14])) (.skip)))
  (.seq (.reg [
  ⟨some 19, .mov, [.tmp 2], none, [], none⟩,
  ⟨some 20, .mov, [.tmp 0], none, [], none⟩,
  ⟨some 21, (.cvi .u8), [.tmp 20], none, [], none⟩,
  ⟨some 22, .sidx, [.const (.string ⟨#[0, 1, 2, 2, 3, 3, 3, 3, 4, 4, 4, 4, 4, 4, 4, 4, 5, 5, 5, 5, 5, 5, 5, 5, 5, 5, 5, 5, 5, 5, 5, 5, 6, 6, 6, 6, 6, 6, 6, 6, 6, 6, 6, 6, 6, 6, 6, 6, 6, 6, 6, 6, 6, 6, 6, 6, 6, 6, 6, 6, 6, 6, 6, 6, 7, 7, 7, 7, 7, 7, 7, 7, 7, 7, 7, 7, 7, 7, 7, 7, 7, 7, 7, 7, 7, 7, 7, 7, 7, 7, 7, 7, 7, 7, 7, 7, 7, 7, 7, 7, 7, 7, 7, 7, 7, 7, 7, 7, 7, 7, 7, 7, 7, 7, 7, 7, 7, 7, 7, 7, 7, 7, 7, 7, 7, 7, 7, 7, 8, 8, 8, 8, 8, 8, 8, 8, 8, 8, 8, 8, 8, 8, 8, 8, 8, 8, 8, 8, 8, 8, 8, 8, 8, 8, 8, 8, 8, 8, 8, 8, 8, 8, 8, 8, 8, 8, 8, 8, 8, 8, 8, 8, 8, 8, 8, 8, 8, 8, 8, 8, 8, 8, 8, 8, 8, 8, 8, 8, 8, 8, 8, 8, 8, 8, 8, 8, 8, 8, 8, 8, 8, 8, 8, 8, 8, 8, 8, 8, 8, 8, 8, 8, 8, 8, 8, 8, 8, 8, 8, 8, 8, 8, 8, 8, 8, 8, 8, 8, 8, 8, 8, 8, 8, 8, 8, 8, 8, 8, 8, 8, 8, 8, 8, 8, 8, 8, 8, 8, 8, 8, 8, 8, 8, 8, 8, 8]⟩), .tmp 21], none, [], none⟩,
  ⟨some 23, (.cvi .i64), [.tmp 22], none, [], none⟩,
  ⟨some 24, (.bin .add), [.tmp 19, .tmp 23], none, [], none⟩,
  ⟨some 2, .mov, [.tmp 24], none, [], none⟩] false [0, 2, 4, 8, 14])
  (.ret)))))
def keep193 : List Nat := [0, 2, 4, 8, 14]
theorem fn193 : compFn Try.prog 193 keep193 = some ⟨25, 1, [(2, none)], body193⟩ := by kernel_rfl

/- cmp.isNaN[uint64] -/
def body203 : AC :=
  .seq (.reg [
  ⟨some 2, .mov, [.const (.bool false)], none, [], none⟩] false [0, 2])
  (.seq (.reg [
  ⟨some 3, .mov, [.tmp 0], none, [], none⟩,
  ⟨some 4, .mov, [.tmp 0], none, [], none⟩,
  ⟨some 5, (.bin .neq), [.tmp 3, .tmp 4], none, [], none⟩,
  ⟨some 2, .mov, [.tmp 5], none, [], none⟩] false [0, 2])
  (.ret))
def keep203 : List Nat := [0, 2]
theorem fn203 : compFn Try.prog 203 keep203 = some ⟨6, 1, [(2, none)], body203⟩ := by kernel_rfl

end Go.Proofs.Ytfpmjcdcpicmaaa.Ab
