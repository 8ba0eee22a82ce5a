/- The code of the functions, in the abstract machine's form (printed by wip/mk.py). -/
import Derived.Test.YthblkhafehanfaaAb22
import Derived.Test.YthblkhafehanfaaChecked
namespace Go.Proofs.Ythblkhafehanfaa.Ab
open Go Go.RowKit
set_option maxRecDepth 100000

/- chartroom/direct.New -/
def body13 : AC :=
  .seq (.reg [.a 0 .mov [.const (.pointer none)]] false [0])
 (.seq (.reg [.a 1 (.ex .mkv) [], .a 2 (.ex .mkv) [], .a 3 (.bld [(.map none), (.map none), (.slice none 0 0)] [(0, 1), (1, 1)]) [.tmp 1, .tmp 2], .u 4 .box 3, .m 0 4] false [0])
 (.ret))
def keep13 : List Nat := [0]
theorem fn13 : compFn Try.prog 13 keep13 = some ⟨5, 0, [(0, none)], body13⟩ := by kernel_rfl

/- (*chartroom/direct.Dir).Sync -/
def body15 : AC :=
  .seq (.reg [.m 2 0, .u 3 (.ex (.pnil true)) 2] false [0, 3])
 (.cond (.tmp 3) (.reg [.m 4 0, .m 5 0, .u 6 .nck 5, .u 7 (.fad 2) 6, .u 8 (.load none) 7, .u 9 .len 8, .w 10 (.call 20) 4 9] false [0, 3]) (.skip))
def keep15 : List Nat := [0, 3]
theorem fn15 : compFn Try.prog 15 keep15 = some ⟨11, 1, [], body15⟩ := by kernel_rfl

/- (*chartroom/direct.Dir).List -/
abbrev keep16 : List Nat := [0, 2, 3, 4, 5, 7, 12, 14]
def body16 : AC :=
  .seq (.reg [.a 2 (.nilS 116) []] false keep16)
 (.seq (.seq (.reg [.m 6 0, .u 7 (.ex (.pnil false)) 6] false keep16)
 (.cond (.tmp 7) (.seq (.reg [.a 2 (.nilS 116) []] false keep16)
 (.ret)) (.skip)))
 (.seq (.reg [.a 3 (.nilS 116) []] false keep16)
 (.seq (.seq (.reg [.m 8 0, .u 9 .nck 8, .u 10 (.fad 1) 9, .u 11 (.load none) 10, .u 12 (.ex .rng) 11] false keep16)
 (.block 0 (.loop (.seq (.reg [.u 13 (.ex .nxt) 12, .u 14 (.ext 0) 13] false keep16)
 (.seq (.cond (.tmp 14) (.skip) (.exit 0))
 (.block 1 (.seq (.reg [.u 15 (.ex .ent) 12, .u 16 (.ext 0) 15, .u 17 (.ext 1) 15, .m 4 16, .m 5 17] false keep16)
 (.reg [.m 18 3, .m 19 4, .m 20 5, .a 21 (.bld [(.string ⟨#[]⟩), (.int .i64 0)] [(0, 1), (1, 1)]) [.tmp 19, .tmp 20], .u 22 (.bsl 116 2) 21, .w 23 (.app 116 2 24) 18 22, .m 3 23] false keep16))))))))
 (.seq (.reg [.m 24 3, .a 25 (.call 65) [.tmp 24, .func 66]] false keep16)
 (.seq (.reg [.m 26 3, .m 2 26] false keep16)
 (.ret))))))
theorem fn16 : compFn Try.prog 16 keep16 = some ⟨27, 1, [(2, none)], body16⟩ := by kernel_rfl

/- (*chartroom/direct.Dir).Pending -/
def body17 : AC :=
  .seq (.reg [.a 2 .mov [ci 0]] false [0, 2, 4])
 (.seq (.seq (.reg [.m 3 0, .u 4 (.ex (.pnil false)) 3] false [0, 2, 4])
 (.cond (.tmp 4) (.seq (.reg [.a 2 .mov [ci 0]] false [0, 2, 4])
 (.ret)) (.skip)))
 (.seq (.reg [.m 5 0, .u 6 .nck 5, .u 7 (.fad 2) 6, .u 8 (.load none) 7, .u 9 .len 8, .m 2 9] false [0, 2, 4])
 (.ret)))
def keep17 : List Nat := [0, 2, 4]
theorem fn17 : compFn Try.prog 17 keep17 = some ⟨10, 1, [(2, none)], body17⟩ := by kernel_rfl

/- chartroom/chartroomkit.Pick -/
abbrev keep18 : List Nat := [0, 1, 4, 6]
def body18 : AC :=
  .seq (.reg [.a 4 .mov [ci 0]] false keep18)
 (.seq (.seq (.reg [.m 5 1, .c 6 (.bin .leq) 5 0] false keep18)
 (.cond (.tmp 6) (.seq (.reg [.a 4 .mov [ci 0]] false keep18)
 (.ret)) (.skip)))
 (.seq (.reg [.m 7 0, .m 8 1, .w 9 (.bin .rem) 7 8, .m 10 1, .w 11 (.bin .add) 9 10, .m 12 1, .w 13 (.bin .rem) 11 12, .m 4 13] false keep18)
 (.ret)))
theorem fn18 : compFn Try.prog 18 keep18 = some ⟨14, 2, [(4, none)], body18⟩ := by kernel_rfl

/- (*chartroom/direct.Dir).Copy -/
def body19 : AC :=
  .seq (.reg [.a 2 .mov [.const (.pointer none)]] false [0, 2, 4])
 (.seq (.seq (.reg [.m 3 0, .u 4 (.ex (.pnil false)) 3] false [0, 2, 4])
 (.cond (.tmp 4) (.seq (.reg [.a 2 .mov [.const (.pointer none)]] false [0, 2, 4])
 (.ret)) (.skip)))
 (.seq (.reg [.m 5 0, .u 6 .nck 5, .u 7 (.fad 0) 6, .u 8 (.load none) 7, .u 9 (.call 68) 8, .m 10 0, ⟨some 11, .nck, [.tmp 10], none, [9], none⟩, ⟨some 12, (.fad 1), [.tmp 11], none, [9], none⟩, ⟨some 13, (.load none), [.tmp 12], none, [9], none⟩, .u 14 (.call 68) 13, .m 15 0, ⟨some 16, .nck, [.tmp 15], none, [9, 14], none⟩, ⟨some 17, (.fad 2), [.tmp 16], none, [9, 14], none⟩, ⟨some 18, (.load none), [.tmp 17], none, [9, 14], none⟩, ⟨some 19, (.call 69), [.tmp 18], none, [], (some 999999)⟩, .a 20 (.bld [(.map none), (.map none), (.slice none 0 0)] [(0, 1), (1, 1), (2, 1)]) [.tmp 9, .tmp 14, .tmp 19], .u 21 .box 20, .m 2 21] true [0, 2, 4])
 (.ret)))
def keep19 : List Nat := [0, 2, 4]
theorem fn19 : compFn Try.prog 19 keep19 = some ⟨22, 1, [(2, none)], body19⟩ := by kernel_rfl

/- (*chartroom/direct.Dir).Fail -/
abbrev keep20 : List Nat := [0, 1, 5, 7, 20, 21, 22, 23]
def body20 : AC :=
  .seq (.seq (.reg [.m 6 0, .u 7 (.ex (.pnil false)) 6] false keep20)
 (.cond (.tmp 7) (.ret) (.skip)))
 (.seq (.seq (.reg [.m 8 0, .u 9 .nck 8, .u 10 (.fad 2) 9, .u 11 (.load none) 10, .m 12 1, .m 13 0, .u 14 .nck 13, .u 15 (.fad 2) 14, .u 16 (.load none) 15, .u 17 .len 16, .w 18 (.mnx false) 12 17, .a 19 (.mnx true) [ci 0, .tmp 18], .w 20 (.slc 3 false true) 11 19, .u 21 .len 20, .a 22 .mov [ci 0]] true keep20)
 (.block 0 (.loop (.seq (.reg [.w 23 (.bin .lss) 22 21] false keep20)
 (.seq (.cond (.tmp 23) (.skip) (.exit 0))
 (.seq (.block 1 (.seq (.reg [.w 24 (.ixa 124 3) 20 22, .u 25 (.load (some 3)) 24, .a 5 (.alloc [(.string ⟨#[]⟩), (.int .i64 0), .nilFunc]) [], .s (.store (some 3)) [.tmp 5, .tmp 25]] false keep20)
 (.reg [.u 26 (.fad 2) 5, .u 27 (.load none) 26, .m 28 0, .u 29 .nck 28, .u 30 (.fad 0) 29, .u 31 (.load none) 30, .u 32 (.fad 0) 5, .u 33 (.load (some 2)) 32, ⟨some 34, .calv, [.tmp 27, .tmp 31, .tmp 33], none, [], (some 999999)⟩] true keep20)))
 (.reg [.c 35 (.bin .add) 22 1, .m 22 35] false keep20)))))))
 (.reg [.m 36 0, .m 37 0, .m 38 0, .u 39 .nck 38, .u 40 (.fad 0) 39, .u 41 (.load none) 40, .u 42 (.call 68) 41, .u 43 .nck 36, .u 44 (.fad 2) 43, .s (.store none) [.tmp 44, .const (.slice none 0 0)], .u 45 .nck 37, .u 46 (.fad 1) 45, .s (.store none) [.tmp 46, .tmp 42]] false keep20))
theorem fn20 : compFn Try.prog 20 keep20 = some ⟨47, 2, [], body20⟩ := by kernel_rfl

/- (*chartroom/direct.Dir).Remove -/
abbrev keep24 : List Nat := [0, 1, 4, 5, 6, 7, 9, 20]
def body24 : AC :=
  .seq (.reg [.a 4 .mov [ci 0], .a 5 .mov [ci 0]] false keep24)
 (.seq (.seq (.reg [.m 8 0, .u 9 (.ex (.pnil false)) 8] false keep24)
 (.cond (.tmp 9) (.seq (.reg [.a 4 .mov [ci 0], .a 5 .mov [ci 1]] false keep24)
 (.ret)) (.skip)))
 (.seq (.reg [.m 11 0, .u 12 .nck 11, .u 13 (.fad 1) 12, .u 14 (.load none) 13, .m 15 1, .w 16 (.ex (.gev 1 (.int .i64 0) true)) 14 15, .m 10 16, .u 17 (.ext 0) 10, .u 18 (.ext 1) 10, .m 6 17, .m 7 18] false keep24)
 (.seq (.seq (.reg [.m 19 7, .u 20 .not 19] false keep24)
 (.cond (.tmp 20) (.seq (.reg [.a 4 .mov [ci 0], .a 5 .mov [ci 80]] false keep24)
 (.ret)) (.skip)))
 (.seq (.reg [.m 21 0, .m 22 1, .m 23 6, .a 24 (.bld [(.string ⟨#[]⟩), (.int .i64 0)] [(0, 1), (1, 1)]) [.tmp 22, .tmp 23], .a 25 (.call 75) [.tmp 21, .tmp 24, .func 76]] false keep24)
 (.seq (.reg [.m 26 6, .m 4 26, .a 5 .mov [ci 0]] false keep24)
 (.ret))))))
theorem fn24 : compFn Try.prog 24 keep24 = some ⟨27, 2, [(4, none), (5, none)], body24⟩ := by kernel_rfl

/- (*chartroom/direct.Dir).Get -/
abbrev keep25 : List Nat := [0, 1, 4, 5, 6, 7, 9]
def body25 : AC :=
  .seq (.reg [.a 4 .mov [ci 0], .a 5 .mov [.const (.bool false)]] false keep25)
 (.seq (.seq (.reg [.m 8 0, .u 9 (.ex (.pnil false)) 8] false keep25)
 (.cond (.tmp 9) (.seq (.reg [.a 4 .mov [ci 0], .a 5 .mov [.const (.bool false)]] false keep25)
 (.ret)) (.skip)))
 (.seq (.reg [.m 11 0, .u 12 .nck 11, .u 13 (.fad 1) 12, .u 14 (.load none) 13, .m 15 1, .w 16 (.ex (.gev 1 (.int .i64 0) true)) 14 15, .m 10 16, .u 17 (.ext 0) 10, .u 18 (.ext 1) 10, .m 6 17, .m 7 18] false keep25)
 (.seq (.reg [.m 19 6, .m 20 7, .m 4 19, .m 5 20] false keep25)
 (.ret))))
theorem fn25 : compFn Try.prog 25 keep25 = some ⟨21, 2, [(4, none), (5, none)], body25⟩ := by kernel_rfl

/- (*chartroom/direct.Dir).Add -/
abbrev keep26 : List Nat := [0, 1, 2, 6, 8, 9, 12, 28]
def body26 : AC :=
  .seq (.reg [.a 6 .mov [ci 0]] false keep26)
 (.seq (.block 0 (.seq (.reg [.m 10 0, .u 11 (.ex (.pnil false)) 10, .m 9 11] false keep26)
 (.cond (.tmp 9) (.seq (.reg [.a 6 .mov [ci 1]] false keep26)
 (.ret)) (.seq (.reg [.m 13 1, .a 14 (.bin .eql) [.tmp 13, .const (.string ⟨#[]⟩)], .m 15 14, .mg 16 2 15 false, .bc 17 (.bin .lss) 16 0 15 false, .po 18 15 17, .m 12 18] false keep26)
 (.cond (.tmp 12) (.seq (.reg [.a 6 .mov [ci 2]] false keep26)
 (.ret)) (.skip))))))
 (.seq (.seq (.reg [.m 20 0, .u 21 .nck 20, .u 22 (.fad 1) 21, .u 23 (.load none) 22, .m 24 1, .w 25 (.ex (.gev 1 (.int .i64 0) true)) 23 24, .m 19 25, .u 26 (.ext 0) 19, .u 27 (.ext 1) 19, .m 7 26, .m 8 27] false keep26)
 (.seq (.reg [.m 28 8] false keep26)
 (.cond (.tmp 28) (.seq (.reg [.a 6 .mov [ci 81]] false keep26)
 (.ret)) (.skip))))
 (.seq (.reg [.m 29 0, .m 30 1, .m 31 2, .a 32 (.bld [(.string ⟨#[]⟩), (.int .i64 0)] [(0, 1), (1, 1)]) [.tmp 30, .tmp 31], .a 33 (.call 75) [.tmp 29, .tmp 32, .func 77]] false keep26)
 (.seq (.reg [.a 6 .mov [ci 0]] false keep26)
 (.ret)))))
theorem fn26 : compFn Try.prog 26 keep26 = some ⟨34, 3, [(6, none)], body26⟩ := by kernel_rfl

/- (*chartroom/direct.Dir).List$1 -/
abbrev keep66 : List Nat := [0, 1, 2, 3, 4]
def body66 : AC :=
  .seq (.reg [.u 2 .box 0, .u 3 .box 1, .a 4 .mov [ci 0]] false keep66)
 (.seq (.reg [.u 5 (.fad 0) 2, .u 6 (.load none) 5, .u 7 (.fad 0) 3, .u 8 (.load none) 7, .w 9 (.call 67) 6 8, .m 4 9] false keep66)
 (.ret))
theorem fn66 : compFn Try.prog 66 keep66 = some ⟨10, 2, [(4, none)], body66⟩ := by kernel_rfl

/- cmp.Compare[string] -/
abbrev keep67 : List Nat := [0, 1, 4, 5, 6, 11, 12, 13, 16, 19]
def body67 : AC :=
  .seq (.reg [.a 4 .mov [ci 0]] false keep67)
 (.seq (.reg [.m 7 0, .u 8 (.call 115) 7, .m 5 8] false keep67)
 (.seq (.reg [.m 9 1, .u 10 (.call 115) 9, .m 6 10] false keep67)
 (.seq (.seq (.reg [.m 11 5] false keep67)
 (.cond (.tmp 11) (.seq (.seq (.reg [.m 12 6] false keep67)
 (.cond (.tmp 12) (.seq (.reg [.a 4 .mov [ci 0]] false keep67)
 (.ret)) (.skip)))
 (.seq (.reg [.a 4 .mov [.const (.int .i64 (-1))]] false keep67)
 (.ret))) (.skip)))
 (.seq (.seq (.reg [.m 13 6] false keep67)
 (.cond (.tmp 13) (.seq (.reg [.a 4 .mov [ci 1]] false keep67)
 (.ret)) (.skip)))
 (.seq (.seq (.reg [.m 14 0, .m 15 1, .w 16 (.bin .lss) 14 15] false keep67)
 (.cond (.tmp 16) (.seq (.reg [.a 4 .mov [.const (.int .i64 (-1))]] false keep67)
 (.ret)) (.skip)))
 (.seq (.seq (.reg [.m 17 0, .m 18 1, .w 19 (.bin .gtr) 17 18] false keep67)
 (.cond (.tmp 19) (.seq (.reg [.a 4 .mov [ci 1]] false keep67)
 (.ret)) (.skip)))
 (.seq (.reg [.a 4 .mov [ci 0]] false keep67)
 (.ret))))))))
theorem fn67 : compFn Try.prog 67 keep67 = some ⟨20, 2, [(4, none)], body67⟩ := by kernel_rfl

/- slices.Clone[[]chartroom/direct.act,chartroom/direct.act] -/
def body69 : AC :=
  .seq (.reg [.a 2 (.nilS 124) []] false [0, 2, 4])
 (.seq (.seq (.reg [.m 3 0, .u 4 (.ex (.isnil false)) 3] false [0, 2, 4])
 (.cond (.tmp 4) (.seq (.reg [.a 2 (.nilS 124) []] false [0, 2, 4])
 (.ret)) (.skip)))
 (.seq (.reg [.a 5 (.bsl 124 3) [], .m 6 0, .w 7 (.app 124 3 32) 5 6, .m 2 7] false [0, 2, 4])
 (.ret)))
def keep69 : List Nat := [0, 2, 4]
theorem fn69 : compFn Try.prog 69 keep69 = some ⟨8, 1, [(2, none)], body69⟩ := by kernel_rfl

/- (*chartroom/direct.Dir).act -/
abbrev keep75 : List Nat := [0, 1, 2, 4]
def body75 : AC :=
  .seq (.reg [.u 4 .box 1] false keep75)
 (.seq (.reg [.m 6 0, .m 7 0, ⟨some 8, .nck, [.tmp 7], none, [14], none⟩, ⟨some 9, (.fad 2), [.tmp 8], none, [14], none⟩, ⟨some 10, (.load none), [.tmp 9], none, [14], none⟩, .u 11 (.load (some 2)) 4, .m 12 2, .a 13 (.bld [(.string ⟨#[]⟩), (.int .i64 0), .nilFunc] [(0, 2), (2, 1)]) [.tmp 11, .tmp 12], .u 14 (.bsl 124 3) 13, .w 15 (.app 124 3 32) 10 14, .u 16 .nck 6, .u 17 (.fad 2) 16, .s (.store none) [.tmp 17, .tmp 15]] true keep75)
 (.reg [.m 18 2, .m 19 0, .u 20 .nck 19, .u 21 (.fad 1) 20, .u 22 (.load none) 21, .u 23 (.load (some 2)) 4, ⟨some 24, .calv, [.tmp 18, .tmp 22, .tmp 23], none, [], (some 999999)⟩] true keep75))
theorem fn75 : compFn Try.prog 75 keep75 = some ⟨25, 3, [], body75⟩ := by kernel_rfl

/- chartroom/direct.remove -/
def body76 : AC :=
  .seq (.reg [.u 3 .box 1] false [0, 1, 3])
 (.reg [.m 4 0, .u 5 (.fad 0) 3, .u 6 (.load none) 5, .s (.ex (.dlv 1)) [.tmp 4, .tmp 6]] false [0, 1, 3])
def keep76 : List Nat := [0, 1, 3]
theorem fn76 : compFn Try.prog 76 keep76 = some ⟨7, 2, [], body76⟩ := by kernel_rfl

/- chartroom/direct.add -/
def body77 : AC :=
  .seq (.reg [.u 3 .box 1] false [0, 1, 3])
 (.reg [.m 4 0, .u 5 (.fad 0) 3, .u 6 (.load none) 5, .u 7 (.fad 1) 3, .u 8 (.load none) 7, .s (.ex (.puv 1)) [.tmp 4, .tmp 6, .tmp 8]] false [0, 1, 3])
def keep77 : List Nat := [0, 1, 3]
theorem fn77 : compFn Try.prog 77 keep77 = some ⟨9, 2, [], body77⟩ := by kernel_rfl

/- cmp.isNaN[string] -/
def body115 : AC :=
  .seq (.reg [.a 2 .mov [.const (.bool false)]] false [0, 2])
 (.seq (.reg [.m 3 0, .m 4 0, .w 5 (.bin .neq) 3 4, .m 2 5] false [0, 2])
 (.ret))
def keep115 : List Nat := [0, 2]
theorem fn115 : compFn Try.prog 115 keep115 = some ⟨6, 1, [(2, none)], body115⟩ := by kernel_rfl

end Go.Proofs.Ythblkhafehanfaa.Ab
