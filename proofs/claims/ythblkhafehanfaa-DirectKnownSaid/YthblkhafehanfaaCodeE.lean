/- The code of the functions, in the abstract machine's form (printed by wip/mk.py). -/
import Derived.Test.YthblkhafehanfaaAb22
import Derived.Test.YthblkhafehanfaaChecked
namespace Go.Proofs.Ythblkhafehanfaa.Ab
open Go Go.RowKit
set_option maxRecDepth 100000

/- chartroom/chartroomlaw08.DirectFails -/
abbrev keep3 : List Nat := [0, 1, 2, 6, 7, 8, 9, 10, 11, 12, 13, 14, 15, 16, 17, 25, 37, 41, 50, 65, 109, 121, 130]
def body3 : AC :=
  .seq (.reg [.a 6 .mov [.const (.bool false)]] false keep3)
 (.seq (.seq (.reg [.m 18 0, .c 19 (.call 11) 18 40, .u 20 .not 19, .m 21 20, .mg 22 1 21 false, .bc 23 (.call 11) 22 40 21 false, .bu 24 .not 23 21 false, .po 25 21 24] false keep3)
 (.cond (.tmp 25) (.seq (.reg [.a 26 (.call 12) [], .m 6 26] false keep3)
 (.ret)) (.skip)))
 (.seq (.reg [.a 27 (.call 13) [], .m 7 27] false keep3)
 (.seq (.reg [.m 28 7, .m 29 0, .w 30 (.call 14) 28 29] false keep3)
 (.seq (.reg [.m 31 7, .u 32 (.call 15) 31] false keep3)
 (.seq (.reg [.m 33 7, .u 34 (.call 16) 33, .m 8 34] false keep3)
 (.seq (.seq (.reg [.m 35 7, .u 36 (.call 17) 35, .c 37 (.bin .neq) 36 0] false keep3)
 (.cond (.tmp 37) (.seq (.reg [.a 6 .mov [.const (.bool false)]] false keep3)
 (.ret)) (.skip)))
 (.seq (.reg [.a 9 .mov [ci 0]] false keep3)
 (.seq (.seq (.reg [.a 10 .mov [ci 0]] false keep3)
 (.block 0 (.loop (.seq (.seq (.reg [.m 38 10, .m 39 1, .u 40 .len 39, .w 41 (.bin .lss) 38 40] false keep3)
 (.cond (.tmp 41) (.skip) (.exit 0)))
 (.seq (.block 1 (.seq (.seq (.reg [.m 44 1, .m 45 10, .w 46 (.ixa 33 3) 44 45, .u 47 (.fad 0) 46, .u 48 (.load none) 47, .c 49 (.call 18) 48 6, .c 50 (.bin .eql) 49 3] false keep3)
 (.cond (.tmp 50) (.exit 1) (.skip)))
 (.seq (.reg [.m 51 7, .m 52 1, .m 53 10, .m 54 10, .c 55 (.bin .add) 54 1, .a 56 (.slc 3 true true) [.tmp 52, .tmp 53, .tmp 55], .w 57 (.call 14) 51 56] false keep3)
 (.seq (.reg [.m 58 9, .m 59 7, .u 60 (.call 17) 59, .w 61 (.mnx true) 58 60, .m 9 61] false keep3)
 (.seq (.reg [.m 62 7, .u 63 (.call 17) 62, .m 64 9, .w 65 (.bin .neq) 63 64] false keep3)
 (.cond (.tmp 65) (.seq (.reg [.a 6 .mov [.const (.bool false)]] false keep3)
 (.ret)) (.skip)))))))
 (.reg [.m 42 10, .c 43 (.bin .add) 42 1, .m 10 43] false keep3))))))
 (.seq (.reg [.m 66 7, .u 67 (.call 16) 66, .m 11 67] false keep3)
 (.seq (.reg [.m 68 7, .u 69 (.call 19) 68, .m 70 7, .u 71 (.call 19) 70, .m 72 7, .u 73 (.call 19) 72, .m 12 69, .m 13 71, .m 14 73] false keep3)
 (.seq (.reg [.m 74 12, .m 75 7, .u 76 (.call 17) 75, .w 77 (.call 20) 74 76] false keep3)
 (.seq (.reg [.m 78 13, .c 79 (.call 20) 78 0] false keep3)
 (.seq (.reg [.m 80 14, .m 81 2, .w 82 (.call 20) 80 81] false keep3)
 (.seq (.seq (.reg [.m 83 12, .u 84 (.call 16) 83, .m 85 11, .w 86 (.call 21) 84 85, .u 87 .not 86, .m 88 87, .mg 89 13 88 false, .bu 90 (.call 16) 89 88 false, .mg 91 8 88 false, .bw 92 (.call 21) 90 91 88 false, .bu 93 .not 92 88 false, .po 94 88 93, .m 95 94, .mg 96 12 95 false, .bu 97 (.call 17) 96 95 false, .bc 98 (.bin .neq) 97 0 95 false, .po 99 95 98, .m 100 99, .mg 101 13 100 false, .bu 102 (.call 17) 101 100 false, .bc 103 (.bin .neq) 102 0 100 false, .po 104 100 103, .m 105 104, .mg 106 14 105 false, .bu 107 (.call 17) 106 105 false, .bc 108 (.bin .neq) 107 0 105 false, .po 109 105 108] false keep3)
 (.cond (.tmp 109) (.seq (.reg [.a 6 .mov [.const (.bool false)]] false keep3)
 (.ret)) (.skip)))
 (.seq (.reg [.m 110 14, .u 111 (.call 16) 110, .m 112 8, .w 113 (.call 21) 111 112, .m 15 113] false keep3)
 (.seq (.reg [.a 114 (.call 13) [], .m 16 114] false keep3)
 (.seq (.reg [.m 115 16, .m 116 0, .w 117 (.call 14) 115 116] false keep3)
 (.seq (.seq (.reg [.a 17 .mov [ci 0]] false keep3)
 (.block 2 (.loop (.seq (.seq (.reg [.m 118 17, .m 119 1, .u 120 .len 119, .w 121 (.bin .lss) 118 120] false keep3)
 (.cond (.tmp 121) (.skip) (.exit 2)))
 (.seq (.block 3 (.seq (.seq (.reg [.m 124 1, .m 125 17, .w 126 (.ixa 33 3) 124 125, .u 127 (.fad 0) 126, .u 128 (.load none) 127, .c 129 (.call 18) 128 6, .c 130 (.bin .neq) 129 3] false keep3)
 (.cond (.tmp 130) (.reg [.m 131 16, .m 132 1, .m 133 17, .m 134 17, .c 135 (.bin .add) 134 1, .a 136 (.slc 3 true true) [.tmp 132, .tmp 133, .tmp 135], .w 137 (.call 14) 131 136] false keep3) (.skip)))
 (.reg [.m 138 15, .m 139 138, .mg 140 14 139 false, .bu 141 (.call 16) 140 139 false, .mg 142 16 139 false, .bu 143 (.call 16) 142 139 false, .bw 144 (.call 21) 141 143 139 false, .po 145 139 144, .m 15 145] false keep3)))
 (.reg [.m 122 17, .c 123 (.bin .add) 122 1, .m 17 123] false keep3))))))
 (.seq (.reg [.m 146 15, .m 147 146, .mg 148 7 147 true, .bu 149 (.call 16) 148 147 true, .mg 150 11 147 true, .bw 151 (.call 21) 149 150 147 true, .pa 152 147 151, .m 153 152, .b 154 (.call 12) [] 153 true, .pa 155 153 154, .m 6 155] false keep3)
 (.ret))))))))))))))))))))
theorem fn3 : compFn Try.prog 3 keep3 = some ⟨156, 3, [(6, none)], body3⟩ := by kernel_rfl

/- chartroom/chartroomlaw08.DirectPlays -/
abbrev keep4 : List Nat := [0, 2, 3, 4, 5, 6, 9, 15, 36]
def body4 : AC :=
  .seq (.reg [.a 2 .mov [.const (.bool false)]] false keep4)
 (.seq (.seq (.reg [.m 7 0, .c 8 (.call 11) 7 60, .u 9 .not 8] false keep4)
 (.cond (.tmp 9) (.seq (.reg [.a 10 (.call 12) [], .m 2 10] false keep4)
 (.ret)) (.skip)))
 (.seq (.reg [.a 11 (.call 13) [], .m 3 11] false keep4)
 (.seq (.reg [.a 4 (.alloc [(.slice none 0 0), (.slice none 0 0)]) []] false keep4)
 (.seq (.seq (.reg [.a 5 .mov [ci 0]] false keep4)
 (.block 0 (.loop (.seq (.seq (.reg [.m 12 5, .m 13 0, .u 14 .len 13, .w 15 (.bin .lss) 12 14] false keep4)
 (.cond (.tmp 15) (.skip) (.exit 0)))
 (.seq (.block 1 (.seq (.reg [.a 6 .mov [.const (.bool false)]] false keep4)
 (.seq (.reg [.m 19 3, .u 20 (.load (some 2)) 4, .m 21 0, .m 22 5, .w 23 (.ixa 33 3) 21 22, .u 24 (.load (some 3)) 23, ⟨some 25, (.call 22), [.tmp 19, .tmp 20, .tmp 24], none, [], (some 999999)⟩, .m 18 25, .u 26 (.ext 0) 18, .u 27 (.ext 1) 18, ⟨some 28, (.ext 2), [.tmp 18], none, [4], none⟩, .m 3 26, ⟨none, (.store (some 2)), [.tmp 4, .tmp 27], none, [], (some 4)⟩, .m 6 28] true keep4)
 (.seq (.reg [.m 29 6, .u 30 .not 29, .m 31 30, .mg 32 3 31 false, .bu 33 (.load (some 2)) 4 31 false, .bw 34 (.call 23) 32 33 31 false, .bu 35 .not 34 31 false, .po 36 31 35] false keep4)
 (.cond (.tmp 36) (.seq (.reg [.a 2 .mov [.const (.bool false)]] false keep4)
 (.ret)) (.skip))))))
 (.reg [.m 16 5, .c 17 (.bin .add) 16 1, .m 5 17] false keep4))))))
 (.seq (.reg [.m 37 3, .u 38 (.load (some 2)) 4, .w 39 (.call 23) 37 38, .m 40 39, .b 41 (.call 12) [] 40 true, .pa 42 40 41, .m 2 42] false keep4)
 (.ret))))))
theorem fn4 : compFn Try.prog 4 keep4 = some ⟨43, 1, [(2, none)], body4⟩ := by kernel_rfl

/- chartroom/chartroomlaw08.DirectNone -/
abbrev keep5 : List Nat := [0, 1, 4, 5, 6, 7, 8, 9]
def body5 : AC :=
  .seq (.reg [.a 4 .mov [.const (.bool false)]] false keep5)
 (.seq (.reg [.a 5 .mov [.const (.pointer none)]] false keep5)
 (.seq (.reg [.m 11 5, .m 12 0, .w 13 (.call 24) 11 12, .m 10 13, .u 14 (.ext 0) 10, .u 15 (.ext 1) 10, .m 6 14, .m 7 15] false keep5)
 (.seq (.reg [.m 17 5, .m 18 0, .w 19 (.call 25) 17 18, .m 16 19, .u 20 (.ext 0) 16, .u 21 (.ext 1) 16, .m 8 20, .m 9 21] false keep5)
 (.seq (.reg [.m 22 5, .u 23 (.call 15) 22] false keep5)
 (.seq (.reg [.m 24 5, .m 25 1, .w 26 (.call 20) 24 25] false keep5)
 (.seq (.reg (
  .m 27 5 :: .m 28 0 :: .m 29 1 :: .a 30 (.call 26) [.tmp 27, .tmp 28, .tmp 29] :: .c 31 (.bin .eql) 30 1 :: .m 32 31 :: .mg 33 6 32 true :: .bc 34 (.bin .eql) 33 0 32 true :: .pa 35 32 34 :: .m 36 35 :: .mg 37 7 36 true :: .bc 38 (.bin .eql) 37 1 36 true :: .pa 39 36 38 :: .m 40 39 :: .mg 41 8 40 true :: .bc 42 (.bin .eql) 41 0 40 true :: .pa 43 40 42 :: .m 44 43 :: .mg 45 9 44 true :: .bu 46 .not 45 44 true :: .pa 47 44 46 :: .m 48 47 :: .mg 49 5 48 true :: .bu 50 (.call 16) 49 48 true :: .bu 51 .len 50 48 true :: .bc 52 (.bin .eql) 51 0 48 true :: .pa 53 48 52 :: .m 54 53 :: .mg 55 5 54 true :: .bu 56 (.call 17) 55 54 true :: .bc 57 (.bin .eql) 56 0 54 true :: .pa 58 54 57 :: .m 59 58 :: .mg 60 5 59 true :: .bu 61 (.call 19) 60 59 true :: .bu 62 (.ex (.pnil false)) 61 59 true :: .pa 63 59 62 :: .m 64 63 :: .b 65 (.call 12) [] 64 true :: .pa 66 64 65 :: .m 4 66 :: []) false keep5)
 (.ret)))))))
theorem fn5 : compFn Try.prog 5 keep5 = some ⟨67, 2, [(4, none)], body5⟩ := by kernel_rfl

/- chartroom/chartroomlaw08.DirectKnown -/
abbrev keep6 : List Nat := [0, 1, 2, 3, 4, 5, 8, 13, 53]
def body6 : AC :=
  .seq (.reg [.a 0 .mov [.const (.bool false)]] false keep6)
 (.seq (.reg [.a 6 (.bsl 9 1) [.const (.string ⟨#[97]⟩), .const (.string ⟨#[98]⟩), .const (.string ⟨#[]⟩), .const (.string ⟨#[97, 0]⟩)], .m 1 6] false keep6)
 (.seq (.seq (.reg [.a 2 .mov [ci 0]] false keep6)
 (.block 0 (.loop (.seq (.seq (.reg [.m 7 2, .c 8 (.bin .lss) 7 4096] false keep6)
 (.cond (.tmp 8) (.skip) (.exit 0)))
 (.seq (.block 1 (.seq (.reg [.a 3 (.nilS 33) []] false keep6)
 (.seq (.reg [.m 11 2, .m 4 11] false keep6)
 (.seq (.seq (.reg [.a 5 .mov [ci 0]] false keep6)
 (.block 2 (.loop (.seq (.seq (.reg [.m 12 5, .c 13 (.bin .lss) 12 6] false keep6)
 (.cond (.tmp 13) (.skip) (.exit 2)))
 (.seq (.block 3 (.seq (.reg [.m 16 3, .m 17 4, .c 18 (.bin .rem) 17 6, .m 19 5, .c 20 (.bin .rem) 19 2, .w 21 (.bin .add) 18 20, .m 22 1, .m 23 4, .m 24 5, .w 25 (.bin .add) 23 24, .c 26 (.bin .rem) 25 4, .w 27 (.ixa 9 1) 22 26, .u 28 (.load none) 27, .m 29 4, .c 30 (.bin .rem) 29 4, .c 31 (.bin .sub) 30 1, .a 32 (.bld [(.int .i64 0), (.string ⟨#[]⟩), (.int .i64 0)] [(0, 1), (1, 1), (2, 1)]) [.tmp 21, .tmp 28, .tmp 31], .u 33 (.bsl 33 3) 32, .w 34 (.app 33 3 32) 16 33, .m 3 34] false keep6)
 (.reg [.m 35 4, .c 36 (.bin .quo) 35 3, .m 37 5, .a 38 (.bin .mul) [ci 7, .tmp 37], .w 39 (.bin .add) 36 38, .m 4 39] false keep6)))
 (.reg [.m 14 5, .c 15 (.bin .add) 14 1, .m 5 15] false keep6))))))
 (.seq (.reg [.m 40 3, ⟨some 41, (.call 4), [.tmp 40], none, [], (some 999999)⟩, .u 42 .not 41, .m 43 42, .mg 44 3 43 false, .bc 45 (.slc 3 false true) 44 3 43 false, .mg 46 3 43 false, .bc 47 (.slc 3 true false) 46 2 43 false, .mg 48 2 43 false, .bc 49 (.bin .rem) 48 6 43 false, .bc 50 (.bin .sub) 49 1 43 false, .b 51 (.call 3) [.tmp 45, .tmp 47, .tmp 50] 43 false, .bu 52 .not 51 43 false, .po 53 43 52] true keep6)
 (.cond (.tmp 53) (.seq (.reg [.a 0 .mov [.const (.bool false)]] false keep6)
 (.ret)) (.skip)))))))
 (.reg [.m 9 2, .c 10 (.bin .add) 9 5, .m 2 10] false keep6))))))
 (.seq (.reg [.a 54 (.call 5) [.const (.string ⟨#[97]⟩), ci 1], .m 55 54, .b 56 (.call 4) [.const (.slice none 0 0)] 55 true, .pa 57 55 56, .m 58 57, .b 59 (.call 3) [.const (.slice none 0 0), .const (.slice none 0 0), ci 0] 58 true, .pa 60 58 59, .m 61 60, .b 62 (.call 12) [] 61 true, .pa 63 61 62, .m 0 63] false keep6)
 (.ret))))
theorem fn6 : compFn Try.prog 6 keep6 = some ⟨64, 0, [(0, none)], body6⟩ := by kernel_rfl

/- chartroom/chartroomlaw08.few -/
abbrev keep11 : List Nat := [0, 1, 4, 5, 9, 18]
def body11 : AC :=
  .seq (.reg [.a 4 .mov [.const (.bool false)]] false keep11)
 (.seq (.seq (.reg [.a 5 .mov [ci 0]] false keep11)
 (.block 0 (.loop (.seq (.seq (.reg [.m 6 5, .m 7 0, .u 8 .len 7, .w 9 (.bin .lss) 6 8] false keep11)
 (.cond (.tmp 9) (.skip) (.exit 0)))
 (.seq (.block 1 (.seq (.reg [.m 12 0, .m 13 5, .w 14 (.ixa 33 3) 12 13, .u 15 (.fad 1) 14, .u 16 (.load none) 15, .u 17 .slen 16, .c 18 (.bin .gtr) 17 80] false keep11)
 (.cond (.tmp 18) (.seq (.reg [.a 4 .mov [.const (.bool false)]] false keep11)
 (.ret)) (.skip))))
 (.reg [.m 10 5, .c 11 (.bin .add) 10 1, .m 5 11] false keep11))))))
 (.seq (.reg [.m 19 0, .u 20 .len 19, .m 21 1, .w 22 (.bin .leq) 20 21, .m 4 22] false keep11)
 (.ret)))
theorem fn11 : compFn Try.prog 11 keep11 = some ⟨23, 2, [(4, none)], body11⟩ := by kernel_rfl

/- chartroom/chartroomlaw08.works -/
abbrev keep12 : List Nat := [0, 1, 2, 3, 4, 5, 6, 7, 8, 10, 41]
def body12 : AC :=
  .seq (.reg [.a 0 .mov [.const (.bool false)]] false keep12)
 (.seq (.reg [.a 11 (.call 13) [], .m 1 11] false keep12)
 (.seq (.reg [.m 12 1, .a 13 (.call 26) [.tmp 12, .const (.string ⟨#[97]⟩), ci 1], .m 2 13] false keep12)
 (.seq (.reg [.m 14 1, .u 15 (.call 15) 14] false keep12)
 (.seq (.reg [.m 16 1, .a 17 (.call 26) [.tmp 16, .const (.string ⟨#[98]⟩), ci 2], .m 3 17] false keep12)
 (.seq (.reg [.m 19 1, .a 20 (.call 24) [.tmp 19, .const (.string ⟨#[97]⟩)], .m 18 20, .u 21 (.ext 0) 18, .u 22 (.ext 1) 18, .m 4 21, .m 5 22] false keep12)
 (.seq (.seq (.reg [.m 23 2, .c 24 (.bin .neq) 23 0, .m 25 24, .mg 26 3 25 false, .bc 27 (.bin .neq) 26 0 25 false, .po 28 25 27, .m 29 28, .mg 30 4 29 false, .bc 31 (.bin .neq) 30 1 29 false, .po 32 29 31, .m 33 32, .mg 34 5 33 false, .bc 35 (.bin .neq) 34 0 33 false, .po 36 33 35, .m 37 36, .mg 38 1 37 false, .bu 39 (.call 17) 38 37 false, .bc 40 (.bin .neq) 39 2 37 false, .po 41 37 40] false keep12)
 (.cond (.tmp 41) (.seq (.reg [.a 0 .mov [.const (.bool false)]] false keep12)
 (.ret)) (.skip)))
 (.seq (.reg [.m 42 1, .u 43 (.call 19) 42, .m 44 1, .u 45 (.call 19) 44, .m 46 1, .u 47 (.call 19) 46, .m 6 43, .m 7 45, .m 8 47] false keep12)
 (.seq (.reg [.m 48 6, .c 49 (.call 20) 48 1] false keep12)
 (.seq (.reg [.m 50 7, .c 51 (.call 20) 50 0] false keep12)
 (.seq (.reg [.m 52 8, .c 53 (.call 20) 52 2] false keep12)
 (.seq (.reg [.m 55 1, .a 56 (.call 24) [.tmp 55, .const (.string ⟨#[120]⟩)], .m 54 56, .u 57 (.ext 0) 54, .u 58 (.ext 1) 54, .m 9 57, .m 10 58] false keep12)
 (.seq (.reg (
  .m 59 6 :: .u 60 (.call 16) 59 :: .a 61 (.bld [(.string ⟨#[]⟩), (.int .i64 0)] [(0, 1), (1, 1)]) [.const (.string ⟨#[97]⟩), ci 1] :: .a 62 (.bld [(.string ⟨#[]⟩), (.int .i64 0)] [(0, 1), (1, 1)]) [.const (.string ⟨#[98]⟩), ci 2] :: .w 63 (.bsl 111 2) 61 62 :: .w 64 (.call 64) 60 63 :: .m 65 64 :: .mg 66 7 65 true :: .bu 67 (.call 16) 66 65 true :: .b 68 (.bld [(.string ⟨#[]⟩), (.int .i64 0)] [(0, 1), (1, 1)]) [.const (.string ⟨#[97]⟩), ci 1] 65 true :: .bu 69 (.bsl 111 2) 68 65 true :: .bw 70 (.call 64) 67 69 65 true :: .pa 71 65 70 :: .m 72 71 :: .mg 73 8 72 true :: .bu 74 (.call 16) 73 72 true :: .b 75 (.bld [(.string ⟨#[]⟩), (.int .i64 0)] [(0, 1), (1, 1)]) [.const (.string ⟨#[98]⟩), ci 2] 72 true :: .bu 76 (.bsl 111 2) 75 72 true :: .bw 77 (.call 64) 74 76 72 true :: .pa 78 72 77 :: .m 79 78 :: .mg 80 1 79 true :: .b 81 (.call 26) [.tmp 80, .const (.string ⟨#[98]⟩), ci 1] 79 true :: .bc 82 (.bin .eql) 81 81 79 true :: .pa 83 79 82 :: .m 84 83 :: .mg 85 10 84 true :: .bc 86 (.bin .eql) 85 80 84 true :: .pa 87 84 86 :: .m 88 87 :: .mg 89 1 88 true :: .b 90 (.call 26) [.tmp 89, .const (.string ⟨#[]⟩), ci 1] 88 true :: .bc 91 (.bin .eql) 90 2 88 true :: .pa 92 88 91 :: .m 0 92 :: []) false keep12)
 (.ret)))))))))))))
theorem fn12 : compFn Try.prog 12 keep12 = some ⟨93, 0, [(0, none)], body12⟩ := by kernel_rfl

/- chartroom/chartroomlaw08.all -/
abbrev keep14 : List Nat := [0, 1, 4, 8, 16, 17, 31, 40]
def body14 : AC :=
  .seq (.reg [.a 4 .mov [ci 0]] false keep14)
 (.block 0 (.loop (.seq (.seq (.reg [.m 5 4, .m 6 1, .u 7 .len 6, .w 8 (.bin .lss) 5 7] false keep14)
 (.cond (.tmp 8) (.skip) (.exit 0)))
 (.seq (.block 1 (.seq (.reg [.m 11 1, .m 12 4, .w 13 (.ixa 33 3) 11 12, .u 14 (.fad 0) 13, .u 15 (.load none) 14, .c 16 (.call 18) 15 6] false keep14)
 (.block 2 (.seq (.reg [.c 18 (.bin .eql) 16 0, .m 17 18] false keep14)
 (.cond (.tmp 17) (.reg [.m 19 0, .m 20 1, .m 21 4, .w 22 (.ixa 33 3) 20 21, .u 23 (.fad 1) 22, .u 24 (.load none) 23, .m 25 1, .m 26 4, .w 27 (.ixa 33 3) 25 26, .u 28 (.fad 2) 27, .u 29 (.load none) 28, ⟨some 30, (.call 26), [.tmp 19, .tmp 24, .tmp 29], none, [], (some 999999)⟩] true keep14) (.seq (.reg [.c 32 (.bin .eql) 16 1, .m 31 32] false keep14)
 (.cond (.tmp 31) (.reg [.m 33 0, .m 34 1, .m 35 4, .w 36 (.ixa 33 3) 34 35, .u 37 (.fad 1) 36, .u 38 (.load none) 37, .w 39 (.call 24) 33 38] false keep14) (.seq (.reg [.c 41 (.bin .eql) 16 3, .m 40 41] false keep14)
 (.cond (.tmp 40) (.reg [.m 42 0, .u 43 (.call 15) 42] false keep14) (.skip))))))))))
 (.reg [.m 9 4, .c 10 (.bin .add) 9 1, .m 4 10] false keep14)))))
theorem fn14 : compFn Try.prog 14 keep14 = some ⟨44, 2, [], body14⟩ := by kernel_rfl

/- chartroom/chartroomlaw08.alike -/
abbrev keep21 : List Nat := [0, 1, 4, 5, 10, 14, 25]
def body21 : AC :=
  .seq (.reg [.a 4 .mov [.const (.bool false)]] false keep21)
 (.seq (.seq (.reg [.m 6 0, .u 7 .len 6, .m 8 1, .u 9 .len 8, .w 10 (.bin .neq) 7 9] false keep21)
 (.cond (.tmp 10) (.seq (.reg [.a 4 .mov [.const (.bool false)]] false keep21)
 (.ret)) (.skip)))
 (.seq (.seq (.reg [.a 5 .mov [ci 0]] false keep21)
 (.block 0 (.loop (.seq (.seq (.reg [.m 11 5, .m 12 0, .u 13 .len 12, .w 14 (.bin .lss) 11 13] false keep21)
 (.cond (.tmp 14) (.skip) (.exit 0)))
 (.seq (.block 1 (.seq (.reg [.m 17 0, .m 18 5, .w 19 (.ixa 116 2) 17 18, .u 20 (.load (some 2)) 19, .m 21 1, .m 22 5, .w 23 (.ixa 116 2) 21 22, .u 24 (.load (some 2)) 23, .a 25 (.eqs true [1, 5]) [.tmp 20, .tmp 24]] true keep21)
 (.cond (.tmp 25) (.seq (.reg [.a 4 .mov [.const (.bool false)]] false keep21)
 (.ret)) (.skip))))
 (.reg [.m 15 5, .c 16 (.bin .add) 15 1, .m 5 16] false keep21))))))
 (.seq (.reg [.a 4 .mov [.const (.bool true)]] false keep21)
 (.ret))))
theorem fn21 : compFn Try.prog 21 keep21 = some ⟨26, 2, [(4, none)], body21⟩ := by kernel_rfl

/- chartroom/chartroomlaw08.does -/
abbrev keep22 : List Nat := [0, 1, 2, 4, 5, 6, 7, 8, 9, 10, 11, 12, 13, 14, 15, 16, 17, 18, 19, 20, 23, 24, 45, 72, 98, 106]
def body22 : AC :=
  .seq (.reg [.u 4 .box 1, .u 5 .box 2, .a 6 .mov [.const (.pointer none)], .a 7 (.alloc [(.slice none 0 0), (.slice none 0 0)]) [], .a 8 .mov [.const (.bool false)]] false keep22)
 (.seq (.seq (.reg [.u 21 (.fad 0) 5, .u 22 (.load none) 21, .c 23 (.call 18) 22 6] false keep22)
 (.block 0 (.seq (.reg [.c 25 (.bin .eql) 23 0, .m 24 25] false keep22)
 (.cond (.tmp 24) (.seq (.reg [.u 27 (.load (some 2)) 4, .u 28 (.fad 1) 5, .u 29 (.load none) 28, .u 30 (.fad 2) 5, .u 31 (.load none) 30, .a 32 (.call 70) [.tmp 27, .tmp 29, .tmp 31], .m 26 32, .u 33 (.ext 0) 26, .u 34 (.ext 1) 26, .a 9 (.alloc [(.slice none 0 0), (.slice none 0 0)]) [], .s (.store (some 2)) [.tmp 9, .tmp 33], .m 10 34] false keep22)
 (.seq (.reg [.m 35 0, ⟨some 36, (.load (some 2)), [.tmp 9], none, [42], none⟩, .m 37 0, .u 38 (.fad 1) 5, .u 39 (.load none) 38, .u 40 (.fad 2) 5, .u 41 (.load none) 40, ⟨some 42, (.call 26), [.tmp 37, .tmp 39, .tmp 41], none, [9], (some 999999)⟩, .m 43 10, .w 44 (.bin .eql) 42 43, .m 6 35, .s (.store (some 2)) [.tmp 7, .tmp 36], .m 8 44] true keep22)
 (.ret))) (.seq (.reg [.c 46 (.bin .eql) 23 1, .m 45 46] false keep22)
 (.cond (.tmp 45) (.seq (.reg [.u 48 (.load (some 2)) 4, .u 49 (.fad 1) 5, .u 50 (.load none) 49, .w 51 (.call 71) 48 50, .m 47 51, .u 52 (.ext 0) 47, .u 53 (.ext 1) 47, .u 54 (.ext 2) 47, .a 11 (.alloc [(.slice none 0 0), (.slice none 0 0)]) [], .s (.store (some 2)) [.tmp 11, .tmp 52], .m 12 53, .m 13 54] false keep22)
 (.seq (.reg [.m 56 0, .u 57 (.fad 1) 5, .u 58 (.load none) 57, .w 59 (.call 24) 56 58, .m 55 59, .u 60 (.ext 0) 55, .u 61 (.ext 1) 55, .m 14 60, .m 15 61] false keep22)
 (.seq (.reg [.m 62 0, .u 63 (.load (some 2)) 11, .m 64 14, .m 65 12, .w 66 (.bin .eql) 64 65, .m 67 66, .mg 68 15 67 true, .mg 69 13 67 true, .bw 70 (.bin .eql) 68 69 67 true, ⟨some 71, .pick, [.tmp 67, .tmp 70, .const (.bool false)], none, [7], none⟩, .m 6 62, ⟨none, (.store (some 2)), [.tmp 7, .tmp 63], none, [], (some 7)⟩, .m 8 71] true keep22)
 (.ret)))) (.seq (.reg [.c 73 (.bin .eql) 23 2, .m 72 73] false keep22)
 (.cond (.tmp 72) (.seq (.reg [.m 75 0, .u 76 (.fad 1) 5, .u 77 (.load none) 76, .w 78 (.call 25) 75 77, .m 74 78, .u 79 (.ext 0) 74, .u 80 (.ext 1) 74, .m 16 79, .m 17 80] false keep22)
 (.seq (.reg [.u 82 (.load (some 2)) 4, .u 83 (.fad 1) 5, .u 84 (.load none) 83, .w 85 (.call 72) 82 84, .m 81 85, .u 86 (.ext 0) 81, .u 87 (.ext 1) 81, .m 18 86, .m 19 87] false keep22)
 (.seq (.reg [.m 88 0, .u 89 (.load (some 2)) 4, .m 90 16, .m 91 18, .w 92 (.bin .eql) 90 91, .m 93 92, .mg 94 17 93 true, .mg 95 19 93 true, .bw 96 (.beq false) 94 95 93 true, ⟨some 97, .pick, [.tmp 93, .tmp 96, .const (.bool false)], none, [7], none⟩, .m 6 88, ⟨none, (.store (some 2)), [.tmp 7, .tmp 89], none, [], (some 7)⟩, .m 8 97] true keep22)
 (.ret)))) (.seq (.reg [.c 99 (.bin .eql) 23 3, .m 98 99] false keep22)
 (.cond (.tmp 98) (.seq (.reg [.m 100 0, .u 101 (.call 15) 100] false keep22)
 (.seq (.reg [.m 102 0, .u 103 (.load (some 2)) 4, .u 104 (.call 73) 103, .a 105 (.bld [(.slice none 0 0), (.slice none 0 0)] [(0, 1)]) [.tmp 104], .m 6 102, .s (.store (some 2)) [.tmp 7, .tmp 105], .a 8 .mov [.const (.bool true)]] false keep22)
 (.ret))) (.seq (.reg [.c 107 (.bin .eql) 23 4, .m 106 107] false keep22)
 (.cond (.tmp 106) (.seq (.reg [.m 108 0, .u 109 (.fad 2) 5, .u 110 (.load none) 109, .w 111 (.call 20) 108 110] false keep22)
 (.seq (.reg [.m 112 0, .u 113 (.load (some 2)) 4, .u 114 (.fad 2) 5, .u 115 (.load none) 114, .w 116 (.call 74) 113 115, .m 6 112, .s (.store (some 2)) [.tmp 7, .tmp 116], .a 8 .mov [.const (.bool true)]] false keep22)
 (.ret))) (.skip)))))))))))))
 (.seq (.reg [.m 117 0, .u 118 (.call 19) 117, .m 20 118] false keep22)
 (.seq (.reg [.m 119 0, .a 120 (.call 26) [.tmp 119, .const (.string ⟨#[97, 110, 111, 116, 104, 101, 114, 32, 111, 110, 101]⟩), ci 3]] false keep22)
 (.seq (.reg [.m 121 0, .u 122 (.call 15) 121] false keep22)
 (.seq (.reg [.m 123 20, .u 124 (.load (some 2)) 4, .m 6 123, .s (.store (some 2)) [.tmp 7, .tmp 124], .a 8 .mov [.const (.bool true)]] true keep22)
 (.ret))))))
theorem fn22 : compFn Try.prog 22 keep22 = some ⟨125, 3, [(6, none), (7, some (some 2)), (8, none)], body22⟩ := by kernel_rfl

/- chartroom/chartroomlaw08.is -/
abbrev keep23 : List Nat := [0, 1, 3, 4, 5, 6, 7, 25]
def body23 : AC :=
  .seq (.reg [.u 3 .box 1, .a 4 .mov [.const (.bool false)]] false keep23)
 (.seq (.reg [.m 8 0, .u 9 (.call 16) 8, .m 5 9] false keep23)
 (.seq (.reg [.m 10 5, .u 11 (.load (some 2)) 3, ⟨some 12, (.call 73), [.tmp 11], none, [], (some 999999)⟩, ⟨some 13, (.call 64), [.tmp 10, .tmp 12], none, [], (some 999999)⟩, .m 14 13, .mg 15 0 14 true, .bu 16 (.call 17) 15 14 true, ⟨some 17, (.fad 1), [.tmp 3], some (14, true), [16], none⟩, ⟨some 18, (.load none), [.tmp 17], some (14, true), [16], none⟩, ⟨some 19, .len, [.tmp 18], some (14, true), [16], none⟩, .bw 20 (.bin .eql) 16 19 14 true, .pa 21 14 20, .m 6 21] true keep23)
 (.seq (.seq (.reg [.a 7 .mov [ci 0]] false keep23)
 (.block 0 (.loop (.seq (.seq (.reg [.m 22 7, .m 23 5, .u 24 .len 23, .w 25 (.bin .lss) 22 24] false keep23)
 (.cond (.tmp 25) (.skip) (.exit 0)))
 (.seq (.block 1 (.reg [.m 28 5, .m 29 7, .a 30 (.bld [(.string ⟨#[]⟩), (.int .i64 0)] []) [], .w 31 (.ixa 116 2) 28 29, .s (.store (some 2)) [.tmp 31, .tmp 30]] false keep23))
 (.reg [.m 26 7, .c 27 (.bin .add) 26 1, .m 7 27] false keep23))))))
 (.seq (.reg [.m 32 6, .m 4 32] false keep23)
 (.ret)))))
theorem fn23 : compFn Try.prog 23 keep23 = some ⟨33, 2, [(4, none)], body23⟩ := by kernel_rfl

/- chartroom/chartroomlaw08.same -/
abbrev keep64 : List Nat := [0, 1, 4, 5, 10, 14, 40]
def body64 : AC :=
  .seq (.reg [.a 4 .mov [.const (.bool false)]] false keep64)
 (.seq (.seq (.reg [.m 6 0, .u 7 .len 6, .m 8 1, .u 9 .len 8, .w 10 (.bin .neq) 7 9] false keep64)
 (.cond (.tmp 10) (.seq (.reg [.a 4 .mov [.const (.bool false)]] false keep64)
 (.ret)) (.skip)))
 (.seq (.seq (.reg [.a 5 .mov [ci 0]] false keep64)
 (.block 0 (.loop (.seq (.seq (.reg [.m 11 5, .m 12 0, .u 13 .len 12, .w 14 (.bin .lss) 11 13] false keep64)
 (.cond (.tmp 14) (.skip) (.exit 0)))
 (.seq (.block 1 (.seq (.reg [.m 17 0, .m 18 5, .w 19 (.ixa 116 2) 17 18, .u 20 (.fad 0) 19, .u 21 (.load none) 20, .m 22 1, .m 23 5, .w 24 (.ixa 111 2) 22 23, .u 25 (.fad 0) 24, .u 26 (.load none) 25, .w 27 (.bin .neq) 21 26, .m 28 27, .mg 29 0 28 false, .mg 30 5 28 false, .bw 31 (.ixa 116 2) 29 30 28 false, .bu 32 (.fad 1) 31 28 false, .bu 33 (.load none) 32 28 false, .mg 34 1 28 false, .mg 35 5 28 false, .bw 36 (.ixa 111 2) 34 35 28 false, .bu 37 (.fad 1) 36 28 false, .bu 38 (.load none) 37 28 false, .bw 39 (.bin .neq) 33 38 28 false, .po 40 28 39] true keep64)
 (.cond (.tmp 40) (.seq (.reg [.a 4 .mov [.const (.bool false)]] false keep64)
 (.ret)) (.skip))))
 (.reg [.m 15 5, .c 16 (.bin .add) 15 1, .m 5 16] false keep64))))))
 (.seq (.reg [.a 4 .mov [.const (.bool true)]] false keep64)
 (.ret))))
theorem fn64 : compFn Try.prog 64 keep64 = some ⟨41, 2, [(4, none)], body64⟩ := by kernel_rfl

end Go.Proofs.Ythblkhafehanfaa.Ab
