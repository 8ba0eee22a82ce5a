/- The code of the functions, in the abstract machine's form (printed by wip/mk.py). -/
import Derived.Test.YthblkhafehanfaaAb22
import Derived.Test.YthblkhafehanfaaChecked
namespace Go.Proofs.Ythblkhafehanfaa.Ab
open Go Go.RowKit
set_option maxRecDepth 100000

/- (chartroom/chartroomref08.Dir).Add -/
abbrev keep70 : List Nat := [0, 1, 2, 3, 6, 7, 9, 15, 23]
def body70 : AC :=
  .seq (.reg [.u 3 .box 0, .a 6 (.alloc [(.slice none 0 0), (.slice none 0 0)]) [], .a 7 .mov [ci 0]] false keep70)
 (.seq (.seq (.reg [.m 10 1, .a 11 (.bin .eql) [.tmp 10, .const (.string ⟨#[]⟩)], .m 12 11, .mg 13 2 12 false, .bc 14 (.bin .lss) 13 0 12 false, .po 15 12 14] false keep70)
 (.cond (.tmp 15) (.seq (.reg [.u 16 (.load (some 2)) 3, .s (.store (some 2)) [.tmp 6, .tmp 16], .a 7 .mov [ci 2]] false keep70)
 (.ret)) (.skip)))
 (.seq (.reg [.u 18 (.load (some 2)) 3, .m 19 1, .w 20 (.call 72) 18 19, .m 17 20, .u 21 (.ext 0) 17, .u 22 (.ext 1) 17, .m 8 21, .m 9 22] false keep70)
 (.seq (.seq (.reg [.m 23 9] false keep70)
 (.cond (.tmp 23) (.seq (.reg [.u 24 (.load (some 2)) 3, .s (.store (some 2)) [.tmp 6, .tmp 24], .a 7 .mov [ci 81]] false keep70)
 (.ret)) (.skip)))
 (.seq (.reg [.u 25 (.load (some 2)) 3, .m 26 1, .m 27 2, .a 28 (.bld [(.string ⟨#[]⟩), (.int .i64 0)] [(0, 1), (1, 1)]) [.tmp 26, .tmp 27], .a 29 (.bld [(.bool false), (.string ⟨#[]⟩), (.int .i64 0)] [(0, 1), (1, 2)]) [.const (.bool true), .tmp 28], .w 30 (.call 117) 25 29, .s (.store (some 2)) [.tmp 6, .tmp 30], .a 7 .mov [ci 0]] false keep70)
 (.ret)))))
theorem fn70 : compFn Try.prog 70 keep70 = some ⟨31, 3, [(6, some (some 2)), (7, none)], body70⟩ := by kernel_rfl

/- (chartroom/chartroomref08.Dir).Remove -/
abbrev keep71 : List Nat := [0, 1, 2, 4, 5, 6, 7, 8, 16]
def body71 : AC :=
  .seq (.reg [.u 2 .box 0, .a 4 (.alloc [(.slice none 0 0), (.slice none 0 0)]) [], .a 5 .mov [ci 0], .a 6 .mov [ci 0]] false keep71)
 (.seq (.reg [.u 10 (.load (some 2)) 2, .m 11 1, .w 12 (.call 72) 10 11, .m 9 12, .u 13 (.ext 0) 9, .u 14 (.ext 1) 9, .m 7 13, .m 8 14] false keep71)
 (.seq (.seq (.reg [.m 15 8, .u 16 .not 15] false keep71)
 (.cond (.tmp 16) (.seq (.reg [.u 17 (.load (some 2)) 2, .s (.store (some 2)) [.tmp 4, .tmp 17], .a 5 .mov [ci 0], .a 6 .mov [ci 80]] false keep71)
 (.ret)) (.skip)))
 (.seq (.reg [.u 18 (.load (some 2)) 2, .m 19 1, .m 20 7, .a 21 (.bld [(.string ⟨#[]⟩), (.int .i64 0)] [(0, 1), (1, 1)]) [.tmp 19, .tmp 20], .a 22 (.bld [(.bool false), (.string ⟨#[]⟩), (.int .i64 0)] [(0, 1), (1, 2)]) [.const (.bool false), .tmp 21], .w 23 (.call 117) 18 22, .m 24 7, .s (.store (some 2)) [.tmp 4, .tmp 23], .m 5 24, .a 6 .mov [ci 0]] false keep71)
 (.ret))))
theorem fn71 : compFn Try.prog 71 keep71 = some ⟨25, 2, [(4, some (some 2)), (5, none), (6, none)], body71⟩ := by kernel_rfl

/- (chartroom/chartroomref08.Dir).Get -/
abbrev keep72 : List Nat := [0, 1, 2, 4, 5, 6, 7, 13, 22]
def body72 : AC :=
  .seq (.reg [.u 2 .box 0, .a 4 .mov [ci 0], .a 5 .mov [.const (.bool false)]] false keep72)
 (.seq (.reg [.u 8 (.load (some 2)) 2, .u 9 (.call 73) 8, .m 6 9] false keep72)
 (.seq (.seq (.reg [.a 7 .mov [ci 0]] false keep72)
 (.block 0 (.loop (.seq (.seq (.reg [.m 10 7, .m 11 6, .u 12 .len 11, .w 13 (.bin .lss) 10 12] false keep72)
 (.cond (.tmp 13) (.skip) (.exit 0)))
 (.seq (.block 1 (.seq (.reg [.m 16 6, .m 17 7, .w 18 (.ixa 111 2) 16 17, .u 19 (.fad 0) 18, .u 20 (.load none) 19, .m 21 1, .w 22 (.bin .eql) 20 21] false keep72)
 (.cond (.tmp 22) (.seq (.reg [.m 23 6, .m 24 7, .w 25 (.ixa 111 2) 23 24, .u 26 (.fad 1) 25, .u 27 (.load none) 26, .m 4 27, .a 5 .mov [.const (.bool true)]] false keep72)
 (.ret)) (.skip))))
 (.reg [.m 14 7, .c 15 (.bin .add) 14 1, .m 7 15] false keep72))))))
 (.seq (.reg [.a 4 .mov [ci 0], .a 5 .mov [.const (.bool false)]] false keep72)
 (.ret))))
theorem fn72 : compFn Try.prog 72 keep72 = some ⟨28, 2, [(4, none), (5, none)], body72⟩ := by kernel_rfl

/- (chartroom/chartroomref08.Dir).List -/
def body73 : AC :=
  .seq (.reg [.u 1 .box 0, .a 2 (.nilS 111) []] false [0, 1, 2])
 (.seq (.reg [.u 3 (.load (some 2)) 1, .u 4 (.fad 1) 1, .u 5 (.load none) 4, .u 6 .len 5, .w 7 (.call 118) 3 6, .m 2 7] false [0, 1, 2])
 (.ret))
def keep73 : List Nat := [0, 1, 2]
theorem fn73 : compFn Try.prog 73 keep73 = some ⟨8, 1, [(2, none)], body73⟩ := by kernel_rfl

/- (chartroom/chartroomref08.Dir).Fail -/
abbrev keep74 : List Nat := [0, 1, 2, 4]
def body74 : AC :=
  .seq (.reg [.u 2 .box 0, .a 4 (.alloc [(.slice none 0 0), (.slice none 0 0)]) []] false keep74)
 (.seq (.reg [.u 5 (.load (some 2)) 2, .m 6 1, .u 7 (.fad 1) 2, .u 8 (.load none) 7, .u 9 .len 8, .w 10 (.mnx false) 6 9, .a 11 (.mnx true) [ci 0, .tmp 10], .w 12 (.call 118) 5 11, .a 13 (.bld [(.slice none 0 0), (.slice none 0 0)] [(0, 1)]) [.tmp 12], .s (.store (some 2)) [.tmp 4, .tmp 13]] false keep74)
 (.ret))
theorem fn74 : compFn Try.prog 74 keep74 = some ⟨14, 2, [(4, some (some 2))], body74⟩ := by kernel_rfl

/- (chartroom/chartroomref08.Dir).with -/
abbrev keep117 : List Nat := [0, 1, 2, 3, 4, 5]
def body117 : AC :=
  .seq (.reg [.u 2 .box 0, .u 3 .box 1, .a 4 (.alloc [(.slice none 0 0), (.slice none 0 0)]) []] false keep117)
 (.seq (.reg [.a 5 (.nilS 183) []] false keep117)
 (.seq (.reg [.m 6 5, .u 7 (.fad 1) 2, .u 8 (.load none) 7, .w 9 (.app 183 3 32) 6 8, .m 5 9] false keep117)
 (.seq (.reg [.m 12 5, .u 13 (.load (some 3)) 3, .u 14 (.bsl 183 3) 13, ⟨some 15, (.app 183 3 32), [.tmp 12, .tmp 14], none, [1014, 1015, 1014, 1015], none⟩, ⟨some 10, (.fad 0), [.tmp 2], none, [14, 15], none⟩, ⟨some 11, (.load none), [.tmp 10], none, [14, 15], none⟩, .a 16 (.bld [(.slice none 0 0), (.slice none 0 0)] [(0, 1), (1, 1)]) [.tmp 11, .tmp 15], .s (.store (some 2)) [.tmp 4, .tmp 16]] true keep117)
 (.ret))))
theorem fn117 : compFn Try.prog 117 keep117 = some ⟨17, 2, [(4, some (some 2))], body117⟩ := by kernel_rfl

/- (chartroom/chartroomref08.Dir).After -/
abbrev keep118 : List Nat := [0, 1, 2, 4, 5, 6, 11, 19]
def body118 : AC :=
  .seq (.reg [.u 2 .box 0, .a 4 (.nilS 111) []] false keep118)
 (.seq (.reg [.u 7 (.fad 0) 2, .u 8 (.load none) 7, .m 5 8] false keep118)
 (.seq (.seq (.reg [.a 6 .mov [ci 0]] false keep118)
 (.block 0 (.loop (.seq (.seq (.reg [.m 9 6, .m 10 1, .w 11 (.bin .lss) 9 10] false keep118)
 (.cond (.tmp 11) (.skip) (.exit 0)))
 (.seq (.block 1 (.seq (.reg [.u 14 (.fad 1) 2, .u 15 (.load none) 14, .m 16 6, .w 17 (.ixa 183 3) 15 16, .u 18 (.fad 0) 17, .u 19 (.load none) 18] false keep118)
 (.cond (.tmp 19) (.reg [.m 20 5, .u 21 (.fad 1) 2, .u 22 (.load none) 21, .m 23 6, .w 24 (.ixa 183 3) 22 23, .u 25 (.fad 1) 24, .u 26 (.load (some 2)) 25, .w 27 (.call 156) 20 26, .m 5 27] false keep118) (.reg [.m 28 5, .u 29 (.fad 1) 2, .u 30 (.load none) 29, .m 31 6, .w 32 (.ixa 183 3) 30 31, .u 33 (.fad 1) 32, .u 34 (.fad 0) 33, .u 35 (.load none) 34, .w 36 (.call 157) 28 35, .m 5 36] false keep118))))
 (.reg [.m 12 6, .c 13 (.bin .add) 12 1, .m 6 13] false keep118))))))
 (.seq (.reg [.m 37 5, .m 4 37] false keep118)
 (.ret))))
theorem fn118 : compFn Try.prog 118 keep118 = some ⟨38, 2, [(4, none)], body118⟩ := by kernel_rfl

/- chartroom/chartroomref08.put -/
abbrev keep156 : List Nat := [0, 1, 3, 4, 5, 6, 7, 11, 25, 38]
def body156 : AC :=
  .seq (.reg [.u 3 .box 1, .a 4 (.nilS 111) []] false keep156)
 (.seq (.reg [.a 5 (.nilS 111) []] false keep156)
 (.seq (.reg [.a 6 .mov [.const (.bool false)]] false keep156)
 (.seq (.seq (.reg [.a 7 .mov [ci 0]] false keep156)
 (.block 0 (.loop (.seq (.seq (.reg [.m 8 7, .m 9 0, .u 10 .len 9, .w 11 (.bin .lss) 8 10] false keep156)
 (.cond (.tmp 11) (.skip) (.exit 0)))
 (.seq (.block 1 (.seq (.seq (.reg [.m 14 6, .u 15 .not 14, .m 16 15, .mg 17 0 16 true, .mg 18 7 16 true, .bw 19 (.ixa 111 2) 17 18 16 true, .bu 20 (.fad 0) 19 16 true, .bu 21 (.load none) 20 16 true, .bu 22 (.fad 0) 3 16 true, .bu 23 (.load none) 22 16 true, .bw 24 (.bin .gtr) 21 23 16 true, .pa 25 16 24] true keep156)
 (.cond (.tmp 25) (.seq (.reg [.m 26 5, .u 27 (.load (some 2)) 3, .u 28 (.bsl 111 2) 27, .w 29 (.app 111 2 24) 26 28, .m 5 29] false keep156)
 (.reg [.a 6 .mov [.const (.bool true)]] false keep156)) (.skip)))
 (.reg [.m 30 5, .m 31 0, .m 32 7, .w 33 (.ixa 111 2) 31 32, .u 34 (.load (some 2)) 33, .u 35 (.bsl 111 2) 34, .w 36 (.app 111 2 24) 30 35, .m 5 36] false keep156)))
 (.reg [.m 12 7, .c 13 (.bin .add) 12 1, .m 7 13] false keep156))))))
 (.seq (.seq (.reg [.m 37 6, .u 38 .not 37] false keep156)
 (.cond (.tmp 38) (.reg [.m 39 5, .u 40 (.load (some 2)) 3, .u 41 (.bsl 111 2) 40, .w 42 (.app 111 2 24) 39 41, .m 5 42] false keep156) (.skip)))
 (.seq (.reg [.m 43 5, .m 4 43] false keep156)
 (.ret))))))
theorem fn156 : compFn Try.prog 156 keep156 = some ⟨44, 2, [(4, none)], body156⟩ := by kernel_rfl

/- chartroom/chartroomref08.without -/
abbrev keep157 : List Nat := [0, 1, 4, 5, 6, 10, 19]
def body157 : AC :=
  .seq (.reg [.a 4 (.nilS 111) []] false keep157)
 (.seq (.reg [.a 5 (.nilS 111) []] false keep157)
 (.seq (.seq (.reg [.a 6 .mov [ci 0]] false keep157)
 (.block 0 (.loop (.seq (.seq (.reg [.m 7 6, .m 8 0, .u 9 .len 8, .w 10 (.bin .lss) 7 9] false keep157)
 (.cond (.tmp 10) (.skip) (.exit 0)))
 (.seq (.block 1 (.seq (.reg [.m 13 0, .m 14 6, .w 15 (.ixa 111 2) 13 14, .u 16 (.fad 0) 15, .u 17 (.load none) 16, .m 18 1, .w 19 (.bin .neq) 17 18] false keep157)
 (.cond (.tmp 19) (.reg [.m 20 5, .m 21 0, .m 22 6, .w 23 (.ixa 111 2) 21 22, .u 24 (.load (some 2)) 23, .u 25 (.bsl 111 2) 24, .w 26 (.app 111 2 24) 20 25, .m 5 26] false keep157) (.skip))))
 (.reg [.m 11 6, .c 12 (.bin .add) 11 1, .m 6 12] false keep157))))))
 (.seq (.reg [.m 27 5, .m 4 27] false keep157)
 (.ret))))
theorem fn157 : compFn Try.prog 157 keep157 = some ⟨28, 2, [(4, none)], body157⟩ := by kernel_rfl

end Go.Proofs.Ythblkhafehanfaa.Ab
