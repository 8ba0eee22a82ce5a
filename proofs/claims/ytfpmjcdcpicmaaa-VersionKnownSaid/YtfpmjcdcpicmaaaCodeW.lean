import Derived.Test.YtfpmjcdcpicmaaaAb22
import Derived.Test.YtfpmjcdcpicmaaaChecked
namespace Go.Proofs.Ytfpmjcdcpicmaaa.Ab
open Go Go.RowKit
set_option maxRecDepth 100000
abbrev keep40 : List Nat := [0, 2, 3, 11, 20]
def body40 : AC :=
 .seq (.reg [.a 2 .mov [.const (.bool false)]] false keep40)
 (.seq (.seq (.reg [.a 3 .mov [ci 0]] false keep40)
 (.block 0 (.loop (.seq (.seq (.reg [.m 4 3, .m 5 0, .u 6 .len 5, .w 7 (.bin .lss) 4 6, .m 8 7, .mg 9 3 8 true, .bc 10 (.bin .lss) 9 13 8 true, .pa 11 8 10] false keep40)
 (.cond (.tmp 11) (.skip) (.exit 0)))
 (.seq (.block 1 (.seq (.reg [.m 14 0, .m 15 3, .w 16 (.ixa 70 10) 14 15, .u 17 (.fad 7) 16, .u 18 (.load none) 17, .u 19 .slen 18, .c 20 (.bin .gtr) 19 100] false keep40)
 (.cond (.tmp 20) (.seq (.reg [.a 2 .mov [.const (.bool false)]] false keep40)
 (.ret)) (.skip))))
 (.reg [.m 12 3, .c 13 (.bin .add) 12 1, .m 3 13] false keep40))))))
 (.seq (.reg [.m 21 0, .u 22 .len 21, .c 23 (.bin .leq) 22 12, .m 2 23] false keep40)
 (.ret)))
theorem fn40 : compFn Try.prog 40 keep40 = some ⟨24, 1, [(2, none)], body40⟩ := by kernel_rfl
abbrev keep41 : List Nat := [0, 1, 2, 3, 4, 5, 6, 7, 8, 9]
def body41 : AC :=
 .seq (.reg [.a 0 .mov [.const (.bool false)]] false keep41)
 (.seq (.reg [.a 10 (.call 69) [], .m 1 10] false keep41)
 (.seq (.reg [.m 12 1, .a 13 (.call 47) [.tmp 12, .const (.int .u64 8)], .m 11 13, .u 14 (.ext 0) 11, .u 15 (.ext 1) 11, .m 2 14, .m 3 15] false keep41)
 (.seq (.reg [.m 17 1, .u 18 (.call 45) 17, .m 16 18, .u 19 (.ext 0) 16, .u 20 (.ext 1) 16, .a 4 (.alloc [(.int .u64 0), (.int .u64 0), (.int .u64 0), (.int .u64 0), (.int .u64 0), (.int .u64 0), (.int .u64 0), (.string ⟨#[]⟩), (.bool false), (.bool false)]) [], .s (.store (some 10)) [.tmp 4, .tmp 19], .m 5 20] false keep41)
 (.seq (.reg [.m 21 1, .a 22 (.bsl 24 1) [.const (.int .u64 5)], .w 23 (.call 55) 21 22, .m 6 23] false keep41)
 (.seq (.reg [.m 24 6, .a 25 (.call 55) [.tmp 24, .const (.slice none 0 0)], .m 7 25] false keep41)
 (.seq (.reg [.m 27 1, ⟨some 28, (.slc 10 false true), [.tmp 27, ci 2], none, [29], none⟩, .a 29 (.call 67) [], .c 30 (.slc 1 false true) 29 2, ⟨some 31, (.call 111), [.tmp 28, .tmp 30], none, [], (some 999999)⟩, .m 26 31, .u 32 (.ext 0) 26, .u 33 (.ext 1) 26, .m 8 32, .m 9 33] true keep41)
 (.seq (.reg (
 .m 34 3 :: .c 35 (.bin .eql) 34 0 :: .m 36 35 :: .mg 37 2 36 true :: .bu 38 (.call 57) 37 36 true :: .b 39 (.bsl 3 1) [ci 3, ci 5, ci 8] 36 true :: .bw 40 (.call 56) 38 39 36 true :: .pa 41 36 40 :: .m 42 41 :: .mg 43 5 42 true :: .pa 44 42 43 :: .m 45 44 :: .bu 46 (.fad 0) 4 45 true :: .bu 47 (.load none) 46 45 true :: .b 48 (.bin .eql) [.tmp 47, .const (.int .u64 9)] 45 true :: .pa 49 45 48 :: .m 50 49 :: .mg 51 6 50 true :: .bu 52 .len 51 50 true :: .bc 53 (.bin .eql) 52 3 50 true :: .pa 54 50 53 :: .m 55 54 :: .mg 56 6 55 true :: .bu 57 (.call 57) 56 55 true :: .b 58 (.bsl 3 1) [ci 3, ci 5, ci 9] 55 true :: .bw 59 (.call 56) 57 58 55 true :: .pa 60 55 59 :: .m 61 60 :: .mg 62 6 61 true :: .bc 63 (.ixa 70 10) 62 0 61 true :: .bu 64 (.fad 9) 63 61 true :: .bu 65 (.load none) 64 61 true :: .pa 66 61 65 :: .m 67 66 :: .mg 68 6 67 true :: .bc 69 (.ixa 70 10) 68 1 67 true :: .bu 70 (.fad 9) 69 67 true :: .bu 71 (.load none) 70 67 true :: .bu 72 .not 71 67 true :: .pa 73 67 72 :: .m 74 73 :: .mg 75 7 74 true :: .bu 76 (.call 57) 75 74 true :: .b 77 (.bsl 3 1) [ci 9] 74 true :: .bw 78 (.call 56) 76 77 74 true :: .pa 79 74 78 :: .m 80 79 :: .mg 81 9 80 true :: .bc 82 (.bin .eql) 81 0 80 true :: .pa 83 80 82 :: .m 84 83 :: .mg 85 8 84 true :: .b 86 (.bin .eql) [.tmp 85, .const (.string ⟨#[97, 98]⟩)] 84 true :: .pa 87 84 86 :: .m 0 87 :: []) false keep41)
 (.ret))))))))
theorem fn41 : compFn Try.prog 41 keep41 = some ⟨88, 0, [(0, none)], body41⟩ := by kernel_rfl
abbrev keep42 : List Nat := [0, 2, 3, 4, 8]
def body42 : AC :=
 .seq (.reg [.a 2 (.nilS 75) []] false keep42)
 (.seq (.reg [.a 3 (.nilS 75) []] false keep42)
 (.seq (.seq (.reg [.a 4 .mov [ci 0]] false keep42)
 (.block 0 (.loop (.seq (.seq (.reg [.m 5 4, .m 6 0, .u 7 .len 6, .w 8 (.bin .lss) 5 7] false keep42)
 (.cond (.tmp 8) (.skip) (.exit 0)))
 (.seq (.block 1 (.reg [.m 11 3, .m 12 0, .m 13 4, .w 14 (.ixa 70 10) 12 13, .u 15 (.load (some 10)) 14, .u 16 (.call 50) 15, .u 17 (.bsl 75 10) 16, .w 18 (.app 75 10 80) 11 17, .m 3 18] false keep42))
 (.reg [.m 9 4, .c 10 (.bin .add) 9 1, .m 4 10] false keep42))))))
 (.seq (.reg [.m 19 3, .m 2 19] false keep42)
 (.ret))))
theorem fn42 : compFn Try.prog 42 keep42 = some ⟨20, 1, [(2, none)], body42⟩ := by kernel_rfl
abbrev keep43 : List Nat := [0, 1, 4, 5, 6, 7, 14]
def body43 : AC :=
 .seq (.reg [.a 4 (.alloc [(.int .u64 0), (.int .u64 0), (.int .u64 0), (.int .u64 0), (.int .u64 0), (.int .u64 0), (.int .u64 0), (.string ⟨#[]⟩), (.bool false), (.bool false)]) [], .a 5 .mov [.const (.bool false)]] false keep43)
 (.seq (.reg [.m 8 0, .u 9 (.call 49) 8, .m 6 9] false keep43)
 (.seq (.seq (.reg [.m 10 6, .m 11 1, .w 12 (.call 112) 10 11, .m 7 12] false keep43)
 (.seq (.reg [.m 13 7, .c 14 (.bin .geq) 13 0] false keep43)
 (.cond (.tmp 14) (.seq (.reg [.m 15 6, .m 16 7, .w 17 (.ixa 70 10) 15 16, .u 18 (.load (some 10)) 17, .s (.store (some 10)) [.tmp 4, .tmp 18], .a 5 .mov [.const (.bool true)]] false keep43)
 (.ret)) (.skip))))
 (.seq (.reg [.a 19 (.bld [(.int .u64 0), (.int .u64 0), (.int .u64 0), (.int .u64 0), (.int .u64 0), (.int .u64 0), (.int .u64 0), (.string ⟨#[]⟩), (.bool false), (.bool false)] []) [], .s (.store (some 10)) [.tmp 4, .tmp 19], .a 5 .mov [.const (.bool false)]] false keep43)
 (.ret))))
theorem fn43 : compFn Try.prog 43 keep43 = some ⟨20, 2, [(4, some (some 10)), (5, none)], body43⟩ := by kernel_rfl
abbrev keep44 : List Nat := [0, 1, 4, 5, 6, 10, 27]
def body44 : AC :=
 .seq (.reg [.a 4 (.alloc [(.int .u64 0), (.int .u64 0), (.int .u64 0), (.int .u64 0), (.int .u64 0), (.int .u64 0), (.int .u64 0), (.string ⟨#[]⟩), (.bool false), (.bool false)]) [], .a 5 .mov [.const (.bool false)]] false keep44)
 (.seq (.seq (.reg [.a 6 .mov [ci 0]] false keep44)
 (.block 0 (.loop (.seq (.seq (.reg [.m 7 6, .m 8 0, .u 9 .len 8, .w 10 (.bin .lss) 7 9] false keep44)
 (.cond (.tmp 10) (.skip) (.exit 0)))
 (.seq (.block 1 (.seq (.reg [.m 13 0, .m 14 6, .w 15 (.ixa 75 10) 13 14, .u 16 (.fad 0) 15, .u 17 (.load none) 16, .m 18 1, .w 19 (.bin .eql) 17 18, .m 20 19, .mg 21 0 20 true, .mg 22 6 20 true, .bw 23 (.ixa 75 10) 21 22 20 true, .bu 24 (.fad 9) 23 20 true, .bu 25 (.load none) 24 20 true, .bu 26 .not 25 20 true, .pa 27 20 26] false keep44)
 (.cond (.tmp 27) (.seq (.reg [.m 28 0, .m 29 6, .w 30 (.ixa 75 10) 28 29, .u 31 (.load (some 10)) 30, .s (.store (some 10)) [.tmp 4, .tmp 31], .a 5 .mov [.const (.bool true)]] false keep44)
 (.ret)) (.skip))))
 (.reg [.m 11 6, .c 12 (.bin .add) 11 1, .m 6 12] false keep44))))))
 (.seq (.reg [.a 32 (.bld [(.int .u64 0), (.int .u64 0), (.int .u64 0), (.int .u64 0), (.int .u64 0), (.int .u64 0), (.int .u64 0), (.string ⟨#[]⟩), (.bool false), (.bool false)] []) [], .s (.store (some 10)) [.tmp 4, .tmp 32], .a 5 .mov [.const (.bool false)]] false keep44)
 (.ret)))
theorem fn44 : compFn Try.prog 44 keep44 = some ⟨33, 2, [(4, some (some 10)), (5, none)], body44⟩ := by kernel_rfl
abbrev keep45 : List Nat := [0, 2, 3, 4, 9]
def body45 : AC :=
 .seq (.reg [.a 2 (.alloc [(.int .u64 0), (.int .u64 0), (.int .u64 0), (.int .u64 0), (.int .u64 0), (.int .u64 0), (.int .u64 0), (.string ⟨#[]⟩), (.bool false), (.bool false)]) [], .a 3 .mov [.const (.bool false)]] false keep45)
 (.seq (.reg [.m 5 0, .u 6 (.call 49) 5, .m 4 6] false keep45)
 (.seq (.seq (.reg [.m 7 4, .u 8 .len 7, .c 9 (.bin .eql) 8 0] false keep45)
 (.cond (.tmp 9) (.seq (.reg [.a 10 (.bld [(.int .u64 0), (.int .u64 0), (.int .u64 0), (.int .u64 0), (.int .u64 0), (.int .u64 0), (.int .u64 0), (.string ⟨#[]⟩), (.bool false), (.bool false)] []) [], .s (.store (some 10)) [.tmp 2, .tmp 10], .a 3 .mov [.const (.bool false)]] false keep45)
 (.ret)) (.skip)))
 (.seq (.reg [.m 11 4, .m 12 4, .u 13 .len 12, .c 14 (.bin .sub) 13 1, .w 15 (.ixa 70 10) 11 14, .u 16 (.load (some 10)) 15, .s (.store (some 10)) [.tmp 2, .tmp 16], .a 3 .mov [.const (.bool true)]] false keep45)
 (.ret))))
theorem fn45 : compFn Try.prog 45 keep45 = some ⟨17, 1, [(2, some (some 10)), (3, none)], body45⟩ := by kernel_rfl
abbrev keep46 : List Nat := [0, 2, 3, 4, 9, 17]
def body46 : AC :=
 .seq (.reg [.a 2 (.alloc [(.int .u64 0), (.int .u64 0), (.int .u64 0), (.int .u64 0), (.int .u64 0), (.int .u64 0), (.int .u64 0), (.string ⟨#[]⟩), (.bool false), (.bool false)]) [], .a 3 .mov [.const (.bool false)]] false keep46)
 (.seq (.seq (.reg [.m 5 0, .u 6 .len 5, .c 7 (.bin .sub) 6 1, .m 4 7] false keep46)
 (.block 0 (.loop (.seq (.seq (.reg [.m 8 4, .c 9 (.bin .geq) 8 0] false keep46)
 (.cond (.tmp 9) (.skip) (.exit 0)))
 (.seq (.block 1 (.seq (.reg [.m 12 0, .m 13 4, .w 14 (.ixa 75 10) 12 13, .u 15 (.fad 9) 14, .u 16 (.load none) 15, .u 17 .not 16] false keep46)
 (.cond (.tmp 17) (.seq (.reg [.m 18 0, .m 19 4, .w 20 (.ixa 75 10) 18 19, .u 21 (.load (some 10)) 20, .s (.store (some 10)) [.tmp 2, .tmp 21], .a 3 .mov [.const (.bool true)]] false keep46)
 (.ret)) (.skip))))
 (.reg [.m 10 4, .c 11 (.bin .sub) 10 1, .m 4 11] false keep46))))))
 (.seq (.reg [.a 22 (.bld [(.int .u64 0), (.int .u64 0), (.int .u64 0), (.int .u64 0), (.int .u64 0), (.int .u64 0), (.int .u64 0), (.string ⟨#[]⟩), (.bool false), (.bool false)] []) [], .s (.store (some 10)) [.tmp 2, .tmp 22], .a 3 .mov [.const (.bool false)]] false keep46)
 (.ret)))
theorem fn46 : compFn Try.prog 46 keep46 = some ⟨23, 1, [(2, some (some 10)), (3, none)], body46⟩ := by kernel_rfl
abbrev keep47 : List Nat := [0, 1, 4, 5, 6, 7, 8, 11, 19, 26]
def body47 : AC :=
 .seq (.reg [.a 4 (.nilS 70) [], .a 5 .mov [ci 0]] false keep47)
 (.seq (.seq (.reg [.m 9 0, .u 10 (.call 53) 9, .u 11 .not 10] false keep47)
 (.cond (.tmp 11) (.seq (.reg [.a 4 (.nilS 70) [], .a 5 .mov [ci 2]] false keep47)
 (.ret)) (.skip)))
 (.seq (.reg [.m 13 0, .m 14 1, .w 15 (.call 43) 13 14, .m 12 15, .u 16 (.ext 0) 12, .u 17 (.ext 1) 12, .a 6 (.alloc [(.int .u64 0), (.int .u64 0), (.int .u64 0), (.int .u64 0), (.int .u64 0), (.int .u64 0), (.int .u64 0), (.string ⟨#[]⟩), (.bool false), (.bool false)]) [], .s (.store (some 10)) [.tmp 6, .tmp 16], .m 7 17] false keep47)
 (.seq (.seq (.reg [.m 18 7, .u 19 .not 18] false keep47)
 (.cond (.tmp 19) (.seq (.reg [.a 4 (.nilS 70) [], .a 5 .mov [ci 150]] false keep47)
 (.ret)) (.skip)))
 (.seq (.reg [.a 8 (.nilS 70) []] false keep47)
 (.seq (.skip)
 (.seq (.block 0 (.loop (.block 1 (.seq (.reg [.m 20 8, .u 21 (.load (some 10)) 6, .u 22 (.bsl 70 10) 21, .w 23 (.app 70 10 80) 20 22, .m 8 23] false keep47)
 (.seq (.seq (.reg [.u 24 (.load (some 10)) 6, .u 25 (.call 113) 24, .a 26 (.bin .eql) [.tmp 25, .const (.int .u64 0)]] false keep47)
 (.cond (.tmp 26) (.exit 0) (.skip)))
 (.reg [.m 27 0, .m 28 0, .u 29 (.load (some 10)) 6, .u 30 (.call 113) 29, .w 31 (.call 112) 28 30, .w 32 (.ixa 70 10) 27 31, .u 33 (.load (some 10)) 32, .s (.store (some 10)) [.tmp 6, .tmp 33]] false keep47))))))
 (.seq (.reg [.m 34 8, .u 35 (.call 114) 34] false keep47)
 (.seq (.reg [.m 36 8, .m 4 36, .a 5 .mov [ci 0]] false keep47)
 (.ret)))))))))
theorem fn47 : compFn Try.prog 47 keep47 = some ⟨37, 2, [(4, none), (5, none)], body47⟩ := by kernel_rfl
abbrev keep48 : List Nat := [0, 1, 4, 5, 6, 7, 10, 18]
def body48 : AC :=
 .seq (.reg [.a 4 (.nilS 75) [], .a 5 .mov [ci 0]] false keep48)
 (.seq (.seq (.reg [.m 8 0, .u 9 (.call 54) 8, .u 10 .not 9] false keep48)
 (.cond (.tmp 10) (.seq (.reg [.a 4 (.nilS 75) [], .a 5 .mov [ci 2]] false keep48)
 (.ret)) (.skip)))
 (.seq (.reg [.m 12 0, .m 13 1, .w 14 (.call 44) 12 13, .m 11 14, .u 15 (.ext 0) 11, .u 16 (.ext 1) 11, .a 6 (.alloc [(.int .u64 0), (.int .u64 0), (.int .u64 0), (.int .u64 0), (.int .u64 0), (.int .u64 0), (.int .u64 0), (.string ⟨#[]⟩), (.bool false), (.bool false)]) [], .s (.store (some 10)) [.tmp 6, .tmp 15], .m 7 16] false keep48)
 (.seq (.seq (.reg [.m 17 7, .u 18 .not 17] false keep48)
 (.cond (.tmp 18) (.seq (.reg [.a 4 (.nilS 75) [], .a 5 .mov [ci 150]] false keep48)
 (.ret)) (.skip)))
 (.seq (.reg [.m 19 0, .u 20 (.load (some 10)) 6, .w 21 (.call 115) 19 20, .m 4 21, .a 5 .mov [ci 0]] false keep48)
 (.ret)))))
theorem fn48 : compFn Try.prog 48 keep48 = some ⟨22, 2, [(4, none), (5, none)], body48⟩ := by kernel_rfl
abbrev keep49 : List Nat := [0, 2, 4, 5, 6, 7, 8, 13]
def body49 : AC :=
 .seq (.reg [.a 2 (.nilS 70) []] false keep49)
 (.seq (.seq (.reg [.m 5 0, .u 6 .len 5, .a 7 .mov [ci 0]] false keep49)
 (.block 0 (.loop (.seq (.reg [.w 8 (.bin .lss) 7 6] false keep49)
 (.seq (.cond (.tmp 8) (.skip) (.exit 0))
 (.seq (.block 1 (.seq (.reg [.w 9 (.ixa 70 10) 5 7, .u 10 (.load (some 10)) 9, .a 4 (.alloc [(.int .u64 0), (.int .u64 0), (.int .u64 0), (.int .u64 0), (.int .u64 0), (.int .u64 0), (.int .u64 0), (.string ⟨#[]⟩), (.bool false), (.bool false)]) [], .s (.store (some 10)) [.tmp 4, .tmp 10]] false keep49)
 (.seq (.reg [.u 11 (.fad 9) 4, .u 12 (.load none) 11, .u 13 .not 12] false keep49)
 (.cond (.tmp 13) (.reg [.m 14 2, .u 15 (.load (some 10)) 4, .u 16 (.bsl 70 10) 15, .w 17 (.app 70 10 80) 14 16, .m 2 17] false keep49) (.skip)))))
 (.reg [.c 18 (.bin .add) 7 1, .m 7 18] false keep49)))))))
 (.seq (.reg [.m 19 2, .m 2 19] false keep49)
 (.ret)))
theorem fn49 : compFn Try.prog 49 keep49 = some ⟨20, 1, [(2, none)], body49⟩ := by kernel_rfl
def body50 : AC :=
 .seq (.reg [.u 1 .box 0, .a 2 (.alloc [(.int .u64 0), (.int .u64 0), (.int .u64 0), (.int .u64 0), (.int .u64 0), (.int .u64 0), (.int .u64 0), (.string ⟨#[]⟩), (.bool false), (.bool false)]) []] false [0, 1, 2])
 (.seq (.reg [.u 3 (.fad 0) 1, .u 4 (.load none) 3, .u 5 (.fad 1) 1, .u 6 (.load none) 5, .u 7 (.fad 2) 1, .u 8 (.load none) 7, .u 9 (.fad 3) 1, .u 10 (.load none) 9, .u 11 (.fad 4) 1, .u 12 (.load none) 11, .u 13 (.fad 5) 1, .u 14 (.fad 0) 13, .u 15 (.load none) 14, .u 16 (.fad 5) 1, .u 17 (.fad 1) 16, .u 18 (.load none) 17, .a 19 (.bld [(.int .u64 0), (.int .u64 0)] [(0, 1), (1, 1)]) [.tmp 15, .tmp 18], .u 20 (.fad 7) 1, .u 21 (.load none) 20, .u 22 (.fad 8) 1, .u 23 (.load none) 22, .u 24 (.fad 9) 1, .u 25 (.load none) 24, .a 26 (.bld [(.int .u64 0), (.int .u64 0), (.int .u64 0), (.int .u64 0), (.int .u64 0), (.int .u64 0), (.int .u64 0), (.string ⟨#[]⟩), (.bool false), (.bool false)] [(0, 1), (1, 1), (2, 1), (3, 1), (4, 1), (5, 2), (7, 1), (8, 1), (9, 1)]) [.tmp 4, .tmp 6, .tmp 8, .tmp 10, .tmp 12, .tmp 19, .tmp 21, .tmp 23, .tmp 25], .s (.store (some 10)) [.tmp 2, .tmp 26]] false [0, 1, 2])
 (.ret))
def keep50 : List Nat := [0, 1, 2]
theorem fn50 : compFn Try.prog 50 keep50 = some ⟨27, 1, [(2, some (some 10))], body50⟩ := by kernel_rfl
abbrev keep51 : List Nat := [0, 1, 4, 5, 6, 13, 17, 28]
def body51 : AC :=
 .seq (.reg [.a 4 .mov [.const (.bool false)]] false keep51)
 (.seq (.reg [.m 7 0, .u 8 (.call 42) 7, .m 5 8] false keep51)
 (.seq (.seq (.reg [.m 9 5, .u 10 .len 9, .m 11 1, .u 12 .len 11, .w 13 (.bin .neq) 10 12] false keep51)
 (.cond (.tmp 13) (.seq (.reg [.a 4 .mov [.const (.bool false)]] false keep51)
 (.ret)) (.skip)))
 (.seq (.seq (.reg [.a 6 .mov [ci 0]] false keep51)
 (.block 0 (.loop (.seq (.seq (.reg [.m 14 6, .m 15 5, .u 16 .len 15, .w 17 (.bin .lss) 14 16] false keep51)
 (.cond (.tmp 17) (.skip) (.exit 0)))
 (.seq (.block 1 (.seq (.reg [.m 20 5, .m 21 6, .w 22 (.ixa 75 10) 20 21, .u 23 (.load (some 10)) 22, .m 24 1, .m 25 6, .w 26 (.ixa 75 10) 24 25, .u 27 (.load (some 10)) 26, .a 28 (.eqs true [9, 9, 9, 9, 9, 9, 9, 1, 0, 0]) [.tmp 23, .tmp 27]] true keep51)
 (.cond (.tmp 28) (.seq (.reg [.a 4 .mov [.const (.bool false)]] false keep51)
 (.ret)) (.skip))))
 (.reg [.m 18 6, .c 19 (.bin .add) 18 1, .m 6 19] false keep51))))))
 (.seq (.reg [.a 4 .mov [.const (.bool true)]] false keep51)
 (.ret)))))
theorem fn51 : compFn Try.prog 51 keep51 = some ⟨29, 2, [(4, none)], body51⟩ := by kernel_rfl
abbrev keep52 : List Nat := [0, 2, 3, 4, 8, 16]
def body52 : AC :=
 .seq (.reg [.a 2 (.nilS 75) []] false keep52)
 (.seq (.reg [.a 3 (.nilS 75) []] false keep52)
 (.seq (.seq (.reg [.a 4 .mov [ci 0]] false keep52)
 (.block 0 (.loop (.seq (.seq (.reg [.m 5 4, .m 6 0, .u 7 .len 6, .w 8 (.bin .lss) 5 7] false keep52)
 (.cond (.tmp 8) (.skip) (.exit 0)))
 (.seq (.block 1 (.seq (.reg [.m 11 0, .m 12 4, .w 13 (.ixa 75 10) 11 12, .u 14 (.fad 9) 13, .u 15 (.load none) 14, .u 16 .not 15] false keep52)
 (.cond (.tmp 16) (.reg [.m 17 3, .m 18 0, .m 19 4, .w 20 (.ixa 75 10) 18 19, .u 21 (.load (some 10)) 20, .u 22 (.bsl 75 10) 21, .w 23 (.app 75 10 80) 17 22, .m 3 23] false keep52) (.skip))))
 (.reg [.m 9 4, .c 10 (.bin .add) 9 1, .m 4 10] false keep52))))))
 (.seq (.reg [.m 24 3, .m 2 24] false keep52)
 (.ret))))
theorem fn52 : compFn Try.prog 52 keep52 = some ⟨25, 1, [(2, none)], body52⟩ := by kernel_rfl
abbrev keep53 : List Nat := [0, 2, 3, 4, 5, 6, 7, 8, 9, 30]
def body53 : AC :=
 .seq (.reg [.a 2 .mov [.const (.bool false)]] false keep53)
 (.seq (.reg [.a 3 .mov [.const (.int .u64 0)]] false keep53)
 (.seq (.seq (.reg [.m 6 0, .u 7 .len 6, .a 8 .mov [ci 0]] false keep53)
 (.block 0 (.loop (.seq (.reg [.w 9 (.bin .lss) 8 7] false keep53)
 (.seq (.cond (.tmp 9) (.skip) (.exit 0))
 (.seq (.block 1 (.seq (.reg [.m 10 8, .w 11 (.ixa 70 10) 6 8, .u 12 (.load (some 10)) 11, .a 5 (.alloc [(.int .u64 0), (.int .u64 0), (.int .u64 0), (.int .u64 0), (.int .u64 0), (.int .u64 0), (.int .u64 0), (.string ⟨#[]⟩), (.bool false), (.bool false)]) [], .m 4 10, .s (.store (some 10)) [.tmp 5, .tmp 12]] false keep53)
 (.seq (.seq (.reg [.u 13 (.fad 0) 5, .u 14 (.load none) 13, .m 15 3, .w 16 (.bin .leq) 14 15, .m 17 16, .bu 18 (.load (some 10)) 5 17 false, .bu 19 (.call 113) 18 17 false, .b 20 (.bin .neq) [.tmp 19, .const (.int .u64 0)] 17 false, .mg 21 20 17 false, .mg 22 0 21 true, .mg 23 4 21 true, ⟨some 24, (.slc 10 false true), [.tmp 22, .tmp 23], some (21, true), [26], none⟩, .bu 25 (.load (some 10)) 5 21 true, .bu 26 (.call 113) 25 21 true, .bw 27 (.call 112) 24 26 21 true, .bc 28 (.bin .lss) 27 0 21 true, .b 29 .pick [.tmp 21, .tmp 28, .const (.bool false)] 17 false, .po 30 17 29] true keep53)
 (.cond (.tmp 30) (.seq (.reg [.a 2 .mov [.const (.bool false)]] false keep53)
 (.ret)) (.skip)))
 (.reg [.u 31 (.fad 0) 5, .u 32 (.load none) 31, .m 3 32] false keep53))))
 (.reg [.c 33 (.bin .add) 8 1, .m 8 33] false keep53)))))))
 (.seq (.reg [.a 2 .mov [.const (.bool true)]] false keep53)
 (.ret))))
theorem fn53 : compFn Try.prog 53 keep53 = some ⟨34, 1, [(2, none)], body53⟩ := by kernel_rfl
abbrev keep54 : List Nat := [0, 2, 3, 7, 52]
def body54 : AC :=
 .seq (.reg [.a 2 .mov [.const (.bool false)]] false keep54)
 (.seq (.seq (.reg [.a 3 .mov [ci 0]] false keep54)
 (.block 0 (.loop (.seq (.seq (.reg [.m 4 3, .m 5 0, .u 6 .len 5, .w 7 (.bin .lss) 4 6] false keep54)
 (.cond (.tmp 7) (.skip) (.exit 0)))
 (.seq (.block 1 (.seq (.reg (
  .m 10 0 :: .m 11 3 :: .w 12 (.ixa 75 10) 10 11 :: .u 13 (.fad 0) 12 :: .u 14 (.load none) 13 :: .a 15 (.bin .eql) [.tmp 14, .const (.int .u64 0)] :: .m 16 15 :: .mg 17 3 16 false :: .bc 18 (.bin .gtr) 17 0 16 false :: .mg 19 18 16 false :: .mg 20 0 19 true :: .mg 21 3 19 true :: .bw 22 (.ixa 75 10) 20 21 19 true :: .bu 23 (.fad 0) 22 19 true :: .bu 24 (.load none) 23 19 true :: .mg 25 0 19 true :: .mg 26 3 19 true :: .bc 27 (.bin .sub) 26 1 19 true :: .bw 28 (.ixa 75 10) 25 27 19 true :: .bu 29 (.fad 0) 28 19 true :: .bu 30 (.load none) 29 19 true :: .bw 31 (.bin .leq) 24 30 19 true :: .b 32 .pick [.tmp 19, .tmp 31, .const (.bool false)] 16 false :: .po 33 16 32 :: .m 34 33 :: .mg 35 0 34 false :: .mg 36 3 34 false :: .bw 37 (.ixa 75 10) 35 36 34 false :: .bu 38 (.load (some 10)) 37 34 false :: .bu 39 (.call 116) 38 34 false :: .b 40 (.bin .gtr) [.tmp 39, .const (.int .u64 0)] 34 false :: .mg 41 40 34 false :: .mg 42 0 41 true :: .mg 43 3 41 true :: .mg 44 0 41 true :: .mg 45 3 41 true :: .bw 46 (.ixa 75 10) 44 45 41 true :: .bu 47 (.load (some 10)) 46 41 true :: .bu 48 (.call 116) 47 41 true :: .b 49 (.call 117) [.tmp 42, .tmp 43, .tmp 48] 41 true :: .bc 50 (.bin .lss) 49 0 41 true :: .b 51 .pick [.tmp 41, .tmp 50, .const (.bool false)] 34 false :: .po 52 34 51 :: []) true keep54)
 (.cond (.tmp 52) (.seq (.reg [.a 2 .mov [.const (.bool false)]] false keep54)
 (.ret)) (.skip))))
 (.reg [.m 8 3, .c 9 (.bin .add) 8 1, .m 3 9] false keep54))))))
 (.seq (.reg [.a 2 .mov [.const (.bool true)]] false keep54)
 (.ret)))
theorem fn54 : compFn Try.prog 54 keep54 = some ⟨53, 1, [(2, none)], body54⟩ := by kernel_rfl
abbrev keep55 : List Nat := [0, 1, 4, 5, 6, 8, 9, 10, 12, 13, 16, 19, 27, 28, 29, 30, 57, 58, 59, 60, 70, 71, 72, 73]
def body55 : AC :=
 .seq (.reg [.a 4 (.nilS 70) []] false keep55)
 (.seq (.seq (.reg [.m 17 0, .u 18 (.call 53) 17, .u 19 .not 18] false keep55)
 (.cond (.tmp 19) (.seq (.reg [.a 4 (.nilS 70) []] false keep55)
 (.ret)) (.skip)))
 (.seq (.reg [.m 20 0, .u 21 (.call 118) 20, .m 5 21] false keep55)
 (.seq (.reg [.m 23 0, .u 24 (.call 45) 23, .m 22 24, .u 25 (.ext 0) 22, .u 26 (.ext 1) 22, .a 6 (.alloc [(.int .u64 0), (.int .u64 0), (.int .u64 0), (.int .u64 0), (.int .u64 0), (.int .u64 0), (.int .u64 0), (.string ⟨#[]⟩), (.bool false), (.bool false)]) [], .s (.store (some 10)) [.tmp 6, .tmp 25], .m 7 26] false keep55)
 (.seq (.seq (.reg [.m 27 5, .u 28 .len 27, .a 29 .mov [ci 0]] false keep55)
 (.block 0 (.loop (.seq (.reg [.w 30 (.bin .lss) 29 28] false keep55)
 (.seq (.cond (.tmp 30) (.skip) (.exit 0))
 (.seq (.block 1 (.seq (.reg [.m 31 29, .w 32 (.ixa 70 10) 27 29, .u 33 (.load (some 10)) 32, .a 9 (.alloc [(.int .u64 0), (.int .u64 0), (.int .u64 0), (.int .u64 0), (.int .u64 0), (.int .u64 0), (.int .u64 0), (.string ⟨#[]⟩), (.bool false), (.bool false)]) [], .m 8 31, .s (.store (some 10)) [.tmp 9, .tmp 33]] false keep55)
 (.reg [.m 34 5, .m 35 8, .u 36 (.fad 9) 9, .u 37 (.load none) 36, .m 38 37, .bu 39 (.fad 0) 9 38 false, .bu 40 (.load none) 39 38 false, .bu 41 (.fad 0) 6 38 false, .bu 42 (.load none) 41 38 false, .bw 43 (.bin .neq) 40 42 38 false, .mg 44 43 38 false, .mg 45 1 44 true, .bu 46 (.fad 0) 9 44 true, .bu 47 (.load none) 46 44 true, .bw 48 (.call 119) 45 47 44 true, .bu 49 .not 48 44 true, .b 50 .pick [.tmp 44, .tmp 49, .const (.bool false)] 38 false, .po 51 38 50, .w 52 (.ixa 70 10) 34 35, .u 53 (.fad 9) 52, .s (.store none) [.tmp 53, .tmp 51]] false keep55)))
 (.reg [.c 54 (.bin .add) 29 1, .m 29 54] false keep55)))))))
 (.seq (.reg [.a 55 (.ex .mkm) [], .a 10 (.alloc [(.map none)]) [], .s (.store none) [.tmp 10, .tmp 55]] false keep55)
 (.seq (.seq (.reg [.m 56 5, .u 57 (.call 49) 56, .u 58 .len 57, .a 59 .mov [ci 0]] false keep55)
 (.block 2 (.loop (.seq (.reg [.w 60 (.bin .lss) 59 58] false keep55)
 (.seq (.cond (.tmp 60) (.skip) (.exit 2))
 (.seq (.block 3 (.seq (.reg [.w 61 (.ixa 70 10) 57 59, .u 62 (.load (some 10)) 61, .a 12 (.alloc [(.int .u64 0), (.int .u64 0), (.int .u64 0), (.int .u64 0), (.int .u64 0), (.int .u64 0), (.int .u64 0), (.string ⟨#[]⟩), (.bool false), (.bool false)]) [], .s (.store (some 10)) [.tmp 12, .tmp 62]] false keep55)
 (.seq (.reg [.m 64 5, .u 65 (.fad 0) 12, .u 66 (.load none) 65, .w 67 (.call 47) 64 66, .m 63 67, .u 68 (.ext 0) 63, .u 69 (.ext 1) 63, .m 13 68, .m 14 69] false keep55)
 (.seq (.reg [.m 70 13, .u 71 .len 70, .a 72 .mov [ci 0]] false keep55)
 (.block 4 (.loop (.seq (.reg [.w 73 (.bin .lss) 72 71] false keep55)
 (.seq (.cond (.tmp 73) (.skip) (.exit 4))
 (.seq (.block 5 (.seq (.reg [.w 74 (.ixa 70 10) 70 72, .u 75 (.load (some 10)) 74, .a 16 (.alloc [(.int .u64 0), (.int .u64 0), (.int .u64 0), (.int .u64 0), (.int .u64 0), (.int .u64 0), (.int .u64 0), (.string ⟨#[]⟩), (.bool false), (.bool false)]) [], .s (.store (some 10)) [.tmp 16, .tmp 75]] false keep55)
 (.reg [.u 76 (.load none) 10, .u 77 (.fad 0) 16, .u 78 (.load none) 77, .a 79 (.bld [] []) [], .s (.ex (.mput 9)) [.tmp 76, .tmp 78, .tmp 79]] false keep55)))
 (.reg [.c 80 (.bin .add) 72 1, .m 72 80] false keep55))))))))))
 (.reg [.c 81 (.bin .add) 59 1, .m 59 81] false keep55)))))))
 (.seq (.reg [.m 82 5, .u 83 (.mkf 121) 10, .w 84 (.call 120) 82 83, .m 4 84] false keep55)
 (.ret))))))))
theorem fn55 : compFn Try.prog 55 keep55 = some ⟨85, 2, [(4, none)], body55⟩ := by kernel_rfl
abbrev keep56 : List Nat := [0, 1, 4, 5, 10, 14, 25]
def body56 : AC :=
 .seq (.reg [.a 4 .mov [.const (.bool false)]] false keep56)
 (.seq (.seq (.reg [.m 6 0, .u 7 .len 6, .m 8 1, .u 9 .len 8, .w 10 (.bin .neq) 7 9] false keep56)
 (.cond (.tmp 10) (.seq (.reg [.a 4 .mov [.const (.bool false)]] false keep56)
 (.ret)) (.skip)))
 (.seq (.seq (.reg [.a 5 .mov [ci 0]] false keep56)
 (.block 0 (.loop (.seq (.seq (.reg [.m 11 5, .m 12 0, .u 13 .len 12, .w 14 (.bin .lss) 11 13] false keep56)
 (.cond (.tmp 14) (.skip) (.exit 0)))
 (.seq (.block 1 (.seq (.reg [.m 17 0, .m 18 5, .w 19 (.ixa 3 1) 17 18, .u 20 (.load none) 19, .m 21 1, .m 22 5, .w 23 (.ixa 3 1) 21 22, .u 24 (.load none) 23, .w 25 (.bin .neq) 20 24] true keep56)
 (.cond (.tmp 25) (.seq (.reg [.a 4 .mov [.const (.bool false)]] false keep56)
 (.ret)) (.skip))))
 (.reg [.m 15 5, .c 16 (.bin .add) 15 1, .m 5 16] false keep56))))))
 (.seq (.reg [.a 4 .mov [.const (.bool true)]] false keep56)
 (.ret))))
theorem fn56 : compFn Try.prog 56 keep56 = some ⟨26, 2, [(4, none)], body56⟩ := by kernel_rfl
abbrev keep57 : List Nat := [0, 2, 3, 4, 8]
def body57 : AC :=
 .seq (.reg [.a 2 (.nilS 3) []] false keep57)
 (.seq (.reg [.a 3 (.nilS 3) []] false keep57)
 (.seq (.seq (.reg [.a 4 .mov [ci 0]] false keep57)
 (.block 0 (.loop (.seq (.seq (.reg [.m 5 4, .m 6 0, .u 7 .len 6, .w 8 (.bin .lss) 5 7] false keep57)
 (.cond (.tmp 8) (.skip) (.exit 0)))
 (.seq (.block 1 (.reg [.m 11 3, .m 12 0, .m 13 4, .w 14 (.ixa 70 10) 12 13, .u 15 (.fad 0) 14, .u 16 (.load none) 15, .u 17 (.cvi .i64) 16, .u 18 (.bsl 3 1) 17, .w 19 (.app 3 1 8) 11 18, .m 3 19] false keep57))
 (.reg [.m 9 4, .c 10 (.bin .add) 9 1, .m 4 10] false keep57))))))
 (.seq (.reg [.m 20 3, .m 2 20] false keep57)
 (.ret))))
theorem fn57 : compFn Try.prog 57 keep57 = some ⟨21, 1, [(2, none)], body57⟩ := by kernel_rfl
abbrev keep62 : List Nat := [0, 1, 4, 5, 7, 8, 9, 10, 11, 12, 13, 16, 25, 56, 62, 92, 93]
def body62 : AC :=
 .seq (.reg [.a 4 (.nilS 75) []] false keep62)
 (.seq (.seq (.reg [.m 14 0, .u 15 (.call 54) 14, .u 16 .not 15] false keep62)
 (.cond (.tmp 16) (.seq (.reg [.a 4 (.nilS 75) []] false keep62)
 (.ret)) (.skip)))
 (.seq (.reg [.m 18 0, .u 19 (.call 46) 18, .m 17 19, .u 20 (.ext 0) 17, .u 21 (.ext 1) 17, .a 5 (.alloc [(.int .u64 0), (.int .u64 0), (.int .u64 0), (.int .u64 0), (.int .u64 0), (.int .u64 0), (.int .u64 0), (.string ⟨#[]⟩), (.bool false), (.bool false)]) [], .s (.store (some 10)) [.tmp 5, .tmp 20], .m 6 21] false keep62)
 (.seq (.reg [.a 7 (.nilS 75) [], .a 8 (.nilS 75) []] false keep62)
 (.seq (.seq (.reg [.a 9 .mov [ci 0]] false keep62)
 (.block 0 (.loop (.seq (.seq (.reg [.m 22 9, .m 23 0, .u 24 .len 23, .w 25 (.bin .lss) 22 24] false keep62)
 (.cond (.tmp 25) (.skip) (.exit 0)))
 (.seq (.block 1 (.seq (.reg [.m 28 0, .m 29 9, .w 30 (.ixa 75 10) 28 29, .u 31 (.load (some 10)) 30, .a 10 (.alloc [(.int .u64 0), (.int .u64 0), (.int .u64 0), (.int .u64 0), (.int .u64 0), (.int .u64 0), (.int .u64 0), (.string ⟨#[]⟩), (.bool false), (.bool false)]) [], .s (.store (some 10)) [.tmp 10, .tmp 31]] false keep62)
 (.seq (.reg [.u 32 (.fad 9) 10, .u 33 (.load none) 32, .m 34 33, .bu 35 (.fad 0) 10 34 false, .bu 36 (.load none) 35 34 false, .bu 37 (.fad 0) 5 34 false, .bu 38 (.load none) 37 34 false, .bw 39 (.bin .neq) 36 38 34 false, .mg 40 39 34 false, .mg 41 1 40 true, .bu 42 (.fad 0) 10 40 true, .bu 43 (.load none) 42 40 true, .bw 44 (.call 123) 41 43 40 true, .bu 45 .not 44 40 true, .b 46 .pick [.tmp 40, .tmp 45, .const (.bool false)] 34 false, .po 47 34 46, .u 48 (.fad 9) 10, .s (.store none) [.tmp 48, .tmp 47]] false keep62)
 (.reg [.m 49 7, .u 50 (.load (some 10)) 10, .u 51 (.bsl 75 10) 50, .w 52 (.app 75 10 80) 49 51, .m 7 52] false keep62))))
 (.reg [.m 26 9, .c 27 (.bin .add) 26 1, .m 9 27] false keep62))))))
 (.seq (.seq (.reg [.a 11 .mov [ci 0]] false keep62)
 (.block 2 (.loop (.seq (.seq (.reg [.m 53 11, .m 54 7, .u 55 .len 54, .w 56 (.bin .lss) 53 55] false keep62)
 (.cond (.tmp 56) (.skip) (.exit 2)))
 (.seq (.block 3 (.seq (.reg [.a 12 .mov [.const (.bool false)]] false keep62)
 (.seq (.seq (.reg [.a 13 .mov [ci 0]] false keep62)
 (.block 4 (.loop (.seq (.seq (.reg [.m 59 13, .m 60 7, .u 61 .len 60, .w 62 (.bin .lss) 59 61] false keep62)
 (.cond (.tmp 62) (.skip) (.exit 4)))
 (.seq (.block 5 (.seq (.reg [.m 65 7, .m 66 13, .w 67 (.ixa 75 10) 65 66, .u 68 (.fad 9) 67, .u 69 (.load none) 68, .u 70 .not 69, .m 71 70, .mg 72 7 71 true, .mg 73 7 71 true, .mg 74 13 71 true, .bw 75 (.ixa 75 10) 73 74 71 true, .bu 76 (.load (some 10)) 75 71 true, .bw 77 (.call 115) 72 76 71 true, .mg 78 7 71 true, .mg 79 7 71 true, .mg 80 13 71 true, ⟨some 81, (.ixa 75 10), [.tmp 79, .tmp 80], some (71, true), [77], none⟩, ⟨some 82, (.load (some 10)), [.tmp 81], some (71, true), [77], none⟩, .bw 83 (.call 115) 78 82 71 true, .bu 84 .len 83 71 true, .mg 85 7 71 true, .mg 86 11 71 true, ⟨some 87, (.ixa 75 10), [.tmp 85, .tmp 86], some (71, true), [77, 83], none⟩, ⟨some 88, (.fad 0), [.tmp 87], some (71, true), [77, 83], none⟩, ⟨some 89, (.load none), [.tmp 88], some (71, true), [77, 83], none⟩, .b 90 (.call 117) [.tmp 77, .tmp 84, .tmp 89] 71 true, .bc 91 (.bin .geq) 90 0 71 true, .pa 92 71 91] true keep62)
 (.cond (.tmp 92) (.reg [.a 12 .mov [.const (.bool true)]] false keep62) (.skip))))
 (.reg [.m 63 13, .c 64 (.bin .add) 63 1, .m 13 64] false keep62))))))
 (.seq (.reg [.m 93 12] false keep62)
 (.cond (.tmp 93) (.reg [.m 94 8, .m 95 7, .m 96 11, .w 97 (.ixa 75 10) 95 96, .u 98 (.load (some 10)) 97, .u 99 (.bsl 75 10) 98, .w 100 (.app 75 10 80) 94 99, .m 8 100] false keep62) (.skip))))))
 (.reg [.m 57 11, .c 58 (.bin .add) 57 1, .m 11 58] false keep62))))))
 (.seq (.reg [.m 101 8, .m 4 101] false keep62)
 (.ret)))))))
theorem fn62 : compFn Try.prog 62 keep62 = some ⟨102, 2, [(4, none)], body62⟩ := by kernel_rfl
abbrev keep63 : List Nat := [0, 2, 3, 4, 5, 7, 15, 20, 21, 22, 23]
def body63 : AC :=
 .seq (.reg [.a 2 (.nilS 5) [], .a 3 .mov [ci 0]] false keep63)
 (.seq (.reg [.a 4 .mov [.func 124]] false keep63)
 (.seq (.seq (.reg [.m 8 0, .u 9 (.call 53) 8, .u 10 .not 9, .m 11 10, .mg 12 0 11 false, .mg 13 4 11 false, .bw 14 (.call 125) 12 13 11 false, .po 15 11 14] false keep63)
 (.cond (.tmp 15) (.seq (.reg [.a 2 (.nilS 5) [], .a 3 .mov [ci 2]] false keep63)
 (.ret)) (.skip)))
 (.seq (.reg [.m 16 0, .u 17 .len 16, .u 18 (.cvi .u64) 17, .u 19 (.call 103) 18, .m 5 19] false keep63)
 (.seq (.seq (.reg [.m 20 0, .u 21 .len 20, .a 22 .mov [ci 0]] false keep63)
 (.block 0 (.loop (.seq (.reg [.w 23 (.bin .lss) 22 21] false keep63)
 (.seq (.cond (.tmp 23) (.skip) (.exit 0))
 (.seq (.block 1 (.seq (.reg [.w 24 (.ixa 70 10) 20 22, .u 25 (.load (some 10)) 24, .a 7 (.alloc [(.int .u64 0), (.int .u64 0), (.int .u64 0), (.int .u64 0), (.int .u64 0), (.int .u64 0), (.int .u64 0), (.string ⟨#[]⟩), (.bool false), (.bool false)]) [], .s (.store (some 10)) [.tmp 7, .tmp 25]] false keep63)
 (.reg [.m 26 5, .u 27 (.fad 0) 7, .u 28 (.load none) 27, .u 29 (.call 103) 28, ⟨some 30, (.app 5 1 1), [.tmp 26, .tmp 29], none, [1029, 1030, 1029, 1030], none⟩, ⟨some 31, (.fad 7), [.tmp 7], none, [29, 30], none⟩, ⟨some 32, (.load none), [.tmp 31], none, [29, 30], none⟩, ⟨some 33, (.call 104), [.tmp 32], none, [], (some 999999)⟩, .w 34 (.app 5 1 1) 30 33, .m 5 34] true keep63)))
 (.reg [.c 35 (.bin .add) 22 1, .m 22 35] false keep63)))))))
 (.seq (.reg [.m 36 5, .m 2 36, .a 3 .mov [ci 0]] false keep63)
 (.ret))))))
theorem fn63 : compFn Try.prog 63 keep63 = some ⟨37, 1, [(2, none), (3, none)], body63⟩ := by kernel_rfl
abbrev keep64 : List Nat := [0, 2, 3, 4, 5, 6, 9, 17, 62]
def body64 : AC :=
 .seq (.reg [.a 2 (.nilS 5) [], .a 3 .mov [ci 0]] false keep64)
 (.seq (.seq (.reg [.m 7 0, .u 8 (.call 54) 7, .u 9 .not 8] false keep64)
 (.cond (.tmp 9) (.seq (.reg [.a 2 (.nilS 5) [], .a 3 .mov [ci 2]] false keep64)
 (.ret)) (.skip)))
 (.seq (.reg [.m 10 0, .u 11 .len 10, .u 12 (.cvi .u64) 11, .u 13 (.call 105) 12, .m 4 13] false keep64)
 (.seq (.seq (.reg [.a 5 .mov [ci 0]] false keep64)
 (.block 0 (.loop (.seq (.seq (.reg [.m 14 5, .m 15 0, .u 16 .len 15, .w 17 (.bin .lss) 14 16] false keep64)
 (.cond (.tmp 17) (.skip) (.exit 0)))
 (.seq (.block 1 (.seq (.reg [.m 20 0, .m 21 5, .w 22 (.ixa 75 10) 20 21, .u 23 (.load (some 10)) 22, .a 6 (.alloc [(.int .u64 0), (.int .u64 0), (.int .u64 0), (.int .u64 0), (.int .u64 0), (.int .u64 0), (.int .u64 0), (.string ⟨#[]⟩), (.bool false), (.bool false)]) [], .s (.store (some 10)) [.tmp 6, .tmp 23]] false keep64)
 (.seq (.seq (.reg (
  .u 24 (.fad 8) 6 :: .u 25 (.load none) 24 :: .u 26 .not 25 :: .m 27 26 :: .bu 28 (.fad 9) 6 27 false :: .bu 29 (.load none) 28 27 false :: .po 30 27 29 :: .m 31 30 :: .bu 32 (.fad 1) 6 31 false :: .bu 33 (.load none) 32 31 false :: .b 34 (.bin .neq) [.tmp 33, .const (.int .u64 0)] 31 false :: .po 35 31 34 :: .m 36 35 :: .bu 37 (.fad 2) 6 36 false :: .bu 38 (.load none) 37 36 false :: .b 39 (.bin .neq) [.tmp 38, .const (.int .u64 0)] 36 false :: .po 40 36 39 :: .m 41 40 :: .bu 42 (.fad 3) 6 41 false :: .bu 43 (.load none) 42 41 false :: .b 44 (.bin .neq) [.tmp 43, .const (.int .u64 0)] 41 false :: .po 45 41 44 :: .m 46 45 :: .bu 47 (.fad 4) 6 46 false :: .bu 48 (.load none) 47 46 false :: .b 49 (.bin .neq) [.tmp 48, .const (.int .u64 0)] 46 false :: .po 50 46 49 :: .m 51 50 :: .bu 52 (.fad 5) 6 51 false :: .bu 53 (.fad 0) 52 51 false :: .bu 54 (.load none) 53 51 false :: .b 55 (.bin .neq) [.tmp 54, .const (.int .u64 0)] 51 false :: .po 56 51 55 :: .m 57 56 :: .bu 58 (.fad 5) 6 57 false :: .bu 59 (.fad 1) 58 57 false :: .bu 60 (.load none) 59 57 false :: .b 61 (.bin .neq) [.tmp 60, .const (.int .u64 0)] 57 false :: .po 62 57 61 :: []) false keep64)
 (.cond (.tmp 62) (.seq (.reg [.a 2 (.nilS 5) [], .a 3 .mov [ci 2]] false keep64)
 (.ret)) (.skip)))
 (.seq (.reg [.m 63 4, .u 64 (.fad 0) 6, .u 65 (.load none) 64, .u 66 (.call 105) 65, .w 67 (.app 5 1 1) 63 66, .m 4 67] false keep64)
 (.reg [.m 68 4, .u 69 (.fad 7) 6, .u 70 (.load none) 69, .u 71 (.call 106) 70, .w 72 (.app 5 1 1) 68 71, .m 4 72] false keep64)))))
 (.reg [.m 18 5, .c 19 (.bin .add) 18 1, .m 5 19] false keep64))))))
 (.seq (.reg [.m 73 4, .m 2 73, .a 3 .mov [ci 0]] false keep64)
 (.ret)))))
theorem fn64 : compFn Try.prog 64 keep64 = some ⟨74, 1, [(2, none), (3, none)], body64⟩ := by kernel_rfl
abbrev keep65 : List Nat := [0, 2, 3, 4, 5, 6, 7, 8, 9, 22, 34, 48, 52]
def body65 : AC :=
 .seq (.reg [.a 2 (.nilS 70) [], .a 3 .mov [ci 0]] false keep65)
 (.seq (.reg [.m 11 0, .c 12 (.call 107) 11 0, .m 10 12, .u 13 (.ext 0) 10, .u 14 (.ext 1) 10, .u 15 (.ext 2) 10, .m 4 13, .m 5 14, .m 6 15] false keep65)
 (.seq (.reg [.a 7 (.nilS 70) []] false keep65)
 (.seq (.seq (.reg [.a 8 .mov [.const (.int .u64 0)]] false keep65)
 (.block 0 (.loop (.seq (.seq (.reg [.m 16 8, .m 17 4, .w 18 (.bin .lss) 16 17, .m 19 18, .mg 20 6 19 true, .bc 21 (.bin .eql) 20 0 19 true, .pa 22 19 21] false keep65)
 (.cond (.tmp 22) (.skip) (.exit 0)))
 (.seq (.block 1 (.seq (.reg [.a 9 (.alloc [(.int .u64 0), (.int .u64 0), (.int .u64 0), (.int .u64 0), (.int .u64 0), (.int .u64 0), (.int .u64 0), (.string ⟨#[]⟩), (.bool false), (.bool false)]) []] false keep65)
 (.seq (.seq (.reg [.m 26 0, .m 27 5, .w 28 (.call 107) 26 27, .m 25 28, .u 29 (.ext 0) 25, .u 30 (.ext 1) 25, .u 31 (.ext 2) 25, .u 32 (.fad 0) 9, .s (.store none) [.tmp 32, .tmp 29], .m 5 30, .m 6 31] false keep65)
 (.seq (.reg [.m 33 6, .c 34 (.bin .neq) 33 0] false keep65)
 (.cond (.tmp 34) (.exit 0) (.skip))))
 (.seq (.reg [.u 35 (.fad 8) 9, .s (.store none) [.tmp 35, .const (.bool true)]] false keep65)
 (.seq (.reg [.m 37 0, .m 38 5, .w 39 (.call 108) 37 38, .m 36 39, .u 40 (.ext 0) 36, .u 41 (.ext 1) 36, .u 42 (.ext 2) 36, .u 43 (.fad 7) 9, .s (.store none) [.tmp 43, .tmp 40], .m 5 41, .m 6 42] false keep65)
 (.reg [.m 44 7, .u 45 (.load (some 10)) 9, .u 46 (.bsl 70 10) 45, .w 47 (.app 70 10 80) 44 46, .m 7 47] false keep65))))))
 (.reg [.m 23 8, .a 24 (.bin .add) [.tmp 23, .const (.int .u64 1)], .m 8 24] false keep65))))))
 (.seq (.block 2 (.seq (.reg [.m 49 6, .c 50 (.bin .neq) 49 0, .m 48 50] false keep65)
 (.cond (.tmp 48) (.seq (.reg [.m 51 6, .a 2 (.nilS 70) [], .m 3 51] false keep65)
 (.ret)) (.seq (.reg [.m 53 5, .m 54 0, .u 55 .len 54, .w 56 (.bin .neq) 53 55, .m 57 56, .mg 58 7 57 false, .bu 59 (.call 53) 58 57 false, .bu 60 .not 59 57 false, .po 61 57 60, .m 52 61] false keep65)
 (.cond (.tmp 52) (.seq (.reg [.a 2 (.nilS 70) [], .a 3 .mov [ci 2]] false keep65)
 (.ret)) (.skip))))))
 (.seq (.reg [.m 62 7, .m 2 62, .a 3 .mov [ci 0]] false keep65)
 (.ret))))))
theorem fn65 : compFn Try.prog 65 keep65 = some ⟨63, 1, [(2, none), (3, none)], body65⟩ := by kernel_rfl
abbrev keep66 : List Nat := [0, 2, 3, 4, 5, 6, 7, 8, 9, 10, 11, 12, 13, 21, 27, 36, 46, 63]
def body66 : AC :=
 .seq (.reg [.a 2 (.nilS 75) [], .a 3 .mov [ci 0]] false keep66)
 (.seq (.reg [.m 15 0, .c 16 (.call 109) 15 0, .m 14 16, .u 17 (.ext 0) 14, .u 18 (.ext 1) 14, .u 19 (.ext 2) 14, .m 4 17, .m 5 18, .m 6 19] false keep66)
 (.seq (.seq (.reg [.m 20 6, .c 21 (.bin .neq) 20 0] false keep66)
 (.cond (.tmp 21) (.seq (.reg [.m 22 6, .a 2 (.nilS 75) [], .m 3 22] false keep66)
 (.ret)) (.skip)))
 (.seq (.reg [.a 7 (.nilS 75) []] false keep66)
 (.seq (.block 0 (.loop (.seq (.seq (.reg [.m 23 7, .u 24 .len 23, .u 25 (.cvi .u64) 24, .m 26 4, .w 27 (.bin .lss) 25 26] false keep66)
 (.cond (.tmp 27) (.skip) (.exit 0)))
 (.block 1 (.seq (.reg [.m 29 0, .m 30 5, .w 31 (.call 109) 29 30, .m 28 31, .u 32 (.ext 0) 28, .u 33 (.ext 1) 28, .u 34 (.ext 2) 28, .m 8 32, .m 9 33, .m 10 34] false keep66)
 (.seq (.seq (.reg [.m 35 10, .c 36 (.bin .neq) 35 0] false keep66)
 (.cond (.tmp 36) (.seq (.reg [.m 37 10, .a 2 (.nilS 75) [], .m 3 37] false keep66)
 (.ret)) (.skip)))
 (.seq (.reg [.m 39 0, .m 40 9, .w 41 (.call 110) 39 40, .m 38 41, .u 42 (.ext 0) 38, .u 43 (.ext 1) 38, .u 44 (.ext 2) 38, .m 11 42, .m 12 43, .m 13 44] false keep66)
 (.seq (.seq (.reg [.m 45 13, .c 46 (.bin .neq) 45 0] false keep66)
 (.cond (.tmp 46) (.seq (.reg [.m 47 13, .a 2 (.nilS 75) [], .m 3 47] false keep66)
 (.ret)) (.skip)))
 (.seq (.reg [.m 48 7, .m 49 8, .m 50 11, .a 51 (.bld [(.int .u64 0), (.int .u64 0), (.int .u64 0), (.int .u64 0), (.int .u64 0), (.int .u64 0), (.int .u64 0), (.string ⟨#[]⟩), (.bool false), (.bool false)] [(0, 1), (7, 1), (8, 1)]) [.tmp 49, .tmp 50, .const (.bool true)], .u 52 (.bsl 75 10) 51, .w 53 (.app 75 10 80) 48 52, .m 7 53] false keep66)
 (.reg [.m 54 12, .m 5 54] false keep66))))))))))
 (.seq (.seq (.reg [.m 55 5, .m 56 0, .u 57 .len 56, .w 58 (.bin .neq) 55 57, .m 59 58, .mg 60 7 59 false, .bu 61 (.call 54) 60 59 false, .bu 62 .not 61 59 false, .po 63 59 62] false keep66)
 (.cond (.tmp 63) (.seq (.reg [.a 2 (.nilS 75) [], .a 3 .mov [ci 2]] false keep66)
 (.ret)) (.skip)))
 (.seq (.reg [.m 64 7, .m 2 64, .a 3 .mov [ci 0]] false keep66)
 (.ret)))))))
theorem fn66 : compFn Try.prog 66 keep66 = some ⟨65, 1, [(2, none), (3, none)], body66⟩ := by kernel_rfl
def body69 : AC :=
 .seq (.reg [.a 0 (.nilS 70) []] false [0, 1, 3])
 (.seq (.reg [.a 6 (.bld [(.int .u8 0), (.int .i64 0), (.string ⟨#[]⟩)] [(0, 1), (1, 1)]) [.const (.int .u8 1), ci 2], .a 7 (.bld [(.int .u8 0), (.int .i64 0), (.string ⟨#[]⟩)] [(0, 1), (1, 1)]) [.const (.int .u8 3), ci 1], .w 8 (.bsl 183 3) 6 7, .u 9 (.call 126) 8, .m 5 9, .u 10 (.ext 0) 5, .u 11 (.ext 1) 5, .m 1 10, .m 2 11] false [0, 1, 3])
 (.seq (.reg [.a 13 (.bld [(.int .u8 0), (.int .i64 0), (.string ⟨#[]⟩)] [(0, 1), (1, 1)]) [.const (.int .u8 1), ci 2], .a 14 (.bld [(.int .u8 0), (.int .i64 0), (.string ⟨#[]⟩)] [(0, 1), (2, 1)]) [.const (.int .u8 2), .const (.string ⟨#[122]⟩)], .w 15 (.bsl 183 3) 13 14, .u 16 (.call 126) 15, .m 12 16, .u 17 (.ext 0) 12, .u 18 (.ext 1) 12, .m 3 17, .m 4 18] false [0, 1, 3])
 (.seq (.reg [.a 19 (.bsl 5 1) [.const (.int .u8 97), .const (.int .u8 98), .const (.int .u8 99)], .u 20 (.ex .mark) 19, .u 21 (.call 70) 20, .a 22 (.bld [(.int .u64 0), (.int .u64 0), (.int .u64 0), (.int .u64 0), (.int .u64 0), (.int .u64 0), (.int .u64 0), (.string ⟨#[]⟩), (.bool false), (.bool false)] [(0, 1), (5, 2)]) [.const (.int .u64 3), .tmp 21], .m 23 1, .u 24 (.call 70) 23, .a 25 (.bld [(.int .u64 0), (.int .u64 0), (.int .u64 0), (.int .u64 0), (.int .u64 0), (.int .u64 0), (.int .u64 0), (.string ⟨#[]⟩), (.bool false), (.bool false)] [(0, 1), (1, 1), (5, 2)]) [.const (.int .u64 5), .const (.int .u64 3), .tmp 24], .m 26 3, .u 27 (.call 70) 26, .a 28 (.bld [(.int .u64 0), (.int .u64 0), (.int .u64 0), (.int .u64 0), (.int .u64 0), (.int .u64 0), (.int .u64 0), (.string ⟨#[]⟩), (.bool false), (.bool false)] [(0, 1), (1, 1), (5, 2)]) [.const (.int .u64 8), .const (.int .u64 5), .tmp 27], .a 29 (.call 70) [.const (.slice none 0 0)], .a 30 (.bld [(.int .u64 0), (.int .u64 0), (.int .u64 0), (.int .u64 0), (.int .u64 0), (.int .u64 0), (.int .u64 0), (.string ⟨#[]⟩), (.bool false), (.bool false)] [(0, 1), (5, 2)]) [.const (.int .u64 9), .tmp 29], .a 31 (.bsl 70 10) [.tmp 22, .tmp 25, .tmp 28, .tmp 30], .m 0 31] false [0, 1, 3])
 (.ret))))
def keep69 : List Nat := [0, 1, 3]
theorem fn69 : compFn Try.prog 69 keep69 = some ⟨32, 0, [(0, none)], body69⟩ := by kernel_rfl
abbrev keep112 : List Nat := [0, 1, 3, 4]
def body112 : AC :=
 .seq (.reg [.u 3 .box 1, .a 4 .mov [ci 0]] false keep112)
 (.seq (.reg [.m 5 0, .u 6 (.mkf 158) 3, .w 7 (.call 157) 5 6, .m 4 7] false keep112)
 (.ret))
theorem fn112 : compFn Try.prog 112 keep112 = some ⟨8, 2, [(4, none)], body112⟩ := by kernel_rfl
abbrev keep113 : List Nat := [0, 1, 2, 4]
def body113 : AC :=
 .seq (.reg [.u 1 .box 0, .a 2 .mov [.const (.int .u64 0)]] false keep113)
 (.seq (.seq (.reg [.u 3 (.fad 8) 1, .u 4 (.load none) 3] false keep113)
 (.cond (.tmp 4) (.seq (.reg [.a 2 .mov [.const (.int .u64 0)]] false keep113)
 (.ret)) (.skip)))
 (.seq (.reg [.u 5 (.fad 1) 1, .u 6 (.load none) 5, .m 2 6] false keep113)
 (.ret)))
theorem fn113 : compFn Try.prog 113 keep113 = some ⟨7, 1, [(2, none)], body113⟩ := by kernel_rfl
abbrev keep114 : List Nat := [0, 2, 3, 9]
def body114 : AC :=
 .seq (.reg [.m 4 0, .u 5 .len 4, .c 6 (.bin .sub) 5 1, .a 2 .mov [ci 0], .m 3 6] false keep114)
 (.block 0 (.loop (.seq (.seq (.reg [.m 7 2, .m 8 3, .w 9 (.bin .lss) 7 8] false keep114)
 (.cond (.tmp 9) (.skip) (.exit 0)))
 (.seq (.block 1 (.reg [.m 14 0, .m 15 2, .m 16 0, .m 17 3, .m 18 0, .m 19 3, .w 20 (.ixa 70 10) 18 19, .u 21 (.load (some 10)) 20, .m 22 0, .m 23 2, .w 24 (.ixa 70 10) 22 23, .u 25 (.load (some 10)) 24, .w 26 (.ixa 70 10) 14 15, .s (.store (some 10)) [.tmp 26, .tmp 21], .w 27 (.ixa 70 10) 16 17, .s (.store (some 10)) [.tmp 27, .tmp 25]] true keep114))
 (.reg [.m 10 2, .c 11 (.bin .add) 10 1, .m 12 3, .c 13 (.bin .sub) 12 1, .m 2 11, .m 3 13] false keep114)))))
theorem fn114 : compFn Try.prog 114 keep114 = some ⟨28, 1, [], body114⟩ := by kernel_rfl
abbrev keep115 : List Nat := [0, 1, 3, 4, 5, 8]
def body115 : AC :=
 .seq (.reg [.u 3 .box 1, .a 4 (.nilS 75) []] false keep115)
 (.seq (.reg [.a 5 (.nilS 75) []] false keep115)
 (.seq (.seq (.reg [.u 6 (.load (some 10)) 3, .u 7 (.call 116) 6, .a 8 (.bin .gtr) [.tmp 7, .const (.int .u64 0)]] false keep115)
 (.cond (.tmp 8) (.reg [.m 9 0, .m 10 0, .m 11 0, .m 12 0, .u 13 .len 12, .u 14 (.load (some 10)) 3, .u 15 (.call 116) 14, .a 16 (.call 117) [.tmp 11, .tmp 13, .tmp 15], .w 17 (.ixa 75 10) 10 16, .u 18 (.load (some 10)) 17, .w 19 (.call 115) 9 18, .m 5 19] false keep115) (.skip)))
 (.seq (.reg [.m 20 5, .u 21 (.load (some 10)) 3, .u 22 (.bsl 75 10) 21, .w 23 (.app 75 10 80) 20 22, .m 4 23] false keep115)
 (.ret))))
theorem fn115 : compFn Try.prog 115 keep115 = some ⟨24, 2, [(4, none)], body115⟩ := by kernel_rfl
abbrev keep116 : List Nat := [0, 1, 2, 4]
def body116 : AC :=
 .seq (.reg [.u 1 .box 0, .a 2 .mov [.const (.int .u64 0)]] false keep116)
 (.seq (.seq (.reg [.u 3 (.fad 8) 1, .u 4 (.load none) 3] false keep116)
 (.cond (.tmp 4) (.seq (.reg [.a 2 .mov [.const (.int .u64 0)]] false keep116)
 (.ret)) (.skip)))
 (.seq (.reg [.u 5 (.fad 1) 1, .u 6 (.load none) 5, .m 2 6] false keep116)
 (.ret)))
theorem fn116 : compFn Try.prog 116 keep116 = some ⟨7, 1, [(2, none)], body116⟩ := by kernel_rfl
abbrev keep117 : List Nat := [0, 1, 2, 6, 7, 10, 19]
def body117 : AC :=
 .seq (.reg [.a 6 .mov [ci 0]] false keep117)
 (.seq (.seq (.reg [.a 7 .mov [ci 0]] false keep117)
 (.block 0 (.loop (.seq (.seq (.reg [.m 8 7, .m 9 1, .w 10 (.bin .lss) 8 9] false keep117)
 (.cond (.tmp 10) (.skip) (.exit 0)))
 (.seq (.block 1 (.seq (.reg [.m 13 0, .m 14 7, .w 15 (.ixa 75 10) 13 14, .u 16 (.fad 0) 15, .u 17 (.load none) 16, .m 18 2, .w 19 (.bin .eql) 17 18] false keep117)
 (.cond (.tmp 19) (.seq (.reg [.m 20 7, .m 6 20] false keep117)
 (.ret)) (.skip))))
 (.reg [.m 11 7, .c 12 (.bin .add) 11 1, .m 7 12] false keep117))))))
 (.seq (.reg [.a 6 .mov [.const (.int .i64 (-1))]] false keep117)
 (.ret)))
theorem fn117 : compFn Try.prog 117 keep117 = some ⟨21, 3, [(6, none)], body117⟩ := by kernel_rfl
def body118 : AC :=
 .seq (.reg [.a 2 (.nilS 70) []] false [0, 2, 4])
 (.seq (.seq (.reg [.m 3 0, .u 4 (.ex (.isnil false)) 3] false [0, 2, 4])
 (.cond (.tmp 4) (.seq (.reg [.a 2 (.nilS 70) []] false [0, 2, 4])
 (.ret)) (.skip)))
 (.seq (.reg [.a 5 (.bsl 70 10) [], .m 6 0, .w 7 (.app 70 10 80) 5 6, .m 2 7] false [0, 2, 4])
 (.ret)))
def keep118 : List Nat := [0, 2, 4]
theorem fn118 : compFn Try.prog 118 keep118 = some ⟨8, 1, [(2, none)], body118⟩ := by kernel_rfl
def body119 : AC :=
 .seq (.reg [.a 4 .mov [.const (.bool false)]] false [0, 1, 4])
 (.seq (.reg [.m 5 0, .m 6 1, .w 7 (.call 159) 5 6, .c 8 (.bin .geq) 7 0, .m 4 8] false [0, 1, 4])
 (.ret))
def keep119 : List Nat := [0, 1, 4]
theorem fn119 : compFn Try.prog 119 keep119 = some ⟨9, 2, [(4, none)], body119⟩ := by kernel_rfl
abbrev keep120 : List Nat := [0, 1, 4, 5, 6, 7, 12, 19, 29]
def body120 : AC :=
 .seq (.reg [.a 4 (.nilS 70) []] false keep120)
 (.seq (.reg [.m 8 0, .m 9 1, .w 10 (.call 157) 8 9, .m 5 10] false keep120)
 (.seq (.seq (.reg [.m 11 5, .a 12 (.bin .eql) [.tmp 11, .const (.int .i64 (-1))]] false keep120)
 (.cond (.tmp 12) (.seq (.reg [.m 13 0, .m 4 13] false keep120)
 (.ret)) (.skip)))
 (.seq (.seq (.reg [.m 14 5, .c 15 (.bin .add) 14 1, .m 6 15] false keep120)
 (.block 0 (.loop (.seq (.seq (.reg [.m 16 6, .m 17 0, .u 18 .len 17, .w 19 (.bin .lss) 16 18] false keep120)
 (.cond (.tmp 19) (.skip) (.exit 0)))
 (.seq (.block 1 (.seq (.reg [.m 22 0, .m 23 6, .w 24 (.ixa 70 10) 22 23, .u 25 (.load (some 10)) 24, .a 7 (.alloc [(.int .u64 0), (.int .u64 0), (.int .u64 0), (.int .u64 0), (.int .u64 0), (.int .u64 0), (.int .u64 0), (.string ⟨#[]⟩), (.bool false), (.bool false)]) [], .s (.store (some 10)) [.tmp 7, .tmp 25]] false keep120)
 (.seq (.reg [.m 26 1, .u 27 (.load (some 10)) 7, .w 28 .calv 26 27, .u 29 .not 28] false keep120)
 (.cond (.tmp 29) (.seq (.reg [.m 30 0, .m 31 5, .u 32 (.load (some 10)) 7, .w 33 (.ixa 70 10) 30 31, .s (.store (some 10)) [.tmp 33, .tmp 32]] false keep120)
 (.reg [.m 34 5, .c 35 (.bin .add) 34 1, .m 5 35] false keep120)) (.skip)))))
 (.reg [.m 20 6, .c 21 (.bin .add) 20 1, .m 6 21] false keep120))))))
 (.seq (.reg [.m 36 0, .m 37 5, .w 38 (.slc 10 true false) 36 37, .s (.clr 70 10 [(.int .u64 0), (.int .u64 0), (.int .u64 0), (.int .u64 0), (.int .u64 0), (.int .u64 0), (.int .u64 0), (.string ⟨#[]⟩), (.bool false), (.bool false)]) [.tmp 38]] false keep120)
 (.seq (.reg [.m 39 0, .m 40 5, .w 41 (.slc 10 false true) 39 40, .m 4 41] false keep120)
 (.ret))))))
theorem fn120 : compFn Try.prog 120 keep120 = some ⟨42, 2, [(4, none)], body120⟩ := by kernel_rfl
abbrev keep121 : List Nat := [0, 1, 2, 3, 5]
def body121 : AC :=
 .seq (.reg [.u 2 .box 0, .a 3 .mov [.const (.bool false)]] false keep121)
 (.seq (.reg [.u 7 (.load none) 1, .u 8 (.fad 0) 2, .u 9 (.load none) 8, .a 10 (.ex (.mget 9 (.agg #[]) true)) [.tmp 7, .tmp 9], .m 6 10, .u 11 (.ext 0) 6, .u 12 (.ext 1) 6, .a 4 (.alloc []) [], .s (.store (some 0)) [.tmp 4, .tmp 11], .m 5 12] false keep121)
 (.seq (.reg [.m 13 5, .u 14 .not 13, .m 3 14] false keep121)
 (.ret)))
theorem fn121 : compFn Try.prog 121 keep121 = some ⟨15, 2, [(3, none)], body121⟩ := by kernel_rfl
def body122 : AC :=
 .seq (.reg [.a 4 (.alloc [(.int .u64 0), (.int .u64 0), (.int .u64 0), (.int .u64 0), (.int .u64 0), (.int .u64 0), (.int .u64 0), (.string ⟨#[]⟩), (.bool false), (.bool false)]) []] false [0, 1, 4])
 (.seq (.reg [.m 5 0, .m 6 1, .a 7 (.bld [(.int .u64 0), (.int .u64 0), (.int .u64 0), (.int .u64 0), (.int .u64 0), (.int .u64 0), (.int .u64 0), (.string ⟨#[]⟩), (.bool false), (.bool false)] [(0, 1), (7, 1), (8, 1)]) [.tmp 5, .tmp 6, .const (.bool true)], .s (.store (some 10)) [.tmp 4, .tmp 7]] false [0, 1, 4])
 (.ret))
def keep122 : List Nat := [0, 1, 4]
theorem fn122 : compFn Try.prog 122 keep122 = some ⟨8, 2, [(4, some (some 10))], body122⟩ := by kernel_rfl
abbrev keep123 : List Nat := [0, 1, 4, 5, 9, 17]
def body123 : AC :=
 .seq (.reg [.a 4 .mov [.const (.bool false)]] false keep123)
 (.seq (.seq (.reg [.a 5 .mov [ci 0]] false keep123)
 (.block 0 (.loop (.seq (.seq (.reg [.m 6 5, .m 7 0, .u 8 .len 7, .w 9 (.bin .lss) 6 8] false keep123)
 (.cond (.tmp 9) (.skip) (.exit 0)))
 (.seq (.block 1 (.seq (.reg [.m 12 0, .m 13 5, .w 14 (.ixa 24 1) 12 13, .u 15 (.load none) 14, .m 16 1, .w 17 (.bin .eql) 15 16] false keep123)
 (.cond (.tmp 17) (.seq (.reg [.a 4 .mov [.const (.bool true)]] false keep123)
 (.ret)) (.skip))))
 (.reg [.m 10 5, .c 11 (.bin .add) 10 1, .m 5 11] false keep123))))))
 (.seq (.reg [.a 4 .mov [.const (.bool false)]] false keep123)
 (.ret)))
theorem fn123 : compFn Try.prog 123 keep123 = some ⟨18, 2, [(4, none)], body123⟩ := by kernel_rfl
def body124 : AC :=
 .seq (.reg [.u 1 .box 0, .a 2 .mov [.const (.bool false)]] false [0, 1, 2])
 (.seq (.reg [⟨some 3, (.load (some 10)), [.tmp 1], none, [8], none⟩, .u 4 (.fad 0) 1, .u 5 (.load none) 4, .u 6 (.fad 7) 1, .u 7 (.load none) 6, .w 8 (.call 122) 5 7, .a 9 (.eqs true [9, 9, 9, 9, 9, 9, 9, 1, 0, 0]) [.tmp 3, .tmp 8], .m 2 9] true [0, 1, 2])
 (.ret))
def keep124 : List Nat := [0, 1, 2]
theorem fn124 : compFn Try.prog 124 keep124 = some ⟨10, 1, [(2, none)], body124⟩ := by kernel_rfl
def body125 : AC :=
 .seq (.reg [.a 4 .mov [.const (.bool false)]] false [0, 1, 4])
 (.seq (.reg [.m 5 0, .m 6 1, .w 7 (.call 157) 5 6, .c 8 (.bin .geq) 7 0, .m 4 8] false [0, 1, 4])
 (.ret))
def keep125 : List Nat := [0, 1, 4]
theorem fn125 : compFn Try.prog 125 keep125 = some ⟨9, 2, [(4, none)], body125⟩ := by kernel_rfl
abbrev keep157 : List Nat := [0, 1, 4, 5, 7, 8, 9, 16]
def body157 : AC :=
 .seq (.reg [.a 4 .mov [ci 0]] false keep157)
 (.seq (.seq (.reg [.m 6 0, .u 7 .len 6, .a 8 .mov [ci 0]] false keep157)
 (.block 0 (.loop (.seq (.reg [.w 9 (.bin .lss) 8 7] false keep157)
 (.seq (.cond (.tmp 9) (.skip) (.exit 0))
 (.seq (.block 1 (.seq (.reg [.m 10 8, .m 5 10] false keep157)
 (.seq (.reg [.m 11 1, .m 12 0, .m 13 5, .w 14 (.ixa 70 10) 12 13, .u 15 (.load (some 10)) 14, .w 16 .calv 11 15] false keep157)
 (.cond (.tmp 16) (.seq (.reg [.m 17 5, .m 4 17] false keep157)
 (.ret)) (.skip)))))
 (.reg [.c 18 (.bin .add) 8 1, .m 8 18] false keep157)))))))
 (.seq (.reg [.a 4 .mov [.const (.int .i64 (-1))]] false keep157)
 (.ret)))
theorem fn157 : compFn Try.prog 157 keep157 = some ⟨19, 2, [(4, none)], body157⟩ := by kernel_rfl
abbrev keep158 : List Nat := [0, 1, 2, 3]
def body158 : AC :=
 .seq (.reg [.u 2 .box 0, .a 3 .mov [.const (.bool false)]] false keep158)
 (.seq (.reg [.u 4 (.fad 0) 2, .u 5 (.load none) 4, .u 6 (.load none) 1, .w 7 (.bin .eql) 5 6, .m 3 7] false keep158)
 (.ret))
theorem fn158 : compFn Try.prog 158 keep158 = some ⟨8, 2, [(3, none)], body158⟩ := by kernel_rfl
abbrev keep159 : List Nat := [0, 1, 4, 5, 7, 8, 9, 16]
def body159 : AC :=
 .seq (.reg [.a 4 .mov [ci 0]] false keep159)
 (.seq (.seq (.reg [.m 6 0, .u 7 .len 6, .a 8 .mov [ci 0]] false keep159)
 (.block 0 (.loop (.seq (.reg [.w 9 (.bin .lss) 8 7] false keep159)
 (.seq (.cond (.tmp 9) (.skip) (.exit 0))
 (.seq (.block 1 (.seq (.reg [.m 10 8, .m 5 10] false keep159)
 (.seq (.reg [.m 11 1, .m 12 0, .m 13 5, .w 14 (.ixa 24 1) 12 13, .u 15 (.load none) 14, .w 16 (.bin .eql) 11 15] false keep159)
 (.cond (.tmp 16) (.seq (.reg [.m 17 5, .m 4 17] false keep159)
 (.ret)) (.skip)))))
 (.reg [.c 18 (.bin .add) 8 1, .m 8 18] false keep159)))))))
 (.seq (.reg [.a 4 .mov [.const (.int .i64 (-1))]] false keep159)
 (.ret)))
theorem fn159 : compFn Try.prog 159 keep159 = some ⟨19, 2, [(4, none)], body159⟩ := by kernel_rfl
abbrev keep126 : List Nat := [0, 2, 3, 4, 6, 9, 10, 11, 12, 13, 23]
def body126 : AC :=
 .seq (.reg [.a 2 (.nilS 5) [], .a 3 .mov [ci 0]] false keep126)
 (.seq (.seq (.reg [.m 7 0, .u 8 (.call 160) 7, .u 9 .not 8] false keep126)
 (.cond (.tmp 9) (.seq (.reg [.a 2 (.nilS 5) [], .a 3 .mov [ci 2]] false keep126)
 (.ret)) (.skip)))
 (.seq (.reg [.a 4 (.nilS 5) []] false keep126)
 (.seq (.seq (.reg [.m 10 0, .u 11 .len 10, .a 12 .mov [ci 0]] false keep126)
 (.block 0 (.loop (.seq (.reg [.w 13 (.bin .lss) 12 11] false keep126)
 (.seq (.cond (.tmp 13) (.skip) (.exit 0))
 (.seq (.block 1 (.seq (.reg [.w 14 (.ixa 183 3) 10 12, .u 15 (.load (some 3)) 14, .a 6 (.alloc [(.int .u8 0), (.int .i64 0), (.string ⟨#[]⟩)]) [], .s (.store (some 3)) [.tmp 6, .tmp 15]] false keep126)
 (.seq (.reg [.m 16 4, .u 17 (.fad 0) 6, .u 18 (.load none) 17, .u 19 (.bsl 5 1) 18, .w 20 (.app 5 1 1) 16 19, .m 4 20] false keep126)
 (.seq (.seq (.reg [.u 21 (.fad 0) 6, .u 22 (.load none) 21, .a 23 (.bin .eql) [.tmp 22, .const (.int .u8 2)]] false keep126)
 (.cond (.tmp 23) (.seq (.reg [.m 24 4, .u 25 (.fad 2) 6, .u 26 (.load none) 25, .u 27 (.call 104) 26, .w 28 (.app 5 1 1) 24 27, .m 4 28] false keep126)
 (.exit 1)) (.skip)))
 (.reg [.m 29 4, .u 30 (.fad 1) 6, .u 31 (.load none) 30, .u 32 (.cvi .u64) 31, .u 33 (.call 103) 32, .w 34 (.app 5 1 1) 29 33, .m 4 34] false keep126)))))
 (.reg [.c 35 (.bin .add) 12 1, .m 12 35] false keep126)))))))
 (.seq (.reg [.m 36 4, .m 2 36, .a 3 .mov [ci 0]] false keep126)
 (.ret)))))
theorem fn126 : compFn Try.prog 126 keep126 = some ⟨37, 1, [(2, none), (3, none)], body126⟩ := by kernel_rfl
abbrev keep155 : List Nat := [0, 2, 3, 4, 5, 6, 7, 8, 12, 21]
def body155 : AC :=
 .seq (.reg [.a 2 (.nilS 183) [], .a 3 .mov [ci 0]] false keep155)
 (.seq (.reg [.a 4 (.nilS 183) []] false keep155)
 (.seq (.seq (.reg [.a 5 .mov [ci 0]] false keep155)
 (.block 0 (.loop (.seq (.seq (.reg [.m 9 5, .m 10 0, .u 11 .len 10, .w 12 (.bin .lss) 9 11] false keep155)
 (.cond (.tmp 12) (.skip) (.exit 0)))
 (.block 1 (.seq (.reg [.m 14 0, .m 15 5, .w 16 (.call 172) 14 15, .m 13 16, .u 17 (.ext 0) 13, .u 18 (.ext 1) 13, .u 19 (.ext 2) 13, .a 6 (.alloc [(.int .u8 0), (.int .i64 0), (.string ⟨#[]⟩)]) [], .s (.store (some 3)) [.tmp 6, .tmp 17], .m 7 18, .m 8 19] false keep155)
 (.seq (.seq (.reg [.m 20 8, .c 21 (.bin .neq) 20 0] false keep155)
 (.cond (.tmp 21) (.seq (.reg [.m 22 8, .a 2 (.nilS 183) [], .m 3 22] false keep155)
 (.ret)) (.skip)))
 (.reg [.m 23 4, .u 24 (.load (some 3)) 6, .u 25 (.bsl 183 3) 24, .w 26 (.app 183 3 32) 23 25, .m 27 7, .m 4 26, .m 5 27] false keep155))))))))
 (.seq (.reg [.m 28 4, .m 2 28, .a 3 .mov [ci 0]] false keep155)
 (.ret))))
theorem fn155 : compFn Try.prog 155 keep155 = some ⟨29, 1, [(2, none), (3, none)], body155⟩ := by kernel_rfl
def body160 : AC :=
 .seq (.reg [.a 2 .mov [.const (.bool false)]] false [0, 2])
 (.seq (.reg [.m 3 0, .a 4 (.call 177) [.tmp 3, .func 178], .u 5 .not 4, .m 2 5] false [0, 2])
 (.ret))
def keep160 : List Nat := [0, 2]
theorem fn160 : compFn Try.prog 160 keep160 = some ⟨6, 1, [(2, none)], body160⟩ := by kernel_rfl
abbrev keep172 : List Nat := [0, 1, 4, 5, 6, 7, 14, 15, 26, 42, 53]
def body172 : AC :=
 .seq (.reg [.a 4 (.alloc [(.int .u8 0), (.int .i64 0), (.string ⟨#[]⟩)]) [], .a 5 .mov [ci 0], .a 6 .mov [ci 0]] false keep172)
 (.seq (.reg [.m 8 0, .m 9 1, .w 10 (.ixa 5 1) 8 9, .u 11 (.load none) 10, .u 12 (.fad 0) 4, .s (.store none) [.tmp 12, .tmp 11]] false keep172)
 (.seq (.seq (.reg [.u 13 (.fad 0) 4, .u 14 (.load none) 13] false keep172)
 (.block 0 (.seq (.reg [.a 16 (.bin .eql) [.tmp 14, .const (.int .u8 2)], .m 15 16] false keep172)
 (.cond (.tmp 15) (.reg [.m 18 0, .m 19 1, .c 20 (.bin .add) 19 1, .w 21 (.call 108) 18 20, .m 17 21, .u 22 (.ext 0) 17, .u 23 (.ext 1) 17, .u 24 (.ext 2) 17, .u 25 (.fad 2) 4, .s (.store none) [.tmp 25, .tmp 22], .m 5 23, .m 6 24] false keep172) (.seq (.seq (.reg [.a 27 (.bin .eql) [.tmp 14, .const (.int .u8 1)], .m 26 27] false keep172)
 (.cond (.tmp 26) (.skip) (.reg [.a 28 (.bin .eql) [.tmp 14, .const (.int .u8 3)], .m 26 28] false keep172)))
 (.cond (.tmp 26) (.seq (.reg [.a 7 .mov [.const (.int .u64 0)]] false keep172)
 (.seq (.reg [.m 30 0, .m 31 1, .c 32 (.bin .add) 31 1, .w 33 (.call 107) 30 32, .m 29 33, .u 34 (.ext 0) 29, .u 35 (.ext 1) 29, .u 36 (.ext 2) 29, .m 7 34, .m 5 35, .m 6 36] false keep172)
 (.seq (.seq (.reg [.m 37 6, .c 38 (.bin .eql) 37 0, .m 39 38, .mg 40 7 39 true, .b 41 (.bin .gtr) [.tmp 40, .const (.int .u64 2147483647)] 39 true, .pa 42 39 41] false keep172)
 (.cond (.tmp 42) (.seq (.reg [.a 43 (.bld [(.int .u8 0), (.int .i64 0), (.string ⟨#[]⟩)] []) [], .s (.store (some 3)) [.tmp 4, .tmp 43], .a 5 .mov [ci 0], .a 6 .mov [ci 2]] false keep172)
 (.ret)) (.skip)))
 (.reg [.m 44 7, .u 45 (.cvi .i64) 44, .u 46 (.fad 1) 4, .s (.store none) [.tmp 46, .tmp 45]] false keep172)))) (.reg [.a 6 .mov [ci 60]] false keep172)))))))
 (.seq (.seq (.reg [.m 47 6, .c 48 (.bin .eql) 47 0, .m 49 48, .bu 50 (.load (some 3)) 4 49 true, .bu 51 (.call 174) 50 49 true, .bu 52 .not 51 49 true, .pa 53 49 52] false keep172)
 (.cond (.tmp 53) (.reg [.a 6 .mov [ci 2]] false keep172) (.skip)))
 (.seq (.reg [.u 54 (.load (some 3)) 4, .m 55 5, .m 56 6, .s (.store (some 3)) [.tmp 4, .tmp 54], .m 5 55, .m 6 56] false keep172)
 (.ret)))))
theorem fn172 : compFn Try.prog 172 keep172 = some ⟨57, 2, [(4, some (some 3)), (5, none), (6, none)], body172⟩ := by kernel_rfl
abbrev keep173 : List Nat := [0, 1, 2, 3, 4, 8, 15]
def body173 : AC :=
 .seq (.reg [.u 1 .box 0, .a 2 .mov [ci 0], .a 3 .mov [ci 0]] false keep173)
 (.seq (.block 0 (.seq (.reg [.u 5 (.load (some 3)) 1, .u 6 (.call 174) 5, .u 7 .not 6, .m 4 7] false keep173)
 (.cond (.tmp 4) (.seq (.reg [.a 2 .mov [ci 0], .a 3 .mov [ci 0]] false keep173)
 (.ret)) (.seq (.reg [.u 9 (.fad 0) 1, .u 10 (.load none) 9, .a 11 (.bin .eql) [.tmp 10, .const (.int .u8 2)], .m 8 11] false keep173)
 (.cond (.tmp 8) (.seq (.reg [.u 12 (.fad 2) 1, .u 13 (.load none) 12, .u 14 .slen 13, .a 2 .mov [ci 0], .m 3 14] true keep173)
 (.ret)) (.seq (.reg [.u 16 (.fad 0) 1, .u 17 (.load none) 16, .a 18 (.bin .eql) [.tmp 17, .const (.int .u8 3)], .m 15 18] false keep173)
 (.cond (.tmp 15) (.seq (.reg [.u 19 (.fad 1) 1, .u 20 (.load none) 19, .m 2 20, .a 3 .mov [ci 0]] false keep173)
 (.ret)) (.skip))))))))
 (.seq (.reg [.u 21 (.fad 1) 1, .u 22 (.load none) 21, .u 23 (.fad 1) 1, .u 24 (.load none) 23, .m 2 22, .m 3 24] true keep173)
 (.ret)))
theorem fn173 : compFn Try.prog 173 keep173 = some ⟨25, 1, [(2, none), (3, none)], body173⟩ := by kernel_rfl
abbrev keep174 : List Nat := [0, 1, 2, 4, 5, 21]
def body174 : AC :=
 .seq (.reg [.u 1 .box 0, .a 2 .mov [.const (.bool false)]] false keep174)
 (.seq (.seq (.reg [.u 3 (.fad 0) 1, .u 4 (.load none) 3] false keep174)
 (.block 0 (.seq (.seq (.reg [.a 6 (.bin .eql) [.tmp 4, .const (.int .u8 1)], .m 5 6] false keep174)
 (.cond (.tmp 5) (.skip) (.reg [.a 7 (.bin .eql) [.tmp 4, .const (.int .u8 3)], .m 5 7] false keep174)))
 (.cond (.tmp 5) (.seq (.reg [.u 8 (.fad 1) 1, .u 9 (.load none) 8, .c 10 (.bin .gtr) 9 0, .m 11 10, .bu 12 (.fad 1) 1 11 true, .bu 13 (.load none) 12 11 true, .bc 14 (.bin .leq) 13 2147483647 11 true, .pa 15 11 14, .m 16 15, .bu 17 (.fad 2) 1 16 true, .bu 18 (.load none) 17 16 true, .b 19 (.bin .eql) [.tmp 18, .const (.string ⟨#[]⟩)] 16 true, .pa 20 16 19, .m 2 20] false keep174)
 (.ret)) (.seq (.reg [.a 22 (.bin .eql) [.tmp 4, .const (.int .u8 2)], .m 21 22] false keep174)
 (.cond (.tmp 21) (.seq (.reg [.u 23 (.fad 1) 1, .u 24 (.load none) 23, .c 25 (.bin .eql) 24 0, .m 26 25, .bu 27 (.fad 2) 1 26 true, .bu 28 (.load none) 27 26 true, .b 29 (.bin .neq) [.tmp 28, .const (.string ⟨#[]⟩)] 26 true, .pa 30 26 29, .m 2 30] false keep174)
 (.ret)) (.skip)))))))
 (.seq (.reg [.a 2 .mov [.const (.bool false)]] false keep174)
 (.ret)))
theorem fn174 : compFn Try.prog 174 keep174 = some ⟨31, 1, [(2, none)], body174⟩ := by kernel_rfl
def body177 : AC :=
 .seq (.reg [.a 4 .mov [.const (.bool false)]] false [0, 1, 4])
 (.seq (.reg [.m 5 0, .m 6 1, .w 7 (.call 196) 5 6, .c 8 (.bin .geq) 7 0, .m 4 8] false [0, 1, 4])
 (.ret))
def keep177 : List Nat := [0, 1, 4]
theorem fn177 : compFn Try.prog 177 keep177 = some ⟨9, 2, [(4, none)], body177⟩ := by kernel_rfl
def body178 : AC :=
 .seq (.reg [.u 1 .box 0, .a 2 .mov [.const (.bool false)]] false [0, 1, 2])
 (.seq (.reg [.u 3 (.load (some 3)) 1, .u 4 (.call 174) 3, .u 5 .not 4, .m 2 5] false [0, 1, 2])
 (.ret))
def keep178 : List Nat := [0, 1, 2]
theorem fn178 : compFn Try.prog 178 keep178 = some ⟨6, 1, [(2, none)], body178⟩ := by kernel_rfl
abbrev keep196 : List Nat := [0, 1, 4, 5, 7, 8, 9, 16]
def body196 : AC :=
 .seq (.reg [.a 4 .mov [ci 0]] false keep196)
 (.seq (.seq (.reg [.m 6 0, .u 7 .len 6, .a 8 .mov [ci 0]] false keep196)
 (.block 0 (.loop (.seq (.reg [.w 9 (.bin .lss) 8 7] false keep196)
 (.seq (.cond (.tmp 9) (.skip) (.exit 0))
 (.seq (.block 1 (.seq (.reg [.m 10 8, .m 5 10] false keep196)
 (.seq (.reg [.m 11 1, .m 12 0, .m 13 5, .w 14 (.ixa 183 3) 12 13, .u 15 (.load (some 3)) 14, .w 16 .calv 11 15] false keep196)
 (.cond (.tmp 16) (.seq (.reg [.m 17 5, .m 4 17] false keep196)
 (.ret)) (.skip)))))
 (.reg [.c 18 (.bin .add) 8 1, .m 8 18] false keep196)))))))
 (.seq (.reg [.a 4 .mov [.const (.int .i64 (-1))]] false keep196)
 (.ret)))
theorem fn196 : compFn Try.prog 196 keep196 = some ⟨19, 2, [(4, none)], body196⟩ := by kernel_rfl
abbrev keep164 : List Nat := [0, 2, 3, 4, 5, 6, 7, 8, 9, 13, 26, 37, 52, 56]
def body164 : AC :=
 .seq (.reg [.a 2 (.nilS 247) [], .a 3 .mov [ci 0]] false keep164)
 (.seq (.reg [.a 4 (.nilS 247) []] false keep164)
 (.seq (.seq (.reg [.a 5 .mov [ci 0]] false keep164)
 (.block 0 (.loop (.seq (.seq (.reg [.m 10 5, .m 11 0, .u 12 .len 11, .w 13 (.bin .lss) 10 12] false keep164)
 (.cond (.tmp 13) (.skip) (.exit 0)))
 (.block 1 (.seq (.reg [.m 14 0, .m 15 5, .w 16 (.ixa 5 1) 14 15, .u 17 (.load none) 16, .a 18 (.bld [(.int .u8 0), (.int .i64 0), (.string ⟨#[]⟩)] [(0, 1)]) [.tmp 17], .a 6 (.alloc [(.int .u8 0), (.int .i64 0), (.string ⟨#[]⟩)]) [], .s (.store (some 3)) [.tmp 6, .tmp 18]] false keep164)
 (.seq (.seq (.reg [.u 19 (.fad 0) 6, .u 20 (.load none) 19, .a 21 (.bin .lss) [.tmp 20, .const (.int .u8 1)], .m 22 21, .bu 23 (.fad 0) 6 22 false, .bu 24 (.load none) 23 22 false, .b 25 (.bin .gtr) [.tmp 24, .const (.int .u8 3)] 22 false, .po 26 22 25] false keep164)
 (.cond (.tmp 26) (.seq (.reg [.a 2 (.nilS 247) [], .a 3 .mov [ci 60]] false keep164)
 (.ret)) (.skip)))
 (.seq (.reg [.m 28 0, .m 29 5, .c 30 (.bin .add) 29 1, .w 31 (.call 109) 28 30, .m 27 31, .u 32 (.ext 0) 27, .u 33 (.ext 1) 27, .u 34 (.ext 2) 27, .m 7 32, .m 8 33, .m 9 34] false keep164)
 (.seq (.seq (.reg [.u 35 (.fad 0) 6, .u 36 (.load none) 35, .a 37 (.bin .eql) [.tmp 36, .const (.int .u8 2)]] false keep164)
 (.cond (.tmp 37) (.reg [.m 39 0, .m 40 5, .c 41 (.bin .add) 40 1, .w 42 (.call 110) 39 41, .m 38 42, .u 43 (.ext 0) 38, .u 44 (.ext 1) 38, .u 45 (.ext 2) 38, .u 46 (.fad 2) 6, .s (.store none) [.tmp 46, .tmp 43], .m 8 44, .m 9 45] false keep164) (.reg [.m 47 7, .a 48 (.mnx false) [.tmp 47, .const (.int .u64 2147483648)], .u 49 (.cvi .i64) 48, .u 50 (.fad 1) 6, .s (.store none) [.tmp 50, .tmp 49]] false keep164)))
 (.seq (.seq (.reg [.m 51 9, .c 52 (.bin .neq) 51 0] false keep164)
 (.cond (.tmp 52) (.seq (.reg [.m 53 9, .a 2 (.nilS 247) [], .m 3 53] false keep164)
 (.ret)) (.skip)))
 (.seq (.seq (.reg [.u 54 (.load (some 3)) 6, .u 55 (.call 180) 54, .u 56 .not 55] false keep164)
 (.cond (.tmp 56) (.seq (.reg [.a 2 (.nilS 247) [], .a 3 .mov [ci 2]] false keep164)
 (.ret)) (.skip)))
 (.seq (.reg [.m 57 4, .u 58 (.load (some 3)) 6, .u 59 (.bsl 247 3) 58, .w 60 (.app 247 3 32) 57 59, .m 4 60] false keep164)
 (.reg [.m 61 8, .m 5 61] false keep164)))))))))))))
 (.seq (.reg [.m 62 4, .m 2 62, .a 3 .mov [ci 0]] false keep164)
 (.ret))))
theorem fn164 : compFn Try.prog 164 keep164 = some ⟨63, 1, [(2, none), (3, none)], body164⟩ := by kernel_rfl
abbrev keep165 : List Nat := [0, 1, 4, 5, 6, 8, 9, 10, 11, 12, 26, 30, 39, 47, 63]
def body165 : AC :=
 .seq (.reg [.a 4 .mov [.const (.string ⟨#[]⟩)], .a 5 .mov [ci 0]] false keep165)
 (.seq (.reg [.m 14 1, .u 15 (.call 181) 14, .m 13 15, .u 16 (.ext 0) 13, .u 17 (.ext 1) 13, .m 6 16, .m 7 17] false keep165)
 (.seq (.seq (.reg [.m 18 1, .u 19 (.call 182) 18, .u 20 .not 19, .m 21 20, .mg 22 6 21 false, .mg 23 0 21 false, .bu 24 .slen 23 21 false, .bw 25 (.bin .neq) 22 24 21 false, .po 26 21 25] false keep165)
 (.cond (.tmp 26) (.seq (.reg [.a 4 .mov [.const (.string ⟨#[]⟩)], .a 5 .mov [ci 50]] false keep165)
 (.ret)) (.skip)))
 (.seq (.reg [.a 8 (.nilS 5) []] false keep165)
 (.seq (.reg [.a 9 .mov [ci 0]] false keep165)
 (.seq (.seq (.reg [.a 10 .mov [ci 0]] false keep165)
 (.block 0 (.loop (.seq (.seq (.reg [.m 27 10, .m 28 1, .u 29 .len 28, .w 30 (.bin .lss) 27 29] false keep165)
 (.cond (.tmp 30) (.skip) (.exit 0)))
 (.seq (.block 1 (.seq (.seq (.reg [.a 11 .mov [ci 0]] false keep165)
 (.block 2 (.loop (.seq (.seq (.reg [.m 33 11, .m 34 1, .m 35 10, .w 36 (.ixa 247 3) 34 35, .u 37 (.fad 1) 36, .u 38 (.load none) 37, .w 39 (.bin .lss) 33 38] false keep165)
 (.cond (.tmp 39) (.skip) (.exit 2)))
 (.seq (.block 3 (.seq (.seq (.reg [.m 42 1, .m 43 10, .w 44 (.ixa 247 3) 42 43, .u 45 (.fad 0) 44, .u 46 (.load none) 45, .a 47 (.bin .eql) [.tmp 46, .const (.int .u8 1)]] false keep165)
 (.cond (.tmp 47) (.reg [.m 48 8, .m 49 0, .m 50 9, .w 51 .sidx 49 50, .u 52 (.bsl 5 1) 51, .w 53 (.app 5 1 1) 48 52, .m 8 53] false keep165) (.skip)))
 (.reg [.m 54 9, .c 55 (.bin .add) 54 1, .m 9 55] false keep165)))
 (.reg [.m 40 11, .c 41 (.bin .add) 40 1, .m 11 41] false keep165))))))
 (.seq (.reg [.a 12 .mov [ci 0]] false keep165)
 (.block 4 (.loop (.seq (.seq (.reg [.m 56 12, .m 57 1, .m 58 10, .w 59 (.ixa 247 3) 57 58, .u 60 (.fad 2) 59, .u 61 (.load none) 60, .u 62 .slen 61, .w 63 (.bin .lss) 56 62] false keep165)
 (.cond (.tmp 63) (.skip) (.exit 4)))
 (.seq (.block 5 (.reg [.m 66 8, .m 67 1, .m 68 10, .w 69 (.ixa 247 3) 67 68, .u 70 (.fad 2) 69, .u 71 (.load none) 70, .m 72 12, .w 73 .sidx 71 72, .u 74 (.bsl 5 1) 73, .w 75 (.app 5 1 1) 66 74, .m 8 75] false keep165))
 (.reg [.m 64 12, .c 65 (.bin .add) 64 1, .m 12 65] false keep165))))))))
 (.reg [.m 31 10, .c 32 (.bin .add) 31 1, .m 10 32] false keep165))))))
 (.seq (.reg [.m 76 8, .u 77 .btoS 76, .m 4 77, .a 5 .mov [ci 0]] false keep165)
 (.ret)))))))
theorem fn165 : compFn Try.prog 165 keep165 = some ⟨78, 2, [(4, none), (5, none)], body165⟩ := by kernel_rfl
abbrev keep180 : List Nat := [0, 1, 2, 5]
def body180 : AC :=
 .seq (.reg [.u 1 .box 0, .a 2 .mov [.const (.bool false)]] false keep180)
 (.seq (.seq (.reg [.u 3 (.fad 0) 1, .u 4 (.load none) 3, .a 5 (.bin .eql) [.tmp 4, .const (.int .u8 2)]] false keep180)
 (.cond (.tmp 5) (.seq (.reg [.u 6 (.fad 1) 1, .u 7 (.load none) 6, .c 8 (.bin .eql) 7 0, .m 9 8, .bu 10 (.fad 2) 1 9 true, .bu 11 (.load none) 10 9 true, .bu 12 .slen 11 9 true, .bc 13 (.bin .gtr) 12 0 9 true, .pa 14 9 13, .m 2 14] false keep180)
 (.ret)) (.skip)))
 (.seq (.reg [.u 15 (.fad 0) 1, .u 16 (.load none) 15, .a 17 (.bin .eql) [.tmp 16, .const (.int .u8 1)], .m 18 17, .bu 19 (.fad 0) 1 18 false, .bu 20 (.load none) 19 18 false, .b 21 (.bin .eql) [.tmp 20, .const (.int .u8 3)] 18 false, .po 22 18 21, .m 23 22, .bu 24 (.fad 1) 1 23 true, .bu 25 (.load none) 24 23 true, .bc 26 (.bin .geq) 25 1 23 true, .pa 27 23 26, .m 28 27, .bu 29 (.fad 1) 1 28 true, .bu 30 (.load none) 29 28 true, .bc 31 (.bin .leq) 30 2147483647 28 true, .pa 32 28 31, .m 33 32, .bu 34 (.fad 2) 1 33 true, .bu 35 (.load none) 34 33 true, .bu 36 .slen 35 33 true, .bc 37 (.bin .eql) 36 0 33 true, .pa 38 33 37, .m 2 38] false keep180)
 (.ret)))
theorem fn180 : compFn Try.prog 180 keep180 = some ⟨39, 1, [(2, none)], body180⟩ := by kernel_rfl
abbrev keep181 : List Nat := [0, 2, 3, 4, 5, 6, 10, 18, 24, 37]
def body181 : AC :=
 .seq (.reg [.a 2 .mov [ci 0], .a 3 .mov [ci 0]] false keep181)
 (.seq (.reg [.a 4 .mov [ci 0], .a 5 .mov [ci 0]] false keep181)
 (.seq (.seq (.reg [.a 6 .mov [ci 0]] false keep181)
 (.block 0 (.loop (.seq (.seq (.reg [.m 7 6, .m 8 0, .u 9 .len 8, .w 10 (.bin .lss) 7 9] false keep181)
 (.cond (.tmp 10) (.skip) (.exit 0)))
 (.seq (.block 1 (.seq (.seq (.reg [.m 13 0, .m 14 6, .w 15 (.ixa 247 3) 13 14, .u 16 (.load (some 3)) 15, .u 17 (.call 180) 16, .u 18 .not 17] false keep181)
 (.cond (.tmp 18) (.exit 1) (.skip)))
 (.seq (.seq (.reg [.m 19 0, .m 20 6, .w 21 (.ixa 247 3) 19 20, .u 22 (.fad 0) 21, .u 23 (.load none) 22, .a 24 (.bin .neq) [.tmp 23, .const (.int .u8 2)]] false keep181)
 (.cond (.tmp 24) (.reg [.m 25 4, .m 26 0, .m 27 6, .w 28 (.ixa 247 3) 26 27, .u 29 (.fad 1) 28, .u 30 (.load none) 29, .w 31 (.bin .add) 25 30, .m 4 31] false keep181) (.skip)))
 (.seq (.reg [.m 32 0, .m 33 6, .w 34 (.ixa 247 3) 32 33, .u 35 (.fad 0) 34, .u 36 (.load none) 35, .a 37 (.bin .neq) [.tmp 36, .const (.int .u8 3)]] false keep181)
 (.cond (.tmp 37) (.reg [.m 38 5, .m 39 0, .m 40 6, .w 41 (.ixa 247 3) 39 40, .u 42 (.fad 1) 41, .u 43 (.load none) 42, .w 44 (.bin .add) 38 43, .m 45 0, .m 46 6, .w 47 (.ixa 247 3) 45 46, .u 48 (.fad 2) 47, .u 49 (.load none) 48, .u 50 .slen 49, .w 51 (.bin .add) 44 50, .m 5 51] true keep181) (.skip))))))
 (.reg [.m 11 6, .c 12 (.bin .add) 11 1, .m 6 12] false keep181))))))
 (.seq (.reg [.m 52 4, .m 53 5, .m 2 52, .m 3 53] false keep181)
 (.ret))))
theorem fn181 : compFn Try.prog 181 keep181 = some ⟨54, 1, [(2, none), (3, none)], body181⟩ := by kernel_rfl
abbrev keep182 : List Nat := [0, 2, 3, 7, 15]
def body182 : AC :=
 .seq (.reg [.a 2 .mov [.const (.bool false)]] false keep182)
 (.seq (.seq (.reg [.a 3 .mov [ci 0]] false keep182)
 (.block 0 (.loop (.seq (.seq (.reg [.m 4 3, .m 5 0, .u 6 .len 5, .w 7 (.bin .lss) 4 6] false keep182)
 (.cond (.tmp 7) (.skip) (.exit 0)))
 (.seq (.block 1 (.seq (.reg [.m 10 0, .m 11 3, .w 12 (.ixa 247 3) 10 11, .u 13 (.load (some 3)) 12, .u 14 (.call 180) 13, .u 15 .not 14] false keep182)
 (.cond (.tmp 15) (.seq (.reg [.a 2 .mov [.const (.bool false)]] false keep182)
 (.ret)) (.skip))))
 (.reg [.m 8 3, .c 9 (.bin .add) 8 1, .m 3 9] false keep182))))))
 (.seq (.reg [.a 2 .mov [.const (.bool true)]] false keep182)
 (.ret)))
theorem fn182 : compFn Try.prog 182 keep182 = some ⟨16, 1, [(2, none)], body182⟩ := by kernel_rfl
def body70 : AC :=
 .seq (.reg [.a 2 (.alloc [(.int .u64 0), (.int .u64 0)]) []] false [0, 2])
 (.seq (.reg [.m 3 0, .u 4 .len 3, .u 5 (.cvi .u64) 4, .m 6 0, .u 7 (.bsl 54 1) 6, .u 8 (.call 127) 7, .u 9 (.cvi .u64) 8, .a 10 (.bld [(.int .u64 0), (.int .u64 0)] [(0, 1), (1, 1)]) [.tmp 5, .tmp 9], .s (.store (some 2)) [.tmp 2, .tmp 10]] false [0, 2])
 (.ret))
def keep70 : List Nat := [0, 2]
theorem fn70 : compFn Try.prog 70 keep70 = some ⟨11, 1, [(2, some (some 2))], body70⟩ := by kernel_rfl
abbrev keep127 : List Nat := [0, 2, 3, 4, 6, 8, 9, 10, 11]
def body127 : AC :=
 .seq (.reg [.a 2 .mov [.const (.int .u32 0)]] false keep127)
 (.seq (.reg [.a 7 (.call 161) [], .a 3 (.alloc (List.replicate 256 (Value.int .u32 0))) [], .s (.store (some 256)) [.tmp 3, .tmp 7]] false keep127)
 (.seq (.reg [.a 4 .mov [.const (.int .u32 0)]] false keep127)
 (.seq (.seq (.reg [.m 8 0, .u 9 .len 8, .a 10 .mov [ci 0]] false keep127)
 (.block 0 (.loop (.seq (.reg [.w 11 (.bin .lss) 10 9] false keep127)
 (.seq (.cond (.tmp 11) (.skip) (.exit 0))
 (.seq (.block 1 (.seq (.reg [.w 12 (.ixa 54 1) 8 10, .u 13 (.load none) 12, .m 6 13] false keep127)
 (.reg [.m 14 4, .m 15 6, .a 16 (.call 162) [.tmp 3, .tmp 14, .tmp 15], .m 4 16] false keep127)))
 (.reg [.c 17 (.bin .add) 10 1, .m 10 17] false keep127)))))))
 (.seq (.reg [.m 18 4, .m 2 18] false keep127)
 (.ret)))))
theorem fn127 : compFn Try.prog 127 keep127 = some ⟨19, 1, [(2, none)], body127⟩ := by kernel_rfl
abbrev keep161 : List Nat := [0, 1, 2, 3, 4, 5, 9, 10]
def body161 : AC :=
 .seq (.reg [.a 0 (.alloc (List.replicate 256 (Value.int .u32 0))) []] false keep161)
 (.seq (.reg [.a 1 (.alloc (List.replicate 256 (Value.int .u32 0))) []] false keep161)
 (.seq (.seq (.reg [.a 4 .mov [ci 0]] false keep161)
 (.block 0 (.loop (.seq (.reg [.c 5 (.bin .lss) 4 256] false keep161)
 (.seq (.cond (.tmp 5) (.skip) (.exit 0))
 (.seq (.block 1 (.seq (.reg [.m 6 4, .m 2 6] false keep161)
 (.seq (.reg [.m 7 2, .u 8 (.cvi .u32) 7, .m 3 8] false keep161)
 (.seq (.seq (.reg [.a 9 .mov [ci 0]] false keep161)
 (.block 2 (.loop (.seq (.reg [.c 10 (.bin .lss) 9 8] false keep161)
 (.seq (.cond (.tmp 10) (.skip) (.exit 2))
 (.seq (.block 3 (.reg [.m 11 3, .a 12 (.bin .shr) [.tmp 11, .const (.int .u64 1)], .m 13 3, .a 14 (.bin .and) [.tmp 13, .const (.int .u32 1)], .u 15 .neg 14, .a 16 (.bin .and) [.const (.int .u32 2197175160), .tmp 15], .w 17 (.bin .xor) 12 16, .m 3 17] false keep161))
 (.reg [.c 18 (.bin .add) 9 1, .m 9 18] false keep161)))))))
 (.reg [.m 19 2, .m 20 3, .w 21 (.ixp 256 1) 1 19, .s (.store none) [.tmp 21, .tmp 20]] false keep161)))))
 (.reg [.c 22 (.bin .add) 4 1, .m 4 22] false keep161)))))))
 (.seq (.reg [.u 23 (.load (some 256)) 1, .s (.store (some 256)) [.tmp 0, .tmp 23]] false keep161)
 (.ret))))
theorem fn161 : compFn Try.prog 161 keep161 = some ⟨24, 0, [(0, some (some 256))], body161⟩ := by kernel_rfl
abbrev keep162 : List Nat := [0, 1, 2, 6, 8, 11, 12, 13, 14]
def body162 : AC :=
 .seq (.reg [.a 6 .mov [.const (.int .u32 0)]] false keep162)
 (.seq (.reg [.m 9 1, .a 10 (.bin .xor) [.tmp 9, .const (.int .u32 4294967295)], .m 1 10] false keep162)
 (.seq (.seq (.reg [.m 11 2, .u 12 .len 11, .a 13 .mov [ci 0]] false keep162)
 (.block 0 (.loop (.seq (.reg [.w 14 (.bin .lss) 13 12] false keep162)
 (.seq (.cond (.tmp 14) (.skip) (.exit 0))
 (.seq (.block 1 (.seq (.reg [.w 15 (.ixa 5 1) 11 13, .u 16 (.load none) 15, .m 8 16] false keep162)
 (.reg [.m 17 0, .m 18 1, .u 19 (.cvi .u8) 18, .m 20 8, .w 21 (.bin .xor) 19 20, .u 22 .nck 17, .w 23 (.ixp 256 1) 22 21, .u 24 (.load none) 23, .m 25 1, .a 26 (.bin .shr) [.tmp 25, .const (.int .u64 8)], .w 27 (.bin .xor) 24 26, .m 1 27] false keep162)))
 (.reg [.c 28 (.bin .add) 13 1, .m 13 28] false keep162)))))))
 (.seq (.reg [.m 29 1, .a 30 (.bin .xor) [.tmp 29, .const (.int .u32 4294967295)], .m 6 30] false keep162)
 (.ret))))
theorem fn162 : compFn Try.prog 162 keep162 = some ⟨31, 3, [(6, none)], body162⟩ := by kernel_rfl
def body163 : AC :=
 .seq (.reg [.a 2 (.alloc [(.int .u64 0), (.int .u64 0)]) []] false [0, 2])
 (.seq (.reg [.m 3 0, .u 4 .len 3, .u 5 (.cvi .u64) 4, .m 6 0, .u 7 (.bsl 54 1) 6, .u 8 (.call 179) 7, .u 9 (.cvi .u64) 8, .a 10 (.bld [(.int .u64 0), (.int .u64 0)] [(0, 1), (1, 1)]) [.tmp 5, .tmp 9], .s (.store (some 2)) [.tmp 2, .tmp 10]] false [0, 2])
 (.ret))
def keep163 : List Nat := [0, 2]
theorem fn163 : compFn Try.prog 163 keep163 = some ⟨11, 1, [(2, some (some 2))], body163⟩ := by kernel_rfl
abbrev keep179 : List Nat := [0, 2, 3, 4, 8]
def body179 : AC :=
 .seq (.reg [.a 2 .mov [.const (.int .u32 0)]] false keep179)
 (.seq (.reg [.a 3 (.nilS 5) []] false keep179)
 (.seq (.seq (.reg [.a 4 .mov [ci 0]] false keep179)
 (.block 0 (.loop (.seq (.seq (.reg [.m 5 4, .m 6 0, .u 7 .len 6, .w 8 (.bin .lss) 5 7] false keep179)
 (.cond (.tmp 8) (.skip) (.exit 0)))
 (.seq (.block 1 (.reg [.m 11 3, .m 12 0, .m 13 4, .w 14 (.ixa 54 1) 12 13, .u 15 (.load none) 14, .w 16 (.app 5 1 1) 11 15, .m 3 16] false keep179))
 (.reg [.m 9 4, .c 10 (.bin .add) 9 1, .m 4 10] false keep179))))))
 (.seq (.reg [.m 17 3, .a 18 (.call 197) [.const (.int .u32 0), .tmp 17], .m 2 18] false keep179)
 (.ret))))
theorem fn179 : compFn Try.prog 179 keep179 = some ⟨19, 1, [(2, none)], body179⟩ := by kernel_rfl
abbrev keep197 : List Nat := [0, 1, 4, 5, 6, 7, 13, 17]
def body197 : AC :=
 .seq (.reg [.a 4 .mov [.const (.int .u32 0)]] false keep197)
 (.seq (.reg [.m 8 0, .a 9 (.bin .xor) [.tmp 8, .const (.int .u32 4294967295)], .m 0 9] false keep197)
 (.seq (.seq (.reg [.a 5 .mov [ci 0]] false keep197)
 (.block 0 (.loop (.seq (.seq (.reg [.m 10 5, .m 11 1, .u 12 .len 11, .w 13 (.bin .lss) 10 12] false keep197)
 (.cond (.tmp 13) (.skip) (.exit 0)))
 (.seq (.block 1 (.seq (.reg [.a 6 .mov [ci 0]] false keep197)
 (.block 2 (.loop (.seq (.seq (.reg [.m 16 6, .c 17 (.bin .lss) 16 8] false keep197)
 (.cond (.tmp 17) (.skip) (.exit 2)))
 (.seq (.block 3 (.seq (.reg [.m 20 1, .m 21 5, .w 22 (.ixa 5 1) 20 21, .u 23 (.load none) 22, .m 24 6, .w 25 (.bin .shr) 23 24, .u 26 (.cvi .u32) 25, .a 27 (.bin .rem) [.tmp 26, .const (.int .u32 2)], .m 7 27] false keep197)
 (.reg [.m 28 0, .m 29 7, .w 30 (.bin .xor) 28 29, .u 31 (.call 205) 30, .m 0 31] false keep197)))
 (.reg [.m 18 6, .c 19 (.bin .add) 18 1, .m 6 19] false keep197)))))))
 (.reg [.m 14 5, .c 15 (.bin .add) 14 1, .m 5 15] false keep197))))))
 (.seq (.reg [.m 32 0, .a 33 (.bin .xor) [.tmp 32, .const (.int .u32 4294967295)], .m 4 33] false keep197)
 (.ret))))
theorem fn197 : compFn Try.prog 197 keep197 = some ⟨34, 2, [(4, none)], body197⟩ := by kernel_rfl
def body205 : AC :=
 .seq (.reg [.a 2 .mov [.const (.int .u32 0)]] false [0, 2, 5])
 (.seq (.seq (.reg [.m 3 0, .a 4 (.bin .rem) [.tmp 3, .const (.int .u32 2)], .a 5 (.bin .eql) [.tmp 4, .const (.int .u32 1)]] false [0, 2, 5])
 (.cond (.tmp 5) (.seq (.reg [.m 6 0, .a 7 (.bin .quo) [.tmp 6, .const (.int .u32 2)], .a 8 (.bin .xor) [.tmp 7, .const (.int .u32 2197175160)], .m 2 8] false [0, 2, 5])
 (.ret)) (.skip)))
 (.seq (.reg [.m 9 0, .a 10 (.bin .quo) [.tmp 9, .const (.int .u32 2)], .m 2 10] false [0, 2, 5])
 (.ret)))
def keep205 : List Nat := [0, 2, 5]
theorem fn205 : compFn Try.prog 205 keep205 = some ⟨11, 1, [(2, none)], body205⟩ := by kernel_rfl
def body67 : AC :=
 .seq (.reg [.a 0 (.nilS 54) []] false [0, 1, 3])
 (.seq (.reg [.a 6 (.bld [(.int .u8 0), (.int .i64 0), (.string ⟨#[]⟩)] [(0, 1), (1, 1)]) [.const (.int .u8 1), ci 2], .a 7 (.bld [(.int .u8 0), (.int .i64 0), (.string ⟨#[]⟩)] [(0, 1), (1, 1)]) [.const (.int .u8 3), ci 1], .w 8 (.bsl 183 3) 6 7, .u 9 (.call 126) 8, .m 5 9, .u 10 (.ext 0) 5, .u 11 (.ext 1) 5, .m 1 10, .m 2 11] false [0, 1, 3])
 (.seq (.reg [.a 13 (.bld [(.int .u8 0), (.int .i64 0), (.string ⟨#[]⟩)] [(0, 1), (1, 1)]) [.const (.int .u8 1), ci 2], .a 14 (.bld [(.int .u8 0), (.int .i64 0), (.string ⟨#[]⟩)] [(0, 1), (2, 1)]) [.const (.int .u8 2), .const (.string ⟨#[122]⟩)], .w 15 (.bsl 183 3) 13 14, .u 16 (.call 126) 15, .m 12 16, .u 17 (.ext 0) 12, .u 18 (.ext 1) 12, .m 3 17, .m 4 18] false [0, 1, 3])
 (.seq (.reg [.a 19 (.bsl 5 1) [.const (.int .u8 97), .const (.int .u8 98), .const (.int .u8 99)], .u 20 (.ex .mark) 19, .m 21 1, .m 22 3, .a 23 (.bsl 54 1) [.tmp 20, .tmp 21, .tmp 22], .m 0 23] false [0, 1, 3])
 (.ret))))
def keep67 : List Nat := [0, 1, 3]
theorem fn67 : compFn Try.prog 67 keep67 = some ⟨24, 0, [(0, none)], body67⟩ := by kernel_rfl
abbrev keep111 : List Nat := [0, 1, 4, 5, 6, 7, 8, 9, 10, 11, 21, 22, 23, 24, 25, 33, 38, 44, 55, 64]
def body111 : AC :=
 .seq (.reg [.a 4 .mov [.const (.string ⟨#[]⟩)], .a 5 .mov [ci 0]] false keep111)
 (.seq (.seq (.reg [.m 12 0, .u 13 .len 12, .c 14 (.bin .eql) 13 0, .m 15 14, .mg 16 1 15 false, .bu 17 .len 16 15 false, .mg 18 0 15 false, .bu 19 .len 18 15 false, .bw 20 (.bin .neq) 17 19 15 false, .po 21 15 20] false keep111)
 (.cond (.tmp 21) (.seq (.reg [.a 4 .mov [.const (.string ⟨#[]⟩)], .a 5 .mov [ci 2]] false keep111)
 (.ret)) (.skip)))
 (.seq (.reg [.a 6 .mov [.const (.string ⟨#[]⟩)]] false keep111)
 (.seq (.seq (.reg [.m 22 0, .u 23 .len 22, .a 24 .mov [ci 0]] false keep111)
 (.block 0 (.loop (.seq (.reg [.w 25 (.bin .lss) 24 23] false keep111)
 (.seq (.cond (.tmp 25) (.skip) (.exit 0))
 (.seq (.block 1 (.seq (.reg [.m 26 24, .w 27 (.ixa 70 10) 22 24, .u 28 (.load (some 10)) 27, .a 8 (.alloc [(.int .u64 0), (.int .u64 0), (.int .u64 0), (.int .u64 0), (.int .u64 0), (.int .u64 0), (.int .u64 0), (.string ⟨#[]⟩), (.bool false), (.bool false)]) [], .m 7 26, .s (.store (some 10)) [.tmp 8, .tmp 28]] false keep111)
 (.seq (.reg [.m 29 1, .m 30 7, .w 31 (.ixa 54 1) 29 30, .u 32 (.load none) 31, .m 9 32] false keep111)
 (.seq (.block 2 (.seq (.reg [.u 34 (.fad 8) 8, .u 35 (.load none) 34, .m 33 35] false keep111)
 (.cond (.tmp 33) (.seq (.reg [.u 36 (.fad 7) 8, .u 37 (.load none) 36, .m 6 37] false keep111)
 (.exit 1)) (.seq (.reg [.m 39 9, .u 40 (.call 70) 39, ⟨some 41, (.fad 5), [.tmp 8], none, [40], none⟩, ⟨some 42, (.load (some 2)), [.tmp 41], none, [40], none⟩, .a 43 (.eqs true [9, 9]) [.tmp 40, .tmp 42], .m 38 43] true keep111)
 (.cond (.tmp 38) (.seq (.reg [.a 4 .mov [.const (.string ⟨#[]⟩)], .a 5 .mov [ci 110]] false keep111)
 (.ret)) (.seq (.reg [.m 45 7, .c 46 (.bin .eql) 45 0, .m 44 46] false keep111)
 (.cond (.tmp 44) (.seq (.reg [.m 47 9, .u 48 .btoS 47, .m 6 48] false keep111)
 (.exit 1)) (.skip))))))))
 (.seq (.reg [.m 50 9, .u 51 (.call 155) 50, .m 49 51, .u 52 (.ext 0) 49, .u 53 (.ext 1) 49, .m 10 52, .m 11 53] false keep111)
 (.seq (.seq (.reg [.m 54 11, .c 55 (.bin .neq) 54 0] false keep111)
 (.cond (.tmp 55) (.seq (.reg [.m 56 11, .a 4 .mov [.const (.string ⟨#[]⟩)], .m 5 56] false keep111)
 (.ret)) (.skip)))
 (.seq (.reg [.m 58 6, .m 59 10, .w 60 (.call 156) 58 59, .m 57 60, .u 61 (.ext 0) 57, .u 62 (.ext 1) 57, .m 6 61, .m 11 62] false keep111)
 (.seq (.reg [.m 63 11, .c 64 (.bin .neq) 63 0] false keep111)
 (.cond (.tmp 64) (.seq (.reg [.m 65 11, .a 4 .mov [.const (.string ⟨#[]⟩)], .m 5 65] false keep111)
 (.ret)) (.skip))))))))))
 (.reg [.c 66 (.bin .add) 24 1, .m 24 66] false keep111)))))))
 (.seq (.reg [.m 67 6, .m 4 67, .a 5 .mov [ci 0]] false keep111)
 (.ret)))))
theorem fn111 : compFn Try.prog 111 keep111 = some ⟨68, 2, [(4, none), (5, none)], body111⟩ := by kernel_rfl
abbrev keep11 : List Nat := [0, 1, 2, 3, 4, 5, 6, 7, 8, 9, 10, 11, 12, 13, 14, 15, 16, 17, 18, 20, 48, 126, 131, 140, 209, 231, 268, 278, 297]
def body11 : AC :=
 .seq (.reg [.a 0 .mov [.const (.bool false)]] false keep11)
 (.seq (.seq (.reg [.a 1 .mov [ci 0]] false keep11)
 (.block 0 (.loop (.seq (.seq (.reg [.m 19 1, .c 20 (.bin .lss) 19 192] false keep11)
 (.cond (.tmp 20) (.skip) (.exit 0)))
 (.seq (.block 1 (.seq (.reg [⟨some 23, (.bld [(.int .u64 0), (.int .u64 0), (.int .u64 0), (.int .u64 0), (.int .u64 0), (.int .u64 0), (.int .u64 0), (.string ⟨#[]⟩), (.bool false), (.bool false)] [(0, 1)]), [.const (.int .u64 2)], none, [29, 39], none⟩, .m 24 1, .c 25 (.bin .rem) 24 2, .c 26 (.bin .mul) 25 2, .u 27 (.cvi .u64) 26, ⟨some 28, (.bld [(.int .u64 0), (.int .u64 0), (.int .u64 0), (.int .u64 0), (.int .u64 0), (.int .u64 0), (.int .u64 0), (.string ⟨#[]⟩), (.bool false), (.bool false)] [(0, 1), (1, 1)]), [.const (.int .u64 3), .tmp 27], none, [29, 39], none⟩, ⟨some 29, (.bsl 24 1), [.const (.int .u64 0), .const (.int .u64 2), .const (.int .u64 3)], none, [39], none⟩, .m 30 1, .c 31 (.bin .quo) 30 2, .c 32 (.bin .rem) 31 3, ⟨some 33, (.ixa 24 1), [.tmp 29, .tmp 32], none, [39], none⟩, ⟨some 34, (.load none), [.tmp 33], none, [39], none⟩, .m 35 1, .c 36 (.bin .rem) 35 5, .c 37 (.bin .eql) 36 0, ⟨some 38, (.bld [(.int .u64 0), (.int .u64 0), (.int .u64 0), (.int .u64 0), (.int .u64 0), (.int .u64 0), (.int .u64 0), (.string ⟨#[]⟩), (.bool false), (.bool false)] [(0, 1), (1, 1), (9, 1)]), [.const (.int .u64 7), .tmp 34, .tmp 37], none, [39], none⟩, ⟨some 39, (.bsl 24 1), [.const (.int .u64 0), .const (.int .u64 2), .const (.int .u64 3), .const (.int .u64 7)], none, [29], none⟩, .m 40 1, .c 41 (.bin .quo) 40 6, .c 42 (.bin .rem) 41 4, ⟨some 43, (.ixa 24 1), [.tmp 39, .tmp 42], none, [29], none⟩, ⟨some 44, (.load none), [.tmp 43], none, [29], none⟩, ⟨some 45, (.bld [(.int .u64 0), (.int .u64 0), (.int .u64 0), (.int .u64 0), (.int .u64 0), (.int .u64 0), (.int .u64 0), (.string ⟨#[]⟩), (.bool false), (.bool false)] [(0, 1), (1, 1)]), [.const (.int .u64 9), .tmp 44], none, [29], none⟩, .a 46 (.bsl 70 10) [.tmp 23, .tmp 28, .tmp 38, .tmp 45], .m 2 46] true keep11)
 (.seq (.seq (.reg [.a 3 .mov [ci 0]] false keep11)
 (.block 2 (.loop (.seq (.seq (.reg [.m 47 3, .c 48 (.bin .lss) 47 4] false keep11)
 (.cond (.tmp 48) (.skip) (.exit 2)))
 (.seq (.block 3 (.seq (.reg [.m 51 2, .m 52 3, .w 53 (.ixa 70 10) 51 52, .u 54 (.load (some 10)) 53, .a 4 (.alloc [(.int .u64 0), (.int .u64 0), (.int .u64 0), (.int .u64 0), (.int .u64 0), (.int .u64 0), (.int .u64 0), (.string ⟨#[]⟩), (.bool false), (.bool false)]) [], .s (.store (some 10)) [.tmp 4, .tmp 54]] false keep11)
 (.seq (.reg [.u 55 (.fad 9) 4, .u 56 (.load none) 55, .m 57 56, .mg 58 1 57 false, .bc 59 (.bin .quo) 58 24 57 false, .mg 60 3 57 false, .bw 61 (.bin .shr) 59 60 57 false, .bc 62 (.bin .rem) 61 2 57 false, .bc 63 (.bin .eql) 62 1 57 false, .po 64 57 63, .u 65 (.fad 9) 4, .s (.store none) [.tmp 65, .tmp 64]] false keep11)
 (.seq (.reg [.m 66 1, .c 67 (.bin .rem) 66 7, .m 68 3, .w 69 (.bin .eql) 67 68, .u 70 (.fad 8) 4, .s (.store none) [.tmp 70, .tmp 69]] false keep11)
 (.reg [.m 71 2, .m 72 3, .u 73 (.load (some 10)) 4, .w 74 (.ixa 70 10) 71 72, .s (.store (some 10)) [.tmp 74, .tmp 73]] false keep11)))))
 (.reg [.m 49 3, .c 50 (.bin .add) 49 1, .m 3 50] false keep11))))))
 (.seq (.reg (
  .m 75 2 :: .m 76 1 :: .c 77 (.bin .rem) 76 10 :: .u 78 (.cvi .u64) 77 :: .w 79 (.call 7) 75 78 :: .u 80 .not 79 :: .m 81 80 :: .mg 82 2 81 false :: .mg 83 1 81 false :: .bc 84 (.bin .rem) 83 4 81 false :: .b 85 (.bin .add) [ci 8, .tmp 84] 81 false :: .bu 86 (.cvi .u64) 85 81 false :: .mg 87 1 81 false :: .bc 88 (.bin .rem) 87 4 81 false :: .bu 89 (.cvi .u64) 88 81 false :: .b 90 (.bld [(.int .u64 0), (.int .u64 0), (.int .u64 0), (.int .u64 0), (.int .u64 0), (.int .u64 0), (.int .u64 0), (.string ⟨#[]⟩), (.bool false), (.bool false)] [(0, 1), (1, 1)]) [.tmp 86, .tmp 89] 81 false :: .mg 91 1 81 false :: .bc 92 (.bin .rem) 91 10 81 false :: .bu 93 (.cvi .u64) 92 81 false :: .b 94 (.bsl 24 1) [.tmp 93, .const (.int .u64 3)] 81 false :: .mg 95 1 81 false :: .bc 96 (.bin .rem) 95 5 81 false :: .b 97 (.ex (.mks 9 16 [(.string ⟨#[]⟩)])) [.tmp 96, .tmp 96] 81 false :: .b 98 (.call 9) [.tmp 82, .tmp 90, .tmp 94, .tmp 97] 81 false :: .bu 99 .not 98 81 false :: .po 100 81 99 :: .m 101 100 :: .mg 102 2 101 false :: .mg 103 1 101 false :: .bc 104 (.bin .rem) 103 10 101 false :: .bu 105 (.cvi .u64) 104 101 false :: .bu 106 (.bsl 24 1) 105 101 false :: .mg 107 1 101 false :: .bc 108 (.bin .quo) 107 10 101 false :: .bc 109 (.bin .rem) 108 10 101 false :: .bu 110 (.cvi .u64) 109 101 false :: .b 111 (.bsl 24 1) [.tmp 110, .const (.int .u64 9)] 101 false :: .b 112 (.call 8) [.tmp 102, .tmp 106, .tmp 111] 101 false :: .bu 113 .not 112 101 false :: .po 114 101 113 :: .m 115 114 :: .mg 116 2 115 false :: .mg 117 1 115 false :: .bc 118 (.bin .rem) 117 3 115 false :: .bu 119 (.cvi .u8) 118 115 false :: .mg 120 1 115 false :: .bc 121 (.bin .rem) 120 4 115 false :: .bu 122 (.cvi .u8) 121 115 false :: .b 123 (.bsl 5 1) [.tmp 119, .const (.int .u8 1), .const (.int .u8 1), .const (.int .u8 97), .tmp 122, .const (.int .u8 0)] 115 false :: .bw 124 (.call 10) 116 123 115 false :: .bu 125 .not 124 115 false :: .po 126 115 125 :: []) false keep11)
 (.cond (.tmp 126) (.seq (.reg [.a 0 .mov [.const (.bool false)]] false keep11)
 (.ret)) (.skip))))))
 (.reg [.m 21 1, .c 22 (.bin .add) 21 1, .m 1 22] false keep11))))))
 (.seq (.reg [.a 127 (.call 67) [], .m 5 127] false keep11)
 (.seq (.seq (.reg [.a 6 .mov [ci 0]] false keep11)
 (.block 4 (.loop (.seq (.seq (.reg [.m 128 6, .m 129 5, .u 130 .len 129, .w 131 (.bin .lss) 128 130] false keep11)
 (.cond (.tmp 131) (.skip) (.exit 4)))
 (.seq (.block 5 (.seq (.reg [.a 7 .mov [ci 0]] false keep11)
 (.block 6 (.loop (.seq (.seq (.reg [.m 134 7, .m 135 5, .m 136 6, .w 137 (.ixa 54 1) 135 136, .u 138 (.load none) 137, .u 139 .len 138, .w 140 (.bin .lss) 134 139] false keep11)
 (.cond (.tmp 140) (.skip) (.exit 6)))
 (.seq (.block 7 (.seq (.reg [.m 143 5, .c 144 (.ixa 54 1) 143 0, .u 145 (.load none) 144, .m 146 5, .c 147 (.ixa 54 1) 146 1, .u 148 (.load none) 147, .m 149 5, .c 150 (.ixa 54 1) 149 2, .u 151 (.load none) 150, .a 152 (.bsl 54 1) [.tmp 145, .tmp 148, .tmp 151], .m 8 152] true keep11)
 (.seq (.reg [.m 153 8, .m 154 6, .m 155 5, .m 156 6, .w 157 (.ixa 54 1) 155 156, .u 158 (.load none) 157, .u 159 (.call 68) 158, .w 160 (.ixa 54 1) 153 154, .s (.ex .rst) [.tmp 160, .tmp 159]] false keep11)
 (.seq (.reg [.m 161 8, .m 162 6, .w 163 (.ixa 54 1) 161 162, .u 164 (.load none) 163, .m 165 7, .m 166 8, .m 167 6, .w 168 (.ixa 54 1) 166 167, .u 169 (.load none) 168, .m 170 7, .w 171 (.ixa 5 1) 169 170, .u 172 (.load none) 171, .a 173 (.bin .xor) [.tmp 172, .const (.int .u8 1)], .w 174 (.ixa 5 1) 164 165, .s (.store none) [.tmp 174, .tmp 173]] true keep11)
 (.seq (.reg [.a 175 (.call 69) [], .m 9 175] false keep11)
 (.seq (.reg [.m 176 9, .m 177 6, .w 178 (.ixa 70 10) 176 177, .u 179 (.load (some 10)) 178, .a 10 (.alloc [(.int .u64 0), (.int .u64 0), (.int .u64 0), (.int .u64 0), (.int .u64 0), (.int .u64 0), (.int .u64 0), (.string ⟨#[]⟩), (.bool false), (.bool false)]) [], .s (.store (some 10)) [.tmp 10, .tmp 179]] false keep11)
 (.seq (.reg [.m 180 8, .m 181 6, .w 182 (.ixa 54 1) 180 181, .u 183 (.load none) 182, .u 184 (.call 70) 183, .u 185 (.fad 5) 10, .s (.store (some 2)) [.tmp 185, .tmp 184]] false keep11)
 (.seq (.reg [.a 186 (.call 69) [], .m 11 186] false keep11)
 (.seq (.reg [.m 187 11, .m 188 6, .u 189 (.load (some 10)) 10, .w 190 (.ixa 70 10) 187 188, .s (.store (some 10)) [.tmp 190, .tmp 189]] false keep11)
 (.seq (.reg [.m 191 9, .c 192 (.slc 10 false true) 191 3, .u 193 (.ex .pubk) 8, .w 194 (.call 71) 192 193, .u 195 .not 194, .m 196 195, .mg 197 11 196 false, .bc 198 (.slc 10 false true) 197 3 196 false, .mg 199 8 196 false, .bw 200 (.call 71) 198 199 196 false, .bu 201 .not 200 196 false, .po 202 196 201, .m 203 202, .mg 204 9 203 false, .bc 205 (.slc 10 false true) 204 2 203 false, .mg 206 8 203 false, .bw 207 (.call 71) 205 206 203 false, .bu 208 .not 207 203 false, .po 209 203 208] false keep11)
 (.cond (.tmp 209) (.seq (.reg [.a 0 .mov [.const (.bool false)]] false keep11)
 (.ret)) (.skip))))))))))))
 (.reg [.m 141 7, .c 142 (.bin .add) 141 1, .m 7 142] false keep11)))))))
 (.reg [.m 132 6, .c 133 (.bin .add) 132 1, .m 6 133] false keep11))))))
 (.seq (.reg [.a 210 (.bld [(.int .u64 0), (.int .u64 0), (.int .u64 0), (.int .u64 0), (.int .u64 0), (.int .u64 0), (.int .u64 0), (.string ⟨#[]⟩), (.bool false), (.bool false)] [(0, 1)]) [.const (.int .u64 0)], .u 211 (.bsl 70 10) 210, .a 212 (.bld [(.int .u64 0), (.int .u64 0), (.int .u64 0), (.int .u64 0), (.int .u64 0), (.int .u64 0), (.int .u64 0), (.string ⟨#[]⟩), (.bool false), (.bool false)] [(0, 1)]) [.const (.int .u64 2)], .a 213 (.bld [(.int .u64 0), (.int .u64 0), (.int .u64 0), (.int .u64 0), (.int .u64 0), (.int .u64 0), (.int .u64 0), (.string ⟨#[]⟩), (.bool false), (.bool false)] [(0, 1)]) [.const (.int .u64 2)], .w 214 (.bsl 70 10) 212 213, .a 215 (.bld [(.int .u64 0), (.int .u64 0), (.int .u64 0), (.int .u64 0), (.int .u64 0), (.int .u64 0), (.int .u64 0), (.string ⟨#[]⟩), (.bool false), (.bool false)] [(0, 1), (1, 1)]) [.const (.int .u64 2), .const (.int .u64 1)], .u 216 (.bsl 70 10) 215, .a 217 (.bld [(.int .u64 0), (.int .u64 0), (.int .u64 0), (.int .u64 0), (.int .u64 0), (.int .u64 0), (.int .u64 0), (.string ⟨#[]⟩), (.bool false), (.bool false)] [(0, 1), (1, 1)]) [.const (.int .u64 2), .const (.int .u64 2)], .u 218 (.bsl 70 10) 217, .a 219 (.bld [(.int .u64 0), (.int .u64 0), (.int .u64 0), (.int .u64 0), (.int .u64 0), (.int .u64 0), (.int .u64 0), (.string ⟨#[]⟩), (.bool false), (.bool false)] [(0, 1), (1, 1)]) [.const (.int .u64 3), .const (.int .u64 4)], .a 220 (.bld [(.int .u64 0), (.int .u64 0), (.int .u64 0), (.int .u64 0), (.int .u64 0), (.int .u64 0), (.int .u64 0), (.string ⟨#[]⟩), (.bool false), (.bool false)] [(0, 1)]) [.const (.int .u64 4)], .w 221 (.bsl 70 10) 219 220, .a 222 (.bld [(.int .u64 0), (.int .u64 0), (.int .u64 0), (.int .u64 0), (.int .u64 0), (.int .u64 0), (.int .u64 0), (.string ⟨#[]⟩), (.bool false), (.bool false)] [(0, 1), (8, 1), (1, 1), (7, 1)]) [.const (.int .u64 1), .const (.bool true), .const (.int .u64 9), .const (.string ⟨#[97]⟩)], .u 223 (.bsl 70 10) 222, .a 224 (.bld [(.int .u64 0), (.int .u64 0), (.int .u64 0), (.int .u64 0), (.int .u64 0), (.int .u64 0), (.int .u64 0), (.string ⟨#[]⟩), (.bool false), (.bool false)] [(0, 1), (8, 1), (7, 1)]) [.const (.int .u64 1), .const (.bool true), .const (.string ⟨#[97]⟩)], .a 225 (.bld [(.int .u64 0), (.int .u64 0), (.int .u64 0), (.int .u64 0), (.int .u64 0), (.int .u64 0), (.int .u64 0), (.string ⟨#[]⟩), (.bool false), (.bool false)] [(0, 1), (8, 1), (7, 1)]) [.const (.int .u64 2), .const (.bool true), .const (.string ⟨#[98]⟩)], .w 226 (.bsl 70 10) 224 225, .a 227 (.ex (.bslk 63)) [.tmp 211, .tmp 214, .tmp 216, .tmp 218, .tmp 221, .tmp 223, .tmp 226], .m 12 227] false keep11)
 (.seq (.seq (.reg [.a 13 .mov [ci 0]] false keep11)
 (.block 8 (.loop (.seq (.seq (.reg [.m 228 13, .m 229 12, .u 230 .len 229, .w 231 (.bin .lss) 228 230] false keep11)
 (.cond (.tmp 231) (.skip) (.exit 8)))
 (.seq (.block 9 (.seq (.reg (
  .m 234 12 :: .m 235 13 :: .w 236 (.ixa 63 1) 234 235 :: .u 237 (.load none) 236 :: .a 238 (.call 7) [.tmp 237, .const (.int .u64 2)] :: .u 239 .not 238 :: .m 240 239 :: .mg 241 12 240 false :: .mg 242 13 240 false :: .bw 243 (.ixa 63 1) 241 242 240 false :: .bu 244 (.load none) 243 240 false :: .b 245 (.bld [(.int .u64 0), (.int .u64 0), (.int .u64 0), (.int .u64 0), (.int .u64 0), (.int .u64 0), (.int .u64 0), (.string ⟨#[]⟩), (.bool false), (.bool false)] [(0, 1)]) [.const (.int .u64 9)] 240 false :: .b 246 (.bsl 9 1) [.const (.string ⟨#[97]⟩)] 240 false :: .b 247 (.call 9) [.tmp 244, .tmp 245, .const (.slice none 0 0), .tmp 246] 240 false :: .bu 248 .not 247 240 false :: .po 249 240 248 :: .m 250 249 :: .mg 251 12 250 false :: .mg 252 13 250 false :: .bw 253 (.ixa 63 1) 251 252 250 false :: .bu 254 (.load none) 253 250 false :: .b 255 (.bsl 5 1) [.const (.int .u8 1), .const (.int .u8 1), .const (.int .u8 1), .const (.int .u8 97), .const (.int .u8 0)] 250 false :: .bw 256 (.call 10) 254 255 250 false :: .bu 257 .not 256 250 false :: .po 258 250 257 :: .m 259 258 :: .mg 260 12 259 false :: .mg 261 13 259 false :: .bw 262 (.ixa 63 1) 260 261 259 false :: .bu 263 (.load none) 262 259 false :: .b 264 (.bsl 5 1) [] 259 false :: .bu 265 (.bsl 54 1) 264 259 false :: .bw 266 (.call 71) 263 265 259 false :: .bu 267 .not 266 259 false :: .po 268 259 267 :: []) false keep11)
 (.cond (.tmp 268) (.seq (.reg [.a 0 .mov [.const (.bool false)]] false keep11)
 (.ret)) (.skip))))
 (.reg [.m 232 13, .c 233 (.bin .add) 232 1, .m 13 233] false keep11))))))
 (.seq (.reg [.a 270 (.call 69) [], .a 271 (.bsl 9 1) [.const (.string ⟨#[97]⟩), .const (.string ⟨#[98]⟩), .const (.string ⟨#[99]⟩), .const (.string ⟨#[100]⟩)], .w 272 (.call 60) 270 271, .m 269 272, .u 273 (.ext 0) 269, .u 274 (.ext 1) 269, .m 14 273, .m 15 274] false keep11)
 (.seq (.seq (.reg [.a 16 .mov [ci 0]] false keep11)
 (.block 10 (.loop (.seq (.seq (.reg [.m 275 16, .m 276 14, .u 277 .len 276, .w 278 (.bin .lss) 275 277] false keep11)
 (.cond (.tmp 278) (.skip) (.exit 10)))
 (.seq (.block 11 (.seq (.reg [.m 282 14, .m 283 14, .m 284 16, .w 285 (.ixa 70 10) 283 284, .u 286 (.fad 0) 285, .u 287 (.load none) 286, .w 288 (.call 47) 282 287, .m 281 288, .u 289 (.ext 0) 281, .u 290 (.ext 1) 281, .m 17 289, .m 18 290] false keep11)
 (.seq (.reg [.m 291 18, .c 292 (.bin .neq) 291 0, .m 293 292, .mg 294 17 293 false, .bu 295 .len 294 293 false, .bc 296 (.bin .neq) 295 1 293 false, .po 297 293 296] false keep11)
 (.cond (.tmp 297) (.seq (.reg [.a 0 .mov [.const (.bool false)]] false keep11)
 (.ret)) (.skip)))))
 (.reg [.m 279 16, .c 280 (.bin .add) 279 1, .m 16 280] false keep11))))))
 (.seq (.reg [.m 298 15, .c 299 (.bin .eql) 298 0, .m 300 299, .mg 301 14 300 true, .bu 302 .len 301 300 true, .bc 303 (.bin .eql) 302 4 300 true, .pa 304 300 303, .m 305 304, .mg 306 14 305 true, .b 307 (.bsl 5 1) [.const (.int .u8 255), .const (.int .u8 255), .const (.int .u8 255), .const (.int .u8 255), .const (.int .u8 255), .const (.int .u8 255), .const (.int .u8 255), .const (.int .u8 255), .const (.int .u8 255), .const (.int .u8 1), .const (.int .u8 1), .const (.int .u8 0)] 305 true, .bw 308 (.call 10) 306 307 305 true, .pa 309 305 308, .m 310 309, .b 311 (.call 7) [.const (.slice none 0 0), .const (.int .u64 0)] 310 true, .pa 312 310 311, .m 313 312, .b 314 (.call 71) [.const (.slice none 0 0), .const (.slice none 0 0)] 313 true, .pa 315 313 314, .m 316 315, .b 317 (.call 8) [.const (.slice none 0 0), .const (.slice none 0 0), .const (.slice none 0 0)] 316 true, .pa 318 316 317, .m 319 318, .b 320 (.call 41) [] 319 true, .pa 321 319 320, .m 0 321] false keep11)
 (.ret)))))))))
theorem fn11 : compFn Try.prog 11 keep11 = some ⟨322, 0, [(0, none)], body11⟩ := by kernel_rfl
def body68 : AC :=
 .seq (.reg [.a 2 (.nilS 5) []] false [0, 2, 3])
 (.seq (.reg [.a 3 (.nilS 5) []] false [0, 2, 3])
 (.seq (.reg [.m 4 3, .m 5 0, .w 6 (.app 5 1 1) 4 5, .m 2 6] false [0, 2, 3])
 (.ret)))
def keep68 : List Nat := [0, 2, 3]
theorem fn68 : compFn Try.prog 68 keep68 = some ⟨7, 1, [(2, none)], body68⟩ := by kernel_rfl
abbrev keep71 : List Nat := [0, 1, 4, 5, 6, 7, 8, 9, 17, 22, 30]
def body71 : AC :=
 .seq (.reg [.a 4 .mov [.const (.bool false)]] false keep71)
 (.seq (.seq (.reg [.m 10 0, .u 11 (.call 40) 10, .u 12 .not 11, .m 13 12, .mg 14 1 13 false, .bu 15 .len 14 13 false, .bc 16 (.bin .gtr) 15 12 13 false, .po 17 13 16] false keep71)
 (.cond (.tmp 17) (.seq (.reg [.a 18 (.call 41) [], .m 4 18] false keep71)
 (.ret)) (.skip)))
 (.seq (.seq (.reg [.a 5 .mov [ci 0]] false keep71)
 (.block 0 (.loop (.seq (.seq (.reg [.m 19 5, .m 20 1, .u 21 .len 20, .w 22 (.bin .lss) 19 21] false keep71)
 (.cond (.tmp 22) (.skip) (.exit 0)))
 (.seq (.block 1 (.seq (.reg [.m 25 1, .m 26 5, .w 27 (.ixa 54 1) 25 26, .u 28 (.load none) 27, .u 29 .len 28, .c 30 (.bin .gtr) 29 100] false keep71)
 (.cond (.tmp 30) (.seq (.reg [.a 31 (.call 41) [], .m 4 31] false keep71)
 (.ret)) (.skip))))
 (.reg [.m 23 5, .c 24 (.bin .add) 23 1, .m 5 24] false keep71))))))
 (.seq (.reg [.m 33 0, .m 34 1, .w 35 (.call 111) 33 34, .m 32 35, .u 36 (.ext 0) 32, .u 37 (.ext 1) 32, .m 6 36, .m 7 37] false keep71)
 (.seq (.reg [.m 39 0, .u 40 (.call 42) 39, .m 41 1, .w 42 (.call 128) 40 41, .m 38 42, .u 43 (.ext 0) 38, .u 44 (.ext 1) 38, .m 8 43, .m 9 44] false keep71)
 (.seq (.reg [.m 45 6, .m 46 8, .w 47 (.bin .eql) 45 46, .m 48 47, .mg 49 7 48 true, .mg 50 9 48 true, .bw 51 (.bin .eql) 49 50 48 true, .pa 52 48 51, .m 53 52, .b 54 (.call 41) [] 53 true, .pa 55 53 54, .m 4 55] false keep71)
 (.ret))))))
theorem fn71 : compFn Try.prog 71 keep71 = some ⟨56, 2, [(4, none)], body71⟩ := by kernel_rfl
abbrev keep128 : List Nat := [0, 1, 4, 5, 6, 7, 8, 9, 10, 11, 12, 22, 26, 33, 63, 65, 80, 89]
def body128 : AC :=
 .seq (.reg [.a 4 .mov [.const (.string ⟨#[]⟩)], .a 5 .mov [ci 0]] false keep128)
 (.seq (.seq (.reg [.m 13 0, .u 14 .len 13, .c 15 (.bin .eql) 14 0, .m 16 15, .mg 17 0 16 false, .bu 18 .len 17 16 false, .mg 19 1 16 false, .bu 20 .len 19 16 false, .bw 21 (.bin .neq) 18 20 16 false, .po 22 16 21] false keep128)
 (.cond (.tmp 22) (.seq (.reg [.a 4 .mov [.const (.string ⟨#[]⟩)], .a 5 .mov [ci 2]] false keep128)
 (.ret)) (.skip)))
 (.seq (.reg [.a 6 .mov [.const (.string ⟨#[]⟩)]] false keep128)
 (.seq (.seq (.reg [.a 7 .mov [ci 0]] false keep128)
 (.block 0 (.loop (.seq (.seq (.reg [.m 23 7, .m 24 0, .u 25 .len 24, .w 26 (.bin .lss) 23 25] false keep128)
 (.cond (.tmp 26) (.skip) (.exit 0)))
 (.seq (.block 1 (.seq (.seq (.reg [.m 29 0, .m 30 7, .w 31 (.ixa 75 10) 29 30, .u 32 (.fad 8) 31, .u 33 (.load none) 32] false keep128)
 (.cond (.tmp 33) (.seq (.reg [.m 34 0, .m 35 7, .w 36 (.ixa 75 10) 34 35, .u 37 (.fad 7) 36, .u 38 (.load none) 37, .m 6 38] false keep128)
 (.exit 1)) (.skip)))
 (.seq (.reg [.m 39 1, .m 40 7, .w 41 (.ixa 54 1) 39 40, .u 42 (.load none) 41, .u 43 (.call 163) 42, .a 8 (.alloc [(.int .u64 0), (.int .u64 0)]) [], .s (.store (some 2)) [.tmp 8, .tmp 43]] false keep128)
 (.seq (.seq (.reg [.u 44 (.fad 0) 8, .u 45 (.load none) 44, .m 46 0, .m 47 7, .w 48 (.ixa 75 10) 46 47, .u 49 (.fad 5) 48, .u 50 (.fad 0) 49, .u 51 (.load none) 50, .w 52 (.bin .neq) 45 51, .m 53 52, .bu 54 (.fad 1) 8 53 false, .bu 55 (.load none) 54 53 false, .mg 56 0 53 false, .mg 57 7 53 false, .bw 58 (.ixa 75 10) 56 57 53 false, .bu 59 (.fad 5) 58 53 false, .bu 60 (.fad 1) 59 53 false, .bu 61 (.load none) 60 53 false, .bw 62 (.bin .neq) 55 61 53 false, .po 63 53 62] true keep128)
 (.cond (.tmp 63) (.seq (.reg [.a 4 .mov [.const (.string ⟨#[]⟩)], .a 5 .mov [ci 110]] false keep128)
 (.ret)) (.skip)))
 (.seq (.seq (.reg [.m 64 7, .c 65 (.bin .eql) 64 0] false keep128)
 (.cond (.tmp 65) (.seq (.reg [.m 66 1, .m 67 7, .w 68 (.ixa 54 1) 66 67, .u 69 (.load none) 68, .u 70 .btoS 69, .m 6 70] false keep128)
 (.exit 1)) (.skip)))
 (.seq (.reg [.m 72 1, .m 73 7, .w 74 (.ixa 54 1) 72 73, .u 75 (.load none) 74, .u 76 (.call 164) 75, .m 71 76, .u 77 (.ext 0) 71, .u 78 (.ext 1) 71, .m 9 77, .m 10 78] false keep128)
 (.seq (.seq (.reg [.m 79 10, .c 80 (.bin .neq) 79 0] false keep128)
 (.cond (.tmp 80) (.seq (.reg [.m 81 10, .a 4 .mov [.const (.string ⟨#[]⟩)], .m 5 81] false keep128)
 (.ret)) (.skip)))
 (.seq (.reg [.m 83 6, .m 84 9, .w 85 (.call 165) 83 84, .m 82 85, .u 86 (.ext 0) 82, .u 87 (.ext 1) 82, .m 11 86, .m 12 87] false keep128)
 (.seq (.seq (.reg [.m 88 12, .c 89 (.bin .neq) 88 0] false keep128)
 (.cond (.tmp 89) (.seq (.reg [.m 90 12, .a 4 .mov [.const (.string ⟨#[]⟩)], .m 5 90] false keep128)
 (.ret)) (.skip)))
 (.reg [.m 91 11, .m 6 91] false keep128))))))))))
 (.reg [.m 27 7, .c 28 (.bin .add) 27 1, .m 7 28] false keep128))))))
 (.seq (.reg [.m 92 6, .m 4 92, .a 5 .mov [ci 0]] false keep128)
 (.ret)))))
theorem fn128 : compFn Try.prog 128 keep128 = some ⟨93, 2, [(4, none), (5, none)], body128⟩ := by kernel_rfl
abbrev keep7 : List Nat := [0, 1, 4, 5, 6, 7, 8, 9, 10, 11, 12, 13, 14, 15, 16, 17, 18, 19, 20, 23, 107, 111, 121]
def body7 : AC :=
 .seq (.reg [.a 4 .mov [.const (.bool false)]] false keep7)
 (.seq (.seq (.reg [.m 21 0, .u 22 (.call 40) 21, .u 23 .not 22] false keep7)
 (.cond (.tmp 23) (.seq (.reg [.a 24 (.call 41) [], .m 4 24] false keep7)
 (.ret)) (.skip)))
 (.seq (.reg [.m 25 0, .u 26 (.call 42) 25, .m 5 26] false keep7)
 (.seq (.reg [.m 28 0, .m 29 1, .w 30 (.call 43) 28 29, .m 27 30, .u 31 (.ext 0) 27, .u 32 (.ext 1) 27, .a 6 (.alloc [(.int .u64 0), (.int .u64 0), (.int .u64 0), (.int .u64 0), (.int .u64 0), (.int .u64 0), (.int .u64 0), (.string ⟨#[]⟩), (.bool false), (.bool false)]) [], .s (.store (some 10)) [.tmp 6, .tmp 31], .m 7 32] false keep7)
 (.seq (.reg [.m 34 5, .m 35 1, .w 36 (.call 44) 34 35, .m 33 36, .u 37 (.ext 0) 33, .u 38 (.ext 1) 33, .a 8 (.alloc [(.int .u64 0), (.int .u64 0), (.int .u64 0), (.int .u64 0), (.int .u64 0), (.int .u64 0), (.int .u64 0), (.string ⟨#[]⟩), (.bool false), (.bool false)]) [], .s (.store (some 10)) [.tmp 8, .tmp 37], .m 9 38] false keep7)
 (.seq (.reg [.m 40 0, .u 41 (.call 45) 40, .m 39 41, .u 42 (.ext 0) 39, .u 43 (.ext 1) 39, .a 10 (.alloc [(.int .u64 0), (.int .u64 0), (.int .u64 0), (.int .u64 0), (.int .u64 0), (.int .u64 0), (.int .u64 0), (.string ⟨#[]⟩), (.bool false), (.bool false)]) [], .s (.store (some 10)) [.tmp 10, .tmp 42], .m 11 43] false keep7)
 (.seq (.reg [.m 45 5, .u 46 (.call 46) 45, .m 44 46, .u 47 (.ext 0) 44, .u 48 (.ext 1) 44, .a 12 (.alloc [(.int .u64 0), (.int .u64 0), (.int .u64 0), (.int .u64 0), (.int .u64 0), (.int .u64 0), (.int .u64 0), (.string ⟨#[]⟩), (.bool false), (.bool false)]) [], .s (.store (some 10)) [.tmp 12, .tmp 47], .m 13 48] false keep7)
 (.seq (.reg [.m 50 0, .m 51 1, .w 52 (.call 47) 50 51, .m 49 52, .u 53 (.ext 0) 49, .u 54 (.ext 1) 49, .m 14 53, .m 15 54] false keep7)
 (.seq (.reg [.m 56 5, .m 57 1, .w 58 (.call 48) 56 57, .m 55 58, .u 59 (.ext 0) 55, .u 60 (.ext 1) 55, .m 16 59, .m 17 60] false keep7)
 (.seq (.reg [.m 61 0, .u 62 (.call 49) 61, .m 18 62] false keep7)
 (.seq (.seq (.reg (
 .u 63 (.load (some 10)) 6 :: .u 64 (.call 50) 63 :: ⟨some 65, (.load (some 10)), [.tmp 8], none, [64], none⟩ :: .a 66 (.eqs true [9, 9, 9, 9, 9, 9, 9, 1, 0, 0]) [.tmp 64, .tmp 65] :: .m 67 66 :: .mg 68 7 67 false :: .mg 69 9 67 false :: .bw 70 (.beq true) 68 69 67 false :: .po 71 67 70 :: .m 72 71 :: .bu 73 (.load (some 10)) 10 72 false :: .bu 74 (.call 50) 73 72 false :: ⟨some 75, (.load (some 10)), [.tmp 12], some (72, false), [74], none⟩ :: .b 76 (.eqs true [9, 9, 9, 9, 9, 9, 9, 1, 0, 0]) [.tmp 74, .tmp 75] 72 false :: .po 77 72 76 :: .m 78 77 :: .mg 79 11 78 false :: .mg 80 13 78 false :: .bw 81 (.beq true) 79 80 78 false :: .po 82 78 81 :: .m 83 82 :: .mg 84 14 83 false :: .mg 85 16 83 false :: .bw 86 (.call 51) 84 85 83 false :: .bu 87 .not 86 83 false :: .po 88 83 87 :: .m 89 88 :: .mg 90 15 89 false :: .mg 91 17 89 false :: .bw 92 (.bin .neq) 90 91 89 false :: .po 93 89 92 :: .m 94 93 :: .mg 95 18 94 false :: .mg 96 5 94 false :: .bu 97 (.call 52) 96 94 false :: .bw 98 (.call 51) 95 97 94 false :: .bu 99 .not 98 94 false :: .po 100 94 99 :: .m 101 100 :: .mg 102 0 101 false :: .bu 103 (.call 53) 102 101 false :: .mg 104 5 101 false :: .bu 105 (.call 54) 104 101 false :: .bw 106 (.beq true) 103 105 101 false :: .po 107 101 106 :: []) true keep7)
 (.cond (.tmp 107) (.seq (.reg [.a 4 .mov [.const (.bool false)]] false keep7)
 (.ret)) (.skip)))
 (.seq (.seq (.reg [.a 19 .mov [ci 0]] false keep7)
 (.block 0 (.loop (.seq (.seq (.reg [.m 108 19, .m 109 18, .u 110 .len 109, .w 111 (.bin .lss) 108 110] false keep7)
 (.cond (.tmp 111) (.skip) (.exit 0)))
 (.seq (.block 1 (.reg [.m 114 18, .m 115 19, .a 116 (.bld [(.int .u64 0), (.int .u64 0), (.int .u64 0), (.int .u64 0), (.int .u64 0), (.int .u64 0), (.int .u64 0), (.string ⟨#[]⟩), (.bool false), (.bool false)] []) [], .w 117 (.ixa 70 10) 114 115, .s (.store (some 10)) [.tmp 117, .tmp 116]] false keep7))
 (.reg [.m 112 19, .c 113 (.bin .add) 112 1, .m 19 113] false keep7))))))
 (.seq (.seq (.reg [.a 20 .mov [ci 0]] false keep7)
 (.block 2 (.loop (.seq (.seq (.reg [.m 118 20, .m 119 14, .u 120 .len 119, .w 121 (.bin .lss) 118 120] false keep7)
 (.cond (.tmp 121) (.skip) (.exit 2)))
 (.seq (.block 3 (.reg [.m 124 14, .m 125 20, .a 126 (.bld [(.int .u64 0), (.int .u64 0), (.int .u64 0), (.int .u64 0), (.int .u64 0), (.int .u64 0), (.int .u64 0), (.string ⟨#[]⟩), (.bool false), (.bool false)] []) [], .w 127 (.ixa 70 10) 124 125, .s (.store (some 10)) [.tmp 127, .tmp 126]] false keep7))
 (.reg [.m 122 20, .c 123 (.bin .add) 122 1, .m 20 123] false keep7))))))
 (.seq (.reg [.m 128 0, .m 129 5, .w 130 (.call 51) 128 129, .m 131 130, .b 132 (.call 41) [] 131 true, .pa 133 131 132, .m 4 133] false keep7)
 (.ret))))))))))))))
theorem fn7 : compFn Try.prog 7 keep7 = some ⟨134, 2, [(4, none)], body7⟩ := by kernel_rfl
abbrev keep8 : List Nat := [0, 1, 2, 6, 7, 8, 9, 10, 11, 12, 13, 14, 16, 18, 20, 21, 22, 23, 24, 25, 26, 44, 73, 91, 95, 132, 134, 176, 180, 217]
def body8 : AC :=
 .seq (.reg [.a 6 .mov [.const (.bool false)]] false keep8)
 (.seq (.seq (.reg [.m 27 0, .u 28 (.call 40) 27, .u 29 .not 28, .m 30 29, .mg 31 1 30 false, .bu 32 .len 31 30 false, .bc 33 (.bin .gtr) 32 20 30 false, .po 34 30 33, .m 35 34, .mg 36 2 35 false, .bu 37 .len 36 35 false, .bc 38 (.bin .gtr) 37 20 35 false, .po 39 35 38, .m 40 39, .mg 41 0 40 false, .bu 42 (.call 53) 41 40 false, .bu 43 .not 42 40 false, .po 44 40 43] false keep8)
 (.cond (.tmp 44) (.seq (.reg [.a 45 (.call 41) [], .m 6 45] false keep8)
 (.ret)) (.skip)))
 (.seq (.reg [.m 46 0, .m 47 1, .w 48 (.call 55) 46 47, .m 7 48] false keep8)
 (.seq (.reg [.m 49 7, .m 50 2, .w 51 (.call 55) 49 50, .m 8 51] false keep8)
 (.seq (.seq (.reg [.m 52 7, .u 53 (.call 53) 52, .u 54 .not 53, .m 55 54, .mg 56 8 55 false, .bu 57 (.call 53) 56 55 false, .bu 58 .not 57 55 false, .po 59 55 58, .m 60 59, .mg 61 8 60 false, .bu 62 .len 61 60 false, .mg 63 7 60 false, .bu 64 .len 63 60 false, .bw 65 (.bin .gtr) 62 64 60 false, .po 66 60 65, .m 67 66, .mg 68 7 67 false, .bu 69 .len 68 67 false, .mg 70 0 67 false, .bu 71 .len 70 67 false, .bw 72 (.bin .gtr) 69 71 67 false, .po 73 67 72] false keep8)
 (.cond (.tmp 73) (.seq (.reg [.a 6 .mov [.const (.bool false)]] false keep8)
 (.ret)) (.skip)))
 (.seq (.reg [.m 75 0, .u 76 (.call 45) 75, .m 74 76, .u 77 (.ext 0) 74, .u 78 (.ext 1) 74, .a 9 (.alloc [(.int .u64 0), (.int .u64 0), (.int .u64 0), (.int .u64 0), (.int .u64 0), (.int .u64 0), (.int .u64 0), (.string ⟨#[]⟩), (.bool false), (.bool false)]) [], .s (.store (some 10)) [.tmp 9, .tmp 77], .m 10 78] false keep8)
 (.seq (.reg [.m 80 7, .u 81 (.call 45) 80, .m 79 81, .u 82 (.ext 0) 79, .u 83 (.ext 1) 79, .a 11 (.alloc [(.int .u64 0), (.int .u64 0), (.int .u64 0), (.int .u64 0), (.int .u64 0), (.int .u64 0), (.int .u64 0), (.string ⟨#[]⟩), (.bool false), (.bool false)]) [], .s (.store (some 10)) [.tmp 11, .tmp 82], .m 12 83] false keep8)
 (.seq (.seq (.reg [.m 84 10, .m 85 12, .w 86 (.beq true) 84 85, .m 87 86, .bu 88 (.load (some 10)) 9 87 false, .bu 89 (.load (some 10)) 11 87 false, .b 90 (.eqs true [9, 9, 9, 9, 9, 9, 9, 1, 0, 0]) [.tmp 88, .tmp 89] 87 false, .po 91 87 90] false keep8)
 (.cond (.tmp 91) (.seq (.reg [.a 6 .mov [.const (.bool false)]] false keep8)
 (.ret)) (.skip)))
 (.seq (.seq (.reg [.a 13 .mov [ci 0]] false keep8)
 (.block 0 (.loop (.seq (.seq (.reg [.m 92 13, .m 93 0, .u 94 .len 93, .w 95 (.bin .lss) 92 94] false keep8)
 (.cond (.tmp 95) (.skip) (.exit 0)))
 (.seq (.block 1 (.seq (.reg [.m 98 0, .m 99 13, .w 100 (.ixa 70 10) 98 99, .u 101 (.fad 0) 100, .u 102 (.load none) 101, .m 14 102] false keep8)
 (.seq (.reg [.m 104 0, .m 105 14, .w 106 (.call 43) 104 105, .m 103 106, .u 107 (.ext 0) 103, .u 108 (.ext 1) 103, .a 15 (.alloc [(.int .u64 0), (.int .u64 0), (.int .u64 0), (.int .u64 0), (.int .u64 0), (.int .u64 0), (.int .u64 0), (.string ⟨#[]⟩), (.bool false), (.bool false)]) [], .s (.store (some 10)) [.tmp 15, .tmp 107], .m 16 108] false keep8)
 (.seq (.reg [.m 110 7, .m 111 14, .w 112 (.call 43) 110 111, .m 109 112, .u 113 (.ext 0) 109, .u 114 (.ext 1) 109, .a 17 (.alloc [(.int .u64 0), (.int .u64 0), (.int .u64 0), (.int .u64 0), (.int .u64 0), (.int .u64 0), (.int .u64 0), (.string ⟨#[]⟩), (.bool false), (.bool false)]) [], .s (.store (some 10)) [.tmp 17, .tmp 113], .m 18 114] false keep8)
 (.seq (.reg [.m 116 8, .m 117 14, .w 118 (.call 43) 116 117, .m 115 118, .u 119 (.ext 0) 115, .u 120 (.ext 1) 115, .a 19 (.alloc [(.int .u64 0), (.int .u64 0), (.int .u64 0), (.int .u64 0), (.int .u64 0), (.int .u64 0), (.int .u64 0), (.string ⟨#[]⟩), (.bool false), (.bool false)]) [], .s (.store (some 10)) [.tmp 19, .tmp 119], .m 20 120] false keep8)
 (.seq (.seq (.reg [.m 121 16, .u 122 .not 121, .m 123 122, .mg 124 18 123 true, .pa 125 123 124, .m 126 125, .mg 127 18 126 false, .bu 128 .not 127 126 false, .mg 129 128 126 false, .mg 130 20 129 true, .b 131 .pick [.tmp 129, .tmp 130, .const (.bool false)] 126 false, .po 132 126 131] false keep8)
 (.cond (.tmp 132) (.seq (.reg [.a 6 .mov [.const (.bool false)]] false keep8)
 (.ret)) (.skip)))
 (.seq (.seq (.reg [.m 133 18, .u 134 .not 133] false keep8)
 (.cond (.tmp 134) (.exit 1) (.skip)))
 (.seq (.reg [.m 136 0, .m 137 14, .w 138 (.call 47) 136 137, .m 135 138, .u 139 (.ext 0) 135, .u 140 (.ext 1) 135, .m 21 139, .m 22 140] false keep8)
 (.seq (.reg [.m 142 7, .m 143 14, .w 144 (.call 47) 142 143, .m 141 144, .u 145 (.ext 0) 141, .u 146 (.ext 1) 141, .m 23 145, .m 24 146] false keep8)
 (.seq (.seq (.reg [.m 147 22, .c 148 (.bin .neq) 147 0, .m 149 148, .mg 150 24 149 false, .bc 151 (.bin .neq) 150 0 149 false, .po 152 149 151, .m 153 152, .mg 154 21 153 false, .bu 155 (.call 57) 154 153 false, .mg 156 23 153 false, .bu 157 (.call 57) 156 153 false, .bw 158 (.call 56) 155 157 153 false, .bu 159 .not 158 153 false, .po 160 153 159, .m 161 160, .mg 162 21 161 false, .bu 163 .len 162 161 false, .bc 164 (.bin .eql) 163 0 161 false, .po 165 161 164, .m 166 165, .mg 167 21 166 false, .mg 168 21 166 false, .bu 169 .len 168 166 false, .bc 170 (.bin .sub) 169 1 166 false, .bw 171 (.ixa 70 10) 167 170 166 false, .bu 172 (.fad 0) 171 166 false, .bu 173 (.load none) 172 166 false, .mg 174 14 166 false, .bw 175 (.bin .neq) 173 174 166 false, .po 176 166 175] false keep8)
 (.cond (.tmp 176) (.seq (.reg [.a 6 .mov [.const (.bool false)]] false keep8)
 (.ret)) (.skip)))
 (.seq (.reg [.a 25 .mov [ci 0]] false keep8)
 (.block 2 (.loop (.seq (.seq (.reg [.m 177 25, .m 178 21, .u 179 .len 178, .w 180 (.bin .lss) 177 179] false keep8)
 (.cond (.tmp 180) (.skip) (.exit 2)))
 (.seq (.block 3 (.seq (.reg [.m 183 21, .m 184 25, .w 185 (.ixa 70 10) 183 184, .u 186 (.fad 8) 185, .u 187 (.load none) 186, .m 188 187, .mg 189 21 188 false, .mg 190 25 188 false, .bw 191 (.ixa 70 10) 189 190 188 false, .bu 192 (.fad 1) 191 188 false, .bu 193 (.load none) 192 188 false, .b 194 (.bin .eql) [.tmp 193, .const (.int .u64 0)] 188 false, .po 195 188 194, .m 26 195] false keep8)
 (.seq (.reg [.m 196 25, .c 197 (.bin .eql) 196 0, .m 198 26, .w 199 (.beq true) 197 198, .m 200 199, .mg 201 25 200 false, .bc 202 (.bin .gtr) 201 0 200 false, .mg 203 202 200 false, .mg 204 21 203 true, .mg 205 25 203 true, .bw 206 (.ixa 70 10) 204 205 203 true, .bu 207 (.fad 1) 206 203 true, .bu 208 (.load none) 207 203 true, .mg 209 21 203 true, .mg 210 25 203 true, .bc 211 (.bin .sub) 210 1 203 true, .bw 212 (.ixa 70 10) 209 211 203 true, .bu 213 (.fad 0) 212 203 true, .bu 214 (.load none) 213 203 true, .bw 215 (.bin .neq) 208 214 203 true, .b 216 .pick [.tmp 203, .tmp 215, .const (.bool false)] 200 false, .po 217 200 216] true keep8)
 (.cond (.tmp 217) (.seq (.reg [.a 6 .mov [.const (.bool false)]] false keep8)
 (.ret)) (.skip)))))
 (.reg [.m 181 25, .c 182 (.bin .add) 181 1, .m 25 182] false keep8))))))))))))))))
 (.reg [.m 96 13, .c 97 (.bin .add) 96 1, .m 13 97] false keep8))))))
 (.seq (.reg [.a 218 (.call 41) [], .m 6 218] false keep8)
 (.ret))))))))))
theorem fn8 : compFn Try.prog 8 keep8 = some ⟨219, 3, [(6, none)], body8⟩ := by kernel_rfl
abbrev keep9 : List Nat := [0, 1, 2, 3, 5, 8, 9, 10, 11, 12, 13, 14, 15, 16, 17, 18, 19, 20, 21, 22, 41, 46, 54, 113, 117, 127, 137]
def body9 : AC :=
 .seq (.reg [.u 5 .box 1, .a 8 .mov [.const (.bool false)]] false keep9)
 (.seq (.seq (.reg [.m 23 0, .u 24 (.call 40) 23, .u 25 .not 24, .m 26 25, .bu 27 (.fad 7) 5 26 false, .bu 28 (.load none) 27 26 false, .bu 29 .slen 28 26 false, .bc 30 (.bin .gtr) 29 100 26 false, .po 31 26 30, .m 32 31, .mg 33 2 32 false, .bu 34 .len 33 32 false, .bc 35 (.bin .gtr) 34 20 32 false, .po 36 32 35, .m 37 36, .mg 38 3 37 false, .bu 39 .len 38 37 false, .bc 40 (.bin .gtr) 39 20 37 false, .po 41 37 40] false keep9)
 (.cond (.tmp 41) (.seq (.reg [.a 42 (.call 41) [], .m 8 42] false keep9)
 (.ret)) (.skip)))
 (.seq (.seq (.reg [.a 9 .mov [ci 0]] false keep9)
 (.block 0 (.loop (.seq (.seq (.reg [.m 43 9, .m 44 3, .u 45 .len 44, .w 46 (.bin .lss) 43 45] false keep9)
 (.cond (.tmp 46) (.skip) (.exit 0)))
 (.seq (.block 1 (.seq (.reg [.m 49 3, .m 50 9, .w 51 (.ixa 9 1) 49 50, .u 52 (.load none) 51, .u 53 .slen 52, .c 54 (.bin .gtr) 53 100] false keep9)
 (.cond (.tmp 54) (.seq (.reg [.a 55 (.call 41) [], .m 8 55] false keep9)
 (.ret)) (.skip))))
 (.reg [.m 47 9, .c 48 (.bin .add) 47 1, .m 9 48] false keep9))))))
 (.seq (.reg [.m 56 0, .u 57 (.call 42) 56, .m 10 57] false keep9)
 (.seq (.reg [.m 59 0, .u 60 (.load (some 10)) 5, .w 61 (.call 58) 59 60, .m 58 61, .u 62 (.ext 0) 58, .u 63 (.ext 1) 58, .m 11 62, .m 12 63] false keep9)
 (.seq (.reg [.m 65 10, .u 66 (.load (some 10)) 5, .u 67 (.call 50) 66, .w 68 (.call 59) 65 67, .m 64 68, .u 69 (.ext 0) 64, .u 70 (.ext 1) 64, .m 13 69, .m 14 70] false keep9)
 (.seq (.reg [.m 72 0, .m 73 3, .w 74 (.call 60) 72 73, .m 71 74, .u 75 (.ext 0) 71, .u 76 (.ext 1) 71, .m 15 75, .m 16 76] false keep9)
 (.seq (.reg [.m 78 10, .m 79 3, .w 80 (.call 61) 78 79, .m 77 80, .u 81 (.ext 0) 77, .u 82 (.ext 1) 77, .m 17 81, .m 18 82] false keep9)
 (.seq (.reg [.m 83 0, .m 84 2, .w 85 (.call 55) 83 84, .m 19 85] false keep9)
 (.seq (.seq (.reg [.m 86 11, .m 87 13, .w 88 (.call 51) 86 87, .u 89 .not 88, .m 90 89, .mg 91 12 90 false, .mg 92 14 90 false, .bw 93 (.bin .neq) 91 92 90 false, .po 94 90 93, .m 95 94, .mg 96 15 95 false, .mg 97 17 95 false, .bw 98 (.call 51) 96 97 95 false, .bu 99 .not 98 95 false, .po 100 95 99, .m 101 100, .mg 102 16 101 false, .mg 103 18 101 false, .bw 104 (.bin .neq) 102 103 101 false, .po 105 101 104, .m 106 105, .mg 107 19 106 false, .mg 108 10 106 false, .mg 109 2 106 false, .bw 110 (.call 62) 108 109 106 false, .bw 111 (.call 51) 107 110 106 false, .bu 112 .not 111 106 false, .po 113 106 112] false keep9)
 (.cond (.tmp 113) (.seq (.reg [.a 8 .mov [.const (.bool false)]] false keep9)
 (.ret)) (.skip)))
 (.seq (.seq (.reg [.a 20 .mov [ci 0]] false keep9)
 (.block 2 (.loop (.seq (.seq (.reg [.m 114 20, .m 115 11, .u 116 .len 115, .w 117 (.bin .lss) 114 116] false keep9)
 (.cond (.tmp 117) (.skip) (.exit 2)))
 (.seq (.block 3 (.reg [.m 120 11, .m 121 20, .a 122 (.bld [(.int .u64 0), (.int .u64 0), (.int .u64 0), (.int .u64 0), (.int .u64 0), (.int .u64 0), (.int .u64 0), (.string ⟨#[]⟩), (.bool false), (.bool false)] []) [], .w 123 (.ixa 70 10) 120 121, .s (.store (some 10)) [.tmp 123, .tmp 122]] false keep9))
 (.reg [.m 118 20, .c 119 (.bin .add) 118 1, .m 20 119] false keep9))))))
 (.seq (.seq (.reg [.a 21 .mov [ci 0]] false keep9)
 (.block 4 (.loop (.seq (.seq (.reg [.m 124 21, .m 125 19, .u 126 .len 125, .w 127 (.bin .lss) 124 126] false keep9)
 (.cond (.tmp 127) (.skip) (.exit 4)))
 (.seq (.block 5 (.reg [.m 130 19, .m 131 21, .a 132 (.bld [(.int .u64 0), (.int .u64 0), (.int .u64 0), (.int .u64 0), (.int .u64 0), (.int .u64 0), (.int .u64 0), (.string ⟨#[]⟩), (.bool false), (.bool false)] []) [], .w 133 (.ixa 70 10) 130 131, .s (.store (some 10)) [.tmp 133, .tmp 132]] false keep9))
 (.reg [.m 128 21, .c 129 (.bin .add) 128 1, .m 21 129] false keep9))))))
 (.seq (.seq (.reg [.a 22 .mov [ci 0]] false keep9)
 (.block 6 (.loop (.seq (.seq (.reg [.m 134 22, .m 135 15, .u 136 .len 135, .w 137 (.bin .lss) 134 136] false keep9)
 (.cond (.tmp 137) (.skip) (.exit 6)))
 (.seq (.block 7 (.reg [.m 140 15, .m 141 22, .a 142 (.bld [(.int .u64 0), (.int .u64 0), (.int .u64 0), (.int .u64 0), (.int .u64 0), (.int .u64 0), (.int .u64 0), (.string ⟨#[]⟩), (.bool false), (.bool false)] []) [], .w 143 (.ixa 70 10) 140 141, .s (.store (some 10)) [.tmp 143, .tmp 142]] false keep9))
 (.reg [.m 138 22, .c 139 (.bin .add) 138 1, .m 22 139] false keep9))))))
 (.seq (.reg [.m 144 0, .m 145 10, .w 146 (.call 51) 144 145, .m 147 146, .b 148 (.call 41) [] 147 true, .pa 149 147 148, .m 8 149] false keep9)
 (.ret))))))))))))))
theorem fn9 : compFn Try.prog 9 keep9 = some ⟨150, 4, [(8, none)], body9⟩ := by kernel_rfl
abbrev keep10 : List Nat := [0, 1, 4, 5, 6, 7, 8, 9, 10, 11, 12, 13, 14, 15, 16, 24, 66, 68, 82, 84, 97]
def body10 : AC :=
 .seq (.reg [.a 4 .mov [.const (.bool false)]] false keep10)
 (.seq (.seq (.reg [.m 17 0, .u 18 (.call 40) 17, .u 19 .not 18, .m 20 19, .mg 21 1 20 false, .bu 22 .len 21 20 false, .bc 23 (.bin .gtr) 22 1000 20 false, .po 24 20 23] false keep10)
 (.cond (.tmp 24) (.seq (.reg [.a 25 (.call 41) [], .m 4 25] false keep10)
 (.ret)) (.skip)))
 (.seq (.reg [.m 27 0, .u 28 (.call 63) 27, .m 26 28, .u 29 (.ext 0) 26, .u 30 (.ext 1) 26, .m 5 29, .m 6 30] false keep10)
 (.seq (.reg [.m 32 0, .u 33 (.call 42) 32, .u 34 (.call 64) 33, .m 31 34, .u 35 (.ext 0) 31, .u 36 (.ext 1) 31, .m 7 35, .m 8 36] false keep10)
 (.seq (.reg [.m 38 1, .u 39 (.call 65) 38, .m 37 39, .u 40 (.ext 0) 37, .u 41 (.ext 1) 37, .m 9 40, .m 10 41] false keep10)
 (.seq (.reg [.m 43 1, .u 44 (.call 66) 43, .m 42 44, .u 45 (.ext 0) 42, .u 46 (.ext 1) 42, .m 11 45, .m 12 46] false keep10)
 (.seq (.seq (.reg [.m 47 5, .m 48 7, .w 49 (.call 39) 47 48, .u 50 .not 49, .m 51 50, .mg 52 6 51 false, .mg 53 8 51 false, .bw 54 (.bin .neq) 52 53 51 false, .po 55 51 54, .m 56 55, .mg 57 9 56 false, .mg 58 11 56 false, .bw 59 (.call 51) 57 58 56 false, .bu 60 .not 59 56 false, .po 61 56 60, .m 62 61, .mg 63 10 62 false, .mg 64 12 62 false, .bw 65 (.bin .neq) 63 64 62 false, .po 66 62 65] false keep10)
 (.cond (.tmp 66) (.seq (.reg [.a 4 .mov [.const (.bool false)]] false keep10)
 (.ret)) (.skip)))
 (.seq (.seq (.reg [.m 67 6, .c 68 (.bin .eql) 67 0] false keep10)
 (.cond (.tmp 68) (.seq (.reg [.m 70 5, .u 71 (.call 65) 70, .m 69 71, .u 72 (.ext 0) 69, .u 73 (.ext 1) 69, .m 13 72, .m 14 73] false keep10)
 (.seq (.reg [.m 74 14, .c 75 (.bin .neq) 74 0, .m 76 75, .mg 77 13 76 false, .mg 78 0 76 false, .bu 79 (.call 42) 78 76 false, .bw 80 (.call 51) 77 79 76 false, .bu 81 .not 80 76 false, .po 82 76 81] false keep10)
 (.cond (.tmp 82) (.seq (.reg [.a 4 .mov [.const (.bool false)]] false keep10)
 (.ret)) (.skip)))) (.skip)))
 (.seq (.seq (.reg [.m 83 10, .c 84 (.bin .eql) 83 0] false keep10)
 (.cond (.tmp 84) (.seq (.reg [.m 86 9, .u 87 (.call 63) 86, .m 85 87, .u 88 (.ext 0) 85, .u 89 (.ext 1) 85, .m 15 88, .m 16 89] false keep10)
 (.seq (.reg [.m 90 16, .c 91 (.bin .neq) 90 0, .m 92 91, .mg 93 15 92 false, .mg 94 1 92 false, .bw 95 (.call 39) 93 94 92 false, .bu 96 .not 95 92 false, .po 97 92 96] false keep10)
 (.cond (.tmp 97) (.seq (.reg [.a 4 .mov [.const (.bool false)]] false keep10)
 (.ret)) (.skip)))) (.skip)))
 (.seq (.reg [.a 98 (.call 41) [], .m 4 98] false keep10)
 (.ret))))))))))
theorem fn10 : compFn Try.prog 10 keep10 = some ⟨99, 2, [(4, none)], body10⟩ := by kernel_rfl
abbrev keep58 : List Nat := [0, 1, 3, 4, 5, 7, 36, 50]
def body58 : AC :=
 .seq (.reg [.u 3 .box 1, .a 4 (.nilS 70) [], .a 5 .mov [ci 0]] false keep58)
 (.seq (.seq (.reg [.m 8 0, ⟨some 9, (.call 53), [.tmp 8], none, [], (some 999999)⟩, .u 10 .not 9, .m 11 10, .bu 12 (.fad 9) 3 11 false, .bu 13 (.load none) 12 11 false, .po 14 11 13, .m 15 14, .bu 16 (.fad 0) 3 15 false, .bu 17 (.load none) 16 15 false, .b 18 (.bin .eql) [.tmp 17, .const (.int .u64 0)] 15 false, .po 19 15 18, .m 20 19, .mg 21 0 20 false, .bu 22 .len 21 20 false, .bc 23 (.bin .gtr) 22 0 20 false, .mg 24 23 20 false, .bu 25 (.fad 0) 3 24 true, .bu 26 (.load none) 25 24 true, .mg 27 0 24 true, .mg 28 0 24 true, .bu 29 .len 28 24 true, .bc 30 (.bin .sub) 29 1 24 true, .bw 31 (.ixa 70 10) 27 30 24 true, .bu 32 (.fad 0) 31 24 true, .bu 33 (.load none) 32 24 true, .bw 34 (.bin .leq) 26 33 24 true, .b 35 .pick [.tmp 24, .tmp 34, .const (.bool false)] 20 false, .po 36 20 35] true keep58)
 (.cond (.tmp 36) (.seq (.reg [.a 4 (.nilS 70) [], .a 5 .mov [ci 2]] false keep58)
 (.ret)) (.skip)))
 (.seq (.seq (.reg [.m 38 0, .u 39 (.load (some 10)) 3, .u 40 (.call 113) 39, .w 41 (.call 43) 38 40, .m 37 41, .u 42 (.ext 0) 37, .u 43 (.ext 1) 37, .a 6 (.alloc [(.int .u64 0), (.int .u64 0), (.int .u64 0), (.int .u64 0), (.int .u64 0), (.int .u64 0), (.int .u64 0), (.string ⟨#[]⟩), (.bool false), (.bool false)]) [], .s (.store (some 10)) [.tmp 6, .tmp 42], .m 7 43] false keep58)
 (.seq (.reg [.u 44 (.load (some 10)) 3, .u 45 (.call 113) 44, .a 46 (.bin .neq) [.tmp 45, .const (.int .u64 0)], .m 47 46, .mg 48 7 47 true, .bu 49 .not 48 47 true, .pa 50 47 49] false keep58)
 (.cond (.tmp 50) (.seq (.reg [.a 4 (.nilS 70) [], .a 5 .mov [ci 150]] false keep58)
 (.ret)) (.skip))))
 (.seq (.reg [.m 51 0, ⟨some 52, (.call 118), [.tmp 51], none, [54], none⟩, ⟨some 53, (.load (some 10)), [.tmp 3], none, [52], none⟩, ⟨some 54, (.bsl 70 10), [.tmp 53], none, [52], none⟩, .w 55 (.app 70 10 80) 52 54, .m 4 55, .a 5 .mov [ci 0]] true keep58)
 (.ret))))
theorem fn58 : compFn Try.prog 58 keep58 = some ⟨56, 2, [(4, none), (5, none)], body58⟩ := by kernel_rfl
abbrev keep59 : List Nat := [0, 1, 3, 4, 5, 6, 8, 9, 21, 25, 35, 38, 47]
def body59 : AC :=
 .seq (.reg [.u 3 .box 1, .a 4 (.nilS 75) [], .a 5 .mov [ci 0]] false keep59)
 (.seq (.seq (.reg [.m 10 0, .u 11 (.call 54) 10, .u 12 .not 11, .m 13 12, .bu 14 (.fad 9) 3 13 false, .bu 15 (.load none) 14 13 false, .po 16 13 15, .m 17 16, .bu 18 (.fad 0) 3 17 false, .bu 19 (.load none) 18 17 false, .b 20 (.bin .eql) [.tmp 19, .const (.int .u64 0)] 17 false, .po 21 17 20] false keep59)
 (.cond (.tmp 21) (.seq (.reg [.a 4 (.nilS 75) [], .a 5 .mov [ci 2]] false keep59)
 (.ret)) (.skip)))
 (.seq (.seq (.reg [.a 6 .mov [ci 0]] false keep59)
 (.block 0 (.loop (.seq (.seq (.reg [.m 22 6, .m 23 0, .u 24 .len 23, .w 25 (.bin .lss) 22 24] false keep59)
 (.cond (.tmp 25) (.skip) (.exit 0)))
 (.seq (.block 1 (.seq (.reg [.m 28 0, .m 29 6, .w 30 (.ixa 75 10) 28 29, .u 31 (.fad 0) 30, .u 32 (.load none) 31, .u 33 (.fad 0) 3, .u 34 (.load none) 33, .w 35 (.bin .geq) 32 34] true keep59)
 (.cond (.tmp 35) (.seq (.reg [.a 4 (.nilS 75) [], .a 5 .mov [ci 2]] false keep59)
 (.ret)) (.skip))))
 (.reg [.m 26 6, .c 27 (.bin .add) 26 1, .m 6 27] false keep59))))))
 (.seq (.seq (.reg [.u 36 (.load (some 10)) 3, .u 37 (.call 116) 36, .a 38 (.bin .gtr) [.tmp 37, .const (.int .u64 0)]] false keep59)
 (.cond (.tmp 38) (.seq (.reg [.m 40 0, .u 41 (.load (some 10)) 3, .u 42 (.call 116) 41, .w 43 (.call 44) 40 42, .m 39 43, .u 44 (.ext 0) 39, .u 45 (.ext 1) 39, .a 7 (.alloc [(.int .u64 0), (.int .u64 0), (.int .u64 0), (.int .u64 0), (.int .u64 0), (.int .u64 0), (.int .u64 0), (.string ⟨#[]⟩), (.bool false), (.bool false)]) [], .s (.store (some 10)) [.tmp 7, .tmp 44], .m 8 45] false keep59)
 (.seq (.reg [.m 46 8, .u 47 .not 46] false keep59)
 (.cond (.tmp 47) (.seq (.reg [.a 4 (.nilS 75) [], .a 5 .mov [ci 150]] false keep59)
 (.ret)) (.skip)))) (.skip)))
 (.seq (.reg [.a 9 (.nilS 75) []] false keep59)
 (.seq (.reg [.m 48 9, .m 49 0, .w 50 (.app 75 10 80) 48 49, .m 9 50] false keep59)
 (.seq (.reg [.m 51 9, .u 52 (.load (some 10)) 3, .u 53 (.bsl 75 10) 52, .w 54 (.app 75 10 80) 51 53, .m 4 54, .a 5 .mov [ci 0]] false keep59)
 (.ret)))))))
theorem fn59 : compFn Try.prog 59 keep59 = some ⟨55, 2, [(4, none), (5, none)], body59⟩ := by kernel_rfl
abbrev keep60 : List Nat := [0, 1, 4, 5, 6, 7, 8, 20, 21, 22, 23, 24]
def body60 : AC :=
 .seq (.reg [.a 4 (.nilS 70) [], .a 5 .mov [ci 0]] false keep60)
 (.seq (.reg [.m 9 0, .u 10 (.call 49) 9, .m 6 10] false keep60)
 (.seq (.seq (.reg [.m 11 0, .u 12 (.call 53) 11, .u 13 .not 12, .m 14 13, .mg 15 1 14 false, .bu 16 .len 15 14 false, .mg 17 6 14 false, .bu 18 .len 17 14 false, .bw 19 (.bin .neq) 16 18 14 false, .po 20 14 19] false keep60)
 (.cond (.tmp 20) (.seq (.reg [.a 4 (.nilS 70) [], .a 5 .mov [ci 2]] false keep60)
 (.ret)) (.skip)))
 (.seq (.seq (.reg [.m 21 6, .u 22 .len 21, .a 23 .mov [ci 0]] false keep60)
 (.block 0 (.loop (.seq (.reg [.w 24 (.bin .lss) 23 22] false keep60)
 (.seq (.cond (.tmp 24) (.skip) (.exit 0))
 (.seq (.block 1 (.seq (.reg [.m 25 23, .w 26 (.ixa 70 10) 21 23, .u 27 (.load (some 10)) 26, .a 8 (.alloc [(.int .u64 0), (.int .u64 0), (.int .u64 0), (.int .u64 0), (.int .u64 0), (.int .u64 0), (.int .u64 0), (.string ⟨#[]⟩), (.bool false), (.bool false)]) [], .m 7 25, .s (.store (some 10)) [.tmp 8, .tmp 27]] false keep60)
 (.reg [.m 28 6, .m 29 7, .u 30 (.fad 0) 8, .u 31 (.load none) 30, .m 32 1, .m 33 7, .w 34 (.ixa 9 1) 32 33, .u 35 (.load none) 34, .w 36 (.call 122) 31 35, .w 37 (.ixa 70 10) 28 29, .s (.store (some 10)) [.tmp 37, .tmp 36]] true keep60)))
 (.reg [.c 38 (.bin .add) 23 1, .m 23 38] false keep60)))))))
 (.seq (.reg [.m 39 6, .m 4 39, .a 5 .mov [ci 0]] false keep60)
 (.ret)))))
theorem fn60 : compFn Try.prog 60 keep60 = some ⟨40, 2, [(4, none), (5, none)], body60⟩ := by kernel_rfl
abbrev keep61 : List Nat := [0, 1, 4, 5, 6, 7, 8, 20, 24]
def body61 : AC :=
 .seq (.reg [.a 4 (.nilS 75) [], .a 5 .mov [ci 0]] false keep61)
 (.seq (.reg [.m 9 0, .u 10 (.call 52) 9, .m 6 10] false keep61)
 (.seq (.seq (.reg [.m 11 0, .u 12 (.call 54) 11, .u 13 .not 12, .m 14 13, .mg 15 6 14 false, .bu 16 .len 15 14 false, .mg 17 1 14 false, .bu 18 .len 17 14 false, .bw 19 (.bin .neq) 16 18 14 false, .po 20 14 19] false keep61)
 (.cond (.tmp 20) (.seq (.reg [.a 4 (.nilS 75) [], .a 5 .mov [ci 2]] false keep61)
 (.ret)) (.skip)))
 (.seq (.reg [.a 7 (.nilS 75) []] false keep61)
 (.seq (.seq (.reg [.a 8 .mov [ci 0]] false keep61)
 (.block 0 (.loop (.seq (.seq (.reg [.m 21 8, .m 22 6, .u 23 .len 22, .w 24 (.bin .lss) 21 23] false keep61)
 (.cond (.tmp 24) (.skip) (.exit 0)))
 (.seq (.block 1 (.reg [.m 27 7, .m 28 6, .m 29 8, .w 30 (.ixa 75 10) 28 29, .u 31 (.fad 0) 30, .u 32 (.load none) 31, .m 33 1, .m 34 8, .w 35 (.ixa 9 1) 33 34, .u 36 (.load none) 35, .a 37 (.bld [(.int .u64 0), (.int .u64 0), (.int .u64 0), (.int .u64 0), (.int .u64 0), (.int .u64 0), (.int .u64 0), (.string ⟨#[]⟩), (.bool false), (.bool false)] [(0, 1), (7, 1), (8, 1)]) [.tmp 32, .tmp 36, .const (.bool true)], .u 38 (.bsl 75 10) 37, .w 39 (.app 75 10 80) 27 38, .m 7 39] true keep61))
 (.reg [.m 25 8, .c 26 (.bin .add) 25 1, .m 8 26] false keep61))))))
 (.seq (.reg [.m 40 7, .m 4 40, .a 5 .mov [ci 0]] false keep61)
 (.ret))))))
theorem fn61 : compFn Try.prog 61 keep61 = some ⟨41, 2, [(4, none), (5, none)], body61⟩ := by kernel_rfl
end Go.Proofs.Ytfpmjcdcpicmaaa.Ab
