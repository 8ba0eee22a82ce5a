import Derived.Test.YtfpmjcdcpicmaaaAb22
import Derived.Test.YtfpmjcdcpicmaaaChecked
namespace Go.Proofs.Ytfpmjcdcpicmaaa.Ab
open Go Go.RowKit
set_option maxRecDepth 100000
abbrev keep103 : List Nat := [0, 2, 3, 5]
def body103 : AC :=
 .seq (.reg [.a 2 (.nilS 5) []] false keep103)
 (.seq (.reg [.a 3 (.nilS 5) []] false keep103)
 (.seq (.block 0 (.loop (.seq (.seq (.reg [.m 4 0, .a 5 (.bin .geq) [.tmp 4, .const (.int .u64 128)]] false keep103)
 (.cond (.tmp 5) (.skip) (.exit 0)))
 (.seq (.block 1 (.reg [.m 8 3, .m 9 0, .u 10 (.cvi .u8) 9, .a 11 (.bin .or) [.tmp 10, .const (.int .u8 128)], .u 12 (.bsl 5 1) 11, .w 13 (.app 5 1 1) 8 12, .m 3 13] false keep103))
 (.reg [.m 6 0, .a 7 (.bin .shr) [.tmp 6, .const (.int .u64 7)], .m 0 7] false keep103)))))
 (.seq (.reg [.m 14 3, .m 15 0, .u 16 (.cvi .u8) 15, .u 17 (.bsl 5 1) 16, .w 18 (.app 5 1 1) 14 17, .m 2 18] false keep103)
 (.ret))))
theorem fn103 : compFn Try.prog 103 keep103 = some ⟨19, 1, [(2, none)], body103⟩ := by kernel_rfl
def body104 : AC :=
 .seq (.reg [.a 2 (.nilS 5) []] false [0, 2])
 (.seq (.reg [.m 3 0, .u 4 .slen 3, .u 5 (.cvi .u64) 4, .u 6 (.call 103) 5, .m 7 0, .w 8 (.app 5 1 1) 6 7, .m 2 8] false [0, 2])
 (.ret))
def keep104 : List Nat := [0, 2]
theorem fn104 : compFn Try.prog 104 keep104 = some ⟨9, 1, [(2, none)], body104⟩ := by kernel_rfl
abbrev keep105 : List Nat := [0, 2, 3, 4, 5, 6, 11, 20]
def body105 : AC :=
 .seq (.reg [.a 2 (.nilS 5) []] false keep105)
 (.seq (.reg [.a 3 (.nilS 5) []] false keep105)
 (.seq (.reg [.m 7 0, .u 8 (.call 153) 7, .m 4 8] false keep105)
 (.seq (.seq (.reg [.a 5 .mov [ci 0]] false keep105)
 (.block 0 (.loop (.seq (.seq (.reg [.m 9 5, .m 10 4, .w 11 (.bin .lss) 9 10] false keep105)
 (.cond (.tmp 11) (.skip) (.exit 0)))
 (.seq (.block 1 (.seq (.reg [.m 14 0, .a 15 (.bin .rem) [.tmp 14, .const (.int .u64 128)], .u 16 (.cvi .u8) 15, .m 6 16] false keep105)
 (.seq (.seq (.reg [.m 17 5, .c 18 (.bin .add) 17 1, .m 19 4, .w 20 (.bin .lss) 18 19] false keep105)
 (.cond (.tmp 20) (.reg [.m 21 6, .a 22 (.bin .add) [.tmp 21, .const (.int .u8 128)], .m 6 22] false keep105) (.skip)))
 (.seq (.reg [.m 23 3, .m 24 6, .u 25 (.bsl 5 1) 24, .w 26 (.app 5 1 1) 23 25, .m 3 26] false keep105)
 (.reg [.m 27 0, .a 28 (.bin .quo) [.tmp 27, .const (.int .u64 128)], .m 0 28] false keep105)))))
 (.reg [.m 12 5, .c 13 (.bin .add) 12 1, .m 5 13] false keep105))))))
 (.seq (.reg [.m 29 3, .m 2 29] false keep105)
 (.ret)))))
theorem fn105 : compFn Try.prog 105 keep105 = some ⟨30, 1, [(2, none)], body105⟩ := by kernel_rfl
abbrev keep106 : List Nat := [0, 2, 3, 4, 12]
def body106 : AC :=
 .seq (.reg [.a 2 (.nilS 5) []] false keep106)
 (.seq (.reg [.m 5 0, .u 6 .slen 5, .u 7 (.cvi .u64) 6, .u 8 (.call 105) 7, .m 3 8] false keep106)
 (.seq (.seq (.reg [.a 4 .mov [ci 0]] false keep106)
 (.block 0 (.loop (.seq (.seq (.reg [.m 9 4, .m 10 0, .u 11 .slen 10, .w 12 (.bin .lss) 9 11] false keep106)
 (.cond (.tmp 12) (.skip) (.exit 0)))
 (.seq (.block 1 (.reg [.m 15 3, .m 16 0, .m 17 4, .w 18 .sidx 16 17, .u 19 (.bsl 5 1) 18, .w 20 (.app 5 1 1) 15 19, .m 3 20] false keep106))
 (.reg [.m 13 4, .c 14 (.bin .add) 13 1, .m 4 14] false keep106))))))
 (.seq (.reg [.m 21 3, .m 2 21] false keep106)
 (.ret))))
theorem fn106 : compFn Try.prog 106 keep106 = some ⟨22, 1, [(2, none)], body106⟩ := by kernel_rfl
abbrev keep107 : List Nat := [0, 1, 4, 5, 6, 7, 8, 9, 17, 21, 22, 23, 24, 30, 54]
def body107 : AC :=
 .seq (.reg [.a 4 .mov [.const (.int .u64 0)], .a 5 .mov [ci 0], .a 6 .mov [ci 0]] false keep107)
 (.seq (.seq (.reg [.m 10 1, .c 11 (.bin .lss) 10 0, .m 12 11, .mg 13 1 12 false, .mg 14 0 12 false, .bu 15 .len 14 12 false, .bw 16 (.bin .geq) 13 15 12 false, .po 17 12 16] false keep107)
 (.cond (.tmp 17) (.seq (.reg [.m 18 1, .a 4 .mov [.const (.int .u64 0)], .m 5 18, .a 6 .mov [ci 10]] false keep107)
 (.ret)) (.skip)))
 (.seq (.reg [.a 6 .mov [ci 10]] false keep107)
 (.seq (.skip)
 (.seq (.seq (.reg [.m 19 0, .m 20 1, .w 21 (.slc 1 true false) 19 20, .u 22 .len 21, .a 23 .mov [ci 0]] false keep107)
 (.block 0 (.loop (.seq (.reg [.w 24 (.bin .lss) 23 22] false keep107)
 (.seq (.cond (.tmp 24) (.skip) (.exit 0))
 (.seq (.block 1 (.seq (.reg [.m 25 23, .w 26 (.ixa 5 1) 21 23, .u 27 (.load none) 26, .m 7 25, .m 8 27] false keep107)
 (.seq (.reg [.m 28 8, .a 29 (.bin .lss) [.tmp 28, .const (.int .u8 128)], .m 9 29] false keep107)
 (.seq (.block 2 (.seq (.seq (.reg [.m 31 7, .c 32 (.bin .eql) 31 9, .m 33 32, .mg 34 8 33 true, .b 35 (.bin .gtr) [.tmp 34, .const (.int .u8 1)] 33 true, .pa 36 33 35, .m 30 36] false keep107)
 (.cond (.tmp 30) (.skip) (.reg [.m 37 9, .m 38 37, .mg 39 8 38 true, .b 40 (.bin .eql) [.tmp 39, .const (.int .u8 0)] 38 true, .pa 41 38 40, .m 42 41, .mg 43 7 42 true, .bc 44 (.bin .gtr) 43 0 42 true, .pa 45 42 44, .m 30 45] false keep107)))
 (.cond (.tmp 30) (.seq (.reg [.a 6 .mov [ci 11]] false keep107)
 (.exit 0)) (.skip))))
 (.seq (.reg [.m 46 4, .m 47 8, .a 48 (.bin .andNot) [.tmp 47, .const (.int .u8 128)], .u 49 (.cvi .u64) 48, .m 50 7, .a 51 (.bin .mul) [ci 7, .tmp 50], .w 52 (.bin .shl) 49 51, .w 53 (.bin .or) 46 52, .m 4 53] false keep107)
 (.seq (.reg [.m 54 9] false keep107)
 (.cond (.tmp 54) (.seq (.reg [.m 55 4, .m 56 1, .m 57 7, .w 58 (.bin .add) 56 57, .c 59 (.bin .add) 58 1, .m 4 55, .m 5 59, .a 6 .mov [ci 0]] false keep107)
 (.ret)) (.skip))))))))
 (.reg [.c 60 (.bin .add) 23 1, .m 23 60] false keep107)))))))
 (.seq (.reg [.m 61 1, .m 62 6, .a 4 .mov [.const (.int .u64 0)], .m 5 61, .m 6 62] false keep107)
 (.ret))))))
theorem fn107 : compFn Try.prog 107 keep107 = some ⟨63, 2, [(4, none), (5, none), (6, none)], body107⟩ := by kernel_rfl
abbrev keep108 : List Nat := [0, 1, 4, 5, 6, 7, 15, 20]
def body108 : AC :=
 .seq (.reg [.a 4 .mov [.const (.string ⟨#[]⟩)], .a 5 .mov [ci 0], .a 6 .mov [ci 0]] false keep108)
 (.seq (.reg [.m 9 0, .m 10 1, .w 11 (.call 107) 9 10, .m 8 11, .u 12 (.ext 0) 8, .u 13 (.ext 1) 8, .u 14 (.ext 2) 8, .m 7 12, .m 5 13, .m 6 14] false keep108)
 (.seq (.block 0 (.seq (.reg [.m 16 6, .c 17 (.bin .neq) 16 0, .m 15 17] false keep108)
 (.cond (.tmp 15) (.seq (.reg [.m 18 1, .m 19 6, .a 4 .mov [.const (.string ⟨#[]⟩)], .m 5 18, .m 6 19] false keep108)
 (.ret)) (.seq (.reg [.m 21 7, .m 22 0, .u 23 .len 22, .m 24 5, .w 25 (.bin .sub) 23 24, .u 26 (.cvi .u64) 25, .w 27 (.bin .gtr) 21 26, .m 20 27] false keep108)
 (.cond (.tmp 20) (.seq (.reg [.m 28 1, .a 4 .mov [.const (.string ⟨#[]⟩)], .m 5 28, .a 6 .mov [ci 10]] false keep108)
 (.ret)) (.skip))))))
 (.seq (.reg [.m 29 0, .m 30 5, .m 31 5, .m 32 7, .u 33 (.cvi .i64) 32, .w 34 (.bin .add) 31 33, .a 35 (.slc 1 true true) [.tmp 29, .tmp 30, .tmp 34], .u 36 .btoS 35, .m 37 5, .m 38 7, .u 39 (.cvi .i64) 38, .w 40 (.bin .add) 37 39, .m 4 36, .m 5 40, .a 6 .mov [ci 0]] false keep108)
 (.ret))))
theorem fn108 : compFn Try.prog 108 keep108 = some ⟨41, 2, [(4, none), (5, none), (6, none)], body108⟩ := by kernel_rfl
abbrev keep109 : List Nat := [0, 1, 4, 5, 6, 7, 8, 9, 10, 18, 21, 29, 46, 55, 69]
def body109 : AC :=
 .seq (.reg [.a 4 .mov [.const (.int .u64 0)], .a 5 .mov [ci 0], .a 6 .mov [ci 0]] false keep109)
 (.seq (.seq (.reg [.m 11 1, .c 12 (.bin .lss) 11 0, .m 13 12, .mg 14 1 13 false, .mg 15 0 13 false, .bu 16 .len 15 13 false, .bw 17 (.bin .geq) 14 16 13 false, .po 18 13 17] false keep109)
 (.cond (.tmp 18) (.seq (.reg [.m 19 1, .a 4 .mov [.const (.int .u64 0)], .m 5 19, .a 6 .mov [ci 10]] false keep109)
 (.ret)) (.skip)))
 (.seq (.reg [.a 7 .mov [.const (.int .u64 0)]] false keep109)
 (.seq (.seq (.reg [.a 8 .mov [ci 0]] false keep109)
 (.block 0 (.loop (.seq (.seq (.reg [.m 20 8, .c 21 (.bin .lss) 20 10] false keep109)
 (.cond (.tmp 21) (.skip) (.exit 0)))
 (.seq (.block 1 (.seq (.seq (.reg [.m 24 1, .m 25 8, .w 26 (.bin .add) 24 25, .m 27 0, .u 28 .len 27, .w 29 (.bin .geq) 26 28] false keep109)
 (.cond (.tmp 29) (.seq (.reg [.m 30 1, .a 4 .mov [.const (.int .u64 0)], .m 5 30, .a 6 .mov [ci 10]] false keep109)
 (.ret)) (.skip)))
 (.seq (.reg [.m 31 0, .m 32 1, .m 33 8, .w 34 (.bin .add) 32 33, .w 35 (.ixa 5 1) 31 34, .u 36 (.load none) 35, .u 37 (.cvi .u64) 36, .m 9 37] false keep109)
 (.seq (.reg [.m 38 8, .a 39 (.bin .mul) [ci 7, .tmp 38], .a 40 (.bin .shl) [.const (.int .u64 1), .tmp 39], .m 10 40] false keep109)
 (.seq (.seq (.reg [.m 41 8, .c 42 (.bin .eql) 41 9, .m 43 42, .mg 44 9 43 true, .b 45 (.bin .gtr) [.tmp 44, .const (.int .u64 1)] 43 true, .pa 46 43 45] false keep109)
 (.cond (.tmp 46) (.seq (.reg [.m 47 1, .a 4 .mov [.const (.int .u64 0)], .m 5 47, .a 6 .mov [ci 11]] false keep109)
 (.ret)) (.skip)))
 (.seq (.reg [.m 48 7, .m 49 9, .a 50 (.bin .rem) [.tmp 49, .const (.int .u64 128)], .m 51 10, .w 52 (.bin .mul) 50 51, .w 53 (.bin .add) 48 52, .m 7 53] false keep109)
 (.seq (.reg [.m 54 9, .a 55 (.bin .lss) [.tmp 54, .const (.int .u64 128)]] false keep109)
 (.cond (.tmp 55) (.seq (.seq (.reg [.m 56 0, .m 57 1, .m 58 7, .u 59 (.call 105) 58, .a 60 (.call 154) [.tmp 56, .tmp 57, .tmp 59], .u 61 .not 60, .m 62 61, .mg 63 8 62 false, .bc 64 (.bin .add) 63 1 62 false, .mg 65 7 62 false, .bu 66 (.call 105) 65 62 false, .bu 67 .len 66 62 false, .bw 68 (.bin .neq) 64 67 62 false, .po 69 62 68] false keep109)
 (.cond (.tmp 69) (.seq (.reg [.m 70 1, .a 4 .mov [.const (.int .u64 0)], .m 5 70, .a 6 .mov [ci 11]] false keep109)
 (.ret)) (.skip)))
 (.seq (.reg [.m 71 7, .m 72 1, .m 73 8, .w 74 (.bin .add) 72 73, .c 75 (.bin .add) 74 1, .m 4 71, .m 5 75, .a 6 .mov [ci 0]] false keep109)
 (.ret))) (.skip)))))))))
 (.reg [.m 22 8, .c 23 (.bin .add) 22 1, .m 8 23] false keep109))))))
 (.seq (.reg [.m 76 1, .a 4 .mov [.const (.int .u64 0)], .m 5 76, .a 6 .mov [ci 11]] false keep109)
 (.ret)))))
theorem fn109 : compFn Try.prog 109 keep109 = some ⟨77, 2, [(4, none), (5, none), (6, none)], body109⟩ := by kernel_rfl
abbrev keep110 : List Nat := [0, 1, 4, 5, 6, 7, 8, 9, 18, 34]
def body110 : AC :=
 .seq (.reg [.a 4 .mov [.const (.string ⟨#[]⟩)], .a 5 .mov [ci 0], .a 6 .mov [ci 0]] false keep110)
 (.seq (.reg [.m 11 0, .m 12 1, .w 13 (.call 109) 11 12, .m 10 13, .u 14 (.ext 0) 10, .u 15 (.ext 1) 10, .u 16 (.ext 2) 10, .m 7 14, .m 8 15, .m 9 16] false keep110)
 (.seq (.seq (.reg [.m 17 9, .c 18 (.bin .neq) 17 0] false keep110)
 (.cond (.tmp 18) (.seq (.reg [.m 19 1, .m 20 9, .a 4 .mov [.const (.string ⟨#[]⟩)], .m 5 19, .m 6 20] false keep110)
 (.ret)) (.skip)))
 (.seq (.seq (.reg [.m 21 7, .m 22 0, .u 23 .len 22, .u 24 (.cvi .u64) 23, .w 25 (.bin .gtr) 21 24, .m 26 25, .mg 27 8 26 false, .mg 28 7 26 false, .bu 29 (.cvi .i64) 28 26 false, .bw 30 (.bin .add) 27 29 26 false, .mg 31 0 26 false, .bu 32 .len 31 26 false, .bw 33 (.bin .gtr) 30 32 26 false, .po 34 26 33] false keep110)
 (.cond (.tmp 34) (.seq (.reg [.m 35 1, .a 4 .mov [.const (.string ⟨#[]⟩)], .m 5 35, .a 6 .mov [ci 10]] false keep110)
 (.ret)) (.skip)))
 (.seq (.reg [.m 36 0, .m 37 8, .m 38 8, .m 39 7, .u 40 (.cvi .i64) 39, .w 41 (.bin .add) 38 40, .a 42 (.slc 1 true true) [.tmp 36, .tmp 37, .tmp 41], .u 43 .btoS 42, .m 44 8, .m 45 7, .u 46 (.cvi .i64) 45, .w 47 (.bin .add) 44 46, .m 4 43, .m 5 47, .a 6 .mov [ci 0]] false keep110)
 (.ret)))))
theorem fn110 : compFn Try.prog 110 keep110 = some ⟨48, 2, [(4, none), (5, none), (6, none)], body110⟩ := by kernel_rfl
abbrev keep39 : List Nat := [0, 1, 4, 5, 10, 14, 25]
def body39 : AC :=
 .seq (.reg [.a 4 .mov [.const (.bool false)]] false keep39)
 (.seq (.seq (.reg [.m 6 0, .u 7 .len 6, .m 8 1, .u 9 .len 8, .w 10 (.bin .neq) 7 9] false keep39)
 (.cond (.tmp 10) (.seq (.reg [.a 4 .mov [.const (.bool false)]] false keep39)
 (.ret)) (.skip)))
 (.seq (.seq (.reg [.a 5 .mov [ci 0]] false keep39)
 (.block 0 (.loop (.seq (.seq (.reg [.m 11 5, .m 12 0, .u 13 .len 12, .w 14 (.bin .lss) 11 13] false keep39)
 (.cond (.tmp 14) (.skip) (.exit 0)))
 (.seq (.block 1 (.seq (.reg [.m 17 0, .m 18 5, .w 19 (.ixa 5 1) 17 18, .u 20 (.load none) 19, .m 21 1, .m 22 5, .w 23 (.ixa 5 1) 21 22, .u 24 (.load none) 23, .w 25 (.bin .neq) 20 24] true keep39)
 (.cond (.tmp 25) (.seq (.reg [.a 4 .mov [.const (.bool false)]] false keep39)
 (.ret)) (.skip))))
 (.reg [.m 15 5, .c 16 (.bin .add) 15 1, .m 5 16] false keep39))))))
 (.seq (.reg [.a 4 .mov [.const (.bool true)]] false keep39)
 (.ret))))
theorem fn39 : compFn Try.prog 39 keep39 = some ⟨26, 2, [(4, none)], body39⟩ := by kernel_rfl
abbrev keep153 : List Nat := [0, 2, 3, 6]
def body153 : AC :=
 .seq (.reg [.a 2 .mov [ci 0]] false keep153)
 (.seq (.reg [.a 3 .mov [ci 1]] false keep153)
 (.seq (.block 0 (.loop (.seq (.seq (.reg [.m 4 0, .a 5 (.bin .quo) [.tmp 4, .const (.int .u64 128)], .a 6 (.bin .gtr) [.tmp 5, .const (.int .u64 0)]] false keep153)
 (.cond (.tmp 6) (.skip) (.exit 0)))
 (.block 1 (.seq (.reg [.m 7 0, .a 8 (.bin .quo) [.tmp 7, .const (.int .u64 128)], .m 0 8] false keep153)
 (.reg [.m 9 3, .c 10 (.bin .add) 9 1, .m 3 10] false keep153))))))
 (.seq (.reg [.m 11 3, .m 2 11] false keep153)
 (.ret))))
theorem fn153 : compFn Try.prog 153 keep153 = some ⟨12, 1, [(2, none)], body153⟩ := by kernel_rfl
abbrev keep154 : List Nat := [0, 1, 2, 6, 7, 14, 18, 31]
def body154 : AC :=
 .seq (.reg [.a 6 .mov [.const (.bool false)]] false keep154)
 (.seq (.seq (.reg [.m 8 1, .m 9 2, .u 10 .len 9, .w 11 (.bin .add) 8 10, .m 12 0, .u 13 .len 12, .w 14 (.bin .gtr) 11 13] false keep154)
 (.cond (.tmp 14) (.seq (.reg [.a 6 .mov [.const (.bool false)]] false keep154)
 (.ret)) (.skip)))
 (.seq (.seq (.reg [.a 7 .mov [ci 0]] false keep154)
 (.block 0 (.loop (.seq (.seq (.reg [.m 15 7, .m 16 2, .u 17 .len 16, .w 18 (.bin .lss) 15 17] false keep154)
 (.cond (.tmp 18) (.skip) (.exit 0)))
 (.seq (.block 1 (.seq (.reg [.m 21 0, .m 22 1, .m 23 7, .w 24 (.bin .add) 22 23, .w 25 (.ixa 5 1) 21 24, .u 26 (.load none) 25, .m 27 2, .m 28 7, .w 29 (.ixa 5 1) 27 28, .u 30 (.load none) 29, .w 31 (.bin .neq) 26 30] true keep154)
 (.cond (.tmp 31) (.seq (.reg [.a 6 .mov [.const (.bool false)]] false keep154)
 (.ret)) (.skip))))
 (.reg [.m 19 7, .c 20 (.bin .add) 19 1, .m 7 20] false keep154))))))
 (.seq (.reg [.a 6 .mov [.const (.bool true)]] false keep154)
 (.ret))))
theorem fn154 : compFn Try.prog 154 keep154 = some ⟨32, 3, [(6, none)], body154⟩ := by kernel_rfl
end Go.Proofs.Ytfpmjcdcpicmaaa.Ab
