/- The code of the functions, in the abstract machine's form (printed by wip/mk.py). -/
import Derived.Test.YtlmkcmfmfahcfaaZ9
import Derived.Test.YtlmkcmfmfahcfaaChecked
set_option linter.unusedVariables false
set_option linter.unusedSimpArgs false
set_option linter.unnecessarySimpa false
set_option maxHeartbeats 40000000
set_option maxRecDepth 100000
namespace Go.Proofs.Ytlmkcmfmfahcfaa.Ab
open Go Go.RowKit
abbrev keep4:List Nat:=[0,1,2,3,4,6,7,8,9,10,11,12,25,30,38,63]
def body4:AC:=
 .seq (.reg [.u 3 .box 0,.u 4 .box 1,.a 6 .mov [.const (.bool false)]] false keep4)
 (.seq (.seq (.reg [.u 13 (.load (some 8)) 3,.u 14 (.call 11) 13,.u 15 .not 14,.m 16 15,.bu 17 (.load (some 8)) 4 16 false,.bu 18 (.call 11) 17 16 false,.bu 19 .not 18 16 false,.po 20 16 19,.m 21 20,.mg 22 2 21 false,.bu 23 .len 22 21 false,.bc 24 (.bin .gtr) 23 20 21 false,.po 25 21 24] false keep4)
 (.cond (.tmp 25) (.seq (.reg [.a 26 (.call 5) [],.m 6 26] false keep4)
 (.ret)) (.skip)))
 (.seq (.seq (.reg [.a 7 .mov [ci 0]] false keep4)
 (.block 0 (.loop (.seq (.seq (.reg [.m 27 7,.m 28 2,.u 29 .len 28,.w 30 (.bin .lss) 27 29] false keep4)
 (.cond (.tmp 30) (.skip) (.exit 0)))
 (.seq (.block 1 (.seq (.reg [.m 33 2,.m 34 7,.w 35 (.ixa 9 1) 33 34,.u 36 (.load none) 35,.u 37 .slen 36,.c 38 (.bin .gtr) 37 100] false keep4)
 (.cond (.tmp 38) (.seq (.reg [.a 39 (.call 5) [],.m 6 39] false keep4)
 (.ret)) (.skip))))
 (.reg [.m 31 7,.c 32 (.bin .add) 31 1,.m 7 32] false keep4))))))
 (.seq (.reg [.u 40 (.load (some 8)) 3,.u 41 (.call 12) 40,.a 8 (.alloc [(.int .u64 0),(.int .u64 0),(.int .u64 0),(.int .u64 0),(.bool false),(.slice none 0 0),(.slice none 0 0),(.bool false)]) [],.s (.store (some 8)) [.tmp 8,.tmp 41]] false keep4)
 (.seq (.reg [.u 43 (.load (some 8)) 8,.m 44 2,.w 45 (.call 13) 43 44,.m 42 45,.u 46 (.ext 0) 42,.u 47 (.ext 1) 42,.a 9 (.alloc [(.int .u64 0),(.int .u64 0),(.int .u64 0),(.int .u64 0),(.bool false),(.slice none 0 0),(.slice none 0 0),(.bool false)]) [],.s (.store (some 8)) [.tmp 9,.tmp 46],.m 10 47] false keep4)
 (.seq (.reg [.u 49 (.load (some 8)) 3,.m 50 2,.w 51 (.call 14) 49 50,.m 48 51,.u 52 (.ext 0) 48,.u 53 (.ext 1) 48,.a 11 (.alloc [(.int .u64 0),(.int .u64 0),(.int .u64 0),(.int .u64 0),(.bool false),(.slice none 0 0),(.slice none 0 0),(.bool false)]) [],.s (.store (some 8)) [.tmp 11,.tmp 52],.m 12 53] false keep4)
 (.seq (.seq (.reg [.m 54 10,.m 55 12,.w 56 (.bin .neq) 54 55,.m 57 56,.bu 58 (.load (some 8)) 11 57 false,.bu 59 (.call 12) 58 57 false,⟨some 60,(.load (some 8)),[.tmp 9],some (57,false),[59],none⟩,.bw 61 (.call 15) 59 60 57 false,.bu 62 .not 61 57 false,.po 63 57 62] true keep4)
 (.cond (.tmp 63) (.seq (.reg [.a 6 .mov [.const (.bool false)]] false keep4)
 (.ret)) (.skip)))
 (.seq (.reg [.u 64 (.load (some 8)) 11,.u 65 (.call 16) 64] false keep4)
 (.seq (.reg [.u 66 (.load (some 8)) 3,.u 67 (.call 12) 66,⟨some 68,(.load (some 8)),[.tmp 8],none,[67],none⟩,⟨some 69,(.call 15),[.tmp 67,.tmp 68],none,[],(some 999999)⟩,.m 70 69,.bu 71 (.load (some 8)) 3 70 true,.bu 72 (.load (some 8)) 4 70 true,.bw 73 (.call 8) 71 72 70 true,⟨some 74,(.load (some 8)),[.tmp 8],some (70,true),[73,76],none⟩,⟨some 75,(.load (some 8)),[.tmp 4],some (70,true),[73],none⟩,.bu 76 (.call 12) 75 70 true,.bw 77 (.call 15) 74 76 70 true,.bw 78 (.beq false) 73 77 70 true,.pa 79 70 78,.m 80 79,.bu 81 (.load (some 8)) 3 80 true,.bu 82 (.load (some 8)) 3 80 true,.bw 83 (.call 8) 81 82 80 true,.pa 84 80 83,.m 85 84,.b 86 (.call 5) [] 85 true,.pa 87 85 86,.m 6 87] true keep4)
 (.ret)))))))))
theorem fn4:compFn Try.prog 4 keep4=some ⟨88,3,[(6,none)],body4⟩:=by kernel_rfl
abbrev keep5:List Nat:=[0,1,2,3,4,5,6,7,8,9,10,11,12,13,15,17,96]
def body5:AC:=
 .seq (.reg [.a 0 .mov [.const (.bool false)]] false keep5)
 (.seq (.reg [.a 18 (.bld [(.int .u64 0),(.int .u64 0),(.int .u64 0),(.int .u64 0),(.bool false),(.slice none 0 0),(.slice none 0 0),(.bool false)] []) [],.a 1 (.alloc [(.int .u64 0),(.int .u64 0),(.int .u64 0),(.int .u64 0),(.bool false),(.slice none 0 0),(.slice none 0 0),(.bool false)]) [],.s (.store (some 8)) [.tmp 1,.tmp 18]] false keep5)
 (.seq (.reg [.u 20 (.load (some 8)) 1,.a 21 (.bld [(.int .u8 0),(.int .u64 0),(.int .u64 0),(.int .u64 0),(.int .u64 0),(.int .u64 0),(.int .u64 0),(.int .u64 0),(.int .u64 0),(.int .u64 0),(.string ⟨#[]⟩),(.string ⟨#[]⟩)] [(0,1),(1,1),(2,1),(4,1),(5,1)]) [.const (.int .u8 1),.const (.int .u64 7),.const (.int .u64 1),.const (.int .u64 1),.const (.int .u64 9)],.a 22 (.call 7) [.tmp 20,.tmp 21,.const (.int .u64 1),.const (.int .u64 0)],.m 19 22,.u 23 (.ext 0) 19,.u 24 (.ext 1) 19,.a 2 (.alloc [(.int .u64 0),(.int .u64 0),(.int .u64 0),(.int .u64 0),(.bool false),(.slice none 0 0),(.slice none 0 0),(.bool false)]) [],.s (.store (some 8)) [.tmp 2,.tmp 23],.m 3 24] false keep5)
 (.seq (.reg [.u 26 (.load (some 8)) 2,.a 27 (.bld [(.int .u8 0),(.int .u64 0),(.int .u64 0),(.int .u64 0),(.int .u64 0),(.int .u64 0),(.int .u64 0),(.int .u64 0),(.int .u64 0),(.int .u64 0),(.string ⟨#[]⟩),(.string ⟨#[]⟩)] [(0,1),(1,1),(2,1),(4,1)]) [.const (.int .u8 4),.const (.int .u64 7),.const (.int .u64 1),.const (.int .u64 1)],.a 28 (.call 7) [.tmp 26,.tmp 27,.const (.int .u64 2),.const (.int .u64 0)],.m 25 28,.u 29 (.ext 0) 25,.u 30 (.ext 1) 25,.a 4 (.alloc [(.int .u64 0),(.int .u64 0),(.int .u64 0),(.int .u64 0),(.bool false),(.slice none 0 0),(.slice none 0 0),(.bool false)]) [],.s (.store (some 8)) [.tmp 4,.tmp 29],.m 5 30] false keep5)
 (.seq (.reg [.u 32 (.load (some 8)) 4,.a 33 (.bld [(.int .u8 0),(.int .u64 0),(.int .u64 0),(.int .u64 0),(.int .u64 0),(.int .u64 0),(.int .u64 0),(.int .u64 0),(.int .u64 0),(.int .u64 0),(.string ⟨#[]⟩),(.string ⟨#[]⟩)] [(0,1),(6,1),(5,1)]) [.const (.int .u8 5),.const (.int .u64 2),.const (.int .u64 5)],.a 34 (.call 7) [.tmp 32,.tmp 33,.const (.int .u64 3),.const (.int .u64 0)],.m 31 34,.u 35 (.ext 0) 31,.u 36 (.ext 1) 31,.a 6 (.alloc [(.int .u64 0),(.int .u64 0),(.int .u64 0),(.int .u64 0),(.bool false),(.slice none 0 0),(.slice none 0 0),(.bool false)]) [],.s (.store (some 8)) [.tmp 6,.tmp 35],.m 7 36] false keep5)
 (.seq (.reg [.u 38 (.load (some 8)) 6,.a 39 (.bld [(.int .u8 0),(.int .u64 0),(.int .u64 0),(.int .u64 0),(.int .u64 0),(.int .u64 0),(.int .u64 0),(.int .u64 0),(.int .u64 0),(.int .u64 0),(.string ⟨#[]⟩),(.string ⟨#[]⟩)] [(0,1),(1,1),(2,1),(4,1),(6,1)]) [.const (.int .u8 4),.const (.int .u64 7),.const (.int .u64 1),.const (.int .u64 1),.const (.int .u64 2)],.a 40 (.call 7) [.tmp 38,.tmp 39,.const (.int .u64 4),.const (.int .u64 0)],.m 37 40,.u 41 (.ext 0) 37,.u 42 (.ext 1) 37,.a 8 (.alloc [(.int .u64 0),(.int .u64 0),(.int .u64 0),(.int .u64 0),(.bool false),(.slice none 0 0),(.slice none 0 0),(.bool false)]) [],.s (.store (some 8)) [.tmp 8,.tmp 41],.m 9 42] false keep5)
 (.seq (.reg [.u 44 (.load (some 8)) 8,.a 45 (.bld [(.int .u8 0),(.int .u64 0),(.int .u64 0),(.int .u64 0),(.int .u64 0),(.int .u64 0),(.int .u64 0),(.int .u64 0),(.int .u64 0),(.int .u64 0),(.string ⟨#[]⟩),(.string ⟨#[]⟩)] [(0,1),(7,1)]) [.const (.int .u8 8),.const (.int .u64 3)],.a 46 (.call 7) [.tmp 44,.tmp 45,.const (.int .u64 5),.const (.int .u64 0)],.m 43 46,.u 47 (.ext 0) 43,.u 48 (.ext 1) 43,.a 10 (.alloc [(.int .u64 0),(.int .u64 0),(.int .u64 0),(.int .u64 0),(.bool false),(.slice none 0 0),(.slice none 0 0),(.bool false)]) [],.s (.store (some 8)) [.tmp 10,.tmp 47],.m 11 48] false keep5)
 (.seq (.reg [.u 50 (.load (some 8)) 8,.a 51 (.bld [(.int .u8 0),(.int .u64 0),(.int .u64 0),(.int .u64 0),(.int .u64 0),(.int .u64 0),(.int .u64 0),(.int .u64 0),(.int .u64 0),(.int .u64 0),(.string ⟨#[]⟩),(.string ⟨#[]⟩)] [(0,1),(7,1)]) [.const (.int .u8 8),.const (.int .u64 6)],.a 52 (.call 7) [.tmp 50,.tmp 51,.const (.int .u64 5),.const (.int .u64 0)],.m 49 52,.u 53 (.ext 0) 49,.u 54 (.ext 1) 49,.a 12 (.alloc [(.int .u64 0),(.int .u64 0),(.int .u64 0),(.int .u64 0),(.bool false),(.slice none 0 0),(.slice none 0 0),(.bool false)]) [],.s (.store (some 8)) [.tmp 12,.tmp 53],.m 13 54] false keep5)
 (.seq (.reg [.u 56 (.load (some 8)) 1,.a 57 (.bld [(.int .u8 0),(.int .u64 0),(.int .u64 0),(.int .u64 0),(.int .u64 0),(.int .u64 0),(.int .u64 0),(.int .u64 0),(.int .u64 0),(.int .u64 0),(.string ⟨#[]⟩),(.string ⟨#[]⟩)] [(0,1),(1,1),(2,1)]) [.const (.int .u8 4),.const (.int .u64 7),.const (.int .u64 1)],.a 58 (.call 7) [.tmp 56,.tmp 57,.const (.int .u64 1),.const (.int .u64 0)],.m 55 58,.u 59 (.ext 0) 55,.u 60 (.ext 1) 55,.a 14 (.alloc [(.int .u64 0),(.int .u64 0),(.int .u64 0),(.int .u64 0),(.bool false),(.slice none 0 0),(.slice none 0 0),(.bool false)]) [],.s (.store (some 8)) [.tmp 14,.tmp 59],.m 15 60] false keep5)
 (.seq (.reg [.u 62 (.load (some 8)) 1,.a 63 (.bld [(.int .u8 0),(.int .u64 0),(.int .u64 0),(.int .u64 0),(.int .u64 0),(.int .u64 0),(.int .u64 0),(.int .u64 0),(.int .u64 0),(.int .u64 0),(.string ⟨#[]⟩),(.string ⟨#[]⟩)] [(0,1),(4,1)]) [.const (.int .u8 1),.const (.int .u64 2)],.a 64 (.call 7) [.tmp 62,.tmp 63,.const (.int .u64 1),.const (.int .u64 0)],.m 61 64,.u 65 (.ext 0) 61,.u 66 (.ext 1) 61,.a 16 (.alloc [(.int .u64 0),(.int .u64 0),(.int .u64 0),(.int .u64 0),(.bool false),(.slice none 0 0),(.slice none 0 0),(.bool false)]) [],.s (.store (some 8)) [.tmp 16,.tmp 65],.m 17 66] false keep5)
 (.seq (.seq (.reg [.m 67 3,.c 68 (.bin .neq) 67 0,.m 69 68,.mg 70 5 69 false,.bc 71 (.bin .neq) 70 0 69 false,.po 72 69 71,.m 73 72,.mg 74 7 73 false,.bc 75 (.bin .neq) 74 0 73 false,.po 76 73 75,.m 77 76,.mg 78 9 77 false,.bc 79 (.bin .neq) 78 0 77 false,.po 80 77 79,.m 81 80,.mg 82 11 81 false,.bc 83 (.bin .neq) 82 0 81 false,.po 84 81 83,.m 85 84,.mg 86 13 85 false,.bc 87 (.bin .neq) 86 0 85 false,.po 88 85 87,.m 89 88,.mg 90 15 89 false,.bc 91 (.bin .neq) 90 220 89 false,.po 92 89 91,.m 93 92,.mg 94 17 93 false,.bc 95 (.bin .neq) 94 220 93 false,.po 96 93 95] false keep5)
 (.cond (.tmp 96) (.seq (.reg [.a 0 .mov [.const (.bool false)]] false keep5)
 (.ret)) (.skip)))
 (.seq (.reg (
 .u 97 (.fad 0) 4 :: .u 98 (.load (some 5)) 97 :: .a 99 (.call 9) [.tmp 98,.const (.int .u64 7),.const (.int .u64 1),.const (.int .u64 1)] :: .m 100 99 :: .bu 101 (.fad 6) 4 100 true :: .bu 102 (.load none) 101 100 true :: .bu 103 .len 102 100 true :: .bc 104 (.bin .eql) 103 1 100 true :: .pa 105 100 104 :: .m 106 105 :: .bu 107 (.fad 6) 4 106 true :: .bu 108 (.load none) 107 106 true :: .bc 109 (.ixa 61 10) 108 0 106 true :: .bu 110 (.fad 0) 109 106 true :: .bu 111 (.load none) 110 106 true :: .b 112 (.bin .eql) [.tmp 111,.const (.int .u64 2)] 106 true :: .pa 113 106 112 :: .m 114 113 :: .bu 115 (.fad 6) 4 114 true :: .bu 116 (.load none) 115 114 true :: .bc 117 (.ixa 61 10) 116 0 114 true :: .bu 118 (.fad 1) 117 114 true :: .bu 119 (.load none) 118 114 true :: .b 120 (.bin .eql) [.tmp 119,.const (.int .u64 0)] 114 true :: .pa 121 114 120 :: .m 122 121 :: .bu 123 (.fad 6) 10 122 true :: .bu 124 (.load none) 123 122 true :: .bu 125 (.call 17) 124 122 true :: .bu 126 .len 125 122 true :: .bc 127 (.bin .eql) 126 2 122 true :: .pa 128 122 127 :: .m 129 128 :: .bu 130 (.fad 6) 12 129 true :: .bu 131 (.load none) 130 129 true :: .bu 132 (.call 17) 131 129 true :: .bu 133 .len 132 129 true :: .bc 134 (.bin .eql) 133 1 129 true :: .pa 135 129 134 :: .m 136 135 :: .bu 137 (.fad 6) 12 136 true :: .bu 138 (.load none) 137 136 true :: .bu 139 .len 138 136 true :: .bc 140 (.bin .eql) 139 2 136 true :: .pa 141 136 140 :: .m 142 141 :: .bu 143 (.fad 6) 12 142 true :: .bu 144 (.load none) 143 142 true :: .bc 145 (.ixa 61 10) 144 0 142 true :: .bu 146 (.fad 9) 145 142 true :: .bu 147 (.load none) 146 142 true :: .pa 148 142 147 :: .m 0 148::[]) false keep5)
 (.ret))))))))))))
theorem fn5:compFn Try.prog 5 keep5=some ⟨149,0,[(0,none)],body5⟩:=by kernel_rfl
abbrev keep7:List Nat:=[0,1,2,3,4,5,8,9,10,11,12,39]
def body7:AC:=
 .seq (.reg [.u 4 .box 0,.u 5 .box 1,.a 8 (.alloc [(.int .u64 0),(.int .u64 0),(.int .u64 0),(.int .u64 0),(.bool false),(.slice none 0 0),(.slice none 0 0),(.bool false)]) [],.a 9 .mov [ci 0]] false keep7)
 (.seq (.reg [.u 13 (.load (some 8)) 4,.u 14 (.call 18) 13,⟨some 15,(.load (some 12)),[.tmp 5],none,[14],none⟩,.m 16 2,.m 17 3,.a 18 (.bld [(.int .u64 0),(.int .u64 0),(.int .u64 0),(.int .u64 0),(.bool false),(.slice none 0 0),(.slice none 0 0),(.bool false),(.int .u8 0),(.int .u64 0),(.int .u64 0),(.int .u64 0),(.int .u64 0),(.int .u64 0),(.int .u64 0),(.int .u64 0),(.int .u64 0),(.int .u64 0),(.string ⟨#[]⟩),(.string ⟨#[]⟩),(.int .u64 0),(.int .u64 0)] [(0,8),(8,12),(20,1),(21,1)]) [.tmp 14,.tmp 15,.tmp 16,.tmp 17],.u 19 .box 18,.m 10 19] true keep7)
 (.seq (.reg [.a 21 (.call 19) [],⟨some 22,(.fad 0),[.tmp 5],none,[21],none⟩,⟨some 23,(.load none),[.tmp 22],none,[21],none⟩,.w 24 (.ex (.gev 6 .nilFunc true)) 21 23,.m 20 24,.u 25 (.ext 0) 20,.u 26 (.ext 1) 20,.m 11 25,.m 12 26] true keep7)
 (.seq (.seq (.reg [.m 27 12,.u 28 .not 27,.m 29 28,.bu 30 (.load (some 12)) 5 29 false,.bu 31 (.call 20) 30 29 false,.bu 32 .not 31 29 false,.po 33 29 32,.m 34 33,.mg 35 11 34 false,.mg 36 10 34 false,.bw 37 .calv 35 36 34 false,.bu 38 .not 37 34 false,.po 39 34 38] false keep7)
 (.cond (.tmp 39) (.seq (.reg [.u 40 (.load (some 8)) 4,.u 41 (.call 18) 40,.s (.store (some 8)) [.tmp 8,.tmp 41],.a 9 .mov [ci 220]] false keep7)
 (.ret)) (.skip)))
 (.seq (.reg [.m 42 10,.u 43 .nck 42,.u 44 (.fad 0) 43,.u 45 (.load (some 8)) 44,.s (.store (some 8)) [.tmp 8,.tmp 45],.a 9 .mov [ci 0]] false keep7)
 (.ret)))))
theorem fn7:compFn Try.prog 7 keep7=some ⟨46,4,[(8,some (some 8)),(9,none)],body7⟩:=by kernel_rfl
abbrev keep8:List Nat:=[0,1,2,3,4]
def body8:AC:=
 .seq (.reg [.u 2 .box 0,.u 3 .box 1,.a 4 .mov [.const (.bool false)]] false keep8)
 (.seq (.reg [.u 5 (.fad 0) 2,.u 6 (.load (some 5)) 5,.u 7 (.fad 0) 3,.u 8 (.load (some 5)) 7,.a 9 (.eqs false [9,9,9,9,0]) [.tmp 6,.tmp 8],.m 10 9,.bu 11 (.fad 7) 2 10 true,.bu 12 (.load none) 11 10 true,.bu 13 (.fad 7) 3 10 true,.bu 14 (.load none) 13 10 true,.bw 15 (.beq false) 12 14 10 true,.pa 16 10 15,.m 17 16,.bu 18 (.fad 5) 2 17 true,.bu 19 (.load (some 1)) 18 17 true,.bu 20 (.fad 5) 3 17 true,.bu 21 (.load (some 1)) 20 17 true,.bw 22 (.call 21) 19 21 17 true,.pa 23 17 22,.m 24 23,.bu 25 (.fad 6) 2 24 true,.bu 26 (.load none) 25 24 true,.bu 27 (.fad 6) 3 24 true,.bu 28 (.load none) 27 24 true,.bw 29 (.call 22) 26 28 24 true,.pa 30 24 29,.m 4 30] false keep8)
 (.ret))
theorem fn8:compFn Try.prog 8 keep8=some ⟨31,2,[(4,none)],body8⟩:=by kernel_rfl
abbrev keep9:List Nat:=[0,1,2,3,4,8]
def body9:AC:=
 .seq (.reg [.u 4 .box 0,.a 8 .mov [.const (.bool false)]] false keep9)
 (.seq (.reg [.u 9 (.fad 4) 4,.u 10 (.load none) 9,.m 11 10,.bu 12 (.fad 1) 4 11 true,.bu 13 (.load none) 12 11 true,.mg 14 1 11 true,.bw 15 (.bin .eql) 13 14 11 true,.pa 16 11 15,.m 17 16,.bu 18 (.fad 2) 4 17 true,.bu 19 (.load none) 18 17 true,.mg 20 2 17 true,.bw 21 (.bin .eql) 19 20 17 true,.pa 22 17 21,.m 23 22,.bu 24 (.fad 0) 4 23 true,.bu 25 (.load none) 24 23 true,.mg 26 3 23 true,.bw 27 (.bin .eql) 25 26 23 true,.pa 28 23 27,.m 8 28] false keep9)
 (.ret))
theorem fn9:compFn Try.prog 9 keep9=some ⟨29,4,[(8,none)],body9⟩:=by kernel_rfl
abbrev keep11:List Nat:=[0,1,2,3,8,18]
def body11:AC:=
 .seq (.reg [.u 1 .box 0,.a 2 .mov [.const (.bool false)]] false keep11)
 (.seq (.seq (.reg [.a 3 .mov [ci 0]] false keep11)
 (.block 0 (.loop (.seq (.seq (.reg [.m 4 3,.u 5 (.fad 6) 1,.u 6 (.load none) 5,.u 7 .len 6,.w 8 (.bin .lss) 4 7] false keep11)
 (.cond (.tmp 8) (.skip) (.exit 0)))
 (.seq (.block 1 (.seq (.reg [.u 11 (.fad 6) 1,.u 12 (.load none) 11,.m 13 3,.w 14 (.ixa 61 10) 12 13,.u 15 (.fad 7) 14,.u 16 (.load none) 15,.u 17 .slen 16,.c 18 (.bin .gtr) 17 100] false keep11)
 (.cond (.tmp 18) (.seq (.reg [.a 2 .mov [.const (.bool false)]] false keep11)
 (.ret)) (.skip))))
 (.reg [.m 9 3,.c 10 (.bin .add) 9 1,.m 3 10] false keep11))))))
 (.seq (.reg [.u 19 (.fad 5) 1,.u 20 (.fad 0) 19,.u 21 (.load none) 20,.u 22 .len 21,.c 23 (.bin .leq) 22 20,.m 24 23,.bu 25 (.fad 6) 1 24 true,.bu 26 (.load none) 25 24 true,.bu 27 .len 26 24 true,.bc 28 (.bin .leq) 27 20 24 true,.pa 29 24 28,.m 2 29] false keep11)
 (.ret)))
theorem fn11:compFn Try.prog 11 keep11=some ⟨30,1,[(2,none)],body11⟩:=by kernel_rfl
abbrev keep12:List Nat:=[0,1,2,3]
def body12:AC:=
 .seq (.reg [.u 1 .box 0,.a 2 (.alloc [(.int .u64 0),(.int .u64 0),(.int .u64 0),(.int .u64 0),(.bool false),(.slice none 0 0),(.slice none 0 0),(.bool false)]) []] false keep12)
 (.seq (.reg [.u 4 (.fad 0) 1,.u 5 (.load (some 5)) 4,.a 3 (.alloc [(.int .u64 0),(.int .u64 0),(.int .u64 0),(.int .u64 0),(.bool false)]) [],.s (.store (some 5)) [.tmp 3,.tmp 5]] false keep12)
 (.seq (.reg [⟨some 6,(.fad 0),[.tmp 3],none,[19,22],none⟩,⟨some 7,(.load none),[.tmp 6],none,[19,22],none⟩,⟨some 8,(.fad 1),[.tmp 3],none,[19,22],none⟩,⟨some 9,(.load none),[.tmp 8],none,[19,22],none⟩,⟨some 10,(.fad 2),[.tmp 3],none,[19,22],none⟩,⟨some 11,(.load none),[.tmp 10],none,[19,22],none⟩,⟨some 12,(.fad 3),[.tmp 3],none,[19,22],none⟩,⟨some 13,(.load none),[.tmp 12],none,[19,22],none⟩,⟨some 14,(.fad 4),[.tmp 3],none,[19,22],none⟩,⟨some 15,(.load none),[.tmp 14],none,[19,22],none⟩,⟨some 16,(.bld [(.int .u64 0),(.int .u64 0),(.int .u64 0),(.int .u64 0),(.bool false)] [(0,1),(1,1),(2,1),(3,1),(4,1)]),[.tmp 7,.tmp 9,.tmp 11,.tmp 13,.tmp 15],none,[19,22],none⟩,.u 17 (.fad 5) 1,.u 18 (.load (some 1)) 17,.u 19 (.call 24) 18,⟨some 20,(.fad 6),[.tmp 1],none,[19],none⟩,⟨some 21,(.load none),[.tmp 20],none,[19],none⟩,.u 22 (.call 25) 21,⟨some 23,(.fad 7),[.tmp 1],none,[19,22],none⟩,⟨some 24,(.load none),[.tmp 23],none,[19,22],none⟩,.a 25 (.bld [(.int .u64 0),(.int .u64 0),(.int .u64 0),(.int .u64 0),(.bool false),(.slice none 0 0),(.slice none 0 0),(.bool false)] [(0,5),(5,1),(6,1),(7,1)]) [.tmp 16,.tmp 19,.tmp 22,.tmp 24],.s (.store (some 8)) [.tmp 2,.tmp 25]] true keep12)
 (.ret)))
theorem fn12:compFn Try.prog 12 keep12=some ⟨26,1,[(2,some (some 8))],body12⟩:=by kernel_rfl
abbrev keep13:List Nat:=[0,1,2,4,5,6,7,16]
def body13:AC:=
 .seq (.reg [.u 2 .box 0,.a 4 (.alloc [(.int .u64 0),(.int .u64 0),(.int .u64 0),(.int .u64 0),(.bool false),(.slice none 0 0),(.slice none 0 0),(.bool false)]) [],.a 5 .mov [ci 0]] false keep13)
 (.seq (.reg [.u 9 (.fad 6) 2,.u 10 (.load none) 9,.m 11 1,.w 12 (.call 26) 10 11,.m 8 12,.u 13 (.ext 0) 8,.u 14 (.ext 1) 8,.m 6 13,.m 7 14] false keep13)
 (.seq (.seq (.reg [.m 15 7,.c 16 (.bin .neq) 15 0] false keep13)
 (.cond (.tmp 16) (.seq (.reg [.a 17 (.bld [(.int .u64 0),(.int .u64 0),(.int .u64 0),(.int .u64 0),(.bool false),(.slice none 0 0),(.slice none 0 0),(.bool false)] []) [],.m 18 7,.s (.store (some 8)) [.tmp 4,.tmp 17],.m 5 18] false keep13)
 (.ret)) (.skip)))
 (.seq (.reg [.u 19 (.fad 0) 2,.u 20 (.load (some 5)) 19,.u 21 (.fad 5) 2,.u 22 (.load none) 21,.m 23 6,.u 24 (.fad 7) 2,.u 25 (.load none) 24,.a 26 (.bld [(.int .u64 0),(.int .u64 0),(.int .u64 0),(.int .u64 0),(.bool false),(.slice none 0 0),(.slice none 0 0),(.bool false)] [(0,5),(5,1),(6,1),(7,1)]) [.tmp 20,.tmp 22,.tmp 23,.tmp 25],.s (.store (some 8)) [.tmp 4,.tmp 26],.a 5 .mov [ci 0]] false keep13)
 (.ret))))
theorem fn13:compFn Try.prog 13 keep13=some ⟨27,2,[(4,some (some 8)),(5,none)],body13⟩:=by kernel_rfl
abbrev keep14:List Nat:=[0,1,2,4,5,6,7,16]
def body14:AC:=
 .seq (.reg [.u 2 .box 0,.a 4 (.alloc [(.int .u64 0),(.int .u64 0),(.int .u64 0),(.int .u64 0),(.bool false),(.slice none 0 0),(.slice none 0 0),(.bool false)]) [],.a 5 .mov [ci 0]] false keep14)
 (.seq (.reg [.u 9 (.fad 6) 2,.u 10 (.load none) 9,.m 11 1,.w 12 (.call 27) 10 11,.m 8 12,.u 13 (.ext 0) 8,.u 14 (.ext 1) 8,.m 6 13,.m 7 14] false keep14)
 (.seq (.seq (.reg [.m 15 7,.c 16 (.bin .neq) 15 0] false keep14)
 (.cond (.tmp 16) (.seq (.reg [.a 17 (.bld [(.int .u64 0),(.int .u64 0),(.int .u64 0),(.int .u64 0),(.bool false),(.slice none 0 0),(.slice none 0 0),(.bool false)] []) [],.m 18 7,.s (.store (some 8)) [.tmp 4,.tmp 17],.m 5 18] false keep14)
 (.ret)) (.skip)))
 (.seq (.reg [.u 19 (.load (some 8)) 2,.u 20 (.call 18) 19,.s (.store (some 8)) [.tmp 2,.tmp 20]] false keep14)
 (.seq (.reg [.m 21 6,.u 22 (.fad 6) 2,.s (.store none) [.tmp 22,.tmp 21]] false keep14)
 (.seq (.reg [.u 23 (.load (some 8)) 2,.s (.store (some 8)) [.tmp 4,.tmp 23],.a 5 .mov [ci 0]] false keep14)
 (.ret))))))
theorem fn14:compFn Try.prog 14 keep14=some ⟨24,2,[(4,some (some 8)),(5,none)],body14⟩:=by kernel_rfl
abbrev keep15:List Nat:=[0,1,2,3,4,5,34,39,52]
def body15:AC:=
 .seq (.reg [.u 2 .box 0,.u 3 .box 1,.a 4 .mov [.const (.bool false)]] false keep15)
 (.seq (.seq (.reg [.u 6 (.fad 0) 2,.u 7 (.load (some 5)) 6,.u 8 (.fad 0) 3,.u 9 (.load (some 5)) 8,.a 10 (.eqs true [9,9,9,9,0]) [.tmp 7,.tmp 9],.m 11 10,.bu 12 (.fad 7) 2 11 false,.bu 13 (.load none) 12 11 false,.bu 14 (.fad 7) 3 11 false,.bu 15 (.load none) 14 11 false,.bw 16 (.beq true) 13 15 11 false,.po 17 11 16,.m 18 17,.bu 19 (.fad 5) 2 18 false,.bu 20 (.load none) 19 18 false,.bu 21 (.fad 5) 3 18 false,.bu 22 (.load none) 21 18 false,.bw 23 (.call 28) 20 22 18 false,.bu 24 .not 23 18 false,.po 25 18 24,.m 26 25,.bu 27 (.fad 6) 2 26 false,.bu 28 (.load none) 27 26 false,.bu 29 .len 28 26 false,.bu 30 (.fad 6) 3 26 false,.bu 31 (.load none) 30 26 false,.bu 32 .len 31 26 false,.bw 33 (.bin .neq) 29 32 26 false,.po 34 26 33] false keep15)
 (.cond (.tmp 34) (.seq (.reg [.a 4 .mov [.const (.bool false)]] false keep15)
 (.ret)) (.skip)))
 (.seq (.seq (.reg [.a 5 .mov [ci 0]] false keep15)
 (.block 0 (.loop (.seq (.seq (.reg [.m 35 5,.u 36 (.fad 6) 2,.u 37 (.load none) 36,.u 38 .len 37,.w 39 (.bin .lss) 35 38] false keep15)
 (.cond (.tmp 39) (.skip) (.exit 0)))
 (.seq (.block 1 (.seq (.reg [.u 42 (.fad 6) 2,.u 43 (.load none) 42,.m 44 5,.w 45 (.ixa 84 10) 43 44,.u 46 (.load (some 10)) 45,.u 47 (.fad 6) 3,.u 48 (.load none) 47,.m 49 5,.w 50 (.ixa 84 10) 48 49,.u 51 (.load (some 10)) 50,.a 52 (.eqs true [9,9,9,9,9,9,9,1,0,0]) [.tmp 46,.tmp 51]] true keep15)
 (.cond (.tmp 52) (.seq (.reg [.a 4 .mov [.const (.bool false)]] false keep15)
 (.ret)) (.skip))))
 (.reg [.m 40 5,.c 41 (.bin .add) 40 1,.m 5 41] false keep15))))))
 (.seq (.reg [.a 4 .mov [.const (.bool true)]] false keep15)
 (.ret))))
theorem fn15:compFn Try.prog 15 keep15=some ⟨53,2,[(4,none)],body15⟩:=by kernel_rfl
abbrev keep16:List Nat:=[0,1,2,3,9,22]
def body16:AC:=
 .seq (.reg [.u 1 .box 0] false keep16)
 (.seq (.seq (.reg [.a 2 .mov [ci 0]] false keep16)
 (.block 0 (.loop (.seq (.seq (.reg [.m 4 2,.u 5 (.fad 5) 1,.u 6 (.fad 0) 5,.u 7 (.load none) 6,.u 8 .len 7,.w 9 (.bin .lss) 4 8] false keep16)
 (.cond (.tmp 9) (.skip) (.exit 0)))
 (.seq (.block 1 (.reg [.u 12 (.fad 5) 1,.u 13 (.fad 0) 12,.u 14 (.load none) 13,.m 15 2,.a 16 (.bld [(.int .u64 0),(.int .u64 0),(.int .u64 0)] [(0,1)]) [.const (.int .u64 99)],.w 17 (.ixa 86 3) 14 15,.s (.store (some 3)) [.tmp 17,.tmp 16]] false keep16))
 (.reg [.m 10 2,.c 11 (.bin .add) 10 1,.m 2 11] false keep16))))))
 (.seq (.reg [.a 3 .mov [ci 0]] false keep16)
 (.block 2 (.loop (.seq (.seq (.reg [.m 18 3,.u 19 (.fad 6) 1,.u 20 (.load none) 19,.u 21 .len 20,.w 22 (.bin .lss) 18 21] false keep16)
 (.cond (.tmp 22) (.skip) (.exit 2)))
 (.seq (.block 3 (.reg [.u 25 (.fad 6) 1,.u 26 (.load none) 25,.m 27 3,.a 28 (.bld [(.int .u64 0),(.int .u64 0),(.int .u64 0),(.int .u64 0),(.int .u64 0),(.int .u64 0),(.int .u64 0),(.string ⟨#[]⟩),(.bool false),(.bool false)] [(0,1),(9,1)]) [.const (.int .u64 98),.const (.bool true)],.w 29 (.ixa 61 10) 26 27,.s (.store (some 10)) [.tmp 29,.tmp 28]] false keep16))
 (.reg [.m 23 3,.c 24 (.bin .add) 23 1,.m 3 24] false keep16)))))))
theorem fn16:compFn Try.prog 16 keep16=some ⟨30,1,[],body16⟩:=by kernel_rfl
abbrev keep17:List Nat:=[0,2,4,5,6,7,8,13]
def body17:AC:=
 .seq (.reg [.a 2 (.nilS 61) []] false keep17)
 (.seq (.seq (.reg [.m 5 0,.u 6 .len 5,.a 7 .mov [ci 0]] false keep17)
 (.block 0 (.loop (.seq (.reg [.w 8 (.bin .lss) 7 6] false keep17)
 (.seq (.cond (.tmp 8) (.skip) (.exit 0))
 (.seq (.block 1 (.seq (.reg [.w 9 (.ixa 61 10) 5 7,.u 10 (.load (some 10)) 9,.a 4 (.alloc [(.int .u64 0),(.int .u64 0),(.int .u64 0),(.int .u64 0),(.int .u64 0),(.int .u64 0),(.int .u64 0),(.string ⟨#[]⟩),(.bool false),(.bool false)]) [],.s (.store (some 10)) [.tmp 4,.tmp 10]] false keep17)
 (.seq (.reg [.u 11 (.fad 9) 4,.u 12 (.load none) 11,.u 13 .not 12] false keep17)
 (.cond (.tmp 13) (.reg [.m 14 2,.u 15 (.load (some 10)) 4,.u 16 (.bsl 61 10) 15,.w 17 (.app 61 10 80) 14 16,.m 2 17] false keep17) (.skip)))))
 (.reg [.c 18 (.bin .add) 7 1,.m 7 18] false keep17)))))))
 (.seq (.reg [.m 19 2,.m 2 19] false keep17)
 (.ret)))
theorem fn17:compFn Try.prog 17 keep17=some ⟨20,1,[(2,none)],body17⟩:=by kernel_rfl
def body18:AC:=
 .seq (.reg [.u 1 .box 0,.a 2 (.alloc [(.int .u64 0),(.int .u64 0),(.int .u64 0),(.int .u64 0),(.bool false),(.slice none 0 0),(.slice none 0 0),(.bool false)]) []] false [0,1,2])
 (.seq (.reg [.u 3 (.fad 5) 1,.u 4 (.fad 0) 3,.u 5 (.load none) 4,.u 6 (.call 29) 5,⟨some 7,(.fad 6),[.tmp 1],none,[6],none⟩,⟨some 8,(.load none),[.tmp 7],none,[6],none⟩,.u 9 (.call 30) 8,⟨some 10,(.fad 5),[.tmp 1],none,[9],none⟩,⟨some 11,(.fad 0),[.tmp 10],none,[9],none⟩,.s (.store none) [.tmp 11,.tmp 6],.u 12 (.fad 6) 1,.s (.store none) [.tmp 12,.tmp 9]] true [0,1,2])
 (.seq (.reg [.u 13 (.load (some 8)) 1,.s (.store (some 8)) [.tmp 2,.tmp 13]] false [0,1,2])
 (.ret)))
def keep18:List Nat:=[0,1,2]
theorem fn18:compFn Try.prog 18 keep18=some ⟨14,1,[(2,some (some 8))],body18⟩:=by kernel_rfl
def body19:AC:=
 .seq (.reg [.a 0 .mov [.const (.map none)]] false [0])
 (.seq (.reg [.a 1 (.ex .mkv) [],.s (.ex (.puv 6)) [.tmp 1,.const (.int .u8 1),.func 31],.s (.ex (.puv 6)) [.tmp 1,.const (.int .u8 2),.func 32],.s (.ex (.puv 6)) [.tmp 1,.const (.int .u8 3),.func 33],.s (.ex (.puv 6)) [.tmp 1,.const (.int .u8 4),.func 34],.s (.ex (.puv 6)) [.tmp 1,.const (.int .u8 5),.func 35],.s (.ex (.puv 6)) [.tmp 1,.const (.int .u8 6),.func 36],.s (.ex (.puv 6)) [.tmp 1,.const (.int .u8 7),.func 37],.s (.ex (.puv 6)) [.tmp 1,.const (.int .u8 8),.func 38],.m 2 1,.m 0 2] false [0])
 (.ret))
def keep19:List Nat:=[0]
theorem fn19:compFn Try.prog 19 keep19=some ⟨3,0,[(0,none)],body19⟩:=by kernel_rfl
abbrev keep21:List Nat:=[0,1,2,3,4]
def body21:AC:=
 .seq (.reg [.u 2 .box 0,.u 3 .box 1,.a 4 .mov [.const (.bool false)]] false keep21)
 (.seq (.reg [.u 5 (.fad 0) 2,.u 6 (.load none) 5,.u 7 (.fad 0) 3,.u 8 (.load none) 7,.a 9 (.call 41) [.tmp 6,.tmp 8,.func 42],.m 4 9] false keep21)
 (.ret))
theorem fn21:compFn Try.prog 21 keep21=some ⟨10,2,[(4,none)],body21⟩:=by kernel_rfl
abbrev keep22:List Nat:=[0,1,4,5,10,12,13,14,24]
def body22:AC:=
 .seq (.reg [.a 4 .mov [.const (.bool false)]] false keep22)
 (.seq (.seq (.reg [.m 6 0,.u 7 .len 6,.m 8 1,.u 9 .len 8,.w 10 (.bin .neq) 7 9] false keep22)
 (.cond (.tmp 10) (.seq (.reg [.a 4 .mov [.const (.bool false)]] false keep22)
 (.ret)) (.skip)))
 (.seq (.seq (.reg [.m 11 0,.u 12 .len 11,.a 13 .mov [ci 0]] false keep22)
 (.block 0 (.loop (.seq (.reg [.w 14 (.bin .lss) 13 12] false keep22)
 (.seq (.cond (.tmp 14) (.skip) (.exit 0))
 (.seq (.block 1 (.seq (.reg [.m 15 13,.m 5 15] false keep22)
 (.seq (.reg [.m 16 0,.m 17 5,.w 18 (.ixa 61 10) 16 17,.u 19 (.load (some 10)) 18,.m 20 1,.m 21 5,.w 22 (.ixa 61 10) 20 21,.u 23 (.load (some 10)) 22,.a 24 (.eqs true [9,9,9,9,9,9,9,1,0,0]) [.tmp 19,.tmp 23]] true keep22)
 (.cond (.tmp 24) (.seq (.reg [.a 4 .mov [.const (.bool false)]] false keep22)
 (.ret)) (.skip)))))
 (.reg [.c 25 (.bin .add) 13 1,.m 13 25] false keep22)))))))
 (.seq (.reg [.a 4 .mov [.const (.bool true)]] false keep22)
 (.ret))))
theorem fn22:compFn Try.prog 22 keep22=some ⟨26,2,[(4,none)],body22⟩:=by kernel_rfl
abbrev keep23:List Nat:=[0,1,4,5,6,7,14]
def body23:AC:=
 .seq (.reg [.a 4 (.alloc [(.int .u64 0),(.int .u64 0),(.int .u64 0),(.int .u64 0),(.int .u64 0),(.int .u64 0),(.int .u64 0),(.string ⟨#[]⟩),(.bool false),(.bool false)]) [],.a 5 .mov [.const (.bool false)]] false keep23)
 (.seq (.reg [.m 8 0,.u 9 (.call 17) 8,.m 6 9] false keep23)
 (.seq (.seq (.reg [.m 10 6,.m 11 1,.w 12 (.call 43) 10 11,.m 7 12] false keep23)
 (.seq (.reg [.m 13 7,.c 14 (.bin .geq) 13 0] false keep23)
 (.cond (.tmp 14) (.seq (.reg [.m 15 6,.m 16 7,.w 17 (.ixa 61 10) 15 16,.u 18 (.load (some 10)) 17,.s (.store (some 10)) [.tmp 4,.tmp 18],.a 5 .mov [.const (.bool true)]] false keep23)
 (.ret)) (.skip))))
 (.seq (.reg [.a 19 (.bld [(.int .u64 0),(.int .u64 0),(.int .u64 0),(.int .u64 0),(.int .u64 0),(.int .u64 0),(.int .u64 0),(.string ⟨#[]⟩),(.bool false),(.bool false)] []) [],.s (.store (some 10)) [.tmp 4,.tmp 19],.a 5 .mov [.const (.bool false)]] false keep23)
 (.ret))))
theorem fn23:compFn Try.prog 23 keep23=some ⟨20,2,[(4,some (some 10)),(5,none)],body23⟩:=by kernel_rfl
abbrev keep24:List Nat:=[0,1,2,3,4,5,10]
def body24:AC:=
 .seq (.reg [.u 1 .box 0,.a 2 (.nilS 100) []] false keep24)
 (.seq (.reg [.a 3 (.nilS 100) []] false keep24)
 (.seq (.seq (.reg [.a 4 .mov [ci 0]] false keep24)
 (.block 0 (.loop (.seq (.seq (.reg [.m 6 4,.u 7 (.fad 0) 1,.u 8 (.load none) 7,.u 9 .len 8,.w 10 (.bin .lss) 6 9] false keep24)
 (.cond (.tmp 10) (.skip) (.exit 0)))
 (.seq (.block 1 (.seq (.reg [.u 13 (.fad 0) 1,.u 14 (.load none) 13,.m 15 4,.w 16 (.ixa 86 3) 14 15,.u 17 (.load (some 3)) 16,.a 5 (.alloc [(.int .u64 0),(.int .u64 0),(.int .u64 0)]) [],.s (.store (some 3)) [.tmp 5,.tmp 17]] false keep24)
 (.reg [.m 18 3,.u 19 (.fad 0) 5,.u 20 (.load none) 19,.u 21 (.fad 1) 5,.u 22 (.load none) 21,.u 23 (.fad 2) 5,.u 24 (.load none) 23,.a 25 (.bld [(.int .u64 0),(.int .u64 0),(.int .u64 0)] [(0,1),(1,1),(2,1)]) [.tmp 20,.tmp 22,.tmp 24],.u 26 (.bsl 100 3) 25,.w 27 (.app 100 3 24) 18 26,.m 3 27] false keep24)))
 (.reg [.m 11 4,.c 12 (.bin .add) 11 1,.m 4 12] false keep24))))))
 (.seq (.reg [.m 28 3,.m 2 28] false keep24)
 (.ret))))
theorem fn24:compFn Try.prog 24 keep24=some ⟨29,1,[(2,none)],body24⟩:=by kernel_rfl
abbrev keep25:List Nat:=[0,2,3,4,5,9]
def body25:AC:=
 .seq (.reg [.a 2 (.nilS 84) []] false keep25)
 (.seq (.reg [.a 3 (.nilS 84) []] false keep25)
 (.seq (.seq (.reg [.a 4 .mov [ci 0]] false keep25)
 (.block 0 (.loop (.seq (.seq (.reg [.m 6 4,.m 7 0,.u 8 .len 7,.w 9 (.bin .lss) 6 8] false keep25)
 (.cond (.tmp 9) (.skip) (.exit 0)))
 (.seq (.block 1 (.seq (.reg [.m 12 0,.m 13 4,.w 14 (.ixa 61 10) 12 13,.u 15 (.load (some 10)) 14,.a 5 (.alloc [(.int .u64 0),(.int .u64 0),(.int .u64 0),(.int .u64 0),(.int .u64 0),(.int .u64 0),(.int .u64 0),(.string ⟨#[]⟩),(.bool false),(.bool false)]) [],.s (.store (some 10)) [.tmp 5,.tmp 15]] false keep25)
 (.reg [.m 16 3,.u 17 (.fad 0) 5,.u 18 (.load none) 17,.u 19 (.fad 1) 5,.u 20 (.load none) 19,.u 21 (.fad 2) 5,.u 22 (.load none) 21,.u 23 (.fad 3) 5,.u 24 (.load none) 23,.u 25 (.fad 4) 5,.u 26 (.load none) 25,.u 27 (.fad 5) 5,.u 28 (.fad 0) 27,.u 29 (.load none) 28,.u 30 (.fad 5) 5,.u 31 (.fad 1) 30,.u 32 (.load none) 31,.a 33 (.bld [(.int .u64 0),(.int .u64 0)] [(0,1),(1,1)]) [.tmp 29,.tmp 32],.u 34 (.fad 7) 5,.u 35 (.load none) 34,.u 36 (.fad 8) 5,.u 37 (.load none) 36,.u 38 (.fad 9) 5,.u 39 (.load none) 38,.a 40 (.bld [(.int .u64 0),(.int .u64 0),(.int .u64 0),(.int .u64 0),(.int .u64 0),(.int .u64 0),(.int .u64 0),(.string ⟨#[]⟩),(.bool false),(.bool false)] [(0,1),(1,1),(2,1),(3,1),(4,1),(5,2),(7,1),(8,1),(9,1)]) [.tmp 18,.tmp 20,.tmp 22,.tmp 24,.tmp 26,.tmp 33,.tmp 35,.tmp 37,.tmp 39],.u 41 (.bsl 84 10) 40,.w 42 (.app 84 10 80) 16 41,.m 3 42] false keep25)))
 (.reg [.m 10 4,.c 11 (.bin .add) 10 1,.m 4 11] false keep25))))))
 (.seq (.reg [.m 43 3,.m 2 43] false keep25)
 (.ret))))
theorem fn25:compFn Try.prog 25 keep25=some ⟨44,1,[(2,none)],body25⟩:=by kernel_rfl
abbrev keep26:List Nat:=[0,1,4,5,6,7,8,20,24]
def body26:AC:=
 .seq (.reg [.a 4 (.nilS 84) [],.a 5 .mov [ci 0]] false keep26)
 (.seq (.reg [.m 9 0,.u 10 (.call 44) 9,.m 6 10] false keep26)
 (.seq (.seq (.reg [.m 11 0,.u 12 (.call 45) 11,.u 13 .not 12,.m 14 13,.mg 15 6 14 false,.bu 16 .len 15 14 false,.mg 17 1 14 false,.bu 18 .len 17 14 false,.bw 19 (.bin .neq) 16 18 14 false,.po 20 14 19] false keep26)
 (.cond (.tmp 20) (.seq (.reg [.a 4 (.nilS 84) [],.a 5 .mov [ci 2]] false keep26)
 (.ret)) (.skip)))
 (.seq (.reg [.a 7 (.nilS 84) []] false keep26)
 (.seq (.seq (.reg [.a 8 .mov [ci 0]] false keep26)
 (.block 0 (.loop (.seq (.seq (.reg [.m 21 8,.m 22 6,.u 23 .len 22,.w 24 (.bin .lss) 21 23] false keep26)
 (.cond (.tmp 24) (.skip) (.exit 0)))
 (.seq (.block 1 (.reg [.m 27 7,.m 28 6,.m 29 8,.w 30 (.ixa 84 10) 28 29,.u 31 (.fad 0) 30,.u 32 (.load none) 31,.m 33 1,.m 34 8,.w 35 (.ixa 9 1) 33 34,.u 36 (.load none) 35,.a 37 (.bld [(.int .u64 0),(.int .u64 0),(.int .u64 0),(.int .u64 0),(.int .u64 0),(.int .u64 0),(.int .u64 0),(.string ⟨#[]⟩),(.bool false),(.bool false)] [(0,1),(7,1),(8,1)]) [.tmp 32,.tmp 36,.const (.bool true)],.u 38 (.bsl 84 10) 37,.w 39 (.app 84 10 80) 27 38,.m 7 39] true keep26))
 (.reg [.m 25 8,.c 26 (.bin .add) 25 1,.m 8 26] false keep26))))))
 (.seq (.reg [.m 40 7,.m 4 40,.a 5 .mov [ci 0]] false keep26)
 (.ret))))))
theorem fn26:compFn Try.prog 26 keep26=some ⟨41,2,[(4,none),(5,none)],body26⟩:=by kernel_rfl
abbrev keep27:List Nat:=[0,1,4,5,6,7,8,20,21,22,23,24]
def body27:AC:=
 .seq (.reg [.a 4 (.nilS 61) [],.a 5 .mov [ci 0]] false keep27)
 (.seq (.reg [.m 9 0,.u 10 (.call 17) 9,.m 6 10] false keep27)
 (.seq (.seq (.reg [.m 11 0,.u 12 (.call 46) 11,.u 13 .not 12,.m 14 13,.mg 15 1 14 false,.bu 16 .len 15 14 false,.mg 17 6 14 false,.bu 18 .len 17 14 false,.bw 19 (.bin .neq) 16 18 14 false,.po 20 14 19] false keep27)
 (.cond (.tmp 20) (.seq (.reg [.a 4 (.nilS 61) [],.a 5 .mov [ci 2]] false keep27)
 (.ret)) (.skip)))
 (.seq (.seq (.reg [.m 21 6,.u 22 .len 21,.a 23 .mov [ci 0]] false keep27)
 (.block 0 (.loop (.seq (.reg [.w 24 (.bin .lss) 23 22] false keep27)
 (.seq (.cond (.tmp 24) (.skip) (.exit 0))
 (.seq (.block 1 (.seq (.reg [.m 25 23,.w 26 (.ixa 61 10) 21 23,.u 27 (.load (some 10)) 26,.a 8 (.alloc [(.int .u64 0),(.int .u64 0),(.int .u64 0),(.int .u64 0),(.int .u64 0),(.int .u64 0),(.int .u64 0),(.string ⟨#[]⟩),(.bool false),(.bool false)]) [],.m 7 25,.s (.store (some 10)) [.tmp 8,.tmp 27]] false keep27)
 (.reg [.m 28 6,.m 29 7,.u 30 (.fad 0) 8,.u 31 (.load none) 30,.m 32 1,.m 33 7,.w 34 (.ixa 9 1) 32 33,.u 35 (.load none) 34,⟨some 36,(.call 47),[.tmp 31,.tmp 35],none,[],(some 999999)⟩,.w 37 (.ixa 61 10) 28 29,.s (.store (some 10)) [.tmp 37,.tmp 36]] true keep27)))
 (.reg [.c 38 (.bin .add) 23 1,.m 23 38] false keep27)))))))
 (.seq (.reg [.m 39 6,.m 4 39,.a 5 .mov [ci 0]] false keep27)
 (.ret)))))
theorem fn27:compFn Try.prog 27 keep27=some ⟨40,2,[(4,none),(5,none)],body27⟩:=by kernel_rfl
abbrev keep28:List Nat:=[0,1,4,5,10,14,25]
def body28:AC:=
 .seq (.reg [.a 4 .mov [.const (.bool false)]] false keep28)
 (.seq (.seq (.reg [.m 6 0,.u 7 .len 6,.m 8 1,.u 9 .len 8,.w 10 (.bin .neq) 7 9] false keep28)
 (.cond (.tmp 10) (.seq (.reg [.a 4 .mov [.const (.bool false)]] false keep28)
 (.ret)) (.skip)))
 (.seq (.seq (.reg [.a 5 .mov [ci 0]] false keep28)
 (.block 0 (.loop (.seq (.seq (.reg [.m 11 5,.m 12 0,.u 13 .len 12,.w 14 (.bin .lss) 11 13] false keep28)
 (.cond (.tmp 14) (.skip) (.exit 0)))
 (.seq (.block 1 (.seq (.reg [.m 17 0,.m 18 5,.w 19 (.ixa 100 3) 17 18,.u 20 (.load (some 3)) 19,.m 21 1,.m 22 5,.w 23 (.ixa 100 3) 21 22,.u 24 (.load (some 3)) 23,.a 25 (.eqs true [9,9,9]) [.tmp 20,.tmp 24]] true keep28)
 (.cond (.tmp 25) (.seq (.reg [.a 4 .mov [.const (.bool false)]] false keep28)
 (.ret)) (.skip))))
 (.reg [.m 15 5,.c 16 (.bin .add) 15 1,.m 5 16] false keep28))))))
 (.seq (.reg [.a 4 .mov [.const (.bool true)]] false keep28)
 (.ret))))
theorem fn28:compFn Try.prog 28 keep28=some ⟨26,2,[(4,none)],body28⟩:=by kernel_rfl
def body29:AC:=
 .seq (.reg [.a 2 (.nilS 86) []] false [0,2,4])
 (.seq (.seq (.reg [.m 3 0,.u 4 (.ex (.isnil false)) 3] false [0,2,4])
 (.cond (.tmp 4) (.seq (.reg [.a 2 (.nilS 86) []] false [0,2,4])
 (.ret)) (.skip)))
 (.seq (.reg [.a 5 (.bsl 86 3) [],.m 6 0,.w 7 (.app 86 3 24) 5 6,.m 2 7] false [0,2,4])
 (.ret)))
def keep29:List Nat:=[0,2,4]
theorem fn29:compFn Try.prog 29 keep29=some ⟨8,1,[(2,none)],body29⟩:=by kernel_rfl
def body30:AC:=
 .seq (.reg [.a 2 (.nilS 61) []] false [0,2,4])
 (.seq (.seq (.reg [.m 3 0,.u 4 (.ex (.isnil false)) 3] false [0,2,4])
 (.cond (.tmp 4) (.seq (.reg [.a 2 (.nilS 61) []] false [0,2,4])
 (.ret)) (.skip)))
 (.seq (.reg [.a 5 (.bsl 61 10) [],.m 6 0,.w 7 (.app 61 10 80) 5 6,.m 2 7] false [0,2,4])
 (.ret)))
def keep30:List Nat:=[0,2,4]
theorem fn30:compFn Try.prog 30 keep30=some ⟨8,1,[(2,none)],body30⟩:=by kernel_rfl
abbrev keep31:List Nat:=[0,2,3,4]
def body31:AC:=
 .seq (.reg [.a 2 .mov [.const (.bool false)]] false keep31)
 (.seq (.reg [.m 6 0,⟨some 7,.nck,[.tmp 6],none,[3],none⟩,⟨some 8,(.fad 0),[.tmp 7],none,[3],none⟩,⟨some 9,(.fad 0),[.tmp 8],none,[3],none⟩,⟨some 10,(.load (some 5)),[.tmp 9],none,[3],none⟩,.m 11 0,⟨some 12,.nck,[.tmp 11],none,[3],none⟩,⟨some 13,(.fad 8),[.tmp 12],none,[3],none⟩,⟨some 14,(.fad 1),[.tmp 13],none,[3],none⟩,⟨some 15,(.load none),[.tmp 14],none,[3],none⟩,.m 16 0,⟨some 17,.nck,[.tmp 16],none,[3],none⟩,⟨some 18,(.fad 8),[.tmp 17],none,[3],none⟩,⟨some 19,(.fad 2),[.tmp 18],none,[3],none⟩,⟨some 20,(.load none),[.tmp 19],none,[3],none⟩,.m 21 0,⟨some 22,.nck,[.tmp 21],none,[3],none⟩,⟨some 23,(.fad 8),[.tmp 22],none,[3],none⟩,⟨some 24,(.fad 5),[.tmp 23],none,[3],none⟩,⟨some 25,(.load none),[.tmp 24],none,[3],none⟩,⟨some 26,(.call 48),[.tmp 10,.tmp 15,.tmp 20,.tmp 25],none,[3],none⟩,.m 5 26,⟨some 27,(.ext 0),[.tmp 5],none,[3],none⟩,⟨some 28,(.ext 1),[.tmp 5],none,[3,3],none⟩,⟨some 3,(.alloc [(.int .u64 0),(.int .u64 0),(.int .u64 0),(.int .u64 0),(.bool false)]),[],none,[26],none⟩,⟨none,(.store (some 5)),[.tmp 3,.tmp 27],none,[],(some 3)⟩,.m 4 28] true keep31)
 (.seq (.reg [.m 29 0,.u 30 (.load (some 5)) 3,.u 31 .nck 29,.u 32 (.fad 0) 31,.u 33 (.fad 0) 32,.s (.store (some 5)) [.tmp 33,.tmp 30]] false keep31)
 (.seq (.reg [.m 34 0,.u 35 .nck 34,.u 36 (.fad 0) 35,.u 37 (.fad 7) 36,.u 38 (.load none) 37,.u 39 .not 38,.m 40 39,.mg 41 4 40 true,.bc 42 (.bin .eql) 41 0 40 true,.pa 43 40 42,.m 44 43,.bu 45 (.fad 0) 3 44 true,.bu 46 (.load none) 45 44 true,.mg 47 0 44 true,.bu 48 .nck 47 44 true,.bu 49 (.fad 8) 48 44 true,.bu 50 (.fad 4) 49 44 true,.bu 51 (.load none) 50 44 true,.bw 52 (.bin .eql) 46 51 44 true,.pa 53 44 52,.m 2 53] true keep31)
 (.ret))))
theorem fn31:compFn Try.prog 31 keep31=some ⟨54,1,[(2,none)],body31⟩:=by kernel_rfl
def body32:AC:=
 .seq (.reg [.a 2 .mov [.const (.bool false)]] false [0,2,3])
 (.seq (.reg [.m 4 0,.u 5 .nck 4,.u 6 (.fad 0) 5,.u 7 (.fad 7) 6,.u 8 (.load none) 7,.u 9 .not 8,.m 10 9,.mg 11 0 10 true,.bu 12 (.call 49) 11 10 true,.pa 13 10 12,.m 3 13] false [0,2,3])
 (.seq (.reg [.m 14 0,.m 15 0,.u 16 .nck 15,.u 17 (.fad 0) 16,.u 18 (.fad 0) 17,.u 19 (.load (some 5)) 18,.m 20 0,.u 21 .nck 20,.u 22 (.fad 8) 21,.u 23 (.fad 5) 22,.u 24 (.load none) 23,⟨some 25,(.call 50),[.tmp 19,.tmp 24],none,[],(some 999999)⟩,.u 26 .nck 14,.u 27 (.fad 0) 26,.u 28 (.fad 0) 27,.s (.store (some 5)) [.tmp 28,.tmp 25]] true [0,2,3])
 (.seq (.reg [.m 29 3,.m 2 29] false [0,2,3])
 (.ret))))
def keep32:List Nat:=[0,2,3]
theorem fn32:compFn Try.prog 32 keep32=some ⟨30,1,[(2,none)],body32⟩:=by kernel_rfl
def body33:AC:=
 .seq (.reg [.a 2 .mov [.const (.bool false)]] false [0,2,3])
 (.seq (.reg [.m 4 0,.u 5 .nck 4,.u 6 (.fad 0) 5,.u 7 (.fad 7) 6,.u 8 (.load none) 7,.u 9 .not 8,.m 10 9,.mg 11 0 10 true,.bu 12 (.call 49) 11 10 true,.pa 13 10 12,.m 3 13] false [0,2,3])
 (.seq (.reg [.m 14 0,.m 15 0,.u 16 .nck 15,.u 17 (.fad 0) 16,.u 18 (.fad 0) 17,.u 19 (.load (some 5)) 18,.u 20 (.call 51) 19,.u 21 .nck 14,.u 22 (.fad 0) 21,.u 23 (.fad 0) 22,.s (.store (some 5)) [.tmp 23,.tmp 20]] false [0,2,3])
 (.seq (.reg [.m 24 3,.m 2 24] false [0,2,3])
 (.ret))))
def keep33:List Nat:=[0,2,3]
theorem fn33:compFn Try.prog 33 keep33=some ⟨25,1,[(2,none)],body33⟩:=by kernel_rfl
abbrev keep34:List Nat:=[0,2,3,4,5]
def body34:AC:=
 .seq (.reg [.a 2 .mov [.const (.bool false)]] false keep34)
 (.seq (.reg [.m 6 0,.u 7 .nck 6,.u 8 (.fad 8) 7,.u 9 (.load (some 12)) 8,.a 3 (.alloc [(.int .u8 0),(.int .u64 0),(.int .u64 0),(.int .u64 0),(.int .u64 0),(.int .u64 0),(.int .u64 0),(.int .u64 0),(.int .u64 0),(.int .u64 0),(.string ⟨#[]⟩),(.string ⟨#[]⟩)]) [],.s (.store (some 12)) [.tmp 3,.tmp 9]] false keep34)
 (.seq (.reg [.m 11 0,.u 12 .nck 11,.u 13 (.fad 0) 12,.u 14 (.fad 6) 13,.u 15 (.load none) 14,.m 16 0,.u 17 .nck 16,.u 18 (.fad 20) 17,.u 19 (.load none) 18,.u 20 (.fad 6) 3,.u 21 (.load none) 20,.u 22 (.fad 1) 3,.u 23 (.load none) 22,.u 24 (.fad 2) 3,.u 25 (.load none) 24,.u 26 (.fad 3) 3,.u 27 (.load none) 26,.u 28 (.fad 8) 3,.u 29 (.load none) 28,.u 30 (.fad 9) 3,.u 31 (.load none) 30,.a 32 (.bld [(.int .u64 0),(.int .u64 0)] [(0,1),(1,1)]) [.tmp 29,.tmp 31],.a 33 (.bld [(.int .u64 0),(.int .u64 0),(.int .u64 0),(.int .u64 0),(.int .u64 0),(.int .u64 0),(.int .u64 0),(.string ⟨#[]⟩),(.bool false),(.bool false)] [(0,1),(1,1),(2,1),(3,1),(4,1),(5,2)]) [.tmp 19,.tmp 21,.tmp 23,.tmp 25,.tmp 27,.tmp 32],⟨some 34,(.call 52),[.tmp 15,.tmp 33],none,[],(some 999999)⟩,.m 10 34,.u 35 (.ext 0) 10,.u 36 (.ext 1) 10,.m 4 35,.m 5 36] true keep34)
 (.seq (.reg [.m 37 0,.m 38 4,.u 39 .nck 37,.u 40 (.fad 0) 39,.u 41 (.fad 6) 40,.s (.store none) [.tmp 41,.tmp 38]] false keep34)
 (.seq (.reg [.m 42 0,.u 43 .nck 42,.u 44 (.fad 0) 43,.u 45 (.fad 7) 44,.u 46 (.load none) 45,.u 47 .not 46,.m 48 47,.mg 49 0 48 true,.bu 50 (.call 49) 49 48 true,.pa 51 48 50,.m 52 51,.mg 53 5 52 true,.bc 54 (.bin .eql) 53 0 52 true,.pa 55 52 54,.m 2 55] false keep34)
 (.ret)))))
theorem fn34:compFn Try.prog 34 keep34=some ⟨56,1,[(2,none)],body34⟩:=by kernel_rfl
abbrev keep35:List Nat:=[0,2,4,5,6]
def body35:AC:=
 .seq (.reg [.a 2 .mov [.const (.bool false)]] false keep35)
 (.seq (.reg [.m 8 0,⟨some 9,.nck,[.tmp 8],none,[3],none⟩,⟨some 10,(.fad 0),[.tmp 9],none,[3],none⟩,⟨some 11,(.fad 6),[.tmp 10],none,[3],none⟩,⟨some 12,(.load none),[.tmp 11],none,[3],none⟩,.m 13 0,⟨some 14,.nck,[.tmp 13],none,[3],none⟩,⟨some 15,(.fad 8),[.tmp 14],none,[3],none⟩,⟨some 16,(.fad 6),[.tmp 15],none,[3],none⟩,⟨some 17,(.load none),[.tmp 16],none,[3],none⟩,⟨some 18,(.call 23),[.tmp 12,.tmp 17],none,[3],none⟩,.m 7 18,⟨some 19,(.ext 0),[.tmp 7],none,[3],none⟩,⟨some 20,(.ext 1),[.tmp 7],none,[3,3],none⟩,⟨some 3,(.alloc [(.int .u64 0),(.int .u64 0),(.int .u64 0),(.int .u64 0),(.int .u64 0),(.int .u64 0),(.int .u64 0),(.string ⟨#[]⟩),(.bool false),(.bool false)]),[],none,[18],none⟩,⟨none,(.store (some 10)),[.tmp 3,.tmp 19],none,[],(some 3)⟩,.m 4 20] true keep35)
 (.seq (.reg [.m 22 0,⟨some 23,.nck,[.tmp 22],none,[5],none⟩,⟨some 24,(.fad 0),[.tmp 23],none,[5],none⟩,⟨some 25,(.fad 5),[.tmp 24],none,[5],none⟩,⟨some 26,(.load (some 1)),[.tmp 25],none,[5],none⟩,.m 27 0,⟨some 28,.nck,[.tmp 27],none,[5],none⟩,⟨some 29,(.fad 20),[.tmp 28],none,[5],none⟩,⟨some 30,(.load none),[.tmp 29],none,[5],none⟩,.m 31 0,⟨some 32,.nck,[.tmp 31],none,[5],none⟩,⟨some 33,(.fad 8),[.tmp 32],none,[5],none⟩,⟨some 34,(.fad 6),[.tmp 33],none,[5],none⟩,⟨some 35,(.load none),[.tmp 34],none,[5],none⟩,.m 36 0,⟨some 37,.nck,[.tmp 36],none,[5],none⟩,⟨some 38,(.fad 8),[.tmp 37],none,[5],none⟩,⟨some 39,(.fad 5),[.tmp 38],none,[5],none⟩,⟨some 40,(.load none),[.tmp 39],none,[5],none⟩,⟨some 41,(.bld [(.int .u64 0),(.int .u64 0),(.int .u64 0)] [(0,1),(1,1),(2,1)]),[.tmp 30,.tmp 35,.tmp 40],none,[5],none⟩,⟨some 42,(.call 53),[.tmp 26,.tmp 41],none,[5],none⟩,.m 21 42,⟨some 43,(.ext 0),[.tmp 21],none,[5],none⟩,⟨some 44,(.ext 1),[.tmp 21],none,[5,5],none⟩,⟨some 5,(.alloc [(.slice none 0 0)]),[],none,[42],none⟩,⟨none,(.store (some 1)),[.tmp 5,.tmp 43],none,[],(some 5)⟩,.m 6 44] true keep35)
 (.seq (.reg [.m 45 0,.u 46 (.load (some 1)) 5,.u 47 .nck 45,.u 48 (.fad 0) 47,.u 49 (.fad 5) 48,.s (.store (some 1)) [.tmp 49,.tmp 46]] false keep35)
 (.seq (.reg [.m 50 4,.m 51 50,.mg 52 6 51 true,.bc 53 (.bin .eql) 52 0 51 true,.pa 54 51 53,.m 2 54] false keep35)
 (.ret)))))
theorem fn35:compFn Try.prog 35 keep35=some ⟨55,1,[(2,none)],body35⟩:=by kernel_rfl
abbrev keep36:List Nat:=[0,2,3,4]
def body36:AC:=
 .seq (.reg [.a 2 .mov [.const (.bool false)]] false keep36)
 (.seq (.reg [.m 6 0,⟨some 7,.nck,[.tmp 6],none,[3],none⟩,⟨some 8,(.fad 0),[.tmp 7],none,[3],none⟩,⟨some 9,(.fad 5),[.tmp 8],none,[3],none⟩,⟨some 10,(.load (some 1)),[.tmp 9],none,[3],none⟩,.m 11 0,⟨some 12,.nck,[.tmp 11],none,[3],none⟩,⟨some 13,(.fad 8),[.tmp 12],none,[3],none⟩,⟨some 14,(.fad 6),[.tmp 13],none,[3],none⟩,⟨some 15,(.load none),[.tmp 14],none,[3],none⟩,⟨some 16,(.call 54),[.tmp 10,.tmp 15],none,[3],none⟩,.m 5 16,⟨some 17,(.ext 0),[.tmp 5],none,[3],none⟩,⟨some 18,(.ext 1),[.tmp 5],none,[3,3],none⟩,⟨some 3,(.alloc [(.slice none 0 0)]),[],none,[16],none⟩,⟨none,(.store (some 1)),[.tmp 3,.tmp 17],none,[],(some 3)⟩,.m 4 18] true keep36)
 (.seq (.reg [.m 19 0,.u 20 (.load (some 1)) 3,.u 21 .nck 19,.u 22 (.fad 0) 21,.u 23 (.fad 5) 22,.s (.store (some 1)) [.tmp 23,.tmp 20]] false keep36)
 (.seq (.reg [.m 24 4,.c 25 (.bin .eql) 24 0,.m 2 25] false keep36)
 (.ret))))
theorem fn36:compFn Try.prog 36 keep36=some ⟨26,1,[(2,none)],body36⟩:=by kernel_rfl
def body37:AC:=
 .seq (.reg [.a 2 .mov [.const (.bool false)]] false [0,2,3])
 (.seq (.reg [.m 4 0,.u 5 .nck 4,.u 6 (.fad 0) 5,.u 7 (.fad 7) 6,.u 8 (.load none) 7,.m 3 8] false [0,2,3])
 (.seq (.reg [.m 9 0,.u 10 .nck 9,.u 11 (.fad 0) 10,.u 12 (.fad 7) 11,.s (.store none) [.tmp 12,.const (.bool true)]] false [0,2,3])
 (.seq (.reg (
 .m 13 3 :: .u 14 .not 13 :: .m 15 14 :: .mg 16 0 15 true :: .bu 17 .nck 16 15 true :: .bu 18 (.fad 0) 17 15 true :: .bu 19 (.fad 0) 18 15 true :: .bu 20 (.fad 4) 19 15 true :: .bu 21 (.load none) 20 15 true :: .pa 22 15 21 :: .m 23 22 :: .mg 24 0 23 true :: .bu 25 .nck 24 23 true :: .bu 26 (.fad 0) 25 23 true :: .bu 27 (.fad 0) 26 23 true :: .bu 28 (.fad 1) 27 23 true :: .bu 29 (.load none) 28 23 true :: .mg 30 0 23 true :: .bu 31 .nck 30 23 true :: .bu 32 (.fad 8) 31 23 true :: .bu 33 (.fad 1) 32 23 true :: .bu 34 (.load none) 33 23 true :: .bw 35 (.bin .eql) 29 34 23 true :: .pa 36 23 35 :: .m 37 36 :: .mg 38 0 37 true :: .bu 39 .nck 38 37 true :: .bu 40 (.fad 0) 39 37 true :: .bu 41 (.fad 0) 40 37 true :: .bu 42 (.fad 2) 41 37 true :: .bu 43 (.load none) 42 37 true :: .mg 44 0 37 true :: .bu 45 .nck 44 37 true :: .bu 46 (.fad 8) 45 37 true :: .bu 47 (.fad 2) 46 37 true :: .bu 48 (.load none) 47 37 true :: .bw 49 (.bin .eql) 43 48 37 true :: .pa 50 37 49 :: .m 2 50::[]) true [0,2,3])
 (.ret))))
def keep37:List Nat:=[0,2,3]
theorem fn37:compFn Try.prog 37 keep37=some ⟨51,1,[(2,none)],body37⟩:=by kernel_rfl
def body38:AC:=
 .seq (.reg [.a 2 .mov [.const (.bool false)]] false [0,2])
 (.seq (.reg [.m 3 0,.m 4 0,.u 5 .nck 4,.u 6 (.fad 0) 5,.u 7 (.fad 5) 6,.u 8 (.load (some 1)) 7,.m 9 0,.u 10 .nck 9,.u 11 (.fad 8) 10,.u 12 (.fad 7) 11,.u 13 (.load none) 12,.m 14 0,.u 15 .nck 14,.u 16 (.fad 21) 15,.u 17 (.load none) 16,⟨some 18,(.call 55),[.tmp 8,.tmp 13,.tmp 17],none,[],(some 999999)⟩,.u 19 .nck 3,.u 20 (.fad 0) 19,.u 21 (.fad 5) 20,.s (.store (some 1)) [.tmp 21,.tmp 18]] true [0,2])
 (.seq (.reg [.m 22 0,.m 23 0,⟨some 24,.nck,[.tmp 23],none,[33],none⟩,⟨some 25,(.fad 0),[.tmp 24],none,[33],none⟩,⟨some 26,(.fad 6),[.tmp 25],none,[33],none⟩,⟨some 27,(.load none),[.tmp 26],none,[33],none⟩,.m 28 0,.u 29 .nck 28,.u 30 (.fad 0) 29,.u 31 (.fad 5) 30,.u 32 (.load (some 1)) 31,.u 33 (.call 57) 32,⟨some 34,(.call 56),[.tmp 27,.tmp 33],none,[],(some 999999)⟩,.u 35 .nck 22,.u 36 (.fad 0) 35,.u 37 (.fad 6) 36,.s (.store none) [.tmp 37,.tmp 34]] true [0,2])
 (.seq (.reg [.a 2 .mov [.const (.bool true)]] false [0,2])
 (.ret))))
def keep38:List Nat:=[0,2]
theorem fn38:compFn Try.prog 38 keep38=some ⟨38,1,[(2,none)],body38⟩:=by kernel_rfl
def body39:AC:=
 .seq (.reg [.a 0 .mov [.const (.map none)]] false [0])
 (.seq (.reg [.a 1 (.ex .mkv) [],.a 2 (.bsl 116 1) [.const (.int .u8 0),.const (.int .u8 1)],.s (.ex (.puv 6)) [.tmp 1,.const (.int .u8 1),.tmp 2],.a 3 (.bsl 116 1) [.const (.int .u8 0),.const (.int .u8 1)],.s (.ex (.puv 6)) [.tmp 1,.const (.int .u8 2),.tmp 3],.a 4 (.bsl 116 1) [.const (.int .u8 0)],.s (.ex (.puv 6)) [.tmp 1,.const (.int .u8 3),.tmp 4],.a 5 (.bsl 116 1) [.const (.int .u8 0),.const (.int .u8 2),.const (.int .u8 4),.const (.int .u8 5)],.s (.ex (.puv 6)) [.tmp 1,.const (.int .u8 4),.tmp 5],.a 6 (.bsl 116 1) [.const (.int .u8 2),.const (.int .u8 1)],.s (.ex (.puv 6)) [.tmp 1,.const (.int .u8 5),.tmp 6],.a 7 (.bsl 116 1) [.const (.int .u8 2)],.s (.ex (.puv 6)) [.tmp 1,.const (.int .u8 6),.tmp 7],.a 8 (.bsl 116 1) [],.s (.ex (.puv 6)) [.tmp 1,.const (.int .u8 7),.tmp 8],.a 9 (.bsl 116 1) [.const (.int .u8 3)],.s (.ex (.puv 6)) [.tmp 1,.const (.int .u8 8),.tmp 9],.a 10 (.bsl 116 1) [.const (.int .u8 6)],.s (.ex (.puv 6)) [.tmp 1,.const (.int .u8 9),.tmp 10],.a 11 (.bsl 116 1) [.const (.int .u8 6)],.s (.ex (.puv 6)) [.tmp 1,.const (.int .u8 10),.tmp 11],.a 12 (.bsl 116 1) [.const (.int .u8 6),.const (.int .u8 7)],.s (.ex (.puv 6)) [.tmp 1,.const (.int .u8 11),.tmp 12],.m 13 1,.m 0 13] false [0])
 (.ret))
def keep39:List Nat:=[0]
theorem fn39:compFn Try.prog 39 keep39=some ⟨14,0,[(0,none)],body39⟩:=by kernel_rfl
abbrev keep41:List Nat:=[0,1,2,6,7,8,9,14,15,16,17,18,30]
def body41:AC:=
 .seq (.reg [.a 6 .mov [.const (.bool false)]] false keep41)
 (.seq (.seq (.reg [.m 10 0,.u 11 .len 10,.m 12 1,.u 13 .len 12,.w 14 (.bin .neq) 11 13] false keep41)
 (.cond (.tmp 14) (.seq (.reg [.a 6 .mov [.const (.bool false)]] false keep41)
 (.ret)) (.skip)))
 (.seq (.seq (.reg [.m 15 0,.u 16 .len 15,.a 17 .mov [ci 0]] false keep41)
 (.block 0 (.loop (.seq (.reg [.w 18 (.bin .lss) 17 16] false keep41)
 (.seq (.cond (.tmp 18) (.skip) (.exit 0))
 (.seq (.block 1 (.seq (.reg [.m 19 17,.w 20 (.ixa 86 3) 15 17,.u 21 (.load (some 3)) 20,.a 8 (.alloc [(.int .u64 0),(.int .u64 0),(.int .u64 0)]) [],.m 7 19,.s (.store (some 3)) [.tmp 8,.tmp 21]] false keep41)
 (.seq (.reg [.m 22 1,.m 23 7,.w 24 (.ixa 86 3) 22 23,.u 25 (.load (some 3)) 24,.a 9 (.alloc [(.int .u64 0),(.int .u64 0),(.int .u64 0)]) [],.s (.store (some 3)) [.tmp 9,.tmp 25]] false keep41)
 (.seq (.reg [.m 26 2,.u 27 (.load (some 3)) 8,.u 28 (.load (some 3)) 9,.a 29 .calv [.tmp 26,.tmp 27,.tmp 28],.u 30 .not 29] false keep41)
 (.cond (.tmp 30) (.seq (.reg [.a 6 .mov [.const (.bool false)]] false keep41)
 (.ret)) (.skip))))))
 (.reg [.c 31 (.bin .add) 17 1,.m 17 31] false keep41)))))))
 (.seq (.reg [.a 6 .mov [.const (.bool true)]] false keep41)
 (.ret))))
theorem fn41:compFn Try.prog 41 keep41=some ⟨32,3,[(6,none)],body41⟩:=by kernel_rfl
abbrev keep42:List Nat:=[0,1,2,3,4]
def body42:AC:=
 .seq (.reg [.u 2 .box 0,.u 3 .box 1,.a 4 .mov [.const (.bool false)]] false keep42)
 (.seq (.reg [.u 5 (.load (some 3)) 2,.u 6 (.load (some 3)) 3,.a 7 (.eqs false [9,9,9]) [.tmp 5,.tmp 6],.m 4 7] false keep42)
 (.ret))
theorem fn42:compFn Try.prog 42 keep42=some ⟨8,2,[(4,none)],body42⟩:=by kernel_rfl
abbrev keep43:List Nat:=[0,1,3,4]
def body43:AC:=
 .seq (.reg [.u 3 .box 1,.a 4 .mov [ci 0]] false keep43)
 (.seq (.reg [.m 5 0,.u 6 (.mkf 59) 3,.w 7 (.call 58) 5 6,.m 4 7] false keep43)
 (.ret))
theorem fn43:compFn Try.prog 43 keep43=some ⟨8,2,[(4,none)],body43⟩:=by kernel_rfl
abbrev keep44:List Nat:=[0,2,3,4,8,16]
def body44:AC:=
 .seq (.reg [.a 2 (.nilS 84) []] false keep44)
 (.seq (.reg [.a 3 (.nilS 84) []] false keep44)
 (.seq (.seq (.reg [.a 4 .mov [ci 0]] false keep44)
 (.block 0 (.loop (.seq (.seq (.reg [.m 5 4,.m 6 0,.u 7 .len 6,.w 8 (.bin .lss) 5 7] false keep44)
 (.cond (.tmp 8) (.skip) (.exit 0)))
 (.seq (.block 1 (.seq (.reg [.m 11 0,.m 12 4,.w 13 (.ixa 84 10) 11 12,.u 14 (.fad 9) 13,.u 15 (.load none) 14,.u 16 .not 15] false keep44)
 (.cond (.tmp 16) (.reg [.m 17 3,.m 18 0,.m 19 4,.w 20 (.ixa 84 10) 18 19,.u 21 (.load (some 10)) 20,.u 22 (.bsl 84 10) 21,.w 23 (.app 84 10 80) 17 22,.m 3 23] false keep44) (.skip))))
 (.reg [.m 9 4,.c 10 (.bin .add) 9 1,.m 4 10] false keep44))))))
 (.seq (.reg [.m 24 3,.m 2 24] false keep44)
 (.ret))))
theorem fn44:compFn Try.prog 44 keep44=some ⟨25,1,[(2,none)],body44⟩:=by kernel_rfl
abbrev keep45:List Nat:=[0,2,3,7,52]
def body45:AC:=
 .seq (.reg [.a 2 .mov [.const (.bool false)]] false keep45)
 (.seq (.seq (.reg [.a 3 .mov [ci 0]] false keep45)
 (.block 0 (.loop (.seq (.seq (.reg [.m 4 3,.m 5 0,.u 6 .len 5,.w 7 (.bin .lss) 4 6] false keep45)
 (.cond (.tmp 7) (.skip) (.exit 0)))
 (.seq (.block 1 (.seq (.reg (
  .m 10 0 :: .m 11 3 :: .w 12 (.ixa 84 10) 10 11 :: .u 13 (.fad 0) 12 :: .u 14 (.load none) 13 :: .a 15 (.bin .eql) [.tmp 14,.const (.int .u64 0)] :: .m 16 15 :: .mg 17 3 16 false :: .bc 18 (.bin .gtr) 17 0 16 false :: .mg 19 18 16 false :: .mg 20 0 19 true :: .mg 21 3 19 true :: .bw 22 (.ixa 84 10) 20 21 19 true :: .bu 23 (.fad 0) 22 19 true :: .bu 24 (.load none) 23 19 true :: .mg 25 0 19 true :: .mg 26 3 19 true :: .bc 27 (.bin .sub) 26 1 19 true :: .bw 28 (.ixa 84 10) 25 27 19 true :: .bu 29 (.fad 0) 28 19 true :: .bu 30 (.load none) 29 19 true :: .bw 31 (.bin .leq) 24 30 19 true :: .b 32 .pick [.tmp 19,.tmp 31,.const (.bool false)] 16 false :: .po 33 16 32 :: .m 34 33 :: .mg 35 0 34 false :: .mg 36 3 34 false :: .bw 37 (.ixa 84 10) 35 36 34 false :: .bu 38 (.load (some 10)) 37 34 false :: .bu 39 (.call 60) 38 34 false :: .b 40 (.bin .gtr) [.tmp 39,.const (.int .u64 0)] 34 false :: .mg 41 40 34 false :: .mg 42 0 41 true :: .mg 43 3 41 true :: .mg 44 0 41 true :: .mg 45 3 41 true :: .bw 46 (.ixa 84 10) 44 45 41 true :: .bu 47 (.load (some 10)) 46 41 true :: .bu 48 (.call 60) 47 41 true :: .b 49 (.call 61) [.tmp 42,.tmp 43,.tmp 48] 41 true :: .bc 50 (.bin .lss) 49 0 41 true :: .b 51 .pick [.tmp 41,.tmp 50,.const (.bool false)] 34 false :: .po 52 34 51::[]) true keep45)
 (.cond (.tmp 52) (.seq (.reg [.a 2 .mov [.const (.bool false)]] false keep45)
 (.ret)) (.skip))))
 (.reg [.m 8 3,.c 9 (.bin .add) 8 1,.m 3 9] false keep45))))))
 (.seq (.reg [.a 2 .mov [.const (.bool true)]] false keep45)
 (.ret)))
theorem fn45:compFn Try.prog 45 keep45=some ⟨53,1,[(2,none)],body45⟩:=by kernel_rfl
abbrev keep46:List Nat:=[0,2,3,4,5,6,7,8,9,30]
def body46:AC:=
 .seq (.reg [.a 2 .mov [.const (.bool false)]] false keep46)
 (.seq (.reg [.a 3 .mov [.const (.int .u64 0)]] false keep46)
 (.seq (.seq (.reg [.m 6 0,.u 7 .len 6,.a 8 .mov [ci 0]] false keep46)
 (.block 0 (.loop (.seq (.reg [.w 9 (.bin .lss) 8 7] false keep46)
 (.seq (.cond (.tmp 9) (.skip) (.exit 0))
 (.seq (.block 1 (.seq (.reg [.m 10 8,.w 11 (.ixa 61 10) 6 8,.u 12 (.load (some 10)) 11,.a 5 (.alloc [(.int .u64 0),(.int .u64 0),(.int .u64 0),(.int .u64 0),(.int .u64 0),(.int .u64 0),(.int .u64 0),(.string ⟨#[]⟩),(.bool false),(.bool false)]) [],.m 4 10,.s (.store (some 10)) [.tmp 5,.tmp 12]] false keep46)
 (.seq (.seq (.reg [.u 13 (.fad 0) 5,.u 14 (.load none) 13,.m 15 3,.w 16 (.bin .leq) 14 15,.m 17 16,.bu 18 (.load (some 10)) 5 17 false,.bu 19 (.call 62) 18 17 false,.b 20 (.bin .neq) [.tmp 19,.const (.int .u64 0)] 17 false,.mg 21 20 17 false,.mg 22 0 21 true,.mg 23 4 21 true,⟨some 24,(.slc 10 false true),[.tmp 22,.tmp 23],some (21,true),[26],none⟩,.bu 25 (.load (some 10)) 5 21 true,.bu 26 (.call 62) 25 21 true,.bw 27 (.call 43) 24 26 21 true,.bc 28 (.bin .lss) 27 0 21 true,.b 29 .pick [.tmp 21,.tmp 28,.const (.bool false)] 17 false,.po 30 17 29] true keep46)
 (.cond (.tmp 30) (.seq (.reg [.a 2 .mov [.const (.bool false)]] false keep46)
 (.ret)) (.skip)))
 (.reg [.u 31 (.fad 0) 5,.u 32 (.load none) 31,.m 3 32] false keep46))))
 (.reg [.c 33 (.bin .add) 8 1,.m 8 33] false keep46)))))))
 (.seq (.reg [.a 2 .mov [.const (.bool true)]] false keep46)
 (.ret))))
theorem fn46:compFn Try.prog 46 keep46=some ⟨34,1,[(2,none)],body46⟩:=by kernel_rfl
def body47:AC:=
 .seq (.reg [.a 4 (.alloc [(.int .u64 0),(.int .u64 0),(.int .u64 0),(.int .u64 0),(.int .u64 0),(.int .u64 0),(.int .u64 0),(.string ⟨#[]⟩),(.bool false),(.bool false)]) []] false [0,1,4])
 (.seq (.reg [.m 5 0,.m 6 1,.a 7 (.bld [(.int .u64 0),(.int .u64 0),(.int .u64 0),(.int .u64 0),(.int .u64 0),(.int .u64 0),(.int .u64 0),(.string ⟨#[]⟩),(.bool false),(.bool false)] [(0,1),(7,1),(8,1)]) [.tmp 5,.tmp 6,.const (.bool true)],.s (.store (some 10)) [.tmp 4,.tmp 7]] false [0,1,4])
 (.ret))
def keep47:List Nat:=[0,1,4]
theorem fn47:compFn Try.prog 47 keep47=some ⟨8,2,[(4,some (some 10))],body47⟩:=by kernel_rfl
abbrev keep48:List Nat:=[0,1,2,3,4,8,9,10,11,18]
def body48:AC:=
 .seq (.reg [.u 4 .box 0,.a 8 (.alloc [(.int .u64 0),(.int .u64 0),(.int .u64 0),(.int .u64 0),(.bool false)]) [],.a 9 .mov [ci 0]] false keep48)
 (.seq (.reg [.u 13 (.load (some 5)) 4,.u 14 (.call 63) 13,.m 12 14,.u 15 (.ext 0) 12,.u 16 (.ext 1) 12,.m 10 15,.m 11 16] false keep48)
 (.seq (.seq (.reg [.m 17 11,.c 18 (.bin .neq) 17 0] false keep48)
 (.cond (.tmp 18) (.seq (.reg [.u 19 (.load (some 5)) 4,.m 20 11,.s (.store (some 5)) [.tmp 8,.tmp 19],.m 9 20] false keep48)
 (.ret)) (.skip)))
 (.seq (.reg [.m 21 10,.m 22 1,.m 23 2,.m 24 3,.a 25 (.bld [(.int .u64 0),(.int .u64 0),(.int .u64 0),(.int .u64 0),(.bool false)] [(0,1),(1,1),(2,1),(3,1),(4,1)]) [.tmp 21,.tmp 22,.tmp 23,.tmp 24,.const (.bool true)],.s (.store (some 5)) [.tmp 8,.tmp 25],.a 9 .mov [ci 0]] false keep48)
 (.ret))))
theorem fn48:compFn Try.prog 48 keep48=some ⟨26,4,[(8,some (some 5)),(9,none)],body48⟩:=by kernel_rfl
def body49:AC:=
 .seq (.reg [.a 2 .mov [.const (.bool false)]] false [0,2])
 (.seq (.reg [.m 3 0,.u 4 .nck 3,.u 5 (.fad 0) 4,.u 6 (.fad 0) 5,.u 7 (.load (some 5)) 6,.m 8 0,.u 9 .nck 8,.u 10 (.fad 8) 9,.u 11 (.fad 1) 10,.u 12 (.load none) 11,.m 13 0,.u 14 .nck 13,.u 15 (.fad 8) 14,.u 16 (.fad 2) 15,.u 17 (.load none) 16,.m 18 0,.u 19 .nck 18,.u 20 (.fad 8) 19,.u 21 (.fad 4) 20,.u 22 (.load none) 21,⟨some 23,(.call 9),[.tmp 7,.tmp 12,.tmp 17,.tmp 22],none,[],(some 999999)⟩,.m 2 23] true [0,2])
 (.ret))
def keep49:List Nat:=[0,2]
theorem fn49:compFn Try.prog 49 keep49=some ⟨24,1,[(2,none)],body49⟩:=by kernel_rfl
abbrev keep50:List Nat:=[0,1,2,4]
def body50:AC:=
 .seq (.reg [.u 2 .box 0,.a 4 (.alloc [(.int .u64 0),(.int .u64 0),(.int .u64 0),(.int .u64 0),(.bool false)]) []] false keep50)
 (.seq (.reg [.u 5 (.fad 3) 2,.u 6 (.load none) 5,.m 7 1,.w 8 (.mnx true) 6 7,.u 9 (.fad 3) 2,.s (.store none) [.tmp 9,.tmp 8]] false keep50)
 (.seq (.reg [.u 10 (.load (some 5)) 2,.s (.store (some 5)) [.tmp 4,.tmp 10]] false keep50)
 (.ret)))
theorem fn50:compFn Try.prog 50 keep50=some ⟨11,2,[(4,some (some 5))],body50⟩:=by kernel_rfl
def body51:AC:=
 .seq (.reg [.u 1 .box 0,.a 2 (.alloc [(.int .u64 0),(.int .u64 0),(.int .u64 0),(.int .u64 0),(.bool false)]) []] false [0,1,2])
 (.seq (.reg [.u 3 (.fad 4) 1,.s (.store none) [.tmp 3,.const (.bool false)]] false [0,1,2])
 (.seq (.reg [.u 4 (.load (some 5)) 1,.s (.store (some 5)) [.tmp 2,.tmp 4]] false [0,1,2])
 (.ret)))
def keep51:List Nat:=[0,1,2]
theorem fn51:compFn Try.prog 51 keep51=some ⟨5,1,[(2,some (some 5))],body51⟩:=by kernel_rfl
abbrev keep52:List Nat:=[0,1,3,4,5,7,36,50]
def body52:AC:=
 .seq (.reg [.u 3 .box 1,.a 4 (.nilS 61) [],.a 5 .mov [ci 0]] false keep52)
 (.seq (.seq (.reg [.m 8 0,⟨some 9,(.call 46),[.tmp 8],none,[],(some 999999)⟩,.u 10 .not 9,.m 11 10,.bu 12 (.fad 9) 3 11 false,.bu 13 (.load none) 12 11 false,.po 14 11 13,.m 15 14,.bu 16 (.fad 0) 3 15 false,.bu 17 (.load none) 16 15 false,.b 18 (.bin .eql) [.tmp 17,.const (.int .u64 0)] 15 false,.po 19 15 18,.m 20 19,.mg 21 0 20 false,.bu 22 .len 21 20 false,.bc 23 (.bin .gtr) 22 0 20 false,.mg 24 23 20 false,.bu 25 (.fad 0) 3 24 true,.bu 26 (.load none) 25 24 true,.mg 27 0 24 true,.mg 28 0 24 true,.bu 29 .len 28 24 true,.bc 30 (.bin .sub) 29 1 24 true,.bw 31 (.ixa 61 10) 27 30 24 true,.bu 32 (.fad 0) 31 24 true,.bu 33 (.load none) 32 24 true,.bw 34 (.bin .leq) 26 33 24 true,.b 35 .pick [.tmp 24,.tmp 34,.const (.bool false)] 20 false,.po 36 20 35] true keep52)
 (.cond (.tmp 36) (.seq (.reg [.a 4 (.nilS 61) [],.a 5 .mov [ci 2]] false keep52)
 (.ret)) (.skip)))
 (.seq (.seq (.reg [.m 38 0,.u 39 (.load (some 10)) 3,.u 40 (.call 62) 39,.w 41 (.call 23) 38 40,.m 37 41,.u 42 (.ext 0) 37,.u 43 (.ext 1) 37,.a 6 (.alloc [(.int .u64 0),(.int .u64 0),(.int .u64 0),(.int .u64 0),(.int .u64 0),(.int .u64 0),(.int .u64 0),(.string ⟨#[]⟩),(.bool false),(.bool false)]) [],.s (.store (some 10)) [.tmp 6,.tmp 42],.m 7 43] false keep52)
 (.seq (.reg [.u 44 (.load (some 10)) 3,.u 45 (.call 62) 44,.a 46 (.bin .neq) [.tmp 45,.const (.int .u64 0)],.m 47 46,.mg 48 7 47 true,.bu 49 .not 48 47 true,.pa 50 47 49] false keep52)
 (.cond (.tmp 50) (.seq (.reg [.a 4 (.nilS 61) [],.a 5 .mov [ci 150]] false keep52)
 (.ret)) (.skip))))
 (.seq (.reg [.m 51 0,⟨some 52,(.call 30),[.tmp 51],none,[54],none⟩,⟨some 53,(.load (some 10)),[.tmp 3],none,[52],none⟩,⟨some 54,(.bsl 61 10),[.tmp 53],none,[52],none⟩,.w 55 (.app 61 10 80) 52 54,.m 4 55,.a 5 .mov [ci 0]] true keep52)
 (.ret))))
theorem fn52:compFn Try.prog 52 keep52=some ⟨56,2,[(4,none),(5,none)],body52⟩:=by kernel_rfl
abbrev keep53:List Nat:=[0,1,2,3,4,5,6,16]
def body53:AC:=
 .seq (.reg [.u 2 .box 0,.u 3 .box 1,.a 4 (.alloc [(.slice none 0 0)]) [],.a 5 .mov [ci 0]] false keep53)
 (.seq (.reg [⟨some 7,(.fad 0),[.tmp 2],none,[11,6],none⟩,⟨some 8,(.load none),[.tmp 7],none,[11,6],none⟩,⟨some 9,(.call 29),[.tmp 8],none,[11,6],none⟩,⟨some 10,(.load (some 3)),[.tmp 3],none,[9,6],none⟩,⟨some 11,(.bsl 86 3),[.tmp 10],none,[9,6],none⟩,⟨some 12,(.app 86 3 24),[.tmp 9,.tmp 11],none,[6],none⟩,⟨some 13,(.bld [(.slice none 0 0)] [(0,1)]),[.tmp 12],none,[6],none⟩,⟨some 6,(.alloc [(.slice none 0 0)]),[],none,[9,11,12],none⟩,⟨none,(.store (some 1)),[.tmp 6,.tmp 13],none,[],(some 6)⟩] true keep53)
 (.seq (.seq (.reg [.u 14 (.load (some 1)) 6,.u 15 (.call 64) 14,.u 16 .not 15] false keep53)
 (.cond (.tmp 16) (.seq (.reg [.a 17 (.bld [(.slice none 0 0)] []) [],.s (.store (some 1)) [.tmp 4,.tmp 17],.a 5 .mov [ci 2]] false keep53)
 (.ret)) (.skip)))
 (.seq (.reg [.u 18 (.load (some 1)) 6,.s (.store (some 1)) [.tmp 4,.tmp 18],.a 5 .mov [ci 0]] false keep53)
 (.ret))))
theorem fn53:compFn Try.prog 53 keep53=some ⟨19,2,[(4,some (some 1)),(5,none)],body53⟩:=by kernel_rfl
abbrev keep54:List Nat:=[0,1,2,3,4,5,6,12]
def body54:AC:=
 .seq (.reg [.u 2 .box 0,.u 3 .box 1,.a 4 (.alloc [(.slice none 0 0)]) [],.a 5 .mov [ci 0]] false keep54)
 (.seq (.reg [.u 7 (.fad 0) 2,.u 8 (.load none) 7,.u 9 (.mkf 66) 3,.w 10 (.call 65) 8 9,.m 6 10] false keep54)
 (.seq (.seq (.reg [.m 11 6,.c 12 (.bin .lss) 11 0] false keep54)
 (.cond (.tmp 12) (.seq (.reg [.a 13 (.bld [(.slice none 0 0)] []) [],.s (.store (some 1)) [.tmp 4,.tmp 13],.a 5 .mov [ci 80]] false keep54)
 (.ret)) (.skip)))
 (.seq (.reg [.u 14 (.fad 0) 2,.u 15 (.load none) 14,.m 16 6,.w 17 (.slc 3 false true) 15 16,.u 18 (.fad 0) 2,.u 19 (.load none) 18,.m 20 6,.c 21 (.bin .add) 20 1,.w 22 (.slc 3 true false) 19 21,.w 23 (.bsl 27 1) 17 22,⟨some 24,(.call 67),[.tmp 23],none,[],(some 999999)⟩,.a 25 (.bld [(.slice none 0 0)] [(0,1)]) [.tmp 24],.s (.store (some 1)) [.tmp 4,.tmp 25],.a 5 .mov [ci 0]] true keep54)
 (.ret))))
theorem fn54:compFn Try.prog 54 keep54=some ⟨26,2,[(4,some (some 1)),(5,none)],body54⟩:=by kernel_rfl
abbrev keep55:List Nat:=[0,1,2,3,4,5,6,7]
def body55:AC:=
 .seq (.reg [.u 3 .box 0,.u 4 .box 1,.u 5 .box 2,.a 6 (.alloc [(.slice none 0 0)]) []] false keep55)
 (.seq (.reg [.w 8 (.mkf 68) 4 5,.m 7 8] false keep55)
 (.seq (.reg [.u 9 (.fad 0) 3,.u 10 (.load none) 9,.u 11 (.call 29) 10,.m 12 7,.w 13 (.call 70) 11 12,.a 14 (.bld [(.slice none 0 0)] [(0,1)]) [.tmp 13],.s (.store (some 1)) [.tmp 6,.tmp 14]] false keep55)
 (.ret)))
theorem fn55:compFn Try.prog 55 keep55=some ⟨15,3,[(6,some (some 1))],body55⟩:=by kernel_rfl
abbrev keep56:List Nat:=[0,1,4,5,6,8,9,10,12,13,16,19,27,28,29,30,57,58,59,60,70,71,72,73]
def body56:AC:=
 .seq (.reg [.a 4 (.nilS 61) []] false keep56)
 (.seq (.seq (.reg [.m 17 0,.u 18 (.call 46) 17,.u 19 .not 18] false keep56)
 (.cond (.tmp 19) (.seq (.reg [.a 4 (.nilS 61) []] false keep56)
 (.ret)) (.skip)))
 (.seq (.reg [.m 20 0,.u 21 (.call 30) 20,.m 5 21] false keep56)
 (.seq (.reg [.m 23 0,.u 24 (.call 71) 23,.m 22 24,.u 25 (.ext 0) 22,.u 26 (.ext 1) 22,.a 6 (.alloc [(.int .u64 0),(.int .u64 0),(.int .u64 0),(.int .u64 0),(.int .u64 0),(.int .u64 0),(.int .u64 0),(.string ⟨#[]⟩),(.bool false),(.bool false)]) [],.s (.store (some 10)) [.tmp 6,.tmp 25],.m 7 26] false keep56)
 (.seq (.seq (.reg [.m 27 5,.u 28 .len 27,.a 29 .mov [ci 0]] false keep56)
 (.block 0 (.loop (.seq (.reg [.w 30 (.bin .lss) 29 28] false keep56)
 (.seq (.cond (.tmp 30) (.skip) (.exit 0))
 (.seq (.block 1 (.seq (.reg [.m 31 29,.w 32 (.ixa 61 10) 27 29,.u 33 (.load (some 10)) 32,.a 9 (.alloc [(.int .u64 0),(.int .u64 0),(.int .u64 0),(.int .u64 0),(.int .u64 0),(.int .u64 0),(.int .u64 0),(.string ⟨#[]⟩),(.bool false),(.bool false)]) [],.m 8 31,.s (.store (some 10)) [.tmp 9,.tmp 33]] false keep56)
 (.reg [.m 34 5,.m 35 8,.u 36 (.fad 9) 9,.u 37 (.load none) 36,.m 38 37,.bu 39 (.fad 0) 9 38 false,.bu 40 (.load none) 39 38 false,.bu 41 (.fad 0) 6 38 false,.bu 42 (.load none) 41 38 false,.bw 43 (.bin .neq) 40 42 38 false,.mg 44 43 38 false,.mg 45 1 44 true,.bu 46 (.fad 0) 9 44 true,.bu 47 (.load none) 46 44 true,.bw 48 (.call 72) 45 47 44 true,.bu 49 .not 48 44 true,.b 50 .pick [.tmp 44,.tmp 49,.const (.bool false)] 38 false,.po 51 38 50,.w 52 (.ixa 61 10) 34 35,.u 53 (.fad 9) 52,.s (.store none) [.tmp 53,.tmp 51]] false keep56)))
 (.reg [.c 54 (.bin .add) 29 1,.m 29 54] false keep56)))))))
 (.seq (.reg [.a 55 (.ex .mkm) [],.a 10 (.alloc [(.map none)]) [],.s (.store none) [.tmp 10,.tmp 55]] false keep56)
 (.seq (.seq (.reg [.m 56 5,.u 57 (.call 17) 56,.u 58 .len 57,.a 59 .mov [ci 0]] false keep56)
 (.block 2 (.loop (.seq (.reg [.w 60 (.bin .lss) 59 58] false keep56)
 (.seq (.cond (.tmp 60) (.skip) (.exit 2))
 (.seq (.block 3 (.seq (.reg [.w 61 (.ixa 61 10) 57 59,.u 62 (.load (some 10)) 61,.a 12 (.alloc [(.int .u64 0),(.int .u64 0),(.int .u64 0),(.int .u64 0),(.int .u64 0),(.int .u64 0),(.int .u64 0),(.string ⟨#[]⟩),(.bool false),(.bool false)]) [],.s (.store (some 10)) [.tmp 12,.tmp 62]] false keep56)
 (.seq (.reg [.m 64 5,.u 65 (.fad 0) 12,.u 66 (.load none) 65,.w 67 (.call 73) 64 66,.m 63 67,.u 68 (.ext 0) 63,.u 69 (.ext 1) 63,.m 13 68,.m 14 69] false keep56)
 (.seq (.reg [.m 70 13,.u 71 .len 70,.a 72 .mov [ci 0]] false keep56)
 (.block 4 (.loop (.seq (.reg [.w 73 (.bin .lss) 72 71] false keep56)
 (.seq (.cond (.tmp 73) (.skip) (.exit 4))
 (.seq (.block 5 (.seq (.reg [.w 74 (.ixa 61 10) 70 72,.u 75 (.load (some 10)) 74,.a 16 (.alloc [(.int .u64 0),(.int .u64 0),(.int .u64 0),(.int .u64 0),(.int .u64 0),(.int .u64 0),(.int .u64 0),(.string ⟨#[]⟩),(.bool false),(.bool false)]) [],.s (.store (some 10)) [.tmp 16,.tmp 75]] false keep56)
 (.reg [.u 76 (.load none) 10,.u 77 (.fad 0) 16,.u 78 (.load none) 77,.a 79 (.bld [] []) [],.s (.ex (.mput 9)) [.tmp 76,.tmp 78,.tmp 79]] false keep56)))
 (.reg [.c 80 (.bin .add) 72 1,.m 72 80] false keep56))))))))))
 (.reg [.c 81 (.bin .add) 59 1,.m 59 81] false keep56)))))))
 (.seq (.reg [.m 82 5,.u 83 (.mkf 75) 10,.w 84 (.call 74) 82 83,.m 4 84] false keep56)
 (.ret))))))))
theorem fn56:compFn Try.prog 56 keep56=some ⟨85,2,[(4,none)],body56⟩:=by kernel_rfl
abbrev keep57:List Nat:=[0,1,2,3,5,7,8,9,10]
def body57:AC:=
 .seq (.reg [.u 1 .box 0,.a 2 (.nilS 23) []] false keep57)
 (.seq (.reg [.a 3 (.nilS 23) []] false keep57)
 (.seq (.seq (.reg [.u 6 (.fad 0) 1,.u 7 (.load none) 6,.u 8 .len 7,.a 9 .mov [ci 0]] false keep57)
 (.block 0 (.loop (.seq (.reg [.w 10 (.bin .lss) 9 8] false keep57)
 (.seq (.cond (.tmp 10) (.skip) (.exit 0))
 (.seq (.block 1 (.seq (.reg [.w 11 (.ixa 86 3) 7 9,.u 12 (.load (some 3)) 11,.a 5 (.alloc [(.int .u64 0),(.int .u64 0),(.int .u64 0)]) [],.s (.store (some 3)) [.tmp 5,.tmp 12]] false keep57)
 (.reg [.m 13 3,.u 14 (.fad 1) 5,.u 15 (.load none) 14,.u 16 (.bsl 23 1) 15,.w 17 (.app 23 1 8) 13 16,.m 3 17] false keep57)))
 (.reg [.c 18 (.bin .add) 9 1,.m 9 18] false keep57)))))))
 (.seq (.reg [.m 19 3,.u 20 (.call 76) 19] false keep57)
 (.seq (.reg [.m 21 3,.u 22 (.call 77) 21,.m 2 22] false keep57)
 (.ret)))))
theorem fn57:compFn Try.prog 57 keep57=some ⟨23,1,[(2,none)],body57⟩:=by kernel_rfl
abbrev keep58:List Nat:=[0,1,4,5,7,8,9,16]
def body58:AC:=
 .seq (.reg [.a 4 .mov [ci 0]] false keep58)
 (.seq (.seq (.reg [.m 6 0,.u 7 .len 6,.a 8 .mov [ci 0]] false keep58)
 (.block 0 (.loop (.seq (.reg [.w 9 (.bin .lss) 8 7] false keep58)
 (.seq (.cond (.tmp 9) (.skip) (.exit 0))
 (.seq (.block 1 (.seq (.reg [.m 10 8,.m 5 10] false keep58)
 (.seq (.reg [.m 11 1,.m 12 0,.m 13 5,.w 14 (.ixa 61 10) 12 13,.u 15 (.load (some 10)) 14,.w 16 .calv 11 15] false keep58)
 (.cond (.tmp 16) (.seq (.reg [.m 17 5,.m 4 17] false keep58)
 (.ret)) (.skip)))))
 (.reg [.c 18 (.bin .add) 8 1,.m 8 18] false keep58)))))))
 (.seq (.reg [.a 4 .mov [.const (.int .i64 (-1))]] false keep58)
 (.ret)))
theorem fn58:compFn Try.prog 58 keep58=some ⟨19,2,[(4,none)],body58⟩:=by kernel_rfl
abbrev keep59:List Nat:=[0,1,2,3]
def body59:AC:=
 .seq (.reg [.u 2 .box 0,.a 3 .mov [.const (.bool false)]] false keep59)
 (.seq (.reg [.u 4 (.fad 0) 2,.u 5 (.load none) 4,.u 6 (.load none) 1,.w 7 (.bin .eql) 5 6,.m 3 7] false keep59)
 (.ret))
theorem fn59:compFn Try.prog 59 keep59=some ⟨8,2,[(3,none)],body59⟩:=by kernel_rfl
abbrev keep60:List Nat:=[0,1,2,4]
def body60:AC:=
 .seq (.reg [.u 1 .box 0,.a 2 .mov [.const (.int .u64 0)]] false keep60)
 (.seq (.seq (.reg [.u 3 (.fad 8) 1,.u 4 (.load none) 3] false keep60)
 (.cond (.tmp 4) (.seq (.reg [.a 2 .mov [.const (.int .u64 0)]] false keep60)
 (.ret)) (.skip)))
 (.seq (.reg [.u 5 (.fad 1) 1,.u 6 (.load none) 5,.m 2 6] false keep60)
 (.ret)))
theorem fn60:compFn Try.prog 60 keep60=some ⟨7,1,[(2,none)],body60⟩:=by kernel_rfl
abbrev keep61:List Nat:=[0,1,2,6,7,10,19]
def body61:AC:=
 .seq (.reg [.a 6 .mov [ci 0]] false keep61)
 (.seq (.seq (.reg [.a 7 .mov [ci 0]] false keep61)
 (.block 0 (.loop (.seq (.seq (.reg [.m 8 7,.m 9 1,.w 10 (.bin .lss) 8 9] false keep61)
 (.cond (.tmp 10) (.skip) (.exit 0)))
 (.seq (.block 1 (.seq (.reg [.m 13 0,.m 14 7,.w 15 (.ixa 84 10) 13 14,.u 16 (.fad 0) 15,.u 17 (.load none) 16,.m 18 2,.w 19 (.bin .eql) 17 18] false keep61)
 (.cond (.tmp 19) (.seq (.reg [.m 20 7,.m 6 20] false keep61)
 (.ret)) (.skip))))
 (.reg [.m 11 7,.c 12 (.bin .add) 11 1,.m 7 12] false keep61))))))
 (.seq (.reg [.a 6 .mov [.const (.int .i64 (-1))]] false keep61)
 (.ret)))
theorem fn61:compFn Try.prog 61 keep61=some ⟨21,3,[(6,none)],body61⟩:=by kernel_rfl
abbrev keep62:List Nat:=[0,1,2,4]
def body62:AC:=
 .seq (.reg [.u 1 .box 0,.a 2 .mov [.const (.int .u64 0)]] false keep62)
 (.seq (.seq (.reg [.u 3 (.fad 8) 1,.u 4 (.load none) 3] false keep62)
 (.cond (.tmp 4) (.seq (.reg [.a 2 .mov [.const (.int .u64 0)]] false keep62)
 (.ret)) (.skip)))
 (.seq (.reg [.u 5 (.fad 1) 1,.u 6 (.load none) 5,.m 2 6] false keep62)
 (.ret)))
theorem fn62:compFn Try.prog 62 keep62=some ⟨7,1,[(2,none)],body62⟩:=by kernel_rfl
abbrev keep63:List Nat:=[0,1,2,3,6]
def body63:AC:=
 .seq (.reg [.u 1 .box 0,.a 2 .mov [.const (.int .u64 0)],.a 3 .mov [ci 0]] false keep63)
 (.seq (.seq (.reg [.u 4 (.fad 0) 1,.u 5 (.load none) 4,.a 6 (.bin .eql) [.tmp 5,.const (.int .u64 18446744073709551615)]] false keep63)
 (.cond (.tmp 6) (.seq (.reg [.a 2 .mov [.const (.int .u64 0)],.a 3 .mov [ci 131]] false keep63)
 (.ret)) (.skip)))
 (.seq (.reg [.u 7 (.fad 0) 1,.u 8 (.load none) 7,.a 9 (.bin .add) [.tmp 8,.const (.int .u64 1)],.m 2 9,.a 3 .mov [ci 0]] false keep63)
 (.ret)))
theorem fn63:compFn Try.prog 63 keep63=some ⟨10,1,[(2,none),(3,none)],body63⟩:=by kernel_rfl
abbrev keep64:List Nat:=[0,1,2,3,6,7,8,27]
def body64:AC:=
 .seq (.reg [.u 1 .box 0,.a 2 .mov [.const (.bool false)]] false keep64)
 (.seq (.seq (.reg [.u 4 (.fad 0) 1,.u 5 (.load none) 4,.u 6 .len 5,.a 7 .mov [ci 0]] false keep64)
 (.block 0 (.loop (.seq (.reg [.w 8 (.bin .lss) 7 6] false keep64)
 (.seq (.cond (.tmp 8) (.skip) (.exit 0))
 (.seq (.block 1 (.seq (.reg [.m 9 7,.m 3 9] false keep64)
 (.seq (.reg [.m 10 3,.c 11 (.bin .gtr) 10 0,.m 12 11,.bu 13 (.fad 0) 1 12 true,.bu 14 (.load none) 13 12 true,.mg 15 3 12 true,.bc 16 (.bin .sub) 15 1 12 true,.bw 17 (.ixa 86 3) 14 16 12 true,.bu 18 (.fad 0) 17 12 true,.bu 19 (.load none) 18 12 true,.bu 20 (.fad 0) 1 12 true,.bu 21 (.load none) 20 12 true,.mg 22 3 12 true,.bw 23 (.ixa 86 3) 21 22 12 true,.bu 24 (.fad 0) 23 12 true,.bu 25 (.load none) 24 12 true,.bw 26 (.bin .geq) 19 25 12 true,.pa 27 12 26] true keep64)
 (.cond (.tmp 27) (.seq (.reg [.a 2 .mov [.const (.bool false)]] false keep64)
 (.ret)) (.skip)))))
 (.reg [.c 28 (.bin .add) 7 1,.m 7 28] false keep64)))))))
 (.seq (.reg [.a 2 .mov [.const (.bool true)]] false keep64)
 (.ret)))
theorem fn64:compFn Try.prog 64 keep64=some ⟨29,1,[(2,none)],body64⟩:=by kernel_rfl
abbrev keep65:List Nat:=[0,1,4,5,7,8,9,16]
def body65:AC:=
 .seq (.reg [.a 4 .mov [ci 0]] false keep65)
 (.seq (.seq (.reg [.m 6 0,.u 7 .len 6,.a 8 .mov [ci 0]] false keep65)
 (.block 0 (.loop (.seq (.reg [.w 9 (.bin .lss) 8 7] false keep65)
 (.seq (.cond (.tmp 9) (.skip) (.exit 0))
 (.seq (.block 1 (.seq (.reg [.m 10 8,.m 5 10] false keep65)
 (.seq (.reg [.m 11 1,.m 12 0,.m 13 5,.w 14 (.ixa 86 3) 12 13,.u 15 (.load (some 3)) 14,.w 16 .calv 11 15] false keep65)
 (.cond (.tmp 16) (.seq (.reg [.m 17 5,.m 4 17] false keep65)
 (.ret)) (.skip)))))
 (.reg [.c 18 (.bin .add) 8 1,.m 8 18] false keep65)))))))
 (.seq (.reg [.a 4 .mov [.const (.int .i64 (-1))]] false keep65)
 (.ret)))
theorem fn65:compFn Try.prog 65 keep65=some ⟨19,2,[(4,none)],body65⟩:=by kernel_rfl
abbrev keep66:List Nat:=[0,1,2,3]
def body66:AC:=
 .seq (.reg [.u 2 .box 0,.a 3 .mov [.const (.bool false)]] false keep66)
 (.seq (.reg [.u 4 (.fad 0) 2,.u 5 (.load none) 4,.u 6 (.load none) 1,.w 7 (.bin .eql) 5 6,.m 3 7] false keep66)
 (.ret))
theorem fn66:compFn Try.prog 66 keep66=some ⟨8,2,[(3,none)],body66⟩:=by kernel_rfl
abbrev keep67:List Nat:=[0,2,3,5,6,8,9,10,11,12,20,25,26,27,28]
def body67:AC:=
 .seq (.reg [.a 2 (.nilS 86) []] false keep67)
 (.seq (.reg [.a 3 .mov [ci 0]] false keep67)
 (.seq (.seq (.reg [.m 9 0,.u 10 .len 9,.a 11 .mov [ci 0]] false keep67)
 (.block 0 (.loop (.seq (.reg [.w 12 (.bin .lss) 11 10] false keep67)
 (.seq (.cond (.tmp 12) (.skip) (.exit 0))
 (.seq (.block 1 (.seq (.reg [.w 13 (.ixa 27 1) 9 11,.u 14 (.load none) 13,.m 5 14] false keep67)
 (.seq (.reg [.m 15 3,.m 16 5,.u 17 .len 16,.w 18 (.bin .add) 15 17,.m 3 18] false keep67)
 (.seq (.reg [.m 19 3,.c 20 (.bin .lss) 19 0] false keep67)
 (.cond (.tmp 20) (.reg [.a 21 (.ex .dead) [],.s (.ex .dead) []] false keep67) (.skip))))))
 (.reg [.c 22 (.bin .add) 11 1,.m 11 22] false keep67)))))))
 (.seq (.reg [.m 23 3,.a 24 (.call 78) [.const (.slice none 0 0),.tmp 23],.m 6 24] false keep67)
 (.seq (.seq (.reg [.m 25 0,.u 26 .len 25,.a 27 .mov [ci 0]] false keep67)
 (.block 2 (.loop (.seq (.reg [.w 28 (.bin .lss) 27 26] false keep67)
 (.seq (.cond (.tmp 28) (.skip) (.exit 2))
 (.seq (.block 3 (.seq (.reg [.w 29 (.ixa 27 1) 25 27,.u 30 (.load none) 29,.m 8 30] false keep67)
 (.reg [.m 31 6,.m 32 8,.w 33 (.app 86 3 24) 31 32,.m 6 33] false keep67)))
 (.reg [.c 34 (.bin .add) 27 1,.m 27 34] false keep67)))))))
 (.seq (.reg [.m 35 6,.m 2 35] false keep67)
 (.ret))))))
theorem fn67:compFn Try.prog 67 keep67=some ⟨36,1,[(2,none)],body67⟩:=by kernel_rfl
abbrev keep68:List Nat:=[0,1,2,3,4]
def body68:AC:=
 .seq (.reg [.u 3 .box 0,.a 4 .mov [.const (.bool false)]] false keep68)
 (.seq (.reg [.u 5 (.load none) 1,.u 6 (.fad 2) 3,.u 7 (.load none) 6,.u 8 (.load none) 2,.a 9 (.call 69) [.tmp 5,.tmp 7,.tmp 8],.m 4 9] false keep68)
 (.ret))
theorem fn68:compFn Try.prog 68 keep68=some ⟨10,3,[(4,none)],body68⟩:=by kernel_rfl
abbrev keep69:List Nat:=[0,1,2,6,7,8]
def body69:AC:=
 .seq (.reg [.a 6 .mov [.const (.bool false)]] false keep69)
 (.seq (.reg [.m 10 1,.m 11 2,.a 12 (.ex .add64) [.tmp 10,.tmp 11,.const (.int .u64 0)],.m 9 12,.u 13 (.ext 0) 9,.u 14 (.ext 1) 9,.m 7 13,.m 8 14] false keep69)
 (.seq (.reg [.m 15 8,.a 16 (.bin .eql) [.tmp 15,.const (.int .u64 0)],.m 17 16,.mg 18 0 17 true,.mg 19 7 17 true,.bw 20 (.bin .gtr) 18 19 17 true,.pa 21 17 20,.m 6 21] false keep69)
 (.ret)))
theorem fn69:compFn Try.prog 69 keep69=some ⟨22,3,[(6,none)],body69⟩:=by kernel_rfl
abbrev keep70:List Nat:=[0,1,4,5,6,7,12,19,29]
def body70:AC:=
 .seq (.reg [.a 4 (.nilS 86) []] false keep70)
 (.seq (.reg [.m 8 0,.m 9 1,.w 10 (.call 65) 8 9,.m 5 10] false keep70)
 (.seq (.seq (.reg [.m 11 5,.a 12 (.bin .eql) [.tmp 11,.const (.int .i64 (-1))]] false keep70)
 (.cond (.tmp 12) (.seq (.reg [.m 13 0,.m 4 13] false keep70)
 (.ret)) (.skip)))
 (.seq (.seq (.reg [.m 14 5,.c 15 (.bin .add) 14 1,.m 6 15] false keep70)
 (.block 0 (.loop (.seq (.seq (.reg [.m 16 6,.m 17 0,.u 18 .len 17,.w 19 (.bin .lss) 16 18] false keep70)
 (.cond (.tmp 19) (.skip) (.exit 0)))
 (.seq (.block 1 (.seq (.reg [.m 22 0,.m 23 6,.w 24 (.ixa 86 3) 22 23,.u 25 (.load (some 3)) 24,.a 7 (.alloc [(.int .u64 0),(.int .u64 0),(.int .u64 0)]) [],.s (.store (some 3)) [.tmp 7,.tmp 25]] false keep70)
 (.seq (.reg [.m 26 1,.u 27 (.load (some 3)) 7,.w 28 .calv 26 27,.u 29 .not 28] false keep70)
 (.cond (.tmp 29) (.seq (.reg [.m 30 0,.m 31 5,.u 32 (.load (some 3)) 7,.w 33 (.ixa 86 3) 30 31,.s (.store (some 3)) [.tmp 33,.tmp 32]] false keep70)
 (.reg [.m 34 5,.c 35 (.bin .add) 34 1,.m 5 35] false keep70)) (.skip)))))
 (.reg [.m 20 6,.c 21 (.bin .add) 20 1,.m 6 21] false keep70))))))
 (.seq (.reg [.m 36 0,.m 37 5,.w 38 (.slc 3 true false) 36 37,.s (.clr 86 3 [(.int .u64 0),(.int .u64 0),(.int .u64 0)]) [.tmp 38]] false keep70)
 (.seq (.reg [.m 39 0,.m 40 5,.w 41 (.slc 3 false true) 39 40,.m 4 41] false keep70)
 (.ret))))))
theorem fn70:compFn Try.prog 70 keep70=some ⟨42,2,[(4,none)],body70⟩:=by kernel_rfl
abbrev keep71:List Nat:=[0,2,3,4,9]
def body71:AC:=
 .seq (.reg [.a 2 (.alloc [(.int .u64 0),(.int .u64 0),(.int .u64 0),(.int .u64 0),(.int .u64 0),(.int .u64 0),(.int .u64 0),(.string ⟨#[]⟩),(.bool false),(.bool false)]) [],.a 3 .mov [.const (.bool false)]] false keep71)
 (.seq (.reg [.m 5 0,.u 6 (.call 17) 5,.m 4 6] false keep71)
 (.seq (.seq (.reg [.m 7 4,.u 8 .len 7,.c 9 (.bin .eql) 8 0] false keep71)
 (.cond (.tmp 9) (.seq (.reg [.a 10 (.bld [(.int .u64 0),(.int .u64 0),(.int .u64 0),(.int .u64 0),(.int .u64 0),(.int .u64 0),(.int .u64 0),(.string ⟨#[]⟩),(.bool false),(.bool false)] []) [],.s (.store (some 10)) [.tmp 2,.tmp 10],.a 3 .mov [.const (.bool false)]] false keep71)
 (.ret)) (.skip)))
 (.seq (.reg [.m 11 4,.m 12 4,.u 13 .len 12,.c 14 (.bin .sub) 13 1,.w 15 (.ixa 61 10) 11 14,.u 16 (.load (some 10)) 15,.s (.store (some 10)) [.tmp 2,.tmp 16],.a 3 .mov [.const (.bool true)]] false keep71)
 (.ret))))
theorem fn71:compFn Try.prog 71 keep71=some ⟨17,1,[(2,some (some 10)),(3,none)],body71⟩:=by kernel_rfl
def body72:AC:=
 .seq (.reg [.a 4 .mov [.const (.bool false)]] false [0,1,4])
 (.seq (.reg [.m 5 0,.m 6 1,.w 7 (.call 80) 5 6,.c 8 (.bin .geq) 7 0,.m 4 8] false [0,1,4])
 (.ret))
def keep72:List Nat:=[0,1,4]
theorem fn72:compFn Try.prog 72 keep72=some ⟨9,2,[(4,none)],body72⟩:=by kernel_rfl
abbrev keep73:List Nat:=[0,1,4,5,6,7,8,11,19,26]
def body73:AC:=
 .seq (.reg [.a 4 (.nilS 61) [],.a 5 .mov [ci 0]] false keep73)
 (.seq (.seq (.reg [.m 9 0,.u 10 (.call 46) 9,.u 11 .not 10] false keep73)
 (.cond (.tmp 11) (.seq (.reg [.a 4 (.nilS 61) [],.a 5 .mov [ci 2]] false keep73)
 (.ret)) (.skip)))
 (.seq (.reg [.m 13 0,.m 14 1,.w 15 (.call 23) 13 14,.m 12 15,.u 16 (.ext 0) 12,.u 17 (.ext 1) 12,.a 6 (.alloc [(.int .u64 0),(.int .u64 0),(.int .u64 0),(.int .u64 0),(.int .u64 0),(.int .u64 0),(.int .u64 0),(.string ⟨#[]⟩),(.bool false),(.bool false)]) [],.s (.store (some 10)) [.tmp 6,.tmp 16],.m 7 17] false keep73)
 (.seq (.seq (.reg [.m 18 7,.u 19 .not 18] false keep73)
 (.cond (.tmp 19) (.seq (.reg [.a 4 (.nilS 61) [],.a 5 .mov [ci 150]] false keep73)
 (.ret)) (.skip)))
 (.seq (.reg [.a 8 (.nilS 61) []] false keep73)
 (.seq (.skip)
 (.seq (.block 0 (.loop (.block 1 (.seq (.reg [.m 20 8,.u 21 (.load (some 10)) 6,.u 22 (.bsl 61 10) 21,.w 23 (.app 61 10 80) 20 22,.m 8 23] false keep73)
 (.seq (.seq (.reg [.u 24 (.load (some 10)) 6,.u 25 (.call 62) 24,.a 26 (.bin .eql) [.tmp 25,.const (.int .u64 0)]] false keep73)
 (.cond (.tmp 26) (.exit 0) (.skip)))
 (.reg [.m 27 0,.m 28 0,.u 29 (.load (some 10)) 6,.u 30 (.call 62) 29,.w 31 (.call 43) 28 30,.w 32 (.ixa 61 10) 27 31,.u 33 (.load (some 10)) 32,.s (.store (some 10)) [.tmp 6,.tmp 33]] false keep73))))))
 (.seq (.reg [.m 34 8,.u 35 (.call 81) 34] false keep73)
 (.seq (.reg [.m 36 8,.m 4 36,.a 5 .mov [ci 0]] false keep73)
 (.ret)))))))))
theorem fn73:compFn Try.prog 73 keep73=some ⟨37,2,[(4,none),(5,none)],body73⟩:=by kernel_rfl
abbrev keep74:List Nat:=[0,1,4,5,6,7,12,19,29]
def body74:AC:=
 .seq (.reg [.a 4 (.nilS 61) []] false keep74)
 (.seq (.reg [.m 8 0,.m 9 1,.w 10 (.call 58) 8 9,.m 5 10] false keep74)
 (.seq (.seq (.reg [.m 11 5,.a 12 (.bin .eql) [.tmp 11,.const (.int .i64 (-1))]] false keep74)
 (.cond (.tmp 12) (.seq (.reg [.m 13 0,.m 4 13] false keep74)
 (.ret)) (.skip)))
 (.seq (.seq (.reg [.m 14 5,.c 15 (.bin .add) 14 1,.m 6 15] false keep74)
 (.block 0 (.loop (.seq (.seq (.reg [.m 16 6,.m 17 0,.u 18 .len 17,.w 19 (.bin .lss) 16 18] false keep74)
 (.cond (.tmp 19) (.skip) (.exit 0)))
 (.seq (.block 1 (.seq (.reg [.m 22 0,.m 23 6,.w 24 (.ixa 61 10) 22 23,.u 25 (.load (some 10)) 24,.a 7 (.alloc [(.int .u64 0),(.int .u64 0),(.int .u64 0),(.int .u64 0),(.int .u64 0),(.int .u64 0),(.int .u64 0),(.string ⟨#[]⟩),(.bool false),(.bool false)]) [],.s (.store (some 10)) [.tmp 7,.tmp 25]] false keep74)
 (.seq (.reg [.m 26 1,.u 27 (.load (some 10)) 7,.w 28 .calv 26 27,.u 29 .not 28] false keep74)
 (.cond (.tmp 29) (.seq (.reg [.m 30 0,.m 31 5,.u 32 (.load (some 10)) 7,.w 33 (.ixa 61 10) 30 31,.s (.store (some 10)) [.tmp 33,.tmp 32]] false keep74)
 (.reg [.m 34 5,.c 35 (.bin .add) 34 1,.m 5 35] false keep74)) (.skip)))))
 (.reg [.m 20 6,.c 21 (.bin .add) 20 1,.m 6 21] false keep74))))))
 (.seq (.reg [.m 36 0,.m 37 5,.w 38 (.slc 10 true false) 36 37,.s (.clr 61 10 [(.int .u64 0),(.int .u64 0),(.int .u64 0),(.int .u64 0),(.int .u64 0),(.int .u64 0),(.int .u64 0),(.string ⟨#[]⟩),(.bool false),(.bool false)]) [.tmp 38]] false keep74)
 (.seq (.reg [.m 39 0,.m 40 5,.w 41 (.slc 10 false true) 39 40,.m 4 41] false keep74)
 (.ret))))))
theorem fn74:compFn Try.prog 74 keep74=some ⟨42,2,[(4,none)],body74⟩:=by kernel_rfl
abbrev keep75:List Nat:=[0,1,2,3,5]
def body75:AC:=
 .seq (.reg [.u 2 .box 0,.a 3 .mov [.const (.bool false)]] false keep75)
 (.seq (.reg [.u 7 (.load none) 1,.u 8 (.fad 0) 2,.u 9 (.load none) 8,.a 10 (.ex (.mget 9 (.agg #[]) true)) [.tmp 7,.tmp 9],.m 6 10,.u 11 (.ext 0) 6,.u 12 (.ext 1) 6,.a 4 (.alloc []) [],.s (.store (some 0)) [.tmp 4,.tmp 11],.m 5 12] false keep75)
 (.seq (.reg [.m 13 5,.u 14 .not 13,.m 3 14] false keep75)
 (.ret)))
theorem fn75:compFn Try.prog 75 keep75=some ⟨15,2,[(3,none)],body75⟩:=by kernel_rfl
def body76:AC:=
 .seq (.reg [.m 3 0,.u 4 .len 3,.m 2 4] false [0,2])
 (.reg [.m 5 0,.m 6 2,.m 7 2,.u 8 (.cvi .u64) 7,.u 9 (.call 83) 8,.a 10 (.call 82) [.tmp 5,ci 0,.tmp 6,.tmp 9]] false [0,2])
def keep76:List Nat:=[0,2]
theorem fn76:compFn Try.prog 76 keep76=some ⟨11,1,[],body76⟩:=by kernel_rfl
abbrev keep77:List Nat:=[0,2,3,4,5,8,13,25,32,44]
def body77:AC:=
 .seq (.reg [.a 2 (.nilS 23) []] false keep77)
 (.seq (.seq (.reg [.m 6 0,.u 7 .len 6,.c 8 (.bin .lss) 7 2] false keep77)
 (.cond (.tmp 8) (.seq (.reg [.m 9 0,.m 2 9] false keep77)
 (.ret)) (.skip)))
 (.seq (.seq (.reg [.a 3 .mov [ci 1]] false keep77)
 (.block 0 (.loop (.seq (.seq (.reg [.m 10 3,.m 11 0,.u 12 .len 11,.w 13 (.bin .lss) 10 12] false keep77)
 (.cond (.tmp 13) (.skip) (.exit 0)))
 (.seq (.block 1 (.seq (.reg [.m 16 0,.m 17 3,.w 18 (.ixa 23 1) 16 17,.u 19 (.load none) 18,.m 20 0,.m 21 3,.c 22 (.bin .sub) 21 1,.w 23 (.ixa 23 1) 20 22,.u 24 (.load none) 23,.w 25 (.bin .eql) 19 24] true keep77)
 (.cond (.tmp 25) (.seq (.reg [.m 26 0,.m 27 3,.w 28 (.slc 1 true false) 26 27,.m 4 28] false keep77)
 (.seq (.seq (.reg [.a 5 .mov [ci 1]] false keep77)
 (.block 2 (.loop (.seq (.seq (.reg [.m 29 5,.m 30 4,.u 31 .len 30,.w 32 (.bin .lss) 29 31] false keep77)
 (.cond (.tmp 32) (.skip) (.exit 2)))
 (.seq (.block 3 (.seq (.reg [.m 35 4,.m 36 5,.w 37 (.ixa 23 1) 35 36,.u 38 (.load none) 37,.m 39 4,.m 40 5,.c 41 (.bin .sub) 40 1,.w 42 (.ixa 23 1) 39 41,.u 43 (.load none) 42,.w 44 (.bin .neq) 38 43] true keep77)
 (.cond (.tmp 44) (.seq (.reg [.m 45 0,.m 46 3,.m 47 4,.m 48 5,.w 49 (.ixa 23 1) 47 48,.u 50 (.load none) 49,.w 51 (.ixa 23 1) 45 46,.s (.store none) [.tmp 51,.tmp 50]] false keep77)
 (.reg [.m 52 3,.c 53 (.bin .add) 52 1,.m 3 53] false keep77)) (.skip))))
 (.reg [.m 33 5,.c 34 (.bin .add) 33 1,.m 5 34] false keep77))))))
 (.seq (.reg [.m 54 0,.m 55 3,.w 56 (.slc 1 true false) 54 55,.s (.clr 23 1 [(.int .u64 0)]) [.tmp 56]] false keep77)
 (.seq (.reg [.m 57 0,.m 58 3,.w 59 (.slc 1 false true) 57 58,.m 2 59] false keep77)
 (.ret))))) (.skip))))
 (.reg [.m 14 3,.c 15 (.bin .add) 14 1,.m 3 15] false keep77))))))
 (.seq (.reg [.m 60 0,.m 2 60] false keep77)
 (.ret))))
theorem fn77:compFn Try.prog 77 keep77=some ⟨61,1,[(2,none)],body77⟩:=by kernel_rfl
abbrev keep78:List Nat:=[0,1,4,6,16]
def body78:AC:=
 .seq (.reg [.a 4 (.nilS 86) []] false keep78)
 (.seq (.seq (.reg [.m 5 1,.c 6 (.bin .lss) 5 0] false keep78)
 (.cond (.tmp 6) (.reg [.a 7 (.ex .dead) [],.s (.ex .dead) []] false keep78) (.skip)))
 (.seq (.seq (.reg [.m 8 1,.m 9 0,.u 10 (.ex .capn) 9,.m 11 0,.u 12 .len 11,.w 13 (.bin .sub) 10 12,.w 14 (.bin .sub) 8 13,.m 1 14] false keep78)
 (.seq (.reg [.m 15 1,.c 16 (.bin .gtr) 15 0] false keep78)
 (.cond (.tmp 16) (.reg [.m 17 0,.m 18 0,.u 19 (.ex .capn) 18,.w 20 (.slc 3 false true) 17 19,.m 21 1,.a 22 (.ex (.appz 86 3 24 [(.int .u64 0),(.int .u64 0),(.int .u64 0)])) [.tmp 20,.tmp 21],.m 23 0,.u 24 .len 23,.w 25 (.slc 3 false true) 22 24,.m 0 25] false keep78) (.skip))))
 (.seq (.reg [.m 26 0,.m 4 26] false keep78)
 (.ret))))
theorem fn78:compFn Try.prog 78 keep78=some ⟨27,2,[(4,none)],body78⟩:=by kernel_rfl
abbrev keep80:List Nat:=[0,1,4,5,7,8,9,16]
def body80:AC:=
 .seq (.reg [.a 4 .mov [ci 0]] false keep80)
 (.seq (.seq (.reg [.m 6 0,.u 7 .len 6,.a 8 .mov [ci 0]] false keep80)
 (.block 0 (.loop (.seq (.reg [.w 9 (.bin .lss) 8 7] false keep80)
 (.seq (.cond (.tmp 9) (.skip) (.exit 0))
 (.seq (.block 1 (.seq (.reg [.m 10 8,.m 5 10] false keep80)
 (.seq (.reg [.m 11 1,.m 12 0,.m 13 5,.w 14 (.ixa 23 1) 12 13,.u 15 (.load none) 14,.w 16 (.bin .eql) 11 15] false keep80)
 (.cond (.tmp 16) (.seq (.reg [.m 17 5,.m 4 17] false keep80)
 (.ret)) (.skip)))))
 (.reg [.c 18 (.bin .add) 8 1,.m 8 18] false keep80)))))))
 (.seq (.reg [.a 4 .mov [.const (.int .i64 (-1))]] false keep80)
 (.ret)))
theorem fn80:compFn Try.prog 80 keep80=some ⟨19,2,[(4,none)],body80⟩:=by kernel_rfl
abbrev keep81:List Nat:=[0,2,3,9]
def body81:AC:=
 .seq (.reg [.m 4 0,.u 5 .len 4,.c 6 (.bin .sub) 5 1,.a 2 .mov [ci 0],.m 3 6] false keep81)
 (.block 0 (.loop (.seq (.seq (.reg [.m 7 2,.m 8 3,.w 9 (.bin .lss) 7 8] false keep81)
 (.cond (.tmp 9) (.skip) (.exit 0)))
 (.seq (.block 1 (.reg [.m 14 0,.m 15 2,.m 16 0,.m 17 3,.m 18 0,.m 19 3,.w 20 (.ixa 61 10) 18 19,.u 21 (.load (some 10)) 20,.m 22 0,.m 23 2,.w 24 (.ixa 61 10) 22 23,.u 25 (.load (some 10)) 24,.w 26 (.ixa 61 10) 14 15,.s (.store (some 10)) [.tmp 26,.tmp 21],.w 27 (.ixa 61 10) 16 17,.s (.store (some 10)) [.tmp 27,.tmp 25]] true keep81))
 (.reg [.m 10 2,.c 11 (.bin .add) 10 1,.m 12 3,.c 13 (.bin .sub) 12 1,.m 2 11,.m 3 13] false keep81)))))
theorem fn81:compFn Try.prog 81 keep81=some ⟨28,1,[],body81⟩:=by kernel_rfl
abbrev keep82:List Nat:=[0,1,2,3,8,9,10,11,12,13,14,15,16,17,18,23,29,35,50,68,72,87,113]
def body82:AC:=
 .seq (.reg [.a 8 .mov [.const (.bool true)]] false keep82)
 (.seq (.reg [.a 9 .mov [.const (.bool true)]] false keep82)
 (.block 0 (.loop (.block 1 (.seq (.reg [.m 19 2,.m 20 1,.w 21 (.bin .sub) 19 20,.m 10 21] false keep82)
 (.seq (.seq (.reg [.m 22 10,.c 23 (.bin .leq) 22 12] false keep82)
 (.cond (.tmp 23) (.seq (.reg [.m 24 0,.m 25 1,.m 26 2,.a 27 (.call 84) [.tmp 24,.tmp 25,.tmp 26]] false keep82)
 (.ret)) (.skip)))
 (.seq (.seq (.reg [.m 28 3,.c 29 (.bin .eql) 28 0] false keep82)
 (.cond (.tmp 29) (.seq (.reg [.m 30 0,.m 31 1,.m 32 2,.a 33 (.call 85) [.tmp 30,.tmp 31,.tmp 32]] false keep82)
 (.ret)) (.skip)))
 (.seq (.seq (.reg [.m 34 8,.u 35 .not 34] false keep82)
 (.cond (.tmp 35) (.seq (.reg [.m 36 0,.m 37 1,.m 38 2,.a 39 (.call 86) [.tmp 36,.tmp 37,.tmp 38]] false keep82)
 (.reg [.m 40 3,.c 41 (.bin .sub) 40 1,.m 3 41] false keep82)) (.skip)))
 (.seq (.reg [.m 43 0,.m 44 1,.m 45 2,.a 46 (.call 87) [.tmp 43,.tmp 44,.tmp 45],.m 42 46,.u 47 (.ext 0) 42,.u 48 (.ext 1) 42,.m 11 47,.m 12 48] false keep82)
 (.seq (.seq (.reg [.m 49 12,.c 50 (.bin .eql) 49 2] false keep82)
 (.cond (.tmp 50) (.seq (.reg [.m 51 0,.m 52 1,.m 53 2,.a 54 (.call 88) [.tmp 51,.tmp 52,.tmp 53]] false keep82)
 (.seq (.reg [.m 55 2,.c 56 (.bin .sub) 55 1,.m 57 11,.m 58 1,.w 59 (.bin .sub) 57 58,.w 60 (.bin .sub) 56 59,.m 11 60] false keep82)
 (.reg [.a 12 .mov [ci 1]] false keep82))) (.skip)))
 (.seq (.seq (.reg [.m 61 8,.m 62 61,.mg 63 9 62 true,.pa 64 62 63,.m 65 64,.mg 66 12 65 true,.bc 67 (.bin .eql) 66 1 65 true,.pa 68 65 67] false keep82)
 (.cond (.tmp 68) (.seq (.reg [.m 69 0,.m 70 1,.m 71 2,.a 72 (.call 89) [.tmp 69,.tmp 70,.tmp 71]] false keep82)
 (.cond (.tmp 72) (.ret) (.skip))) (.skip)))
 (.seq (.seq (.reg [.m 73 1,.c 74 (.bin .gtr) 73 0,.m 75 74,.mg 76 0 75 true,.mg 77 1 75 true,.bc 78 (.bin .sub) 77 1 75 true,.bw 79 (.ixa 23 1) 76 78 75 true,.bu 80 (.load none) 79 75 true,.mg 81 0 75 true,.mg 82 11 75 true,.bw 83 (.ixa 23 1) 81 82 75 true,.bu 84 (.load none) 83 75 true,.bw 85 (.call 90) 80 84 75 true,.bu 86 .not 85 75 true,.pa 87 75 86] true keep82)
 (.cond (.tmp 87) (.seq (.reg [.m 88 0,.m 89 1,.m 90 2,.m 91 11,.a 92 (.call 91) [.tmp 88,.tmp 89,.tmp 90,.tmp 91],.m 13 92] false keep82)
 (.seq (.reg [.m 93 13,.m 1 93] false keep82)
 (.exit 1))) (.skip)))
 (.seq (.reg [.m 95 0,.m 96 1,.m 97 2,.m 98 11,.a 99 (.call 92) [.tmp 95,.tmp 96,.tmp 97,.tmp 98],.m 94 99,.u 100 (.ext 0) 94,.u 101 (.ext 1) 94,.m 14 100,.m 15 101] false keep82)
 (.seq (.reg [.m 102 15,.m 9 102] false keep82)
 (.seq (.reg [.m 103 14,.m 104 1,.w 105 (.bin .sub) 103 104,.m 106 2,.m 107 14,.w 108 (.bin .sub) 106 107,.m 16 105,.m 17 108] false keep82)
 (.seq (.reg [.m 109 10,.c 110 (.bin .quo) 109 8,.m 18 110] false keep82)
 (.seq (.reg [.m 111 16,.m 112 17,.w 113 (.bin .lss) 111 112] false keep82)
 (.cond (.tmp 113) (.seq (.reg [.m 114 16,.m 115 18,.w 116 (.bin .geq) 114 115,.m 8 116] false keep82)
 (.seq (.reg [.m 117 0,.m 118 1,.m 119 14,.m 120 3,.a 121 (.call 82) [.tmp 117,.tmp 118,.tmp 119,.tmp 120]] false keep82)
 (.reg [.m 122 14,.c 123 (.bin .add) 122 1,.m 1 123] false keep82))) (.seq (.reg [.m 124 17,.m 125 18,.w 126 (.bin .geq) 124 125,.m 8 126] false keep82)
 (.seq (.reg [.m 127 0,.m 128 14,.c 129 (.bin .add) 128 1,.m 130 2,.m 131 3,.a 132 (.call 82) [.tmp 127,.tmp 129,.tmp 130,.tmp 131]] false keep82)
 (.reg [.m 133 14,.m 2 133] false keep82)))))))))))))))))))))
theorem fn82:compFn Try.prog 82 keep82=some ⟨134,4,[],body82⟩:=by kernel_rfl
def body83:AC:=
 .seq (.reg [.a 2 .mov [ci 0]] false [0,2])
 (.seq (.cond (.const (.bool false)) (.seq (.reg [.m 3 0,.u 4 (.cvi .u32) 3,.u 5 (.call 93) 4,.m 2 5] false [0,2])
 (.ret)) (.skip))
 (.seq (.reg [.m 6 0,.u 7 (.call 94) 6,.m 2 7] false [0,2])
 (.ret)))
def keep83:List Nat:=[0,2]
theorem fn83:compFn Try.prog 83 keep83=some ⟨8,1,[(2,none)],body83⟩:=by kernel_rfl
abbrev keep84:List Nat:=[0,1,2,6,7,12,30]
def body84:AC:=
 .seq (.reg [.m 8 1,.c 9 (.bin .add) 8 1,.m 6 9] false keep84)
 (.block 0 (.loop (.seq (.seq (.reg [.m 10 6,.m 11 2,.w 12 (.bin .lss) 10 11] false keep84)
 (.cond (.tmp 12) (.skip) (.exit 0)))
 (.seq (.block 1 (.seq (.reg [.m 15 6,.m 7 15] false keep84)
 (.block 2 (.loop (.seq (.seq (.reg [.m 16 7,.m 17 1,.w 18 (.bin .gtr) 16 17,.m 19 18,.mg 20 0 19 true,.mg 21 7 19 true,.bw 22 (.ixa 23 1) 20 21 19 true,.bu 23 (.load none) 22 19 true,.mg 24 0 19 true,.mg 25 7 19 true,.bc 26 (.bin .sub) 25 1 19 true,.bw 27 (.ixa 23 1) 24 26 19 true,.bu 28 (.load none) 27 19 true,.bw 29 (.call 90) 23 28 19 true,.pa 30 19 29] true keep84)
 (.cond (.tmp 30) (.skip) (.exit 2)))
 (.seq (.block 3 (.reg [.m 33 0,.m 34 7,.m 35 0,.m 36 7,.c 37 (.bin .sub) 36 1,.m 38 0,.m 39 7,.c 40 (.bin .sub) 39 1,.w 41 (.ixa 23 1) 38 40,.u 42 (.load none) 41,.m 43 0,.m 44 7,.w 45 (.ixa 23 1) 43 44,.u 46 (.load none) 45,.w 47 (.ixa 23 1) 33 34,.s (.store none) [.tmp 47,.tmp 42],.w 48 (.ixa 23 1) 35 37,.s (.store none) [.tmp 48,.tmp 46]] true keep84))
 (.reg [.m 31 7,.c 32 (.bin .sub) 31 1,.m 7 32] false keep84)))))))
 (.reg [.m 13 6,.c 14 (.bin .add) 13 1,.m 6 14] false keep84)))))
theorem fn84:compFn Try.prog 84 keep84=some ⟨49,3,[],body84⟩:=by kernel_rfl
abbrev keep85:List Nat:=[0,1,2,6,7,8,9,10,19,30]
def body85:AC:=
 .seq (.reg [.m 11 1,.m 6 11] false keep85)
 (.seq (.reg [.a 7 .mov [ci 0]] false keep85)
 (.seq (.reg [.m 12 2,.m 13 1,.w 14 (.bin .sub) 12 13,.m 8 14] false keep85)
 (.seq (.seq (.reg [.m 15 8,.c 16 (.bin .sub) 15 1,.c 17 (.bin .quo) 16 2,.m 9 17] false keep85)
 (.block 0 (.loop (.seq (.seq (.reg [.m 18 9,.c 19 (.bin .geq) 18 0] false keep85)
 (.cond (.tmp 19) (.skip) (.exit 0)))
 (.seq (.block 1 (.reg [.m 22 0,.m 23 9,.m 24 8,.m 25 6,.a 26 (.call 95) [.tmp 22,.tmp 23,.tmp 24,.tmp 25]] false keep85))
 (.reg [.m 20 9,.c 21 (.bin .sub) 20 1,.m 9 21] false keep85))))))
 (.seq (.reg [.m 27 8,.c 28 (.bin .sub) 27 1,.m 10 28] false keep85)
 (.block 2 (.loop (.seq (.seq (.reg [.m 29 10,.c 30 (.bin .geq) 29 0] false keep85)
 (.cond (.tmp 30) (.skip) (.exit 2)))
 (.seq (.block 3 (.seq (.reg [.m 33 0,.m 34 6,.m 35 0,.m 36 6,.m 37 10,.w 38 (.bin .add) 36 37,.m 39 0,.m 40 6,.m 41 10,.w 42 (.bin .add) 40 41,.w 43 (.ixa 23 1) 39 42,.u 44 (.load none) 43,.m 45 0,.m 46 6,.w 47 (.ixa 23 1) 45 46,.u 48 (.load none) 47,.w 49 (.ixa 23 1) 33 34,.s (.store none) [.tmp 49,.tmp 44],.w 50 (.ixa 23 1) 35 38,.s (.store none) [.tmp 50,.tmp 48]] true keep85)
 (.reg [.m 51 0,.m 52 7,.m 53 10,.m 54 6,.a 55 (.call 95) [.tmp 51,.tmp 52,.tmp 53,.tmp 54]] false keep85)))
 (.reg [.m 31 10,.c 32 (.bin .sub) 31 1,.m 10 32] false keep85)))))))))
theorem fn85:compFn Try.prog 85 keep85=some ⟨56,3,[],body85⟩:=by kernel_rfl
abbrev keep86:List Nat:=[0,1,2,6,7,8,9,10,15,33,43]
def body86:AC:=
 .seq (.reg [.m 11 2,.m 12 1,.w 13 (.bin .sub) 11 12,.m 6 13] false keep86)
 (.seq (.reg [.m 14 6,.c 15 (.bin .geq) 14 8] false keep86)
 (.cond (.tmp 15) (.seq (.reg [.m 16 6,.u 17 (.cvi .u64) 16,.a 7 (.alloc [(.int .u64 0)]) [],.s (.store none) [.tmp 7,.tmp 17]] false keep86)
 (.seq (.reg [.m 18 6,.u 19 (.call 96) 18,.m 8 19] false keep86)
 (.seq (.reg [.m 20 1,.m 21 6,.c 22 (.bin .quo) 21 4,.c 23 (.bin .mul) 22 2,.w 24 (.bin .add) 20 23,.c 25 (.bin .sub) 24 1,.m 9 25] false keep86)
 (.block 0 (.loop (.seq (.seq (.reg [.m 26 9,.m 27 1,.m 28 6,.c 29 (.bin .quo) 28 4,.c 30 (.bin .mul) 29 2,.w 31 (.bin .add) 27 30,.c 32 (.bin .add) 31 1,.w 33 (.bin .leq) 26 32] false keep86)
 (.cond (.tmp 33) (.skip) (.exit 0)))
 (.seq (.block 1 (.seq (.reg [.u 36 (.call 97) 7,.m 37 8,.a 38 (.bin .sub) [.tmp 37,.const (.int .u64 1)],.w 39 (.bin .and) 36 38,.u 40 (.cvi .i64) 39,.m 10 40] false keep86)
 (.seq (.seq (.reg [.m 41 10,.m 42 6,.w 43 (.bin .geq) 41 42] false keep86)
 (.cond (.tmp 43) (.reg [.m 44 10,.m 45 6,.w 46 (.bin .sub) 44 45,.m 10 46] false keep86) (.skip)))
 (.reg [.m 47 0,.m 48 9,.m 49 0,.m 50 1,.m 51 10,.w 52 (.bin .add) 50 51,.m 53 0,.m 54 1,.m 55 10,.w 56 (.bin .add) 54 55,.w 57 (.ixa 23 1) 53 56,.u 58 (.load none) 57,.m 59 0,.m 60 9,.w 61 (.ixa 23 1) 59 60,.u 62 (.load none) 61,.w 63 (.ixa 23 1) 47 48,.s (.store none) [.tmp 63,.tmp 58],.w 64 (.ixa 23 1) 49 52,.s (.store none) [.tmp 64,.tmp 62]] true keep86))))
 (.reg [.m 34 9,.c 35 (.bin .add) 34 1,.m 9 35] false keep86)))))))) (.skip)))
theorem fn86:compFn Try.prog 86 keep86=some ⟨65,3,[],body86⟩:=by kernel_rfl
abbrev keep87:List Nat:=[0,1,2,6,7,8,9,10,11,12,32,34,49,51,54]
def body87:AC:=
 .seq (.reg [.a 6 .mov [ci 0],.a 7 .mov [ci 0]] false keep87)
 (.seq (.reg [.m 13 2,.m 14 1,.w 15 (.bin .sub) 13 14,.m 8 15] false keep87)
 (.seq (.reg [.a 9 (.alloc [(.int .i64 0)]) []] false keep87)
 (.seq (.reg [.m 16 1,.m 17 8,.c 18 (.bin .quo) 17 4,.c 19 (.bin .mul) 18 1,.w 20 (.bin .add) 16 19,.m 10 20] false keep87)
 (.seq (.reg [.m 21 1,.m 22 8,.c 23 (.bin .quo) 22 4,.c 24 (.bin .mul) 23 2,.w 25 (.bin .add) 21 24,.m 11 25] false keep87)
 (.seq (.reg [.m 26 1,.m 27 8,.c 28 (.bin .quo) 27 4,.c 29 (.bin .mul) 28 3,.w 30 (.bin .add) 26 29,.m 12 30] false keep87)
 (.seq (.seq (.reg [.m 31 8,.c 32 (.bin .geq) 31 8] false keep87)
 (.cond (.tmp 32) (.seq (.seq (.reg [.m 33 8,.c 34 (.bin .geq) 33 50] false keep87)
 (.cond (.tmp 34) (.seq (.reg [.m 35 0,.m 36 10,.a 37 (.call 98) [.tmp 35,.tmp 36,.tmp 9],.m 10 37] false keep87)
 (.seq (.reg [.m 38 0,.m 39 11,.a 40 (.call 98) [.tmp 38,.tmp 39,.tmp 9],.m 11 40] false keep87)
 (.reg [.m 41 0,.m 42 12,.a 43 (.call 98) [.tmp 41,.tmp 42,.tmp 9],.m 12 43] false keep87))) (.skip)))
 (.reg [.m 44 0,.m 45 10,.m 46 11,.m 47 12,.a 48 (.call 99) [.tmp 44,.tmp 45,.tmp 46,.tmp 47,.tmp 9],.m 11 48] false keep87)) (.skip)))
 (.seq (.reg [.u 49 (.load none) 9] false keep87)
 (.block 0 (.seq (.reg [.c 52 (.bin .eql) 49 0,.m 51 52] false keep87)
 (.cond (.tmp 51) (.seq (.reg [.m 53 11,.m 6 53,.a 7 .mov [ci 1]] false keep87)
 (.ret)) (.seq (.reg [.c 55 (.bin .eql) 49 12,.m 54 55] false keep87)
 (.cond (.tmp 54) (.seq (.reg [.m 56 11,.m 6 56,.a 7 .mov [ci 2]] false keep87)
 (.ret)) (.seq (.reg [.m 50 11,.m 6 50,.a 7 .mov [ci 0]] false keep87)
 (.ret))))))))))))))
theorem fn87:compFn Try.prog 87 keep87=some ⟨57,3,[(6,none),(7,none)],body87⟩:=by kernel_rfl
abbrev keep88:List Nat:=[0,1,2,6,7,13]
def body88:AC:=
 .seq (.reg [.m 8 1,.m 6 8] false keep88)
 (.seq (.reg [.m 9 2,.c 10 (.bin .sub) 9 1,.m 7 10] false keep88)
 (.block 0 (.loop (.seq (.seq (.reg [.m 11 6,.m 12 7,.w 13 (.bin .lss) 11 12] false keep88)
 (.cond (.tmp 13) (.skip) (.exit 0)))
 (.block 1 (.seq (.reg [.m 14 0,.m 15 6,.m 16 0,.m 17 7,.m 18 0,.m 19 7,.w 20 (.ixa 23 1) 18 19,.u 21 (.load none) 20,.m 22 0,.m 23 6,.w 24 (.ixa 23 1) 22 23,.u 25 (.load none) 24,.w 26 (.ixa 23 1) 14 15,.s (.store none) [.tmp 26,.tmp 21],.w 27 (.ixa 23 1) 16 17,.s (.store none) [.tmp 27,.tmp 25]] true keep88)
 (.seq (.reg [.m 28 6,.c 29 (.bin .add) 28 1,.m 6 29] false keep88)
 (.reg [.m 30 7,.c 31 (.bin .sub) 30 1,.m 7 31] false keep88))))))))
theorem fn88:compFn Try.prog 88 keep88=some ⟨32,3,[],body88⟩:=by kernel_rfl
abbrev keep89:List Nat:=[0,1,2,6,7,8,9,10,14,32,37,41,61,65,78,98,103,116]
def body89:AC:=
 .seq (.reg [.a 6 .mov [.const (.bool false)]] false keep89)
 (.seq (.reg [.m 11 1,.c 12 (.bin .add) 11 1,.m 7 12] false keep89)
 (.seq (.seq (.reg [.a 8 .mov [ci 0]] false keep89)
 (.block 0 (.loop (.seq (.seq (.reg [.m 13 8,.c 14 (.bin .lss) 13 5] false keep89)
 (.cond (.tmp 14) (.skip) (.exit 0)))
 (.seq (.block 1 (.seq (.block 2 (.loop (.seq (.seq (.reg [.m 17 7,.m 18 2,.w 19 (.bin .lss) 17 18,.m 20 19,.mg 21 0 20 true,.mg 22 7 20 true,.bw 23 (.ixa 23 1) 21 22 20 true,.bu 24 (.load none) 23 20 true,.mg 25 0 20 true,.mg 26 7 20 true,.bc 27 (.bin .sub) 26 1 20 true,.bw 28 (.ixa 23 1) 25 27 20 true,.bu 29 (.load none) 28 20 true,.bw 30 (.call 90) 24 29 20 true,.bu 31 .not 30 20 true,.pa 32 20 31] true keep89)
 (.cond (.tmp 32) (.skip) (.exit 2)))
 (.block 3 (.reg [.m 33 7,.c 34 (.bin .add) 33 1,.m 7 34] false keep89)))))
 (.seq (.seq (.reg [.m 35 7,.m 36 2,.w 37 (.bin .eql) 35 36] false keep89)
 (.cond (.tmp 37) (.seq (.reg [.a 6 .mov [.const (.bool true)]] false keep89)
 (.ret)) (.skip)))
 (.seq (.seq (.reg [.m 38 2,.m 39 1,.w 40 (.bin .sub) 38 39,.c 41 (.bin .lss) 40 50] false keep89)
 (.cond (.tmp 41) (.seq (.reg [.a 6 .mov [.const (.bool false)]] false keep89)
 (.ret)) (.skip)))
 (.seq (.reg [.m 42 0,.m 43 7,.m 44 0,.m 45 7,.c 46 (.bin .sub) 45 1,.m 47 0,.m 48 7,.c 49 (.bin .sub) 48 1,.w 50 (.ixa 23 1) 47 49,.u 51 (.load none) 50,.m 52 0,.m 53 7,.w 54 (.ixa 23 1) 52 53,.u 55 (.load none) 54,.w 56 (.ixa 23 1) 42 43,.s (.store none) [.tmp 56,.tmp 51],.w 57 (.ixa 23 1) 44 46,.s (.store none) [.tmp 57,.tmp 55]] true keep89)
 (.seq (.seq (.reg [.m 58 7,.m 59 1,.w 60 (.bin .sub) 58 59,.c 61 (.bin .geq) 60 2] false keep89)
 (.cond (.tmp 61) (.seq (.reg [.m 62 7,.c 63 (.bin .sub) 62 1,.m 9 63] false keep89)
 (.block 4 (.loop (.seq (.seq (.reg [.m 64 9,.c 65 (.bin .geq) 64 1] false keep89)
 (.cond (.tmp 65) (.skip) (.exit 4)))
 (.seq (.block 5 (.seq (.seq (.reg [.m 68 0,.m 69 9,.w 70 (.ixa 23 1) 68 69,.u 71 (.load none) 70,.m 72 0,.m 73 9,.c 74 (.bin .sub) 73 1,.w 75 (.ixa 23 1) 72 74,.u 76 (.load none) 75,⟨some 77,(.call 90),[.tmp 71,.tmp 76],none,[],(some 999999)⟩,.u 78 .not 77] true keep89)
 (.cond (.tmp 78) (.exit 4) (.skip)))
 (.reg [.m 79 0,.m 80 9,.m 81 0,.m 82 9,.c 83 (.bin .sub) 82 1,.m 84 0,.m 85 9,.c 86 (.bin .sub) 85 1,.w 87 (.ixa 23 1) 84 86,.u 88 (.load none) 87,.m 89 0,.m 90 9,.w 91 (.ixa 23 1) 89 90,.u 92 (.load none) 91,.w 93 (.ixa 23 1) 79 80,.s (.store none) [.tmp 93,.tmp 88],.w 94 (.ixa 23 1) 81 83,.s (.store none) [.tmp 94,.tmp 92]] true keep89)))
 (.reg [.m 66 9,.c 67 (.bin .sub) 66 1,.m 9 67] false keep89)))))) (.skip)))
 (.seq (.reg [.m 95 2,.m 96 7,.w 97 (.bin .sub) 95 96,.c 98 (.bin .geq) 97 2] false keep89)
 (.cond (.tmp 98) (.seq (.reg [.m 99 7,.c 100 (.bin .add) 99 1,.m 10 100] false keep89)
 (.block 6 (.loop (.seq (.seq (.reg [.m 101 10,.m 102 2,.w 103 (.bin .lss) 101 102] false keep89)
 (.cond (.tmp 103) (.skip) (.exit 6)))
 (.seq (.block 7 (.seq (.seq (.reg [.m 106 0,.m 107 10,.w 108 (.ixa 23 1) 106 107,.u 109 (.load none) 108,.m 110 0,.m 111 10,.c 112 (.bin .sub) 111 1,.w 113 (.ixa 23 1) 110 112,.u 114 (.load none) 113,⟨some 115,(.call 90),[.tmp 109,.tmp 114],none,[],(some 999999)⟩,.u 116 .not 115] true keep89)
 (.cond (.tmp 116) (.exit 6) (.skip)))
 (.reg [.m 117 0,.m 118 10,.m 119 0,.m 120 10,.c 121 (.bin .sub) 120 1,.m 122 0,.m 123 10,.c 124 (.bin .sub) 123 1,.w 125 (.ixa 23 1) 122 124,.u 126 (.load none) 125,.m 127 0,.m 128 10,.w 129 (.ixa 23 1) 127 128,.u 130 (.load none) 129,.w 131 (.ixa 23 1) 117 118,.s (.store none) [.tmp 131,.tmp 126],.w 132 (.ixa 23 1) 119 121,.s (.store none) [.tmp 132,.tmp 130]] true keep89)))
 (.reg [.m 104 10,.c 105 (.bin .add) 104 1,.m 10 105] false keep89)))))) (.skip)))))))))
 (.reg [.m 15 8,.c 16 (.bin .add) 15 1,.m 8 16] false keep89))))))
 (.seq (.reg [.a 6 .mov [.const (.bool false)]] false keep89)
 (.ret))))
theorem fn89:compFn Try.prog 89 keep89=some ⟨133,3,[(6,none)],body89⟩:=by kernel_rfl
def body90:AC:=
 .seq (.reg [.a 4 .mov [.const (.bool false)]] false [0,1,4])
 (.seq (.reg [.m 5 0,.u 6 (.call 100) 5,.m 7 6,.mg 8 1 7 true,.bu 9 (.call 100) 8 7 true,.bu 10 .not 9 7 true,.pa 11 7 10,.m 12 11,.mg 13 0 12 false,.mg 14 1 12 false,.bw 15 (.bin .lss) 13 14 12 false,.po 16 12 15,.m 4 16] false [0,1,4])
 (.ret))
def keep90:List Nat:=[0,1,4]
theorem fn90:compFn Try.prog 90 keep90=some ⟨17,2,[(4,none)],body90⟩:=by kernel_rfl
abbrev keep91:List Nat:=[0,1,2,3,8,9,10,43,59,64]
def body91:AC:=
 .seq (.reg [.a 8 .mov [ci 0]] false keep91)
 (.seq (.reg [.m 11 0,.m 12 1,.m 13 0,.m 14 3,.m 15 0,.m 16 3,.w 17 (.ixa 23 1) 15 16,.u 18 (.load none) 17,.m 19 0,.m 20 1,.w 21 (.ixa 23 1) 19 20,.u 22 (.load none) 21,.w 23 (.ixa 23 1) 11 12,.s (.store none) [.tmp 23,.tmp 18],.w 24 (.ixa 23 1) 13 14,.s (.store none) [.tmp 24,.tmp 22]] true keep91)
 (.seq (.reg [.m 25 1,.c 26 (.bin .add) 25 1,.m 27 2,.c 28 (.bin .sub) 27 1,.m 9 26,.m 10 28] false keep91)
 (.seq (.block 0 (.loop (.block 1 (.seq (.block 2 (.loop (.seq (.seq (.reg [.m 29 9,.m 30 10,.w 31 (.bin .leq) 29 30,.m 32 31,.mg 33 0 32 true,.mg 34 1 32 true,.bw 35 (.ixa 23 1) 33 34 32 true,.bu 36 (.load none) 35 32 true,.mg 37 0 32 true,.mg 38 9 32 true,.bw 39 (.ixa 23 1) 37 38 32 true,.bu 40 (.load none) 39 32 true,.bw 41 (.call 90) 36 40 32 true,.bu 42 .not 41 32 true,.pa 43 32 42] true keep91)
 (.cond (.tmp 43) (.skip) (.exit 2)))
 (.block 3 (.reg [.m 44 9,.c 45 (.bin .add) 44 1,.m 9 45] false keep91)))))
 (.seq (.block 4 (.loop (.seq (.seq (.reg [.m 46 9,.m 47 10,.w 48 (.bin .leq) 46 47,.m 49 48,.mg 50 0 49 true,.mg 51 1 49 true,.bw 52 (.ixa 23 1) 50 51 49 true,.bu 53 (.load none) 52 49 true,.mg 54 0 49 true,.mg 55 10 49 true,.bw 56 (.ixa 23 1) 54 55 49 true,.bu 57 (.load none) 56 49 true,.bw 58 (.call 90) 53 57 49 true,.pa 59 49 58] true keep91)
 (.cond (.tmp 59) (.skip) (.exit 4)))
 (.block 5 (.reg [.m 60 10,.c 61 (.bin .sub) 60 1,.m 10 61] false keep91)))))
 (.seq (.seq (.reg [.m 62 9,.m 63 10,.w 64 (.bin .gtr) 62 63] false keep91)
 (.cond (.tmp 64) (.exit 0) (.skip)))
 (.seq (.reg [.m 65 0,.m 66 9,.m 67 0,.m 68 10,.m 69 0,.m 70 10,.w 71 (.ixa 23 1) 69 70,.u 72 (.load none) 71,.m 73 0,.m 74 9,.w 75 (.ixa 23 1) 73 74,.u 76 (.load none) 75,.w 77 (.ixa 23 1) 65 66,.s (.store none) [.tmp 77,.tmp 72],.w 78 (.ixa 23 1) 67 68,.s (.store none) [.tmp 78,.tmp 76]] true keep91)
 (.seq (.reg [.m 79 9,.c 80 (.bin .add) 79 1,.m 9 80] false keep91)
 (.reg [.m 81 10,.c 82 (.bin .sub) 81 1,.m 10 82] false keep91)))))))))
 (.seq (.reg [.m 83 9,.m 8 83] false keep91)
 (.ret)))))
theorem fn91:compFn Try.prog 91 keep91=some ⟨84,4,[(8,none)],body91⟩:=by kernel_rfl
abbrev keep92:List Nat:=[0,1,2,3,8,9,10,11,43,60,65,112,129,134]
def body92:AC:=
 .seq (.reg [.a 8 .mov [ci 0],.a 9 .mov [.const (.bool false)]] false keep92)
 (.seq (.reg [.m 12 0,.m 13 1,.m 14 0,.m 15 3,.m 16 0,.m 17 3,.w 18 (.ixa 23 1) 16 17,.u 19 (.load none) 18,.m 20 0,.m 21 1,.w 22 (.ixa 23 1) 20 21,.u 23 (.load none) 22,.w 24 (.ixa 23 1) 12 13,.s (.store none) [.tmp 24,.tmp 19],.w 25 (.ixa 23 1) 14 15,.s (.store none) [.tmp 25,.tmp 23]] true keep92)
 (.seq (.reg [.m 26 1,.c 27 (.bin .add) 26 1,.m 28 2,.c 29 (.bin .sub) 28 1,.m 10 27,.m 11 29] false keep92)
 (.seq (.block 0 (.loop (.seq (.seq (.reg [.m 30 10,.m 31 11,.w 32 (.bin .leq) 30 31,.m 33 32,.mg 34 0 33 true,.mg 35 10 33 true,.bw 36 (.ixa 23 1) 34 35 33 true,.bu 37 (.load none) 36 33 true,.mg 38 0 33 true,.mg 39 1 33 true,.bw 40 (.ixa 23 1) 38 39 33 true,.bu 41 (.load none) 40 33 true,.bw 42 (.call 90) 37 41 33 true,.pa 43 33 42] true keep92)
 (.cond (.tmp 43) (.skip) (.exit 0)))
 (.block 1 (.reg [.m 44 10,.c 45 (.bin .add) 44 1,.m 10 45] false keep92)))))
 (.seq (.block 2 (.loop (.seq (.seq (.reg [.m 46 10,.m 47 11,.w 48 (.bin .leq) 46 47,.m 49 48,.mg 50 0 49 true,.mg 51 11 49 true,.bw 52 (.ixa 23 1) 50 51 49 true,.bu 53 (.load none) 52 49 true,.mg 54 0 49 true,.mg 55 1 49 true,.bw 56 (.ixa 23 1) 54 55 49 true,.bu 57 (.load none) 56 49 true,.bw 58 (.call 90) 53 57 49 true,.bu 59 .not 58 49 true,.pa 60 49 59] true keep92)
 (.cond (.tmp 60) (.skip) (.exit 2)))
 (.block 3 (.reg [.m 61 11,.c 62 (.bin .sub) 61 1,.m 11 62] false keep92)))))
 (.seq (.seq (.reg [.m 63 10,.m 64 11,.w 65 (.bin .gtr) 63 64] false keep92)
 (.cond (.tmp 65) (.seq (.reg [.m 66 0,.m 67 11,.m 68 0,.m 69 1,.m 70 0,.m 71 1,.w 72 (.ixa 23 1) 70 71,.u 73 (.load none) 72,.m 74 0,.m 75 11,.w 76 (.ixa 23 1) 74 75,.u 77 (.load none) 76,.w 78 (.ixa 23 1) 66 67,.s (.store none) [.tmp 78,.tmp 73],.w 79 (.ixa 23 1) 68 69,.s (.store none) [.tmp 79,.tmp 77]] true keep92)
 (.seq (.reg [.m 80 11,.m 8 80,.a 9 .mov [.const (.bool true)]] false keep92)
 (.ret))) (.skip)))
 (.seq (.reg [.m 81 0,.m 82 10,.m 83 0,.m 84 11,.m 85 0,.m 86 11,.w 87 (.ixa 23 1) 85 86,.u 88 (.load none) 87,.m 89 0,.m 90 10,.w 91 (.ixa 23 1) 89 90,.u 92 (.load none) 91,.w 93 (.ixa 23 1) 81 82,.s (.store none) [.tmp 93,.tmp 88],.w 94 (.ixa 23 1) 83 84,.s (.store none) [.tmp 94,.tmp 92]] true keep92)
 (.seq (.reg [.m 95 10,.c 96 (.bin .add) 95 1,.m 10 96] false keep92)
 (.seq (.reg [.m 97 11,.c 98 (.bin .sub) 97 1,.m 11 98] false keep92)
 (.seq (.block 4 (.loop (.block 5 (.seq (.block 6 (.loop (.seq (.seq (.reg [.m 99 10,.m 100 11,.w 101 (.bin .leq) 99 100,.m 102 101,.mg 103 0 102 true,.mg 104 10 102 true,.bw 105 (.ixa 23 1) 103 104 102 true,.bu 106 (.load none) 105 102 true,.mg 107 0 102 true,.mg 108 1 102 true,.bw 109 (.ixa 23 1) 107 108 102 true,.bu 110 (.load none) 109 102 true,.bw 111 (.call 90) 106 110 102 true,.pa 112 102 111] true keep92)
 (.cond (.tmp 112) (.skip) (.exit 6)))
 (.block 7 (.reg [.m 113 10,.c 114 (.bin .add) 113 1,.m 10 114] false keep92)))))
 (.seq (.block 8 (.loop (.seq (.seq (.reg [.m 115 10,.m 116 11,.w 117 (.bin .leq) 115 116,.m 118 117,.mg 119 0 118 true,.mg 120 11 118 true,.bw 121 (.ixa 23 1) 119 120 118 true,.bu 122 (.load none) 121 118 true,.mg 123 0 118 true,.mg 124 1 118 true,.bw 125 (.ixa 23 1) 123 124 118 true,.bu 126 (.load none) 125 118 true,.bw 127 (.call 90) 122 126 118 true,.bu 128 .not 127 118 true,.pa 129 118 128] true keep92)
 (.cond (.tmp 129) (.skip) (.exit 8)))
 (.block 9 (.reg [.m 130 11,.c 131 (.bin .sub) 130 1,.m 11 131] false keep92)))))
 (.seq (.seq (.reg [.m 132 10,.m 133 11,.w 134 (.bin .gtr) 132 133] false keep92)
 (.cond (.tmp 134) (.exit 4) (.skip)))
 (.seq (.reg [.m 135 0,.m 136 10,.m 137 0,.m 138 11,.m 139 0,.m 140 11,.w 141 (.ixa 23 1) 139 140,.u 142 (.load none) 141,.m 143 0,.m 144 10,.w 145 (.ixa 23 1) 143 144,.u 146 (.load none) 145,.w 147 (.ixa 23 1) 135 136,.s (.store none) [.tmp 147,.tmp 142],.w 148 (.ixa 23 1) 137 138,.s (.store none) [.tmp 148,.tmp 146]] true keep92)
 (.seq (.reg [.m 149 10,.c 150 (.bin .add) 149 1,.m 10 150] false keep92)
 (.reg [.m 151 11,.c 152 (.bin .sub) 151 1,.m 11 152] false keep92)))))))))
 (.seq (.reg [.m 153 0,.m 154 11,.m 155 0,.m 156 1,.m 157 0,.m 158 1,.w 159 (.ixa 23 1) 157 158,.u 160 (.load none) 159,.m 161 0,.m 162 11,.w 163 (.ixa 23 1) 161 162,.u 164 (.load none) 163,.w 165 (.ixa 23 1) 153 154,.s (.store none) [.tmp 165,.tmp 160],.w 166 (.ixa 23 1) 155 156,.s (.store none) [.tmp 166,.tmp 164]] true keep92)
 (.seq (.reg [.m 167 11,.m 8 167,.a 9 .mov [.const (.bool false)]] false keep92)
 (.ret))))))))))))
theorem fn92:compFn Try.prog 92 keep92=some ⟨168,4,[(8,none),(9,none)],body92⟩:=by kernel_rfl
abbrev keep94:List Nat:=[0,2,4,8,14]
def body94:AC:=
 .seq (.reg [.a 2 .mov [ci 0]] false keep94)
 (.seq (.seq (.reg [.m 3 0,.a 4 (.bin .geq) [.tmp 3,.const (.int .u64 4294967296)]] false keep94)
 (.cond (.tmp 4) (.seq (.reg [.m 5 0,.a 6 (.bin .shr) [.tmp 5,.const (.int .u64 32)],.m 0 6] false keep94)
 (.reg [.a 2 .mov [ci 32]] false keep94)) (.skip)))
 (.seq (.seq (.reg [.m 7 0,.a 8 (.bin .geq) [.tmp 7,.const (.int .u64 65536)]] false keep94)
 (.cond (.tmp 8) (.seq (.reg [.m 9 0,.a 10 (.bin .shr) [.tmp 9,.const (.int .u64 16)],.m 0 10] false keep94)
 (.reg [.m 11 2,.c 12 (.bin .add) 11 16,.m 2 12] false keep94)) (.skip)))
 (.seq (.seq (.reg [.m 13 0,.a 14 (.bin .geq) [.tmp 13,.const (.int .u64 256)]] false keep94)
 (.cond (.tmp 14) (.seq (.reg [.m 15 0,.a 16 (.bin .shr) [.tmp 15,.const (.int .u64 8)],.m 0 16] false keep94)
 (.reg [.m 17 2,.c 18 (.bin .add) 17 8,.m 2 18] false keep94)) (.skip)))
 (.seq (.reg [.m 19 2,.m 20 0,.u 21 (.cvi .u8) 20,.a 22 .sidx [.const (.string ⟨#[0,1,2,2,3,3,3,3,4,4,4,4,4,4,4,4,5,5,5,5,5,5,5,5,5,5,5,5,5,5,5,5,6,6,6,6,6,6,6,6,6,6,6,6,6,6,6,6,6,6,6,6,6,6,6,6,6,6,6,6,6,6,6,6,7,7,7,7,7,7,7,7,7,7,7,7,7,7,7,7,7,7,7,7,7,7,7,7,7,7,7,7,7,7,7,7,7,7,7,7,7,7,7,7,7,7,7,7,7,7,7,7,7,7,7,7,7,7,7,7,7,7,7,7,7,7,7,7,8,8,8,8,8,8,8,8,8,8,8,8,8,8,8,8,8,8,8,8,8,8,8,8,8,8,8,8,8,8,8,8,8,8,8,8,8,8,8,8,8,8,8,8,8,8,8,8,8,8,8,8,8,8,8,8,8,8,8,8,8,8,8,8,8,8,8,8,8,8,8,8,8,8,8,8,8,8,8,8,8,8,8,8,8,8,8,8,8,8,8,8,8,8,8,8,8,8,8,8,8,8,8,8,8,8,8,8,8,8,8,8,8,8,8,8,8,8,8,8,8,8,8,8,8,8,8,8]⟩),.tmp 21],.u 23 (.cvi .i64) 22,.w 24 (.bin .add) 19 23,.m 2 24] false keep94)
 (.ret)))))
theorem fn94:compFn Try.prog 94 keep94=some ⟨25,1,[(2,none)],body94⟩:=by kernel_rfl
abbrev keep95:List Nat:=[0,1,2,3,8,9,16,36,52]
def body95:AC:=
 .seq (.reg [.m 10 1,.m 8 10] false keep95)
 (.block 0 (.loop (.block 1 (.seq (.reg [.m 11 8,.a 12 (.bin .mul) [ci 2,.tmp 11],.c 13 (.bin .add) 12 1,.m 9 13] false keep95)
 (.seq (.seq (.reg [.m 14 9,.m 15 2,.w 16 (.bin .geq) 14 15] false keep95)
 (.cond (.tmp 16) (.exit 0) (.skip)))
 (.seq (.seq (.reg [.m 17 9,.c 18 (.bin .add) 17 1,.m 19 2,.w 20 (.bin .lss) 18 19,.m 21 20,.mg 22 0 21 true,.mg 23 3 21 true,.mg 24 9 21 true,.bw 25 (.bin .add) 23 24 21 true,.bw 26 (.ixa 23 1) 22 25 21 true,.bu 27 (.load none) 26 21 true,.mg 28 0 21 true,.mg 29 3 21 true,.mg 30 9 21 true,.bw 31 (.bin .add) 29 30 21 true,.bc 32 (.bin .add) 31 1 21 true,.bw 33 (.ixa 23 1) 28 32 21 true,.bu 34 (.load none) 33 21 true,.bw 35 (.call 90) 27 34 21 true,.pa 36 21 35] true keep95)
 (.cond (.tmp 36) (.reg [.m 37 9,.c 38 (.bin .add) 37 1,.m 9 38] false keep95) (.skip)))
 (.seq (.seq (.reg [.m 39 0,.m 40 3,.m 41 8,.w 42 (.bin .add) 40 41,.w 43 (.ixa 23 1) 39 42,.u 44 (.load none) 43,.m 45 0,.m 46 3,.m 47 9,.w 48 (.bin .add) 46 47,.w 49 (.ixa 23 1) 45 48,.u 50 (.load none) 49,⟨some 51,(.call 90),[.tmp 44,.tmp 50],none,[],(some 999999)⟩,.u 52 .not 51] true keep95)
 (.cond (.tmp 52) (.ret) (.skip)))
 (.seq (.reg [.m 53 0,.m 54 3,.m 55 8,.w 56 (.bin .add) 54 55,.m 57 0,.m 58 3,.m 59 9,.w 60 (.bin .add) 58 59,.m 61 0,.m 62 3,.m 63 9,.w 64 (.bin .add) 62 63,.w 65 (.ixa 23 1) 61 64,.u 66 (.load none) 65,.m 67 0,.m 68 3,.m 69 8,.w 70 (.bin .add) 68 69,.w 71 (.ixa 23 1) 67 70,.u 72 (.load none) 71,.w 73 (.ixa 23 1) 53 56,.s (.store none) [.tmp 73,.tmp 66],.w 74 (.ixa 23 1) 57 60,.s (.store none) [.tmp 74,.tmp 72]] true keep95)
 (.reg [.m 75 9,.m 8 75] false keep95)))))))))
theorem fn95:compFn Try.prog 95 keep95=some ⟨76,4,[],body95⟩:=by kernel_rfl
def body96:AC:=
 .seq (.reg [.a 2 .mov [.const (.int .u64 0)]] false [0,2])
 (.seq (.reg [.m 3 0,.u 4 (.cvi .u64) 3,.u 5 (.call 83) 4,.a 6 (.bin .shl) [.const (.int .u64 1),.tmp 5],.m 2 6] false [0,2])
 (.ret))
def keep96:List Nat:=[0,2]
theorem fn96:compFn Try.prog 96 keep96=some ⟨7,1,[(2,none)],body96⟩:=by kernel_rfl
def body97:AC:=
 .seq (.reg [.a 2 .mov [.const (.int .u64 0)]] false [0,2])
 (.seq (.reg [.m 3 0,.u 4 .nck 3,.u 5 (.load none) 4,.m 6 0,.u 7 .nck 6,.u 8 (.load none) 7,.a 9 (.bin .shl) [.tmp 8,.const (.int .u64 13)],.w 10 (.bin .xor) 5 9,.u 11 .nck 3,.s (.store none) [.tmp 11,.tmp 10]] true [0,2])
 (.seq (.reg [.m 12 0,.u 13 .nck 12,.u 14 (.load none) 13,.m 15 0,.u 16 .nck 15,.u 17 (.load none) 16,.a 18 (.bin .shr) [.tmp 17,.const (.int .u64 7)],.w 19 (.bin .xor) 14 18,.u 20 .nck 12,.s (.store none) [.tmp 20,.tmp 19]] true [0,2])
 (.seq (.reg [.m 21 0,.u 22 .nck 21,.u 23 (.load none) 22,.m 24 0,.u 25 .nck 24,.u 26 (.load none) 25,.a 27 (.bin .shl) [.tmp 26,.const (.int .u64 17)],.w 28 (.bin .xor) 23 27,.u 29 .nck 21,.s (.store none) [.tmp 29,.tmp 28]] true [0,2])
 (.seq (.reg [.m 30 0,.u 31 .nck 30,.u 32 (.load none) 31,.m 2 32] false [0,2])
 (.ret)))))
def keep97:List Nat:=[0,2]
theorem fn97:compFn Try.prog 97 keep97=some ⟨33,1,[(2,none)],body97⟩:=by kernel_rfl
abbrev keep98:List Nat:=[0,1,2,6]
def body98:AC:=
 .seq (.reg [.a 6 .mov [ci 0]] false keep98)
 (.seq (.reg [.m 7 0,.m 8 1,.c 9 (.bin .sub) 8 1,.m 10 1,.m 11 1,.c 12 (.bin .add) 11 1,.m 13 2,.a 14 (.call 99) [.tmp 7,.tmp 9,.tmp 10,.tmp 12,.tmp 13],.m 6 14] false keep98)
 (.ret))
theorem fn98:compFn Try.prog 98 keep98=some ⟨15,3,[(6,none)],body98⟩:=by kernel_rfl
abbrev keep99:List Nat:=[0,1,2,3,4,10]
def body99:AC:=
 .seq (.reg [.a 10 .mov [ci 0]] false keep99)
 (.seq (.reg [.m 12 0,.m 13 1,.m 14 2,.m 15 4,.a 16 (.call 101) [.tmp 12,.tmp 13,.tmp 14,.tmp 15],.m 11 16,.u 17 (.ext 0) 11,.u 18 (.ext 1) 11,.m 1 17,.m 2 18] false keep99)
 (.seq (.reg [.m 20 0,.m 21 2,.m 22 3,.m 23 4,.a 24 (.call 101) [.tmp 20,.tmp 21,.tmp 22,.tmp 23],.m 19 24,.u 25 (.ext 0) 19,.u 26 (.ext 1) 19,.m 2 25,.m 3 26] false keep99)
 (.seq (.reg [.m 28 0,.m 29 1,.m 30 2,.m 31 4,.a 32 (.call 101) [.tmp 28,.tmp 29,.tmp 30,.tmp 31],.m 27 32,.u 33 (.ext 0) 27,.u 34 (.ext 1) 27,.m 1 33,.m 2 34] false keep99)
 (.seq (.reg [.m 35 2,.m 10 35] false keep99)
 (.ret)))))
theorem fn99:compFn Try.prog 99 keep99=some ⟨36,5,[(10,none)],body99⟩:=by kernel_rfl
def body100:AC:=
 .seq (.reg [.a 2 .mov [.const (.bool false)]] false [0,2])
 (.seq (.reg [.m 3 0,.m 4 0,.w 5 (.bin .neq) 3 4,.m 2 5] false [0,2])
 (.ret))
def keep100:List Nat:=[0,2]
theorem fn100:compFn Try.prog 100 keep100=some ⟨6,1,[(2,none)],body100⟩:=by kernel_rfl
abbrev keep101:List Nat:=[0,1,2,3,8,9,18]
def body101:AC:=
 .seq (.reg [.a 8 .mov [ci 0],.a 9 .mov [ci 0]] false keep101)
 (.seq (.seq (.reg [.m 10 0,.m 11 2,.w 12 (.ixa 23 1) 10 11,.u 13 (.load none) 12,.m 14 0,.m 15 1,.w 16 (.ixa 23 1) 14 15,.u 17 (.load none) 16,⟨some 18,(.call 90),[.tmp 13,.tmp 17],none,[],(some 999999)⟩] true keep101)
 (.cond (.tmp 18) (.seq (.reg [.m 19 3,.u 20 .nck 19,.u 21 (.load none) 20,.c 22 (.bin .add) 21 1,.u 23 .nck 19,.s (.store none) [.tmp 23,.tmp 22]] false keep101)
 (.seq (.reg [.m 24 2,.m 25 1,.m 8 24,.m 9 25] false keep101)
 (.ret))) (.skip)))
 (.seq (.reg [.m 26 1,.m 27 2,.m 8 26,.m 9 27] false keep101)
 (.ret)))
theorem fn101:compFn Try.prog 101 keep101=some ⟨28,4,[(8,none),(9,none)],body101⟩:=by kernel_rfl
end Go.Proofs.Ytlmkcmfmfahcfaa.Ab
namespace Go.Proofs.Ytlmkcmfmfahcfaa.Ab.R
open Go Go.RowKit
open Classical in
noncomputable def dec {α:Type} (f : α→List PV) (rows:List (List PV)):Option (List α):=
 if h:∃l:List α,l.map f=rows then some h.choose else none
theorem map_inj {α β:Type}{f : α→β} (hf:∀a b,f a=f b→a=b):∀{l m:List α},l.map f=m.map f→l=m
 | [],[],_=>rfl
 | [],_::_,h=>by simp at h
 | _::_,[],h=>by simp at h
 |a::l,b::m,h=>by
  simp only [List.map_cons,List.cons.injEq]at h
  rw [hf _ _ h.1,map_inj hf h.2]
theorem dec_map {α:Type}{f : α→List PV} (hf:∀a b,f a=f b→a=b) (l:List α):dec f (l.map f)=some l:=by
 unfold dec
 have h:∃m:List α,m.map f=l.map f:=⟨l,rfl⟩
 rw [dif_pos h]
 exact congrArg some (map_inj hf h.choose_spec)
theorem dec_inv {α:Type}{f : α→List PV}{rows:List (List PV)}{l:List α} (h:dec f rows=some l):rows=l.map f:=by
 unfold dec at h
 split at h
 ·rename_i h'
  simp only [Option.some.injEq]at h
  rw [←h]
  exact h'.choose_spec.symm
 ·cases h
def byteR (c:UInt8):List PV:=[.int .u8 (c.toNat:Int)]
@[simp] theorem dec_nil {α:Type} (f : α→List PV):dec f []=some []:=by
 unfold dec
 have h:∃m:List α,m.map f=[]:=⟨[],rfl⟩
 rw [dif_pos h]
 have:=h.choose_spec
 simpa using this
end Go.Proofs.Ytlmkcmfmfahcfaa.Ab.R
namespace Go.Proofs.Ytlmkcmfmfahcfaa.Ab
open Go Go.RowKit R
def vput (n:Nat):List UInt8:=
 if h:n < 128 then [n.toUInt8] else (n % 128+128).toUInt8::vput (n / 128)
termination_by n
decreasing_by omega
def vputP (n:Int):List UInt8:=vput n.toNat
def Gput:List AV→Option (Prop × AV)
 | [.pv (.int .u64 n)]=>some (0≤n∧n≤18446744073709551615,.fr 5 (bytesRow (vputP n)))
 | _=>none
@[simp] theorem Gput_eq (n:Int):Gput [.pv (.int .u64 n)]=some (0≤n∧n≤18446744073709551615,.fr 5 (bytesRow (vputP n))):=rfl
def Ggroups:List AV→Option (Prop × AV)
 | [.pv (.int .u64 n)]=>some (0≤n∧n≤18446744073709551615,.pv (.int .i64 (vputP n).length))
 | _=>none
@[simp] theorem Ggroups_eq (n:Int):Ggroups [.pv (.int .u64 n)]=some (0≤n∧n≤18446744073709551615,.pv (.int .i64 (vputP n).length)):=rfl
def vtext (s:List UInt8):List UInt8:=vput s.length++s
def Gtext:List AV→Option (Prop × AV)
 | [.pv (.str s)]=>some (s.length≤1000000,.fr 5 (bytesRow (vtext s)))
 | _=>none
@[simp] theorem Gtext_eq (s:List UInt8):Gtext [.pv (.str s)]=some (s.length≤1000000,.fr 5 (bytesRow (vtext s))):=rfl
noncomputable def GsameB:List AV→Option (Prop × AV)
 | [.pv (.ro a),.pv (.ro b)]=>(dec byteR a).bind fun la=>(dec byteR b).map fun lb=>(la.length≤1000000000,.pv (.bool (decide (la=lb))))
 | _=>none
@[simp] theorem GsameB_eq (a b:List (List PV)):GsameB [.pv (.ro a),.pv (.ro b)]=(dec byteR a).bind fun la=>(dec byteR b).map fun lb=>(la.length≤1000000000,.pv (.bool (decide (la=lb)))):=rfl
def takeG:List UInt8→Nat→Nat→Nat × Nat × Int
 | [],_,_=>(0,0,10)
 |c::l,i,n=>if (i=9∧1 < c.toNat)∨(c.toNat=0∧0 < i) then (0,0,11) else
  if c.toNat < 128 then (n+c.toNat % 128*2 ^ (7*i),i+1,0) else takeG l (i+1) (n+c.toNat % 128*2 ^ (7*i))
def takeL (b:List UInt8) (p:Int):Int × Int × Int:=
 if p < 0∨(b.length:Int)≤p then (0,p,10) else (((takeG (b.drop p.toNat) 0 0).1:Int),p+((takeG (b.drop p.toNat) 0 0).2.1:Int),(takeG (b.drop p.toNat) 0 0).2.2)
def val:List UInt8→Nat
 | []=>0
 |c::l=>c.toNat % 128+128*val l
noncomputable def Gtake:List AV→Option (Prop × AV)
 | [.pv (.ro b),.pv (.int .i64 p)]=>(dec byteR b).map fun l=>(l.length≤1000000000∧-9223372036854775808≤p∧p≤9223372036854775807,.tup [.pv (.int .u64 (takeL l p).1),.pv (.int .i64 (takeL l p).2.1),.pv (.int .i64 (takeL l p).2.2)])
 | _=>none
@[simp] theorem Gtake_eq (b:List (List PV)) (p:Int):Gtake [.pv (.ro b),.pv (.int .i64 p)]=(dec byteR b).map fun l=>(l.length≤1000000000∧-9223372036854775808≤p∧p≤9223372036854775807,.tup [.pv (.int .u64 (takeL l p).1),.pv (.int .i64 (takeL l p).2.1),.pv (.int .i64 (takeL l p).2.2)]):=rfl
def takeT (b:List UInt8) (p:Int):List UInt8 × Int × Int:=
 if (takeL b p).2.2≠0 then ([],p,(takeL b p).2.2) else if (b.length:Int) - (takeL b p).2.1 < (takeL b p).1 then ([],p,10) else
  ((b.drop (takeL b p).2.1.toNat).take (takeL b p).1.toNat,(takeL b p).2.1+(takeL b p).1,0)
noncomputable def GtakeT:List AV→Option (Prop × AV)
 | [.pv (.ro b),.pv (.int .i64 p)]=>(dec byteR b).map fun l=>(l.length≤1000000000∧-9223372036854775808≤p∧p≤9223372036854775807,.tup [.pv (.str (takeT l p).1),.pv (.int .i64 (takeT l p).2.1),.pv (.int .i64 (takeT l p).2.2)])
 | _=>none
@[simp] theorem GtakeT_eq (b:List (List PV)) (p:Int):GtakeT [.pv (.ro b),.pv (.int .i64 p)]=(dec byteR b).map fun l=>(l.length≤1000000000∧-9223372036854775808≤p∧p≤9223372036854775807,.tup [.pv (.str (takeT l p).1),.pv (.int .i64 (takeT l p).2.1),.pv (.int .i64 (takeT l p).2.2)]):=rfl
def standB (b:List UInt8) (at':Nat) (w:List UInt8):Bool:=decide (at'+w.length≤b.length∧(b.drop at').take w.length=w)
noncomputable def Gstand:List AV→Option (Prop × AV)
 | [.pv (.ro b),.pv (.int .i64 i),.pv (.ro w)]=>(dec byteR b).bind fun lb=>(dec byteR w).map fun lw=>(0≤i∧i≤1000000000∧lb.length≤1000000000∧lw.length≤1000000000,.pv (.bool (standB lb i.toNat lw)))
 | _=>none
@[simp] theorem Gstand_eq (b w:List (List PV)) (i:Int):Gstand [.pv (.ro b),.pv (.int .i64 i),.pv (.ro w)]=(dec byteR b).bind fun lb=>(dec byteR w).map fun lw=>(0≤i∧i≤1000000000∧lb.length≤1000000000∧lw.length≤1000000000,.pv (.bool (standB lb i.toNat lw))):=rfl
end Go.Proofs.Ytlmkcmfmfahcfaa.Ab
