/- A part of the proof of what the last text says: XcG, Ew1, Ew2, Ew3, Ew4. Conditions: those in each theorem. -/
import Derived.Test.YtffbjejmobhpkaaW16
set_option linter.unusedVariables false
set_option linter.unusedSimpArgs false
set_option maxRecDepth 100000
set_option maxHeartbeats 16000000
open Nat renaming reduceSub → qa,reduceAdd → qb,reduceMul → qc,reduceEqDiff → qd,reduceLeDiff → qe,reduceBEq → qf
section
namespace Go.Proofs.Ytffbjejmobhpkaa
open Go.Xs
open Go Go.Aw
def x3_s0 : XC := (.seq (.reg [m 18 102,m 20 103,a (.binOp .neq 4 (t 102) (t 103) 4) 104,m 104 105,g (.move (t 19)) 106 105 false,g (.move (t 21)) 107 105 false,g (.binOp .neq 4 (t 106) (t 107) 4) 108 105 false,a (.pick (t 105) (.const (.bool true)) (t 108)) 109]) (.cond (t 109) (.seq (.reg [a (.assign (.const (.bool false))) 6]) .ret) .skip))
def x3_s1 : XC := (.seq (.regD [l 31 7 93,l 34 9 94,m 16 95,m 17 96,j 22 95 96 97,l 3 97 98,a (k 16 #[(t 93),(t 94),(t 98)] #[31,34,3]) 99,m 99 92,b (.extract (t 92) 0) 100,b (.extract (t 92) 1) 101,n 100 20,n 101 21]) x3_s0)
def x3_s2 : XC := (.reg [m 17 80,b (.binOp .add 3 (t 80) (i 1) 3) 81,n 81 17])
def x3_s3 : XC := (.seq (.block 3 (.seq (.regD [l 31 7 83,l 34 9 84,m 16 85,m 17 86,j 22 85 86 87,l 3 87 88,a (k 15 #[(t 83),(t 84),(t 88)] #[31,34,3]) 89,m 89 82,b (.extract (t 82) 0) 90,b (.extract (t 82) 1) 91,n 90 18,n 91 19]) x3_s1)) x3_s2)
def x3_L4 : XC := (.seq (.seq (.reg [m 17 76,m 16 77,e 22 77 78,a (.binOp .lss 3 (t 76) (t 78) 3) 79]) (.cond (t 79) .skip (.exit 2))) x3_s3)
def x3_s5 : XC := (.seq (.regD [m 2 62,m 2 63,a (k 14 #[(t 63),(i 90)] #[3,3]) 64,f 37 10 0 65,l 3 65 66,f 37 10 0 67,l 3 67 68,a (.binOp .sub 3 (t 68) (i 1) 3) 69,f 37 10 1 70,l 3 70 71,f 37 10 1 72,l 3 72 73,a (.binOp .sub 3 (t 73) (i 1) 3) 74,b (.buildSlice 22 6 #[(0,(t 62)),(1,(t 64)),(2,(t 66)),(3,(t 69)),(4,(t 71)),(5,(t 74))]) 75,n 75 16]) (.seq (.reg [a (.assign (i 0)) 17]) (.block 2 (.loop x3_L4))))
def x3_s6 : XC := (.seq (.seq (.reg [l 37 10 48,l 37 13 49,a (.binOp .neq 37 (t 48) (t 49) 37) 50,m 50 51,g (.move (t 12)) 52 51 false,g (.move (t 15)) 53 51 false,g (.binOp .neq 4 (t 52) (t 53) 4) 54 51 false,a (.pick (t 51) (.const (.bool true)) (t 54)) 55,m 55 56,g (.move (t 11)) 57 56 false,g (.move (t 14)) 58 56 false,g (k 13 #[(t 57),(t 58)] #[38,38]) 59 56 false,g (.unOp .not 4 (t 59)) 60 56 false,a (.pick (t 56) (.const (.bool true)) (t 60)) 61]) (.cond (t 61) (.seq (.reg [a (.assign (.const (.bool false))) 6]) .ret) .skip)) x3_s5)
def x3_s7 : XC := (.seq (.reg [l 31 7 42,l 34 9 43,a (k 12 #[(t 42),(t 43)] #[31,34]) 44,m 44 41,b (.extract (t 41) 0) 45,b (.extract (t 41) 1) 46,b (.extract (t 41) 2) 47,a (.alloc 37) 13,w 37 13 45,n 46 14,n 47 15]) x3_s6)
def x3_s8 : XC := (.seq (.reg [l 31 7 35,l 34 9 36,a (k 11 #[(t 35),(t 36)] #[31,34]) 37,m 37 34,b (.extract (t 34) 0) 38,b (.extract (t 34) 1) 39,b (.extract (t 34) 2) 40,a (.alloc 37) 10,w 37 10 38,n 39 11,n 40 12]) x3_s7)
def x3_s9 : XC := (.reg [m 8 30,b (.binOp .add 3 (t 30) (i 1) 3) 31,n 31 8])
def x3_s10 : XC := (.seq (.block 1 (.seq (.reg [m 8 32,b (k 10 #[(t 32)] #[3]) 33,a (.alloc 34) 9,w 34 9 33]) x3_s8)) x3_s9)
def x3_L11 : XC := (.seq (.seq (.reg [m 8 25,f 31 7 1 26,l 24 26 27,e 24 27 28,a (.binOp .leq 3 (t 25) (t 28) 3) 29]) (.cond (t 29) .skip (.exit 0))) x3_s10)
def x3_s12 : XC := (.seq (.seq (.reg [a (.assign (i 0)) 8]) (.block 0 (.loop x3_L11))) (.seq (.reg [b (k 17 #[] #[]) 110,n 110 6]) .ret))
def x3_s13 : XC := (.seq (.reg [m 0 22,m 1 23,b (k 9 #[(t 22),(t 23)] #[22,22]) 24,a (.alloc 31) 7,w 31 7 24]) x3_s12)
def x3 : XC := (.seq (.reg [a (.assign (.const (.bool false))) 6]) x3_s13)
theorem b3 : Bt 3 111 x3 [(.tmp 6)] := bt Try.func3 rfl (by kernel_rfl) (by kernel_rfl) (by kernel_rfl)
def x4_s0 : XC := (.reg [m 10 27,b (.binOp .add 3 (t 27) (i 1) 3) 28,n 28 10])
def x4_s1 : XC := (.seq (.block 3 (.seq (.regD [l 31 7 29,m 8 30,m 9 31,j 38 30 31 32,l 34 32 33,m 8 34,m 10 35,j 38 34 35 36,l 34 36 37,a (k 19 #[(t 29),(t 33),(t 37)] #[31,34,34]) 38,l 31 7 39,m 8 40,m 9 41,j 38 40 41 42,l 34 42 43,m 8 44,m 10 45,j 38 44 45 46,l 34 46 47,a (k 20 #[(t 39),(t 43),(t 47)] #[31,34,34]) 48,a (.binOp .neq 4 (t 38) (t 48) 4) 49]) (.cond (t 49) (.seq (.reg [a (.assign (.const (.bool false))) 6]) .ret) .skip))) x4_s0)
def x4_L2 : XC := (.seq (.seq (.reg [m 10 23,m 8 24,e 38 24 25,a (.binOp .lss 3 (t 23) (t 25) 3) 26]) (.cond (t 26) .skip (.exit 2))) x4_s1)
def x4_s3 : XC := (.reg [m 9 21,b (.binOp .add 3 (t 21) (i 1) 3) 22,n 22 9])
def x4_L4 : XC := (.seq (.seq (.reg [m 9 17,m 8 18,e 38 18 19,a (.binOp .lss 3 (t 17) (t 19) 3) 20]) (.cond (t 20) .skip (.exit 0))) (.seq (.block 1 (.seq (.reg [a (.assign (i 0)) 10]) (.block 2 (.loop x4_L2)))) x4_s3))
def x4_s5 : XC := (.seq (.regD [l 31 7 50,m 8 51,a (k 21 #[(t 50),(t 51)] #[31,38]) 52,l 31 7 53,m 8 54,a (k 22 #[(t 53),(t 54)] #[31,38]) 55,a (k 13 #[(t 52),(t 55)] #[38,38]) 56,m 56 57,g (.load 31 (t 7)) 58 57 true,g (.move (t 8)) 59 57 true,g (k 23 #[(t 58),(t 59)] #[31,38]) 60 57 true,g (.load 31 (t 7)) 61 57 true,g (.move (t 8)) 62 57 true,g (k 24 #[(t 61),(t 62)] #[31,38]) 63 57 true,g (k 13 #[(t 60),(t 63)] #[38,38]) 64 57 true,a (.pick (t 57) (t 64) (.const (.bool false))) 65,m 65 66,g (k 17 #[] #[]) 67 66 true,b (.pick (t 66) (t 67) (.const (.bool false))) 68,n 68 6]) .ret)
def x4_s6 : XC := (.seq (.reg [l 31 7 14,m 2 15,b (k 18 #[(t 14),(t 15)] #[31,22]) 16,n 16 8]) (.seq (.seq (.reg [a (.assign (i 0)) 9]) (.block 0 (.loop x4_L4))) x4_s5))
def x4_s7 : XC := (.seq (.reg [m 0 11,m 1 12,b (k 9 #[(t 11),(t 12)] #[22,22]) 13,a (.alloc 31) 7,w 31 7 13]) x4_s6)
def V4 := PLift.up (aI (aI (aI (@unf _ _ x4_s0.eq_1) (@unf _ _ x4_s1.eq_1)) (aI (@unf _ _ x4_L2.eq_1) (@unf _ _ x4_s3.eq_1))) (aI (aI (@unf _ _ x4_L4.eq_1) (@unf _ _ x4_s5.eq_1)) (aI (@unf _ _ x4_s6.eq_1) (@unf _ _ x4_s7.eq_1))))
theorem U4 : type_of% V4.down := V4.down
def x4 : XC := (.seq (.reg [a (.assign (.const (.bool false))) 6]) x4_s7)
theorem b4 : Bt 4 69 x4 [(.tmp 6)] := bt Try.func4 rfl (by kernel_rfl) (by kernel_rfl) (by kernel_rfl)
def x5_s0 : XC := (.reg [m 12 63,b (.binOp .add 3 (t 63) (i 1) 3) 64,n 64 12])
def x5_s1 : XC := (.seq (.block 5 (.seq (.regD [l 31 7 65,m 8 66,m 10 67,j 38 66 67 68,l 34 68 69,m 8 70,m 11 71,j 38 70 71 72,l 34 72 73,a (k 19 #[(t 65),(t 69),(t 73)] #[31,34,34]) 74,m 74 75,g (.load 31 (t 7)) 76 75 true,g (.move (t 8)) 77 75 true,g (.move (t 11)) 78 75 true,g (.indexAddr 38 (t 77) (t 78)) 79 75 true,g (.load 34 (t 79)) 80 75 true,g (.move (t 8)) 81 75 true,g (.move (t 12)) 82 75 true,g (.indexAddr 38 (t 81) (t 82)) 83 75 true,g (.load 34 (t 83)) 84 75 true,g (k 19 #[(t 76),(t 80),(t 84)] #[31,34,34]) 85 75 true,a (.pick (t 75) (t 85) (.const (.bool false))) 86,m 86 87,g (.load 31 (t 7)) 88 87 true,g (.move (t 8)) 89 87 true,g (.move (t 10)) 90 87 true,g (.indexAddr 38 (t 89) (t 90)) 91 87 true,g (.load 34 (t 91)) 92 87 true,g (.move (t 8)) 93 87 true,g (.move (t 12)) 94 87 true,g (.indexAddr 38 (t 93) (t 94)) 95 87 true,g (.load 34 (t 95)) 96 87 true,g (k 19 #[(t 88),(t 92),(t 96)] #[31,34,34]) 97 87 true,g (.unOp .not 4 (t 97)) 98 87 true,a (.pick (t 87) (t 98) (.const (.bool false))) 99]) (.cond (t 99) (.seq (.reg [a (.assign (.const (.bool false))) 6]) .ret) .skip))) x5_s0)
def x5_L2 : XC := (.seq (.seq (.reg [m 12 59,m 8 60,e 38 60 61,a (.binOp .lss 3 (t 59) (t 61) 3) 62]) (.cond (t 62) .skip (.exit 4))) x5_s1)
def x5_s3 : XC := (.reg [m 11 57,b (.binOp .add 3 (t 57) (i 1) 3) 58,n 58 11])
def x5_L4 : XC := (.seq (.seq (.reg [m 11 53,m 8 54,e 38 54 55,a (.binOp .lss 3 (t 53) (t 55) 3) 56]) (.cond (t 56) .skip (.exit 2))) (.seq (.block 3 (.seq (.reg [a (.assign (i 0)) 12]) (.block 4 (.loop x5_L2)))) x5_s3))
def x5_s5 : XC := (.reg [m 10 32,b (.binOp .add 3 (t 32) (i 1) 3) 33,n 33 10])
def x5_s6 : XC := (.seq (.block 1 (.seq (.seq (.regD [l 31 7 34,m 8 35,m 10 36,j 38 35 36 37,l 34 37 38,m 8 39,m 10 40,j 38 39 40 41,l 34 41 42,a (k 19 #[(t 34),(t 38),(t 42)] #[31,34,34]) 43,m 43 44,g (.move (t 9)) 45 44 false,g (.move (t 8)) 46 44 false,g (.move (t 10)) 47 44 false,g (.indexAddr 38 (t 46) (t 47)) 48 44 false,g (.load 34 (t 48)) 49 44 false,g (k 25 #[(t 45),(t 49)] #[38,34]) 50 44 false,g (.unOp .not 4 (t 50)) 51 44 false,a (.pick (t 44) (.const (.bool true)) (t 51)) 52]) (.cond (t 52) (.seq (.reg [a (.assign (.const (.bool false))) 6]) .ret) .skip)) (.seq (.reg [a (.assign (i 0)) 11]) (.block 2 (.loop x5_L4))))) x5_s5)
def x5_L7 : XC := (.seq (.seq (.reg [m 10 28,m 8 29,e 38 29 30,a (.binOp .lss 3 (t 28) (t 30) 3) 31]) (.cond (t 31) .skip (.exit 0))) x5_s6)
def x5_s8 : XC := (.reg [m 18 144,b (.binOp .add 3 (t 144) (i 1) 3) 145,n 145 18])
def x5_s9 : XC := (.seq (.block 9 (.seq (.regD [l 31 7 146,m 9 147,m 14 148,j 38 147 148 149,l 34 149 150,m 9 151,m 18 152,j 38 151 152 153,l 34 153 154,a (k 19 #[(t 146),(t 150),(t 154)] #[31,34,34]) 155]) (.cond (t 155) (.seq (.reg [a (.assign (.const (.bool false))) 6]) .ret) .skip))) x5_s8)
def x5_L10 : XC := (.seq (.seq (.reg [m 18 141,m 14 142,a (.binOp .lss 3 (t 141) (t 142) 3) 143]) (.cond (t 143) .skip (.exit 8))) x5_s9)
def x5_s11 : XC := (.seq (.reg [b (.move (t 17)) 140,n 140 13]) (.seq (.reg [a (.assign (i 0)) 18]) (.block 8 (.loop x5_L10))))
def x5_s12 : XC := (.seq (.seq (.regD [m 17 116,m 116 117,g (.move (t 13)) 118 117 true,g (.unOp .not 4 (t 118)) 119 117 true,a (.pick (t 117) (t 119) (.const (.bool false))) 120,m 120 121,g (.move (t 9)) 122 121 false,g (.move (t 14)) 123 121 false,g (.slice 38 (t 122) .none (.some (t 123)) .none) 124 121 false,g (.move (t 9)) 125 121 false,g (.move (t 14)) 126 121 false,g (.indexAddr 38 (t 125) (t 126)) 127 121 false,g (.load 34 (t 127)) 128 121 false,g (k 25 #[(t 124),(t 128)] #[38,34]) 129 121 false,a (.pick (t 121) (.const (.bool true)) (t 129)) 130,m 130 131,g (.move (t 8)) 132 131 false,g (.move (t 9)) 133 131 false,g (.move (t 14)) 134 131 false,g (.indexAddr 38 (t 133) (t 134)) 135 131 false,g (.load 34 (t 135)) 136 131 false,g (k 25 #[(t 132),(t 136)] #[38,34]) 137 131 false,g (.unOp .not 4 (t 137)) 138 131 false,a (.pick (t 131) (.const (.bool true)) (t 138)) 139]) (.cond (t 139) (.seq (.reg [a (.assign (.const (.bool false))) 6]) .ret) .skip)) x5_s11)
def x5_s13 : XC := (.reg [m 14 104,b (.binOp .add 3 (t 104) (i 1) 3) 105,n 105 14])
def x5_s14 : XC := (.seq (.block 7 (.seq (.regT [] [([l 31 7 107,m 9 108,m 14 109,j 38 108 109 110,l 34 110 111,a (k 11 #[(t 107),(t 111)] #[31,34]) 112,m 112 106,b (.extract (t 106) 0) 113,b (.extract (t 106) 1) 114,b (.extract (t 106) 2) 115],a (.alloc 37) 15,false),([],w 37 15 113,false)] [n 114 16] [n 115 17]) x5_s12)) x5_s13)
def x5_L15 : XC := (.seq (.seq (.reg [m 14 100,m 9 101,e 38 101 102,a (.binOp .lss 3 (t 100) (t 102) 3) 103]) (.cond (t 103) .skip (.exit 6))) x5_s14)
def x5_s16 : XC := (.seq (.seq (.reg [a (.assign (i 0)) 14]) (.block 6 (.loop x5_L15))) (.seq (.reg [b (k 17 #[] #[]) 156,n 156 6]) .ret))
def x5_s17 : XC := (.seq (.seq (.reg [a (.assign (i 0)) 10]) (.block 0 (.loop x5_L7))) (.seq (.reg [a (.assign (.const (.bool true))) 13]) x5_s16))
def x5_s18 : XC := (.seq (.reg [l 31 7 25,m 8 26,b (k 21 #[(t 25),(t 26)] #[31,38]) 27,n 27 9]) x5_s17)
def x5_s19 : XC := (.seq (.reg [l 31 7 22,m 2 23,b (k 18 #[(t 22),(t 23)] #[31,22]) 24,n 24 8]) x5_s18)
def x5_s20 : XC := (.seq (.reg [m 0 19,m 1 20,b (k 9 #[(t 19),(t 20)] #[22,22]) 21,a (.alloc 31) 7,w 31 7 21]) x5_s19)
def x5 : XC := (.seq (.reg [a (.assign (.const (.bool false))) 6]) x5_s20)
theorem b5 : Bt 5 157 x5 [(.tmp 6)] := bt Try.func5 rfl (by kernel_rfl) (by kernel_rfl) (by kernel_rfl)
def x6_s0 : XC := (.reg [m 10 33,b (.binOp .add 3 (t 33) (i 1) 3) 34,n 34 10])
def x6_s1 : XC := (.seq (.block 1 (.seq (.regD [m 8 35,m 9 36,m 10 37,j 38 36 37 38,l 34 38 39,a (k 25 #[(t 35),(t 39)] #[38,34]) 40,a (.unOp .not 4 (t 40)) 41,m 41 42,g (.move (t 10)) 43 42 false,g (.binOp .gtr 3 (t 43) (i 0) 3) 44 42 false,g (.move (t 44)) 45 42 false,g (.load 31 (t 7)) 46 45 true,g (.move (t 9)) 47 45 true,g (.move (t 10)) 48 45 true,g (.binOp .sub 3 (t 48) (i 1) 3) 49 45 true,g (.indexAddr 38 (t 47) (t 49)) 50 45 true,g (.load 34 (t 50)) 51 45 true,g (.move (t 9)) 52 45 true,g (.move (t 10)) 53 45 true,g (.indexAddr 38 (t 52) (t 53)) 54 45 true,g (.load 34 (t 54)) 55 45 true,g (k 19 #[(t 46),(t 51),(t 55)] #[31,34,34]) 56 45 true,g (.unOp .not 4 (t 56)) 57 45 true,g (.pick (t 45) (t 57) (.const (.bool false))) 58 42 false,a (.pick (t 42) (.const (.bool true)) (t 58)) 59]) (.cond (t 59) (.seq (.reg [a (.assign (.const (.bool false))) 6]) .ret) .skip))) x6_s0)
def x6_L2 : XC := (.seq (.seq (.reg [m 10 29,m 9 30,e 38 30 31,a (.binOp .lss 3 (t 29) (t 31) 3) 32]) (.cond (t 32) .skip (.exit 0))) x6_s1)
def x6_s3 : XC := (.reg [m 15 92,m 92 93,g (.move (t 19)) 94 93 false,g (.move (t 94)) 95 93 false,g (.fieldAddr 37 (t 12) 0) 96 95 true,g (.load 3 (t 96)) 97 95 true,g (.fieldAddr 37 (t 17) 1) 98 95 true,g (.load 3 (t 98)) 99 95 true,g (.binOp .leq 3 (t 97) (t 99) 3) 100 95 true,g (.pick (t 95) (t 100) (.const (.bool false))) 101 93 false,g (.move (t 101)) 102 93 false,g (.fieldAddr 37 (t 17) 1) 103 102 true,g (.load 3 (t 103)) 104 102 true,g (.fieldAddr 37 (t 12) 1) 105 102 true,g (.load 3 (t 105)) 106 102 true,g (.binOp .leq 3 (t 104) (t 106) 3) 107 102 true,g (.pick (t 102) (t 107) (.const (.bool false))) 108 93 false,b (.pick (t 93) (.const (.bool true)) (t 108)) 109,n 109 15])
def x6_s4 : XC := (.reg [m 16 80,b (.binOp .add 3 (t 80) (i 1) 3) 81,n 81 16])
def x6_s5 : XC := (.seq (.block 5 (.seq (.regT [] [([l 31 7 83,m 9 84,m 16 85,j 38 84 85 86,l 34 86 87,a (k 11 #[(t 83),(t 87)] #[31,34]) 88,m 88 82,b (.extract (t 82) 0) 89,b (.extract (t 82) 1) 90,b (.extract (t 82) 2) 91],a (.alloc 37) 17,false),([],w 37 17 89,false)] [n 90 18] [n 91 19]) x6_s3)) x6_s4)
def x6_L6 : XC := (.seq (.seq (.reg [m 16 76,m 9 77,e 38 77 78,a (.binOp .lss 3 (t 76) (t 78) 3) 79]) (.cond (t 79) .skip (.exit 4))) x6_s5)
def x6_s7 : XC := (.seq (.reg [m 14 110,m 110 111,g (.move (t 15)) 112 111 true,g (.unOp .not 4 (t 112)) 113 111 true,a (.pick (t 111) (t 113) (.const (.bool false))) 114,m 114 115,g (.move (t 14)) 116 115 false,g (.unOp .not 4 (t 116)) 117 115 false,g (.move (t 117)) 118 115 false,g (.move (t 9)) 119 118 true,g (.move (t 8)) 120 118 true,g (.move (t 11)) 121 118 true,g (.indexAddr 38 (t 120) (t 121)) 122 118 true,g (.load 34 (t 122)) 123 118 true,g (k 25 #[(t 119),(t 123)] #[38,34]) 124 118 true,g (.pick (t 118) (t 124) (.const (.bool false))) 125 115 false,a (.pick (t 115) (.const (.bool true)) (t 125)) 126]) (.cond (t 126) (.seq (.reg [a (.assign (.const (.bool false))) 6]) .ret) .skip))
def x6_s8 : XC := (.seq (.reg [a (.assign (.const (.bool false))) 15]) (.seq (.seq (.reg [a (.assign (i 0)) 16]) (.block 4 (.loop x6_L6))) x6_s7))
def x6_s9 : XC := (.reg [m 11 64,b (.binOp .add 3 (t 64) (i 1) 3) 65,n 65 11])
def x6_s10 : XC := (.seq (.block 3 (.seq (.regT [] [([l 31 7 67,m 8 68,m 11 69,j 38 68 69 70,l 34 70 71,a (k 11 #[(t 67),(t 71)] #[31,34]) 72,m 72 66,b (.extract (t 66) 0) 73,b (.extract (t 66) 1) 74,b (.extract (t 66) 2) 75],a (.alloc 37) 12,false),([],w 37 12 73,false)] [n 74 13] [n 75 14]) x6_s8)) x6_s9)
def x6_L11 : XC := (.seq (.seq (.reg [m 11 60,m 8 61,e 38 61 62,a (.binOp .lss 3 (t 60) (t 62) 3) 63]) (.cond (t 63) .skip (.exit 2))) x6_s10)
def x6_s12 : XC := (.seq (.seq (.reg [a (.assign (i 0)) 11]) (.block 2 (.loop x6_L11))) (.seq (.reg [b (k 17 #[] #[]) 127,n 127 6]) .ret))
def x6_s13 : XC := (.seq (.reg [l 31 7 26,m 8 27,b (k 23 #[(t 26),(t 27)] #[31,38]) 28,n 28 9]) (.seq (.seq (.reg [a (.assign (i 0)) 10]) (.block 0 (.loop x6_L2))) x6_s12))
def x6_s14 : XC := (.seq (.reg [l 31 7 23,m 2 24,b (k 18 #[(t 23),(t 24)] #[31,22]) 25,n 25 8]) x6_s13)
def x6_s15 : XC := (.seq (.reg [m 0 20,m 1 21,b (k 9 #[(t 20),(t 21)] #[22,22]) 22,a (.alloc 31) 7,w 31 7 22]) x6_s14)
def x6 : XC := (.seq (.reg [a (.assign (.const (.bool false))) 6]) x6_s15)
theorem b6 : Bt 6 128 x6 [(.tmp 6)] := bt Try.func6 rfl (by kernel_rfl) (by kernel_rfl) (by kernel_rfl)
def x7_s0 : XC := (.regD [f 31 9 2 38,c (.load 25 (t 38)) 39,f 31 9 2 40,l 25 40 41,a (.indexAddr 25 (t 41) (i 0)) 42,f 54 42 0 43,l 34 43 44,a (.build 37 #[(0,(i 1)),(1,(i 1))]) 45,a (.build 56 #[(2,(t 45))]) 46,a (.buildSlice 52 1 #[(0,(t 46))]) 47,a (.build 54 #[(0,(t 44)),(3,(t 47))]) 48,a (.buildSlice 25 1 #[(0,(t 48))]) 49,b (.call ⟨(.builtin .append),#[(t 39),(t 49)],#[25,25]⟩) 50,f 31 9 2 51,w 25 51 50])
def x7_c1 : XC := (.seq (.regD [f 31 9 2 23,l 25 23 24,f 31 9 2 25,l 25 25 26,a (.indexAddr 25 (t 26) (i 0)) 27,f 54 27 3 28,c (.load 52 (t 28)) 29,m 2 30,m 3 31,a (.build 37 #[(0,(t 30)),(1,(t 31))]) 32,a (.build 56 #[(2,(t 32))]) 33,a (.buildSlice 52 1 #[(0,(t 33))]) 34,b (.call ⟨(.builtin .append),#[(t 29),(t 34)],#[52,52]⟩) 35,a (.indexAddr 25 (t 24) (i 0)) 36,f 54 36 3 37,w 52 37 35]) x7_s0)
def x7_s2 : XC := (.seq (.reg [l 37 12 70,l 37 14 71,a (.binOp .neq 37 (t 70) (t 71) 37) 72,m 72 73,g (.move (t 13)) 74 73 false,g (.move (t 15)) 75 73 false,g (.binOp .neq 4 (t 74) (t 75) 4) 76 73 false,a (.pick (t 73) (.const (.bool true)) (t 76)) 77]) (.cond (t 77) (.seq (.reg [a (.assign (.const (.bool false))) 8]) .ret) .skip))
def x7_s3 : XC := (.seq (.reg [l 31 9 65,l 34 11 66,a (k 27 #[(t 65),(t 66)] #[31,34]) 67,m 67 64,b (.extract (t 64) 0) 68,b (.extract (t 64) 1) 69,a (.alloc 37) 14,w 37 14 68,n 69 15]) x7_s2)
def x7_s4 : XC := (.seq (.reg [l 31 9 59,l 34 11 60,a (k 26 #[(t 59),(t 60)] #[31,34]) 61,m 61 58,b (.extract (t 58) 0) 62,b (.extract (t 58) 1) 63,a (.alloc 37) 12,w 37 12 62,n 63 13]) x7_s3)
def x7_s5 : XC := (.reg [m 10 54,b (.binOp .add 3 (t 54) (i 1) 3) 55,n 55 10])
def x7_s6 : XC := (.seq (.block 1 (.seq (.reg [m 10 56,b (.build 34 #[(0,(i 6)),(1,(i 1)),(2,(t 56))]) 57,a (.alloc 34) 11,w 34 11 57]) x7_s4)) x7_s5)
def x7_L7 : XC := (.seq (.seq (.reg [m 10 52,a (.binOp .lss 3 (t 52) (i 6) 3) 53]) (.cond (t 53) .skip (.exit 0))) x7_s6)
def x7_s8 : XC := (.seq (.seq (.reg [a (.assign (i (-1))) 10]) (.block 0 (.loop x7_L7))) (.seq (.reg [b (k 17 #[] #[]) 78,n 78 8]) .ret))
def x7_s9 : XC := (.seq (.seq (.reg [f 31 9 2 19,l 25 19 20,e 25 20 21,a (.binOp .gtr 3 (t 21) (i 0) 3) 22]) (.cond (t 22) x7_c1 .skip)) x7_s8)
def x7_s10 : XC := (.seq (.reg [m 0 16,m 1 17,b (k 9 #[(t 16),(t 17)] #[22,22]) 18,a (.alloc 31) 9,w 31 9 18]) x7_s9)
def x7 : XC := (.seq (.reg [a (.assign (.const (.bool false))) 8]) x7_s10)
theorem b7 : Bt 7 79 x7 [(.tmp 8)] := bt Try.func7 rfl (by kernel_rfl) (by kernel_rfl) (by kernel_rfl)
def x8_s0 : XC := (.regD [m 15 81,m 11 82,m 16 83,j 65 82 83 84,f 37 84 0 85,l 3 85 86,m 2 87,m 16 88,m 11 89,m 16 90,j 65 89 90 91,f 37 91 1 92,l 3 92 93,m 11 94,m 16 95,j 65 94 95 96,f 37 96 0 97,l 3 97 98,a (.binOp .sub 3 (t 93) (t 98) 3) 99,a (.binOp .add 3 (t 99) (i 1) 3) 100,a (k 30 #[(t 87),(t 88),(t 100)] #[22,3,3]) 101,a (.binOp .add 3 (t 86) (t 101) 3) 102,b (.call ⟨(.builtin .min),#[(t 81),(t 102)],#[3,3]⟩) 103,n 103 15])
def x8_s1 : XC := (.reg [m 16 73,b (.binOp .add 3 (t 73) (i 1) 3) 74,n 74 16])
def x8_s2 : XC := (.seq (.block 3 (.seq (.seq (.reg [m 11 75,m 16 76,j 65 75 76 77,l 37 77 78,a (k 29 #[(t 78)] #[37]) 79,a (.unOp .not 4 (t 79)) 80]) (.cond (t 80) (.seq (.reg [a (.assign (.const (.bool false))) 6]) .ret) .skip)) x8_s0)) x8_s1)
def x8_L3 : XC := (.seq (.seq (.reg [m 16 69,m 11 70,e 65 70 71,a (.binOp .lss 3 (t 69) (t 71) 3) 72]) (.cond (t 72) .skip (.exit 2))) x8_s2)
def x8_s4 : XC := (.reg [m 19 127,b (.binOp .add 3 (t 127) (i 1) 3) 128,n 128 19])
def x8_s5 : XC := (.seq (.block 7 (.regD [m 18 129,m 129 130,g (.move (t 11)) 131 130 true,g (.move (t 17)) 132 130 true,g (.indexAddr 65 (t 131) (t 132)) 133 130 true,g (.fieldAddr 37 (t 133) 0) 134 130 true,g (.load 3 (t 134)) 135 130 true,g (.move (t 11)) 136 130 true,g (.move (t 19)) 137 130 true,g (.indexAddr 65 (t 136) (t 137)) 138 130 true,g (.fieldAddr 37 (t 138) 1) 139 130 true,g (.load 3 (t 139)) 140 130 true,g (.binOp .leq 3 (t 135) (t 140) 3) 141 130 true,b (.pick (t 130) (t 141) (.const (.bool false))) 142,n 142 18])) x8_s4)
def x8_L6 : XC := (.seq (.seq (.reg [m 19 123,m 10 124,e 38 124 125,a (.binOp .lss 3 (t 123) (t 125) 3) 126]) (.cond (t 126) .skip (.exit 6))) x8_s5)
def x8_s7 : XC := (.reg [m 20 147,b (.binOp .add 3 (t 147) (i 1) 3) 148,n 148 20])
def x8_s8 : XC := (.seq (.block 9 (.regD [m 18 149,m 149 150,g (.move (t 10)) 151 150 false,g (.move (t 20)) 152 150 false,g (.indexAddr 38 (t 151) (t 152)) 153 150 false,g (.load 34 (t 153)) 154 150 false,g (.move (t 10)) 155 150 false,g (.move (t 17)) 156 150 false,g (.indexAddr 38 (t 155) (t 156)) 157 150 false,g (.load 34 (t 157)) 158 150 false,g (.binOp .eql 34 (t 154) (t 158) 34) 159 150 false,g (.move (t 159)) 160 150 false,g (.move (t 11)) 161 160 true,g (.move (t 20)) 162 160 true,g (.indexAddr 65 (t 161) (t 162)) 163 160 true,g (.fieldAddr 37 (t 163) 0) 164 160 true,g (.load 3 (t 164)) 165 160 true,g (.fieldAddr 37 (t 12) 1) 166 160 true,g (.load 3 (t 166)) 167 160 true,g (.binOp .leq 3 (t 165) (t 167) 3) 168 160 true,g (.pick (t 160) (t 168) (.const (.bool false))) 169 150 false,b (.pick (t 150) (.const (.bool true)) (t 169)) 170,n 170 18])) x8_s7)
def x8_L9 : XC := (.seq (.seq (.reg [m 20 143,m 10 144,e 38 144 145,a (.binOp .lss 3 (t 143) (t 145) 3) 146]) (.cond (t 146) .skip (.exit 8))) x8_s8)
def x8_s10 : XC := (.seq (.reg [m 18 171,m 13 172,m 10 173,m 17 174,j 38 173 174 175,l 34 175 176,a (k 25 #[(t 172),(t 176)] #[38,34]) 177,a (.binOp .neq 4 (t 171) (t 177) 4) 178]) (.cond (t 178) (.seq (.reg [a (.assign (.const (.bool false))) 6]) .ret) .skip))
def x8_s11 : XC := (.seq (.seq (.reg [a (.assign (i 0)) 19]) (.block 6 (.loop x8_L6))) (.seq (.seq (.reg [a (.assign (i 0)) 20]) (.block 8 (.loop x8_L9))) x8_s10))
def x8_s12 : XC := (.reg [m 17 121,b (.binOp .add 3 (t 121) (i 1) 3) 122,n 122 17])
def x8_L13 : XC := (.seq (.seq (.reg [m 17 117,m 10 118,e 38 118 119,a (.binOp .lss 3 (t 117) (t 119) 3) 120]) (.cond (t 120) .skip (.exit 4))) (.seq (.block 5 (.seq (.reg [a (.assign (.const (.bool true))) 18]) x8_s11)) x8_s12))
def x8_s14 : XC := (.seq (.seq (.reg [m 14 104,m 104 105,g (.move (t 15)) 106 105 true,g (.fieldAddr 37 (t 12) 0) 107 105 true,g (.load 3 (t 107)) 108 105 true,g (.binOp .lss 3 (t 106) (t 108) 3) 109 105 true,g (.move (t 109)) 110 105 true,g (.move (t 15)) 111 110 false,g (.fieldAddr 37 (t 12) 1) 112 110 false,g (.load 3 (t 112)) 113 110 false,g (.binOp .gtr 3 (t 111) (t 113) 3) 114 110 false,g (.pick (t 110) (.const (.bool true)) (t 114)) 115 105 true,a (.pick (t 105) (t 115) (.const (.bool false))) 116]) (.cond (t 116) (.seq (.reg [a (.assign (.const (.bool false))) 6]) .ret) .skip)) (.seq (.reg [a (.assign (i 0)) 17]) (.block 4 (.loop x8_L13))))
def x8_s15 : XC := (.seq (.reg [a (.assign (i 1073741824)) 15]) (.seq (.seq (.reg [a (.assign (i 0)) 16]) (.block 2 (.loop x8_L3))) x8_s14))
def x8_s16 : XC := (.seq (.seq (.reg [m 14 50,m 10 51,e 38 51 52,a (.binOp .gtr 3 (t 52) (i 0) 3) 53,a (.binOp .neq 4 (t 50) (t 53) 4) 54,m 54 55,g (.move (t 14)) 56 55 false,g (.unOp .not 4 (t 56)) 57 55 false,g (.move (t 57)) 58 55 false,g (.load 37 (t 12)) 59 58 true,g (.build 37 #[]) 60 58 true,g (.binOp .neq 37 (t 59) (t 60) 37) 61 58 true,g (.move (t 61)) 62 58 true,g (.move (t 13)) 63 62 false,g (.call ⟨(.builtin .len),#[(t 63)],#[38]⟩) 64 62 false,g (.binOp .gtr 3 (t 64) (i 0) 3) 65 62 false,g (.pick (t 62) (.const (.bool true)) (t 65)) 66 58 true,g (.pick (t 58) (t 66) (.const (.bool false))) 67 55 false,a (.pick (t 55) (.const (.bool true)) (t 67)) 68]) (.cond (t 68) (.seq (.reg [a (.assign (.const (.bool false))) 6]) .ret) .skip)) x8_s15)
def x8_s17 : XC := (.seq (.reg [l 31 7 44,l 34 9 45,a (k 11 #[(t 44),(t 45)] #[31,34]) 46,m 46 43,b (.extract (t 43) 0) 47,b (.extract (t 43) 1) 48,b (.extract (t 43) 2) 49,a (.alloc 37) 12,w 37 12 47,n 48 13,n 49 14]) x8_s16)
def x8_s18 : XC := (.seq (.reg [l 31 7 38,l 34 9 39,a (k 28 #[(t 38),(t 39)] #[31,34]) 40,m 40 37,b (.extract (t 37) 0) 41,b (.extract (t 37) 1) 42,n 41 10,n 42 11]) x8_s17)
def x8_s19 : XC := (.reg [m 8 29,b (.binOp .add 3 (t 29) (i 1) 3) 30,n 30 8])
def x8_s20 : XC := (.seq (.block 1 (.seq (.reg [f 31 7 1 31,l 24 31 32,m 8 33,j 24 32 33 34,f 64 34 0 35,b (.load 34 (t 35)) 36,a (.alloc 34) 9,w 34 9 36]) x8_s18)) x8_s19)
def x8_L21 : XC := (.seq (.seq (.reg [m 8 24,f 31 7 1 25,l 24 25 26,e 24 26 27,a (.binOp .lss 3 (t 24) (t 27) 3) 28]) (.cond (t 28) .skip (.exit 0))) x8_s20)
def x8_s22 : XC := (.seq (.seq (.reg [a (.assign (i 0)) 8]) (.block 0 (.loop x8_L21))) (.seq (.reg [b (k 17 #[] #[]) 179,n 179 6]) .ret))
def x8_s23 : XC := (.seq (.reg [m 0 21,m 1 22,b (k 9 #[(t 21),(t 22)] #[22,22]) 23,a (.alloc 31) 7,w 31 7 23]) x8_s22)
def x8 : XC := (.seq (.reg [a (.assign (.const (.bool false))) 6]) x8_s23)
theorem b8 : Bt 8 180 x8 [(.tmp 6)] := bt Try.func8 rfl (by kernel_rfl) (by kernel_rfl) (by kernel_rfl)
end Go.Proofs.Ytffbjejmobhpkaa
end
section
namespace Go.Proofs.Ytffbjejmobhpkaa
open Go Go.Aw
def around (n most : Int) : Int := (if n < 0 then -(n + 1) else n).tmod most
theorem around_range {n most : Int} (h : 0 < most) : 0 ≤ around n most ∧ around n most < most := by
 unfold around
 have h0 : 0 ≤ (if n < 0 then -(n + 1) else n) := by split <;> omega
 rw [Int.tmod_eq_emod_of_nonneg h0]
 exact ⟨Int.emod_nonneg _ (by omega),Int.emod_lt_of_pos _ h⟩
theorem f_around {n most : Int} {H : AH} {R : D → AH → Prop} (hm : 0 < most) (h : R (.int .i64 (around n most)) H) : ACall Try.prog 14 [.int .i64 n,.int .i64 most] H R := by
 refine b14 fun hf=>?_
 have hn := hf.1
 rw [f_int,inR_i64] at hn
 simp +contextual only [x14,↓U14,↓XP,↓XU,XW0,XW1,qa,qb,qc,qd,qe,qf,reduceCtorEq,TYX]
 unfold around at h
 refine ⟨fun h0=>?_,fun h0=>?_⟩
 ·rw [wrap_id (n := n + 1) (by omega) (by omega),wrap_id (n := 0 - (n + 1)) (by omega) (by omega)]
  rw [if_pos h0] at h
  refine ⟨by omega,?_⟩
  rw [show 0 - (n + 1) = -(n + 1) by omega]
  exact h
 ·rw [if_neg h0] at h
  exact ⟨by omega,h⟩
def atOf (l : List Int) (i : Nat) (most : Int) : Int := match l[i]? with
 | some n=>around n most
 | none=>0
theorem atOf_range {l : List Int} {i : Nat} {most : Int} (h : 0 < most) : 0 ≤ atOf l i most ∧ atOf l i most < most := by
 unfold atOf
 split
 ·exact around_range h
 ·omega
theorem ints_get {l : List Int} {i : Nat} (h : i < l.length) : (mapD intD l).getD i [] = [.int .i64 l[i]] := by simp [mapD,intD,h]
theorem f_at {l : List Int} {i : Nat} {most : Int} {H : AH} {R : D → AH → Prop} (hm : 0 < most) (h : R (.int .i64 (atOf l i most)) H) : ACall Try.prog 30 [.slc (mapD intD l),.int .i64 i,.int .i64 most] H R := by
 refine b30 fun hf=>?_
 by_cases hi : i < l.length
 ·simp +contextual only [x30,mapD_len,ints_get hi,↓U30,↓XP,↓XU,XW0,XW1,qa,qb,qc,qd,qe,qf,reduceCtorEq,TYX]
  refine ⟨fun hneg=>absurd hneg (by omega),fun _ _=>⟨fun hge=>absurd hge (by omega),fun _=>?_⟩⟩
  refine ⟨by omega,fun _=>f_around hm ?_⟩
  simp +contextual only [↓U30,↓XP,↓XU,XW0,XW1,qa,qb,qc,qd,qe,qf,reduceCtorEq,TYX]
  intro _
  unfold atOf at h
  rw [List.getElem?_eq_getElem hi] at h
  exact h
 ·simp +contextual only [x30,mapD_len,↓U30,↓XP,↓XU,XW0,XW1,qa,qb,qc,qd,qe,qf,reduceCtorEq,TYX]
  refine ⟨fun hneg=>absurd hneg (by omega),fun _ _=>⟨fun hge=>?_,fun hlt=>absurd (by omega) hlt⟩⟩
  unfold atOf at h
  rw [List.getElem?_eq_none (by omega)] at h
  exact h
theorem f_rSpan {x : Sp} {H : AH} {R : D → AH → Prop} (h : R (.bool (decide (OkSpan x))) H) : ACall Try.prog 49 [.agg x.d] H R := by
 refine b49 fun hf=>?_
 have hd : x.d = [.int .i64 x.a,.int .i64 x.b] := rfl
 have hk : ∀ c,decide (OkSpan x) = c → R (.bool c) H := fun b hb=>hb ▸ h
 simp +contextual only [x49,hd,↓u49_s0,↓XP,↓XU,XW0,XW1,qa,qb,qc,qd,qe,qf,reduceCtorEq,TYX]
 intro b1 h1
 repeat' (first | apply And.intro | intro _)
 all_goals first
  | exact hk _ (decide_eq_true (by unfold OkSpan; omega))
  | exact hk _ (decide_eq_false (by unfold OkSpan; omega))
  | exact hk _ (decide_eq_decide.2 (by unfold OkSpan; omega))
  | skip
theorem f_span {x : Sp} {H : AH} {R : D → AH → Prop} (h : R (.bool (decide (OkSpan x))) H) : ACall Try.prog 29 [.agg x.d] H R := by
 refine b29 fun hf=>?_
 have hd : x.d = [.int .i64 x.a,.int .i64 x.b] := rfl
 have hk : ∀ c,decide (OkSpan x) = c → R (.bool c) H := fun b hb=>hb ▸ h
 simp +contextual only [x29,hd,↓u29_s0,↓XP,↓XU,XW0,XW1,qa,qb,qc,qd,qe,qf,reduceCtorEq,TYX]
 intro b1 h1
 repeat' (first | apply And.intro | intro _)
 all_goals first
  | exact hk _ (decide_eq_true (by unfold OkSpan; omega))
  | exact hk _ (decide_eq_false (by unfold OkSpan; omega))
  | exact hk _ (decide_eq_decide.2 (by unfold OkSpan; omega))
  | skip
theorem f_less {x y : Id3} {H : AH} {R : D → AH → Prop} (h : R (.bool (decide (x.lt y))) H) : ACall Try.prog 47 [.agg x.d,.agg y.d] H R := by
 refine b47 fun hf=>?_
 have hx : x.d = [.int .i64 x.o,.int .i64 x.s,.int .i64 x.i] := rfl
 have hy : y.d = [.int .i64 y.o,.int .i64 y.s,.int .i64 y.i] := rfl
 have hk : ∀ c,decide (x.lt y) = c → R (.bool c) H := fun b hb=>hb ▸ h
 simp +contextual only [x47,hx,hy,↓U47,↓XP,↓XU,XW0,XW1,qa,qb,qc,qd,qe,qf,reduceCtorEq,TYX]
 repeat' (first | apply And.intro | intro _)
 all_goals first
  | exact hk _ (decide_eq_true (by unfold Id3.lt; omega))
  | exact hk _ (decide_eq_false (by unfold Id3.lt; omega))
  | exact hk _ (decide_eq_decide.2 (by unfold Id3.lt; omega))
  | skip
def idR (i : Nat) : Id3 := ⟨((i % 3 : Nat) : Int),((1 + i / 3 : Nat) : Int),((i % 5 : Nat) : Int)⟩
theorem f_ID {i : Nat} {H : AH} {R : D → AH → Prop} (h : R (.agg (idR i).d) H) : ACall Try.prog 10 [.int .i64 i] H R := by
 refine b10 fun hf=>?_
 have hn := hf.1
 rw [f_int,inR_i64] at hn
 have e3 : (i : Int).tmod 3 = ((i % 3 : Nat) : Int) := by rw [Int.tmod_eq_emod_of_nonneg (by omega)]; omega
 have e5 : (i : Int).tmod 5 = ((i % 5 : Nat) : Int) := by rw [Int.tmod_eq_emod_of_nonneg (by omega)]; omega
 have ed : IntKind.i64.wrap ((i : Int).tdiv 3) = ((i / 3 : Nat) : Int) := by rw [Int.tdiv_eq_ediv_of_nonneg (by omega),wrap_id (by omega) (by omega)]; omega
 have e1 : IntKind.i64.wrap (1 + ((i / 3 : Nat) : Int)) = ((1 + i / 3 : Nat) : Int) := by rw [wrap_id (by omega) (by omega)]; omega
 simp +contextual only [x10,e3,e5,ed,e1,↓u10_s0,↓XP,↓XU,XW0,XW1,qa,qb,qc,qd,qe,qf,reduceCtorEq,TYX]
 intros
 repeat' (first | apply And.intro | intro _)
 all_goals first | exact h | omega | skip
theorem f_id {i : Int} {H : AH} {R : D → AH → Prop} (h : R (.agg (Id3.d ⟨0,1,i⟩)) H) : ACall Try.prog 41 [.int .i64 i] H R := by
 refine b41 fun hf=>?_
 simp +contextual only [x41,↓u41_s0,↓XP,↓XU,XW0,XW1,qa,qb,qc,qd,qe,qf,reduceCtorEq,TYX]
 intros
 exact h
theorem cmp_nan {a : Int} {H : AH} {R : D → AH → Prop} (h : R (.bool false) H) : ACall Try.prog 54 [.int .i64 a] H R := by
 refine b54 fun hf=>?_
 simp +contextual only [x54,↓u54_s0,↓XP,↓XU,XW0,XW1,qa,qb,qc,qd,qe,qf,reduceCtorEq,TYX]
 exact h
theorem cmp_int {a b : Int} {H : AH} {R : D → AH → Prop} (h : R (.int .i64 (cmpZ a b)) H) : ACall Try.prog 45 [.int .i64 a,.int .i64 b] H R := by
 refine b45 fun hf=>?_
 unfold cmpZ at h
 simp +contextual only [x45,↓U45,↓XP,↓XU,XW0,XW1,qa,qb,qc,qd,qe,qf,reduceCtorEq,TYX]
 refine cmp_nan ?_
 simp +contextual only [↓U45,↓XP,↓XU,XW0,XW1,qa,qb,qc,qd,qe,qf,reduceCtorEq,TYX]
 refine cmp_nan ?_
 simp +contextual only [↓U45,↓XP,↓XU,XW0,XW1,qa,qb,qc,qd,qe,qf,reduceCtorEq,TYX]
 refine ⟨fun h1=>by simpa [h1] using h,fun h1=>⟨fun h2=>?_,fun h2=>?_⟩⟩
 ·simpa [h1,h2] using h
 ·simpa [h1,h2] using h
end Go.Proofs.Ytffbjejmobhpkaa
end
section
namespace Go.Proofs.Ytffbjejmobhpkaa
open Go Go.Aw
theorem cmp_or {l : List Int} {H : AH} {R : D → AH → Prop} (h : R (.int .i64 (orL l)) H) : ACall Try.prog 44 [.slc (mapD intD l)] H R := by
 refine b44 fun hf=>?_
 have hbig := big_eq
 have hlen : (mapD intD l).length ≤ big := hf.1
 rw [mapD_len] at hlen
 simp +contextual only [x44,mapD_len,↓U44,↓XP,↓XU,XW0,XW1,qa,qb,qc,qd,qe,qf,reduceCtorEq,TYX]
 refine fun _=>XW.loopS Go.Proofs.Ytffbjejmobhpkaa.hm 18 (fun i : Nat=>[(0,.slc (mapD intD l)),(3,.int .i64 0),(6,.slc (mapD intD l)),(7,.int .i64 l.length),(8,.int .i64 ((i : Nat) : Int))]) (fun i=>H) (fun i=>l.length - i) (fun i=>i ≤ l.length ∧ orL (l.drop i) = orL l) 0 ⟨by omega,rfl⟩ ⟨rfl,rfl,rfl,rfl,rfl,rfl,trivial⟩ rfl ?_
 rintro i z ⟨hi,hd⟩ K hN hE hR
 show xcode _ _ [.slc (mapD intD l),z 1,z 2,.int .i64 0,z 4,z 5,.slc (mapD intD l),.int .i64 l.length,.int .i64 ((i : Nat) : Int),z 9,z 10,z 11,z 12,z 13,z 14,z 15,z 16,z 17] _ K
 by_cases hlt : i < l.length
 ·rw [List.drop_eq_getElem_cons hlt,orL] at hd
  have g := ints_get hlt
  have hlt' : ((i : Int) < (l.length : Int)) = True := eq_true (by omega)
  by_cases h0 : l[i] = 0
  ·rw [if_pos h0] at hd
   simp +contextual only [x44,mapD_len,g,hlt',h0,wrap_succ (show i ≤ big by omega),↓U44,↓XP,↓XU,XW0,XW1,qa,qb,qc,qd,qe,qf,reduceCtorEq,TYX]
   repeat' (first | apply And.intro | intro _)
   all_goals first
    | exact hN (i + 1) _ _ ⟨hlt,hd⟩ (by omega) ⟨rfl,rfl,rfl,rfl,rfl,rfl,trivial⟩ (back_0 rfl)
    | omega
    | skip
  ·rw [if_neg h0] at hd
   simp +contextual only [x44,mapD_len,g,hlt',eq_false h0,↓U44,↓XP,↓XU,XW0,XW1,qa,qb,qc,qd,qe,qf,reduceCtorEq,TYX]
   repeat' (first | apply And.intro | intro _)
   all_goals first
    | exact hR _ _ (by simp +contextual only [x44,mapD_len,↓U44,↓XP,↓XU,XW0,XW1,qa,qb,qc,qd,qe,qf,reduceCtorEq,TYX]; rw [← hd] at h; exact h)
    | omega
    | skip
 ·have hik : i = l.length := by omega
  subst hik
  simp +contextual only [x44,mapD_len,↓U44,↓XP,↓XU,XW0,XW1,qa,qb,qc,qd,qe,qf,reduceCtorEq,TYX]
  refine hE _ _ _ ?_
  simp +contextual only [x44,mapD_len,↓U44,↓XP,↓XU,XW0,XW1,qa,qb,qc,qd,qe,qf,reduceCtorEq,TYX]
  rw [List.drop_length] at hd
  rw [← hd] at h
  exact h
theorem f_order {x y : Id3} {H : AH} {R : D → AH → Prop} (h : R (.int .i64 (ordI x y)) H) : ACall Try.prog 35 [.agg x.d,.agg y.d] H R := by
 refine b35 fun hf=>?_
 have hx : x.d = [.int .i64 x.o,.int .i64 x.s,.int .i64 x.i] := rfl
 have hy : y.d = [.int .i64 y.o,.int .i64 y.s,.int .i64 y.i] := rfl
 simp +contextual only [x35,hx,hy,↓u35_s0,↓XP,↓XU,XW0,XW1,qa,qb,qc,qd,qe,qf,reduceCtorEq,TYX]
 rintro b1 h1 b2 ⟨h2,h3⟩
 intros
 refine ⟨_,fun _ _=>cmp_int ⟨rfl,rfl⟩,?_⟩
 simp +contextual only [h_miss,h_skip,h2,↓u35_s0,↓XP,↓XU,XW0,XW1,qa,qb,qc,qd,qe,qf,reduceCtorEq,TYX]
 intros
 refine ⟨_,fun _ _=>cmp_int ⟨rfl,rfl⟩,?_⟩
 simp +contextual only [h_miss,h_skip,h2,↓u35_s0,↓XP,↓XU,XW0,XW1,qa,qb,qc,qd,qe,qf,reduceCtorEq,TYX]
 intros
 refine ⟨_,fun _ _=>cmp_int ⟨rfl,rfl⟩,?_⟩
 simp +contextual only [h_miss,h_skip,h2,↓u35_s0,↓XP,↓XU,XW0,XW1,qa,qb,qc,qd,qe,qf,reduceCtorEq,TYX]
 intros
 refine ⟨_,fun _ _=>cmp_or (l := [cmpZ x.o y.o,cmpZ x.s y.s,cmpZ x.i y.i]) ⟨rfl,rfl⟩,?_⟩
 simp +contextual only [h_miss,h_skip,h2,↓u35_s0,↓XP,↓XU,XW0,XW1,qa,qb,qc,qd,qe,qf,reduceCtorEq,TYX]
 intros
 exact h
theorem f_iorder {x y : Id3} {H : AH} {R : D → AH → Prop} (h : R (.int .i64 (ordI x y)) H) : ACall Try.prog 76 [.agg x.d,.agg y.d] H R := by
 refine b76 fun hf=>?_
 have hx : x.d = [.int .i64 x.o,.int .i64 x.s,.int .i64 x.i] := rfl
 have hy : y.d = [.int .i64 y.o,.int .i64 y.s,.int .i64 y.i] := rfl
 simp +contextual only [x76,hx,hy,↓u76_s0,↓XP,↓XU,XW0,XW1,qa,qb,qc,qd,qe,qf,reduceCtorEq,TYX]
 rintro b1 h1 b2 ⟨h2,h3⟩
 intros
 refine ⟨_,fun _ _=>cmp_int ⟨rfl,rfl⟩,?_⟩
 simp +contextual only [h_miss,h_skip,h2,↓u76_s0,↓XP,↓XU,XW0,XW1,qa,qb,qc,qd,qe,qf,reduceCtorEq,TYX]
 intros
 refine ⟨_,fun _ _=>cmp_int ⟨rfl,rfl⟩,?_⟩
 simp +contextual only [h_miss,h_skip,h2,↓u76_s0,↓XP,↓XU,XW0,XW1,qa,qb,qc,qd,qe,qf,reduceCtorEq,TYX]
 intros
 refine ⟨_,fun _ _=>cmp_int ⟨rfl,rfl⟩,?_⟩
 simp +contextual only [h_miss,h_skip,h2,↓u76_s0,↓XP,↓XU,XW0,XW1,qa,qb,qc,qd,qe,qf,reduceCtorEq,TYX]
 intros
 refine ⟨_,fun _ _=>cmp_or (l := [cmpZ x.o y.o,cmpZ x.s y.s,cmpZ x.i y.i]) ⟨rfl,rfl⟩,?_⟩
 simp +contextual only [h_miss,h_skip,h2,↓u76_s0,↓XP,↓XU,XW0,XW1,qa,qb,qc,qd,qe,qf,reduceCtorEq,TYX]
 intros
 exact h
end Go.Proofs.Ytffbjejmobhpkaa
end
section
namespace Go.Proofs.Ytffbjejmobhpkaa
open Go Go.Aw
theorem not_mem_take {α : Type} [Inhabited α] {l : List α} {x : α} {i : Nat} (hi : i < l.length) (hn : x ∉ l.take i) (hne : l.getD i default ≠ x) : x ∉ l.take (i + 1) := by
 rw [take_succ hi]
 intro h
 rcases List.mem_append.1 h with h | h
 ·exact hn h
 ·exact hne (List.mem_singleton.1 h).symm
theorem getD_mem {α : Type} [Inhabited α] {l : List α} {i : Nat} (hi : i < l.length) : l.getD i default ∈ l := by rw [getD_lt hi]; exact List.getElem_mem hi
theorem f_has {l : List Id3} {x : Id3} {H : AH} {R : D → AH → Prop} (h : R (.bool (decide (x ∈ l))) H) : ACall Try.prog 25 [.slc (mapD Id3.d l),.agg x.d] H R := by
 refine b25 fun hf=>?_
 have hbig := big_eq
 have hlen : (mapD Id3.d l).length ≤ big := hf.1
 rw [mapD_len] at hlen
 have hk : ∀ c,decide (x ∈ l) = c → R (.bool c) H := fun b hb=>hb ▸ h
 have hx : x.d = [.int .i64 x.o,.int .i64 x.s,.int .i64 x.i] := rfl
 simp +contextual only [x25,mapD_len,hx,↓U25,↓XP,↓XU,XW0,XW1,qa,qb,qc,qd,qe,qf,reduceCtorEq,TYX]
 intro b1 h1
 refine XW.loopS Go.Proofs.Ytffbjejmobhpkaa.hm 18 (fun i : Nat=>[(0,.slc (mapD Id3.d l)),(3,.ptr b1 0),(5,.int .i64 ((i : Nat) : Int))]) (fun i=>(b1,AO.cells [.int .i64 x.o,.int .i64 x.s,.int .i64 x.i]) :: H) (fun i=>l.length - i) (fun i=>i ≤ l.length ∧ x ∉ l.take i) 0 ⟨by omega,by simp⟩ ⟨rfl,rfl,rfl,rfl,trivial⟩ rfl ?_
 rintro i z ⟨hi,hn⟩ K hN hE hR
 show xcode _ _ [.slc (mapD Id3.d l),z 1,z 2,.ptr b1 0,z 4,.int .i64 ((i : Nat) : Int),z 6,z 7,z 8,z 9,z 10,z 11,z 12,z 13,z 14,z 15,z 16,z 17] _ K
 by_cases hlt : i < l.length
 ·have g := mapD_get (f := Id3.d) hlt
  have hmem := getD_mem hlt
  have hlt' : ((i : Int) < (l.length : Int)) = True := eq_true (by omega)
  have nx := not_mem_take hlt hn
  generalize l.getD i default = y at g hmem nx
  have hy : y.d = [.int .i64 y.o,.int .i64 y.s,.int .i64 y.i] := rfl
  have hd := id_dec (x := y) (y := x)
  by_cases h0 : y = x
  ·simp +contextual only [x25,mapD_len,hx,g,hy,hd,hlt',eq_true h0,↓U25,↓XP,↓XU,XW0,XW1,qa,qb,qc,qd,qe,qf,reduceCtorEq,TYX]
   repeat' (first | apply And.intro | intro _)
   all_goals first
    | exact hR _ _ (by simp +contextual only [x25,mapD_len,hx,↓U25,↓XP,↓XU,XW0,XW1,qa,qb,qc,qd,qe,qf,reduceCtorEq,TYX]; exact hk _ (decide_eq_true (h0 ▸ hmem)))
    | omega
    | skip
  ·simp +contextual only [x25,mapD_len,hx,g,hy,hd,hlt',eq_false h0,wrap_succ (show i ≤ big by omega),↓U25,↓XP,↓XU,XW0,XW1,qa,qb,qc,qd,qe,qf,reduceCtorEq,TYX]
   repeat' (first | apply And.intro | intro _)
   all_goals first
    | exact hN (i + 1) _ _ ⟨hlt,nx h0⟩ (by omega) ⟨rfl,rfl,rfl,rfl,trivial⟩ (back_0 rfl)
    | omega
    | skip
 ·have hik : i = l.length := by omega
  subst hik
  simp +contextual only [x25,mapD_len,hx,↓U25,↓XP,↓XU,XW0,XW1,qa,qb,qc,qd,qe,qf,reduceCtorEq,TYX]
  intros
  refine hE _ _ _ ?_
  simp +contextual only [x25,mapD_len,hx,↓U25,↓XP,↓XU,XW0,XW1,qa,qb,qc,qd,qe,qf,reduceCtorEq,TYX]
  rw [List.take_length] at hn
  exact hk _ (decide_eq_false hn)
theorem f_index {l : List Id3} {x : Id3} {H : AH} {R : D → AH → Prop} (h : R (.int .i64 (if x ∈ l then ((l.idxOf x : Nat) : Int) else -1)) H) : ACall Try.prog 74 [.slc (mapD Id3.d l),.agg x.d] H R := by
 refine b74 fun hf=>?_
 have hbig := big_eq
 have hlen : (mapD Id3.d l).length ≤ big := hf.1
 rw [mapD_len] at hlen
 have hx : x.d = [.int .i64 x.o,.int .i64 x.s,.int .i64 x.i] := rfl
 simp +contextual only [x74,mapD_len,hx,↓U74,↓XP,↓XU,XW0,XW1,qa,qb,qc,qd,qe,qf,reduceCtorEq,TYX]
 intro b1 h1
 refine fun _=>XW.loopS Go.Proofs.Ytffbjejmobhpkaa.hm 19 (fun i : Nat=>[(0,.slc (mapD Id3.d l)),(3,.ptr b1 0),(6,.slc (mapD Id3.d l)),(7,.int .i64 l.length),(8,.int .i64 ((i : Nat) : Int))]) (fun i=>(b1,AO.cells [.int .i64 x.o,.int .i64 x.s,.int .i64 x.i]) :: H) (fun i=>l.length - i) (fun i=>i ≤ l.length ∧ x ∉ l.take i) 0 ⟨by omega,by simp⟩ ⟨rfl,rfl,rfl,rfl,rfl,rfl,trivial⟩ rfl ?_
 rintro i z ⟨hi,hn⟩ K hN hE hR
 show xcode _ _ [.slc (mapD Id3.d l),z 1,z 2,.ptr b1 0,z 4,z 5,.slc (mapD Id3.d l),.int .i64 l.length,.int .i64 ((i : Nat) : Int),z 9,z 10,z 11,z 12,z 13,z 14,z 15,z 16,z 17,z 18] _ K
 by_cases hlt : i < l.length
 ·have g := mapD_get (f := Id3.d) hlt
  have hmem := getD_mem hlt
  have hlt' : ((i : Int) < (l.length : Int)) = True := eq_true (by omega)
  have nx := not_mem_take hlt hn
  have hix : l.getD i default = x → l.idxOf x = i := fun e=>by
   have e1 : l = l.take i ++ x :: l.drop (i + 1) := by
    rw [← e,getD_lt hlt,← List.drop_eq_getElem_cons hlt,List.take_append_drop]
   rw [e1,List.idxOf_append,if_neg hn]
   simp
   omega
  generalize l.getD i default = y at g hmem nx hix
  have hy : y.d = [.int .i64 y.o,.int .i64 y.s,.int .i64 y.i] := rfl
  have hd := id_dec (x := x) (y := y)
  by_cases h0 : x = y
  ·simp +contextual only [x74,mapD_len,hx,g,hy,hd,hlt',eq_true h0,↓U74,↓XP,↓XU,XW0,XW1,qa,qb,qc,qd,qe,qf,reduceCtorEq,TYX]
   repeat' (first | apply And.intro | intro _)
   all_goals first
    | exact hR _ _ (by simp +contextual only [x74,mapD_len,hx,↓U74,↓XP,↓XU,XW0,XW1,qa,qb,qc,qd,qe,qf,reduceCtorEq,TYX]; rw [if_pos (h0 ▸ hmem),hix h0.symm] at h; exact h)
    | omega
    | skip
  ·simp +contextual only [x74,mapD_len,hx,g,hy,hd,hlt',eq_false h0,wrap_succ (show i ≤ big by omega),↓U74,↓XP,↓XU,XW0,XW1,qa,qb,qc,qd,qe,qf,reduceCtorEq,TYX]
   repeat' (first | apply And.intro | intro _)
   all_goals first
    | exact hN (i + 1) _ _ ⟨hlt,nx (Ne.symm h0)⟩ (by omega) ⟨rfl,rfl,rfl,rfl,rfl,rfl,trivial⟩ (back_0 rfl)
    | omega
    | skip
 ·have hik : i = l.length := by omega
  subst hik
  simp +contextual only [x74,mapD_len,hx,↓U74,↓XP,↓XU,XW0,XW1,qa,qb,qc,qd,qe,qf,reduceCtorEq,TYX]
  intros
  refine hE _ _ _ ?_
  simp +contextual only [x74,mapD_len,hx,↓U74,↓XP,↓XU,XW0,XW1,qa,qb,qc,qd,qe,qf,reduceCtorEq,TYX]
  rw [List.take_length] at hn
  rw [if_neg hn] at h
  exact h
theorem f_contains {l : List Id3} {x : Id3} {H : AH} {R : D → AH → Prop} (h : R (.bool (decide (x ∈ l))) H) : ACall Try.prog 70 [.slc (mapD Id3.d l),.agg x.d] H R := by
 refine b70 fun hf=>?_
 have hx : x.d = [.int .i64 x.o,.int .i64 x.s,.int .i64 x.i] := rfl
 have hk : ∀ b,decide (x ∈ l) = b → R (.bool b) H := fun b hb=>hb ▸ h
 simp +contextual only [x70,hx,↓u70_s0,↓XP,↓XU,XW0,XW1,qa,qb,qc,qd,qe,qf,reduceCtorEq,TYX]
 intro b1 h1
 refine f_index (x := x) ?_
 simp +contextual only [x70,hx,↓u70_s0,↓XP,↓XU,XW0,XW1,qa,qb,qc,qd,qe,qf,reduceCtorEq,TYX]
 intros
 refine hk _ (decide_eq_decide.2 ?_)
 split
 ·rename_i hh; exact ⟨fun _=>by omega,fun _=>hh⟩
 ·rename_i hh; exact ⟨fun e=>(hh e).elim,fun e=>absurd e (by omega)⟩
theorem f_same {l q : List Id3} {H : AH} {R : D → AH → Prop} (h : R (.bool (decide (l = q))) H) : ACall Try.prog 13 [.slc (mapD Id3.d l),.slc (mapD Id3.d q)] H R := by
 refine b13 fun hf=>?_
 have hbig := big_eq
 have hlen : (mapD Id3.d l).length ≤ big := hf.1
 rw [mapD_len] at hlen
 have hk : ∀ b,decide (l = q) = b → R (.bool b) H := fun b hb=>hb ▸ h
 by_cases hll : l.length = q.length
 ·simp +contextual only [x13,mapD_len,hll,↓U13,↓XP,↓XU,XW0,XW1,qa,qb,qc,qd,qe,qf,reduceCtorEq,TYX]
  intros
  refine XW.loopS Go.Proofs.Ytffbjejmobhpkaa.hm 26 (fun i : Nat=>[(0,.slc (mapD Id3.d l)),(1,.slc (mapD Id3.d q)),(5,.int .i64 ((i : Nat) : Int))]) (fun i=>H) (fun i=>l.length - i) (fun i=>i ≤ l.length ∧ l.take i = q.take i) 0 ⟨by omega,by simp⟩ ⟨rfl,rfl,rfl,rfl,trivial⟩ rfl ?_
  rintro i z ⟨hi,hn⟩ K hN hE hR
  show xcode _ _ [.slc (mapD Id3.d l),.slc (mapD Id3.d q),z 2,z 3,z 4,.int .i64 ((i : Nat) : Int),z 6,z 7,z 8,z 9,z 10,z 11,z 12,z 13,z 14,z 15,z 16,z 17,z 18,z 19,z 20,z 21,z 22,z 23,z 24,z 25] _ K
  by_cases hlt : i < l.length
  ·have hltq : i < q.length := by omega
   have g := mapD_get (f := Id3.d) hlt
   have g2 := mapD_get (f := Id3.d) hltq
   have hlt' : ((i : Int) < (q.length : Int)) = True := eq_true (by omega)
   have nx : l.getD i default = q.getD i default → l.take (i + 1) = q.take (i + 1) := fun e=>by rw [take_succ hlt,take_succ hltq,hn,e]
   have ny : l.getD i default ≠ q.getD i default → l ≠ q := fun e e2=>e (by rw [e2])
   generalize l.getD i default = y at g nx ny
   generalize q.getD i default = x at g2 nx ny
   have hy : y.d = [.int .i64 y.o,.int .i64 y.s,.int .i64 y.i] := rfl
   have hx : x.d = [.int .i64 x.o,.int .i64 x.s,.int .i64 x.i] := rfl
   have hd := id_dec (x := y) (y := x)
   by_cases h0 : y = x
   ·simp +contextual only [x13,mapD_len,g,g2,hy,hx,hll,hd,hlt',eq_true h0,wrap_succ (show i ≤ big by omega),↓U13,↓XP,↓XU,XW0,XW1,qa,qb,qc,qd,qe,qf,reduceCtorEq,TYX]
    repeat' (first | apply And.intro | intro _)
    all_goals first
     | exact hN (i + 1) _ _ ⟨hlt,nx h0⟩ (by omega) ⟨rfl,rfl,rfl,rfl,trivial⟩ (back_0 rfl)
     | omega
     | skip
   ·simp +contextual only [x13,mapD_len,g,g2,hy,hx,hll,hd,hlt',eq_false h0,↓U13,↓XP,↓XU,XW0,XW1,qa,qb,qc,qd,qe,qf,reduceCtorEq,TYX]
    repeat' (first | apply And.intro | intro _)
    all_goals first
     | exact hR _ _ (by simp +contextual only [x13,mapD_len,↓U13,↓XP,↓XU,XW0,XW1,qa,qb,qc,qd,qe,qf,reduceCtorEq,TYX]; exact hk _ (decide_eq_false (ny h0)))
     | omega
     | skip
  ·have hik : i = l.length := by omega
   subst hik
   simp +contextual only [x13,mapD_len,hll,↓U13,↓XP,↓XU,XW0,XW1,qa,qb,qc,qd,qe,qf,reduceCtorEq,TYX]
   repeat' (first | apply And.intro | intro _)
   refine hE _ _ _ ?_
   simp +contextual only [x13,mapD_len,↓U13,↓XP,↓XU,XW0,XW1,qa,qb,qc,qd,qe,qf,reduceCtorEq,TYX]
   rw [List.take_length,hll,List.take_length] at hn
   exact hk _ (decide_eq_true hn)
 ·have hne : ((l.length : Int) = (q.length : Int)) = False := eq_false (by omega)
  simp +contextual only [x13,mapD_len,hne,↓U13,↓XP,↓XU,XW0,XW1,qa,qb,qc,qd,qe,qf,reduceCtorEq,TYX]
  intros
  exact hk _ (decide_eq_false fun e=>hll (by rw [e]))
end Go.Proofs.Ytffbjejmobhpkaa
end
section
namespace Go.Aw
open Go Go.RowKit
theorem ACall.view {P : Program} {f : FuncId} {args : List D} {H : AH} {R : D → AH → Prop} (h : ACall P f args H (fun d H'=>R d.view H')) : ACall P f args H R :=
 ⟨h.1,fun K w vs h1 h2 h3 h4 h5=>(h.2 K w vs h1 h2 h3 h4 h5).mono fun e w' ⟨v,d,H',K',g1,g2,g3,g4,g5,g6⟩=>⟨v,d.view,H',K',g1,g2,g3,g4,g5,g6.rep.viewO⟩⟩
end Go.Aw
namespace Go.Proofs.Ytffbjejmobhpkaa
open Go Go.Aw
def insI (x : Id3) : List Id3 → List Id3
 | []=>[x]
 | y :: r=>if y.lt x then y :: insI x r else if y = x then y :: r else x :: y :: r
theorem insI_cons {x y : Id3} {r : List Id3} : insI x (y :: r) = if y.lt x then y :: insI x r else if y = x then y :: r else x :: y :: r := rfl
theorem insI_len {x : Id3} : ∀ {l : List Id3},(insI x l).length ≤ l.length + 1
 | []=>by simp [insI]
 | y :: r=>by
  have := insI_len (x := x) (l := r)
  unfold insI
  split
  ·simp; omega
  ·split <;> simp
theorem w_own {xs : List (List D)} : (D.own xs).view = .slc xs := rfl
theorem ids_1 {x : Id3} : [[.int .i64 x.o,.int .i64 x.s,.int .i64 x.i]] = mapD Id3.d [x] := rfl
theorem f_insert {l : List Id3} {x : Id3} {H : AH} {R : D → AH → Prop} (hl : l.length ≤ 1073741824) (h : R (.slc (mapD Id3.d (insI x l))) H) : ACall Try.prog 39 [.slc (mapD Id3.d l),.agg x.d] H R := by
 refine ACall.view (b39 fun hf=>?_)
 have hbig := big_eq
 have hk : ∀ q,insI x l = q → R (.slc (mapD Id3.d q)) H := fun q hq=>hq ▸ h
 have hx : x.d = [.int .i64 x.o,.int .i64 x.s,.int .i64 x.i] := rfl
 simp +contextual only [x39,mapD_len,hx,↓U39,↓XP,↓XU,XW0,XW1,qa,qb,qc,qd,qe,qf,reduceCtorEq,TYX]
 intro b1 h1
 refine XW.loopS Go.Proofs.Ytffbjejmobhpkaa.hm 48 (fun i : Nat=>[(0,.slc (mapD Id3.d l)),(3,.ptr b1 0),(5,.int .i64 ((i : Nat) : Int))]) (fun i=>(b1,AO.cells [.int .i64 x.o,.int .i64 x.s,.int .i64 x.i]) :: H) (fun i=>l.length - i) (fun i=>i ≤ l.length ∧ l.take i ++ insI x (l.drop i) = insI x l) 0 ⟨by omega,by simp⟩ ⟨rfl,rfl,rfl,rfl,trivial⟩ rfl ?_
 rintro i z ⟨hi,hn⟩ K hN hE hR
 show xcode _ _ [.slc (mapD Id3.d l),z 1,z 2,.ptr b1 0,z 4,.int .i64 ((i : Nat) : Int),z 6,z 7,z 8,z 9,z 10,z 11,z 12,z 13,z 14,z 15,z 16,z 17,z 18,z 19,z 20,z 21,z 22,z 23,z 24,z 25,z 26,z 27,z 28,z 29,z 30,z 31,z 32,z 33,z 34,z 35,z 36,z 37,z 38,z 39,z 40,z 41,z 42,z 43,z 44,z 45,z 46,z 47] _ K
 have hsz : ∀ q : List Id3,∀ y ∈ mapD Id3.d q,y.length = 3 := fun q=>mapD_sz fun _=>rfl
 have tk1 : ((mapD Id3.d l).take i).drop 0 = mapD Id3.d (l.take i) := by rw [List.drop_zero,mapD_take]
 have tk2 : ((mapD Id3.d l).take (mapD Id3.d l).length).drop i = mapD Id3.d (l.drop i) := by rw [List.take_length,mapD_drop]
 by_cases hlt : i < l.length
 ·have g := mapD_get (f := Id3.d) hlt
  have hlt' : ((i : Int) < (l.length : Int)) = True := eq_true (by omega)
  rw [drop_cons hlt] at hn
  have hts := take_succ hlt
  have hdr := drop_cons hlt
  generalize l.getD i default = y at g hn hts hdr
  have hy : y.d = [.int .i64 y.o,.int .i64 y.s,.int .i64 y.i] := rfl
  have hd := id_dec (x := y) (y := x)
  have hlen1 : (l.take i).length = i := by simp; omega
  rw [insI_cons] at hn
  by_cases h0 : y.lt x
  ·rw [if_pos h0] at hn
   simp +contextual only [x39,mapD_len,hx,g,hy,hlt',↓U39,↓XP,↓XU,XW0,XW1,qa,qb,qc,qd,qe,qf,reduceCtorEq,TYX]
   intros
   refine ⟨_,fun _ _=>f_less (x := y) (y := x) ⟨rfl,rfl⟩,?_⟩
   simp +contextual only [x39,mapD_len,hx,decide_eq_true h0,wrap_succ (show i ≤ big by omega),↓U39,↓XP,↓XU,XW0,XW1,qa,qb,qc,qd,qe,qf,reduceCtorEq,TYX]
   refine hN (i + 1) _ _ ⟨hlt,?_⟩ (by omega) ⟨rfl,rfl,rfl,rfl,trivial⟩ (back_0 rfl)
   rw [hts,List.append_assoc]
   exact hn
  ·rw [if_neg h0] at hn
   simp +contextual only [x39,mapD_len,hx,g,hy,hlt',↓U39,↓XP,↓XU,XW0,XW1,qa,qb,qc,qd,qe,qf,reduceCtorEq,TYX]
   intros
   refine ⟨_,fun _ _=>f_less (x := y) (y := x) ⟨rfl,rfl⟩,?_⟩
   simp +contextual only [x39,mapD_len,hx,decide_eq_false h0,↓U39,↓XP,↓XU,XW0,XW1,qa,qb,qc,qd,qe,qf,reduceCtorEq,TYX]
   refine hE _ _ _ ?_
   by_cases h2 : y = x
   ·rw [if_pos h2] at hn
    simp +contextual only [x39,mapD_len,hx,g,hy,hlt',hd,eq_true h2,w_own,↓U39,↓XP,↓XU,XW0,XW1,qa,qb,qc,qd,qe,qf,reduceCtorEq,TYX]
    intros
    refine hk _ ?_
    rw [← hn,← hdr,List.take_append_drop]
   ·rw [if_neg h2] at hn
    simp +contextual only [x39,mapD_len,hx,g,hy,hlt',hd,eq_false h2,ids_1 (x := x),mapD_take,mapD_drop,mapD_app,List.take_length,w_own,↓U39,↓XP,↓XU,XW0,XW1,qa,qb,qc,qd,qe,qf,reduceCtorEq,TYX]
    repeat' (first | exact hsz _ | apply And.intro | intro _)
    all_goals first
     | omega
     | (simp only [List.length_append,List.length_take,List.length_drop,List.length_cons,List.length_nil]; omega)
     | skip
    refine hk _ ?_
    rw [List.append_assoc,List.singleton_append,hdr]
    exact hn.symm
 ·have hik : i = l.length := by omega
  subst hik
  rw [List.take_length,List.drop_length] at hn
  simp +contextual only [x39,mapD_len,hx,↓U39,↓XP,↓XU,XW0,XW1,qa,qb,qc,qd,qe,qf,reduceCtorEq,TYX]
  intros
  refine hE _ _ _ ?_
  simp +contextual only [x39,mapD_len,hx,ids_1 (x := x),mapD_take,mapD_drop,mapD_app,List.take_length,List.drop_length,w_own,↓U39,↓XP,↓XU,XW0,XW1,qa,qb,qc,qd,qe,qf,reduceCtorEq,TYX]
  repeat' (first | exact hsz _ | apply And.intro | intro _)
  all_goals first
   | omega
   | (simp only [List.length_append,List.length_take,List.length_drop,List.length_cons,List.length_nil]; omega)
   | skip
  refine hk _ ?_
  exact hn.symm
theorem f_clone {l : List Id3} {H : AH} {R : D → AH → Prop} (hl : l.length ≤ 1073741824) (h0 : l = [] → R (.own []) H) (h : l ≠ [] → ∀ b cap m,freshH H b → R (.hgs b l.length cap) ((b,.cells ((mapD Id3.d l).flatten ++ List.replicate m .any)) :: H)) : ACall Try.prog 42 [.slc (mapD Id3.d l)] H R := by
 refine r42 fun hf=>?_
 have hbig := big_eq
 have hn : mapD Id3.d l = [] → l = [] := fun e=>by cases l <;> simp_all [mapD]
 simp +contextual only [x42,mapD_len,↓U42,↓XP,↓XU,XW0,XW1,qa,qb,qc,qd,qe,qf,reduceCtorEq,TYX]
 refine ⟨fun e=>⟨H,Sbn.sub (List.Sublist.refl _),h0 (hn e)⟩,mapD_sz fun _=>rfl,by omega,fun e=>⟨H,Sbn.sub (List.Sublist.refl _),h0 (hn e)⟩,fun e b cap m hb _=>⟨_,Sbn.sub (List.Sublist.refl _),h (fun e2=>e (by rw [e2]; rfl)) b cap m hb⟩⟩
def minF (le : Id3 → Id3 → Int) : Id3 → List Id3 → Id3
 | m,[]=>m
 | m,x :: r=>minF le (if le x m < 0 then x else m) r
theorem f_min {y0 : Id3} {q l : List Id3} {g : FuncId} {le : Id3 → Id3 → Int} {H : AH} {R : D → AH → Prop} (hq : l = y0 :: q) (hg : ∀ (x y : Id3) (H' : AH) (R' : D → AH → Prop),R' (.int .i64 (le x y)) H' → ACall Try.prog g [.agg x.d,.agg y.d] H' R') (h : R (.agg (minF le y0 q).d) H) : ACall Try.prog 75 [.slc (mapD Id3.d l),.fn g []] H R := by
 refine b75 fun hf=>?_
 have hbig := big_eq
 have hlen : (mapD Id3.d l).length ≤ big := hf.1
 rw [mapD_len] at hlen
 have hpos : 0 < l.length := by rw [hq]; simp
 have g0 := mapD_get (f := Id3.d) hpos
 have e0 : l.getD 0 default = y0 := by rw [hq]; rfl
 rw [e0] at g0
 have hy0 : y0.d = [.int .i64 y0.o,.int .i64 y0.s,.int .i64 y0.i] := rfl
 have hlt0 : ((l.length : Int) < 1) = False := eq_false (by omega)
 have hlt1 : ((0 : Int) < (l.length : Int)) = True := eq_true (by omega)
 simp +contextual only [x75,mapD_len,g0,hy0,hlt0,hlt1,↓U75,↓XP,↓XU,XW0,XW1,qa,qb,qc,qd,qe,qf,reduceCtorEq,TYX]
 rintro b1 h1 _ b2 ⟨n12,h2⟩
 refine XW.loopS Go.Proofs.Ytffbjejmobhpkaa.hm 33 (fun s : Nat × Id3=>[(0,.slc (mapD Id3.d l)),(1,.fn g []),(4,.ptr b1 0),(5,.ptr b2 0),(6,.int .i64 ((s.1 : Nat) : Int))]) (fun s=>(b2,AO.cells s.2.d) :: (b1,AO.cells [.int .i64 0,.int .i64 0,.int .i64 0]) :: H) (fun s=>l.length - s.1) (fun s=>s.1 ≤ l.length ∧ minF le s.2 (l.drop s.1) = minF le y0 q) (1,y0) ⟨hpos,by rw [hq]; rfl⟩ ⟨rfl,rfl,rfl,rfl,rfl,rfl,trivial⟩ rfl ?_
 rintro ⟨i,m⟩ z ⟨hi,hn⟩ K hN hE hR
 dsimp only at hi hn hN
 have hmd : m.d = [.int .i64 m.o,.int .i64 m.s,.int .i64 m.i] := rfl
 show xcode _ _ [.slc (mapD Id3.d l),.fn g [],z 2,z 3,.ptr b1 0,.ptr b2 0,.int .i64 ((i : Nat) : Int),z 7,z 8,z 9,z 10,z 11,z 12,z 13,z 14,z 15,z 16,z 17,z 18,z 19,z 20,z 21,z 22,z 23,z 24,z 25,z 26,z 27,z 28,z 29,z 30,z 31,z 32] ((b2,AO.cells m.d) :: (b1,AO.cells [.int .i64 0,.int .i64 0,.int .i64 0]) :: H) K
 by_cases hlt : i < l.length
 ·have gg := mapD_get (f := Id3.d) hlt
  have hlt' : ((i : Int) < (l.length : Int)) = True := eq_true (by omega)
  rw [drop_cons hlt] at hn
  generalize l.getD i default = y at gg hn
  have hy : y.d = [.int .i64 y.o,.int .i64 y.s,.int .i64 y.i] := rfl
  rw [show minF le m (y :: l.drop (i + 1)) = minF le (if le y m < 0 then y else m) (l.drop (i + 1)) from rfl] at hn
  simp +contextual only [x75,mapD_len,gg,hy,hmd,hlt',h_miss,h_skip,n12,↓U75,↓XP,↓XU,XW0,XW1,qa,qb,qc,qd,qe,qf,reduceCtorEq,TYX]
  intros
  refine ⟨_,fun _ _=>hg y m _ _ ⟨rfl,rfl⟩,?_⟩
  by_cases h0 : le y m < 0
  ·rw [if_pos h0] at hn
   simp +contextual only [x75,mapD_len,gg,hy,hmd,eq_true h0,hlt',h_miss,h_skip,n12,wrap_succ (show i ≤ big by omega),↓U75,↓XP,↓XU,XW0,XW1,qa,qb,qc,qd,qe,qf,reduceCtorEq,TYX]
   repeat' (first | apply And.intro | intro _)
   all_goals first
    | exact hN (i + 1,y) _ _ ⟨hlt,hn⟩ (by dsimp only; omega) ⟨rfl,rfl,rfl,rfl,rfl,rfl,trivial⟩ (back_0 rfl)
    | omega
    | skip
  ·rw [if_neg h0] at hn
   simp +contextual only [x75,mapD_len,gg,hy,hmd,eq_false h0,hlt',h_miss,h_skip,n12,wrap_succ (show i ≤ big by omega),↓U75,↓XP,↓XU,XW0,XW1,qa,qb,qc,qd,qe,qf,reduceCtorEq,TYX]
   repeat' (first | apply And.intro | intro _)
   all_goals first
    | exact hN (i + 1,m) _ _ ⟨hlt,hn⟩ (by dsimp only; omega) ⟨rfl,rfl,rfl,rfl,rfl,rfl,trivial⟩ (back_0 rfl)
    | omega
    | skip
 ·have hik : i = l.length := by omega
  subst hik
  rw [List.drop_length] at hn
  simp +contextual only [x75,mapD_len,↓U75,↓XP,↓XU,XW0,XW1,qa,qb,qc,qd,qe,qf,reduceCtorEq,TYX]
  intros
  refine hE _ _ _ ?_
  simp +contextual only [x75,mapD_len,hmd,h_miss,h_skip,n12,↓U75,↓XP,↓XU,XW0,XW1,qa,qb,qc,qd,qe,qf,reduceCtorEq,TYX]
  rw [← hn] at h
  exact h
end Go.Proofs.Ytffbjejmobhpkaa
end
