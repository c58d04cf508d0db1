/- A part of the proof of what the last text says: XcC, Gk1, Gq4, Gq5. Conditions: those in each theorem. -/
import Derived.Test.YtoeckfegggongaaGreatDoorW22
set_option linter.unusedVariables false
set_option linter.unusedSimpArgs false
set_option maxRecDepth 100000
set_option maxHeartbeats 16000000
open Nat (reduceSub reduceAdd reduceMul reduceEqDiff reduceLeDiff)
section
namespace Go.Proofs.YtoeckfegggongaaGreatDoor
open Go.Xs
open Go Go.Aw
def x7_s0 : XC := (.seq (.regD [f 48 4 0 41,l 3 41 42,f 48 4 1 43,l 3 43 44,a (k 20 #[(t 42),(t 44)] #[3,3]) 45,a (.unOp .not 4 (t 45)) 46,m 46 47,g (.fieldAddr 48 (t 4) 0) 48 47 false,g (.load 3 (t 48)) 49 47 false,g (.fieldAddr 26 (t 1) 0) 50 47 false,g (.load 3 (t 50)) 51 47 false,g (.binOp .eql 3 (t 49) (t 51) 3) 52 47 false,a (.pick (t 47) (.const (.bool true)) (t 52)) 53,m 53 54,g (.move (t 3)) 55 54 false,g (.binOp .gtr 3 (t 55) (i 0) 3) 56 54 false,g (.move (t 56)) 57 54 false,g (.fieldAddr 48 (t 4) 0) 58 57 true,g (.load 3 (t 58)) 59 57 true,g (.fieldAddr 26 (t 1) 3) 60 57 true,g (.load 23 (t 60)) 61 57 true,g (.move (t 3)) 62 57 true,g (.binOp .sub 3 (t 62) (i 1) 3) 63 57 true,g (.indexAddr 23 (t 61) (t 63)) 64 57 true,g (.fieldAddr 48 (t 64) 0) 65 57 true,g (.load 3 (t 65)) 66 57 true,g (.binOp .leq 3 (t 59) (t 66) 3) 67 57 true,g (.pick (t 57) (t 67) (.const (.bool false))) 68 54 false,a (.pick (t 54) (.const (.bool true)) (t 68)) 69]) (.cond (t 69) (.seq (.reg [a (.assign (i 1)) 2]) .ret) .skip))
def x7_s1 : XC := (.seq (.block 1 (.seq (.reg [b (.move (t 36)) 38,j 23 34 36 39,b (.load 48 (t 39)) 40,a (.alloc 48) 4,n 38 3,w 48 4 40]) x7_s0)) (.reg [a (.binOp .add 3 (t 36) (i 1) 3) 70,m 70 36]))
def x7_L2 : XC := (.seq (.reg [a (.binOp .lss 3 (t 36) (t 35) 3) 37]) (.seq (.cond (t 37) .skip (.exit 0)) x7_s1))
def x7_s3 : XC := (.seq (.reg [l 55 6 78,a (k 22 #[(t 78)] #[55]) 79,a (.unOp .not 4 (t 79)) 80]) (.cond (t 80) (.seq (.reg [a (.assign (i 1)) 2]) .ret) .skip))
def x7_s4 : XC := (.seq (.block 3 (.seq (.reg [j 24 72 74 76,b (.load 55 (t 76)) 77,a (.alloc 55) 6,w 55 6 77]) x7_s3)) (.reg [a (.binOp .add 3 (t 74) (i 1) 3) 81,m 81 74]))
def x7_L5 : XC := (.seq (.reg [a (.binOp .lss 3 (t 74) (t 73) 3) 75]) (.seq (.cond (t 75) .skip (.exit 2)) x7_s4))
def x7_s6 : XC := (.seq (.seq (.reg [l 26 1 82,a (k 23 #[(t 82)] #[26]) 83,e 9 83 84,a (.binOp .gtr 3 (t 84) (i 6800) 3) 85]) (.cond (t 85) (.seq (.reg [a (.assign (i 4)) 2]) .ret) .skip)) (.seq (.reg [a (.assign (i 0)) 2]) .ret))
def x7_s7 : XC := (.seq (.seq (.reg [f 26 1 4 71,l 24 71 72,e 24 72 73,a (.move (i 0)) 74]) (.block 2 (.loop x7_L5))) x7_s6)
def x7_s8 : XC := (.seq (.seq (.reg [f 26 1 3 33,l 23 33 34,e 23 34 35,a (.move (i 0)) 36]) (.block 0 (.loop x7_L2))) x7_s7)
def x7_s9 : XC := (.seq (.seq (.reg [f 26 1 4 29,l 24 29 30,e 24 30 31,a (.binOp .eql 3 (t 31) (i 0) 3) 32]) (.cond (t 32) (.seq (.reg [a (.assign (i 1)) 2]) .ret) .skip)) x7_s8)
def x7_s10 : XC := (.seq (.seq (.reg [f 26 1 3 19,l 23 19 20,e 23 20 21,a (.binOp .gtr 3 (t 21) (i 8) 3) 22,m 22 23,g (.fieldAddr 26 (t 1) 4) 24 23 false,g (.load 24 (t 24)) 25 23 false,g (.call ⟨(.builtin .len),#[(t 25)],#[24]⟩) 26 23 false,g (.binOp .gtr 3 (t 26) (i 16) 3) 27 23 false,a (.pick (t 23) (.const (.bool true)) (t 27)) 28]) (.cond (t 28) (.seq (.reg [a (.assign (i 4)) 2]) .ret) .skip)) x7_s9)
def x7_s11 : XC := (.seq (.seq (.reg [f 26 1 0 7,l 3 7 8,f 26 1 1 9,l 3 9 10,a (k 20 #[(t 8),(t 10)] #[3,3]) 11,a (.unOp .not 4 (t 11)) 12,m 12 13,g (.fieldAddr 26 (t 1) 2) 14 13 false,g (.load 3 (t 14)) 15 13 false,g (k 21 #[(t 15),(i 1),(i 1048576)] #[3,3,3]) 16 13 false,g (.unOp .not 4 (t 16)) 17 13 false,a (.pick (t 13) (.const (.bool true)) (t 17)) 18]) (.cond (t 18) (.seq (.reg [a (.assign (i 5)) 2]) .ret) .skip)) x7_s10)
def V7 := PLift.up (aI (aI (aI (@unf _ _ x7_s0.eq_1) (aI (@unf _ _ x7_s1.eq_1) (@unf _ _ x7_L2.eq_1))) (aI (@unf _ _ x7_s3.eq_1) (aI (@unf _ _ x7_s4.eq_1) (@unf _ _ x7_L5.eq_1)))) (aI (aI (@unf _ _ x7_s6.eq_1) (aI (@unf _ _ x7_s7.eq_1) (@unf _ _ x7_s8.eq_1))) (aI (@unf _ _ x7_s9.eq_1) (aI (@unf _ _ x7_s10.eq_1) (@unf _ _ x7_s11.eq_1)))))
theorem U7 : type_of% V7.down := V7.down
def x7 : XC := (.seq (.reg [a (.box 26 (t 0)) 1,a (.assign (i 0)) 2]) x7_s11)
theorem b7 : Bt 7 86 x7 [(.tmp 2)] := bt Tryz.func7 rfl (by kernel_rfl) (by kernel_rfl) (by kernel_rfl)
def x20_s0 : XC := (.seq (.reg [m 0 5,a (k 21 #[(t 5),(i 0),(i 7)] #[3,3,3]) 6,m 6 7,g (.move (t 1)) 8 7 true,g (k 21 #[(t 8),(i 1),(i 16)] #[3,3,3]) 9 7 true,b (.pick (t 7) (t 9) (.const (.bool false))) 10,n 10 4]) .ret)
theorem u20_s0 : type_of% (@unf _ _ x20_s0.eq_1) := unf x20_s0.eq_1
def x20 : XC := (.seq (.reg [a (.assign (.const (.bool false))) 4]) x20_s0)
theorem b20 : Bt 20 11 x20 [(.tmp 4)] := bt Tryz.func20 rfl (by kernel_rfl) (by kernel_rfl) (by kernel_rfl)
def x21_s0 : XC := (.seq (.reg [m 1 7,m 0 8,a (.binOp .leq 3 (t 7) (t 8) 3) 9,m 9 10,g (.move (t 0)) 11 10 true,g (.move (t 2)) 12 10 true,g (.binOp .leq 3 (t 11) (t 12) 3) 13 10 true,b (.pick (t 10) (t 13) (.const (.bool false))) 14,n 14 6]) .ret)
theorem u21_s0 : type_of% (@unf _ _ x21_s0.eq_1) := unf x21_s0.eq_1
def x21 : XC := (.seq (.reg [a (.assign (.const (.bool false))) 6]) x21_s0)
theorem b21 : Bt 21 15 x21 [(.tmp 6)] := bt Tryz.func21 rfl (by kernel_rfl) (by kernel_rfl) (by kernel_rfl)
def x22_s0 : XC := (.seq (.regD [l 50 6 132,a (k 47 #[(t 132)] #[50]) 133,a (.unOp .not 4 (t 133)) 134,m 134 135,g (.fieldAddr 55 (t 1) 3) 136 135 false,g (.load 51 (t 136)) 137 135 false,g (.move (t 5)) 138 135 false,g (.slice 51 (t 137) .none (.some (t 138)) .none) 139 135 false,g (.load 50 (t 6)) 140 135 false,g (k 49 #[(t 139),(t 140)] #[51,50]) 141 135 false,a (.pick (t 135) (.const (.bool true)) (t 141)) 142,m 142 143,g (.fieldAddr 55 (t 1) 0) 144 143 false,g (.load 3 (t 144)) 145 143 false,g (.binOp .eql 3 (t 145) (i 16) 3) 146 143 false,g (.move (t 146)) 147 143 false,g (.load 50 (t 6)) 148 147 true,g (.fieldAddr 55 (t 1) 1) 149 147 true,g (.load 50 (t 149)) 150 147 true,g (.binOp .eql 50 (t 148) (t 150) 50) 151 147 true,g (.pick (t 147) (t 151) (.const (.bool false))) 152 143 false,a (.pick (t 143) (.const (.bool true)) (t 152)) 153]) (.cond (t 153) (.seq (.reg [a (.assign (.const (.bool false))) 2]) .ret) .skip))
theorem u22_s0 : type_of% (@unf _ _ x22_s0.eq_1) := unf x22_s0.eq_1
def x22_s1 : XC := (.seq (.block 1 (.seq (.reg [b (.move (t 127)) 129,j 51 125 127 130,b (.load 50 (t 130)) 131,a (.alloc 50) 6,n 129 5,w 50 6 131]) x22_s0)) (.reg [a (.binOp .add 3 (t 127) (i 1) 3) 154,m 154 127]))
theorem u22_s1 : type_of% (@unf _ _ x22_s1.eq_1) := unf x22_s1.eq_1
def x22_L2 : XC := (.seq (.reg [a (.binOp .lss 3 (t 127) (t 126) 3) 128]) (.seq (.cond (t 128) .skip (.exit 0)) x22_s1))
theorem u22_L2 : type_of% (@unf _ _ x22_L2.eq_1) := unf x22_L2.eq_1
def x22_s3 : XC := (.seq (.reg [f 55 1 0 155,l 3 155 156,a (.binOp .neq 3 (t 156) (i 17) 3) 157,m 157 158,g (.fieldAddr 55 (t 1) 1) 159 158 false,g (.load 50 (t 159)) 160 158 false,g (.fieldAddr 55 (t 1) 2) 161 158 false,g (.load 50 (t 161)) 162 158 false,g (.binOp .neq 50 (t 160) (t 162) 50) 163 158 false,b (.pick (t 158) (.const (.bool true)) (t 163)) 164,n 164 2]) .ret)
theorem u22_s3 : type_of% (@unf _ _ x22_s3.eq_1) := unf x22_s3.eq_1
def x22_s4 : XC := (.seq (.seq (.reg [f 55 1 3 124,l 51 124 125,e 51 125 126,a (.move (i 0)) 127]) (.block 0 (.loop x22_L2))) x22_s3)
theorem u22_s4 : type_of% (@unf _ _ x22_s4.eq_1) := unf x22_s4.eq_1
def x22_s5 : XC := (.seq (.seq (.reg [f 100 3 0 96,l 4 96 97,m 97 98,g (.fieldAddr 55 (t 1) 1) 99 98 true,g (.load 50 (t 99)) 100 98 true,g (k 47 #[(t 100)] #[50]) 101 98 true,g (.unOp .not 4 (t 101)) 102 98 true,a (.pick (t 98) (t 102) (.const (.bool false))) 103,m 103 104,g (.fieldAddr 100 (t 3) 1) 105 104 false,g (.load 4 (t 105)) 106 104 false,g (.move (t 106)) 107 104 false,g (.fieldAddr 55 (t 1) 2) 108 107 true,g (.load 50 (t 108)) 109 107 true,g (k 47 #[(t 109)] #[50]) 110 107 true,g (.unOp .not 4 (t 110)) 111 107 true,g (.pick (t 107) (t 111) (.const (.bool false))) 112 104 false,a (.pick (t 104) (.const (.bool true)) (t 112)) 113,m 113 114,g (.fieldAddr 100 (t 3) 4) 115 114 false,g (.load 4 (t 115)) 116 114 false,g (.move (t 116)) 117 114 false,g (.fieldAddr 55 (t 1) 7) 118 117 true,g (.load 53 (t 118)) 119 117 true,g (k 48 #[(t 119)] #[53]) 120 117 true,g (.unOp .not 4 (t 120)) 121 117 true,g (.pick (t 117) (t 121) (.const (.bool false))) 122 114 false,a (.pick (t 114) (.const (.bool true)) (t 122)) 123]) (.cond (t 123) (.seq (.reg [a (.assign (.const (.bool false))) 2]) .ret) .skip)) x22_s4)
theorem u22_s5 : type_of% (@unf _ _ x22_s5.eq_1) := unf x22_s5.eq_1
def x22_s6 : XC := (.seq (.seq (.regD [f 100 3 0 71,l 4 71 72,f 55 1 1 73,l 50 73 74,a (.build 50 #[]) 75,a (.binOp .neq 50 (t 74) (t 75) 50) 76,a (.binOp .neq 4 (t 72) (t 76) 4) 77,m 77 78,g (.fieldAddr 100 (t 3) 1) 79 78 false,g (.load 4 (t 79)) 80 78 false,g (.fieldAddr 55 (t 1) 2) 81 78 false,g (.load 50 (t 81)) 82 78 false,g (.build 50 #[]) 83 78 false,g (.binOp .neq 50 (t 82) (t 83) 50) 84 78 false,g (.binOp .neq 4 (t 80) (t 84) 4) 85 78 false,a (.pick (t 78) (.const (.bool true)) (t 85)) 86,m 86 87,g (.fieldAddr 100 (t 3) 4) 88 87 false,g (.load 4 (t 88)) 89 87 false,g (.fieldAddr 55 (t 1) 7) 90 87 false,g (.load 53 (t 90)) 91 87 false,g (.build 53 #[]) 92 87 false,g (.binOp .neq 53 (t 91) (t 92) 53) 93 87 false,g (.binOp .neq 4 (t 89) (t 93) 4) 94 87 false,a (.pick (t 87) (.const (.bool true)) (t 94)) 95]) (.cond (t 95) (.seq (.reg [a (.assign (.const (.bool false))) 2]) .ret) .skip)) x22_s5)
theorem u22_s6 : type_of% (@unf _ _ x22_s6.eq_1) := unf x22_s6.eq_1
def x22_s7 : XC := (.seq (.seq (.regD [f 100 3 2 44,l 4 44 45,f 55 1 5 46,l 9 46 47,e 9 47 48,a (k 21 #[(t 48),(i 1),(i 16)] #[3,3,3]) 49,a (.binOp .neq 4 (t 45) (t 49) 4) 50,m 50 51,g (.fieldAddr 100 (t 3) 2) 52 51 false,g (.load 4 (t 52)) 53 51 false,g (.unOp .not 4 (t 53)) 54 51 false,g (.move (t 54)) 55 51 false,g (.fieldAddr 55 (t 1) 5) 56 55 true,g (.load 9 (t 56)) 57 55 true,g (.binOp .neq 9 (t 57) (.const (.string ⟨#[]⟩)) 9) 58 55 true,g (.pick (t 55) (t 58) (.const (.bool false))) 59 51 false,a (.pick (t 51) (.const (.bool true)) (t 59)) 60,m 60 61,g (.fieldAddr 100 (t 3) 3) 62 61 false,g (.load 4 (t 62)) 63 61 false,g (.unOp .not 4 (t 63)) 64 61 false,g (.move (t 64)) 65 61 false,g (.fieldAddr 55 (t 1) 6) 66 65 true,g (.load 9 (t 66)) 67 65 true,g (.binOp .neq 9 (t 67) (.const (.string ⟨#[]⟩)) 9) 68 65 true,g (.pick (t 65) (t 68) (.const (.bool false))) 69 61 false,a (.pick (t 61) (.const (.bool true)) (t 69)) 70]) (.cond (t 70) (.seq (.reg [a (.assign (.const (.bool false))) 2]) .ret) .skip)) x22_s6)
theorem u22_s7 : type_of% (@unf _ _ x22_s7.eq_1) := unf x22_s7.eq_1
def x22_s8 : XC := (.seq (.seq (.reg [m 4 12,a (.unOp .not 4 (t 12)) 13,m 13 14,g (.fieldAddr 55 (t 1) 4) 15 14 false,g (.load 3 (t 15)) 16 14 false,g (.fieldAddr 100 (t 3) 5) 17 14 false,g (.load 3 (t 17)) 18 14 false,g (.fieldAddr 100 (t 3) 6) 19 14 false,g (.load 3 (t 19)) 20 14 false,g (k 21 #[(t 16),(t 18),(t 20)] #[3,3,3]) 21 14 false,g (.unOp .not 4 (t 21)) 22 14 false,a (.pick (t 14) (.const (.bool true)) (t 22)) 23,m 23 24,g (.fieldAddr 55 (t 1) 3) 25 24 false,g (.load 51 (t 25)) 26 24 false,g (.call ⟨(.builtin .len),#[(t 26)],#[51]⟩) 27 24 false,g (.fieldAddr 100 (t 3) 7) 28 24 false,g (.indexAddr 98 (t 28) (i 0)) 29 24 false,g (.load 3 (t 29)) 30 24 false,g (.fieldAddr 100 (t 3) 7) 31 24 false,g (.indexAddr 98 (t 31) (i 1)) 32 24 false,g (.load 3 (t 32)) 33 24 false,g (k 21 #[(t 27),(t 30),(t 33)] #[3,3,3]) 34 24 false,g (.unOp .not 4 (t 34)) 35 24 false,a (.pick (t 24) (.const (.bool true)) (t 35)) 36,m 36 37,g (.fieldAddr 55 (t 1) 6) 38 37 false,g (.load 9 (t 38)) 39 37 false,g (.call ⟨(.builtin .len),#[(t 39)],#[9]⟩) 40 37 false,g (k 21 #[(t 40),(i 0),(i 1024)] #[3,3,3]) 41 37 false,g (.unOp .not 4 (t 41)) 42 37 false,a (.pick (t 37) (.const (.bool true)) (t 42)) 43]) (.cond (t 43) (.seq (.reg [a (.assign (.const (.bool false))) 2]) .ret) .skip)) x22_s7)
theorem u22_s8 : type_of% (@unf _ _ x22_s8.eq_1) := unf x22_s8.eq_1
def x22_s9 : XC := (.seq (.reg [l 55 1 8,a (k 46 #[(t 8)] #[55]) 9,m 9 7,b (.extract (t 7) 0) 10,b (.extract (t 7) 1) 11,a (.alloc 100) 3,w 100 3 10,n 11 4]) x22_s8)
theorem u22_s9 : type_of% (@unf _ _ x22_s9.eq_1) := unf x22_s9.eq_1
def x22 : XC := (.seq (.reg [a (.box 55 (t 0)) 1,a (.assign (.const (.bool false))) 2]) x22_s9)
theorem b22 : Bt 22 165 x22 [(.tmp 2)] := bt Tryz.func22 rfl (by kernel_rfl) (by kernel_rfl) (by kernel_rfl)
def x23_s0 : XC := (.seq (.reg [l 26 1 4,a (k 27 #[(t 4)] #[26]) 5,b (.convert 35 9 (t 5)) 6,n 6 2]) .ret)
theorem u23_s0 : type_of% (@unf _ _ x23_s0.eq_1) := unf x23_s0.eq_1
def x23 : XC := (.seq (.reg [a (.box 26 (t 0)) 1,a (.assign (.const (.string ⟨#[]⟩))) 2]) (.seq (.reg [f 26 1 5 3,s (.store 9 (t 3) (.const (.string ⟨#[]⟩)))]) x23_s0))
theorem b23 : Bt 23 7 x23 [(.tmp 2)] := bt Tryz.func23 rfl (by kernel_rfl) (by kernel_rfl) (by kernel_rfl)
def x46_c0 : XC := (.seq (.reg [b (.binOp .eql 3 (t 7) (i 8) 3) 22,n 22 20]) (.cond (t 20) .skip (.reg [b (.binOp .eql 3 (t 7) (i 10) 3) 23,n 23 20])))
def x46_c1 : XC := (.reg [b (.build 98 #[(0,(i 1)),(1,(i 1))]) 69,f 100 4 1 70,s (.store 4 (t 70) (.const (.bool true))),f 100 4 7 71,w 98 71 69])
def x46_s2 : XC := (.cond (t 67) x46_c1 (.seq (.reg [b (.build 100 #[]) 8,w 100 2 8,a (.assign (.const (.bool false))) 3]) .ret))
def x46_s3 : XC := (.cond (t 64) (.reg [f 100 4 1 66,s (.store 4 (t 66) (.const (.bool true)))]) (.seq (.reg [b (.binOp .eql 3 (t 7) (i 18) 3) 68,n 68 67]) x46_s2))
def x46_c4 : XC := (.regT [4] [([f 55 1 3 56,l 51 56 57,e 51 57 58,b (.binOp .sub 3 (t 58) (i 1) 3) 59,b (.build 98 #[(0,(i 2)),(1,(i 4))]) 60,f 100 4 5 61],s (.store 3 (t 61) (i (-1))),false),([f 100 4 6 62],w 3 62 59,true)] [f 100 4 7 63] [w 98 63 60])
def x46_c5 : XC := (.seq (.reg [b (.binOp .eql 3 (t 7) (i 16) 3) 55,n 55 54]) (.cond (t 54) x46_c4 (.seq (.reg [b (.binOp .eql 3 (t 7) (i 17) 3) 65,n 65 64]) x46_s3)))
def x46_s6 : XC := (.cond (t 50) (.reg [f 100 4 1 52,s (.store 4 (t 52) (.const (.bool true))),f 100 4 6 53,s (.store 3 (t 53) (i 1))]) x46_c5)
def x46_s7 : XC := (.cond (t 46) (.reg [f 100 4 2 48,s (.store 4 (t 48) (.const (.bool true))),f 100 4 6 49,s (.store 3 (t 49) (i 1))]) (.seq (.reg [b (.binOp .eql 3 (t 7) (i 15) 3) 51,n 51 50]) x46_s6))
def x46_s8 : XC := (.cond (t 42) (.reg [f 100 4 1 44,s (.store 4 (t 44) (.const (.bool true))),f 100 4 6 45,s (.store 3 (t 45) (i 1023))]) (.seq (.reg [b (.binOp .eql 3 (t 7) (i 14) 3) 47,n 47 46]) x46_s7))
def x46_s9 : XC := (.cond (t 38) (.reg [f 100 4 2 40,s (.store 4 (t 40) (.const (.bool true))),f 100 4 3 41,s (.store 4 (t 41) (.const (.bool true)))]) (.seq (.reg [b (.binOp .eql 3 (t 7) (i 13) 3) 43,n 43 42]) x46_s8))
def x46_s10 : XC := (.cond (t 35) (.reg [f 100 4 4 37,s (.store 4 (t 37) (.const (.bool true)))]) (.seq (.reg [b (.binOp .eql 3 (t 7) (i 12) 3) 39,n 39 38]) x46_s9))
def x46_s11 : XC := (.cond (t 32) (.reg [f 100 4 6 34,s (.store 3 (t 34) (i 1))]) (.seq (.reg [b (.binOp .eql 3 (t 7) (i 11) 3) 36,n 36 35]) x46_s10))
def x46_s12 : XC := (.cond (t 29) (.reg [f 100 4 2 31,s (.store 4 (t 31) (.const (.bool true)))]) (.seq (.reg [b (.binOp .eql 3 (t 7) (i 9) 3) 33,n 33 32]) x46_s11))
def x46_s13 : XC := (.cond (t 25) (.reg [f 100 4 3 28,s (.store 4 (t 28) (.const (.bool true)))]) (.seq (.reg [b (.binOp .eql 3 (t 7) (i 6) 3) 30,n 30 29]) x46_s12))
def x46_c14 : XC := (.seq (.seq (.reg [b (.binOp .eql 3 (t 7) (i 5) 3) 26,n 26 25]) (.cond (t 25) .skip (.reg [b (.binOp .eql 3 (t 7) (i 7) 3) 27,n 27 25]))) x46_s13)
def x46_c15 : XC := (.reg [f 100 4 1 17,s (.store 4 (t 17) (.const (.bool true))),f 100 4 3 18,s (.store 4 (t 18) (.const (.bool true))),f 100 4 6 19,s (.store 3 (t 19) (i 1048576))])
def x46_c16 : XC := (.seq (.seq (.reg [b (.binOp .eql 3 (t 7) (i 2) 3) 21,n 21 20]) (.cond (t 20) .skip x46_c0)) (.cond (t 20) (.reg [f 100 4 6 24,s (.store 3 (t 24) (i 1048576))]) x46_c14))
def x46_s17 : XC := (.cond (t 12) (.reg [b (.build 100 #[(2,(.const (.bool true))),(3,(.const (.bool true))),(4,(.const (.bool true)))]) 14,w 100 4 14]) (.seq (.reg [b (.binOp .eql 3 (t 7) (i 4) 3) 16,n 16 15]) (.cond (t 15) x46_c15 x46_c16)))
def x46_s18 : XC := (.cond (t 9) (.reg [b (.build 100 #[(2,(.const (.bool true))),(3,(.const (.bool true)))]) 11,w 100 4 11]) (.seq (.reg [b (.binOp .eql 3 (t 7) (i 3) 3) 13,n 13 12]) x46_s17))
def x46_s19 : XC := (.seq (.reg [b (.load 100 (t 4)) 72,w 100 2 72,a (.assign (.const (.bool true))) 3]) .ret)
def x46_s20 : XC := (.seq (.seq (.reg [f 55 1 0 6,l 3 6 7]) (.block 0 (.seq (.reg [b (.binOp .eql 3 (t 7) (i 1) 3) 10,n 10 9]) x46_s18))) x46_s19)
def x46_s21 : XC := (.seq (.reg [b (.build 100 #[(0,(.const (.bool true)))]) 5,a (.alloc 100) 4,w 100 4 5]) x46_s20)
def V46 := PLift.up (aI (aI (aI (aI (@unf _ _ x46_c0.eq_1) (@unf _ _ x46_c1.eq_1)) (aI (@unf _ _ x46_s2.eq_1) (aI (@unf _ _ x46_s3.eq_1) (@unf _ _ x46_c4.eq_1)))) (aI (aI (@unf _ _ x46_c5.eq_1) (aI (@unf _ _ x46_s6.eq_1) (@unf _ _ x46_s7.eq_1))) (aI (@unf _ _ x46_s8.eq_1) (aI (@unf _ _ x46_s9.eq_1) (@unf _ _ x46_s10.eq_1))))) (aI (aI (aI (@unf _ _ x46_s11.eq_1) (@unf _ _ x46_s12.eq_1)) (aI (@unf _ _ x46_s13.eq_1) (aI (@unf _ _ x46_c14.eq_1) (@unf _ _ x46_c15.eq_1)))) (aI (aI (@unf _ _ x46_c16.eq_1) (aI (@unf _ _ x46_s17.eq_1) (@unf _ _ x46_s18.eq_1))) (aI (@unf _ _ x46_s19.eq_1) (aI (@unf _ _ x46_s20.eq_1) (@unf _ _ x46_s21.eq_1))))))
theorem U46 : type_of% V46.down := V46.down
def x46 : XC := (.seq (.reg [a (.box 55 (t 0)) 1,a (.alloc 100) 2,a (.assign (.const (.bool false))) 3]) x46_s21)
theorem b46 : Bt 46 73 x46 [(.cell 2 100),(.tmp 3)] := bt Tryz.func46 rfl (by kernel_rfl) (by kernel_rfl) (by kernel_rfl)
def x47_s0 : XC := (.seq (.reg [f 50 1 0 3,l 3 3 4,f 50 1 1 5,l 3 5 6,a (k 20 #[(t 4),(t 6)] #[3,3]) 7,m 7 8,g (.fieldAddr 50 (t 1) 2) 9 8 true,g (.load 3 (t 9)) 10 8 true,g (k 21 #[(t 10),(i 0),(i 15)] #[3,3,3]) 11 8 true,b (.pick (t 8) (t 11) (.const (.bool false))) 12,n 12 2]) .ret)
theorem u47_s0 : type_of% (@unf _ _ x47_s0.eq_1) := unf x47_s0.eq_1
def x47 : XC := (.seq (.reg [a (.box 50 (t 0)) 1,a (.assign (.const (.bool false))) 2]) x47_s0)
theorem b47 : Bt 47 13 x47 [(.tmp 2)] := bt Tryz.func47 rfl (by kernel_rfl) (by kernel_rfl) (by kernel_rfl)
def x48_s0 : XC := (.seq (.reg [f 53 1 0 3,l 3 3 4,a (.binOp .geq 3 (t 4) (i 1) 3) 5,m 5 6,g (.fieldAddr 53 (t 1) 0) 7 6 true,g (.load 3 (t 7)) 8 6 true,g (.fieldAddr 53 (t 1) 1) 9 6 true,g (.load 3 (t 9)) 10 6 true,g (.binOp .leq 3 (t 8) (t 10) 3) 11 6 true,a (.pick (t 6) (t 11) (.const (.bool false))) 12,m 12 13,g (.fieldAddr 53 (t 1) 1) 14 13 true,g (.load 3 (t 14)) 15 13 true,g (.binOp .leq 3 (t 15) (i 1022679) 3) 16 13 true,b (.pick (t 13) (t 16) (.const (.bool false))) 17,n 17 2]) .ret)
theorem u48_s0 : type_of% (@unf _ _ x48_s0.eq_1) := unf x48_s0.eq_1
def x48 : XC := (.seq (.reg [a (.box 53 (t 0)) 1,a (.assign (.const (.bool false))) 2]) x48_s0)
theorem b48 : Bt 48 18 x48 [(.tmp 2)] := bt Tryz.func48 rfl (by kernel_rfl) (by kernel_rfl) (by kernel_rfl)
def x49_s0 : XC := (.seq (.reg [m 0 5,l 50 3 6,a (k 76 #[(t 5),(t 6)] #[51,50]) 7,b (.binOp .geq 3 (t 7) (i 0) 3) 8,n 8 4]) .ret)
theorem u49_s0 : type_of% (@unf _ _ x49_s0.eq_1) := unf x49_s0.eq_1
def x49 : XC := (.seq (.reg [a (.box 50 (t 1)) 3,a (.assign (.const (.bool false))) 4]) x49_s0)
theorem b49 : Bt 49 9 x49 [(.tmp 4)] := bt Tryz.func49 rfl (by kernel_rfl) (by kernel_rfl) (by kernel_rfl)
def x76_s0 : XC := (.seq (.regD [l 50 3 11,m 0 12,m 5 13,j 51 12 13 14,l 50 14 15,a (.binOp .eql 50 (t 11) (t 15) 50) 16]) (.cond (t 16) (.seq (.reg [b (.move (t 5)) 17,n 17 4]) .ret) .skip))
def x76_s1 : XC := (.seq (.block 1 (.seq (.reg [b (.move (t 8)) 10,n 10 5]) x76_s0)) (.reg [a (.binOp .add 3 (t 8) (i 1) 3) 18,m 18 8]))
def x76_L2 : XC := (.seq (.reg [a (.binOp .lss 3 (t 8) (t 7) 3) 9]) (.seq (.cond (t 9) .skip (.exit 0)) x76_s1))
def x76_s3 : XC := (.seq (.seq (.reg [m 0 6,e 51 6 7,a (.move (i 0)) 8]) (.block 0 (.loop x76_L2))) (.seq (.reg [a (.assign (i (-1))) 4]) .ret))
def V76 := PLift.up (aI (aI (@unf _ _ x76_s0.eq_1) (@unf _ _ x76_s1.eq_1)) (aI (@unf _ _ x76_L2.eq_1) (@unf _ _ x76_s3.eq_1)))
theorem U76 : type_of% V76.down := V76.down
def x76 : XC := (.seq (.reg [a (.box 50 (t 1)) 3,a (.assign (i 0)) 4]) x76_s3)
theorem b76 : Bt 76 19 x76 [(.tmp 4)] := bt Tryz.func76 rfl (by kernel_rfl) (by kernel_rfl) (by kernel_rfl)
def x27_s0 : XC := (.reg [c (.move (t 4)) 26,f 48 6 0 27,l 3 27 28,f 48 6 1 29,l 3 29 30,a (.buildSlice 22 2 #[(0,(t 28)),(1,(t 30))]) 31,b (.call ⟨(.builtin .append),#[(t 26),(t 31)],#[22,22]⟩) 32,n 32 4])
def x27_s1 : XC := (.seq (.block 1 (.seq (.reg [j 23 20 22 24,b (.load 48 (t 24)) 25,a (.alloc 48) 6,w 48 6 25]) x27_s0)) (.reg [a (.binOp .add 3 (t 22) (i 1) 3) 33,m 33 22]))
def x27_L2 : XC := (.seq (.reg [a (.binOp .lss 3 (t 22) (t 21) 3) 23]) (.seq (.cond (t 23) .skip (.exit 0)) x27_s1))
def x27_s3 : XC := (.reg [c (.move (t 3)) 85,f 55 8 5 86,l 9 86 87,f 55 8 6 88,l 9 88 89,a (.buildSlice 73 2 #[(0,(t 87)),(1,(t 89))]) 90,a (k 61 #[(t 90)] #[73]) 91,b (.call ⟨(.builtin .append),#[(t 85),(t 91)],#[35,35]⟩) 92,n 92 3])
def x27_s4 : XC := (.seq (.reg [c (.move (t 3)) 80,f 111 10 0 81,l 22 81 82,a (k 57 #[(t 82)] #[22]) 83,b (.call ⟨(.builtin .append),#[(t 80),(t 83)],#[35,35]⟩) 84,n 84 3]) x27_s3)
def x27_s5 : XC := (.seq (.reg [f 55 8 3 76,l 51 76 77,a (.makeFunc (.func 59) #[(t 10)] #[]) 78,a (k 60 #[(t 77),(t 78)] #[51,112]) 79]) x27_s4)
def x27_s6 : XC := (.seq (.reg [c (.move (t 3)) 61,f 111 9 0 62,c (.load 22 (t 62)) 63,f 55 8 4 64,l 3 64 65,f 55 8 7 66,f 53 66 0 67,l 3 67 68,f 55 8 7 69,f 53 69 1 70,l 3 70 71,a (.buildSlice 22 3 #[(0,(t 65)),(1,(t 68)),(2,(t 71))]) 72,a (.call ⟨(.builtin .append),#[(t 63),(t 72)],#[22,22]⟩) 73,a (k 57 #[(t 73)] #[22]) 74,b (.call ⟨(.builtin .append),#[(t 61),(t 74)],#[35,35]⟩) 75,n 75 3]) (.seq (.reg [a (.alloc 111) 10]) x27_s5))
def x27_s7 : XC := (.seq (.reg [f 55 8 2 58,l 50 58 59,a (k 59 #[(t 9),(t 59)] #[111,50]) 60]) x27_s6)
def x27_s8 : XC := (.seq (.gh (.reg [f 55 8 1 55,l 50 55 56,a (k 59 #[(t 9),(t 56)] #[111,50]) 57])) x27_s7)
def x27_s9 : XC := (.seq (.reg [f 55 8 0 51,l 3 51 52,a (.call ⟨(.builtin .real),#[(t 52)],#[22]⟩) 53,b (.build 111 #[(0,(t 53))]) 54,a (.alloc 111) 9,w 111 9 54]) x27_s8)
def x27_s10 : XC := (.seq (.block 3 (.seq (.reg [j 24 45 47 49,b (.load 55 (t 49)) 50,a (.alloc 55) 8,w 55 8 50]) x27_s9)) (.reg [a (.binOp .add 3 (t 47) (i 1) 3) 93,m 93 47]))
theorem u27_s10 : type_of% (@unf _ _ x27_s10.eq_1) := unf x27_s10.eq_1
def x27_L11 : XC := (.seq (.reg [a (.binOp .lss 3 (t 47) (t 46) 3) 48]) (.seq (.cond (t 48) .skip (.exit 2)) x27_s10))
theorem u27_L11 : type_of% (@unf _ _ x27_L11.eq_1) := unf x27_L11.eq_1
def x27_s12 : XC := (.seq (.reg [c (.move (t 3)) 94,f 26 1 5 95,l 9 95 96,a (k 62 #[(t 96)] #[9]) 97,b (.call ⟨(.builtin .append),#[(t 94),(t 97)],#[35,35]⟩) 98,n 98 2]) .ret)
def x27_s13 : XC := (.seq (.seq (.reg [f 26 1 4 44,l 24 44 45,e 24 45 46,a (.move (i 0)) 47]) (.block 2 (.loop x27_L11))) x27_s12)
def x27_s14 : XC := (.seq (.reg [c (.move (t 3)) 38,f 26 1 4 39,l 24 39 40,e 24 40 41,a (k 58 #[(t 41)] #[3]) 42,b (.call ⟨(.builtin .append),#[(t 38),(t 42)],#[35,35]⟩) 43,n 43 3]) x27_s13)
def x27_s15 : XC := (.seq (.reg [c (.move (t 3)) 34,m 4 35,a (k 57 #[(t 35)] #[22]) 36,b (.call ⟨(.builtin .append),#[(t 34),(t 36)],#[35,35]⟩) 37,n 37 3]) x27_s14)
def x27_s16 : XC := (.seq (.seq (.reg [f 26 1 3 19,l 23 19 20,e 23 20 21,a (.move (i 0)) 22]) (.block 0 (.loop x27_L2))) x27_s15)
def x27_s17 : XC := (.seq (.reg [f 26 1 0 11,l 3 11 12,f 26 1 1 13,l 3 13 14,f 26 1 2 15,l 3 15 16,a (.buildSlice 22 3 #[(0,(t 12)),(1,(t 14)),(2,(t 16))]) 17,b (k 57 #[(t 17)] #[22]) 18,n 18 3]) (.seq (.reg [a (.assign (.const (.slice .none 0 0))) 4]) x27_s16))
def V27 := PLift.up (aI (aI (aI (aI (@unf _ _ x27_s0.eq_1) (@unf _ _ x27_s1.eq_1)) (aI (@unf _ _ x27_L2.eq_1) (@unf _ _ x27_s3.eq_1))) (aI (aI (@unf _ _ x27_s4.eq_1) (@unf _ _ x27_s5.eq_1)) (aI (@unf _ _ x27_s6.eq_1) (aI (@unf _ _ x27_s7.eq_1) (@unf _ _ x27_s8.eq_1))))) (aI (aI (aI (@unf _ _ x27_s9.eq_1) (@u27_s10)) (aI (@u27_L11) (@unf _ _ x27_s12.eq_1))) (aI (aI (@unf _ _ x27_s13.eq_1) (@unf _ _ x27_s14.eq_1)) (aI (@unf _ _ x27_s15.eq_1) (aI (@unf _ _ x27_s16.eq_1) (@unf _ _ x27_s17.eq_1))))))
theorem U27 : type_of% V27.down := V27.down
def x27 : XC := (.seq (.reg [a (.box 26 (t 0)) 1,a (.assign (.const (.slice .none 0 0))) 2]) x27_s17)
theorem b27 : Bt 27 99 x27 [(.tmp 2)] := bt Tryz.func27 rfl (by kernel_rfl) (by kernel_rfl) (by kernel_rfl)
def x57_s0 : XC := (.reg [c (.move (t 3)) 15,m 5 16,a (k 58 #[(t 16)] #[3]) 17,b (.call ⟨(.builtin .append),#[(t 15),(t 17)],#[35,35]⟩) 18,n 18 3])
def x57_s1 : XC := (.seq (.block 1 (.seq (.reg [j 22 9 11 13,b (.load 3 (t 13)) 14,n 14 5]) x57_s0)) (.reg [a (.binOp .add 3 (t 11) (i 1) 3) 19,m 19 11]))
def x57_L2 : XC := (.seq (.reg [a (.binOp .lss 3 (t 11) (t 10) 3) 12]) (.seq (.cond (t 12) .skip (.exit 0)) x57_s1))
def x57_s3 : XC := (.seq (.seq (.reg [m 0 9,e 22 9 10,a (.move (i 0)) 11]) (.block 0 (.loop x57_L2))) (.seq (.reg [b (.move (t 3)) 20,n 20 2]) .ret))
def x57_s4 : XC := (.seq (.reg [m 0 6,e 22 6 7,b (k 58 #[(t 7)] #[3]) 8,n 8 3]) x57_s3)
def V57 := PLift.up (aI (aI (@unf _ _ x57_s0.eq_1) (@unf _ _ x57_s1.eq_1)) (aI (@unf _ _ x57_L2.eq_1) (aI (@unf _ _ x57_s3.eq_1) (@unf _ _ x57_s4.eq_1))))
theorem U57 : type_of% V57.down := V57.down
def x57 : XC := (.seq (.reg [a (.assign (.const (.slice .none 0 0))) 2]) x57_s4)
theorem b57 : Bt 57 21 x57 [(.tmp 2)] := bt Tryz.func57 rfl (by kernel_rfl) (by kernel_rfl) (by kernel_rfl)
def x58_s0 : XC := (.cond (t 11) (.reg [m 3 12,b (.unOp .xor 117 (t 12)) 13,n 13 3,a (.assign (.const (.int .u8 255))) 4]) .skip)
def x58_s1 : XC := (.reg [m 5 22,b (.binOp .sub 3 (t 22) (i 1) 3) 23,n 23 5])
def x58_s2 : XC := (.block 1 (.seq (.seq (.reg [m 3 16,m 5 17,a (.binOp .sub 3 (t 17) (i 1) 3) 18,a (.binOp .mul 3 (i 8) (t 18) 3) 19,a (.binOp .shr 117 (t 16) (t 19) 3) 20,a (.binOp .gtr 117 (t 20) (.const (.int .u64 0)) 117) 21]) (.cond (t 21) (.exit 0) .skip)) x58_s1))
def x58_L3 : XC := (.seq (.seq (.reg [m 5 14,a (.binOp .gtr 3 (t 14) (i 0) 3) 15]) (.cond (t 15) .skip (.exit 0))) x58_s2)
def x58_s4 : XC := (.reg [m 7 34,b (.binOp .sub 3 (t 34) (i 1) 3) 35,n 35 7])
def x58_s5 : XC := (.seq (.block 3 (.reg [c (.move (t 6)) 36,m 3 37,m 7 38,a (.binOp .mul 3 (i 8) (t 38) 3) 39,a (.binOp .shr 117 (t 37) (t 39) 3) 40,a (.convert 117 5 (t 40)) 41,m 4 42,a (.binOp .xor 5 (t 41) (t 42) 5) 43,a (.buildSlice 35 1 #[(0,(t 43))]) 44,b (.call ⟨(.builtin .append),#[(t 36),(t 44)],#[35,35]⟩) 45,n 45 6])) x58_s4)
def x58_L6 : XC := (.seq (.seq (.reg [m 7 32,a (.binOp .geq 3 (t 32) (i 0) 3) 33]) (.cond (t 33) .skip (.exit 2))) x58_s5)
def x58_s7 : XC := (.seq (.seq (.reg [m 5 30,b (.binOp .sub 3 (t 30) (i 1) 3) 31,n 31 7]) (.block 2 (.loop x58_L6))) (.seq (.reg [b (.move (t 6)) 46,n 46 2]) .ret))
def x58_s8 : XC := (.seq (.reg [m 5 24,a (.binOp .add 3 (i 128) (t 24) 3) 25,a (.convert 3 5 (t 25)) 26,m 4 27,a (.binOp .xor 5 (t 26) (t 27) 5) 28,b (.buildSlice 35 1 #[(0,(t 28))]) 29,n 29 6]) x58_s7)
def x58_s9 : XC := (.seq (.seq (.reg [m 0 10,a (.binOp .lss 3 (t 10) (i 0) 3) 11]) x58_s0) (.seq (.reg [a (.assign (i 8)) 5]) (.seq .skip (.seq (.block 0 (.loop x58_L3)) x58_s8))))
def x58_s10 : XC := (.scope (.seq (.reg [m 0 8,b (.convert 3 117 (t 8)) 9,n 9 3,a (.assign (.const (.int .u8 0))) 4]) x58_s9))
def V58 := PLift.up (aI (aI (aI (@unf _ _ x58_s0.eq_1) (@unf _ _ x58_s1.eq_1)) (aI (@unf _ _ x58_s2.eq_1) (aI (@unf _ _ x58_L3.eq_1) (@unf _ _ x58_s4.eq_1)))) (aI (aI (@unf _ _ x58_s5.eq_1) (aI (@unf _ _ x58_L6.eq_1) (@unf _ _ x58_s7.eq_1))) (aI (@unf _ _ x58_s8.eq_1) (aI (@unf _ _ x58_s9.eq_1) (@unf _ _ x58_s10.eq_1)))))
theorem U58 : type_of% V58.down := V58.down
def x58 : XC := (.seq (.reg [a (.assign (.const (.slice .none 0 0))) 2]) x58_s10)
theorem b58 : Bt 58 47 x58 [(.tmp 2)] := bt Tryz.func58 rfl (by kernel_rfl) (by kernel_rfl) (by kernel_rfl)
def x59_s0 : XC := (.regT [0] [([m 0 4,m 0 5,a (.nilCheck (t 5)) 6,f 111 6 0 7],c (.load 22 (t 7)) 8,false)] [f 50 3 0 9,l 3 9 10,f 50 3 1 11,l 3 11 12,f 50 3 2 13,l 3 13 14,a (.buildSlice 22 3 #[(0,(t 10)),(1,(t 12)),(2,(t 14))]) 15,b (.call ⟨(.builtin .append),#[(t 8),(t 15)],#[22,22]⟩) 16,a (.nilCheck (t 4)) 17,f 111 17 0 18] [w 22 18 16])
theorem u59_s0 : type_of% (@unf _ _ x59_s0.eq_1) := unf x59_s0.eq_1
def x59 : XC := (.seq (.reg [a (.box 50 (t 1)) 3]) x59_s0)
theorem b59 : Bt 59 19 x59 [] := bt Tryz.func59 rfl (by kernel_rfl) (by kernel_rfl) (by kernel_rfl)
def x60_s0 : XC := (.reg [m 1 12,l 50 5 13,a (.call ⟨(.value (t 12)),#[(t 13)],#[50]⟩) 14])
def x60_s1 : XC := (.seq (.block 1 (.seq (.reg [j 51 6 8 10,b (.load 50 (t 10)) 11,a (.alloc 50) 5,w 50 5 11]) x60_s0)) (.reg [a (.binOp .add 3 (t 8) (i 1) 3) 15,m 15 8]))
def x60_L2 : XC := (.seq (.reg [a (.binOp .lss 3 (t 8) (t 7) 3) 9]) (.seq (.cond (t 9) .skip (.exit 0)) x60_s1))
def V60 := PLift.up (aI (@unf _ _ x60_s0.eq_1) (aI (@unf _ _ x60_s1.eq_1) (@unf _ _ x60_L2.eq_1)))
theorem U60 : type_of% V60.down := V60.down
def x60 : XC := (.seq (.reg [m 0 6,e 51 6 7,a (.move (i 0)) 8]) (.block 0 (.loop x60_L2)))
theorem b60 : Bt 60 16 x60 [] := bt Tryz.func60 rfl (by kernel_rfl) (by kernel_rfl) (by kernel_rfl)
def x61_s0 : XC := (.reg [c (.move (t 3)) 15,m 5 16,a (k 62 #[(t 16)] #[9]) 17,b (.call ⟨(.builtin .append),#[(t 15),(t 17)],#[35,35]⟩) 18,n 18 3])
def x61_s1 : XC := (.seq (.block 1 (.seq (.reg [j 73 9 11 13,b (.load 9 (t 13)) 14,n 14 5]) x61_s0)) (.reg [a (.binOp .add 3 (t 11) (i 1) 3) 19,m 19 11]))
def x61_L2 : XC := (.seq (.reg [a (.binOp .lss 3 (t 11) (t 10) 3) 12]) (.seq (.cond (t 12) .skip (.exit 0)) x61_s1))
def x61_s3 : XC := (.seq (.seq (.reg [m 0 9,e 73 9 10,a (.move (i 0)) 11]) (.block 0 (.loop x61_L2))) (.seq (.reg [b (.move (t 3)) 20,n 20 2]) .ret))
def x61_s4 : XC := (.seq (.reg [m 0 6,e 73 6 7,b (k 58 #[(t 7)] #[3]) 8,n 8 3]) x61_s3)
def V61 := PLift.up (aI (aI (@unf _ _ x61_s0.eq_1) (@unf _ _ x61_s1.eq_1)) (aI (@unf _ _ x61_L2.eq_1) (aI (@unf _ _ x61_s3.eq_1) (@unf _ _ x61_s4.eq_1))))
theorem U61 : type_of% V61.down := V61.down
def x61 : XC := (.seq (.reg [a (.assign (.const (.slice .none 0 0))) 2]) x61_s4)
theorem b61 : Bt 61 21 x61 [(.tmp 2)] := bt Tryz.func61 rfl (by kernel_rfl) (by kernel_rfl) (by kernel_rfl)
def x62_s0 : XC := (.seq (.reg [m 0 3,e 9 3 4,c (k 58 #[(t 4)] #[3]) 5,m 0 6,b (.call ⟨(.builtin .append),#[(t 5),(t 6)],#[35,9]⟩) 7,n 7 2]) .ret)
theorem u62_s0 : type_of% (@unf _ _ x62_s0.eq_1) := unf x62_s0.eq_1
def x62 : XC := (.seq (.reg [a (.assign (.const (.slice .none 0 0))) 2]) x62_s0)
theorem b62 : Bt 62 8 x62 [(.tmp 2)] := bt Tryz.func62 rfl (by kernel_rfl) (by kernel_rfl) (by kernel_rfl)
end Go.Proofs.YtoeckfegggongaaGreatDoor
end
section
namespace Go.Proofs.YtoeckfegggongaaGreatDoor
open Go Go.Aw
theorem f_within {n low high : Int} {H : AH} {R : D → AH → Prop} (h : R (.bool (decide (low ≤ n ∧ n ≤ high))) H) : ACall Tryz.prog 21 [.int .i64 n,.int .i64 low,.int .i64 high] H R := by
  refine b21 fun hf => ?_
  have hk : ∀ c,decide (low ≤ n ∧ n ≤ high) = c → R (.bool c) H := fun b hb => hb ▸ h
  simp +contextual only [x21,↓u21_s0,↓XP,XW0,XW1,reduceSub,reduceAdd,reduceMul,reduceEqDiff,reduceLeDiff,Nat.reduceBEq,reduceCtorEq,TYX]
  repeat' (first | apply And.intro | intro _)
  all_goals first
    | exact hk _ (decide_eq_true (by omega))
    | exact hk _ (decide_eq_false (by omega))
    | exact hk _ (decide_eq_decide.2 (by omega))
    | skip
def OkNo (o s : Int) : Prop := 0 ≤ o ∧ o ≤ 7 ∧ 1 ≤ s ∧ s ≤ 16
instance (o s : Int) : Decidable (OkNo o s) := by unfold OkNo; exact inferInstance
theorem f_numbered {o s : Int} {H : AH} {R : D → AH → Prop} (h : R (.bool (decide (OkNo o s))) H) : ACall Tryz.prog 20 [.int .i64 o,.int .i64 s] H R := by
  refine b20 fun hf => ?_
  have hk : ∀ c,decide (OkNo o s) = c → R (.bool c) H := fun b hb => hb ▸ h
  simp +contextual only [x20,↓u20_s0,↓XP,XW0,XW1,reduceSub,reduceAdd,reduceMul,reduceEqDiff,reduceLeDiff,Nat.reduceBEq,reduceCtorEq,TYX]
  refine f_within ?_
  by_cases h1 : 0 ≤ o ∧ o ≤ 7
  · simp +contextual only [x20,eq_true h1,↓u20_s0,↓XP,XW0,XW1,reduceSub,reduceAdd,reduceMul,reduceEqDiff,reduceLeDiff,Nat.reduceBEq,reduceCtorEq,TYX]
    refine f_within ?_
    simp +contextual only [x20,↓u20_s0,↓XP,XW0,XW1,reduceSub,reduceAdd,reduceMul,reduceEqDiff,reduceLeDiff,Nat.reduceBEq,reduceCtorEq,TYX]
    exact hk _ (decide_eq_decide.2 (by unfold OkNo; omega))
  · simp +contextual only [x20,eq_false h1,↓u20_s0,↓XP,XW0,XW1,reduceSub,reduceAdd,reduceMul,reduceEqDiff,reduceLeDiff,Nat.reduceBEq,reduceCtorEq,TYX]
    exact hk _ (decide_eq_false (by unfold OkNo; omega))
theorem f_names {x : Id3} {H : AH} {R : D → AH → Prop} (h : R (.bool (decide (OkId x))) H) : ACall Tryz.prog 47 [.agg x.d] H R := by
  refine b47 fun hf => ?_
  have hd : x.d = [.int .i64 x.o,.int .i64 x.s,.int .i64 x.i] := rfl
  have hk : ∀ b,decide (OkId x) = b → R (.bool b) H := fun b hb => hb ▸ h
  simp +contextual only [x47,hd,↓u47_s0,↓XP,XW0,XW1,reduceSub,reduceAdd,reduceMul,reduceEqDiff,reduceLeDiff,Nat.reduceBEq,reduceCtorEq,TYX]
  refine fun b1 h1 _ _ => f_numbered ?_
  by_cases h1 : OkNo x.o x.s
  · simp +contextual only [x47,hd,eq_true h1,↓u47_s0,↓XP,XW0,XW1,reduceSub,reduceAdd,reduceMul,reduceEqDiff,reduceLeDiff,Nat.reduceBEq,reduceCtorEq,TYX]
    refine fun _ => f_within ?_
    simp +contextual only [x47,hd,↓u47_s0,↓XP,XW0,XW1,reduceSub,reduceAdd,reduceMul,reduceEqDiff,reduceLeDiff,Nat.reduceBEq,reduceCtorEq,TYX]
    exact hk _ (decide_eq_decide.2 (by unfold OkNo at h1; unfold OkId; omega))
  · simp +contextual only [x47,hd,eq_false h1,↓u47_s0,↓XP,XW0,XW1,reduceSub,reduceAdd,reduceMul,reduceEqDiff,reduceLeDiff,Nat.reduceBEq,reduceCtorEq,TYX]
    exact hk _ (decide_eq_false (by unfold OkNo at h1; unfold OkId; omega))
theorem f_cSpan {a b : Int} {H : AH} {R : D → AH → Prop} (h : R (.bool (decide (OkSpan a b))) H) : ACall Tryz.prog 48 [.agg [.int .i64 a,.int .i64 b]] H R := by
  refine b48 fun hf => ?_
  have hk : ∀ c,decide (OkSpan a b) = c → R (.bool c) H := fun b hb => hb ▸ h
  simp +contextual only [x48,↓u48_s0,↓XP,XW0,XW1,reduceSub,reduceAdd,reduceMul,reduceEqDiff,reduceLeDiff,Nat.reduceBEq,reduceCtorEq,TYX]
  intro b1 h1
  repeat' (first | apply And.intro | intro _)
  all_goals first
    | exact hk _ (decide_eq_true (by unfold OkSpan; omega))
    | exact hk _ (decide_eq_false (by unfold OkSpan; omega))
    | exact hk _ (decide_eq_decide.2 (by unfold OkSpan; omega))
    | skip
end Go.Proofs.YtoeckfegggongaaGreatDoor
end
section
namespace Go.Proofs.YtoeckfegggongaaGreatDoor
open Go Go.Aw
theorem getD_le {l : List (List UInt8)} {i c : Nat} (h : ∀ x ∈ l,x.length ≤ c) : (l.getD i []).length ≤ c := by
  rw [List.getD_eq_getElem?_getD]
  cases e : l[i]? with
  | none => simp
  | some x => exact h x (List.mem_of_getElem? e)
theorem getD_ge {l : List (List UInt8)} {i c : Nat} (h : ∀ x ∈ l,c ≤ x.length) (hi : i < l.length) : c ≤ (l.getD i []).length := by
  rw [getD_lt hi]
  exact h _ (List.getElem_mem hi)
theorem getD_mem {α : Type} {l : List α} {i : Nat} {d : α} (hi : i < l.length) : l.getD i d ∈ l := by
  rw [getD_lt hi]
  exact List.getElem_mem hi
theorem atN_lt {l : List Int} {i n : Nat} (h : 0 < n) : atN l i (n : Int) < n := by
  have := atOf_range (l := l) (i := i) (most := (n : Int)) (by omega)
  unfold atN
  omega
theorem gloss_len {l : List Int} : (gloss l).length ≤ 60 := by
  have go : ∀ i,(glossTo l i).length ≤ 5 + 7 * i := by
    intro i
    induction i with
    | zero => exact getD_le (by decide)
    | succ i ih =>
      have h1 : (seps3.getD (atN l (2 + i) 3) []).length ≤ 2 := getD_le (by decide)
      have h2 : (words16.getD (atN l (4 + i) (6 + i)) []).length ≤ 5 := getD_le (by decide)
      simp only [glossTo,List.length_append]
      omega
  unfold gloss
  split
  · simp
  · have h1 := go (atN l 1 3)
    have h2 := atN_lt (l := l) (i := 1) (n := 3) (by omega)
    have h2' : atN l 1 3 < 3 := h2
    omega
def AllT (p : Pt) : Prop := ∀ o ∈ p.ops,TOp o
theorem AllT.with' {p : Pt} {o : OpP} (h : AllT p) (ho : TOp o) : AllT (withOp p o) := by
  intro x hx
  unfold withOp at hx
  rcases List.mem_append.1 hx with hx | hx
  · exact h x hx
  · rw [List.mem_singleton.1 hx]; exact ho
theorem withOp_len {p : Pt} {o : OpP} : (withOp p o).ops.length = p.ops.length + 1 := by simp [withOp]
theorem next_ok {p : Pt} (h : OkNo p.o p.s) (hl : p.ops.length ≤ 15) : OkId (nextId p) := by
  unfold OkNo at h
  unfold OkId nextId
  dsimp only
  omega
theorem meaning_T {p : Pt} {on : Id3} {m : List Int} (h : AllT p) (ho : OkNo p.o p.s) (hl : p.ops.length ≤ 12) (hon : OkId on) : AllT (meaning p on m) := by
  have a2 := atOf_range (l := m) (i := 2) (most := 5) (by omega)
  unfold meaning
  dsimp only
  have h1 := h.with' (t_2 (on := on) (n := atOf m 2 5) hon (by omega) (by omega))
  have hid : OkId (nextId p) := next_ok ho (by omega)
  have h2 := h1.with' (t_7 (on := nextId p) (tx := gloss (m.drop 3)) hid gloss_len)
  split
  · exact h2
  · exact h2.with' (t_9 hid (by omega) (by omega))
structure PC (x : Gs) (p : Pt) : Prop where
  oks : OkNo p.o p.s
  xs : ∀ q ∈ x.l,OkNo q.o q.s ∧ q.ops.length ≤ 14 ∧ AllT q ∧ ¬ (q.o = p.o ∧ q.s = p.s)
theorem vis_ok {x : Gs} {p : Pt} {seen : List Bool} {kind : Int} (h : PC x p) (hl : p.ops.length ≤ 16) {y : Id3} (hy : y ∈ visible x seen p kind) : OkId y ∧ ∀ j : Int,(p.ops.length : Int) ≤ j → y ≠ ⟨p.o,p.s,j⟩ := by
  unfold visible at hy
  rcases List.mem_append.1 hy with hy | hy
  · obtain ⟨i,hi,hy⟩ := upto_mem.1 hy
    obtain ⟨_,k,hk,_,rfl⟩ := mem_visOne.1 hy
    have hq := h.xs _ (getD_mem (d := default) hi)
    generalize x.l.getD i default = q at hq hk
    obtain ⟨q1,q2,_,q3⟩ := hq
    unfold OkNo at q1
    refine ⟨by unfold OkId; dsimp only; omega,fun j _ e => q3 ?_⟩
    simp only [Id3.mk.injEq] at e
    exact ⟨e.1,e.2.1⟩
  · obtain ⟨_,k,hk,_,rfl⟩ := mem_visOne.1 hy
    have q1 := h.oks
    unfold OkNo at q1
    refine ⟨by unfold OkId; dsimp only; omega,fun j hj e => ?_⟩
    simp only [Id3.mk.injEq] at e
    omega
theorem vis_at {x : Gs} {p : Pt} {seen : List Bool} {kind : Int} (h : PC x p) (hl : p.ops.length ≤ 16) {m : List Int} {i : Nat} (hn : (visible x seen p kind).length ≠ 0) :
    OkId ((visible x seen p kind).getD (atN m i (visible x seen p kind).length) default) ∧ ∀ j : Int,(p.ops.length : Int) ≤ j → (visible x seen p kind).getD (atN m i (visible x seen p kind).length) default ≠ ⟨p.o,p.s,j⟩ :=
  vis_ok h hl (getD_mem (atN_lt (by omega)))
theorem quoted_T {x : Gs} {seen : List Bool} {p : Pt} {sense : Id3} {m : List Int} (h : AllT p) (hc : PC x p) (hl : p.ops.length ≤ 12) (hs : OkId sense) : AllT (quoted x seen p sense m) := by
  have a2 := atOf_range (l := m) (i := 2) (most := 60) (by omega)
  have a4 := atOf_range (l := m) (i := 4) (most := 8) (by omega)
  have a5 := atOf_range (l := m) (i := 5) (most := 90) (by omega)
  unfold quoted
  dsimp only
  split
  · refine (h.with' (t_3 (getD_ge (by decide) (atN_lt (n := 3) (by omega))) (Nat.le_trans (getD_le (c := 5) (by decide)) (by omega)) (by decide) (by omega) (by omega) (by omega))).with' (t_4 hs (next_ok hc.oks (by omega)) (by omega) (by omega) gloss_len)
  · rename_i hne
    exact h.with' (t_4 hs (vis_at hc (by omega) (fun e => hne (.inl e))).1 (by omega) (by omega) gloss_len)
theorem meaning_lenT {p : Pt} {on : Id3} {m : List Int} : p.ops.length + 2 ≤ (meaning p on m).ops.length ∧ (meaning p on m).ops.length ≤ p.ops.length + 3 ∧ (meaning p on m).o = p.o ∧ (meaning p on m).s = p.s := by
  unfold meaning
  dsimp only
  split <;> simp [withOp]
theorem divided_T {p : Pt} {entry sense : Id3} {m : List Int} (h : AllT p) (ho : OkNo p.o p.s) (hl : p.ops.length ≤ 7) (he : OkId entry) (hs : OkId sense) (hn : ∀ j : Int,(p.ops.length : Int) ≤ j → sense ≠ ⟨p.o,p.s,j⟩) : AllT (divided p entry sense m) := by
  have a4 := atOf_range (l := m) (i := 4) (most := 3) (by omega)
  unfold divided
  dsimp only
  obtain ⟨m1,m2,m3,m4⟩ := meaning_lenT (p := p) (on := entry) (m := m)
  have h1 := meaning_T (m := m) h ho (by omega) he
  generalize meaning p entry m = p1 at m1 m2 m3 m4 h1 ⊢
  have ho1 : OkNo p1.o p1.s := by rw [m3,m4]; exact ho
  have h2 := meaning_T (m := m.drop 1) h1 ho1 (by omega) he
  refine h2.with' (t_16 hs (next_ok ho (by omega)) (next_ok ho1 (by omega)) ?_ ?_ ?_ (by omega) (by omega))
  · intro e
    unfold nextId at e
    simp only [Id3.mk.injEq] at e
    omega
  · exact fun e => hn _ (Int.le_refl _) e.symm
  · intro e
    refine hn p1.ops.length (by omega) ?_
    rw [← e]
    unfold nextId
    rw [m3,m4]
theorem small_T {sense other : Id3} {n : Int} {m : List Int} (hs : OkId sense) (ho : OkId other) : TOp (small sense other n m) := by
  have a1 := atOf_range (l := m) (i := 3) (most := 2) (by omega)
  have a2 := atOf_range (l := m) (i := 3) (most := 9) (by omega)
  have a3 := atOf_range (l := m) (i := 4) (most := 4) (by omega)
  have a4 := atOf_range (l := m) (i := 3) (most := 5) (by omega)
  have a5 := atOf_range (l := m) (i := 3) (most := 3) (by omega)
  unfold small
  repeat' split
  · exact t_7 hs gloss_len
  · exact t_9 hs (by omega) (by omega)
  · exact t_10 hs (by omega) (by omega)
  · exact t_12 hs (getD_ge (by decide) (atN_lt (n := 3) (by omega))) (Nat.le_trans (getD_le (c := 2) (by decide)) (by omega)) gloss_len
  · exact t_14 hs (getD_ge (by decide) (atN_lt (n := 2) (by omega))) (Nat.le_trans (getD_le (c := 4) (by decide)) (by omega)) (by omega) (by omega)
  · exact t_15 hs ho (by omega) (by omega)
  · exact t_13 hs ho (by omega) (by omega)
  · exact t_8 hs (by omega) (by omega)
theorem spl_ok {x : Gs} {p : Pt} {seen : List Bool} (h : PC x p) (hp : AllT p) {o : OpP} (ho : o ∈ splits x seen p) : TOp o ∧ o.k = 16 := by
  have one : ∀ {q : Pt} {ok : Bool},AllT q → o ∈ splOne q ok → TOp o ∧ o.k = 16 := by
    intro q ok hq ho
    unfold splOne at ho
    obtain ⟨k,hk,h⟩ := upto_mem.1 ho
    unfold splOps at h
    split at h
    · rename_i hc
      rw [List.mem_singleton.1 h]
      exact ⟨hq _ (getD_mem hk),hc.2⟩
    · cases h
  unfold splits at ho
  rcases List.mem_append.1 ho with ho | ho
  · obtain ⟨i,hi,ho⟩ := upto_mem.1 ho
    exact one (h.xs _ (getD_mem (d := default) hi)).2.2.1 ho
  · exact one hp ho
theorem step_T {x : Gs} {seen : List Bool} {p : Pt} {m : List Int} (h : AllT p) (hc : PC x p) (hv : VOk x seen p) (hl : p.ops.length ≤ 7) : AllT (step x seen p m) := by
  have a0 := atOf_range (l := m) (i := 0) (most := 24) (by omega)
  have a3 := atOf_range (l := m) (i := 3) (most := 60) (by omega)
  have h8 : ∀ i : Nat,(heads8.getD i []).length ≤ 60 := fun i => Nat.le_trans (getD_le (c := 4) (by decide)) (by omega)
  unfold step
  dsimp only
  by_cases c0 : (visible x seen p 2).length = 0 ∨ atOf m 0 24 ≤ 5
  · rw [if_pos c0]
    exact meaning_T (h.with' (t_1 (getD_ge (by decide) (atN_lt (n := 5) (by omega))) (Nat.le_trans (getD_le (c := 1) (by decide)) (by omega)) (h8 _))) hc.oks (by rw [withOp_len]; omega) (next_ok hc.oks (by omega))
  · rw [if_neg c0]
    have hs0 : (visible x seen p 2).length ≠ 0 := fun e => c0 (.inl e)
    have he0 := hv hs0
    have hE1 := vis_at (seen := seen) (kind := 1) (m := m) (i := 1) hc (by omega) he0
    have hS1 := vis_at (seen := seen) (kind := 2) (m := m) (i := 1) hc (by omega) hs0
    have hS2 := vis_at (seen := seen) (kind := 2) (m := m) (i := 2) hc (by omega) hs0
    generalize (visible x seen p 1).getD (atN m 1 (visible x seen p 1).length) default = entry at hE1 ⊢
    generalize (visible x seen p 2).getD (atN m 1 (visible x seen p 2).length) default = sense at hS1 ⊢
    generalize (visible x seen p 2).getD (atN m 2 (visible x seen p 2).length) default = other at hS2 ⊢
    have rest : ∀ {n : Int},AllT (stepRest p sense other n m) := h.with' (small_T hS1.1 hS2.1)
    generalize atOf m 0 24 = n
    by_cases c1 : n = 6
    · rw [if_pos c1]; exact meaning_T h hc.oks (by omega) hE1.1
    rw [if_neg c1]
    by_cases c2 : n = 7
    · rw [if_pos c2]; exact meaning_T h hc.oks (by omega) hS1.1
    rw [if_neg c2]
    by_cases c3 : n = 8 ∨ n = 9
    · rw [if_pos c3]; exact quoted_T h hc (by omega) hS1.1
    rw [if_neg c3]
    by_cases c4 : n = 10
    · rw [if_pos c4]; exact divided_T h hc.oks hl hE1.1 hS1.1 hS1.2
    rw [if_neg c4]
    by_cases c5 : n = 11
    · rw [if_pos c5]
      by_cases d1 : other = sense
      · rw [if_pos d1]; exact rest
      · rw [if_neg d1]; exact h.with' (t_17 hS1.1 hS2.1 (fun e => d1 e.symm))
    rw [if_neg c5]
    by_cases c6 : n = 12
    · rw [if_pos c6]
      by_cases d1 : (splits x seen p).length = 0
      · rw [if_pos d1]; exact rest
      · rw [if_neg d1]
        obtain ⟨w1,w2⟩ := spl_ok hc h (getD_mem (d := default) (i := atN m 3 (splits x seen p).length) (atN_lt (by omega)))
        generalize (splits x seen p).getD (atN m 3 (splits x seen p).length) default = o at w1 w2 ⊢
        have hol := w1.ok w2
        obtain ⟨v1,v2,v3,v4,v5⟩ := w1.v
        have hon : OkId o.on := v1.2.1 (by rw [w2]; decide)
        have hids := (v2.2.2.1 (by rw [w2]; decide)).1
        exact h.with' (t_18 hS1.1 hon (hids _ (getD_mem (atN_lt (by omega)))).1)
    rw [if_neg c6]
    by_cases c7 : n = 13
    · rw [if_pos c7]
      by_cases d1 : atOf m 2 2 = 0
      · rw [if_pos d1]; exact h.with' (t_5 hE1.1 (h8 _))
      · rw [if_neg d1]; exact h.with' (t_6 hE1.1 (getD_ge (by decide) (atN_lt (n := 2) (by omega))) (Nat.le_trans (getD_le (c := 1) (by decide)) (by omega)))
    rw [if_neg c7]
    by_cases c8 : n = 14
    · rw [if_pos c8]
      by_cases d1 : (visible x seen p 3).length = 0
      · rw [if_pos d1]; exact rest
      · rw [if_neg d1]; exact h.with' (t_11 (vis_at hc (by omega) d1).1 (by omega) (by omega) (by omega))
    rw [if_neg c8]
    exact rest
end Go.Proofs.YtoeckfegggongaaGreatDoor
end
section
namespace Go.Proofs.YtoeckfegggongaaGreatDoor
open Go Go.Aw
def NdOk (o b : Int) (l : List Rf) : Prop := ∀ i,i < l.length → 0 ≤ (l.getD i default).o ∧ (l.getD i default).o < b ∧ (l.getD i default).o ≠ o ∧ 1 ≤ (l.getD i default).s ∧ (l.getD i default).s ≤ 16 ∧ (0 < i → (l.getD (i - 1) default).o < (l.getD i default).o)
theorem NdOk.mono {o b b' : Int} {l : List Rf} (h : NdOk o b l) (hb : b ≤ b') : NdOk o b' l := fun i hi => by
  obtain ⟨h1,h2,h3⟩ := h i hi
  exact ⟨h1,by omega,h3⟩
theorem NdOk.snoc {o : Int} {q : Nat} {s : Int} {l : List Rf} (h : NdOk o q l) (hq : (q : Int) ≠ o) (h1 : 1 ≤ s) (h2 : s ≤ 16) : NdOk o ((q + 1 : Nat) : Int) (l ++ [⟨q,s⟩]) := by
  intro i hi
  rw [List.length_append,List.length_singleton] at hi
  by_cases hl : i < l.length
  · rw [getD_app hl]
    obtain ⟨g1,g2,g3,g4,g5,g6⟩ := h i hl
    refine ⟨g1,by omega,g3,g4,g5,fun h0 => ?_⟩
    rw [getD_app (by omega)]
    exact g6 h0
  · rw [getD_end (by omega)]
    refine ⟨by simp,by simp; omega,hq,h1,h2,fun h0 => ?_⟩
    rw [getD_app (by omega)]
    exact (h (i - 1) (by omega)).2.1
theorem last_spec {x : Gs} {o : Int} : ∀ n : Nat,(0 ≤ lastTo x o n → (x.l.getD (lastTo x o n).toNat default).o = o) ∧ ∀ i : Nat,i < n → lastTo x o n < i → (x.l.getD i default).o ≠ o
  | 0 => ⟨fun h => by simp [lastTo] at h,fun i hi => by omega⟩
  | n + 1 => by
    obtain ⟨h1,h2⟩ := last_spec (x := x) (o := o) n
    unfold lastTo
    split
    · rename_i hc
      refine ⟨fun _ => by simpa using hc,fun i hi hl => by omega⟩
    · rename_i hc
      refine ⟨h1,fun i hi hl => ?_⟩
      by_cases e : i = n
      · rw [e]; exact hc
      · exact h2 i (by omega) hl
structure QV (q : Pt) : Prop where
  oo : 0 ≤ q.o ∧ q.o ≤ 2
  ss : 1 ≤ q.s
  T : AllT q
  ne : q.ops ≠ []
  nd : NdOk q.o 3 q.needs
  nl : q.needs.length ≤ 3
  sl : q.sl = []
structure GV (x : Gs) : Prop where
  q : ∀ p ∈ x.l,QV p
  u : ∀ i j : Nat,i < j → j < x.l.length → (x.l.getD i default).o = (x.l.getD j default).o → (x.l.getD i default).s < (x.l.getD j default).s
theorem rounds_V {x : Gs} (hx : GInv x) (hv : GV x) (hn : x.l.length ≤ 15) {o : Int} {m : List Int} : ∀ q : Nat,(nextRounds x o m q).p.o = o ∧ NdOk o q (nextRounds x o m q).p.needs ∧ (nextRounds x o m q).p.s = if o < q ∧ 0 ≤ o ∧ 0 ≤ last x o then (x.l.getD (last x o).toNat default).s + 1 else 1
  | 0 => by
    refine ⟨rfl,fun i hi => by simp [nextRounds,pt0] at hi,?_⟩
    rw [if_neg (by omega)]
    rfl
  | q + 1 => by
    obtain ⟨h1,h2,h3⟩ := rounds_V hx hv hn (o := o) (m := m) q
    obtain ⟨r1,r2⟩ := lastTo_range (x := x) (q := (q : Int)) x.l.length
    simp only [nextRounds]
    generalize nextRounds x o m q = s at h1 h2 h3 ⊢
    unfold nextRound
    dsimp only
    split
    · rename_i hc
      refine ⟨h1,h2.mono (by omega),?_⟩
      rw [h3]
      by_cases e : (q : Int) = o
      · subst e
        rw [if_neg (by omega),if_neg (by omega)]
      · by_cases c : o < (q : Int) ∧ 0 ≤ o ∧ 0 ≤ last x o
        · rw [if_pos c,if_pos ⟨by omega,c.2⟩]
        · rw [if_neg c,if_neg (fun d => c ⟨by omega,d.2⟩)]
    · rename_i hc
      have hk : 0 ≤ last x q := by omega
      have hkl : (last x q).toNat < x.l.length := by unfold last at *; omega
      have hq := hv.q _ (getD_mem (d := default) hkl)
      have hs := hx.sq _ (getD_mem (d := default) hkl)
      by_cases e : (q : Int) = o
      · subst e
        rw [if_pos rfl]
        refine ⟨h1,h2.mono (by omega),?_⟩
        rw [if_pos ⟨by omega,by omega,hk⟩]
      · rw [if_neg e]
        refine ⟨h1,NdOk.snoc h2 e hq.ss (by omega),?_⟩
        dsimp only
        rw [h3]
        by_cases c : o < (q : Int) ∧ 0 ≤ o ∧ 0 ≤ last x o
        · rw [if_pos c,if_pos ⟨by omega,c.2⟩]
        · rw [if_neg c,if_neg (fun d => c ⟨by omega,d.2⟩)]
theorem step_ne {x : Gs} {seen : List Bool} {p : Pt} {m : List Int} : (step x seen p m).ops ≠ [] := by
  have w : ∀ {p : Pt} {o : OpP},(withOp p o).ops ≠ [] := fun {p o} => by simp [withOp]
  have mm : ∀ {p : Pt} {on : Id3} {m : List Int},(meaning p on m).ops ≠ [] := fun {p on m} => by
    have := meaning_lenT (p := p) (on := on) (m := m)
    intro e
    rw [e] at this
    simp at this
  have qq : ∀ {sense : Id3} {m : List Int},(quoted x seen p sense m).ops ≠ [] := fun {sense m} => by
    unfold quoted
    dsimp only
    split
    · exact w
    · exact w
  unfold step
  dsimp only
  by_cases c0 : (visible x seen p 2).length = 0 ∨ atOf m 0 24 ≤ 5
  · rw [if_pos c0]; exact mm
  rw [if_neg c0]
  generalize (visible x seen p 1).getD (atN m 1 (visible x seen p 1).length) default = entry
  generalize (visible x seen p 2).getD (atN m 1 (visible x seen p 2).length) default = sense
  generalize (visible x seen p 2).getD (atN m 2 (visible x seen p 2).length) default = other
  generalize atOf m 0 24 = n
  by_cases c1 : n = 6
  · rw [if_pos c1]; exact mm
  rw [if_neg c1]
  by_cases c2 : n = 7
  · rw [if_pos c2]; exact mm
  rw [if_neg c2]
  by_cases c3 : n = 8 ∨ n = 9
  · rw [if_pos c3]; exact qq
  rw [if_neg c3]
  by_cases c4 : n = 10
  · rw [if_pos c4]; exact w
  rw [if_neg c4]
  by_cases c5 : n = 11
  · rw [if_pos c5]
    by_cases d1 : other = sense
    · rw [if_pos d1]; exact w
    · rw [if_neg d1]; exact w
  rw [if_neg c5]
  by_cases c6 : n = 12
  · rw [if_pos c6]
    by_cases d1 : (splits x seen p).length = 0
    · rw [if_pos d1]; exact w
    · rw [if_neg d1]; exact w
  rw [if_neg c6]
  by_cases c7 : n = 13
  · rw [if_pos c7]
    by_cases d1 : atOf m 2 2 = 0
    · rw [if_pos d1]; exact w
    · rw [if_neg d1]; exact w
  rw [if_neg c7]
  by_cases c8 : n = 14
  · rw [if_pos c8]
    by_cases d1 : (visible x seen p 3).length = 0
    · rw [if_pos d1]; exact w
    · rw [if_neg d1]; exact w
  rw [if_neg c8]
  exact w
theorem steps_T {x : Gs} {seen : List Bool} {p : Pt} {m : List Int} (hp : p.ops = []) (hv : VOk x seen p) (hc : PC x p) : ∀ i : Nat,i ≤ 2 → AllT (nextSteps x seen p m i)
  | 0,_ => fun o ho => by
    unfold nextSteps at ho
    rw [hp] at ho
    simp at ho
  | i + 1,hi => by
    obtain ⟨more,h1,h2⟩ := steps_inv (m := m) hp hv i
    have h3 := steps_T hp hv hc i (by omega) (m := m)
    have e := h1.eq
    have hl := h1.len
    unfold nextSteps
    have hlen : (nextSteps x seen p m i).ops.length ≤ 7 := by
      rw [e]
      simp [hp]
      omega
    have hc' : PC x (nextSteps x seen p m i) := by rw [e]; exact ⟨hc.oks,hc.xs⟩
    exact step_T h3 hc' h2 hlen
theorem GV.next {x : Gs} (hx : GInv x) (hv : GV x) (hn : x.l.length ≤ 14) {offices : Nat} (ho : 1 ≤ offices) (ho' : offices ≤ 3) (m : List Int) : GV (next x offices m) := by
  obtain ⟨a1,a2⟩ := atOf_range (l := m) (i := 0) (most := (offices : Int)) (by omega)
  have a5 := atN_lt (l := m) (i := 5) (n := 2) (by omega)
  have a5' : atN m 5 2 < 2 := a5
  unfold Go.Proofs.YtoeckfegggongaaGreatDoor.next
  dsimp only
  generalize atOf m 0 (offices : Int) = o at a1 a2 ⊢
  obtain ⟨h1,h2,h3,h5,h6⟩ := rounds_inv hx (o := o) (m := m) offices
  obtain ⟨g1,g2,g3,g4⟩ := rounds_needs (x := x) (o := o) (m := m) offices
  obtain ⟨v1,v2,v3⟩ := rounds_V hx hv (by omega) (o := o) (m := m) offices
  obtain ⟨l1,l2⟩ := last_spec (x := x) (o := o) x.l.length
  obtain ⟨r1,r2⟩ := lastTo_range (x := x) (q := o) x.l.length
  generalize nextRounds x o m offices = s at h1 h2 h3 h5 h6 g1 g2 g3 g4 v1 v2 v3 ⊢
  have hsl : ∀ i,i < x.l.length → (x.l.getD i default).o = o → (x.l.getD i default).s < s.p.s := by
    intro i hi he
    have hik : ¬ (lastTo x o x.l.length < i) := fun hc => l2 i hi hc he
    have hk : 0 ≤ last x o := by unfold last; omega
    rw [v3,if_pos ⟨by omega,a1,hk⟩]
    unfold last
    by_cases e : i = (lastTo x o x.l.length).toNat
    · rw [← e]; omega
    · have := hv.u i (lastTo x o x.l.length).toNat (by omega) (by omega) (by rw [he,l1 (by omega)])
      omega
  have hs1 : 1 ≤ s.p.s := by
    rw [v3]
    split
    · rename_i hc
      have := (hv.q _ (getD_mem (d := default) (i := (last x o).toNat) (by unfold last at *; omega))).ss
      omega
    · omega
  have hc : PC x { s.p with day := s.p.day + atOf m 4 4 } := by
    refine ⟨?_,fun q hq => ?_⟩
    · unfold OkNo
      dsimp only
      rw [v1]
      omega
    · have hQ := hv.q q hq
      have hS := hx.sq q hq
      obtain ⟨i,hi,he⟩ := List.getElem_of_mem hq
      refine ⟨?_,hx.op q hq,hQ.T,?_⟩
      · unfold OkNo
        have := hQ.oo
        have := hQ.ss
        omega
      · rintro ⟨e1,e2⟩
        have := hsl i hi (by rw [getD_lt hi,he,e1]; exact v1)
        rw [getD_lt hi,he] at this
        dsimp only at e2
        omega
  have hbase : VOk x s.seen { s.p with day := s.p.day + atOf m 4 4 } := VOk.base hx h1 g2
  have hT := steps_T (m := m) (p := { s.p with day := s.p.day + atOf m 4 4 }) g2 hbase hc (1 + atN m 5 2) (by omega)
  obtain ⟨more,e1,e2⟩ := steps_inv (x := x) (seen := s.seen) (p := { s.p with day := s.p.day + atOf m 4 4 }) (m := m) g2 hbase (1 + atN m 5 2)
  have hne : (nextSteps x s.seen { s.p with day := s.p.day + atOf m 4 4 } m (1 + atN m 5 2)).ops ≠ [] := by
    rw [Nat.add_comm]
    exact step_ne
  have e3 := e1.eq
  generalize nextSteps x s.seen { s.p with day := s.p.day + atOf m 4 4 } m (1 + atN m 5 2) = p at hT hne e3 ⊢
  have po : p.o = o := by rw [e3]; exact v1
  have ps : p.s = s.p.s := by rw [e3]
  have hp : QV p := by
    refine ⟨by rw [po]; omega,by rw [ps]; exact hs1,hT,hne,?_,?_,?_⟩
    · rw [po,e3]; exact v2.mono (by omega)
    · rw [e3]; show s.p.needs.length ≤ 3; omega
    · rw [e3]; exact g3
  refine ⟨fun q hq => ?_,fun i j hij hj he => ?_⟩
  · rcases List.mem_append.1 hq with hq | hq
    · exact hv.q q hq
    · rw [List.mem_singleton.1 hq]; exact hp
  · dsimp only at hj he ⊢
    rw [List.length_append,List.length_singleton] at hj
    by_cases hjl : j < x.l.length
    · rw [getD_app hjl,getD_app (show i < x.l.length by omega)] at he ⊢
      exact hv.u i j hij hjl he
    · rw [getD_end (show j = x.l.length by omega),getD_app (show i < x.l.length by omega)] at he ⊢
      rw [ps]
      exact hsl i (by omega) (by rw [he,po])
theorem GV.nil : GV ⟨[],[]⟩ := ⟨by simp,by simp⟩
theorem next_len {x : Gs} {offices : Nat} {m : List Int} : (next x offices m).l.length = x.l.length + 1 := by simp [Go.Proofs.YtoeckfegggongaaGreatDoor.next]
theorem to_inv (l : List Int) {offices : Nat} (ho : 1 ≤ offices) (ho' : offices ≤ 3) : ∀ i : Nat,i ≤ 9 → GInv (patchesTo l offices i) ∧ GV (patchesTo l offices i) ∧ (patchesTo l offices i).l.length = i
  | 0,_ => ⟨GInv.nil,GV.nil,rfl⟩
  | i + 1,hi => by
    obtain ⟨h1,h2,h3⟩ := to_inv l ho ho' i (by omega)
    refine ⟨h1.next (by omega) _,GV.next h1 h2 (by omega) ho ho' _,?_⟩
    unfold patchesTo
    rw [next_len,h3]
end Go.Proofs.YtoeckfegggongaaGreatDoor
end
