/- A part of the proof of what the last text says: XcC, Gk1, Gq4, Gq5, Gm0. Conditions: those in each theorem. -/
import Derived.Test.YtpdhandimdibhaaGreatDoorN17
import Derived.Laws.BitsAllLaws
set_option linter.unusedVariables false
set_option linter.unusedSimpArgs false
set_option maxRecDepth 100000
set_option maxHeartbeats 16000000
open Nat renaming reduceSub → qa,reduceAdd → qb,reduceMul → qc,reduceEqDiff → qd,reduceLeDiff → qe,reduceBEq → qf
section
namespace Go.Proofs.YtpdhandimdibhaaGreatDoor
open Go.Xs
open Go Go.Aw
def x11_s0:XC:=(.seq (.regD [f 43 4 0 41,l 3 41 42,f 43 4 1 43,l 3 43 44,a (k 23 #[(t 42),(t 44)] #[3,3]) 45,a (.unOp .not 4 (t 45)) 46,m 46 47,g (.fieldAddr 43 (t 4) 0) 48 47 false,g (.load 3 (t 48)) 49 47 false,g (.fieldAddr 26 (t 1) 0) 50 47 false,g (.load 3 (t 50)) 51 47 false,g (.binOp .eql 3 (t 49) (t 51) 3) 52 47 false,a (.pick (t 47) (.const (.bool true)) (t 52)) 53,m 53 54,g (.move (t 3)) 55 54 false,g (.binOp .gtr 3 (t 55) (i 0) 3) 56 54 false,g (.move (t 56)) 57 54 false,g (.fieldAddr 43 (t 4) 0) 58 57 true,g (.load 3 (t 58)) 59 57 true,g (.fieldAddr 26 (t 1) 3) 60 57 true,g (.load 23 (t 60)) 61 57 true,g (.move (t 3)) 62 57 true,g (.binOp .sub 3 (t 62) (i 1) 3) 63 57 true,g (.indexAddr 23 (t 61) (t 63)) 64 57 true,g (.fieldAddr 43 (t 64) 0) 65 57 true,g (.load 3 (t 65)) 66 57 true,g (.binOp .leq 3 (t 59) (t 66) 3) 67 57 true,g (.pick (t 57) (t 67) (.const (.bool false))) 68 54 false,a (.pick (t 54) (.const (.bool true)) (t 68)) 69]) (.cond (t 69) (.seq (.reg [a (.assign (i 1)) 2]) .ret) .skip))
def x11_s1:XC:=(.seq (.block 1 (.seq (.reg [b (.move (t 36)) 38,j 23 34 36 39,b (.load 43 (t 39)) 40,a (.alloc 43) 4,n 38 3,w 43 4 40]) x11_s0)) (.reg [a (.binOp .add 3 (t 36) (i 1) 3) 70,m 70 36]))
def x11_L2:XC:=(.seq (.reg [a (.binOp .lss 3 (t 36) (t 35) 3) 37]) (.seq (.cond (t 37) .skip (.exit 0)) x11_s1))
def x11_s3:XC:=(.seq (.reg [l 47 6 78,a (k 24 #[(t 78)] #[47]) 79,a (.unOp .not 4 (t 79)) 80]) (.cond (t 80) (.seq (.reg [a (.assign (i 1)) 2]) .ret) .skip))
def x11_s4:XC:=(.seq (.block 3 (.seq (.reg [j 24 72 74 76,b (.load 47 (t 76)) 77,a (.alloc 47) 6,w 47 6 77]) x11_s3)) (.reg [a (.binOp .add 3 (t 74) (i 1) 3) 81,m 81 74]))
def x11_L5:XC:=(.seq (.reg [a (.binOp .lss 3 (t 74) (t 73) 3) 75]) (.seq (.cond (t 75) .skip (.exit 2)) x11_s4))
def x11_s6:XC:=(.seq (.seq (.reg [l 26 1 82,a (k 25 #[(t 82)] #[26]) 83,e 9 83 84,a (.binOp .gtr 3 (t 84) (i 6800) 3) 85]) (.cond (t 85) (.seq (.reg [a (.assign (i 4)) 2]) .ret) .skip)) (.seq (.reg [a (.assign (i 0)) 2]) .ret))
def x11_s7:XC:=(.seq (.seq (.reg [f 26 1 4 71,l 24 71 72,e 24 72 73,a (.move (i 0)) 74]) (.block 2 (.loop x11_L5))) x11_s6)
def x11_s8:XC:=(.seq (.seq (.reg [f 26 1 3 33,l 23 33 34,e 23 34 35,a (.move (i 0)) 36]) (.block 0 (.loop x11_L2))) x11_s7)
def x11_s9:XC:=(.seq (.seq (.reg [f 26 1 4 29,l 24 29 30,e 24 30 31,a (.binOp .eql 3 (t 31) (i 0) 3) 32]) (.cond (t 32) (.seq (.reg [a (.assign (i 1)) 2]) .ret) .skip)) x11_s8)
def x11_s10:XC:=(.seq (.seq (.reg [f 26 1 3 19,l 23 19 20,e 23 20 21,a (.binOp .gtr 3 (t 21) (i 8) 3) 22,m 22 23,g (.fieldAddr 26 (t 1) 4) 24 23 false,g (.load 24 (t 24)) 25 23 false,g (.call ⟨(.builtin .len),#[(t 25)],#[24]⟩) 26 23 false,g (.binOp .gtr 3 (t 26) (i 16) 3) 27 23 false,a (.pick (t 23) (.const (.bool true)) (t 27)) 28]) (.cond (t 28) (.seq (.reg [a (.assign (i 4)) 2]) .ret) .skip)) x11_s9)
def x11_s11:XC:=(.seq (.seq (.reg [f 26 1 0 7,l 3 7 8,f 26 1 1 9,l 3 9 10,a (k 23 #[(t 8),(t 10)] #[3,3]) 11,a (.unOp .not 4 (t 11)) 12,m 12 13,g (.fieldAddr 26 (t 1) 2) 14 13 false,g (.load 3 (t 14)) 15 13 false,g (k 16 #[(t 15),(i 1),(i 1048576)] #[3,3,3]) 16 13 false,g (.unOp .not 4 (t 16)) 17 13 false,a (.pick (t 13) (.const (.bool true)) (t 17)) 18]) (.cond (t 18) (.seq (.reg [a (.assign (i 5)) 2]) .ret) .skip)) x11_s10)
def V11:=PLift.up (aI (aI (aI (@unf _ _ x11_s0.eq_1) (aI (@unf _ _ x11_s1.eq_1) (@unf _ _ x11_L2.eq_1))) (aI (@unf _ _ x11_s3.eq_1) (aI (@unf _ _ x11_s4.eq_1) (@unf _ _ x11_L5.eq_1)))) (aI (aI (@unf _ _ x11_s6.eq_1) (aI (@unf _ _ x11_s7.eq_1) (@unf _ _ x11_s8.eq_1))) (aI (@unf _ _ x11_s9.eq_1) (aI (@unf _ _ x11_s10.eq_1) (@unf _ _ x11_s11.eq_1)))))
theorem gz:type_of% V11.down:=V11.down
def gk:XC:=(.seq (.reg [a (.box 26 (t 0)) 1,a (.assign (i 0)) 2]) x11_s11)
theorem b11:Bt 11 86 gk [(.tmp 2)]:=bt Tryz.func11 rfl (by kernel_rfl) (by kernel_rfl) (by kernel_rfl)
def x23_s0:XC:=(.seq (.reg [m 0 5,a (k 16 #[(t 5),(i 0),(i 7)] #[3,3,3]) 6,m 6 7,g (.move (t 1)) 8 7 true,g (k 16 #[(t 8),(i 1),(i 16)] #[3,3,3]) 9 7 true,b (.pick (t 7) (t 9) (.const (.bool false))) 10,n 10 4]) .ret)
theorem JS:type_of% (@unf _ _ x23_s0.eq_1):=unf x23_s0.eq_1
def x23:XC:=(.seq (.reg [a (.assign (.const (.bool false))) 4]) x23_s0)
theorem b23:Bt 23 11 x23 [(.tmp 4)]:=bt Tryz.func23 rfl (by kernel_rfl) (by kernel_rfl) (by kernel_rfl)
def x16_s0:XC:=(.seq (.reg [m 1 7,m 0 8,a (.binOp .leq 3 (t 7) (t 8) 3) 9,m 9 10,g (.move (t 0)) 11 10 true,g (.move (t 2)) 12 10 true,g (.binOp .leq 3 (t 11) (t 12) 3) 13 10 true,b (.pick (t 10) (t 13) (.const (.bool false))) 14,n 14 6]) .ret)
theorem u16_s0:type_of% (@unf _ _ x16_s0.eq_1):=unf x16_s0.eq_1
def x16:XC:=(.seq (.reg [a (.assign (.const (.bool false))) 6]) x16_s0)
theorem b16:Bt 16 15 x16 [(.tmp 6)]:=bt Tryz.func16 rfl (by kernel_rfl) (by kernel_rfl) (by kernel_rfl)
def x24_s0:XC:=(.seq (.regD [l 37 6 132,a (k 41 #[(t 132)] #[37]) 133,a (.unOp .not 4 (t 133)) 134,m 134 135,g (.fieldAddr 47 (t 1) 3) 136 135 false,g (.load 30 (t 136)) 137 135 false,g (.move (t 5)) 138 135 false,g (.slice 30 (t 137) .none (.some (t 138)) .none) 139 135 false,g (.load 37 (t 6)) 140 135 false,g (k 43 #[(t 139),(t 140)] #[30,37]) 141 135 false,a (.pick (t 135) (.const (.bool true)) (t 141)) 142,m 142 143,g (.fieldAddr 47 (t 1) 0) 144 143 false,g (.load 3 (t 144)) 145 143 false,g (.binOp .eql 3 (t 145) (i 16) 3) 146 143 false,g (.move (t 146)) 147 143 false,g (.load 37 (t 6)) 148 147 true,g (.fieldAddr 47 (t 1) 1) 149 147 true,g (.load 37 (t 149)) 150 147 true,g (.binOp .eql 37 (t 148) (t 150) 37) 151 147 true,g (.pick (t 147) (t 151) (.const (.bool false))) 152 143 false,a (.pick (t 143) (.const (.bool true)) (t 152)) 153]) (.cond (t 153) (.seq (.reg [a (.assign (.const (.bool false))) 2]) .ret) .skip))
theorem yM:type_of% (@unf _ _ x24_s0.eq_1):=unf x24_s0.eq_1
def x24_s1:XC:=(.seq (.block 1 (.seq (.reg [b (.move (t 127)) 129,j 30 125 127 130,b (.load 37 (t 130)) 131,a (.alloc 37) 6,n 129 5,w 37 6 131]) x24_s0)) (.reg [a (.binOp .add 3 (t 127) (i 1) 3) 154,m 154 127]))
theorem yN:type_of% (@unf _ _ x24_s1.eq_1):=unf x24_s1.eq_1
def x24_L2:XC:=(.seq (.reg [a (.binOp .lss 3 (t 127) (t 126) 3) 128]) (.seq (.cond (t 128) .skip (.exit 0)) x24_s1))
theorem yT:type_of% (@unf _ _ x24_L2.eq_1):=unf x24_L2.eq_1
def x24_s3:XC:=(.seq (.reg [f 47 1 0 155,l 3 155 156,a (.binOp .neq 3 (t 156) (i 17) 3) 157,m 157 158,g (.fieldAddr 47 (t 1) 1) 159 158 false,g (.load 37 (t 159)) 160 158 false,g (.fieldAddr 47 (t 1) 2) 161 158 false,g (.load 37 (t 161)) 162 158 false,g (.binOp .neq 37 (t 160) (t 162) 37) 163 158 false,b (.pick (t 158) (.const (.bool true)) (t 163)) 164,n 164 2]) .ret)
theorem W6:type_of% (@unf _ _ x24_s3.eq_1):=unf x24_s3.eq_1
def x24_s4:XC:=(.seq (.seq (.reg [f 47 1 3 124,l 30 124 125,e 30 125 126,a (.move (i 0)) 127]) (.block 0 (.loop x24_L2))) x24_s3)
theorem yO:type_of% (@unf _ _ x24_s4.eq_1):=unf x24_s4.eq_1
def x24_s5:XC:=(.seq (.seq (.reg [f 87 3 0 96,l 4 96 97,m 97 98,g (.fieldAddr 47 (t 1) 1) 99 98 true,g (.load 37 (t 99)) 100 98 true,g (k 41 #[(t 100)] #[37]) 101 98 true,g (.unOp .not 4 (t 101)) 102 98 true,a (.pick (t 98) (t 102) (.const (.bool false))) 103,m 103 104,g (.fieldAddr 87 (t 3) 1) 105 104 false,g (.load 4 (t 105)) 106 104 false,g (.move (t 106)) 107 104 false,g (.fieldAddr 47 (t 1) 2) 108 107 true,g (.load 37 (t 108)) 109 107 true,g (k 41 #[(t 109)] #[37]) 110 107 true,g (.unOp .not 4 (t 110)) 111 107 true,g (.pick (t 107) (t 111) (.const (.bool false))) 112 104 false,a (.pick (t 104) (.const (.bool true)) (t 112)) 113,m 113 114,g (.fieldAddr 87 (t 3) 4) 115 114 false,g (.load 4 (t 115)) 116 114 false,g (.move (t 116)) 117 114 false,g (.fieldAddr 47 (t 1) 7) 118 117 true,g (.load 45 (t 118)) 119 117 true,g (k 42 #[(t 119)] #[45]) 120 117 true,g (.unOp .not 4 (t 120)) 121 117 true,g (.pick (t 117) (t 121) (.const (.bool false))) 122 114 false,a (.pick (t 114) (.const (.bool true)) (t 122)) 123]) (.cond (t 123) (.seq (.reg [a (.assign (.const (.bool false))) 2]) .ret) .skip)) x24_s4)
theorem W7:type_of% (@unf _ _ x24_s5.eq_1):=unf x24_s5.eq_1
def x24_s6:XC:=(.seq (.seq (.regD [f 87 3 0 71,l 4 71 72,f 47 1 1 73,l 37 73 74,a (.build 37 #[]) 75,a (.binOp .neq 37 (t 74) (t 75) 37) 76,a (.binOp .neq 4 (t 72) (t 76) 4) 77,m 77 78,g (.fieldAddr 87 (t 3) 1) 79 78 false,g (.load 4 (t 79)) 80 78 false,g (.fieldAddr 47 (t 1) 2) 81 78 false,g (.load 37 (t 81)) 82 78 false,g (.build 37 #[]) 83 78 false,g (.binOp .neq 37 (t 82) (t 83) 37) 84 78 false,g (.binOp .neq 4 (t 80) (t 84) 4) 85 78 false,a (.pick (t 78) (.const (.bool true)) (t 85)) 86,m 86 87,g (.fieldAddr 87 (t 3) 4) 88 87 false,g (.load 4 (t 88)) 89 87 false,g (.fieldAddr 47 (t 1) 7) 90 87 false,g (.load 45 (t 90)) 91 87 false,g (.build 45 #[]) 92 87 false,g (.binOp .neq 45 (t 91) (t 92) 45) 93 87 false,g (.binOp .neq 4 (t 89) (t 93) 4) 94 87 false,a (.pick (t 87) (.const (.bool true)) (t 94)) 95]) (.cond (t 95) (.seq (.reg [a (.assign (.const (.bool false))) 2]) .ret) .skip)) x24_s5)
theorem u24_s6:type_of% (@unf _ _ x24_s6.eq_1):=unf x24_s6.eq_1
def x24_s7:XC:=(.seq (.seq (.regD [f 87 3 2 44,l 4 44 45,f 47 1 5 46,l 9 46 47,e 9 47 48,a (k 16 #[(t 48),(i 1),(i 16)] #[3,3,3]) 49,a (.binOp .neq 4 (t 45) (t 49) 4) 50,m 50 51,g (.fieldAddr 87 (t 3) 2) 52 51 false,g (.load 4 (t 52)) 53 51 false,g (.unOp .not 4 (t 53)) 54 51 false,g (.move (t 54)) 55 51 false,g (.fieldAddr 47 (t 1) 5) 56 55 true,g (.load 9 (t 56)) 57 55 true,g (.binOp .neq 9 (t 57) (.const (.string ⟨#[]⟩)) 9) 58 55 true,g (.pick (t 55) (t 58) (.const (.bool false))) 59 51 false,a (.pick (t 51) (.const (.bool true)) (t 59)) 60,m 60 61,g (.fieldAddr 87 (t 3) 3) 62 61 false,g (.load 4 (t 62)) 63 61 false,g (.unOp .not 4 (t 63)) 64 61 false,g (.move (t 64)) 65 61 false,g (.fieldAddr 47 (t 1) 6) 66 65 true,g (.load 9 (t 66)) 67 65 true,g (.binOp .neq 9 (t 67) (.const (.string ⟨#[]⟩)) 9) 68 65 true,g (.pick (t 65) (t 68) (.const (.bool false))) 69 61 false,a (.pick (t 61) (.const (.bool true)) (t 69)) 70]) (.cond (t 70) (.seq (.reg [a (.assign (.const (.bool false))) 2]) .ret) .skip)) x24_s6)
theorem Wc:type_of% (@unf _ _ x24_s7.eq_1):=unf x24_s7.eq_1
def x24_s8:XC:=(.seq (.seq (.reg [m 4 12,a (.unOp .not 4 (t 12)) 13,m 13 14,g (.fieldAddr 47 (t 1) 4) 15 14 false,g (.load 3 (t 15)) 16 14 false,g (.fieldAddr 87 (t 3) 5) 17 14 false,g (.load 3 (t 17)) 18 14 false,g (.fieldAddr 87 (t 3) 6) 19 14 false,g (.load 3 (t 19)) 20 14 false,g (k 16 #[(t 16),(t 18),(t 20)] #[3,3,3]) 21 14 false,g (.unOp .not 4 (t 21)) 22 14 false,a (.pick (t 14) (.const (.bool true)) (t 22)) 23,m 23 24,g (.fieldAddr 47 (t 1) 3) 25 24 false,g (.load 30 (t 25)) 26 24 false,g (.call ⟨(.builtin .len),#[(t 26)],#[30]⟩) 27 24 false,g (.fieldAddr 87 (t 3) 7) 28 24 false,g (.indexAddr 85 (t 28) (i 0)) 29 24 false,g (.load 3 (t 29)) 30 24 false,g (.fieldAddr 87 (t 3) 7) 31 24 false,g (.indexAddr 85 (t 31) (i 1)) 32 24 false,g (.load 3 (t 32)) 33 24 false,g (k 16 #[(t 27),(t 30),(t 33)] #[3,3,3]) 34 24 false,g (.unOp .not 4 (t 34)) 35 24 false,a (.pick (t 24) (.const (.bool true)) (t 35)) 36,m 36 37,g (.fieldAddr 47 (t 1) 6) 38 37 false,g (.load 9 (t 38)) 39 37 false,g (.call ⟨(.builtin .len),#[(t 39)],#[9]⟩) 40 37 false,g (k 16 #[(t 40),(i 0),(i 1024)] #[3,3,3]) 41 37 false,g (.unOp .not 4 (t 41)) 42 37 false,a (.pick (t 37) (.const (.bool true)) (t 42)) 43]) (.cond (t 43) (.seq (.reg [a (.assign (.const (.bool false))) 2]) .ret) .skip)) x24_s7)
theorem Wk:type_of% (@unf _ _ x24_s8.eq_1):=unf x24_s8.eq_1
def x24_s9:XC:=(.seq (.reg [l 47 1 8,a (k 40 #[(t 8)] #[47]) 9,m 9 7,b (.extract (t 7) 0) 10,b (.extract (t 7) 1) 11,a (.alloc 87) 3,w 87 3 10,n 11 4]) x24_s8)
theorem W5:type_of% (@unf _ _ x24_s9.eq_1):=unf x24_s9.eq_1
def x24:XC:=(.seq (.reg [a (.box 47 (t 0)) 1,a (.assign (.const (.bool false))) 2]) x24_s9)
theorem b24:Bt 24 165 x24 [(.tmp 2)]:=bt Tryz.func24 rfl (by kernel_rfl) (by kernel_rfl) (by kernel_rfl)
def x25_s0:XC:=(.seq (.reg [l 26 1 4,a (k 44 #[(t 4)] #[26]) 5,b (.convert 48 9 (t 5)) 6,n 6 2]) .ret)
theorem Gg:type_of% (@unf _ _ x25_s0.eq_1):=unf x25_s0.eq_1
def x25:XC:=(.seq (.reg [a (.box 26 (t 0)) 1,a (.assign (.const (.string ⟨#[]⟩))) 2]) (.seq (.reg [f 26 1 5 3,s (.store 9 (t 3) (.const (.string ⟨#[]⟩)))]) x25_s0))
theorem b25:Bt 25 7 x25 [(.tmp 2)]:=bt Tryz.func25 rfl (by kernel_rfl) (by kernel_rfl) (by kernel_rfl)
def x40_c0:XC:=(.seq (.reg [b (.binOp .eql 3 (t 7) (i 8) 3) 22,n 22 20]) (.cond (t 20) .skip (.reg [b (.binOp .eql 3 (t 7) (i 10) 3) 23,n 23 20])))
def x40_c1:XC:=(.reg [b (.build 85 #[(0,(i 1)),(1,(i 1))]) 69,f 87 4 1 70,s (.store 4 (t 70) (.const (.bool true))),f 87 4 7 71,w 85 71 69])
def x40_s2:XC:=(.cond (t 67) x40_c1 (.seq (.reg [b (.build 87 #[]) 8,w 87 2 8,a (.assign (.const (.bool false))) 3]) .ret))
def x40_s3:XC:=(.cond (t 64) (.reg [f 87 4 1 66,s (.store 4 (t 66) (.const (.bool true)))]) (.seq (.reg [b (.binOp .eql 3 (t 7) (i 18) 3) 68,n 68 67]) x40_s2))
def x40_c4:XC:=(.regT [4] [([f 47 1 3 56,l 30 56 57,e 30 57 58,b (.binOp .sub 3 (t 58) (i 1) 3) 59,b (.build 85 #[(0,(i 2)),(1,(i 4))]) 60,f 87 4 5 61],s (.store 3 (t 61) (i (-1))),false),([f 87 4 6 62],w 3 62 59,true)] [f 87 4 7 63] [w 85 63 60])
def x40_c5:XC:=(.seq (.reg [b (.binOp .eql 3 (t 7) (i 16) 3) 55,n 55 54]) (.cond (t 54) x40_c4 (.seq (.reg [b (.binOp .eql 3 (t 7) (i 17) 3) 65,n 65 64]) x40_s3)))
def x40_s6:XC:=(.cond (t 50) (.reg [f 87 4 1 52,s (.store 4 (t 52) (.const (.bool true))),f 87 4 6 53,s (.store 3 (t 53) (i 1))]) x40_c5)
def x40_s7:XC:=(.cond (t 46) (.reg [f 87 4 2 48,s (.store 4 (t 48) (.const (.bool true))),f 87 4 6 49,s (.store 3 (t 49) (i 1))]) (.seq (.reg [b (.binOp .eql 3 (t 7) (i 15) 3) 51,n 51 50]) x40_s6))
def x40_s8:XC:=(.cond (t 42) (.reg [f 87 4 1 44,s (.store 4 (t 44) (.const (.bool true))),f 87 4 6 45,s (.store 3 (t 45) (i 1023))]) (.seq (.reg [b (.binOp .eql 3 (t 7) (i 14) 3) 47,n 47 46]) x40_s7))
def x40_s9:XC:=(.cond (t 38) (.reg [f 87 4 2 40,s (.store 4 (t 40) (.const (.bool true))),f 87 4 3 41,s (.store 4 (t 41) (.const (.bool true)))]) (.seq (.reg [b (.binOp .eql 3 (t 7) (i 13) 3) 43,n 43 42]) x40_s8))
def x40_s10:XC:=(.cond (t 35) (.reg [f 87 4 4 37,s (.store 4 (t 37) (.const (.bool true)))]) (.seq (.reg [b (.binOp .eql 3 (t 7) (i 12) 3) 39,n 39 38]) x40_s9))
def x40_s11:XC:=(.cond (t 32) (.reg [f 87 4 6 34,s (.store 3 (t 34) (i 1))]) (.seq (.reg [b (.binOp .eql 3 (t 7) (i 11) 3) 36,n 36 35]) x40_s10))
def x40_s12:XC:=(.cond (t 29) (.reg [f 87 4 2 31,s (.store 4 (t 31) (.const (.bool true)))]) (.seq (.reg [b (.binOp .eql 3 (t 7) (i 9) 3) 33,n 33 32]) x40_s11))
def x40_s13:XC:=(.cond (t 25) (.reg [f 87 4 3 28,s (.store 4 (t 28) (.const (.bool true)))]) (.seq (.reg [b (.binOp .eql 3 (t 7) (i 6) 3) 30,n 30 29]) x40_s12))
def x40_c14:XC:=(.seq (.seq (.reg [b (.binOp .eql 3 (t 7) (i 5) 3) 26,n 26 25]) (.cond (t 25) .skip (.reg [b (.binOp .eql 3 (t 7) (i 7) 3) 27,n 27 25]))) x40_s13)
def x40_c15:XC:=(.reg [f 87 4 1 17,s (.store 4 (t 17) (.const (.bool true))),f 87 4 3 18,s (.store 4 (t 18) (.const (.bool true))),f 87 4 6 19,s (.store 3 (t 19) (i 1048576))])
def x40_c16:XC:=(.seq (.seq (.reg [b (.binOp .eql 3 (t 7) (i 2) 3) 21,n 21 20]) (.cond (t 20) .skip x40_c0)) (.cond (t 20) (.reg [f 87 4 6 24,s (.store 3 (t 24) (i 1048576))]) x40_c14))
def x40_s17:XC:=(.cond (t 12) (.reg [b (.build 87 #[(2,(.const (.bool true))),(3,(.const (.bool true))),(4,(.const (.bool true)))]) 14,w 87 4 14]) (.seq (.reg [b (.binOp .eql 3 (t 7) (i 4) 3) 16,n 16 15]) (.cond (t 15) x40_c15 x40_c16)))
def x40_s18:XC:=(.cond (t 9) (.reg [b (.build 87 #[(2,(.const (.bool true))),(3,(.const (.bool true)))]) 11,w 87 4 11]) (.seq (.reg [b (.binOp .eql 3 (t 7) (i 3) 3) 13,n 13 12]) x40_s17))
def x40_s19:XC:=(.seq (.reg [b (.load 87 (t 4)) 72,w 87 2 72,a (.assign (.const (.bool true))) 3]) .ret)
def x40_s20:XC:=(.seq (.seq (.reg [f 47 1 0 6,l 3 6 7]) (.block 0 (.seq (.reg [b (.binOp .eql 3 (t 7) (i 1) 3) 10,n 10 9]) x40_s18))) x40_s19)
def x40_s21:XC:=(.seq (.reg [b (.build 87 #[(0,(.const (.bool true)))]) 5,a (.alloc 87) 4,w 87 4 5]) x40_s20)
def V40:=PLift.up (aI (aI (aI (aI (@unf _ _ x40_c0.eq_1) (@unf _ _ x40_c1.eq_1)) (aI (@unf _ _ x40_s2.eq_1) (aI (@unf _ _ x40_s3.eq_1) (@unf _ _ x40_c4.eq_1)))) (aI (aI (@unf _ _ x40_c5.eq_1) (aI (@unf _ _ x40_s6.eq_1) (@unf _ _ x40_s7.eq_1))) (aI (@unf _ _ x40_s8.eq_1) (aI (@unf _ _ x40_s9.eq_1) (@unf _ _ x40_s10.eq_1))))) (aI (aI (aI (@unf _ _ x40_s11.eq_1) (@unf _ _ x40_s12.eq_1)) (aI (@unf _ _ x40_s13.eq_1) (aI (@unf _ _ x40_c14.eq_1) (@unf _ _ x40_c15.eq_1)))) (aI (aI (@unf _ _ x40_c16.eq_1) (aI (@unf _ _ x40_s17.eq_1) (@unf _ _ x40_s18.eq_1))) (aI (@unf _ _ x40_s19.eq_1) (aI (@unf _ _ x40_s20.eq_1) (@unf _ _ x40_s21.eq_1))))))
theorem U40:type_of% V40.down:=V40.down
def x40:XC:=(.seq (.reg [a (.box 47 (t 0)) 1,a (.alloc 87) 2,a (.assign (.const (.bool false))) 3]) x40_s21)
theorem b40:Bt 40 73 x40 [(.cell 2 87),(.tmp 3)]:=bt Tryz.func40 rfl (by kernel_rfl) (by kernel_rfl) (by kernel_rfl)
def x41_s0:XC:=(.seq (.reg [f 37 1 0 3,l 3 3 4,f 37 1 1 5,l 3 5 6,a (k 23 #[(t 4),(t 6)] #[3,3]) 7,m 7 8,g (.fieldAddr 37 (t 1) 2) 9 8 true,g (.load 3 (t 9)) 10 8 true,g (k 16 #[(t 10),(i 0),(i 15)] #[3,3,3]) 11 8 true,b (.pick (t 8) (t 11) (.const (.bool false))) 12,n 12 2]) .ret)
theorem K8:type_of% (@unf _ _ x41_s0.eq_1):=unf x41_s0.eq_1
def x41:XC:=(.seq (.reg [a (.box 37 (t 0)) 1,a (.assign (.const (.bool false))) 2]) x41_s0)
theorem b41:Bt 41 13 x41 [(.tmp 2)]:=bt Tryz.func41 rfl (by kernel_rfl) (by kernel_rfl) (by kernel_rfl)
def x42_s0:XC:=(.seq (.reg [f 45 1 0 3,l 3 3 4,a (.binOp .geq 3 (t 4) (i 1) 3) 5,m 5 6,g (.fieldAddr 45 (t 1) 0) 7 6 true,g (.load 3 (t 7)) 8 6 true,g (.fieldAddr 45 (t 1) 1) 9 6 true,g (.load 3 (t 9)) 10 6 true,g (.binOp .leq 3 (t 8) (t 10) 3) 11 6 true,a (.pick (t 6) (t 11) (.const (.bool false))) 12,m 12 13,g (.fieldAddr 45 (t 1) 1) 14 13 true,g (.load 3 (t 14)) 15 13 true,g (.binOp .leq 3 (t 15) (i 1022679) 3) 16 13 true,b (.pick (t 13) (t 16) (.const (.bool false))) 17,n 17 2]) .ret)
theorem u42_s0:type_of% (@unf _ _ x42_s0.eq_1):=unf x42_s0.eq_1
def x42:XC:=(.seq (.reg [a (.box 45 (t 0)) 1,a (.assign (.const (.bool false))) 2]) x42_s0)
theorem b42:Bt 42 18 x42 [(.tmp 2)]:=bt Tryz.func42 rfl (by kernel_rfl) (by kernel_rfl) (by kernel_rfl)
def x43_s0:XC:=(.seq (.reg [m 0 5,l 37 3 6,a (k 69 #[(t 5),(t 6)] #[30,37]) 7,b (.binOp .geq 3 (t 7) (i 0) 3) 8,n 8 4]) .ret)
theorem Zm:type_of% (@unf _ _ x43_s0.eq_1):=unf x43_s0.eq_1
def x43:XC:=(.seq (.reg [a (.box 37 (t 1)) 3,a (.assign (.const (.bool false))) 4]) x43_s0)
theorem b43:Bt 43 9 x43 [(.tmp 4)]:=bt Tryz.func43 rfl (by kernel_rfl) (by kernel_rfl) (by kernel_rfl)
def x69_s0:XC:=(.seq (.regD [l 37 3 11,m 0 12,m 5 13,j 30 12 13 14,l 37 14 15,a (.binOp .eql 37 (t 11) (t 15) 37) 16]) (.cond (t 16) (.seq (.reg [b (.move (t 5)) 17,n 17 4]) .ret) .skip))
def x69_s1:XC:=(.seq (.block 1 (.seq (.reg [b (.move (t 8)) 10,n 10 5]) x69_s0)) (.reg [a (.binOp .add 3 (t 8) (i 1) 3) 18,m 18 8]))
def x69_L2:XC:=(.seq (.reg [a (.binOp .lss 3 (t 8) (t 7) 3) 9]) (.seq (.cond (t 9) .skip (.exit 0)) x69_s1))
def x69_s3:XC:=(.seq (.seq (.reg [m 0 6,e 30 6 7,a (.move (i 0)) 8]) (.block 0 (.loop x69_L2))) (.seq (.reg [a (.assign (i (-1))) 4]) .ret))
def V69:=PLift.up (aI (aI (@unf _ _ x69_s0.eq_1) (@unf _ _ x69_s1.eq_1)) (aI (@unf _ _ x69_L2.eq_1) (@unf _ _ x69_s3.eq_1)))
theorem U69:type_of% V69.down:=V69.down
def x69:XC:=(.seq (.reg [a (.box 37 (t 1)) 3,a (.assign (i 0)) 4]) x69_s3)
theorem b69:Bt 69 19 x69 [(.tmp 4)]:=bt Tryz.func69 rfl (by kernel_rfl) (by kernel_rfl) (by kernel_rfl)
def x44_s0:XC:=(.reg [c (.move (t 4)) 26,f 43 6 0 27,l 3 27 28,f 43 6 1 29,l 3 29 30,a (.buildSlice 22 2 #[(0,(t 28)),(1,(t 30))]) 31,b (.call ⟨(.builtin .append),#[(t 26),(t 31)],#[22,22]⟩) 32,n 32 4])
def x44_s1:XC:=(.seq (.block 1 (.seq (.reg [j 23 20 22 24,b (.load 43 (t 24)) 25,a (.alloc 43) 6,w 43 6 25]) x44_s0)) (.reg [a (.binOp .add 3 (t 22) (i 1) 3) 33,m 33 22]))
def x44_L2:XC:=(.seq (.reg [a (.binOp .lss 3 (t 22) (t 21) 3) 23]) (.seq (.cond (t 23) .skip (.exit 0)) x44_s1))
def x44_s3:XC:=(.reg [c (.move (t 3)) 85,f 47 8 5 86,l 9 86 87,f 47 8 6 88,l 9 88 89,a (.buildSlice 133 2 #[(0,(t 87)),(1,(t 89))]) 90,a (k 73 #[(t 90)] #[133]) 91,b (.call ⟨(.builtin .append),#[(t 85),(t 91)],#[48,48]⟩) 92,n 92 3])
def x44_s4:XC:=(.seq (.reg [c (.move (t 3)) 80,f 131 10 0 81,l 22 81 82,a (k 70 #[(t 82)] #[22]) 83,b (.call ⟨(.builtin .append),#[(t 80),(t 83)],#[48,48]⟩) 84,n 84 3]) x44_s3)
def x44_s5:XC:=(.seq (.reg [f 47 8 3 76,l 30 76 77,a (.makeFunc (.func 72) #[(t 10)] #[]) 78,a (k 18 #[(t 77),(t 78)] #[30,50]) 79]) x44_s4)
def x44_s6:XC:=(.seq (.reg [c (.move (t 3)) 61,f 131 9 0 62,c (.load 22 (t 62)) 63,f 47 8 4 64,l 3 64 65,f 47 8 7 66,f 45 66 0 67,l 3 67 68,f 47 8 7 69,f 45 69 1 70,l 3 70 71,a (.buildSlice 22 3 #[(0,(t 65)),(1,(t 68)),(2,(t 71))]) 72,a (.call ⟨(.builtin .append),#[(t 63),(t 72)],#[22,22]⟩) 73,a (k 70 #[(t 73)] #[22]) 74,b (.call ⟨(.builtin .append),#[(t 61),(t 74)],#[48,48]⟩) 75,n 75 3]) (.seq (.reg [a (.alloc 131) 10]) x44_s5))
def x44_s7:XC:=(.seq (.reg [f 47 8 2 58,l 37 58 59,a (k 72 #[(t 9),(t 59)] #[131,37]) 60]) x44_s6)
def x44_s8:XC:=(.seq (.gh (.reg [f 47 8 1 55,l 37 55 56,a (k 72 #[(t 9),(t 56)] #[131,37]) 57])) x44_s7)
def x44_s9:XC:=(.seq (.reg [f 47 8 0 51,l 3 51 52,a (.call ⟨(.builtin .real),#[(t 52)],#[22]⟩) 53,b (.build 131 #[(0,(t 53))]) 54,a (.alloc 131) 9,w 131 9 54]) x44_s8)
def x44_s10:XC:=(.seq (.block 3 (.seq (.reg [j 24 45 47 49,b (.load 47 (t 49)) 50,a (.alloc 47) 8,w 47 8 50]) x44_s9)) (.reg [a (.binOp .add 3 (t 47) (i 1) 3) 93,m 93 47]))
theorem WO:type_of% (@unf _ _ x44_s10.eq_1):=unf x44_s10.eq_1
def x44_L11:XC:=(.seq (.reg [a (.binOp .lss 3 (t 47) (t 46) 3) 48]) (.seq (.cond (t 48) .skip (.exit 2)) x44_s10))
theorem WH:type_of% (@unf _ _ x44_L11.eq_1):=unf x44_L11.eq_1
def x44_s12:XC:=(.seq (.reg [c (.move (t 3)) 94,f 26 1 5 95,l 9 95 96,a (k 74 #[(t 96)] #[9]) 97,b (.call ⟨(.builtin .append),#[(t 94),(t 97)],#[48,48]⟩) 98,n 98 2]) .ret)
def x44_s13:XC:=(.seq (.seq (.reg [f 26 1 4 44,l 24 44 45,e 24 45 46,a (.move (i 0)) 47]) (.block 2 (.loop x44_L11))) x44_s12)
def x44_s14:XC:=(.seq (.reg [c (.move (t 3)) 38,f 26 1 4 39,l 24 39 40,e 24 40 41,a (k 71 #[(t 41)] #[3]) 42,b (.call ⟨(.builtin .append),#[(t 38),(t 42)],#[48,48]⟩) 43,n 43 3]) x44_s13)
def x44_s15:XC:=(.seq (.reg [c (.move (t 3)) 34,m 4 35,a (k 70 #[(t 35)] #[22]) 36,b (.call ⟨(.builtin .append),#[(t 34),(t 36)],#[48,48]⟩) 37,n 37 3]) x44_s14)
def x44_s16:XC:=(.seq (.seq (.reg [f 26 1 3 19,l 23 19 20,e 23 20 21,a (.move (i 0)) 22]) (.block 0 (.loop x44_L2))) x44_s15)
def x44_s17:XC:=(.seq (.reg [f 26 1 0 11,l 3 11 12,f 26 1 1 13,l 3 13 14,f 26 1 2 15,l 3 15 16,a (.buildSlice 22 3 #[(0,(t 12)),(1,(t 14)),(2,(t 16))]) 17,b (k 70 #[(t 17)] #[22]) 18,n 18 3]) (.seq (.reg [a (.assign (.const (.slice .none 0 0))) 4]) x44_s16))
def V44:=PLift.up (aI (aI (aI (aI (@unf _ _ x44_s0.eq_1) (@unf _ _ x44_s1.eq_1)) (aI (@unf _ _ x44_L2.eq_1) (@unf _ _ x44_s3.eq_1))) (aI (aI (@unf _ _ x44_s4.eq_1) (@unf _ _ x44_s5.eq_1)) (aI (@unf _ _ x44_s6.eq_1) (aI (@unf _ _ x44_s7.eq_1) (@unf _ _ x44_s8.eq_1))))) (aI (aI (aI (@unf _ _ x44_s9.eq_1) (@WO)) (aI (@WH) (@unf _ _ x44_s12.eq_1))) (aI (aI (@unf _ _ x44_s13.eq_1) (@unf _ _ x44_s14.eq_1)) (aI (@unf _ _ x44_s15.eq_1) (aI (@unf _ _ x44_s16.eq_1) (@unf _ _ x44_s17.eq_1))))))
theorem Jt:type_of% V44.down:=V44.down
def QU:XC:=(.seq (.reg [a (.box 26 (t 0)) 1,a (.assign (.const (.slice .none 0 0))) 2]) x44_s17)
theorem b44:Bt 44 99 QU [(.tmp 2)]:=bt Tryz.func44 rfl (by kernel_rfl) (by kernel_rfl) (by kernel_rfl)
def x70_s0:XC:=(.reg [c (.move (t 3)) 15,m 5 16,a (k 71 #[(t 16)] #[3]) 17,b (.call ⟨(.builtin .append),#[(t 15),(t 17)],#[48,48]⟩) 18,n 18 3])
def x70_s1:XC:=(.seq (.block 1 (.seq (.reg [j 22 9 11 13,b (.load 3 (t 13)) 14,n 14 5]) x70_s0)) (.reg [a (.binOp .add 3 (t 11) (i 1) 3) 19,m 19 11]))
def x70_L2:XC:=(.seq (.reg [a (.binOp .lss 3 (t 11) (t 10) 3) 12]) (.seq (.cond (t 12) .skip (.exit 0)) x70_s1))
def x70_s3:XC:=(.seq (.seq (.reg [m 0 9,e 22 9 10,a (.move (i 0)) 11]) (.block 0 (.loop x70_L2))) (.seq (.reg [b (.move (t 3)) 20,n 20 2]) .ret))
def x70_s4:XC:=(.seq (.reg [m 0 6,e 22 6 7,b (k 71 #[(t 7)] #[3]) 8,n 8 3]) x70_s3)
def V70:=PLift.up (aI (aI (@unf _ _ x70_s0.eq_1) (@unf _ _ x70_s1.eq_1)) (aI (@unf _ _ x70_L2.eq_1) (aI (@unf _ _ x70_s3.eq_1) (@unf _ _ x70_s4.eq_1))))
theorem U70:type_of% V70.down:=V70.down
def x70:XC:=(.seq (.reg [a (.assign (.const (.slice .none 0 0))) 2]) x70_s4)
theorem b70:Bt 70 21 x70 [(.tmp 2)]:=bt Tryz.func70 rfl (by kernel_rfl) (by kernel_rfl) (by kernel_rfl)
def x71_s0:XC:=(.cond (t 11) (.reg [m 3 12,b (.unOp .xor 125 (t 12)) 13,n 13 3,a (.assign (.const (.int .u8 255))) 4]) .skip)
def x71_s1:XC:=(.reg [m 5 22,b (.binOp .sub 3 (t 22) (i 1) 3) 23,n 23 5])
def x71_s2:XC:=(.block 1 (.seq (.seq (.reg [m 3 16,m 5 17,a (.binOp .sub 3 (t 17) (i 1) 3) 18,a (.binOp .mul 3 (i 8) (t 18) 3) 19,a (.binOp .shr 125 (t 16) (t 19) 3) 20,a (.binOp .gtr 125 (t 20) (.const (.int .u64 0)) 125) 21]) (.cond (t 21) (.exit 0) .skip)) x71_s1))
def x71_L3:XC:=(.seq (.seq (.reg [m 5 14,a (.binOp .gtr 3 (t 14) (i 0) 3) 15]) (.cond (t 15) .skip (.exit 0))) x71_s2)
def x71_s4:XC:=(.reg [m 7 34,b (.binOp .sub 3 (t 34) (i 1) 3) 35,n 35 7])
def x71_s5:XC:=(.seq (.block 3 (.reg [c (.move (t 6)) 36,m 3 37,m 7 38,a (.binOp .mul 3 (i 8) (t 38) 3) 39,a (.binOp .shr 125 (t 37) (t 39) 3) 40,a (.convert 125 5 (t 40)) 41,m 4 42,a (.binOp .xor 5 (t 41) (t 42) 5) 43,a (.buildSlice 48 1 #[(0,(t 43))]) 44,b (.call ⟨(.builtin .append),#[(t 36),(t 44)],#[48,48]⟩) 45,n 45 6])) x71_s4)
def x71_L6:XC:=(.seq (.seq (.reg [m 7 32,a (.binOp .geq 3 (t 32) (i 0) 3) 33]) (.cond (t 33) .skip (.exit 2))) x71_s5)
def x71_s7:XC:=(.seq (.seq (.reg [m 5 30,b (.binOp .sub 3 (t 30) (i 1) 3) 31,n 31 7]) (.block 2 (.loop x71_L6))) (.seq (.reg [b (.move (t 6)) 46,n 46 2]) .ret))
def x71_s8:XC:=(.seq (.reg [m 5 24,a (.binOp .add 3 (i 128) (t 24) 3) 25,a (.convert 3 5 (t 25)) 26,m 4 27,a (.binOp .xor 5 (t 26) (t 27) 5) 28,b (.buildSlice 48 1 #[(0,(t 28))]) 29,n 29 6]) x71_s7)
def x71_s9:XC:=(.seq (.seq (.reg [m 0 10,a (.binOp .lss 3 (t 10) (i 0) 3) 11]) x71_s0) (.seq (.reg [a (.assign (i 8)) 5]) (.seq .skip (.seq (.block 0 (.loop x71_L3)) x71_s8))))
def x71_s10:XC:=(.scope (.seq (.reg [m 0 8,b (.convert 3 125 (t 8)) 9,n 9 3,a (.assign (.const (.int .u8 0))) 4]) x71_s9))
def V71:=PLift.up (aI (aI (aI (@unf _ _ x71_s0.eq_1) (@unf _ _ x71_s1.eq_1)) (aI (@unf _ _ x71_s2.eq_1) (aI (@unf _ _ x71_L3.eq_1) (@unf _ _ x71_s4.eq_1)))) (aI (aI (@unf _ _ x71_s5.eq_1) (aI (@unf _ _ x71_L6.eq_1) (@unf _ _ x71_s7.eq_1))) (aI (@unf _ _ x71_s8.eq_1) (aI (@unf _ _ x71_s9.eq_1) (@unf _ _ x71_s10.eq_1)))))
theorem G5:type_of% V71.down:=V71.down
def Uj:XC:=(.seq (.reg [a (.assign (.const (.slice .none 0 0))) 2]) x71_s10)
theorem b71:Bt 71 47 Uj [(.tmp 2)]:=bt Tryz.func71 rfl (by kernel_rfl) (by kernel_rfl) (by kernel_rfl)
def x72_s0:XC:=(.regT [0] [([m 0 4,m 0 5,a (.nilCheck (t 5)) 6,f 131 6 0 7],c (.load 22 (t 7)) 8,false)] [f 37 3 0 9,l 3 9 10,f 37 3 1 11,l 3 11 12,f 37 3 2 13,l 3 13 14,a (.buildSlice 22 3 #[(0,(t 10)),(1,(t 12)),(2,(t 14))]) 15,b (.call ⟨(.builtin .append),#[(t 8),(t 15)],#[22,22]⟩) 16,a (.nilCheck (t 4)) 17,f 131 17 0 18] [w 22 18 16])
theorem JL:type_of% (@unf _ _ x72_s0.eq_1):=unf x72_s0.eq_1
def x72:XC:=(.seq (.reg [a (.box 37 (t 1)) 3]) x72_s0)
theorem b72:Bt 72 19 x72 []:=bt Tryz.func72 rfl (by kernel_rfl) (by kernel_rfl) (by kernel_rfl)
def x73_s0:XC:=(.reg [c (.move (t 3)) 15,m 5 16,a (k 74 #[(t 16)] #[9]) 17,b (.call ⟨(.builtin .append),#[(t 15),(t 17)],#[48,48]⟩) 18,n 18 3])
def x73_s1:XC:=(.seq (.block 1 (.seq (.reg [j 133 9 11 13,b (.load 9 (t 13)) 14,n 14 5]) x73_s0)) (.reg [a (.binOp .add 3 (t 11) (i 1) 3) 19,m 19 11]))
def x73_L2:XC:=(.seq (.reg [a (.binOp .lss 3 (t 11) (t 10) 3) 12]) (.seq (.cond (t 12) .skip (.exit 0)) x73_s1))
def x73_s3:XC:=(.seq (.seq (.reg [m 0 9,e 133 9 10,a (.move (i 0)) 11]) (.block 0 (.loop x73_L2))) (.seq (.reg [b (.move (t 3)) 20,n 20 2]) .ret))
def x73_s4:XC:=(.seq (.reg [m 0 6,e 133 6 7,b (k 71 #[(t 7)] #[3]) 8,n 8 3]) x73_s3)
def V73:=PLift.up (aI (aI (@unf _ _ x73_s0.eq_1) (@unf _ _ x73_s1.eq_1)) (aI (@unf _ _ x73_L2.eq_1) (aI (@unf _ _ x73_s3.eq_1) (@unf _ _ x73_s4.eq_1))))
theorem U73:type_of% V73.down:=V73.down
def x73:XC:=(.seq (.reg [a (.assign (.const (.slice .none 0 0))) 2]) x73_s4)
theorem b73:Bt 73 21 x73 [(.tmp 2)]:=bt Tryz.func73 rfl (by kernel_rfl) (by kernel_rfl) (by kernel_rfl)
def x74_s0:XC:=(.seq (.reg [m 0 3,e 9 3 4,c (k 71 #[(t 4)] #[3]) 5,m 0 6,b (.call ⟨(.builtin .append),#[(t 5),(t 6)],#[48,9]⟩) 7,n 7 2]) .ret)
theorem Uw:type_of% (@unf _ _ x74_s0.eq_1):=unf x74_s0.eq_1
def x74:XC:=(.seq (.reg [a (.assign (.const (.slice .none 0 0))) 2]) x74_s0)
theorem b74:Bt 74 8 x74 [(.tmp 2)]:=bt Tryz.func74 rfl (by kernel_rfl) (by kernel_rfl) (by kernel_rfl)
end Go.Proofs.YtpdhandimdibhaaGreatDoor
end
section
namespace Go.Proofs.YtpdhandimdibhaaGreatDoor
open Go Go.Aw
theorem yq {n low high:Int} {H:AH} {R:D→AH→Prop} (h:R (.bool (decide (low≤n∧n≤high))) H):ACall Tryz.prog 16 [.int .i64 n,.int .i64 low,.int .i64 high] H R:=by
 refine b16 fun hf=>?_
 have hk:∀c,decide (low≤n∧n≤high)=c→R (.bool c) H:=fun b hb=>hb▸h
 simp+contextual only [x16,↓u16_s0,↓XP,↓XU,qn,XW1,qa,qb,qc,qd,qe,qf,reduceCtorEq]
 repeat' (first|apply And.intro|intro _)
 all_goals first
  |exact hk _ (decide_eq_true (by omega))
  |exact hk _ (decide_eq_false (by omega))
  |exact hk _ (decide_eq_decide.2 (by omega))
  |skip
def yZ (o s:Int):Prop:=0≤o∧o≤7∧1≤s∧s≤16
instance (o s:Int):Decidable (yZ o s):=by unfold yZ;exact inferInstance
theorem oh {o s:Int} {H:AH} {R:D→AH→Prop} (h:R (.bool (decide (yZ o s))) H):ACall Tryz.prog 23 [.int .i64 o,.int .i64 s] H R:=by
 refine b23 fun hf=>?_
 have hk:∀c,decide (yZ o s)=c→R (.bool c) H:=fun b hb=>hb▸h
 simp+contextual only [x23,↓JS,↓XP,↓XU,qn,XW1,qa,qb,qc,qd,qe,qf,reduceCtorEq]
 refine yq ?_
 by_cases h1:0≤o∧o≤7
 ·simp+contextual only [x23,eq_true h1,↓JS,↓XP,↓XU,qn,XW1,qa,qb,qc,qd,qe,qf,reduceCtorEq]
  refine yq ?_
  simp+contextual only [x23,↓JS,↓XP,↓XU,qn,XW1,qa,qb,qc,qd,qe,qf,reduceCtorEq]
  exact hk _ (decide_eq_decide.2 (by unfold yZ;omega))
 ·simp+contextual only [x23,eq_false h1,↓JS,↓XP,↓XU,qn,XW1,qa,qb,qc,qd,qe,qf,reduceCtorEq]
  exact hk _ (decide_eq_false (by unfold yZ;omega))
theorem WJ {x:Id3} {H:AH} {R:D→AH→Prop} (h:R (.bool (decide (jy x))) H):ACall Tryz.prog 41 [.agg x.d] H R:=by
 refine b41 fun hf=>?_
 have hd:x.d= [.int .i64 x.o,.int .i64 x.s,.int .i64 x.i]:=rfl
 have hk:∀b,decide (jy x)=b→R (.bool b) H:=fun b hb=>hb▸h
 simp+contextual only [x41,hd,↓K8,↓XP,↓XU,qn,XW1,qa,qb,qc,qd,qe,qf,reduceCtorEq]
 refine fun b1 h1 _ _=>oh ?_
 by_cases h1:yZ x.o x.s
 ·simp+contextual only [x41,hd,eq_true h1,↓K8,↓XP,↓XU,qn,XW1,qa,qb,qc,qd,qe,qf,reduceCtorEq]
  refine fun _=>yq ?_
  simp+contextual only [x41,hd,↓K8,↓XP,↓XU,qn,XW1,qa,qb,qc,qd,qe,qf,reduceCtorEq]
  exact hk _ (decide_eq_decide.2 (by unfold yZ at h1;unfold jy;omega))
 ·simp+contextual only [x41,hd,eq_false h1,↓K8,↓XP,↓XU,qn,XW1,qa,qb,qc,qd,qe,qf,reduceCtorEq]
  exact hk _ (decide_eq_false (by unfold yZ at h1;unfold jy;omega))
theorem f_cSpan {a b:Int} {H:AH} {R:D→AH→Prop} (h:R (.bool (decide (yS a b))) H):ACall Tryz.prog 42 [.agg [.int .i64 a,.int .i64 b]] H R:=by
 refine b42 fun hf=>?_
 have hk:∀c,decide (yS a b)=c→R (.bool c) H:=fun b hb=>hb▸h
 simp+contextual only [x42,↓u42_s0,↓XP,↓XU,qn,XW1,qa,qb,qc,qd,qe,qf,reduceCtorEq]
 intro b1 h1
 repeat' (first|apply And.intro|intro _)
 all_goals first
  |exact hk _ (decide_eq_true (by unfold yS;omega))
  |exact hk _ (decide_eq_false (by unfold yS;omega))
  |exact hk _ (decide_eq_decide.2 (by unfold yS;omega))
  |skip
end Go.Proofs.YtpdhandimdibhaaGreatDoor
end
section
namespace Go.Proofs.YtpdhandimdibhaaGreatDoor
open Go Go.Aw
theorem wH {l:List (List UInt8)} {i c:Nat} (h:∀x∈l,x.length≤c):(l.getD i []).length≤c:=by
 rw [List.getD_eq_getElem?_getD]
 cases e:l[i]? with
 |none=>simp
 |some x=>exact h x (List.mem_of_getElem? e)
theorem oH {l:List (List UInt8)} {i c:Nat} (h:∀x∈l,c≤x.length) (hi:i<l.length):c≤(l.getD i []).length:=by
 rw [js hi]
 exact h _ (List.getElem_mem hi)
theorem jU {α:Type} {l:List α} {i:Nat} {d:α} (hi:i<l.length):l.getD i d∈l:=by
 rw [js hi]
 exact List.getElem_mem hi
theorem wy {l:List Int} {i n:Nat} (h:0<n):jG l i (n:Int)<n:=by
 have:=qv (l:=l) (i:=i) (most:=(n:Int)) (by omega)
 unfold jG
 omega
theorem vz {l:List Int}:(gloss l).length≤60:=by
 have go:∀i,(yd l i).length≤5+7*i:=by
  intro i
  induction i with
  |zero=>exact wH (by decide)
  | succ i ih=>
   have h1:(seps3.getD (jG l (2+i) 3) []).length≤2:=wH (by decide)
   have h2:(words16.getD (jG l (4+i) (6+i)) []).length≤5:=wH (by decide)
   simp only [yd,List.length_append]
   omega
 unfold gloss
 split
 ·simp
 ·have h1:=go (jG l 1 3)
  have h2:=wy (l:=l) (i:=1) (n:=3) (by omega)
  have h2':jG l 1 3<3:=h2
  omega
def AllT (p:Pt):Prop:=∀o∈p.ops,TOp o
theorem AllT.with' {p:Pt} {o:OpP} (h:AllT p) (ho:TOp o):AllT (qV p o):=by
 intro x hx
 unfold qV at hx
 rcases List.mem_append.1 hx with hx|hx
 ·exact h x hx
 ·rw [List.mem_singleton.1 hx];exact ho
theorem YZ {p:Pt} {o:OpP}:(qV p o).ops.length=p.ops.length+1:=by simp [qV]
theorem oL {p:Pt} (h:yZ p.o p.s) (hl:p.ops.length≤15):jy (jp p):=by
 unfold yZ at h
 unfold jy jp
 dsimp only
 omega
theorem vo {p:Pt} {on:Id3} {m:List Int} (h:AllT p) (ho:yZ p.o p.s) (hl:p.ops.length≤12) (hon:jy on):AllT (meaning p on m):=by
 have a2:=qv (l:=m) (i:=2) (most:=5) (by omega)
 unfold meaning
 dsimp only
 have h1:=h.with' (t_2 (on:=on) (n:=qB m 2 5) hon (by omega) (by omega))
 have hid:jy (jp p):=oL ho (by omega)
 have h2:=h1.with' (t_7 (on:=jp p) (tx:=gloss (m.drop 3)) hid vz)
 split
 ·exact h2
 ·exact h2.with' (t_9 hid (by omega) (by omega))
structure PC (x:Gs) (p:Pt):Prop where
 oks:yZ p.o p.s
 xs:∀q∈x.l,yZ q.o q.s∧q.ops.length≤14∧AllT q∧¬(q.o=p.o∧q.s=p.s)
theorem vis_ok {x:Gs} {p:Pt} {seen:List Bool} {kind:Int} (h:PC x p) (hl:p.ops.length≤16) {y:Id3} (hy:y∈visible x seen p kind):jy y∧∀j:Int,(p.ops.length:Int)≤j→y≠⟨p.o,p.s,j⟩:=by
 unfold visible at hy
 rcases List.mem_append.1 hy with hy|hy
 ·obtain ⟨i,hi,hy⟩:=upto_mem.1 hy
  obtain ⟨_,k,hk,_,rfl⟩:=mem_visOne.1 hy
  have hq:=h.xs _ (jU (d:=default) hi)
  generalize x.l.getD i default=q at hq hk
  obtain ⟨q1,q2,_,q3⟩:=hq
  unfold yZ at q1
  refine ⟨by unfold jy;dsimp only;omega,fun j _ e=>q3 ?_⟩
  simp only [Id3.mk.injEq] at e
  exact ⟨e.1,e.2.1⟩
 ·obtain ⟨_,k,hk,_,rfl⟩:=mem_visOne.1 hy
  have q1:=h.oks
  unfold yZ at q1
  refine ⟨by unfold jy;dsimp only;omega,fun j hj e=>?_⟩
  simp only [Id3.mk.injEq] at e
  omega
theorem gQ {x:Gs} {p:Pt} {seen:List Bool} {kind:Int} (h:PC x p) (hl:p.ops.length≤16) {m:List Int} {i:Nat} (hn:(visible x seen p kind).length≠0):
  jy ((visible x seen p kind).getD (jG m i (visible x seen p kind).length) default)∧∀j:Int,(p.ops.length:Int)≤j→(visible x seen p kind).getD (jG m i (visible x seen p kind).length) default≠⟨p.o,p.s,j⟩:=
 vis_ok h hl (jU (wy (by omega)))
theorem Gh {x:Gs} {seen:List Bool} {p:Pt} {sense:Id3} {m:List Int} (h:AllT p) (hc:PC x p) (hl:p.ops.length≤12) (hs:jy sense):AllT (quoted x seen p sense m):=by
 have a2:=qv (l:=m) (i:=2) (most:=60) (by omega)
 have a4:=qv (l:=m) (i:=4) (most:=8) (by omega)
 have a5:=qv (l:=m) (i:=5) (most:=90) (by omega)
 unfold quoted
 dsimp only
 split
 ·refine (h.with' (t_3 (oH (by decide) (wy (n:=3) (by omega))) (Nat.le_trans (wH (c:=5) (by decide)) (by omega)) (by decide) (by omega) (by omega) (by omega))).with' (t_4 hs (oL hc.oks (by omega)) (by omega) (by omega) vz)
 ·rename_i hne
  exact h.with' (t_4 hs (gQ hc (by omega) (fun e=>hne (.inl e))).1 (by omega) (by omega) vz)
theorem oK {p:Pt} {on:Id3} {m:List Int}:p.ops.length+2≤(meaning p on m).ops.length∧(meaning p on m).ops.length≤p.ops.length+3∧(meaning p on m).o=p.o∧(meaning p on m).s=p.s:=by
 unfold meaning
 dsimp only
 split<;>simp [qV]
theorem Vq {p:Pt} {entry sense:Id3} {m:List Int} (h:AllT p) (ho:yZ p.o p.s) (hl:p.ops.length≤7) (he:jy entry) (hs:jy sense) (hn:∀j:Int,(p.ops.length:Int)≤j→sense≠⟨p.o,p.s,j⟩):AllT (divided p entry sense m):=by
 have a4:=qv (l:=m) (i:=4) (most:=3) (by omega)
 unfold divided
 dsimp only
 obtain ⟨m1,m2,m3,m4⟩:=oK (p:=p) (on:=entry) (m:=m)
 have h1:=vo (m:=m) h ho (by omega) he
 generalize meaning p entry m=p1 at m1 m2 m3 m4 h1 ⊢
 have ho1:yZ p1.o p1.s:=by rw [m3,m4];exact ho
 have h2:=vo (m:=m.drop 1) h1 ho1 (by omega) he
 refine h2.with' (t_16 hs (oL ho (by omega)) (oL ho1 (by omega)) ?_ ?_ ?_ (by omega) (by omega))
 ·intro e
  unfold jp at e
  simp only [Id3.mk.injEq] at e
  omega
 ·exact fun e=>hn _ (Int.le_refl _) e.symm
 ·intro e
  refine hn p1.ops.length (by omega) ?_
  rw [←e]
  unfold jp
  rw [m3,m4]
theorem small_T {sense other:Id3} {n:Int} {m:List Int} (hs:jy sense) (ho:jy other):TOp (small sense other n m):=by
 have a1:=qv (l:=m) (i:=3) (most:=2) (by omega)
 have a2:=qv (l:=m) (i:=3) (most:=9) (by omega)
 have a3:=qv (l:=m) (i:=4) (most:=4) (by omega)
 have a4:=qv (l:=m) (i:=3) (most:=5) (by omega)
 have a5:=qv (l:=m) (i:=3) (most:=3) (by omega)
 unfold small
 repeat' split
 ·exact t_7 hs vz
 ·exact t_9 hs (by omega) (by omega)
 ·exact t_10 hs (by omega) (by omega)
 ·exact t_12 hs (oH (by decide) (wy (n:=3) (by omega))) (Nat.le_trans (wH (c:=2) (by decide)) (by omega)) vz
 ·exact t_14 hs (oH (by decide) (wy (n:=2) (by omega))) (Nat.le_trans (wH (c:=4) (by decide)) (by omega)) (by omega) (by omega)
 ·exact t_15 hs ho (by omega) (by omega)
 ·exact t_13 hs ho (by omega) (by omega)
 ·exact t_8 hs (by omega) (by omega)
theorem spl_ok {x:Gs} {p:Pt} {seen:List Bool} (h:PC x p) (hp:AllT p) {o:OpP} (ho:o∈splits x seen p):TOp o∧o.k=16:=by
 have one:∀{q:Pt} {ok:Bool},AllT q→o∈kD q ok→TOp o∧o.k=16:=by
  intro q ok hq ho
  unfold kD at ho
  obtain ⟨k,hk,h⟩:=upto_mem.1 ho
  unfold jX at h
  split at h
  ·rename_i hc
   rw [List.mem_singleton.1 h]
   exact ⟨hq _ (jU hk),hc.2⟩
  ·cases h
 unfold splits at ho
 rcases List.mem_append.1 ho with ho|ho
 ·obtain ⟨i,hi,ho⟩:=upto_mem.1 ho
  exact one (h.xs _ (jU (d:=default) hi)).2.2.1 ho
 ·exact one hp ho
theorem step_T {x:Gs} {seen:List Bool} {p:Pt} {m:List Int} (h:AllT p) (hc:PC x p) (hv:VOk x seen p) (hl:p.ops.length≤7):AllT (step x seen p m):=by
 have a0:=qv (l:=m) (i:=0) (most:=24) (by omega)
 have a3:=qv (l:=m) (i:=3) (most:=60) (by omega)
 have h8:∀i:Nat,(heads8.getD i []).length≤60:=fun i=>Nat.le_trans (wH (c:=4) (by decide)) (by omega)
 unfold step
 dsimp only
 by_cases c0:(visible x seen p 2).length=0∨qB m 0 24≤5
 ·rw [if_pos c0]
  exact vo (h.with' (t_1 (oH (by decide) (wy (n:=5) (by omega))) (Nat.le_trans (wH (c:=1) (by decide)) (by omega)) (h8 _))) hc.oks (by rw [YZ];omega) (oL hc.oks (by omega))
 ·rw [if_neg c0]
  have hs0:(visible x seen p 2).length≠0:=fun e=>c0 (.inl e)
  have he0:=hv hs0
  have hE1:=gQ (seen:=seen) (kind:=1) (m:=m) (i:=1) hc (by omega) he0
  have hS1:=gQ (seen:=seen) (kind:=2) (m:=m) (i:=1) hc (by omega) hs0
  have hS2:=gQ (seen:=seen) (kind:=2) (m:=m) (i:=2) hc (by omega) hs0
  generalize (visible x seen p 1).getD (jG m 1 (visible x seen p 1).length) default=entry at hE1 ⊢
  generalize (visible x seen p 2).getD (jG m 1 (visible x seen p 2).length) default=sense at hS1 ⊢
  generalize (visible x seen p 2).getD (jG m 2 (visible x seen p 2).length) default=other at hS2 ⊢
  have rest:∀{n:Int},AllT (yj p sense other n m):=h.with' (small_T hS1.1 hS2.1)
  generalize qB m 0 24=n
  by_cases c1:n=6
  ·rw [if_pos c1];exact vo h hc.oks (by omega) hE1.1
  rw [if_neg c1]
  by_cases c2:n=7
  ·rw [if_pos c2];exact vo h hc.oks (by omega) hS1.1
  rw [if_neg c2]
  by_cases c3:n=8∨n=9
  ·rw [if_pos c3];exact Gh h hc (by omega) hS1.1
  rw [if_neg c3]
  by_cases c4:n=10
  ·rw [if_pos c4];exact Vq h hc.oks hl hE1.1 hS1.1 hS1.2
  rw [if_neg c4]
  by_cases c5:n=11
  ·rw [if_pos c5]
   by_cases d1:other=sense
   ·rw [if_pos d1];exact rest
   ·rw [if_neg d1];exact h.with' (t_17 hS1.1 hS2.1 (fun e=>d1 e.symm))
  rw [if_neg c5]
  by_cases c6:n=12
  ·rw [if_pos c6]
   by_cases d1:(splits x seen p).length=0
   ·rw [if_pos d1];exact rest
   ·rw [if_neg d1]
    obtain ⟨w1,w2⟩:=spl_ok hc h (jU (d:=default) (i:=jG m 3 (splits x seen p).length) (wy (by omega)))
    generalize (splits x seen p).getD (jG m 3 (splits x seen p).length) default=o at w1 w2 ⊢
    have hol:=w1.ok w2
    obtain ⟨v1,v2,v3,v4,v5⟩:=w1.v
    have hon:jy o.on:=v1.2.1 (by rw [w2];decide)
    have hids:=(v2.2.2.1 (by rw [w2];decide)).1
    exact h.with' (t_18 hS1.1 hon (hids _ (jU (wy (by omega)))).1)
  rw [if_neg c6]
  by_cases c7:n=13
  ·rw [if_pos c7]
   by_cases d1:qB m 2 2=0
   ·rw [if_pos d1];exact h.with' (t_5 hE1.1 (h8 _))
   ·rw [if_neg d1];exact h.with' (t_6 hE1.1 (oH (by decide) (wy (n:=2) (by omega))) (Nat.le_trans (wH (c:=1) (by decide)) (by omega)))
  rw [if_neg c7]
  by_cases c8:n=14
  ·rw [if_pos c8]
   by_cases d1:(visible x seen p 3).length=0
   ·rw [if_pos d1];exact rest
   ·rw [if_neg d1];exact h.with' (t_11 (gQ hc (by omega) d1).1 (by omega) (by omega) (by omega))
  rw [if_neg c8]
  exact rest
end Go.Proofs.YtpdhandimdibhaaGreatDoor
end
section
namespace Go.Proofs.YtpdhandimdibhaaGreatDoor
open Go Go.Aw
def NdOk (o b:Int) (l:List Rf):Prop:=∀i,i<l.length→0≤(l.getD i default).o∧(l.getD i default).o<b∧(l.getD i default).o≠o∧1≤(l.getD i default).s∧(l.getD i default).s≤16∧(0<i→(l.getD (i - 1) default).o<(l.getD i default).o)
theorem NdOk.mono {o b b':Int} {l:List Rf} (h:NdOk o b l) (hb:b≤b'):NdOk o b' l:=fun i hi=>by
 obtain ⟨h1,h2,h3⟩:=h i hi
 exact ⟨h1,by omega,h3⟩
theorem NdOk.snoc {o:Int} {q:Nat} {s:Int} {l:List Rf} (h:NdOk o q l) (hq:(q:Int)≠o) (h1:1≤s) (h2:s≤16):NdOk o ((q+1:Nat):Int) (l++ [⟨q,s⟩]):=by
 intro i hi
 rw [List.length_append,List.length_singleton] at hi
 by_cases hl:i<l.length
 ·rw [jT hl]
  obtain ⟨g1,g2,g3,g4,g5,g6⟩:=h i hl
  refine ⟨g1,by omega,g3,g4,g5,fun h0=>?_⟩
  rw [jT (by omega)]
  exact g6 h0
 ·rw [wX (by omega)]
  refine ⟨by simp,by simp;omega,hq,h1,h2,fun h0=>?_⟩
  rw [jT (by omega)]
  exact (h (i - 1) (by omega)).2.1
theorem J2 {x:Gs} {o:Int}:∀n:Nat,(0≤kA x o n→(x.l.getD (kA x o n).toNat default).o=o)∧∀i:Nat,i<n→kA x o n<i→(x.l.getD i default).o≠o
 |0=>⟨fun h=>by simp [kA] at h,fun i hi=>by omega⟩
 | n+1=>by
  obtain ⟨h1,h2⟩:=J2 (x:=x) (o:=o) n
  unfold kA
  split
  ·rename_i hc
   refine ⟨fun _=>by simpa using hc,fun i hi hl=>by omega⟩
  ·rename_i hc
   refine ⟨h1,fun i hi hl=>?_⟩
   by_cases e:i=n
   ·rw [e];exact hc
   ·exact h2 i (by omega) hl
structure QV (q:Pt):Prop where
 oo:0≤q.o∧q.o≤2
 ss:1≤q.s
 T:AllT q
 ne:q.ops≠ []
 nd:NdOk q.o 3 q.needs
 nl:q.needs.length≤3
 sl:q.sl= []
structure GV (x:Gs):Prop where
 q:∀p∈x.l,QV p
 u:∀i j:Nat,i<j→j<x.l.length→(x.l.getD i default).o=(x.l.getD j default).o→(x.l.getD i default).s<(x.l.getD j default).s
theorem KV {x:Gs} (hx:GInv x) (hv:GV x) (hn:x.l.length≤15) {o:Int} {m:List Int}:∀q:Nat,(qw x o m q).p.o=o∧NdOk o q (qw x o m q).p.needs∧(qw x o m q).p.s=if o<q∧0≤o∧0≤last x o then (x.l.getD (last x o).toNat default).s+1 else 1
 | 0=>by
  refine ⟨rfl,fun i hi=>by simp [qw,uB] at hi,?_⟩
  rw [if_neg (by omega)]
  rfl
 | q+1=>by
  obtain ⟨h1,h2,h3⟩:=KV hx hv hn (o:=o) (m:=m) q
  obtain ⟨r1,r2⟩:=yG (x:=x) (q:=(q:Int)) x.l.length
  simp only [qw]
  generalize qw x o m q=s at h1 h2 h3 ⊢
  unfold kU
  dsimp only
  split
  ·rename_i hc
   refine ⟨h1,h2.mono (by omega),?_⟩
   rw [h3]
   by_cases e:(q:Int)=o
   ·subst e
    rw [if_neg (by omega),if_neg (by omega)]
   ·by_cases c:o<(q:Int)∧0≤o∧0≤last x o
    ·rw [if_pos c,if_pos ⟨by omega,c.2⟩]
    ·rw [if_neg c,if_neg (fun d=>c ⟨by omega,d.2⟩)]
  ·rename_i hc
   have hk:0≤last x q:=by omega
   have hkl:(last x q).toNat<x.l.length:=by unfold last at*;omega
   have hq:=hv.q _ (jU (d:=default) hkl)
   have hs:=hx.sq _ (jU (d:=default) hkl)
   by_cases e:(q:Int)=o
   ·subst e
    rw [if_pos rfl]
    refine ⟨h1,h2.mono (by omega),?_⟩
    rw [if_pos ⟨by omega,by omega,hk⟩]
   ·rw [if_neg e]
    refine ⟨h1,NdOk.snoc h2 e hq.ss (by omega),?_⟩
    dsimp only
    rw [h3]
    by_cases c:o<(q:Int)∧0≤o∧0≤last x o
    ·rw [if_pos c,if_pos ⟨by omega,c.2⟩]
    ·rw [if_neg c,if_neg (fun d=>c ⟨by omega,d.2⟩)]
theorem step_ne {x:Gs} {seen:List Bool} {p:Pt} {m:List Int}:(step x seen p m).ops≠ []:=by
 have w:∀{p:Pt} {o:OpP},(qV p o).ops≠ []:=fun {p o}=>by simp [qV]
 have mm:∀{p:Pt} {on:Id3} {m:List Int},(meaning p on m).ops≠ []:=fun {p on m}=>by
  have:=oK (p:=p) (on:=on) (m:=m)
  intro e
  rw [e] at this
  simp at this
 have qq:∀{sense:Id3} {m:List Int},(quoted x seen p sense m).ops≠ []:=fun {sense m}=>by
  unfold quoted
  dsimp only
  split
  ·exact w
  ·exact w
 unfold step
 dsimp only
 by_cases c0:(visible x seen p 2).length=0∨qB m 0 24≤5
 ·rw [if_pos c0];exact mm
 rw [if_neg c0]
 generalize (visible x seen p 1).getD (jG m 1 (visible x seen p 1).length) default=entry
 generalize (visible x seen p 2).getD (jG m 1 (visible x seen p 2).length) default=sense
 generalize (visible x seen p 2).getD (jG m 2 (visible x seen p 2).length) default=other
 generalize qB m 0 24=n
 by_cases c1:n=6
 ·rw [if_pos c1];exact mm
 rw [if_neg c1]
 by_cases c2:n=7
 ·rw [if_pos c2];exact mm
 rw [if_neg c2]
 by_cases c3:n=8∨n=9
 ·rw [if_pos c3];exact qq
 rw [if_neg c3]
 by_cases c4:n=10
 ·rw [if_pos c4];exact w
 rw [if_neg c4]
 by_cases c5:n=11
 ·rw [if_pos c5]
  by_cases d1:other=sense
  ·rw [if_pos d1];exact w
  ·rw [if_neg d1];exact w
 rw [if_neg c5]
 by_cases c6:n=12
 ·rw [if_pos c6]
  by_cases d1:(splits x seen p).length=0
  ·rw [if_pos d1];exact w
  ·rw [if_neg d1];exact w
 rw [if_neg c6]
 by_cases c7:n=13
 ·rw [if_pos c7]
  by_cases d1:qB m 2 2=0
  ·rw [if_pos d1];exact w
  ·rw [if_neg d1];exact w
 rw [if_neg c7]
 by_cases c8:n=14
 ·rw [if_pos c8]
  by_cases d1:(visible x seen p 3).length=0
  ·rw [if_pos d1];exact w
  ·rw [if_neg d1];exact w
 rw [if_neg c8]
 exact w
theorem Vk {x:Gs} {seen:List Bool} {p:Pt} {m:List Int} (hp:p.ops= []) (hv:VOk x seen p) (hc:PC x p):∀i:Nat,i≤2→AllT (j9 x seen p m i)
 | 0,_=>fun o ho=>by
  unfold j9 at ho
  rw [hp] at ho
  simp at ho
 | i+1,hi=>by
  obtain ⟨more,h1,h2⟩:=wM (m:=m) hp hv i
  have h3:=Vk hp hv hc i (by omega) (m:=m)
  have e:=h1.eq
  have hl:=h1.len
  unfold j9
  have hlen:(j9 x seen p m i).ops.length≤7:=by
   rw [e]
   simp [hp]
   omega
  have hc':PC x (j9 x seen p m i):=by rw [e];exact ⟨hc.oks,hc.xs⟩
  exact step_T h3 hc' h2 hlen
theorem GV.next {x:Gs} (hx:GInv x) (hv:GV x) (hn:x.l.length≤14) {offices:Nat} (ho:1≤offices) (ho':offices≤3) (m:List Int):GV (next x offices m):=by
 obtain ⟨a1,a2⟩:=qv (l:=m) (i:=0) (most:=(offices:Int)) (by omega)
 have a5:=wy (l:=m) (i:=5) (n:=2) (by omega)
 have a5':jG m 5 2<2:=a5
 unfold Go.Proofs.YtpdhandimdibhaaGreatDoor.next
 dsimp only
 generalize qB m 0 (offices:Int)=o at a1 a2 ⊢
 obtain ⟨h1,h2,h3,h5,h6⟩:=yR hx (o:=o) (m:=m) offices
 obtain ⟨g1,g2,g3,g4⟩:=kn (x:=x) (o:=o) (m:=m) offices
 obtain ⟨v1,v2,v3⟩:=KV hx hv (by omega) (o:=o) (m:=m) offices
 obtain ⟨l1,l2⟩:=J2 (x:=x) (o:=o) x.l.length
 obtain ⟨r1,r2⟩:=yG (x:=x) (q:=o) x.l.length
 generalize qw x o m offices=s at h1 h2 h3 h5 h6 g1 g2 g3 g4 v1 v2 v3 ⊢
 have hsl:∀i,i<x.l.length→(x.l.getD i default).o=o→(x.l.getD i default).s<s.p.s:=by
  intro i hi he
  have hik:¬(kA x o x.l.length<i):=fun hc=>l2 i hi hc he
  have hk:0≤last x o:=by unfold last;omega
  rw [v3,if_pos ⟨by omega,a1,hk⟩]
  unfold last
  by_cases e:i=(kA x o x.l.length).toNat
  ·rw [←e];omega
  ·have:=hv.u i (kA x o x.l.length).toNat (by omega) (by omega) (by rw [he,l1 (by omega)])
   omega
 have hs1:1≤s.p.s:=by
  rw [v3]
  split
  ·rename_i hc
   have:=(hv.q _ (jU (d:=default) (i:=(last x o).toNat) (by unfold last at*;omega))).ss
   omega
  ·omega
 have hc:PC x {s.p with day:=s.p.day+qB m 4 4}:=by
  refine ⟨?_,fun q hq=>?_⟩
  ·unfold yZ
   dsimp only
   rw [v1]
   omega
  ·have hQ:=hv.q q hq
   have hS:=hx.sq q hq
   obtain ⟨i,hi,he⟩:=List.getElem_of_mem hq
   refine ⟨?_,hx.op q hq,hQ.T,?_⟩
   ·unfold yZ
    have:=hQ.oo
    have:=hQ.ss
    omega
   ·rintro ⟨e1,e2⟩
    have:=hsl i hi (by rw [js hi,he,e1];exact v1)
    rw [js hi,he] at this
    dsimp only at e2
    omega
 have hbase:VOk x s.seen {s.p with day:=s.p.day+qB m 4 4}:=VOk.base hx h1 g2
 have hT:=Vk (m:=m) (p:={s.p with day:=s.p.day+qB m 4 4}) g2 hbase hc (1+jG m 5 2) (by omega)
 obtain ⟨more,e1,e2⟩:=wM (x:=x) (seen:=s.seen) (p:={s.p with day:=s.p.day+qB m 4 4}) (m:=m) g2 hbase (1+jG m 5 2)
 have hne:(j9 x s.seen {s.p with day:=s.p.day+qB m 4 4} m (1+jG m 5 2)).ops≠ []:=by
  rw [Nat.add_comm]
  exact step_ne
 have e3:=e1.eq
 generalize j9 x s.seen {s.p with day:=s.p.day+qB m 4 4} m (1+jG m 5 2)=p at hT hne e3 ⊢
 have po:p.o=o:=by rw [e3];exact v1
 have ps:p.s=s.p.s:=by rw [e3]
 have hp:QV p:=by
  refine ⟨by rw [po];omega,by rw [ps];exact hs1,hT,hne,?_,?_,?_⟩
  ·rw [po,e3];exact v2.mono (by omega)
  ·rw [e3];show s.p.needs.length≤3;omega
  ·rw [e3];exact g3
 refine ⟨fun q hq=>?_,fun i j hij hj he=>?_⟩
 ·rcases List.mem_append.1 hq with hq|hq
  ·exact hv.q q hq
  ·rw [List.mem_singleton.1 hq];exact hp
 ·dsimp only at hj he ⊢
  rw [List.length_append,List.length_singleton] at hj
  by_cases hjl:j<x.l.length
  ·rw [jT hjl,jT (show i<x.l.length by omega)] at he ⊢
   exact hv.u i j hij hjl he
  ·rw [wX (show j=x.l.length by omega),jT (show i<x.l.length by omega)] at he ⊢
   rw [ps]
   exact hsl i (by omega) (by rw [he,po])
theorem GV.nil:GV ⟨[],[]⟩:=⟨by simp,by simp⟩
theorem KP {x:Gs} {offices:Nat} {m:List Int}:(next x offices m).l.length=x.l.length+1:=by simp [Go.Proofs.YtpdhandimdibhaaGreatDoor.next]
theorem Z6 (l:List Int) {offices:Nat} (ho:1≤offices) (ho':offices≤3):∀i:Nat,i≤9→GInv (qZ l offices i)∧GV (qZ l offices i)∧(qZ l offices i).l.length=i
 |0,_=>⟨GInv.nil,GV.nil,rfl⟩
 | i+1,hi=>by
  obtain ⟨h1,h2,h3⟩:=Z6 l ho ho' i (by omega)
  refine ⟨h1.next (by omega) _,GV.next h1 h2 (by omega) ho ho' _,?_⟩
  unfold qZ
  rw [KP,h3]
end Go.Proofs.YtpdhandimdibhaaGreatDoor
end
section
namespace Go.Proofs.YtpdhandimdibhaaGreatDoor
open Go Go.Aw
theorem not64 {x:Nat} (h:x<18446744073709551616):18446744073709551615 ^^^ x=18446744073709551615 - x:=by
 apply Nat.eq_of_testBit_eq
 intro i
 have e1:(18446744073709551615:Nat)=2 ^ 64 - 1:=rfl
 have e2:(18446744073709551615:Nat) - x=2 ^ 64 - (x+1):=by omega
 rw [Nat.testBit_xor,e2,e1,Nat.testBit_two_pow_sub_one,Nat.testBit_two_pow_sub_succ h]
 by_cases hi:i<64
 ·simp [hi]
 ·have:x.testBit i=false:=Nat.testBit_lt_two_pow (Nat.lt_of_lt_of_le (show x<2 ^ 64 from h) (Nat.pow_le_pow_right (by decide) (Nat.le_of_not_lt hi)))
  simp [hi,this]
theorem not8 {x:Nat} (h:x<256):x ^^^ 255=255 - x:=by
 apply Nat.eq_of_testBit_eq
 intro i
 have e1:(255:Nat)=2 ^ 8 - 1:=rfl
 have e2:(255:Nat) - x=2 ^ 8 - (x+1):=by omega
 rw [Nat.testBit_xor,e2,e1,Nat.testBit_two_pow_sub_one,Nat.testBit_two_pow_sub_succ h]
 by_cases hi:i<8
 ·simp [hi]
 ·have:x.testBit i=false:=Nat.testBit_lt_two_pow (Nat.lt_of_lt_of_le (show x<2 ^ 8 from h) (Nat.pow_le_pow_right (by decide) (Nat.le_of_not_lt hi)))
  simp [hi,this]
def zK (b:Bool):Int:=if b=true then 255 else 0
theorem xor8 {b:Bool} {x:Nat} (h:x<256):bits .xor .u8 (x:Int) (zK b)=((jb b (UInt8.ofNat x)).toNat:Int):=by
 cases b with
 | false=>
  have:=u8_xor_nat x 0 h (by omega)
  simp only [Nat.xor_zero] at this
  simp only [zK,jb,Bool.false_eq_true,if_false]
  rw [show ((0:Int))=((0:Nat):Int) from rfl,this,UInt8.toNat_ofNat',Nat.mod_eq_of_lt h]
 | true=>
  have:=u8_xor_nat x 255 h (by omega)
  rw [not8 h] at this
  have hx:(UInt8.ofNat x).toNat=x:=by rw [UInt8.toNat_ofNat',Nat.mod_eq_of_lt h]
  simp only [zK,jb,if_true]
  rw [show ((255:Int))=((255:Nat):Int) from rfl,this,UInt8.toNat_sub_of_le _ _ (by rw [UInt8.le_iff_toNat_le,hx];simp;omega),hx]
  simp
theorem Vf:∀(m k:Nat),(digs m).length≤k↔m<256 ^ k
 | m,0=>by
  by_cases hm:m=0
  ·subst hm;simp [kT]
  ·rw [wh hm];simp;omega
 | m,k+1=>by
  by_cases hm:m=0
  ·subst hm;simp [kT,Nat.pow_pos]
  ·rw [wh hm,List.length_cons,Nat.succ_le_succ_iff,Vf (m / 256) k,Nat.div_lt_iff_lt_mul (by omega),Nat.pow_succ]
theorem KW:∀(i m:Nat),i<(digs m).length→(digs m).getD i 0=UInt8.ofNat (m / 256 ^ i % 256)
 | i,m,h=>by
  by_cases hm:m=0
  ·subst hm;simp [kT] at h
  ·rw [wh hm] at h ⊢
   cases i with
   |zero=>simp
   | succ i=>
    rw [List.getD_cons_succ,KW i (m / 256) (by simpa using h),Nat.div_div_eq_div_mul,Nat.pow_succ,Nat.mul_comm]
theorem Vm {m i:Nat} (hi:i≤8):((m:Int)).fdiv (2 ^ (min ((8*(i:Int)).toNat) IntKind.u64.bits))=((m / 256 ^ i:Nat):Int):=by
 have e1:(8*(i:Int)).toNat=8*i:=by omega
 have e2:min (8*i) IntKind.u64.bits=8*i:=by
  have:IntKind.u64.bits=64:=rfl
  omega
 rw [e1,e2,show (256:Nat)=2 ^ 8 from rfl,←Nat.pow_mul]
 rw [Int.fdiv_eq_ediv_of_nonneg _ (by exact Int.le_of_lt (Int.pow_pos (by omega)))]
 norm_cast
theorem VW {n:Int} (h:vk .i64 n):IntKind.u64.wrap n=(if n<0 then n+18446744073709551616 else n):=by
 rw [wI] at h
 rw [IntKind.wrap_u64]
 split<;>omega
theorem US {x:Nat}:IntKind.u8.wrap ((x:Nat):Int)=((x % 256:Nat):Int):=by
 rw [IntKind.wrap_u8']
 omega
end Go.Proofs.YtpdhandimdibhaaGreatDoor
end
