/- A part of the proof of what the last text says: XcB, XcC, XcD, XcE. Conditions: those in each theorem. -/
import Derived.Test.YtffbjejmobhpkaaA14
set_option linter.unusedVariables false
set_option linter.unusedSimpArgs false
set_option maxRecDepth 100000
set_option maxHeartbeats 16000000
open Nat renaming reduceSub → qa,reduceAdd → qb,reduceMul → qc,reduceEqDiff → qd,reduceLeDiff → qe,reduceBEq → qf
section
namespace Go.Proofs.Ytffbjejmobhpkaa
open Go.Xs
open Go Go.Aw
def x35_s0 : XC := (.seq (.regD [f 34 2 0 5,l 3 5 6,f 34 3 0 7,l 3 7 8,a (k 45 #[(t 6),(t 8)] #[3,3]) 9,f 34 2 1 10,l 3 10 11,f 34 3 1 12,l 3 12 13,a (k 45 #[(t 11),(t 13)] #[3,3]) 14,f 34 2 2 15,l 3 15 16,f 34 3 2 17,l 3 17 18,a (k 45 #[(t 16),(t 18)] #[3,3]) 19,a (.buildSlice 22 3 #[(0,(t 9)),(1,(t 14)),(2,(t 19))]) 20,b (k 44 #[(t 20)] #[22]) 21,n 21 4]) .ret)
theorem u35_s0 : type_of% (@unf _ _ x35_s0.eq_1) := unf x35_s0.eq_1
def x35 : XC := (.seq (.reg [a (.box 34 (t 0)) 2,a (.box 34 (t 1)) 3,a (.assign (i 0)) 4]) x35_s0)
theorem b35 : Bt 35 22 x35 [(.tmp 4)] := bt Try.func35 rfl (by kernel_rfl) (by kernel_rfl) (by kernel_rfl)
def x76_s0 : XC := (.seq (.regD [f 34 2 0 5,l 3 5 6,f 34 3 0 7,l 3 7 8,a (k 45 #[(t 6),(t 8)] #[3,3]) 9,f 34 2 1 10,l 3 10 11,f 34 3 1 12,l 3 12 13,a (k 45 #[(t 11),(t 13)] #[3,3]) 14,f 34 2 2 15,l 3 15 16,f 34 3 2 17,l 3 17 18,a (k 45 #[(t 16),(t 18)] #[3,3]) 19,a (.buildSlice 22 3 #[(0,(t 9)),(1,(t 14)),(2,(t 19))]) 20,b (k 44 #[(t 20)] #[22]) 21,n 21 4]) .ret)
theorem u76_s0 : type_of% (@unf _ _ x76_s0.eq_1) := unf x76_s0.eq_1
def x76 : XC := (.seq (.reg [a (.box 34 (t 0)) 2,a (.box 34 (t 1)) 3,a (.assign (i 0)) 4]) x76_s0)
theorem b76 : Bt 76 22 x76 [(.tmp 4)] := bt Try.func76 rfl (by kernel_rfl) (by kernel_rfl) (by kernel_rfl)
def x75_s0 : XC := (.cond (t 9) (.reg [a (.makeInterface 9 (.const (.string ⟨#[115,108,105,99,101,115,46,77,105,110,70,117,110,99,58,32,101,109,112,116,121,32,108,105,115,116]⟩))) 10,s (.panic (t 10))]) .skip)
def x75_c1 : XC := (.reg [m 0 28,m 6 29,j 38 28 29 30,b (.load 34 (t 30)) 31,w 34 5 31])
def x75_s2 : XC := (.reg [m 6 18,b (.binOp .add 3 (t 18) (i 1) 3) 19,n 19 6])
def x75_s3 : XC := (.seq (.block 1 (.seq (.regD [m 1 20,m 0 21,m 6 22,j 38 21 22 23,l 34 23 24,l 34 5 25,a (.call ⟨(.value (t 20)),#[(t 24),(t 25)],#[34,34]⟩) 26,a (.binOp .lss 3 (t 26) (i 0) 3) 27]) (.cond (t 27) x75_c1 .skip))) x75_s2)
def x75_L4 : XC := (.seq (.seq (.reg [m 6 14,m 0 15,e 38 15 16,a (.binOp .lss 3 (t 14) (t 16) 3) 17]) (.cond (t 17) .skip (.exit 0))) x75_s3)
def x75_s5 : XC := (.seq (.seq (.reg [a (.assign (i 1)) 6]) (.block 0 (.loop x75_L4))) (.seq (.reg [b (.load 34 (t 5)) 32,w 34 4 32]) .ret))
def x75_s6 : XC := (.seq (.reg [m 0 11,a (.indexAddr 38 (t 11) (i 0)) 12,b (.load 34 (t 12)) 13,a (.alloc 34) 5,w 34 5 13]) x75_s5)
def x75_s7 : XC := (.seq (.seq (.reg [m 0 7,e 38 7 8,a (.binOp .lss 3 (t 8) (i 1) 3) 9]) x75_s0) x75_s6)
def V75 := PLift.up (aI (aI (aI (@unf _ _ x75_s0.eq_1) (@unf _ _ x75_c1.eq_1)) (aI (@unf _ _ x75_s2.eq_1) (@unf _ _ x75_s3.eq_1))) (aI (aI (@unf _ _ x75_L4.eq_1) (@unf _ _ x75_s5.eq_1)) (aI (@unf _ _ x75_s6.eq_1) (@unf _ _ x75_s7.eq_1))))
theorem U75 : type_of% V75.down := V75.down
def x75 : XC := (.seq (.reg [a (.alloc 34) 4]) x75_s7)
theorem b75 : Bt 75 33 x75 [(.cell 4 34)] := bt Try.func75 rfl (by kernel_rfl) (by kernel_rfl) (by kernel_rfl)
def x85_s0 : XC := (.seq (.reg [m 0 7,b (k 36 #[(t 7)] #[38]) 8,n 8 2]) .ret)
def x85_s1 : XC := (.seq (.reg [m 0 3,b (k 42 #[(t 3)] #[38]) 4,n 4 0]) (.seq (.gh (.reg [m 0 5,a (k 34 #[(t 5),(.func 76)] #[38,80]) 6])) x85_s0))
def V85 := PLift.up (aI (@unf _ _ x85_s0.eq_1) (@unf _ _ x85_s1.eq_1))
theorem U85 : type_of% V85.down := V85.down
def x85 : XC := (.seq (.reg [a (.assign (.const (.slice .none 0 0))) 2]) x85_s1)
theorem b85 : Bt 85 9 x85 [(.tmp 2)] := bt Try.func85 rfl (by kernel_rfl) (by kernel_rfl) (by kernel_rfl)
def x36_s0 : XC := (.reg [m 3 52,b (.binOp .add 3 (t 52) (i 1) 3) 53,n 53 3])
def x36_c1 : XC := (.seq (.reg [m 0 45,m 3 46,m 4 47,m 5 48,j 38 47 48 49,b (.load 34 (t 49)) 50,j 38 45 46 51,w 34 51 50]) x36_s0)
def x36_s2 : XC := (.reg [m 5 33,b (.binOp .add 3 (t 33) (i 1) 3) 34,n 34 5])
def x36_s3 : XC := (.seq (.block 3 (.seq (.regD [m 4 35,m 5 36,j 38 35 36 37,l 34 37 38,m 4 39,m 5 40,a (.binOp .sub 3 (t 40) (i 1) 3) 41,j 38 39 41 42,l 34 42 43,a (.binOp .neq 34 (t 38) (t 43) 34) 44]) (.cond (t 44) x36_c1 .skip))) x36_s2)
def x36_L4 : XC := (.seq (.seq (.reg [m 5 29,m 4 30,e 38 30 31,a (.binOp .lss 3 (t 29) (t 31) 3) 32]) (.cond (t 32) .skip (.exit 2))) x36_s3)
def x36_s5 : XC := (.seq (.gh (.reg [m 0 57,m 3 58,b (.slice 38 (t 57) .none (.some (t 58)) .none) 59,n 59 2])) .ret)
def x36_s6 : XC := (.seq (.reg [m 0 54,m 3 55,a (.slice 38 (t 54) (.some (t 55)) .none .none) 56,s (.call ⟨(.builtin .clear),#[(t 56)],#[38]⟩)]) x36_s5)
def x36_c7 : XC := (.seq (.reg [m 0 26,m 3 27,b (.slice 38 (t 26) (.some (t 27)) .none .none) 28,n 28 4]) (.seq (.seq (.reg [a (.assign (i 1)) 5]) (.block 2 (.loop x36_L4))) x36_s6))
def x36_s8 : XC := (.reg [m 3 14,b (.binOp .add 3 (t 14) (i 1) 3) 15,n 15 3])
def x36_s9 : XC := (.seq (.block 1 (.seq (.regD [m 0 16,m 3 17,j 38 16 17 18,l 34 18 19,m 0 20,m 3 21,a (.binOp .sub 3 (t 21) (i 1) 3) 22,j 38 20 22 23,l 34 23 24,a (.binOp .eql 34 (t 19) (t 24) 34) 25]) (.cond (t 25) x36_c7 .skip))) x36_s8)
def x36_L10 : XC := (.seq (.seq (.reg [m 3 10,m 0 11,e 38 11 12,a (.binOp .lss 3 (t 10) (t 12) 3) 13]) (.cond (t 13) .skip (.exit 0))) x36_s9)
def x36_s11 : XC := (.seq (.seq (.reg [a (.assign (i 1)) 3]) (.block 0 (.loop x36_L10))) (.seq (.gh (.reg [b (.move (t 0)) 60,n 60 2])) .ret))
def x36_s12 : XC := (.seq (.seq (.reg [m 0 6,e 38 6 7,a (.binOp .lss 3 (t 7) (i 2) 3) 8]) (.cond (t 8) (.seq (.gh (.reg [b (.move (t 0)) 9,n 9 2])) .ret) .skip)) x36_s11)
def V36 := PLift.up (aI (aI (aI (@unf _ _ x36_s0.eq_1) (aI (@unf _ _ x36_c1.eq_1) (@unf _ _ x36_s2.eq_1))) (aI (@unf _ _ x36_s3.eq_1) (aI (@unf _ _ x36_L4.eq_1) (@unf _ _ x36_s5.eq_1)))) (aI (aI (@unf _ _ x36_s6.eq_1) (aI (@unf _ _ x36_c7.eq_1) (@unf _ _ x36_s8.eq_1))) (aI (aI (@unf _ _ x36_s9.eq_1) (@unf _ _ x36_L10.eq_1)) (aI (@unf _ _ x36_s11.eq_1) (@unf _ _ x36_s12.eq_1)))))
theorem U36 : type_of% V36.down := V36.down
def x36 : XC := (.seq (.reg [a (.assign (.const (.slice .none 0 0))) 2]) x36_s12)
theorem b36 : Bt 36 61 x36 [(.tmp 2)] := bt Try.func36 rfl (by kernel_rfl) (by kernel_rfl) (by kernel_rfl)
def x36v_s0 : XC := (.reg [m 3 52,b (.binOp .add 3 (t 52) (i 1) 3) 53,n 53 3])
def x36v_c1 : XC := (.seq (.reg [m 0 45,m 3 46,m 4 47,m 5 48,j 38 47 48 49,b (.load 34 (t 49)) 50,j 38 45 46 51,w 34 51 50]) x36v_s0)
def x36v_s2 : XC := (.reg [m 5 33,b (.binOp .add 3 (t 33) (i 1) 3) 34,n 34 5])
def x36v_s3 : XC := (.seq (.block 3 (.seq (.regD [m 4 35,m 5 36,j 38 35 36 37,l 34 37 38,m 4 39,m 5 40,a (.binOp .sub 3 (t 40) (i 1) 3) 41,j 38 39 41 42,l 34 42 43,a (.binOp .neq 34 (t 38) (t 43) 34) 44]) (.cond (t 44) x36v_c1 .skip))) x36v_s2)
def x36v_L4 : XC := (.seq (.seq (.reg [m 5 29,m 4 30,e 38 30 31,a (.binOp .lss 3 (t 29) (t 31) 3) 32]) (.cond (t 32) .skip (.exit 2))) x36v_s3)
def x36v_s5 : XC := (.seq (.reg [m 0 57,m 3 58,b (.slice 38 (t 57) .none (.some (t 58)) .none) 59,n 59 2]) .ret)
def x36v_s6 : XC := (.seq (.reg [m 0 54,m 3 55,a (.slice 38 (t 54) (.some (t 55)) .none .none) 56,s (.call ⟨(.builtin .clear),#[(t 56)],#[38]⟩)]) x36v_s5)
def x36v_c7 : XC := (.seq (.reg [m 0 26,m 3 27,b (.slice 38 (t 26) (.some (t 27)) .none .none) 28,n 28 4]) (.seq (.seq (.reg [a (.assign (i 1)) 5]) (.block 2 (.loop x36v_L4))) x36v_s6))
def x36v_s8 : XC := (.reg [m 3 14,b (.binOp .add 3 (t 14) (i 1) 3) 15,n 15 3])
def x36v_s9 : XC := (.seq (.block 1 (.seq (.regD [m 0 16,m 3 17,j 38 16 17 18,l 34 18 19,m 0 20,m 3 21,a (.binOp .sub 3 (t 21) (i 1) 3) 22,j 38 20 22 23,l 34 23 24,a (.binOp .eql 34 (t 19) (t 24) 34) 25]) (.cond (t 25) x36v_c7 .skip))) x36v_s8)
def x36v_L10 : XC := (.seq (.seq (.reg [m 3 10,m 0 11,e 38 11 12,a (.binOp .lss 3 (t 10) (t 12) 3) 13]) (.cond (t 13) .skip (.exit 0))) x36v_s9)
def x36v_s11 : XC := (.seq (.seq (.reg [a (.assign (i 1)) 3]) (.block 0 (.loop x36v_L10))) (.seq (.reg [b (.move (t 0)) 60,n 60 2]) .ret))
def x36v_s12 : XC := (.seq (.seq (.reg [m 0 6,e 38 6 7,a (.binOp .lss 3 (t 7) (i 2) 3) 8]) (.cond (t 8) (.seq (.reg [b (.move (t 0)) 9,n 9 2]) .ret) .skip)) x36v_s11)
def V36v := PLift.up (aI (aI (aI (@unf _ _ x36v_s0.eq_1) (aI (@unf _ _ x36v_c1.eq_1) (@unf _ _ x36v_s2.eq_1))) (aI (@unf _ _ x36v_s3.eq_1) (aI (@unf _ _ x36v_L4.eq_1) (@unf _ _ x36v_s5.eq_1)))) (aI (aI (@unf _ _ x36v_s6.eq_1) (aI (@unf _ _ x36v_c7.eq_1) (@unf _ _ x36v_s8.eq_1))) (aI (aI (@unf _ _ x36v_s9.eq_1) (@unf _ _ x36v_L10.eq_1)) (aI (@unf _ _ x36v_s11.eq_1) (@unf _ _ x36v_s12.eq_1)))))
theorem U36v : type_of% V36v.down := V36v.down
def x36v : XC := (.seq (.reg [a (.assign (.const (.slice .none 0 0))) 2]) x36v_s12)
theorem b36v : Bt 36 61 x36v [(.tmp 2)] := bt Try.func36 rfl (by kernel_rfl) (by kernel_rfl) (by kernel_rfl)
def x83_A0 : XC := (.reg [a (.alloc 34) 5,w 34 5 7])
def x83_G1 : XC := (.block 1 (.reg [c (.load 38 (t 2)) 8,l 34 5 9,a (.buildSlice 38 1 #[(0,(t 9))]) 10,b (.call ⟨(.builtin .append),#[(t 8),(t 10)],#[38,38]⟩) 11,w 38 2 11]))
def x83_s2 : XC := (.seq (.seq (.gh (.reg [m 1 6])) (.block 0 (.rga (t 6) 7 x83_A0 x83_G1))) (.seq (.reg [b (.load 38 (t 2)) 12,n 12 4]) .ret))
def V83 := PLift.up (aI (@unf _ _ x83_A0.eq_1) (aI (@unf _ _ x83_G1.eq_1) (@unf _ _ x83_s2.eq_1)))
theorem U83 : type_of% V83.down := V83.down
def x83 : XC := (.seq (.reg [a (.box 38 (t 0)) 2,a (.assign (.const (.slice .none 0 0))) 4]) x83_s2)
theorem b83 : Bt 83 13 x83 [(.tmp 4)] := bt Try.func83 rfl (by kernel_rfl) (by kernel_rfl) (by kernel_rfl)
def x71_s0 : XC := (.seq (.reg [m 0 3,b (.call ⟨(.builtin .println),#[(.func 83),(.const (.slice .none 0 0)),(t 3)],#[38,136]⟩) 4,n 4 2]) .ret)
theorem u71_s0 : type_of% (@unf _ _ x71_s0.eq_1) := unf x71_s0.eq_1
def x71 : XC := (.seq (.reg [a (.assign (.const (.slice .none 0 0))) 2]) x71_s0)
theorem b71 : Bt 71 5 x71 [(.tmp 2)] := bt Try.func71 rfl (by kernel_rfl) (by kernel_rfl) (by kernel_rfl)
end Go.Proofs.Ytffbjejmobhpkaa
end
section
namespace Go.Proofs.Ytffbjejmobhpkaa
open Go.Xs
open Go Go.Aw
def x55_s0 : XC := (.reg [f 111 3 0 26,l 101 26 27,f 64 5 0 28,l 34 28 29,s (.mapUpdate 101 (t 27) (t 29) (.const (.bool true)))])
theorem u55_s0 : type_of% (@unf _ _ x55_s0.eq_1) := unf x55_s0.eq_1
def x55_s1 : XC := (.seq (.block 1 (.seq (.reg [j 24 20 22 24,b (.load 64 (t 24)) 25,a (.alloc 64) 5,w 64 5 25]) x55_s0)) (.reg [a (.binOp .add 3 (t 22) (i 1) 3) 30,m 30 22]))
theorem u55_s1 : type_of% (@unf _ _ x55_s1.eq_1) := unf x55_s1.eq_1
def x55_L2 : XC := (.seq (.reg [a (.binOp .lss 3 (t 22) (t 21) 3) 23]) (.seq (.cond (t 23) .skip (.exit 0)) x55_s1))
theorem u55_L2 : type_of% (@unf _ _ x55_L2.eq_1) := unf x55_L2.eq_1
def x55_c3 : XC := (.reg [f 95 7 2 65,l 38 65 66,f 95 7 3 67,l 3 67 68,f 95 7 3 69,l 3 69 70,a (.binOp .add 3 (t 70) (i 1) 3) 71,b (.slice 38 (t 66) (.some (t 68)) (.some (t 71)) .none) 72,f 131 8 2 73,w 38 73 72])
theorem u55_c3 : type_of% (@unf _ _ x55_c3.eq_1) := unf x55_c3.eq_1
def x55_s4 : XC := (.gh (.reg [f 111 3 1 74,l 108 74 75,f 95 7 1 76,l 34 76 77,l 131 8 78,s (.mapUpdate 108 (t 75) (t 77) (t 78))]))
theorem u55_s4 : type_of% (@unf _ _ x55_s4.eq_1) := unf x55_s4.eq_1
def x55_s5 : XC := (.seq (.seq (.reg [f 95 7 3 54,l 3 54 55,a (.binOp .leq 3 (i 0) (t 55) 3) 56,m 56 57,g (.fieldAddr 95 (t 7) 3) 58 57 true,g (.load 3 (t 58)) 59 57 true,g (.fieldAddr 95 (t 7) 2) 60 57 true,g (.load 38 (t 60)) 61 57 true,g (.call ⟨(.builtin .len),#[(t 61)],#[38]⟩) 62 57 true,g (.binOp .lss 3 (t 59) (t 62) 3) 63 57 true,a (.pick (t 57) (t 63) (.const (.bool false))) 64]) (.cond (t 64) x55_c3 .skip)) x55_s4)
theorem u55_s5 : type_of% (@unf _ _ x55_s5.eq_1) := unf x55_s5.eq_1
def x55_s6 : XC := (.seq (.gh (.reg [f 131 8 1 47,c (.load 38 (t 47)) 48,f 95 7 2 49,l 38 49 50,b (.call ⟨(.builtin .append),#[(t 48),(t 50)],#[38,38]⟩) 51,f 131 8 1 52,w 38 52 51])) (.seq (.reg [f 131 8 2 53,s (.store 38 (t 53) (.const (.slice .none 0 0)))]) x55_s5))
theorem u55_s6 : type_of% (@unf _ _ x55_s6.eq_1) := unf x55_s6.eq_1
def x55_s7 : XC := (.seq (.reg [f 131 8 0 43,l 3 43 44,b (.binOp .add 3 (t 44) (i 1) 3) 45,f 131 8 0 46,w 3 46 45]) x55_s6)
theorem u55_s7 : type_of% (@unf _ _ x55_s7.eq_1) := unf x55_s7.eq_1
def x55_s8 : XC := (.seq (.reg [f 111 3 1 38,l 108 38 39,f 95 7 1 40,l 34 40 41,b (.call ⟨(.builtin .imag),#[(t 39),(t 41)],#[108]⟩) 42,a (.alloc 131) 8,w 131 8 42]) x55_s7)
theorem u55_s8 : type_of% (@unf _ _ x55_s8.eq_1) := unf x55_s8.eq_1
def x55_s9 : XC := (.seq (.block 3 (.seq (.reg [j 27 32 34 36,b (.load 95 (t 36)) 37,a (.alloc 95) 7,w 95 7 37]) x55_s8)) (.reg [a (.binOp .add 3 (t 34) (i 1) 3) 79,m 79 34]))
theorem u55_s9 : type_of% (@unf _ _ x55_s9.eq_1) := unf x55_s9.eq_1
def x55_L10 : XC := (.seq (.reg [a (.binOp .lss 3 (t 34) (t 33) 3) 35]) (.seq (.cond (t 35) .skip (.exit 2)) x55_s9))
theorem u55_L10 : type_of% (@unf _ _ x55_L10.eq_1) := unf x55_L10.eq_1
def x55_s11 : XC := (.gh (.reg [f 111 3 1 107,l 108 107 108,f 97 10 1 109,l 34 109 110,l 131 11 111,s (.mapUpdate 108 (t 108) (t 110) (t 111))]))
theorem u55_s11 : type_of% (@unf _ _ x55_s11.eq_1) := unf x55_s11.eq_1
def x55_s12 : XC := (.seq (.reg [f 97 10 2 103,l 34 103 104,b (.buildSlice 38 1 #[(0,(t 104))]) 105,f 131 11 2 106,w 38 106 105]) x55_s11)
theorem u55_s12 : type_of% (@unf _ _ x55_s12.eq_1) := unf x55_s12.eq_1
def x55_s13 : XC := (.seq (.gh (.reg [f 131 11 1 96,c (.load 38 (t 96)) 97,f 97 10 2 98,l 34 98 99,a (.buildSlice 38 1 #[(0,(t 99))]) 100,b (.call ⟨(.builtin .append),#[(t 97),(t 100)],#[38,38]⟩) 101,f 131 11 1 102,w 38 102 101])) x55_s12)
theorem u55_s13 : type_of% (@unf _ _ x55_s13.eq_1) := unf x55_s13.eq_1
def x55_s14 : XC := (.seq (.reg [f 131 11 0 92,l 3 92 93,b (.binOp .add 3 (t 93) (i 1) 3) 94,f 131 11 0 95,w 3 95 94]) x55_s13)
theorem u55_s14 : type_of% (@unf _ _ x55_s14.eq_1) := unf x55_s14.eq_1
def x55_s15 : XC := (.seq (.reg [f 111 3 1 87,l 108 87 88,f 97 10 1 89,l 34 89 90,b (.call ⟨(.builtin .imag),#[(t 88),(t 90)],#[108]⟩) 91,a (.alloc 131) 11,w 131 11 91]) x55_s14)
theorem u55_s15 : type_of% (@unf _ _ x55_s15.eq_1) := unf x55_s15.eq_1
def x55_s16 : XC := (.seq (.block 5 (.seq (.reg [j 28 81 83 85,b (.load 97 (t 85)) 86,a (.alloc 97) 10,w 97 10 86]) x55_s15)) (.reg [a (.binOp .add 3 (t 83) (i 1) 3) 112,m 112 83]))
theorem u55_s16 : type_of% (@unf _ _ x55_s16.eq_1) := unf x55_s16.eq_1
def x55_L17 : XC := (.seq (.reg [a (.binOp .lss 3 (t 83) (t 82) 3) 84]) (.seq (.cond (t 84) .skip (.exit 4)) x55_s16))
theorem u55_L17 : type_of% (@unf _ _ x55_L17.eq_1) := unf x55_L17.eq_1
def x55_c18 : XC := (.reg [f 111 3 2 134,l 109 134 135,l 133 14 136,f 99 13 3 138,l 34 138 139,a (.buildSlice 38 1 #[(0,(t 139))]) 140,a (.mapEntry 109 (t 135) (t 136)) 141,c (.extract (t 141) 0) 137,a (.call ⟨(.builtin .append),#[(t 137),(t 140)],#[38,38,0,0]⟩) 142,a (.extract (t 141) 1) 143,s (.call ⟨(.builtin .imag),#[(t 135),(t 143),(t 142)],#[109]⟩)])
theorem u55_c18 : type_of% (@unf _ _ x55_c18.eq_1) := unf x55_c18.eq_1
def x55_s19 : XC := (.seq (.regD [f 111 3 1 125,l 108 125 126,f 99 13 2 127,l 34 127 128,a (.lookup 108 (t 126) (t 128) false) 129,a (.field 131 (t 129) 1) 130,f 99 13 3 131,l 34 131 132,a (k 70 #[(t 130),(t 132)] #[38,34]) 133]) (.cond (t 133) x55_c18 .skip))
theorem u55_s19 : type_of% (@unf _ _ x55_s19.eq_1) := unf x55_s19.eq_1
def x55_s20 : XC := (.seq (.reg [f 99 13 1 120,l 34 120 121,f 99 13 2 122,l 34 122 123,b (.build 133 #[(0,(t 121)),(1,(t 123))]) 124,a (.alloc 133) 14,w 133 14 124]) x55_s19)
theorem u55_s20 : type_of% (@unf _ _ x55_s20.eq_1) := unf x55_s20.eq_1
def x55_s21 : XC := (.seq (.block 7 (.seq (.reg [j 29 114 116 118,b (.load 99 (t 118)) 119,a (.alloc 99) 13,w 99 13 119]) x55_s20)) (.reg [a (.binOp .add 3 (t 116) (i 1) 3) 144,m 144 116]))
theorem u55_s21 : type_of% (@unf _ _ x55_s21.eq_1) := unf x55_s21.eq_1
def x55_L22 : XC := (.seq (.reg [a (.binOp .lss 3 (t 116) (t 115) 3) 117]) (.seq (.cond (t 117) .skip (.exit 6)) x55_s21))
theorem u55_L22 : type_of% (@unf _ _ x55_L22.eq_1) := unf x55_L22.eq_1
def x55_s23 : XC := (.seq (.seq (.reg [f 31 1 6 113,l 29 113 114,e 29 114 115,a (.move (i 0)) 116]) (.block 6 (.loop x55_L22))) (.seq (.gh (.reg [b (.load 111 (t 3)) 145,w 111 2 145])) .ret))
theorem u55_s23 : type_of% (@unf _ _ x55_s23.eq_1) := unf x55_s23.eq_1
def x55_s24 : XC := (.seq (.seq (.reg [f 31 1 5 80,l 28 80 81,e 28 81 82,a (.move (i 0)) 83]) (.block 4 (.loop x55_L17))) x55_s23)
theorem u55_s24 : type_of% (@unf _ _ x55_s24.eq_1) := unf x55_s24.eq_1
def x55_s25 : XC := (.seq (.seq (.reg [f 31 1 4 31,l 27 31 32,e 27 32 33,a (.move (i 0)) 34]) (.block 2 (.loop x55_L10))) x55_s24)
theorem u55_s25 : type_of% (@unf _ _ x55_s25.eq_1) := unf x55_s25.eq_1
def x55_s26 : XC := (.seq (.seq (.reg [f 31 1 1 19,l 24 19 20,e 24 20 21,a (.move (i 0)) 22]) (.block 0 (.loop x55_L2))) x55_s25)
theorem u55_s26 : type_of% (@unf _ _ x55_s26.eq_1) := unf x55_s26.eq_1
def x55_s27 : XC := (.seq (.reg [a (.makeMap 101 .none) 15,a (.makeMap 108 .none) 16,a (.makeMap 109 .none) 17,b (.build 111 #[(0,(t 15)),(1,(t 16)),(2,(t 17))]) 18,a (.alloc 111) 3,w 111 3 18]) x55_s26)
theorem u55_s27 : type_of% (@unf _ _ x55_s27.eq_1) := unf x55_s27.eq_1
def V55 := PLift.up (aI (aI (aI (aI (@u55_s0) (aI (@u55_s1) (@u55_L2))) (aI (aI (@u55_c3) (@u55_s4)) (aI (@u55_s5) (@u55_s6)))) (aI (aI (@u55_s7) (aI (@u55_s8) (@u55_s9))) (aI (aI (@u55_L10) (@u55_s11)) (aI (@u55_s12) (@u55_s13))))) (aI (aI (aI (@u55_s14) (aI (@u55_s15) (@u55_s16))) (aI (aI (@u55_L17) (@u55_c18)) (aI (@u55_s19) (@u55_s20)))) (aI (aI (@u55_s21) (aI (@u55_L22) (@u55_s23))) (aI (aI (@u55_s24) (@u55_s25)) (aI (@u55_s26) (@u55_s27))))))
theorem U55 : type_of% V55.down := V55.down
def x55 : XC := (.seq (.reg [a (.box 31 (t 0)) 1,a (.alloc 111) 2]) x55_s27)
theorem b55 : Bt 55 146 x55 [(.cell 2 111)] := bt Try.func55 rfl (by kernel_rfl) (by kernel_rfl) (by kernel_rfl)
def x56_c0 : XC := (.seq (.regT [6,7] [([b (.build 34 #[]) 30,b (.load 34 (t 10)) 31],w 34 6 30,false),([],w 34 7 31,true)] [] [a (.assign (i 14)) 8]) .ret)
def x56_c1 : XC := (.seq (.regT [6,7] [([b (.build 34 #[]) 41,b (.load 34 (t 10)) 42,b (.move (t 12)) 43],w 34 6 41,false),([],w 34 7 42,true)] [] [n 43 8]) .ret)
def x56_s2 : XC := (.seq (.regT [6,7] [([m 13 51,b (k 75 #[(t 51),(.func 76)] #[38,80]) 52,b (.load 34 (t 10)) 53],w 34 6 52,false),([],w 34 7 53,true)] [] [a (.assign (i 0)) 8]) .ret)
def x56_s3 : XC := (.seq (.reg [m 9 44,m 9 45,m 11 46,a (.indexAddr 38 (t 46) (i 0)) 47,l 34 47 48,a (k 74 #[(t 45),(t 48)] #[38,34]) 49,b (.slice 38 (t 44) (.some (t 49)) .none .none) 50,n 50 13]) x56_s2)
def x56_s4 : XC := (.seq (.seq (.reg [m 12 39,a (.binOp .neq 89 (t 39) (i 0) 89) 40]) (.cond (t 40) x56_c1 .skip)) x56_s3)
def x56_s5 : XC := (.seq (.reg [l 111 3 33,l 34 4 34,l 34 10 35,a (k 73 #[(t 33),(t 34),(t 35)] #[111,34,34]) 36,m 36 32,b (.extract (t 32) 0) 37,b (.extract (t 32) 1) 38,n 37 11,n 38 12]) x56_s4)
def x56_s6 : XC := (.seq (.seq (.reg [f 111 3 0 25,l 101 25 26,l 34 10 27,a (.lookup 101 (t 26) (t 27) false) 28,a (.unOp .not 4 (t 28)) 29]) (.cond (t 29) x56_c0 .skip)) x56_s5)
def x56_s7 : XC := (.seq (.reg [m 9 19,m 9 20,e 38 20 21,a (.binOp .sub 3 (t 21) (i 1) 3) 22,j 38 19 22 23,b (.load 34 (t 23)) 24,a (.alloc 34) 10,w 34 10 24]) x56_s6)
def x56_s8 : XC := (.seq (.reg [l 111 3 14,l 34 4 15,l 34 5 16,a (k 72 #[(t 14),(t 15),(t 16)] #[111,34,34]) 17,b (k 71 #[(t 17)] #[136]) 18,n 18 9]) x56_s7)
def V56 := PLift.up (aI (aI (aI (@unf _ _ x56_c0.eq_1) (@unf _ _ x56_c1.eq_1)) (aI (@unf _ _ x56_s2.eq_1) (@unf _ _ x56_s3.eq_1))) (aI (aI (@unf _ _ x56_s4.eq_1) (@unf _ _ x56_s5.eq_1)) (aI (@unf _ _ x56_s6.eq_1) (aI (@unf _ _ x56_s7.eq_1) (@unf _ _ x56_s8.eq_1)))))
theorem U56 : type_of% V56.down := V56.down
def x56 : XC := (.seq (.reg [a (.box 111 (t 0)) 3,a (.box 34 (t 1)) 4,a (.box 34 (t 2)) 5,a (.alloc 34) 6,a (.alloc 34) 7,a (.assign (i 0)) 8]) x56_s8)
theorem b56 : Bt 56 54 x56 [(.cell 6 34),(.cell 7 34),(.tmp 8)] := bt Try.func56 rfl (by kernel_rfl) (by kernel_rfl) (by kernel_rfl)
def x72 : XC := (.seq (.reg [a (.box 111 (t 0)) 3,a (.box 34 (t 1)) 4,a (.box 34 (t 2)) 5,a (.assign (.const .nilFunc)) 6]) (.seq (.reg [b (.makeFunc (.func 84) #[] #[(t 5),(t 3),(t 4)]) 7,n 7 6]) .ret))
theorem r72 {args : List D} {H : AH} {R : D → AH → Prop} (h : facts args → xcode Try.prog x72 (args ++ List.replicate (8 - args.length) (.tup [])) H (retR Try.prog [(.tmp 6)] R)) : ACall Try.prog 72 args H R :=
 xcall_bodyR hm Try.func72 rfl (by kernel_rfl) (by kernel_rfl) (by kernel_rfl) (by kernel_rfl) (by kernel_rfl) (by kernel_rfl) h
def x73_s0 : XC := (.cond (t 16) (.seq (.reg [l 34 5 17,b (.buildSlice 38 1 #[(0,(t 17))]) 18,n 18 6,a (.assign (i 0)) 7]) .ret) .skip)
def x73_c1 : XC := (.seq (.reg [f 131 8 2 46,l 38 46 47,b (k 42 #[(t 47)] #[38]) 48,n 48 6,a (.assign (i 0)) 7]) .ret)
def x73_c2 : XC := (.seq (.reg [f 131 8 0 37,l 3 37 38,a (.binOp .eql 3 (t 38) (i 1) 3) 39,m 39 40,g (.fieldAddr 131 (t 8) 2) 41 40 true,g (.load 38 (t 41)) 42 40 true,g (.call ⟨(.builtin .len),#[(t 42)],#[38]⟩) 43 40 true,g (.binOp .eql 3 (t 43) (i 1) 3) 44 40 true,b (.pick (t 40) (t 44) (.const (.bool false))) 45,n 45 36]) (.cond (t 36) x73_c1 .skip))
def x73_s3 : XC := (.cond (t 31) (.seq (.reg [b (.move (t 9)) 35,n 35 6,a (.assign (i 15)) 7]) .ret) x73_c2)
def x73_s4 : XC := (.cond (t 26) (.seq (.reg [b (.move (t 9)) 30,n 30 6,a (.assign (i 0)) 7]) .ret) (.seq (.reg [m 9 32,e 38 32 33,b (.binOp .gtr 3 (t 33) (i 1) 3) 34,n 34 31]) x73_s3))
def x73_s5 : XC := (.block 0 (.seq (.reg [m 9 27,e 38 27 28,b (.binOp .eql 3 (t 28) (i 1) 3) 29,n 29 26]) x73_s4))
def x73_s6 : XC := (.seq (.reg [f 131 8 1 49,l 38 49 50,b (k 85 #[(t 50)] #[38]) 51,n 51 6,a (.assign (i 15)) 7]) .ret)
def x73_s7 : XC := (.seq (.seq (.reg [f 111 3 2 19,l 109 19 20,l 34 4 21,l 34 5 22,a (.build 133 #[(0,(t 21)),(1,(t 22))]) 23,a (.lookup 109 (t 20) (t 23) false) 24,b (k 85 #[(t 24)] #[38]) 25,n 25 9]) x73_s5) x73_s6)
def x73_s8 : XC := (.seq (.seq (.reg [f 131 8 0 14,l 3 14 15,a (.binOp .eql 3 (t 15) (i 0) 3) 16]) x73_s0) x73_s7)
def x73_s9 : XC := (.seq (.reg [f 111 3 1 10,l 108 10 11,l 34 5 12,b (.lookup 108 (t 11) (t 12) false) 13,a (.alloc 131) 8,w 131 8 13]) x73_s8)
def V73 := PLift.up (aI (aI (aI (@unf _ _ x73_s0.eq_1) (@unf _ _ x73_c1.eq_1)) (aI (@unf _ _ x73_c2.eq_1) (aI (@unf _ _ x73_s3.eq_1) (@unf _ _ x73_s4.eq_1)))) (aI (aI (@unf _ _ x73_s5.eq_1) (@unf _ _ x73_s6.eq_1)) (aI (@unf _ _ x73_s7.eq_1) (aI (@unf _ _ x73_s8.eq_1) (@unf _ _ x73_s9.eq_1)))))
theorem U73 : type_of% V73.down := V73.down
def x73 : XC := (.seq (.reg [a (.box 111 (t 0)) 3,a (.box 34 (t 1)) 4,a (.box 34 (t 2)) 5,a (.assign (.const (.slice .none 0 0))) 6,a (.assign (i 0)) 7]) x73_s9)
theorem b73 : Bt 73 52 x73 [(.tmp 6),(.tmp 7)] := bt Try.func73 rfl (by kernel_rfl) (by kernel_rfl) (by kernel_rfl)
def x84_s0 : XC := (.reg [m 6 36,a (.indexAddr 38 (t 36) (i 0)) 37,b (.load 34 (t 37)) 38,w 34 1 38])
def x84_s1 : XC := (.seq (.seq (.reg [m 7 27,a (.binOp .neq 89 (t 27) (i 0) 89) 28,m 28 29,g (.fieldAddr 111 (t 2) 0) 30 29 false,g (.load 101 (t 30)) 31 29 false,g (.load 34 (t 1)) 32 29 false,g (.lookup 101 (t 31) (t 32) false) 33 29 false,g (.unOp .not 4 (t 33)) 34 29 false,a (.pick (t 29) (.const (.bool true)) (t 34)) 35]) (.cond (t 35) .ret .skip)) x84_s0)
def x84_s2 : XC := (.seq (.reg [l 111 2 21,l 34 3 22,l 34 1 23,a (k 73 #[(t 21),(t 22),(t 23)] #[111,34,34]) 24,m 24 20,b (.extract (t 20) 0) 25,b (.extract (t 20) 1) 26,n 25 6,n 26 7]) x84_s1)
def x84_s3 : XC := (.block 1 (.seq (.reg [m 5 18,l 34 1 19,s (.mapUpdate 101 (t 18) (t 19) (.const (.bool true)))]) x84_s2))
def x84_L4 : XC := (.seq (.seq (.regY [m 5 9,l 34 1 10,a (.lookup 101 (t 9) (t 10) false) 11,a (.unOp .not 4 (t 11)) 12,m 12 13,g (.move (t 0)) 14 13 true,g (.load 34 (t 1)) 15 13 true] (g (.call ⟨(.value (t 14)),#[(t 15)],#[34]⟩) 16 13 true) [a (.pick (t 13) (t 16) (.const (.bool false))) 17]) (.cond (t 17) .skip (.exit 0))) x84_s3)
def V84 := PLift.up (aI (aI (@unf _ _ x84_s0.eq_1) (@unf _ _ x84_s1.eq_1)) (aI (@unf _ _ x84_s2.eq_1) (aI (@unf _ _ x84_s3.eq_1) (@unf _ _ x84_L4.eq_1))))
theorem U84 : type_of% V84.down := V84.down
def x84 : XC := (.seq (.reg [b (.makeMap 101 .none) 8,n 8 5]) (.block 0 (.loop x84_L4)))
theorem b84 : Bt 84 39 x84 [] := bt Try.func84 rfl (by kernel_rfl) (by kernel_rfl) (by kernel_rfl)
def x50_s0 : XC := (.seq (.reg [b (.load 34 (t 8)) 20,b (.move (t 10)) 21,w 34 6 20,n 21 7]) .ret)
def x50_s1 : XC := (.seq (.regT [] [([l 31 3 12,a (k 55 #[(t 12)] #[31]) 13,l 34 4 14,l 34 5 15,a (k 56 #[(t 13),(t 14),(t 15)] #[111,34,34]) 16,m 16 11,b (.extract (t 11) 0) 17,b (.extract (t 11) 1) 18,b (.extract (t 11) 2) 19],a (.alloc 34) 8,false),([],a (.alloc 34) 9,false),([],w 34 8 17,false),([],w 34 9 18,true)] [] [n 19 10]) x50_s0)
def V50 := PLift.up (aI (@unf _ _ x50_s0.eq_1) (@unf _ _ x50_s1.eq_1))
theorem U50 : type_of% V50.down := V50.down
def x50 : XC := (.seq (.reg [a (.box 31 (t 0)) 3,a (.box 34 (t 1)) 4,a (.box 34 (t 2)) 5,a (.alloc 34) 6,a (.assign (i 0)) 7]) x50_s1)
theorem b50 : Bt 50 22 x50 [(.cell 6 34),(.tmp 7)] := bt Try.func50 rfl (by kernel_rfl) (by kernel_rfl) (by kernel_rfl)
end Go.Proofs.Ytffbjejmobhpkaa
end
section
namespace Go.Proofs.Ytffbjejmobhpkaa
open Go.Xs
open Go Go.Aw
def x48_s0 : XC := (.cond (t 46) (.reg [f 56 8 2 47,b (.load 37 (t 47)) 48,w 37 9 48]) .skip)
def x48_s1 : XC := (.reg [m 3 49,f 54 6 0 50,l 34 50 51,f 37 9 0 52,l 3 52 53,f 56 8 2 54,f 37 54 0 55,l 3 55 56,a (.call ⟨(.builtin .min),#[(t 53),(t 56)],#[3,3]⟩) 57,f 37 9 1 58,l 3 58 59,f 56 8 2 60,f 37 60 1 61,l 3 61 62,a (.call ⟨(.builtin .max),#[(t 59),(t 62)],#[3,3]⟩) 63,a (.build 37 #[(0,(t 57)),(1,(t 63))]) 64,s (.mapUpdate 87 (t 49) (t 51) (t 64))])
def x48_s2 : XC := (.seq (.reg [m 3 39,f 54 6 0 40,l 34 40 41,a (.lookup 87 (t 39) (t 41) true) 42,m 42 38,b (.extract (t 38) 0) 43,b (.extract (t 38) 1) 44,a (.alloc 37) 9,w 37 9 43,n 44 10]) (.seq (.seq (.reg [m 10 45,a (.unOp .not 4 (t 45)) 46]) x48_s0) x48_s1))
def x48_s3 : XC := (.seq (.seq (.reg [f 56 8 2 34,l 37 34 35,a (k 29 #[(t 35)] #[37]) 36,a (.unOp .not 4 (t 36)) 37]) (.cond (t 37) (.exit 3) .skip)) x48_s2)
def x48_s4 : XC := (.seq (.block 3 (.seq (.reg [j 52 28 30 32,b (.load 56 (t 32)) 33,a (.alloc 56) 8,w 56 8 33]) x48_s3)) (.reg [a (.binOp .add 3 (t 30) (i 1) 3) 65,m 65 30]))
def x48_L5 : XC := (.seq (.reg [a (.binOp .lss 3 (t 30) (t 29) 3) 31]) (.seq (.cond (t 31) .skip (.exit 2)) x48_s4))
def x48_s6 : XC := (.seq (.reg [f 54 6 3 27,l 52 27 28,e 52 28 29,a (.move (i 0)) 30]) (.block 2 (.loop x48_L5)))
def x48_s7 : XC := (.seq (.reg [m 4 24,f 54 6 0 25,l 34 25 26,s (.mapUpdate 101 (t 24) (t 26) (.const (.bool true)))]) x48_s6)
def x48_s8 : XC := (.seq (.seq (.reg [m 4 20,f 54 6 0 21,l 34 21 22,a (.lookup 101 (t 20) (t 22) false) 23]) (.cond (t 23) (.exit 1) .skip)) x48_s7)
def x48_s9 : XC := (.seq (.block 1 (.seq (.reg [j 25 14 16 18,b (.load 54 (t 18)) 19,a (.alloc 54) 6,w 54 6 19]) x48_s8)) (.reg [a (.binOp .add 3 (t 16) (i 1) 3) 66,m 66 16]))
def x48_L10 : XC := (.seq (.reg [a (.binOp .lss 3 (t 16) (t 15) 3) 17]) (.seq (.cond (t 17) .skip (.exit 0)) x48_s9))
def x48_s11 : XC := (.seq (.seq (.reg [f 31 1 2 13,l 25 13 14,e 25 14 15,a (.move (i 0)) 16]) (.block 0 (.loop x48_L10))) (.seq (.gh (.reg [b (.move (t 3)) 67,n 67 2])) .ret))
def x48_s12 : XC := (.seq (.reg [b (.makeMap 87 .none) 11,n 11 3]) (.seq (.reg [b (.makeMap 101 .none) 12,n 12 4]) x48_s11))
def V48 := PLift.up (aI (aI (aI (@unf _ _ x48_s0.eq_1) (aI (@unf _ _ x48_s1.eq_1) (@unf _ _ x48_s2.eq_1))) (aI (@unf _ _ x48_s3.eq_1) (aI (@unf _ _ x48_s4.eq_1) (@unf _ _ x48_L5.eq_1)))) (aI (aI (@unf _ _ x48_s6.eq_1) (aI (@unf _ _ x48_s7.eq_1) (@unf _ _ x48_s8.eq_1))) (aI (aI (@unf _ _ x48_s9.eq_1) (@unf _ _ x48_L10.eq_1)) (aI (@unf _ _ x48_s11.eq_1) (@unf _ _ x48_s12.eq_1)))))
theorem U48 : type_of% V48.down := V48.down
def x48 : XC := (.seq (.reg [a (.box 31 (t 0)) 1,a (.assign (.const (.map .none))) 2]) x48_s12)
theorem b48 : Bt 48 68 x48 [(.tmp 2)] := bt Try.func48 rfl (by kernel_rfl) (by kernel_rfl) (by kernel_rfl)
def x32_s0 : XC := (.reg [m 5 58,f 72 8 1 59,l 34 59 60,m 14 61,a (.binOp .neq 89 (t 61) (i 0) 89) 62,s (.mapUpdate 101 (t 58) (t 60) (t 62))])
def x32_s1 : XC := (.seq (.reg [m 4 54,f 72 8 1 55,l 34 55 56,l 34 13 57,s (.mapUpdate 100 (t 54) (t 56) (t 57))]) x32_s0)
def x32_c2 : XC := (.seq (.reg [l 31 1 47,a (.build 34 #[]) 48,f 72 8 1 49,l 34 49 50,a (k 50 #[(t 47),(t 48),(t 50)] #[31,34,34]) 51,m 51 46,b (.extract (t 46) 0) 52,b (.extract (t 46) 1) 53,a (.alloc 34) 13,w 34 13 52,n 53 14]) x32_s1)
def x32_s3 : XC := (.reg [m 6 72,l 34 15 73,f 72 8 0 75,l 34 75 76,l 37 9 77,a (.build 78 #[(0,(t 76)),(1,(t 77))]) 78,a (.buildSlice 73 1 #[(0,(t 78))]) 79,a (.mapEntry 74 (t 72) (t 73)) 80,c (.extract (t 80) 0) 74,a (.call ⟨(.builtin .append),#[(t 74),(t 79)],#[73,73,0,0]⟩) 81,a (.extract (t 80) 1) 82,s (.call ⟨(.builtin .imag),#[(t 72),(t 82),(t 81)],#[74]⟩)])
def x32_c4 : XC := (.seq (.reg [m 4 68,f 72 8 1 69,l 34 69 70,b (.lookup 100 (t 68) (t 70) false) 71,a (.alloc 34) 15,w 34 15 71]) x32_s3)
def x32_s5 : XC := (.seq (.reg [m 5 63,f 72 8 1 64,l 34 64 65,a (.lookup 101 (t 63) (t 65) false) 66,a (.unOp .not 4 (t 66)) 67]) (.cond (t 67) x32_c4 .skip))
def x32_s6 : XC := (.seq (.seq (.reg [m 4 38,f 72 8 1 39,l 34 39 40,a (.lookup 100 (t 38) (t 40) true) 41,m 41 37,b (.extract (t 37) 0) 42,b (.extract (t 37) 1) 43,a (.alloc 34) 11,w 34 11 42,n 43 12]) (.seq (.reg [m 12 44,a (.unOp .not 4 (t 44)) 45]) (.cond (t 45) x32_c2 .skip))) x32_s5)
def x32_s7 : XC := (.seq (.reg [m 3 29,f 72 8 2 30,l 34 30 31,a (.lookup 87 (t 29) (t 31) true) 32,m 32 28,b (.extract (t 28) 0) 33,b (.extract (t 28) 1) 34,a (.alloc 37) 9,w 37 9 33,n 34 10]) (.seq (.seq (.reg [m 10 35,a (.unOp .not 4 (t 35)) 36]) (.cond (t 36) (.exit 1) .skip)) x32_s6))
def x32_s8 : XC := (.seq (.block 1 (.seq (.reg [j 26 22 24 26,b (.load 72 (t 26)) 27,a (.alloc 72) 8,w 72 8 27]) x32_s7)) (.reg [a (.binOp .add 3 (t 24) (i 1) 3) 83,m 83 24]))
def x32_L9 : XC := (.seq (.reg [a (.binOp .lss 3 (t 24) (t 23) 3) 25]) (.seq (.cond (t 25) .skip (.exit 0)) x32_s8))
def x32_s10 : XC := (.seq (.seq (.reg [f 31 1 3 21,l 26 21 22,e 26 22 23,a (.move (i 0)) 24]) (.block 0 (.loop x32_L9))) (.seq (.gh (.reg [b (.move (t 6)) 84,n 84 2])) .ret))
def x32_s11 : XC := (.seq (.reg [b (.makeMap 101 .none) 19,n 19 5]) (.seq (.reg [b (.makeMap 74 .none) 20,n 20 6]) x32_s10))
def x32_s12 : XC := (.seq (.reg [l 31 1 16,b (k 48 #[(t 16)] #[31]) 17,n 17 3]) (.seq (.reg [b (.makeMap 100 .none) 18,n 18 4]) x32_s11))
def V32 := PLift.up (aI (aI (aI (@unf _ _ x32_s0.eq_1) (aI (@unf _ _ x32_s1.eq_1) (@unf _ _ x32_c2.eq_1))) (aI (@unf _ _ x32_s3.eq_1) (aI (@unf _ _ x32_c4.eq_1) (@unf _ _ x32_s5.eq_1)))) (aI (aI (@unf _ _ x32_s6.eq_1) (aI (@unf _ _ x32_s7.eq_1) (@unf _ _ x32_s8.eq_1))) (aI (aI (@unf _ _ x32_L9.eq_1) (@unf _ _ x32_s10.eq_1)) (aI (@unf _ _ x32_s11.eq_1) (@unf _ _ x32_s12.eq_1)))))
theorem U32 : type_of% V32.down := V32.down
def x32 : XC := (.seq (.reg [a (.box 31 (t 0)) 1,a (.assign (.const (.map .none))) 2]) x32_s12)
theorem b32 : Bt 32 85 x32 [(.tmp 2)] := bt Try.func32 rfl (by kernel_rfl) (by kernel_rfl) (by kernel_rfl)
def x33_s0 : XC := (.cond (t 9) (.seq (.reg [b (.build 37 #[]) 10,w 37 2 10,a (.assign (.const (.bool false))) 3]) .ret) .skip)
def x33_s1 : XC := (.reg [f 37 4 0 21,l 3 21 22,f 78 6 1 23,f 37 23 0 24,l 3 24 25,a (.call ⟨(.builtin .min),#[(t 22),(t 25)],#[3,3]⟩) 26,f 37 4 1 27,l 3 27 28,f 78 6 1 29,f 37 29 1 30,l 3 30 31,a (.call ⟨(.builtin .min),#[(t 28),(t 31)],#[3,3]⟩) 32,b (.build 37 #[(0,(t 26)),(1,(t 32))]) 33,w 37 4 33])
def x33_s2 : XC := (.seq (.block 1 (.seq (.reg [j 73 15 17 19,b (.load 78 (t 19)) 20,a (.alloc 78) 6,w 78 6 20]) x33_s1)) (.reg [a (.binOp .add 3 (t 17) (i 1) 3) 34,m 34 17]))
def x33_L3 : XC := (.seq (.reg [a (.binOp .lss 3 (t 17) (t 16) 3) 18]) (.seq (.cond (t 18) .skip (.exit 0)) x33_s2))
def x33_s4 : XC := (.seq (.reg [b (.load 37 (t 4)) 35,w 37 2 35,a (.assign (.const (.bool true))) 3]) .ret)
def x33_s5 : XC := (.seq (.seq (.reg [m 0 15,e 73 15 16,a (.move (i 0)) 17]) (.block 0 (.loop x33_L3))) x33_s4)
def x33_s6 : XC := (.seq (.reg [m 0 11,a (.indexAddr 73 (t 11) (i 0)) 12,f 78 12 1 13,b (.load 37 (t 13)) 14,a (.alloc 37) 4,w 37 4 14]) x33_s5)
def x33_s7 : XC := (.seq (.seq (.reg [m 0 7,e 73 7 8,a (.binOp .eql 3 (t 8) (i 0) 3) 9]) x33_s0) x33_s6)
def V33 := PLift.up (aI (aI (aI (@unf _ _ x33_s0.eq_1) (@unf _ _ x33_s1.eq_1)) (aI (@unf _ _ x33_s2.eq_1) (@unf _ _ x33_L3.eq_1))) (aI (aI (@unf _ _ x33_s4.eq_1) (@unf _ _ x33_s5.eq_1)) (aI (@unf _ _ x33_s6.eq_1) (@unf _ _ x33_s7.eq_1))))
theorem U33 : type_of% V33.down := V33.down
def x33 : XC := (.seq (.reg [a (.alloc 37) 2,a (.assign (.const (.bool false))) 3]) x33_s7)
theorem b33 : Bt 33 36 x33 [(.cell 2 37),(.tmp 3)] := bt Try.func33 rfl (by kernel_rfl) (by kernel_rfl) (by kernel_rfl)
def x11_c0 : XC := (.reg [c (.move (t 10)) 34,f 78 12 0 35,l 34 35 36,a (.buildSlice 38 1 #[(0,(t 36))]) 37,b (.call ⟨(.builtin .append),#[(t 34),(t 37)],#[38,38,0]⟩) 38,n 38 10])
def x11_s1 : XC := (.seq (.reg [f 78 12 1 28,f 37 28 0 29,l 3 29 30,f 37 8 1 31,l 3 31 32,a (.binOp .leq 3 (t 30) (t 32) 3) 33]) (.cond (t 33) x11_c0 .skip))
def x11_s2 : XC := (.seq (.block 1 (.seq (.reg [j 73 22 24 26,b (.load 78 (t 26)) 27,a (.alloc 78) 12,w 78 12 27]) x11_s1)) (.reg [a (.binOp .add 3 (t 24) (i 1) 3) 39,m 39 24]))
def x11_L3 : XC := (.seq (.reg [a (.binOp .lss 3 (t 24) (t 23) 3) 25]) (.seq (.cond (t 25) .skip (.exit 0)) x11_s2))
def x11_s4 : XC := (.seq (.regT [4,10] [([b (.load 37 (t 8)) 42,m 10 43],b (k 36 #[(t 43)] #[38]) 44,false),([b (.move (t 9)) 45],w 37 4 42,true)] [n 44 5] [n 45 6]) (.gh .ret))
def x11_s5 : XC := (.seq (.seq (.reg [m 7 22,e 73 22 23,a (.move (i 0)) 24]) (.block 0 (.loop x11_L3))) (.seq (.gh (.reg [m 10 40,a (k 34 #[(t 40),(.func 35)] #[38,80]) 41])) x11_s4))
def x11_s6 : XC := (.seq (.reg [m 7 18,a (k 33 #[(t 18)] #[73]) 19,m 19 17,b (.extract (t 17) 0) 20,b (.extract (t 17) 1) 21,a (.alloc 37) 8,w 37 8 20,n 21 9]) (.seq (.reg [a (.assign (.const (.slice .none 0 0))) 10]) x11_s5))
def x11_s7 : XC := (.seq (.regD [l 31 2 13,a (k 32 #[(t 13)] #[31]) 14,l 34 3 15,b (.lookup 74 (t 14) (t 15) false) 16,n 16 7]) x11_s6)
def V11 := PLift.up (aI (aI (aI (@unf _ _ x11_c0.eq_1) (@unf _ _ x11_s1.eq_1)) (aI (@unf _ _ x11_s2.eq_1) (@unf _ _ x11_L3.eq_1))) (aI (aI (@unf _ _ x11_s4.eq_1) (@unf _ _ x11_s5.eq_1)) (aI (@unf _ _ x11_s6.eq_1) (@unf _ _ x11_s7.eq_1))))
theorem U11 : type_of% V11.down := V11.down
def x11 : XC := (.seq (.reg [a (.box 31 (t 0)) 2,a (.box 34 (t 1)) 3,a (.alloc 37) 4,a (.assign (.const (.slice .none 0 0))) 5,a (.assign (.const (.bool false))) 6]) x11_s7)
theorem b11 : Bt 11 46 x11 [(.cell 4 37),(.tmp 5),(.tmp 6)] := bt Try.func11 rfl (by kernel_rfl) (by kernel_rfl) (by kernel_rfl)
def x15_s0 : XC := (.seq (.regD [m 9 18,m 18 19,g (.fieldAddr 37 (t 8) 1) 20 19 true,g (.load 3 (t 20)) 21 19 true,g (.move (t 2)) 22 19 true,g (.binOp .leq 3 (t 21) (t 22) 3) 23 19 true,b (.pick (t 19) (t 23) (.const (.bool false))) 24,m 9 25,m 25 26,g (.fieldAddr 37 (t 8) 0) 27 26 true,g (.load 3 (t 27)) 28 26 true,g (.move (t 2)) 29 26 true,g (.binOp .leq 3 (t 28) (t 29) 3) 30 26 true,b (.pick (t 26) (t 30) (.const (.bool false))) 31,n 24 6,n 31 7]) .ret)
def x15_s1 : XC := (.seq (.regT [] [([l 31 3 11,a (k 32 #[(t 11)] #[31]) 12,l 34 4 13,a (.lookup 74 (t 12) (t 13) false) 14,a (k 33 #[(t 14)] #[73]) 15,m 15 10,b (.extract (t 10) 0) 16,b (.extract (t 10) 1) 17],a (.alloc 37) 8,false),([],w 37 8 16,false)] [] [n 17 9]) x15_s0)
def V15 := PLift.up (aI (@unf _ _ x15_s0.eq_1) (@unf _ _ x15_s1.eq_1))
theorem U15 : type_of% V15.down := V15.down
def x15 : XC := (.seq (.reg [a (.box 31 (t 0)) 3,a (.box 34 (t 1)) 4,a (.assign (.const (.bool false))) 6,a (.assign (.const (.bool false))) 7]) x15_s1)
theorem b15 : Bt 15 32 x15 [(.tmp 6),(.tmp 7)] := bt Try.func15 rfl (by kernel_rfl) (by kernel_rfl) (by kernel_rfl)
def x19_s0 : XC := (.seq (.reg [m 9 28,m 28 29,g (.move (t 11)) 30 29 true,a (.pick (t 29) (t 30) (.const (.bool false))) 31,m 31 32,g (.fieldAddr 37 (t 8) 1) 33 32 true,g (.load 3 (t 33)) 34 32 true,g (.fieldAddr 37 (t 10) 0) 35 32 true,g (.load 3 (t 35)) 36 32 true,g (.binOp .lss 3 (t 34) (t 36) 3) 37 32 true,b (.pick (t 32) (t 37) (.const (.bool false))) 38,n 38 6]) .ret)
def x19_s1 : XC := (.seq (.reg [m 7 22,l 34 5 23,a (.lookup 74 (t 22) (t 23) false) 24,a (k 33 #[(t 24)] #[73]) 25,m 25 21,b (.extract (t 21) 0) 26,b (.extract (t 21) 1) 27,a (.alloc 37) 10,w 37 10 26,n 27 11]) x19_s0)
def x19_s2 : XC := (.seq (.reg [m 7 15,l 34 4 16,a (.lookup 74 (t 15) (t 16) false) 17,a (k 33 #[(t 17)] #[73]) 18,m 18 14,b (.extract (t 14) 0) 19,b (.extract (t 14) 1) 20,a (.alloc 37) 8,w 37 8 19,n 20 9]) x19_s1)
def x19_s3 : XC := (.seq (.reg [l 31 3 12,b (k 32 #[(t 12)] #[31]) 13,n 13 7]) x19_s2)
def V19 := PLift.up (aI (aI (@unf _ _ x19_s0.eq_1) (@unf _ _ x19_s1.eq_1)) (aI (@unf _ _ x19_s2.eq_1) (@unf _ _ x19_s3.eq_1)))
theorem U19 : type_of% V19.down := V19.down
def x19 : XC := (.seq (.reg [a (.box 31 (t 0)) 3,a (.box 34 (t 1)) 4,a (.box 34 (t 2)) 5,a (.assign (.const (.bool false))) 6]) x19_s3)
theorem b19 : Bt 19 39 x19 [(.tmp 6)] := bt Try.func19 rfl (by kernel_rfl) (by kernel_rfl) (by kernel_rfl)
def x21_s0 : XC := (.seq (.reg [m 6 14,b (k 36 #[(t 14)] #[38]) 15,n 15 4]) .ret)
def x21_s1 : XC := (.seq (.gh (.reg [m 6 11,a (.makeFunc (.func 43) #[] #[(t 5)]) 12,a (k 34 #[(t 11),(t 12)] #[38,80]) 13])) x21_s0)
def x21_s2 : XC := (.seq (.reg [m 1 9,b (k 42 #[(t 9)] #[38]) 10,n 10 6]) x21_s1)
def x21_s3 : XC := (.seq (.reg [l 31 2 7,b (k 32 #[(t 7)] #[31]) 8,a (.alloc 74) 5,w 74 5 8]) x21_s2)
def V21 := PLift.up (aI (aI (@unf _ _ x21_s0.eq_1) (@unf _ _ x21_s1.eq_1)) (aI (@unf _ _ x21_s2.eq_1) (@unf _ _ x21_s3.eq_1)))
theorem U21 : type_of% V21.down := V21.down
def x21 : XC := (.seq (.reg [a (.box 31 (t 0)) 2,a (.assign (.const (.slice .none 0 0))) 4]) x21_s3)
theorem b21 : Bt 21 16 x21 [(.tmp 4)] := bt Try.func21 rfl (by kernel_rfl) (by kernel_rfl) (by kernel_rfl)
def x43_s0 : XC := (.cond (t 26) (.seq (.seq (.reg [m 7 27]) (.cond (t 27) (.seq (.reg [a (.assign (i (-1))) 5]) .ret) .skip)) (.seq (.reg [a (.assign (i 1)) 5]) .ret)) .skip)
def x43_s1 : XC := (.seq (.regD [f 37 6 0 28,l 3 28 29,f 37 8 0 30,l 3 30 31,a (k 45 #[(t 29),(t 31)] #[3,3]) 32,f 37 6 1 33,l 3 33 34,f 37 8 1 35,l 3 35 36,a (k 45 #[(t 34),(t 36)] #[3,3]) 37,l 34 3 38,l 34 4 39,a (k 35 #[(t 38),(t 39)] #[34,34]) 40,a (.buildSlice 22 3 #[(0,(t 32)),(1,(t 37)),(2,(t 40))]) 41,b (k 44 #[(t 41)] #[22]) 42,n 42 5]) .ret)
def x43_s2 : XC := (.seq (.seq (.reg [m 7 24,m 9 25,a (.binOp .neq 4 (t 24) (t 25) 4) 26]) x43_s0) x43_s1)
def x43_s3 : XC := (.seq (.reg [l 74 2 18,l 34 4 19,a (.lookup 74 (t 18) (t 19) false) 20,a (k 33 #[(t 20)] #[73]) 21,m 21 17,b (.extract (t 17) 0) 22,b (.extract (t 17) 1) 23,a (.alloc 37) 8,w 37 8 22,n 23 9]) x43_s2)
def x43_s4 : XC := (.seq (.reg [l 74 2 11,l 34 3 12,a (.lookup 74 (t 11) (t 12) false) 13,a (k 33 #[(t 13)] #[73]) 14,m 14 10,b (.extract (t 10) 0) 15,b (.extract (t 10) 1) 16,a (.alloc 37) 6,w 37 6 15,n 16 7]) x43_s3)
def V43 := PLift.up (aI (aI (@unf _ _ x43_s0.eq_1) (@unf _ _ x43_s1.eq_1)) (aI (@unf _ _ x43_s2.eq_1) (aI (@unf _ _ x43_s3.eq_1) (@unf _ _ x43_s4.eq_1))))
theorem U43 : type_of% V43.down := V43.down
def x43 : XC := (.seq (.reg [a (.box 34 (t 0)) 3,a (.box 34 (t 1)) 4,a (.assign (i 0)) 5]) x43_s4)
theorem b43 : Bt 43 43 x43 [(.tmp 5)] := bt Try.func43 rfl (by kernel_rfl) (by kernel_rfl) (by kernel_rfl)
def x23_c0 : XC := (.regT [8] [([b (.load 34 (t 11)) 58,f 37 12 1 59,b (.load 3 (t 59)) 60],w 34 8 58,false)] [] [n 60 9])
def x23_s1 : XC := (.seq (.reg [m 13 29,m 29 30,g (.fieldAddr 37 (t 12) 0) 31 30 true,g (.load 3 (t 31)) 32 30 true,g (.move (t 7)) 33 30 true,g (.binOp .gtr 3 (t 32) (t 33) 3) 34 30 true,a (.pick (t 30) (t 34) (.const (.bool false))) 35,m 35 36,g (.move (t 9)) 37 36 true,g (.binOp .eql 3 (t 37) (i 0) 3) 38 36 true,g (.move (t 38)) 39 36 true,g (.fieldAddr 37 (t 12) 1) 40 39 false,g (.load 3 (t 40)) 41 39 false,g (.move (t 9)) 42 39 false,g (.binOp .lss 3 (t 41) (t 42) 3) 43 39 false,g (.pick (t 39) (.const (.bool true)) (t 43)) 44 36 true,g (.move (t 44)) 45 36 true,g (.fieldAddr 37 (t 12) 1) 46 45 false,g (.load 3 (t 46)) 47 45 false,g (.move (t 9)) 48 45 false,g (.binOp .eql 3 (t 47) (t 48) 3) 49 45 false,g (.move (t 49)) 50 45 false,g (.load 34 (t 11)) 51 50 true,g (.load 34 (t 8)) 52 50 true,g (k 35 #[(t 51),(t 52)] #[34,34]) 53 50 true,g (.binOp .lss 3 (t 53) (i 0) 3) 54 50 true,g (.pick (t 50) (t 54) (.const (.bool false))) 55 45 false,g (.pick (t 45) (.const (.bool true)) (t 55)) 56 36 true,a (.pick (t 36) (t 56) (.const (.bool false))) 57]) (.cond (t 57) x23_c0 .skip))
def x23_s2 : XC := (.seq (.reg [m 5 23,l 34 11 24,a (.lookup 74 (t 23) (t 24) false) 25,a (k 33 #[(t 25)] #[73]) 26,m 26 22,b (.extract (t 22) 0) 27,b (.extract (t 22) 1) 28,a (.alloc 37) 12,w 37 12 27,n 28 13]) x23_s1)
def x23_s3 : XC := (.seq (.block 3 (.seq (.reg [j 38 16 18 20,b (.load 34 (t 20)) 21,a (.alloc 34) 11,w 34 11 21]) x23_s2)) (.reg [a (.binOp .add 3 (t 18) (i 1) 3) 61,m 61 18]))
def x23_L4 : XC := (.seq (.reg [a (.binOp .lss 3 (t 18) (t 17) 3) 19]) (.seq (.cond (t 19) .skip (.exit 2)) x23_s3))
def x23_s5 : XC := (.seq (.reg [c (.move (t 6)) 65,l 34 8 66,a (.buildSlice 38 1 #[(0,(t 66))]) 67,b (.call ⟨(.builtin .append),#[(t 65),(t 67)],#[38,38]⟩) 68,n 68 6]) (.reg [b (.move (t 9)) 69,n 69 7]))
def x23_s6 : XC := (.seq (.seq (.reg [m 9 62,a (.binOp .eql 3 (t 62) (i 0) 3) 63]) (.cond (t 63) (.seq (.reg [b (.move (t 6)) 64,n 64 4]) .ret) .skip)) x23_s5)
def x23_s7 : XC := (.seq (.seq (.reg [m 1 16,e 38 16 17,a (.move (i 0)) 18]) (.block 2 (.loop x23_L4))) x23_s6)
def x23_L8 : XC := (.block 1 (.seq (.reg [a (.alloc 34) 8]) (.seq (.reg [a (.assign (i 0)) 9]) x23_s7)))
def x23_s9 : XC := (.seq (.reg [l 31 2 14,b (k 32 #[(t 14)] #[31]) 15,n 15 5]) (.seq (.reg [a (.assign (.const (.slice .none 0 0))) 6]) (.seq (.reg [a (.assign (i 0)) 7]) (.block 0 (.loop x23_L8)))))
def V23 := PLift.up (aI (aI (aI (@unf _ _ x23_c0.eq_1) (@unf _ _ x23_s1.eq_1)) (aI (@unf _ _ x23_s2.eq_1) (aI (@unf _ _ x23_s3.eq_1) (@unf _ _ x23_L4.eq_1)))) (aI (aI (@unf _ _ x23_s5.eq_1) (@unf _ _ x23_s6.eq_1)) (aI (@unf _ _ x23_s7.eq_1) (aI (@unf _ _ x23_L8.eq_1) (@unf _ _ x23_s9.eq_1)))))
theorem U23 : type_of% V23.down := V23.down
def x23 : XC := (.seq (.reg [a (.box 31 (t 0)) 2,a (.assign (.const (.slice .none 0 0))) 4]) x23_s9)
theorem b23 : Bt 23 70 x23 [(.tmp 4)] := bt Try.func23 rfl (by kernel_rfl) (by kernel_rfl) (by kernel_rfl)
end Go.Proofs.Ytffbjejmobhpkaa
end
section
namespace Go.Proofs.Ytffbjejmobhpkaa
open Go.Xs
open Go Go.Aw
def x12_c0 : XC := (.reg [m 10 44,m 7 45,m 11 46,j 26 45 46 47,f 72 47 0 48,l 34 48 49,b (k 39 #[(t 44),(t 49)] #[38,34]) 50,n 50 10])
def x12_s1 : XC := (.seq (.reg [f 37 12 0 39,l 3 39 40,f 37 8 1 41,l 3 41 42,a (.binOp .leq 3 (t 40) (t 42) 3) 43]) (.cond (t 43) x12_c0 .skip))
def x12_s2 : XC := (.reg [m 11 27,b (.binOp .add 3 (t 27) (i 1) 3) 28,n 28 11])
def x12_s3 : XC := (.seq (.block 1 (.seq (.regT [] [([l 31 2 30,m 7 31,m 11 32,j 26 31 32 33,f 72 33 2 34,l 34 34 35,a (k 27 #[(t 30),(t 35)] #[31,34]) 36,m 36 29,b (.extract (t 29) 0) 37,b (.extract (t 29) 1) 38],a (.alloc 37) 12,false),([],w 37 12 37,false)] [] [n 38 13]) x12_s1)) x12_s2)
def x12_L4 : XC := (.seq (.seq (.reg [m 11 23,m 7 24,e 26 24 25,a (.binOp .lss 3 (t 23) (t 25) 3) 26]) (.cond (t 26) .skip (.exit 0))) x12_s3)
def x12_s5 : XC := (.seq (.reg [b (.load 37 (t 8)) 51,b (.move (t 10)) 52,b (.move (t 9)) 53,w 37 4 51,n 52 5,n 53 6]) .ret)
def x12_s6 : XC := (.seq (.reg [a (.assign (.const (.slice .none 0 0))) 10]) (.seq (.seq (.gh (.reg [a (.assign (i 0)) 11])) (.block 0 (.loop x12_L4))) x12_s5))
def x12_s7 : XC := (.seq (.reg [l 31 2 18,l 34 3 19,a (k 38 #[(t 18),(t 19)] #[31,34]) 20,m 20 17,b (.extract (t 17) 0) 21,b (.extract (t 17) 1) 22,a (.alloc 37) 8,w 37 8 21,n 22 9]) x12_s6)
def x12_s8 : XC := (.seq (.reg [l 31 2 14,l 34 3 15,b (k 37 #[(t 14),(t 15)] #[31,34]) 16,n 16 7]) x12_s7)
def x12 : XC := (.seq (.reg [a (.box 31 (t 0)) 2,a (.box 34 (t 1)) 3,a (.alloc 37) 4,a (.assign (.const (.slice .none 0 0))) 5,a (.assign (.const (.bool false))) 6]) x12_s8)
theorem b12 : Bt 12 54 x12 [(.cell 4 37),(.tmp 5),(.tmp 6)] := bt Try.func12 rfl (by kernel_rfl) (by kernel_rfl) (by kernel_rfl)
def x16_s0 : XC := (.seq (.regD [m 9 16,m 16 17,g (.fieldAddr 37 (t 8) 1) 18 17 true,g (.load 3 (t 18)) 19 17 true,g (.move (t 2)) 20 17 true,g (.binOp .leq 3 (t 19) (t 20) 3) 21 17 true,b (.pick (t 17) (t 21) (.const (.bool false))) 22,m 9 23,m 23 24,g (.fieldAddr 37 (t 8) 0) 25 24 true,g (.load 3 (t 25)) 26 24 true,g (.move (t 2)) 27 24 true,g (.binOp .leq 3 (t 26) (t 27) 3) 28 24 true,b (.pick (t 24) (t 28) (.const (.bool false))) 29,n 22 6,n 29 7]) .ret)
def x16_s1 : XC := (.seq (.reg [l 31 3 11,l 34 4 12,a (k 38 #[(t 11),(t 12)] #[31,34]) 13,m 13 10,b (.extract (t 10) 0) 14,b (.extract (t 10) 1) 15,a (.alloc 37) 8,w 37 8 14,n 15 9]) x16_s0)
def x16 : XC := (.seq (.reg [a (.box 31 (t 0)) 3,a (.box 34 (t 1)) 4,a (.assign (.const (.bool false))) 6,a (.assign (.const (.bool false))) 7]) x16_s1)
theorem b16 : Bt 16 30 x16 [(.tmp 6),(.tmp 7)] := bt Try.func16 rfl (by kernel_rfl) (by kernel_rfl) (by kernel_rfl)
end Go.Proofs.Ytffbjejmobhpkaa
end
