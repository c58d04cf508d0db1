/- A part of the proof of what the last text says: XcF, XcG, Ew1, Ew2. Conditions: those in each theorem. -/
import Derived.Test.YtffbjejmobhpkaaE16
set_option linter.unusedVariables false
set_option linter.unusedSimpArgs false
set_option maxRecDepth 100000
set_option maxHeartbeats 16000000
open Nat renaming reduceSub → qa,reduceAdd → qb,reduceMul → qc,reduceEqDiff → qd,reduceLeDiff → qe,reduceBEq → qf
section
namespace Go.Proofs.Ytffbjejmobhpkaa
open Go.Xs
open Go Go.Aw
def x9_c0 : XC := (.reg [f 37 12 1 65,l 3 65 66,b (.binOp .add 3 (t 66) (i 1) 3) 67,f 37 12 0 68,w 3 68 67])
def x9_s1 : XC := (.reg [f 54 8 3 69,c (.load 52 (t 69)) 70,l 37 12 71,a (.build 56 #[(2,(t 71))]) 72,a (.buildSlice 52 1 #[(0,(t 72))]) 73,b (.call ⟨(.builtin .append),#[(t 70),(t 73)],#[52,52]⟩) 74,f 54 8 3 75,w 52 75 74])
def x9_s2 : XC := (.seq (.seq (.reg [m 1 57,m 7 58,a (.binOp .mul 3 (i 5) (t 58) 3) 59,m 10 60,a (.binOp .add 3 (t 59) (t 60) 3) 61,a (.binOp .add 3 (t 61) (i 3) 3) 62,a (k 30 #[(t 57),(t 62),(i 11)] #[22,3,3]) 63,a (.binOp .eql 3 (t 63) (i 0) 3) 64]) (.cond (t 64) x9_c0 .skip)) x9_s1)
def x9_s3 : XC := (.seq (.reg [m 11 46,m 11 47,m 1 48,m 7 49,a (.binOp .mul 3 (i 5) (t 49) 3) 50,m 10 51,a (.binOp .add 3 (t 50) (t 51) 3) 52,a (.binOp .add 3 (t 52) (i 4) 3) 53,a (k 30 #[(t 48),(t 53),(i 25)] #[22,3,3]) 54,a (.binOp .add 3 (t 47) (t 54) 3) 55,b (.build 37 #[(0,(t 46)),(1,(t 55))]) 56,a (.alloc 37) 12,w 37 12 56]) x9_s2)
def x9_s4 : XC := (.reg [m 10 36,b (.binOp .add 3 (t 36) (i 1) 3) 37,n 37 10])
def x9_s5 : XC := (.seq (.block 3 (.seq (.reg [m 1 38,m 7 39,a (.binOp .mul 3 (i 5) (t 39) 3) 40,m 10 41,a (.binOp .add 3 (t 40) (t 41) 3) 42,a (.binOp .add 3 (t 42) (i 2) 3) 43,a (k 30 #[(t 38),(t 43),(i 60)] #[22,3,3]) 44,b (.binOp .add 3 (i 1) (t 44) 3) 45,n 45 11]) x9_s3)) x9_s4)
def x9_L6 : XC := (.seq (.seq (.reg [m 10 33,m 9 34,a (.binOp .lss 3 (t 33) (t 34) 3) 35]) (.cond (t 35) .skip (.exit 2))) x9_s5)
def x9_s7 : XC := (.reg [f 31 5 2 76,c (.load 25 (t 76)) 77,l 54 8 78,a (.buildSlice 25 1 #[(0,(t 78))]) 79,b (.call ⟨(.builtin .append),#[(t 77),(t 79)],#[25,25]⟩) 80,f 31 5 2 81,w 25 81 80])
def x9_s8 : XC := (.seq (.gh (.reg [m 1 28,m 7 29,a (.binOp .mul 3 (i 5) (t 29) 3) 30,a (.binOp .add 3 (t 30) (i 1) 3) 31,b (k 30 #[(t 28),(t 31),(i 3)] #[22,3,3]) 32,n 32 9])) (.seq (.seq (.reg [a (.assign (i 0)) 10]) (.block 2 (.loop x9_L6))) x9_s7))
def x9_s9 : XC := (.reg [m 7 23,b (.binOp .add 3 (t 23) (i 1) 3) 24,n 24 7])
def x9_s10 : XC := (.seq (.block 1 (.seq (.reg [m 7 25,a (.build 34 #[(0,(i 6)),(1,(i 1)),(2,(t 25))]) 26,b (.call ⟨(.builtin .complex),#[(t 26)],#[54,0]⟩) 27,a (.alloc 54) 8,w 54 8 27]) x9_s8)) x9_s9)
def x9_L11 : XC := (.seq (.seq (.reg [m 7 20,m 6 21,a (.binOp .lss 3 (t 20) (t 21) 3) 22]) (.cond (t 22) .skip (.exit 0))) x9_s10)
def x9_s12 : XC := (.reg [f 31 5 3 113,c (.load 26 (t 113)) 114,l 72 15 115,a (.buildSlice 26 1 #[(0,(t 115))]) 116,b (.call ⟨(.builtin .append),#[(t 114),(t 116)],#[26,26]⟩) 117,f 31 5 3 118,w 26 118 117])
def x9_s13 : XC := (.reg [m 14 87,b (.binOp .add 3 (t 87) (i 1) 3) 88,n 88 14])
def x9_s14 : XC := (.seq (.block 5 (.seq (.reg [m 14 89,m 14 90,a (.binOp .quo 3 (t 90) (i 9) 3) 91,a (.binOp .sub 3 (t 89) (t 91) 3) 92,a (.build 34 #[(0,(i 6)),(1,(i 2)),(2,(t 92))]) 93,m 1 94,m 14 95,a (.binOp .mul 3 (i 2) (t 95) 3) 96,a (.binOp .add 3 (i 31) (t 96) 3) 97,f 31 5 1 98,l 24 98 99,e 24 99 100,a (.binOp .add 3 (t 100) (i 1) 3) 101,a (k 30 #[(t 94),(t 97),(t 101)] #[22,3,3]) 102,a (k 10 #[(t 102)] #[3]) 103,m 1 104,m 14 105,a (.binOp .mul 3 (i 2) (t 105) 3) 106,a (.binOp .add 3 (i 32) (t 106) 3) 107,m 6 108,a (.binOp .add 3 (t 108) (i 1) 3) 109,a (k 30 #[(t 104),(t 107),(t 109)] #[22,3,3]) 110,a (.build 34 #[(0,(i 6)),(1,(i 1)),(2,(t 110))]) 111,b (.build 72 #[(0,(t 93)),(1,(t 103)),(2,(t 111))]) 112,a (.alloc 72) 15,w 72 15 112]) x9_s12)) x9_s13)
def x9_L15 : XC := (.seq (.seq (.reg [m 14 84,m 13 85,a (.binOp .lss 3 (t 84) (t 85) 3) 86]) (.cond (t 86) .skip (.exit 4))) x9_s14)
def x9_s16 : XC := (.seq (.seq (.reg [a (.assign (i 0)) 14]) (.block 4 (.loop x9_L15))) (.seq (.reg [b (.load 31 (t 5)) 119,w 31 4 119]) .ret))
def x9_s17 : XC := (.seq (.reg [m 1 82,b (k 30 #[(t 82),(i 30),(i 12)] #[22,3,3]) 83,n 83 13]) x9_s16)
def x9_s18 : XC := (.seq (.gh (.reg [m 1 18,b (k 30 #[(t 18),(i 0),(i 5)] #[22,3,3]) 19,n 19 6])) (.seq (.seq (.reg [a (.assign (i 0)) 7]) (.block 0 (.loop x9_L11))) x9_s17))
def x9_s19 : XC := (.seq (.reg [m 0 16,b (k 31 #[(t 16)] #[22]) 17,a (.alloc 31) 5,w 31 5 17]) x9_s18)
def x9 : XC := (.seq (.reg [a (.alloc 31) 4]) x9_s19)
theorem b9 : Bt 9 120 x9 [(.cell 4 31)] := bt Try.func9 rfl (by kernel_rfl) (by kernel_rfl) (by kernel_rfl)
def x31_s0 : XC := (.reg [m 6 23,b (.binOp .add 3 (t 23) (i 1) 3) 24,n 24 6])
def x31_s1 : XC := (.seq (.block 1 (.reg [m 5 25,m 6 26,a (k 10 #[(t 26)] #[3]) 27,b (k 39 #[(t 25),(t 27)] #[38,34]) 28,n 28 5])) x31_s0)
def x31_L2 : XC := (.seq (.seq (.reg [m 6 20,m 3 21,a (.binOp .lss 3 (t 20) (t 21) 3) 22]) (.cond (t 22) .skip (.exit 0))) x31_s1)
def x31_s3 : XC := (.reg [m 9 45,b (.binOp .add 3 (t 45) (i 1) 3) 46,n 46 9])
def x31_s4 : XC := (.seq (.block 5 (.regV [f 64 8 9 47,l 38 47 48,m 0 49,m 7 50,a (.binOp .add 3 (i 2) (t 50) 3) 51,m 9 52,a (.binOp .mul 3 (i 3) (t 52) 3) 53,a (.binOp .add 3 (t 51) (t 53) 3) 54,m 3 55,a (.binOp .add 3 (t 55) (i 1) 3) 56,a (k 30 #[(t 49),(t 54),(t 56)] #[22,3,3]) 57,a (k 10 #[(t 57)] #[3]) 58,b (k 39 #[(t 48),(t 58)] #[38,34]) 59] [f 64 8 9 60,w 38 60 59])) x31_s3)
def x31_L5 : XC := (.seq (.seq (.reg [m 9 39,m 0 40,m 7 41,a (.binOp .add 3 (i 1) (t 41) 3) 42,a (k 30 #[(t 40),(t 42),(i 4)] #[22,3,3]) 43,a (.binOp .lss 3 (t 39) (t 43) 3) 44]) (.cond (t 44) .skip (.exit 4))) x31_s4)
def x31_c6 : XC := (.regT [8] [([f 64 8 7 66],c (.load 61 (t 66)) 67,false)] [m 0 68,m 7 69,a (.binOp .add 3 (i 4) (t 69) 3) 70,a (k 30 #[(t 68),(t 70),(i 3)] #[22,3,3]) 71,m 0 72,m 7 73,a (.binOp .add 3 (i 5) (t 73) 3) 74,m 3 75,a (k 30 #[(t 72),(t 74),(t 75)] #[22,3,3]) 76,a (k 10 #[(t 76)] #[3]) 77,a (.buildSlice 38 1 #[(0,(t 77))]) 78,a (.build 93 #[(0,(t 71)),(1,(t 78))]) 79,a (.buildSlice 61 1 #[(0,(t 79))]) 80,b (.call ⟨(.builtin .append),#[(t 67),(t 80)],#[61,61]⟩) 81,f 64 8 7 82] [w 61 82 81])
def x31_s7 : XC := (.reg [f 31 4 1 83,c (.load 24 (t 83)) 84,l 64 8 85,a (.buildSlice 24 1 #[(0,(t 85))]) 86,b (.call ⟨(.builtin .append),#[(t 84),(t 86)],#[24,24]⟩) 87,f 31 4 1 88,w 24 88 87])
def x31_s8 : XC := (.seq (.seq (.reg [m 0 61,m 7 62,a (.binOp .add 3 (i 3) (t 62) 3) 63,a (k 30 #[(t 61),(t 63),(i 3)] #[22,3,3]) 64,a (.binOp .eql 3 (t 64) (i 1) 3) 65]) (.cond (t 65) x31_c6 .skip)) x31_s7)
def x31_s9 : XC := (.reg [m 7 32,b (.binOp .add 3 (t 32) (i 1) 3) 33,n 33 7])
def x31_s10 : XC := (.seq (.block 3 (.seq (.reg [m 5 34,m 7 35,j 38 34 35 36,l 34 36 37,b (.call ⟨(.builtin .complex),#[(t 37)],#[64,0]⟩) 38,a (.alloc 64) 8,w 64 8 38]) (.seq (.seq (.gh (.reg [a (.assign (i 0)) 9])) (.block 4 (.loop x31_L5))) x31_s8))) x31_s9)
def x31_L11 : XC := (.seq (.seq (.reg [m 7 29,m 3 30,a (.binOp .lss 3 (t 29) (t 30) 3) 31]) (.cond (t 31) .skip (.exit 2))) x31_s10)
def x31_s12 : XC := (.reg [m 12 119,b (.binOp .add 3 (t 119) (i 1) 3) 120,n 120 12])
def x31_s13 : XC := (.seq (.block 9 (.regT [11] [([f 95 11 2 121],c (.load 38 (t 121)) 122,false)] [m 0 123,m 10 124,a (.binOp .mul 3 (i 5) (t 124) 3) 125,a (.binOp .add 3 (i 16) (t 125) 3) 126,m 12 127,a (.binOp .mul 3 (i 7) (t 127) 3) 128,a (.binOp .add 3 (t 126) (t 128) 3) 129,m 3 130,a (k 30 #[(t 123),(t 129),(t 130)] #[22,3,3]) 131,a (k 10 #[(t 131)] #[3]) 132,a (.buildSlice 38 1 #[(0,(t 132))]) 133,b (.call ⟨(.builtin .append),#[(t 122),(t 133)],#[38,38]⟩) 134,f 95 11 2 135] [w 38 135 134])) x31_s12)
def x31_L14 : XC := (.seq (.seq (.reg [m 12 111,m 0 112,m 10 113,a (.binOp .mul 3 (i 4) (t 113) 3) 114,a (.binOp .add 3 (i 15) (t 114) 3) 115,a (k 30 #[(t 112),(t 115),(i 2)] #[22,3,3]) 116,a (.binOp .add 3 (i 2) (t 116) 3) 117,a (.binOp .lss 3 (t 111) (t 117) 3) 118]) (.cond (t 118) .skip (.exit 8))) x31_s13)
def x31_s15 : XC := (.reg [f 31 4 4 136,c (.load 27 (t 136)) 137,l 95 11 138,a (.buildSlice 27 1 #[(0,(t 138))]) 139,b (.call ⟨(.builtin .append),#[(t 137),(t 139)],#[27,27]⟩) 140,f 31 4 4 141,w 27 141 140])
def x31_s16 : XC := (.reg [m 10 93,b (.binOp .add 3 (t 93) (i 1) 3) 94,n 94 10])
def x31_s17 : XC := (.seq (.block 7 (.seq (.reg [m 10 95,a (.build 34 #[(0,(i 5)),(1,(i 1)),(2,(t 95))]) 96,m 0 97,m 10 98,a (.binOp .mul 3 (i 4) (t 98) 3) 99,a (.binOp .add 3 (i 13) (t 99) 3) 100,m 3 101,a (k 30 #[(t 97),(t 100),(t 101)] #[22,3,3]) 102,a (k 10 #[(t 102)] #[3]) 103,m 0 104,m 10 105,a (.binOp .mul 3 (i 4) (t 105) 3) 106,a (.binOp .add 3 (i 14) (t 106) 3) 107,a (k 30 #[(t 104),(t 107),(i 4)] #[22,3,3]) 108,a (.binOp .sub 3 (t 108) (i 1) 3) 109,b (.call ⟨(.builtin .complex),#[(t 96),(t 103),(t 109)],#[95,0,1,3]⟩) 110,a (.alloc 95) 11,w 95 11 110]) (.seq (.seq (.gh (.reg [a (.assign (i 0)) 12])) (.block 8 (.loop x31_L14))) x31_s15))) x31_s16)
def x31_L18 : XC := (.seq (.seq (.reg [m 10 89,m 0 90,a (k 30 #[(t 90),(i 12),(i 4)] #[22,3,3]) 91,a (.binOp .lss 3 (t 89) (t 91) 3) 92]) (.cond (t 92) .skip (.exit 6))) x31_s17)
def x31_s19 : XC := (.reg [m 13 146,b (.binOp .add 3 (t 146) (i 1) 3) 147,n 147 13])
def x31_s20 : XC := (.seq (.block 11 (.regT [4] [([f 31 4 5 148],c (.load 28 (t 148)) 149,false)] [m 13 150,a (.build 34 #[(0,(i 5)),(1,(i 2)),(2,(t 150))]) 151,m 0 152,m 13 153,a (.binOp .mul 3 (i 2) (t 153) 3) 154,a (.binOp .add 3 (i 31) (t 154) 3) 155,m 3 156,m 0 157,a (k 30 #[(t 157),(i 30),(i 2)] #[22,3,3]) 158,a (.binOp .add 3 (t 156) (t 158) 3) 159,a (k 30 #[(t 152),(t 155),(t 159)] #[22,3,3]) 160,a (k 10 #[(t 160)] #[3]) 161,m 0 162,m 13 163,a (.binOp .mul 3 (i 2) (t 163) 3) 164,a (.binOp .add 3 (i 32) (t 164) 3) 165,m 3 166,m 0 167,a (k 30 #[(t 167),(i 30),(i 2)] #[22,3,3]) 168,a (.binOp .add 3 (t 166) (t 168) 3) 169,a (k 30 #[(t 162),(t 165),(t 169)] #[22,3,3]) 170,a (k 10 #[(t 170)] #[3]) 171,a (.build 97 #[(0,(t 151)),(1,(t 161)),(2,(t 171))]) 172,a (.buildSlice 28 1 #[(0,(t 172))]) 173,b (.call ⟨(.builtin .append),#[(t 149),(t 173)],#[28,28]⟩) 174,f 31 4 5 175] [w 28 175 174])) x31_s19)
def x31_L21 : XC := (.seq (.seq (.reg [m 13 142,m 0 143,a (k 30 #[(t 143),(i 30),(i 5)] #[22,3,3]) 144,a (.binOp .lss 3 (t 142) (t 144) 3) 145]) (.cond (t 145) .skip (.exit 10))) x31_s20)
def x31_s22 : XC := (.regT [15] [] [f 95 16 2 229,l 38 229 230,m 0 231,m 14 232,a (.binOp .mul 3 (i 3) (t 232) 3) 233,a (.binOp .add 3 (i 44) (t 233) 3) 234,f 95 16 2 235,l 38 235 236,e 38 236 237,a (k 30 #[(t 231),(t 234),(t 237)] #[22,3,3]) 238,j 38 230 238 239,b (.load 34 (t 239)) 240,f 99 15 3 241] [w 34 241 240])
def x31_s23 : XC := (.seq (.reg [f 95 16 1 226,b (.load 34 (t 226)) 227,f 99 15 2 228,w 34 228 227]) x31_s22)
def x31_c24 : XC := (.seq (.regT [] [([f 31 4 4 214,l 27 214 215,m 0 216,m 14 217,a (.binOp .mul 3 (i 3) (t 217) 3) 218,a (.binOp .add 3 (i 43) (t 218) 3) 219,f 31 4 4 220,l 27 220 221,e 27 221 222,a (k 30 #[(t 216),(t 219),(t 222)] #[22,3,3]) 223,j 27 215 223 224,b (.load 95 (t 224)) 225],a (.alloc 95) 16,false)] [] [w 95 16 225]) x31_s23)
def x31_s25 : XC := (.reg [f 31 4 6 242,c (.load 29 (t 242)) 243,l 99 15 244,a (.buildSlice 29 1 #[(0,(t 244))]) 245,b (.call ⟨(.builtin .append),#[(t 243),(t 245)],#[29,29]⟩) 246,f 31 4 6 247,w 29 247 246])
def x31_s26 : XC := (.seq (.seq (.reg [f 31 4 4 206,l 27 206 207,e 27 207 208,a (.binOp .gtr 3 (t 208) (i 0) 3) 209,m 209 210,g (.move (t 14)) 211 210 true,g (.binOp .lss 3 (t 211) (i 3) 3) 212 210 true,a (.pick (t 210) (t 212) (.const (.bool false))) 213]) (.cond (t 213) x31_c24 .skip)) x31_s25)
def x31_s27 : XC := (.reg [m 14 180,b (.binOp .add 3 (t 180) (i 1) 3) 181,n 181 14])
def x31_s28 : XC := (.seq (.block 13 (.seq (.reg [m 14 182,a (.build 34 #[(0,(i 5)),(1,(i 3)),(2,(t 182))]) 183,m 0 184,m 14 185,a (.binOp .mul 3 (i 3) (t 185) 3) 186,a (.binOp .add 3 (i 42) (t 186) 3) 187,m 3 188,a (k 30 #[(t 184),(t 187),(t 188)] #[22,3,3]) 189,a (k 10 #[(t 189)] #[3]) 190,m 0 191,m 14 192,a (.binOp .mul 3 (i 3) (t 192) 3) 193,a (.binOp .add 3 (i 43) (t 193) 3) 194,m 3 195,a (k 30 #[(t 191),(t 194),(t 195)] #[22,3,3]) 196,a (k 10 #[(t 196)] #[3]) 197,m 0 198,m 14 199,a (.binOp .mul 3 (i 3) (t 199) 3) 200,a (.binOp .add 3 (i 44) (t 200) 3) 201,m 3 202,a (k 30 #[(t 198),(t 201),(t 202)] #[22,3,3]) 203,a (k 10 #[(t 203)] #[3]) 204,b (.build 99 #[(0,(t 183)),(1,(t 190)),(2,(t 197)),(3,(t 204))]) 205,a (.alloc 99) 15,w 99 15 205]) x31_s26)) x31_s27)
def x31_L29 : XC := (.seq (.seq (.reg [m 14 176,m 0 177,a (k 30 #[(t 177),(i 41),(i 5)] #[22,3,3]) 178,a (.binOp .lss 3 (t 176) (t 178) 3) 179]) (.cond (t 179) .skip (.exit 12))) x31_s28)
def x31_s30 : XC := (.seq (.seq (.reg [a (.assign (i 0)) 14]) (.block 12 (.loop x31_L29))) (.seq (.gh (.reg [b (.load 31 (t 4)) 248,w 31 2 248])) .ret))
def x31_s31 : XC := (.seq (.seq (.reg [a (.assign (i 0)) 10]) (.block 6 (.loop x31_L18))) (.seq (.seq (.reg [a (.assign (i 0)) 13]) (.block 10 (.loop x31_L21))) x31_s30))
def x31_s32 : XC := (.seq (.seq (.gh (.reg [a (.assign (i 0)) 6])) (.block 0 (.loop x31_L2))) (.seq (.seq (.reg [a (.assign (i 0)) 7]) (.block 2 (.loop x31_L11))) x31_s31))
def x31_s33 : XC := (.seq (.reg [m 0 17,a (k 30 #[(t 17),(i 0),(i 8)] #[22,3,3]) 18,b (.binOp .add 3 (i 2) (t 18) 3) 19,n 19 3]) (.seq (.reg [a (.alloc 31) 4]) (.seq (.reg [a (.assign (.const (.slice .none 0 0))) 5]) x31_s32)))
def V31 := PLift.up (aI (aI (aI (aI (aI (@unf _ _ x31_s0.eq_1) (@unf _ _ x31_s1.eq_1)) (aI (@unf _ _ x31_L2.eq_1) (@unf _ _ x31_s3.eq_1))) (aI (aI (@unf _ _ x31_s4.eq_1) (@unf _ _ x31_L5.eq_1)) (aI (@unf _ _ x31_c6.eq_1) (@unf _ _ x31_s7.eq_1)))) (aI (aI (aI (@unf _ _ x31_s8.eq_1) (@unf _ _ x31_s9.eq_1)) (aI (@unf _ _ x31_s10.eq_1) (@unf _ _ x31_L11.eq_1))) (aI (aI (@unf _ _ x31_s12.eq_1) (@unf _ _ x31_s13.eq_1)) (aI (@unf _ _ x31_L14.eq_1) (aI (@unf _ _ x31_s15.eq_1) (@unf _ _ x31_s16.eq_1)))))) (aI (aI (aI (aI (@unf _ _ x31_s17.eq_1) (@unf _ _ x31_L18.eq_1)) (aI (@unf _ _ x31_s19.eq_1) (@unf _ _ x31_s20.eq_1))) (aI (aI (@unf _ _ x31_L21.eq_1) (@unf _ _ x31_s22.eq_1)) (aI (@unf _ _ x31_s23.eq_1) (@unf _ _ x31_c24.eq_1)))) (aI (aI (aI (@unf _ _ x31_s25.eq_1) (@unf _ _ x31_s26.eq_1)) (aI (@unf _ _ x31_s27.eq_1) (@unf _ _ x31_s28.eq_1))) (aI (aI (@unf _ _ x31_L29.eq_1) (@unf _ _ x31_s30.eq_1)) (aI (@unf _ _ x31_s31.eq_1) (aI (@unf _ _ x31_s32.eq_1) (@unf _ _ x31_s33.eq_1)))))))
theorem U31 : type_of% V31.down := V31.down
def x31 : XC := (.seq (.reg [a (.alloc 31) 2]) x31_s33)
theorem b31 : Bt 31 249 x31 [(.cell 2 31)] := bt Try.func31 rfl (by kernel_rfl) (by kernel_rfl) (by kernel_rfl)
def x40_s0 : XC := (.regT [1] [([f 31 1 3 38],c (.load 26 (t 38)) 39,false)] [m 4 40,a (.binOp .add 3 (i 5) (t 40) 3) 41,a (k 41 #[(t 41)] #[3]) 42,m 3 43,m 4 44,j 22 43 44 45,l 3 45 46,a (k 41 #[(t 46)] #[3]) 47,m 4 48,a (.binOp .add 3 (i 10) (t 48) 3) 49,a (k 41 #[(t 49)] #[3]) 50,a (.build 72 #[(0,(t 42)),(1,(t 47)),(2,(t 50))]) 51,a (.buildSlice 26 1 #[(0,(t 51))]) 52,b (.call ⟨(.builtin .append),#[(t 39),(t 52)],#[26,26]⟩) 53,f 31 1 3 54] [w 26 54 53])
def x40_s1 : XC := (.reg [m 4 21,b (.binOp .add 3 (t 21) (i 1) 3) 22,n 22 4])
def x40_s2 : XC := (.seq (.block 1 (.seq (.regT [1] [([f 31 1 2 23],c (.load 25 (t 23)) 24,false)] [m 4 25,a (.binOp .add 3 (i 10) (t 25) 3) 26,a (k 41 #[(t 26)] #[3]) 27,m 2 28,m 4 29,j 65 28 29 30,l 37 30 31,a (.build 56 #[(2,(t 31))]) 32,a (.buildSlice 52 1 #[(0,(t 32))]) 33,a (.build 54 #[(0,(t 27)),(3,(t 33))]) 34,a (.buildSlice 25 1 #[(0,(t 34))]) 35,b (.call ⟨(.builtin .append),#[(t 24),(t 35)],#[25,25]⟩) 36,f 31 1 2 37] [w 25 37 36]) x40_s0)) x40_s1)
def x40_L3 : XC := (.seq (.seq (.reg [m 4 19,a (.binOp .lss 3 (t 19) (i 4) 3) 20]) (.cond (t 20) .skip (.exit 0))) x40_s2)
def x40_s4 : XC := (.seq (.seq (.reg [a (.assign (i 0)) 4]) (.block 0 (.loop x40_L3))) (.seq (.reg [b (.load 31 (t 1)) 55,w 31 0 55]) .ret))
def x40_s5 : XC := (.seq (.reg [b (.buildSlice 22 4 #[(0,(i 1)),(1,(i 1)),(2,(i 2)),(3,(i 3))]) 18,n 18 3]) x40_s4)
def x40_s6 : XC := (.seq (.gh (.reg [a (.build 37 #[(0,(i 10)),(1,(i 20))]) 13,a (.build 37 #[(0,(i 15)),(1,(i 17))]) 14,a (.build 37 #[(0,(i 18)),(1,(i 30))]) 15,a (.build 37 #[(0,(i 40)),(1,(i 40))]) 16,b (.buildSlice 65 4 #[(0,(t 13)),(1,(t 14)),(2,(t 15)),(3,(t 16))]) 17,n 17 2])) x40_s5)
def x40_s7 : XC := (.seq (.reg [a (k 41 #[(i 1)] #[3]) 5,a (.build 64 #[(0,(t 5))]) 6,a (k 41 #[(i 2)] #[3]) 7,a (.build 64 #[(0,(t 7))]) 8,a (k 41 #[(i 3)] #[3]) 9,a (.build 64 #[(0,(t 9))]) 10,a (.buildSlice 24 3 #[(0,(t 6)),(1,(t 8)),(2,(t 10))]) 11,b (.call ⟨(.builtin .complex),#[(t 11)],#[31,1]⟩) 12,a (.alloc 31) 1,w 31 1 12]) x40_s6)
def V40 := PLift.up (aI (aI (aI (@unf _ _ x40_s0.eq_1) (@unf _ _ x40_s1.eq_1)) (aI (@unf _ _ x40_s2.eq_1) (@unf _ _ x40_L3.eq_1))) (aI (aI (@unf _ _ x40_s4.eq_1) (@unf _ _ x40_s5.eq_1)) (aI (@unf _ _ x40_s6.eq_1) (@unf _ _ x40_s7.eq_1))))
theorem U40 : type_of% V40.down := V40.down
def x40 : XC := (.seq (.reg [a (.alloc 31) 0]) x40_s7)
theorem b40 : Bt 40 56 x40 [(.cell 0 31)] := bt Try.func40 rfl (by kernel_rfl) (by kernel_rfl) (by kernel_rfl)
def x17_s0 : XC := (.seq (.regD [m 13 74,m 74 75,g (.move (t 5)) 76 75 true,g (.unOp .not 4 (t 76)) 77 75 true,a (.pick (t 75) (t 77) (.const (.bool false))) 78,m 78 79,g (.move (t 6)) 80 79 true,a (.pick (t 79) (t 80) (.const (.bool false))) 81,m 81 82,g (.move (t 7)) 83 82 true,a (.pick (t 82) (t 83) (.const (.bool false))) 84,m 84 85,g (.move (t 8)) 86 85 true,a (.pick (t 85) (t 86) (.const (.bool false))) 87,m 87 88,g (.move (t 9)) 89 88 true,g (.unOp .not 4 (t 89)) 90 88 true,a (.pick (t 88) (t 90) (.const (.bool false))) 91,m 91 92,g (.move (t 10)) 93 92 true,g (.unOp .not 4 (t 93)) 94 92 true,a (.pick (t 92) (t 94) (.const (.bool false))) 95,m 95 96,g (.load 31 (t 1)) 97 96 true,g (k 41 #[(i 1)] #[3]) 98 96 true,g (k 41 #[(i 2)] #[3]) 99 96 true,g (k 19 #[(t 97),(t 98),(t 99)] #[31,34,34]) 100 96 true,a (.pick (t 96) (t 100) (.const (.bool false))) 101,m 101 102,g (.load 31 (t 1)) 103 102 true,g (k 41 #[(i 2)] #[3]) 104 102 true,g (k 41 #[(i 1)] #[3]) 105 102 true,g (k 19 #[(t 103),(t 104),(t 105)] #[31,34,34]) 106 102 true,g (.unOp .not 4 (t 106)) 107 102 true,a (.pick (t 102) (t 107) (.const (.bool false))) 108,m 108 109,g (.move (t 14)) 110 109 true,b (.pick (t 109) (t 110) (.const (.bool false))) 111,n 111 0]) .ret)
def x17_s1 : XC := (.seq (.reg [l 31 1 62,m 11 63,a (k 21 #[(t 62),(t 63)] #[31,38]) 64,m 12 65,a (k 13 #[(t 64),(t 65)] #[38,38]) 66,m 66 67,g (.load 31 (t 1)) 68 67 true,g (.move (t 11)) 69 67 true,g (k 23 #[(t 68),(t 69)] #[31,38]) 70 67 true,g (.move (t 12)) 71 67 true,g (k 13 #[(t 70),(t 71)] #[38,38]) 72 67 true,b (.pick (t 67) (t 72) (.const (.bool false))) 73,n 73 14]) x17_s0)
def x17_s2 : XC := (.seq (.reg [l 37 2 49,a (.build 37 #[(0,(i 10)),(1,(i 17))]) 50,a (.binOp .eql 37 (t 49) (t 50) 37) 51,m 51 52,g (.move (t 3)) 53 52 true,g (k 41 #[(i 5)] #[3]) 54 52 true,g (k 41 #[(i 6)] #[3]) 55 52 true,g (.buildSlice 38 2 #[(0,(t 54)),(1,(t 55))]) 56 52 true,g (k 13 #[(t 53),(t 56)] #[38,38]) 57 52 true,a (.pick (t 52) (t 57) (.const (.bool false))) 58,m 58 59,g (.move (t 4)) 60 59 true,b (.pick (t 59) (t 60) (.const (.bool false))) 61,n 61 13]) x17_s1)
def x17_s3 : XC := (.seq (.reg [a (k 41 #[(i 1)] #[3]) 45,a (k 41 #[(i 2)] #[3]) 46,a (k 41 #[(i 3)] #[3]) 47,b (.buildSlice 38 3 #[(0,(t 45)),(1,(t 46)),(2,(t 47))]) 48,n 48 12]) x17_s2)
def x17_s4 : XC := (.seq (.reg [a (k 41 #[(i 3)] #[3]) 41,a (k 41 #[(i 2)] #[3]) 42,a (k 41 #[(i 1)] #[3]) 43,b (.buildSlice 38 3 #[(0,(t 41)),(1,(t 42)),(2,(t 43))]) 44,n 44 11]) x17_s3)
def x17_s5 : XC := (.seq (.regD [l 31 1 36,a (k 41 #[(i 1)] #[3]) 37,a (k 15 #[(t 36),(t 37),(i 9)] #[31,34,3]) 38,m 38 35,b (.extract (t 35) 0) 39,b (.extract (t 35) 1) 40,n 39 9,n 40 10]) x17_s4)
def x17_s6 : XC := (.seq (.regD [l 31 1 30,a (k 41 #[(i 1)] #[3]) 31,a (k 15 #[(t 30),(t 31),(i 17)] #[31,34,3]) 32,m 32 29,b (.extract (t 29) 0) 33,b (.extract (t 29) 1) 34,n 33 7,n 34 8]) x17_s5)
def x17_s7 : XC := (.seq (.regD [l 31 1 24,a (k 41 #[(i 1)] #[3]) 25,a (k 15 #[(t 24),(t 25),(i 12)] #[31,34,3]) 26,m 26 23,b (.extract (t 23) 0) 27,b (.extract (t 23) 1) 28,n 27 5,n 28 6]) x17_s6)
def x17_s8 : XC := (.seq (.regT [] [([l 31 1 17,a (k 41 #[(i 1)] #[3]) 18,a (k 11 #[(t 17),(t 18)] #[31,34]) 19,m 19 16,b (.extract (t 16) 0) 20,b (.extract (t 16) 1) 21,b (.extract (t 16) 2) 22],a (.alloc 37) 2,false),([],w 37 2 20,false)] [n 21 3] [n 22 4]) x17_s7)
def x17_s9 : XC := (.seq (.reg [b (k 40 #[] #[]) 15,a (.alloc 31) 1,w 31 1 15]) x17_s8)
def V17 := PLift.up (aI (aI (aI (@unf _ _ x17_s0.eq_1) (@unf _ _ x17_s1.eq_1)) (aI (@unf _ _ x17_s2.eq_1) (aI (@unf _ _ x17_s3.eq_1) (@unf _ _ x17_s4.eq_1)))) (aI (aI (@unf _ _ x17_s5.eq_1) (@unf _ _ x17_s6.eq_1)) (aI (@unf _ _ x17_s7.eq_1) (aI (@unf _ _ x17_s8.eq_1) (@unf _ _ x17_s9.eq_1)))))
theorem U17 : type_of% V17.down := V17.down
def x17 : XC := (.seq (.reg [a (.assign (.const (.bool false))) 0]) x17_s9)
theorem b17 : Bt 17 112 x17 [(.tmp 0)] := bt Try.func17 rfl (by kernel_rfl) (by kernel_rfl) (by kernel_rfl)
end Go.Proofs.Ytffbjejmobhpkaa
end
section
namespace Go.Proofs.Ytffbjejmobhpkaa
open Go.Xs
open Go Go.Aw
def x3_s0 : XC := (.seq (.reg [m 18 102,m 20 103,a (.binOp .neq 4 (t 102) (t 103) 4) 104,m 104 105,g (.move (t 19)) 106 105 false,g (.move (t 21)) 107 105 false,g (.binOp .neq 4 (t 106) (t 107) 4) 108 105 false,a (.pick (t 105) (.const (.bool true)) (t 108)) 109]) (.cond (t 109) (.seq (.reg [a (.assign (.const (.bool false))) 6]) .ret) .skip))
def x3_s1 : XC := (.seq (.regD [l 31 7 93,l 34 9 94,m 16 95,m 17 96,j 22 95 96 97,l 3 97 98,a (k 16 #[(t 93),(t 94),(t 98)] #[31,34,3]) 99,m 99 92,b (.extract (t 92) 0) 100,b (.extract (t 92) 1) 101,n 100 20,n 101 21]) x3_s0)
def x3_s2 : XC := (.reg [m 17 80,b (.binOp .add 3 (t 80) (i 1) 3) 81,n 81 17])
def x3_s3 : XC := (.seq (.block 3 (.seq (.regD [l 31 7 83,l 34 9 84,m 16 85,m 17 86,j 22 85 86 87,l 3 87 88,a (k 15 #[(t 83),(t 84),(t 88)] #[31,34,3]) 89,m 89 82,b (.extract (t 82) 0) 90,b (.extract (t 82) 1) 91,n 90 18,n 91 19]) x3_s1)) x3_s2)
def x3_L4 : XC := (.seq (.seq (.reg [m 17 76,m 16 77,e 22 77 78,a (.binOp .lss 3 (t 76) (t 78) 3) 79]) (.cond (t 79) .skip (.exit 2))) x3_s3)
def x3_s5 : XC := (.seq (.regD [m 2 62,m 2 63,a (k 14 #[(t 63),(i 90)] #[3,3]) 64,f 37 10 0 65,l 3 65 66,f 37 10 0 67,l 3 67 68,a (.binOp .sub 3 (t 68) (i 1) 3) 69,f 37 10 1 70,l 3 70 71,f 37 10 1 72,l 3 72 73,a (.binOp .sub 3 (t 73) (i 1) 3) 74,b (.buildSlice 22 6 #[(0,(t 62)),(1,(t 64)),(2,(t 66)),(3,(t 69)),(4,(t 71)),(5,(t 74))]) 75,n 75 16]) (.seq (.reg [a (.assign (i 0)) 17]) (.block 2 (.loop x3_L4))))
def x3_s6 : XC := (.seq (.seq (.reg [l 37 10 48,l 37 13 49,a (.binOp .neq 37 (t 48) (t 49) 37) 50,m 50 51,g (.move (t 12)) 52 51 false,g (.move (t 15)) 53 51 false,g (.binOp .neq 4 (t 52) (t 53) 4) 54 51 false,a (.pick (t 51) (.const (.bool true)) (t 54)) 55,m 55 56,g (.move (t 11)) 57 56 false,g (.move (t 14)) 58 56 false,g (k 13 #[(t 57),(t 58)] #[38,38]) 59 56 false,g (.unOp .not 4 (t 59)) 60 56 false,a (.pick (t 56) (.const (.bool true)) (t 60)) 61]) (.cond (t 61) (.seq (.reg [a (.assign (.const (.bool false))) 6]) .ret) .skip)) x3_s5)
def x3_s7 : XC := (.seq (.reg [l 31 7 42,l 34 9 43,a (k 12 #[(t 42),(t 43)] #[31,34]) 44,m 44 41,b (.extract (t 41) 0) 45,b (.extract (t 41) 1) 46,b (.extract (t 41) 2) 47,a (.alloc 37) 13,w 37 13 45,n 46 14,n 47 15]) x3_s6)
def x3_s8 : XC := (.seq (.reg [l 31 7 35,l 34 9 36,a (k 11 #[(t 35),(t 36)] #[31,34]) 37,m 37 34,b (.extract (t 34) 0) 38,b (.extract (t 34) 1) 39,b (.extract (t 34) 2) 40,a (.alloc 37) 10,w 37 10 38,n 39 11,n 40 12]) x3_s7)
def x3_s9 : XC := (.reg [m 8 30,b (.binOp .add 3 (t 30) (i 1) 3) 31,n 31 8])
def x3_s10 : XC := (.seq (.block 1 (.seq (.reg [m 8 32,b (k 10 #[(t 32)] #[3]) 33,a (.alloc 34) 9,w 34 9 33]) x3_s8)) x3_s9)
def x3_L11 : XC := (.seq (.seq (.reg [m 8 25,f 31 7 1 26,l 24 26 27,e 24 27 28,a (.binOp .leq 3 (t 25) (t 28) 3) 29]) (.cond (t 29) .skip (.exit 0))) x3_s10)
def x3_s12 : XC := (.seq (.seq (.reg [a (.assign (i 0)) 8]) (.block 0 (.loop x3_L11))) (.seq (.reg [b (k 17 #[] #[]) 110,n 110 6]) .ret))
def x3_s13 : XC := (.seq (.reg [m 0 22,m 1 23,b (k 9 #[(t 22),(t 23)] #[22,22]) 24,a (.alloc 31) 7,w 31 7 24]) x3_s12)
def x3 : XC := (.seq (.reg [a (.assign (.const (.bool false))) 6]) x3_s13)
theorem b3 : Bt 3 111 x3 [(.tmp 6)] := bt Try.func3 rfl (by kernel_rfl) (by kernel_rfl) (by kernel_rfl)
def x4_s0 : XC := (.reg [m 10 27,b (.binOp .add 3 (t 27) (i 1) 3) 28,n 28 10])
def x4_s1 : XC := (.seq (.block 3 (.seq (.regD [l 31 7 29,m 8 30,m 9 31,j 38 30 31 32,l 34 32 33,m 8 34,m 10 35,j 38 34 35 36,l 34 36 37,a (k 19 #[(t 29),(t 33),(t 37)] #[31,34,34]) 38,l 31 7 39,m 8 40,m 9 41,j 38 40 41 42,l 34 42 43,m 8 44,m 10 45,j 38 44 45 46,l 34 46 47,a (k 20 #[(t 39),(t 43),(t 47)] #[31,34,34]) 48,a (.binOp .neq 4 (t 38) (t 48) 4) 49]) (.cond (t 49) (.seq (.reg [a (.assign (.const (.bool false))) 6]) .ret) .skip))) x4_s0)
def x4_L2 : XC := (.seq (.seq (.reg [m 10 23,m 8 24,e 38 24 25,a (.binOp .lss 3 (t 23) (t 25) 3) 26]) (.cond (t 26) .skip (.exit 2))) x4_s1)
def x4_s3 : XC := (.reg [m 9 21,b (.binOp .add 3 (t 21) (i 1) 3) 22,n 22 9])
def x4_L4 : XC := (.seq (.seq (.reg [m 9 17,m 8 18,e 38 18 19,a (.binOp .lss 3 (t 17) (t 19) 3) 20]) (.cond (t 20) .skip (.exit 0))) (.seq (.block 1 (.seq (.reg [a (.assign (i 0)) 10]) (.block 2 (.loop x4_L2)))) x4_s3))
def x4_s5 : XC := (.seq (.regD [l 31 7 50,m 8 51,a (k 21 #[(t 50),(t 51)] #[31,38]) 52,l 31 7 53,m 8 54,a (k 22 #[(t 53),(t 54)] #[31,38]) 55,a (k 13 #[(t 52),(t 55)] #[38,38]) 56,m 56 57,g (.load 31 (t 7)) 58 57 true,g (.move (t 8)) 59 57 true,g (k 23 #[(t 58),(t 59)] #[31,38]) 60 57 true,g (.load 31 (t 7)) 61 57 true,g (.move (t 8)) 62 57 true,g (k 24 #[(t 61),(t 62)] #[31,38]) 63 57 true,g (k 13 #[(t 60),(t 63)] #[38,38]) 64 57 true,a (.pick (t 57) (t 64) (.const (.bool false))) 65,m 65 66,g (k 17 #[] #[]) 67 66 true,b (.pick (t 66) (t 67) (.const (.bool false))) 68,n 68 6]) .ret)
def x4_s6 : XC := (.seq (.reg [l 31 7 14,m 2 15,b (k 18 #[(t 14),(t 15)] #[31,22]) 16,n 16 8]) (.seq (.seq (.reg [a (.assign (i 0)) 9]) (.block 0 (.loop x4_L4))) x4_s5))
def x4_s7 : XC := (.seq (.reg [m 0 11,m 1 12,b (k 9 #[(t 11),(t 12)] #[22,22]) 13,a (.alloc 31) 7,w 31 7 13]) x4_s6)
def x4 : XC := (.seq (.reg [a (.assign (.const (.bool false))) 6]) x4_s7)
theorem b4 : Bt 4 69 x4 [(.tmp 6)] := bt Try.func4 rfl (by kernel_rfl) (by kernel_rfl) (by kernel_rfl)
def x5_s0 : XC := (.reg [m 12 63,b (.binOp .add 3 (t 63) (i 1) 3) 64,n 64 12])
def x5_s1 : XC := (.seq (.block 5 (.seq (.regD [l 31 7 65,m 8 66,m 10 67,j 38 66 67 68,l 34 68 69,m 8 70,m 11 71,j 38 70 71 72,l 34 72 73,a (k 19 #[(t 65),(t 69),(t 73)] #[31,34,34]) 74,m 74 75,g (.load 31 (t 7)) 76 75 true,g (.move (t 8)) 77 75 true,g (.move (t 11)) 78 75 true,g (.indexAddr 38 (t 77) (t 78)) 79 75 true,g (.load 34 (t 79)) 80 75 true,g (.move (t 8)) 81 75 true,g (.move (t 12)) 82 75 true,g (.indexAddr 38 (t 81) (t 82)) 83 75 true,g (.load 34 (t 83)) 84 75 true,g (k 19 #[(t 76),(t 80),(t 84)] #[31,34,34]) 85 75 true,a (.pick (t 75) (t 85) (.const (.bool false))) 86,m 86 87,g (.load 31 (t 7)) 88 87 true,g (.move (t 8)) 89 87 true,g (.move (t 10)) 90 87 true,g (.indexAddr 38 (t 89) (t 90)) 91 87 true,g (.load 34 (t 91)) 92 87 true,g (.move (t 8)) 93 87 true,g (.move (t 12)) 94 87 true,g (.indexAddr 38 (t 93) (t 94)) 95 87 true,g (.load 34 (t 95)) 96 87 true,g (k 19 #[(t 88),(t 92),(t 96)] #[31,34,34]) 97 87 true,g (.unOp .not 4 (t 97)) 98 87 true,a (.pick (t 87) (t 98) (.const (.bool false))) 99]) (.cond (t 99) (.seq (.reg [a (.assign (.const (.bool false))) 6]) .ret) .skip))) x5_s0)
def x5_L2 : XC := (.seq (.seq (.reg [m 12 59,m 8 60,e 38 60 61,a (.binOp .lss 3 (t 59) (t 61) 3) 62]) (.cond (t 62) .skip (.exit 4))) x5_s1)
def x5_s3 : XC := (.reg [m 11 57,b (.binOp .add 3 (t 57) (i 1) 3) 58,n 58 11])
def x5_L4 : XC := (.seq (.seq (.reg [m 11 53,m 8 54,e 38 54 55,a (.binOp .lss 3 (t 53) (t 55) 3) 56]) (.cond (t 56) .skip (.exit 2))) (.seq (.block 3 (.seq (.reg [a (.assign (i 0)) 12]) (.block 4 (.loop x5_L2)))) x5_s3))
def x5_s5 : XC := (.reg [m 10 32,b (.binOp .add 3 (t 32) (i 1) 3) 33,n 33 10])
def x5_s6 : XC := (.seq (.block 1 (.seq (.seq (.regD [l 31 7 34,m 8 35,m 10 36,j 38 35 36 37,l 34 37 38,m 8 39,m 10 40,j 38 39 40 41,l 34 41 42,a (k 19 #[(t 34),(t 38),(t 42)] #[31,34,34]) 43,m 43 44,g (.move (t 9)) 45 44 false,g (.move (t 8)) 46 44 false,g (.move (t 10)) 47 44 false,g (.indexAddr 38 (t 46) (t 47)) 48 44 false,g (.load 34 (t 48)) 49 44 false,g (k 25 #[(t 45),(t 49)] #[38,34]) 50 44 false,g (.unOp .not 4 (t 50)) 51 44 false,a (.pick (t 44) (.const (.bool true)) (t 51)) 52]) (.cond (t 52) (.seq (.reg [a (.assign (.const (.bool false))) 6]) .ret) .skip)) (.seq (.reg [a (.assign (i 0)) 11]) (.block 2 (.loop x5_L4))))) x5_s5)
def x5_L7 : XC := (.seq (.seq (.reg [m 10 28,m 8 29,e 38 29 30,a (.binOp .lss 3 (t 28) (t 30) 3) 31]) (.cond (t 31) .skip (.exit 0))) x5_s6)
def x5_s8 : XC := (.reg [m 18 144,b (.binOp .add 3 (t 144) (i 1) 3) 145,n 145 18])
def x5_s9 : XC := (.seq (.block 9 (.seq (.regD [l 31 7 146,m 9 147,m 14 148,j 38 147 148 149,l 34 149 150,m 9 151,m 18 152,j 38 151 152 153,l 34 153 154,a (k 19 #[(t 146),(t 150),(t 154)] #[31,34,34]) 155]) (.cond (t 155) (.seq (.reg [a (.assign (.const (.bool false))) 6]) .ret) .skip))) x5_s8)
def x5_L10 : XC := (.seq (.seq (.reg [m 18 141,m 14 142,a (.binOp .lss 3 (t 141) (t 142) 3) 143]) (.cond (t 143) .skip (.exit 8))) x5_s9)
def x5_s11 : XC := (.seq (.reg [b (.move (t 17)) 140,n 140 13]) (.seq (.reg [a (.assign (i 0)) 18]) (.block 8 (.loop x5_L10))))
def x5_s12 : XC := (.seq (.seq (.regD [m 17 116,m 116 117,g (.move (t 13)) 118 117 true,g (.unOp .not 4 (t 118)) 119 117 true,a (.pick (t 117) (t 119) (.const (.bool false))) 120,m 120 121,g (.move (t 9)) 122 121 false,g (.move (t 14)) 123 121 false,g (.slice 38 (t 122) .none (.some (t 123)) .none) 124 121 false,g (.move (t 9)) 125 121 false,g (.move (t 14)) 126 121 false,g (.indexAddr 38 (t 125) (t 126)) 127 121 false,g (.load 34 (t 127)) 128 121 false,g (k 25 #[(t 124),(t 128)] #[38,34]) 129 121 false,a (.pick (t 121) (.const (.bool true)) (t 129)) 130,m 130 131,g (.move (t 8)) 132 131 false,g (.move (t 9)) 133 131 false,g (.move (t 14)) 134 131 false,g (.indexAddr 38 (t 133) (t 134)) 135 131 false,g (.load 34 (t 135)) 136 131 false,g (k 25 #[(t 132),(t 136)] #[38,34]) 137 131 false,g (.unOp .not 4 (t 137)) 138 131 false,a (.pick (t 131) (.const (.bool true)) (t 138)) 139]) (.cond (t 139) (.seq (.reg [a (.assign (.const (.bool false))) 6]) .ret) .skip)) x5_s11)
def x5_s13 : XC := (.reg [m 14 104,b (.binOp .add 3 (t 104) (i 1) 3) 105,n 105 14])
def x5_s14 : XC := (.seq (.block 7 (.seq (.regT [] [([l 31 7 107,m 9 108,m 14 109,j 38 108 109 110,l 34 110 111,a (k 11 #[(t 107),(t 111)] #[31,34]) 112,m 112 106,b (.extract (t 106) 0) 113,b (.extract (t 106) 1) 114,b (.extract (t 106) 2) 115],a (.alloc 37) 15,false),([],w 37 15 113,false)] [n 114 16] [n 115 17]) x5_s12)) x5_s13)
def x5_L15 : XC := (.seq (.seq (.reg [m 14 100,m 9 101,e 38 101 102,a (.binOp .lss 3 (t 100) (t 102) 3) 103]) (.cond (t 103) .skip (.exit 6))) x5_s14)
def x5_s16 : XC := (.seq (.seq (.reg [a (.assign (i 0)) 14]) (.block 6 (.loop x5_L15))) (.seq (.reg [b (k 17 #[] #[]) 156,n 156 6]) .ret))
def x5_s17 : XC := (.seq (.seq (.reg [a (.assign (i 0)) 10]) (.block 0 (.loop x5_L7))) (.seq (.reg [a (.assign (.const (.bool true))) 13]) x5_s16))
def x5_s18 : XC := (.seq (.reg [l 31 7 25,m 8 26,b (k 21 #[(t 25),(t 26)] #[31,38]) 27,n 27 9]) x5_s17)
def x5_s19 : XC := (.seq (.reg [l 31 7 22,m 2 23,b (k 18 #[(t 22),(t 23)] #[31,22]) 24,n 24 8]) x5_s18)
def x5_s20 : XC := (.seq (.reg [m 0 19,m 1 20,b (k 9 #[(t 19),(t 20)] #[22,22]) 21,a (.alloc 31) 7,w 31 7 21]) x5_s19)
def x5 : XC := (.seq (.reg [a (.assign (.const (.bool false))) 6]) x5_s20)
theorem b5 : Bt 5 157 x5 [(.tmp 6)] := bt Try.func5 rfl (by kernel_rfl) (by kernel_rfl) (by kernel_rfl)
def x6_s0 : XC := (.reg [m 10 33,b (.binOp .add 3 (t 33) (i 1) 3) 34,n 34 10])
def x6_s1 : XC := (.seq (.block 1 (.seq (.regD [m 8 35,m 9 36,m 10 37,j 38 36 37 38,l 34 38 39,a (k 25 #[(t 35),(t 39)] #[38,34]) 40,a (.unOp .not 4 (t 40)) 41,m 41 42,g (.move (t 10)) 43 42 false,g (.binOp .gtr 3 (t 43) (i 0) 3) 44 42 false,g (.move (t 44)) 45 42 false,g (.load 31 (t 7)) 46 45 true,g (.move (t 9)) 47 45 true,g (.move (t 10)) 48 45 true,g (.binOp .sub 3 (t 48) (i 1) 3) 49 45 true,g (.indexAddr 38 (t 47) (t 49)) 50 45 true,g (.load 34 (t 50)) 51 45 true,g (.move (t 9)) 52 45 true,g (.move (t 10)) 53 45 true,g (.indexAddr 38 (t 52) (t 53)) 54 45 true,g (.load 34 (t 54)) 55 45 true,g (k 19 #[(t 46),(t 51),(t 55)] #[31,34,34]) 56 45 true,g (.unOp .not 4 (t 56)) 57 45 true,g (.pick (t 45) (t 57) (.const (.bool false))) 58 42 false,a (.pick (t 42) (.const (.bool true)) (t 58)) 59]) (.cond (t 59) (.seq (.reg [a (.assign (.const (.bool false))) 6]) .ret) .skip))) x6_s0)
def x6_L2 : XC := (.seq (.seq (.reg [m 10 29,m 9 30,e 38 30 31,a (.binOp .lss 3 (t 29) (t 31) 3) 32]) (.cond (t 32) .skip (.exit 0))) x6_s1)
def x6_s3 : XC := (.reg [m 15 92,m 92 93,g (.move (t 19)) 94 93 false,g (.move (t 94)) 95 93 false,g (.fieldAddr 37 (t 12) 0) 96 95 true,g (.load 3 (t 96)) 97 95 true,g (.fieldAddr 37 (t 17) 1) 98 95 true,g (.load 3 (t 98)) 99 95 true,g (.binOp .leq 3 (t 97) (t 99) 3) 100 95 true,g (.pick (t 95) (t 100) (.const (.bool false))) 101 93 false,g (.move (t 101)) 102 93 false,g (.fieldAddr 37 (t 17) 1) 103 102 true,g (.load 3 (t 103)) 104 102 true,g (.fieldAddr 37 (t 12) 1) 105 102 true,g (.load 3 (t 105)) 106 102 true,g (.binOp .leq 3 (t 104) (t 106) 3) 107 102 true,g (.pick (t 102) (t 107) (.const (.bool false))) 108 93 false,b (.pick (t 93) (.const (.bool true)) (t 108)) 109,n 109 15])
def x6_s4 : XC := (.reg [m 16 80,b (.binOp .add 3 (t 80) (i 1) 3) 81,n 81 16])
def x6_s5 : XC := (.seq (.block 5 (.seq (.regT [] [([l 31 7 83,m 9 84,m 16 85,j 38 84 85 86,l 34 86 87,a (k 11 #[(t 83),(t 87)] #[31,34]) 88,m 88 82,b (.extract (t 82) 0) 89,b (.extract (t 82) 1) 90,b (.extract (t 82) 2) 91],a (.alloc 37) 17,false),([],w 37 17 89,false)] [n 90 18] [n 91 19]) x6_s3)) x6_s4)
def x6_L6 : XC := (.seq (.seq (.reg [m 16 76,m 9 77,e 38 77 78,a (.binOp .lss 3 (t 76) (t 78) 3) 79]) (.cond (t 79) .skip (.exit 4))) x6_s5)
def x6_s7 : XC := (.seq (.reg [m 14 110,m 110 111,g (.move (t 15)) 112 111 true,g (.unOp .not 4 (t 112)) 113 111 true,a (.pick (t 111) (t 113) (.const (.bool false))) 114,m 114 115,g (.move (t 14)) 116 115 false,g (.unOp .not 4 (t 116)) 117 115 false,g (.move (t 117)) 118 115 false,g (.move (t 9)) 119 118 true,g (.move (t 8)) 120 118 true,g (.move (t 11)) 121 118 true,g (.indexAddr 38 (t 120) (t 121)) 122 118 true,g (.load 34 (t 122)) 123 118 true,g (k 25 #[(t 119),(t 123)] #[38,34]) 124 118 true,g (.pick (t 118) (t 124) (.const (.bool false))) 125 115 false,a (.pick (t 115) (.const (.bool true)) (t 125)) 126]) (.cond (t 126) (.seq (.reg [a (.assign (.const (.bool false))) 6]) .ret) .skip))
def x6_s8 : XC := (.seq (.reg [a (.assign (.const (.bool false))) 15]) (.seq (.seq (.reg [a (.assign (i 0)) 16]) (.block 4 (.loop x6_L6))) x6_s7))
def x6_s9 : XC := (.reg [m 11 64,b (.binOp .add 3 (t 64) (i 1) 3) 65,n 65 11])
def x6_s10 : XC := (.seq (.block 3 (.seq (.regT [] [([l 31 7 67,m 8 68,m 11 69,j 38 68 69 70,l 34 70 71,a (k 11 #[(t 67),(t 71)] #[31,34]) 72,m 72 66,b (.extract (t 66) 0) 73,b (.extract (t 66) 1) 74,b (.extract (t 66) 2) 75],a (.alloc 37) 12,false),([],w 37 12 73,false)] [n 74 13] [n 75 14]) x6_s8)) x6_s9)
def x6_L11 : XC := (.seq (.seq (.reg [m 11 60,m 8 61,e 38 61 62,a (.binOp .lss 3 (t 60) (t 62) 3) 63]) (.cond (t 63) .skip (.exit 2))) x6_s10)
def x6_s12 : XC := (.seq (.seq (.reg [a (.assign (i 0)) 11]) (.block 2 (.loop x6_L11))) (.seq (.reg [b (k 17 #[] #[]) 127,n 127 6]) .ret))
def x6_s13 : XC := (.seq (.reg [l 31 7 26,m 8 27,b (k 23 #[(t 26),(t 27)] #[31,38]) 28,n 28 9]) (.seq (.seq (.reg [a (.assign (i 0)) 10]) (.block 0 (.loop x6_L2))) x6_s12))
def x6_s14 : XC := (.seq (.reg [l 31 7 23,m 2 24,b (k 18 #[(t 23),(t 24)] #[31,22]) 25,n 25 8]) x6_s13)
def x6_s15 : XC := (.seq (.reg [m 0 20,m 1 21,b (k 9 #[(t 20),(t 21)] #[22,22]) 22,a (.alloc 31) 7,w 31 7 22]) x6_s14)
def x6 : XC := (.seq (.reg [a (.assign (.const (.bool false))) 6]) x6_s15)
theorem b6 : Bt 6 128 x6 [(.tmp 6)] := bt Try.func6 rfl (by kernel_rfl) (by kernel_rfl) (by kernel_rfl)
def x7_s0 : XC := (.regD [f 31 9 2 38,c (.load 25 (t 38)) 39,f 31 9 2 40,l 25 40 41,a (.indexAddr 25 (t 41) (i 0)) 42,f 54 42 0 43,l 34 43 44,a (.build 37 #[(0,(i 1)),(1,(i 1))]) 45,a (.build 56 #[(2,(t 45))]) 46,a (.buildSlice 52 1 #[(0,(t 46))]) 47,a (.build 54 #[(0,(t 44)),(3,(t 47))]) 48,a (.buildSlice 25 1 #[(0,(t 48))]) 49,b (.call ⟨(.builtin .append),#[(t 39),(t 49)],#[25,25]⟩) 50,f 31 9 2 51,w 25 51 50])
def x7_c1 : XC := (.seq (.regD [f 31 9 2 23,l 25 23 24,f 31 9 2 25,l 25 25 26,a (.indexAddr 25 (t 26) (i 0)) 27,f 54 27 3 28,c (.load 52 (t 28)) 29,m 2 30,m 3 31,a (.build 37 #[(0,(t 30)),(1,(t 31))]) 32,a (.build 56 #[(2,(t 32))]) 33,a (.buildSlice 52 1 #[(0,(t 33))]) 34,b (.call ⟨(.builtin .append),#[(t 29),(t 34)],#[52,52]⟩) 35,a (.indexAddr 25 (t 24) (i 0)) 36,f 54 36 3 37,w 52 37 35]) x7_s0)
def x7_s2 : XC := (.seq (.reg [l 37 12 70,l 37 14 71,a (.binOp .neq 37 (t 70) (t 71) 37) 72,m 72 73,g (.move (t 13)) 74 73 false,g (.move (t 15)) 75 73 false,g (.binOp .neq 4 (t 74) (t 75) 4) 76 73 false,a (.pick (t 73) (.const (.bool true)) (t 76)) 77]) (.cond (t 77) (.seq (.reg [a (.assign (.const (.bool false))) 8]) .ret) .skip))
def x7_s3 : XC := (.seq (.reg [l 31 9 65,l 34 11 66,a (k 27 #[(t 65),(t 66)] #[31,34]) 67,m 67 64,b (.extract (t 64) 0) 68,b (.extract (t 64) 1) 69,a (.alloc 37) 14,w 37 14 68,n 69 15]) x7_s2)
def x7_s4 : XC := (.seq (.reg [l 31 9 59,l 34 11 60,a (k 26 #[(t 59),(t 60)] #[31,34]) 61,m 61 58,b (.extract (t 58) 0) 62,b (.extract (t 58) 1) 63,a (.alloc 37) 12,w 37 12 62,n 63 13]) x7_s3)
def x7_s5 : XC := (.reg [m 10 54,b (.binOp .add 3 (t 54) (i 1) 3) 55,n 55 10])
def x7_s6 : XC := (.seq (.block 1 (.seq (.reg [m 10 56,b (.build 34 #[(0,(i 6)),(1,(i 1)),(2,(t 56))]) 57,a (.alloc 34) 11,w 34 11 57]) x7_s4)) x7_s5)
def x7_L7 : XC := (.seq (.seq (.reg [m 10 52,a (.binOp .lss 3 (t 52) (i 6) 3) 53]) (.cond (t 53) .skip (.exit 0))) x7_s6)
def x7_s8 : XC := (.seq (.seq (.reg [a (.assign (i (-1))) 10]) (.block 0 (.loop x7_L7))) (.seq (.reg [b (k 17 #[] #[]) 78,n 78 8]) .ret))
def x7_s9 : XC := (.seq (.seq (.reg [f 31 9 2 19,l 25 19 20,e 25 20 21,a (.binOp .gtr 3 (t 21) (i 0) 3) 22]) (.cond (t 22) x7_c1 .skip)) x7_s8)
def x7_s10 : XC := (.seq (.reg [m 0 16,m 1 17,b (k 9 #[(t 16),(t 17)] #[22,22]) 18,a (.alloc 31) 9,w 31 9 18]) x7_s9)
def x7 : XC := (.seq (.reg [a (.assign (.const (.bool false))) 8]) x7_s10)
theorem b7 : Bt 7 79 x7 [(.tmp 8)] := bt Try.func7 rfl (by kernel_rfl) (by kernel_rfl) (by kernel_rfl)
def x8_s0 : XC := (.regD [m 15 81,m 11 82,m 16 83,j 65 82 83 84,f 37 84 0 85,l 3 85 86,m 2 87,m 16 88,m 11 89,m 16 90,j 65 89 90 91,f 37 91 1 92,l 3 92 93,m 11 94,m 16 95,j 65 94 95 96,f 37 96 0 97,l 3 97 98,a (.binOp .sub 3 (t 93) (t 98) 3) 99,a (.binOp .add 3 (t 99) (i 1) 3) 100,a (k 30 #[(t 87),(t 88),(t 100)] #[22,3,3]) 101,a (.binOp .add 3 (t 86) (t 101) 3) 102,b (.call ⟨(.builtin .min),#[(t 81),(t 102)],#[3,3]⟩) 103,n 103 15])
def x8_s1 : XC := (.reg [m 16 73,b (.binOp .add 3 (t 73) (i 1) 3) 74,n 74 16])
def x8_s2 : XC := (.seq (.block 3 (.seq (.seq (.reg [m 11 75,m 16 76,j 65 75 76 77,l 37 77 78,a (k 29 #[(t 78)] #[37]) 79,a (.unOp .not 4 (t 79)) 80]) (.cond (t 80) (.seq (.reg [a (.assign (.const (.bool false))) 6]) .ret) .skip)) x8_s0)) x8_s1)
def x8_L3 : XC := (.seq (.seq (.reg [m 16 69,m 11 70,e 65 70 71,a (.binOp .lss 3 (t 69) (t 71) 3) 72]) (.cond (t 72) .skip (.exit 2))) x8_s2)
def x8_s4 : XC := (.reg [m 19 127,b (.binOp .add 3 (t 127) (i 1) 3) 128,n 128 19])
def x8_s5 : XC := (.seq (.block 7 (.regD [m 18 129,m 129 130,g (.move (t 11)) 131 130 true,g (.move (t 17)) 132 130 true,g (.indexAddr 65 (t 131) (t 132)) 133 130 true,g (.fieldAddr 37 (t 133) 0) 134 130 true,g (.load 3 (t 134)) 135 130 true,g (.move (t 11)) 136 130 true,g (.move (t 19)) 137 130 true,g (.indexAddr 65 (t 136) (t 137)) 138 130 true,g (.fieldAddr 37 (t 138) 1) 139 130 true,g (.load 3 (t 139)) 140 130 true,g (.binOp .leq 3 (t 135) (t 140) 3) 141 130 true,b (.pick (t 130) (t 141) (.const (.bool false))) 142,n 142 18])) x8_s4)
def x8_L6 : XC := (.seq (.seq (.reg [m 19 123,m 10 124,e 38 124 125,a (.binOp .lss 3 (t 123) (t 125) 3) 126]) (.cond (t 126) .skip (.exit 6))) x8_s5)
def x8_s7 : XC := (.reg [m 20 147,b (.binOp .add 3 (t 147) (i 1) 3) 148,n 148 20])
def x8_s8 : XC := (.seq (.block 9 (.regD [m 18 149,m 149 150,g (.move (t 10)) 151 150 false,g (.move (t 20)) 152 150 false,g (.indexAddr 38 (t 151) (t 152)) 153 150 false,g (.load 34 (t 153)) 154 150 false,g (.move (t 10)) 155 150 false,g (.move (t 17)) 156 150 false,g (.indexAddr 38 (t 155) (t 156)) 157 150 false,g (.load 34 (t 157)) 158 150 false,g (.binOp .eql 34 (t 154) (t 158) 34) 159 150 false,g (.move (t 159)) 160 150 false,g (.move (t 11)) 161 160 true,g (.move (t 20)) 162 160 true,g (.indexAddr 65 (t 161) (t 162)) 163 160 true,g (.fieldAddr 37 (t 163) 0) 164 160 true,g (.load 3 (t 164)) 165 160 true,g (.fieldAddr 37 (t 12) 1) 166 160 true,g (.load 3 (t 166)) 167 160 true,g (.binOp .leq 3 (t 165) (t 167) 3) 168 160 true,g (.pick (t 160) (t 168) (.const (.bool false))) 169 150 false,b (.pick (t 150) (.const (.bool true)) (t 169)) 170,n 170 18])) x8_s7)
def x8_L9 : XC := (.seq (.seq (.reg [m 20 143,m 10 144,e 38 144 145,a (.binOp .lss 3 (t 143) (t 145) 3) 146]) (.cond (t 146) .skip (.exit 8))) x8_s8)
def x8_s10 : XC := (.seq (.reg [m 18 171,m 13 172,m 10 173,m 17 174,j 38 173 174 175,l 34 175 176,a (k 25 #[(t 172),(t 176)] #[38,34]) 177,a (.binOp .neq 4 (t 171) (t 177) 4) 178]) (.cond (t 178) (.seq (.reg [a (.assign (.const (.bool false))) 6]) .ret) .skip))
def x8_s11 : XC := (.seq (.seq (.reg [a (.assign (i 0)) 19]) (.block 6 (.loop x8_L6))) (.seq (.seq (.reg [a (.assign (i 0)) 20]) (.block 8 (.loop x8_L9))) x8_s10))
def x8_s12 : XC := (.reg [m 17 121,b (.binOp .add 3 (t 121) (i 1) 3) 122,n 122 17])
def x8_L13 : XC := (.seq (.seq (.reg [m 17 117,m 10 118,e 38 118 119,a (.binOp .lss 3 (t 117) (t 119) 3) 120]) (.cond (t 120) .skip (.exit 4))) (.seq (.block 5 (.seq (.reg [a (.assign (.const (.bool true))) 18]) x8_s11)) x8_s12))
def x8_s14 : XC := (.seq (.seq (.reg [m 14 104,m 104 105,g (.move (t 15)) 106 105 true,g (.fieldAddr 37 (t 12) 0) 107 105 true,g (.load 3 (t 107)) 108 105 true,g (.binOp .lss 3 (t 106) (t 108) 3) 109 105 true,g (.move (t 109)) 110 105 true,g (.move (t 15)) 111 110 false,g (.fieldAddr 37 (t 12) 1) 112 110 false,g (.load 3 (t 112)) 113 110 false,g (.binOp .gtr 3 (t 111) (t 113) 3) 114 110 false,g (.pick (t 110) (.const (.bool true)) (t 114)) 115 105 true,a (.pick (t 105) (t 115) (.const (.bool false))) 116]) (.cond (t 116) (.seq (.reg [a (.assign (.const (.bool false))) 6]) .ret) .skip)) (.seq (.reg [a (.assign (i 0)) 17]) (.block 4 (.loop x8_L13))))
def x8_s15 : XC := (.seq (.reg [a (.assign (i 1073741824)) 15]) (.seq (.seq (.reg [a (.assign (i 0)) 16]) (.block 2 (.loop x8_L3))) x8_s14))
def x8_s16 : XC := (.seq (.seq (.reg [m 14 50,m 10 51,e 38 51 52,a (.binOp .gtr 3 (t 52) (i 0) 3) 53,a (.binOp .neq 4 (t 50) (t 53) 4) 54,m 54 55,g (.move (t 14)) 56 55 false,g (.unOp .not 4 (t 56)) 57 55 false,g (.move (t 57)) 58 55 false,g (.load 37 (t 12)) 59 58 true,g (.build 37 #[]) 60 58 true,g (.binOp .neq 37 (t 59) (t 60) 37) 61 58 true,g (.move (t 61)) 62 58 true,g (.move (t 13)) 63 62 false,g (.call ⟨(.builtin .len),#[(t 63)],#[38]⟩) 64 62 false,g (.binOp .gtr 3 (t 64) (i 0) 3) 65 62 false,g (.pick (t 62) (.const (.bool true)) (t 65)) 66 58 true,g (.pick (t 58) (t 66) (.const (.bool false))) 67 55 false,a (.pick (t 55) (.const (.bool true)) (t 67)) 68]) (.cond (t 68) (.seq (.reg [a (.assign (.const (.bool false))) 6]) .ret) .skip)) x8_s15)
def x8_s17 : XC := (.seq (.reg [l 31 7 44,l 34 9 45,a (k 11 #[(t 44),(t 45)] #[31,34]) 46,m 46 43,b (.extract (t 43) 0) 47,b (.extract (t 43) 1) 48,b (.extract (t 43) 2) 49,a (.alloc 37) 12,w 37 12 47,n 48 13,n 49 14]) x8_s16)
def x8_s18 : XC := (.seq (.reg [l 31 7 38,l 34 9 39,a (k 28 #[(t 38),(t 39)] #[31,34]) 40,m 40 37,b (.extract (t 37) 0) 41,b (.extract (t 37) 1) 42,n 41 10,n 42 11]) x8_s17)
def x8_s19 : XC := (.reg [m 8 29,b (.binOp .add 3 (t 29) (i 1) 3) 30,n 30 8])
def x8_s20 : XC := (.seq (.block 1 (.seq (.reg [f 31 7 1 31,l 24 31 32,m 8 33,j 24 32 33 34,f 64 34 0 35,b (.load 34 (t 35)) 36,a (.alloc 34) 9,w 34 9 36]) x8_s18)) x8_s19)
def x8_L21 : XC := (.seq (.seq (.reg [m 8 24,f 31 7 1 25,l 24 25 26,e 24 26 27,a (.binOp .lss 3 (t 24) (t 27) 3) 28]) (.cond (t 28) .skip (.exit 0))) x8_s20)
def x8_s22 : XC := (.seq (.seq (.reg [a (.assign (i 0)) 8]) (.block 0 (.loop x8_L21))) (.seq (.reg [b (k 17 #[] #[]) 179,n 179 6]) .ret))
def x8_s23 : XC := (.seq (.reg [m 0 21,m 1 22,b (k 9 #[(t 21),(t 22)] #[22,22]) 23,a (.alloc 31) 7,w 31 7 23]) x8_s22)
def x8 : XC := (.seq (.reg [a (.assign (.const (.bool false))) 6]) x8_s23)
theorem b8 : Bt 8 180 x8 [(.tmp 6)] := bt Try.func8 rfl (by kernel_rfl) (by kernel_rfl) (by kernel_rfl)
end Go.Proofs.Ytffbjejmobhpkaa
end
section
namespace Go.Proofs.Ytffbjejmobhpkaa
open Go Go.Aw
def around (n most : Int) : Int := (if n < 0 then -(n + 1) else n).tmod most
theorem around_range {n most : Int} (h : 0 < most) : 0 ≤ around n most ∧ around n most < most := by
 unfold around
 have h0 : 0 ≤ (if n < 0 then -(n + 1) else n) := by split <;> omega
 rw [Int.tmod_eq_emod_of_nonneg h0]
 exact ⟨Int.emod_nonneg _ (by omega),Int.emod_lt_of_pos _ h⟩
theorem f_around {n most : Int} {H : AH} {R : D → AH → Prop} (hm : 0 < most) (h : R (.int .i64 (around n most)) H) : ACall Try.prog 14 [.int .i64 n,.int .i64 most] H R := by
 refine b14 fun hf=>?_
 have hn := hf.1
 rw [f_int,inR_i64] at hn
 simp +contextual only [x14,↓U14,↓XP,↓XU,XW0,XW1,qa,qb,qc,qd,qe,qf,reduceCtorEq,TYX]
 unfold around at h
 refine ⟨fun h0=>?_,fun h0=>?_⟩
 ·rw [wrap_id (n := n + 1) (by omega) (by omega),wrap_id (n := 0 - (n + 1)) (by omega) (by omega)]
  rw [if_pos h0] at h
  refine ⟨by omega,?_⟩
  rw [show 0 - (n + 1) = -(n + 1) by omega]
  exact h
 ·rw [if_neg h0] at h
  exact ⟨by omega,h⟩
def atOf (l : List Int) (i : Nat) (most : Int) : Int := match l[i]? with
 | some n=>around n most
 | none=>0
theorem atOf_range {l : List Int} {i : Nat} {most : Int} (h : 0 < most) : 0 ≤ atOf l i most ∧ atOf l i most < most := by
 unfold atOf
 split
 ·exact around_range h
 ·omega
theorem ints_get {l : List Int} {i : Nat} (h : i < l.length) : (mapD intD l).getD i [] = [.int .i64 l[i]] := by simp [mapD,intD,h]
theorem f_at {l : List Int} {i : Nat} {most : Int} {H : AH} {R : D → AH → Prop} (hm : 0 < most) (h : R (.int .i64 (atOf l i most)) H) : ACall Try.prog 30 [.slc (mapD intD l),.int .i64 i,.int .i64 most] H R := by
 refine b30 fun hf=>?_
 by_cases hi : i < l.length
 ·simp +contextual only [x30,mapD_len,ints_get hi,↓U30,↓XP,↓XU,XW0,XW1,qa,qb,qc,qd,qe,qf,reduceCtorEq,TYX]
  refine ⟨fun hneg=>absurd hneg (by omega),fun _ _=>⟨fun hge=>absurd hge (by omega),fun _=>?_⟩⟩
  refine ⟨by omega,fun _=>f_around hm ?_⟩
  simp +contextual only [↓U30,↓XP,↓XU,XW0,XW1,qa,qb,qc,qd,qe,qf,reduceCtorEq,TYX]
  intro _
  unfold atOf at h
  rw [List.getElem?_eq_getElem hi] at h
  exact h
 ·simp +contextual only [x30,mapD_len,↓U30,↓XP,↓XU,XW0,XW1,qa,qb,qc,qd,qe,qf,reduceCtorEq,TYX]
  refine ⟨fun hneg=>absurd hneg (by omega),fun _ _=>⟨fun hge=>?_,fun hlt=>absurd (by omega) hlt⟩⟩
  unfold atOf at h
  rw [List.getElem?_eq_none (by omega)] at h
  exact h
theorem f_rSpan {x : Sp} {H : AH} {R : D → AH → Prop} (h : R (.bool (decide (OkSpan x))) H) : ACall Try.prog 49 [.agg x.d] H R := by
 refine b49 fun hf=>?_
 have hd : x.d = [.int .i64 x.a,.int .i64 x.b] := rfl
 have hk : ∀ c,decide (OkSpan x) = c → R (.bool c) H := fun b hb=>hb ▸ h
 simp +contextual only [x49,hd,↓u49_s0,↓XP,↓XU,XW0,XW1,qa,qb,qc,qd,qe,qf,reduceCtorEq,TYX]
 intro b1 h1
 repeat' (first | apply And.intro | intro _)
 all_goals first
  | exact hk _ (decide_eq_true (by unfold OkSpan; omega))
  | exact hk _ (decide_eq_false (by unfold OkSpan; omega))
  | exact hk _ (decide_eq_decide.2 (by unfold OkSpan; omega))
  | skip
theorem f_span {x : Sp} {H : AH} {R : D → AH → Prop} (h : R (.bool (decide (OkSpan x))) H) : ACall Try.prog 29 [.agg x.d] H R := by
 refine b29 fun hf=>?_
 have hd : x.d = [.int .i64 x.a,.int .i64 x.b] := rfl
 have hk : ∀ c,decide (OkSpan x) = c → R (.bool c) H := fun b hb=>hb ▸ h
 simp +contextual only [x29,hd,↓u29_s0,↓XP,↓XU,XW0,XW1,qa,qb,qc,qd,qe,qf,reduceCtorEq,TYX]
 intro b1 h1
 repeat' (first | apply And.intro | intro _)
 all_goals first
  | exact hk _ (decide_eq_true (by unfold OkSpan; omega))
  | exact hk _ (decide_eq_false (by unfold OkSpan; omega))
  | exact hk _ (decide_eq_decide.2 (by unfold OkSpan; omega))
  | skip
theorem f_less {x y : Id3} {H : AH} {R : D → AH → Prop} (h : R (.bool (decide (x.lt y))) H) : ACall Try.prog 47 [.agg x.d,.agg y.d] H R := by
 refine b47 fun hf=>?_
 have hx : x.d = [.int .i64 x.o,.int .i64 x.s,.int .i64 x.i] := rfl
 have hy : y.d = [.int .i64 y.o,.int .i64 y.s,.int .i64 y.i] := rfl
 have hk : ∀ c,decide (x.lt y) = c → R (.bool c) H := fun b hb=>hb ▸ h
 simp +contextual only [x47,hx,hy,↓U47,↓XP,↓XU,XW0,XW1,qa,qb,qc,qd,qe,qf,reduceCtorEq,TYX]
 repeat' (first | apply And.intro | intro _)
 all_goals first
  | exact hk _ (decide_eq_true (by unfold Id3.lt; omega))
  | exact hk _ (decide_eq_false (by unfold Id3.lt; omega))
  | exact hk _ (decide_eq_decide.2 (by unfold Id3.lt; omega))
  | skip
def idR (i : Nat) : Id3 := ⟨((i % 3 : Nat) : Int),((1 + i / 3 : Nat) : Int),((i % 5 : Nat) : Int)⟩
theorem f_ID {i : Nat} {H : AH} {R : D → AH → Prop} (h : R (.agg (idR i).d) H) : ACall Try.prog 10 [.int .i64 i] H R := by
 refine b10 fun hf=>?_
 have hn := hf.1
 rw [f_int,inR_i64] at hn
 have e3 : (i : Int).tmod 3 = ((i % 3 : Nat) : Int) := by rw [Int.tmod_eq_emod_of_nonneg (by omega)]; omega
 have e5 : (i : Int).tmod 5 = ((i % 5 : Nat) : Int) := by rw [Int.tmod_eq_emod_of_nonneg (by omega)]; omega
 have ed : IntKind.i64.wrap ((i : Int).tdiv 3) = ((i / 3 : Nat) : Int) := by rw [Int.tdiv_eq_ediv_of_nonneg (by omega),wrap_id (by omega) (by omega)]; omega
 have e1 : IntKind.i64.wrap (1 + ((i / 3 : Nat) : Int)) = ((1 + i / 3 : Nat) : Int) := by rw [wrap_id (by omega) (by omega)]; omega
 simp +contextual only [x10,e3,e5,ed,e1,↓u10_s0,↓XP,↓XU,XW0,XW1,qa,qb,qc,qd,qe,qf,reduceCtorEq,TYX]
 intros
 repeat' (first | apply And.intro | intro _)
 all_goals first | exact h | omega | skip
theorem f_id {i : Int} {H : AH} {R : D → AH → Prop} (h : R (.agg (Id3.d ⟨0,1,i⟩)) H) : ACall Try.prog 41 [.int .i64 i] H R := by
 refine b41 fun hf=>?_
 simp +contextual only [x41,↓u41_s0,↓XP,↓XU,XW0,XW1,qa,qb,qc,qd,qe,qf,reduceCtorEq,TYX]
 intros
 exact h
theorem cmp_nan {a : Int} {H : AH} {R : D → AH → Prop} (h : R (.bool false) H) : ACall Try.prog 54 [.int .i64 a] H R := by
 refine b54 fun hf=>?_
 simp +contextual only [x54,↓u54_s0,↓XP,↓XU,XW0,XW1,qa,qb,qc,qd,qe,qf,reduceCtorEq,TYX]
 exact h
theorem cmp_int {a b : Int} {H : AH} {R : D → AH → Prop} (h : R (.int .i64 (cmpZ a b)) H) : ACall Try.prog 45 [.int .i64 a,.int .i64 b] H R := by
 refine b45 fun hf=>?_
 unfold cmpZ at h
 simp +contextual only [x45,↓U45,↓XP,↓XU,XW0,XW1,qa,qb,qc,qd,qe,qf,reduceCtorEq,TYX]
 refine cmp_nan ?_
 simp +contextual only [↓U45,↓XP,↓XU,XW0,XW1,qa,qb,qc,qd,qe,qf,reduceCtorEq,TYX]
 refine cmp_nan ?_
 simp +contextual only [↓U45,↓XP,↓XU,XW0,XW1,qa,qb,qc,qd,qe,qf,reduceCtorEq,TYX]
 refine ⟨fun h1=>by simpa [h1] using h,fun h1=>⟨fun h2=>?_,fun h2=>?_⟩⟩
 ·simpa [h1,h2] using h
 ·simpa [h1,h2] using h
end Go.Proofs.Ytffbjejmobhpkaa
end
section
namespace Go.Proofs.Ytffbjejmobhpkaa
open Go Go.Aw
theorem cmp_or {l : List Int} {H : AH} {R : D → AH → Prop} (h : R (.int .i64 (orL l)) H) : ACall Try.prog 44 [.slc (mapD intD l)] H R := by
 refine b44 fun hf=>?_
 have hbig := big_eq
 have hlen : (mapD intD l).length ≤ big := hf.1
 rw [mapD_len] at hlen
 simp +contextual only [x44,mapD_len,↓U44,↓XP,↓XU,XW0,XW1,qa,qb,qc,qd,qe,qf,reduceCtorEq,TYX]
 refine fun _=>XW.loopS Go.Proofs.Ytffbjejmobhpkaa.hm 18 (fun i : Nat=>[(0,.slc (mapD intD l)),(3,.int .i64 0),(6,.slc (mapD intD l)),(7,.int .i64 l.length),(8,.int .i64 ((i : Nat) : Int))]) (fun i=>H) (fun i=>l.length - i) (fun i=>i ≤ l.length ∧ orL (l.drop i) = orL l) 0 ⟨by omega,rfl⟩ ⟨rfl,rfl,rfl,rfl,rfl,rfl,trivial⟩ rfl ?_
 rintro i z ⟨hi,hd⟩ K hN hE hR
 show xcode _ _ [.slc (mapD intD l),z 1,z 2,.int .i64 0,z 4,z 5,.slc (mapD intD l),.int .i64 l.length,.int .i64 ((i : Nat) : Int),z 9,z 10,z 11,z 12,z 13,z 14,z 15,z 16,z 17] _ K
 by_cases hlt : i < l.length
 ·rw [List.drop_eq_getElem_cons hlt,orL] at hd
  have g := ints_get hlt
  have hlt' : ((i : Int) < (l.length : Int)) = True := eq_true (by omega)
  by_cases h0 : l[i] = 0
  ·rw [if_pos h0] at hd
   simp +contextual only [x44,mapD_len,g,hlt',h0,wrap_succ (show i ≤ big by omega),↓U44,↓XP,↓XU,XW0,XW1,qa,qb,qc,qd,qe,qf,reduceCtorEq,TYX]
   repeat' (first | apply And.intro | intro _)
   all_goals first
    | exact hN (i + 1) _ _ ⟨hlt,hd⟩ (by omega) ⟨rfl,rfl,rfl,rfl,rfl,rfl,trivial⟩ (back_0 rfl)
    | omega
    | skip
  ·rw [if_neg h0] at hd
   simp +contextual only [x44,mapD_len,g,hlt',eq_false h0,↓U44,↓XP,↓XU,XW0,XW1,qa,qb,qc,qd,qe,qf,reduceCtorEq,TYX]
   repeat' (first | apply And.intro | intro _)
   all_goals first
    | exact hR _ _ (by simp +contextual only [x44,mapD_len,↓U44,↓XP,↓XU,XW0,XW1,qa,qb,qc,qd,qe,qf,reduceCtorEq,TYX]; rw [← hd] at h; exact h)
    | omega
    | skip
 ·have hik : i = l.length := by omega
  subst hik
  simp +contextual only [x44,mapD_len,↓U44,↓XP,↓XU,XW0,XW1,qa,qb,qc,qd,qe,qf,reduceCtorEq,TYX]
  refine hE _ _ _ ?_
  simp +contextual only [x44,mapD_len,↓U44,↓XP,↓XU,XW0,XW1,qa,qb,qc,qd,qe,qf,reduceCtorEq,TYX]
  rw [List.drop_length] at hd
  rw [← hd] at h
  exact h
theorem f_order {x y : Id3} {H : AH} {R : D → AH → Prop} (h : R (.int .i64 (ordI x y)) H) : ACall Try.prog 35 [.agg x.d,.agg y.d] H R := by
 refine b35 fun hf=>?_
 have hx : x.d = [.int .i64 x.o,.int .i64 x.s,.int .i64 x.i] := rfl
 have hy : y.d = [.int .i64 y.o,.int .i64 y.s,.int .i64 y.i] := rfl
 simp +contextual only [x35,hx,hy,↓u35_s0,↓XP,↓XU,XW0,XW1,qa,qb,qc,qd,qe,qf,reduceCtorEq,TYX]
 rintro b1 h1 b2 ⟨h2,h3⟩
 intros
 refine ⟨_,fun _ _=>cmp_int ⟨rfl,rfl⟩,?_⟩
 simp +contextual only [h_miss,h_skip,h2,↓u35_s0,↓XP,↓XU,XW0,XW1,qa,qb,qc,qd,qe,qf,reduceCtorEq,TYX]
 intros
 refine ⟨_,fun _ _=>cmp_int ⟨rfl,rfl⟩,?_⟩
 simp +contextual only [h_miss,h_skip,h2,↓u35_s0,↓XP,↓XU,XW0,XW1,qa,qb,qc,qd,qe,qf,reduceCtorEq,TYX]
 intros
 refine ⟨_,fun _ _=>cmp_int ⟨rfl,rfl⟩,?_⟩
 simp +contextual only [h_miss,h_skip,h2,↓u35_s0,↓XP,↓XU,XW0,XW1,qa,qb,qc,qd,qe,qf,reduceCtorEq,TYX]
 intros
 refine ⟨_,fun _ _=>cmp_or (l := [cmpZ x.o y.o,cmpZ x.s y.s,cmpZ x.i y.i]) ⟨rfl,rfl⟩,?_⟩
 simp +contextual only [h_miss,h_skip,h2,↓u35_s0,↓XP,↓XU,XW0,XW1,qa,qb,qc,qd,qe,qf,reduceCtorEq,TYX]
 intros
 exact h
theorem f_iorder {x y : Id3} {H : AH} {R : D → AH → Prop} (h : R (.int .i64 (ordI x y)) H) : ACall Try.prog 76 [.agg x.d,.agg y.d] H R := by
 refine b76 fun hf=>?_
 have hx : x.d = [.int .i64 x.o,.int .i64 x.s,.int .i64 x.i] := rfl
 have hy : y.d = [.int .i64 y.o,.int .i64 y.s,.int .i64 y.i] := rfl
 simp +contextual only [x76,hx,hy,↓u76_s0,↓XP,↓XU,XW0,XW1,qa,qb,qc,qd,qe,qf,reduceCtorEq,TYX]
 rintro b1 h1 b2 ⟨h2,h3⟩
 intros
 refine ⟨_,fun _ _=>cmp_int ⟨rfl,rfl⟩,?_⟩
 simp +contextual only [h_miss,h_skip,h2,↓u76_s0,↓XP,↓XU,XW0,XW1,qa,qb,qc,qd,qe,qf,reduceCtorEq,TYX]
 intros
 refine ⟨_,fun _ _=>cmp_int ⟨rfl,rfl⟩,?_⟩
 simp +contextual only [h_miss,h_skip,h2,↓u76_s0,↓XP,↓XU,XW0,XW1,qa,qb,qc,qd,qe,qf,reduceCtorEq,TYX]
 intros
 refine ⟨_,fun _ _=>cmp_int ⟨rfl,rfl⟩,?_⟩
 simp +contextual only [h_miss,h_skip,h2,↓u76_s0,↓XP,↓XU,XW0,XW1,qa,qb,qc,qd,qe,qf,reduceCtorEq,TYX]
 intros
 refine ⟨_,fun _ _=>cmp_or (l := [cmpZ x.o y.o,cmpZ x.s y.s,cmpZ x.i y.i]) ⟨rfl,rfl⟩,?_⟩
 simp +contextual only [h_miss,h_skip,h2,↓u76_s0,↓XP,↓XU,XW0,XW1,qa,qb,qc,qd,qe,qf,reduceCtorEq,TYX]
 intros
 exact h
end Go.Proofs.Ytffbjejmobhpkaa
end
