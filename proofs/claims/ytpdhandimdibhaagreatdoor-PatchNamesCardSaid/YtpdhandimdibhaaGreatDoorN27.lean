/- A part of the proof of what the last text says: XcG, Gt2, Gt3, Gt6. Conditions: those in each theorem. -/
import Derived.Test.YtpdhandimdibhaaGreatDoorN26
import Derived.KernelRfl
set_option linter.unusedVariables false
set_option linter.unusedSimpArgs false
set_option maxRecDepth 100000
set_option maxHeartbeats 16000000
open Nat renaming reduceSub → qa,reduceAdd → qb,reduceMul → qc,reduceEqDiff → qd,reduceLeDiff → qe,reduceBEq → qf
section
namespace Go.Proofs.YtpdhandimdibhaaGreatDoor
open Go.Xs
open Go Go.Aw
def x5_s0:XC:=(.reg [m 13 86,b (.binOp .add 3 (t 86) (i 1) 3) 87,n 87 13])
def x5_s1:XC:=(.seq (.block 2 (.gh (.regV [f 26 4 4 88,c (.load 24 (t 88)) 89,f 26 4 4 90,l 24 90 91,m 11 92,j 24 91 92 93,l 47 93 94,a (.buildSlice 24 1 #[(0,(t 94))]) 95] [b (.call ⟨(.builtin .append),#[(t 89),(t 95)],#[24,24,0,0]⟩) 96,f 26 4 4 97,w 24 97 96]))) x5_s0)
def x5_L2:XC:=(.seq (.seq (.reg [m 13 84,a (.binOp .lss 3 (t 84) (i 14) 3) 85]) (.cond (t 85) .skip (.exit 1))) x5_s1)
def x5_s3:XC:=(.reg [m 14 236,b (.binOp .add 3 (t 236) (i 1) 3) 237,n 237 14])
def x5_s4:XC:=(.seq (.block 4 (.gh (.regV [f 26 4 4 238,c (.load 24 (t 238)) 239,a (.build 37 #[(1,(i 1))]) 240,m 3 241,a (k 15 #[(t 241),(i 125)] #[3,3]) 242,a (.binOp .add 3 (i 900) (t 242) 3) 243,a (.makeSlice 48 (t 243) (t 243)) 244,a (.convert 48 9 (t 244)) 245,a (.build 47 #[(0,(i 7)),(1,(t 240)),(6,(t 245))]) 246,a (.buildSlice 24 1 #[(0,(t 246))]) 247] [b (.call ⟨(.builtin .append),#[(t 239),(t 247)],#[24,24,0,0]⟩) 248,f 26 4 4 249,w 24 249 248]))) x5_s3)
def x5_L5:XC:=(.seq (.seq (.reg [m 14 234,a (.binOp .lss 3 (t 234) (i 7) 3) 235]) (.cond (t 235) .skip (.exit 3))) x5_s4)
def x5_s6:XC:=(.reg [m 15 268,b (.binOp .add 3 (t 268) (i 1) 3) 269,n 269 15])
def x5_s7:XC:=(.seq (.block 6 (.reg [f 26 4 3 270,c (.load 23 (t 270)) 271,m 15 272,a (.build 43 #[(0,(t 272)),(1,(i 1))]) 273,a (.buildSlice 23 1 #[(0,(t 273))]) 274,b (.call ⟨(.builtin .append),#[(t 271),(t 274)],#[23,23]⟩) 275,f 26 4 3 276,w 23 276 275])) x5_s6)
def x5_L8:XC:=(.seq (.seq (.reg [m 15 263,m 3 264,a (k 15 #[(t 264),(i 4)] #[3,3]) 265,a (.binOp .add 3 (i 7) (t 265) 3) 266,a (.binOp .lss 3 (t 263) (t 266) 3) 267]) (.cond (t 267) .skip (.exit 5))) x5_s7)
def x5_c9:XC:=(.regD [f 26 4 4 36,l 24 36 37,m 11 38,m 3 39,a (k 15 #[(t 39),(i 18)] #[3,3]) 40,b (.binOp .add 3 (i 1) (t 40) 3) 41,j 24 37 38 42,f 47 42 0 43,w 3 43 41])
def x5_s10:XC:=(.cond (t 260) (.seq (.reg [f 26 4 3 262,s (.store 23 (t 262) (.const (.slice .none 0 0)))]) (.seq (.reg [a (.assign (i 0)) 15]) (.block 5 (.loop x5_L8)))) x5_c9)
def x5_c11:XC:=(.reg [a (.buildSlice 22 4 #[(0,(i 0)),(1,(i 1)),(2,(i 1200)),(3,(i 1201))]) 252,m 3 253,a (k 15 #[(t 253),(i 4)] #[3,3]) 254,j 22 252 254 255,l 3 255 256,a (.makeSlice 48 (t 256) (t 256)) 257,b (.convert 48 9 (t 257)) 258,f 26 4 5 259,w 9 259 258])
def x5_c12:XC:=(.seq (.reg [b (.binOp .eql 3 (t 35) (i 17) 3) 251,n 251 250]) (.cond (t 250) x5_c11 (.seq (.reg [b (.binOp .eql 3 (t 35) (i 18) 3) 261,n 261 260]) x5_s10)))
def x5_c13:XC:=(.regD [f 26 4 4 217,l 24 217 218,m 11 219,a (.build 37 #[(0,(i 1)),(1,(i 1))]) 220,a (.build 37 #[(0,(i 1)),(1,(i 1)),(2,(i 2))]) 221,m 3 222,a (k 15 #[(t 222),(i 4)] #[3,3]) 223,a (.build 37 #[(0,(i 1)),(1,(i 1)),(2,(t 223))]) 224,a (.buildSlice 30 2 #[(0,(t 221)),(1,(t 224))]) 225,m 3 226,a (.binOp .quo 3 (t 226) (i 4) 3) 227,a (k 15 #[(t 227),(i 5)] #[3,3]) 228,a (.binOp .sub 3 (t 228) (i 2) 3) 229,b (.build 47 #[(0,(i 16)),(1,(t 220)),(3,(t 225)),(4,(t 229))]) 230,j 24 218 219 231,w 47 231 230])
def x5_s14:XC:=(.cond (t 215) x5_c13 (.seq (.reg [b (.binOp .eql 3 (t 35) (i 16) 3) 233,n 233 232]) (.cond (t 232) (.seq (.reg [a (.assign (i 0)) 14]) (.block 3 (.loop x5_L5))) x5_c12)))
def x5_c15:XC:=(.regD [f 26 4 4 200,l 24 200 201,m 11 202,m 12 203,a (.build 37 #[(0,(i 1)),(1,(i 1)),(2,(t 203))]) 204,c (.buildSlice 30 1 #[(0,(t 204))]) 205,f 26 4 4 206,l 24 206 207,m 11 208,j 24 207 208 209,f 47 209 3 210,l 30 210 211,b (.call ⟨(.builtin .append),#[(t 205),(t 211)],#[30,30]⟩) 212,j 24 201 202 213,f 47 213 3 214,w 30 214 212])
def x5_c16:XC:=(.regD [f 26 4 4 188,l 24 188 189,m 11 190,m 3 191,a (k 15 #[(t 191),(i 3)] #[3,3]) 192,m 3 193,a (k 15 #[(t 193),(i 5)] #[3,3]) 194,b (.build 45 #[(0,(t 192)),(1,(t 194))]) 195,j 24 189 190 196,f 47 196 7 197,w 45 197 195])
def x5_c17:XC:=(.seq (.reg [b (.binOp .eql 3 (t 35) (i 14) 3) 199,n 199 198]) (.cond (t 198) x5_c15 (.seq (.reg [b (.binOp .eql 3 (t 35) (i 15) 3) 216,n 216 215]) x5_s14)))
def x5_c18:XC:=(.regD [f 26 4 4 174,l 24 174 175,m 11 176,a (.buildSlice 22 4 #[(0,(i 0)),(1,(i 1)),(2,(i 1024)),(3,(i 1025))]) 177,m 3 178,a (k 15 #[(t 178),(i 4)] #[3,3]) 179,j 22 177 179 180,l 3 180 181,a (.makeSlice 48 (t 181) (t 181)) 182,b (.convert 48 9 (t 182)) 183,j 24 175 176 184,f 47 184 6 185,w 9 185 183])
def x5_s19:XC:=(.cond (t 172) x5_c18 (.seq (.reg [b (.binOp .eql 3 (t 35) (i 13) 3) 187,n 187 186]) (.cond (t 186) x5_c16 x5_c17)))
def x5_c20:XC:=(.regD [f 26 4 4 164,l 24 164 165,m 11 166,m 3 167,a (k 15 #[(t 167),(i 18)] #[3,3]) 168,b (.slice 9 (.const (.string ⟨#[115,105,120,116,101,101,110,32,108,101,116,116,101,114,115,33,33]⟩)) .none (.some (t 168)) .none) 169,j 24 165 166 170,f 47 170 5 171,w 9 171 169])
def x5_c21:XC:=(.regD [f 26 4 4 151,l 24 151 152,m 11 153,m 3 154,a (.buildSlice 22 10 #[(0,(i (-2))),(1,(i (-1))),(2,(i 0)),(3,(i 1)),(4,(i 2)),(5,(i 1023)),(6,(i 1024)),(7,(i 1048576)),(8,(i 1048577)),(9,(t 154))]) 155,m 3 156,a (k 15 #[(t 156),(i 10)] #[3,3]) 157,j 22 155 157 158,b (.load 3 (t 158)) 159,j 24 152 153 160,f 47 160 4 161,w 3 161 159])
def x5_c22:XC:=(.seq (.reg [b (.binOp .eql 3 (t 35) (i 11) 3) 163,n 163 162]) (.cond (t 162) x5_c20 (.seq (.reg [b (.binOp .eql 3 (t 35) (i 12) 3) 173,n 173 172]) x5_s19)))
def x5_c23:XC:=(.regD [f 26 4 4 138,l 24 138 139,m 11 140,f 26 4 4 141,l 24 141 142,m 11 143,j 24 142 143 144,f 47 144 1 145,b (.load 37 (t 145)) 146,j 24 139 140 147,f 47 147 2 148,w 37 148 146])
def x5_s24:XC:=(.cond (t 136) x5_c23 (.seq (.reg [b (.binOp .eql 3 (t 35) (i 10) 3) 150,n 150 149]) (.cond (t 149) x5_c21 x5_c22)))
def x5_c25:XC:=(.regD [f 26 4 4 123,l 24 123 124,m 11 125,m 3 126,a (k 15 #[(t 126),(i 9)] #[3,3]) 127,m 12 128,m 3 129,a (.binOp .quo 3 (t 129) (i 5) 3) 130,a (k 15 #[(t 130),(i 18)] #[3,3]) 131,a (.binOp .sub 3 (t 131) (i 1) 3) 132,b (.build 37 #[(0,(t 127)),(1,(t 128)),(2,(t 132))]) 133,j 24 124 125 134,f 47 134 2 135,w 37 135 133])
def x5_c26:XC:=(.regD [f 26 4 4 108,l 24 108 109,m 11 110,m 12 111,m 3 112,a (k 15 #[(t 112),(i 19)] #[3,3]) 113,m 3 114,a (.binOp .quo 3 (t 114) (i 5) 3) 115,a (k 15 #[(t 115),(i 18)] #[3,3]) 116,a (.binOp .sub 3 (t 116) (i 1) 3) 117,b (.build 37 #[(0,(t 111)),(1,(t 113)),(2,(t 117))]) 118,j 24 109 110 119,f 47 119 1 120,w 37 120 118])
def x5_c27:XC:=(.seq (.reg [b (.binOp .eql 3 (t 35) (i 8) 3) 122,n 122 121]) (.cond (t 121) x5_c25 (.seq (.reg [b (.binOp .eql 3 (t 35) (i 9) 3) 137,n 137 136]) x5_s24)))
def x5_c28:XC:=(.reg [f 26 4 4 100,l 24 100 101,m 11 102,b (.move (t 12)) 103,j 24 101 102 104,f 47 104 0 105,w 3 105 103])
def x5_s29:XC:=(.cond (t 98) x5_c28 (.seq (.reg [b (.binOp .eql 3 (t 35) (i 7) 3) 107,n 107 106]) (.cond (t 106) x5_c26 x5_c27)))
def x5_s30:XC:=(.cond (t 82) (.seq (.reg [a (.assign (i 0)) 13]) (.block 1 (.loop x5_L2))) (.seq (.reg [b (.binOp .eql 3 (t 35) (i 6) 3) 99,n 99 98]) x5_s29))
def x5_c31:XC:=(.reg [f 26 4 4 78,l 24 78 79,b (.slice 24 (t 79) .none (.some (i 0)) .none) 80,f 26 4 4 81,w 24 81 80])
def x5_c32:XC:=(.gh (.regV [f 26 4 3 63,c (.load 23 (t 63)) 64,m 3 65,a (k 15 #[(t 65),(i 10)] #[3,3]) 66,a (.binOp .sub 3 (t 66) (i 1) 3) 67,m 3 68,a (.binOp .quo 3 (t 68) (i 10) 3) 69,a (k 15 #[(t 69),(i 19)] #[3,3]) 70,a (.binOp .sub 3 (t 70) (i 1) 3) 71,a (.build 43 #[(0,(t 67)),(1,(t 71))]) 72,a (.buildSlice 23 1 #[(0,(t 72))]) 73] [b (.call ⟨(.builtin .append),#[(t 64),(t 73)],#[23,23,0,0]⟩) 74,f 26 4 3 75,w 23 75 74]))
def x5_c33:XC:=(.seq (.reg [b (.binOp .eql 3 (t 35) (i 4) 3) 77,n 77 76]) (.cond (t 76) x5_c31 (.seq (.reg [b (.binOp .eql 3 (t 35) (i 5) 3) 83,n 83 82]) x5_s30)))
def x5_c34:XC:=(.reg [m 3 54,a (.buildSlice 22 5 #[(0,(i 0)),(1,(i 1)),(2,(i 1048576)),(3,(i 1048577)),(4,(t 54))]) 55,m 3 56,a (k 15 #[(t 56),(i 5)] #[3,3]) 57,j 22 55 57 58,b (.load 3 (t 58)) 59,f 26 4 2 60,w 3 60 59])
def x5_s35:XC:=(.cond (t 52) x5_c34 (.seq (.reg [b (.binOp .eql 3 (t 35) (i 3) 3) 62,n 62 61]) (.cond (t 61) x5_c32 x5_c33)))
def x5_s36:XC:=(.cond (t 48) (.reg [b (.move (t 12)) 50,f 26 4 1 51,w 3 51 50]) (.seq (.reg [b (.binOp .eql 3 (t 35) (i 2) 3) 53,n 53 52]) x5_s35))
def x5_s37:XC:=(.cond (t 44) (.reg [b (.move (t 12)) 46,f 26 4 0 47,w 3 47 46]) (.seq (.reg [b (.binOp .eql 3 (t 35) (i 1) 3) 49,n 49 48]) x5_s36))
def x5_s38:XC:=(.seq (.seq (.reg [m 2 34,a (k 15 #[(t 34),(i 20)] #[3,3]) 35]) (.block 0 (.seq (.reg [b (.binOp .eql 3 (t 35) (i 0) 3) 45,n 45 44]) x5_s37))) (.seq (.reg [b (.load 26 (t 4)) 277,w 26 8 277]) .ret))
def x5_s39:XC:=(.seq (.reg [m 3 31,a (k 15 #[(t 31),(i 22)] #[3,3]) 32,b (.binOp .sub 3 (t 32) (i 2) 3) 33,n 33 12]) x5_s38)
theorem JD:type_of% (@unf _ _ x5_s39.eq_1):=unf x5_s39.eq_1
def x5_s40:XC:=(.seq (.reg [m 1 26,f 26 4 4 27,l 24 27 28,e 24 28 29,b (k 15 #[(t 26),(t 29)] #[3,3]) 30,n 30 11]) x5_s39)
theorem JI:type_of% (@unf _ _ x5_s40.eq_1):=unf x5_s40.eq_1
def x5_s41:XC:=(.seq (.reg [c (.move (t 10)) 21,f 26 4 4 22,l 24 22 23,b (.call ⟨(.builtin .append),#[(t 21),(t 23)],#[24,24]⟩) 24,f 26 4 4 25,w 24 25 24]) x5_s40)
theorem JU:type_of% (@unf _ _ x5_s41.eq_1):=unf x5_s41.eq_1
def x5_s42:XC:=(.seq (.reg [c (.move (t 9)) 16,f 26 4 3 17,l 23 17 18,b (.call ⟨(.builtin .append),#[(t 16),(t 18)],#[23,23]⟩) 19,f 26 4 3 20,w 23 20 19]) (.seq (.reg [a (.assign (.const (.slice .none 0 0))) 10]) x5_s41))
theorem JQ:type_of% (@unf _ _ x5_s42.eq_1):=unf x5_s42.eq_1
def V5:=PLift.up (aI (aI (aI (aI (aI (@unf _ _ x5_s0.eq_1) (@unf _ _ x5_s1.eq_1)) (aI (@unf _ _ x5_L2.eq_1) (aI (@unf _ _ x5_s3.eq_1) (@unf _ _ x5_s4.eq_1)))) (aI (aI (@unf _ _ x5_L5.eq_1) (@unf _ _ x5_s6.eq_1)) (aI (@unf _ _ x5_s7.eq_1) (aI (@unf _ _ x5_L8.eq_1) (@unf _ _ x5_c9.eq_1))))) (aI (aI (aI (@unf _ _ x5_s10.eq_1) (@unf _ _ x5_c11.eq_1)) (aI (@unf _ _ x5_c12.eq_1) (aI (@unf _ _ x5_c13.eq_1) (@unf _ _ x5_s14.eq_1)))) (aI (aI (@unf _ _ x5_c15.eq_1) (aI (@unf _ _ x5_c16.eq_1) (@unf _ _ x5_c17.eq_1))) (aI (@unf _ _ x5_c18.eq_1) (aI (@unf _ _ x5_s19.eq_1) (@unf _ _ x5_c20.eq_1)))))) (aI (aI (aI (aI (@unf _ _ x5_c21.eq_1) (@unf _ _ x5_c22.eq_1)) (aI (@unf _ _ x5_c23.eq_1) (aI (@unf _ _ x5_s24.eq_1) (@unf _ _ x5_c25.eq_1)))) (aI (aI (@unf _ _ x5_c26.eq_1) (aI (@unf _ _ x5_c27.eq_1) (@unf _ _ x5_c28.eq_1))) (aI (@unf _ _ x5_s29.eq_1) (aI (@unf _ _ x5_s30.eq_1) (@unf _ _ x5_c31.eq_1))))) (aI (aI (aI (@unf _ _ x5_c32.eq_1) (@unf _ _ x5_c33.eq_1)) (aI (@unf _ _ x5_c34.eq_1) (aI (@unf _ _ x5_s35.eq_1) (@unf _ _ x5_s36.eq_1)))) (aI (aI (@unf _ _ x5_s37.eq_1) (aI (@unf _ _ x5_s38.eq_1) (@JD))) (aI (@JI) (aI (@JU) (@JQ)))))))
theorem U5:type_of% V5.down:=V5.down
def x5:XC:=(.seq (.reg [a (.box 26 (t 0)) 4,a (.alloc 26) 8]) (.seq (.reg [a (.assign (.const (.slice .none 0 0))) 9]) x5_s42))
theorem b5:Bt 5 278 x5 [(.cell 8 26)]:=bt Tryz.func5 rfl (by kernel_rfl) (by kernel_rfl) (by kernel_rfl)
def x5v_s0:XC:=(.reg [m 13 86,b (.binOp .add 3 (t 86) (i 1) 3) 87,n 87 13])
def x5v_s1:XC:=(.seq (.block 2 (.regD [f 26 4 4 88,c (.load 24 (t 88)) 89,f 26 4 4 90,l 24 90 91,m 11 92,j 24 91 92 93,l 47 93 94,a (.buildSlice 24 1 #[(0,(t 94))]) 95,b (.call ⟨(.builtin .append),#[(t 89),(t 95)],#[24,24]⟩) 96,f 26 4 4 97,w 24 97 96])) x5v_s0)
def x5v_L2:XC:=(.seq (.seq (.reg [m 13 84,a (.binOp .lss 3 (t 84) (i 14) 3) 85]) (.cond (t 85) .skip (.exit 1))) x5v_s1)
def x5v_s3:XC:=(.reg [m 14 236,b (.binOp .add 3 (t 236) (i 1) 3) 237,n 237 14])
def x5v_s4:XC:=(.seq (.block 4 (.regD [f 26 4 4 238,c (.load 24 (t 238)) 239,a (.build 37 #[(1,(i 1))]) 240,m 3 241,a (k 15 #[(t 241),(i 125)] #[3,3]) 242,a (.binOp .add 3 (i 900) (t 242) 3) 243,a (.makeSlice 48 (t 243) (t 243)) 244,a (.convert 48 9 (t 244)) 245,a (.build 47 #[(0,(i 7)),(1,(t 240)),(6,(t 245))]) 246,a (.buildSlice 24 1 #[(0,(t 246))]) 247,b (.call ⟨(.builtin .append),#[(t 239),(t 247)],#[24,24]⟩) 248,f 26 4 4 249,w 24 249 248])) x5v_s3)
def x5v_L5:XC:=(.seq (.seq (.reg [m 14 234,a (.binOp .lss 3 (t 234) (i 7) 3) 235]) (.cond (t 235) .skip (.exit 3))) x5v_s4)
def x5v_s6:XC:=(.reg [m 15 268,b (.binOp .add 3 (t 268) (i 1) 3) 269,n 269 15])
def x5v_s7:XC:=(.seq (.block 6 (.reg [f 26 4 3 270,c (.load 23 (t 270)) 271,m 15 272,a (.build 43 #[(0,(t 272)),(1,(i 1))]) 273,a (.buildSlice 23 1 #[(0,(t 273))]) 274,b (.call ⟨(.builtin .append),#[(t 271),(t 274)],#[23,23]⟩) 275,f 26 4 3 276,w 23 276 275])) x5v_s6)
def x5v_L8:XC:=(.seq (.seq (.reg [m 15 263,m 3 264,a (k 15 #[(t 264),(i 4)] #[3,3]) 265,a (.binOp .add 3 (i 7) (t 265) 3) 266,a (.binOp .lss 3 (t 263) (t 266) 3) 267]) (.cond (t 267) .skip (.exit 5))) x5v_s7)
def x5v_c9:XC:=(.regD [f 26 4 4 36,l 24 36 37,m 11 38,m 3 39,a (k 15 #[(t 39),(i 18)] #[3,3]) 40,b (.binOp .add 3 (i 1) (t 40) 3) 41,j 24 37 38 42,f 47 42 0 43,w 3 43 41])
def x5v_s10:XC:=(.cond (t 260) (.seq (.reg [f 26 4 3 262,s (.store 23 (t 262) (.const (.slice .none 0 0)))]) (.seq (.reg [a (.assign (i 0)) 15]) (.block 5 (.loop x5v_L8)))) x5v_c9)
def x5v_c11:XC:=(.reg [a (.buildSlice 22 4 #[(0,(i 0)),(1,(i 1)),(2,(i 1200)),(3,(i 1201))]) 252,m 3 253,a (k 15 #[(t 253),(i 4)] #[3,3]) 254,j 22 252 254 255,l 3 255 256,a (.makeSlice 48 (t 256) (t 256)) 257,b (.convert 48 9 (t 257)) 258,f 26 4 5 259,w 9 259 258])
def x5v_c12:XC:=(.seq (.reg [b (.binOp .eql 3 (t 35) (i 17) 3) 251,n 251 250]) (.cond (t 250) x5v_c11 (.seq (.reg [b (.binOp .eql 3 (t 35) (i 18) 3) 261,n 261 260]) x5v_s10)))
def x5v_c13:XC:=(.regD [f 26 4 4 217,l 24 217 218,m 11 219,a (.build 37 #[(0,(i 1)),(1,(i 1))]) 220,a (.build 37 #[(0,(i 1)),(1,(i 1)),(2,(i 2))]) 221,m 3 222,a (k 15 #[(t 222),(i 4)] #[3,3]) 223,a (.build 37 #[(0,(i 1)),(1,(i 1)),(2,(t 223))]) 224,a (.buildSlice 30 2 #[(0,(t 221)),(1,(t 224))]) 225,m 3 226,a (.binOp .quo 3 (t 226) (i 4) 3) 227,a (k 15 #[(t 227),(i 5)] #[3,3]) 228,a (.binOp .sub 3 (t 228) (i 2) 3) 229,b (.build 47 #[(0,(i 16)),(1,(t 220)),(3,(t 225)),(4,(t 229))]) 230,j 24 218 219 231,w 47 231 230])
def x5v_s14:XC:=(.cond (t 215) x5v_c13 (.seq (.reg [b (.binOp .eql 3 (t 35) (i 16) 3) 233,n 233 232]) (.cond (t 232) (.seq (.reg [a (.assign (i 0)) 14]) (.block 3 (.loop x5v_L5))) x5v_c12)))
def x5v_c15:XC:=(.regD [f 26 4 4 200,l 24 200 201,m 11 202,m 12 203,a (.build 37 #[(0,(i 1)),(1,(i 1)),(2,(t 203))]) 204,c (.buildSlice 30 1 #[(0,(t 204))]) 205,f 26 4 4 206,l 24 206 207,m 11 208,j 24 207 208 209,f 47 209 3 210,l 30 210 211,b (.call ⟨(.builtin .append),#[(t 205),(t 211)],#[30,30]⟩) 212,j 24 201 202 213,f 47 213 3 214,w 30 214 212])
def x5v_c16:XC:=(.regD [f 26 4 4 188,l 24 188 189,m 11 190,m 3 191,a (k 15 #[(t 191),(i 3)] #[3,3]) 192,m 3 193,a (k 15 #[(t 193),(i 5)] #[3,3]) 194,b (.build 45 #[(0,(t 192)),(1,(t 194))]) 195,j 24 189 190 196,f 47 196 7 197,w 45 197 195])
def x5v_c17:XC:=(.seq (.reg [b (.binOp .eql 3 (t 35) (i 14) 3) 199,n 199 198]) (.cond (t 198) x5v_c15 (.seq (.reg [b (.binOp .eql 3 (t 35) (i 15) 3) 216,n 216 215]) x5v_s14)))
def x5v_c18:XC:=(.regD [f 26 4 4 174,l 24 174 175,m 11 176,a (.buildSlice 22 4 #[(0,(i 0)),(1,(i 1)),(2,(i 1024)),(3,(i 1025))]) 177,m 3 178,a (k 15 #[(t 178),(i 4)] #[3,3]) 179,j 22 177 179 180,l 3 180 181,a (.makeSlice 48 (t 181) (t 181)) 182,b (.convert 48 9 (t 182)) 183,j 24 175 176 184,f 47 184 6 185,w 9 185 183])
def x5v_s19:XC:=(.cond (t 172) x5v_c18 (.seq (.reg [b (.binOp .eql 3 (t 35) (i 13) 3) 187,n 187 186]) (.cond (t 186) x5v_c16 x5v_c17)))
def x5v_c20:XC:=(.regD [f 26 4 4 164,l 24 164 165,m 11 166,m 3 167,a (k 15 #[(t 167),(i 18)] #[3,3]) 168,b (.slice 9 (.const (.string ⟨#[115,105,120,116,101,101,110,32,108,101,116,116,101,114,115,33,33]⟩)) .none (.some (t 168)) .none) 169,j 24 165 166 170,f 47 170 5 171,w 9 171 169])
def x5v_c21:XC:=(.regD [f 26 4 4 151,l 24 151 152,m 11 153,m 3 154,a (.buildSlice 22 10 #[(0,(i (-2))),(1,(i (-1))),(2,(i 0)),(3,(i 1)),(4,(i 2)),(5,(i 1023)),(6,(i 1024)),(7,(i 1048576)),(8,(i 1048577)),(9,(t 154))]) 155,m 3 156,a (k 15 #[(t 156),(i 10)] #[3,3]) 157,j 22 155 157 158,b (.load 3 (t 158)) 159,j 24 152 153 160,f 47 160 4 161,w 3 161 159])
def x5v_c22:XC:=(.seq (.reg [b (.binOp .eql 3 (t 35) (i 11) 3) 163,n 163 162]) (.cond (t 162) x5v_c20 (.seq (.reg [b (.binOp .eql 3 (t 35) (i 12) 3) 173,n 173 172]) x5v_s19)))
def x5v_c23:XC:=(.regD [f 26 4 4 138,l 24 138 139,m 11 140,f 26 4 4 141,l 24 141 142,m 11 143,j 24 142 143 144,f 47 144 1 145,b (.load 37 (t 145)) 146,j 24 139 140 147,f 47 147 2 148,w 37 148 146])
def x5v_s24:XC:=(.cond (t 136) x5v_c23 (.seq (.reg [b (.binOp .eql 3 (t 35) (i 10) 3) 150,n 150 149]) (.cond (t 149) x5v_c21 x5v_c22)))
def x5v_c25:XC:=(.regD [f 26 4 4 123,l 24 123 124,m 11 125,m 3 126,a (k 15 #[(t 126),(i 9)] #[3,3]) 127,m 12 128,m 3 129,a (.binOp .quo 3 (t 129) (i 5) 3) 130,a (k 15 #[(t 130),(i 18)] #[3,3]) 131,a (.binOp .sub 3 (t 131) (i 1) 3) 132,b (.build 37 #[(0,(t 127)),(1,(t 128)),(2,(t 132))]) 133,j 24 124 125 134,f 47 134 2 135,w 37 135 133])
def x5v_c26:XC:=(.regD [f 26 4 4 108,l 24 108 109,m 11 110,m 12 111,m 3 112,a (k 15 #[(t 112),(i 19)] #[3,3]) 113,m 3 114,a (.binOp .quo 3 (t 114) (i 5) 3) 115,a (k 15 #[(t 115),(i 18)] #[3,3]) 116,a (.binOp .sub 3 (t 116) (i 1) 3) 117,b (.build 37 #[(0,(t 111)),(1,(t 113)),(2,(t 117))]) 118,j 24 109 110 119,f 47 119 1 120,w 37 120 118])
def x5v_c27:XC:=(.seq (.reg [b (.binOp .eql 3 (t 35) (i 8) 3) 122,n 122 121]) (.cond (t 121) x5v_c25 (.seq (.reg [b (.binOp .eql 3 (t 35) (i 9) 3) 137,n 137 136]) x5v_s24)))
def x5v_c28:XC:=(.reg [f 26 4 4 100,l 24 100 101,m 11 102,b (.move (t 12)) 103,j 24 101 102 104,f 47 104 0 105,w 3 105 103])
def x5v_s29:XC:=(.cond (t 98) x5v_c28 (.seq (.reg [b (.binOp .eql 3 (t 35) (i 7) 3) 107,n 107 106]) (.cond (t 106) x5v_c26 x5v_c27)))
def x5v_s30:XC:=(.cond (t 82) (.seq (.reg [a (.assign (i 0)) 13]) (.block 1 (.loop x5v_L2))) (.seq (.reg [b (.binOp .eql 3 (t 35) (i 6) 3) 99,n 99 98]) x5v_s29))
def x5v_c31:XC:=(.reg [f 26 4 4 78,l 24 78 79,b (.slice 24 (t 79) .none (.some (i 0)) .none) 80,f 26 4 4 81,w 24 81 80])
def x5v_c32:XC:=(.regD [f 26 4 3 63,c (.load 23 (t 63)) 64,m 3 65,a (k 15 #[(t 65),(i 10)] #[3,3]) 66,a (.binOp .sub 3 (t 66) (i 1) 3) 67,m 3 68,a (.binOp .quo 3 (t 68) (i 10) 3) 69,a (k 15 #[(t 69),(i 19)] #[3,3]) 70,a (.binOp .sub 3 (t 70) (i 1) 3) 71,a (.build 43 #[(0,(t 67)),(1,(t 71))]) 72,a (.buildSlice 23 1 #[(0,(t 72))]) 73,b (.call ⟨(.builtin .append),#[(t 64),(t 73)],#[23,23]⟩) 74,f 26 4 3 75,w 23 75 74])
def x5v_c33:XC:=(.seq (.reg [b (.binOp .eql 3 (t 35) (i 4) 3) 77,n 77 76]) (.cond (t 76) x5v_c31 (.seq (.reg [b (.binOp .eql 3 (t 35) (i 5) 3) 83,n 83 82]) x5v_s30)))
def x5v_c34:XC:=(.reg [m 3 54,a (.buildSlice 22 5 #[(0,(i 0)),(1,(i 1)),(2,(i 1048576)),(3,(i 1048577)),(4,(t 54))]) 55,m 3 56,a (k 15 #[(t 56),(i 5)] #[3,3]) 57,j 22 55 57 58,b (.load 3 (t 58)) 59,f 26 4 2 60,w 3 60 59])
def x5v_s35:XC:=(.cond (t 52) x5v_c34 (.seq (.reg [b (.binOp .eql 3 (t 35) (i 3) 3) 62,n 62 61]) (.cond (t 61) x5v_c32 x5v_c33)))
def x5v_s36:XC:=(.cond (t 48) (.reg [b (.move (t 12)) 50,f 26 4 1 51,w 3 51 50]) (.seq (.reg [b (.binOp .eql 3 (t 35) (i 2) 3) 53,n 53 52]) x5v_s35))
def x5v_s37:XC:=(.cond (t 44) (.reg [b (.move (t 12)) 46,f 26 4 0 47,w 3 47 46]) (.seq (.reg [b (.binOp .eql 3 (t 35) (i 1) 3) 49,n 49 48]) x5v_s36))
def x5v_s38:XC:=(.seq (.seq (.reg [m 2 34,a (k 15 #[(t 34),(i 20)] #[3,3]) 35]) (.block 0 (.seq (.reg [b (.binOp .eql 3 (t 35) (i 0) 3) 45,n 45 44]) x5v_s37))) (.seq (.gh (.reg [b (.load 26 (t 4)) 277,w 26 8 277])) .ret))
def x5v_s39:XC:=(.seq (.reg [m 3 31,a (k 15 #[(t 31),(i 22)] #[3,3]) 32,b (.binOp .sub 3 (t 32) (i 2) 3) 33,n 33 12]) x5v_s38)
theorem gu:type_of% (@unf _ _ x5v_s39.eq_1):=unf x5v_s39.eq_1
def x5v_s40:XC:=(.seq (.reg [m 1 26,f 26 4 4 27,l 24 27 28,e 24 28 29,b (k 15 #[(t 26),(t 29)] #[3,3]) 30,n 30 11]) x5v_s39)
theorem gJ:type_of% (@unf _ _ x5v_s40.eq_1):=unf x5v_s40.eq_1
def x5v_s41:XC:=(.seq (.reg [c (.move (t 10)) 21,f 26 4 4 22,l 24 22 23,b (.call ⟨(.builtin .append),#[(t 21),(t 23)],#[24,24,0]⟩) 24,f 26 4 4 25,w 24 25 24]) x5v_s40)
theorem gB:type_of% (@unf _ _ x5v_s41.eq_1):=unf x5v_s41.eq_1
def x5v_s42:XC:=(.seq (.reg [c (.move (t 9)) 16,f 26 4 3 17,l 23 17 18,b (.call ⟨(.builtin .append),#[(t 16),(t 18)],#[23,23]⟩) 19,f 26 4 3 20,w 23 20 19]) (.seq (.reg [a (.assign (.const (.slice .none 0 0))) 10]) x5v_s41))
theorem gC:type_of% (@unf _ _ x5v_s42.eq_1):=unf x5v_s42.eq_1
def V5v:=PLift.up (aI (aI (aI (aI (aI (@unf _ _ x5v_s0.eq_1) (@unf _ _ x5v_s1.eq_1)) (aI (@unf _ _ x5v_L2.eq_1) (aI (@unf _ _ x5v_s3.eq_1) (@unf _ _ x5v_s4.eq_1)))) (aI (aI (@unf _ _ x5v_L5.eq_1) (@unf _ _ x5v_s6.eq_1)) (aI (@unf _ _ x5v_s7.eq_1) (aI (@unf _ _ x5v_L8.eq_1) (@unf _ _ x5v_c9.eq_1))))) (aI (aI (aI (@unf _ _ x5v_s10.eq_1) (@unf _ _ x5v_c11.eq_1)) (aI (@unf _ _ x5v_c12.eq_1) (aI (@unf _ _ x5v_c13.eq_1) (@unf _ _ x5v_s14.eq_1)))) (aI (aI (@unf _ _ x5v_c15.eq_1) (aI (@unf _ _ x5v_c16.eq_1) (@unf _ _ x5v_c17.eq_1))) (aI (@unf _ _ x5v_c18.eq_1) (aI (@unf _ _ x5v_s19.eq_1) (@unf _ _ x5v_c20.eq_1)))))) (aI (aI (aI (aI (@unf _ _ x5v_c21.eq_1) (@unf _ _ x5v_c22.eq_1)) (aI (@unf _ _ x5v_c23.eq_1) (aI (@unf _ _ x5v_s24.eq_1) (@unf _ _ x5v_c25.eq_1)))) (aI (aI (@unf _ _ x5v_c26.eq_1) (aI (@unf _ _ x5v_c27.eq_1) (@unf _ _ x5v_c28.eq_1))) (aI (@unf _ _ x5v_s29.eq_1) (aI (@unf _ _ x5v_s30.eq_1) (@unf _ _ x5v_c31.eq_1))))) (aI (aI (aI (@unf _ _ x5v_c32.eq_1) (@unf _ _ x5v_c33.eq_1)) (aI (@unf _ _ x5v_c34.eq_1) (aI (@unf _ _ x5v_s35.eq_1) (@unf _ _ x5v_s36.eq_1)))) (aI (aI (@unf _ _ x5v_s37.eq_1) (aI (@unf _ _ x5v_s38.eq_1) (@gu))) (aI (@gJ) (aI (@gB) (@gC)))))))
theorem v7:type_of% V5v.down:=V5v.down
def wC:XC:=(.seq (.reg [a (.box 26 (t 0)) 4,a (.alloc 26) 8]) (.seq (.reg [a (.assign (.const (.slice .none 0 0))) 9]) x5v_s42))
theorem b5v:Bt 5 278 wC [(.cell 8 26)]:=bt Tryz.func5 rfl (by kernel_rfl) (by kernel_rfl) (by kernel_rfl)
end Go.Proofs.YtpdhandimdibhaaGreatDoor
end
section
namespace Go.Proofs.YtpdhandimdibhaaGreatDoor
open Go Go.Aw
theorem spA {n:Nat} {p:Pt} {a how bb:Int} {H:AH} {R:D→AH→Prop} (hn:n≤900) (hp:Sz n p) (hne:0<p.ops.length) {kk near:Int} (hkk:around a (p.ops.length:Int)=kk) (hnr:around bb 22 - 2=near)
  (h:∀(b4 b8:Nat) (F:List D),b4≠b8→Fr 278 [(1,.int .i64 a),(2,.int .i64 how),(3,.int .i64 bb),(4,.ptr b4 0),(8,.ptr b8 0),(11,.int .i64 kk),(12,.int .i64 near)] F→xcode Tryz.prog x5_s38 F ((b8,.cells [.int .i64 0,.int .i64 0,.int .i64 0,.own [],.own [],.str []])::(b4,.cells [.int .i64 p.o,.int .i64 p.s,.int .i64 p.day,.own (qM p.needs),.own (qE p.ops),.str p.sl])::H) (kK Tryz.prog [(.cell 8 26)] H.length R)):
  ACall Tryz.prog 5 [.agg p.d,.int .i64 a,.int .i64 how,.int .i64 bb] H R:=by
 refine b5 fun hf=>?_
 have hbig:=qt
 have hd:=@dE p
 have l1:=hp.ops
 have l2:=hp.needs
 simp+contextual only [x5,↓JQ,↓JU,↓JI,↓JD,ql,qi,qg,qh,hd,↓XP,↓XU,qn,XW1,qa,qb,qc,qd,qe,qf,reduceCtorEq]
 intro b4 h4 b8 hh h8
 obtain ⟨n48,h8'⟩:=hh
 have a1:=qU (n:=a) (most:=(p.ops.length:Int)) (by omega)
 have a2:=qU (n:=bb) (most:=22) (by omega)
 refine ⟨zJ,by omega,by omega,fun _=>⟨yi,by omega,by omega,qH (by omega) ?_⟩⟩
 simp+contextual only [x5,↓JQ,↓JU,↓JI,↓JD,ql,qi,qg,qh,hd,n48,↓XP,↓XU,qn,XW1,qa,qb,qc,qd,qe,qf,reduceCtorEq]
 refine fun _=>qH (by omega) ?_
 simp+contextual only [x5,↓JQ,↓JU,↓JI,↓JD,ql,qi,qg,qh,hd,n48,qJ (show -9223372036854775808≤around bb 22 - 2 by omega) (by omega),↓XP,↓XU,qn,XW1,qa,qb,qc,qd,qe,qf,reduceCtorEq]
 intros
 subst hkk hnr
 refine h b4 b8 _ n48 ?_
 exact ⟨rfl,rfl,rfl,rfl,rfl,rfl,rfl,rfl,trivial⟩
end Go.Proofs.YtpdhandimdibhaaGreatDoor
end
section
namespace Go.Proofs.YtpdhandimdibhaaGreatDoor
open Go Go.Aw
theorem Sz.same {n:Nat} {p q:Pt} (h:Sz n p) (e1:q.ops=p.ops) (e2:q.needs=p.needs) (e3:q.sl=p.sl):Sz (n+14) q:=
 ⟨by rw [e1];have:=h.ops;omega,by rw [e2];have:=h.needs;omega,by rw [e1];intro o ho;have:=h.ids o ho;omega,by rw [e1];exact h.name,by rw [e1];exact h.text,by rw [e3];exact h.sl⟩
theorem qN {l:List OpP} {k:Nat} (h:k<l.length):l.getD k default∈l:=by
 simp [h]
theorem zg {l:List Int} {r:Int} (h0:0≤r) (h1:r<l.length):l.getD r.toNat 0∈l∧(ints l).getD r.toNat []= [.int .i64 (l.getD r.toNat 0)]:=by
 have hl:r.toNat<l.length:=by omega
 have e:l.getD r.toNat 0=l[r.toNat]:=by simp [hl]
 rw [e]
 exact ⟨List.getElem_mem hl,by simp [ints,hl]⟩
theorem bytesB:(Tryz.prog.info? 5).map (·.bytes)=some 1:=by kernel_rfl
theorem ZP {n:Int} (h:n≤100000):match Tryz.prog.info? 5 with|some i=>(i.bytes:Int)*n≤140737488355328∧n≤140737488355328|none=>False:=by
 have h4:=bytesB
 cases hq:Tryz.prog.info? 5 with
 |none=>rw [hq] at h4;cases h4
 | some i=>
  rw [hq] at h4
  simp only [Option.map_some,Option.some.injEq] at h4
  simp only [h4]
  omega
theorem ZG {n:Nat}:∀x∈List.replicate n [D.int .u8 0],zw x:=by
 intro x hx
 rw [(List.mem_replicate.1 hx).2]
 exact ⟨by omega,by omega⟩
theorem spA_0 {n:Nat} {p:Pt} {a how bb kk near:Int} {b4 b8:Nat} {F:List D} {H:AH} {R:D→AH→Prop} (hm:around how 20=0) (hn:n≤900) (hp:Sz n p) (n48:b4≠b8) (hF:Fr 278 [(1,.int .i64 a),(2,.int .i64 how),(3,.int .i64 bb),(4,.ptr b4 0),(8,.ptr b8 0),(11,.int .i64 kk),(12,.int .i64 near)] F) (h:R (.agg ({p with o:=near}:Pt).d) H):xcode Tryz.prog x5_s38 F ((b8,.cells [.int .i64 0,.int .i64 0,.int .i64 0,.own [],.own [],.str []])::(b4,.cells [.int .i64 p.o,.int .i64 p.s,.int .i64 p.day,.own (qM p.needs),.own (qE p.ops),.str p.sl])::H) (kK Tryz.prog [(.cell 8 26)] H.length R):=by
 obtain ⟨z,rfl⟩:∃z:Nat→D,_=z 0:: .int .i64 a:: .int .i64 how:: .int .i64 bb:: .ptr b4 0::zz z 5 3 (.ptr b8 0::zz z 9 2 (.int .i64 kk:: .int .i64 near::zz z 13 265 [])):=hF.lit
 try dsimp only [zz,qb] at*
 clear hF
 have hbig:=qt
 simp+contextual only [x5,ql,qi,qg,qh,Int.reduceEq,n48,↓U5,↓XP,↓XU,qn,XW1,qa,qb,qc,qd,qe,qf,reduceCtorEq]
 refine qH (by omega) ?_
 rw [hm]
 simp+contextual only [x5,ql,qi,qg,qh,Int.reduceEq,n48,↓U5,↓XP,↓XU,qn,XW1,qa,qb,qc,qd,qe,qf,reduceCtorEq]
 exact fun _=>h
theorem spA_1 {n:Nat} {p:Pt} {a how bb kk near:Int} {b4 b8:Nat} {F:List D} {H:AH} {R:D→AH→Prop} (hm:around how 20=1) (hn:n≤900) (hp:Sz n p) (n48:b4≠b8) (hF:Fr 278 [(1,.int .i64 a),(2,.int .i64 how),(3,.int .i64 bb),(4,.ptr b4 0),(8,.ptr b8 0),(11,.int .i64 kk),(12,.int .i64 near)] F) (h:R (.agg ({p with s:=near}:Pt).d) H):xcode Tryz.prog x5_s38 F ((b8,.cells [.int .i64 0,.int .i64 0,.int .i64 0,.own [],.own [],.str []])::(b4,.cells [.int .i64 p.o,.int .i64 p.s,.int .i64 p.day,.own (qM p.needs),.own (qE p.ops),.str p.sl])::H) (kK Tryz.prog [(.cell 8 26)] H.length R):=by
 obtain ⟨z,rfl⟩:∃z:Nat→D,_=z 0:: .int .i64 a:: .int .i64 how:: .int .i64 bb:: .ptr b4 0::zz z 5 3 (.ptr b8 0::zz z 9 2 (.int .i64 kk:: .int .i64 near::zz z 13 265 [])):=hF.lit
 try dsimp only [zz,qb] at*
 clear hF
 have hbig:=qt
 simp+contextual only [x5,ql,qi,qg,qh,Int.reduceEq,n48,↓U5,↓XP,↓XU,qn,XW1,qa,qb,qc,qd,qe,qf,reduceCtorEq]
 refine qH (by omega) ?_
 rw [hm]
 simp+contextual only [x5,ql,qi,qg,qh,Int.reduceEq,n48,↓U5,↓XP,↓XU,qn,XW1,qa,qb,qc,qd,qe,qf,reduceCtorEq]
 exact fun _=>⟨by omega,h⟩
theorem spA_2 {n:Nat} {p:Pt} {a how bb kk near:Int} {b4 b8:Nat} {F:List D} {H:AH} {R:D→AH→Prop} (hm:around how 20=2) (hn:n≤900) (hp:Sz n p) (n48:b4≠b8) (hF:Fr 278 [(1,.int .i64 a),(2,.int .i64 how),(3,.int .i64 bb),(4,.ptr b4 0),(8,.ptr b8 0),(11,.int .i64 kk),(12,.int .i64 near)] F) (h:R (.agg ({p with day:=([0,1,1048576,1048577,bb]:List Int).getD (around bb 5).toNat 0}:Pt).d) H):xcode Tryz.prog x5_s38 F ((b8,.cells [.int .i64 0,.int .i64 0,.int .i64 0,.own [],.own [],.str []])::(b4,.cells [.int .i64 p.o,.int .i64 p.s,.int .i64 p.day,.own (qM p.needs),.own (qE p.ops),.str p.sl])::H) (kK Tryz.prog [(.cell 8 26)] H.length R):=by
 obtain ⟨z,rfl⟩:∃z:Nat→D,_=z 0:: .int .i64 a:: .int .i64 how:: .int .i64 bb:: .ptr b4 0::zz z 5 3 (.ptr b8 0::zz z 9 2 (.int .i64 kk:: .int .i64 near::zz z 13 265 [])):=hF.lit
 try dsimp only [zz,qb] at*
 clear hF
 have hbig:=qt
 simp+contextual only [x5,ql,qi,qg,qh,Int.reduceEq,n48,↓U5,↓XP,↓XU,qn,XW1,qa,qb,qc,qd,qe,qf,reduceCtorEq]
 refine qH (by omega) ?_
 rw [hm]
 simp+contextual only [x5,ql,qi,qg,qh,Int.reduceEq,n48,↓U5,↓XP,↓XU,qn,XW1,qa,qb,qc,qd,qe,qf,reduceCtorEq]
 refine fun _=>qH (by omega) ?_
 obtain ⟨r1,r2⟩:=qU (n:=bb) (most:=5) (by omega)
 generalize around bb 5=r at r1 r2 h ⊢
 obtain ⟨hv,e⟩:=zg (l:= [0,1,1048576,1048577,bb]) r1 r2
 generalize ([0,1,1048576,1048577,bb]:List Int).getD r.toNat 0=v at hv e h
 have e': [[D.int .i64 0],[D.int .i64 1],[D.int .i64 1048576],[D.int .i64 1048577],[D.int .i64 bb]].getD r.toNat []= [.int .i64 v]:=e
 simp+contextual only [x5,ql,qi,qg,qh,Int.reduceEq,n48,e',r1,show r<((5:Nat):Int) from r2,↓U5,↓XP,↓XU,qn,XW1,qa,qb,qc,qd,qe,qf,reduceCtorEq]
 exact fun _ _=>⟨by omega,h⟩
theorem spA_4 {n:Nat} {p:Pt} {a how bb kk near:Int} {b4 b8:Nat} {F:List D} {H:AH} {R:D→AH→Prop} (hm:around how 20=4) (hn:n≤900) (hp:Sz n p) (n48:b4≠b8) (hF:Fr 278 [(1,.int .i64 a),(2,.int .i64 how),(3,.int .i64 bb),(4,.ptr b4 0),(8,.ptr b8 0),(11,.int .i64 kk),(12,.int .i64 near)] F) (h:R (.agg ({p with ops:= []}:Pt).d) H):xcode Tryz.prog x5_s38 F ((b8,.cells [.int .i64 0,.int .i64 0,.int .i64 0,.own [],.own [],.str []])::(b4,.cells [.int .i64 p.o,.int .i64 p.s,.int .i64 p.day,.own (qM p.needs),.own (qE p.ops),.str p.sl])::H) (kK Tryz.prog [(.cell 8 26)] H.length R):=by
 obtain ⟨z,rfl⟩:∃z:Nat→D,_=z 0:: .int .i64 a:: .int .i64 how:: .int .i64 bb:: .ptr b4 0::zz z 5 3 (.ptr b8 0::zz z 9 2 (.int .i64 kk:: .int .i64 near::zz z 13 265 [])):=hF.lit
 try dsimp only [zz,qb] at*
 clear hF
 have hbig:=qt
 simp+contextual only [x5,ql,qi,qg,qh,Int.reduceEq,n48,↓U5,↓XP,↓XU,qn,XW1,qa,qb,qc,qd,qe,qf,reduceCtorEq]
 refine qH (by omega) ?_
 rw [hm]
 simp+contextual only [x5,ql,qi,qg,qh,Int.reduceEq,n48,↓U5,↓XP,↓XU,qn,XW1,qa,qb,qc,qd,qe,qf,reduceCtorEq]
 exact fun _ _=>⟨yi,by omega,h⟩
theorem spA_17 {n:Nat} {p:Pt} {a how bb kk near:Int} {b4 b8:Nat} {F:List D} {H:AH} {R:D→AH→Prop} (hm:around how 20=17) (hn:n≤900) (hp:Sz n p) (n48:b4≠b8) (hF:Fr 278 [(1,.int .i64 a),(2,.int .i64 how),(3,.int .i64 bb),(4,.ptr b4 0),(8,.ptr b8 0),(11,.int .i64 kk),(12,.int .i64 near)] F) (h:R (.agg ({p with sl:=(List.replicate (([0,1,1200,1201]:List Int).getD (around bb 4).toNat 0).toNat [D.int .u8 0]).map unbyte}:Pt).d) H):xcode Tryz.prog x5_s38 F ((b8,.cells [.int .i64 0,.int .i64 0,.int .i64 0,.own [],.own [],.str []])::(b4,.cells [.int .i64 p.o,.int .i64 p.s,.int .i64 p.day,.own (qM p.needs),.own (qE p.ops),.str p.sl])::H) (kK Tryz.prog [(.cell 8 26)] H.length R):=by
 obtain ⟨z,rfl⟩:∃z:Nat→D,_=z 0:: .int .i64 a:: .int .i64 how:: .int .i64 bb:: .ptr b4 0::zz z 5 3 (.ptr b8 0::zz z 9 2 (.int .i64 kk:: .int .i64 near::zz z 13 265 [])):=hF.lit
 try dsimp only [zz,qb] at*
 clear hF
 have hbig:=qt
 simp+contextual only [x5,ql,qi,qg,qh,Int.reduceEq,n48,↓U5,↓XP,↓XU,qn,XW1,qa,qb,qc,qd,qe,qf,reduceCtorEq]
 refine qH (by omega) ?_
 rw [hm]
 simp+contextual only [x5,ql,qi,qg,qh,Int.reduceEq,n48,↓U5,↓XP,↓XU,qn,XW1,qa,qb,qc,qd,qe,qf,reduceCtorEq]
 refine fun _=>qH (by omega) ?_
 obtain ⟨r1,r2⟩:=qU (n:=bb) (most:=4) (by omega)
 generalize around bb 4=r at r1 r2 h ⊢
 obtain ⟨hv,e⟩:=zg (l:= [0,1,1200,1201]) r1 r2
 generalize ([0,1,1200,1201]:List Int).getD r.toNat 0=v at hv e h
 have e': [[D.int .i64 0],[D.int .i64 1],[D.int .i64 1200],[D.int .i64 1201]].getD r.toNat []= [.int .i64 v]:=e
 have hv':0≤v∧v≤1201:=by
  simp only [List.mem_cons,List.not_mem_nil,or_false] at hv
  omega
 simp+contextual only [x5,ql,qi,qg,qh,Int.reduceEq,n48,e',r1,show r<((4:Nat):Int) from r2,↓U5,↓XP,↓XU,qn,XW1,qa,qb,qc,qd,qe,qf,reduceCtorEq]
 exact fun _ _=>⟨hv'.1,ZP (by omega),ZG,fun _=>h⟩
end Go.Proofs.YtpdhandimdibhaaGreatDoor
end
section
namespace Go.Proofs.YtpdhandimdibhaaGreatDoor
open Go Go.Aw
theorem Zt {l:List OpP}:∀x∈qE l,∀d∈x,plain d=true:=by
 intro x hx d hd
 obtain ⟨o,_,rfl⟩:=List.mem_map.1 hx
 simp only [OpP.d,List.mem_cons,List.not_mem_nil,or_false] at hd
 rcases hd with rfl|rfl|rfl|rfl|rfl|rfl|rfl|rfl|rfl|rfl|rfl|rfl|rfl<;>rfl
theorem uc {F:List D} {H:AH} {b b4 b8 n cp:Nat} {o8:AO} {c0 c1 c2 c3 c5:D} {l:List OpP} {rest:List D} (h1:b4≠b) (h2:b4≠b8) (hl:l.length=n):
  Fz F ((b,.cells ((qE l).flatten++rest))::(b8,o8)::(b4,.cells [c0,c1,c2,c3,.hgs b n cp,c5])::H) F ((b8,o8)::(b4,.cells [c0,c1,c2,c3,.slc (qE l),c5])::H):=by
 have h:=Fz.freezeC (F:=F) (H:=(b,.cells ((qE l).flatten++rest))::(b8,o8)::(b4,.cells [c0,c1,c2,c3,.hsl b n,c5])::H) (b':=b4) (j:=4) (b:=b) (n:=n) (sz:=13) (ds:= [c0,c1,c2,c3,.hsl b n,c5]) (cs:=(qE l).flatten++rest) (xs:=qE l) (rest:=rest) h1
  (by rw [qg h1,qg h2,jS]) rfl jS rfl (by rw [qi,hl]) yi (by omega) Zt
 rw [qh h1,qh h2,uw,vK] at h
 have h0:=Fz.hgsC (F:=F) (H:=(b,.cells ((qE l).flatten++rest))::(b8,o8)::(b4,.cells [c0,c1,c2,c3,.hgs b n cp,c5])::H) (b':=b4) (j:=4) (b:=b) (n:=n) (cap:=cp) (ds:= [c0,c1,c2,c3,.hgs b n cp,c5])
  (by rw [qg h1,qg h2,jS]) rfl
 rw [qh h1,qh h2,uw] at h0
 exact h0.trans h
theorem wr1 {l:List OpP} {kk j:Nat} {v:D} {rest:List D} (hk:kk<l.length) {o':OpP} (hj:j<13) (e:(l.getD kk default).d.set j v=o'.d):
  ((qE l).flatten++rest).set (kk*13+j) v=(qE (l.set kk o')).flatten++rest:=by
 rw [fl_set yi (by rw [qi];exact hk) hj,ke hk,e,Vc]
theorem wr2 {l:List OpP} {kk j m:Nat} {v:List D} {rest:List D} (hk:kk<l.length) {o':OpP} (hj:j+m≤13) (e:(l.getD kk default).d.take j++(v++(l.getD kk default).d.drop (j+m))=o'.d):
  ((qE l).flatten++rest).take (kk*13+j)++(v++((qE l).flatten++rest).drop (kk*13+j+m))=(qE (l.set kk o')).flatten++rest:=by
 rw [fl_sets yi (by rw [qi];exact hk) hj,ke hk,e,Vc]
theorem wrC2 {l:List OpP} {kk j:Nat} {x y:D} {rest:List D} (hk:kk<l.length) {o':OpP} (hj:j+2≤13) (e:(l.getD kk default).d.take j++([x,y]++(l.getD kk default).d.drop (j+2))=o'.d):
  ((qE l).flatten++rest).take (kk*13+j)++x::y::((qE l).flatten++rest).drop (kk*13+j+2)=(qE (l.set kk o')).flatten++rest:=wr2 hk hj e
theorem wrC3 {l:List OpP} {kk j:Nat} {x y z:D} {rest:List D} (hk:kk<l.length) {o':OpP} (hj:j+3≤13) (e:(l.getD kk default).d.take j++([x,y,z]++(l.getD kk default).d.drop (j+3))=o'.d):
  ((qE l).flatten++rest).take (kk*13+j)++x::y::z::((qE l).flatten++rest).drop (kk*13+j+3)=(qE (l.set kk o')).flatten++rest:=wr2 hk hj e
theorem wrC13 {l:List OpP} {kk:Nat} {rest:List D} (hk:kk<l.length) {o':OpP}:
  ((qE l).flatten++rest).take (kk*13)++(o'.d++((qE l).flatten++rest).drop (kk*13+13))=(qE (l.set kk o')).flatten++rest:=
 wr2 (j:=0) (m:=13) hk (by omega) (by simp [OpP.d])
theorem gz_th {F:List D} {H:AH} {k:List D→AH→Prop} (h:Gz F H fun F' H'=>Gz F' H' k):Gz F H k:=Gz.bind h fun _ _ h=>h
theorem rd1 {l:List OpP} {kk j:Nat} {rest:List D} (hk:kk<l.length) (hj:j<13):((qE l).flatten++rest)[kk*13+j]?=(l.getD kk default).d[j]?:=by
 rw [fl_get yi (by rw [qi];exact hk) hj,ke hk]
theorem rd2 {l:List OpP} {kk j m:Nat} {rest:List D} (hk:kk<l.length) (hj:j+m≤13):(((qE l).flatten++rest).drop (kk*13+j)).take m=((l.getD kk default).d.drop j).take m:=by
 rw [fl_gets yi (by rw [qi];exact hk) hj,ke hk]
theorem wZ {l:List OpP} {rest:List D} {kk:Nat} (hk:kk<l.length):kk*13+13≤((qE l).flatten++rest).length:=by
 rw [List.length_append,yD (sz:=13) yi,qi]
 have:(kk+1)*13≤l.length*13:=Nat.mul_le_mul_right _ hk
 omega
theorem UL {n:Nat} {p:Pt} {a how bb:Int} {H:AH} {R:D→AH→Prop} (hn:n≤900) (hp:Sz n p) (hne:0<p.ops.length) {kk:Nat} {near:Int} (hkk:around a (p.ops.length:Int)=(kk:Int)) (hnr:around bb 22 - 2=near)
  (h:∀(b b4 b8 m cp:Nat) (F:List D),b4≠b8→b4≠b→b8≠b→Fr 278 [(1,.int .i64 a),(2,.int .i64 how),(3,.int .i64 bb),(4,.ptr b4 0),(8,.ptr b8 0),(11,.int .i64 (kk:Int)),(12,.int .i64 near)] F→xcode Tryz.prog x5v_s38 F ((b,.cells ((qE p.ops).flatten++List.replicate m .any))::(b8,.cells [.int .i64 0,.int .i64 0,.int .i64 0,.own [],.own [],.str []])::(b4,.cells [.int .i64 p.o,.int .i64 p.s,.int .i64 p.day,.own (qM p.needs),.hgs b p.ops.length cp,.str p.sl])::H) (kK Tryz.prog [(.cell 8 26)] H.length R)):
  ACall Tryz.prog 5 [.agg p.d,.int .i64 a,.int .i64 how,.int .i64 bb] H R:=by
 refine b5v fun hf=>?_
 have hbig:=qt
 have hd:=@dE p
 have l1:=hp.ops
 have l2:=hp.needs
 have hx:qE p.ops≠ []:=by
  intro e
  have:=congrArg List.length e
  rw [qi] at this
  simp at this
  rw [this] at hne
  simp at hne
 simp+contextual only [wC,↓gC,↓gB,↓gJ,↓gu,ql,qi,qg,qh,hd,hx,↓XP,↓XU,qn,XW1,qa,qb,qc,qd,qe,qf,reduceCtorEq]
 intro b4 h4 b8 hh h8
 obtain ⟨n48,h8'⟩:=hh
 have a1:=qU (n:=a) (most:=(p.ops.length:Int)) (by omega)
 have a2:=qU (n:=bb) (most:=22) (by omega)
 have hk:=hkk
 refine ⟨zJ,by omega,by omega,fun _=>⟨yi,by omega,fun b cp m hh hcm=>?_⟩⟩
 obtain ⟨n8b,n4b,hb⟩:=hh
 refine ⟨by omega,qH (by omega) ?_⟩
 rw [hk]
 simp+contextual only [wC,↓gC,↓gB,↓gJ,↓gu,ql,qi,qg,qh,hd,n48,n8b,n4b,↓XP,↓XU,qn,XW1,qa,qb,qc,qd,qe,qf,reduceCtorEq]
 refine fun _=>qH (by omega) ?_
 simp+contextual only [wC,↓gC,↓gB,↓gJ,↓gu,ql,qi,qg,qh,hd,n48,n8b,n4b,qJ (show -9223372036854775808≤around bb 22 - 2 by omega) (by omega),↓XP,↓XU,qn,XW1,qa,qb,qc,qd,qe,qf,reduceCtorEq]
 intros
 subst hnr
 refine h b b4 b8 m cp _ n48 n4b n8b ?_
 exact ⟨rfl,rfl,rfl,rfl,rfl,rfl,rfl,rfl,trivial⟩
end Go.Proofs.YtpdhandimdibhaaGreatDoor
end
