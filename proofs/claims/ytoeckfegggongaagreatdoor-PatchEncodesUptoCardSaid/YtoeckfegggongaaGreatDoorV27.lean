/- A part of the proof of what the last text says: XcG, Gt2, Gt3, Gt6. Conditions: those in each theorem. -/
import Derived.Test.YtoeckfegggongaaGreatDoorV26
import Derived.KernelRfl
set_option linter.unusedVariables false
set_option linter.unusedSimpArgs false
set_option maxRecDepth 100000
set_option maxHeartbeats 16000000
open Nat renaming reduceSub → qa,reduceAdd → qb,reduceMul → qc,reduceEqDiff → qd,reduceLeDiff → qe,reduceBEq → qf
section
namespace Go.Proofs.YtoeckfegggongaaGreatDoor
open Go.Xs
open Go Go.Aw
def x6_s0 : XC := (.reg [m 13 86,b (.binOp .add 3 (t 86) (i 1) 3) 87,n 87 13])
def x6_s1 : XC := (.seq (.block 2 (.gh (.regV [f 26 4 4 88,c (.load 24 (t 88)) 89,f 26 4 4 90,l 24 90 91,m 11 92,j 24 91 92 93,l 55 93 94,a (.buildSlice 24 1 #[(0,(t 94))]) 95] [b (.call ⟨(.builtin .append),#[(t 89),(t 95)],#[24,24,0,0]⟩) 96,f 26 4 4 97,w 24 97 96]))) x6_s0)
def x6_L2 : XC := (.seq (.seq (.reg [m 13 84,a (.binOp .lss 3 (t 84) (i 14) 3) 85]) (.cond (t 85) .skip (.exit 1))) x6_s1)
def x6_s3 : XC := (.reg [m 14 236,b (.binOp .add 3 (t 236) (i 1) 3) 237,n 237 14])
def x6_s4 : XC := (.seq (.block 4 (.gh (.regV [f 26 4 4 238,c (.load 24 (t 238)) 239,a (.build 50 #[(1,(i 1))]) 240,m 3 241,a (k 15 #[(t 241),(i 125)] #[3,3]) 242,a (.binOp .add 3 (i 900) (t 242) 3) 243,a (.makeSlice 35 (t 243) (t 243)) 244,a (.convert 35 9 (t 244)) 245,a (.build 55 #[(0,(i 7)),(1,(t 240)),(6,(t 245))]) 246,a (.buildSlice 24 1 #[(0,(t 246))]) 247] [b (.call ⟨(.builtin .append),#[(t 239),(t 247)],#[24,24,0,0]⟩) 248,f 26 4 4 249,w 24 249 248]))) x6_s3)
def x6_L5 : XC := (.seq (.seq (.reg [m 14 234,a (.binOp .lss 3 (t 234) (i 7) 3) 235]) (.cond (t 235) .skip (.exit 3))) x6_s4)
def x6_s6 : XC := (.reg [m 15 268,b (.binOp .add 3 (t 268) (i 1) 3) 269,n 269 15])
def x6_s7 : XC := (.seq (.block 6 (.reg [f 26 4 3 270,c (.load 23 (t 270)) 271,m 15 272,a (.build 48 #[(0,(t 272)),(1,(i 1))]) 273,a (.buildSlice 23 1 #[(0,(t 273))]) 274,b (.call ⟨(.builtin .append),#[(t 271),(t 274)],#[23,23]⟩) 275,f 26 4 3 276,w 23 276 275])) x6_s6)
def x6_L8 : XC := (.seq (.seq (.reg [m 15 263,m 3 264,a (k 15 #[(t 264),(i 4)] #[3,3]) 265,a (.binOp .add 3 (i 7) (t 265) 3) 266,a (.binOp .lss 3 (t 263) (t 266) 3) 267]) (.cond (t 267) .skip (.exit 5))) x6_s7)
def x6_c9 : XC := (.regD [f 26 4 4 36,l 24 36 37,m 11 38,m 3 39,a (k 15 #[(t 39),(i 18)] #[3,3]) 40,b (.binOp .add 3 (i 1) (t 40) 3) 41,j 24 37 38 42,f 55 42 0 43,w 3 43 41])
def x6_s10 : XC := (.cond (t 260) (.seq (.reg [f 26 4 3 262,s (.store 23 (t 262) (.const (.slice .none 0 0)))]) (.seq (.reg [a (.assign (i 0)) 15]) (.block 5 (.loop x6_L8)))) x6_c9)
def x6_c11 : XC := (.reg [a (.buildSlice 22 4 #[(0,(i 0)),(1,(i 1)),(2,(i 1200)),(3,(i 1201))]) 252,m 3 253,a (k 15 #[(t 253),(i 4)] #[3,3]) 254,j 22 252 254 255,l 3 255 256,a (.makeSlice 35 (t 256) (t 256)) 257,b (.convert 35 9 (t 257)) 258,f 26 4 5 259,w 9 259 258])
def x6_c12 : XC := (.seq (.reg [b (.binOp .eql 3 (t 35) (i 17) 3) 251,n 251 250]) (.cond (t 250) x6_c11 (.seq (.reg [b (.binOp .eql 3 (t 35) (i 18) 3) 261,n 261 260]) x6_s10)))
def x6_c13 : XC := (.regD [f 26 4 4 217,l 24 217 218,m 11 219,a (.build 50 #[(0,(i 1)),(1,(i 1))]) 220,a (.build 50 #[(0,(i 1)),(1,(i 1)),(2,(i 2))]) 221,m 3 222,a (k 15 #[(t 222),(i 4)] #[3,3]) 223,a (.build 50 #[(0,(i 1)),(1,(i 1)),(2,(t 223))]) 224,a (.buildSlice 51 2 #[(0,(t 221)),(1,(t 224))]) 225,m 3 226,a (.binOp .quo 3 (t 226) (i 4) 3) 227,a (k 15 #[(t 227),(i 5)] #[3,3]) 228,a (.binOp .sub 3 (t 228) (i 2) 3) 229,b (.build 55 #[(0,(i 16)),(1,(t 220)),(3,(t 225)),(4,(t 229))]) 230,j 24 218 219 231,w 55 231 230])
def x6_s14 : XC := (.cond (t 215) x6_c13 (.seq (.reg [b (.binOp .eql 3 (t 35) (i 16) 3) 233,n 233 232]) (.cond (t 232) (.seq (.reg [a (.assign (i 0)) 14]) (.block 3 (.loop x6_L5))) x6_c12)))
def x6_c15 : XC := (.regD [f 26 4 4 200,l 24 200 201,m 11 202,m 12 203,a (.build 50 #[(0,(i 1)),(1,(i 1)),(2,(t 203))]) 204,c (.buildSlice 51 1 #[(0,(t 204))]) 205,f 26 4 4 206,l 24 206 207,m 11 208,j 24 207 208 209,f 55 209 3 210,l 51 210 211,b (.call ⟨(.builtin .append),#[(t 205),(t 211)],#[51,51]⟩) 212,j 24 201 202 213,f 55 213 3 214,w 51 214 212])
def x6_c16 : XC := (.regD [f 26 4 4 188,l 24 188 189,m 11 190,m 3 191,a (k 15 #[(t 191),(i 3)] #[3,3]) 192,m 3 193,a (k 15 #[(t 193),(i 5)] #[3,3]) 194,b (.build 53 #[(0,(t 192)),(1,(t 194))]) 195,j 24 189 190 196,f 55 196 7 197,w 53 197 195])
def x6_c17 : XC := (.seq (.reg [b (.binOp .eql 3 (t 35) (i 14) 3) 199,n 199 198]) (.cond (t 198) x6_c15 (.seq (.reg [b (.binOp .eql 3 (t 35) (i 15) 3) 216,n 216 215]) x6_s14)))
def x6_c18 : XC := (.regD [f 26 4 4 174,l 24 174 175,m 11 176,a (.buildSlice 22 4 #[(0,(i 0)),(1,(i 1)),(2,(i 1024)),(3,(i 1025))]) 177,m 3 178,a (k 15 #[(t 178),(i 4)] #[3,3]) 179,j 22 177 179 180,l 3 180 181,a (.makeSlice 35 (t 181) (t 181)) 182,b (.convert 35 9 (t 182)) 183,j 24 175 176 184,f 55 184 6 185,w 9 185 183])
def x6_s19 : XC := (.cond (t 172) x6_c18 (.seq (.reg [b (.binOp .eql 3 (t 35) (i 13) 3) 187,n 187 186]) (.cond (t 186) x6_c16 x6_c17)))
def x6_c20 : XC := (.regD [f 26 4 4 164,l 24 164 165,m 11 166,m 3 167,a (k 15 #[(t 167),(i 18)] #[3,3]) 168,b (.slice 9 (.const (.string ⟨#[115,105,120,116,101,101,110,32,108,101,116,116,101,114,115,33,33]⟩)) .none (.some (t 168)) .none) 169,j 24 165 166 170,f 55 170 5 171,w 9 171 169])
def x6_c21 : XC := (.regD [f 26 4 4 151,l 24 151 152,m 11 153,m 3 154,a (.buildSlice 22 10 #[(0,(i (-2))),(1,(i (-1))),(2,(i 0)),(3,(i 1)),(4,(i 2)),(5,(i 1023)),(6,(i 1024)),(7,(i 1048576)),(8,(i 1048577)),(9,(t 154))]) 155,m 3 156,a (k 15 #[(t 156),(i 10)] #[3,3]) 157,j 22 155 157 158,b (.load 3 (t 158)) 159,j 24 152 153 160,f 55 160 4 161,w 3 161 159])
def x6_c22 : XC := (.seq (.reg [b (.binOp .eql 3 (t 35) (i 11) 3) 163,n 163 162]) (.cond (t 162) x6_c20 (.seq (.reg [b (.binOp .eql 3 (t 35) (i 12) 3) 173,n 173 172]) x6_s19)))
def x6_c23 : XC := (.regD [f 26 4 4 138,l 24 138 139,m 11 140,f 26 4 4 141,l 24 141 142,m 11 143,j 24 142 143 144,f 55 144 1 145,b (.load 50 (t 145)) 146,j 24 139 140 147,f 55 147 2 148,w 50 148 146])
def x6_s24 : XC := (.cond (t 136) x6_c23 (.seq (.reg [b (.binOp .eql 3 (t 35) (i 10) 3) 150,n 150 149]) (.cond (t 149) x6_c21 x6_c22)))
def x6_c25 : XC := (.regD [f 26 4 4 123,l 24 123 124,m 11 125,m 3 126,a (k 15 #[(t 126),(i 9)] #[3,3]) 127,m 12 128,m 3 129,a (.binOp .quo 3 (t 129) (i 5) 3) 130,a (k 15 #[(t 130),(i 18)] #[3,3]) 131,a (.binOp .sub 3 (t 131) (i 1) 3) 132,b (.build 50 #[(0,(t 127)),(1,(t 128)),(2,(t 132))]) 133,j 24 124 125 134,f 55 134 2 135,w 50 135 133])
def x6_c26 : XC := (.regD [f 26 4 4 108,l 24 108 109,m 11 110,m 12 111,m 3 112,a (k 15 #[(t 112),(i 19)] #[3,3]) 113,m 3 114,a (.binOp .quo 3 (t 114) (i 5) 3) 115,a (k 15 #[(t 115),(i 18)] #[3,3]) 116,a (.binOp .sub 3 (t 116) (i 1) 3) 117,b (.build 50 #[(0,(t 111)),(1,(t 113)),(2,(t 117))]) 118,j 24 109 110 119,f 55 119 1 120,w 50 120 118])
def x6_c27 : XC := (.seq (.reg [b (.binOp .eql 3 (t 35) (i 8) 3) 122,n 122 121]) (.cond (t 121) x6_c25 (.seq (.reg [b (.binOp .eql 3 (t 35) (i 9) 3) 137,n 137 136]) x6_s24)))
def x6_c28 : XC := (.reg [f 26 4 4 100,l 24 100 101,m 11 102,b (.move (t 12)) 103,j 24 101 102 104,f 55 104 0 105,w 3 105 103])
def x6_s29 : XC := (.cond (t 98) x6_c28 (.seq (.reg [b (.binOp .eql 3 (t 35) (i 7) 3) 107,n 107 106]) (.cond (t 106) x6_c26 x6_c27)))
def x6_s30 : XC := (.cond (t 82) (.seq (.reg [a (.assign (i 0)) 13]) (.block 1 (.loop x6_L2))) (.seq (.reg [b (.binOp .eql 3 (t 35) (i 6) 3) 99,n 99 98]) x6_s29))
def x6_c31 : XC := (.reg [f 26 4 4 78,l 24 78 79,b (.slice 24 (t 79) .none (.some (i 0)) .none) 80,f 26 4 4 81,w 24 81 80])
def x6_c32 : XC := (.gh (.regV [f 26 4 3 63,c (.load 23 (t 63)) 64,m 3 65,a (k 15 #[(t 65),(i 10)] #[3,3]) 66,a (.binOp .sub 3 (t 66) (i 1) 3) 67,m 3 68,a (.binOp .quo 3 (t 68) (i 10) 3) 69,a (k 15 #[(t 69),(i 19)] #[3,3]) 70,a (.binOp .sub 3 (t 70) (i 1) 3) 71,a (.build 48 #[(0,(t 67)),(1,(t 71))]) 72,a (.buildSlice 23 1 #[(0,(t 72))]) 73] [b (.call ⟨(.builtin .append),#[(t 64),(t 73)],#[23,23,0,0]⟩) 74,f 26 4 3 75,w 23 75 74]))
def x6_c33 : XC := (.seq (.reg [b (.binOp .eql 3 (t 35) (i 4) 3) 77,n 77 76]) (.cond (t 76) x6_c31 (.seq (.reg [b (.binOp .eql 3 (t 35) (i 5) 3) 83,n 83 82]) x6_s30)))
def x6_c34 : XC := (.reg [m 3 54,a (.buildSlice 22 5 #[(0,(i 0)),(1,(i 1)),(2,(i 1048576)),(3,(i 1048577)),(4,(t 54))]) 55,m 3 56,a (k 15 #[(t 56),(i 5)] #[3,3]) 57,j 22 55 57 58,b (.load 3 (t 58)) 59,f 26 4 2 60,w 3 60 59])
def x6_s35 : XC := (.cond (t 52) x6_c34 (.seq (.reg [b (.binOp .eql 3 (t 35) (i 3) 3) 62,n 62 61]) (.cond (t 61) x6_c32 x6_c33)))
def x6_s36 : XC := (.cond (t 48) (.reg [b (.move (t 12)) 50,f 26 4 1 51,w 3 51 50]) (.seq (.reg [b (.binOp .eql 3 (t 35) (i 2) 3) 53,n 53 52]) x6_s35))
def x6_s37 : XC := (.cond (t 44) (.reg [b (.move (t 12)) 46,f 26 4 0 47,w 3 47 46]) (.seq (.reg [b (.binOp .eql 3 (t 35) (i 1) 3) 49,n 49 48]) x6_s36))
def x6_s38 : XC := (.seq (.seq (.reg [m 2 34,a (k 15 #[(t 34),(i 20)] #[3,3]) 35]) (.block 0 (.seq (.reg [b (.binOp .eql 3 (t 35) (i 0) 3) 45,n 45 44]) x6_s37))) (.seq (.reg [b (.load 26 (t 4)) 277,w 26 8 277]) .ret))
def x6_s39 : XC := (.seq (.reg [m 3 31,a (k 15 #[(t 31),(i 22)] #[3,3]) 32,b (.binOp .sub 3 (t 32) (i 2) 3) 33,n 33 12]) x6_s38)
theorem J4 : type_of% (@unf _ _ x6_s39.eq_1) := unf x6_s39.eq_1
def x6_s40 : XC := (.seq (.reg [m 1 26,f 26 4 4 27,l 24 27 28,e 24 28 29,b (k 15 #[(t 26),(t 29)] #[3,3]) 30,n 30 11]) x6_s39)
theorem QQ : type_of% (@unf _ _ x6_s40.eq_1) := unf x6_s40.eq_1
def x6_s41 : XC := (.seq (.reg [c (.move (t 10)) 21,f 26 4 4 22,l 24 22 23,b (.call ⟨(.builtin .append),#[(t 21),(t 23)],#[24,24]⟩) 24,f 26 4 4 25,w 24 25 24]) x6_s40)
theorem QO : type_of% (@unf _ _ x6_s41.eq_1) := unf x6_s41.eq_1
def x6_s42 : XC := (.seq (.reg [c (.move (t 9)) 16,f 26 4 3 17,l 23 17 18,b (.call ⟨(.builtin .append),#[(t 16),(t 18)],#[23,23]⟩) 19,f 26 4 3 20,w 23 20 19]) (.seq (.reg [a (.assign (.const (.slice .none 0 0))) 10]) x6_s41))
theorem Jb : type_of% (@unf _ _ x6_s42.eq_1) := unf x6_s42.eq_1
def V6 := PLift.up (aI (aI (aI (aI (aI (@unf _ _ x6_s0.eq_1) (@unf _ _ x6_s1.eq_1)) (aI (@unf _ _ x6_L2.eq_1) (aI (@unf _ _ x6_s3.eq_1) (@unf _ _ x6_s4.eq_1)))) (aI (aI (@unf _ _ x6_L5.eq_1) (@unf _ _ x6_s6.eq_1)) (aI (@unf _ _ x6_s7.eq_1) (aI (@unf _ _ x6_L8.eq_1) (@unf _ _ x6_c9.eq_1))))) (aI (aI (aI (@unf _ _ x6_s10.eq_1) (@unf _ _ x6_c11.eq_1)) (aI (@unf _ _ x6_c12.eq_1) (aI (@unf _ _ x6_c13.eq_1) (@unf _ _ x6_s14.eq_1)))) (aI (aI (@unf _ _ x6_c15.eq_1) (aI (@unf _ _ x6_c16.eq_1) (@unf _ _ x6_c17.eq_1))) (aI (@unf _ _ x6_c18.eq_1) (aI (@unf _ _ x6_s19.eq_1) (@unf _ _ x6_c20.eq_1)))))) (aI (aI (aI (aI (@unf _ _ x6_c21.eq_1) (@unf _ _ x6_c22.eq_1)) (aI (@unf _ _ x6_c23.eq_1) (aI (@unf _ _ x6_s24.eq_1) (@unf _ _ x6_c25.eq_1)))) (aI (aI (@unf _ _ x6_c26.eq_1) (aI (@unf _ _ x6_c27.eq_1) (@unf _ _ x6_c28.eq_1))) (aI (@unf _ _ x6_s29.eq_1) (aI (@unf _ _ x6_s30.eq_1) (@unf _ _ x6_c31.eq_1))))) (aI (aI (aI (@unf _ _ x6_c32.eq_1) (@unf _ _ x6_c33.eq_1)) (aI (@unf _ _ x6_c34.eq_1) (aI (@unf _ _ x6_s35.eq_1) (@unf _ _ x6_s36.eq_1)))) (aI (aI (@unf _ _ x6_s37.eq_1) (aI (@unf _ _ x6_s38.eq_1) (@J4))) (aI (@QQ) (aI (@QO) (@Jb)))))))
theorem U6 : type_of% V6.down := V6.down
def x6 : XC := (.seq (.reg [a (.box 26 (t 0)) 4,a (.alloc 26) 8]) (.seq (.reg [a (.assign (.const (.slice .none 0 0))) 9]) x6_s42))
theorem b6 : Bt 6 278 x6 [(.cell 8 26)] := bt Tryz.func6 rfl (by kernel_rfl) (by kernel_rfl) (by kernel_rfl)
def x6v_s0 : XC := (.reg [m 13 86,b (.binOp .add 3 (t 86) (i 1) 3) 87,n 87 13])
def x6v_s1 : XC := (.seq (.block 2 (.regD [f 26 4 4 88,c (.load 24 (t 88)) 89,f 26 4 4 90,l 24 90 91,m 11 92,j 24 91 92 93,l 55 93 94,a (.buildSlice 24 1 #[(0,(t 94))]) 95,b (.call ⟨(.builtin .append),#[(t 89),(t 95)],#[24,24]⟩) 96,f 26 4 4 97,w 24 97 96])) x6v_s0)
def x6v_L2 : XC := (.seq (.seq (.reg [m 13 84,a (.binOp .lss 3 (t 84) (i 14) 3) 85]) (.cond (t 85) .skip (.exit 1))) x6v_s1)
def x6v_s3 : XC := (.reg [m 14 236,b (.binOp .add 3 (t 236) (i 1) 3) 237,n 237 14])
def x6v_s4 : XC := (.seq (.block 4 (.regD [f 26 4 4 238,c (.load 24 (t 238)) 239,a (.build 50 #[(1,(i 1))]) 240,m 3 241,a (k 15 #[(t 241),(i 125)] #[3,3]) 242,a (.binOp .add 3 (i 900) (t 242) 3) 243,a (.makeSlice 35 (t 243) (t 243)) 244,a (.convert 35 9 (t 244)) 245,a (.build 55 #[(0,(i 7)),(1,(t 240)),(6,(t 245))]) 246,a (.buildSlice 24 1 #[(0,(t 246))]) 247,b (.call ⟨(.builtin .append),#[(t 239),(t 247)],#[24,24]⟩) 248,f 26 4 4 249,w 24 249 248])) x6v_s3)
def x6v_L5 : XC := (.seq (.seq (.reg [m 14 234,a (.binOp .lss 3 (t 234) (i 7) 3) 235]) (.cond (t 235) .skip (.exit 3))) x6v_s4)
def x6v_s6 : XC := (.reg [m 15 268,b (.binOp .add 3 (t 268) (i 1) 3) 269,n 269 15])
def x6v_s7 : XC := (.seq (.block 6 (.reg [f 26 4 3 270,c (.load 23 (t 270)) 271,m 15 272,a (.build 48 #[(0,(t 272)),(1,(i 1))]) 273,a (.buildSlice 23 1 #[(0,(t 273))]) 274,b (.call ⟨(.builtin .append),#[(t 271),(t 274)],#[23,23]⟩) 275,f 26 4 3 276,w 23 276 275])) x6v_s6)
def x6v_L8 : XC := (.seq (.seq (.reg [m 15 263,m 3 264,a (k 15 #[(t 264),(i 4)] #[3,3]) 265,a (.binOp .add 3 (i 7) (t 265) 3) 266,a (.binOp .lss 3 (t 263) (t 266) 3) 267]) (.cond (t 267) .skip (.exit 5))) x6v_s7)
def x6v_c9 : XC := (.regD [f 26 4 4 36,l 24 36 37,m 11 38,m 3 39,a (k 15 #[(t 39),(i 18)] #[3,3]) 40,b (.binOp .add 3 (i 1) (t 40) 3) 41,j 24 37 38 42,f 55 42 0 43,w 3 43 41])
def x6v_s10 : XC := (.cond (t 260) (.seq (.reg [f 26 4 3 262,s (.store 23 (t 262) (.const (.slice .none 0 0)))]) (.seq (.reg [a (.assign (i 0)) 15]) (.block 5 (.loop x6v_L8)))) x6v_c9)
def x6v_c11 : XC := (.reg [a (.buildSlice 22 4 #[(0,(i 0)),(1,(i 1)),(2,(i 1200)),(3,(i 1201))]) 252,m 3 253,a (k 15 #[(t 253),(i 4)] #[3,3]) 254,j 22 252 254 255,l 3 255 256,a (.makeSlice 35 (t 256) (t 256)) 257,b (.convert 35 9 (t 257)) 258,f 26 4 5 259,w 9 259 258])
def x6v_c12 : XC := (.seq (.reg [b (.binOp .eql 3 (t 35) (i 17) 3) 251,n 251 250]) (.cond (t 250) x6v_c11 (.seq (.reg [b (.binOp .eql 3 (t 35) (i 18) 3) 261,n 261 260]) x6v_s10)))
def x6v_c13 : XC := (.regD [f 26 4 4 217,l 24 217 218,m 11 219,a (.build 50 #[(0,(i 1)),(1,(i 1))]) 220,a (.build 50 #[(0,(i 1)),(1,(i 1)),(2,(i 2))]) 221,m 3 222,a (k 15 #[(t 222),(i 4)] #[3,3]) 223,a (.build 50 #[(0,(i 1)),(1,(i 1)),(2,(t 223))]) 224,a (.buildSlice 51 2 #[(0,(t 221)),(1,(t 224))]) 225,m 3 226,a (.binOp .quo 3 (t 226) (i 4) 3) 227,a (k 15 #[(t 227),(i 5)] #[3,3]) 228,a (.binOp .sub 3 (t 228) (i 2) 3) 229,b (.build 55 #[(0,(i 16)),(1,(t 220)),(3,(t 225)),(4,(t 229))]) 230,j 24 218 219 231,w 55 231 230])
def x6v_s14 : XC := (.cond (t 215) x6v_c13 (.seq (.reg [b (.binOp .eql 3 (t 35) (i 16) 3) 233,n 233 232]) (.cond (t 232) (.seq (.reg [a (.assign (i 0)) 14]) (.block 3 (.loop x6v_L5))) x6v_c12)))
def x6v_c15 : XC := (.regD [f 26 4 4 200,l 24 200 201,m 11 202,m 12 203,a (.build 50 #[(0,(i 1)),(1,(i 1)),(2,(t 203))]) 204,c (.buildSlice 51 1 #[(0,(t 204))]) 205,f 26 4 4 206,l 24 206 207,m 11 208,j 24 207 208 209,f 55 209 3 210,l 51 210 211,b (.call ⟨(.builtin .append),#[(t 205),(t 211)],#[51,51]⟩) 212,j 24 201 202 213,f 55 213 3 214,w 51 214 212])
def x6v_c16 : XC := (.regD [f 26 4 4 188,l 24 188 189,m 11 190,m 3 191,a (k 15 #[(t 191),(i 3)] #[3,3]) 192,m 3 193,a (k 15 #[(t 193),(i 5)] #[3,3]) 194,b (.build 53 #[(0,(t 192)),(1,(t 194))]) 195,j 24 189 190 196,f 55 196 7 197,w 53 197 195])
def x6v_c17 : XC := (.seq (.reg [b (.binOp .eql 3 (t 35) (i 14) 3) 199,n 199 198]) (.cond (t 198) x6v_c15 (.seq (.reg [b (.binOp .eql 3 (t 35) (i 15) 3) 216,n 216 215]) x6v_s14)))
def x6v_c18 : XC := (.regD [f 26 4 4 174,l 24 174 175,m 11 176,a (.buildSlice 22 4 #[(0,(i 0)),(1,(i 1)),(2,(i 1024)),(3,(i 1025))]) 177,m 3 178,a (k 15 #[(t 178),(i 4)] #[3,3]) 179,j 22 177 179 180,l 3 180 181,a (.makeSlice 35 (t 181) (t 181)) 182,b (.convert 35 9 (t 182)) 183,j 24 175 176 184,f 55 184 6 185,w 9 185 183])
def x6v_s19 : XC := (.cond (t 172) x6v_c18 (.seq (.reg [b (.binOp .eql 3 (t 35) (i 13) 3) 187,n 187 186]) (.cond (t 186) x6v_c16 x6v_c17)))
def x6v_c20 : XC := (.regD [f 26 4 4 164,l 24 164 165,m 11 166,m 3 167,a (k 15 #[(t 167),(i 18)] #[3,3]) 168,b (.slice 9 (.const (.string ⟨#[115,105,120,116,101,101,110,32,108,101,116,116,101,114,115,33,33]⟩)) .none (.some (t 168)) .none) 169,j 24 165 166 170,f 55 170 5 171,w 9 171 169])
def x6v_c21 : XC := (.regD [f 26 4 4 151,l 24 151 152,m 11 153,m 3 154,a (.buildSlice 22 10 #[(0,(i (-2))),(1,(i (-1))),(2,(i 0)),(3,(i 1)),(4,(i 2)),(5,(i 1023)),(6,(i 1024)),(7,(i 1048576)),(8,(i 1048577)),(9,(t 154))]) 155,m 3 156,a (k 15 #[(t 156),(i 10)] #[3,3]) 157,j 22 155 157 158,b (.load 3 (t 158)) 159,j 24 152 153 160,f 55 160 4 161,w 3 161 159])
def x6v_c22 : XC := (.seq (.reg [b (.binOp .eql 3 (t 35) (i 11) 3) 163,n 163 162]) (.cond (t 162) x6v_c20 (.seq (.reg [b (.binOp .eql 3 (t 35) (i 12) 3) 173,n 173 172]) x6v_s19)))
def x6v_c23 : XC := (.regD [f 26 4 4 138,l 24 138 139,m 11 140,f 26 4 4 141,l 24 141 142,m 11 143,j 24 142 143 144,f 55 144 1 145,b (.load 50 (t 145)) 146,j 24 139 140 147,f 55 147 2 148,w 50 148 146])
def x6v_s24 : XC := (.cond (t 136) x6v_c23 (.seq (.reg [b (.binOp .eql 3 (t 35) (i 10) 3) 150,n 150 149]) (.cond (t 149) x6v_c21 x6v_c22)))
def x6v_c25 : XC := (.regD [f 26 4 4 123,l 24 123 124,m 11 125,m 3 126,a (k 15 #[(t 126),(i 9)] #[3,3]) 127,m 12 128,m 3 129,a (.binOp .quo 3 (t 129) (i 5) 3) 130,a (k 15 #[(t 130),(i 18)] #[3,3]) 131,a (.binOp .sub 3 (t 131) (i 1) 3) 132,b (.build 50 #[(0,(t 127)),(1,(t 128)),(2,(t 132))]) 133,j 24 124 125 134,f 55 134 2 135,w 50 135 133])
def x6v_c26 : XC := (.regD [f 26 4 4 108,l 24 108 109,m 11 110,m 12 111,m 3 112,a (k 15 #[(t 112),(i 19)] #[3,3]) 113,m 3 114,a (.binOp .quo 3 (t 114) (i 5) 3) 115,a (k 15 #[(t 115),(i 18)] #[3,3]) 116,a (.binOp .sub 3 (t 116) (i 1) 3) 117,b (.build 50 #[(0,(t 111)),(1,(t 113)),(2,(t 117))]) 118,j 24 109 110 119,f 55 119 1 120,w 50 120 118])
def x6v_c27 : XC := (.seq (.reg [b (.binOp .eql 3 (t 35) (i 8) 3) 122,n 122 121]) (.cond (t 121) x6v_c25 (.seq (.reg [b (.binOp .eql 3 (t 35) (i 9) 3) 137,n 137 136]) x6v_s24)))
def x6v_c28 : XC := (.reg [f 26 4 4 100,l 24 100 101,m 11 102,b (.move (t 12)) 103,j 24 101 102 104,f 55 104 0 105,w 3 105 103])
def x6v_s29 : XC := (.cond (t 98) x6v_c28 (.seq (.reg [b (.binOp .eql 3 (t 35) (i 7) 3) 107,n 107 106]) (.cond (t 106) x6v_c26 x6v_c27)))
def x6v_s30 : XC := (.cond (t 82) (.seq (.reg [a (.assign (i 0)) 13]) (.block 1 (.loop x6v_L2))) (.seq (.reg [b (.binOp .eql 3 (t 35) (i 6) 3) 99,n 99 98]) x6v_s29))
def x6v_c31 : XC := (.reg [f 26 4 4 78,l 24 78 79,b (.slice 24 (t 79) .none (.some (i 0)) .none) 80,f 26 4 4 81,w 24 81 80])
def x6v_c32 : XC := (.regD [f 26 4 3 63,c (.load 23 (t 63)) 64,m 3 65,a (k 15 #[(t 65),(i 10)] #[3,3]) 66,a (.binOp .sub 3 (t 66) (i 1) 3) 67,m 3 68,a (.binOp .quo 3 (t 68) (i 10) 3) 69,a (k 15 #[(t 69),(i 19)] #[3,3]) 70,a (.binOp .sub 3 (t 70) (i 1) 3) 71,a (.build 48 #[(0,(t 67)),(1,(t 71))]) 72,a (.buildSlice 23 1 #[(0,(t 72))]) 73,b (.call ⟨(.builtin .append),#[(t 64),(t 73)],#[23,23]⟩) 74,f 26 4 3 75,w 23 75 74])
def x6v_c33 : XC := (.seq (.reg [b (.binOp .eql 3 (t 35) (i 4) 3) 77,n 77 76]) (.cond (t 76) x6v_c31 (.seq (.reg [b (.binOp .eql 3 (t 35) (i 5) 3) 83,n 83 82]) x6v_s30)))
def x6v_c34 : XC := (.reg [m 3 54,a (.buildSlice 22 5 #[(0,(i 0)),(1,(i 1)),(2,(i 1048576)),(3,(i 1048577)),(4,(t 54))]) 55,m 3 56,a (k 15 #[(t 56),(i 5)] #[3,3]) 57,j 22 55 57 58,b (.load 3 (t 58)) 59,f 26 4 2 60,w 3 60 59])
def x6v_s35 : XC := (.cond (t 52) x6v_c34 (.seq (.reg [b (.binOp .eql 3 (t 35) (i 3) 3) 62,n 62 61]) (.cond (t 61) x6v_c32 x6v_c33)))
def x6v_s36 : XC := (.cond (t 48) (.reg [b (.move (t 12)) 50,f 26 4 1 51,w 3 51 50]) (.seq (.reg [b (.binOp .eql 3 (t 35) (i 2) 3) 53,n 53 52]) x6v_s35))
def x6v_s37 : XC := (.cond (t 44) (.reg [b (.move (t 12)) 46,f 26 4 0 47,w 3 47 46]) (.seq (.reg [b (.binOp .eql 3 (t 35) (i 1) 3) 49,n 49 48]) x6v_s36))
def x6v_s38 : XC := (.seq (.seq (.reg [m 2 34,a (k 15 #[(t 34),(i 20)] #[3,3]) 35]) (.block 0 (.seq (.reg [b (.binOp .eql 3 (t 35) (i 0) 3) 45,n 45 44]) x6v_s37))) (.seq (.gh (.reg [b (.load 26 (t 4)) 277,w 26 8 277])) .ret))
def x6v_s39 : XC := (.seq (.reg [m 3 31,a (k 15 #[(t 31),(i 22)] #[3,3]) 32,b (.binOp .sub 3 (t 32) (i 2) 3) 33,n 33 12]) x6v_s38)
theorem zJ : type_of% (@unf _ _ x6v_s39.eq_1) := unf x6v_s39.eq_1
def x6v_s40 : XC := (.seq (.reg [m 1 26,f 26 4 4 27,l 24 27 28,e 24 28 29,b (k 15 #[(t 26),(t 29)] #[3,3]) 30,n 30 11]) x6v_s39)
theorem zI : type_of% (@unf _ _ x6v_s40.eq_1) := unf x6v_s40.eq_1
def x6v_s41 : XC := (.seq (.reg [c (.move (t 10)) 21,f 26 4 4 22,l 24 22 23,b (.call ⟨(.builtin .append),#[(t 21),(t 23)],#[24,24,0]⟩) 24,f 26 4 4 25,w 24 25 24]) x6v_s40)
theorem zB : type_of% (@unf _ _ x6v_s41.eq_1) := unf x6v_s41.eq_1
def x6v_s42 : XC := (.seq (.reg [c (.move (t 9)) 16,f 26 4 3 17,l 23 17 18,b (.call ⟨(.builtin .append),#[(t 16),(t 18)],#[23,23]⟩) 19,f 26 4 3 20,w 23 20 19]) (.seq (.reg [a (.assign (.const (.slice .none 0 0))) 10]) x6v_s41))
theorem zM : type_of% (@unf _ _ x6v_s42.eq_1) := unf x6v_s42.eq_1
def V6v := PLift.up (aI (aI (aI (aI (aI (@unf _ _ x6v_s0.eq_1) (@unf _ _ x6v_s1.eq_1)) (aI (@unf _ _ x6v_L2.eq_1) (aI (@unf _ _ x6v_s3.eq_1) (@unf _ _ x6v_s4.eq_1)))) (aI (aI (@unf _ _ x6v_L5.eq_1) (@unf _ _ x6v_s6.eq_1)) (aI (@unf _ _ x6v_s7.eq_1) (aI (@unf _ _ x6v_L8.eq_1) (@unf _ _ x6v_c9.eq_1))))) (aI (aI (aI (@unf _ _ x6v_s10.eq_1) (@unf _ _ x6v_c11.eq_1)) (aI (@unf _ _ x6v_c12.eq_1) (aI (@unf _ _ x6v_c13.eq_1) (@unf _ _ x6v_s14.eq_1)))) (aI (aI (@unf _ _ x6v_c15.eq_1) (aI (@unf _ _ x6v_c16.eq_1) (@unf _ _ x6v_c17.eq_1))) (aI (@unf _ _ x6v_c18.eq_1) (aI (@unf _ _ x6v_s19.eq_1) (@unf _ _ x6v_c20.eq_1)))))) (aI (aI (aI (aI (@unf _ _ x6v_c21.eq_1) (@unf _ _ x6v_c22.eq_1)) (aI (@unf _ _ x6v_c23.eq_1) (aI (@unf _ _ x6v_s24.eq_1) (@unf _ _ x6v_c25.eq_1)))) (aI (aI (@unf _ _ x6v_c26.eq_1) (aI (@unf _ _ x6v_c27.eq_1) (@unf _ _ x6v_c28.eq_1))) (aI (@unf _ _ x6v_s29.eq_1) (aI (@unf _ _ x6v_s30.eq_1) (@unf _ _ x6v_c31.eq_1))))) (aI (aI (aI (@unf _ _ x6v_c32.eq_1) (@unf _ _ x6v_c33.eq_1)) (aI (@unf _ _ x6v_c34.eq_1) (aI (@unf _ _ x6v_s35.eq_1) (@unf _ _ x6v_s36.eq_1)))) (aI (aI (@unf _ _ x6v_s37.eq_1) (aI (@unf _ _ x6v_s38.eq_1) (@zJ))) (aI (@zI) (aI (@zB) (@zM)))))))
theorem wO : type_of% V6v.down := V6v.down
def wg : XC := (.seq (.reg [a (.box 26 (t 0)) 4,a (.alloc 26) 8]) (.seq (.reg [a (.assign (.const (.slice .none 0 0))) 9]) x6v_s42))
theorem b6v : Bt 6 278 wg [(.cell 8 26)] := bt Tryz.func6 rfl (by kernel_rfl) (by kernel_rfl) (by kernel_rfl)
def x3_s0 : XC := (.seq (.regD [l 26 13 44,a (k 7 #[(t 44)] #[26]) 45,l 26 13 46,a (k 8 #[(t 46)] #[26]) 47,a (.binOp .neq 29 (t 45) (t 47) 29) 48]) (.cond (t 48) (.seq (.reg [a (.assign (.const (.bool false))) 10]) .ret) .skip))
def x3_c1 : XC := (.seq (.reg [l 26 12 37,m 1 38,a (.binOp .quo 3 (t 38) (i 7) 3) 39,m 2 40,a (.binOp .quo 3 (t 40) (i 20) 3) 41,m 4 42,b (k 6 #[(t 37),(t 39),(t 41),(t 42)] #[26,3,3,3]) 43,a (.alloc 26) 13,w 26 13 43]) x3_s0)
def x3_s2 : XC := (.seq (.seq (.reg [f 26 12 4 33,l 24 33 34,e 24 34 35,a (.binOp .gtr 3 (t 35) (i 0) 3) 36]) (.cond (t 36) x3_c1 .skip)) (.seq (.reg [b (k 9 #[] #[]) 49,n 49 10]) .ret))
def x3_s3 : XC := (.seq (.seq (.regD [l 26 11 23,a (k 7 #[(t 23)] #[26]) 24,a (.binOp .neq 29 (t 24) (i 0) 29) 25,m 25 26,g (.load 26 (t 12)) 27 26 false,g (k 7 #[(t 27)] #[26]) 28 26 false,g (.load 26 (t 12)) 29 26 false,g (k 8 #[(t 29)] #[26]) 30 26 false,g (.binOp .neq 29 (t 28) (t 30) 29) 31 26 false,a (.pick (t 26) (.const (.bool true)) (t 31)) 32]) (.cond (t 32) (.seq (.reg [a (.assign (.const (.bool false))) 10]) .ret) .skip)) x3_s2)
def x3_s4 : XC := (.seq (.reg [l 26 11 17,m 1 18,a (.binOp .quo 3 (t 18) (i 5) 3) 19,m 2 20,m 3 21,b (k 6 #[(t 17),(t 19),(t 20),(t 21)] #[26,3,3,3]) 22,a (.alloc 26) 12,w 26 12 22]) x3_s3)
def x3_s5 : XC := (.seq (.reg [m 0 14,m 1 15,b (k 5 #[(t 14),(t 15)] #[22,3]) 16,a (.alloc 26) 11,w 26 11 16]) x3_s4)
def x3 : XC := (.seq (.reg [a (.assign (.const (.bool false))) 10]) x3_s5)
theorem b3 : Bt 3 50 x3 [(.tmp 10)] := bt Tryz.func3 rfl (by kernel_rfl) (by kernel_rfl) (by kernel_rfl)
end Go.Proofs.YtoeckfegggongaaGreatDoor
end
section
namespace Go.Proofs.YtoeckfegggongaaGreatDoor
open Go Go.Aw
theorem spA {n : Nat} {p : Pt} {a how bb : Int} {H : AH} {R : D → AH → Prop} (hn : n ≤ 900) (hp : Sz n p) (hne : 0 < p.ops.length)
  (h : ∀ (b4 b8 : Nat) (kk near : Int) (F : List D),b4 ≠ b8 → 0 ≤ kk → kk < p.ops.length → Fr 278 [(1,.int .i64 a),(2,.int .i64 how),(3,.int .i64 bb),(4,.ptr b4 0),(8,.ptr b8 0),(11,.int .i64 kk),(12,.int .i64 near)] F → xcode Tryz.prog x6_s38 F ((b8,.cells [.int .i64 0,.int .i64 0,.int .i64 0,.own [],.own [],.str []]) :: (b4,.cells [.int .i64 p.o,.int .i64 p.s,.int .i64 p.day,.own (qO p.needs),.own (qM p.ops),.str p.sl]) :: H) (jN Tryz.prog [(.cell 8 26)] H.length R)) :
  ACall Tryz.prog 6 [.agg p.d,.int .i64 a,.int .i64 how,.int .i64 bb] H R := by
 refine b6 fun hf=>?_
 have hbig := qt
 have hd := @dE p
 have l1 := hp.ops
 have l2 := hp.needs
 simp +contextual only [x6,↓Jb,↓QO,↓QQ,↓J4,ql,qj,qg,qi,hd,↓XP,qm,XW1,qa,qb,qc,qd,qe,qf,reduceCtorEq]
 intro b4 h4 b8 hh h8
 obtain ⟨n48,h8'⟩ := hh
 have a1 := jf (n := a) (most := (p.ops.length : Int)) (by omega)
 have a2 := jf (n := bb) (most := 22) (by omega)
 refine ⟨uD,by omega,by omega,fun _=>⟨kU,by omega,by omega,qP (by omega) ?_⟩⟩
 simp +contextual only [x6,↓Jb,↓QO,↓QQ,↓J4,ql,qj,qg,qi,hd,n48,↓XP,qm,XW1,qa,qb,qc,qd,qe,qf,reduceCtorEq]
 refine fun _=>qP (by omega) ?_
 simp +contextual only [x6,↓Jb,↓QO,↓QQ,↓J4,ql,qj,qg,qi,hd,n48,qw (show -9223372036854775808 ≤ around bb 22 - 2 by omega) (by omega),↓XP,qm,XW1,qa,qb,qc,qd,qe,qf,reduceCtorEq]
 intros
 refine h b4 b8 _ (around bb 22 - 2) _ n48 a1.1 a1.2 ?_
 exact ⟨rfl,rfl,rfl,rfl,rfl,rfl,rfl,rfl,trivial⟩
end Go.Proofs.YtoeckfegggongaaGreatDoor
end
section
namespace Go.Proofs.YtoeckfegggongaaGreatDoor
open Go Go.Aw
theorem Sz.same {n : Nat} {p q : Pt} (h : Sz n p) (e1 : q.ops = p.ops) (e2 : q.needs = p.needs) (e3 : q.sl = p.sl) : Sz (n + 14) q :=
 ⟨by rw [e1]; have := h.ops; omega,by rw [e2]; have := h.needs; omega,by rw [e1]; intro o ho; have := h.ids o ho; omega,by rw [e1]; exact h.name,by rw [e1]; exact h.text,by rw [e3]; exact h.sl⟩
theorem ke {l : List OpP} {k : Nat} (h : k < l.length) : l.getD k default ∈ l := by
 simp [h]
theorem od {l : List Int} {r : Int} (h0 : 0 ≤ r) (h1 : r < l.length) : ∃ v ∈ l,(ints l).getD r.toNat [] = [.int .i64 v] := by
 have hl : r.toNat < l.length := by omega
 exact ⟨l[r.toNat],List.getElem_mem hl,by simp [ints,hl]⟩
theorem bytesB : (Tryz.prog.info? 5).map (·.bytes) = some 1 := by kernel_rfl
theorem WK {n : Int} (h : n ≤ 100000) : match Tryz.prog.info? 5 with | some i=>(i.bytes : Int) * n ≤ 140737488355328 ∧ n ≤ 140737488355328 | none=>False := by
 have h4 := bytesB
 cases hq : Tryz.prog.info? 5 with
 | none=>rw [hq] at h4; cases h4
 | some i =>
  rw [hq] at h4
  simp only [Option.map_some,Option.some.injEq] at h4
  simp only [h4]
  omega
theorem Vf {n : Nat} : ∀ x ∈ List.replicate n [D.int .u8 0],oR x := by
 intro x hx
 rw [(List.mem_replicate.1 hx).2]
 exact ⟨by omega,by omega⟩
theorem spA_0 {n : Nat} {p : Pt} {a how bb kk near : Int} {b4 b8 : Nat} {F : List D} {H : AH} {R : D → AH → Prop} (hm : around how 20 = 0) (hn : n ≤ 900) (hp : Sz n p) (n48 : b4 ≠ b8) (hF : Fr 278 [(1,.int .i64 a),(2,.int .i64 how),(3,.int .i64 bb),(4,.ptr b4 0),(8,.ptr b8 0),(11,.int .i64 kk),(12,.int .i64 near)] F) (h : ∀ q,Sz (n + 14) q → R (.agg q.d) H) : xcode Tryz.prog x6_s38 F ((b8,.cells [.int .i64 0,.int .i64 0,.int .i64 0,.own [],.own [],.str []]) :: (b4,.cells [.int .i64 p.o,.int .i64 p.s,.int .i64 p.day,.own (qO p.needs),.own (qM p.ops),.str p.sl]) :: H) (jN Tryz.prog [(.cell 8 26)] H.length R) := by
 obtain ⟨z,rfl⟩ : ∃ z : Nat → D,_ = z 0 :: .int .i64 a :: .int .i64 how :: .int .i64 bb :: .ptr b4 0 :: zz z 5 3 (.ptr b8 0 :: zz z 9 2 (.int .i64 kk :: .int .i64 near :: zz z 13 265 [])) := hF.lit
 try dsimp only [zz,qb] at *
 clear hF
 have hbig := qt
 simp +contextual only [x6,ql,qj,qg,qi,Int.reduceEq,n48,↓U6,↓XP,qm,XW1,qa,qb,qc,qd,qe,qf,reduceCtorEq]
 refine qP (by omega) ?_
 rw [hm]
 simp +contextual only [x6,ql,qj,qg,qi,Int.reduceEq,n48,↓U6,↓XP,qm,XW1,qa,qb,qc,qd,qe,qf,reduceCtorEq]
 exact fun _=>h { p with o := near } (hp.same rfl rfl rfl)
theorem spA_1 {n : Nat} {p : Pt} {a how bb kk near : Int} {b4 b8 : Nat} {F : List D} {H : AH} {R : D → AH → Prop} (hm : around how 20 = 1) (hn : n ≤ 900) (hp : Sz n p) (n48 : b4 ≠ b8) (hF : Fr 278 [(1,.int .i64 a),(2,.int .i64 how),(3,.int .i64 bb),(4,.ptr b4 0),(8,.ptr b8 0),(11,.int .i64 kk),(12,.int .i64 near)] F) (h : ∀ q,Sz (n + 14) q → R (.agg q.d) H) : xcode Tryz.prog x6_s38 F ((b8,.cells [.int .i64 0,.int .i64 0,.int .i64 0,.own [],.own [],.str []]) :: (b4,.cells [.int .i64 p.o,.int .i64 p.s,.int .i64 p.day,.own (qO p.needs),.own (qM p.ops),.str p.sl]) :: H) (jN Tryz.prog [(.cell 8 26)] H.length R) := by
 obtain ⟨z,rfl⟩ : ∃ z : Nat → D,_ = z 0 :: .int .i64 a :: .int .i64 how :: .int .i64 bb :: .ptr b4 0 :: zz z 5 3 (.ptr b8 0 :: zz z 9 2 (.int .i64 kk :: .int .i64 near :: zz z 13 265 [])) := hF.lit
 try dsimp only [zz,qb] at *
 clear hF
 have hbig := qt
 simp +contextual only [x6,ql,qj,qg,qi,Int.reduceEq,n48,↓U6,↓XP,qm,XW1,qa,qb,qc,qd,qe,qf,reduceCtorEq]
 refine qP (by omega) ?_
 rw [hm]
 simp +contextual only [x6,ql,qj,qg,qi,Int.reduceEq,n48,↓U6,↓XP,qm,XW1,qa,qb,qc,qd,qe,qf,reduceCtorEq]
 exact fun _=>⟨by omega,h { p with s := near } (hp.same rfl rfl rfl)⟩
theorem spA_2 {n : Nat} {p : Pt} {a how bb kk near : Int} {b4 b8 : Nat} {F : List D} {H : AH} {R : D → AH → Prop} (hm : around how 20 = 2) (hn : n ≤ 900) (hp : Sz n p) (n48 : b4 ≠ b8) (hF : Fr 278 [(1,.int .i64 a),(2,.int .i64 how),(3,.int .i64 bb),(4,.ptr b4 0),(8,.ptr b8 0),(11,.int .i64 kk),(12,.int .i64 near)] F) (h : ∀ q,Sz (n + 14) q → R (.agg q.d) H) : xcode Tryz.prog x6_s38 F ((b8,.cells [.int .i64 0,.int .i64 0,.int .i64 0,.own [],.own [],.str []]) :: (b4,.cells [.int .i64 p.o,.int .i64 p.s,.int .i64 p.day,.own (qO p.needs),.own (qM p.ops),.str p.sl]) :: H) (jN Tryz.prog [(.cell 8 26)] H.length R) := by
 obtain ⟨z,rfl⟩ : ∃ z : Nat → D,_ = z 0 :: .int .i64 a :: .int .i64 how :: .int .i64 bb :: .ptr b4 0 :: zz z 5 3 (.ptr b8 0 :: zz z 9 2 (.int .i64 kk :: .int .i64 near :: zz z 13 265 [])) := hF.lit
 try dsimp only [zz,qb] at *
 clear hF
 have hbig := qt
 simp +contextual only [x6,ql,qj,qg,qi,Int.reduceEq,n48,↓U6,↓XP,qm,XW1,qa,qb,qc,qd,qe,qf,reduceCtorEq]
 refine qP (by omega) ?_
 rw [hm]
 simp +contextual only [x6,ql,qj,qg,qi,Int.reduceEq,n48,↓U6,↓XP,qm,XW1,qa,qb,qc,qd,qe,qf,reduceCtorEq]
 refine fun _=>qP (by omega) ?_
 obtain ⟨r1,r2⟩ := jf (n := bb) (most := 5) (by omega)
 generalize around bb 5 = r at r1 r2 ⊢
 obtain ⟨v,hv,e⟩ := od (l := [0,1,1048576,1048577,bb]) r1 r2
 have e' : [[D.int .i64 0],[D.int .i64 1],[D.int .i64 1048576],[D.int .i64 1048577],[D.int .i64 bb]].getD r.toNat [] = [.int .i64 v] := e
 simp +contextual only [x6,ql,qj,qg,qi,Int.reduceEq,n48,e',r1,show r < ((5 : Nat) : Int) from r2,↓U6,↓XP,qm,XW1,qa,qb,qc,qd,qe,qf,reduceCtorEq]
 exact fun _ _=>⟨by omega,h { p with day := v } (hp.same rfl rfl rfl)⟩
theorem spA_4 {n : Nat} {p : Pt} {a how bb kk near : Int} {b4 b8 : Nat} {F : List D} {H : AH} {R : D → AH → Prop} (hm : around how 20 = 4) (hn : n ≤ 900) (hp : Sz n p) (n48 : b4 ≠ b8) (hF : Fr 278 [(1,.int .i64 a),(2,.int .i64 how),(3,.int .i64 bb),(4,.ptr b4 0),(8,.ptr b8 0),(11,.int .i64 kk),(12,.int .i64 near)] F) (h : ∀ q,Sz (n + 14) q → R (.agg q.d) H) : xcode Tryz.prog x6_s38 F ((b8,.cells [.int .i64 0,.int .i64 0,.int .i64 0,.own [],.own [],.str []]) :: (b4,.cells [.int .i64 p.o,.int .i64 p.s,.int .i64 p.day,.own (qO p.needs),.own (qM p.ops),.str p.sl]) :: H) (jN Tryz.prog [(.cell 8 26)] H.length R) := by
 obtain ⟨z,rfl⟩ : ∃ z : Nat → D,_ = z 0 :: .int .i64 a :: .int .i64 how :: .int .i64 bb :: .ptr b4 0 :: zz z 5 3 (.ptr b8 0 :: zz z 9 2 (.int .i64 kk :: .int .i64 near :: zz z 13 265 [])) := hF.lit
 try dsimp only [zz,qb] at *
 clear hF
 have hbig := qt
 simp +contextual only [x6,ql,qj,qg,qi,Int.reduceEq,n48,↓U6,↓XP,qm,XW1,qa,qb,qc,qd,qe,qf,reduceCtorEq]
 refine qP (by omega) ?_
 rw [hm]
 simp +contextual only [x6,ql,qj,qg,qi,Int.reduceEq,n48,↓U6,↓XP,qm,XW1,qa,qb,qc,qd,qe,qf,reduceCtorEq]
 exact fun _ _=>⟨kU,by omega,h { p with ops := [] } ⟨Nat.zero_le _,by have := hp.needs; simp only; omega,(by simp),(by simp),(by simp),hp.sl⟩⟩
theorem spA_17 {n : Nat} {p : Pt} {a how bb kk near : Int} {b4 b8 : Nat} {F : List D} {H : AH} {R : D → AH → Prop} (hm : around how 20 = 17) (hn : n ≤ 900) (hp : Sz n p) (n48 : b4 ≠ b8) (hF : Fr 278 [(1,.int .i64 a),(2,.int .i64 how),(3,.int .i64 bb),(4,.ptr b4 0),(8,.ptr b8 0),(11,.int .i64 kk),(12,.int .i64 near)] F) (h : ∀ q,Sz (n + 14) q → R (.agg q.d) H) : xcode Tryz.prog x6_s38 F ((b8,.cells [.int .i64 0,.int .i64 0,.int .i64 0,.own [],.own [],.str []]) :: (b4,.cells [.int .i64 p.o,.int .i64 p.s,.int .i64 p.day,.own (qO p.needs),.own (qM p.ops),.str p.sl]) :: H) (jN Tryz.prog [(.cell 8 26)] H.length R) := by
 obtain ⟨z,rfl⟩ : ∃ z : Nat → D,_ = z 0 :: .int .i64 a :: .int .i64 how :: .int .i64 bb :: .ptr b4 0 :: zz z 5 3 (.ptr b8 0 :: zz z 9 2 (.int .i64 kk :: .int .i64 near :: zz z 13 265 [])) := hF.lit
 try dsimp only [zz,qb] at *
 clear hF
 have hbig := qt
 simp +contextual only [x6,ql,qj,qg,qi,Int.reduceEq,n48,↓U6,↓XP,qm,XW1,qa,qb,qc,qd,qe,qf,reduceCtorEq]
 refine qP (by omega) ?_
 rw [hm]
 simp +contextual only [x6,ql,qj,qg,qi,Int.reduceEq,n48,↓U6,↓XP,qm,XW1,qa,qb,qc,qd,qe,qf,reduceCtorEq]
 refine fun _=>qP (by omega) ?_
 obtain ⟨r1,r2⟩ := jf (n := bb) (most := 4) (by omega)
 generalize around bb 4 = r at r1 r2 ⊢
 obtain ⟨v,hv,e⟩ := od (l := [0,1,1200,1201]) r1 r2
 have e' : [[D.int .i64 0],[D.int .i64 1],[D.int .i64 1200],[D.int .i64 1201]].getD r.toNat [] = [.int .i64 v] := e
 have hv' : 0 ≤ v ∧ v ≤ 1201 := by
  simp only [List.mem_cons,List.not_mem_nil,or_false] at hv
  omega
 simp +contextual only [x6,ql,qj,qg,qi,Int.reduceEq,n48,e',r1,show r < ((4 : Nat) : Int) from r2,↓U6,↓XP,qm,XW1,qa,qb,qc,qd,qe,qf,reduceCtorEq]
 exact fun _ _=>⟨hv'.1,WK (by omega),Vf,fun _=>h { p with sl := (List.replicate v.toNat [D.int .u8 0]).map unbyte } ⟨by have := hp.ops; simp only; omega,by have := hp.needs; simp only; omega,fun o ho=>by have := hp.ids o ho; omega,hp.name,hp.text,by simp only [List.length_map,List.length_replicate]; omega⟩⟩
end Go.Proofs.YtoeckfegggongaaGreatDoor
end
section
namespace Go.Proofs.YtoeckfegggongaaGreatDoor
open Go Go.Aw
theorem Vo {l : List OpP} : ∀ x ∈ qM l,∀ d ∈ x,plain d = true := by
 intro x hx d hd
 obtain ⟨o,_,rfl⟩ := List.mem_map.1 hx
 simp only [OpP.d,List.mem_cons,List.not_mem_nil,or_false] at hd
 rcases hd with rfl | rfl | rfl | rfl | rfl | rfl | rfl | rfl | rfl | rfl | rfl | rfl | rfl <;> rfl
theorem vU {F : List D} {H : AH} {b b4 b8 n : Nat} {o8 : AO} {c0 c1 c2 c3 c5 : D} {l : List OpP} {rest : List D} (h1 : b4 ≠ b) (h2 : b4 ≠ b8) (hl : l.length = n) :
  Fz F ((b,.cells ((qM l).flatten ++ rest)) :: (b8,o8) :: (b4,.cells [c0,c1,c2,c3,.hsl b n,c5]) :: H) F ((b8,o8) :: (b4,.cells [c0,c1,c2,c3,.slc (qM l),c5]) :: H) := by
 have h := Fz.freezeC (F := F) (H := (b,.cells ((qM l).flatten ++ rest)) :: (b8,o8) :: (b4,.cells [c0,c1,c2,c3,.hsl b n,c5]) :: H) (b' := b4) (j := 4) (b := b) (n := n) (sz := 13) (ds := [c0,c1,c2,c3,.hsl b n,c5]) (cs := (qM l).flatten ++ rest) (xs := qM l) (rest := rest) h1
  (by rw [qg h1,qg h2,jV]) rfl jV rfl (by rw [qj,hl]) kU (by omega) Vo
 rw [qi h1,qi h2,ou,ub] at h
 exact h
theorem wr1 {l : List OpP} {kk j : Nat} {v : D} {rest : List D} (hk : kk < l.length) {o' : OpP} (hj : j < 13) (e : (l.getD kk default).d.set j v = o'.d) :
  ((qM l).flatten ++ rest).set (kk * 13 + j) v = (qM (l.set kk o')).flatten ++ rest := by
 rw [Vy kU (by rw [qj]; exact hk) hj,kB hk,e,YI]
theorem wr2 {l : List OpP} {kk j m : Nat} {v : List D} {rest : List D} (hk : kk < l.length) {o' : OpP} (hj : j + m ≤ 13) (e : (l.getD kk default).d.take j ++ (v ++ (l.getD kk default).d.drop (j + m)) = o'.d) :
  ((qM l).flatten ++ rest).take (kk * 13 + j) ++ (v ++ ((qM l).flatten ++ rest).drop (kk * 13 + j + m)) = (qM (l.set kk o')).flatten ++ rest := by
 rw [fl_sets kU (by rw [qj]; exact hk) hj,kB hk,e,YI]
theorem wrC2 {l : List OpP} {kk j : Nat} {x y : D} {rest : List D} (hk : kk < l.length) {o' : OpP} (hj : j + 2 ≤ 13) (e : (l.getD kk default).d.take j ++ ([x,y] ++ (l.getD kk default).d.drop (j + 2)) = o'.d) :
  ((qM l).flatten ++ rest).take (kk * 13 + j) ++ x :: y :: ((qM l).flatten ++ rest).drop (kk * 13 + j + 2) = (qM (l.set kk o')).flatten ++ rest := wr2 hk hj e
theorem wrC3 {l : List OpP} {kk j : Nat} {x y z : D} {rest : List D} (hk : kk < l.length) {o' : OpP} (hj : j + 3 ≤ 13) (e : (l.getD kk default).d.take j ++ ([x,y,z] ++ (l.getD kk default).d.drop (j + 3)) = o'.d) :
  ((qM l).flatten ++ rest).take (kk * 13 + j) ++ x :: y :: z :: ((qM l).flatten ++ rest).drop (kk * 13 + j + 3) = (qM (l.set kk o')).flatten ++ rest := wr2 hk hj e
theorem wrC13 {l : List OpP} {kk : Nat} {rest : List D} (hk : kk < l.length) {o' : OpP} :
  ((qM l).flatten ++ rest).take (kk * 13) ++ (o'.d ++ ((qM l).flatten ++ rest).drop (kk * 13 + 13)) = (qM (l.set kk o')).flatten ++ rest :=
 wr2 (j := 0) (m := 13) hk (by omega) (by simp [OpP.d])
theorem Vx {F : List D} {H : AH} {k : List D → AH → Prop} (h : Gz F H fun F' H'=>Gz F' H' k) : Gz F H k := Gz.bind h fun _ _ h=>h
theorem rd1 {l : List OpP} {kk j : Nat} {rest : List D} (hk : kk < l.length) (hj : j < 13) : ((qM l).flatten ++ rest)[kk * 13 + j]? = (l.getD kk default).d[j]? := by
 rw [fl_get kU (by rw [qj]; exact hk) hj,kB hk]
theorem rd2 {l : List OpP} {kk j m : Nat} {rest : List D} (hk : kk < l.length) (hj : j + m ≤ 13) : (((qM l).flatten ++ rest).drop (kk * 13 + j)).take m = ((l.getD kk default).d.drop j).take m := by
 rw [fl_gets kU (by rw [qj]; exact hk) hj,kB hk]
theorem wD {l : List OpP} {rest : List D} {kk : Nat} (hk : kk < l.length) : kk * 13 + 13 ≤ ((qM l).flatten ++ rest).length := by
 rw [List.length_append,wG (sz := 13) kU,qj]
 have : (kk + 1) * 13 ≤ l.length * 13 := Nat.mul_le_mul_right _ hk
 omega
theorem Vp {n : Nat} {p : Pt} {a how bb : Int} {H : AH} {R : D → AH → Prop} (hn : n ≤ 900) (hp : Sz n p) (hne : 0 < p.ops.length)
  (h : ∀ (b b4 b8 m kk : Nat) (near : Int) (F : List D),b4 ≠ b8 → b4 ≠ b → b8 ≠ b → kk < p.ops.length → Fr 278 [(1,.int .i64 a),(2,.int .i64 how),(3,.int .i64 bb),(4,.ptr b4 0),(8,.ptr b8 0),(11,.int .i64 (kk : Int)),(12,.int .i64 near)] F → xcode Tryz.prog x6v_s38 F ((b,.cells ((qM p.ops).flatten ++ List.replicate m .any)) :: (b8,.cells [.int .i64 0,.int .i64 0,.int .i64 0,.own [],.own [],.str []]) :: (b4,.cells [.int .i64 p.o,.int .i64 p.s,.int .i64 p.day,.own (qO p.needs),.hsl b p.ops.length,.str p.sl]) :: H) (jN Tryz.prog [(.cell 8 26)] H.length R)) :
  ACall Tryz.prog 6 [.agg p.d,.int .i64 a,.int .i64 how,.int .i64 bb] H R := by
 refine b6v fun hf=>?_
 have hbig := qt
 have hd := @dE p
 have l1 := hp.ops
 have l2 := hp.needs
 have hx : qM p.ops ≠ [] := by
  intro e
  have := congrArg List.length e
  rw [qj] at this
  simp at this
  rw [this] at hne
  simp at hne
 simp +contextual only [wg,↓zM,↓zB,↓zI,↓zJ,ql,qj,qg,qi,hd,hx,↓XP,qm,XW1,qa,qb,qc,qd,qe,qf,reduceCtorEq]
 intro b4 h4 b8 hh h8
 obtain ⟨n48,h8'⟩ := hh
 have a1 := jf (n := a) (most := (p.ops.length : Int)) (by omega)
 have a2 := jf (n := bb) (most := 22) (by omega)
 obtain ⟨kk,hk⟩ := Int.eq_ofNat_of_zero_le a1.1
 refine ⟨uD,by omega,by omega,fun _=>⟨kU,by omega,fun b m hh=>?_⟩⟩
 obtain ⟨n8b,n4b,hb⟩ := hh
 refine ⟨by omega,qP (by omega) ?_⟩
 rw [hk]
 simp +contextual only [wg,↓zM,↓zB,↓zI,↓zJ,ql,qj,qg,qi,hd,n48,n8b,n4b,↓XP,qm,XW1,qa,qb,qc,qd,qe,qf,reduceCtorEq]
 refine fun _=>qP (by omega) ?_
 simp +contextual only [wg,↓zM,↓zB,↓zI,↓zJ,ql,qj,qg,qi,hd,n48,n8b,n4b,qw (show -9223372036854775808 ≤ around bb 22 - 2 by omega) (by omega),↓XP,qm,XW1,qa,qb,qc,qd,qe,qf,reduceCtorEq]
 intros
 refine h b b4 b8 m kk (around bb 22 - 2) _ n48 n4b n8b (by omega) ?_
 exact ⟨rfl,rfl,rfl,rfl,rfl,rfl,rfl,rfl,trivial⟩
end Go.Proofs.YtoeckfegggongaaGreatDoor
end
