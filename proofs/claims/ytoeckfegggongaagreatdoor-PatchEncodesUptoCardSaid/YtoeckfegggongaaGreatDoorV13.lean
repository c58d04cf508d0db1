/- A part of the proof of what the last text says: Xc, Rh1. Conditions: those in each theorem. -/
import Derived.Test.YtoeckfegggongaaGreatDoorV12
import Derived.Test.YtoeckfegggongaaGreatDoorRows
import Derived.KernelRfl
set_option linter.unusedVariables false
set_option linter.unusedSimpArgs false
set_option maxRecDepth 100000
set_option maxHeartbeats 16000000
open Nat renaming reduceSub → qa,reduceAdd → qb,reduceMul → qc,reduceEqDiff → qd,reduceLeDiff → qe,reduceBEq → qf
section
namespace Go.Proofs.YtoeckfegggongaaGreatDoor
open Go.Xs
open Go Go.Aw
theorem hm : Tryz.prog.follows .mixedOrders = true := by kernel_rfl
def Bt (f : FuncId) (n : Nat) (x : XC) (rs : List ResultVar) : Prop := ∀ {args : List D} {H : AH} {R : D → AH → Prop},(facts args → xcode Tryz.prog x (args ++ List.replicate (n - args.length) (.tup [])) H (jN Tryz.prog rs H.length R)) → ACall Tryz.prog f args H R
theorem bt {f : FuncId} {fn : Func} {c : Code} {x : XC} {n : Nat} {rs : List ResultVar} (hf : (Tryz.prog).funcs[f]? = some fn) (hb : fn.body = some c) (hk : (ga fn && gV Tryz.prog f && uP x c && decide (fn.ntmps = n)) = true) (hx : cmp c = er x) (hr : fn.results.toList = rs) : Bt f n x rs := by
 simp only [Bool.and_eq_true,decide_eq_true_eq] at hk
 exact fun h=>Yc hm hf hb hk.1.1.1 hk.1.1.2 hx hk.1.2 hk.2 hr h
theorem jb : QA Tryz.prog 41 = .none := by kernel_rfl
theorem qU : jJ Tryz.prog 41 = false := by kernel_rfl
theorem jd : yE Tryz.prog 41 = (.some (35,1)) := by kernel_rfl
theorem jc : yF Tryz.prog 35 = (.some [(.own [])]) := by kernel_rfl
theorem TYX : Ju Tryz.prog 22 22 = (some (3,(1,8))) ∧ Ju Tryz.prog 23 23 = (some (48,(2,16))) ∧ Ju Tryz.prog 24 24 = (some (55,(13,136))) ∧ Ju Tryz.prog 34 34 = (some (26,(6,88))) ∧ Ju Tryz.prog 35 9 = (some (5,(1,1))) ∧ Ju Tryz.prog 35 35 = (some (5,(1,1))) ∧ Ju Tryz.prog 51 51 = (some (50,(3,24))) ∧ Ju Tryz.prog 73 73 = (some (9,(1,16))) ∧ Ju Tryz.prog 92 92 = (some (125,(1,24))) ∧ QA Tryz.prog 22 = none ∧ QA Tryz.prog 23 = none ∧ QA Tryz.prog 24 = none ∧ QA Tryz.prog 34 = none ∧ QA Tryz.prog 35 = none ∧ QA Tryz.prog 41 = none ∧ QA Tryz.prog 51 = none ∧ QA Tryz.prog 73 = none ∧ QA Tryz.prog 92 = none ∧ QA Tryz.prog 98 = (some (2,1)) ∧ QA Tryz.prog 125 = none ∧ kI Tryz.prog 26 0 = (some (0,(false,1))) ∧ kI Tryz.prog 26 1 = (some (1,(false,1))) ∧ kI Tryz.prog 26 2 = (some (2,(false,1))) ∧ kI Tryz.prog 26 4 = (some (4,(false,1))) ∧ kI Tryz.prog 48 0 = (some (0,(false,1))) ∧ kI Tryz.prog 48 1 = (some (1,(false,1))) ∧ kI Tryz.prog 50 0 = (some (0,(false,1))) ∧ kI Tryz.prog 50 1 = (some (1,(false,1))) ∧ kI Tryz.prog 50 2 = (some (2,(false,1))) ∧ kI Tryz.prog 53 0 = (some (0,(false,1))) ∧ kI Tryz.prog 53 1 = (some (1,(false,1))) ∧ kI Tryz.prog 55 0 = (some (0,(false,1))) ∧ kI Tryz.prog 55 1 = (some (1,(true,3))) ∧ kI Tryz.prog 55 2 = (some (4,(true,3))) ∧ kI Tryz.prog 55 3 = (some (7,(false,1))) ∧ kI Tryz.prog 55 4 = (some (8,(false,1))) ∧ kI Tryz.prog 55 5 = (some (9,(false,1))) ∧ kI Tryz.prog 55 6 = (some (10,(false,1))) ∧ kI Tryz.prog 55 7 = (some (11,(true,2))) ∧ kI Tryz.prog 63 0 = (some (0,(true,16))) ∧ kI Tryz.prog 63 1 = (some (16,(false,1))) ∧ kI Tryz.prog 67 0 = (some (0,(false,1))) ∧ kI Tryz.prog 77 0 = (some (0,(false,1))) ∧ kI Tryz.prog 98 0 = (some (0,(false,1))) ∧ kI Tryz.prog 98 1 = (some (1,(false,1))) ∧ kI Tryz.prog 100 0 = (some (0,(false,1))) ∧ kI Tryz.prog 100 2 = (some (2,(false,1))) ∧ kI Tryz.prog 100 3 = (some (3,(false,1))) ∧ kI Tryz.prog 100 4 = (some (4,(false,1))) ∧ kI Tryz.prog 111 0 = (some (0,(false,1))) ∧ WH Tryz.prog 3 = none ∧ WH Tryz.prog 4 = none ∧ WH Tryz.prog 5 = none ∧ WH Tryz.prog 9 = none ∧ WH Tryz.prog 29 = none ∧ WH Tryz.prog 48 = (some [.i,.i]) ∧ WH Tryz.prog 50 = (some [.i,.i,.i]) ∧ WH Tryz.prog 53 = (some [.i,.i]) ∧ k8 Tryz.prog 26 0 = (some (0,(false,1))) ∧ k8 Tryz.prog 26 1 = (some (1,(false,1))) ∧ k8 Tryz.prog 26 2 = (some (2,(false,1))) ∧ k8 Tryz.prog 26 3 = (some (3,(false,1))) ∧ k8 Tryz.prog 26 4 = (some (4,(false,1))) ∧ k8 Tryz.prog 26 5 = (some (5,(false,1))) ∧ k8 Tryz.prog 48 0 = (some (0,(false,1))) ∧ k8 Tryz.prog 48 1 = (some (1,(false,1))) ∧ k8 Tryz.prog 50 0 = (some (0,(false,1))) ∧ k8 Tryz.prog 50 1 = (some (1,(false,1))) ∧ k8 Tryz.prog 50 2 = (some (2,(false,1))) ∧ k8 Tryz.prog 53 0 = (some (0,(false,1))) ∧ k8 Tryz.prog 53 1 = (some (1,(false,1))) ∧ k8 Tryz.prog 55 0 = (some (0,(false,1))) ∧ k8 Tryz.prog 55 1 = (some (1,(true,3))) ∧ k8 Tryz.prog 55 2 = (some (4,(true,3))) ∧ k8 Tryz.prog 55 3 = (some (7,(false,1))) ∧ k8 Tryz.prog 55 4 = (some (8,(false,1))) ∧ k8 Tryz.prog 55 5 = (some (9,(false,1))) ∧ k8 Tryz.prog 55 6 = (some (10,(false,1))) ∧ k8 Tryz.prog 55 7 = (some (11,(true,2))) ∧ k8 Tryz.prog 67 0 = (some (0,(false,1))) ∧ k8 Tryz.prog 67 1 = (some (1,(false,1))) ∧ k8 Tryz.prog 77 0 = (some (0,(false,1))) ∧ k8 Tryz.prog 77 1 = (some (1,(false,1))) ∧ k8 Tryz.prog 94 0 = (some (0,(false,1))) ∧ k8 Tryz.prog 94 1 = (some (1,(false,1))) ∧ k8 Tryz.prog 100 0 = (some (0,(false,1))) ∧ k8 Tryz.prog 100 1 = (some (1,(false,1))) ∧ k8 Tryz.prog 100 2 = (some (2,(false,1))) ∧ k8 Tryz.prog 100 3 = (some (3,(false,1))) ∧ k8 Tryz.prog 100 4 = (some (4,(false,1))) ∧ k8 Tryz.prog 100 5 = (some (5,(false,1))) ∧ k8 Tryz.prog 100 6 = (some (6,(false,1))) ∧ k8 Tryz.prog 100 7 = (some (7,(true,2))) ∧ k8 Tryz.prog 111 0 = (some (0,(false,1))) ∧ ko Tryz.prog 26 = true ∧ ko Tryz.prog 48 = true ∧ ko Tryz.prog 50 = true ∧ ko Tryz.prog 53 = true ∧ ko Tryz.prog 55 = true ∧ ko Tryz.prog 61 = true ∧ ko Tryz.prog 63 = true ∧ ko Tryz.prog 67 = true ∧ ko Tryz.prog 77 = true ∧ ko Tryz.prog 94 = true ∧ ko Tryz.prog 98 = true ∧ ko Tryz.prog 100 = true ∧ ko Tryz.prog 111 = true ∧ Qh Tryz.prog 3 = (some .i64) ∧ Qh Tryz.prog 5 = (some .u8) ∧ Qh Tryz.prog 9 = none ∧ Qh Tryz.prog 35 = none ∧ Qh Tryz.prog 117 = (some .u64) ∧ yi Tryz.prog 3 = false ∧ yi Tryz.prog 4 = true ∧ yi Tryz.prog 5 = false ∧ yi Tryz.prog 9 = false ∧ yi Tryz.prog 29 = false ∧ yi Tryz.prog 48 = false ∧ yi Tryz.prog 50 = false ∧ yi Tryz.prog 53 = false ∧ kY Tryz.prog 3 = false ∧ kY Tryz.prog 5 = false ∧ kY Tryz.prog 9 = false ∧ kY Tryz.prog 35 = true ∧ kY Tryz.prog 117 = false ∧ jJ Tryz.prog 3 = false ∧ jJ Tryz.prog 5 = false ∧ jJ Tryz.prog 9 = true ∧ jJ Tryz.prog 22 = false ∧ jJ Tryz.prog 23 = false ∧ jJ Tryz.prog 24 = false ∧ jJ Tryz.prog 34 = false ∧ jJ Tryz.prog 35 = false ∧ jJ Tryz.prog 41 = false ∧ jJ Tryz.prog 51 = false ∧ jJ Tryz.prog 73 = false ∧ jJ Tryz.prog 117 = false ∧ ud Tryz.prog 3 = true ∧ ud Tryz.prog 5 = true ∧ ud Tryz.prog 9 = true ∧ ud Tryz.prog 35 = true ∧ ud Tryz.prog 117 = true ∧ yE Tryz.prog 9 = none ∧ yE Tryz.prog 22 = (some (3,1)) ∧ yE Tryz.prog 23 = (some (48,2)) ∧ yE Tryz.prog 24 = (some (55,13)) ∧ yE Tryz.prog 34 = (some (26,6)) ∧ yE Tryz.prog 35 = (some (5,1)) ∧ yE Tryz.prog 41 = (some (35,1)) ∧ yE Tryz.prog 51 = (some (50,3)) ∧ yE Tryz.prog 73 = (some (9,1)) ∧ yE Tryz.prog 92 = (some (125,1)) ∧ yE Tryz.prog 98 = none ∧ yE Tryz.prog 125 = (some (4,1)) ∧ wi Tryz.prog 3 = (some (false,1)) ∧ wi Tryz.prog 4 = (some (false,1)) ∧ wi Tryz.prog 5 = (some (false,1)) ∧ wi Tryz.prog 9 = (some (false,1)) ∧ wi Tryz.prog 22 = (some (false,1)) ∧ wi Tryz.prog 23 = (some (false,1)) ∧ wi Tryz.prog 24 = (some (false,1)) ∧ wi Tryz.prog 26 = (some (true,6)) ∧ wi Tryz.prog 34 = (some (false,1)) ∧ wi Tryz.prog 35 = (some (false,1)) ∧ wi Tryz.prog 48 = (some (true,2)) ∧ wi Tryz.prog 50 = (some (true,3)) ∧ wi Tryz.prog 51 = (some (false,1)) ∧ wi Tryz.prog 53 = (some (true,2)) ∧ wi Tryz.prog 55 = (some (true,13)) ∧ wi Tryz.prog 61 = (some (true,16)) ∧ wi Tryz.prog 63 = (some (true,17)) ∧ wi Tryz.prog 92 = (some (false,1)) ∧ wi Tryz.prog 94 = (some (true,2)) ∧ wi Tryz.prog 98 = (some (true,2)) ∧ wi Tryz.prog 100 = (some (true,9)) ∧ wi Tryz.prog 111 = (some (true,1)) ∧ wi Tryz.prog 125 = (some (false,1)) ∧ yF Tryz.prog 26 = (some [(.int .i64 0),(.int .i64 0),(.int .i64 0),(.own []),(.own []),(.str [])]) ∧ yF Tryz.prog 48 = (some [(.int .i64 0),(.int .i64 0)]) ∧ yF Tryz.prog 50 = (some [(.int .i64 0),(.int .i64 0),(.int .i64 0)]) ∧ yF Tryz.prog 53 = (some [(.int .i64 0),(.int .i64 0)]) ∧ yF Tryz.prog 55 = (some [(.int .i64 0),(.int .i64 0),(.int .i64 0),(.int .i64 0),(.int .i64 0),(.int .i64 0),(.int .i64 0),(.own []),(.int .i64 0),(.str []),(.str []),(.int .i64 0),(.int .i64 0)]) ∧ yF Tryz.prog 61 = (some [(.int .u8 0),(.int .u8 0),(.int .u8 0),(.int .u8 0),(.int .u8 0),(.int .u8 0),(.int .u8 0),(.int .u8 0),(.int .u8 0),(.int .u8 0),(.int .u8 0),(.int .u8 0),(.int .u8 0),(.int .u8 0),(.int .u8 0),(.int .u8 0)]) ∧ yF Tryz.prog 63 = (some [(.int .u8 0),(.int .u8 0),(.int .u8 0),(.int .u8 0),(.int .u8 0),(.int .u8 0),(.int .u8 0),(.int .u8 0),(.int .u8 0),(.int .u8 0),(.int .u8 0),(.int .u8 0),(.int .u8 0),(.int .u8 0),(.int .u8 0),(.int .u8 0),(.int .i64 0)]) ∧ yF Tryz.prog 67 = (some [(.str []),(.int .i64 0)]) ∧ yF Tryz.prog 77 = (some [(.own []),(.bool false)]) ∧ yF Tryz.prog 94 = (some [(.own []),(.own [])]) ∧ yF Tryz.prog 98 = (some [(.int .i64 0),(.int .i64 0)]) ∧ yF Tryz.prog 100 = (some [(.bool false),(.bool false),(.bool false),(.bool false),(.bool false),(.int .i64 0),(.int .i64 0),(.int .i64 0),(.int .i64 0)]) ∧ yF Tryz.prog 111 = (some [(.own [])]) ∧ yF Tryz.prog 3 = (some [(.int .i64 0)]) ∧ yF Tryz.prog 4 = (some [(.bool false)]) ∧ yF Tryz.prog 5 = (some [(.int .u8 0)]) ∧ yF Tryz.prog 9 = (some [(.str [])]) ∧ yF Tryz.prog 35 = (some [(.own [])]) ∧ yF Tryz.prog 125 = (some [(.own [])]) := ⟨by kernel_rfl,by kernel_rfl,by kernel_rfl,by kernel_rfl,by kernel_rfl,by kernel_rfl,by kernel_rfl,by kernel_rfl,by kernel_rfl,by kernel_rfl,by kernel_rfl,by kernel_rfl,by kernel_rfl,by kernel_rfl,jb,by kernel_rfl,by kernel_rfl,by kernel_rfl,by kernel_rfl,by kernel_rfl,by kernel_rfl,by kernel_rfl,by kernel_rfl,by kernel_rfl,by kernel_rfl,by kernel_rfl,by kernel_rfl,by kernel_rfl,by kernel_rfl,by kernel_rfl,by kernel_rfl,by kernel_rfl,by kernel_rfl,by kernel_rfl,by kernel_rfl,by kernel_rfl,by kernel_rfl,by kernel_rfl,by kernel_rfl,by kernel_rfl,by kernel_rfl,by kernel_rfl,by kernel_rfl,by kernel_rfl,by kernel_rfl,by kernel_rfl,by kernel_rfl,by kernel_rfl,by kernel_rfl,by kernel_rfl,by kernel_rfl,by kernel_rfl,by kernel_rfl,by kernel_rfl,by kernel_rfl,by kernel_rfl,by kernel_rfl,by kernel_rfl,by kernel_rfl,by kernel_rfl,by kernel_rfl,by kernel_rfl,by kernel_rfl,by kernel_rfl,by kernel_rfl,by kernel_rfl,by kernel_rfl,by kernel_rfl,by kernel_rfl,by kernel_rfl,by kernel_rfl,by kernel_rfl,by kernel_rfl,by kernel_rfl,by kernel_rfl,by kernel_rfl,by kernel_rfl,by kernel_rfl,by kernel_rfl,by kernel_rfl,by kernel_rfl,by kernel_rfl,by kernel_rfl,by kernel_rfl,by kernel_rfl,by kernel_rfl,by kernel_rfl,by kernel_rfl,by kernel_rfl,by kernel_rfl,by kernel_rfl,by kernel_rfl,by kernel_rfl,by kernel_rfl,by kernel_rfl,by kernel_rfl,by kernel_rfl,by kernel_rfl,by kernel_rfl,by kernel_rfl,by kernel_rfl,by kernel_rfl,by kernel_rfl,by kernel_rfl,by kernel_rfl,by kernel_rfl,by kernel_rfl,by kernel_rfl,by kernel_rfl,by kernel_rfl,by kernel_rfl,by kernel_rfl,by kernel_rfl,by kernel_rfl,by kernel_rfl,by kernel_rfl,by kernel_rfl,by kernel_rfl,by kernel_rfl,by kernel_rfl,by kernel_rfl,by kernel_rfl,by kernel_rfl,by kernel_rfl,by kernel_rfl,by kernel_rfl,by kernel_rfl,by kernel_rfl,by kernel_rfl,by kernel_rfl,by kernel_rfl,by kernel_rfl,by kernel_rfl,qU,by kernel_rfl,by kernel_rfl,by kernel_rfl,by kernel_rfl,by kernel_rfl,by kernel_rfl,by kernel_rfl,by kernel_rfl,by kernel_rfl,by kernel_rfl,by kernel_rfl,by kernel_rfl,by kernel_rfl,by kernel_rfl,jd,by kernel_rfl,by kernel_rfl,by kernel_rfl,by kernel_rfl,by kernel_rfl,by kernel_rfl,by kernel_rfl,by kernel_rfl,by kernel_rfl,by kernel_rfl,by kernel_rfl,by kernel_rfl,by kernel_rfl,by kernel_rfl,by kernel_rfl,by kernel_rfl,by kernel_rfl,by kernel_rfl,by kernel_rfl,by kernel_rfl,by kernel_rfl,by kernel_rfl,by kernel_rfl,by kernel_rfl,by kernel_rfl,by kernel_rfl,by kernel_rfl,by kernel_rfl,by kernel_rfl,by kernel_rfl,by kernel_rfl,by kernel_rfl,by kernel_rfl,by kernel_rfl,by kernel_rfl,by kernel_rfl,by kernel_rfl,by kernel_rfl,by kernel_rfl,by kernel_rfl,by kernel_rfl,by kernel_rfl,by kernel_rfl,by kernel_rfl,by kernel_rfl,jc,by kernel_rfl⟩
theorem qm : type_of% (And.intro @XW0 @TYX) := And.intro @XW0 @TYX
theorem unf {c d : XC} (h : c = d) {F : List D} {H : AH} {Q : AQ} : xcode Tryz.prog c F H Q = xcode Tryz.prog d F H Q := h ▸ .trans rfl rfl
theorem aI {a b : Prop} (h : a) (k : b) : a ∧ b := ⟨h,k⟩
def x15_s0 : XC := (.cond (t 6) (.reg [m 0 7,a (.binOp .add 3 (t 7) (i 1) 3) 8,b (.unOp .neg 3 (t 8)) 9,n 9 0]) .skip)
def x15_s1 : XC := (.seq (.reg [m 0 10,m 1 11,b (.binOp .rem 3 (t 10) (t 11) 3) 12,n 12 4]) .ret)
def V15 := PLift.up (aI (@unf _ _ x15_s0.eq_1) (@unf _ _ x15_s1.eq_1))
theorem U15 : type_of% V15.down := V15.down
def x15 : XC := (.seq (.reg [a (.assign (i 0)) 4]) (.seq (.seq (.reg [m 0 5,a (.binOp .lss 3 (t 5) (i 0) 3) 6]) x15_s0) x15_s1))
theorem b15 : Bt 15 13 x15 [(.tmp 4)] := bt Tryz.func15 rfl (by kernel_rfl) (by kernel_rfl) (by kernel_rfl)
def x42_s0 : XC := (.seq (.reg [m 0 15,m 1 16,j 22 15 16 17,l 3 17 18,m 2 19,b (k 15 #[(t 18),(t 19)] #[3,3]) 20,n 20 6]) .ret)
def x42_s1 : XC := (.seq (.seq (.reg [m 1 7,a (.binOp .lss 3 (t 7) (i 0) 3) 8,m 8 9,g (.move (t 1)) 10 9 false,g (.move (t 0)) 11 9 false,g (.call ⟨(.builtin .len),#[(t 11)],#[22]⟩) 12 9 false,g (.binOp .geq 3 (t 10) (t 12) 3) 13 9 false,a (.pick (t 9) (.const (.bool true)) (t 13)) 14]) (.cond (t 14) (.seq (.reg [a (.assign (i 0)) 6]) .ret) .skip)) x42_s0)
def V42 := PLift.up (aI (@unf _ _ x42_s0.eq_1) (@unf _ _ x42_s1.eq_1))
theorem U42 : type_of% V42.down := V42.down
def x42 : XC := (.seq (.reg [a (.assign (i 0)) 6]) x42_s1)
theorem b42 : Bt 42 21 x42 [(.tmp 6)] := bt Tryz.func42 rfl (by kernel_rfl) (by kernel_rfl) (by kernel_rfl)
def x44_s0 : XC := (.seq (.reg [m 0 5,m 1 6,m 0 7,e 22 7 8,a (.call ⟨(.builtin .min),#[(t 6),(t 8)],#[3,3]⟩) 9,b (.slice 22 (t 5) (.some (t 9)) .none .none) 10,n 10 4]) .ret)
theorem u44_s0 : type_of% (@unf _ _ x44_s0.eq_1) := unf x44_s0.eq_1
def x44 : XC := (.seq (.reg [a (.assign (.const (.slice .none 0 0))) 4]) x44_s0)
theorem b44 : Bt 44 11 x44 [(.tmp 4)] := bt Tryz.func44 rfl (by kernel_rfl) (by kernel_rfl) (by kernel_rfl)
def x97_s0 : XC := (.reg [m 6 25,b (.binOp .add 3 (t 25) (i 1) 3) 26,n 26 6])
def x97_s1 : XC := (.seq (.block 1 (.regD [m 4 27,a (.buildSlice 73 3 #[(0,(.const (.string ⟨#[32]⟩))),(1,(.const (.string ⟨#[44,32]⟩))),(2,(.const (.string ⟨#[32]⟩)))]) 28,m 0 29,m 6 30,a (.binOp .add 3 (i 2) (t 30) 3) 31,a (k 42 #[(t 29),(t 31),(i 3)] #[22,3,3]) 32,j 73 28 32 33,l 9 33 34,a (.binOp .add 9 (t 27) (t 34) 9) 35,m 3 36,m 0 37,m 6 38,a (.binOp .add 3 (i 4) (t 38) 3) 39,m 6 40,a (.binOp .add 3 (i 6) (t 40) 3) 41,a (k 42 #[(t 37),(t 39),(t 41)] #[22,3,3]) 42,j 73 36 42 43,l 9 43 44,b (.binOp .add 9 (t 35) (t 44) 9) 45,n 45 4])) x97_s0)
def x97_L2 : XC := (.seq (.seq (.reg [m 6 22,m 5 23,a (.binOp .lss 3 (t 22) (t 23) 3) 24]) (.cond (t 24) .skip (.exit 0))) x97_s1)
def x97_s3 : XC := (.seq (.seq (.reg [m 0 46,a (k 42 #[(t 46),(i 6),(i 19)] #[22,3,3]) 47,a (.binOp .eql 3 (t 47) (i 18) 3) 48]) (.cond (t 48) (.seq (.reg [a (.assign (.const (.string ⟨#[]⟩))) 2]) .ret) .skip)) (.seq (.reg [b (.move (t 4)) 49,n 49 2]) .ret))
def x97_s4 : XC := (.seq (.reg [m 0 20,b (k 42 #[(t 20),(i 1),(i 3)] #[22,3,3]) 21,n 21 5]) (.seq (.seq (.reg [a (.assign (i 0)) 6]) (.block 0 (.loop x97_L2))) x97_s3))
def x97_s5 : XC := (.seq (.reg [m 3 13,m 0 14,m 3 15,e 73 15 16,a (k 42 #[(t 14),(i 0),(t 16)] #[22,3,3]) 17,j 73 13 17 18,b (.load 9 (t 18)) 19,n 19 4]) x97_s4)
def x97_s6 : XC := (.seq (.reg [c (.move (t 3)) 10,a (.buildSlice 73 4 #[(0,(.const (.string ⟨#[99,97,116,115]⟩))),(1,(.const (.string ⟨#[97,110,116,115]⟩))),(2,(.const (.string ⟨#[98,101,116,115,116]⟩))),(3,(.const (.string ⟨#[120,121,122]⟩)))]) 11,b (.call ⟨(.builtin .append),#[(t 10),(t 11)],#[73,73]⟩) 12,n 12 3]) x97_s5)
def x97_s7 : XC := (.seq (.reg [c (k 103 #[] #[]) 7,a (k 84 #[] #[]) 8,b (.call ⟨(.builtin .append),#[(t 7),(t 8)],#[73,73]⟩) 9,n 9 3]) x97_s6)
def V97 := PLift.up (aI (aI (aI (@unf _ _ x97_s0.eq_1) (@unf _ _ x97_s1.eq_1)) (aI (@unf _ _ x97_L2.eq_1) (@unf _ _ x97_s3.eq_1))) (aI (aI (@unf _ _ x97_s4.eq_1) (@unf _ _ x97_s5.eq_1)) (aI (@unf _ _ x97_s6.eq_1) (@unf _ _ x97_s7.eq_1))))
theorem WS : type_of% V97.down := V97.down
def x97 : XC := (.seq (.reg [a (.assign (.const (.string ⟨#[]⟩))) 2]) x97_s7)
theorem b97 : Bt 97 50 x97 [(.tmp 2)] := bt Tryz.func97 rfl (by kernel_rfl) (by kernel_rfl) (by kernel_rfl)
def x103_s0 : XC := (.seq (.reg [b (.buildSlice 73 4 #[(0,(.const (.string ⟨#[97]⟩))),(1,(.const (.string ⟨#[97,110]⟩))),(2,(.const (.string ⟨#[98,101]⟩))),(3,(.const (.string ⟨#[99]⟩)))]) 1,n 1 0]) .ret)
theorem u103_s0 : type_of% (@unf _ _ x103_s0.eq_1) := unf x103_s0.eq_1
def x103 : XC := (.seq (.reg [a (.assign (.const (.slice .none 0 0))) 0]) x103_s0)
theorem b103 : Bt 103 2 x103 [(.tmp 0)] := bt Tryz.func103 rfl (by kernel_rfl) (by kernel_rfl) (by kernel_rfl)
def x84_s0 : XC := (.seq (.reg [b (.buildSlice 73 8 #[(0,(.const (.string ⟨#[99,97,116]⟩))),(1,(.const (.string ⟨#[97,110,116]⟩))),(2,(.const (.string ⟨#[98,101,116]⟩))),(3,(.const (.string ⟨#[110,101,115,116]⟩))),(4,(.const (.string ⟨#[116,101,110]⟩))),(5,(.const (.string ⟨#[116,101,101]⟩))),(6,(.const (.string ⟨#[99,104,101]⟩))),(7,(.const (.string ⟨#[115,101,116]⟩)))]) 1,n 1 0]) .ret)
theorem u84_s0 : type_of% (@unf _ _ x84_s0.eq_1) := unf x84_s0.eq_1
def x84 : XC := (.seq (.reg [a (.assign (.const (.slice .none 0 0))) 0]) x84_s0)
theorem b84 : Bt 84 2 x84 [(.tmp 0)] := bt Tryz.func84 rfl (by kernel_rfl) (by kernel_rfl) (by kernel_rfl)
def x83_s0 : XC := (.seq (.reg [c (.move (t 5)) 10,l 55 3 11,a (.buildSlice 24 1 #[(0,(t 11))]) 12,b (.call ⟨(.builtin .append),#[(t 10),(t 12)],#[24,24]⟩) 13,f 26 2 4 14,w 24 14 13]) (.seq (.reg [b (.load 26 (t 2)) 15,w 26 4 15]) .ret))
def x83_s1 : XC := (.seq (.reg [c (.move (t 5)) 6,f 26 2 4 7,l 24 7 8,b (.call ⟨(.builtin .append),#[(t 6),(t 8)],#[24,24]⟩) 9,n 9 5]) x83_s0)
def V83 := PLift.up (aI (@unf _ _ x83_s0.eq_1) (@unf _ _ x83_s1.eq_1))
theorem U83 : type_of% V83.down := V83.down
def x83 : XC := (.seq (.reg [a (.box 26 (t 0)) 2,a (.box 55 (t 1)) 3,a (.alloc 26) 4]) (.seq (.reg [a (.assign (.const (.slice .none 0 0))) 5]) x83_s1))
theorem b83 : Bt 83 16 x83 [(.cell 4 26)] := bt Tryz.func83 rfl (by kernel_rfl) (by kernel_rfl) (by kernel_rfl)
def x85_c0 : XC := (.reg [l 26 3 32,l 50 7 33,a (.build 55 #[(0,(i 9)),(1,(t 33)),(4,(i 1))]) 34,b (k 83 #[(t 32),(t 34)] #[26,55]) 35,w 26 3 35])
def x85_s1 : XC := (.seq (.seq (.reg [m 2 29,a (k 42 #[(t 29),(i 1),(i 9)] #[22,3,3]) 30,a (.binOp .neq 3 (t 30) (i 5) 3) 31]) (.cond (t 31) x85_c0 .skip)) (.seq (.reg [b (.load 26 (t 3)) 36,w 26 6 36]) .ret))
def x85_s2 : XC := (.seq (.regD [l 26 3 22,l 50 7 23,m 2 24,a (k 44 #[(t 24),(i 3)] #[22,3]) 25,a (k 97 #[(t 25)] #[22]) 26,a (.build 55 #[(0,(i 7)),(1,(t 23)),(6,(t 26))]) 27,b (k 83 #[(t 22),(t 27)] #[26,55]) 28,w 26 3 28]) x85_s1)
def x85_s3 : XC := (.seq (.regD [l 26 3 16,l 50 4 17,m 2 18,a (k 42 #[(t 18),(i 2),(i 5)] #[22,3,3]) 19,a (.build 55 #[(0,(i 2)),(1,(t 17)),(4,(t 19))]) 20,b (k 83 #[(t 16),(t 20)] #[26,55]) 21,w 26 3 21]) x85_s2)
def x85_s4 : XC := (.seq (.reg [f 26 3 0 8,l 3 8 9,f 26 3 1 10,l 3 10 11,f 26 3 4 12,l 24 12 13,e 24 13 14,b (.build 50 #[(0,(t 9)),(1,(t 11)),(2,(t 14))]) 15,a (.alloc 50) 7,w 50 7 15]) x85_s3)
def V85 := PLift.up (aI (aI (@unf _ _ x85_c0.eq_1) (@unf _ _ x85_s1.eq_1)) (aI (@unf _ _ x85_s2.eq_1) (aI (@unf _ _ x85_s3.eq_1) (@unf _ _ x85_s4.eq_1))))
theorem U85 : type_of% V85.down := V85.down
def x85 : XC := (.seq (.reg [a (.box 26 (t 0)) 3,a (.box 50 (t 1)) 4,a (.alloc 26) 6]) x85_s4)
theorem b85 : Bt 85 37 x85 [(.cell 6 26)] := bt Tryz.func85 rfl (by kernel_rfl) (by kernel_rfl) (by kernel_rfl)
def x82_c0 : XC := (.regD [c (.move (t 9)) 49,f 94 4 0 50,l 34 50 51,m 10 52,j 34 51 52 53,f 26 53 0 54,l 3 54 55,f 94 4 0 56,l 34 56 57,m 10 58,j 34 57 58 59,f 26 59 1 60,l 3 60 61,m 11 62,a (.build 50 #[(0,(t 55)),(1,(t 61)),(2,(t 62))]) 63,a (.buildSlice 51 1 #[(0,(t 63))]) 64,b (.call ⟨(.builtin .append),#[(t 49),(t 64)],#[51,51]⟩) 65,n 65 9])
def x82_s1 : XC := (.reg [m 11 29,b (.binOp .add 3 (t 29) (i 1) 3) 30,n 30 11])
def x82_s2 : XC := (.seq (.block 3 (.seq (.reg [m 1 31,m 10 32,j 125 31 32 33,l 4 33 34,m 34 35,g (.fieldAddr 94 (t 4) 0) 36 35 true,g (.load 34 (t 36)) 37 35 true,g (.move (t 10)) 38 35 true,g (.indexAddr 34 (t 37) (t 38)) 39 35 true,g (.fieldAddr 26 (t 39) 4) 40 35 true,g (.load 24 (t 40)) 41 35 true,g (.move (t 11)) 42 35 true,g (.indexAddr 24 (t 41) (t 42)) 43 35 true,g (.fieldAddr 55 (t 43) 0) 44 35 true,g (.load 3 (t 44)) 45 35 true,g (.move (t 3)) 46 35 true,g (.binOp .eql 3 (t 45) (t 46) 3) 47 35 true,a (.pick (t 35) (t 47) (.const (.bool false))) 48]) (.cond (t 48) x82_c0 .skip))) x82_s1)
def x82_L3 : XC := (.seq (.seq (.reg [m 11 20,f 94 4 0 21,l 34 21 22,m 10 23,j 34 22 23 24,f 26 24 4 25,l 24 25 26,e 24 26 27,a (.binOp .lss 3 (t 20) (t 27) 3) 28]) (.cond (t 28) .skip (.exit 2))) x82_s2)
def x82_s4 : XC := (.reg [m 10 18,b (.binOp .add 3 (t 18) (i 1) 3) 19,n 19 10])
def x82_L5 : XC := (.seq (.seq (.reg [m 10 13,f 94 4 0 14,l 34 14 15,e 34 15 16,a (.binOp .lss 3 (t 13) (t 16) 3) 17]) (.cond (t 17) .skip (.exit 0))) (.seq (.block 1 (.seq (.reg [a (.assign (i 0)) 11]) (.block 2 (.loop x82_L3)))) x82_s4))
def x82_c6 : XC := (.reg [c (.move (t 9)) 81,f 26 6 0 82,l 3 82 83,f 26 6 1 84,l 3 84 85,m 12 86,a (.build 50 #[(0,(t 83)),(1,(t 85)),(2,(t 86))]) 87,a (.buildSlice 51 1 #[(0,(t 87))]) 88,b (.call ⟨(.builtin .append),#[(t 81),(t 88)],#[51,51]⟩) 89,n 89 9])
def x82_s7 : XC := (.reg [m 12 71,b (.binOp .add 3 (t 71) (i 1) 3) 72,n 72 12])
def x82_s8 : XC := (.seq (.block 5 (.seq (.reg [f 26 6 4 73,l 24 73 74,m 12 75,j 24 74 75 76,f 55 76 0 77,l 3 77 78,m 3 79,a (.binOp .eql 3 (t 78) (t 79) 3) 80]) (.cond (t 80) x82_c6 .skip))) x82_s7)
def x82_L9 : XC := (.seq (.seq (.reg [m 12 66,f 26 6 4 67,l 24 67 68,e 24 68 69,a (.binOp .lss 3 (t 66) (t 69) 3) 70]) (.cond (t 70) .skip (.exit 4))) x82_s8)
def x82_s10 : XC := (.seq (.seq (.reg [a (.assign (i 0)) 12]) (.block 4 (.loop x82_L9))) (.seq (.reg [b (.move (t 9)) 90,n 90 8]) .ret))
def x82_s11 : XC := (.seq (.reg [a (.assign (.const (.slice .none 0 0))) 9]) (.seq (.seq (.reg [a (.assign (i 0)) 10]) (.block 0 (.loop x82_L5))) x82_s10))
def V82 := PLift.up (aI (aI (aI (@unf _ _ x82_c0.eq_1) (aI (@unf _ _ x82_s1.eq_1) (@unf _ _ x82_s2.eq_1))) (aI (@unf _ _ x82_L3.eq_1) (aI (@unf _ _ x82_s4.eq_1) (@unf _ _ x82_L5.eq_1)))) (aI (aI (@unf _ _ x82_c6.eq_1) (aI (@unf _ _ x82_s7.eq_1) (@unf _ _ x82_s8.eq_1))) (aI (@unf _ _ x82_L9.eq_1) (aI (@unf _ _ x82_s10.eq_1) (@unf _ _ x82_s11.eq_1)))))
theorem Uu : type_of% V82.down := V82.down
def x82 : XC := (.seq (.reg [a (.box 94 (t 0)) 4,a (.box 26 (t 2)) 6,a (.assign (.const (.slice .none 0 0))) 8]) x82_s11)
theorem b82 : Bt 82 91 x82 [(.tmp 8)] := bt Tryz.func82 rfl (by kernel_rfl) (by kernel_rfl) (by kernel_rfl)
def x88_c0 : XC := (.reg [c (.move (t 7)) 46,f 94 3 0 47,l 34 47 48,m 8 49,j 34 48 49 50,f 26 50 4 51,l 24 51 52,m 9 53,j 24 52 53 54,l 55 54 55,a (.buildSlice 24 1 #[(0,(t 55))]) 56,b (.call ⟨(.builtin .append),#[(t 46),(t 56)],#[24,24]⟩) 57,n 57 7])
def x88_s1 : XC := (.reg [m 9 27,b (.binOp .add 3 (t 27) (i 1) 3) 28,n 28 9])
def x88_s2 : XC := (.seq (.block 3 (.seq (.reg [m 1 29,m 8 30,j 125 29 30 31,l 4 31 32,m 32 33,g (.fieldAddr 94 (t 3) 0) 34 33 true,g (.load 34 (t 34)) 35 33 true,g (.move (t 8)) 36 33 true,g (.indexAddr 34 (t 35) (t 36)) 37 33 true,g (.fieldAddr 26 (t 37) 4) 38 33 true,g (.load 24 (t 38)) 39 33 true,g (.move (t 9)) 40 33 true,g (.indexAddr 24 (t 39) (t 40)) 41 33 true,g (.fieldAddr 55 (t 41) 0) 42 33 true,g (.load 3 (t 42)) 43 33 true,g (.binOp .eql 3 (t 43) (i 16) 3) 44 33 true,a (.pick (t 33) (t 44) (.const (.bool false))) 45]) (.cond (t 45) x88_c0 .skip))) x88_s1)
def x88_L3 : XC := (.seq (.seq (.reg [m 9 18,f 94 3 0 19,l 34 19 20,m 8 21,j 34 20 21 22,f 26 22 4 23,l 24 23 24,e 24 24 25,a (.binOp .lss 3 (t 18) (t 25) 3) 26]) (.cond (t 26) .skip (.exit 2))) x88_s2)
def x88_s4 : XC := (.reg [m 8 16,b (.binOp .add 3 (t 16) (i 1) 3) 17,n 17 8])
def x88_L5 : XC := (.seq (.seq (.reg [m 8 11,f 94 3 0 12,l 34 12 13,e 34 13 14,a (.binOp .lss 3 (t 11) (t 14) 3) 15]) (.cond (t 15) .skip (.exit 0))) (.seq (.block 1 (.seq (.reg [a (.assign (i 0)) 9]) (.block 2 (.loop x88_L3)))) x88_s4))
def x88_c6 : XC := (.reg [c (.move (t 7)) 72,f 26 5 4 73,l 24 73 74,m 10 75,j 24 74 75 76,l 55 76 77,a (.buildSlice 24 1 #[(0,(t 77))]) 78,b (.call ⟨(.builtin .append),#[(t 72),(t 78)],#[24,24]⟩) 79,n 79 7])
def x88_s7 : XC := (.reg [m 10 63,b (.binOp .add 3 (t 63) (i 1) 3) 64,n 64 10])
def x88_s8 : XC := (.seq (.block 5 (.seq (.reg [f 26 5 4 65,l 24 65 66,m 10 67,j 24 66 67 68,f 55 68 0 69,l 3 69 70,a (.binOp .eql 3 (t 70) (i 16) 3) 71]) (.cond (t 71) x88_c6 .skip))) x88_s7)
def x88_L9 : XC := (.seq (.seq (.reg [m 10 58,f 26 5 4 59,l 24 59 60,e 24 60 61,a (.binOp .lss 3 (t 58) (t 61) 3) 62]) (.cond (t 62) .skip (.exit 4))) x88_s8)
def x88_s10 : XC := (.seq (.seq (.reg [a (.assign (i 0)) 10]) (.block 4 (.loop x88_L9))) (.seq (.reg [b (.move (t 7)) 80,n 80 6]) .ret))
def x88_s11 : XC := (.seq (.reg [a (.assign (.const (.slice .none 0 0))) 7]) (.seq (.seq (.reg [a (.assign (i 0)) 8]) (.block 0 (.loop x88_L5))) x88_s10))
def V88 := PLift.up (aI (aI (aI (@unf _ _ x88_c0.eq_1) (aI (@unf _ _ x88_s1.eq_1) (@unf _ _ x88_s2.eq_1))) (aI (@unf _ _ x88_L3.eq_1) (aI (@unf _ _ x88_s4.eq_1) (@unf _ _ x88_L5.eq_1)))) (aI (aI (@unf _ _ x88_c6.eq_1) (aI (@unf _ _ x88_s7.eq_1) (@unf _ _ x88_s8.eq_1))) (aI (@unf _ _ x88_L9.eq_1) (aI (@unf _ _ x88_s10.eq_1) (@unf _ _ x88_s11.eq_1)))))
theorem Vv : type_of% V88.down := V88.down
def x88 : XC := (.seq (.reg [a (.box 94 (t 0)) 3,a (.box 26 (t 2)) 5,a (.assign (.const (.slice .none 0 0))) 6]) x88_s11)
theorem b88 : Bt 88 81 x88 [(.tmp 6)] := bt Tryz.func88 rfl (by kernel_rfl) (by kernel_rfl) (by kernel_rfl)
def x86_s0 : XC := (.regD [l 26 7 38,a (.buildSlice 73 3 #[(0,(.const (.string ⟨#[112,114,101,115,115]⟩))),(1,(.const (.string ⟨#[104,101,105,114,115]⟩))),(2,(.const (.string ⟨#[99,114,111,119,110]⟩)))]) 39,m 4 40,a (k 42 #[(t 40),(i 3),(i 3)] #[22,3,3]) 41,j 73 39 41 42,l 9 42 43,m 13 44,m 13 45,m 4 46,a (k 42 #[(t 46),(i 4),(i 8)] #[22,3,3]) 47,a (.binOp .mul 3 (i 300) (t 47) 3) 48,a (.binOp .add 3 (t 45) (t 48) 3) 49,a (.build 53 #[(0,(t 44)),(1,(t 49))]) 50,a (.build 55 #[(0,(i 3)),(5,(t 43)),(6,(.const (.string ⟨#[97,110,110,97,108,115]⟩))),(7,(t 50))]) 51,b (k 83 #[(t 38),(t 51)] #[26,55]) 52,w 26 7 52])
def x86_c1 : XC := (.seq (.reg [m 4 34,a (k 42 #[(t 34),(i 2),(i 60)] #[22,3,3]) 35,a (.binOp .mul 3 (i 400) (t 35) 3) 36,b (.binOp .add 3 (i 600000) (t 36) 3) 37,n 37 13]) x86_s0)
def x86_c2 : XC := (.reg [m 11 53,m 4 54,m 11 55,e 51 55 56,a (k 42 #[(t 54),(i 2),(t 56)] #[22,3,3]) 57,j 51 53 57 58,b (.load 50 (t 58)) 59,w 50 12 59])
def x86_s3 : XC := (.seq (.regD [l 26 7 60,l 50 8 61,l 50 12 62,m 4 63,a (k 42 #[(t 63),(i 5),(i 90)] #[22,3,3]) 64,a (.binOp .add 3 (i 1) (t 64) 3) 65,m 4 66,a (k 44 #[(t 66),(i 6)] #[22,3]) 67,a (k 97 #[(t 67)] #[22]) 68,a (.build 55 #[(0,(i 4)),(1,(t 61)),(2,(t 62)),(4,(t 65)),(6,(t 68))]) 69,b (k 83 #[(t 60),(t 69)] #[26,55]) 70,w 26 10 70]) .ret)
def x86_s4 : XC := (.seq (.seq (.reg [m 11 26,e 51 26 27,a (.binOp .eql 3 (t 27) (i 0) 3) 28,m 28 29,g (.move (t 4)) 30 29 false,g (k 42 #[(t 30),(i 1),(i 4)] #[22,3,3]) 31 29 false,g (.binOp .eql 3 (t 31) (i 1) 3) 32 29 false,a (.pick (t 29) (.const (.bool true)) (t 32)) 33]) (.cond (t 33) x86_c1 x86_c2)) x86_s3)
def x86_s5 : XC := (.seq (.reg [f 26 7 0 18,l 3 18 19,f 26 7 1 20,l 3 20 21,f 26 7 4 22,l 24 22 23,e 24 23 24,b (.build 50 #[(0,(t 19)),(1,(t 21)),(2,(t 24))]) 25,a (.alloc 50) 12,w 50 12 25]) x86_s4)
def x86_s6 : XC := (.seq (.reg [l 94 5 14,m 1 15,l 26 7 16,b (k 82 #[(t 14),(t 15),(t 16),(i 3)] #[94,125,26,3]) 17,n 17 11]) x86_s5)
def V86 := PLift.up (aI (aI (@unf _ _ x86_s0.eq_1) (aI (@unf _ _ x86_c1.eq_1) (@unf _ _ x86_c2.eq_1))) (aI (aI (@unf _ _ x86_s3.eq_1) (@unf _ _ x86_s4.eq_1)) (aI (@unf _ _ x86_s5.eq_1) (@unf _ _ x86_s6.eq_1))))
theorem zE : type_of% V86.down := V86.down
def x86 : XC := (.seq (.reg [a (.box 94 (t 0)) 5,a (.box 26 (t 2)) 7,a (.box 50 (t 3)) 8,a (.alloc 26) 10]) x86_s6)
theorem b86 : Bt 86 71 x86 [(.cell 10 26)] := bt Tryz.func86 rfl (by kernel_rfl) (by kernel_rfl) (by kernel_rfl)
def x87_s0 : XC := (.seq (.regD [l 26 4 36,l 50 6 37,l 50 9 38,l 50 10 39,a (.buildSlice 51 2 #[(0,(t 38)),(1,(t 39))]) 40,m 3 41,a (k 42 #[(t 41),(i 4),(i 3)] #[22,3,3]) 42,a (.binOp .sub 3 (t 42) (i 1) 3) 43,a (.build 55 #[(0,(i 16)),(1,(t 37)),(3,(t 40)),(4,(t 43))]) 44,b (k 83 #[(t 36),(t 44)] #[26,55]) 45,w 26 8 45]) .ret)
def x87_s1 : XC := (.seq (.regD [l 26 4 31,l 50 5 32,m 3 33,a (k 44 #[(t 33),(i 1)] #[22,3]) 34,b (k 85 #[(t 31),(t 32),(t 34)] #[26,50,22]) 35,w 26 4 35]) x87_s0)
def x87_s2 : XC := (.seq (.reg [f 26 4 0 23,l 3 23 24,f 26 4 1 25,l 3 25 26,f 26 4 4 27,l 24 27 28,e 24 28 29,b (.build 50 #[(0,(t 24)),(1,(t 26)),(2,(t 29))]) 30,a (.alloc 50) 10,w 50 10 30]) x87_s1)
def x87_s3 : XC := (.seq (.reg [l 26 4 19,l 50 5 20,m 3 21,b (k 85 #[(t 19),(t 20),(t 21)] #[26,50,22]) 22,w 26 4 22]) x87_s2)
def x87_s4 : XC := (.seq (.reg [f 26 4 0 11,l 3 11 12,f 26 4 1 13,l 3 13 14,f 26 4 4 15,l 24 15 16,e 24 16 17,b (.build 50 #[(0,(t 12)),(1,(t 14)),(2,(t 17))]) 18,a (.alloc 50) 9,w 50 9 18]) x87_s3)
def V87 := PLift.up (aI (aI (@unf _ _ x87_s0.eq_1) (@unf _ _ x87_s1.eq_1)) (aI (@unf _ _ x87_s2.eq_1) (aI (@unf _ _ x87_s3.eq_1) (@unf _ _ x87_s4.eq_1))))
theorem U87 : type_of% V87.down := V87.down
def x87 : XC := (.seq (.reg [a (.box 26 (t 0)) 4,a (.box 50 (t 1)) 5,a (.box 50 (t 2)) 6,a (.alloc 26) 8]) x87_s4)
theorem b87 : Bt 87 46 x87 [(.cell 8 26)] := bt Tryz.func87 rfl (by kernel_rfl) (by kernel_rfl) (by kernel_rfl)
def x89_c0 : XC := (.seq (.regD [l 50 4 67,l 50 5 68,m 3 69,a (k 42 #[(t 69),(i 3),(i 3)] #[22,3,3]) 70,b (.build 55 #[(0,(i 13)),(1,(t 67)),(2,(t 68)),(4,(t 70))]) 71,w 55 8 71]) .ret)
def x89_c1 : XC := (.seq (.regD [l 50 4 59,l 50 5 60,m 3 61,a (k 42 #[(t 61),(i 3),(i 5)] #[22,3,3]) 62,a (.call ⟨(.builtin .min),#[(i 1),(t 62)],#[3,3]⟩) 63,b (.build 55 #[(0,(i 15)),(1,(t 59)),(2,(t 60)),(4,(t 63))]) 64,w 55 8 64]) .ret)
def x89_s2 : XC := (.cond (t 56) x89_c1 (.seq (.reg [b (.binOp .eql 3 (t 9) (i 9) 3) 66,n 66 65]) (.cond (t 65) x89_c0 .skip)))
def x89_c3 : XC := (.seq (.regD [l 50 4 46,a (.buildSlice 73 2 #[(0,(.const (.string ⟨#[114,97,114,101]⟩))),(1,(.const (.string ⟨#[108,97,119]⟩)))]) 47,m 3 48,a (k 42 #[(t 48),(i 3),(i 2)] #[22,3,3]) 49,j 73 47 49 50,l 9 50 51,m 3 52,a (k 42 #[(t 52),(i 4),(i 4)] #[22,3,3]) 53,a (.call ⟨(.builtin .min),#[(i 1),(t 53)],#[3,3]⟩) 54,b (.build 55 #[(0,(i 14)),(1,(t 46)),(5,(t 51)),(4,(t 54))]) 55,w 55 8 55]) .ret)
def x89_c4 : XC := (.seq (.seq (.reg [b (.binOp .eql 3 (t 9) (i 7) 3) 57,n 57 56]) (.cond (t 56) .skip (.reg [b (.binOp .eql 3 (t 9) (i 8) 3) 58,n 58 56]))) x89_s2)
def x89_c5 : XC := (.seq (.regD [l 50 4 33,a (.buildSlice 73 3 #[(0,(.const (.string ⟨#[102,114]⟩))),(1,(.const (.string ⟨#[102,114]⟩))),(2,(.const (.string ⟨#[100,101]⟩)))]) 34,m 3 35,a (k 42 #[(t 35),(i 3),(i 3)] #[22,3,3]) 36,j 73 34 36 37,l 9 37 38,m 3 39,a (k 44 #[(t 39),(i 4)] #[22,3]) 40,a (k 97 #[(t 40)] #[22]) 41,b (.build 55 #[(0,(i 12)),(1,(t 33)),(5,(t 38)),(6,(t 41))]) 42,w 55 8 42]) .ret)
def x89_c6 : XC := (.seq (.seq (.reg [b (.binOp .eql 3 (t 9) (i 5) 3) 44,n 44 43]) (.cond (t 43) .skip (.reg [b (.binOp .eql 3 (t 9) (i 6) 3) 45,n 45 43]))) (.cond (t 43) x89_c3 x89_c4))
def x89_c7 : XC := (.seq (.regD [l 50 4 26,m 3 27,a (k 42 #[(t 27),(i 3),(i 9)] #[22,3,3]) 28,a (.binOp .add 3 (i 1) (t 28) 3) 29,b (.build 55 #[(0,(i 10)),(1,(t 26)),(4,(t 29))]) 30,w 55 8 30]) .ret)
def x89_s8 : XC := (.cond (t 24) x89_c7 (.seq (.reg [b (.binOp .eql 3 (t 9) (i 4) 3) 32,n 32 31]) (.cond (t 31) x89_c5 x89_c6)))
def x89_c9 : XC := (.seq (.regD [l 50 4 20,m 3 21,a (k 42 #[(t 21),(i 3),(i 2)] #[22,3,3]) 22,b (.build 55 #[(0,(i 9)),(1,(t 20)),(4,(t 22))]) 23,w 55 8 23]) .ret)
def x89_c10 : XC := (.seq (.regD [l 50 4 13,m 3 14,a (k 44 #[(t 14),(i 3)] #[22,3]) 15,a (k 97 #[(t 15)] #[22]) 16,b (.build 55 #[(0,(i 7)),(1,(t 13)),(6,(t 16))]) 17,w 55 8 17]) .ret)
def x89_c11 : XC := (.seq (.reg [b (.binOp .eql 3 (t 9) (i 2) 3) 19,n 19 18]) (.cond (t 18) x89_c9 (.seq (.reg [b (.binOp .eql 3 (t 9) (i 3) 3) 25,n 25 24]) x89_s8)))
def x89_s12 : XC := (.block 0 (.seq (.seq (.reg [b (.binOp .eql 3 (t 9) (i 0) 3) 11,n 11 10]) (.cond (t 10) .skip (.reg [b (.binOp .eql 3 (t 9) (i 1) 3) 12,n 12 10]))) (.cond (t 10) x89_c10 x89_c11)))
def x89_s13 : XC := (.seq (.regD [l 50 4 72,m 3 73,a (k 42 #[(t 73),(i 3),(i 5)] #[22,3,3]) 74,b (.build 55 #[(0,(i 8)),(1,(t 72)),(4,(t 74))]) 75,w 55 8 75]) .ret)
def V89 := PLift.up (aI (aI (aI (@unf _ _ x89_c0.eq_1) (aI (@unf _ _ x89_c1.eq_1) (@unf _ _ x89_s2.eq_1))) (aI (aI (@unf _ _ x89_c3.eq_1) (@unf _ _ x89_c4.eq_1)) (aI (@unf _ _ x89_c5.eq_1) (@unf _ _ x89_c6.eq_1)))) (aI (aI (@unf _ _ x89_c7.eq_1) (aI (@unf _ _ x89_s8.eq_1) (@unf _ _ x89_c9.eq_1))) (aI (aI (@unf _ _ x89_c10.eq_1) (@unf _ _ x89_c11.eq_1)) (aI (@unf _ _ x89_s12.eq_1) (@unf _ _ x89_s13.eq_1)))))
theorem Jt : type_of% V89.down := V89.down
def x89 : XC := (.seq (.reg [a (.box 50 (t 0)) 4,a (.box 50 (t 1)) 5,a (.alloc 55) 8]) (.seq (.seq (.reg [m 2 9]) x89_s12) x89_s13))
theorem b89 : Bt 89 76 x89 [(.cell 8 55)] := bt Tryz.func89 rfl (by kernel_rfl) (by kernel_rfl) (by kernel_rfl)
def x73_s0 : XC := (.seq (.regD [l 26 6 58,l 50 12 59,m 3 60,a (k 44 #[(t 60),(i 3)] #[22,3]) 61,b (k 85 #[(t 58),(t 59),(t 61)] #[26,50,22]) 62,w 26 8 62]) .ret)
def x73_s1 : XC := (.seq (.regD [l 26 6 45,a (.buildSlice 73 5 #[(0,(.const (.string ⟨#[110]⟩))),(1,(.const (.string ⟨#[110]⟩))),(2,(.const (.string ⟨#[110]⟩))),(3,(.const (.string ⟨#[118]⟩))),(4,(.const (.string ⟨#[120]⟩)))]) 46,m 3 47,a (k 42 #[(t 47),(i 1),(i 5)] #[22,3,3]) 48,j 73 46 48 49,l 9 49 50,a (k 84 #[] #[]) 51,m 3 52,a (k 42 #[(t 52),(i 2),(i 8)] #[22,3,3]) 53,j 73 51 53 54,l 9 54 55,a (.build 55 #[(0,(i 1)),(5,(t 50)),(6,(t 55))]) 56,b (k 83 #[(t 45),(t 56)] #[26,55]) 57,w 26 6 57]) x73_s0)
def x73_c2 : XC := (.seq (.reg [f 26 6 0 37,l 3 37 38,f 26 6 1 39,l 3 39 40,f 26 6 4 41,l 24 41 42,e 24 42 43,b (.build 50 #[(0,(t 38)),(1,(t 40)),(2,(t 43))]) 44,a (.alloc 50) 12,w 50 12 44]) x73_s1)
def x73_c3 : XC := (.seq (.reg [l 26 6 122,l 50 14 123,l 50 15 124,a (.build 55 #[(0,(i 17)),(1,(t 123)),(2,(t 124))]) 125,b (k 83 #[(t 122),(t 125)] #[26,55]) 126,w 26 8 126]) .ret)
def x73_s4 : XC := (.seq (.regD [l 26 6 143,l 50 14 144,f 55 17 1 145,l 50 145 146,f 55 17 3 147,l 51 147 148,m 3 149,f 55 17 3 150,l 51 150 151,e 51 151 152,a (k 42 #[(t 149),(i 4),(t 152)] #[22,3,3]) 153,j 51 148 153 154,l 50 154 155,a (.buildSlice 51 1 #[(0,(t 155))]) 156,a (.build 55 #[(0,(i 18)),(1,(t 144)),(2,(t 146)),(3,(t 156))]) 157,b (k 83 #[(t 143),(t 157)] #[26,55]) 158,w 26 8 158]) .ret)
def x73_c5 : XC := (.seq (.reg [m 16 136,m 3 137,m 16 138,e 24 138 139,a (k 42 #[(t 137),(i 3),(t 139)] #[22,3,3]) 140,j 24 136 140 141,b (.load 55 (t 141)) 142,a (.alloc 55) 17,w 55 17 142]) x73_s4)
def x73_s6 : XC := (.seq (.reg [m 16 133,e 24 133 134,a (.binOp .gtr 3 (t 134) (i 0) 3) 135]) (.cond (t 135) x73_c5 .skip))
def x73_c7 : XC := (.seq (.regD [l 26 6 164,l 50 13 165,a (k 84 #[] #[]) 166,m 3 167,a (k 42 #[(t 167),(i 3),(i 8)] #[22,3,3]) 168,j 73 166 168 169,l 9 169 170,a (.build 55 #[(0,(i 5)),(1,(t 165)),(6,(t 170))]) 171,b (k 83 #[(t 164),(t 171)] #[26,55]) 172,w 26 8 172]) .ret)
def x73_s8 : XC := (.seq (.regD [l 26 6 173,l 50 13 174,a (.buildSlice 73 2 #[(0,(.const (.string ⟨#[110]⟩))),(1,(.const (.string ⟨#[118]⟩)))]) 175,m 3 176,a (k 42 #[(t 176),(i 3),(i 2)] #[22,3,3]) 177,j 73 175 177 178,l 9 178 179,a (.build 55 #[(0,(i 6)),(1,(t 174)),(5,(t 179))]) 180,b (k 83 #[(t 173),(t 180)] #[26,55]) 181,w 26 8 181]) .ret)
def x73_s9 : XC := (.seq (.regD [l 26 6 195,m 18 196,m 3 197,m 18 198,e 51 198 199,a (k 42 #[(t 197),(i 2),(t 199)] #[22,3,3]) 200,j 51 196 200 201,l 50 201 202,m 19 203,m 19 204,a (.binOp .add 3 (t 204) (i 99) 3) 205,a (.build 53 #[(0,(t 203)),(1,(t 205))]) 206,a (.build 55 #[(0,(i 11)),(1,(t 202)),(7,(t 206))]) 207,b (k 83 #[(t 195),(t 207)] #[26,55]) 208,w 26 8 208]) .ret)
def x73_c10 : XC := (.seq (.reg [m 3 191,a (k 42 #[(t 191),(i 3),(i 60)] #[22,3,3]) 192,a (.binOp .mul 3 (i 500) (t 192) 3) 193,b (.binOp .add 3 (i 600000) (t 193) 3) 194,n 194 19]) x73_s9)
def x73_s11 : XC := (.seq (.reg [m 18 188,e 51 188 189,a (.binOp .gtr 3 (t 189) (i 0) 3) 190]) (.cond (t 190) x73_c10 .skip))
def x73_c12 : XC := (.seq (.reg [l 94 4 184,m 1 185,l 26 6 186,b (k 82 #[(t 184),(t 185),(t 186),(i 3)] #[94,125,26,3]) 187,n 187 18]) x73_s11)
def x73_c13 : XC := (.seq (.seq (.reg [m 3 161,a (k 42 #[(t 161),(i 2),(i 2)] #[22,3,3]) 162,a (.binOp .eql 3 (t 162) (i 0) 3) 163]) (.cond (t 163) x73_c7 .skip)) x73_s8)
def x73_s14 : XC := (.cond (t 159) x73_c13 (.seq (.reg [b (.binOp .eql 3 (t 84) (i 14) 3) 183,n 183 182]) (.cond (t 182) x73_c12 .skip)))
def x73_c15 : XC := (.seq (.reg [l 94 4 129,m 1 130,l 26 6 131,b (k 88 #[(t 129),(t 130),(t 131)] #[94,125,26]) 132,n 132 16]) x73_s6)
def x73_c16 : XC := (.seq (.reg [b (.binOp .eql 3 (t 84) (i 12) 3) 128,n 128 127]) (.cond (t 127) x73_c15 (.seq (.reg [b (.binOp .eql 3 (t 84) (i 13) 3) 160,n 160 159]) x73_s14)))
def x73_s17 : XC := (.cond (t 117) (.seq (.reg [l 50 15 119,l 50 14 120,a (.binOp .neq 50 (t 119) (t 120) 50) 121]) (.cond (t 121) x73_c3 .skip)) x73_c16)
def x73_c18 : XC := (.seq (.regD [l 26 6 111,l 50 13 112,l 50 14 113,m 3 114,a (k 44 #[(t 114),(i 2)] #[22,3]) 115,b (k 87 #[(t 111),(t 112),(t 113),(t 115)] #[26,50,50,22]) 116,w 26 8 116]) .ret)
def x73_c19 : XC := (.seq (.regD [l 94 4 102,m 1 103,l 26 6 104,l 50 14 105,m 3 106,a (k 44 #[(t 106),(i 2)] #[22,3]) 107,b (k 86 #[(t 102),(t 103),(t 104),(t 105),(t 107)] #[94,125,26,50,22]) 108,w 26 8 108]) .ret)
def x73_c20 : XC := (.seq (.reg [b (.binOp .eql 3 (t 84) (i 10) 3) 110,n 110 109]) (.cond (t 109) x73_c18 (.seq (.reg [b (.binOp .eql 3 (t 84) (i 11) 3) 118,n 118 117]) x73_s17)))
def x73_c21 : XC := (.seq (.regD [l 26 6 94,l 50 14 95,m 3 96,a (k 44 #[(t 96),(i 2)] #[22,3]) 97,b (k 85 #[(t 94),(t 95),(t 97)] #[26,50,22]) 98,w 26 8 98]) .ret)
def x73_c22 : XC := (.seq (.seq (.reg [b (.binOp .eql 3 (t 84) (i 8) 3) 100,n 100 99]) (.cond (t 99) .skip (.reg [b (.binOp .eql 3 (t 84) (i 9) 3) 101,n 101 99]))) (.cond (t 99) x73_c19 x73_c20))
def x73_c23 : XC := (.seq (.regD [l 26 6 87,l 50 13 88,m 3 89,a (k 44 #[(t 89),(i 2)] #[22,3]) 90,b (k 85 #[(t 87),(t 88),(t 90)] #[26,50,22]) 91,w 26 8 91]) .ret)
def x73_s24 : XC := (.cond (t 85) x73_c23 (.seq (.reg [b (.binOp .eql 3 (t 84) (i 7) 3) 93,n 93 92]) (.cond (t 92) x73_c21 x73_c22)))
def x73_s25 : XC := (.seq (.regD [l 26 6 209,l 50 14 210,l 50 15 211,m 11 212,a (.binOp .rem 3 (t 212) (i 11) 3) 213,m 3 214,a (k 44 #[(t 214),(i 1)] #[22,3]) 215,a (k 89 #[(t 210),(t 211),(t 213),(t 215)] #[50,50,3,22]) 216,b (k 83 #[(t 209),(t 216)] #[26,55]) 217,w 26 8 217]) .ret)
def x73_s26 : XC := (.seq (.seq (.reg [m 11 84]) (.block 0 (.seq (.reg [b (.binOp .eql 3 (t 84) (i 6) 3) 86,n 86 85]) x73_s24))) x73_s25)
def x73_s27 : XC := (.seq (.reg [m 10 77,m 3 78,m 10 79,e 51 79 80,a (k 42 #[(t 78),(i 2),(t 80)] #[22,3,3]) 81,j 51 77 81 82,b (.load 50 (t 82)) 83,a (.alloc 50) 15,w 50 15 83]) x73_s26)
def x73_s28 : XC := (.seq (.reg [m 10 70,m 3 71,m 10 72,e 51 72 73,a (k 42 #[(t 71),(i 1),(t 73)] #[22,3,3]) 74,j 51 70 74 75,b (.load 50 (t 75)) 76,a (.alloc 50) 14,w 50 14 76]) x73_s27)
def x73_s29 : XC := (.seq (.reg [m 9 63,m 3 64,m 9 65,e 51 65 66,a (k 42 #[(t 64),(i 1),(t 66)] #[22,3,3]) 67,j 51 63 67 68,b (.load 50 (t 68)) 69,a (.alloc 50) 13,w 50 13 69]) x73_s28)
def x73_s30 : XC := (.seq (.seq (.reg [m 10 30,e 51 30 31,a (.binOp .eql 3 (t 31) (i 0) 3) 32,m 32 33,g (.move (t 11)) 34 33 false,g (.binOp .leq 3 (t 34) (i 5) 3) 35 33 false,a (.pick (t 33) (.const (.bool true)) (t 35)) 36]) (.cond (t 36) x73_c2 .skip)) x73_s29)
def x73_s31 : XC := (.seq (.reg [m 3 28,b (k 42 #[(t 28),(i 0),(i 24)] #[22,3,3]) 29,n 29 11]) x73_s30)
def x73_s32 : XC := (.seq (.reg [l 94 4 24,m 1 25,l 26 6 26,b (k 82 #[(t 24),(t 25),(t 26),(i 2)] #[94,125,26,3]) 27,n 27 10]) x73_s31)
def x73_s33 : XC := (.seq (.reg [l 94 4 20,m 1 21,l 26 6 22,b (k 82 #[(t 20),(t 21),(t 22),(i 1)] #[94,125,26,3]) 23,n 23 9]) x73_s32)
def V73 := PLift.up (aI (aI (aI (aI (aI (@unf _ _ x73_s0.eq_1) (@unf _ _ x73_s1.eq_1)) (aI (@unf _ _ x73_c2.eq_1) (@unf _ _ x73_c3.eq_1))) (aI (aI (@unf _ _ x73_s4.eq_1) (@unf _ _ x73_c5.eq_1)) (aI (@unf _ _ x73_s6.eq_1) (@unf _ _ x73_c7.eq_1)))) (aI (aI (aI (@unf _ _ x73_s8.eq_1) (@unf _ _ x73_s9.eq_1)) (aI (@unf _ _ x73_c10.eq_1) (@unf _ _ x73_s11.eq_1))) (aI (aI (@unf _ _ x73_c12.eq_1) (@unf _ _ x73_c13.eq_1)) (aI (@unf _ _ x73_s14.eq_1) (aI (@unf _ _ x73_c15.eq_1) (@unf _ _ x73_c16.eq_1)))))) (aI (aI (aI (aI (@unf _ _ x73_s17.eq_1) (@unf _ _ x73_c18.eq_1)) (aI (@unf _ _ x73_c19.eq_1) (@unf _ _ x73_c20.eq_1))) (aI (aI (@unf _ _ x73_c21.eq_1) (@unf _ _ x73_c22.eq_1)) (aI (@unf _ _ x73_c23.eq_1) (@unf _ _ x73_s24.eq_1)))) (aI (aI (aI (@unf _ _ x73_s25.eq_1) (@unf _ _ x73_s26.eq_1)) (aI (@unf _ _ x73_s27.eq_1) (@unf _ _ x73_s28.eq_1))) (aI (aI (@unf _ _ x73_s29.eq_1) (@unf _ _ x73_s30.eq_1)) (aI (@unf _ _ x73_s31.eq_1) (aI (@unf _ _ x73_s32.eq_1) (@unf _ _ x73_s33.eq_1)))))))
theorem yg : type_of% V73.down := V73.down
def x73 : XC := (.seq (.reg [a (.box 94 (t 0)) 4,a (.box 26 (t 2)) 6,a (.alloc 26) 8]) x73_s33)
theorem b73 : Bt 73 218 x73 [(.cell 8 26)] := bt Tryz.func73 rfl (by kernel_rfl) (by kernel_rfl) (by kernel_rfl)
def x72_s0 : XC := (.reg [m 5 12,b (.binOp .sub 3 (t 12) (i 1) 3) 13,n 13 5])
def x72_s1 : XC := (.seq (.block 1 (.seq (.reg [f 94 2 0 14,l 34 14 15,m 5 16,j 34 15 16 17,f 26 17 0 18,l 3 18 19,m 1 20,a (.binOp .eql 3 (t 19) (t 20) 3) 21]) (.cond (t 21) (.seq (.reg [b (.move (t 5)) 22,n 22 4]) .ret) .skip))) x72_s0)
def x72_L2 : XC := (.seq (.seq (.reg [m 5 10,a (.binOp .geq 3 (t 10) (i 0) 3) 11]) (.cond (t 11) .skip (.exit 0))) x72_s1)
def x72_s3 : XC := (.seq (.seq (.reg [f 94 2 0 6,l 34 6 7,e 34 7 8,b (.binOp .sub 3 (t 8) (i 1) 3) 9,n 9 5]) (.block 0 (.loop x72_L2))) (.seq (.reg [a (.assign (i (-1))) 4]) .ret))
def V72 := PLift.up (aI (aI (@unf _ _ x72_s0.eq_1) (@unf _ _ x72_s1.eq_1)) (aI (@unf _ _ x72_L2.eq_1) (@unf _ _ x72_s3.eq_1)))
theorem U72 : type_of% V72.down := V72.down
def x72 : XC := (.seq (.reg [a (.box 94 (t 0)) 2,a (.assign (i 0)) 4]) x72_s3)
theorem b72 : Bt 72 23 x72 [(.tmp 4)] := bt Tryz.func72 rfl (by kernel_rfl) (by kernel_rfl) (by kernel_rfl)
def x43_s0 : XC := (.reg [m 12 48,b (.binOp .add 3 (t 48) (i 1) 3) 49,n 49 12])
def x43_s1 : XC := (.seq (.block 3 (.reg [m 9 50,m 12 51,m 9 52,m 12 53,j 125 52 53 54,l 4 54 55,m 55 56,g (.fieldAddr 94 (t 3) 1) 57 56 false,g (.load 92 (t 57)) 58 56 false,g (.move (t 11)) 59 56 false,g (.indexAddr 92 (t 58) (t 59)) 60 56 false,g (.load 125 (t 60)) 61 56 false,g (.move (t 12)) 62 56 false,g (.indexAddr 125 (t 61) (t 62)) 63 56 false,g (.load 4 (t 63)) 64 56 false,b (.pick (t 56) (.const (.bool true)) (t 64)) 65,j 125 50 51 66,w 4 66 65])) x43_s0)
def x43_L2 : XC := (.seq (.seq (.reg [m 12 45,m 11 46,a (.binOp .lss 3 (t 45) (t 46) 3) 47]) (.cond (t 47) .skip (.exit 2))) x43_s1)
def x43_c3 : XC := (.reg [f 94 3 0 83,l 34 83 84,m 11 85,j 34 84 85 86,f 26 86 1 87,l 3 87 88,b (.binOp .add 3 (t 88) (i 1) 3) 89,f 26 8 1 90,w 3 90 89])
def x43_c4 : XC := (.regT [8] [([f 26 8 3 91],c (.load 23 (t 91)) 92,false)] [m 10 93,f 94 3 0 94,l 34 94 95,m 11 96,j 34 95 96 97,f 26 97 1 98,l 3 98 99,a (.build 48 #[(0,(t 93)),(1,(t 99))]) 100,a (.buildSlice 23 1 #[(0,(t 100))]) 101,b (.call ⟨(.builtin .append),#[(t 92),(t 101)],#[23,23]⟩) 102,f 26 8 3 103] [w 23 103 102])
def x43_s5 : XC := (.seq (.reg [m 10 80,m 7 81,a (.binOp .eql 3 (t 80) (t 81) 3) 82]) (.cond (t 82) x43_c3 x43_c4))
def x43_s6 : XC := (.seq (.regD [f 26 8 2 70,l 3 70 71,f 94 3 0 72,l 34 72 73,m 11 74,j 34 73 74 75,f 26 75 2 76,l 3 76 77,b (.call ⟨(.builtin .max),#[(t 71),(t 77)],#[3,3]⟩) 78,f 26 8 2 79,w 3 79 78]) x43_s5)
def x43_s7 : XC := (.seq (.reg [m 9 67,m 11 68,j 125 67 68 69,s (.store 4 (t 69) (.const (.bool true)))]) x43_s6)
def x43_s8 : XC := (.seq (.seq (.reg [m 11 31,a (.binOp .lss 3 (t 31) (i 0) 3) 32,m 32 33,g (.move (t 10)) 34 33 false,g (.move (t 7)) 35 33 false,g (.binOp .neq 3 (t 34) (t 35) 3) 36 33 false,g (.move (t 36)) 37 33 false,g (.move (t 2)) 38 37 true,g (.move (t 10)) 39 37 true,g (.binOp .add 3 (i 1) (t 39) 3) 40 37 true,g (k 42 #[(t 38),(t 40),(i 4)] #[22,3,3]) 41 37 true,g (.binOp .eql 3 (t 41) (i 1) 3) 42 37 true,g (.pick (t 37) (t 42) (.const (.bool false))) 43 33 false,a (.pick (t 33) (.const (.bool true)) (t 43)) 44]) (.cond (t 44) (.exit 1) .skip)) (.seq (.seq (.reg [a (.assign (i 0)) 12]) (.block 2 (.loop x43_L2))) x43_s7))
def x43_s9 : XC := (.reg [m 10 26,b (.binOp .add 3 (t 26) (i 1) 3) 27,n 27 10])
def x43_s10 : XC := (.seq (.block 1 (.seq (.reg [l 94 3 28,m 10 29,b (k 72 #[(t 28),(t 29)] #[94,3]) 30,n 30 11]) x43_s8)) x43_s9)
def x43_L11 : XC := (.seq (.seq (.reg [m 10 23,m 1 24,a (.binOp .lss 3 (t 23) (t 24) 3) 25]) (.cond (t 25) .skip (.exit 0))) x43_s10)
def x43_s12 : XC := (.reg [m 13 115,b (.binOp .add 3 (t 115) (i 1) 3) 116,n 116 13])
def x43_s13 : XC := (.seq (.block 5 (.regD [l 94 3 117,m 9 118,l 26 8 119,m 2 120,m 13 121,a (.binOp .mul 3 (i 13) (t 121) 3) 122,a (.binOp .add 3 (i 6) (t 122) 3) 123,a (k 44 #[(t 120),(t 123)] #[22,3]) 124,b (k 73 #[(t 117),(t 118),(t 119),(t 124)] #[94,125,26,22]) 125,w 26 8 125])) x43_s12)
def x43_L14 : XC := (.seq (.seq (.reg [m 13 110,m 2 111,a (k 42 #[(t 111),(i 5),(i 2)] #[22,3,3]) 112,a (.binOp .add 3 (i 1) (t 112) 3) 113,a (.binOp .lss 3 (t 110) (t 113) 3) 114]) (.cond (t 114) .skip (.exit 4))) x43_s13)
def x43_s15 : XC := (.seq (.reg [f 94 3 1 132,c (.load 92 (t 132)) 133,m 9 134,a (.buildSlice 92 1 #[(0,(t 134))]) 135,b (.call ⟨(.builtin .append),#[(t 133),(t 135)],#[92,92]⟩) 136,f 94 3 1 137,w 92 137 136]) (.seq (.gh (.reg [b (.load 94 (t 3)) 138,w 94 6 138])) .ret))
def x43_s16 : XC := (.seq (.reg [f 94 3 0 126,c (.load 34 (t 126)) 127,l 26 8 128,a (.buildSlice 34 1 #[(0,(t 128))]) 129,b (.call ⟨(.builtin .append),#[(t 127),(t 129)],#[34,34]⟩) 130,f 94 3 0 131,w 34 131 130]) x43_s15)
def x43_s17 : XC := (.seq (.regD [f 26 8 2 104,l 3 104 105,m 2 106,a (k 42 #[(t 106),(i 4),(i 4)] #[22,3,3]) 107,b (.binOp .add 3 (t 105) (t 107) 3) 108,f 26 8 2 109,w 3 109 108]) (.seq (.seq (.gh (.reg [a (.assign (i 0)) 13])) (.block 4 (.loop x43_L14))) x43_s16))
def x43_s18 : XC := (.seq (.gh (.reg [f 94 3 0 19,l 34 19 20,e 34 20 21,b (.call ⟨(.builtin .append),#[(t 21),(t 21)],#[125]⟩) 22,n 22 9])) (.seq (.seq (.reg [a (.assign (i 0)) 10]) (.block 0 (.loop x43_L11))) x43_s17))
def x43_s19 : XC := (.seq (.reg [m 7 17,b (.call ⟨(.builtin .complex),#[(t 17),(i 1),(i 1)],#[26,0,1,2]⟩) 18,a (.alloc 26) 8,w 26 8 18]) x43_s18)
def x43_s20 : XC := (.seq (.gh (.reg [m 2 14,m 1 15,b (k 42 #[(t 14),(i 0),(t 15)] #[22,3,3]) 16,n 16 7])) x43_s19)
def V43 := PLift.up (aI (aI (aI (aI (@unf _ _ x43_s0.eq_1) (@unf _ _ x43_s1.eq_1)) (aI (@unf _ _ x43_L2.eq_1) (aI (@unf _ _ x43_c3.eq_1) (@unf _ _ x43_c4.eq_1)))) (aI (aI (@unf _ _ x43_s5.eq_1) (@unf _ _ x43_s6.eq_1)) (aI (@unf _ _ x43_s7.eq_1) (aI (@unf _ _ x43_s8.eq_1) (@unf _ _ x43_s9.eq_1))))) (aI (aI (aI (@unf _ _ x43_s10.eq_1) (@unf _ _ x43_L11.eq_1)) (aI (@unf _ _ x43_s12.eq_1) (aI (@unf _ _ x43_s13.eq_1) (@unf _ _ x43_L14.eq_1)))) (aI (aI (@unf _ _ x43_s15.eq_1) (aI (@unf _ _ x43_s16.eq_1) (@unf _ _ x43_s17.eq_1))) (aI (@unf _ _ x43_s18.eq_1) (aI (@unf _ _ x43_s19.eq_1) (@unf _ _ x43_s20.eq_1))))))
theorem uT : type_of% V43.down := V43.down
def uS : XC := (.seq (.reg [a (.box 94 (t 0)) 3,a (.alloc 94) 6]) x43_s20)
theorem r43 {args : List D} {H : AH} {R : D → AH → Prop} (h : facts args → xcode Tryz.prog uS (args ++ List.replicate (139 - args.length) (.tup [])) H (Yb Tryz.prog [(.cell 6 94)] R)) : ACall Tryz.prog 43 args H R :=
 wT hm Tryz.func43 rfl (by kernel_rfl) (by kernel_rfl) (by kernel_rfl) (by kernel_rfl) (by kernel_rfl) (by kernel_rfl) h
def x74_s0 : XC := (.reg [m 5 11,b (.binOp .add 3 (t 11) (i 1) 3) 12,n 12 5])
def x74_s1 : XC := (.seq (.block 1 (.seq (.regD [m 0 13,f 26 3 3 14,l 23 14 15,m 5 16,j 23 15 16 17,f 48 17 0 18,l 3 18 19,f 26 3 3 20,l 23 20 21,m 5 22,j 23 21 22 23,f 48 23 1 24,l 3 24 25,a (k 75 #[(t 13),(t 19),(t 25)] #[34,3,3]) 26,a (.unOp .not 4 (t 26)) 27]) (.cond (t 27) (.seq (.reg [a (.assign (.const (.bool false))) 4]) .ret) .skip))) x74_s0)
def x74_L2 : XC := (.seq (.seq (.reg [m 5 6,f 26 3 3 7,l 23 7 8,e 23 8 9,a (.binOp .lss 3 (t 6) (t 9) 3) 10]) (.cond (t 10) .skip (.exit 0))) x74_s1)
def x74_s3 : XC := (.seq (.reg [f 26 3 1 28,l 3 28 29,a (.binOp .eql 3 (t 29) (i 1) 3) 30,m 30 31,g (.move (t 0)) 32 31 false,g (.fieldAddr 26 (t 3) 0) 33 31 false,g (.load 3 (t 33)) 34 31 false,g (.fieldAddr 26 (t 3) 1) 35 31 false,g (.load 3 (t 35)) 36 31 false,g (.binOp .sub 3 (t 36) (i 1) 3) 37 31 false,g (k 75 #[(t 32),(t 34),(t 37)] #[34,3,3]) 38 31 false,b (.pick (t 31) (.const (.bool true)) (t 38)) 39,n 39 4]) .ret)
def V74 := PLift.up (aI (aI (@unf _ _ x74_s0.eq_1) (@unf _ _ x74_s1.eq_1)) (aI (@unf _ _ x74_L2.eq_1) (@unf _ _ x74_s3.eq_1)))
theorem U74 : type_of% V74.down := V74.down
def x74 : XC := (.seq (.reg [a (.box 26 (t 1)) 3,a (.assign (.const (.bool false))) 4]) (.seq (.seq (.reg [a (.assign (i 0)) 5]) (.block 0 (.loop x74_L2))) x74_s3))
theorem b74 : Bt 74 40 x74 [(.tmp 4)] := bt Tryz.func74 rfl (by kernel_rfl) (by kernel_rfl) (by kernel_rfl)
def x75_s0 : XC := (.reg [m 7 12,b (.binOp .add 3 (t 12) (i 1) 3) 13,n 13 7])
def x75_s1 : XC := (.seq (.block 1 (.seq (.reg [m 0 14,m 7 15,j 34 14 15 16,f 26 16 0 17,l 3 17 18,m 1 19,a (.binOp .eql 3 (t 18) (t 19) 3) 20,m 20 21,g (.move (t 0)) 22 21 true,g (.move (t 7)) 23 21 true,g (.indexAddr 34 (t 22) (t 23)) 24 21 true,g (.fieldAddr 26 (t 24) 1) 25 21 true,g (.load 3 (t 25)) 26 21 true,g (.move (t 2)) 27 21 true,g (.binOp .eql 3 (t 26) (t 27) 3) 28 21 true,a (.pick (t 21) (t 28) (.const (.bool false))) 29]) (.cond (t 29) (.seq (.reg [a (.assign (.const (.bool true))) 6]) .ret) .skip))) x75_s0)
def x75_L2 : XC := (.seq (.seq (.reg [m 7 8,m 0 9,e 34 9 10,a (.binOp .lss 3 (t 8) (t 10) 3) 11]) (.cond (t 11) .skip (.exit 0))) x75_s1)
def x75_s3 : XC := (.seq (.seq (.reg [a (.assign (i 0)) 7]) (.block 0 (.loop x75_L2))) (.seq (.reg [a (.assign (.const (.bool false))) 6]) .ret))
def V75 := PLift.up (aI (aI (@unf _ _ x75_s0.eq_1) (@unf _ _ x75_s1.eq_1)) (aI (@unf _ _ x75_L2.eq_1) (@unf _ _ x75_s3.eq_1)))
theorem U75 : type_of% V75.down := V75.down
def x75 : XC := (.seq (.reg [a (.assign (.const (.bool false))) 6]) x75_s3)
theorem b75 : Bt 75 30 x75 [(.tmp 6)] := bt Tryz.func75 rfl (by kernel_rfl) (by kernel_rfl) (by kernel_rfl)
def x45_s0 : XC := (.seq (.regD [m 3 24,l 26 7 25,a (k 74 #[(t 24),(t 25)] #[34,26]) 26,m 26 27,g (.move (t 3)) 28 27 true,g (.fieldAddr 26 (t 7) 0) 29 27 true,g (.load 3 (t 29)) 30 27 true,g (.fieldAddr 26 (t 7) 1) 31 27 true,g (.load 3 (t 31)) 32 27 true,g (k 75 #[(t 28),(t 30),(t 32)] #[34,3,3]) 33 27 true,g (.unOp .not 4 (t 33)) 34 27 true,a (.pick (t 27) (t 34) (.const (.bool false))) 35,m 35 36,g (.move (t 5)) 37 36 true,g (.binOp .lss 3 (t 37) (i 0) 3) 38 36 true,g (.move (t 38)) 39 36 true,g (.fieldAddr 26 (t 7) 0) 40 39 false,g (.load 3 (t 40)) 41 39 false,g (.move (t 0)) 42 39 false,g (.move (t 5)) 43 39 false,g (.indexAddr 34 (t 42) (t 43)) 44 39 false,g (.fieldAddr 26 (t 44) 0) 45 39 false,g (.load 3 (t 45)) 46 39 false,g (.binOp .lss 3 (t 41) (t 46) 3) 47 39 false,g (.pick (t 39) (.const (.bool true)) (t 47)) 48 36 true,g (.move (t 48)) 49 36 true,g (.fieldAddr 26 (t 7) 0) 50 49 false,g (.load 3 (t 50)) 51 49 false,g (.move (t 0)) 52 49 false,g (.move (t 5)) 53 49 false,g (.indexAddr 34 (t 52) (t 53)) 54 49 false,g (.fieldAddr 26 (t 54) 0) 55 49 false,g (.load 3 (t 55)) 56 49 false,g (.binOp .eql 3 (t 51) (t 56) 3) 57 49 false,g (.move (t 57)) 58 49 false,g (.fieldAddr 26 (t 7) 1) 59 58 true,g (.load 3 (t 59)) 60 58 true,g (.move (t 0)) 61 58 true,g (.move (t 5)) 62 58 true,g (.indexAddr 34 (t 61) (t 62)) 63 58 true,g (.fieldAddr 26 (t 63) 1) 64 58 true,g (.load 3 (t 64)) 65 58 true,g (.binOp .lss 3 (t 60) (t 65) 3) 66 58 true,g (.pick (t 58) (t 66) (.const (.bool false))) 67 49 false,g (.pick (t 49) (.const (.bool true)) (t 67)) 68 36 true,a (.pick (t 36) (t 68) (.const (.bool false))) 69]) (.cond (t 69) (.reg [b (.move (t 6)) 70,n 70 5]) .skip))
def x45_s1 : XC := (.reg [m 6 18,b (.binOp .add 3 (t 18) (i 1) 3) 19,n 19 6])
def x45_s2 : XC := (.seq (.block 3 (.seq (.reg [m 0 20,m 6 21,j 34 20 21 22,b (.load 26 (t 22)) 23,a (.alloc 26) 7,w 26 7 23]) x45_s0)) x45_s1)
def x45_L3 : XC := (.seq (.seq (.reg [m 6 14,m 0 15,e 34 15 16,a (.binOp .lss 3 (t 14) (t 16) 3) 17]) (.cond (t 17) .skip (.exit 2))) x45_s2)
def x45_s4 : XC := (.reg [c (.move (t 3)) 74,m 0 75,m 5 76,j 34 75 76 77,l 26 77 78,a (.buildSlice 34 1 #[(0,(t 78))]) 79,b (.call ⟨(.builtin .append),#[(t 74),(t 79)],#[34,34]⟩) 80,n 80 3])
def x45_s5 : XC := (.seq (.seq (.reg [m 5 71,a (.binOp .lss 3 (t 71) (i 0) 3) 72]) (.cond (t 72) (.seq (.reg [b (.move (t 3)) 73,n 73 2]) .ret) .skip)) x45_s4)
def x45_s6 : XC := (.reg [m 4 12,b (.binOp .add 3 (t 12) (i 1) 3) 13,n 13 4])
def x45_s7 : XC := (.seq (.block 1 (.seq (.reg [a (.assign (i (-1))) 5]) (.seq (.seq (.reg [a (.assign (i 0)) 6]) (.block 2 (.loop x45_L3))) x45_s5))) x45_s6)
def x45_L8 : XC := (.seq (.seq (.reg [m 4 8,m 0 9,e 34 9 10,a (.binOp .lss 3 (t 8) (t 10) 3) 11]) (.cond (t 11) .skip (.exit 0))) x45_s7)
def x45_s9 : XC := (.seq (.seq (.reg [a (.assign (i 0)) 4]) (.block 0 (.loop x45_L8))) (.seq (.reg [b (.move (t 3)) 81,n 81 2]) .ret))
def V45 := PLift.up (aI (aI (aI (@unf _ _ x45_s0.eq_1) (@unf _ _ x45_s1.eq_1)) (aI (@unf _ _ x45_s2.eq_1) (aI (@unf _ _ x45_L3.eq_1) (@unf _ _ x45_s4.eq_1)))) (aI (aI (@unf _ _ x45_s5.eq_1) (@unf _ _ x45_s6.eq_1)) (aI (@unf _ _ x45_s7.eq_1) (aI (@unf _ _ x45_L8.eq_1) (@unf _ _ x45_s9.eq_1)))))
theorem Ym : type_of% V45.down := V45.down
def x45 : XC := (.seq (.reg [a (.assign (.const (.slice .none 0 0))) 2]) (.seq (.reg [a (.assign (.const (.slice .none 0 0))) 3]) x45_s9))
theorem b45 : Bt 45 82 x45 [(.tmp 2)] := bt Tryz.func45 rfl (by kernel_rfl) (by kernel_rfl) (by kernel_rfl)
def x19_s0 : XC := (.reg [m 5 15,b (.binOp .add 3 (t 15) (i 1) 3) 16,n 16 5])
def x19_s1 : XC := (.seq (.block 1 (.regV [l 94 4 17,m 3 18,m 0 19,m 5 20,a (.binOp .mul 3 (i 32) (t 20) 3) 21,a (.binOp .add 3 (i 2) (t 21) 3) 22,a (k 44 #[(t 19),(t 22)] #[22,3]) 23] [b (k 43 #[(t 17),(t 18),(t 23)] #[94,3,22]) 24,w 94 4 24])) x19_s0)
def x19_L2 : XC := (.seq (.seq (.reg [m 5 10,m 0 11,a (k 42 #[(t 11),(i 0),(i 8)] #[22,3,3]) 12,a (.binOp .add 3 (i 2) (t 12) 3) 13,a (.binOp .lss 3 (t 10) (t 13) 3) 14]) (.cond (t 14) .skip (.exit 0))) x19_s1)
def x19_s3 : XC := (.seq (.gh (.reg [f 94 4 0 25,l 34 25 26,b (k 45 #[(t 26)] #[34]) 27,n 27 2])) .ret)
def x19_s4 : XC := (.seq (.reg [b (.call ⟨(.builtin .complex),#[],#[94]⟩) 9,a (.alloc 94) 4,w 94 4 9]) (.seq (.seq (.reg [a (.assign (i 0)) 5]) (.block 0 (.loop x19_L2))) x19_s3))
def x19_s5 : XC := (.seq (.reg [m 0 6,a (k 42 #[(t 6),(i 1),(i 2)] #[22,3,3]) 7,b (.binOp .add 3 (i 2) (t 7) 3) 8,n 8 3]) x19_s4)
def V19 := PLift.up (aI (aI (@unf _ _ x19_s0.eq_1) (aI (@unf _ _ x19_s1.eq_1) (@unf _ _ x19_L2.eq_1))) (aI (@unf _ _ x19_s3.eq_1) (aI (@unf _ _ x19_s4.eq_1) (@unf _ _ x19_s5.eq_1))))
theorem Uf : type_of% V19.down := V19.down
def WE : XC := (.seq (.reg [a (.assign (.const (.slice .none 0 0))) 2]) x19_s5)
end Go.Proofs.YtoeckfegggongaaGreatDoor
end
section
namespace Go.Proofs.YtoeckfegggongaaGreatDoor
open Go Go.Aw
def around (n most : Int) : Int := (if n < 0 then -(n + 1) else n).tmod most
theorem jf {n most : Int} (h : 0 < most) : 0 ≤ around n most ∧ around n most < most := by
 unfold around
 have h0 : 0 ≤ (if n < 0 then -(n + 1) else n) := by split <;> omega
 rw [Int.tmod_eq_emod_of_nonneg h0]
 exact ⟨Int.emod_nonneg _ (by omega),Int.emod_lt_of_pos _ h⟩
theorem qP {n most : Int} {H : AH} {R : D → AH → Prop} (hm : 0 < most) (h : R (.int .i64 (around n most)) H) : ACall Tryz.prog 15 [.int .i64 n,.int .i64 most] H R := by
 refine b15 fun hf=>?_
 have hn := hf.1
 rw [f_int,yj] at hn
 simp +contextual only [x15,↓U15,↓XP,qm,XW1,qa,qb,qc,qd,qe,qf,reduceCtorEq]
 unfold around at h
 refine ⟨fun h0=>?_,fun h0=>?_⟩
 ·rw [qw (n := n + 1) (by omega) (by omega),qw (n := 0 - (n + 1)) (by omega) (by omega)]
  rw [if_pos h0] at h
  refine ⟨by omega,?_⟩
  rw [show 0 - (n + 1) = -(n + 1) by omega]
  exact h
 ·rw [if_neg h0] at h
  exact ⟨by omega,h⟩
def ints (l : List Int) : List (List D) := l.map fun n=>[.int .i64 n]
theorem qn {l : List Int} : (ints l).length = l.length := by simp [ints]
theorem Up {l : List Int} {i : Nat} (h : i < l.length) : (ints l).getD i [] = [.int .i64 l[i]] := by simp [ints,h]
def qE (l : List Int) (i : Nat) (most : Int) : Int := match l[i]? with
 | some n=>around n most
 | none=>0
theorem qz {l : List Int} {i : Nat} {most : Int} (h : 0 < most) : 0 ≤ qE l i most ∧ qE l i most < most := by
 unfold qE
 split
 ·exact jf h
 ·omega
theorem jL {l : List Int} {i : Nat} {most : Int} {H : AH} {R : D → AH → Prop} (hm : 0 < most) (h : R (.int .i64 (qE l i most)) H) : ACall Tryz.prog 42 [.slc (ints l),.int .i64 i,.int .i64 most] H R := by
 refine b42 fun hf=>?_
 by_cases hi : i < l.length
 ·simp +contextual only [x42,qn,Up hi,↓U42,↓XP,qm,XW1,qa,qb,qc,qd,qe,qf,reduceCtorEq]
  refine ⟨fun hneg=>absurd hneg (by omega),fun _ _=>⟨fun hge=>absurd hge (by omega),fun _=>?_⟩⟩
  refine ⟨by omega,fun _=>qP hm ?_⟩
  simp +contextual only [↓U42,↓XP,qm,XW1,qa,qb,qc,qd,qe,qf,reduceCtorEq]
  intro _
  unfold qE at h
  rw [List.getElem?_eq_getElem hi] at h
  exact h
 ·simp +contextual only [x42,qn,↓U42,↓XP,qm,XW1,qa,qb,qc,qd,qe,qf,reduceCtorEq]
  refine ⟨fun hneg=>absurd hneg (by omega),fun _ _=>⟨fun hge=>?_,fun hlt=>absurd (by omega) hlt⟩⟩
  unfold qE at h
  rw [List.getElem?_eq_none (by omega)] at h
  exact h
end Go.Proofs.YtoeckfegggongaaGreatDoor
end
