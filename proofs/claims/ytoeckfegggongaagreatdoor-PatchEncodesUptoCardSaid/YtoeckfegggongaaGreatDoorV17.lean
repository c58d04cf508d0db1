/- A part of the proof of what the last text says: Gv2, Gv3, Gk1, Gk2, Gk3. Conditions: those in each theorem. -/
import Derived.Test.YtoeckfegggongaaGreatDoorV16
set_option linter.unusedVariables false
set_option linter.unusedSimpArgs false
set_option maxRecDepth 100000
set_option maxHeartbeats 16000000
open Nat renaming reduceSub → qa,reduceAdd → qb,reduceMul → qc,reduceEqDiff → qd,reduceLeDiff → qe,reduceBEq → qf
section
namespace Go.Proofs.YtoeckfegggongaaGreatDoor
open Go Go.Aw
def zy (o : OpP) : Prop := uses o.k ≠ [] ∧ (79 ∈ uses o.k → jq o.on) ∧ (79 ∉ uses o.k → o.on = v9) ∧ (84 ∈ uses o.k → jq o.to) ∧ (84 ∉ uses o.k → o.to = v9)
def z9 (o : OpP) : Prop := (78 ∈ uses o.k → yA o) ∧ (78 ∉ uses o.k → o.n = 0) ∧ (73 ∈ uses o.k → vW o) ∧ (73 ∉ uses o.k → o.ids = [])
def uX (o : OpP) : Prop := (65 ∈ uses o.k → 1 ≤ o.name.length ∧ o.name.length ≤ 16) ∧ (65 ∉ uses o.k → o.name = []) ∧ (88 ∈ uses o.k → o.text.length ≤ 1024) ∧ (88 ∉ uses o.k → o.text = [])
def uK (o : OpP) : Prop := (83 ∈ uses o.k → kA o.a o.b) ∧ (83 ∉ uses o.k → o.a = 0 ∧ o.b = 0)
def vM (o : OpP) : Prop := o.k = 17 → o.on ≠ o.to
instance (o : OpP) : Decidable (zy o) := by unfold zy; exact inferInstance
instance (o : OpP) : Decidable (z9 o) := by unfold z9; exact inferInstance
instance (o : OpP) : Decidable (uX o) := by unfold uX; exact inferInstance
instance (o : OpP) : Decidable (uK o) := by unfold uK; exact inferInstance
instance (o : OpP) : Decidable (vM o) := by unfold vM; exact inferInstance
def vi (o : OpP) : Prop := zy o ∧ z9 o ∧ uX o ∧ uK o ∧ vM o
instance (o : OpP) : Decidable (vi o) := by unfold vi; exact inferInstance
theorem qx {x y : Id3} : (decide (x.o = y.o) && (decide (x.s = y.s) && decide (x.i = y.i))) = decide (x = y) := by
 cases x; cases y; simp
theorem qv {x : Id3} : (decide (x.o = 0) && (decide (x.s = 0) && decide (x.i = 0))) = decide (x = v9) := qx (y := v9)
theorem Ye {s : List UInt8} {H : AH} {R : D → AH → Prop} (h : R (.bool (decide ((79 : UInt8) ∈ s))) H) : ACall Tryz.prog 51 [.str s,.int .u8 79] H R := uI (c := 79) h
theorem oU {s : List UInt8} {H : AH} {R : D → AH → Prop} (h : R (.bool (decide ((84 : UInt8) ∈ s))) H) : ACall Tryz.prog 51 [.str s,.int .u8 84] H R := uI (c := 84) h
theorem KJ {s : List UInt8} {H : AH} {R : D → AH → Prop} (h : R (.bool (decide ((78 : UInt8) ∈ s))) H) : ACall Tryz.prog 51 [.str s,.int .u8 78] H R := uI (c := 78) h
theorem oL {s : List UInt8} {H : AH} {R : D → AH → Prop} (h : R (.bool (decide ((73 : UInt8) ∈ s))) H) : ACall Tryz.prog 51 [.str s,.int .u8 73] H R := uI (c := 73) h
theorem KY {s : List UInt8} {H : AH} {R : D → AH → Prop} (h : R (.bool (decide ((65 : UInt8) ∈ s))) H) : ACall Tryz.prog 51 [.str s,.int .u8 65] H R := uI (c := 65) h
theorem z7 {s : List UInt8} {H : AH} {R : D → AH → Prop} (h : R (.bool (decide ((88 : UInt8) ∈ s))) H) : ACall Tryz.prog 51 [.str s,.int .u8 88] H R := uI (c := 88) h
theorem KZ {s : List UInt8} {H : AH} {R : D → AH → Prop} (h : R (.bool (decide ((83 : UInt8) ∈ s))) H) : ACall Tryz.prog 51 [.str s,.int .u8 83] H R := uI (c := 83) h
theorem v_0 {o : OpP} {b1 b4 : Nat} {F : List D} {H : AH} {R : D → AH → Prop} (n14 : b1 ≠ b4) (hF : Fr 169 [(1,.ptr b1 0),(3,.str (uses o.k)),(4,.ptr b4 0)] F) (h : R (.bool (decide (vM o))) H) : xcode Tryz.prog x24_s0 F ((b4,AO.cells [.int .i64 0,.int .i64 0,.int .i64 0]) :: (b1,AO.cells o.d) :: H) (jN Tryz.prog [.tmp 2] H.length R) := by
 have hod : o.d = [.int .i64 o.k,.int .i64 o.on.o,.int .i64 o.on.s,.int .i64 o.on.i,.int .i64 o.to.o,.int .i64 o.to.s,.int .i64 o.to.i,.slc (qV o.ids),.int .i64 o.n,.str o.name,.str o.text,.int .i64 o.a,.int .i64 o.b] := rfl
 have hk : ∀ b,decide (vM o) = b → R (.bool b) H := fun b hb=>hb ▸ h
 obtain ⟨z,rfl⟩ : ∃ z : Nat → D,_ = z 0 :: .ptr b1 0 :: z 2 :: .str (uses o.k) :: .ptr b4 0 :: zz z 5 164 [] := hF.lit
 try dsimp only [zz,qb] at *
 simp +contextual only [x24,hod,qg,qi,n14,qx,↓U24,↓XP,qm,XW1,qa,qb,qc,qd,qe,qf,reduceCtorEq]
 repeat' (first | apply And.intro | intro _)
 ·exact hk _ (by simp [vM, *])
 ·exact hk _ (by simp [vM, *])
theorem v_1 {o : OpP} {b1 b4 : Nat} {F : List D} {H : AH} {R : D → AH → Prop} (n14 : b1 ≠ b4) (hF : Fr 169 [(1,.ptr b1 0),(3,.str (uses o.k)),(4,.ptr b4 0)] F) (h : R (.bool (decide (uK o ∧ vM o))) H) : xcode Tryz.prog x24_s1 F ((b4,AO.cells [.int .i64 0,.int .i64 0,.int .i64 0]) :: (b1,AO.cells o.d) :: H) (jN Tryz.prog [.tmp 2] H.length R) := by
 have hod : o.d = [.int .i64 o.k,.int .i64 o.on.o,.int .i64 o.on.s,.int .i64 o.on.i,.int .i64 o.to.o,.int .i64 o.to.s,.int .i64 o.to.i,.slc (qV o.ids),.int .i64 o.n,.str o.name,.str o.text,.int .i64 o.a,.int .i64 o.b] := rfl
 have hk : ∀ b,decide (uK o ∧ vM o) = b → R (.bool b) H := fun b hb=>hb ▸ h
 have go : uK o → ∀ F',Fr 169 [(1,.ptr b1 0),(3,.str (uses o.k)),(4,.ptr b4 0)] F' → xcode Tryz.prog x24_s0 F' ((b4,AO.cells [.int .i64 0,.int .i64 0,.int .i64 0]) :: (b1,AO.cells o.d) :: H) (jN Tryz.prog [.tmp 2] H.length R) := fun h4 F' hF'=>v_0 n14 hF' (hk _ (by simp only [h4,true_and]))
 obtain ⟨z,rfl⟩ : ∃ z : Nat → D,_ = z 0 :: .ptr b1 0 :: z 2 :: .str (uses o.k) :: .ptr b4 0 :: zz z 5 164 [] := hF.lit
 try dsimp only [zz,qb] at *
 clear hF h
 simp +contextual only [↓v6,hod,qk,qg,qi,n14,qx,qv,↓XP,qm,XW1,qa,qb,qc,qd,qe,qf,reduceCtorEq]
 intros
 refine KZ ?_
 by_cases hS : (83 : UInt8) ∈ uses o.k
 ·skip
  simp +contextual only [↓v6,hod,qk,qg,qi,n14,qx,qv,hS,↓XP,qm,XW1,qa,qb,qc,qd,qe,qf,reduceCtorEq]
  intros
  refine f_rSpan (a := o.a) (b := o.b) ?_
  by_cases oS : kA o.a o.b
  ·skip
   simp +contextual only [↓v6,hod,qk,qg,qi,n14,qx,qv,hS,oS,↓XP,qm,XW1,qa,qb,qc,qd,qe,qf,reduceCtorEq]
   intros
   refine KZ ?_
   simp +contextual only [↓v6,hod,qk,qg,qi,n14,qx,qv,hS,oS,↓XP,qm,XW1,qa,qb,qc,qd,qe,qf,reduceCtorEq]
   intros
   simp only [← hod]
   exact go ⟨fun _=>oS,fun hh=>(hh hS).elim⟩ _ ⟨rfl,rfl,rfl,rfl,trivial⟩
  ·skip
   simp +contextual only [↓v6,hod,qk,qg,qi,n14,qx,qv,hS,oS,↓XP,qm,XW1,qa,qb,qc,qd,qe,qf,reduceCtorEq]
   intros
   exact hk _ (decide_eq_false (fun hh=>oS (hh.1.1 hS)))
 ·skip
  simp +contextual only [↓v6,hod,qk,qg,qi,n14,qx,qv,hS,↓XP,qm,XW1,qa,qb,qc,qd,qe,qf,reduceCtorEq]
  intros
  refine KZ ?_
  by_cases bS : o.a = 0 ∧ o.b = 0
  ·skip
   simp +contextual only [↓v6,hod,qk,qg,qi,n14,qx,qv,hS,eq_true bS.1,eq_true bS.2,↓XP,qm,XW1,qa,qb,qc,qd,qe,qf,reduceCtorEq]
   intros
   simp only [← hod]
   exact go ⟨fun hh=>(hS hh).elim,fun _=>bS⟩ _ ⟨rfl,rfl,rfl,rfl,trivial⟩
  ·skip
   by_cases sS : o.a = 0
   ·skip
    simp +contextual only [↓v6,hod,qk,qg,qi,n14,qx,qv,hS,eq_true sS,(eq_false (fun h=>bS ⟨sS,h⟩) : (o.b = 0) = False),↓XP,qm,XW1,qa,qb,qc,qd,qe,qf,reduceCtorEq]
    intros
    exact hk _ (decide_eq_false (fun hh=>bS (hh.1.2 hS)))
   ·skip
    simp +contextual only [↓v6,hod,qk,qg,qi,n14,qx,qv,hS,eq_false sS,↓XP,qm,XW1,qa,qb,qc,qd,qe,qf,reduceCtorEq]
    intros
    exact hk _ (decide_eq_false (fun hh=>bS (hh.1.2 hS)))
theorem v_2 {o : OpP} {b1 b4 : Nat} {F : List D} {H : AH} {R : D → AH → Prop} (n14 : b1 ≠ b4) (hF : Fr 169 [(1,.ptr b1 0),(3,.str (uses o.k)),(4,.ptr b4 0)] F) (h : R (.bool (decide (uX o ∧ uK o ∧ vM o))) H) : xcode Tryz.prog x24_s2 F ((b4,AO.cells [.int .i64 0,.int .i64 0,.int .i64 0]) :: (b1,AO.cells o.d) :: H) (jN Tryz.prog [.tmp 2] H.length R) := by
 have hod : o.d = [.int .i64 o.k,.int .i64 o.on.o,.int .i64 o.on.s,.int .i64 o.on.i,.int .i64 o.to.o,.int .i64 o.to.s,.int .i64 o.to.i,.slc (qV o.ids),.int .i64 o.n,.str o.name,.str o.text,.int .i64 o.a,.int .i64 o.b] := rfl
 have hk : ∀ b,decide (uX o ∧ uK o ∧ vM o) = b → R (.bool b) H := fun b hb=>hb ▸ h
 have go : uX o → ∀ F',Fr 169 [(1,.ptr b1 0),(3,.str (uses o.k)),(4,.ptr b4 0)] F' → xcode Tryz.prog x24_s1 F' ((b4,AO.cells [.int .i64 0,.int .i64 0,.int .i64 0]) :: (b1,AO.cells o.d) :: H) (jN Tryz.prog [.tmp 2] H.length R) := fun h4 F' hF'=>v_1 n14 hF' (hk _ (by simp only [h4,true_and]))
 obtain ⟨z,rfl⟩ : ∃ z : Nat → D,_ = z 0 :: .ptr b1 0 :: z 2 :: .str (uses o.k) :: .ptr b4 0 :: zz z 5 164 [] := hF.lit
 try dsimp only [zz,qb] at *
 clear hF h
 simp +contextual only [↓kp,hod,qk,qg,qi,n14,qx,qv,↓XP,qm,XW1,qa,qb,qc,qd,qe,qf,reduceCtorEq]
 intros
 refine KY ?_
 by_cases hA : (65 : UInt8) ∈ uses o.k
 ·skip
  by_cases oA : 1 ≤ o.name.length ∧ o.name.length ≤ 16
  ·skip
   simp +contextual only [↓kp,hod,qk,qg,qi,n14,qx,qv,hA,(eq_false (by omega) : ((o.name.length : Int) < 1) = False),(eq_false (by omega) : (16 < (o.name.length : Int)) = False),↓XP,qm,XW1,qa,qb,qc,qd,qe,qf,reduceCtorEq]
   intros
   refine KY ?_
   simp +contextual only [↓kp,hod,qk,qg,qi,n14,qx,qv,hA,(eq_false (by omega) : ((o.name.length : Int) < 1) = False),(eq_false (by omega) : (16 < (o.name.length : Int)) = False),↓XP,qm,XW1,qa,qb,qc,qd,qe,qf,reduceCtorEq]
   intros
   refine z7 ?_
   by_cases hX : (88 : UInt8) ∈ uses o.k
   ·skip
    by_cases oX : o.text.length ≤ 1024
    ·skip
     simp +contextual only [↓kp,hod,qk,qg,qi,n14,qx,qv,hA,(eq_false (by omega) : ((o.name.length : Int) < 1) = False),(eq_false (by omega) : (16 < (o.name.length : Int)) = False),hX,(eq_false (by omega) : (1024 < (o.text.length : Int)) = False),↓XP,qm,XW1,qa,qb,qc,qd,qe,qf,reduceCtorEq]
     intros
     refine z7 ?_
     simp +contextual only [↓kp,hod,qk,qg,qi,n14,qx,qv,hA,(eq_false (by omega) : ((o.name.length : Int) < 1) = False),(eq_false (by omega) : (16 < (o.name.length : Int)) = False),hX,(eq_false (by omega) : (1024 < (o.text.length : Int)) = False),↓XP,qm,XW1,qa,qb,qc,qd,qe,qf,reduceCtorEq]
     intros
     simp only [← hod]
     exact go ⟨fun _=>oA,fun hh=>(hh hA).elim,fun _=>oX,fun hh=>(hh hX).elim⟩ _ ⟨rfl,rfl,rfl,rfl,trivial⟩
    ·skip
     simp +contextual only [↓kp,hod,qk,qg,qi,n14,qx,qv,hA,(eq_false (by omega) : ((o.name.length : Int) < 1) = False),(eq_false (by omega) : (16 < (o.name.length : Int)) = False),hX,(eq_true (by omega) : (1024 < (o.text.length : Int)) = True),↓XP,qm,XW1,qa,qb,qc,qd,qe,qf,reduceCtorEq]
     intros
     exact hk _ (decide_eq_false (fun hh=>oX (hh.1.2.2.1 hX)))
   ·skip
    simp +contextual only [↓kp,hod,qk,qg,qi,n14,qx,qv,hA,(eq_false (by omega) : ((o.name.length : Int) < 1) = False),(eq_false (by omega) : (16 < (o.name.length : Int)) = False),hX,↓XP,qm,XW1,qa,qb,qc,qd,qe,qf,reduceCtorEq]
    intros
    refine z7 ?_
    by_cases bX : o.text = []
    ·skip
     simp +contextual only [↓kp,hod,qk,qg,qi,n14,qx,qv,hA,(eq_false (by omega) : ((o.name.length : Int) < 1) = False),(eq_false (by omega) : (16 < (o.name.length : Int)) = False),hX,eq_true bX,↓XP,qm,XW1,qa,qb,qc,qd,qe,qf,reduceCtorEq]
     intros
     simp only [← hod]
     exact go ⟨fun _=>oA,fun hh=>(hh hA).elim,fun hh=>(hX hh).elim,fun _=>bX⟩ _ ⟨rfl,rfl,rfl,rfl,trivial⟩
    ·skip
     simp +contextual only [↓kp,hod,qk,qg,qi,n14,qx,qv,hA,(eq_false (by omega) : ((o.name.length : Int) < 1) = False),(eq_false (by omega) : (16 < (o.name.length : Int)) = False),hX,eq_false bX,↓XP,qm,XW1,qa,qb,qc,qd,qe,qf,reduceCtorEq]
     intros
     exact hk _ (decide_eq_false (fun hh=>bX (hh.1.2.2.2 hX)))
  ·skip
   by_cases sA : o.name.length < 1
   ·skip
    simp +contextual only [↓kp,hod,qk,qg,qi,n14,qx,qv,hA,(eq_true (by omega) : ((o.name.length : Int) < 1) = True),↓XP,qm,XW1,qa,qb,qc,qd,qe,qf,reduceCtorEq]
    intros
    exact hk _ (decide_eq_false (fun hh=>oA (hh.1.1 hA)))
   ·skip
    simp +contextual only [↓kp,hod,qk,qg,qi,n14,qx,qv,hA,(eq_false (by omega) : ((o.name.length : Int) < 1) = False),(eq_true (by omega) : (16 < (o.name.length : Int)) = True),↓XP,qm,XW1,qa,qb,qc,qd,qe,qf,reduceCtorEq]
    intros
    exact hk _ (decide_eq_false (fun hh=>oA (hh.1.1 hA)))
 ·skip
  simp +contextual only [↓kp,hod,qk,qg,qi,n14,qx,qv,hA,↓XP,qm,XW1,qa,qb,qc,qd,qe,qf,reduceCtorEq]
  intros
  refine KY ?_
  by_cases bA : o.name = []
  ·skip
   simp +contextual only [↓kp,hod,qk,qg,qi,n14,qx,qv,hA,eq_true bA,↓XP,qm,XW1,qa,qb,qc,qd,qe,qf,reduceCtorEq]
   intros
   refine z7 ?_
   by_cases hX : (88 : UInt8) ∈ uses o.k
   ·skip
    by_cases oX : o.text.length ≤ 1024
    ·skip
     simp +contextual only [↓kp,hod,qk,qg,qi,n14,qx,qv,hA,eq_true bA,hX,(eq_false (by omega) : (1024 < (o.text.length : Int)) = False),↓XP,qm,XW1,qa,qb,qc,qd,qe,qf,reduceCtorEq]
     intros
     refine z7 ?_
     simp +contextual only [↓kp,hod,qk,qg,qi,n14,qx,qv,hA,eq_true bA,hX,(eq_false (by omega) : (1024 < (o.text.length : Int)) = False),↓XP,qm,XW1,qa,qb,qc,qd,qe,qf,reduceCtorEq]
     intros
     simp only [← hod]
     exact go ⟨fun hh=>(hA hh).elim,fun _=>bA,fun _=>oX,fun hh=>(hh hX).elim⟩ _ ⟨rfl,rfl,rfl,rfl,trivial⟩
    ·skip
     simp +contextual only [↓kp,hod,qk,qg,qi,n14,qx,qv,hA,eq_true bA,hX,(eq_true (by omega) : (1024 < (o.text.length : Int)) = True),↓XP,qm,XW1,qa,qb,qc,qd,qe,qf,reduceCtorEq]
     intros
     exact hk _ (decide_eq_false (fun hh=>oX (hh.1.2.2.1 hX)))
   ·skip
    simp +contextual only [↓kp,hod,qk,qg,qi,n14,qx,qv,hA,eq_true bA,hX,↓XP,qm,XW1,qa,qb,qc,qd,qe,qf,reduceCtorEq]
    intros
    refine z7 ?_
    by_cases bX : o.text = []
    ·skip
     simp +contextual only [↓kp,hod,qk,qg,qi,n14,qx,qv,hA,eq_true bA,hX,eq_true bX,↓XP,qm,XW1,qa,qb,qc,qd,qe,qf,reduceCtorEq]
     intros
     simp only [← hod]
     exact go ⟨fun hh=>(hA hh).elim,fun _=>bA,fun hh=>(hX hh).elim,fun _=>bX⟩ _ ⟨rfl,rfl,rfl,rfl,trivial⟩
    ·skip
     simp +contextual only [↓kp,hod,qk,qg,qi,n14,qx,qv,hA,eq_true bA,hX,eq_false bX,↓XP,qm,XW1,qa,qb,qc,qd,qe,qf,reduceCtorEq]
     intros
     exact hk _ (decide_eq_false (fun hh=>bX (hh.1.2.2.2 hX)))
  ·skip
   simp +contextual only [↓kp,hod,qk,qg,qi,n14,qx,qv,hA,eq_false bA,↓XP,qm,XW1,qa,qb,qc,qd,qe,qf,reduceCtorEq]
   intros
   exact hk _ (decide_eq_false (fun hh=>bA (hh.1.2.1 hA)))
theorem v_3 {o : OpP} {b1 b4 : Nat} {F : List D} {H : AH} {R : D → AH → Prop} (n14 : b1 ≠ b4) (hF : Fr 169 [(1,.ptr b1 0),(3,.str (uses o.k)),(4,.ptr b4 0)] F) (h : R (.bool (decide (z9 o ∧ uX o ∧ uK o ∧ vM o))) H) : xcode Tryz.prog x24_s3 F ((b4,AO.cells [.int .i64 0,.int .i64 0,.int .i64 0]) :: (b1,AO.cells o.d) :: H) (jN Tryz.prog [.tmp 2] H.length R) := by
 have hod : o.d = [.int .i64 o.k,.int .i64 o.on.o,.int .i64 o.on.s,.int .i64 o.on.i,.int .i64 o.to.o,.int .i64 o.to.s,.int .i64 o.to.i,.slc (qV o.ids),.int .i64 o.n,.str o.name,.str o.text,.int .i64 o.a,.int .i64 o.b] := rfl
 have hk : ∀ b,decide (z9 o ∧ uX o ∧ uK o ∧ vM o) = b → R (.bool b) H := fun b hb=>hb ▸ h
 have go : z9 o → ∀ F',Fr 169 [(1,.ptr b1 0),(3,.str (uses o.k)),(4,.ptr b4 0)] F' → xcode Tryz.prog x24_s2 F' ((b4,AO.cells [.int .i64 0,.int .i64 0,.int .i64 0]) :: (b1,AO.cells o.d) :: H) (jN Tryz.prog [.tmp 2] H.length R) := fun h4 F' hF'=>v_2 n14 hF' (hk _ (by simp only [h4,true_and]))
 obtain ⟨z,rfl⟩ : ∃ z : Nat → D,_ = z 0 :: .ptr b1 0 :: z 2 :: .str (uses o.k) :: .ptr b4 0 :: zz z 5 164 [] := hF.lit
 try dsimp only [zz,qb] at *
 clear hF h
 simp +contextual only [↓jT,hod,qk,qg,qi,n14,qx,qv,↓XP,qm,XW1,qa,qb,qc,qd,qe,qf,reduceCtorEq]
 intros
 refine KJ ?_
 by_cases hN : (78 : UInt8) ∈ uses o.k
 ·skip
  simp +contextual only [↓jT,hod,qk,qg,qi,n14,qx,qv,hN,↓XP,qm,XW1,qa,qb,qc,qd,qe,qf,reduceCtorEq]
  intros
  refine f_rNum (o := o) ?_
  by_cases oN : yA o
  ·skip
   simp +contextual only [↓jT,hod,qk,qg,qi,n14,qx,qv,hN,oN,↓XP,qm,XW1,qa,qb,qc,qd,qe,qf,reduceCtorEq]
   intros
   refine KJ ?_
   simp +contextual only [↓jT,hod,qk,qg,qi,n14,qx,qv,hN,oN,↓XP,qm,XW1,qa,qb,qc,qd,qe,qf,reduceCtorEq]
   intros
   refine oL ?_
   by_cases hI : (73 : UInt8) ∈ uses o.k
   ·skip
    simp +contextual only [↓jT,hod,qk,qg,qi,n14,qx,qv,hN,oN,hI,↓XP,qm,XW1,qa,qb,qc,qd,qe,qf,reduceCtorEq]
    intros
    refine JT (o := o) ?_
    by_cases oI : vW o
    ·skip
     simp +contextual only [↓jT,hod,qk,qg,qi,n14,qx,qv,hN,oN,hI,oI,↓XP,qm,XW1,qa,qb,qc,qd,qe,qf,reduceCtorEq]
     intros
     refine oL ?_
     simp +contextual only [↓jT,hod,qk,qg,qi,n14,qx,qv,hN,oN,hI,oI,↓XP,qm,XW1,qa,qb,qc,qd,qe,qf,reduceCtorEq]
     intros
     simp only [← hod]
     exact go ⟨fun _=>oN,fun hh=>(hh hN).elim,fun _=>oI,fun hh=>(hh hI).elim⟩ _ ⟨rfl,rfl,rfl,rfl,trivial⟩
    ·skip
     simp +contextual only [↓jT,hod,qk,qg,qi,n14,qx,qv,hN,oN,hI,oI,↓XP,qm,XW1,qa,qb,qc,qd,qe,qf,reduceCtorEq]
     intros
     exact hk _ (decide_eq_false (fun hh=>oI (hh.1.2.2.1 hI)))
   ·skip
    simp +contextual only [↓jT,hod,qk,qg,qi,n14,qx,qv,hN,oN,hI,↓XP,qm,XW1,qa,qb,qc,qd,qe,qf,reduceCtorEq]
    intros
    refine oL ?_
    by_cases bI : o.ids = []
    ·skip
     simp +contextual only [↓jT,hod,qk,qg,qi,n14,qx,qv,hN,oN,hI,(eq_false (by simp [bI]) : (0 < (o.ids.length : Int)) = False),↓XP,qm,XW1,qa,qb,qc,qd,qe,qf,reduceCtorEq]
     intros
     simp only [← hod]
     exact go ⟨fun _=>oN,fun hh=>(hh hN).elim,fun hh=>(hI hh).elim,fun _=>bI⟩ _ ⟨rfl,rfl,rfl,rfl,trivial⟩
    ·skip
     simp +contextual only [↓jT,hod,qk,qg,qi,n14,qx,qv,hN,oN,hI,(eq_true (by have := List.length_pos_iff.2 bI; omega) : (0 < (o.ids.length : Int)) = True),↓XP,qm,XW1,qa,qb,qc,qd,qe,qf,reduceCtorEq]
     intros
     exact hk _ (decide_eq_false (fun hh=>bI (hh.1.2.2.2 hI)))
  ·skip
   simp +contextual only [↓jT,hod,qk,qg,qi,n14,qx,qv,hN,oN,↓XP,qm,XW1,qa,qb,qc,qd,qe,qf,reduceCtorEq]
   intros
   exact hk _ (decide_eq_false (fun hh=>oN (hh.1.1 hN)))
 ·skip
  simp +contextual only [↓jT,hod,qk,qg,qi,n14,qx,qv,hN,↓XP,qm,XW1,qa,qb,qc,qd,qe,qf,reduceCtorEq]
  intros
  refine KJ ?_
  by_cases bN : o.n = 0
  ·skip
   simp +contextual only [↓jT,hod,qk,qg,qi,n14,qx,qv,hN,eq_true bN,↓XP,qm,XW1,qa,qb,qc,qd,qe,qf,reduceCtorEq]
   intros
   refine oL ?_
   by_cases hI : (73 : UInt8) ∈ uses o.k
   ·skip
    simp +contextual only [↓jT,hod,qk,qg,qi,n14,qx,qv,hN,eq_true bN,hI,↓XP,qm,XW1,qa,qb,qc,qd,qe,qf,reduceCtorEq]
    intros
    refine JT (o := o) ?_
    by_cases oI : vW o
    ·skip
     simp +contextual only [↓jT,hod,qk,qg,qi,n14,qx,qv,hN,eq_true bN,hI,oI,↓XP,qm,XW1,qa,qb,qc,qd,qe,qf,reduceCtorEq]
     intros
     refine oL ?_
     simp +contextual only [↓jT,hod,qk,qg,qi,n14,qx,qv,hN,eq_true bN,hI,oI,↓XP,qm,XW1,qa,qb,qc,qd,qe,qf,reduceCtorEq]
     intros
     simp only [← hod]
     exact go ⟨fun hh=>(hN hh).elim,fun _=>bN,fun _=>oI,fun hh=>(hh hI).elim⟩ _ ⟨rfl,rfl,rfl,rfl,trivial⟩
    ·skip
     simp +contextual only [↓jT,hod,qk,qg,qi,n14,qx,qv,hN,eq_true bN,hI,oI,↓XP,qm,XW1,qa,qb,qc,qd,qe,qf,reduceCtorEq]
     intros
     exact hk _ (decide_eq_false (fun hh=>oI (hh.1.2.2.1 hI)))
   ·skip
    simp +contextual only [↓jT,hod,qk,qg,qi,n14,qx,qv,hN,eq_true bN,hI,↓XP,qm,XW1,qa,qb,qc,qd,qe,qf,reduceCtorEq]
    intros
    refine oL ?_
    by_cases bI : o.ids = []
    ·skip
     simp +contextual only [↓jT,hod,qk,qg,qi,n14,qx,qv,hN,eq_true bN,hI,(eq_false (by simp [bI]) : (0 < (o.ids.length : Int)) = False),↓XP,qm,XW1,qa,qb,qc,qd,qe,qf,reduceCtorEq]
     intros
     simp only [← hod]
     exact go ⟨fun hh=>(hN hh).elim,fun _=>bN,fun hh=>(hI hh).elim,fun _=>bI⟩ _ ⟨rfl,rfl,rfl,rfl,trivial⟩
    ·skip
     simp +contextual only [↓jT,hod,qk,qg,qi,n14,qx,qv,hN,eq_true bN,hI,(eq_true (by have := List.length_pos_iff.2 bI; omega) : (0 < (o.ids.length : Int)) = True),↓XP,qm,XW1,qa,qb,qc,qd,qe,qf,reduceCtorEq]
     intros
     exact hk _ (decide_eq_false (fun hh=>bI (hh.1.2.2.2 hI)))
  ·skip
   simp +contextual only [↓jT,hod,qk,qg,qi,n14,qx,qv,hN,eq_false bN,↓XP,qm,XW1,qa,qb,qc,qd,qe,qf,reduceCtorEq]
   intros
   exact hk _ (decide_eq_false (fun hh=>bN (hh.1.2.1 hN)))
theorem v_4 {o : OpP} {b1 b4 : Nat} {F : List D} {H : AH} {R : D → AH → Prop} (n14 : b1 ≠ b4) (hF : Fr 169 [(1,.ptr b1 0),(3,.str (uses o.k)),(4,.ptr b4 0)] F) (h : R (.bool (decide (zy o ∧ z9 o ∧ uX o ∧ uK o ∧ vM o))) H) : xcode Tryz.prog x24_s4 F ((b4,AO.cells [.int .i64 0,.int .i64 0,.int .i64 0]) :: (b1,AO.cells o.d) :: H) (jN Tryz.prog [.tmp 2] H.length R) := by
 have hod : o.d = [.int .i64 o.k,.int .i64 o.on.o,.int .i64 o.on.s,.int .i64 o.on.i,.int .i64 o.to.o,.int .i64 o.to.s,.int .i64 o.to.i,.slc (qV o.ids),.int .i64 o.n,.str o.name,.str o.text,.int .i64 o.a,.int .i64 o.b] := rfl
 have hk : ∀ b,decide (zy o ∧ z9 o ∧ uX o ∧ uK o ∧ vM o) = b → R (.bool b) H := fun b hb=>hb ▸ h
 have go : zy o → ∀ F',Fr 169 [(1,.ptr b1 0),(3,.str (uses o.k)),(4,.ptr b4 0)] F' → xcode Tryz.prog x24_s3 F' ((b4,AO.cells [.int .i64 0,.int .i64 0,.int .i64 0]) :: (b1,AO.cells o.d) :: H) (jN Tryz.prog [.tmp 2] H.length R) := fun h4 F' hF'=>v_3 n14 hF' (hk _ (by simp only [h4,true_and]))
 obtain ⟨z,rfl⟩ : ∃ z : Nat → D,_ = z 0 :: .ptr b1 0 :: z 2 :: .str (uses o.k) :: .ptr b4 0 :: zz z 5 164 [] := hF.lit
 try dsimp only [zz,qb] at *
 clear hF h
 by_cases hu : uses o.k = []
 ·skip
  simp +contextual only [↓jO,hod,qk,qg,qi,n14,qx,qv,eq_true hu,↓XP,qm,XW1,qa,qb,qc,qd,qe,qf,reduceCtorEq]
  intros
  exact hk _ (decide_eq_false (fun hh=>hh.1.1 hu))
 ·skip
  simp +contextual only [↓jO,hod,qk,qg,qi,n14,qx,qv,eq_false hu,↓XP,qm,XW1,qa,qb,qc,qd,qe,qf,reduceCtorEq]
  intros
  intros
  refine Ye ?_
  by_cases hO : (79 : UInt8) ∈ uses o.k
  ·skip
   simp +contextual only [↓jO,hod,qk,qg,qi,n14,qx,qv,eq_false hu,hO,↓XP,qm,XW1,qa,qb,qc,qd,qe,qf,reduceCtorEq]
   intros
   refine Yp (x := o.on) ?_
   by_cases oO : jq o.on
   ·skip
    simp +contextual only [↓jO,hod,qk,qg,qi,n14,qx,qv,eq_false hu,hO,oO,↓XP,qm,XW1,qa,qb,qc,qd,qe,qf,reduceCtorEq]
    intros
    refine Ye ?_
    simp +contextual only [↓jO,hod,qk,qg,qi,n14,qx,qv,eq_false hu,hO,oO,↓XP,qm,XW1,qa,qb,qc,qd,qe,qf,reduceCtorEq]
    intros
    refine oU ?_
    by_cases hT : (84 : UInt8) ∈ uses o.k
    ·skip
     simp +contextual only [↓jO,hod,qk,qg,qi,n14,qx,qv,eq_false hu,hO,oO,hT,↓XP,qm,XW1,qa,qb,qc,qd,qe,qf,reduceCtorEq]
     intros
     refine Yp (x := o.to) ?_
     by_cases oT : jq o.to
     ·skip
      simp +contextual only [↓jO,hod,qk,qg,qi,n14,qx,qv,eq_false hu,hO,oO,hT,oT,↓XP,qm,XW1,qa,qb,qc,qd,qe,qf,reduceCtorEq]
      intros
      refine oU ?_
      simp +contextual only [↓jO,hod,qk,qg,qi,n14,qx,qv,eq_false hu,hO,oO,hT,oT,↓XP,qm,XW1,qa,qb,qc,qd,qe,qf,reduceCtorEq]
      intros
      simp only [← hod]
      exact go ⟨hu,fun _=>oO,fun hh=>(hh hO).elim,fun _=>oT,fun hh=>(hh hT).elim⟩ _ ⟨rfl,rfl,rfl,rfl,trivial⟩
     ·skip
      simp +contextual only [↓jO,hod,qk,qg,qi,n14,qx,qv,eq_false hu,hO,oO,hT,oT,↓XP,qm,XW1,qa,qb,qc,qd,qe,qf,reduceCtorEq]
      intros
      exact hk _ (decide_eq_false (fun hh=>oT (hh.1.2.2.2.1 hT)))
    ·skip
     simp +contextual only [↓jO,hod,qk,qg,qi,n14,qx,qv,eq_false hu,hO,oO,hT,↓XP,qm,XW1,qa,qb,qc,qd,qe,qf,reduceCtorEq]
     intros
     refine oU ?_
     by_cases bT : o.to = v9
     ·skip
      simp +contextual only [↓jO,hod,qk,qg,qi,n14,qx,qv,eq_false hu,hO,oO,hT,eq_true bT,↓XP,qm,XW1,qa,qb,qc,qd,qe,qf,reduceCtorEq]
      intros
      simp only [← hod]
      exact go ⟨hu,fun _=>oO,fun hh=>(hh hO).elim,fun hh=>(hT hh).elim,fun _=>bT⟩ _ ⟨rfl,rfl,rfl,rfl,trivial⟩
     ·skip
      simp +contextual only [↓jO,hod,qk,qg,qi,n14,qx,qv,eq_false hu,hO,oO,hT,eq_false bT,↓XP,qm,XW1,qa,qb,qc,qd,qe,qf,reduceCtorEq]
      intros
      exact hk _ (decide_eq_false (fun hh=>bT (hh.1.2.2.2.2 hT)))
   ·skip
    simp +contextual only [↓jO,hod,qk,qg,qi,n14,qx,qv,eq_false hu,hO,oO,↓XP,qm,XW1,qa,qb,qc,qd,qe,qf,reduceCtorEq]
    intros
    exact hk _ (decide_eq_false (fun hh=>oO (hh.1.2.1 hO)))
  ·skip
   simp +contextual only [↓jO,hod,qk,qg,qi,n14,qx,qv,eq_false hu,hO,↓XP,qm,XW1,qa,qb,qc,qd,qe,qf,reduceCtorEq]
   intros
   refine Ye ?_
   by_cases bO : o.on = v9
   ·skip
    simp +contextual only [↓jO,hod,qk,qg,qi,n14,qx,qv,eq_false hu,hO,eq_true bO,↓XP,qm,XW1,qa,qb,qc,qd,qe,qf,reduceCtorEq]
    intros
    refine oU ?_
    by_cases hT : (84 : UInt8) ∈ uses o.k
    ·skip
     simp +contextual only [↓jO,hod,qk,qg,qi,n14,qx,qv,eq_false hu,hO,eq_true bO,hT,↓XP,qm,XW1,qa,qb,qc,qd,qe,qf,reduceCtorEq]
     intros
     refine Yp (x := o.to) ?_
     by_cases oT : jq o.to
     ·skip
      simp +contextual only [↓jO,hod,qk,qg,qi,n14,qx,qv,eq_false hu,hO,eq_true bO,hT,oT,↓XP,qm,XW1,qa,qb,qc,qd,qe,qf,reduceCtorEq]
      intros
      refine oU ?_
      simp +contextual only [↓jO,hod,qk,qg,qi,n14,qx,qv,eq_false hu,hO,eq_true bO,hT,oT,↓XP,qm,XW1,qa,qb,qc,qd,qe,qf,reduceCtorEq]
      intros
      simp only [← hod]
      exact go ⟨hu,fun hh=>(hO hh).elim,fun _=>bO,fun _=>oT,fun hh=>(hh hT).elim⟩ _ ⟨rfl,rfl,rfl,rfl,trivial⟩
     ·skip
      simp +contextual only [↓jO,hod,qk,qg,qi,n14,qx,qv,eq_false hu,hO,eq_true bO,hT,oT,↓XP,qm,XW1,qa,qb,qc,qd,qe,qf,reduceCtorEq]
      intros
      exact hk _ (decide_eq_false (fun hh=>oT (hh.1.2.2.2.1 hT)))
    ·skip
     simp +contextual only [↓jO,hod,qk,qg,qi,n14,qx,qv,eq_false hu,hO,eq_true bO,hT,↓XP,qm,XW1,qa,qb,qc,qd,qe,qf,reduceCtorEq]
     intros
     refine oU ?_
     by_cases bT : o.to = v9
     ·skip
      simp +contextual only [↓jO,hod,qk,qg,qi,n14,qx,qv,eq_false hu,hO,eq_true bO,hT,eq_true bT,↓XP,qm,XW1,qa,qb,qc,qd,qe,qf,reduceCtorEq]
      intros
      simp only [← hod]
      exact go ⟨hu,fun hh=>(hO hh).elim,fun _=>bO,fun hh=>(hT hh).elim,fun _=>bT⟩ _ ⟨rfl,rfl,rfl,rfl,trivial⟩
     ·skip
      simp +contextual only [↓jO,hod,qk,qg,qi,n14,qx,qv,eq_false hu,hO,eq_true bO,hT,eq_false bT,↓XP,qm,XW1,qa,qb,qc,qd,qe,qf,reduceCtorEq]
      intros
      exact hk _ (decide_eq_false (fun hh=>bT (hh.1.2.2.2.2 hT)))
   ·skip
    simp +contextual only [↓jO,hod,qk,qg,qi,n14,qx,qv,eq_false hu,hO,eq_false bO,↓XP,qm,XW1,qa,qb,qc,qd,qe,qf,reduceCtorEq]
    intros
    exact hk _ (decide_eq_false (fun hh=>bO (hh.1.2.2.1 hO)))
theorem f_rOp {o : OpP} {H : AH} {R : D → AH → Prop} (h : R (.bool (decide (vi o))) H) : ACall Tryz.prog 24 [.agg o.d] H R := by
 refine b24 fun hf=>?_
 have hod : o.d = [.int .i64 o.k,.int .i64 o.on.o,.int .i64 o.on.s,.int .i64 o.on.i,.int .i64 o.to.o,.int .i64 o.to.s,.int .i64 o.to.i,.slc (qV o.ids),.int .i64 o.n,.str o.name,.str o.text,.int .i64 o.a,.int .i64 o.b] := rfl
 simp +contextual only [x24,↓Kx,hod,↓XP,qm,XW1,qa,qb,qc,qd,qe,qf,reduceCtorEq]
 intro b1 h1 _
 refine f_rUses ?_
 simp +contextual only [x24,↓Kx,hod,↓XP,qm,XW1,qa,qb,qc,qd,qe,qf,reduceCtorEq]
 intro _ b4 hb
 obtain ⟨n14,h4⟩ := hb
 simp only [← hod]
 exact v_4 n14 ⟨rfl,rfl,rfl,rfl,trivial⟩ h
end Go.Proofs.YtoeckfegggongaaGreatDoor
end
section
namespace Go.Proofs.YtoeckfegggongaaGreatDoor
open Go Go.Aw
def y8 (p : Pt) : Prop := 0 ≤ p.o ∧ p.o ≤ 7 ∧ 1 ≤ p.s ∧ p.s ≤ 16 ∧ 1 ≤ p.day ∧ p.day ≤ 1048576
instance (p : Pt) : Decidable (y8 p) := by unfold y8; exact inferInstance
def kM (p : Pt) (i : Nat) : Prop := 0 ≤ (p.needs.getD i default).o ∧ (p.needs.getD i default).o ≤ 7 ∧ (p.needs.getD i default).o ≠ p.o ∧ 1 ≤ (p.needs.getD i default).s ∧ (p.needs.getD i default).s ≤ 16 ∧ (0 < i → (p.needs.getD (i - 1) default).o < (p.needs.getD i default).o)
def wu (p : Pt) : Prop := ∀ i,i < p.needs.length → kM p i
def vR (p : Pt) : Prop := ∀ o ∈ p.ops,vi o
def bare (p : Pt) : Pt := { p with sl := [] }
open Classical in
noncomputable def jK (p : Pt) : Int :=
 if ¬ y8 p then 5 else if 8 < p.needs.length ∨ 16 < p.ops.length then 4 else if p.ops = [] then 1 else if ¬ wu p then 1 else if ¬ vR p then 1
 else if 6800 < (ji (bare p)).length then 4 else 0
theorem Ut {p : Pt} (h : Fit p) : Fit (bare p) := ⟨h.ops,h.needs,h.ids,h.name,h.text,by simp [bare]⟩
theorem Vn {p : Pt} {H : AH} {R : D → AH → Prop} (hp : Fit p) (h : R (.int .i64 (jK p)) H) : ACall Tryz.prog 8 [.agg p.d] H R := by
 refine b8 fun hf=>?_
 have hbig := qt
 have hd := @dE p
 have hk : ∀ b,jK p = b → R (.int .i64 b) H := fun b hb=>hb ▸ h
 clear h
 by_cases hh : ¬ y8 p
 ·have h5 := hk 5 (by unfold jK; rw [if_pos hh])
  simp +contextual only [x8,hd,ql,qj,qg,qi,↓U8,↓XP,qm,XW1,qa,qb,qc,qd,qe,qf,reduceCtorEq]
  intro b1 h1 _
  repeat' (first | apply And.intro | intro _)
  all_goals first
   | exact h5
   | (exfalso; unfold y8 at hh; omega)
 ·obtain ⟨e1,e2,e3,e4,e5,e6⟩ := Classical.not_not.1 hh
  clear hh
  have hh : y8 p := ⟨e1,e2,e3,e4,e5,e6⟩
  simp +contextual only [x8,hd,ql,qj,qg,qi,(eq_false (by omega) : (p.o < 0) = False),(eq_false (by omega) : (7 < p.o) = False),(eq_false (by omega) : (p.s < 1) = False),(eq_false (by omega) : (16 < p.s) = False),(eq_false (by omega) : (p.day < 1) = False),(eq_false (by omega) : (1048576 < p.day) = False),↓U8,↓XP,qm,XW1,qa,qb,qc,qd,qe,qf,reduceCtorEq]
  intro b1 h1
  intros
  have k4 : 8 < p.needs.length ∨ 16 < p.ops.length → R (.int .i64 4) H := fun hl=>hk 4 (by unfold jK; rw [if_neg (fun h=>h hh),if_pos hl])
  refine ⟨fun c=>k4 (by omega),fun c1 _=>⟨fun c=>k4 (by omega),fun c2=>⟨fun c=>hk 1 (by unfold jK; rw [if_neg (fun h=>h hh),if_neg (by omega),if_pos (List.eq_nil_of_length_eq_zero (by omega))]),fun c3=>?_⟩⟩⟩
  have hl : ¬ (8 < p.needs.length ∨ 16 < p.ops.length) := by omega
  have hne : p.ops ≠ [] := fun e=>c3 (by rw [e]; rfl)
  have hk2 : ∀ b,(open Classical in if ¬ wu p then (1 : Int) else if ¬ vR p then 1 else if 6800 < (ji (bare p)).length then 4 else 0) = b → R (.int .i64 b) H := fun b hb=>hk b (by
   unfold jK
   rw [if_neg (fun h=>h hh),if_neg hl,if_neg hne]
   exact hb)
  clear hk k4
  simp only [← hd]
  refine XW.loopK Go.Proofs.YtoeckfegggongaaGreatDoor.hm (fun F H'=>∃ (i : Nat),i ≤ p.needs.length ∧ (∀ j,j < i → kM p j) ∧ Fr 120 [(1,.ptr b1 0),(3,.int .i64 i)] F ∧ ((b1,AO.cells p.d) :: H) = H') (fun F H=>match F.getD 3 .any with | .int _ n'=>p.needs.length - n'.toNat | _=>0) ⟨0,by omega,by omega,⟨rfl,rfl,rfl,trivial⟩,rfl⟩ ?_
  rintro _ _ ⟨i,hi,hv,hF,rfl⟩ K hN hE hR
  obtain ⟨z,rfl⟩ : ∃ z : Nat → D,_ = z 0 :: .ptr b1 0 :: z 2 :: .int .i64 i :: zz z 4 116 [] := hF.lit
  try dsimp only [zz,qb] at *
  clear hF
  by_cases hlt : i < p.needs.length
  ·have nx : kM p i → ∀ F' H',back ((b1,AO.cells p.d) :: H).length H' = ((b1,AO.cells p.d) :: H) → Fr 120 [(1,.ptr b1 0),(3,.int .i64 ((i + 1 : Nat) : Int))] F' → K .normal F' H' := fun h1 F' H' hH hF'=>hN _ _ ⟨i + 1,hlt,fun j hj=>by
     by_cases e : j = i
     ·rw [e]; exact h1
     ·exact hv j (by omega),hF',hH.symm⟩ (by
    rw [List.getD_eq_getElem?_getD,hF'.2.2.1]
    simp only [List.getD_cons_succ,List.getD_cons_zero,Option.getD_some]
    omega)
   have hno : ¬ kM p i → R (.int .i64 1) H := fun h1=>hk2 1 (by rw [if_pos (fun h=>h1 (h i hlt))])
   clear hN hE
   have q1 := yZ hlt
   have q0 : 0 < i → (qO p.needs).getD (i - 1) [] = (p.needs.getD (i - 1) default).d := fun h=>yZ (by omega)
   unfold kM at nx hno
   generalize p.needs.getD i default = r at q1 nx hno
   generalize p.needs.getD (i - 1) default = t at q0 nx hno
   have hr : r.d = [.int .i64 r.o,.int .i64 r.s] := rfl
   have ht : t.d = [.int .i64 t.o,.int .i64 t.s] := rfl
   have w1 : 0 < i → IntKind.i64.wrap ((i : Int) - 1) = ((i - 1 : Nat) : Int) := fun h=>by rw [qw (by omega) (by omega)]; omega
   have hrr : ¬ (0 ≤ r.o ∧ r.o ≤ 7 ∧ r.o ≠ p.o ∧ 1 ≤ r.s ∧ r.s ≤ 16 ∧ (0 < i → t.o < r.o)) → ∀ F' H',(jN Tryz.prog [.tmp 2] H.length R) .ret F' H' → K .ret F' H' := fun _ F' H' h=>hR _ _ h
   by_cases c1 : r.o < 0
   ·simp +contextual only [x8,hd,ql,qj,qg,qi,q1,hr,qp (show i ≤ big by omega),(eq_true c1),↓U8,↓XP,qm,XW1,qa,qb,qc,qd,qe,qf,reduceCtorEq]
    refine fun _=>⟨fun _ b4 hb _=>?_,fun hge=>absurd (by omega) hge⟩
    intros
    refine hR _ _ ?_
    simp +contextual only [x8,hd,ql,qj,qg,qi,↓U8,↓XP,qm,XW1,qa,qb,qc,qd,qe,qf,reduceCtorEq]
    exact hno (by omega)
   by_cases c2 : 7 < r.o
   ·simp +contextual only [x8,hd,ql,qj,qg,qi,q1,hr,qp (show i ≤ big by omega),(eq_false c1),(eq_true c2),↓U8,↓XP,qm,XW1,qa,qb,qc,qd,qe,qf,reduceCtorEq]
    refine fun _=>⟨fun _ b4 hb=>?_,fun hge=>absurd (by omega) hge⟩
    intros
    refine hR _ _ ?_
    simp +contextual only [x8,hd,ql,qj,qg,qi,↓U8,↓XP,qm,XW1,qa,qb,qc,qd,qe,qf,reduceCtorEq]
    exact hno (by omega)
   by_cases c3 : r.o = p.o
   ·simp +contextual only [x8,hd,ql,qj,qg,qi,q1,hr,qp (show i ≤ big by omega),(eq_false c1),(eq_false c2),(eq_true c3),↓U8,↓XP,qm,XW1,qa,qb,qc,qd,qe,qf,reduceCtorEq]
    refine fun _=>⟨fun _ b4 hb=>?_,fun hge=>absurd (by omega) hge⟩
    intros
    refine hR _ _ ?_
    simp +contextual only [x8,hd,ql,qj,qg,qi,↓U8,↓XP,qm,XW1,qa,qb,qc,qd,qe,qf,reduceCtorEq]
    exact hno (by omega)
   by_cases c4 : r.s < 1
   ·simp +contextual only [x8,hd,ql,qj,qg,qi,q1,hr,qp (show i ≤ big by omega),(eq_false c1),(eq_false c2),(eq_false c3),(eq_true c4),↓U8,↓XP,qm,XW1,qa,qb,qc,qd,qe,qf,reduceCtorEq]
    refine fun _=>⟨fun _ b4 hb=>?_,fun hge=>absurd (by omega) hge⟩
    intros
    refine hR _ _ ?_
    simp +contextual only [x8,hd,ql,qj,qg,qi,↓U8,↓XP,qm,XW1,qa,qb,qc,qd,qe,qf,reduceCtorEq]
    exact hno (by omega)
   by_cases c5 : 16 < r.s
   ·simp +contextual only [x8,hd,ql,qj,qg,qi,q1,hr,qp (show i ≤ big by omega),(eq_false c1),(eq_false c2),(eq_false c3),(eq_false c4),(eq_true c5),↓U8,↓XP,qm,XW1,qa,qb,qc,qd,qe,qf,reduceCtorEq]
    refine fun _=>⟨fun _ b4 hb=>?_,fun hge=>absurd (by omega) hge⟩
    intros
    refine hR _ _ ?_
    simp +contextual only [x8,hd,ql,qj,qg,qi,↓U8,↓XP,qm,XW1,qa,qb,qc,qd,qe,qf,reduceCtorEq]
    exact hno (by omega)
   by_cases hi0 : 0 < i
   ·have q0' := q0 hi0
    have w1' := w1 hi0
    by_cases c6 : r.o ≤ t.o
    ·simp +contextual only [x8,hd,ql,qj,qg,qi,q1,hr,qp (show i ≤ big by omega),(eq_false c1),(eq_false c2),(eq_false c3),(eq_false c4),(eq_false c5),q0',ht,w1',(eq_true (by omega) : ((0 : Int) < (i : Int)) = True),(eq_true c6),↓U8,↓XP,qm,XW1,qa,qb,qc,qd,qe,qf,reduceCtorEq]
     refine fun _=>⟨fun _ b4 hb=>?_,fun hge=>absurd (by omega) hge⟩
     obtain ⟨n14,h4⟩ := hb
     intros
     refine ⟨by omega,fun _=>hR _ _ ?_⟩
     simp +contextual only [x8,hd,ql,qj,qg,qi,↓U8,↓XP,qm,XW1,qa,qb,qc,qd,qe,qf,reduceCtorEq]
     exact hno (by omega)
    ·simp +contextual only [x8,hd,ql,qj,qg,qi,q1,hr,qp (show i ≤ big by omega),(eq_false c1),(eq_false c2),(eq_false c3),(eq_false c4),(eq_false c5),q0',ht,w1',(eq_true (by omega) : ((0 : Int) < (i : Int)) = True),(eq_false c6),↓U8,↓XP,qm,XW1,qa,qb,qc,qd,qe,qf,reduceCtorEq]
     refine fun _=>⟨fun _ b4 hb=>?_,fun hge=>absurd (by omega) hge⟩
     obtain ⟨n14,h4⟩ := hb
     intros
     exact ⟨by omega,fun _=>nx (by omega) _ _ (yB rfl) ⟨rfl,rfl,rfl,trivial⟩⟩
   ·simp +contextual only [x8,hd,ql,qj,qg,qi,q1,hr,qp (show i ≤ big by omega),(eq_false c1),(eq_false c2),(eq_false c3),(eq_false c4),(eq_false c5),(eq_false (by omega) : ((0 : Int) < (i : Int)) = False),↓U8,↓XP,qm,XW1,qa,qb,qc,qd,qe,qf,reduceCtorEq]
    refine fun _=>⟨fun _ b4 hb=>?_,fun hge=>absurd (by omega) hge⟩
    intros
    exact nx (by omega) _ _ (yB rfl) ⟨rfl,rfl,rfl,trivial⟩
  ·have hik : i = p.needs.length := by omega
   subst hik
   clear hN
   have hon : wu p := hv
   have hk3 : ∀ b,(open Classical in if ¬ vR p then (1 : Int) else if 6800 < (ji (bare p)).length then 4 else 0) = b → R (.int .i64 b) H := fun b hb=>hk2 b (by rw [if_neg (fun h=>h hon)]; exact hb)
   clear hk2 hv
   simp +contextual only [x8,hd,ql,qj,qg,qi,↓U8,↓XP,qm,XW1,qa,qb,qc,qd,qe,qf,reduceCtorEq]
   refine fun _=>hE _ _ _ ?_
   clear hE hR
   simp +contextual only [x8,hd,ql,qj,qg,qi,↓U8,↓XP,qm,XW1,qa,qb,qc,qd,qe,qf,reduceCtorEq]
   simp only [← hd]
   refine XW.loopK Go.Proofs.YtoeckfegggongaaGreatDoor.hm (fun F H'=>∃ (i : Nat),i ≤ p.ops.length ∧ (∀ o ∈ p.ops.take i,vi o) ∧ Fr 120 [(1,.ptr b1 0),(5,.int .i64 i)] F ∧ ((b1,AO.cells p.d) :: H) = H') (fun F H=>match F.getD 5 .any with | .int _ n'=>p.ops.length - n'.toNat | _=>0) ⟨0,by omega,by simp,⟨rfl,rfl,rfl,trivial⟩,rfl⟩ ?_
   rintro _ _ ⟨i,hi,hv,hF,rfl⟩ K hN hE hR
   obtain ⟨z,rfl⟩ : ∃ z : Nat → D,_ = z 0 :: .ptr b1 0 :: zz z 2 3 (.int .i64 i :: zz z 6 114 []) := hF.lit
   try dsimp only [zz,qb] at *
   clear hF
   by_cases hlt : i < p.ops.length
   ·have nx : vi (p.ops.getD i default) → ∀ F',Fr 120 [(1,.ptr b1 0),(5,.int .i64 ((i + 1 : Nat) : Int))] F' → K .normal F' ((b1,AO.cells p.d) :: H) := fun h1 F' hF'=>hN _ _ ⟨i + 1,hlt,fun o ho=>by
      rw [List.take_add_one] at ho
      rcases List.mem_append.1 ho with ho | ho
      ·exact hv o ho
      ·simp [hlt] at ho
       have : o = p.ops.getD i default := by simp [hlt,ho]
       rw [this]; exact h1,hF',(j9 rfl).symm⟩ (by
     rw [List.getD_eq_getElem?_getD,hF'.2.2.1]
     simp only [List.getD_cons_succ,List.getD_cons_zero,Option.getD_some]
     omega)
    have hm : p.ops.getD i default ∈ p.ops := by rw [jk hlt]; exact List.getElem_mem hlt
    have hno : ¬ vi (p.ops.getD i default) → R (.int .i64 1) H := fun h1=>hk3 1 (by rw [if_pos (fun h=>h1 (h _ hm))])
    clear hN hE hk3
    have q1 := kB hlt
    generalize p.ops.getD i default = o at q1 nx hno
    have hod : o.d = [.int .i64 o.k,.int .i64 o.on.o,.int .i64 o.on.s,.int .i64 o.on.i,.int .i64 o.to.o,.int .i64 o.to.s,.int .i64 o.to.i,.slc (qV o.ids),.int .i64 o.n,.str o.name,.str o.text,.int .i64 o.a,.int .i64 o.b] := rfl
    simp +contextual only [x8,hd,ql,qj,qg,qi,q1,hod,↓U8,↓XP,qm,XW1,qa,qb,qc,qd,qe,qf,reduceCtorEq]
    refine fun _=>⟨fun _=>f_rOp (o := o) ?_,fun hge=>absurd (by omega) hge⟩
    by_cases ho : vi o
    ·simp +contextual only [x8,hd,ql,qj,qg,qi,ho,qp (show i ≤ big by omega),↓U8,↓XP,qm,XW1,qa,qb,qc,qd,qe,qf,reduceCtorEq]
     simp only [← hd]
     exact nx ho _ ⟨rfl,rfl,rfl,trivial⟩
    ·simp +contextual only [x8,hd,ql,qj,qg,qi,ho,↓U8,↓XP,qm,XW1,qa,qb,qc,qd,qe,qf,reduceCtorEq]
     refine hR _ _ ?_
     simp +contextual only [x8,hd,ql,qj,qg,qi,↓U8,↓XP,qm,XW1,qa,qb,qc,qd,qe,qf,reduceCtorEq]
     exact hno ho
   ·have hik : i = p.ops.length := by omega
    subst hik
    clear hN
    rw [List.take_length] at hv
    have hoo : vR p := hv
    simp +contextual only [x8,hd,ql,qj,qg,qi,↓U8,↓XP,qm,XW1,qa,qb,qc,qd,qe,qf,reduceCtorEq]
    refine fun _=>hE _ _ _ ?_
    clear hE hR
    have hbd : (bare p).d = [.int .i64 p.o,.int .i64 p.s,.int .i64 p.day,.slc (qO p.needs),.slc (qM p.ops),.str []] := rfl
    simp +contextual only [x8,hd,ql,qj,qg,qi,↓U8,↓XP,qm,XW1,qa,qb,qc,qd,qe,qf,reduceCtorEq]
    refine Ji (p := bare p) (Ut hp) fun _=>?_
    by_cases h68 : 6800 < (ji (bare p)).length
    ·simp +contextual only [x8,hd,ql,qj,qg,qi,qh,(eq_true (by omega) : ((6800 : Int) < ((ji (bare p)).length : Int)) = True),↓U8,↓XP,qm,XW1,qa,qb,qc,qd,qe,qf,reduceCtorEq]
     exact fun _=>hk3 4 (by rw [if_neg (fun h=>h hoo),if_pos h68])
    ·simp +contextual only [x8,hd,ql,qj,qg,qi,qh,(eq_false (by omega) : ((6800 : Int) < ((ji (bare p)).length : Int)) = False),↓U8,↓XP,qm,XW1,qa,qb,qc,qd,qe,qf,reduceCtorEq]
     exact fun _=>hk3 0 (by rw [if_neg (fun h=>h hoo),if_neg h68])
end Go.Proofs.YtoeckfegggongaaGreatDoor
end
section
namespace Go.Proofs.YtoeckfegggongaaGreatDoor
open Go Go.Aw
theorem yw {n low high : Int} {H : AH} {R : D → AH → Prop} (h : R (.bool (decide (low ≤ n ∧ n ≤ high))) H) : ACall Tryz.prog 21 [.int .i64 n,.int .i64 low,.int .i64 high] H R := by
 refine b21 fun hf=>?_
 have hk : ∀ c,decide (low ≤ n ∧ n ≤ high) = c → R (.bool c) H := fun b hb=>hb ▸ h
 simp +contextual only [x21,↓u21_s0,↓XP,qm,XW1,qa,qb,qc,qd,qe,qf,reduceCtorEq]
 repeat' (first | apply And.intro | intro _)
 all_goals first
  | exact hk _ (decide_eq_true (by omega))
  | exact hk _ (decide_eq_false (by omega))
  | exact hk _ (decide_eq_decide.2 (by omega))
  | skip
def yI (o s : Int) : Prop := 0 ≤ o ∧ o ≤ 7 ∧ 1 ≤ s ∧ s ≤ 16
instance (o s : Int) : Decidable (yI o s) := by unfold yI; exact inferInstance
theorem uA {o s : Int} {H : AH} {R : D → AH → Prop} (h : R (.bool (decide (yI o s))) H) : ACall Tryz.prog 20 [.int .i64 o,.int .i64 s] H R := by
 refine b20 fun hf=>?_
 have hk : ∀ c,decide (yI o s) = c → R (.bool c) H := fun b hb=>hb ▸ h
 simp +contextual only [x20,↓J7,↓XP,qm,XW1,qa,qb,qc,qd,qe,qf,reduceCtorEq]
 refine yw ?_
 by_cases h1 : 0 ≤ o ∧ o ≤ 7
 ·simp +contextual only [x20,eq_true h1,↓J7,↓XP,qm,XW1,qa,qb,qc,qd,qe,qf,reduceCtorEq]
  refine yw ?_
  simp +contextual only [x20,↓J7,↓XP,qm,XW1,qa,qb,qc,qd,qe,qf,reduceCtorEq]
  exact hk _ (decide_eq_decide.2 (by unfold yI; omega))
 ·simp +contextual only [x20,eq_false h1,↓J7,↓XP,qm,XW1,qa,qb,qc,qd,qe,qf,reduceCtorEq]
  exact hk _ (decide_eq_false (by unfold yI; omega))
theorem Yj {x : Id3} {H : AH} {R : D → AH → Prop} (h : R (.bool (decide (jq x))) H) : ACall Tryz.prog 47 [.agg x.d] H R := by
 refine b47 fun hf=>?_
 have hd : x.d = [.int .i64 x.o,.int .i64 x.s,.int .i64 x.i] := rfl
 have hk : ∀ b,decide (jq x) = b → R (.bool b) H := fun b hb=>hb ▸ h
 simp +contextual only [x47,hd,↓QY,↓XP,qm,XW1,qa,qb,qc,qd,qe,qf,reduceCtorEq]
 refine fun b1 h1 _ _=>uA ?_
 by_cases h1 : yI x.o x.s
 ·simp +contextual only [x47,hd,eq_true h1,↓QY,↓XP,qm,XW1,qa,qb,qc,qd,qe,qf,reduceCtorEq]
  refine fun _=>yw ?_
  simp +contextual only [x47,hd,↓QY,↓XP,qm,XW1,qa,qb,qc,qd,qe,qf,reduceCtorEq]
  exact hk _ (decide_eq_decide.2 (by unfold yI at h1; unfold jq; omega))
 ·simp +contextual only [x47,hd,eq_false h1,↓QY,↓XP,qm,XW1,qa,qb,qc,qd,qe,qf,reduceCtorEq]
  exact hk _ (decide_eq_false (by unfold yI at h1; unfold jq; omega))
theorem f_cSpan {a b : Int} {H : AH} {R : D → AH → Prop} (h : R (.bool (decide (kA a b))) H) : ACall Tryz.prog 48 [.agg [.int .i64 a,.int .i64 b]] H R := by
 refine b48 fun hf=>?_
 have hk : ∀ c,decide (kA a b) = c → R (.bool c) H := fun b hb=>hb ▸ h
 simp +contextual only [x48,↓u48_s0,↓XP,qm,XW1,qa,qb,qc,qd,qe,qf,reduceCtorEq]
 intro b1 h1
 repeat' (first | apply And.intro | intro _)
 all_goals first
  | exact hk _ (decide_eq_true (by unfold kA; omega))
  | exact hk _ (decide_eq_false (by unfold kA; omega))
  | exact hk _ (decide_eq_decide.2 (by unfold kA; omega))
  | skip
end Go.Proofs.YtoeckfegggongaaGreatDoor
end
section
namespace Go.Proofs.YtoeckfegggongaaGreatDoor
open Go Go.Aw
theorem f_index {l : List Id3} {x : Id3} {H : AH} {R : D → AH → Prop} (h : ∀ k : Int,(0 ≤ k ↔ x ∈ l) → R (.int .i64 k) H) : ACall Tryz.prog 76 [.slc (qV l),.agg x.d] H R := by
 refine b76 fun hf=>?_
 have hbig := qt
 have hlen : (qV l).length ≤ big := hf.1
 rw [qk] at hlen
 have hxd : x.d = [.int .i64 x.o,.int .i64 x.s,.int .i64 x.i] := rfl
 simp +contextual only [x76,qk,hxd,↓U76,↓XP,qm,XW1,qa,qb,qc,qd,qe,qf,reduceCtorEq]
 intro b1 h1
 simp only [← hxd]
 refine fun _=>XW.loopK Go.Proofs.YtoeckfegggongaaGreatDoor.hm (fun F H'=>∃ (i : Nat),i ≤ l.length ∧ x ∉ l.take i ∧ Fr 19 [(0,.slc (qV l)),(3,.ptr b1 0),(7,.int .i64 l.length),(8,.int .i64 i)] F ∧ ((b1,AO.cells x.d) :: H) = H') (fun F H=>match F.getD 8 .any with | .int _ n'=>l.length - n'.toNat | _=>0) ⟨0,by omega,by simp,⟨rfl,rfl,rfl,rfl,rfl,trivial⟩,rfl⟩ ?_
 rintro _ _ ⟨i,hi,hn,hF,rfl⟩ K hN hE hR
 obtain ⟨z,rfl⟩ : ∃ z : Nat → D,_ = .slc (qV l) :: zz z 1 2 (.ptr b1 0 :: zz z 4 3 (.int .i64 l.length :: .int .i64 i :: zz z 9 10 [])) := hF.lit
 try dsimp only [zz,qb] at *
 clear hF
 by_cases hlt : i < l.length
 ·have nx : x ∉ l.take (i + 1) → ∀ F',Fr 19 [(0,.slc (qV l)),(3,.ptr b1 0),(7,.int .i64 l.length),(8,.int .i64 ((i + 1 : Nat) : Int))] F' → K .normal F' ((b1,AO.cells x.d) :: H) := fun hn F' hF'=>hN _ _ ⟨i + 1,hlt,hn,hF',(j9 rfl).symm⟩ (by
   rw [List.getD_eq_getElem?_getD,hF'.2.2.2.2.1]
   simp only [List.getD_cons_succ,List.getD_cons_zero,Option.getD_some]
   omega)
  clear hN hE
  have q1 := kX hlt
  have hm : l.getD i default ∈ l := by rw [jk hlt]; exact List.getElem_mem hlt
  have hnt : x ≠ l.getD i default → x ∉ l.take (i + 1) := fun hne hm=>by
   rw [List.take_add_one] at hm
   rcases List.mem_append.1 hm with hm | hm
   ·exact hn hm
   ·simp [hlt] at hm
    exact hne (by simp [hlt,hm])
  generalize l.getD i default = y at q1 hm hnt
  have hyd : y.d = [.int .i64 y.o,.int .i64 y.s,.int .i64 y.i] := rfl
  have hdy : (decide (x.o = y.o) && (decide (x.s = y.s) && decide (x.i = y.i))) = decide (x = y) := by
   cases x; cases y; simp
  have hlt' : ((i : Int) < (l.length : Int)) = True := eq_true (by omega)
  by_cases hxy : x = y
  ·simp +contextual only [x76,qk,q1,hxd,hyd,hdy,eq_true hxy,hlt',↓U76,↓XP,qm,XW1,qa,qb,qc,qd,qe,qf,reduceCtorEq]
   refine hR _ _ ?_
   simp +contextual only [x76,qk,↓U76,↓XP,qm,XW1,qa,qb,qc,qd,qe,qf,reduceCtorEq]
   exact h _ ⟨fun _=>hxy ▸ hm,fun _=>by omega⟩
  ·simp +contextual only [x76,qk,q1,hxd,hyd,hdy,eq_false hxy,hlt',qp (show i ≤ big by omega),↓U76,↓XP,qm,XW1,qa,qb,qc,qd,qe,qf,reduceCtorEq]
   simp only [← hxd]
   exact nx (hnt hxy) _ ⟨rfl,rfl,rfl,rfl,rfl,trivial⟩
 ·have hik : i = l.length := by omega
  subst hik
  clear hN
  rw [List.take_length] at hn
  simp +contextual only [x76,qk,↓U76,↓XP,qm,XW1,qa,qb,qc,qd,qe,qf,reduceCtorEq]
  refine hE _ _ _ ?_
  simp +contextual only [x76,qk,↓U76,↓XP,qm,XW1,qa,qb,qc,qd,qe,qf,reduceCtorEq]
  exact h _ ⟨fun h=>by omega,fun h=>(hn h).elim⟩
theorem KU {l : List Id3} {x : Id3} {H : AH} {R : D → AH → Prop} (h : R (.bool (decide (x ∈ l))) H) : ACall Tryz.prog 49 [.slc (qV l),.agg x.d] H R := by
 refine b49 fun hf=>?_
 have hxd : x.d = [.int .i64 x.o,.int .i64 x.s,.int .i64 x.i] := rfl
 have hk : ∀ b,decide (x ∈ l) = b → R (.bool b) H := fun b hb=>hb ▸ h
 simp +contextual only [x49,hxd,↓Ua,↓XP,qm,XW1,qa,qb,qc,qd,qe,qf,reduceCtorEq]
 simp only [← hxd]
 refine fun b1 h1=>f_index fun k hkk=>?_
 simp +contextual only [x49,hxd,↓Ua,↓XP,qm,XW1,qa,qb,qc,qd,qe,qf,reduceCtorEq]
 exact fun _=>hk _ (decide_eq_decide.2 hkk.symm)
structure Shp where
 on : Bool
 to : Bool
 name : Bool
 text : Bool
 span : Bool
 low : Int
 high : Int
 a : Int
 b : Int
def Shp.d (s : Shp) : List D := [.bool s.on,.bool s.to,.bool s.name,.bool s.text,.bool s.span,.int .i64 s.low,.int .i64 s.high,.int .i64 s.a,.int .i64 s.b]
def vt : Shp := ⟨false,false,false,false,false,0,0,0,0⟩
def shp (k n : Int) : Shp :=
 if k = 1 then { vt with name := true,text := true } else if k = 3 then { vt with name := true,text := true,span := true }
 else if k = 4 then { vt with on := true,to := true,text := true,high := 1048576 } else if k = 2 ∨ k = 8 ∨ k = 10 then { vt with on := true,high := 1048576 }
 else if k = 5 ∨ k = 7 then { vt with on := true,text := true } else if k = 6 then { vt with on := true,name := true } else if k = 9 then { vt with on := true,high := 1 }
 else if k = 11 then { vt with on := true,span := true } else if k = 12 then { vt with on := true,name := true,text := true } else if k = 13 then { vt with on := true,to := true,high := 1023 }
 else if k = 14 then { vt with on := true,name := true,high := 1 } else if k = 15 then { vt with on := true,to := true,high := 1 }
 else if k = 16 then { vt with on := true,low := -1,high := n - 1,a := 2,b := 4 } else if k = 17 then { vt with on := true,to := true }
 else if k = 18 then { vt with on := true,to := true,a := 1,b := 1 } else vt
theorem Wu {o : OpP} {H : AH} {R : D → AH → Prop} (h : R (.tup [.agg (shp o.k o.ids.length).d,.bool (decide (1 ≤ o.k ∧ o.k ≤ 18))]) H) : ACall Tryz.prog 46 [.agg o.d] H R := by
 refine b46 fun hf=>?_
 have hbig := qt
 have hod : o.d = [.int .i64 o.k,.int .i64 o.on.o,.int .i64 o.on.s,.int .i64 o.on.i,.int .i64 o.to.o,.int .i64 o.to.s,.int .i64 o.to.i,.slc (qV o.ids),.int .i64 o.n,.str o.name,.str o.text,.int .i64 o.a,.int .i64 o.b] := rfl
 have hk : ∀ on to name text span low high a b c,shp o.k o.ids.length = ⟨on,to,name,text,span,low,high,a,b⟩ → decide (1 ≤ o.k ∧ o.k ≤ 18) = c → R (.tup [.agg [.bool on,.bool to,.bool name,.bool text,.bool span,.int .i64 low,.int .i64 high,.int .i64 a,.int .i64 b],.bool c]) H := fun on to name text span low high a b c hs hc=>by
  rw [hs,hc] at h; exact h
 have w1 : o.ids.length ≤ big → IntKind.i64.wrap ((o.ids.length : Int) - 1) = (o.ids.length : Int) - 1 := fun h=>qw (by omega) (by omega)
 clear h
 simp +contextual only [x46,qk,hod,↓U46,↓XP,qm,XW1,qa,qb,qc,qd,qe,qf,reduceCtorEq]
 clear hf hbig hod
 intro b1 h1 b2 h2 b3 h3
 have hno : ∀ x y,qK ((b2,x) :: (b1,y) :: H) b3 = none := fun x y=>jh (H := (b2,x) :: (b1,y) :: H) ⟨Ne.symm h3.1,Ne.symm h3.2.1,h3.2.2⟩
 repeat' (first | apply And.intro | intro _)
 all_goals first
  | exact hno _ _
  | omega
  | exact hk _ _ _ _ _ _ _ _ _ _ (by simp [shp,vt, *]) (decide_eq_true (by omega))
  | exact hk _ _ _ _ _ _ _ _ _ _ (by simp [shp,vt, *]) (decide_eq_false (by omega))
  | skip
end Go.Proofs.YtoeckfegggongaaGreatDoor
end
section
namespace Go.Proofs.YtoeckfegggongaaGreatDoor
open Go Go.Aw
def I1 (s : Shp) (o : OpP) : Prop := (s.low ≤ o.n ∧ o.n ≤ s.high) ∧ (s.a ≤ o.ids.length ∧ o.ids.length ≤ s.b) ∧ o.text.length ≤ 1024
def I2 (s : Shp) (o : OpP) : Prop := (s.name = true ↔ 1 ≤ o.name.length ∧ o.name.length ≤ 16) ∧ (s.name = false → o.name = []) ∧ (s.text = false → o.text = [])
def I3 (s : Shp) (o : OpP) : Prop := (s.on = true ↔ o.on ≠ v9) ∧ (s.to = true ↔ o.to ≠ v9) ∧ (s.span = true ↔ ¬ (o.a = 0 ∧ o.b = 0))
def I4 (s : Shp) (o : OpP) : Prop := (s.on = true → jq o.on) ∧ (s.to = true → jq o.to) ∧ (s.span = true → kA o.a o.b)
def I5 (o : OpP) : Prop := (∀ x ∈ o.ids,jq x ∧ (o.k = 16 → x ≠ o.on)) ∧ o.ids.Nodup
def VI (o : OpP) : Prop := (1 ≤ o.k ∧ o.k ≤ 18) ∧ I1 (shp o.k o.ids.length) o ∧ I2 (shp o.k o.ids.length) o ∧ I3 (shp o.k o.ids.length) o ∧ I4 (shp o.k o.ids.length) o ∧ I5 o ∧ vM o
theorem vi_8 {o : OpP} {b1 b3 : Nat} {on to name text span : Bool} {low high a b : Int} {F : List D} {H : AH} {R : D → AH → Prop} (n13 : b1 ≠ b3) (hF : Fr 165 [(1,.ptr b1 0),(3,.ptr b3 0),(4,.bool true)] F) (kF : ¬ I1 (Shp.mk on to name text span low high a b) o → R (.bool false) H) (go : I1 (Shp.mk on to name text span low high a b) o → ∀ F',Fr 165 [(1,.ptr b1 0),(3,.ptr b3 0)] F' → xcode Tryz.prog x22_s7 F' ((b3,AO.cells [.bool on,.bool to,.bool name,.bool text,.bool span,.int .i64 low,.int .i64 high,.int .i64 a,.int .i64 b]) :: (b1,AO.cells o.d) :: H) (jN Tryz.prog [.tmp 2] H.length R)) : xcode Tryz.prog x22_s8 F ((b3,AO.cells [.bool on,.bool to,.bool name,.bool text,.bool span,.int .i64 low,.int .i64 high,.int .i64 a,.int .i64 b]) :: (b1,AO.cells o.d) :: H) (jN Tryz.prog [.tmp 2] H.length R) := by
 have hbig := qt
 have hod : o.d = [.int .i64 o.k,.int .i64 o.on.o,.int .i64 o.on.s,.int .i64 o.on.i,.int .i64 o.to.o,.int .i64 o.to.s,.int .i64 o.to.i,.slc (qV o.ids),.int .i64 o.n,.str o.name,.str o.text,.int .i64 o.a,.int .i64 o.b] := rfl
 obtain ⟨z,rfl⟩ : ∃ z : Nat → D,_ = z 0 :: .ptr b1 0 :: z 2 :: .ptr b3 0 :: .bool true :: zz z 5 160 [] := hF.lit
 try dsimp only [zz,qb] at *
 clear hF
 all_goals simp +contextual only [↓Y7,hod,qk,qg,qi,n13,qx,qv,Int.reduceToNat,Bool.true_beq,Bool.false_beq,Bool.not_not,↓XP,qm,XW1,qa,qb,qc,qd,qe,qf,reduceCtorEq]
 all_goals repeat' (first | (refine yw ?_; simp +contextual only [↓Y7,hod,qk,qg,qi,n13,qx,qv,Int.reduceToNat,Bool.true_beq,Bool.false_beq,Bool.not_not,↓XP,qm,XW1,qa,qb,qc,qd,qe,qf,reduceCtorEq]) | intro _ | with_reducible apply And.intro)
 all_goals (try simp only [← hod])
 all_goals first
  | omega
  | exact kF (fun hh=>by simp only [I1] at hh; omega)
  | exact go ⟨by omega,by omega,by omega⟩ _ ⟨rfl,rfl,rfl,trivial⟩
  | skip
theorem vi_7 {o : OpP} {b1 b3 : Nat} {on to name text span : Bool} {low high a b : Int} {F : List D} {H : AH} {R : D → AH → Prop} (n13 : b1 ≠ b3) (hF : Fr 165 [(1,.ptr b1 0),(3,.ptr b3 0)] F) (kF : ¬ I2 (Shp.mk on to name text span low high a b) o → R (.bool false) H) (go : I2 (Shp.mk on to name text span low high a b) o → ∀ F',Fr 165 [(1,.ptr b1 0),(3,.ptr b3 0)] F' → xcode Tryz.prog x22_s6 F' ((b3,AO.cells [.bool on,.bool to,.bool name,.bool text,.bool span,.int .i64 low,.int .i64 high,.int .i64 a,.int .i64 b]) :: (b1,AO.cells o.d) :: H) (jN Tryz.prog [.tmp 2] H.length R)) : xcode Tryz.prog x22_s7 F ((b3,AO.cells [.bool on,.bool to,.bool name,.bool text,.bool span,.int .i64 low,.int .i64 high,.int .i64 a,.int .i64 b]) :: (b1,AO.cells o.d) :: H) (jN Tryz.prog [.tmp 2] H.length R) := by
 have hbig := qt
 have hod : o.d = [.int .i64 o.k,.int .i64 o.on.o,.int .i64 o.on.s,.int .i64 o.on.i,.int .i64 o.to.o,.int .i64 o.to.s,.int .i64 o.to.i,.slc (qV o.ids),.int .i64 o.n,.str o.name,.str o.text,.int .i64 o.a,.int .i64 o.b] := rfl
 obtain ⟨z,rfl⟩ : ∃ z : Nat → D,_ = z 0 :: .ptr b1 0 :: z 2 :: .ptr b3 0 :: zz z 4 161 [] := hF.lit
 try dsimp only [zz,qb] at *
 clear hF
 all_goals cases name
 all_goals cases text
 all_goals simp +contextual only [↓Y6,hod,qk,qg,qi,n13,qx,qv,Int.reduceToNat,Bool.true_beq,Bool.false_beq,Bool.not_not,↓XP,qm,XW1,qa,qb,qc,qd,qe,qf,reduceCtorEq]
 all_goals repeat' (first | (refine ⟨_,yw ⟨rfl,rfl⟩,?_⟩; simp +contextual only [↓Y6,hod,qk,qg,qi,n13,qx,qv,Int.reduceToNat,Bool.true_beq,Bool.false_beq,Bool.not_not,↓XP,qm,XW1,qa,qb,qc,qd,qe,qf,reduceCtorEq]) | (refine yw ?_; simp +contextual only [↓Y6,hod,qk,qg,qi,n13,qx,qv,Int.reduceToNat,Bool.true_beq,Bool.false_beq,Bool.not_not,↓XP,qm,XW1,qa,qb,qc,qd,qe,qf,reduceCtorEq]) | intro _ | with_reducible apply And.intro)
 all_goals (try simp only [← hod])
 all_goals first
  | omega
  | exact kF (fun hh=>by simp [I2] at hh; simp_all <;> omega)
  | exact go (by simp [I2]; simp_all <;> omega) _ ⟨rfl,rfl,rfl,trivial⟩
  | (have g := go (by simp [I2]; simp_all <;> omega); clear go kF; simp only [hod, *] at g; exact g _ ⟨rfl,rfl,rfl,trivial⟩)
  | skip
theorem vi_6 {o : OpP} {b1 b3 : Nat} {on to name text span : Bool} {low high a b : Int} {F : List D} {H : AH} {R : D → AH → Prop} (n13 : b1 ≠ b3) (hF : Fr 165 [(1,.ptr b1 0),(3,.ptr b3 0)] F) (kF : ¬ I3 (Shp.mk on to name text span low high a b) o → R (.bool false) H) (go : I3 (Shp.mk on to name text span low high a b) o → ∀ F',Fr 165 [(1,.ptr b1 0),(3,.ptr b3 0)] F' → xcode Tryz.prog x22_s5 F' ((b3,AO.cells [.bool on,.bool to,.bool name,.bool text,.bool span,.int .i64 low,.int .i64 high,.int .i64 a,.int .i64 b]) :: (b1,AO.cells o.d) :: H) (jN Tryz.prog [.tmp 2] H.length R)) : xcode Tryz.prog x22_s6 F ((b3,AO.cells [.bool on,.bool to,.bool name,.bool text,.bool span,.int .i64 low,.int .i64 high,.int .i64 a,.int .i64 b]) :: (b1,AO.cells o.d) :: H) (jN Tryz.prog [.tmp 2] H.length R) := by
 have hbig := qt
 have hod : o.d = [.int .i64 o.k,.int .i64 o.on.o,.int .i64 o.on.s,.int .i64 o.on.i,.int .i64 o.to.o,.int .i64 o.to.s,.int .i64 o.to.i,.slc (qV o.ids),.int .i64 o.n,.str o.name,.str o.text,.int .i64 o.a,.int .i64 o.b] := rfl
 obtain ⟨z,rfl⟩ : ∃ z : Nat → D,_ = z 0 :: .ptr b1 0 :: z 2 :: .ptr b3 0 :: zz z 4 161 [] := hF.lit
 try dsimp only [zz,qb] at *
 clear hF
 all_goals cases on
 all_goals cases to
 all_goals cases span
 all_goals simp +contextual only [↓u22_s6,hod,qk,qg,qi,n13,qx,qv,Int.reduceToNat,Bool.true_beq,Bool.false_beq,Bool.not_not,↓XP,qm,XW1,qa,qb,qc,qd,qe,qf,reduceCtorEq]
 all_goals repeat' (first | intro _ | with_reducible apply And.intro)
 all_goals (try simp only [← hod])
 all_goals first
  | exact kF (fun hh=>by simp [I3] at hh; simp_all)
  | exact go (by simp [I3]; simp_all) _ ⟨rfl,rfl,rfl,trivial⟩
  | (have g := go (by simp [I3]; simp_all); clear go kF; simp only [hod, *] at g; exact g _ ⟨rfl,rfl,rfl,trivial⟩)
  | skip
theorem vi_5 {o : OpP} {b1 b3 : Nat} {on to name text span : Bool} {low high a b : Int} {F : List D} {H : AH} {R : D → AH → Prop} (n13 : b1 ≠ b3) (hF : Fr 165 [(1,.ptr b1 0),(3,.ptr b3 0)] F) (kF : ¬ I4 (Shp.mk on to name text span low high a b) o → R (.bool false) H) (go : I4 (Shp.mk on to name text span low high a b) o → ∀ F',Fr 165 [(1,.ptr b1 0),(3,.ptr b3 0)] F' → xcode Tryz.prog x22_s4 F' ((b3,AO.cells [.bool on,.bool to,.bool name,.bool text,.bool span,.int .i64 low,.int .i64 high,.int .i64 a,.int .i64 b]) :: (b1,AO.cells o.d) :: H) (jN Tryz.prog [.tmp 2] H.length R)) : xcode Tryz.prog x22_s5 F ((b3,AO.cells [.bool on,.bool to,.bool name,.bool text,.bool span,.int .i64 low,.int .i64 high,.int .i64 a,.int .i64 b]) :: (b1,AO.cells o.d) :: H) (jN Tryz.prog [.tmp 2] H.length R) := by
 have hbig := qt
 have hod : o.d = [.int .i64 o.k,.int .i64 o.on.o,.int .i64 o.on.s,.int .i64 o.on.i,.int .i64 o.to.o,.int .i64 o.to.s,.int .i64 o.to.i,.slc (qV o.ids),.int .i64 o.n,.str o.name,.str o.text,.int .i64 o.a,.int .i64 o.b] := rfl
 obtain ⟨z,rfl⟩ : ∃ z : Nat → D,_ = z 0 :: .ptr b1 0 :: z 2 :: .ptr b3 0 :: zz z 4 161 [] := hF.lit
 try dsimp only [zz,qb] at *
 clear hF
 all_goals cases on
 all_goals cases to
 all_goals cases span
 all_goals simp +contextual only [↓Y2,hod,qk,qg,qi,n13,qx,qv,Int.reduceToNat,Bool.true_beq,Bool.false_beq,Bool.not_not,↓XP,qm,XW1,qa,qb,qc,qd,qe,qf,reduceCtorEq]
 all_goals repeat' (first | (refine Yj ?_; simp +contextual only [↓Y2,hod,qk,qg,qi,n13,qx,qv,Int.reduceToNat,Bool.true_beq,Bool.false_beq,Bool.not_not,↓XP,qm,XW1,qa,qb,qc,qd,qe,qf,reduceCtorEq]) | (refine f_cSpan ?_; simp +contextual only [↓Y2,hod,qk,qg,qi,n13,qx,qv,Int.reduceToNat,Bool.true_beq,Bool.false_beq,Bool.not_not,↓XP,qm,XW1,qa,qb,qc,qd,qe,qf,reduceCtorEq]) | intro _ | with_reducible apply And.intro)
 all_goals (try simp only [← hod])
 all_goals first
  | exact kF (fun hh=>by simp [I4] at hh; simp_all)
  | exact go (by simp [I4]; simp_all) _ ⟨rfl,rfl,rfl,trivial⟩
  | exact go (by simp [I4]) _ ⟨rfl,rfl,rfl,trivial⟩
  | skip
end Go.Proofs.YtoeckfegggongaaGreatDoor
end
