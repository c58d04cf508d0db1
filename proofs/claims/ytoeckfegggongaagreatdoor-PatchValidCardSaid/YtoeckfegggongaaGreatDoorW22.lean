/- A part of the proof of what the last text says: Gv2, Gv3, Gq3. Conditions: those in each theorem. -/
import Derived.Test.YtoeckfegggongaaGreatDoorW21
set_option linter.unusedVariables false
set_option linter.unusedSimpArgs false
set_option maxRecDepth 100000
set_option maxHeartbeats 16000000
open Nat (reduceSub reduceAdd reduceMul reduceEqDiff reduceLeDiff)
section
namespace Go.Proofs.YtoeckfegggongaaGreatDoor
open Go Go.Aw
def VO1 (o : OpP) : Prop := uses o.k ≠ [] ∧ (79 ∈ uses o.k → OkId o.on) ∧ (79 ∉ uses o.k → o.on = id0) ∧ (84 ∈ uses o.k → OkId o.to) ∧ (84 ∉ uses o.k → o.to = id0)
def VO2 (o : OpP) : Prop := (78 ∈ uses o.k → OkNum o) ∧ (78 ∉ uses o.k → o.n = 0) ∧ (73 ∈ uses o.k → OkIds o) ∧ (73 ∉ uses o.k → o.ids = [])
def VO3 (o : OpP) : Prop := (65 ∈ uses o.k → 1 ≤ o.name.length ∧ o.name.length ≤ 16) ∧ (65 ∉ uses o.k → o.name = []) ∧ (88 ∈ uses o.k → o.text.length ≤ 1024) ∧ (88 ∉ uses o.k → o.text = [])
def VO4 (o : OpP) : Prop := (83 ∈ uses o.k → OkSpan o.a o.b) ∧ (83 ∉ uses o.k → o.a = 0 ∧ o.b = 0)
def VO5 (o : OpP) : Prop := o.k = 17 → o.on ≠ o.to
instance (o : OpP) : Decidable (VO1 o) := by unfold VO1; exact inferInstance
instance (o : OpP) : Decidable (VO2 o) := by unfold VO2; exact inferInstance
instance (o : OpP) : Decidable (VO3 o) := by unfold VO3; exact inferInstance
instance (o : OpP) : Decidable (VO4 o) := by unfold VO4; exact inferInstance
instance (o : OpP) : Decidable (VO5 o) := by unfold VO5; exact inferInstance
def VOp (o : OpP) : Prop := VO1 o ∧ VO2 o ∧ VO3 o ∧ VO4 o ∧ VO5 o
instance (o : OpP) : Decidable (VOp o) := by unfold VOp; exact inferInstance
theorem id_dec {x y : Id3} : (decide (x.o = y.o) && (decide (x.s = y.s) && decide (x.i = y.i))) = decide (x = y) := by
  cases x; cases y; simp
theorem idz_dec {x : Id3} : (decide (x.o = 0) && (decide (x.s = 0) && decide (x.i = 0))) = decide (x = id0) := id_dec (y := id0)
theorem has_79 {s : List UInt8} {H : AH} {R : D → AH → Prop} (h : R (.bool (decide ((79 : UInt8) ∈ s))) H) : ACall Tryz.prog 51 [.str s,.int .u8 79] H R := f_rHas (c := 79) h
theorem has_84 {s : List UInt8} {H : AH} {R : D → AH → Prop} (h : R (.bool (decide ((84 : UInt8) ∈ s))) H) : ACall Tryz.prog 51 [.str s,.int .u8 84] H R := f_rHas (c := 84) h
theorem has_78 {s : List UInt8} {H : AH} {R : D → AH → Prop} (h : R (.bool (decide ((78 : UInt8) ∈ s))) H) : ACall Tryz.prog 51 [.str s,.int .u8 78] H R := f_rHas (c := 78) h
theorem has_73 {s : List UInt8} {H : AH} {R : D → AH → Prop} (h : R (.bool (decide ((73 : UInt8) ∈ s))) H) : ACall Tryz.prog 51 [.str s,.int .u8 73] H R := f_rHas (c := 73) h
theorem has_65 {s : List UInt8} {H : AH} {R : D → AH → Prop} (h : R (.bool (decide ((65 : UInt8) ∈ s))) H) : ACall Tryz.prog 51 [.str s,.int .u8 65] H R := f_rHas (c := 65) h
theorem has_88 {s : List UInt8} {H : AH} {R : D → AH → Prop} (h : R (.bool (decide ((88 : UInt8) ∈ s))) H) : ACall Tryz.prog 51 [.str s,.int .u8 88] H R := f_rHas (c := 88) h
theorem has_83 {s : List UInt8} {H : AH} {R : D → AH → Prop} (h : R (.bool (decide ((83 : UInt8) ∈ s))) H) : ACall Tryz.prog 51 [.str s,.int .u8 83] H R := f_rHas (c := 83) h
theorem v_0 {o : OpP} {b1 b4 : Nat} {F : List D} {H : AH} {R : D → AH → Prop} (n14 : b1 ≠ b4) (hF : Fr 169 [(1,.ptr b1 0),(3,.str (uses o.k)),(4,.ptr b4 0)] F) (h : R (.bool (decide (VO5 o))) H) : xcode Tryz.prog x24_s0 F ((b4,AO.cells [.int .i64 0,.int .i64 0,.int .i64 0]) :: (b1,AO.cells o.d) :: H) (retQ Tryz.prog [.tmp 2] H.length R) := by
  have hod : o.d = [.int .i64 o.k,.int .i64 o.on.o,.int .i64 o.on.s,.int .i64 o.on.i,.int .i64 o.to.o,.int .i64 o.to.s,.int .i64 o.to.i,.slc (idsD o.ids),.int .i64 o.n,.str o.name,.str o.text,.int .i64 o.a,.int .i64 o.b] := rfl
  have hk : ∀ b,decide (VO5 o) = b → R (.bool b) H := fun b hb => hb ▸ h
  obtain ⟨z,rfl⟩ : ∃ z : Nat → D,_ = z 0 :: .ptr b1 0 :: z 2 :: .str (uses o.k) :: .ptr b4 0 :: zz z 5 164 [] := hF.lit
  try dsimp only [zz,reduceAdd] at *
  simp +contextual only [x24,hod,h_miss,h_skip,n14,id_dec,↓U24,↓XP,XW0,XW1,reduceSub,reduceAdd,reduceMul,reduceEqDiff,reduceLeDiff,Nat.reduceBEq,reduceCtorEq,TYX]
  repeat' (first | apply And.intro | intro _)
  · exact hk _ (by simp [VO5, *])
  · exact hk _ (by simp [VO5, *])
theorem v_1 {o : OpP} {b1 b4 : Nat} {F : List D} {H : AH} {R : D → AH → Prop} (n14 : b1 ≠ b4) (hF : Fr 169 [(1,.ptr b1 0),(3,.str (uses o.k)),(4,.ptr b4 0)] F) (h : R (.bool (decide (VO4 o ∧ VO5 o))) H) : xcode Tryz.prog x24_s1 F ((b4,AO.cells [.int .i64 0,.int .i64 0,.int .i64 0]) :: (b1,AO.cells o.d) :: H) (retQ Tryz.prog [.tmp 2] H.length R) := by
  have hod : o.d = [.int .i64 o.k,.int .i64 o.on.o,.int .i64 o.on.s,.int .i64 o.on.i,.int .i64 o.to.o,.int .i64 o.to.s,.int .i64 o.to.i,.slc (idsD o.ids),.int .i64 o.n,.str o.name,.str o.text,.int .i64 o.a,.int .i64 o.b] := rfl
  have hk : ∀ b,decide (VO4 o ∧ VO5 o) = b → R (.bool b) H := fun b hb => hb ▸ h
  have go : VO4 o → ∀ F',Fr 169 [(1,.ptr b1 0),(3,.str (uses o.k)),(4,.ptr b4 0)] F' → xcode Tryz.prog x24_s0 F' ((b4,AO.cells [.int .i64 0,.int .i64 0,.int .i64 0]) :: (b1,AO.cells o.d) :: H) (retQ Tryz.prog [.tmp 2] H.length R) := fun h4 F' hF' => v_0 n14 hF' (hk _ (by simp only [h4,true_and]))
  obtain ⟨z,rfl⟩ : ∃ z : Nat → D,_ = z 0 :: .ptr b1 0 :: z 2 :: .str (uses o.k) :: .ptr b4 0 :: zz z 5 164 [] := hF.lit
  try dsimp only [zz,reduceAdd] at *
  clear hF h
  simp +contextual only [↓u24_s1,hod,ids_len,h_miss,h_skip,n14,id_dec,idz_dec,↓XP,XW0,XW1,reduceSub,reduceAdd,reduceMul,reduceEqDiff,reduceLeDiff,Nat.reduceBEq,reduceCtorEq,TYX]
  intros
  refine has_83 ?_
  by_cases hS : (83 : UInt8) ∈ uses o.k
  · skip
    simp +contextual only [↓u24_s1,hod,ids_len,h_miss,h_skip,n14,id_dec,idz_dec,hS,↓XP,XW0,XW1,reduceSub,reduceAdd,reduceMul,reduceEqDiff,reduceLeDiff,Nat.reduceBEq,reduceCtorEq,TYX]
    intros
    refine f_rSpan (a := o.a) (b := o.b) ?_
    by_cases oS : OkSpan o.a o.b
    · skip
      simp +contextual only [↓u24_s1,hod,ids_len,h_miss,h_skip,n14,id_dec,idz_dec,hS,oS,↓XP,XW0,XW1,reduceSub,reduceAdd,reduceMul,reduceEqDiff,reduceLeDiff,Nat.reduceBEq,reduceCtorEq,TYX]
      intros
      refine has_83 ?_
      simp +contextual only [↓u24_s1,hod,ids_len,h_miss,h_skip,n14,id_dec,idz_dec,hS,oS,↓XP,XW0,XW1,reduceSub,reduceAdd,reduceMul,reduceEqDiff,reduceLeDiff,Nat.reduceBEq,reduceCtorEq,TYX]
      intros
      simp only [← hod]
      exact go ⟨fun _ => oS,fun hh => (hh hS).elim⟩ _ ⟨rfl,rfl,rfl,rfl,trivial⟩
    · skip
      simp +contextual only [↓u24_s1,hod,ids_len,h_miss,h_skip,n14,id_dec,idz_dec,hS,oS,↓XP,XW0,XW1,reduceSub,reduceAdd,reduceMul,reduceEqDiff,reduceLeDiff,Nat.reduceBEq,reduceCtorEq,TYX]
      intros
      exact hk _ (decide_eq_false (fun hh => oS (hh.1.1 hS)))
  · skip
    simp +contextual only [↓u24_s1,hod,ids_len,h_miss,h_skip,n14,id_dec,idz_dec,hS,↓XP,XW0,XW1,reduceSub,reduceAdd,reduceMul,reduceEqDiff,reduceLeDiff,Nat.reduceBEq,reduceCtorEq,TYX]
    intros
    refine has_83 ?_
    by_cases bS : o.a = 0 ∧ o.b = 0
    · skip
      simp +contextual only [↓u24_s1,hod,ids_len,h_miss,h_skip,n14,id_dec,idz_dec,hS,eq_true bS.1,eq_true bS.2,↓XP,XW0,XW1,reduceSub,reduceAdd,reduceMul,reduceEqDiff,reduceLeDiff,Nat.reduceBEq,reduceCtorEq,TYX]
      intros
      simp only [← hod]
      exact go ⟨fun hh => (hS hh).elim,fun _ => bS⟩ _ ⟨rfl,rfl,rfl,rfl,trivial⟩
    · skip
      by_cases sS : o.a = 0
      · skip
        simp +contextual only [↓u24_s1,hod,ids_len,h_miss,h_skip,n14,id_dec,idz_dec,hS,eq_true sS,(eq_false (fun h => bS ⟨sS,h⟩) : (o.b = 0) = False),↓XP,XW0,XW1,reduceSub,reduceAdd,reduceMul,reduceEqDiff,reduceLeDiff,Nat.reduceBEq,reduceCtorEq,TYX]
        intros
        exact hk _ (decide_eq_false (fun hh => bS (hh.1.2 hS)))
      · skip
        simp +contextual only [↓u24_s1,hod,ids_len,h_miss,h_skip,n14,id_dec,idz_dec,hS,eq_false sS,↓XP,XW0,XW1,reduceSub,reduceAdd,reduceMul,reduceEqDiff,reduceLeDiff,Nat.reduceBEq,reduceCtorEq,TYX]
        intros
        exact hk _ (decide_eq_false (fun hh => bS (hh.1.2 hS)))
theorem v_2 {o : OpP} {b1 b4 : Nat} {F : List D} {H : AH} {R : D → AH → Prop} (n14 : b1 ≠ b4) (hF : Fr 169 [(1,.ptr b1 0),(3,.str (uses o.k)),(4,.ptr b4 0)] F) (h : R (.bool (decide (VO3 o ∧ VO4 o ∧ VO5 o))) H) : xcode Tryz.prog x24_s2 F ((b4,AO.cells [.int .i64 0,.int .i64 0,.int .i64 0]) :: (b1,AO.cells o.d) :: H) (retQ Tryz.prog [.tmp 2] H.length R) := by
  have hod : o.d = [.int .i64 o.k,.int .i64 o.on.o,.int .i64 o.on.s,.int .i64 o.on.i,.int .i64 o.to.o,.int .i64 o.to.s,.int .i64 o.to.i,.slc (idsD o.ids),.int .i64 o.n,.str o.name,.str o.text,.int .i64 o.a,.int .i64 o.b] := rfl
  have hk : ∀ b,decide (VO3 o ∧ VO4 o ∧ VO5 o) = b → R (.bool b) H := fun b hb => hb ▸ h
  have go : VO3 o → ∀ F',Fr 169 [(1,.ptr b1 0),(3,.str (uses o.k)),(4,.ptr b4 0)] F' → xcode Tryz.prog x24_s1 F' ((b4,AO.cells [.int .i64 0,.int .i64 0,.int .i64 0]) :: (b1,AO.cells o.d) :: H) (retQ Tryz.prog [.tmp 2] H.length R) := fun h4 F' hF' => v_1 n14 hF' (hk _ (by simp only [h4,true_and]))
  obtain ⟨z,rfl⟩ : ∃ z : Nat → D,_ = z 0 :: .ptr b1 0 :: z 2 :: .str (uses o.k) :: .ptr b4 0 :: zz z 5 164 [] := hF.lit
  try dsimp only [zz,reduceAdd] at *
  clear hF h
  simp +contextual only [↓u24_s2,hod,ids_len,h_miss,h_skip,n14,id_dec,idz_dec,↓XP,XW0,XW1,reduceSub,reduceAdd,reduceMul,reduceEqDiff,reduceLeDiff,Nat.reduceBEq,reduceCtorEq,TYX]
  intros
  refine has_65 ?_
  by_cases hA : (65 : UInt8) ∈ uses o.k
  · skip
    by_cases oA : 1 ≤ o.name.length ∧ o.name.length ≤ 16
    · skip
      simp +contextual only [↓u24_s2,hod,ids_len,h_miss,h_skip,n14,id_dec,idz_dec,hA,(eq_false (by omega) : ((o.name.length : Int) < 1) = False),(eq_false (by omega) : (16 < (o.name.length : Int)) = False),↓XP,XW0,XW1,reduceSub,reduceAdd,reduceMul,reduceEqDiff,reduceLeDiff,Nat.reduceBEq,reduceCtorEq,TYX]
      intros
      refine has_65 ?_
      simp +contextual only [↓u24_s2,hod,ids_len,h_miss,h_skip,n14,id_dec,idz_dec,hA,(eq_false (by omega) : ((o.name.length : Int) < 1) = False),(eq_false (by omega) : (16 < (o.name.length : Int)) = False),↓XP,XW0,XW1,reduceSub,reduceAdd,reduceMul,reduceEqDiff,reduceLeDiff,Nat.reduceBEq,reduceCtorEq,TYX]
      intros
      refine has_88 ?_
      by_cases hX : (88 : UInt8) ∈ uses o.k
      · skip
        by_cases oX : o.text.length ≤ 1024
        · skip
          simp +contextual only [↓u24_s2,hod,ids_len,h_miss,h_skip,n14,id_dec,idz_dec,hA,(eq_false (by omega) : ((o.name.length : Int) < 1) = False),(eq_false (by omega) : (16 < (o.name.length : Int)) = False),hX,(eq_false (by omega) : (1024 < (o.text.length : Int)) = False),↓XP,XW0,XW1,reduceSub,reduceAdd,reduceMul,reduceEqDiff,reduceLeDiff,Nat.reduceBEq,reduceCtorEq,TYX]
          intros
          refine has_88 ?_
          simp +contextual only [↓u24_s2,hod,ids_len,h_miss,h_skip,n14,id_dec,idz_dec,hA,(eq_false (by omega) : ((o.name.length : Int) < 1) = False),(eq_false (by omega) : (16 < (o.name.length : Int)) = False),hX,(eq_false (by omega) : (1024 < (o.text.length : Int)) = False),↓XP,XW0,XW1,reduceSub,reduceAdd,reduceMul,reduceEqDiff,reduceLeDiff,Nat.reduceBEq,reduceCtorEq,TYX]
          intros
          simp only [← hod]
          exact go ⟨fun _ => oA,fun hh => (hh hA).elim,fun _ => oX,fun hh => (hh hX).elim⟩ _ ⟨rfl,rfl,rfl,rfl,trivial⟩
        · skip
          simp +contextual only [↓u24_s2,hod,ids_len,h_miss,h_skip,n14,id_dec,idz_dec,hA,(eq_false (by omega) : ((o.name.length : Int) < 1) = False),(eq_false (by omega) : (16 < (o.name.length : Int)) = False),hX,(eq_true (by omega) : (1024 < (o.text.length : Int)) = True),↓XP,XW0,XW1,reduceSub,reduceAdd,reduceMul,reduceEqDiff,reduceLeDiff,Nat.reduceBEq,reduceCtorEq,TYX]
          intros
          exact hk _ (decide_eq_false (fun hh => oX (hh.1.2.2.1 hX)))
      · skip
        simp +contextual only [↓u24_s2,hod,ids_len,h_miss,h_skip,n14,id_dec,idz_dec,hA,(eq_false (by omega) : ((o.name.length : Int) < 1) = False),(eq_false (by omega) : (16 < (o.name.length : Int)) = False),hX,↓XP,XW0,XW1,reduceSub,reduceAdd,reduceMul,reduceEqDiff,reduceLeDiff,Nat.reduceBEq,reduceCtorEq,TYX]
        intros
        refine has_88 ?_
        by_cases bX : o.text = []
        · skip
          simp +contextual only [↓u24_s2,hod,ids_len,h_miss,h_skip,n14,id_dec,idz_dec,hA,(eq_false (by omega) : ((o.name.length : Int) < 1) = False),(eq_false (by omega) : (16 < (o.name.length : Int)) = False),hX,eq_true bX,↓XP,XW0,XW1,reduceSub,reduceAdd,reduceMul,reduceEqDiff,reduceLeDiff,Nat.reduceBEq,reduceCtorEq,TYX]
          intros
          simp only [← hod]
          exact go ⟨fun _ => oA,fun hh => (hh hA).elim,fun hh => (hX hh).elim,fun _ => bX⟩ _ ⟨rfl,rfl,rfl,rfl,trivial⟩
        · skip
          simp +contextual only [↓u24_s2,hod,ids_len,h_miss,h_skip,n14,id_dec,idz_dec,hA,(eq_false (by omega) : ((o.name.length : Int) < 1) = False),(eq_false (by omega) : (16 < (o.name.length : Int)) = False),hX,eq_false bX,↓XP,XW0,XW1,reduceSub,reduceAdd,reduceMul,reduceEqDiff,reduceLeDiff,Nat.reduceBEq,reduceCtorEq,TYX]
          intros
          exact hk _ (decide_eq_false (fun hh => bX (hh.1.2.2.2 hX)))
    · skip
      by_cases sA : o.name.length < 1
      · skip
        simp +contextual only [↓u24_s2,hod,ids_len,h_miss,h_skip,n14,id_dec,idz_dec,hA,(eq_true (by omega) : ((o.name.length : Int) < 1) = True),↓XP,XW0,XW1,reduceSub,reduceAdd,reduceMul,reduceEqDiff,reduceLeDiff,Nat.reduceBEq,reduceCtorEq,TYX]
        intros
        exact hk _ (decide_eq_false (fun hh => oA (hh.1.1 hA)))
      · skip
        simp +contextual only [↓u24_s2,hod,ids_len,h_miss,h_skip,n14,id_dec,idz_dec,hA,(eq_false (by omega) : ((o.name.length : Int) < 1) = False),(eq_true (by omega) : (16 < (o.name.length : Int)) = True),↓XP,XW0,XW1,reduceSub,reduceAdd,reduceMul,reduceEqDiff,reduceLeDiff,Nat.reduceBEq,reduceCtorEq,TYX]
        intros
        exact hk _ (decide_eq_false (fun hh => oA (hh.1.1 hA)))
  · skip
    simp +contextual only [↓u24_s2,hod,ids_len,h_miss,h_skip,n14,id_dec,idz_dec,hA,↓XP,XW0,XW1,reduceSub,reduceAdd,reduceMul,reduceEqDiff,reduceLeDiff,Nat.reduceBEq,reduceCtorEq,TYX]
    intros
    refine has_65 ?_
    by_cases bA : o.name = []
    · skip
      simp +contextual only [↓u24_s2,hod,ids_len,h_miss,h_skip,n14,id_dec,idz_dec,hA,eq_true bA,↓XP,XW0,XW1,reduceSub,reduceAdd,reduceMul,reduceEqDiff,reduceLeDiff,Nat.reduceBEq,reduceCtorEq,TYX]
      intros
      refine has_88 ?_
      by_cases hX : (88 : UInt8) ∈ uses o.k
      · skip
        by_cases oX : o.text.length ≤ 1024
        · skip
          simp +contextual only [↓u24_s2,hod,ids_len,h_miss,h_skip,n14,id_dec,idz_dec,hA,eq_true bA,hX,(eq_false (by omega) : (1024 < (o.text.length : Int)) = False),↓XP,XW0,XW1,reduceSub,reduceAdd,reduceMul,reduceEqDiff,reduceLeDiff,Nat.reduceBEq,reduceCtorEq,TYX]
          intros
          refine has_88 ?_
          simp +contextual only [↓u24_s2,hod,ids_len,h_miss,h_skip,n14,id_dec,idz_dec,hA,eq_true bA,hX,(eq_false (by omega) : (1024 < (o.text.length : Int)) = False),↓XP,XW0,XW1,reduceSub,reduceAdd,reduceMul,reduceEqDiff,reduceLeDiff,Nat.reduceBEq,reduceCtorEq,TYX]
          intros
          simp only [← hod]
          exact go ⟨fun hh => (hA hh).elim,fun _ => bA,fun _ => oX,fun hh => (hh hX).elim⟩ _ ⟨rfl,rfl,rfl,rfl,trivial⟩
        · skip
          simp +contextual only [↓u24_s2,hod,ids_len,h_miss,h_skip,n14,id_dec,idz_dec,hA,eq_true bA,hX,(eq_true (by omega) : (1024 < (o.text.length : Int)) = True),↓XP,XW0,XW1,reduceSub,reduceAdd,reduceMul,reduceEqDiff,reduceLeDiff,Nat.reduceBEq,reduceCtorEq,TYX]
          intros
          exact hk _ (decide_eq_false (fun hh => oX (hh.1.2.2.1 hX)))
      · skip
        simp +contextual only [↓u24_s2,hod,ids_len,h_miss,h_skip,n14,id_dec,idz_dec,hA,eq_true bA,hX,↓XP,XW0,XW1,reduceSub,reduceAdd,reduceMul,reduceEqDiff,reduceLeDiff,Nat.reduceBEq,reduceCtorEq,TYX]
        intros
        refine has_88 ?_
        by_cases bX : o.text = []
        · skip
          simp +contextual only [↓u24_s2,hod,ids_len,h_miss,h_skip,n14,id_dec,idz_dec,hA,eq_true bA,hX,eq_true bX,↓XP,XW0,XW1,reduceSub,reduceAdd,reduceMul,reduceEqDiff,reduceLeDiff,Nat.reduceBEq,reduceCtorEq,TYX]
          intros
          simp only [← hod]
          exact go ⟨fun hh => (hA hh).elim,fun _ => bA,fun hh => (hX hh).elim,fun _ => bX⟩ _ ⟨rfl,rfl,rfl,rfl,trivial⟩
        · skip
          simp +contextual only [↓u24_s2,hod,ids_len,h_miss,h_skip,n14,id_dec,idz_dec,hA,eq_true bA,hX,eq_false bX,↓XP,XW0,XW1,reduceSub,reduceAdd,reduceMul,reduceEqDiff,reduceLeDiff,Nat.reduceBEq,reduceCtorEq,TYX]
          intros
          exact hk _ (decide_eq_false (fun hh => bX (hh.1.2.2.2 hX)))
    · skip
      simp +contextual only [↓u24_s2,hod,ids_len,h_miss,h_skip,n14,id_dec,idz_dec,hA,eq_false bA,↓XP,XW0,XW1,reduceSub,reduceAdd,reduceMul,reduceEqDiff,reduceLeDiff,Nat.reduceBEq,reduceCtorEq,TYX]
      intros
      exact hk _ (decide_eq_false (fun hh => bA (hh.1.2.1 hA)))
theorem v_3 {o : OpP} {b1 b4 : Nat} {F : List D} {H : AH} {R : D → AH → Prop} (n14 : b1 ≠ b4) (hF : Fr 169 [(1,.ptr b1 0),(3,.str (uses o.k)),(4,.ptr b4 0)] F) (h : R (.bool (decide (VO2 o ∧ VO3 o ∧ VO4 o ∧ VO5 o))) H) : xcode Tryz.prog x24_s3 F ((b4,AO.cells [.int .i64 0,.int .i64 0,.int .i64 0]) :: (b1,AO.cells o.d) :: H) (retQ Tryz.prog [.tmp 2] H.length R) := by
  have hod : o.d = [.int .i64 o.k,.int .i64 o.on.o,.int .i64 o.on.s,.int .i64 o.on.i,.int .i64 o.to.o,.int .i64 o.to.s,.int .i64 o.to.i,.slc (idsD o.ids),.int .i64 o.n,.str o.name,.str o.text,.int .i64 o.a,.int .i64 o.b] := rfl
  have hk : ∀ b,decide (VO2 o ∧ VO3 o ∧ VO4 o ∧ VO5 o) = b → R (.bool b) H := fun b hb => hb ▸ h
  have go : VO2 o → ∀ F',Fr 169 [(1,.ptr b1 0),(3,.str (uses o.k)),(4,.ptr b4 0)] F' → xcode Tryz.prog x24_s2 F' ((b4,AO.cells [.int .i64 0,.int .i64 0,.int .i64 0]) :: (b1,AO.cells o.d) :: H) (retQ Tryz.prog [.tmp 2] H.length R) := fun h4 F' hF' => v_2 n14 hF' (hk _ (by simp only [h4,true_and]))
  obtain ⟨z,rfl⟩ : ∃ z : Nat → D,_ = z 0 :: .ptr b1 0 :: z 2 :: .str (uses o.k) :: .ptr b4 0 :: zz z 5 164 [] := hF.lit
  try dsimp only [zz,reduceAdd] at *
  clear hF h
  simp +contextual only [↓u24_s3,hod,ids_len,h_miss,h_skip,n14,id_dec,idz_dec,↓XP,XW0,XW1,reduceSub,reduceAdd,reduceMul,reduceEqDiff,reduceLeDiff,Nat.reduceBEq,reduceCtorEq,TYX]
  intros
  refine has_78 ?_
  by_cases hN : (78 : UInt8) ∈ uses o.k
  · skip
    simp +contextual only [↓u24_s3,hod,ids_len,h_miss,h_skip,n14,id_dec,idz_dec,hN,↓XP,XW0,XW1,reduceSub,reduceAdd,reduceMul,reduceEqDiff,reduceLeDiff,Nat.reduceBEq,reduceCtorEq,TYX]
    intros
    refine f_rNum (o := o) ?_
    by_cases oN : OkNum o
    · skip
      simp +contextual only [↓u24_s3,hod,ids_len,h_miss,h_skip,n14,id_dec,idz_dec,hN,oN,↓XP,XW0,XW1,reduceSub,reduceAdd,reduceMul,reduceEqDiff,reduceLeDiff,Nat.reduceBEq,reduceCtorEq,TYX]
      intros
      refine has_78 ?_
      simp +contextual only [↓u24_s3,hod,ids_len,h_miss,h_skip,n14,id_dec,idz_dec,hN,oN,↓XP,XW0,XW1,reduceSub,reduceAdd,reduceMul,reduceEqDiff,reduceLeDiff,Nat.reduceBEq,reduceCtorEq,TYX]
      intros
      refine has_73 ?_
      by_cases hI : (73 : UInt8) ∈ uses o.k
      · skip
        simp +contextual only [↓u24_s3,hod,ids_len,h_miss,h_skip,n14,id_dec,idz_dec,hN,oN,hI,↓XP,XW0,XW1,reduceSub,reduceAdd,reduceMul,reduceEqDiff,reduceLeDiff,Nat.reduceBEq,reduceCtorEq,TYX]
        intros
        refine f_rParts (o := o) ?_
        by_cases oI : OkIds o
        · skip
          simp +contextual only [↓u24_s3,hod,ids_len,h_miss,h_skip,n14,id_dec,idz_dec,hN,oN,hI,oI,↓XP,XW0,XW1,reduceSub,reduceAdd,reduceMul,reduceEqDiff,reduceLeDiff,Nat.reduceBEq,reduceCtorEq,TYX]
          intros
          refine has_73 ?_
          simp +contextual only [↓u24_s3,hod,ids_len,h_miss,h_skip,n14,id_dec,idz_dec,hN,oN,hI,oI,↓XP,XW0,XW1,reduceSub,reduceAdd,reduceMul,reduceEqDiff,reduceLeDiff,Nat.reduceBEq,reduceCtorEq,TYX]
          intros
          simp only [← hod]
          exact go ⟨fun _ => oN,fun hh => (hh hN).elim,fun _ => oI,fun hh => (hh hI).elim⟩ _ ⟨rfl,rfl,rfl,rfl,trivial⟩
        · skip
          simp +contextual only [↓u24_s3,hod,ids_len,h_miss,h_skip,n14,id_dec,idz_dec,hN,oN,hI,oI,↓XP,XW0,XW1,reduceSub,reduceAdd,reduceMul,reduceEqDiff,reduceLeDiff,Nat.reduceBEq,reduceCtorEq,TYX]
          intros
          exact hk _ (decide_eq_false (fun hh => oI (hh.1.2.2.1 hI)))
      · skip
        simp +contextual only [↓u24_s3,hod,ids_len,h_miss,h_skip,n14,id_dec,idz_dec,hN,oN,hI,↓XP,XW0,XW1,reduceSub,reduceAdd,reduceMul,reduceEqDiff,reduceLeDiff,Nat.reduceBEq,reduceCtorEq,TYX]
        intros
        refine has_73 ?_
        by_cases bI : o.ids = []
        · skip
          simp +contextual only [↓u24_s3,hod,ids_len,h_miss,h_skip,n14,id_dec,idz_dec,hN,oN,hI,(eq_false (by simp [bI]) : (0 < (o.ids.length : Int)) = False),↓XP,XW0,XW1,reduceSub,reduceAdd,reduceMul,reduceEqDiff,reduceLeDiff,Nat.reduceBEq,reduceCtorEq,TYX]
          intros
          simp only [← hod]
          exact go ⟨fun _ => oN,fun hh => (hh hN).elim,fun hh => (hI hh).elim,fun _ => bI⟩ _ ⟨rfl,rfl,rfl,rfl,trivial⟩
        · skip
          simp +contextual only [↓u24_s3,hod,ids_len,h_miss,h_skip,n14,id_dec,idz_dec,hN,oN,hI,(eq_true (by have := List.length_pos_iff.2 bI; omega) : (0 < (o.ids.length : Int)) = True),↓XP,XW0,XW1,reduceSub,reduceAdd,reduceMul,reduceEqDiff,reduceLeDiff,Nat.reduceBEq,reduceCtorEq,TYX]
          intros
          exact hk _ (decide_eq_false (fun hh => bI (hh.1.2.2.2 hI)))
    · skip
      simp +contextual only [↓u24_s3,hod,ids_len,h_miss,h_skip,n14,id_dec,idz_dec,hN,oN,↓XP,XW0,XW1,reduceSub,reduceAdd,reduceMul,reduceEqDiff,reduceLeDiff,Nat.reduceBEq,reduceCtorEq,TYX]
      intros
      exact hk _ (decide_eq_false (fun hh => oN (hh.1.1 hN)))
  · skip
    simp +contextual only [↓u24_s3,hod,ids_len,h_miss,h_skip,n14,id_dec,idz_dec,hN,↓XP,XW0,XW1,reduceSub,reduceAdd,reduceMul,reduceEqDiff,reduceLeDiff,Nat.reduceBEq,reduceCtorEq,TYX]
    intros
    refine has_78 ?_
    by_cases bN : o.n = 0
    · skip
      simp +contextual only [↓u24_s3,hod,ids_len,h_miss,h_skip,n14,id_dec,idz_dec,hN,eq_true bN,↓XP,XW0,XW1,reduceSub,reduceAdd,reduceMul,reduceEqDiff,reduceLeDiff,Nat.reduceBEq,reduceCtorEq,TYX]
      intros
      refine has_73 ?_
      by_cases hI : (73 : UInt8) ∈ uses o.k
      · skip
        simp +contextual only [↓u24_s3,hod,ids_len,h_miss,h_skip,n14,id_dec,idz_dec,hN,eq_true bN,hI,↓XP,XW0,XW1,reduceSub,reduceAdd,reduceMul,reduceEqDiff,reduceLeDiff,Nat.reduceBEq,reduceCtorEq,TYX]
        intros
        refine f_rParts (o := o) ?_
        by_cases oI : OkIds o
        · skip
          simp +contextual only [↓u24_s3,hod,ids_len,h_miss,h_skip,n14,id_dec,idz_dec,hN,eq_true bN,hI,oI,↓XP,XW0,XW1,reduceSub,reduceAdd,reduceMul,reduceEqDiff,reduceLeDiff,Nat.reduceBEq,reduceCtorEq,TYX]
          intros
          refine has_73 ?_
          simp +contextual only [↓u24_s3,hod,ids_len,h_miss,h_skip,n14,id_dec,idz_dec,hN,eq_true bN,hI,oI,↓XP,XW0,XW1,reduceSub,reduceAdd,reduceMul,reduceEqDiff,reduceLeDiff,Nat.reduceBEq,reduceCtorEq,TYX]
          intros
          simp only [← hod]
          exact go ⟨fun hh => (hN hh).elim,fun _ => bN,fun _ => oI,fun hh => (hh hI).elim⟩ _ ⟨rfl,rfl,rfl,rfl,trivial⟩
        · skip
          simp +contextual only [↓u24_s3,hod,ids_len,h_miss,h_skip,n14,id_dec,idz_dec,hN,eq_true bN,hI,oI,↓XP,XW0,XW1,reduceSub,reduceAdd,reduceMul,reduceEqDiff,reduceLeDiff,Nat.reduceBEq,reduceCtorEq,TYX]
          intros
          exact hk _ (decide_eq_false (fun hh => oI (hh.1.2.2.1 hI)))
      · skip
        simp +contextual only [↓u24_s3,hod,ids_len,h_miss,h_skip,n14,id_dec,idz_dec,hN,eq_true bN,hI,↓XP,XW0,XW1,reduceSub,reduceAdd,reduceMul,reduceEqDiff,reduceLeDiff,Nat.reduceBEq,reduceCtorEq,TYX]
        intros
        refine has_73 ?_
        by_cases bI : o.ids = []
        · skip
          simp +contextual only [↓u24_s3,hod,ids_len,h_miss,h_skip,n14,id_dec,idz_dec,hN,eq_true bN,hI,(eq_false (by simp [bI]) : (0 < (o.ids.length : Int)) = False),↓XP,XW0,XW1,reduceSub,reduceAdd,reduceMul,reduceEqDiff,reduceLeDiff,Nat.reduceBEq,reduceCtorEq,TYX]
          intros
          simp only [← hod]
          exact go ⟨fun hh => (hN hh).elim,fun _ => bN,fun hh => (hI hh).elim,fun _ => bI⟩ _ ⟨rfl,rfl,rfl,rfl,trivial⟩
        · skip
          simp +contextual only [↓u24_s3,hod,ids_len,h_miss,h_skip,n14,id_dec,idz_dec,hN,eq_true bN,hI,(eq_true (by have := List.length_pos_iff.2 bI; omega) : (0 < (o.ids.length : Int)) = True),↓XP,XW0,XW1,reduceSub,reduceAdd,reduceMul,reduceEqDiff,reduceLeDiff,Nat.reduceBEq,reduceCtorEq,TYX]
          intros
          exact hk _ (decide_eq_false (fun hh => bI (hh.1.2.2.2 hI)))
    · skip
      simp +contextual only [↓u24_s3,hod,ids_len,h_miss,h_skip,n14,id_dec,idz_dec,hN,eq_false bN,↓XP,XW0,XW1,reduceSub,reduceAdd,reduceMul,reduceEqDiff,reduceLeDiff,Nat.reduceBEq,reduceCtorEq,TYX]
      intros
      exact hk _ (decide_eq_false (fun hh => bN (hh.1.2.1 hN)))
theorem v_4 {o : OpP} {b1 b4 : Nat} {F : List D} {H : AH} {R : D → AH → Prop} (n14 : b1 ≠ b4) (hF : Fr 169 [(1,.ptr b1 0),(3,.str (uses o.k)),(4,.ptr b4 0)] F) (h : R (.bool (decide (VO1 o ∧ VO2 o ∧ VO3 o ∧ VO4 o ∧ VO5 o))) H) : xcode Tryz.prog x24_s4 F ((b4,AO.cells [.int .i64 0,.int .i64 0,.int .i64 0]) :: (b1,AO.cells o.d) :: H) (retQ Tryz.prog [.tmp 2] H.length R) := by
  have hod : o.d = [.int .i64 o.k,.int .i64 o.on.o,.int .i64 o.on.s,.int .i64 o.on.i,.int .i64 o.to.o,.int .i64 o.to.s,.int .i64 o.to.i,.slc (idsD o.ids),.int .i64 o.n,.str o.name,.str o.text,.int .i64 o.a,.int .i64 o.b] := rfl
  have hk : ∀ b,decide (VO1 o ∧ VO2 o ∧ VO3 o ∧ VO4 o ∧ VO5 o) = b → R (.bool b) H := fun b hb => hb ▸ h
  have go : VO1 o → ∀ F',Fr 169 [(1,.ptr b1 0),(3,.str (uses o.k)),(4,.ptr b4 0)] F' → xcode Tryz.prog x24_s3 F' ((b4,AO.cells [.int .i64 0,.int .i64 0,.int .i64 0]) :: (b1,AO.cells o.d) :: H) (retQ Tryz.prog [.tmp 2] H.length R) := fun h4 F' hF' => v_3 n14 hF' (hk _ (by simp only [h4,true_and]))
  obtain ⟨z,rfl⟩ : ∃ z : Nat → D,_ = z 0 :: .ptr b1 0 :: z 2 :: .str (uses o.k) :: .ptr b4 0 :: zz z 5 164 [] := hF.lit
  try dsimp only [zz,reduceAdd] at *
  clear hF h
  by_cases hu : uses o.k = []
  · skip
    simp +contextual only [↓u24_s4,hod,ids_len,h_miss,h_skip,n14,id_dec,idz_dec,eq_true hu,↓XP,XW0,XW1,reduceSub,reduceAdd,reduceMul,reduceEqDiff,reduceLeDiff,Nat.reduceBEq,reduceCtorEq,TYX]
    intros
    exact hk _ (decide_eq_false (fun hh => hh.1.1 hu))
  · skip
    simp +contextual only [↓u24_s4,hod,ids_len,h_miss,h_skip,n14,id_dec,idz_dec,eq_false hu,↓XP,XW0,XW1,reduceSub,reduceAdd,reduceMul,reduceEqDiff,reduceLeDiff,Nat.reduceBEq,reduceCtorEq,TYX]
    intros
    intros
    refine has_79 ?_
    by_cases hO : (79 : UInt8) ∈ uses o.k
    · skip
      simp +contextual only [↓u24_s4,hod,ids_len,h_miss,h_skip,n14,id_dec,idz_dec,eq_false hu,hO,↓XP,XW0,XW1,reduceSub,reduceAdd,reduceMul,reduceEqDiff,reduceLeDiff,Nat.reduceBEq,reduceCtorEq,TYX]
      intros
      refine f_rID (x := o.on) ?_
      by_cases oO : OkId o.on
      · skip
        simp +contextual only [↓u24_s4,hod,ids_len,h_miss,h_skip,n14,id_dec,idz_dec,eq_false hu,hO,oO,↓XP,XW0,XW1,reduceSub,reduceAdd,reduceMul,reduceEqDiff,reduceLeDiff,Nat.reduceBEq,reduceCtorEq,TYX]
        intros
        refine has_79 ?_
        simp +contextual only [↓u24_s4,hod,ids_len,h_miss,h_skip,n14,id_dec,idz_dec,eq_false hu,hO,oO,↓XP,XW0,XW1,reduceSub,reduceAdd,reduceMul,reduceEqDiff,reduceLeDiff,Nat.reduceBEq,reduceCtorEq,TYX]
        intros
        refine has_84 ?_
        by_cases hT : (84 : UInt8) ∈ uses o.k
        · skip
          simp +contextual only [↓u24_s4,hod,ids_len,h_miss,h_skip,n14,id_dec,idz_dec,eq_false hu,hO,oO,hT,↓XP,XW0,XW1,reduceSub,reduceAdd,reduceMul,reduceEqDiff,reduceLeDiff,Nat.reduceBEq,reduceCtorEq,TYX]
          intros
          refine f_rID (x := o.to) ?_
          by_cases oT : OkId o.to
          · skip
            simp +contextual only [↓u24_s4,hod,ids_len,h_miss,h_skip,n14,id_dec,idz_dec,eq_false hu,hO,oO,hT,oT,↓XP,XW0,XW1,reduceSub,reduceAdd,reduceMul,reduceEqDiff,reduceLeDiff,Nat.reduceBEq,reduceCtorEq,TYX]
            intros
            refine has_84 ?_
            simp +contextual only [↓u24_s4,hod,ids_len,h_miss,h_skip,n14,id_dec,idz_dec,eq_false hu,hO,oO,hT,oT,↓XP,XW0,XW1,reduceSub,reduceAdd,reduceMul,reduceEqDiff,reduceLeDiff,Nat.reduceBEq,reduceCtorEq,TYX]
            intros
            simp only [← hod]
            exact go ⟨hu,fun _ => oO,fun hh => (hh hO).elim,fun _ => oT,fun hh => (hh hT).elim⟩ _ ⟨rfl,rfl,rfl,rfl,trivial⟩
          · skip
            simp +contextual only [↓u24_s4,hod,ids_len,h_miss,h_skip,n14,id_dec,idz_dec,eq_false hu,hO,oO,hT,oT,↓XP,XW0,XW1,reduceSub,reduceAdd,reduceMul,reduceEqDiff,reduceLeDiff,Nat.reduceBEq,reduceCtorEq,TYX]
            intros
            exact hk _ (decide_eq_false (fun hh => oT (hh.1.2.2.2.1 hT)))
        · skip
          simp +contextual only [↓u24_s4,hod,ids_len,h_miss,h_skip,n14,id_dec,idz_dec,eq_false hu,hO,oO,hT,↓XP,XW0,XW1,reduceSub,reduceAdd,reduceMul,reduceEqDiff,reduceLeDiff,Nat.reduceBEq,reduceCtorEq,TYX]
          intros
          refine has_84 ?_
          by_cases bT : o.to = id0
          · skip
            simp +contextual only [↓u24_s4,hod,ids_len,h_miss,h_skip,n14,id_dec,idz_dec,eq_false hu,hO,oO,hT,eq_true bT,↓XP,XW0,XW1,reduceSub,reduceAdd,reduceMul,reduceEqDiff,reduceLeDiff,Nat.reduceBEq,reduceCtorEq,TYX]
            intros
            simp only [← hod]
            exact go ⟨hu,fun _ => oO,fun hh => (hh hO).elim,fun hh => (hT hh).elim,fun _ => bT⟩ _ ⟨rfl,rfl,rfl,rfl,trivial⟩
          · skip
            simp +contextual only [↓u24_s4,hod,ids_len,h_miss,h_skip,n14,id_dec,idz_dec,eq_false hu,hO,oO,hT,eq_false bT,↓XP,XW0,XW1,reduceSub,reduceAdd,reduceMul,reduceEqDiff,reduceLeDiff,Nat.reduceBEq,reduceCtorEq,TYX]
            intros
            exact hk _ (decide_eq_false (fun hh => bT (hh.1.2.2.2.2 hT)))
      · skip
        simp +contextual only [↓u24_s4,hod,ids_len,h_miss,h_skip,n14,id_dec,idz_dec,eq_false hu,hO,oO,↓XP,XW0,XW1,reduceSub,reduceAdd,reduceMul,reduceEqDiff,reduceLeDiff,Nat.reduceBEq,reduceCtorEq,TYX]
        intros
        exact hk _ (decide_eq_false (fun hh => oO (hh.1.2.1 hO)))
    · skip
      simp +contextual only [↓u24_s4,hod,ids_len,h_miss,h_skip,n14,id_dec,idz_dec,eq_false hu,hO,↓XP,XW0,XW1,reduceSub,reduceAdd,reduceMul,reduceEqDiff,reduceLeDiff,Nat.reduceBEq,reduceCtorEq,TYX]
      intros
      refine has_79 ?_
      by_cases bO : o.on = id0
      · skip
        simp +contextual only [↓u24_s4,hod,ids_len,h_miss,h_skip,n14,id_dec,idz_dec,eq_false hu,hO,eq_true bO,↓XP,XW0,XW1,reduceSub,reduceAdd,reduceMul,reduceEqDiff,reduceLeDiff,Nat.reduceBEq,reduceCtorEq,TYX]
        intros
        refine has_84 ?_
        by_cases hT : (84 : UInt8) ∈ uses o.k
        · skip
          simp +contextual only [↓u24_s4,hod,ids_len,h_miss,h_skip,n14,id_dec,idz_dec,eq_false hu,hO,eq_true bO,hT,↓XP,XW0,XW1,reduceSub,reduceAdd,reduceMul,reduceEqDiff,reduceLeDiff,Nat.reduceBEq,reduceCtorEq,TYX]
          intros
          refine f_rID (x := o.to) ?_
          by_cases oT : OkId o.to
          · skip
            simp +contextual only [↓u24_s4,hod,ids_len,h_miss,h_skip,n14,id_dec,idz_dec,eq_false hu,hO,eq_true bO,hT,oT,↓XP,XW0,XW1,reduceSub,reduceAdd,reduceMul,reduceEqDiff,reduceLeDiff,Nat.reduceBEq,reduceCtorEq,TYX]
            intros
            refine has_84 ?_
            simp +contextual only [↓u24_s4,hod,ids_len,h_miss,h_skip,n14,id_dec,idz_dec,eq_false hu,hO,eq_true bO,hT,oT,↓XP,XW0,XW1,reduceSub,reduceAdd,reduceMul,reduceEqDiff,reduceLeDiff,Nat.reduceBEq,reduceCtorEq,TYX]
            intros
            simp only [← hod]
            exact go ⟨hu,fun hh => (hO hh).elim,fun _ => bO,fun _ => oT,fun hh => (hh hT).elim⟩ _ ⟨rfl,rfl,rfl,rfl,trivial⟩
          · skip
            simp +contextual only [↓u24_s4,hod,ids_len,h_miss,h_skip,n14,id_dec,idz_dec,eq_false hu,hO,eq_true bO,hT,oT,↓XP,XW0,XW1,reduceSub,reduceAdd,reduceMul,reduceEqDiff,reduceLeDiff,Nat.reduceBEq,reduceCtorEq,TYX]
            intros
            exact hk _ (decide_eq_false (fun hh => oT (hh.1.2.2.2.1 hT)))
        · skip
          simp +contextual only [↓u24_s4,hod,ids_len,h_miss,h_skip,n14,id_dec,idz_dec,eq_false hu,hO,eq_true bO,hT,↓XP,XW0,XW1,reduceSub,reduceAdd,reduceMul,reduceEqDiff,reduceLeDiff,Nat.reduceBEq,reduceCtorEq,TYX]
          intros
          refine has_84 ?_
          by_cases bT : o.to = id0
          · skip
            simp +contextual only [↓u24_s4,hod,ids_len,h_miss,h_skip,n14,id_dec,idz_dec,eq_false hu,hO,eq_true bO,hT,eq_true bT,↓XP,XW0,XW1,reduceSub,reduceAdd,reduceMul,reduceEqDiff,reduceLeDiff,Nat.reduceBEq,reduceCtorEq,TYX]
            intros
            simp only [← hod]
            exact go ⟨hu,fun hh => (hO hh).elim,fun _ => bO,fun hh => (hT hh).elim,fun _ => bT⟩ _ ⟨rfl,rfl,rfl,rfl,trivial⟩
          · skip
            simp +contextual only [↓u24_s4,hod,ids_len,h_miss,h_skip,n14,id_dec,idz_dec,eq_false hu,hO,eq_true bO,hT,eq_false bT,↓XP,XW0,XW1,reduceSub,reduceAdd,reduceMul,reduceEqDiff,reduceLeDiff,Nat.reduceBEq,reduceCtorEq,TYX]
            intros
            exact hk _ (decide_eq_false (fun hh => bT (hh.1.2.2.2.2 hT)))
      · skip
        simp +contextual only [↓u24_s4,hod,ids_len,h_miss,h_skip,n14,id_dec,idz_dec,eq_false hu,hO,eq_false bO,↓XP,XW0,XW1,reduceSub,reduceAdd,reduceMul,reduceEqDiff,reduceLeDiff,Nat.reduceBEq,reduceCtorEq,TYX]
        intros
        exact hk _ (decide_eq_false (fun hh => bO (hh.1.2.2.1 hO)))
theorem f_rOp {o : OpP} {H : AH} {R : D → AH → Prop} (h : R (.bool (decide (VOp o))) H) : ACall Tryz.prog 24 [.agg o.d] H R := by
  refine b24 fun hf => ?_
  have hod : o.d = [.int .i64 o.k,.int .i64 o.on.o,.int .i64 o.on.s,.int .i64 o.on.i,.int .i64 o.to.o,.int .i64 o.to.s,.int .i64 o.to.i,.slc (idsD o.ids),.int .i64 o.n,.str o.name,.str o.text,.int .i64 o.a,.int .i64 o.b] := rfl
  simp +contextual only [x24,↓u24_s5,hod,↓XP,XW0,XW1,reduceSub,reduceAdd,reduceMul,reduceEqDiff,reduceLeDiff,Nat.reduceBEq,reduceCtorEq,TYX]
  intro b1 h1 _
  refine f_rUses ?_
  simp +contextual only [x24,↓u24_s5,hod,↓XP,XW0,XW1,reduceSub,reduceAdd,reduceMul,reduceEqDiff,reduceLeDiff,Nat.reduceBEq,reduceCtorEq,TYX]
  intro _ b4 hb
  obtain ⟨n14,h4⟩ := hb
  simp only [← hod]
  exact v_4 n14 ⟨rfl,rfl,rfl,rfl,trivial⟩ h
end Go.Proofs.YtoeckfegggongaaGreatDoor
end
section
namespace Go.Proofs.YtoeckfegggongaaGreatDoor
open Go Go.Aw
def OkHead (p : Pt) : Prop := 0 ≤ p.o ∧ p.o ≤ 7 ∧ 1 ≤ p.s ∧ p.s ≤ 16 ∧ 1 ≤ p.day ∧ p.day ≤ 1048576
instance (p : Pt) : Decidable (OkHead p) := by unfold OkHead; exact inferInstance
def OkNeedAt (p : Pt) (i : Nat) : Prop := 0 ≤ (p.needs.getD i default).o ∧ (p.needs.getD i default).o ≤ 7 ∧ (p.needs.getD i default).o ≠ p.o ∧ 1 ≤ (p.needs.getD i default).s ∧ (p.needs.getD i default).s ≤ 16 ∧ (0 < i → (p.needs.getD (i - 1) default).o < (p.needs.getD i default).o)
def OkNeeds (p : Pt) : Prop := ∀ i,i < p.needs.length → OkNeedAt p i
def OkOps (p : Pt) : Prop := ∀ o ∈ p.ops,VOp o
def bare (p : Pt) : Pt := { p with sl := [] }
open Classical in
noncomputable def validE (p : Pt) : Int :=
  if ¬ OkHead p then 5 else if 8 < p.needs.length ∨ 16 < p.ops.length then 4 else if p.ops = [] then 1 else if ¬ OkNeeds p then 1 else if ¬ OkOps p then 1
  else if 6800 < (encPt (bare p)).length then 4 else 0
theorem bare_fit {p : Pt} (h : Fit p) : Fit (bare p) := ⟨h.ops,h.needs,h.ids,h.name,h.text,by simp [bare]⟩
theorem f_rValid {p : Pt} {H : AH} {R : D → AH → Prop} (hp : Fit p) (h : R (.int .i64 (validE p)) H) : ACall Tryz.prog 8 [.agg p.d] H R := by
  refine b8 fun hf => ?_
  have hbig := big_eq
  have hd := @dE p
  have hk : ∀ b,validE p = b → R (.int .i64 b) H := fun b hb => hb ▸ h
  clear h
  by_cases hh : ¬ OkHead p
  · have h5 := hk 5 (by unfold validE; rw [if_pos hh])
    simp +contextual only [x8,hd,refs_len,ops_len,h_miss,h_skip,↓U8,↓XP,XW0,XW1,reduceSub,reduceAdd,reduceMul,reduceEqDiff,reduceLeDiff,Nat.reduceBEq,reduceCtorEq,TYX]
    intro b1 h1 _
    repeat' (first | apply And.intro | intro _)
    all_goals first
      | exact h5
      | (exfalso; unfold OkHead at hh; omega)
  · obtain ⟨e1,e2,e3,e4,e5,e6⟩ := Classical.not_not.1 hh
    clear hh
    have hh : OkHead p := ⟨e1,e2,e3,e4,e5,e6⟩
    simp +contextual only [x8,hd,refs_len,ops_len,h_miss,h_skip,(eq_false (by omega) : (p.o < 0) = False),(eq_false (by omega) : (7 < p.o) = False),(eq_false (by omega) : (p.s < 1) = False),(eq_false (by omega) : (16 < p.s) = False),(eq_false (by omega) : (p.day < 1) = False),(eq_false (by omega) : (1048576 < p.day) = False),↓U8,↓XP,XW0,XW1,reduceSub,reduceAdd,reduceMul,reduceEqDiff,reduceLeDiff,Nat.reduceBEq,reduceCtorEq,TYX]
    intro b1 h1
    intros
    have k4 : 8 < p.needs.length ∨ 16 < p.ops.length → R (.int .i64 4) H := fun hl => hk 4 (by unfold validE; rw [if_neg (fun h => h hh),if_pos hl])
    refine ⟨fun c => k4 (by omega),fun c1 _ => ⟨fun c => k4 (by omega),fun c2 => ⟨fun c => hk 1 (by unfold validE; rw [if_neg (fun h => h hh),if_neg (by omega),if_pos (List.eq_nil_of_length_eq_zero (by omega))]),fun c3 => ?_⟩⟩⟩
    have hl : ¬ (8 < p.needs.length ∨ 16 < p.ops.length) := by omega
    have hne : p.ops ≠ [] := fun e => c3 (by rw [e]; rfl)
    have hk2 : ∀ b,(open Classical in if ¬ OkNeeds p then (1 : Int) else if ¬ OkOps p then 1 else if 6800 < (encPt (bare p)).length then 4 else 0) = b → R (.int .i64 b) H := fun b hb => hk b (by
      unfold validE
      rw [if_neg (fun h => h hh),if_neg hl,if_neg hne]
      exact hb)
    clear hk k4
    simp only [← hd]
    refine XW.loopK Go.Proofs.YtoeckfegggongaaGreatDoor.hm (fun F H' => ∃ (i : Nat),i ≤ p.needs.length ∧ (∀ j,j < i → OkNeedAt p j) ∧ Fr 120 [(1,.ptr b1 0),(3,.int .i64 i)] F ∧ ((b1,AO.cells p.d) :: H) = H') (fun F H => match F.getD 3 .any with | .int _ n' => p.needs.length - n'.toNat | _ => 0) ⟨0,by omega,by omega,⟨rfl,rfl,rfl,trivial⟩,rfl⟩ ?_
    rintro _ _ ⟨i,hi,hv,hF,rfl⟩ K hN hE hR
    obtain ⟨z,rfl⟩ : ∃ z : Nat → D,_ = z 0 :: .ptr b1 0 :: z 2 :: .int .i64 i :: zz z 4 116 [] := hF.lit
    try dsimp only [zz,reduceAdd] at *
    clear hF
    by_cases hlt : i < p.needs.length
    · have nx : OkNeedAt p i → ∀ F' H',back ((b1,AO.cells p.d) :: H).length H' = ((b1,AO.cells p.d) :: H) → Fr 120 [(1,.ptr b1 0),(3,.int .i64 ((i + 1 : Nat) : Int))] F' → K .normal F' H' := fun h1 F' H' hH hF' => hN _ _ ⟨i + 1,hlt,fun j hj => by
          by_cases e : j = i
          · rw [e]; exact h1
          · exact hv j (by omega),hF',hH.symm⟩ (by
        rw [List.getD_eq_getElem?_getD,hF'.2.2.1]
        simp only [List.getD_cons_succ,List.getD_cons_zero,Option.getD_some]
        omega)
      have hno : ¬ OkNeedAt p i → R (.int .i64 1) H := fun h1 => hk2 1 (by rw [if_pos (fun h => h1 (h i hlt))])
      clear hN hE
      have q1 := refs_get hlt
      have q0 : 0 < i → (refsD p.needs).getD (i - 1) [] = (p.needs.getD (i - 1) default).d := fun h => refs_get (by omega)
      unfold OkNeedAt at nx hno
      generalize p.needs.getD i default = r at q1 nx hno
      generalize p.needs.getD (i - 1) default = t at q0 nx hno
      have hr : r.d = [.int .i64 r.o,.int .i64 r.s] := rfl
      have ht : t.d = [.int .i64 t.o,.int .i64 t.s] := rfl
      have w1 : 0 < i → IntKind.i64.wrap ((i : Int) - 1) = ((i - 1 : Nat) : Int) := fun h => by rw [wrap_id (by omega) (by omega)]; omega
      have hrr : ¬ (0 ≤ r.o ∧ r.o ≤ 7 ∧ r.o ≠ p.o ∧ 1 ≤ r.s ∧ r.s ≤ 16 ∧ (0 < i → t.o < r.o)) → ∀ F' H',(retQ Tryz.prog [.tmp 2] H.length R) .ret F' H' → K .ret F' H' := fun _ F' H' h => hR _ _ h
      by_cases c1 : r.o < 0
      · simp +contextual only [x8,hd,refs_len,ops_len,h_miss,h_skip,q1,hr,wrap_succ (show i ≤ big by omega),(eq_true c1),↓U8,↓XP,XW0,XW1,reduceSub,reduceAdd,reduceMul,reduceEqDiff,reduceLeDiff,Nat.reduceBEq,reduceCtorEq,TYX]
        refine fun _ => ⟨fun _ b4 hb _ => ?_,fun hge => absurd (by omega) hge⟩
        intros
        refine hR _ _ ?_
        simp +contextual only [x8,hd,refs_len,ops_len,h_miss,h_skip,↓U8,↓XP,XW0,XW1,reduceSub,reduceAdd,reduceMul,reduceEqDiff,reduceLeDiff,Nat.reduceBEq,reduceCtorEq,TYX]
        exact hno (by omega)
      by_cases c2 : 7 < r.o
      · simp +contextual only [x8,hd,refs_len,ops_len,h_miss,h_skip,q1,hr,wrap_succ (show i ≤ big by omega),(eq_false c1),(eq_true c2),↓U8,↓XP,XW0,XW1,reduceSub,reduceAdd,reduceMul,reduceEqDiff,reduceLeDiff,Nat.reduceBEq,reduceCtorEq,TYX]
        refine fun _ => ⟨fun _ b4 hb => ?_,fun hge => absurd (by omega) hge⟩
        intros
        refine hR _ _ ?_
        simp +contextual only [x8,hd,refs_len,ops_len,h_miss,h_skip,↓U8,↓XP,XW0,XW1,reduceSub,reduceAdd,reduceMul,reduceEqDiff,reduceLeDiff,Nat.reduceBEq,reduceCtorEq,TYX]
        exact hno (by omega)
      by_cases c3 : r.o = p.o
      · simp +contextual only [x8,hd,refs_len,ops_len,h_miss,h_skip,q1,hr,wrap_succ (show i ≤ big by omega),(eq_false c1),(eq_false c2),(eq_true c3),↓U8,↓XP,XW0,XW1,reduceSub,reduceAdd,reduceMul,reduceEqDiff,reduceLeDiff,Nat.reduceBEq,reduceCtorEq,TYX]
        refine fun _ => ⟨fun _ b4 hb => ?_,fun hge => absurd (by omega) hge⟩
        intros
        refine hR _ _ ?_
        simp +contextual only [x8,hd,refs_len,ops_len,h_miss,h_skip,↓U8,↓XP,XW0,XW1,reduceSub,reduceAdd,reduceMul,reduceEqDiff,reduceLeDiff,Nat.reduceBEq,reduceCtorEq,TYX]
        exact hno (by omega)
      by_cases c4 : r.s < 1
      · simp +contextual only [x8,hd,refs_len,ops_len,h_miss,h_skip,q1,hr,wrap_succ (show i ≤ big by omega),(eq_false c1),(eq_false c2),(eq_false c3),(eq_true c4),↓U8,↓XP,XW0,XW1,reduceSub,reduceAdd,reduceMul,reduceEqDiff,reduceLeDiff,Nat.reduceBEq,reduceCtorEq,TYX]
        refine fun _ => ⟨fun _ b4 hb => ?_,fun hge => absurd (by omega) hge⟩
        intros
        refine hR _ _ ?_
        simp +contextual only [x8,hd,refs_len,ops_len,h_miss,h_skip,↓U8,↓XP,XW0,XW1,reduceSub,reduceAdd,reduceMul,reduceEqDiff,reduceLeDiff,Nat.reduceBEq,reduceCtorEq,TYX]
        exact hno (by omega)
      by_cases c5 : 16 < r.s
      · simp +contextual only [x8,hd,refs_len,ops_len,h_miss,h_skip,q1,hr,wrap_succ (show i ≤ big by omega),(eq_false c1),(eq_false c2),(eq_false c3),(eq_false c4),(eq_true c5),↓U8,↓XP,XW0,XW1,reduceSub,reduceAdd,reduceMul,reduceEqDiff,reduceLeDiff,Nat.reduceBEq,reduceCtorEq,TYX]
        refine fun _ => ⟨fun _ b4 hb => ?_,fun hge => absurd (by omega) hge⟩
        intros
        refine hR _ _ ?_
        simp +contextual only [x8,hd,refs_len,ops_len,h_miss,h_skip,↓U8,↓XP,XW0,XW1,reduceSub,reduceAdd,reduceMul,reduceEqDiff,reduceLeDiff,Nat.reduceBEq,reduceCtorEq,TYX]
        exact hno (by omega)
      by_cases hi0 : 0 < i
      · have q0' := q0 hi0
        have w1' := w1 hi0
        by_cases c6 : r.o ≤ t.o
        · simp +contextual only [x8,hd,refs_len,ops_len,h_miss,h_skip,q1,hr,wrap_succ (show i ≤ big by omega),(eq_false c1),(eq_false c2),(eq_false c3),(eq_false c4),(eq_false c5),q0',ht,w1',(eq_true (by omega) : ((0 : Int) < (i : Int)) = True),(eq_true c6),↓U8,↓XP,XW0,XW1,reduceSub,reduceAdd,reduceMul,reduceEqDiff,reduceLeDiff,Nat.reduceBEq,reduceCtorEq,TYX]
          refine fun _ => ⟨fun _ b4 hb => ?_,fun hge => absurd (by omega) hge⟩
          obtain ⟨n14,h4⟩ := hb
          intros
          refine ⟨by omega,fun _ => hR _ _ ?_⟩
          simp +contextual only [x8,hd,refs_len,ops_len,h_miss,h_skip,↓U8,↓XP,XW0,XW1,reduceSub,reduceAdd,reduceMul,reduceEqDiff,reduceLeDiff,Nat.reduceBEq,reduceCtorEq,TYX]
          exact hno (by omega)
        · simp +contextual only [x8,hd,refs_len,ops_len,h_miss,h_skip,q1,hr,wrap_succ (show i ≤ big by omega),(eq_false c1),(eq_false c2),(eq_false c3),(eq_false c4),(eq_false c5),q0',ht,w1',(eq_true (by omega) : ((0 : Int) < (i : Int)) = True),(eq_false c6),↓U8,↓XP,XW0,XW1,reduceSub,reduceAdd,reduceMul,reduceEqDiff,reduceLeDiff,Nat.reduceBEq,reduceCtorEq,TYX]
          refine fun _ => ⟨fun _ b4 hb => ?_,fun hge => absurd (by omega) hge⟩
          obtain ⟨n14,h4⟩ := hb
          intros
          exact ⟨by omega,fun _ => nx (by omega) _ _ (back_1 rfl) ⟨rfl,rfl,rfl,trivial⟩⟩
      · simp +contextual only [x8,hd,refs_len,ops_len,h_miss,h_skip,q1,hr,wrap_succ (show i ≤ big by omega),(eq_false c1),(eq_false c2),(eq_false c3),(eq_false c4),(eq_false c5),(eq_false (by omega) : ((0 : Int) < (i : Int)) = False),↓U8,↓XP,XW0,XW1,reduceSub,reduceAdd,reduceMul,reduceEqDiff,reduceLeDiff,Nat.reduceBEq,reduceCtorEq,TYX]
        refine fun _ => ⟨fun _ b4 hb => ?_,fun hge => absurd (by omega) hge⟩
        intros
        exact nx (by omega) _ _ (back_1 rfl) ⟨rfl,rfl,rfl,trivial⟩
    · have hik : i = p.needs.length := by omega
      subst hik
      clear hN
      have hon : OkNeeds p := hv
      have hk3 : ∀ b,(open Classical in if ¬ OkOps p then (1 : Int) else if 6800 < (encPt (bare p)).length then 4 else 0) = b → R (.int .i64 b) H := fun b hb => hk2 b (by rw [if_neg (fun h => h hon)]; exact hb)
      clear hk2 hv
      simp +contextual only [x8,hd,refs_len,ops_len,h_miss,h_skip,↓U8,↓XP,XW0,XW1,reduceSub,reduceAdd,reduceMul,reduceEqDiff,reduceLeDiff,Nat.reduceBEq,reduceCtorEq,TYX]
      refine fun _ => hE _ _ _ ?_
      clear hE hR
      simp +contextual only [x8,hd,refs_len,ops_len,h_miss,h_skip,↓U8,↓XP,XW0,XW1,reduceSub,reduceAdd,reduceMul,reduceEqDiff,reduceLeDiff,Nat.reduceBEq,reduceCtorEq,TYX]
      simp only [← hd]
      refine XW.loopK Go.Proofs.YtoeckfegggongaaGreatDoor.hm (fun F H' => ∃ (i : Nat),i ≤ p.ops.length ∧ (∀ o ∈ p.ops.take i,VOp o) ∧ Fr 120 [(1,.ptr b1 0),(5,.int .i64 i)] F ∧ ((b1,AO.cells p.d) :: H) = H') (fun F H => match F.getD 5 .any with | .int _ n' => p.ops.length - n'.toNat | _ => 0) ⟨0,by omega,by simp,⟨rfl,rfl,rfl,trivial⟩,rfl⟩ ?_
      rintro _ _ ⟨i,hi,hv,hF,rfl⟩ K hN hE hR
      obtain ⟨z,rfl⟩ : ∃ z : Nat → D,_ = z 0 :: .ptr b1 0 :: zz z 2 3 (.int .i64 i :: zz z 6 114 []) := hF.lit
      try dsimp only [zz,reduceAdd] at *
      clear hF
      by_cases hlt : i < p.ops.length
      · have nx : VOp (p.ops.getD i default) → ∀ F',Fr 120 [(1,.ptr b1 0),(5,.int .i64 ((i + 1 : Nat) : Int))] F' → K .normal F' ((b1,AO.cells p.d) :: H) := fun h1 F' hF' => hN _ _ ⟨i + 1,hlt,fun o ho => by
            rw [List.take_add_one] at ho
            rcases List.mem_append.1 ho with ho | ho
            · exact hv o ho
            · simp [hlt] at ho
              have : o = p.ops.getD i default := by simp [hlt,ho]
              rw [this]; exact h1,hF',(back_0 rfl).symm⟩ (by
          rw [List.getD_eq_getElem?_getD,hF'.2.2.1]
          simp only [List.getD_cons_succ,List.getD_cons_zero,Option.getD_some]
          omega)
        have hm : p.ops.getD i default ∈ p.ops := by rw [getD_lt hlt]; exact List.getElem_mem hlt
        have hno : ¬ VOp (p.ops.getD i default) → R (.int .i64 1) H := fun h1 => hk3 1 (by rw [if_pos (fun h => h1 (h _ hm))])
        clear hN hE hk3
        have q1 := ops_get hlt
        generalize p.ops.getD i default = o at q1 nx hno
        have hod : o.d = [.int .i64 o.k,.int .i64 o.on.o,.int .i64 o.on.s,.int .i64 o.on.i,.int .i64 o.to.o,.int .i64 o.to.s,.int .i64 o.to.i,.slc (idsD o.ids),.int .i64 o.n,.str o.name,.str o.text,.int .i64 o.a,.int .i64 o.b] := rfl
        simp +contextual only [x8,hd,refs_len,ops_len,h_miss,h_skip,q1,hod,↓U8,↓XP,XW0,XW1,reduceSub,reduceAdd,reduceMul,reduceEqDiff,reduceLeDiff,Nat.reduceBEq,reduceCtorEq,TYX]
        refine fun _ => ⟨fun _ => f_rOp (o := o) ?_,fun hge => absurd (by omega) hge⟩
        by_cases ho : VOp o
        · simp +contextual only [x8,hd,refs_len,ops_len,h_miss,h_skip,ho,wrap_succ (show i ≤ big by omega),↓U8,↓XP,XW0,XW1,reduceSub,reduceAdd,reduceMul,reduceEqDiff,reduceLeDiff,Nat.reduceBEq,reduceCtorEq,TYX]
          simp only [← hd]
          exact nx ho _ ⟨rfl,rfl,rfl,trivial⟩
        · simp +contextual only [x8,hd,refs_len,ops_len,h_miss,h_skip,ho,↓U8,↓XP,XW0,XW1,reduceSub,reduceAdd,reduceMul,reduceEqDiff,reduceLeDiff,Nat.reduceBEq,reduceCtorEq,TYX]
          refine hR _ _ ?_
          simp +contextual only [x8,hd,refs_len,ops_len,h_miss,h_skip,↓U8,↓XP,XW0,XW1,reduceSub,reduceAdd,reduceMul,reduceEqDiff,reduceLeDiff,Nat.reduceBEq,reduceCtorEq,TYX]
          exact hno ho
      · have hik : i = p.ops.length := by omega
        subst hik
        clear hN
        rw [List.take_length] at hv
        have hoo : OkOps p := hv
        simp +contextual only [x8,hd,refs_len,ops_len,h_miss,h_skip,↓U8,↓XP,XW0,XW1,reduceSub,reduceAdd,reduceMul,reduceEqDiff,reduceLeDiff,Nat.reduceBEq,reduceCtorEq,TYX]
        refine fun _ => hE _ _ _ ?_
        clear hE hR
        have hbd : (bare p).d = [.int .i64 p.o,.int .i64 p.s,.int .i64 p.day,.slc (refsD p.needs),.slc (opsD p.ops),.str []] := rfl
        simp +contextual only [x8,hd,refs_len,ops_len,h_miss,h_skip,↓U8,↓XP,XW0,XW1,reduceSub,reduceAdd,reduceMul,reduceEqDiff,reduceLeDiff,Nat.reduceBEq,reduceCtorEq,TYX]
        refine f_rEnc (p := bare p) (bare_fit hp) fun _ => ?_
        by_cases h68 : 6800 < (encPt (bare p)).length
        · simp +contextual only [x8,hd,refs_len,ops_len,h_miss,h_skip,bytesD_len,(eq_true (by omega) : ((6800 : Int) < ((encPt (bare p)).length : Int)) = True),↓U8,↓XP,XW0,XW1,reduceSub,reduceAdd,reduceMul,reduceEqDiff,reduceLeDiff,Nat.reduceBEq,reduceCtorEq,TYX]
          exact fun _ => hk3 4 (by rw [if_neg (fun h => h hoo),if_pos h68])
        · simp +contextual only [x8,hd,refs_len,ops_len,h_miss,h_skip,bytesD_len,(eq_false (by omega) : ((6800 : Int) < ((encPt (bare p)).length : Int)) = False),↓U8,↓XP,XW0,XW1,reduceSub,reduceAdd,reduceMul,reduceEqDiff,reduceLeDiff,Nat.reduceBEq,reduceCtorEq,TYX]
          exact fun _ => hk3 0 (by rw [if_neg (fun h => h hoo),if_neg h68])
end Go.Proofs.YtoeckfegggongaaGreatDoor
end
section
namespace Go.Proofs.YtoeckfegggongaaGreatDoor
open Go Go.Aw
structure TOp (o : OpP) : Prop where
  v : VOp o
  ok : OkOp o
  tx : o.text.length ≤ 60
theorem t_1 {nm tx : List UInt8} (h1 : 1 ≤ nm.length) (h2 : nm.length ≤ 16) (h3 : tx.length ≤ 60) : TOp { op0 with k := 1,name := nm,text := tx } :=
  ⟨by simp [VOp,VO1,VO2,VO3,VO4,VO5,uses,op0,id0]; omega,ok_of (by show (1 : Int) ≠ 16; decide),h3⟩
theorem t_2 {on : Id3} {n : Int} (h : OkId on) (h1 : 0 ≤ n) (h2 : n ≤ 1000) : TOp { op0 with k := 2,on := on,n := n } :=
  ⟨by simp [VOp,VO1,VO2,VO3,VO4,VO5,uses,op0,id0,h,OkNum,numLow,numHigh]; omega,ok_of (by show (2 : Int) ≠ 16; decide),by simp [op0]⟩
theorem t_3 {nm tx : List UInt8} {a b : Int} (h1 : 1 ≤ nm.length) (h2 : nm.length ≤ 16) (h3 : tx.length ≤ 60) (h4 : 1 ≤ a) (h5 : a ≤ b) (h6 : b ≤ 1000000) : TOp { op0 with k := 3,name := nm,text := tx,a := a,b := b } :=
  ⟨by simp [VOp,VO1,VO2,VO3,VO4,VO5,uses,op0,id0,OkSpan]; omega,ok_of (by show (3 : Int) ≠ 16; decide),h3⟩
theorem t_4 {on to : Id3} {n : Int} {tx : List UInt8} (h : OkId on) (h' : OkId to) (h1 : 0 ≤ n) (h2 : n ≤ 1000) (h3 : tx.length ≤ 60) : TOp { op0 with k := 4,on := on,to := to,n := n,text := tx } :=
  ⟨by simp [VOp,VO1,VO2,VO3,VO4,VO5,uses,op0,id0,h,h',OkNum,numLow,numHigh]; omega,ok_of (by show (4 : Int) ≠ 16; decide),h3⟩
theorem t_5 {on : Id3} {tx : List UInt8} (h : OkId on) (h3 : tx.length ≤ 60) : TOp { op0 with k := 5,on := on,text := tx } :=
  ⟨by simp [VOp,VO1,VO2,VO3,VO4,VO5,uses,op0,id0,h]; omega,ok_of (by show (5 : Int) ≠ 16; decide),h3⟩
theorem t_6 {on : Id3} {nm : List UInt8} (h : OkId on) (h1 : 1 ≤ nm.length) (h2 : nm.length ≤ 16) : TOp { op0 with k := 6,on := on,name := nm } :=
  ⟨by simp [VOp,VO1,VO2,VO3,VO4,VO5,uses,op0,id0,h]; omega,ok_of (by show (6 : Int) ≠ 16; decide),by simp [op0]⟩
theorem t_7 {on : Id3} {tx : List UInt8} (h : OkId on) (h3 : tx.length ≤ 60) : TOp { op0 with k := 7,on := on,text := tx } :=
  ⟨by simp [VOp,VO1,VO2,VO3,VO4,VO5,uses,op0,id0,h]; omega,ok_of (by show (7 : Int) ≠ 16; decide),h3⟩
theorem t_8 {on : Id3} {n : Int} (h : OkId on) (h1 : 0 ≤ n) (h2 : n ≤ 1000) : TOp { op0 with k := 8,on := on,n := n } :=
  ⟨by simp [VOp,VO1,VO2,VO3,VO4,VO5,uses,op0,id0,h,OkNum,numLow,numHigh]; omega,ok_of (by show (8 : Int) ≠ 16; decide),by simp [op0]⟩
theorem t_9 {on : Id3} {n : Int} (h : OkId on) (h1 : 0 ≤ n) (h2 : n ≤ 1) : TOp { op0 with k := 9,on := on,n := n } :=
  ⟨by simp [VOp,VO1,VO2,VO3,VO4,VO5,uses,op0,id0,h,OkNum,numLow,numHigh]; omega,ok_of (by show (9 : Int) ≠ 16; decide),by simp [op0]⟩
theorem t_10 {on : Id3} {n : Int} (h : OkId on) (h1 : 0 ≤ n) (h2 : n ≤ 1000) : TOp { op0 with k := 10,on := on,n := n } :=
  ⟨by simp [VOp,VO1,VO2,VO3,VO4,VO5,uses,op0,id0,h,OkNum,numLow,numHigh]; omega,ok_of (by show (10 : Int) ≠ 16; decide),by simp [op0]⟩
theorem t_11 {on : Id3} {a b : Int} (h : OkId on) (h4 : 1 ≤ a) (h5 : a ≤ b) (h6 : b ≤ 1000000) : TOp { op0 with k := 11,on := on,a := a,b := b } :=
  ⟨by simp [VOp,VO1,VO2,VO3,VO4,VO5,uses,op0,id0,h,OkSpan]; omega,ok_of (by show (11 : Int) ≠ 16; decide),by simp [op0]⟩
theorem t_12 {on : Id3} {nm tx : List UInt8} (h : OkId on) (h1 : 1 ≤ nm.length) (h2 : nm.length ≤ 16) (h3 : tx.length ≤ 60) : TOp { op0 with k := 12,on := on,name := nm,text := tx } :=
  ⟨by simp [VOp,VO1,VO2,VO3,VO4,VO5,uses,op0,id0,h]; omega,ok_of (by show (12 : Int) ≠ 16; decide),h3⟩
theorem t_13 {on to : Id3} {n : Int} (h : OkId on) (h' : OkId to) (h1 : 0 ≤ n) (h2 : n ≤ 1000) : TOp { op0 with k := 13,on := on,to := to,n := n } :=
  ⟨by simp [VOp,VO1,VO2,VO3,VO4,VO5,uses,op0,id0,h,h',OkNum,numLow,numHigh]; omega,ok_of (by show (13 : Int) ≠ 16; decide),by simp [op0]⟩
theorem t_14 {on : Id3} {nm : List UInt8} {n : Int} (h : OkId on) (h1 : 1 ≤ nm.length) (h2 : nm.length ≤ 16) (h3 : 0 ≤ n) (h4 : n ≤ 1) : TOp { op0 with k := 14,on := on,name := nm,n := n } :=
  ⟨by simp [VOp,VO1,VO2,VO3,VO4,VO5,uses,op0,id0,h,OkNum,numLow,numHigh]; omega,ok_of (by show (14 : Int) ≠ 16; decide),by simp [op0]⟩
theorem t_15 {on to : Id3} {n : Int} (h : OkId on) (h' : OkId to) (h1 : 0 ≤ n) (h2 : n ≤ 1) : TOp { op0 with k := 15,on := on,to := to,n := n } :=
  ⟨by simp [VOp,VO1,VO2,VO3,VO4,VO5,uses,op0,id0,h,h',OkNum,numLow,numHigh]; omega,ok_of (by show (15 : Int) ≠ 16; decide),by simp [op0]⟩
theorem t_16 {on x y : Id3} {n : Int} (h : OkId on) (hx : OkId x) (hy : OkId y) (hxy : x ≠ y) (hox : x ≠ on) (hoy : y ≠ on) (h1 : -1 ≤ n) (h2 : n ≤ 1) : TOp { op0 with k := 16,on := on,ids := [x,y],n := n } :=
  ⟨by simp [VOp,VO1,VO2,VO3,VO4,VO5,uses,op0,id0,h,hx,hy,hxy,hox,hoy,OkNum,numLow,numHigh,OkIds]; omega,fun _ => rfl,by simp [op0]⟩
theorem t_17 {on to : Id3} (h : OkId on) (h' : OkId to) (hne : on ≠ to) : TOp { op0 with k := 17,on := on,to := to } :=
  ⟨by simp [VOp,VO1,VO2,VO3,VO4,VO5,uses,op0,id0,h,h',hne],ok_of (by show (17 : Int) ≠ 16; decide),by simp [op0]⟩
theorem t_18 {on to x : Id3} (h : OkId on) (h' : OkId to) (hx : OkId x) : TOp { op0 with k := 18,on := on,to := to,ids := [x] } :=
  ⟨by simp [VOp,VO1,VO2,VO3,VO4,VO5,uses,op0,id0,h,h',hx,OkIds],ok_of (by show (18 : Int) ≠ 16; decide),by simp [op0]⟩
end Go.Proofs.YtoeckfegggongaaGreatDoor
end
