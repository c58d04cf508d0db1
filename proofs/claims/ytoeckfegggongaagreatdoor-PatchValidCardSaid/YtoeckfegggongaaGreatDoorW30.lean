/- A part of the proof of what the last text says: Gf7, Gn5, Gn6. Conditions: those in each theorem. -/
import Derived.Test.YtoeckfegggongaaGreatDoorW29
import Derived.KernelRfl
set_option linter.unusedVariables false
set_option linter.unusedSimpArgs false
set_option maxRecDepth 100000
set_option maxHeartbeats 16000000
open Nat (reduceSub reduceAdd reduceMul reduceEqDiff reduceLeDiff)
section
namespace Go.Proofs.YtoeckfegggongaaGreatDoor
open Go Go.Aw
theorem back_7 {n : Nat} {x1 x2 x3 x4 x5 x6 x7 : Nat × AO} {H : AH} (h : H.length = n) : back n (x1 :: x2 :: x3 :: x4 :: x5 :: x6 :: x7 :: H) = H := by
  rw [back_cons (by simp; omega),back_6 h]
theorem id_eq {a b : Id3} : (decide (a.o = b.o) && (decide (a.s = b.s) && decide (a.i = b.i))) = decide (a = b) := by
  cases a; cases b
  simp only [Id3.mk.injEq,Bool.decide_and]
theorem spl_len {x : Gs} {seen : List Bool} {p : Pt} (ho : ∀ q ∈ x.l,q.ops.length ≤ 1000) (hb : x.l.length ≤ 100) (hp : p.ops.length ≤ 1000) : (splits x seen p).length ≤ 101000 := by
  have h1 := splTo_len (x := x) (seen := seen) ho x.l.length
  have h2 := splOne_len (p := p) (ok := true) p.ops.length
  unfold splits
  rw [List.length_append]
  unfold splOne at h1 ⊢
  omega
theorem f_step {x : Gs} {seen : List Bool} {p : Pt} {m : List Int} {H : AH} {R : D → AH → Prop} (hs : x.l.length ≤ seen.length) (hb : x.l.length ≤ 100) (ho : ∀ q ∈ x.l,q.ops.length ≤ 1000) (hp : p.ops.length ≤ 700) (hen : (visible x seen p 2).length ≠ 0 → (visible x seen p 1).length ≠ 0) (hsp : ∀ o ∈ splits x seen p,o.ids.length = 2) (h : R (.agg (step x seen p m).d) H) : ACall Tryz.prog 73 [.agg x.d,.slc (boolsD seen),.agg p.d,.slc (ints m)] H R := by
  refine b73 fun hf => ?_
  have hbig := big_eq
  have hx : x.d = [.slc (ptsD x.l),.slc (pastD x.past)] := rfl
  have hd := @dE p
  simp +contextual only [x73,hx,hd,ops_len,pts_len,ids_len,h_miss,h_skip,↓U73,↓XP,XW0,XW1,reduceSub,reduceAdd,reduceMul,reduceEqDiff,reduceLeDiff,Nat.reduceBEq,reduceCtorEq,TYX]
  rintro b1 h1 b2 ⟨n12,h2⟩ b3 ⟨n23,n13,h3⟩
  refine f_visible (x := x) (p := p) hs hb ho (by omega) ?_
  have hvl1 : (visible x seen p 1).length ≤ 101000 := vis_len ho hb (by omega)
  have hvl2 : (visible x seen p 2).length ≤ 101000 := vis_len ho hb (by omega)
  have hvl3 : (visible x seen p 3).length ≤ 101000 := vis_len ho hb (by omega)
  have r0 := atOf_range (l := m) (i := 0) (most := 24) (by omega)
  have r15 := atOf_range (l := m) (i := 1) (most := 5) (by omega)
  have r28 := atOf_range (l := m) (i := 2) (most := 8) (by omega)
  have r38 := atOf_range (l := m) (i := 3) (most := 8) (by omega)
  have r32 := atOf_range (l := m) (i := 3) (most := 2) (by omega)
  have r360 := atOf_range (l := m) (i := 3) (most := 60) (by omega)
  have e5 : ([[.str [110]],[.str [110]],[.str [110]],[.str [118]],[.str [120]]] : List (List D)) = strs cls5 := rfl
  have e2 : ([[.str [110]],[.str [118]]] : List (List D)) = strs cls2 := rfl
  have l5 : cls5.length = 5 := rfl
  have l2 : cls2.length = 2 := rfl
  have l8 : heads8.length = 8 := rfl
  have s15 := strs_get (show (atOf m 1 5).toNat < cls5.length by rw [l5]; omega)
  have s28 := strs_get (show (atOf m 2 8).toNat < heads8.length by rw [l8]; omega)
  have s38 := strs_get (show (atOf m 3 8).toNat < heads8.length by rw [l8]; omega)
  have s32 := strs_get (show (atOf m 3 2).toNat < cls2.length by rw [l2]; omega)
  unfold step at h
  simp only at h
  generalize visible x seen p 1 = en at h hvl1 hen ⊢
  simp +contextual only [hx,hd,ops_len,pts_len,ids_len,h_miss,h_skip,n12,n13,n23,↓U73,↓XP,XW0,XW1,reduceSub,reduceAdd,reduceMul,reduceEqDiff,reduceLeDiff,Nat.reduceBEq,reduceCtorEq,TYX]
  refine fun _ => f_visible (x := x) (p := p) hs hb ho (by omega) ?_
  generalize visible x seen p 2 = se at h hvl2 hen ⊢
  simp +contextual only [hx,hd,ops_len,pts_len,ids_len,h_miss,h_skip,n12,n13,n23,↓U73,↓XP,XW0,XW1,reduceSub,reduceAdd,reduceMul,reduceEqDiff,reduceLeDiff,Nat.reduceBEq,reduceCtorEq,TYX]
  refine fun _ => f_at (i := 0) (by omega) ?_
  generalize atOf m 0 24 = c at h r0 ⊢
  simp +contextual only [hx,hd,ops_len,pts_len,ids_len,h_miss,h_skip,n12,n13,n23,↓U73,↓XP,XW0,XW1,reduceSub,reduceAdd,reduceMul,reduceEqDiff,reduceLeDiff,Nat.reduceBEq,reduceCtorEq,TYX]
  refine fun _ _ => ⟨fun h0 => ?_,fun h0 => ⟨fun h5 => ?_,fun h5 => ?_⟩⟩
  · rw [if_pos (.inl (by omega))] at h
    rintro _ _ _ b4 ⟨n34,n24,n14,h4⟩
    refine ⟨_,f_at (i := 1) (by omega) ⟨rfl,rfl⟩,?_⟩
    simp +contextual only [hx,hd,ops_len,pts_len,ids_len,h_miss,h_skip,n12,n13,n23,n14,n24,n34,e5,s15,s28,l5,l8,strs_len,↓U73,↓XP,XW0,XW1,reduceSub,reduceAdd,reduceMul,reduceEqDiff,reduceLeDiff,Nat.reduceBEq,reduceCtorEq,TYX]
    refine fun _ => ⟨by omega,by omega,fun _ => ?_⟩
    refine ⟨_,f_heads ⟨rfl,rfl⟩,?_⟩
    simp +contextual only [hx,hd,ops_len,pts_len,ids_len,h_miss,h_skip,n12,n13,n23,n14,n24,n34,e5,s15,s28,l5,l8,strs_len,↓U73,↓XP,XW0,XW1,reduceSub,reduceAdd,reduceMul,reduceEqDiff,reduceLeDiff,Nat.reduceBEq,reduceCtorEq,TYX]
    refine fun _ => ⟨_,f_at (i := 2) (by omega) ⟨rfl,rfl⟩,?_⟩
    simp +contextual only [hx,hd,ops_len,pts_len,ids_len,h_miss,h_skip,n12,n13,n23,n14,n24,n34,e5,s15,s28,l5,l8,strs_len,↓U73,↓XP,XW0,XW1,reduceSub,reduceAdd,reduceMul,reduceEqDiff,reduceLeDiff,Nat.reduceBEq,reduceCtorEq,TYX]
    refine fun _ => ⟨by omega,by omega,fun _ => ?_⟩
    refine ⟨_,f_with (p := p) (o := { op0 with k := 1,name := cls5.getD (atN m 1 5) [],text := heads8.getD (atN m 2 8) [] }) (by omega) ⟨rfl,rfl⟩,?_⟩
    generalize hp1 : withOp p { op0 with k := 1,name := cls5.getD (atN m 1 5) [],text := heads8.getD (atN m 2 8) [] } = p1 at h ⊢
    have lp1 : p1.ops.length ≤ 801 := by rw [← hp1,with_len]; omega
    have hd1 := @dE p1
    simp +contextual only [hd1,hx,hd,ops_len,pts_len,ids_len,h_miss,h_skip,n12,n13,n23,n14,n24,n34,e5,s15,s28,l5,l8,strs_len,↓U73,↓XP,XW0,XW1,reduceSub,reduceAdd,reduceMul,reduceEqDiff,reduceLeDiff,Nat.reduceBEq,reduceCtorEq,TYX]
    refine ⟨_,f_rest (n := 3) ⟨rfl,rfl⟩,?_⟩
    simp +contextual only [hd1,hx,hd,ops_len,pts_len,ids_len,h_miss,h_skip,n12,n13,n23,n14,n24,n34,e5,s15,s28,l5,l8,strs_len,↓U73,↓XP,XW0,XW1,reduceSub,reduceAdd,reduceMul,reduceEqDiff,reduceLeDiff,Nat.reduceBEq,reduceCtorEq,TYX]
    refine fun _ => ⟨_,f_meaning (p := p1) (on := nextId p) (m := m.drop 3) (by omega) ⟨rfl,rfl⟩,?_⟩
    generalize meaning p1 (nextId p) (m.drop 3) = p3 at h ⊢
    have hd3 := @dE p3
    simp +contextual only [hd3,hd1,hx,hd,ops_len,pts_len,ids_len,h_miss,h_skip,n12,n13,n23,n14,n24,n34,e5,s15,s28,l5,l8,strs_len,↓U73,↓XP,XW0,XW1,reduceSub,reduceAdd,reduceMul,reduceEqDiff,reduceLeDiff,Nat.reduceBEq,reduceCtorEq,TYX]
    intros
    exact h
  · rw [if_pos (.inr (by omega))] at h
    rintro _ _ _ b4 ⟨n34,n24,n14,h4⟩
    refine ⟨_,f_at (i := 1) (by omega) ⟨rfl,rfl⟩,?_⟩
    simp +contextual only [hx,hd,ops_len,pts_len,ids_len,h_miss,h_skip,n12,n13,n23,n14,n24,n34,e5,s15,s28,l5,l8,strs_len,↓U73,↓XP,XW0,XW1,reduceSub,reduceAdd,reduceMul,reduceEqDiff,reduceLeDiff,Nat.reduceBEq,reduceCtorEq,TYX]
    refine fun _ => ⟨by omega,by omega,fun _ => ?_⟩
    refine ⟨_,f_heads ⟨rfl,rfl⟩,?_⟩
    simp +contextual only [hx,hd,ops_len,pts_len,ids_len,h_miss,h_skip,n12,n13,n23,n14,n24,n34,e5,s15,s28,l5,l8,strs_len,↓U73,↓XP,XW0,XW1,reduceSub,reduceAdd,reduceMul,reduceEqDiff,reduceLeDiff,Nat.reduceBEq,reduceCtorEq,TYX]
    refine fun _ => ⟨_,f_at (i := 2) (by omega) ⟨rfl,rfl⟩,?_⟩
    simp +contextual only [hx,hd,ops_len,pts_len,ids_len,h_miss,h_skip,n12,n13,n23,n14,n24,n34,e5,s15,s28,l5,l8,strs_len,↓U73,↓XP,XW0,XW1,reduceSub,reduceAdd,reduceMul,reduceEqDiff,reduceLeDiff,Nat.reduceBEq,reduceCtorEq,TYX]
    refine fun _ => ⟨by omega,by omega,fun _ => ?_⟩
    refine ⟨_,f_with (p := p) (o := { op0 with k := 1,name := cls5.getD (atN m 1 5) [],text := heads8.getD (atN m 2 8) [] }) (by omega) ⟨rfl,rfl⟩,?_⟩
    generalize hp1 : withOp p { op0 with k := 1,name := cls5.getD (atN m 1 5) [],text := heads8.getD (atN m 2 8) [] } = p1 at h ⊢
    have lp1 : p1.ops.length ≤ 801 := by rw [← hp1,with_len]; omega
    have hd1 := @dE p1
    simp +contextual only [hd1,hx,hd,ops_len,pts_len,ids_len,h_miss,h_skip,n12,n13,n23,n14,n24,n34,e5,s15,s28,l5,l8,strs_len,↓U73,↓XP,XW0,XW1,reduceSub,reduceAdd,reduceMul,reduceEqDiff,reduceLeDiff,Nat.reduceBEq,reduceCtorEq,TYX]
    refine ⟨_,f_rest (n := 3) ⟨rfl,rfl⟩,?_⟩
    simp +contextual only [hd1,hx,hd,ops_len,pts_len,ids_len,h_miss,h_skip,n12,n13,n23,n14,n24,n34,e5,s15,s28,l5,l8,strs_len,↓U73,↓XP,XW0,XW1,reduceSub,reduceAdd,reduceMul,reduceEqDiff,reduceLeDiff,Nat.reduceBEq,reduceCtorEq,TYX]
    refine fun _ => ⟨_,f_meaning (p := p1) (on := nextId p) (m := m.drop 3) (by omega) ⟨rfl,rfl⟩,?_⟩
    generalize meaning p1 (nextId p) (m.drop 3) = p3 at h ⊢
    have hd3 := @dE p3
    simp +contextual only [hd3,hd1,hx,hd,ops_len,pts_len,ids_len,h_miss,h_skip,n12,n13,n23,n14,n24,n34,e5,s15,s28,l5,l8,strs_len,↓U73,↓XP,XW0,XW1,reduceSub,reduceAdd,reduceMul,reduceEqDiff,reduceLeDiff,Nat.reduceBEq,reduceCtorEq,TYX]
    intros
    exact h
  · rw [if_neg (by rintro (hc | hc); exact h0 (by omega); exact h5 (by omega))] at h
    have hen' := hen (by omega)
    clear hen
    have ra := atOf_range (l := m) (i := 1) (most := (en.length : Int)) (by omega)
    have rb := atOf_range (l := m) (i := 1) (most := (se.length : Int)) (by omega)
    have rc := atOf_range (l := m) (i := 2) (most := (se.length : Int)) (by omega)
    have sa : (idsD en).getD (atOf m 1 en.length).toNat [] = (en.getD (atN m 1 en.length) default).d := ids_get (show (atOf m 1 en.length).toNat < en.length by omega)
    have sb : (idsD se).getD (atOf m 1 se.length).toNat [] = (se.getD (atN m 1 se.length) default).d := ids_get (show (atOf m 1 se.length).toNat < se.length by omega)
    have sc : (idsD se).getD (atOf m 2 se.length).toNat [] = (se.getD (atN m 2 se.length) default).d := ids_get (show (atOf m 2 se.length).toNat < se.length by omega)
    generalize en.getD (atN m 1 en.length) default = ent at h sa
    generalize se.getD (atN m 1 se.length) default = sen at h sb
    generalize se.getD (atN m 2 se.length) default = oth at h sc
    have he1 : ent.d = [.int .i64 ent.o,.int .i64 ent.s,.int .i64 ent.i] := rfl
    have he2 : sen.d = [.int .i64 sen.o,.int .i64 sen.s,.int .i64 sen.i] := rfl
    have he3 : oth.d = [.int .i64 oth.o,.int .i64 oth.s,.int .i64 oth.i] := rfl
    refine fun _ => f_at (i := 1) (most := (en.length : Int)) (by omega) ?_
    simp +contextual only [hx,hd,ops_len,pts_len,ids_len,h_miss,h_skip,n12,n13,n23,sa,sb,sc,he1,he2,he3,↓U73,↓XP,XW0,XW1,reduceSub,reduceAdd,reduceMul,reduceEqDiff,reduceLeDiff,Nat.reduceBEq,reduceCtorEq,TYX]
    refine fun _ => ⟨by omega,by omega,?_⟩
    rintro b4 ⟨n34,n24,n14,h4⟩
    refine fun _ => f_at (i := 1) (most := (se.length : Int)) (by omega) ?_
    simp +contextual only [hx,hd,ops_len,pts_len,ids_len,h_miss,h_skip,n12,n13,n23,sa,sb,sc,he1,he2,he3,n14,n24,n34,↓U73,↓XP,XW0,XW1,reduceSub,reduceAdd,reduceMul,reduceEqDiff,reduceLeDiff,Nat.reduceBEq,reduceCtorEq,TYX]
    refine fun _ => ⟨by omega,by omega,?_⟩
    rintro b5 ⟨n45,n35,n25,n15,h5⟩
    have hc : c = 6 ∨ c = 7 ∨ c = 8 ∨ c = 9 ∨ c = 10 ∨ c = 11 ∨ c = 12 ∨ c = 13 ∨ c = 14 ∨ 14 < c := by omega
    refine fun _ => f_at (i := 2) (most := (se.length : Int)) (by omega) ?_
    rcases hc with rfl | rfl | rfl | rfl | rfl | rfl | rfl | rfl | rfl | hc
    · clear h0 h5 r0
      have q7 : ((6 : Int) = 7) = False := by decide
      have q8 : ((6 : Int) = 8) = False := by decide
      have q9 : ((6 : Int) = 9) = False := by decide
      have q10 : ((6 : Int) = 10) = False := by decide
      have q11 : ((6 : Int) = 11) = False := by decide
      have q12 : ((6 : Int) = 12) = False := by decide
      have q13 : ((6 : Int) = 13) = False := by decide
      have q14 : ((6 : Int) = 14) = False := by decide
      rw [if_pos (by omega)] at h
      simp +contextual only [hx,hd,ops_len,pts_len,ids_len,h_miss,h_skip,n12,n13,n23,sa,sb,sc,he1,he2,he3,n14,n24,n34,n15,n25,n35,n45,q7,q8,q9,q10,q11,q12,q13,q14,↓U73,↓XP,XW0,XW1,reduceSub,reduceAdd,reduceMul,reduceEqDiff,reduceLeDiff,Nat.reduceBEq,reduceCtorEq,TYX]
      refine fun _ => ⟨by omega,by omega,?_⟩
      rintro b6 ⟨n56,n46,n36,n26,n16,h6⟩
      refine ⟨_,f_rest (n := 2) ⟨rfl,rfl⟩,?_⟩
      simp +contextual only [hx,hd,ops_len,pts_len,ids_len,h_miss,h_skip,n12,n13,n23,sa,sb,sc,he1,he2,he3,n14,n24,n34,n15,n25,n35,n45,n16,n26,n36,n46,n56,q7,q8,q9,q10,q11,q12,q13,q14,↓U73,↓XP,XW0,XW1,reduceSub,reduceAdd,reduceMul,reduceEqDiff,reduceLeDiff,Nat.reduceBEq,reduceCtorEq,TYX]
      refine fun _ => ⟨_,f_meaning (p := p) (on := ent) (m := m.drop 2) (by omega) ⟨rfl,rfl⟩,?_⟩
      generalize meaning p ent (m.drop 2) = p3 at h ⊢
      have hd3 := @dE p3
      simp +contextual only [hd3,hx,hd,ops_len,pts_len,ids_len,h_miss,h_skip,n12,n13,n23,sa,sb,sc,he1,he2,he3,n14,n24,n34,n15,n25,n35,n45,n16,n26,n36,n46,n56,q7,q8,q9,q10,q11,q12,q13,q14,↓U73,↓XP,XW0,XW1,reduceSub,reduceAdd,reduceMul,reduceEqDiff,reduceLeDiff,Nat.reduceBEq,reduceCtorEq,TYX]
      intros
      exact h
    · clear h0 h5 r0
      have q6 : ((7 : Int) = 6) = False := by decide
      have q8 : ((7 : Int) = 8) = False := by decide
      have q9 : ((7 : Int) = 9) = False := by decide
      have q10 : ((7 : Int) = 10) = False := by decide
      have q11 : ((7 : Int) = 11) = False := by decide
      have q12 : ((7 : Int) = 12) = False := by decide
      have q13 : ((7 : Int) = 13) = False := by decide
      have q14 : ((7 : Int) = 14) = False := by decide
      rw [if_neg (by omega),if_pos (by omega)] at h
      simp +contextual only [hx,hd,ops_len,pts_len,ids_len,h_miss,h_skip,n12,n13,n23,sa,sb,sc,he1,he2,he3,n14,n24,n34,n15,n25,n35,n45,q6,q8,q9,q10,q11,q12,q13,q14,↓U73,↓XP,XW0,XW1,reduceSub,reduceAdd,reduceMul,reduceEqDiff,reduceLeDiff,Nat.reduceBEq,reduceCtorEq,TYX]
      refine fun _ => ⟨by omega,by omega,?_⟩
      rintro b6 ⟨n56,n46,n36,n26,n16,h6⟩
      refine ⟨_,f_rest (n := 2) ⟨rfl,rfl⟩,?_⟩
      simp +contextual only [hx,hd,ops_len,pts_len,ids_len,h_miss,h_skip,n12,n13,n23,sa,sb,sc,he1,he2,he3,n14,n24,n34,n15,n25,n35,n45,n16,n26,n36,n46,n56,q6,q8,q9,q10,q11,q12,q13,q14,↓U73,↓XP,XW0,XW1,reduceSub,reduceAdd,reduceMul,reduceEqDiff,reduceLeDiff,Nat.reduceBEq,reduceCtorEq,TYX]
      refine fun _ => ⟨_,f_meaning (p := p) (on := sen) (m := m.drop 2) (by omega) ⟨rfl,rfl⟩,?_⟩
      generalize meaning p sen (m.drop 2) = p3 at h ⊢
      have hd3 := @dE p3
      simp +contextual only [hd3,hx,hd,ops_len,pts_len,ids_len,h_miss,h_skip,n12,n13,n23,sa,sb,sc,he1,he2,he3,n14,n24,n34,n15,n25,n35,n45,n16,n26,n36,n46,n56,q6,q8,q9,q10,q11,q12,q13,q14,↓U73,↓XP,XW0,XW1,reduceSub,reduceAdd,reduceMul,reduceEqDiff,reduceLeDiff,Nat.reduceBEq,reduceCtorEq,TYX]
      intros
      exact h
    · clear h0 h5 r0
      have q6 : ((8 : Int) = 6) = False := by decide
      have q7 : ((8 : Int) = 7) = False := by decide
      have q9 : ((8 : Int) = 9) = False := by decide
      have q10 : ((8 : Int) = 10) = False := by decide
      have q11 : ((8 : Int) = 11) = False := by decide
      have q12 : ((8 : Int) = 12) = False := by decide
      have q13 : ((8 : Int) = 13) = False := by decide
      have q14 : ((8 : Int) = 14) = False := by decide
      rw [if_neg (by omega),if_neg (by omega),if_pos (by omega)] at h
      simp +contextual only [hx,hd,ops_len,pts_len,ids_len,h_miss,h_skip,n12,n13,n23,sa,sb,sc,he1,he2,he3,n14,n24,n34,n15,n25,n35,n45,q6,q7,q9,q10,q11,q12,q13,q14,↓U73,↓XP,XW0,XW1,reduceSub,reduceAdd,reduceMul,reduceEqDiff,reduceLeDiff,Nat.reduceBEq,reduceCtorEq,TYX]
      refine fun _ => ⟨by omega,by omega,?_⟩
      rintro b6 ⟨n56,n46,n36,n26,n16,h6⟩
      refine ⟨_,f_rest (n := 2) ⟨rfl,rfl⟩,?_⟩
      simp +contextual only [hx,hd,ops_len,pts_len,ids_len,h_miss,h_skip,n12,n13,n23,sa,sb,sc,he1,he2,he3,n14,n24,n34,n15,n25,n35,n45,n16,n26,n36,n46,n56,q6,q7,q9,q10,q11,q12,q13,q14,↓U73,↓XP,XW0,XW1,reduceSub,reduceAdd,reduceMul,reduceEqDiff,reduceLeDiff,Nat.reduceBEq,reduceCtorEq,TYX]
      refine fun _ => ⟨_,f_quoted (x := x) (p := p) (sense := sen) (m := m.drop 2) hs hb ho (by omega) ⟨rfl,rfl⟩,?_⟩
      generalize quoted x seen p sen (m.drop 2) = p3 at h ⊢
      have hd3 := @dE p3
      simp +contextual only [hd3,hx,hd,ops_len,pts_len,ids_len,h_miss,h_skip,n12,n13,n23,sa,sb,sc,he1,he2,he3,n14,n24,n34,n15,n25,n35,n45,n16,n26,n36,n46,n56,q6,q7,q9,q10,q11,q12,q13,q14,↓U73,↓XP,XW0,XW1,reduceSub,reduceAdd,reduceMul,reduceEqDiff,reduceLeDiff,Nat.reduceBEq,reduceCtorEq,TYX]
      intros
      exact h
    · clear h0 h5 r0
      have q6 : ((9 : Int) = 6) = False := by decide
      have q7 : ((9 : Int) = 7) = False := by decide
      have q8 : ((9 : Int) = 8) = False := by decide
      have q10 : ((9 : Int) = 10) = False := by decide
      have q11 : ((9 : Int) = 11) = False := by decide
      have q12 : ((9 : Int) = 12) = False := by decide
      have q13 : ((9 : Int) = 13) = False := by decide
      have q14 : ((9 : Int) = 14) = False := by decide
      rw [if_neg (by omega),if_neg (by omega),if_pos (by omega)] at h
      simp +contextual only [hx,hd,ops_len,pts_len,ids_len,h_miss,h_skip,n12,n13,n23,sa,sb,sc,he1,he2,he3,n14,n24,n34,n15,n25,n35,n45,q6,q7,q8,q10,q11,q12,q13,q14,↓U73,↓XP,XW0,XW1,reduceSub,reduceAdd,reduceMul,reduceEqDiff,reduceLeDiff,Nat.reduceBEq,reduceCtorEq,TYX]
      refine fun _ => ⟨by omega,by omega,?_⟩
      rintro b6 ⟨n56,n46,n36,n26,n16,h6⟩
      refine ⟨_,f_rest (n := 2) ⟨rfl,rfl⟩,?_⟩
      simp +contextual only [hx,hd,ops_len,pts_len,ids_len,h_miss,h_skip,n12,n13,n23,sa,sb,sc,he1,he2,he3,n14,n24,n34,n15,n25,n35,n45,n16,n26,n36,n46,n56,q6,q7,q8,q10,q11,q12,q13,q14,↓U73,↓XP,XW0,XW1,reduceSub,reduceAdd,reduceMul,reduceEqDiff,reduceLeDiff,Nat.reduceBEq,reduceCtorEq,TYX]
      refine fun _ => ⟨_,f_quoted (x := x) (p := p) (sense := sen) (m := m.drop 2) hs hb ho (by omega) ⟨rfl,rfl⟩,?_⟩
      generalize quoted x seen p sen (m.drop 2) = p3 at h ⊢
      have hd3 := @dE p3
      simp +contextual only [hd3,hx,hd,ops_len,pts_len,ids_len,h_miss,h_skip,n12,n13,n23,sa,sb,sc,he1,he2,he3,n14,n24,n34,n15,n25,n35,n45,n16,n26,n36,n46,n56,q6,q7,q8,q10,q11,q12,q13,q14,↓U73,↓XP,XW0,XW1,reduceSub,reduceAdd,reduceMul,reduceEqDiff,reduceLeDiff,Nat.reduceBEq,reduceCtorEq,TYX]
      intros
      exact h
    · clear h0 h5 r0
      have q6 : ((10 : Int) = 6) = False := by decide
      have q7 : ((10 : Int) = 7) = False := by decide
      have q8 : ((10 : Int) = 8) = False := by decide
      have q9 : ((10 : Int) = 9) = False := by decide
      have q11 : ((10 : Int) = 11) = False := by decide
      have q12 : ((10 : Int) = 12) = False := by decide
      have q13 : ((10 : Int) = 13) = False := by decide
      have q14 : ((10 : Int) = 14) = False := by decide
      rw [if_neg (by omega),if_neg (by omega),if_neg (by omega),if_pos (by omega)] at h
      simp +contextual only [hx,hd,ops_len,pts_len,ids_len,h_miss,h_skip,n12,n13,n23,sa,sb,sc,he1,he2,he3,n14,n24,n34,n15,n25,n35,n45,q6,q7,q8,q9,q11,q12,q13,q14,↓U73,↓XP,XW0,XW1,reduceSub,reduceAdd,reduceMul,reduceEqDiff,reduceLeDiff,Nat.reduceBEq,reduceCtorEq,TYX]
      refine fun _ => ⟨by omega,by omega,?_⟩
      rintro b6 ⟨n56,n46,n36,n26,n16,h6⟩
      refine ⟨_,f_rest (n := 2) ⟨rfl,rfl⟩,?_⟩
      simp +contextual only [hx,hd,ops_len,pts_len,ids_len,h_miss,h_skip,n12,n13,n23,sa,sb,sc,he1,he2,he3,n14,n24,n34,n15,n25,n35,n45,n16,n26,n36,n46,n56,q6,q7,q8,q9,q11,q12,q13,q14,↓U73,↓XP,XW0,XW1,reduceSub,reduceAdd,reduceMul,reduceEqDiff,reduceLeDiff,Nat.reduceBEq,reduceCtorEq,TYX]
      refine fun _ => ⟨_,f_divided (p := p) (entry := ent) (sense := sen) (m := m.drop 2) (by omega) ⟨rfl,rfl⟩,?_⟩
      generalize divided p ent sen (m.drop 2) = p3 at h ⊢
      have hd3 := @dE p3
      simp +contextual only [hd3,hx,hd,ops_len,pts_len,ids_len,h_miss,h_skip,n12,n13,n23,sa,sb,sc,he1,he2,he3,n14,n24,n34,n15,n25,n35,n45,n16,n26,n36,n46,n56,q6,q7,q8,q9,q11,q12,q13,q14,↓U73,↓XP,XW0,XW1,reduceSub,reduceAdd,reduceMul,reduceEqDiff,reduceLeDiff,Nat.reduceBEq,reduceCtorEq,TYX]
      intros
      exact h
    · clear h0 h5 r0
      have q6 : ((11 : Int) = 6) = False := by decide
      have q7 : ((11 : Int) = 7) = False := by decide
      have q8 : ((11 : Int) = 8) = False := by decide
      have q9 : ((11 : Int) = 9) = False := by decide
      have q10 : ((11 : Int) = 10) = False := by decide
      have q12 : ((11 : Int) = 12) = False := by decide
      have q13 : ((11 : Int) = 13) = False := by decide
      have q14 : ((11 : Int) = 14) = False := by decide
      rw [if_neg (by omega),if_neg (by omega),if_neg (by omega),if_neg (by omega),if_pos (by omega)] at h
      simp +contextual only [hx,hd,ops_len,pts_len,ids_len,h_miss,h_skip,n12,n13,n23,sa,sb,sc,he1,he2,he3,n14,n24,n34,n15,n25,n35,n45,q6,q7,q8,q9,q10,q12,q13,q14,↓U73,↓XP,XW0,XW1,reduceSub,reduceAdd,reduceMul,reduceEqDiff,reduceLeDiff,Nat.reduceBEq,reduceCtorEq,TYX]
      refine fun _ => ⟨by omega,by omega,?_⟩
      rintro b6 ⟨n56,n46,n36,n26,n16,h6⟩
      rw [id_eq]
      refine ⟨fun hq => ?_,fun hq => ?_⟩
      · rw [if_neg (of_decide_eq_false hq)] at h
        refine f_with (p := p) (o := { op0 with k := 17,on := sen,to := oth }) (by omega) ?_
        generalize withOp p { op0 with k := 17,on := sen,to := oth } = p3 at h ⊢
        have hd3 := @dE p3
        simp +contextual only [hd3,hx,hd,ops_len,pts_len,ids_len,h_miss,h_skip,n12,n13,n23,sa,sb,sc,he1,he2,he3,n14,n24,n34,n15,n25,n35,n45,n16,n26,n36,n46,n56,q6,q7,q8,q9,q10,q12,q13,q14,↓U73,↓XP,XW0,XW1,reduceSub,reduceAdd,reduceMul,reduceEqDiff,reduceLeDiff,Nat.reduceBEq,reduceCtorEq,TYX]
        intros
        exact h
      · rw [if_pos (of_decide_eq_true hq)] at h
        unfold stepRest at h
        refine ⟨by decide,_,f_rest (n := 1) ⟨rfl,rfl⟩,?_⟩
        simp +contextual only [hx,hd,ops_len,pts_len,ids_len,h_miss,h_skip,n12,n13,n23,sa,sb,sc,he1,he2,he3,n14,n24,n34,n15,n25,n35,n45,n16,n26,n36,n46,n56,q6,q7,q8,q9,q10,q12,q13,q14,↓U73,↓XP,XW0,XW1,reduceSub,reduceAdd,reduceMul,reduceEqDiff,reduceLeDiff,Nat.reduceBEq,reduceCtorEq,TYX]
        refine fun _ => ⟨_,f_small (sense := sen) (other := oth) (n := ((11 : Int).tmod 11)) (m := m.drop 1) ⟨rfl,rfl⟩,?_⟩
        generalize small sen oth ((11 : Int).tmod 11) (m.drop 1) = o at h ⊢
        have hod : o.d = [.int .i64 o.k,.int .i64 o.on.o,.int .i64 o.on.s,.int .i64 o.on.i,.int .i64 o.to.o,.int .i64 o.to.s,.int .i64 o.to.i,.slc (idsD o.ids),.int .i64 o.n,.str o.name,.str o.text,.int .i64 o.a,.int .i64 o.b] := rfl
        simp +contextual only [hod,hx,hd,ops_len,pts_len,ids_len,h_miss,h_skip,n12,n13,n23,sa,sb,sc,he1,he2,he3,n14,n24,n34,n15,n25,n35,n45,n16,n26,n36,n46,n56,q6,q7,q8,q9,q10,q12,q13,q14,↓U73,↓XP,XW0,XW1,reduceSub,reduceAdd,reduceMul,reduceEqDiff,reduceLeDiff,Nat.reduceBEq,reduceCtorEq,TYX]
        refine ⟨_,f_with (p := p) (o := o) (by omega) ⟨rfl,rfl⟩,?_⟩
        generalize withOp p o = p3 at h ⊢
        have hd3 := @dE p3
        simp +contextual only [hd3,hx,hd,ops_len,pts_len,ids_len,h_miss,h_skip,n12,n13,n23,sa,sb,sc,he1,he2,he3,n14,n24,n34,n15,n25,n35,n45,n16,n26,n36,n46,n56,q6,q7,q8,q9,q10,q12,q13,q14,↓U73,↓XP,XW0,XW1,reduceSub,reduceAdd,reduceMul,reduceEqDiff,reduceLeDiff,Nat.reduceBEq,reduceCtorEq,TYX]
        intros
        exact h
    · clear h0 h5 r0
      have q6 : ((12 : Int) = 6) = False := by decide
      have q7 : ((12 : Int) = 7) = False := by decide
      have q8 : ((12 : Int) = 8) = False := by decide
      have q9 : ((12 : Int) = 9) = False := by decide
      have q10 : ((12 : Int) = 10) = False := by decide
      have q11 : ((12 : Int) = 11) = False := by decide
      have q13 : ((12 : Int) = 13) = False := by decide
      have q14 : ((12 : Int) = 14) = False := by decide
      rw [if_neg (by omega),if_neg (by omega),if_neg (by omega),if_neg (by omega),if_neg (by omega),if_pos (by omega)] at h
      simp +contextual only [hx,hd,ops_len,pts_len,ids_len,h_miss,h_skip,n12,n13,n23,sa,sb,sc,he1,he2,he3,n14,n24,n34,n15,n25,n35,n45,q6,q7,q8,q9,q10,q11,q13,q14,↓U73,↓XP,XW0,XW1,reduceSub,reduceAdd,reduceMul,reduceEqDiff,reduceLeDiff,Nat.reduceBEq,reduceCtorEq,TYX]
      refine fun _ => ⟨by omega,by omega,?_⟩
      rintro b6 ⟨n56,n46,n36,n26,n16,h6⟩
      refine f_splits (x := x) (p := p) hs hb ho (by omega) ?_
      have hspl : (splits x seen p).length ≤ 101000 := spl_len ho hb (by omega)
      generalize splits x seen p = spl at h hsp hspl ⊢
      simp +contextual only [hx,hd,ops_len,pts_len,ids_len,h_miss,h_skip,n12,n13,n23,sa,sb,sc,he1,he2,he3,n14,n24,n34,n15,n25,n35,n45,n16,n26,n36,n46,n56,q6,q7,q8,q9,q10,q11,q13,q14,↓U73,↓XP,XW0,XW1,reduceSub,reduceAdd,reduceMul,reduceEqDiff,reduceLeDiff,Nat.reduceBEq,reduceCtorEq,TYX]
      refine fun _ => ⟨fun hl0 => ?_,fun hl0 => ?_⟩
      · rw [if_neg (by omega)] at h
        have rd := atOf_range (l := m) (i := 3) (most := (spl.length : Int)) (by omega)
        have hlt : atN m 3 spl.length < spl.length := by unfold atN; omega
        have sd : (opsD spl).getD (atOf m 3 spl.length).toNat [] = (spl.getD (atN m 3 spl.length) default).d := ops_get hlt
        have hi2 : (spl.getD (atN m 3 spl.length) default).ids.length = 2 := hsp _ (by rw [getD_lt hlt]; exact List.getElem_mem _)
        generalize spl.getD (atN m 3 spl.length) default = o at h sd hi2
        have hod : o.d = [.int .i64 o.k,.int .i64 o.on.o,.int .i64 o.on.s,.int .i64 o.on.i,.int .i64 o.to.o,.int .i64 o.to.s,.int .i64 o.to.i,.slc (idsD o.ids),.int .i64 o.n,.str o.name,.str o.text,.int .i64 o.a,.int .i64 o.b] := rfl
        refine f_at (i := 3) (most := (spl.length : Int)) (by omega) ?_
        simp +contextual only [sd,hod,hx,hd,ops_len,pts_len,ids_len,h_miss,h_skip,n12,n13,n23,sa,sb,sc,he1,he2,he3,n14,n24,n34,n15,n25,n35,n45,n16,n26,n36,n46,n56,q6,q7,q8,q9,q10,q11,q13,q14,↓U73,↓XP,XW0,XW1,reduceSub,reduceAdd,reduceMul,reduceEqDiff,reduceLeDiff,Nat.reduceBEq,reduceCtorEq,TYX]
        refine fun _ => ⟨by omega,by omega,?_⟩
        rintro b7 ⟨n67,n57,n47,n37,n27,n17,h7⟩
        have rf := atOf_range (l := m) (i := 4) (most := (o.ids.length : Int)) (by omega)
        have hlf : atN m 4 o.ids.length < o.ids.length := by unfold atN; omega
        have sf : (idsD o.ids).getD (atOf m 4 o.ids.length).toNat [] = (o.ids.getD (atN m 4 o.ids.length) default).d := ids_get hlf
        generalize o.ids.getD (atN m 4 o.ids.length) default = it at h sf
        have hit : it.d = [.int .i64 it.o,.int .i64 it.s,.int .i64 it.i] := rfl
        refine fun _ => ⟨_,f_at (i := 4) (most := (o.ids.length : Int)) (by omega) ⟨rfl,rfl⟩,?_⟩
        simp +contextual only [hx,hd,ops_len,pts_len,ids_len,h_miss,h_skip,n12,n13,n23,sa,sb,sc,he1,he2,he3,n14,n24,n34,n15,n25,n35,n45,n16,n26,n36,n46,n56,q6,q7,q8,q9,q10,q11,q13,q14,sf,hit,hod,back_7,n17,n27,n37,n47,n57,n67,↓U73,↓XP,XW0,XW1,reduceSub,reduceAdd,reduceMul,reduceEqDiff,reduceLeDiff,Nat.reduceBEq,reduceCtorEq,TYX]
        refine fun _ => ⟨by omega,by omega,?_⟩
        refine ⟨_,f_with (p := p) (o := { op0 with k := 18,on := sen,to := o.on,ids := [it] }) (by omega) ⟨rfl,rfl⟩,?_⟩
        generalize withOp p { op0 with k := 18,on := sen,to := o.on,ids := [it] } = p3 at h ⊢
        have hd3 := @dE p3
        simp +contextual only [hd3,hx,hd,ops_len,pts_len,ids_len,h_miss,h_skip,n12,n13,n23,sa,sb,sc,he1,he2,he3,n14,n24,n34,n15,n25,n35,n45,n16,n26,n36,n46,n56,q6,q7,q8,q9,q10,q11,q13,q14,sf,hit,hod,back_7,n17,n27,n37,n47,n57,n67,↓U73,↓XP,XW0,XW1,reduceSub,reduceAdd,reduceMul,reduceEqDiff,reduceLeDiff,Nat.reduceBEq,reduceCtorEq,TYX]
        intros
        exact h
      · rw [if_pos (by omega)] at h
        unfold stepRest at h
        refine ⟨by decide,_,f_rest (n := 1) ⟨rfl,rfl⟩,?_⟩
        simp +contextual only [hx,hd,ops_len,pts_len,ids_len,h_miss,h_skip,n12,n13,n23,sa,sb,sc,he1,he2,he3,n14,n24,n34,n15,n25,n35,n45,n16,n26,n36,n46,n56,q6,q7,q8,q9,q10,q11,q13,q14,↓U73,↓XP,XW0,XW1,reduceSub,reduceAdd,reduceMul,reduceEqDiff,reduceLeDiff,Nat.reduceBEq,reduceCtorEq,TYX]
        refine fun _ => ⟨_,f_small (sense := sen) (other := oth) (n := ((12 : Int).tmod 11)) (m := m.drop 1) ⟨rfl,rfl⟩,?_⟩
        generalize small sen oth ((12 : Int).tmod 11) (m.drop 1) = o at h ⊢
        have hod : o.d = [.int .i64 o.k,.int .i64 o.on.o,.int .i64 o.on.s,.int .i64 o.on.i,.int .i64 o.to.o,.int .i64 o.to.s,.int .i64 o.to.i,.slc (idsD o.ids),.int .i64 o.n,.str o.name,.str o.text,.int .i64 o.a,.int .i64 o.b] := rfl
        simp +contextual only [hod,hx,hd,ops_len,pts_len,ids_len,h_miss,h_skip,n12,n13,n23,sa,sb,sc,he1,he2,he3,n14,n24,n34,n15,n25,n35,n45,n16,n26,n36,n46,n56,q6,q7,q8,q9,q10,q11,q13,q14,↓U73,↓XP,XW0,XW1,reduceSub,reduceAdd,reduceMul,reduceEqDiff,reduceLeDiff,Nat.reduceBEq,reduceCtorEq,TYX]
        refine ⟨_,f_with (p := p) (o := o) (by omega) ⟨rfl,rfl⟩,?_⟩
        generalize withOp p o = p3 at h ⊢
        have hd3 := @dE p3
        simp +contextual only [hd3,hx,hd,ops_len,pts_len,ids_len,h_miss,h_skip,n12,n13,n23,sa,sb,sc,he1,he2,he3,n14,n24,n34,n15,n25,n35,n45,n16,n26,n36,n46,n56,q6,q7,q8,q9,q10,q11,q13,q14,↓U73,↓XP,XW0,XW1,reduceSub,reduceAdd,reduceMul,reduceEqDiff,reduceLeDiff,Nat.reduceBEq,reduceCtorEq,TYX]
        intros
        exact h
    · clear h0 h5 r0
      have q6 : ((13 : Int) = 6) = False := by decide
      have q7 : ((13 : Int) = 7) = False := by decide
      have q8 : ((13 : Int) = 8) = False := by decide
      have q9 : ((13 : Int) = 9) = False := by decide
      have q10 : ((13 : Int) = 10) = False := by decide
      have q11 : ((13 : Int) = 11) = False := by decide
      have q12 : ((13 : Int) = 12) = False := by decide
      have q14 : ((13 : Int) = 14) = False := by decide
      rw [if_neg (by omega),if_neg (by omega),if_neg (by omega),if_neg (by omega),if_neg (by omega),if_neg (by omega),if_pos (by omega)] at h
      simp +contextual only [hx,hd,ops_len,pts_len,ids_len,h_miss,h_skip,n12,n13,n23,sa,sb,sc,he1,he2,he3,n14,n24,n34,n15,n25,n35,n45,q6,q7,q8,q9,q10,q11,q12,q14,↓U73,↓XP,XW0,XW1,reduceSub,reduceAdd,reduceMul,reduceEqDiff,reduceLeDiff,Nat.reduceBEq,reduceCtorEq,TYX]
      refine fun _ => ⟨by omega,by omega,?_⟩
      rintro b6 ⟨n56,n46,n36,n26,n16,h6⟩
      refine f_at (i := 2) (by omega) ?_
      simp +contextual only [hx,hd,ops_len,pts_len,ids_len,h_miss,h_skip,n12,n13,n23,sa,sb,sc,he1,he2,he3,n14,n24,n34,n15,n25,n35,n45,n16,n26,n36,n46,n56,q6,q7,q8,q9,q10,q11,q12,q14,↓U73,↓XP,XW0,XW1,reduceSub,reduceAdd,reduceMul,reduceEqDiff,reduceLeDiff,Nat.reduceBEq,reduceCtorEq,TYX]
      refine fun _ => ⟨fun hq => ?_,fun hq => ?_⟩
      · rw [if_pos (by omega)] at h
        refine ⟨_,f_heads ⟨rfl,rfl⟩,?_⟩
        simp +contextual only [hx,hd,ops_len,pts_len,ids_len,h_miss,h_skip,n12,n13,n23,sa,sb,sc,he1,he2,he3,n14,n24,n34,n15,n25,n35,n45,n16,n26,n36,n46,n56,q6,q7,q8,q9,q10,q11,q12,q14,s38,l8,strs_len,↓U73,↓XP,XW0,XW1,reduceSub,reduceAdd,reduceMul,reduceEqDiff,reduceLeDiff,Nat.reduceBEq,reduceCtorEq,TYX]
        refine fun _ => ⟨_,f_at (i := 3) (by omega) ⟨rfl,rfl⟩,?_⟩
        simp +contextual only [hx,hd,ops_len,pts_len,ids_len,h_miss,h_skip,n12,n13,n23,sa,sb,sc,he1,he2,he3,n14,n24,n34,n15,n25,n35,n45,n16,n26,n36,n46,n56,q6,q7,q8,q9,q10,q11,q12,q14,s38,l8,strs_len,↓U73,↓XP,XW0,XW1,reduceSub,reduceAdd,reduceMul,reduceEqDiff,reduceLeDiff,Nat.reduceBEq,reduceCtorEq,TYX]
        refine fun _ => ⟨by omega,by omega,fun _ => ?_⟩
        refine ⟨_,f_with (p := p) (o := { op0 with k := 5,on := ent,text := heads8.getD (atN m 3 8) [] }) (by omega) ⟨rfl,rfl⟩,?_⟩
        generalize withOp p { op0 with k := 5,on := ent,text := heads8.getD (atN m 3 8) [] } = p3 at h ⊢
        have hd3 := @dE p3
        simp +contextual only [hd3,hx,hd,ops_len,pts_len,ids_len,h_miss,h_skip,n12,n13,n23,sa,sb,sc,he1,he2,he3,n14,n24,n34,n15,n25,n35,n45,n16,n26,n36,n46,n56,q6,q7,q8,q9,q10,q11,q12,q14,s38,l8,strs_len,↓U73,↓XP,XW0,XW1,reduceSub,reduceAdd,reduceMul,reduceEqDiff,reduceLeDiff,Nat.reduceBEq,reduceCtorEq,TYX]
        intros
        exact h
      · rw [if_neg (by omega)] at h
        refine ⟨_,f_at (i := 3) (by omega) ⟨rfl,rfl⟩,?_⟩
        simp +contextual only [hx,hd,ops_len,pts_len,ids_len,h_miss,h_skip,n12,n13,n23,sa,sb,sc,he1,he2,he3,n14,n24,n34,n15,n25,n35,n45,n16,n26,n36,n46,n56,q6,q7,q8,q9,q10,q11,q12,q14,s32,l2,e2,strs_len,↓U73,↓XP,XW0,XW1,reduceSub,reduceAdd,reduceMul,reduceEqDiff,reduceLeDiff,Nat.reduceBEq,reduceCtorEq,TYX]
        refine fun _ => ⟨by omega,by omega,fun _ => ?_⟩
        refine ⟨_,f_with (p := p) (o := { op0 with k := 6,on := ent,name := cls2.getD (atN m 3 2) [] }) (by omega) ⟨rfl,rfl⟩,?_⟩
        generalize withOp p { op0 with k := 6,on := ent,name := cls2.getD (atN m 3 2) [] } = p3 at h ⊢
        have hd3 := @dE p3
        simp +contextual only [hd3,hx,hd,ops_len,pts_len,ids_len,h_miss,h_skip,n12,n13,n23,sa,sb,sc,he1,he2,he3,n14,n24,n34,n15,n25,n35,n45,n16,n26,n36,n46,n56,q6,q7,q8,q9,q10,q11,q12,q14,s32,l2,e2,strs_len,↓U73,↓XP,XW0,XW1,reduceSub,reduceAdd,reduceMul,reduceEqDiff,reduceLeDiff,Nat.reduceBEq,reduceCtorEq,TYX]
        intros
        exact h
    · clear h0 h5 r0
      have q6 : ((14 : Int) = 6) = False := by decide
      have q7 : ((14 : Int) = 7) = False := by decide
      have q8 : ((14 : Int) = 8) = False := by decide
      have q9 : ((14 : Int) = 9) = False := by decide
      have q10 : ((14 : Int) = 10) = False := by decide
      have q11 : ((14 : Int) = 11) = False := by decide
      have q12 : ((14 : Int) = 12) = False := by decide
      have q13 : ((14 : Int) = 13) = False := by decide
      rw [if_neg (by omega),if_neg (by omega),if_neg (by omega),if_neg (by omega),if_neg (by omega),if_neg (by omega),if_neg (by omega),if_pos (by omega)] at h
      simp +contextual only [hx,hd,ops_len,pts_len,ids_len,h_miss,h_skip,n12,n13,n23,sa,sb,sc,he1,he2,he3,n14,n24,n34,n15,n25,n35,n45,q6,q7,q8,q9,q10,q11,q12,q13,↓U73,↓XP,XW0,XW1,reduceSub,reduceAdd,reduceMul,reduceEqDiff,reduceLeDiff,Nat.reduceBEq,reduceCtorEq,TYX]
      refine fun _ => ⟨by omega,by omega,?_⟩
      rintro b6 ⟨n56,n46,n36,n26,n16,h6⟩
      refine f_visible (x := x) (p := p) hs hb ho (by omega) ?_
      generalize visible x seen p 3 = src at h hvl3 ⊢
      simp +contextual only [hx,hd,ops_len,pts_len,ids_len,h_miss,h_skip,n12,n13,n23,sa,sb,sc,he1,he2,he3,n14,n24,n34,n15,n25,n35,n45,n16,n26,n36,n46,n56,q6,q7,q8,q9,q10,q11,q12,q13,↓U73,↓XP,XW0,XW1,reduceSub,reduceAdd,reduceMul,reduceEqDiff,reduceLeDiff,Nat.reduceBEq,reduceCtorEq,TYX]
      refine fun _ => ⟨fun hl0 => ?_,fun hl0 => ?_⟩
      · rw [if_neg (by omega)] at h
        have w1 : IntKind.i64.wrap (500 * atOf m 3 60) = 500 * atOf m 3 60 := wrap_id (by omega) (by omega)
        have w2 : IntKind.i64.wrap (600000 + 500 * atOf m 3 60) = 600000 + 500 * atOf m 3 60 := wrap_id (by omega) (by omega)
        have w3 : IntKind.i64.wrap (600000 + 500 * atOf m 3 60 + 99) = 600000 + 500 * atOf m 3 60 + 99 := wrap_id (by omega) (by omega)
        have rd := atOf_range (l := m) (i := 2) (most := (src.length : Int)) (by omega)
        have hlt : atN m 2 src.length < src.length := by unfold atN; omega
        have sd : (idsD src).getD (atOf m 2 src.length).toNat [] = (src.getD (atN m 2 src.length) default).d := ids_get hlt
        generalize src.getD (atN m 2 src.length) default = it at h sd
        have hit : it.d = [.int .i64 it.o,.int .i64 it.s,.int .i64 it.i] := rfl
        refine f_at (i := 3) (by omega) ?_
        simp +contextual only [hx,hd,ops_len,pts_len,ids_len,h_miss,h_skip,n12,n13,n23,sa,sb,sc,he1,he2,he3,n14,n24,n34,n15,n25,n35,n45,n16,n26,n36,n46,n56,q6,q7,q8,q9,q10,q11,q12,q13,sd,hit,w1,w2,w3,↓U73,↓XP,XW0,XW1,reduceSub,reduceAdd,reduceMul,reduceEqDiff,reduceLeDiff,Nat.reduceBEq,reduceCtorEq,TYX]
        refine fun _ _ => ⟨_,f_at (i := 2) (most := (src.length : Int)) (by omega) ⟨rfl,rfl⟩,?_⟩
        simp +contextual only [hx,hd,ops_len,pts_len,ids_len,h_miss,h_skip,n12,n13,n23,sa,sb,sc,he1,he2,he3,n14,n24,n34,n15,n25,n35,n45,n16,n26,n36,n46,n56,q6,q7,q8,q9,q10,q11,q12,q13,sd,hit,w1,w2,w3,↓U73,↓XP,XW0,XW1,reduceSub,reduceAdd,reduceMul,reduceEqDiff,reduceLeDiff,Nat.reduceBEq,reduceCtorEq,TYX]
        refine fun _ => ⟨by omega,by omega,?_⟩
        refine ⟨_,f_with (p := p) (o := { op0 with k := 11,on := it,a := 600000 + 500 * atOf m 3 60,b := 600000 + 500 * atOf m 3 60 + 99 }) (by omega) ⟨rfl,rfl⟩,?_⟩
        generalize withOp p { op0 with k := 11,on := it,a := 600000 + 500 * atOf m 3 60,b := 600000 + 500 * atOf m 3 60 + 99 } = p3 at h ⊢
        have hd3 := @dE p3
        simp +contextual only [hd3,hx,hd,ops_len,pts_len,ids_len,h_miss,h_skip,n12,n13,n23,sa,sb,sc,he1,he2,he3,n14,n24,n34,n15,n25,n35,n45,n16,n26,n36,n46,n56,q6,q7,q8,q9,q10,q11,q12,q13,sd,hit,w1,w2,w3,↓U73,↓XP,XW0,XW1,reduceSub,reduceAdd,reduceMul,reduceEqDiff,reduceLeDiff,Nat.reduceBEq,reduceCtorEq,TYX]
        intros
        exact h
      · rw [if_pos (by omega)] at h
        unfold stepRest at h
        refine ⟨by decide,_,f_rest (n := 1) ⟨rfl,rfl⟩,?_⟩
        simp +contextual only [hx,hd,ops_len,pts_len,ids_len,h_miss,h_skip,n12,n13,n23,sa,sb,sc,he1,he2,he3,n14,n24,n34,n15,n25,n35,n45,n16,n26,n36,n46,n56,q6,q7,q8,q9,q10,q11,q12,q13,↓U73,↓XP,XW0,XW1,reduceSub,reduceAdd,reduceMul,reduceEqDiff,reduceLeDiff,Nat.reduceBEq,reduceCtorEq,TYX]
        refine fun _ => ⟨_,f_small (sense := sen) (other := oth) (n := ((14 : Int).tmod 11)) (m := m.drop 1) ⟨rfl,rfl⟩,?_⟩
        generalize small sen oth ((14 : Int).tmod 11) (m.drop 1) = o at h ⊢
        have hod : o.d = [.int .i64 o.k,.int .i64 o.on.o,.int .i64 o.on.s,.int .i64 o.on.i,.int .i64 o.to.o,.int .i64 o.to.s,.int .i64 o.to.i,.slc (idsD o.ids),.int .i64 o.n,.str o.name,.str o.text,.int .i64 o.a,.int .i64 o.b] := rfl
        simp +contextual only [hod,hx,hd,ops_len,pts_len,ids_len,h_miss,h_skip,n12,n13,n23,sa,sb,sc,he1,he2,he3,n14,n24,n34,n15,n25,n35,n45,n16,n26,n36,n46,n56,q6,q7,q8,q9,q10,q11,q12,q13,↓U73,↓XP,XW0,XW1,reduceSub,reduceAdd,reduceMul,reduceEqDiff,reduceLeDiff,Nat.reduceBEq,reduceCtorEq,TYX]
        refine ⟨_,f_with (p := p) (o := o) (by omega) ⟨rfl,rfl⟩,?_⟩
        generalize withOp p o = p3 at h ⊢
        have hd3 := @dE p3
        simp +contextual only [hd3,hx,hd,ops_len,pts_len,ids_len,h_miss,h_skip,n12,n13,n23,sa,sb,sc,he1,he2,he3,n14,n24,n34,n15,n25,n35,n45,n16,n26,n36,n46,n56,q6,q7,q8,q9,q10,q11,q12,q13,↓U73,↓XP,XW0,XW1,reduceSub,reduceAdd,reduceMul,reduceEqDiff,reduceLeDiff,Nat.reduceBEq,reduceCtorEq,TYX]
        intros
        exact h
    · have q6 : (c = 6) = False := eq_false (by omega)
      have q7 : (c = 7) = False := eq_false (by omega)
      have q8 : (c = 8) = False := eq_false (by omega)
      have q9 : (c = 9) = False := eq_false (by omega)
      have q10 : (c = 10) = False := eq_false (by omega)
      have q11 : (c = 11) = False := eq_false (by omega)
      have q12 : (c = 12) = False := eq_false (by omega)
      have q13 : (c = 13) = False := eq_false (by omega)
      have q14 : (c = 14) = False := eq_false (by omega)
      rw [if_neg (by omega),if_neg (by omega),if_neg (by omega),if_neg (by omega),if_neg (by omega),if_neg (by omega),if_neg (by omega),if_neg (by omega)] at h
      simp +contextual only [hx,hd,ops_len,pts_len,ids_len,h_miss,h_skip,n12,n13,n23,sa,sb,sc,he1,he2,he3,n14,n24,n34,n15,n25,n35,n45,q6,q7,q8,q9,q10,q11,q12,q13,q14,↓U73,↓XP,XW0,XW1,reduceSub,reduceAdd,reduceMul,reduceEqDiff,reduceLeDiff,Nat.reduceBEq,reduceCtorEq,TYX]
      refine fun _ => ⟨by omega,by omega,?_⟩
      rintro b6 ⟨n56,n46,n36,n26,n16,h6⟩
      unfold stepRest at h
      refine ⟨by decide,_,f_rest (n := 1) ⟨rfl,rfl⟩,?_⟩
      simp +contextual only [hx,hd,ops_len,pts_len,ids_len,h_miss,h_skip,n12,n13,n23,sa,sb,sc,he1,he2,he3,n14,n24,n34,n15,n25,n35,n45,n16,n26,n36,n46,n56,q6,q7,q8,q9,q10,q11,q12,q13,q14,↓U73,↓XP,XW0,XW1,reduceSub,reduceAdd,reduceMul,reduceEqDiff,reduceLeDiff,Nat.reduceBEq,reduceCtorEq,TYX]
      refine fun _ => ⟨_,f_small (sense := sen) (other := oth) (n := (c.tmod 11)) (m := m.drop 1) ⟨rfl,rfl⟩,?_⟩
      generalize small sen oth (c.tmod 11) (m.drop 1) = o at h ⊢
      have hod : o.d = [.int .i64 o.k,.int .i64 o.on.o,.int .i64 o.on.s,.int .i64 o.on.i,.int .i64 o.to.o,.int .i64 o.to.s,.int .i64 o.to.i,.slc (idsD o.ids),.int .i64 o.n,.str o.name,.str o.text,.int .i64 o.a,.int .i64 o.b] := rfl
      simp +contextual only [hod,hx,hd,ops_len,pts_len,ids_len,h_miss,h_skip,n12,n13,n23,sa,sb,sc,he1,he2,he3,n14,n24,n34,n15,n25,n35,n45,n16,n26,n36,n46,n56,q6,q7,q8,q9,q10,q11,q12,q13,q14,↓U73,↓XP,XW0,XW1,reduceSub,reduceAdd,reduceMul,reduceEqDiff,reduceLeDiff,Nat.reduceBEq,reduceCtorEq,TYX]
      refine ⟨_,f_with (p := p) (o := o) (by omega) ⟨rfl,rfl⟩,?_⟩
      generalize withOp p o = p3 at h ⊢
      have hd3 := @dE p3
      simp +contextual only [hd3,hx,hd,ops_len,pts_len,ids_len,h_miss,h_skip,n12,n13,n23,sa,sb,sc,he1,he2,he3,n14,n24,n34,n15,n25,n35,n45,n16,n26,n36,n46,n56,q6,q7,q8,q9,q10,q11,q12,q13,q14,↓U73,↓XP,XW0,XW1,reduceSub,reduceAdd,reduceMul,reduceEqDiff,reduceLeDiff,Nat.reduceBEq,reduceCtorEq,TYX]
      intros
      exact h
end Go.Proofs.YtoeckfegggongaaGreatDoor
end
section
namespace Go.Proofs.YtoeckfegggongaaGreatDoor
open Go Go.Aw
theorem n_steps {x : Gs} {seen : List Bool} {p : Pt} {m : List Int} {b3 b6 b8 : Nat} {c6 : AO} {H : AH} {Q : AQ} {F : List D} (hx : GInv x) (hb : x.l.length ≤ 20) (hs : seen.length = x.l.length) (hp : p.ops = []) (hv : VOk x seen p) (n38 : b3 ≠ b8) (n36 : b3 ≠ b6) (n68 : b6 ≠ b8)
    (hF : Fr 139 [(2,.slc (ints m)),(3,.ptr b3 0),(6,.ptr b6 0),(8,.ptr b8 0),(9,.slc (boolsD seen)),(13,.int .i64 0)] F) (hE : ∀ F',Fr 139 [(2,.slc (ints m)),(3,.ptr b3 0),(6,.ptr b6 0),(8,.ptr b8 0),(9,.slc (boolsD seen))] F' → ∀ i,i = 1 + atN m 5 2 → Q (.exit 4) F' ((b8,AO.cells (nextSteps x seen p m i).d) :: (b6,c6) :: (b3,AO.cells [.own (ptsD x.l),.own (pastD x.past)]) :: H)) :
    ∀ i,i = 0 → XW Tryz.prog x43_L14 F ((b8,AO.cells (nextSteps x seen p m i).d) :: (b6,c6) :: (b3,AO.cells [.own (ptsD x.l),.own (pastD x.past)]) :: H) Q := by
  intro i0 hi0
  have hbig := big_eq
  have a5 := atOf_range (l := m) (i := 5) (most := 2) (by omega)
  obtain ⟨n,hn⟩ : ∃ n : Nat,1 + atN m 5 2 = n := ⟨_,rfl⟩
  have hn2 : n ≤ 2 := by unfold atN at hn; omega
  have hne : 1 + atOf m 5 2 = (n : Int) := by unfold atN at hn; omega
  have w1 : IntKind.i64.wrap (1 + atOf m 5 2) = (n : Int) := by rw [hne]; exact wrap_id (by omega) (by omega)
  refine XW.loopK hm (fun F H' => ∃ (i : Nat),i ≤ n ∧ Fr 139 [(2,.slc (ints m)),(3,.ptr b3 0),(6,.ptr b6 0),(8,.ptr b8 0),(9,.slc (boolsD seen)),(13,.int .i64 (i : Int))] F ∧ ((b8,AO.cells (nextSteps x seen p m i).d) :: (b6,c6) :: (b3,AO.cells [.own (ptsD x.l),.own (pastD x.past)]) :: H) = H') (fun F H => match F.getD 13 .any with | .int _ n' => n - n'.toNat | _ => 0) ⟨0,by omega,hF,by rw [hi0]⟩ ?_
  clear hF hi0
  rintro _ _ ⟨i,hi,hF,rfl⟩ K hN hE' hR
  obtain ⟨z,rfl⟩ : ∃ z : Nat → D,_ = zz z 0 2 (.slc (ints m) :: .ptr b3 0 :: zz z 4 2 (.ptr b6 0 :: z 7 :: .ptr b8 0 :: .slc (boolsD seen) :: zz z 10 3 (.int .i64 (i : Int) :: zz z 14 125 []))) := hF.lit
  try dsimp only [zz,reduceAdd] at *
  clear hF hR
  by_cases hlt : i < n
  · have nx : ∀ F',Fr 139 [(2,.slc (ints m)),(3,.ptr b3 0),(6,.ptr b6 0),(8,.ptr b8 0),(9,.slc (boolsD seen)),(13,.int .i64 ((i + 1 : Nat) : Int))] F' → ∀ j,j = i + 1 → K .normal F' ((b8,AO.cells (nextSteps x seen p m j).d) :: (b6,c6) :: (b3,AO.cells [.own (ptsD x.l),.own (pastD x.past)]) :: H) := fun F' hF' j hj => hN _ _ ⟨i + 1,hlt,hF',by rw [hj]; exact (back_0 rfl).symm⟩ (by
      rw [List.getD_eq_getElem?_getD,hF'.2.2.2.2.2.2.1]
      simp only [List.getD_cons_succ,List.getD_cons_zero,Option.getD_some]
      omega)
    have nx2 := nx
    clear hN hE' hE nx
    obtain ⟨more,g1,g2⟩ := steps_inv (x := x) (seen := seen) (p := p) (m := m) hp hv i
    have nx := fun F' hF' => nx2 F' hF' (i + 1) rfl
    simp only [nextSteps] at nx
    clear nx2
    generalize nextSteps x seen p m i = q at g1 g2 nx ⊢
    have hqo : q.ops = more := by rw [g1.eq]; simp only [hp,List.nil_append]
    have hql := g1.len
    have hqk := g1.ok
    rw [← hqo] at hql hqk
    have hspl := splits_ok hx (seen := seen) (p := q) hqk
    have w2 : IntKind.i64.wrap (13 * (i : Int)) = 13 * (i : Int) := wrap_id (by omega) (by omega)
    have w3 : IntKind.i64.wrap (6 + 13 * (i : Int)) = ((6 + 13 * i : Nat) : Int) := by rw [wrap_id (by omega) (by omega)]; omega
    have hd := @dE q
    simp +contextual only [h_miss,h_skip,n38,n36,n68,x43,↓U43,↓XP,XW0,XW1,reduceSub,reduceAdd,reduceMul,reduceEqDiff,reduceLeDiff,Nat.reduceBEq,reduceCtorEq,TYX]
    refine f_at (i := 5) (by omega) ?_
    simp +contextual only [h_miss,h_skip,n38,n36,n68,x43,w1,hd,↓U43,↓XP,XW0,XW1,reduceSub,reduceAdd,reduceMul,reduceEqDiff,reduceLeDiff,Nat.reduceBEq,reduceCtorEq,TYX]
    refine fun _ => ⟨fun _ => ?_,fun hge => absurd (by omega) hge⟩
    simp +contextual only [h_miss,h_skip,n38,n36,n68,x43,w2,w3,hd,↓U43,↓XP,XW0,XW1,reduceSub,reduceAdd,reduceMul,reduceEqDiff,reduceLeDiff,Nat.reduceBEq,reduceCtorEq,TYX]
    refine ⟨_,f_rest ⟨rfl,rfl⟩,?_⟩
    simp +contextual only [h_miss,h_skip,n38,n36,n68,x43,hd,↓U43,↓XP,XW0,XW1,reduceSub,reduceAdd,reduceMul,reduceEqDiff,reduceLeDiff,Nat.reduceBEq,reduceCtorEq,TYX]
    refine fun _ => ⟨_,f_step (x := x) (p := q) (by omega) (by omega) (fun q hq => by have := hx.op q hq; omega) (by omega) g2 hspl ⟨rfl,rfl⟩,?_⟩
    generalize step x seen q (List.drop (6 + 13 * i) m) = p3 at nx ⊢
    have hd3 := @dE p3
    simp only [hd3] at nx
    simp +contextual only [h_miss,h_skip,n38,n36,n68,x43,hd,hd3,wrap_succ (show i ≤ big by omega),↓U43,↓XP,XW0,XW1,reduceSub,reduceAdd,reduceMul,reduceEqDiff,reduceLeDiff,Nat.reduceBEq,reduceCtorEq,TYX]
    exact nx _ ⟨rfl,rfl,rfl,rfl,rfl,rfl,rfl,trivial⟩
  · have hik : i = n := by omega
    subst hik
    clear hN
    simp +contextual only [h_miss,h_skip,n38,n36,n68,x43,↓U43,↓XP,XW0,XW1,reduceSub,reduceAdd,reduceMul,reduceEqDiff,reduceLeDiff,Nat.reduceBEq,reduceCtorEq,TYX]
    refine f_at (i := 5) (by omega) ?_
    simp +contextual only [h_miss,h_skip,n38,n36,n68,x43,w1,↓U43,↓XP,XW0,XW1,reduceSub,reduceAdd,reduceMul,reduceEqDiff,reduceLeDiff,Nat.reduceBEq,reduceCtorEq,TYX]
    exact fun _ => hE' _ _ _ (hE _ ⟨rfl,rfl,rfl,rfl,rfl,rfl,trivial⟩ _ hn.symm)
theorem dropR_cons {H : AH} {c b : Nat} {o : AO} {xs : List (List D)} (h : xs ≠ [] → b ≠ c) : dropR ((c,o) :: H) b xs = (c,o) :: dropR H b xs := by
  unfold dropR
  split
  · rfl
  · rename_i hx
    rw [e_miss (h hx)]
theorem dropR_get {H : AH} {b c : Nat} {o : AO} {xs : List (List D)} (h : xs ≠ [] → c ≠ b) (hg : getH H c = some o) : getH (dropR H b xs) c = some o := by
  unfold dropR
  split
  · exact hg
  · rename_i hx
    have hne := h hx
    induction H with
    | nil => cases hg
    | cons p r ih =>
      obtain ⟨e,o'⟩ := p
      unfold eraseH
      by_cases he : b = e
      · rw [if_pos he]
        subst he
        rwa [h_miss hne] at hg
      · rw [if_neg he]
        by_cases hc : c = e
        · subst hc
          rw [h_hit] at hg ⊢
          exact hg
        · rw [h_miss hc] at hg ⊢
          exact ih hg
theorem Gz.take2 {F : List D} {k : List D → AH → Prop} {H : AH} {b3 b6 : Nat} {c6 : AO} {bl cl bp cp : Nat} {xs ys : List (List D)} (h3 : freshH H b3) (h6 : freshH H b6) (hl : xs ≠ [] → getH H bl = some (.room cl xs)) (hp : ys ≠ [] → getH H bp = some (.room cp ys)) (hne : xs ≠ [] → ys ≠ [] → bl ≠ bp)
    (h : ∀ Hr : AH,Hr = dropR (dropR H bl xs) bp ys → Hr.Sublist H → k F ((b6,c6) :: (b3,.cells [.own xs,.own ys]) :: Hr)) : Gz F ((b6,c6) :: (b3,.cells [.osl bl cl xs,.osl bp cp ys]) :: H) k := by
  have f3 : ∀ {b o},getH H b = some o → b ≠ b3 := fun hg => fresh_ne h3 hg
  have f6 : ∀ {b o},getH H b = some o → b ≠ b6 := fun hg => fresh_ne h6 hg
  refine Gz.bind (k := fun F' H' => F' = F ∧ H' = (b3,.cells [.osl bl cl xs,.osl bp cp ys]) :: (b6,c6) :: H) (Gz.sb (fun hn => ?_) ⟨rfl,rfl⟩) ?_
  · refine ⟨?_,fun p hp => ?_⟩
    · simp only [List.map_cons,List.nodup_cons,List.mem_cons,not_or] at hn ⊢
      exact ⟨⟨fun e => hn.1.1 e.symm,hn.2.1⟩,hn.1.2,hn.2.2⟩
    · simp only [List.mem_cons] at hp ⊢
      rcases hp with h | h | h
      · exact .inr (.inl h)
      · exact .inl h
      · exact .inr (.inr h)
  intro F2 H2 hh
  rw [hh.1,hh.2]
  clear hh
  refine Gz.bind (k := fun F'' H'' => F'' = F ∧ H'' = (b3,.cells [.own xs,.osl bp cp ys]) :: (b6,c6) :: dropR H bl xs) (Gz.take (j := 0) rfl (fun hx => by rw [h_miss (f6 (hl hx))]; exact hl hx) ⟨rfl,by rw [dropR_cons (fun hx => f6 (hl hx))]; rfl⟩) ?_
  intro F2 H2 hh
  rw [hh.1,hh.2]
  clear hh
  have hp2 : ys ≠ [] → getH (dropR H bl xs) bp = some (.room cp ys) := fun hy => dropR_get (fun hx => (hne hx hy).symm) (hp hy)
  refine Gz.bind (k := fun F'' H'' => F'' = F ∧ H'' = (b3,.cells [.own xs,.own ys]) :: (b6,c6) :: dropR (dropR H bl xs) bp ys) (Gz.take (j := 1) rfl (fun hy => by rw [h_miss (f6 (hp hy))]; exact hp2 hy) ⟨rfl,by rw [dropR_cons (fun hy => f6 (hp hy))]; rfl⟩) ?_
  intro F2 H2 hh
  rw [hh.1,hh.2]
  clear hh
  refine Gz.sb (fun hn => ?_) (h (dropR (dropR H bl xs) bp ys) rfl (dropR_sub.trans dropR_sub))
  refine ⟨?_,fun p hp => ?_⟩
  · simp only [List.map_cons,List.nodup_cons,List.mem_cons,not_or] at hn ⊢
    exact ⟨⟨fun e => hn.1.1 e.symm,hn.2.1⟩,hn.1.2,hn.2.2⟩
  · simp only [List.mem_cons] at hp ⊢
    rcases hp with h | h | h
    · exact .inr (.inl h)
    · exact .inl h
    · exact .inr (.inr h)
theorem Gz.view1 {F : List D} {k : List D → AH → Prop} {H : AH} {bx : Nat} {cs : List D} (hg : getH H bx = some (.cells cs)) (h : k F (setH H bx (.cells (cs.map D.view1)))) : Gz F H k := by
  intro K w t hs
  refine ⟨F,_,K,h,.refl K w,hs.krel,⟨by rw [keys_set]; exact hs.hrel.nd,fun c' o' hm' => ?_⟩,hs.len,hs.slot⟩
  rcases mem_set hs.hrel.nd hm' with ⟨rfl,rfl⟩ | ⟨hne,hm'⟩
  · obtain ⟨hpb,c,T,hb,hcs,hrc⟩ := hs.hrel.ok c' _ (getH_mem hg)
    refine ⟨hpb,c,T,hb,by simpa using hcs,fun j d hd => ?_⟩
    rw [List.getElem?_map,Option.map_eq_some_iff] at hd
    obtain ⟨d',e1,rfl⟩ := hd
    obtain ⟨u,f1,f2,f3⟩ := hrc j d' e1
    refine ⟨u,f1,f2,?_⟩
    cases d' <;> first | exact f3 | exact OwnAt.rep f3
  · exact hs.hrel.ok c' o' hm'
end Go.Proofs.YtoeckfegggongaaGreatDoor
end
section
namespace Go.Proofs.YtoeckfegggongaaGreatDoor
open Go Go.Aw
theorem rep_bools {n : Nat} : (List.replicate n [D.bool false]).flatten = (List.replicate n false).map D.bool := by
  induction n with
  | zero => rfl
  | succ n ih => rw [List.replicate_succ,List.replicate_succ,List.flatten_cons,ih]; rfl
theorem bools_flat {l : List Bool} : l.map D.bool = (boolsD l).flatten ++ [] := by
  induction l with
  | nil => rfl
  | cons b r ih => simp only [List.map_cons,boolsD,List.flatten_cons,List.cons_append,List.nil_append]; rw [ih]; simp [boolsD]
theorem dropR_nil {H : AH} {b : Nat} : dropR H b [] = H := by simp [dropR]
theorem Gz.then {F : List D} {H : AH} {k : List D → AH → Prop} (h : Gz F H fun F' H' => Gz F' H' k) : Gz F H k := Gz.bind h fun _ _ h => h
theorem bytes4 : (Tryz.prog.info? 4).map (·.bytes) = some 1 := by kernel_rfl
theorem info4 {n : Int} (h : n ≤ 1000) : match Tryz.prog.info? 4 with | some i => (i.bytes : Int) * n ≤ 140737488355328 ∧ n ≤ 140737488355328 | none => False := by
  have h4 := bytes4
  cases hq : Tryz.prog.info? 4 with
  | none => rw [hq] at h4; cases h4
  | some i =>
    rw [hq] at h4
    simp only [Option.map_some,Option.some.injEq] at h4
    simp only [h4]
    omega
theorem f_next {x : Gs} {offices : Nat} {m : List Int} {bl cl bp cp : Nat} {H : AH} {R : D → AH → Prop} (hx : GInv x) (hb : x.l.length ≤ 20) (hof : 1 ≤ offices) (hof' : offices ≤ 10)
    (hr1 : ptsD x.l ≠ [] → getH H bl = some (.room cl (ptsD x.l))) (hr2 : pastD x.past ≠ [] → getH H bp = some (.room cp (pastD x.past)))
    (h : ∀ bl' cl' bp' cp',bl' ≠ bp' → freshH (dropR (dropR H bl (ptsD x.l)) bp (pastD x.past)) bl' → freshH (dropR (dropR H bl (ptsD x.l)) bp (pastD x.past)) bp' → R (.agg [.osl bl' cl' (ptsD (next x offices m).l),.osl bp' cp' (pastD (next x offices m).past)]) ((bp',.room cp' (pastD (next x offices m).past)) :: (bl',.room cl' (ptsD (next x offices m).l)) :: dropR (dropR H bl (ptsD x.l)) bp (pastD x.past))) :
    ACall Tryz.prog 43 [.agg [.osl bl cl (ptsD x.l),.osl bp cp (pastD x.past)],.int .i64 offices,.slc (ints m)] H R := by
  have hbig := big_eq
  have hne : ptsD x.l ≠ [] → pastD x.past ≠ [] → bl ≠ bp := fun h1 h2 e => by
    have e1 := hr1 h1
    rw [e,hr2 h2] at e1
    injection e1 with e1
    injection e1 with e1 e2
    cases hl : x.l with
    | nil => rw [hl] at h1; exact h1 rfl
    | cons p r =>
      cases hq : x.past with
      | nil => rw [hq] at h2; exact h2 rfl
      | cons p' r' => rw [hl,hq] at e2; simp [ptsD,pastD,Pt.d] at e2
  refine r43 fun hf => ?_
  simp +contextual only [x43,h_miss,h_skip,q_retRR,k_resR,↓U43,↓XP,XW0,XW1,reduceSub,reduceAdd,reduceMul,reduceEqDiff,reduceLeDiff,Nat.reduceBEq,reduceCtorEq,TYX]
  rintro b3 h3 b6 ⟨n36,h6⟩
  rw [c_gh]
  refine Gz.take2 h3 h6 hr1 hr2 hne fun Hr hHe hHr => ?_
  rw [← hHe] at h
  simp +contextual only [x43,h_miss,h_skip,q_retRR,k_resR,↓U43,↓XP,XW0,XW1,reduceSub,reduceAdd,reduceMul,reduceEqDiff,reduceLeDiff,Nat.reduceBEq,reduceCtorEq,TYX]
  refine f_at (i := 0) (by omega) ?_
  have a0 := atOf_range (l := m) (i := 0) (most := (offices : Int)) (by omega)
  simp +contextual only [x43,h_miss,h_skip,q_retRR,k_resR,n36,↓U43,↓XP,XW0,XW1,reduceSub,reduceAdd,reduceMul,reduceEqDiff,reduceLeDiff,Nat.reduceBEq,reduceCtorEq,TYX]
  intro _ b8 hh
  obtain ⟨n68,n38,h8⟩ := hh
  rw [c_gh]
  refine Gz.then (Gz.take (j := 3) rfl (fun h => (h rfl).elim) (Gz.weak h_hit ?_))
  rw [dropR_nil]
  simp +contextual only [x43,h_miss,h_skip,q_retRR,k_resR,n36,n68,n38,D.wk,pts_len,↓U43,↓XP,XW0,XW1,reduceSub,reduceAdd,reduceMul,reduceEqDiff,reduceLeDiff,Nat.reduceBEq,reduceCtorEq,TYX]
  refine fun _ => ⟨info4 (by omega),fun b9 hh => ?_⟩
  obtain ⟨n89,n69,n39,h9⟩ := hh
  rw [rep_bools]
  have hrn := rounds_needs (x := x) (o := atOf m 0 offices) (m := m) offices
  have hri := rounds_inv hx (o := atOf m 0 offices) (m := m) offices
  refine n_outer (x := x) (offices := offices) (n := x.l.length) ⟨n39,n38,n36,n89,n69,n68⟩ hof' (by omega) rfl hx.np hx.pk (fun p hp => by have := hx.sq p hp; omega) (freshH_none h8) ⟨rfl,rfl,rfl,rfl,rfl,rfl,rfl,rfl,rfl,trivial⟩ (fun F' hF' s hs => ?_) (nextRounds x (atOf m 0 offices) m 0) rfl
  have hnx : next x offices m = ⟨x.l ++ [nextSteps x s.seen { s.p with day := s.p.day + atOf m 4 4 } m (1 + atN m 5 2)],x.past ++ [s.seen]⟩ := by rw [hs]; rfl
  rw [hnx] at h
  have hp14 := nextP_inv hx hof' (m := m)
  rw [← hs] at hrn hri hp14
  obtain ⟨z,rfl⟩ : ∃ z : Nat → D,_ = z 0 :: .int .i64 offices :: .slc (ints m) :: .ptr b3 0 :: zz z 4 2 (.ptr b6 0 :: .int .i64 (atOf m 0 offices) :: .ptr b8 0 :: .hsl b9 x.l.length :: zz z 10 129 []) := hF'.lit
  try dsimp only [zz,reduceAdd] at *
  clear hF' hnx hs
  obtain ⟨g1,g2,g3,g4⟩ := hrn
  obtain ⟨i1,i2,i3,i4,i5⟩ := hri
  have hdn : s.p.dn = [.int .i64 s.p.o,.int .i64 s.p.s,.int .i64 s.p.day,.own (refsD s.p.needs),.slc [],.str []] := rfl
  have a4 := atOf_range (l := m) (i := 4) (most := 4) (by omega)
  have wd : IntKind.i64.wrap (s.p.day + atOf m 4 4) = s.p.day + atOf m 4 4 := wrap_id (by omega) (by omega)
  simp +contextual only [x43,h_miss,h_skip,q_retRR,k_resR,n36,n68,n38,n89,n69,n39,hdn,wd,↓U43,↓XP,XW0,XW1,reduceSub,reduceAdd,reduceMul,reduceEqDiff,reduceLeDiff,Nat.reduceBEq,reduceCtorEq,TYX]
  refine fun _ => ⟨_,f_at (i := 4) (by omega) ⟨rfl,rfl⟩,?_⟩
  simp +contextual only [x43,h_miss,h_skip,q_retRR,k_resR,n36,n68,n38,n89,n69,n39,hdn,wd,↓U43,↓XP,XW0,XW1,reduceSub,reduceAdd,reduceMul,reduceEqDiff,reduceLeDiff,Nat.reduceBEq,reduceCtorEq,TYX]
  refine fun _ => ⟨by omega,?_⟩
  rw [c_gh]
  refine Gz.then (Gz.of_fz (Fz.freeze (s := 9) (b := b9) (n := x.l.length) (sz := 1) (xs := boolsD s.seen) (rest := []) rfl h_hit bools_flat (by rw [bools_len,g4]) bools_1 (by omega) (fun y hy d hd => by
    obtain ⟨t,_,rfl⟩ := List.mem_map.1 hy
    rw [List.mem_singleton.1 hd]
    rfl)) ?_)
  rw [e_hit]
  refine Gz.view1 (bx := b8) h_hit ?_
  obtain ⟨p,hpp⟩ : ∃ p : Pt,p = { s.p with day := s.p.day + atOf m 4 4 } := ⟨_,rfl⟩
  have hpo : p.ops = [] := by rw [hpp]; exact g2
  have hd0 : p.d = [.int .i64 s.p.o,.int .i64 s.p.s,.int .i64 (s.p.day + atOf m 4 4),.slc (refsD s.p.needs),.slc [],.str []] := by
    rw [hpp]
    simp only [Pt.d,g2,g3]
    rfl
  rw [← hpp] at h hp14
  simp +contextual only [x43,h_miss,h_skip,q_retRR,k_resR,n36,n68,n38,↓U43,↓XP,XW0,XW1,reduceSub,reduceAdd,reduceMul,reduceEqDiff,reduceLeDiff,Nat.reduceBEq,reduceCtorEq,TYX]
  rw [← hd0]
  refine n_steps (x := x) (seen := s.seen) (p := p) hx hb g4 hpo (VOk.base hx i1 hpo) n38 n36 n68 ⟨rfl,rfl,rfl,rfl,rfl,rfl,rfl,trivial⟩ (fun F' hF' i hi => ?_) 0 rfl
  rw [hi]
  clear hi i hd0
  obtain ⟨more,e1,-⟩ := hp14
  generalize nextSteps x s.seen p m (1 + atN m 5 2) = q at h e1 ⊢
  obtain ⟨z,rfl⟩ : ∃ z : Nat → D,_ = zz z 0 2 (.slc (ints m) :: .ptr b3 0 :: zz z 4 2 (.ptr b6 0 :: z 7 :: .ptr b8 0 :: .slc (boolsD s.seen) :: zz z 10 129 [])) := hF'.lit
  try dsimp only [zz,reduceAdd] at *
  clear hF'
  have hd := @dE q
  simp +contextual only [x43,h_miss,h_skip,q_retRR,k_resR,n36,n68,n38,hd,past_len,pts_len,↓U43,↓XP,XW0,XW1,reduceSub,reduceAdd,reduceMul,reduceEqDiff,reduceLeDiff,Nat.reduceBEq,reduceCtorEq,TYX]
  have hnp := hx.np
  refine ⟨pts_6,by omega,past_1,by omega,?_⟩
  rw [← hd,show [q.d] = ptsD [q] from rfl,pts_app,show [[D.slc (boolsD s.seen)]] = pastD [s.seen] from rfl,show pastD x.past ++ pastD [s.seen] = pastD (x.past ++ [s.seen]) by simp [pastD]]
  rw [c_gh]
  have hx1 : ptsD (x.l ++ [q]) ≠ [] := by simp [ptsD]
  have hx2 : pastD (x.past ++ [s.seen]) ≠ [] := by simp [pastD]
  try dsimp only at h
  generalize hX : ptsD (x.l ++ [q]) = X at h hx1 ⊢
  generalize hY : pastD (x.past ++ [s.seen]) = Y at h hx2 ⊢
  refine Gz.then (Gz.give (bx := b3) (j := 0) (xs := X) hx1 (by rw [h_miss n38,h_miss n36,h_hit]) rfl (fun bl' cl' f1 => ?_))
  simp only [h_fr] at f1
  obtain ⟨t8,t6,t3,tr⟩ := f1
  rw [h_skip n38,h_skip n36,h_set]
  refine Gz.give (bx := b3) (j := 1) (xs := Y) hx2 (by rw [h_miss t3,h_miss n38,h_miss n36,h_hit]) rfl (fun bp' cp' f2 => ?_)
  simp only [h_fr] at f2
  obtain ⟨ul,u8,u6,u3,ur⟩ := f2
  rw [h_skip t3,h_skip n38,h_skip n36,h_set]
  simp +contextual only [x43,h_miss,h_skip,q_retRR,k_resR,n36,n68,n38,t8,t6,t3,ul,u8,u6,u3,↓U43,↓XP,XW0,XW1,reduceSub,reduceAdd,reduceMul,reduceEqDiff,reduceLeDiff,Nat.reduceBEq,reduceCtorEq,TYX]
  exact ⟨_,Sbn.sub (List.Sublist.cons_cons _ (List.Sublist.cons_cons _ (List.Sublist.cons _ (List.Sublist.cons _ (List.Sublist.cons _ (List.Sublist.refl _)))))),h bl' cl' bp' cp' ul tr ur⟩
end Go.Proofs.YtoeckfegggongaaGreatDoor
end
