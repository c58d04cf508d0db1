/- A part of the proof of what the last text says: Gf7. Conditions: those in each theorem. -/
import Derived.Test.YtoeckfegggongaaDoorP27
set_option linter.unusedVariables false
set_option linter.unusedSimpArgs false
set_option maxRecDepth 100000
set_option maxHeartbeats 16000000
section
namespace Go.Proofs.YtoeckfegggongaaDoor
open Go Go.Aw
theorem back_7 {n : Nat} {x1 x2 x3 x4 x5 x6 x7 : Nat × AO} {H : AH} (h : H.length = n) : back n (x1 :: x2 :: x3 :: x4 :: x5 :: x6 :: x7 :: H) = H := by
  rw [back_cons (by simp; omega),back_6 h]
theorem id_eq {a b : Id3} : (decide (a.o = b.o) && (decide (a.s = b.s) && decide (a.i = b.i))) = decide (a = b) := by
  cases a; cases b
  simp only [Id3.mk.injEq,Bool.decide_and]
theorem spl_len {x : Gs} {seen : List Bool} {p : Pt} (ho : ∀ q ∈ x.l,q.ops.length ≤ 1000) (hb : x.l.length ≤ 100) (hp : p.ops.length ≤ 1000) : (splits x seen p).length ≤ 101000 := by
  have h1 := splTo_len (x := x) (seen := seen) ho x.l.length
  have h2 := splOne_len (p := p) (ok := true) p.ops.length
  unfold splits
  rw [List.length_append]
  unfold splOne at h1 ⊢
  omega
theorem f_step {x : Gs} {seen : List Bool} {p : Pt} {m : List Int} {H : AH} {R : D → AH → Prop} (hs : x.l.length ≤ seen.length) (hb : x.l.length ≤ 100) (ho : ∀ q ∈ x.l,q.ops.length ≤ 1000) (hp : p.ops.length ≤ 700) (hen : (visible x seen p 2).length ≠ 0 → (visible x seen p 1).length ≠ 0) (hsp : ∀ o ∈ splits x seen p,o.ids.length = 2) (h : R (.agg (step x seen p m).d) H) : ACall Tryd.prog 49 [.agg x.d,.slc (boolsD seen),.agg p.d,.slc (ints m)] H R := by
  refine b49 fun hf => ?_
  have hbig := big_eq
  have hx : x.d = [.slc (ptsD x.l),.slc (pastD x.past)] := rfl
  have hd : p.d = [.int .i64 p.o,.int .i64 p.s,.int .i64 p.day,.slc (refsD p.needs),.slc (opsD p.ops),.str p.sl] := rfl
  simp +contextual only [x49,hx,hd,ops_len,pts_len,ids_len,h_miss,h_skip,↓U49,↓XP,XQ,XM,cellsOf,okc,one1,resOne,resAll,eqCells,cellEq,fits,sameK,ne_eq,ite_true,ite_false,Nat.reduceSub,Nat.reduceAdd,Nat.reduceMul,Nat.reduceEqDiff,Nat.reduceLeDiff,Nat.reduceBEq,reduceCtorEq,TYX]
  rintro b1 h1 b2 ⟨n12,h2⟩ b3 ⟨n23,n13,h3⟩
  refine f_visible (x := x) (p := p) hs hb ho (by omega) ?_
  have hvl1 : (visible x seen p 1).length ≤ 101000 := vis_len ho hb (by omega)
  have hvl2 : (visible x seen p 2).length ≤ 101000 := vis_len ho hb (by omega)
  have hvl3 : (visible x seen p 3).length ≤ 101000 := vis_len ho hb (by omega)
  have r0 := atOf_range (l := m) (i := 0) (most := 24) (by omega)
  have r15 := atOf_range (l := m) (i := 1) (most := 5) (by omega)
  have r28 := atOf_range (l := m) (i := 2) (most := 8) (by omega)
  have r38 := atOf_range (l := m) (i := 3) (most := 8) (by omega)
  have r32 := atOf_range (l := m) (i := 3) (most := 2) (by omega)
  have r360 := atOf_range (l := m) (i := 3) (most := 60) (by omega)
  have e5 : ([[.str [110]],[.str [110]],[.str [110]],[.str [118]],[.str [120]]] : List (List D)) = strs cls5 := rfl
  have e2 : ([[.str [110]],[.str [118]]] : List (List D)) = strs cls2 := rfl
  have l5 : cls5.length = 5 := rfl
  have l2 : cls2.length = 2 := rfl
  have l8 : heads8.length = 8 := rfl
  have s15 := strs_get (show (atOf m 1 5).toNat < cls5.length by rw [l5]; omega)
  have s28 := strs_get (show (atOf m 2 8).toNat < heads8.length by rw [l8]; omega)
  have s38 := strs_get (show (atOf m 3 8).toNat < heads8.length by rw [l8]; omega)
  have s32 := strs_get (show (atOf m 3 2).toNat < cls2.length by rw [l2]; omega)
  unfold step at h
  simp only at h
  generalize visible x seen p 1 = en at h hvl1 hen ⊢
  simp +contextual only [hx,hd,ops_len,pts_len,ids_len,h_miss,h_skip,n12,n13,n23,↓U49,↓XP,XQ,XM,cellsOf,okc,one1,resOne,resAll,eqCells,cellEq,fits,sameK,ne_eq,ite_true,ite_false,Nat.reduceSub,Nat.reduceAdd,Nat.reduceMul,Nat.reduceEqDiff,Nat.reduceLeDiff,Nat.reduceBEq,reduceCtorEq,TYX]
  refine fun _ => f_visible (x := x) (p := p) hs hb ho (by omega) ?_
  generalize visible x seen p 2 = se at h hvl2 hen ⊢
  simp +contextual only [hx,hd,ops_len,pts_len,ids_len,h_miss,h_skip,n12,n13,n23,↓U49,↓XP,XQ,XM,cellsOf,okc,one1,resOne,resAll,eqCells,cellEq,fits,sameK,ne_eq,ite_true,ite_false,Nat.reduceSub,Nat.reduceAdd,Nat.reduceMul,Nat.reduceEqDiff,Nat.reduceLeDiff,Nat.reduceBEq,reduceCtorEq,TYX]
  refine fun _ => f_at (i := 0) (by omega) ?_
  generalize atOf m 0 24 = c at h r0 ⊢
  simp +contextual only [hx,hd,ops_len,pts_len,ids_len,h_miss,h_skip,n12,n13,n23,↓U49,↓XP,XQ,XM,cellsOf,okc,one1,resOne,resAll,eqCells,cellEq,fits,sameK,ne_eq,ite_true,ite_false,Nat.reduceSub,Nat.reduceAdd,Nat.reduceMul,Nat.reduceEqDiff,Nat.reduceLeDiff,Nat.reduceBEq,reduceCtorEq,TYX]
  refine fun _ _ => ⟨fun h0 => ?_,fun h0 => ⟨fun h5 => ?_,fun h5 => ?_⟩⟩
  · rw [if_pos (.inl (by omega))] at h
    rintro _ _ _ b4 ⟨n34,n24,n14,h4⟩
    refine ⟨_,f_at (i := 1) (by omega) ⟨rfl,rfl⟩,?_⟩
    simp +contextual only [hx,hd,ops_len,pts_len,ids_len,h_miss,h_skip,n12,n13,n23,n14,n24,n34,e5,s15,s28,l5,l8,strs_len,↓U49,↓XP,XQ,XM,cellsOf,okc,one1,resOne,resAll,eqCells,cellEq,fits,sameK,ne_eq,ite_true,ite_false,Nat.reduceSub,Nat.reduceAdd,Nat.reduceMul,Nat.reduceEqDiff,Nat.reduceLeDiff,Nat.reduceBEq,reduceCtorEq,TYX]
    refine fun _ => ⟨by omega,by omega,fun _ => ?_⟩
    refine ⟨_,f_heads ⟨rfl,rfl⟩,?_⟩
    simp +contextual only [hx,hd,ops_len,pts_len,ids_len,h_miss,h_skip,n12,n13,n23,n14,n24,n34,e5,s15,s28,l5,l8,strs_len,↓U49,↓XP,XQ,XM,cellsOf,okc,one1,resOne,resAll,eqCells,cellEq,fits,sameK,ne_eq,ite_true,ite_false,Nat.reduceSub,Nat.reduceAdd,Nat.reduceMul,Nat.reduceEqDiff,Nat.reduceLeDiff,Nat.reduceBEq,reduceCtorEq,TYX]
    refine fun _ => ⟨_,f_at (i := 2) (by omega) ⟨rfl,rfl⟩,?_⟩
    simp +contextual only [hx,hd,ops_len,pts_len,ids_len,h_miss,h_skip,n12,n13,n23,n14,n24,n34,e5,s15,s28,l5,l8,strs_len,↓U49,↓XP,XQ,XM,cellsOf,okc,one1,resOne,resAll,eqCells,cellEq,fits,sameK,ne_eq,ite_true,ite_false,Nat.reduceSub,Nat.reduceAdd,Nat.reduceMul,Nat.reduceEqDiff,Nat.reduceLeDiff,Nat.reduceBEq,reduceCtorEq,TYX]
    refine fun _ => ⟨by omega,by omega,fun _ => ?_⟩
    refine ⟨_,f_with (p := p) (o := { op0 with k := 1,name := cls5.getD (atN m 1 5) [],text := heads8.getD (atN m 2 8) [] }) (by omega) ⟨rfl,rfl⟩,?_⟩
    generalize hp1 : withOp p { op0 with k := 1,name := cls5.getD (atN m 1 5) [],text := heads8.getD (atN m 2 8) [] } = p1 at h ⊢
    have lp1 : p1.ops.length ≤ 801 := by rw [← hp1,with_len]; omega
    have hd1 : p1.d = [.int .i64 p1.o,.int .i64 p1.s,.int .i64 p1.day,.slc (refsD p1.needs),.slc (opsD p1.ops),.str p1.sl] := rfl
    simp +contextual only [hd1,hx,hd,ops_len,pts_len,ids_len,h_miss,h_skip,n12,n13,n23,n14,n24,n34,e5,s15,s28,l5,l8,strs_len,↓U49,↓XP,XQ,XM,cellsOf,okc,one1,resOne,resAll,eqCells,cellEq,fits,sameK,ne_eq,ite_true,ite_false,Nat.reduceSub,Nat.reduceAdd,Nat.reduceMul,Nat.reduceEqDiff,Nat.reduceLeDiff,Nat.reduceBEq,reduceCtorEq,TYX]
    refine ⟨_,f_rest (n := 3) ⟨rfl,rfl⟩,?_⟩
    simp +contextual only [hd1,hx,hd,ops_len,pts_len,ids_len,h_miss,h_skip,n12,n13,n23,n14,n24,n34,e5,s15,s28,l5,l8,strs_len,↓U49,↓XP,XQ,XM,cellsOf,okc,one1,resOne,resAll,eqCells,cellEq,fits,sameK,ne_eq,ite_true,ite_false,Nat.reduceSub,Nat.reduceAdd,Nat.reduceMul,Nat.reduceEqDiff,Nat.reduceLeDiff,Nat.reduceBEq,reduceCtorEq,TYX]
    refine fun _ => ⟨_,f_meaning (p := p1) (on := nextId p) (m := m.drop 3) (by omega) ⟨rfl,rfl⟩,?_⟩
    generalize meaning p1 (nextId p) (m.drop 3) = p3 at h ⊢
    have hd3 : p3.d = [.int .i64 p3.o,.int .i64 p3.s,.int .i64 p3.day,.slc (refsD p3.needs),.slc (opsD p3.ops),.str p3.sl] := rfl
    simp +contextual only [hd3,hd1,hx,hd,ops_len,pts_len,ids_len,h_miss,h_skip,n12,n13,n23,n14,n24,n34,e5,s15,s28,l5,l8,strs_len,↓U49,↓XP,XQ,XM,cellsOf,okc,one1,resOne,resAll,eqCells,cellEq,fits,sameK,ne_eq,ite_true,ite_false,Nat.reduceSub,Nat.reduceAdd,Nat.reduceMul,Nat.reduceEqDiff,Nat.reduceLeDiff,Nat.reduceBEq,reduceCtorEq,TYX]
    intros
    exact h
  · rw [if_pos (.inr (by omega))] at h
    rintro _ _ _ b4 ⟨n34,n24,n14,h4⟩
    refine ⟨_,f_at (i := 1) (by omega) ⟨rfl,rfl⟩,?_⟩
    simp +contextual only [hx,hd,ops_len,pts_len,ids_len,h_miss,h_skip,n12,n13,n23,n14,n24,n34,e5,s15,s28,l5,l8,strs_len,↓U49,↓XP,XQ,XM,cellsOf,okc,one1,resOne,resAll,eqCells,cellEq,fits,sameK,ne_eq,ite_true,ite_false,Nat.reduceSub,Nat.reduceAdd,Nat.reduceMul,Nat.reduceEqDiff,Nat.reduceLeDiff,Nat.reduceBEq,reduceCtorEq,TYX]
    refine fun _ => ⟨by omega,by omega,fun _ => ?_⟩
    refine ⟨_,f_heads ⟨rfl,rfl⟩,?_⟩
    simp +contextual only [hx,hd,ops_len,pts_len,ids_len,h_miss,h_skip,n12,n13,n23,n14,n24,n34,e5,s15,s28,l5,l8,strs_len,↓U49,↓XP,XQ,XM,cellsOf,okc,one1,resOne,resAll,eqCells,cellEq,fits,sameK,ne_eq,ite_true,ite_false,Nat.reduceSub,Nat.reduceAdd,Nat.reduceMul,Nat.reduceEqDiff,Nat.reduceLeDiff,Nat.reduceBEq,reduceCtorEq,TYX]
    refine fun _ => ⟨_,f_at (i := 2) (by omega) ⟨rfl,rfl⟩,?_⟩
    simp +contextual only [hx,hd,ops_len,pts_len,ids_len,h_miss,h_skip,n12,n13,n23,n14,n24,n34,e5,s15,s28,l5,l8,strs_len,↓U49,↓XP,XQ,XM,cellsOf,okc,one1,resOne,resAll,eqCells,cellEq,fits,sameK,ne_eq,ite_true,ite_false,Nat.reduceSub,Nat.reduceAdd,Nat.reduceMul,Nat.reduceEqDiff,Nat.reduceLeDiff,Nat.reduceBEq,reduceCtorEq,TYX]
    refine fun _ => ⟨by omega,by omega,fun _ => ?_⟩
    refine ⟨_,f_with (p := p) (o := { op0 with k := 1,name := cls5.getD (atN m 1 5) [],text := heads8.getD (atN m 2 8) [] }) (by omega) ⟨rfl,rfl⟩,?_⟩
    generalize hp1 : withOp p { op0 with k := 1,name := cls5.getD (atN m 1 5) [],text := heads8.getD (atN m 2 8) [] } = p1 at h ⊢
    have lp1 : p1.ops.length ≤ 801 := by rw [← hp1,with_len]; omega
    have hd1 : p1.d = [.int .i64 p1.o,.int .i64 p1.s,.int .i64 p1.day,.slc (refsD p1.needs),.slc (opsD p1.ops),.str p1.sl] := rfl
    simp +contextual only [hd1,hx,hd,ops_len,pts_len,ids_len,h_miss,h_skip,n12,n13,n23,n14,n24,n34,e5,s15,s28,l5,l8,strs_len,↓U49,↓XP,XQ,XM,cellsOf,okc,one1,resOne,resAll,eqCells,cellEq,fits,sameK,ne_eq,ite_true,ite_false,Nat.reduceSub,Nat.reduceAdd,Nat.reduceMul,Nat.reduceEqDiff,Nat.reduceLeDiff,Nat.reduceBEq,reduceCtorEq,TYX]
    refine ⟨_,f_rest (n := 3) ⟨rfl,rfl⟩,?_⟩
    simp +contextual only [hd1,hx,hd,ops_len,pts_len,ids_len,h_miss,h_skip,n12,n13,n23,n14,n24,n34,e5,s15,s28,l5,l8,strs_len,↓U49,↓XP,XQ,XM,cellsOf,okc,one1,resOne,resAll,eqCells,cellEq,fits,sameK,ne_eq,ite_true,ite_false,Nat.reduceSub,Nat.reduceAdd,Nat.reduceMul,Nat.reduceEqDiff,Nat.reduceLeDiff,Nat.reduceBEq,reduceCtorEq,TYX]
    refine fun _ => ⟨_,f_meaning (p := p1) (on := nextId p) (m := m.drop 3) (by omega) ⟨rfl,rfl⟩,?_⟩
    generalize meaning p1 (nextId p) (m.drop 3) = p3 at h ⊢
    have hd3 : p3.d = [.int .i64 p3.o,.int .i64 p3.s,.int .i64 p3.day,.slc (refsD p3.needs),.slc (opsD p3.ops),.str p3.sl] := rfl
    simp +contextual only [hd3,hd1,hx,hd,ops_len,pts_len,ids_len,h_miss,h_skip,n12,n13,n23,n14,n24,n34,e5,s15,s28,l5,l8,strs_len,↓U49,↓XP,XQ,XM,cellsOf,okc,one1,resOne,resAll,eqCells,cellEq,fits,sameK,ne_eq,ite_true,ite_false,Nat.reduceSub,Nat.reduceAdd,Nat.reduceMul,Nat.reduceEqDiff,Nat.reduceLeDiff,Nat.reduceBEq,reduceCtorEq,TYX]
    intros
    exact h
  · rw [if_neg (by rintro (hc | hc); exact h0 (by omega); exact h5 (by omega))] at h
    have hen' := hen (by omega)
    clear hen
    have ra := atOf_range (l := m) (i := 1) (most := (en.length : Int)) (by omega)
    have rb := atOf_range (l := m) (i := 1) (most := (se.length : Int)) (by omega)
    have rc := atOf_range (l := m) (i := 2) (most := (se.length : Int)) (by omega)
    have sa : (idsD en).getD (atOf m 1 en.length).toNat [] = (en.getD (atN m 1 en.length) default).d := ids_get (show (atOf m 1 en.length).toNat < en.length by omega)
    have sb : (idsD se).getD (atOf m 1 se.length).toNat [] = (se.getD (atN m 1 se.length) default).d := ids_get (show (atOf m 1 se.length).toNat < se.length by omega)
    have sc : (idsD se).getD (atOf m 2 se.length).toNat [] = (se.getD (atN m 2 se.length) default).d := ids_get (show (atOf m 2 se.length).toNat < se.length by omega)
    generalize en.getD (atN m 1 en.length) default = ent at h sa
    generalize se.getD (atN m 1 se.length) default = sen at h sb
    generalize se.getD (atN m 2 se.length) default = oth at h sc
    have he1 : ent.d = [.int .i64 ent.o,.int .i64 ent.s,.int .i64 ent.i] := rfl
    have he2 : sen.d = [.int .i64 sen.o,.int .i64 sen.s,.int .i64 sen.i] := rfl
    have he3 : oth.d = [.int .i64 oth.o,.int .i64 oth.s,.int .i64 oth.i] := rfl
    refine fun _ => f_at (i := 1) (most := (en.length : Int)) (by omega) ?_
    simp +contextual only [hx,hd,ops_len,pts_len,ids_len,h_miss,h_skip,n12,n13,n23,sa,sb,sc,he1,he2,he3,↓U49,↓XP,XQ,XM,cellsOf,okc,one1,resOne,resAll,eqCells,cellEq,fits,sameK,ne_eq,ite_true,ite_false,Nat.reduceSub,Nat.reduceAdd,Nat.reduceMul,Nat.reduceEqDiff,Nat.reduceLeDiff,Nat.reduceBEq,reduceCtorEq,TYX]
    refine fun _ => ⟨by omega,by omega,?_⟩
    rintro b4 ⟨n34,n24,n14,h4⟩
    refine fun _ => f_at (i := 1) (most := (se.length : Int)) (by omega) ?_
    simp +contextual only [hx,hd,ops_len,pts_len,ids_len,h_miss,h_skip,n12,n13,n23,sa,sb,sc,he1,he2,he3,n14,n24,n34,↓U49,↓XP,XQ,XM,cellsOf,okc,one1,resOne,resAll,eqCells,cellEq,fits,sameK,ne_eq,ite_true,ite_false,Nat.reduceSub,Nat.reduceAdd,Nat.reduceMul,Nat.reduceEqDiff,Nat.reduceLeDiff,Nat.reduceBEq,reduceCtorEq,TYX]
    refine fun _ => ⟨by omega,by omega,?_⟩
    rintro b5 ⟨n45,n35,n25,n15,h5⟩
    have hc : c = 6 ∨ c = 7 ∨ c = 8 ∨ c = 9 ∨ c = 10 ∨ c = 11 ∨ c = 12 ∨ c = 13 ∨ c = 14 ∨ 14 < c := by omega
    refine fun _ => f_at (i := 2) (most := (se.length : Int)) (by omega) ?_
    rcases hc with rfl | rfl | rfl | rfl | rfl | rfl | rfl | rfl | rfl | hc
    · clear h0 h5 r0
      have q7 : ((6 : Int) = 7) = False := by decide
      have q8 : ((6 : Int) = 8) = False := by decide
      have q9 : ((6 : Int) = 9) = False := by decide
      have q10 : ((6 : Int) = 10) = False := by decide
      have q11 : ((6 : Int) = 11) = False := by decide
      have q12 : ((6 : Int) = 12) = False := by decide
      have q13 : ((6 : Int) = 13) = False := by decide
      have q14 : ((6 : Int) = 14) = False := by decide
      rw [if_pos (by omega)] at h
      simp +contextual only [hx,hd,ops_len,pts_len,ids_len,h_miss,h_skip,n12,n13,n23,sa,sb,sc,he1,he2,he3,n14,n24,n34,n15,n25,n35,n45,q7,q8,q9,q10,q11,q12,q13,q14,↓U49,↓XP,XQ,XM,cellsOf,okc,one1,resOne,resAll,eqCells,cellEq,fits,sameK,ne_eq,ite_true,ite_false,Nat.reduceSub,Nat.reduceAdd,Nat.reduceMul,Nat.reduceEqDiff,Nat.reduceLeDiff,Nat.reduceBEq,reduceCtorEq,TYX]
      refine fun _ => ⟨by omega,by omega,?_⟩
      rintro b6 ⟨n56,n46,n36,n26,n16,h6⟩
      refine ⟨_,f_rest (n := 2) ⟨rfl,rfl⟩,?_⟩
      simp +contextual only [hx,hd,ops_len,pts_len,ids_len,h_miss,h_skip,n12,n13,n23,sa,sb,sc,he1,he2,he3,n14,n24,n34,n15,n25,n35,n45,n16,n26,n36,n46,n56,q7,q8,q9,q10,q11,q12,q13,q14,↓U49,↓XP,XQ,XM,cellsOf,okc,one1,resOne,resAll,eqCells,cellEq,fits,sameK,ne_eq,ite_true,ite_false,Nat.reduceSub,Nat.reduceAdd,Nat.reduceMul,Nat.reduceEqDiff,Nat.reduceLeDiff,Nat.reduceBEq,reduceCtorEq,TYX]
      refine fun _ => ⟨_,f_meaning (p := p) (on := ent) (m := m.drop 2) (by omega) ⟨rfl,rfl⟩,?_⟩
      generalize meaning p ent (m.drop 2) = p3 at h ⊢
      have hd3 : p3.d = [.int .i64 p3.o,.int .i64 p3.s,.int .i64 p3.day,.slc (refsD p3.needs),.slc (opsD p3.ops),.str p3.sl] := rfl
      simp +contextual only [hd3,hx,hd,ops_len,pts_len,ids_len,h_miss,h_skip,n12,n13,n23,sa,sb,sc,he1,he2,he3,n14,n24,n34,n15,n25,n35,n45,n16,n26,n36,n46,n56,q7,q8,q9,q10,q11,q12,q13,q14,↓U49,↓XP,XQ,XM,cellsOf,okc,one1,resOne,resAll,eqCells,cellEq,fits,sameK,ne_eq,ite_true,ite_false,Nat.reduceSub,Nat.reduceAdd,Nat.reduceMul,Nat.reduceEqDiff,Nat.reduceLeDiff,Nat.reduceBEq,reduceCtorEq,TYX]
      intros
      exact h
    · clear h0 h5 r0
      have q6 : ((7 : Int) = 6) = False := by decide
      have q8 : ((7 : Int) = 8) = False := by decide
      have q9 : ((7 : Int) = 9) = False := by decide
      have q10 : ((7 : Int) = 10) = False := by decide
      have q11 : ((7 : Int) = 11) = False := by decide
      have q12 : ((7 : Int) = 12) = False := by decide
      have q13 : ((7 : Int) = 13) = False := by decide
      have q14 : ((7 : Int) = 14) = False := by decide
      rw [if_neg (by omega),if_pos (by omega)] at h
      simp +contextual only [hx,hd,ops_len,pts_len,ids_len,h_miss,h_skip,n12,n13,n23,sa,sb,sc,he1,he2,he3,n14,n24,n34,n15,n25,n35,n45,q6,q8,q9,q10,q11,q12,q13,q14,↓U49,↓XP,XQ,XM,cellsOf,okc,one1,resOne,resAll,eqCells,cellEq,fits,sameK,ne_eq,ite_true,ite_false,Nat.reduceSub,Nat.reduceAdd,Nat.reduceMul,Nat.reduceEqDiff,Nat.reduceLeDiff,Nat.reduceBEq,reduceCtorEq,TYX]
      refine fun _ => ⟨by omega,by omega,?_⟩
      rintro b6 ⟨n56,n46,n36,n26,n16,h6⟩
      refine ⟨_,f_rest (n := 2) ⟨rfl,rfl⟩,?_⟩
      simp +contextual only [hx,hd,ops_len,pts_len,ids_len,h_miss,h_skip,n12,n13,n23,sa,sb,sc,he1,he2,he3,n14,n24,n34,n15,n25,n35,n45,n16,n26,n36,n46,n56,q6,q8,q9,q10,q11,q12,q13,q14,↓U49,↓XP,XQ,XM,cellsOf,okc,one1,resOne,resAll,eqCells,cellEq,fits,sameK,ne_eq,ite_true,ite_false,Nat.reduceSub,Nat.reduceAdd,Nat.reduceMul,Nat.reduceEqDiff,Nat.reduceLeDiff,Nat.reduceBEq,reduceCtorEq,TYX]
      refine fun _ => ⟨_,f_meaning (p := p) (on := sen) (m := m.drop 2) (by omega) ⟨rfl,rfl⟩,?_⟩
      generalize meaning p sen (m.drop 2) = p3 at h ⊢
      have hd3 : p3.d = [.int .i64 p3.o,.int .i64 p3.s,.int .i64 p3.day,.slc (refsD p3.needs),.slc (opsD p3.ops),.str p3.sl] := rfl
      simp +contextual only [hd3,hx,hd,ops_len,pts_len,ids_len,h_miss,h_skip,n12,n13,n23,sa,sb,sc,he1,he2,he3,n14,n24,n34,n15,n25,n35,n45,n16,n26,n36,n46,n56,q6,q8,q9,q10,q11,q12,q13,q14,↓U49,↓XP,XQ,XM,cellsOf,okc,one1,resOne,resAll,eqCells,cellEq,fits,sameK,ne_eq,ite_true,ite_false,Nat.reduceSub,Nat.reduceAdd,Nat.reduceMul,Nat.reduceEqDiff,Nat.reduceLeDiff,Nat.reduceBEq,reduceCtorEq,TYX]
      intros
      exact h
    · clear h0 h5 r0
      have q6 : ((8 : Int) = 6) = False := by decide
      have q7 : ((8 : Int) = 7) = False := by decide
      have q9 : ((8 : Int) = 9) = False := by decide
      have q10 : ((8 : Int) = 10) = False := by decide
      have q11 : ((8 : Int) = 11) = False := by decide
      have q12 : ((8 : Int) = 12) = False := by decide
      have q13 : ((8 : Int) = 13) = False := by decide
      have q14 : ((8 : Int) = 14) = False := by decide
      rw [if_neg (by omega),if_neg (by omega),if_pos (by omega)] at h
      simp +contextual only [hx,hd,ops_len,pts_len,ids_len,h_miss,h_skip,n12,n13,n23,sa,sb,sc,he1,he2,he3,n14,n24,n34,n15,n25,n35,n45,q6,q7,q9,q10,q11,q12,q13,q14,↓U49,↓XP,XQ,XM,cellsOf,okc,one1,resOne,resAll,eqCells,cellEq,fits,sameK,ne_eq,ite_true,ite_false,Nat.reduceSub,Nat.reduceAdd,Nat.reduceMul,Nat.reduceEqDiff,Nat.reduceLeDiff,Nat.reduceBEq,reduceCtorEq,TYX]
      refine fun _ => ⟨by omega,by omega,?_⟩
      rintro b6 ⟨n56,n46,n36,n26,n16,h6⟩
      refine ⟨_,f_rest (n := 2) ⟨rfl,rfl⟩,?_⟩
      simp +contextual only [hx,hd,ops_len,pts_len,ids_len,h_miss,h_skip,n12,n13,n23,sa,sb,sc,he1,he2,he3,n14,n24,n34,n15,n25,n35,n45,n16,n26,n36,n46,n56,q6,q7,q9,q10,q11,q12,q13,q14,↓U49,↓XP,XQ,XM,cellsOf,okc,one1,resOne,resAll,eqCells,cellEq,fits,sameK,ne_eq,ite_true,ite_false,Nat.reduceSub,Nat.reduceAdd,Nat.reduceMul,Nat.reduceEqDiff,Nat.reduceLeDiff,Nat.reduceBEq,reduceCtorEq,TYX]
      refine fun _ => ⟨_,f_quoted (x := x) (p := p) (sense := sen) (m := m.drop 2) hs hb ho (by omega) ⟨rfl,rfl⟩,?_⟩
      generalize quoted x seen p sen (m.drop 2) = p3 at h ⊢
      have hd3 : p3.d = [.int .i64 p3.o,.int .i64 p3.s,.int .i64 p3.day,.slc (refsD p3.needs),.slc (opsD p3.ops),.str p3.sl] := rfl
      simp +contextual only [hd3,hx,hd,ops_len,pts_len,ids_len,h_miss,h_skip,n12,n13,n23,sa,sb,sc,he1,he2,he3,n14,n24,n34,n15,n25,n35,n45,n16,n26,n36,n46,n56,q6,q7,q9,q10,q11,q12,q13,q14,↓U49,↓XP,XQ,XM,cellsOf,okc,one1,resOne,resAll,eqCells,cellEq,fits,sameK,ne_eq,ite_true,ite_false,Nat.reduceSub,Nat.reduceAdd,Nat.reduceMul,Nat.reduceEqDiff,Nat.reduceLeDiff,Nat.reduceBEq,reduceCtorEq,TYX]
      intros
      exact h
    · clear h0 h5 r0
      have q6 : ((9 : Int) = 6) = False := by decide
      have q7 : ((9 : Int) = 7) = False := by decide
      have q8 : ((9 : Int) = 8) = False := by decide
      have q10 : ((9 : Int) = 10) = False := by decide
      have q11 : ((9 : Int) = 11) = False := by decide
      have q12 : ((9 : Int) = 12) = False := by decide
      have q13 : ((9 : Int) = 13) = False := by decide
      have q14 : ((9 : Int) = 14) = False := by decide
      rw [if_neg (by omega),if_neg (by omega),if_pos (by omega)] at h
      simp +contextual only [hx,hd,ops_len,pts_len,ids_len,h_miss,h_skip,n12,n13,n23,sa,sb,sc,he1,he2,he3,n14,n24,n34,n15,n25,n35,n45,q6,q7,q8,q10,q11,q12,q13,q14,↓U49,↓XP,XQ,XM,cellsOf,okc,one1,resOne,resAll,eqCells,cellEq,fits,sameK,ne_eq,ite_true,ite_false,Nat.reduceSub,Nat.reduceAdd,Nat.reduceMul,Nat.reduceEqDiff,Nat.reduceLeDiff,Nat.reduceBEq,reduceCtorEq,TYX]
      refine fun _ => ⟨by omega,by omega,?_⟩
      rintro b6 ⟨n56,n46,n36,n26,n16,h6⟩
      refine ⟨_,f_rest (n := 2) ⟨rfl,rfl⟩,?_⟩
      simp +contextual only [hx,hd,ops_len,pts_len,ids_len,h_miss,h_skip,n12,n13,n23,sa,sb,sc,he1,he2,he3,n14,n24,n34,n15,n25,n35,n45,n16,n26,n36,n46,n56,q6,q7,q8,q10,q11,q12,q13,q14,↓U49,↓XP,XQ,XM,cellsOf,okc,one1,resOne,resAll,eqCells,cellEq,fits,sameK,ne_eq,ite_true,ite_false,Nat.reduceSub,Nat.reduceAdd,Nat.reduceMul,Nat.reduceEqDiff,Nat.reduceLeDiff,Nat.reduceBEq,reduceCtorEq,TYX]
      refine fun _ => ⟨_,f_quoted (x := x) (p := p) (sense := sen) (m := m.drop 2) hs hb ho (by omega) ⟨rfl,rfl⟩,?_⟩
      generalize quoted x seen p sen (m.drop 2) = p3 at h ⊢
      have hd3 : p3.d = [.int .i64 p3.o,.int .i64 p3.s,.int .i64 p3.day,.slc (refsD p3.needs),.slc (opsD p3.ops),.str p3.sl] := rfl
      simp +contextual only [hd3,hx,hd,ops_len,pts_len,ids_len,h_miss,h_skip,n12,n13,n23,sa,sb,sc,he1,he2,he3,n14,n24,n34,n15,n25,n35,n45,n16,n26,n36,n46,n56,q6,q7,q8,q10,q11,q12,q13,q14,↓U49,↓XP,XQ,XM,cellsOf,okc,one1,resOne,resAll,eqCells,cellEq,fits,sameK,ne_eq,ite_true,ite_false,Nat.reduceSub,Nat.reduceAdd,Nat.reduceMul,Nat.reduceEqDiff,Nat.reduceLeDiff,Nat.reduceBEq,reduceCtorEq,TYX]
      intros
      exact h
    · clear h0 h5 r0
      have q6 : ((10 : Int) = 6) = False := by decide
      have q7 : ((10 : Int) = 7) = False := by decide
      have q8 : ((10 : Int) = 8) = False := by decide
      have q9 : ((10 : Int) = 9) = False := by decide
      have q11 : ((10 : Int) = 11) = False := by decide
      have q12 : ((10 : Int) = 12) = False := by decide
      have q13 : ((10 : Int) = 13) = False := by decide
      have q14 : ((10 : Int) = 14) = False := by decide
      rw [if_neg (by omega),if_neg (by omega),if_neg (by omega),if_pos (by omega)] at h
      simp +contextual only [hx,hd,ops_len,pts_len,ids_len,h_miss,h_skip,n12,n13,n23,sa,sb,sc,he1,he2,he3,n14,n24,n34,n15,n25,n35,n45,q6,q7,q8,q9,q11,q12,q13,q14,↓U49,↓XP,XQ,XM,cellsOf,okc,one1,resOne,resAll,eqCells,cellEq,fits,sameK,ne_eq,ite_true,ite_false,Nat.reduceSub,Nat.reduceAdd,Nat.reduceMul,Nat.reduceEqDiff,Nat.reduceLeDiff,Nat.reduceBEq,reduceCtorEq,TYX]
      refine fun _ => ⟨by omega,by omega,?_⟩
      rintro b6 ⟨n56,n46,n36,n26,n16,h6⟩
      refine ⟨_,f_rest (n := 2) ⟨rfl,rfl⟩,?_⟩
      simp +contextual only [hx,hd,ops_len,pts_len,ids_len,h_miss,h_skip,n12,n13,n23,sa,sb,sc,he1,he2,he3,n14,n24,n34,n15,n25,n35,n45,n16,n26,n36,n46,n56,q6,q7,q8,q9,q11,q12,q13,q14,↓U49,↓XP,XQ,XM,cellsOf,okc,one1,resOne,resAll,eqCells,cellEq,fits,sameK,ne_eq,ite_true,ite_false,Nat.reduceSub,Nat.reduceAdd,Nat.reduceMul,Nat.reduceEqDiff,Nat.reduceLeDiff,Nat.reduceBEq,reduceCtorEq,TYX]
      refine fun _ => ⟨_,f_divided (p := p) (entry := ent) (sense := sen) (m := m.drop 2) (by omega) ⟨rfl,rfl⟩,?_⟩
      generalize divided p ent sen (m.drop 2) = p3 at h ⊢
      have hd3 : p3.d = [.int .i64 p3.o,.int .i64 p3.s,.int .i64 p3.day,.slc (refsD p3.needs),.slc (opsD p3.ops),.str p3.sl] := rfl
      simp +contextual only [hd3,hx,hd,ops_len,pts_len,ids_len,h_miss,h_skip,n12,n13,n23,sa,sb,sc,he1,he2,he3,n14,n24,n34,n15,n25,n35,n45,n16,n26,n36,n46,n56,q6,q7,q8,q9,q11,q12,q13,q14,↓U49,↓XP,XQ,XM,cellsOf,okc,one1,resOne,resAll,eqCells,cellEq,fits,sameK,ne_eq,ite_true,ite_false,Nat.reduceSub,Nat.reduceAdd,Nat.reduceMul,Nat.reduceEqDiff,Nat.reduceLeDiff,Nat.reduceBEq,reduceCtorEq,TYX]
      intros
      exact h
    · clear h0 h5 r0
      have q6 : ((11 : Int) = 6) = False := by decide
      have q7 : ((11 : Int) = 7) = False := by decide
      have q8 : ((11 : Int) = 8) = False := by decide
      have q9 : ((11 : Int) = 9) = False := by decide
      have q10 : ((11 : Int) = 10) = False := by decide
      have q12 : ((11 : Int) = 12) = False := by decide
      have q13 : ((11 : Int) = 13) = False := by decide
      have q14 : ((11 : Int) = 14) = False := by decide
      rw [if_neg (by omega),if_neg (by omega),if_neg (by omega),if_neg (by omega),if_pos (by omega)] at h
      simp +contextual only [hx,hd,ops_len,pts_len,ids_len,h_miss,h_skip,n12,n13,n23,sa,sb,sc,he1,he2,he3,n14,n24,n34,n15,n25,n35,n45,q6,q7,q8,q9,q10,q12,q13,q14,↓U49,↓XP,XQ,XM,cellsOf,okc,one1,resOne,resAll,eqCells,cellEq,fits,sameK,ne_eq,ite_true,ite_false,Nat.reduceSub,Nat.reduceAdd,Nat.reduceMul,Nat.reduceEqDiff,Nat.reduceLeDiff,Nat.reduceBEq,reduceCtorEq,TYX]
      refine fun _ => ⟨by omega,by omega,?_⟩
      rintro b6 ⟨n56,n46,n36,n26,n16,h6⟩
      rw [id_eq]
      refine ⟨fun hq => ?_,fun hq => ?_⟩
      · rw [if_neg (of_decide_eq_false hq)] at h
        refine f_with (p := p) (o := { op0 with k := 17,on := sen,to := oth }) (by omega) ?_
        generalize withOp p { op0 with k := 17,on := sen,to := oth } = p3 at h ⊢
        have hd3 : p3.d = [.int .i64 p3.o,.int .i64 p3.s,.int .i64 p3.day,.slc (refsD p3.needs),.slc (opsD p3.ops),.str p3.sl] := rfl
        simp +contextual only [hd3,hx,hd,ops_len,pts_len,ids_len,h_miss,h_skip,n12,n13,n23,sa,sb,sc,he1,he2,he3,n14,n24,n34,n15,n25,n35,n45,n16,n26,n36,n46,n56,q6,q7,q8,q9,q10,q12,q13,q14,↓U49,↓XP,XQ,XM,cellsOf,okc,one1,resOne,resAll,eqCells,cellEq,fits,sameK,ne_eq,ite_true,ite_false,Nat.reduceSub,Nat.reduceAdd,Nat.reduceMul,Nat.reduceEqDiff,Nat.reduceLeDiff,Nat.reduceBEq,reduceCtorEq,TYX]
        intros
        exact h
      · rw [if_pos (of_decide_eq_true hq)] at h
        unfold stepRest at h
        refine ⟨by decide,_,f_rest (n := 1) ⟨rfl,rfl⟩,?_⟩
        simp +contextual only [hx,hd,ops_len,pts_len,ids_len,h_miss,h_skip,n12,n13,n23,sa,sb,sc,he1,he2,he3,n14,n24,n34,n15,n25,n35,n45,n16,n26,n36,n46,n56,q6,q7,q8,q9,q10,q12,q13,q14,↓U49,↓XP,XQ,XM,cellsOf,okc,one1,resOne,resAll,eqCells,cellEq,fits,sameK,ne_eq,ite_true,ite_false,Nat.reduceSub,Nat.reduceAdd,Nat.reduceMul,Nat.reduceEqDiff,Nat.reduceLeDiff,Nat.reduceBEq,reduceCtorEq,TYX]
        refine fun _ => ⟨_,f_small (sense := sen) (other := oth) (n := ((11 : Int).tmod 11)) (m := m.drop 1) ⟨rfl,rfl⟩,?_⟩
        generalize small sen oth ((11 : Int).tmod 11) (m.drop 1) = o at h ⊢
        have hod : o.d = [.int .i64 o.k,.int .i64 o.on.o,.int .i64 o.on.s,.int .i64 o.on.i,.int .i64 o.to.o,.int .i64 o.to.s,.int .i64 o.to.i,.slc (idsD o.ids),.int .i64 o.n,.str o.name,.str o.text,.int .i64 o.a,.int .i64 o.b] := rfl
        simp +contextual only [hod,hx,hd,ops_len,pts_len,ids_len,h_miss,h_skip,n12,n13,n23,sa,sb,sc,he1,he2,he3,n14,n24,n34,n15,n25,n35,n45,n16,n26,n36,n46,n56,q6,q7,q8,q9,q10,q12,q13,q14,↓U49,↓XP,XQ,XM,cellsOf,okc,one1,resOne,resAll,eqCells,cellEq,fits,sameK,ne_eq,ite_true,ite_false,Nat.reduceSub,Nat.reduceAdd,Nat.reduceMul,Nat.reduceEqDiff,Nat.reduceLeDiff,Nat.reduceBEq,reduceCtorEq,TYX]
        refine ⟨_,f_with (p := p) (o := o) (by omega) ⟨rfl,rfl⟩,?_⟩
        generalize withOp p o = p3 at h ⊢
        have hd3 : p3.d = [.int .i64 p3.o,.int .i64 p3.s,.int .i64 p3.day,.slc (refsD p3.needs),.slc (opsD p3.ops),.str p3.sl] := rfl
        simp +contextual only [hd3,hx,hd,ops_len,pts_len,ids_len,h_miss,h_skip,n12,n13,n23,sa,sb,sc,he1,he2,he3,n14,n24,n34,n15,n25,n35,n45,n16,n26,n36,n46,n56,q6,q7,q8,q9,q10,q12,q13,q14,↓U49,↓XP,XQ,XM,cellsOf,okc,one1,resOne,resAll,eqCells,cellEq,fits,sameK,ne_eq,ite_true,ite_false,Nat.reduceSub,Nat.reduceAdd,Nat.reduceMul,Nat.reduceEqDiff,Nat.reduceLeDiff,Nat.reduceBEq,reduceCtorEq,TYX]
        intros
        exact h
    · clear h0 h5 r0
      have q6 : ((12 : Int) = 6) = False := by decide
      have q7 : ((12 : Int) = 7) = False := by decide
      have q8 : ((12 : Int) = 8) = False := by decide
      have q9 : ((12 : Int) = 9) = False := by decide
      have q10 : ((12 : Int) = 10) = False := by decide
      have q11 : ((12 : Int) = 11) = False := by decide
      have q13 : ((12 : Int) = 13) = False := by decide
      have q14 : ((12 : Int) = 14) = False := by decide
      rw [if_neg (by omega),if_neg (by omega),if_neg (by omega),if_neg (by omega),if_neg (by omega),if_pos (by omega)] at h
      simp +contextual only [hx,hd,ops_len,pts_len,ids_len,h_miss,h_skip,n12,n13,n23,sa,sb,sc,he1,he2,he3,n14,n24,n34,n15,n25,n35,n45,q6,q7,q8,q9,q10,q11,q13,q14,↓U49,↓XP,XQ,XM,cellsOf,okc,one1,resOne,resAll,eqCells,cellEq,fits,sameK,ne_eq,ite_true,ite_false,Nat.reduceSub,Nat.reduceAdd,Nat.reduceMul,Nat.reduceEqDiff,Nat.reduceLeDiff,Nat.reduceBEq,reduceCtorEq,TYX]
      refine fun _ => ⟨by omega,by omega,?_⟩
      rintro b6 ⟨n56,n46,n36,n26,n16,h6⟩
      refine f_splits (x := x) (p := p) hs hb ho (by omega) ?_
      have hspl : (splits x seen p).length ≤ 101000 := spl_len ho hb (by omega)
      generalize splits x seen p = spl at h hsp hspl ⊢
      simp +contextual only [hx,hd,ops_len,pts_len,ids_len,h_miss,h_skip,n12,n13,n23,sa,sb,sc,he1,he2,he3,n14,n24,n34,n15,n25,n35,n45,n16,n26,n36,n46,n56,q6,q7,q8,q9,q10,q11,q13,q14,↓U49,↓XP,XQ,XM,cellsOf,okc,one1,resOne,resAll,eqCells,cellEq,fits,sameK,ne_eq,ite_true,ite_false,Nat.reduceSub,Nat.reduceAdd,Nat.reduceMul,Nat.reduceEqDiff,Nat.reduceLeDiff,Nat.reduceBEq,reduceCtorEq,TYX]
      refine fun _ => ⟨fun hl0 => ?_,fun hl0 => ?_⟩
      · rw [if_neg (by omega)] at h
        have rd := atOf_range (l := m) (i := 3) (most := (spl.length : Int)) (by omega)
        have hlt : atN m 3 spl.length < spl.length := by unfold atN; omega
        have sd : (opsD spl).getD (atOf m 3 spl.length).toNat [] = (spl.getD (atN m 3 spl.length) default).d := ops_get hlt
        have hi2 : (spl.getD (atN m 3 spl.length) default).ids.length = 2 := hsp _ (by rw [getD_lt hlt]; exact List.getElem_mem _)
        generalize spl.getD (atN m 3 spl.length) default = o at h sd hi2
        have hod : o.d = [.int .i64 o.k,.int .i64 o.on.o,.int .i64 o.on.s,.int .i64 o.on.i,.int .i64 o.to.o,.int .i64 o.to.s,.int .i64 o.to.i,.slc (idsD o.ids),.int .i64 o.n,.str o.name,.str o.text,.int .i64 o.a,.int .i64 o.b] := rfl
        refine f_at (i := 3) (most := (spl.length : Int)) (by omega) ?_
        simp +contextual only [sd,hod,hx,hd,ops_len,pts_len,ids_len,h_miss,h_skip,n12,n13,n23,sa,sb,sc,he1,he2,he3,n14,n24,n34,n15,n25,n35,n45,n16,n26,n36,n46,n56,q6,q7,q8,q9,q10,q11,q13,q14,↓U49,↓XP,XQ,XM,cellsOf,okc,one1,resOne,resAll,eqCells,cellEq,fits,sameK,ne_eq,ite_true,ite_false,Nat.reduceSub,Nat.reduceAdd,Nat.reduceMul,Nat.reduceEqDiff,Nat.reduceLeDiff,Nat.reduceBEq,reduceCtorEq,TYX]
        refine fun _ => ⟨by omega,by omega,?_⟩
        rintro b7 ⟨n67,n57,n47,n37,n27,n17,h7⟩
        have rf := atOf_range (l := m) (i := 4) (most := (o.ids.length : Int)) (by omega)
        have hlf : atN m 4 o.ids.length < o.ids.length := by unfold atN; omega
        have sf : (idsD o.ids).getD (atOf m 4 o.ids.length).toNat [] = (o.ids.getD (atN m 4 o.ids.length) default).d := ids_get hlf
        generalize o.ids.getD (atN m 4 o.ids.length) default = it at h sf
        have hit : it.d = [.int .i64 it.o,.int .i64 it.s,.int .i64 it.i] := rfl
        refine fun _ => ⟨_,f_at (i := 4) (most := (o.ids.length : Int)) (by omega) ⟨rfl,rfl⟩,?_⟩
        simp +contextual only [hx,hd,ops_len,pts_len,ids_len,h_miss,h_skip,n12,n13,n23,sa,sb,sc,he1,he2,he3,n14,n24,n34,n15,n25,n35,n45,n16,n26,n36,n46,n56,q6,q7,q8,q9,q10,q11,q13,q14,sf,hit,hod,back_7,n17,n27,n37,n47,n57,n67,↓U49,↓XP,XQ,XM,cellsOf,okc,one1,resOne,resAll,eqCells,cellEq,fits,sameK,ne_eq,ite_true,ite_false,Nat.reduceSub,Nat.reduceAdd,Nat.reduceMul,Nat.reduceEqDiff,Nat.reduceLeDiff,Nat.reduceBEq,reduceCtorEq,TYX]
        refine fun _ => ⟨by omega,by omega,?_⟩
        refine ⟨_,f_with (p := p) (o := { op0 with k := 18,on := sen,to := o.on,ids := [it] }) (by omega) ⟨rfl,rfl⟩,?_⟩
        generalize withOp p { op0 with k := 18,on := sen,to := o.on,ids := [it] } = p3 at h ⊢
        have hd3 : p3.d = [.int .i64 p3.o,.int .i64 p3.s,.int .i64 p3.day,.slc (refsD p3.needs),.slc (opsD p3.ops),.str p3.sl] := rfl
        simp +contextual only [hd3,hx,hd,ops_len,pts_len,ids_len,h_miss,h_skip,n12,n13,n23,sa,sb,sc,he1,he2,he3,n14,n24,n34,n15,n25,n35,n45,n16,n26,n36,n46,n56,q6,q7,q8,q9,q10,q11,q13,q14,sf,hit,hod,back_7,n17,n27,n37,n47,n57,n67,↓U49,↓XP,XQ,XM,cellsOf,okc,one1,resOne,resAll,eqCells,cellEq,fits,sameK,ne_eq,ite_true,ite_false,Nat.reduceSub,Nat.reduceAdd,Nat.reduceMul,Nat.reduceEqDiff,Nat.reduceLeDiff,Nat.reduceBEq,reduceCtorEq,TYX]
        intros
        exact h
      · rw [if_pos (by omega)] at h
        unfold stepRest at h
        refine ⟨by decide,_,f_rest (n := 1) ⟨rfl,rfl⟩,?_⟩
        simp +contextual only [hx,hd,ops_len,pts_len,ids_len,h_miss,h_skip,n12,n13,n23,sa,sb,sc,he1,he2,he3,n14,n24,n34,n15,n25,n35,n45,n16,n26,n36,n46,n56,q6,q7,q8,q9,q10,q11,q13,q14,↓U49,↓XP,XQ,XM,cellsOf,okc,one1,resOne,resAll,eqCells,cellEq,fits,sameK,ne_eq,ite_true,ite_false,Nat.reduceSub,Nat.reduceAdd,Nat.reduceMul,Nat.reduceEqDiff,Nat.reduceLeDiff,Nat.reduceBEq,reduceCtorEq,TYX]
        refine fun _ => ⟨_,f_small (sense := sen) (other := oth) (n := ((12 : Int).tmod 11)) (m := m.drop 1) ⟨rfl,rfl⟩,?_⟩
        generalize small sen oth ((12 : Int).tmod 11) (m.drop 1) = o at h ⊢
        have hod : o.d = [.int .i64 o.k,.int .i64 o.on.o,.int .i64 o.on.s,.int .i64 o.on.i,.int .i64 o.to.o,.int .i64 o.to.s,.int .i64 o.to.i,.slc (idsD o.ids),.int .i64 o.n,.str o.name,.str o.text,.int .i64 o.a,.int .i64 o.b] := rfl
        simp +contextual only [hod,hx,hd,ops_len,pts_len,ids_len,h_miss,h_skip,n12,n13,n23,sa,sb,sc,he1,he2,he3,n14,n24,n34,n15,n25,n35,n45,n16,n26,n36,n46,n56,q6,q7,q8,q9,q10,q11,q13,q14,↓U49,↓XP,XQ,XM,cellsOf,okc,one1,resOne,resAll,eqCells,cellEq,fits,sameK,ne_eq,ite_true,ite_false,Nat.reduceSub,Nat.reduceAdd,Nat.reduceMul,Nat.reduceEqDiff,Nat.reduceLeDiff,Nat.reduceBEq,reduceCtorEq,TYX]
        refine ⟨_,f_with (p := p) (o := o) (by omega) ⟨rfl,rfl⟩,?_⟩
        generalize withOp p o = p3 at h ⊢
        have hd3 : p3.d = [.int .i64 p3.o,.int .i64 p3.s,.int .i64 p3.day,.slc (refsD p3.needs),.slc (opsD p3.ops),.str p3.sl] := rfl
        simp +contextual only [hd3,hx,hd,ops_len,pts_len,ids_len,h_miss,h_skip,n12,n13,n23,sa,sb,sc,he1,he2,he3,n14,n24,n34,n15,n25,n35,n45,n16,n26,n36,n46,n56,q6,q7,q8,q9,q10,q11,q13,q14,↓U49,↓XP,XQ,XM,cellsOf,okc,one1,resOne,resAll,eqCells,cellEq,fits,sameK,ne_eq,ite_true,ite_false,Nat.reduceSub,Nat.reduceAdd,Nat.reduceMul,Nat.reduceEqDiff,Nat.reduceLeDiff,Nat.reduceBEq,reduceCtorEq,TYX]
        intros
        exact h
    · clear h0 h5 r0
      have q6 : ((13 : Int) = 6) = False := by decide
      have q7 : ((13 : Int) = 7) = False := by decide
      have q8 : ((13 : Int) = 8) = False := by decide
      have q9 : ((13 : Int) = 9) = False := by decide
      have q10 : ((13 : Int) = 10) = False := by decide
      have q11 : ((13 : Int) = 11) = False := by decide
      have q12 : ((13 : Int) = 12) = False := by decide
      have q14 : ((13 : Int) = 14) = False := by decide
      rw [if_neg (by omega),if_neg (by omega),if_neg (by omega),if_neg (by omega),if_neg (by omega),if_neg (by omega),if_pos (by omega)] at h
      simp +contextual only [hx,hd,ops_len,pts_len,ids_len,h_miss,h_skip,n12,n13,n23,sa,sb,sc,he1,he2,he3,n14,n24,n34,n15,n25,n35,n45,q6,q7,q8,q9,q10,q11,q12,q14,↓U49,↓XP,XQ,XM,cellsOf,okc,one1,resOne,resAll,eqCells,cellEq,fits,sameK,ne_eq,ite_true,ite_false,Nat.reduceSub,Nat.reduceAdd,Nat.reduceMul,Nat.reduceEqDiff,Nat.reduceLeDiff,Nat.reduceBEq,reduceCtorEq,TYX]
      refine fun _ => ⟨by omega,by omega,?_⟩
      rintro b6 ⟨n56,n46,n36,n26,n16,h6⟩
      refine f_at (i := 2) (by omega) ?_
      simp +contextual only [hx,hd,ops_len,pts_len,ids_len,h_miss,h_skip,n12,n13,n23,sa,sb,sc,he1,he2,he3,n14,n24,n34,n15,n25,n35,n45,n16,n26,n36,n46,n56,q6,q7,q8,q9,q10,q11,q12,q14,↓U49,↓XP,XQ,XM,cellsOf,okc,one1,resOne,resAll,eqCells,cellEq,fits,sameK,ne_eq,ite_true,ite_false,Nat.reduceSub,Nat.reduceAdd,Nat.reduceMul,Nat.reduceEqDiff,Nat.reduceLeDiff,Nat.reduceBEq,reduceCtorEq,TYX]
      refine fun _ => ⟨fun hq => ?_,fun hq => ?_⟩
      · rw [if_pos (by omega)] at h
        refine ⟨_,f_heads ⟨rfl,rfl⟩,?_⟩
        simp +contextual only [hx,hd,ops_len,pts_len,ids_len,h_miss,h_skip,n12,n13,n23,sa,sb,sc,he1,he2,he3,n14,n24,n34,n15,n25,n35,n45,n16,n26,n36,n46,n56,q6,q7,q8,q9,q10,q11,q12,q14,s38,l8,strs_len,↓U49,↓XP,XQ,XM,cellsOf,okc,one1,resOne,resAll,eqCells,cellEq,fits,sameK,ne_eq,ite_true,ite_false,Nat.reduceSub,Nat.reduceAdd,Nat.reduceMul,Nat.reduceEqDiff,Nat.reduceLeDiff,Nat.reduceBEq,reduceCtorEq,TYX]
        refine fun _ => ⟨_,f_at (i := 3) (by omega) ⟨rfl,rfl⟩,?_⟩
        simp +contextual only [hx,hd,ops_len,pts_len,ids_len,h_miss,h_skip,n12,n13,n23,sa,sb,sc,he1,he2,he3,n14,n24,n34,n15,n25,n35,n45,n16,n26,n36,n46,n56,q6,q7,q8,q9,q10,q11,q12,q14,s38,l8,strs_len,↓U49,↓XP,XQ,XM,cellsOf,okc,one1,resOne,resAll,eqCells,cellEq,fits,sameK,ne_eq,ite_true,ite_false,Nat.reduceSub,Nat.reduceAdd,Nat.reduceMul,Nat.reduceEqDiff,Nat.reduceLeDiff,Nat.reduceBEq,reduceCtorEq,TYX]
        refine fun _ => ⟨by omega,by omega,fun _ => ?_⟩
        refine ⟨_,f_with (p := p) (o := { op0 with k := 5,on := ent,text := heads8.getD (atN m 3 8) [] }) (by omega) ⟨rfl,rfl⟩,?_⟩
        generalize withOp p { op0 with k := 5,on := ent,text := heads8.getD (atN m 3 8) [] } = p3 at h ⊢
        have hd3 : p3.d = [.int .i64 p3.o,.int .i64 p3.s,.int .i64 p3.day,.slc (refsD p3.needs),.slc (opsD p3.ops),.str p3.sl] := rfl
        simp +contextual only [hd3,hx,hd,ops_len,pts_len,ids_len,h_miss,h_skip,n12,n13,n23,sa,sb,sc,he1,he2,he3,n14,n24,n34,n15,n25,n35,n45,n16,n26,n36,n46,n56,q6,q7,q8,q9,q10,q11,q12,q14,s38,l8,strs_len,↓U49,↓XP,XQ,XM,cellsOf,okc,one1,resOne,resAll,eqCells,cellEq,fits,sameK,ne_eq,ite_true,ite_false,Nat.reduceSub,Nat.reduceAdd,Nat.reduceMul,Nat.reduceEqDiff,Nat.reduceLeDiff,Nat.reduceBEq,reduceCtorEq,TYX]
        intros
        exact h
      · rw [if_neg (by omega)] at h
        refine ⟨_,f_at (i := 3) (by omega) ⟨rfl,rfl⟩,?_⟩
        simp +contextual only [hx,hd,ops_len,pts_len,ids_len,h_miss,h_skip,n12,n13,n23,sa,sb,sc,he1,he2,he3,n14,n24,n34,n15,n25,n35,n45,n16,n26,n36,n46,n56,q6,q7,q8,q9,q10,q11,q12,q14,s32,l2,e2,strs_len,↓U49,↓XP,XQ,XM,cellsOf,okc,one1,resOne,resAll,eqCells,cellEq,fits,sameK,ne_eq,ite_true,ite_false,Nat.reduceSub,Nat.reduceAdd,Nat.reduceMul,Nat.reduceEqDiff,Nat.reduceLeDiff,Nat.reduceBEq,reduceCtorEq,TYX]
        refine fun _ => ⟨by omega,by omega,fun _ => ?_⟩
        refine ⟨_,f_with (p := p) (o := { op0 with k := 6,on := ent,name := cls2.getD (atN m 3 2) [] }) (by omega) ⟨rfl,rfl⟩,?_⟩
        generalize withOp p { op0 with k := 6,on := ent,name := cls2.getD (atN m 3 2) [] } = p3 at h ⊢
        have hd3 : p3.d = [.int .i64 p3.o,.int .i64 p3.s,.int .i64 p3.day,.slc (refsD p3.needs),.slc (opsD p3.ops),.str p3.sl] := rfl
        simp +contextual only [hd3,hx,hd,ops_len,pts_len,ids_len,h_miss,h_skip,n12,n13,n23,sa,sb,sc,he1,he2,he3,n14,n24,n34,n15,n25,n35,n45,n16,n26,n36,n46,n56,q6,q7,q8,q9,q10,q11,q12,q14,s32,l2,e2,strs_len,↓U49,↓XP,XQ,XM,cellsOf,okc,one1,resOne,resAll,eqCells,cellEq,fits,sameK,ne_eq,ite_true,ite_false,Nat.reduceSub,Nat.reduceAdd,Nat.reduceMul,Nat.reduceEqDiff,Nat.reduceLeDiff,Nat.reduceBEq,reduceCtorEq,TYX]
        intros
        exact h
    · clear h0 h5 r0
      have q6 : ((14 : Int) = 6) = False := by decide
      have q7 : ((14 : Int) = 7) = False := by decide
      have q8 : ((14 : Int) = 8) = False := by decide
      have q9 : ((14 : Int) = 9) = False := by decide
      have q10 : ((14 : Int) = 10) = False := by decide
      have q11 : ((14 : Int) = 11) = False := by decide
      have q12 : ((14 : Int) = 12) = False := by decide
      have q13 : ((14 : Int) = 13) = False := by decide
      rw [if_neg (by omega),if_neg (by omega),if_neg (by omega),if_neg (by omega),if_neg (by omega),if_neg (by omega),if_neg (by omega),if_pos (by omega)] at h
      simp +contextual only [hx,hd,ops_len,pts_len,ids_len,h_miss,h_skip,n12,n13,n23,sa,sb,sc,he1,he2,he3,n14,n24,n34,n15,n25,n35,n45,q6,q7,q8,q9,q10,q11,q12,q13,↓U49,↓XP,XQ,XM,cellsOf,okc,one1,resOne,resAll,eqCells,cellEq,fits,sameK,ne_eq,ite_true,ite_false,Nat.reduceSub,Nat.reduceAdd,Nat.reduceMul,Nat.reduceEqDiff,Nat.reduceLeDiff,Nat.reduceBEq,reduceCtorEq,TYX]
      refine fun _ => ⟨by omega,by omega,?_⟩
      rintro b6 ⟨n56,n46,n36,n26,n16,h6⟩
      refine f_visible (x := x) (p := p) hs hb ho (by omega) ?_
      generalize visible x seen p 3 = src at h hvl3 ⊢
      simp +contextual only [hx,hd,ops_len,pts_len,ids_len,h_miss,h_skip,n12,n13,n23,sa,sb,sc,he1,he2,he3,n14,n24,n34,n15,n25,n35,n45,n16,n26,n36,n46,n56,q6,q7,q8,q9,q10,q11,q12,q13,↓U49,↓XP,XQ,XM,cellsOf,okc,one1,resOne,resAll,eqCells,cellEq,fits,sameK,ne_eq,ite_true,ite_false,Nat.reduceSub,Nat.reduceAdd,Nat.reduceMul,Nat.reduceEqDiff,Nat.reduceLeDiff,Nat.reduceBEq,reduceCtorEq,TYX]
      refine fun _ => ⟨fun hl0 => ?_,fun hl0 => ?_⟩
      · rw [if_neg (by omega)] at h
        have w1 : IntKind.i64.wrap (500 * atOf m 3 60) = 500 * atOf m 3 60 := wrap_id (by omega) (by omega)
        have w2 : IntKind.i64.wrap (600000 + 500 * atOf m 3 60) = 600000 + 500 * atOf m 3 60 := wrap_id (by omega) (by omega)
        have w3 : IntKind.i64.wrap (600000 + 500 * atOf m 3 60 + 99) = 600000 + 500 * atOf m 3 60 + 99 := wrap_id (by omega) (by omega)
        have rd := atOf_range (l := m) (i := 2) (most := (src.length : Int)) (by omega)
        have hlt : atN m 2 src.length < src.length := by unfold atN; omega
        have sd : (idsD src).getD (atOf m 2 src.length).toNat [] = (src.getD (atN m 2 src.length) default).d := ids_get hlt
        generalize src.getD (atN m 2 src.length) default = it at h sd
        have hit : it.d = [.int .i64 it.o,.int .i64 it.s,.int .i64 it.i] := rfl
        refine f_at (i := 3) (by omega) ?_
        simp +contextual only [hx,hd,ops_len,pts_len,ids_len,h_miss,h_skip,n12,n13,n23,sa,sb,sc,he1,he2,he3,n14,n24,n34,n15,n25,n35,n45,n16,n26,n36,n46,n56,q6,q7,q8,q9,q10,q11,q12,q13,sd,hit,w1,w2,w3,↓U49,↓XP,XQ,XM,cellsOf,okc,one1,resOne,resAll,eqCells,cellEq,fits,sameK,ne_eq,ite_true,ite_false,Nat.reduceSub,Nat.reduceAdd,Nat.reduceMul,Nat.reduceEqDiff,Nat.reduceLeDiff,Nat.reduceBEq,reduceCtorEq,TYX]
        refine fun _ _ => ⟨_,f_at (i := 2) (most := (src.length : Int)) (by omega) ⟨rfl,rfl⟩,?_⟩
        simp +contextual only [hx,hd,ops_len,pts_len,ids_len,h_miss,h_skip,n12,n13,n23,sa,sb,sc,he1,he2,he3,n14,n24,n34,n15,n25,n35,n45,n16,n26,n36,n46,n56,q6,q7,q8,q9,q10,q11,q12,q13,sd,hit,w1,w2,w3,↓U49,↓XP,XQ,XM,cellsOf,okc,one1,resOne,resAll,eqCells,cellEq,fits,sameK,ne_eq,ite_true,ite_false,Nat.reduceSub,Nat.reduceAdd,Nat.reduceMul,Nat.reduceEqDiff,Nat.reduceLeDiff,Nat.reduceBEq,reduceCtorEq,TYX]
        refine fun _ => ⟨by omega,by omega,?_⟩
        refine ⟨_,f_with (p := p) (o := { op0 with k := 11,on := it,a := 600000 + 500 * atOf m 3 60,b := 600000 + 500 * atOf m 3 60 + 99 }) (by omega) ⟨rfl,rfl⟩,?_⟩
        generalize withOp p { op0 with k := 11,on := it,a := 600000 + 500 * atOf m 3 60,b := 600000 + 500 * atOf m 3 60 + 99 } = p3 at h ⊢
        have hd3 : p3.d = [.int .i64 p3.o,.int .i64 p3.s,.int .i64 p3.day,.slc (refsD p3.needs),.slc (opsD p3.ops),.str p3.sl] := rfl
        simp +contextual only [hd3,hx,hd,ops_len,pts_len,ids_len,h_miss,h_skip,n12,n13,n23,sa,sb,sc,he1,he2,he3,n14,n24,n34,n15,n25,n35,n45,n16,n26,n36,n46,n56,q6,q7,q8,q9,q10,q11,q12,q13,sd,hit,w1,w2,w3,↓U49,↓XP,XQ,XM,cellsOf,okc,one1,resOne,resAll,eqCells,cellEq,fits,sameK,ne_eq,ite_true,ite_false,Nat.reduceSub,Nat.reduceAdd,Nat.reduceMul,Nat.reduceEqDiff,Nat.reduceLeDiff,Nat.reduceBEq,reduceCtorEq,TYX]
        intros
        exact h
      · rw [if_pos (by omega)] at h
        unfold stepRest at h
        refine ⟨by decide,_,f_rest (n := 1) ⟨rfl,rfl⟩,?_⟩
        simp +contextual only [hx,hd,ops_len,pts_len,ids_len,h_miss,h_skip,n12,n13,n23,sa,sb,sc,he1,he2,he3,n14,n24,n34,n15,n25,n35,n45,n16,n26,n36,n46,n56,q6,q7,q8,q9,q10,q11,q12,q13,↓U49,↓XP,XQ,XM,cellsOf,okc,one1,resOne,resAll,eqCells,cellEq,fits,sameK,ne_eq,ite_true,ite_false,Nat.reduceSub,Nat.reduceAdd,Nat.reduceMul,Nat.reduceEqDiff,Nat.reduceLeDiff,Nat.reduceBEq,reduceCtorEq,TYX]
        refine fun _ => ⟨_,f_small (sense := sen) (other := oth) (n := ((14 : Int).tmod 11)) (m := m.drop 1) ⟨rfl,rfl⟩,?_⟩
        generalize small sen oth ((14 : Int).tmod 11) (m.drop 1) = o at h ⊢
        have hod : o.d = [.int .i64 o.k,.int .i64 o.on.o,.int .i64 o.on.s,.int .i64 o.on.i,.int .i64 o.to.o,.int .i64 o.to.s,.int .i64 o.to.i,.slc (idsD o.ids),.int .i64 o.n,.str o.name,.str o.text,.int .i64 o.a,.int .i64 o.b] := rfl
        simp +contextual only [hod,hx,hd,ops_len,pts_len,ids_len,h_miss,h_skip,n12,n13,n23,sa,sb,sc,he1,he2,he3,n14,n24,n34,n15,n25,n35,n45,n16,n26,n36,n46,n56,q6,q7,q8,q9,q10,q11,q12,q13,↓U49,↓XP,XQ,XM,cellsOf,okc,one1,resOne,resAll,eqCells,cellEq,fits,sameK,ne_eq,ite_true,ite_false,Nat.reduceSub,Nat.reduceAdd,Nat.reduceMul,Nat.reduceEqDiff,Nat.reduceLeDiff,Nat.reduceBEq,reduceCtorEq,TYX]
        refine ⟨_,f_with (p := p) (o := o) (by omega) ⟨rfl,rfl⟩,?_⟩
        generalize withOp p o = p3 at h ⊢
        have hd3 : p3.d = [.int .i64 p3.o,.int .i64 p3.s,.int .i64 p3.day,.slc (refsD p3.needs),.slc (opsD p3.ops),.str p3.sl] := rfl
        simp +contextual only [hd3,hx,hd,ops_len,pts_len,ids_len,h_miss,h_skip,n12,n13,n23,sa,sb,sc,he1,he2,he3,n14,n24,n34,n15,n25,n35,n45,n16,n26,n36,n46,n56,q6,q7,q8,q9,q10,q11,q12,q13,↓U49,↓XP,XQ,XM,cellsOf,okc,one1,resOne,resAll,eqCells,cellEq,fits,sameK,ne_eq,ite_true,ite_false,Nat.reduceSub,Nat.reduceAdd,Nat.reduceMul,Nat.reduceEqDiff,Nat.reduceLeDiff,Nat.reduceBEq,reduceCtorEq,TYX]
        intros
        exact h
    · have q6 : (c = 6) = False := eq_false (by omega)
      have q7 : (c = 7) = False := eq_false (by omega)
      have q8 : (c = 8) = False := eq_false (by omega)
      have q9 : (c = 9) = False := eq_false (by omega)
      have q10 : (c = 10) = False := eq_false (by omega)
      have q11 : (c = 11) = False := eq_false (by omega)
      have q12 : (c = 12) = False := eq_false (by omega)
      have q13 : (c = 13) = False := eq_false (by omega)
      have q14 : (c = 14) = False := eq_false (by omega)
      rw [if_neg (by omega),if_neg (by omega),if_neg (by omega),if_neg (by omega),if_neg (by omega),if_neg (by omega),if_neg (by omega),if_neg (by omega)] at h
      simp +contextual only [hx,hd,ops_len,pts_len,ids_len,h_miss,h_skip,n12,n13,n23,sa,sb,sc,he1,he2,he3,n14,n24,n34,n15,n25,n35,n45,q6,q7,q8,q9,q10,q11,q12,q13,q14,↓U49,↓XP,XQ,XM,cellsOf,okc,one1,resOne,resAll,eqCells,cellEq,fits,sameK,ne_eq,ite_true,ite_false,Nat.reduceSub,Nat.reduceAdd,Nat.reduceMul,Nat.reduceEqDiff,Nat.reduceLeDiff,Nat.reduceBEq,reduceCtorEq,TYX]
      refine fun _ => ⟨by omega,by omega,?_⟩
      rintro b6 ⟨n56,n46,n36,n26,n16,h6⟩
      unfold stepRest at h
      refine ⟨by decide,_,f_rest (n := 1) ⟨rfl,rfl⟩,?_⟩
      simp +contextual only [hx,hd,ops_len,pts_len,ids_len,h_miss,h_skip,n12,n13,n23,sa,sb,sc,he1,he2,he3,n14,n24,n34,n15,n25,n35,n45,n16,n26,n36,n46,n56,q6,q7,q8,q9,q10,q11,q12,q13,q14,↓U49,↓XP,XQ,XM,cellsOf,okc,one1,resOne,resAll,eqCells,cellEq,fits,sameK,ne_eq,ite_true,ite_false,Nat.reduceSub,Nat.reduceAdd,Nat.reduceMul,Nat.reduceEqDiff,Nat.reduceLeDiff,Nat.reduceBEq,reduceCtorEq,TYX]
      refine fun _ => ⟨_,f_small (sense := sen) (other := oth) (n := (c.tmod 11)) (m := m.drop 1) ⟨rfl,rfl⟩,?_⟩
      generalize small sen oth (c.tmod 11) (m.drop 1) = o at h ⊢
      have hod : o.d = [.int .i64 o.k,.int .i64 o.on.o,.int .i64 o.on.s,.int .i64 o.on.i,.int .i64 o.to.o,.int .i64 o.to.s,.int .i64 o.to.i,.slc (idsD o.ids),.int .i64 o.n,.str o.name,.str o.text,.int .i64 o.a,.int .i64 o.b] := rfl
      simp +contextual only [hod,hx,hd,ops_len,pts_len,ids_len,h_miss,h_skip,n12,n13,n23,sa,sb,sc,he1,he2,he3,n14,n24,n34,n15,n25,n35,n45,n16,n26,n36,n46,n56,q6,q7,q8,q9,q10,q11,q12,q13,q14,↓U49,↓XP,XQ,XM,cellsOf,okc,one1,resOne,resAll,eqCells,cellEq,fits,sameK,ne_eq,ite_true,ite_false,Nat.reduceSub,Nat.reduceAdd,Nat.reduceMul,Nat.reduceEqDiff,Nat.reduceLeDiff,Nat.reduceBEq,reduceCtorEq,TYX]
      refine ⟨_,f_with (p := p) (o := o) (by omega) ⟨rfl,rfl⟩,?_⟩
      generalize withOp p o = p3 at h ⊢
      have hd3 : p3.d = [.int .i64 p3.o,.int .i64 p3.s,.int .i64 p3.day,.slc (refsD p3.needs),.slc (opsD p3.ops),.str p3.sl] := rfl
      simp +contextual only [hd3,hx,hd,ops_len,pts_len,ids_len,h_miss,h_skip,n12,n13,n23,sa,sb,sc,he1,he2,he3,n14,n24,n34,n15,n25,n35,n45,n16,n26,n36,n46,n56,q6,q7,q8,q9,q10,q11,q12,q13,q14,↓U49,↓XP,XQ,XM,cellsOf,okc,one1,resOne,resAll,eqCells,cellEq,fits,sameK,ne_eq,ite_true,ite_false,Nat.reduceSub,Nat.reduceAdd,Nat.reduceMul,Nat.reduceEqDiff,Nat.reduceLeDiff,Nat.reduceBEq,reduceCtorEq,TYX]
      intros
      exact h
end Go.Proofs.YtoeckfegggongaaDoor
end
