/- A part of the proof of what the last text says: Gf6. Conditions: those in each theorem. -/
import Derived.Test.YtoeckfegggongaaDoorP26
set_option linter.unusedVariables false
set_option linter.unusedSimpArgs false
set_option maxRecDepth 100000
set_option maxHeartbeats 16000000
section
namespace Go.Proofs.YtoeckfegggongaaDoor
open Go Go.Aw
theorem meaning_len {p : Pt} {on : Id3} {m : List Int} : (meaning p on m).ops.length ≤ p.ops.length + 3 := by
  unfold meaning
  simp only
  split <;> simp only [with_len] <;> omega
theorem f_divided {p : Pt} {entry sense : Id3} {m : List Int} {H : AH} {R : D → AH → Prop} (hl : p.ops.length ≤ 800) (h : R (.agg (divided p entry sense m).d) H) : ACall Tryd.prog 63 [.agg p.d,.agg entry.d,.agg sense.d,.slc (ints m)] H R := by
  refine b63 fun hf => ?_
  have hbig := big_eq
  have hd : p.d = [.int .i64 p.o,.int .i64 p.s,.int .i64 p.day,.slc (refsD p.needs),.slc (opsD p.ops),.str p.sl] := rfl
  have he : entry.d = [.int .i64 entry.o,.int .i64 entry.s,.int .i64 entry.i] := rfl
  have hs : sense.d = [.int .i64 sense.o,.int .i64 sense.s,.int .i64 sense.i] := rfl
  simp +contextual only [x63,hd,he,hs,ops_len,h_miss,h_skip,↓U63,↓XP,XQ,XM,cellsOf,okc,one1,resOne,resAll,eqCells,cellEq,fits,sameK,ne_eq,ite_true,ite_false,Nat.reduceSub,Nat.reduceAdd,Nat.reduceMul,Nat.reduceEqDiff,Nat.reduceLeDiff,Nat.reduceBEq,reduceCtorEq,TYX]
  rintro b1 h1 b2 ⟨n12,h2⟩ b3 ⟨n23,n13,h3⟩ b4 ⟨n34,n24,n14,h4⟩ _ _ _ b5 ⟨n45,n35,n25,n15,h5⟩
  refine f_meaning (p := p) (on := entry) (m := m) (by omega) ?_
  obtain ⟨p1,hp1⟩ : ∃ q,q = meaning p entry m := ⟨_,rfl⟩
  have l1 : p1.ops.length ≤ p.ops.length + 3 := by rw [hp1]; exact meaning_len
  have hdv : divided p entry sense m = withOp (meaning p1 entry (m.drop 1)) { op0 with k := 16,on := sense,ids := [nextId p,nextId p1],n := atOf m 4 3 - 1 } := by rw [hp1]; rfl
  rw [← hp1]
  clear hp1
  have hd1 : p1.d = [.int .i64 p1.o,.int .i64 p1.s,.int .i64 p1.day,.slc (refsD p1.needs),.slc (opsD p1.ops),.str p1.sl] := rfl
  simp +contextual only [hd1,hd,he,hs,ops_len,h_miss,h_skip,n12,n13,n23,n14,n24,n34,n15,n25,n35,n45,↓U63,↓XP,XQ,XM,cellsOf,okc,one1,resOne,resAll,eqCells,cellEq,fits,sameK,ne_eq,ite_true,ite_false,Nat.reduceSub,Nat.reduceAdd,Nat.reduceMul,Nat.reduceEqDiff,Nat.reduceLeDiff,Nat.reduceBEq,reduceCtorEq,TYX]
  rintro _ _ _ b6 ⟨n56,n46,n36,n26,n16,h6⟩
  refine ⟨_,f_rest (n := 1) ⟨rfl,rfl⟩,?_⟩
  simp +contextual only [hd1,hd,he,hs,ops_len,h_miss,h_skip,n12,n13,n23,n14,n24,n34,n15,n25,n35,n45,n16,n26,n36,n46,n56,↓U63,↓XP,XQ,XM,cellsOf,okc,one1,resOne,resAll,eqCells,cellEq,fits,sameK,ne_eq,ite_true,ite_false,Nat.reduceSub,Nat.reduceAdd,Nat.reduceMul,Nat.reduceEqDiff,Nat.reduceLeDiff,Nat.reduceBEq,reduceCtorEq,TYX]
  refine fun _ => ⟨_,f_meaning (p := p1) (on := entry) (m := m.drop 1) (by omega) ⟨rfl,rfl⟩,?_⟩
  have l2 := meaning_len (p := p1) (on := entry) (m := m.drop 1)
  rw [hdv] at h
  generalize meaning p1 entry (m.drop 1) = p2 at h l2 ⊢
  have hd2 : p2.d = [.int .i64 p2.o,.int .i64 p2.s,.int .i64 p2.day,.slc (refsD p2.needs),.slc (opsD p2.ops),.str p2.sl] := rfl
  simp +contextual only [hd2,hd1,hd,he,hs,ops_len,h_miss,h_skip,n12,n13,n23,n14,n24,n34,n15,n25,n35,n45,n16,n26,n36,n46,n56,↓U63,↓XP,XQ,XM,cellsOf,okc,one1,resOne,resAll,eqCells,cellEq,fits,sameK,ne_eq,ite_true,ite_false,Nat.reduceSub,Nat.reduceAdd,Nat.reduceMul,Nat.reduceEqDiff,Nat.reduceLeDiff,Nat.reduceBEq,reduceCtorEq,TYX]
  have r3 := atOf_range (l := m) (i := 4) (most := 3) (by omega)
  refine ⟨_,f_at (i := 4) (by omega) ⟨rfl,rfl⟩,?_⟩
  have w3 : IntKind.i64.wrap (atOf m 4 3 - 1) = atOf m 4 3 - 1 := wrap_id (by omega) (by omega)
  simp +contextual only [hd2,hd1,hd,he,hs,ops_len,h_miss,h_skip,n12,n13,n23,n14,n24,n34,n15,n25,n35,n45,n16,n26,n36,n46,n56,w3,↓U63,↓XP,XQ,XM,cellsOf,okc,one1,resOne,resAll,eqCells,cellEq,fits,sameK,ne_eq,ite_true,ite_false,Nat.reduceSub,Nat.reduceAdd,Nat.reduceMul,Nat.reduceEqDiff,Nat.reduceLeDiff,Nat.reduceBEq,reduceCtorEq,TYX]
  refine fun _ => ⟨_,f_with (p := p2) (o := { op0 with k := 16,on := sense,ids := [nextId p,nextId p1],n := atOf m 4 3 - 1 }) (by omega) ⟨rfl,rfl⟩,?_⟩
  generalize withOp p2 { op0 with k := 16,on := sense,ids := [nextId p,nextId p1],n := atOf m 4 3 - 1 } = p3 at h ⊢
  have hd3 : p3.d = [.int .i64 p3.o,.int .i64 p3.s,.int .i64 p3.day,.slc (refsD p3.needs),.slc (opsD p3.ops),.str p3.sl] := rfl
  simp +contextual only [hd3,hd2,hd1,hd,he,hs,ops_len,h_miss,h_skip,n12,n13,n23,n14,n24,n34,n15,n25,n35,n45,n16,n26,n36,n46,n56,↓U63,↓XP,XQ,XM,cellsOf,okc,one1,resOne,resAll,eqCells,cellEq,fits,sameK,ne_eq,ite_true,ite_false,Nat.reduceSub,Nat.reduceAdd,Nat.reduceMul,Nat.reduceEqDiff,Nat.reduceLeDiff,Nat.reduceBEq,reduceCtorEq,TYX]
  intros
  exact h
theorem vis_len {x : Gs} {seen : List Bool} {p : Pt} {kind : Int} (ho : ∀ q ∈ x.l,q.ops.length ≤ 1000) (hb : x.l.length ≤ 100) (hp : p.ops.length ≤ 1000) : (visible x seen p kind).length ≤ 101000 := by
  have h1 := visTo_len (x := x) (seen := seen) (kind := kind) ho x.l.length
  have h2 := visOne_len (p := p) (kind := kind) (ok := true) p.ops.length
  unfold visible
  rw [List.length_append]
  unfold visOne at h1 ⊢
  omega
theorem f_quoted {x : Gs} {seen : List Bool} {p : Pt} {sense : Id3} {m : List Int} {H : AH} {R : D → AH → Prop} (hs : x.l.length ≤ seen.length) (hb : x.l.length ≤ 100) (ho : ∀ q ∈ x.l,q.ops.length ≤ 1000) (hp : p.ops.length ≤ 800) (h : R (.agg (quoted x seen p sense m).d) H) : ACall Tryd.prog 62 [.agg x.d,.slc (boolsD seen),.agg p.d,.agg sense.d,.slc (ints m)] H R := by
  refine b62 fun hf => ?_
  have hbig := big_eq
  have hx : x.d = [.slc (ptsD x.l),.slc (pastD x.past)] := rfl
  have hd : p.d = [.int .i64 p.o,.int .i64 p.s,.int .i64 p.day,.slc (refsD p.needs),.slc (opsD p.ops),.str p.sl] := rfl
  have he : sense.d = [.int .i64 sense.o,.int .i64 sense.s,.int .i64 sense.i] := rfl
  simp +contextual only [x62,hx,hd,he,ops_len,pts_len,h_miss,h_skip,↓U62,↓XP,XQ,XM,cellsOf,okc,one1,resOne,resAll,eqCells,cellEq,fits,sameK,ne_eq,ite_true,ite_false,Nat.reduceSub,Nat.reduceAdd,Nat.reduceMul,Nat.reduceEqDiff,Nat.reduceLeDiff,Nat.reduceBEq,reduceCtorEq,TYX]
  rintro b1 h1 b2 ⟨n12,h2⟩ b3 ⟨n23,n13,h3⟩ b4 ⟨n34,n24,n14,h4⟩
  refine f_visible (x := x) (p := p) hs hb ho (by omega) ?_
  have hvl : (visible x seen p 3).length ≤ 101000 := vis_len ho hb (by omega)
  unfold quoted at h
  simp only at h
  generalize visible x seen p 3 = src at h hvl ⊢
  simp +contextual only [hx,hd,he,ops_len,pts_len,ids_len,h_miss,h_skip,n12,n13,n23,n14,n24,n34,↓U62,↓XP,XQ,XM,cellsOf,okc,one1,resOne,resAll,eqCells,cellEq,fits,sameK,ne_eq,ite_true,ite_false,Nat.reduceSub,Nat.reduceAdd,Nat.reduceMul,Nat.reduceEqDiff,Nat.reduceLeDiff,Nat.reduceBEq,reduceCtorEq,TYX]
  rintro _ _ _ _ b5 ⟨n45,n35,n25,n15,h5⟩
  have r2 := atOf_range (l := m) (i := 2) (most := 60) (by omega)
  have r3 := atOf_range (l := m) (i := 3) (most := 3) (by omega)
  have r4 := atOf_range (l := m) (i := 4) (most := 8) (by omega)
  have r5 := atOf_range (l := m) (i := 5) (most := 90) (by omega)
  have w1 : IntKind.i64.wrap (400 * atOf m 2 60) = 400 * atOf m 2 60 := wrap_id (by omega) (by omega)
  have w2 : IntKind.i64.wrap (600000 + 400 * atOf m 2 60) = 600000 + 400 * atOf m 2 60 := wrap_id (by omega) (by omega)
  have w3 : IntKind.i64.wrap (300 * atOf m 4 8) = 300 * atOf m 4 8 := wrap_id (by omega) (by omega)
  have w4 : IntKind.i64.wrap (600000 + 400 * atOf m 2 60 + 300 * atOf m 4 8) = 600000 + 400 * atOf m 2 60 + 300 * atOf m 4 8 := wrap_id (by omega) (by omega)
  have w5 : IntKind.i64.wrap (1 + atOf m 5 90) = 1 + atOf m 5 90 := wrap_id (by omega) (by omega)
  have e3 : ([[.str [112,114,101,115,115]],[.str [104,101,105,114,115]],[.str [99,114,111,119,110]]] : List (List D)) = strs names3 := rfl
  have s3 := strs_get (show (atOf m 3 3).toNat < names3.length by show _ < 3; omega)
  have l3 : names3.length = 3 := rfl
  refine ⟨fun h0 => ?_,fun h0 => ?_⟩
  · rw [if_pos (.inl (by omega))] at h
    refine f_at (i := 2) (by omega) ?_
    simp +contextual only [hx,hd,he,ops_len,pts_len,ids_len,h_miss,h_skip,n12,n13,n23,n14,n24,n34,n15,n25,n35,n45,w1,w2,↓U62,↓XP,XQ,XM,cellsOf,okc,one1,resOne,resAll,eqCells,cellEq,fits,sameK,ne_eq,ite_true,ite_false,Nat.reduceSub,Nat.reduceAdd,Nat.reduceMul,Nat.reduceEqDiff,Nat.reduceLeDiff,Nat.reduceBEq,reduceCtorEq,TYX]
    refine fun _ => ⟨_,f_at (i := 3) (by omega) ⟨rfl,rfl⟩,?_⟩
    simp +contextual only [hx,hd,he,ops_len,pts_len,ids_len,h_miss,h_skip,n12,n13,n23,n14,n24,n34,n15,n25,n35,n45,w1,w2,e3,s3,l3,strs_len,↓U62,↓XP,XQ,XM,cellsOf,okc,one1,resOne,resAll,eqCells,cellEq,fits,sameK,ne_eq,ite_true,ite_false,Nat.reduceSub,Nat.reduceAdd,Nat.reduceMul,Nat.reduceEqDiff,Nat.reduceLeDiff,Nat.reduceBEq,reduceCtorEq,TYX]
    refine fun _ => ⟨by omega,by omega,fun _ => ?_⟩
    refine ⟨_,f_at (i := 4) (by omega) ⟨rfl,rfl⟩,?_⟩
    simp +contextual only [hx,hd,he,ops_len,pts_len,ids_len,h_miss,h_skip,n12,n13,n23,n14,n24,n34,n15,n25,n35,n45,w1,w2,w3,w4,e3,s3,l3,strs_len,↓U62,↓XP,XQ,XM,cellsOf,okc,one1,resOne,resAll,eqCells,cellEq,fits,sameK,ne_eq,ite_true,ite_false,Nat.reduceSub,Nat.reduceAdd,Nat.reduceMul,Nat.reduceEqDiff,Nat.reduceLeDiff,Nat.reduceBEq,reduceCtorEq,TYX]
    refine fun _ => ⟨_,f_with (p := p) (o := { op0 with k := 3,name := names3.getD (atN m 3 3) [],text := [97,110,110,97,108,115],a := 600000 + 400 * atOf m 2 60,b := 600000 + 400 * atOf m 2 60 + 300 * atOf m 4 8 }) (by omega) ⟨rfl,rfl⟩,?_⟩
    generalize hp1 : withOp p { op0 with k := 3,name := names3.getD (atN m 3 3) [],text := [97,110,110,97,108,115],a := 600000 + 400 * atOf m 2 60,b := 600000 + 400 * atOf m 2 60 + 300 * atOf m 4 8 } = p1 at h ⊢
    have lp1 : p1.ops.length ≤ 801 := by rw [← hp1,with_len]; omega
    have hd1 : p1.d = [.int .i64 p1.o,.int .i64 p1.s,.int .i64 p1.day,.slc (refsD p1.needs),.slc (opsD p1.ops),.str p1.sl] := rfl
    simp +contextual only [hd1,hx,hd,he,ops_len,pts_len,ids_len,h_miss,h_skip,n12,n13,n23,n14,n24,n34,n15,n25,n35,n45,↓U62,↓XP,XQ,XM,cellsOf,okc,one1,resOne,resAll,eqCells,cellEq,fits,sameK,ne_eq,ite_true,ite_false,Nat.reduceSub,Nat.reduceAdd,Nat.reduceMul,Nat.reduceEqDiff,Nat.reduceLeDiff,Nat.reduceBEq,reduceCtorEq,TYX]
    refine ⟨_,f_at (i := 5) (by omega) ⟨rfl,rfl⟩,?_⟩
    simp +contextual only [hd1,hx,hd,he,ops_len,pts_len,ids_len,h_miss,h_skip,n12,n13,n23,n14,n24,n34,n15,n25,n35,n45,w5,↓U62,↓XP,XQ,XM,cellsOf,okc,one1,resOne,resAll,eqCells,cellEq,fits,sameK,ne_eq,ite_true,ite_false,Nat.reduceSub,Nat.reduceAdd,Nat.reduceMul,Nat.reduceEqDiff,Nat.reduceLeDiff,Nat.reduceBEq,reduceCtorEq,TYX]
    refine fun _ => ⟨_,f_rest (n := 6) ⟨rfl,rfl⟩,?_⟩
    simp +contextual only [hd1,hx,hd,he,ops_len,pts_len,ids_len,h_miss,h_skip,n12,n13,n23,n14,n24,n34,n15,n25,n35,n45,w5,↓U62,↓XP,XQ,XM,cellsOf,okc,one1,resOne,resAll,eqCells,cellEq,fits,sameK,ne_eq,ite_true,ite_false,Nat.reduceSub,Nat.reduceAdd,Nat.reduceMul,Nat.reduceEqDiff,Nat.reduceLeDiff,Nat.reduceBEq,reduceCtorEq,TYX]
    refine fun _ => ⟨_,f_gloss ⟨rfl,rfl⟩,?_⟩
    simp +contextual only [hd1,hx,hd,he,ops_len,pts_len,ids_len,h_miss,h_skip,n12,n13,n23,n14,n24,n34,n15,n25,n35,n45,w5,↓U62,↓XP,XQ,XM,cellsOf,okc,one1,resOne,resAll,eqCells,cellEq,fits,sameK,ne_eq,ite_true,ite_false,Nat.reduceSub,Nat.reduceAdd,Nat.reduceMul,Nat.reduceEqDiff,Nat.reduceLeDiff,Nat.reduceBEq,reduceCtorEq,TYX]
    refine fun _ => ⟨_,f_with (p := p1) (o := { op0 with k := 4,on := sense,to := nextId p,n := 1 + atOf m 5 90,text := gloss (m.drop 6) }) (by omega) ⟨rfl,rfl⟩,?_⟩
    generalize withOp p1 { op0 with k := 4,on := sense,to := nextId p,n := 1 + atOf m 5 90,text := gloss (m.drop 6) } = p3 at h ⊢
    have hd3 : p3.d = [.int .i64 p3.o,.int .i64 p3.s,.int .i64 p3.day,.slc (refsD p3.needs),.slc (opsD p3.ops),.str p3.sl] := rfl
    simp +contextual only [hd3,hd1,hx,hd,he,ops_len,pts_len,ids_len,h_miss,h_skip,n12,n13,n23,n14,n24,n34,n15,n25,n35,n45,↓U62,↓XP,XQ,XM,cellsOf,okc,one1,resOne,resAll,eqCells,cellEq,fits,sameK,ne_eq,ite_true,ite_false,Nat.reduceSub,Nat.reduceAdd,Nat.reduceMul,Nat.reduceEqDiff,Nat.reduceLeDiff,Nat.reduceBEq,reduceCtorEq,TYX]
    intros
    exact h
  · refine f_at (i := 1) (by omega) ?_
    simp +contextual only [hx,hd,he,ops_len,pts_len,ids_len,h_miss,h_skip,n12,n13,n23,n14,n24,n34,n15,n25,n35,n45,↓U62,↓XP,XQ,XM,cellsOf,okc,one1,resOne,resAll,eqCells,cellEq,fits,sameK,ne_eq,ite_true,ite_false,Nat.reduceSub,Nat.reduceAdd,Nat.reduceMul,Nat.reduceEqDiff,Nat.reduceLeDiff,Nat.reduceBEq,reduceCtorEq,TYX]
    refine fun _ => ⟨fun h1 => ?_,fun h1 => ?_⟩
    · rw [if_pos (.inr h1)] at h
      refine f_at (i := 2) (by omega) ?_
      simp +contextual only [hx,hd,he,ops_len,pts_len,ids_len,h_miss,h_skip,n12,n13,n23,n14,n24,n34,n15,n25,n35,n45,w1,w2,↓U62,↓XP,XQ,XM,cellsOf,okc,one1,resOne,resAll,eqCells,cellEq,fits,sameK,ne_eq,ite_true,ite_false,Nat.reduceSub,Nat.reduceAdd,Nat.reduceMul,Nat.reduceEqDiff,Nat.reduceLeDiff,Nat.reduceBEq,reduceCtorEq,TYX]
      refine fun _ => ⟨_,f_at (i := 3) (by omega) ⟨rfl,rfl⟩,?_⟩
      simp +contextual only [hx,hd,he,ops_len,pts_len,ids_len,h_miss,h_skip,n12,n13,n23,n14,n24,n34,n15,n25,n35,n45,w1,w2,e3,s3,l3,strs_len,↓U62,↓XP,XQ,XM,cellsOf,okc,one1,resOne,resAll,eqCells,cellEq,fits,sameK,ne_eq,ite_true,ite_false,Nat.reduceSub,Nat.reduceAdd,Nat.reduceMul,Nat.reduceEqDiff,Nat.reduceLeDiff,Nat.reduceBEq,reduceCtorEq,TYX]
      refine fun _ => ⟨by omega,by omega,fun _ => ?_⟩
      refine ⟨_,f_at (i := 4) (by omega) ⟨rfl,rfl⟩,?_⟩
      simp +contextual only [hx,hd,he,ops_len,pts_len,ids_len,h_miss,h_skip,n12,n13,n23,n14,n24,n34,n15,n25,n35,n45,w1,w2,w3,w4,e3,s3,l3,strs_len,↓U62,↓XP,XQ,XM,cellsOf,okc,one1,resOne,resAll,eqCells,cellEq,fits,sameK,ne_eq,ite_true,ite_false,Nat.reduceSub,Nat.reduceAdd,Nat.reduceMul,Nat.reduceEqDiff,Nat.reduceLeDiff,Nat.reduceBEq,reduceCtorEq,TYX]
      refine fun _ => ⟨_,f_with (p := p) (o := { op0 with k := 3,name := names3.getD (atN m 3 3) [],text := [97,110,110,97,108,115],a := 600000 + 400 * atOf m 2 60,b := 600000 + 400 * atOf m 2 60 + 300 * atOf m 4 8 }) (by omega) ⟨rfl,rfl⟩,?_⟩
      generalize hp1 : withOp p { op0 with k := 3,name := names3.getD (atN m 3 3) [],text := [97,110,110,97,108,115],a := 600000 + 400 * atOf m 2 60,b := 600000 + 400 * atOf m 2 60 + 300 * atOf m 4 8 } = p1 at h ⊢
      have lp1 : p1.ops.length ≤ 801 := by rw [← hp1,with_len]; omega
      have hd1 : p1.d = [.int .i64 p1.o,.int .i64 p1.s,.int .i64 p1.day,.slc (refsD p1.needs),.slc (opsD p1.ops),.str p1.sl] := rfl
      simp +contextual only [hd1,hx,hd,he,ops_len,pts_len,ids_len,h_miss,h_skip,n12,n13,n23,n14,n24,n34,n15,n25,n35,n45,↓U62,↓XP,XQ,XM,cellsOf,okc,one1,resOne,resAll,eqCells,cellEq,fits,sameK,ne_eq,ite_true,ite_false,Nat.reduceSub,Nat.reduceAdd,Nat.reduceMul,Nat.reduceEqDiff,Nat.reduceLeDiff,Nat.reduceBEq,reduceCtorEq,TYX]
      refine ⟨_,f_at (i := 5) (by omega) ⟨rfl,rfl⟩,?_⟩
      simp +contextual only [hd1,hx,hd,he,ops_len,pts_len,ids_len,h_miss,h_skip,n12,n13,n23,n14,n24,n34,n15,n25,n35,n45,w5,↓U62,↓XP,XQ,XM,cellsOf,okc,one1,resOne,resAll,eqCells,cellEq,fits,sameK,ne_eq,ite_true,ite_false,Nat.reduceSub,Nat.reduceAdd,Nat.reduceMul,Nat.reduceEqDiff,Nat.reduceLeDiff,Nat.reduceBEq,reduceCtorEq,TYX]
      refine fun _ => ⟨_,f_rest (n := 6) ⟨rfl,rfl⟩,?_⟩
      simp +contextual only [hd1,hx,hd,he,ops_len,pts_len,ids_len,h_miss,h_skip,n12,n13,n23,n14,n24,n34,n15,n25,n35,n45,w5,↓U62,↓XP,XQ,XM,cellsOf,okc,one1,resOne,resAll,eqCells,cellEq,fits,sameK,ne_eq,ite_true,ite_false,Nat.reduceSub,Nat.reduceAdd,Nat.reduceMul,Nat.reduceEqDiff,Nat.reduceLeDiff,Nat.reduceBEq,reduceCtorEq,TYX]
      refine fun _ => ⟨_,f_gloss ⟨rfl,rfl⟩,?_⟩
      simp +contextual only [hd1,hx,hd,he,ops_len,pts_len,ids_len,h_miss,h_skip,n12,n13,n23,n14,n24,n34,n15,n25,n35,n45,w5,↓U62,↓XP,XQ,XM,cellsOf,okc,one1,resOne,resAll,eqCells,cellEq,fits,sameK,ne_eq,ite_true,ite_false,Nat.reduceSub,Nat.reduceAdd,Nat.reduceMul,Nat.reduceEqDiff,Nat.reduceLeDiff,Nat.reduceBEq,reduceCtorEq,TYX]
      refine fun _ => ⟨_,f_with (p := p1) (o := { op0 with k := 4,on := sense,to := nextId p,n := 1 + atOf m 5 90,text := gloss (m.drop 6) }) (by omega) ⟨rfl,rfl⟩,?_⟩
      generalize withOp p1 { op0 with k := 4,on := sense,to := nextId p,n := 1 + atOf m 5 90,text := gloss (m.drop 6) } = p3 at h ⊢
      have hd3 : p3.d = [.int .i64 p3.o,.int .i64 p3.s,.int .i64 p3.day,.slc (refsD p3.needs),.slc (opsD p3.ops),.str p3.sl] := rfl
      simp +contextual only [hd3,hd1,hx,hd,he,ops_len,pts_len,ids_len,h_miss,h_skip,n12,n13,n23,n14,n24,n34,n15,n25,n35,n45,↓U62,↓XP,XQ,XM,cellsOf,okc,one1,resOne,resAll,eqCells,cellEq,fits,sameK,ne_eq,ite_true,ite_false,Nat.reduceSub,Nat.reduceAdd,Nat.reduceMul,Nat.reduceEqDiff,Nat.reduceLeDiff,Nat.reduceBEq,reduceCtorEq,TYX]
      intros
      exact h
    · rw [if_neg (by rintro (hc | hc); exact h0 (by omega); exact h1 hc)] at h
      have r6 := atOf_range (l := m) (i := 2) (most := (src.length : Int)) (by omega)
      have s6 := ids_get (show (atOf m 2 src.length).toNat < src.length by omega)
      refine fun _ => f_at (i := 2) (most := (src.length : Int)) (by omega) ?_
      unfold atN at h
      generalize src.getD (atOf m 2 src.length).toNat default = to at s6 h
      have hto : to.d = [.int .i64 to.o,.int .i64 to.s,.int .i64 to.i] := rfl
      simp +contextual only [hx,hd,he,ops_len,pts_len,ids_len,h_miss,h_skip,n12,n13,n23,n14,n24,n34,n15,n25,n35,n45,s6,hto,↓U62,↓XP,XQ,XM,cellsOf,okc,one1,resOne,resAll,eqCells,cellEq,fits,sameK,ne_eq,ite_true,ite_false,Nat.reduceSub,Nat.reduceAdd,Nat.reduceMul,Nat.reduceEqDiff,Nat.reduceLeDiff,Nat.reduceBEq,reduceCtorEq,TYX]
      refine fun _ => ⟨by omega,by omega,?_⟩
      refine ⟨_,f_at (i := 5) (by omega) ⟨rfl,rfl⟩,?_⟩
      simp +contextual only [hto,hx,hd,he,ops_len,pts_len,ids_len,h_miss,h_skip,n12,n13,n23,n14,n24,n34,n15,n25,n35,n45,w5,↓U62,↓XP,XQ,XM,cellsOf,okc,one1,resOne,resAll,eqCells,cellEq,fits,sameK,ne_eq,ite_true,ite_false,Nat.reduceSub,Nat.reduceAdd,Nat.reduceMul,Nat.reduceEqDiff,Nat.reduceLeDiff,Nat.reduceBEq,reduceCtorEq,TYX]
      refine fun _ => ⟨_,f_rest (n := 6) ⟨rfl,rfl⟩,?_⟩
      simp +contextual only [hto,hx,hd,he,ops_len,pts_len,ids_len,h_miss,h_skip,n12,n13,n23,n14,n24,n34,n15,n25,n35,n45,w5,↓U62,↓XP,XQ,XM,cellsOf,okc,one1,resOne,resAll,eqCells,cellEq,fits,sameK,ne_eq,ite_true,ite_false,Nat.reduceSub,Nat.reduceAdd,Nat.reduceMul,Nat.reduceEqDiff,Nat.reduceLeDiff,Nat.reduceBEq,reduceCtorEq,TYX]
      refine fun _ => ⟨_,f_gloss ⟨rfl,rfl⟩,?_⟩
      simp +contextual only [hto,hx,hd,he,ops_len,pts_len,ids_len,h_miss,h_skip,n12,n13,n23,n14,n24,n34,n15,n25,n35,n45,w5,↓U62,↓XP,XQ,XM,cellsOf,okc,one1,resOne,resAll,eqCells,cellEq,fits,sameK,ne_eq,ite_true,ite_false,Nat.reduceSub,Nat.reduceAdd,Nat.reduceMul,Nat.reduceEqDiff,Nat.reduceLeDiff,Nat.reduceBEq,reduceCtorEq,TYX]
      refine fun _ => ⟨_,f_with (p := p) (o := { op0 with k := 4,on := sense,to := to,n := 1 + atOf m 5 90,text := gloss (m.drop 6) }) (by omega) ⟨rfl,rfl⟩,?_⟩
      generalize withOp p { op0 with k := 4,on := sense,to := to,n := 1 + atOf m 5 90,text := gloss (m.drop 6) } = p3 at h ⊢
      have hd3 : p3.d = [.int .i64 p3.o,.int .i64 p3.s,.int .i64 p3.day,.slc (refsD p3.needs),.slc (opsD p3.ops),.str p3.sl] := rfl
      simp +contextual only [hd3,hto,hx,hd,he,ops_len,pts_len,ids_len,h_miss,h_skip,n12,n13,n23,n14,n24,n34,n15,n25,n35,n45,↓U62,↓XP,XQ,XM,cellsOf,okc,one1,resOne,resAll,eqCells,cellEq,fits,sameK,ne_eq,ite_true,ite_false,Nat.reduceSub,Nat.reduceAdd,Nat.reduceMul,Nat.reduceEqDiff,Nat.reduceLeDiff,Nat.reduceBEq,reduceCtorEq,TYX]
      intros
      exact h
end Go.Proofs.YtoeckfegggongaaDoor
end
