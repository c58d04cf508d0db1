/- A part of the proof of what the last text says: Gf6, Gf7, Gn5. Conditions: those in each theorem. -/
import Derived.Test.YtoeckfegggongaaGreatDoorV24
set_option linter.unusedVariables false
set_option linter.unusedSimpArgs false
set_option maxRecDepth 100000
set_option maxHeartbeats 16000000
open Nat renaming reduceSub → qa,reduceAdd → qb,reduceMul → qc,reduceEqDiff → qd,reduceLeDiff → qe,reduceBEq → qf
section
namespace Go.Proofs.YtoeckfegggongaaGreatDoor
open Go Go.Aw
theorem zr {p : Pt} {on : Id3} {m : List Int} : (meaning p on m).ops.length ≤ p.ops.length + 3 := by
 unfold meaning
 simp only
 split <;> simp only [wN] <;> omega
theorem W6 {p : Pt} {entry sense : Id3} {m : List Int} {H : AH} {R : D → AH → Prop} (hl : p.ops.length ≤ 800) (h : R (.agg (divided p entry sense m).d) H) : ACall Tryz.prog 87 [.agg p.d,.agg entry.d,.agg sense.d,.slc (ints m)] H R := by
 refine b87 fun hf=>?_
 have hbig := qt
 have hd := @dE p
 have he : entry.d = [.int .i64 entry.o,.int .i64 entry.s,.int .i64 entry.i] := rfl
 have hs : sense.d = [.int .i64 sense.o,.int .i64 sense.s,.int .i64 sense.i] := rfl
 simp +contextual only [x87,hd,he,hs,qj,qg,qi,↓U87,↓XP,qm,XW1,qa,qb,qc,qd,qe,qf,reduceCtorEq]
 rintro b1 h1 b2 ⟨n12,h2⟩ b3 ⟨n23,n13,h3⟩ b4 ⟨n34,n24,n14,h4⟩ _ _ _ b5 ⟨n45,n35,n25,n15,h5⟩
 refine wy (p := p) (on := entry) (m := m) (by omega) ?_
 obtain ⟨p1,hp1⟩ : ∃ q,q = meaning p entry m := ⟨_,rfl⟩
 have l1 : p1.ops.length ≤ p.ops.length + 3 := by rw [hp1]; exact zr
 have hdv : divided p entry sense m = j6 (meaning p1 entry (m.drop 1)) { op0 with k := 16,on := sense,ids := [jv p,jv p1],n := qE m 4 3 - 1 } := by rw [hp1]; rfl
 rw [← hp1]
 clear hp1
 have hd1 := @dE p1
 simp +contextual only [hd1,hd,he,hs,qj,qg,qi,n12,n13,n23,n14,n24,n34,n15,n25,n35,n45,↓U87,↓XP,qm,XW1,qa,qb,qc,qd,qe,qf,reduceCtorEq]
 rintro _ _ _ b6 ⟨n56,n46,n36,n26,n16,h6⟩
 refine ⟨_,kq (n := 1) ⟨rfl,rfl⟩,?_⟩
 simp +contextual only [hd1,hd,he,hs,qj,qg,qi,n12,n13,n23,n14,n24,n34,n15,n25,n35,n45,n16,n26,n36,n46,n56,↓U87,↓XP,qm,XW1,qa,qb,qc,qd,qe,qf,reduceCtorEq]
 refine fun _=>⟨_,wy (p := p1) (on := entry) (m := m.drop 1) (by omega) ⟨rfl,rfl⟩,?_⟩
 have l2 := zr (p := p1) (on := entry) (m := m.drop 1)
 rw [hdv] at h
 generalize meaning p1 entry (m.drop 1) = p2 at h l2 ⊢
 have hd2 := @dE p2
 simp +contextual only [hd2,hd1,hd,he,hs,qj,qg,qi,n12,n13,n23,n14,n24,n34,n15,n25,n35,n45,n16,n26,n36,n46,n56,↓U87,↓XP,qm,XW1,qa,qb,qc,qd,qe,qf,reduceCtorEq]
 have r3 := qz (l := m) (i := 4) (most := 3) (by omega)
 refine ⟨_,jL (i := 4) (by omega) ⟨rfl,rfl⟩,?_⟩
 have w3 : IntKind.i64.wrap (qE m 4 3 - 1) = qE m 4 3 - 1 := qw (by omega) (by omega)
 simp +contextual only [hd2,hd1,hd,he,hs,qj,qg,qi,n12,n13,n23,n14,n24,n34,n15,n25,n35,n45,n16,n26,n36,n46,n56,w3,↓U87,↓XP,qm,XW1,qa,qb,qc,qd,qe,qf,reduceCtorEq]
 refine fun _=>⟨_,ku (p := p2) (o := { op0 with k := 16,on := sense,ids := [jv p,jv p1],n := qE m 4 3 - 1 }) (by omega) ⟨rfl,rfl⟩,?_⟩
 generalize j6 p2 { op0 with k := 16,on := sense,ids := [jv p,jv p1],n := qE m 4 3 - 1 } = p3 at h ⊢
 have hd3 := @dE p3
 simp +contextual only [hd3,hd2,hd1,hd,he,hs,qj,qg,qi,n12,n13,n23,n14,n24,n34,n15,n25,n35,n45,n16,n26,n36,n46,n56,↓U87,↓XP,qm,XW1,qa,qb,qc,qd,qe,qf,reduceCtorEq]
 intros
 exact h
theorem zN {x : Gs} {seen : List Bool} {p : Pt} {kind : Int} (ho : ∀ q ∈ x.l,q.ops.length ≤ 1000) (hb : x.l.length ≤ 100) (hp : p.ops.length ≤ 1000) : (visible x seen p kind).length ≤ 101000 := by
 have h1 := Ql (x := x) (seen := seen) (kind := kind) ho x.l.length
 have h2 := vz (p := p) (kind := kind) (ok := true) p.ops.length
 unfold visible
 rw [List.length_append]
 unfold jY at h1 ⊢
 omega
theorem Kf {x : Gs} {seen : List Bool} {p : Pt} {sense : Id3} {m : List Int} {H : AH} {R : D → AH → Prop} (hs : x.l.length ≤ seen.length) (hb : x.l.length ≤ 100) (ho : ∀ q ∈ x.l,q.ops.length ≤ 1000) (hp : p.ops.length ≤ 800) (h : R (.agg (quoted x seen p sense m).d) H) : ACall Tryz.prog 86 [.agg x.d,.slc (jt seen),.agg p.d,.agg sense.d,.slc (ints m)] H R := by
 refine b86 fun hf=>?_
 have hbig := qt
 have hx : x.d = [.slc (j8 x.l),.slc (je x.past)] := rfl
 have hd := @dE p
 have he : sense.d = [.int .i64 sense.o,.int .i64 sense.s,.int .i64 sense.i] := rfl
 simp +contextual only [x86,hx,hd,he,qj,qo,qg,qi,↓zE,↓XP,qm,XW1,qa,qb,qc,qd,qe,qf,reduceCtorEq]
 rintro b1 h1 b2 ⟨n12,h2⟩ b3 ⟨n23,n13,h3⟩ b4 ⟨n34,n24,n14,h4⟩
 refine ug (x := x) (p := p) hs hb ho (by omega) ?_
 have hvl : (visible x seen p 3).length ≤ 101000 := zN ho hb (by omega)
 unfold quoted at h
 simp only at h
 generalize visible x seen p 3 = src at h hvl ⊢
 simp +contextual only [hx,hd,he,qj,qo,qk,qg,qi,n12,n13,n23,n14,n24,n34,↓zE,↓XP,qm,XW1,qa,qb,qc,qd,qe,qf,reduceCtorEq]
 rintro _ _ _ _ b5 ⟨n45,n35,n25,n15,h5⟩
 have r2 := qz (l := m) (i := 2) (most := 60) (by omega)
 have r3 := qz (l := m) (i := 3) (most := 3) (by omega)
 have r4 := qz (l := m) (i := 4) (most := 8) (by omega)
 have r5 := qz (l := m) (i := 5) (most := 90) (by omega)
 have w1 : IntKind.i64.wrap (400 * qE m 2 60) = 400 * qE m 2 60 := qw (by omega) (by omega)
 have w2 : IntKind.i64.wrap (600000 + 400 * qE m 2 60) = 600000 + 400 * qE m 2 60 := qw (by omega) (by omega)
 have w3 : IntKind.i64.wrap (300 * qE m 4 8) = 300 * qE m 4 8 := qw (by omega) (by omega)
 have w4 : IntKind.i64.wrap (600000 + 400 * qE m 2 60 + 300 * qE m 4 8) = 600000 + 400 * qE m 2 60 + 300 * qE m 4 8 := qw (by omega) (by omega)
 have w5 : IntKind.i64.wrap (1 + qE m 5 90) = 1 + qE m 5 90 := qw (by omega) (by omega)
 have e3 : ([[.str [112,114,101,115,115]],[.str [104,101,105,114,115]],[.str [99,114,111,119,110]]] : List (List D)) = strs names3 := rfl
 have s3 := kG (show (qE m 3 3).toNat < names3.length by show _ < 3; omega)
 have l3 : names3.length = 3 := rfl
 refine ⟨fun h0=>?_,fun h0=>?_⟩
 ·rw [if_pos (.inl (by omega))] at h
  refine jL (i := 2) (by omega) ?_
  simp +contextual only [hx,hd,he,qj,qo,qk,qg,qi,n12,n13,n23,n14,n24,n34,n15,n25,n35,n45,w1,w2,↓zE,↓XP,qm,XW1,qa,qb,qc,qd,qe,qf,reduceCtorEq]
  refine fun _=>⟨_,jL (i := 3) (by omega) ⟨rfl,rfl⟩,?_⟩
  simp +contextual only [hx,hd,he,qj,qo,qk,qg,qi,n12,n13,n23,n14,n24,n34,n15,n25,n35,n45,w1,w2,e3,s3,l3,qJ,↓zE,↓XP,qm,XW1,qa,qb,qc,qd,qe,qf,reduceCtorEq]
  refine fun _=>⟨by omega,by omega,fun _=>?_⟩
  refine ⟨_,jL (i := 4) (by omega) ⟨rfl,rfl⟩,?_⟩
  simp +contextual only [hx,hd,he,qj,qo,qk,qg,qi,n12,n13,n23,n14,n24,n34,n15,n25,n35,n45,w1,w2,w3,w4,e3,s3,l3,qJ,↓zE,↓XP,qm,XW1,qa,qb,qc,qd,qe,qf,reduceCtorEq]
  refine fun _=>⟨_,ku (p := p) (o := { op0 with k := 3,name := names3.getD (jC m 3 3) [],text := [97,110,110,97,108,115],a := 600000 + 400 * qE m 2 60,b := 600000 + 400 * qE m 2 60 + 300 * qE m 4 8 }) (by omega) ⟨rfl,rfl⟩,?_⟩
  generalize hp1 : j6 p { op0 with k := 3,name := names3.getD (jC m 3 3) [],text := [97,110,110,97,108,115],a := 600000 + 400 * qE m 2 60,b := 600000 + 400 * qE m 2 60 + 300 * qE m 4 8 } = p1 at h ⊢
  have lp1 : p1.ops.length ≤ 801 := by rw [← hp1,wN]; omega
  have hd1 := @dE p1
  simp +contextual only [hd1,hx,hd,he,qj,qo,qk,qg,qi,n12,n13,n23,n14,n24,n34,n15,n25,n35,n45,↓zE,↓XP,qm,XW1,qa,qb,qc,qd,qe,qf,reduceCtorEq]
  refine ⟨_,jL (i := 5) (by omega) ⟨rfl,rfl⟩,?_⟩
  simp +contextual only [hd1,hx,hd,he,qj,qo,qk,qg,qi,n12,n13,n23,n14,n24,n34,n15,n25,n35,n45,w5,↓zE,↓XP,qm,XW1,qa,qb,qc,qd,qe,qf,reduceCtorEq]
  refine fun _=>⟨_,kq (n := 6) ⟨rfl,rfl⟩,?_⟩
  simp +contextual only [hd1,hx,hd,he,qj,qo,qk,qg,qi,n12,n13,n23,n14,n24,n34,n15,n25,n35,n45,w5,↓zE,↓XP,qm,XW1,qa,qb,qc,qd,qe,qf,reduceCtorEq]
  refine fun _=>⟨_,vI ⟨rfl,rfl⟩,?_⟩
  simp +contextual only [hd1,hx,hd,he,qj,qo,qk,qg,qi,n12,n13,n23,n14,n24,n34,n15,n25,n35,n45,w5,↓zE,↓XP,qm,XW1,qa,qb,qc,qd,qe,qf,reduceCtorEq]
  refine fun _=>⟨_,ku (p := p1) (o := { op0 with k := 4,on := sense,to := jv p,n := 1 + qE m 5 90,text := gloss (m.drop 6) }) (by omega) ⟨rfl,rfl⟩,?_⟩
  generalize j6 p1 { op0 with k := 4,on := sense,to := jv p,n := 1 + qE m 5 90,text := gloss (m.drop 6) } = p3 at h ⊢
  have hd3 := @dE p3
  simp +contextual only [hd3,hd1,hx,hd,he,qj,qo,qk,qg,qi,n12,n13,n23,n14,n24,n34,n15,n25,n35,n45,↓zE,↓XP,qm,XW1,qa,qb,qc,qd,qe,qf,reduceCtorEq]
  intros
  exact h
 ·refine jL (i := 1) (by omega) ?_
  simp +contextual only [hx,hd,he,qj,qo,qk,qg,qi,n12,n13,n23,n14,n24,n34,n15,n25,n35,n45,↓zE,↓XP,qm,XW1,qa,qb,qc,qd,qe,qf,reduceCtorEq]
  refine fun _=>⟨fun h1=>?_,fun h1=>?_⟩
  ·rw [if_pos (.inr h1)] at h
   refine jL (i := 2) (by omega) ?_
   simp +contextual only [hx,hd,he,qj,qo,qk,qg,qi,n12,n13,n23,n14,n24,n34,n15,n25,n35,n45,w1,w2,↓zE,↓XP,qm,XW1,qa,qb,qc,qd,qe,qf,reduceCtorEq]
   refine fun _=>⟨_,jL (i := 3) (by omega) ⟨rfl,rfl⟩,?_⟩
   simp +contextual only [hx,hd,he,qj,qo,qk,qg,qi,n12,n13,n23,n14,n24,n34,n15,n25,n35,n45,w1,w2,e3,s3,l3,qJ,↓zE,↓XP,qm,XW1,qa,qb,qc,qd,qe,qf,reduceCtorEq]
   refine fun _=>⟨by omega,by omega,fun _=>?_⟩
   refine ⟨_,jL (i := 4) (by omega) ⟨rfl,rfl⟩,?_⟩
   simp +contextual only [hx,hd,he,qj,qo,qk,qg,qi,n12,n13,n23,n14,n24,n34,n15,n25,n35,n45,w1,w2,w3,w4,e3,s3,l3,qJ,↓zE,↓XP,qm,XW1,qa,qb,qc,qd,qe,qf,reduceCtorEq]
   refine fun _=>⟨_,ku (p := p) (o := { op0 with k := 3,name := names3.getD (jC m 3 3) [],text := [97,110,110,97,108,115],a := 600000 + 400 * qE m 2 60,b := 600000 + 400 * qE m 2 60 + 300 * qE m 4 8 }) (by omega) ⟨rfl,rfl⟩,?_⟩
   generalize hp1 : j6 p { op0 with k := 3,name := names3.getD (jC m 3 3) [],text := [97,110,110,97,108,115],a := 600000 + 400 * qE m 2 60,b := 600000 + 400 * qE m 2 60 + 300 * qE m 4 8 } = p1 at h ⊢
   have lp1 : p1.ops.length ≤ 801 := by rw [← hp1,wN]; omega
   have hd1 := @dE p1
   simp +contextual only [hd1,hx,hd,he,qj,qo,qk,qg,qi,n12,n13,n23,n14,n24,n34,n15,n25,n35,n45,↓zE,↓XP,qm,XW1,qa,qb,qc,qd,qe,qf,reduceCtorEq]
   refine ⟨_,jL (i := 5) (by omega) ⟨rfl,rfl⟩,?_⟩
   simp +contextual only [hd1,hx,hd,he,qj,qo,qk,qg,qi,n12,n13,n23,n14,n24,n34,n15,n25,n35,n45,w5,↓zE,↓XP,qm,XW1,qa,qb,qc,qd,qe,qf,reduceCtorEq]
   refine fun _=>⟨_,kq (n := 6) ⟨rfl,rfl⟩,?_⟩
   simp +contextual only [hd1,hx,hd,he,qj,qo,qk,qg,qi,n12,n13,n23,n14,n24,n34,n15,n25,n35,n45,w5,↓zE,↓XP,qm,XW1,qa,qb,qc,qd,qe,qf,reduceCtorEq]
   refine fun _=>⟨_,vI ⟨rfl,rfl⟩,?_⟩
   simp +contextual only [hd1,hx,hd,he,qj,qo,qk,qg,qi,n12,n13,n23,n14,n24,n34,n15,n25,n35,n45,w5,↓zE,↓XP,qm,XW1,qa,qb,qc,qd,qe,qf,reduceCtorEq]
   refine fun _=>⟨_,ku (p := p1) (o := { op0 with k := 4,on := sense,to := jv p,n := 1 + qE m 5 90,text := gloss (m.drop 6) }) (by omega) ⟨rfl,rfl⟩,?_⟩
   generalize j6 p1 { op0 with k := 4,on := sense,to := jv p,n := 1 + qE m 5 90,text := gloss (m.drop 6) } = p3 at h ⊢
   have hd3 := @dE p3
   simp +contextual only [hd3,hd1,hx,hd,he,qj,qo,qk,qg,qi,n12,n13,n23,n14,n24,n34,n15,n25,n35,n45,↓zE,↓XP,qm,XW1,qa,qb,qc,qd,qe,qf,reduceCtorEq]
   intros
   exact h
  ·rw [if_neg (by rintro (hc | hc); exact h0 (by omega); exact h1 hc)] at h
   have r6 := qz (l := m) (i := 2) (most := (src.length : Int)) (by omega)
   have s6 := kX (show (qE m 2 src.length).toNat < src.length by omega)
   refine fun _=>jL (i := 2) (most := (src.length : Int)) (by omega) ?_
   unfold jC at h
   generalize src.getD (qE m 2 src.length).toNat default = to at s6 h
   have hto : to.d = [.int .i64 to.o,.int .i64 to.s,.int .i64 to.i] := rfl
   simp +contextual only [hx,hd,he,qj,qo,qk,qg,qi,n12,n13,n23,n14,n24,n34,n15,n25,n35,n45,s6,hto,↓zE,↓XP,qm,XW1,qa,qb,qc,qd,qe,qf,reduceCtorEq]
   refine fun _=>⟨by omega,by omega,?_⟩
   refine ⟨_,jL (i := 5) (by omega) ⟨rfl,rfl⟩,?_⟩
   simp +contextual only [hto,hx,hd,he,qj,qo,qk,qg,qi,n12,n13,n23,n14,n24,n34,n15,n25,n35,n45,w5,↓zE,↓XP,qm,XW1,qa,qb,qc,qd,qe,qf,reduceCtorEq]
   refine fun _=>⟨_,kq (n := 6) ⟨rfl,rfl⟩,?_⟩
   simp +contextual only [hto,hx,hd,he,qj,qo,qk,qg,qi,n12,n13,n23,n14,n24,n34,n15,n25,n35,n45,w5,↓zE,↓XP,qm,XW1,qa,qb,qc,qd,qe,qf,reduceCtorEq]
   refine fun _=>⟨_,vI ⟨rfl,rfl⟩,?_⟩
   simp +contextual only [hto,hx,hd,he,qj,qo,qk,qg,qi,n12,n13,n23,n14,n24,n34,n15,n25,n35,n45,w5,↓zE,↓XP,qm,XW1,qa,qb,qc,qd,qe,qf,reduceCtorEq]
   refine fun _=>⟨_,ku (p := p) (o := { op0 with k := 4,on := sense,to := to,n := 1 + qE m 5 90,text := gloss (m.drop 6) }) (by omega) ⟨rfl,rfl⟩,?_⟩
   generalize j6 p { op0 with k := 4,on := sense,to := to,n := 1 + qE m 5 90,text := gloss (m.drop 6) } = p3 at h ⊢
   have hd3 := @dE p3
   simp +contextual only [hd3,hto,hx,hd,he,qj,qo,qk,qg,qi,n12,n13,n23,n14,n24,n34,n15,n25,n35,n45,↓zE,↓XP,qm,XW1,qa,qb,qc,qd,qe,qf,reduceCtorEq]
   intros
   exact h
end Go.Proofs.YtoeckfegggongaaGreatDoor
end
section
namespace Go.Proofs.YtoeckfegggongaaGreatDoor
open Go Go.Aw
theorem VY {n : Nat} {x1 x2 x3 x4 x5 x6 x7 : Nat × AO} {H : AH} (h : H.length = n) : back n (x1 :: x2 :: x3 :: x4 :: x5 :: x6 :: x7 :: H) = H := by
 rw [yS (by simp; omega),VD h]
theorem id_eq {a b : Id3} : (decide (a.o = b.o) && (decide (a.s = b.s) && decide (a.i = b.i))) = decide (a = b) := by
 cases a; cases b
 simp only [Id3.mk.injEq,Bool.decide_and]
theorem spl_len {x : Gs} {seen : List Bool} {p : Pt} (ho : ∀ q ∈ x.l,q.ops.length ≤ 1000) (hb : x.l.length ≤ 100) (hp : p.ops.length ≤ 1000) : (splits x seen p).length ≤ 101000 := by
 have h1 := QE (x := x) (seen := seen) ho x.l.length
 have h2 := vC (p := p) (ok := true) p.ops.length
 unfold splits
 rw [List.length_append]
 unfold kw at h1 ⊢
 omega
theorem f_step {x : Gs} {seen : List Bool} {p : Pt} {m : List Int} {H : AH} {R : D → AH → Prop} (hs : x.l.length ≤ seen.length) (hb : x.l.length ≤ 100) (ho : ∀ q ∈ x.l,q.ops.length ≤ 1000) (hp : p.ops.length ≤ 700) (hen : (visible x seen p 2).length ≠ 0 → (visible x seen p 1).length ≠ 0) (hsp : ∀ o ∈ splits x seen p,o.ids.length = 2) (h : R (.agg (step x seen p m).d) H) : ACall Tryz.prog 73 [.agg x.d,.slc (jt seen),.agg p.d,.slc (ints m)] H R := by
 refine b73 fun hf=>?_
 have hbig := qt
 have hx : x.d = [.slc (j8 x.l),.slc (je x.past)] := rfl
 have hd := @dE p
 simp +contextual only [x73,hx,hd,qj,qo,qk,qg,qi,↓yg,↓XP,qm,XW1,qa,qb,qc,qd,qe,qf,reduceCtorEq]
 rintro b1 h1 b2 ⟨n12,h2⟩ b3 ⟨n23,n13,h3⟩
 refine ug (x := x) (p := p) hs hb ho (by omega) ?_
 have hvl1 : (visible x seen p 1).length ≤ 101000 := zN ho hb (by omega)
 have hvl2 : (visible x seen p 2).length ≤ 101000 := zN ho hb (by omega)
 have hvl3 : (visible x seen p 3).length ≤ 101000 := zN ho hb (by omega)
 have r0 := qz (l := m) (i := 0) (most := 24) (by omega)
 have r15 := qz (l := m) (i := 1) (most := 5) (by omega)
 have r28 := qz (l := m) (i := 2) (most := 8) (by omega)
 have r38 := qz (l := m) (i := 3) (most := 8) (by omega)
 have r32 := qz (l := m) (i := 3) (most := 2) (by omega)
 have r360 := qz (l := m) (i := 3) (most := 60) (by omega)
 have e5 : ([[.str [110]],[.str [110]],[.str [110]],[.str [118]],[.str [120]]] : List (List D)) = strs cls5 := rfl
 have e2 : ([[.str [110]],[.str [118]]] : List (List D)) = strs cls2 := rfl
 have l5 : cls5.length = 5 := rfl
 have l2 : cls2.length = 2 := rfl
 have l8 : heads8.length = 8 := rfl
 have s15 := kG (show (qE m 1 5).toNat < cls5.length by rw [l5]; omega)
 have s28 := kG (show (qE m 2 8).toNat < heads8.length by rw [l8]; omega)
 have s38 := kG (show (qE m 3 8).toNat < heads8.length by rw [l8]; omega)
 have s32 := kG (show (qE m 3 2).toNat < cls2.length by rw [l2]; omega)
 unfold step at h
 simp only at h
 generalize visible x seen p 1 = en at h hvl1 hen ⊢
 simp +contextual only [hx,hd,qj,qo,qk,qg,qi,n12,n13,n23,↓yg,↓XP,qm,XW1,qa,qb,qc,qd,qe,qf,reduceCtorEq]
 refine fun _=>ug (x := x) (p := p) hs hb ho (by omega) ?_
 generalize visible x seen p 2 = se at h hvl2 hen ⊢
 simp +contextual only [hx,hd,qj,qo,qk,qg,qi,n12,n13,n23,↓yg,↓XP,qm,XW1,qa,qb,qc,qd,qe,qf,reduceCtorEq]
 refine fun _=>jL (i := 0) (by omega) ?_
 generalize qE m 0 24 = c at h r0 ⊢
 simp +contextual only [hx,hd,qj,qo,qk,qg,qi,n12,n13,n23,↓yg,↓XP,qm,XW1,qa,qb,qc,qd,qe,qf,reduceCtorEq]
 refine fun _ _=>⟨fun h0=>?_,fun h0=>⟨fun h5=>?_,fun h5=>?_⟩⟩
 ·rw [if_pos (.inl (by omega))] at h
  rintro _ _ _ b4 ⟨n34,n24,n14,h4⟩
  refine ⟨_,jL (i := 1) (by omega) ⟨rfl,rfl⟩,?_⟩
  simp +contextual only [hx,hd,qj,qo,qk,qg,qi,n12,n13,n23,n14,n24,n34,e5,s15,s28,l5,l8,qJ,↓yg,↓XP,qm,XW1,qa,qb,qc,qd,qe,qf,reduceCtorEq]
  refine fun _=>⟨by omega,by omega,fun _=>?_⟩
  refine ⟨_,zK ⟨rfl,rfl⟩,?_⟩
  simp +contextual only [hx,hd,qj,qo,qk,qg,qi,n12,n13,n23,n14,n24,n34,e5,s15,s28,l5,l8,qJ,↓yg,↓XP,qm,XW1,qa,qb,qc,qd,qe,qf,reduceCtorEq]
  refine fun _=>⟨_,jL (i := 2) (by omega) ⟨rfl,rfl⟩,?_⟩
  simp +contextual only [hx,hd,qj,qo,qk,qg,qi,n12,n13,n23,n14,n24,n34,e5,s15,s28,l5,l8,qJ,↓yg,↓XP,qm,XW1,qa,qb,qc,qd,qe,qf,reduceCtorEq]
  refine fun _=>⟨by omega,by omega,fun _=>?_⟩
  refine ⟨_,ku (p := p) (o := { op0 with k := 1,name := cls5.getD (jC m 1 5) [],text := heads8.getD (jC m 2 8) [] }) (by omega) ⟨rfl,rfl⟩,?_⟩
  generalize hp1 : j6 p { op0 with k := 1,name := cls5.getD (jC m 1 5) [],text := heads8.getD (jC m 2 8) [] } = p1 at h ⊢
  have lp1 : p1.ops.length ≤ 801 := by rw [← hp1,wN]; omega
  have hd1 := @dE p1
  simp +contextual only [hd1,hx,hd,qj,qo,qk,qg,qi,n12,n13,n23,n14,n24,n34,e5,s15,s28,l5,l8,qJ,↓yg,↓XP,qm,XW1,qa,qb,qc,qd,qe,qf,reduceCtorEq]
  refine ⟨_,kq (n := 3) ⟨rfl,rfl⟩,?_⟩
  simp +contextual only [hd1,hx,hd,qj,qo,qk,qg,qi,n12,n13,n23,n14,n24,n34,e5,s15,s28,l5,l8,qJ,↓yg,↓XP,qm,XW1,qa,qb,qc,qd,qe,qf,reduceCtorEq]
  refine fun _=>⟨_,wy (p := p1) (on := jv p) (m := m.drop 3) (by omega) ⟨rfl,rfl⟩,?_⟩
  generalize meaning p1 (jv p) (m.drop 3) = p3 at h ⊢
  have hd3 := @dE p3
  simp +contextual only [hd3,hd1,hx,hd,qj,qo,qk,qg,qi,n12,n13,n23,n14,n24,n34,e5,s15,s28,l5,l8,qJ,↓yg,↓XP,qm,XW1,qa,qb,qc,qd,qe,qf,reduceCtorEq]
  intros
  exact h
 ·rw [if_pos (.inr (by omega))] at h
  rintro _ _ _ b4 ⟨n34,n24,n14,h4⟩
  refine ⟨_,jL (i := 1) (by omega) ⟨rfl,rfl⟩,?_⟩
  simp +contextual only [hx,hd,qj,qo,qk,qg,qi,n12,n13,n23,n14,n24,n34,e5,s15,s28,l5,l8,qJ,↓yg,↓XP,qm,XW1,qa,qb,qc,qd,qe,qf,reduceCtorEq]
  refine fun _=>⟨by omega,by omega,fun _=>?_⟩
  refine ⟨_,zK ⟨rfl,rfl⟩,?_⟩
  simp +contextual only [hx,hd,qj,qo,qk,qg,qi,n12,n13,n23,n14,n24,n34,e5,s15,s28,l5,l8,qJ,↓yg,↓XP,qm,XW1,qa,qb,qc,qd,qe,qf,reduceCtorEq]
  refine fun _=>⟨_,jL (i := 2) (by omega) ⟨rfl,rfl⟩,?_⟩
  simp +contextual only [hx,hd,qj,qo,qk,qg,qi,n12,n13,n23,n14,n24,n34,e5,s15,s28,l5,l8,qJ,↓yg,↓XP,qm,XW1,qa,qb,qc,qd,qe,qf,reduceCtorEq]
  refine fun _=>⟨by omega,by omega,fun _=>?_⟩
  refine ⟨_,ku (p := p) (o := { op0 with k := 1,name := cls5.getD (jC m 1 5) [],text := heads8.getD (jC m 2 8) [] }) (by omega) ⟨rfl,rfl⟩,?_⟩
  generalize hp1 : j6 p { op0 with k := 1,name := cls5.getD (jC m 1 5) [],text := heads8.getD (jC m 2 8) [] } = p1 at h ⊢
  have lp1 : p1.ops.length ≤ 801 := by rw [← hp1,wN]; omega
  have hd1 := @dE p1
  simp +contextual only [hd1,hx,hd,qj,qo,qk,qg,qi,n12,n13,n23,n14,n24,n34,e5,s15,s28,l5,l8,qJ,↓yg,↓XP,qm,XW1,qa,qb,qc,qd,qe,qf,reduceCtorEq]
  refine ⟨_,kq (n := 3) ⟨rfl,rfl⟩,?_⟩
  simp +contextual only [hd1,hx,hd,qj,qo,qk,qg,qi,n12,n13,n23,n14,n24,n34,e5,s15,s28,l5,l8,qJ,↓yg,↓XP,qm,XW1,qa,qb,qc,qd,qe,qf,reduceCtorEq]
  refine fun _=>⟨_,wy (p := p1) (on := jv p) (m := m.drop 3) (by omega) ⟨rfl,rfl⟩,?_⟩
  generalize meaning p1 (jv p) (m.drop 3) = p3 at h ⊢
  have hd3 := @dE p3
  simp +contextual only [hd3,hd1,hx,hd,qj,qo,qk,qg,qi,n12,n13,n23,n14,n24,n34,e5,s15,s28,l5,l8,qJ,↓yg,↓XP,qm,XW1,qa,qb,qc,qd,qe,qf,reduceCtorEq]
  intros
  exact h
 ·rw [if_neg (by rintro (hc | hc); exact h0 (by omega); exact h5 (by omega))] at h
  have hen' := hen (by omega)
  clear hen
  have ra := qz (l := m) (i := 1) (most := (en.length : Int)) (by omega)
  have rb := qz (l := m) (i := 1) (most := (se.length : Int)) (by omega)
  have rc := qz (l := m) (i := 2) (most := (se.length : Int)) (by omega)
  have sa : (qV en).getD (qE m 1 en.length).toNat [] = (en.getD (jC m 1 en.length) default).d := kX (show (qE m 1 en.length).toNat < en.length by omega)
  have sb : (qV se).getD (qE m 1 se.length).toNat [] = (se.getD (jC m 1 se.length) default).d := kX (show (qE m 1 se.length).toNat < se.length by omega)
  have sc : (qV se).getD (qE m 2 se.length).toNat [] = (se.getD (jC m 2 se.length) default).d := kX (show (qE m 2 se.length).toNat < se.length by omega)
  generalize en.getD (jC m 1 en.length) default = ent at h sa
  generalize se.getD (jC m 1 se.length) default = sen at h sb
  generalize se.getD (jC m 2 se.length) default = oth at h sc
  have he1 : ent.d = [.int .i64 ent.o,.int .i64 ent.s,.int .i64 ent.i] := rfl
  have he2 : sen.d = [.int .i64 sen.o,.int .i64 sen.s,.int .i64 sen.i] := rfl
  have he3 : oth.d = [.int .i64 oth.o,.int .i64 oth.s,.int .i64 oth.i] := rfl
  refine fun _=>jL (i := 1) (most := (en.length : Int)) (by omega) ?_
  simp +contextual only [hx,hd,qj,qo,qk,qg,qi,n12,n13,n23,sa,sb,sc,he1,he2,he3,↓yg,↓XP,qm,XW1,qa,qb,qc,qd,qe,qf,reduceCtorEq]
  refine fun _=>⟨by omega,by omega,?_⟩
  rintro b4 ⟨n34,n24,n14,h4⟩
  refine fun _=>jL (i := 1) (most := (se.length : Int)) (by omega) ?_
  simp +contextual only [hx,hd,qj,qo,qk,qg,qi,n12,n13,n23,sa,sb,sc,he1,he2,he3,n14,n24,n34,↓yg,↓XP,qm,XW1,qa,qb,qc,qd,qe,qf,reduceCtorEq]
  refine fun _=>⟨by omega,by omega,?_⟩
  rintro b5 ⟨n45,n35,n25,n15,h5⟩
  have hc : c = 6 ∨ c = 7 ∨ c = 8 ∨ c = 9 ∨ c = 10 ∨ c = 11 ∨ c = 12 ∨ c = 13 ∨ c = 14 ∨ 14 < c := by omega
  refine fun _=>jL (i := 2) (most := (se.length : Int)) (by omega) ?_
  rcases hc with rfl | rfl | rfl | rfl | rfl | rfl | rfl | rfl | rfl | hc
  ·clear h0 h5 r0
   have q7 : ((6 : Int) = 7) = False := by decide
   have q8 : ((6 : Int) = 8) = False := by decide
   have q9 : ((6 : Int) = 9) = False := by decide
   have q10 : ((6 : Int) = 10) = False := by decide
   have q11 : ((6 : Int) = 11) = False := by decide
   have q12 : ((6 : Int) = 12) = False := by decide
   have q13 : ((6 : Int) = 13) = False := by decide
   have q14 : ((6 : Int) = 14) = False := by decide
   rw [if_pos (by omega)] at h
   simp +contextual only [hx,hd,qj,qo,qk,qg,qi,n12,n13,n23,sa,sb,sc,he1,he2,he3,n14,n24,n34,n15,n25,n35,n45,q7,q8,q9,q10,q11,q12,q13,q14,↓yg,↓XP,qm,XW1,qa,qb,qc,qd,qe,qf,reduceCtorEq]
   refine fun _=>⟨by omega,by omega,?_⟩
   rintro b6 ⟨n56,n46,n36,n26,n16,h6⟩
   refine ⟨_,kq (n := 2) ⟨rfl,rfl⟩,?_⟩
   simp +contextual only [hx,hd,qj,qo,qk,qg,qi,n12,n13,n23,sa,sb,sc,he1,he2,he3,n14,n24,n34,n15,n25,n35,n45,n16,n26,n36,n46,n56,q7,q8,q9,q10,q11,q12,q13,q14,↓yg,↓XP,qm,XW1,qa,qb,qc,qd,qe,qf,reduceCtorEq]
   refine fun _=>⟨_,wy (p := p) (on := ent) (m := m.drop 2) (by omega) ⟨rfl,rfl⟩,?_⟩
   generalize meaning p ent (m.drop 2) = p3 at h ⊢
   have hd3 := @dE p3
   simp +contextual only [hd3,hx,hd,qj,qo,qk,qg,qi,n12,n13,n23,sa,sb,sc,he1,he2,he3,n14,n24,n34,n15,n25,n35,n45,n16,n26,n36,n46,n56,q7,q8,q9,q10,q11,q12,q13,q14,↓yg,↓XP,qm,XW1,qa,qb,qc,qd,qe,qf,reduceCtorEq]
   intros
   exact h
  ·clear h0 h5 r0
   have q6 : ((7 : Int) = 6) = False := by decide
   have q8 : ((7 : Int) = 8) = False := by decide
   have q9 : ((7 : Int) = 9) = False := by decide
   have q10 : ((7 : Int) = 10) = False := by decide
   have q11 : ((7 : Int) = 11) = False := by decide
   have q12 : ((7 : Int) = 12) = False := by decide
   have q13 : ((7 : Int) = 13) = False := by decide
   have q14 : ((7 : Int) = 14) = False := by decide
   rw [if_neg (by omega),if_pos (by omega)] at h
   simp +contextual only [hx,hd,qj,qo,qk,qg,qi,n12,n13,n23,sa,sb,sc,he1,he2,he3,n14,n24,n34,n15,n25,n35,n45,q6,q8,q9,q10,q11,q12,q13,q14,↓yg,↓XP,qm,XW1,qa,qb,qc,qd,qe,qf,reduceCtorEq]
   refine fun _=>⟨by omega,by omega,?_⟩
   rintro b6 ⟨n56,n46,n36,n26,n16,h6⟩
   refine ⟨_,kq (n := 2) ⟨rfl,rfl⟩,?_⟩
   simp +contextual only [hx,hd,qj,qo,qk,qg,qi,n12,n13,n23,sa,sb,sc,he1,he2,he3,n14,n24,n34,n15,n25,n35,n45,n16,n26,n36,n46,n56,q6,q8,q9,q10,q11,q12,q13,q14,↓yg,↓XP,qm,XW1,qa,qb,qc,qd,qe,qf,reduceCtorEq]
   refine fun _=>⟨_,wy (p := p) (on := sen) (m := m.drop 2) (by omega) ⟨rfl,rfl⟩,?_⟩
   generalize meaning p sen (m.drop 2) = p3 at h ⊢
   have hd3 := @dE p3
   simp +contextual only [hd3,hx,hd,qj,qo,qk,qg,qi,n12,n13,n23,sa,sb,sc,he1,he2,he3,n14,n24,n34,n15,n25,n35,n45,n16,n26,n36,n46,n56,q6,q8,q9,q10,q11,q12,q13,q14,↓yg,↓XP,qm,XW1,qa,qb,qc,qd,qe,qf,reduceCtorEq]
   intros
   exact h
  ·clear h0 h5 r0
   have q6 : ((8 : Int) = 6) = False := by decide
   have q7 : ((8 : Int) = 7) = False := by decide
   have q9 : ((8 : Int) = 9) = False := by decide
   have q10 : ((8 : Int) = 10) = False := by decide
   have q11 : ((8 : Int) = 11) = False := by decide
   have q12 : ((8 : Int) = 12) = False := by decide
   have q13 : ((8 : Int) = 13) = False := by decide
   have q14 : ((8 : Int) = 14) = False := by decide
   rw [if_neg (by omega),if_neg (by omega),if_pos (by omega)] at h
   simp +contextual only [hx,hd,qj,qo,qk,qg,qi,n12,n13,n23,sa,sb,sc,he1,he2,he3,n14,n24,n34,n15,n25,n35,n45,q6,q7,q9,q10,q11,q12,q13,q14,↓yg,↓XP,qm,XW1,qa,qb,qc,qd,qe,qf,reduceCtorEq]
   refine fun _=>⟨by omega,by omega,?_⟩
   rintro b6 ⟨n56,n46,n36,n26,n16,h6⟩
   refine ⟨_,kq (n := 2) ⟨rfl,rfl⟩,?_⟩
   simp +contextual only [hx,hd,qj,qo,qk,qg,qi,n12,n13,n23,sa,sb,sc,he1,he2,he3,n14,n24,n34,n15,n25,n35,n45,n16,n26,n36,n46,n56,q6,q7,q9,q10,q11,q12,q13,q14,↓yg,↓XP,qm,XW1,qa,qb,qc,qd,qe,qf,reduceCtorEq]
   refine fun _=>⟨_,Kf (x := x) (p := p) (sense := sen) (m := m.drop 2) hs hb ho (by omega) ⟨rfl,rfl⟩,?_⟩
   generalize quoted x seen p sen (m.drop 2) = p3 at h ⊢
   have hd3 := @dE p3
   simp +contextual only [hd3,hx,hd,qj,qo,qk,qg,qi,n12,n13,n23,sa,sb,sc,he1,he2,he3,n14,n24,n34,n15,n25,n35,n45,n16,n26,n36,n46,n56,q6,q7,q9,q10,q11,q12,q13,q14,↓yg,↓XP,qm,XW1,qa,qb,qc,qd,qe,qf,reduceCtorEq]
   intros
   exact h
  ·clear h0 h5 r0
   have q6 : ((9 : Int) = 6) = False := by decide
   have q7 : ((9 : Int) = 7) = False := by decide
   have q8 : ((9 : Int) = 8) = False := by decide
   have q10 : ((9 : Int) = 10) = False := by decide
   have q11 : ((9 : Int) = 11) = False := by decide
   have q12 : ((9 : Int) = 12) = False := by decide
   have q13 : ((9 : Int) = 13) = False := by decide
   have q14 : ((9 : Int) = 14) = False := by decide
   rw [if_neg (by omega),if_neg (by omega),if_pos (by omega)] at h
   simp +contextual only [hx,hd,qj,qo,qk,qg,qi,n12,n13,n23,sa,sb,sc,he1,he2,he3,n14,n24,n34,n15,n25,n35,n45,q6,q7,q8,q10,q11,q12,q13,q14,↓yg,↓XP,qm,XW1,qa,qb,qc,qd,qe,qf,reduceCtorEq]
   refine fun _=>⟨by omega,by omega,?_⟩
   rintro b6 ⟨n56,n46,n36,n26,n16,h6⟩
   refine ⟨_,kq (n := 2) ⟨rfl,rfl⟩,?_⟩
   simp +contextual only [hx,hd,qj,qo,qk,qg,qi,n12,n13,n23,sa,sb,sc,he1,he2,he3,n14,n24,n34,n15,n25,n35,n45,n16,n26,n36,n46,n56,q6,q7,q8,q10,q11,q12,q13,q14,↓yg,↓XP,qm,XW1,qa,qb,qc,qd,qe,qf,reduceCtorEq]
   refine fun _=>⟨_,Kf (x := x) (p := p) (sense := sen) (m := m.drop 2) hs hb ho (by omega) ⟨rfl,rfl⟩,?_⟩
   generalize quoted x seen p sen (m.drop 2) = p3 at h ⊢
   have hd3 := @dE p3
   simp +contextual only [hd3,hx,hd,qj,qo,qk,qg,qi,n12,n13,n23,sa,sb,sc,he1,he2,he3,n14,n24,n34,n15,n25,n35,n45,n16,n26,n36,n46,n56,q6,q7,q8,q10,q11,q12,q13,q14,↓yg,↓XP,qm,XW1,qa,qb,qc,qd,qe,qf,reduceCtorEq]
   intros
   exact h
  ·clear h0 h5 r0
   have q6 : ((10 : Int) = 6) = False := by decide
   have q7 : ((10 : Int) = 7) = False := by decide
   have q8 : ((10 : Int) = 8) = False := by decide
   have q9 : ((10 : Int) = 9) = False := by decide
   have q11 : ((10 : Int) = 11) = False := by decide
   have q12 : ((10 : Int) = 12) = False := by decide
   have q13 : ((10 : Int) = 13) = False := by decide
   have q14 : ((10 : Int) = 14) = False := by decide
   rw [if_neg (by omega),if_neg (by omega),if_neg (by omega),if_pos (by omega)] at h
   simp +contextual only [hx,hd,qj,qo,qk,qg,qi,n12,n13,n23,sa,sb,sc,he1,he2,he3,n14,n24,n34,n15,n25,n35,n45,q6,q7,q8,q9,q11,q12,q13,q14,↓yg,↓XP,qm,XW1,qa,qb,qc,qd,qe,qf,reduceCtorEq]
   refine fun _=>⟨by omega,by omega,?_⟩
   rintro b6 ⟨n56,n46,n36,n26,n16,h6⟩
   refine ⟨_,kq (n := 2) ⟨rfl,rfl⟩,?_⟩
   simp +contextual only [hx,hd,qj,qo,qk,qg,qi,n12,n13,n23,sa,sb,sc,he1,he2,he3,n14,n24,n34,n15,n25,n35,n45,n16,n26,n36,n46,n56,q6,q7,q8,q9,q11,q12,q13,q14,↓yg,↓XP,qm,XW1,qa,qb,qc,qd,qe,qf,reduceCtorEq]
   refine fun _=>⟨_,W6 (p := p) (entry := ent) (sense := sen) (m := m.drop 2) (by omega) ⟨rfl,rfl⟩,?_⟩
   generalize divided p ent sen (m.drop 2) = p3 at h ⊢
   have hd3 := @dE p3
   simp +contextual only [hd3,hx,hd,qj,qo,qk,qg,qi,n12,n13,n23,sa,sb,sc,he1,he2,he3,n14,n24,n34,n15,n25,n35,n45,n16,n26,n36,n46,n56,q6,q7,q8,q9,q11,q12,q13,q14,↓yg,↓XP,qm,XW1,qa,qb,qc,qd,qe,qf,reduceCtorEq]
   intros
   exact h
  ·clear h0 h5 r0
   have q6 : ((11 : Int) = 6) = False := by decide
   have q7 : ((11 : Int) = 7) = False := by decide
   have q8 : ((11 : Int) = 8) = False := by decide
   have q9 : ((11 : Int) = 9) = False := by decide
   have q10 : ((11 : Int) = 10) = False := by decide
   have q12 : ((11 : Int) = 12) = False := by decide
   have q13 : ((11 : Int) = 13) = False := by decide
   have q14 : ((11 : Int) = 14) = False := by decide
   rw [if_neg (by omega),if_neg (by omega),if_neg (by omega),if_neg (by omega),if_pos (by omega)] at h
   simp +contextual only [hx,hd,qj,qo,qk,qg,qi,n12,n13,n23,sa,sb,sc,he1,he2,he3,n14,n24,n34,n15,n25,n35,n45,q6,q7,q8,q9,q10,q12,q13,q14,↓yg,↓XP,qm,XW1,qa,qb,qc,qd,qe,qf,reduceCtorEq]
   refine fun _=>⟨by omega,by omega,?_⟩
   rintro b6 ⟨n56,n46,n36,n26,n16,h6⟩
   rw [id_eq]
   refine ⟨fun hq=>?_,fun hq=>?_⟩
   ·rw [if_neg (of_decide_eq_false hq)] at h
    refine ku (p := p) (o := { op0 with k := 17,on := sen,to := oth }) (by omega) ?_
    generalize j6 p { op0 with k := 17,on := sen,to := oth } = p3 at h ⊢
    have hd3 := @dE p3
    simp +contextual only [hd3,hx,hd,qj,qo,qk,qg,qi,n12,n13,n23,sa,sb,sc,he1,he2,he3,n14,n24,n34,n15,n25,n35,n45,n16,n26,n36,n46,n56,q6,q7,q8,q9,q10,q12,q13,q14,↓yg,↓XP,qm,XW1,qa,qb,qc,qd,qe,qf,reduceCtorEq]
    intros
    exact h
   ·rw [if_pos (of_decide_eq_true hq)] at h
    unfold yd at h
    refine ⟨by decide,_,kq (n := 1) ⟨rfl,rfl⟩,?_⟩
    simp +contextual only [hx,hd,qj,qo,qk,qg,qi,n12,n13,n23,sa,sb,sc,he1,he2,he3,n14,n24,n34,n15,n25,n35,n45,n16,n26,n36,n46,n56,q6,q7,q8,q9,q10,q12,q13,q14,↓yg,↓XP,qm,XW1,qa,qb,qc,qd,qe,qf,reduceCtorEq]
    refine fun _=>⟨_,zU (sense := sen) (other := oth) (n := ((11 : Int).tmod 11)) (m := m.drop 1) ⟨rfl,rfl⟩,?_⟩
    generalize small sen oth ((11 : Int).tmod 11) (m.drop 1) = o at h ⊢
    have hod : o.d = [.int .i64 o.k,.int .i64 o.on.o,.int .i64 o.on.s,.int .i64 o.on.i,.int .i64 o.to.o,.int .i64 o.to.s,.int .i64 o.to.i,.slc (qV o.ids),.int .i64 o.n,.str o.name,.str o.text,.int .i64 o.a,.int .i64 o.b] := rfl
    simp +contextual only [hod,hx,hd,qj,qo,qk,qg,qi,n12,n13,n23,sa,sb,sc,he1,he2,he3,n14,n24,n34,n15,n25,n35,n45,n16,n26,n36,n46,n56,q6,q7,q8,q9,q10,q12,q13,q14,↓yg,↓XP,qm,XW1,qa,qb,qc,qd,qe,qf,reduceCtorEq]
    refine ⟨_,ku (p := p) (o := o) (by omega) ⟨rfl,rfl⟩,?_⟩
    generalize j6 p o = p3 at h ⊢
    have hd3 := @dE p3
    simp +contextual only [hd3,hx,hd,qj,qo,qk,qg,qi,n12,n13,n23,sa,sb,sc,he1,he2,he3,n14,n24,n34,n15,n25,n35,n45,n16,n26,n36,n46,n56,q6,q7,q8,q9,q10,q12,q13,q14,↓yg,↓XP,qm,XW1,qa,qb,qc,qd,qe,qf,reduceCtorEq]
    intros
    exact h
  ·clear h0 h5 r0
   have q6 : ((12 : Int) = 6) = False := by decide
   have q7 : ((12 : Int) = 7) = False := by decide
   have q8 : ((12 : Int) = 8) = False := by decide
   have q9 : ((12 : Int) = 9) = False := by decide
   have q10 : ((12 : Int) = 10) = False := by decide
   have q11 : ((12 : Int) = 11) = False := by decide
   have q13 : ((12 : Int) = 13) = False := by decide
   have q14 : ((12 : Int) = 14) = False := by decide
   rw [if_neg (by omega),if_neg (by omega),if_neg (by omega),if_neg (by omega),if_neg (by omega),if_pos (by omega)] at h
   simp +contextual only [hx,hd,qj,qo,qk,qg,qi,n12,n13,n23,sa,sb,sc,he1,he2,he3,n14,n24,n34,n15,n25,n35,n45,q6,q7,q8,q9,q10,q11,q13,q14,↓yg,↓XP,qm,XW1,qa,qb,qc,qd,qe,qf,reduceCtorEq]
   refine fun _=>⟨by omega,by omega,?_⟩
   rintro b6 ⟨n56,n46,n36,n26,n16,h6⟩
   refine Vg (x := x) (p := p) hs hb ho (by omega) ?_
   have hspl : (splits x seen p).length ≤ 101000 := spl_len ho hb (by omega)
   generalize splits x seen p = spl at h hsp hspl ⊢
   simp +contextual only [hx,hd,qj,qo,qk,qg,qi,n12,n13,n23,sa,sb,sc,he1,he2,he3,n14,n24,n34,n15,n25,n35,n45,n16,n26,n36,n46,n56,q6,q7,q8,q9,q10,q11,q13,q14,↓yg,↓XP,qm,XW1,qa,qb,qc,qd,qe,qf,reduceCtorEq]
   refine fun _=>⟨fun hl0=>?_,fun hl0=>?_⟩
   ·rw [if_neg (by omega)] at h
    have rd := qz (l := m) (i := 3) (most := (spl.length : Int)) (by omega)
    have hlt : jC m 3 spl.length < spl.length := by unfold jC; omega
    have sd : (qM spl).getD (qE m 3 spl.length).toNat [] = (spl.getD (jC m 3 spl.length) default).d := kB hlt
    have hi2 : (spl.getD (jC m 3 spl.length) default).ids.length = 2 := hsp _ (by rw [jk hlt]; exact List.getElem_mem _)
    generalize spl.getD (jC m 3 spl.length) default = o at h sd hi2
    have hod : o.d = [.int .i64 o.k,.int .i64 o.on.o,.int .i64 o.on.s,.int .i64 o.on.i,.int .i64 o.to.o,.int .i64 o.to.s,.int .i64 o.to.i,.slc (qV o.ids),.int .i64 o.n,.str o.name,.str o.text,.int .i64 o.a,.int .i64 o.b] := rfl
    refine jL (i := 3) (most := (spl.length : Int)) (by omega) ?_
    simp +contextual only [sd,hod,hx,hd,qj,qo,qk,qg,qi,n12,n13,n23,sa,sb,sc,he1,he2,he3,n14,n24,n34,n15,n25,n35,n45,n16,n26,n36,n46,n56,q6,q7,q8,q9,q10,q11,q13,q14,↓yg,↓XP,qm,XW1,qa,qb,qc,qd,qe,qf,reduceCtorEq]
    refine fun _=>⟨by omega,by omega,?_⟩
    rintro b7 ⟨n67,n57,n47,n37,n27,n17,h7⟩
    have rf := qz (l := m) (i := 4) (most := (o.ids.length : Int)) (by omega)
    have hlf : jC m 4 o.ids.length < o.ids.length := by unfold jC; omega
    have sf : (qV o.ids).getD (qE m 4 o.ids.length).toNat [] = (o.ids.getD (jC m 4 o.ids.length) default).d := kX hlf
    generalize o.ids.getD (jC m 4 o.ids.length) default = it at h sf
    have hit : it.d = [.int .i64 it.o,.int .i64 it.s,.int .i64 it.i] := rfl
    refine fun _=>⟨_,jL (i := 4) (most := (o.ids.length : Int)) (by omega) ⟨rfl,rfl⟩,?_⟩
    simp +contextual only [hx,hd,qj,qo,qk,qg,qi,n12,n13,n23,sa,sb,sc,he1,he2,he3,n14,n24,n34,n15,n25,n35,n45,n16,n26,n36,n46,n56,q6,q7,q8,q9,q10,q11,q13,q14,sf,hit,hod,VY,n17,n27,n37,n47,n57,n67,↓yg,↓XP,qm,XW1,qa,qb,qc,qd,qe,qf,reduceCtorEq]
    refine fun _=>⟨by omega,by omega,?_⟩
    refine ⟨_,ku (p := p) (o := { op0 with k := 18,on := sen,to := o.on,ids := [it] }) (by omega) ⟨rfl,rfl⟩,?_⟩
    generalize j6 p { op0 with k := 18,on := sen,to := o.on,ids := [it] } = p3 at h ⊢
    have hd3 := @dE p3
    simp +contextual only [hd3,hx,hd,qj,qo,qk,qg,qi,n12,n13,n23,sa,sb,sc,he1,he2,he3,n14,n24,n34,n15,n25,n35,n45,n16,n26,n36,n46,n56,q6,q7,q8,q9,q10,q11,q13,q14,sf,hit,hod,VY,n17,n27,n37,n47,n57,n67,↓yg,↓XP,qm,XW1,qa,qb,qc,qd,qe,qf,reduceCtorEq]
    intros
    exact h
   ·rw [if_pos (by omega)] at h
    unfold yd at h
    refine ⟨by decide,_,kq (n := 1) ⟨rfl,rfl⟩,?_⟩
    simp +contextual only [hx,hd,qj,qo,qk,qg,qi,n12,n13,n23,sa,sb,sc,he1,he2,he3,n14,n24,n34,n15,n25,n35,n45,n16,n26,n36,n46,n56,q6,q7,q8,q9,q10,q11,q13,q14,↓yg,↓XP,qm,XW1,qa,qb,qc,qd,qe,qf,reduceCtorEq]
    refine fun _=>⟨_,zU (sense := sen) (other := oth) (n := ((12 : Int).tmod 11)) (m := m.drop 1) ⟨rfl,rfl⟩,?_⟩
    generalize small sen oth ((12 : Int).tmod 11) (m.drop 1) = o at h ⊢
    have hod : o.d = [.int .i64 o.k,.int .i64 o.on.o,.int .i64 o.on.s,.int .i64 o.on.i,.int .i64 o.to.o,.int .i64 o.to.s,.int .i64 o.to.i,.slc (qV o.ids),.int .i64 o.n,.str o.name,.str o.text,.int .i64 o.a,.int .i64 o.b] := rfl
    simp +contextual only [hod,hx,hd,qj,qo,qk,qg,qi,n12,n13,n23,sa,sb,sc,he1,he2,he3,n14,n24,n34,n15,n25,n35,n45,n16,n26,n36,n46,n56,q6,q7,q8,q9,q10,q11,q13,q14,↓yg,↓XP,qm,XW1,qa,qb,qc,qd,qe,qf,reduceCtorEq]
    refine ⟨_,ku (p := p) (o := o) (by omega) ⟨rfl,rfl⟩,?_⟩
    generalize j6 p o = p3 at h ⊢
    have hd3 := @dE p3
    simp +contextual only [hd3,hx,hd,qj,qo,qk,qg,qi,n12,n13,n23,sa,sb,sc,he1,he2,he3,n14,n24,n34,n15,n25,n35,n45,n16,n26,n36,n46,n56,q6,q7,q8,q9,q10,q11,q13,q14,↓yg,↓XP,qm,XW1,qa,qb,qc,qd,qe,qf,reduceCtorEq]
    intros
    exact h
  ·clear h0 h5 r0
   have q6 : ((13 : Int) = 6) = False := by decide
   have q7 : ((13 : Int) = 7) = False := by decide
   have q8 : ((13 : Int) = 8) = False := by decide
   have q9 : ((13 : Int) = 9) = False := by decide
   have q10 : ((13 : Int) = 10) = False := by decide
   have q11 : ((13 : Int) = 11) = False := by decide
   have q12 : ((13 : Int) = 12) = False := by decide
   have q14 : ((13 : Int) = 14) = False := by decide
   rw [if_neg (by omega),if_neg (by omega),if_neg (by omega),if_neg (by omega),if_neg (by omega),if_neg (by omega),if_pos (by omega)] at h
   simp +contextual only [hx,hd,qj,qo,qk,qg,qi,n12,n13,n23,sa,sb,sc,he1,he2,he3,n14,n24,n34,n15,n25,n35,n45,q6,q7,q8,q9,q10,q11,q12,q14,↓yg,↓XP,qm,XW1,qa,qb,qc,qd,qe,qf,reduceCtorEq]
   refine fun _=>⟨by omega,by omega,?_⟩
   rintro b6 ⟨n56,n46,n36,n26,n16,h6⟩
   refine jL (i := 2) (by omega) ?_
   simp +contextual only [hx,hd,qj,qo,qk,qg,qi,n12,n13,n23,sa,sb,sc,he1,he2,he3,n14,n24,n34,n15,n25,n35,n45,n16,n26,n36,n46,n56,q6,q7,q8,q9,q10,q11,q12,q14,↓yg,↓XP,qm,XW1,qa,qb,qc,qd,qe,qf,reduceCtorEq]
   refine fun _=>⟨fun hq=>?_,fun hq=>?_⟩
   ·rw [if_pos (by omega)] at h
    refine ⟨_,zK ⟨rfl,rfl⟩,?_⟩
    simp +contextual only [hx,hd,qj,qo,qk,qg,qi,n12,n13,n23,sa,sb,sc,he1,he2,he3,n14,n24,n34,n15,n25,n35,n45,n16,n26,n36,n46,n56,q6,q7,q8,q9,q10,q11,q12,q14,s38,l8,qJ,↓yg,↓XP,qm,XW1,qa,qb,qc,qd,qe,qf,reduceCtorEq]
    refine fun _=>⟨_,jL (i := 3) (by omega) ⟨rfl,rfl⟩,?_⟩
    simp +contextual only [hx,hd,qj,qo,qk,qg,qi,n12,n13,n23,sa,sb,sc,he1,he2,he3,n14,n24,n34,n15,n25,n35,n45,n16,n26,n36,n46,n56,q6,q7,q8,q9,q10,q11,q12,q14,s38,l8,qJ,↓yg,↓XP,qm,XW1,qa,qb,qc,qd,qe,qf,reduceCtorEq]
    refine fun _=>⟨by omega,by omega,fun _=>?_⟩
    refine ⟨_,ku (p := p) (o := { op0 with k := 5,on := ent,text := heads8.getD (jC m 3 8) [] }) (by omega) ⟨rfl,rfl⟩,?_⟩
    generalize j6 p { op0 with k := 5,on := ent,text := heads8.getD (jC m 3 8) [] } = p3 at h ⊢
    have hd3 := @dE p3
    simp +contextual only [hd3,hx,hd,qj,qo,qk,qg,qi,n12,n13,n23,sa,sb,sc,he1,he2,he3,n14,n24,n34,n15,n25,n35,n45,n16,n26,n36,n46,n56,q6,q7,q8,q9,q10,q11,q12,q14,s38,l8,qJ,↓yg,↓XP,qm,XW1,qa,qb,qc,qd,qe,qf,reduceCtorEq]
    intros
    exact h
   ·rw [if_neg (by omega)] at h
    refine ⟨_,jL (i := 3) (by omega) ⟨rfl,rfl⟩,?_⟩
    simp +contextual only [hx,hd,qj,qo,qk,qg,qi,n12,n13,n23,sa,sb,sc,he1,he2,he3,n14,n24,n34,n15,n25,n35,n45,n16,n26,n36,n46,n56,q6,q7,q8,q9,q10,q11,q12,q14,s32,l2,e2,qJ,↓yg,↓XP,qm,XW1,qa,qb,qc,qd,qe,qf,reduceCtorEq]
    refine fun _=>⟨by omega,by omega,fun _=>?_⟩
    refine ⟨_,ku (p := p) (o := { op0 with k := 6,on := ent,name := cls2.getD (jC m 3 2) [] }) (by omega) ⟨rfl,rfl⟩,?_⟩
    generalize j6 p { op0 with k := 6,on := ent,name := cls2.getD (jC m 3 2) [] } = p3 at h ⊢
    have hd3 := @dE p3
    simp +contextual only [hd3,hx,hd,qj,qo,qk,qg,qi,n12,n13,n23,sa,sb,sc,he1,he2,he3,n14,n24,n34,n15,n25,n35,n45,n16,n26,n36,n46,n56,q6,q7,q8,q9,q10,q11,q12,q14,s32,l2,e2,qJ,↓yg,↓XP,qm,XW1,qa,qb,qc,qd,qe,qf,reduceCtorEq]
    intros
    exact h
  ·clear h0 h5 r0
   have q6 : ((14 : Int) = 6) = False := by decide
   have q7 : ((14 : Int) = 7) = False := by decide
   have q8 : ((14 : Int) = 8) = False := by decide
   have q9 : ((14 : Int) = 9) = False := by decide
   have q10 : ((14 : Int) = 10) = False := by decide
   have q11 : ((14 : Int) = 11) = False := by decide
   have q12 : ((14 : Int) = 12) = False := by decide
   have q13 : ((14 : Int) = 13) = False := by decide
   rw [if_neg (by omega),if_neg (by omega),if_neg (by omega),if_neg (by omega),if_neg (by omega),if_neg (by omega),if_neg (by omega),if_pos (by omega)] at h
   simp +contextual only [hx,hd,qj,qo,qk,qg,qi,n12,n13,n23,sa,sb,sc,he1,he2,he3,n14,n24,n34,n15,n25,n35,n45,q6,q7,q8,q9,q10,q11,q12,q13,↓yg,↓XP,qm,XW1,qa,qb,qc,qd,qe,qf,reduceCtorEq]
   refine fun _=>⟨by omega,by omega,?_⟩
   rintro b6 ⟨n56,n46,n36,n26,n16,h6⟩
   refine ug (x := x) (p := p) hs hb ho (by omega) ?_
   generalize visible x seen p 3 = src at h hvl3 ⊢
   simp +contextual only [hx,hd,qj,qo,qk,qg,qi,n12,n13,n23,sa,sb,sc,he1,he2,he3,n14,n24,n34,n15,n25,n35,n45,n16,n26,n36,n46,n56,q6,q7,q8,q9,q10,q11,q12,q13,↓yg,↓XP,qm,XW1,qa,qb,qc,qd,qe,qf,reduceCtorEq]
   refine fun _=>⟨fun hl0=>?_,fun hl0=>?_⟩
   ·rw [if_neg (by omega)] at h
    have w1 : IntKind.i64.wrap (500 * qE m 3 60) = 500 * qE m 3 60 := qw (by omega) (by omega)
    have w2 : IntKind.i64.wrap (600000 + 500 * qE m 3 60) = 600000 + 500 * qE m 3 60 := qw (by omega) (by omega)
    have w3 : IntKind.i64.wrap (600000 + 500 * qE m 3 60 + 99) = 600000 + 500 * qE m 3 60 + 99 := qw (by omega) (by omega)
    have rd := qz (l := m) (i := 2) (most := (src.length : Int)) (by omega)
    have hlt : jC m 2 src.length < src.length := by unfold jC; omega
    have sd : (qV src).getD (qE m 2 src.length).toNat [] = (src.getD (jC m 2 src.length) default).d := kX hlt
    generalize src.getD (jC m 2 src.length) default = it at h sd
    have hit : it.d = [.int .i64 it.o,.int .i64 it.s,.int .i64 it.i] := rfl
    refine jL (i := 3) (by omega) ?_
    simp +contextual only [hx,hd,qj,qo,qk,qg,qi,n12,n13,n23,sa,sb,sc,he1,he2,he3,n14,n24,n34,n15,n25,n35,n45,n16,n26,n36,n46,n56,q6,q7,q8,q9,q10,q11,q12,q13,sd,hit,w1,w2,w3,↓yg,↓XP,qm,XW1,qa,qb,qc,qd,qe,qf,reduceCtorEq]
    refine fun _ _=>⟨_,jL (i := 2) (most := (src.length : Int)) (by omega) ⟨rfl,rfl⟩,?_⟩
    simp +contextual only [hx,hd,qj,qo,qk,qg,qi,n12,n13,n23,sa,sb,sc,he1,he2,he3,n14,n24,n34,n15,n25,n35,n45,n16,n26,n36,n46,n56,q6,q7,q8,q9,q10,q11,q12,q13,sd,hit,w1,w2,w3,↓yg,↓XP,qm,XW1,qa,qb,qc,qd,qe,qf,reduceCtorEq]
    refine fun _=>⟨by omega,by omega,?_⟩
    refine ⟨_,ku (p := p) (o := { op0 with k := 11,on := it,a := 600000 + 500 * qE m 3 60,b := 600000 + 500 * qE m 3 60 + 99 }) (by omega) ⟨rfl,rfl⟩,?_⟩
    generalize j6 p { op0 with k := 11,on := it,a := 600000 + 500 * qE m 3 60,b := 600000 + 500 * qE m 3 60 + 99 } = p3 at h ⊢
    have hd3 := @dE p3
    simp +contextual only [hd3,hx,hd,qj,qo,qk,qg,qi,n12,n13,n23,sa,sb,sc,he1,he2,he3,n14,n24,n34,n15,n25,n35,n45,n16,n26,n36,n46,n56,q6,q7,q8,q9,q10,q11,q12,q13,sd,hit,w1,w2,w3,↓yg,↓XP,qm,XW1,qa,qb,qc,qd,qe,qf,reduceCtorEq]
    intros
    exact h
   ·rw [if_pos (by omega)] at h
    unfold yd at h
    refine ⟨by decide,_,kq (n := 1) ⟨rfl,rfl⟩,?_⟩
    simp +contextual only [hx,hd,qj,qo,qk,qg,qi,n12,n13,n23,sa,sb,sc,he1,he2,he3,n14,n24,n34,n15,n25,n35,n45,n16,n26,n36,n46,n56,q6,q7,q8,q9,q10,q11,q12,q13,↓yg,↓XP,qm,XW1,qa,qb,qc,qd,qe,qf,reduceCtorEq]
    refine fun _=>⟨_,zU (sense := sen) (other := oth) (n := ((14 : Int).tmod 11)) (m := m.drop 1) ⟨rfl,rfl⟩,?_⟩
    generalize small sen oth ((14 : Int).tmod 11) (m.drop 1) = o at h ⊢
    have hod : o.d = [.int .i64 o.k,.int .i64 o.on.o,.int .i64 o.on.s,.int .i64 o.on.i,.int .i64 o.to.o,.int .i64 o.to.s,.int .i64 o.to.i,.slc (qV o.ids),.int .i64 o.n,.str o.name,.str o.text,.int .i64 o.a,.int .i64 o.b] := rfl
    simp +contextual only [hod,hx,hd,qj,qo,qk,qg,qi,n12,n13,n23,sa,sb,sc,he1,he2,he3,n14,n24,n34,n15,n25,n35,n45,n16,n26,n36,n46,n56,q6,q7,q8,q9,q10,q11,q12,q13,↓yg,↓XP,qm,XW1,qa,qb,qc,qd,qe,qf,reduceCtorEq]
    refine ⟨_,ku (p := p) (o := o) (by omega) ⟨rfl,rfl⟩,?_⟩
    generalize j6 p o = p3 at h ⊢
    have hd3 := @dE p3
    simp +contextual only [hd3,hx,hd,qj,qo,qk,qg,qi,n12,n13,n23,sa,sb,sc,he1,he2,he3,n14,n24,n34,n15,n25,n35,n45,n16,n26,n36,n46,n56,q6,q7,q8,q9,q10,q11,q12,q13,↓yg,↓XP,qm,XW1,qa,qb,qc,qd,qe,qf,reduceCtorEq]
    intros
    exact h
  ·have q6 : (c = 6) = False := eq_false (by omega)
   have q7 : (c = 7) = False := eq_false (by omega)
   have q8 : (c = 8) = False := eq_false (by omega)
   have q9 : (c = 9) = False := eq_false (by omega)
   have q10 : (c = 10) = False := eq_false (by omega)
   have q11 : (c = 11) = False := eq_false (by omega)
   have q12 : (c = 12) = False := eq_false (by omega)
   have q13 : (c = 13) = False := eq_false (by omega)
   have q14 : (c = 14) = False := eq_false (by omega)
   rw [if_neg (by omega),if_neg (by omega),if_neg (by omega),if_neg (by omega),if_neg (by omega),if_neg (by omega),if_neg (by omega),if_neg (by omega)] at h
   simp +contextual only [hx,hd,qj,qo,qk,qg,qi,n12,n13,n23,sa,sb,sc,he1,he2,he3,n14,n24,n34,n15,n25,n35,n45,q6,q7,q8,q9,q10,q11,q12,q13,q14,↓yg,↓XP,qm,XW1,qa,qb,qc,qd,qe,qf,reduceCtorEq]
   refine fun _=>⟨by omega,by omega,?_⟩
   rintro b6 ⟨n56,n46,n36,n26,n16,h6⟩
   unfold yd at h
   refine ⟨by decide,_,kq (n := 1) ⟨rfl,rfl⟩,?_⟩
   simp +contextual only [hx,hd,qj,qo,qk,qg,qi,n12,n13,n23,sa,sb,sc,he1,he2,he3,n14,n24,n34,n15,n25,n35,n45,n16,n26,n36,n46,n56,q6,q7,q8,q9,q10,q11,q12,q13,q14,↓yg,↓XP,qm,XW1,qa,qb,qc,qd,qe,qf,reduceCtorEq]
   refine fun _=>⟨_,zU (sense := sen) (other := oth) (n := (c.tmod 11)) (m := m.drop 1) ⟨rfl,rfl⟩,?_⟩
   generalize small sen oth (c.tmod 11) (m.drop 1) = o at h ⊢
   have hod : o.d = [.int .i64 o.k,.int .i64 o.on.o,.int .i64 o.on.s,.int .i64 o.on.i,.int .i64 o.to.o,.int .i64 o.to.s,.int .i64 o.to.i,.slc (qV o.ids),.int .i64 o.n,.str o.name,.str o.text,.int .i64 o.a,.int .i64 o.b] := rfl
   simp +contextual only [hod,hx,hd,qj,qo,qk,qg,qi,n12,n13,n23,sa,sb,sc,he1,he2,he3,n14,n24,n34,n15,n25,n35,n45,n16,n26,n36,n46,n56,q6,q7,q8,q9,q10,q11,q12,q13,q14,↓yg,↓XP,qm,XW1,qa,qb,qc,qd,qe,qf,reduceCtorEq]
   refine ⟨_,ku (p := p) (o := o) (by omega) ⟨rfl,rfl⟩,?_⟩
   generalize j6 p o = p3 at h ⊢
   have hd3 := @dE p3
   simp +contextual only [hd3,hx,hd,qj,qo,qk,qg,qi,n12,n13,n23,sa,sb,sc,he1,he2,he3,n14,n24,n34,n15,n25,n35,n45,n16,n26,n36,n46,n56,q6,q7,q8,q9,q10,q11,q12,q13,q14,↓yg,↓XP,qm,XW1,qa,qb,qc,qd,qe,qf,reduceCtorEq]
   intros
   exact h
end Go.Proofs.YtoeckfegggongaaGreatDoor
end
section
namespace Go.Proofs.YtoeckfegggongaaGreatDoor
open Go Go.Aw
theorem n_steps {x : Gs} {seen : List Bool} {p : Pt} {m : List Int} {b3 b6 b8 : Nat} {c6 : AO} {H : AH} {Q : AQ} {F : List D} (hx : GInv x) (hb : x.l.length ≤ 20) (hs : seen.length = x.l.length) (hp : p.ops = []) (hv : VOk x seen p) (n38 : b3 ≠ b8) (n36 : b3 ≠ b6) (n68 : b6 ≠ b8)
  (hF : Fr 139 [(2,.slc (ints m)),(3,.ptr b3 0),(6,.ptr b6 0),(8,.ptr b8 0),(9,.slc (jt seen)),(13,.int .i64 0)] F) (hE : ∀ F',Fr 139 [(2,.slc (ints m)),(3,.ptr b3 0),(6,.ptr b6 0),(8,.ptr b8 0),(9,.slc (jt seen))] F' → ∀ i,i = 1 + jC m 5 2 → Q (.exit 4) F' ((b8,AO.cells (jg x seen p m i).d) :: (b6,c6) :: (b3,AO.cells [.own (j8 x.l),.own (je x.past)]) :: H)) :
  ∀ i,i = 0 → XW Tryz.prog x43_L14 F ((b8,AO.cells (jg x seen p m i).d) :: (b6,c6) :: (b3,AO.cells [.own (j8 x.l),.own (je x.past)]) :: H) Q := by
 intro i0 hi0
 have hbig := qt
 have a5 := qz (l := m) (i := 5) (most := 2) (by omega)
 obtain ⟨n,hn⟩ : ∃ n : Nat,1 + jC m 5 2 = n := ⟨_,rfl⟩
 have hn2 : n ≤ 2 := by unfold jC at hn; omega
 have hne : 1 + qE m 5 2 = (n : Int) := by unfold jC at hn; omega
 have w1 : IntKind.i64.wrap (1 + qE m 5 2) = (n : Int) := by rw [hne]; exact qw (by omega) (by omega)
 refine XW.loopK hm (fun F H'=>∃ (i : Nat),i ≤ n ∧ Fr 139 [(2,.slc (ints m)),(3,.ptr b3 0),(6,.ptr b6 0),(8,.ptr b8 0),(9,.slc (jt seen)),(13,.int .i64 (i : Int))] F ∧ ((b8,AO.cells (jg x seen p m i).d) :: (b6,c6) :: (b3,AO.cells [.own (j8 x.l),.own (je x.past)]) :: H) = H') (fun F H=>match F.getD 13 .any with | .int _ n'=>n - n'.toNat | _=>0) ⟨0,by omega,hF,by rw [hi0]⟩ ?_
 clear hF hi0
 rintro _ _ ⟨i,hi,hF,rfl⟩ K hN hE' hR
 obtain ⟨z,rfl⟩ : ∃ z : Nat → D,_ = zz z 0 2 (.slc (ints m) :: .ptr b3 0 :: zz z 4 2 (.ptr b6 0 :: z 7 :: .ptr b8 0 :: .slc (jt seen) :: zz z 10 3 (.int .i64 (i : Int) :: zz z 14 125 []))) := hF.lit
 try dsimp only [zz,qb] at *
 clear hF hR
 by_cases hlt : i < n
 ·have nx : ∀ F',Fr 139 [(2,.slc (ints m)),(3,.ptr b3 0),(6,.ptr b6 0),(8,.ptr b8 0),(9,.slc (jt seen)),(13,.int .i64 ((i + 1 : Nat) : Int))] F' → ∀ j,j = i + 1 → K .normal F' ((b8,AO.cells (jg x seen p m j).d) :: (b6,c6) :: (b3,AO.cells [.own (j8 x.l),.own (je x.past)]) :: H) := fun F' hF' j hj=>hN _ _ ⟨i + 1,hlt,hF',by rw [hj]; exact (j9 rfl).symm⟩ (by
   rw [List.getD_eq_getElem?_getD,hF'.2.2.2.2.2.2.1]
   simp only [List.getD_cons_succ,List.getD_cons_zero,Option.getD_some]
   omega)
  have nx2 := nx
  clear hN hE' hE nx
  obtain ⟨more,g1,g2⟩ := wB (x := x) (seen := seen) (p := p) (m := m) hp hv i
  have nx := fun F' hF'=>nx2 F' hF' (i + 1) rfl
  simp only [jg] at nx
  clear nx2
  generalize jg x seen p m i = q at g1 g2 nx ⊢
  have hqo : q.ops = more := by rw [g1.eq]; simp only [hp,List.nil_append]
  have hql := g1.len
  have hqk := g1.ok
  rw [← hqo] at hql hqk
  have hspl := Ww hx (seen := seen) (p := q) hqk
  have w2 : IntKind.i64.wrap (13 * (i : Int)) = 13 * (i : Int) := qw (by omega) (by omega)
  have w3 : IntKind.i64.wrap (6 + 13 * (i : Int)) = ((6 + 13 * i : Nat) : Int) := by rw [qw (by omega) (by omega)]; omega
  have hd := @dE q
  simp +contextual only [qg,qi,n38,n36,n68,uS,↓uT,↓XP,qm,XW1,qa,qb,qc,qd,qe,qf,reduceCtorEq]
  refine jL (i := 5) (by omega) ?_
  simp +contextual only [qg,qi,n38,n36,n68,uS,w1,hd,↓uT,↓XP,qm,XW1,qa,qb,qc,qd,qe,qf,reduceCtorEq]
  refine fun _=>⟨fun _=>?_,fun hge=>absurd (by omega) hge⟩
  simp +contextual only [qg,qi,n38,n36,n68,uS,w2,w3,hd,↓uT,↓XP,qm,XW1,qa,qb,qc,qd,qe,qf,reduceCtorEq]
  refine ⟨_,kq ⟨rfl,rfl⟩,?_⟩
  simp +contextual only [qg,qi,n38,n36,n68,uS,hd,↓uT,↓XP,qm,XW1,qa,qb,qc,qd,qe,qf,reduceCtorEq]
  refine fun _=>⟨_,f_step (x := x) (p := q) (by omega) (by omega) (fun q hq=>by have := hx.op q hq; omega) (by omega) g2 hspl ⟨rfl,rfl⟩,?_⟩
  generalize step x seen q (List.drop (6 + 13 * i) m) = p3 at nx ⊢
  have hd3 := @dE p3
  simp only [hd3] at nx
  simp +contextual only [qg,qi,n38,n36,n68,uS,hd,hd3,qp (show i ≤ big by omega),↓uT,↓XP,qm,XW1,qa,qb,qc,qd,qe,qf,reduceCtorEq]
  exact nx _ ⟨rfl,rfl,rfl,rfl,rfl,rfl,rfl,trivial⟩
 ·have hik : i = n := by omega
  subst hik
  clear hN
  simp +contextual only [qg,qi,n38,n36,n68,uS,↓uT,↓XP,qm,XW1,qa,qb,qc,qd,qe,qf,reduceCtorEq]
  refine jL (i := 5) (by omega) ?_
  simp +contextual only [qg,qi,n38,n36,n68,uS,w1,↓uT,↓XP,qm,XW1,qa,qb,qc,qd,qe,qf,reduceCtorEq]
  exact fun _=>hE' _ _ _ (hE _ ⟨rfl,rfl,rfl,rfl,rfl,rfl,trivial⟩ _ hn.symm)
theorem gd {H : AH} {c b : Nat} {o : AO} {xs : List (List D)} (h : xs ≠ [] → b ≠ c) : jr ((c,o) :: H) b xs = (c,o) :: jr H b xs := by
 unfold jr
 split
 ·rfl
 ·rename_i hx
  rw [kv (h hx)]
theorem Wb {H : AH} {b c : Nat} {o : AO} {xs : List (List D)} (h : xs ≠ [] → c ≠ b) (hg : qK H c = some o) : qK (jr H b xs) c = some o := by
 unfold jr
 split
 ·exact hg
 ·rename_i hx
  have hne := h hx
  induction H with
  | nil=>cases hg
  | cons p r ih =>
   obtain ⟨e,o'⟩ := p
   unfold jB
   by_cases he : b = e
   ·rw [if_pos he]
    subst he
    rwa [qg hne] at hg
   ·rw [if_neg he]
    by_cases hc : c = e
    ·subst hc
     rw [jV] at hg ⊢
     exact hg
    ·rw [qg hc] at hg ⊢
     exact ih hg
theorem Gz.take2 {F : List D} {k : List D → AH → Prop} {H : AH} {b3 b6 : Nat} {c6 : AO} {bl cl bp cp : Nat} {xs ys : List (List D)} (h3 : qZ H b3) (h6 : qZ H b6) (hl : xs ≠ [] → qK H bl = some (.room cl xs)) (hp : ys ≠ [] → qK H bp = some (.room cp ys)) (hne : xs ≠ [] → ys ≠ [] → bl ≠ bp)
  (h : ∀ Hr : AH,Hr = jr (jr H bl xs) bp ys → Hr.Sublist H → k F ((b6,c6) :: (b3,.cells [.own xs,.own ys]) :: Hr)) : Gz F ((b6,c6) :: (b3,.cells [.osl bl cl xs,.osl bp cp ys]) :: H) k := by
 have f3 : ∀ {b o},qK H b = some o → b ≠ b3 := fun hg=>om h3 hg
 have f6 : ∀ {b o},qK H b = some o → b ≠ b6 := fun hg=>om h6 hg
 refine Gz.bind (k := fun F' H'=>F' = F ∧ H' = (b3,.cells [.osl bl cl xs,.osl bp cp ys]) :: (b6,c6) :: H) (Gz.sb (fun hn=>?_) ⟨rfl,rfl⟩) ?_
 ·refine ⟨?_,fun p hp=>?_⟩
  ·simp only [List.map_cons,List.nodup_cons,List.mem_cons,not_or] at hn ⊢
   exact ⟨⟨fun e=>hn.1.1 e.symm,hn.2.1⟩,hn.1.2,hn.2.2⟩
  ·simp only [List.mem_cons] at hp ⊢
   rcases hp with h | h | h
   ·exact .inr (.inl h)
   ·exact .inl h
   ·exact .inr (.inr h)
 intro F2 H2 hh
 rw [hh.1,hh.2]
 clear hh
 refine Gz.bind (k := fun F'' H''=>F'' = F ∧ H'' = (b3,.cells [.own xs,.osl bp cp ys]) :: (b6,c6) :: jr H bl xs) (Gz.take (j := 0) rfl (fun hx=>by rw [qg (f6 (hl hx))]; exact hl hx) ⟨rfl,by rw [gd (fun hx=>f6 (hl hx))]; rfl⟩) ?_
 intro F2 H2 hh
 rw [hh.1,hh.2]
 clear hh
 have hp2 : ys ≠ [] → qK (jr H bl xs) bp = some (.room cp ys) := fun hy=>Wb (fun hx=>(hne hx hy).symm) (hp hy)
 refine Gz.bind (k := fun F'' H''=>F'' = F ∧ H'' = (b3,.cells [.own xs,.own ys]) :: (b6,c6) :: jr (jr H bl xs) bp ys) (Gz.take (j := 1) rfl (fun hy=>by rw [qg (f6 (hp hy))]; exact hp2 hy) ⟨rfl,by rw [gd (fun hy=>f6 (hp hy))]; rfl⟩) ?_
 intro F2 H2 hh
 rw [hh.1,hh.2]
 clear hh
 refine Gz.sb (fun hn=>?_) (h (jr (jr H bl xs) bp ys) rfl (dropR_sub.trans dropR_sub))
 refine ⟨?_,fun p hp=>?_⟩
 ·simp only [List.map_cons,List.nodup_cons,List.mem_cons,not_or] at hn ⊢
  exact ⟨⟨fun e=>hn.1.1 e.symm,hn.2.1⟩,hn.1.2,hn.2.2⟩
 ·simp only [List.mem_cons] at hp ⊢
  rcases hp with h | h | h
  ·exact .inr (.inl h)
  ·exact .inl h
  ·exact .inr (.inr h)
theorem Gz.view1 {F : List D} {k : List D → AH → Prop} {H : AH} {bx : Nat} {cs : List D} (hg : qK H bx = some (.cells cs)) (h : k F (qY H bx (.cells (cs.map D.view1)))) : Gz F H k := by
 intro K w t hs
 refine ⟨F,_,K,h,.refl K w,hs.krel,⟨by rw [yf]; exact hs.hrel.nd,fun c' o' hm'=>?_⟩,hs.len,hs.slot⟩
 rcases wo hs.hrel.nd hm' with ⟨rfl,rfl⟩ | ⟨hne,hm'⟩
 ·obtain ⟨hpb,c,T,hb,hcs,hrc⟩ := hs.hrel.ok c' _ (jp hg)
  refine ⟨hpb,c,T,hb,by simpa using hcs,fun j d hd=>?_⟩
  rw [List.getElem?_map,Option.map_eq_some_iff] at hd
  obtain ⟨d',e1,rfl⟩ := hd
  obtain ⟨u,f1,f2,f3⟩ := hrc j d' e1
  refine ⟨u,f1,f2,?_⟩
  cases d' <;> first | exact f3 | exact OwnAt.rep f3
 ·exact hs.hrel.ok c' o' hm'
end Go.Proofs.YtoeckfegggongaaGreatDoor
end
