/- A part of the proof of what the last text says: Gf3, Gf6, Gf7. Conditions: those in each theorem. -/
import Derived.Test.YtpdhandimdibhaaGreatDoorN23
set_option linter.unusedVariables false
set_option linter.unusedSimpArgs false
set_option maxRecDepth 100000
set_option maxHeartbeats 16000000
open Nat renaming reduceSub → qa,reduceAdd → qb,reduceMul → qc,reduceEqDiff → qd,reduceLeDiff → qe,reduceBEq → qf
section
namespace Go.Proofs.YtpdhandimdibhaaGreatDoor
open Go Go.Aw
theorem JN (x:Int):(if x<1 then x else 1)=min 1 x:=by
 by_cases h:x<1
 ·rw [if_pos h];omega
 ·rw [if_neg h];omega
theorem gy {sense other:Id3} {n:Int} {m:List Int} {H:AH} {R:D→AH→Prop} (h:R (.agg (small sense other n m).d) H):ACall Tryz.prog 88 [.agg sense.d,.agg other.d,.int .i64 n,.slc (ints m)] H R:=by
 refine b88 fun hf=>?_
 have hbig:=qt
 have ho:sense.d= [.int .i64 sense.o,.int .i64 sense.s,.int .i64 sense.i]:=rfl
 have ho2:other.d= [.int .i64 other.o,.int .i64 other.s,.int .i64 other.i]:=rfl
 simp+contextual only [x88,ho,ho2,↓Kq,↓XP,↓XU,qn,XW1,qa,qb,qc,qd,qe,qf,reduceCtorEq]
 have r9:=qv (l:=m) (i:=3) (most:=9) (by omega)
 have r3:=qv (l:=m) (i:=3) (most:=3) (by omega)
 have r2:=qv (l:=m) (i:=3) (most:=2) (by omega)
 have e3:([[.str [102,114]],[.str [102,114]],[.str [100,101]]]:List (List D))=strs lang3:=rfl
 have e2:([[.str [114,97,114,101]],[.str [108,97,119]]]:List (List D))=strs lab2:=rfl
 have s3:=kR (show (qB m 3 3).toNat<lang3.length by show _<3;omega)
 have s2:=kR (show (qB m 3 2).toNat<lab2.length by show _<2;omega)
 have l3:lang3.length=3:=rfl
 have l2:lab2.length=2:=rfl
 rintro b1 h1 b2 ⟨n12,h2⟩ b3 ⟨n23,n13,h3⟩
 refine ⟨?_,fun c0=>⟨?_,fun c1=>⟨?_,fun c2=>⟨?_,fun c3=>⟨?_,fun c4=>⟨?_,fun c5=>⟨?_,fun c6=>⟨?_,fun c7=>⟨?_,fun c8=>⟨?_,?_⟩⟩⟩⟩⟩⟩⟩⟩⟩⟩
 ·rintro rfl
  refine ⟨_,fun _ _=>ku (n:=3) ⟨rfl,rfl⟩,?_⟩
  simp+contextual only [ho,ho2,qg,qh,n12,n13,n23,↓Kq,↓XP,↓XU,qn,XW1,qa,qb,qc,qd,qe,qf,reduceCtorEq]
  refine fun _=>⟨_,fun _ _=>vR ⟨rfl,rfl⟩,?_⟩
  simp+contextual only [ho,ho2,qg,qh,n12,n13,n23,↓Kq,↓XP,↓XU,qn,XW1,qa,qb,qc,qd,qe,qf,reduceCtorEq]
  intros
  exact h
 ·rintro rfl
  refine ⟨_,fun _ _=>ku (n:=3) ⟨rfl,rfl⟩,?_⟩
  simp+contextual only [ho,ho2,qg,qh,n12,n13,n23,↓Kq,↓XP,↓XU,qn,XW1,qa,qb,qc,qd,qe,qf,reduceCtorEq]
  refine fun _=>⟨_,fun _ _=>vR ⟨rfl,rfl⟩,?_⟩
  simp+contextual only [ho,ho2,qg,qh,n12,n13,n23,↓Kq,↓XP,↓XU,qn,XW1,qa,qb,qc,qd,qe,qf,reduceCtorEq]
  intros
  exact h
 ·rintro rfl
  refine ⟨_,fun _ _=>jJ (i:=3) (by omega) ⟨rfl,rfl⟩,?_⟩
  simp+contextual only [ho,ho2,qg,qh,n12,n13,n23,↓Kq,↓XP,↓XU,qn,XW1,qa,qb,qc,qd,qe,qf,reduceCtorEq]
  intros
  exact h
 ·rintro rfl
  refine ⟨_,fun _ _=>jJ (i:=3) (by omega) ⟨rfl,rfl⟩,?_⟩
  simp+contextual only [ho,ho2,qg,qh,n12,n13,n23,qJ (show -9223372036854775808≤1+qB m 3 9 by omega) (by omega),↓Kq,↓XP,↓XU,qn,XW1,qa,qb,qc,qd,qe,qf,reduceCtorEq]
  intros
  exact h
 ·rintro rfl
  refine ⟨_,fun _ _=>jJ (i:=3) (by omega) ⟨rfl,rfl⟩,?_⟩
  simp+contextual only [ho,ho2,qg,qh,n12,n13,n23,e3,s3,l3,qK,↓Kq,↓XP,↓XU,qn,XW1,qa,qb,qc,qd,qe,qf,reduceCtorEq]
  refine fun _=>⟨by omega,by omega,fun _=>?_⟩
  refine ⟨_,fun _ _=>ku (n:=4) ⟨rfl,rfl⟩,?_⟩
  simp+contextual only [ho,ho2,qg,qh,n12,n13,n23,e3,s3,l3,qK,↓Kq,↓XP,↓XU,qn,XW1,qa,qb,qc,qd,qe,qf,reduceCtorEq]
  refine fun _=>⟨_,fun _ _=>vR ⟨rfl,rfl⟩,?_⟩
  simp+contextual only [ho,ho2,qg,qh,n12,n13,n23,e3,s3,l3,qK,↓Kq,↓XP,↓XU,qn,XW1,qa,qb,qc,qd,qe,qf,reduceCtorEq]
  intros
  exact h
 ·rintro rfl
  refine ⟨_,fun _ _=>jJ (i:=3) (by omega) ⟨rfl,rfl⟩,?_⟩
  simp+contextual only [ho,ho2,qg,qh,n12,n13,n23,e2,s2,l2,qK,↓Kq,↓XP,↓XU,qn,XW1,qa,qb,qc,qd,qe,qf,reduceCtorEq]
  refine fun _=>⟨by omega,by omega,fun _=>?_⟩
  refine ⟨_,fun _ _=>jJ (i:=4) (by omega) ⟨rfl,rfl⟩,?_⟩
  simp+contextual only [ho,ho2,qg,qh,n12,n13,n23,e2,s2,l2,qK,JN,↓Kq,↓XP,↓XU,qn,XW1,qa,qb,qc,qd,qe,qf,reduceCtorEq]
  intros
  exact h
 ·rintro rfl
  refine ⟨_,fun _ _=>jJ (i:=3) (by omega) ⟨rfl,rfl⟩,?_⟩
  simp+contextual only [ho,ho2,qg,qh,n12,n13,n23,e2,s2,l2,qK,↓Kq,↓XP,↓XU,qn,XW1,qa,qb,qc,qd,qe,qf,reduceCtorEq]
  refine fun _=>⟨by omega,by omega,fun _=>?_⟩
  refine ⟨_,fun _ _=>jJ (i:=4) (by omega) ⟨rfl,rfl⟩,?_⟩
  simp+contextual only [ho,ho2,qg,qh,n12,n13,n23,e2,s2,l2,qK,JN,↓Kq,↓XP,↓XU,qn,XW1,qa,qb,qc,qd,qe,qf,reduceCtorEq]
  intros
  exact h
 ·rintro rfl
  refine ⟨_,fun _ _=>jJ (i:=3) (by omega) ⟨rfl,rfl⟩,?_⟩
  simp+contextual only [ho,ho2,qg,qh,n12,n13,n23,JN,↓Kq,↓XP,↓XU,qn,XW1,qa,qb,qc,qd,qe,qf,reduceCtorEq]
  intros
  exact h
 ·rintro rfl
  refine ⟨_,fun _ _=>jJ (i:=3) (by omega) ⟨rfl,rfl⟩,?_⟩
  simp+contextual only [ho,ho2,qg,qh,n12,n13,n23,JN,↓Kq,↓XP,↓XU,qn,XW1,qa,qb,qc,qd,qe,qf,reduceCtorEq]
  intros
  exact h
 ·rintro rfl
  refine ⟨_,fun _ _=>jJ (i:=3) (by omega) ⟨rfl,rfl⟩,?_⟩
  simp+contextual only [ho,ho2,qg,qh,n12,n13,n23,↓Kq,↓XP,↓XU,qn,XW1,qa,qb,qc,qd,qe,qf,reduceCtorEq]
  intros
  exact h
 ·intro c9
  have hs:small sense other n m={jI with k:=8,on:=sense,n:=qB m 3 5}:=by
   unfold small
   simp only [c0,c1,c2,c3,c4,c5,c6,c7,c8,c9,or_self,if_false]
  rw [hs] at h
  refine ⟨_,fun _ _=>jJ (i:=3) (by omega) ⟨rfl,rfl⟩,?_⟩
  simp+contextual only [ho,ho2,qg,qh,n12,n13,n23,↓Kq,↓XP,↓XU,qn,XW1,qa,qb,qc,qd,qe,qf,reduceCtorEq]
  intros
  exact h
end Go.Proofs.YtpdhandimdibhaaGreatDoor
end
section
namespace Go.Proofs.YtpdhandimdibhaaGreatDoor
open Go Go.Aw
theorem zY {p:Pt} {on:Id3} {m:List Int}:(meaning p on m).ops.length≤p.ops.length+3:=by
 unfold meaning
 simp only
 split<;>simp only [wT]<;>omega
theorem VZ {p:Pt} {entry sense:Id3} {m:List Int} {H:AH} {R:D→AH→Prop} (hl:p.ops.length≤800) (h:R (.agg (divided p entry sense m).d) H):ACall Tryz.prog 86 [.agg p.d,.agg entry.d,.agg sense.d,.slc (ints m)] H R:=by
 refine b86 fun hf=>?_
 have hbig:=qt
 have hd:=@dE p
 have he:entry.d= [.int .i64 entry.o,.int .i64 entry.s,.int .i64 entry.i]:=rfl
 have hs:sense.d= [.int .i64 sense.o,.int .i64 sense.s,.int .i64 sense.i]:=rfl
 simp+contextual only [x86,hd,he,hs,qi,qg,qh,↓U86,↓XP,↓XU,qn,XW1,qa,qb,qc,qd,qe,qf,reduceCtorEq]
 rintro b1 h1 b2 ⟨n12,h2⟩ b3 ⟨n23,n13,h3⟩ b4 ⟨n34,n24,n14,h4⟩ _ _ _ b5 ⟨n45,n35,n25,n15,h5⟩
 refine wP (p:=p) (on:=entry) (m:=m) (by omega) ?_
 obtain ⟨p1,hp1⟩:∃q,q=meaning p entry m:=⟨_,rfl⟩
 have l1:p1.ops.length≤p.ops.length+3:=by rw [hp1];exact zY
 have hdv:divided p entry sense m=qV (meaning p1 entry (m.drop 1)) {jI with k:=16,on:=sense,ids:= [jp p,jp p1],n:=qB m 4 3 - 1}:=by rw [hp1];rfl
 rw [←hp1]
 clear hp1
 have hd1:=@dE p1
 simp+contextual only [hd1,hd,he,hs,qi,qg,qh,n12,n13,n23,n14,n24,n34,n15,n25,n35,n45,↓U86,↓XP,↓XU,qn,XW1,qa,qb,qc,qd,qe,qf,reduceCtorEq]
 rintro _ _ _ b6 ⟨n56,n46,n36,n26,n16,h6⟩
 refine ⟨_,fun _ _=>ku (n:=1) ⟨rfl,rfl⟩,?_⟩
 simp+contextual only [hd1,hd,he,hs,qi,qg,qh,n12,n13,n23,n14,n24,n34,n15,n25,n35,n45,n16,n26,n36,n46,n56,↓U86,↓XP,↓XU,qn,XW1,qa,qb,qc,qd,qe,qf,reduceCtorEq]
 refine fun _=>⟨_,fun _ _=>wP (p:=p1) (on:=entry) (m:=m.drop 1) (by omega) ⟨rfl,rfl⟩,?_⟩
 have l2:=zY (p:=p1) (on:=entry) (m:=m.drop 1)
 rw [hdv] at h
 generalize meaning p1 entry (m.drop 1)=p2 at h l2 ⊢
 have hd2:=@dE p2
 simp+contextual only [hd2,hd1,hd,he,hs,qi,qg,qh,n12,n13,n23,n14,n24,n34,n15,n25,n35,n45,n16,n26,n36,n46,n56,↓U86,↓XP,↓XU,qn,XW1,qa,qb,qc,qd,qe,qf,reduceCtorEq]
 have r3:=qv (l:=m) (i:=4) (most:=3) (by omega)
 refine ⟨_,fun _ _=>jJ (i:=4) (by omega) ⟨rfl,rfl⟩,?_⟩
 have w3:IntKind.i64.wrap (qB m 4 3 - 1)=qB m 4 3 - 1:=qJ (by omega) (by omega)
 simp+contextual only [hd2,hd1,hd,he,hs,qi,qg,qh,n12,n13,n23,n14,n24,n34,n15,n25,n35,n45,n16,n26,n36,n46,n56,w3,↓U86,↓XP,↓XU,qn,XW1,qa,qb,qc,qd,qe,qf,reduceCtorEq]
 refine fun _=>⟨_,fun _ _=>kv (p:=p2) (o:={jI with k:=16,on:=sense,ids:= [jp p,jp p1],n:=qB m 4 3 - 1}) (by omega) ⟨rfl,rfl⟩,?_⟩
 generalize qV p2 {jI with k:=16,on:=sense,ids:= [jp p,jp p1],n:=qB m 4 3 - 1}=p3 at h ⊢
 have hd3:=@dE p3
 simp+contextual only [hd3,hd2,hd1,hd,he,hs,qi,qg,qh,n12,n13,n23,n14,n24,n34,n15,n25,n35,n45,n16,n26,n36,n46,n56,↓U86,↓XP,↓XU,qn,XW1,qa,qb,qc,qd,qe,qf,reduceCtorEq]
 intros
 exact h
theorem gE {x:Gs} {seen:List Bool} {p:Pt} {kind:Int} (ho:∀q∈x.l,q.ops.length≤1000) (hb:x.l.length≤100) (hp:p.ops.length≤1000):(visible x seen p kind).length≤101000:=by
 have h1:=J4 (x:=x) (seen:=seen) (kind:=kind) ho x.l.length
 have h2:=vW (p:=p) (kind:=kind) (ok:=true) p.ops.length
 unfold visible
 rw [List.length_append]
 unfold jW at h1 ⊢
 omega
theorem Y3 {x:Gs} {seen:List Bool} {p:Pt} {sense:Id3} {m:List Int} {H:AH} {R:D→AH→Prop} (hs:x.l.length≤seen.length) (hb:x.l.length≤100) (ho:∀q∈x.l,q.ops.length≤1000) (hp:p.ops.length≤800) (h:R (.agg (quoted x seen p sense m).d) H):ACall Tryz.prog 85 [.agg x.d,.slc (jm seen),.agg p.d,.agg sense.d,.slc (ints m)] H R:=by
 refine b85 fun hf=>?_
 have hbig:=qt
 have hx:x.d= [.slc (qY x.l),.slc (j5 x.past)]:=rfl
 have hd:=@dE p
 have he:sense.d= [.int .i64 sense.o,.int .i64 sense.s,.int .i64 sense.i]:=rfl
 simp+contextual only [x85,hx,hd,he,qi,qm,qg,qh,↓gp,↓XP,↓XU,qn,XW1,qa,qb,qc,qd,qe,qf,reduceCtorEq]
 rintro b1 h1 b2 ⟨n12,h2⟩ b3 ⟨n23,n13,h3⟩ b4 ⟨n34,n24,n14,h4⟩
 refine uS (x:=x) (p:=p) hs hb ho (by omega) ?_
 have hvl:(visible x seen p 3).length≤101000:=gE ho hb (by omega)
 unfold quoted at h
 simp only at h
 generalize visible x seen p 3=src at h hvl ⊢
 simp+contextual only [hx,hd,he,qi,qm,qk,qg,qh,n12,n13,n23,n14,n24,n34,↓gp,↓XP,↓XU,qn,XW1,qa,qb,qc,qd,qe,qf,reduceCtorEq]
 rintro _ _ _ _ b5 ⟨n45,n35,n25,n15,h5⟩
 have r2:=qv (l:=m) (i:=2) (most:=60) (by omega)
 have r3:=qv (l:=m) (i:=3) (most:=3) (by omega)
 have r4:=qv (l:=m) (i:=4) (most:=8) (by omega)
 have r5:=qv (l:=m) (i:=5) (most:=90) (by omega)
 have w1:IntKind.i64.wrap (400*qB m 2 60)=400*qB m 2 60:=qJ (by omega) (by omega)
 have w2:IntKind.i64.wrap (600000+400*qB m 2 60)=600000+400*qB m 2 60:=qJ (by omega) (by omega)
 have w3:IntKind.i64.wrap (300*qB m 4 8)=300*qB m 4 8:=qJ (by omega) (by omega)
 have w4:IntKind.i64.wrap (600000+400*qB m 2 60+300*qB m 4 8)=600000+400*qB m 2 60+300*qB m 4 8:=qJ (by omega) (by omega)
 have w5:IntKind.i64.wrap (1+qB m 5 90)=1+qB m 5 90:=qJ (by omega) (by omega)
 have e3:([[.str [112,114,101,115,115]],[.str [104,101,105,114,115]],[.str [99,114,111,119,110]]]:List (List D))=strs names3:=rfl
 have s3:=kR (show (qB m 3 3).toNat<names3.length by show _<3;omega)
 have l3:names3.length=3:=rfl
 refine ⟨fun h0=>?_,fun h0=>?_⟩
 ·rw [if_pos (.inl (by omega))] at h
  refine jJ (i:=2) (by omega) ?_
  simp+contextual only [hx,hd,he,qi,qm,qk,qg,qh,n12,n13,n23,n14,n24,n34,n15,n25,n35,n45,w1,w2,↓gp,↓XP,↓XU,qn,XW1,qa,qb,qc,qd,qe,qf,reduceCtorEq]
  refine fun _=>⟨_,fun _ _=>jJ (i:=3) (by omega) ⟨rfl,rfl⟩,?_⟩
  simp+contextual only [hx,hd,he,qi,qm,qk,qg,qh,n12,n13,n23,n14,n24,n34,n15,n25,n35,n45,w1,w2,e3,s3,l3,qK,↓gp,↓XP,↓XU,qn,XW1,qa,qb,qc,qd,qe,qf,reduceCtorEq]
  refine fun _=>⟨by omega,by omega,fun _=>?_⟩
  refine ⟨_,fun _ _=>jJ (i:=4) (by omega) ⟨rfl,rfl⟩,?_⟩
  simp+contextual only [hx,hd,he,qi,qm,qk,qg,qh,n12,n13,n23,n14,n24,n34,n15,n25,n35,n45,w1,w2,w3,w4,e3,s3,l3,qK,↓gp,↓XP,↓XU,qn,XW1,qa,qb,qc,qd,qe,qf,reduceCtorEq]
  refine fun _=>⟨_,fun _ _=>kv (p:=p) (o:={jI with k:=3,name:=names3.getD (jG m 3 3) [],text:= [97,110,110,97,108,115],a:=600000+400*qB m 2 60,b:=600000+400*qB m 2 60+300*qB m 4 8}) (by omega) ⟨rfl,rfl⟩,?_⟩
  generalize hp1:qV p {jI with k:=3,name:=names3.getD (jG m 3 3) [],text:= [97,110,110,97,108,115],a:=600000+400*qB m 2 60,b:=600000+400*qB m 2 60+300*qB m 4 8}=p1 at h ⊢
  have lp1:p1.ops.length≤801:=by rw [←hp1,wT];omega
  have hd1:=@dE p1
  simp+contextual only [hd1,hx,hd,he,qi,qm,qk,qg,qh,n12,n13,n23,n14,n24,n34,n15,n25,n35,n45,↓gp,↓XP,↓XU,qn,XW1,qa,qb,qc,qd,qe,qf,reduceCtorEq]
  refine ⟨_,fun _ _=>jJ (i:=5) (by omega) ⟨rfl,rfl⟩,?_⟩
  simp+contextual only [hd1,hx,hd,he,qi,qm,qk,qg,qh,n12,n13,n23,n14,n24,n34,n15,n25,n35,n45,w5,↓gp,↓XP,↓XU,qn,XW1,qa,qb,qc,qd,qe,qf,reduceCtorEq]
  refine fun _=>⟨_,fun _ _=>ku (n:=6) ⟨rfl,rfl⟩,?_⟩
  simp+contextual only [hd1,hx,hd,he,qi,qm,qk,qg,qh,n12,n13,n23,n14,n24,n34,n15,n25,n35,n45,w5,↓gp,↓XP,↓XU,qn,XW1,qa,qb,qc,qd,qe,qf,reduceCtorEq]
  refine fun _=>⟨_,fun _ _=>vR ⟨rfl,rfl⟩,?_⟩
  simp+contextual only [hd1,hx,hd,he,qi,qm,qk,qg,qh,n12,n13,n23,n14,n24,n34,n15,n25,n35,n45,w5,↓gp,↓XP,↓XU,qn,XW1,qa,qb,qc,qd,qe,qf,reduceCtorEq]
  refine fun _=>⟨_,fun _ _=>kv (p:=p1) (o:={jI with k:=4,on:=sense,to:=jp p,n:=1+qB m 5 90,text:=gloss (m.drop 6)}) (by omega) ⟨rfl,rfl⟩,?_⟩
  generalize qV p1 {jI with k:=4,on:=sense,to:=jp p,n:=1+qB m 5 90,text:=gloss (m.drop 6)}=p3 at h ⊢
  have hd3:=@dE p3
  simp+contextual only [hd3,hd1,hx,hd,he,qi,qm,qk,qg,qh,n12,n13,n23,n14,n24,n34,n15,n25,n35,n45,↓gp,↓XP,↓XU,qn,XW1,qa,qb,qc,qd,qe,qf,reduceCtorEq]
  intros
  exact h
 ·refine jJ (i:=1) (by omega) ?_
  simp+contextual only [hx,hd,he,qi,qm,qk,qg,qh,n12,n13,n23,n14,n24,n34,n15,n25,n35,n45,↓gp,↓XP,↓XU,qn,XW1,qa,qb,qc,qd,qe,qf,reduceCtorEq]
  refine fun _=>⟨fun h1=>?_,fun h1=>?_⟩
  ·rw [if_pos (.inr h1)] at h
   refine jJ (i:=2) (by omega) ?_
   simp+contextual only [hx,hd,he,qi,qm,qk,qg,qh,n12,n13,n23,n14,n24,n34,n15,n25,n35,n45,w1,w2,↓gp,↓XP,↓XU,qn,XW1,qa,qb,qc,qd,qe,qf,reduceCtorEq]
   refine fun _=>⟨_,fun _ _=>jJ (i:=3) (by omega) ⟨rfl,rfl⟩,?_⟩
   simp+contextual only [hx,hd,he,qi,qm,qk,qg,qh,n12,n13,n23,n14,n24,n34,n15,n25,n35,n45,w1,w2,e3,s3,l3,qK,↓gp,↓XP,↓XU,qn,XW1,qa,qb,qc,qd,qe,qf,reduceCtorEq]
   refine fun _=>⟨by omega,by omega,fun _=>?_⟩
   refine ⟨_,fun _ _=>jJ (i:=4) (by omega) ⟨rfl,rfl⟩,?_⟩
   simp+contextual only [hx,hd,he,qi,qm,qk,qg,qh,n12,n13,n23,n14,n24,n34,n15,n25,n35,n45,w1,w2,w3,w4,e3,s3,l3,qK,↓gp,↓XP,↓XU,qn,XW1,qa,qb,qc,qd,qe,qf,reduceCtorEq]
   refine fun _=>⟨_,fun _ _=>kv (p:=p) (o:={jI with k:=3,name:=names3.getD (jG m 3 3) [],text:= [97,110,110,97,108,115],a:=600000+400*qB m 2 60,b:=600000+400*qB m 2 60+300*qB m 4 8}) (by omega) ⟨rfl,rfl⟩,?_⟩
   generalize hp1:qV p {jI with k:=3,name:=names3.getD (jG m 3 3) [],text:= [97,110,110,97,108,115],a:=600000+400*qB m 2 60,b:=600000+400*qB m 2 60+300*qB m 4 8}=p1 at h ⊢
   have lp1:p1.ops.length≤801:=by rw [←hp1,wT];omega
   have hd1:=@dE p1
   simp+contextual only [hd1,hx,hd,he,qi,qm,qk,qg,qh,n12,n13,n23,n14,n24,n34,n15,n25,n35,n45,↓gp,↓XP,↓XU,qn,XW1,qa,qb,qc,qd,qe,qf,reduceCtorEq]
   refine ⟨_,fun _ _=>jJ (i:=5) (by omega) ⟨rfl,rfl⟩,?_⟩
   simp+contextual only [hd1,hx,hd,he,qi,qm,qk,qg,qh,n12,n13,n23,n14,n24,n34,n15,n25,n35,n45,w5,↓gp,↓XP,↓XU,qn,XW1,qa,qb,qc,qd,qe,qf,reduceCtorEq]
   refine fun _=>⟨_,fun _ _=>ku (n:=6) ⟨rfl,rfl⟩,?_⟩
   simp+contextual only [hd1,hx,hd,he,qi,qm,qk,qg,qh,n12,n13,n23,n14,n24,n34,n15,n25,n35,n45,w5,↓gp,↓XP,↓XU,qn,XW1,qa,qb,qc,qd,qe,qf,reduceCtorEq]
   refine fun _=>⟨_,fun _ _=>vR ⟨rfl,rfl⟩,?_⟩
   simp+contextual only [hd1,hx,hd,he,qi,qm,qk,qg,qh,n12,n13,n23,n14,n24,n34,n15,n25,n35,n45,w5,↓gp,↓XP,↓XU,qn,XW1,qa,qb,qc,qd,qe,qf,reduceCtorEq]
   refine fun _=>⟨_,fun _ _=>kv (p:=p1) (o:={jI with k:=4,on:=sense,to:=jp p,n:=1+qB m 5 90,text:=gloss (m.drop 6)}) (by omega) ⟨rfl,rfl⟩,?_⟩
   generalize qV p1 {jI with k:=4,on:=sense,to:=jp p,n:=1+qB m 5 90,text:=gloss (m.drop 6)}=p3 at h ⊢
   have hd3:=@dE p3
   simp+contextual only [hd3,hd1,hx,hd,he,qi,qm,qk,qg,qh,n12,n13,n23,n14,n24,n34,n15,n25,n35,n45,↓gp,↓XP,↓XU,qn,XW1,qa,qb,qc,qd,qe,qf,reduceCtorEq]
   intros
   exact h
  ·rw [if_neg (by rintro (hc|hc);exact h0 (by omega);exact h1 hc)] at h
   have r6:=qv (l:=m) (i:=2) (most:=(src.length:Int)) (by omega)
   have s6:=kL (show (qB m 2 src.length).toNat<src.length by omega)
   refine fun _=>jJ (i:=2) (most:=(src.length:Int)) (by omega) ?_
   unfold jG at h
   generalize src.getD (qB m 2 src.length).toNat default=to at s6 h
   have hto:to.d= [.int .i64 to.o,.int .i64 to.s,.int .i64 to.i]:=rfl
   simp+contextual only [hx,hd,he,qi,qm,qk,qg,qh,n12,n13,n23,n14,n24,n34,n15,n25,n35,n45,s6,hto,↓gp,↓XP,↓XU,qn,XW1,qa,qb,qc,qd,qe,qf,reduceCtorEq]
   refine fun _=>⟨by omega,by omega,?_⟩
   refine ⟨_,fun _ _=>jJ (i:=5) (by omega) ⟨rfl,rfl⟩,?_⟩
   simp+contextual only [hto,hx,hd,he,qi,qm,qk,qg,qh,n12,n13,n23,n14,n24,n34,n15,n25,n35,n45,w5,↓gp,↓XP,↓XU,qn,XW1,qa,qb,qc,qd,qe,qf,reduceCtorEq]
   refine fun _=>⟨_,fun _ _=>ku (n:=6) ⟨rfl,rfl⟩,?_⟩
   simp+contextual only [hto,hx,hd,he,qi,qm,qk,qg,qh,n12,n13,n23,n14,n24,n34,n15,n25,n35,n45,w5,↓gp,↓XP,↓XU,qn,XW1,qa,qb,qc,qd,qe,qf,reduceCtorEq]
   refine fun _=>⟨_,fun _ _=>vR ⟨rfl,rfl⟩,?_⟩
   simp+contextual only [hto,hx,hd,he,qi,qm,qk,qg,qh,n12,n13,n23,n14,n24,n34,n15,n25,n35,n45,w5,↓gp,↓XP,↓XU,qn,XW1,qa,qb,qc,qd,qe,qf,reduceCtorEq]
   refine fun _=>⟨_,fun _ _=>kv (p:=p) (o:={jI with k:=4,on:=sense,to:=to,n:=1+qB m 5 90,text:=gloss (m.drop 6)}) (by omega) ⟨rfl,rfl⟩,?_⟩
   generalize qV p {jI with k:=4,on:=sense,to:=to,n:=1+qB m 5 90,text:=gloss (m.drop 6)}=p3 at h ⊢
   have hd3:=@dE p3
   simp+contextual only [hd3,hto,hx,hd,he,qi,qm,qk,qg,qh,n12,n13,n23,n14,n24,n34,n15,n25,n35,n45,↓gp,↓XP,↓XU,qn,XW1,qa,qb,qc,qd,qe,qf,reduceCtorEq]
   intros
   exact h
end Go.Proofs.YtpdhandimdibhaaGreatDoor
end
section
namespace Go.Proofs.YtpdhandimdibhaaGreatDoor
open Go Go.Aw
theorem Gk {n:Nat} {x1 x2 x3 x4 x5 x6 x7:Nat×AO} {H:AH} (h:H.length=n):back n (x1::x2::x3::x4::x5::x6::x7::H)=H:=by
 rw [yV (by simp;omega),Gl h]
theorem id_eq {a b:Id3}:(decide (a.o=b.o)&&(decide (a.s=b.s)&&decide (a.i=b.i)))=decide (a=b):=by
 cases a;cases b
 simp only [Id3.mk.injEq,Bool.decide_and]
theorem spl_len {x:Gs} {seen:List Bool} {p:Pt} (ho:∀q∈x.l,q.ops.length≤1000) (hb:x.l.length≤100) (hp:p.ops.length≤1000):(splits x seen p).length≤101000:=by
 have h1:=Jk (x:=x) (seen:=seen) ho x.l.length
 have h2:=u5 (p:=p) (ok:=true) p.ops.length
 unfold splits
 rw [List.length_append]
 unfold kD at h1 ⊢
 omega
theorem f_step {x:Gs} {seen:List Bool} {p:Pt} {m:List Int} {H:AH} {R:D→AH→Prop} (hs:x.l.length≤seen.length) (hb:x.l.length≤100) (ho:∀q∈x.l,q.ops.length≤1000) (hp:p.ops.length≤700) (hen:(visible x seen p 2).length≠0→(visible x seen p 1).length≠0) (hsp:∀o∈splits x seen p,o.ids.length=2) (h:R (.agg (step x seen p m).d) H):ACall Tryz.prog 55 [.agg x.d,.slc (jm seen),.agg p.d,.slc (ints m)] H R:=by
 refine b55 fun hf=>?_
 have hbig:=qt
 have hx:x.d= [.slc (qY x.l),.slc (j5 x.past)]:=rfl
 have hd:=@dE p
 simp+contextual only [x55,hx,hd,qi,qm,qk,qg,qh,↓yo,↓XP,↓XU,qn,XW1,qa,qb,qc,qd,qe,qf,reduceCtorEq]
 rintro b1 h1 b2 ⟨n12,h2⟩ b3 ⟨n23,n13,h3⟩
 refine uS (x:=x) (p:=p) hs hb ho (by omega) ?_
 have hvl1:(visible x seen p 1).length≤101000:=gE ho hb (by omega)
 have hvl2:(visible x seen p 2).length≤101000:=gE ho hb (by omega)
 have hvl3:(visible x seen p 3).length≤101000:=gE ho hb (by omega)
 have r0:=qv (l:=m) (i:=0) (most:=24) (by omega)
 have r15:=qv (l:=m) (i:=1) (most:=5) (by omega)
 have r28:=qv (l:=m) (i:=2) (most:=8) (by omega)
 have r38:=qv (l:=m) (i:=3) (most:=8) (by omega)
 have r32:=qv (l:=m) (i:=3) (most:=2) (by omega)
 have r360:=qv (l:=m) (i:=3) (most:=60) (by omega)
 have e5:([[.str [110]],[.str [110]],[.str [110]],[.str [118]],[.str [120]]]:List (List D))=strs cls5:=rfl
 have e2:([[.str [110]],[.str [118]]]:List (List D))=strs cls2:=rfl
 have l5:cls5.length=5:=rfl
 have l2:cls2.length=2:=rfl
 have l8:heads8.length=8:=rfl
 have s15:=kR (show (qB m 1 5).toNat<cls5.length by rw [l5];omega)
 have s28:=kR (show (qB m 2 8).toNat<heads8.length by rw [l8];omega)
 have s38:=kR (show (qB m 3 8).toNat<heads8.length by rw [l8];omega)
 have s32:=kR (show (qB m 3 2).toNat<cls2.length by rw [l2];omega)
 unfold step at h
 simp only at h
 generalize visible x seen p 1=en at h hvl1 hen ⊢
 simp+contextual only [hx,hd,qi,qm,qk,qg,qh,n12,n13,n23,↓yo,↓XP,↓XU,qn,XW1,qa,qb,qc,qd,qe,qf,reduceCtorEq]
 refine fun _=>uS (x:=x) (p:=p) hs hb ho (by omega) ?_
 generalize visible x seen p 2=se at h hvl2 hen ⊢
 simp+contextual only [hx,hd,qi,qm,qk,qg,qh,n12,n13,n23,↓yo,↓XP,↓XU,qn,XW1,qa,qb,qc,qd,qe,qf,reduceCtorEq]
 refine fun _=>jJ (i:=0) (by omega) ?_
 generalize qB m 0 24=c at h r0 ⊢
 simp+contextual only [hx,hd,qi,qm,qk,qg,qh,n12,n13,n23,↓yo,↓XP,↓XU,qn,XW1,qa,qb,qc,qd,qe,qf,reduceCtorEq]
 refine fun _ _=>⟨fun h0=>?_,fun h0=>⟨fun h5=>?_,fun h5=>?_⟩⟩
 ·rw [if_pos (.inl (by omega))] at h
  rintro _ _ _ b4 ⟨n34,n24,n14,h4⟩
  refine ⟨_,fun _ _=>jJ (i:=1) (by omega) ⟨rfl,rfl⟩,?_⟩
  simp+contextual only [hx,hd,qi,qm,qk,qg,qh,n12,n13,n23,n14,n24,n34,e5,s15,s28,l5,l8,qK,↓yo,↓XP,↓XU,qn,XW1,qa,qb,qc,qd,qe,qf,reduceCtorEq]
  refine fun _=>⟨by omega,by omega,fun _=>?_⟩
  refine ⟨_,fun _ _=>gm ⟨rfl,rfl⟩,?_⟩
  simp+contextual only [hx,hd,qi,qm,qk,qg,qh,n12,n13,n23,n14,n24,n34,e5,s15,s28,l5,l8,qK,↓yo,↓XP,↓XU,qn,XW1,qa,qb,qc,qd,qe,qf,reduceCtorEq]
  refine fun _=>⟨_,fun _ _=>jJ (i:=2) (by omega) ⟨rfl,rfl⟩,?_⟩
  simp+contextual only [hx,hd,qi,qm,qk,qg,qh,n12,n13,n23,n14,n24,n34,e5,s15,s28,l5,l8,qK,↓yo,↓XP,↓XU,qn,XW1,qa,qb,qc,qd,qe,qf,reduceCtorEq]
  refine fun _=>⟨by omega,by omega,fun _=>?_⟩
  refine ⟨_,fun _ _=>kv (p:=p) (o:={jI with k:=1,name:=cls5.getD (jG m 1 5) [],text:=heads8.getD (jG m 2 8) []}) (by omega) ⟨rfl,rfl⟩,?_⟩
  generalize hp1:qV p {jI with k:=1,name:=cls5.getD (jG m 1 5) [],text:=heads8.getD (jG m 2 8) []}=p1 at h ⊢
  have lp1:p1.ops.length≤801:=by rw [←hp1,wT];omega
  have hd1:=@dE p1
  simp+contextual only [hd1,hx,hd,qi,qm,qk,qg,qh,n12,n13,n23,n14,n24,n34,e5,s15,s28,l5,l8,qK,↓yo,↓XP,↓XU,qn,XW1,qa,qb,qc,qd,qe,qf,reduceCtorEq]
  refine ⟨_,fun _ _=>ku (n:=3) ⟨rfl,rfl⟩,?_⟩
  simp+contextual only [hd1,hx,hd,qi,qm,qk,qg,qh,n12,n13,n23,n14,n24,n34,e5,s15,s28,l5,l8,qK,↓yo,↓XP,↓XU,qn,XW1,qa,qb,qc,qd,qe,qf,reduceCtorEq]
  refine fun _=>⟨_,fun _ _=>wP (p:=p1) (on:=jp p) (m:=m.drop 3) (by omega) ⟨rfl,rfl⟩,?_⟩
  generalize meaning p1 (jp p) (m.drop 3)=p3 at h ⊢
  have hd3:=@dE p3
  simp+contextual only [hd3,hd1,hx,hd,qi,qm,qk,qg,qh,n12,n13,n23,n14,n24,n34,e5,s15,s28,l5,l8,qK,↓yo,↓XP,↓XU,qn,XW1,qa,qb,qc,qd,qe,qf,reduceCtorEq]
  intros
  exact h
 ·rw [if_pos (.inr (by omega))] at h
  rintro _ _ _ b4 ⟨n34,n24,n14,h4⟩
  refine ⟨_,fun _ _=>jJ (i:=1) (by omega) ⟨rfl,rfl⟩,?_⟩
  simp+contextual only [hx,hd,qi,qm,qk,qg,qh,n12,n13,n23,n14,n24,n34,e5,s15,s28,l5,l8,qK,↓yo,↓XP,↓XU,qn,XW1,qa,qb,qc,qd,qe,qf,reduceCtorEq]
  refine fun _=>⟨by omega,by omega,fun _=>?_⟩
  refine ⟨_,fun _ _=>gm ⟨rfl,rfl⟩,?_⟩
  simp+contextual only [hx,hd,qi,qm,qk,qg,qh,n12,n13,n23,n14,n24,n34,e5,s15,s28,l5,l8,qK,↓yo,↓XP,↓XU,qn,XW1,qa,qb,qc,qd,qe,qf,reduceCtorEq]
  refine fun _=>⟨_,fun _ _=>jJ (i:=2) (by omega) ⟨rfl,rfl⟩,?_⟩
  simp+contextual only [hx,hd,qi,qm,qk,qg,qh,n12,n13,n23,n14,n24,n34,e5,s15,s28,l5,l8,qK,↓yo,↓XP,↓XU,qn,XW1,qa,qb,qc,qd,qe,qf,reduceCtorEq]
  refine fun _=>⟨by omega,by omega,fun _=>?_⟩
  refine ⟨_,fun _ _=>kv (p:=p) (o:={jI with k:=1,name:=cls5.getD (jG m 1 5) [],text:=heads8.getD (jG m 2 8) []}) (by omega) ⟨rfl,rfl⟩,?_⟩
  generalize hp1:qV p {jI with k:=1,name:=cls5.getD (jG m 1 5) [],text:=heads8.getD (jG m 2 8) []}=p1 at h ⊢
  have lp1:p1.ops.length≤801:=by rw [←hp1,wT];omega
  have hd1:=@dE p1
  simp+contextual only [hd1,hx,hd,qi,qm,qk,qg,qh,n12,n13,n23,n14,n24,n34,e5,s15,s28,l5,l8,qK,↓yo,↓XP,↓XU,qn,XW1,qa,qb,qc,qd,qe,qf,reduceCtorEq]
  refine ⟨_,fun _ _=>ku (n:=3) ⟨rfl,rfl⟩,?_⟩
  simp+contextual only [hd1,hx,hd,qi,qm,qk,qg,qh,n12,n13,n23,n14,n24,n34,e5,s15,s28,l5,l8,qK,↓yo,↓XP,↓XU,qn,XW1,qa,qb,qc,qd,qe,qf,reduceCtorEq]
  refine fun _=>⟨_,fun _ _=>wP (p:=p1) (on:=jp p) (m:=m.drop 3) (by omega) ⟨rfl,rfl⟩,?_⟩
  generalize meaning p1 (jp p) (m.drop 3)=p3 at h ⊢
  have hd3:=@dE p3
  simp+contextual only [hd3,hd1,hx,hd,qi,qm,qk,qg,qh,n12,n13,n23,n14,n24,n34,e5,s15,s28,l5,l8,qK,↓yo,↓XP,↓XU,qn,XW1,qa,qb,qc,qd,qe,qf,reduceCtorEq]
  intros
  exact h
 ·rw [if_neg (by rintro (hc|hc);exact h0 (by omega);exact h5 (by omega))] at h
  have hen':=hen (by omega)
  clear hen
  have ra:=qv (l:=m) (i:=1) (most:=(en.length:Int)) (by omega)
  have rb:=qv (l:=m) (i:=1) (most:=(se.length:Int)) (by omega)
  have rc:=qv (l:=m) (i:=2) (most:=(se.length:Int)) (by omega)
  have sa:(qI en).getD (qB m 1 en.length).toNat []=(en.getD (jG m 1 en.length) default).d:=kL (show (qB m 1 en.length).toNat<en.length by omega)
  have sb:(qI se).getD (qB m 1 se.length).toNat []=(se.getD (jG m 1 se.length) default).d:=kL (show (qB m 1 se.length).toNat<se.length by omega)
  have sc:(qI se).getD (qB m 2 se.length).toNat []=(se.getD (jG m 2 se.length) default).d:=kL (show (qB m 2 se.length).toNat<se.length by omega)
  generalize en.getD (jG m 1 en.length) default=ent at h sa
  generalize se.getD (jG m 1 se.length) default=sen at h sb
  generalize se.getD (jG m 2 se.length) default=oth at h sc
  have he1:ent.d= [.int .i64 ent.o,.int .i64 ent.s,.int .i64 ent.i]:=rfl
  have he2:sen.d= [.int .i64 sen.o,.int .i64 sen.s,.int .i64 sen.i]:=rfl
  have he3:oth.d= [.int .i64 oth.o,.int .i64 oth.s,.int .i64 oth.i]:=rfl
  refine fun _=>jJ (i:=1) (most:=(en.length:Int)) (by omega) ?_
  simp+contextual only [hx,hd,qi,qm,qk,qg,qh,n12,n13,n23,sa,sb,sc,he1,he2,he3,↓yo,↓XP,↓XU,qn,XW1,qa,qb,qc,qd,qe,qf,reduceCtorEq]
  refine fun _=>⟨by omega,by omega,?_⟩
  rintro b4 ⟨n34,n24,n14,h4⟩
  refine fun _=>jJ (i:=1) (most:=(se.length:Int)) (by omega) ?_
  simp+contextual only [hx,hd,qi,qm,qk,qg,qh,n12,n13,n23,sa,sb,sc,he1,he2,he3,n14,n24,n34,↓yo,↓XP,↓XU,qn,XW1,qa,qb,qc,qd,qe,qf,reduceCtorEq]
  refine fun _=>⟨by omega,by omega,?_⟩
  rintro b5 ⟨n45,n35,n25,n15,h5⟩
  have hc:c=6∨c=7∨c=8∨c=9∨c=10∨c=11∨c=12∨c=13∨c=14∨14<c:=by omega
  refine fun _=>jJ (i:=2) (most:=(se.length:Int)) (by omega) ?_
  rcases hc with rfl|rfl|rfl|rfl|rfl|rfl|rfl|rfl|rfl|hc
  ·clear h0 h5 r0
   have q7:((6:Int)=7)=False:=by decide
   have q8:((6:Int)=8)=False:=by decide
   have q9:((6:Int)=9)=False:=by decide
   have q10:((6:Int)=10)=False:=by decide
   have q11:((6:Int)=11)=False:=by decide
   have q12:((6:Int)=12)=False:=by decide
   have q13:((6:Int)=13)=False:=by decide
   have q14:((6:Int)=14)=False:=by decide
   rw [if_pos (by omega)] at h
   simp+contextual only [hx,hd,qi,qm,qk,qg,qh,n12,n13,n23,sa,sb,sc,he1,he2,he3,n14,n24,n34,n15,n25,n35,n45,q7,q8,q9,q10,q11,q12,q13,q14,↓yo,↓XP,↓XU,qn,XW1,qa,qb,qc,qd,qe,qf,reduceCtorEq]
   refine fun _=>⟨by omega,by omega,?_⟩
   rintro b6 ⟨n56,n46,n36,n26,n16,h6⟩
   refine ⟨_,fun _ _=>ku (n:=2) ⟨rfl,rfl⟩,?_⟩
   simp+contextual only [hx,hd,qi,qm,qk,qg,qh,n12,n13,n23,sa,sb,sc,he1,he2,he3,n14,n24,n34,n15,n25,n35,n45,n16,n26,n36,n46,n56,q7,q8,q9,q10,q11,q12,q13,q14,↓yo,↓XP,↓XU,qn,XW1,qa,qb,qc,qd,qe,qf,reduceCtorEq]
   refine fun _=>⟨_,fun _ _=>wP (p:=p) (on:=ent) (m:=m.drop 2) (by omega) ⟨rfl,rfl⟩,?_⟩
   generalize meaning p ent (m.drop 2)=p3 at h ⊢
   have hd3:=@dE p3
   simp+contextual only [hd3,hx,hd,qi,qm,qk,qg,qh,n12,n13,n23,sa,sb,sc,he1,he2,he3,n14,n24,n34,n15,n25,n35,n45,n16,n26,n36,n46,n56,q7,q8,q9,q10,q11,q12,q13,q14,↓yo,↓XP,↓XU,qn,XW1,qa,qb,qc,qd,qe,qf,reduceCtorEq]
   intros
   exact h
  ·clear h0 h5 r0
   have q6:((7:Int)=6)=False:=by decide
   have q8:((7:Int)=8)=False:=by decide
   have q9:((7:Int)=9)=False:=by decide
   have q10:((7:Int)=10)=False:=by decide
   have q11:((7:Int)=11)=False:=by decide
   have q12:((7:Int)=12)=False:=by decide
   have q13:((7:Int)=13)=False:=by decide
   have q14:((7:Int)=14)=False:=by decide
   rw [if_neg (by omega),if_pos (by omega)] at h
   simp+contextual only [hx,hd,qi,qm,qk,qg,qh,n12,n13,n23,sa,sb,sc,he1,he2,he3,n14,n24,n34,n15,n25,n35,n45,q6,q8,q9,q10,q11,q12,q13,q14,↓yo,↓XP,↓XU,qn,XW1,qa,qb,qc,qd,qe,qf,reduceCtorEq]
   refine fun _=>⟨by omega,by omega,?_⟩
   rintro b6 ⟨n56,n46,n36,n26,n16,h6⟩
   refine ⟨_,fun _ _=>ku (n:=2) ⟨rfl,rfl⟩,?_⟩
   simp+contextual only [hx,hd,qi,qm,qk,qg,qh,n12,n13,n23,sa,sb,sc,he1,he2,he3,n14,n24,n34,n15,n25,n35,n45,n16,n26,n36,n46,n56,q6,q8,q9,q10,q11,q12,q13,q14,↓yo,↓XP,↓XU,qn,XW1,qa,qb,qc,qd,qe,qf,reduceCtorEq]
   refine fun _=>⟨_,fun _ _=>wP (p:=p) (on:=sen) (m:=m.drop 2) (by omega) ⟨rfl,rfl⟩,?_⟩
   generalize meaning p sen (m.drop 2)=p3 at h ⊢
   have hd3:=@dE p3
   simp+contextual only [hd3,hx,hd,qi,qm,qk,qg,qh,n12,n13,n23,sa,sb,sc,he1,he2,he3,n14,n24,n34,n15,n25,n35,n45,n16,n26,n36,n46,n56,q6,q8,q9,q10,q11,q12,q13,q14,↓yo,↓XP,↓XU,qn,XW1,qa,qb,qc,qd,qe,qf,reduceCtorEq]
   intros
   exact h
  ·clear h0 h5 r0
   have q6:((8:Int)=6)=False:=by decide
   have q7:((8:Int)=7)=False:=by decide
   have q9:((8:Int)=9)=False:=by decide
   have q10:((8:Int)=10)=False:=by decide
   have q11:((8:Int)=11)=False:=by decide
   have q12:((8:Int)=12)=False:=by decide
   have q13:((8:Int)=13)=False:=by decide
   have q14:((8:Int)=14)=False:=by decide
   rw [if_neg (by omega),if_neg (by omega),if_pos (by omega)] at h
   simp+contextual only [hx,hd,qi,qm,qk,qg,qh,n12,n13,n23,sa,sb,sc,he1,he2,he3,n14,n24,n34,n15,n25,n35,n45,q6,q7,q9,q10,q11,q12,q13,q14,↓yo,↓XP,↓XU,qn,XW1,qa,qb,qc,qd,qe,qf,reduceCtorEq]
   refine fun _=>⟨by omega,by omega,?_⟩
   rintro b6 ⟨n56,n46,n36,n26,n16,h6⟩
   refine ⟨_,fun _ _=>ku (n:=2) ⟨rfl,rfl⟩,?_⟩
   simp+contextual only [hx,hd,qi,qm,qk,qg,qh,n12,n13,n23,sa,sb,sc,he1,he2,he3,n14,n24,n34,n15,n25,n35,n45,n16,n26,n36,n46,n56,q6,q7,q9,q10,q11,q12,q13,q14,↓yo,↓XP,↓XU,qn,XW1,qa,qb,qc,qd,qe,qf,reduceCtorEq]
   refine fun _=>⟨_,fun _ _=>Y3 (x:=x) (p:=p) (sense:=sen) (m:=m.drop 2) hs hb ho (by omega) ⟨rfl,rfl⟩,?_⟩
   generalize quoted x seen p sen (m.drop 2)=p3 at h ⊢
   have hd3:=@dE p3
   simp+contextual only [hd3,hx,hd,qi,qm,qk,qg,qh,n12,n13,n23,sa,sb,sc,he1,he2,he3,n14,n24,n34,n15,n25,n35,n45,n16,n26,n36,n46,n56,q6,q7,q9,q10,q11,q12,q13,q14,↓yo,↓XP,↓XU,qn,XW1,qa,qb,qc,qd,qe,qf,reduceCtorEq]
   intros
   exact h
  ·clear h0 h5 r0
   have q6:((9:Int)=6)=False:=by decide
   have q7:((9:Int)=7)=False:=by decide
   have q8:((9:Int)=8)=False:=by decide
   have q10:((9:Int)=10)=False:=by decide
   have q11:((9:Int)=11)=False:=by decide
   have q12:((9:Int)=12)=False:=by decide
   have q13:((9:Int)=13)=False:=by decide
   have q14:((9:Int)=14)=False:=by decide
   rw [if_neg (by omega),if_neg (by omega),if_pos (by omega)] at h
   simp+contextual only [hx,hd,qi,qm,qk,qg,qh,n12,n13,n23,sa,sb,sc,he1,he2,he3,n14,n24,n34,n15,n25,n35,n45,q6,q7,q8,q10,q11,q12,q13,q14,↓yo,↓XP,↓XU,qn,XW1,qa,qb,qc,qd,qe,qf,reduceCtorEq]
   refine fun _=>⟨by omega,by omega,?_⟩
   rintro b6 ⟨n56,n46,n36,n26,n16,h6⟩
   refine ⟨_,fun _ _=>ku (n:=2) ⟨rfl,rfl⟩,?_⟩
   simp+contextual only [hx,hd,qi,qm,qk,qg,qh,n12,n13,n23,sa,sb,sc,he1,he2,he3,n14,n24,n34,n15,n25,n35,n45,n16,n26,n36,n46,n56,q6,q7,q8,q10,q11,q12,q13,q14,↓yo,↓XP,↓XU,qn,XW1,qa,qb,qc,qd,qe,qf,reduceCtorEq]
   refine fun _=>⟨_,fun _ _=>Y3 (x:=x) (p:=p) (sense:=sen) (m:=m.drop 2) hs hb ho (by omega) ⟨rfl,rfl⟩,?_⟩
   generalize quoted x seen p sen (m.drop 2)=p3 at h ⊢
   have hd3:=@dE p3
   simp+contextual only [hd3,hx,hd,qi,qm,qk,qg,qh,n12,n13,n23,sa,sb,sc,he1,he2,he3,n14,n24,n34,n15,n25,n35,n45,n16,n26,n36,n46,n56,q6,q7,q8,q10,q11,q12,q13,q14,↓yo,↓XP,↓XU,qn,XW1,qa,qb,qc,qd,qe,qf,reduceCtorEq]
   intros
   exact h
  ·clear h0 h5 r0
   have q6:((10:Int)=6)=False:=by decide
   have q7:((10:Int)=7)=False:=by decide
   have q8:((10:Int)=8)=False:=by decide
   have q9:((10:Int)=9)=False:=by decide
   have q11:((10:Int)=11)=False:=by decide
   have q12:((10:Int)=12)=False:=by decide
   have q13:((10:Int)=13)=False:=by decide
   have q14:((10:Int)=14)=False:=by decide
   rw [if_neg (by omega),if_neg (by omega),if_neg (by omega),if_pos (by omega)] at h
   simp+contextual only [hx,hd,qi,qm,qk,qg,qh,n12,n13,n23,sa,sb,sc,he1,he2,he3,n14,n24,n34,n15,n25,n35,n45,q6,q7,q8,q9,q11,q12,q13,q14,↓yo,↓XP,↓XU,qn,XW1,qa,qb,qc,qd,qe,qf,reduceCtorEq]
   refine fun _=>⟨by omega,by omega,?_⟩
   rintro b6 ⟨n56,n46,n36,n26,n16,h6⟩
   refine ⟨_,fun _ _=>ku (n:=2) ⟨rfl,rfl⟩,?_⟩
   simp+contextual only [hx,hd,qi,qm,qk,qg,qh,n12,n13,n23,sa,sb,sc,he1,he2,he3,n14,n24,n34,n15,n25,n35,n45,n16,n26,n36,n46,n56,q6,q7,q8,q9,q11,q12,q13,q14,↓yo,↓XP,↓XU,qn,XW1,qa,qb,qc,qd,qe,qf,reduceCtorEq]
   refine fun _=>⟨_,fun _ _=>VZ (p:=p) (entry:=ent) (sense:=sen) (m:=m.drop 2) (by omega) ⟨rfl,rfl⟩,?_⟩
   generalize divided p ent sen (m.drop 2)=p3 at h ⊢
   have hd3:=@dE p3
   simp+contextual only [hd3,hx,hd,qi,qm,qk,qg,qh,n12,n13,n23,sa,sb,sc,he1,he2,he3,n14,n24,n34,n15,n25,n35,n45,n16,n26,n36,n46,n56,q6,q7,q8,q9,q11,q12,q13,q14,↓yo,↓XP,↓XU,qn,XW1,qa,qb,qc,qd,qe,qf,reduceCtorEq]
   intros
   exact h
  ·clear h0 h5 r0
   have q6:((11:Int)=6)=False:=by decide
   have q7:((11:Int)=7)=False:=by decide
   have q8:((11:Int)=8)=False:=by decide
   have q9:((11:Int)=9)=False:=by decide
   have q10:((11:Int)=10)=False:=by decide
   have q12:((11:Int)=12)=False:=by decide
   have q13:((11:Int)=13)=False:=by decide
   have q14:((11:Int)=14)=False:=by decide
   rw [if_neg (by omega),if_neg (by omega),if_neg (by omega),if_neg (by omega),if_pos (by omega)] at h
   simp+contextual only [hx,hd,qi,qm,qk,qg,qh,n12,n13,n23,sa,sb,sc,he1,he2,he3,n14,n24,n34,n15,n25,n35,n45,q6,q7,q8,q9,q10,q12,q13,q14,↓yo,↓XP,↓XU,qn,XW1,qa,qb,qc,qd,qe,qf,reduceCtorEq]
   refine fun _=>⟨by omega,by omega,?_⟩
   rintro b6 ⟨n56,n46,n36,n26,n16,h6⟩
   rw [id_eq]
   refine ⟨fun hq=>?_,fun hq=>?_⟩
   ·rw [if_neg (of_decide_eq_false hq)] at h
    refine kv (p:=p) (o:={jI with k:=17,on:=sen,to:=oth}) (by omega) ?_
    generalize qV p {jI with k:=17,on:=sen,to:=oth}=p3 at h ⊢
    have hd3:=@dE p3
    simp+contextual only [hd3,hx,hd,qi,qm,qk,qg,qh,n12,n13,n23,sa,sb,sc,he1,he2,he3,n14,n24,n34,n15,n25,n35,n45,n16,n26,n36,n46,n56,q6,q7,q8,q9,q10,q12,q13,q14,↓yo,↓XP,↓XU,qn,XW1,qa,qb,qc,qd,qe,qf,reduceCtorEq]
    intros
    exact h
   ·rw [if_pos (of_decide_eq_true hq)] at h
    unfold yj at h
    refine ⟨by decide,_,fun _ _=>ku (n:=1) ⟨rfl,rfl⟩,?_⟩
    simp+contextual only [hx,hd,qi,qm,qk,qg,qh,n12,n13,n23,sa,sb,sc,he1,he2,he3,n14,n24,n34,n15,n25,n35,n45,n16,n26,n36,n46,n56,q6,q7,q8,q9,q10,q12,q13,q14,↓yo,↓XP,↓XU,qn,XW1,qa,qb,qc,qd,qe,qf,reduceCtorEq]
    refine fun _=>⟨_,fun _ _=>gy (sense:=sen) (other:=oth) (n:=((11:Int).tmod 11)) (m:=m.drop 1) ⟨rfl,rfl⟩,?_⟩
    generalize small sen oth ((11:Int).tmod 11) (m.drop 1)=o at h ⊢
    have hod:o.d= [.int .i64 o.k,.int .i64 o.on.o,.int .i64 o.on.s,.int .i64 o.on.i,.int .i64 o.to.o,.int .i64 o.to.s,.int .i64 o.to.i,.slc (qI o.ids),.int .i64 o.n,.str o.name,.str o.text,.int .i64 o.a,.int .i64 o.b]:=rfl
    simp+contextual only [hod,hx,hd,qi,qm,qk,qg,qh,n12,n13,n23,sa,sb,sc,he1,he2,he3,n14,n24,n34,n15,n25,n35,n45,n16,n26,n36,n46,n56,q6,q7,q8,q9,q10,q12,q13,q14,↓yo,↓XP,↓XU,qn,XW1,qa,qb,qc,qd,qe,qf,reduceCtorEq]
    refine ⟨_,fun _ _=>kv (p:=p) (o:=o) (by omega) ⟨rfl,rfl⟩,?_⟩
    generalize qV p o=p3 at h ⊢
    have hd3:=@dE p3
    simp+contextual only [hd3,hx,hd,qi,qm,qk,qg,qh,n12,n13,n23,sa,sb,sc,he1,he2,he3,n14,n24,n34,n15,n25,n35,n45,n16,n26,n36,n46,n56,q6,q7,q8,q9,q10,q12,q13,q14,↓yo,↓XP,↓XU,qn,XW1,qa,qb,qc,qd,qe,qf,reduceCtorEq]
    intros
    exact h
  ·clear h0 h5 r0
   have q6:((12:Int)=6)=False:=by decide
   have q7:((12:Int)=7)=False:=by decide
   have q8:((12:Int)=8)=False:=by decide
   have q9:((12:Int)=9)=False:=by decide
   have q10:((12:Int)=10)=False:=by decide
   have q11:((12:Int)=11)=False:=by decide
   have q13:((12:Int)=13)=False:=by decide
   have q14:((12:Int)=14)=False:=by decide
   rw [if_neg (by omega),if_neg (by omega),if_neg (by omega),if_neg (by omega),if_neg (by omega),if_pos (by omega)] at h
   simp+contextual only [hx,hd,qi,qm,qk,qg,qh,n12,n13,n23,sa,sb,sc,he1,he2,he3,n14,n24,n34,n15,n25,n35,n45,q6,q7,q8,q9,q10,q11,q13,q14,↓yo,↓XP,↓XU,qn,XW1,qa,qb,qc,qd,qe,qf,reduceCtorEq]
   refine fun _=>⟨by omega,by omega,?_⟩
   rintro b6 ⟨n56,n46,n36,n26,n16,h6⟩
   refine ZC (x:=x) (p:=p) hs hb ho (by omega) ?_
   have hspl:(splits x seen p).length≤101000:=spl_len ho hb (by omega)
   generalize splits x seen p=spl at h hsp hspl ⊢
   simp+contextual only [hx,hd,qi,qm,qk,qg,qh,n12,n13,n23,sa,sb,sc,he1,he2,he3,n14,n24,n34,n15,n25,n35,n45,n16,n26,n36,n46,n56,q6,q7,q8,q9,q10,q11,q13,q14,↓yo,↓XP,↓XU,qn,XW1,qa,qb,qc,qd,qe,qf,reduceCtorEq]
   refine fun _=>⟨fun hl0=>?_,fun hl0=>?_⟩
   ·rw [if_neg (by omega)] at h
    have rd:=qv (l:=m) (i:=3) (most:=(spl.length:Int)) (by omega)
    have hlt:jG m 3 spl.length<spl.length:=by unfold jG;omega
    have sd:(qE spl).getD (qB m 3 spl.length).toNat []=(spl.getD (jG m 3 spl.length) default).d:=ke hlt
    have hi2:(spl.getD (jG m 3 spl.length) default).ids.length=2:=hsp _ (by rw [js hlt];exact List.getElem_mem _)
    generalize spl.getD (jG m 3 spl.length) default=o at h sd hi2
    have hod:o.d= [.int .i64 o.k,.int .i64 o.on.o,.int .i64 o.on.s,.int .i64 o.on.i,.int .i64 o.to.o,.int .i64 o.to.s,.int .i64 o.to.i,.slc (qI o.ids),.int .i64 o.n,.str o.name,.str o.text,.int .i64 o.a,.int .i64 o.b]:=rfl
    refine jJ (i:=3) (most:=(spl.length:Int)) (by omega) ?_
    simp+contextual only [sd,hod,hx,hd,qi,qm,qk,qg,qh,n12,n13,n23,sa,sb,sc,he1,he2,he3,n14,n24,n34,n15,n25,n35,n45,n16,n26,n36,n46,n56,q6,q7,q8,q9,q10,q11,q13,q14,↓yo,↓XP,↓XU,qn,XW1,qa,qb,qc,qd,qe,qf,reduceCtorEq]
    refine fun _=>⟨by omega,by omega,?_⟩
    rintro b7 ⟨n67,n57,n47,n37,n27,n17,h7⟩
    have rf:=qv (l:=m) (i:=4) (most:=(o.ids.length:Int)) (by omega)
    have hlf:jG m 4 o.ids.length<o.ids.length:=by unfold jG;omega
    have sf:(qI o.ids).getD (qB m 4 o.ids.length).toNat []=(o.ids.getD (jG m 4 o.ids.length) default).d:=kL hlf
    generalize o.ids.getD (jG m 4 o.ids.length) default=it at h sf
    have hit:it.d= [.int .i64 it.o,.int .i64 it.s,.int .i64 it.i]:=rfl
    refine fun _=>⟨_,fun _ _=>jJ (i:=4) (most:=(o.ids.length:Int)) (by omega) ⟨rfl,rfl⟩,?_⟩
    simp+contextual only [hx,hd,qi,qm,qk,qg,qh,n12,n13,n23,sa,sb,sc,he1,he2,he3,n14,n24,n34,n15,n25,n35,n45,n16,n26,n36,n46,n56,q6,q7,q8,q9,q10,q11,q13,q14,sf,hit,hod,Gk,n17,n27,n37,n47,n57,n67,↓yo,↓XP,↓XU,qn,XW1,qa,qb,qc,qd,qe,qf,reduceCtorEq]
    refine fun _=>⟨by omega,by omega,?_⟩
    refine ⟨_,fun _ _=>kv (p:=p) (o:={jI with k:=18,on:=sen,to:=o.on,ids:= [it]}) (by omega) ⟨rfl,rfl⟩,?_⟩
    generalize qV p {jI with k:=18,on:=sen,to:=o.on,ids:= [it]}=p3 at h ⊢
    have hd3:=@dE p3
    simp+contextual only [hd3,hx,hd,qi,qm,qk,qg,qh,n12,n13,n23,sa,sb,sc,he1,he2,he3,n14,n24,n34,n15,n25,n35,n45,n16,n26,n36,n46,n56,q6,q7,q8,q9,q10,q11,q13,q14,sf,hit,hod,Gk,n17,n27,n37,n47,n57,n67,↓yo,↓XP,↓XU,qn,XW1,qa,qb,qc,qd,qe,qf,reduceCtorEq]
    intros
    exact h
   ·rw [if_pos (by omega)] at h
    unfold yj at h
    refine ⟨by decide,_,fun _ _=>ku (n:=1) ⟨rfl,rfl⟩,?_⟩
    simp+contextual only [hx,hd,qi,qm,qk,qg,qh,n12,n13,n23,sa,sb,sc,he1,he2,he3,n14,n24,n34,n15,n25,n35,n45,n16,n26,n36,n46,n56,q6,q7,q8,q9,q10,q11,q13,q14,↓yo,↓XP,↓XU,qn,XW1,qa,qb,qc,qd,qe,qf,reduceCtorEq]
    refine fun _=>⟨_,fun _ _=>gy (sense:=sen) (other:=oth) (n:=((12:Int).tmod 11)) (m:=m.drop 1) ⟨rfl,rfl⟩,?_⟩
    generalize small sen oth ((12:Int).tmod 11) (m.drop 1)=o at h ⊢
    have hod:o.d= [.int .i64 o.k,.int .i64 o.on.o,.int .i64 o.on.s,.int .i64 o.on.i,.int .i64 o.to.o,.int .i64 o.to.s,.int .i64 o.to.i,.slc (qI o.ids),.int .i64 o.n,.str o.name,.str o.text,.int .i64 o.a,.int .i64 o.b]:=rfl
    simp+contextual only [hod,hx,hd,qi,qm,qk,qg,qh,n12,n13,n23,sa,sb,sc,he1,he2,he3,n14,n24,n34,n15,n25,n35,n45,n16,n26,n36,n46,n56,q6,q7,q8,q9,q10,q11,q13,q14,↓yo,↓XP,↓XU,qn,XW1,qa,qb,qc,qd,qe,qf,reduceCtorEq]
    refine ⟨_,fun _ _=>kv (p:=p) (o:=o) (by omega) ⟨rfl,rfl⟩,?_⟩
    generalize qV p o=p3 at h ⊢
    have hd3:=@dE p3
    simp+contextual only [hd3,hx,hd,qi,qm,qk,qg,qh,n12,n13,n23,sa,sb,sc,he1,he2,he3,n14,n24,n34,n15,n25,n35,n45,n16,n26,n36,n46,n56,q6,q7,q8,q9,q10,q11,q13,q14,↓yo,↓XP,↓XU,qn,XW1,qa,qb,qc,qd,qe,qf,reduceCtorEq]
    intros
    exact h
  ·clear h0 h5 r0
   have q6:((13:Int)=6)=False:=by decide
   have q7:((13:Int)=7)=False:=by decide
   have q8:((13:Int)=8)=False:=by decide
   have q9:((13:Int)=9)=False:=by decide
   have q10:((13:Int)=10)=False:=by decide
   have q11:((13:Int)=11)=False:=by decide
   have q12:((13:Int)=12)=False:=by decide
   have q14:((13:Int)=14)=False:=by decide
   rw [if_neg (by omega),if_neg (by omega),if_neg (by omega),if_neg (by omega),if_neg (by omega),if_neg (by omega),if_pos (by omega)] at h
   simp+contextual only [hx,hd,qi,qm,qk,qg,qh,n12,n13,n23,sa,sb,sc,he1,he2,he3,n14,n24,n34,n15,n25,n35,n45,q6,q7,q8,q9,q10,q11,q12,q14,↓yo,↓XP,↓XU,qn,XW1,qa,qb,qc,qd,qe,qf,reduceCtorEq]
   refine fun _=>⟨by omega,by omega,?_⟩
   rintro b6 ⟨n56,n46,n36,n26,n16,h6⟩
   refine jJ (i:=2) (by omega) ?_
   simp+contextual only [hx,hd,qi,qm,qk,qg,qh,n12,n13,n23,sa,sb,sc,he1,he2,he3,n14,n24,n34,n15,n25,n35,n45,n16,n26,n36,n46,n56,q6,q7,q8,q9,q10,q11,q12,q14,↓yo,↓XP,↓XU,qn,XW1,qa,qb,qc,qd,qe,qf,reduceCtorEq]
   refine fun _=>⟨fun hq=>?_,fun hq=>?_⟩
   ·rw [if_pos (by omega)] at h
    refine ⟨_,fun _ _=>gm ⟨rfl,rfl⟩,?_⟩
    simp+contextual only [hx,hd,qi,qm,qk,qg,qh,n12,n13,n23,sa,sb,sc,he1,he2,he3,n14,n24,n34,n15,n25,n35,n45,n16,n26,n36,n46,n56,q6,q7,q8,q9,q10,q11,q12,q14,s38,l8,qK,↓yo,↓XP,↓XU,qn,XW1,qa,qb,qc,qd,qe,qf,reduceCtorEq]
    refine fun _=>⟨_,fun _ _=>jJ (i:=3) (by omega) ⟨rfl,rfl⟩,?_⟩
    simp+contextual only [hx,hd,qi,qm,qk,qg,qh,n12,n13,n23,sa,sb,sc,he1,he2,he3,n14,n24,n34,n15,n25,n35,n45,n16,n26,n36,n46,n56,q6,q7,q8,q9,q10,q11,q12,q14,s38,l8,qK,↓yo,↓XP,↓XU,qn,XW1,qa,qb,qc,qd,qe,qf,reduceCtorEq]
    refine fun _=>⟨by omega,by omega,fun _=>?_⟩
    refine ⟨_,fun _ _=>kv (p:=p) (o:={jI with k:=5,on:=ent,text:=heads8.getD (jG m 3 8) []}) (by omega) ⟨rfl,rfl⟩,?_⟩
    generalize qV p {jI with k:=5,on:=ent,text:=heads8.getD (jG m 3 8) []}=p3 at h ⊢
    have hd3:=@dE p3
    simp+contextual only [hd3,hx,hd,qi,qm,qk,qg,qh,n12,n13,n23,sa,sb,sc,he1,he2,he3,n14,n24,n34,n15,n25,n35,n45,n16,n26,n36,n46,n56,q6,q7,q8,q9,q10,q11,q12,q14,s38,l8,qK,↓yo,↓XP,↓XU,qn,XW1,qa,qb,qc,qd,qe,qf,reduceCtorEq]
    intros
    exact h
   ·rw [if_neg (by omega)] at h
    refine ⟨_,fun _ _=>jJ (i:=3) (by omega) ⟨rfl,rfl⟩,?_⟩
    simp+contextual only [hx,hd,qi,qm,qk,qg,qh,n12,n13,n23,sa,sb,sc,he1,he2,he3,n14,n24,n34,n15,n25,n35,n45,n16,n26,n36,n46,n56,q6,q7,q8,q9,q10,q11,q12,q14,s32,l2,e2,qK,↓yo,↓XP,↓XU,qn,XW1,qa,qb,qc,qd,qe,qf,reduceCtorEq]
    refine fun _=>⟨by omega,by omega,fun _=>?_⟩
    refine ⟨_,fun _ _=>kv (p:=p) (o:={jI with k:=6,on:=ent,name:=cls2.getD (jG m 3 2) []}) (by omega) ⟨rfl,rfl⟩,?_⟩
    generalize qV p {jI with k:=6,on:=ent,name:=cls2.getD (jG m 3 2) []}=p3 at h ⊢
    have hd3:=@dE p3
    simp+contextual only [hd3,hx,hd,qi,qm,qk,qg,qh,n12,n13,n23,sa,sb,sc,he1,he2,he3,n14,n24,n34,n15,n25,n35,n45,n16,n26,n36,n46,n56,q6,q7,q8,q9,q10,q11,q12,q14,s32,l2,e2,qK,↓yo,↓XP,↓XU,qn,XW1,qa,qb,qc,qd,qe,qf,reduceCtorEq]
    intros
    exact h
  ·clear h0 h5 r0
   have q6:((14:Int)=6)=False:=by decide
   have q7:((14:Int)=7)=False:=by decide
   have q8:((14:Int)=8)=False:=by decide
   have q9:((14:Int)=9)=False:=by decide
   have q10:((14:Int)=10)=False:=by decide
   have q11:((14:Int)=11)=False:=by decide
   have q12:((14:Int)=12)=False:=by decide
   have q13:((14:Int)=13)=False:=by decide
   rw [if_neg (by omega),if_neg (by omega),if_neg (by omega),if_neg (by omega),if_neg (by omega),if_neg (by omega),if_neg (by omega),if_pos (by omega)] at h
   simp+contextual only [hx,hd,qi,qm,qk,qg,qh,n12,n13,n23,sa,sb,sc,he1,he2,he3,n14,n24,n34,n15,n25,n35,n45,q6,q7,q8,q9,q10,q11,q12,q13,↓yo,↓XP,↓XU,qn,XW1,qa,qb,qc,qd,qe,qf,reduceCtorEq]
   refine fun _=>⟨by omega,by omega,?_⟩
   rintro b6 ⟨n56,n46,n36,n26,n16,h6⟩
   refine uS (x:=x) (p:=p) hs hb ho (by omega) ?_
   generalize visible x seen p 3=src at h hvl3 ⊢
   simp+contextual only [hx,hd,qi,qm,qk,qg,qh,n12,n13,n23,sa,sb,sc,he1,he2,he3,n14,n24,n34,n15,n25,n35,n45,n16,n26,n36,n46,n56,q6,q7,q8,q9,q10,q11,q12,q13,↓yo,↓XP,↓XU,qn,XW1,qa,qb,qc,qd,qe,qf,reduceCtorEq]
   refine fun _=>⟨fun hl0=>?_,fun hl0=>?_⟩
   ·rw [if_neg (by omega)] at h
    have w1:IntKind.i64.wrap (500*qB m 3 60)=500*qB m 3 60:=qJ (by omega) (by omega)
    have w2:IntKind.i64.wrap (600000+500*qB m 3 60)=600000+500*qB m 3 60:=qJ (by omega) (by omega)
    have w3:IntKind.i64.wrap (600000+500*qB m 3 60+99)=600000+500*qB m 3 60+99:=qJ (by omega) (by omega)
    have rd:=qv (l:=m) (i:=2) (most:=(src.length:Int)) (by omega)
    have hlt:jG m 2 src.length<src.length:=by unfold jG;omega
    have sd:(qI src).getD (qB m 2 src.length).toNat []=(src.getD (jG m 2 src.length) default).d:=kL hlt
    generalize src.getD (jG m 2 src.length) default=it at h sd
    have hit:it.d= [.int .i64 it.o,.int .i64 it.s,.int .i64 it.i]:=rfl
    refine jJ (i:=3) (by omega) ?_
    simp+contextual only [hx,hd,qi,qm,qk,qg,qh,n12,n13,n23,sa,sb,sc,he1,he2,he3,n14,n24,n34,n15,n25,n35,n45,n16,n26,n36,n46,n56,q6,q7,q8,q9,q10,q11,q12,q13,sd,hit,w1,w2,w3,↓yo,↓XP,↓XU,qn,XW1,qa,qb,qc,qd,qe,qf,reduceCtorEq]
    refine fun _ _=>⟨_,fun _ _=>jJ (i:=2) (most:=(src.length:Int)) (by omega) ⟨rfl,rfl⟩,?_⟩
    simp+contextual only [hx,hd,qi,qm,qk,qg,qh,n12,n13,n23,sa,sb,sc,he1,he2,he3,n14,n24,n34,n15,n25,n35,n45,n16,n26,n36,n46,n56,q6,q7,q8,q9,q10,q11,q12,q13,sd,hit,w1,w2,w3,↓yo,↓XP,↓XU,qn,XW1,qa,qb,qc,qd,qe,qf,reduceCtorEq]
    refine fun _=>⟨by omega,by omega,?_⟩
    refine ⟨_,fun _ _=>kv (p:=p) (o:={jI with k:=11,on:=it,a:=600000+500*qB m 3 60,b:=600000+500*qB m 3 60+99}) (by omega) ⟨rfl,rfl⟩,?_⟩
    generalize qV p {jI with k:=11,on:=it,a:=600000+500*qB m 3 60,b:=600000+500*qB m 3 60+99}=p3 at h ⊢
    have hd3:=@dE p3
    simp+contextual only [hd3,hx,hd,qi,qm,qk,qg,qh,n12,n13,n23,sa,sb,sc,he1,he2,he3,n14,n24,n34,n15,n25,n35,n45,n16,n26,n36,n46,n56,q6,q7,q8,q9,q10,q11,q12,q13,sd,hit,w1,w2,w3,↓yo,↓XP,↓XU,qn,XW1,qa,qb,qc,qd,qe,qf,reduceCtorEq]
    intros
    exact h
   ·rw [if_pos (by omega)] at h
    unfold yj at h
    refine ⟨by decide,_,fun _ _=>ku (n:=1) ⟨rfl,rfl⟩,?_⟩
    simp+contextual only [hx,hd,qi,qm,qk,qg,qh,n12,n13,n23,sa,sb,sc,he1,he2,he3,n14,n24,n34,n15,n25,n35,n45,n16,n26,n36,n46,n56,q6,q7,q8,q9,q10,q11,q12,q13,↓yo,↓XP,↓XU,qn,XW1,qa,qb,qc,qd,qe,qf,reduceCtorEq]
    refine fun _=>⟨_,fun _ _=>gy (sense:=sen) (other:=oth) (n:=((14:Int).tmod 11)) (m:=m.drop 1) ⟨rfl,rfl⟩,?_⟩
    generalize small sen oth ((14:Int).tmod 11) (m.drop 1)=o at h ⊢
    have hod:o.d= [.int .i64 o.k,.int .i64 o.on.o,.int .i64 o.on.s,.int .i64 o.on.i,.int .i64 o.to.o,.int .i64 o.to.s,.int .i64 o.to.i,.slc (qI o.ids),.int .i64 o.n,.str o.name,.str o.text,.int .i64 o.a,.int .i64 o.b]:=rfl
    simp+contextual only [hod,hx,hd,qi,qm,qk,qg,qh,n12,n13,n23,sa,sb,sc,he1,he2,he3,n14,n24,n34,n15,n25,n35,n45,n16,n26,n36,n46,n56,q6,q7,q8,q9,q10,q11,q12,q13,↓yo,↓XP,↓XU,qn,XW1,qa,qb,qc,qd,qe,qf,reduceCtorEq]
    refine ⟨_,fun _ _=>kv (p:=p) (o:=o) (by omega) ⟨rfl,rfl⟩,?_⟩
    generalize qV p o=p3 at h ⊢
    have hd3:=@dE p3
    simp+contextual only [hd3,hx,hd,qi,qm,qk,qg,qh,n12,n13,n23,sa,sb,sc,he1,he2,he3,n14,n24,n34,n15,n25,n35,n45,n16,n26,n36,n46,n56,q6,q7,q8,q9,q10,q11,q12,q13,↓yo,↓XP,↓XU,qn,XW1,qa,qb,qc,qd,qe,qf,reduceCtorEq]
    intros
    exact h
  ·have q6:(c=6)=False:=eq_false (by omega)
   have q7:(c=7)=False:=eq_false (by omega)
   have q8:(c=8)=False:=eq_false (by omega)
   have q9:(c=9)=False:=eq_false (by omega)
   have q10:(c=10)=False:=eq_false (by omega)
   have q11:(c=11)=False:=eq_false (by omega)
   have q12:(c=12)=False:=eq_false (by omega)
   have q13:(c=13)=False:=eq_false (by omega)
   have q14:(c=14)=False:=eq_false (by omega)
   rw [if_neg (by omega),if_neg (by omega),if_neg (by omega),if_neg (by omega),if_neg (by omega),if_neg (by omega),if_neg (by omega),if_neg (by omega)] at h
   simp+contextual only [hx,hd,qi,qm,qk,qg,qh,n12,n13,n23,sa,sb,sc,he1,he2,he3,n14,n24,n34,n15,n25,n35,n45,q6,q7,q8,q9,q10,q11,q12,q13,q14,↓yo,↓XP,↓XU,qn,XW1,qa,qb,qc,qd,qe,qf,reduceCtorEq]
   refine fun _=>⟨by omega,by omega,?_⟩
   rintro b6 ⟨n56,n46,n36,n26,n16,h6⟩
   unfold yj at h
   refine ⟨by decide,_,fun _ _=>ku (n:=1) ⟨rfl,rfl⟩,?_⟩
   simp+contextual only [hx,hd,qi,qm,qk,qg,qh,n12,n13,n23,sa,sb,sc,he1,he2,he3,n14,n24,n34,n15,n25,n35,n45,n16,n26,n36,n46,n56,q6,q7,q8,q9,q10,q11,q12,q13,q14,↓yo,↓XP,↓XU,qn,XW1,qa,qb,qc,qd,qe,qf,reduceCtorEq]
   refine fun _=>⟨_,fun _ _=>gy (sense:=sen) (other:=oth) (n:=(c.tmod 11)) (m:=m.drop 1) ⟨rfl,rfl⟩,?_⟩
   generalize small sen oth (c.tmod 11) (m.drop 1)=o at h ⊢
   have hod:o.d= [.int .i64 o.k,.int .i64 o.on.o,.int .i64 o.on.s,.int .i64 o.on.i,.int .i64 o.to.o,.int .i64 o.to.s,.int .i64 o.to.i,.slc (qI o.ids),.int .i64 o.n,.str o.name,.str o.text,.int .i64 o.a,.int .i64 o.b]:=rfl
   simp+contextual only [hod,hx,hd,qi,qm,qk,qg,qh,n12,n13,n23,sa,sb,sc,he1,he2,he3,n14,n24,n34,n15,n25,n35,n45,n16,n26,n36,n46,n56,q6,q7,q8,q9,q10,q11,q12,q13,q14,↓yo,↓XP,↓XU,qn,XW1,qa,qb,qc,qd,qe,qf,reduceCtorEq]
   refine ⟨_,fun _ _=>kv (p:=p) (o:=o) (by omega) ⟨rfl,rfl⟩,?_⟩
   generalize qV p o=p3 at h ⊢
   have hd3:=@dE p3
   simp+contextual only [hd3,hx,hd,qi,qm,qk,qg,qh,n12,n13,n23,sa,sb,sc,he1,he2,he3,n14,n24,n34,n15,n25,n35,n45,n16,n26,n36,n46,n56,q6,q7,q8,q9,q10,q11,q12,q13,q14,↓yo,↓XP,↓XU,qn,XW1,qa,qb,qc,qd,qe,qf,reduceCtorEq]
   intros
   exact h
end Go.Proofs.YtpdhandimdibhaaGreatDoor
end
