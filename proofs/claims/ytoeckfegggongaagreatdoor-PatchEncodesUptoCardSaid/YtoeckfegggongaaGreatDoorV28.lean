/- A part of the proof of what the last text says: Gt8, Gt4, Gt5, Gt9, Gu1, Gt7, Gxd. Conditions: those in each theorem. -/
import Derived.Test.YtoeckfegggongaaGreatDoorV27
set_option linter.unusedVariables false
set_option linter.unusedSimpArgs false
set_option maxRecDepth 100000
set_option maxHeartbeats 16000000
open Nat renaming reduceSub → qa,reduceAdd → qb,reduceMul → qc,reduceEqDiff → qd,reduceLeDiff → qe,reduceBEq → qf
section
namespace Go.Proofs.YtoeckfegggongaaGreatDoor
open Go Go.Aw
theorem spB_6 {n : Nat} {p : Pt} {a how bb near : Int} {b b4 b8 m kk : Nat} {F : List D} {H : AH} {R : D → AH → Prop} (hm : around how 20 = 6) (hn : n ≤ 900) (hp : Sz n p) (n48 : b4 ≠ b8) (n4b : b4 ≠ b) (n8b : b8 ≠ b) (hk : kk < p.ops.length) (hF : Fr 278 [(1,.int .i64 a),(2,.int .i64 how),(3,.int .i64 bb),(4,.ptr b4 0),(8,.ptr b8 0),(11,.int .i64 (kk : Int)),(12,.int .i64 near)] F) (h : ∀ q,Sz (n + 14) q → R (.agg q.d) H) : xcode Tryz.prog x6v_s38 F ((b,.cells ((qM p.ops).flatten ++ List.replicate m .any)) :: (b8,.cells [.int .i64 0,.int .i64 0,.int .i64 0,.own [],.own [],.str []]) :: (b4,.cells [.int .i64 p.o,.int .i64 p.s,.int .i64 p.day,.own (qO p.needs),.hsl b p.ops.length,.str p.sl]) :: H) (jN Tryz.prog [(.cell 8 26)] H.length R) := by
 obtain ⟨z,rfl⟩ : ∃ z : Nat → D,_ = z 0 :: .int .i64 a :: .int .i64 how :: .int .i64 bb :: .ptr b4 0 :: zz z 5 3 (.ptr b8 0 :: zz z 9 2 (.int .i64 (kk : Int) :: .int .i64 near :: zz z 13 265 [])) := hF.lit
 try dsimp only [zz,qb] at *
 clear hF
 have hbig := qt
 have wl := wD (rest := List.replicate m .any) hk
 have ho := ke hk
 have o1 := hp.ids _ ho
 have o2 := hp.name _ ho
 have o3 := hp.text _ ho
 obtain ⟨o,eo⟩ : ∃ o,p.ops.getD kk default = o := ⟨_,rfl⟩
 rw [eo] at o1 o2 o3
 simp +contextual only [wg,ql,qj,qg,qi,Int.reduceEq,n48,n4b,n8b,hk,Int.ofNat_lt,List.length_set,↓wO,↓XP,qm,XW1,qa,qb,qc,qd,qe,qf,reduceCtorEq]
 refine qP (by omega) ?_
 rw [hm]
 simp +contextual only [wg,ql,qj,qg,qi,Int.reduceEq,n48,n4b,n8b,hk,Int.ofNat_lt,List.length_set,↓wO,↓XP,qm,XW1,qa,qb,qc,qd,qe,qf,reduceCtorEq]
 refine fun _=>⟨by omega,?_⟩
 have e := wr1 (rest := List.replicate m .any) (v := .int .i64 near) (o' := { o with k := near }) (j := 0) hk (by omega) (by rw [eo]; rfl)
 try rw [Nat.add_zero] at e
 rw [e]
 refine yb (vU n4b n48 (by rw [List.length_set])) ?_
 simp +contextual only [wg,ql,qj,qg,qi,Int.reduceEq,n48,n4b,n8b,hk,Int.ofNat_lt,List.length_set,↓wO,↓XP,qm,XW1,qa,qb,qc,qd,qe,qf,reduceCtorEq]
 exact h { p with ops := p.ops.set kk _ } (hp.setOp (by simp only; omega) (by simp only; omega) (by simp only; omega))
theorem spB_7 {n : Nat} {p : Pt} {a how bb near : Int} {b b4 b8 m kk : Nat} {F : List D} {H : AH} {R : D → AH → Prop} (hm : around how 20 = 7) (hn : n ≤ 900) (hp : Sz n p) (n48 : b4 ≠ b8) (n4b : b4 ≠ b) (n8b : b8 ≠ b) (hk : kk < p.ops.length) (hF : Fr 278 [(1,.int .i64 a),(2,.int .i64 how),(3,.int .i64 bb),(4,.ptr b4 0),(8,.ptr b8 0),(11,.int .i64 (kk : Int)),(12,.int .i64 near)] F) (h : ∀ q,Sz (n + 14) q → R (.agg q.d) H) : xcode Tryz.prog x6v_s38 F ((b,.cells ((qM p.ops).flatten ++ List.replicate m .any)) :: (b8,.cells [.int .i64 0,.int .i64 0,.int .i64 0,.own [],.own [],.str []]) :: (b4,.cells [.int .i64 p.o,.int .i64 p.s,.int .i64 p.day,.own (qO p.needs),.hsl b p.ops.length,.str p.sl]) :: H) (jN Tryz.prog [(.cell 8 26)] H.length R) := by
 obtain ⟨z,rfl⟩ : ∃ z : Nat → D,_ = z 0 :: .int .i64 a :: .int .i64 how :: .int .i64 bb :: .ptr b4 0 :: zz z 5 3 (.ptr b8 0 :: zz z 9 2 (.int .i64 (kk : Int) :: .int .i64 near :: zz z 13 265 [])) := hF.lit
 try dsimp only [zz,qb] at *
 clear hF
 have hbig := qt
 have wl := wD (rest := List.replicate m .any) hk
 have ho := ke hk
 have o1 := hp.ids _ ho
 have o2 := hp.name _ ho
 have o3 := hp.text _ ho
 obtain ⟨o,eo⟩ : ∃ o,p.ops.getD kk default = o := ⟨_,rfl⟩
 rw [eo] at o1 o2 o3
 simp +contextual only [wg,ql,qj,qg,qi,Int.reduceEq,n48,n4b,n8b,hk,Int.ofNat_lt,List.length_set,↓wO,↓XP,qm,XW1,qa,qb,qc,qd,qe,qf,reduceCtorEq]
 refine qP (by omega) ?_
 rw [hm]
 simp +contextual only [wg,ql,qj,qg,qi,Int.reduceEq,n48,n4b,n8b,hk,Int.ofNat_lt,List.length_set,↓wO,↓XP,qm,XW1,qa,qb,qc,qd,qe,qf,reduceCtorEq]
 refine fun _=>⟨_,qP (by omega) ⟨rfl,rfl⟩,?_⟩
 simp +contextual only [wg,ql,qj,qg,qi,Int.reduceEq,n48,n4b,n8b,hk,Int.ofNat_lt,List.length_set,↓wO,↓XP,qm,XW1,qa,qb,qc,qd,qe,qf,reduceCtorEq]
 refine fun _=>⟨_,qP (by omega) ⟨rfl,rfl⟩,?_⟩
 simp +contextual only [wg,ql,qj,qg,qi,Int.reduceEq,n48,n4b,n8b,hk,Int.ofNat_lt,List.length_set,↓wO,↓XP,qm,XW1,qa,qb,qc,qd,qe,qf,reduceCtorEq]
 refine fun _=>⟨by omega,?_⟩
 have e := wrC3 (rest := List.replicate m .any) (x := .int .i64 (near)) (y := .int .i64 (around bb 19)) (z := .int .i64 (IntKind.i64.wrap (around (IntKind.i64.wrap (bb.tdiv 5)) 18 - 1))) (o' := { o with on := ⟨near,around bb 19,IntKind.i64.wrap (around (IntKind.i64.wrap (bb.tdiv 5)) 18 - 1)⟩ }) (j := 1) hk (by omega) (by rw [eo]; rfl)
 try rw [Nat.add_zero] at e
 rw [e]
 refine yb (vU n4b n48 (by rw [List.length_set])) ?_
 simp +contextual only [wg,ql,qj,qg,qi,Int.reduceEq,n48,n4b,n8b,hk,Int.ofNat_lt,List.length_set,↓wO,↓XP,qm,XW1,qa,qb,qc,qd,qe,qf,reduceCtorEq]
 exact h { p with ops := p.ops.set kk _ } (hp.setOp (by simp only; omega) (by simp only; omega) (by simp only; omega))
theorem spB_8 {n : Nat} {p : Pt} {a how bb near : Int} {b b4 b8 m kk : Nat} {F : List D} {H : AH} {R : D → AH → Prop} (hm : around how 20 = 8) (hn : n ≤ 900) (hp : Sz n p) (n48 : b4 ≠ b8) (n4b : b4 ≠ b) (n8b : b8 ≠ b) (hk : kk < p.ops.length) (hF : Fr 278 [(1,.int .i64 a),(2,.int .i64 how),(3,.int .i64 bb),(4,.ptr b4 0),(8,.ptr b8 0),(11,.int .i64 (kk : Int)),(12,.int .i64 near)] F) (h : ∀ q,Sz (n + 14) q → R (.agg q.d) H) : xcode Tryz.prog x6v_s38 F ((b,.cells ((qM p.ops).flatten ++ List.replicate m .any)) :: (b8,.cells [.int .i64 0,.int .i64 0,.int .i64 0,.own [],.own [],.str []]) :: (b4,.cells [.int .i64 p.o,.int .i64 p.s,.int .i64 p.day,.own (qO p.needs),.hsl b p.ops.length,.str p.sl]) :: H) (jN Tryz.prog [(.cell 8 26)] H.length R) := by
 obtain ⟨z,rfl⟩ : ∃ z : Nat → D,_ = z 0 :: .int .i64 a :: .int .i64 how :: .int .i64 bb :: .ptr b4 0 :: zz z 5 3 (.ptr b8 0 :: zz z 9 2 (.int .i64 (kk : Int) :: .int .i64 near :: zz z 13 265 [])) := hF.lit
 try dsimp only [zz,qb] at *
 clear hF
 have hbig := qt
 have wl := wD (rest := List.replicate m .any) hk
 have ho := ke hk
 have o1 := hp.ids _ ho
 have o2 := hp.name _ ho
 have o3 := hp.text _ ho
 obtain ⟨o,eo⟩ : ∃ o,p.ops.getD kk default = o := ⟨_,rfl⟩
 rw [eo] at o1 o2 o3
 simp +contextual only [wg,ql,qj,qg,qi,Int.reduceEq,n48,n4b,n8b,hk,Int.ofNat_lt,List.length_set,↓wO,↓XP,qm,XW1,qa,qb,qc,qd,qe,qf,reduceCtorEq]
 refine qP (by omega) ?_
 rw [hm]
 simp +contextual only [wg,ql,qj,qg,qi,Int.reduceEq,n48,n4b,n8b,hk,Int.ofNat_lt,List.length_set,↓wO,↓XP,qm,XW1,qa,qb,qc,qd,qe,qf,reduceCtorEq]
 refine fun _=>⟨_,qP (by omega) ⟨rfl,rfl⟩,?_⟩
 simp +contextual only [wg,ql,qj,qg,qi,Int.reduceEq,n48,n4b,n8b,hk,Int.ofNat_lt,List.length_set,↓wO,↓XP,qm,XW1,qa,qb,qc,qd,qe,qf,reduceCtorEq]
 refine fun _=>⟨_,qP (by omega) ⟨rfl,rfl⟩,?_⟩
 simp +contextual only [wg,ql,qj,qg,qi,Int.reduceEq,n48,n4b,n8b,hk,Int.ofNat_lt,List.length_set,↓wO,↓XP,qm,XW1,qa,qb,qc,qd,qe,qf,reduceCtorEq]
 refine fun _=>⟨by omega,?_⟩
 have e := wrC3 (rest := List.replicate m .any) (x := .int .i64 (around bb 9)) (y := .int .i64 (near)) (z := .int .i64 (IntKind.i64.wrap (around (IntKind.i64.wrap (bb.tdiv 5)) 18 - 1))) (o' := { o with to := ⟨around bb 9,near,IntKind.i64.wrap (around (IntKind.i64.wrap (bb.tdiv 5)) 18 - 1)⟩ }) (j := 4) hk (by omega) (by rw [eo]; rfl)
 try rw [Nat.add_zero] at e
 rw [e]
 refine yb (vU n4b n48 (by rw [List.length_set])) ?_
 simp +contextual only [wg,ql,qj,qg,qi,Int.reduceEq,n48,n4b,n8b,hk,Int.ofNat_lt,List.length_set,↓wO,↓XP,qm,XW1,qa,qb,qc,qd,qe,qf,reduceCtorEq]
 exact h { p with ops := p.ops.set kk _ } (hp.setOp (by simp only; omega) (by simp only; omega) (by simp only; omega))
theorem spB_9 {n : Nat} {p : Pt} {a how bb near : Int} {b b4 b8 m kk : Nat} {F : List D} {H : AH} {R : D → AH → Prop} (hm : around how 20 = 9) (hn : n ≤ 900) (hp : Sz n p) (n48 : b4 ≠ b8) (n4b : b4 ≠ b) (n8b : b8 ≠ b) (hk : kk < p.ops.length) (hF : Fr 278 [(1,.int .i64 a),(2,.int .i64 how),(3,.int .i64 bb),(4,.ptr b4 0),(8,.ptr b8 0),(11,.int .i64 (kk : Int)),(12,.int .i64 near)] F) (h : ∀ q,Sz (n + 14) q → R (.agg q.d) H) : xcode Tryz.prog x6v_s38 F ((b,.cells ((qM p.ops).flatten ++ List.replicate m .any)) :: (b8,.cells [.int .i64 0,.int .i64 0,.int .i64 0,.own [],.own [],.str []]) :: (b4,.cells [.int .i64 p.o,.int .i64 p.s,.int .i64 p.day,.own (qO p.needs),.hsl b p.ops.length,.str p.sl]) :: H) (jN Tryz.prog [(.cell 8 26)] H.length R) := by
 obtain ⟨z,rfl⟩ : ∃ z : Nat → D,_ = z 0 :: .int .i64 a :: .int .i64 how :: .int .i64 bb :: .ptr b4 0 :: zz z 5 3 (.ptr b8 0 :: zz z 9 2 (.int .i64 (kk : Int) :: .int .i64 near :: zz z 13 265 [])) := hF.lit
 try dsimp only [zz,qb] at *
 clear hF
 have hbig := qt
 have wl := wD (rest := List.replicate m .any) hk
 have ho := ke hk
 have o1 := hp.ids _ ho
 have o2 := hp.name _ ho
 have o3 := hp.text _ ho
 obtain ⟨o,eo⟩ : ∃ o,p.ops.getD kk default = o := ⟨_,rfl⟩
 rw [eo] at o1 o2 o3
 simp +contextual only [wg,ql,qj,qg,qi,Int.reduceEq,n48,n4b,n8b,hk,Int.ofNat_lt,List.length_set,↓wO,↓XP,qm,XW1,qa,qb,qc,qd,qe,qf,reduceCtorEq]
 refine qP (by omega) ?_
 rw [hm]
 simp +contextual only [wg,ql,qj,qg,qi,Int.reduceEq,n48,n4b,n8b,hk,Int.ofNat_lt,List.length_set,↓wO,↓XP,qm,XW1,qa,qb,qc,qd,qe,qf,reduceCtorEq]
 refine fun _=>⟨by omega,by rw [rd2 hk (by omega),eo]; rfl,by omega,?_⟩
 rw [rd2 hk (by omega),eo]
 have e := wr2 (rest := List.replicate m .any) (v := List.map D.view1 ((o.d.drop 1).take 3)) (o' := { o with to := o.on }) (j := 4) (m := 3) hk (by omega) (by rw [eo]; rfl)
 try rw [Nat.add_zero] at e
 rw [e]
 refine yb (vU n4b n48 (by rw [List.length_set])) ?_
 simp +contextual only [wg,ql,qj,qg,qi,Int.reduceEq,n48,n4b,n8b,hk,Int.ofNat_lt,List.length_set,↓wO,↓XP,qm,XW1,qa,qb,qc,qd,qe,qf,reduceCtorEq]
 exact h { p with ops := p.ops.set kk _ } (hp.setOp (by simp only; omega) (by simp only; omega) (by simp only; omega))
theorem spB_10 {n : Nat} {p : Pt} {a how bb near : Int} {b b4 b8 m kk : Nat} {F : List D} {H : AH} {R : D → AH → Prop} (hm : around how 20 = 10) (hn : n ≤ 900) (hp : Sz n p) (n48 : b4 ≠ b8) (n4b : b4 ≠ b) (n8b : b8 ≠ b) (hk : kk < p.ops.length) (hF : Fr 278 [(1,.int .i64 a),(2,.int .i64 how),(3,.int .i64 bb),(4,.ptr b4 0),(8,.ptr b8 0),(11,.int .i64 (kk : Int)),(12,.int .i64 near)] F) (h : ∀ q,Sz (n + 14) q → R (.agg q.d) H) : xcode Tryz.prog x6v_s38 F ((b,.cells ((qM p.ops).flatten ++ List.replicate m .any)) :: (b8,.cells [.int .i64 0,.int .i64 0,.int .i64 0,.own [],.own [],.str []]) :: (b4,.cells [.int .i64 p.o,.int .i64 p.s,.int .i64 p.day,.own (qO p.needs),.hsl b p.ops.length,.str p.sl]) :: H) (jN Tryz.prog [(.cell 8 26)] H.length R) := by
 obtain ⟨z,rfl⟩ : ∃ z : Nat → D,_ = z 0 :: .int .i64 a :: .int .i64 how :: .int .i64 bb :: .ptr b4 0 :: zz z 5 3 (.ptr b8 0 :: zz z 9 2 (.int .i64 (kk : Int) :: .int .i64 near :: zz z 13 265 [])) := hF.lit
 try dsimp only [zz,qb] at *
 clear hF
 have hbig := qt
 have wl := wD (rest := List.replicate m .any) hk
 have ho := ke hk
 have o1 := hp.ids _ ho
 have o2 := hp.name _ ho
 have o3 := hp.text _ ho
 obtain ⟨o,eo⟩ : ∃ o,p.ops.getD kk default = o := ⟨_,rfl⟩
 rw [eo] at o1 o2 o3
 simp +contextual only [wg,ql,qj,qg,qi,Int.reduceEq,n48,n4b,n8b,hk,Int.ofNat_lt,List.length_set,↓wO,↓XP,qm,XW1,qa,qb,qc,qd,qe,qf,reduceCtorEq]
 refine qP (by omega) ?_
 rw [hm]
 simp +contextual only [wg,ql,qj,qg,qi,Int.reduceEq,n48,n4b,n8b,hk,Int.ofNat_lt,List.length_set,↓wO,↓XP,qm,XW1,qa,qb,qc,qd,qe,qf,reduceCtorEq]
 refine fun _=>⟨_,qP (by omega) ⟨rfl,rfl⟩,?_⟩
 obtain ⟨r1,r2⟩ := jf (n := bb) (most := 10) (by omega)
 generalize around bb 10 = r at r1 r2 ⊢
 obtain ⟨v,hv,e⟩ := od (l := [-2,-1,0,1,2,1023,1024,1048576,1048577,bb]) r1 r2
 have e' : [[D.int .i64 (-2)],[D.int .i64 (-1)],[D.int .i64 0],[D.int .i64 1],[D.int .i64 2],[D.int .i64 1023],[D.int .i64 1024],[D.int .i64 1048576],[D.int .i64 1048577],[D.int .i64 bb]].getD r.toNat [] = [.int .i64 v] := e
 simp +contextual only [wg,ql,qj,qg,qi,Int.reduceEq,n48,n4b,n8b,hk,Int.ofNat_lt,List.length_set,e',r1,show r < ((10 : Nat) : Int) from r2,↓wO,↓XP,qm,XW1,qa,qb,qc,qd,qe,qf,reduceCtorEq]
 refine fun _ _=>⟨by omega,?_⟩
 have e := wr1 (rest := List.replicate m .any) (v := .int .i64 v) (o' := { o with n := v }) (j := 8) hk (by omega) (by rw [eo]; rfl)
 try rw [Nat.add_zero] at e
 rw [e]
 refine yb (vU n4b n48 (by rw [List.length_set])) ?_
 simp +contextual only [wg,ql,qj,qg,qi,Int.reduceEq,n48,n4b,n8b,hk,Int.ofNat_lt,List.length_set,↓wO,↓XP,qm,XW1,qa,qb,qc,qd,qe,qf,reduceCtorEq]
 exact h { p with ops := p.ops.set kk _ } (hp.setOp (by simp only; omega) (by simp only; omega) (by simp only; omega))
theorem spB_11 {n : Nat} {p : Pt} {a how bb near : Int} {b b4 b8 m kk : Nat} {F : List D} {H : AH} {R : D → AH → Prop} (hm : around how 20 = 11) (hn : n ≤ 900) (hp : Sz n p) (n48 : b4 ≠ b8) (n4b : b4 ≠ b) (n8b : b8 ≠ b) (hk : kk < p.ops.length) (hF : Fr 278 [(1,.int .i64 a),(2,.int .i64 how),(3,.int .i64 bb),(4,.ptr b4 0),(8,.ptr b8 0),(11,.int .i64 (kk : Int)),(12,.int .i64 near)] F) (h : ∀ q,Sz (n + 14) q → R (.agg q.d) H) : xcode Tryz.prog x6v_s38 F ((b,.cells ((qM p.ops).flatten ++ List.replicate m .any)) :: (b8,.cells [.int .i64 0,.int .i64 0,.int .i64 0,.own [],.own [],.str []]) :: (b4,.cells [.int .i64 p.o,.int .i64 p.s,.int .i64 p.day,.own (qO p.needs),.hsl b p.ops.length,.str p.sl]) :: H) (jN Tryz.prog [(.cell 8 26)] H.length R) := by
 obtain ⟨z,rfl⟩ : ∃ z : Nat → D,_ = z 0 :: .int .i64 a :: .int .i64 how :: .int .i64 bb :: .ptr b4 0 :: zz z 5 3 (.ptr b8 0 :: zz z 9 2 (.int .i64 (kk : Int) :: .int .i64 near :: zz z 13 265 [])) := hF.lit
 try dsimp only [zz,qb] at *
 clear hF
 have hbig := qt
 have wl := wD (rest := List.replicate m .any) hk
 have ho := ke hk
 have o1 := hp.ids _ ho
 have o2 := hp.name _ ho
 have o3 := hp.text _ ho
 obtain ⟨o,eo⟩ : ∃ o,p.ops.getD kk default = o := ⟨_,rfl⟩
 rw [eo] at o1 o2 o3
 simp +contextual only [wg,ql,qj,qg,qi,Int.reduceEq,n48,n4b,n8b,hk,Int.ofNat_lt,List.length_set,↓wO,↓XP,qm,XW1,qa,qb,qc,qd,qe,qf,reduceCtorEq]
 refine qP (by omega) ?_
 rw [hm]
 simp +contextual only [wg,ql,qj,qg,qi,Int.reduceEq,n48,n4b,n8b,hk,Int.ofNat_lt,List.length_set,↓wO,↓XP,qm,XW1,qa,qb,qc,qd,qe,qf,reduceCtorEq]
 refine fun _=>⟨_,qP (by omega) ⟨rfl,rfl⟩,?_⟩
 obtain ⟨r1,r2⟩ := jf (n := bb) (most := 18) (by omega)
 generalize around bb 18 = r at r1 r2 ⊢
 simp +contextual only [wg,ql,qj,qg,qi,Int.reduceEq,n48,n4b,n8b,hk,Int.ofNat_lt,List.length_set,↓wO,↓XP,qm,XW1,qa,qb,qc,qd,qe,qf,reduceCtorEq]
 refine fun _=>⟨by omega,by omega,by omega,?_⟩
 have e := wr1 (rest := List.replicate m .any) (v := .str (List.take r.toNat [115,105,120,116,101,101,110,32,108,101,116,116,101,114,115,33,33])) (o' := { o with name := List.take r.toNat [115,105,120,116,101,101,110,32,108,101,116,116,101,114,115,33,33] }) (j := 9) hk (by omega) (by rw [eo]; rfl)
 try rw [Nat.add_zero] at e
 rw [e]
 refine yb (vU n4b n48 (by rw [List.length_set])) ?_
 simp +contextual only [wg,ql,qj,qg,qi,Int.reduceEq,n48,n4b,n8b,hk,Int.ofNat_lt,List.length_set,↓wO,↓XP,qm,XW1,qa,qb,qc,qd,qe,qf,reduceCtorEq]
 exact h { p with ops := p.ops.set kk _ } (hp.setOp (by simp only; omega) (by simp only [List.length_take]; omega) (by simp only; omega))
theorem spB_12 {n : Nat} {p : Pt} {a how bb near : Int} {b b4 b8 m kk : Nat} {F : List D} {H : AH} {R : D → AH → Prop} (hm : around how 20 = 12) (hn : n ≤ 900) (hp : Sz n p) (n48 : b4 ≠ b8) (n4b : b4 ≠ b) (n8b : b8 ≠ b) (hk : kk < p.ops.length) (hF : Fr 278 [(1,.int .i64 a),(2,.int .i64 how),(3,.int .i64 bb),(4,.ptr b4 0),(8,.ptr b8 0),(11,.int .i64 (kk : Int)),(12,.int .i64 near)] F) (h : ∀ q,Sz (n + 14) q → R (.agg q.d) H) : xcode Tryz.prog x6v_s38 F ((b,.cells ((qM p.ops).flatten ++ List.replicate m .any)) :: (b8,.cells [.int .i64 0,.int .i64 0,.int .i64 0,.own [],.own [],.str []]) :: (b4,.cells [.int .i64 p.o,.int .i64 p.s,.int .i64 p.day,.own (qO p.needs),.hsl b p.ops.length,.str p.sl]) :: H) (jN Tryz.prog [(.cell 8 26)] H.length R) := by
 obtain ⟨z,rfl⟩ : ∃ z : Nat → D,_ = z 0 :: .int .i64 a :: .int .i64 how :: .int .i64 bb :: .ptr b4 0 :: zz z 5 3 (.ptr b8 0 :: zz z 9 2 (.int .i64 (kk : Int) :: .int .i64 near :: zz z 13 265 [])) := hF.lit
 try dsimp only [zz,qb] at *
 clear hF
 have hbig := qt
 have wl := wD (rest := List.replicate m .any) hk
 have ho := ke hk
 have o1 := hp.ids _ ho
 have o2 := hp.name _ ho
 have o3 := hp.text _ ho
 obtain ⟨o,eo⟩ : ∃ o,p.ops.getD kk default = o := ⟨_,rfl⟩
 rw [eo] at o1 o2 o3
 simp +contextual only [wg,ql,qj,qg,qi,Int.reduceEq,n48,n4b,n8b,hk,Int.ofNat_lt,List.length_set,↓wO,↓XP,qm,XW1,qa,qb,qc,qd,qe,qf,reduceCtorEq]
 refine qP (by omega) ?_
 rw [hm]
 simp +contextual only [wg,ql,qj,qg,qi,Int.reduceEq,n48,n4b,n8b,hk,Int.ofNat_lt,List.length_set,↓wO,↓XP,qm,XW1,qa,qb,qc,qd,qe,qf,reduceCtorEq]
 refine fun _=>⟨_,qP (by omega) ⟨rfl,rfl⟩,?_⟩
 obtain ⟨r1,r2⟩ := jf (n := bb) (most := 4) (by omega)
 generalize around bb 4 = r at r1 r2 ⊢
 obtain ⟨v,hv,e⟩ := od (l := [0,1,1024,1025]) r1 r2
 have hv' : 0 ≤ v ∧ v ≤ 1025 := by
  simp only [List.mem_cons,List.not_mem_nil,or_false] at hv
  omega
 have e' : [[D.int .i64 0],[D.int .i64 1],[D.int .i64 1024],[D.int .i64 1025]].getD r.toNat [] = [.int .i64 v] := e
 simp +contextual only [wg,ql,qj,qg,qi,Int.reduceEq,n48,n4b,n8b,hk,Int.ofNat_lt,List.length_set,e',r1,show r < ((4 : Nat) : Int) from r2,↓wO,↓XP,qm,XW1,qa,qb,qc,qd,qe,qf,reduceCtorEq]
 refine fun _ _=>⟨by omega,WK (by omega),Vf,fun _=>⟨by omega,?_⟩⟩
 have e := wr1 (rest := List.replicate m .any) (v := .str (List.map unbyte (List.replicate v.toNat [D.int .u8 0]))) (o' := { o with text := List.map unbyte (List.replicate v.toNat [D.int .u8 0]) }) (j := 10) hk (by omega) (by rw [eo]; rfl)
 try rw [Nat.add_zero] at e
 rw [e]
 refine yb (vU n4b n48 (by rw [List.length_set])) ?_
 simp +contextual only [wg,ql,qj,qg,qi,Int.reduceEq,n48,n4b,n8b,hk,Int.ofNat_lt,List.length_set,↓wO,↓XP,qm,XW1,qa,qb,qc,qd,qe,qf,reduceCtorEq]
 exact h { p with ops := p.ops.set kk _ } (hp.setOp (by simp only; omega) (by simp only; omega) (by simp only [List.length_map,List.length_replicate]; omega))
theorem spB_13 {n : Nat} {p : Pt} {a how bb near : Int} {b b4 b8 m kk : Nat} {F : List D} {H : AH} {R : D → AH → Prop} (hm : around how 20 = 13) (hn : n ≤ 900) (hp : Sz n p) (n48 : b4 ≠ b8) (n4b : b4 ≠ b) (n8b : b8 ≠ b) (hk : kk < p.ops.length) (hF : Fr 278 [(1,.int .i64 a),(2,.int .i64 how),(3,.int .i64 bb),(4,.ptr b4 0),(8,.ptr b8 0),(11,.int .i64 (kk : Int)),(12,.int .i64 near)] F) (h : ∀ q,Sz (n + 14) q → R (.agg q.d) H) : xcode Tryz.prog x6v_s38 F ((b,.cells ((qM p.ops).flatten ++ List.replicate m .any)) :: (b8,.cells [.int .i64 0,.int .i64 0,.int .i64 0,.own [],.own [],.str []]) :: (b4,.cells [.int .i64 p.o,.int .i64 p.s,.int .i64 p.day,.own (qO p.needs),.hsl b p.ops.length,.str p.sl]) :: H) (jN Tryz.prog [(.cell 8 26)] H.length R) := by
 obtain ⟨z,rfl⟩ : ∃ z : Nat → D,_ = z 0 :: .int .i64 a :: .int .i64 how :: .int .i64 bb :: .ptr b4 0 :: zz z 5 3 (.ptr b8 0 :: zz z 9 2 (.int .i64 (kk : Int) :: .int .i64 near :: zz z 13 265 [])) := hF.lit
 try dsimp only [zz,qb] at *
 clear hF
 have hbig := qt
 have wl := wD (rest := List.replicate m .any) hk
 have ho := ke hk
 have o1 := hp.ids _ ho
 have o2 := hp.name _ ho
 have o3 := hp.text _ ho
 obtain ⟨o,eo⟩ : ∃ o,p.ops.getD kk default = o := ⟨_,rfl⟩
 rw [eo] at o1 o2 o3
 simp +contextual only [wg,ql,qj,qg,qi,Int.reduceEq,n48,n4b,n8b,hk,Int.ofNat_lt,List.length_set,↓wO,↓XP,qm,XW1,qa,qb,qc,qd,qe,qf,reduceCtorEq]
 refine qP (by omega) ?_
 rw [hm]
 simp +contextual only [wg,ql,qj,qg,qi,Int.reduceEq,n48,n4b,n8b,hk,Int.ofNat_lt,List.length_set,↓wO,↓XP,qm,XW1,qa,qb,qc,qd,qe,qf,reduceCtorEq]
 refine fun _=>⟨_,qP (by omega) ⟨rfl,rfl⟩,?_⟩
 simp +contextual only [wg,ql,qj,qg,qi,Int.reduceEq,n48,n4b,n8b,hk,Int.ofNat_lt,List.length_set,↓wO,↓XP,qm,XW1,qa,qb,qc,qd,qe,qf,reduceCtorEq]
 refine fun _=>⟨_,qP (by omega) ⟨rfl,rfl⟩,?_⟩
 simp +contextual only [wg,ql,qj,qg,qi,Int.reduceEq,n48,n4b,n8b,hk,Int.ofNat_lt,List.length_set,↓wO,↓XP,qm,XW1,qa,qb,qc,qd,qe,qf,reduceCtorEq]
 refine fun _=>⟨by omega,?_⟩
 have e := wrC2 (rest := List.replicate m .any) (x := .int .i64 (around bb 3)) (y := .int .i64 (around bb 5)) (o' := { o with a := around bb 3,b := around bb 5 }) (j := 11) hk (by omega) (by rw [eo]; rfl)
 try rw [Nat.add_zero] at e
 rw [e]
 refine yb (vU n4b n48 (by rw [List.length_set])) ?_
 simp +contextual only [wg,ql,qj,qg,qi,Int.reduceEq,n48,n4b,n8b,hk,Int.ofNat_lt,List.length_set,↓wO,↓XP,qm,XW1,qa,qb,qc,qd,qe,qf,reduceCtorEq]
 exact h { p with ops := p.ops.set kk _ } (hp.setOp (by simp only; omega) (by simp only; omega) (by simp only; omega))
theorem spB_14 {n : Nat} {p : Pt} {a how bb near : Int} {b b4 b8 m kk : Nat} {F : List D} {H : AH} {R : D → AH → Prop} (hm : around how 20 = 14) (hn : n ≤ 900) (hp : Sz n p) (n48 : b4 ≠ b8) (n4b : b4 ≠ b) (n8b : b8 ≠ b) (hk : kk < p.ops.length) (hF : Fr 278 [(1,.int .i64 a),(2,.int .i64 how),(3,.int .i64 bb),(4,.ptr b4 0),(8,.ptr b8 0),(11,.int .i64 (kk : Int)),(12,.int .i64 near)] F) (h : ∀ q,Sz (n + 14) q → R (.agg q.d) H) : xcode Tryz.prog x6v_s38 F ((b,.cells ((qM p.ops).flatten ++ List.replicate m .any)) :: (b8,.cells [.int .i64 0,.int .i64 0,.int .i64 0,.own [],.own [],.str []]) :: (b4,.cells [.int .i64 p.o,.int .i64 p.s,.int .i64 p.day,.own (qO p.needs),.hsl b p.ops.length,.str p.sl]) :: H) (jN Tryz.prog [(.cell 8 26)] H.length R) := by
 obtain ⟨z,rfl⟩ : ∃ z : Nat → D,_ = z 0 :: .int .i64 a :: .int .i64 how :: .int .i64 bb :: .ptr b4 0 :: zz z 5 3 (.ptr b8 0 :: zz z 9 2 (.int .i64 (kk : Int) :: .int .i64 near :: zz z 13 265 [])) := hF.lit
 try dsimp only [zz,qb] at *
 clear hF
 have hbig := qt
 have wl := wD (rest := List.replicate m .any) hk
 have ho := ke hk
 have o1 := hp.ids _ ho
 have o2 := hp.name _ ho
 have o3 := hp.text _ ho
 obtain ⟨o,eo⟩ : ∃ o,p.ops.getD kk default = o := ⟨_,rfl⟩
 rw [eo] at o1 o2 o3
 simp +contextual only [wg,ql,qj,qg,qi,Int.reduceEq,n48,n4b,n8b,hk,Int.ofNat_lt,List.length_set,↓wO,↓XP,qm,XW1,qa,qb,qc,qd,qe,qf,reduceCtorEq]
 refine qP (by omega) ?_
 rw [hm]
 simp +contextual only [wg,ql,qj,qg,qi,Int.reduceEq,n48,n4b,n8b,hk,Int.ofNat_lt,List.length_set,↓wO,↓XP,qm,XW1,qa,qb,qc,qd,qe,qf,reduceCtorEq]
 rw [rd1 hk (by omega),eo,show o.d[7]? = some (.slc (qV o.ids)) from rfl]
 simp +contextual only [wg,ql,qj,qg,qi,Int.reduceEq,n48,n4b,n8b,hk,Int.ofNat_lt,List.length_set,↓wO,↓XP,qm,XW1,qa,qb,qc,qd,qe,qf,reduceCtorEq]
 have il : (qV o.ids).length = o.ids.length := by simp [qV]
 refine fun _ _=>⟨K3,by omega,by omega,?_⟩
 rw [uG]
 refine Vx (Gz.viewC (bx := b) (j := kk * 13 + 7) jV (by rw [List.getElem?_set_self (by omega)]) ?_)
 rw [ou,List.set_set]
 have e := wr1 (rest := List.replicate m .any) (v := .slc (qV (⟨1,1,near⟩ :: o.ids))) (o' := { o with ids := ⟨1,1,near⟩ :: o.ids }) (j := 7) hk (by omega) (by rw [eo]; rfl)
 rw [show ([D.int .i64 1,D.int .i64 1,D.int .i64 near] :: qV o.ids) = qV (⟨1,1,near⟩ :: o.ids) from rfl,e]
 refine Gz.of_fz (vU n4b n48 (by rw [List.length_set])) ?_
 simp +contextual only [wg,ql,qj,qg,qi,Int.reduceEq,n48,n4b,n8b,hk,Int.ofNat_lt,List.length_set,↓wO,↓XP,qm,XW1,qa,qb,qc,qd,qe,qf,reduceCtorEq]
 exact h { p with ops := p.ops.set kk _ } (hp.setOp (by simp only [List.length_cons]; omega) (by simp only; omega) (by simp only; omega))
theorem spB_15 {n : Nat} {p : Pt} {a how bb near : Int} {b b4 b8 m kk : Nat} {F : List D} {H : AH} {R : D → AH → Prop} (hm : around how 20 = 15) (hn : n ≤ 900) (hp : Sz n p) (n48 : b4 ≠ b8) (n4b : b4 ≠ b) (n8b : b8 ≠ b) (hk : kk < p.ops.length) (hF : Fr 278 [(1,.int .i64 a),(2,.int .i64 how),(3,.int .i64 bb),(4,.ptr b4 0),(8,.ptr b8 0),(11,.int .i64 (kk : Int)),(12,.int .i64 near)] F) (h : ∀ q,Sz (n + 14) q → R (.agg q.d) H) : xcode Tryz.prog x6v_s38 F ((b,.cells ((qM p.ops).flatten ++ List.replicate m .any)) :: (b8,.cells [.int .i64 0,.int .i64 0,.int .i64 0,.own [],.own [],.str []]) :: (b4,.cells [.int .i64 p.o,.int .i64 p.s,.int .i64 p.day,.own (qO p.needs),.hsl b p.ops.length,.str p.sl]) :: H) (jN Tryz.prog [(.cell 8 26)] H.length R) := by
 obtain ⟨z,rfl⟩ : ∃ z : Nat → D,_ = z 0 :: .int .i64 a :: .int .i64 how :: .int .i64 bb :: .ptr b4 0 :: zz z 5 3 (.ptr b8 0 :: zz z 9 2 (.int .i64 (kk : Int) :: .int .i64 near :: zz z 13 265 [])) := hF.lit
 try dsimp only [zz,qb] at *
 clear hF
 have hbig := qt
 have wl := wD (rest := List.replicate m .any) hk
 have ho := ke hk
 have o1 := hp.ids _ ho
 have o2 := hp.name _ ho
 have o3 := hp.text _ ho
 obtain ⟨o,eo⟩ : ∃ o,p.ops.getD kk default = o := ⟨_,rfl⟩
 rw [eo] at o1 o2 o3
 simp +contextual only [wg,ql,qj,qg,qi,Int.reduceEq,n48,n4b,n8b,hk,Int.ofNat_lt,List.length_set,↓wO,↓XP,qm,XW1,qa,qb,qc,qd,qe,qf,reduceCtorEq]
 refine qP (by omega) ?_
 rw [hm]
 simp +contextual only [wg,ql,qj,qg,qi,Int.reduceEq,n48,n4b,n8b,hk,Int.ofNat_lt,List.length_set,↓wO,↓XP,qm,XW1,qa,qb,qc,qd,qe,qf,reduceCtorEq]
 refine fun _=>⟨_,qP (by omega) ⟨rfl,rfl⟩,?_⟩
 simp +contextual only [wg,ql,qj,qg,qi,Int.reduceEq,n48,n4b,n8b,hk,Int.ofNat_lt,List.length_set,↓wO,↓XP,qm,XW1,qa,qb,qc,qd,qe,qf,reduceCtorEq]
 refine fun _=>⟨_,qP (by omega) ⟨rfl,rfl⟩,?_⟩
 simp +contextual only [wg,ql,qj,qg,qi,Int.reduceEq,n48,n4b,n8b,hk,Int.ofNat_lt,List.length_set,↓wO,↓XP,qm,XW1,qa,qb,qc,qd,qe,qf,reduceCtorEq]
 refine fun _=>⟨by omega,?_⟩
 have e := wrC13 (l := p.ops) (rest := List.replicate m .any) (o' := ⟨16,⟨1,1,0⟩,v9,[⟨1,1,2⟩,⟨1,1,around bb 4⟩],IntKind.i64.wrap (around (IntKind.i64.wrap (bb.tdiv 4)) 5 - 2),[],[],0,0⟩) hk
 simp only [OpP.d,qV,Id3.d,v9,List.map_cons,List.map_nil,List.cons_append,List.nil_append] at e
 rw [e]
 refine yb (vU n4b n48 (by rw [List.length_set])) ?_
 simp +contextual only [wg,ql,qj,qg,qi,Int.reduceEq,n48,n4b,n8b,hk,Int.ofNat_lt,List.length_set,↓wO,↓XP,qm,XW1,qa,qb,qc,qd,qe,qf,reduceCtorEq]
 exact h { p with ops := p.ops.set kk _ } (hp.setOp (by simp only [List.length_cons,List.length_nil]; omega) (by simp) (by simp))
theorem spB_19 {n : Nat} {p : Pt} {a how bb near : Int} {b b4 b8 m kk : Nat} {F : List D} {H : AH} {R : D → AH → Prop} (hm : around how 20 = 19) (hn : n ≤ 900) (hp : Sz n p) (n48 : b4 ≠ b8) (n4b : b4 ≠ b) (n8b : b8 ≠ b) (hk : kk < p.ops.length) (hF : Fr 278 [(1,.int .i64 a),(2,.int .i64 how),(3,.int .i64 bb),(4,.ptr b4 0),(8,.ptr b8 0),(11,.int .i64 (kk : Int)),(12,.int .i64 near)] F) (h : ∀ q,Sz (n + 14) q → R (.agg q.d) H) : xcode Tryz.prog x6v_s38 F ((b,.cells ((qM p.ops).flatten ++ List.replicate m .any)) :: (b8,.cells [.int .i64 0,.int .i64 0,.int .i64 0,.own [],.own [],.str []]) :: (b4,.cells [.int .i64 p.o,.int .i64 p.s,.int .i64 p.day,.own (qO p.needs),.hsl b p.ops.length,.str p.sl]) :: H) (jN Tryz.prog [(.cell 8 26)] H.length R) := by
 obtain ⟨z,rfl⟩ : ∃ z : Nat → D,_ = z 0 :: .int .i64 a :: .int .i64 how :: .int .i64 bb :: .ptr b4 0 :: zz z 5 3 (.ptr b8 0 :: zz z 9 2 (.int .i64 (kk : Int) :: .int .i64 near :: zz z 13 265 [])) := hF.lit
 try dsimp only [zz,qb] at *
 clear hF
 have hbig := qt
 have wl := wD (rest := List.replicate m .any) hk
 have ho := ke hk
 have o1 := hp.ids _ ho
 have o2 := hp.name _ ho
 have o3 := hp.text _ ho
 obtain ⟨o,eo⟩ : ∃ o,p.ops.getD kk default = o := ⟨_,rfl⟩
 rw [eo] at o1 o2 o3
 simp +contextual only [wg,ql,qj,qg,qi,Int.reduceEq,n48,n4b,n8b,hk,Int.ofNat_lt,List.length_set,↓wO,↓XP,qm,XW1,qa,qb,qc,qd,qe,qf,reduceCtorEq]
 refine qP (by omega) ?_
 rw [hm]
 simp +contextual only [wg,ql,qj,qg,qi,Int.reduceEq,n48,n4b,n8b,hk,Int.ofNat_lt,List.length_set,↓wO,↓XP,qm,XW1,qa,qb,qc,qd,qe,qf,reduceCtorEq]
 refine fun _=>⟨_,qP (by omega) ⟨rfl,rfl⟩,?_⟩
 simp +contextual only [wg,ql,qj,qg,qi,Int.reduceEq,n48,n4b,n8b,hk,Int.ofNat_lt,List.length_set,↓wO,↓XP,qm,XW1,qa,qb,qc,qd,qe,qf,reduceCtorEq]
 refine fun _=>⟨by omega,?_⟩
 have e := wr1 (rest := List.replicate m .any) (v := .int .i64 (IntKind.i64.wrap (1 + around bb 18))) (o' := { o with k := IntKind.i64.wrap (1 + around bb 18) }) (j := 0) hk (by omega) (by rw [eo]; rfl)
 try rw [Nat.add_zero] at e
 rw [e]
 refine yb (vU n4b n48 (by rw [List.length_set])) ?_
 simp +contextual only [wg,ql,qj,qg,qi,Int.reduceEq,n48,n4b,n8b,hk,Int.ofNat_lt,List.length_set,↓wO,↓XP,qm,XW1,qa,qb,qc,qd,qe,qf,reduceCtorEq]
 exact h { p with ops := p.ops.set kk _ } (hp.setOp (by simp only; omega) (by simp only; omega) (by simp only; omega))
end Go.Proofs.YtoeckfegggongaaGreatDoor
end
section
namespace Go.Proofs.YtoeckfegggongaaGreatDoor
open Go Go.Aw
theorem spA_3 {n : Nat} {p : Pt} {a how bb kk near : Int} {b4 b8 : Nat} {F : List D} {H : AH} {R : D → AH → Prop} (hm : around how 20 = 3) (hn : n ≤ 900) (hp : Sz n p) (n48 : b4 ≠ b8) (hF : Fr 278 [(1,.int .i64 a),(2,.int .i64 how),(3,.int .i64 bb),(4,.ptr b4 0),(8,.ptr b8 0),(11,.int .i64 kk),(12,.int .i64 near)] F) (h : ∀ q,Sz (n + 14) q → R (.agg q.d) H) : xcode Tryz.prog x6_s38 F ((b8,.cells [.int .i64 0,.int .i64 0,.int .i64 0,.own [],.own [],.str []]) :: (b4,.cells [.int .i64 p.o,.int .i64 p.s,.int .i64 p.day,.own (qO p.needs),.own (qM p.ops),.str p.sl]) :: H) (jN Tryz.prog [(.cell 8 26)] H.length R) := by
 obtain ⟨z,rfl⟩ : ∃ z : Nat → D,_ = z 0 :: .int .i64 a :: .int .i64 how :: .int .i64 bb :: .ptr b4 0 :: zz z 5 3 (.ptr b8 0 :: zz z 9 2 (.int .i64 kk :: .int .i64 near :: zz z 13 265 [])) := hF.lit
 try dsimp only [zz,qb] at *
 clear hF
 have hbig := qt
 simp +contextual only [x6,ql,qj,qg,qi,Int.reduceEq,n48,↓U6,↓XP,qm,XW1,qa,qb,qc,qd,qe,qf,reduceCtorEq]
 refine qP (by omega) ?_
 rw [hm]
 simp +contextual only [x6,ql,qj,qg,qi,Int.reduceEq,n48,↓U6,↓XP,qm,XW1,qa,qb,qc,qd,qe,qf,reduceCtorEq]
 refine fun _=>?_
 rw [uG]
 refine Gz.giveA (bx := b4) (j := 3) (xs := qO p.needs) (by rw [qg n48,jV]) rfl (fun b cap H' g1 g2 g3=>?_)
 simp +contextual only [x6,ql,qj,qg,qi,Int.reduceEq,n48,g1,↓U6,↓XP,qm,XW1,qa,qb,qc,qd,qe,qf,reduceCtorEq]
 refine ⟨_,qP (by omega) ⟨rfl,rfl⟩,?_⟩
 simp +contextual only [x6,ql,qj,qg,qi,Int.reduceEq,n48,g1,↓U6,↓XP,qm,XW1,qa,qb,qc,qd,qe,qf,reduceCtorEq]
 obtain ⟨r1,r2⟩ := jf (n := bb) (most := 10) (by omega)
 obtain ⟨r3,r4⟩ := jf (n := IntKind.i64.wrap (bb.tdiv 10)) (most := 19) (by omega)
 refine fun _=>⟨_,qP (by omega) ⟨rfl,rfl⟩,?_⟩
 simp +contextual only [x6,ql,qj,qg,qi,Int.reduceEq,n48,g1,↓U6,↓XP,qm,XW1,qa,qb,qc,qd,qe,qf,reduceCtorEq]
 intros
 rw [VO]
 refine Gz.takeS (s := 64) (b := b) (cap := cap) (xs := qO p.needs) rfl g2 ?_
 rw [g3]
 simp +contextual only [x6,ql,qj,qg,qi,Int.reduceEq,n48,↓U6,↓XP,qm,XW1,qa,qb,qc,qd,qe,qf,reduceCtorEq]
 rw [show ∀ x y,qO p.needs ++ [[.int .i64 x,.int .i64 y]] = qO (p.needs ++ [⟨x,y⟩]) from fun x y=>by simp [qO,Rf.d]]
 have l1 := hp.ops
 have l2 := hp.needs
 exact ⟨uD,by omega,by omega,h { p with needs := p.needs ++ [_] } ⟨by simp only; omega,by simp only [List.length_append,List.length_singleton]; omega,fun o ho=>by have := hp.ids o ho; omega,hp.name,hp.text,hp.sl⟩⟩
end Go.Proofs.YtoeckfegggongaaGreatDoor
end
section
namespace Go.Proofs.YtoeckfegggongaaGreatDoor
open Go Go.Aw
structure Ext (n i : Nat) (l : List OpP) : Prop where
 len : l.length = i
 ids : ∀ o ∈ l,o.ids.length ≤ 100 + n
 name : ∀ o ∈ l,o.name.length ≤ 2000
 text : ∀ o ∈ l,o.text.length ≤ 2000
theorem Ext.nil {n : Nat} : Ext n 0 [] := ⟨rfl,by simp,by simp,by simp⟩
theorem Ext.add {n i : Nat} {l : List OpP} {o : OpP} (h : Ext n i l) (h1 : o.ids.length ≤ 100 + n) (h2 : o.name.length ≤ 2000) (h3 : o.text.length ≤ 2000) : Ext n (i + 1) (l ++ [o]) := by
 refine ⟨by simp [h.len],fun x hx=>?_,fun x hx=>?_,fun x hx=>?_⟩ <;> rcases List.mem_append.1 hx with hx | hx
 ·exact h.ids x hx
 ·rw [List.mem_singleton.1 hx]; exact h1
 ·exact h.name x hx
 ·rw [List.mem_singleton.1 hx]; exact h2
 ·exact h.text x hx
 ·rw [List.mem_singleton.1 hx]; exact h3
theorem Ext.sz {n i : Nat} {p : Pt} {l : List OpP} (h : Ext n i l) (hi : i ≤ 14) (hp : Sz n p) : Sz (n + 14) { p with ops := p.ops ++ l } :=
 (hp.more (m := 14) (by rw [h.len]; exact hi) h.ids h.name h.text)
theorem sp_L18 {p : Pt} {bb : Int} {b4 b8 : Nat} {H : AH} {Q : AQ} {F : List D} (n48 : b4 ≠ b8) {i : Nat} (hi : i = 0) (hF : Fr 278 [(3,.int .i64 bb),(4,.ptr b4 0),(8,.ptr b8 0),(15,.int .i64 (i : Int))] F)
  (hE : ∀ F' l,Fr 278 [(4,.ptr b4 0),(8,.ptr b8 0)] F' → l.length ≤ 10 → Q (.exit 5) F' ((b8,AO.cells [.int .i64 0,.int .i64 0,.int .i64 0,.own [],.own [],.str []]) :: (b4,AO.cells [.int .i64 p.o,.int .i64 p.s,.int .i64 p.day,.own (qO l),.own (qM p.ops),.str p.sl]) :: H)) {l : List Rf} (hl : l = []) : XW Tryz.prog x6_L8 F ((b8,AO.cells [.int .i64 0,.int .i64 0,.int .i64 0,.own [],.own [],.str []]) :: (b4,AO.cells [.int .i64 p.o,.int .i64 p.s,.int .i64 p.day,.own (qO l),.own (qM p.ops),.str p.sl]) :: H) Q := by
 have hbig := qt
 obtain ⟨r1,r2⟩ := jf (n := bb) (most := 4) (by omega)
 refine XW.loopK hm (fun F H'=>∃ (i : Nat) (l : List Rf),i ≤ 10 ∧ l.length = i ∧ Fr 278 [(3,.int .i64 bb),(4,.ptr b4 0),(8,.ptr b8 0),(15,.int .i64 (i : Int))] F ∧ ((b8,AO.cells [.int .i64 0,.int .i64 0,.int .i64 0,.own [],.own [],.str []]) :: (b4,AO.cells [.int .i64 p.o,.int .i64 p.s,.int .i64 p.day,.own (qO l),.own (qM p.ops),.str p.sl]) :: H) = H') (fun F H=>match F.getD 15 .any with | .int _ n'=>10 - n'.toNat | _=>0) ⟨0,[],by omega,rfl,by subst hi; exact hF,by rw [hl]⟩ ?_
 clear hF hi hl i l
 rintro _ _ ⟨i,l,hi,hl,hF,rfl⟩ K hN hE' hR
 obtain ⟨z,rfl⟩ : ∃ z : Nat → D,_ = zz z 0 3 (.int .i64 bb :: .ptr b4 0 :: zz z 5 3 (.ptr b8 0 :: zz z 9 6 (.int .i64 (i : Int) :: zz z 16 262 []))) := hF.lit
 try dsimp only [zz,qb] at *
 clear hF hR
 simp +contextual only [x6,ql,qj,qg,qi,n48,↓U6,↓XP,qm,XW1,qa,qb,qc,qd,qe,qf,reduceCtorEq]
 intros
 refine qP (by omega) ?_
 generalize around bb 4 = r at r1 r2 ⊢
 simp +contextual only [x6,ql,qj,qg,qi,n48,qw (show -9223372036854775808 ≤ 7 + r by omega) (by omega),↓U6,↓XP,qm,XW1,qa,qb,qc,qd,qe,qf,reduceCtorEq]
 refine fun _=>⟨fun hlt=>?_,fun hge=>?_⟩
 ·have nx : ∀ F',Fr 278 [(3,.int .i64 bb),(4,.ptr b4 0),(8,.ptr b8 0),(15,.int .i64 ((i + 1 : Nat) : Int))] F' → ∀ l : List Rf,l.length = i + 1 → K .normal F' ((b8,AO.cells [.int .i64 0,.int .i64 0,.int .i64 0,.own [],.own [],.str []]) :: (b4,AO.cells [.int .i64 p.o,.int .i64 p.s,.int .i64 p.day,.own (qO l),.own (qM p.ops),.str p.sl]) :: H) := fun F' hF' l hl=>hN _ _ ⟨i + 1,l,by omega,hl,hF',(j9 rfl).symm⟩ (by
   rw [List.getD_eq_getElem?_getD,hF'.2.2.2.2.1]
   simp only [List.getD_cons_succ,List.getD_cons_zero,Option.getD_some]
   omega)
  rw [show ∀ x y,qO l ++ [[.int .i64 x,.int .i64 y]] = qO (l ++ [⟨x,y⟩]) from fun x y=>by simp [qO,Rf.d],qp (by omega)]
  exact ⟨uD,by omega,by omega,nx _ ⟨rfl,rfl,rfl,rfl,rfl,trivial⟩ _ (by simp [hl])⟩
 ·exact hE' _ _ _ (hE _ l ⟨rfl,rfl,rfl,trivial⟩ (by omega))
theorem sp_L2 {p : Pt} {bb : Int} {kk n b4 b8 : Nat} {H : AH} {Q : AQ} {F : List D} (n48 : b4 ≠ b8) (hn : n ≤ 900) (hp : Sz n p) (hk : kk < p.ops.length) {i : Nat} (hi : i = 0) (hF : Fr 278 [(3,.int .i64 bb),(4,.ptr b4 0),(8,.ptr b8 0),(11,.int .i64 (kk : Int)),(13,.int .i64 (i : Int))] F)
  (hE : ∀ F' l,Fr 278 [(4,.ptr b4 0),(8,.ptr b8 0)] F' → Ext n 14 l → Q (.exit 1) F' ((b8,AO.cells [.int .i64 0,.int .i64 0,.int .i64 0,.own [],.own [],.str []]) :: (b4,AO.cells [.int .i64 p.o,.int .i64 p.s,.int .i64 p.day,.own (qO p.needs),.own (qM (p.ops ++ l)),.str p.sl]) :: H)) {l : List OpP} (hl : l = []) : XW Tryz.prog x6_L2 F ((b8,AO.cells [.int .i64 0,.int .i64 0,.int .i64 0,.own [],.own [],.str []]) :: (b4,AO.cells [.int .i64 p.o,.int .i64 p.s,.int .i64 p.day,.own (qO p.needs),.own (qM (p.ops ++ l)),.str p.sl]) :: H) Q := by
 have hbig := qt
 have l1 := hp.ops
 refine XW.loopK hm (fun F H'=>∃ (i : Nat) (l : List OpP),i ≤ 14 ∧ Ext n i l ∧ Fr 278 [(3,.int .i64 bb),(4,.ptr b4 0),(8,.ptr b8 0),(11,.int .i64 (kk : Int)),(13,.int .i64 (i : Int))] F ∧ ((b8,AO.cells [.int .i64 0,.int .i64 0,.int .i64 0,.own [],.own [],.str []]) :: (b4,AO.cells [.int .i64 p.o,.int .i64 p.s,.int .i64 p.day,.own (qO p.needs),.own (qM (p.ops ++ l)),.str p.sl]) :: H) = H') (fun F H=>match F.getD 13 .any with | .int _ n'=>14 - n'.toNat | _=>0) ⟨0,[],by omega,Ext.nil,by subst hi; exact hF,by rw [hl]⟩ ?_
 clear hF hi hl i l
 rintro _ _ ⟨i,l,hi,hl,hF,rfl⟩ K hN hE' hR
 obtain ⟨z,rfl⟩ : ∃ z : Nat → D,_ = zz z 0 3 (.int .i64 bb :: .ptr b4 0 :: zz z 5 3 (.ptr b8 0 :: zz z 9 2 (.int .i64 (kk : Int) :: z 12 :: .int .i64 (i : Int) :: zz z 14 264 []))) := hF.lit
 try dsimp only [zz,qb] at *
 clear hF hR
 have e1 := hl.len
 by_cases hlt : i < 14
 ·have nx : ∀ F',Fr 278 [(3,.int .i64 bb),(4,.ptr b4 0),(8,.ptr b8 0),(11,.int .i64 (kk : Int)),(13,.int .i64 ((i + 1 : Nat) : Int))] F' → ∀ l : List OpP,Ext n (i + 1) l → K .normal F' ((b8,AO.cells [.int .i64 0,.int .i64 0,.int .i64 0,.own [],.own [],.str []]) :: (b4,AO.cells [.int .i64 p.o,.int .i64 p.s,.int .i64 p.day,.own (qO p.needs),.own (qM (p.ops ++ l)),.str p.sl]) :: H) := fun F' hF' l hl=>hN _ _ ⟨i + 1,l,by omega,hl,hF',(j9 rfl).symm⟩ (by
   rw [List.getD_eq_getElem?_getD,hF'.2.2.2.2.2.1]
   simp only [List.getD_cons_succ,List.getD_cons_zero,Option.getD_some]
   omega)
  clear hN hE hE'
  simp +contextual only [x6,ql,qj,qg,qi,n48,show ((i : Int) < 14) = True from eq_true (by omega),↓U6,↓XP,qm,XW1,qa,qb,qc,qd,qe,qf,reduceCtorEq]
  intros
  rw [uG]
  refine Gz.giveA (bx := b4) (j := 4) (xs := qM (p.ops ++ l)) (by rw [qg n48,jV]) rfl (fun b cap H' g1 g2 g3=>?_)
  have q1 : (qM (p.ops ++ l)).getD kk [] = (p.ops.getD kk default).d := by
   rw [kB (by rw [List.length_append]; omega)]
   congr 1
   simp only [List.getD_eq_getElem?_getD]
   rw [List.getElem?_append_left hk]
  have ho := ke hk
  have o1 := hp.ids _ ho
  have o2 := hp.name _ ho
  have o3 := hp.text _ ho
  generalize p.ops.getD kk default = o at q1 o1 o2 o3
  have hd : o.d = [.int .i64 o.k,.int .i64 o.on.o,.int .i64 o.on.s,.int .i64 o.on.i,.int .i64 o.to.o,.int .i64 o.to.s,.int .i64 o.to.i,.slc (qV o.ids),.int .i64 o.n,.str o.name,.str o.text,.int .i64 o.a,.int .i64 o.b] := rfl
  simp +contextual only [x6,ql,qj,qg,qi,n48,g1,ia_os,q1,hd,List.length_append,show (kk : Int) < ((p.ops.length + l.length : Nat) : Int) from by omega,↓U6,↓XP,qm,XW1,qa,qb,qc,qd,qe,qf,reduceCtorEq]
  rw [VO]
  refine Gz.takeS (s := 89) (b := b) (cap := cap) (xs := qM (p.ops ++ l)) rfl g2 ?_
  rw [g3]
  simp +contextual only [x6,ql,qj,qg,qi,n48,List.length_append,↓U6,↓XP,qm,XW1,qa,qb,qc,qd,qe,qf,reduceCtorEq]
  rw [← hd,show qM (p.ops ++ l) ++ [o.d] = qM (p.ops ++ (l ++ [o])) by simp [qM],qp (by omega)]
  exact ⟨kU,by omega,by omega,nx _ ⟨rfl,rfl,rfl,rfl,rfl,rfl,trivial⟩ _ (hl.add o1 o2 o3)⟩
 ·have hik : i = 14 := by omega
  subst hik
  clear hN
  simp +contextual only [x6,ql,qj,qg,qi,n48,show (((14 : Nat) : Int) < 14) = False from eq_false (by omega),↓U6,↓XP,qm,XW1,qa,qb,qc,qd,qe,qf,reduceCtorEq]
  refine hE' _ _ _ (hE _ l ?_ hl)
  exact ⟨rfl,rfl,rfl,trivial⟩
theorem sp_L5 {p : Pt} {bb : Int} {kk n b4 b8 : Nat} {H : AH} {Q : AQ} {F : List D} (n48 : b4 ≠ b8) (hn : n ≤ 900) (hp : Sz n p) (hk : kk < p.ops.length) {i : Nat} (hi : i = 0) (hF : Fr 278 [(3,.int .i64 bb),(4,.ptr b4 0),(8,.ptr b8 0),(11,.int .i64 (kk : Int)),(14,.int .i64 (i : Int))] F)
  (hE : ∀ F' l,Fr 278 [(4,.ptr b4 0),(8,.ptr b8 0)] F' → Ext n 7 l → Q (.exit 3) F' ((b8,AO.cells [.int .i64 0,.int .i64 0,.int .i64 0,.own [],.own [],.str []]) :: (b4,AO.cells [.int .i64 p.o,.int .i64 p.s,.int .i64 p.day,.own (qO p.needs),.own (qM (p.ops ++ l)),.str p.sl]) :: H)) {l : List OpP} (hl : l = []) : XW Tryz.prog x6_L5 F ((b8,AO.cells [.int .i64 0,.int .i64 0,.int .i64 0,.own [],.own [],.str []]) :: (b4,AO.cells [.int .i64 p.o,.int .i64 p.s,.int .i64 p.day,.own (qO p.needs),.own (qM (p.ops ++ l)),.str p.sl]) :: H) Q := by
 have hbig := qt
 have l1 := hp.ops
 refine XW.loopK hm (fun F H'=>∃ (i : Nat) (l : List OpP),i ≤ 7 ∧ Ext n i l ∧ Fr 278 [(3,.int .i64 bb),(4,.ptr b4 0),(8,.ptr b8 0),(11,.int .i64 (kk : Int)),(14,.int .i64 (i : Int))] F ∧ ((b8,AO.cells [.int .i64 0,.int .i64 0,.int .i64 0,.own [],.own [],.str []]) :: (b4,AO.cells [.int .i64 p.o,.int .i64 p.s,.int .i64 p.day,.own (qO p.needs),.own (qM (p.ops ++ l)),.str p.sl]) :: H) = H') (fun F H=>match F.getD 14 .any with | .int _ n'=>7 - n'.toNat | _=>0) ⟨0,[],by omega,Ext.nil,by subst hi; exact hF,by rw [hl]⟩ ?_
 clear hF hi hl i l
 rintro _ _ ⟨i,l,hi,hl,hF,rfl⟩ K hN hE' hR
 obtain ⟨z,rfl⟩ : ∃ z : Nat → D,_ = zz z 0 3 (.int .i64 bb :: .ptr b4 0 :: zz z 5 3 (.ptr b8 0 :: zz z 9 2 (.int .i64 (kk : Int) :: zz z 12 2 (.int .i64 (i : Int) :: zz z 15 263 [])))) := hF.lit
 try dsimp only [zz,qb] at *
 clear hF hR
 have e1 := hl.len
 by_cases hlt : i < 7
 ·have nx : ∀ F',Fr 278 [(3,.int .i64 bb),(4,.ptr b4 0),(8,.ptr b8 0),(11,.int .i64 (kk : Int)),(14,.int .i64 ((i + 1 : Nat) : Int))] F' → ∀ l : List OpP,Ext n (i + 1) l → K .normal F' ((b8,AO.cells [.int .i64 0,.int .i64 0,.int .i64 0,.own [],.own [],.str []]) :: (b4,AO.cells [.int .i64 p.o,.int .i64 p.s,.int .i64 p.day,.own (qO p.needs),.own (qM (p.ops ++ l)),.str p.sl]) :: H) := fun F' hF' l hl=>hN _ _ ⟨i + 1,l,by omega,hl,hF',(j9 rfl).symm⟩ (by
   rw [List.getD_eq_getElem?_getD,hF'.2.2.2.2.2.1]
   simp only [List.getD_cons_succ,List.getD_cons_zero,Option.getD_some]
   omega)
  clear hN hE hE'
  simp +contextual only [x6,ql,qj,qg,qi,n48,show ((i : Int) < 7) = True from eq_true (by omega),↓U6,↓XP,qm,XW1,qa,qb,qc,qd,qe,qf,reduceCtorEq]
  intros
  rw [uG]
  refine Gz.giveA (bx := b4) (j := 4) (xs := qM (p.ops ++ l)) (by rw [qg n48,jV]) rfl (fun b cap H' g1 g2 g3=>?_)
  simp +contextual only [x6,ql,qj,qg,qi,n48,g1,↓U6,↓XP,qm,XW1,qa,qb,qc,qd,qe,qf,reduceCtorEq]
  obtain ⟨r1,r2⟩ := jf (n := bb) (most := 125) (by omega)
  refine ⟨_,qP (by omega) ⟨rfl,rfl⟩,?_⟩
  generalize around bb 125 = r at r1 r2 ⊢
  have w : IntKind.i64.wrap (900 + r) = 900 + r := qw (by omega) (by omega)
  simp +contextual only [x6,ql,qj,qg,qi,n48,g1,w,↓U6,↓XP,qm,XW1,qa,qb,qc,qd,qe,qf,reduceCtorEq]
  refine fun _=>⟨by omega,WK (by omega),Vf,fun _=>?_⟩
  rw [VO]
  refine Gz.takeS (s := 239) (b := b) (cap := cap) (xs := qM (p.ops ++ l)) rfl g2 ?_
  rw [g3]
  simp +contextual only [x6,ql,qj,qg,qi,n48,List.length_append,↓U6,↓XP,qm,XW1,qa,qb,qc,qd,qe,qf,reduceCtorEq]
  have e : ∀ t : List UInt8,qM (p.ops ++ l) ++ [[.int .i64 7,.int .i64 0,.int .i64 1,.int .i64 0,.int .i64 0,.int .i64 0,.int .i64 0,.slc [],.int .i64 0,.str [],.str t,.int .i64 0,.int .i64 0]] = qM (p.ops ++ (l ++ [{ op0 with k := 7,on := ⟨0,1,0⟩,text := t }])) := fun t=>by simp [qM,OpP.d,qV,op0,v9]
  rw [e,qp (by omega)]
  exact ⟨kU,by omega,by omega,nx _ ⟨rfl,rfl,rfl,rfl,rfl,rfl,trivial⟩ _ (hl.add (by simp [op0]) (by simp [op0]) (by simp only [List.length_map,List.length_replicate]; omega))⟩
 ·have hik : i = 7 := by omega
  subst hik
  clear hN
  simp +contextual only [x6,ql,qj,qg,qi,n48,show (((7 : Nat) : Int) < 7) = False from eq_false (by omega),↓U6,↓XP,qm,XW1,qa,qb,qc,qd,qe,qf,reduceCtorEq]
  refine hE' _ _ _ (hE _ l ?_ hl)
  exact ⟨rfl,rfl,rfl,trivial⟩
end Go.Proofs.YtoeckfegggongaaGreatDoor
end
section
namespace Go.Proofs.YtoeckfegggongaaGreatDoor
open Go Go.Aw
theorem spA_5 {n : Nat} {p : Pt} {a how bb near : Int} {kk b4 b8 : Nat} {F : List D} {H : AH} {R : D → AH → Prop} (hm : around how 20 = 5) (hn : n ≤ 900) (hp : Sz n p) (n48 : b4 ≠ b8) (hk : kk < p.ops.length) (hF : Fr 278 [(1,.int .i64 a),(2,.int .i64 how),(3,.int .i64 bb),(4,.ptr b4 0),(8,.ptr b8 0),(11,.int .i64 (kk : Int)),(12,.int .i64 near)] F) (h : ∀ q,Sz (n + 14) q → R (.agg q.d) H) : xcode Tryz.prog x6_s38 F ((b8,.cells [.int .i64 0,.int .i64 0,.int .i64 0,.own [],.own [],.str []]) :: (b4,.cells [.int .i64 p.o,.int .i64 p.s,.int .i64 p.day,.own (qO p.needs),.own (qM p.ops),.str p.sl]) :: H) (jN Tryz.prog [(.cell 8 26)] H.length R) := by
 obtain ⟨z,rfl⟩ : ∃ z : Nat → D,_ = z 0 :: .int .i64 a :: .int .i64 how :: .int .i64 bb :: .ptr b4 0 :: zz z 5 3 (.ptr b8 0 :: zz z 9 2 (.int .i64 (kk : Int) :: .int .i64 near :: zz z 13 265 [])) := hF.lit
 try dsimp only [zz,qb] at *
 clear hF
 have hbig := qt
 simp +contextual only [x6,ql,qj,qg,qi,Int.reduceEq,n48,↓U6,↓XP,qm,XW1,qa,qb,qc,qd,qe,qf,reduceCtorEq]
 refine qP (by omega) ?_
 rw [hm]
 simp +contextual only [x6,ql,qj,qg,qi,Int.reduceEq,n48,↓U6,↓XP,qm,XW1,qa,qb,qc,qd,qe,qf,reduceCtorEq]
 intros
 rw [show qM p.ops = qM (p.ops ++ []) by rw [List.append_nil]]
 refine sp_L2 (i := 0) (l := []) n48 hn hp hk rfl ⟨rfl,rfl,rfl,rfl,rfl,rfl,trivial⟩ (fun F' l hF' hl=>?_) rfl
 obtain ⟨z,rfl⟩ : ∃ z : Nat → D,_ = zz z 0 4 (.ptr b4 0 :: zz z 5 3 (.ptr b8 0 :: zz z 9 269 [])) := hF'.lit
 try dsimp only [zz,qb] at *
 simp +contextual only [x6,ql,qj,qg,qi,Int.reduceEq,n48,↓U6,↓XP,qm,XW1,qa,qb,qc,qd,qe,qf,reduceCtorEq]
 exact h { p with ops := p.ops ++ l } (hl.sz (by omega) hp)
theorem spA_16 {n : Nat} {p : Pt} {a how bb near : Int} {kk b4 b8 : Nat} {F : List D} {H : AH} {R : D → AH → Prop} (hm : around how 20 = 16) (hn : n ≤ 900) (hp : Sz n p) (n48 : b4 ≠ b8) (hk : kk < p.ops.length) (hF : Fr 278 [(1,.int .i64 a),(2,.int .i64 how),(3,.int .i64 bb),(4,.ptr b4 0),(8,.ptr b8 0),(11,.int .i64 (kk : Int)),(12,.int .i64 near)] F) (h : ∀ q,Sz (n + 14) q → R (.agg q.d) H) : xcode Tryz.prog x6_s38 F ((b8,.cells [.int .i64 0,.int .i64 0,.int .i64 0,.own [],.own [],.str []]) :: (b4,.cells [.int .i64 p.o,.int .i64 p.s,.int .i64 p.day,.own (qO p.needs),.own (qM p.ops),.str p.sl]) :: H) (jN Tryz.prog [(.cell 8 26)] H.length R) := by
 obtain ⟨z,rfl⟩ : ∃ z : Nat → D,_ = z 0 :: .int .i64 a :: .int .i64 how :: .int .i64 bb :: .ptr b4 0 :: zz z 5 3 (.ptr b8 0 :: zz z 9 2 (.int .i64 (kk : Int) :: .int .i64 near :: zz z 13 265 [])) := hF.lit
 try dsimp only [zz,qb] at *
 clear hF
 have hbig := qt
 simp +contextual only [x6,ql,qj,qg,qi,Int.reduceEq,n48,↓U6,↓XP,qm,XW1,qa,qb,qc,qd,qe,qf,reduceCtorEq]
 refine qP (by omega) ?_
 rw [hm]
 simp +contextual only [x6,ql,qj,qg,qi,Int.reduceEq,n48,↓U6,↓XP,qm,XW1,qa,qb,qc,qd,qe,qf,reduceCtorEq]
 intros
 rw [show qM p.ops = qM (p.ops ++ []) by rw [List.append_nil]]
 refine sp_L5 (i := 0) (l := []) n48 hn hp hk rfl ⟨rfl,rfl,rfl,rfl,rfl,rfl,trivial⟩ (fun F' l hF' hl=>?_) rfl
 obtain ⟨z,rfl⟩ : ∃ z : Nat → D,_ = zz z 0 4 (.ptr b4 0 :: zz z 5 3 (.ptr b8 0 :: zz z 9 269 [])) := hF'.lit
 try dsimp only [zz,qb] at *
 simp +contextual only [x6,ql,qj,qg,qi,Int.reduceEq,n48,↓U6,↓XP,qm,XW1,qa,qb,qc,qd,qe,qf,reduceCtorEq]
 exact h { p with ops := p.ops ++ l } (hl.sz (by omega) hp)
theorem spA_18 {n : Nat} {p : Pt} {a how bb near : Int} {kk b4 b8 : Nat} {F : List D} {H : AH} {R : D → AH → Prop} (hm : around how 20 = 18) (hn : n ≤ 900) (hp : Sz n p) (n48 : b4 ≠ b8) (hk : kk < p.ops.length) (hF : Fr 278 [(1,.int .i64 a),(2,.int .i64 how),(3,.int .i64 bb),(4,.ptr b4 0),(8,.ptr b8 0),(11,.int .i64 (kk : Int)),(12,.int .i64 near)] F) (h : ∀ q,Sz (n + 14) q → R (.agg q.d) H) : xcode Tryz.prog x6_s38 F ((b8,.cells [.int .i64 0,.int .i64 0,.int .i64 0,.own [],.own [],.str []]) :: (b4,.cells [.int .i64 p.o,.int .i64 p.s,.int .i64 p.day,.own (qO p.needs),.own (qM p.ops),.str p.sl]) :: H) (jN Tryz.prog [(.cell 8 26)] H.length R) := by
 obtain ⟨z,rfl⟩ : ∃ z : Nat → D,_ = z 0 :: .int .i64 a :: .int .i64 how :: .int .i64 bb :: .ptr b4 0 :: zz z 5 3 (.ptr b8 0 :: zz z 9 2 (.int .i64 (kk : Int) :: .int .i64 near :: zz z 13 265 [])) := hF.lit
 try dsimp only [zz,qb] at *
 clear hF
 have hbig := qt
 simp +contextual only [x6,ql,qj,qg,qi,Int.reduceEq,n48,↓U6,↓XP,qm,XW1,qa,qb,qc,qd,qe,qf,reduceCtorEq]
 refine qP (by omega) ?_
 rw [hm]
 simp +contextual only [x6,ql,qj,qg,qi,Int.reduceEq,n48,↓U6,↓XP,qm,XW1,qa,qb,qc,qd,qe,qf,reduceCtorEq]
 refine fun _=>⟨by omega,?_⟩
 refine sp_L18 (i := 0) (l := []) n48 rfl ⟨rfl,rfl,rfl,rfl,rfl,trivial⟩ (fun F' l hF' hl=>?_) rfl
 obtain ⟨z,rfl⟩ : ∃ z : Nat → D,_ = zz z 0 4 (.ptr b4 0 :: zz z 5 3 (.ptr b8 0 :: zz z 9 269 [])) := hF'.lit
 try dsimp only [zz,qb] at *
 simp +contextual only [x6,ql,qj,qg,qi,Int.reduceEq,n48,↓U6,↓XP,qm,XW1,qa,qb,qc,qd,qe,qf,reduceCtorEq]
 exact h { p with needs := l } ⟨by have := hp.ops; simp only; omega,by simp only; omega,fun o ho=>by have := hp.ids o ho; omega,hp.name,hp.text,hp.sl⟩
end Go.Proofs.YtoeckfegggongaaGreatDoor
end
section
namespace Go.Proofs.YtoeckfegggongaaGreatDoor
open Go Go.Aw
theorem f_spoil {n : Nat} {p : Pt} {a how bb : Int} {H : AH} {R : D → AH → Prop} (hn : n ≤ 900) (hp : Sz n p) (hne : 0 < p.ops.length) (h : ∀ q,Sz (n + 14) q → R (.agg q.d) H) : ACall Tryz.prog 6 [.agg p.d,.int .i64 a,.int .i64 how,.int .i64 bb] H R := by
 obtain ⟨r1,r2⟩ := jf (n := how) (most := 20) (by omega)
 obtain ⟨m,hm⟩ : ∃ m,around how 20 = m := ⟨_,rfl⟩
 rw [hm] at r1 r2
 rcases (show m = 0 ∨ m = 1 ∨ m = 2 ∨ m = 3 ∨ m = 4 ∨ m = 5 ∨ m = 6 ∨ m = 7 ∨ m = 8 ∨ m = 9 ∨ m = 10 ∨ m = 11 ∨ m = 12 ∨ m = 13 ∨ m = 14 ∨ m = 15 ∨ m = 16 ∨ m = 17 ∨ m = 18 ∨ m = 19 by omega) with rfl | rfl | rfl | rfl | rfl | rfl | rfl | rfl | rfl | rfl | rfl | rfl | rfl | rfl | rfl | rfl | rfl | rfl | rfl | rfl
 ·exact spA hn hp hne fun b4 b8 kk near F n48 k0 k1 hF=>spA_0 hm hn hp n48 hF h
 ·exact spA hn hp hne fun b4 b8 kk near F n48 k0 k1 hF=>spA_1 hm hn hp n48 hF h
 ·exact spA hn hp hne fun b4 b8 kk near F n48 k0 k1 hF=>spA_2 hm hn hp n48 hF h
 ·exact spA hn hp hne fun b4 b8 kk near F n48 k0 k1 hF=>spA_3 hm hn hp n48 hF h
 ·exact spA hn hp hne fun b4 b8 kk near F n48 k0 k1 hF=>spA_4 hm hn hp n48 hF h
 ·exact spA hn hp hne fun b4 b8 kk near F n48 k0 k1 hF=>by obtain ⟨k,rfl⟩ := Int.eq_ofNat_of_zero_le k0; exact spA_5 hm hn hp n48 (by omega) hF h
 ·exact Vp hn hp hne fun b b4 b8 m kk near F n48 n4b n8b hk hF=>spB_6 hm hn hp n48 n4b n8b hk hF h
 ·exact Vp hn hp hne fun b b4 b8 m kk near F n48 n4b n8b hk hF=>spB_7 hm hn hp n48 n4b n8b hk hF h
 ·exact Vp hn hp hne fun b b4 b8 m kk near F n48 n4b n8b hk hF=>spB_8 hm hn hp n48 n4b n8b hk hF h
 ·exact Vp hn hp hne fun b b4 b8 m kk near F n48 n4b n8b hk hF=>spB_9 hm hn hp n48 n4b n8b hk hF h
 ·exact Vp hn hp hne fun b b4 b8 m kk near F n48 n4b n8b hk hF=>spB_10 hm hn hp n48 n4b n8b hk hF h
 ·exact Vp hn hp hne fun b b4 b8 m kk near F n48 n4b n8b hk hF=>spB_11 hm hn hp n48 n4b n8b hk hF h
 ·exact Vp hn hp hne fun b b4 b8 m kk near F n48 n4b n8b hk hF=>spB_12 hm hn hp n48 n4b n8b hk hF h
 ·exact Vp hn hp hne fun b b4 b8 m kk near F n48 n4b n8b hk hF=>spB_13 hm hn hp n48 n4b n8b hk hF h
 ·exact Vp hn hp hne fun b b4 b8 m kk near F n48 n4b n8b hk hF=>spB_14 hm hn hp n48 n4b n8b hk hF h
 ·exact Vp hn hp hne fun b b4 b8 m kk near F n48 n4b n8b hk hF=>spB_15 hm hn hp n48 n4b n8b hk hF h
 ·exact spA hn hp hne fun b4 b8 kk near F n48 k0 k1 hF=>by obtain ⟨k,rfl⟩ := Int.eq_ofNat_of_zero_le k0; exact spA_16 hm hn hp n48 (by omega) hF h
 ·exact spA hn hp hne fun b4 b8 kk near F n48 k0 k1 hF=>spA_17 hm hn hp n48 hF h
 ·exact spA hn hp hne fun b4 b8 kk near F n48 k0 k1 hF=>by obtain ⟨k,rfl⟩ := Int.eq_ofNat_of_zero_le k0; exact spA_18 hm hn hp n48 (by omega) hF h
 ·exact Vp hn hp hne fun b b4 b8 m kk near F n48 n4b n8b hk hF=>spB_19 hm hn hp n48 n4b n8b hk hF h
end Go.Proofs.YtoeckfegggongaaGreatDoor
end
section
namespace Go.Proofs.YtoeckfegggongaaGreatDoor
open Go Go.Aw
theorem Sz.fit {n : Nat} {p : Pt} (h : Sz n p) (hn : n ≤ 1000) : Fit p :=
 ⟨by have := h.ops; omega,by have := h.needs; omega,fun o ho=>by have := h.ids o ho; omega,fun o ho=>by have := h.name o ho; omega,fun o ho=>by have := h.text o ho; omega,by have := h.sl; omega⟩
theorem FV.sz {p : Pt} (h : FV p) : Sz 20 p := by
 have hv := fun o ho=>(wF (o := o) (h.q.T o ho).v).2.2
 exact ⟨by have := h.ol; omega,by have := h.nl; omega,fun o ho=>by have := (hv o ho).1; omega,fun o ho=>by have := (hv o ho).2.1; omega,fun o ho=>by have := (hv o ho).2.2; omega,by rw [h.sl]; simp⟩
theorem FV.ne {p : Pt} (h : FV p) : 0 < p.ops.length := by
 have := h.q.ne
 cases e : p.ops with
 | nil=>exact (this e).elim
 | cons a l=>simp
end Go.Proofs.YtoeckfegggongaaGreatDoor
end
section
namespace Go.Proofs.YtoeckfegggongaaGreatDoor
open Go Go.Aw
structure Sm (p : Pt) : Prop where
 ops : p.ops.length ≤ 60
 needs : p.needs.length ≤ 1000
 ids : ∀ o ∈ p.ops,o.ids.length ≤ 150
 name : ∀ o ∈ p.ops,o.name.length ≤ 2000
 text : ∀ o ∈ p.ops,o.text.length ≤ 2000
 sl : p.sl.length ≤ 2000
theorem Sm.fit {p : Pt} (h : Sm p) : Fit p :=
 ⟨by have := h.ops; omega,by have := h.needs; omega,fun o ho=>by have := h.ids o ho; omega,fun o ho=>by have := h.name o ho; omega,fun o ho=>by have := h.text o ho; omega,by have := h.sl; omega⟩
theorem Wd {l : List (List UInt8)} (h : ∀ x ∈ l,x.length ≤ 2000) : (jF l).length ≤ (9 + 2000) * l.length + (qy l.length).length := by
 have := ve h (by omega)
 rw [jF,List.length_append]
 omega
structure Rn (p : Pt) : Prop where
 o : wC .i64 p.o
 s : wC .i64 p.s
 day : wC .i64 p.day
 needs : ∀ r ∈ p.needs,wC .i64 r.o ∧ wC .i64 r.s
 ops : ∀ o ∈ p.ops,(∀ x ∈ jE o,wC .i64 x) ∧ ∀ x ∈ o.ids,∀ y ∈ yR x,wC .i64 y
theorem vB {n : Int} (h : ∃ K w v,RepV K w (.int .i64 n) v) : wC .i64 n := by
 obtain ⟨K,w,v,h⟩ := h
 exact h.int_inv.2
theorem Jk {xs : List (List D)} (h : ∃ K w v,RepV K w (.slc xs) v) : ∀ x ∈ xs,∀ d ∈ x,∃ K w v,RepV K w d v := by
 obtain ⟨K,w,v,h⟩ := h
 intro x hx d hd
 rcases h.slc_inv with ⟨rfl,_⟩ | ⟨b,off,cap,sz',f,hvx,hc,hm,hs,hvis,hcell,hone,hrep⟩
 ·cases hx
 ·obtain ⟨i,hi,rfl⟩ := List.getElem_of_mem hx
  obtain ⟨j,hj,rfl⟩ := List.getElem_of_mem hd
  exact ⟨K,w,_,hrep i _ (List.getElem?_eq_getElem hi) j _ (List.getElem?_eq_getElem hj)⟩
theorem rep_pt {p : Pt} (h : ∀ d ∈ p.d,∃ K w v,RepV K w d v) : Rn p := by
 have h4 := Jk (h (.slc (qO p.needs)) (by simp [Pt.d]))
 have h5 := Jk (h (.slc (qM p.ops)) (by simp [Pt.d]))
 refine ⟨vB (h _ (by simp [Pt.d])),vB (h _ (by simp [Pt.d])),vB (h _ (by simp [Pt.d])),fun r hr=>?_,fun o ho=>?_⟩
 ·have hm : r.d ∈ qO p.needs := List.mem_map_of_mem hr
  exact ⟨vB (h4 _ hm _ (by simp [Rf.d])),vB (h4 _ hm _ (by simp [Rf.d]))⟩
 ·have hm : o.d ∈ qM p.ops := List.mem_map_of_mem ho
  have hr := h5 _ hm
  refine ⟨fun x hx=>vB (hr _ ?_),fun x hx=>?_⟩
  ·simp only [jE,yR,List.cons_append,List.nil_append,List.mem_cons,List.not_mem_nil,or_false] at hx
   simp only [OpP.d,List.mem_cons,D.int.injEq,true_and,reduceCtorEq,List.not_mem_nil,or_false,false_or]
   rcases hx with rfl | rfl | rfl | rfl | rfl | rfl | rfl | rfl | rfl | rfl <;> simp
  ·have h7 := Jk (hr (.slc (qV o.ids)) (by simp [OpP.d])) x.d (List.mem_map_of_mem hx)
   intro y hy
   simp only [yR,List.mem_cons,List.not_mem_nil,or_false] at hy
   rcases hy with rfl | rfl | rfl <;> exact vB (h7 _ (by simp [Id3.d]))
theorem gz_rn {bx : Nat} {p : Pt} {F : List D} {H : AH} {k : List D → AH → Prop} (hg : qK H bx = some (.cells p.d)) (h : Rn p → k F H) : Gz F H k := by
 intro K w t hs
 obtain ⟨hpb,c,T,hb,hcs,hrc⟩ := hs.hrel.ok bx _ (jp hg)
 refine ⟨F,H,K,h (rep_pt fun d hd=>?_),.refl K w,hs⟩
 have hd0 := @dE p
 obtain ⟨j,hj,rfl⟩ := List.getElem_of_mem hd
 obtain ⟨u,e1,e2,e3⟩ := hrc j _ (List.getElem?_eq_getElem hj)
 refine ⟨K,w,u,?_⟩
 have hm : p.d[j] ∈ p.d := List.getElem_mem hj
 generalize p.d[j] = d at e3 hm
 rw [hd0] at hm
 simp only [List.mem_cons,List.not_mem_nil,or_false] at hm
 rcases hm with rfl | rfl | rfl | rfl | rfl | rfl <;> exact e3
theorem vG {l : List Int} (h : ∀ x ∈ l,wC .i64 x) (hl : l.length ≤ 100000000) : (qN l).length ≤ 9 + 9 * l.length := by
 have h1 := wA h
 have h2 := kC (n := l.length) (by omega)
 simp only [qN,List.length_append]
 omega
theorem Vu {c : Nat} : ∀ {l : List OpP},(∀ o ∈ l,(qX o).length ≤ c) → (l.flatMap qX).length ≤ c * l.length
 | [],_=>by simp
 | o :: l,h=>by
  have h1 := Vu (c := c) (l := l) fun x hx=>h x (.tail _ hx)
  have h2 := h o (.head _)
  simp only [List.flatMap_cons,List.length_append,List.length_cons,Nat.mul_add,Nat.mul_one]
  omega
theorem QK {p : Pt} (hS : Sm p) (hR : Rn p) : (ji p).length ≤ 2000000 := by
 have h1 := vG (l := [p.o,p.s,p.day]) (by
  intro x hx
  simp only [List.mem_cons,List.not_mem_nil,or_false] at hx
  rcases hx with rfl | rfl | rfl
  ·exact hR.o
  ·exact hR.s
  ·exact hR.day) (by simp)
 have hn := hS.needs
 have h2 := vG (l := qT p.needs) (by
  intro x hx
  obtain ⟨r,hr,hx⟩ := List.mem_flatMap.1 hx
  have := hR.needs r hr
  simp only [List.mem_cons,List.not_mem_nil,or_false] at hx
  rcases hx with rfl | rfl
  ·exact this.1
  ·exact this.2) (by rw [jS]; omega)
 have ho := hS.ops
 have h3 := kC (n := p.ops.length) (by omega)
 have h4 := Vu (c := 9000) (l := p.ops) (by
  intro o ho
  obtain ⟨r1,r2⟩ := hR.ops o ho
  have i1 := hS.ids o ho
  have g1 := vG (l := jE o) r1 (by show 10 ≤ _; omega)
  have g2 := vG (l := o.ids.flatMap yR) (by
   intro x hx
   obtain ⟨y,hy,hx⟩ := List.mem_flatMap.1 hx
   exact r2 y hy x hx) (by rw [kx]; omega)
  have g3 := Wd (l := [o.name,o.text]) (by
   intro x hx
   simp only [List.mem_cons,List.not_mem_nil,or_false] at hx
   rcases hx with rfl | rfl
   ·exact hS.name o ho
   ·exact hS.text o ho)
  have g4 := kC (n := [o.name,o.text].length) (by simp)
  have e2 : ([o.name,o.text] : List (List UInt8)).length = 2 := rfl
  have e10 : (jE o).length = 10 := rfl
  rw [e2] at g3 g4
  rw [e10] at g1
  rw [kx] at g2
  simp only [qX,List.length_append]
  omega)
 have hs := hS.sl
 have h5 := kC (n := p.sl.length) (by omega)
 have e3 : ([p.o,p.s,p.day] : List Int).length = 3 := rfl
 rw [e3] at h1
 rw [jS] at h2
 simp only [ji,qH,List.length_append]
 omega
end Go.Proofs.YtoeckfegggongaaGreatDoor
end
