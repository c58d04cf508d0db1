/- A part of the proof of what the last text says: Gt8, Gt4, Gt5, Gt9. Conditions: those in each theorem. -/
import Derived.Test.YtpdhandimdibhaaGreatDoorN27
set_option linter.unusedVariables false
set_option linter.unusedSimpArgs false
set_option maxRecDepth 100000
set_option maxHeartbeats 16000000
open Nat renaming reduceSub → qa,reduceAdd → qb,reduceMul → qc,reduceEqDiff → qd,reduceLeDiff → qe,reduceBEq → qf
section
namespace Go.Proofs.YtpdhandimdibhaaGreatDoor
open Go Go.Aw
theorem spB_6 {n:Nat} {p:Pt} {a how bb near:Int} {b b4 b8 m cp kk:Nat} {F:List D} {H:AH} {R:D→AH→Prop} (hm:around how 20=6) (hn:n≤900) (hp:Sz n p) (n48:b4≠b8) (n4b:b4≠b) (n8b:b8≠b) (hk:kk<p.ops.length) (hF:Fr 278 [(1,.int .i64 a),(2,.int .i64 how),(3,.int .i64 bb),(4,.ptr b4 0),(8,.ptr b8 0),(11,.int .i64 (kk:Int)),(12,.int .i64 near)] F) (h:R (.agg ({p with ops:=p.ops.set kk {(p.ops.getD kk default) with k:=near}}:Pt).d) H):xcode Tryz.prog x5v_s38 F ((b,.cells ((qE p.ops).flatten++List.replicate m .any))::(b8,.cells [.int .i64 0,.int .i64 0,.int .i64 0,.own [],.own [],.str []])::(b4,.cells [.int .i64 p.o,.int .i64 p.s,.int .i64 p.day,.own (qM p.needs),.hgs b p.ops.length cp,.str p.sl])::H) (kK Tryz.prog [(.cell 8 26)] H.length R):=by
 obtain ⟨z,rfl⟩:∃z:Nat→D,_=z 0:: .int .i64 a:: .int .i64 how:: .int .i64 bb:: .ptr b4 0::zz z 5 3 (.ptr b8 0::zz z 9 2 (.int .i64 (kk:Int):: .int .i64 near::zz z 13 265 [])):=hF.lit
 try dsimp only [zz,qb] at*
 clear hF
 have hbig:=qt
 have wl:=wZ (rest:=List.replicate m .any) hk
 have ho:=qN hk
 have o1:=hp.ids _ ho
 have o2:=hp.name _ ho
 have o3:=hp.text _ ho
 obtain ⟨o,eo⟩:∃o,p.ops.getD kk default=o:=⟨_,rfl⟩
 rw [eo] at o1 o2 o3
 try rw [eo] at h
 simp+contextual only [wC,ql,qi,qg,qh,Int.reduceEq,n48,n4b,n8b,hk,Int.ofNat_lt,List.length_set,↓v7,↓XP,↓XU,qn,XW1,qa,qb,qc,qd,qe,qf,reduceCtorEq]
 refine qH (by omega) ?_
 rw [hm]
 simp+contextual only [wC,ql,qi,qg,qh,Int.reduceEq,n48,n4b,n8b,hk,Int.ofNat_lt,List.length_set,↓v7,↓XP,↓XU,qn,XW1,qa,qb,qc,qd,qe,qf,reduceCtorEq]
 refine fun _=>⟨by omega,?_⟩
 have e:=wr1 (rest:=List.replicate m .any) (v:= .int .i64 near) (o':={o with k:=near}) (j:=0) hk (by omega) (by rw [eo];rfl)
 try rw [Nat.add_zero] at e
 rw [e]
 refine jV (uc n4b n48 (by rw [List.length_set])) ?_
 simp+contextual only [wC,ql,qi,qg,qh,Int.reduceEq,n48,n4b,n8b,hk,Int.ofNat_lt,List.length_set,↓v7,↓XP,↓XU,qn,XW1,qa,qb,qc,qd,qe,qf,reduceCtorEq]
 exact h
theorem spB_7 {n:Nat} {p:Pt} {a how bb near:Int} {b b4 b8 m cp kk:Nat} {F:List D} {H:AH} {R:D→AH→Prop} (hm:around how 20=7) (hn:n≤900) (hp:Sz n p) (n48:b4≠b8) (n4b:b4≠b) (n8b:b8≠b) (hk:kk<p.ops.length) (hF:Fr 278 [(1,.int .i64 a),(2,.int .i64 how),(3,.int .i64 bb),(4,.ptr b4 0),(8,.ptr b8 0),(11,.int .i64 (kk:Int)),(12,.int .i64 near)] F) (h:R (.agg ({p with ops:=p.ops.set kk {(p.ops.getD kk default) with on:=⟨near,around bb 19,IntKind.i64.wrap (around (IntKind.i64.wrap (bb.tdiv 5)) 18 - 1)⟩}}:Pt).d) H):xcode Tryz.prog x5v_s38 F ((b,.cells ((qE p.ops).flatten++List.replicate m .any))::(b8,.cells [.int .i64 0,.int .i64 0,.int .i64 0,.own [],.own [],.str []])::(b4,.cells [.int .i64 p.o,.int .i64 p.s,.int .i64 p.day,.own (qM p.needs),.hgs b p.ops.length cp,.str p.sl])::H) (kK Tryz.prog [(.cell 8 26)] H.length R):=by
 obtain ⟨z,rfl⟩:∃z:Nat→D,_=z 0:: .int .i64 a:: .int .i64 how:: .int .i64 bb:: .ptr b4 0::zz z 5 3 (.ptr b8 0::zz z 9 2 (.int .i64 (kk:Int):: .int .i64 near::zz z 13 265 [])):=hF.lit
 try dsimp only [zz,qb] at*
 clear hF
 have hbig:=qt
 have wl:=wZ (rest:=List.replicate m .any) hk
 have ho:=qN hk
 have o1:=hp.ids _ ho
 have o2:=hp.name _ ho
 have o3:=hp.text _ ho
 obtain ⟨o,eo⟩:∃o,p.ops.getD kk default=o:=⟨_,rfl⟩
 rw [eo] at o1 o2 o3
 try rw [eo] at h
 simp+contextual only [wC,ql,qi,qg,qh,Int.reduceEq,n48,n4b,n8b,hk,Int.ofNat_lt,List.length_set,↓v7,↓XP,↓XU,qn,XW1,qa,qb,qc,qd,qe,qf,reduceCtorEq]
 refine qH (by omega) ?_
 rw [hm]
 simp+contextual only [wC,ql,qi,qg,qh,Int.reduceEq,n48,n4b,n8b,hk,Int.ofNat_lt,List.length_set,↓v7,↓XP,↓XU,qn,XW1,qa,qb,qc,qd,qe,qf,reduceCtorEq]
 refine fun _=>⟨_,fun _ _=>qH (by omega) ⟨rfl,rfl⟩,?_⟩
 simp+contextual only [wC,ql,qi,qg,qh,Int.reduceEq,n48,n4b,n8b,hk,Int.ofNat_lt,List.length_set,↓v7,↓XP,↓XU,qn,XW1,qa,qb,qc,qd,qe,qf,reduceCtorEq]
 refine fun _=>⟨_,fun _ _=>qH (by omega) ⟨rfl,rfl⟩,?_⟩
 simp+contextual only [wC,ql,qi,qg,qh,Int.reduceEq,n48,n4b,n8b,hk,Int.ofNat_lt,List.length_set,↓v7,↓XP,↓XU,qn,XW1,qa,qb,qc,qd,qe,qf,reduceCtorEq]
 refine fun _=>⟨by omega,?_⟩
 have e:=wrC3 (rest:=List.replicate m .any) (x:= .int .i64 (near)) (y:= .int .i64 (around bb 19)) (z:= .int .i64 (IntKind.i64.wrap (around (IntKind.i64.wrap (bb.tdiv 5)) 18 - 1))) (o':={o with on:=⟨near,around bb 19,IntKind.i64.wrap (around (IntKind.i64.wrap (bb.tdiv 5)) 18 - 1)⟩}) (j:=1) hk (by omega) (by rw [eo];rfl)
 try rw [Nat.add_zero] at e
 rw [e]
 refine jV (uc n4b n48 (by rw [List.length_set])) ?_
 simp+contextual only [wC,ql,qi,qg,qh,Int.reduceEq,n48,n4b,n8b,hk,Int.ofNat_lt,List.length_set,↓v7,↓XP,↓XU,qn,XW1,qa,qb,qc,qd,qe,qf,reduceCtorEq]
 exact h
theorem spB_8 {n:Nat} {p:Pt} {a how bb near:Int} {b b4 b8 m cp kk:Nat} {F:List D} {H:AH} {R:D→AH→Prop} (hm:around how 20=8) (hn:n≤900) (hp:Sz n p) (n48:b4≠b8) (n4b:b4≠b) (n8b:b8≠b) (hk:kk<p.ops.length) (hF:Fr 278 [(1,.int .i64 a),(2,.int .i64 how),(3,.int .i64 bb),(4,.ptr b4 0),(8,.ptr b8 0),(11,.int .i64 (kk:Int)),(12,.int .i64 near)] F) (h:R (.agg ({p with ops:=p.ops.set kk {(p.ops.getD kk default) with to:=⟨around bb 9,near,IntKind.i64.wrap (around (IntKind.i64.wrap (bb.tdiv 5)) 18 - 1)⟩}}:Pt).d) H):xcode Tryz.prog x5v_s38 F ((b,.cells ((qE p.ops).flatten++List.replicate m .any))::(b8,.cells [.int .i64 0,.int .i64 0,.int .i64 0,.own [],.own [],.str []])::(b4,.cells [.int .i64 p.o,.int .i64 p.s,.int .i64 p.day,.own (qM p.needs),.hgs b p.ops.length cp,.str p.sl])::H) (kK Tryz.prog [(.cell 8 26)] H.length R):=by
 obtain ⟨z,rfl⟩:∃z:Nat→D,_=z 0:: .int .i64 a:: .int .i64 how:: .int .i64 bb:: .ptr b4 0::zz z 5 3 (.ptr b8 0::zz z 9 2 (.int .i64 (kk:Int):: .int .i64 near::zz z 13 265 [])):=hF.lit
 try dsimp only [zz,qb] at*
 clear hF
 have hbig:=qt
 have wl:=wZ (rest:=List.replicate m .any) hk
 have ho:=qN hk
 have o1:=hp.ids _ ho
 have o2:=hp.name _ ho
 have o3:=hp.text _ ho
 obtain ⟨o,eo⟩:∃o,p.ops.getD kk default=o:=⟨_,rfl⟩
 rw [eo] at o1 o2 o3
 try rw [eo] at h
 simp+contextual only [wC,ql,qi,qg,qh,Int.reduceEq,n48,n4b,n8b,hk,Int.ofNat_lt,List.length_set,↓v7,↓XP,↓XU,qn,XW1,qa,qb,qc,qd,qe,qf,reduceCtorEq]
 refine qH (by omega) ?_
 rw [hm]
 simp+contextual only [wC,ql,qi,qg,qh,Int.reduceEq,n48,n4b,n8b,hk,Int.ofNat_lt,List.length_set,↓v7,↓XP,↓XU,qn,XW1,qa,qb,qc,qd,qe,qf,reduceCtorEq]
 refine fun _=>⟨_,fun _ _=>qH (by omega) ⟨rfl,rfl⟩,?_⟩
 simp+contextual only [wC,ql,qi,qg,qh,Int.reduceEq,n48,n4b,n8b,hk,Int.ofNat_lt,List.length_set,↓v7,↓XP,↓XU,qn,XW1,qa,qb,qc,qd,qe,qf,reduceCtorEq]
 refine fun _=>⟨_,fun _ _=>qH (by omega) ⟨rfl,rfl⟩,?_⟩
 simp+contextual only [wC,ql,qi,qg,qh,Int.reduceEq,n48,n4b,n8b,hk,Int.ofNat_lt,List.length_set,↓v7,↓XP,↓XU,qn,XW1,qa,qb,qc,qd,qe,qf,reduceCtorEq]
 refine fun _=>⟨by omega,?_⟩
 have e:=wrC3 (rest:=List.replicate m .any) (x:= .int .i64 (around bb 9)) (y:= .int .i64 (near)) (z:= .int .i64 (IntKind.i64.wrap (around (IntKind.i64.wrap (bb.tdiv 5)) 18 - 1))) (o':={o with to:=⟨around bb 9,near,IntKind.i64.wrap (around (IntKind.i64.wrap (bb.tdiv 5)) 18 - 1)⟩}) (j:=4) hk (by omega) (by rw [eo];rfl)
 try rw [Nat.add_zero] at e
 rw [e]
 refine jV (uc n4b n48 (by rw [List.length_set])) ?_
 simp+contextual only [wC,ql,qi,qg,qh,Int.reduceEq,n48,n4b,n8b,hk,Int.ofNat_lt,List.length_set,↓v7,↓XP,↓XU,qn,XW1,qa,qb,qc,qd,qe,qf,reduceCtorEq]
 exact h
theorem spB_9 {n:Nat} {p:Pt} {a how bb near:Int} {b b4 b8 m cp kk:Nat} {F:List D} {H:AH} {R:D→AH→Prop} (hm:around how 20=9) (hn:n≤900) (hp:Sz n p) (n48:b4≠b8) (n4b:b4≠b) (n8b:b8≠b) (hk:kk<p.ops.length) (hF:Fr 278 [(1,.int .i64 a),(2,.int .i64 how),(3,.int .i64 bb),(4,.ptr b4 0),(8,.ptr b8 0),(11,.int .i64 (kk:Int)),(12,.int .i64 near)] F) (h:R (.agg ({p with ops:=p.ops.set kk {(p.ops.getD kk default) with to:=(p.ops.getD kk default).on}}:Pt).d) H):xcode Tryz.prog x5v_s38 F ((b,.cells ((qE p.ops).flatten++List.replicate m .any))::(b8,.cells [.int .i64 0,.int .i64 0,.int .i64 0,.own [],.own [],.str []])::(b4,.cells [.int .i64 p.o,.int .i64 p.s,.int .i64 p.day,.own (qM p.needs),.hgs b p.ops.length cp,.str p.sl])::H) (kK Tryz.prog [(.cell 8 26)] H.length R):=by
 obtain ⟨z,rfl⟩:∃z:Nat→D,_=z 0:: .int .i64 a:: .int .i64 how:: .int .i64 bb:: .ptr b4 0::zz z 5 3 (.ptr b8 0::zz z 9 2 (.int .i64 (kk:Int):: .int .i64 near::zz z 13 265 [])):=hF.lit
 try dsimp only [zz,qb] at*
 clear hF
 have hbig:=qt
 have wl:=wZ (rest:=List.replicate m .any) hk
 have ho:=qN hk
 have o1:=hp.ids _ ho
 have o2:=hp.name _ ho
 have o3:=hp.text _ ho
 obtain ⟨o,eo⟩:∃o,p.ops.getD kk default=o:=⟨_,rfl⟩
 rw [eo] at o1 o2 o3
 try rw [eo] at h
 simp+contextual only [wC,ql,qi,qg,qh,Int.reduceEq,n48,n4b,n8b,hk,Int.ofNat_lt,List.length_set,↓v7,↓XP,↓XU,qn,XW1,qa,qb,qc,qd,qe,qf,reduceCtorEq]
 refine qH (by omega) ?_
 rw [hm]
 simp+contextual only [wC,ql,qi,qg,qh,Int.reduceEq,n48,n4b,n8b,hk,Int.ofNat_lt,List.length_set,↓v7,↓XP,↓XU,qn,XW1,qa,qb,qc,qd,qe,qf,reduceCtorEq]
 refine fun _=>⟨by omega,by rw [rd2 hk (by omega),eo];rfl,by omega,?_⟩
 rw [rd2 hk (by omega),eo]
 have e:=wr2 (rest:=List.replicate m .any) (v:=List.map D.view1 ((o.d.drop 1).take 3)) (o':={o with to:=o.on}) (j:=4) (m:=3) hk (by omega) (by rw [eo];rfl)
 try rw [Nat.add_zero] at e
 rw [e]
 refine jV (uc n4b n48 (by rw [List.length_set])) ?_
 simp+contextual only [wC,ql,qi,qg,qh,Int.reduceEq,n48,n4b,n8b,hk,Int.ofNat_lt,List.length_set,↓v7,↓XP,↓XU,qn,XW1,qa,qb,qc,qd,qe,qf,reduceCtorEq]
 exact h
theorem spB_10 {n:Nat} {p:Pt} {a how bb near:Int} {b b4 b8 m cp kk:Nat} {F:List D} {H:AH} {R:D→AH→Prop} (hm:around how 20=10) (hn:n≤900) (hp:Sz n p) (n48:b4≠b8) (n4b:b4≠b) (n8b:b8≠b) (hk:kk<p.ops.length) (hF:Fr 278 [(1,.int .i64 a),(2,.int .i64 how),(3,.int .i64 bb),(4,.ptr b4 0),(8,.ptr b8 0),(11,.int .i64 (kk:Int)),(12,.int .i64 near)] F) (h:R (.agg ({p with ops:=p.ops.set kk {(p.ops.getD kk default) with n:=([-2,-1,0,1,2,1023,1024,1048576,1048577,bb]:List Int).getD (around bb 10).toNat 0}}:Pt).d) H):xcode Tryz.prog x5v_s38 F ((b,.cells ((qE p.ops).flatten++List.replicate m .any))::(b8,.cells [.int .i64 0,.int .i64 0,.int .i64 0,.own [],.own [],.str []])::(b4,.cells [.int .i64 p.o,.int .i64 p.s,.int .i64 p.day,.own (qM p.needs),.hgs b p.ops.length cp,.str p.sl])::H) (kK Tryz.prog [(.cell 8 26)] H.length R):=by
 obtain ⟨z,rfl⟩:∃z:Nat→D,_=z 0:: .int .i64 a:: .int .i64 how:: .int .i64 bb:: .ptr b4 0::zz z 5 3 (.ptr b8 0::zz z 9 2 (.int .i64 (kk:Int):: .int .i64 near::zz z 13 265 [])):=hF.lit
 try dsimp only [zz,qb] at*
 clear hF
 have hbig:=qt
 have wl:=wZ (rest:=List.replicate m .any) hk
 have ho:=qN hk
 have o1:=hp.ids _ ho
 have o2:=hp.name _ ho
 have o3:=hp.text _ ho
 obtain ⟨o,eo⟩:∃o,p.ops.getD kk default=o:=⟨_,rfl⟩
 rw [eo] at o1 o2 o3
 try rw [eo] at h
 simp+contextual only [wC,ql,qi,qg,qh,Int.reduceEq,n48,n4b,n8b,hk,Int.ofNat_lt,List.length_set,↓v7,↓XP,↓XU,qn,XW1,qa,qb,qc,qd,qe,qf,reduceCtorEq]
 refine qH (by omega) ?_
 rw [hm]
 simp+contextual only [wC,ql,qi,qg,qh,Int.reduceEq,n48,n4b,n8b,hk,Int.ofNat_lt,List.length_set,↓v7,↓XP,↓XU,qn,XW1,qa,qb,qc,qd,qe,qf,reduceCtorEq]
 refine fun _=>⟨_,fun _ _=>qH (by omega) ⟨rfl,rfl⟩,?_⟩
 obtain ⟨r1,r2⟩:=qU (n:=bb) (most:=10) (by omega)
 generalize around bb 10=r at r1 r2 h ⊢
 obtain ⟨hv,e⟩:=zg (l:= [-2,-1,0,1,2,1023,1024,1048576,1048577,bb]) r1 r2
 generalize ([-2,-1,0,1,2,1023,1024,1048576,1048577,bb]:List Int).getD r.toNat 0=v at hv e h
 have e': [[D.int .i64 (-2)],[D.int .i64 (-1)],[D.int .i64 0],[D.int .i64 1],[D.int .i64 2],[D.int .i64 1023],[D.int .i64 1024],[D.int .i64 1048576],[D.int .i64 1048577],[D.int .i64 bb]].getD r.toNat []= [.int .i64 v]:=e
 simp+contextual only [wC,ql,qi,qg,qh,Int.reduceEq,n48,n4b,n8b,hk,Int.ofNat_lt,List.length_set,e',r1,show r<((10:Nat):Int) from r2,↓v7,↓XP,↓XU,qn,XW1,qa,qb,qc,qd,qe,qf,reduceCtorEq]
 refine fun _ _=>⟨by omega,?_⟩
 have e:=wr1 (rest:=List.replicate m .any) (v:= .int .i64 v) (o':={o with n:=v}) (j:=8) hk (by omega) (by rw [eo];rfl)
 try rw [Nat.add_zero] at e
 rw [e]
 refine jV (uc n4b n48 (by rw [List.length_set])) ?_
 simp+contextual only [wC,ql,qi,qg,qh,Int.reduceEq,n48,n4b,n8b,hk,Int.ofNat_lt,List.length_set,↓v7,↓XP,↓XU,qn,XW1,qa,qb,qc,qd,qe,qf,reduceCtorEq]
 exact h
theorem spB_11 {n:Nat} {p:Pt} {a how bb near:Int} {b b4 b8 m cp kk:Nat} {F:List D} {H:AH} {R:D→AH→Prop} (hm:around how 20=11) (hn:n≤900) (hp:Sz n p) (n48:b4≠b8) (n4b:b4≠b) (n8b:b8≠b) (hk:kk<p.ops.length) (hF:Fr 278 [(1,.int .i64 a),(2,.int .i64 how),(3,.int .i64 bb),(4,.ptr b4 0),(8,.ptr b8 0),(11,.int .i64 (kk:Int)),(12,.int .i64 near)] F) (h:R (.agg ({p with ops:=p.ops.set kk {(p.ops.getD kk default) with name:=List.take (around bb 18).toNat [115,105,120,116,101,101,110,32,108,101,116,116,101,114,115,33,33]}}:Pt).d) H):xcode Tryz.prog x5v_s38 F ((b,.cells ((qE p.ops).flatten++List.replicate m .any))::(b8,.cells [.int .i64 0,.int .i64 0,.int .i64 0,.own [],.own [],.str []])::(b4,.cells [.int .i64 p.o,.int .i64 p.s,.int .i64 p.day,.own (qM p.needs),.hgs b p.ops.length cp,.str p.sl])::H) (kK Tryz.prog [(.cell 8 26)] H.length R):=by
 obtain ⟨z,rfl⟩:∃z:Nat→D,_=z 0:: .int .i64 a:: .int .i64 how:: .int .i64 bb:: .ptr b4 0::zz z 5 3 (.ptr b8 0::zz z 9 2 (.int .i64 (kk:Int):: .int .i64 near::zz z 13 265 [])):=hF.lit
 try dsimp only [zz,qb] at*
 clear hF
 have hbig:=qt
 have wl:=wZ (rest:=List.replicate m .any) hk
 have ho:=qN hk
 have o1:=hp.ids _ ho
 have o2:=hp.name _ ho
 have o3:=hp.text _ ho
 obtain ⟨o,eo⟩:∃o,p.ops.getD kk default=o:=⟨_,rfl⟩
 rw [eo] at o1 o2 o3
 try rw [eo] at h
 simp+contextual only [wC,ql,qi,qg,qh,Int.reduceEq,n48,n4b,n8b,hk,Int.ofNat_lt,List.length_set,↓v7,↓XP,↓XU,qn,XW1,qa,qb,qc,qd,qe,qf,reduceCtorEq]
 refine qH (by omega) ?_
 rw [hm]
 simp+contextual only [wC,ql,qi,qg,qh,Int.reduceEq,n48,n4b,n8b,hk,Int.ofNat_lt,List.length_set,↓v7,↓XP,↓XU,qn,XW1,qa,qb,qc,qd,qe,qf,reduceCtorEq]
 refine fun _=>⟨_,fun _ _=>qH (by omega) ⟨rfl,rfl⟩,?_⟩
 obtain ⟨r1,r2⟩:=qU (n:=bb) (most:=18) (by omega)
 generalize around bb 18=r at r1 r2 h ⊢
 simp+contextual only [wC,ql,qi,qg,qh,Int.reduceEq,n48,n4b,n8b,hk,Int.ofNat_lt,List.length_set,↓v7,↓XP,↓XU,qn,XW1,qa,qb,qc,qd,qe,qf,reduceCtorEq]
 refine fun _=>⟨by omega,by omega,by omega,?_⟩
 have e:=wr1 (rest:=List.replicate m .any) (v:= .str (List.take r.toNat [115,105,120,116,101,101,110,32,108,101,116,116,101,114,115,33,33])) (o':={o with name:=List.take r.toNat [115,105,120,116,101,101,110,32,108,101,116,116,101,114,115,33,33]}) (j:=9) hk (by omega) (by rw [eo];rfl)
 try rw [Nat.add_zero] at e
 rw [e]
 refine jV (uc n4b n48 (by rw [List.length_set])) ?_
 simp+contextual only [wC,ql,qi,qg,qh,Int.reduceEq,n48,n4b,n8b,hk,Int.ofNat_lt,List.length_set,↓v7,↓XP,↓XU,qn,XW1,qa,qb,qc,qd,qe,qf,reduceCtorEq]
 exact h
theorem spB_12 {n:Nat} {p:Pt} {a how bb near:Int} {b b4 b8 m cp kk:Nat} {F:List D} {H:AH} {R:D→AH→Prop} (hm:around how 20=12) (hn:n≤900) (hp:Sz n p) (n48:b4≠b8) (n4b:b4≠b) (n8b:b8≠b) (hk:kk<p.ops.length) (hF:Fr 278 [(1,.int .i64 a),(2,.int .i64 how),(3,.int .i64 bb),(4,.ptr b4 0),(8,.ptr b8 0),(11,.int .i64 (kk:Int)),(12,.int .i64 near)] F) (h:R (.agg ({p with ops:=p.ops.set kk {(p.ops.getD kk default) with text:=List.map unbyte (List.replicate (([0,1,1024,1025]:List Int).getD (around bb 4).toNat 0).toNat [D.int .u8 0])}}:Pt).d) H):xcode Tryz.prog x5v_s38 F ((b,.cells ((qE p.ops).flatten++List.replicate m .any))::(b8,.cells [.int .i64 0,.int .i64 0,.int .i64 0,.own [],.own [],.str []])::(b4,.cells [.int .i64 p.o,.int .i64 p.s,.int .i64 p.day,.own (qM p.needs),.hgs b p.ops.length cp,.str p.sl])::H) (kK Tryz.prog [(.cell 8 26)] H.length R):=by
 obtain ⟨z,rfl⟩:∃z:Nat→D,_=z 0:: .int .i64 a:: .int .i64 how:: .int .i64 bb:: .ptr b4 0::zz z 5 3 (.ptr b8 0::zz z 9 2 (.int .i64 (kk:Int):: .int .i64 near::zz z 13 265 [])):=hF.lit
 try dsimp only [zz,qb] at*
 clear hF
 have hbig:=qt
 have wl:=wZ (rest:=List.replicate m .any) hk
 have ho:=qN hk
 have o1:=hp.ids _ ho
 have o2:=hp.name _ ho
 have o3:=hp.text _ ho
 obtain ⟨o,eo⟩:∃o,p.ops.getD kk default=o:=⟨_,rfl⟩
 rw [eo] at o1 o2 o3
 try rw [eo] at h
 simp+contextual only [wC,ql,qi,qg,qh,Int.reduceEq,n48,n4b,n8b,hk,Int.ofNat_lt,List.length_set,↓v7,↓XP,↓XU,qn,XW1,qa,qb,qc,qd,qe,qf,reduceCtorEq]
 refine qH (by omega) ?_
 rw [hm]
 simp+contextual only [wC,ql,qi,qg,qh,Int.reduceEq,n48,n4b,n8b,hk,Int.ofNat_lt,List.length_set,↓v7,↓XP,↓XU,qn,XW1,qa,qb,qc,qd,qe,qf,reduceCtorEq]
 refine fun _=>⟨_,fun _ _=>qH (by omega) ⟨rfl,rfl⟩,?_⟩
 obtain ⟨r1,r2⟩:=qU (n:=bb) (most:=4) (by omega)
 generalize around bb 4=r at r1 r2 h ⊢
 obtain ⟨hv,e⟩:=zg (l:= [0,1,1024,1025]) r1 r2
 generalize ([0,1,1024,1025]:List Int).getD r.toNat 0=v at hv e h
 have hv':0≤v∧v≤1025:=by
  simp only [List.mem_cons,List.not_mem_nil,or_false] at hv
  omega
 have e': [[D.int .i64 0],[D.int .i64 1],[D.int .i64 1024],[D.int .i64 1025]].getD r.toNat []= [.int .i64 v]:=e
 simp+contextual only [wC,ql,qi,qg,qh,Int.reduceEq,n48,n4b,n8b,hk,Int.ofNat_lt,List.length_set,e',r1,show r<((4:Nat):Int) from r2,↓v7,↓XP,↓XU,qn,XW1,qa,qb,qc,qd,qe,qf,reduceCtorEq]
 refine fun _ _=>⟨by omega,ZP (by omega),ZG,fun _=>⟨by omega,?_⟩⟩
 have e:=wr1 (rest:=List.replicate m .any) (v:= .str (List.map unbyte (List.replicate v.toNat [D.int .u8 0]))) (o':={o with text:=List.map unbyte (List.replicate v.toNat [D.int .u8 0])}) (j:=10) hk (by omega) (by rw [eo];rfl)
 try rw [Nat.add_zero] at e
 rw [e]
 refine jV (uc n4b n48 (by rw [List.length_set])) ?_
 simp+contextual only [wC,ql,qi,qg,qh,Int.reduceEq,n48,n4b,n8b,hk,Int.ofNat_lt,List.length_set,↓v7,↓XP,↓XU,qn,XW1,qa,qb,qc,qd,qe,qf,reduceCtorEq]
 exact h
theorem spB_13 {n:Nat} {p:Pt} {a how bb near:Int} {b b4 b8 m cp kk:Nat} {F:List D} {H:AH} {R:D→AH→Prop} (hm:around how 20=13) (hn:n≤900) (hp:Sz n p) (n48:b4≠b8) (n4b:b4≠b) (n8b:b8≠b) (hk:kk<p.ops.length) (hF:Fr 278 [(1,.int .i64 a),(2,.int .i64 how),(3,.int .i64 bb),(4,.ptr b4 0),(8,.ptr b8 0),(11,.int .i64 (kk:Int)),(12,.int .i64 near)] F) (h:R (.agg ({p with ops:=p.ops.set kk {(p.ops.getD kk default) with a:=around bb 3,b:=around bb 5}}:Pt).d) H):xcode Tryz.prog x5v_s38 F ((b,.cells ((qE p.ops).flatten++List.replicate m .any))::(b8,.cells [.int .i64 0,.int .i64 0,.int .i64 0,.own [],.own [],.str []])::(b4,.cells [.int .i64 p.o,.int .i64 p.s,.int .i64 p.day,.own (qM p.needs),.hgs b p.ops.length cp,.str p.sl])::H) (kK Tryz.prog [(.cell 8 26)] H.length R):=by
 obtain ⟨z,rfl⟩:∃z:Nat→D,_=z 0:: .int .i64 a:: .int .i64 how:: .int .i64 bb:: .ptr b4 0::zz z 5 3 (.ptr b8 0::zz z 9 2 (.int .i64 (kk:Int):: .int .i64 near::zz z 13 265 [])):=hF.lit
 try dsimp only [zz,qb] at*
 clear hF
 have hbig:=qt
 have wl:=wZ (rest:=List.replicate m .any) hk
 have ho:=qN hk
 have o1:=hp.ids _ ho
 have o2:=hp.name _ ho
 have o3:=hp.text _ ho
 obtain ⟨o,eo⟩:∃o,p.ops.getD kk default=o:=⟨_,rfl⟩
 rw [eo] at o1 o2 o3
 try rw [eo] at h
 simp+contextual only [wC,ql,qi,qg,qh,Int.reduceEq,n48,n4b,n8b,hk,Int.ofNat_lt,List.length_set,↓v7,↓XP,↓XU,qn,XW1,qa,qb,qc,qd,qe,qf,reduceCtorEq]
 refine qH (by omega) ?_
 rw [hm]
 simp+contextual only [wC,ql,qi,qg,qh,Int.reduceEq,n48,n4b,n8b,hk,Int.ofNat_lt,List.length_set,↓v7,↓XP,↓XU,qn,XW1,qa,qb,qc,qd,qe,qf,reduceCtorEq]
 refine fun _=>⟨_,fun _ _=>qH (by omega) ⟨rfl,rfl⟩,?_⟩
 simp+contextual only [wC,ql,qi,qg,qh,Int.reduceEq,n48,n4b,n8b,hk,Int.ofNat_lt,List.length_set,↓v7,↓XP,↓XU,qn,XW1,qa,qb,qc,qd,qe,qf,reduceCtorEq]
 refine fun _=>⟨_,fun _ _=>qH (by omega) ⟨rfl,rfl⟩,?_⟩
 simp+contextual only [wC,ql,qi,qg,qh,Int.reduceEq,n48,n4b,n8b,hk,Int.ofNat_lt,List.length_set,↓v7,↓XP,↓XU,qn,XW1,qa,qb,qc,qd,qe,qf,reduceCtorEq]
 refine fun _=>⟨by omega,?_⟩
 have e:=wrC2 (rest:=List.replicate m .any) (x:= .int .i64 (around bb 3)) (y:= .int .i64 (around bb 5)) (o':={o with a:=around bb 3,b:=around bb 5}) (j:=11) hk (by omega) (by rw [eo];rfl)
 try rw [Nat.add_zero] at e
 rw [e]
 refine jV (uc n4b n48 (by rw [List.length_set])) ?_
 simp+contextual only [wC,ql,qi,qg,qh,Int.reduceEq,n48,n4b,n8b,hk,Int.ofNat_lt,List.length_set,↓v7,↓XP,↓XU,qn,XW1,qa,qb,qc,qd,qe,qf,reduceCtorEq]
 exact h
theorem spB_14 {n:Nat} {p:Pt} {a how bb near:Int} {b b4 b8 m cp kk:Nat} {F:List D} {H:AH} {R:D→AH→Prop} (hm:around how 20=14) (hn:n≤900) (hp:Sz n p) (n48:b4≠b8) (n4b:b4≠b) (n8b:b8≠b) (hk:kk<p.ops.length) (hF:Fr 278 [(1,.int .i64 a),(2,.int .i64 how),(3,.int .i64 bb),(4,.ptr b4 0),(8,.ptr b8 0),(11,.int .i64 (kk:Int)),(12,.int .i64 near)] F) (h:R (.agg ({p with ops:=p.ops.set kk {(p.ops.getD kk default) with ids:=⟨1,1,near⟩::(p.ops.getD kk default).ids}}:Pt).d) H):xcode Tryz.prog x5v_s38 F ((b,.cells ((qE p.ops).flatten++List.replicate m .any))::(b8,.cells [.int .i64 0,.int .i64 0,.int .i64 0,.own [],.own [],.str []])::(b4,.cells [.int .i64 p.o,.int .i64 p.s,.int .i64 p.day,.own (qM p.needs),.hgs b p.ops.length cp,.str p.sl])::H) (kK Tryz.prog [(.cell 8 26)] H.length R):=by
 obtain ⟨z,rfl⟩:∃z:Nat→D,_=z 0:: .int .i64 a:: .int .i64 how:: .int .i64 bb:: .ptr b4 0::zz z 5 3 (.ptr b8 0::zz z 9 2 (.int .i64 (kk:Int):: .int .i64 near::zz z 13 265 [])):=hF.lit
 try dsimp only [zz,qb] at*
 clear hF
 have hbig:=qt
 have wl:=wZ (rest:=List.replicate m .any) hk
 have ho:=qN hk
 have o1:=hp.ids _ ho
 have o2:=hp.name _ ho
 have o3:=hp.text _ ho
 obtain ⟨o,eo⟩:∃o,p.ops.getD kk default=o:=⟨_,rfl⟩
 rw [eo] at o1 o2 o3
 try rw [eo] at h
 simp+contextual only [wC,ql,qi,qg,qh,Int.reduceEq,n48,n4b,n8b,hk,Int.ofNat_lt,List.length_set,↓v7,↓XP,↓XU,qn,XW1,qa,qb,qc,qd,qe,qf,reduceCtorEq]
 refine qH (by omega) ?_
 rw [hm]
 simp+contextual only [wC,ql,qi,qg,qh,Int.reduceEq,n48,n4b,n8b,hk,Int.ofNat_lt,List.length_set,↓v7,↓XP,↓XU,qn,XW1,qa,qb,qc,qd,qe,qf,reduceCtorEq]
 rw [rd1 hk (by omega),eo,show o.d[7]?=some (.slc (qI o.ids)) from rfl]
 simp+contextual only [wC,ql,qi,qg,qh,Int.reduceEq,n48,n4b,n8b,hk,Int.ofNat_lt,List.length_set,↓v7,↓XP,↓XU,qn,XW1,qa,qb,qc,qd,qe,qf,reduceCtorEq]
 have il:(qI o.ids).length=o.ids.length:=by simp [qI]
 refine fun _ _=>⟨zV,by omega,by omega,?_⟩
 rw [zA]
 refine gz_th (Gz.viewC (bx:=b) (j:=kk*13+7) jS (by rw [List.getElem?_set_self (by omega)]) ?_)
 rw [uw,List.set_set]
 have e:=wr1 (rest:=List.replicate m .any) (v:= .slc (qI (⟨1,1,near⟩::o.ids))) (o':={o with ids:=⟨1,1,near⟩::o.ids}) (j:=7) hk (by omega) (by rw [eo];rfl)
 rw [show ([D.int .i64 1,D.int .i64 1,D.int .i64 near]::qI o.ids)=qI (⟨1,1,near⟩::o.ids) from rfl,e]
 refine Gz.of_fz (uc n4b n48 (by rw [List.length_set])) ?_
 simp+contextual only [wC,ql,qi,qg,qh,Int.reduceEq,n48,n4b,n8b,hk,Int.ofNat_lt,List.length_set,↓v7,↓XP,↓XU,qn,XW1,qa,qb,qc,qd,qe,qf,reduceCtorEq]
 exact h
theorem spB_15 {n:Nat} {p:Pt} {a how bb near:Int} {b b4 b8 m cp kk:Nat} {F:List D} {H:AH} {R:D→AH→Prop} (hm:around how 20=15) (hn:n≤900) (hp:Sz n p) (n48:b4≠b8) (n4b:b4≠b) (n8b:b8≠b) (hk:kk<p.ops.length) (hF:Fr 278 [(1,.int .i64 a),(2,.int .i64 how),(3,.int .i64 bb),(4,.ptr b4 0),(8,.ptr b8 0),(11,.int .i64 (kk:Int)),(12,.int .i64 near)] F) (h:R (.agg ({p with ops:=p.ops.set kk ⟨16,⟨1,1,0⟩,wE,[⟨1,1,2⟩,⟨1,1,around bb 4⟩],IntKind.i64.wrap (around (IntKind.i64.wrap (bb.tdiv 4)) 5 - 2),[],[],0,0⟩}:Pt).d) H):xcode Tryz.prog x5v_s38 F ((b,.cells ((qE p.ops).flatten++List.replicate m .any))::(b8,.cells [.int .i64 0,.int .i64 0,.int .i64 0,.own [],.own [],.str []])::(b4,.cells [.int .i64 p.o,.int .i64 p.s,.int .i64 p.day,.own (qM p.needs),.hgs b p.ops.length cp,.str p.sl])::H) (kK Tryz.prog [(.cell 8 26)] H.length R):=by
 obtain ⟨z,rfl⟩:∃z:Nat→D,_=z 0:: .int .i64 a:: .int .i64 how:: .int .i64 bb:: .ptr b4 0::zz z 5 3 (.ptr b8 0::zz z 9 2 (.int .i64 (kk:Int):: .int .i64 near::zz z 13 265 [])):=hF.lit
 try dsimp only [zz,qb] at*
 clear hF
 have hbig:=qt
 have wl:=wZ (rest:=List.replicate m .any) hk
 have ho:=qN hk
 have o1:=hp.ids _ ho
 have o2:=hp.name _ ho
 have o3:=hp.text _ ho
 obtain ⟨o,eo⟩:∃o,p.ops.getD kk default=o:=⟨_,rfl⟩
 rw [eo] at o1 o2 o3
 try rw [eo] at h
 simp+contextual only [wC,ql,qi,qg,qh,Int.reduceEq,n48,n4b,n8b,hk,Int.ofNat_lt,List.length_set,↓v7,↓XP,↓XU,qn,XW1,qa,qb,qc,qd,qe,qf,reduceCtorEq]
 refine qH (by omega) ?_
 rw [hm]
 simp+contextual only [wC,ql,qi,qg,qh,Int.reduceEq,n48,n4b,n8b,hk,Int.ofNat_lt,List.length_set,↓v7,↓XP,↓XU,qn,XW1,qa,qb,qc,qd,qe,qf,reduceCtorEq]
 refine fun _=>⟨_,fun _ _=>qH (by omega) ⟨rfl,rfl⟩,?_⟩
 simp+contextual only [wC,ql,qi,qg,qh,Int.reduceEq,n48,n4b,n8b,hk,Int.ofNat_lt,List.length_set,↓v7,↓XP,↓XU,qn,XW1,qa,qb,qc,qd,qe,qf,reduceCtorEq]
 refine fun _=>⟨_,fun _ _=>qH (by omega) ⟨rfl,rfl⟩,?_⟩
 simp+contextual only [wC,ql,qi,qg,qh,Int.reduceEq,n48,n4b,n8b,hk,Int.ofNat_lt,List.length_set,↓v7,↓XP,↓XU,qn,XW1,qa,qb,qc,qd,qe,qf,reduceCtorEq]
 refine fun _=>⟨by omega,?_⟩
 have e:=wrC13 (l:=p.ops) (rest:=List.replicate m .any) (o':=⟨16,⟨1,1,0⟩,wE,[⟨1,1,2⟩,⟨1,1,around bb 4⟩],IntKind.i64.wrap (around (IntKind.i64.wrap (bb.tdiv 4)) 5 - 2),[],[],0,0⟩) hk
 simp only [OpP.d,qI,Id3.d,wE,List.map_cons,List.map_nil,List.cons_append,List.nil_append] at e
 rw [e]
 refine jV (uc n4b n48 (by rw [List.length_set])) ?_
 simp+contextual only [wC,ql,qi,qg,qh,Int.reduceEq,n48,n4b,n8b,hk,Int.ofNat_lt,List.length_set,↓v7,↓XP,↓XU,qn,XW1,qa,qb,qc,qd,qe,qf,reduceCtorEq]
 exact h
theorem spB_19 {n:Nat} {p:Pt} {a how bb near:Int} {b b4 b8 m cp kk:Nat} {F:List D} {H:AH} {R:D→AH→Prop} (hm:around how 20=19) (hn:n≤900) (hp:Sz n p) (n48:b4≠b8) (n4b:b4≠b) (n8b:b8≠b) (hk:kk<p.ops.length) (hF:Fr 278 [(1,.int .i64 a),(2,.int .i64 how),(3,.int .i64 bb),(4,.ptr b4 0),(8,.ptr b8 0),(11,.int .i64 (kk:Int)),(12,.int .i64 near)] F) (h:R (.agg ({p with ops:=p.ops.set kk {(p.ops.getD kk default) with k:=IntKind.i64.wrap (1+around bb 18)}}:Pt).d) H):xcode Tryz.prog x5v_s38 F ((b,.cells ((qE p.ops).flatten++List.replicate m .any))::(b8,.cells [.int .i64 0,.int .i64 0,.int .i64 0,.own [],.own [],.str []])::(b4,.cells [.int .i64 p.o,.int .i64 p.s,.int .i64 p.day,.own (qM p.needs),.hgs b p.ops.length cp,.str p.sl])::H) (kK Tryz.prog [(.cell 8 26)] H.length R):=by
 obtain ⟨z,rfl⟩:∃z:Nat→D,_=z 0:: .int .i64 a:: .int .i64 how:: .int .i64 bb:: .ptr b4 0::zz z 5 3 (.ptr b8 0::zz z 9 2 (.int .i64 (kk:Int):: .int .i64 near::zz z 13 265 [])):=hF.lit
 try dsimp only [zz,qb] at*
 clear hF
 have hbig:=qt
 have wl:=wZ (rest:=List.replicate m .any) hk
 have ho:=qN hk
 have o1:=hp.ids _ ho
 have o2:=hp.name _ ho
 have o3:=hp.text _ ho
 obtain ⟨o,eo⟩:∃o,p.ops.getD kk default=o:=⟨_,rfl⟩
 rw [eo] at o1 o2 o3
 try rw [eo] at h
 simp+contextual only [wC,ql,qi,qg,qh,Int.reduceEq,n48,n4b,n8b,hk,Int.ofNat_lt,List.length_set,↓v7,↓XP,↓XU,qn,XW1,qa,qb,qc,qd,qe,qf,reduceCtorEq]
 refine qH (by omega) ?_
 rw [hm]
 simp+contextual only [wC,ql,qi,qg,qh,Int.reduceEq,n48,n4b,n8b,hk,Int.ofNat_lt,List.length_set,↓v7,↓XP,↓XU,qn,XW1,qa,qb,qc,qd,qe,qf,reduceCtorEq]
 refine fun _=>⟨_,fun _ _=>qH (by omega) ⟨rfl,rfl⟩,?_⟩
 simp+contextual only [wC,ql,qi,qg,qh,Int.reduceEq,n48,n4b,n8b,hk,Int.ofNat_lt,List.length_set,↓v7,↓XP,↓XU,qn,XW1,qa,qb,qc,qd,qe,qf,reduceCtorEq]
 refine fun _=>⟨by omega,?_⟩
 have e:=wr1 (rest:=List.replicate m .any) (v:= .int .i64 (IntKind.i64.wrap (1+around bb 18))) (o':={o with k:=IntKind.i64.wrap (1+around bb 18)}) (j:=0) hk (by omega) (by rw [eo];rfl)
 try rw [Nat.add_zero] at e
 rw [e]
 refine jV (uc n4b n48 (by rw [List.length_set])) ?_
 simp+contextual only [wC,ql,qi,qg,qh,Int.reduceEq,n48,n4b,n8b,hk,Int.ofNat_lt,List.length_set,↓v7,↓XP,↓XU,qn,XW1,qa,qb,qc,qd,qe,qf,reduceCtorEq]
 exact h
end Go.Proofs.YtpdhandimdibhaaGreatDoor
end
section
namespace Go.Proofs.YtpdhandimdibhaaGreatDoor
open Go Go.Aw
theorem spA_3 {n:Nat} {p:Pt} {a how bb kk near:Int} {b4 b8:Nat} {F:List D} {H:AH} {R:D→AH→Prop} (hm:around how 20=3) (hn:n≤900) (hp:Sz n p) (n48:b4≠b8) (hF:Fr 278 [(1,.int .i64 a),(2,.int .i64 how),(3,.int .i64 bb),(4,.ptr b4 0),(8,.ptr b8 0),(11,.int .i64 kk),(12,.int .i64 near)] F) (h:R (.agg ({p with needs:=p.needs++ [⟨IntKind.i64.wrap (around bb 10 - 1),IntKind.i64.wrap (around (IntKind.i64.wrap (bb.tdiv 10)) 19 - 1)⟩]}:Pt).d) H):xcode Tryz.prog x5_s38 F ((b8,.cells [.int .i64 0,.int .i64 0,.int .i64 0,.own [],.own [],.str []])::(b4,.cells [.int .i64 p.o,.int .i64 p.s,.int .i64 p.day,.own (qM p.needs),.own (qE p.ops),.str p.sl])::H) (kK Tryz.prog [(.cell 8 26)] H.length R):=by
 obtain ⟨z,rfl⟩:∃z:Nat→D,_=z 0:: .int .i64 a:: .int .i64 how:: .int .i64 bb:: .ptr b4 0::zz z 5 3 (.ptr b8 0::zz z 9 2 (.int .i64 kk:: .int .i64 near::zz z 13 265 [])):=hF.lit
 try dsimp only [zz,qb] at*
 clear hF
 have hbig:=qt
 simp+contextual only [x5,ql,qi,qg,qh,Int.reduceEq,n48,↓U5,↓XP,↓XU,qn,XW1,qa,qb,qc,qd,qe,qf,reduceCtorEq]
 refine qH (by omega) ?_
 rw [hm]
 simp+contextual only [x5,ql,qi,qg,qh,Int.reduceEq,n48,↓U5,↓XP,↓XU,qn,XW1,qa,qb,qc,qd,qe,qf,reduceCtorEq]
 refine fun _=>?_
 rw [zA]
 refine Gz.giveA (bx:=b4) (j:=3) (xs:=qM p.needs) (by rw [qg n48,jS]) rfl (fun b cap H' g1 g2 g3=>?_)
 simp+contextual only [x5,ql,qi,qg,qh,Int.reduceEq,n48,g1,↓U5,↓XP,↓XU,qn,XW1,qa,qb,qc,qd,qe,qf,reduceCtorEq]
 refine ⟨_,fun _ _=>qH (by omega) ⟨rfl,rfl⟩,?_⟩
 simp+contextual only [x5,ql,qi,qg,qh,Int.reduceEq,n48,g1,↓U5,↓XP,↓XU,qn,XW1,qa,qb,qc,qd,qe,qf,reduceCtorEq]
 obtain ⟨r1,r2⟩:=qU (n:=bb) (most:=10) (by omega)
 obtain ⟨r3,r4⟩:=qU (n:=IntKind.i64.wrap (bb.tdiv 10)) (most:=19) (by omega)
 refine fun _=>⟨_,fun _ _=>qH (by omega) ⟨rfl,rfl⟩,?_⟩
 simp+contextual only [x5,ql,qi,qg,qh,Int.reduceEq,n48,g1,↓U5,↓XP,↓XU,qn,XW1,qa,qb,qc,qd,qe,qf,reduceCtorEq]
 intros
 rw [ZI]
 refine Gz.takeS (s:=64) (b:=b) (cap:=cap) (xs:=qM p.needs) rfl g2 ?_
 rw [g3]
 simp+contextual only [x5,ql,qi,qg,qh,Int.reduceEq,n48,↓U5,↓XP,↓XU,qn,XW1,qa,qb,qc,qd,qe,qf,reduceCtorEq]
 rw [show ∀x y,qM p.needs++ [[.int .i64 x,.int .i64 y]]=qM (p.needs++ [⟨x,y⟩]) from fun x y=>by simp [qM,Rf.d]]
 have l1:=hp.ops
 have l2:=hp.needs
 exact ⟨zJ,by omega,by omega,h⟩
end Go.Proofs.YtpdhandimdibhaaGreatDoor
end
section
namespace Go.Proofs.YtpdhandimdibhaaGreatDoor
open Go Go.Aw
structure Ext (n i:Nat) (l:List OpP):Prop where
 len:l.length=i
 ids:∀o∈l,o.ids.length≤100+n
 name:∀o∈l,o.name.length≤2000
 text:∀o∈l,o.text.length≤2000
theorem Ext.nil {n:Nat}:Ext n 0 []:=⟨rfl,by simp,by simp,by simp⟩
theorem Ext.add {n i:Nat} {l:List OpP} {o:OpP} (h:Ext n i l) (h1:o.ids.length≤100+n) (h2:o.name.length≤2000) (h3:o.text.length≤2000):Ext n (i+1) (l++ [o]):=by
 refine ⟨by simp [h.len],fun x hx=>?_,fun x hx=>?_,fun x hx=>?_⟩<;>rcases List.mem_append.1 hx with hx|hx
 ·exact h.ids x hx
 ·rw [List.mem_singleton.1 hx];exact h1
 ·exact h.name x hx
 ·rw [List.mem_singleton.1 hx];exact h2
 ·exact h.text x hx
 ·rw [List.mem_singleton.1 hx];exact h3
theorem Ext.sz {n i:Nat} {p:Pt} {l:List OpP} (h:Ext n i l) (hi:i≤14) (hp:Sz n p):Sz (n+14) {p with ops:=p.ops++l}:=
 (hp.more (m:=14) (by rw [h.len];exact hi) h.ids h.name h.text)
def QT (i:Nat):List Rf:=(List.range i).map fun k:Nat=>(⟨(k:Int),1⟩:Rf)
theorem Yr {i:Nat}:(QT i).length=i:=by simp [QT]
theorem Uf {i:Nat}:QT (i+1)=QT i++ [⟨(i:Int),1⟩]:=by simp [QT,List.range_succ]
def glO (bb:Int):OpP:={jI with k:=7,on:=⟨0,1,0⟩,text:=(List.replicate (900+around bb 125).toNat [D.int .u8 0]).map unbyte}
theorem sp_L18 {p:Pt} {bb:Int} {b4 b8:Nat} {H:AH} {Q:AQ} {F:List D} (n48:b4≠b8) {i:Nat} (hi:i=0) (hF:Fr 278 [(3,.int .i64 bb),(4,.ptr b4 0),(8,.ptr b8 0),(15,.int .i64 (i:Int))] F)
  (hE:∀F' l,Fr 278 [(4,.ptr b4 0),(8,.ptr b8 0)] F'→l=QT (7+around bb 4).toNat→Q (.exit 5) F' ((b8,AO.cells [.int .i64 0,.int .i64 0,.int .i64 0,.own [],.own [],.str []])::(b4,AO.cells [.int .i64 p.o,.int .i64 p.s,.int .i64 p.day,.own (qM l),.own (qE p.ops),.str p.sl])::H)) {l:List Rf} (hl:l= []):XW Tryz.prog x5_L8 F ((b8,AO.cells [.int .i64 0,.int .i64 0,.int .i64 0,.own [],.own [],.str []])::(b4,AO.cells [.int .i64 p.o,.int .i64 p.s,.int .i64 p.day,.own (qM l),.own (qE p.ops),.str p.sl])::H) Q:=by
 have hbig:=qt
 obtain ⟨r1,r2⟩:=qU (n:=bb) (most:=4) (by omega)
 refine XW.loopK hm (fun F H'=>∃(i:Nat) (l:List Rf),(i:Int)≤7+around bb 4∧l=QT i∧Fr 278 [(3,.int .i64 bb),(4,.ptr b4 0),(8,.ptr b8 0),(15,.int .i64 (i:Int))] F∧((b8,AO.cells [.int .i64 0,.int .i64 0,.int .i64 0,.own [],.own [],.str []])::(b4,AO.cells [.int .i64 p.o,.int .i64 p.s,.int .i64 p.day,.own (qM l),.own (qE p.ops),.str p.sl])::H)=H') (fun F H=>match F.getD 15 .any with| .int _ n'=>10 - n'.toNat|_=>0) ⟨0,[],by omega,rfl,by subst hi;exact hF,by rw [hl]⟩ ?_
 clear hF hi hl i l
 rintro _ _ ⟨i,l,hi,hl,hF,rfl⟩ K hN hE' hR
 have hll:l.length=i:=by rw [hl,Yr]
 obtain ⟨z,rfl⟩:∃z:Nat→D,_=zz z 0 3 (.int .i64 bb:: .ptr b4 0::zz z 5 3 (.ptr b8 0::zz z 9 6 (.int .i64 (i:Int)::zz z 16 262 []))):=hF.lit
 try dsimp only [zz,qb] at*
 clear hF hR
 simp+contextual only [x5,ql,qi,qg,qh,n48,↓U5,↓XP,↓XU,qn,XW1,qa,qb,qc,qd,qe,qf,reduceCtorEq]
 intros
 refine qH (by omega) ?_
 generalize around bb 4=r at r1 r2 hi hN hE ⊢
 simp+contextual only [x5,ql,qi,qg,qh,n48,qJ (show -9223372036854775808≤7+r by omega) (by omega),↓U5,↓XP,↓XU,qn,XW1,qa,qb,qc,qd,qe,qf,reduceCtorEq]
 refine fun _=>⟨fun hlt=>?_,fun hge=>?_⟩
 ·have nx:∀F',Fr 278 [(3,.int .i64 bb),(4,.ptr b4 0),(8,.ptr b8 0),(15,.int .i64 ((i+1:Nat):Int))] F'→∀l:List Rf,l=QT (i+1)→K .normal F' ((b8,AO.cells [.int .i64 0,.int .i64 0,.int .i64 0,.own [],.own [],.str []])::(b4,AO.cells [.int .i64 p.o,.int .i64 p.s,.int .i64 p.day,.own (qM l),.own (qE p.ops),.str p.sl])::H):=fun F' hF' l hl=>hN _ _ ⟨i+1,l,by omega,hl,hF',(j7 rfl).symm⟩ (by
   rw [List.getD_eq_getElem?_getD,hF'.2.2.2.2.1]
   simp only [List.getD_cons_succ,List.getD_cons_zero,Option.getD_some]
   omega)
  rw [show ∀x y,qM l++ [[.int .i64 x,.int .i64 y]]=qM (l++ [⟨x,y⟩]) from fun x y=>by simp [qM,Rf.d],qp (by omega)]
  exact ⟨zJ,by omega,by omega,nx _ ⟨rfl,rfl,rfl,rfl,rfl,trivial⟩ _ (by rw [hl,Uf])⟩
 ·exact hE' _ _ _ (hE _ l ⟨rfl,rfl,rfl,trivial⟩ (by rw [hl];congr 1;omega))
theorem sp_L2 {p:Pt} {bb:Int} {kk n b4 b8:Nat} {H:AH} {Q:AQ} {F:List D} (n48:b4≠b8) (hn:n≤900) (hp:Sz n p) (hk:kk<p.ops.length) {i:Nat} (hi:i=0) (hF:Fr 278 [(3,.int .i64 bb),(4,.ptr b4 0),(8,.ptr b8 0),(11,.int .i64 (kk:Int)),(13,.int .i64 (i:Int))] F)
  (hE:∀F' l,Fr 278 [(4,.ptr b4 0),(8,.ptr b8 0)] F'→l=List.replicate 14 (p.ops.getD kk default)→Q (.exit 1) F' ((b8,AO.cells [.int .i64 0,.int .i64 0,.int .i64 0,.own [],.own [],.str []])::(b4,AO.cells [.int .i64 p.o,.int .i64 p.s,.int .i64 p.day,.own (qM p.needs),.own (qE (p.ops++l)),.str p.sl])::H)) {l:List OpP} (hl:l= []):XW Tryz.prog x5_L2 F ((b8,AO.cells [.int .i64 0,.int .i64 0,.int .i64 0,.own [],.own [],.str []])::(b4,AO.cells [.int .i64 p.o,.int .i64 p.s,.int .i64 p.day,.own (qM p.needs),.own (qE (p.ops++l)),.str p.sl])::H) Q:=by
 have hbig:=qt
 have l1:=hp.ops
 refine XW.loopK hm (fun F H'=>∃(i:Nat) (l:List OpP),i≤14∧l=List.replicate i (p.ops.getD kk default)∧Fr 278 [(3,.int .i64 bb),(4,.ptr b4 0),(8,.ptr b8 0),(11,.int .i64 (kk:Int)),(13,.int .i64 (i:Int))] F∧((b8,AO.cells [.int .i64 0,.int .i64 0,.int .i64 0,.own [],.own [],.str []])::(b4,AO.cells [.int .i64 p.o,.int .i64 p.s,.int .i64 p.day,.own (qM p.needs),.own (qE (p.ops++l)),.str p.sl])::H)=H') (fun F H=>match F.getD 13 .any with| .int _ n'=>14 - n'.toNat|_=>0) ⟨0,[],by omega,rfl,by subst hi;exact hF,by rw [hl]⟩ ?_
 clear hF hi hl i l
 rintro _ _ ⟨i,l,hi,hl,hF,rfl⟩ K hN hE' hR
 obtain ⟨z,rfl⟩:∃z:Nat→D,_=zz z 0 3 (.int .i64 bb:: .ptr b4 0::zz z 5 3 (.ptr b8 0::zz z 9 2 (.int .i64 (kk:Int)::z 12:: .int .i64 (i:Int)::zz z 14 264 []))):=hF.lit
 try dsimp only [zz,qb] at*
 clear hF hR
 have e1:l.length=i:=by rw [hl,List.length_replicate]
 by_cases hlt:i<14
 ·have nx:∀F',Fr 278 [(3,.int .i64 bb),(4,.ptr b4 0),(8,.ptr b8 0),(11,.int .i64 (kk:Int)),(13,.int .i64 ((i+1:Nat):Int))] F'→∀l:List OpP,l=List.replicate (i+1) (p.ops.getD kk default)→K .normal F' ((b8,AO.cells [.int .i64 0,.int .i64 0,.int .i64 0,.own [],.own [],.str []])::(b4,AO.cells [.int .i64 p.o,.int .i64 p.s,.int .i64 p.day,.own (qM p.needs),.own (qE (p.ops++l)),.str p.sl])::H):=fun F' hF' l hl=>hN _ _ ⟨i+1,l,by omega,hl,hF',(j7 rfl).symm⟩ (by
   rw [List.getD_eq_getElem?_getD,hF'.2.2.2.2.2.1]
   simp only [List.getD_cons_succ,List.getD_cons_zero,Option.getD_some]
   omega)
  clear hN hE hE'
  simp+contextual only [x5,ql,qi,qg,qh,n48,show ((i:Int)<14)=True from eq_true (by omega),↓U5,↓XP,↓XU,qn,XW1,qa,qb,qc,qd,qe,qf,reduceCtorEq]
  intros
  rw [zA]
  refine Gz.giveA (bx:=b4) (j:=4) (xs:=qE (p.ops++l)) (by rw [qg n48,jS]) rfl (fun b cap H' g1 g2 g3=>?_)
  have q1:(qE (p.ops++l)).getD kk []=(p.ops.getD kk default).d:=by
   rw [ke (by rw [List.length_append];omega)]
   congr 1
   simp only [List.getD_eq_getElem?_getD]
   rw [List.getElem?_append_left hk]
  have ho:=qN hk
  have o1:=hp.ids _ ho
  have o2:=hp.name _ ho
  have o3:=hp.text _ ho
  generalize p.ops.getD kk default=o at q1 o1 o2 o3 nx hl
  have hd:o.d= [.int .i64 o.k,.int .i64 o.on.o,.int .i64 o.on.s,.int .i64 o.on.i,.int .i64 o.to.o,.int .i64 o.to.s,.int .i64 o.to.i,.slc (qI o.ids),.int .i64 o.n,.str o.name,.str o.text,.int .i64 o.a,.int .i64 o.b]:=rfl
  simp+contextual only [x5,ql,qi,qg,qh,n48,g1,ia_os,q1,hd,List.length_append,show (kk:Int)<((p.ops.length+l.length:Nat):Int) from by omega,↓U5,↓XP,↓XU,qn,XW1,qa,qb,qc,qd,qe,qf,reduceCtorEq]
  rw [ZI]
  refine Gz.takeS (s:=89) (b:=b) (cap:=cap) (xs:=qE (p.ops++l)) rfl g2 ?_
  rw [g3]
  simp+contextual only [x5,ql,qi,qg,qh,n48,List.length_append,↓U5,↓XP,↓XU,qn,XW1,qa,qb,qc,qd,qe,qf,reduceCtorEq]
  rw [←hd,show qE (p.ops++l)++ [o.d]=qE (p.ops++(l++ [o])) by simp [qE],qp (by omega)]
  exact ⟨yi,by omega,by omega,nx _ ⟨rfl,rfl,rfl,rfl,rfl,rfl,trivial⟩ _ (by rw [hl,List.replicate_succ'])⟩
 ·have hik:i=14:=by omega
  subst hik
  clear hN
  simp+contextual only [x5,ql,qi,qg,qh,n48,show (((14:Nat):Int)<14)=False from eq_false (by omega),↓U5,↓XP,↓XU,qn,XW1,qa,qb,qc,qd,qe,qf,reduceCtorEq]
  refine hE' _ _ _ (hE _ l ?_ hl)
  exact ⟨rfl,rfl,rfl,trivial⟩
theorem sp_L5 {p:Pt} {bb:Int} {kk n b4 b8:Nat} {H:AH} {Q:AQ} {F:List D} (n48:b4≠b8) (hn:n≤900) (hp:Sz n p) (hk:kk<p.ops.length) {i:Nat} (hi:i=0) (hF:Fr 278 [(3,.int .i64 bb),(4,.ptr b4 0),(8,.ptr b8 0),(11,.int .i64 (kk:Int)),(14,.int .i64 (i:Int))] F)
  (hE:∀F' l,Fr 278 [(4,.ptr b4 0),(8,.ptr b8 0)] F'→l=List.replicate 7 (glO bb)→Q (.exit 3) F' ((b8,AO.cells [.int .i64 0,.int .i64 0,.int .i64 0,.own [],.own [],.str []])::(b4,AO.cells [.int .i64 p.o,.int .i64 p.s,.int .i64 p.day,.own (qM p.needs),.own (qE (p.ops++l)),.str p.sl])::H)) {l:List OpP} (hl:l= []):XW Tryz.prog x5_L5 F ((b8,AO.cells [.int .i64 0,.int .i64 0,.int .i64 0,.own [],.own [],.str []])::(b4,AO.cells [.int .i64 p.o,.int .i64 p.s,.int .i64 p.day,.own (qM p.needs),.own (qE (p.ops++l)),.str p.sl])::H) Q:=by
 have hbig:=qt
 have l1:=hp.ops
 refine XW.loopK hm (fun F H'=>∃(i:Nat) (l:List OpP),i≤7∧l=List.replicate i (glO bb)∧Fr 278 [(3,.int .i64 bb),(4,.ptr b4 0),(8,.ptr b8 0),(11,.int .i64 (kk:Int)),(14,.int .i64 (i:Int))] F∧((b8,AO.cells [.int .i64 0,.int .i64 0,.int .i64 0,.own [],.own [],.str []])::(b4,AO.cells [.int .i64 p.o,.int .i64 p.s,.int .i64 p.day,.own (qM p.needs),.own (qE (p.ops++l)),.str p.sl])::H)=H') (fun F H=>match F.getD 14 .any with| .int _ n'=>7 - n'.toNat|_=>0) ⟨0,[],by omega,rfl,by subst hi;exact hF,by rw [hl]⟩ ?_
 clear hF hi hl i l
 rintro _ _ ⟨i,l,hi,hl,hF,rfl⟩ K hN hE' hR
 obtain ⟨z,rfl⟩:∃z:Nat→D,_=zz z 0 3 (.int .i64 bb:: .ptr b4 0::zz z 5 3 (.ptr b8 0::zz z 9 2 (.int .i64 (kk:Int)::zz z 12 2 (.int .i64 (i:Int)::zz z 15 263 [])))):=hF.lit
 try dsimp only [zz,qb] at*
 clear hF hR
 have e1:l.length=i:=by rw [hl,List.length_replicate]
 by_cases hlt:i<7
 ·have nx:∀F',Fr 278 [(3,.int .i64 bb),(4,.ptr b4 0),(8,.ptr b8 0),(11,.int .i64 (kk:Int)),(14,.int .i64 ((i+1:Nat):Int))] F'→∀l:List OpP,l=List.replicate (i+1) (glO bb)→K .normal F' ((b8,AO.cells [.int .i64 0,.int .i64 0,.int .i64 0,.own [],.own [],.str []])::(b4,AO.cells [.int .i64 p.o,.int .i64 p.s,.int .i64 p.day,.own (qM p.needs),.own (qE (p.ops++l)),.str p.sl])::H):=fun F' hF' l hl=>hN _ _ ⟨i+1,l,by omega,hl,hF',(j7 rfl).symm⟩ (by
   rw [List.getD_eq_getElem?_getD,hF'.2.2.2.2.2.1]
   simp only [List.getD_cons_succ,List.getD_cons_zero,Option.getD_some]
   omega)
  clear hN hE hE'
  simp+contextual only [x5,ql,qi,qg,qh,n48,show ((i:Int)<7)=True from eq_true (by omega),↓U5,↓XP,↓XU,qn,XW1,qa,qb,qc,qd,qe,qf,reduceCtorEq]
  intros
  rw [zA]
  refine Gz.giveA (bx:=b4) (j:=4) (xs:=qE (p.ops++l)) (by rw [qg n48,jS]) rfl (fun b cap H' g1 g2 g3=>?_)
  simp+contextual only [x5,ql,qi,qg,qh,n48,g1,↓U5,↓XP,↓XU,qn,XW1,qa,qb,qc,qd,qe,qf,reduceCtorEq]
  obtain ⟨r1,r2⟩:=qU (n:=bb) (most:=125) (by omega)
  refine ⟨_,fun _ _=>qH (by omega) ⟨rfl,rfl⟩,?_⟩
  generalize hr:around bb 125=r at r1 r2 ⊢
  have hg:glO bb={jI with k:=7,on:=⟨0,1,0⟩,text:=(List.replicate (900+r).toNat [D.int .u8 0]).map unbyte}:=by unfold glO;rw [hr]
  have w:IntKind.i64.wrap (900+r)=900+r:=qJ (by omega) (by omega)
  simp+contextual only [x5,ql,qi,qg,qh,n48,g1,w,↓U5,↓XP,↓XU,qn,XW1,qa,qb,qc,qd,qe,qf,reduceCtorEq]
  refine fun _=>⟨by omega,ZP (by omega),ZG,fun _=>?_⟩
  rw [ZI]
  refine Gz.takeS (s:=239) (b:=b) (cap:=cap) (xs:=qE (p.ops++l)) rfl g2 ?_
  rw [g3]
  simp+contextual only [x5,ql,qi,qg,qh,n48,List.length_append,↓U5,↓XP,↓XU,qn,XW1,qa,qb,qc,qd,qe,qf,reduceCtorEq]
  have e:∀t:List UInt8,qE (p.ops++l)++ [[.int .i64 7,.int .i64 0,.int .i64 1,.int .i64 0,.int .i64 0,.int .i64 0,.int .i64 0,.slc [],.int .i64 0,.str [],.str t,.int .i64 0,.int .i64 0]]=qE (p.ops++(l++ [{jI with k:=7,on:=⟨0,1,0⟩,text:=t}])):=fun t=>by simp [qE,OpP.d,qI,jI,wE]
  rw [e,qp (by omega)]
  exact ⟨yi,by omega,by omega,nx _ ⟨rfl,rfl,rfl,rfl,rfl,rfl,trivial⟩ _ (by rw [hl,List.replicate_succ',hg])⟩
 ·have hik:i=7:=by omega
  subst hik
  clear hN
  simp+contextual only [x5,ql,qi,qg,qh,n48,show (((7:Nat):Int)<7)=False from eq_false (by omega),↓U5,↓XP,↓XU,qn,XW1,qa,qb,qc,qd,qe,qf,reduceCtorEq]
  refine hE' _ _ _ (hE _ l ?_ hl)
  exact ⟨rfl,rfl,rfl,trivial⟩
end Go.Proofs.YtpdhandimdibhaaGreatDoor
end
section
namespace Go.Proofs.YtpdhandimdibhaaGreatDoor
open Go Go.Aw
theorem spA_5 {n:Nat} {p:Pt} {a how bb near:Int} {kk b4 b8:Nat} {F:List D} {H:AH} {R:D→AH→Prop} (hm:around how 20=5) (hn:n≤900) (hp:Sz n p) (n48:b4≠b8) (hk:kk<p.ops.length) (hF:Fr 278 [(1,.int .i64 a),(2,.int .i64 how),(3,.int .i64 bb),(4,.ptr b4 0),(8,.ptr b8 0),(11,.int .i64 (kk:Int)),(12,.int .i64 near)] F) (h:R (.agg ({p with ops:=p.ops++List.replicate 14 (p.ops.getD kk default)}:Pt).d) H):xcode Tryz.prog x5_s38 F ((b8,.cells [.int .i64 0,.int .i64 0,.int .i64 0,.own [],.own [],.str []])::(b4,.cells [.int .i64 p.o,.int .i64 p.s,.int .i64 p.day,.own (qM p.needs),.own (qE p.ops),.str p.sl])::H) (kK Tryz.prog [(.cell 8 26)] H.length R):=by
 obtain ⟨z,rfl⟩:∃z:Nat→D,_=z 0:: .int .i64 a:: .int .i64 how:: .int .i64 bb:: .ptr b4 0::zz z 5 3 (.ptr b8 0::zz z 9 2 (.int .i64 (kk:Int):: .int .i64 near::zz z 13 265 [])):=hF.lit
 try dsimp only [zz,qb] at*
 clear hF
 have hbig:=qt
 simp+contextual only [x5,ql,qi,qg,qh,Int.reduceEq,n48,↓U5,↓XP,↓XU,qn,XW1,qa,qb,qc,qd,qe,qf,reduceCtorEq]
 refine qH (by omega) ?_
 rw [hm]
 simp+contextual only [x5,ql,qi,qg,qh,Int.reduceEq,n48,↓U5,↓XP,↓XU,qn,XW1,qa,qb,qc,qd,qe,qf,reduceCtorEq]
 intros
 rw [show qE p.ops=qE (p.ops++ []) by rw [List.append_nil]]
 refine sp_L2 (i:=0) (l:= []) n48 hn hp hk rfl ⟨rfl,rfl,rfl,rfl,rfl,rfl,trivial⟩ (fun F' l hF' hl=>?_) rfl
 subst hl
 obtain ⟨z,rfl⟩:∃z:Nat→D,_=zz z 0 4 (.ptr b4 0::zz z 5 3 (.ptr b8 0::zz z 9 269 [])):=hF'.lit
 try dsimp only [zz,qb] at*
 simp+contextual only [x5,ql,qi,qg,qh,Int.reduceEq,n48,↓U5,↓XP,↓XU,qn,XW1,qa,qb,qc,qd,qe,qf,reduceCtorEq]
 exact h
theorem spA_16 {n:Nat} {p:Pt} {a how bb near:Int} {kk b4 b8:Nat} {F:List D} {H:AH} {R:D→AH→Prop} (hm:around how 20=16) (hn:n≤900) (hp:Sz n p) (n48:b4≠b8) (hk:kk<p.ops.length) (hF:Fr 278 [(1,.int .i64 a),(2,.int .i64 how),(3,.int .i64 bb),(4,.ptr b4 0),(8,.ptr b8 0),(11,.int .i64 (kk:Int)),(12,.int .i64 near)] F) (h:R (.agg ({p with ops:=p.ops++List.replicate 7 (glO bb)}:Pt).d) H):xcode Tryz.prog x5_s38 F ((b8,.cells [.int .i64 0,.int .i64 0,.int .i64 0,.own [],.own [],.str []])::(b4,.cells [.int .i64 p.o,.int .i64 p.s,.int .i64 p.day,.own (qM p.needs),.own (qE p.ops),.str p.sl])::H) (kK Tryz.prog [(.cell 8 26)] H.length R):=by
 obtain ⟨z,rfl⟩:∃z:Nat→D,_=z 0:: .int .i64 a:: .int .i64 how:: .int .i64 bb:: .ptr b4 0::zz z 5 3 (.ptr b8 0::zz z 9 2 (.int .i64 (kk:Int):: .int .i64 near::zz z 13 265 [])):=hF.lit
 try dsimp only [zz,qb] at*
 clear hF
 have hbig:=qt
 simp+contextual only [x5,ql,qi,qg,qh,Int.reduceEq,n48,↓U5,↓XP,↓XU,qn,XW1,qa,qb,qc,qd,qe,qf,reduceCtorEq]
 refine qH (by omega) ?_
 rw [hm]
 simp+contextual only [x5,ql,qi,qg,qh,Int.reduceEq,n48,↓U5,↓XP,↓XU,qn,XW1,qa,qb,qc,qd,qe,qf,reduceCtorEq]
 intros
 rw [show qE p.ops=qE (p.ops++ []) by rw [List.append_nil]]
 refine sp_L5 (i:=0) (l:= []) n48 hn hp hk rfl ⟨rfl,rfl,rfl,rfl,rfl,rfl,trivial⟩ (fun F' l hF' hl=>?_) rfl
 subst hl
 obtain ⟨z,rfl⟩:∃z:Nat→D,_=zz z 0 4 (.ptr b4 0::zz z 5 3 (.ptr b8 0::zz z 9 269 [])):=hF'.lit
 try dsimp only [zz,qb] at*
 simp+contextual only [x5,ql,qi,qg,qh,Int.reduceEq,n48,↓U5,↓XP,↓XU,qn,XW1,qa,qb,qc,qd,qe,qf,reduceCtorEq]
 exact h
theorem spA_18 {n:Nat} {p:Pt} {a how bb near:Int} {kk b4 b8:Nat} {F:List D} {H:AH} {R:D→AH→Prop} (hm:around how 20=18) (hn:n≤900) (hp:Sz n p) (n48:b4≠b8) (hk:kk<p.ops.length) (hF:Fr 278 [(1,.int .i64 a),(2,.int .i64 how),(3,.int .i64 bb),(4,.ptr b4 0),(8,.ptr b8 0),(11,.int .i64 (kk:Int)),(12,.int .i64 near)] F) (h:R (.agg ({p with needs:=QT (7+around bb 4).toNat}:Pt).d) H):xcode Tryz.prog x5_s38 F ((b8,.cells [.int .i64 0,.int .i64 0,.int .i64 0,.own [],.own [],.str []])::(b4,.cells [.int .i64 p.o,.int .i64 p.s,.int .i64 p.day,.own (qM p.needs),.own (qE p.ops),.str p.sl])::H) (kK Tryz.prog [(.cell 8 26)] H.length R):=by
 obtain ⟨z,rfl⟩:∃z:Nat→D,_=z 0:: .int .i64 a:: .int .i64 how:: .int .i64 bb:: .ptr b4 0::zz z 5 3 (.ptr b8 0::zz z 9 2 (.int .i64 (kk:Int):: .int .i64 near::zz z 13 265 [])):=hF.lit
 try dsimp only [zz,qb] at*
 clear hF
 have hbig:=qt
 simp+contextual only [x5,ql,qi,qg,qh,Int.reduceEq,n48,↓U5,↓XP,↓XU,qn,XW1,qa,qb,qc,qd,qe,qf,reduceCtorEq]
 refine qH (by omega) ?_
 rw [hm]
 simp+contextual only [x5,ql,qi,qg,qh,Int.reduceEq,n48,↓U5,↓XP,↓XU,qn,XW1,qa,qb,qc,qd,qe,qf,reduceCtorEq]
 refine fun _=>⟨by omega,?_⟩
 refine sp_L18 (i:=0) (l:= []) n48 rfl ⟨rfl,rfl,rfl,rfl,rfl,trivial⟩ (fun F' l hF' hl=>?_) rfl
 subst hl
 obtain ⟨z,rfl⟩:∃z:Nat→D,_=zz z 0 4 (.ptr b4 0::zz z 5 3 (.ptr b8 0::zz z 9 269 [])):=hF'.lit
 try dsimp only [zz,qb] at*
 simp+contextual only [x5,ql,qi,qg,qh,Int.reduceEq,n48,↓U5,↓XP,↓XU,qn,XW1,qa,qb,qc,qd,qe,qf,reduceCtorEq]
 exact h
end Go.Proofs.YtpdhandimdibhaaGreatDoor
end
