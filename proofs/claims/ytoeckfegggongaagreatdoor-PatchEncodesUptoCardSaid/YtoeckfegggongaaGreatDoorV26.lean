/- A part of the proof of what the last text says: Gn6, Gn2, Gn7, Gs3, XcH, Gxb, Gt0, Gt1. Conditions: those in each theorem. -/
import Derived.Test.YtoeckfegggongaaGreatDoorV25
import Derived.KernelRfl
set_option linter.unusedVariables false
set_option linter.unusedSimpArgs false
set_option maxRecDepth 100000
set_option maxHeartbeats 16000000
open Nat renaming reduceSub → qa,reduceAdd → qb,reduceMul → qc,reduceEqDiff → qd,reduceLeDiff → qe,reduceBEq → qf
section
namespace Go.Proofs.YtoeckfegggongaaGreatDoor
open Go Go.Aw
theorem Wi {n : Nat} : (List.replicate n [D.bool false]).flatten = (List.replicate n false).map D.bool := by
 induction n with
 | zero=>rfl
 | succ n ih=>rw [List.replicate_succ,List.replicate_succ,List.flatten_cons,ih]; rfl
theorem KK {l : List Bool} : l.map D.bool = (jt l).flatten ++ [] := by
 induction l with
 | nil=>rfl
 | cons b r ih=>simp only [List.map_cons,jt,List.flatten_cons,List.cons_append,List.nil_append]; rw [ih]; simp [jt]
theorem oP {H : AH} {b : Nat} : jr H b [] = H := by simp [jr]
theorem Gz.then {F : List D} {H : AH} {k : List D → AH → Prop} (h : Gz F H fun F' H'=>Gz F' H' k) : Gz F H k := Gz.bind h fun _ _ h=>h
theorem bytes4 : (Tryz.prog.info? 4).map (·.bytes) = some 1 := by kernel_rfl
theorem info4 {n : Int} (h : n ≤ 1000) : match Tryz.prog.info? 4 with | some i=>(i.bytes : Int) * n ≤ 140737488355328 ∧ n ≤ 140737488355328 | none=>False := by
 have h4 := bytes4
 cases hq : Tryz.prog.info? 4 with
 | none=>rw [hq] at h4; cases h4
 | some i =>
  rw [hq] at h4
  simp only [Option.map_some,Option.some.injEq] at h4
  simp only [h4]
  omega
theorem f_next {x : Gs} {offices : Nat} {m : List Int} {bl cl bp cp : Nat} {H : AH} {R : D → AH → Prop} (hx : GInv x) (hb : x.l.length ≤ 20) (hof : 1 ≤ offices) (hof' : offices ≤ 10)
  (hr1 : j8 x.l ≠ [] → qK H bl = some (.room cl (j8 x.l))) (hr2 : je x.past ≠ [] → qK H bp = some (.room cp (je x.past)))
  (h : ∀ bl' cl' bp' cp',bl' ≠ bp' → qZ (jr (jr H bl (j8 x.l)) bp (je x.past)) bl' → qZ (jr (jr H bl (j8 x.l)) bp (je x.past)) bp' → R (.agg [.osl bl' cl' (j8 (next x offices m).l),.osl bp' cp' (je (next x offices m).past)]) ((bp',.room cp' (je (next x offices m).past)) :: (bl',.room cl' (j8 (next x offices m).l)) :: jr (jr H bl (j8 x.l)) bp (je x.past))) :
  ACall Tryz.prog 43 [.agg [.osl bl cl (j8 x.l),.osl bp cp (je x.past)],.int .i64 offices,.slc (ints m)] H R := by
 have hbig := qt
 have hne : j8 x.l ≠ [] → je x.past ≠ [] → bl ≠ bp := fun h1 h2 e=>by
  have e1 := hr1 h1
  rw [e,hr2 h2] at e1
  injection e1 with e1
  injection e1 with e1 e2
  cases hl : x.l with
  | nil=>rw [hl] at h1; exact h1 rfl
  | cons p r =>
   cases hq : x.past with
   | nil=>rw [hq] at h2; exact h2 rfl
   | cons p' r'=>rw [hl,hq] at e2; simp [j8,je,Pt.d] at e2
 refine r43 fun hf=>?_
 simp +contextual only [uS,qg,qi,jG,jZ,↓uT,↓XP,qm,XW1,qa,qb,qc,qd,qe,qf,reduceCtorEq]
 rintro b3 h3 b6 ⟨n36,h6⟩
 rw [uG]
 refine Gz.take2 h3 h6 hr1 hr2 hne fun Hr hHe hHr=>?_
 rw [← hHe] at h
 simp +contextual only [uS,qg,qi,jG,jZ,↓uT,↓XP,qm,XW1,qa,qb,qc,qd,qe,qf,reduceCtorEq]
 refine jL (i := 0) (by omega) ?_
 have a0 := qz (l := m) (i := 0) (most := (offices : Int)) (by omega)
 simp +contextual only [uS,qg,qi,jG,jZ,n36,↓uT,↓XP,qm,XW1,qa,qb,qc,qd,qe,qf,reduceCtorEq]
 intro _ b8 hh
 obtain ⟨n68,n38,h8⟩ := hh
 rw [uG]
 refine Gz.then (Gz.take (j := 3) rfl (fun h=>(h rfl).elim) (Gz.weak jV ?_))
 rw [oP]
 simp +contextual only [uS,qg,qi,jG,jZ,n36,n68,n38,D.wk,qo,↓uT,↓XP,qm,XW1,qa,qb,qc,qd,qe,qf,reduceCtorEq]
 refine fun _=>⟨info4 (by omega),fun b9 hh=>?_⟩
 obtain ⟨n89,n69,n39,h9⟩ := hh
 rw [Wi]
 have hrn := kn (x := x) (o := qE m 0 offices) (m := m) offices
 have hri := yU hx (o := qE m 0 offices) (m := m) offices
 refine n_outer (x := x) (offices := offices) (n := x.l.length) ⟨n39,n38,n36,n89,n69,n68⟩ hof' (by omega) rfl hx.np hx.pk (fun p hp=>by have := hx.sq p hp; omega) (jh h8) ⟨rfl,rfl,rfl,rfl,rfl,rfl,rfl,rfl,rfl,trivial⟩ (fun F' hF' s hs=>?_) (qB x (qE m 0 offices) m 0) rfl
 have hnx : next x offices m = ⟨x.l ++ [jg x s.seen { s.p with day := s.p.day + qE m 4 4 } m (1 + jC m 5 2)],x.past ++ [s.seen]⟩ := by rw [hs]; rfl
 rw [hnx] at h
 have hp14 := Qq hx hof' (m := m)
 rw [← hs] at hrn hri hp14
 obtain ⟨z,rfl⟩ : ∃ z : Nat → D,_ = z 0 :: .int .i64 offices :: .slc (ints m) :: .ptr b3 0 :: zz z 4 2 (.ptr b6 0 :: .int .i64 (qE m 0 offices) :: .ptr b8 0 :: .hsl b9 x.l.length :: zz z 10 129 []) := hF'.lit
 try dsimp only [zz,qb] at *
 clear hF' hnx hs
 obtain ⟨g1,g2,g3,g4⟩ := hrn
 obtain ⟨i1,i2,i3,i4,i5⟩ := hri
 have hdn : s.p.dn = [.int .i64 s.p.o,.int .i64 s.p.s,.int .i64 s.p.day,.own (qO s.p.needs),.slc [],.str []] := rfl
 have a4 := qz (l := m) (i := 4) (most := 4) (by omega)
 have wd : IntKind.i64.wrap (s.p.day + qE m 4 4) = s.p.day + qE m 4 4 := qw (by omega) (by omega)
 simp +contextual only [uS,qg,qi,jG,jZ,n36,n68,n38,n89,n69,n39,hdn,wd,↓uT,↓XP,qm,XW1,qa,qb,qc,qd,qe,qf,reduceCtorEq]
 refine fun _=>⟨_,jL (i := 4) (by omega) ⟨rfl,rfl⟩,?_⟩
 simp +contextual only [uS,qg,qi,jG,jZ,n36,n68,n38,n89,n69,n39,hdn,wd,↓uT,↓XP,qm,XW1,qa,qb,qc,qd,qe,qf,reduceCtorEq]
 refine fun _=>⟨by omega,?_⟩
 rw [uG]
 refine Gz.then (Gz.of_fz (Fz.freeze (s := 9) (b := b9) (n := x.l.length) (sz := 1) (xs := jt s.seen) (rest := []) rfl jV KK (by rw [jw,g4]) bools_1 (by omega) (fun y hy d hd=>by
  obtain ⟨t,_,rfl⟩ := List.mem_map.1 hy
  rw [List.mem_singleton.1 hd]
  rfl)) ?_)
 rw [ub]
 refine Gz.view1 (bx := b8) jV ?_
 obtain ⟨p,hpp⟩ : ∃ p : Pt,p = { s.p with day := s.p.day + qE m 4 4 } := ⟨_,rfl⟩
 have hpo : p.ops = [] := by rw [hpp]; exact g2
 have hd0 : p.d = [.int .i64 s.p.o,.int .i64 s.p.s,.int .i64 (s.p.day + qE m 4 4),.slc (qO s.p.needs),.slc [],.str []] := by
  rw [hpp]
  simp only [Pt.d,g2,g3]
  rfl
 rw [← hpp] at h hp14
 simp +contextual only [uS,qg,qi,jG,jZ,n36,n68,n38,↓uT,↓XP,qm,XW1,qa,qb,qc,qd,qe,qf,reduceCtorEq]
 rw [← hd0]
 refine n_steps (x := x) (seen := s.seen) (p := p) hx hb g4 hpo (VOk.base hx i1 hpo) n38 n36 n68 ⟨rfl,rfl,rfl,rfl,rfl,rfl,rfl,trivial⟩ (fun F' hF' i hi=>?_) 0 rfl
 rw [hi]
 clear hi i hd0
 obtain ⟨more,e1,-⟩ := hp14
 generalize jg x s.seen p m (1 + jC m 5 2) = q at h e1 ⊢
 obtain ⟨z,rfl⟩ : ∃ z : Nat → D,_ = zz z 0 2 (.slc (ints m) :: .ptr b3 0 :: zz z 4 2 (.ptr b6 0 :: z 7 :: .ptr b8 0 :: .slc (jt s.seen) :: zz z 10 129 [])) := hF'.lit
 try dsimp only [zz,qb] at *
 clear hF'
 have hd := @dE q
 simp +contextual only [uS,qg,qi,jG,jZ,n36,n68,n38,hd,kj,qo,↓uT,↓XP,qm,XW1,qa,qb,qc,qd,qe,qf,reduceCtorEq]
 have hnp := hx.np
 refine ⟨pts_6,by omega,past_1,by omega,?_⟩
 rw [← hd,show [q.d] = j8 [q] from rfl,YR,show [[D.slc (jt s.seen)]] = je [s.seen] from rfl,show je x.past ++ je [s.seen] = je (x.past ++ [s.seen]) by simp [je]]
 rw [uG]
 have hx1 : j8 (x.l ++ [q]) ≠ [] := by simp [j8]
 have hx2 : je (x.past ++ [s.seen]) ≠ [] := by simp [je]
 try dsimp only at h
 generalize hX : j8 (x.l ++ [q]) = X at h hx1 ⊢
 generalize hY : je (x.past ++ [s.seen]) = Y at h hx2 ⊢
 refine Gz.then (Gz.give (bx := b3) (j := 0) (xs := X) hx1 (by rw [qg n38,qg n36,jV]) rfl (fun bl' cl' f1=>?_))
 simp only [h_fr] at f1
 obtain ⟨t8,t6,t3,tr⟩ := f1
 rw [qi n38,qi n36,ou]
 refine Gz.give (bx := b3) (j := 1) (xs := Y) hx2 (by rw [qg t3,qg n38,qg n36,jV]) rfl (fun bp' cp' f2=>?_)
 simp only [h_fr] at f2
 obtain ⟨ul,u8,u6,u3,ur⟩ := f2
 rw [qi t3,qi n38,qi n36,ou]
 simp +contextual only [uS,qg,qi,jG,jZ,n36,n68,n38,t8,t6,t3,ul,u8,u6,u3,↓uT,↓XP,qm,XW1,qa,qb,qc,qd,qe,qf,reduceCtorEq]
 exact ⟨_,Sbn.sub (List.Sublist.cons_cons _ (List.Sublist.cons_cons _ (List.Sublist.cons _ (List.Sublist.cons _ (List.Sublist.cons _ (List.Sublist.refl _)))))),h bl' cl' bp' cp' ul tr ur⟩
end Go.Proofs.YtoeckfegggongaaGreatDoor
end
section
namespace Go.Proofs.YtoeckfegggongaaGreatDoor
open Go Go.Aw
theorem vn {l out : List Pt} : ∀ i,-1 ≤ jj l out i ∧ jj l out i < i
 | 0=>⟨by simp [jj],by simp [jj]⟩
 | i + 1=>by
  have := vn (l := l) (out := out) i
  unfold jj
  split
  ·omega
  ·omega
theorem QF {l : List Pt} : ∀ n,(j5 l n).1.length ≤ n
 | 0=>by simp [j5]
 | n + 1=>by
  have := QF (l := l) n
  simp only [j5]
  split
  ·split
   ·simp only []; omega
   ·simp only [List.length_append,List.length_cons,List.length_nil]; omega
  ·omega
theorem gK {l : List Pt} {n : Nat} (h : (j5 l n).2 = false) : ∀ k,j5 l (n + k) = j5 l n
 | 0=>rfl
 | k + 1=>by
  have ih := gK h k
  show j5 l (n + k + 1) = _
  simp only [j5,ih,h,Bool.false_eq_true,if_false]
theorem Wj {l : List Pt} {H : AH} {R : D → AH → Prop} (hb : l.length ≤ 100) (hl : ∀ p ∈ l,0 ≤ p.s ∧ p.s ≤ 1000000 ∧ p.needs.length ≤ 1000000) (h : R (.own (j8 (ordered l))) H) : ACall Tryz.prog 45 [.slc (j8 l)] H R := by
 refine b45 fun hf=>?_
 have hbig := qt
 simp +contextual only [x45,↓Ym,↓XP,qm,XW1,qa,qb,qc,qd,qe,qf,reduceCtorEq]
 refine XW.loopK hm (fun F H'=>∃ (n : Nat) (out : List Pt),n ≤ l.length ∧ j5 l n = (out,true) ∧ Fr 82 [(0,.slc (j8 l)),(3,.own (j8 out)),(4,.int .i64 n)] F ∧ H = H') (fun F H=>match F.getD 4 .any with | .int _ n'=>l.length - n'.toNat | _=>0) ⟨0,[],by omega,rfl,⟨rfl,rfl,rfl,rfl,trivial⟩,rfl⟩ ?_
 rintro _ _ ⟨n,out,hn,ho,hF,rfl⟩ K hN hE hR
 obtain ⟨z,rfl⟩ : ∃ z : Nat → D,_ = .slc (j8 l) :: zz z 1 2 (.own (j8 out) :: .int .i64 n :: zz z 5 77 []) := hF.lit
 try dsimp only [zz,qb] at *
 clear hF
 have hol := QF (l := l) n
 rw [ho] at hol
 simp only at hol
 by_cases hlt : n < l.length
 ·have hsn : j5 l (n + 1) = (if jj l out l.length < 0 then (out,false) else (out ++ [l.getD (jj l out l.length).toNat default],true)) := by
   simp only [j5,ho,if_true]
  simp +contextual only [qo,qg,qi,↓Ym,↓XP,qm,XW1,qa,qb,qc,qd,qe,qf,reduceCtorEq]
  refine fun _=>⟨fun _=>?_,fun hge=>absurd (by omega) hge⟩
  refine XW.loopK hm (fun F H'=>∃ (i : Nat),i ≤ l.length ∧ Fr 82 [(0,.slc (j8 l)),(3,.own (j8 out)),(4,.int .i64 n),(5,.int .i64 (jj l out i)),(6,.int .i64 i)] F ∧ H = H') (fun F H=>match F.getD 6 .any with | .int _ n'=>l.length - n'.toNat | _=>0) ⟨0,by omega,⟨rfl,rfl,rfl,rfl,rfl,rfl,trivial⟩,rfl⟩ ?_
  rintro _ _ ⟨i,hi,hF,rfl⟩ K2 hN2 hE2 hR2
  obtain ⟨z2,rfl⟩ : ∃ z2 : Nat → D,_ = (let z := z2; [.slc (j8 l),z 1,z 2,.own (j8 out),.int .i64 n,.int .i64 (jj l out i),.int .i64 i,z 7,z 8,z 9,z 10,z 11,z 12,z 13,z 14,z 15,z 16,z 17,z 18,z 19,z 20,z 21,z 22,z 23,z 24,z 25,z 26,z 27,z 28,z 29,z 30,z 31,z 32,z 33,z 34,z 35,z 36,z 37,z 38,z 39,z 40,z 41,z 42,z 43,z 44,z 45,z 46,z 47,z 48,z 49,z 50,z 51,z 52,z 53,z 54,z 55,z 56,z 57,z 58,z 59,z 60,z 61,z 62,z 63,z 64,z 65,z 66,z 67,z 68,z 69,z 70,z 71,z 72,z 73,z 74,z 75,z 76,z 77,z 78,z 79,z 80,z 81]) := hF.lit
  clear hF
  by_cases hli : i < l.length
  ·have nx : ∀ F' b c,Fr 82 [(0,.slc (j8 l)),(3,.own (j8 out)),(4,.int .i64 n),(5,.int .i64 (jj l out (i + 1))),(6,.int .i64 ((i + 1 : Nat) : Int))] F' → K2 .normal F' ((b,c) :: H) := fun F' b c hF'=>hN2 _ _ ⟨i + 1,hli,hF',(yB rfl).symm⟩ (by
    rw [List.getD_eq_getElem?_getD,hF'.2.2.2.2.2.1]
    simp only [List.getD_cons_succ,List.getD_cons_zero,Option.getD_some]
    omega)
   clear hN2 hE2 hR2 hN hE hR h
   obtain ⟨r1,r2⟩ := vn (l := l) (out := out) i
   have hstep : jj l out (i + 1) = if better l out i (jj l out i) = true then (i : Int) else jj l out i := rfl
   rw [hstep] at nx
   have hbt : better l out i (jj l out i) = (ready out (l.getD i default) && !known out (l.getD i default).o (l.getD i default).s && (decide (jj l out i < 0) || decide ((l.getD i default).o < (l.getD (jj l out i).toNat default).o) || (decide ((l.getD i default).o = (l.getD (jj l out i).toNat default).o) && decide ((l.getD i default).s < (l.getD (jj l out i).toNat default).s)))) := rfl
   rw [hbt] at nx
   clear hbt hstep
   generalize jj l out i = bb at r1 r2 nx
   have q1 := wW hli
   have q2 : 0 ≤ bb → (j8 l).getD bb.toNat [] = (l.getD bb.toNat default).d := fun h=>wW (by omega)
   obtain ⟨e1,e2,e3⟩ := hl (l.getD i default) (by rw [jk hli]; exact List.getElem_mem hli)
   generalize l.getD i default = e at q1 nx e1 e2 e3
   generalize l.getD bb.toNat default = lb at q2 nx
   have hd := @dE e
   have hdl := @dE lb
   simp +contextual only [qo,qg,qi,q1,hd,↓Ym,↓XP,qm,XW1,qa,qb,qc,qd,qe,qf,reduceCtorEq]
   refine fun _=>⟨fun _ b1 h1=>?_,fun hge=>absurd (by omega) hge⟩
   refine ⟨_,f_ready (p := e) e1 e2 e3 ⟨rfl,rfl⟩,?_⟩
   rcases hr : ready out e with _ | _
   ·simp +contextual only [qo,qg,qi,q1,hd,qp (show i ≤ big by omega),↓Ym,↓XP,qm,XW1,qa,qb,qc,qd,qe,qf,reduceCtorEq]
    refine nx _ _ _ ?_
    simp only [hr,Bool.false_and,Bool.false_eq_true,if_false]
    exact ⟨rfl,rfl,rfl,rfl,rfl,rfl,trivial⟩
   simp +contextual only [qo,qg,qi,q1,hd,↓Ym,↓XP,qm,XW1,qa,qb,qc,qd,qe,qf,reduceCtorEq]
   refine fun _ _=>⟨_,QP ⟨rfl,rfl⟩,?_⟩
   rcases hk : known out e.o e.s with _ | _
   rotate_left
   ·simp +contextual only [qo,qg,qi,q1,hd,qp (show i ≤ big by omega),↓Ym,↓XP,qm,XW1,qa,qb,qc,qd,qe,qf,reduceCtorEq]
    refine nx _ _ _ ?_
    simp only [hr,hk,Bool.not_true,Bool.and_false,Bool.false_and,Bool.false_eq_true,if_false]
    exact ⟨rfl,rfl,rfl,rfl,rfl,rfl,trivial⟩
   simp only [hr,hk,Bool.not_false,Bool.and_true,Bool.true_and] at nx
   by_cases hb0 : bb < 0
   ·simp only [hb0,decide_true,Bool.true_or,if_true] at nx
    simp +contextual only [qo,qg,qi,q1,hd,hb0,qp (show i ≤ big by omega),↓Ym,↓XP,qm,XW1,qa,qb,qc,qd,qe,qf,reduceCtorEq]
    exact nx _ _ _ ⟨rfl,rfl,rfl,rfl,rfl,rfl,trivial⟩
   ·have q3 := q2 (by omega)
    simp only [hb0,decide_false,Bool.false_or] at nx
    simp +contextual only [qo,qg,qi,q1,q3,hd,hdl,hb0,qp (show i ≤ big by omega),↓Ym,↓XP,qm,XW1,qa,qb,qc,qd,qe,qf,reduceCtorEq]
    refine fun _=>⟨by omega,by omega,fun _=>⟨fun c1=>?_,fun c1=>⟨by omega,by omega,fun c2 _=>⟨by omega,by omega,fun _=>⟨fun c3=>?_,fun c3=>?_⟩⟩,fun c2=>?_⟩⟩⟩
    ·rw [if_pos (by simp [c1])] at nx
     exact nx _ _ _ ⟨rfl,rfl,rfl,rfl,rfl,rfl,trivial⟩
    ·rw [if_pos (by simp [c2,c3])] at nx
     exact nx _ _ _ ⟨rfl,rfl,rfl,rfl,rfl,rfl,trivial⟩
    ·rw [if_neg (by simp [c1,c3])] at nx
     exact nx _ _ _ ⟨rfl,rfl,rfl,rfl,rfl,rfl,trivial⟩
    ·rw [if_neg (by simp [c1,c2])] at nx
     exact nx _ _ _ ⟨rfl,rfl,rfl,rfl,rfl,rfl,trivial⟩
  ·have hik : i = l.length := by omega
   subst hik
   clear hN2
   simp +contextual only [qo,qg,qi,↓Ym,↓XP,qm,XW1,qa,qb,qc,qd,qe,qf,reduceCtorEq]
   refine fun _=>hE2 _ _ _ ?_
   clear hE2 hR2
   obtain ⟨r1,r2⟩ := vn (l := l) (out := out) l.length
   rw [show n + 1 = n + 1 from rfl] at hsn
   by_cases hb0 : jj l out l.length < 0
   ·rw [if_pos hb0] at hsn
    have hor : ordered l = out := by
     unfold ordered
     have := gK (l := l) (n := n + 1) (by rw [hsn]) (l.length - (n + 1))
     rw [show n + 1 + (l.length - (n + 1)) = l.length by omega,hsn] at this
     rw [this]
    rw [hor] at h
    clear hN hE
    generalize jj l out l.length = bb at r1 r2 hb0 ⊢
    simp +contextual only [qo,qg,qi,hb0,↓Ym,↓XP,qm,XW1,qa,qb,qc,qd,qe,qf,reduceCtorEq]
    refine hR _ _ ?_
    simp +contextual only [qo,qg,qi,↓Ym,↓XP,qm,XW1,qa,qb,qc,qd,qe,qf,reduceCtorEq]
    exact h
   ·rw [if_neg hb0] at hsn
    have nx : ∀ F',Fr 82 [(0,.slc (j8 l)),(3,.own (j8 (out ++ [l.getD (jj l out l.length).toNat default]))),(4,.int .i64 ((n + 1 : Nat) : Int))] F' → K .normal F' H := fun F' hF'=>hN _ _ ⟨n + 1,_,hlt,hsn,hF',(j9 rfl).symm⟩ (by
     rw [List.getD_eq_getElem?_getD,hF'.2.2.2.1]
     simp only [List.getD_cons_succ,List.getD_cons_zero,Option.getD_some]
     omega)
    clear hN hE hR h
    have q2 : (j8 l).getD (jj l out l.length).toNat [] = (l.getD (jj l out l.length).toNat default).d := wW (by omega)
    generalize jj l out l.length = bb at r1 r2 hb0 q2 nx ⊢
    generalize l.getD bb.toNat default = e at q2 nx
    have hd := @dE e
    simp +contextual only [qo,qg,qi,hb0,q2,hd,qp (show n ≤ big by omega),↓Ym,↓XP,qm,XW1,qa,qb,qc,qd,qe,qf,reduceCtorEq]
    refine ⟨by omega,by omega,pts_6,by omega,?_⟩
    rw [← YR,show j8 [e] = [e.d] from rfl,hd] at nx
    exact nx _ ⟨rfl,rfl,rfl,rfl,trivial⟩
 ·have hik : n = l.length := by omega
  subst hik
  clear hN
  simp +contextual only [qo,qg,qi,↓Ym,↓XP,qm,XW1,qa,qb,qc,qd,qe,qf,reduceCtorEq]
  refine fun _=>hE _ _ _ ?_
  rw [show ordered l = out by unfold ordered; rw [ho]] at h
  simp +contextual only [qo,qg,qi,↓Ym,↓XP,qm,XW1,qa,qb,qc,qd,qe,qf,reduceCtorEq]
  exact h
end Go.Proofs.YtoeckfegggongaaGreatDoor
end
section
namespace Go.Proofs.YtoeckfegggongaaGreatDoor
open Go Go.Aw
theorem Sbn.perm {H H' : AH} (h : H'.Perm H) : Sbn H' H := fun hn=>⟨(h.map _).nodup_iff.2 hn,fun p hp=>h.subset hp⟩
theorem u7 {l : List Int} {offices : Nat} (ho : offices ≤ 10) : ∀ i,GInv (ja l offices i) ∧ (ja l offices i).l.length = i
 | 0=>⟨GInv.nil,rfl⟩
 | i + 1=>by
  obtain ⟨h1,h2⟩ := u7 (l := l) ho i
  exact ⟨h1.next ho _,by simp [ja,next,h2]⟩
def Rooms (b4 : Nat) (x : Gs) (bl cl bp cp : Nat) (Hm H : AH) : Prop :=
 (x.l = [] ∧ x.past = [] ∧ Hm = []) ∨ (x.l ≠ [] ∧ x.past ≠ [] ∧ bl ≠ bp ∧ bl ≠ b4 ∧ bp ≠ b4 ∧ Hm = [(bp,.room cp (je x.past)),(bl,.room cl (j8 x.l))])
theorem pts_nil {l : List Pt} : j8 l = [] ↔ l = [] := by simp [j8]
theorem past_nil {l : List (List Bool)} : je l = [] ↔ l = [] := by simp [je]
theorem Uw {args : List D} {H : AH} {R : D → AH → Prop} (h : facts args → xcode Tryz.prog WE (args ++ List.replicate (28 - args.length) (.tup [])) H (Yb Tryz.prog [.tmp 2] R)) : ACall Tryz.prog 19 args H R :=
 wT hm Tryz.func19 rfl (by kernel_rfl) (by kernel_rfl) (by kernel_rfl) (by kernel_rfl) (by kernel_rfl) (by kernel_rfl) h
theorem W4 {l : List Int} {H : AH} {R : D → AH → Prop} (h : R (.own (j8 (patches l))) H) : ACall Tryz.prog 19 [.slc (ints l)] H R := by
 refine Uw fun hf=>?_
 have hbig := qt
 have a0 := qz (l := l) (i := 0) (most := 8) (by omega)
 have a1 := qz (l := l) (i := 1) (most := 2) (by omega)
 simp +contextual only [WE,qg,qi,jG,jZ,↓Uf,↓XP,qm,XW1,qa,qb,qc,qd,qe,qf,reduceCtorEq]
 refine jL (i := 1) (by omega) ?_
 obtain ⟨o,ho⟩ : ∃ o : Nat,2 + jC l 1 2 = o := ⟨_,rfl⟩
 obtain ⟨n,hn⟩ : ∃ n : Nat,2 + jC l 0 8 = n := ⟨_,rfl⟩
 have w1 : IntKind.i64.wrap (2 + qE l 1 2) = (o : Int) := by rw [qw (by omega) (by omega)]; unfold jC at ho; omega
 have w0 : IntKind.i64.wrap (2 + qE l 0 8) = (n : Int) := by rw [qw (by omega) (by omega)]; unfold jC at hn; omega
 have ho' : o ≤ 10 ∧ 1 ≤ o := by unfold jC at ho; omega
 have hn' : n ≤ 9 := by unfold jC at hn; omega
 have hpt : patches l = ordered (ja l o n).l := by unfold patches; rw [ho,hn]
 rw [hpt] at h
 simp +contextual only [WE,qg,qi,jG,jZ,w1,↓Uf,↓XP,qm,XW1,qa,qb,qc,qd,qe,qf,reduceCtorEq]
 intro _ b4 h4
 refine XW.loopKR hm (fun F H'=>∃ (i : Nat) (x : Gs) (bl cl bp cp : Nat) (Hm : AH),i ≤ n ∧ x = ja l o i ∧ Rooms b4 x bl cl bp cp Hm H ∧ Fr 28 [(0,.slc (ints l)),(3,.int .i64 o),(4,.ptr b4 0),(5,.int .i64 (i : Int))] F ∧ ((b4,AO.cells [.osl bl cl (j8 x.l),.osl bp cp (je x.past)]) :: (Hm ++ H)) = H') (fun F H=>match F.getD 5 .any with | .int _ n'=>n - n'.toNat | _=>0) ⟨0,⟨[],[]⟩,0,0,0,0,[],by omega,rfl,.inl ⟨rfl,rfl,rfl⟩,⟨rfl,rfl,rfl,rfl,rfl,trivial⟩,rfl⟩ ?_
 rintro _ _ ⟨i,x,bl,cl,bp,cp,Hm,hi,hx,hr,hF,rfl⟩ K hN hE hR
 obtain ⟨z,rfl⟩ : ∃ z : Nat → D,_ = .slc (ints l) :: zz z 1 2 (.int .i64 o :: .ptr b4 0 :: .int .i64 (i : Int) :: zz z 6 22 []) := hF.lit
 try dsimp only [zz,qb] at *
 clear hF hR
 obtain ⟨gi,gl⟩ := u7 (l := l) (offices := o) ho'.1 i
 rw [← hx] at gi gl
 by_cases hlt : i < n
 ·have w2 : IntKind.i64.wrap (32 * (i : Int)) = 32 * (i : Int) := qw (by omega) (by omega)
  have w3 : IntKind.i64.wrap (2 + 32 * (i : Int)) = ((2 + 32 * i : Nat) : Int) := by rw [qw (by omega) (by omega)]; omega
  simp +contextual only [WE,qg,qi,jG,jZ,w0,↓Uf,↓XP,qm,XW1,qa,qb,qc,qd,qe,qf,reduceCtorEq]
  refine jL (i := 0) (by omega) ?_
  simp +contextual only [WE,qg,qi,jG,jZ,w0,w2,w3,↓Uf,↓XP,qm,XW1,qa,qb,qc,qd,qe,qf,reduceCtorEq]
  refine fun _=>⟨fun _=>⟨_,kq ⟨rfl,rfl⟩,?_⟩,fun hge=>absurd (by omega) hge⟩
  simp +contextual only [WE,qg,qi,jG,jZ,w0,w2,w3,↓Uf,↓XP,qm,XW1,qa,qb,qc,qd,qe,qf,reduceCtorEq]
  have hr1 : j8 x.l ≠ [] → qK ((b4,AO.cells [.osl bl cl (j8 x.l),.osl bp cp (je x.past)]) :: (Hm ++ H)) bl = some (.room cl (j8 x.l)) := fun hne=>by
   rcases hr with ⟨e,_⟩ | ⟨_,_,e1,e2,e3,rfl⟩
   ·exact (hne (pts_nil.2 e)).elim
   ·show qK ((b4,_) :: (bp,_) :: (bl,_) :: H) bl = _
    rw [qg e2,qg e1,jV]
  have hr2 : je x.past ≠ [] → qK ((b4,AO.cells [.osl bl cl (j8 x.l),.osl bp cp (je x.past)]) :: (Hm ++ H)) bp = some (.room cp (je x.past)) := fun hne=>by
   rcases hr with ⟨_,e,_⟩ | ⟨_,_,e1,e2,e3,rfl⟩
   ·exact (hne (past_nil.2 e)).elim
   ·show qK ((b4,_) :: (bp,_) :: (bl,_) :: H) bp = _
    rw [qg e3,jV]
  have hdr : jr (jr ((b4,AO.cells [.osl bl cl (j8 x.l),.osl bp cp (je x.past)]) :: (Hm ++ H)) bl (j8 x.l)) bp (je x.past) = (b4,AO.cells [.osl bl cl (j8 x.l),.osl bp cp (je x.past)]) :: H := by
   rcases hr with ⟨e,e',rfl⟩ | ⟨e0,e0',e1,e2,e3,rfl⟩
   ·rw [pts_nil.2 e,past_nil.2 e',oP,oP]; rfl
   ·show jr (jr ((b4,_) :: (bp,_) :: (bl,_) :: H) bl (j8 x.l)) bp (je x.past) = _
    unfold jr
    rw [if_neg (fun e=>e0 (pts_nil.1 e)),if_neg (fun e=>e0' (past_nil.1 e)),kv e2,kv e1,ub,kv e3,ub]
  refine fun _=>f_next gi (by omega) ho'.2 ho'.1 hr1 hr2 (fun bl' cl' bp' cp' t1 t2 t3=>?_)
  rw [hdr] at t2 t3 ⊢
  simp only [h_fr] at t2 t3
  obtain ⟨u1,t2⟩ := t2
  obtain ⟨u2,t3⟩ := t3
  have hx2 : next x o (l.drop (2 + 32 * i)) = ja l o (i + 1) := by rw [hx]; rfl
  rw [hx2]
  obtain ⟨gi2,gl2⟩ := u7 (l := l) (offices := o) ho'.1 (i + 1)
  have hne1 : (ja l o (i + 1)).l ≠ [] := fun e=>by rw [e] at gl2; simp at gl2
  have hne2 : (ja l o (i + 1)).past ≠ [] := fun e=>by have := gi2.np; rw [e,gl2] at this; simp at this
  simp +contextual only [WE,qg,qi,jG,jZ,u1,u2,qp (show i ≤ big by omega),↓Uf,↓XP,qm,XW1,qa,qb,qc,qd,qe,qf,reduceCtorEq]
  refine hN _ _ ((b4,AO.cells [.osl bl' cl' (j8 (ja l o (i + 1)).l),.osl bp' cp' (je (ja l o (i + 1)).past)]) :: ([(bp',AO.room cp' (je (ja l o (i + 1)).past)),(bl',AO.room cl' (j8 (ja l o (i + 1)).l))] ++ H)) ?_ ⟨i + 1,_,bl',cl',bp',cp',_,hlt,rfl,.inr ⟨hne1,hne2,t1,Ne.symm u1,Ne.symm u2,rfl⟩,⟨rfl,rfl,rfl,rfl,rfl,trivial⟩,rfl⟩ ?_
  ·exact Sbn.perm ((List.Perm.swap _ _ _).trans ((List.Perm.swap _ _ _).cons _))
  ·simp only [List.getD_cons_succ,List.getD_cons_zero]
   omega
 ·have hik : i = n := by omega
  subst hik
  clear hN
  simp +contextual only [WE,qg,qi,jG,jZ,w0,↓Uf,↓XP,qm,XW1,qa,qb,qc,qd,qe,qf,reduceCtorEq]
  refine jL (i := 0) (by omega) ?_
  simp +contextual only [WE,qg,qi,jG,jZ,w0,↓Uf,↓XP,qm,XW1,qa,qb,qc,qd,qe,qf,reduceCtorEq]
  refine fun _=>hE _ _ _ ?_
  simp +contextual only [WE,qg,qi,jG,jZ,w0,↓Uf,↓XP,qm,XW1,qa,qb,qc,qd,qe,qf,reduceCtorEq]
  rw [uG]
  refine Gz.weak jV ?_
  simp +contextual only [WE,qg,qi,jG,jZ,D.wk,↓Uf,↓XP,qm,XW1,qa,qb,qc,qd,qe,qf,reduceCtorEq]
  rw [← hx] at h
  refine fun _=>Wj (by omega) (fun p hp=>?_) ?_
  ·have h1 := gi.sq p hp
   have h2 := gi.ne p hp
   omega
  ·simp +contextual only [WE,qg,qi,jG,jZ,↓Uf,↓XP,qm,XW1,qa,qb,qc,qd,qe,qf,reduceCtorEq]
   exact fun _=>⟨H,Sbn.sub ((List.sublist_append_right _ _).cons _),h⟩
end Go.Proofs.YtoeckfegggongaaGreatDoor
end
section
namespace Go.Proofs.YtoeckfegggongaaGreatDoor
open Go Go.Aw
theorem f_short {s : List UInt8} {n : Nat} {H : AH} {R : D → AH → Prop} (hn : n ≤ 1000000) (h : R (.str (s.take n)) H) : ACall Tryz.prog 10 [.str s,.int .i64 (n : Int)] H R := by
 refine b10 fun hf=>?_
 have hbig := qt
 rcases Classical.em (n < s.length) with c | c
 ·simp +contextual only [x10,show ((n : Int) < (s.length : Int)) = True from eq_true (by omega),show ((s.length : Int) > (n : Int)) = True from eq_true (by omega),↓U10,↓XP,qm,XW1,qa,qb,qc,qd,qe,qf,reduceCtorEq]
  exact fun _=>⟨by omega,h⟩
 ·rw [List.take_of_length_le (by omega)] at h
  simp +contextual only [x10,show ((n : Int) < (s.length : Int)) = False from eq_false (by omega),show ((s.length : Int) > (n : Int)) = False from eq_false (by omega),↓U10,↓XP,qm,XW1,qa,qb,qc,qd,qe,qf,reduceCtorEq]
  exact fun _=>h
theorem f_some {l : List Int} {a : Int} {H : AH} {R : D → AH → Prop} (h : ∀ p,FV p → R (.agg p.d) H) : ACall Tryz.prog 5 [.slc (ints l),.int .i64 a] H R := by
 refine b5 fun hf=>?_
 have hbig := qt
 obtain ⟨h1,h2,h3⟩ := Y8 l
 have pl : (j8 (patches l)).length = (patches l).length := by simp [j8]
 simp +contextual only [x5,pl,↓U5,↓XP,qm,XW1,qa,qb,qc,qd,qe,qf,reduceCtorEq]
 intro b4 h4
 refine W4 ?_
 simp +contextual only [x5,pl,↓U5,↓XP,qm,XW1,qa,qb,qc,qd,qe,qf,reduceCtorEq]
 refine fun _=>qP (by omega) ?_
 obtain ⟨r1,r2⟩ := jf (n := a) (most := ((patches l).length : Int)) (by omega)
 obtain ⟨k,hk⟩ := Int.eq_ofNat_of_zero_le r1
 rw [hk] at r2 ⊢
 have hkl : k < (patches l).length := by omega
 have q1 : (j8 (patches l)).getD k [] = ((patches l).getD k default).d := by simp [j8,hkl]
 have hp := h1 _ (kN (d := default) hkl)
 generalize (patches l).getD k default = p at q1 hp
 have hd := @dE p
 simp +contextual only [x5,pl,q1,hd,hkl,Int.ofNat_lt,↓U5,↓XP,qm,XW1,qa,qb,qc,qd,qe,qf,reduceCtorEq]
 exact fun _=>h p hp
end Go.Proofs.YtoeckfegggongaaGreatDoor
end
section
namespace Go.Proofs.YtoeckfegggongaaGreatDoor
open Go.Xs
open Go Go.Aw
def x4_s0 : XC := (.seq (.reg [m 16 63,m 18 64,a (.binOp .neq 29 (t 63) (t 64) 29) 65,m 65 66,g (.move (t 15)) 67 66 false,g (.move (t 17)) 68 66 false,g (k 13 #[(t 67),(t 68)] #[35,35]) 69 66 false,g (.unOp .not 4 (t 69)) 70 66 false,a (.pick (t 66) (.const (.bool true)) (t 70)) 71]) (.cond (t 71) (.seq (.reg [a (.assign (.const (.bool false))) 10]) .ret) .skip))
def x4_s1 : XC := (.seq (.reg [m 13 56,m 14 57,j 34 56 57 58,l 26 58 59,a (k 12 #[(t 59)] #[26]) 60,m 60 55,b (.extract (t 55) 0) 61,b (.extract (t 55) 1) 62,n 61 17,n 62 18]) x4_s0)
def x4_s2 : XC := (.reg [m 14 45,b (.binOp .add 3 (t 45) (i 1) 3) 46,n 46 14])
def x4_s3 : XC := (.seq (.block 1 (.seq (.reg [m 13 48,m 14 49,j 34 48 49 50,l 26 50 51,a (k 11 #[(t 51)] #[26]) 52,m 52 47,b (.extract (t 47) 0) 53,b (.extract (t 47) 1) 54,n 53 15,n 54 16]) x4_s1)) x4_s2)
def x4_L4 : XC := (.seq (.seq (.reg [m 14 43,a (.binOp .lss 3 (t 43) (i 2) 3) 44]) (.cond (t 44) .skip (.exit 0))) x4_s3)
def x4_s5 : XC := (.seq (.reg [m 25 135,m 27 136,a (.binOp .neq 29 (t 135) (t 136) 29) 137,m 137 138,g (.load 26 (t 24)) 139 138 false,g (.load 26 (t 26)) 140 138 false,g (k 18 #[(t 139),(t 140)] #[26,26]) 141 138 false,g (.unOp .not 4 (t 141)) 142 138 false,a (.pick (t 138) (.const (.bool true)) (t 142)) 143]) (.cond (t 143) (.seq (.reg [a (.assign (.const (.bool false))) 10]) .ret) .skip))
def x4_s6 : XC := (.seq (.reg [m 22 128,m 23 129,j 41 128 129 130,l 35 130 131,a (k 17 #[(t 131)] #[35]) 132,m 132 127,b (.extract (t 127) 0) 133,b (.extract (t 127) 1) 134,a (.alloc 26) 26,w 26 26 133,n 134 27]) x4_s5)
def x4_s7 : XC := (.reg [m 23 117,b (.binOp .add 3 (t 117) (i 1) 3) 118,n 118 23])
def x4_s8 : XC := (.seq (.block 3 (.seq (.reg [m 22 120,m 23 121,j 41 120 121 122,l 35 122 123,a (k 16 #[(t 123)] #[35]) 124,m 124 119,b (.extract (t 119) 0) 125,b (.extract (t 119) 1) 126,a (.alloc 26) 24,w 26 24 125,n 126 25]) x4_s6)) x4_s7)
def x4_L9 : XC := (.seq (.seq (.reg [m 23 113,m 22 114,e 41 114 115,a (.binOp .lss 3 (t 113) (t 115) 3) 116]) (.cond (t 116) .skip (.exit 2))) x4_s8)
def x4_s10 : XC := (.seq (.seq (.reg [a (.assign (i 0)) 23]) (.block 2 (.loop x4_L9))) (.seq (.reg [b (k 9 #[] #[]) 144,n 144 10]) .ret))
def x4_s11 : XC := (.seq (.gh (.regD [m 19 86,m 21 87,m 19 88,m 20 89,a (.slice 35 (t 88) .none (.some (t 89)) .none) 90,c (.buildSlice 35 0 #[]) 91,m 19 92,m 20 93,a (.slice 35 (t 92) .none (.some (t 93)) .none) 94,c (.call ⟨(.builtin .append),#[(t 91),(t 94)],#[35,35]⟩) 95,m 19 96,m 20 97,a (.binOp .add 3 (t 97) (i 1) 3) 98,a (.slice 35 (t 96) (.some (t 98)) .none .none) 99,a (.call ⟨(.builtin .append),#[(t 95),(t 99)],#[35,35]⟩) 100,c (.buildSlice 35 0 #[]) 101,m 19 102,c (.call ⟨(.builtin .append),#[(t 101),(t 102)],#[35,35]⟩) 103,m 3 104,a (.convert 3 5 (t 104)) 105,a (.buildSlice 35 1 #[(0,(t 105))]) 106,a (.call ⟨(.builtin .append),#[(t 103),(t 106)],#[35,35]⟩) 107,l 26 12 108,a (k 14 #[(t 108)] #[26]) 109,m 4 110,a (.convert 9 35 (t 110)) 111,b (.buildSlice 41 8 #[(0,(t 86)),(1,(t 87)),(2,(t 90)),(3,(t 100)),(4,(t 107)),(5,(t 109)),(6,(t 111)),(7,(.const (.slice .none 0 0)))]) 112,n 112 22])) x4_s10)
def x4_s12 : XC := (.seq (.reg [m 21 81,m 20 82,m 2 83,b (.convert 3 5 (t 83)) 84,j 35 81 82 85,w 5 85 84]) x4_s11)
def x4_s13 : XC := (.seq (.reg [c (.buildSlice 35 0 #[]) 78,m 19 79,b (.call ⟨(.builtin .append),#[(t 78),(t 79)],#[35,35,0]⟩) 80,n 80 21]) x4_s12)
def x4_s14 : XC := (.seq (.reg [m 3 74,m 19 75,e 35 75 76,b (k 15 #[(t 74),(t 76)] #[3,3]) 77,n 77 20]) x4_s13)
def x4_s15 : XC := (.seq (.reg [l 26 11 72,b (k 14 #[(t 72)] #[26]) 73,n 73 19]) x4_s14)
def x4_s16 : XC := (.seq (.reg [l 26 11 40,l 26 12 41,b (.buildSlice 34 2 #[(0,(t 40)),(1,(t 41))]) 42,n 42 13]) (.seq (.seq (.reg [a (.assign (i 0)) 14]) (.block 0 (.loop x4_L4))) x4_s15))
def x4_s17 : XC := (.seq (.reg [m 4 37,b (k 10 #[(t 37),(i 20)] #[9,3]) 38,f 26 11 5 39,w 9 39 38]) x4_s16)
def x4_s18 : XC := (.seq (.reg [l 26 11 31,m 1 32,a (.binOp .quo 3 (t 32) (i 5) 3) 33,m 2 34,m 3 35,b (k 6 #[(t 31),(t 33),(t 34),(t 35)] #[26,3,3,3]) 36,a (.alloc 26) 12,w 26 12 36]) x4_s17)
def x4_s19 : XC := (.seq (.reg [m 0 28,m 1 29,b (k 5 #[(t 28),(t 29)] #[22,3]) 30,a (.alloc 26) 11,w 26 11 30]) x4_s18)
def V4 := PLift.up (aI (aI (aI (aI (@unf _ _ x4_s0.eq_1) (@unf _ _ x4_s1.eq_1)) (aI (@unf _ _ x4_s2.eq_1) (aI (@unf _ _ x4_s3.eq_1) (@unf _ _ x4_L4.eq_1)))) (aI (aI (@unf _ _ x4_s5.eq_1) (@unf _ _ x4_s6.eq_1)) (aI (@unf _ _ x4_s7.eq_1) (aI (@unf _ _ x4_s8.eq_1) (@unf _ _ x4_L9.eq_1))))) (aI (aI (aI (@unf _ _ x4_s10.eq_1) (@unf _ _ x4_s11.eq_1)) (aI (@unf _ _ x4_s12.eq_1) (aI (@unf _ _ x4_s13.eq_1) (@unf _ _ x4_s14.eq_1)))) (aI (aI (@unf _ _ x4_s15.eq_1) (@unf _ _ x4_s16.eq_1)) (aI (@unf _ _ x4_s17.eq_1) (aI (@unf _ _ x4_s18.eq_1) (@unf _ _ x4_s19.eq_1))))))
theorem U4 : type_of% V4.down := V4.down
def x4 : XC := (.seq (.reg [a (.assign (.const (.bool false))) 10]) x4_s19)
theorem b4 : Bt 4 145 x4 [(.tmp 10)] := bt Tryz.func4 rfl (by kernel_rfl) (by kernel_rfl) (by kernel_rfl)
end Go.Proofs.YtoeckfegggongaaGreatDoor
end
section
namespace Go.Proofs.YtoeckfegggongaaGreatDoor
open Go Go.Aw
def Ks (l : List (List UInt8)) : List (List D) := l.map fun b=>[.slc (b.map qr)]
theorem jA {l : List (List UInt8)} : (Ks l).length = l.length := by simp [Ks]
theorem r_e1 {p q : Pt} {s : List UInt8} {how bb : Int} {WG WI : Nat} {H : AH} {Q : AQ} {F : List D} (hp : Fit p) (hq : Fit q) {i : Nat} (hi : i = 0) (hF : Fr 145 [(2,.int .i64 how),(3,.int .i64 bb),(4,.str s),(11,.ptr WG 0),(12,.ptr WI 0),(13,.own (j8 [p,q])),(14,.int .i64 (i : Int))] F)
  (hE : ∀ F',Fr 145 [(2,.int .i64 how),(3,.int .i64 bb),(4,.str s),(11,.ptr WG 0),(12,.ptr WI 0)] F' → Q (.exit 0) F' H) : XW Tryz.prog x4_L4 F H Q := by
 have hbig := qt
 refine XW.loopK hm (fun F H'=>∃ (i : Nat),i ≤ 2 ∧ Fr 145 [(2,.int .i64 how),(3,.int .i64 bb),(4,.str s),(11,.ptr WG 0),(12,.ptr WI 0),(13,.own (j8 [p,q])),(14,.int .i64 (i : Int))] F ∧ H = H') (fun F H=>match F.getD 14 .any with | .int _ n'=>2 - n'.toNat | _=>0) ⟨i,by omega,hF,rfl⟩ ?_
 clear hF hi i
 rintro _ _ ⟨i,hi,hF,rfl⟩ K hN hE' hR
 obtain ⟨z,rfl⟩ : ∃ z : Nat → D,_ = zz z 0 2 (.int .i64 how :: .int .i64 bb :: .str s :: zz z 5 6 (.ptr WG 0 :: .ptr WI 0 :: .own (j8 [p,q]) :: .int .i64 (i : Int) :: zz z 15 130 [])) := hF.lit
 try dsimp only [zz,qb] at *
 clear hF hR
 have pl : (j8 [p,q]).length = 2 := rfl
 by_cases hlt : i < 2
 ·have nx : ∀ F',Fr 145 [(2,.int .i64 how),(3,.int .i64 bb),(4,.str s),(11,.ptr WG 0),(12,.ptr WI 0),(13,.own (j8 [p,q])),(14,.int .i64 ((i + 1 : Nat) : Int))] F' → K .normal F' H := fun F' hF'=>hN _ _ ⟨i + 1,by omega,hF',(j9 rfl).symm⟩ (by
   rw [List.getD_eq_getElem?_getD,hF'.2.2.2.2.2.2.2.1]
   simp only [List.getD_cons_succ,List.getD_cons_zero,Option.getD_some]
   omega)
  clear hN hE hE'
  obtain ⟨t,ht,q1⟩ : ∃ t,Fit t ∧ (j8 [p,q]).getD i [] = t.d := by
   match i,hlt with
   | 0,_=>exact ⟨p,hp,rfl⟩
   | 1,_=>exact ⟨q,hq,rfl⟩
  have hd := @dE t
  generalize j8 [p,q] = xs at pl q1 nx ⊢
  simp +contextual only [x4,qh,jA,jb,qU,jd,jc,pl,q1,hd,show ((i : Int) < 2) = True from eq_true (by omega),show ((2 : Nat) : Int) = 2 from rfl,↓U4,↓XP,qm,XW1,qa,qb,qc,qd,qe,qf,reduceCtorEq]
  refine oW (p := t) ht ?_
  rcases Classical.em (v7 t = 0) with c1 | c1
  ·rw [if_pos c1,c1]
   simp +contextual only [x4,qh,jA,jb,qU,jd,jc,pl,q1,hd,show ((i : Int) < 2) = True from eq_true (by omega),show ((2 : Nat) : Int) = 2 from rfl,↓U4,↓XP,qm,XW1,qa,qb,qc,qd,qe,qf,reduceCtorEq]
   refine fun _ _=>oZ (p := t) ht ?_
   rw [if_pos c1,c1]
   simp +contextual only [x4,qh,jA,jb,qU,jd,jc,pl,q1,hd,↓U4,↓XP,qm,XW1,qa,qb,qc,qd,qe,qf,reduceCtorEq]
   refine fun _ _=>vc (a := ji t) (b := ji t) ?_
   rw [decide_eq_true rfl]
   simp +contextual only [x4,qh,jA,jb,qU,jd,jc,qp (show i ≤ big by omega),↓U4,↓XP,qm,XW1,qa,qb,qc,qd,qe,qf,reduceCtorEq]
   exact nx _ ⟨rfl,rfl,rfl,rfl,rfl,rfl,rfl,rfl,trivial⟩
  ·rw [if_neg c1]
   simp +contextual only [x4,qh,jA,jb,qU,jd,jc,pl,q1,hd,show ((i : Int) < 2) = True from eq_true (by omega),show ((2 : Nat) : Int) = 2 from rfl,↓U4,↓XP,qm,XW1,qa,qb,qc,qd,qe,qf,reduceCtorEq]
   refine fun _ _=>oZ (p := t) ht ?_
   rw [if_neg c1]
   simp +contextual only [x4,qh,jA,jb,qU,jd,jc,pl,q1,hd,↓U4,↓XP,qm,XW1,qa,qb,qc,qd,qe,qf,reduceCtorEq]
   refine fun _ _=>vc (a := []) (b := []) ?_
   rw [decide_eq_true rfl]
   simp +contextual only [x4,qh,jA,jb,qU,jd,jc,qp (show i ≤ big by omega),↓U4,↓XP,qm,XW1,qa,qb,qc,qd,qe,qf,reduceCtorEq]
   exact nx _ ⟨rfl,rfl,rfl,rfl,rfl,rfl,rfl,rfl,trivial⟩
 ·clear hN
  simp +contextual only [x4,qh,jA,jb,qU,jd,jc,show ((i : Int) < 2) = False from eq_false (by omega),↓U4,↓XP,qm,XW1,qa,qb,qc,qd,qe,qf,reduceCtorEq]
  refine hE' _ _ _ (hE _ ?_)
  exact ⟨rfl,rfl,rfl,rfl,rfl,rfl,trivial⟩
theorem r_e2 {T : List (List UInt8)} {H : AH} {Q : AQ} {F : List D} (hT : ∀ b ∈ T,b.length ≤ 3000000) (hl : T.length ≤ 1000) {i : Nat} (hi : i = 0) (hF : Fr 145 [(22,.own (Ks T)),(23,.int .i64 (i : Int))] F)
  (hE : ∀ F',Fr 145 [(22,.own (Ks T))] F' → Q (.exit 2) F' H) : XW Tryz.prog x4_L9 F H Q := by
 have hbig := qt
 refine XW.loopK hm (fun F H'=>∃ (i : Nat),i ≤ T.length ∧ Fr 145 [(22,.own (Ks T)),(23,.int .i64 (i : Int))] F ∧ H = H') (fun F H=>match F.getD 23 .any with | .int _ n'=>T.length - n'.toNat | _=>0) ⟨i,by omega,hF,rfl⟩ ?_
 clear hF hi i
 rintro _ _ ⟨i,hi,hF,rfl⟩ K hN hE' hR
 obtain ⟨z,rfl⟩ : ∃ z : Nat → D,_ = zz z 0 22 (.own (Ks T) :: .int .i64 (i : Int) :: zz z 24 121 []) := hF.lit
 try dsimp only [zz,qb] at *
 clear hF hR
 by_cases hlt : i < T.length
 ·have nx : ∀ F' H',back H.length H' = H → Fr 145 [(22,.own (Ks T)),(23,.int .i64 ((i + 1 : Nat) : Int))] F' → K .normal F' H' := fun F' H' hH hF'=>hN _ _ ⟨i + 1,by omega,hF',hH.symm⟩ (by
   rw [List.getD_eq_getElem?_getD,hF'.2.2.1]
   simp only [List.getD_cons_succ,List.getD_cons_zero,Option.getD_some]
   omega)
  clear hN hE hE'
  obtain ⟨t,ht,q1⟩ : ∃ t : List UInt8,t.length ≤ 3000000 ∧ (Ks T).getD i [] = [.slc (t.map qr)] := ⟨T[i],hT _ (List.getElem_mem hlt),by simp [Ks,hlt]⟩
  have pl := jA (l := T)
  generalize Ks T = xs at pl q1 nx ⊢
  simp +contextual only [x4,qh,jA,jb,qU,jd,jc,pl,q1,hlt,Int.ofNat_lt,↓U4,↓XP,qm,XW1,qa,qb,qc,qd,qe,qf,reduceCtorEq]
  refine fun _ _=>JH ht ?_
  obtain ⟨r,hr⟩ : ∃ r,yv t = r := ⟨_,rfl⟩
  rw [hr]
  obtain ⟨x,e⟩ := r
  dsimp only
  have hd := @dE x
  simp +contextual only [x4,qh,jA,jb,qU,jd,jc,pl,q1,hd,hlt,Int.ofNat_lt,↓U4,↓XP,qm,XW1,qa,qb,qc,qd,qe,qf,reduceCtorEq]
  intro _ b24 h24 _
  refine Wz ht ?_
  rw [hr]
  dsimp only
  simp +contextual only [x4,qh,jA,jb,qU,jd,jc,pl,q1,hd,qg,qi,↓U4,↓XP,qm,XW1,qa,qb,qc,qd,qe,qf,reduceCtorEq]
  intro _ b26 hh
  obtain ⟨n1,h26⟩ := hh
  refine VR (p := x) ?_
  simp +contextual only [x4,qh,jA,jb,qU,jd,jc,pl,q1,hd,qp (show i ≤ big by omega),↓U4,↓XP,qm,XW1,qa,qb,qc,qd,qe,qf,reduceCtorEq]
  exact nx _ _ (Ky rfl) ⟨rfl,rfl,rfl,trivial⟩
 ·clear hN
  simp +contextual only [x4,qh,jA,jb,qU,jd,jc,hlt,Int.ofNat_lt,↓U4,↓XP,qm,XW1,qa,qb,qc,qd,qe,qf,reduceCtorEq]
  intro _
  refine hE' _ _ _ (hE _ ?_)
  exact ⟨rfl,rfl,trivial⟩
end Go.Proofs.YtoeckfegggongaaGreatDoor
end
section
namespace Go.Aw
open Go Go.RowKit
section
variable {F : List D} {H : AH} {k : List D → AH → Prop}
theorem Gz.give0 {bx j : Nat} {cs : List D} (hg : qK H bx = some (.cells cs)) (hj : cs[j]? = some (.own [])) (h : k F (qY H bx (.cells (cs.set j (.osl 0 0 []))))) : Gz F H k := by
 intro K w t hs
 refine ⟨F,_,K,h,.refl K w,hs.krel,⟨by rw [yf]; exact hs.hrel.nd,fun c' o' hm'=>?_⟩,hs.len,hs.slot⟩
 rcases wo hs.hrel.nd hm' with ⟨rfl,rfl⟩ | ⟨hne,hm'⟩
 ·obtain ⟨hpb,c,T,hb,hcs,hrc⟩ := hs.hrel.ok c' _ (jp hg)
  refine ⟨hpb,c,T,hb,by simpa using hcs,fun q d hd=>?_⟩
  rcases getElem?_set_some hd with ⟨rfl,rfl,_⟩ | ⟨_,hd⟩
  ·obtain ⟨u,f1,f2,f3⟩ := hrc _ _ hj
   have f4 : OwnAt K w _ [] u := f3
   refine ⟨u,f1,f2,?_⟩
   rcases f4 with ⟨_,a,rfl⟩ | ⟨b,cap,sz,c2,T2,_,_,_,_,hp,_⟩
   ·exact .oslnil 0 0 a
   ·simp at hp
  ·exact hrc q d hd
 ·exact hs.hrel.ok c' o' hm'
theorem Gz.giveA {bx j : Nat} {cs : List D} {xs : List (List D)} (hg : qK H bx = some (.cells cs)) (hj : cs[j]? = some (.own xs))
  (h : ∀ b cap H',qK H' bx = some (.cells (cs.set j (.osl b cap xs))) → (xs ≠ [] → qK H' b = some (.room cap xs)) → jr H' b xs = qY H bx (.cells (cs.set j (.osl b cap xs))) → k F H') : Gz F H k := by
 rcases Classical.em (xs = []) with hx | hx
 ·subst hx
  exact Gz.give0 hg hj (h 0 0 _ (Qz (by rw [hg]; rfl)) (fun e=>(e rfl).elim) (by simp only [jr,if_true]))
 ·refine Gz.give hx hg hj fun b cap hf=>h b cap _ ?_ (fun _=>jV) (by simp only [jr,if_neg hx,ub])
  rw [qg (fun e=>vm hf (jp hg) e),Qz (by rw [hg]; rfl)]
end
end Go.Aw
end
section
namespace Go.Proofs.YtoeckfegggongaaGreatDoor
open Go Go.Aw
structure Sz (n : Nat) (p : Pt) : Prop where
 ops : p.ops.length ≤ n
 needs : p.needs.length ≤ n
 ids : ∀ o ∈ p.ops,o.ids.length ≤ 100 + n
 name : ∀ o ∈ p.ops,o.name.length ≤ 2000
 text : ∀ o ∈ p.ops,o.text.length ≤ 2000
 sl : p.sl.length ≤ 2000
theorem Sz.le {n m : Nat} {p : Pt} (h : Sz n p) (hn : n ≤ m) : Sz m p :=
 ⟨by have := h.ops; omega,by have := h.needs; omega,fun o ho=>by have := h.ids o ho; omega,h.name,h.text,h.sl⟩
theorem Sz.setOp {n : Nat} {p : Pt} (h : Sz n p) {k : Nat} {o : OpP} (h1 : o.ids.length ≤ 114 + n) (h2 : o.name.length ≤ 2000) (h3 : o.text.length ≤ 2000) : Sz (n + 14) { p with ops := p.ops.set k o } := by
 refine ⟨by simp only [List.length_set]; have := h.ops; omega,by have := h.needs; simp only; omega,fun x hx=>?_,fun x hx=>?_,fun x hx=>?_,h.sl⟩
 ·rcases List.mem_or_eq_of_mem_set hx with hx | rfl
  ·have := h.ids x hx; omega
  ·omega
 ·rcases List.mem_or_eq_of_mem_set hx with hx | rfl
  ·exact h.name x hx
  ·exact h2
 ·rcases List.mem_or_eq_of_mem_set hx with hx | rfl
  ·exact h.text x hx
  ·exact h3
theorem Sz.more {n : Nat} {p : Pt} (h : Sz n p) {l : List OpP} {m : Nat} (hl : l.length ≤ m) (h1 : ∀ o ∈ l,o.ids.length ≤ 100 + n) (h2 : ∀ o ∈ l,o.name.length ≤ 2000) (h3 : ∀ o ∈ l,o.text.length ≤ 2000) : Sz (n + m) { p with ops := p.ops ++ l } := by
 refine ⟨by simp only [List.length_append]; have := h.ops; omega,by have := h.needs; simp only; omega,fun x hx=>?_,fun x hx=>?_,fun x hx=>?_,h.sl⟩
 ·rcases List.mem_append.1 hx with hx | hx
  ·have := h.ids x hx; omega
  ·have := h1 x hx; omega
 ·exact (List.mem_append.1 hx).elim (h.name x) (h2 x)
 ·exact (List.mem_append.1 hx).elim (h.text x) (h3 x)
theorem ow {xs : List (List D)} {sz k : Nat} (hs : ∀ x ∈ xs,x.length = sz) (hk : k < xs.length) (rest : List D) :
  xs.flatten ++ rest = (xs.take k).flatten ++ (xs.getD k [] ++ ((xs.drop (k + 1)).flatten ++ rest)) ∧ (xs.take k).flatten.length = k * sz ∧ (xs.getD k []).length = sz := by
 have e : xs = xs.take k ++ (xs.getD k [] :: xs.drop (k + 1)) := by
  have h1 : xs.getD k [] = xs[k] := by simp [hk]
  rw [h1,List.getElem_cons_drop,List.take_append_drop]
 refine ⟨?_,?_,?_⟩
 ·conv=>lhs; rw [e]
  simp only [List.flatten_append,List.flatten_cons,List.append_assoc]
 ·rw [wG (sz := sz) (fun x hx=>hs x (List.mem_of_mem_take hx)),List.length_take,Nat.min_eq_left (by omega)]
 ·have h1 : xs.getD k [] = xs[k] := by simp [hk]
  rw [h1]
  exact hs _ (List.getElem_mem hk)
theorem YA {xs : List (List D)} {k : Nat} (hk : k < xs.length) (y rest : List D) : (xs.take k).flatten ++ (y ++ ((xs.drop (k + 1)).flatten ++ rest)) = (xs.set k y).flatten ++ rest := by
 rw [List.set_eq_take_append_cons_drop,if_pos hk]
 simp only [List.flatten_append,List.flatten_cons,List.append_assoc]
theorem Vy {xs : List (List D)} {sz k j : Nat} {v : D} {rest : List D} (hs : ∀ x ∈ xs,x.length = sz) (hk : k < xs.length) (hj : j < sz) :
  (xs.flatten ++ rest).set (k * sz + j) v = (xs.set k ((xs.getD k []).set j v)).flatten ++ rest := by
 obtain ⟨h1,h2,h3⟩ := ow hs hk rest
 rw [h1,← YA hk,List.set_append_right _ _ (by omega),h2,Nat.add_sub_cancel_left,List.set_append_left _ _ (by omega)]
theorem ap_sets {A x r v : List D} {a j m sz : Nat} (ha : A.length = a) (hx : x.length = sz) (hj : j + m ≤ sz) :
  (A ++ (x ++ r)).take (a + j) ++ (v ++ (A ++ (x ++ r)).drop (a + j + m)) = A ++ ((x.take j ++ (v ++ x.drop (j + m))) ++ r) := by
 subst ha
 rw [List.take_length_add_append,Nat.add_assoc,List.drop_length_add_append,List.take_append_of_le_length (by omega),List.drop_append_of_le_length (by omega)]
 simp only [List.append_assoc]
theorem ap_gets {A x r : List D} {a j m sz : Nat} (ha : A.length = a) (hx : x.length = sz) (hj : j + m ≤ sz) :
  ((A ++ (x ++ r)).drop (a + j)).take m = (x.drop j).take m := by
 subst ha
 rw [List.drop_length_add_append,List.drop_append_of_le_length (by omega),List.take_append_of_le_length (by rw [List.length_drop]; omega)]
theorem fl_sets {xs : List (List D)} {sz k j m : Nat} {v : List D} {rest : List D} (hs : ∀ x ∈ xs,x.length = sz) (hk : k < xs.length) (hj : j + m ≤ sz) :
  (xs.flatten ++ rest).take (k * sz + j) ++ (v ++ (xs.flatten ++ rest).drop (k * sz + j + m)) = (xs.set k ((xs.getD k []).take j ++ (v ++ (xs.getD k []).drop (j + m)))).flatten ++ rest := by
 obtain ⟨h1,h2,h3⟩ := ow hs hk rest
 rw [h1,← YA hk]
 exact ap_sets h2 h3 hj
theorem fl_gets {xs : List (List D)} {sz k j m : Nat} {rest : List D} (hs : ∀ x ∈ xs,x.length = sz) (hk : k < xs.length) (hj : j + m ≤ sz) :
  ((xs.flatten ++ rest).drop (k * sz + j)).take m = ((xs.getD k []).drop j).take m := by
 obtain ⟨h1,h2,h3⟩ := ow hs hk rest
 rw [h1]
 exact ap_gets h2 h3 hj
theorem fl_get {xs : List (List D)} {sz k j : Nat} {rest : List D} (hs : ∀ x ∈ xs,x.length = sz) (hk : k < xs.length) (hj : j < sz) :
  (xs.flatten ++ rest)[k * sz + j]? = (xs.getD k [])[j]? := by
 obtain ⟨h1,h2,h3⟩ := ow hs hk rest
 rw [h1,List.getElem?_append_right (by omega),h2,Nat.add_sub_cancel_left,List.getElem?_append_left (by omega)]
theorem YI {l : List OpP} {k : Nat} {o : OpP} : (qM l).set k o.d = qM (l.set k o) := by simp only [qM,List.map_set]
end Go.Proofs.YtoeckfegggongaaGreatDoor
end
