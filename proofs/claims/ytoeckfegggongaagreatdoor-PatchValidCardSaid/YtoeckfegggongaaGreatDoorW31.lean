/- For every input, PatchValid returns true, writes nothing that was there, and its arguments read as before. Conditions: none but the statement's own. -/
import Derived.Test.YtoeckfegggongaaGreatDoorW30
import Derived.Test.YtoeckfegggongaaGreatDoorCards
import Derived.Test.YtoeckfegggongaaGreatDoorTie
import Derived.Deep.DeepHandedRow
import Derived.Lib.LaidTab
set_option linter.unusedVariables false
set_option linter.unusedSimpArgs false
set_option maxRecDepth 100000
set_option maxHeartbeats 16000000
open Nat (reduceSub reduceAdd reduceMul reduceEqDiff reduceLeDiff)
section
namespace Go.Proofs.YtoeckfegggongaaGreatDoor
open Go Go.Aw
theorem bestTo_range {l out : List Pt} : ∀ i,-1 ≤ bestTo l out i ∧ bestTo l out i < i
 | 0=>⟨by simp [bestTo],by simp [bestTo]⟩
 | i + 1=>by
  have := bestTo_range (l := l) (out := out) i
  unfold bestTo
  split
  ·omega
  ·omega
theorem ordTo_len {l : List Pt} : ∀ n,(orderedTo l n).1.length ≤ n
 | 0=>by simp [orderedTo]
 | n + 1=>by
  have := ordTo_len (l := l) n
  simp only [orderedTo]
  split
  ·split
   ·simp only []; omega
   ·simp only [List.length_append,List.length_cons,List.length_nil]; omega
  ·omega
theorem ordTo_stop {l : List Pt} {n : Nat} (h : (orderedTo l n).2 = false) : ∀ k,orderedTo l (n + k) = orderedTo l n
 | 0=>rfl
 | k + 1=>by
  have ih := ordTo_stop h k
  show orderedTo l (n + k + 1) = _
  simp only [orderedTo,ih,h,Bool.false_eq_true,if_false]
theorem f_ordered {l : List Pt} {H : AH} {R : D → AH → Prop} (hb : l.length ≤ 100) (hl : ∀ p ∈ l,0 ≤ p.s ∧ p.s ≤ 1000000 ∧ p.needs.length ≤ 1000000) (h : R (.own (ptsD (ordered l))) H) : ACall Tryz.prog 45 [.slc (ptsD l)] H R := by
 refine b45 fun hf=>?_
 have hbig := big_eq
 simp +contextual only [x45,↓U45,↓XP,XW0,XW1,reduceSub,reduceAdd,reduceMul,reduceEqDiff,reduceLeDiff,Nat.reduceBEq,reduceCtorEq,TYX]
 refine XW.loopK hm (fun F H'=>∃ (n : Nat) (out : List Pt),n ≤ l.length ∧ orderedTo l n = (out,true) ∧ Fr 82 [(0,.slc (ptsD l)),(3,.own (ptsD out)),(4,.int .i64 n)] F ∧ H = H') (fun F H=>match F.getD 4 .any with | .int _ n'=>l.length - n'.toNat | _=>0) ⟨0,[],by omega,rfl,⟨rfl,rfl,rfl,rfl,trivial⟩,rfl⟩ ?_
 rintro _ _ ⟨n,out,hn,ho,hF,rfl⟩ K hN hE hR
 obtain ⟨z,rfl⟩ : ∃ z : Nat → D,_ = .slc (ptsD l) :: zz z 1 2 (.own (ptsD out) :: .int .i64 n :: zz z 5 77 []) := hF.lit
 try dsimp only [zz,reduceAdd] at *
 clear hF
 have hol := ordTo_len (l := l) n
 rw [ho] at hol
 simp only at hol
 by_cases hlt : n < l.length
 ·have hsn : orderedTo l (n + 1) = (if bestTo l out l.length < 0 then (out,false) else (out ++ [l.getD (bestTo l out l.length).toNat default],true)) := by
   simp only [orderedTo,ho,if_true]
  simp +contextual only [pts_len,h_miss,h_skip,↓U45,↓XP,XW0,XW1,reduceSub,reduceAdd,reduceMul,reduceEqDiff,reduceLeDiff,Nat.reduceBEq,reduceCtorEq,TYX]
  refine fun _=>⟨fun _=>?_,fun hge=>absurd (by omega) hge⟩
  refine XW.loopK hm (fun F H'=>∃ (i : Nat),i ≤ l.length ∧ Fr 82 [(0,.slc (ptsD l)),(3,.own (ptsD out)),(4,.int .i64 n),(5,.int .i64 (bestTo l out i)),(6,.int .i64 i)] F ∧ H = H') (fun F H=>match F.getD 6 .any with | .int _ n'=>l.length - n'.toNat | _=>0) ⟨0,by omega,⟨rfl,rfl,rfl,rfl,rfl,rfl,trivial⟩,rfl⟩ ?_
  rintro _ _ ⟨i,hi,hF,rfl⟩ K2 hN2 hE2 hR2
  obtain ⟨z2,rfl⟩ : ∃ z2 : Nat → D,_ = (let z := z2; [.slc (ptsD l),z 1,z 2,.own (ptsD out),.int .i64 n,.int .i64 (bestTo l out i),.int .i64 i,z 7,z 8,z 9,z 10,z 11,z 12,z 13,z 14,z 15,z 16,z 17,z 18,z 19,z 20,z 21,z 22,z 23,z 24,z 25,z 26,z 27,z 28,z 29,z 30,z 31,z 32,z 33,z 34,z 35,z 36,z 37,z 38,z 39,z 40,z 41,z 42,z 43,z 44,z 45,z 46,z 47,z 48,z 49,z 50,z 51,z 52,z 53,z 54,z 55,z 56,z 57,z 58,z 59,z 60,z 61,z 62,z 63,z 64,z 65,z 66,z 67,z 68,z 69,z 70,z 71,z 72,z 73,z 74,z 75,z 76,z 77,z 78,z 79,z 80,z 81]) := hF.lit
  clear hF
  by_cases hli : i < l.length
  ·have nx : ∀ F' b c,Fr 82 [(0,.slc (ptsD l)),(3,.own (ptsD out)),(4,.int .i64 n),(5,.int .i64 (bestTo l out (i + 1))),(6,.int .i64 ((i + 1 : Nat) : Int))] F' → K2 .normal F' ((b,c) :: H) := fun F' b c hF'=>hN2 _ _ ⟨i + 1,hli,hF',(back_1 rfl).symm⟩ (by
    rw [List.getD_eq_getElem?_getD,hF'.2.2.2.2.2.1]
    simp only [List.getD_cons_succ,List.getD_cons_zero,Option.getD_some]
    omega)
   clear hN2 hE2 hR2 hN hE hR h
   obtain ⟨r1,r2⟩ := bestTo_range (l := l) (out := out) i
   have hstep : bestTo l out (i + 1) = if better l out i (bestTo l out i) = true then (i : Int) else bestTo l out i := rfl
   rw [hstep] at nx
   have hbt : better l out i (bestTo l out i) = (ready out (l.getD i default) && !known out (l.getD i default).o (l.getD i default).s && (decide (bestTo l out i < 0) || decide ((l.getD i default).o < (l.getD (bestTo l out i).toNat default).o) || (decide ((l.getD i default).o = (l.getD (bestTo l out i).toNat default).o) && decide ((l.getD i default).s < (l.getD (bestTo l out i).toNat default).s)))) := rfl
   rw [hbt] at nx
   clear hbt hstep
   generalize bestTo l out i = bb at r1 r2 nx
   have q1 := pts_get hli
   have q2 : 0 ≤ bb → (ptsD l).getD bb.toNat [] = (l.getD bb.toNat default).d := fun h=>pts_get (by omega)
   obtain ⟨e1,e2,e3⟩ := hl (l.getD i default) (by rw [getD_lt hli]; exact List.getElem_mem hli)
   generalize l.getD i default = e at q1 nx e1 e2 e3
   generalize l.getD bb.toNat default = lb at q2 nx
   have hd := @dE e
   have hdl := @dE lb
   simp +contextual only [pts_len,h_miss,h_skip,q1,hd,↓U45,↓XP,XW0,XW1,reduceSub,reduceAdd,reduceMul,reduceEqDiff,reduceLeDiff,Nat.reduceBEq,reduceCtorEq,TYX]
   refine fun _=>⟨fun _ b1 h1=>?_,fun hge=>absurd (by omega) hge⟩
   refine ⟨_,f_ready (p := e) e1 e2 e3 ⟨rfl,rfl⟩,?_⟩
   rcases hr : ready out e with _ | _
   ·simp +contextual only [pts_len,h_miss,h_skip,q1,hd,wrap_succ (show i ≤ big by omega),↓U45,↓XP,XW0,XW1,reduceSub,reduceAdd,reduceMul,reduceEqDiff,reduceLeDiff,Nat.reduceBEq,reduceCtorEq,TYX]
    refine nx _ _ _ ?_
    simp only [hr,Bool.false_and,Bool.false_eq_true,if_false]
    exact ⟨rfl,rfl,rfl,rfl,rfl,rfl,trivial⟩
   simp +contextual only [pts_len,h_miss,h_skip,q1,hd,↓U45,↓XP,XW0,XW1,reduceSub,reduceAdd,reduceMul,reduceEqDiff,reduceLeDiff,Nat.reduceBEq,reduceCtorEq,TYX]
   refine fun _ _=>⟨_,f_known ⟨rfl,rfl⟩,?_⟩
   rcases hk : known out e.o e.s with _ | _
   rotate_left
   ·simp +contextual only [pts_len,h_miss,h_skip,q1,hd,wrap_succ (show i ≤ big by omega),↓U45,↓XP,XW0,XW1,reduceSub,reduceAdd,reduceMul,reduceEqDiff,reduceLeDiff,Nat.reduceBEq,reduceCtorEq,TYX]
    refine nx _ _ _ ?_
    simp only [hr,hk,Bool.not_true,Bool.and_false,Bool.false_and,Bool.false_eq_true,if_false]
    exact ⟨rfl,rfl,rfl,rfl,rfl,rfl,trivial⟩
   simp only [hr,hk,Bool.not_false,Bool.and_true,Bool.true_and] at nx
   by_cases hb0 : bb < 0
   ·simp only [hb0,decide_true,Bool.true_or,if_true] at nx
    simp +contextual only [pts_len,h_miss,h_skip,q1,hd,hb0,wrap_succ (show i ≤ big by omega),↓U45,↓XP,XW0,XW1,reduceSub,reduceAdd,reduceMul,reduceEqDiff,reduceLeDiff,Nat.reduceBEq,reduceCtorEq,TYX]
    exact nx _ _ _ ⟨rfl,rfl,rfl,rfl,rfl,rfl,trivial⟩
   ·have q3 := q2 (by omega)
    simp only [hb0,decide_false,Bool.false_or] at nx
    simp +contextual only [pts_len,h_miss,h_skip,q1,q3,hd,hdl,hb0,wrap_succ (show i ≤ big by omega),↓U45,↓XP,XW0,XW1,reduceSub,reduceAdd,reduceMul,reduceEqDiff,reduceLeDiff,Nat.reduceBEq,reduceCtorEq,TYX]
    refine fun _=>⟨by omega,by omega,fun _=>⟨fun c1=>?_,fun c1=>⟨by omega,by omega,fun c2 _=>⟨by omega,by omega,fun _=>⟨fun c3=>?_,fun c3=>?_⟩⟩,fun c2=>?_⟩⟩⟩
    ·rw [if_pos (by simp [c1])] at nx
     exact nx _ _ _ ⟨rfl,rfl,rfl,rfl,rfl,rfl,trivial⟩
    ·rw [if_pos (by simp [c2,c3])] at nx
     exact nx _ _ _ ⟨rfl,rfl,rfl,rfl,rfl,rfl,trivial⟩
    ·rw [if_neg (by simp [c1,c3])] at nx
     exact nx _ _ _ ⟨rfl,rfl,rfl,rfl,rfl,rfl,trivial⟩
    ·rw [if_neg (by simp [c1,c2])] at nx
     exact nx _ _ _ ⟨rfl,rfl,rfl,rfl,rfl,rfl,trivial⟩
  ·have hik : i = l.length := by omega
   subst hik
   clear hN2
   simp +contextual only [pts_len,h_miss,h_skip,↓U45,↓XP,XW0,XW1,reduceSub,reduceAdd,reduceMul,reduceEqDiff,reduceLeDiff,Nat.reduceBEq,reduceCtorEq,TYX]
   refine fun _=>hE2 _ _ _ ?_
   clear hE2 hR2
   obtain ⟨r1,r2⟩ := bestTo_range (l := l) (out := out) l.length
   rw [show n + 1 = n + 1 from rfl] at hsn
   by_cases hb0 : bestTo l out l.length < 0
   ·rw [if_pos hb0] at hsn
    have hor : ordered l = out := by
     unfold ordered
     have := ordTo_stop (l := l) (n := n + 1) (by rw [hsn]) (l.length - (n + 1))
     rw [show n + 1 + (l.length - (n + 1)) = l.length by omega,hsn] at this
     rw [this]
    rw [hor] at h
    clear hN hE
    generalize bestTo l out l.length = bb at r1 r2 hb0 ⊢
    simp +contextual only [pts_len,h_miss,h_skip,hb0,↓U45,↓XP,XW0,XW1,reduceSub,reduceAdd,reduceMul,reduceEqDiff,reduceLeDiff,Nat.reduceBEq,reduceCtorEq,TYX]
    refine hR _ _ ?_
    simp +contextual only [pts_len,h_miss,h_skip,↓U45,↓XP,XW0,XW1,reduceSub,reduceAdd,reduceMul,reduceEqDiff,reduceLeDiff,Nat.reduceBEq,reduceCtorEq,TYX]
    exact h
   ·rw [if_neg hb0] at hsn
    have nx : ∀ F',Fr 82 [(0,.slc (ptsD l)),(3,.own (ptsD (out ++ [l.getD (bestTo l out l.length).toNat default]))),(4,.int .i64 ((n + 1 : Nat) : Int))] F' → K .normal F' H := fun F' hF'=>hN _ _ ⟨n + 1,_,hlt,hsn,hF',(back_0 rfl).symm⟩ (by
     rw [List.getD_eq_getElem?_getD,hF'.2.2.2.1]
     simp only [List.getD_cons_succ,List.getD_cons_zero,Option.getD_some]
     omega)
    clear hN hE hR h
    have q2 : (ptsD l).getD (bestTo l out l.length).toNat [] = (l.getD (bestTo l out l.length).toNat default).d := pts_get (by omega)
    generalize bestTo l out l.length = bb at r1 r2 hb0 q2 nx ⊢
    generalize l.getD bb.toNat default = e at q2 nx
    have hd := @dE e
    simp +contextual only [pts_len,h_miss,h_skip,hb0,q2,hd,wrap_succ (show n ≤ big by omega),↓U45,↓XP,XW0,XW1,reduceSub,reduceAdd,reduceMul,reduceEqDiff,reduceLeDiff,Nat.reduceBEq,reduceCtorEq,TYX]
    refine ⟨by omega,by omega,pts_6,by omega,?_⟩
    rw [← pts_app,show ptsD [e] = [e.d] from rfl,hd] at nx
    exact nx _ ⟨rfl,rfl,rfl,rfl,trivial⟩
 ·have hik : n = l.length := by omega
  subst hik
  clear hN
  simp +contextual only [pts_len,h_miss,h_skip,↓U45,↓XP,XW0,XW1,reduceSub,reduceAdd,reduceMul,reduceEqDiff,reduceLeDiff,Nat.reduceBEq,reduceCtorEq,TYX]
  refine fun _=>hE _ _ _ ?_
  rw [show ordered l = out by unfold ordered; rw [ho]] at h
  simp +contextual only [pts_len,h_miss,h_skip,↓U45,↓XP,XW0,XW1,reduceSub,reduceAdd,reduceMul,reduceEqDiff,reduceLeDiff,Nat.reduceBEq,reduceCtorEq,TYX]
  exact h
end Go.Proofs.YtoeckfegggongaaGreatDoor
end
section
namespace Go.Proofs.YtoeckfegggongaaGreatDoor
open Go Go.Aw
theorem Sbn.perm {H H' : AH} (h : H'.Perm H) : Sbn H' H := fun hn=>⟨(h.map _).nodup_iff.2 hn,fun p hp=>h.subset hp⟩
theorem patches_inv {l : List Int} {offices : Nat} (ho : offices ≤ 10) : ∀ i,GInv (patchesTo l offices i) ∧ (patchesTo l offices i).l.length = i
 | 0=>⟨GInv.nil,rfl⟩
 | i + 1=>by
  obtain ⟨h1,h2⟩ := patches_inv (l := l) ho i
  exact ⟨h1.next ho _,by simp [patchesTo,next,h2]⟩
def Rooms (b4 : Nat) (x : Gs) (bl cl bp cp : Nat) (Hm H : AH) : Prop :=
 (x.l = [] ∧ x.past = [] ∧ Hm = []) ∨ (x.l ≠ [] ∧ x.past ≠ [] ∧ bl ≠ bp ∧ bl ≠ b4 ∧ bp ≠ b4 ∧ Hm = [(bp,.room cp (pastD x.past)),(bl,.room cl (ptsD x.l))])
theorem pts_nil {l : List Pt} : ptsD l = [] ↔ l = [] := by simp [ptsD]
theorem past_nil {l : List (List Bool)} : pastD l = [] ↔ l = [] := by simp [pastD]
theorem rPatches {args : List D} {H : AH} {R : D → AH → Prop} (h : facts args → xcode Tryz.prog x19 (args ++ List.replicate (28 - args.length) (.tup [])) H (retR Tryz.prog [.tmp 2] R)) : ACall Tryz.prog 19 args H R :=
 xcall_bodyR hm Tryz.func19 rfl (by kernel_rfl) (by kernel_rfl) (by kernel_rfl) (by kernel_rfl) (by kernel_rfl) (by kernel_rfl) h
theorem f_patches {l : List Int} {H : AH} {R : D → AH → Prop} (h : R (.own (ptsD (patches l))) H) : ACall Tryz.prog 19 [.slc (ints l)] H R := by
 refine rPatches fun hf=>?_
 have hbig := big_eq
 have a0 := atOf_range (l := l) (i := 0) (most := 8) (by omega)
 have a1 := atOf_range (l := l) (i := 1) (most := 2) (by omega)
 simp +contextual only [x19,h_miss,h_skip,q_retRR,k_resR,↓U19,↓XP,XW0,XW1,reduceSub,reduceAdd,reduceMul,reduceEqDiff,reduceLeDiff,Nat.reduceBEq,reduceCtorEq,TYX]
 refine f_at (i := 1) (by omega) ?_
 obtain ⟨o,ho⟩ : ∃ o : Nat,2 + atN l 1 2 = o := ⟨_,rfl⟩
 obtain ⟨n,hn⟩ : ∃ n : Nat,2 + atN l 0 8 = n := ⟨_,rfl⟩
 have w1 : IntKind.i64.wrap (2 + atOf l 1 2) = (o : Int) := by rw [wrap_id (by omega) (by omega)]; unfold atN at ho; omega
 have w0 : IntKind.i64.wrap (2 + atOf l 0 8) = (n : Int) := by rw [wrap_id (by omega) (by omega)]; unfold atN at hn; omega
 have ho' : o ≤ 10 ∧ 1 ≤ o := by unfold atN at ho; omega
 have hn' : n ≤ 9 := by unfold atN at hn; omega
 have hpt : patches l = ordered (patchesTo l o n).l := by unfold patches; rw [ho,hn]
 rw [hpt] at h
 simp +contextual only [x19,h_miss,h_skip,q_retRR,k_resR,w1,↓U19,↓XP,XW0,XW1,reduceSub,reduceAdd,reduceMul,reduceEqDiff,reduceLeDiff,Nat.reduceBEq,reduceCtorEq,TYX]
 intro _ b4 h4
 refine XW.loopKR hm (fun F H'=>∃ (i : Nat) (x : Gs) (bl cl bp cp : Nat) (Hm : AH),i ≤ n ∧ x = patchesTo l o i ∧ Rooms b4 x bl cl bp cp Hm H ∧ Fr 28 [(0,.slc (ints l)),(3,.int .i64 o),(4,.ptr b4 0),(5,.int .i64 (i : Int))] F ∧ ((b4,AO.cells [.osl bl cl (ptsD x.l),.osl bp cp (pastD x.past)]) :: (Hm ++ H)) = H') (fun F H=>match F.getD 5 .any with | .int _ n'=>n - n'.toNat | _=>0) ⟨0,⟨[],[]⟩,0,0,0,0,[],by omega,rfl,.inl ⟨rfl,rfl,rfl⟩,⟨rfl,rfl,rfl,rfl,rfl,trivial⟩,rfl⟩ ?_
 rintro _ _ ⟨i,x,bl,cl,bp,cp,Hm,hi,hx,hr,hF,rfl⟩ K hN hE hR
 obtain ⟨z,rfl⟩ : ∃ z : Nat → D,_ = .slc (ints l) :: zz z 1 2 (.int .i64 o :: .ptr b4 0 :: .int .i64 (i : Int) :: zz z 6 22 []) := hF.lit
 try dsimp only [zz,reduceAdd] at *
 clear hF hR
 obtain ⟨gi,gl⟩ := patches_inv (l := l) (offices := o) ho'.1 i
 rw [← hx] at gi gl
 by_cases hlt : i < n
 ·have w2 : IntKind.i64.wrap (32 * (i : Int)) = 32 * (i : Int) := wrap_id (by omega) (by omega)
  have w3 : IntKind.i64.wrap (2 + 32 * (i : Int)) = ((2 + 32 * i : Nat) : Int) := by rw [wrap_id (by omega) (by omega)]; omega
  simp +contextual only [x19,h_miss,h_skip,q_retRR,k_resR,w0,↓U19,↓XP,XW0,XW1,reduceSub,reduceAdd,reduceMul,reduceEqDiff,reduceLeDiff,Nat.reduceBEq,reduceCtorEq,TYX]
  refine f_at (i := 0) (by omega) ?_
  simp +contextual only [x19,h_miss,h_skip,q_retRR,k_resR,w0,w2,w3,↓U19,↓XP,XW0,XW1,reduceSub,reduceAdd,reduceMul,reduceEqDiff,reduceLeDiff,Nat.reduceBEq,reduceCtorEq,TYX]
  refine fun _=>⟨fun _=>⟨_,f_rest ⟨rfl,rfl⟩,?_⟩,fun hge=>absurd (by omega) hge⟩
  simp +contextual only [x19,h_miss,h_skip,q_retRR,k_resR,w0,w2,w3,↓U19,↓XP,XW0,XW1,reduceSub,reduceAdd,reduceMul,reduceEqDiff,reduceLeDiff,Nat.reduceBEq,reduceCtorEq,TYX]
  have hr1 : ptsD x.l ≠ [] → getH ((b4,AO.cells [.osl bl cl (ptsD x.l),.osl bp cp (pastD x.past)]) :: (Hm ++ H)) bl = some (.room cl (ptsD x.l)) := fun hne=>by
   rcases hr with ⟨e,_⟩ | ⟨_,_,e1,e2,e3,rfl⟩
   ·exact (hne (pts_nil.2 e)).elim
   ·show getH ((b4,_) :: (bp,_) :: (bl,_) :: H) bl = _
    rw [h_miss e2,h_miss e1,h_hit]
  have hr2 : pastD x.past ≠ [] → getH ((b4,AO.cells [.osl bl cl (ptsD x.l),.osl bp cp (pastD x.past)]) :: (Hm ++ H)) bp = some (.room cp (pastD x.past)) := fun hne=>by
   rcases hr with ⟨_,e,_⟩ | ⟨_,_,e1,e2,e3,rfl⟩
   ·exact (hne (past_nil.2 e)).elim
   ·show getH ((b4,_) :: (bp,_) :: (bl,_) :: H) bp = _
    rw [h_miss e3,h_hit]
  have hdr : dropR (dropR ((b4,AO.cells [.osl bl cl (ptsD x.l),.osl bp cp (pastD x.past)]) :: (Hm ++ H)) bl (ptsD x.l)) bp (pastD x.past) = (b4,AO.cells [.osl bl cl (ptsD x.l),.osl bp cp (pastD x.past)]) :: H := by
   rcases hr with ⟨e,e',rfl⟩ | ⟨e0,e0',e1,e2,e3,rfl⟩
   ·rw [pts_nil.2 e,past_nil.2 e',dropR_nil,dropR_nil]; rfl
   ·show dropR (dropR ((b4,_) :: (bp,_) :: (bl,_) :: H) bl (ptsD x.l)) bp (pastD x.past) = _
    unfold dropR
    rw [if_neg (fun e=>e0 (pts_nil.1 e)),if_neg (fun e=>e0' (past_nil.1 e)),e_miss e2,e_miss e1,e_hit,e_miss e3,e_hit]
  refine fun _=>f_next gi (by omega) ho'.2 ho'.1 hr1 hr2 (fun bl' cl' bp' cp' t1 t2 t3=>?_)
  rw [hdr] at t2 t3 ⊢
  simp only [h_fr] at t2 t3
  obtain ⟨u1,t2⟩ := t2
  obtain ⟨u2,t3⟩ := t3
  have hx2 : next x o (l.drop (2 + 32 * i)) = patchesTo l o (i + 1) := by rw [hx]; rfl
  rw [hx2]
  obtain ⟨gi2,gl2⟩ := patches_inv (l := l) (offices := o) ho'.1 (i + 1)
  have hne1 : (patchesTo l o (i + 1)).l ≠ [] := fun e=>by rw [e] at gl2; simp at gl2
  have hne2 : (patchesTo l o (i + 1)).past ≠ [] := fun e=>by have := gi2.np; rw [e,gl2] at this; simp at this
  simp +contextual only [x19,h_miss,h_skip,q_retRR,k_resR,u1,u2,wrap_succ (show i ≤ big by omega),↓U19,↓XP,XW0,XW1,reduceSub,reduceAdd,reduceMul,reduceEqDiff,reduceLeDiff,Nat.reduceBEq,reduceCtorEq,TYX]
  refine hN _ _ ((b4,AO.cells [.osl bl' cl' (ptsD (patchesTo l o (i + 1)).l),.osl bp' cp' (pastD (patchesTo l o (i + 1)).past)]) :: ([(bp',AO.room cp' (pastD (patchesTo l o (i + 1)).past)),(bl',AO.room cl' (ptsD (patchesTo l o (i + 1)).l))] ++ H)) ?_ ⟨i + 1,_,bl',cl',bp',cp',_,hlt,rfl,.inr ⟨hne1,hne2,t1,Ne.symm u1,Ne.symm u2,rfl⟩,⟨rfl,rfl,rfl,rfl,rfl,trivial⟩,rfl⟩ ?_
  ·exact Sbn.perm ((List.Perm.swap _ _ _).trans ((List.Perm.swap _ _ _).cons _))
  ·simp only [List.getD_cons_succ,List.getD_cons_zero]
   omega
 ·have hik : i = n := by omega
  subst hik
  clear hN
  simp +contextual only [x19,h_miss,h_skip,q_retRR,k_resR,w0,↓U19,↓XP,XW0,XW1,reduceSub,reduceAdd,reduceMul,reduceEqDiff,reduceLeDiff,Nat.reduceBEq,reduceCtorEq,TYX]
  refine f_at (i := 0) (by omega) ?_
  simp +contextual only [x19,h_miss,h_skip,q_retRR,k_resR,w0,↓U19,↓XP,XW0,XW1,reduceSub,reduceAdd,reduceMul,reduceEqDiff,reduceLeDiff,Nat.reduceBEq,reduceCtorEq,TYX]
  refine fun _=>hE _ _ _ ?_
  simp +contextual only [x19,h_miss,h_skip,q_retRR,k_resR,w0,↓U19,↓XP,XW0,XW1,reduceSub,reduceAdd,reduceMul,reduceEqDiff,reduceLeDiff,Nat.reduceBEq,reduceCtorEq,TYX]
  rw [c_gh]
  refine Gz.weak h_hit ?_
  simp +contextual only [x19,h_miss,h_skip,q_retRR,k_resR,D.wk,↓U19,↓XP,XW0,XW1,reduceSub,reduceAdd,reduceMul,reduceEqDiff,reduceLeDiff,Nat.reduceBEq,reduceCtorEq,TYX]
  rw [← hx] at h
  refine fun _=>f_ordered (by omega) (fun p hp=>?_) ?_
  ·have h1 := gi.sq p hp
   have h2 := gi.ne p hp
   omega
  ·simp +contextual only [x19,h_miss,h_skip,q_retRR,k_resR,↓U19,↓XP,XW0,XW1,reduceSub,reduceAdd,reduceMul,reduceEqDiff,reduceLeDiff,Nat.reduceBEq,reduceCtorEq,TYX]
   exact fun _=>⟨H,Sbn.sub ((List.sublist_append_right _ _).cons _),h⟩
end Go.Proofs.YtoeckfegggongaaGreatDoor
end
section
namespace Go.Proofs.YtoeckfegggongaaGreatDoor
open Go Go.Aw
theorem f_some {l : List Int} {a : Int} {H : AH} {R : D → AH → Prop} (h : ∀ p,FV p → R (.agg p.d) H) : ACall Tryz.prog 5 [.slc (ints l),.int .i64 a] H R := by
 refine b5 fun hf=>?_
 have hbig := big_eq
 obtain ⟨h1,h2,h3⟩ := patches_ok l
 have pl : (ptsD (patches l)).length = (patches l).length := by simp [ptsD]
 simp +contextual only [x5,pl,↓U5,↓XP,XW0,XW1,reduceSub,reduceAdd,reduceMul,reduceEqDiff,reduceLeDiff,Nat.reduceBEq,reduceCtorEq,TYX]
 intro b4 h4
 refine f_patches ?_
 simp +contextual only [x5,pl,↓U5,↓XP,XW0,XW1,reduceSub,reduceAdd,reduceMul,reduceEqDiff,reduceLeDiff,Nat.reduceBEq,reduceCtorEq,TYX]
 refine fun _=>f_around (by omega) ?_
 obtain ⟨r1,r2⟩ := around_range (n := a) (most := ((patches l).length : Int)) (by omega)
 obtain ⟨k,hk⟩ := Int.eq_ofNat_of_zero_le r1
 rw [hk] at r2 ⊢
 have hkl : k < (patches l).length := by omega
 have q1 : (ptsD (patches l)).getD k [] = ((patches l).getD k default).d := by simp [ptsD,hkl]
 have hp := h1 _ (getD_mem (d := default) hkl)
 generalize (patches l).getD k default = p at q1 hp
 have hd := @dE p
 simp +contextual only [x5,pl,q1,hd,hkl,Int.ofNat_lt,↓U5,↓XP,XW0,XW1,reduceSub,reduceAdd,reduceMul,reduceEqDiff,reduceLeDiff,Nat.reduceBEq,reduceCtorEq,TYX]
 exact fun _=>h p hp
end Go.Proofs.YtoeckfegggongaaGreatDoor
end
section
namespace Go.Proofs.YtoeckfegggongaaGreatDoor
open Go Go.Aw
theorem f_pv {l : List Int} {a how bb raw : Int} {H : AH} {R : D → AH → Prop} (h : R (.bool true) H) : ACall Tryz.prog 3 [.slc (ints l),.int .i64 a,.int .i64 how,.int .i64 bb,.int .i64 raw] H R := by
 refine b3 fun hf=>?_
 have hbig := big_eq
 simp +contextual only [x3,h_miss,h_skip,refs_len,ops_len,↓U3,↓XP,XW0,XW1,reduceSub,reduceAdd,reduceMul,reduceEqDiff,reduceLeDiff,Nat.reduceBEq,reduceCtorEq,TYX]
 intros
 refine f_some fun p hp=>?_
 have hd := @dE p
 simp +contextual only [x3,h_miss,h_skip,refs_len,ops_len,hd,↓U3,↓XP,XW0,XW1,reduceSub,reduceAdd,reduceMul,reduceEqDiff,reduceLeDiff,Nat.reduceBEq,reduceCtorEq,TYX]
 intro b1 h1
 refine ⟨by omega,f_spoil (p := p) (n := 20) (by omega) hp.sz hp.ne fun q hq=>?_⟩
 have hdq := @dE q
 have fq := hq.fit (by omega)
 simp +contextual only [x3,h_miss,h_skip,refs_len,ops_len,hd,hdq,↓U3,↓XP,XW0,XW1,reduceSub,reduceAdd,reduceMul,reduceEqDiff,reduceLeDiff,Nat.reduceBEq,reduceCtorEq,TYX]
 intro b2 hh
 obtain ⟨n12,h2⟩ := hh
 refine ⟨_,f_iValid (p := p) hp.fit ⟨rfl,rfl⟩,?_⟩
 simp +contextual only [x3,h_miss,h_skip,refs_len,ops_len,hd,hdq,n12,hp.v,↓U3,↓XP,XW0,XW1,reduceSub,reduceAdd,reduceMul,reduceEqDiff,reduceLeDiff,Nat.reduceBEq,reduceCtorEq,TYX]
 refine fun _=>⟨_,f_iValid (p := q) fq ⟨rfl,rfl⟩,?_⟩
 simp +contextual only [x3,h_miss,h_skip,refs_len,ops_len,hd,hdq,n12,↓U3,↓XP,XW0,XW1,reduceSub,reduceAdd,reduceMul,reduceEqDiff,reduceLeDiff,Nat.reduceBEq,reduceCtorEq,TYX]
 refine fun _=>⟨_,f_rValid (p := q) fq ⟨rfl,rfl⟩,?_⟩
 rcases Classical.em (0 < q.ops.length) with hl | hl
 ·simp +contextual only [x3,h_miss,h_skip,refs_len,ops_len,hd,hdq,n12,show ((q.ops.length : Int) > 0) = True from eq_true (by omega),show (0 < (q.ops.length : Int)) = True from eq_true (by omega),↓U3,↓XP,XW0,XW1,reduceSub,reduceAdd,reduceMul,reduceEqDiff,reduceLeDiff,Nat.reduceBEq,reduceCtorEq,TYX]
  intros
  refine ⟨by omega,by omega,f_spoil (p := q) (n := 34) (by omega) hq hl fun r hr=>?_⟩
  have hdr := @dE r
  have fr := hr.fit (by omega)
  simp +contextual only [x3,h_miss,h_skip,refs_len,ops_len,hd,hdq,hdr,n12,↓U3,↓XP,XW0,XW1,reduceSub,reduceAdd,reduceMul,reduceEqDiff,reduceLeDiff,Nat.reduceBEq,reduceCtorEq,TYX]
  intro b3 hh
  refine ⟨_,f_iValid (p := r) fr ⟨rfl,rfl⟩,?_⟩
  simp +contextual only [x3,h_miss,h_skip,refs_len,ops_len,hd,hdq,hdr,n12,↓U3,↓XP,XW0,XW1,reduceSub,reduceAdd,reduceMul,reduceEqDiff,reduceLeDiff,Nat.reduceBEq,reduceCtorEq,TYX]
  refine fun _=>⟨_,f_rValid (p := r) fr ⟨rfl,rfl⟩,?_⟩
  simp +contextual only [x3,h_miss,h_skip,refs_len,ops_len,hd,hdq,hdr,n12,↓U3,↓XP,XW0,XW1,reduceSub,reduceAdd,reduceMul,reduceEqDiff,reduceLeDiff,Nat.reduceBEq,reduceCtorEq,TYX]
  intros
  refine f_lives ?_
  simp +contextual only [x3,h_miss,h_skip,refs_len,ops_len,hd,hdq,hdr,n12,↓U3,↓XP,XW0,XW1,reduceSub,reduceAdd,reduceMul,reduceEqDiff,reduceLeDiff,Nat.reduceBEq,reduceCtorEq,TYX]
  exact h
 ·simp +contextual only [x3,h_miss,h_skip,refs_len,ops_len,hd,hdq,n12,show ((q.ops.length : Int) > 0) = False from eq_false (by omega),show (0 < (q.ops.length : Int)) = False from eq_false (by omega),↓U3,↓XP,XW0,XW1,reduceSub,reduceAdd,reduceMul,reduceEqDiff,reduceLeDiff,Nat.reduceBEq,reduceCtorEq,TYX]
  intros
  refine f_lives ?_
  simp +contextual only [x3,h_miss,h_skip,refs_len,ops_len,hd,hdq,n12,↓U3,↓XP,XW0,XW1,reduceSub,reduceAdd,reduceMul,reduceEqDiff,reduceLeDiff,Nat.reduceBEq,reduceCtorEq,TYX]
  exact h
end Go.Proofs.YtoeckfegggongaaGreatDoor
end
section
namespace Go.Aw
open Go Go.RowKit Go.ChangeShapes Go.WideShapes
section
variable {P : Program}
structure Rw (P : Program) (t : TypeId) (n : Nat) {T : Type} (g : T → List D) : Prop where
 out : ∀ {H : Type} (enc : TypeId × Value → H) (W : World) (fuel : Nat) (cs : List Value) (x : DataW H × List MemPlace),
  DataW.trod enc P W 0 (fun _=>true) true fuel t cs = some x → (DataW.weights P t x.1).all (· ≤ reachBytes) = true →
  ∃ a : T,cs.length = n ∧ (g a).length = n ∧ ∀ (j : Nat) (d : D) (v : Value),(g a)[j]? = some d → cs[j]? = some v → v.oneCell' = true ∧ RepV (fun _=>.imm) W d v
theorem Rw.int {t : TypeId} {k : IntKind} (ht : P.underlying t = some (.int k)) : Rw P t 1 (fun n : Int=>[.int k n]) := by
 refine ⟨?_⟩
 intro H enc W fuel cs x h _
 obtain ⟨n,rfl,rfl,hw⟩ := DataW.trod_int ht h
 exact ⟨n,rfl,rfl,one_rep rfl (.int k n hw)⟩
theorem Rw.str {t : TypeId} (ht : P.underlying t = some .string) : Rw P t 1 (fun s : List UInt8=>[.str s]) := by
 refine ⟨?_⟩
 intro H enc W fuel cs x h hb
 obtain ⟨s,rfl,rfl,hs⟩ := DataW.trod_string ht h
 refine ⟨s.data.toList,rfl,rfl,one_rep rfl ?_⟩
 refine .str s.data.toList ?_
 have h1 : s.data.toList.length ≤ reachBytes := by simpa [DataW.weights] using hb
 exact Nat.le_trans h1 (by decide)
theorem weightsAll_mem {H : Type} {e : TypeId} {w : Nat} : ∀ {l : List (DataW H)} {d : DataW H},d ∈ l → w ∈ DataW.weights P e d → w ∈ DataW.weightsAll P e l
 | x :: r,d,hd,hw=>by
  simp only [DataW.weightsAll,List.mem_append]
  rcases List.mem_cons.1 hd with rfl | h
  ·exact .inl hw
  ·exact .inr (weightsAll_mem h hw)
theorem Rw.slice {t e : TypeId} {n : Nat} {T : Type} {g : T → List D} (ht : P.underlying t = some (.slice e)) (hc : P.cellsOf e = n) (hn : 0 < n) (hby : 1 ≤ P.bytesOf e) (h : Rw P e n g) :
  Rw P t 1 (fun l : List T=>[.slc (l.map g)]) := by
 refine ⟨?_⟩
 intro H enc W fuel cs x hx hb
 rcases DataW.trod_slice ht hx with ⟨rfl,rfl⟩ | ⟨a,len,cap,elems,rest,m,rfl,rfl,rfl,hba,hlc,hcm,hel,hget,hsp,_⟩
 ·exact ⟨[],rfl,rfl,one_rep rfl (.slcnil none)⟩
 ·rw [hc] at hget hsp
  have hbb := List.all_eq_true.1 hb
  simp only [DataW.weights,ht] at hbb
  have hlen : elems.length ≤ reachBytes := by
   have h1 : (elems.length + rest.length) * P.bytesOf e ≤ reachBytes := by
    have := hbb _ (List.mem_cons_self ..)
    simpa using this
   have h2 : elems.length + rest.length ≤ (elems.length + rest.length) * P.bytesOf e := Nat.le_mul_of_pos_right _ hby
   omega
  have hel2 : ∀ y,y ∈ elems → (DataW.weights P e y.1).all (· ≤ reachBytes) = true := fun y hy=>by
   refine List.all_eq_true.2 fun w hw=>hbb w ?_
   exact List.mem_cons_of_mem _ (List.mem_append_left _ (weightsAll_mem (List.mem_map_of_mem (f := (·.1)) hy) hw))
  obtain ⟨l,hl,hR⟩ := list_choose (R := fun i (y : DataW H × List MemPlace) (c : T)=>∃ cs',W.cells? 0 (a.add (i * n)) n = some cs' ∧ (g c).length = n ∧ ∀ (j : Nat) (d : D) (v : Value),(g c)[j]? = some d → cs'[j]? = some v → v.oneCell' = true ∧ RepV (fun _=>.imm) W d v) elems 0 (fun i y hy=>by
    have hi : i < len := by rw [← hel]; exact (List.getElem?_eq_some_iff.1 hy).1
    have hg := hget i hi
    rw [hy] at hg
    obtain ⟨cs',e1,e2⟩ := Option.bind_eq_some_iff.1 hg
    obtain ⟨c,_,g2,g4⟩ := h.out enc W m cs' y e2 (hel2 y (List.mem_of_getElem? hy))
    exact ⟨c,cs',by rw [Nat.zero_add]; exact e1,g2,g4⟩)
  have hRi : ∀ i c,l[i]? = some c → i < len ∧ ∃ cs',W.cells? 0 (a.add (i * n)) n = some cs' ∧ (g c).length = n ∧ ∀ (j : Nat) (d : D) (v : Value),(g c)[j]? = some d → cs'[j]? = some v → v.oneCell' = true ∧ RepV (fun _=>.imm) W d v := fun i c hi=>by
   have hlt : i < elems.length := by rw [← hl]; exact (List.getElem?_eq_some_iff.1 hi).1
   have := hR i elems[i] c (List.getElem?_eq_getElem hlt) hi
   rw [Nat.zero_add] at this
   exact ⟨by omega,this⟩
  refine ⟨l,rfl,rfl,one_rep rfl ?_⟩
  ·by_cases hz : cap = 0
   ·have h0 : l = [] := List.eq_nil_of_length_eq_zero (by omega)
    have h1 : len = 0 := by omega
    subst hz; subst h1; subst h0
    exact .slcnil (some a)
   ·have hpl : a.spot = none ∧ a.block < W.heap.size := by
     have go : ∀ (k : Nat) (y : Option (DataW H × List MemPlace)),k * n = 0 → (∃ z,y = some z) → (W.cells? 0 (a.add (k * n)) n).bind (DataW.trod enc P W 0 (fun _=>true) true m e) = y → a.spot = none ∧ a.block < W.heap.size := by
      rintro k _ h0 ⟨z,rfl⟩ hg
      obtain ⟨cs',e1,e2⟩ := Option.bind_eq_some_iff.1 hg
      obtain ⟨k1,k2⟩ := cells_get e1
      have := cell_plain (k2 0 cs'[0] (List.getElem?_eq_getElem (by omega)))
      simpa [Addr.add,h0] using this
     by_cases hp : 0 < len
     ·exact go 0 _ (Nat.zero_mul n) ⟨_,List.getElem?_eq_getElem (by omega)⟩ (hget 0 hp)
     ·have h0 : len = 0 := by omega
      obtain ⟨hr1,hr2⟩ := hsp rfl
      exact go (len + 0) _ (by rw [h0]; exact Nat.zero_mul n) ⟨_,List.getElem?_eq_getElem (by omega)⟩ (hr2 0 (by omega))
    obtain ⟨b,off,sp⟩ := a
    obtain ⟨hpl1,hpl2⟩ := hpl
    simp only at hpl1 hpl2
    subst hpl1
    have hll : (l.map g).length = len := by simp [hl,hel]
    have key : ∀ (i : Nat) (x : List D),(l.map g)[i]? = some x → x.length = n ∧ ∀ (j : Nat) (d : D),x[j]? = some d → ∃ v,W.cell? ⟨b,off + (i * n + j),none⟩ = some v ∧ v.oneCell' = true ∧ RepV (fun _=>.imm) W d v := fun i x hi=>by
     rw [List.getElem?_map,Option.map_eq_some_iff] at hi
     obtain ⟨c,hci,rfl⟩ := hi
     obtain ⟨_,cs',e1,e2,e3⟩ := hRi i c hci
     refine ⟨e2,fun j d hd=>?_⟩
     obtain ⟨k1,k2⟩ := cells_get e1
     have hj : j < cs'.length := by rw [k1,← e2]; exact (List.getElem?_eq_some_iff.1 hd).1
     have h5 := k2 j cs'[j] (List.getElem?_eq_getElem hj)
     refine ⟨cs'[j],?_,e3 j d cs'[j] hd (List.getElem?_eq_getElem hj)⟩
     rw [← h5]
     rw [Addr.add_add]
     simp only [Addr.add]
     split
     ·rename_i hz'; rw [hz']; rfl
     ·rfl
    have hrep := RepV.slc (K := fun _=>.imm) (w := W) (l.map g) b off cap n (fun i j=>(W.cell? ⟨b,off + (i * n + j),none⟩).getD default) (by rw [hll]; have := big_eq; have : reachBytes = 140737488351232 := rfl; omega) (by rw [hll]; exact hlc) hcm
     (fun i x hi=>(key i x hi).1) ⟨hpl2,trivial⟩
     (fun i x hi j d hd=>by obtain ⟨v,e1,e2,e3⟩ := (key i x hi).2 j d hd; rw [e1]; rfl)
     (fun i x hi j d hd=>by obtain ⟨v,e1,e2,e3⟩ := (key i x hi).2 j d hd; rw [e1]; exact e2)
     (fun i x hi j d hd=>by obtain ⟨v,e1,e2,e3⟩ := (key i x hi).2 j d hd; rw [e1]; exact e3)
    rw [hll] at hrep
    exact hrep
theorem Rw.arg1 {t : TypeId} {T : Type} {g : T → D} (h : Rw P t 1 (fun a=>[g a])) (hr : isRow P t = false) {H : Type} {enc : TypeId × Value → H} {W : World} {r : Reach} {b0 : Nat} {v : Value} {d : DataW H} {ps : List MemPlace}
  (hval : Value.okWide P W r b0 t v) (hd : DataW.Trod enc P W 0 (fun _=>true) true t v d ps) (hb : (DataW.weights P t d).all (· ≤ reachBytes) = true) : ∃ a : T,RepV (fun _=>.imm) W (g a) v := by
 obtain ⟨fuel,hf⟩ := hd
 obtain ⟨a,h1,_,h4⟩ := h.out enc W fuel _ (d,ps) hf hb
 refine ⟨a,?_⟩
 have hcl : Cell.okWide P W r b0 t v := by
  unfold Value.okWide at hval
  unfold isRow at hr
  split at hval
  ·rename_i hq; simp [hq] at hr
  ·rename_i hq; simp [hq] at hr
  ·exact hval
 cases v with
 | agg cs =>
  unfold Cell.okWide at hcl
  split at hcl <;> simp_all [Cell.ok]
  done
 | _=>exact (h4 0 (g a) _ rfl rfl).2
end
end Go.Aw
namespace Go.Proofs.YtoeckfegggongaaGreatDoor
open Go Go.Aw Go.RowKit Go.ChangeShapes Go.WideShapes
theorem rw_int : Rw Tryz.prog 3 1 (fun n : Int=>[.int .i64 n]) := Rw.int Tryz.underlying3
theorem rw_ints : Rw Tryz.prog 22 1 (fun l : List Int=>[.slc (ints l)]) :=
 Rw.slice Tryz.underlying22 (by kernel_rfl) (by decide) (of_decide_eq_true (by kernel_rfl)) rw_int
theorem own : ownKnob Tryz.prog.godebug = none := by kernel_rfl
theorem kids : Kids Tryz.prog (· < Tryz.prog.types.size) := kids_rows (by kernel_rfl) (by kernel_rfl)
theorem full : ∀ t e,t < Tryz.prog.types.size → Tryz.prog.underlying t = some (.slice e) → 0 < Tryz.prog.cellsOf e := slices_full_of Tryz.prog (by kernel_rfl)
def constCells : Array Value := (match (Rows.laid_wordbook_hash_constants : DataW Unit) with
 | .agg l=>l.map fun (d : DataW Unit)=>match d with
  | .lit (.int k n)=>Value.int k n
  | _=>undef
 | _=>[]).toArray
noncomputable def laidWorld (os : Os) : World :=
 { World.holding Tryz.prog os ⟨#[],#[],[]⟩ with heap := (World.holding Tryz.prog os ⟨#[],#[],[]⟩).heap.modify 0 fun
   | .cells _ t frozen=>.cells constCells t frozen
   | o=>o }
theorem laid_met (os : Os) : laidMet Tryz.prog Rows.patchValidRow.laid ((laidWorld os).forCall (fun _ _=>0) ⟨#[],#[.slice none 0 0,.int .i64 0,.int .i64 0,.int .i64 0,.int .i64 0],[]⟩).memory :=
 laidMet_of_run' 70 (by kernel_rfl) (by kernel_rfl)
end Go.Proofs.YtoeckfegggongaaGreatDoor
end
section
namespace Go.Proofs.YtoeckfegggongaaGreatDoor.pv
open Go Go.Aw Go.RowKit Go.ChangeShapes Go.WideShapes Go.ChangeAt
theorem contract (H : Type) (enc : TypeId × Value → H) (W : World) (base : Nat) (args : Array Value) (ds gs : List (DataW H)) (before : List MemPlace)
  (hval : ∀ (j : Nat) t v,Tryz.f3.params[j]? = some t → args[j]? = some v → Value.okWide Tryz.prog W .any base t v)
  (hW : DataW.Whole enc Tryz.prog Tryz.f3.params.toList Rows.patchValidSpec.vars false W args.toList ds gs before) (hk : (DataW.weightsEach Tryz.prog (Tryz.f3.params.toList ++ Rows.patchValidSpec.plain.varTypes Tryz.prog) (ds ++ gs)).all (· ≤ reachBytes) = true) :
  Calls Tryz.prog 3 args W fun e W'=>∃ v,e = .returned v ∧ Rows.patchValidSpec.post enc Tryz.prog Tryz.f3 false true false false W args v W' := by
 have hW' := hW
 obtain ⟨p,q,hA0,hV,rfl,hfz,hnd⟩ := hW
 have hA : DataW.TrodAll enc Tryz.prog W 0 (fun _=>true) true Tryz.f3.params.toList args.toList ds p := hA0
 rw [Tryz.params3] at hA hval hk
 obtain ⟨v0,vs0,d0,ds0,p0,q0,hargs,rfl,rfl,h0,r0⟩ := trodAll_cons hA
 obtain ⟨v1,vs1,d1,ds1,p1,q1,rfl,rfl,rfl,h1,r1⟩ := trodAll_cons r0
 obtain ⟨v2,vs2,d2,ds2,p2,q2,rfl,rfl,rfl,h2,r2⟩ := trodAll_cons r1
 obtain ⟨v3,vs3,d3,ds3,p3,q3,rfl,rfl,rfl,h3,r3⟩ := trodAll_cons r2
 obtain ⟨v4,vs4,d4,ds4,p4,q4,rfl,rfl,rfl,h4,r4⟩ := trodAll_cons r3
 obtain ⟨rfl,rfl,rfl⟩ := trodAll_nil r4
 obtain rfl : args = #[v0,v1,v2,v3,v4] := by cases args; simp_all
 obtain ⟨rfl,rfl⟩ := trodVars_none hV
 simp only [List.append_nil,List.cons_append,List.nil_append,DataW.weightsEach,List.all_append,Bool.and_eq_true] at hk
 obtain ⟨k0,k1,k2,k3,k4,_⟩ := hk
 obtain ⟨l,e0⟩ := rw_ints.arg1 (by kernel_rfl) (hval 0 _ v0 rfl rfl) h0 k0
 obtain ⟨a,e1⟩ := rw_int.arg1 (by kernel_rfl) (hval 1 _ v1 rfl rfl) h1 k1
 obtain ⟨how,e2⟩ := rw_int.arg1 (by kernel_rfl) (hval 2 _ v2 rfl rfl) h2 k2
 obtain ⟨bb,e3⟩ := rw_int.arg1 (by kernel_rfl) (hval 3 _ v3 rfl rfl) h3 k3
 obtain ⟨raw,e4⟩ := rw_int.arg1 (by kernel_rfl) (hval 4 _ v4 rfl rfl) h4 k4
 refine ((f_pv (l := l) (a := a) (how := how) (bb := bb) (raw := raw) (H := []) (R := fun d H=>d = .bool true) rfl).calls W _ rfl ?_).mono ?_
 ·intro j d v hd hv
  match j with
  | 0=>cases hd; cases hv; exact e0
  | 1=>cases hd; cases hv; exact e1
  | 2=>cases hd; cases hv; exact e2
  | 3=>cases hd; cases hv; exact e3
  | 4=>cases hd; cases hv; exact e4
  | j + 5=>cases hd
 ·rintro e W' ⟨v,d,H',K',rfl,rfl,hb,hr⟩
  have hv : v = .bool true := by cases hr with | bool=>rfl
  subst hv
  exact ⟨_,rfl,post_true kids full (by rw [Tryz.params3]; decide) hW' rfl hb rfl Tryz.underlying4 rfl⟩
theorem reads (os : Os) {H : Type} (enc : TypeId × Value → H) : ∃ places,DataW.whole enc Tryz.prog ((laidWorld os).forCall (fun _ _=>0) ⟨#[],#[.slice none 0 0,.int .i64 0,.int .i64 0,.int .i64 0,.int .i64 0],[]⟩).memory Tryz.f3.params.toList Rows.patchValidSpec.vars false #[Value.slice none 0 0,Value.int .i64 0,Value.int .i64 0,Value.int .i64 0,Value.int .i64 0].toList 8 = some ([.nil,.lit (.int .i64 0),.lit (.int .i64 0),.lit (.int .i64 0),.lit (.int .i64 0)],[],places) :=
 ⟨[],by kernel_rfl⟩
theorem lifted (os : Os) (started : os.Started) (H : Type) (enc : TypeId × Value → H) (F : Stop.Interp) :
  ReturnsInHanded {} Tryz.checked os 3 .any ((OpenSpec.ofChange Rows.patchValidSpec).preRow enc Tryz.prog Tryz.f3 Rows.patchValidRow.domain false Rows.patchValidRow.laid) (((OpenSpec.ofChange Rows.patchValidSpec).at F).post enc Tryz.prog Tryz.f3 false true false false) := by
 obtain ⟨places,hx⟩ := reads os enc
 refine returnsInHanded_of_row (C := Tryz.checked) (s := OpenSpec.ofChange Rows.patchValidSpec) own started (by kernel_rfl) Tryz.func3
  (witness_row_at (enc := enc) (C := Tryz.checked) false (laidWorld os) #[.slice none 0 0,.int .i64 0,.int .i64 0,.int .i64 0,.int .i64 0] rfl (by kernel_rfl) (by kernel_rfl) (by kernel_rfl)
   (OpenSpec.preRow_of_cond 8 hx (by kernel_rfl) (fun k hk=>by cases hk) (by kernel_rfl) (laid_met os))) ?_
 intro W base args ds gs before hval hW _ _ hz _ _ _
 exact contract H enc W base args ds gs before hval hW hz
theorem said : Rows.PatchValidSaid :=
 OpenClaim.holds_of_cond 3 Tryz.f3 rfl rfl rfl rfl rfl rfl rfl ⟨rfl,rfl,rfl,rfl,rfl⟩ rfl rfl rfl rfl rfl (by kernel_rfl) Tryz.func3 (by kernel_rfl)
  (of_decide_eq_true (by kernel_rfl)) (by unfold Func.isWrapper; first | (rw [if_pos (by decide +kernel)]; kernel_rfl) | (rw [if_neg (by decide +kernel)]; exact ⟨rfl,rfl⟩))
  (fun os started H enc _ F=>by rw [OpenClaim.pre_eq_preRow]; exact lifted os started H enc F)
theorem plain (f : FuncId) (fn : Func) (hf : Tryz.pinned.checked.prog.funcNamed "wordbook/wordbooklaw17.PatchValid" = some f) (hfn : Tryz.pinned.checked.prog.funcs[f]? = some fn) :
  false = Tryz.pinned.checked.prog.looks [] ∧ ∀ (j : Nat) t,fn.params[j]? = some t → Tryz.pinned.checked.prog.wantsStandIn t = false := by
 obtain rfl : f = 3 := Option.some.inj ((show Tryz.prog.funcNamed "wordbook/wordbooklaw17.PatchValid" = some 3 by kernel_rfl).symm.trans hf) |>.symm
 obtain rfl : fn = Tryz.f3 := (Option.some.inj (Tryz.func3.symm.trans hfn)).symm
 refine ⟨by kernel_rfl,fun j t ht=>?_⟩
 rw [Tryz.params3] at ht
 have hm := Array.mem_of_getElem? ht
 have hall : ∀ t ∈ [22,3,3,3,3],Tryz.prog.wantsStandIn t = false := by
  intro t ht
  simp only [List.mem_cons,List.not_mem_nil,or_false] at ht
  rcases ht with rfl | rfl | rfl | rfl | rfl <;> kernel_rfl
 exact hall t (by simpa using hm)
theorem card : Rows.PatchValidCardSaid :=
 Claim7.holds_tied_plain_at .later [] _ _ _ _ said (fun _ h=>by cases h) (by kernel_rfl) (fun _ h=>by cases h) patchValid_row_tie rfl ⟨rfl,rfl⟩ (by kernel_rfl) rfl plain (by kernel_rfl)
end Go.Proofs.YtoeckfegggongaaGreatDoor.pv
end
