/- A part of the proof of what the last text says: Gm6, Gr0, XcD, XcF, Gr1. Conditions: those in each theorem. -/
import Derived.Test.YtoeckfegggongaaDoorP22
set_option linter.unusedVariables false
set_option linter.unusedSimpArgs false
set_option maxRecDepth 100000
set_option maxHeartbeats 16000000
section
namespace Go.Proofs.YtoeckfegggongaaDoor
open Go Go.Aw
theorem okNo_iff {o s : Int} : OkNo o s ↔ (0 ≤ o ∧ o ≤ 7 ∧ 1 ≤ s ∧ s ≤ 16) := Iff.rfl
open Classical in
theorem f_iValid {p : Pt} {H : AH} {R : D → AH → Prop} (hp : Fit p) (h : R (.int .i64 (validE p)) H) : ACall Tryd.prog 15 [.agg p.d] H R := by
  refine b15 fun hf => ?_
  have hbig := big_eq
  have hd : p.d = [.int .i64 p.o,.int .i64 p.s,.int .i64 p.day,.slc (refsD p.needs),.slc (opsD p.ops),.str p.sl] := rfl
  have hk : ∀ b,validE p = b → R (.int .i64 b) H := fun b hb => hb ▸ h
  clear h
  simp +contextual only [x15,hd,refs_len,ops_len,↓U15,↓XP,XQ,XM,cellsOf,okc,one1,resOne,resAll,eqCells,cellEq,fits,sameK,ne_eq,ite_true,ite_false,Nat.reduceSub,Nat.reduceAdd,Nat.reduceMul,Nat.reduceEqDiff,Nat.reduceLeDiff,Nat.reduceBEq,reduceCtorEq,TYX]
  refine fun b1 h1 _ _ => f_numbered ?_
  by_cases hh : ¬ OkHead p
  · have h5 := hk 5 (by unfold validE; rw [if_pos hh])
    unfold OkHead at hh
    by_cases hn : OkNo p.o p.s
    · simp +contextual only [x15,hd,refs_len,ops_len,decide_eq_true hn,↓U15,↓XP,XQ,XM,cellsOf,okc,one1,resOne,resAll,eqCells,cellEq,fits,sameK,ne_eq,ite_true,ite_false,Nat.reduceSub,Nat.reduceAdd,Nat.reduceMul,Nat.reduceEqDiff,Nat.reduceLeDiff,Nat.reduceBEq,reduceCtorEq,TYX]
      unfold OkNo at hn
      refine fun _ => f_within ?_
      simp +contextual only [x15,hd,refs_len,ops_len,decide_eq_false (show ¬ (1 ≤ p.day ∧ p.day ≤ 1048576) by omega),↓U15,↓XP,XQ,XM,cellsOf,okc,one1,resOne,resAll,eqCells,cellEq,fits,sameK,ne_eq,ite_true,ite_false,Nat.reduceSub,Nat.reduceAdd,Nat.reduceMul,Nat.reduceEqDiff,Nat.reduceLeDiff,Nat.reduceBEq,reduceCtorEq,TYX]
      exact h5
    · simp +contextual only [x15,hd,refs_len,ops_len,decide_eq_false hn,↓U15,↓XP,XQ,XM,cellsOf,okc,one1,resOne,resAll,eqCells,cellEq,fits,sameK,ne_eq,ite_true,ite_false,Nat.reduceSub,Nat.reduceAdd,Nat.reduceMul,Nat.reduceEqDiff,Nat.reduceLeDiff,Nat.reduceBEq,reduceCtorEq,TYX]
      exact h5
  have hh : OkHead p := Classical.not_not.1 hh
  have hn : OkNo p.o p.s := ⟨hh.1,hh.2.1,hh.2.2.1,hh.2.2.2.1⟩
  simp +contextual only [x15,hd,refs_len,ops_len,decide_eq_true hn,↓U15,↓XP,XQ,XM,cellsOf,okc,one1,resOne,resAll,eqCells,cellEq,fits,sameK,ne_eq,ite_true,ite_false,Nat.reduceSub,Nat.reduceAdd,Nat.reduceMul,Nat.reduceEqDiff,Nat.reduceLeDiff,Nat.reduceBEq,reduceCtorEq,TYX]
  refine fun _ => f_within ?_
  simp +contextual only [x15,hd,refs_len,ops_len,decide_eq_true (show 1 ≤ p.day ∧ p.day ≤ 1048576 from hh.2.2.2.2),↓U15,↓XP,XQ,XM,cellsOf,okc,one1,resOne,resAll,eqCells,cellEq,fits,sameK,ne_eq,ite_true,ite_false,Nat.reduceSub,Nat.reduceAdd,Nat.reduceMul,Nat.reduceEqDiff,Nat.reduceLeDiff,Nat.reduceBEq,reduceCtorEq,TYX]
  have k4 : 8 < p.needs.length ∨ 16 < p.ops.length → R (.int .i64 4) H := fun hl => hk 4 (by unfold validE; rw [if_neg (fun h => h hh),if_pos hl])
  refine fun _ => ⟨fun c => k4 (by omega),fun c1 _ => ⟨fun c => k4 (by omega),fun c2 => ⟨fun c => hk 1 (by unfold validE; rw [if_neg (fun h => h hh),if_neg (by omega),if_pos (List.eq_nil_of_length_eq_zero (by omega))]),fun c3 => ?_⟩⟩⟩
  have hl : ¬ (8 < p.needs.length ∨ 16 < p.ops.length) := by omega
  have hne : p.ops ≠ [] := fun e => c3 (by rw [e]; rfl)
  have hk2 : ∀ b,(if ¬ OkNeeds p then (1 : Int) else if ¬ OkOps p then 1 else if 6800 < (encPt (bare p)).length then 4 else 0) = b → R (.int .i64 b) H := fun b hb => hk b (by
    unfold validE
    rw [if_neg (fun h => h hh),if_neg hl,if_neg hne]
    exact hb)
  clear hk k4
  simp only [← hd]
  refine XW.loopK Go.Proofs.YtoeckfegggongaaDoor.hm (fun F H' => ∃ (i : Nat),i ≤ p.needs.length ∧ (∀ j,j < i → OkNeedAt p j) ∧ Fr 86 [(1,.ptr b1 0),(34,.slc (refsD p.needs)),(35,.int .i64 p.needs.length),(36,.int .i64 i)] F ∧ ((b1,AO.cells p.d) :: H) = H') (fun F H => match F.getD 36 .any with | .int _ n' => p.needs.length - n'.toNat | _ => 0) ⟨0,by omega,by omega,⟨rfl,rfl,rfl,rfl,rfl,trivial⟩,rfl⟩ ?_
  rintro _ _ ⟨i,hi,hv,hF,rfl⟩ K hN hE hR
  obtain ⟨z,rfl⟩ : ∃ z : Nat → D,_ = [z 0,.ptr b1 0,z 2,z 3,z 4,z 5,z 6,z 7,z 8,z 9,z 10,z 11,z 12,z 13,z 14,z 15,z 16,z 17,z 18,z 19,z 20,z 21,z 22,z 23,z 24,z 25,z 26,z 27,z 28,z 29,z 30,z 31,z 32,z 33,.slc (refsD p.needs),.int .i64 p.needs.length,.int .i64 i,z 37,z 38,z 39,z 40,z 41,z 42,z 43,z 44,z 45,z 46,z 47,z 48,z 49,z 50,z 51,z 52,z 53,z 54,z 55,z 56,z 57,z 58,z 59,z 60,z 61,z 62,z 63,z 64,z 65,z 66,z 67,z 68,z 69,z 70,z 71,z 72,z 73,z 74,z 75,z 76,z 77,z 78,z 79,z 80,z 81,z 82,z 83,z 84,z 85] := hF.lit
  clear hF
  by_cases hlt : i < p.needs.length
  · have nx : OkNeedAt p i → ∀ F' H',back ((b1,AO.cells p.d) :: H).length H' = ((b1,AO.cells p.d) :: H) → Fr 86 [(1,.ptr b1 0),(34,.slc (refsD p.needs)),(35,.int .i64 p.needs.length),(36,.int .i64 ((i + 1 : Nat) : Int))] F' → K .normal F' H' := fun h1 F' H' hH hF' => hN _ _ ⟨i + 1,hlt,fun j hj => by
        by_cases e : j = i
        · rw [e]; exact h1
        · exact hv j (by omega),hF',hH.symm⟩ (by
      rw [List.getD_eq_getElem?_getD,hF'.2.2.2.2.1]
      simp only [List.getD_cons_succ,List.getD_cons_zero,Option.getD_some]
      omega)
    have hno : ¬ OkNeedAt p i → R (.int .i64 1) H := fun h1 => hk2 1 (by rw [if_pos (fun h => h1 (h i hlt))])
    clear hN hE
    have q1 := refs_get hlt
    have q0 : 0 < i → (refsD p.needs).getD (i - 1) [] = (p.needs.getD (i - 1) default).d := fun h => refs_get (by omega)
    unfold OkNeedAt at nx hno
    generalize p.needs.getD i default = r at q1 nx hno
    generalize p.needs.getD (i - 1) default = t at q0 nx hno
    have hr : r.d = [.int .i64 r.o,.int .i64 r.s] := rfl
    have ht : t.d = [.int .i64 t.o,.int .i64 t.s] := rfl
    have w1 : 0 < i → IntKind.i64.wrap ((i : Int) - 1) = ((i - 1 : Nat) : Int) := fun h => by rw [wrap_id (by omega) (by omega)]; omega
    simp +contextual only [x15,hd,refs_len,ops_len,hlt,Int.ofNat_lt,q1,hr,wrap_succ (show i ≤ big by omega),↓U15,↓XP,XQ,XM,cellsOf,okc,one1,resOne,resAll,eqCells,cellEq,fits,sameK,ne_eq,ite_true,ite_false,Nat.reduceSub,Nat.reduceAdd,Nat.reduceMul,Nat.reduceEqDiff,Nat.reduceLeDiff,Nat.reduceBEq,reduceCtorEq,TYX]
    rintro b4 ⟨n14,h4⟩ _ _
    refine ⟨_,f_numbered ⟨rfl,rfl⟩,?_⟩
    by_cases k1 : OkNo r.o r.s
    · have k1' := k1
      unfold OkNo at k1'
      by_cases k2 : r.o = p.o
      · have k1p : OkNo p.o r.s := k2 ▸ k1
        simp +contextual only [x15,hd,refs_len,ops_len,decide_eq_true k1,n14,h_miss n14,decide_eq_true k2,k2,decide_eq_true k1p,↓U15,↓XP,XQ,XM,cellsOf,okc,one1,resOne,resAll,eqCells,cellEq,fits,sameK,ne_eq,ite_true,ite_false,Nat.reduceSub,Nat.reduceAdd,Nat.reduceMul,Nat.reduceEqDiff,Nat.reduceLeDiff,Nat.reduceBEq,reduceCtorEq,TYX]
        intros
        refine hR _ _ ?_
        simp +contextual only [x15,hd,refs_len,ops_len,↓U15,↓XP,XQ,XM,cellsOf,okc,one1,resOne,resAll,eqCells,cellEq,fits,sameK,ne_eq,ite_true,ite_false,Nat.reduceSub,Nat.reduceAdd,Nat.reduceMul,Nat.reduceEqDiff,Nat.reduceLeDiff,Nat.reduceBEq,reduceCtorEq,TYX]
        exact hno (by omega)
      by_cases hi0 : 0 < i
      · have q0' := q0 hi0
        have w1' := w1 hi0
        by_cases c6 : r.o ≤ t.o
        · simp +contextual only [x15,hd,refs_len,ops_len,decide_eq_true k1,n14,h_miss n14,decide_eq_false k2,eq_false k2,q0',ht,w1',(eq_true (by omega) : ((0 : Int) < (i : Int)) = True),(eq_true c6),↓U15,↓XP,XQ,XM,cellsOf,okc,one1,resOne,resAll,eqCells,cellEq,fits,sameK,ne_eq,ite_true,ite_false,Nat.reduceSub,Nat.reduceAdd,Nat.reduceMul,Nat.reduceEqDiff,Nat.reduceLeDiff,Nat.reduceBEq,reduceCtorEq,TYX]
          intros
          refine ⟨by omega,fun _ => hR _ _ ?_⟩
          simp +contextual only [x15,hd,refs_len,ops_len,↓U15,↓XP,XQ,XM,cellsOf,okc,one1,resOne,resAll,eqCells,cellEq,fits,sameK,ne_eq,ite_true,ite_false,Nat.reduceSub,Nat.reduceAdd,Nat.reduceMul,Nat.reduceEqDiff,Nat.reduceLeDiff,Nat.reduceBEq,reduceCtorEq,TYX]
          exact hno (by omega)
        · simp +contextual only [x15,hd,refs_len,ops_len,decide_eq_true k1,n14,h_miss n14,decide_eq_false k2,eq_false k2,q0',ht,w1',(eq_true (by omega) : ((0 : Int) < (i : Int)) = True),(eq_false c6),wrap_succ (show i ≤ big by omega),↓U15,↓XP,XQ,XM,cellsOf,okc,one1,resOne,resAll,eqCells,cellEq,fits,sameK,ne_eq,ite_true,ite_false,Nat.reduceSub,Nat.reduceAdd,Nat.reduceMul,Nat.reduceEqDiff,Nat.reduceLeDiff,Nat.reduceBEq,reduceCtorEq,TYX]
          intros
          exact ⟨by omega,fun _ => nx (by omega) _ _ (back_1 rfl) ⟨rfl,rfl,rfl,rfl,rfl,trivial⟩⟩
      · simp +contextual only [x15,hd,refs_len,ops_len,decide_eq_true k1,n14,h_miss n14,decide_eq_false k2,eq_false k2,(eq_false (by omega) : ((0 : Int) < (i : Int)) = False),wrap_succ (show i ≤ big by omega),↓U15,↓XP,XQ,XM,cellsOf,okc,one1,resOne,resAll,eqCells,cellEq,fits,sameK,ne_eq,ite_true,ite_false,Nat.reduceSub,Nat.reduceAdd,Nat.reduceMul,Nat.reduceEqDiff,Nat.reduceLeDiff,Nat.reduceBEq,reduceCtorEq,TYX]
        intros
        exact nx (by omega) _ _ (back_1 rfl) ⟨rfl,rfl,rfl,rfl,rfl,trivial⟩
    · simp +contextual only [x15,hd,refs_len,ops_len,decide_eq_false k1,↓U15,↓XP,XQ,XM,cellsOf,okc,one1,resOne,resAll,eqCells,cellEq,fits,sameK,ne_eq,ite_true,ite_false,Nat.reduceSub,Nat.reduceAdd,Nat.reduceMul,Nat.reduceEqDiff,Nat.reduceLeDiff,Nat.reduceBEq,reduceCtorEq,TYX]
      refine hR _ _ ?_
      simp +contextual only [x15,hd,refs_len,ops_len,↓U15,↓XP,XQ,XM,cellsOf,okc,one1,resOne,resAll,eqCells,cellEq,fits,sameK,ne_eq,ite_true,ite_false,Nat.reduceSub,Nat.reduceAdd,Nat.reduceMul,Nat.reduceEqDiff,Nat.reduceLeDiff,Nat.reduceBEq,reduceCtorEq,TYX]
      unfold OkNo at k1
      exact hno (by omega)
  · have hik : i = p.needs.length := by omega
    subst hik
    clear hN
    have hon : OkNeeds p := hv
    have hk3 : ∀ b,(if ¬ OkOps p then (1 : Int) else if 6800 < (encPt (bare p)).length then 4 else 0) = b → R (.int .i64 b) H := fun b hb => hk2 b (by rw [if_neg (fun h => h hon)]; exact hb)
    clear hk2 hv
    simp +contextual only [x15,hd,refs_len,ops_len,↓U15,↓XP,XQ,XM,cellsOf,okc,one1,resOne,resAll,eqCells,cellEq,fits,sameK,ne_eq,ite_true,ite_false,Nat.reduceSub,Nat.reduceAdd,Nat.reduceMul,Nat.reduceEqDiff,Nat.reduceLeDiff,Nat.reduceBEq,reduceCtorEq,TYX]
    refine hE _ _ _ ?_
    clear hE hR
    simp +contextual only [x15,hd,refs_len,ops_len,↓U15,↓XP,XQ,XM,cellsOf,okc,one1,resOne,resAll,eqCells,cellEq,fits,sameK,ne_eq,ite_true,ite_false,Nat.reduceSub,Nat.reduceAdd,Nat.reduceMul,Nat.reduceEqDiff,Nat.reduceLeDiff,Nat.reduceBEq,reduceCtorEq,TYX]
    simp only [← hd]
    refine fun _ => XW.loopK Go.Proofs.YtoeckfegggongaaDoor.hm (fun F H' => ∃ (i : Nat),i ≤ p.ops.length ∧ (∀ o ∈ p.ops.take i,VOp o) ∧ Fr 86 [(1,.ptr b1 0),(72,.slc (opsD p.ops)),(73,.int .i64 p.ops.length),(74,.int .i64 i)] F ∧ ((b1,AO.cells p.d) :: H) = H') (fun F H => match F.getD 74 .any with | .int _ n' => p.ops.length - n'.toNat | _ => 0) ⟨0,by omega,by simp,⟨rfl,rfl,rfl,rfl,rfl,trivial⟩,rfl⟩ ?_
    rintro _ _ ⟨i,hi,hv,hF,rfl⟩ K hN hE hR
    obtain ⟨z,rfl⟩ : ∃ z : Nat → D,_ = [z 0,.ptr b1 0,z 2,z 3,z 4,z 5,z 6,z 7,z 8,z 9,z 10,z 11,z 12,z 13,z 14,z 15,z 16,z 17,z 18,z 19,z 20,z 21,z 22,z 23,z 24,z 25,z 26,z 27,z 28,z 29,z 30,z 31,z 32,z 33,z 34,z 35,z 36,z 37,z 38,z 39,z 40,z 41,z 42,z 43,z 44,z 45,z 46,z 47,z 48,z 49,z 50,z 51,z 52,z 53,z 54,z 55,z 56,z 57,z 58,z 59,z 60,z 61,z 62,z 63,z 64,z 65,z 66,z 67,z 68,z 69,z 70,z 71,.slc (opsD p.ops),.int .i64 p.ops.length,.int .i64 i,z 75,z 76,z 77,z 78,z 79,z 80,z 81,z 82,z 83,z 84,z 85] := hF.lit
    clear hF
    by_cases hlt : i < p.ops.length
    · have nx : VOp (p.ops.getD i default) → ∀ F' H',back ((b1,AO.cells p.d) :: H).length H' = ((b1,AO.cells p.d) :: H) → Fr 86 [(1,.ptr b1 0),(72,.slc (opsD p.ops)),(73,.int .i64 p.ops.length),(74,.int .i64 ((i + 1 : Nat) : Int))] F' → K .normal F' H' := fun h1 F' H' hH hF' => hN _ _ ⟨i + 1,hlt,fun o ho => by
          rw [List.take_add_one] at ho
          rcases List.mem_append.1 ho with ho | ho
          · exact hv o ho
          · simp [hlt] at ho
            have : o = p.ops.getD i default := by simp [hlt,ho]
            rw [this]; exact h1,hF',hH.symm⟩ (by
        rw [List.getD_eq_getElem?_getD,hF'.2.2.2.2.1]
        simp only [List.getD_cons_succ,List.getD_cons_zero,Option.getD_some]
        omega)
      have hm : p.ops.getD i default ∈ p.ops := by rw [getD_lt hlt]; exact List.getElem_mem hlt
      have hno : ¬ VOp (p.ops.getD i default) → R (.int .i64 1) H := fun h1 => hk3 1 (by rw [if_pos (fun h => h1 (h _ hm))])
      clear hN hE hk3
      have q1 := ops_get hlt
      generalize p.ops.getD i default = o at q1 nx hno
      have hod : o.d = [.int .i64 o.k,.int .i64 o.on.o,.int .i64 o.on.s,.int .i64 o.on.i,.int .i64 o.to.o,.int .i64 o.to.s,.int .i64 o.to.i,.slc (idsD o.ids),.int .i64 o.n,.str o.name,.str o.text,.int .i64 o.a,.int .i64 o.b] := rfl
      simp +contextual only [x15,hd,refs_len,ops_len,hlt,Int.ofNat_lt,q1,hod,↓U15,↓XP,XQ,XM,cellsOf,okc,one1,resOne,resAll,eqCells,cellEq,fits,sameK,ne_eq,ite_true,ite_false,Nat.reduceSub,Nat.reduceAdd,Nat.reduceMul,Nat.reduceEqDiff,Nat.reduceLeDiff,Nat.reduceBEq,reduceCtorEq,TYX]
      refine fun b6 hb6 => f_valid (o := o) ?_
      by_cases ho : VOp o
      · simp +contextual only [x15,hd,refs_len,ops_len,ho,wrap_succ (show i ≤ big by omega),↓U15,↓XP,XQ,XM,cellsOf,okc,one1,resOne,resAll,eqCells,cellEq,fits,sameK,ne_eq,ite_true,ite_false,Nat.reduceSub,Nat.reduceAdd,Nat.reduceMul,Nat.reduceEqDiff,Nat.reduceLeDiff,Nat.reduceBEq,reduceCtorEq,TYX]
        simp only [← hd]
        exact nx ho _ _ (back_1 rfl) ⟨rfl,rfl,rfl,rfl,rfl,trivial⟩
      · simp +contextual only [x15,hd,refs_len,ops_len,ho,↓U15,↓XP,XQ,XM,cellsOf,okc,one1,resOne,resAll,eqCells,cellEq,fits,sameK,ne_eq,ite_true,ite_false,Nat.reduceSub,Nat.reduceAdd,Nat.reduceMul,Nat.reduceEqDiff,Nat.reduceLeDiff,Nat.reduceBEq,reduceCtorEq,TYX]
        refine hR _ _ ?_
        simp +contextual only [x15,hd,refs_len,ops_len,↓U15,↓XP,XQ,XM,cellsOf,okc,one1,resOne,resAll,eqCells,cellEq,fits,sameK,ne_eq,ite_true,ite_false,Nat.reduceSub,Nat.reduceAdd,Nat.reduceMul,Nat.reduceEqDiff,Nat.reduceLeDiff,Nat.reduceBEq,reduceCtorEq,TYX]
        exact hno ho
    · have hik : i = p.ops.length := by omega
      subst hik
      clear hN
      rw [List.take_length] at hv
      have hoo : OkOps p := hv
      simp +contextual only [x15,hd,refs_len,ops_len,↓U15,↓XP,XQ,XM,cellsOf,okc,one1,resOne,resAll,eqCells,cellEq,fits,sameK,ne_eq,ite_true,ite_false,Nat.reduceSub,Nat.reduceAdd,Nat.reduceMul,Nat.reduceEqDiff,Nat.reduceLeDiff,Nat.reduceBEq,reduceCtorEq,TYX]
      refine hE _ _ _ ?_
      clear hE hR
      simp +contextual only [x15,hd,refs_len,ops_len,↓U15,↓XP,XQ,XM,cellsOf,okc,one1,resOne,resAll,eqCells,cellEq,fits,sameK,ne_eq,ite_true,ite_false,Nat.reduceSub,Nat.reduceAdd,Nat.reduceMul,Nat.reduceEqDiff,Nat.reduceLeDiff,Nat.reduceBEq,reduceCtorEq,TYX]
      refine f_msg hp ?_
      simp +contextual only [x15,hd,refs_len,ops_len,↓U15,↓XP,XQ,XM,cellsOf,okc,one1,resOne,resAll,eqCells,cellEq,fits,sameK,ne_eq,ite_true,ite_false,Nat.reduceSub,Nat.reduceAdd,Nat.reduceMul,Nat.reduceEqDiff,Nat.reduceLeDiff,Nat.reduceBEq,reduceCtorEq,TYX]
      refine fun _ => ⟨fun c => hk3 4 ?_,fun c => hk3 0 ?_⟩
      · exact (if_neg (fun h => h hoo)).trans (if_pos (Int.ofNat_lt.1 c))
      · exact (if_neg (fun h => h hoo)).trans (if_neg (fun h => c (Int.ofNat_lt.2 h)))
noncomputable def encE (p : Pt) : Int := if validE p ≠ 0 then validE p else if 1200 < p.sl.length then 4 else 0
theorem f_iEncode {p : Pt} {H : AH} {R : D → AH → Prop} (hp : Fit p) (h : R (.tup [if encE p = 0 then .own ((encPt p).map byteD) else .own [],.int .i64 (encE p)]) H) : ACall Tryd.prog 6 [.agg p.d] H R := by
  refine b6 fun hf => ?_
  have hbig := big_eq
  have hd : p.d = [.int .i64 p.o,.int .i64 p.s,.int .i64 p.day,.slc (refsD p.needs),.slc (opsD p.ops),.str p.sl] := rfl
  simp +contextual only [x6,hd,↓U6,↓XP,XQ,XM,cellsOf,okc,one1,resOne,resAll,eqCells,cellEq,fits,sameK,ne_eq,ite_true,ite_false,Nat.reduceSub,Nat.reduceAdd,Nat.reduceMul,Nat.reduceEqDiff,Nat.reduceLeDiff,Nat.reduceBEq,reduceCtorEq,TYX]
  refine fun b1 h1 => f_iValid hp ?_
  by_cases c1 : validE p = 0
  · have e0 : encE p = if 1200 < p.sl.length then 4 else 0 := by unfold encE; rw [if_neg (fun h => h c1)]
    simp +contextual only [x6,hd,c1,↓U6,↓XP,XQ,XM,cellsOf,okc,one1,resOne,resAll,eqCells,cellEq,fits,sameK,ne_eq,ite_true,ite_false,Nat.reduceSub,Nat.reduceAdd,Nat.reduceMul,Nat.reduceEqDiff,Nat.reduceLeDiff,Nat.reduceBEq,reduceCtorEq,TYX]
    by_cases c2 : 1200 < p.sl.length
    · rw [if_pos c2] at e0
      simp +contextual only [x6,hd,c2,(eq_true (by omega) : ((1200 : Int) < (p.sl.length : Int)) = True),↓U6,↓XP,XQ,XM,cellsOf,okc,one1,resOne,resAll,eqCells,cellEq,fits,sameK,ne_eq,ite_true,ite_false,Nat.reduceSub,Nat.reduceAdd,Nat.reduceMul,Nat.reduceEqDiff,Nat.reduceLeDiff,Nat.reduceBEq,reduceCtorEq,TYX]
      rw [e0,if_neg (by decide)] at h
      exact fun _ _ => h
    · rw [if_neg c2] at e0
      simp +contextual only [x6,hd,c2,(eq_false (by omega) : ((1200 : Int) < (p.sl.length : Int)) = False),↓U6,↓XP,XQ,XM,cellsOf,okc,one1,resOne,resAll,eqCells,cellEq,fits,sameK,ne_eq,ite_true,ite_false,Nat.reduceSub,Nat.reduceAdd,Nat.reduceMul,Nat.reduceEqDiff,Nat.reduceLeDiff,Nat.reduceBEq,reduceCtorEq,TYX]
      refine fun _ _ => f_enc hp fun _ => ?_
      simp +contextual only [x6,hd,↓U6,↓XP,XQ,XM,cellsOf,okc,one1,resOne,resAll,eqCells,cellEq,fits,sameK,ne_eq,ite_true,ite_false,Nat.reduceSub,Nat.reduceAdd,Nat.reduceMul,Nat.reduceEqDiff,Nat.reduceLeDiff,Nat.reduceBEq,reduceCtorEq,TYX]
      rw [e0,if_pos rfl] at h
      exact fun _ => h
  · have e0 : encE p = validE p := by unfold encE; rw [if_pos c1]
    simp +contextual only [x6,hd,eq_false c1,↓U6,↓XP,XQ,XM,cellsOf,okc,one1,resOne,resAll,eqCells,cellEq,fits,sameK,ne_eq,ite_true,ite_false,Nat.reduceSub,Nat.reduceAdd,Nat.reduceMul,Nat.reduceEqDiff,Nat.reduceLeDiff,Nat.reduceBEq,reduceCtorEq,TYX]
    rw [e0,if_neg c1] at h
    exact fun _ => h
end Go.Proofs.YtoeckfegggongaaDoor
end
section
namespace Go.Proofs.YtoeckfegggongaaDoor
open Go Go.Aw
def val (L : List UInt8) : Nat := L.foldl (fun a d => 256 * a + d.toNat) 0
theorem val_snoc {L : List UInt8} {d : UInt8} : val (L ++ [d]) = 256 * val L + d.toNat := by simp [val]
theorem val_digs : ∀ (m : Nat),val (digs m).reverse = m
  | m => by
    by_cases h : m = 0
    · subst h; rw [digs_zero]; rfl
    · rw [digs_pos h,List.reverse_cons,val_snoc,val_digs (m / 256),UInt8.toNat_ofNat']
      omega
theorem val_go : ∀ (L : List UInt8) (a : Nat),L.foldl (fun a d => 256 * a + d.toNat) a < 256 ^ L.length * (a + 1)
  | [],a => by simp
  | d :: r,a => by
    have h1 := val_go r (256 * a + d.toNat)
    have h2 := d.toNat_lt
    simp only [List.foldl_cons,List.length_cons]
    refine Nat.lt_of_lt_of_le h1 ?_
    rw [Nat.pow_succ,Nat.mul_assoc]
    exact Nat.mul_le_mul_left _ (by omega)
theorem val_lt (L : List UInt8) : val L < 256 ^ L.length := by
  have := val_go L 0
  simpa [val] using this
theorem digs_head : ∀ (m : Nat) (d : UInt8) (r : List UInt8),(digs m).reverse = d :: r → d ≠ 0
  | m,d,r,h => by
    by_cases hm : m = 0
    · subst hm; rw [digs_zero] at h; simp at h
    · rw [digs_pos hm,List.reverse_cons] at h
      by_cases h2 : m / 256 = 0
      · rw [h2,digs_zero] at h
        simp only [List.reverse_nil,List.nil_append,List.cons.injEq] at h
        rw [← h.1]
        intro e
        have := congrArg UInt8.toNat e
        rw [UInt8.toNat_ofNat'] at this
        simp at this
        omega
      · cases hr : (digs (m / 256)).reverse with
        | nil => 
          rw [digs_pos h2] at hr
          simp at hr
        | cons a t =>
          rw [hr] at h
          simp only [List.cons_append,List.cons.injEq] at h
          have := digs_head (m / 256) a t hr
          rw [← h.1]
          exact this
theorem flip8_2 {f : Bool} {x : UInt8} : flip8 f (flip8 f x) = x := by
  cases f with
  | false => rfl
  | true =>
    simp only [flip8,if_true]
    apply UInt8.toNat_inj.1
    have := x.toNat_lt
    rw [UInt8.toNat_sub_of_le _ _ (by rw [UInt8.le_iff_toNat_le,UInt8.toNat_sub_of_le _ _ (by rw [UInt8.le_iff_toNat_le]; simp; omega)]; simp),UInt8.toNat_sub_of_le _ _ (by rw [UInt8.le_iff_toNat_le]; simp; omega)]
    simp
    omega
def tailN (c : UInt8) : Nat := if c.toNat < 128 then 127 - c.toNat else c.toNat - 128
def turned (c : UInt8) : Bool := decide (c.toNat < 128)
def body (c : UInt8) (r : List UInt8) : List UInt8 := (r.take (tailN c)).map (flip8 (turned c))
def decInt : List UInt8 → Int × Nat × Int
  | [] => (0,0,3)
  | c :: r =>
    if 8 < tailN c then (0,0,2) else if r.length < tailN c then (0,0,3) else if 0 < tailN c ∧ flip8 (turned c) (r.getD 0 0) = 0 then (0,0,2)
    else if 9223372036854775808 ≤ val (body c r) then (0,0,2)
    else (if turned c = true then -1 - (val (body c r) : Int) else (val (body c r) : Int),tailN c + 1,0)
theorem dec_enc {m : Int} {rest : List UInt8} (hm : inR .i64 m) : decInt (encInt m ++ rest) = (m,(encInt m).length,0) := by
  have hl := mag_len hm
  have hg := mag_lt hm
  obtain ⟨g,hgd⟩ : ∃ g,mag m = g := ⟨_,rfl⟩
  have hv := val_digs g
  have hh := digs_head g
  rw [hgd] at hl hg
  obtain ⟨c,hc⟩ : ∃ c,UInt8.ofNat (if m < 0 then 127 - (digs g).length else 128 + (digs g).length) = c := ⟨_,rfl⟩
  have hcn : c.toNat = if m < 0 then 127 - (digs g).length else 128 + (digs g).length := by
    rw [← hc,UInt8.toNat_ofNat']
    split <;> omega
  have ht : tailN c = (digs g).length := by
    unfold tailN
    rw [hcn]
    split <;> split <;> omega
  have hf : turned c = decide (m < 0) := by
    unfold turned
    rw [hcn]
    apply decide_eq_decide.2
    split <;> omega
  have he : encInt m = c :: (digs g).reverse.map (flip8 (decide (m < 0))) := by rw [encInt,hgd,hc]
  have hlen : (encInt m).length = (digs g).length + 1 := by rw [he]; simp
  have hb : body c ((digs g).reverse.map (flip8 (decide (m < 0))) ++ rest) = (digs g).reverse := by
    unfold body
    rw [ht,hf,List.take_append_of_le_length (by simp),List.take_of_length_le (by simp),List.map_map]
    refine (List.map_congr_left fun x _ => ?_).trans (List.map_id _)
    exact flip8_2
  rw [hlen,he,List.cons_append]
  unfold decInt
  dsimp only
  rw [hb,hv,ht,hf,if_neg (by omega),if_neg (by simp),if_neg ?_,if_neg (by omega)]
  · have : m = if m < 0 then -1 - (g : Int) else (g : Int) := by
      rw [← hgd]
      unfold mag
      split <;> omega
    simp only [decide_eq_true_eq]
    rw [← this]
  · rintro ⟨h1,h2⟩
    cases hr : (digs g).reverse with
    | nil => 
      have := congrArg List.length hr
      simp at this
      rw [this] at h1
      simp at h1
    | cons a t =>
      rw [hr] at h2
      simp only [List.map_cons,List.cons_append,List.getD_cons_zero] at h2
      rw [flip8_2] at h2
      exact hh a t hr h2
theorem dec_le {b : List UInt8} : (decInt b).2.1 ≤ b.length := by
  unfold decInt
  split
  · simp
  · next c r =>
    split
    · simp
    · split
      · simp
      · split
        · simp
        · split
          · simp
          · simp; omega
theorem dec_e {b : List UInt8} : (decInt b).2.2 = 0 ∨ (decInt b).2.2 = 2 ∨ (decInt b).2.2 = 3 := by
  unfold decInt
  split
  · simp
  · next c r =>
    split
    · simp
    · split
      · simp
      · split
        · simp
        · split
          · simp
          · simp
end Go.Proofs.YtoeckfegggongaaDoor
end
section
namespace Go.Proofs.YtoeckfegggongaaDoor
open Go Go.Aw
def x4_s0 : XC := (.seq (.reg [⟨(.move (.tmp 5)),some 8,none,false,false⟩,⟨(.move (.tmp 1)),some 9,none,false,false⟩,⟨(.move (.tmp 5)),some 10,none,false,false⟩,⟨(.call ⟨(.builtin .len),#[(.tmp 10)],#[43]⟩),some 11,none,false,false⟩,⟨(.call ⟨(.value (.func 9)),#[(.tmp 9),(.tmp 11)],#[3,3]⟩),some 12,none,false,false⟩,⟨(.indexAddr 43 (.tmp 8) (.tmp 12)),some 13,none,false,false⟩,⟨(.load 26 (.tmp 13)),some 14,none,true,false⟩,⟨(.store 26 (.tmp 4) (.tmp 14)),none,.none,false,false⟩]) .ret)
def x4_s1 : XC := (.seq (.reg [⟨(.move (.tmp 0)),some 6,none,false,false⟩,⟨(.call ⟨(.value (.func 14)),#[(.tmp 6)],#[22]⟩),some 7,none,true,false⟩,⟨(.assign (.tmp 7)),some 5,none,false,false⟩]) x4_s0)
def V4 := PLift.up (aI (@unf _ _ x4_s0.eq_1) (@unf _ _ x4_s1.eq_1))
theorem U4 : type_of% V4.down := V4.down
def x4 : XC := (.seq (.reg [⟨(.alloc 26),some 4,none,false,false⟩]) x4_s1)
theorem b4 {args : List D} {H : AH} {R : D → AH → Prop} (h : facts args → xcode Tryd.prog x4 (args ++ List.replicate (15 - args.length) (.tup [])) H (retQ Tryd.prog [(.cell 4 26)] H.length R)) : ACall Tryd.prog 4 args H R :=
  xcall_body hm Tryd.func4 rfl (by kernel_rfl) (by kernel_rfl) (by kernel_rfl) (by kernel_rfl) (by kernel_rfl) (by kernel_rfl) h
end Go.Proofs.YtoeckfegggongaaDoor
end
section
namespace Go.Proofs.YtoeckfegggongaaDoor
open Go Go.Aw
def x5_s0 : XC := (.cond (.tmp 8) (.seq (.reg [⟨(.move (.tmp 0)),some 9,none,false,false⟩,⟨(.move (.tmp 1)),some 10,none,false,false⟩,⟨(.slice 9 (.tmp 9) .none (.some (.tmp 10)) .none),some 11,none,true,false⟩,⟨(.assign (.tmp 11)),some 4,none,false,false⟩]) .ret) .skip)
def x5_s1 : XC := (.seq (.seq (.reg [⟨(.move (.tmp 0)),some 5,none,false,false⟩,⟨(.call ⟨(.builtin .len),#[(.tmp 5)],#[9]⟩),some 6,none,false,false⟩,⟨(.move (.tmp 1)),some 7,none,false,false⟩,⟨(.binOp .gtr 3 (.tmp 6) (.tmp 7) 3),some 8,none,false,false⟩]) x5_s0) (.seq (.reg [⟨(.move (.tmp 0)),some 12,none,true,false⟩,⟨(.assign (.tmp 12)),some 4,none,false,false⟩]) .ret))
def V5 := PLift.up (aI (@unf _ _ x5_s0.eq_1) (@unf _ _ x5_s1.eq_1))
theorem U5 : type_of% V5.down := V5.down
def x5 : XC := (.seq (.reg [⟨(.assign (.const (.string ⟨#[]⟩))),some 4,none,false,false⟩]) x5_s1)
theorem b5 {args : List D} {H : AH} {R : D → AH → Prop} (h : facts args → xcode Tryd.prog x5 (args ++ List.replicate (13 - args.length) (.tup [])) H (retQ Tryd.prog [(.tmp 4)] H.length R)) : ACall Tryd.prog 5 args H R :=
  xcall_body hm Tryd.func5 rfl (by kernel_rfl) (by kernel_rfl) (by kernel_rfl) (by kernel_rfl) (by kernel_rfl) (by kernel_rfl) h
def x12_s0 : XC := (.reg [⟨(.move (.tmp 5)),some 15,none,false,false⟩,⟨(.binOp .add 3 (.tmp 15) (.const (.int .i64 1)) 3),some 16,none,true,false⟩,⟨(.assign (.tmp 16)),some 5,none,false,false⟩])
def x12_s1 : XC := (.seq (.block 1 (.seq (.regD [⟨(.move (.tmp 0)),some 17,none,false,false⟩,⟨(.move (.tmp 5)),some 18,none,false,false⟩,⟨(.indexAddr 22 (.tmp 17) (.tmp 18)),some 19,none,false,false⟩,⟨(.load 3 (.tmp 19)),some 20,none,false,false⟩,⟨(.move (.tmp 1)),some 21,none,false,false⟩,⟨(.move (.tmp 5)),some 22,none,false,false⟩,⟨(.indexAddr 22 (.tmp 21) (.tmp 22)),some 23,none,false,false⟩,⟨(.load 3 (.tmp 23)),some 24,none,false,false⟩,⟨(.binOp .neq 3 (.tmp 20) (.tmp 24) 3),some 25,none,false,false⟩]) (.cond (.tmp 25) (.seq (.reg [⟨(.assign (.const (.bool false))),some 4,none,false,false⟩]) .ret) .skip))) x12_s0)
def x12_L2 : XC := (.seq (.seq (.reg [⟨(.move (.tmp 5)),some 11,none,false,false⟩,⟨(.move (.tmp 0)),some 12,none,false,false⟩,⟨(.call ⟨(.builtin .len),#[(.tmp 12)],#[22]⟩),some 13,none,false,false⟩,⟨(.binOp .lss 3 (.tmp 11) (.tmp 13) 3),some 14,none,false,false⟩]) (.cond (.tmp 14) .skip (.exit 0))) x12_s1)
def x12_s3 : XC := (.seq (.seq (.reg [⟨(.assign (.const (.int .i64 0))),some 5,none,false,false⟩]) (.block 0 (.loop x12_L2))) (.seq (.reg [⟨(.assign (.const (.bool true))),some 4,none,false,false⟩]) .ret))
def x12_s4 : XC := (.seq (.seq (.reg [⟨(.move (.tmp 0)),some 6,none,false,false⟩,⟨(.call ⟨(.builtin .len),#[(.tmp 6)],#[22]⟩),some 7,none,false,false⟩,⟨(.move (.tmp 1)),some 8,none,false,false⟩,⟨(.call ⟨(.builtin .len),#[(.tmp 8)],#[22]⟩),some 9,none,false,false⟩,⟨(.binOp .neq 3 (.tmp 7) (.tmp 9) 3),some 10,none,false,false⟩]) (.cond (.tmp 10) (.seq (.reg [⟨(.assign (.const (.bool false))),some 4,none,false,false⟩]) .ret) .skip)) x12_s3)
def V12 := PLift.up (aI (aI (@unf _ _ x12_s0.eq_1) (@unf _ _ x12_s1.eq_1)) (aI (@unf _ _ x12_L2.eq_1) (aI (@unf _ _ x12_s3.eq_1) (@unf _ _ x12_s4.eq_1))))
theorem U12 : type_of% V12.down := V12.down
def x12 : XC := (.seq (.reg [⟨(.assign (.const (.bool false))),some 4,none,false,false⟩]) x12_s4)
theorem b12 {args : List D} {H : AH} {R : D → AH → Prop} (h : facts args → xcode Tryd.prog x12 (args ++ List.replicate (26 - args.length) (.tup [])) H (retQ Tryd.prog [(.tmp 4)] H.length R)) : ACall Tryd.prog 12 args H R :=
  xcall_body hm Tryd.func12 rfl (by kernel_rfl) (by kernel_rfl) (by kernel_rfl) (by kernel_rfl) (by kernel_rfl) (by kernel_rfl) h
def x3_s0 : XC := (.seq (.reg [⟨(.move (.tmp 15)),some 70,none,false,false⟩,⟨(.binOp .eql 30 (.tmp 70) (.const (.int .i64 0)) 30),some 71,none,false,false⟩,⟨(.move (.tmp 71)),some 72,none,false,false⟩,⟨(.move (.tmp 10)),some 73,(.some (.some (72,true))),false,false⟩,⟨(.move (.tmp 14)),some 74,(.some (.some (72,true))),false,false⟩,⟨(.call ⟨(.value (.func 11)),#[(.tmp 73),(.tmp 74)],#[29,29]⟩),some 75,(.some (.some (72,true))),false,false⟩,⟨(.pick (.tmp 72) (.tmp 75) (.const (.bool false))),some 76,none,false,false⟩,⟨(.move (.tmp 76)),some 77,none,false,false⟩,⟨(.move (.tmp 17)),some 78,(.some (.some (77,true))),false,false⟩,⟨(.binOp .eql 30 (.tmp 78) (.const (.int .i64 2)) 30),some 79,(.some (.some (77,true))),false,false⟩,⟨(.pick (.tmp 77) (.tmp 79) (.const (.bool false))),some 80,none,false,false⟩,⟨(.move (.tmp 80)),some 81,none,false,false⟩,⟨(.move (.tmp 20)),some 82,(.some (.some (81,true))),false,false⟩,⟨(.binOp .eql 30 (.tmp 82) (.const (.int .i64 0)) 30),some 83,(.some (.some (81,true))),false,false⟩,⟨(.pick (.tmp 81) (.tmp 83) (.const (.bool false))),some 84,none,false,false⟩,⟨(.move (.tmp 84)),some 85,none,false,false⟩,⟨(.move (.tmp 18)),some 86,(.some (.some (85,true))),false,false⟩,⟨(.fieldAddr 26 (.tmp 9) 0),some 87,(.some (.some (85,true))),false,false⟩,⟨(.load 3 (.tmp 87)),some 88,(.some (.some (85,true))),false,false⟩,⟨(.fieldAddr 26 (.tmp 9) 1),some 89,(.some (.some (85,true))),false,false⟩,⟨(.load 3 (.tmp 89)),some 90,(.some (.some (85,true))),false,false⟩,⟨(.fieldAddr 26 (.tmp 9) 2),some 91,(.some (.some (85,true))),false,false⟩,⟨(.load 3 (.tmp 91)),some 92,(.some (.some (85,true))),false,false⟩,⟨(.buildSlice 22 3 #[(0,(.tmp 88)),(1,(.tmp 90)),(2,(.tmp 92))]),some 93,(.some (.some (85,true))),false,false⟩,⟨(.call ⟨(.value (.func 12)),#[(.tmp 86),(.tmp 93)],#[22,22]⟩),some 94,(.some (.some (85,true))),false,false⟩,⟨(.pick (.tmp 85) (.tmp 94) (.const (.bool false))),some 95,none,false,false⟩,⟨(.move (.tmp 95)),some 96,none,false,false⟩,⟨(.call ⟨(.value (.func 13)),#[],#[]⟩),some 97,(.some (.some (96,true))),false,false⟩,⟨(.pick (.tmp 96) (.tmp 97) (.const (.bool false))),some 98,none,true,false⟩,⟨(.assign (.tmp 98)),some 8,none,false,false⟩]) .ret)
def x3_s1 : XC := (.seq (.reg [⟨(.move (.tmp 10)),some 65,none,false,false⟩,⟨(.call ⟨(.value (.func 10)),#[(.tmp 65)],#[29]⟩),some 66,none,false,false⟩,⟨(.move (.tmp 66)),some 64,none,false,false⟩,⟨(.extract (.tmp 64) 0),some 67,none,true,false⟩,⟨(.extract (.tmp 64) 1),some 68,none,true,false⟩,⟨(.extract (.tmp 64) 2),some 69,none,true,false⟩,⟨(.assign (.tmp 67)),some 18,none,false,false⟩,⟨(.assign (.tmp 68)),some 19,none,false,false⟩,⟨(.assign (.tmp 69)),some 20,none,false,false⟩]) x3_s0)
def x3_s2 : XC := (.seq (.reg [⟨(.move (.tmp 10)),some 55,none,false,false⟩,⟨(.move (.tmp 3)),some 56,none,false,false⟩,⟨(.move (.tmp 10)),some 57,none,false,false⟩,⟨(.call ⟨(.builtin .len),#[(.tmp 57)],#[29]⟩),some 58,none,false,false⟩,⟨(.call ⟨(.value (.func 9)),#[(.tmp 56),(.tmp 58)],#[3,3]⟩),some 59,none,false,false⟩,⟨(.slice 29 (.tmp 55) .none (.some (.tmp 59)) .none),some 60,none,false,false⟩,⟨(.call ⟨(.value (.func 7)),#[(.tmp 60)],#[29]⟩),some 61,none,false,false⟩,⟨(.move (.tmp 61)),some 54,none,false,false⟩,⟨(.extract (.tmp 54) 0),some 62,none,true,false⟩,⟨(.extract (.tmp 54) 1),some 63,none,true,false⟩,⟨(.alloc 26),some 16,none,false,false⟩,⟨(.store 26 (.tmp 16) (.tmp 62)),none,.none,false,false⟩,⟨(.assign (.tmp 63)),some 17,none,false,false⟩]) x3_s1)
def x3_s3 : XC := (.seq (.reg [⟨(.load 26 (.tmp 12)),some 50,none,false,false⟩,⟨(.call ⟨(.value (.func 6)),#[(.tmp 50)],#[26]⟩),some 51,none,false,false⟩,⟨(.move (.tmp 51)),some 49,none,false,false⟩,⟨(.extract (.tmp 49) 0),some 52,none,true,false⟩,⟨(.extract (.tmp 49) 1),some 53,none,true,false⟩,⟨(.assign (.tmp 52)),some 14,none,false,false⟩,⟨(.assign (.tmp 53)),some 15,none,false,false⟩]) x3_s2)
def x3_s4 : XC := (.seq (.seq (.reg [⟨(.move (.tmp 11)),some 37,none,false,false⟩,⟨(.binOp .neq 30 (.tmp 37) (.const (.int .i64 0)) 30),some 38,none,false,false⟩,⟨(.move (.tmp 38)),some 39,none,false,false⟩,⟨(.move (.tmp 13)),some 40,(.some (.some (39,false))),false,false⟩,⟨(.binOp .neq 30 (.tmp 40) (.const (.int .i64 0)) 30),some 41,(.some (.some (39,false))),false,false⟩,⟨(.pick (.tmp 39) (.const (.bool true)) (.tmp 41)),some 42,none,false,false⟩,⟨(.move (.tmp 42)),some 43,none,false,false⟩,⟨(.load 26 (.tmp 9)),some 44,(.some (.some (43,false))),false,false⟩,⟨(.load 26 (.tmp 12)),some 45,(.some (.some (43,false))),false,false⟩,⟨(.call ⟨(.value (.func 8)),#[(.tmp 44),(.tmp 45)],#[26,26]⟩),some 46,(.some (.some (43,false))),false,false⟩,⟨(.unOp .not 4 (.tmp 46)),some 47,(.some (.some (43,false))),false,false⟩,⟨(.pick (.tmp 43) (.const (.bool true)) (.tmp 47)),some 48,none,false,false⟩]) (.cond (.tmp 48) (.seq (.reg [⟨(.assign (.const (.bool false))),some 8,none,false,false⟩]) .ret) .skip)) x3_s3)
def x3_s5 : XC := (.seq (.reg [⟨(.move (.tmp 10)),some 33,none,false,false⟩,⟨(.call ⟨(.value (.func 7)),#[(.tmp 33)],#[29]⟩),some 34,none,false,false⟩,⟨(.move (.tmp 34)),some 32,none,false,false⟩,⟨(.extract (.tmp 32) 0),some 35,none,true,false⟩,⟨(.extract (.tmp 32) 1),some 36,none,true,false⟩,⟨(.alloc 26),some 12,none,false,false⟩,⟨(.store 26 (.tmp 12) (.tmp 35)),none,.none,false,false⟩,⟨(.assign (.tmp 36)),some 13,none,false,false⟩]) x3_s4)
def x3_s6 : XC := (.seq (.reg [⟨(.load 26 (.tmp 9)),some 28,none,false,false⟩,⟨(.call ⟨(.value (.func 6)),#[(.tmp 28)],#[26]⟩),some 29,none,false,false⟩,⟨(.move (.tmp 29)),some 27,none,false,false⟩,⟨(.extract (.tmp 27) 0),some 30,none,true,false⟩,⟨(.extract (.tmp 27) 1),some 31,none,true,false⟩,⟨(.assign (.tmp 30)),some 10,none,false,false⟩,⟨(.assign (.tmp 31)),some 11,none,false,false⟩]) x3_s5)
def x3_s7 : XC := (.seq (.reg [⟨(.move (.tmp 2)),some 24,none,false,false⟩,⟨(.call ⟨(.value (.func 5)),#[(.tmp 24),(.const (.int .i64 1200))],#[9,3]⟩),some 25,none,true,false⟩,⟨(.fieldAddr 26 (.tmp 9) 5),some 26,none,false,false⟩,⟨(.store 9 (.tmp 26) (.tmp 25)),none,.none,false,false⟩]) x3_s6)
def x3_s8 : XC := (.seq (.reg [⟨(.move (.tmp 0)),some 21,none,false,false⟩,⟨(.move (.tmp 1)),some 22,none,false,false⟩,⟨(.call ⟨(.value (.func 4)),#[(.tmp 21),(.tmp 22)],#[22,3]⟩),some 23,none,true,false⟩,⟨(.alloc 26),some 9,none,false,false⟩,⟨(.store 26 (.tmp 9) (.tmp 23)),none,.none,false,false⟩]) x3_s7)
def V3 := PLift.up (aI (aI (aI (@unf _ _ x3_s0.eq_1) (@unf _ _ x3_s1.eq_1)) (aI (@unf _ _ x3_s2.eq_1) (@unf _ _ x3_s3.eq_1))) (aI (aI (@unf _ _ x3_s4.eq_1) (@unf _ _ x3_s5.eq_1)) (aI (@unf _ _ x3_s6.eq_1) (aI (@unf _ _ x3_s7.eq_1) (@unf _ _ x3_s8.eq_1)))))
theorem U3 : type_of% V3.down := V3.down
def x3 : XC := (.seq (.reg [⟨(.assign (.const (.bool false))),some 8,none,false,false⟩]) x3_s8)
theorem b3 {args : List D} {H : AH} {R : D → AH → Prop} (h : facts args → xcode Tryd.prog x3 (args ++ List.replicate (99 - args.length) (.tup [])) H (retQ Tryd.prog [(.tmp 8)] H.length R)) : ACall Tryd.prog 3 args H R :=
  xcall_body hm Tryd.func3 rfl (by kernel_rfl) (by kernel_rfl) (by kernel_rfl) (by kernel_rfl) (by kernel_rfl) (by kernel_rfl) h
end Go.Proofs.YtoeckfegggongaaDoor
end
section
namespace Go.Proofs.YtoeckfegggongaaDoor
open Go Go.Aw
theorem bytes_get {l : List UInt8} {i : Nat} (h : i < l.length) : (l.map byteD).getD i [] = [.int .u8 ((l.getD i 0).toNat : Int)] := by simp [h,byteD]
theorem xorB {f : Bool} {c : UInt8} : bits .xor .u8 (c.toNat : Int) (flI f) = ((flip8 f c).toNat : Int) := by
  rw [xor8 c.toNat_lt,UInt8.ofNat_toNat]
theorem flip_turned (c : UInt8) : ((flip8 (turned c) c).toNat : Int) - 128 = (tailN c : Int) := by
  have := c.toNat_lt
  unfold turned tailN
  by_cases h : c.toNat < 128
  · rw [decide_eq_true h,if_pos h,flip8,if_pos rfl,UInt8.toNat_sub_of_le _ _ (by rw [UInt8.le_iff_toNat_le]; simp; omega)]
    simp
    omega
  · rw [decide_eq_false h,if_neg h,flip8,if_neg (by simp)]
    omega
theorem shl_or {m x : Nat} (hm : 256 * m + x < 18446744073709551616) (hx : x < 256) : bits .or .u64 (IntKind.u64.wrap ((m : Int) * 2 ^ (min ((8 : Int).toNat) IntKind.u64.bits))) (x : Int) = ((256 * m + x : Nat) : Int) := by
  have e1 : (2 : Int) ^ (min ((8 : Int).toNat) IntKind.u64.bits) = 256 := rfl
  rw [e1,IntKind.wrap_u64,show ((m : Int) * 256) % 18446744073709551616 = ((m * 256 : Nat) : Int) by omega,u64_or_nat _ _ (by omega) (by omega)]
  have := Nat.two_pow_add_eq_or_of_lt (i := 8) (b := x) (by omega) m
  rw [show m * 256 = 2 ^ 8 * m by omega,← this]
theorem w_gl {f : Bool} {k6 : D} {rs : List UInt8} {H : AH} {Q : AQ} {F : List D} (hr : rs.length ≤ 8) (hF : Fr 71 [(5,.int .u8 (flI f)),(6,k6),(7,.int .u64 0),(46,.slc (rs.map byteD)),(47,.int .i64 rs.length),(48,.int .i64 0)] F) (hE : ∀ F',Fr 71 [(5,.int .u8 (flI f)),(6,k6),(7,.int .u64 (val (rs.map (flip8 f)) : Int))] F' → Q (.exit 1) F' H) : XW Tryd.prog x19_L8 F H Q := by
  have hbig := big_eq
  refine XW.loopK Go.Proofs.YtoeckfegggongaaDoor.hm (fun F H' => ∃ (j : Nat),j ≤ rs.length ∧ Fr 71 [(5,.int .u8 (flI f)),(6,k6),(7,.int .u64 (val ((rs.take j).map (flip8 f)) : Int)),(46,.slc (rs.map byteD)),(47,.int .i64 rs.length),(48,.int .i64 j)] F ∧ H = H') (fun F H => match F.getD 48 .any with | .int _ n' => rs.length - n'.toNat | _ => 0) ⟨0,by omega,hF,rfl⟩ ?_
  rintro _ _ ⟨j,hj,hF,rfl⟩ K hN hE' hR
  obtain ⟨z,rfl⟩ : ∃ z : Nat → D,_ = [z 0,z 1,z 2,z 3,z 4,.int .u8 (flI f),k6,.int .u64 (val ((rs.take j).map (flip8 f)) : Int),z 8,z 9,z 10,z 11,z 12,z 13,z 14,z 15,z 16,z 17,z 18,z 19,z 20,z 21,z 22,z 23,z 24,z 25,z 26,z 27,z 28,z 29,z 30,z 31,z 32,z 33,z 34,z 35,z 36,z 37,z 38,z 39,z 40,z 41,z 42,z 43,z 44,z 45,.slc (rs.map byteD),.int .i64 rs.length,.int .i64 j,z 49,z 50,z 51,z 52,z 53,z 54,z 55,z 56,z 57,z 58,z 59,z 60,z 61,z 62,z 63,z 64,z 65,z 66,z 67,z 68,z 69,z 70] := hF.lit
  clear hF hR
  by_cases hlt : j < rs.length
  · have nx : ∀ F',Fr 71 [(5,.int .u8 (flI f)),(6,k6),(7,.int .u64 ((256 * val ((rs.take j).map (flip8 f)) + (flip8 f (rs.getD j 0)).toNat : Nat) : Int)),(46,.slc (rs.map byteD)),(47,.int .i64 rs.length),(48,.int .i64 ((j + 1 : Nat) : Int))] F' → K .normal F' H := fun F' hF' => hN _ _ ⟨j + 1,hlt,by
        have : (rs.take (j + 1)).map (flip8 f) = (rs.take j).map (flip8 f) ++ [flip8 f (rs.getD j 0)] := by
          rw [List.take_add_one,List.map_append]
          simp [hlt]
        rw [this,val_snoc]
        exact hF',(back_0 rfl).symm⟩ (by
      rw [List.getD_eq_getElem?_getD,hF'.2.2.2.2.2.2.1]
      simp only [List.getD_cons_succ,List.getD_cons_zero,Option.getD_some]
      omega)
    clear hN hE hE'
    have q1 := bytes_get hlt
    have hv : val ((rs.take j).map (flip8 f)) < 256 ^ 7 := Nat.lt_of_lt_of_le (val_lt _) (Nat.pow_le_pow_right (by omega) (by simp; omega))
    generalize val ((rs.take j).map (flip8 f)) = v at nx hv ⊢
    generalize rs.getD j 0 = c at q1 nx
    have hc := (flip8 f c).toNat_lt
    have xb := xorB (f := f) (c := c)
    have w1 := shl_or (m := v) (x := (flip8 f c).toNat) (by omega) (by omega)
    have w2 : IntKind.u64.wrap (((flip8 f c).toNat : Int)) = ((flip8 f c).toNat : Int) := by rw [IntKind.wrap_u64]; omega
    simp +contextual only [x19,bytesD_len,hlt,Int.ofNat_lt,q1,xb,w1,w2,wrap_succ (show j ≤ big by omega),↓U19,↓XP,XQ,XM,cellsOf,okc,one1,resOne,resAll,eqCells,cellEq,fits,sameK,ne_eq,ite_true,ite_false,Nat.reduceSub,Nat.reduceAdd,Nat.reduceMul,Nat.reduceEqDiff,Nat.reduceLeDiff,Nat.reduceBEq,reduceCtorEq,TYX]
    exact fun _ => ⟨by decide,nx _ ⟨rfl,rfl,rfl,rfl,rfl,rfl,rfl,trivial⟩⟩
  · have hik : j = rs.length := by omega
    subst hik
    clear hN
    rw [List.take_length]
    simp +contextual only [x19,bytesD_len,↓U19,↓XP,XQ,XM,cellsOf,okc,one1,resOne,resAll,eqCells,cellEq,fits,sameK,ne_eq,ite_true,ite_false,Nat.reduceSub,Nat.reduceAdd,Nat.reduceMul,Nat.reduceEqDiff,Nat.reduceLeDiff,Nat.reduceBEq,reduceCtorEq,TYX]
    exact hE' _ _ _ (hE _ ⟨rfl,rfl,rfl,rfl,trivial⟩)
theorem w_gi {c : UInt8} {r : List UInt8} {xs : List (List D)} {H : AH} {F : List D} {R : D → AH → Prop} (hF : Fr 71 [(0,.slc xs),(5,.int .u8 (flI (turned c))),(6,.int .i64 (tailN c : Int))] F) (hl : xs.length = r.length + 1) (h1 : ∀ x ∈ xs,x.length = 1) (hL : r.length + 1 ≤ big)
    (q1 : 0 < r.length → xs.getD 1 [] = [.int .u8 ((r.getD 0 0).toNat : Int)]) (hx2 : (xs.take (tailN c + 1)).drop 1 = (r.take (tailN c)).map byteD)
    (hk : ∀ t,decInt (c :: r) = t → R (.tup [.int .i64 t.1,.int .i64 (t.2.1 : Int),.int .i64 t.2.2]) H) : xcode Tryd.prog x19_s14 F H (retQ Tryd.prog [.tmp 2,.tmp 3,.tmp 4] H.length R) := by
  have hbig := big_eq
  obtain ⟨z,rfl⟩ : ∃ z : Nat → D,_ = [.slc xs,z 1,z 2,z 3,z 4,.int .u8 (flI (turned c)),.int .i64 (tailN c : Int),z 7,z 8,z 9,z 10,z 11,z 12,z 13,z 14,z 15,z 16,z 17,z 18,z 19,z 20,z 21,z 22,z 23,z 24,z 25,z 26,z 27,z 28,z 29,z 30,z 31,z 32,z 33,z 34,z 35,z 36,z 37,z 38,z 39,z 40,z 41,z 42,z 43,z 44,z 45,z 46,z 47,z 48,z 49,z 50,z 51,z 52,z 53,z 54,z 55,z 56,z 57,z 58,z 59,z 60,z 61,z 62,z 63,z 64,z 65,z 66,z 67,z 68,z 69,z 70] := hF.lit
  clear hF
  unfold decInt at hk
  dsimp only at hk
  unfold body at hk
  have hc := c.toNat_lt
  have tl : tailN c ≤ 127 := by unfold tailN; split <;> omega
  by_cases c1 : 8 < tailN c
  · simp +contextual only [x19,bytesD_len,show ((8 : Int) < (tailN c : Int)) = True from eq_true (by omega),↓U19,↓XP,XQ,XM,cellsOf,okc,one1,resOne,resAll,eqCells,cellEq,fits,sameK,ne_eq,ite_true,ite_false,Nat.reduceSub,Nat.reduceAdd,Nat.reduceMul,Nat.reduceEqDiff,Nat.reduceLeDiff,Nat.reduceBEq,reduceCtorEq,TYX]
    exact hk _ (by rw [if_pos c1])
  rw [if_neg c1] at hk
  by_cases c2 : r.length < tailN c
  · simp +contextual only [x19,bytesD_len,show ((8 : Int) < (tailN c : Int)) = False from eq_false (by omega),hl,show (((r.length + 1 : Nat) : Int) ≤ (tailN c : Int)) = True from eq_true (by omega),↓U19,↓XP,XQ,XM,cellsOf,okc,one1,resOne,resAll,eqCells,cellEq,fits,sameK,ne_eq,ite_true,ite_false,Nat.reduceSub,Nat.reduceAdd,Nat.reduceMul,Nat.reduceEqDiff,Nat.reduceLeDiff,Nat.reduceBEq,reduceCtorEq,TYX]
    exact fun _ => hk _ (by rw [if_pos c2])
  rw [if_neg c2] at hk
  have wk : IntKind.i64.wrap ((tailN c : Int) + 1) = ((tailN c + 1 : Nat) : Int) := by rw [wrap_id (by omega) (by omega)]; omega
  have tl2 : (r.take (tailN c)).length = tailN c := by simp; omega
  have fin : ¬ (0 < tailN c ∧ flip8 (turned c) (r.getD 0 0) = 0) → ∀ F,Fr 71 [(5,.int .u8 (flI (turned c))),(6,.int .i64 (tailN c : Int)),(7,.int .u64 0),(46,.slc ((r.take (tailN c)).map byteD)),(47,.int .i64 (tailN c : Int)),(48,.int .i64 0)] F → XW Tryd.prog x19_L8 F H (blockQ 1 (seqQ Tryd.prog x19_s12 (retQ Tryd.prog [.tmp 2,.tmp 3,.tmp 4] H.length R))) := by
    intro hno F hF
    rw [if_neg hno] at hk
    refine w_gl (f := turned c) (k6 := .int .i64 (tailN c : Int)) (rs := r.take (tailN c)) (by omega) (by rw [tl2]; exact hF) fun F' hF' => ?_
    obtain ⟨z,rfl⟩ : ∃ z : Nat → D,_ = [z 0,z 1,z 2,z 3,z 4,.int .u8 (flI (turned c)),.int .i64 (tailN c : Int),.int .u64 (val ((r.take (tailN c)).map (flip8 (turned c))) : Int),z 8,z 9,z 10,z 11,z 12,z 13,z 14,z 15,z 16,z 17,z 18,z 19,z 20,z 21,z 22,z 23,z 24,z 25,z 26,z 27,z 28,z 29,z 30,z 31,z 32,z 33,z 34,z 35,z 36,z 37,z 38,z 39,z 40,z 41,z 42,z 43,z 44,z 45,z 46,z 47,z 48,z 49,z 50,z 51,z 52,z 53,z 54,z 55,z 56,z 57,z 58,z 59,z 60,z 61,z 62,z 63,z 64,z 65,z 66,z 67,z 68,z 69,z 70] := hF'.lit
    clear hF' hF
    have hv := val_lt ((r.take (tailN c)).map (flip8 (turned c)))
    have hv2 : val ((r.take (tailN c)).map (flip8 (turned c))) < 256 ^ 8 := Nat.lt_of_lt_of_le hv (Nat.pow_le_pow_right (by omega) (by simp; omega))
    generalize val ((r.take (tailN c)).map (flip8 (turned c))) = v at hk hv2 ⊢
    have e63 : ((v : Int)).fdiv (2 ^ (min ((63 : Int).toNat) IntKind.u64.bits)) = ((v / 9223372036854775808 : Nat) : Int) := by
      rw [show (2 : Int) ^ (min ((63 : Int).toNat) IntKind.u64.bits) = 9223372036854775808 from rfl,Int.fdiv_eq_ediv_of_nonneg _ (by omega)]
      omega
    by_cases c5 : 9223372036854775808 ≤ v
    · have hz : ((0 : Int) < ((v / 9223372036854775808 : Nat) : Int)) = True := eq_true (by omega)
      simp +contextual only [x19,bytesD_len,e63,hz,↓U19,↓XP,XQ,XM,cellsOf,okc,one1,resOne,resAll,eqCells,cellEq,fits,sameK,ne_eq,ite_true,ite_false,Nat.reduceSub,Nat.reduceAdd,Nat.reduceMul,Nat.reduceEqDiff,Nat.reduceLeDiff,Nat.reduceBEq,reduceCtorEq,TYX]
      exact ⟨by decide,hk _ (by rw [if_pos c5])⟩
    · have hz : ((0 : Int) < ((v / 9223372036854775808 : Nat) : Int)) = False := eq_false (by omega)
      rw [if_neg c5] at hk
      cases ht : turned c with
      | true =>
        have ux : bits .xor .u64 (if IntKind.u64.signed = true then -1 else IntKind.u64.max) (v : Int) = ((18446744073709551615 - v : Nat) : Int) := by
          rw [show (if IntKind.u64.signed = true then (-1 : Int) else IntKind.u64.max) = ((18446744073709551615 : Nat) : Int) from rfl,u64_xor_nat _ _ (by omega) (by omega),not64 (by omega)]
        have wv : IntKind.i64.wrap ((18446744073709551615 - v : Nat) : Int) = -1 - (v : Int) := by rw [IntKind.wrap_i64]; omega
        simp +contextual only [x19,bytesD_len,e63,hz,ht,show flI true = 255 from rfl,show ((0 : Int) < 255) = True from eq_true (by omega),ux,wv,wk,↓U19,↓XP,XQ,XM,cellsOf,okc,one1,resOne,resAll,eqCells,cellEq,fits,sameK,ne_eq,ite_true,ite_false,Nat.reduceSub,Nat.reduceAdd,Nat.reduceMul,Nat.reduceEqDiff,Nat.reduceLeDiff,Nat.reduceBEq,reduceCtorEq,TYX]
        have hk2 := hk _ rfl
        rw [ht] at hk2
        exact ⟨by decide,hk2⟩
      | false =>
        have wv : IntKind.i64.wrap (v : Int) = (v : Int) := by rw [IntKind.wrap_i64]; omega
        simp +contextual only [x19,bytesD_len,e63,hz,ht,show flI false = 0 from rfl,show ((0 : Int) < 0) = False from eq_false (by omega),wv,wk,↓U19,↓XP,XQ,XM,cellsOf,okc,one1,resOne,resAll,eqCells,cellEq,fits,sameK,ne_eq,ite_true,ite_false,Nat.reduceSub,Nat.reduceAdd,Nat.reduceMul,Nat.reduceEqDiff,Nat.reduceLeDiff,Nat.reduceBEq,reduceCtorEq,TYX]
        have hk2 := hk _ rfl
        rw [ht] at hk2
        exact ⟨by decide,hk2⟩
  have k1 : ((1 : Int) ≤ ((tailN c + 1 : Nat) : Int)) = True := eq_true (by omega)
  have k2 : (((tailN c + 1 : Nat) : Int) ≤ ((r.length + 1 : Nat) : Int)) = True := eq_true (by omega)
  by_cases c3 : 0 < tailN c
  · have q1' := q1 (by omega)
    have xb := xorB (f := turned c) (c := r.getD 0 0)
    by_cases c4 : flip8 (turned c) (r.getD 0 0) = 0
    · rw [c4,show (((UInt8.toNat 0 : Nat) : Int)) = 0 from rfl] at xb
      simp +contextual only [x19,bytesD_len,show ((8 : Int) < (tailN c : Int)) = False from eq_false (by omega),hl,show (((r.length + 1 : Nat) : Int) ≤ (tailN c : Int)) = False from eq_false (by omega),show ((0 : Int) < (tailN c : Int)) = True from eq_true (by omega),show ((1 : Int)).toNat = 1 from rfl,show ((0 : Int) ≤ 1) = True from eq_true (by omega),q1',xb,show (1 < ((r.length + 1 : Nat) : Int)) = True from eq_true (by omega),↓U19,↓XP,XQ,XM,cellsOf,okc,one1,resOne,resAll,eqCells,cellEq,fits,sameK,ne_eq,ite_true,ite_false,Nat.reduceSub,Nat.reduceAdd,Nat.reduceMul,Nat.reduceEqDiff,Nat.reduceLeDiff,Nat.reduceBEq,reduceCtorEq,TYX]
      exact fun _ _ => hk _ (by rw [if_pos ⟨c3,c4⟩])
    · have xz : ((((flip8 (turned c) (r.getD 0 0)).toNat : Nat) : Int) = 0) = False := eq_false (fun h => c4 (UInt8.toNat_inj.1 (by simpa using h)))
      simp +contextual only [x19,bytesD_len,show ((8 : Int) < (tailN c : Int)) = False from eq_false (by omega),hl,show (((r.length + 1 : Nat) : Int) ≤ (tailN c : Int)) = False from eq_false (by omega),show ((0 : Int) < (tailN c : Int)) = True from eq_true (by omega),show ((1 : Int)).toNat = 1 from rfl,show ((0 : Int) ≤ 1) = True from eq_true (by omega),q1',xb,xz,show (1 < ((r.length + 1 : Nat) : Int)) = True from eq_true (by omega),wk,h1,k1,k2,hx2,tl2,↓U19,↓XP,XQ,XM,cellsOf,okc,one1,resOne,resAll,eqCells,cellEq,fits,sameK,ne_eq,ite_true,ite_false,Nat.reduceSub,Nat.reduceAdd,Nat.reduceMul,Nat.reduceEqDiff,Nat.reduceLeDiff,Nat.reduceBEq,reduceCtorEq,TYX]
      exact fun _ _ _ => fin (fun h => c4 h.2) _ ⟨rfl,rfl,rfl,rfl,rfl,rfl,rfl,trivial⟩
  · simp +contextual only [x19,bytesD_len,show ((8 : Int) < (tailN c : Int)) = False from eq_false (by omega),hl,show (((r.length + 1 : Nat) : Int) ≤ (tailN c : Int)) = False from eq_false (by omega),show ((0 : Int) < (tailN c : Int)) = False from eq_false (by omega),show ((1 : Int)).toNat = 1 from rfl,show ((0 : Int) ≤ 1) = True from eq_true (by omega),wk,h1,k1,k2,hx2,tl2,↓U19,↓XP,XQ,XM,cellsOf,okc,one1,resOne,resAll,eqCells,cellEq,fits,sameK,ne_eq,ite_true,ite_false,Nat.reduceSub,Nat.reduceAdd,Nat.reduceMul,Nat.reduceEqDiff,Nat.reduceLeDiff,Nat.reduceBEq,reduceCtorEq,TYX]
    exact fun _ _ => fin (fun h => c3 h.1) _ ⟨rfl,rfl,rfl,rfl,rfl,rfl,rfl,trivial⟩
theorem f_wGetInt {b : List UInt8} {H : AH} {R : D → AH → Prop} (h : R (.tup [.int .i64 (decInt b).1,.int .i64 ((decInt b).2.1 : Int),.int .i64 (decInt b).2.2]) H) : ACall Tryd.prog 19 [.slc (b.map byteD)] H R := by
  refine b19 fun hf => ?_
  have hbig := big_eq
  rcases hb : b with _ | ⟨c,r⟩
  · subst hb
    simp +contextual only [x19,x19_s17,u19_s17,x19_s16,u19_s16,u19_s15,u19_s0,bytesD_len,List.length_nil,show ((((0 : Nat) : Int)) = 0) = True from eq_true rfl,↓XP,XQ,XM,cellsOf,okc,one1,resOne,resAll,eqCells,cellEq,fits,sameK,ne_eq,ite_true,ite_false,Nat.reduceSub,Nat.reduceAdd,Nat.reduceMul,Nat.reduceEqDiff,Nat.reduceLeDiff,Nat.reduceBEq,reduceCtorEq,TYX]
    exact fun _ => h
  have hk : ∀ t,decInt (c :: r) = t → R (.tup [.int .i64 t.1,.int .i64 (t.2.1 : Int),.int .i64 t.2.2]) H := fun t ht => by rw [← ht,← hb]; exact h
  clear h
  have q0 := bytes_get (l := c :: r) (i := 0) (by simp)
  have q1 : 0 < r.length → ((c :: r).map byteD).getD 1 [] = [.int .u8 ((r.getD 0 0).toNat : Int)] := fun h => by rw [bytes_get (by simp; omega)]; rfl
  simp only [List.getD_cons_zero] at q0
  have hl : ((c :: r).map byteD).length = r.length + 1 := by simp
  have hx2 : (((c :: r).map byteD).take (tailN c + 1)).drop 1 = (r.take (tailN c)).map byteD := by rw [← List.map_take]; rfl
  have h1 : ∀ x ∈ (c :: r).map byteD,x.length = 1 := bytes_1
  generalize ((c :: r).map byteD) = xs at q0 q1 hl hx2 hf h1 ⊢
  have hz : (((r.length + 1 : Nat) : Int) = 0) = False := eq_false (by omega)
  have hz2 : ((0 : Int) < ((r.length + 1 : Nat) : Int)) = True := eq_true (by omega)
  have h8 := flip_turned c
  have hc := c.toNat_lt
  have w1 := (flip8 (turned c) c).toNat_lt
  have w2 : IntKind.i64.wrap (((flip8 (turned c) c).toNat : Int) - 128) = (tailN c : Int) := by rw [h8]; unfold tailN; exact wrap_id (by split <;> omega) (by split <;> omega)
  have w3 : IntKind.i64.wrap (((flip8 (turned c) c).toNat : Int)) = ((flip8 (turned c) c).toNat : Int) := wrap_id (by omega) (by omega)
  have xb := xorB (f := turned c) (c := c)
  by_cases c1 : c.toNat < 128
  · have ft : flI (turned c) = 255 := by rw [turned,decide_eq_true c1]; rfl
    have c1' : ((c.toNat : Int) < 128) = True := eq_true (by omega)
    rw [ft] at xb
    simp +contextual only [x19,x19_s17,u19_s17,x19_s16,u19_s16,u19_s15,u19_s0,bytesD_len,q0,hl,hz,hz2,c1',xb,w3,w2,Int.reduceToNat,Int.reduceLE,↓XP,XQ,XM,cellsOf,okc,one1,resOne,resAll,eqCells,cellEq,fits,sameK,ne_eq,ite_true,ite_false,Nat.reduceSub,Nat.reduceAdd,Nat.reduceMul,Nat.reduceEqDiff,Nat.reduceLeDiff,Nat.reduceBEq,reduceCtorEq,TYX]
    refine fun hlb _ => w_gi ⟨rfl,rfl,congrArg (fun x => some (D.int .u8 x)) ft.symm,rfl,trivial⟩ hl h1 hlb q1 hx2 hk
  · have ft : flI (turned c) = 0 := by rw [turned,decide_eq_false c1]; rfl
    have c1' : ((c.toNat : Int) < 128) = False := eq_false (by omega)
    rw [ft] at xb
    simp +contextual only [x19,x19_s17,u19_s17,x19_s16,u19_s16,u19_s15,u19_s0,bytesD_len,q0,hl,hz,hz2,c1',xb,w3,w2,Int.reduceToNat,Int.reduceLE,↓XP,XQ,XM,cellsOf,okc,one1,resOne,resAll,eqCells,cellEq,fits,sameK,ne_eq,ite_true,ite_false,Nat.reduceSub,Nat.reduceAdd,Nat.reduceMul,Nat.reduceEqDiff,Nat.reduceLeDiff,Nat.reduceBEq,reduceCtorEq,TYX]
    refine fun hlb _ => w_gi ⟨rfl,rfl,congrArg (fun x => some (D.int .u8 x)) ft.symm,rfl,trivial⟩ hl h1 hlb q1 hx2 hk
end Go.Proofs.YtoeckfegggongaaDoor
end
