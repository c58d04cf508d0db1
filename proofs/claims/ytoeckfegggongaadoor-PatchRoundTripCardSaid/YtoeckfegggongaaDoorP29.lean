/- A part of the proof of what the last text says: Gn5, Gn6, Gn2, Gn7, Gs3, Gs4. Conditions: those in each theorem. -/
import Derived.Test.YtoeckfegggongaaDoorP28
import Derived.KernelRfl
set_option linter.unusedVariables false
set_option linter.unusedSimpArgs false
set_option maxRecDepth 100000
set_option maxHeartbeats 16000000
section
namespace Go.Proofs.YtoeckfegggongaaDoor
open Go Go.Aw
theorem n_steps {x : Gs} {seen : List Bool} {p : Pt} {m : List Int} {b3 b6 b8 : Nat} {c6 : AO} {H : AH} {Q : AQ} {F : List D} (hx : GInv x) (hb : x.l.length ≤ 20) (hs : seen.length = x.l.length) (hp : p.ops = []) (hv : VOk x seen p) (n38 : b3 ≠ b8) (n36 : b3 ≠ b6) (n68 : b6 ≠ b8)
    (hF : Fr 139 [(2,.slc (ints m)),(3,.ptr b3 0),(6,.ptr b6 0),(8,.ptr b8 0),(9,.slc (boolsD seen)),(13,.int .i64 0)] F) (hE : ∀ F',Fr 139 [(2,.slc (ints m)),(3,.ptr b3 0),(6,.ptr b6 0),(8,.ptr b8 0),(9,.slc (boolsD seen))] F' → ∀ i,i = 1 + atN m 5 2 → Q (.exit 4) F' ((b8,AO.cells (nextSteps x seen p m i).d) :: (b6,c6) :: (b3,AO.cells [.own (ptsD x.l),.own (pastD x.past)]) :: H)) :
    ∀ i,i = 0 → XW Tryd.prog x30_L14 F ((b8,AO.cells (nextSteps x seen p m i).d) :: (b6,c6) :: (b3,AO.cells [.own (ptsD x.l),.own (pastD x.past)]) :: H) Q := by
  intro i0 hi0
  have hbig := big_eq
  have a5 := atOf_range (l := m) (i := 5) (most := 2) (by omega)
  obtain ⟨n,hn⟩ : ∃ n : Nat,1 + atN m 5 2 = n := ⟨_,rfl⟩
  have hn2 : n ≤ 2 := by unfold atN at hn; omega
  have hne : 1 + atOf m 5 2 = (n : Int) := by unfold atN at hn; omega
  have w1 : IntKind.i64.wrap (1 + atOf m 5 2) = (n : Int) := by rw [hne]; exact wrap_id (by omega) (by omega)
  refine XW.loopK hm (fun F H' => ∃ (i : Nat),i ≤ n ∧ Fr 139 [(2,.slc (ints m)),(3,.ptr b3 0),(6,.ptr b6 0),(8,.ptr b8 0),(9,.slc (boolsD seen)),(13,.int .i64 (i : Int))] F ∧ ((b8,AO.cells (nextSteps x seen p m i).d) :: (b6,c6) :: (b3,AO.cells [.own (ptsD x.l),.own (pastD x.past)]) :: H) = H') (fun F H => match F.getD 13 .any with | .int _ n' => n - n'.toNat | _ => 0) ⟨0,by omega,hF,by rw [hi0]⟩ ?_
  clear hF hi0
  rintro _ _ ⟨i,hi,hF,rfl⟩ K hN hE' hR
  obtain ⟨z,rfl⟩ : ∃ z : Nat → D,_ = [z 0,z 1,.slc (ints m),.ptr b3 0,z 4,z 5,.ptr b6 0,z 7,.ptr b8 0,.slc (boolsD seen),z 10,z 11,z 12,.int .i64 (i : Int),z 14,z 15,z 16,z 17,z 18,z 19,z 20,z 21,z 22,z 23,z 24,z 25,z 26,z 27,z 28,z 29,z 30,z 31,z 32,z 33,z 34,z 35,z 36,z 37,z 38,z 39,z 40,z 41,z 42,z 43,z 44,z 45,z 46,z 47,z 48,z 49,z 50,z 51,z 52,z 53,z 54,z 55,z 56,z 57,z 58,z 59,z 60,z 61,z 62,z 63,z 64,z 65,z 66,z 67,z 68,z 69,z 70,z 71,z 72,z 73,z 74,z 75,z 76,z 77,z 78,z 79,z 80,z 81,z 82,z 83,z 84,z 85,z 86,z 87,z 88,z 89,z 90,z 91,z 92,z 93,z 94,z 95,z 96,z 97,z 98,z 99,z 100,z 101,z 102,z 103,z 104,z 105,z 106,z 107,z 108,z 109,z 110,z 111,z 112,z 113,z 114,z 115,z 116,z 117,z 118,z 119,z 120,z 121,z 122,z 123,z 124,z 125,z 126,z 127,z 128,z 129,z 130,z 131,z 132,z 133,z 134,z 135,z 136,z 137,z 138] := hF.lit
  clear hF hR
  by_cases hlt : i < n
  · have nx : ∀ F',Fr 139 [(2,.slc (ints m)),(3,.ptr b3 0),(6,.ptr b6 0),(8,.ptr b8 0),(9,.slc (boolsD seen)),(13,.int .i64 ((i + 1 : Nat) : Int))] F' → ∀ j,j = i + 1 → K .normal F' ((b8,AO.cells (nextSteps x seen p m j).d) :: (b6,c6) :: (b3,AO.cells [.own (ptsD x.l),.own (pastD x.past)]) :: H) := fun F' hF' j hj => hN _ _ ⟨i + 1,hlt,hF',by rw [hj]; exact (back_0 rfl).symm⟩ (by
      rw [List.getD_eq_getElem?_getD,hF'.2.2.2.2.2.2.1]
      simp only [List.getD_cons_succ,List.getD_cons_zero,Option.getD_some]
      omega)
    have nx2 := nx
    clear hN hE' hE nx
    obtain ⟨more,g1,g2⟩ := steps_inv (x := x) (seen := seen) (p := p) (m := m) hp hv i
    have nx := fun F' hF' => nx2 F' hF' (i + 1) rfl
    simp only [nextSteps] at nx
    clear nx2
    generalize nextSteps x seen p m i = q at g1 g2 nx ⊢
    have hqo : q.ops = more := by rw [g1.eq]; simp only [hp,List.nil_append]
    have hql := g1.len
    have hqk := g1.ok
    rw [← hqo] at hql hqk
    have hspl := splits_ok hx (seen := seen) (p := q) hqk
    have w2 : IntKind.i64.wrap (13 * (i : Int)) = 13 * (i : Int) := wrap_id (by omega) (by omega)
    have w3 : IntKind.i64.wrap (6 + 13 * (i : Int)) = ((6 + 13 * i : Nat) : Int) := by rw [wrap_id (by omega) (by omega)]; omega
    have hd : q.d = [.int .i64 q.o,.int .i64 q.s,.int .i64 q.day,.slc (refsD q.needs),.slc (opsD q.ops),.str q.sl] := rfl
    simp +contextual only [h_miss,h_skip,n38,n36,n68,x30,↓U30,↓XP,XQ,XM,cellsOf,okc,one1,resOne,resAll,eqCells,cellEq,fits,sameK,ne_eq,ite_true,ite_false,Nat.reduceSub,Nat.reduceAdd,Nat.reduceMul,Nat.reduceEqDiff,Nat.reduceLeDiff,Nat.reduceBEq,reduceCtorEq,TYX]
    refine f_at (i := 5) (by omega) ?_
    simp +contextual only [h_miss,h_skip,n38,n36,n68,x30,w1,hd,↓U30,↓XP,XQ,XM,cellsOf,okc,one1,resOne,resAll,eqCells,cellEq,fits,sameK,ne_eq,ite_true,ite_false,Nat.reduceSub,Nat.reduceAdd,Nat.reduceMul,Nat.reduceEqDiff,Nat.reduceLeDiff,Nat.reduceBEq,reduceCtorEq,TYX]
    refine fun _ => ⟨fun _ => ?_,fun hge => absurd (by omega) hge⟩
    simp +contextual only [h_miss,h_skip,n38,n36,n68,x30,w2,w3,hd,↓U30,↓XP,XQ,XM,cellsOf,okc,one1,resOne,resAll,eqCells,cellEq,fits,sameK,ne_eq,ite_true,ite_false,Nat.reduceSub,Nat.reduceAdd,Nat.reduceMul,Nat.reduceEqDiff,Nat.reduceLeDiff,Nat.reduceBEq,reduceCtorEq,TYX]
    refine ⟨_,f_rest ⟨rfl,rfl⟩,?_⟩
    simp +contextual only [h_miss,h_skip,n38,n36,n68,x30,hd,↓U30,↓XP,XQ,XM,cellsOf,okc,one1,resOne,resAll,eqCells,cellEq,fits,sameK,ne_eq,ite_true,ite_false,Nat.reduceSub,Nat.reduceAdd,Nat.reduceMul,Nat.reduceEqDiff,Nat.reduceLeDiff,Nat.reduceBEq,reduceCtorEq,TYX]
    refine fun _ => ⟨_,f_step (x := x) (p := q) (by omega) (by omega) (fun q hq => by have := hx.op q hq; omega) (by omega) g2 hspl ⟨rfl,rfl⟩,?_⟩
    generalize step x seen q (List.drop (6 + 13 * i) m) = p3 at nx ⊢
    have hd3 : p3.d = [.int .i64 p3.o,.int .i64 p3.s,.int .i64 p3.day,.slc (refsD p3.needs),.slc (opsD p3.ops),.str p3.sl] := rfl
    simp only [hd3] at nx
    simp +contextual only [h_miss,h_skip,n38,n36,n68,x30,hd,hd3,wrap_succ (show i ≤ big by omega),↓U30,↓XP,XQ,XM,cellsOf,okc,one1,resOne,resAll,eqCells,cellEq,fits,sameK,ne_eq,ite_true,ite_false,Nat.reduceSub,Nat.reduceAdd,Nat.reduceMul,Nat.reduceEqDiff,Nat.reduceLeDiff,Nat.reduceBEq,reduceCtorEq,TYX]
    exact nx _ ⟨rfl,rfl,rfl,rfl,rfl,rfl,rfl,trivial⟩
  · have hik : i = n := by omega
    subst hik
    clear hN
    simp +contextual only [h_miss,h_skip,n38,n36,n68,x30,↓U30,↓XP,XQ,XM,cellsOf,okc,one1,resOne,resAll,eqCells,cellEq,fits,sameK,ne_eq,ite_true,ite_false,Nat.reduceSub,Nat.reduceAdd,Nat.reduceMul,Nat.reduceEqDiff,Nat.reduceLeDiff,Nat.reduceBEq,reduceCtorEq,TYX]
    refine f_at (i := 5) (by omega) ?_
    simp +contextual only [h_miss,h_skip,n38,n36,n68,x30,w1,↓U30,↓XP,XQ,XM,cellsOf,okc,one1,resOne,resAll,eqCells,cellEq,fits,sameK,ne_eq,ite_true,ite_false,Nat.reduceSub,Nat.reduceAdd,Nat.reduceMul,Nat.reduceEqDiff,Nat.reduceLeDiff,Nat.reduceBEq,reduceCtorEq,TYX]
    exact fun _ => hE' _ _ _ (hE _ ⟨rfl,rfl,rfl,rfl,rfl,rfl,trivial⟩ _ hn.symm)
theorem dropR_cons {H : AH} {c b : Nat} {o : AO} {xs : List (List D)} (h : xs ≠ [] → b ≠ c) : dropR ((c,o) :: H) b xs = (c,o) :: dropR H b xs := by
  unfold dropR
  split
  · rfl
  · rename_i hx
    rw [e_miss (h hx)]
theorem dropR_get {H : AH} {b c : Nat} {o : AO} {xs : List (List D)} (h : xs ≠ [] → c ≠ b) (hg : getH H c = some o) : getH (dropR H b xs) c = some o := by
  unfold dropR
  split
  · exact hg
  · rename_i hx
    have hne := h hx
    induction H with
    | nil => cases hg
    | cons p r ih =>
      obtain ⟨e,o'⟩ := p
      unfold eraseH
      by_cases he : b = e
      · rw [if_pos he]
        subst he
        rwa [h_miss hne] at hg
      · rw [if_neg he]
        by_cases hc : c = e
        · subst hc
          rw [h_hit] at hg ⊢
          exact hg
        · rw [h_miss hc] at hg ⊢
          exact ih hg
theorem Gz.take2 {F : List D} {k : List D → AH → Prop} {H : AH} {b3 b6 : Nat} {c6 : AO} {bl cl bp cp : Nat} {xs ys : List (List D)} (h3 : freshH H b3) (h6 : freshH H b6) (hl : xs ≠ [] → getH H bl = some (.room cl xs)) (hp : ys ≠ [] → getH H bp = some (.room cp ys)) (hne : xs ≠ [] → ys ≠ [] → bl ≠ bp)
    (h : ∀ Hr : AH,Hr = dropR (dropR H bl xs) bp ys → Hr.Sublist H → k F ((b6,c6) :: (b3,.cells [.own xs,.own ys]) :: Hr)) : Gz F ((b6,c6) :: (b3,.cells [.osl bl cl xs,.osl bp cp ys]) :: H) k := by
  have f3 : ∀ {b o},getH H b = some o → b ≠ b3 := fun hg => fresh_ne h3 hg
  have f6 : ∀ {b o},getH H b = some o → b ≠ b6 := fun hg => fresh_ne h6 hg
  refine Gz.bind (k := fun F' H' => F' = F ∧ H' = (b3,.cells [.osl bl cl xs,.osl bp cp ys]) :: (b6,c6) :: H) (Gz.sb (fun hn => ?_) ⟨rfl,rfl⟩) ?_
  · refine ⟨?_,fun p hp => ?_⟩
    · simp only [List.map_cons,List.nodup_cons,List.mem_cons,not_or] at hn ⊢
      exact ⟨⟨fun e => hn.1.1 e.symm,hn.2.1⟩,hn.1.2,hn.2.2⟩
    · simp only [List.mem_cons] at hp ⊢
      rcases hp with h | h | h
      · exact .inr (.inl h)
      · exact .inl h
      · exact .inr (.inr h)
  intro F2 H2 hh
  rw [hh.1,hh.2]
  clear hh
  refine Gz.bind (k := fun F'' H'' => F'' = F ∧ H'' = (b3,.cells [.own xs,.osl bp cp ys]) :: (b6,c6) :: dropR H bl xs) (Gz.take (j := 0) rfl (fun hx => by rw [h_miss (f6 (hl hx))]; exact hl hx) ⟨rfl,by rw [dropR_cons (fun hx => f6 (hl hx))]; rfl⟩) ?_
  intro F2 H2 hh
  rw [hh.1,hh.2]
  clear hh
  have hp2 : ys ≠ [] → getH (dropR H bl xs) bp = some (.room cp ys) := fun hy => dropR_get (fun hx => (hne hx hy).symm) (hp hy)
  refine Gz.bind (k := fun F'' H'' => F'' = F ∧ H'' = (b3,.cells [.own xs,.own ys]) :: (b6,c6) :: dropR (dropR H bl xs) bp ys) (Gz.take (j := 1) rfl (fun hy => by rw [h_miss (f6 (hp hy))]; exact hp2 hy) ⟨rfl,by rw [dropR_cons (fun hy => f6 (hp hy))]; rfl⟩) ?_
  intro F2 H2 hh
  rw [hh.1,hh.2]
  clear hh
  refine Gz.sb (fun hn => ?_) (h (dropR (dropR H bl xs) bp ys) rfl (dropR_sub.trans dropR_sub))
  refine ⟨?_,fun p hp => ?_⟩
  · simp only [List.map_cons,List.nodup_cons,List.mem_cons,not_or] at hn ⊢
    exact ⟨⟨fun e => hn.1.1 e.symm,hn.2.1⟩,hn.1.2,hn.2.2⟩
  · simp only [List.mem_cons] at hp ⊢
    rcases hp with h | h | h
    · exact .inr (.inl h)
    · exact .inl h
    · exact .inr (.inr h)
theorem Gz.view1 {F : List D} {k : List D → AH → Prop} {H : AH} {bx : Nat} {cs : List D} (hg : getH H bx = some (.cells cs)) (h : k F (setH H bx (.cells (cs.map D.view1)))) : Gz F H k := by
  intro K w t hs
  refine ⟨F,_,K,h,.refl K w,hs.krel,⟨by rw [keys_set]; exact hs.hrel.nd,fun c' o' hm' => ?_⟩,hs.len,hs.slot⟩
  rcases mem_set hs.hrel.nd hm' with ⟨rfl,rfl⟩ | ⟨hne,hm'⟩
  · obtain ⟨hpb,c,T,hb,hcs,hrc⟩ := hs.hrel.ok c' _ (getH_mem hg)
    refine ⟨hpb,c,T,hb,by simpa using hcs,fun j d hd => ?_⟩
    rw [List.getElem?_map,Option.map_eq_some_iff] at hd
    obtain ⟨d',e1,rfl⟩ := hd
    obtain ⟨u,f1,f2,f3⟩ := hrc j d' e1
    refine ⟨u,f1,f2,?_⟩
    cases d' <;> first | exact f3 | exact OwnAt.rep f3
  · exact hs.hrel.ok c' o' hm'
theorem sub_fresh {H Hr : AH} {b : Nat} (h : freshH H b) (hs : Hr.Sublist H) : freshH Hr b := freshH_of fun x hx => freshH_mem h (hs.subset hx)
end Go.Proofs.YtoeckfegggongaaDoor
end
section
namespace Go.Proofs.YtoeckfegggongaaDoor
open Go Go.Aw
theorem rep_bools {n : Nat} : (List.replicate n [D.bool false]).flatten = (List.replicate n false).map D.bool := by
  induction n with
  | zero => rfl
  | succ n ih => rw [List.replicate_succ,List.replicate_succ,List.flatten_cons,ih]; rfl
theorem bools_flat {l : List Bool} : l.map D.bool = (boolsD l).flatten ++ [] := by
  induction l with
  | nil => rfl
  | cons b r ih => simp only [List.map_cons,boolsD,List.flatten_cons,List.cons_append,List.nil_append]; rw [ih]; simp [boolsD]
theorem dropR_nil {H : AH} {b : Nat} : dropR H b [] = H := by simp [dropR]
theorem Gz.then {F : List D} {H : AH} {k : List D → AH → Prop} (h : Gz F H fun F' H' => Gz F' H' k) : Gz F H k := Gz.bind h fun _ _ h => h
theorem bytes4 : (Tryd.prog.info? 4).map (·.bytes) = some 1 := by kernel_rfl
theorem info4 {n : Int} (h : n ≤ 1000) : match Tryd.prog.info? 4 with | some i => (i.bytes : Int) * n ≤ 140737488355328 ∧ n ≤ 140737488355328 | none => False := by
  have h4 := bytes4
  cases hq : Tryd.prog.info? 4 with
  | none => rw [hq] at h4; cases h4
  | some i =>
    rw [hq] at h4
    simp only [Option.map_some,Option.some.injEq] at h4
    simp only [h4]
    omega
theorem f_next {x : Gs} {offices : Nat} {m : List Int} {bl cl bp cp : Nat} {H : AH} {R : D → AH → Prop} (hx : GInv x) (hb : x.l.length ≤ 20) (hof : 1 ≤ offices) (hof' : offices ≤ 10)
    (hr1 : ptsD x.l ≠ [] → getH H bl = some (.room cl (ptsD x.l))) (hr2 : pastD x.past ≠ [] → getH H bp = some (.room cp (pastD x.past)))
    (h : ∀ bl' cl' bp' cp',bl' ≠ bp' → freshH (dropR (dropR H bl (ptsD x.l)) bp (pastD x.past)) bl' → freshH (dropR (dropR H bl (ptsD x.l)) bp (pastD x.past)) bp' → R (.agg [.osl bl' cl' (ptsD (next x offices m).l),.osl bp' cp' (pastD (next x offices m).past)]) ((bp',.room cp' (pastD (next x offices m).past)) :: (bl',.room cl' (ptsD (next x offices m).l)) :: dropR (dropR H bl (ptsD x.l)) bp (pastD x.past))) :
    ACall Tryd.prog 30 [.agg [.osl bl cl (ptsD x.l),.osl bp cp (pastD x.past)],.int .i64 offices,.slc (ints m)] H R := by
  have hbig := big_eq
  have hne : ptsD x.l ≠ [] → pastD x.past ≠ [] → bl ≠ bp := fun h1 h2 e => by
    have e1 := hr1 h1
    rw [e,hr2 h2] at e1
    injection e1 with e1
    injection e1 with e1 e2
    cases hl : x.l with
    | nil => rw [hl] at h1; exact h1 rfl
    | cons p r =>
      cases hq : x.past with
      | nil => rw [hq] at h2; exact h2 rfl
      | cons p' r' => rw [hl,hq] at e2; simp [ptsD,pastD,Pt.d] at e2
  refine r30 fun hf => ?_
  simp +contextual only [x30,h_miss,h_skip,q_retRR,k_resR,↓U30,↓XP,XQ,XM,cellsOf,okc,one1,resOne,resAll,eqCells,cellEq,fits,sameK,ne_eq,ite_true,ite_false,Nat.reduceSub,Nat.reduceAdd,Nat.reduceMul,Nat.reduceEqDiff,Nat.reduceLeDiff,Nat.reduceBEq,reduceCtorEq,TYX]
  rintro b3 h3 b6 ⟨n36,h6⟩
  rw [c_gh]
  refine Gz.take2 h3 h6 hr1 hr2 hne fun Hr hHe hHr => ?_
  rw [← hHe] at h
  simp +contextual only [x30,h_miss,h_skip,q_retRR,k_resR,↓U30,↓XP,XQ,XM,cellsOf,okc,one1,resOne,resAll,eqCells,cellEq,fits,sameK,ne_eq,ite_true,ite_false,Nat.reduceSub,Nat.reduceAdd,Nat.reduceMul,Nat.reduceEqDiff,Nat.reduceLeDiff,Nat.reduceBEq,reduceCtorEq,TYX]
  refine f_at (i := 0) (by omega) ?_
  have a0 := atOf_range (l := m) (i := 0) (most := (offices : Int)) (by omega)
  simp +contextual only [x30,h_miss,h_skip,q_retRR,k_resR,n36,↓U30,↓XP,XQ,XM,cellsOf,okc,one1,resOne,resAll,eqCells,cellEq,fits,sameK,ne_eq,ite_true,ite_false,Nat.reduceSub,Nat.reduceAdd,Nat.reduceMul,Nat.reduceEqDiff,Nat.reduceLeDiff,Nat.reduceBEq,reduceCtorEq,TYX]
  intro _ b8 hh
  obtain ⟨n68,n38,h8⟩ := hh
  rw [c_gh]
  refine Gz.then (Gz.take (j := 3) rfl (fun h => (h rfl).elim) (Gz.weak h_hit ?_))
  rw [dropR_nil]
  simp +contextual only [x30,h_miss,h_skip,q_retRR,k_resR,n36,n68,n38,D.wk,pts_len,↓U30,↓XP,XQ,XM,cellsOf,okc,one1,resOne,resAll,eqCells,cellEq,fits,sameK,ne_eq,ite_true,ite_false,Nat.reduceSub,Nat.reduceAdd,Nat.reduceMul,Nat.reduceEqDiff,Nat.reduceLeDiff,Nat.reduceBEq,reduceCtorEq,TYX]
  refine fun _ => ⟨info4 (by omega),fun b9 hh => ?_⟩
  obtain ⟨n89,n69,n39,h9⟩ := hh
  rw [rep_bools]
  have hrn := rounds_needs (x := x) (o := atOf m 0 offices) (m := m) offices
  have hri := rounds_inv hx (o := atOf m 0 offices) (m := m) offices
  refine n_outer (x := x) (offices := offices) (n := x.l.length) ⟨n39,n38,n36,n89,n69,n68⟩ hof' (by omega) rfl hx.np hx.pk (fun p hp => by have := hx.sq p hp; omega) (freshH_none h8) ⟨rfl,rfl,rfl,rfl,rfl,rfl,rfl,rfl,rfl,trivial⟩ (fun F' hF' s hs => ?_) (nextRounds x (atOf m 0 offices) m 0) rfl
  have hnx : next x offices m = ⟨x.l ++ [nextSteps x s.seen { s.p with day := s.p.day + atOf m 4 4 } m (1 + atN m 5 2)],x.past ++ [s.seen]⟩ := by rw [hs]; rfl
  rw [hnx] at h
  have hp14 := nextP_inv hx hof' (m := m)
  rw [← hs] at hrn hri hp14
  obtain ⟨z,rfl⟩ : ∃ z : Nat → D,_ = [z 0,.int .i64 offices,.slc (ints m),.ptr b3 0,z 4,z 5,.ptr b6 0,.int .i64 (atOf m 0 offices),.ptr b8 0,.hsl b9 x.l.length,z 10,z 11,z 12,z 13,z 14,z 15,z 16,z 17,z 18,z 19,z 20,z 21,z 22,z 23,z 24,z 25,z 26,z 27,z 28,z 29,z 30,z 31,z 32,z 33,z 34,z 35,z 36,z 37,z 38,z 39,z 40,z 41,z 42,z 43,z 44,z 45,z 46,z 47,z 48,z 49,z 50,z 51,z 52,z 53,z 54,z 55,z 56,z 57,z 58,z 59,z 60,z 61,z 62,z 63,z 64,z 65,z 66,z 67,z 68,z 69,z 70,z 71,z 72,z 73,z 74,z 75,z 76,z 77,z 78,z 79,z 80,z 81,z 82,z 83,z 84,z 85,z 86,z 87,z 88,z 89,z 90,z 91,z 92,z 93,z 94,z 95,z 96,z 97,z 98,z 99,z 100,z 101,z 102,z 103,z 104,z 105,z 106,z 107,z 108,z 109,z 110,z 111,z 112,z 113,z 114,z 115,z 116,z 117,z 118,z 119,z 120,z 121,z 122,z 123,z 124,z 125,z 126,z 127,z 128,z 129,z 130,z 131,z 132,z 133,z 134,z 135,z 136,z 137,z 138] := hF'.lit
  clear hF' hnx hs
  obtain ⟨g1,g2,g3,g4⟩ := hrn
  obtain ⟨i1,i2,i3,i4,i5⟩ := hri
  have hdn : s.p.dn = [.int .i64 s.p.o,.int .i64 s.p.s,.int .i64 s.p.day,.own (refsD s.p.needs),.slc [],.str []] := rfl
  have a4 := atOf_range (l := m) (i := 4) (most := 4) (by omega)
  have wd : IntKind.i64.wrap (s.p.day + atOf m 4 4) = s.p.day + atOf m 4 4 := wrap_id (by omega) (by omega)
  simp +contextual only [x30,h_miss,h_skip,q_retRR,k_resR,n36,n68,n38,n89,n69,n39,hdn,wd,↓U30,↓XP,XQ,XM,cellsOf,okc,one1,resOne,resAll,eqCells,cellEq,fits,sameK,ne_eq,ite_true,ite_false,Nat.reduceSub,Nat.reduceAdd,Nat.reduceMul,Nat.reduceEqDiff,Nat.reduceLeDiff,Nat.reduceBEq,reduceCtorEq,TYX]
  refine fun _ => ⟨_,f_at (i := 4) (by omega) ⟨rfl,rfl⟩,?_⟩
  simp +contextual only [x30,h_miss,h_skip,q_retRR,k_resR,n36,n68,n38,n89,n69,n39,hdn,wd,↓U30,↓XP,XQ,XM,cellsOf,okc,one1,resOne,resAll,eqCells,cellEq,fits,sameK,ne_eq,ite_true,ite_false,Nat.reduceSub,Nat.reduceAdd,Nat.reduceMul,Nat.reduceEqDiff,Nat.reduceLeDiff,Nat.reduceBEq,reduceCtorEq,TYX]
  refine fun _ => ⟨by omega,?_⟩
  rw [c_gh]
  refine Gz.then (Gz.of_fz (Fz.freeze (s := 9) (b := b9) (n := x.l.length) (sz := 1) (xs := boolsD s.seen) (rest := []) rfl h_hit bools_flat (by rw [bools_len,g4]) bools_1 (by omega) (fun y hy d hd => by
    obtain ⟨t,_,rfl⟩ := List.mem_map.1 hy
    rw [List.mem_singleton.1 hd]
    rfl)) ?_)
  rw [e_hit]
  refine Gz.view1 (bx := b8) h_hit ?_
  obtain ⟨p,hpp⟩ : ∃ p : Pt,p = { s.p with day := s.p.day + atOf m 4 4 } := ⟨_,rfl⟩
  have hpo : p.ops = [] := by rw [hpp]; exact g2
  have hd0 : p.d = [.int .i64 s.p.o,.int .i64 s.p.s,.int .i64 (s.p.day + atOf m 4 4),.slc (refsD s.p.needs),.slc [],.str []] := by
    rw [hpp]
    simp only [Pt.d,g2,g3]
    rfl
  rw [← hpp] at h hp14
  simp +contextual only [x30,h_miss,h_skip,q_retRR,k_resR,n36,n68,n38,↓U30,↓XP,XQ,XM,cellsOf,okc,one1,resOne,resAll,eqCells,cellEq,fits,sameK,ne_eq,ite_true,ite_false,Nat.reduceSub,Nat.reduceAdd,Nat.reduceMul,Nat.reduceEqDiff,Nat.reduceLeDiff,Nat.reduceBEq,reduceCtorEq,TYX]
  rw [← hd0]
  refine n_steps (x := x) (seen := s.seen) (p := p) hx hb g4 hpo (VOk.base hx i1 hpo) n38 n36 n68 ⟨rfl,rfl,rfl,rfl,rfl,rfl,rfl,trivial⟩ (fun F' hF' i hi => ?_) 0 rfl
  rw [hi]
  clear hi i hd0
  obtain ⟨more,e1,-⟩ := hp14
  generalize nextSteps x s.seen p m (1 + atN m 5 2) = q at h e1 ⊢
  obtain ⟨z,rfl⟩ : ∃ z : Nat → D,_ = [z 0,z 1,.slc (ints m),.ptr b3 0,z 4,z 5,.ptr b6 0,z 7,.ptr b8 0,.slc (boolsD s.seen),z 10,z 11,z 12,z 13,z 14,z 15,z 16,z 17,z 18,z 19,z 20,z 21,z 22,z 23,z 24,z 25,z 26,z 27,z 28,z 29,z 30,z 31,z 32,z 33,z 34,z 35,z 36,z 37,z 38,z 39,z 40,z 41,z 42,z 43,z 44,z 45,z 46,z 47,z 48,z 49,z 50,z 51,z 52,z 53,z 54,z 55,z 56,z 57,z 58,z 59,z 60,z 61,z 62,z 63,z 64,z 65,z 66,z 67,z 68,z 69,z 70,z 71,z 72,z 73,z 74,z 75,z 76,z 77,z 78,z 79,z 80,z 81,z 82,z 83,z 84,z 85,z 86,z 87,z 88,z 89,z 90,z 91,z 92,z 93,z 94,z 95,z 96,z 97,z 98,z 99,z 100,z 101,z 102,z 103,z 104,z 105,z 106,z 107,z 108,z 109,z 110,z 111,z 112,z 113,z 114,z 115,z 116,z 117,z 118,z 119,z 120,z 121,z 122,z 123,z 124,z 125,z 126,z 127,z 128,z 129,z 130,z 131,z 132,z 133,z 134,z 135,z 136,z 137,z 138] := hF'.lit
  clear hF'
  have hd : q.d = [.int .i64 q.o,.int .i64 q.s,.int .i64 q.day,.slc (refsD q.needs),.slc (opsD q.ops),.str q.sl] := rfl
  simp +contextual only [x30,h_miss,h_skip,q_retRR,k_resR,n36,n68,n38,hd,past_len,pts_len,↓U30,↓XP,XQ,XM,cellsOf,okc,one1,resOne,resAll,eqCells,cellEq,fits,sameK,ne_eq,ite_true,ite_false,Nat.reduceSub,Nat.reduceAdd,Nat.reduceMul,Nat.reduceEqDiff,Nat.reduceLeDiff,Nat.reduceBEq,reduceCtorEq,TYX]
  have hnp := hx.np
  refine ⟨pts_6,by omega,past_1,by omega,?_⟩
  rw [← hd,show [q.d] = ptsD [q] from rfl,pts_app,show [[D.slc (boolsD s.seen)]] = pastD [s.seen] from rfl,show pastD x.past ++ pastD [s.seen] = pastD (x.past ++ [s.seen]) by simp [pastD]]
  rw [c_gh]
  have hx1 : ptsD (x.l ++ [q]) ≠ [] := by simp [ptsD]
  have hx2 : pastD (x.past ++ [s.seen]) ≠ [] := by simp [pastD]
  dsimp only at h
  generalize hX : ptsD (x.l ++ [q]) = X at h hx1 ⊢
  generalize hY : pastD (x.past ++ [s.seen]) = Y at h hx2 ⊢
  refine Gz.then (Gz.give (bx := b3) (j := 0) (xs := X) hx1 (by rw [h_miss n38,h_miss n36,h_hit]) rfl (fun bl' cl' f1 => ?_))
  simp only [h_fr] at f1
  obtain ⟨t8,t6,t3,tr⟩ := f1
  rw [h_skip n38,h_skip n36,h_set]
  refine Gz.give (bx := b3) (j := 1) (xs := Y) hx2 (by rw [h_miss t3,h_miss n38,h_miss n36,h_hit]) rfl (fun bp' cp' f2 => ?_)
  simp only [h_fr] at f2
  obtain ⟨ul,u8,u6,u3,ur⟩ := f2
  rw [h_skip t3,h_skip n38,h_skip n36,h_set]
  simp +contextual only [x30,h_miss,h_skip,q_retRR,k_resR,n36,n68,n38,t8,t6,t3,ul,u8,u6,u3,↓U30,↓XP,XQ,XM,cellsOf,okc,one1,resOne,resAll,eqCells,cellEq,fits,sameK,ne_eq,ite_true,ite_false,Nat.reduceSub,Nat.reduceAdd,Nat.reduceMul,Nat.reduceEqDiff,Nat.reduceLeDiff,Nat.reduceBEq,reduceCtorEq,TYX]
  exact ⟨_,Sbn.sub (List.Sublist.cons_cons _ (List.Sublist.cons_cons _ (List.Sublist.cons _ (List.Sublist.cons _ (List.Sublist.cons _ (List.Sublist.refl _)))))),h bl' cl' bp' cp' ul tr ur⟩
end Go.Proofs.YtoeckfegggongaaDoor
end
section
namespace Go.Proofs.YtoeckfegggongaaDoor
open Go Go.Aw
theorem bestTo_range {l out : List Pt} : ∀ i,-1 ≤ bestTo l out i ∧ bestTo l out i < i
  | 0 => ⟨by simp [bestTo],by simp [bestTo]⟩
  | i + 1 => by
    have := bestTo_range (l := l) (out := out) i
    unfold bestTo
    split
    · omega
    · omega
theorem ordTo_len {l : List Pt} : ∀ n,(orderedTo l n).1.length ≤ n
  | 0 => by simp [orderedTo]
  | n + 1 => by
    have := ordTo_len (l := l) n
    simp only [orderedTo]
    split
    · split
      · simp only []; omega
      · simp only [List.length_append,List.length_cons,List.length_nil]; omega
    · omega
theorem ordTo_stop {l : List Pt} {n : Nat} (h : (orderedTo l n).2 = false) : ∀ k,orderedTo l (n + k) = orderedTo l n
  | 0 => rfl
  | k + 1 => by
    have ih := ordTo_stop h k
    show orderedTo l (n + k + 1) = _
    simp only [orderedTo,ih,h,Bool.false_eq_true,if_false]
theorem f_ordered {l : List Pt} {H : AH} {R : D → AH → Prop} (hb : l.length ≤ 100) (hl : ∀ p ∈ l,0 ≤ p.s ∧ p.s ≤ 1000000 ∧ p.needs.length ≤ 1000000) (h : R (.own (ptsD (ordered l))) H) : ACall Tryd.prog 32 [.slc (ptsD l)] H R := by
  refine b32 fun hf => ?_
  have hbig := big_eq
  simp +contextual only [x32,↓U32,↓XP,XQ,XM,cellsOf,okc,one1,resOne,resAll,eqCells,cellEq,fits,sameK,ne_eq,ite_true,ite_false,Nat.reduceSub,Nat.reduceAdd,Nat.reduceMul,Nat.reduceEqDiff,Nat.reduceLeDiff,Nat.reduceBEq,reduceCtorEq,TYX]
  refine XW.loopK hm (fun F H' => ∃ (n : Nat) (out : List Pt),n ≤ l.length ∧ orderedTo l n = (out,true) ∧ Fr 82 [(0,.slc (ptsD l)),(3,.own (ptsD out)),(4,.int .i64 n)] F ∧ H = H') (fun F H => match F.getD 4 .any with | .int _ n' => l.length - n'.toNat | _ => 0) ⟨0,[],by omega,rfl,⟨rfl,rfl,rfl,rfl,trivial⟩,rfl⟩ ?_
  rintro _ _ ⟨n,out,hn,ho,hF,rfl⟩ K hN hE hR
  obtain ⟨z,rfl⟩ : ∃ z : Nat → D,_ = [.slc (ptsD l),z 1,z 2,.own (ptsD out),.int .i64 n,z 5,z 6,z 7,z 8,z 9,z 10,z 11,z 12,z 13,z 14,z 15,z 16,z 17,z 18,z 19,z 20,z 21,z 22,z 23,z 24,z 25,z 26,z 27,z 28,z 29,z 30,z 31,z 32,z 33,z 34,z 35,z 36,z 37,z 38,z 39,z 40,z 41,z 42,z 43,z 44,z 45,z 46,z 47,z 48,z 49,z 50,z 51,z 52,z 53,z 54,z 55,z 56,z 57,z 58,z 59,z 60,z 61,z 62,z 63,z 64,z 65,z 66,z 67,z 68,z 69,z 70,z 71,z 72,z 73,z 74,z 75,z 76,z 77,z 78,z 79,z 80,z 81] := hF.lit
  clear hF
  have hol := ordTo_len (l := l) n
  rw [ho] at hol
  simp only at hol
  by_cases hlt : n < l.length
  · have hsn : orderedTo l (n + 1) = (if bestTo l out l.length < 0 then (out,false) else (out ++ [l.getD (bestTo l out l.length).toNat default],true)) := by
      simp only [orderedTo,ho,if_true]
    simp +contextual only [pts_len,h_miss,h_skip,↓U32,↓XP,XQ,XM,cellsOf,okc,one1,resOne,resAll,eqCells,cellEq,fits,sameK,ne_eq,ite_true,ite_false,Nat.reduceSub,Nat.reduceAdd,Nat.reduceMul,Nat.reduceEqDiff,Nat.reduceLeDiff,Nat.reduceBEq,reduceCtorEq,TYX]
    refine fun _ => ⟨fun _ => ?_,fun hge => absurd (by omega) hge⟩
    refine XW.loopK hm (fun F H' => ∃ (i : Nat),i ≤ l.length ∧ Fr 82 [(0,.slc (ptsD l)),(3,.own (ptsD out)),(4,.int .i64 n),(5,.int .i64 (bestTo l out i)),(6,.int .i64 i)] F ∧ H = H') (fun F H => match F.getD 6 .any with | .int _ n' => l.length - n'.toNat | _ => 0) ⟨0,by omega,⟨rfl,rfl,rfl,rfl,rfl,rfl,trivial⟩,rfl⟩ ?_
    rintro _ _ ⟨i,hi,hF,rfl⟩ K2 hN2 hE2 hR2
    obtain ⟨z2,rfl⟩ : ∃ z2 : Nat → D,_ = (let z := z2; [.slc (ptsD l),z 1,z 2,.own (ptsD out),.int .i64 n,.int .i64 (bestTo l out i),.int .i64 i,z 7,z 8,z 9,z 10,z 11,z 12,z 13,z 14,z 15,z 16,z 17,z 18,z 19,z 20,z 21,z 22,z 23,z 24,z 25,z 26,z 27,z 28,z 29,z 30,z 31,z 32,z 33,z 34,z 35,z 36,z 37,z 38,z 39,z 40,z 41,z 42,z 43,z 44,z 45,z 46,z 47,z 48,z 49,z 50,z 51,z 52,z 53,z 54,z 55,z 56,z 57,z 58,z 59,z 60,z 61,z 62,z 63,z 64,z 65,z 66,z 67,z 68,z 69,z 70,z 71,z 72,z 73,z 74,z 75,z 76,z 77,z 78,z 79,z 80,z 81]) := hF.lit
    clear hF
    by_cases hli : i < l.length
    · have nx : ∀ F' b c,Fr 82 [(0,.slc (ptsD l)),(3,.own (ptsD out)),(4,.int .i64 n),(5,.int .i64 (bestTo l out (i + 1))),(6,.int .i64 ((i + 1 : Nat) : Int))] F' → K2 .normal F' ((b,c) :: H) := fun F' b c hF' => hN2 _ _ ⟨i + 1,hli,hF',(back_1 rfl).symm⟩ (by
        rw [List.getD_eq_getElem?_getD,hF'.2.2.2.2.2.1]
        simp only [List.getD_cons_succ,List.getD_cons_zero,Option.getD_some]
        omega)
      clear hN2 hE2 hR2 hN hE hR h
      obtain ⟨r1,r2⟩ := bestTo_range (l := l) (out := out) i
      have hstep : bestTo l out (i + 1) = if better l out i (bestTo l out i) = true then (i : Int) else bestTo l out i := rfl
      rw [hstep] at nx
      have hbt : better l out i (bestTo l out i) = (ready out (l.getD i default) && !known out (l.getD i default).o (l.getD i default).s && (decide (bestTo l out i < 0) || decide ((l.getD i default).o < (l.getD (bestTo l out i).toNat default).o) || (decide ((l.getD i default).o = (l.getD (bestTo l out i).toNat default).o) && decide ((l.getD i default).s < (l.getD (bestTo l out i).toNat default).s)))) := rfl
      rw [hbt] at nx
      clear hbt hstep
      generalize bestTo l out i = bb at r1 r2 nx
      have q1 := pts_get hli
      have q2 : 0 ≤ bb → (ptsD l).getD bb.toNat [] = (l.getD bb.toNat default).d := fun h => pts_get (by omega)
      obtain ⟨e1,e2,e3⟩ := hl (l.getD i default) (by rw [getD_lt hli]; exact List.getElem_mem hli)
      generalize l.getD i default = e at q1 nx e1 e2 e3
      generalize l.getD bb.toNat default = lb at q2 nx
      have hd : e.d = [.int .i64 e.o,.int .i64 e.s,.int .i64 e.day,.slc (refsD e.needs),.slc (opsD e.ops),.str e.sl] := rfl
      have hdl : lb.d = [.int .i64 lb.o,.int .i64 lb.s,.int .i64 lb.day,.slc (refsD lb.needs),.slc (opsD lb.ops),.str lb.sl] := rfl
      simp +contextual only [pts_len,h_miss,h_skip,q1,hd,↓U32,↓XP,XQ,XM,cellsOf,okc,one1,resOne,resAll,eqCells,cellEq,fits,sameK,ne_eq,ite_true,ite_false,Nat.reduceSub,Nat.reduceAdd,Nat.reduceMul,Nat.reduceEqDiff,Nat.reduceLeDiff,Nat.reduceBEq,reduceCtorEq,TYX]
      refine fun _ => ⟨fun _ b1 h1 => ?_,fun hge => absurd (by omega) hge⟩
      refine ⟨_,f_ready (p := e) e1 e2 e3 ⟨rfl,rfl⟩,?_⟩
      rcases hr : ready out e with _ | _
      · simp +contextual only [pts_len,h_miss,h_skip,q1,hd,wrap_succ (show i ≤ big by omega),↓U32,↓XP,XQ,XM,cellsOf,okc,one1,resOne,resAll,eqCells,cellEq,fits,sameK,ne_eq,ite_true,ite_false,Nat.reduceSub,Nat.reduceAdd,Nat.reduceMul,Nat.reduceEqDiff,Nat.reduceLeDiff,Nat.reduceBEq,reduceCtorEq,TYX]
        refine nx _ _ _ ?_
        simp only [hr,Bool.false_and,Bool.false_eq_true,if_false]
        exact ⟨rfl,rfl,rfl,rfl,rfl,rfl,trivial⟩
      simp +contextual only [pts_len,h_miss,h_skip,q1,hd,↓U32,↓XP,XQ,XM,cellsOf,okc,one1,resOne,resAll,eqCells,cellEq,fits,sameK,ne_eq,ite_true,ite_false,Nat.reduceSub,Nat.reduceAdd,Nat.reduceMul,Nat.reduceEqDiff,Nat.reduceLeDiff,Nat.reduceBEq,reduceCtorEq,TYX]
      refine fun _ _ => ⟨_,f_known ⟨rfl,rfl⟩,?_⟩
      rcases hk : known out e.o e.s with _ | _
      rotate_left
      · simp +contextual only [pts_len,h_miss,h_skip,q1,hd,wrap_succ (show i ≤ big by omega),↓U32,↓XP,XQ,XM,cellsOf,okc,one1,resOne,resAll,eqCells,cellEq,fits,sameK,ne_eq,ite_true,ite_false,Nat.reduceSub,Nat.reduceAdd,Nat.reduceMul,Nat.reduceEqDiff,Nat.reduceLeDiff,Nat.reduceBEq,reduceCtorEq,TYX]
        refine nx _ _ _ ?_
        simp only [hr,hk,Bool.not_true,Bool.and_false,Bool.false_and,Bool.false_eq_true,if_false]
        exact ⟨rfl,rfl,rfl,rfl,rfl,rfl,trivial⟩
      simp only [hr,hk,Bool.not_false,Bool.and_true,Bool.true_and] at nx
      by_cases hb0 : bb < 0
      · simp only [hb0,decide_true,Bool.true_or,if_true] at nx
        simp +contextual only [pts_len,h_miss,h_skip,q1,hd,hb0,wrap_succ (show i ≤ big by omega),↓U32,↓XP,XQ,XM,cellsOf,okc,one1,resOne,resAll,eqCells,cellEq,fits,sameK,ne_eq,ite_true,ite_false,Nat.reduceSub,Nat.reduceAdd,Nat.reduceMul,Nat.reduceEqDiff,Nat.reduceLeDiff,Nat.reduceBEq,reduceCtorEq,TYX]
        exact nx _ _ _ ⟨rfl,rfl,rfl,rfl,rfl,rfl,trivial⟩
      · have q3 := q2 (by omega)
        simp only [hb0,decide_false,Bool.false_or] at nx
        simp +contextual only [pts_len,h_miss,h_skip,q1,q3,hd,hdl,hb0,wrap_succ (show i ≤ big by omega),↓U32,↓XP,XQ,XM,cellsOf,okc,one1,resOne,resAll,eqCells,cellEq,fits,sameK,ne_eq,ite_true,ite_false,Nat.reduceSub,Nat.reduceAdd,Nat.reduceMul,Nat.reduceEqDiff,Nat.reduceLeDiff,Nat.reduceBEq,reduceCtorEq,TYX]
        refine fun _ => ⟨by omega,by omega,fun _ => ⟨fun c1 => ?_,fun c1 => ⟨by omega,by omega,fun c2 _ => ⟨by omega,by omega,fun _ => ⟨fun c3 => ?_,fun c3 => ?_⟩⟩,fun c2 => ?_⟩⟩⟩
        · rw [if_pos (by simp [c1])] at nx
          exact nx _ _ _ ⟨rfl,rfl,rfl,rfl,rfl,rfl,trivial⟩
        · rw [if_pos (by simp [c2,c3])] at nx
          exact nx _ _ _ ⟨rfl,rfl,rfl,rfl,rfl,rfl,trivial⟩
        · rw [if_neg (by simp [c1,c3])] at nx
          exact nx _ _ _ ⟨rfl,rfl,rfl,rfl,rfl,rfl,trivial⟩
        · rw [if_neg (by simp [c1,c2])] at nx
          exact nx _ _ _ ⟨rfl,rfl,rfl,rfl,rfl,rfl,trivial⟩
    · have hik : i = l.length := by omega
      subst hik
      clear hN2
      simp +contextual only [pts_len,h_miss,h_skip,↓U32,↓XP,XQ,XM,cellsOf,okc,one1,resOne,resAll,eqCells,cellEq,fits,sameK,ne_eq,ite_true,ite_false,Nat.reduceSub,Nat.reduceAdd,Nat.reduceMul,Nat.reduceEqDiff,Nat.reduceLeDiff,Nat.reduceBEq,reduceCtorEq,TYX]
      refine fun _ => hE2 _ _ _ ?_
      clear hE2 hR2
      obtain ⟨r1,r2⟩ := bestTo_range (l := l) (out := out) l.length
      rw [show n + 1 = n + 1 from rfl] at hsn
      by_cases hb0 : bestTo l out l.length < 0
      · rw [if_pos hb0] at hsn
        have hor : ordered l = out := by
          unfold ordered
          have := ordTo_stop (l := l) (n := n + 1) (by rw [hsn]) (l.length - (n + 1))
          rw [show n + 1 + (l.length - (n + 1)) = l.length by omega,hsn] at this
          rw [this]
        rw [hor] at h
        clear hN hE
        generalize bestTo l out l.length = bb at r1 r2 hb0 ⊢
        simp +contextual only [pts_len,h_miss,h_skip,hb0,↓U32,↓XP,XQ,XM,cellsOf,okc,one1,resOne,resAll,eqCells,cellEq,fits,sameK,ne_eq,ite_true,ite_false,Nat.reduceSub,Nat.reduceAdd,Nat.reduceMul,Nat.reduceEqDiff,Nat.reduceLeDiff,Nat.reduceBEq,reduceCtorEq,TYX]
        refine hR _ _ ?_
        simp +contextual only [pts_len,h_miss,h_skip,↓U32,↓XP,XQ,XM,cellsOf,okc,one1,resOne,resAll,eqCells,cellEq,fits,sameK,ne_eq,ite_true,ite_false,Nat.reduceSub,Nat.reduceAdd,Nat.reduceMul,Nat.reduceEqDiff,Nat.reduceLeDiff,Nat.reduceBEq,reduceCtorEq,TYX]
        exact h
      · rw [if_neg hb0] at hsn
        have nx : ∀ F',Fr 82 [(0,.slc (ptsD l)),(3,.own (ptsD (out ++ [l.getD (bestTo l out l.length).toNat default]))),(4,.int .i64 ((n + 1 : Nat) : Int))] F' → K .normal F' H := fun F' hF' => hN _ _ ⟨n + 1,_,hlt,hsn,hF',(back_0 rfl).symm⟩ (by
          rw [List.getD_eq_getElem?_getD,hF'.2.2.2.1]
          simp only [List.getD_cons_succ,List.getD_cons_zero,Option.getD_some]
          omega)
        clear hN hE hR h
        have q2 : (ptsD l).getD (bestTo l out l.length).toNat [] = (l.getD (bestTo l out l.length).toNat default).d := pts_get (by omega)
        generalize bestTo l out l.length = bb at r1 r2 hb0 q2 nx ⊢
        generalize l.getD bb.toNat default = e at q2 nx
        have hd : e.d = [.int .i64 e.o,.int .i64 e.s,.int .i64 e.day,.slc (refsD e.needs),.slc (opsD e.ops),.str e.sl] := rfl
        simp +contextual only [pts_len,h_miss,h_skip,hb0,q2,hd,wrap_succ (show n ≤ big by omega),↓U32,↓XP,XQ,XM,cellsOf,okc,one1,resOne,resAll,eqCells,cellEq,fits,sameK,ne_eq,ite_true,ite_false,Nat.reduceSub,Nat.reduceAdd,Nat.reduceMul,Nat.reduceEqDiff,Nat.reduceLeDiff,Nat.reduceBEq,reduceCtorEq,TYX]
        refine ⟨by omega,by omega,pts_6,by omega,?_⟩
        rw [← pts_app,show ptsD [e] = [e.d] from rfl,hd] at nx
        exact nx _ ⟨rfl,rfl,rfl,rfl,trivial⟩
  · have hik : n = l.length := by omega
    subst hik
    clear hN
    simp +contextual only [pts_len,h_miss,h_skip,↓U32,↓XP,XQ,XM,cellsOf,okc,one1,resOne,resAll,eqCells,cellEq,fits,sameK,ne_eq,ite_true,ite_false,Nat.reduceSub,Nat.reduceAdd,Nat.reduceMul,Nat.reduceEqDiff,Nat.reduceLeDiff,Nat.reduceBEq,reduceCtorEq,TYX]
    refine fun _ => hE _ _ _ ?_
    rw [show ordered l = out by unfold ordered; rw [ho]] at h
    simp +contextual only [pts_len,h_miss,h_skip,↓U32,↓XP,XQ,XM,cellsOf,okc,one1,resOne,resAll,eqCells,cellEq,fits,sameK,ne_eq,ite_true,ite_false,Nat.reduceSub,Nat.reduceAdd,Nat.reduceMul,Nat.reduceEqDiff,Nat.reduceLeDiff,Nat.reduceBEq,reduceCtorEq,TYX]
    exact h
end Go.Proofs.YtoeckfegggongaaDoor
end
section
namespace Go.Proofs.YtoeckfegggongaaDoor
open Go Go.Aw
theorem Sbn.perm {H H' : AH} (h : H'.Perm H) : Sbn H' H := fun hn => ⟨(h.map _).nodup_iff.2 hn,fun p hp => h.subset hp⟩
theorem patches_inv {l : List Int} {offices : Nat} (ho : offices ≤ 10) : ∀ i,GInv (patchesTo l offices i) ∧ (patchesTo l offices i).l.length = i
  | 0 => ⟨GInv.nil,rfl⟩
  | i + 1 => by
    obtain ⟨h1,h2⟩ := patches_inv (l := l) ho i
    exact ⟨h1.next ho _,by simp [patchesTo,next,h2]⟩
def Rooms (b4 : Nat) (x : Gs) (bl cl bp cp : Nat) (Hm H : AH) : Prop :=
  (x.l = [] ∧ x.past = [] ∧ Hm = []) ∨ (x.l ≠ [] ∧ x.past ≠ [] ∧ bl ≠ bp ∧ bl ≠ b4 ∧ bp ≠ b4 ∧ Hm = [(bp,.room cp (pastD x.past)),(bl,.room cl (ptsD x.l))])
theorem pts_nil {l : List Pt} : ptsD l = [] ↔ l = [] := by simp [ptsD]
theorem past_nil {l : List (List Bool)} : pastD l = [] ↔ l = [] := by simp [pastD]
theorem rPatches {args : List D} {H : AH} {R : D → AH → Prop} (h : facts args → xcode Tryd.prog x14 (args ++ List.replicate (28 - args.length) (.tup [])) H (retR Tryd.prog [.tmp 2] R)) : ACall Tryd.prog 14 args H R :=
  xcall_bodyR hm Tryd.func14 rfl (by kernel_rfl) (by kernel_rfl) (by kernel_rfl) (by kernel_rfl) (by kernel_rfl) (by kernel_rfl) h
theorem f_patches {l : List Int} {H : AH} {R : D → AH → Prop} (h : R (.own (ptsD (patches l))) H) : ACall Tryd.prog 14 [.slc (ints l)] H R := by
  refine rPatches fun hf => ?_
  have hbig := big_eq
  have a0 := atOf_range (l := l) (i := 0) (most := 8) (by omega)
  have a1 := atOf_range (l := l) (i := 1) (most := 2) (by omega)
  simp +contextual only [x14,h_miss,h_skip,q_retRR,k_resR,↓U14,↓XP,XQ,XM,cellsOf,okc,one1,resOne,resAll,eqCells,cellEq,fits,sameK,ne_eq,ite_true,ite_false,Nat.reduceSub,Nat.reduceAdd,Nat.reduceMul,Nat.reduceEqDiff,Nat.reduceLeDiff,Nat.reduceBEq,reduceCtorEq,TYX]
  refine f_at (i := 1) (by omega) ?_
  obtain ⟨o,ho⟩ : ∃ o : Nat,2 + atN l 1 2 = o := ⟨_,rfl⟩
  obtain ⟨n,hn⟩ : ∃ n : Nat,2 + atN l 0 8 = n := ⟨_,rfl⟩
  have w1 : IntKind.i64.wrap (2 + atOf l 1 2) = (o : Int) := by rw [wrap_id (by omega) (by omega)]; unfold atN at ho; omega
  have w0 : IntKind.i64.wrap (2 + atOf l 0 8) = (n : Int) := by rw [wrap_id (by omega) (by omega)]; unfold atN at hn; omega
  have ho' : o ≤ 10 ∧ 1 ≤ o := by unfold atN at ho; omega
  have hn' : n ≤ 9 := by unfold atN at hn; omega
  have hpt : patches l = ordered (patchesTo l o n).l := by unfold patches; rw [ho,hn]
  rw [hpt] at h
  simp +contextual only [x14,h_miss,h_skip,q_retRR,k_resR,w1,↓U14,↓XP,XQ,XM,cellsOf,okc,one1,resOne,resAll,eqCells,cellEq,fits,sameK,ne_eq,ite_true,ite_false,Nat.reduceSub,Nat.reduceAdd,Nat.reduceMul,Nat.reduceEqDiff,Nat.reduceLeDiff,Nat.reduceBEq,reduceCtorEq,TYX]
  intro _ b4 h4
  refine XW.loopKR hm (fun F H' => ∃ (i : Nat) (x : Gs) (bl cl bp cp : Nat) (Hm : AH),i ≤ n ∧ x = patchesTo l o i ∧ Rooms b4 x bl cl bp cp Hm H ∧ Fr 28 [(0,.slc (ints l)),(3,.int .i64 o),(4,.ptr b4 0),(5,.int .i64 (i : Int))] F ∧ ((b4,AO.cells [.osl bl cl (ptsD x.l),.osl bp cp (pastD x.past)]) :: (Hm ++ H)) = H') (fun F H => match F.getD 5 .any with | .int _ n' => n - n'.toNat | _ => 0) ⟨0,⟨[],[]⟩,0,0,0,0,[],by omega,rfl,.inl ⟨rfl,rfl,rfl⟩,⟨rfl,rfl,rfl,rfl,rfl,trivial⟩,rfl⟩ ?_
  rintro _ _ ⟨i,x,bl,cl,bp,cp,Hm,hi,hx,hr,hF,rfl⟩ K hN hE hR
  obtain ⟨z,rfl⟩ : ∃ z : Nat → D,_ = [.slc (ints l),z 1,z 2,.int .i64 o,.ptr b4 0,.int .i64 (i : Int),z 6,z 7,z 8,z 9,z 10,z 11,z 12,z 13,z 14,z 15,z 16,z 17,z 18,z 19,z 20,z 21,z 22,z 23,z 24,z 25,z 26,z 27] := hF.lit
  clear hF hR
  obtain ⟨gi,gl⟩ := patches_inv (l := l) (offices := o) ho'.1 i
  rw [← hx] at gi gl
  by_cases hlt : i < n
  · have w2 : IntKind.i64.wrap (32 * (i : Int)) = 32 * (i : Int) := wrap_id (by omega) (by omega)
    have w3 : IntKind.i64.wrap (2 + 32 * (i : Int)) = ((2 + 32 * i : Nat) : Int) := by rw [wrap_id (by omega) (by omega)]; omega
    simp +contextual only [x14,h_miss,h_skip,q_retRR,k_resR,w0,↓U14,↓XP,XQ,XM,cellsOf,okc,one1,resOne,resAll,eqCells,cellEq,fits,sameK,ne_eq,ite_true,ite_false,Nat.reduceSub,Nat.reduceAdd,Nat.reduceMul,Nat.reduceEqDiff,Nat.reduceLeDiff,Nat.reduceBEq,reduceCtorEq,TYX]
    refine f_at (i := 0) (by omega) ?_
    simp +contextual only [x14,h_miss,h_skip,q_retRR,k_resR,w0,w2,w3,↓U14,↓XP,XQ,XM,cellsOf,okc,one1,resOne,resAll,eqCells,cellEq,fits,sameK,ne_eq,ite_true,ite_false,Nat.reduceSub,Nat.reduceAdd,Nat.reduceMul,Nat.reduceEqDiff,Nat.reduceLeDiff,Nat.reduceBEq,reduceCtorEq,TYX]
    refine fun _ => ⟨fun _ => ⟨_,f_rest ⟨rfl,rfl⟩,?_⟩,fun hge => absurd (by omega) hge⟩
    simp +contextual only [x14,h_miss,h_skip,q_retRR,k_resR,w0,w2,w3,↓U14,↓XP,XQ,XM,cellsOf,okc,one1,resOne,resAll,eqCells,cellEq,fits,sameK,ne_eq,ite_true,ite_false,Nat.reduceSub,Nat.reduceAdd,Nat.reduceMul,Nat.reduceEqDiff,Nat.reduceLeDiff,Nat.reduceBEq,reduceCtorEq,TYX]
    have hr1 : ptsD x.l ≠ [] → getH ((b4,AO.cells [.osl bl cl (ptsD x.l),.osl bp cp (pastD x.past)]) :: (Hm ++ H)) bl = some (.room cl (ptsD x.l)) := fun hne => by
      rcases hr with ⟨e,_⟩ | ⟨_,_,e1,e2,e3,rfl⟩
      · exact (hne (pts_nil.2 e)).elim
      · show getH ((b4,_) :: (bp,_) :: (bl,_) :: H) bl = _
        rw [h_miss e2,h_miss e1,h_hit]
    have hr2 : pastD x.past ≠ [] → getH ((b4,AO.cells [.osl bl cl (ptsD x.l),.osl bp cp (pastD x.past)]) :: (Hm ++ H)) bp = some (.room cp (pastD x.past)) := fun hne => by
      rcases hr with ⟨_,e,_⟩ | ⟨_,_,e1,e2,e3,rfl⟩
      · exact (hne (past_nil.2 e)).elim
      · show getH ((b4,_) :: (bp,_) :: (bl,_) :: H) bp = _
        rw [h_miss e3,h_hit]
    have hdr : dropR (dropR ((b4,AO.cells [.osl bl cl (ptsD x.l),.osl bp cp (pastD x.past)]) :: (Hm ++ H)) bl (ptsD x.l)) bp (pastD x.past) = (b4,AO.cells [.osl bl cl (ptsD x.l),.osl bp cp (pastD x.past)]) :: H := by
      rcases hr with ⟨e,e',rfl⟩ | ⟨e0,e0',e1,e2,e3,rfl⟩
      · rw [pts_nil.2 e,past_nil.2 e',dropR_nil,dropR_nil]; rfl
      · show dropR (dropR ((b4,_) :: (bp,_) :: (bl,_) :: H) bl (ptsD x.l)) bp (pastD x.past) = _
        unfold dropR
        rw [if_neg (fun e => e0 (pts_nil.1 e)),if_neg (fun e => e0' (past_nil.1 e)),e_miss e2,e_miss e1,e_hit,e_miss e3,e_hit]
    refine fun _ => f_next gi (by omega) ho'.2 ho'.1 hr1 hr2 (fun bl' cl' bp' cp' t1 t2 t3 => ?_)
    rw [hdr] at t2 t3 ⊢
    simp only [h_fr] at t2 t3
    obtain ⟨u1,t2⟩ := t2
    obtain ⟨u2,t3⟩ := t3
    have hx2 : next x o (l.drop (2 + 32 * i)) = patchesTo l o (i + 1) := by rw [hx]; rfl
    rw [hx2]
    obtain ⟨gi2,gl2⟩ := patches_inv (l := l) (offices := o) ho'.1 (i + 1)
    have hne1 : (patchesTo l o (i + 1)).l ≠ [] := fun e => by rw [e] at gl2; simp at gl2
    have hne2 : (patchesTo l o (i + 1)).past ≠ [] := fun e => by have := gi2.np; rw [e,gl2] at this; simp at this
    simp +contextual only [x14,h_miss,h_skip,q_retRR,k_resR,u1,u2,wrap_succ (show i ≤ big by omega),↓U14,↓XP,XQ,XM,cellsOf,okc,one1,resOne,resAll,eqCells,cellEq,fits,sameK,ne_eq,ite_true,ite_false,Nat.reduceSub,Nat.reduceAdd,Nat.reduceMul,Nat.reduceEqDiff,Nat.reduceLeDiff,Nat.reduceBEq,reduceCtorEq,TYX]
    refine hN _ _ ((b4,AO.cells [.osl bl' cl' (ptsD (patchesTo l o (i + 1)).l),.osl bp' cp' (pastD (patchesTo l o (i + 1)).past)]) :: ([(bp',AO.room cp' (pastD (patchesTo l o (i + 1)).past)),(bl',AO.room cl' (ptsD (patchesTo l o (i + 1)).l))] ++ H)) ?_ ⟨i + 1,_,bl',cl',bp',cp',_,hlt,rfl,.inr ⟨hne1,hne2,t1,Ne.symm u1,Ne.symm u2,rfl⟩,⟨rfl,rfl,rfl,rfl,rfl,trivial⟩,rfl⟩ ?_
    · exact Sbn.perm ((List.Perm.swap _ _ _).trans ((List.Perm.swap _ _ _).cons _))
    · simp only [List.getD_cons_succ,List.getD_cons_zero]
      omega
  · have hik : i = n := by omega
    subst hik
    clear hN
    simp +contextual only [x14,h_miss,h_skip,q_retRR,k_resR,w0,↓U14,↓XP,XQ,XM,cellsOf,okc,one1,resOne,resAll,eqCells,cellEq,fits,sameK,ne_eq,ite_true,ite_false,Nat.reduceSub,Nat.reduceAdd,Nat.reduceMul,Nat.reduceEqDiff,Nat.reduceLeDiff,Nat.reduceBEq,reduceCtorEq,TYX]
    refine f_at (i := 0) (by omega) ?_
    simp +contextual only [x14,h_miss,h_skip,q_retRR,k_resR,w0,↓U14,↓XP,XQ,XM,cellsOf,okc,one1,resOne,resAll,eqCells,cellEq,fits,sameK,ne_eq,ite_true,ite_false,Nat.reduceSub,Nat.reduceAdd,Nat.reduceMul,Nat.reduceEqDiff,Nat.reduceLeDiff,Nat.reduceBEq,reduceCtorEq,TYX]
    refine fun _ => hE _ _ _ ?_
    simp +contextual only [x14,h_miss,h_skip,q_retRR,k_resR,w0,↓U14,↓XP,XQ,XM,cellsOf,okc,one1,resOne,resAll,eqCells,cellEq,fits,sameK,ne_eq,ite_true,ite_false,Nat.reduceSub,Nat.reduceAdd,Nat.reduceMul,Nat.reduceEqDiff,Nat.reduceLeDiff,Nat.reduceBEq,reduceCtorEq,TYX]
    rw [c_gh]
    refine Gz.weak h_hit ?_
    simp +contextual only [x14,h_miss,h_skip,q_retRR,k_resR,D.wk,↓U14,↓XP,XQ,XM,cellsOf,okc,one1,resOne,resAll,eqCells,cellEq,fits,sameK,ne_eq,ite_true,ite_false,Nat.reduceSub,Nat.reduceAdd,Nat.reduceMul,Nat.reduceEqDiff,Nat.reduceLeDiff,Nat.reduceBEq,reduceCtorEq,TYX]
    rw [← hx] at h
    refine fun _ => f_ordered (by omega) (fun p hp => ?_) ?_
    · have h1 := gi.sq p hp
      have h2 := gi.ne p hp
      omega
    · simp +contextual only [x14,h_miss,h_skip,q_retRR,k_resR,↓U14,↓XP,XQ,XM,cellsOf,okc,one1,resOne,resAll,eqCells,cellEq,fits,sameK,ne_eq,ite_true,ite_false,Nat.reduceSub,Nat.reduceAdd,Nat.reduceMul,Nat.reduceEqDiff,Nat.reduceLeDiff,Nat.reduceBEq,reduceCtorEq,TYX]
      exact fun _ => ⟨H,Sbn.sub ((List.sublist_append_right _ _).cons _),h⟩
end Go.Proofs.YtoeckfegggongaaDoor
end
section
namespace Go.Proofs.YtoeckfegggongaaDoor
open Go Go.Aw
theorem f_short {s : List UInt8} {n : Nat} {H : AH} {R : D → AH → Prop} (hn : n ≤ 1000000) (h : R (.str (s.take n)) H) : ACall Tryd.prog 5 [.str s,.int .i64 (n : Int)] H R := by
  refine b5 fun hf => ?_
  have hbig := big_eq
  rcases Classical.em (n < s.length) with c | c
  · simp +contextual only [x5,show ((n : Int) < (s.length : Int)) = True from eq_true (by omega),show ((s.length : Int) > (n : Int)) = True from eq_true (by omega),↓U5,↓XP,XQ,XM,cellsOf,okc,one1,resOne,resAll,eqCells,cellEq,fits,sameK,ne_eq,ite_true,ite_false,Nat.reduceSub,Nat.reduceAdd,Nat.reduceMul,Nat.reduceEqDiff,Nat.reduceLeDiff,Nat.reduceBEq,reduceCtorEq,TYX]
    exact fun _ => ⟨by omega,h⟩
  · rw [List.take_of_length_le (by omega)] at h
    simp +contextual only [x5,show ((n : Int) < (s.length : Int)) = False from eq_false (by omega),show ((s.length : Int) > (n : Int)) = False from eq_false (by omega),↓U5,↓XP,XQ,XM,cellsOf,okc,one1,resOne,resAll,eqCells,cellEq,fits,sameK,ne_eq,ite_true,ite_false,Nat.reduceSub,Nat.reduceAdd,Nat.reduceMul,Nat.reduceEqDiff,Nat.reduceLeDiff,Nat.reduceBEq,reduceCtorEq,TYX]
    exact fun _ => h
theorem f_some {l : List Int} {a : Int} {H : AH} {R : D → AH → Prop} (h : ∀ p,FV p → R (.agg p.d) H) : ACall Tryd.prog 4 [.slc (ints l),.int .i64 a] H R := by
  refine b4 fun hf => ?_
  have hbig := big_eq
  obtain ⟨h1,h2,h3⟩ := patches_ok l
  have pl : (ptsD (patches l)).length = (patches l).length := by simp [ptsD]
  simp +contextual only [x4,pl,↓U4,↓XP,XQ,XM,cellsOf,okc,one1,resOne,resAll,eqCells,cellEq,fits,sameK,ne_eq,ite_true,ite_false,Nat.reduceSub,Nat.reduceAdd,Nat.reduceMul,Nat.reduceEqDiff,Nat.reduceLeDiff,Nat.reduceBEq,reduceCtorEq,TYX]
  intro b4 h4
  refine f_patches ?_
  simp +contextual only [x4,pl,↓U4,↓XP,XQ,XM,cellsOf,okc,one1,resOne,resAll,eqCells,cellEq,fits,sameK,ne_eq,ite_true,ite_false,Nat.reduceSub,Nat.reduceAdd,Nat.reduceMul,Nat.reduceEqDiff,Nat.reduceLeDiff,Nat.reduceBEq,reduceCtorEq,TYX]
  refine fun _ => f_around (by omega) ?_
  obtain ⟨r1,r2⟩ := around_range (n := a) (most := ((patches l).length : Int)) (by omega)
  obtain ⟨k,hk⟩ := Int.eq_ofNat_of_zero_le r1
  rw [hk] at r2 ⊢
  have hkl : k < (patches l).length := by omega
  have q1 : (ptsD (patches l)).getD k [] = ((patches l).getD k default).d := by simp [ptsD,hkl]
  have hp := h1 _ (getD_mem (d := default) hkl)
  generalize (patches l).getD k default = p at q1 hp
  have hd : p.d = [.int .i64 p.o,.int .i64 p.s,.int .i64 p.day,.slc (refsD p.needs),.slc (opsD p.ops),.str p.sl] := rfl
  simp +contextual only [x4,pl,q1,hd,hkl,Int.ofNat_lt,↓U4,↓XP,XQ,XM,cellsOf,okc,one1,resOne,resAll,eqCells,cellEq,fits,sameK,ne_eq,ite_true,ite_false,Nat.reduceSub,Nat.reduceAdd,Nat.reduceMul,Nat.reduceEqDiff,Nat.reduceLeDiff,Nat.reduceBEq,reduceCtorEq,TYX]
  exact fun _ => h p hp
end Go.Proofs.YtoeckfegggongaaDoor
end
section
namespace Go.Proofs.YtoeckfegggongaaDoor
open Go Go.Aw
theorem pt_encR {p : Pt} {r : List UInt8} (h : Good p) : decPtI (encPt p ++ r) = (p,false) := by
  obtain ⟨h1,h2,h3,h4,h5,h6⟩ := good_parts h
  unfold OkHead at h1
  have e : encPt p ++ r = encInts [p.o,p.s,p.day] ++ (encInts (needNums p.needs) ++ (encInt p.ops.length ++ (p.ops.flatMap encOp ++ (encBytes p.sl ++ r)))) := by simp only [encPt,List.append_assoc]
  obtain ⟨a1,a2,a3⟩ := rd_enc (l := [p.o,p.s,p.day]) (r := encInts (needNums p.needs) ++ (encInt p.ops.length ++ (p.ops.flatMap encOp ++ (encBytes p.sl ++ r)))) (many := 3) (by' := 1) (by
    intro x hx
    simp only [List.mem_cons,List.not_mem_nil,or_false] at hx
    rw [inR_i64]
    rcases hx with rfl | rfl | rfl <;> omega) (by simp) (fun _ => rfl) (by simp)
  obtain ⟨b1,b2,b3⟩ := rd_enc (l := needNums p.needs) (r := encInt p.ops.length ++ (p.ops.flatMap encOp ++ (encBytes p.sl ++ r))) (many := -1) (by' := 2) (by
    intro x hx
    obtain ⟨y,hy,hx⟩ := List.mem_flatMap.1 hx
    obtain ⟨i,hi,hy⟩ := List.getElem_of_mem hy
    have hv := h4 i hi
    unfold OkNeedAt at hv
    rw [getD_lt hi,hy] at hv
    simp only [List.mem_cons,List.not_mem_nil,or_false] at hx
    rw [inR_i64]
    rcases hx with rfl | rfl <;> omega) (by rw [needs_len]; omega) (fun hc => by omega) (by rw [needs_len]; omega)
  have c1 := dec_enc (m := (p.ops.length : Int)) (rest := p.ops.flatMap encOp ++ (encBytes p.sl ++ r)) (nat_in (by omega))
  have d1 := opsR_enc p.ops (encBytes p.sl ++ r) h5
  have f1 := bytes_enc (s := p.sl) (rest := r) (by omega)
  unfold decPtI decPtM
  rw [e,a1,a2,a3,b1,b2,b3]
  unfold decPtO
  rw [c1,show cntO ((p.ops.length : Int),(encInt (p.ops.length : Int)).length,(0 : Int)).1 = p.ops.length by simp [cntO]; omega,List.drop_left]
  rw [show (false || decide (((p.ops.length : Int),(encInt (p.ops.length : Int)).length,(0 : Int)).2.2 ≠ 0)) = false from rfl,d1]
  unfold decPtS
  rw [f1,pairs_flat]
  rfl
theorem enc_prefix {p q : Pt} {k : Nat} (hp : Good p) (hq : Good q) (hk : k < (encPt p).length) : encPt q ≠ (encPt p).take k := by
  intro e
  have e2 : encPt q ++ (encPt p).drop k = encPt p := by rw [e,List.take_append_drop]
  have h1 := pt_encR (r := (encPt p).drop k) hq
  have h2 := pt_encR (r := []) hp
  rw [List.append_nil] at h2
  rw [e2,h2] at h1
  have hpq : p = q := congrArg Prod.fst h1
  rw [← hpq] at e
  have := congrArg List.length e
  rw [List.length_take] at this
  omega
theorem valid_len {p : Pt} (h : validE p = 0) : (encPt (bare p)).length ≤ 6800 := by
  unfold validE at h
  by_cases c1 : OkHead p
  · rw [if_neg (fun d => d c1)] at h
    by_cases c2 : 8 < p.needs.length ∨ 16 < p.ops.length
    · rw [if_pos c2] at h; simp at h
    rw [if_neg c2] at h
    by_cases c3 : p.ops = []
    · rw [if_pos c3] at h; simp at h
    rw [if_neg c3] at h
    by_cases c4 : OkNeeds p
    · rw [if_neg (fun d => d c4)] at h
      by_cases c5 : OkOps p
      · rw [if_neg (fun d => d c5)] at h
        split at h
        · simp at h
        · omega
      · rw [if_pos c5] at h; simp at h
    · rw [if_pos c4] at h; simp at h
  · rw [if_pos c1] at h; simp at h
theorem seal_good {p : Pt} {s : List UInt8} (h : FV p) (hs : s.length ≤ 1200) : Good { p with sl := s } ∧ Fit { p with sl := s } ∧ (encPt { p with sl := s }).length ≤ 100000 ∧ 0 < (encPt { p with sl := s }).length := by
  have hv : validE { p with sl := s } = validE p := rfl
  have hl := valid_len h.v
  refine ⟨?_,⟨h.fit.ops,h.fit.needs,h.fit.ids,h.fit.name,h.fit.text,by show s.length ≤ 3000000; omega⟩,?_,?_⟩
  · unfold Good encE
    rw [hv,h.v,if_neg (by simp),if_neg (by show ¬ 1200 < s.length; omega)]
  · have e := encLen (n := s.length) (by omega)
    simp only [encPt,bare,encBytes,List.length_append,List.length_nil] at hl ⊢
    omega
  · have := enc_pos (n := (3 : Int))
    simp only [encPt,encInts,List.length_append,List.length_cons,List.length_nil]
    have := enc_pos (n := (((0 + 1 + 1 + 1 : Nat)) : Int))
    omega
theorem f_sameInts {a : List Int} {H : AH} {R : D → AH → Prop} (h : R (.bool true) H) : ACall Tryd.prog 12 [.slc (ints a),.slc (ints a)] H R := by
  refine b12 fun hf => ?_
  have hbig := big_eq
  simp +contextual only [x12,ints_len,↓U12,↓XP,XQ,XM,cellsOf,okc,one1,resOne,resAll,eqCells,cellEq,fits,sameK,ne_eq,ite_true,ite_false,Nat.reduceSub,Nat.reduceAdd,Nat.reduceMul,Nat.reduceEqDiff,Nat.reduceLeDiff,Nat.reduceBEq,reduceCtorEq,TYX]
  refine fun _ => XW.loopK Go.Proofs.YtoeckfegggongaaDoor.hm (fun F H' => ∃ (i : Nat),i ≤ a.length ∧ Fr 26 [(0,.slc (ints a)),(1,.slc (ints a)),(5,.int .i64 (i : Int))] F ∧ H = H') (fun F H => match F.getD 5 .any with | .int _ n' => a.length - n'.toNat | _ => 0) ⟨0,by omega,⟨rfl,rfl,rfl,rfl,trivial⟩,rfl⟩ ?_
  rintro _ _ ⟨i,hi,hF,rfl⟩ K hN hE hR
  obtain ⟨z,rfl⟩ : ∃ z : Nat → D,_ = [.slc (ints a),.slc (ints a),z 2,z 3,z 4,.int .i64 (i : Int),z 6,z 7,z 8,z 9,z 10,z 11,z 12,z 13,z 14,z 15,z 16,z 17,z 18,z 19,z 20,z 21,z 22,z 23,z 24,z 25] := hF.lit
  clear hF
  rcases Classical.em (i < a.length) with hlt | hlt
  · have q1 := ints_getD hlt
    have nx : ∀ F',Fr 26 [(0,.slc (ints a)),(1,.slc (ints a)),(5,.int .i64 ((i + 1 : Nat) : Int))] F' → K .normal F' H := fun F' hF' => hN _ _ ⟨i + 1,hlt,hF',(back_0 rfl).symm⟩ (by
      rw [List.getD_eq_getElem?_getD,hF'.2.2.2.1]
      simp only [List.getD_cons_succ,List.getD_cons_zero,Option.getD_some]
      omega)
    clear hN hE hR
    generalize a.getD i 0 = x at q1
    simp +contextual only [x12,ints_len,hlt,Int.ofNat_lt,q1,wrap_succ (show i ≤ big by omega),↓U12,↓XP,XQ,XM,cellsOf,okc,one1,resOne,resAll,eqCells,cellEq,fits,sameK,ne_eq,ite_true,ite_false,Nat.reduceSub,Nat.reduceAdd,Nat.reduceMul,Nat.reduceEqDiff,Nat.reduceLeDiff,Nat.reduceBEq,reduceCtorEq,TYX]
    exact fun _ _ => nx _ ⟨rfl,rfl,rfl,rfl,trivial⟩
  · have hik : i = a.length := by omega
    subst hik
    clear hN
    simp +contextual only [x12,ints_len,↓U12,↓XP,XQ,XM,cellsOf,okc,one1,resOne,resAll,eqCells,cellEq,fits,sameK,ne_eq,ite_true,ite_false,Nat.reduceSub,Nat.reduceAdd,Nat.reduceMul,Nat.reduceEqDiff,Nat.reduceLeDiff,Nat.reduceBEq,reduceCtorEq,TYX]
    refine fun _ => hE _ _ _ ?_
    simp +contextual only [x12,ints_len,↓U12,↓XP,XQ,XM,cellsOf,okc,one1,resOne,resAll,eqCells,cellEq,fits,sameK,ne_eq,ite_true,ite_false,Nat.reduceSub,Nat.reduceAdd,Nat.reduceMul,Nat.reduceEqDiff,Nat.reduceLeDiff,Nat.reduceBEq,reduceCtorEq,TYX]
    exact h
theorem f_trip {l : List Int} {a cut : Int} {s : List UInt8} {H : AH} {R : D → AH → Prop} (h : R (.bool true) H) : ACall Tryd.prog 3 [.slc (ints l),.int .i64 a,.str s,.int .i64 cut] H R := by
  refine b3 fun hf => ?_
  have hbig := big_eq
  simp +contextual only [x3,bytesD_len,↓U3,↓XP,XQ,XM,cellsOf,okc,one1,resOne,resAll,eqCells,cellEq,fits,sameK,ne_eq,ite_true,ite_false,Nat.reduceSub,Nat.reduceAdd,Nat.reduceMul,Nat.reduceEqDiff,Nat.reduceLeDiff,Nat.reduceBEq,reduceCtorEq,TYX]
  refine f_some fun p hp => ?_
  have hd : p.d = [.int .i64 p.o,.int .i64 p.s,.int .i64 p.day,.slc (refsD p.needs),.slc (opsD p.ops),.str p.sl] := rfl
  simp +contextual only [x3,bytesD_len,hd,↓U3,↓XP,XQ,XM,cellsOf,okc,one1,resOne,resAll,eqCells,cellEq,fits,sameK,ne_eq,ite_true,ite_false,Nat.reduceSub,Nat.reduceAdd,Nat.reduceMul,Nat.reduceEqDiff,Nat.reduceLeDiff,Nat.reduceBEq,reduceCtorEq,TYX]
  intro b9 h9
  refine f_short (n := 1200) (by omega) ?_
  obtain ⟨g1,g2,g3,g4⟩ := seal_good (s := s.take 1200) hp (by simp; omega)
  obtain ⟨q,hq⟩ : ∃ q : Pt,{ p with sl := s.take 1200 } = q := ⟨_,rfl⟩
  rw [hq] at g1 g2 g3 g4
  have hqd : q.d = [.int .i64 p.o,.int .i64 p.s,.int .i64 p.day,.slc (refsD p.needs),.slc (opsD p.ops),.str (s.take 1200)] := by rw [← hq]; rfl
  simp +contextual only [x3,bytesD_len,↓U3,↓XP,XQ,XM,cellsOf,okc,one1,resOne,resAll,eqCells,cellEq,fits,sameK,ne_eq,ite_true,ite_false,Nat.reduceSub,Nat.reduceAdd,Nat.reduceMul,Nat.reduceEqDiff,Nat.reduceLeDiff,Nat.reduceBEq,reduceCtorEq,TYX]
  simp only [← hqd]
  refine fun _ => f_iEncode g2 ?_
  have hg : encE q = 0 := g1
  have hdec := decode_good g1
  obtain ⟨eb,heb⟩ : ∃ eb,encPt q = eb := ⟨_,rfl⟩
  rw [hg,if_pos rfl,heb]
  rw [heb] at g3 g4 hdec
  simp +contextual only [x3,bytesD_len,↓U3,↓XP,XQ,XM,cellsOf,okc,one1,resOne,resAll,eqCells,cellEq,fits,sameK,ne_eq,ite_true,ite_false,Nat.reduceSub,Nat.reduceAdd,Nat.reduceMul,Nat.reduceEqDiff,Nat.reduceLeDiff,Nat.reduceBEq,reduceCtorEq,TYX]
  refine fun _ _ => f_decode (b := eb) (by omega) ?_
  rw [hdec]
  simp +contextual only [x3,bytesD_len,hqd,↓U3,↓XP,XQ,XM,cellsOf,okc,one1,resOne,resAll,eqCells,cellEq,fits,sameK,ne_eq,ite_true,ite_false,Nat.reduceSub,Nat.reduceAdd,Nat.reduceMul,Nat.reduceEqDiff,Nat.reduceLeDiff,Nat.reduceBEq,reduceCtorEq,TYX]
  intro _ b12 h12
  have n9 : b9 ≠ b12 := h12.1
  have n9' : b12 ≠ b9 := Ne.symm n9
  simp only [← hqd]
  simp +contextual only [x3,bytesD_len,hqd,h_miss n9,h_miss n9',↓U3,↓XP,XQ,XM,cellsOf,okc,one1,resOne,resAll,eqCells,cellEq,fits,sameK,ne_eq,ite_true,ite_false,Nat.reduceSub,Nat.reduceAdd,Nat.reduceMul,Nat.reduceEqDiff,Nat.reduceLeDiff,Nat.reduceBEq,reduceCtorEq,TYX]
  simp only [← hqd]
  refine f_same (p := q) ?_
  simp +contextual only [x3,bytesD_len,hqd,h_miss n9,↓U3,↓XP,XQ,XM,cellsOf,okc,one1,resOne,resAll,eqCells,cellEq,fits,sameK,ne_eq,ite_true,ite_false,Nat.reduceSub,Nat.reduceAdd,Nat.reduceMul,Nat.reduceEqDiff,Nat.reduceLeDiff,Nat.reduceBEq,reduceCtorEq,TYX]
  simp only [← hqd]
  refine f_iEncode g2 ?_
  rw [hg,if_pos rfl,heb]
  simp +contextual only [x3,bytesD_len,↓U3,↓XP,XQ,XM,cellsOf,okc,one1,resOne,resAll,eqCells,cellEq,fits,sameK,ne_eq,ite_true,ite_false,Nat.reduceSub,Nat.reduceAdd,Nat.reduceMul,Nat.reduceEqDiff,Nat.reduceLeDiff,Nat.reduceBEq,reduceCtorEq,TYX]
  refine fun _ _ => f_around (by omega) ?_
  obtain ⟨r1,r2⟩ := around_range (n := cut) (most := (eb.length : Int)) (by omega)
  obtain ⟨k,hk⟩ := Int.eq_ofNat_of_zero_le r1
  rw [hk] at r2 ⊢
  have hkl : k < eb.length := by omega
  have hbad : decodeI (eb.take k) = (pt0,2) := decode_bad fun q' hq' e => enc_prefix g1 hq' (k := k) (by rw [heb]; exact hkl) (by rw [heb]; exact e)
  have htk : ((eb.map byteD).take k).drop 0 = (eb.take k).map byteD := by rw [List.drop_zero,List.map_take]
  simp +contextual only [x3,bytesD_len,htk,Int.toNat_natCast,↓U3,↓XP,XQ,XM,cellsOf,okc,one1,resOne,resAll,eqCells,cellEq,fits,sameK,ne_eq,ite_true,ite_false,Nat.reduceSub,Nat.reduceAdd,Nat.reduceMul,Nat.reduceEqDiff,Nat.reduceLeDiff,Nat.reduceBEq,reduceCtorEq,TYX]
  refine fun _ => ⟨bytes_1,by omega,f_decode (b := eb.take k) (by simp; omega) ?_⟩
  rw [hbad]
  simp +contextual only [x3,bytesD_len,↓U3,↓XP,XQ,XM,cellsOf,okc,one1,resOne,resAll,eqCells,cellEq,fits,sameK,ne_eq,ite_true,ite_false,Nat.reduceSub,Nat.reduceAdd,Nat.reduceMul,Nat.reduceEqDiff,Nat.reduceLeDiff,Nat.reduceBEq,reduceCtorEq,TYX]
  intro _ b16 h16
  have n1216 : b12 ≠ b16 := h16.1
  have n916 : b9 ≠ b16 := h16.2.1
  refine ⟨rfl,f_wGetInts (b := eb) (by omega) ?_⟩
  obtain ⟨kk,hint⟩ : ∃ kk,decInts eb = ([p.o,p.s,p.day],kk,0) := by
    have e : eb = encInts [p.o,p.s,p.day] ++ (encInts (needNums p.needs) ++ (encInt p.ops.length ++ (p.ops.flatMap encOp ++ encBytes (s.take 1200)))) := by
      rw [← heb,← hq]
      simp only [encPt,List.append_assoc]
    refine ⟨(encInts [p.o,p.s,p.day]).length,?_⟩
    rw [e]
    refine ints_enc (l := [p.o,p.s,p.day]) ?_ (by simp)
    intro x hx
    have h1 := hp.q.oo
    have h2 := hp.q.ss
    have h3 := hp.s
    have h4 := hp.dy
    simp only [List.mem_cons,List.not_mem_nil,or_false] at hx
    rw [inR_i64]
    rcases hx with rfl | rfl | rfl <;> omega
  rw [hint]
  simp +contextual only [x3,bytesD_len,↓U3,↓XP,XQ,XM,cellsOf,okc,one1,resOne,resAll,eqCells,cellEq,fits,sameK,ne_eq,ite_true,ite_false,Nat.reduceSub,Nat.reduceAdd,Nat.reduceMul,Nat.reduceEqDiff,Nat.reduceLeDiff,Nat.reduceBEq,reduceCtorEq,TYX]
  refine fun _ _ _ => f_same01 (a := eb) (b := eb) ?_
  rw [decide_eq_true rfl]
  have i3 : ints [p.o,p.s,p.day] = [[D.int .i64 p.o],[.int .i64 p.s],[.int .i64 p.day]] := rfl
  simp +contextual only [x3,bytesD_len,hqd,h_miss n9,h_miss n1216,h_miss n916,show ((2 : Int) = 2) = True from eq_true rfl,↓U3,↓XP,XQ,XM,cellsOf,okc,one1,resOne,resAll,eqCells,cellEq,fits,sameK,ne_eq,ite_true,ite_false,Nat.reduceSub,Nat.reduceAdd,Nat.reduceMul,Nat.reduceEqDiff,Nat.reduceLeDiff,Nat.reduceBEq,reduceCtorEq,TYX]
  simp only [← i3]
  refine fun _ _ _ => f_sameInts ?_
  simp +contextual only [x3,bytesD_len,↓U3,↓XP,XQ,XM,cellsOf,okc,one1,resOne,resAll,eqCells,cellEq,fits,sameK,ne_eq,ite_true,ite_false,Nat.reduceSub,Nat.reduceAdd,Nat.reduceMul,Nat.reduceEqDiff,Nat.reduceLeDiff,Nat.reduceBEq,reduceCtorEq,TYX]
  refine f_lives ?_
  simp +contextual only [x3,bytesD_len,↓U3,↓XP,XQ,XM,cellsOf,okc,one1,resOne,resAll,eqCells,cellEq,fits,sameK,ne_eq,ite_true,ite_false,Nat.reduceSub,Nat.reduceAdd,Nat.reduceMul,Nat.reduceEqDiff,Nat.reduceLeDiff,Nat.reduceBEq,reduceCtorEq,TYX]
  exact h
end Go.Proofs.YtoeckfegggongaaDoor
end
