/- The statement of EvidenceDays in its second form: for every input within the bound the call returns true, writes nothing that was there, and its arguments read as before. Conditions: none but the statement's own bound. -/
import Derived.Test.YtffbjejmobhpkaaC23
set_option linter.unusedVariables false
set_option linter.unusedSimpArgs false
set_option maxRecDepth 100000
set_option maxHeartbeats 16000000
open Nat renaming reduceSub → qa,reduceAdd → qb,reduceMul → qc,reduceEqDiff → qd,reduceLeDiff → qe,reduceBEq → qf
section
namespace Go.Proofs.Ytffbjejmobhpkaa
open Go Go.Aw
theorem ex_sm : Small exB := ex_gen.small
theorem ex_ix : IxOk (ixP exB) := ex_gen.ix
theorem okS {b : Bk} (hg : Gen b) {x : Id3} : (senL b x).length ≤ 1073741824 ∧ ∀ t ∈ senL b x,OkI t.id := by
 have h1 : senL b x = b.qt.filterMap (evX b x) := look_evM
 refine ⟨?_,fun t ht=>?_⟩
 ·rw [h1]
  have := List.length_filterMap_le (evX b x) b.qt
  have := hg.qt
  omega
 ·rw [h1] at ht
  obtain ⟨q,hq,he⟩ := List.mem_filterMap.1 ht
  unfold evX at he
  split at he
  ·rename_i y t' hh
   split at he
   ·injection he with he
    subst he
    unfold evQ at hh
    split at hh
    ·split at hh
     ·injection hh with hh
      injection hh with _ hh
      rw [← hh]
      exact hg.qi q hq
     ·cases hh
    ·cases hh
   ·cases he
  ·cases he
theorem f_lives {H : AH} {R : D → AH → Prop} (h : R (.bool true) H) : ACall Try.prog 17 [] H R := by
 refine b17 fun hf=>?_
 have hbig := big_eq
 simp +contextual only [x17,mapD_len,↓U17,↓XP,↓XU,XW0,XW1,qa,qb,qc,qd,qe,qf,reduceCtorEq,TYX]
 refine f_example ?_
 have hbd : exB.d = [.slc (mapD En.d exB.en),.slc (mapD Sn.d exB.sn),.slc (mapD Sr.d exB.sr),.slc (mapD Qt.d exB.qt),.slc (mapD Spl.d exB.sl),.slc (mapD Mg.d exB.mg),.slc (mapD Ch.d exB.ch)] := rfl
 have hid : ∀ i : Int,Id3.d ⟨0,1,i⟩ = [.int .i64 0,.int .i64 1,.int .i64 i] := fun _=>rfl
 simp +contextual only [x17,mapD_len,hbd,↓U17,↓XP,↓XU,XW0,XW1,qa,qb,qc,qd,qe,qf,reduceCtorEq,TYX]
 intro b1 h1
 refine ⟨_,fun _ _=>f_id ⟨rfl,rfl⟩,?_⟩
 simp +contextual only [x17,mapD_len,hid,↓U17,↓XP,↓XU,XW0,XW1,qa,qb,qc,qd,qe,qf,reduceCtorEq,TYX]
 refine ⟨_,fun _ _=>f_first (b := exB) ex_sm ex_ix (x := exI 1) (okS ex_gen).1 (okS ex_gen).2 ⟨rfl,rfl⟩,?_⟩
 rw [ex_1,ex_f]
 have hs1 : Sp.d ⟨10,17⟩ = [.int .i64 10,.int .i64 17] := rfl
 simp +contextual only [x17,mapD_len,hs1,↓U17,↓XP,↓XU,XW0,XW1,qa,qb,qc,qd,qe,qf,reduceCtorEq,TYX]
 refine fun _=>⟨by omega,?_⟩
 rintro b2 ⟨n12,h2⟩
 intros
 refine ⟨_,fun _ _=>f_id ⟨rfl,rfl⟩,?_⟩
 simp +contextual only [x17,mapD_len,hid,h_miss,h_skip,n12,↓U17,↓XP,↓XU,XW0,XW1,qa,qb,qc,qd,qe,qf,reduceCtorEq,TYX]
 refine ⟨_,fun _ _=>f_attested (b := exB) ex_sm ex_ix (x := exI 1) (t := 12) ⟨rfl,rfl⟩,?_⟩
 rw [show attP exB (exI 1) 12 = (false,true) by unfold attP; rw [ex_1]; rfl]
 simp +contextual only [x17,mapD_len,h_miss,h_skip,n12,↓U17,↓XP,↓XU,XW0,XW1,qa,qb,qc,qd,qe,qf,reduceCtorEq,TYX]
 refine ⟨_,fun _ _=>f_id ⟨rfl,rfl⟩,?_⟩
 simp +contextual only [x17,mapD_len,hid,h_miss,h_skip,n12,↓U17,↓XP,↓XU,XW0,XW1,qa,qb,qc,qd,qe,qf,reduceCtorEq,TYX]
 refine ⟨_,fun _ _=>f_attested (b := exB) ex_sm ex_ix (x := exI 1) (t := 17) ⟨rfl,rfl⟩,?_⟩
 rw [show attP exB (exI 1) 17 = (true,true) by unfold attP; rw [ex_1]; rfl]
 simp +contextual only [x17,mapD_len,h_miss,h_skip,n12,↓U17,↓XP,↓XU,XW0,XW1,qa,qb,qc,qd,qe,qf,reduceCtorEq,TYX]
 refine ⟨_,fun _ _=>f_id ⟨rfl,rfl⟩,?_⟩
 simp +contextual only [x17,mapD_len,hid,h_miss,h_skip,n12,↓U17,↓XP,↓XU,XW0,XW1,qa,qb,qc,qd,qe,qf,reduceCtorEq,TYX]
 refine ⟨_,fun _ _=>f_attested (b := exB) ex_sm ex_ix (x := exI 1) (t := 9) ⟨rfl,rfl⟩,?_⟩
 rw [show attP exB (exI 1) 9 = (false,false) by unfold attP; rw [ex_1]; rfl]
 simp +contextual only [x17,mapD_len,h_miss,h_skip,n12,↓U17,↓XP,↓XU,XW0,XW1,qa,qb,qc,qd,qe,qf,reduceCtorEq,TYX]
 refine f_id ?_
 simp +contextual only [x17,mapD_len,hid,h_miss,h_skip,n12,↓U17,↓XP,↓XU,XW0,XW1,qa,qb,qc,qd,qe,qf,reduceCtorEq,TYX]
 refine f_id ?_
 simp +contextual only [x17,mapD_len,hid,h_miss,h_skip,n12,↓U17,↓XP,↓XU,XW0,XW1,qa,qb,qc,qd,qe,qf,reduceCtorEq,TYX]
 refine f_id ?_
 simp +contextual only [x17,mapD_len,hid,h_miss,h_skip,n12,↓U17,↓XP,↓XU,XW0,XW1,qa,qb,qc,qd,qe,qf,reduceCtorEq,TYX]
 refine f_id ?_
 simp +contextual only [x17,mapD_len,hid,h_miss,h_skip,n12,↓U17,↓XP,↓XU,XW0,XW1,qa,qb,qc,qd,qe,qf,reduceCtorEq,TYX]
 refine f_id ?_
 simp +contextual only [x17,mapD_len,hid,h_miss,h_skip,n12,↓U17,↓XP,↓XU,XW0,XW1,qa,qb,qc,qd,qe,qf,reduceCtorEq,TYX]
 refine f_id ?_
 simp +contextual only [x17,mapD_len,hid,h_miss,h_skip,n12,↓U17,↓XP,↓XU,XW0,XW1,qa,qb,qc,qd,qe,qf,reduceCtorEq,TYX]
 refine f_id ?_
 simp +contextual only [x17,mapD_len,hid,h_miss,h_skip,n12,↓U17,↓XP,↓XU,XW0,XW1,qa,qb,qc,qd,qe,qf,reduceCtorEq,TYX]
 refine f_id ?_
 simp +contextual only [x17,mapD_len,hid,h_miss,h_skip,n12,↓U17,↓XP,↓XU,XW0,XW1,qa,qb,qc,qd,qe,qf,reduceCtorEq,TYX]
 refine f_same (l := [exI 5,exI 6]) (q := [exI 5,exI 6]) ?_
 rw [decide_eq_true rfl]
 simp +contextual only [x17,mapD_len,h_miss,h_skip,n12,↓U17,↓XP,↓XU,XW0,XW1,qa,qb,qc,qd,qe,qf,reduceCtorEq,TYX]
 refine f_Order (b := exB) ex_sm ex_ix (l := [exI 3,exI 2,exI 1]) (by simp) (fun x hx=>by simp only [List.mem_cons,List.not_mem_nil,or_false] at hx; rcases hx with rfl | rfl | rfl <;> exact okz (by simp [exI])) fun m hp hs=>?_
 rw [ord_of hp hs ex_o (fun y=>List.Perm.mem_iff (by decide))]
 simp +contextual only [x17,mapD_len,h_miss,h_skip,n12,↓U17,↓XP,↓XU,XW0,XW1,qa,qb,qc,qd,qe,qf,reduceCtorEq,TYX]
 intros
 refine f_same (l := [exI 1,exI 2,exI 3]) (q := [exI 1,exI 2,exI 3]) ?_
 rw [decide_eq_true rfl]
 simp +contextual only [x17,mapD_len,h_miss,h_skip,n12,↓U17,↓XP,↓XU,XW0,XW1,qa,qb,qc,qd,qe,qf,reduceCtorEq,TYX]
 refine f_chain (b := exB) ex_sm ex_ix (l := [exI 3,exI 2,exI 1]) (by simp) (fun x hx=>by simp only [List.mem_cons,List.not_mem_nil,or_false] at hx; rcases hx with rfl | rfl | rfl <;> simp [ex_1,ex_2,ex_3]) ?_
 rw [show chP exB [exI 3,exI 2,exI 1] ([exI 3,exI 2,exI 1].length + 1) 0 = [exI 1,exI 2,exI 3] from ex_c]
 simp +contextual only [x17,mapD_len,h_miss,h_skip,n12,↓U17,↓XP,↓XU,XW0,XW1,qa,qb,qc,qd,qe,qf,reduceCtorEq,TYX]
 intros
 refine f_same (l := [exI 1,exI 2,exI 3]) (q := [exI 1,exI 2,exI 3]) ?_
 rw [decide_eq_true rfl]
 simp +contextual only [x17,mapD_len,h_miss,h_skip,n12,↓U17,↓XP,↓XU,XW0,XW1,qa,qb,qc,qd,qe,qf,reduceCtorEq,TYX]
 refine ⟨_,fun _ _=>f_id ⟨rfl,rfl⟩,?_⟩
 simp +contextual only [x17,mapD_len,hid,h_miss,h_skip,n12,↓U17,↓XP,↓XU,XW0,XW1,qa,qb,qc,qd,qe,qf,reduceCtorEq,TYX]
 refine ⟨_,fun _ _=>f_id ⟨rfl,rfl⟩,?_⟩
 simp +contextual only [x17,mapD_len,hid,h_miss,h_skip,n12,↓U17,↓XP,↓XU,XW0,XW1,qa,qb,qc,qd,qe,qf,reduceCtorEq,TYX]
 refine ⟨_,fun _ _=>f_before (b := exB) ex_sm ex_ix (x := exI 1) (y := exI 2) ⟨rfl,rfl⟩,?_⟩
 rw [show befP exB (exI 1) (exI 2) = true by unfold befP; rw [ex_1,ex_2]; rfl]
 simp +contextual only [x17,mapD_len,h_miss,h_skip,n12,↓U17,↓XP,↓XU,XW0,XW1,qa,qb,qc,qd,qe,qf,reduceCtorEq,TYX]
 refine ⟨_,fun _ _=>f_id ⟨rfl,rfl⟩,?_⟩
 simp +contextual only [x17,mapD_len,hid,h_miss,h_skip,n12,↓U17,↓XP,↓XU,XW0,XW1,qa,qb,qc,qd,qe,qf,reduceCtorEq,TYX]
 refine ⟨_,fun _ _=>f_id ⟨rfl,rfl⟩,?_⟩
 simp +contextual only [x17,mapD_len,hid,h_miss,h_skip,n12,↓U17,↓XP,↓XU,XW0,XW1,qa,qb,qc,qd,qe,qf,reduceCtorEq,TYX]
 refine ⟨_,fun _ _=>f_before (b := exB) ex_sm ex_ix (x := exI 2) (y := exI 1) ⟨rfl,rfl⟩,?_⟩
 rw [show befP exB (exI 2) (exI 1) = false by unfold befP; rw [ex_1,ex_2]; rfl]
 simp +contextual only [x17,mapD_len,h_miss,h_skip,n12,↓U17,↓XP,↓XU,XW0,XW1,qa,qb,qc,qd,qe,qf,reduceCtorEq,TYX]
 exact h
end Go.Proofs.Ytffbjejmobhpkaa
end
section
namespace Go.Proofs.Ytffbjejmobhpkaa
open Go Go.Aw
theorem dat_eq {b : Bk} {x : Id3} : datP b x = rDt b x := by unfold datP rDt; rw [look_dates]
structure QdLp where
 i : Nat
 l : List Qt
theorem f_quoted {b : Bk} (hg : Gen b) {x : Id3} {H : AH} {R : D → AH → Prop} (h : R (.tup [.slc (mapD Id3.d ((rEvd b x).map Qt.id)),.slc (mapD Sp.d ((rEvd b x).map (spQ b)))]) H) : ACall Try.prog 28 [.agg b.d,.agg x.d] H R := by
 refine ACall.view (b28 fun hf=>?_)
 have hbig := big_eq
 have hqt := hg.qt
 have hbd : b.d = [.slc (mapD En.d b.en),.slc (mapD Sn.d b.sn),.slc (mapD Sr.d b.sr),.slc (mapD Qt.d b.qt),.slc (mapD Spl.d b.sl),.slc (mapD Mg.d b.mg),.slc (mapD Ch.d b.ch)] := rfl
 have hxd : x.d = [.int .i64 x.o,.int .i64 x.s,.int .i64 x.i] := rfl
 simp +contextual only [x28,mapD_len,hbd,hxd,↓U28,↓XP,↓XU,XW0,XW1,qa,qb,qc,qd,qe,qf,reduceCtorEq,TYX]
 rintro b2 h2 b3 ⟨n23,h3⟩
 simp only [← hbd,← hxd]
 refine XW.loopS Go.Proofs.Ytffbjejmobhpkaa.hm 68 (fun s : QdLp=>[(2,.ptr b2 0),(3,.ptr b3 0),(6,.own (mapD Id3.d (s.l.map Qt.id))),(7,.own (mapD Sp.d (s.l.map (spQ b)))),(8,.int .i64 ((s.i : Nat) : Int))]) (fun s=>(b3,AO.cells x.d) :: (b2,.cells b.d) :: H) (fun s=>b.qt.length - s.i) (fun s=>s.i ≤ b.qt.length ∧ (b.qt.take s.i).filter (isEv b x) = s.l) ⟨0,[]⟩ ⟨by simp,rfl⟩ ⟨rfl,rfl,rfl,rfl,rfl,rfl,trivial⟩ rfl ?_
 rintro ⟨i,l⟩ z ⟨hi,hst⟩ K hN hE hR
 dsimp only at hi hst
 have hll : l.length ≤ i := by rw [← hst]; exact Nat.le_trans (List.length_filter_le _ _) (by rw [List.length_take]; omega)
 show xcode _ _ [z 0,z 1,.ptr b2 0,.ptr b3 0,z 4,z 5,.own (mapD Id3.d (l.map Qt.id)),.own (mapD Sp.d (l.map (spQ b))),.int .i64 ((i : Nat) : Int),z 9,z 10,z 11,z 12,z 13,z 14,z 15,z 16,z 17,z 18,z 19,z 20,z 21,z 22,z 23,z 24,z 25,z 26,z 27,z 28,z 29,z 30,z 31,z 32,z 33,z 34,z 35,z 36,z 37,z 38,z 39,z 40,z 41,z 42,z 43,z 44,z 45,z 46,z 47,z 48,z 49,z 50,z 51,z 52,z 53,z 54,z 55,z 56,z 57,z 58,z 59,z 60,z 61,z 62,z 63,z 64,z 65,z 66,z 67] _ K
 by_cases hlt : i < b.qt.length
 ·have g := mapD_get (f := Qt.d) hlt
  have hlt' : ((i : Int) < (b.qt.length : Int)) = True := eq_true (by omega)
  have hstep : (b.qt.take (i + 1)).filter (isEv b x) = if isEv b x (b.qt.getD i default) = true then l ++ [b.qt.getD i default] else l := by
   rw [take_succ hlt,List.filter_append,hst]
   split
   ·rename_i h; rw [List.filter_cons_of_pos h]; rfl
   ·rename_i h; rw [List.filter_cons_of_neg h]; simp
  generalize b.qt.getD i default = q at g hstep
  have hqd : q.d = [.int .i64 q.id.o,.int .i64 q.id.s,.int .i64 q.id.i,.int .i64 q.sense.o,.int .i64 q.sense.s,.int .i64 q.sense.i,.int .i64 q.source.o,.int .i64 q.source.s,.int .i64 q.source.i,.int .i64 q.page,.str q.text] := rfl
  have hap : mapD Id3.d (l.map Qt.id) ++ [[.int .i64 q.id.o,.int .i64 q.id.s,.int .i64 q.id.i]] = mapD Id3.d ((l ++ [q]).map Qt.id) := by rw [List.map_append,← mapD_app]; rfl
  have hap2 : ∀ u w,spQ b q = ⟨u,w⟩ → mapD Sp.d (l.map (spQ b)) ++ [[.int .i64 u,.int .i64 w]] = mapD Sp.d ((l ++ [q]).map (spQ b)) := fun u w e=>by rw [List.map_append,← mapD_app,List.map_singleton,e]; rfl
  have hie : isEv b x q = (decide ((rRes b id0 q.sense).2 = 0) && (decide ((rRes b id0 q.sense).1 = x) && (rDt b q.source).2)) := rfl
  simp +contextual only [x28,mapD_len,hbd,hxd,g,hqd,hlt',h_miss,h_skip,n23,↓U28,↓XP,↓XU,XW0,XW1,qa,qb,qc,qd,qe,qf,reduceCtorEq,TYX]
  intros
  refine ⟨_,fun _ _=>f_Resolve hg.small hg.ix (fr := id0) (to := q.sense) ⟨rfl,rfl⟩,?_⟩
  rw [res_eq]
  generalize rRes b id0 q.sense = rr at hie
  obtain ⟨y,e⟩ := rr
  dsimp only at hie
  have hyd : y.d = [.int .i64 y.o,.int .i64 y.s,.int .i64 y.i] := rfl
  simp +contextual only [x28,mapD_len,hbd,hxd,g,hqd,hlt',hyd,h_miss,h_skip,n23,↓U28,↓XP,↓XU,XW0,XW1,qa,qb,qc,qd,qe,qf,reduceCtorEq,TYX]
  refine fun _=>⟨by omega,?_⟩
  rintro b9 ⟨n39,n29,h9⟩ _
  refine ⟨_,fun _ _=>f_date (b := b) (x := q.source) ⟨rfl,rfl⟩,?_⟩
  rw [dat_eq]
  have hsq : spQ b q = (rDt b q.source).1 := rfl
  generalize rDt b q.source = rd at hie hsq
  obtain ⟨⟨u,w⟩,v⟩ := rd
  dsimp only at hie hsq
  have hsd : spB (⟨u,w⟩,v) = .tup [.agg [.int .i64 u,.int .i64 w],.bool v] := rfl
  rw [hsd]
  have hap3 := hap2 u w hsq
  have hd := id_dec (x := y) (y := x)
  simp +contextual only [x28,mapD_len,hbd,hxd,g,hqd,hlt',hyd,h_miss,h_skip,n23,n39,n29,↓U28,↓XP,↓XU,XW0,XW1,qa,qb,qc,qd,qe,qf,reduceCtorEq,TYX]
  refine ⟨by omega,?_⟩
  rintro b11 ⟨n911,n311,n211,h11⟩
  rcases Classical.em (e = 0) with he | he
  ·rcases Classical.em (y = x) with hy | hy
   ·cases v with
    | true =>
     rw [if_pos (show isEv b x q = true by rw [hie,decide_eq_true he,decide_eq_true hy]; rfl)] at hstep
     simp +contextual only [x28,mapD_len,hbd,hxd,g,hqd,hlt',hd,eq_true he,eq_true hy,hap,hap3,h_miss,h_skip,n23,n39,n29,n911,n311,n211,wrap_succ (show i ≤ big by omega),↓U28,↓XP,↓XU,XW0,XW1,qa,qb,qc,qd,qe,qf,reduceCtorEq,TYX]
     simp only [← hbd,← hxd]
     intros
     refine ⟨mapD_sz fun _=>rfl,by omega,mapD_sz fun _=>rfl,by omega,hN ⟨i + 1,l ++ [q]⟩ _ _ ⟨hlt,hstep⟩ (by dsimp only; omega) ⟨rfl,rfl,rfl,rfl,rfl,rfl,trivial⟩ (back_2 rfl)⟩
    | false =>
     rw [if_neg (show ¬ isEv b x q = true by rw [hie,decide_eq_true he,decide_eq_true hy]; decide)] at hstep
     simp +contextual only [x28,mapD_len,hbd,hxd,g,hqd,hlt',hd,eq_true he,eq_true hy,h_miss,h_skip,n23,n39,n29,n911,n311,n211,wrap_succ (show i ≤ big by omega),↓U28,↓XP,↓XU,XW0,XW1,qa,qb,qc,qd,qe,qf,reduceCtorEq,TYX]
     simp only [← hbd,← hxd]
     intros
     exact hN ⟨i + 1,l⟩ _ _ ⟨hlt,hstep⟩ (by dsimp only; omega) ⟨rfl,rfl,rfl,rfl,rfl,rfl,trivial⟩ (back_2 rfl)
   ·rw [if_neg (show ¬ isEv b x q = true by rw [hie,decide_eq_true he,decide_eq_false hy]; simp)] at hstep
    simp +contextual only [x28,mapD_len,hbd,hxd,g,hqd,hlt',hd,eq_true he,eq_false hy,h_miss,h_skip,n23,n39,n29,n911,n311,n211,wrap_succ (show i ≤ big by omega),↓U28,↓XP,↓XU,XW0,XW1,qa,qb,qc,qd,qe,qf,reduceCtorEq,TYX]
    simp only [← hbd,← hxd]
    intros
    exact hN ⟨i + 1,l⟩ _ _ ⟨hlt,hstep⟩ (by dsimp only; omega) ⟨rfl,rfl,rfl,rfl,rfl,rfl,trivial⟩ (back_2 rfl)
  ·rw [if_neg (show ¬ isEv b x q = true by rw [hie,decide_eq_false he]; simp)] at hstep
   simp +contextual only [x28,mapD_len,hbd,hxd,g,hqd,hlt',hd,eq_false he,h_miss,h_skip,n23,n39,n29,n911,n311,n211,wrap_succ (show i ≤ big by omega),↓U28,↓XP,↓XU,XW0,XW1,qa,qb,qc,qd,qe,qf,reduceCtorEq,TYX]
   simp only [← hbd,← hxd]
   intros
   exact hN ⟨i + 1,l⟩ _ _ ⟨hlt,hstep⟩ (by dsimp only; omega) ⟨rfl,rfl,rfl,rfl,rfl,rfl,trivial⟩ (back_2 rfl)
 ·have hik : i = b.qt.length := by omega
  subst hik
  rw [List.take_length] at hst
  simp +contextual only [x28,mapD_len,hbd,hxd,h_miss,h_skip,n23,↓U28,↓XP,↓XU,XW0,XW1,qa,qb,qc,qd,qe,qf,reduceCtorEq,TYX]
  intros
  refine hE _ _ _ ?_
  simp +contextual only [x28,mapD_len,hbd,hxd,h_miss,h_skip,n23,↓U28,↓XP,↓XU,XW0,XW1,qa,qb,qc,qd,qe,qf,reduceCtorEq,TYX]
  rw [← hst]
  exact h
end Go.Proofs.Ytffbjejmobhpkaa
end
section
namespace Go.Proofs.Ytffbjejmobhpkaa
open Go Go.Aw
def dayQ (b : Bk) (k : List Int) (q : Nat) (y : Qt) : Int := (spQ b y).a + atOf k q ((spQ b y).b - (spQ b y).a + 1)
theorem dayQ_in {b : Bk} {k : List Int} {q : Nat} {y : Qt} (h : OkSpan (spQ b y)) : (spQ b y).a ≤ dayQ b k q y ∧ dayQ b k q y ≤ (spQ b y).b := by
 unfold OkSpan at h
 have := atOf_range (l := k) (i := q) (most := (spQ b y).b - (spQ b y).a + 1) (by omega)
 unfold dayQ
 omega
structure LstI (b : Bk) (l : List Qt) (n : Nat) (d : Int) : Prop where
 up : ∀ y ∈ l.take n,d ≤ (spQ b y).b
 lo : ∀ c,c ≤ 1073741824 → (∀ y ∈ l,c ≤ (spQ b y).a) → c ≤ d
 hi : d ≤ 1073741824
theorem LstI.step {b : Bk} {k : List Int} {l : List Qt} {n : Nat} {d : Int} (h : LstI b l n d) (hn : n < l.length) (ho : ∀ y ∈ l,OkSpan (spQ b y)) : LstI b l (n + 1) (if dayQ b k n (l.getD n default) < d then dayQ b k n (l.getD n default) else d) := by
 have hm := getD_mem hn
 have hd := dayQ_in (k := k) (q := n) (ho _ hm)
 have hs := ho _ hm
 unfold OkSpan at hs
 refine ⟨fun y hy=>?_,fun c h1 h2=>?_,?_⟩
 ·rw [take_succ hn] at hy
  rcases List.mem_append.1 hy with hy | hy
  ·have := h.up y hy
   split <;> omega
  ·rw [List.mem_singleton.1 hy]
   split <;> omega
 ·have := h.lo c h1 h2
  have := h2 _ hm
  split <;> omega
 ·have := h.hi
  split <;> omega
theorem getD_map {f : Qt → Sp} {l : List Qt} {n : Nat} (h : n < l.length) : (l.map f).getD n default = f (l.getD n default) := by
 rw [getD_lt h,getD_lt (by rw [List.length_map]; exact h),List.getElem_map]
theorem getD_mapI {f : Qt → Id3} {l : List Qt} {n : Nat} (h : n < l.length) : (l.map f).getD n default = f (l.getD n default) := by
 rw [getD_lt h,getD_lt (by rw [List.length_map]; exact h),List.getElem_map]
theorem canA_take {b : Bk} {l : List Qt} {q : Qt} {i : Nat} (h : i < l.length) : canA b (l.take (i + 1)) q = (canA b (l.take i) q && decide ((spQ b q).a ≤ (spQ b (l.getD i default)).b)) := by
 unfold canA
 rw [take_succ h,List.all_append]
 simp
theorem canB_take {b : Bk} {t : Int} {l : List Qt} {q : Qt} {i : Nat} (h : i < l.length) : canB b t (l.take (i + 1)) q = (canB b t (l.take i) q || decide ((l.getD i default).id = q.id ∧ (spQ b (l.getD i default)).a ≤ t)) := by
 unfold canB
 rw [take_succ h,List.any_append]
 simp
theorem f_mDays {l m k : List Int} {H : AH} {R : D → AH → Prop} (h : R (.bool true) H) : ACall Try.prog 8 [.slc (mapD intD l),.slc (mapD intD m),.slc (mapD intD k)] H R := by
 refine b8 fun hf=>?_
 have hbig := big_eq
 simp +contextual only [x8,mapD_len,↓U8,↓XP,↓XU,XW0,XW1,qa,qb,qc,qd,qe,qf,reduceCtorEq,TYX]
 refine f_book21 fun b hg hsn=>?_
 have hbd : b.d = [.slc (mapD En.d b.en),.slc (mapD Sn.d b.sn),.slc (mapD Sr.d b.sr),.slc (mapD Qt.d b.qt),.slc (mapD Spl.d b.sl),.slc (mapD Mg.d b.mg),.slc (mapD Ch.d b.ch)] := rfl
 have hsn9 := hg.sn
 rw [hbd]
 simp +contextual only [x8,mapD_len,↓U8,↓XP,↓XU,XW0,XW1,qa,qb,qc,qd,qe,qf,reduceCtorEq,TYX]
 intro b7 h7
 simp only [← hbd]
 refine XW.loopS Go.Proofs.Ytffbjejmobhpkaa.hm 180 (fun i : Nat=>[(0,.slc (mapD intD l)),(1,.slc (mapD intD m)),(2,.slc (mapD intD k)),(7,.ptr b7 0),(8,.int .i64 ((i : Nat) : Int))]) (fun i=>(b7,AO.cells b.d) :: H) (fun i=>b.sn.length - i) (fun i=>i ≤ b.sn.length) 0 (by omega) ⟨rfl,rfl,rfl,rfl,rfl,rfl,trivial⟩ rfl ?_
 rintro i z hi K hN hE hR
 have hN' := hN (i + 1)
 clear hN
 show xcode _ _ [.slc (mapD intD l),.slc (mapD intD m),.slc (mapD intD k),z 3,z 4,z 5,z 6,.ptr b7 0,.int .i64 ((i : Nat) : Int),z 9,z 10,z 11,z 12,z 13,z 14,z 15,z 16,z 17,z 18,z 19,z 20,z 21,z 22,z 23,z 24,z 25,z 26,z 27,z 28,z 29,z 30,z 31,z 32,z 33,z 34,z 35,z 36,z 37,z 38,z 39,z 40,z 41,z 42,z 43,z 44,z 45,z 46,z 47,z 48,z 49,z 50,z 51,z 52,z 53,z 54,z 55,z 56,z 57,z 58,z 59,z 60,z 61,z 62,z 63,z 64,z 65,z 66,z 67,z 68,z 69,z 70,z 71,z 72,z 73,z 74,z 75,z 76,z 77,z 78,z 79,z 80,z 81,z 82,z 83,z 84,z 85,z 86,z 87,z 88,z 89,z 90,z 91,z 92,z 93,z 94,z 95,z 96,z 97,z 98,z 99,z 100,z 101,z 102,z 103,z 104,z 105,z 106,z 107,z 108,z 109,z 110,z 111,z 112,z 113,z 114,z 115,z 116,z 117,z 118,z 119,z 120,z 121,z 122,z 123,z 124,z 125,z 126,z 127,z 128,z 129,z 130,z 131,z 132,z 133,z 134,z 135,z 136,z 137,z 138,z 139,z 140,z 141,z 142,z 143,z 144,z 145,z 146,z 147,z 148,z 149,z 150,z 151,z 152,z 153,z 154,z 155,z 156,z 157,z 158,z 159,z 160,z 161,z 162,z 163,z 164,z 165,z 166,z 167,z 168,z 169,z 170,z 171,z 172,z 173,z 174,z 175,z 176,z 177,z 178,z 179] _ K
 by_cases hlt : i < b.sn.length
 ·have hlt' : ((i : Int) < (b.sn.length : Int)) = True := eq_true (by omega)
  have g := mapD_get (f := Sn.d) hlt
  generalize b.sn.getD i default = sn at g
  have hsnd : sn.d = [.int .i64 sn.id.o,.int .i64 sn.id.s,.int .i64 sn.id.i,.int .i64 sn.par.o,.int .i64 sn.par.s,.int .i64 sn.par.i,.slc (mapD Vl.d sn.gl),.slc (mapD Vl.d sn.ord),.slc (mapD Vl.d sn.pub),.slc (mapD Vl.d sn.wo),.slc (mapD Tr.d sn.tr),.slc (mapD Bn.d sn.bi),.slc (mapD strD sn.la),.slc (mapD Id3.d sn.li)] := rfl
  generalize sn.id = x at hsnd
  have hxd : x.d = [.int .i64 x.o,.int .i64 x.s,.int .i64 x.i] := rfl
  simp +contextual only [x8,mapD_len,hbd,hlt',g,hsnd,Int.toNat_natCast,↓U8,↓XP,↓XU,XW0,XW1,qa,qb,qc,qd,qe,qf,reduceCtorEq,TYX]
  intro _ b9
  rintro ⟨n79,h9⟩
  refine f_quoted hg (b := b) (x := x) ?_
  have hes : ∀ y ∈ rEvd b x,OkSpan (spQ b y) := fun y hy=>spQ_ok hy
  have hrr : rRis b x = (risO b (rEvd b x),decide (0 < (rEvd b x).length)) := rfl
  have hle := ris_le (b := b) (l := rEvd b x)
  have hlb := fun c hne=>ris_glb (b := b) (l := rEvd b x) (c := c) hne
  have hcan := fun q hq=>can_eq (b := b) (x := x) (q := q) hq
  have hfl0 : rEvd b x = [] → rFst b x = [] := fun e=>by unfold rFst; rw [e]; rfl
  have hri0 : rEvd b x = [] → risO b (rEvd b x) = sp0 := fun e=>by rw [e]; rfl
  have hel : (rEvd b x).length ≤ 11 := Nat.le_trans (List.length_filter_le _ _) hg.qt
  have hcall := fun H R h=>f_first (H := H) (R := R) hg.small hg.ix (b := b) (x := x) (okS hg).1 (okS hg).2 h
  rw [fir_eq,senP_eq,hrr] at hcall
  rw [hrr] at hcan
  generalize rEvd b x = es at hes hrr hle hlb hcan hfl0 hri0 hel hcall
  generalize rFst b x = fl at hcan hfl0 hcall
  clear hrr
  generalize risO b es = ri at hle hlb hcan hri0 hcall
  obtain ⟨u,w⟩ := ri
  have hsd : Sp.d ⟨u,w⟩ = [.int .i64 u,.int .i64 w] := rfl
  dsimp only at hle hlb hcan hri0 hcall
  simp +contextual only [x8,mapD_len,hbd,hxd,h_miss,h_skip,n79,↓U8,↓XP,↓XU,XW0,XW1,qa,qb,qc,qd,qe,qf,reduceCtorEq,TYX]
  intros
  refine hcall _ _ ?_
  have tail : ∀ (F : List D) (vv : Bool) (b12 : Nat),(vv = true → es ≠ []) → ¬ b9 = b12 → ¬ b7 = b12 → Fr 180 [(0,.slc (mapD intD l)),(1,.slc (mapD intD m)),(2,.slc (mapD intD k)),(7,.ptr b7 0),(8,.int .i64 ((i : Nat) : Int)),(9,.ptr b9 0),(10,.slc (mapD Id3.d (es.map Qt.id))),(11,.slc (mapD Sp.d (es.map (spQ b)))),(12,.ptr b12 0),(13,.slc (mapD Id3.d fl)),(14,.bool vv),(15,.int .i64 1073741824),(16,.int .i64 ((0 : Nat) : Int))] F → XW Try.prog x8_L3 F ((b12,AO.cells [.int .i64 u,.int .i64 w]) :: (b9,AO.cells [.int .i64 x.o,.int .i64 x.s,.int .i64 x.i]) :: (b7,.cells b.d) :: H) (blockQ 2 (seqQ Try.prog x8_s14 (blockQ 1 (seqQ Try.prog x8_s19 K)))) := by
   intro F v b12 hv n912 n712 hF
   refine XW.loopS Go.Proofs.Ytffbjejmobhpkaa.hm 180 (fun s : Nat × Int=>[(0,.slc (mapD intD l)),(1,.slc (mapD intD m)),(2,.slc (mapD intD k)),(7,.ptr b7 0),(8,.int .i64 ((i : Nat) : Int)),(9,.ptr b9 0),(10,.slc (mapD Id3.d (es.map Qt.id))),(11,.slc (mapD Sp.d (es.map (spQ b)))),(12,.ptr b12 0),(13,.slc (mapD Id3.d fl)),(14,.bool v),(15,.int .i64 s.2),(16,.int .i64 ((s.1 : Nat) : Int))]) (fun s=>(b12,AO.cells [.int .i64 u,.int .i64 w]) :: (b9,AO.cells [.int .i64 x.o,.int .i64 x.s,.int .i64 x.i]) :: (b7,.cells b.d) :: H) (fun s=>es.length - s.1) (fun s=>s.1 ≤ es.length ∧ LstI b es s.1 s.2) (0,1073741824) ⟨by simp,⟨by simp,fun c h1 _=>h1,Int.le_refl _⟩⟩ hF rfl ?_
   rintro ⟨n,d⟩ z ⟨hn,hls⟩ K2 hN2 hE2 hR2
   dsimp only at hn hls
   show xcode _ _ [.slc (mapD intD l),.slc (mapD intD m),.slc (mapD intD k),z 3,z 4,z 5,z 6,.ptr b7 0,.int .i64 ((i : Nat) : Int),.ptr b9 0,.slc (mapD Id3.d (es.map Qt.id)),.slc (mapD Sp.d (es.map (spQ b))),.ptr b12 0,.slc (mapD Id3.d fl),.bool v,.int .i64 d,.int .i64 ((n : Nat) : Int),z 17,z 18,z 19,z 20,z 21,z 22,z 23,z 24,z 25,z 26,z 27,z 28,z 29,z 30,z 31,z 32,z 33,z 34,z 35,z 36,z 37,z 38,z 39,z 40,z 41,z 42,z 43,z 44,z 45,z 46,z 47,z 48,z 49,z 50,z 51,z 52,z 53,z 54,z 55,z 56,z 57,z 58,z 59,z 60,z 61,z 62,z 63,z 64,z 65,z 66,z 67,z 68,z 69,z 70,z 71,z 72,z 73,z 74,z 75,z 76,z 77,z 78,z 79,z 80,z 81,z 82,z 83,z 84,z 85,z 86,z 87,z 88,z 89,z 90,z 91,z 92,z 93,z 94,z 95,z 96,z 97,z 98,z 99,z 100,z 101,z 102,z 103,z 104,z 105,z 106,z 107,z 108,z 109,z 110,z 111,z 112,z 113,z 114,z 115,z 116,z 117,z 118,z 119,z 120,z 121,z 122,z 123,z 124,z 125,z 126,z 127,z 128,z 129,z 130,z 131,z 132,z 133,z 134,z 135,z 136,z 137,z 138,z 139,z 140,z 141,z 142,z 143,z 144,z 145,z 146,z 147,z 148,z 149,z 150,z 151,z 152,z 153,z 154,z 155,z 156,z 157,z 158,z 159,z 160,z 161,z 162,z 163,z 164,z 165,z 166,z 167,z 168,z 169,z 170,z 171,z 172,z 173,z 174,z 175,z 176,z 177,z 178,z 179] _ K2
   by_cases hlt2 : n < es.length
   ·have hlt2' : ((n : Int) < (es.length : Int)) = True := eq_true (by omega)
    have g2 := mapD_get (f := Sp.d) (l := es.map (spQ b)) (i := n) (by rw [List.length_map]; exact hlt2)
    rw [getD_map hlt2] at g2
    have hst := hls.step (k := k) hlt2 hes
    have hok := hes _ (getD_mem hlt2)
    have hdy := dayQ_in (k := k) (q := n) hok
    have hdd : dayQ b k n (es.getD n default) = (spQ b (es.getD n default)).a + atOf k n ((spQ b (es.getD n default)).b - (spQ b (es.getD n default)).a + 1) := rfl
    generalize dayQ b k n (es.getD n default) = dq at hst hdy hdd
    generalize spQ b (es.getD n default) = sq at g2 hok hdy hdd
    obtain ⟨a1,b1⟩ := sq
    have hq2 : Sp.d ⟨a1,b1⟩ = [.int .i64 a1,.int .i64 b1] := rfl
    have hok' := hok
    unfold OkSpan at hok'
    dsimp only at hok' hdy hdd
    simp +contextual only [x8,mapD_len,hlt2',g2,hq2,Int.toNat_natCast,h_miss,h_skip,n79,n912,n712,↓U8,↓XP,↓XU,XW0,XW1,qa,qb,qc,qd,qe,qf,reduceCtorEq,TYX]
    intros
    refine f_span (x := ⟨a1,b1⟩) ?_
    rw [decide_eq_true hok]
    simp +contextual only [x8,mapD_len,hlt2',g2,hq2,Int.toNat_natCast,wrap_id (n := b1 - a1) (by omega) (by omega),wrap_id (n := b1 - a1 + 1) (by omega) (by omega),h_miss,h_skip,n79,n912,n712,↓U8,↓XP,↓XU,XW0,XW1,qa,qb,qc,qd,qe,qf,reduceCtorEq,TYX]
    intros
    refine ⟨_,fun _ _=>f_at (l := k) (i := n) (most := b1 - a1 + 1) (by omega) ⟨rfl,rfl⟩,?_⟩
    rw [show atOf k n (b1 - a1 + 1) = dq - a1 by omega]
    simp +contextual only [x8,mapD_len,hlt2',wrap_id (n := a1 + (dq - a1)) (by omega) (by omega),show a1 + (dq - a1) = dq by omega,wrap_id (n := dq) (by omega) (by omega),wrap_succ (show n ≤ big by omega),h_miss,h_skip,n79,n912,n712,↓U8,↓XP,↓XU,XW0,XW1,qa,qb,qc,qd,qe,qf,reduceCtorEq,TYX]
    intros
    exact hN2 (n + 1,if dq < d then dq else d) _ _ ⟨hlt2,hst⟩ (by dsimp only; omega) ⟨rfl,rfl,rfl,rfl,rfl,rfl,rfl,rfl,rfl,rfl,rfl,rfl,rfl,rfl,trivial⟩ (back_0 rfl)
   ·have hnn : n = es.length := by omega
    subst hnn
    have hup := hls.up
    rw [List.take_length] at hup
    have hud : v = true → u ≤ d ∧ d ≤ w := fun e=>by
     have hne := hv e
     have hm := getD_mem (List.length_pos_iff.2 hne)
     have h1 := (hle _ hm).1
     have h2 := hes _ hm
     unfold OkSpan at h2
     exact ⟨hls.lo u (by omega) fun y hy=>(hle y hy).1,hlb d hne hup⟩
    simp +contextual only [x8,mapD_len,↓U8,↓XP,↓XU,XW0,XW1,qa,qb,qc,qd,qe,qf,reduceCtorEq,TYX]
    intros
    refine hE2 _ _ _ ?_
    clear hN2 hE2 hR2 hls hup
    have hA1 : v = true → (d < u) = False := fun e=>eq_false (by have := hud e; omega)
    have hA2 : v = true → (w < d) = False := fun e=>eq_false (by have := hud e; omega)
    have tail2 : ∀ F,Fr 180 [(0,.slc (mapD intD l)),(1,.slc (mapD intD m)),(2,.slc (mapD intD k)),(7,.ptr b7 0),(8,.int .i64 ((i : Nat) : Int)),(9,.ptr b9 0),(10,.slc (mapD Id3.d (es.map Qt.id))),(11,.slc (mapD Sp.d (es.map (spQ b)))),(12,.ptr b12 0),(13,.slc (mapD Id3.d fl)),(14,.bool v),(17,.int .i64 ((0 : Nat) : Int))] F → XW Try.prog x8_L13 F ((b12,AO.cells [.int .i64 u,.int .i64 w]) :: (b9,AO.cells [.int .i64 x.o,.int .i64 x.s,.int .i64 x.i]) :: (b7,.cells b.d) :: H) (blockQ 4 (blockQ 1 (seqQ Try.prog x8_s19 K))) := by
     intro F hF
     refine XW.loopS Go.Proofs.Ytffbjejmobhpkaa.hm 180 (fun n : Nat=>[(0,.slc (mapD intD l)),(1,.slc (mapD intD m)),(2,.slc (mapD intD k)),(7,.ptr b7 0),(8,.int .i64 ((i : Nat) : Int)),(9,.ptr b9 0),(10,.slc (mapD Id3.d (es.map Qt.id))),(11,.slc (mapD Sp.d (es.map (spQ b)))),(12,.ptr b12 0),(13,.slc (mapD Id3.d fl)),(14,.bool v),(17,.int .i64 ((n : Nat) : Int))]) (fun n=>(b12,AO.cells [.int .i64 u,.int .i64 w]) :: (b9,AO.cells [.int .i64 x.o,.int .i64 x.s,.int .i64 x.i]) :: (b7,.cells b.d) :: H) (fun n=>es.length - n) (fun n=>n ≤ es.length) 0 (by omega) hF rfl ?_
     rintro n z hn K hN hE hR
     have hN2 := hN (n + 1)
     clear hN
     show xcode _ _ [.slc (mapD intD l),.slc (mapD intD m),.slc (mapD intD k),z 3,z 4,z 5,z 6,.ptr b7 0,.int .i64 ((i : Nat) : Int),.ptr b9 0,.slc (mapD Id3.d (es.map Qt.id)),.slc (mapD Sp.d (es.map (spQ b))),.ptr b12 0,.slc (mapD Id3.d fl),.bool v,z 15,z 16,.int .i64 ((n : Nat) : Int),z 18,z 19,z 20,z 21,z 22,z 23,z 24,z 25,z 26,z 27,z 28,z 29,z 30,z 31,z 32,z 33,z 34,z 35,z 36,z 37,z 38,z 39,z 40,z 41,z 42,z 43,z 44,z 45,z 46,z 47,z 48,z 49,z 50,z 51,z 52,z 53,z 54,z 55,z 56,z 57,z 58,z 59,z 60,z 61,z 62,z 63,z 64,z 65,z 66,z 67,z 68,z 69,z 70,z 71,z 72,z 73,z 74,z 75,z 76,z 77,z 78,z 79,z 80,z 81,z 82,z 83,z 84,z 85,z 86,z 87,z 88,z 89,z 90,z 91,z 92,z 93,z 94,z 95,z 96,z 97,z 98,z 99,z 100,z 101,z 102,z 103,z 104,z 105,z 106,z 107,z 108,z 109,z 110,z 111,z 112,z 113,z 114,z 115,z 116,z 117,z 118,z 119,z 120,z 121,z 122,z 123,z 124,z 125,z 126,z 127,z 128,z 129,z 130,z 131,z 132,z 133,z 134,z 135,z 136,z 137,z 138,z 139,z 140,z 141,z 142,z 143,z 144,z 145,z 146,z 147,z 148,z 149,z 150,z 151,z 152,z 153,z 154,z 155,z 156,z 157,z 158,z 159,z 160,z 161,z 162,z 163,z 164,z 165,z 166,z 167,z 168,z 169,z 170,z 171,z 172,z 173,z 174,z 175,z 176,z 177,z 178,z 179] _ K
     by_cases hlt2 : n < es.length
     ·have hlt2' : ((n : Int) < (es.length : Int)) = True := eq_true (by omega)
      have hn0 : ((0 : Int) ≤ (n : Int)) = True := eq_true (by omega)
      have gi := mapD_get (f := Id3.d) (l := es.map Qt.id) (i := n) (by rw [List.length_map]; exact hlt2)
      have gs := mapD_get (f := Sp.d) (l := es.map (spQ b)) (i := n) (by rw [List.length_map]; exact hlt2)
      rw [getD_mapI hlt2] at gi
      rw [getD_map hlt2] at gs
      have hq := hcan _ (getD_mem hlt2)
      have hcA := fun r (h : r < es.length)=>canA_take (b := b) (q := es.getD n default) h
      have hcB := fun r (h : r < es.length)=>canB_take (b := b) (t := w) (q := es.getD n default) h
      generalize es.getD n default = q at gi gs hq hcA hcB
      have hid : q.id.d = [.int .i64 q.id.o,.int .i64 q.id.s,.int .i64 q.id.i] := rfl
      generalize hsq : spQ b q = sq at gs hcA
      obtain ⟨a1,b1⟩ := sq
      have hq2 : Sp.d ⟨a1,b1⟩ = [.int .i64 a1,.int .i64 b1] := rfl
      dsimp only at hcA
      simp +contextual only [x8,mapD_len,hlt2',List.length_map,↓U8,↓XP,↓XU,XW0,XW1,qa,qb,qc,qd,qe,qf,reduceCtorEq,TYX]
      intros
      refine XW.loopS Go.Proofs.Ytffbjejmobhpkaa.hm 180 (fun r : Nat=>[(0,.slc (mapD intD l)),(1,.slc (mapD intD m)),(2,.slc (mapD intD k)),(7,.ptr b7 0),(8,.int .i64 ((i : Nat) : Int)),(9,.ptr b9 0),(10,.slc (mapD Id3.d (es.map Qt.id))),(11,.slc (mapD Sp.d (es.map (spQ b)))),(12,.ptr b12 0),(13,.slc (mapD Id3.d fl)),(14,.bool v),(17,.int .i64 ((n : Nat) : Int)),(18,.bool (canA b (es.take r) q)),(19,.int .i64 ((r : Nat) : Int))]) (fun r=>(b12,AO.cells [.int .i64 u,.int .i64 w]) :: (b9,AO.cells [.int .i64 x.o,.int .i64 x.s,.int .i64 x.i]) :: (b7,.cells b.d) :: H) (fun r=>es.length - r) (fun r=>r ≤ es.length) 0 (by omega) ⟨rfl,rfl,rfl,rfl,rfl,rfl,rfl,rfl,rfl,rfl,rfl,rfl,rfl,rfl,rfl,trivial⟩ rfl ?_
      rintro r z hr K3 hN3 hE3 hR3
      have hN3' := hN3 (r + 1)
      clear hN3
      show xcode _ _ [.slc (mapD intD l),.slc (mapD intD m),.slc (mapD intD k),z 3,z 4,z 5,z 6,.ptr b7 0,.int .i64 ((i : Nat) : Int),.ptr b9 0,.slc (mapD Id3.d (es.map Qt.id)),.slc (mapD Sp.d (es.map (spQ b))),.ptr b12 0,.slc (mapD Id3.d fl),.bool v,z 15,z 16,.int .i64 ((n : Nat) : Int),.bool (canA b (es.take r) q),.int .i64 ((r : Nat) : Int),z 20,z 21,z 22,z 23,z 24,z 25,z 26,z 27,z 28,z 29,z 30,z 31,z 32,z 33,z 34,z 35,z 36,z 37,z 38,z 39,z 40,z 41,z 42,z 43,z 44,z 45,z 46,z 47,z 48,z 49,z 50,z 51,z 52,z 53,z 54,z 55,z 56,z 57,z 58,z 59,z 60,z 61,z 62,z 63,z 64,z 65,z 66,z 67,z 68,z 69,z 70,z 71,z 72,z 73,z 74,z 75,z 76,z 77,z 78,z 79,z 80,z 81,z 82,z 83,z 84,z 85,z 86,z 87,z 88,z 89,z 90,z 91,z 92,z 93,z 94,z 95,z 96,z 97,z 98,z 99,z 100,z 101,z 102,z 103,z 104,z 105,z 106,z 107,z 108,z 109,z 110,z 111,z 112,z 113,z 114,z 115,z 116,z 117,z 118,z 119,z 120,z 121,z 122,z 123,z 124,z 125,z 126,z 127,z 128,z 129,z 130,z 131,z 132,z 133,z 134,z 135,z 136,z 137,z 138,z 139,z 140,z 141,z 142,z 143,z 144,z 145,z 146,z 147,z 148,z 149,z 150,z 151,z 152,z 153,z 154,z 155,z 156,z 157,z 158,z 159,z 160,z 161,z 162,z 163,z 164,z 165,z 166,z 167,z 168,z 169,z 170,z 171,z 172,z 173,z 174,z 175,z 176,z 177,z 178,z 179] _ K3
      by_cases hlt3 : r < es.length
      ·have hlt3' : ((r : Int) < (es.length : Int)) = True := eq_true (by omega)
       have gr := mapD_get (f := Sp.d) (l := es.map (spQ b)) (i := r) (by rw [List.length_map]; exact hlt3)
       rw [getD_map hlt3] at gr
       rw [hcA r hlt3] at hN3'
       generalize canA b (es.take r) q = cA at hN3'
       generalize spQ b (es.getD r default) = sr at gr hN3'
       obtain ⟨a2,b2⟩ := sr
       have hr2 : Sp.d ⟨a2,b2⟩ = [.int .i64 a2,.int .i64 b2] := rfl
       dsimp only at hN3'
       cases cA with
       | false =>
        simp +contextual only [x8,mapD_len,hlt3',List.length_map,Int.toNat_natCast,wrap_succ (show r ≤ big by omega),↓U8,↓XP,↓XU,XW0,XW1,qa,qb,qc,qd,qe,qf,reduceCtorEq,TYX]
        intros
        exact hN3' _ _ hlt3 (by omega) ⟨rfl,rfl,rfl,rfl,rfl,rfl,rfl,rfl,rfl,rfl,rfl,rfl,rfl,rfl,rfl,trivial⟩ (back_0 rfl)
       | true =>
        rcases Classical.em (a1 ≤ b2) with c1 | c1
        ·rw [decide_eq_true c1] at hN3'
         simp +contextual only [x8,mapD_len,hlt2',hlt3',List.length_map,gs,hq2,gr,hr2,eq_true c1,Int.toNat_natCast,wrap_succ (show r ≤ big by omega),↓U8,↓XP,↓XU,XW0,XW1,qa,qb,qc,qd,qe,qf,reduceCtorEq,TYX]
         intros
         exact hN3' _ _ hlt3 (by omega) ⟨rfl,rfl,rfl,rfl,rfl,rfl,rfl,rfl,rfl,rfl,rfl,rfl,rfl,rfl,rfl,trivial⟩ (back_0 rfl)
        ·rw [decide_eq_false c1] at hN3'
         simp +contextual only [x8,mapD_len,hlt2',hlt3',List.length_map,gs,hq2,gr,hr2,eq_false c1,Int.toNat_natCast,wrap_succ (show r ≤ big by omega),↓U8,↓XP,↓XU,XW0,XW1,qa,qb,qc,qd,qe,qf,reduceCtorEq,TYX]
         intros
         exact hN3' _ _ hlt3 (by omega) ⟨rfl,rfl,rfl,rfl,rfl,rfl,rfl,rfl,rfl,rfl,rfl,rfl,rfl,rfl,rfl,trivial⟩ (back_0 rfl)
      ·have hrr : r = es.length := by omega
       subst hrr
       simp +contextual only [x8,mapD_len,List.length_map,↓U8,↓XP,↓XU,XW0,XW1,qa,qb,qc,qd,qe,qf,reduceCtorEq,TYX]
       intros
       refine hE3 _ _ _ ?_
       clear hN3' hE3 hR3
       rw [List.take_length]
       simp +contextual only [x8,mapD_len,List.length_map,↓U8,↓XP,↓XU,XW0,XW1,qa,qb,qc,qd,qe,qf,reduceCtorEq,TYX]
       intros
       refine XW.loopS Go.Proofs.Ytffbjejmobhpkaa.hm 180 (fun r : Nat=>[(0,.slc (mapD intD l)),(1,.slc (mapD intD m)),(2,.slc (mapD intD k)),(7,.ptr b7 0),(8,.int .i64 ((i : Nat) : Int)),(9,.ptr b9 0),(10,.slc (mapD Id3.d (es.map Qt.id))),(11,.slc (mapD Sp.d (es.map (spQ b)))),(12,.ptr b12 0),(13,.slc (mapD Id3.d fl)),(14,.bool v),(17,.int .i64 ((n : Nat) : Int)),(18,.bool (canA b es q || canB b w (es.take r) q)),(20,.int .i64 ((r : Nat) : Int))]) (fun r=>(b12,AO.cells [.int .i64 u,.int .i64 w]) :: (b9,AO.cells [.int .i64 x.o,.int .i64 x.s,.int .i64 x.i]) :: (b7,.cells b.d) :: H) (fun r=>es.length - r) (fun r=>r ≤ es.length) 0 (by omega) (by rw [show canB b w (es.take 0) q = false from rfl,Bool.or_false]; exact ⟨rfl,rfl,rfl,rfl,rfl,rfl,rfl,rfl,rfl,rfl,rfl,rfl,rfl,rfl,rfl,trivial⟩) rfl ?_
       rintro r z hr K3 hN3 hE3 hR3
       have hN3' := hN3 (r + 1)
       clear hN3
       show xcode _ _ [.slc (mapD intD l),.slc (mapD intD m),.slc (mapD intD k),z 3,z 4,z 5,z 6,.ptr b7 0,.int .i64 ((i : Nat) : Int),.ptr b9 0,.slc (mapD Id3.d (es.map Qt.id)),.slc (mapD Sp.d (es.map (spQ b))),.ptr b12 0,.slc (mapD Id3.d fl),.bool v,z 15,z 16,.int .i64 ((n : Nat) : Int),.bool (canA b es q || canB b w (es.take r) q),z 19,.int .i64 ((r : Nat) : Int),z 21,z 22,z 23,z 24,z 25,z 26,z 27,z 28,z 29,z 30,z 31,z 32,z 33,z 34,z 35,z 36,z 37,z 38,z 39,z 40,z 41,z 42,z 43,z 44,z 45,z 46,z 47,z 48,z 49,z 50,z 51,z 52,z 53,z 54,z 55,z 56,z 57,z 58,z 59,z 60,z 61,z 62,z 63,z 64,z 65,z 66,z 67,z 68,z 69,z 70,z 71,z 72,z 73,z 74,z 75,z 76,z 77,z 78,z 79,z 80,z 81,z 82,z 83,z 84,z 85,z 86,z 87,z 88,z 89,z 90,z 91,z 92,z 93,z 94,z 95,z 96,z 97,z 98,z 99,z 100,z 101,z 102,z 103,z 104,z 105,z 106,z 107,z 108,z 109,z 110,z 111,z 112,z 113,z 114,z 115,z 116,z 117,z 118,z 119,z 120,z 121,z 122,z 123,z 124,z 125,z 126,z 127,z 128,z 129,z 130,z 131,z 132,z 133,z 134,z 135,z 136,z 137,z 138,z 139,z 140,z 141,z 142,z 143,z 144,z 145,z 146,z 147,z 148,z 149,z 150,z 151,z 152,z 153,z 154,z 155,z 156,z 157,z 158,z 159,z 160,z 161,z 162,z 163,z 164,z 165,z 166,z 167,z 168,z 169,z 170,z 171,z 172,z 173,z 174,z 175,z 176,z 177,z 178,z 179] _ K3
       by_cases hlt3 : r < es.length
       ·have hlt3' : ((r : Int) < (es.length : Int)) = True := eq_true (by omega)
        have gr := mapD_get (f := Sp.d) (l := es.map (spQ b)) (i := r) (by rw [List.length_map]; exact hlt3)
        have gj := mapD_get (f := Id3.d) (l := es.map Qt.id) (i := r) (by rw [List.length_map]; exact hlt3)
        rw [getD_map hlt3] at gr
        rw [getD_mapI hlt3] at gj
        rw [hcB r hlt3,← Bool.or_assoc] at hN3'
        generalize (canA b es q || canB b w (es.take r) q) = cA at hN3'
        generalize spQ b (es.getD r default) = sr at gr hN3'
        generalize (es.getD r default).id = y at gj hN3'
        obtain ⟨a2,b2⟩ := sr
        have hr2 : Sp.d ⟨a2,b2⟩ = [.int .i64 a2,.int .i64 b2] := rfl
        have hyd : y.d = [.int .i64 y.o,.int .i64 y.s,.int .i64 y.i] := rfl
        have hd := id_dec (x := y) (y := q.id)
        dsimp only at hN3'
        cases cA with
        | true =>
         simp +contextual only [x8,mapD_len,hlt3',List.length_map,Int.toNat_natCast,wrap_succ (show r ≤ big by omega),↓U8,↓XP,↓XU,XW0,XW1,qa,qb,qc,qd,qe,qf,reduceCtorEq,TYX]
         intros
         exact hN3' _ _ hlt3 (by omega) ⟨rfl,rfl,rfl,rfl,rfl,rfl,rfl,rfl,rfl,rfl,rfl,rfl,rfl,rfl,rfl,trivial⟩ (back_0 rfl)
        | false =>
         rcases Classical.em (y = q.id) with c1 | c1
         ·rcases Classical.em (a2 ≤ w) with c2 | c2
          ·rw [decide_eq_true (And.intro c1 c2)] at hN3'
           simp +contextual only [x8,mapD_len,hlt2',hlt3',List.length_map,gi,hid,gj,hyd,hd,gr,hr2,eq_true c1,eq_true c2,Int.toNat_natCast,h_miss,h_skip,n79,n912,n712,wrap_succ (show r ≤ big by omega),↓U8,↓XP,↓XU,XW0,XW1,qa,qb,qc,qd,qe,qf,reduceCtorEq,TYX]
           intros
           exact hN3' _ _ hlt3 (by omega) ⟨rfl,rfl,rfl,rfl,rfl,rfl,rfl,rfl,rfl,rfl,rfl,rfl,rfl,rfl,rfl,trivial⟩ (back_0 rfl)
          ·rw [decide_eq_false (fun e=>c2 e.2)] at hN3'
           simp +contextual only [x8,mapD_len,hlt2',hlt3',List.length_map,gi,hid,gj,hyd,hd,gr,hr2,eq_true c1,eq_false c2,Int.toNat_natCast,h_miss,h_skip,n79,n912,n712,wrap_succ (show r ≤ big by omega),↓U8,↓XP,↓XU,XW0,XW1,qa,qb,qc,qd,qe,qf,reduceCtorEq,TYX]
           intros
           exact hN3' _ _ hlt3 (by omega) ⟨rfl,rfl,rfl,rfl,rfl,rfl,rfl,rfl,rfl,rfl,rfl,rfl,rfl,rfl,rfl,trivial⟩ (back_0 rfl)
         ·rw [decide_eq_false (fun e=>c1 e.1)] at hN3'
          simp +contextual only [x8,mapD_len,hlt2',hlt3',List.length_map,gi,hid,gj,hyd,hd,gr,hr2,eq_false c1,Int.toNat_natCast,h_miss,h_skip,n79,n912,n712,wrap_succ (show r ≤ big by omega),↓U8,↓XP,↓XU,XW0,XW1,qa,qb,qc,qd,qe,qf,reduceCtorEq,TYX]
          intros
          exact hN3' _ _ hlt3 (by omega) ⟨rfl,rfl,rfl,rfl,rfl,rfl,rfl,rfl,rfl,rfl,rfl,rfl,rfl,rfl,rfl,trivial⟩ (back_0 rfl)
       ·have hrr : r = es.length := by omega
        subst hrr
        simp +contextual only [x8,mapD_len,List.length_map,↓U8,↓XP,↓XU,XW0,XW1,qa,qb,qc,qd,qe,qf,reduceCtorEq,TYX]
        intros
        refine hE3 _ _ _ ?_
        clear hN3' hE3 hR3
        rw [List.take_length,hq]
        simp +contextual only [x8,mapD_len,hlt2',gi,hid,List.length_map,Int.toNat_natCast,↓U8,↓XP,↓XU,XW0,XW1,qa,qb,qc,qd,qe,qf,reduceCtorEq,TYX]
        intros
        refine f_has (l := fl) (x := q.id) ?_
        generalize decide (q.id ∈ fl) = vb
        cases vb <;> simp +contextual only [x8,mapD_len,wrap_succ (show n ≤ big by omega),↓U8,↓XP,↓XU,XW0,XW1,qa,qb,qc,qd,qe,qf,reduceCtorEq,TYX]
        all_goals intros
        all_goals exact hN2 _ _ hlt2 (by omega) ⟨rfl,rfl,rfl,rfl,rfl,rfl,rfl,rfl,rfl,rfl,rfl,rfl,rfl,trivial⟩ (back_0 rfl)
     ·have hnn : n = es.length := by omega
      subst hnn
      simp +contextual only [x8,mapD_len,List.length_map,↓U8,↓XP,↓XU,XW0,XW1,qa,qb,qc,qd,qe,qf,reduceCtorEq,TYX]
      intros
      refine hE _ _ _ ?_
      simp +contextual only [x8,mapD_len,wrap_succ (show i ≤ big by omega),↓U8,↓XP,↓XU,XW0,XW1,qa,qb,qc,qd,qe,qf,reduceCtorEq,TYX]
      intros
      exact hN' _ _ hlt (by omega) ⟨rfl,rfl,rfl,rfl,rfl,rfl,trivial⟩ (back_2 rfl)
    cases v with
    | true =>
     simp +contextual only [x8,mapD_len,hA1 rfl,hA2 rfl,h_miss,h_skip,n79,n912,n712,↓U8,↓XP,↓XU,XW0,XW1,qa,qb,qc,qd,qe,qf,reduceCtorEq,TYX]
     intros
     exact tail2 _ ⟨rfl,rfl,rfl,rfl,rfl,rfl,rfl,rfl,rfl,rfl,rfl,rfl,rfl,trivial⟩
    | false =>
     simp +contextual only [x8,mapD_len,h_miss,h_skip,n79,n912,n712,↓U8,↓XP,↓XU,XW0,XW1,qa,qb,qc,qd,qe,qf,reduceCtorEq,TYX]
     intros
     exact tail2 _ ⟨rfl,rfl,rfl,rfl,rfl,rfl,rfl,rfl,rfl,rfl,rfl,rfl,rfl,trivial⟩
  have hz0 : (0 < es.length) ↔ ((0 : Int) < (es.length : Int)) := by omega
  by_cases h0 : es = []
  ·have hp1 : (0 < es.length) = False := by rw [h0]; simp
   have hp2 : ((0 : Int) < (es.length : Int)) = False := by rw [h0]; simp
   have hri := hri0 h0
   injection hri with hu hw
   have hf0 : ((0 : Int) < (fl.length : Int)) = False := by rw [hfl0 h0]; simp
   simp +contextual only [x8,mapD_len,hbd,hxd,hsd,hp1,hp2,decide_false,eq_true hu,eq_true hw,hf0,h_miss,h_skip,n79,↓U8,↓XP,↓XU,XW0,XW1,qa,qb,qc,qd,qe,qf,reduceCtorEq,TYX]
   intro _ b12
   rintro ⟨n912,n712,h12⟩
   intros
   simp only [← hbd]
   exact tail _ false b12 (fun e=>by cases e) n912 n712 ⟨rfl,rfl,rfl,rfl,rfl,rfl,rfl,rfl,rfl,rfl,rfl,rfl,rfl,rfl,trivial⟩
  ·have hpos := List.length_pos_iff.2 h0
   have hp1 : (0 < es.length) = True := eq_true hpos
   have hp2 : ((0 : Int) < (es.length : Int)) = True := eq_true (by omega)
   simp +contextual only [x8,mapD_len,hbd,hxd,hsd,hp1,hp2,decide_true,h_miss,h_skip,n79,↓U8,↓XP,↓XU,XW0,XW1,qa,qb,qc,qd,qe,qf,reduceCtorEq,TYX]
   intro _ b12
   rintro ⟨n912,n712,h12⟩
   intros
   simp only [← hbd]
   exact tail _ true b12 (fun _=>h0) n912 n712 ⟨rfl,rfl,rfl,rfl,rfl,rfl,rfl,rfl,rfl,rfl,rfl,rfl,rfl,rfl,trivial⟩
 ·have hin : i = b.sn.length := by omega
  subst hin
  simp +contextual only [x8,mapD_len,hbd,↓U8,↓XP,↓XU,XW0,XW1,qa,qb,qc,qd,qe,qf,reduceCtorEq,TYX]
  intros
  refine hE _ _ _ ?_
  simp +contextual only [x8,mapD_len,↓U8,↓XP,↓XU,XW0,XW1,qa,qb,qc,qd,qe,qf,reduceCtorEq,TYX]
  refine f_lives ?_
  simp +contextual only [x8,mapD_len,↓U8,↓XP,↓XU,XW0,XW1,qa,qb,qc,qd,qe,qf,reduceCtorEq,TYX]
  exact h
end Go.Proofs.Ytffbjejmobhpkaa
end
section
namespace Go.Proofs.Ytffbjejmobhpkaa.days
open Go Go.Aw Go.RowKit Go.ChangeShapes Go.WideShapes Go.ChangeAt
theorem contract (H : Type) (enc : TypeId × Value → H) (W : World) (base : Nat) (args : Array Value) (ds gs : List (DataW H)) (before : List MemPlace)
  (hval : ∀ (j : Nat) t v,Try.f8.params[j]? = some t → args[j]? = some v → Value.okWide Try.prog W .any base t v)
  (hW : DataW.Whole enc Try.prog Try.f8.params.toList Rows.evidenceDaysSpec.vars false W args.toList ds gs before) (hk : Rows.uptoSmall H (ds ++ gs) = true) :
  Calls Try.prog 8 args W fun e W'=>∃ v,e = .returned v ∧ Rows.evidenceDaysSpec.post enc Try.prog Try.f8 false true false false W args v W' := by
 have hW' := hW
 have hbd := bound hk
 obtain ⟨p,q,hA0,hV,rfl,hfz,hnd⟩ := hW
 have hA : DataW.TrodAll enc Try.prog W 0 (fun _=>true) true Try.f8.params.toList args.toList ds p := hA0
 rw [Try.params8] at hA hval
 obtain ⟨v0,vs0,d0,ds0,p0,q0,hargs,rfl,rfl,h0,r0⟩ := trodAll_cons hA
 obtain ⟨v1,vs1,d1,ds1,p1,q1,rfl,rfl,rfl,h1,r1⟩ := trodAll_cons r0
 obtain ⟨v2,vs2,d2,ds2,p2,q2,rfl,rfl,rfl,h2,r2⟩ := trodAll_cons r1
 obtain ⟨rfl,rfl,rfl⟩ := trodAll_nil r2
 obtain rfl : args = #[v0,v1,v2] := by cases args; simp_all
 obtain ⟨rfl,rfl⟩ := trodVars_none hV
 simp only [List.append_nil,Rows.uptoBulkAll] at hbd
 obtain ⟨l,hq0,e0⟩ := rd_ints.arg1 (by kernel_rfl) (hval 0 _ v0 rfl rfl) h0 (by omega)
 obtain ⟨m,hq1,e1⟩ := rd_ints.arg1 (by kernel_rfl) (hval 1 _ v1 rfl rfl) h1 (by omega)
 obtain ⟨day,hq2,e2⟩ := rd_ints.arg1 (by kernel_rfl) (hval 2 _ v2 rfl rfl) h2 (by omega)
 refine ((f_mDays (l := l) (m := m) (k := day) (H := []) (R := fun d H=>d = .bool true) rfl).calls W _ rfl ?_).mono ?_
 ·intro j d v hd hv
  match j with
  | 0=>cases hd; cases hv; exact e0
  | 1=>cases hd; cases hv; exact e1
  | 2=>cases hd; cases hv; exact e2
  | j + 3=>cases hd
 ·rintro e W' ⟨v,d,H',K',rfl,rfl,hb,hr⟩
  have hv : v = .bool true := by cases hr with | bool=>rfl
  subst hv
  exact ⟨_,rfl,post_true kids full (by rw [Try.params8]; decide) hW' rfl hb rfl Try.underlying4 rfl⟩
theorem lifted (os : Os) (started : os.Started) (H : Type) (enc : TypeId × Value → H) (F : Stop.Interp) :
  ReturnsInHanded {} Try.checked os 8 .any ((Rows.OpenSpec.upto Rows.evidenceDaysSpec).pre6 enc Try.prog Try.f8 Rows.evidenceDaysUptoRow.domain false) (((Rows.OpenSpec.upto Rows.evidenceDaysSpec).at F).post enc Try.prog Try.f8 false true false false) := by
 refine returnsInHanded_of_cond (C := Try.checked) (s := Rows.OpenSpec.upto Rows.evidenceDaysSpec) (k := Rows.uptoSmall) rfl own started (by kernel_rfl) Try.func8
  (OpenSpec.witness (enc := enc) (C := Try.checked) (s := Rows.OpenSpec.upto Rows.evidenceDaysSpec) (k := Rows.uptoSmall) rfl false ⟨#[],#[.slice none 0 0,.slice none 0 0,.slice none 0 0],[]⟩ 8 (by kernel_rfl) (by kernel_rfl) (by kernel_rfl)
   (x := ([.nil,.nil,.nil],[],[])) (by kernel_rfl) rfl (by kernel_rfl)) ?_
 intro W base args ds gs before hval hW _ hk _
 exact contract H enc W base args ds gs before hval hW hk
theorem proved : Rows.EvidenceDaysUptoSaid :=
 OpenClaim.holds_of_cond 8 Try.f8 rfl rfl rfl rfl rfl rfl rfl ⟨rfl,rfl,rfl,rfl,rfl⟩ rfl rfl rfl rfl rfl (by kernel_rfl) Try.func8 (by kernel_rfl)
  (of_decide_eq_true (by kernel_rfl)) (by unfold Func.isWrapper; first | (rw [if_pos (by decide +kernel)]; kernel_rfl) | (rw [if_neg (by decide +kernel)]; exact ⟨rfl,rfl⟩))
  (fun os started H enc _ F=>lifted os started H enc F)
end Go.Proofs.Ytffbjejmobhpkaa.days
end
