/- The statement of EvidenceFirst in its second form: for every input within the bound the call returns true, writes nothing that was there, and its arguments read as before. Conditions: none but the statement's own bound. -/
import Derived.Test.YtffbjejmobhpkaaV27
set_option linter.unusedVariables false
set_option linter.unusedSimpArgs false
set_option maxRecDepth 100000
set_option maxHeartbeats 16000000
open Nat renaming reduceSub → qa,reduceAdd → qb,reduceMul → qc,reduceEqDiff → qd,reduceLeDiff → qe,reduceBEq → qf
section
namespace Go.Proofs.Ytffbjejmobhpkaa
open Go Go.Aw
theorem ex_sm : Small exB := ex_gen.small
theorem ex_ix : IxOk (ixP exB) := ex_gen.ix
theorem okS {b : Bk} (hg : Gen b) {x : Id3} : (senL b x).length ≤ 1073741824 ∧ ∀ t ∈ senL b x,OkI t.id := by
  have h1 : senL b x = b.qt.filterMap (evX b x) := look_evM
  refine ⟨?_,fun t ht => ?_⟩
  · rw [h1]
    have := List.length_filterMap_le (evX b x) b.qt
    have := hg.qt
    omega
  · rw [h1] at ht
    obtain ⟨q,hq,he⟩ := List.mem_filterMap.1 ht
    unfold evX at he
    split at he
    · rename_i y t' hh
      split at he
      · injection he with he
        subst he
        unfold evQ at hh
        split at hh
        · split at hh
          · injection hh with hh
            injection hh with _ hh
            rw [← hh]
            exact hg.qi q hq
          · cases hh
        · cases hh
      · cases he
    · cases he
theorem f_lives {H : AH} {R : D → AH → Prop} (h : R (.bool true) H) : ACall Try.prog 17 [] H R := by
  refine b17 fun hf => ?_
  have hbig := big_eq
  simp +contextual only [x17,mapD_len,↓U17,↓XP,↓XU,XW0,XW1,qa,qb,qc,qd,qe,qf,reduceCtorEq,TYX]
  refine f_example ?_
  have hbd : exB.d = [.slc (mapD En.d exB.en),.slc (mapD Sn.d exB.sn),.slc (mapD Sr.d exB.sr),.slc (mapD Qt.d exB.qt),.slc (mapD Spl.d exB.sl),.slc (mapD Mg.d exB.mg),.slc (mapD Ch.d exB.ch)] := rfl
  have hid : ∀ i : Int,Id3.d ⟨0,1,i⟩ = [.int .i64 0,.int .i64 1,.int .i64 i] := fun _ => rfl
  simp +contextual only [x17,mapD_len,hbd,↓U17,↓XP,↓XU,XW0,XW1,qa,qb,qc,qd,qe,qf,reduceCtorEq,TYX]
  intro b1 h1
  refine ⟨_,fun _ _ => f_id ⟨rfl,rfl⟩,?_⟩
  simp +contextual only [x17,mapD_len,hid,↓U17,↓XP,↓XU,XW0,XW1,qa,qb,qc,qd,qe,qf,reduceCtorEq,TYX]
  refine ⟨_,fun _ _ => f_first (b := exB) ex_sm ex_ix (x := exI 1) (okS ex_gen).1 (okS ex_gen).2 ⟨rfl,rfl⟩,?_⟩
  rw [ex_1,ex_f]
  have hs1 : Sp.d ⟨10,17⟩ = [.int .i64 10,.int .i64 17] := rfl
  simp +contextual only [x17,mapD_len,hs1,↓U17,↓XP,↓XU,XW0,XW1,qa,qb,qc,qd,qe,qf,reduceCtorEq,TYX]
  refine fun _ => ⟨by omega,?_⟩
  rintro b2 ⟨n12,h2⟩
  intros
  refine ⟨_,fun _ _ => f_id ⟨rfl,rfl⟩,?_⟩
  simp +contextual only [x17,mapD_len,hid,h_miss,h_skip,n12,↓U17,↓XP,↓XU,XW0,XW1,qa,qb,qc,qd,qe,qf,reduceCtorEq,TYX]
  refine ⟨_,fun _ _ => f_attested (b := exB) ex_sm ex_ix (x := exI 1) (t := 12) ⟨rfl,rfl⟩,?_⟩
  rw [show attP exB (exI 1) 12 = (false,true) by unfold attP; rw [ex_1]; rfl]
  simp +contextual only [x17,mapD_len,h_miss,h_skip,n12,↓U17,↓XP,↓XU,XW0,XW1,qa,qb,qc,qd,qe,qf,reduceCtorEq,TYX]
  refine ⟨_,fun _ _ => f_id ⟨rfl,rfl⟩,?_⟩
  simp +contextual only [x17,mapD_len,hid,h_miss,h_skip,n12,↓U17,↓XP,↓XU,XW0,XW1,qa,qb,qc,qd,qe,qf,reduceCtorEq,TYX]
  refine ⟨_,fun _ _ => f_attested (b := exB) ex_sm ex_ix (x := exI 1) (t := 17) ⟨rfl,rfl⟩,?_⟩
  rw [show attP exB (exI 1) 17 = (true,true) by unfold attP; rw [ex_1]; rfl]
  simp +contextual only [x17,mapD_len,h_miss,h_skip,n12,↓U17,↓XP,↓XU,XW0,XW1,qa,qb,qc,qd,qe,qf,reduceCtorEq,TYX]
  refine ⟨_,fun _ _ => f_id ⟨rfl,rfl⟩,?_⟩
  simp +contextual only [x17,mapD_len,hid,h_miss,h_skip,n12,↓U17,↓XP,↓XU,XW0,XW1,qa,qb,qc,qd,qe,qf,reduceCtorEq,TYX]
  refine ⟨_,fun _ _ => f_attested (b := exB) ex_sm ex_ix (x := exI 1) (t := 9) ⟨rfl,rfl⟩,?_⟩
  rw [show attP exB (exI 1) 9 = (false,false) by unfold attP; rw [ex_1]; rfl]
  simp +contextual only [x17,mapD_len,h_miss,h_skip,n12,↓U17,↓XP,↓XU,XW0,XW1,qa,qb,qc,qd,qe,qf,reduceCtorEq,TYX]
  refine f_id ?_
  simp +contextual only [x17,mapD_len,hid,h_miss,h_skip,n12,↓U17,↓XP,↓XU,XW0,XW1,qa,qb,qc,qd,qe,qf,reduceCtorEq,TYX]
  refine f_id ?_
  simp +contextual only [x17,mapD_len,hid,h_miss,h_skip,n12,↓U17,↓XP,↓XU,XW0,XW1,qa,qb,qc,qd,qe,qf,reduceCtorEq,TYX]
  refine f_id ?_
  simp +contextual only [x17,mapD_len,hid,h_miss,h_skip,n12,↓U17,↓XP,↓XU,XW0,XW1,qa,qb,qc,qd,qe,qf,reduceCtorEq,TYX]
  refine f_id ?_
  simp +contextual only [x17,mapD_len,hid,h_miss,h_skip,n12,↓U17,↓XP,↓XU,XW0,XW1,qa,qb,qc,qd,qe,qf,reduceCtorEq,TYX]
  refine f_id ?_
  simp +contextual only [x17,mapD_len,hid,h_miss,h_skip,n12,↓U17,↓XP,↓XU,XW0,XW1,qa,qb,qc,qd,qe,qf,reduceCtorEq,TYX]
  refine f_id ?_
  simp +contextual only [x17,mapD_len,hid,h_miss,h_skip,n12,↓U17,↓XP,↓XU,XW0,XW1,qa,qb,qc,qd,qe,qf,reduceCtorEq,TYX]
  refine f_id ?_
  simp +contextual only [x17,mapD_len,hid,h_miss,h_skip,n12,↓U17,↓XP,↓XU,XW0,XW1,qa,qb,qc,qd,qe,qf,reduceCtorEq,TYX]
  refine f_id ?_
  simp +contextual only [x17,mapD_len,hid,h_miss,h_skip,n12,↓U17,↓XP,↓XU,XW0,XW1,qa,qb,qc,qd,qe,qf,reduceCtorEq,TYX]
  refine f_same (l := [exI 5,exI 6]) (q := [exI 5,exI 6]) ?_
  rw [decide_eq_true rfl]
  simp +contextual only [x17,mapD_len,h_miss,h_skip,n12,↓U17,↓XP,↓XU,XW0,XW1,qa,qb,qc,qd,qe,qf,reduceCtorEq,TYX]
  refine f_Order (b := exB) ex_sm ex_ix (l := [exI 3,exI 2,exI 1]) (by simp) (fun x hx => by simp only [List.mem_cons,List.not_mem_nil,or_false] at hx; rcases hx with rfl | rfl | rfl <;> exact okz (by simp [exI])) fun m hp hs => ?_
  rw [ord_of hp hs ex_o (fun y => List.Perm.mem_iff (by decide))]
  simp +contextual only [x17,mapD_len,h_miss,h_skip,n12,↓U17,↓XP,↓XU,XW0,XW1,qa,qb,qc,qd,qe,qf,reduceCtorEq,TYX]
  intros
  refine f_same (l := [exI 1,exI 2,exI 3]) (q := [exI 1,exI 2,exI 3]) ?_
  rw [decide_eq_true rfl]
  simp +contextual only [x17,mapD_len,h_miss,h_skip,n12,↓U17,↓XP,↓XU,XW0,XW1,qa,qb,qc,qd,qe,qf,reduceCtorEq,TYX]
  refine f_chain (b := exB) ex_sm ex_ix (l := [exI 3,exI 2,exI 1]) (by simp) (fun x hx => by simp only [List.mem_cons,List.not_mem_nil,or_false] at hx; rcases hx with rfl | rfl | rfl <;> simp [ex_1,ex_2,ex_3]) ?_
  rw [show chP exB [exI 3,exI 2,exI 1] ([exI 3,exI 2,exI 1].length + 1) 0 = [exI 1,exI 2,exI 3] from ex_c]
  simp +contextual only [x17,mapD_len,h_miss,h_skip,n12,↓U17,↓XP,↓XU,XW0,XW1,qa,qb,qc,qd,qe,qf,reduceCtorEq,TYX]
  intros
  refine f_same (l := [exI 1,exI 2,exI 3]) (q := [exI 1,exI 2,exI 3]) ?_
  rw [decide_eq_true rfl]
  simp +contextual only [x17,mapD_len,h_miss,h_skip,n12,↓U17,↓XP,↓XU,XW0,XW1,qa,qb,qc,qd,qe,qf,reduceCtorEq,TYX]
  refine ⟨_,fun _ _ => f_id ⟨rfl,rfl⟩,?_⟩
  simp +contextual only [x17,mapD_len,hid,h_miss,h_skip,n12,↓U17,↓XP,↓XU,XW0,XW1,qa,qb,qc,qd,qe,qf,reduceCtorEq,TYX]
  refine ⟨_,fun _ _ => f_id ⟨rfl,rfl⟩,?_⟩
  simp +contextual only [x17,mapD_len,hid,h_miss,h_skip,n12,↓U17,↓XP,↓XU,XW0,XW1,qa,qb,qc,qd,qe,qf,reduceCtorEq,TYX]
  refine ⟨_,fun _ _ => f_before (b := exB) ex_sm ex_ix (x := exI 1) (y := exI 2) ⟨rfl,rfl⟩,?_⟩
  rw [show befP exB (exI 1) (exI 2) = true by unfold befP; rw [ex_1,ex_2]; rfl]
  simp +contextual only [x17,mapD_len,h_miss,h_skip,n12,↓U17,↓XP,↓XU,XW0,XW1,qa,qb,qc,qd,qe,qf,reduceCtorEq,TYX]
  refine ⟨_,fun _ _ => f_id ⟨rfl,rfl⟩,?_⟩
  simp +contextual only [x17,mapD_len,hid,h_miss,h_skip,n12,↓U17,↓XP,↓XU,XW0,XW1,qa,qb,qc,qd,qe,qf,reduceCtorEq,TYX]
  refine ⟨_,fun _ _ => f_id ⟨rfl,rfl⟩,?_⟩
  simp +contextual only [x17,mapD_len,hid,h_miss,h_skip,n12,↓U17,↓XP,↓XU,XW0,XW1,qa,qb,qc,qd,qe,qf,reduceCtorEq,TYX]
  refine ⟨_,fun _ _ => f_before (b := exB) ex_sm ex_ix (x := exI 2) (y := exI 1) ⟨rfl,rfl⟩,?_⟩
  rw [show befP exB (exI 2) (exI 1) = false by unfold befP; rw [ex_1,ex_2]; rfl]
  simp +contextual only [x17,mapD_len,h_miss,h_skip,n12,↓U17,↓XP,↓XU,XW0,XW1,qa,qb,qc,qd,qe,qf,reduceCtorEq,TYX]
  exact h
end Go.Proofs.Ytffbjejmobhpkaa
end
section
namespace Go.Proofs.Ytffbjejmobhpkaa
open Go Go.Aw
theorem f_mFirst {l m : List Int} {day : Int} {H : AH} {R : D → AH → Prop} (h : R (.bool true) H) : ACall Try.prog 3 [.slc (mapD intD l),.slc (mapD intD m),.int .i64 day] H R := by
  refine b3 fun hf => ?_
  have hbig := big_eq
  simp +contextual only [x3,mapD_len,↓U3,↓XP,↓XU,XW0,XW1,qa,qb,qc,qd,qe,qf,reduceCtorEq,TYX]
  refine f_book21 fun b hg hsn => ?_
  have hbd : b.d = [.slc (mapD En.d b.en),.slc (mapD Sn.d b.sn),.slc (mapD Sr.d b.sr),.slc (mapD Qt.d b.qt),.slc (mapD Spl.d b.sl),.slc (mapD Mg.d b.mg),.slc (mapD Ch.d b.ch)] := rfl
  have hsn9 := hg.sn
  rw [hbd]
  simp +contextual only [x3,mapD_len,↓U3,↓XP,↓XU,XW0,XW1,qa,qb,qc,qd,qe,qf,reduceCtorEq,TYX]
  intro b7 h7
  simp only [← hbd]
  refine XW.loopS Go.Proofs.Ytffbjejmobhpkaa.hm 111 (fun i : Nat => [(0,.slc (mapD intD l)),(1,.slc (mapD intD m)),(2,.int .i64 day),(7,.ptr b7 0),(8,.int .i64 ((i : Nat) : Int))]) (fun i => (b7,AO.cells b.d) :: H) (fun i => 12 - i) (fun i => i ≤ b.sn.length + 1) 0 (by omega) ⟨rfl,rfl,rfl,rfl,rfl,rfl,trivial⟩ rfl ?_
  rintro i z hi K hN hE hR
  have hN' := hN (i + 1)
  clear hN
  show xcode _ _ [.slc (mapD intD l),.slc (mapD intD m),.int .i64 day,z 3,z 4,z 5,z 6,.ptr b7 0,.int .i64 ((i : Nat) : Int),z 9,z 10,z 11,z 12,z 13,z 14,z 15,z 16,z 17,z 18,z 19,z 20,z 21,z 22,z 23,z 24,z 25,z 26,z 27,z 28,z 29,z 30,z 31,z 32,z 33,z 34,z 35,z 36,z 37,z 38,z 39,z 40,z 41,z 42,z 43,z 44,z 45,z 46,z 47,z 48,z 49,z 50,z 51,z 52,z 53,z 54,z 55,z 56,z 57,z 58,z 59,z 60,z 61,z 62,z 63,z 64,z 65,z 66,z 67,z 68,z 69,z 70,z 71,z 72,z 73,z 74,z 75,z 76,z 77,z 78,z 79,z 80,z 81,z 82,z 83,z 84,z 85,z 86,z 87,z 88,z 89,z 90,z 91,z 92,z 93,z 94,z 95,z 96,z 97,z 98,z 99,z 100,z 101,z 102,z 103,z 104,z 105,z 106,z 107,z 108,z 109,z 110] _ K
  by_cases hlt : i ≤ b.sn.length
  · have hlt' : ((i : Int) ≤ (b.sn.length : Int)) = True := eq_true (by omega)
    simp +contextual only [x3,mapD_len,hbd,hlt',↓U3,↓XP,↓XU,XW0,XW1,qa,qb,qc,qd,qe,qf,reduceCtorEq,TYX]
    intros
    refine f_ID ?_
    generalize idR i = x
    have hxd : x.d = [.int .i64 x.o,.int .i64 x.s,.int .i64 x.i] := rfl
    simp +contextual only [x3,mapD_len,hbd,hxd,↓U3,↓XP,↓XU,XW0,XW1,qa,qb,qc,qd,qe,qf,reduceCtorEq,TYX]
    rintro b9 ⟨n79,h9⟩
    refine f_first hg.small hg.ix (b := b) (x := x) (okS hg).1 (okS hg).2 ?_
    rw [fir_eq,senP_eq]
    have hcall := fun H R h => f_rFst (H := H) (R := R) hg.smallR (b := b) (x := x) h
    have hat1 := fun t H R h => f_attested (H := H) (R := R) hg.small hg.ix (b := b) (x := x) (t := t) h
    have hat2 := fun t H R h => f_rAtt (H := H) (R := R) hg.smallR (b := b) (x := x) (t := t) h
    simp only [att_eq] at hat1
    generalize rRis b x = rr at hcall
    generalize rFst b x = fl at hcall
    obtain ⟨⟨u,w⟩,v⟩ := rr
    have hsd : Sp.d ⟨u,w⟩ = [.int .i64 u,.int .i64 w] := rfl
    simp +contextual only [x3,mapD_len,hbd,hxd,hsd,h_miss,h_skip,n79,↓U3,↓XP,↓XU,XW0,XW1,qa,qb,qc,qd,qe,qf,reduceCtorEq,TYX]
    intros
    rename_i b10 qb10
    obtain ⟨n910,n710,h10⟩ := qb10
    refine hcall _ _ ?_
    simp +contextual only [x3,mapD_len,hbd,hxd,hsd,eq_self,h_miss,h_skip,n79,n910,n710,↓U3,↓XP,↓XU,XW0,XW1,qa,qb,qc,qd,qe,qf,reduceCtorEq,TYX]
    intros
    rename_i b13 qb13
    obtain ⟨n1013,n913,n713,h13⟩ := qb13
    refine f_same (l := fl) (q := fl) ?_
    rw [decide_eq_true rfl]
    simp +contextual only [x3,mapD_len,hbd,hxd,hsd,eq_self,h_miss,h_skip,n79,n910,n710,n1013,n913,n713,↓U3,↓XP,↓XU,XW0,XW1,qa,qb,qc,qd,qe,qf,reduceCtorEq,TYX]
    intros
    refine ⟨_,fun _ _ => f_around (by omega) ⟨rfl,rfl⟩,?_⟩
    generalize around day 90 = d2
    simp +contextual only [x3,mapD_len,hbd,hxd,hsd,h_miss,h_skip,n79,n910,n710,n1013,n913,n713,↓U3,↓XP,↓XU,XW0,XW1,qa,qb,qc,qd,qe,qf,reduceCtorEq,TYX]
    intros
    generalize IntKind.i64.wrap (u - 1) = d4
    generalize IntKind.i64.wrap (w - 1) = d6
    have hds : [[D.int .i64 day],[.int .i64 d2],[.int .i64 u],[.int .i64 d4],[.int .i64 w],[.int .i64 d6]] = mapD intD [day,d2,u,d4,w,d6] := rfl
    rw [hds]
    have hdl : [day,d2,u,d4,w,d6].length ≤ 6 := by simp
    generalize [day,d2,u,d4,w,d6] = ds at hdl
    refine XW.loopS Go.Proofs.Ytffbjejmobhpkaa.hm 111 (fun k : Nat => [(0,.slc (mapD intD l)),(1,.slc (mapD intD m)),(2,.int .i64 day),(7,.ptr b7 0),(8,.int .i64 ((i : Nat) : Int)),(9,.ptr b9 0),(10,.ptr b10 0),(16,.own (mapD intD ds)),(17,.int .i64 ((k : Nat) : Int))]) (fun k => (b13,AO.cells [.int .i64 u,.int .i64 w]) :: (b10,AO.cells [.int .i64 u,.int .i64 w]) :: (b9,AO.cells x.d) :: (b7,AO.cells b.d) :: H) (fun k => ds.length - k) (fun k => k ≤ ds.length) 0 (by omega) ⟨rfl,rfl,rfl,rfl,rfl,rfl,rfl,rfl,rfl,rfl,trivial⟩ rfl ?_
    rintro k z hk K2 hN2 hE2 hR2
    have hN2' := hN2 (k + 1)
    clear hN2
    show xcode _ _ [.slc (mapD intD l),.slc (mapD intD m),.int .i64 day,z 3,z 4,z 5,z 6,.ptr b7 0,.int .i64 ((i : Nat) : Int),.ptr b9 0,.ptr b10 0,z 11,z 12,z 13,z 14,z 15,.own (mapD intD ds),.int .i64 ((k : Nat) : Int),z 18,z 19,z 20,z 21,z 22,z 23,z 24,z 25,z 26,z 27,z 28,z 29,z 30,z 31,z 32,z 33,z 34,z 35,z 36,z 37,z 38,z 39,z 40,z 41,z 42,z 43,z 44,z 45,z 46,z 47,z 48,z 49,z 50,z 51,z 52,z 53,z 54,z 55,z 56,z 57,z 58,z 59,z 60,z 61,z 62,z 63,z 64,z 65,z 66,z 67,z 68,z 69,z 70,z 71,z 72,z 73,z 74,z 75,z 76,z 77,z 78,z 79,z 80,z 81,z 82,z 83,z 84,z 85,z 86,z 87,z 88,z 89,z 90,z 91,z 92,z 93,z 94,z 95,z 96,z 97,z 98,z 99,z 100,z 101,z 102,z 103,z 104,z 105,z 106,z 107,z 108,z 109,z 110] _ K2
    by_cases hlt2 : k < ds.length
    · have g := mapD_get (f := intD) hlt2
      have hlt2' : ((k : Int) < (ds.length : Int)) = True := eq_true (by omega)
      generalize ds.getD k default = t at g
      have htd : intD t = [.int .i64 t] := rfl
      simp +contextual only [x3,mapD_len,hbd,hxd,g,htd,hlt2',Int.toNat_natCast,h_miss,h_skip,n79,n910,n710,n1013,n913,n713,↓U3,↓XP,↓XU,XW0,XW1,qa,qb,qc,qd,qe,qf,reduceCtorEq,TYX]
      intros
      refine ⟨_,fun _ _ => hat1 t _ _ ⟨rfl,rfl⟩,?_⟩
      have hat3 := hat2 t
      generalize rAtt b x t = at_ at hat3 ⊢
      obtain ⟨p,q⟩ := at_
      simp +contextual only [x3,mapD_len,hbd,hxd,g,htd,hlt2',Int.toNat_natCast,h_miss,h_skip,n79,n910,n710,n1013,n913,n713,↓U3,↓XP,↓XU,XW0,XW1,qa,qb,qc,qd,qe,qf,reduceCtorEq,TYX]
      intros
      refine ⟨_,fun _ _ => hat3 _ _ ⟨rfl,rfl⟩,?_⟩
      cases p <;> cases q <;> simp +contextual only [x3,mapD_len,wrap_succ (show k ≤ big by omega),↓U3,↓XP,↓XU,XW0,XW1,qa,qb,qc,qd,qe,qf,reduceCtorEq,TYX]
      all_goals intros
      all_goals exact hN2' _ _ hlt2 (by omega) ⟨rfl,rfl,rfl,rfl,rfl,rfl,rfl,rfl,rfl,rfl,trivial⟩ (back_0 rfl)
    · have hkd : k = ds.length := by omega
      subst hkd
      simp +contextual only [x3,mapD_len,↓U3,↓XP,↓XU,XW0,XW1,qa,qb,qc,qd,qe,qf,reduceCtorEq,TYX]
      intros
      refine hE2 _ _ _ ?_
      simp +contextual only [x3,mapD_len,wrap_succ (show i ≤ big by omega),↓U3,↓XP,↓XU,XW0,XW1,qa,qb,qc,qd,qe,qf,reduceCtorEq,TYX]
      intros
      exact hN' _ _ (by omega) (by omega) ⟨rfl,rfl,rfl,rfl,rfl,rfl,trivial⟩ (back_3 rfl)
  · have hin : i = b.sn.length + 1 := by omega
    have hlt' : ((i : Int) ≤ (b.sn.length : Int)) = False := eq_false (by omega)
    simp +contextual only [x3,mapD_len,hbd,hlt',↓U3,↓XP,↓XU,XW0,XW1,qa,qb,qc,qd,qe,qf,reduceCtorEq,TYX]
    intros
    refine hE _ _ _ ?_
    simp +contextual only [x3,mapD_len,↓U3,↓XP,↓XU,XW0,XW1,qa,qb,qc,qd,qe,qf,reduceCtorEq,TYX]
    refine f_lives ?_
    simp +contextual only [x3,mapD_len,↓U3,↓XP,↓XU,XW0,XW1,qa,qb,qc,qd,qe,qf,reduceCtorEq,TYX]
    exact h
end Go.Proofs.Ytffbjejmobhpkaa
end
section
namespace Go.Proofs.Ytffbjejmobhpkaa.first
open Go Go.Aw Go.RowKit Go.ChangeShapes Go.WideShapes Go.ChangeAt
theorem contract (H : Type) (enc : TypeId × Value → H) (W : World) (base : Nat) (args : Array Value) (ds gs : List (DataW H)) (before : List MemPlace)
  (hval : ∀ (j : Nat) t v,Try.f3.params[j]? = some t → args[j]? = some v → Value.okWide Try.prog W .any base t v)
  (hW : DataW.Whole enc Try.prog Try.f3.params.toList Rows.evidenceFirstSpec.vars false W args.toList ds gs before) (hk : Rows.uptoSmall H (ds ++ gs) = true) :
  Calls Try.prog 3 args W fun e W'=>∃ v,e = .returned v ∧ Rows.evidenceFirstSpec.post enc Try.prog Try.f3 false true false false W args v W' := by
 have hW' := hW
 have hbd := bound hk
 obtain ⟨p,q,hA0,hV,rfl,hfz,hnd⟩ := hW
 have hA : DataW.TrodAll enc Try.prog W 0 (fun _=>true) true Try.f3.params.toList args.toList ds p := hA0
 rw [Try.params3] at hA hval
 obtain ⟨v0,vs0,d0,ds0,p0,q0,hargs,rfl,rfl,h0,r0⟩ := trodAll_cons hA
 obtain ⟨v1,vs1,d1,ds1,p1,q1,rfl,rfl,rfl,h1,r1⟩ := trodAll_cons r0
 obtain ⟨v2,vs2,d2,ds2,p2,q2,rfl,rfl,rfl,h2,r2⟩ := trodAll_cons r1
 obtain ⟨rfl,rfl,rfl⟩ := trodAll_nil r2
 obtain rfl : args = #[v0,v1,v2] := by cases args; simp_all
 obtain ⟨rfl,rfl⟩ := trodVars_none hV
 simp only [List.append_nil,Rows.uptoBulkAll] at hbd
 obtain ⟨l,hq0,e0⟩ := rd_ints.arg1 (by kernel_rfl) (hval 0 _ v0 rfl rfl) h0 (by omega)
 obtain ⟨m,hq1,e1⟩ := rd_ints.arg1 (by kernel_rfl) (hval 1 _ v1 rfl rfl) h1 (by omega)
 obtain ⟨day,hq2,e2⟩ := rd_int.arg1 (by kernel_rfl) (hval 2 _ v2 rfl rfl) h2 (by omega)
 refine ((f_mFirst (l := l) (m := m) (day := day) (H := []) (R := fun d H=>d = .bool true) rfl).calls W _ rfl ?_).mono ?_
 ·intro j d v hd hv
  match j with
  | 0=>cases hd; cases hv; exact e0
  | 1=>cases hd; cases hv; exact e1
  | 2=>cases hd; cases hv; exact e2
  | j + 3=>cases hd
 ·rintro e W' ⟨v,d,H',K',rfl,rfl,hb,hr⟩
  have hv : v = .bool true := by cases hr with | bool=>rfl
  subst hv
  exact ⟨_,rfl,post_true kids full (by rw [Try.params3]; decide) hW' rfl hb rfl Try.underlying4 rfl⟩
theorem lifted (os : Os) (started : os.Started) (H : Type) (enc : TypeId × Value → H) (F : Stop.Interp) :
  ReturnsInHanded {} Try.checked os 3 .any ((Rows.OpenSpec.upto Rows.evidenceFirstSpec).pre6 enc Try.prog Try.f3 Rows.evidenceFirstUptoRow.domain false) (((Rows.OpenSpec.upto Rows.evidenceFirstSpec).at F).post enc Try.prog Try.f3 false true false false) := by
 refine returnsInHanded_of_cond (C := Try.checked) (s := Rows.OpenSpec.upto Rows.evidenceFirstSpec) (k := Rows.uptoSmall) rfl own started (by kernel_rfl) Try.func3
  (OpenSpec.witness (enc := enc) (C := Try.checked) (s := Rows.OpenSpec.upto Rows.evidenceFirstSpec) (k := Rows.uptoSmall) rfl false ⟨#[],#[.slice none 0 0,.slice none 0 0,.int .i64 0],[]⟩ 8 (by kernel_rfl) (by kernel_rfl) (by kernel_rfl)
   (x := ([.nil,.nil,.lit (.int .i64 0)],[],[])) (by kernel_rfl) rfl (by kernel_rfl)) ?_
 intro W base args ds gs before hval hW _ hk _
 exact contract H enc W base args ds gs before hval hW hk
theorem proved : Rows.EvidenceFirstUptoSaid :=
 OpenClaim.holds_of_cond 3 Try.f3 rfl rfl rfl rfl rfl rfl rfl ⟨rfl,rfl,rfl,rfl,rfl⟩ rfl rfl rfl rfl rfl (by kernel_rfl) Try.func3 (by kernel_rfl)
  (of_decide_eq_true (by kernel_rfl)) (by unfold Func.isWrapper; first | (rw [if_pos (by decide +kernel)]; kernel_rfl) | (rw [if_neg (by decide +kernel)]; exact ⟨rfl,rfl⟩))
  (fun os started H enc _ F=>lifted os started H enc F)
end Go.Proofs.Ytffbjejmobhpkaa.first
end
