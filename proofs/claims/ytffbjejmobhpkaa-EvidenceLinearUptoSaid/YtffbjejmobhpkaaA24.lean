/- The statement of EvidenceLinear in its second form: for every input within the bound the call returns true, writes nothing that was there, and its arguments read as before. Conditions: none but the statement's own bound. -/
import Derived.Test.YtffbjejmobhpkaaA23
set_option linter.unusedVariables false
set_option linter.unusedSimpArgs false
set_option maxRecDepth 100000
set_option maxHeartbeats 16000000
open Nat renaming reduceSub → qa,reduceAdd → qb,reduceMul → qc,reduceEqDiff → qd,reduceLeDiff → qe,reduceBEq → qf
section
namespace Go.Proofs.Ytffbjejmobhpkaa
open Go Go.Aw
theorem ex_sm : Small exB := ex_gen.small
theorem ex_ix : IxOk (ixP exB) := ex_gen.ix
theorem okS {b : Bk} (hg : Gen b) {x : Id3} : (senL b x).length ≤ 1073741824 ∧ ∀ t ∈ senL b x,OkI t.id := by
 have h1 : senL b x = b.qt.filterMap (evX b x) := look_evM
 refine ⟨?_,fun t ht=>?_⟩
 ·rw [h1]
  have := List.length_filterMap_le (evX b x) b.qt
  have := hg.qt
  omega
 ·rw [h1] at ht
  obtain ⟨q,hq,he⟩ := List.mem_filterMap.1 ht
  unfold evX at he
  split at he
  ·rename_i y t' hh
   split at he
   ·injection he with he
    subst he
    unfold evQ at hh
    split at hh
    ·split at hh
     ·injection hh with hh
      injection hh with _ hh
      rw [← hh]
      exact hg.qi q hq
     ·cases hh
    ·cases hh
   ·cases he
  ·cases he
theorem f_lives {H : AH} {R : D → AH → Prop} (h : R (.bool true) H) : ACall Try.prog 17 [] H R := by
 refine b17 fun hf=>?_
 have hbig := big_eq
 simp +contextual only [x17,mapD_len,↓U17,↓XP,↓XU,XW0,XW1,qa,qb,qc,qd,qe,qf,reduceCtorEq,TYX]
 refine f_example ?_
 have hbd : exB.d = [.slc (mapD En.d exB.en),.slc (mapD Sn.d exB.sn),.slc (mapD Sr.d exB.sr),.slc (mapD Qt.d exB.qt),.slc (mapD Spl.d exB.sl),.slc (mapD Mg.d exB.mg),.slc (mapD Ch.d exB.ch)] := rfl
 have hid : ∀ i : Int,Id3.d ⟨0,1,i⟩ = [.int .i64 0,.int .i64 1,.int .i64 i] := fun _=>rfl
 simp +contextual only [x17,mapD_len,hbd,↓U17,↓XP,↓XU,XW0,XW1,qa,qb,qc,qd,qe,qf,reduceCtorEq,TYX]
 intro b1 h1
 refine ⟨_,fun _ _=>f_id ⟨rfl,rfl⟩,?_⟩
 simp +contextual only [x17,mapD_len,hid,↓U17,↓XP,↓XU,XW0,XW1,qa,qb,qc,qd,qe,qf,reduceCtorEq,TYX]
 refine ⟨_,fun _ _=>f_first (b := exB) ex_sm ex_ix (x := exI 1) (okS ex_gen).1 (okS ex_gen).2 ⟨rfl,rfl⟩,?_⟩
 rw [ex_1,ex_f]
 have hs1 : Sp.d ⟨10,17⟩ = [.int .i64 10,.int .i64 17] := rfl
 simp +contextual only [x17,mapD_len,hs1,↓U17,↓XP,↓XU,XW0,XW1,qa,qb,qc,qd,qe,qf,reduceCtorEq,TYX]
 refine fun _=>⟨by omega,?_⟩
 rintro b2 ⟨n12,h2⟩
 intros
 refine ⟨_,fun _ _=>f_id ⟨rfl,rfl⟩,?_⟩
 simp +contextual only [x17,mapD_len,hid,h_miss,h_skip,n12,↓U17,↓XP,↓XU,XW0,XW1,qa,qb,qc,qd,qe,qf,reduceCtorEq,TYX]
 refine ⟨_,fun _ _=>f_attested (b := exB) ex_sm ex_ix (x := exI 1) (t := 12) ⟨rfl,rfl⟩,?_⟩
 rw [show attP exB (exI 1) 12 = (false,true) by unfold attP; rw [ex_1]; rfl]
 simp +contextual only [x17,mapD_len,h_miss,h_skip,n12,↓U17,↓XP,↓XU,XW0,XW1,qa,qb,qc,qd,qe,qf,reduceCtorEq,TYX]
 refine ⟨_,fun _ _=>f_id ⟨rfl,rfl⟩,?_⟩
 simp +contextual only [x17,mapD_len,hid,h_miss,h_skip,n12,↓U17,↓XP,↓XU,XW0,XW1,qa,qb,qc,qd,qe,qf,reduceCtorEq,TYX]
 refine ⟨_,fun _ _=>f_attested (b := exB) ex_sm ex_ix (x := exI 1) (t := 17) ⟨rfl,rfl⟩,?_⟩
 rw [show attP exB (exI 1) 17 = (true,true) by unfold attP; rw [ex_1]; rfl]
 simp +contextual only [x17,mapD_len,h_miss,h_skip,n12,↓U17,↓XP,↓XU,XW0,XW1,qa,qb,qc,qd,qe,qf,reduceCtorEq,TYX]
 refine ⟨_,fun _ _=>f_id ⟨rfl,rfl⟩,?_⟩
 simp +contextual only [x17,mapD_len,hid,h_miss,h_skip,n12,↓U17,↓XP,↓XU,XW0,XW1,qa,qb,qc,qd,qe,qf,reduceCtorEq,TYX]
 refine ⟨_,fun _ _=>f_attested (b := exB) ex_sm ex_ix (x := exI 1) (t := 9) ⟨rfl,rfl⟩,?_⟩
 rw [show attP exB (exI 1) 9 = (false,false) by unfold attP; rw [ex_1]; rfl]
 simp +contextual only [x17,mapD_len,h_miss,h_skip,n12,↓U17,↓XP,↓XU,XW0,XW1,qa,qb,qc,qd,qe,qf,reduceCtorEq,TYX]
 refine f_id ?_
 simp +contextual only [x17,mapD_len,hid,h_miss,h_skip,n12,↓U17,↓XP,↓XU,XW0,XW1,qa,qb,qc,qd,qe,qf,reduceCtorEq,TYX]
 refine f_id ?_
 simp +contextual only [x17,mapD_len,hid,h_miss,h_skip,n12,↓U17,↓XP,↓XU,XW0,XW1,qa,qb,qc,qd,qe,qf,reduceCtorEq,TYX]
 refine f_id ?_
 simp +contextual only [x17,mapD_len,hid,h_miss,h_skip,n12,↓U17,↓XP,↓XU,XW0,XW1,qa,qb,qc,qd,qe,qf,reduceCtorEq,TYX]
 refine f_id ?_
 simp +contextual only [x17,mapD_len,hid,h_miss,h_skip,n12,↓U17,↓XP,↓XU,XW0,XW1,qa,qb,qc,qd,qe,qf,reduceCtorEq,TYX]
 refine f_id ?_
 simp +contextual only [x17,mapD_len,hid,h_miss,h_skip,n12,↓U17,↓XP,↓XU,XW0,XW1,qa,qb,qc,qd,qe,qf,reduceCtorEq,TYX]
 refine f_id ?_
 simp +contextual only [x17,mapD_len,hid,h_miss,h_skip,n12,↓U17,↓XP,↓XU,XW0,XW1,qa,qb,qc,qd,qe,qf,reduceCtorEq,TYX]
 refine f_id ?_
 simp +contextual only [x17,mapD_len,hid,h_miss,h_skip,n12,↓U17,↓XP,↓XU,XW0,XW1,qa,qb,qc,qd,qe,qf,reduceCtorEq,TYX]
 refine f_id ?_
 simp +contextual only [x17,mapD_len,hid,h_miss,h_skip,n12,↓U17,↓XP,↓XU,XW0,XW1,qa,qb,qc,qd,qe,qf,reduceCtorEq,TYX]
 refine f_same (l := [exI 5,exI 6]) (q := [exI 5,exI 6]) ?_
 rw [decide_eq_true rfl]
 simp +contextual only [x17,mapD_len,h_miss,h_skip,n12,↓U17,↓XP,↓XU,XW0,XW1,qa,qb,qc,qd,qe,qf,reduceCtorEq,TYX]
 refine f_Order (b := exB) ex_sm ex_ix (l := [exI 3,exI 2,exI 1]) (by simp) (fun x hx=>by simp only [List.mem_cons,List.not_mem_nil,or_false] at hx; rcases hx with rfl | rfl | rfl <;> exact okz (by simp [exI])) fun m hp hs=>?_
 rw [ord_of hp hs ex_o (fun y=>List.Perm.mem_iff (by decide))]
 simp +contextual only [x17,mapD_len,h_miss,h_skip,n12,↓U17,↓XP,↓XU,XW0,XW1,qa,qb,qc,qd,qe,qf,reduceCtorEq,TYX]
 intros
 refine f_same (l := [exI 1,exI 2,exI 3]) (q := [exI 1,exI 2,exI 3]) ?_
 rw [decide_eq_true rfl]
 simp +contextual only [x17,mapD_len,h_miss,h_skip,n12,↓U17,↓XP,↓XU,XW0,XW1,qa,qb,qc,qd,qe,qf,reduceCtorEq,TYX]
 refine f_chain (b := exB) ex_sm ex_ix (l := [exI 3,exI 2,exI 1]) (by simp) (fun x hx=>by simp only [List.mem_cons,List.not_mem_nil,or_false] at hx; rcases hx with rfl | rfl | rfl <;> simp [ex_1,ex_2,ex_3]) ?_
 rw [show chP exB [exI 3,exI 2,exI 1] ([exI 3,exI 2,exI 1].length + 1) 0 = [exI 1,exI 2,exI 3] from ex_c]
 simp +contextual only [x17,mapD_len,h_miss,h_skip,n12,↓U17,↓XP,↓XU,XW0,XW1,qa,qb,qc,qd,qe,qf,reduceCtorEq,TYX]
 intros
 refine f_same (l := [exI 1,exI 2,exI 3]) (q := [exI 1,exI 2,exI 3]) ?_
 rw [decide_eq_true rfl]
 simp +contextual only [x17,mapD_len,h_miss,h_skip,n12,↓U17,↓XP,↓XU,XW0,XW1,qa,qb,qc,qd,qe,qf,reduceCtorEq,TYX]
 refine ⟨_,fun _ _=>f_id ⟨rfl,rfl⟩,?_⟩
 simp +contextual only [x17,mapD_len,hid,h_miss,h_skip,n12,↓U17,↓XP,↓XU,XW0,XW1,qa,qb,qc,qd,qe,qf,reduceCtorEq,TYX]
 refine ⟨_,fun _ _=>f_id ⟨rfl,rfl⟩,?_⟩
 simp +contextual only [x17,mapD_len,hid,h_miss,h_skip,n12,↓U17,↓XP,↓XU,XW0,XW1,qa,qb,qc,qd,qe,qf,reduceCtorEq,TYX]
 refine ⟨_,fun _ _=>f_before (b := exB) ex_sm ex_ix (x := exI 1) (y := exI 2) ⟨rfl,rfl⟩,?_⟩
 rw [show befP exB (exI 1) (exI 2) = true by unfold befP; rw [ex_1,ex_2]; rfl]
 simp +contextual only [x17,mapD_len,h_miss,h_skip,n12,↓U17,↓XP,↓XU,XW0,XW1,qa,qb,qc,qd,qe,qf,reduceCtorEq,TYX]
 refine ⟨_,fun _ _=>f_id ⟨rfl,rfl⟩,?_⟩
 simp +contextual only [x17,mapD_len,hid,h_miss,h_skip,n12,↓U17,↓XP,↓XU,XW0,XW1,qa,qb,qc,qd,qe,qf,reduceCtorEq,TYX]
 refine ⟨_,fun _ _=>f_id ⟨rfl,rfl⟩,?_⟩
 simp +contextual only [x17,mapD_len,hid,h_miss,h_skip,n12,↓U17,↓XP,↓XU,XW0,XW1,qa,qb,qc,qd,qe,qf,reduceCtorEq,TYX]
 refine ⟨_,fun _ _=>f_before (b := exB) ex_sm ex_ix (x := exI 2) (y := exI 1) ⟨rfl,rfl⟩,?_⟩
 rw [show befP exB (exI 2) (exI 1) = false by unfold befP; rw [ex_1,ex_2]; rfl]
 simp +contextual only [x17,mapD_len,h_miss,h_skip,n12,↓U17,↓XP,↓XU,XW0,XW1,qa,qb,qc,qd,qe,qf,reduceCtorEq,TYX]
 exact h
end Go.Proofs.Ytffbjejmobhpkaa
end
section
namespace Go.Proofs.Ytffbjejmobhpkaa
open Go Go.Aw
theorem mapD_take {α : Type} {f : α → List D} {l : List α} {n : Nat} : (mapD f l).take n = mapD f (l.take n) := by simp [mapD,List.map_take]
theorem bef_irr {b : Bk} {x : Id3} : befP b x x = false := by
 rw [Bool.eq_false_iff]
 intro h
 obtain ⟨h1,_,h3⟩ := bef_iff.1 h
 have := senP_ok h1
 unfold OkSpan at this
 omega
theorem bef_tr {b : Bk} {x y w : Id3} (h : befP b x y = true) (k : befP b y w = true) : befP b x w = true := by
 obtain ⟨h1,h2,h3⟩ := bef_iff.1 h
 obtain ⟨k1,k2,k3⟩ := bef_iff.1 k
 have := senP_ok h2
 unfold OkSpan at this
 exact bef_iff.2 ⟨h1,k2,by omega⟩
theorem bef_lt {b : Bk} {x y : Id3} (h : ltS b x y) : befP b y x = false := by
 rw [Bool.eq_false_iff]
 intro k
 obtain ⟨k1,k2,k3⟩ := bef_iff.1 k
 have := senP_ok k1
 have := senP_ok k2
 unfold OkSpan at *
 unfold ltS at h
 rw [k1,k2,if_pos rfl] at h
 omega
theorem is_lt {b : Bk} {x y : Id3} (h : ltS b x y) (k : (senP b y).2 = true) : (senP b x).2 = true := by
 unfold ltS at h
 rw [k] at h
 split at h
 ·assumption
 ·exact h
theorem pw_get {r : Id3 → Id3 → Prop} {a : List Id3} (h : a.Pairwise r) {i j : Nat} (hij : i < j) (hj : j < a.length) : r (a.getD i default) (a.getD j default) := by
 rw [getD_lt hj,getD_lt (by omega)]
 exact List.pairwise_iff_getElem.1 h i j (by omega) hj hij
theorem pw_new {b : Bk} {a : List Id3} (h : a.Pairwise (ltS b)) {i : Nat} (hi : i < a.length) : a.getD i default ∉ a.take i := fun hm=>by
 obtain ⟨j,hj,e⟩ := List.mem_iff_getElem.1 hm
 rw [List.length_take] at hj
 rw [List.getElem_take] at e
 have h2 := pw_get h (i := j) (j := i) (by omega) hi
 rw [getD_lt (l := a) (i := j) (by omega),e] at h2
 exact ltS_irr h2
def lastB (b : Bk) (a : List Id3) : Nat → Bool
 | 0=>true
 | i + 1=>(senP b (a.getD i default)).2
theorem f_mLinear {l m k : List Int} {H : AH} {R : D → AH → Prop} (h : R (.bool true) H) : ACall Try.prog 5 [.slc (mapD intD l),.slc (mapD intD m),.slc (mapD intD k)] H R := by
 refine b5 fun hf=>?_
 have hbig := big_eq
 simp +contextual only [x5,mapD_len,↓U5,↓XP,↓XU,XW0,XW1,qa,qb,qc,qd,qe,qf,reduceCtorEq,TYX]
 refine f_book21 fun b hg hsn=>?_
 have hbd : b.d = [.slc (mapD En.d b.en),.slc (mapD Sn.d b.sn),.slc (mapD Sr.d b.sr),.slc (mapD Qt.d b.qt),.slc (mapD Spl.d b.sl),.slc (mapD Mg.d b.mg),.slc (mapD Ch.d b.ch)] := rfl
 rw [hbd]
 simp +contextual only [x5,mapD_len,↓U5,↓XP,↓XU,XW0,XW1,qa,qb,qc,qd,qe,qf,reduceCtorEq,TYX]
 intro b7 h7
 refine f_rIDs hg.smallR (b := b) (l := k) ?_
 have hql := rIDs_len (b := b) (l := k)
 have hqo := rIDs_ok hg.smallR (l := k)
 generalize rIDs b k = q at hql hqo
 simp +contextual only [x5,mapD_len,↓U5,↓XP,↓XU,XW0,XW1,qa,qb,qc,qd,qe,qf,reduceCtorEq,TYX]
 intros
 refine f_Order hg.small hg.ix (b := b) (l := q) (by omega) hqo fun m1 hp hs=>?_
 have hal : (dd m1).length ≤ 8 := Nat.le_trans dd_len (by rw [hp.length_eq]; exact hql)
 have ha := OrdR.of hp hs
 generalize dd m1 = a at ha hal
 clear hp hs m1
 simp +contextual only [x5,mapD_len,hbd,↓U5,↓XP,↓XU,XW0,XW1,qa,qb,qc,qd,qe,qf,reduceCtorEq,TYX]
 intros
 simp only [← hbd]
 refine XW.loopS Go.Proofs.Ytffbjejmobhpkaa.hm 157 (fun i : Nat=>[(0,.slc (mapD intD l)),(1,.slc (mapD intD m)),(2,.slc (mapD intD k)),(7,.ptr b7 0),(8,.slc (mapD Id3.d q)),(9,.slc (mapD Id3.d a)),(10,.int .i64 ((i : Nat) : Int))]) (fun i=>(b7,AO.cells b.d) :: H) (fun i=>q.length - i) (fun i=>i ≤ q.length) 0 (by omega) ⟨rfl,rfl,rfl,rfl,rfl,rfl,rfl,rfl,trivial⟩ rfl ?_
 rintro i z hi K hN hE hR
 have hN' := hN (i + 1)
 clear hN
 show xcode _ _ [.slc (mapD intD l),.slc (mapD intD m),.slc (mapD intD k),z 3,z 4,z 5,z 6,.ptr b7 0,.slc (mapD Id3.d q),.slc (mapD Id3.d a),.int .i64 ((i : Nat) : Int),z 11,z 12,z 13,z 14,z 15,z 16,z 17,z 18,z 19,z 20,z 21,z 22,z 23,z 24,z 25,z 26,z 27,z 28,z 29,z 30,z 31,z 32,z 33,z 34,z 35,z 36,z 37,z 38,z 39,z 40,z 41,z 42,z 43,z 44,z 45,z 46,z 47,z 48,z 49,z 50,z 51,z 52,z 53,z 54,z 55,z 56,z 57,z 58,z 59,z 60,z 61,z 62,z 63,z 64,z 65,z 66,z 67,z 68,z 69,z 70,z 71,z 72,z 73,z 74,z 75,z 76,z 77,z 78,z 79,z 80,z 81,z 82,z 83,z 84,z 85,z 86,z 87,z 88,z 89,z 90,z 91,z 92,z 93,z 94,z 95,z 96,z 97,z 98,z 99,z 100,z 101,z 102,z 103,z 104,z 105,z 106,z 107,z 108,z 109,z 110,z 111,z 112,z 113,z 114,z 115,z 116,z 117,z 118,z 119,z 120,z 121,z 122,z 123,z 124,z 125,z 126,z 127,z 128,z 129,z 130,z 131,z 132,z 133,z 134,z 135,z 136,z 137,z 138,z 139,z 140,z 141,z 142,z 143,z 144,z 145,z 146,z 147,z 148,z 149,z 150,z 151,z 152,z 153,z 154,z 155,z 156] _ K
 by_cases hlt : i < q.length
 ·have hlt' : ((i : Int) < (q.length : Int)) = True := eq_true (by omega)
  have g := mapD_get (f := Id3.d) hlt
  have hqm := getD_mem hlt
  generalize q.getD i default = x at g hqm
  have hxd : x.d = [.int .i64 x.o,.int .i64 x.s,.int .i64 x.i] := rfl
  simp +contextual only [x5,mapD_len,hbd,hlt',g,hxd,Int.toNat_natCast,↓U5,↓XP,↓XU,XW0,XW1,qa,qb,qc,qd,qe,qf,reduceCtorEq,TYX]
  intros
  refine ⟨_,fun _ _=>f_before hg.small hg.ix (b := b) (x := x) (y := x) ⟨rfl,rfl⟩,?_⟩
  rw [bef_irr]
  simp +contextual only [x5,mapD_len,hbd,hlt',g,hxd,Int.toNat_natCast,↓U5,↓XP,↓XU,XW0,XW1,qa,qb,qc,qd,qe,qf,reduceCtorEq,TYX]
  intros
  refine ⟨_,fun _ _=>f_has (l := a) (x := x) ⟨rfl,rfl⟩,?_⟩
  rw [decide_eq_true ((ha.mm x).2 hqm)]
  simp +contextual only [x5,mapD_len,hbd,hlt',g,hxd,Int.toNat_natCast,↓U5,↓XP,↓XU,XW0,XW1,qa,qb,qc,qd,qe,qf,reduceCtorEq,TYX]
  intros
  simp only [← hbd]
  refine XW.loopS Go.Proofs.Ytffbjejmobhpkaa.hm 157 (fun j : Nat=>[(0,.slc (mapD intD l)),(1,.slc (mapD intD m)),(2,.slc (mapD intD k)),(7,.ptr b7 0),(8,.slc (mapD Id3.d q)),(9,.slc (mapD Id3.d a)),(10,.int .i64 ((i : Nat) : Int)),(11,.int .i64 ((j : Nat) : Int))]) (fun j=>(b7,AO.cells b.d) :: H) (fun j=>q.length - j) (fun j=>j ≤ q.length) 0 (by omega) ⟨rfl,rfl,rfl,rfl,rfl,rfl,rfl,rfl,rfl,trivial⟩ rfl ?_
  rintro j z hj K2 hN2 hE2 hR2
  have hN2' := hN2 (j + 1)
  clear hN2
  show xcode _ _ [.slc (mapD intD l),.slc (mapD intD m),.slc (mapD intD k),z 3,z 4,z 5,z 6,.ptr b7 0,.slc (mapD Id3.d q),.slc (mapD Id3.d a),.int .i64 ((i : Nat) : Int),.int .i64 ((j : Nat) : Int),z 12,z 13,z 14,z 15,z 16,z 17,z 18,z 19,z 20,z 21,z 22,z 23,z 24,z 25,z 26,z 27,z 28,z 29,z 30,z 31,z 32,z 33,z 34,z 35,z 36,z 37,z 38,z 39,z 40,z 41,z 42,z 43,z 44,z 45,z 46,z 47,z 48,z 49,z 50,z 51,z 52,z 53,z 54,z 55,z 56,z 57,z 58,z 59,z 60,z 61,z 62,z 63,z 64,z 65,z 66,z 67,z 68,z 69,z 70,z 71,z 72,z 73,z 74,z 75,z 76,z 77,z 78,z 79,z 80,z 81,z 82,z 83,z 84,z 85,z 86,z 87,z 88,z 89,z 90,z 91,z 92,z 93,z 94,z 95,z 96,z 97,z 98,z 99,z 100,z 101,z 102,z 103,z 104,z 105,z 106,z 107,z 108,z 109,z 110,z 111,z 112,z 113,z 114,z 115,z 116,z 117,z 118,z 119,z 120,z 121,z 122,z 123,z 124,z 125,z 126,z 127,z 128,z 129,z 130,z 131,z 132,z 133,z 134,z 135,z 136,z 137,z 138,z 139,z 140,z 141,z 142,z 143,z 144,z 145,z 146,z 147,z 148,z 149,z 150,z 151,z 152,z 153,z 154,z 155,z 156] _ K2
  by_cases hlt2 : j < q.length
  ·have hlt2' : ((j : Int) < (q.length : Int)) = True := eq_true (by omega)
   have g2 := mapD_get (f := Id3.d) hlt2
   generalize q.getD j default = y at g2
   have hyd : y.d = [.int .i64 y.o,.int .i64 y.s,.int .i64 y.i] := rfl
   simp +contextual only [x5,mapD_len,hbd,hlt2',↓U5,↓XP,↓XU,XW0,XW1,qa,qb,qc,qd,qe,qf,reduceCtorEq,TYX]
   intros
   simp only [← hbd]
   refine XW.loopS Go.Proofs.Ytffbjejmobhpkaa.hm 157 (fun n : Nat=>[(0,.slc (mapD intD l)),(1,.slc (mapD intD m)),(2,.slc (mapD intD k)),(7,.ptr b7 0),(8,.slc (mapD Id3.d q)),(9,.slc (mapD Id3.d a)),(10,.int .i64 ((i : Nat) : Int)),(11,.int .i64 ((j : Nat) : Int)),(12,.int .i64 ((n : Nat) : Int))]) (fun n=>(b7,AO.cells b.d) :: H) (fun n=>q.length - n) (fun n=>n ≤ q.length) 0 (by omega) ⟨rfl,rfl,rfl,rfl,rfl,rfl,rfl,rfl,rfl,rfl,trivial⟩ rfl ?_
   rintro n z hn K3 hN3 hE3 hR3
   have hN3' := hN3 (n + 1)
   clear hN3
   show xcode _ _ [.slc (mapD intD l),.slc (mapD intD m),.slc (mapD intD k),z 3,z 4,z 5,z 6,.ptr b7 0,.slc (mapD Id3.d q),.slc (mapD Id3.d a),.int .i64 ((i : Nat) : Int),.int .i64 ((j : Nat) : Int),.int .i64 ((n : Nat) : Int),z 13,z 14,z 15,z 16,z 17,z 18,z 19,z 20,z 21,z 22,z 23,z 24,z 25,z 26,z 27,z 28,z 29,z 30,z 31,z 32,z 33,z 34,z 35,z 36,z 37,z 38,z 39,z 40,z 41,z 42,z 43,z 44,z 45,z 46,z 47,z 48,z 49,z 50,z 51,z 52,z 53,z 54,z 55,z 56,z 57,z 58,z 59,z 60,z 61,z 62,z 63,z 64,z 65,z 66,z 67,z 68,z 69,z 70,z 71,z 72,z 73,z 74,z 75,z 76,z 77,z 78,z 79,z 80,z 81,z 82,z 83,z 84,z 85,z 86,z 87,z 88,z 89,z 90,z 91,z 92,z 93,z 94,z 95,z 96,z 97,z 98,z 99,z 100,z 101,z 102,z 103,z 104,z 105,z 106,z 107,z 108,z 109,z 110,z 111,z 112,z 113,z 114,z 115,z 116,z 117,z 118,z 119,z 120,z 121,z 122,z 123,z 124,z 125,z 126,z 127,z 128,z 129,z 130,z 131,z 132,z 133,z 134,z 135,z 136,z 137,z 138,z 139,z 140,z 141,z 142,z 143,z 144,z 145,z 146,z 147,z 148,z 149,z 150,z 151,z 152,z 153,z 154,z 155,z 156] _ K3
   by_cases hlt3 : n < q.length
   ·have hlt3' : ((n : Int) < (q.length : Int)) = True := eq_true (by omega)
    have g3 := mapD_get (f := Id3.d) hlt3
    generalize q.getD n default = w at g3
    have hwd : w.d = [.int .i64 w.o,.int .i64 w.s,.int .i64 w.i] := rfl
    simp +contextual only [x5,mapD_len,hbd,hlt',hlt2',hlt3',g,g2,g3,hxd,hyd,hwd,Int.toNat_natCast,↓U5,↓XP,↓XU,XW0,XW1,qa,qb,qc,qd,qe,qf,reduceCtorEq,TYX]
    intros
    refine ⟨_,fun _ _=>f_before hg.small hg.ix (b := b) (x := x) (y := y) ⟨rfl,rfl⟩,?_⟩
    have htr := bef_tr (b := b) (x := x) (y := y) (w := w)
    have hc1 := fun H R h=>f_before (H := H) (R := R) hg.small hg.ix (b := b) (x := y) (y := w) h
    have hc2 := fun H R h=>f_before (H := H) (R := R) hg.small hg.ix (b := b) (x := x) (y := w) h
    generalize befP b x y = u1 at htr ⊢
    generalize befP b y w = u2 at htr hc1
    generalize befP b x w = u3 at htr hc2
    cases u1
    ·simp +contextual only [x5,mapD_len,hbd,hlt',hlt2',hlt3',g,g2,g3,hxd,hyd,hwd,Int.toNat_natCast,wrap_succ (show n ≤ big by omega),↓U5,↓XP,↓XU,XW0,XW1,qa,qb,qc,qd,qe,qf,reduceCtorEq,TYX]
     intros
     exact hN3' _ _ hlt3 (by omega) ⟨rfl,rfl,rfl,rfl,rfl,rfl,rfl,rfl,rfl,rfl,trivial⟩ (back_0 rfl)
    ·simp +contextual only [x5,mapD_len,hbd,hlt',hlt2',hlt3',g,g2,g3,hxd,hyd,hwd,Int.toNat_natCast,↓U5,↓XP,↓XU,XW0,XW1,qa,qb,qc,qd,qe,qf,reduceCtorEq,TYX]
     intros
     refine ⟨_,fun _ _=>hc1 _ _ ⟨rfl,rfl⟩,?_⟩
     cases u2
     ·simp +contextual only [x5,mapD_len,hbd,hlt',hlt2',hlt3',g,g2,g3,hxd,hyd,hwd,Int.toNat_natCast,wrap_succ (show n ≤ big by omega),↓U5,↓XP,↓XU,XW0,XW1,qa,qb,qc,qd,qe,qf,reduceCtorEq,TYX]
      intros
      exact hN3' _ _ hlt3 (by omega) ⟨rfl,rfl,rfl,rfl,rfl,rfl,rfl,rfl,rfl,rfl,trivial⟩ (back_0 rfl)
     ·simp +contextual only [x5,mapD_len,hbd,hlt',hlt2',hlt3',g,g2,g3,hxd,hyd,hwd,Int.toNat_natCast,↓U5,↓XP,↓XU,XW0,XW1,qa,qb,qc,qd,qe,qf,reduceCtorEq,TYX]
      intros
      refine ⟨_,fun _ _=>hc2 _ _ ⟨rfl,rfl⟩,?_⟩
      rw [htr rfl rfl]
      simp +contextual only [x5,mapD_len,hbd,hlt',hlt2',hlt3',g,g2,g3,hxd,hyd,hwd,Int.toNat_natCast,wrap_succ (show n ≤ big by omega),↓U5,↓XP,↓XU,XW0,XW1,qa,qb,qc,qd,qe,qf,reduceCtorEq,TYX]
      intros
      exact hN3' _ _ hlt3 (by omega) ⟨rfl,rfl,rfl,rfl,rfl,rfl,rfl,rfl,rfl,rfl,trivial⟩ (back_0 rfl)
   ·have hkd : n = q.length := by omega
    subst hkd
    simp +contextual only [x5,mapD_len,↓U5,↓XP,↓XU,XW0,XW1,qa,qb,qc,qd,qe,qf,reduceCtorEq,TYX]
    intros
    refine hE3 _ _ _ ?_
    simp +contextual only [x5,mapD_len,wrap_succ (show j ≤ big by omega),↓U5,↓XP,↓XU,XW0,XW1,qa,qb,qc,qd,qe,qf,reduceCtorEq,TYX]
    intros
    exact hN2' _ _ (by omega) (by omega) ⟨rfl,rfl,rfl,rfl,rfl,rfl,rfl,rfl,rfl,trivial⟩ (back_0 rfl)
  ·have hkd : j = q.length := by omega
   subst hkd
   simp +contextual only [x5,mapD_len,↓U5,↓XP,↓XU,XW0,XW1,qa,qb,qc,qd,qe,qf,reduceCtorEq,TYX]
   intros
   refine hE2 _ _ _ ?_
   simp +contextual only [x5,mapD_len,wrap_succ (show i ≤ big by omega),↓U5,↓XP,↓XU,XW0,XW1,qa,qb,qc,qd,qe,qf,reduceCtorEq,TYX]
   intros
   exact hN' _ _ (by omega) (by omega) ⟨rfl,rfl,rfl,rfl,rfl,rfl,rfl,rfl,trivial⟩ (back_0 rfl)
 ·have hin : i = q.length := by omega
  subst hin
  simp +contextual only [x5,mapD_len,hbd,↓U5,↓XP,↓XU,XW0,XW1,qa,qb,qc,qd,qe,qf,reduceCtorEq,TYX]
  intros
  refine hE _ _ _ ?_
  clear hN' hE hR
  simp +contextual only [x5,mapD_len,hbd,↓U5,↓XP,↓XU,XW0,XW1,qa,qb,qc,qd,qe,qf,reduceCtorEq,TYX]
  simp only [← hbd]
  refine XW.loopS Go.Proofs.Ytffbjejmobhpkaa.hm 157 (fun i : Nat=>[(0,.slc (mapD intD l)),(1,.slc (mapD intD m)),(2,.slc (mapD intD k)),(7,.ptr b7 0),(8,.slc (mapD Id3.d q)),(9,.slc (mapD Id3.d a)),(13,.bool (lastB b a i)),(14,.int .i64 ((i : Nat) : Int))]) (fun i=>(b7,AO.cells b.d) :: H) (fun i=>a.length - i) (fun i=>i ≤ a.length) 0 (by omega) ⟨rfl,rfl,rfl,rfl,rfl,rfl,rfl,rfl,rfl,trivial⟩ rfl ?_
  rintro i z hi K hN hE hR
  have hN' := hN (i + 1)
  clear hN
  show xcode _ _ [.slc (mapD intD l),.slc (mapD intD m),.slc (mapD intD k),z 3,z 4,z 5,z 6,.ptr b7 0,.slc (mapD Id3.d q),.slc (mapD Id3.d a),z 10,z 11,z 12,.bool (lastB b a i),.int .i64 ((i : Nat) : Int),z 15,z 16,z 17,z 18,z 19,z 20,z 21,z 22,z 23,z 24,z 25,z 26,z 27,z 28,z 29,z 30,z 31,z 32,z 33,z 34,z 35,z 36,z 37,z 38,z 39,z 40,z 41,z 42,z 43,z 44,z 45,z 46,z 47,z 48,z 49,z 50,z 51,z 52,z 53,z 54,z 55,z 56,z 57,z 58,z 59,z 60,z 61,z 62,z 63,z 64,z 65,z 66,z 67,z 68,z 69,z 70,z 71,z 72,z 73,z 74,z 75,z 76,z 77,z 78,z 79,z 80,z 81,z 82,z 83,z 84,z 85,z 86,z 87,z 88,z 89,z 90,z 91,z 92,z 93,z 94,z 95,z 96,z 97,z 98,z 99,z 100,z 101,z 102,z 103,z 104,z 105,z 106,z 107,z 108,z 109,z 110,z 111,z 112,z 113,z 114,z 115,z 116,z 117,z 118,z 119,z 120,z 121,z 122,z 123,z 124,z 125,z 126,z 127,z 128,z 129,z 130,z 131,z 132,z 133,z 134,z 135,z 136,z 137,z 138,z 139,z 140,z 141,z 142,z 143,z 144,z 145,z 146,z 147,z 148,z 149,z 150,z 151,z 152,z 153,z 154,z 155,z 156] _ K
  by_cases hlt : i < a.length
  ·have hlt' : ((i : Int) < (a.length : Int)) = True := eq_true (by omega)
   have g := mapD_get (f := Id3.d) hlt
   have hnew := pw_new ha.pw hlt
   have hmem := (ha.mm _).1 (getD_mem hlt)
   have hbef : ∀ j,j < i → befP b (a.getD i default) (a.getD j default) = false := fun j hj=>bef_lt (pw_get ha.pw hj hlt)
   have hla : lastB b a (i + 1) = (senP b (a.getD i default)).2 := rfl
   have hlb : (senP b (a.getD i default)).2 = true → lastB b a i = true := fun h2=>by
    cases i with
    | zero=>rfl
    | succ n=>exact is_lt (pw_get ha.pw (Nat.lt_succ_self n) hlt) h2
   generalize a.getD i default = x at g hnew hmem hbef hla hlb
   have hxd : x.d = [.int .i64 x.o,.int .i64 x.s,.int .i64 x.i] := rfl
   simp +contextual only [x5,mapD_len,hbd,hlt',g,hxd,Int.toNat_natCast,↓U5,↓XP,↓XU,XW0,XW1,qa,qb,qc,qd,qe,qf,reduceCtorEq,TYX]
   intros
   refine ⟨_,fun _ _=>f_first hg.small hg.ix (b := b) (x := x) (okS hg).1 (okS hg).2 ⟨rfl,rfl⟩,?_⟩
   generalize firP b x = fl
   generalize hss : senP b x = ss at hla hlb
   obtain ⟨⟨u,w⟩,v⟩ := ss
   have hsd : Sp.d ⟨u,w⟩ = [.int .i64 u,.int .i64 w] := rfl
   dsimp only at hla hlb
   simp +contextual only [x5,mapD_len,hbd,hlt',g,hxd,hsd,Int.toNat_natCast,↓U5,↓XP,↓XU,XW0,XW1,qa,qb,qc,qd,qe,qf,reduceCtorEq,TYX]
   intro _
   refine ⟨by omega,?_⟩
   rintro b15 ⟨n715,h15⟩
   have tail : ∀ (F : List D) (vv : Bool),lastB b a (i + 1) = vv → Fr 157 [(0,.slc (mapD intD l)),(1,.slc (mapD intD m)),(2,.slc (mapD intD k)),(7,.ptr b7 0),(8,.slc (mapD Id3.d q)),(9,.slc (mapD Id3.d a)),(13,.bool vv),(14,.int .i64 ((i : Nat) : Int)),(18,.int .i64 ((0 : Nat) : Int))] F → XW Try.prog x5_L10 F ((b15,AO.cells [.int .i64 u,.int .i64 w]) :: (b7,.cells b.d) :: H) (blockQ 8 (blockQ 7 (seqQ Try.prog x5_s13 K))) := by
    intro F vv hvv hF
    refine XW.loopS Go.Proofs.Ytffbjejmobhpkaa.hm 157 (fun j : Nat=>[(0,.slc (mapD intD l)),(1,.slc (mapD intD m)),(2,.slc (mapD intD k)),(7,.ptr b7 0),(8,.slc (mapD Id3.d q)),(9,.slc (mapD Id3.d a)),(13,.bool vv),(14,.int .i64 ((i : Nat) : Int)),(18,.int .i64 ((j : Nat) : Int))]) (fun j=>(b15,AO.cells [.int .i64 u,.int .i64 w]) :: (b7,.cells b.d) :: H) (fun j=>i - j) (fun j=>j ≤ i) 0 (by omega) hF rfl ?_
    rintro j z hj K2 hN2 hE2 hR2
    have hN2' := hN2 (j + 1)
    clear hN2
    show xcode _ _ [.slc (mapD intD l),.slc (mapD intD m),.slc (mapD intD k),z 3,z 4,z 5,z 6,.ptr b7 0,.slc (mapD Id3.d q),.slc (mapD Id3.d a),z 10,z 11,z 12,.bool vv,.int .i64 ((i : Nat) : Int),z 15,z 16,z 17,.int .i64 ((j : Nat) : Int),z 19,z 20,z 21,z 22,z 23,z 24,z 25,z 26,z 27,z 28,z 29,z 30,z 31,z 32,z 33,z 34,z 35,z 36,z 37,z 38,z 39,z 40,z 41,z 42,z 43,z 44,z 45,z 46,z 47,z 48,z 49,z 50,z 51,z 52,z 53,z 54,z 55,z 56,z 57,z 58,z 59,z 60,z 61,z 62,z 63,z 64,z 65,z 66,z 67,z 68,z 69,z 70,z 71,z 72,z 73,z 74,z 75,z 76,z 77,z 78,z 79,z 80,z 81,z 82,z 83,z 84,z 85,z 86,z 87,z 88,z 89,z 90,z 91,z 92,z 93,z 94,z 95,z 96,z 97,z 98,z 99,z 100,z 101,z 102,z 103,z 104,z 105,z 106,z 107,z 108,z 109,z 110,z 111,z 112,z 113,z 114,z 115,z 116,z 117,z 118,z 119,z 120,z 121,z 122,z 123,z 124,z 125,z 126,z 127,z 128,z 129,z 130,z 131,z 132,z 133,z 134,z 135,z 136,z 137,z 138,z 139,z 140,z 141,z 142,z 143,z 144,z 145,z 146,z 147,z 148,z 149,z 150,z 151,z 152,z 153,z 154,z 155,z 156] _ K2
    by_cases hlt2 : j < i
    ·have hlt2' : ((j : Int) < (i : Int)) = True := eq_true (by omega)
     have hja : ((j : Int) < (a.length : Int)) = True := eq_true (by omega)
     have hj0 : ((0 : Int) ≤ (j : Int)) = True := eq_true (by omega)
     have g2 := mapD_get (f := Id3.d) (l := a) (i := j) (by omega)
     have hb2 := hbef j hlt2
     generalize a.getD j default = y at g2 hb2
     have hyd : y.d = [.int .i64 y.o,.int .i64 y.s,.int .i64 y.i] := rfl
     simp +contextual only [x5,mapD_len,hbd,hlt',hlt2',hja,hj0,g,g2,hxd,hyd,Int.toNat_natCast,h_miss,h_skip,n715,↓U5,↓XP,↓XU,XW0,XW1,qa,qb,qc,qd,qe,qf,reduceCtorEq,TYX]
     intros
     refine ⟨_,fun _ _=>f_before hg.small hg.ix (b := b) (x := x) (y := y) ⟨rfl,rfl⟩,?_⟩
     rw [hb2]
     simp +contextual only [x5,mapD_len,wrap_succ (show j ≤ big by omega),↓U5,↓XP,↓XU,XW0,XW1,qa,qb,qc,qd,qe,qf,reduceCtorEq,TYX]
     intros
     exact hN2' _ _ hlt2 (by omega) ⟨rfl,rfl,rfl,rfl,rfl,rfl,rfl,rfl,rfl,rfl,trivial⟩ (back_0 rfl)
    ·have hkd : j = i := by omega
     subst hkd
     simp +contextual only [x5,mapD_len,↓U5,↓XP,↓XU,XW0,XW1,qa,qb,qc,qd,qe,qf,reduceCtorEq,TYX]
     intros
     refine hE2 _ _ _ ?_
     simp +contextual only [x5,mapD_len,wrap_succ (show j ≤ big by omega),↓U5,↓XP,↓XU,XW0,XW1,qa,qb,qc,qd,qe,qf,reduceCtorEq,TYX]
     intros
     subst hvv
     exact hN' _ _ (by omega) (by omega) ⟨rfl,rfl,rfl,rfl,rfl,rfl,rfl,rfl,rfl,trivial⟩ (back_1 rfl)
   rcases v with _ | _
   case' true =>
    rw [hlb rfl]
    simp +contextual only [x5,mapD_len,hbd,hlt',g,hxd,hsd,Int.toNat_natCast,h_miss,h_skip,n715,↓U5,↓XP,↓XU,XW0,XW1,qa,qb,qc,qd,qe,qf,reduceCtorEq,TYX]
   case' false =>
    simp +contextual only [x5,mapD_len,hbd,hlt',g,hxd,hsd,Int.toNat_natCast,h_miss,h_skip,n715,↓U5,↓XP,↓XU,XW0,XW1,qa,qb,qc,qd,qe,qf,reduceCtorEq,TYX]
   all_goals
    rw [mapD_take]
    refine ⟨mapD_sz fun _=>rfl,by omega,_,fun _ _=>f_has (l := a.take i) (x := x) ⟨rfl,rfl⟩,?_⟩
    rw [decide_eq_false hnew]
    simp +contextual only [x5,mapD_len,hbd,hlt',g,hxd,hsd,Int.toNat_natCast,h_miss,h_skip,n715,↓U5,↓XP,↓XU,XW0,XW1,qa,qb,qc,qd,qe,qf,reduceCtorEq,TYX]
    intros
    refine ⟨_,fun _ _=>f_has (l := q) (x := x) ⟨rfl,rfl⟩,?_⟩
    rw [decide_eq_true hmem]
    simp +contextual only [x5,mapD_len,hbd,hlt',g,hxd,hsd,Int.toNat_natCast,h_miss,h_skip,n715,↓U5,↓XP,↓XU,XW0,XW1,qa,qb,qc,qd,qe,qf,reduceCtorEq,TYX]
    simp only [← hbd]
    exact tail _ _ hla ⟨rfl,rfl,rfl,rfl,rfl,rfl,rfl,rfl,rfl,rfl,trivial⟩
  ·have hin : i = a.length := by omega
   subst hin
   simp +contextual only [x5,mapD_len,hbd,↓U5,↓XP,↓XU,XW0,XW1,qa,qb,qc,qd,qe,qf,reduceCtorEq,TYX]
   intros
   refine hE _ _ _ ?_
   simp +contextual only [x5,mapD_len,↓U5,↓XP,↓XU,XW0,XW1,qa,qb,qc,qd,qe,qf,reduceCtorEq,TYX]
   refine f_lives ?_
   simp +contextual only [x5,mapD_len,↓U5,↓XP,↓XU,XW0,XW1,qa,qb,qc,qd,qe,qf,reduceCtorEq,TYX]
   exact h
end Go.Proofs.Ytffbjejmobhpkaa
end
section
namespace Go.Proofs.Ytffbjejmobhpkaa.linear
open Go Go.Aw Go.RowKit Go.ChangeShapes Go.WideShapes Go.ChangeAt
theorem contract (H : Type) (enc : TypeId × Value → H) (W : World) (base : Nat) (args : Array Value) (ds gs : List (DataW H)) (before : List MemPlace)
  (hval : ∀ (j : Nat) t v,Try.f5.params[j]? = some t → args[j]? = some v → Value.okWide Try.prog W .any base t v)
  (hW : DataW.Whole enc Try.prog Try.f5.params.toList Rows.evidenceLinearSpec.vars false W args.toList ds gs before) (hk : Rows.uptoSmall H (ds ++ gs) = true) :
  Calls Try.prog 5 args W fun e W'=>∃ v,e = .returned v ∧ Rows.evidenceLinearSpec.post enc Try.prog Try.f5 false true false false W args v W' := by
 have hW' := hW
 have hbd := bound hk
 obtain ⟨p,q,hA0,hV,rfl,hfz,hnd⟩ := hW
 have hA : DataW.TrodAll enc Try.prog W 0 (fun _=>true) true Try.f5.params.toList args.toList ds p := hA0
 rw [Try.params5] at hA hval
 obtain ⟨v0,vs0,d0,ds0,p0,q0,hargs,rfl,rfl,h0,r0⟩ := trodAll_cons hA
 obtain ⟨v1,vs1,d1,ds1,p1,q1,rfl,rfl,rfl,h1,r1⟩ := trodAll_cons r0
 obtain ⟨v2,vs2,d2,ds2,p2,q2,rfl,rfl,rfl,h2,r2⟩ := trodAll_cons r1
 obtain ⟨rfl,rfl,rfl⟩ := trodAll_nil r2
 obtain rfl : args = #[v0,v1,v2] := by cases args; simp_all
 obtain ⟨rfl,rfl⟩ := trodVars_none hV
 simp only [List.append_nil,Rows.uptoBulkAll] at hbd
 obtain ⟨l,hq0,e0⟩ := rd_ints.arg1 (by kernel_rfl) (hval 0 _ v0 rfl rfl) h0 (by omega)
 obtain ⟨m,hq1,e1⟩ := rd_ints.arg1 (by kernel_rfl) (hval 1 _ v1 rfl rfl) h1 (by omega)
 obtain ⟨day,hq2,e2⟩ := rd_ints.arg1 (by kernel_rfl) (hval 2 _ v2 rfl rfl) h2 (by omega)
 refine ((f_mLinear (l := l) (m := m) (k := day) (H := []) (R := fun d H=>d = .bool true) rfl).calls W _ rfl ?_).mono ?_
 ·intro j d v hd hv
  match j with
  | 0=>cases hd; cases hv; exact e0
  | 1=>cases hd; cases hv; exact e1
  | 2=>cases hd; cases hv; exact e2
  | j + 3=>cases hd
 ·rintro e W' ⟨v,d,H',K',rfl,rfl,hb,hr⟩
  have hv : v = .bool true := by cases hr with | bool=>rfl
  subst hv
  exact ⟨_,rfl,post_true kids full (by rw [Try.params5]; decide) hW' rfl hb rfl Try.underlying4 rfl⟩
theorem lifted (os : Os) (started : os.Started) (H : Type) (enc : TypeId × Value → H) (F : Stop.Interp) :
  ReturnsInHanded {} Try.checked os 5 .any ((Rows.OpenSpec.upto Rows.evidenceLinearSpec).pre6 enc Try.prog Try.f5 Rows.evidenceLinearUptoRow.domain false) (((Rows.OpenSpec.upto Rows.evidenceLinearSpec).at F).post enc Try.prog Try.f5 false true false false) := by
 refine returnsInHanded_of_cond (C := Try.checked) (s := Rows.OpenSpec.upto Rows.evidenceLinearSpec) (k := Rows.uptoSmall) rfl own started (by kernel_rfl) Try.func5
  (OpenSpec.witness (enc := enc) (C := Try.checked) (s := Rows.OpenSpec.upto Rows.evidenceLinearSpec) (k := Rows.uptoSmall) rfl false ⟨#[],#[.slice none 0 0,.slice none 0 0,.slice none 0 0],[]⟩ 8 (by kernel_rfl) (by kernel_rfl) (by kernel_rfl)
   (x := ([.nil,.nil,.nil],[],[])) (by kernel_rfl) rfl (by kernel_rfl)) ?_
 intro W base args ds gs before hval hW _ hk _
 exact contract H enc W base args ds gs before hval hW hk
theorem proved : Rows.EvidenceLinearUptoSaid :=
 OpenClaim.holds_of_cond 5 Try.f5 rfl rfl rfl rfl rfl rfl rfl ⟨rfl,rfl,rfl,rfl,rfl⟩ rfl rfl rfl rfl rfl (by kernel_rfl) Try.func5 (by kernel_rfl)
  (of_decide_eq_true (by kernel_rfl)) (by unfold Func.isWrapper; first | (rw [if_pos (by decide +kernel)]; kernel_rfl) | (rw [if_neg (by decide +kernel)]; exact ⟨rfl,rfl⟩))
  (fun os started H enc _ F=>lifted os started H enc F)
end Go.Proofs.Ytffbjejmobhpkaa.linear
end
