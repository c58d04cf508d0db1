/- The statement of EvidenceChain in its second form: for every input within the bound the call returns true, writes nothing that was there, and its arguments read as before. Conditions: none but the statement's own bound. -/
import Derived.Test.YtffbjejmobhpkaaB23
set_option linter.unusedVariables false
set_option linter.unusedSimpArgs false
set_option maxRecDepth 100000
set_option maxHeartbeats 16000000
open Nat renaming reduceSub → qa,reduceAdd → qb,reduceMul → qc,reduceEqDiff → qd,reduceLeDiff → qe,reduceBEq → qf
section
namespace Go.Proofs.Ytffbjejmobhpkaa
open Go Go.Aw
theorem ex_sm : Small exB := ex_gen.small
theorem ex_ix : IxOk (ixP exB) := ex_gen.ix
theorem okS {b : Bk} (hg : Gen b) {x : Id3} : (senL b x).length ≤ 1073741824 ∧ ∀ t ∈ senL b x,OkI t.id := by
 have h1 : senL b x = b.qt.filterMap (evX b x) := look_evM
 refine ⟨?_,fun t ht=>?_⟩
 ·rw [h1]
  have := List.length_filterMap_le (evX b x) b.qt
  have := hg.qt
  omega
 ·rw [h1] at ht
  obtain ⟨q,hq,he⟩ := List.mem_filterMap.1 ht
  unfold evX at he
  split at he
  ·rename_i y t' hh
   split at he
   ·injection he with he
    subst he
    unfold evQ at hh
    split at hh
    ·split at hh
     ·injection hh with hh
      injection hh with _ hh
      rw [← hh]
      exact hg.qi q hq
     ·cases hh
    ·cases hh
   ·cases he
  ·cases he
theorem f_lives {H : AH} {R : D → AH → Prop} (h : R (.bool true) H) : ACall Try.prog 17 [] H R := by
 refine b17 fun hf=>?_
 have hbig := big_eq
 simp +contextual only [x17,mapD_len,↓U17,↓XP,↓XU,XW0,XW1,qa,qb,qc,qd,qe,qf,reduceCtorEq,TYX]
 refine f_example ?_
 have hbd : exB.d = [.slc (mapD En.d exB.en),.slc (mapD Sn.d exB.sn),.slc (mapD Sr.d exB.sr),.slc (mapD Qt.d exB.qt),.slc (mapD Spl.d exB.sl),.slc (mapD Mg.d exB.mg),.slc (mapD Ch.d exB.ch)] := rfl
 have hid : ∀ i : Int,Id3.d ⟨0,1,i⟩ = [.int .i64 0,.int .i64 1,.int .i64 i] := fun _=>rfl
 simp +contextual only [x17,mapD_len,hbd,↓U17,↓XP,↓XU,XW0,XW1,qa,qb,qc,qd,qe,qf,reduceCtorEq,TYX]
 intro b1 h1
 refine ⟨_,fun _ _=>f_id ⟨rfl,rfl⟩,?_⟩
 simp +contextual only [x17,mapD_len,hid,↓U17,↓XP,↓XU,XW0,XW1,qa,qb,qc,qd,qe,qf,reduceCtorEq,TYX]
 refine ⟨_,fun _ _=>f_first (b := exB) ex_sm ex_ix (x := exI 1) (okS ex_gen).1 (okS ex_gen).2 ⟨rfl,rfl⟩,?_⟩
 rw [ex_1,ex_f]
 have hs1 : Sp.d ⟨10,17⟩ = [.int .i64 10,.int .i64 17] := rfl
 simp +contextual only [x17,mapD_len,hs1,↓U17,↓XP,↓XU,XW0,XW1,qa,qb,qc,qd,qe,qf,reduceCtorEq,TYX]
 refine fun _=>⟨by omega,?_⟩
 rintro b2 ⟨n12,h2⟩
 intros
 refine ⟨_,fun _ _=>f_id ⟨rfl,rfl⟩,?_⟩
 simp +contextual only [x17,mapD_len,hid,h_miss,h_skip,n12,↓U17,↓XP,↓XU,XW0,XW1,qa,qb,qc,qd,qe,qf,reduceCtorEq,TYX]
 refine ⟨_,fun _ _=>f_attested (b := exB) ex_sm ex_ix (x := exI 1) (t := 12) ⟨rfl,rfl⟩,?_⟩
 rw [show attP exB (exI 1) 12 = (false,true) by unfold attP; rw [ex_1]; rfl]
 simp +contextual only [x17,mapD_len,h_miss,h_skip,n12,↓U17,↓XP,↓XU,XW0,XW1,qa,qb,qc,qd,qe,qf,reduceCtorEq,TYX]
 refine ⟨_,fun _ _=>f_id ⟨rfl,rfl⟩,?_⟩
 simp +contextual only [x17,mapD_len,hid,h_miss,h_skip,n12,↓U17,↓XP,↓XU,XW0,XW1,qa,qb,qc,qd,qe,qf,reduceCtorEq,TYX]
 refine ⟨_,fun _ _=>f_attested (b := exB) ex_sm ex_ix (x := exI 1) (t := 17) ⟨rfl,rfl⟩,?_⟩
 rw [show attP exB (exI 1) 17 = (true,true) by unfold attP; rw [ex_1]; rfl]
 simp +contextual only [x17,mapD_len,h_miss,h_skip,n12,↓U17,↓XP,↓XU,XW0,XW1,qa,qb,qc,qd,qe,qf,reduceCtorEq,TYX]
 refine ⟨_,fun _ _=>f_id ⟨rfl,rfl⟩,?_⟩
 simp +contextual only [x17,mapD_len,hid,h_miss,h_skip,n12,↓U17,↓XP,↓XU,XW0,XW1,qa,qb,qc,qd,qe,qf,reduceCtorEq,TYX]
 refine ⟨_,fun _ _=>f_attested (b := exB) ex_sm ex_ix (x := exI 1) (t := 9) ⟨rfl,rfl⟩,?_⟩
 rw [show attP exB (exI 1) 9 = (false,false) by unfold attP; rw [ex_1]; rfl]
 simp +contextual only [x17,mapD_len,h_miss,h_skip,n12,↓U17,↓XP,↓XU,XW0,XW1,qa,qb,qc,qd,qe,qf,reduceCtorEq,TYX]
 refine f_id ?_
 simp +contextual only [x17,mapD_len,hid,h_miss,h_skip,n12,↓U17,↓XP,↓XU,XW0,XW1,qa,qb,qc,qd,qe,qf,reduceCtorEq,TYX]
 refine f_id ?_
 simp +contextual only [x17,mapD_len,hid,h_miss,h_skip,n12,↓U17,↓XP,↓XU,XW0,XW1,qa,qb,qc,qd,qe,qf,reduceCtorEq,TYX]
 refine f_id ?_
 simp +contextual only [x17,mapD_len,hid,h_miss,h_skip,n12,↓U17,↓XP,↓XU,XW0,XW1,qa,qb,qc,qd,qe,qf,reduceCtorEq,TYX]
 refine f_id ?_
 simp +contextual only [x17,mapD_len,hid,h_miss,h_skip,n12,↓U17,↓XP,↓XU,XW0,XW1,qa,qb,qc,qd,qe,qf,reduceCtorEq,TYX]
 refine f_id ?_
 simp +contextual only [x17,mapD_len,hid,h_miss,h_skip,n12,↓U17,↓XP,↓XU,XW0,XW1,qa,qb,qc,qd,qe,qf,reduceCtorEq,TYX]
 refine f_id ?_
 simp +contextual only [x17,mapD_len,hid,h_miss,h_skip,n12,↓U17,↓XP,↓XU,XW0,XW1,qa,qb,qc,qd,qe,qf,reduceCtorEq,TYX]
 refine f_id ?_
 simp +contextual only [x17,mapD_len,hid,h_miss,h_skip,n12,↓U17,↓XP,↓XU,XW0,XW1,qa,qb,qc,qd,qe,qf,reduceCtorEq,TYX]
 refine f_id ?_
 simp +contextual only [x17,mapD_len,hid,h_miss,h_skip,n12,↓U17,↓XP,↓XU,XW0,XW1,qa,qb,qc,qd,qe,qf,reduceCtorEq,TYX]
 refine f_same (l := [exI 5,exI 6]) (q := [exI 5,exI 6]) ?_
 rw [decide_eq_true rfl]
 simp +contextual only [x17,mapD_len,h_miss,h_skip,n12,↓U17,↓XP,↓XU,XW0,XW1,qa,qb,qc,qd,qe,qf,reduceCtorEq,TYX]
 refine f_Order (b := exB) ex_sm ex_ix (l := [exI 3,exI 2,exI 1]) (by simp) (fun x hx=>by simp only [List.mem_cons,List.not_mem_nil,or_false] at hx; rcases hx with rfl | rfl | rfl <;> exact okz (by simp [exI])) fun m hp hs=>?_
 rw [ord_of hp hs ex_o (fun y=>List.Perm.mem_iff (by decide))]
 simp +contextual only [x17,mapD_len,h_miss,h_skip,n12,↓U17,↓XP,↓XU,XW0,XW1,qa,qb,qc,qd,qe,qf,reduceCtorEq,TYX]
 intros
 refine f_same (l := [exI 1,exI 2,exI 3]) (q := [exI 1,exI 2,exI 3]) ?_
 rw [decide_eq_true rfl]
 simp +contextual only [x17,mapD_len,h_miss,h_skip,n12,↓U17,↓XP,↓XU,XW0,XW1,qa,qb,qc,qd,qe,qf,reduceCtorEq,TYX]
 refine f_chain (b := exB) ex_sm ex_ix (l := [exI 3,exI 2,exI 1]) (by simp) (fun x hx=>by simp only [List.mem_cons,List.not_mem_nil,or_false] at hx; rcases hx with rfl | rfl | rfl <;> simp [ex_1,ex_2,ex_3]) ?_
 rw [show chP exB [exI 3,exI 2,exI 1] ([exI 3,exI 2,exI 1].length + 1) 0 = [exI 1,exI 2,exI 3] from ex_c]
 simp +contextual only [x17,mapD_len,h_miss,h_skip,n12,↓U17,↓XP,↓XU,XW0,XW1,qa,qb,qc,qd,qe,qf,reduceCtorEq,TYX]
 intros
 refine f_same (l := [exI 1,exI 2,exI 3]) (q := [exI 1,exI 2,exI 3]) ?_
 rw [decide_eq_true rfl]
 simp +contextual only [x17,mapD_len,h_miss,h_skip,n12,↓U17,↓XP,↓XU,XW0,XW1,qa,qb,qc,qd,qe,qf,reduceCtorEq,TYX]
 refine ⟨_,fun _ _=>f_id ⟨rfl,rfl⟩,?_⟩
 simp +contextual only [x17,mapD_len,hid,h_miss,h_skip,n12,↓U17,↓XP,↓XU,XW0,XW1,qa,qb,qc,qd,qe,qf,reduceCtorEq,TYX]
 refine ⟨_,fun _ _=>f_id ⟨rfl,rfl⟩,?_⟩
 simp +contextual only [x17,mapD_len,hid,h_miss,h_skip,n12,↓U17,↓XP,↓XU,XW0,XW1,qa,qb,qc,qd,qe,qf,reduceCtorEq,TYX]
 refine ⟨_,fun _ _=>f_before (b := exB) ex_sm ex_ix (x := exI 1) (y := exI 2) ⟨rfl,rfl⟩,?_⟩
 rw [show befP exB (exI 1) (exI 2) = true by unfold befP; rw [ex_1,ex_2]; rfl]
 simp +contextual only [x17,mapD_len,h_miss,h_skip,n12,↓U17,↓XP,↓XU,XW0,XW1,qa,qb,qc,qd,qe,qf,reduceCtorEq,TYX]
 refine ⟨_,fun _ _=>f_id ⟨rfl,rfl⟩,?_⟩
 simp +contextual only [x17,mapD_len,hid,h_miss,h_skip,n12,↓U17,↓XP,↓XU,XW0,XW1,qa,qb,qc,qd,qe,qf,reduceCtorEq,TYX]
 refine ⟨_,fun _ _=>f_id ⟨rfl,rfl⟩,?_⟩
 simp +contextual only [x17,mapD_len,hid,h_miss,h_skip,n12,↓U17,↓XP,↓XU,XW0,XW1,qa,qb,qc,qd,qe,qf,reduceCtorEq,TYX]
 refine ⟨_,fun _ _=>f_before (b := exB) ex_sm ex_ix (x := exI 2) (y := exI 1) ⟨rfl,rfl⟩,?_⟩
 rw [show befP exB (exI 2) (exI 1) = false by unfold befP; rw [ex_1,ex_2]; rfl]
 simp +contextual only [x17,mapD_len,h_miss,h_skip,n12,↓U17,↓XP,↓XU,XW0,XW1,qa,qb,qc,qd,qe,qf,reduceCtorEq,TYX]
 exact h
end Go.Proofs.Ytffbjejmobhpkaa
end
section
namespace Go.Proofs.Ytffbjejmobhpkaa
open Go Go.Aw
theorem mapD_take {α : Type} {f : α → List D} {l : List α} {n : Nat} : (mapD f l).take n = mapD f (l.take n) := by simp [mapD,List.map_take]
theorem pw_get {r : Id3 → Id3 → Prop} {a : List Id3} (h : a.Pairwise r) {i j : Nat} (hij : i < j) (hj : j < a.length) : r (a.getD i default) (a.getD j default) := by
 rw [getD_lt hj,getD_lt (by omega)]
 exact List.pairwise_iff_getElem.1 h i j (by omega) hj hij
end Go.Proofs.Ytffbjejmobhpkaa
end
section
namespace Go.Proofs.Ytffbjejmobhpkaa
open Go Go.Aw
def fndB (b : Bk) (s : Sp) (l : List Id3) : Bool := l.any fun t=>(senP b t).2 && (decide (s.a ≤ (senP b t).1.b) && decide ((senP b t).1.b ≤ s.b))
theorem f_mChain {l m k : List Int} {H : AH} {R : D → AH → Prop} (h : R (.bool true) H) : ACall Try.prog 6 [.slc (mapD intD l),.slc (mapD intD m),.slc (mapD intD k)] H R := by
 refine b6 fun hf=>?_
 have hbig := big_eq
 simp +contextual only [x6,mapD_len,↓U6,↓XP,↓XU,XW0,XW1,qa,qb,qc,qd,qe,qf,reduceCtorEq,TYX]
 refine f_book21 fun b hg hsn=>?_
 have hbd : b.d = [.slc (mapD En.d b.en),.slc (mapD Sn.d b.sn),.slc (mapD Sr.d b.sr),.slc (mapD Qt.d b.qt),.slc (mapD Spl.d b.sl),.slc (mapD Mg.d b.mg),.slc (mapD Ch.d b.ch)] := rfl
 rw [hbd]
 simp +contextual only [x6,mapD_len,↓U6,↓XP,↓XU,XW0,XW1,qa,qb,qc,qd,qe,qf,reduceCtorEq,TYX]
 intro b7 h7
 refine f_rIDs hg.smallR (b := b) (l := k) ?_
 have hql := rIDs_len (b := b) (l := k)
 have hqo := rIDs_ok hg.smallR (l := k)
 generalize rIDs b k = q at hql hqo
 simp +contextual only [x6,mapD_len,↓U6,↓XP,↓XU,XW0,XW1,qa,qb,qc,qd,qe,qf,reduceCtorEq,TYX]
 intros
 refine f_chain hg.small hg.ix (b := b) (l := q) (by omega) (fun x _ hx=>(senP_ok hx).2.1) ?_
 have ha := chn_ok (b := b) (l := q)
 generalize chP b q (q.length + 1) 0 = a at ha
 simp +contextual only [x6,mapD_len,hbd,↓U6,↓XP,↓XU,XW0,XW1,qa,qb,qc,qd,qe,qf,reduceCtorEq,TYX]
 intros
 simp only [← hbd]
 refine XW.loopS Go.Proofs.Ytffbjejmobhpkaa.hm 128 (fun i : Nat=>[(0,.slc (mapD intD l)),(1,.slc (mapD intD m)),(2,.slc (mapD intD k)),(7,.ptr b7 0),(8,.slc (mapD Id3.d q)),(9,.slc (mapD Id3.d a)),(10,.int .i64 ((i : Nat) : Int))]) (fun i=>(b7,AO.cells b.d) :: H) (fun i=>a.length - i) (fun i=>i ≤ a.length) 0 (by omega) ⟨rfl,rfl,rfl,rfl,rfl,rfl,rfl,rfl,trivial⟩ rfl ?_
 rintro i z hi K hN hE hR
 have hN' := hN (i + 1)
 clear hN
 show xcode _ _ [.slc (mapD intD l),.slc (mapD intD m),.slc (mapD intD k),z 3,z 4,z 5,z 6,.ptr b7 0,.slc (mapD Id3.d q),.slc (mapD Id3.d a),.int .i64 ((i : Nat) : Int),z 11,z 12,z 13,z 14,z 15,z 16,z 17,z 18,z 19,z 20,z 21,z 22,z 23,z 24,z 25,z 26,z 27,z 28,z 29,z 30,z 31,z 32,z 33,z 34,z 35,z 36,z 37,z 38,z 39,z 40,z 41,z 42,z 43,z 44,z 45,z 46,z 47,z 48,z 49,z 50,z 51,z 52,z 53,z 54,z 55,z 56,z 57,z 58,z 59,z 60,z 61,z 62,z 63,z 64,z 65,z 66,z 67,z 68,z 69,z 70,z 71,z 72,z 73,z 74,z 75,z 76,z 77,z 78,z 79,z 80,z 81,z 82,z 83,z 84,z 85,z 86,z 87,z 88,z 89,z 90,z 91,z 92,z 93,z 94,z 95,z 96,z 97,z 98,z 99,z 100,z 101,z 102,z 103,z 104,z 105,z 106,z 107,z 108,z 109,z 110,z 111,z 112,z 113,z 114,z 115,z 116,z 117,z 118,z 119,z 120,z 121,z 122,z 123,z 124,z 125,z 126,z 127] _ K
 by_cases hlt : i < a.length
 ·have hlt' : ((i : Int) < (a.length : Int)) = True := eq_true (by omega)
  have g := mapD_get (f := Id3.d) hlt
  have hqm := (ha.mm _ (getD_mem hlt)).1
  have hpr : ∀ j,j < i → befP b (a.getD j default) (a.getD i default) = true := fun j hj=>pw_get ha.pw hj hlt
  generalize a.getD i default = x at g hqm hpr
  have hxd : x.d = [.int .i64 x.o,.int .i64 x.s,.int .i64 x.i] := rfl
  simp +contextual only [x6,mapD_len,hbd,hlt',g,hxd,Int.toNat_natCast,↓U6,↓XP,↓XU,XW0,XW1,qa,qb,qc,qd,qe,qf,reduceCtorEq,TYX]
  intros
  refine ⟨_,fun _ _=>f_has (l := q) (x := x) ⟨rfl,rfl⟩,?_⟩
  rw [decide_eq_true hqm]
  by_cases hi0 : i = 0
  ·have hiz : ((0 : Int) < (i : Int)) = False := eq_false (by omega)
   simp +contextual only [x6,mapD_len,hbd,hlt',hiz,g,hxd,Int.toNat_natCast,wrap_succ (show i ≤ big by omega),↓U6,↓XP,↓XU,XW0,XW1,qa,qb,qc,qd,qe,qf,reduceCtorEq,TYX]
   intros
   simp only [← hbd]
   exact hN' _ _ hlt (by omega) ⟨rfl,rfl,rfl,rfl,rfl,rfl,rfl,rfl,trivial⟩ (back_0 rfl)
  ·obtain ⟨n,rfl⟩ : ∃ n,i = n + 1 := ⟨i - 1,by omega⟩
   have hiz : ((0 : Int) < ((n + 1 : Nat) : Int)) = True := eq_true (by omega)
   have hw : IntKind.i64.wrap (((n + 1 : Nat) : Int) - 1) = (n : Int) := by rw [wrap_id (by omega) (by omega)]; omega
   have hn0 : ((0 : Int) ≤ (n : Int)) = True := eq_true (by omega)
   have hna : ((n : Int) < (a.length : Int)) = True := eq_true (by omega)
   have g2 := mapD_get (f := Id3.d) (l := a) (i := n) (by omega)
   have hbt := hpr n (by omega)
   generalize a.getD n default = y at g2 hbt
   have hyd : y.d = [.int .i64 y.o,.int .i64 y.s,.int .i64 y.i] := rfl
   simp +contextual only [x6,mapD_len,hbd,hlt',hiz,hw,hn0,hna,g,g2,hxd,hyd,Int.toNat_natCast,↓U6,↓XP,↓XU,XW0,XW1,qa,qb,qc,qd,qe,qf,reduceCtorEq,TYX]
   intros
   refine ⟨_,fun _ _=>f_before hg.small hg.ix (b := b) (x := y) (y := x) ⟨rfl,rfl⟩,?_⟩
   rw [hbt]
   simp +contextual only [x6,mapD_len,hbd,hlt',hiz,g,hxd,Int.toNat_natCast,wrap_succ (show n + 1 ≤ big by omega),↓U6,↓XP,↓XU,XW0,XW1,qa,qb,qc,qd,qe,qf,reduceCtorEq,TYX]
   intros
   simp only [← hbd]
   exact hN' _ _ hlt (by omega) ⟨rfl,rfl,rfl,rfl,rfl,rfl,rfl,rfl,trivial⟩ (back_0 rfl)
 ·have hin : i = a.length := by omega
  subst hin
  simp +contextual only [x6,mapD_len,hbd,↓U6,↓XP,↓XU,XW0,XW1,qa,qb,qc,qd,qe,qf,reduceCtorEq,TYX]
  intros
  refine hE _ _ _ ?_
  clear hN' hE hR
  simp +contextual only [x6,mapD_len,hbd,↓U6,↓XP,↓XU,XW0,XW1,qa,qb,qc,qd,qe,qf,reduceCtorEq,TYX]
  simp only [← hbd]
  refine XW.loopS Go.Proofs.Ytffbjejmobhpkaa.hm 128 (fun i : Nat=>[(0,.slc (mapD intD l)),(1,.slc (mapD intD m)),(2,.slc (mapD intD k)),(7,.ptr b7 0),(8,.slc (mapD Id3.d q)),(9,.slc (mapD Id3.d a)),(11,.int .i64 ((i : Nat) : Int))]) (fun i=>(b7,AO.cells b.d) :: H) (fun i=>q.length - i) (fun i=>i ≤ q.length) 0 (by omega) ⟨rfl,rfl,rfl,rfl,rfl,rfl,rfl,rfl,trivial⟩ rfl ?_
  rintro i z hi K hN hE hR
  have hN' := hN (i + 1)
  clear hN
  show xcode _ _ [.slc (mapD intD l),.slc (mapD intD m),.slc (mapD intD k),z 3,z 4,z 5,z 6,.ptr b7 0,.slc (mapD Id3.d q),.slc (mapD Id3.d a),z 10,.int .i64 ((i : Nat) : Int),z 12,z 13,z 14,z 15,z 16,z 17,z 18,z 19,z 20,z 21,z 22,z 23,z 24,z 25,z 26,z 27,z 28,z 29,z 30,z 31,z 32,z 33,z 34,z 35,z 36,z 37,z 38,z 39,z 40,z 41,z 42,z 43,z 44,z 45,z 46,z 47,z 48,z 49,z 50,z 51,z 52,z 53,z 54,z 55,z 56,z 57,z 58,z 59,z 60,z 61,z 62,z 63,z 64,z 65,z 66,z 67,z 68,z 69,z 70,z 71,z 72,z 73,z 74,z 75,z 76,z 77,z 78,z 79,z 80,z 81,z 82,z 83,z 84,z 85,z 86,z 87,z 88,z 89,z 90,z 91,z 92,z 93,z 94,z 95,z 96,z 97,z 98,z 99,z 100,z 101,z 102,z 103,z 104,z 105,z 106,z 107,z 108,z 109,z 110,z 111,z 112,z 113,z 114,z 115,z 116,z 117,z 118,z 119,z 120,z 121,z 122,z 123,z 124,z 125,z 126,z 127] _ K
  by_cases hlt : i < q.length
  ·have hlt' : ((i : Int) < (q.length : Int)) = True := eq_true (by omega)
   have g := mapD_get (f := Id3.d) hlt
   have hqm := getD_mem hlt
   generalize q.getD i default = x at g hqm
   have hxd : x.d = [.int .i64 x.o,.int .i64 x.s,.int .i64 x.i] := rfl
   simp +contextual only [x6,mapD_len,hbd,hlt',g,hxd,Int.toNat_natCast,↓U6,↓XP,↓XU,XW0,XW1,qa,qb,qc,qd,qe,qf,reduceCtorEq,TYX]
   intros
   refine ⟨_,fun _ _=>f_first hg.small hg.ix (b := b) (x := x) (okS hg).1 (okS hg).2 ⟨rfl,rfl⟩,?_⟩
   generalize firP b x = fl
   have hhs := ha.hs x hqm
   have hno : (senP b x).2 = false → x ∉ a := fun e hm=>by rw [(ha.mm x hm).2] at e; cases e
   generalize hss : senP b x = ss at hhs hno
   obtain ⟨⟨u,w⟩,v⟩ := ss
   have hsd : Sp.d ⟨u,w⟩ = [.int .i64 u,.int .i64 w] := rfl
   dsimp only at hhs hno
   have hfn : v = true → fndB b ⟨u,w⟩ a = true := fun e=>by
    obtain ⟨t,h1,h2,h3,h4⟩ := hhs e
    unfold fndB
    rw [List.any_eq_true]
    exact ⟨t,h1,by rw [h2,decide_eq_true h3,decide_eq_true h4]; rfl⟩
   simp +contextual only [x6,mapD_len,hbd,hlt',g,hxd,hsd,Int.toNat_natCast,↓U6,↓XP,↓XU,XW0,XW1,qa,qb,qc,qd,qe,qf,reduceCtorEq,TYX]
   intro _
   refine ⟨by omega,?_⟩
   rintro b12 ⟨n712,h12⟩
   simp only [← hbd]
   refine XW.loopS Go.Proofs.Ytffbjejmobhpkaa.hm 128 (fun j : Nat=>[(0,.slc (mapD intD l)),(1,.slc (mapD intD m)),(2,.slc (mapD intD k)),(7,.ptr b7 0),(8,.slc (mapD Id3.d q)),(9,.slc (mapD Id3.d a)),(11,.int .i64 ((i : Nat) : Int)),(12,.ptr b12 0),(14,.bool v),(15,.bool (fndB b ⟨u,w⟩ (a.take j))),(16,.int .i64 ((j : Nat) : Int))]) (fun j=>(b12,AO.cells [.int .i64 u,.int .i64 w]) :: (b7,.cells b.d) :: H) (fun j=>a.length - j) (fun j=>j ≤ a.length) 0 (by omega) ⟨rfl,rfl,rfl,rfl,rfl,rfl,rfl,rfl,rfl,rfl,rfl,rfl,trivial⟩ rfl ?_
   rintro j z hj K2 hN2 hE2 hR2
   have hN2' := hN2 (j + 1)
   clear hN2
   show xcode _ _ [.slc (mapD intD l),.slc (mapD intD m),.slc (mapD intD k),z 3,z 4,z 5,z 6,.ptr b7 0,.slc (mapD Id3.d q),.slc (mapD Id3.d a),z 10,.int .i64 ((i : Nat) : Int),.ptr b12 0,z 13,.bool v,.bool (fndB b ⟨u,w⟩ (a.take j)),.int .i64 ((j : Nat) : Int),z 17,z 18,z 19,z 20,z 21,z 22,z 23,z 24,z 25,z 26,z 27,z 28,z 29,z 30,z 31,z 32,z 33,z 34,z 35,z 36,z 37,z 38,z 39,z 40,z 41,z 42,z 43,z 44,z 45,z 46,z 47,z 48,z 49,z 50,z 51,z 52,z 53,z 54,z 55,z 56,z 57,z 58,z 59,z 60,z 61,z 62,z 63,z 64,z 65,z 66,z 67,z 68,z 69,z 70,z 71,z 72,z 73,z 74,z 75,z 76,z 77,z 78,z 79,z 80,z 81,z 82,z 83,z 84,z 85,z 86,z 87,z 88,z 89,z 90,z 91,z 92,z 93,z 94,z 95,z 96,z 97,z 98,z 99,z 100,z 101,z 102,z 103,z 104,z 105,z 106,z 107,z 108,z 109,z 110,z 111,z 112,z 113,z 114,z 115,z 116,z 117,z 118,z 119,z 120,z 121,z 122,z 123,z 124,z 125,z 126,z 127] _ K2
   by_cases hlt2 : j < a.length
   ·have hlt2' : ((j : Int) < (a.length : Int)) = True := eq_true (by omega)
    have g2 := mapD_get (f := Id3.d) hlt2
    have hst : fndB b ⟨u,w⟩ (a.take (j + 1)) = (fndB b ⟨u,w⟩ (a.take j) || ((senP b (a.getD j default)).2 && (decide (u ≤ (senP b (a.getD j default)).1.b) && decide ((senP b (a.getD j default)).1.b ≤ w)))) := any_take hlt2
    rw [hst] at hN2'
    generalize fndB b ⟨u,w⟩ (a.take j) = fd at hN2'
    generalize a.getD j default = y at g2 hN2'
    have hyd : y.d = [.int .i64 y.o,.int .i64 y.s,.int .i64 y.i] := rfl
    simp +contextual only [x6,mapD_len,hbd,hlt2',g2,hyd,Int.toNat_natCast,h_miss,h_skip,n712,↓U6,↓XP,↓XU,XW0,XW1,qa,qb,qc,qd,qe,qf,reduceCtorEq,TYX]
    intros
    refine ⟨_,fun _ _=>f_first hg.small hg.ix (b := b) (x := y) (okS hg).1 (okS hg).2 ⟨rfl,rfl⟩,?_⟩
    generalize firP b y = fl2
    generalize senP b y = sy at hN2' ⊢
    obtain ⟨⟨u2,w2⟩,v2⟩ := sy
    have hsd2 : Sp.d ⟨u2,w2⟩ = [.int .i64 u2,.int .i64 w2] := rfl
    dsimp only at hN2'
    simp +contextual only [x6,mapD_len,hbd,hlt2',g2,hyd,hsd2,Int.toNat_natCast,h_miss,h_skip,n712,↓U6,↓XP,↓XU,XW0,XW1,qa,qb,qc,qd,qe,qf,reduceCtorEq,TYX]
    intro _
    refine ⟨by omega,?_⟩
    rintro b17 ⟨n1217,n717,h17⟩
    cases fd with
    | true =>
     simp +contextual only [x6,mapD_len,Int.toNat_natCast,h_miss,h_skip,n712,n1217,n717,wrap_succ (show j ≤ big by omega),↓U6,↓XP,↓XU,XW0,XW1,qa,qb,qc,qd,qe,qf,reduceCtorEq,TYX]
     simp only [← hbd]
     intros
     exact hN2' _ _ hlt2 (by omega) ⟨rfl,rfl,rfl,rfl,rfl,rfl,rfl,rfl,rfl,rfl,rfl,rfl,trivial⟩ (back_1 rfl)
    | false =>
     cases v2 with
     | false =>
      simp +contextual only [x6,mapD_len,Int.toNat_natCast,h_miss,h_skip,n712,n1217,n717,wrap_succ (show j ≤ big by omega),↓U6,↓XP,↓XU,XW0,XW1,qa,qb,qc,qd,qe,qf,reduceCtorEq,TYX]
      simp only [← hbd]
      intros
      exact hN2' _ _ hlt2 (by omega) ⟨rfl,rfl,rfl,rfl,rfl,rfl,rfl,rfl,rfl,rfl,rfl,rfl,trivial⟩ (back_1 rfl)
     | true =>
      rcases Classical.em (u ≤ w2) with c1 | c1
      ·rcases Classical.em (w2 ≤ w) with c2 | c2
       ·rw [decide_eq_true c1,decide_eq_true c2] at hN2'
        simp +contextual only [x6,mapD_len,eq_true c1,eq_true c2,Int.toNat_natCast,h_miss,h_skip,n712,n1217,n717,wrap_succ (show j ≤ big by omega),↓U6,↓XP,↓XU,XW0,XW1,qa,qb,qc,qd,qe,qf,reduceCtorEq,TYX]
        simp only [← hbd]
        intros
        exact hN2' _ _ hlt2 (by omega) ⟨rfl,rfl,rfl,rfl,rfl,rfl,rfl,rfl,rfl,rfl,rfl,rfl,trivial⟩ (back_1 rfl)
       ·rw [decide_eq_true c1,decide_eq_false c2] at hN2'
        simp +contextual only [x6,mapD_len,eq_true c1,eq_false c2,Int.toNat_natCast,h_miss,h_skip,n712,n1217,n717,wrap_succ (show j ≤ big by omega),↓U6,↓XP,↓XU,XW0,XW1,qa,qb,qc,qd,qe,qf,reduceCtorEq,TYX]
        simp only [← hbd]
        intros
        exact hN2' _ _ hlt2 (by omega) ⟨rfl,rfl,rfl,rfl,rfl,rfl,rfl,rfl,rfl,rfl,rfl,rfl,trivial⟩ (back_1 rfl)
      ·rw [decide_eq_false c1] at hN2'
       simp +contextual only [x6,mapD_len,eq_false c1,Int.toNat_natCast,h_miss,h_skip,n712,n1217,n717,wrap_succ (show j ≤ big by omega),↓U6,↓XP,↓XU,XW0,XW1,qa,qb,qc,qd,qe,qf,reduceCtorEq,TYX]
       simp only [← hbd]
       intros
       exact hN2' _ _ hlt2 (by omega) ⟨rfl,rfl,rfl,rfl,rfl,rfl,rfl,rfl,rfl,rfl,rfl,rfl,trivial⟩ (back_1 rfl)
   ·have hkd : j = a.length := by omega
    subst hkd
    simp +contextual only [x6,mapD_len,↓U6,↓XP,↓XU,XW0,XW1,qa,qb,qc,qd,qe,qf,reduceCtorEq,TYX]
    intros
    refine hE2 _ _ _ ?_
    rw [List.take_length]
    cases v with
    | true =>
     rw [hfn rfl]
     simp +contextual only [x6,mapD_len,hbd,hlt',g,hxd,Int.toNat_natCast,h_miss,h_skip,n712,wrap_succ (show i ≤ big by omega),↓U6,↓XP,↓XU,XW0,XW1,qa,qb,qc,qd,qe,qf,reduceCtorEq,TYX]
     simp only [← hbd]
     intros
     exact hN' _ _ hlt (by omega) ⟨rfl,rfl,rfl,rfl,rfl,rfl,rfl,rfl,trivial⟩ (back_1 rfl)
    | false =>
     simp +contextual only [x6,mapD_len,hbd,hlt',g,hxd,Int.toNat_natCast,h_miss,h_skip,n712,↓U6,↓XP,↓XU,XW0,XW1,qa,qb,qc,qd,qe,qf,reduceCtorEq,TYX]
     refine f_has (l := a) (x := x) ?_
     rw [decide_eq_false (hno rfl)]
     simp +contextual only [x6,mapD_len,hbd,hlt',g,hxd,Int.toNat_natCast,h_miss,h_skip,n712,wrap_succ (show i ≤ big by omega),↓U6,↓XP,↓XU,XW0,XW1,qa,qb,qc,qd,qe,qf,reduceCtorEq,TYX]
     simp only [← hbd]
     intros
     exact hN' _ _ hlt (by omega) ⟨rfl,rfl,rfl,rfl,rfl,rfl,rfl,rfl,trivial⟩ (back_1 rfl)
  ·have hin : i = q.length := by omega
   subst hin
   simp +contextual only [x6,mapD_len,hbd,↓U6,↓XP,↓XU,XW0,XW1,qa,qb,qc,qd,qe,qf,reduceCtorEq,TYX]
   intros
   refine hE _ _ _ ?_
   simp +contextual only [x6,mapD_len,↓U6,↓XP,↓XU,XW0,XW1,qa,qb,qc,qd,qe,qf,reduceCtorEq,TYX]
   refine f_lives ?_
   simp +contextual only [x6,mapD_len,↓U6,↓XP,↓XU,XW0,XW1,qa,qb,qc,qd,qe,qf,reduceCtorEq,TYX]
   exact h
end Go.Proofs.Ytffbjejmobhpkaa
end
section
namespace Go.Proofs.Ytffbjejmobhpkaa.chain
open Go Go.Aw Go.RowKit Go.ChangeShapes Go.WideShapes Go.ChangeAt
theorem contract (H : Type) (enc : TypeId × Value → H) (W : World) (base : Nat) (args : Array Value) (ds gs : List (DataW H)) (before : List MemPlace)
  (hval : ∀ (j : Nat) t v,Try.f6.params[j]? = some t → args[j]? = some v → Value.okWide Try.prog W .any base t v)
  (hW : DataW.Whole enc Try.prog Try.f6.params.toList Rows.evidenceChainSpec.vars false W args.toList ds gs before) (hk : Rows.uptoSmall H (ds ++ gs) = true) :
  Calls Try.prog 6 args W fun e W'=>∃ v,e = .returned v ∧ Rows.evidenceChainSpec.post enc Try.prog Try.f6 false true false false W args v W' := by
 have hW' := hW
 have hbd := bound hk
 obtain ⟨p,q,hA0,hV,rfl,hfz,hnd⟩ := hW
 have hA : DataW.TrodAll enc Try.prog W 0 (fun _=>true) true Try.f6.params.toList args.toList ds p := hA0
 rw [Try.params6] at hA hval
 obtain ⟨v0,vs0,d0,ds0,p0,q0,hargs,rfl,rfl,h0,r0⟩ := trodAll_cons hA
 obtain ⟨v1,vs1,d1,ds1,p1,q1,rfl,rfl,rfl,h1,r1⟩ := trodAll_cons r0
 obtain ⟨v2,vs2,d2,ds2,p2,q2,rfl,rfl,rfl,h2,r2⟩ := trodAll_cons r1
 obtain ⟨rfl,rfl,rfl⟩ := trodAll_nil r2
 obtain rfl : args = #[v0,v1,v2] := by cases args; simp_all
 obtain ⟨rfl,rfl⟩ := trodVars_none hV
 simp only [List.append_nil,Rows.uptoBulkAll] at hbd
 obtain ⟨l,hq0,e0⟩ := rd_ints.arg1 (by kernel_rfl) (hval 0 _ v0 rfl rfl) h0 (by omega)
 obtain ⟨m,hq1,e1⟩ := rd_ints.arg1 (by kernel_rfl) (hval 1 _ v1 rfl rfl) h1 (by omega)
 obtain ⟨day,hq2,e2⟩ := rd_ints.arg1 (by kernel_rfl) (hval 2 _ v2 rfl rfl) h2 (by omega)
 refine ((f_mChain (l := l) (m := m) (k := day) (H := []) (R := fun d H=>d = .bool true) rfl).calls W _ rfl ?_).mono ?_
 ·intro j d v hd hv
  match j with
  | 0=>cases hd; cases hv; exact e0
  | 1=>cases hd; cases hv; exact e1
  | 2=>cases hd; cases hv; exact e2
  | j + 3=>cases hd
 ·rintro e W' ⟨v,d,H',K',rfl,rfl,hb,hr⟩
  have hv : v = .bool true := by cases hr with | bool=>rfl
  subst hv
  exact ⟨_,rfl,post_true kids full (by rw [Try.params6]; decide) hW' rfl hb rfl Try.underlying4 rfl⟩
theorem lifted (os : Os) (started : os.Started) (H : Type) (enc : TypeId × Value → H) (F : Stop.Interp) :
  ReturnsInHanded {} Try.checked os 6 .any ((Rows.OpenSpec.upto Rows.evidenceChainSpec).pre6 enc Try.prog Try.f6 Rows.evidenceChainUptoRow.domain false) (((Rows.OpenSpec.upto Rows.evidenceChainSpec).at F).post enc Try.prog Try.f6 false true false false) := by
 refine returnsInHanded_of_cond (C := Try.checked) (s := Rows.OpenSpec.upto Rows.evidenceChainSpec) (k := Rows.uptoSmall) rfl own started (by kernel_rfl) Try.func6
  (OpenSpec.witness (enc := enc) (C := Try.checked) (s := Rows.OpenSpec.upto Rows.evidenceChainSpec) (k := Rows.uptoSmall) rfl false ⟨#[],#[.slice none 0 0,.slice none 0 0,.slice none 0 0],[]⟩ 8 (by kernel_rfl) (by kernel_rfl) (by kernel_rfl)
   (x := ([.nil,.nil,.nil],[],[])) (by kernel_rfl) rfl (by kernel_rfl)) ?_
 intro W base args ds gs before hval hW _ hk _
 exact contract H enc W base args ds gs before hval hW hk
theorem proved : Rows.EvidenceChainUptoSaid :=
 OpenClaim.holds_of_cond 6 Try.f6 rfl rfl rfl rfl rfl rfl rfl ⟨rfl,rfl,rfl,rfl,rfl⟩ rfl rfl rfl rfl rfl (by kernel_rfl) Try.func6 (by kernel_rfl)
  (of_decide_eq_true (by kernel_rfl)) (by unfold Func.isWrapper; first | (rw [if_pos (by decide +kernel)]; kernel_rfl) | (rw [if_neg (by decide +kernel)]; exact ⟨rfl,rfl⟩))
  (fun os started H enc _ F=>lifted os started H enc F)
end Go.Proofs.Ytffbjejmobhpkaa.chain
end
