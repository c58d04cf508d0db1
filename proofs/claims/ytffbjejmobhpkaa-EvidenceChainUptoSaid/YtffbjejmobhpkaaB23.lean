/- A part of the proof of what the last text says: Era, Erb, Ewn, Ewo, Ep8, Ep9, Eu1, Eu3, Eu4. Conditions: those in each theorem. -/
import Derived.Test.YtffbjejmobhpkaaB22
set_option linter.unusedVariables false
set_option linter.unusedSimpArgs false
set_option maxRecDepth 100000
set_option maxHeartbeats 16000000
open Nat renaming reduceSub → qa,reduceAdd → qb,reduceMul → qc,reduceEqDiff → qd,reduceLeDiff → qe,reduceBEq → qf
section
namespace Go.Proofs.Ytffbjejmobhpkaa
open Go Go.Aw
def bx21 (b : Bk) (sr : List Sr) (qt : List Qt) : List D := [.slc (mapD En.d b.en),.slc (mapD Sn.d b.sn),.own (mapD Sr.d sr),.own (mapD Qt.d qt),.slc (mapD Spl.d b.sl),.slc (mapD Mg.d b.mg),.slc (mapD Ch.d b.ch)]
def zr7 : List D := [.own [],.own [],.own [],.own [],.own [],.own [],.own []]
structure SrLp where
 i : Nat
 sr : List Sr
structure VlLp where
 k : Nat
 vs : List Vl
structure QtLp where
 i : Nat
 qt : List Qt
def OkV (v : Vl) : Prop := 1 ≤ v.sp.a ∧ v.sp.a ≤ 1000 ∧ v.sp.b ≤ 1000
def srB (i : Nat) (vs : List Vl) : List D := [.int .i64 6,.int .i64 1,.int .i64 i,.str [],.str [],.own (mapD Vl.d vs)]
theorem f_book21 {l m : List Int} {H : AH} {R : D → AH → Prop} (h : ∀ b : Bk,Gen b → 2 ≤ b.sn.length → R (.agg b.d) H) : ACall Try.prog 9 [.slc (mapD intD l),.slc (mapD intD m)] H R := by
 refine b9 fun hf=>?_
 have hbig := big_eq
 simp +contextual only [x9,mapD_len,↓U9,↓XP,↓XU,XW0,XW1,qa,qb,qc,qd,qe,qf,reduceCtorEq,TYX]
 intro b4 h4
 refine f_book20 fun b hg hen hsr hqt hsn=>?_
 have hdz : b.dz = [.slc (mapD En.d b.en),.slc (mapD Sn.d b.sn),.osl 0 0 [],.osl 0 0 [],.slc (mapD Spl.d b.sl),.slc (mapD Mg.d b.mg),.slc (mapD Ch.d b.ch)] := rfl
 have hB : ∀ sr qt,bx21 b sr qt = [.slc (mapD En.d b.en),.slc (mapD Sn.d b.sn),.own (mapD Sr.d sr),.own (mapD Qt.d qt),.slc (mapD Spl.d b.sl),.slc (mapD Mg.d b.mg),.slc (mapD Ch.d b.ch)] := fun _ _=>rfl
 rw [hdz]
 simp +contextual only [x9,mapD_len,↓U9,↓XP,↓XU,XW0,XW1,qa,qb,qc,qd,qe,qf,reduceCtorEq,TYX]
 intro b5 h5
 obtain ⟨n45,h5⟩ := h5
 rw [c_gh]
 refine Gz.then (Gz.take0 (j := 2) rfl ?_)
 refine Gz.take0 (j := 3) rfl ?_
 simp +contextual only [x9,mapD_len,↓U9,↓XP,↓XU,XW0,XW1,qa,qb,qc,qd,qe,qf,reduceCtorEq,TYX]
 refine f_atZ (i := 0) (by omega) (by omega) ?_
 have hr := atZ_range (l := m) (i := 0) (most := 5) (by omega)
 generalize atZ m 0 5 = n at hr
 simp +contextual only [x9,mapD_len,↓U9,↓XP,↓XU,XW0,XW1,qa,qb,qc,qd,qe,qf,reduceCtorEq,TYX]
 intros
 refine XW.loopS Go.Proofs.Ytffbjejmobhpkaa.hm 120 (fun s : SrLp=>[(0,.slc (mapD intD l)),(1,.slc (mapD intD m)),(4,.ptr b4 0),(5,.ptr b5 0),(6,.int .i64 n),(7,.int .i64 ((s.i : Nat) : Int))]) (fun s=>(b5,AO.cells (bx21 b s.sr [])) :: (b4,AO.cells zr7) :: H) (fun s=>5 - s.i) (fun s=>s.i ≤ 4 ∧ s.sr.length = s.i ∧ ∀ q ∈ s.sr,q.date.length ≤ 2 ∧ ∀ v ∈ q.date,OkV v) ⟨0,[]⟩ ⟨by simp,rfl,by simp⟩ ⟨rfl,rfl,rfl,rfl,rfl,rfl,rfl,trivial⟩ rfl ?_
 rintro ⟨i,sr⟩ z ⟨hi,hsl,hsd⟩ K hN hE hR
 dsimp only at hi hsl hsd
 show xcode _ _ [.slc (mapD intD l),.slc (mapD intD m),z 2,z 3,.ptr b4 0,.ptr b5 0,.int .i64 n,.int .i64 ((i : Nat) : Int),z 8,z 9,z 10,z 11,z 12,z 13,z 14,z 15,z 16,z 17,z 18,z 19,z 20,z 21,z 22,z 23,z 24,z 25,z 26,z 27,z 28,z 29,z 30,z 31,z 32,z 33,z 34,z 35,z 36,z 37,z 38,z 39,z 40,z 41,z 42,z 43,z 44,z 45,z 46,z 47,z 48,z 49,z 50,z 51,z 52,z 53,z 54,z 55,z 56,z 57,z 58,z 59,z 60,z 61,z 62,z 63,z 64,z 65,z 66,z 67,z 68,z 69,z 70,z 71,z 72,z 73,z 74,z 75,z 76,z 77,z 78,z 79,z 80,z 81,z 82,z 83,z 84,z 85,z 86,z 87,z 88,z 89,z 90,z 91,z 92,z 93,z 94,z 95,z 96,z 97,z 98,z 99,z 100,z 101,z 102,z 103,z 104,z 105,z 106,z 107,z 108,z 109,z 110,z 111,z 112,z 113,z 114,z 115,z 116,z 117,z 118,z 119] ((b5,AO.cells (bx21 b sr [])) :: (b4,AO.cells zr7) :: H) K
 by_cases hin : (i : Int) < n
 ·simp +contextual only [x9,mapD_len,eq_true hin,↓U9,↓XP,↓XU,XW0,XW1,qa,qb,qc,qd,qe,qf,reduceCtorEq,TYX]
  intro b8
  rintro ⟨n58,n48,h8⟩
  rw [c_gh]
  refine Gz.take0 (j := 5) rfl ?_
  have hw5 := wrap_id (n := 5 * (i : Int)) (by omega) (by omega)
  simp +contextual only [x9,mapD_len,hw5,wrap_id (n := 5 * (i : Int) + 1) (by omega) (by omega),↓U9,↓XP,↓XU,XW0,XW1,qa,qb,qc,qd,qe,qf,reduceCtorEq,TYX]
  refine f_atZ (by omega) (by omega) ?_
  have hv := atZ_range (l := m) (i := 5 * (i : Int) + 1) (most := 3) (by omega)
  generalize atZ m (5 * (i : Int) + 1) 3 = many at hv
  have hbx : ∀ vs,srB i vs = [.int .i64 6,.int .i64 1,.int .i64 i,.str [],.str [],.own (mapD Vl.d vs)] := fun _=>rfl
  simp +contextual only [x9,mapD_len,↓U9,↓XP,↓XU,XW0,XW1,qa,qb,qc,qd,qe,qf,reduceCtorEq,TYX]
  intros
  refine XW.loopS Go.Proofs.Ytffbjejmobhpkaa.hm 120 (fun s : VlLp=>[(0,.slc (mapD intD l)),(1,.slc (mapD intD m)),(4,.ptr b4 0),(5,.ptr b5 0),(6,.int .i64 n),(7,.int .i64 ((i : Nat) : Int)),(8,.ptr b8 0),(9,.int .i64 many),(10,.int .i64 ((s.k : Nat) : Int))]) (fun s=>(b8,AO.cells (srB i s.vs)) :: (b5,AO.cells (bx21 b sr [])) :: (b4,AO.cells zr7) :: H) (fun s=>3 - s.k) (fun s=>s.k ≤ 2 ∧ s.vs.length = s.k ∧ ∀ v ∈ s.vs,OkV v) ⟨0,[]⟩ ⟨by simp,rfl,by simp⟩ ⟨rfl,rfl,rfl,rfl,rfl,rfl,rfl,rfl,rfl,rfl,trivial⟩ rfl ?_
  rintro ⟨k,vs⟩ z ⟨hk,hvl,hvs⟩ K2 hN2 hE2 hR2
  dsimp only at hk hvl hvs
  show xcode _ _ [.slc (mapD intD l),.slc (mapD intD m),z 2,z 3,.ptr b4 0,.ptr b5 0,.int .i64 n,.int .i64 ((i : Nat) : Int),.ptr b8 0,.int .i64 many,.int .i64 ((k : Nat) : Int),z 11,z 12,z 13,z 14,z 15,z 16,z 17,z 18,z 19,z 20,z 21,z 22,z 23,z 24,z 25,z 26,z 27,z 28,z 29,z 30,z 31,z 32,z 33,z 34,z 35,z 36,z 37,z 38,z 39,z 40,z 41,z 42,z 43,z 44,z 45,z 46,z 47,z 48,z 49,z 50,z 51,z 52,z 53,z 54,z 55,z 56,z 57,z 58,z 59,z 60,z 61,z 62,z 63,z 64,z 65,z 66,z 67,z 68,z 69,z 70,z 71,z 72,z 73,z 74,z 75,z 76,z 77,z 78,z 79,z 80,z 81,z 82,z 83,z 84,z 85,z 86,z 87,z 88,z 89,z 90,z 91,z 92,z 93,z 94,z 95,z 96,z 97,z 98,z 99,z 100,z 101,z 102,z 103,z 104,z 105,z 106,z 107,z 108,z 109,z 110,z 111,z 112,z 113,z 114,z 115,z 116,z 117,z 118,z 119] ((b8,AO.cells (srB i vs)) :: (b5,AO.cells (bx21 b sr [])) :: (b4,AO.cells zr7) :: H) K2
  by_cases hkm : (k : Int) < many
  ·have hwk := wrap_id (n := 5 * (i : Int) + k) (by omega) (by omega)
   simp +contextual only [x9,mapD_len,eq_true hkm,hw5,hwk,wrap_id (n := 5 * (i : Int) + k + 2) (by omega) (by omega),↓U9,↓XP,↓XU,XW0,XW1,qa,qb,qc,qd,qe,qf,reduceCtorEq,TYX]
   refine f_atZ (by omega) (by omega) ?_
   have hv1 := atZ_range (l := m) (i := 5 * (i : Int) + k + 2) (most := 60) (by omega)
   generalize atZ m (5 * (i : Int) + k + 2) 60 = v1 at hv1
   simp +contextual only [x9,mapD_len,hw5,hwk,wrap_id (n := 1 + v1) (by omega) (by omega),wrap_id (n := 5 * (i : Int) + k + 4) (by omega) (by omega),↓U9,↓XP,↓XU,XW0,XW1,qa,qb,qc,qd,qe,qf,reduceCtorEq,TYX]
   intros
   refine f_atZ (by omega) (by omega) ?_
   have hv2 := atZ_range (l := m) (i := 5 * (i : Int) + k + 4) (most := 25) (by omega)
   generalize atZ m (5 * (i : Int) + k + 4) 25 = v2 at hv2
   simp +contextual only [x9,mapD_len,hw5,hwk,wrap_id (n := 1 + v1 + v2) (by omega) (by omega),wrap_id (n := 5 * (i : Int) + k + 3) (by omega) (by omega),↓U9,↓XP,↓XU,XW0,XW1,qa,qb,qc,qd,qe,qf,reduceCtorEq,TYX]
   rintro _ b12 ⟨n812,n512,n412,h12⟩
   refine f_atZ (by omega) (by omega) ?_
   generalize atZ m (5 * (i : Int) + k + 3) 11 = v3
   have hin2 : ∀ a c : Int,(1 ≤ a ∧ a ≤ 1000 ∧ c ≤ 1000) → ∀ q ∈ vs ++ [(⟨[],0,⟨a,c⟩,id0⟩ : Vl)],OkV q := fun a c ho q hq=>by
    rcases List.mem_append.1 hq with hq | hq
    ·exact hvs q hq
    ·rw [List.mem_singleton.1 hq]; exact ho
   have hap : ∀ a c : Int,mapD Vl.d vs ++ [[.str [],.int .i64 0,.int .i64 a,.int .i64 c,.int .i64 0,.int .i64 0,.int .i64 0]] = mapD Vl.d (vs ++ [⟨[],0,⟨a,c⟩,id0⟩]) := fun a c=>by rw [← mapD_app]; rfl
   have hlen : ∀ a c : Int,(vs ++ [(⟨[],0,⟨a,c⟩,id0⟩ : Vl)]).length = k + 1 := fun a c=>by rw [List.length_append,List.length_singleton]; omega
   rcases Classical.em (v3 = 0) with h3 | h3
   ·simp +contextual only [x9,mapD_len,hbx,eq_true h3,hap,wrap_id (n := 1 + v1 + v2 + 1) (by omega) (by omega),wrap_succ (show k ≤ big by omega),h_miss,h_skip,n58,n48,n45,n812,n512,n412,↓U9,↓XP,↓XU,XW0,XW1,qa,qb,qc,qd,qe,qf,reduceCtorEq,TYX]
    intros
    exact ⟨mapD_sz fun _=>rfl,by omega,hN2 ⟨k + 1,vs ++ [⟨[],0,⟨1 + v1 + v2 + 1,1 + v1 + v2⟩,id0⟩]⟩ _ _ ⟨by dsimp only; omega,hlen _ _,hin2 _ _ (by omega)⟩ (by dsimp only; omega) ⟨rfl,rfl,rfl,rfl,rfl,rfl,rfl,rfl,rfl,rfl,trivial⟩ (back_1 rfl)⟩
   ·simp +contextual only [x9,mapD_len,hbx,eq_false h3,hap,wrap_succ (show k ≤ big by omega),h_miss,h_skip,n58,n48,n45,n812,n512,n412,↓U9,↓XP,↓XU,XW0,XW1,qa,qb,qc,qd,qe,qf,reduceCtorEq,TYX]
    intros
    exact ⟨mapD_sz fun _=>rfl,by omega,hN2 ⟨k + 1,vs ++ [⟨[],0,⟨1 + v1,1 + v1 + v2⟩,id0⟩]⟩ _ _ ⟨by dsimp only; omega,hlen _ _,hin2 _ _ (by omega)⟩ (by dsimp only; omega) ⟨rfl,rfl,rfl,rfl,rfl,rfl,rfl,rfl,rfl,rfl,trivial⟩ (back_1 rfl)⟩
  ·simp +contextual only [x9,mapD_len,eq_false hkm,↓U9,↓XP,↓XU,XW0,XW1,qa,qb,qc,qd,qe,qf,reduceCtorEq,TYX]
   intros
   refine hE2 _ _ _ ?_
   clear hN2 hE2 hR2
   have hap : mapD Sr.d sr ++ [[.int .i64 6,.int .i64 1,.int .i64 i,.str [],.str [],.slc (mapD Vl.d vs)]] = mapD Sr.d (sr ++ [⟨⟨6,1,i⟩,[],[],vs⟩]) := by rw [← mapD_app]; rfl
   simp +contextual only [x9,mapD_len,hbx,hB,hap,h_miss,h_skip,n58,n48,n45,wrap_succ (show i ≤ big by omega),↓U9,↓XP,↓XU,XW0,XW1,qa,qb,qc,qd,qe,qf,reduceCtorEq,TYX]
   intros
   refine ⟨mapD_sz fun _=>rfl,by omega,by omega,hN ⟨i + 1,sr ++ [⟨⟨6,1,i⟩,[],[],vs⟩]⟩ _ _ ⟨by dsimp only; omega,by dsimp only; rw [List.length_append,List.length_singleton]; omega,fun q hq=>?_⟩ (by dsimp only; omega) ⟨rfl,rfl,rfl,rfl,rfl,rfl,rfl,trivial⟩ (back_1 rfl)⟩
   rcases List.mem_append.1 hq with hq | hq
   ·exact hsd q hq
   ·rw [List.mem_singleton.1 hq]; exact ⟨by dsimp only; omega,hvs⟩
 ·simp +contextual only [x9,mapD_len,eq_false hin,↓U9,↓XP,↓XU,XW0,XW1,qa,qb,qc,qd,qe,qf,reduceCtorEq,TYX]
  intros
  refine hE _ _ _ ?_
  clear hN hE hR
  simp +contextual only [x9,mapD_len,↓U9,↓XP,↓XU,XW0,XW1,qa,qb,qc,qd,qe,qf,reduceCtorEq,TYX]
  refine f_atZ (i := 30) (by omega) (by omega) ?_
  have hv := atZ_range (l := m) (i := 30) (most := 12) (by omega)
  generalize atZ m 30 12 = many at hv
  simp +contextual only [x9,mapD_len,↓U9,↓XP,↓XU,XW0,XW1,qa,qb,qc,qd,qe,qf,reduceCtorEq,TYX]
  intros
  have hsr4 : sr.length ≤ 4 := by omega
  clear hi hsl hin
  refine XW.loopS Go.Proofs.Ytffbjejmobhpkaa.hm 120 (fun s : QtLp=>[(0,.slc (mapD intD l)),(1,.slc (mapD intD m)),(4,.ptr b4 0),(5,.ptr b5 0),(6,.int .i64 n),(13,.int .i64 many),(14,.int .i64 ((s.i : Nat) : Int))]) (fun s=>(b5,AO.cells (bx21 b sr s.qt)) :: (b4,AO.cells zr7) :: H) (fun s=>12 - s.i) (fun s=>s.i ≤ 11 ∧ s.qt.length = s.i ∧ ∀ q ∈ s.qt,OkI q.id) ⟨0,[]⟩ ⟨by simp,rfl,by simp⟩ ⟨rfl,rfl,rfl,rfl,rfl,rfl,rfl,rfl,trivial⟩ rfl ?_
  rintro ⟨i,qt⟩ z ⟨hi,hql,hqi⟩ K hN hE hR
  dsimp only at hi hql hqi
  show xcode _ _ [.slc (mapD intD l),.slc (mapD intD m),z 2,z 3,.ptr b4 0,.ptr b5 0,.int .i64 n,z 7,z 8,z 9,z 10,z 11,z 12,.int .i64 many,.int .i64 ((i : Nat) : Int),z 15,z 16,z 17,z 18,z 19,z 20,z 21,z 22,z 23,z 24,z 25,z 26,z 27,z 28,z 29,z 30,z 31,z 32,z 33,z 34,z 35,z 36,z 37,z 38,z 39,z 40,z 41,z 42,z 43,z 44,z 45,z 46,z 47,z 48,z 49,z 50,z 51,z 52,z 53,z 54,z 55,z 56,z 57,z 58,z 59,z 60,z 61,z 62,z 63,z 64,z 65,z 66,z 67,z 68,z 69,z 70,z 71,z 72,z 73,z 74,z 75,z 76,z 77,z 78,z 79,z 80,z 81,z 82,z 83,z 84,z 85,z 86,z 87,z 88,z 89,z 90,z 91,z 92,z 93,z 94,z 95,z 96,z 97,z 98,z 99,z 100,z 101,z 102,z 103,z 104,z 105,z 106,z 107,z 108,z 109,z 110,z 111,z 112,z 113,z 114,z 115,z 116,z 117,z 118,z 119] ((b5,AO.cells (bx21 b sr qt)) :: (b4,AO.cells zr7) :: H) K
  have hsn9 := hg.sn
  rcases Classical.em ((i : Int) < many) with hiv | hiv
  ·have hq : IntKind.i64.wrap ((i : Int).tdiv 9) = ((i / 9 : Nat) : Int) := by rw [Int.tdiv_eq_ediv_of_nonneg (by omega),wrap_id (by omega) (by omega)]; omega
   have hw2 := wrap_id (n := 2 * (i : Int)) (by omega) (by omega)
   simp +contextual only [x9,mapD_len,eq_true hiv,hq,hB,hw2,wrap_id (n := (i : Int) - ((i / 9 : Nat) : Int)) (by omega) (by omega),wrap_id (n := 31 + 2 * (i : Int)) (by omega) (by omega),wrap_id (n := (b.sn.length : Int) + 1) (by omega) (by omega),h_miss,h_skip,n45,↓U9,↓XP,↓XU,XW0,XW1,qa,qb,qc,qd,qe,qf,reduceCtorEq,TYX]
   refine ⟨by decide,fun _=>?_⟩
   refine f_atZ (by omega) (by omega) ?_
   have hv1 := atZ_range (l := m) (i := 31 + 2 * (i : Int)) (most := (b.sn.length : Int) + 1) (by omega)
   generalize atZ m (31 + 2 * (i : Int)) ((b.sn.length : Int) + 1) = v1 at hv1
   simp +contextual only [x9,mapD_len,↓U9,↓XP,↓XU,XW0,XW1,qa,qb,qc,qd,qe,qf,reduceCtorEq,TYX]
   intros
   refine f_IDz (by omega) ?_
   generalize idR v1.toNat = y
   have hyd : y.d = [.int .i64 y.o,.int .i64 y.s,.int .i64 y.i] := rfl
   simp +contextual only [x9,mapD_len,hyd,hw2,wrap_id (n := 32 + 2 * (i : Int)) (by omega) (by omega),wrap_id (n := n + 1) (by omega) (by omega),↓U9,↓XP,↓XU,XW0,XW1,qa,qb,qc,qd,qe,qf,reduceCtorEq,TYX]
   intros
   refine f_atZ (by omega) (by omega) ?_
   generalize atZ m (32 + 2 * (i : Int)) (n + 1) = v2
   have hap : mapD Qt.d qt ++ [[.int .i64 6,.int .i64 2,.int .i64 ((i : Int) - ((i / 9 : Nat) : Int)),.int .i64 y.o,.int .i64 y.s,.int .i64 y.i,.int .i64 6,.int .i64 1,.int .i64 v2,.int .i64 0,.str []]] = mapD Qt.d (qt ++ [⟨⟨6,2,(i : Int) - ((i / 9 : Nat) : Int)⟩,y,⟨6,1,v2⟩,0,[]⟩]) := by rw [← mapD_app]; rfl
   simp +contextual only [x9,mapD_len,hB,hap,h_miss,h_skip,n45,wrap_succ (show i ≤ big by omega),↓U9,↓XP,↓XU,XW0,XW1,qa,qb,qc,qd,qe,qf,reduceCtorEq,TYX]
   intros
   refine ⟨mapD_sz fun _=>rfl,by omega,by omega,hN ⟨i + 1,qt ++ [⟨⟨6,2,(i : Int) - ((i / 9 : Nat) : Int)⟩,y,⟨6,1,v2⟩,0,[]⟩]⟩ _ _ ⟨by dsimp only; omega,by dsimp only; rw [List.length_append,List.length_singleton]; omega,fun q hq=>?_⟩ (by dsimp only; omega) ⟨rfl,rfl,rfl,rfl,rfl,rfl,rfl,rfl,trivial⟩ (back_1 rfl)⟩
   rcases List.mem_append.1 hq with hq | hq
   ·exact hqi q hq
   ·rw [List.mem_singleton.1 hq]; exact okz (by omega)
  ·simp +contextual only [x9,mapD_len,eq_false hiv,↓U9,↓XP,↓XU,XW0,XW1,qa,qb,qc,qd,qe,qf,reduceCtorEq,TYX]
   intros
   refine hE _ _ _ ?_
   clear hN hE hR
   simp +contextual only [x9,mapD_len,hB,h_miss,h_skip,n45,↓U9,↓XP,↓XU,XW0,XW1,qa,qb,qc,qd,qe,qf,reduceCtorEq,TYX]
   refine ⟨by decide,h ⟨b.en,b.sn,sr,qt,b.sl,b.mg,b.ch⟩ ⟨hg.sn,hsr4,hsd,by dsimp only; omega,hqi,hg.sl,hg.pl,hg.mg,hg.mt,hg.ch,hg.cp⟩ hsn⟩
end Go.Proofs.Ytffbjejmobhpkaa
end
section
namespace Go.Proofs.Ytffbjejmobhpkaa
open Go Go.Aw
def exI (i : Int) : Id3 := ⟨0,1,i⟩
def exSp : List Sp := [⟨10,20⟩,⟨15,17⟩,⟨18,30⟩,⟨40,40⟩]
def exSe : List Int := [1,1,2,3]
def exSn (i : Int) : Sn := ⟨exI i,id0,[],[],[],[],[],[],[],[]⟩
def exSr (i : Int) (s : Sp) : Sr := ⟨exI (10 + i),[],[],[⟨[],0,s,id0⟩]⟩
def exQt (i : Int) (n : Int) : Qt := ⟨exI (5 + i),exI n,exI (10 + i),0,[]⟩
def exSrs : List Sr := [exSr 0 ⟨10,20⟩,exSr 1 ⟨15,17⟩,exSr 2 ⟨18,30⟩,exSr 3 ⟨40,40⟩]
def exQts : List Qt := [exQt 0 1,exQt 1 1,exQt 2 2,exQt 3 3]
def exB : Bk := ⟨[],[exSn 1,exSn 2,exSn 3],exSrs,exQts,[],[],[]⟩
theorem exS_get : ∀ {i : Nat},i < 4 → exSrs.getD i default = exSr i (exSp.getD i default) ∧ exQts.getD i default = exQt i (exSe.getD i default)
 | 0,_=>⟨rfl,rfl⟩
 | 1,_=>⟨rfl,rfl⟩
 | 2,_=>⟨rfl,rfl⟩
 | 3,_=>⟨rfl,rfl⟩
def exBx (sr : List Sr) (qt : List Qt) : List D := [.slc [],.slc (mapD Sn.d [exSn 1,exSn 2,exSn 3]),.own (mapD Sr.d sr),.own (mapD Qt.d qt),.slc [],.slc [],.slc []]
theorem f_example {H : AH} {R : D → AH → Prop} (h : R (.agg exB.d) H) : ACall Try.prog 40 [] H R := by
 refine b40 fun hf=>?_
 have hbig := big_eq
 have hid : ∀ i : Int,Id3.d ⟨0,1,i⟩ = [.int .i64 0,.int .i64 1,.int .i64 i] := fun _=>rfl
 simp +contextual only [x40,mapD_len,↓U40,↓XP,↓XU,XW0,XW1,qa,qb,qc,qd,qe,qf,reduceCtorEq,TYX]
 intro b0 h0
 refine f_id ?_
 simp +contextual only [x40,mapD_len,hid,↓U40,↓XP,↓XU,XW0,XW1,qa,qb,qc,qd,qe,qf,reduceCtorEq,TYX]
 refine f_id ?_
 simp +contextual only [x40,mapD_len,hid,↓U40,↓XP,↓XU,XW0,XW1,qa,qb,qc,qd,qe,qf,reduceCtorEq,TYX]
 refine f_id ?_
 simp +contextual only [x40,mapD_len,hid,↓U40,↓XP,↓XU,XW0,XW1,qa,qb,qc,qd,qe,qf,reduceCtorEq,TYX]
 intro b1
 rintro ⟨n01,h1⟩
 rw [c_gh]
 refine Gz.then (Gz.take0 (j := 2) rfl ?_)
 refine Gz.then (Gz.take0 (j := 3) rfl ?_)
 refine Gz.weak h_hit ?_
 rw [h_set]
 simp +contextual only [x40,mapD_len,↓U40,↓XP,↓XU,XW0,XW1,qa,qb,qc,qd,qe,qf,reduceCtorEq,TYX]
 refine XW.loopS Go.Proofs.Ytffbjejmobhpkaa.hm 56 (fun i : Nat=>[(0,.ptr b0 0),(1,.ptr b1 0),(2,.own (mapD Sp.d exSp)),(3,.own (mapD intD exSe)),(4,.int .i64 ((i : Nat) : Int))]) (fun i=>(b1,AO.cells (exBx (exSrs.take i) (exQts.take i))) :: (b0,AO.cells zr7) :: H) (fun i=>4 - i) (fun i=>i ≤ 4) 0 (by omega) ⟨rfl,rfl,rfl,rfl,rfl,rfl,trivial⟩ rfl ?_
 rintro i z hi K hN hE hR
 have hN' := hN (i + 1)
 clear hN
 show xcode _ _ [.ptr b0 0,.ptr b1 0,.own (mapD Sp.d exSp),.own (mapD intD exSe),.int .i64 ((i : Nat) : Int),z 5,z 6,z 7,z 8,z 9,z 10,z 11,z 12,z 13,z 14,z 15,z 16,z 17,z 18,z 19,z 20,z 21,z 22,z 23,z 24,z 25,z 26,z 27,z 28,z 29,z 30,z 31,z 32,z 33,z 34,z 35,z 36,z 37,z 38,z 39,z 40,z 41,z 42,z 43,z 44,z 45,z 46,z 47,z 48,z 49,z 50,z 51,z 52,z 53,z 54,z 55] ((b1,AO.cells (exBx (exSrs.take i) (exQts.take i))) :: (b0,AO.cells zr7) :: H) K
 have hB : ∀ sr qt,exBx sr qt = [.slc [],.slc (mapD Sn.d [exSn 1,exSn 2,exSn 3]),.own (mapD Sr.d sr),.own (mapD Qt.d qt),.slc [],.slc [],.slc []] := fun _ _=>rfl
 by_cases hlt : i < 4
 ·have hlt' : ((i : Int) < 4) = True := eq_true (by omega)
  have g1 := mapD_get (f := Sp.d) (l := exSp) (i := i) hlt
  have g2 := mapD_get (f := intD) (l := exSe) (i := i) hlt
  have hl1 : ((i : Int) < (exSp.length : Int)) = True := eq_true (by show (i : Int) < 4; omega)
  have hl2 : ((i : Int) < (exSe.length : Int)) = True := eq_true (by show (i : Int) < 4; omega)
  obtain ⟨e1,e2⟩ := exS_get hlt
  have hr1 : (exSrs.take i).length = i := by rw [List.length_take]; show min i 4 = i; omega
  have hr2 : (exQts.take i).length = i := by rw [List.length_take]; show min i 4 = i; omega
  rw [take_succ (l := exSrs) hlt,take_succ (l := exQts) hlt,e1,e2] at hN'
  generalize exSrs.take i = sr at hN' hr1 ⊢
  generalize exQts.take i = qt at hN' hr2 ⊢
  generalize exSp.getD i default = s at g1 hN' e1
  generalize exSe.getD i default = n at g2 hN' e2
  have hsd : s.d = [.int .i64 s.a,.int .i64 s.b] := rfl
  have hnd : intD n = [.int .i64 n] := rfl
  have hap1 : mapD Sr.d sr ++ [[.int .i64 0,.int .i64 1,.int .i64 (10 + i),.str [],.str [],.slc [[.str [],.int .i64 0,.int .i64 s.a,.int .i64 s.b,.int .i64 0,.int .i64 0,.int .i64 0]]]] = mapD Sr.d (sr ++ [exSr i s]) := by rw [← mapD_app]; rfl
  have hap2 : mapD Qt.d qt ++ [[.int .i64 0,.int .i64 1,.int .i64 (5 + i),.int .i64 0,.int .i64 1,.int .i64 n,.int .i64 0,.int .i64 1,.int .i64 (10 + i),.int .i64 0,.str []]] = mapD Qt.d (qt ++ [exQt i n]) := by rw [← mapD_app]; rfl
  have w10 := wrap_id (n := 10 + (i : Int)) (by omega) (by omega)
  have w5 := wrap_id (n := 5 + (i : Int)) (by omega) (by omega)
  simp +contextual only [x40,mapD_len,hB,hlt',w10,h_miss,h_skip,n01,Ne.symm n01,↓U40,↓XP,↓XU,XW0,XW1,qa,qb,qc,qd,qe,qf,reduceCtorEq,TYX]
  refine ⟨freshH_none h1,?_⟩
  refine ⟨_,fun _ _=>f_id ⟨rfl,rfl⟩,?_⟩
  simp +contextual only [x40,mapD_len,hid,g1,hsd,hl1,hap1,w5,Int.toNat_natCast,h_miss,h_skip,n01,Ne.symm n01,↓U40,↓XP,↓XU,XW0,XW1,qa,qb,qc,qd,qe,qf,reduceCtorEq,TYX]
  refine ⟨mapD_sz fun _=>rfl,by omega,by omega,freshH_none h1,?_⟩
  refine ⟨_,fun _ _=>f_id ⟨rfl,rfl⟩,?_⟩
  simp +contextual only [x40,mapD_len,hid,g2,hnd,hl2,w10,Int.toNat_natCast,h_miss,h_skip,n01,Ne.symm n01,↓U40,↓XP,↓XU,XW0,XW1,qa,qb,qc,qd,qe,qf,reduceCtorEq,TYX]
  intros
  refine ⟨_,fun _ _=>f_id ⟨rfl,rfl⟩,?_⟩
  simp +contextual only [x40,mapD_len,hid,w10,h_miss,h_skip,n01,Ne.symm n01,↓U40,↓XP,↓XU,XW0,XW1,qa,qb,qc,qd,qe,qf,reduceCtorEq,TYX]
  refine ⟨_,fun _ _=>f_id ⟨rfl,rfl⟩,?_⟩
  simp +contextual only [x40,mapD_len,hid,hap2,wrap_succ (show i ≤ big by omega),h_miss,h_skip,n01,Ne.symm n01,↓U40,↓XP,↓XU,XW0,XW1,qa,qb,qc,qd,qe,qf,reduceCtorEq,TYX]
  intros
  exact ⟨mapD_sz fun _=>rfl,by omega,by omega,hN' _ _ (by omega) (by omega) ⟨rfl,rfl,rfl,rfl,rfl,rfl,trivial⟩ (back_0 rfl)⟩
 ·have hi4 : i = 4 := by omega
  subst hi4
  have hlt' : (((4 : Nat) : Int) < 4) = False := eq_false (by omega)
  simp +contextual only [x40,mapD_len,hlt',↓U40,↓XP,↓XU,XW0,XW1,qa,qb,qc,qd,qe,qf,reduceCtorEq,TYX]
  refine hE _ _ _ ?_
  simp +contextual only [x40,mapD_len,hB,h_miss,h_skip,n01,Ne.symm n01,↓U40,↓XP,↓XU,XW0,XW1,qa,qb,qc,qd,qe,qf,reduceCtorEq,TYX]
  exact ⟨by decide,h⟩
end Go.Proofs.Ytffbjejmobhpkaa
end
section
namespace Go.Proofs.Ytffbjejmobhpkaa
open Go Go.Aw
theorem opt_dc {o : Option (List Dt)} : (optD false (.osl 0 0 []) (Option.map dtD o)).wkT = .slc (mapD Dt.d (o.getD [])) := by cases o <;> rfl
def chS (b : Bk) (last : Int) (p : Id3 × Int) (x : Id3) : Id3 × Int :=
 if (senP b x).2 = true ∧ last < (senP b x).1.a ∧ (p.2 = 0 ∨ (senP b x).1.b < p.2 ∨ ((senP b x).1.b = p.2 ∧ ordI x p.1 < 0)) then (x,(senP b x).1.b) else p
def chB (b : Bk) (last : Int) (l : List Id3) : Id3 × Int := l.foldl (chS b last) (id0,0)
def chP (b : Bk) (l : List Id3) : Nat → Int → List Id3
 | 0,_=>[]
 | n + 1,last=>if (chB b last l).2 = 0 then [] else (chB b last l).1 :: chP b l n (chB b last l).2
theorem chB_mem {b : Bk} {last : Int} {l : List Id3} : ∀ {m : List Id3} {p : Id3 × Int},(∀ x ∈ m,x ∈ l) → (p.2 ≠ 0 → p.1 ∈ l ∧ (senP b p.1).2 = true ∧ last < (senP b p.1).1.a ∧ p.2 = (senP b p.1).1.b) → (m.foldl (chS b last) p).2 ≠ 0 →
  (m.foldl (chS b last) p).1 ∈ l ∧ (senP b (m.foldl (chS b last) p).1).2 = true ∧ last < (senP b (m.foldl (chS b last) p).1).1.a ∧ (m.foldl (chS b last) p).2 = (senP b (m.foldl (chS b last) p).1).1.b
 | [],p,_,h,h2=>h h2
 | x :: m,p,hm,h,h2=>by
  refine chB_mem (m := m) (p := chS b last p x) (fun y hy=>hm y (.tail _ hy)) (fun h3=>?_) h2
  unfold chS at h3 ⊢
  split
  ·rename_i hc
   exact ⟨hm x (.head _),hc.1,hc.2.1,rfl⟩
  ·rename_i hc
   rw [if_neg hc] at h3
   exact h h3
def cnt (b : Bk) (l : List Id3) (last : Int) : Nat := (l.filter fun x=>decide (last < (senP b x).1.a)).length
theorem cnt_lt {b : Bk} {last to : Int} {y : Id3} (h1 : last < (senP b y).1.a) (h2 : (senP b y).1.a ≤ to) : ∀ {l : List Id3},y ∈ l → cnt b l to < cnt b l last
 | x :: l,hy=>by
  have hle : ∀ m : List Id3,cnt b m to ≤ cnt b m last := fun m=>by
   induction m with
   | nil=>exact Nat.le_refl _
   | cons z m ih =>
    unfold cnt at ih ⊢
    by_cases a1 : to < (senP b z).1.a
    ·rw [List.filter_cons_of_pos (by simpa using a1),List.filter_cons_of_pos (by simp; omega)]
     simp only [List.length_cons]; omega
    ·rw [List.filter_cons_of_neg (by simpa using a1)]
     by_cases a2 : last < (senP b z).1.a
     ·rw [List.filter_cons_of_pos (by simpa using a2)]; simp only [List.length_cons]; omega
     ·rw [List.filter_cons_of_neg (by simpa using a2)]; exact ih
  have hl := hle l
  rcases List.mem_cons.1 hy with e | hy
  ·subst e
   unfold cnt at hl ⊢
   rw [List.filter_cons_of_neg (by simp; omega),List.filter_cons_of_pos (by simpa using h1)]
   simp only [List.length_cons]; omega
  ·have ih := cnt_lt h1 h2 hy
   unfold cnt at ih ⊢
   by_cases a1 : to < (senP b x).1.a
   ·rw [List.filter_cons_of_pos (by simpa using a1),List.filter_cons_of_pos (by simp; omega)]
    simp only [List.length_cons]; omega
   ·rw [List.filter_cons_of_neg (by simpa using a1)]
    by_cases a2 : last < (senP b x).1.a
    ·rw [List.filter_cons_of_pos (by simpa using a2)]; simp only [List.length_cons]; omega
    ·rw [List.filter_cons_of_neg (by simpa using a2)]; exact ih
structure CoSt where
 out : List Id3
 last : Int
 n : Nat
theorem f_chain {b : Bk} (hb : Small b) (hx : IxOk (ixP b)) {l : List Id3} (hl : l.length ≤ 1073741824) (hle : ∀ x ∈ l,(senP b x).2 = true → (senP b x).1.a ≤ (senP b x).1.b) {H : AH} {R : D → AH → Prop} (h : R (.slc (mapD Id3.d (chP b l (l.length + 1) 0))) H) : ACall Try.prog 23 [.agg b.d,.slc (mapD Id3.d l)] H R := by
 refine ACall.view (b23 fun hf=>?_)
 have hbig := big_eq
 have hbd : b.d = [.slc (mapD En.d b.en),.slc (mapD Sn.d b.sn),.slc (mapD Sr.d b.sr),.slc (mapD Qt.d b.qt),.slc (mapD Spl.d b.sl),.slc (mapD Mg.d b.mg),.slc (mapD Ch.d b.ch)] := rfl
 have hcnt0 : cnt b l 0 ≤ l.length := List.length_filter_le _ _
 simp +contextual only [x23,mapD_len,hbd,↓U23,↓XP,↓XU,XW0,XW1,qa,qb,qc,qd,qe,qf,reduceCtorEq,TYX]
 intro b2 h2
 refine f_evidence hb hx (b := b) ?_
 simp +contextual only [x23,mapD_len,hbd,h_miss,h_skip,↓U23,↓XP,↓XU,XW0,XW1,qa,qb,qc,qd,qe,qf,reduceCtorEq,TYX]
 intros
 simp only [← hbd]
 refine XW.loopS Go.Proofs.Ytffbjejmobhpkaa.hm 70 (fun s : CoSt=>[(1,.slc (mapD Id3.d l)),(5,.mpv (mapE Id3.d dtD (evM b))),(6,.own (mapD Id3.d s.out)),(7,.int .i64 s.last)]) (fun s=>(b2,AO.cells b.d) :: H) (fun s=>s.n) (fun s=>s.out ++ chP b l s.n s.last = chP b l (l.length + 1) 0 ∧ cnt b l s.last < s.n ∧ s.out.length + s.n ≤ l.length + 1) ⟨[],0,l.length + 1⟩ ⟨rfl,by dsimp only; omega,by simp⟩ ⟨rfl,rfl,rfl,rfl,rfl,trivial⟩ rfl ?_
 rintro ⟨out,last,n⟩ z ⟨ho,hc,hn⟩ K hN hE hR
 dsimp only at ho hc hn hN
 obtain ⟨n,rfl⟩ : ∃ m,n = m + 1 := ⟨n - 1,by omega⟩
 show xcode _ _ [z 0,.slc (mapD Id3.d l),z 2,z 3,z 4,.mpv (mapE Id3.d dtD (evM b)),.own (mapD Id3.d out),.int .i64 last,z 8,z 9,z 10,z 11,z 12,z 13,z 14,z 15,z 16,z 17,z 18,z 19,z 20,z 21,z 22,z 23,z 24,z 25,z 26,z 27,z 28,z 29,z 30,z 31,z 32,z 33,z 34,z 35,z 36,z 37,z 38,z 39,z 40,z 41,z 42,z 43,z 44,z 45,z 46,z 47,z 48,z 49,z 50,z 51,z 52,z 53,z 54,z 55,z 56,z 57,z 58,z 59,z 60,z 61,z 62,z 63,z 64,z 65,z 66,z 67,z 68,z 69] ((b2,AO.cells b.d) :: H) K
 simp +contextual only [x23,mapD_len,hbd,h_miss,h_skip,↓U23,↓XP,↓XU,XW0,XW1,qa,qb,qc,qd,qe,qf,reduceCtorEq,TYX]
 simp only [← hbd]
 rintro b8 ⟨n28,h8⟩ _
 refine XW.loopS Go.Proofs.Ytffbjejmobhpkaa.hm 70 (fun i : Nat=>[(1,.slc (mapD Id3.d l)),(5,.mpv (mapE Id3.d dtD (evM b))),(6,.own (mapD Id3.d out)),(7,.int .i64 last),(8,.ptr b8 0),(9,.int .i64 ((l.take i).foldl (chS b last) (id0,0)).2),(16,.slc (mapD Id3.d l)),(17,.int .i64 l.length),(18,.int .i64 ((i : Nat) : Int))]) (fun i=>(b8,AO.cells ((l.take i).foldl (chS b last) (id0,0)).1.d) :: (b2,.cells b.d) :: H) (fun i=>l.length - i) (fun i=>i ≤ l.length) 0 (by omega) ⟨rfl,rfl,rfl,rfl,rfl,rfl,rfl,rfl,rfl,rfl,trivial⟩ rfl ?_
 rintro i z hi K2 hN2 hE2 hR2
 have hN2' := hN2 (i + 1)
 clear hN2
 show xcode _ _ [z 0,.slc (mapD Id3.d l),z 2,z 3,z 4,.mpv (mapE Id3.d dtD (evM b)),.own (mapD Id3.d out),.int .i64 last,.ptr b8 0,.int .i64 ((l.take i).foldl (chS b last) (id0,0)).2,z 10,z 11,z 12,z 13,z 14,z 15,.slc (mapD Id3.d l),.int .i64 l.length,.int .i64 ((i : Nat) : Int),z 19,z 20,z 21,z 22,z 23,z 24,z 25,z 26,z 27,z 28,z 29,z 30,z 31,z 32,z 33,z 34,z 35,z 36,z 37,z 38,z 39,z 40,z 41,z 42,z 43,z 44,z 45,z 46,z 47,z 48,z 49,z 50,z 51,z 52,z 53,z 54,z 55,z 56,z 57,z 58,z 59,z 60,z 61,z 62,z 63,z 64,z 65,z 66,z 67,z 68,z 69] _ K2
 by_cases hlt : i < l.length
 ·have g := mapD_get (f := Id3.d) hlt
  have hlt' : ((i : Int) < (l.length : Int)) = True := eq_true (by omega)
  rw [foldl_take hlt] at hN2'
  generalize hp : (l.take i).foldl (chS b last) (id0,0) = p at hN2' ⊢
  have hxl : l.getD i default ∈ l := by rw [List.getD_eq_getElem?_getD,List.getElem?_eq_getElem hlt]; exact List.getElem_mem hlt
  generalize l.getD i default = x at g hN2' hxl
  have hxd : x.d = [.int .i64 x.o,.int .i64 x.s,.int .i64 x.i] := rfl
  obtain ⟨q,to⟩ := p
  have hqd : q.d = [.int .i64 q.o,.int .i64 q.s,.int .i64 q.i] := rfl
  dsimp only at hN2'
  simp +contextual only [x23,mapD_len,hbd,g,hxd,hqd,hlt',keys_id (x := x),look_id (x := x),opt_dc,h_miss,h_skip,n28,↓U23,↓XP,↓XU,XW0,XW1,qa,qb,qc,qd,qe,qf,reduceCtorEq,TYX]
  rintro b11 ⟨n811,n211,h11⟩ _
  refine f_rise ?_
  have hcs : chS b last (q,to) x = if (senP b x).2 = true ∧ last < (senP b x).1.a ∧ (to = 0 ∨ (senP b x).1.b < to ∨ ((senP b x).1.b = to ∧ ordI x q < 0)) then (x,(senP b x).1.b) else (q,to) := rfl
  rw [hcs] at hN2'
  have hsg : riseP ((lookP (evM b) x).getD []) = senP b x := rfl
  rw [hsg]
  generalize senP b x = sb at hN2' ⊢
  obtain ⟨⟨sa,sc⟩,si⟩ := sb
  have hsd : ∀ u w v,spB (⟨u,w⟩,v) = .tup [.agg [.int .i64 u,.int .i64 w],.bool v] := fun _ _ _=>rfl
  dsimp only at hN2'
  have hbdd := hbd
  have hno : (¬ last < sa ∨ (¬ to = 0 ∧ ¬ sc < to ∧ ¬ (sc = to ∧ ordI x q < 0))) → ¬(true = true ∧ last < sa ∧ (to = 0 ∨ sc < to ∨ (sc = to ∧ ordI x q < 0))) := fun h e=>by
   rcases h with h | ⟨h1,h2,h3⟩
   ·exact h e.2.1
   ·rcases e.2.2 with h | h | h
    ·exact h1 h
    ·exact h2 h
    ·exact h3 h
  cases si with
  | false =>
   rw [if_neg (fun e=>nomatch e.1)] at hN2'
   dsimp only at hN2'
   simp +contextual only [x23,mapD_len,hbd,hsd,hxd,hqd,hbdd, h_miss,h_skip,n28,n811,n211,wrap_succ (show i ≤ big by omega),↓U23,↓XP,↓XU,XW0,XW1,qa,qb,qc,qd,qe,qf,reduceCtorEq,TYX]
   rintro b12 ⟨n12,n128,n122,h12⟩
   intros
   exact hN2' _ _ hlt (by omega) ⟨rfl,rfl,rfl,rfl,rfl,rfl,rfl,rfl,rfl,rfl,trivial⟩ (back_2 rfl)
  | true =>
   by_cases c1 : last < sa
   ·by_cases c2 : to = 0
    ·rw [if_pos ⟨rfl,c1,.inl c2⟩] at hN2'
     dsimp only at hN2'
     simp +contextual only [x23,mapD_len,hbd,hsd,hxd,hqd,hbdd,eq_true c1,eq_true c2,h_miss,h_skip,n28,n811,n211,wrap_succ (show i ≤ big by omega),↓U23,↓XP,↓XU,XW0,XW1,qa,qb,qc,qd,qe,qf,reduceCtorEq,TYX]
     rintro b12 ⟨n12,n128,n122,h12⟩
     simp +contextual only [x23,mapD_len,hbd,hxd,hqd,hbdd,eq_true c1,eq_true c2,e_hit,e_miss n128,e_miss n811,h_miss,h_skip,n28,n811,n211,n12,n128,n122,Ne.symm n12,Ne.symm n128,Ne.symm n811,wrap_succ (show i ≤ big by omega),↓U23,↓XP,↓XU,XW0,XW1,qa,qb,qc,qd,qe,qf,reduceCtorEq,TYX]
     intros
     refine ⟨by rw [h_miss (Ne.symm n28)]; exact freshH_none h8,?_⟩
     exact hN2' _ _ hlt (by omega) ⟨rfl,rfl,rfl,rfl,rfl,rfl,rfl,rfl,rfl,rfl,trivial⟩ (back_2 rfl)
    ·by_cases c3 : sc < to
     ·rw [if_pos ⟨rfl,c1,.inr (.inl c3)⟩] at hN2'
      dsimp only at hN2'
      simp +contextual only [x23,mapD_len,hbd,hsd,hxd,hqd,hbdd,eq_true c1,eq_false c2,eq_true c3,h_miss,h_skip,n28,n811,n211,wrap_succ (show i ≤ big by omega),↓U23,↓XP,↓XU,XW0,XW1,qa,qb,qc,qd,qe,qf,reduceCtorEq,TYX]
      rintro b12 ⟨n12,n128,n122,h12⟩
      simp +contextual only [x23,mapD_len,hbd,hxd,hqd,hbdd,eq_true c1,eq_false c2,eq_true c3,e_hit,e_miss n128,e_miss n811,h_miss,h_skip,n28,n811,n211,n12,n128,n122,Ne.symm n12,Ne.symm n128,Ne.symm n811,wrap_succ (show i ≤ big by omega),↓U23,↓XP,↓XU,XW0,XW1,qa,qb,qc,qd,qe,qf,reduceCtorEq,TYX]
      intros
      refine ⟨by rw [h_miss (Ne.symm n28)]; exact freshH_none h8,?_⟩
      exact hN2' _ _ hlt (by omega) ⟨rfl,rfl,rfl,rfl,rfl,rfl,rfl,rfl,rfl,rfl,trivial⟩ (back_2 rfl)
     ·by_cases c4 : sc = to
      ·by_cases c5 : ordI x q < 0
       ·rw [if_pos ⟨rfl,c1,.inr (.inr ⟨c4,c5⟩)⟩] at hN2'
        dsimp only at hN2'
        simp +contextual only [x23,mapD_len,hbd,hsd,hxd,hqd,hbdd,eq_true c1,eq_false c2,eq_false c3,eq_true c4,eq_true c5,h_miss,h_skip,n28,n811,n211,wrap_succ (show i ≤ big by omega),↓U23,↓XP,↓XU,XW0,XW1,qa,qb,qc,qd,qe,qf,reduceCtorEq,TYX]
        rintro b12 ⟨n12,n128,n122,h12⟩
        intro _ _
        refine f_order ?_
        simp +contextual only [x23,mapD_len,hbd,hxd,hqd,hbdd,eq_true c1,eq_false c2,eq_false c3,eq_true c4,eq_true c5,e_hit,e_miss n128,e_miss n811,h_miss,h_skip,n28,n811,n211,n12,n128,n122,Ne.symm n12,Ne.symm n128,Ne.symm n811,wrap_succ (show i ≤ big by omega),↓U23,↓XP,↓XU,XW0,XW1,qa,qb,qc,qd,qe,qf,reduceCtorEq,TYX]
        intros
        refine ⟨by rw [h_miss (Ne.symm n28)]; exact freshH_none h8,?_⟩
        exact hN2' _ _ hlt (by omega) ⟨rfl,rfl,rfl,rfl,rfl,rfl,rfl,rfl,rfl,rfl,trivial⟩ (back_2 rfl)
       ·rw [if_neg (hno (.inr ⟨c2,c3,fun e=>c5 e.2⟩))] at hN2'
        dsimp only at hN2'
        simp +contextual only [x23,mapD_len,hbd,hsd,hxd,hqd,hbdd,eq_true c1,eq_false c2,eq_false c3,eq_true c4,eq_false c5,h_miss,h_skip,n28,n811,n211,wrap_succ (show i ≤ big by omega),↓U23,↓XP,↓XU,XW0,XW1,qa,qb,qc,qd,qe,qf,reduceCtorEq,TYX]
        rintro b12 ⟨n12,n128,n122,h12⟩
        intro _ _
        refine f_order ?_
        simp +contextual only [x23,mapD_len,hbd,hxd,hqd,hbdd,eq_true c1,eq_false c2,eq_false c3,eq_true c4,eq_false c5,e_hit,e_miss n128,e_miss n811,h_miss,h_skip,n28,n811,n211,n12,n128,n122,Ne.symm n12,Ne.symm n128,Ne.symm n811,wrap_succ (show i ≤ big by omega),↓U23,↓XP,↓XU,XW0,XW1,qa,qb,qc,qd,qe,qf,reduceCtorEq,TYX]
        intros
        exact hN2' _ _ hlt (by omega) ⟨rfl,rfl,rfl,rfl,rfl,rfl,rfl,rfl,rfl,rfl,trivial⟩ (back_2 rfl)
      ·rw [if_neg (hno (.inr ⟨c2,c3,fun e=>c4 e.1⟩))] at hN2'
       dsimp only at hN2'
       simp +contextual only [x23,mapD_len,hbd,hsd,hxd,hqd,hbdd,eq_true c1,eq_false c2,eq_false c3,eq_false c4,h_miss,h_skip,n28,n811,n211,wrap_succ (show i ≤ big by omega),↓U23,↓XP,↓XU,XW0,XW1,qa,qb,qc,qd,qe,qf,reduceCtorEq,TYX]
       rintro b12 ⟨n12,n128,n122,h12⟩
       intros
       exact hN2' _ _ hlt (by omega) ⟨rfl,rfl,rfl,rfl,rfl,rfl,rfl,rfl,rfl,rfl,trivial⟩ (back_2 rfl)
   ·rw [if_neg (hno (.inl c1))] at hN2'
    dsimp only at hN2'
    simp +contextual only [x23,mapD_len,hbd,hsd,hxd,hqd,hbdd,eq_false c1,h_miss,h_skip,n28,n811,n211,wrap_succ (show i ≤ big by omega),↓U23,↓XP,↓XU,XW0,XW1,qa,qb,qc,qd,qe,qf,reduceCtorEq,TYX]
    rintro b12 ⟨n12,n128,n122,h12⟩
    intros
    exact hN2' _ _ hlt (by omega) ⟨rfl,rfl,rfl,rfl,rfl,rfl,rfl,rfl,rfl,rfl,trivial⟩ (back_2 rfl)
 ·have hin : i = l.length := by omega
  subst hin
  simp +contextual only [x23,mapD_len,hbd,↓U23,↓XP,↓XU,XW0,XW1,qa,qb,qc,qd,qe,qf,reduceCtorEq,TYX]
  intros
  refine hE2 _ _ _ ?_
  rw [List.take_length]
  have hch : l.foldl (chS b last) (id0,0) = chB b last l := rfl
  rw [hch]
  have hm := chB_mem (b := b) (last := last) (l := l) (m := l) (p := (id0,0)) (fun _ h=>h) (fun e=>absurd rfl e)
  rw [hch] at hm
  have hcp : chP b l (n + 1) last = if (chB b last l).2 = 0 then [] else (chB b last l).1 :: chP b l n (chB b last l).2 := rfl
  rw [hcp] at ho
  generalize chB b last l = p at hm ho ⊢
  obtain ⟨q,to⟩ := p
  dsimp only at hm ho ⊢
  have hqd : q.d = [.int .i64 q.o,.int .i64 q.s,.int .i64 q.i] := rfl
  by_cases ht : to = 0
  ·rw [if_pos ht,List.append_nil] at ho
   rw [← ho] at h
   simp +contextual only [x23,mapD_len,hbd,ht,↓U23,↓XP,↓XU,XW0,XW1,qa,qb,qc,qd,qe,qf,reduceCtorEq,TYX]
   refine hR _ _ ?_
   simp +contextual only [x23,mapD_len,hbd,w_own,↓U23,↓XP,↓XU,XW0,XW1,qa,qb,qc,qd,qe,qf,reduceCtorEq,TYX]
   exact h
  ·rw [if_neg ht] at ho
   have hlast := cnt_lt (hm ht).2.2.1 (to := to) (by have := hle q (hm ht).1 (hm ht).2.1; have := (hm ht).2.2.2; omega) (hm ht).1
   have hap : mapD Id3.d out ++ [[D.int .i64 q.o,.int .i64 q.s,.int .i64 q.i]] = mapD Id3.d (out ++ [q]) := by rw [← mapD_app]; rfl
   simp +contextual only [x23,mapD_len,hbd,eq_false ht,hqd,hap,h_miss,h_skip,n28,↓U23,↓XP,↓XU,XW0,XW1,qa,qb,qc,qd,qe,qf,reduceCtorEq,TYX]
   refine ⟨mapD_sz fun _=>rfl,by omega,hN ⟨out ++ [q],to,n⟩ _ _ ⟨by dsimp only; rw [List.append_assoc]; exact ho,by dsimp only; omega,by dsimp only; rw [List.length_append,List.length_singleton]; omega⟩ (by dsimp only; omega) ⟨rfl,rfl,rfl,rfl,rfl,trivial⟩ (back_1 rfl)⟩
end Go.Proofs.Ytffbjejmobhpkaa
end
section
namespace Go.Aw
open Go Go.RowKit
theorem Fz.eptr {F : List D} {H : AH} {s b : Nat} {cs : List D} (hF : F.getD s .any = .ptr b 0) (hg : getH H b = some (.cells cs)) (hpl : ∀ d ∈ cs,plain d = true) : Fz F H (F.set s (.eptr cs)) (eraseH H b) := by
 intro K w t hs
 obtain ⟨hp,c,T,c1,c2,c3⟩ := hs.hrel.ok b _ (getH_mem hg)
 obtain ⟨hkeep,hkr⟩ := let_go (x := .imm) hs.krel hp (by simp)
 have hlt : s < F.length := by
  rcases Nat.lt_or_ge s F.length with h' | h'
  ·exact h'
  ·simp [List.getD,List.getElem?_eq_none h'] at hF
 have hFs : F[s]? = some (.ptr b 0) := by rw [← hF]; simp [List.getD,List.getElem?_eq_getElem hlt]
 refine ⟨_,hkeep.fk (fun h=>h),hkr,⟨(erase_sub.map (·.1)).nodup hs.hrel.nd,fun c' o' hm=>AO.keep hkeep (erase_ne hs.hrel.nd hm) (fun _ h=>h) (hs.hrel.ok c' o' (erase_sub.subset hm))⟩,by simpa using hs.len,fun i d v hd hv'=>?_⟩
 rcases getElem?_set_some hd with ⟨rfl,rfl,_⟩ | ⟨hne,hd⟩
 ·have hv := RepV.ptr_inv (show RepV K w (.ptr b 0) v from hs.slot s _ v hFs hv')
  rw [hv]
  refine RepV.viewO (RepV.eptr cs b 0 (fun j=>(c[j]?).getD default) ⟨(Array.getElem?_eq_some_iff.1 c1).1,by rw [setK_same]; trivial⟩ (fun j d hj=>?_) (fun j d hj=>?_) (fun j d hj=>?_))
  ·obtain ⟨u,e1,_,_⟩ := c3 j d hj
   rw [Nat.zero_add,cell_at c1,e1]; rfl
  ·obtain ⟨u,e1,e2,_⟩ := c3 j d hj
   rw [e1]; exact e2
  ·obtain ⟨u,e1,_,e3⟩ := c3 j d hj
   rw [e1]
   exact (plain_rep (hpl d (List.mem_of_getElem? hj)) e3).mono hkeep.ext
 ·exact (hs.slot i d v hd hv').keep hkeep (fun _ h=>h)
end Go.Aw
namespace Go.Proofs.Ytffbjejmobhpkaa
open Go Go.Aw
def ordS (b : Bk) (x y : Id3) : Int :=
 if (senP b x).2 = (senP b y).2 then orL [cmpZ (senP b x).1.a (senP b y).1.a,cmpZ (senP b x).1.b (senP b y).1.b,ordI x y]
 else if (senP b x).2 = true then -1 else 1
theorem f_ordS {b : Bk} {x y : Id3} {H : AH} {R : D → AH → Prop} (h : R (.int .i64 (ordS b x y)) H) : ACall Try.prog 43 [.agg x.d,.agg y.d,.eptr [.mpv (mapE Id3.d dtD (evM b))]] H R := by
 refine b43 fun hf=>?_
 have hxd : x.d = [.int .i64 x.o,.int .i64 x.s,.int .i64 x.i] := rfl
 have hyd : y.d = [.int .i64 y.o,.int .i64 y.s,.int .i64 y.i] := rfl
 simp +contextual only [x43,mapD_len,hxd,hyd,keys_id (x := x),look_id (x := x),opt_dt,↓U43,↓XP,↓XU,XW0,XW1,qa,qb,qc,qd,qe,qf,reduceCtorEq,TYX]
 rintro b3 h3 b4 ⟨n34,h4⟩
 intros
 have hsg : ∀ x,riseP ((lookP (evM b) x).getD []) = senP b x := fun _=>rfl
 refine f_rise ?_
 rw [hsg]
 have ho : ordS b x y = if (senP b x).2 = (senP b y).2 then orL [cmpZ (senP b x).1.a (senP b y).1.a,cmpZ (senP b x).1.b (senP b y).1.b,ordI x y] else if (senP b x).2 = true then -1 else 1 := rfl
 rw [ho] at h
 generalize senP b x = sx at h ⊢
 obtain ⟨⟨xa,xb⟩,xi⟩ := sx
 have hsd : ∀ u w v,spB (⟨u,w⟩,v) = .tup [.agg [.int .i64 u,.int .i64 w],.bool v] := fun _ _ _=>rfl
 simp +contextual only [x43,mapD_len,hxd,hyd,hsd,keys_id (x := y),look_id (x := y),opt_dt,h_miss,h_skip,n34,↓U43,↓XP,↓XU,XW0,XW1,qa,qb,qc,qd,qe,qf,reduceCtorEq,TYX]
 rintro b6 ⟨n46,n36,h6⟩
 intros
 refine f_rise ?_
 rw [hsg]
 generalize senP b y = sy at h ⊢
 obtain ⟨⟨ya,yb⟩,yi⟩ := sy
 dsimp only at h
 have hb1 : (false == true) = false := rfl
 have hb2 : (true == false) = false := rfl
 have hfin : R (.int .i64 (orL [cmpZ xa ya,cmpZ xb yb,ordI x y])) H → ∀ b8 : Nat,(¬ b6 = b8 ∧ ¬ b4 = b8 ∧ ¬ b3 = b8 ∧ freshH H b8) → True := fun _ _ _=>trivial
 cases xi <;> cases yi
 ·rw [if_pos rfl] at h
  simp +contextual only [x43,mapD_len,hxd,hyd,hsd,h_miss,h_skip,n34,n46,n36,↓U43,↓XP,↓XU,XW0,XW1,qa,qb,qc,qd,qe,qf,reduceCtorEq,TYX]
  rintro b8 ⟨n68,n48,n38,h8⟩
  intros
  refine ⟨_,fun _ _=>cmp_int ⟨rfl,rfl⟩,?_⟩
  simp +contextual only [x43,mapD_len,hxd,hyd,h_miss,h_skip,n34,n46,n36,n68,n48,n38,↓U43,↓XP,↓XU,XW0,XW1,qa,qb,qc,qd,qe,qf,reduceCtorEq,TYX]
  intros
  refine ⟨_,fun _ _=>cmp_int ⟨rfl,rfl⟩,?_⟩
  simp +contextual only [x43,mapD_len,hxd,hyd,h_miss,h_skip,n34,n46,n36,n68,n48,n38,↓U43,↓XP,↓XU,XW0,XW1,qa,qb,qc,qd,qe,qf,reduceCtorEq,TYX]
  intros
  refine ⟨_,fun _ _=>f_order ⟨rfl,rfl⟩,?_⟩
  simp +contextual only [x43,mapD_len,hxd,hyd,h_miss,h_skip,n34,n46,n36,n68,n48,n38,↓U43,↓XP,↓XU,XW0,XW1,qa,qb,qc,qd,qe,qf,reduceCtorEq,TYX]
  intros
  refine ⟨_,fun _ _=>cmp_or (l := [cmpZ xa ya,cmpZ xb yb,ordI x y]) ⟨rfl,rfl⟩,?_⟩
  simp +contextual only [x43,mapD_len,hxd,hyd,h_miss,h_skip,n34,n46,n36,n68,n48,n38,↓U43,↓XP,↓XU,XW0,XW1,qa,qb,qc,qd,qe,qf,reduceCtorEq,TYX]
  intros
  exact h
 ·rw [if_neg (by decide),if_neg (by decide)] at h
  simp +contextual only [x43,mapD_len,hxd,hyd,hsd,hb1,hb2,h_miss,h_skip,n34,n46,n36,↓U43,↓XP,↓XU,XW0,XW1,qa,qb,qc,qd,qe,qf,reduceCtorEq,TYX]
  intros
  exact h
 ·rw [if_neg (by decide),if_pos rfl] at h
  simp +contextual only [x43,mapD_len,hxd,hyd,hsd,hb1,hb2,h_miss,h_skip,n34,n46,n36,↓U43,↓XP,↓XU,XW0,XW1,qa,qb,qc,qd,qe,qf,reduceCtorEq,TYX]
  intros
  exact h
 ·rw [if_pos rfl] at h
  simp +contextual only [x43,mapD_len,hxd,hyd,hsd,h_miss,h_skip,n34,n46,n36,↓U43,↓XP,↓XU,XW0,XW1,qa,qb,qc,qd,qe,qf,reduceCtorEq,TYX]
  rintro b8 ⟨n68,n48,n38,h8⟩
  intros
  refine ⟨_,fun _ _=>cmp_int ⟨rfl,rfl⟩,?_⟩
  simp +contextual only [x43,mapD_len,hxd,hyd,h_miss,h_skip,n34,n46,n36,n68,n48,n38,↓U43,↓XP,↓XU,XW0,XW1,qa,qb,qc,qd,qe,qf,reduceCtorEq,TYX]
  intros
  refine ⟨_,fun _ _=>cmp_int ⟨rfl,rfl⟩,?_⟩
  simp +contextual only [x43,mapD_len,hxd,hyd,h_miss,h_skip,n34,n46,n36,n68,n48,n38,↓U43,↓XP,↓XU,XW0,XW1,qa,qb,qc,qd,qe,qf,reduceCtorEq,TYX]
  intros
  refine ⟨_,fun _ _=>f_order ⟨rfl,rfl⟩,?_⟩
  simp +contextual only [x43,mapD_len,hxd,hyd,h_miss,h_skip,n34,n46,n36,n68,n48,n38,↓U43,↓XP,↓XU,XW0,XW1,qa,qb,qc,qd,qe,qf,reduceCtorEq,TYX]
  intros
  refine ⟨_,fun _ _=>cmp_or (l := [cmpZ xa ya,cmpZ xb yb,ordI x y]) ⟨rfl,rfl⟩,?_⟩
  simp +contextual only [x43,mapD_len,hxd,hyd,h_miss,h_skip,n34,n46,n36,n68,n48,n38,↓U43,↓XP,↓XU,XW0,XW1,qa,qb,qc,qd,qe,qf,reduceCtorEq,TYX]
  intros
  exact h
def ltS (b : Bk) (x y : Id3) : Prop :=
 if (senP b x).2 = (senP b y).2 then (senP b x).1.a < (senP b y).1.a ∨ (senP b x).1.a = (senP b y).1.a ∧ ((senP b x).1.b < (senP b y).1.b ∨ (senP b x).1.b = (senP b y).1.b ∧ x.lt y)
 else (senP b x).2 = true
theorem orL3 {a c d : Int} : orL [a,c,d] < 0 ↔ a < 0 ∨ a = 0 ∧ (c < 0 ∨ c = 0 ∧ d < 0) := by
 unfold orL orL orL orL
 repeat' split
 all_goals omega
theorem cmpZ_neg {a c : Int} : cmpZ a c < 0 ↔ a < c := by unfold cmpZ; repeat' split <;> omega
theorem cmpZ_zero {a c : Int} : cmpZ a c = 0 ↔ a = c := by unfold cmpZ; repeat' split <;> omega
theorem ordS_neg {b : Bk} {x y : Id3} : ordS b x y < 0 ↔ ltS b x y := by
 unfold ordS ltS
 split
 ·rw [orL3,cmpZ_neg,cmpZ_zero,cmpZ_neg,cmpZ_zero,ordI_neg]
 ·split
  ·rename_i h; simp [h]
  ·rename_i h; simp [h]
theorem ltS_irr {b : Bk} {x : Id3} : ¬ ltS b x x := by
 unfold ltS
 rw [if_pos rfl]
 rintro (h | ⟨_,h | ⟨_,h⟩⟩)
 ·omega
 ·omega
 ·exact lt_irr h
theorem ltS_trans {b : Bk} {x y z : Id3} (h1 : ltS b x y) (h2 : ltS b y z) : ltS b x z := by
 unfold ltS at *
 generalize senP b x = sx at *
 generalize senP b y = sy at *
 generalize senP b z = sz at *
 obtain ⟨⟨a1,b1⟩,i1⟩ := sx
 obtain ⟨⟨a2,b2⟩,i2⟩ := sy
 obtain ⟨⟨a3,b3⟩,i3⟩ := sz
 dsimp only at *
 have key : (a1 < a2 ∨ a1 = a2 ∧ (b1 < b2 ∨ b1 = b2 ∧ x.lt y)) → (a2 < a3 ∨ a2 = a3 ∧ (b2 < b3 ∨ b2 = b3 ∧ y.lt z)) → (a1 < a3 ∨ a1 = a3 ∧ (b1 < b3 ∨ b1 = b3 ∧ x.lt z)) := by
  rintro (h | ⟨h,h' | ⟨h',h''⟩⟩) (g | ⟨g,g' | ⟨g',g''⟩⟩)
  ·exact .inl (by omega)
  ·exact .inl (by omega)
  ·exact .inl (by omega)
  ·exact .inl (by omega)
  ·exact .inr ⟨by omega,.inl (by omega)⟩
  ·exact .inr ⟨by omega,.inl (by omega)⟩
  ·exact .inl (by omega)
  ·exact .inr ⟨by omega,.inl (by omega)⟩
  ·exact .inr ⟨by omega,.inr ⟨by omega,lt_trans h'' g''⟩⟩
 cases i1 <;> cases i2 <;> cases i3 <;> simp at h1 h2 ⊢ <;> exact key h1 h2
theorem ltS_tri {b : Bk} {x y : Id3} : ltS b x y ∨ x = y ∨ ltS b y x := by
 unfold ltS
 generalize senP b x = sx
 generalize senP b y = sy
 obtain ⟨⟨a1,b1⟩,i1⟩ := sx
 obtain ⟨⟨a2,b2⟩,i2⟩ := sy
 dsimp only
 have key : (a1 < a2 ∨ a1 = a2 ∧ (b1 < b2 ∨ b1 = b2 ∧ x.lt y)) ∨ x = y ∨ (a2 < a1 ∨ a2 = a1 ∧ (b2 < b1 ∨ b2 = b1 ∧ y.lt x)) := by
  rcases Int.lt_trichotomy a1 a2 with h | h | h
  ·exact .inl (.inl h)
  ·rcases Int.lt_trichotomy b1 b2 with g | g | g
   ·exact .inl (.inr ⟨h,.inl g⟩)
   ·rcases lt_tri (a := x) (b := y) with k | k | k
    ·exact .inl (.inr ⟨h,.inr ⟨g,k⟩⟩)
    ·exact .inr (.inl k)
    ·exact .inr (.inr (.inr ⟨h.symm,.inr ⟨g.symm,k⟩⟩))
   ·exact .inr (.inr (.inr ⟨h.symm,.inl g⟩))
  ·exact .inr (.inr (.inl h))
 cases i1 <;> cases i2 <;> simp <;> exact key
theorem swo_ordS {b : Bk} : Go.Sort.SWO (ltOf (ordS b)) := by
 have e : ∀ x y,ltOf (ordS b) x y = decide (ordS b x y < 0) := fun x y=>rfl
 refine ⟨fun x=>?_,fun x y z h1 h2=>?_,fun x y z h1 h2=>?_⟩
 ·rw [e]; exact decide_eq_false fun h=>ltS_irr (ordS_neg.1 h)
 ·rw [e] at *; simp only [decide_eq_true_eq,ordS_neg] at *; exact ltS_trans h1 h2
 ·rw [e] at *
  simp only [decide_eq_false_iff_not,ordS_neg] at *
  intro h3
  rcases ltS_tri (b := b) (x := x) (y := y) with h | h | h
  ·exact h1 h
  ·subst h; exact h2 h3
  ·exact h2 (ltS_trans h h3)
theorem f_Order {b : Bk} (hb : Small b) (hx : IxOk (ixP b)) {l : List Id3} (hl : l.length ≤ 1073741824) (hok : ∀ x ∈ l,OkI x) {H : AH} {R : D → AH → Prop} (h : ∀ m,m.Perm l → m.Pairwise (fun x y=>¬ ltS b y x) → R (.slc (mapD Id3.d (dd m))) H) : ACall Try.prog 21 [.agg b.d,.slc (mapD Id3.d l)] H R := by
 refine b21 fun hf=>?_
 have hbig := big_eq
 have hbd : b.d = [.slc (mapD En.d b.en),.slc (mapD Sn.d b.sn),.slc (mapD Sr.d b.sr),.slc (mapD Qt.d b.qt),.slc (mapD Spl.d b.sl),.slc (mapD Mg.d b.mg),.slc (mapD Ch.d b.ch)] := rfl
 simp +contextual only [x21,mapD_len,hbd,↓U21,↓XP,↓XU,XW0,XW1,qa,qb,qc,qd,qe,qf,reduceCtorEq,TYX]
 intro b2 h2
 refine f_evidence hb hx (b := b) ?_
 simp +contextual only [x21,mapD_len,hbd,h_miss,h_skip,↓U21,↓XP,↓XU,XW0,XW1,qa,qb,qc,qd,qe,qf,reduceCtorEq,TYX]
 rintro b5 ⟨n25,h5⟩
 refine f_clone hl (fun e=>?_) (fun e b6 cap m hb6=>?_)
 ·subst e
  simp +contextual only [x21,mapD_len,hbd,↓U21,↓XP,↓XU,XW0,XW1,qa,qb,qc,qd,qe,qf,reduceCtorEq,TYX]
  intros
  refine gh_intro (Fz.eptr (s := 5) (b := b5) (cs := [.mpv (mapE Id3.d dtD (evM b))]) rfl h_hit (by simp [plain])) ?_
  simp +contextual only [x21,mapD_len,hbd,↓U21,↓XP,↓XU,XW0,XW1,qa,qb,qc,qd,qe,qf,reduceCtorEq,TYX]
  refine f_sort0 rfl ?_
  simp +contextual only [x21,mapD_len,hbd,↓U21,↓XP,↓XU,XW0,XW1,qa,qb,qc,qd,qe,qf,reduceCtorEq,TYX]
  refine f_compact0 (l := []) (by simp) ?_
  simp +contextual only [x21,mapD_len,hbd,↓U21,↓XP,↓XU,XW0,XW1,qa,qb,qc,qd,qe,qf,reduceCtorEq,TYX]
  intros
  exact h [] (List.Perm.refl _) List.Pairwise.nil
 ·simp +contextual only [x21,mapD_len,hbd,↓U21,↓XP,↓XU,XW0,XW1,qa,qb,qc,qd,qe,qf,reduceCtorEq,TYX]
  intros
  have n56 := freshH_get hb6 h_hit
  refine gh_intro (Fz.trans (Fz.hgs (s := 6) rfl) (Fz.eptr (s := 5) (b := b5) (cs := [.mpv (mapE Id3.d dtD (evM b))]) rfl (by rw [h_miss n56]; exact h_hit) (by simp [plain]))) ?_
  simp +contextual only [x21,mapD_len,hbd,e_miss n56,e_hit,↓U21,↓XP,↓XU,XW0,XW1,qa,qb,qc,qd,qe,qf,reduceCtorEq,TYX]
  refine f_sort (swo_ordS (b := b)) rfl (by kernel_rfl) (fun x y _ _=>f_ordS rfl) rfl hok (by omega) (fun m2 hp hs=>?_)
  simp +contextual only [x21,mapD_len,hbd,↓U21,↓XP,↓XU,XW0,XW1,qa,qb,qc,qd,qe,qf,reduceCtorEq,TYX]
  refine f_compact (l := m2) hp.length_eq (List.length_pos_iff.2 e) (by omega) ?_
  simp +contextual only [x21,mapD_len,hbd,↓U21,↓XP,↓XU,XW0,XW1,qa,qb,qc,qd,qe,qf,reduceCtorEq,TYX]
  intros
  exact h m2 hp (hs.imp fun {x y} hxy hlt=>hxy (ordS_neg.2 hlt))
end Go.Proofs.Ytffbjejmobhpkaa
end
section
namespace Go.Proofs.Ytffbjejmobhpkaa
open Go Go.Aw
theorem ex_gen : Gen exB := by
 refine ⟨by decide,by decide,?_,by decide,?_,by decide,?_,by decide,?_,by decide,?_⟩
 ·intro s hs
  simp only [exB,exSrs,List.mem_cons,List.not_mem_nil,or_false] at hs
  rcases hs with rfl | rfl | rfl | rfl <;> simp [exSr]
 ·intro q hq
  simp only [exB,exQts,List.mem_cons,List.not_mem_nil,or_false] at hq
  rcases hq with rfl | rfl | rfl | rfl <;> exact okz (by simp [exQt,exI])
 ·intro s hs; cases hs
 ·intro s hs; cases hs
 ·intro s hs; cases hs
theorem ex_1 : senP exB (exI 1) = (⟨10,17⟩,true) := by decide
theorem ex_2 : senP exB (exI 2) = (⟨18,30⟩,true) := by decide
theorem ex_3 : senP exB (exI 3) = (⟨40,40⟩,true) := by decide
theorem ex_f : firP exB (exI 1) = [exI 5,exI 6] := by decide
theorem ex_c : chP exB [exI 3,exI 2,exI 1] 4 0 = [exI 1,exI 2,exI 3] := by decide
end Go.Proofs.Ytffbjejmobhpkaa
end
section
namespace Go.Proofs.Ytffbjejmobhpkaa
open Go Go.Aw
structure StrictO (r : Id3 → Id3 → Prop) : Prop where
 irr : ∀ x,¬ r x x
 tr : ∀ {x y z},r x y → r y z → r x z
 tri : ∀ {x y},r x y ∨ x = y ∨ r y x
theorem StrictO.ext {r : Id3 → Id3 → Prop} (hr : StrictO r) : ∀ {a b : List Id3},a.Pairwise r → b.Pairwise r → (∀ x,x ∈ a ↔ x ∈ b) → a = b
 | [],[],_,_,_=>rfl
 | [],y :: b,_,_,h=>absurd ((h y).2 (.head _)) (by simp)
 | x :: a,[],_,_,h=>absurd ((h x).1 (.head _)) (by simp)
 | x :: a,y :: b,ha,hb,h=>by
  have ha' := List.pairwise_cons.1 ha
  have hb' := List.pairwise_cons.1 hb
  have hxy : x = y := by
   rcases List.mem_cons.1 ((h x).1 (.head _)) with h1 | h1
   ·exact h1
   ·rcases List.mem_cons.1 ((h y).2 (.head _)) with h2 | h2
    ·exact h2.symm
    ·exact absurd (hr.tr (ha'.1 y h2) (hb'.1 x h1)) (hr.irr x)
  subst hxy
  rw [hr.ext ha'.2 hb'.2 fun z=>?_]
  have hz := h z
  constructor
  ·intro hm
   rcases List.mem_cons.1 (hz.1 (.tail _ hm)) with h1 | h1
   ·subst h1; exact absurd (ha'.1 _ hm) (hr.irr _)
   ·exact h1
  ·intro hm
   rcases List.mem_cons.1 (hz.2 (.tail _ hm)) with h1 | h1
   ·subst h1; exact absurd (hb'.1 _ hm) (hr.irr _)
   ·exact h1
theorem StrictO.ddgo {r : Id3 → Id3 → Prop} (hr : StrictO r) : ∀ {p : Id3} {l : List Id3},(p :: l).Pairwise (fun x y=>¬ r y x) → (∀ y ∈ dd.go p l,r p y) ∧ (dd.go p l).Pairwise r ∧ ∀ y,y ∈ p :: dd.go p l ↔ y ∈ p :: l
 | p,[],_=>⟨by simp [dd.go],by simp [dd.go],fun y=>by simp [dd.go]⟩
 | p,x :: l,h=>by
  have h1 := List.pairwise_cons.1 h
  rw [dd.go]
  split
  ·rename_i e
   subst e
   obtain ⟨q1,q2,q3⟩ := hr.ddgo (p := x) (l := l) h1.2
   refine ⟨q1,q2,fun y=>?_⟩
   rw [q3 y]
   simp
  ·rename_i e
   obtain ⟨q1,q2,q3⟩ := hr.ddgo (p := x) (l := l) h1.2
   have hpx : r p x := (hr.tri (x := p) (y := x)).elim id fun h=>h.elim (fun h=>absurd h.symm e) fun h=>absurd h (h1.1 x (.head _))
   refine ⟨fun y hy=>?_,List.pairwise_cons.2 ⟨q1,q2⟩,fun y=>?_⟩
   ·rcases List.mem_cons.1 hy with h3 | h3
    ·exact h3 ▸ hpx
    ·exact hr.tr hpx (q1 y h3)
   ·rw [List.mem_cons,q3 y]
    simp
theorem StrictO.dd {r : Id3 → Id3 → Prop} (hr : StrictO r) {m : List Id3} (h : m.Pairwise (fun x y=>¬ r y x)) : (dd m).Pairwise r ∧ ∀ y,y ∈ Go.Proofs.Ytffbjejmobhpkaa.dd m ↔ y ∈ m := by
 cases m with
 | nil=>simp [Go.Proofs.Ytffbjejmobhpkaa.dd]
 | cons x l =>
  obtain ⟨q1,q2,q3⟩ := hr.ddgo h
  exact ⟨List.pairwise_cons.2 ⟨q1,q2⟩,q3⟩
theorem ltS_strict {b : Bk} : StrictO (ltS b) := ⟨fun _=>ltS_irr,ltS_trans,ltS_tri⟩
theorem ord_of {b : Bk} {m l a : List Id3} (hp : m.Perm l) (h : m.Pairwise (fun x y=>¬ ltS b y x)) (ha : a.Pairwise (ltS b)) (hm : ∀ y,y ∈ a ↔ y ∈ l) : dd m = a := by
 obtain ⟨h1,h2⟩ := ltS_strict.dd h
 exact ltS_strict.ext h1 ha fun y=>by rw [h2,hp.mem_iff,hm]
instance {b : Bk} {x y : Id3} : Decidable (ltS b x y) := by unfold ltS; exact inferInstance
theorem ex_o : [exI 1,exI 2,exI 3].Pairwise (ltS exB) := by decide
end Go.Proofs.Ytffbjejmobhpkaa
end
section
namespace Go.Proofs.Ytffbjejmobhpkaa
open Go Go.Aw
theorem mrg_ok {o v : Sp} (h : OkSpan o) (k : OkSpan v) : OkSpan (mrg o v) := by
 unfold mrg OkSpan at *
 refine ⟨?_,?_,?_⟩ <;> dsimp only <;> repeat' split <;> omega
theorem datA_ok : ∀ {l : List Vl} {o : Option Sp},(∀ s,o = some s → OkSpan s) → ∀ s,l.foldl datA o = some s → OkSpan s
 | [],o,h=>h
 | v :: l,o,h=>by
  rw [List.foldl_cons]
  refine datA_ok fun s hs=>?_
  unfold datA at hs
  split at hs
  ·rename_i hv
   injection hs with hs
   rw [← hs]
   refine mrg_ok ?_ hv
   cases o with
   | none=>exact hv
   | some t=>exact h t rfl
  ·exact h s hs
theorem rDat_ok {x : Id3} : ∀ {l : List Sr} {s : Sp},rDat l x = some s → OkSpan s
 | [],s,h=>by cases h
 | t :: l,s,h=>by
  unfold rDat at h
  split at h
  ·exact datA_ok (fun _ e=>by cases e) s h
  ·exact rDat_ok h
theorem spQ_ok {b : Bk} {x : Id3} {q : Qt} (h : q ∈ rEvd b x) : OkSpan (spQ b q) := by
 have h2 := (List.mem_filter.1 h).2
 unfold isEv at h2
 simp only [Bool.and_eq_true] at h2
 have h3 := h2.2.2
 unfold spQ
 unfold rDt at *
 cases hd : rDat b.sr q.source with
 | none=>rw [hd] at h3; cases h3
 | some s=>exact rDat_ok hd
theorem rmnS_ok {o v : Sp} (h : OkSpan o) (k : OkSpan v) : OkSpan (rmnS o v) := by
 unfold rmnS OkSpan at *
 refine ⟨?_,?_,?_⟩ <;> dsimp only <;> repeat' split <;> omega
theorem risF_ok {b : Bk} : ∀ {l : List Qt} {o : Sp},OkSpan o → (∀ q ∈ l,OkSpan (spQ b q)) → OkSpan (l.foldl (fun o q=>rmnS o (spQ b q)) o)
 | [],o,h,_=>h
 | q :: l,o,h,k=>by
  rw [List.foldl_cons]
  exact risF_ok (rmnS_ok h (k q (.head _))) fun p hp=>k p (.tail _ hp)
theorem rRis_ok {b : Bk} {x : Id3} (h : (rRis b x).2 = true) : OkSpan (rRis b x).1 := by
 have h2 : 0 < (rEvd b x).length := of_decide_eq_true h
 have h3 : ∀ q ∈ rEvd b x,OkSpan (spQ b q) := fun q hq=>spQ_ok hq
 show OkSpan (risO b (rEvd b x))
 cases he : rEvd b x with
 | nil=>rw [he] at h2; cases h2
 | cons q r =>
  rw [he] at h3
  unfold risO
  exact risF_ok (h3 q (.head _)) h3
theorem senP_ok {b : Bk} {x : Id3} (h : (senP b x).2 = true) : OkSpan (senP b x).1 := by rw [senP_eq] at *; exact rRis_ok h
end Go.Proofs.Ytffbjejmobhpkaa
end
section
namespace Go.Proofs.Ytffbjejmobhpkaa
open Go Go.Aw
structure OrdR (b : Bk) (l a : List Id3) : Prop where
 pw : a.Pairwise (ltS b)
 mm : ∀ y,y ∈ a ↔ y ∈ l
theorem OrdR.of {b : Bk} {m l : List Id3} (hp : m.Perm l) (h : m.Pairwise (fun x y=>¬ ltS b y x)) : OrdR b l (dd m) := by
 obtain ⟨h1,h2⟩ := ltS_strict.dd h
 exact ⟨h1,fun y=>by rw [h2,hp.mem_iff]⟩
theorem OrdR.eq {b : Bk} {l a c : List Id3} (h : OrdR b l a) (k : OrdR b l c) : a = c := ltS_strict.ext h.pw k.pw fun y=>by rw [h.mm,k.mm]
end Go.Proofs.Ytffbjejmobhpkaa
end
section
namespace Go.Proofs.Ytffbjejmobhpkaa
open Go Go.Aw
theorem chB_in {b : Bk} {last : Int} {l : List Id3} (h : (chB b last l).2 ≠ 0) : (chB b last l).1 ∈ l ∧ (senP b (chB b last l).1).2 = true ∧ last < (senP b (chB b last l).1).1.a ∧ (chB b last l).2 = (senP b (chB b last l).1).1.b :=
 chB_mem (l := l) (m := l) (p := (id0,0)) (fun _ h=>h) (fun e=>absurd rfl e) h
theorem chP_all {b : Bk} {l : List Id3} : ∀ {n : Nat} {last : Int},∀ y ∈ chP b l n last,y ∈ l ∧ (senP b y).2 = true ∧ last < (senP b y).1.a
 | 0,last,y,h=>by cases h
 | n + 1,last,y,h=>by
  unfold chP at h
  split at h
  ·cases h
  ·rename_i h0
   obtain ⟨q1,q2,q3,q4⟩ := chB_in h0
   rcases List.mem_cons.1 h with e | h
   ·rw [e]; exact ⟨q1,q2,q3⟩
   ·obtain ⟨r1,r2,r3⟩ := chP_all y h
    have := senP_ok q2
    unfold OkSpan at this
    exact ⟨r1,r2,by omega⟩
theorem bef_iff {b : Bk} {x y : Id3} : befP b x y = true ↔ (senP b x).2 = true ∧ (senP b y).2 = true ∧ (senP b x).1.b < (senP b y).1.a := by
 unfold befP
 simp [and_assoc]
theorem chP_pw {b : Bk} {l : List Id3} : ∀ {n : Nat} {last : Int},(chP b l n last).Pairwise (fun x y=>befP b x y = true)
 | 0,last=>List.Pairwise.nil
 | n + 1,last=>by
  unfold chP
  split
  ·exact List.Pairwise.nil
  ·rename_i h0
   obtain ⟨q1,q2,q3,q4⟩ := chB_in h0
   refine List.pairwise_cons.2 ⟨fun y hy=>?_,chP_pw⟩
   obtain ⟨r1,r2,r3⟩ := chP_all y hy
   exact bef_iff.2 ⟨q2,r2,by omega⟩
theorem chS_least {b : Bk} {last : Int} {x : Id3} (h1 : (senP b x).2 = true) (h2 : last < (senP b x).1.a) : ∀ {m : List Id3} {p : Id3 × Int},(x ∈ m ∨ p.2 ≠ 0 ∧ p.2 ≤ (senP b x).1.b) → (m.foldl (chS b last) p).2 ≠ 0 ∧ (m.foldl (chS b last) p).2 ≤ (senP b x).1.b
 | [],p,h=>h.elim (fun e=>by cases e) id
 | y :: m,p,h=>by
  rw [List.foldl_cons]
  refine chS_least h1 h2 ?_
  rcases h with h | ⟨h3,h4⟩
  ·rcases List.mem_cons.1 h with e | h
   ·subst e
    refine .inr ?_
    have := senP_ok h1
    unfold OkSpan at this
    unfold chS
    split
    ·dsimp only; omega
    ·rename_i hc
     by_cases c1 : p.2 = 0
     ·exact absurd ⟨h1,h2,.inl c1⟩ hc
     ·by_cases c2 : (senP b x).1.b < p.2
      ·exact absurd ⟨h1,h2,.inr (.inl c2)⟩ hc
      ·exact ⟨c1,by omega⟩
   ·exact .inl h
  ·refine .inr ?_
   unfold chS
   split
   ·rename_i hc
    have := senP_ok hc.1
    unfold OkSpan at this
    dsimp only
    rcases hc.2.2 with e | e | ⟨e,_⟩ <;> omega
   ·exact ⟨h3,h4⟩
theorem chP_has {b : Bk} {l : List Id3} {x : Id3} (hx : x ∈ l) (h1 : (senP b x).2 = true) : ∀ {n : Nat} {last : Int},last < (senP b x).1.a → cnt b l last < n → ∃ t ∈ chP b l n last,(senP b t).2 = true ∧ (senP b x).1.a ≤ (senP b t).1.b ∧ (senP b t).1.b ≤ (senP b x).1.b
 | 0,last,h2,hn=>by omega
 | n + 1,last,h2,hn=>by
  obtain ⟨g1,g2⟩ := chS_least h1 h2 (m := l) (p := (id0,0)) (.inl hx)
  have hc : l.foldl (chS b last) (id0,0) = chB b last l := rfl
  rw [hc] at g1 g2
  obtain ⟨q1,q2,q3,q4⟩ := chB_in g1
  unfold chP
  rw [if_neg g1]
  rcases Int.lt_or_le (chB b last l).2 (senP b x).1.a with c | c
  ·have ho := senP_ok q2
   unfold OkSpan at ho
   have hl := cnt_lt (b := b) (to := (chB b last l).2) q3 (by omega) q1
   obtain ⟨t,ht,r⟩ := chP_has hx h1 (n := n) c (by omega)
   exact ⟨t,.tail _ ht,r⟩
  ·exact ⟨_,.head _,q2,by omega,by omega⟩
structure ChnR (b : Bk) (l a : List Id3) : Prop where
 mm : ∀ y ∈ a,y ∈ l ∧ (senP b y).2 = true
 pw : a.Pairwise (fun x y=>befP b x y = true)
 hs : ∀ x ∈ l,(senP b x).2 = true → ∃ t ∈ a,(senP b t).2 = true ∧ (senP b x).1.a ≤ (senP b t).1.b ∧ (senP b t).1.b ≤ (senP b x).1.b
theorem chn_ok {b : Bk} {l : List Id3} : ChnR b l (chP b l (l.length + 1) 0) := by
 refine ⟨fun y hy=>?_,chP_pw,fun x hx h1=>?_⟩
 ·obtain ⟨r1,r2,r3⟩ := chP_all y hy; exact ⟨r1,r2⟩
 ·have ho := senP_ok h1
  unfold OkSpan at ho
  have hc : cnt b l 0 ≤ l.length := List.length_filter_le _ _
  exact chP_has hx h1 (by omega) (by omega)
end Go.Proofs.Ytffbjejmobhpkaa
end
