/- A part of the proof of what the last text says: Ed1, Erb, Ewb, Ep3, Ewc. Conditions: those in each theorem. -/
import Derived.Test.YtffbjejmobhpkaaE20
set_option linter.unusedVariables false
set_option linter.unusedSimpArgs false
set_option maxRecDepth 100000
set_option maxHeartbeats 16000000
open Nat renaming reduceSub → qa,reduceAdd → qb,reduceMul → qc,reduceEqDiff → qd,reduceLeDiff → qe,reduceBEq → qf
section
namespace Go.Proofs.Ytffbjejmobhpkaa
open Go Go.Aw
def srF (s : Sr) (db dc : Nat) : List D := [.int .i64 s.id.o,.int .i64 s.id.s,.int .i64 s.id.i,.str s.title,.str s.owner,.osl db dc (mapD Vl.d s.date)]
def rowS (s : Sr) (r : List Sr) (db dc : Nat) (rest : List D) : List D := srF s db dc ++ ((mapD Sr.d r).flatten ++ rest)
def roomS (s : Sr) (db dc : Nat) : AH := if s.date = [] then [] else [(db,.room dc (mapD Vl.d s.date))]
structure SvLp where
 i : Nat
 sr : List Sr
 ob : Nat
 cap : Nat
 rest : List D
 db : Nat
 dc : Nat
def srH (s : SvLp) : AH := match s.sr with
 | []=>[]
 | q :: r=>(s.ob,.cells (rowS q r s.db s.dc s.rest)) :: roomS q s.db s.dc
def srC (s : SvLp) : D := match s.sr with
 | []=>.own []
 | q :: r=>.hgs s.ob (r.length + 1) s.cap
def bxH (b : Bk) (c : D) (qt : List Qt) : List D := [.slc (mapD En.d b.en),.slc (mapD Sn.d b.sn),c,.own (mapD Qt.d qt),.slc (mapD Spl.d b.sl),.slc (mapD Mg.d b.mg),.slc (mapD Ch.d b.ch)]
structure SvOk (s : SvLp) : Prop where
 len : s.sr.length = s.i
 le : s.i ≤ 4
 dt : ∀ q ∈ s.sr,q.date.length ≤ 2 ∧ ∀ v ∈ q.date,OkV v
 cp : ∀ q r,s.sr = q :: r → (rowS q r s.db s.dc s.rest).length = s.cap * 6
theorem fresh_right {b : Nat} {H : AH} : ∀ {R : AH},freshH (R ++ H) b → freshH H b
 | [],h=>h
 | (_,_) :: r,h=>fresh_right (R := r) h.2
def bxd (b : Bk) (ob n cap : Nat) : List D := [.slc (mapD En.d b.en),.slc (mapD Sn.d b.sn),.hgs ob n cap,.slc (mapD Qt.d b.qt),.slc (mapD Spl.d b.sl),.slc (mapD Mg.d b.mg),.slc (mapD Ch.d b.ch)]
theorem sr_flat {l : List Sr} : (mapD Sr.d l).flatten.length = l.length * 6 := by
 induction l with
 | nil=>rfl
 | cons x l ih=>simp only [mapD,List.map_cons,List.flatten_cons,List.length_append,List.length_cons] at ih ⊢; rw [ih]; simp only [Sr.d,List.length_cons,List.length_nil]; omega
theorem rowS_len {q : Sr} {r : List Sr} {db dc : Nat} {rest : List D} : (rowS q r db dc rest).length = (r.length + 1) * 6 + rest.length := by
 unfold rowS
 rw [List.length_append,List.length_append,sr_flat]
 simp only [srF,List.length_cons,List.length_nil]
 omega
theorem rowS_take {q : Sr} {r : List Sr} {db dc : Nat} {rest : List D} : (rowS q r db dc rest).take ((r.length + 1) * 6) = srF q db dc ++ (mapD Sr.d r).flatten := by
 unfold rowS
 rw [← List.append_assoc]
 have h : (srF q db dc ++ (mapD Sr.d r).flatten).length = (r.length + 1) * 6 := by
  rw [List.length_append,sr_flat]
  simp only [srF,List.length_cons,List.length_nil]
  omega
 rw [← h,List.take_left]
theorem rowS_plain {q : Sr} {r : List Sr} {db dc : Nat} : (srF q db dc ++ (mapD Sr.d r).flatten).all plain = true := by
 rw [List.all_append,Bool.and_eq_true]
 refine ⟨rfl,?_⟩
 rw [List.all_eq_true]
 intro d hd
 obtain ⟨w,hw,hd⟩ := List.mem_flatten.1 hd
 obtain ⟨t,_,rfl⟩ := List.mem_map.1 hw
 simp only [Sr.d,List.mem_cons,List.not_mem_nil,or_false] at hd
 rcases hd with rfl | rfl | rfl | rfl | rfl | rfl <;> rfl
theorem Sbn.of {H' H2 H : AH} (h : H'.Perm H2) (h2 : H2.Sublist H) : Sbn H' H := fun hn=>⟨(h.map (·.1)).nodup_iff.2 ((h2.map (·.1)).nodup hn),fun p hp=>h2.subset (h.subset hp)⟩
theorem f_book21V {l m : List Int} {H : AH} {R : D → AH → Prop} (h0 : ∀ b : Bk,Gen b → 2 ≤ b.sn.length → b.sr = [] → R (.agg b.d) H)
  (h1 : ∀ (b : Bk) (q : Sr) (r : List Sr) (ob cap db dc : Nat) (rest : List D),Gen b → 2 ≤ b.sn.length → b.sr = q :: r → (rowS q r db dc rest).length = cap * 6 → freshH H ob → R (.agg (bxd b ob (r.length + 1) cap)) ((ob,.cells (rowS q r db dc rest)) :: (roomS q db dc ++ H))) : ACall Try.prog 9 [.slc (mapD intD l),.slc (mapD intD m)] H R := by
 refine r9v fun hf=>?_
 have hbig := big_eq
 simp +contextual only [x9v,mapD_len,↓U9v,↓XP,↓XU,XW0,XW1,qa,qb,qc,qd,qe,qf,reduceCtorEq,TYX]
 intro b4 h4
 refine f_book20 fun b hg hen hsr hqt hsn=>?_
 have hdz : b.dz = [.slc (mapD En.d b.en),.slc (mapD Sn.d b.sn),.osl 0 0 [],.osl 0 0 [],.slc (mapD Spl.d b.sl),.slc (mapD Mg.d b.mg),.slc (mapD Ch.d b.ch)] := rfl
 have hB : ∀ c qt,bxH b c qt = [.slc (mapD En.d b.en),.slc (mapD Sn.d b.sn),c,.own (mapD Qt.d qt),.slc (mapD Spl.d b.sl),.slc (mapD Mg.d b.mg),.slc (mapD Ch.d b.ch)] := fun _ _=>rfl
 rw [hdz]
 simp +contextual only [x9v,mapD_len,↓U9v,↓XP,↓XU,XW0,XW1,qa,qb,qc,qd,qe,qf,reduceCtorEq,TYX]
 intro b5 h5
 obtain ⟨n45,h5⟩ := h5
 rw [c_gh]
 refine Gz.then (Gz.take0 (j := 2) rfl ?_)
 refine Gz.take0 (j := 3) rfl ?_
 simp +contextual only [x9v,mapD_len,↓U9v,↓XP,↓XU,XW0,XW1,qa,qb,qc,qd,qe,qf,reduceCtorEq,TYX]
 refine f_atZ (i := 0) (by omega) (by omega) ?_
 have hr := atZ_range (l := m) (i := 0) (most := 5) (by omega)
 generalize atZ m 0 5 = n at hr
 simp +contextual only [x9v,mapD_len,↓U9v,↓XP,↓XU,XW0,XW1,qa,qb,qc,qd,qe,qf,reduceCtorEq,TYX]
 intros
 refine XW.loopSR Go.Proofs.Ytffbjejmobhpkaa.hm 120 (fun s : SvLp=>[(0,.slc (mapD intD l)),(1,.slc (mapD intD m)),(4,.ptr b4 0),(5,.ptr b5 0),(6,.int .i64 n),(7,.int .i64 ((s.i : Nat) : Int))]) (fun s=>(b5,AO.cells (bxH b (srC s) [])) :: (b4,AO.cells zr7) :: (srH s ++ H)) (fun s=>5 - s.i) (fun s=>SvOk s ∧ (s.sr ≠ [] → ¬ b5 = s.ob ∧ ¬ b4 = s.ob ∧ freshH H s.ob)) ⟨0,[],0,0,[],0,0⟩ ⟨⟨rfl,by simp,by simp,by simp⟩,fun e=>absurd rfl e⟩ ⟨rfl,rfl,rfl,rfl,rfl,rfl,rfl,trivial⟩ rfl ?_
 rintro ⟨i,sr,ob,cap,rest,db,dc⟩ z ⟨⟨hsl,hi,hsd,hcp⟩,hne⟩ K hN hE hR
 dsimp only at hi hsl hsd hcp hne
 obtain ⟨C,hC⟩ : ∃ C,srC ⟨i,sr,ob,cap,rest,db,dc⟩ = C := ⟨_,rfl⟩
 obtain ⟨G,hG⟩ : ∃ G,srH ⟨i,sr,ob,cap,rest,db,dc⟩ ++ H = G := ⟨_,rfl⟩
 rw [hC,hG]
 show xcode _ _ [.slc (mapD intD l),.slc (mapD intD m),z 2,z 3,.ptr b4 0,.ptr b5 0,.int .i64 n,.int .i64 ((i : Nat) : Int),z 8,z 9,z 10,z 11,z 12,z 13,z 14,z 15,z 16,z 17,z 18,z 19,z 20,z 21,z 22,z 23,z 24,z 25,z 26,z 27,z 28,z 29,z 30,z 31,z 32,z 33,z 34,z 35,z 36,z 37,z 38,z 39,z 40,z 41,z 42,z 43,z 44,z 45,z 46,z 47,z 48,z 49,z 50,z 51,z 52,z 53,z 54,z 55,z 56,z 57,z 58,z 59,z 60,z 61,z 62,z 63,z 64,z 65,z 66,z 67,z 68,z 69,z 70,z 71,z 72,z 73,z 74,z 75,z 76,z 77,z 78,z 79,z 80,z 81,z 82,z 83,z 84,z 85,z 86,z 87,z 88,z 89,z 90,z 91,z 92,z 93,z 94,z 95,z 96,z 97,z 98,z 99,z 100,z 101,z 102,z 103,z 104,z 105,z 106,z 107,z 108,z 109,z 110,z 111,z 112,z 113,z 114,z 115,z 116,z 117,z 118,z 119] ((b5,AO.cells (bxH b C [])) :: (b4,AO.cells zr7) :: G) K
 by_cases hin : (i : Int) < n
 ·simp +contextual only [x9v,mapD_len,eq_true hin,↓U9v,↓XP,↓XU,XW0,XW1,qa,qb,qc,qd,qe,qf,reduceCtorEq,TYX]
  intro b8
  rintro ⟨n58,n48,h8⟩
  rw [c_gh]
  refine Gz.take0 (j := 5) rfl ?_
  have hw5 := wrap_id (n := 5 * (i : Int)) (by omega) (by omega)
  simp +contextual only [x9v,mapD_len,hw5,wrap_id (n := 5 * (i : Int) + 1) (by omega) (by omega),↓U9v,↓XP,↓XU,XW0,XW1,qa,qb,qc,qd,qe,qf,reduceCtorEq,TYX]
  refine f_atZ (by omega) (by omega) ?_
  have hv := atZ_range (l := m) (i := 5 * (i : Int) + 1) (most := 3) (by omega)
  generalize atZ m (5 * (i : Int) + 1) 3 = many at hv
  have hbx : ∀ vs,srB i vs = [.int .i64 6,.int .i64 1,.int .i64 i,.str [],.str [],.own (mapD Vl.d vs)] := fun _=>rfl
  simp +contextual only [x9v,mapD_len,↓U9v,↓XP,↓XU,XW0,XW1,qa,qb,qc,qd,qe,qf,reduceCtorEq,TYX]
  intros
  refine XW.loopS Go.Proofs.Ytffbjejmobhpkaa.hm 120 (fun s : VlLp=>[(0,.slc (mapD intD l)),(1,.slc (mapD intD m)),(4,.ptr b4 0),(5,.ptr b5 0),(6,.int .i64 n),(7,.int .i64 ((i : Nat) : Int)),(8,.ptr b8 0),(9,.int .i64 many),(10,.int .i64 ((s.k : Nat) : Int))]) (fun s=>(b8,AO.cells (srB i s.vs)) :: (b5,AO.cells (bxH b C [])) :: (b4,AO.cells zr7) :: G) (fun s=>3 - s.k) (fun s=>s.k ≤ 2 ∧ s.vs.length = s.k ∧ ∀ v ∈ s.vs,OkV v) ⟨0,[]⟩ ⟨by simp,rfl,by simp⟩ ⟨rfl,rfl,rfl,rfl,rfl,rfl,rfl,rfl,rfl,rfl,trivial⟩ rfl ?_
  rintro ⟨k,vs⟩ z ⟨hk,hvl,hvs⟩ K2 hN2 hE2 hR2
  dsimp only at hk hvl hvs
  show xcode _ _ [.slc (mapD intD l),.slc (mapD intD m),z 2,z 3,.ptr b4 0,.ptr b5 0,.int .i64 n,.int .i64 ((i : Nat) : Int),.ptr b8 0,.int .i64 many,.int .i64 ((k : Nat) : Int),z 11,z 12,z 13,z 14,z 15,z 16,z 17,z 18,z 19,z 20,z 21,z 22,z 23,z 24,z 25,z 26,z 27,z 28,z 29,z 30,z 31,z 32,z 33,z 34,z 35,z 36,z 37,z 38,z 39,z 40,z 41,z 42,z 43,z 44,z 45,z 46,z 47,z 48,z 49,z 50,z 51,z 52,z 53,z 54,z 55,z 56,z 57,z 58,z 59,z 60,z 61,z 62,z 63,z 64,z 65,z 66,z 67,z 68,z 69,z 70,z 71,z 72,z 73,z 74,z 75,z 76,z 77,z 78,z 79,z 80,z 81,z 82,z 83,z 84,z 85,z 86,z 87,z 88,z 89,z 90,z 91,z 92,z 93,z 94,z 95,z 96,z 97,z 98,z 99,z 100,z 101,z 102,z 103,z 104,z 105,z 106,z 107,z 108,z 109,z 110,z 111,z 112,z 113,z 114,z 115,z 116,z 117,z 118,z 119] ((b8,AO.cells (srB i vs)) :: (b5,AO.cells (bxH b C [])) :: (b4,AO.cells zr7) :: G) K2
  by_cases hkm : (k : Int) < many
  ·have hwk := wrap_id (n := 5 * (i : Int) + k) (by omega) (by omega)
   simp +contextual only [x9v,mapD_len,eq_true hkm,hw5,hwk,wrap_id (n := 5 * (i : Int) + k + 2) (by omega) (by omega),↓U9v,↓XP,↓XU,XW0,XW1,qa,qb,qc,qd,qe,qf,reduceCtorEq,TYX]
   refine f_atZ (by omega) (by omega) ?_
   have hv1 := atZ_range (l := m) (i := 5 * (i : Int) + k + 2) (most := 60) (by omega)
   generalize atZ m (5 * (i : Int) + k + 2) 60 = v1 at hv1
   simp +contextual only [x9v,mapD_len,hw5,hwk,wrap_id (n := 1 + v1) (by omega) (by omega),wrap_id (n := 5 * (i : Int) + k + 4) (by omega) (by omega),↓U9v,↓XP,↓XU,XW0,XW1,qa,qb,qc,qd,qe,qf,reduceCtorEq,TYX]
   intros
   refine f_atZ (by omega) (by omega) ?_
   have hv2 := atZ_range (l := m) (i := 5 * (i : Int) + k + 4) (most := 25) (by omega)
   generalize atZ m (5 * (i : Int) + k + 4) 25 = v2 at hv2
   simp +contextual only [x9v,mapD_len,hw5,hwk,wrap_id (n := 1 + v1 + v2) (by omega) (by omega),wrap_id (n := 5 * (i : Int) + k + 3) (by omega) (by omega),↓U9v,↓XP,↓XU,XW0,XW1,qa,qb,qc,qd,qe,qf,reduceCtorEq,TYX]
   rintro _ b12 ⟨n812,n512,n412,h12⟩
   refine f_atZ (by omega) (by omega) ?_
   generalize atZ m (5 * (i : Int) + k + 3) 11 = v3
   have hin2 : ∀ a c : Int,(1 ≤ a ∧ a ≤ 1000 ∧ c ≤ 1000) → ∀ q ∈ vs ++ [(⟨[],0,⟨a,c⟩,id0⟩ : Vl)],OkV q := fun a c ho q hq=>by
    rcases List.mem_append.1 hq with hq | hq
    ·exact hvs q hq
    ·rw [List.mem_singleton.1 hq]; exact ho
   have hap : ∀ a c : Int,mapD Vl.d vs ++ [[.str [],.int .i64 0,.int .i64 a,.int .i64 c,.int .i64 0,.int .i64 0,.int .i64 0]] = mapD Vl.d (vs ++ [⟨[],0,⟨a,c⟩,id0⟩]) := fun a c=>by rw [← mapD_app]; rfl
   have hlen : ∀ a c : Int,(vs ++ [(⟨[],0,⟨a,c⟩,id0⟩ : Vl)]).length = k + 1 := fun a c=>by rw [List.length_append,List.length_singleton]; omega
   rcases Classical.em (v3 = 0) with h3 | h3
   ·simp +contextual only [x9v,mapD_len,hbx,eq_true h3,hap,wrap_id (n := 1 + v1 + v2 + 1) (by omega) (by omega),wrap_succ (show k ≤ big by omega),h_miss,h_skip,n58,n48,n45,n812,n512,n412,↓U9v,↓XP,↓XU,XW0,XW1,qa,qb,qc,qd,qe,qf,reduceCtorEq,TYX]
    intros
    exact ⟨mapD_sz fun _=>rfl,by omega,hN2 ⟨k + 1,vs ++ [⟨[],0,⟨1 + v1 + v2 + 1,1 + v1 + v2⟩,id0⟩]⟩ _ _ ⟨by dsimp only; omega,hlen _ _,hin2 _ _ (by omega)⟩ (by dsimp only; omega) ⟨rfl,rfl,rfl,rfl,rfl,rfl,rfl,rfl,rfl,rfl,trivial⟩ (back_1 rfl)⟩
   ·simp +contextual only [x9v,mapD_len,hbx,eq_false h3,hap,wrap_succ (show k ≤ big by omega),h_miss,h_skip,n58,n48,n45,n812,n512,n412,↓U9v,↓XP,↓XU,XW0,XW1,qa,qb,qc,qd,qe,qf,reduceCtorEq,TYX]
    intros
    exact ⟨mapD_sz fun _=>rfl,by omega,hN2 ⟨k + 1,vs ++ [⟨[],0,⟨1 + v1,1 + v1 + v2⟩,id0⟩]⟩ _ _ ⟨by dsimp only; omega,hlen _ _,hin2 _ _ (by omega)⟩ (by dsimp only; omega) ⟨rfl,rfl,rfl,rfl,rfl,rfl,rfl,rfl,rfl,rfl,trivial⟩ (back_1 rfl)⟩
  ·simp +contextual only [x9v,mapD_len,eq_false hkm,↓U9v,↓XP,↓XU,XW0,XW1,qa,qb,qc,qd,qe,qf,reduceCtorEq,TYX]
   intros
   refine hE2 _ _ _ ?_
   clear hN2 hE2 hR2
   have hwi := wrap_succ (show i ≤ big by omega)
   cases sr with
   | nil =>
    obtain rfl : C = .own [] := hC.symm
    obtain rfl : G = H := hG.symm
    have hdt : ∀ q ∈ [(⟨⟨6,1,i⟩,[],[],vs⟩ : Sr)],q.date.length ≤ 2 ∧ ∀ v ∈ q.date,OkV v := fun q hq=>by
     rw [List.mem_singleton.1 hq]; exact ⟨by dsimp only; omega,hvs⟩
    by_cases hv0 : vs = []
    ·subst hv0
     simp +contextual only [x9v,mapD_len,hbx,hB,↓U9v,↓XP,↓XU,XW0,XW1,qa,qb,qc,qd,qe,qf,reduceCtorEq,TYX]
     rw [c_gh]
     refine Gz.give0 (bx := b8) (j := 5) h_hit rfl ?_
     simp +contextual only [x9v,mapD_len,hbx,hB,h_miss,h_skip,n58,n48,n45,hwi,↓U9v,↓XP,↓XU,XW0,XW1,qa,qb,qc,qd,qe,qf,reduceCtorEq,TYX]
     intro nb cp m1
     rintro ⟨m8,m5,m4,mf⟩ hcap
     refine ⟨by omega,hN ⟨i + 1,[⟨⟨6,1,i⟩,[],[],[]⟩],nb,cp,List.replicate m1 .any,0,0⟩ _ _ ⟨⟨by dsimp only; rw [List.length_singleton]; simp at hsl; omega,by dsimp only; omega,hdt,fun q r e=>?_⟩,fun _=>⟨m5,m4,mf⟩⟩ (by dsimp only; omega) ⟨rfl,rfl,rfl,rfl,rfl,rfl,rfl,trivial⟩ (Sbn.of (H2 := [(nb,AO.cells (rowS ⟨⟨6,1,i⟩,[],[],[]⟩ [] 0 0 (List.replicate m1 .any)))] ++ ([(b5,AO.cells (bxH b (.hgs nb 1 cp) [])),(b4,AO.cells zr7)] ++ G)) (List.perm_append_comm_assoc [(b5,AO.cells (bxH b (.hgs nb 1 cp) [])),(b4,AO.cells zr7)] [(nb,AO.cells (rowS ⟨⟨6,1,i⟩,[],[],[]⟩ [] 0 0 (List.replicate m1 .any)))] G) ?_)⟩
     ·injection e with e1 e2
      subst e1 e2
      rw [rowS_len,List.length_replicate]
      simp only [List.length_nil]
      omega
     ·exact .cons_cons _ (List.sublist_cons_self _ _)
    ·simp +contextual only [x9v,mapD_len,hbx,hB,↓U9v,↓XP,↓XU,XW0,XW1,qa,qb,qc,qd,qe,qf,reduceCtorEq,TYX]
     rw [c_gh]
     refine Gz.give (bx := b8) (j := 5) (xs := mapD Vl.d vs) (by cases vs with | nil=>exact absurd rfl hv0 | cons _ _=>simp [mapD]) h_hit rfl fun db dc hdb=>?_
     obtain ⟨d8,d5,d4,df⟩ : ¬ b8 = db ∧ ¬ b5 = db ∧ ¬ b4 = db ∧ freshH G db := (fun ⟨p1,p2,p3,p4⟩=>⟨Ne.symm p1,Ne.symm p2,Ne.symm p3,p4⟩) (show ¬ db = b8 ∧ ¬ db = b5 ∧ ¬ db = b4 ∧ freshH G db by simpa [freshH] using hdb)
     simp +contextual only [x9v,mapD_len,hbx,hB,h_miss,h_skip,n58,n48,n45,hwi,d8,d5,d4,Ne.symm d8,Ne.symm d5,Ne.symm d4,↓U9v,↓XP,↓XU,XW0,XW1,qa,qb,qc,qd,qe,qf,reduceCtorEq,TYX]
     intro nb cp m1
     rintro ⟨md,m8,m5,m4,mf⟩ hcap
     have hrm : roomS ⟨⟨6,1,i⟩,[],[],vs⟩ db dc = [(db,.room dc (mapD Vl.d vs))] := by unfold roomS; rw [if_neg hv0]
     refine ⟨by omega,hN ⟨i + 1,[⟨⟨6,1,i⟩,[],[],vs⟩],nb,cp,List.replicate m1 .any,db,dc⟩ _ _ ⟨⟨by dsimp only; rw [List.length_singleton]; simp at hsl; omega,by dsimp only; omega,hdt,fun q r e=>?_⟩,fun _=>⟨m5,m4,mf⟩⟩ (by dsimp only; omega) ⟨rfl,rfl,rfl,rfl,rfl,rfl,rfl,trivial⟩ (Sbn.of (H2 := [(nb,AO.cells (rowS ⟨⟨6,1,i⟩,[],[],vs⟩ [] db dc (List.replicate m1 .any))),(db,AO.room dc (mapD Vl.d vs))] ++ ([(b5,AO.cells (bxH b (.hgs nb 1 cp) [])),(b4,AO.cells zr7)] ++ G)) ?_ ?_)⟩
     ·injection e with e1 e2
      subst e1 e2
      rw [rowS_len,List.length_replicate]
      simp only [List.length_nil]
      omega
     ·show ([(b5,AO.cells (bxH b (.hgs nb 1 cp) [])),(b4,AO.cells zr7)] ++ (((nb,AO.cells (rowS ⟨⟨6,1,i⟩,[],[],vs⟩ [] db dc (List.replicate m1 .any))) :: roomS ⟨⟨6,1,i⟩,[],[],vs⟩ db dc) ++ G)).Perm _
      rw [hrm]
      exact List.perm_append_comm_assoc _ _ _
     ·exact .cons_cons _ (.cons_cons _ (List.sublist_cons_self _ _))
   | cons q r =>
    obtain rfl : C = .hgs ob (r.length + 1) cap := hC.symm
    obtain ⟨G2,hG2⟩ : ∃ G2,roomS q db dc ++ H = G2 := ⟨_,rfl⟩
    obtain rfl : G = (ob,.cells (rowS q r db dc rest)) :: G2 := by rw [← hG,← hG2]; rfl
    obtain ⟨o5,o4,_⟩ := hne (by simp)
    have o8 : ¬ b8 = ob := Ne.symm (freshH_get h8 h_hit)
    have hcp1 := hcp q r rfl
    simp +contextual only [x9v,mapD_len,hbx,hB,↓U9v,↓XP,↓XU,XW0,XW1,qa,qb,qc,qd,qe,qf,reduceCtorEq,TYX]
    refine gh_intro Fz.refl ?_
    simp +contextual only [x9v,mapD_len,hbx,hB,h_miss,h_skip,n58,n48,n45,hwi,o8,o5,o4,Ne.symm o8,Ne.symm o5,Ne.symm o4,e_miss (Ne.symm o8),e_miss (Ne.symm o5),e_miss (Ne.symm o4),e_hit,↓U9v,↓XP,↓XU,XW0,XW1,qa,qb,qc,qd,qe,qf,reduceCtorEq,TYX]
    simp only [List.length_cons] at hsl
    refine ⟨hcp1,by omega,by rw [rowS_take]; exact rowS_plain,fun nb cp m1 hnf hcap=>?_⟩
    obtain ⟨m8,m5,m4,mf⟩ : ¬ b8 = nb ∧ ¬ b5 = nb ∧ ¬ b4 = nb ∧ freshH G2 nb := hnf
    have hrs : (rowS q r db dc rest).take ((r.length + 1) * 6) ++ ([[D.int .i64 6,.int .i64 1,.int .i64 i,.str [],.str [],.slc (mapD Vl.d vs)]].flatten ++ List.replicate m1 .any) = rowS q (r ++ [⟨⟨6,1,i⟩,[],[],vs⟩]) db dc (List.replicate m1 .any) := by
     rw [rowS_take]
     unfold rowS
     simp only [mapD,List.map_append,List.map_cons,List.map_nil,List.flatten_append,List.append_assoc]
     rfl
    rw [hrs]
    have hln : (r ++ [(⟨⟨6,1,i⟩,[],[],vs⟩ : Sr)]).length = r.length + 1 := by rw [List.length_append,List.length_singleton]
    refine ⟨by omega,hN ⟨i + 1,q :: (r ++ [⟨⟨6,1,i⟩,[],[],vs⟩]),nb,cp,List.replicate m1 .any,db,dc⟩ _ _ ⟨⟨by dsimp only; rw [List.length_cons,hln]; omega,by dsimp only; omega,fun y hy=>?_,fun q2 r2 e=>?_⟩,fun _=>⟨m5,m4,fresh_right (R := roomS q db dc) (by rw [hG2]; exact mf)⟩⟩ (by dsimp only; omega) ⟨rfl,rfl,rfl,rfl,rfl,rfl,rfl,trivial⟩ (Sbn.of (H2 := [(nb,AO.cells (rowS q (r ++ [⟨⟨6,1,i⟩,[],[],vs⟩]) db dc (List.replicate m1 .any)))] ++ ([(b5,AO.cells (bxH b (.hgs nb (r.length + 1 + 1) cp) [])),(b4,AO.cells zr7)] ++ G2)) ?_ ?_)⟩
    ·dsimp only at hy
     rcases List.mem_cons.1 hy with e | hy
     ·rw [e]; exact hsd q (.head _)
     ·rcases List.mem_append.1 hy with hy | hy
      ·exact hsd y (.tail _ hy)
      ·rw [List.mem_singleton.1 hy]; exact ⟨by dsimp only; omega,hvs⟩
    ·injection e with e1 e2
     subst e1 e2
     rw [rowS_len,List.length_replicate,hln]
     show _ = cp * 6
     omega
    ·show ([(b5,AO.cells (bxH b (.hgs nb ((r ++ [(⟨⟨6,1,i⟩,[],[],vs⟩ : Sr)]).length + 1) cp) [])),(b4,AO.cells zr7)] ++ (((nb,AO.cells (rowS q (r ++ [⟨⟨6,1,i⟩,[],[],vs⟩]) db dc (List.replicate m1 .any))) :: roomS q db dc) ++ H)).Perm _
     rw [hln,← hG2]
     exact List.perm_append_comm_assoc _ [_] _
    ·exact .cons_cons _ (List.sublist_cons_self _ _)
 ·simp +contextual only [x9v,mapD_len,eq_false hin,↓U9v,↓XP,↓XU,XW0,XW1,qa,qb,qc,qd,qe,qf,reduceCtorEq,TYX]
  intros
  refine hE _ _ _ ?_
  clear hN hE hR
  simp +contextual only [x9v,mapD_len,↓U9v,↓XP,↓XU,XW0,XW1,qa,qb,qc,qd,qe,qf,reduceCtorEq,TYX]
  refine gh_intro Fz.refl ?_
  simp +contextual only [x9v,mapD_len,↓U9v,↓XP,↓XU,XW0,XW1,qa,qb,qc,qd,qe,qf,reduceCtorEq,TYX]
  refine f_atZ (i := 30) (by omega) (by omega) ?_
  have hv := atZ_range (l := m) (i := 30) (most := 12) (by omega)
  generalize atZ m 30 12 = many at hv
  simp +contextual only [x9v,mapD_len,↓U9v,↓XP,↓XU,XW0,XW1,qa,qb,qc,qd,qe,qf,reduceCtorEq,TYX]
  intros
  have hsr4 : sr.length ≤ 4 := by omega
  clear hi hsl hin
  refine XW.loopS Go.Proofs.Ytffbjejmobhpkaa.hm 120 (fun s : QtLp=>[(0,.slc (mapD intD l)),(1,.slc (mapD intD m)),(4,.ptr b4 0),(5,.ptr b5 0),(6,.int .i64 n),(13,.int .i64 many),(14,.int .i64 ((s.i : Nat) : Int))]) (fun s=>(b5,AO.cells (bxH b C s.qt)) :: (b4,AO.cells zr7) :: G) (fun s=>12 - s.i) (fun s=>s.i ≤ 11 ∧ s.qt.length = s.i ∧ ∀ q ∈ s.qt,OkI q.id) ⟨0,[]⟩ ⟨by simp,rfl,by simp⟩ ⟨rfl,rfl,rfl,rfl,rfl,rfl,rfl,rfl,trivial⟩ rfl ?_
  rintro ⟨i,qt⟩ z ⟨hi,hql,hqi⟩ K hN hE hR
  dsimp only at hi hql hqi
  show xcode _ _ [.slc (mapD intD l),.slc (mapD intD m),z 2,z 3,.ptr b4 0,.ptr b5 0,.int .i64 n,z 7,z 8,z 9,z 10,z 11,z 12,.int .i64 many,.int .i64 ((i : Nat) : Int),z 15,z 16,z 17,z 18,z 19,z 20,z 21,z 22,z 23,z 24,z 25,z 26,z 27,z 28,z 29,z 30,z 31,z 32,z 33,z 34,z 35,z 36,z 37,z 38,z 39,z 40,z 41,z 42,z 43,z 44,z 45,z 46,z 47,z 48,z 49,z 50,z 51,z 52,z 53,z 54,z 55,z 56,z 57,z 58,z 59,z 60,z 61,z 62,z 63,z 64,z 65,z 66,z 67,z 68,z 69,z 70,z 71,z 72,z 73,z 74,z 75,z 76,z 77,z 78,z 79,z 80,z 81,z 82,z 83,z 84,z 85,z 86,z 87,z 88,z 89,z 90,z 91,z 92,z 93,z 94,z 95,z 96,z 97,z 98,z 99,z 100,z 101,z 102,z 103,z 104,z 105,z 106,z 107,z 108,z 109,z 110,z 111,z 112,z 113,z 114,z 115,z 116,z 117,z 118,z 119] ((b5,AO.cells (bxH b C qt)) :: (b4,AO.cells zr7) :: G) K
  have hsn9 := hg.sn
  rcases Classical.em ((i : Int) < many) with hiv | hiv
  ·have hq : IntKind.i64.wrap ((i : Int).tdiv 9) = ((i / 9 : Nat) : Int) := by rw [Int.tdiv_eq_ediv_of_nonneg (by omega),wrap_id (by omega) (by omega)]; omega
   have hw2 := wrap_id (n := 2 * (i : Int)) (by omega) (by omega)
   simp +contextual only [x9v,mapD_len,eq_true hiv,hq,hB,hw2,wrap_id (n := (i : Int) - ((i / 9 : Nat) : Int)) (by omega) (by omega),wrap_id (n := 31 + 2 * (i : Int)) (by omega) (by omega),wrap_id (n := (b.sn.length : Int) + 1) (by omega) (by omega),h_miss,h_skip,n45,↓U9v,↓XP,↓XU,XW0,XW1,qa,qb,qc,qd,qe,qf,reduceCtorEq,TYX]
   refine ⟨by decide,fun _=>?_⟩
   refine f_atZ (by omega) (by omega) ?_
   have hv1 := atZ_range (l := m) (i := 31 + 2 * (i : Int)) (most := (b.sn.length : Int) + 1) (by omega)
   generalize atZ m (31 + 2 * (i : Int)) ((b.sn.length : Int) + 1) = v1 at hv1
   simp +contextual only [x9v,mapD_len,↓U9v,↓XP,↓XU,XW0,XW1,qa,qb,qc,qd,qe,qf,reduceCtorEq,TYX]
   intros
   refine f_IDz (by omega) ?_
   generalize idR v1.toNat = y
   have hyd : y.d = [.int .i64 y.o,.int .i64 y.s,.int .i64 y.i] := rfl
   simp +contextual only [x9v,mapD_len,hyd,hw2,wrap_id (n := 32 + 2 * (i : Int)) (by omega) (by omega),wrap_id (n := n + 1) (by omega) (by omega),↓U9v,↓XP,↓XU,XW0,XW1,qa,qb,qc,qd,qe,qf,reduceCtorEq,TYX]
   intros
   refine f_atZ (by omega) (by omega) ?_
   generalize atZ m (32 + 2 * (i : Int)) (n + 1) = v2
   have hap : mapD Qt.d qt ++ [[.int .i64 6,.int .i64 2,.int .i64 ((i : Int) - ((i / 9 : Nat) : Int)),.int .i64 y.o,.int .i64 y.s,.int .i64 y.i,.int .i64 6,.int .i64 1,.int .i64 v2,.int .i64 0,.str []]] = mapD Qt.d (qt ++ [⟨⟨6,2,(i : Int) - ((i / 9 : Nat) : Int)⟩,y,⟨6,1,v2⟩,0,[]⟩]) := by rw [← mapD_app]; rfl
   simp +contextual only [x9v,mapD_len,hB,hap,h_miss,h_skip,n45,wrap_succ (show i ≤ big by omega),↓U9v,↓XP,↓XU,XW0,XW1,qa,qb,qc,qd,qe,qf,reduceCtorEq,TYX]
   intros
   refine ⟨mapD_sz fun _=>rfl,by omega,by omega,hN ⟨i + 1,qt ++ [⟨⟨6,2,(i : Int) - ((i / 9 : Nat) : Int)⟩,y,⟨6,1,v2⟩,0,[]⟩]⟩ _ _ ⟨by dsimp only; omega,by dsimp only; rw [List.length_append,List.length_singleton]; omega,fun q hq=>?_⟩ (by dsimp only; omega) ⟨rfl,rfl,rfl,rfl,rfl,rfl,rfl,rfl,trivial⟩ (back_1 rfl)⟩
   rcases List.mem_append.1 hq with hq | hq
   ·exact hqi q hq
   ·rw [List.mem_singleton.1 hq]; exact okz (by omega)
  ·simp +contextual only [x9v,mapD_len,eq_false hiv,↓U9v,↓XP,↓XU,XW0,XW1,qa,qb,qc,qd,qe,qf,reduceCtorEq,TYX]
   intros
   refine hE _ _ _ ?_
   clear hN hE hR
   simp +contextual only [x9v,mapD_len,hB,h_miss,h_skip,n45,↓U9v,↓XP,↓XU,XW0,XW1,qa,qb,qc,qd,qe,qf,reduceCtorEq,TYX]
   refine ⟨by decide,?_⟩
   cases sr with
   | nil =>
    obtain rfl : C = .own [] := hC.symm
    obtain rfl : G = H := hG.symm
    simp +contextual only [q_retRR,x9v,mapD_len,h_miss,h_skip,n45,↓U9v,↓XP,↓XU,XW0,XW1,qa,qb,qc,qd,qe,qf,reduceCtorEq,TYX]
    exact ⟨G,Sbn.sub (.cons _ (.cons _ (List.Sublist.refl _))),h0 ⟨b.en,b.sn,[],qt,b.sl,b.mg,b.ch⟩ ⟨hg.sn,hsr4,hsd,by dsimp only; omega,hqi,hg.sl,hg.pl,hg.mg,hg.mt,hg.ch,hg.cp⟩ hsn rfl⟩
   | cons q r =>
    obtain rfl : C = .hgs ob (r.length + 1) cap := hC.symm
    obtain rfl : G = (ob,.cells (rowS q r db dc rest)) :: (roomS q db dc ++ H) := by rw [← hG]; rfl
    simp +contextual only [q_retRR,x9v,mapD_len,h_miss,h_skip,n45,↓U9v,↓XP,↓XU,XW0,XW1,qa,qb,qc,qd,qe,qf,reduceCtorEq,TYX]
    exact ⟨_,Sbn.sub (.cons _ (.cons _ (List.Sublist.refl _))),h1 ⟨b.en,b.sn,q :: r,qt,b.sl,b.mg,b.ch⟩ q r ob cap db dc rest ⟨hg.sn,hsr4,hsd,by dsimp only; omega,hqi,hg.sl,hg.pl,hg.mg,hg.mt,hg.ch,hg.cp⟩ hsn rfl (hcp q r rfl) (hne (by simp)).2.2⟩
end Go.Proofs.Ytffbjejmobhpkaa
end
section
namespace Go.Proofs.Ytffbjejmobhpkaa
open Go Go.Aw
def exI (i : Int) : Id3 := ⟨0,1,i⟩
def exSp : List Sp := [⟨10,20⟩,⟨15,17⟩,⟨18,30⟩,⟨40,40⟩]
def exSe : List Int := [1,1,2,3]
def exSn (i : Int) : Sn := ⟨exI i,id0,[],[],[],[],[],[],[],[]⟩
def exSr (i : Int) (s : Sp) : Sr := ⟨exI (10 + i),[],[],[⟨[],0,s,id0⟩]⟩
def exQt (i : Int) (n : Int) : Qt := ⟨exI (5 + i),exI n,exI (10 + i),0,[]⟩
def exSrs : List Sr := [exSr 0 ⟨10,20⟩,exSr 1 ⟨15,17⟩,exSr 2 ⟨18,30⟩,exSr 3 ⟨40,40⟩]
def exQts : List Qt := [exQt 0 1,exQt 1 1,exQt 2 2,exQt 3 3]
def exB : Bk := ⟨[],[exSn 1,exSn 2,exSn 3],exSrs,exQts,[],[],[]⟩
theorem exS_get : ∀ {i : Nat},i < 4 → exSrs.getD i default = exSr i (exSp.getD i default) ∧ exQts.getD i default = exQt i (exSe.getD i default)
 | 0,_=>⟨rfl,rfl⟩
 | 1,_=>⟨rfl,rfl⟩
 | 2,_=>⟨rfl,rfl⟩
 | 3,_=>⟨rfl,rfl⟩
def exBx (sr : List Sr) (qt : List Qt) : List D := [.slc [],.slc (mapD Sn.d [exSn 1,exSn 2,exSn 3]),.own (mapD Sr.d sr),.own (mapD Qt.d qt),.slc [],.slc [],.slc []]
theorem f_example {H : AH} {R : D → AH → Prop} (h : R (.agg exB.d) H) : ACall Try.prog 40 [] H R := by
 refine b40 fun hf=>?_
 have hbig := big_eq
 have hid : ∀ i : Int,Id3.d ⟨0,1,i⟩ = [.int .i64 0,.int .i64 1,.int .i64 i] := fun _=>rfl
 simp +contextual only [x40,mapD_len,↓U40,↓XP,↓XU,XW0,XW1,qa,qb,qc,qd,qe,qf,reduceCtorEq,TYX]
 intro b0 h0
 refine f_id ?_
 simp +contextual only [x40,mapD_len,hid,↓U40,↓XP,↓XU,XW0,XW1,qa,qb,qc,qd,qe,qf,reduceCtorEq,TYX]
 refine f_id ?_
 simp +contextual only [x40,mapD_len,hid,↓U40,↓XP,↓XU,XW0,XW1,qa,qb,qc,qd,qe,qf,reduceCtorEq,TYX]
 refine f_id ?_
 simp +contextual only [x40,mapD_len,hid,↓U40,↓XP,↓XU,XW0,XW1,qa,qb,qc,qd,qe,qf,reduceCtorEq,TYX]
 intro b1
 rintro ⟨n01,h1⟩
 rw [c_gh]
 refine Gz.then (Gz.take0 (j := 2) rfl ?_)
 refine Gz.then (Gz.take0 (j := 3) rfl ?_)
 refine Gz.weak h_hit ?_
 rw [h_set]
 simp +contextual only [x40,mapD_len,↓U40,↓XP,↓XU,XW0,XW1,qa,qb,qc,qd,qe,qf,reduceCtorEq,TYX]
 refine XW.loopS Go.Proofs.Ytffbjejmobhpkaa.hm 56 (fun i : Nat=>[(0,.ptr b0 0),(1,.ptr b1 0),(2,.own (mapD Sp.d exSp)),(3,.own (mapD intD exSe)),(4,.int .i64 ((i : Nat) : Int))]) (fun i=>(b1,AO.cells (exBx (exSrs.take i) (exQts.take i))) :: (b0,AO.cells zr7) :: H) (fun i=>4 - i) (fun i=>i ≤ 4) 0 (by omega) ⟨rfl,rfl,rfl,rfl,rfl,rfl,trivial⟩ rfl ?_
 rintro i z hi K hN hE hR
 have hN' := hN (i + 1)
 clear hN
 show xcode _ _ [.ptr b0 0,.ptr b1 0,.own (mapD Sp.d exSp),.own (mapD intD exSe),.int .i64 ((i : Nat) : Int),z 5,z 6,z 7,z 8,z 9,z 10,z 11,z 12,z 13,z 14,z 15,z 16,z 17,z 18,z 19,z 20,z 21,z 22,z 23,z 24,z 25,z 26,z 27,z 28,z 29,z 30,z 31,z 32,z 33,z 34,z 35,z 36,z 37,z 38,z 39,z 40,z 41,z 42,z 43,z 44,z 45,z 46,z 47,z 48,z 49,z 50,z 51,z 52,z 53,z 54,z 55] ((b1,AO.cells (exBx (exSrs.take i) (exQts.take i))) :: (b0,AO.cells zr7) :: H) K
 have hB : ∀ sr qt,exBx sr qt = [.slc [],.slc (mapD Sn.d [exSn 1,exSn 2,exSn 3]),.own (mapD Sr.d sr),.own (mapD Qt.d qt),.slc [],.slc [],.slc []] := fun _ _=>rfl
 by_cases hlt : i < 4
 ·have hlt' : ((i : Int) < 4) = True := eq_true (by omega)
  have g1 := mapD_get (f := Sp.d) (l := exSp) (i := i) hlt
  have g2 := mapD_get (f := intD) (l := exSe) (i := i) hlt
  have hl1 : ((i : Int) < (exSp.length : Int)) = True := eq_true (by show (i : Int) < 4; omega)
  have hl2 : ((i : Int) < (exSe.length : Int)) = True := eq_true (by show (i : Int) < 4; omega)
  obtain ⟨e1,e2⟩ := exS_get hlt
  have hr1 : (exSrs.take i).length = i := by rw [List.length_take]; show min i 4 = i; omega
  have hr2 : (exQts.take i).length = i := by rw [List.length_take]; show min i 4 = i; omega
  rw [take_succ (l := exSrs) hlt,take_succ (l := exQts) hlt,e1,e2] at hN'
  generalize exSrs.take i = sr at hN' hr1 ⊢
  generalize exQts.take i = qt at hN' hr2 ⊢
  generalize exSp.getD i default = s at g1 hN' e1
  generalize exSe.getD i default = n at g2 hN' e2
  have hsd : s.d = [.int .i64 s.a,.int .i64 s.b] := rfl
  have hnd : intD n = [.int .i64 n] := rfl
  have hap1 : mapD Sr.d sr ++ [[.int .i64 0,.int .i64 1,.int .i64 (10 + i),.str [],.str [],.slc [[.str [],.int .i64 0,.int .i64 s.a,.int .i64 s.b,.int .i64 0,.int .i64 0,.int .i64 0]]]] = mapD Sr.d (sr ++ [exSr i s]) := by rw [← mapD_app]; rfl
  have hap2 : mapD Qt.d qt ++ [[.int .i64 0,.int .i64 1,.int .i64 (5 + i),.int .i64 0,.int .i64 1,.int .i64 n,.int .i64 0,.int .i64 1,.int .i64 (10 + i),.int .i64 0,.str []]] = mapD Qt.d (qt ++ [exQt i n]) := by rw [← mapD_app]; rfl
  have w10 := wrap_id (n := 10 + (i : Int)) (by omega) (by omega)
  have w5 := wrap_id (n := 5 + (i : Int)) (by omega) (by omega)
  simp +contextual only [x40,mapD_len,hB,hlt',w10,h_miss,h_skip,n01,Ne.symm n01,↓U40,↓XP,↓XU,XW0,XW1,qa,qb,qc,qd,qe,qf,reduceCtorEq,TYX]
  refine ⟨.inl (freshH_none h1),?_⟩
  refine ⟨_,fun _ _=>f_id ⟨rfl,rfl⟩,?_⟩
  simp +contextual only [x40,mapD_len,hid,g1,hsd,hl1,hap1,w5,Int.toNat_natCast,h_miss,h_skip,n01,Ne.symm n01,↓U40,↓XP,↓XU,XW0,XW1,qa,qb,qc,qd,qe,qf,reduceCtorEq,TYX]
  refine ⟨mapD_sz fun _=>rfl,by omega,by omega,.inl (freshH_none h1),?_⟩
  refine ⟨_,fun _ _=>f_id ⟨rfl,rfl⟩,?_⟩
  simp +contextual only [x40,mapD_len,hid,g2,hnd,hl2,w10,Int.toNat_natCast,h_miss,h_skip,n01,Ne.symm n01,↓U40,↓XP,↓XU,XW0,XW1,qa,qb,qc,qd,qe,qf,reduceCtorEq,TYX]
  intros
  refine ⟨_,fun _ _=>f_id ⟨rfl,rfl⟩,?_⟩
  simp +contextual only [x40,mapD_len,hid,w10,h_miss,h_skip,n01,Ne.symm n01,↓U40,↓XP,↓XU,XW0,XW1,qa,qb,qc,qd,qe,qf,reduceCtorEq,TYX]
  refine ⟨_,fun _ _=>f_id ⟨rfl,rfl⟩,?_⟩
  simp +contextual only [x40,mapD_len,hid,hap2,wrap_succ (show i ≤ big by omega),h_miss,h_skip,n01,Ne.symm n01,↓U40,↓XP,↓XU,XW0,XW1,qa,qb,qc,qd,qe,qf,reduceCtorEq,TYX]
  intros
  exact ⟨mapD_sz fun _=>rfl,by omega,by omega,hN' _ _ (by omega) (by omega) ⟨rfl,rfl,rfl,rfl,rfl,rfl,trivial⟩ (back_0 rfl)⟩
 ·have hi4 : i = 4 := by omega
  subst hi4
  have hlt' : (((4 : Nat) : Int) < 4) = False := eq_false (by omega)
  simp +contextual only [x40,mapD_len,hlt',↓U40,↓XP,↓XU,XW0,XW1,qa,qb,qc,qd,qe,qf,reduceCtorEq,TYX]
  refine hE _ _ _ ?_
  simp +contextual only [x40,mapD_len,hB,h_miss,h_skip,n01,Ne.symm n01,↓U40,↓XP,↓XU,XW0,XW1,qa,qb,qc,qd,qe,qf,reduceCtorEq,TYX]
  exact ⟨by decide,h⟩
end Go.Proofs.Ytffbjejmobhpkaa
end
section
namespace Go.Proofs.Ytffbjejmobhpkaa
open Go Go.Aw
theorem of_L2 {b1 b2 b3 m1 m2 m3 : Nat} {b : Bk} (hl : b.sn.length ≤ big) (hd : Ds6 b1 b2 b3 m1 m2 m3) {H : AH} {F : List D} (hF : Fr 146 [(1,.ptr b1 0),(2,.ptr b2 0),(3,.ptr b3 0),(20,.slc (mapD Sn.d b.sn)),(21,.int .i64 b.sn.length),(22,.int .i64 0)] F) {Q : AQ} (hQ : ∀ F',Fr 146 [(1,.ptr b1 0),(2,.ptr b2 0),(3,.ptr b3 0)] F' → Q (.exit 0) F' (ofH b1 b2 b3 m1 m2 m3 b (sensP b) [] [] H)) : XW Try.prog x55_L2 F (ofH b1 b2 b3 m1 m2 m3 b [] [] [] H) Q := by
 have hbig := big_eq
 obtain ⟨n12,n1m1,n1m2,n1m3,n13,n2m1,n2m2,n2m3,n23,m12,m13,m1b,m23,m2b,m3b⟩ := hd
 refine XW.loopS Go.Proofs.Ytffbjejmobhpkaa.hm 146 (fun i : Nat=>[(1,.ptr b1 0),(2,.ptr b2 0),(3,.ptr b3 0),(20,.slc (mapD Sn.d b.sn)),(21,.int .i64 b.sn.length),(22,.int .i64 ((i : Nat) : Int))]) (fun i=>ofH b1 b2 b3 m1 m2 m3 b ((b.sn.take i).foldl sensS []) [] [] H) (fun i=>b.sn.length - i) (fun i=>i ≤ b.sn.length) 0 (by omega) hF rfl ?_
 rintro i z hi K hN hE hR
 have hN' := hN (i + 1)
 clear hN
 show xcode _ _ [z 0,.ptr b1 0,.ptr b2 0,.ptr b3 0,z 4,z 5,z 6,z 7,z 8,z 9,z 10,z 11,z 12,z 13,z 14,z 15,z 16,z 17,z 18,z 19,.slc (mapD Sn.d b.sn),.int .i64 b.sn.length,.int .i64 ((i : Nat) : Int),z 23,z 24,z 25,z 26,z 27,z 28,z 29,z 30,z 31,z 32,z 33,z 34,z 35,z 36,z 37,z 38,z 39,z 40,z 41,z 42,z 43,z 44,z 45,z 46,z 47,z 48,z 49,z 50,z 51,z 52,z 53,z 54,z 55,z 56,z 57,z 58,z 59,z 60,z 61,z 62,z 63,z 64,z 65,z 66,z 67,z 68,z 69,z 70,z 71,z 72,z 73,z 74,z 75,z 76,z 77,z 78,z 79,z 80,z 81,z 82,z 83,z 84,z 85,z 86,z 87,z 88,z 89,z 90,z 91,z 92,z 93,z 94,z 95,z 96,z 97,z 98,z 99,z 100,z 101,z 102,z 103,z 104,z 105,z 106,z 107,z 108,z 109,z 110,z 111,z 112,z 113,z 114,z 115,z 116,z 117,z 118,z 119,z 120,z 121,z 122,z 123,z 124,z 125,z 126,z 127,z 128,z 129,z 130,z 131,z 132,z 133,z 134,z 135,z 136,z 137,z 138,z 139,z 140,z 141,z 142,z 143,z 144,z 145] _ K
 by_cases hlt : i < b.sn.length
 ·have g := mapD_get (f := Sn.d) hlt
  have hlt' : ((i : Int) < (b.sn.length : Int)) = True := eq_true (by omega)
  rw [foldl_take hlt] at hN'
  unfold ofH at hN' ⊢
  generalize (b.sn.take i).foldl sensS [] = o at hN'
  generalize b.sn.getD i default = s at g hN'
  have hsd : s.d = [.int .i64 s.id.o,.int .i64 s.id.s,.int .i64 s.id.i,.int .i64 s.par.o,.int .i64 s.par.s,.int .i64 s.par.i,.slc (mapD Vl.d s.gl),.slc (mapD Vl.d s.ord),.slc (mapD Vl.d s.pub),.slc (mapD Vl.d s.wo),.slc (mapD Tr.d s.tr),.slc (mapD Bn.d s.bi),.slc (mapD strD s.la),.slc (mapD Id3.d s.li)] := rfl
  simp +contextual only [x55,mapD_len,g,hsd,hlt',h_miss,h_skip,n12,n1m1,n1m2,n1m3,n13,n2m1,n2m2,n2m3,n23,m12,m13,m1b,m23,m2b,m3b,keys_id (x := s.id),upd_id (x := s.id),wrap_succ (show i ≤ big by omega),↓U55,↓XP,↓XU,XW0,XW1,qa,qb,qc,qd,qe,qf,reduceCtorEq,TYX]
  intros
  exact hN' _ _ hlt (by omega) ⟨rfl,rfl,rfl,rfl,rfl,rfl,rfl,trivial⟩ (back_1 rfl)
 ·have hin : i = b.sn.length := by omega
  subst hin
  rw [List.take_length]
  simp +contextual only [x55,mapD_len,↓U55,↓XP,↓XU,XW0,XW1,qa,qb,qc,qd,qe,qf,reduceCtorEq,TYX]
  intros
  refine hE _ _ _ ?_
  exact hQ _ ⟨rfl,rfl,rfl,rfl,trivial⟩
end Go.Proofs.Ytffbjejmobhpkaa
end
section
namespace Go.Proofs.Ytffbjejmobhpkaa
open Go Go.Aw
theorem look_split {κ α : Type} [DecidableEq κ] {m : List (κ × α)} {k : κ} {e : α} (h : lookP m k = some e) : ∃ A B,m = A ++ (k,e) :: B ∧ ∀ e',updP m k e' = A ++ (k,e') :: B := by
 induction m with
 | nil=>cases h
 | cons p r ih =>
  simp only [lookP] at h
  split at h
  ·rename_i e1
   injection h with h
   subst h
   exact ⟨[],r,by rw [e1]; rfl,fun e'=>by simp [updP,e1]⟩
  ·rename_i e1
   obtain ⟨A,B,h1,h2⟩ := ih h
   exact ⟨p :: A,B,by rw [h1]; rfl,fun e'=>by rw [updP,if_neg e1,h2]; rfl⟩
theorem look_none {κ α : Type} [DecidableEq κ] {m : List (κ × α)} {k : κ} {e' : α} (h : lookP m k = none) : updP m k e' = m ++ [(k,e')] := by
 induction m with
 | nil=>rfl
 | cons p r ih =>
  simp only [lookP] at h
  split at h
  ·cases h
  ·rename_i e1
   rw [updP,if_neg e1,ih h]
   rfl
theorem getH_erase {x b : Nat} (hne : x ≠ b) : ∀ {R : AH},getH (eraseH R b) x = getH R x
 | []=>rfl
 | (c,o) :: r=>by
  unfold eraseH
  split
  ·rename_i e
   subst e
   simp only [getH,if_neg hne]
  ·simp only [getH]
   split
   ·rfl
   ·exact getH_erase hne
theorem getH_app {x : Nat} {o : AO} {H : AH} : ∀ {R : AH},getH R x = some o → getH (R ++ H) x = some o
 | (c,o') :: r,h=>by
  simp only [getH,List.cons_append] at h ⊢
  split at h
  ·rename_i e; rw [if_pos e]; exact h
  ·rename_i e; rw [if_neg e]; exact getH_app h
theorem erase_app {b : Nat} {o : AO} {H : AH} : ∀ {R : AH},getH R b = some o → eraseH (R ++ H) b = eraseH R b ++ H
 | (c,o') :: r,h=>by
  simp only [getH] at h
  simp only [eraseH,List.cons_append]
  split
  ·rfl
  ·rename_i e
   rw [if_neg e] at h
   rw [erase_app h]
   rfl
theorem fresh_ne2 {x b : Nat} {o : AO} : ∀ {G : AH},freshH G b → getH G x = some o → x ≠ b
 | (c,o') :: r,hf,h=>by
  simp only [getH] at h
  split at h
  ·rename_i e; subst e; exact Ne.symm hf.1
  ·exact fresh_ne2 hf.2 h
theorem fresh_app {b : Nat} {H : AH} : ∀ {R : AH},freshH (R ++ H) b → freshH R b
 | [],_=>trivial
 | (c,o) :: r,h=>⟨h.1,fresh_app h.2⟩
theorem nodup_mid {α : Type} {a : α} {l r : List α} : (l ++ a :: r).Nodup ↔ a ∉ l ++ r ∧ (l ++ r).Nodup := by
 rw [List.perm_middle.nodup_iff,List.nodup_cons]
def bsL (cs : List ClA) : List Nat := (cs.filter fun c=>decide (c.xs ≠ [])).map (·.b)
theorem bsL_mem {cs : List ClA} {c : ClA} (h : c ∈ cs) (hx : c.xs ≠ []) : c.b ∈ bsL cs := List.mem_map.2 ⟨c,List.mem_filter.2 ⟨h,by simpa using hx⟩,rfl⟩
theorem bsL_app {a b : List ClA} : bsL (a ++ b) = bsL a ++ bsL b := by simp [bsL]
theorem bsL_cons {c : ClA} {b : List ClA} : bsL (c :: b) = if c.xs ≠ [] then c.b :: bsL b else bsL b := by
 unfold bsL
 rw [List.filter_cons]
 by_cases h : c.xs = [] <;> simp [h]
structure Pool (fx : List Nat) (cs : List ClA) (R : AH) : Prop where
 rm : ∀ c ∈ cs,c.xs ≠ [] → getH R c.b = some (.room c.cap (mapD Id3.d c.xs))
 av : ∀ c ∈ cs,c.xs ≠ [] → c.b ∉ fx
 ds : (bsL cs).Nodup
theorem Pool.nil {fx : List Nat} {R : AH} : Pool fx [] R := ⟨by simp,by simp,by simp [bsL]⟩
def cut (R : AH) (c : ClA) : AH := if c.xs = [] then R else eraseH R c.b
theorem Pool.upd {fx : List Nat} {A B : List ClA} {c : ClA} {R : AH} (h : Pool fx (A ++ c :: B) R) {b' cap' : Nat} {xs' : List Id3} (hx : xs' ≠ []) (hb : b' ∉ fx) (hf : freshH (cut R c) b') :
  Pool fx (A ++ ⟨b',cap',xs'⟩ :: B) ((b',.room cap' (mapD Id3.d xs')) :: cut R c) := by
 have hnd := h.ds
 rw [bsL_app,bsL_cons] at hnd
 have hAB : ∀ d ∈ A ++ B,d.xs ≠ [] → getH (cut R c) d.b = some (.room d.cap (mapD Id3.d d.xs)) := fun d hd hdx=>by
  have hm : d ∈ A ++ c :: B := by
   rcases List.mem_append.1 hd with h1 | h1
   ·exact List.mem_append_left _ h1
   ·exact List.mem_append_right _ (.tail _ h1)
  have h1 := h.rm d hm hdx
  unfold cut
  split
  ·exact h1
  ·rename_i hc
   rw [if_pos hc,nodup_mid] at hnd
   rw [getH_erase,h1]
   intro e
   have := bsL_mem hd hdx
   rw [bsL_app,e] at this
   exact hnd.1 this
 have hnd2 : (bsL A ++ bsL B).Nodup := by
  split at hnd
  ·rw [nodup_mid] at hnd; exact hnd.2
  ·exact hnd
 have hnm : b' ∉ bsL A ++ bsL B := fun hm=>by
  rw [← bsL_app] at hm
  obtain ⟨d,hd,e⟩ := List.mem_map.1 hm
  obtain ⟨hd1,hd2⟩ := List.mem_filter.1 hd
  exact fresh_ne2 hf (hAB d hd1 (by simpa using hd2)) e
 refine ⟨fun d hd hdx=>?_,fun d hd hdx=>?_,?_⟩
 ·rcases List.mem_append.1 hd with h1 | h1
  ·have := hAB d (List.mem_append_left _ h1) hdx
   simp only [getH,if_neg (fresh_ne2 hf this)]
   exact this
  ·rcases List.mem_cons.1 h1 with h1 | h1
   ·subst h1; simp [getH]
   ·have := hAB d (List.mem_append_right _ h1) hdx
    simp only [getH,if_neg (fresh_ne2 hf this)]
    exact this
 ·rcases List.mem_append.1 hd with h1 | h1
  ·exact h.av d (List.mem_append_left _ h1) hdx
  ·rcases List.mem_cons.1 h1 with h1 | h1
   ·subst h1; exact hb
   ·exact h.av d (List.mem_append_right _ (.tail _ h1)) hdx
 ·rw [bsL_app,bsL_cons,if_pos hx,nodup_mid]
  exact ⟨hnm,hnd2⟩
theorem Pool.add {fx : List Nat} {A : List ClA} {R : AH} (h : Pool fx A R) {b' cap' : Nat} {xs' : List Id3} (hx : xs' ≠ []) (hb : b' ∉ fx) (hf : freshH R b') :
  Pool fx (A ++ [⟨b',cap',xs'⟩]) ((b',.room cap' (mapD Id3.d xs')) :: R) := by
 have h2 : Pool fx (A ++ (⟨0,0,[]⟩ : ClA) :: []) R := by
  refine ⟨fun d hd hdx=>?_,fun d hd hdx=>?_,?_⟩
  ·rcases List.mem_append.1 hd with h1 | h1
   ·exact h.rm d h1 hdx
   ·rcases List.mem_cons.1 h1 with h1 | h1
    ·subst h1; exact absurd rfl hdx
    ·cases h1
  ·rcases List.mem_append.1 hd with h1 | h1
   ·exact h.av d h1 hdx
   ·rcases List.mem_cons.1 h1 with h1 | h1
    ·subst h1; exact absurd rfl hdx
    ·cases h1
  ·rw [bsL_app,bsL_cons,if_neg (by simp)]
   simpa [bsL] using h.ds
 exact h2.upd hx hb (by simpa [cut] using hf)
theorem pool_look {κ α : Type} [DecidableEq κ] {fx : List Nat} {m : List (κ × α)} {f : α → ClA} {R : AH} (h : Pool fx (m.map fun p=>f p.2) R) {k : κ} {e : α} (hl : lookP m k = some e) (hx : (f e).xs ≠ []) : getH R (f e).b = some (.room (f e).cap (mapD Id3.d (f e).xs)) ∧ (f e).b ∉ fx := by
 have hm : f e ∈ m.map fun p=>f p.2 := List.mem_map.2 ⟨(k,e),look_mem hl,rfl⟩
 exact ⟨h.rm _ hm hx,h.av _ hm hx⟩
theorem pool_upd {κ α : Type} [DecidableEq κ] {fx : List Nat} {m : List (κ × α)} {f : α → ClA} {R : AH} (h : Pool fx (m.map fun p=>f p.2) R) {k : κ} {e' : α} {b' cap' : Nat} {xs' : List Id3} (he : f e' = ⟨b',cap',xs'⟩) (hx : xs' ≠ []) (hb : b' ∉ fx) {c : ClA} (hc : ((lookP m k).map f).getD ⟨0,0,[]⟩ = c) (hf : freshH (cut R c) b') :
  Pool fx ((updP m k e').map fun p=>f p.2) ((b',.room cap' (mapD Id3.d xs')) :: cut R c) := by
 subst hc
 cases hl : lookP m k with
 | none =>
  rw [hl] at hf
  rw [look_none hl,List.map_append]
  simp only [List.map_cons,List.map_nil,he,Option.map_none,Option.getD_none]
  simp only [Option.map_none,Option.getD_none,cut,if_true] at hf ⊢
  exact h.add hx hb hf
 | some e =>
  rw [hl] at hf
  obtain ⟨A,B,h1,h2⟩ := look_split hl
  rw [h1] at h
  rw [h2,List.map_append,List.map_cons,he]
  rw [List.map_append,List.map_cons] at h
  exact h.upd hx hb hf
end Go.Proofs.Ytffbjejmobhpkaa
end
section
namespace Go.Proofs.Ytffbjejmobhpkaa
open Go Go.Aw
theorem of_s7 {b1 b2 b3 m1 m2 m3 b7 b8 i : Nat} {b : Bk} {s : Spl} {n : Int} {c : ClA} {c2 : D} {se : List (Id3 × Bool)} {ev : List (Id3 × EvA)} {ch : List ((Id3 × Id3) × ClA)} (hd : Ds6 b1 b2 b3 m1 m2 m3)
  (h7 : ¬ b3 = b7 ∧ ¬ m3 = b7 ∧ ¬ m2 = b7 ∧ ¬ m1 = b7 ∧ ¬ b2 = b7 ∧ ¬ b1 = b7) (h8 : ¬ b7 = b8 ∧ ¬ b3 = b8 ∧ ¬ m3 = b8 ∧ ¬ m2 = b8 ∧ ¬ m1 = b8 ∧ ¬ b2 = b8 ∧ ¬ b1 = b8)
  (hn : 0 ≤ n ∧ n ≤ 65536) (hcl : c.xs.length ≤ 4294967296) (hp : s.parts ≠ [] ∧ s.parts.length ≤ 65536) {H : AH}
  (hc : c.xs ≠ [] → getH H c.b = some (.room c.cap (mapD Id3.d c.xs)) ∧ c.b ∉ [b1,b2,b3,m1,m2,m3,b7,b8])
  {F : List D} (hF : Fr 146 [(1,.ptr b1 0),(2,.ptr b2 0),(3,.ptr b3 0),(7,.ptr b7 0),(8,.ptr b8 0),(32,.slc (mapD Spl.d b.sl)),(33,.int .i64 b.sl.length),(34,.int .i64 ((i : Nat) : Int))] F) {Q : AQ} (hQ : ∀ b' cap' F',¬ b8 = b' ∧ ¬ b7 = b' ∧ ¬ b3 = b' ∧ ¬ m3 = b' ∧ ¬ m2 = b' ∧ ¬ m1 = b' ∧ ¬ b2 = b' ∧ ¬ b1 = b' ∧ freshH (cut H c) b' → Fr 146 [(1,.ptr b1 0),(2,.ptr b2 0),(3,.ptr b3 0),(32,.slc (mapD Spl.d b.sl)),(33,.int .i64 b.sl.length),(34,.int .i64 ((i : Nat) : Int))] F' →
   ∀ cs,Q .normal F' ((b',.room cap' (mapD Id3.d (c.xs ++ s.parts))) :: (b8,.cells cs) :: (b7,.cells s.d) :: ofH b1 b2 b3 m1 m2 m3 b se (updP ev s.on ⟨n + 1,⟨b',cap',c.xs ++ s.parts⟩,defl s⟩) ch (cut H c))) :
  xcode Try.prog x55_s7 F ((b8,.cells [.int .i64 n,c.d,c2]) :: (b7,.cells s.d) :: ofH b1 b2 b3 m1 m2 m3 b se ev ch H) Q := by
 have hbig := big_eq
 obtain ⟨n12,n1m1,n1m2,n1m3,n13,n2m1,n2m2,n2m3,n23,m12,m13,m1b,m23,m2b,m3b⟩ := hd
 obtain ⟨n37,nm37,nm27,nm17,n27,n17⟩ := h7
 obtain ⟨n78,n38,nm38,nm28,nm18,n28,n18⟩ := h8
 obtain ⟨z,rfl⟩ : ∃ z : Nat → D,_ = z 0 :: .ptr b1 0 :: .ptr b2 0 :: .ptr b3 0 :: zz z 4 3 (.ptr b7 0 :: .ptr b8 0 :: zz z 9 23 (.slc (mapD Spl.d b.sl) :: .int .i64 b.sl.length :: .int .i64 ((i : Nat) : Int) :: zz z 35 111 [])) := hF.lit
 try dsimp only [zz,qb] at *
 clear hF
 have hsd : s.d = [.int .i64 s.by_.o,.int .i64 s.by_.s,.int .i64 s.by_.i,.int .i64 s.on.o,.int .i64 s.on.s,.int .i64 s.on.i,.slc (mapD Id3.d s.parts),.int .i64 s.df] := rfl
 have hw : IntKind.i64.wrap (n + 1) = n + 1 := wrap_id (by omega) (by omega)
 have hcd : c.d = .osl c.b c.cap (mapD Id3.d c.xs) := rfl
 have hav : c.xs ≠ [] → (c.b ≠ b1 ∧ c.b ≠ b2 ∧ c.b ≠ b3 ∧ c.b ≠ m1 ∧ c.b ≠ m2 ∧ c.b ≠ m3 ∧ c.b ≠ b7 ∧ c.b ≠ b8) := fun hx=>by
  have := (hc hx).2
  simp only [List.mem_cons,List.not_mem_nil,or_false,not_or] at this
  exact this
 have hme : mapD Id3.d c.xs = [] ↔ c.xs = [] := by simp [mapD]
 have hdrop : dropR ((b7,.cells s.d) :: ofH b1 b2 b3 m1 m2 m3 b se ev ch H) c.b (mapD Id3.d c.xs) = (b7,.cells s.d) :: ofH b1 b2 b3 m1 m2 m3 b se ev ch (cut H c) := by
  unfold dropR cut
  by_cases hx : c.xs = []
  ·rw [if_pos (hme.2 hx),if_pos hx]
  ·obtain ⟨q1,q2,q3,q4,q5,q6,q7,q8⟩ := hav hx
   rw [if_neg (fun e=>hx (hme.1 e)),if_neg hx]
   unfold ofH
   rw [e_miss q7,e_miss q3,e_miss q6,e_miss q5,e_miss q4,e_miss q2,e_miss q1]
 have hroom : mapD Id3.d c.xs ≠ [] → getH ((b7,.cells s.d) :: ofH b1 b2 b3 m1 m2 m3 b se ev ch H) c.b = some (.room c.cap (mapD Id3.d c.xs)) := fun hx0=>by
  have hx : c.xs ≠ [] := fun e=>hx0 (hme.2 e)
  obtain ⟨q1,q2,q3,q4,q5,q6,q7,q8⟩ := hav hx
  unfold ofH
  rw [h_miss q7,h_miss q3,h_miss q6,h_miss q5,h_miss q4,h_miss q2,h_miss q1]
  exact (hc hx).1
 simp +contextual only [x55,mapD_len,hw,h_miss,h_skip,n12,n1m1,n1m2,n1m3,n13,n2m1,n2m2,n2m3,n23,m12,m13,m1b,m23,m2b,m3b,n37,nm37,nm27,nm17,n27,n17,n78,n38,nm38,nm28,nm18,n28,n18,↓U55,↓XP,↓XU,XW0,XW1,qa,qb,qc,qd,qe,qf,reduceCtorEq,TYX]
 intro _
 rw [c_gh]
 refine Gz.take (j := 1) (b := c.b) (cap := c.cap) (xs := mapD Id3.d c.xs) rfl hroom ?_
 rw [hdrop]
 have hsz : ∀ q : List Id3,∀ y ∈ mapD Id3.d q,y.length = 3 := fun q=>mapD_sz fun _=>rfl
 simp +contextual only [x55,mapD_len,hsd,mapD_app,h_miss,h_skip,n12,n1m1,n1m2,n1m3,n13,n2m1,n2m2,n2m3,n23,m12,m13,m1b,m23,m2b,m3b,n37,nm37,nm27,nm17,n27,n17,n78,n38,nm38,nm28,nm18,n28,n18,↓U55,↓XP,↓XU,XW0,XW1,qa,qb,qc,qd,qe,qf,reduceCtorEq,TYX]
 intro _
 refine ⟨hsz _,hsz _,by omega,?_⟩
 have hgive : ∀ c3 : D,∀ F',Fr 146 [(1,.ptr b1 0),(2,.ptr b2 0),(3,.ptr b3 0),(7,.ptr b7 0),(8,.ptr b8 0),(32,.slc (mapD Spl.d b.sl)),(33,.int .i64 b.sl.length),(34,.int .i64 ((i : Nat) : Int))] F' → (∃ o,c3 = .slc o ∧ o = mapD Id3.d (defl s)) ∨ (∃ o,c3 = .own o ∧ o = mapD Id3.d (defl s)) → xcode Try.prog x55_s4 F' ((b8,.cells [.int .i64 (n + 1),.own (mapD Id3.d (c.xs ++ s.parts)),c3]) :: (b7,.cells s.d) :: ofH b1 b2 b3 m1 m2 m3 b se ev ch (cut H c)) Q := by
  intro c3 F' hF' hc3
  obtain ⟨z,rfl⟩ : ∃ z : Nat → D,_ = z 0 :: .ptr b1 0 :: .ptr b2 0 :: .ptr b3 0 :: zz z 4 3 (.ptr b7 0 :: .ptr b8 0 :: zz z 9 23 (.slc (mapD Spl.d b.sl) :: .int .i64 b.sl.length :: .int .i64 ((i : Nat) : Int) :: zz z 35 111 [])) := hF'.lit
  try dsimp only [zz,qb] at *
  clear hF'
  have hne : mapD Id3.d (c.xs ++ s.parts) ≠ [] := by simp [mapD,hp.1]
  have hc3v : c3.view1 = .slc (mapD Id3.d (defl s)) := by rcases hc3 with ⟨o,rfl,rfl⟩ | ⟨o,rfl,rfl⟩ <;> rfl
  have hlk : ofH b1 b2 b3 m1 m2 m3 b se ev ch (cut H c) = (b3,.cells [.mp (some m1),.mp (some m2),.mp (some m3)]) :: (m3,.mp (mapE qD ClA.d ch)) :: (m2,.mp (mapE Id3.d EvA.d ev)) :: (m1,.mp (mapE Id3.d D.bool se)) :: (b2,.cells [.mp none,.mp none,.mp none]) :: (b1,.cells b.d) :: cut H c := rfl
  rw [hlk]
  simp +contextual only [x55,mapD_len,↓U55,↓XP,↓XU,XW0,XW1,qa,qb,qc,qd,qe,qf,reduceCtorEq,TYX]
  refine Gz.give (bx := b8) (j := 1) (xs := mapD Id3.d (c.xs ++ s.parts)) (cs := [.int .i64 (n + 1),.own (mapD Id3.d (c.xs ++ s.parts)),c3]) hne (by simp [getH]) rfl fun b' cap' hf=>?_
  obtain ⟨f1,f2,f3,f4,f5,f6,f7,f8,f9⟩ := hf
  have u1 : updD (mapE Id3.d EvA.d ev) (.agg [.int .i64 s.on.o,.int .i64 s.on.s,.int .i64 s.on.i]) (.agg [.int .i64 (n + 1),.osl b' cap' (mapD Id3.d (c.xs ++ s.parts)),.slc (mapD Id3.d (defl s))]) = mapE Id3.d EvA.d (updP ev s.on ⟨n + 1,⟨b',cap',c.xs ++ s.parts⟩,defl s⟩) := upd_id (vd := EvA.d) (v := ⟨n + 1,⟨b',cap',c.xs ++ s.parts⟩,defl s⟩)
  simp +contextual only [x55,mapD_len,hsd,hc3v,u1,keys_id (x := s.on),h_miss,h_skip,n12,n1m1,n1m2,n1m3,n13,n2m1,n2m2,n2m3,n23,m12,m13,m1b,m23,m2b,m3b,n37,nm37,nm27,nm17,n27,n17,n78,n38,nm38,nm28,nm18,n28,n18,Ne.symm f1,Ne.symm f2,Ne.symm f3,Ne.symm f4,Ne.symm f5,Ne.symm f6,Ne.symm f7,Ne.symm f8,h_set,↓U55,↓XP,↓XU,XW0,XW1,qa,qb,qc,qd,qe,qf,reduceCtorEq,TYX]
  intros
  exact hQ b' cap' _ ⟨Ne.symm f1,Ne.symm f2,Ne.symm f3,Ne.symm f4,Ne.symm f5,Ne.symm f6,Ne.symm f7,Ne.symm f8,f9⟩ ⟨rfl,rfl,rfl,rfl,rfl,rfl,rfl,trivial⟩ _
 have hwd : 0 ≤ s.df → s.df < s.parts.length → IntKind.i64.wrap (s.df + 1) = s.df + 1 := fun _ _=>wrap_id (by omega) (by omega)
 refine ⟨by omega,fun _=>⟨fun h0=>⟨fun h1=>⟨hsz _,?_⟩,fun h1=>?_⟩,fun h0=>?_⟩⟩
 ·rw [hwd h0 h1]
  refine ⟨by omega,by omega,hgive _ _ ⟨rfl,rfl,rfl,rfl,rfl,rfl,rfl,rfl,rfl,trivial⟩ (.inl ⟨_,rfl,?_⟩)⟩
  obtain ⟨q,hq⟩ := Int.eq_ofNat_of_zero_le h0
  have hlt : q < s.parts.length := by omega
  rw [hq,show ((q : Int) + 1).toNat = q + 1 by omega,Int.toNat_natCast,mapD_take,mapD_drop]
  unfold defl
  rw [hq,if_pos ⟨by omega,by omega⟩,Int.toNat_natCast,take_succ hlt,List.drop_append_of_le_length (by simp; omega),List.drop_of_length_le (by simp; omega),List.nil_append]
 ·refine hgive _ _ ⟨rfl,rfl,rfl,rfl,rfl,rfl,rfl,rfl,rfl,trivial⟩ (.inr ⟨_,rfl,?_⟩)
  unfold defl
  rw [if_neg (fun e=>absurd e.2 (by omega))]
  rfl
 ·refine hgive _ _ ⟨rfl,rfl,rfl,rfl,rfl,rfl,rfl,rfl,rfl,trivial⟩ (.inr ⟨_,rfl,?_⟩)
  unfold defl
  rw [if_neg (fun e=>absurd e.1 (by omega))]
  rfl
theorem Sbn_room {fx H : AH} {x : Nat × AO} {bs fx' : AH} (h : ∀ p ∈ fx',p ∈ fx) (hk : fx'.map (·.1) = fx.map (·.1)) : Sbn (fx' ++ x :: H) (x :: (bs ++ (fx ++ H))) := by
 intro hn
 have hp : (x :: (bs ++ (fx ++ H))).Perm (bs ++ (fx ++ x :: H)) := by
  rw [← List.append_assoc,← List.append_assoc]
  exact (List.perm_middle (a := x) (l₁ := bs ++ fx) (l₂ := H)).symm
 have h2 := (hp.map (·.1)).nodup_iff.1 hn
 refine ⟨?_,fun p hm=>?_⟩
 ·rw [List.map_append,List.nodup_append] at h2
  rw [List.map_append,List.map_cons,hk,← List.map_cons,← List.map_append]
  exact h2.2.1
 ·rcases List.mem_append.1 hm with hm | hm
  ·exact .tail _ (List.mem_append_right _ (List.mem_append_left _ (h p hm)))
  ·rcases List.mem_cons.1 hm with hm | hm
   ·subst hm; exact .head _
   ·exact .tail _ (List.mem_append_right _ (List.mem_append_right _ hm))
structure EvOk (fx : List Nat) (nb xb : Nat) (m : List (Id3 × EvA)) (p : List (Id3 × Ev)) (R : AH) : Prop where
 pool : Pool fx (m.map fun p=>p.2.c) R
 val : m.map (fun p=>(p.1,p.2.p)) = p
 sz : ∀ q ∈ m,0 ≤ q.2.n ∧ q.2.n ≤ nb ∧ q.2.c.xs.length ≤ xb
theorem of_L10 {b1 b2 b3 m1 m2 m3 : Nat} {b : Bk} (hb : Small b) (hd : Ds6 b1 b2 b3 m1 m2 m3) {se : List (Id3 × Bool)} {H : AH} {F : List D} (hF : Fr 146 [(1,.ptr b1 0),(2,.ptr b2 0),(3,.ptr b3 0),(32,.slc (mapD Spl.d b.sl)),(33,.int .i64 b.sl.length),(34,.int .i64 0)] F) {Q : AQ}
  (hQ : ∀ F' ev R,Fr 146 [(1,.ptr b1 0),(2,.ptr b2 0),(3,.ptr b3 0)] F' → EvOk [b1,b2,b3,m1,m2,m3] 65536 4294967296 ev (b.sl.foldl ofS []) R → Q (.exit 2) F' (ofH b1 b2 b3 m1 m2 m3 b se ev [] (R ++ H))) : XW Try.prog x55_L10 F (ofH b1 b2 b3 m1 m2 m3 b se [] [] H) Q := by
 have hbig := big_eq
 have hd0 := hd
 obtain ⟨n12,n1m1,n1m2,n1m3,n13,n2m1,n2m2,n2m3,n23,m12,m13,m1b,m23,m2b,m3b⟩ := hd
 refine XW.loopSR Go.Proofs.Ytffbjejmobhpkaa.hm 146 (fun s : Nat × List (Id3 × EvA) × AH=>[(1,.ptr b1 0),(2,.ptr b2 0),(3,.ptr b3 0),(32,.slc (mapD Spl.d b.sl)),(33,.int .i64 b.sl.length),(34,.int .i64 ((s.1 : Nat) : Int))]) (fun s=>ofH b1 b2 b3 m1 m2 m3 b se s.2.1 [] (s.2.2 ++ H)) (fun s=>b.sl.length - s.1) (fun s=>s.1 ≤ b.sl.length ∧ EvOk [b1,b2,b3,m1,m2,m3] s.1 (65536 * s.1) s.2.1 ((b.sl.take s.1).foldl ofS []) s.2.2) (0,[],[]) ⟨by omega,Pool.nil,rfl,by simp⟩ hF rfl ?_
 rintro ⟨i,ev,R⟩ z ⟨hi,hev⟩ K hN hE hR
 dsimp only at hi hev hN
 show xcode _ _ [z 0,.ptr b1 0,.ptr b2 0,.ptr b3 0,z 4,z 5,z 6,z 7,z 8,z 9,z 10,z 11,z 12,z 13,z 14,z 15,z 16,z 17,z 18,z 19,z 20,z 21,z 22,z 23,z 24,z 25,z 26,z 27,z 28,z 29,z 30,z 31,.slc (mapD Spl.d b.sl),.int .i64 b.sl.length,.int .i64 ((i : Nat) : Int),z 35,z 36,z 37,z 38,z 39,z 40,z 41,z 42,z 43,z 44,z 45,z 46,z 47,z 48,z 49,z 50,z 51,z 52,z 53,z 54,z 55,z 56,z 57,z 58,z 59,z 60,z 61,z 62,z 63,z 64,z 65,z 66,z 67,z 68,z 69,z 70,z 71,z 72,z 73,z 74,z 75,z 76,z 77,z 78,z 79,z 80,z 81,z 82,z 83,z 84,z 85,z 86,z 87,z 88,z 89,z 90,z 91,z 92,z 93,z 94,z 95,z 96,z 97,z 98,z 99,z 100,z 101,z 102,z 103,z 104,z 105,z 106,z 107,z 108,z 109,z 110,z 111,z 112,z 113,z 114,z 115,z 116,z 117,z 118,z 119,z 120,z 121,z 122,z 123,z 124,z 125,z 126,z 127,z 128,z 129,z 130,z 131,z 132,z 133,z 134,z 135,z 136,z 137,z 138,z 139,z 140,z 141,z 142,z 143,z 144,z 145] (ofH b1 b2 b3 m1 m2 m3 b se ev [] (R ++ H)) K
 have hlk : ofH b1 b2 b3 m1 m2 m3 b se ev [] (R ++ H) = (b3,.cells [.mp (some m1),.mp (some m2),.mp (some m3)]) :: (m3,.mp (mapE qD ClA.d [])) :: (m2,.mp (mapE Id3.d EvA.d ev)) :: (m1,.mp (mapE Id3.d D.bool se)) :: (b2,.cells [.mp none,.mp none,.mp none]) :: (b1,.cells b.d) :: (R ++ H) := rfl
 by_cases hlt : i < b.sl.length
 ·have g := mapD_get (f := Spl.d) hlt
  have hlt' : ((i : Int) < (b.sl.length : Int)) = True := eq_true (by omega)
  have hstep := foldl_take (f := ofS) (b := []) hlt
  have hsm := (hb.pl _ (getD_mem hlt)).imp_right fun h=>(Nat.le_trans h (by omega) : _ ≤ 65536)
  generalize b.sl.getD i default = s at g hstep hsm
  have hsd : s.d = [.int .i64 s.by_.o,.int .i64 s.by_.s,.int .i64 s.by_.i,.int .i64 s.on.o,.int .i64 s.on.s,.int .i64 s.on.i,.slc (mapD Id3.d s.parts),.int .i64 s.df] := rfl
  have hsl := hb.sl
  -- what is left of a round
  have fin : ∀ (n : Int) (c : ClA) (c2 : D) (b7 b8 : Nat) (F' : List D),((lookP ev s.on).map (·.c)).getD ⟨0,0,[]⟩ = c → ((lookP ev s.on).map (·.n)).getD 0 = n →
    (¬ b3 = b7 ∧ ¬ m3 = b7 ∧ ¬ m2 = b7 ∧ ¬ m1 = b7 ∧ ¬ b2 = b7 ∧ ¬ b1 = b7 ∧ freshH (R ++ H) b7) → (¬ b7 = b8 ∧ ¬ b3 = b8 ∧ ¬ m3 = b8 ∧ ¬ m2 = b8 ∧ ¬ m1 = b8 ∧ ¬ b2 = b8 ∧ ¬ b1 = b8 ∧ freshH (R ++ H) b8) →
    Fr 146 [(1,.ptr b1 0),(2,.ptr b2 0),(3,.ptr b3 0),(7,.ptr b7 0),(8,.ptr b8 0),(32,.slc (mapD Spl.d b.sl)),(33,.int .i64 b.sl.length),(34,.int .i64 ((i : Nat) : Int))] F' → xcode Try.prog x55_s7 F' ((b8,.cells [.int .i64 n,c.d,c2]) :: (b7,.cells s.d) :: ofH b1 b2 b3 m1 m2 m3 b se ev [] (R ++ H)) (blockQ 3 (seqQ Try.prog (.reg [⟨.binOp .add 3 (.tmp 34) (.const (.int .i64 1)) 3,some 79,none,false,false⟩,⟨.move (.tmp 79),some 34,none,false,false⟩]) K)) := by
   intro n c c2 b7 b8 F' hc hn h7 h8 hF'
   have hnn : 0 ≤ n ∧ n ≤ i ∧ c.xs.length ≤ 65536 * i := by
    cases hlo : lookP ev s.on with
    | none=>rw [hlo] at hc hn; subst hc hn; simp
    | some e=>rw [hlo] at hc hn; subst hc hn; exact hev.sz _ (look_mem hlo)
   have hrm : c.xs ≠ [] → getH R c.b = some (.room c.cap (mapD Id3.d c.xs)) ∧ c.b ∉ [b1,b2,b3,m1,m2,m3] := fun hx=>by
    cases hlo : lookP ev s.on with
    | none=>rw [hlo] at hc; subst hc; exact absurd rfl hx
    | some e=>rw [hlo] at hc; subst hc; exact pool_look hev.pool hlo hx
   have hcut : cut (R ++ H) c = cut R c ++ H := by
    unfold cut
    by_cases hx : c.xs = []
    ·rw [if_pos hx,if_pos hx]
    ·rw [if_neg hx,if_neg hx,erase_app (hrm hx).1]
   refine of_s7 hd0 ⟨h7.1,h7.2.1,h7.2.2.1,h7.2.2.2.1,h7.2.2.2.2.1,h7.2.2.2.2.2.1⟩ ⟨h8.1,h8.2.1,h8.2.2.1,h8.2.2.2.1,h8.2.2.2.2.1,h8.2.2.2.2.2.1,h8.2.2.2.2.2.2.1⟩ ⟨hnn.1,by omega⟩ (by omega) hsm (fun hx=>?_) hF' ?_
   ·obtain ⟨q1,q2⟩ := hrm hx
    have q3 := getH_app (H := H) q1
    refine ⟨q3,?_⟩
    have q4 := fresh_ne2 h7.2.2.2.2.2.2 q3
    have q5 := fresh_ne2 h8.2.2.2.2.2.2.2 q3
    simp only [List.mem_cons,List.not_mem_nil,or_false,not_or] at q2 ⊢
    exact ⟨q2.1,q2.2.1,q2.2.2.1,q2.2.2.2.1,q2.2.2.2.2.1,q2.2.2.2.2.2,q4,q5⟩
   ·intro b' cap' F' hf hF' cs
    obtain ⟨z,rfl⟩ : ∃ z : Nat → D,_ = z 0 :: .ptr b1 0 :: .ptr b2 0 :: .ptr b3 0 :: zz z 4 28 (.slc (mapD Spl.d b.sl) :: .int .i64 b.sl.length :: .int .i64 ((i : Nat) : Int) :: zz z 35 111 []) := hF'.lit
    try dsimp only [zz,qb] at *
    simp +contextual only [x55,mapD_len,wrap_succ (show i ≤ big by omega),↓U55,↓XP,↓XU,XW0,XW1,qa,qb,qc,qd,qe,qf,reduceCtorEq,TYX]
    rw [hcut] at hf ⊢
    have hcv : (((lookP ev s.on).map EvA.c).getD ⟨0,0,[]⟩) = c := hc
    refine hN (i + 1,updP ev s.on ⟨n + 1,⟨b',cap',c.xs ++ s.parts⟩,defl s⟩,(b',.room cap' (mapD Id3.d (c.xs ++ s.parts))) :: cut R c) _ _ ⟨hlt,?_,?_,?_⟩ (by dsimp only; omega) ⟨rfl,rfl,rfl,rfl,rfl,rfl,rfl,trivial⟩ ?_
    ·refine pool_upd (f := EvA.c) hev.pool rfl (by simp [hsm.1]) ?_ hc (fresh_app hf.2.2.2.2.2.2.2.2)
     simp only [List.mem_cons,List.not_mem_nil,or_false,not_or]
     exact ⟨Ne.symm hf.2.2.2.2.2.2.2.1,Ne.symm hf.2.2.2.2.2.2.1,Ne.symm hf.2.2.1,Ne.symm hf.2.2.2.2.2.1,Ne.symm hf.2.2.2.2.1,Ne.symm hf.2.2.2.1⟩
    ·dsimp only
     rw [upd_map (f := EvA.p),hev.val,hstep]
     rw [ofS]
     have e1 : lookP ((b.sl.take i).foldl ofS []) s.on = (lookP ev s.on).map EvA.p := by rw [← hev.val,look_map]
     rw [e1]
     cases hlo : lookP ev s.on with
     | none=>rw [hlo] at hc hn; subst hc hn; rfl
     | some e=>rw [hlo] at hc hn; subst hc hn; rfl
    ·intro q hq
     dsimp only at hq ⊢
     rcases upd_mem hq with rfl | hq
     ·dsimp only
      rw [List.length_append]
      have := hsm.2
      omega
     ·have := hev.sz q hq
      omega
    ·exact Sbn_room (fx := [(b3,.cells [.mp (some m1),.mp (some m2),.mp (some m3)]),(m3,.mp (mapE qD ClA.d [])),(m2,.mp (mapE Id3.d EvA.d (updP ev s.on ⟨n + 1,⟨b',cap',c.xs ++ s.parts⟩,defl s⟩))),(m1,.mp (mapE Id3.d D.bool se)),(b2,.cells [.mp none,.mp none,.mp none]),(b1,.cells b.d)]) (bs := [(b8,.cells cs),(b7,.cells s.d)]) (fun p hp=>hp) rfl
  cases hlo : lookP ev s.on with
  | none =>
   rw [hlk]
   simp +contextual only [↓u55_L10,↓u55_s9,↓u55_s8,mapD_len,g,hsd,hlt',keys_id (x := s.on),look_id (x := s.on),hlo,h_miss,h_skip,n12,n1m1,n1m2,n1m3,n13,n2m1,n2m2,n2m3,n23,m12,m13,m1b,m23,m2b,m3b,↓u55_s0,↓u55_s1,↓u55_L2,↓u55_c3,↓u55_s4,↓u55_s5,↓u55_s6,↓u55_s7,↓u55_s8,↓u55_s9,↓u55_L10,↓u55_s11,↓u55_s12,↓u55_s13,↓u55_s14,↓u55_s15,↓u55_s16,↓u55_L17,↓u55_c18,↓u55_s19,↓u55_s20,↓u55_s21,↓u55_L22,↓u55_s23,↓u55_s24,↓u55_s25,↓u55_s26,↓u55_s27,↓XP,↓XU,XW0,XW1,qa,qb,qc,qd,qe,qf,reduceCtorEq,TYX,-u55_s7]
   intro b7 h7 b8 h8
   refine fin 0 ⟨0,0,[]⟩ _ b7 b8 _ ?_ ?_ h7 h8 ?_
   ·rw [hlo]; rfl
   ·rw [hlo]; rfl
   ·exact ⟨rfl,rfl,rfl,rfl,rfl,rfl,rfl,rfl,rfl,trivial⟩
  | some e =>
   rw [hlk]
   have hed : EvA.d e = .agg [.int .i64 e.n,.osl e.c.b e.c.cap (mapD Id3.d e.c.xs),.slc (mapD Id3.d e.one)] := rfl
   simp +contextual only [↓u55_L10,↓u55_s9,↓u55_s8,mapD_len,g,hsd,hlt',keys_id (x := s.on),look_id (x := s.on),hlo,hed,h_miss,h_skip,n12,n1m1,n1m2,n1m3,n13,n2m1,n2m2,n2m3,n23,m12,m13,m1b,m23,m2b,m3b,↓u55_s0,↓u55_s1,↓u55_L2,↓u55_c3,↓u55_s4,↓u55_s5,↓u55_s6,↓u55_s7,↓u55_s8,↓u55_s9,↓u55_L10,↓u55_s11,↓u55_s12,↓u55_s13,↓u55_s14,↓u55_s15,↓u55_s16,↓u55_L17,↓u55_c18,↓u55_s19,↓u55_s20,↓u55_s21,↓u55_L22,↓u55_s23,↓u55_s24,↓u55_s25,↓u55_s26,↓u55_s27,↓XP,↓XU,XW0,XW1,qa,qb,qc,qd,qe,qf,reduceCtorEq,TYX,-u55_s7]
   intro b7 h7 b8 h8
   refine fin e.n e.c _ b7 b8 _ ?_ ?_ h7 h8 ?_
   ·rw [hlo]; rfl
   ·rw [hlo]; rfl
   ·exact ⟨rfl,rfl,rfl,rfl,rfl,rfl,rfl,rfl,rfl,trivial⟩
 ·have hin : i = b.sl.length := by omega
  subst hin
  rw [List.take_length] at hev
  simp +contextual only [x55,mapD_len,↓U55,↓XP,↓XU,XW0,XW1,qa,qb,qc,qd,qe,qf,reduceCtorEq,TYX]
  intros
  refine hE _ _ _ ?_
  have hsl := hb.sl
  exact hQ _ _ _ ⟨rfl,rfl,rfl,rfl,trivial⟩ ⟨hev.pool,hev.val,fun q hq=>by have := hev.sz q hq; omega⟩
end Go.Proofs.Ytffbjejmobhpkaa
end
