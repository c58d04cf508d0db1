/- A part of the proof of what the last text says: Gx4, Gx5, Gx6, Gx7, Gx8, Gx9, Gxa. Conditions: those in each theorem. -/
import Derived.Test.YtoeckfegggongaaGreatDoorV21
set_option linter.unusedVariables false
set_option linter.unusedSimpArgs false
set_option maxRecDepth 100000
set_option maxHeartbeats 16000000
open Nat renaming reduceSub → qa,reduceAdd → qb,reduceMul → qc,reduceEqDiff → qd,reduceLeDiff → qe,reduceBEq → qf
section
namespace Go.Proofs.YtoeckfegggongaaGreatDoor
open Go Go.Aw
theorem gY {b : List UInt8} {H : AH} {R : D → AH → Prop} (h : ∀ x k : Int,((qu b).2.2 = 0 → x = (qu b).1 ∧ k = ((qu b).2.1 : Int)) → R (.tup [.int .i64 x,.int .i64 k,.int .i64 (qu b).2.2]) H) : ACall Tryz.prog 80 [.slc (b.map qr),.int .i64 1] H R := by
 refine b80 fun hf=>?_
 have hbig := qt
 have hle := vJ (b := b)
 have hb := wz hf.1
 unfold qu at h
 simp +contextual only [x80,qh,↓U80,↓XP,qm,XW1,qa,qb,qc,qd,qe,qf,reduceCtorEq]
 refine z8 ?_
 generalize qA b = t at h hle ⊢
 obtain ⟨n,k,e⟩ := t
 dsimp only at h hle ⊢
 rcases Classical.em (e = 0) with c1 | c1
 ·subst c1
  rw [if_neg (by simp)] at h
  rcases Classical.em (n < 0) with c2 | c2
  ·rw [if_pos c2] at h
   simp +contextual only [x80,qh,eq_true c2,↓U80,↓XP,qm,XW1,qa,qb,qc,qd,qe,qf,reduceCtorEq]
   exact fun _ _ _=>h 0 0 (fun h=>by simp at h)
  ·rw [if_neg c2] at h
   rcases Classical.em ((b.length : Int) < n) with c3 | c3
   ·rw [if_pos (by omega)] at h
    simp +contextual only [x80,qh,eq_false c2,show (n > (b.length : Int)) = True from eq_true c3,eq_true c3,↓U80,↓XP,qm,XW1,qa,qb,qc,qd,qe,qf,reduceCtorEq]
    exact fun _ _ _ _=>h 0 0 (fun h=>by simp at h)
   ·have w1 : IntKind.i64.wrap (n * 1) = n := by rw [Int.mul_one]; exact qw (by omega) (by omega)
    have w2 : IntKind.i64.wrap ((b.length : Int) - k) = (b.length : Int) - k := qw (by omega) (by omega)
    rcases Classical.em ((b.length : Int) - k < n) with c4 | c4
    ·rw [if_pos c4] at h
     simp +contextual only [x80,qh,eq_false c2,show (n > (b.length : Int)) = False from eq_false c3,eq_false c3,w1,w2,show (n > (b.length : Int) - k) = True from eq_true c4,eq_true c4,↓U80,↓XP,qm,XW1,qa,qb,qc,qd,qe,qf,reduceCtorEq]
     exact fun _ _ _ _=>h 0 0 (fun h=>by simp at h)
    ·rw [if_neg c4] at h
     simp +contextual only [x80,qh,eq_false c2,show (n > (b.length : Int)) = False from eq_false c3,eq_false c3,w1,w2,show (n > (b.length : Int) - k) = False from eq_false c4,eq_false c4,↓U80,↓XP,qm,XW1,qa,qb,qc,qd,qe,qf,reduceCtorEq]
     exact fun _ _ _ _=>h n k (fun _=>⟨rfl,rfl⟩)
 ·rw [if_pos c1] at h
  simp +contextual only [x80,qh,eq_false c1,↓U80,↓XP,qm,XW1,qa,qb,qc,qd,qe,qf,reduceCtorEq]
  exact fun _ _ _=>h 0 0 (fun h=>(c1 h).elim)
theorem zh {b : List UInt8} {H : AH} {R : D → AH → Prop} (h : R (.tup [.str (qF b).1,.int .i64 ((qF b).2.1 : Int),.int .i64 (qF b).2.2]) H) : ACall Tryz.prog 70 [.slc (b.map qr)] H R := by
 refine b70 fun hf=>?_
 have hbig := qt
 have hle := vf (b := b)
 have hok := yY (b := b)
 unfold qF at h
 simp +contextual only [x70,qh,↓U70,↓XP,qm,XW1,qa,qb,qc,qd,qe,qf,reduceCtorEq]
 refine gY fun x k' hxk=>?_
 have hok2 : (qu b).2.2 = 0 → 0 ≤ (qu b).1 ∧ (qu b).1 + (qu b).2.1 ≤ b.length := fun h=>⟨(hok h).1,(hok h).2.1⟩
 clear hok
 generalize qu b = t at h hle hok2 hxk ⊢
 obtain ⟨n,k,e⟩ := t
 dsimp only at h hle hok2 hxk ⊢
 rcases Classical.em (e = 0) with c1 | c1
 ·subst c1
  obtain ⟨rfl,rfl⟩ := hxk rfl
  rw [if_pos rfl] at h
  obtain ⟨g1,g2⟩ := hok2 rfl
  have hb := wz hf.1
  obtain ⟨m,rfl⟩ := Int.eq_ofNat_of_zero_le g1
  have w1 : IntKind.i64.wrap ((k : Int) + (m : Int)) = ((k + m : Nat) : Int) := by rw [qw (by omega) (by omega)]; omega
  dsimp only at h
  rw [Int.toNat_natCast] at h
  simp +contextual only [x70,qh,w1,Qw,zG,↓U70,↓XP,qm,XW1,qa,qb,qc,qd,qe,qf,reduceCtorEq]
  refine fun _ _ _=>⟨qC,by omega,by omega,oB,fun _=>h⟩
 ·rw [if_neg c1] at h
  simp +contextual only [x70,qh,eq_false c1,↓U70,↓XP,qm,XW1,qa,qb,qc,qd,qe,qf,reduceCtorEq]
  exact fun _ _ _=>h
theorem Qg {b : List UInt8} {H : AH} {R : D → AH → Prop} (hB : b.length ≤ 1000000000) (h : R (.tup [.own (strs (jn b).1),.int .i64 ((jn b).2.1 : Int),.int .i64 (jn b).2.2]) H) : ACall Tryz.prog 81 [.slc (b.map qr)] H R := by
 refine b81 fun hf=>?_
 have hbig := qt
 have hle := vf (b := b)
 have hok := yY (b := b)
 have hb := wz hf.1
 have hfin := oh (f := qF) (b := b)
 have hk : ∀ t,jn b = t → R (.tup [.own (strs t.1),.int .i64 (t.2.1 : Int),.int .i64 t.2.2]) H := fun t ht=>by rw [← ht]; exact h
 clear h
 unfold jn at hk
 simp +contextual only [x81,qh,↓U81,↓XP,qm,XW1,qa,qb,qc,qd,qe,qf,reduceCtorEq]
 refine gY fun x k' hxk=>?_
 have hok2 : (qu b).2.2 = 0 → 0 ≤ (qu b).1 ∧ (qu b).1 + (qu b).2.1 ≤ b.length := fun h=>⟨(hok h).1,(hok h).2.1⟩
 have hbad : ¬ (qu b).2.2 = 0 → wP qF b = ([],0,(qu b).2.2) := fun h=>by unfold wP; rw [if_pos h]
 clear hok
 generalize qu b = t at hfin hle hok2 hbad hxk ⊢
 obtain ⟨n,k,e⟩ := t
 dsimp only at hfin hle hok2 hbad hxk ⊢
 rcases Classical.em (e = 0) with c1 | c1
 ·subst c1
  obtain ⟨rfl,rfl⟩ := hxk rfl
  obtain ⟨g1,g2⟩ := hok2 rfl
  replace hfin := hfin rfl
  obtain ⟨n,rfl⟩ := Int.eq_ofNat_of_zero_le g1
  rw [Int.toNat_natCast] at hfin
  simp +contextual only [x81,qh,↓U81,↓XP,qm,XW1,qa,qb,qc,qd,qe,qf,reduceCtorEq]
  refine fun _ _ _=>XW.loopK Go.Proofs.YtoeckfegggongaaGreatDoor.hm (fun F H'=>∃ (i a : Nat) (acc : List (List UInt8)),i ≤ n ∧ a ≤ b.length ∧ acc.length = i ∧ wP qF b = o4 acc a (uR qF (n - i) (b.drop a)) ∧ Fr 47 [(0,.slc (b.map qr)),(5,.int .i64 (n : Int)),(6,.int .i64 (a : Int)),(8,.own (strs acc)),(9,.int .i64 (i : Int))] F ∧ H = H') (fun F H=>match F.getD 9 .any with | .int _ n'=>n - n'.toNat | _=>0) ⟨0,k,[],by omega,by omega,rfl,hfin,⟨rfl,rfl,rfl,rfl,rfl,rfl,trivial⟩,rfl⟩ ?_
  rintro _ _ ⟨i,a,acc,hi,ha,hac,hfi,hF,rfl⟩ K hN hE hR
  obtain ⟨z,rfl⟩ : ∃ z : Nat → D,_ = .slc (b.map qr) :: zz z 1 4 (.int .i64 (n : Int) :: .int .i64 (a : Int) :: z 7 :: .own (strs acc) :: .int .i64 (i : Int) :: zz z 10 37 []) := hF.lit
  try dsimp only [zz,qb] at *
  clear hF
  have sl : (strs acc).length = acc.length := qJ
  have wa := qR (b := b) (a := a)
  rcases Classical.em (i < n) with hlt | hlt
  ·obtain ⟨m,hm⟩ : ∃ m,n - i = m + 1 := ⟨n - i - 1,by omega⟩
   rw [hm] at hfi
   have q1 := vQ (b := b.drop a)
   rw [List.length_drop] at q1
   have nx : (qF (b.drop a)).2.2 = 0 → ∀ F',Fr 47 [(0,.slc (b.map qr)),(5,.int .i64 (n : Int)),(6,.int .i64 ((a + (qF (b.drop a)).2.1 : Nat) : Int)),(8,.own (strs (acc ++ [(qF (b.drop a)).1]))),(9,.int .i64 ((i + 1 : Nat) : Int))] F' → K .normal F' H := fun he F' hF'=>hN _ _ ⟨i + 1,a + (qF (b.drop a)).2.1,acc ++ [(qF (b.drop a)).1],by omega,by omega,by simp; omega,by rw [hfi,oq he,show n - (i + 1) = m by omega],hF',(j9 rfl).symm⟩ (by
    rw [List.getD_eq_getElem?_getD,hF'.2.2.2.2.2.1]
    simp only [List.getD_cons_succ,List.getD_cons_zero,Option.getD_some]
    omega)
   have bad : ¬ (qF (b.drop a)).2.2 = 0 → R (.tup [.own (strs []),.int .i64 0,.int .i64 (qF (b.drop a)).2.2]) H := fun he=>hk ([],0,(qF (b.drop a)).2.2) (by rw [hfi,zO he])
   clear hN hE hk hfin hbad hfi
   simp +contextual only [x81,qh,hlt,Int.ofNat_lt,wa,↓U81,↓XP,qm,XW1,qa,qb,qc,qd,qe,qf,reduceCtorEq]
   refine ⟨qC,by omega,zh ?_⟩
   generalize qF (b.drop a) = t at q1 nx bad ⊢
   obtain ⟨s,k,e⟩ := t
   dsimp only at q1 nx bad ⊢
   rcases Classical.em (e = 0) with c2 | c2
   ·subst c2
    have w2 : IntKind.i64.wrap ((a : Int) + (k : Int)) = ((a + k : Nat) : Int) := by rw [qw (by omega) (by omega)]; omega
    simp +contextual only [x81,qh,w2,qp (show i ≤ big by omega),↓U81,↓XP,qm,XW1,qa,qb,qc,qd,qe,qf,reduceCtorEq]
    refine fun _ _ _=>⟨Q1,by omega,nx rfl _ ?_⟩
    rw [show strs (acc ++ [s]) = strs acc ++ [[.str s]] by simp [strs]]
    exact ⟨rfl,rfl,rfl,rfl,rfl,rfl,trivial⟩
   ·simp +contextual only [x81,qh,eq_false c2,↓U81,↓XP,qm,XW1,qa,qb,qc,qd,qe,qf,reduceCtorEq]
    refine fun _ _ _=>hR _ _ ?_
    simp +contextual only [x81,qh,↓U81,↓XP,qm,XW1,qa,qb,qc,qd,qe,qf,reduceCtorEq]
    exact bad c2
  ·have hik : i = n := by omega
   subst hik
   clear hN
   rw [Nat.sub_self,zS] at hfi
   simp +contextual only [x81,qh,hlt,↓U81,↓XP,qm,XW1,qa,qb,qc,qd,qe,qf,reduceCtorEq]
   refine hE _ _ _ ?_
   simp +contextual only [x81,qh,↓U81,↓XP,qm,XW1,qa,qb,qc,qd,qe,qf,reduceCtorEq]
   exact hk _ hfi
 ·simp +contextual only [x81,qh,eq_false c1,↓U81,↓XP,qm,XW1,qa,qb,qc,qd,qe,qf,reduceCtorEq]
  exact fun _ _ _=>hk _ (hbad c1)
theorem vK {b : List UInt8} {H : AH} {R : D → AH → Prop} (hB : b.length ≤ 1000000000) (h : R (.tup [.own (ints (qG b).1),.int .i64 ((qG b).2.1 : Int),.int .i64 (qG b).2.2]) H) : ACall Tryz.prog 67 [.slc (b.map qr)] H R := by
 refine b67 fun hf=>?_
 have hbig := qt
 have hle := vf (b := b)
 have hok := yY (b := b)
 have hb := wz hf.1
 have hfin := oh (f := qA) (b := b)
 have hk : ∀ t,qG b = t → R (.tup [.own (ints t.1),.int .i64 (t.2.1 : Int),.int .i64 t.2.2]) H := fun t ht=>by rw [← ht]; exact h
 clear h
 unfold qG at hk
 simp +contextual only [x67,qh,↓U67,↓XP,qm,XW1,qa,qb,qc,qd,qe,qf,reduceCtorEq]
 refine gY fun x k' hxk=>?_
 have hok2 : (qu b).2.2 = 0 → 0 ≤ (qu b).1 ∧ (qu b).1 + (qu b).2.1 ≤ b.length := fun h=>⟨(hok h).1,(hok h).2.1⟩
 have hbad : ¬ (qu b).2.2 = 0 → wP qA b = ([],0,(qu b).2.2) := fun h=>by unfold wP; rw [if_pos h]
 clear hok
 generalize qu b = t at hfin hle hok2 hbad hxk ⊢
 obtain ⟨n,k,e⟩ := t
 dsimp only at hfin hle hok2 hbad hxk ⊢
 rcases Classical.em (e = 0) with c1 | c1
 ·subst c1
  obtain ⟨rfl,rfl⟩ := hxk rfl
  obtain ⟨g1,g2⟩ := hok2 rfl
  replace hfin := hfin rfl
  obtain ⟨n,rfl⟩ := Int.eq_ofNat_of_zero_le g1
  rw [Int.toNat_natCast] at hfin
  simp +contextual only [x67,qh,↓U67,↓XP,qm,XW1,qa,qb,qc,qd,qe,qf,reduceCtorEq]
  refine fun _ _ _=>XW.loopK Go.Proofs.YtoeckfegggongaaGreatDoor.hm (fun F H'=>∃ (i a : Nat) (acc : List Int),i ≤ n ∧ a ≤ b.length ∧ acc.length = i ∧ wP qA b = o4 acc a (uR qA (n - i) (b.drop a)) ∧ Fr 47 [(0,.slc (b.map qr)),(5,.int .i64 (n : Int)),(6,.int .i64 (a : Int)),(8,.own (ints acc)),(9,.int .i64 (i : Int))] F ∧ H = H') (fun F H=>match F.getD 9 .any with | .int _ n'=>n - n'.toNat | _=>0) ⟨0,k,[],by omega,by omega,rfl,hfin,⟨rfl,rfl,rfl,rfl,rfl,rfl,trivial⟩,rfl⟩ ?_
  rintro _ _ ⟨i,a,acc,hi,ha,hac,hfi,hF,rfl⟩ K hN hE hR
  obtain ⟨z,rfl⟩ : ∃ z : Nat → D,_ = .slc (b.map qr) :: zz z 1 4 (.int .i64 (n : Int) :: .int .i64 (a : Int) :: z 7 :: .own (ints acc) :: .int .i64 (i : Int) :: zz z 10 37 []) := hF.lit
  try dsimp only [zz,qb] at *
  clear hF
  have sl : (ints acc).length = acc.length := qn
  have wa := qR (b := b) (a := a)
  rcases Classical.em (i < n) with hlt | hlt
  ·obtain ⟨m,hm⟩ : ∃ m,n - i = m + 1 := ⟨n - i - 1,by omega⟩
   rw [hm] at hfi
   have q1 := vJ (b := b.drop a)
   rw [List.length_drop] at q1
   have nx : (qA (b.drop a)).2.2 = 0 → ∀ F',Fr 47 [(0,.slc (b.map qr)),(5,.int .i64 (n : Int)),(6,.int .i64 ((a + (qA (b.drop a)).2.1 : Nat) : Int)),(8,.own (ints (acc ++ [(qA (b.drop a)).1]))),(9,.int .i64 ((i + 1 : Nat) : Int))] F' → K .normal F' H := fun he F' hF'=>hN _ _ ⟨i + 1,a + (qA (b.drop a)).2.1,acc ++ [(qA (b.drop a)).1],by omega,by omega,by simp; omega,by rw [hfi,oq he,show n - (i + 1) = m by omega],hF',(j9 rfl).symm⟩ (by
    rw [List.getD_eq_getElem?_getD,hF'.2.2.2.2.2.1]
    simp only [List.getD_cons_succ,List.getD_cons_zero,Option.getD_some]
    omega)
   have bad : ¬ (qA (b.drop a)).2.2 = 0 → R (.tup [.own (ints []),.int .i64 0,.int .i64 (qA (b.drop a)).2.2]) H := fun he=>hk ([],0,(qA (b.drop a)).2.2) (by rw [hfi,zO he])
   clear hN hE hk hfin hbad hfi
   simp +contextual only [x67,qh,hlt,Int.ofNat_lt,wa,↓U67,↓XP,qm,XW1,qa,qb,qc,qd,qe,qf,reduceCtorEq]
   refine ⟨qC,by omega,z8 ?_⟩
   generalize qA (b.drop a) = t at q1 nx bad ⊢
   obtain ⟨s,k,e⟩ := t
   dsimp only at q1 nx bad ⊢
   rcases Classical.em (e = 0) with c2 | c2
   ·subst c2
    have w2 : IntKind.i64.wrap ((a : Int) + (k : Int)) = ((a + k : Nat) : Int) := by rw [qw (by omega) (by omega)]; omega
    simp +contextual only [x67,qh,w2,qp (show i ≤ big by omega),↓U67,↓XP,qm,XW1,qa,qb,qc,qd,qe,qf,reduceCtorEq]
    refine fun _ _ _=>⟨wb,by omega,nx rfl _ ?_⟩
    rw [show ints (acc ++ [s]) = ints acc ++ [[.int .i64 s]] by simp [ints]]
    exact ⟨rfl,rfl,rfl,rfl,rfl,rfl,trivial⟩
   ·simp +contextual only [x67,qh,eq_false c2,↓U67,↓XP,qm,XW1,qa,qb,qc,qd,qe,qf,reduceCtorEq]
    refine fun _ _ _=>hR _ _ ?_
    simp +contextual only [x67,qh,↓U67,↓XP,qm,XW1,qa,qb,qc,qd,qe,qf,reduceCtorEq]
    exact bad c2
  ·have hik : i = n := by omega
   subst hik
   clear hN
   rw [Nat.sub_self,zS] at hfi
   simp +contextual only [x67,qh,hlt,↓U67,↓XP,qm,XW1,qa,qb,qc,qd,qe,qf,reduceCtorEq]
   refine hE _ _ _ ?_
   simp +contextual only [x67,qh,↓U67,↓XP,qm,XW1,qa,qb,qc,qd,qe,qf,reduceCtorEq]
   exact hk _ hfi
 ·simp +contextual only [x67,qh,eq_false c1,↓U67,↓XP,qm,XW1,qa,qb,qc,qd,qe,qf,reduceCtorEq]
  exact fun _ _ _=>hk _ (hbad c1)
end Go.Proofs.YtoeckfegggongaaGreatDoor
end
section
namespace Go.Proofs.YtoeckfegggongaaGreatDoor
open Go Go.Aw
def Wg (b : List UInt8) (l : List Int) (n : Nat) (ids : List Int) (m : Nat) : OpP × Int :=
 if (jn (b.drop (n + m))).2.2 ≠ 0 ∨ (jn (b.drop (n + m))).1.length ≠ 2 then (op0,-1)
 else (opOf l (triples ids) ((jn (b.drop (n + m))).1.getD 0 []) ((jn (b.drop (n + m))).1.getD 1 []),((n + m + (jn (b.drop (n + m))).2.1 : Nat) : Int))
def WB (b : List UInt8) (l : List Int) (n : Nat) : OpP × Int :=
 if (qG (b.drop n)).2.2 ≠ 0 ∨ (qG (b.drop n)).1.length % 3 ≠ 0 then (op0,-1) else Wg b l n (qG (b.drop n)).1 (qG (b.drop n)).2.1
def oE (b : List UInt8) : OpP × Int :=
 if (qG b).2.2 ≠ 0 ∨ (qG b).1.length ≠ 10 then (op0,-1) else WB b (qG b).1 (qG b).2.1
theorem r_ol {ids : List Int} {a0 a1 a2 a3 a4 a5 a6 a7 a8 a9 : Int} {s0 s1 : List UInt8} {d5 d8 d11 : D} {o2 : AO} {b2 b4 : Nat} {H : AH} {Q : AQ} {F : List D} (n24 : b2 ≠ b4) (n4 : qK H b4 = none) (hl : ids.length ≤ 1000000000) (h3 : ids.length % 3 = 0) {j : Nat} (hj : j = 0) (hF : Fr 137 [(2,.ptr b2 0),(5,d5),(7,.slc (ints ids)),(8,d8),(11,d11),(13,.ptr b4 0),(14,.int .i64 ((3 * j : Nat) : Int))] F)
  (hE : ∀ F',Fr 137 [(2,.ptr b2 0),(5,d5),(8,d8),(11,d11),(13,.ptr b4 0)] F' → ∀ j,j = ids.length / 3 → Q (.exit 0) F' ((b4,AO.cells [.int .i64 a0,.int .i64 a1,.int .i64 a2,.int .i64 a3,.int .i64 a4,.int .i64 a5,.int .i64 a6,.own (qV ((List.range j).map (triple ids))),.int .i64 a7,.str s0,.str s1,.int .i64 a8,.int .i64 a9]) :: (b2,o2) :: H)) : XW Tryz.prog x69_L5 F ((b4,AO.cells [.int .i64 a0,.int .i64 a1,.int .i64 a2,.int .i64 a3,.int .i64 a4,.int .i64 a5,.int .i64 a6,.own (qV ((List.range j).map (triple ids))),.int .i64 a7,.str s0,.str s1,.int .i64 a8,.int .i64 a9]) :: (b2,o2) :: H) Q := by
 have hbig := qt
 refine XW.loopK hm (fun F H'=>∃ (j : Nat),j ≤ ids.length / 3 ∧ Fr 137 [(2,.ptr b2 0),(5,d5),(7,.slc (ints ids)),(8,d8),(11,d11),(13,.ptr b4 0),(14,.int .i64 ((3 * j : Nat) : Int))] F ∧ ((b4,AO.cells [.int .i64 a0,.int .i64 a1,.int .i64 a2,.int .i64 a3,.int .i64 a4,.int .i64 a5,.int .i64 a6,.own (qV ((List.range j).map (triple ids))),.int .i64 a7,.str s0,.str s1,.int .i64 a8,.int .i64 a9]) :: (b2,o2) :: H) = H') (fun F H=>match F.getD 14 .any with | .int _ n'=>ids.length - n'.toNat | _=>0) ⟨j,by omega,hF,rfl⟩ ?_
 clear hF hj j
 rintro _ _ ⟨j,hj,hF,rfl⟩ K hN hE' hR
 obtain ⟨z,rfl⟩ : ∃ z : Nat → D,_ = zz z 0 2 (.ptr b2 0 :: zz z 3 2 (d5 :: z 6 :: .slc (ints ids) :: d8 :: zz z 9 2 (d11 :: z 12 :: .ptr b4 0 :: .int .i64 ((3 * j : Nat) : Int) :: zz z 15 122 []))) := hF.lit
 try dsimp only [zz,qb] at *
 clear hF hR
 have w2 : IntKind.i64.wrap (((3 * j : Nat) : Int) + 2) = ((3 * j + 2 : Nat) : Int) := by rw [qw (by omega) (by omega)]; omega
 have w1 : IntKind.i64.wrap (((3 * j : Nat) : Int) + 1) = ((3 * j + 1 : Nat) : Int) := by rw [qw (by omega) (by omega)]; omega
 have w3 : IntKind.i64.wrap (((3 * j : Nat) : Int) + 3) = ((3 * (j + 1) : Nat) : Int) := by rw [qw (by omega) (by omega)]; omega
 by_cases hlt : j < ids.length / 3
 ·have nx : ∀ F',Fr 137 [(2,.ptr b2 0),(5,d5),(7,.slc (ints ids)),(8,d8),(11,d11),(13,.ptr b4 0),(14,.int .i64 ((3 * (j + 1) : Nat) : Int))] F' → ∀ j',j' = j + 1 → K .normal F' ((b4,AO.cells [.int .i64 a0,.int .i64 a1,.int .i64 a2,.int .i64 a3,.int .i64 a4,.int .i64 a5,.int .i64 a6,.own (qV ((List.range j').map (triple ids))),.int .i64 a7,.str s0,.str s1,.int .i64 a8,.int .i64 a9]) :: (b2,o2) :: H) := fun F' hF' j' hj'=>hN _ _ ⟨j + 1,by omega,hF',by rw [hj']; exact (j9 rfl).symm⟩ (by
   rw [List.getD_eq_getElem?_getD,hF'.2.2.2.2.2.2.2.1]
   simp only [List.getD_cons_succ,List.getD_cons_zero,Option.getD_some]
   omega)
  clear hN hE hE'
  have g0 := yP (l := ids) (i := 3 * j) (by omega)
  have g1 := yP (l := ids) (i := 3 * j + 1) (by omega)
  have g2 := yP (l := ids) (i := 3 * j + 2) (by omega)
  have il : (qV ((List.range j).map (triple ids))).length = j := by simp [qV]
  simp +contextual only [KB,qh,qn,qg,qi,n24,w1,w2,g0,g1,g2,il,show ((3 * j + 2 : Nat) : Int) < (ids.length : Int) from by omega,show ((3 * j + 1 : Nat) : Int) < (ids.length : Int) from by omega,show ((3 * j : Nat) : Int) < (ids.length : Int) from by omega,↓YQ,↓XP,qm,XW1,qa,qb,qc,qd,qe,qf,reduceCtorEq]
  intro _
  refine ⟨by rw [qg (Ne.symm n24)]; exact n4,fun _ _ _=>⟨K3,by omega,by omega,?_⟩⟩
  rw [w3,show qV ((List.range j).map (triple ids)) ++ [[.int .i64 (ids.getD (3 * j) 0),.int .i64 (ids.getD (3 * j + 1) 0),.int .i64 (ids.getD (3 * j + 2) 0)]] = qV ((List.range (j + 1)).map (triple ids)) by
   rw [List.range_succ,List.map_append,← zT]; rfl]
  refine nx _ ?_ _ rfl
  exact ⟨rfl,rfl,rfl,rfl,rfl,rfl,rfl,rfl,trivial⟩
 ·have hik : j = ids.length / 3 := by omega
  clear hN
  simp +contextual only [KB,qh,qn,qg,qi,w2,show (((3 * j + 2 : Nat) : Int) < (ids.length : Int)) = False from eq_false (by omega),↓YQ,↓XP,qm,XW1,qa,qb,qc,qd,qe,qf,reduceCtorEq]
  intro _
  refine hE' _ _ _ (hE _ ?_ _ hik)
  exact ⟨rfl,rfl,rfl,rfl,rfl,rfl,trivial⟩
theorem f_opR {b : List UInt8} {H : AH} {R : D → AH → Prop} (hB : b.length ≤ 1000000000) (h : R (.tup [.agg (oE b).1.d,.int .i64 (oE b).2]) H) : ACall Tryz.prog 69 [.slc (b.map qr)] H R := by
 refine b69 fun hf=>?_
 have hbig := qt
 have hk : ∀ t,oE b = t → R (.tup [.agg t.1.d,.int .i64 t.2]) H := fun t ht=>by rw [← ht]; exact h
 clear h
 unfold oE at hk
 have hz : op0.d = [.int .i64 0,.int .i64 0,.int .i64 0,.int .i64 0,.int .i64 0,.int .i64 0,.int .i64 0,.slc [],.int .i64 0,.str [],.str [],.int .i64 0,.int .i64 0] := rfl
 simp +contextual only [KB,qh,qn,qg,qi,↓YQ,↓XP,qm,XW1,qa,qb,qc,qd,qe,qf,reduceCtorEq]
 intro b2 h2
 refine vK hB ?_
 have q1 := ints_le (b := b)
 generalize qG b = t at hk q1 ⊢
 obtain ⟨l,n,e⟩ := t
 dsimp only at hk q1 ⊢
 have zo : R (.tup [.agg op0.d,.int .i64 (-1)]) H ∨ True := .inr trivial
 rcases Classical.em (e = 0 ∧ l.length = 10) with hc | hc
 ·obtain ⟨rfl,hl⟩ := hc
  have hk2 : ∀ t,WB b l n = t → R (.tup [.agg t.1.d,.int .i64 t.2]) H := fun t ht=>hk t (by rw [if_neg (by simp [hl])]; exact ht)
  clear hk
  unfold WB at hk2
  simp +contextual only [KB,qh,qn,qg,qi,hl,show ((10 : Nat) : Int) = 10 from rfl,↓YQ,↓XP,qm,XW1,qa,qb,qc,qd,qe,qf,reduceCtorEq]
  refine fun _ _ _=>⟨qC,by omega,?_⟩
  rw [qR]
  refine vK (by simp; omega) ?_
  have q2 := ints_le (b := b.drop n)
  rw [List.length_drop] at q2
  generalize qG (b.drop n) = t at hk2 q2 ⊢
  obtain ⟨ids,m,e⟩ := t
  dsimp only at hk2 q2 ⊢
  rcases Classical.em (e = 0 ∧ ids.length % 3 = 0) with hc | hc
  ·obtain ⟨rfl,hi3⟩ := hc
   have hk3 : ∀ t,Wg b l n ids m = t → R (.tup [.agg t.1.d,.int .i64 t.2]) H := fun t ht=>hk2 t (by rw [if_neg (by simp [hi3])]; exact ht)
   clear hk2
   unfold Wg at hk3
   have w3 : ((ids.length : Int).tmod 3 = 0) = True := eq_true (by rw [Int.tmod_eq_emod_of_nonneg (by omega)]; omega)
   have wn : IntKind.i64.wrap ((n : Int) + (m : Int)) = ((n + m : Nat) : Int) := by rw [qw (by omega) (by omega)]; omega
   simp +contextual only [KB,qh,qn,qg,qi,w3,wn,↓YQ,↓XP,qm,XW1,qa,qb,qc,qd,qe,qf,reduceCtorEq]
   refine fun _ _ _=>⟨by decide,qC,by omega,?_⟩
   rw [qR]
   refine Qg (by simp; omega) ?_
   have q3 := strs_le (b := b.drop (n + m))
   rw [List.length_drop] at q3
   generalize jn (b.drop (n + m)) = t at hk3 q3 ⊢
   obtain ⟨s,k,e⟩ := t
   dsimp only at hk3 q3 ⊢
   have sl : (strs s).length = s.length := qJ
   rcases Classical.em (e = 0 ∧ s.length = 2) with hc | hc
   ·obtain ⟨rfl,hs⟩ := hc
    have hk4 := hk3 _ (if_neg (by simp [hs]))
    clear hk3
    dsimp only at hk4
    obtain ⟨a0,a1,a2,a3,a4,a5,a6,a7,a8,a9,rfl⟩ := JY hl
    obtain ⟨xs,hxs,hx10,x0,x1,x2,x3,x4,x5,x6,x7,x8,x9⟩ : ∃ xs,ints [a0,a1,a2,a3,a4,a5,a6,a7,a8,a9] = xs ∧ xs.length = 10 ∧ xs.getD 0 [] = [.int .i64 a0] ∧ xs.getD 1 [] = [.int .i64 a1] ∧ xs.getD 2 [] = [.int .i64 a2] ∧ xs.getD 3 [] = [.int .i64 a3] ∧ xs.getD 4 [] = [.int .i64 a4] ∧ xs.getD 5 [] = [.int .i64 a5] ∧ xs.getD 6 [] = [.int .i64 a6] ∧ xs.getD 7 [] = [.int .i64 a7] ∧ xs.getD 8 [] = [.int .i64 a8] ∧ xs.getD 9 [] = [.int .i64 a9] := ⟨_,rfl,rfl,rfl,rfl,rfl,rfl,rfl,rfl,rfl,rfl,rfl,rfl⟩
    obtain ⟨s0,s1,rfl⟩ : ∃ s0 s1,s = [s0,s1] := by
     match s,hs with
     | [s0,s1],_=>exact ⟨s0,s1,rfl⟩
    obtain ⟨ys,hys,hy2,y0,y1⟩ : ∃ ys,strs [s0,s1] = ys ∧ ys.length = 2 ∧ ys.getD 0 [] = [.str s0] ∧ ys.getD 1 [] = [.str s1] := ⟨_,rfl,rfl,rfl,rfl⟩
    rw [hxs,hys]
    simp +contextual only [KB,qh,qn,qg,qi,hx10,x0,x1,x2,x3,x4,x5,x6,x7,x8,x9,hy2,y0,y1,show ((10 : Nat) : Int) = 10 from rfl,show ((2 : Nat) : Int) = 2 from rfl,Int.reduceToNat,Int.reduceLE,Int.reduceLT,kO,kP,kS,↓YQ,↓XP,qm,XW1,qa,qb,qc,qd,qe,qf,reduceCtorEq]
    intro _ _ _ _ _ _ _ _ _ _ _ _ _ _ _ b4 hh
    obtain ⟨n24,h4⟩ := hh
    rw [uG]
    refine Gz.take (j := 7) rfl (fun h=>(h rfl).elim) ?_
    simp only [jr,if_true]
    simp +contextual only [KB,qh,qn,qg,qi,n24,↓YQ,↓XP,qm,XW1,qa,qb,qc,qd,qe,qf,reduceCtorEq]
    have wk : IntKind.i64.wrap (((n + m : Nat) : Int) + (k : Int)) = ((n + m + k : Nat) : Int) := by rw [qw (by omega) (by omega)]; omega
    refine r_ol (ids := ids) (b2 := b2) (b4 := b4) (j := 0) n24 (jh h4) (by omega) hi3 rfl ⟨rfl,rfl,rfl,rfl,rfl,rfl,rfl,rfl,trivial⟩ (fun F' hF' j hj=>?_)
    obtain ⟨z,rfl⟩ : ∃ z : Nat → D,_ = zz z 0 2 (.ptr b2 0 :: zz z 3 2 (.int .i64 n :: zz z 6 2 (.int .i64 m :: zz z 9 2 (.int .i64 k :: z 12 :: .ptr b4 0 :: zz z 14 123 [])))) := hF'.lit
    try dsimp only [zz,qb] at *
    clear hF'
    rw [hj]
    simp +contextual only [KB,qh,qn,qg,qi,n24,wn,wk,↓YQ,↓XP,qm,XW1,qa,qb,qc,qd,qe,qf,reduceCtorEq]
    exact hk4
   ·have r0 := hk3 (op0,-1) (if_pos (by
     rcases Classical.em (e = 0) with h1 | h1
     ·exact .inr (fun h2=>hc ⟨h1,h2⟩)
     ·exact .inl h1))
    dsimp only at r0
    rw [hz] at r0
    rcases Classical.em (e = 0) with h1 | h1
    ·have h2 : ¬ ((s.length : Int) = 2) := fun h2=>hc ⟨h1,by omega⟩
     simp +contextual only [KB,qh,qn,qg,qi,sl,eq_true h1,eq_false h2,↓YQ,↓XP,qm,XW1,qa,qb,qc,qd,qe,qf,reduceCtorEq]
     exact fun _ _ _=>r0
    ·simp +contextual only [KB,qh,qn,qg,qi,sl,eq_false h1,↓YQ,↓XP,qm,XW1,qa,qb,qc,qd,qe,qf,reduceCtorEq]
     exact fun _ _ _=>r0
  ·have r0 := hk2 (op0,-1) (if_pos (by
    rcases Classical.em (e = 0) with h1 | h1
    ·exact .inr (fun h2=>hc ⟨h1,h2⟩)
    ·exact .inl h1))
   dsimp only at r0
   rw [hz] at r0
   rcases Classical.em (e = 0) with h1 | h1
   ·have h2 : ¬ ((ids.length : Int).tmod 3 = 0) := fun h2=>hc ⟨h1,by rw [Int.tmod_eq_emod_of_nonneg (by omega)] at h2; omega⟩
    simp +contextual only [KB,qh,qn,qg,qi,eq_true h1,eq_false h2,↓YQ,↓XP,qm,XW1,qa,qb,qc,qd,qe,qf,reduceCtorEq]
    exact fun _ _ _=>⟨by decide,r0⟩
   ·simp +contextual only [KB,qh,qn,qg,qi,eq_false h1,↓YQ,↓XP,qm,XW1,qa,qb,qc,qd,qe,qf,reduceCtorEq]
    exact fun _ _ _=>r0
 ·have r0 := hk (op0,-1) (if_pos (by
   rcases Classical.em (e = 0) with h1 | h1
   ·exact .inr (fun h2=>hc ⟨h1,h2⟩)
   ·exact .inl h1))
  dsimp only at r0
  rw [hz] at r0
  rcases Classical.em (e = 0) with h1 | h1
  ·have h2 : ¬ ((l.length : Int) = 10) := fun h2=>hc ⟨h1,by omega⟩
   simp +contextual only [KB,qh,qn,qg,qi,eq_true h1,eq_false h2,↓YQ,↓XP,qm,XW1,qa,qb,qc,qd,qe,qf,reduceCtorEq]
   exact fun _ _ _=>r0
  ·simp +contextual only [KB,qh,qn,qg,qi,eq_false h1,↓YQ,↓XP,qm,XW1,qa,qb,qc,qd,qe,qf,reduceCtorEq]
   exact fun _ _ _=>r0
end Go.Proofs.YtoeckfegggongaaGreatDoor
end
section
namespace Go.Proofs.YtoeckfegggongaaGreatDoor
open Go Go.Aw
theorem opR_le {b : List UInt8} : (oE b).2 = -1 ∨ 0 ≤ (oE b).2 ∧ (oE b).2 ≤ b.length := by
 unfold oE
 split
 ·exact .inl rfl
 unfold WB
 split
 ·exact .inl rfl
 unfold Wg
 split
 ·exact .inl rfl
 have q1 := ints_le (b := b)
 have q2 := ints_le (b := b.drop (qG b).2.1)
 have q3 := strs_le (b := b.drop ((qG b).2.1 + (qG (b.drop (qG b).2.1)).2.1))
 rw [List.length_drop] at q2 q3
 refine .inr ⟨by simp only; omega,by simp only; omega⟩
def y6 : Nat → List UInt8 → Option (List OpP × Nat)
 | 0,_=>some ([],0)
 | c + 1,b=>if (oE b).2 < 0 then none else match y6 c (b.drop (oE b).2.toNat) with
  | none=>none
  | some (l,k)=>some ((oE b).1 :: l,(oE b).2.toNat + k)
def uZ (acc : List OpP) (a : Nat) : Option (List OpP × Nat) → Option (List OpP × Nat)
 | none=>none
 | some (l,k)=>some (acc ++ l,a + k)
theorem Um {acc : List OpP} {a m : Nat} {b : List UInt8} (h : (oE (b.drop a)).2 < 0) : uZ acc a (y6 (m + 1) (b.drop a)) = none := by
 rw [y6,if_pos h]
 rfl
theorem Wt {acc : List OpP} {a m k : Nat} {b : List UInt8} (h : (oE (b.drop a)).2 = (k : Int)) : uZ acc a (y6 (m + 1) (b.drop a)) = uZ (acc ++ [(oE (b.drop a)).1]) (a + k) (y6 m (b.drop (a + k))) := by
 rw [y6,h,if_neg (by omega),Int.toNat_natCast,List.drop_drop]
 cases y6 m (b.drop (a + k)) with
 | none=>rfl
 | some t=>simp [uZ,Nat.add_assoc]
theorem VS {acc : List OpP} {a : Nat} {b : List UInt8} : uZ acc a (y6 0 (b.drop a)) = some (acc,a) := by simp [uZ,y6]
def rdR4 (b : List UInt8) (l needs : List Int) (ops : List OpP) (at' : Nat) : Pt × Bool :=
 (⟨l.getD 0 0,l.getD 1 0,l.getD 2 0,pairs needs,ops,(qF (b.drop at')).1⟩,decide ((qF (b.drop at')).2.2 = 0) && decide (at' + (qF (b.drop at')).2.1 = b.length))
def U3 (b : List UInt8) (l needs : List Int) (at' : Nat) (many : Nat) : Pt × Bool :=
 match uZ [] at' (y6 many (b.drop at')) with
 | none=>(pt0,false)
 | some (ops,a)=>rdR4 b l needs ops a
def Vd (b : List UInt8) (l needs : List Int) (at' : Nat) : Pt × Bool :=
 if (qA (b.drop at')).2.2 ≠ 0 ∨ (qA (b.drop at')).1 < 0 ∨ 16 < (qA (b.drop at')).1 then (pt0,false) else U3 b l needs (at' + (qA (b.drop at')).2.1) (qA (b.drop at')).1.toNat
def WU (b : List UInt8) (l : List Int) (at' : Nat) : Pt × Bool :=
 if (qG (b.drop at')).2.2 ≠ 0 ∨ (qG (b.drop at')).1.length % 2 ≠ 0 then (pt0,false) else Vd b l (qG (b.drop at')).1 (at' + (qG (b.drop at')).2.1)
def W8 (b : List UInt8) : Pt × Bool :=
 if (qG b).2.2 ≠ 0 ∨ (qG b).1.length ≠ 3 then (pt0,false) else WU b (qG b).1 (qG b).2.1
theorem r_nl {b : List UInt8} {needs : List Int} {a0 a1 a2 : Int} {d5 d9 : D} {o2 : AO} {b2 b7 : Nat} {H : AH} {Q : AQ} {F : List D} (n27 : b2 ≠ b7) (n7 : qK H b7 = none) (hl : needs.length ≤ 1000000000) (h3 : needs.length % 2 = 0) {j : Nat} (hj : j = 0) (hF : Fr 153 [(0,.slc (b.map qr)),(2,.ptr b2 0),(5,d5),(7,.ptr b7 0),(8,.slc (ints needs)),(9,d9),(11,.int .i64 ((2 * j : Nat) : Int))] F)
  (hE : ∀ F',Fr 153 [(0,.slc (b.map qr)),(2,.ptr b2 0),(5,d5),(7,.ptr b7 0),(9,d9)] F' → ∀ j,j = needs.length / 2 → Q (.exit 0) F' ((b7,AO.cells [.int .i64 a0,.int .i64 a1,.int .i64 a2,.own (qO ((List.range j).map (pair needs))),.own [],.str []]) :: (b2,o2) :: H)) : XW Tryz.prog x40_L4 F ((b7,AO.cells [.int .i64 a0,.int .i64 a1,.int .i64 a2,.own (qO ((List.range j).map (pair needs))),.own [],.str []]) :: (b2,o2) :: H) Q := by
 have hbig := qt
 refine XW.loopK hm (fun F H'=>∃ (j : Nat),j ≤ needs.length / 2 ∧ Fr 153 [(0,.slc (b.map qr)),(2,.ptr b2 0),(5,d5),(7,.ptr b7 0),(8,.slc (ints needs)),(9,d9),(11,.int .i64 ((2 * j : Nat) : Int))] F ∧ ((b7,AO.cells [.int .i64 a0,.int .i64 a1,.int .i64 a2,.own (qO ((List.range j).map (pair needs))),.own [],.str []]) :: (b2,o2) :: H) = H') (fun F H=>match F.getD 11 .any with | .int _ n'=>needs.length - n'.toNat | _=>0) ⟨j,by omega,hF,rfl⟩ ?_
 clear hF hj j
 rintro _ _ ⟨j,hj,hF,rfl⟩ K hN hE' hR
 obtain ⟨z,rfl⟩ : ∃ z : Nat → D,_ = .slc (b.map qr) :: z 1 :: .ptr b2 0 :: zz z 3 2 (d5 :: z 6 :: .ptr b7 0 :: .slc (ints needs) :: d9 :: z 10 :: .int .i64 ((2 * j : Nat) : Int) :: zz z 12 141 []) := hF.lit
 try dsimp only [zz,qb] at *
 clear hF hR
 have w1 : IntKind.i64.wrap (((2 * j : Nat) : Int) + 1) = ((2 * j + 1 : Nat) : Int) := by rw [qw (by omega) (by omega)]; omega
 have w3 : IntKind.i64.wrap (((2 * j : Nat) : Int) + 2) = ((2 * (j + 1) : Nat) : Int) := by rw [qw (by omega) (by omega)]; omega
 by_cases hlt : j < needs.length / 2
 ·have nx : ∀ F',Fr 153 [(0,.slc (b.map qr)),(2,.ptr b2 0),(5,d5),(7,.ptr b7 0),(8,.slc (ints needs)),(9,d9),(11,.int .i64 ((2 * (j + 1) : Nat) : Int))] F' → ∀ j',j' = j + 1 → K .normal F' ((b7,AO.cells [.int .i64 a0,.int .i64 a1,.int .i64 a2,.own (qO ((List.range j').map (pair needs))),.own [],.str []]) :: (b2,o2) :: H) := fun F' hF' j' hj'=>hN _ _ ⟨j + 1,by omega,hF',by rw [hj']; exact (j9 rfl).symm⟩ (by
   rw [List.getD_eq_getElem?_getD,hF'.2.2.2.2.2.2.2.1]
   simp only [List.getD_cons_succ,List.getD_cons_zero,Option.getD_some]
   omega)
  clear hN hE hE'
  have g0 := yP (l := needs) (i := 2 * j) (by omega)
  have g1 := yP (l := needs) (i := 2 * j + 1) (by omega)
  have il : (qO ((List.range j).map (pair needs))).length = j := by simp [qO]
  simp +contextual only [zX,qh,qn,qg,qi,n27,w1,g0,g1,il,show ((2 * j + 1 : Nat) : Int) < (needs.length : Int) from by omega,show ((2 * j : Nat) : Int) < (needs.length : Int) from by omega,↓gA,↓XP,qm,XW1,qa,qb,qc,qd,qe,qf,reduceCtorEq]
  intro _
  refine ⟨by rw [qg (Ne.symm n27)]; exact n7,fun _ _=>⟨uD,by omega,by omega,?_⟩⟩
  rw [w3,show qO ((List.range j).map (pair needs)) ++ [[.int .i64 (needs.getD (2 * j) 0),.int .i64 (needs.getD (2 * j + 1) 0)]] = qO ((List.range (j + 1)).map (pair needs)) by
   rw [List.range_succ,List.map_append,← gC]; rfl]
  refine nx _ ?_ _ rfl
  exact ⟨rfl,rfl,rfl,rfl,rfl,rfl,rfl,rfl,trivial⟩
 ·have hik : j = needs.length / 2 := by omega
  clear hN
  simp +contextual only [zX,qh,qn,qg,qi,n27,w1,show (((2 * j + 1 : Nat) : Int) < (needs.length : Int)) = False from eq_false (by omega),↓gA,↓XP,qm,XW1,qa,qb,qc,qd,qe,qf,reduceCtorEq]
  intro _
  refine hE' _ _ _ (hE _ ?_ _ hik)
  exact ⟨rfl,rfl,rfl,rfl,rfl,rfl,trivial⟩
end Go.Proofs.YtoeckfegggongaaGreatDoor
end
section
namespace Go.Proofs.YtoeckfegggongaaGreatDoor
open Go Go.Aw
theorem r_pl {b : List UInt8} {a0 a1 a2 : Int} {nd : List (List D)} {at0 many : Nat} {b2 b7 : Nat} {H : AH} {Q : AQ} {F : List D} (hB : b.length ≤ 1000000000) (hm16 : many ≤ 16) (n27 : b2 ≠ b7) {i a : Nat} {acc : List OpP} (hi : i = 0) (ha : a = at0) (hle : at0 ≤ b.length) (hacc : acc = []) (hF : Fr 153 [(0,.slc (b.map qr)),(2,.ptr b2 0),(5,.int .i64 (a : Int)),(7,.ptr b7 0),(12,.int .i64 (many : Int)),(14,.int .i64 (i : Int))] F)
  (hE : ∀ F' (a : Nat) (acc : List OpP),Fr 153 [(0,.slc (b.map qr)),(2,.ptr b2 0),(5,.int .i64 (a : Int)),(7,.ptr b7 0)] F' → uZ [] at0 (y6 many (b.drop at0)) = some (acc,a) → acc.length = many → a ≤ b.length → Q (.exit 2) F' ((b7,AO.cells [.int .i64 a0,.int .i64 a1,.int .i64 a2,.own nd,.own (qM acc),.str []]) :: (b2,AO.cells [.int .i64 0,.int .i64 0,.int .i64 0,.own [],.own [],.str []]) :: H))
  (hRt : ∀ F' (b15 : Nat) (o15 : AO) (acc : List OpP),b2 ≠ b15 → b7 ≠ b15 → Fr 153 [(2,.ptr b2 0),(3,.bool false)] F' → uZ [] at0 (y6 many (b.drop at0)) = none → Q .ret F' ((b15,o15) :: ((b7,AO.cells [.int .i64 a0,.int .i64 a1,.int .i64 a2,.own nd,.own (qM acc),.str []]) :: (b2,AO.cells [.int .i64 0,.int .i64 0,.int .i64 0,.slc [],.slc [],.str []]) :: H))) : XW Tryz.prog x40_L11 F ((b7,AO.cells [.int .i64 a0,.int .i64 a1,.int .i64 a2,.own nd,.own (qM acc),.str []]) :: (b2,AO.cells [.int .i64 0,.int .i64 0,.int .i64 0,.own [],.own [],.str []]) :: H) Q := by
 have hbig := qt
 refine XW.loopK hm (fun F H'=>∃ (i a : Nat) (acc : List OpP),i ≤ many ∧ a ≤ b.length ∧ acc.length = i ∧ uZ [] at0 (y6 many (b.drop at0)) = uZ acc a (y6 (many - i) (b.drop a)) ∧ Fr 153 [(0,.slc (b.map qr)),(2,.ptr b2 0),(5,.int .i64 (a : Int)),(7,.ptr b7 0),(12,.int .i64 (many : Int)),(14,.int .i64 (i : Int))] F ∧ ((b7,AO.cells [.int .i64 a0,.int .i64 a1,.int .i64 a2,.own nd,.own (qM acc),.str []]) :: (b2,AO.cells [.int .i64 0,.int .i64 0,.int .i64 0,.own [],.own [],.str []]) :: H) = H') (fun F H=>match F.getD 14 .any with | .int _ n'=>many - n'.toNat | _=>0) ⟨i,a,acc,by omega,by omega,by rw [hacc,hi]; rfl,by rw [hacc,hi,ha]; rfl,hF,rfl⟩ ?_
 clear hF hi ha hacc i a acc
 rintro _ _ ⟨i,a,acc,hi,ha,hac,hfi,hF,rfl⟩ K hN hE' hR
 obtain ⟨z,rfl⟩ : ∃ z : Nat → D,_ = .slc (b.map qr) :: z 1 :: .ptr b2 0 :: zz z 3 2 (.int .i64 (a : Int) :: z 6 :: .ptr b7 0 :: zz z 8 4 (.int .i64 (many : Int) :: z 13 :: .int .i64 (i : Int) :: zz z 15 138 [])) := hF.lit
 try dsimp only [zz,qb] at *
 clear hF
 have wa := qR (b := b) (a := a)
 rcases Classical.em (i < many) with hlt | hlt
 ·obtain ⟨m,hm'⟩ : ∃ m,many - i = m + 1 := ⟨many - i - 1,by omega⟩
  rw [hm'] at hfi
  have q1 := opR_le (b := b.drop a)
  rw [List.length_drop] at q1
  have nx : ∀ k : Nat,(oE (b.drop a)).2 = (k : Int) → k ≤ b.length - a → ∀ F' H',Fr 153 [(0,.slc (b.map qr)),(2,.ptr b2 0),(5,.int .i64 ((a + k : Nat) : Int)),(7,.ptr b7 0),(12,.int .i64 (many : Int)),(14,.int .i64 ((i + 1 : Nat) : Int))] F' → back ((b7,AO.cells [.int .i64 a0,.int .i64 a1,.int .i64 a2,.own nd,.own (qM acc),.str []]) :: (b2,AO.cells [.int .i64 0,.int .i64 0,.int .i64 0,.own [],.own [],.str []]) :: H).length H' = ((b7,AO.cells [.int .i64 a0,.int .i64 a1,.int .i64 a2,.own nd,.own (qM (acc ++ [(oE (b.drop a)).1])),.str []]) :: (b2,AO.cells [.int .i64 0,.int .i64 0,.int .i64 0,.own [],.own [],.str []]) :: H) → K .normal F' H' := fun k hk hkl F' H' hF' hH=>hN _ _ ⟨i + 1,a + k,acc ++ [(oE (b.drop a)).1],by omega,by omega,by simp; omega,by rw [hfi,Wt hk,show many - (i + 1) = m by omega],hF',by rw [hH]⟩ (by
   rw [List.getD_eq_getElem?_getD,hF'.2.2.2.2.2.2.1]
   simp only [List.getD_cons_succ,List.getD_cons_zero,Option.getD_some]
   omega)
  have bad : (oE (b.drop a)).2 < 0 → uZ [] at0 (y6 many (b.drop at0)) = none := fun he=>by rw [hfi,Um he]
  clear hN hE hfi
  simp +contextual only [zX,qh,qn,qj,qg,qi,n27,hlt,Int.ofNat_lt,wa,↓gA,↓XP,qm,XW1,qa,qb,qc,qd,qe,qf,reduceCtorEq]
  refine ⟨qC,by omega,f_opR (by simp; omega) ?_⟩
  generalize oE (b.drop a) = t at q1 nx bad ⊢
  obtain ⟨o,k⟩ := t
  dsimp only at q1 nx bad ⊢
  have hd : o.d = [.int .i64 o.k,.int .i64 o.on.o,.int .i64 o.on.s,.int .i64 o.on.i,.int .i64 o.to.o,.int .i64 o.to.s,.int .i64 o.to.i,.slc (qV o.ids),.int .i64 o.n,.str o.name,.str o.text,.int .i64 o.a,.int .i64 o.b] := rfl
  rcases Classical.em (k < 0) with c2 | c2
  ·simp +contextual only [zX,qh,qn,qj,qg,qi,n27,hd,eq_true c2,↓gA,↓XP,qm,XW1,qa,qb,qc,qd,qe,qf,reduceCtorEq]
   intro _ b15 hh
   refine hR _ _ (hRt _ b15 _ acc hh.2.1 hh.1 ?_ (bad c2))
   exact ⟨rfl,rfl,rfl,trivial⟩
  ·obtain ⟨k,rfl⟩ := Int.eq_ofNat_of_zero_le (show 0 ≤ k by omega)
   have w2 : IntKind.i64.wrap ((a : Int) + (k : Int)) = ((a + k : Nat) : Int) := by rw [qw (by omega) (by omega)]; omega
   simp +contextual only [zX,qh,qn,qj,qg,qi,n27,hd,eq_false c2,w2,qp (show i ≤ big by omega),↓gA,↓XP,qm,XW1,qa,qb,qc,qd,qe,qf,reduceCtorEq]
   intro _ b15 hh
   rw [← hd,show qM acc ++ [o.d] = qM (acc ++ [o]) by simp [qM]]
   refine ⟨kU,by omega,by omega,nx k rfl (by omega) _ _ ?_ (yB rfl)⟩
   exact ⟨rfl,rfl,rfl,rfl,rfl,rfl,rfl,trivial⟩
 ·have hik : i = many := by omega
  subst hik
  clear hN
  rw [Nat.sub_self,VS] at hfi
  simp +contextual only [zX,qh,qn,qj,qg,qi,n27,hlt,↓gA,↓XP,qm,XW1,qa,qb,qc,qd,qe,qf,reduceCtorEq]
  refine hE' _ _ _ (hE _ a acc ?_ hfi hac ha)
  exact ⟨rfl,rfl,rfl,rfl,rfl,trivial⟩
end Go.Proofs.YtoeckfegggongaaGreatDoor
end
section
namespace Go.Proofs.YtoeckfegggongaaGreatDoor
open Go Go.Aw
theorem list_3 {l : List Int} (h : l.length = 3) : ∃ a0 a1 a2,l = [a0,a1,a2] := by
 match l,h with
 | [a0,a1,a2],_=>exact ⟨a0,a1,a2,rfl⟩
theorem gz_th' {F : List D} {H : AH} {k : List D → AH → Prop} (h : Gz F H fun F' H'=>Gz F' H' k) : Gz F H k := Gz.bind h fun _ _ h=>h
theorem f_rdR {b : List UInt8} {H : AH} {R : D → AH → Prop} (hB : b.length ≤ 3000000) (h : R (.tup [.agg (W8 b).1.d,.bool (W8 b).2]) H) : ACall Tryz.prog 40 [.slc (b.map qr)] H R := by
 refine b40 fun hf=>?_
 have hbig := qt
 have hk : ∀ t,W8 b = t → R (.tup [.agg t.1.d,.bool t.2]) H := fun t ht=>by rw [← ht]; exact h
 clear h
 unfold W8 at hk
 have hz : pt0.d = [.int .i64 0,.int .i64 0,.int .i64 0,.slc [],.slc [],.str []] := rfl
 simp +contextual only [zX,qh,qn,qj,ql,qR,↓gA,↓XP,qm,XW1,qa,qb,qc,qd,qe,qf,reduceCtorEq]
 intro b2 h2
 refine vK (by omega) ?_
 have q1 := ints_le (b := b)
 generalize qG b = t at hk q1 ⊢
 obtain ⟨l,n,e⟩ := t
 dsimp only at hk q1 ⊢
 rcases Classical.em (e = 0 ∧ l.length = 3) with hc | hc
 ·obtain ⟨rfl,hl⟩ := hc
  have hk2 : ∀ t,WU b l n = t → R (.tup [.agg t.1.d,.bool t.2]) H := fun t ht=>hk t (by rw [if_neg (by simp [hl])]; exact ht)
  clear hk
  unfold WU at hk2
  obtain ⟨a0,a1,a2,rfl⟩ := list_3 hl
  obtain ⟨xs,hxs,hx3,x0,x1,x2⟩ : ∃ xs,ints [a0,a1,a2] = xs ∧ xs.length = 3 ∧ xs.getD 0 [] = [.int .i64 a0] ∧ xs.getD 1 [] = [.int .i64 a1] ∧ xs.getD 2 [] = [.int .i64 a2] := ⟨_,rfl,rfl,rfl,rfl,rfl⟩
  rw [hxs]
  simp +contextual only [zX,qh,qn,qj,ql,qR,hx3,x0,x1,x2,show ((3 : Nat) : Int) = 3 from rfl,Int.reduceToNat,Int.reduceLE,Int.reduceLT,kO,kP,kS,↓gA,↓XP,qm,XW1,qa,qb,qc,qd,qe,qf,reduceCtorEq]
  intro _ _ _ _ _ _ b7 hh
  obtain ⟨n27,h7⟩ := hh
  rw [uG]
  refine gz_th' (Gz.take (j := 3) rfl (fun h=>(h rfl).elim) ?_)
  simp only [jr,if_true]
  refine Gz.take (j := 4) rfl (fun h=>(h rfl).elim) ?_
  simp only [jr,if_true]
  simp +contextual only [zX,qh,qn,qj,ql,qR,n27,qg,qi,↓gA,↓XP,qm,XW1,qa,qb,qc,qd,qe,qf,reduceCtorEq]
  refine ⟨qC,by omega,vK (by simp; omega) ?_⟩
  have q2 := ints_le (b := b.drop n)
  rw [List.length_drop] at q2
  generalize qG (b.drop n) = t at hk2 q2 ⊢
  obtain ⟨nd,m,e⟩ := t
  dsimp only at hk2 q2 ⊢
  rcases Classical.em (e = 0 ∧ nd.length % 2 = 0) with hc | hc
  ·obtain ⟨rfl,hi3⟩ := hc
   have hk3 : ∀ t,Vd b [a0,a1,a2] nd (n + m) = t → R (.tup [.agg t.1.d,.bool t.2]) H := fun t ht=>hk2 t (by rw [if_neg (by simp [hi3])]; exact ht)
   clear hk2
   unfold Vd at hk3
   have w3 : ((nd.length : Int).tmod 2 = 0) = True := eq_true (by rw [Int.tmod_eq_emod_of_nonneg (by omega)]; omega)
   have wn : IntKind.i64.wrap ((n : Int) + (m : Int)) = ((n + m : Nat) : Int) := by rw [qw (by omega) (by omega)]; omega
   simp +contextual only [zX,qh,qn,qj,ql,qR,n27,qg,qi,w3,wn,↓gA,↓XP,qm,XW1,qa,qb,qc,qd,qe,qf,reduceCtorEq]
   refine fun _ _ _=>⟨by decide,?_⟩
   refine r_nl (b := b) (needs := nd) (j := 0) n27 (jh h7) (by omega) hi3 rfl ⟨rfl,rfl,rfl,rfl,rfl,rfl,rfl,rfl,trivial⟩ (fun F' hF' j hj=>?_)
   obtain ⟨z,rfl⟩ : ∃ z : Nat → D,_ = .slc (b.map qr) :: z 1 :: .ptr b2 0 :: zz z 3 2 (.int .i64 n :: z 6 :: .ptr b7 0 :: z 8 :: .int .i64 m :: zz z 10 143 []) := hF'.lit
   try dsimp only [zz,qb] at *
   clear hF'
   have hpr : (List.range j).map (pair nd) = pairs nd := by rw [hj]; rfl
   rw [hpr]
   have hpl : (pairs nd).length = nd.length / 2 := by simp [pairs]
   clear hpr hj j
   simp +contextual only [zX,qh,qn,qj,ql,qR,n27,qg,qi,wn,↓gA,↓XP,qm,XW1,qa,qb,qc,qd,qe,qf,reduceCtorEq]
   refine ⟨qC,by omega,z8 ?_⟩
   have q3 := vJ (b := b.drop (n + m))
   rw [List.length_drop] at q3
   generalize qA (b.drop (n + m)) = t at hk3 q3 ⊢
   obtain ⟨many,k,e⟩ := t
   dsimp only at hk3 q3 ⊢
   rcases Classical.em (e = 0 ∧ 0 ≤ many ∧ many ≤ 16) with hc | hc
   ·obtain ⟨rfl,hm0,hm16⟩ := hc
    obtain ⟨many,rfl⟩ := Int.eq_ofNat_of_zero_le hm0
    have hk4 : ∀ t,U3 b [a0,a1,a2] nd (n + m + k) many = t → R (.tup [.agg t.1.d,.bool t.2]) H := fun t ht=>hk3 t (by rw [if_neg (by omega)]; exact ht)
    clear hk3
    unfold U3 at hk4
    have wk : IntKind.i64.wrap (((n + m : Nat) : Int) + (k : Int)) = ((n + m + k : Nat) : Int) := by rw [qw (by omega) (by omega)]; omega
    simp +contextual only [zX,qh,qn,qj,ql,qR,n27,qg,qi,wk,show ((many : Int) < 0) = False from eq_false (by omega),show ((many : Int) > 16) = False from eq_false (by omega),show ((16 : Int) < (many : Int)) = False from eq_false (by omega),↓gA,↓XP,qm,XW1,qa,qb,qc,qd,qe,qf,reduceCtorEq]
    intro _ _ _
    refine r_pl (b := b) (nd := qO (pairs nd)) (at0 := n + m + k) (many := many) (a0 := a0) (a1 := a1) (a2 := a2) (i := 0) (a := n + m + k) (acc := []) (by omega) (by omega) n27 rfl rfl (by omega) rfl ⟨rfl,rfl,rfl,rfl,rfl,rfl,rfl,trivial⟩ (fun F' a acc hF' hfo hal hle=>?_) (fun F' b15 o15 acc n2 n7 hF' hfo=>?_)
    ·obtain ⟨z,rfl⟩ : ∃ z : Nat → D,_ = [.slc (b.map qr),z 1,.ptr b2 0,z 3,z 4,.int .i64 (a : Int),z 6,.ptr b7 0,z 8,z 9,z 10,z 11,z 12,z 13,z 14,z 15,z 16,z 17,z 18,z 19,z 20,z 21,z 22,z 23,z 24,z 25,z 26,z 27,z 28,z 29,z 30,z 31,z 32,z 33,z 34,z 35,z 36,z 37,z 38,z 39,z 40,z 41,z 42,z 43,z 44,z 45,z 46,z 47,z 48,z 49,z 50,z 51,z 52,z 53,z 54,z 55,z 56,z 57,z 58,z 59,z 60,z 61,z 62,z 63,z 64,z 65,z 66,z 67,z 68,z 69,z 70,z 71,z 72,z 73,z 74,z 75,z 76,z 77,z 78,z 79,z 80,z 81,z 82,z 83,z 84,z 85,z 86,z 87,z 88,z 89,z 90,z 91,z 92,z 93,z 94,z 95,z 96,z 97,z 98,z 99,z 100,z 101,z 102,z 103,z 104,z 105,z 106,z 107,z 108,z 109,z 110,z 111,z 112,z 113,z 114,z 115,z 116,z 117,z 118,z 119,z 120,z 121,z 122,z 123,z 124,z 125,z 126,z 127,z 128,z 129,z 130,z 131,z 132,z 133,z 134,z 135,z 136,z 137,z 138,z 139,z 140,z 141,z 142,z 143,z 144,z 145,z 146,z 147,z 148,z 149,z 150,z 151,z 152] := hF'.lit
     clear hF'
     rw [hfo] at hk4
     have r0 := hk4 _ rfl
     clear hk4 hfo
     unfold rdR4 at r0
     simp +contextual only [zX,qh,qn,qj,ql,qR,n27,qg,qi,↓gA,↓XP,qm,XW1,qa,qb,qc,qd,qe,qf,reduceCtorEq]
     refine ⟨qC,by omega,zh ?_⟩
     have q4 := vQ (b := b.drop a)
     rw [List.length_drop] at q4
     obtain ⟨t,ht⟩ : ∃ t,qF (b.drop a) = t := ⟨_,rfl⟩
     dsimp only at r0
     rw [ht] at r0 q4 ⊢
     obtain ⟨sl,k5,e⟩ := t
     dsimp only [List.getD_cons_zero,List.getD_cons_succ] at r0 q4 ⊢
     have wa : IntKind.i64.wrap ((a : Int) + (k5 : Int)) = ((a + k5 : Nat) : Int) := by rw [qw (by omega) (by omega)]; omega
     rcases Classical.em (e = 0) with h1 | h1
     ·simp +contextual only [zX,qh,qn,qj,ql,qR,n27,qg,qi,eq_true h1,wa,↓gA,↓XP,qm,XW1,qa,qb,qc,qd,qe,qf,reduceCtorEq]
      rw [h1,show (decide ((0 : Int) = 0) && decide (a + k5 = b.length)) = decide (((a + k5 : Nat) : Int) = (b.length : Int)) by
       rw [show decide ((0 : Int) = 0) = true from rfl,Bool.true_and]
       exact decide_eq_decide.2 (by omega)] at r0
      exact fun _ _ _ _=>r0
     ·simp +contextual only [zX,qh,qn,qj,ql,qR,n27,qg,qi,eq_false h1,wa,↓gA,↓XP,qm,XW1,qa,qb,qc,qd,qe,qf,reduceCtorEq]
      rw [decide_eq_false h1,Bool.false_and] at r0
      exact fun _ _ _=>r0
    ·obtain ⟨z,rfl⟩ : ∃ z : Nat → D,_ = [z 0,z 1,.ptr b2 0,.bool false,z 4,z 5,z 6,z 7,z 8,z 9,z 10,z 11,z 12,z 13,z 14,z 15,z 16,z 17,z 18,z 19,z 20,z 21,z 22,z 23,z 24,z 25,z 26,z 27,z 28,z 29,z 30,z 31,z 32,z 33,z 34,z 35,z 36,z 37,z 38,z 39,z 40,z 41,z 42,z 43,z 44,z 45,z 46,z 47,z 48,z 49,z 50,z 51,z 52,z 53,z 54,z 55,z 56,z 57,z 58,z 59,z 60,z 61,z 62,z 63,z 64,z 65,z 66,z 67,z 68,z 69,z 70,z 71,z 72,z 73,z 74,z 75,z 76,z 77,z 78,z 79,z 80,z 81,z 82,z 83,z 84,z 85,z 86,z 87,z 88,z 89,z 90,z 91,z 92,z 93,z 94,z 95,z 96,z 97,z 98,z 99,z 100,z 101,z 102,z 103,z 104,z 105,z 106,z 107,z 108,z 109,z 110,z 111,z 112,z 113,z 114,z 115,z 116,z 117,z 118,z 119,z 120,z 121,z 122,z 123,z 124,z 125,z 126,z 127,z 128,z 129,z 130,z 131,z 132,z 133,z 134,z 135,z 136,z 137,z 138,z 139,z 140,z 141,z 142,z 143,z 144,z 145,z 146,z 147,z 148,z 149,z 150,z 151,z 152] := hF'.lit
     clear hF'
     rw [hfo] at hk4
     have r0 := hk4 _ rfl
     dsimp only at r0
     rw [hz] at r0
     simp +contextual only [zX,qh,qn,qj,ql,qR,n27,n2,n7,qg,qi,↓gA,↓XP,qm,XW1,qa,qb,qc,qd,qe,qf,reduceCtorEq]
     exact r0
   ·have r0 := hk3 (pt0,false) (if_pos (by
     rcases Classical.em (e = 0) with h1 | h1
     ·exact .inr (by omega)
     ·exact .inl h1))
    dsimp only at r0
    rw [hz] at r0
    rcases Classical.em (e = 0) with h1 | h1
    ·rcases Classical.em (many < 0) with h2 | h2
     ·simp +contextual only [zX,qh,qn,qj,ql,qR,n27,qg,qi,eq_true h1,eq_true h2,↓gA,↓XP,qm,XW1,qa,qb,qc,qd,qe,qf,reduceCtorEq]
      exact fun _ _ _=>r0
     ·have h3 : many > 16 := by omega
      simp +contextual only [zX,qh,qn,qj,ql,qR,n27,qg,qi,eq_true h1,eq_false h2,eq_true h3,show ((16 : Int) < many) = True from eq_true h3,↓gA,↓XP,qm,XW1,qa,qb,qc,qd,qe,qf,reduceCtorEq]
      exact fun _ _ _=>r0
    ·simp +contextual only [zX,qh,qn,qj,ql,qR,n27,qg,qi,eq_false h1,↓gA,↓XP,qm,XW1,qa,qb,qc,qd,qe,qf,reduceCtorEq]
     exact fun _ _ _=>r0
  ·have r0 := hk2 (pt0,false) (if_pos (by
    rcases Classical.em (e = 0) with h1 | h1
    ·exact .inr (fun h2=>hc ⟨h1,h2⟩)
    ·exact .inl h1))
   dsimp only at r0
   rw [hz] at r0
   rcases Classical.em (e = 0) with h1 | h1
   ·have h2 : ¬ ((nd.length : Int).tmod 2 = 0) := fun h2=>hc ⟨h1,by rw [Int.tmod_eq_emod_of_nonneg (by omega)] at h2; omega⟩
    simp +contextual only [zX,qh,qn,qj,ql,qR,n27,qg,qi,eq_true h1,eq_false h2,↓gA,↓XP,qm,XW1,qa,qb,qc,qd,qe,qf,reduceCtorEq]
    exact fun _ _ _=>⟨by decide,r0⟩
   ·simp +contextual only [zX,qh,qn,qj,ql,qR,n27,qg,qi,eq_false h1,↓gA,↓XP,qm,XW1,qa,qb,qc,qd,qe,qf,reduceCtorEq]
    exact fun _ _ _=>r0
 ·have r0 := hk (pt0,false) (if_pos (by
   rcases Classical.em (e = 0) with h1 | h1
   ·exact .inr (fun h2=>hc ⟨h1,h2⟩)
   ·exact .inl h1))
  dsimp only at r0
  rw [hz] at r0
  rcases Classical.em (e = 0) with h1 | h1
  ·have h2 : ¬ ((l.length : Int) = 3) := fun h2=>hc ⟨h1,by omega⟩
   simp +contextual only [zX,qh,qn,qj,ql,qR,eq_true h1,eq_false h2,↓gA,↓XP,qm,XW1,qa,qb,qc,qd,qe,qf,reduceCtorEq]
   exact fun _ _ _=>r0
  ·simp +contextual only [zX,qh,qn,qj,ql,qR,eq_false h1,↓gA,↓XP,qm,XW1,qa,qb,qc,qd,qe,qf,reduceCtorEq]
   exact fun _ _ _=>r0
end Go.Proofs.YtoeckfegggongaaGreatDoor
end
section
namespace Go.Proofs.YtoeckfegggongaaGreatDoor
open Go Go.Aw
theorem opR_enc {o : OpP} {r : List UInt8} (h : vi o) : oE (qX o ++ r) = (o,((qX o).length : Int)) := by
 obtain ⟨h1,h2,h3,h4,h5⟩ := wF h
 have e : qX o ++ r = qN (jE o) ++ (qN (o.ids.flatMap yR) ++ (jF [o.name,o.text] ++ r)) := by simp only [qX,List.append_assoc]
 have l10 : (jE o).length = 10 := rfl
 have hi : ∀ x ∈ o.ids.flatMap yR,wC .i64 x := by
  intro x hx
  obtain ⟨y,hy,hx⟩ := List.mem_flatMap.1 hx
  have := h2 y hy
  simp only [yR,List.mem_cons,List.not_mem_nil,or_false] at hx
  rcases hx with rfl | rfl | rfl
  ·exact ua this.1
  ·exact ua this.2.1
  ·exact ua this.2.2
 have a1 := uc (l := jE o) (rest := qN (o.ids.flatMap yR) ++ (jF [o.name,o.text] ++ r)) (fun x hx=>ua (h1 x hx)) (by omega)
 have b1 := uc (l := o.ids.flatMap yR) (rest := jF [o.name,o.text] ++ r) hi (by rw [kx]; omega)
 have s1 := JM (l := [o.name,o.text]) (rest := r) (by
  intro x hx
  simp only [List.mem_cons,List.not_mem_nil,or_false] at hx
  rcases hx with rfl | rfl <;> omega) (by simp)
 have d1 : (qX o ++ r).drop (qN (jE o)).length = qN (o.ids.flatMap yR) ++ (jF [o.name,o.text] ++ r) := by rw [e,List.drop_left]
 have d2 : (qX o ++ r).drop ((qN (jE o)).length + (qN (o.ids.flatMap yR)).length) = jF [o.name,o.text] ++ r := by rw [← List.drop_drop,d1,List.drop_left]
 have hl : (qX o).length = (qN (jE o)).length + (qN (o.ids.flatMap yR)).length + (jF [o.name,o.text]).length := by simp only [qX,List.length_append]
 unfold oE
 have a2 : qG (qX o ++ r) = (jE o,(qN (jE o)).length,0) := by rw [e]; exact a1
 rw [a2]
 dsimp only
 rw [if_neg (by simp [l10])]
 unfold WB
 rw [d1,b1]
 dsimp only
 rw [if_neg (by rw [kx]; simp)]
 unfold Wg
 rw [d2,s1]
 dsimp only
 rw [if_neg (by simp),vp,hl]
 rfl
theorem Qy : ∀ (l : List OpP) (r : List UInt8),(∀ o ∈ l,vi o) → y6 l.length (l.flatMap qX ++ r) = some (l,(l.flatMap qX).length)
 | [],r,_=>rfl
 | o :: l,r,h=>by
  have e := opR_enc (r := l.flatMap qX ++ r) (h o (.head _))
  have e2 := Qy l r (fun x hx=>h x (.tail _ hx))
  rw [show (o :: l).flatMap qX ++ r = qX o ++ (l.flatMap qX ++ r) by simp,List.length_cons]
  rw [y6,e]
  dsimp only
  rw [if_neg (by omega),Int.toNat_natCast,List.drop_left,e2]
  simp
theorem rdR_enc {p : Pt} (h : Good p) : W8 (ji p) = (p,true) := by
 obtain ⟨h1,h2,h3,h4,h5,h6⟩ := gP h
 unfold y8 at h1
 have e : ji p = qN [p.o,p.s,p.day] ++ (qN (qT p.needs) ++ (qy p.ops.length ++ (p.ops.flatMap qX ++ (qH p.sl ++ [])))) := by simp only [ji,List.append_assoc,List.append_nil]
 have a1 := uc (l := [p.o,p.s,p.day]) (rest := qN (qT p.needs) ++ (qy p.ops.length ++ (p.ops.flatMap qX ++ (qH p.sl ++ [])))) (by
  intro x hx
  simp only [List.mem_cons,List.not_mem_nil,or_false] at hx
  rw [yj]
  rcases hx with rfl | rfl | rfl <;> omega) (by simp)
 have b1 := uc (l := qT p.needs) (rest := qy p.ops.length ++ (p.ops.flatMap qX ++ (qH p.sl ++ []))) (by
  intro x hx
  obtain ⟨y,hy,hx⟩ := List.mem_flatMap.1 hx
  obtain ⟨i,hi,hy⟩ := List.getElem_of_mem hy
  have hv := h4 i hi
  unfold kM at hv
  rw [jk hi,hy] at hv
  simp only [List.mem_cons,List.not_mem_nil,or_false] at hx
  rw [yj]
  rcases hx with rfl | rfl <;> omega) (by rw [jS]; omega)
 have c1 := oc (m := (p.ops.length : Int)) (rest := p.ops.flatMap qX ++ (qH p.sl ++ [])) (Jm (by omega))
 have o1 := Qy p.ops (qH p.sl ++ []) h5
 have f1 := oF (s := p.sl) (rest := []) (by omega)
 obtain ⟨n1,e1⟩ : ∃ n,(qN [p.o,p.s,p.day]).length = n := ⟨_,rfl⟩
 obtain ⟨n2,e2⟩ : ∃ n,(qN (qT p.needs)).length = n := ⟨_,rfl⟩
 obtain ⟨n3,e3⟩ : ∃ n,(qy (p.ops.length : Int)).length = n := ⟨_,rfl⟩
 obtain ⟨n4,e4⟩ : ∃ n,(p.ops.flatMap qX).length = n := ⟨_,rfl⟩
 have d1 : (ji p).drop n1 = qN (qT p.needs) ++ (qy p.ops.length ++ (p.ops.flatMap qX ++ (qH p.sl ++ []))) := by rw [e,← e1,List.drop_left]
 have d2 : (ji p).drop (n1 + n2) = qy p.ops.length ++ (p.ops.flatMap qX ++ (qH p.sl ++ [])) := by rw [← List.drop_drop,d1,← e2,List.drop_left]
 have d3 : (ji p).drop (n1 + n2 + n3) = p.ops.flatMap qX ++ (qH p.sl ++ []) := by rw [← List.drop_drop,d2,← e3,List.drop_left]
 have d4 : (ji p).drop (n1 + n2 + n3 + n4) = qH p.sl ++ [] := by rw [← List.drop_drop,d3,← e4,List.drop_left]
 have hl : (ji p).length = n1 + n2 + n3 + n4 + (qH p.sl).length := by rw [← e1,← e2,← e3,← e4]; simp only [ji,List.length_append]
 have a2 : qG (ji p) = ([p.o,p.s,p.day],n1,0) := by rw [e,a1,e1]
 unfold W8
 rw [a2]
 dsimp only
 rw [if_neg (by simp)]
 unfold WU
 rw [d1,b1,e2]
 dsimp only
 rw [if_neg (by rw [jS]; simp)]
 unfold Vd
 rw [d2,c1,e3]
 dsimp only
 rw [if_neg (by omega),Int.toNat_natCast]
 unfold U3
 rw [d3,o1,e4]
 simp only [uZ,List.nil_append]
 unfold rdR4
 rw [d4,f1,uH]
 simp only [decide_true,Bool.true_and]
 rw [decide_eq_true (by omega)]
 rfl
theorem KD {l : List Int} : (triples l).length ≤ l.length := by
 unfold triples
 rw [List.length_map,List.length_range]
 omega
theorem Ur {l : List Int} : (pairs l).length ≤ l.length := by
 unfold pairs
 rw [List.length_map,List.length_range]
 omega
theorem opR_sz {b : List UInt8} {B : Nat} (hb : b.length ≤ B) : (oE b).1.ids.length ≤ B ∧ (oE b).1.name.length ≤ B ∧ (oE b).1.text.length ≤ B := by
 have z : op0.ids.length ≤ B ∧ op0.name.length ≤ B ∧ op0.text.length ≤ B := by simp [op0]
 unfold oE
 split
 ·exact z
 unfold WB
 split
 ·exact z
 unfold Wg
 split
 ·exact z
 obtain ⟨n,hn⟩ : ∃ n,(qG b).2.1 = n := ⟨_,rfl⟩
 rw [hn]
 have q2 := (ints_le (b := b.drop n)).2
 rw [List.length_drop] at q2
 have q3 := KD (l := (qG (b.drop n)).1)
 obtain ⟨m,hm⟩ : ∃ m,(qG (b.drop n)).2.1 = m := ⟨_,rfl⟩
 rw [hm]
 have h5 := JO (b := b.drop (n + m)) (B := B) (by rw [List.length_drop]; omega)
 exact ⟨by show (triples _).length ≤ B; omega,uh h5,uh h5⟩
theorem JQ {B : Nat} : ∀ (c : Nat) (b : List UInt8),b.length ≤ B → ∀ l k,y6 c b = some (l,k) → l.length = c ∧ ∀ o ∈ l,o.ids.length ≤ B ∧ o.name.length ≤ B ∧ o.text.length ≤ B
 | 0,b,hb,l,k,h=>by
  simp only [y6,Option.some.injEq,Prod.mk.injEq] at h
  obtain ⟨rfl,rfl⟩ := h
  simp
 | c + 1,b,hb,l,k,h=>by
  rw [y6] at h
  split at h
  ·cases h
  ·have ih := JQ (B := B) c (b.drop (oE b).2.toNat) (by rw [List.length_drop]; omega)
   cases hq : y6 c (b.drop (oE b).2.toNat) with
   | none=>rw [hq] at h; cases h
   | some t =>
    obtain ⟨l',k'⟩ := t
    rw [hq] at h
    simp only [Option.some.injEq,Prod.mk.injEq] at h
    obtain ⟨rfl,rfl⟩ := h
    obtain ⟨i1,i2⟩ := ih l' k' hq
    refine ⟨by simp [i1],fun o ho=>?_⟩
    rcases List.mem_cons.1 ho with rfl | ho
    ·exact opR_sz hb
    ·exact i2 o ho
theorem rdR_fit {b : List UInt8} (hb : b.length ≤ 3000000) : Fit (W8 b).1 := by
 have z : Fit pt0 := ⟨by simp [pt0],by simp [pt0],by simp [pt0],by simp [pt0],by simp [pt0],by simp [pt0]⟩
 unfold W8
 split
 ·exact z
 generalize qG b = t1
 unfold WU
 split
 ·exact z
 have q1 := (ints_le (b := b.drop t1.2.1)).2
 rw [List.length_drop] at q1
 generalize qG (b.drop t1.2.1) = t2 at q1
 unfold Vd
 split
 ·exact z
 ·next hm =>
  generalize hdi : qA (b.drop (t1.2.1 + t2.2.1)) = t3 at hm
  unfold U3
  cases hq : y6 t3.1.toNat (b.drop (t1.2.1 + t2.2.1 + t3.2.1)) with
  | none=>exact z
  | some t =>
   obtain ⟨l,k⟩ := t
   obtain ⟨i1,i2⟩ := JQ (B := 3000000) _ _ (by rw [List.length_drop]; omega) l k hq
   have hp := Ur (l := t2.1)
   have hs := gq (b := b.drop (t1.2.1 + t2.2.1 + t3.2.1 + k))
   rw [List.length_drop] at hs
   simp only [uZ,List.nil_append]
   unfold rdR4
   refine ⟨?_,?_,fun o ho=>(i2 o ho).1,fun o ho=>(i2 o ho).2.1,fun o ho=>(i2 o ho).2.2,?_⟩
   ·show l.length ≤ 1000
    omega
   ·show (pairs t2.1).length ≤ 3000000
    omega
   ·show (qF _).1.length ≤ 3000000
    omega
noncomputable def oz (b : List UInt8) : Pt × Int := open Classical in if (W8 b).2 = true ∧ v7 (W8 b).1 = 0 ∧ ji (W8 b).1 = b then ((W8 b).1,0) else (pt0,2)
theorem Jw {b : List UInt8} : oz b = yv b := by
 rcases Classical.em (∃ p,Good p ∧ ji p = b) with ⟨p,h1,h2⟩ | hn
 ·rw [← h2,zx h1]
  unfold oz
  rw [rdR_enc h1,if_pos ⟨rfl,h1,rfl⟩]
 ·rw [Kv fun p h1 h2=>hn ⟨p,h1,h2⟩]
  unfold oz
  rw [if_neg]
  rintro ⟨_,h2,h3⟩
  exact hn ⟨_,h2,h3⟩
end Go.Proofs.YtoeckfegggongaaGreatDoor
end
section
namespace Go.Proofs.YtoeckfegggongaaGreatDoor
open Go Go.Aw
theorem oZ {p : Pt} {H : AH} {R : D → AH → Prop} (hp : Fit p) (h : R (.tup [if v7 p = 0 then .own ((ji p).map qr) else .own [],.int .i64 (v7 p)]) H) : ACall Tryz.prog 12 [.agg p.d] H R := by
 refine WI fun hf=>?_
 have hbig := qt
 have hd := @dE p
 simp +contextual only [x12,hd,↓U12,↓XP,qm,XW1,qa,qb,qc,qd,qe,qf,reduceCtorEq]
 refine fun b1 h1=>Vn hp ?_
 rcases Classical.em (jK p = 0) with c1 | c1
 ·have e0 : v7 p = if 1200 < p.sl.length then 4 else 0 := by unfold v7; rw [if_neg (fun h=>h c1)]
  simp +contextual only [x12,hd,c1,↓U12,↓XP,qm,XW1,qa,qb,qc,qd,qe,qf,reduceCtorEq]
  rcases Classical.em (1200 < p.sl.length) with c2 | c2
  ·rw [if_pos c2] at e0
   simp +contextual only [x12,hd,(eq_true (by omega) : ((p.sl.length : Int) > 1200) = True),(eq_true (by omega) : ((1200 : Int) < (p.sl.length : Int)) = True),↓U12,↓XP,qm,XW1,qa,qb,qc,qd,qe,qf,reduceCtorEq]
   have r0 := h
   rw [e0,if_neg (by decide)] at r0
   exact fun _ _=>r0
  ·rw [if_neg c2] at e0
   simp +contextual only [x12,hd,(eq_false (by omega) : ((p.sl.length : Int) > 1200) = False),(eq_false (by omega) : ((1200 : Int) < (p.sl.length : Int)) = False),↓U12,↓XP,qm,XW1,qa,qb,qc,qd,qe,qf,reduceCtorEq]
   refine fun _ _=>Ji hp fun _=>?_
   simp +contextual only [x12,hd,↓U12,↓XP,qm,XW1,qa,qb,qc,qd,qe,qf,reduceCtorEq]
   have r0 := h
   rw [e0,if_pos rfl] at r0
   exact fun _=>r0
 ·have e0 : v7 p = jK p := by unfold v7; rw [if_pos c1]
  simp +contextual only [x12,hd,eq_false c1,↓U12,↓XP,qm,XW1,qa,qb,qc,qd,qe,qf,reduceCtorEq]
  have r0 := h
  rw [e0,if_neg c1] at r0
  exact fun _=>r0
theorem Wz {b : List UInt8} {H : AH} {R : D → AH → Prop} (hB : b.length ≤ 3000000) (h : R (.tup [.agg (yv b).1.d,.int .i64 (yv b).2]) H) : ACall Tryz.prog 17 [.slc (b.map qr)] H R := by
 refine b17 fun hf=>?_
 have hbig := qt
 rw [← Jw] at h
 have hk : ∀ t,oz b = t → R (.tup [.agg t.1.d,.int .i64 t.2]) H := fun t ht=>by rw [← ht]; exact h
 clear h
 unfold oz at hk
 have hz : pt0.d = [.int .i64 0,.int .i64 0,.int .i64 0,.slc [],.slc [],.str []] := rfl
 simp +contextual only [x17,qh,qg,qi,↓U17,↓XP,qm,XW1,qa,qb,qc,qd,qe,qf,reduceCtorEq]
 intro b2 h2
 refine f_rdR hB ?_
 have hfit := rdR_fit hB
 generalize W8 b = t at hk hfit ⊢
 obtain ⟨p,ok⟩ := t
 dsimp only at hk hfit ⊢
 have hd := @dE p
 cases ok with
 | false =>
  have r0 := hk (pt0,2) (by rw [if_neg (by simp)])
  dsimp only at r0
  rw [hz] at r0
  simp +contextual only [x17,qh,qg,qi,hd,↓U17,↓XP,qm,XW1,qa,qb,qc,qd,qe,qf,reduceCtorEq]
  exact fun _ _=>r0
 | true =>
  simp +contextual only [x17,qh,qg,qi,hd,↓U17,↓XP,qm,XW1,qa,qb,qc,qd,qe,qf,reduceCtorEq]
  intro b4 hh
  obtain ⟨n24,h4⟩ := hh
  refine oZ hfit ?_
  rcases Classical.em (v7 p = 0) with c1 | c1
  ·rw [if_pos c1,c1]
   simp +contextual only [x17,qh,qg,qi,hd,n24,↓U17,↓XP,qm,XW1,qa,qb,qc,qd,qe,qf,reduceCtorEq]
   refine fun _ _=>vc (a := b) (b := ji p) ?_
   rcases Classical.em (b = ji p) with c2 | c2
   ·have r0 := hk (p,0) (by rw [if_pos ⟨rfl,c1,c2.symm⟩])
    dsimp only at r0
    rw [hd] at r0
    rw [decide_eq_true c2]
    simp +contextual only [x17,qh,qg,qi,hd,n24,↓U17,↓XP,qm,XW1,qa,qb,qc,qd,qe,qf,reduceCtorEq]
    exact r0
   ·have r0 := hk (pt0,2) (by rw [if_neg (fun h=>c2 h.2.2.symm)])
    dsimp only at r0
    rw [hz] at r0
    rw [decide_eq_false c2]
    simp +contextual only [x17,qh,qg,qi,hd,n24,↓U17,↓XP,qm,XW1,qa,qb,qc,qd,qe,qf,reduceCtorEq]
    exact r0
  ·have r0 := hk (pt0,2) (by rw [if_neg (fun h=>c1 h.2.1)])
   dsimp only at r0
   rw [hz] at r0
   rw [if_neg c1]
   simp +contextual only [x17,qh,qg,qi,hd,n24,eq_false c1,↓U17,↓XP,qm,XW1,qa,qb,qc,qd,qe,qf,reduceCtorEq]
   exact fun _ _=>r0
end Go.Proofs.YtoeckfegggongaaGreatDoor
end
