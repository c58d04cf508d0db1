/- A part of the proof of what the last text says: Gr2, Gr3, Gr4, Gr5, Gq1, Gx1, Gc1, Gr6. Conditions: those in each theorem. -/
import Derived.Test.YtoeckfegggongaaGreatDoorV19
import Derived.RangeFuncNested
import Derived.RangeFuncBound
import Derived.RangeFuncCalls
import Derived.RangeFuncLeaves
import Derived.Shelf.Abstract
import Derived.Shelf.RegionOpen
import Derived.WalkKit
import Derived.WalkSpells
import Derived.OwnWalkIn
import Derived.TacticsInMore
import Derived.LoopNIn
import Derived.LoopIn
import Derived.Test.YtoeckfegggongaaGreatDoorRows
set_option linter.unusedVariables false
set_option linter.unusedSimpArgs false
set_option maxRecDepth 100000
set_option maxHeartbeats 16000000
open Nat renaming reduceSub → qa,reduceAdd → qb,reduceMul → qc,reduceEqDiff → qd,reduceLeDiff → qe,reduceBEq → qf
section
namespace Go.Proofs.YtoeckfegggongaaGreatDoor
open Go Go.Aw
def qu (b : List UInt8) : Int × Nat × Int :=
 if (qA b).2.2 ≠ 0 then qA b else if (qA b).1 < 0 then ((qA b).1,(qA b).2.1,2)
 else if (b.length : Int) - (qA b).2.1 < (qA b).1 then ((qA b).1,(qA b).2.1,3) else qA b
theorem Vz {b : List UInt8} : (qu b).2.1 = (qA b).2.1 := by
 unfold qu
 repeat' split
 all_goals rfl
theorem vf {b : List UInt8} : (qu b).2.1 ≤ b.length := by rw [Vz]; exact vJ
theorem yY {b : List UInt8} (h : (qu b).2.2 = 0) : 0 ≤ (qu b).1 ∧ (qu b).1 + (qu b).2.1 ≤ b.length ∧ qu b = qA b := by
 unfold qu at h ⊢
 by_cases c1 : (qA b).2.2 ≠ 0
 ·rw [if_pos c1] at h; exact (c1 h).elim
 rw [if_neg c1] at h ⊢
 by_cases c2 : (qA b).1 < 0
 ·rw [if_pos c2] at h; simp at h
 rw [if_neg c2] at h ⊢
 by_cases c3 : (b.length : Int) - (qA b).2.1 < (qA b).1
 ·rw [if_pos c3] at h; simp at h
 rw [if_neg c3]
 exact ⟨by omega,by omega,rfl⟩
theorem Qp {n : Nat} {rest : List UInt8} (hn : n ≤ rest.length) (hb : n ≤ 140737488355328) : qu (qy n ++ rest) = ((n : Int),(qy n).length,0) := by
 have h := oc (m := (n : Int)) (rest := rest) (Jm hb)
 unfold qu
 rw [h,if_neg (by simp),if_neg (by simp),if_neg (by simp; omega)]
def qF (b : List UInt8) : List UInt8 × Nat × Int :=
 if (qu b).2.2 = 0 then ((b.drop (qu b).2.1).take (qu b).1.toNat,(qu b).2.1 + (qu b).1.toNat,0) else ([],0,(qu b).2.2)
theorem vQ {b : List UInt8} : (qF b).2.1 ≤ b.length := by
 unfold qF
 split
 ·next h=>have := yY h; simp; omega
 ·simp
theorem gq {b : List UInt8} : (qF b).1.length ≤ b.length := by
 unfold qF
 split
 ·simp; omega
 ·simp
theorem oF {s rest : List UInt8} (hb : s.length ≤ 140737488355328) : qF (qH s ++ rest) = (s,(qH s).length,0) := by
 have h := Qp (n := s.length) (rest := s ++ rest) (by simp) hb
 unfold qF qH
 rw [List.append_assoc,h]
 simp
def uR {α : Type} (f : List UInt8 → α × Nat × Int) : Nat → List UInt8 → List α × Nat × Int
 | 0,_=>([],0,0)
 | n + 1,b=>if (f b).2.2 ≠ 0 then ([],0,(f b).2.2) else
  if (uR f n (b.drop (f b).2.1)).2.2 ≠ 0 then ([],0,(uR f n (b.drop (f b).2.1)).2.2)
  else ((f b).1 :: (uR f n (b.drop (f b).2.1)).1,(f b).2.1 + (uR f n (b.drop (f b).2.1)).2.1,0)
def wP {α : Type} (f : List UInt8 → α × Nat × Int) (b : List UInt8) : List α × Nat × Int :=
 if (qu b).2.2 ≠ 0 then ([],0,(qu b).2.2) else
 if (uR f (qu b).1.toNat (b.drop (qu b).2.1)).2.2 ≠ 0 then ([],0,(uR f (qu b).1.toNat (b.drop (qu b).2.1)).2.2)
 else ((uR f (qu b).1.toNat (b.drop (qu b).2.1)).1,(qu b).2.1 + (uR f (qu b).1.toNat (b.drop (qu b).2.1)).2.1,0)
theorem VM {α : Type} {f : List UInt8 → α × Nat × Int} (hf : ∀ b,(f b).2.1 ≤ b.length) : ∀ (n : Nat) (b : List UInt8),(uR f n b).2.1 ≤ b.length ∧ (uR f n b).1.length ≤ n
 | 0,b=>by simp [uR]
 | n + 1,b=>by
  have h1 := hf b
  have h2 := VM hf n (b.drop (f b).2.1)
  rw [List.length_drop] at h2
  unfold uR
  split
  ·simp
  ·split
   ·simp
   ·simp; omega
theorem YU {α : Type} {f : List UInt8 → α × Nat × Int} (hf : ∀ b,(f b).2.1 ≤ b.length) {b : List UInt8} : (wP f b).2.1 ≤ b.length ∧ (wP f b).1.length ≤ b.length := by
 unfold wP
 split
 ·simp
 ·next h =>
  have h0 := yY (Classical.not_not.1 h)
  have h2 := VM hf (qu b).1.toNat (b.drop (qu b).2.1)
  rw [List.length_drop] at h2
  split
  ·simp
  ·constructor
   ·dsimp only; omega
   ·dsimp only; omega
theorem YB {α : Type} {f : List UInt8 → α × Nat × Int} {enc : α → List UInt8} : ∀ (l : List α) (rest : List UInt8),(∀ x ∈ l,∀ r,f (enc x ++ r) = (x,(enc x).length,0)) → uR f l.length (l.flatMap enc ++ rest) = (l,(l.flatMap enc).length,0)
 | [],rest,_=>rfl
 | x :: l,rest,h=>by
  have h1 := h x (.head _) (l.flatMap enc ++ rest)
  have h2 := YB l rest (fun y hy=>h y (.tail _ hy))
  have e : (x :: l).flatMap enc ++ rest = enc x ++ (l.flatMap enc ++ rest) := by simp
  rw [e,List.length_cons]
  unfold uR
  rw [h1]
  dsimp only
  rw [List.drop_left,h2]
  simp
theorem Yr {α : Type} {enc : α → List UInt8} : ∀ {l : List α},(∀ x ∈ l,0 < (enc x).length) → l.length ≤ (l.flatMap enc).length
 | [],_=>by simp
 | x :: l,h=>by
  have h1 := h x (.head _)
  have h2 := Yr (l := l) (fun y hy=>h y (.tail _ hy))
  simp only [List.flatMap_cons,List.length_append,List.length_cons]
  omega
theorem Ka {α : Type} {f : List UInt8 → α × Nat × Int} {enc : α → List UInt8} {l : List α} {rest : List UInt8} (h : ∀ x ∈ l,∀ r,f (enc x ++ r) = (x,(enc x).length,0)) (hp : ∀ x ∈ l,0 < (enc x).length) (hb : l.length ≤ 140737488355328) :
  wP f (qy l.length ++ l.flatMap enc ++ rest) = (l,(qy l.length ++ l.flatMap enc).length,0) := by
 have h1 := Yr hp
 have h2 := Qp (n := l.length) (rest := l.flatMap enc ++ rest) (by rw [List.length_append]; omega) hb
 have h3 := YB l rest h
 unfold wP
 rw [List.append_assoc,h2]
 dsimp only
 rw [if_neg (by simp),List.drop_left,Int.toNat_natCast,h3]
 simp
def qG (b : List UInt8) : List Int × Nat × Int := wP qA b
def jn (b : List UInt8) : List (List UInt8) × Nat × Int := wP qF b
theorem ints_le {b : List UInt8} : (qG b).2.1 ≤ b.length ∧ (qG b).1.length ≤ b.length := YU fun _=>vJ
theorem strs_le {b : List UInt8} : (jn b).2.1 ≤ b.length ∧ (jn b).1.length ≤ b.length := YU fun _=>vQ
theorem YJ {n : Int} : 0 < (qy n).length := by simp [qy]
theorem uc {l : List Int} {rest : List UInt8} (h : ∀ x ∈ l,wC .i64 x) (hb : l.length ≤ 140737488355328) : qG (qN l ++ rest) = (l,(qN l).length,0) :=
 Ka (enc := qy) (fun x hx r=>oc (h x hx)) (fun x _=>YJ) hb
theorem JM {l : List (List UInt8)} {rest : List UInt8} (h : ∀ x ∈ l,x.length ≤ 140737488355328) (hb : l.length ≤ 140737488355328) : jn (jF l ++ rest) = (l,(jF l).length,0) :=
 Ka (enc := qH) (fun x hx r=>oF (h x hx)) (fun x _=>by simp only [qH,List.length_append]; have := YJ (n := (x.length : Int)); omega) hb
end Go.Proofs.YtoeckfegggongaaGreatDoor
end
section
namespace Go.Proofs.YtoeckfegggongaaGreatDoor
open Go Go.Aw
theorem gE {b : List UInt8} {H : AH} {R : D → AH → Prop} (h : R (.tup [.int .i64 (qu b).1,.int .i64 ((qu b).2.1 : Int),.int .i64 (qu b).2.2]) H) : ACall Tryz.prog 66 [.slc (b.map qr),.int .i64 1] H R := by
 refine b66 fun hf=>?_
 have hbig := qt
 have hle := vJ (b := b)
 unfold qu at h
 simp +contextual only [x66,qh,↓U66,↓XP,qm,XW1,qa,qb,qc,qd,qe,qf,reduceCtorEq]
 refine oG ?_
 generalize qA b = t at h hle ⊢
 obtain ⟨n,k,e⟩ := t
 dsimp only at h hle ⊢
 rcases Classical.em (e = 0) with c1 | c1
 ·subst c1
  rw [if_neg (by simp)] at h
  rcases Classical.em (n < 0) with c2 | c2
  ·rw [if_pos c2] at h
   simp +contextual only [x66,qh,eq_true c2,↓U66,↓XP,qm,XW1,qa,qb,qc,qd,qe,qf,reduceCtorEq]
   exact fun _ _ _=>h
  ·rw [if_neg c2] at h
   simp +contextual only [x66,qh,eq_false c2,↓U66,↓XP,qm,XW1,qa,qb,qc,qd,qe,qf,reduceCtorEq]
   refine fun _ _ _ hb=>⟨by decide,?_⟩
   have w1 : IntKind.i64.wrap ((b.length : Int) - k) = (b.length : Int) - k := qw (by omega) (by omega)
   rw [w1,Int.tdiv_one,w1]
   refine ⟨fun c=>?_,fun c=>?_⟩
   ·rw [if_pos c] at h
    exact h
   ·rw [if_neg c] at h
    exact h
 ·rw [if_pos c1] at h
  simp +contextual only [x66,qh,eq_false c1,↓U66,↓XP,qm,XW1,qa,qb,qc,qd,qe,qf,reduceCtorEq]
  exact fun _ _ _=>h
theorem Qw {b : List UInt8} {k m : Nat} : ((b.map qr).take (k + m)).drop k = ((b.drop k).take m).map qr := by
 rw [← List.map_take,← List.map_drop,List.drop_take,Nat.add_sub_cancel_left]
theorem wz {b : List UInt8} (h : fact (.slc (b.map qr))) : b.length ≤ 140737488355328 := by
 have := h
 rw [Vb,qh,qt] at this
 exact this
theorem zp {b : List UInt8} {H : AH} {R : D → AH → Prop} (h : R (.tup [.str (qF b).1,.int .i64 ((qF b).2.1 : Int),.int .i64 (qF b).2.2]) H) : ACall Tryz.prog 38 [.slc (b.map qr)] H R := by
 refine b38 fun hf=>?_
 have hbig := qt
 have hle := vf (b := b)
 have hok := yY (b := b)
 unfold qF at h
 simp +contextual only [x38,qh,↓U38,↓XP,qm,XW1,qa,qb,qc,qd,qe,qf,reduceCtorEq]
 refine gE ?_
 have hok2 : (qu b).2.2 = 0 → 0 ≤ (qu b).1 ∧ (qu b).1 + (qu b).2.1 ≤ b.length := fun h=>⟨(hok h).1,(hok h).2.1⟩
 clear hok
 generalize qu b = t at h hle hok2 ⊢
 obtain ⟨n,k,e⟩ := t
 dsimp only at h hle hok2 ⊢
 rcases Classical.em (e = 0) with c1 | c1
 ·subst c1
  rw [if_pos rfl] at h
  obtain ⟨g1,g2⟩ := hok2 rfl
  have hb := wz hf.1
  obtain ⟨m,rfl⟩ := Int.eq_ofNat_of_zero_le g1
  have w1 : IntKind.i64.wrap ((k : Int) + (m : Int)) = ((k + m : Nat) : Int) := by rw [qw (by omega) (by omega)]; omega
  dsimp only at h
  rw [Int.toNat_natCast] at h
  simp +contextual only [x38,qh,w1,Qw,zG,↓U38,↓XP,qm,XW1,qa,qb,qc,qd,qe,qf,reduceCtorEq]
  refine fun _ _ _=>⟨qC,by omega,by omega,oB,fun _=>h⟩
 ·rw [if_neg c1] at h
  simp +contextual only [x38,qh,eq_false c1,↓U38,↓XP,qm,XW1,qa,qb,qc,qd,qe,qf,reduceCtorEq]
  exact fun _ _ _=>h
end Go.Proofs.YtoeckfegggongaaGreatDoor
end
section
namespace Go.Proofs.YtoeckfegggongaaGreatDoor
open Go Go.Aw
def o4 {α : Type} (acc : List α) (a : Nat) (r : List α × Nat × Int) : List α × Nat × Int := if r.2.2 ≠ 0 then ([],0,r.2.2) else (acc ++ r.1,a + r.2.1,0)
theorem zO {α : Type} {f : List UInt8 → α × Nat × Int} {acc : List α} {a m : Nat} {b : List UInt8} (h : ¬ (f (b.drop a)).2.2 = 0) : o4 acc a (uR f (m + 1) (b.drop a)) = ([],0,(f (b.drop a)).2.2) := by
 unfold uR
 rw [if_pos h]
 unfold o4
 rw [if_pos h]
theorem oq {α : Type} {f : List UInt8 → α × Nat × Int} {acc : List α} {a m : Nat} {b : List UInt8} (h : (f (b.drop a)).2.2 = 0) :
  o4 acc a (uR f (m + 1) (b.drop a)) = o4 (acc ++ [(f (b.drop a)).1]) (a + (f (b.drop a)).2.1) (uR f m (b.drop (a + (f (b.drop a)).2.1))) := by
 rw [uR,if_neg (fun c=>c h),List.drop_drop]
 generalize uR f m (b.drop (a + (f (b.drop a)).2.1)) = t
 by_cases c : t.2.2 = 0
 ·simp [o4,c,Nat.add_assoc]
 ·simp [o4,c]
theorem zS {α : Type} {f : List UInt8 → α × Nat × Int} {acc : List α} {a : Nat} {b : List UInt8} : o4 acc a (uR f 0 b) = (acc,a,0) := by
 simp [o4,uR]
theorem oh {α : Type} {f : List UInt8 → α × Nat × Int} {b : List UInt8} (h : (qu b).2.2 = 0) : wP f b = o4 [] (qu b).2.1 (uR f (qu b).1.toNat (b.drop (qu b).2.1)) := by
 unfold wP o4
 rw [if_neg (fun c=>c h)]
 simp
theorem qR {b : List UInt8} {a : Nat} : ((b.map qr).take (b.length)).drop a = (b.drop a).map qr := by
 rw [← List.map_take,← List.map_drop,List.take_length]
theorem Qi {b : List UInt8} {H : AH} {R : D → AH → Prop} (hB : b.length ≤ 1000000000) (h : R (.tup [.own (strs (jn b).1),.int .i64 ((jn b).2.1 : Int),.int .i64 (jn b).2.2]) H) : ACall Tryz.prog 65 [.slc (b.map qr)] H R := by
 refine b65 fun hf=>?_
 have hbig := qt
 have hle := vf (b := b)
 have hok := yY (b := b)
 have hb := wz hf.1
 have hfin := oh (f := qF) (b := b)
 have hk : ∀ t,jn b = t → R (.tup [.own (strs t.1),.int .i64 (t.2.1 : Int),.int .i64 t.2.2]) H := fun t ht=>by rw [← ht]; exact h
 clear h
 unfold jn at hk
 simp +contextual only [x65,qh,↓U65,↓XP,qm,XW1,qa,qb,qc,qd,qe,qf,reduceCtorEq]
 refine gE ?_
 have hok2 : (qu b).2.2 = 0 → 0 ≤ (qu b).1 ∧ (qu b).1 + (qu b).2.1 ≤ b.length := fun h=>⟨(hok h).1,(hok h).2.1⟩
 have hbad : ¬ (qu b).2.2 = 0 → wP qF b = ([],0,(qu b).2.2) := fun h=>by unfold wP; rw [if_pos h]
 clear hok
 generalize qu b = t at hfin hle hok2 hbad ⊢
 obtain ⟨n,k,e⟩ := t
 dsimp only at hfin hle hok2 hbad ⊢
 rcases Classical.em (e = 0) with c1 | c1
 ·subst c1
  obtain ⟨g1,g2⟩ := hok2 rfl
  replace hfin := hfin rfl
  obtain ⟨n,rfl⟩ := Int.eq_ofNat_of_zero_le g1
  rw [Int.toNat_natCast] at hfin
  simp +contextual only [x65,qh,↓U65,↓XP,qm,XW1,qa,qb,qc,qd,qe,qf,reduceCtorEq]
  refine fun _ _ _=>XW.loopK Go.Proofs.YtoeckfegggongaaGreatDoor.hm (fun F H'=>∃ (i a : Nat) (acc : List (List UInt8)),i ≤ n ∧ a ≤ b.length ∧ acc.length = i ∧ wP qF b = o4 acc a (uR qF (n - i) (b.drop a)) ∧ Fr 45 [(0,.slc (b.map qr)),(6,.int .i64 (a : Int)),(8,.own (strs acc)),(21,.int .i64 (n : Int)),(22,.int .i64 (i : Int))] F ∧ H = H') (fun F H=>match F.getD 22 .any with | .int _ n'=>n - n'.toNat | _=>0) ⟨0,k,[],by omega,by omega,rfl,hfin,⟨rfl,rfl,rfl,rfl,rfl,rfl,trivial⟩,rfl⟩ ?_
  rintro _ _ ⟨i,a,acc,hi,ha,hac,hfi,hF,rfl⟩ K hN hE hR
  obtain ⟨z,rfl⟩ : ∃ z : Nat → D,_ = .slc (b.map qr) :: zz z 1 5 (.int .i64 (a : Int) :: z 7 :: .own (strs acc) :: zz z 9 12 (.int .i64 (n : Int) :: .int .i64 (i : Int) :: zz z 23 22 [])) := hF.lit
  try dsimp only [zz,qb] at *
  clear hF
  have sl : (strs acc).length = acc.length := qJ
  have wa := qR (b := b) (a := a)
  rcases Classical.em (i < n) with hlt | hlt
  ·obtain ⟨m,hm⟩ : ∃ m,n - i = m + 1 := ⟨n - i - 1,by omega⟩
   rw [hm] at hfi
   have q1 := vQ (b := b.drop a)
   rw [List.length_drop] at q1
   have nx : (qF (b.drop a)).2.2 = 0 → ∀ F',Fr 45 [(0,.slc (b.map qr)),(6,.int .i64 ((a + (qF (b.drop a)).2.1 : Nat) : Int)),(8,.own (strs (acc ++ [(qF (b.drop a)).1]))),(21,.int .i64 (n : Int)),(22,.int .i64 ((i + 1 : Nat) : Int))] F' → K .normal F' H := fun he F' hF'=>hN _ _ ⟨i + 1,a + (qF (b.drop a)).2.1,acc ++ [(qF (b.drop a)).1],by omega,by omega,by simp; omega,by rw [hfi,oq he,show n - (i + 1) = m by omega],hF',(j9 rfl).symm⟩ (by
    rw [List.getD_eq_getElem?_getD,hF'.2.2.2.2.2.1]
    simp only [List.getD_cons_succ,List.getD_cons_zero,Option.getD_some]
    omega)
   have bad : ¬ (qF (b.drop a)).2.2 = 0 → R (.tup [.own (strs []),.int .i64 0,.int .i64 (qF (b.drop a)).2.2]) H := fun he=>hk ([],0,(qF (b.drop a)).2.2) (by rw [hfi,zO he])
   clear hN hE hk hfin hbad hfi
   simp +contextual only [x65,qh,hlt,Int.ofNat_lt,wa,↓U65,↓XP,qm,XW1,qa,qb,qc,qd,qe,qf,reduceCtorEq]
   refine ⟨qC,by omega,zp ?_⟩
   generalize qF (b.drop a) = t at q1 nx bad ⊢
   obtain ⟨s,k,e⟩ := t
   dsimp only at q1 nx bad ⊢
   rcases Classical.em (e = 0) with c2 | c2
   ·subst c2
    have w2 : IntKind.i64.wrap ((a : Int) + (k : Int)) = ((a + k : Nat) : Int) := by rw [qw (by omega) (by omega)]; omega
    simp +contextual only [x65,qh,w2,qp (show i ≤ big by omega),↓U65,↓XP,qm,XW1,qa,qb,qc,qd,qe,qf,reduceCtorEq]
    refine fun _ _ _=>⟨Q1,by omega,nx rfl _ ?_⟩
    rw [show strs (acc ++ [s]) = strs acc ++ [[.str s]] by simp [strs]]
    exact ⟨rfl,rfl,rfl,rfl,rfl,rfl,trivial⟩
   ·simp +contextual only [x65,qh,eq_false c2,↓U65,↓XP,qm,XW1,qa,qb,qc,qd,qe,qf,reduceCtorEq]
    refine fun _ _ _=>hR _ _ ?_
    simp +contextual only [x65,qh,↓U65,↓XP,qm,XW1,qa,qb,qc,qd,qe,qf,reduceCtorEq]
    exact bad c2
  ·have hik : i = n := by omega
   subst hik
   clear hN
   rw [Nat.sub_self,zS] at hfi
   simp +contextual only [x65,qh,hlt,↓U65,↓XP,qm,XW1,qa,qb,qc,qd,qe,qf,reduceCtorEq]
   refine hE _ _ _ ?_
   simp +contextual only [x65,qh,↓U65,↓XP,qm,XW1,qa,qb,qc,qd,qe,qf,reduceCtorEq]
   exact hk _ hfi
 ·simp +contextual only [x65,qh,eq_false c1,↓U65,↓XP,qm,XW1,qa,qb,qc,qd,qe,qf,reduceCtorEq]
  exact fun _ _ _=>hk _ (hbad c1)
theorem r79 {args : List D} {H : AH} {R : D → AH → Prop} (h : facts args → xcode Tryz.prog x79 (args ++ List.replicate (6 - args.length) (.tup [])) H (Yb Tryz.prog [(.tmp 4)] R)) : ACall Tryz.prog 79 args H R :=
 wT hm Tryz.func79 rfl (by kernel_rfl) (by kernel_rfl) (by kernel_rfl) (by kernel_rfl) (by kernel_rfl) (by kernel_rfl) h
theorem Uz {fi : Nat} {b : List UInt8} {a : Nat} {H : AH} {R : D → AH → Prop} (hfi : fi = 96) (h : ∀ b2 b3,qZ H b2 → (b2 ≠ b3 ∧ qZ H b3) → R (.fn fi [.ptr b2 0,.ptr b3 0]) ((b3,.cells [.int .i64 a]) :: (b2,.cells [.slc (b.map qr)]) :: H)) : ACall Tryz.prog 79 [.slc (b.map qr),.int .i64 a] H R := by
 refine r79 fun hf=>?_
 subst hfi
 simp +contextual only [x79,Yk,jG,jZ,↓XP,qm,XW1,qa,qb,qc,qd,qe,qf,reduceCtorEq]
 refine fun b2 h2 b3 h3=>⟨_,Sbn.sub (List.Sublist.refl _),h b2 b3 h2 h3⟩
theorem VJ {b : List UInt8} {a b2 b3 : Nat} {H : AH} {R : D → AH → Prop} (ha : a ≤ b.length) (hne : b2 ≠ b3) (h2 : qK H b2 = none) (h3 : qK H b3 = none)
  (h : b.length ≤ 140737488355328 → R (.tup [.int .i64 (qA (b.drop a)).1,.int .i64 ((a + (qA (b.drop a)).2.1 : Nat) : Int),.int .i64 (qA (b.drop a)).2.2]) ((b3,.cells [.int .i64 ((a + (qA (b.drop a)).2.1 : Nat) : Int)]) :: (b2,.cells [.slc (b.map qr)]) :: H)) :
  ACall Tryz.prog 96 [.ptr b2 0,.ptr b3 0] ((b3,.cells [.int .i64 a]) :: (b2,.cells [.slc (b.map qr)]) :: H) R := by
 refine b96 fun hf=>?_
 have hbig := qt
 have q1 := vJ (b := b.drop a)
 rw [List.length_drop] at q1
 have hne' := Ne.symm hne
 simp +contextual only [x96,qh,qR,qg hne,↓U96,↓XP,qm,XW1,qa,qb,qc,qd,qe,qf,reduceCtorEq]
 refine fun hb _=>⟨qC,by omega,oG ?_⟩
 replace h := h (by omega)
 generalize qA (b.drop a) = t at h q1 ⊢
 obtain ⟨x,k,e⟩ := t
 dsimp only at h q1 ⊢
 have w1 : IntKind.i64.wrap ((a : Int) + (k : Int)) = ((a + k : Nat) : Int) := by rw [qw (by omega) (by omega)]; omega
 simp +contextual only [x96,qh,qR,qg hne,w1,↓U96,↓XP,qm,XW1,qa,qb,qc,qd,qe,qf,reduceCtorEq]
 exact fun _ _ _ _ _=>h
theorem Ya {b : List UInt8} {H : AH} {R : D → AH → Prop} (hB : b.length ≤ 1000000000) (h : R (.tup [.own (ints (qG b).1),.int .i64 ((qG b).2.1 : Int),.int .i64 (qG b).2.2]) H) : ACall Tryz.prog 63 [.slc (b.map qr)] H R := by
 refine b63 fun hf=>?_
 have hbig := qt
 have hle := vf (b := b)
 have hok := yY (b := b)
 have hfin := oh (f := qA) (b := b)
 have hk : ∀ t,qG b = t → R (.tup [.own (ints t.1),.int .i64 (t.2.1 : Int),.int .i64 t.2.2]) H := fun t ht=>by rw [← ht]; exact h
 clear h
 unfold qG at hk
 simp +contextual only [Ud,qh,↓U63,↓XP,qm,XW1,qa,qb,qc,qd,qe,qf,reduceCtorEq]
 refine gE ?_
 have hok2 : (qu b).2.2 = 0 → 0 ≤ (qu b).1 ∧ (qu b).1 + (qu b).2.1 ≤ b.length := fun h=>⟨(hok h).1,(hok h).2.1⟩
 have hbad : ¬ (qu b).2.2 = 0 → wP qA b = ([],0,(qu b).2.2) := fun h=>by unfold wP; rw [if_pos h]
 clear hok
 generalize qu b = t at hfin hle hok2 hbad ⊢
 obtain ⟨n,k,e⟩ := t
 dsimp only at hfin hle hok2 hbad ⊢
 rcases Classical.em (e = 0) with c1 | c1
 ·subst c1
  obtain ⟨g1,g2⟩ := hok2 rfl
  replace hfin := hfin rfl
  obtain ⟨n,rfl⟩ := Int.eq_ofNat_of_zero_le g1
  rw [Int.toNat_natCast] at hfin
  simp +contextual only [Ud,qh,↓U63,↓XP,qm,XW1,qa,qb,qc,qd,qe,qf,reduceCtorEq]
  obtain ⟨fi,hfi⟩ : ∃ fi,fi = 96 := ⟨_,rfl⟩
  refine fun _ _ _=>Uz (fi := fi) hfi fun b2 b3 h2 h3=>?_
  have n2 := jh h2
  have n3 := jh h3.2
  simp +contextual only [Ud,qh,↓U63,↓XP,qm,XW1,qa,qb,qc,qd,qe,qf,reduceCtorEq]
  refine XW.loopK Go.Proofs.YtoeckfegggongaaGreatDoor.hm (fun F H'=>∃ (i a : Nat) (acc : List Int),i ≤ n ∧ a ≤ b.length ∧ acc.length = i ∧ wP qA b = o4 acc a (uR qA (n - i) (b.drop a)) ∧ Fr 45 [(6,.int .i64 (a : Int)),(8,.fn fi [.ptr b2 0,.ptr b3 0]),(9,.own (ints acc)),(25,.int .i64 (n : Int)),(26,.int .i64 (i : Int))] F ∧ H' = ((b3,.cells [.int .i64 a]) :: (b2,.cells [.slc (b.map qr)]) :: H)) (fun F H=>match F.getD 26 .any with | .int _ n'=>n - n'.toNat | _=>0) ⟨0,k,[],by omega,by omega,rfl,hfin,⟨rfl,rfl,rfl,rfl,rfl,rfl,trivial⟩,rfl⟩ ?_
  rintro _ _ ⟨i,a,acc,hi,ha,hac,hfi',hF,rfl⟩ K hN hE hR
  obtain ⟨z,rfl⟩ : ∃ z : Nat → D,_ = zz z 0 6 (.int .i64 (a : Int) :: z 7 :: .fn fi [.ptr b2 0,.ptr b3 0] :: .own (ints acc) :: zz z 10 15 (.int .i64 (n : Int) :: .int .i64 (i : Int) :: zz z 27 18 [])) := hF.lit
  try dsimp only [zz,qb] at *
  clear hF
  have sl : (ints acc).length = acc.length := qn
  rcases Classical.em (i < n) with hlt | hlt
  ·obtain ⟨m,hm⟩ : ∃ m,n - i = m + 1 := ⟨n - i - 1,by omega⟩
   rw [hm] at hfi'
   have q1 := vJ (b := b.drop a)
   rw [List.length_drop] at q1
   have nx : (qA (b.drop a)).2.2 = 0 → ∀ F' H',back ((b3,AO.cells [.int .i64 a]) :: (b2,AO.cells [.slc (b.map qr)]) :: H).length H' = ((b3,AO.cells [.int .i64 ((a + (qA (b.drop a)).2.1 : Nat) : Int)]) :: (b2,AO.cells [.slc (b.map qr)]) :: H) → Fr 45 [(6,.int .i64 ((a + (qA (b.drop a)).2.1 : Nat) : Int)),(8,.fn fi [.ptr b2 0,.ptr b3 0]),(9,.own (ints (acc ++ [(qA (b.drop a)).1]))),(25,.int .i64 (n : Int)),(26,.int .i64 ((i + 1 : Nat) : Int))] F' → K .normal F' H' := fun he F' H' hH hF'=>hN _ _ ⟨i + 1,a + (qA (b.drop a)).2.1,acc ++ [(qA (b.drop a)).1],by omega,by omega,by simp; omega,by rw [hfi',oq he,show n - (i + 1) = m by omega],hF',hH⟩ (by
    rw [List.getD_eq_getElem?_getD,hF'.2.2.2.2.2.1]
    simp only [List.getD_cons_succ,List.getD_cons_zero,Option.getD_some]
    omega)
   have bad : ¬ (qA (b.drop a)).2.2 = 0 → R (.tup [.own (ints []),.int .i64 0,.int .i64 (qA (b.drop a)).2.2]) H := fun he=>hk ([],0,(qA (b.drop a)).2.2) (by rw [hfi',zO he])
   clear hN hE hk hfin hbad hfi'
   simp +contextual only [Ud,qh,hlt,Int.ofNat_lt,↓U63,↓XP,qm,XW1,qa,qb,qc,qd,qe,qf,reduceCtorEq]
   rw [hfi]
   refine VJ ha h3.1 n2 n3 fun _=>?_
   rw [← hfi]
   generalize qA (b.drop a) = t at q1 nx bad ⊢
   obtain ⟨s,k,e⟩ := t
   dsimp only at q1 nx bad ⊢
   rcases Classical.em (e = 0) with c2 | c2
   ·subst c2
    simp +contextual only [Ud,qh,qp (show i ≤ big by omega),↓U63,↓XP,qm,XW1,qa,qb,qc,qd,qe,qf,reduceCtorEq]
    refine fun _ _ _=>⟨wb,by omega,nx rfl _ _ (j9 rfl) ?_⟩
    rw [show ints (acc ++ [s]) = ints acc ++ [[.int .i64 s]] by simp [ints]]
    exact ⟨rfl,rfl,rfl,rfl,rfl,rfl,trivial⟩
   ·simp +contextual only [Ud,qh,eq_false c2,↓U63,↓XP,qm,XW1,qa,qb,qc,qd,qe,qf,reduceCtorEq]
    refine fun _ _ _=>hR _ _ ?_
    simp +contextual only [Ud,qh,↓U63,↓XP,qm,XW1,qa,qb,qc,qd,qe,qf,reduceCtorEq]
    exact bad c2
  ·have hik : i = n := by omega
   subst hik
   clear hN
   rw [Nat.sub_self,zS] at hfi'
   simp +contextual only [Ud,qh,hlt,↓U63,↓XP,qm,XW1,qa,qb,qc,qd,qe,qf,reduceCtorEq]
   refine hE _ _ _ ?_
   simp +contextual only [Ud,qh,↓U63,↓XP,qm,XW1,qa,qb,qc,qd,qe,qf,reduceCtorEq]
   exact hk _ hfi'
 ·simp +contextual only [Ud,qh,eq_false c1,↓U63,↓XP,qm,XW1,qa,qb,qc,qd,qe,qf,reduceCtorEq]
  exact fun _ _ _=>hk _ (hbad c1)
end Go.Proofs.YtoeckfegggongaaGreatDoor
end
section
namespace Go.Proofs.YtoeckfegggongaaGreatDoor
open Go Go.Aw
def v8 (b : List UInt8) (bad : Bool) : AO := .cells [.slc (b.map qr),.bool bad]
theorem J9 {b : List UInt8} {bad : Bool} {br k : Nat} {e : Int} {H : AH} {R : D → AH → Prop} (hk : k ≤ b.length) (hg : qK H br = some (v8 b bad))
  (h : R (.tup []) (qY H br (v8 (b.drop k) (bad || decide (e ≠ 0))))) : ACall Tryz.prog 36 [.ptr br 0,.int .i64 k,.int .i64 e] H R := by
 refine b36 fun hf=>?_
 have hbig := qt
 unfold v8 at hg h
 have hs2 : ∀ o,qK (qY H br o) br = some o := fun o=>Qz (by rw [hg]; rfl)
 have hs3 : ∀ o o',qY (qY H br o) br o' = qY H br o' := fun o o'=>QM
 cases bad with
 | true =>
  simp +contextual only [x36,qh,qR,hg,hs2,hs3,↓KL,↓XP,qm,XW1,qa,qb,qc,qd,qe,qf,reduceCtorEq]
  exact fun _=>⟨qC,by omega,h⟩
 | false =>
  rcases Classical.em (e = 0) with c | c
  ·subst c
   simp +contextual only [x36,qh,qR,hg,hs2,hs3,↓KL,↓XP,qm,XW1,qa,qb,qc,qd,qe,qf,reduceCtorEq]
   exact fun _=>⟨qC,by omega,h⟩
  ·rw [decide_eq_true (show e ≠ 0 from c)] at h
   simp +contextual only [x36,qh,qR,hg,hs2,hs3,eq_false c,↓KL,↓XP,qm,XW1,qa,qb,qc,qd,qe,qf,reduceCtorEq]
   exact fun _=>⟨qC,by omega,h⟩
def ya (b : List UInt8) (bad : Bool) (many : Int) (by' : Nat) : Bool := bad || decide ((qG b).2.2 ≠ 0) || decide ((0 ≤ many ∧ ((qG b).1.length : Int) ≠ many) ∨ (qG b).1.length % by' ≠ 0)
def Q8 (b : List UInt8) (bad : Bool) (many : Int) (by' : Nat) : List Int := if ya b bad many by' = true then List.replicate many.toNat 0 else (qG b).1
theorem og {b : List UInt8} {bad : Bool} {br by' : Nat} {many : Int} {H : AH} {R : D → AH → Prop} (hB : b.length ≤ 1000000000) (hm : many ≤ 1000) (h0 : 0 < by') (hby : by' ≤ 1000) (hg : qK H br = some (v8 b bad))
  (h : ∀ d : D,d.view = .slc (ints (Q8 b bad many by')) → R d (qY H br (v8 (b.drop (qG b).2.1) (ya b bad many by')))) : ACall Tryz.prog 33 [.ptr br 0,.int .i64 many,.int .i64 by'] H R := by
 refine b33 fun hf=>?_
 have hbig := qt
 have hle := ints_le (b := b)
 have hg' := hg
 unfold v8 at hg'
 have hs2 : ∀ o,qK (qY H br o) br = some o := fun o=>Qz (by rw [hg]; rfl)
 have hs3 : ∀ o o',qY (qY H br o) br o' = qY H br o' := fun o o'=>QM
 simp +contextual only [x33,qh,qR,hs2,hs3,qn,hg',↓U33,↓XP,qm,XW1,qa,qb,qc,qd,qe,qf,reduceCtorEq]
 refine fun _=>Ya hB ?_
 simp +contextual only [x33,qh,qR,hs2,hs3,qn,hg',↓U33,↓XP,qm,XW1,qa,qb,qc,qd,qe,qf,reduceCtorEq]
 refine fun _ _ _=>J9 hle.1 hg ?_
 generalize (qG b).2.1 = k at hle h ⊢
 unfold ya Q8 ya at h
 generalize (qG b).2.2 = e at h ⊢
 generalize (qG b).1 = l at hle h ⊢
 have hb1 : (bad = true ∨ e ≠ 0 ∨ (0 ≤ many ∧ (l.length : Int) ≠ many) ∨ l.length % by' ≠ 0) → R (.own (List.replicate many.toNat [.int .i64 0])) (qY H br (.cells [.slc ((b.drop k).map qr),.bool true])) := fun hc=>by
  have e1 : (bad || decide (e ≠ 0) || decide ((0 ≤ many ∧ (l.length : Int) ≠ many) ∨ l.length % by' ≠ 0)) = true := by simpa [or_assoc] using hc
  rw [e1,if_pos rfl] at h
  exact h _ (by rw [show ints (List.replicate many.toNat 0) = List.replicate many.toNat [.int .i64 0] by simp [ints]]; rfl)
 have hb2 : ¬ (bad = true ∨ e ≠ 0 ∨ (0 ≤ many ∧ (l.length : Int) ≠ many) ∨ l.length % by' ≠ 0) → R (.slc (ints l)) (qY H br (.cells [.slc ((b.drop k).map qr),.bool false])) := fun hc=>by
  have e1 : (bad || decide (e ≠ 0) || decide ((0 ≤ many ∧ (l.length : Int) ≠ many) ∨ l.length % by' ≠ 0)) = false := by
   rw [← Bool.not_eq_true]
   intro hh
   exact hc (by simpa [or_assoc] using hh)
  rw [e1,if_neg (by simp)] at h
  exact h _ rfl
 clear h
 obtain ⟨i,i1,i2⟩ : ∃ i,Tryz.prog.info? 3 = some i ∧ i.bytes = 8 := ⟨_,rfl,rfl⟩
 have m1 : (if 0 > many then (0 : Int) else many) = (many.toNat : Int) := by split <;> omega
 have m2 : (0 ≤ (many.toNat : Int)) = True := eq_true (by omega)
 have m3 : (((8 : Nat) : Int) * (many.toNat : Int) ≤ 140737488355328) = True := eq_true (by omega)
 have m4 : ((many.toNat : Int) ≤ 140737488355328) = True := eq_true (by omega)
 have m5 : ((by' : Int) = 0) = False := eq_false (by omega)
 have m6 : ((l.length : Int)).tmod (by' : Int) = ((l.length % by' : Nat) : Int) := rfl
 have go : ∀ {p q : Prop},(p → q) → (¬ p → q) → q := fun a b=>(Classical.em _).elim a b
 refine go (p := e = 0) (fun c2=>?_) (fun c2=>?_) <;> refine go (p := 0 ≤ many) (fun c3=>?_) (fun c3=>?_) <;> refine go (p := (l.length : Int) = many) (fun c4=>?_) (fun c4=>?_) <;> refine go (p := l.length % by' = 0) (fun c5=>?_) (fun c5=>?_) <;> cases bad
 all_goals
  first
   | have c2' := eq_false c2
   | have c2' := eq_true c2
  first
   | have c3' := eq_false c3
   | have c3' := eq_true c3
  first
   | have c4' := eq_false c4
   | have c4' := eq_true c4
  first
   | have c5' : (((l.length % by' : Nat) : Int) = 0) = True := eq_true (by omega)
   | have c5' : (((l.length % by' : Nat) : Int) = 0) = False := eq_false (by omega)
  simp +contextual only [x33,qh,qR,hs2,hs3,qn,v8,i1,i2,m1,m2,m3,m4,m5,m6,c2',c3',c4',c5',Int.toNat_natCast,↓U33,↓XP,qm,XW1,qa,qb,qc,qd,qe,qf,reduceCtorEq]
  intros
  first
   | (exfalso; omega)
   | exact hb1 (by simp [*])
   | exact hb2 (by simp [*])
end Go.Proofs.YtoeckfegggongaaGreatDoor
end
section
namespace Go.Proofs.YtoeckfegggongaaGreatDoor
open Go Go.Aw
def sml (n : Int) : Prop := -2000000 ≤ n ∧ n ≤ 2000000
theorem ua {n : Int} (h : sml n) : wC .i64 n := by
 rw [yj]
 unfold sml at h
 omega
theorem g8 {x : Id3} (h : jq x ∨ x = v9) : sml x.o ∧ sml x.s ∧ sml x.i := by
 unfold sml
 rcases h with h | h
 ·unfold jq at h; omega
 ·subst h; simp [v9]
theorem uses_k {k : Int} (h : uses k ≠ []) : 1 ≤ k ∧ k ≤ 18 := by
 refine Classical.byContradiction fun hc=>h ?_
 unfold uses
 repeat rw [if_neg (by omega)]
theorem wF {o : OpP} (h : vi o) : (∀ x ∈ jE o,sml x) ∧ (∀ x ∈ o.ids,sml x.o ∧ sml x.s ∧ sml x.i) ∧ o.ids.length ≤ 4 ∧ o.name.length ≤ 16 ∧ o.text.length ≤ 1024 := by
 obtain ⟨⟨h1,h2,h3,h4,h5⟩,⟨g1,g2,g3,g4⟩,⟨i1,i2,i3,i4⟩,⟨j1,j2⟩,_⟩ := h
 have hk := uses_k h1
 have hon : jq o.on ∨ o.on = v9 := by
  by_cases c : 79 ∈ uses o.k
  ·exact .inl (h2 c)
  ·exact .inr (h3 c)
 have hto : jq o.to ∨ o.to = v9 := by
  by_cases c : 84 ∈ uses o.k
  ·exact .inl (h4 c)
  ·exact .inr (h5 c)
 have hil : o.ids.length ≤ 4 := by
  by_cases c : 73 ∈ uses o.k
  ·obtain ⟨_,_,c3,c4⟩ := g3 c
   by_cases c5 : o.k = 18
   ·have := c3 c5; omega
   ·exact (c4 c5).2
  ·rw [g4 c]; simp
 have hids : ∀ x ∈ o.ids,sml x.o ∧ sml x.s ∧ sml x.i := by
  intro x hx
  by_cases c : 73 ∈ uses o.k
  ·exact g8 (.inl ((g3 c).1 x hx).1)
  ·rw [g4 c] at hx; simp at hx
 have hn : sml o.n := by
  by_cases c : 78 ∈ uses o.k
  ·obtain ⟨c1,c2⟩ := g1 c
   unfold yl at c1
   unfold kD at c2
   unfold sml
   constructor
   ·split at c1 <;> omega
   ·repeat' (split at c2)
    all_goals omega
  ·rw [g2 c]; unfold sml; omega
 have hab : sml o.a ∧ sml o.b := by
  unfold sml
  by_cases c : 83 ∈ uses o.k
  ·have := j1 c; unfold kA at this; omega
  ·have := j2 c; omega
 have hk2 : sml o.k := by unfold sml; omega
 have a1 := g8 hon
 have a2 := g8 hto
 refine ⟨?_,hids,hil,?_,?_⟩
 ·intro x hx
  simp only [jE,yR,List.cons_append,List.nil_append,List.mem_cons,List.not_mem_nil,or_false] at hx
  rcases hx with rfl | rfl | rfl | rfl | rfl | rfl | rfl | rfl | rfl | rfl
  ·exact hk2
  ·exact a1.1
  ·exact a1.2.1
  ·exact a1.2.2
  ·exact a2.1
  ·exact a2.2.1
  ·exact a2.2.2
  ·exact hn
  ·exact hab.1
  ·exact hab.2
 ·by_cases c : 65 ∈ uses o.k
  ·exact (i1 c).2
  ·rw [i2 c]; simp
 ·by_cases c : 88 ∈ uses o.k
  ·exact i3 c
  ·rw [i4 c]; simp
def triple (l : List Int) (j : Nat) : Id3 := ⟨l.getD (3 * j) 0,l.getD (3 * j + 1) 0,l.getD (3 * j + 2) 0⟩
def triples (l : List Int) : List Id3 := (List.range (l.length / 3)).map (triple l)
def pair (l : List Int) (j : Nat) : Rf := ⟨l.getD (2 * j) 0,l.getD (2 * j + 1) 0⟩
def pairs (l : List Int) : List Rf := (List.range (l.length / 2)).map (pair l)
theorem vp : ∀ (l : List Id3),triples (l.flatMap yR) = l
 | []=>rfl
 | x :: l=>by
  have h := vp l
  unfold triples at h ⊢
  rw [kx] at h ⊢
  rw [show 3 * (x :: l).length / 3 = l.length + 1 by rw [List.length_cons]; omega,List.range_succ_eq_map,List.map_cons,List.map_map]
  rw [show 3 * l.length / 3 = l.length by omega] at h
  rw [show triple ((x :: l).flatMap yR) 0 = x from rfl]
  exact congrArg _ h
theorem uH : ∀ (l : List Rf),pairs (qT l) = l
 | []=>rfl
 | x :: l=>by
  have h := uH l
  unfold pairs at h ⊢
  rw [jS] at h ⊢
  rw [show 2 * (x :: l).length / 2 = l.length + 1 by rw [List.length_cons]; omega,List.range_succ_eq_map,List.map_cons,List.map_map]
  rw [show 2 * l.length / 2 = l.length by omega] at h
  rw [show pair (qT (x :: l)) 0 = x from rfl]
  exact congrArg _ h
theorem Ja {l : List Int} {r : List UInt8} {many : Int} {by' : Nat} (h : ∀ x ∈ l,wC .i64 x) (hb : l.length ≤ 140737488355328) (hm : 0 ≤ many → (l.length : Int) = many) (hy : l.length % by' = 0) :
  ya (qN l ++ r) false many by' = false ∧ Q8 (qN l ++ r) false many by' = l ∧ (qN l ++ r).drop (qG (qN l ++ r)).2.1 = r := by
 have e := uc (rest := r) h hb
 have e1 : ya (qN l ++ r) false many by' = false := by
  unfold ya
  rw [e]
  simp [hy]
  exact hm
 refine ⟨e1,?_,?_⟩
 ·unfold Q8
  rw [e1,e]
  rfl
 ·rw [e]
  exact List.drop_left
def opOf (l : List Int) (ids : List Id3) (name text : List UInt8) : OpP := ⟨l.getD 0 0,⟨l.getD 1 0,l.getD 2 0,l.getD 3 0⟩,⟨l.getD 4 0,l.getD 5 0,l.getD 6 0⟩,ids,l.getD 7 0,name,text,l.getD 8 0,l.getD 9 0⟩
def gD (l m : List Int) (b2 : List UInt8) (x2 : Bool) : OpP × List UInt8 × Bool :=
 if (jn b2).1.length = 2 then (opOf l (triples m) ((jn b2).1.getD 0 []) ((jn b2).1.getD 1 []),b2.drop (jn b2).2.1,x2 || decide ((jn b2).2.2 ≠ 0))
 else (opOf l (triples m) [] [],b2.drop (jn b2).2.1,true)
def QU (l : List Int) (b1 : List UInt8) (x1 : Bool) : OpP × List UInt8 × Bool := gD l (Q8 b1 x1 (-1) 3) (b1.drop (qG b1).2.1) (ya b1 x1 (-1) 3)
def jy (b : List UInt8) (bad : Bool) : OpP × List UInt8 × Bool := QU (Q8 b bad 10 1) (b.drop (qG b).2.1) (ya b bad 10 1)
theorem op_enc {o : OpP} {r : List UInt8} (h : vi o) : jy (qX o ++ r) false = (o,r,false) := by
 obtain ⟨h1,h2,h3,h4,h5⟩ := wF h
 have e : qX o ++ r = qN (jE o) ++ (qN (o.ids.flatMap yR) ++ (jF [o.name,o.text] ++ r)) := by simp only [qX,List.append_assoc]
 have l10 : (jE o).length = 10 := rfl
 obtain ⟨a1,a2,a3⟩ := Ja (l := jE o) (r := qN (o.ids.flatMap yR) ++ (jF [o.name,o.text] ++ r)) (many := 10) (by' := 1) (fun x hx=>ua (h1 x hx)) (by omega) (fun _=>by rw [l10]; rfl) (by omega)
 have hi : ∀ x ∈ o.ids.flatMap yR,wC .i64 x := by
  intro x hx
  obtain ⟨y,hy,hx⟩ := List.mem_flatMap.1 hx
  have := h2 y hy
  simp only [yR,List.mem_cons,List.not_mem_nil,or_false] at hx
  rcases hx with rfl | rfl | rfl
  ·exact ua this.1
  ·exact ua this.2.1
  ·exact ua this.2.2
 obtain ⟨b1,b2,b3⟩ := Ja (l := o.ids.flatMap yR) (r := jF [o.name,o.text] ++ r) (many := -1) (by' := 3) hi (by rw [kx]; omega) (fun hc=>by omega) (by rw [kx]; omega)
 have s1 := JM (l := [o.name,o.text]) (rest := r) (by
  intro x hx
  simp only [List.mem_cons,List.not_mem_nil,or_false] at hx
  rcases hx with rfl | rfl <;> omega) (by simp)
 unfold jy QU
 rw [e,a1,a2,a3,b1,b2,b3]
 unfold gD
 rw [s1,vp]
 dsimp only
 rw [if_pos (by rfl),List.drop_left]
 rfl
def vO : Nat → List UInt8 → Bool → List OpP × List UInt8 × Bool
 | 0,b,bad=>([],b,bad)
 | c + 1,b,bad=>if bad = true then ([],b,bad) else ((jy b bad).1 :: (vO c (jy b bad).2.1 (jy b bad).2.2).1,(vO c (jy b bad).2.1 (jy b bad).2.2).2)
theorem JE : ∀ (l : List OpP) (r : List UInt8),(∀ o ∈ l,vi o) → vO l.length (l.flatMap qX ++ r) false = (l,r,false)
 | [],r,_=>rfl
 | o :: l,r,h=>by
  have e := op_enc (r := l.flatMap qX ++ r) (h o (.head _))
  have e2 := JE l r (fun x hx=>h x (.tail _ hx))
  rw [show (o :: l).flatMap qX ++ r = qX o ++ (l.flatMap qX ++ r) by simp,List.length_cons]
  unfold vO
  rw [e]
  dsimp only
  rw [e2]
  rfl
def w8 (many : Int) : Nat := min many.toNat 17
def Vt (l m : List Int) (ops : List OpP) (b4 : List UInt8) (x4 : Bool) : Pt × Bool := (⟨l.getD 0 0,l.getD 1 0,l.getD 2 0,pairs m,ops,(qF b4).1⟩,x4 || decide ((qF b4).2.2 ≠ 0))
def Kz (l m : List Int) (b2 : List UInt8) (x2 : Bool) : Pt × Bool :=
 Vt l m (vO (w8 (qA b2).1) (b2.drop (qA b2).2.1) (x2 || decide ((qA b2).2.2 ≠ 0))).1 (vO (w8 (qA b2).1) (b2.drop (qA b2).2.1) (x2 || decide ((qA b2).2.2 ≠ 0))).2.1 (vO (w8 (qA b2).1) (b2.drop (qA b2).2.1) (x2 || decide ((qA b2).2.2 ≠ 0))).2.2
def KC (l : List Int) (b1 : List UInt8) (x1 : Bool) : Pt × Bool := Kz l (Q8 b1 x1 (-1) 2) (b1.drop (qG b1).2.1) (ya b1 x1 (-1) 2)
def vZ (b : List UInt8) : Pt × Bool := KC (Q8 b false 3 1) (b.drop (qG b).2.1) (ya b false 3 1)
def Good (p : Pt) : Prop := v7 p = 0
theorem gP {p : Pt} (h : Good p) : y8 p ∧ p.needs.length ≤ 8 ∧ p.ops.length ≤ 16 ∧ wu p ∧ vR p ∧ p.sl.length ≤ 1200 := by
 unfold Good v7 at h
 by_cases c : jK p = 0
 ·rw [if_neg (fun d=>d c)] at h
  have hs : p.sl.length ≤ 1200 := by
   split at h
   ·simp at h
   ·omega
  unfold jK at c
  by_cases c1 : y8 p
  ·rw [if_neg (fun d=>d c1)] at c
   by_cases c2 : 8 < p.needs.length ∨ 16 < p.ops.length
   ·rw [if_pos c2] at c; simp at c
   rw [if_neg c2] at c
   by_cases c3 : p.ops = []
   ·rw [if_pos c3] at c; simp at c
   rw [if_neg c3] at c
   by_cases c4 : wu p
   ·rw [if_neg (fun d=>d c4)] at c
    by_cases c5 : vR p
    ·exact ⟨c1,by omega,by omega,c4,c5,hs⟩
    ·rw [if_pos c5] at c; simp at c
   ·rw [if_pos c4] at c; simp at c
  ·rw [if_pos c1] at c; simp at c
 ·rw [if_pos c] at h; exact (c h).elim
theorem pt_enc {p : Pt} (h : Good p) : vZ (ji p) = (p,false) := by
 obtain ⟨h1,h2,h3,h4,h5,h6⟩ := gP h
 unfold y8 at h1
 have e : ji p = qN [p.o,p.s,p.day] ++ (qN (qT p.needs) ++ (qy p.ops.length ++ (p.ops.flatMap qX ++ (qH p.sl ++ [])))) := by simp only [ji,List.append_assoc,List.append_nil]
 obtain ⟨a1,a2,a3⟩ := Ja (l := [p.o,p.s,p.day]) (r := qN (qT p.needs) ++ (qy p.ops.length ++ (p.ops.flatMap qX ++ (qH p.sl ++ [])))) (many := 3) (by' := 1) (by
  intro x hx
  simp only [List.mem_cons,List.not_mem_nil,or_false] at hx
  rw [yj]
  rcases hx with rfl | rfl | rfl <;> omega) (by simp) (fun _=>rfl) (by simp)
 obtain ⟨b1,b2,b3⟩ := Ja (l := qT p.needs) (r := qy p.ops.length ++ (p.ops.flatMap qX ++ (qH p.sl ++ []))) (many := -1) (by' := 2) (by
  intro x hx
  obtain ⟨y,hy,hx⟩ := List.mem_flatMap.1 hx
  obtain ⟨i,hi,hy⟩ := List.getElem_of_mem hy
  have hv := h4 i hi
  unfold kM at hv
  rw [jk hi,hy] at hv
  simp only [List.mem_cons,List.not_mem_nil,or_false] at hx
  rw [yj]
  rcases hx with rfl | rfl <;> omega) (by rw [jS]; omega) (fun hc=>by omega) (by rw [jS]; omega)
 have c1 := oc (m := (p.ops.length : Int)) (rest := p.ops.flatMap qX ++ (qH p.sl ++ [])) (Jm (by omega))
 have d1 := JE p.ops (qH p.sl ++ []) h5
 have f1 := oF (s := p.sl) (rest := []) (by omega)
 unfold vZ KC
 rw [e,a1,a2,a3,b1,b2,b3]
 unfold Kz
 rw [c1,show w8 ((p.ops.length : Int),(qy (p.ops.length : Int)).length,(0 : Int)).1 = p.ops.length by simp [w8]; omega,List.drop_left]
 rw [show (false || decide (((p.ops.length : Int),(qy (p.ops.length : Int)).length,(0 : Int)).2.2 ≠ 0)) = false from rfl,d1]
 unfold Vt
 rw [f1,uH]
 rfl
noncomputable def yv (b : List UInt8) : Pt × Int := open Classical in if (vZ b).2 = false ∧ v7 (vZ b).1 = 0 ∧ ji (vZ b).1 = b then ((vZ b).1,0) else (pt0,2)
theorem zx {p : Pt} (h : Good p) : yv (ji p) = (p,0) := by
 unfold yv
 rw [pt_enc h,if_pos ⟨rfl,h,rfl⟩]
theorem Kv {b : List UInt8} (h : ∀ p,Good p → ji p ≠ b) : yv b = (pt0,2) := by
 unfold yv
 rw [if_neg]
 rintro ⟨_,h2,h3⟩
 exact h _ h2 h3
end Go.Proofs.YtoeckfegggongaaGreatDoor
end
section
namespace Go.Proofs.YtoeckfegggongaaGreatDoor
open Go Go.Aw
theorem zP : ∀ (B A : List UInt8),val (A ++ B) = val A * 256 ^ B.length + val B
 | [],A=>by simp [val]
 | d :: r,A=>by
  have h1 := zP r (A ++ [d])
  have h2 := zP r [d]
  rw [vY] at h1
  rw [show A ++ d :: r = A ++ [d] ++ r by simp,h1,show d :: r = [d] ++ r from rfl,h2,List.length_append,List.length_singleton]
  have e : val [d] = d.toNat := by simp [val]
  rw [e,Nat.add_mul,Nat.add_comm 1,Nat.pow_succ,show 256 * val A * 256 ^ r.length = val A * (256 ^ r.length * 256) by rw [Nat.mul_comm 256 (val A),Nat.mul_assoc,Nat.mul_comm 256]]
  omega
theorem YO {d : UInt8} (h : d ≠ 0) (r : List UInt8) : val (d :: r) ≠ 0 := by
 rw [show d :: r = [d] ++ r from rfl,zP]
 have e : val [d] = d.toNat := by simp [val]
 have hd : d.toNat ≠ 0 := fun e=>h (UInt8.toNat_inj.1 e)
 have : 0 < 256 ^ r.length := Nat.pow_pos (by omega)
 have : 0 < val [d] * 256 ^ r.length := Nat.mul_pos (by omega) this
 omega
theorem WO : ∀ (L : List UInt8),(∀ d r,L = d :: r → d ≠ 0) → (digs (val L)).reverse = L := by
 intro L
 induction h : L.length generalizing L with
 | zero =>
  intro _
  rw [List.eq_nil_of_length_eq_zero h]
  simp [val,k9]
 | succ n ih =>
  intro hd
  rcases List.eq_nil_or_concat L with rfl | ⟨A,d,rfl⟩
  ·simp at h
  ·rw [List.concat_eq_append] at h hd ⊢
   have hA : ∀ e r,A = e :: r → e ≠ 0 := fun e r he=>hd e (r ++ [d]) (by rw [he]; rfl)
   have hv : val (A ++ [d]) ≠ 0 := by
    cases A with
    | nil=>exact YO (hd d [] rfl) []
    | cons e r=>exact YO (hA e r rfl) _
   rw [yh hv,vY,List.reverse_cons]
   have hdl := d.toNat_lt
   rw [show (256 * val A + d.toNat) / 256 = val A by omega,show (256 * val A + d.toNat) % 256 = d.toNat by omega,ih A (by simp at h; omega) hA]
   simp
theorem Ux {c : UInt8} {r : List UInt8} (h : qD c ≤ r.length) : (body c r).length = qD c := by
 simp [body]
 omega
theorem YY {c : UInt8} {r : List UInt8} (h8 : qD c ≤ 8) (hl : qD c ≤ r.length) (h0 : ¬ (0 < qD c ∧ qQ (turned c) (r.getD 0 0) = 0)) (hv : val (body c r) < 9223372036854775808) :
  qy (if turned c = true then -1 - (val (body c r) : Int) else (val (body c r) : Int)) = c :: r.take (qD c) := by
 have hd : (digs (val (body c r))).reverse = body c r := by
  apply WO
  intro d t hdt
  cases r with
  | nil=>simp [body] at hdt
  | cons x y =>
   unfold body at hdt
   cases hk : qD c with
   | zero=>rw [hk] at hdt; simp at hdt
   | succ k =>
    rw [hk] at hdt
    simp only [List.take_succ_cons,List.map_cons,List.cons.injEq] at hdt
    intro e
    refine h0 ⟨by omega,?_⟩
    simp only [List.getD_cons_zero]
    rw [hdt.1,e]
 have hlen : (digs (val (body c r))).length = qD c := by
  have := congrArg List.length hd
  rwa [List.length_reverse,Ux hl] at this
 have hc := c.toNat_lt
 have hmap : (body c r).map (qQ (turned c)) = r.take (qD c) := by
  unfold body
  rw [List.map_map]
  exact (List.map_congr_left fun x _=>Je).trans (List.map_id _)
 unfold qy
 by_cases ht : turned c = true
 ·have ht' : c.toNat < 128 := of_decide_eq_true ht
  rw [if_pos ht]
  have hm : mag (-1 - (val (body c r) : Int)) = val (body c r) := by unfold mag; rw [if_pos (by omega)]; omega
  rw [hm,hd,hlen,if_pos (by omega),show decide (-1 - (val (body c r) : Int) < 0) = turned c by rw [ht]; exact decide_eq_true (by omega),hmap]
  congr 1
  apply UInt8.toNat_inj.1
  have : qD c = 127 - c.toNat := by unfold qD; rw [if_pos ht']
  rw [UInt8.toNat_ofNat']
  omega
 ·have ht' : ¬ c.toNat < 128 := fun h=>ht (decide_eq_true h)
  rw [if_neg ht]
  have hm : mag (val (body c r) : Int) = val (body c r) := by unfold mag; rw [if_neg (by omega)]; omega
  rw [hm,hd,hlen,if_neg (by omega),show decide ((val (body c r) : Int) < 0) = turned c by
   have : turned c = false := by simpa using ht
   rw [this]; exact decide_eq_false (by omega),hmap]
  congr 1
  apply UInt8.toNat_inj.1
  have : qD c = c.toNat - 128 := by unfold qD; rw [if_neg ht']
  rw [UInt8.toNat_ofNat']
  omega
theorem ref_dec {c : UInt8} {r : List UInt8} {n : Int} (h8 : qD c ≤ 8) (hl : qD c ≤ r.length) (hv : val (body c r) < 9223372036854775808) (hn : n = if turned c = true then -1 - (val (body c r) : Int) else (val (body c r) : Int)) :
  qA (c :: r) = if qy n = (c :: r).take (qD c + 1) then (n,qD c + 1,0) else (0,0,2) := by
 have hin : wC .i64 n := by rw [hn,yj]; split <;> omega
 split
 ·next he =>
  have h1 : c :: r = qy n ++ r.drop (qD c) := by
   rw [he,List.take_succ_cons,List.cons_append,List.take_append_drop]
  have h2 : (qy n).length = qD c + 1 := by rw [he]; simp; omega
  rw [h1,oc hin,h2]
 ·next he =>
  unfold qA
  dsimp only
  rw [if_neg (by omega),if_neg (by omega)]
  split
  ·rfl
  ·next h0=>exact (he (by rw [hn,YY h8 hl h0 hv,List.take_succ_cons])).elim
theorem U1 {c : UInt8} {r : List UInt8} {j : Nat} (h8 : qD c ≤ 8) (hl : qD c ≤ r.length) (hj : j < qD c) (hm : 36028797018963967 < val ((r.take j).map (qQ (turned c)))) : qA (c :: r) = (0,0,2) := by
 have hb : body c r = (r.take j).map (qQ (turned c)) ++ ((r.take (qD c)).drop j).map (qQ (turned c)) := by
  unfold body
  rw [← List.map_append]
  congr 1
  have : r.take j = (r.take (qD c)).take j := by rw [List.take_take,Nat.min_eq_left (by omega)]
  rw [this,List.take_append_drop]
 have hv : 9223372036854775808 ≤ val (body c r) := by
  rw [hb,zP]
  have h1 : (256 : Nat) ^ 1 ≤ 256 ^ (((r.take (qD c)).drop j).map (qQ (turned c))).length := Nat.pow_le_pow_right (by omega) (by simp; omega)
  have h2 := Nat.mul_le_mul (show 36028797018963968 ≤ val ((r.take j).map (qQ (turned c))) by omega) h1
  omega
 unfold qA
 dsimp only
 rw [if_neg (by omega),if_neg (by omega)]
 split
 ·rfl
 ·first | rfl | rw [if_pos hv]
end Go.Proofs.YtoeckfegggongaaGreatDoor
end
section
namespace Go.Proofs.YtoeckfegggongaaGreatDoor
open Go Go.Aw Go.RowKit Go.Shelf
attribute [local go_sem] Oper.semAt_some
def Same (x y : Nat) : Prop := x = y
theorem Uk (n : Nat) (l b1 b2 len cap k m : Nat) (a : Option Addr) (hm0 : m = wt len k) (hk : 0 < k) (hk2 : k ≤ 1000) (hlc : len ≤ cap) (hlb : len ≤ big) (J Jx : List (Fin m) → World → Prop)
  (hY : ∀ pre (x : Fin m) W,J pre W → pre.length < m → YieldAt Fence.wide (n - 1) Tryz.prog l #[w7 a len k x.val] W fun e W' =>
   (e = .returned (.bool true) ∧ J (pre ++ [x]) W' ∧ KpB b1 b2 W W') ∨ (e = .returned (.bool false) ∧ Jx (pre ++ [x]) W'))
  (hJd : ∀ s A,J s A → J s A.drew) (W : World) (hB1 : W.cell? ⟨b1,0,none⟩ = some (.slice a len cap)) (hB2 : W.cell? ⟨b2,0,none⟩ = some (.int .i64 k)) (h0 : J [] W) :
  CallsIn Fence.wide n Tryz.prog 64 #[.func (.yield l) #[] #[],.pointer (some ⟨b1,0,none⟩),.pointer (some ⟨b2,0,none⟩)] W fun e W'=>(∃ v,e = .returned v) ∧
   ((∃ ys : List (Fin m),ys.map Fin.val = List.range m ∧ J ys W') ∨ (∃ pre : List (Fin m),True ∧ Jx pre W')) := by
 have hmo : Tryz.prog.follows .mixedOrders = true := by kernel_rfl
 refine callsIn_of_wp Tryz.func64 rfl trivial ?_ rfl
 simp only [Tryz.ntmps64,List.size_toArray,List.length_cons,List.length_nil,Nat.reduceAdd,Nat.reduceSub,Array.replicate_succ,Array.replicate_zero,List.push_toArray,List.append_toArray,List.nil_append,List.cons_append]
 gi_wp2
 gi_loopw [4] (fun i wr=>∃ (c i0 : Nat) (pre : List (Fin m)),c ≤ m ∧ Same i0 (c * k) ∧ i0 ≤ len + k ∧ i = .int .i64 i0 ∧ pre.map Fin.val = List.range c ∧ J pre wr ∧ KpB b1 b2 W wr)
  (fun i _=>len + k - (intOf i).toNat)
 case atStart=>exact ⟨0,0,[],Nat.zero_le _,by simp [Same],Nat.zero_le _,rfl,rfl,h0,rfl,rfl⟩
 case round =>
  obtain ⟨c,i0,pre,hc,hi0,hile,rfl,hpre,hJs,hk1,hk3⟩ := hrel
  have hc1 : wr.cell? ⟨b1,0,none⟩ = some (.slice a len cap) := hk1.trans hB1
  have hc2 : wr.cell? ⟨b2,0,none⟩ = some (.int .i64 k) := hk3.trans hB2
  have hbig := qt
  by_cases hlt : i0 < len
  ·have hcm1 : c < m := by
    unfold Same at hi0
    subst hm0 hi0
    unfold wt
    refine (Nat.le_div_iff_mul_le hk).2 ?_
    rw [Nat.succ_mul]
    omega
   have hlt' : (i0 : Int) < len := by omega
   obtain ⟨e0,he0⟩ : ∃ e0,e0 = min k (len - i0) := ⟨_,rfl⟩
   have he1 : min (k : Int) (len - i0 : Nat) = e0 := by omega
   have he2 : 0 < e0 := by omega
   have he3 : i0 + e0 ≤ len := by omega
   obtain ⟨fn,tmps,assign,body,hy,hR⟩ := hY _ (⟨c,hcm1⟩ : Fin m) wr.drew (hJd _ _ hJs) (by have := congrArg List.length hpre; simp at this; omega)
   unfold w7 at hy
   dsimp only at hy
   rw [← show i0 = c * k from hi0,← he0] at hy
   have hyA : ∀ x : Nat,e0 = x → (Instr.yield l #[Value.slice (Option.map (fun y=>y.add i0) a) (((i0 : Int) + (x : Int)).toNat - i0) (((i0 : Int) + (x : Int)).toNat - i0)]).run Tryz.prog wr.drew = .ok (.round l fn tmps assign body) wr.drew := fun x hx=>by
    rw [← hy,← hx]
    unfold sliced
    rw [if_neg (by omega),show ((i0 : Int) + (e0 : Int)).toNat = i0 + e0 by omega,Nat.mul_one]
   clear hy
   have hd1 : wr.drew.cell? ⟨b1,0,none⟩ = some (.slice a len cap) := hc1
   have hd2 : wr.drew.cell? ⟨b2,0,none⟩ = some (.int .i64 k) := hc2
   gi_wp2
   gi_region_o
   all_goals gi_wp2
   all_goals
    rw [hyA _ (by omega)]
    refine ⟨fun h=>(by cases h),hR.mono ?_⟩
    rintro e W3 (⟨rfl,hJ3,hk5,hk6⟩ | ⟨rfl,hJx3⟩)
    ·have hc3 : W3.cell? ⟨b1,0,none⟩ = some (.slice a len cap) := hk5.trans hd1
     have hc4 : W3.cell? ⟨b2,0,none⟩ = some (.int .i64 k) := hk6.trans hd2
     gi_wp2
     go_roundw
     case rel=>exact ⟨c + 1,i0 + k,pre ++ [⟨c,hcm1⟩],by omega,by unfold Same at *; rw [hi0,Nat.succ_mul],by omega,by simp,by rw [List.map_append,hpre,List.range_succ]; rfl,hJ3,hk5.trans hk1,hk6.trans hk3⟩
     case measure=>simp [intOf]; omega
    ·gi_wp2
     refine bodyPost_ret (results_none rfl _ _ _) rfl ?_
     exact ⟨⟨_,rfl⟩,.inr ⟨_,trivial,hJx3⟩⟩
  ·have hcm2 : c = m := by
    refine Nat.le_antisymm hc (Nat.le_of_not_lt fun h=>hlt ?_)
    rw [show i0 = c * k from hi0]
    exact YX hk (hm0 ▸ h)
   have hlt' : ¬ ((i0 : Int) < len) := by omega
   gi_wp2
   go_end0
   exact ⟨⟨_,rfl⟩,.inl ⟨pre,hpre.trans (by rw [hcm2,← hm0]),hJs⟩⟩
theorem it64 : ItC Tryz.prog 64 := by
 refine ⟨enters_of Tryz.func64 (by kernel_rfl) rfl,fun n a len cap k b1 b2 w _ hk hk2 hlc _ hlb h1 h2 hc1 hc2 l J Jx W hW hJ hJx hY h0=>?_⟩
 exact Uk n l b1 b2 len cap k _ a rfl hk hk2 hlc hlb J Jx hY (fun s A hA=>hJ s A A.drew none hA ⟨rfl,rfl,rfl,Nat.le_refl _,fun _ _ _=>rfl⟩ (fun r e=>by cases e)) W
  ((hW.cell (p := ⟨b1,0,none⟩) h1).trans hc1) ((hW.cell (p := ⟨b2,0,none⟩) h2).trans hc2) h0
end Go.Proofs.YtoeckfegggongaaGreatDoor
end
section
namespace Go.Proofs.YtoeckfegggongaaGreatDoor
open Go Go.Aw
theorem r34 {args : List D} {H : AH} {R : D → AH → Prop} (h : facts args → xcode Tryz.prog x34 (args ++ List.replicate (9 - args.length) (.tup [])) H (Yb Tryz.prog [(.tmp 4)] R)) : ACall Tryz.prog 34 args H R :=
 wT hm Tryz.func34 rfl (by kernel_rfl) (by kernel_rfl) (by kernel_rfl) (by kernel_rfl) (by kernel_rfl) (by kernel_rfl) h
theorem Yy {fi : Nat} {xs : List (List D)} {k : Int} {H : AH} {R : D → AH → Prop} (hfi : fi = 64) (hk : 1 ≤ k) (h : ∀ b2 b3,qZ H b2 → (b2 ≠ b3 ∧ qZ H b3) → R (.fn fi [.ptr b2 0,.ptr b3 0]) ((b3,.cells [.int .i64 k]) :: (b2,.cells [.slc xs]) :: H)) : ACall Tryz.prog 34 [.slc xs,.int .i64 k] H R := by
 refine r34 fun hf=>?_
 subst hfi
 simp +contextual only [x34,Yk,jG,jZ,show (k < 1) = False from eq_false (by omega),↓U34,↓XP,qm,XW1,qa,qb,qc,qd,qe,qf,reduceCtorEq]
 refine fun b2 h2 b3 h3 _=>⟨_,Sbn.sub (List.Sublist.refl _),h b2 b3 h2 h3⟩
section
variable {l : List XO} {r : List (List XO × XO × Bool)} {dst : Option Tmp} {g : Option (Option (Tmp × Bool))} {tk ta fl : Bool} {t : TypeId} {ps : Array (Nat × Operand)}
theorem kO : uo ((l,⟨.build t ps,dst,g,tk,ta⟩,fl) :: r) = uo r := .trans rfl rfl
theorem kP : yD ((l,⟨.build t ps,dst,g,tk,ta⟩,fl) :: r) = 0 + yD r := .trans rfl rfl
theorem kS : yy (.build t ps) = false := .trans rfl rfl
end
theorem YL {b : List UInt8} {bad : Bool} {m : Nat} : (Q8 b bad (m : Int) 1).length = m := by
 unfold Q8
 split
 ·simp
 ·next h =>
  unfold ya at h
  simp at h
  omega
theorem VE {b : List UInt8} {bad : Bool} {k : Nat} : (Q8 b bad (-1) k).length % k = 0 := by
 unfold Q8
 split
 ·simp
 ·next h =>
  unfold ya at h
  simp at h
  exact h.2
theorem Yg {b : List UInt8} {bad : Bool} {k : Nat} : (Q8 b bad (-1) k).length ≤ b.length := by
 unfold Q8
 split
 ·simp
 ·exact ints_le.2
theorem JY {l : List Int} (h : l.length = 10) : ∃ a0 a1 a2 a3 a4 a5 a6 a7 a8 a9,l = [a0,a1,a2,a3,a4,a5,a6,a7,a8,a9] := by
 match l,h with
 | [a0,a1,a2,a3,a4,a5,a6,a7,a8,a9],_=>exact ⟨_,_,_,_,_,_,_,_,_,_,rfl⟩
theorem chunk_3 {m : List Int} {j : Nat} (h3 : m.length % 3 = 0) (hj : j < wt (ints m).length 3) : (jM (ints m) 3 j).length = 3 ∧ (jM (ints m) 3 j).getD 0 [] = [.int .i64 (triple m j).o] ∧ (jM (ints m) 3 j).getD 1 [] = [.int .i64 (triple m j).s] ∧ (jM (ints m) 3 j).getD 2 [] = [.int .i64 (triple m j).i] := by
 unfold wt at hj
 rw [qn] at hj
 have hlt : j * 3 + 2 < m.length := by omega
 have hg : ∀ i,i < 3 → (jM (ints m) 3 j).getD i [] = [.int .i64 (m.getD (3 * j + i) 0)] := by
  intro i hi
  unfold jM
  rw [List.getD_eq_getElem?_getD,List.getElem?_take_of_lt hi,List.getElem?_drop,ints,List.getElem?_map,List.getElem?_eq_getElem (show j * 3 + i < m.length by omega)]
  rw [List.getD_eq_getElem?_getD,List.getElem?_eq_getElem (show 3 * j + i < m.length by omega)]
  simp only [Option.map_some,Option.getD_some,Nat.mul_comm j 3]
 refine ⟨?_,hg 0 (by omega),hg 1 (by omega),hg 2 (by omega)⟩
 unfold jM
 rw [List.length_take,List.length_drop,qn]
 omega
theorem cnt_3 {m : List Int} (h3 : m.length % 3 = 0) : wt (ints m).length 3 = m.length / 3 := by
 unfold wt
 rw [qn]
 omega
theorem f_op {b : List UInt8} {bad : Bool} {br : Nat} {H : AH} {R : D → AH → Prop} (hB : b.length ≤ 1000000000) (hg : qK H br = some (v8 b bad)) (h : R (.agg (jy b bad).1.d) (qY H br (v8 (jy b bad).2.1 (jy b bad).2.2))) : ACall Tryz.prog 37 [.ptr br 0] H R := by
 refine b37 fun hf=>?_
 have hbig := qt
 simp +contextual only [Vh,qh,qn,kO,kP,kS,↓U37,↓XP,qm,XW1,qa,qb,qc,qd,qe,qf,reduceCtorEq]
 intro b2 h2
 have e2 : br ≠ b2 := fun e=>by
  have := jh h2
  rw [← e,hg] at this
  simp at this
 refine og (b := b) (bad := bad) (many := ((10 : Nat) : Int)) (by' := 1) hB (by omega) (by omega) (by omega) (by rw [qg e2]; exact hg) fun d hd=>?_
 rw [qi e2]
 have hg1 : ∀ o,qK (qY H br o) br = some o := fun o=>Qz (by rw [hg]; rfl)
 have hl := YL (b := b) (bad := bad) (m := 10)
 obtain ⟨l,hl0⟩ : ∃ l,Q8 b bad ((10 : Nat) : Int) 1 = l := ⟨_,rfl⟩
 obtain ⟨bad1,hbad1⟩ : ∃ x,ya b bad ((10 : Nat) : Int) 1 = x := ⟨_,rfl⟩
 obtain ⟨c1,hc1⟩ : ∃ x,b.drop (qG b).2.1 = x := ⟨_,rfl⟩
 rw [hl0] at hl hd
 rw [hbad1,hc1]
 obtain ⟨a0,a1,a2,a3,a4,a5,a6,a7,a8,a9,rfl⟩ := JY hl
 have hB1 : c1.length ≤ 1000000000 := by rw [← hc1]; simp; omega
 clear hl
 obtain ⟨xs,hxs,hx10,x0,x1,x2,x3,x4,x5,x6,x7,x8,x9⟩ : ∃ xs,ints [a0,a1,a2,a3,a4,a5,a6,a7,a8,a9] = xs ∧ xs.length = 10 ∧ xs.getD 0 [] = [.int .i64 a0] ∧ xs.getD 1 [] = [.int .i64 a1] ∧ xs.getD 2 [] = [.int .i64 a2] ∧ xs.getD 3 [] = [.int .i64 a3] ∧ xs.getD 4 [] = [.int .i64 a4] ∧ xs.getD 5 [] = [.int .i64 a5] ∧ xs.getD 6 [] = [.int .i64 a6] ∧ xs.getD 7 [] = [.int .i64 a7] ∧ xs.getD 8 [] = [.int .i64 a8] ∧ xs.getD 9 [] = [.int .i64 a9] := ⟨_,rfl,rfl,rfl,rfl,rfl,rfl,rfl,rfl,rfl,rfl,rfl,rfl⟩
 rw [hxs] at hd
 simp +contextual only [Vh,qh,qn,kO,kP,kS,hd,hx10,x0,x1,x2,x3,x4,x5,x6,x7,x8,x9,show ((10 : Nat) : Int) = 10 from rfl,Int.reduceToNat,Int.reduceLE,Int.reduceLT,↓U37,↓XP,qm,XW1,qa,qb,qc,qd,qe,qf,reduceCtorEq]
 refine fun _ _ _ _ _ _ _ _ _ _ _ b4 hb4=>?_
 obtain ⟨h24,h4⟩ := hb4
 have e4 : br ≠ b4 := fun e=>by
  have := jh h4
  rw [← e,hg] at this
  simp at this
 rw [uG]
 refine Gz.take (j := 7) rfl (fun h=>(h rfl).elim) ?_
 simp only [jr,if_true]
 simp +contextual only [Vh,qh,qn,kO,kP,kS,↓U37,↓XP,qm,XW1,qa,qb,qc,qd,qe,qf,reduceCtorEq]
 refine og (b := c1) (bad := bad1) (many := -1) (by' := 3) hB1 (by omega) (by omega) (by omega) (by rw [qg e4,qg e2]; exact hg1 _) fun d2 hd2=>?_
 rw [qi e4,qi e2,QM]
 have hm3 := VE (b := c1) (bad := bad1) (k := 3)
 have hml := Yg (b := c1) (bad := bad1) (k := 3)
 obtain ⟨m,hm0⟩ : ∃ m,Q8 c1 bad1 (-1) ((3 : Nat) : Int).toNat = m := ⟨_,rfl⟩
 rw [show ((3 : Nat) : Int).toNat = 3 from rfl] at hm0
 obtain ⟨bad2,hbad2⟩ : ∃ x,ya c1 bad1 (-1) 3 = x := ⟨_,rfl⟩
 obtain ⟨c2,hc2⟩ : ∃ x,c1.drop (qG c1).2.1 = x := ⟨_,rfl⟩
 have hB2 : c2.length ≤ 1000000000 := by rw [← hc2]; simp; omega
 rw [hm0] at hm3 hml hd2
 rw [hbad2,hc2]
 obtain ⟨fi,hfi⟩ : ∃ fi,fi = 64 := ⟨_,rfl⟩
 simp +contextual only [Vh,qh,qn,kO,kP,kS,hd2,↓U37,↓XP,qm,XW1,qa,qb,qc,qd,qe,qf,reduceCtorEq]
 refine fun _=>Yy (fi := fi) hfi (by omega) fun bA bB hA hB'=>?_
 simp +contextual only [Vh,qh,qn,kO,kP,kS,↓U37,↓XP,qm,XW1,qa,qb,qc,qd,qe,qf,reduceCtorEq]
 have hAB : bA ≠ bB := hB'.1
 refine XRF.chunkK hm (by rw [hfi]; exact it64) (p := 48) (t := 5) (k := 3) (xs := ints m) (b1 := bA) (b2 := bB) (f := fi) rfl (by show (48 : Nat) < 93; omega) (by rw [qg hAB]; exact jV) jV (by omega) (by omega) wb
  (fun pre H'=>H' = ((b4,AO.cells [.int .i64 a0,.int .i64 a1,.int .i64 a2,.int .i64 a3,.int .i64 a4,.int .i64 a5,.int .i64 a6,.own (qV (pre.map (triple m))),.int .i64 a7,.str [],.str [],.int .i64 a8,.int .i64 a9]) :: (b2,AO.cells [.int .i64 0,.int .i64 0,.int .i64 0,.int .i64 0,.int .i64 0,.int .i64 0,.int .i64 0,.own [],.int .i64 0,.str [],.str [],.int .i64 0,.int .i64 0]) :: qY H br (v8 c2 bad2)))
  _ (by rw [kv hAB,ub,ub]; exact Sbn.sub (List.Sublist.refl _)) rfl ?_ ?_
 ·intro pre j H' hI hj hpl hfact K hK
  subst hI
  obtain ⟨y3,y0,y1,y2⟩ := chunk_3 hm3 hj
  rw [cnt_3 hm3] at hj hpl
  generalize jM (ints m) 3 j = ys at y3 y0 y1 y2 ⊢
  have nx := fun F' H''=>hK F' H'' _ (Sbn.sub (List.Sublist.refl _)) 
  clear hK
  rw [List.map_append,List.map_cons,List.map_nil,← zT] at nx
  have il : (qV (pre.map (triple m))).length = pre.length := by simp [qV]
  have hac := K3 (l := pre.map (triple m))
  generalize qV (pre.map (triple m)) = acc at nx il hac ⊢
  generalize triple m j = tj at nx y0 y1 y2
  simp +contextual only [Vh,qh,qn,kO,kP,kS,y3,y0,y1,y2,hd,hd2,show ((3 : Nat) : Int) = 3 from rfl,Int.reduceToNat,Int.reduceLE,Int.reduceLT,↓U37,↓XP,qm,XW1,qa,qb,qc,qd,qe,qf,reduceCtorEq]
  have n4 : qK ((b2,AO.cells [.int .i64 0,.int .i64 0,.int .i64 0,.int .i64 0,.int .i64 0,.int .i64 0,.int .i64 0,.own [],.int .i64 0,.str [],.str [],.int .i64 0,.int .i64 0]) :: qY H br (v8 c2 bad2)) b4 = none := by
   rw [qg (Ne.symm h24),h_oth (Ne.symm e4)]
   exact jh h4
  exact ⟨n4,fun _ _ _=>⟨hac,by omega,by omega,nx _ _ rfl⟩⟩
 ·intro H' hI
  subst hI
  rw [cnt_3 hm3,show (List.range (m.length / 3)).map (triple m) = triples m from rfl]
  have hg5 : qK ((b4,AO.cells [.int .i64 a0,.int .i64 a1,.int .i64 a2,.int .i64 a3,.int .i64 a4,.int .i64 a5,.int .i64 a6,.own (qV (triples m)),.int .i64 a7,.str [],.str [],.int .i64 a8,.int .i64 a9]) :: (b2,AO.cells [.int .i64 0,.int .i64 0,.int .i64 0,.int .i64 0,.int .i64 0,.int .i64 0,.int .i64 0,.own [],.int .i64 0,.str [],.str [],.int .i64 0,.int .i64 0]) :: qY H br (v8 c2 bad2)) br = some (v8 c2 bad2) := by
   rw [qg e4,qg e2]
   exact hg1 _
  have hg5' := hg5
  unfold v8 at hg5'
  simp +contextual only [Vh,qh,qn,kO,kP,kS,hd,hd2,hg5',v8,↓U37,↓XP,qm,XW1,qa,qb,qc,qd,qe,qf,reduceCtorEq]
  refine fun _=>Qi hB2 ?_
  simp +contextual only [Vh,qh,qn,kO,kP,kS,hd,hd2,↓U37,↓XP,qm,XW1,qa,qb,qc,qd,qe,qf,reduceCtorEq]
  refine fun _ _ _=>J9 (b := c2) (bad := bad2) strs_le.1 hg5 ?_
  rw [qi e4,qi e2,QM]
  obtain ⟨ss,hss⟩ : ∃ s,jn c2 = s := ⟨_,rfl⟩
  rw [hss]
  obtain ⟨ss,kk,ee⟩ := ss
  dsimp only
  have sl : (strs ss).length = ss.length := qJ
  have hp : jy b bad = gD [a0,a1,a2,a3,a4,a5,a6,a7,a8,a9] m c2 bad2 := by
   unfold jy QU
   rw [show Q8 b bad 10 1 = _ from hl0,show ya b bad 10 1 = _ from hbad1,hc1,hm0,hc2,hbad2]
  rw [hp] at h
  clear hp
  unfold gD at h
  rw [hss] at h
  dsimp only at h
  by_cases c2l : ss.length = 2
  ·have s0 := kG (l := ss) (i := 0) (by omega)
   have s1 := kG (l := ss) (i := 1) (by omega)
   have c2' : ((ss.length : Int) = 2) = True := eq_true (by omega)
   rw [if_pos c2l] at h
   have n4 : ∀ o,qK ((b2,AO.cells [.int .i64 0,.int .i64 0,.int .i64 0,.int .i64 0,.int .i64 0,.int .i64 0,.int .i64 0,.own [],.int .i64 0,.str [],.str [],.int .i64 0,.int .i64 0]) :: qY H br o) b4 = none := fun o=>by
    rw [qg (Ne.symm h24),h_oth (Ne.symm e4)]
    exact jh h4
   simp +contextual only [Vh,qh,qn,kO,kP,kS,hd,hd2,sl,c2',c2l,s0,s1,n4,qg h24,qi h24,show ((2 : Nat) : Int) = 2 from rfl,show (9 < 13) = True from eq_true (by omega),show (10 < 13) = True from eq_true (by omega),Int.reduceToNat,Int.reduceLE,Int.reduceLT,↓U37,↓XP,qm,XW1,qa,qb,qc,qd,qe,qf,reduceCtorEq]
   exact fun _ _ _=>h
  ·have c2' : ((ss.length : Int) = 2) = False := eq_false (by omega)
   rw [if_neg c2l] at h
   simp +contextual only [Vh,qh,qn,kO,kP,kS,hd,hd2,sl,c2',qg e4,qg e2,hg1,v8,qi e4,qi e2,QM,qg h24,qi h24,↓U37,↓XP,qm,XW1,qa,qb,qc,qd,qe,qf,reduceCtorEq]
   exact fun _=>h
end Go.Proofs.YtoeckfegggongaaGreatDoor
end
