/- A part of the proof of what the last text says: Gw2, Gm0, XcC, Gm1, Gm2. Conditions: those in each theorem. -/
import Derived.Test.YtoeckfegggongaaGreatDoorV14
import Derived.Laws.BitsAllLaws
set_option linter.unusedVariables false
set_option linter.unusedSimpArgs false
set_option maxRecDepth 100000
set_option maxHeartbeats 16000000
open Nat renaming reduceSub → qa,reduceAdd → qb,reduceMul → qc,reduceEqDiff → qd,reduceLeDiff → qe,reduceBEq → qf
section
namespace Go.Proofs.YtoeckfegggongaaGreatDoor
open Go Go.Aw
theorem qh {l : List UInt8} : (l.map qr).length = l.length := List.length_map ..
theorem Jm {n : Nat} (h : n ≤ 140737488355328) : wC .i64 (n : Int) := by rw [yj]; omega
theorem kC {n : Nat} (h : n ≤ 140737488355328) : (qy (n : Int)).length ≤ 9 := vE (Jm h)
theorem Jy {s : List UInt8} {H : AH} {R : D → AH → Prop} (hs : s.length ≤ 3000000000) (h : R (.own ((qH s).map qr)) H) : ACall Tryz.prog 32 [.str s] H R := by
 refine b32 fun hf=>?_
 have hbig := qt
 have hl := kC (n := s.length) (by omega)
 simp +contextual only [x32,qh,↓Us,↓XP,qm,XW1,qa,qb,qc,qd,qe,qf,reduceCtorEq]
 refine fun _=>uE fun _=>?_
 simp +contextual only [x32,qh,↓Us,↓XP,qm,XW1,qa,qb,qc,qd,qe,qf,reduceCtorEq]
 refine fun _ _=>⟨qC,qC,by omega,?_⟩
 rw [← List.map_append]
 exact h
theorem yP {l : List Int} {i : Nat} (h : i < l.length) : (ints l).getD i [] = [.int .i64 (l.getD i 0)] := by simp [ints,h]
theorem yp {α : Type} {l : List α} {f : α → List UInt8} {i : Nat} {d : α} (h : i < l.length) : (l.take (i + 1)).flatMap f = (l.take i).flatMap f ++ f (l.getD i d) := by
 rw [List.take_add_one,List.flatMap_append]
 simp [h]
theorem wA : ∀ {l : List Int},(∀ x ∈ l,wC .i64 x) → (l.flatMap qy).length ≤ 9 * l.length
 | [],_=>by simp
 | x :: r,h=>by
  have h1 := vE (h x (.head _))
  have h2 := wA (l := r) (fun y hy=>h y (.tail _ hy))
  simp only [List.flatMap_cons,List.length_append,List.length_cons]
  omega
theorem zY {l : List Int} {H : AH} {R : D → AH → Prop} (hl : l.length ≤ 30000000 ) (h : (qN l).length ≤ 9 + 9 * l.length → R (.own ((qN l).map qr)) H) : ACall Tryz.prog 28 [.slc (ints l)] H R := by
 refine b28 fun hf=>?_
 have hbig := qt
 have hle := kC (n := l.length) (by omega)
 simp +contextual only [x28,qh,qn,↓U28,↓XP,qm,XW1,qa,qb,qc,qd,qe,qf,reduceCtorEq]
 refine fun _=>uE fun _=>?_
 simp +contextual only [x28,qh,qn,↓U28,↓XP,qm,XW1,qa,qb,qc,qd,qe,qf,reduceCtorEq]
 refine fun _=>XW.loopK Go.Proofs.YtoeckfegggongaaGreatDoor.hm (fun F H'=>∃ (i : Nat),i ≤ l.length ∧ (∀ x ∈ l.take i,wC .i64 x) ∧ Fr 22 [(0,.slc (ints l)),(3,.own ((qy l.length ++ (l.take i).flatMap qy).map qr)),(4,.int .i64 i)] F ∧ H = H') (fun F H=>match F.getD 4 .any with | .int _ n'=>l.length - n'.toNat | _=>0) ⟨0,by omega,by simp,by simp only [List.take_zero,List.flatMap_nil,List.append_nil]; exact ⟨rfl,rfl,rfl,rfl,trivial⟩,rfl⟩ ?_
 rintro _ _ ⟨i,hi,hr,hF,rfl⟩ K hN hE hR
 obtain ⟨z,rfl⟩ : ∃ z : Nat → D,_ = .slc (ints l) :: zz z 1 2 (.own ((qy l.length ++ (l.take i).flatMap qy).map qr) :: .int .i64 i :: zz z 5 17 []) := hF.lit
 try dsimp only [zz,qb] at *
 clear hF hR
 by_cases hlt : i < l.length
 ·have nx : wC .i64 (l.getD i 0) → ∀ F',Fr 22 [(0,.slc (ints l)),(3,.own ((qy l.length ++ (l.take i).flatMap qy ++ qy (l.getD i 0)).map qr)),(4,.int .i64 ((i + 1 : Nat) : Int))] F' → K .normal F' H := fun hx F' hF'=>hN _ _ ⟨i + 1,hlt,fun x hx'=>by
   rw [List.take_add_one] at hx'
   rcases List.mem_append.1 hx' with hx' | hx'
   ·exact hr x hx'
   ·simp [hlt] at hx'
    rw [hx']
    simpa [hlt] using hx,by rw [yp (d := 0) hlt,← List.append_assoc]; exact hF',(j9 rfl).symm⟩ (by
   rw [List.getD_eq_getElem?_getD,hF'.2.2.2.1]
   simp only [List.getD_cons_succ,List.getD_cons_zero,Option.getD_some]
   omega)
  clear hN hE
  have q1 := yP (l := l) hlt
  have hfl := wA hr
  rw [List.length_take] at hfl
  generalize l.getD i 0 = x at q1 nx
  have hal : (qy (l.length : Int) ++ (l.take i).flatMap qy).length ≤ 9 + 9 * i := by rw [List.length_append]; omega
  generalize qy (l.length : Int) ++ (l.take i).flatMap qy = ac at nx hal ⊢
  simp +contextual only [x28,qh,qn,q1,qp (show i ≤ big by omega),↓U28,↓XP,qm,XW1,qa,qb,qc,qd,qe,qf,reduceCtorEq]
  refine fun _=>⟨fun _ hx=>uE fun _=>?_,fun hge=>absurd (by omega) hge⟩
  have hxl := vE hx
  simp +contextual only [x28,qh,qn,qp (show i ≤ big by omega),↓U28,↓XP,qm,XW1,qa,qb,qc,qd,qe,qf,reduceCtorEq]
  refine fun _=>⟨qC,qC,by omega,?_⟩
  rw [← List.map_append]
  exact nx hx _ ⟨rfl,rfl,rfl,rfl,trivial⟩
 ·have hik : i = l.length := by omega
  subst hik
  clear hN
  simp +contextual only [x28,qh,qn,↓U28,↓XP,qm,XW1,qa,qb,qc,qd,qe,qf,reduceCtorEq]
  refine fun _=>hE _ _ _ ?_
  rw [List.take_length] at hr ⊢
  simp +contextual only [x28,qh,qn,↓U28,↓XP,qm,XW1,qa,qb,qc,qd,qe,qf,reduceCtorEq]
  refine h ?_
  have := wA hr
  rw [qN,List.length_append]
  omega
theorem ve : ∀ {l : List (List UInt8)} {c : Nat},(∀ x ∈ l,x.length ≤ c) → c ≤ 3000000000 → (l.flatMap qH).length ≤ (9 + c) * l.length
 | [],_,_,_=>by simp
 | x :: r,c,h,hc=>by
  have h1 := kC (n := x.length) (by have := h x (.head _); omega)
  have h3 := h x (.head _)
  have h2 := ve (l := r) (fun y hy=>h y (.tail _ hy)) hc
  simp only [List.flatMap_cons,List.length_append,List.length_cons,qH,Nat.mul_add,Nat.mul_one]
  omega
theorem Qo {l : List (List UInt8)} {i : Nat} (h : i < l.length) : (strs l).getD i [] = [.str (l.getD i [])] := by simp [strs,h]
theorem KI {l : List (List UInt8)} {H : AH} {R : D → AH → Prop} (hl : l.length ≤ 1000) (hs : ∀ x ∈ l,x.length ≤ 3000000) (h : R (.own ((jF l).map qr)) H) : ACall Tryz.prog 31 [.slc (strs l)] H R := by
 refine b31 fun hf=>?_
 have hbig := qt
 have hle := kC (n := l.length) (by omega)
 simp +contextual only [x31,qh,qJ,↓U31,↓XP,qm,XW1,qa,qb,qc,qd,qe,qf,reduceCtorEq]
 refine fun _=>uE fun _=>?_
 simp +contextual only [x31,qh,qJ,↓U31,↓XP,qm,XW1,qa,qb,qc,qd,qe,qf,reduceCtorEq]
 refine fun _=>XW.loopK Go.Proofs.YtoeckfegggongaaGreatDoor.hm (fun F H'=>∃ (i : Nat),i ≤ l.length ∧ Fr 22 [(0,.slc (strs l)),(3,.own ((qy l.length ++ (l.take i).flatMap qH).map qr)),(4,.int .i64 i)] F ∧ H = H') (fun F H=>match F.getD 4 .any with | .int _ n'=>l.length - n'.toNat | _=>0) ⟨0,by omega,by simp only [List.take_zero,List.flatMap_nil,List.append_nil]; exact ⟨rfl,rfl,rfl,rfl,trivial⟩,rfl⟩ ?_
 rintro _ _ ⟨i,hi,hF,rfl⟩ K hN hE hR
 obtain ⟨z,rfl⟩ : ∃ z : Nat → D,_ = .slc (strs l) :: zz z 1 2 (.own ((qy l.length ++ (l.take i).flatMap qH).map qr) :: .int .i64 i :: zz z 5 17 []) := hF.lit
 try dsimp only [zz,qb] at *
 clear hF hR
 by_cases hlt : i < l.length
 ·have nx : ∀ F',Fr 22 [(0,.slc (strs l)),(3,.own ((qy l.length ++ (l.take i).flatMap qH ++ qH (l.getD i [])).map qr)),(4,.int .i64 ((i + 1 : Nat) : Int))] F' → K .normal F' H := fun F' hF'=>hN _ _ ⟨i + 1,hlt,by rw [yp (d := []) hlt,← List.append_assoc]; exact hF',(j9 rfl).symm⟩ (by
   rw [List.getD_eq_getElem?_getD,hF'.2.2.2.1]
   simp only [List.getD_cons_succ,List.getD_cons_zero,Option.getD_some]
   omega)
  clear hN hE
  have q1 := Qo (l := l) hlt
  have hfl := ve (l := l.take i) (c := 3000000) (fun x hx=>hs x (List.mem_of_mem_take hx)) (by omega)
  have hx1 : (l.getD i []).length ≤ 3000000 := hs _ (by rw [jk hlt]; exact List.getElem_mem hlt)
  rw [List.length_take] at hfl
  generalize l.getD i [] = x at q1 nx hx1
  have hal : (qy (l.length : Int) ++ (l.take i).flatMap qH).length ≤ 9 + 3000009 * 1000 := by
   rw [List.length_append]
   have : (9 + 3000000) * min i l.length ≤ 3000009 * 1000 := Nat.mul_le_mul_left _ (by omega)
   omega
  generalize qy (l.length : Int) ++ (l.take i).flatMap qH = ac at nx hal ⊢
  simp +contextual only [x31,qh,qJ,q1,qp (show i ≤ big by omega),↓U31,↓XP,qm,XW1,qa,qb,qc,qd,qe,qf,reduceCtorEq]
  refine fun _=>⟨fun _ _=>Jy (by omega) ?_,fun hge=>absurd (by omega) hge⟩
  have hxl : (qH x).length ≤ 9 + 3000000 := by
   have := kC (n := x.length) (by omega)
   simp only [qH,List.length_append]
   omega
  simp +contextual only [x31,qh,qJ,qp (show i ≤ big by omega),↓U31,↓XP,qm,XW1,qa,qb,qc,qd,qe,qf,reduceCtorEq]
  refine fun _=>⟨qC,qC,by omega,?_⟩
  rw [← List.map_append]
  exact nx _ ⟨rfl,rfl,rfl,rfl,trivial⟩
 ·have hik : i = l.length := by omega
  subst hik
  clear hN
  simp +contextual only [x31,qh,qJ,↓U31,↓XP,qm,XW1,qa,qb,qc,qd,qe,qf,reduceCtorEq]
  refine fun _=>hE _ _ _ ?_
  rw [List.take_length]
  simp +contextual only [x31,qh,qJ,↓U31,↓XP,qm,XW1,qa,qb,qc,qd,qe,qf,reduceCtorEq]
  exact h
theorem J8 {x : Id3} {H : AH} {R : D → AH → Prop} (h : R (.own (ints [x.o,x.s,x.i])) H) : ACall Tryz.prog 30 [.agg x.d] H R := by
 refine b30 fun hf=>?_
 have hd : x.d = [.int .i64 x.o,.int .i64 x.s,.int .i64 x.i] := rfl
 simp +contextual only [x30,hd,↓u30_s0,↓XP,qm,XW1,qa,qb,qc,qd,qe,qf,reduceCtorEq]
 exact fun _ _ _ _ _=>h
end Go.Proofs.YtoeckfegggongaaGreatDoor
end
section
namespace Go.Proofs.YtoeckfegggongaaGreatDoor
open Go Go.Aw
theorem not64 {x : Nat} (h : x < 18446744073709551616) : 18446744073709551615 ^^^ x = 18446744073709551615 - x := by
 apply Nat.eq_of_testBit_eq
 intro i
 have e1 : (18446744073709551615 : Nat) = 2 ^ 64 - 1 := rfl
 have e2 : (18446744073709551615 : Nat) - x = 2 ^ 64 - (x + 1) := by omega
 rw [Nat.testBit_xor,e2,e1,Nat.testBit_two_pow_sub_one,Nat.testBit_two_pow_sub_succ h]
 by_cases hi : i < 64
 ·simp [hi]
 ·have : x.testBit i = false := Nat.testBit_lt_two_pow (Nat.lt_of_lt_of_le (show x < 2 ^ 64 from h) (Nat.pow_le_pow_right (by decide) (Nat.le_of_not_lt hi)))
  simp [hi,this]
theorem not8 {x : Nat} (h : x < 256) : x ^^^ 255 = 255 - x := by
 apply Nat.eq_of_testBit_eq
 intro i
 have e1 : (255 : Nat) = 2 ^ 8 - 1 := rfl
 have e2 : (255 : Nat) - x = 2 ^ 8 - (x + 1) := by omega
 rw [Nat.testBit_xor,e2,e1,Nat.testBit_two_pow_sub_one,Nat.testBit_two_pow_sub_succ h]
 by_cases hi : i < 8
 ·simp [hi]
 ·have : x.testBit i = false := Nat.testBit_lt_two_pow (Nat.lt_of_lt_of_le (show x < 2 ^ 8 from h) (Nat.pow_le_pow_right (by decide) (Nat.le_of_not_lt hi)))
  simp [hi,this]
def oK (b : Bool) : Int := if b = true then 255 else 0
theorem xor8 {b : Bool} {x : Nat} (h : x < 256) : bits .xor .u8 (x : Int) (oK b) = ((qQ b (UInt8.ofNat x)).toNat : Int) := by
 cases b with
 | false =>
  have := u8_xor_nat x 0 h (by omega)
  simp only [Nat.xor_zero] at this
  simp only [oK,qQ,Bool.false_eq_true,if_false]
  rw [show ((0 : Int)) = ((0 : Nat) : Int) from rfl,this,UInt8.toNat_ofNat',Nat.mod_eq_of_lt h]
 | true =>
  have := u8_xor_nat x 255 h (by omega)
  rw [not8 h] at this
  have hx : (UInt8.ofNat x).toNat = x := by rw [UInt8.toNat_ofNat',Nat.mod_eq_of_lt h]
  simp only [oK,qQ,if_true]
  rw [show ((255 : Int)) = ((255 : Nat) : Int) from rfl,this,UInt8.toNat_sub_of_le _ _ (by rw [UInt8.le_iff_toNat_le,hx]; simp; omega),hx]
  simp
theorem Yv : ∀ (m k : Nat),(digs m).length ≤ k ↔ m < 256 ^ k
 | m,0=>by
  by_cases hm : m = 0
  ·subst hm; simp [k9]
  ·rw [yh hm]; simp; omega
 | m,k + 1=>by
  by_cases hm : m = 0
  ·subst hm; simp [k9,Nat.pow_pos]
  ·rw [yh hm,List.length_cons,Nat.succ_le_succ_iff,Yv (m / 256) k,Nat.div_lt_iff_lt_mul (by omega),Nat.pow_succ]
theorem Kl : ∀ (i m : Nat),i < (digs m).length → (digs m).getD i 0 = UInt8.ofNat (m / 256 ^ i % 256)
 | i,m,h=>by
  by_cases hm : m = 0
  ·subst hm; simp [k9] at h
  ·rw [yh hm] at h ⊢
   cases i with
   | zero=>simp
   | succ i =>
    rw [List.getD_cons_succ,Kl i (m / 256) (by simpa using h),Nat.div_div_eq_div_mul,Nat.pow_succ,Nat.mul_comm]
theorem YK {m i : Nat} (hi : i ≤ 8) : ((m : Int)).fdiv (2 ^ (min ((8 * (i : Int)).toNat) IntKind.u64.bits)) = ((m / 256 ^ i : Nat) : Int) := by
 have e1 : (8 * (i : Int)).toNat = 8 * i := by omega
 have e2 : min (8 * i) IntKind.u64.bits = 8 * i := by
  have : IntKind.u64.bits = 64 := rfl
  omega
 rw [e1,e2,show (256 : Nat) = 2 ^ 8 from rfl,← Nat.pow_mul]
 rw [Int.fdiv_eq_ediv_of_nonneg _ (by exact Int.le_of_lt (Int.pow_pos (by omega)))]
 norm_cast
theorem Ws {n : Int} (h : wC .i64 n) : IntKind.u64.wrap n = (if n < 0 then n + 18446744073709551616 else n) := by
 rw [yj] at h
 rw [IntKind.wrap_u64]
 split <;> omega
theorem UH {x : Nat} : IntKind.u8.wrap ((x : Nat) : Int) = ((x % 256 : Nat) : Int) := by
 rw [IntKind.wrap_u8']
 omega
end Go.Proofs.YtoeckfegggongaaGreatDoor
end
section
namespace Go.Proofs.YtoeckfegggongaaGreatDoor
open Go.Xs
open Go Go.Aw
def x7_s0 : XC := (.seq (.regD [f 48 4 0 41,l 3 41 42,f 48 4 1 43,l 3 43 44,a (k 20 #[(t 42),(t 44)] #[3,3]) 45,a (.unOp .not 4 (t 45)) 46,m 46 47,g (.fieldAddr 48 (t 4) 0) 48 47 false,g (.load 3 (t 48)) 49 47 false,g (.fieldAddr 26 (t 1) 0) 50 47 false,g (.load 3 (t 50)) 51 47 false,g (.binOp .eql 3 (t 49) (t 51) 3) 52 47 false,a (.pick (t 47) (.const (.bool true)) (t 52)) 53,m 53 54,g (.move (t 3)) 55 54 false,g (.binOp .gtr 3 (t 55) (i 0) 3) 56 54 false,g (.move (t 56)) 57 54 false,g (.fieldAddr 48 (t 4) 0) 58 57 true,g (.load 3 (t 58)) 59 57 true,g (.fieldAddr 26 (t 1) 3) 60 57 true,g (.load 23 (t 60)) 61 57 true,g (.move (t 3)) 62 57 true,g (.binOp .sub 3 (t 62) (i 1) 3) 63 57 true,g (.indexAddr 23 (t 61) (t 63)) 64 57 true,g (.fieldAddr 48 (t 64) 0) 65 57 true,g (.load 3 (t 65)) 66 57 true,g (.binOp .leq 3 (t 59) (t 66) 3) 67 57 true,g (.pick (t 57) (t 67) (.const (.bool false))) 68 54 false,a (.pick (t 54) (.const (.bool true)) (t 68)) 69]) (.cond (t 69) (.seq (.reg [a (.assign (i 1)) 2]) .ret) .skip))
def x7_s1 : XC := (.seq (.block 1 (.seq (.reg [b (.move (t 36)) 38,j 23 34 36 39,b (.load 48 (t 39)) 40,a (.alloc 48) 4,n 38 3,w 48 4 40]) x7_s0)) (.reg [a (.binOp .add 3 (t 36) (i 1) 3) 70,m 70 36]))
def x7_L2 : XC := (.seq (.reg [a (.binOp .lss 3 (t 36) (t 35) 3) 37]) (.seq (.cond (t 37) .skip (.exit 0)) x7_s1))
def x7_s3 : XC := (.seq (.reg [l 55 6 78,a (k 22 #[(t 78)] #[55]) 79,a (.unOp .not 4 (t 79)) 80]) (.cond (t 80) (.seq (.reg [a (.assign (i 1)) 2]) .ret) .skip))
def x7_s4 : XC := (.seq (.block 3 (.seq (.reg [j 24 72 74 76,b (.load 55 (t 76)) 77,a (.alloc 55) 6,w 55 6 77]) x7_s3)) (.reg [a (.binOp .add 3 (t 74) (i 1) 3) 81,m 81 74]))
def x7_L5 : XC := (.seq (.reg [a (.binOp .lss 3 (t 74) (t 73) 3) 75]) (.seq (.cond (t 75) .skip (.exit 2)) x7_s4))
def x7_s6 : XC := (.seq (.seq (.reg [l 26 1 82,a (k 23 #[(t 82)] #[26]) 83,e 9 83 84,a (.binOp .gtr 3 (t 84) (i 6800) 3) 85]) (.cond (t 85) (.seq (.reg [a (.assign (i 4)) 2]) .ret) .skip)) (.seq (.reg [a (.assign (i 0)) 2]) .ret))
def x7_s7 : XC := (.seq (.seq (.reg [f 26 1 4 71,l 24 71 72,e 24 72 73,a (.move (i 0)) 74]) (.block 2 (.loop x7_L5))) x7_s6)
def x7_s8 : XC := (.seq (.seq (.reg [f 26 1 3 33,l 23 33 34,e 23 34 35,a (.move (i 0)) 36]) (.block 0 (.loop x7_L2))) x7_s7)
def x7_s9 : XC := (.seq (.seq (.reg [f 26 1 4 29,l 24 29 30,e 24 30 31,a (.binOp .eql 3 (t 31) (i 0) 3) 32]) (.cond (t 32) (.seq (.reg [a (.assign (i 1)) 2]) .ret) .skip)) x7_s8)
def x7_s10 : XC := (.seq (.seq (.reg [f 26 1 3 19,l 23 19 20,e 23 20 21,a (.binOp .gtr 3 (t 21) (i 8) 3) 22,m 22 23,g (.fieldAddr 26 (t 1) 4) 24 23 false,g (.load 24 (t 24)) 25 23 false,g (.call ⟨(.builtin .len),#[(t 25)],#[24]⟩) 26 23 false,g (.binOp .gtr 3 (t 26) (i 16) 3) 27 23 false,a (.pick (t 23) (.const (.bool true)) (t 27)) 28]) (.cond (t 28) (.seq (.reg [a (.assign (i 4)) 2]) .ret) .skip)) x7_s9)
def x7_s11 : XC := (.seq (.seq (.reg [f 26 1 0 7,l 3 7 8,f 26 1 1 9,l 3 9 10,a (k 20 #[(t 8),(t 10)] #[3,3]) 11,a (.unOp .not 4 (t 11)) 12,m 12 13,g (.fieldAddr 26 (t 1) 2) 14 13 false,g (.load 3 (t 14)) 15 13 false,g (k 21 #[(t 15),(i 1),(i 1048576)] #[3,3,3]) 16 13 false,g (.unOp .not 4 (t 16)) 17 13 false,a (.pick (t 13) (.const (.bool true)) (t 17)) 18]) (.cond (t 18) (.seq (.reg [a (.assign (i 5)) 2]) .ret) .skip)) x7_s10)
def V7 := PLift.up (aI (aI (aI (@unf _ _ x7_s0.eq_1) (aI (@unf _ _ x7_s1.eq_1) (@unf _ _ x7_L2.eq_1))) (aI (@unf _ _ x7_s3.eq_1) (aI (@unf _ _ x7_s4.eq_1) (@unf _ _ x7_L5.eq_1)))) (aI (aI (@unf _ _ x7_s6.eq_1) (aI (@unf _ _ x7_s7.eq_1) (@unf _ _ x7_s8.eq_1))) (aI (@unf _ _ x7_s9.eq_1) (aI (@unf _ _ x7_s10.eq_1) (@unf _ _ x7_s11.eq_1)))))
theorem U7 : type_of% V7.down := V7.down
def x7 : XC := (.seq (.reg [a (.box 26 (t 0)) 1,a (.assign (i 0)) 2]) x7_s11)
theorem b7 : Bt 7 86 x7 [(.tmp 2)] := bt Tryz.func7 rfl (by kernel_rfl) (by kernel_rfl) (by kernel_rfl)
def x20_s0 : XC := (.seq (.reg [m 0 5,a (k 21 #[(t 5),(i 0),(i 7)] #[3,3,3]) 6,m 6 7,g (.move (t 1)) 8 7 true,g (k 21 #[(t 8),(i 1),(i 16)] #[3,3,3]) 9 7 true,b (.pick (t 7) (t 9) (.const (.bool false))) 10,n 10 4]) .ret)
theorem J7 : type_of% (@unf _ _ x20_s0.eq_1) := unf x20_s0.eq_1
def x20 : XC := (.seq (.reg [a (.assign (.const (.bool false))) 4]) x20_s0)
theorem b20 : Bt 20 11 x20 [(.tmp 4)] := bt Tryz.func20 rfl (by kernel_rfl) (by kernel_rfl) (by kernel_rfl)
def x21_s0 : XC := (.seq (.reg [m 1 7,m 0 8,a (.binOp .leq 3 (t 7) (t 8) 3) 9,m 9 10,g (.move (t 0)) 11 10 true,g (.move (t 2)) 12 10 true,g (.binOp .leq 3 (t 11) (t 12) 3) 13 10 true,b (.pick (t 10) (t 13) (.const (.bool false))) 14,n 14 6]) .ret)
theorem u21_s0 : type_of% (@unf _ _ x21_s0.eq_1) := unf x21_s0.eq_1
def x21 : XC := (.seq (.reg [a (.assign (.const (.bool false))) 6]) x21_s0)
theorem b21 : Bt 21 15 x21 [(.tmp 6)] := bt Tryz.func21 rfl (by kernel_rfl) (by kernel_rfl) (by kernel_rfl)
def x22_s0 : XC := (.seq (.regD [l 50 6 132,a (k 47 #[(t 132)] #[50]) 133,a (.unOp .not 4 (t 133)) 134,m 134 135,g (.fieldAddr 55 (t 1) 3) 136 135 false,g (.load 51 (t 136)) 137 135 false,g (.move (t 5)) 138 135 false,g (.slice 51 (t 137) .none (.some (t 138)) .none) 139 135 false,g (.load 50 (t 6)) 140 135 false,g (k 49 #[(t 139),(t 140)] #[51,50]) 141 135 false,a (.pick (t 135) (.const (.bool true)) (t 141)) 142,m 142 143,g (.fieldAddr 55 (t 1) 0) 144 143 false,g (.load 3 (t 144)) 145 143 false,g (.binOp .eql 3 (t 145) (i 16) 3) 146 143 false,g (.move (t 146)) 147 143 false,g (.load 50 (t 6)) 148 147 true,g (.fieldAddr 55 (t 1) 1) 149 147 true,g (.load 50 (t 149)) 150 147 true,g (.binOp .eql 50 (t 148) (t 150) 50) 151 147 true,g (.pick (t 147) (t 151) (.const (.bool false))) 152 143 false,a (.pick (t 143) (.const (.bool true)) (t 152)) 153]) (.cond (t 153) (.seq (.reg [a (.assign (.const (.bool false))) 2]) .ret) .skip))
theorem yN : type_of% (@unf _ _ x22_s0.eq_1) := unf x22_s0.eq_1
def x22_s1 : XC := (.seq (.block 1 (.seq (.reg [b (.move (t 127)) 129,j 51 125 127 130,b (.load 50 (t 130)) 131,a (.alloc 50) 6,n 129 5,w 50 6 131]) x22_s0)) (.reg [a (.binOp .add 3 (t 127) (i 1) 3) 154,m 154 127]))
theorem yJ : type_of% (@unf _ _ x22_s1.eq_1) := unf x22_s1.eq_1
def x22_L2 : XC := (.seq (.reg [a (.binOp .lss 3 (t 127) (t 126) 3) 128]) (.seq (.cond (t 128) .skip (.exit 0)) x22_s1))
theorem yQ : type_of% (@unf _ _ x22_L2.eq_1) := unf x22_L2.eq_1
def x22_s3 : XC := (.seq (.reg [f 55 1 0 155,l 3 155 156,a (.binOp .neq 3 (t 156) (i 17) 3) 157,m 157 158,g (.fieldAddr 55 (t 1) 1) 159 158 false,g (.load 50 (t 159)) 160 158 false,g (.fieldAddr 55 (t 1) 2) 161 158 false,g (.load 50 (t 161)) 162 158 false,g (.binOp .neq 50 (t 160) (t 162) 50) 163 158 false,b (.pick (t 158) (.const (.bool true)) (t 163)) 164,n 164 2]) .ret)
theorem KP : type_of% (@unf _ _ x22_s3.eq_1) := unf x22_s3.eq_1
def x22_s4 : XC := (.seq (.seq (.reg [f 55 1 3 124,l 51 124 125,e 51 125 126,a (.move (i 0)) 127]) (.block 0 (.loop x22_L2))) x22_s3)
theorem yO : type_of% (@unf _ _ x22_s4.eq_1) := unf x22_s4.eq_1
def x22_s5 : XC := (.seq (.seq (.reg [f 100 3 0 96,l 4 96 97,m 97 98,g (.fieldAddr 55 (t 1) 1) 99 98 true,g (.load 50 (t 99)) 100 98 true,g (k 47 #[(t 100)] #[50]) 101 98 true,g (.unOp .not 4 (t 101)) 102 98 true,a (.pick (t 98) (t 102) (.const (.bool false))) 103,m 103 104,g (.fieldAddr 100 (t 3) 1) 105 104 false,g (.load 4 (t 105)) 106 104 false,g (.move (t 106)) 107 104 false,g (.fieldAddr 55 (t 1) 2) 108 107 true,g (.load 50 (t 108)) 109 107 true,g (k 47 #[(t 109)] #[50]) 110 107 true,g (.unOp .not 4 (t 110)) 111 107 true,g (.pick (t 107) (t 111) (.const (.bool false))) 112 104 false,a (.pick (t 104) (.const (.bool true)) (t 112)) 113,m 113 114,g (.fieldAddr 100 (t 3) 4) 115 114 false,g (.load 4 (t 115)) 116 114 false,g (.move (t 116)) 117 114 false,g (.fieldAddr 55 (t 1) 7) 118 117 true,g (.load 53 (t 118)) 119 117 true,g (k 48 #[(t 119)] #[53]) 120 117 true,g (.unOp .not 4 (t 120)) 121 117 true,g (.pick (t 117) (t 121) (.const (.bool false))) 122 114 false,a (.pick (t 114) (.const (.bool true)) (t 122)) 123]) (.cond (t 123) (.seq (.reg [a (.assign (.const (.bool false))) 2]) .ret) .skip)) x22_s4)
theorem Y2 : type_of% (@unf _ _ x22_s5.eq_1) := unf x22_s5.eq_1
def x22_s6 : XC := (.seq (.seq (.regD [f 100 3 0 71,l 4 71 72,f 55 1 1 73,l 50 73 74,a (.build 50 #[]) 75,a (.binOp .neq 50 (t 74) (t 75) 50) 76,a (.binOp .neq 4 (t 72) (t 76) 4) 77,m 77 78,g (.fieldAddr 100 (t 3) 1) 79 78 false,g (.load 4 (t 79)) 80 78 false,g (.fieldAddr 55 (t 1) 2) 81 78 false,g (.load 50 (t 81)) 82 78 false,g (.build 50 #[]) 83 78 false,g (.binOp .neq 50 (t 82) (t 83) 50) 84 78 false,g (.binOp .neq 4 (t 80) (t 84) 4) 85 78 false,a (.pick (t 78) (.const (.bool true)) (t 85)) 86,m 86 87,g (.fieldAddr 100 (t 3) 4) 88 87 false,g (.load 4 (t 88)) 89 87 false,g (.fieldAddr 55 (t 1) 7) 90 87 false,g (.load 53 (t 90)) 91 87 false,g (.build 53 #[]) 92 87 false,g (.binOp .neq 53 (t 91) (t 92) 53) 93 87 false,g (.binOp .neq 4 (t 89) (t 93) 4) 94 87 false,a (.pick (t 87) (.const (.bool true)) (t 94)) 95]) (.cond (t 95) (.seq (.reg [a (.assign (.const (.bool false))) 2]) .ret) .skip)) x22_s5)
theorem u22_s6 : type_of% (@unf _ _ x22_s6.eq_1) := unf x22_s6.eq_1
def x22_s7 : XC := (.seq (.seq (.regD [f 100 3 2 44,l 4 44 45,f 55 1 5 46,l 9 46 47,e 9 47 48,a (k 21 #[(t 48),(i 1),(i 16)] #[3,3,3]) 49,a (.binOp .neq 4 (t 45) (t 49) 4) 50,m 50 51,g (.fieldAddr 100 (t 3) 2) 52 51 false,g (.load 4 (t 52)) 53 51 false,g (.unOp .not 4 (t 53)) 54 51 false,g (.move (t 54)) 55 51 false,g (.fieldAddr 55 (t 1) 5) 56 55 true,g (.load 9 (t 56)) 57 55 true,g (.binOp .neq 9 (t 57) (.const (.string ⟨#[]⟩)) 9) 58 55 true,g (.pick (t 55) (t 58) (.const (.bool false))) 59 51 false,a (.pick (t 51) (.const (.bool true)) (t 59)) 60,m 60 61,g (.fieldAddr 100 (t 3) 3) 62 61 false,g (.load 4 (t 62)) 63 61 false,g (.unOp .not 4 (t 63)) 64 61 false,g (.move (t 64)) 65 61 false,g (.fieldAddr 55 (t 1) 6) 66 65 true,g (.load 9 (t 66)) 67 65 true,g (.binOp .neq 9 (t 67) (.const (.string ⟨#[]⟩)) 9) 68 65 true,g (.pick (t 65) (t 68) (.const (.bool false))) 69 61 false,a (.pick (t 61) (.const (.bool true)) (t 69)) 70]) (.cond (t 70) (.seq (.reg [a (.assign (.const (.bool false))) 2]) .ret) .skip)) x22_s6)
theorem Y6 : type_of% (@unf _ _ x22_s7.eq_1) := unf x22_s7.eq_1
def x22_s8 : XC := (.seq (.seq (.reg [m 4 12,a (.unOp .not 4 (t 12)) 13,m 13 14,g (.fieldAddr 55 (t 1) 4) 15 14 false,g (.load 3 (t 15)) 16 14 false,g (.fieldAddr 100 (t 3) 5) 17 14 false,g (.load 3 (t 17)) 18 14 false,g (.fieldAddr 100 (t 3) 6) 19 14 false,g (.load 3 (t 19)) 20 14 false,g (k 21 #[(t 16),(t 18),(t 20)] #[3,3,3]) 21 14 false,g (.unOp .not 4 (t 21)) 22 14 false,a (.pick (t 14) (.const (.bool true)) (t 22)) 23,m 23 24,g (.fieldAddr 55 (t 1) 3) 25 24 false,g (.load 51 (t 25)) 26 24 false,g (.call ⟨(.builtin .len),#[(t 26)],#[51]⟩) 27 24 false,g (.fieldAddr 100 (t 3) 7) 28 24 false,g (.indexAddr 98 (t 28) (i 0)) 29 24 false,g (.load 3 (t 29)) 30 24 false,g (.fieldAddr 100 (t 3) 7) 31 24 false,g (.indexAddr 98 (t 31) (i 1)) 32 24 false,g (.load 3 (t 32)) 33 24 false,g (k 21 #[(t 27),(t 30),(t 33)] #[3,3,3]) 34 24 false,g (.unOp .not 4 (t 34)) 35 24 false,a (.pick (t 24) (.const (.bool true)) (t 35)) 36,m 36 37,g (.fieldAddr 55 (t 1) 6) 38 37 false,g (.load 9 (t 38)) 39 37 false,g (.call ⟨(.builtin .len),#[(t 39)],#[9]⟩) 40 37 false,g (k 21 #[(t 40),(i 0),(i 1024)] #[3,3,3]) 41 37 false,g (.unOp .not 4 (t 41)) 42 37 false,a (.pick (t 37) (.const (.bool true)) (t 42)) 43]) (.cond (t 43) (.seq (.reg [a (.assign (.const (.bool false))) 2]) .ret) .skip)) x22_s7)
theorem Y7 : type_of% (@unf _ _ x22_s8.eq_1) := unf x22_s8.eq_1
def x22_s9 : XC := (.seq (.reg [l 55 1 8,a (k 46 #[(t 8)] #[55]) 9,m 9 7,b (.extract (t 7) 0) 10,b (.extract (t 7) 1) 11,a (.alloc 100) 3,w 100 3 10,n 11 4]) x22_s8)
theorem KQ : type_of% (@unf _ _ x22_s9.eq_1) := unf x22_s9.eq_1
def x22 : XC := (.seq (.reg [a (.box 55 (t 0)) 1,a (.assign (.const (.bool false))) 2]) x22_s9)
theorem b22 : Bt 22 165 x22 [(.tmp 2)] := bt Tryz.func22 rfl (by kernel_rfl) (by kernel_rfl) (by kernel_rfl)
def x23_s0 : XC := (.seq (.reg [l 26 1 4,a (k 27 #[(t 4)] #[26]) 5,b (.convert 35 9 (t 5)) 6,n 6 2]) .ret)
theorem Vr : type_of% (@unf _ _ x23_s0.eq_1) := unf x23_s0.eq_1
def x23 : XC := (.seq (.reg [a (.box 26 (t 0)) 1,a (.assign (.const (.string ⟨#[]⟩))) 2]) (.seq (.reg [f 26 1 5 3,s (.store 9 (t 3) (.const (.string ⟨#[]⟩)))]) x23_s0))
theorem b23 : Bt 23 7 x23 [(.tmp 2)] := bt Tryz.func23 rfl (by kernel_rfl) (by kernel_rfl) (by kernel_rfl)
def x46_c0 : XC := (.seq (.reg [b (.binOp .eql 3 (t 7) (i 8) 3) 22,n 22 20]) (.cond (t 20) .skip (.reg [b (.binOp .eql 3 (t 7) (i 10) 3) 23,n 23 20])))
def x46_c1 : XC := (.reg [b (.build 98 #[(0,(i 1)),(1,(i 1))]) 69,f 100 4 1 70,s (.store 4 (t 70) (.const (.bool true))),f 100 4 7 71,w 98 71 69])
def x46_s2 : XC := (.cond (t 67) x46_c1 (.seq (.reg [b (.build 100 #[]) 8,w 100 2 8,a (.assign (.const (.bool false))) 3]) .ret))
def x46_s3 : XC := (.cond (t 64) (.reg [f 100 4 1 66,s (.store 4 (t 66) (.const (.bool true)))]) (.seq (.reg [b (.binOp .eql 3 (t 7) (i 18) 3) 68,n 68 67]) x46_s2))
def x46_c4 : XC := (.regT [4] [([f 55 1 3 56,l 51 56 57,e 51 57 58,b (.binOp .sub 3 (t 58) (i 1) 3) 59,b (.build 98 #[(0,(i 2)),(1,(i 4))]) 60,f 100 4 5 61],s (.store 3 (t 61) (i (-1))),false),([f 100 4 6 62],w 3 62 59,true)] [f 100 4 7 63] [w 98 63 60])
def x46_c5 : XC := (.seq (.reg [b (.binOp .eql 3 (t 7) (i 16) 3) 55,n 55 54]) (.cond (t 54) x46_c4 (.seq (.reg [b (.binOp .eql 3 (t 7) (i 17) 3) 65,n 65 64]) x46_s3)))
def x46_s6 : XC := (.cond (t 50) (.reg [f 100 4 1 52,s (.store 4 (t 52) (.const (.bool true))),f 100 4 6 53,s (.store 3 (t 53) (i 1))]) x46_c5)
def x46_s7 : XC := (.cond (t 46) (.reg [f 100 4 2 48,s (.store 4 (t 48) (.const (.bool true))),f 100 4 6 49,s (.store 3 (t 49) (i 1))]) (.seq (.reg [b (.binOp .eql 3 (t 7) (i 15) 3) 51,n 51 50]) x46_s6))
def x46_s8 : XC := (.cond (t 42) (.reg [f 100 4 1 44,s (.store 4 (t 44) (.const (.bool true))),f 100 4 6 45,s (.store 3 (t 45) (i 1023))]) (.seq (.reg [b (.binOp .eql 3 (t 7) (i 14) 3) 47,n 47 46]) x46_s7))
def x46_s9 : XC := (.cond (t 38) (.reg [f 100 4 2 40,s (.store 4 (t 40) (.const (.bool true))),f 100 4 3 41,s (.store 4 (t 41) (.const (.bool true)))]) (.seq (.reg [b (.binOp .eql 3 (t 7) (i 13) 3) 43,n 43 42]) x46_s8))
def x46_s10 : XC := (.cond (t 35) (.reg [f 100 4 4 37,s (.store 4 (t 37) (.const (.bool true)))]) (.seq (.reg [b (.binOp .eql 3 (t 7) (i 12) 3) 39,n 39 38]) x46_s9))
def x46_s11 : XC := (.cond (t 32) (.reg [f 100 4 6 34,s (.store 3 (t 34) (i 1))]) (.seq (.reg [b (.binOp .eql 3 (t 7) (i 11) 3) 36,n 36 35]) x46_s10))
def x46_s12 : XC := (.cond (t 29) (.reg [f 100 4 2 31,s (.store 4 (t 31) (.const (.bool true)))]) (.seq (.reg [b (.binOp .eql 3 (t 7) (i 9) 3) 33,n 33 32]) x46_s11))
def x46_s13 : XC := (.cond (t 25) (.reg [f 100 4 3 28,s (.store 4 (t 28) (.const (.bool true)))]) (.seq (.reg [b (.binOp .eql 3 (t 7) (i 6) 3) 30,n 30 29]) x46_s12))
def x46_c14 : XC := (.seq (.seq (.reg [b (.binOp .eql 3 (t 7) (i 5) 3) 26,n 26 25]) (.cond (t 25) .skip (.reg [b (.binOp .eql 3 (t 7) (i 7) 3) 27,n 27 25]))) x46_s13)
def x46_c15 : XC := (.reg [f 100 4 1 17,s (.store 4 (t 17) (.const (.bool true))),f 100 4 3 18,s (.store 4 (t 18) (.const (.bool true))),f 100 4 6 19,s (.store 3 (t 19) (i 1048576))])
def x46_c16 : XC := (.seq (.seq (.reg [b (.binOp .eql 3 (t 7) (i 2) 3) 21,n 21 20]) (.cond (t 20) .skip x46_c0)) (.cond (t 20) (.reg [f 100 4 6 24,s (.store 3 (t 24) (i 1048576))]) x46_c14))
def x46_s17 : XC := (.cond (t 12) (.reg [b (.build 100 #[(2,(.const (.bool true))),(3,(.const (.bool true))),(4,(.const (.bool true)))]) 14,w 100 4 14]) (.seq (.reg [b (.binOp .eql 3 (t 7) (i 4) 3) 16,n 16 15]) (.cond (t 15) x46_c15 x46_c16)))
def x46_s18 : XC := (.cond (t 9) (.reg [b (.build 100 #[(2,(.const (.bool true))),(3,(.const (.bool true)))]) 11,w 100 4 11]) (.seq (.reg [b (.binOp .eql 3 (t 7) (i 3) 3) 13,n 13 12]) x46_s17))
def x46_s19 : XC := (.seq (.reg [b (.load 100 (t 4)) 72,w 100 2 72,a (.assign (.const (.bool true))) 3]) .ret)
def x46_s20 : XC := (.seq (.seq (.reg [f 55 1 0 6,l 3 6 7]) (.block 0 (.seq (.reg [b (.binOp .eql 3 (t 7) (i 1) 3) 10,n 10 9]) x46_s18))) x46_s19)
def x46_s21 : XC := (.seq (.reg [b (.build 100 #[(0,(.const (.bool true)))]) 5,a (.alloc 100) 4,w 100 4 5]) x46_s20)
def V46 := PLift.up (aI (aI (aI (aI (@unf _ _ x46_c0.eq_1) (@unf _ _ x46_c1.eq_1)) (aI (@unf _ _ x46_s2.eq_1) (aI (@unf _ _ x46_s3.eq_1) (@unf _ _ x46_c4.eq_1)))) (aI (aI (@unf _ _ x46_c5.eq_1) (aI (@unf _ _ x46_s6.eq_1) (@unf _ _ x46_s7.eq_1))) (aI (@unf _ _ x46_s8.eq_1) (aI (@unf _ _ x46_s9.eq_1) (@unf _ _ x46_s10.eq_1))))) (aI (aI (aI (@unf _ _ x46_s11.eq_1) (@unf _ _ x46_s12.eq_1)) (aI (@unf _ _ x46_s13.eq_1) (aI (@unf _ _ x46_c14.eq_1) (@unf _ _ x46_c15.eq_1)))) (aI (aI (@unf _ _ x46_c16.eq_1) (aI (@unf _ _ x46_s17.eq_1) (@unf _ _ x46_s18.eq_1))) (aI (@unf _ _ x46_s19.eq_1) (aI (@unf _ _ x46_s20.eq_1) (@unf _ _ x46_s21.eq_1))))))
theorem U46 : type_of% V46.down := V46.down
def x46 : XC := (.seq (.reg [a (.box 55 (t 0)) 1,a (.alloc 100) 2,a (.assign (.const (.bool false))) 3]) x46_s21)
theorem b46 : Bt 46 73 x46 [(.cell 2 100),(.tmp 3)] := bt Tryz.func46 rfl (by kernel_rfl) (by kernel_rfl) (by kernel_rfl)
def x47_s0 : XC := (.seq (.reg [f 50 1 0 3,l 3 3 4,f 50 1 1 5,l 3 5 6,a (k 20 #[(t 4),(t 6)] #[3,3]) 7,m 7 8,g (.fieldAddr 50 (t 1) 2) 9 8 true,g (.load 3 (t 9)) 10 8 true,g (k 21 #[(t 10),(i 0),(i 15)] #[3,3,3]) 11 8 true,b (.pick (t 8) (t 11) (.const (.bool false))) 12,n 12 2]) .ret)
theorem QY : type_of% (@unf _ _ x47_s0.eq_1) := unf x47_s0.eq_1
def x47 : XC := (.seq (.reg [a (.box 50 (t 0)) 1,a (.assign (.const (.bool false))) 2]) x47_s0)
theorem b47 : Bt 47 13 x47 [(.tmp 2)] := bt Tryz.func47 rfl (by kernel_rfl) (by kernel_rfl) (by kernel_rfl)
def x48_s0 : XC := (.seq (.reg [f 53 1 0 3,l 3 3 4,a (.binOp .geq 3 (t 4) (i 1) 3) 5,m 5 6,g (.fieldAddr 53 (t 1) 0) 7 6 true,g (.load 3 (t 7)) 8 6 true,g (.fieldAddr 53 (t 1) 1) 9 6 true,g (.load 3 (t 9)) 10 6 true,g (.binOp .leq 3 (t 8) (t 10) 3) 11 6 true,a (.pick (t 6) (t 11) (.const (.bool false))) 12,m 12 13,g (.fieldAddr 53 (t 1) 1) 14 13 true,g (.load 3 (t 14)) 15 13 true,g (.binOp .leq 3 (t 15) (i 1022679) 3) 16 13 true,b (.pick (t 13) (t 16) (.const (.bool false))) 17,n 17 2]) .ret)
theorem u48_s0 : type_of% (@unf _ _ x48_s0.eq_1) := unf x48_s0.eq_1
def x48 : XC := (.seq (.reg [a (.box 53 (t 0)) 1,a (.assign (.const (.bool false))) 2]) x48_s0)
theorem b48 : Bt 48 18 x48 [(.tmp 2)] := bt Tryz.func48 rfl (by kernel_rfl) (by kernel_rfl) (by kernel_rfl)
def x49_s0 : XC := (.seq (.reg [m 0 5,l 50 3 6,a (k 76 #[(t 5),(t 6)] #[51,50]) 7,b (.binOp .geq 3 (t 7) (i 0) 3) 8,n 8 4]) .ret)
theorem Ua : type_of% (@unf _ _ x49_s0.eq_1) := unf x49_s0.eq_1
def x49 : XC := (.seq (.reg [a (.box 50 (t 1)) 3,a (.assign (.const (.bool false))) 4]) x49_s0)
theorem b49 : Bt 49 9 x49 [(.tmp 4)] := bt Tryz.func49 rfl (by kernel_rfl) (by kernel_rfl) (by kernel_rfl)
def x76_s0 : XC := (.seq (.regD [l 50 3 11,m 0 12,m 5 13,j 51 12 13 14,l 50 14 15,a (.binOp .eql 50 (t 11) (t 15) 50) 16]) (.cond (t 16) (.seq (.reg [b (.move (t 5)) 17,n 17 4]) .ret) .skip))
def x76_s1 : XC := (.seq (.block 1 (.seq (.reg [b (.move (t 8)) 10,n 10 5]) x76_s0)) (.reg [a (.binOp .add 3 (t 8) (i 1) 3) 18,m 18 8]))
def x76_L2 : XC := (.seq (.reg [a (.binOp .lss 3 (t 8) (t 7) 3) 9]) (.seq (.cond (t 9) .skip (.exit 0)) x76_s1))
def x76_s3 : XC := (.seq (.seq (.reg [m 0 6,e 51 6 7,a (.move (i 0)) 8]) (.block 0 (.loop x76_L2))) (.seq (.reg [a (.assign (i (-1))) 4]) .ret))
def V76 := PLift.up (aI (aI (@unf _ _ x76_s0.eq_1) (@unf _ _ x76_s1.eq_1)) (aI (@unf _ _ x76_L2.eq_1) (@unf _ _ x76_s3.eq_1)))
theorem U76 : type_of% V76.down := V76.down
def x76 : XC := (.seq (.reg [a (.box 50 (t 1)) 3,a (.assign (i 0)) 4]) x76_s3)
theorem b76 : Bt 76 19 x76 [(.tmp 4)] := bt Tryz.func76 rfl (by kernel_rfl) (by kernel_rfl) (by kernel_rfl)
def x27_s0 : XC := (.reg [c (.move (t 4)) 26,f 48 6 0 27,l 3 27 28,f 48 6 1 29,l 3 29 30,a (.buildSlice 22 2 #[(0,(t 28)),(1,(t 30))]) 31,b (.call ⟨(.builtin .append),#[(t 26),(t 31)],#[22,22]⟩) 32,n 32 4])
def x27_s1 : XC := (.seq (.block 1 (.seq (.reg [j 23 20 22 24,b (.load 48 (t 24)) 25,a (.alloc 48) 6,w 48 6 25]) x27_s0)) (.reg [a (.binOp .add 3 (t 22) (i 1) 3) 33,m 33 22]))
def x27_L2 : XC := (.seq (.reg [a (.binOp .lss 3 (t 22) (t 21) 3) 23]) (.seq (.cond (t 23) .skip (.exit 0)) x27_s1))
def x27_s3 : XC := (.reg [c (.move (t 3)) 85,f 55 8 5 86,l 9 86 87,f 55 8 6 88,l 9 88 89,a (.buildSlice 73 2 #[(0,(t 87)),(1,(t 89))]) 90,a (k 61 #[(t 90)] #[73]) 91,b (.call ⟨(.builtin .append),#[(t 85),(t 91)],#[35,35]⟩) 92,n 92 3])
def x27_s4 : XC := (.seq (.reg [c (.move (t 3)) 80,f 111 10 0 81,l 22 81 82,a (k 57 #[(t 82)] #[22]) 83,b (.call ⟨(.builtin .append),#[(t 80),(t 83)],#[35,35]⟩) 84,n 84 3]) x27_s3)
def x27_s5 : XC := (.seq (.reg [f 55 8 3 76,l 51 76 77,a (.makeFunc (.func 59) #[(t 10)] #[]) 78,a (k 60 #[(t 77),(t 78)] #[51,112]) 79]) x27_s4)
def x27_s6 : XC := (.seq (.reg [c (.move (t 3)) 61,f 111 9 0 62,c (.load 22 (t 62)) 63,f 55 8 4 64,l 3 64 65,f 55 8 7 66,f 53 66 0 67,l 3 67 68,f 55 8 7 69,f 53 69 1 70,l 3 70 71,a (.buildSlice 22 3 #[(0,(t 65)),(1,(t 68)),(2,(t 71))]) 72,a (.call ⟨(.builtin .append),#[(t 63),(t 72)],#[22,22]⟩) 73,a (k 57 #[(t 73)] #[22]) 74,b (.call ⟨(.builtin .append),#[(t 61),(t 74)],#[35,35]⟩) 75,n 75 3]) (.seq (.reg [a (.alloc 111) 10]) x27_s5))
def x27_s7 : XC := (.seq (.reg [f 55 8 2 58,l 50 58 59,a (k 59 #[(t 9),(t 59)] #[111,50]) 60]) x27_s6)
def x27_s8 : XC := (.seq (.gh (.reg [f 55 8 1 55,l 50 55 56,a (k 59 #[(t 9),(t 56)] #[111,50]) 57])) x27_s7)
def x27_s9 : XC := (.seq (.reg [f 55 8 0 51,l 3 51 52,a (.call ⟨(.builtin .real),#[(t 52)],#[22]⟩) 53,b (.build 111 #[(0,(t 53))]) 54,a (.alloc 111) 9,w 111 9 54]) x27_s8)
def x27_s10 : XC := (.seq (.block 3 (.seq (.reg [j 24 45 47 49,b (.load 55 (t 49)) 50,a (.alloc 55) 8,w 55 8 50]) x27_s9)) (.reg [a (.binOp .add 3 (t 47) (i 1) 3) 93,m 93 47]))
theorem YW : type_of% (@unf _ _ x27_s10.eq_1) := unf x27_s10.eq_1
def x27_L11 : XC := (.seq (.reg [a (.binOp .lss 3 (t 47) (t 46) 3) 48]) (.seq (.cond (t 48) .skip (.exit 2)) x27_s10))
theorem Yq : type_of% (@unf _ _ x27_L11.eq_1) := unf x27_L11.eq_1
def x27_s12 : XC := (.seq (.reg [c (.move (t 3)) 94,f 26 1 5 95,l 9 95 96,a (k 62 #[(t 96)] #[9]) 97,b (.call ⟨(.builtin .append),#[(t 94),(t 97)],#[35,35]⟩) 98,n 98 2]) .ret)
def x27_s13 : XC := (.seq (.seq (.reg [f 26 1 4 44,l 24 44 45,e 24 45 46,a (.move (i 0)) 47]) (.block 2 (.loop x27_L11))) x27_s12)
def x27_s14 : XC := (.seq (.reg [c (.move (t 3)) 38,f 26 1 4 39,l 24 39 40,e 24 40 41,a (k 58 #[(t 41)] #[3]) 42,b (.call ⟨(.builtin .append),#[(t 38),(t 42)],#[35,35]⟩) 43,n 43 3]) x27_s13)
def x27_s15 : XC := (.seq (.reg [c (.move (t 3)) 34,m 4 35,a (k 57 #[(t 35)] #[22]) 36,b (.call ⟨(.builtin .append),#[(t 34),(t 36)],#[35,35]⟩) 37,n 37 3]) x27_s14)
def x27_s16 : XC := (.seq (.seq (.reg [f 26 1 3 19,l 23 19 20,e 23 20 21,a (.move (i 0)) 22]) (.block 0 (.loop x27_L2))) x27_s15)
def x27_s17 : XC := (.seq (.reg [f 26 1 0 11,l 3 11 12,f 26 1 1 13,l 3 13 14,f 26 1 2 15,l 3 15 16,a (.buildSlice 22 3 #[(0,(t 12)),(1,(t 14)),(2,(t 16))]) 17,b (k 57 #[(t 17)] #[22]) 18,n 18 3]) (.seq (.reg [a (.assign (.const (.slice .none 0 0))) 4]) x27_s16))
def V27 := PLift.up (aI (aI (aI (aI (@unf _ _ x27_s0.eq_1) (@unf _ _ x27_s1.eq_1)) (aI (@unf _ _ x27_L2.eq_1) (@unf _ _ x27_s3.eq_1))) (aI (aI (@unf _ _ x27_s4.eq_1) (@unf _ _ x27_s5.eq_1)) (aI (@unf _ _ x27_s6.eq_1) (aI (@unf _ _ x27_s7.eq_1) (@unf _ _ x27_s8.eq_1))))) (aI (aI (aI (@unf _ _ x27_s9.eq_1) (@YW)) (aI (@Yq) (@unf _ _ x27_s12.eq_1))) (aI (aI (@unf _ _ x27_s13.eq_1) (@unf _ _ x27_s14.eq_1)) (aI (@unf _ _ x27_s15.eq_1) (aI (@unf _ _ x27_s16.eq_1) (@unf _ _ x27_s17.eq_1))))))
theorem QB : type_of% V27.down := V27.down
def Qe : XC := (.seq (.reg [a (.box 26 (t 0)) 1,a (.assign (.const (.slice .none 0 0))) 2]) x27_s17)
theorem b27 : Bt 27 99 Qe [(.tmp 2)] := bt Tryz.func27 rfl (by kernel_rfl) (by kernel_rfl) (by kernel_rfl)
def x57_s0 : XC := (.reg [c (.move (t 3)) 15,m 5 16,a (k 58 #[(t 16)] #[3]) 17,b (.call ⟨(.builtin .append),#[(t 15),(t 17)],#[35,35]⟩) 18,n 18 3])
def x57_s1 : XC := (.seq (.block 1 (.seq (.reg [j 22 9 11 13,b (.load 3 (t 13)) 14,n 14 5]) x57_s0)) (.reg [a (.binOp .add 3 (t 11) (i 1) 3) 19,m 19 11]))
def x57_L2 : XC := (.seq (.reg [a (.binOp .lss 3 (t 11) (t 10) 3) 12]) (.seq (.cond (t 12) .skip (.exit 0)) x57_s1))
def x57_s3 : XC := (.seq (.seq (.reg [m 0 9,e 22 9 10,a (.move (i 0)) 11]) (.block 0 (.loop x57_L2))) (.seq (.reg [b (.move (t 3)) 20,n 20 2]) .ret))
def x57_s4 : XC := (.seq (.reg [m 0 6,e 22 6 7,b (k 58 #[(t 7)] #[3]) 8,n 8 3]) x57_s3)
def V57 := PLift.up (aI (aI (@unf _ _ x57_s0.eq_1) (@unf _ _ x57_s1.eq_1)) (aI (@unf _ _ x57_L2.eq_1) (aI (@unf _ _ x57_s3.eq_1) (@unf _ _ x57_s4.eq_1))))
theorem U57 : type_of% V57.down := V57.down
def x57 : XC := (.seq (.reg [a (.assign (.const (.slice .none 0 0))) 2]) x57_s4)
theorem b57 : Bt 57 21 x57 [(.tmp 2)] := bt Tryz.func57 rfl (by kernel_rfl) (by kernel_rfl) (by kernel_rfl)
def x58_s0 : XC := (.cond (t 11) (.reg [m 3 12,b (.unOp .xor 117 (t 12)) 13,n 13 3,a (.assign (.const (.int .u8 255))) 4]) .skip)
def x58_s1 : XC := (.reg [m 5 22,b (.binOp .sub 3 (t 22) (i 1) 3) 23,n 23 5])
def x58_s2 : XC := (.block 1 (.seq (.seq (.reg [m 3 16,m 5 17,a (.binOp .sub 3 (t 17) (i 1) 3) 18,a (.binOp .mul 3 (i 8) (t 18) 3) 19,a (.binOp .shr 117 (t 16) (t 19) 3) 20,a (.binOp .gtr 117 (t 20) (.const (.int .u64 0)) 117) 21]) (.cond (t 21) (.exit 0) .skip)) x58_s1))
def x58_L3 : XC := (.seq (.seq (.reg [m 5 14,a (.binOp .gtr 3 (t 14) (i 0) 3) 15]) (.cond (t 15) .skip (.exit 0))) x58_s2)
def x58_s4 : XC := (.reg [m 7 34,b (.binOp .sub 3 (t 34) (i 1) 3) 35,n 35 7])
def x58_s5 : XC := (.seq (.block 3 (.reg [c (.move (t 6)) 36,m 3 37,m 7 38,a (.binOp .mul 3 (i 8) (t 38) 3) 39,a (.binOp .shr 117 (t 37) (t 39) 3) 40,a (.convert 117 5 (t 40)) 41,m 4 42,a (.binOp .xor 5 (t 41) (t 42) 5) 43,a (.buildSlice 35 1 #[(0,(t 43))]) 44,b (.call ⟨(.builtin .append),#[(t 36),(t 44)],#[35,35]⟩) 45,n 45 6])) x58_s4)
def x58_L6 : XC := (.seq (.seq (.reg [m 7 32,a (.binOp .geq 3 (t 32) (i 0) 3) 33]) (.cond (t 33) .skip (.exit 2))) x58_s5)
def x58_s7 : XC := (.seq (.seq (.reg [m 5 30,b (.binOp .sub 3 (t 30) (i 1) 3) 31,n 31 7]) (.block 2 (.loop x58_L6))) (.seq (.reg [b (.move (t 6)) 46,n 46 2]) .ret))
def x58_s8 : XC := (.seq (.reg [m 5 24,a (.binOp .add 3 (i 128) (t 24) 3) 25,a (.convert 3 5 (t 25)) 26,m 4 27,a (.binOp .xor 5 (t 26) (t 27) 5) 28,b (.buildSlice 35 1 #[(0,(t 28))]) 29,n 29 6]) x58_s7)
def x58_s9 : XC := (.seq (.seq (.reg [m 0 10,a (.binOp .lss 3 (t 10) (i 0) 3) 11]) x58_s0) (.seq (.reg [a (.assign (i 8)) 5]) (.seq .skip (.seq (.block 0 (.loop x58_L3)) x58_s8))))
def x58_s10 : XC := (.scope (.seq (.reg [m 0 8,b (.convert 3 117 (t 8)) 9,n 9 3,a (.assign (.const (.int .u8 0))) 4]) x58_s9))
def V58 := PLift.up (aI (aI (aI (@unf _ _ x58_s0.eq_1) (@unf _ _ x58_s1.eq_1)) (aI (@unf _ _ x58_s2.eq_1) (aI (@unf _ _ x58_L3.eq_1) (@unf _ _ x58_s4.eq_1)))) (aI (aI (@unf _ _ x58_s5.eq_1) (aI (@unf _ _ x58_L6.eq_1) (@unf _ _ x58_s7.eq_1))) (aI (@unf _ _ x58_s8.eq_1) (aI (@unf _ _ x58_s9.eq_1) (@unf _ _ x58_s10.eq_1)))))
theorem WX : type_of% V58.down := V58.down
def WJ : XC := (.seq (.reg [a (.assign (.const (.slice .none 0 0))) 2]) x58_s10)
theorem b58 : Bt 58 47 WJ [(.tmp 2)] := bt Tryz.func58 rfl (by kernel_rfl) (by kernel_rfl) (by kernel_rfl)
def x59_s0 : XC := (.regT [0] [([m 0 4,m 0 5,a (.nilCheck (t 5)) 6,f 111 6 0 7],c (.load 22 (t 7)) 8,false)] [f 50 3 0 9,l 3 9 10,f 50 3 1 11,l 3 11 12,f 50 3 2 13,l 3 13 14,a (.buildSlice 22 3 #[(0,(t 10)),(1,(t 12)),(2,(t 14))]) 15,b (.call ⟨(.builtin .append),#[(t 8),(t 15)],#[22,22]⟩) 16,a (.nilCheck (t 4)) 17,f 111 17 0 18] [w 22 18 16])
theorem Jd : type_of% (@unf _ _ x59_s0.eq_1) := unf x59_s0.eq_1
def x59 : XC := (.seq (.reg [a (.box 50 (t 1)) 3]) x59_s0)
theorem b59 : Bt 59 19 x59 [] := bt Tryz.func59 rfl (by kernel_rfl) (by kernel_rfl) (by kernel_rfl)
def x60_s0 : XC := (.reg [m 1 12,l 50 5 13,a (.call ⟨(.value (t 12)),#[(t 13)],#[50]⟩) 14])
def x60_s1 : XC := (.seq (.block 1 (.seq (.reg [j 51 6 8 10,b (.load 50 (t 10)) 11,a (.alloc 50) 5,w 50 5 11]) x60_s0)) (.reg [a (.binOp .add 3 (t 8) (i 1) 3) 15,m 15 8]))
def x60_L2 : XC := (.seq (.reg [a (.binOp .lss 3 (t 8) (t 7) 3) 9]) (.seq (.cond (t 9) .skip (.exit 0)) x60_s1))
def V60 := PLift.up (aI (@unf _ _ x60_s0.eq_1) (aI (@unf _ _ x60_s1.eq_1) (@unf _ _ x60_L2.eq_1)))
theorem U60 : type_of% V60.down := V60.down
def x60 : XC := (.seq (.reg [m 0 6,e 51 6 7,a (.move (i 0)) 8]) (.block 0 (.loop x60_L2)))
theorem b60 : Bt 60 16 x60 [] := bt Tryz.func60 rfl (by kernel_rfl) (by kernel_rfl) (by kernel_rfl)
def x61_s0 : XC := (.reg [c (.move (t 3)) 15,m 5 16,a (k 62 #[(t 16)] #[9]) 17,b (.call ⟨(.builtin .append),#[(t 15),(t 17)],#[35,35]⟩) 18,n 18 3])
def x61_s1 : XC := (.seq (.block 1 (.seq (.reg [j 73 9 11 13,b (.load 9 (t 13)) 14,n 14 5]) x61_s0)) (.reg [a (.binOp .add 3 (t 11) (i 1) 3) 19,m 19 11]))
def x61_L2 : XC := (.seq (.reg [a (.binOp .lss 3 (t 11) (t 10) 3) 12]) (.seq (.cond (t 12) .skip (.exit 0)) x61_s1))
def x61_s3 : XC := (.seq (.seq (.reg [m 0 9,e 73 9 10,a (.move (i 0)) 11]) (.block 0 (.loop x61_L2))) (.seq (.reg [b (.move (t 3)) 20,n 20 2]) .ret))
def x61_s4 : XC := (.seq (.reg [m 0 6,e 73 6 7,b (k 58 #[(t 7)] #[3]) 8,n 8 3]) x61_s3)
def V61 := PLift.up (aI (aI (@unf _ _ x61_s0.eq_1) (@unf _ _ x61_s1.eq_1)) (aI (@unf _ _ x61_L2.eq_1) (aI (@unf _ _ x61_s3.eq_1) (@unf _ _ x61_s4.eq_1))))
theorem U61 : type_of% V61.down := V61.down
def x61 : XC := (.seq (.reg [a (.assign (.const (.slice .none 0 0))) 2]) x61_s4)
theorem b61 : Bt 61 21 x61 [(.tmp 2)] := bt Tryz.func61 rfl (by kernel_rfl) (by kernel_rfl) (by kernel_rfl)
def x62_s0 : XC := (.seq (.reg [m 0 3,e 9 3 4,c (k 58 #[(t 4)] #[3]) 5,m 0 6,b (.call ⟨(.builtin .append),#[(t 5),(t 6)],#[35,9]⟩) 7,n 7 2]) .ret)
theorem Ui : type_of% (@unf _ _ x62_s0.eq_1) := unf x62_s0.eq_1
def x62 : XC := (.seq (.reg [a (.assign (.const (.slice .none 0 0))) 2]) x62_s0)
theorem b62 : Bt 62 8 x62 [(.tmp 2)] := bt Tryz.func62 rfl (by kernel_rfl) (by kernel_rfl) (by kernel_rfl)
end Go.Proofs.YtoeckfegggongaaGreatDoor
end
section
namespace Go.Proofs.YtoeckfegggongaaGreatDoor
open Go Go.Aw
theorem w_cnt {b : Bool} {m0 : Nat} {H : AH} {Q : AQ} {F : List D} (hm : (digs m0).length ≤ 8) (hF : Fr 47 [(3,.int .u64 (m0 : Int)),(4,.int .u8 (oK b)),(5,.int .i64 8)] F) (hE : ∀ F',Fr 47 [(3,.int .u64 (m0 : Int)),(4,.int .u8 (oK b)),(5,.int .i64 ((digs m0).length : Int))] F' → Q (.exit 0) F' H) : XW Tryz.prog x58_L3 F H Q := by
 have hbig := qt
 refine XW.loopK Go.Proofs.YtoeckfegggongaaGreatDoor.hm (fun F H'=>∃ (k : Nat),k ≤ 8 ∧ (digs m0).length ≤ k ∧ Fr 47 [(3,.int .u64 (m0 : Int)),(4,.int .u8 (oK b)),(5,.int .i64 (k : Int))] F ∧ H = H') (fun F H=>match F.getD 5 .any with | .int _ n'=>n'.toNat | _=>0) ⟨8,by omega,hm,hF,rfl⟩ ?_
 rintro _ _ ⟨k,hk,hd,hF,rfl⟩ K hN hE' hR
 obtain ⟨z,rfl⟩ : ∃ z : Nat → D,_ = zz z 0 3 (.int .u64 (m0 : Int) :: .int .u8 (oK b) :: .int .i64 (k : Int) :: zz z 6 41 []) := hF.lit
 try dsimp only [zz,qb] at *
 clear hF hR
 rcases k with _ | k
 ·clear hN
  have hd0 : (digs m0).length = 0 := by omega
  simp +contextual only [WJ,show (0 < ((0 : Nat) : Int)) = False from by simp,↓WX,↓XP,qm,XW1,qa,qb,qc,qd,qe,qf,reduceCtorEq]
  exact hE' _ _ _ (hE _ (by rw [hd0]; exact ⟨rfl,rfl,rfl,rfl,trivial⟩))
 ·have w1 : IntKind.i64.wrap (((k + 1 : Nat) : Int) - 1) = (k : Int) := by rw [qw (by omega) (by omega)]; omega
  have w2 : IntKind.i64.wrap (8 * (k : Int)) = 8 * (k : Int) := qw (by omega) (by omega)
  have w3 := YK (m := m0) (i := k) (by omega)
  have hc := Yv m0 k
  by_cases hle : (digs m0).length ≤ k
  ·have hz : m0 / 256 ^ k = 0 := Nat.div_eq_of_lt (hc.1 hle)
   rw [hz] at w3
   simp +contextual only [WJ,show (0 < ((k + 1 : Nat) : Int)) = True from eq_true (by omega),w1,w2,w3,show (0 ≤ 8 * (k : Int)) = True from eq_true (by omega),show (0 < ((0 : Nat) : Int)) = False from by simp,↓WX,↓XP,qm,XW1,qa,qb,qc,qd,qe,qf,reduceCtorEq]
   refine hN _ _ ⟨k,by omega,hle,⟨rfl,rfl,rfl,rfl,trivial⟩,(j9 rfl).symm⟩ ?_
   simp only [List.getD_cons_succ,List.getD_cons_zero]
   omega
  ·have hp : 0 < m0 / 256 ^ k := by
    refine Nat.div_pos ?_ (Nat.pow_pos (by omega))
    have := mt hc.2 hle
    omega
   have hlen : (digs m0).length = k + 1 := by omega
   clear hN
   simp +contextual only [WJ,show (0 < ((k + 1 : Nat) : Int)) = True from eq_true (by omega),w1,w2,w3,show (0 ≤ 8 * (k : Int)) = True from eq_true (by omega),show (0 < ((m0 / 256 ^ k : Nat) : Int)) = True from eq_true (by omega),↓WX,↓XP,qm,XW1,qa,qb,qc,qd,qe,qf,reduceCtorEq]
   exact hE' _ _ _ (hE _ (by rw [hlen]; exact ⟨rfl,rfl,rfl,rfl,trivial⟩))
theorem w_out {b : Bool} {m0 : Nat} {hd : UInt8} {H : AH} {Q : AQ} {F : List D} (hm : (digs m0).length ≤ 8) (hF : Fr 47 [(3,.int .u64 (m0 : Int)),(4,.int .u8 (oK b)),(6,.own ([hd].map qr)),(7,.int .i64 (((digs m0).length : Int) - 1))] F) (hE : ∀ F',Fr 47 [(6,.own ((hd :: (digs m0).reverse.map (qQ b)).map qr))] F' → Q (.exit 2) F' H) : XW Tryz.prog x58_L6 F H Q := by
 have hbig := qt
 refine XW.loopK Go.Proofs.YtoeckfegggongaaGreatDoor.hm (fun F H'=>∃ (j : Nat),j ≤ (digs m0).length ∧ Fr 47 [(3,.int .u64 (m0 : Int)),(4,.int .u8 (oK b)),(6,.own ((hd :: ((digs m0).drop j).reverse.map (qQ b)).map qr)),(7,.int .i64 ((j : Int) - 1))] F ∧ H = H') (fun F H=>match F.getD 7 .any with | .int _ n'=>(n' + 1).toNat | _=>0) ⟨(digs m0).length,by omega,by rw [List.drop_length]; exact hF,rfl⟩ ?_
 rintro _ _ ⟨j,hj,hF,rfl⟩ K hN hE' hR
 obtain ⟨z,rfl⟩ : ∃ z : Nat → D,_ = zz z 0 3 (.int .u64 (m0 : Int) :: .int .u8 (oK b) :: z 5 :: .own ((hd :: ((digs m0).drop j).reverse.map (qQ b)).map qr) :: .int .i64 ((j : Int) - 1) :: zz z 8 39 []) := hF.lit
 try dsimp only [zz,qb] at *
 clear hF hR
 rcases j with _ | j
 ·clear hN
  simp +contextual only [WJ,show ((0 : Nat) : Int) - 1 = -1 from rfl,show (0 ≤ (-1 : Int)) = False from by simp,↓WX,↓XP,qm,XW1,qa,qb,qc,qd,qe,qf,reduceCtorEq]
  exact hE' _ _ _ (hE _ ⟨rfl,rfl,trivial⟩)
 ·have e0 : ((j + 1 : Nat) : Int) - 1 = (j : Int) := by omega
  have nx : ∀ F',Fr 47 [(3,.int .u64 (m0 : Int)),(4,.int .u8 (oK b)),(6,.own ((hd :: ((digs m0).drop j).reverse.map (qQ b)).map qr)),(7,.int .i64 ((j : Int) - 1))] F' → K .normal F' H := fun F' hF'=>hN _ _ ⟨j,by omega,hF',(j9 rfl).symm⟩ (by
   rw [List.getD_eq_getElem?_getD,hF'.2.2.2.2.1]
   simp only [List.getD_cons_succ,List.getD_cons_zero,Option.getD_some]
   omega)
  clear hN hE hE'
  rw [Ko (show j < (digs m0).length by omega)] at nx
  rw [e0]
  have q1 : (digs m0)[j] = UInt8.ofNat (m0 / 256 ^ j % 256) := by
   rw [← Kl j m0 (by omega),List.getD_eq_getElem?_getD,List.getElem?_eq_getElem (show j < (digs m0).length by omega)]
   rfl
  have hlen : (List.map qr (hd :: ((digs m0).drop (j + 1)).reverse.map (qQ b))).length ≤ 9 := by
   simp only [List.length_map,List.length_cons,List.length_reverse,List.length_drop]
   omega
  have w1 : IntKind.i64.wrap ((j : Int) - 1) = (j : Int) - 1 := qw (by omega) (by omega)
  have w2 : IntKind.i64.wrap (8 * (j : Int)) = 8 * (j : Int) := qw (by omega) (by omega)
  have w3 := YK (m := m0) (i := j) (by omega)
  have w4 := UH (x := m0 / 256 ^ j)
  have w5 := xor8 (b := b) (x := m0 / 256 ^ j % 256) (Nat.mod_lt _ (by omega))
  rw [← q1] at w5
  rw [q1] at nx
  rw [q1] at w5
  simp only [List.map_append,List.map_cons,List.map_nil] at nx
  simp +contextual only [WJ,show (0 ≤ (j : Int)) = True from eq_true (by omega),w1,w2,w3,w4,w5,show (0 ≤ 8 * (j : Int)) = True from eq_true (by omega),↓WX,↓XP,qm,XW1,qa,qb,qc,qd,qe,qf,reduceCtorEq]
  exact ⟨⟨rfl,qC⟩,by simp only [List.length_reverse,List.length_drop]; omega,nx _ ⟨rfl,rfl,rfl,rfl,rfl,trivial⟩⟩
theorem gU {n : Int} {H : AH} {R : D → AH → Prop} (h : wC .i64 n → R (.own ((qy n).map qr)) H) : ACall Tryz.prog 58 [.int .i64 n] H R := by
 refine b58 fun hf=>?_
 have hbig := qt
 have hin : wC .i64 n := hf.1
 have hr := hin
 rw [yj] at hr
 replace h := h hin
 have hlen := zD hin
 have hm := QX hin
 obtain ⟨m0,hm0⟩ : ∃ m0,mag n = m0 := ⟨_,rfl⟩
 rw [qy,hm0] at h
 rw [hm0] at hlen hm
 have w0 := Ws hin
 have w3 : IntKind.i64.wrap (((digs m0).length : Int) - 1) = ((digs m0).length : Int) - 1 := qw (by omega) (by omega)
 have w4 : IntKind.i64.wrap (128 + ((digs m0).length : Int)) = ((128 + (digs m0).length : Nat) : Int) := by rw [qw (by omega) (by omega)]; omega
 have w5 : IntKind.u8.wrap ((128 + (digs m0).length : Nat) : Int) = ((128 + (digs m0).length : Nat) : Int) := wrap_u8 (by omega) (by omega)
 have w6 := fun c=>xor8 (b := c) (x := 128 + (digs m0).length) (by omega)
 by_cases hn : n < 0
 ·have e1 : n + 18446744073709551616 = ((18446744073709551615 - m0 : Nat) : Int) := by
   have : m0 = (-1 - n).toNat := by rw [← hm0,mag,if_pos hn]
   omega
  have ux : bits .xor .u64 (if IntKind.u64.signed = true then -1 else IntKind.u64.max) ((18446744073709551615 - m0 : Nat) : Int) = ((m0 : Nat) : Int) := by
   rw [show (if IntKind.u64.signed = true then (-1 : Int) else IntKind.u64.max) = ((18446744073709551615 : Nat) : Int) from rfl,u64_xor_nat _ _ (by omega) (by omega),not64 (by omega)]
   omega
  rw [if_pos hn] at h w0
  rw [e1] at w0
  rw [show 127 - (digs m0).length = (qQ true (UInt8.ofNat (128 + (digs m0).length))).toNat from by
   rw [qQ,if_pos rfl,UInt8.toNat_sub_of_le _ _ (by rw [UInt8.le_iff_toNat_le,UInt8.toNat_ofNat']; simp; omega),UInt8.toNat_ofNat']
   simp
   omega,UInt8.ofNat_toNat,decide_eq_true hn] at h
  simp +contextual only [WJ,w0,hn,ux,↓WX,↓XP,qm,XW1,qa,qb,qc,qd,qe,qf,reduceCtorEq]
  refine w_cnt (b := true) (m0 := m0) (by omega) ⟨rfl,rfl,rfl,rfl,trivial⟩ (fun F' hF'=>?_)
  obtain ⟨z,rfl⟩ : ∃ z : Nat → D,_ = (let b := true; [z 0,z 1,z 2,.int .u64 (m0 : Int),.int .u8 (oK b),.int .i64 ((digs m0).length : Int),z 6,z 7,z 8,z 9,z 10,z 11,z 12,z 13,z 14,z 15,z 16,z 17,z 18,z 19,z 20,z 21,z 22,z 23,z 24,z 25,z 26,z 27,z 28,z 29,z 30,z 31,z 32,z 33,z 34,z 35,z 36,z 37,z 38,z 39,z 40,z 41,z 42,z 43,z 44,z 45,z 46]) := hF'.lit
  simp +contextual only [WJ,w3,w4,w5,w6,↓WX,↓XP,qm,XW1,qa,qb,qc,qd,qe,qf,reduceCtorEq]
  rw [oy (UInt8.toNat_lt _),UInt8.ofNat_toNat]
  refine w_out (b := true) (m0 := m0) (hd := qQ true (UInt8.ofNat (128 + (digs m0).length))) (by omega) ⟨rfl,rfl,rfl,rfl,rfl,trivial⟩ (fun F' hF'=>?_)
  obtain ⟨z,rfl⟩ : ∃ z : Nat → D,_ = (let b := true; let hd := qQ true (UInt8.ofNat (128 + (digs m0).length)); [z 0,z 1,z 2,z 3,z 4,z 5,.own ((hd :: (digs m0).reverse.map (qQ b)).map qr),z 7,z 8,z 9,z 10,z 11,z 12,z 13,z 14,z 15,z 16,z 17,z 18,z 19,z 20,z 21,z 22,z 23,z 24,z 25,z 26,z 27,z 28,z 29,z 30,z 31,z 32,z 33,z 34,z 35,z 36,z 37,z 38,z 39,z 40,z 41,z 42,z 43,z 44,z 45,z 46]) := hF'.lit
  simp +contextual only [WJ,↓WX,↓XP,qm,XW1,qa,qb,qc,qd,qe,qf,reduceCtorEq]
  exact h
 ·have e1 : n = ((m0 : Nat) : Int) := by rw [← hm0,mag,if_neg hn]; omega
  rw [if_neg hn] at h w0
  rw [show 128 + (digs m0).length = (qQ false (UInt8.ofNat (128 + (digs m0).length))).toNat from by
   rw [qQ,if_neg (by simp),UInt8.toNat_ofNat']
   omega,UInt8.ofNat_toNat,decide_eq_false hn] at h
  replace w0 : IntKind.u64.wrap n = (m0 : Int) := w0.trans e1
  simp +contextual only [WJ,w0,hn,↓WX,↓XP,qm,XW1,qa,qb,qc,qd,qe,qf,reduceCtorEq]
  refine w_cnt (b := false) (m0 := m0) (by omega) ⟨rfl,rfl,rfl,rfl,trivial⟩ (fun F' hF'=>?_)
  obtain ⟨z,rfl⟩ : ∃ z : Nat → D,_ = (let b := false; [z 0,z 1,z 2,.int .u64 (m0 : Int),.int .u8 (oK b),.int .i64 ((digs m0).length : Int),z 6,z 7,z 8,z 9,z 10,z 11,z 12,z 13,z 14,z 15,z 16,z 17,z 18,z 19,z 20,z 21,z 22,z 23,z 24,z 25,z 26,z 27,z 28,z 29,z 30,z 31,z 32,z 33,z 34,z 35,z 36,z 37,z 38,z 39,z 40,z 41,z 42,z 43,z 44,z 45,z 46]) := hF'.lit
  simp +contextual only [WJ,w3,w4,w5,w6,↓WX,↓XP,qm,XW1,qa,qb,qc,qd,qe,qf,reduceCtorEq]
  rw [oy (UInt8.toNat_lt _),UInt8.ofNat_toNat]
  refine w_out (b := false) (m0 := m0) (hd := qQ false (UInt8.ofNat (128 + (digs m0).length))) (by omega) ⟨rfl,rfl,rfl,rfl,rfl,trivial⟩ (fun F' hF'=>?_)
  obtain ⟨z,rfl⟩ : ∃ z : Nat → D,_ = (let b := false; let hd := qQ false (UInt8.ofNat (128 + (digs m0).length)); [z 0,z 1,z 2,z 3,z 4,z 5,.own ((hd :: (digs m0).reverse.map (qQ b)).map qr),z 7,z 8,z 9,z 10,z 11,z 12,z 13,z 14,z 15,z 16,z 17,z 18,z 19,z 20,z 21,z 22,z 23,z 24,z 25,z 26,z 27,z 28,z 29,z 30,z 31,z 32,z 33,z 34,z 35,z 36,z 37,z 38,z 39,z 40,z 41,z 42,z 43,z 44,z 45,z 46]) := hF'.lit
  simp +contextual only [WJ,↓WX,↓XP,qm,XW1,qa,qb,qc,qd,qe,qf,reduceCtorEq]
  exact h
end Go.Proofs.YtoeckfegggongaaGreatDoor
end
section
namespace Go.Proofs.YtoeckfegggongaaGreatDoor
open Go Go.Aw
theorem Km {s : List UInt8} {H : AH} {R : D → AH → Prop} (hs : s.length ≤ 3000000000) (h : R (.own ((qH s).map qr)) H) : ACall Tryz.prog 62 [.str s] H R := by
 refine b62 fun hf=>?_
 have hbig := qt
 have hl := kC (n := s.length) (by omega)
 simp +contextual only [x62,qh,↓Ui,↓XP,qm,XW1,qa,qb,qc,qd,qe,qf,reduceCtorEq]
 refine fun _=>gU fun _=>?_
 simp +contextual only [x62,qh,↓Ui,↓XP,qm,XW1,qa,qb,qc,qd,qe,qf,reduceCtorEq]
 refine fun _=>⟨qC,by omega,?_⟩
 rw [← List.map_append]
 exact h
theorem zC {l : List Int} {H : AH} {R : D → AH → Prop} (hl : l.length ≤ 30000000 ) (h : (qN l).length ≤ 9 + 9 * l.length → R (.own ((qN l).map qr)) H) : ACall Tryz.prog 57 [.slc (ints l)] H R := by
 refine b57 fun hf=>?_
 have hbig := qt
 have hle := kC (n := l.length) (by omega)
 simp +contextual only [x57,qh,qn,↓U57,↓XP,qm,XW1,qa,qb,qc,qd,qe,qf,reduceCtorEq]
 refine fun _=>gU fun _=>?_
 simp +contextual only [x57,qh,qn,↓U57,↓XP,qm,XW1,qa,qb,qc,qd,qe,qf,reduceCtorEq]
 refine fun _ _=>XW.loopK Go.Proofs.YtoeckfegggongaaGreatDoor.hm (fun F H'=>∃ (i : Nat),i ≤ l.length ∧ (∀ x ∈ l.take i,wC .i64 x) ∧ Fr 21 [(3,.own ((qy l.length ++ (l.take i).flatMap qy).map qr)),(9,.slc (ints l)),(10,.int .i64 l.length),(11,.int .i64 i)] F ∧ H = H') (fun F H=>match F.getD 11 .any with | .int _ n'=>l.length - n'.toNat | _=>0) ⟨0,by omega,by simp,by simp only [List.take_zero,List.flatMap_nil,List.append_nil]; exact ⟨rfl,rfl,rfl,rfl,rfl,trivial⟩,rfl⟩ ?_
 rintro _ _ ⟨i,hi,hr,hF,rfl⟩ K hN hE hR
 obtain ⟨z,rfl⟩ : ∃ z : Nat → D,_ = zz z 0 3 (.own ((qy l.length ++ (l.take i).flatMap qy).map qr) :: zz z 4 5 (.slc (ints l) :: .int .i64 l.length :: .int .i64 i :: zz z 12 9 [])) := hF.lit
 try dsimp only [zz,qb] at *
 clear hF hR
 by_cases hlt : i < l.length
 ·have nx : wC .i64 (l.getD i 0) → ∀ F',Fr 21 [(3,.own ((qy l.length ++ (l.take i).flatMap qy ++ qy (l.getD i 0)).map qr)),(9,.slc (ints l)),(10,.int .i64 l.length),(11,.int .i64 ((i + 1 : Nat) : Int))] F' → K .normal F' H := fun hx F' hF'=>hN _ _ ⟨i + 1,hlt,fun x hx'=>by
   rw [List.take_add_one] at hx'
   rcases List.mem_append.1 hx' with hx' | hx'
   ·exact hr x hx'
   ·simp [hlt] at hx'
    rw [hx']
    simpa [hlt] using hx,by rw [yp (d := 0) hlt,← List.append_assoc]; exact hF',(j9 rfl).symm⟩ (by
   rw [List.getD_eq_getElem?_getD,hF'.2.2.2.2.1]
   simp only [List.getD_cons_succ,List.getD_cons_zero,Option.getD_some]
   omega)
  clear hN hE
  have q1 := yP (l := l) hlt
  have hfl := wA hr
  rw [List.length_take] at hfl
  generalize l.getD i 0 = x at q1 nx
  have hal : (qy (l.length : Int) ++ (l.take i).flatMap qy).length ≤ 9 + 9 * i := by rw [List.length_append]; omega
  generalize qy (l.length : Int) ++ (l.take i).flatMap qy = ac at nx hal ⊢
  simp +contextual only [x57,qh,qn,hlt,Int.ofNat_lt,q1,qp (show i ≤ big by omega),↓U57,↓XP,qm,XW1,qa,qb,qc,qd,qe,qf,reduceCtorEq]
  refine fun hx=>gU fun _=>?_
  have hxl := vE hx
  simp +contextual only [x57,qh,qn,qp (show i ≤ big by omega),↓U57,↓XP,qm,XW1,qa,qb,qc,qd,qe,qf,reduceCtorEq]
  refine fun _=>⟨qC,qC,by omega,?_⟩
  rw [← List.map_append]
  exact nx hx _ ⟨rfl,rfl,rfl,rfl,rfl,trivial⟩
 ·have hik : i = l.length := by omega
  subst hik
  clear hN
  simp +contextual only [x57,qh,qn,↓U57,↓XP,qm,XW1,qa,qb,qc,qd,qe,qf,reduceCtorEq]
  refine hE _ _ _ ?_
  rw [List.take_length] at hr ⊢
  simp +contextual only [x57,qh,qn,↓U57,↓XP,qm,XW1,qa,qb,qc,qd,qe,qf,reduceCtorEq]
  refine h ?_
  have := wA hr
  rw [qN,List.length_append]
  omega
theorem KF {l : List (List UInt8)} {H : AH} {R : D → AH → Prop} (hl : l.length ≤ 1000) (hs : ∀ x ∈ l,x.length ≤ 3000000) (h : R (.own ((jF l).map qr)) H) : ACall Tryz.prog 61 [.slc (strs l)] H R := by
 refine b61 fun hf=>?_
 have hbig := qt
 have hle := kC (n := l.length) (by omega)
 simp +contextual only [x61,qh,qJ,↓U61,↓XP,qm,XW1,qa,qb,qc,qd,qe,qf,reduceCtorEq]
 refine fun _=>gU fun _=>?_
 simp +contextual only [x61,qh,qJ,↓U61,↓XP,qm,XW1,qa,qb,qc,qd,qe,qf,reduceCtorEq]
 refine fun _ _=>XW.loopK Go.Proofs.YtoeckfegggongaaGreatDoor.hm (fun F H'=>∃ (i : Nat),i ≤ l.length ∧ Fr 21 [(3,.own ((qy l.length ++ (l.take i).flatMap qH).map qr)),(9,.slc (strs l)),(10,.int .i64 l.length),(11,.int .i64 i)] F ∧ H = H') (fun F H=>match F.getD 11 .any with | .int _ n'=>l.length - n'.toNat | _=>0) ⟨0,by omega,by simp only [List.take_zero,List.flatMap_nil,List.append_nil]; exact ⟨rfl,rfl,rfl,rfl,rfl,trivial⟩,rfl⟩ ?_
 rintro _ _ ⟨i,hi,hF,rfl⟩ K hN hE hR
 obtain ⟨z,rfl⟩ : ∃ z : Nat → D,_ = zz z 0 3 (.own ((qy l.length ++ (l.take i).flatMap qH).map qr) :: zz z 4 5 (.slc (strs l) :: .int .i64 l.length :: .int .i64 i :: zz z 12 9 [])) := hF.lit
 try dsimp only [zz,qb] at *
 clear hF hR
 by_cases hlt : i < l.length
 ·have nx : ∀ F',Fr 21 [(3,.own ((qy l.length ++ (l.take i).flatMap qH ++ qH (l.getD i [])).map qr)),(9,.slc (strs l)),(10,.int .i64 l.length),(11,.int .i64 ((i + 1 : Nat) : Int))] F' → K .normal F' H := fun F' hF'=>hN _ _ ⟨i + 1,hlt,by rw [yp (d := []) hlt,← List.append_assoc]; exact hF',(j9 rfl).symm⟩ (by
   rw [List.getD_eq_getElem?_getD,hF'.2.2.2.2.1]
   simp only [List.getD_cons_succ,List.getD_cons_zero,Option.getD_some]
   omega)
  clear hN hE
  have q1 := Qo (l := l) hlt
  have hfl := ve (l := l.take i) (c := 3000000) (fun x hx=>hs x (List.mem_of_mem_take hx)) (by omega)
  have hx1 : (l.getD i []).length ≤ 3000000 := hs _ (by rw [jk hlt]; exact List.getElem_mem hlt)
  rw [List.length_take] at hfl
  generalize l.getD i [] = x at q1 nx hx1
  have hal : (qy (l.length : Int) ++ (l.take i).flatMap qH).length ≤ 9 + 3000009 * 1000 := by
   rw [List.length_append]
   have : (9 + 3000000) * min i l.length ≤ 3000009 * 1000 := Nat.mul_le_mul_left _ (by omega)
   omega
  generalize qy (l.length : Int) ++ (l.take i).flatMap qH = ac at nx hal ⊢
  simp +contextual only [x61,qh,qJ,hlt,Int.ofNat_lt,q1,qp (show i ≤ big by omega),↓U61,↓XP,qm,XW1,qa,qb,qc,qd,qe,qf,reduceCtorEq]
  refine fun _=>Km (by omega) ?_
  have hxl : (qH x).length ≤ 9 + 3000000 := by
   have := kC (n := x.length) (by omega)
   simp only [qH,List.length_append]
   omega
  simp +contextual only [x61,qh,qJ,qp (show i ≤ big by omega),↓U61,↓XP,qm,XW1,qa,qb,qc,qd,qe,qf,reduceCtorEq]
  refine fun _=>⟨qC,qC,by omega,?_⟩
  rw [← List.map_append]
  exact nx _ ⟨rfl,rfl,rfl,rfl,rfl,trivial⟩
 ·have hik : i = l.length := by omega
  subst hik
  clear hN
  simp +contextual only [x61,qh,qJ,↓U61,↓XP,qm,XW1,qa,qb,qc,qd,qe,qf,reduceCtorEq]
  refine hE _ _ _ ?_
  rw [List.take_length]
  simp +contextual only [x61,qh,qJ,↓U61,↓XP,qm,XW1,qa,qb,qc,qd,qe,qf,reduceCtorEq]
  exact h
end Go.Proofs.YtoeckfegggongaaGreatDoor
end
