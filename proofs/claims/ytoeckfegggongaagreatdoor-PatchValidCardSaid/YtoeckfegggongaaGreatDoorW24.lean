/- A part of the proof of what the last text says: Gm0, Gm1, Gm2, Gm3, Gm4, Gm5, Gk2. Conditions: those in each theorem. -/
import Derived.Test.YtoeckfegggongaaGreatDoorW23
import Derived.Laws.BitsAllLaws
set_option linter.unusedVariables false
set_option linter.unusedSimpArgs false
set_option maxRecDepth 100000
set_option maxHeartbeats 16000000
open Nat (reduceSub reduceAdd reduceMul reduceEqDiff reduceLeDiff)
section
namespace Go.Proofs.YtoeckfegggongaaGreatDoor
open Go Go.Aw
theorem not64 {x : Nat} (h : x < 18446744073709551616) : 18446744073709551615 ^^^ x = 18446744073709551615 - x := by
  apply Nat.eq_of_testBit_eq
  intro i
  have e1 : (18446744073709551615 : Nat) = 2 ^ 64 - 1 := rfl
  have e2 : (18446744073709551615 : Nat) - x = 2 ^ 64 - (x + 1) := by omega
  rw [Nat.testBit_xor,e2,e1,Nat.testBit_two_pow_sub_one,Nat.testBit_two_pow_sub_succ h]
  by_cases hi : i < 64
  · simp [hi]
  · have : x.testBit i = false := Nat.testBit_lt_two_pow (Nat.lt_of_lt_of_le (show x < 2 ^ 64 from h) (Nat.pow_le_pow_right (by decide) (Nat.le_of_not_lt hi)))
    simp [hi,this]
theorem not8 {x : Nat} (h : x < 256) : x ^^^ 255 = 255 - x := by
  apply Nat.eq_of_testBit_eq
  intro i
  have e1 : (255 : Nat) = 2 ^ 8 - 1 := rfl
  have e2 : (255 : Nat) - x = 2 ^ 8 - (x + 1) := by omega
  rw [Nat.testBit_xor,e2,e1,Nat.testBit_two_pow_sub_one,Nat.testBit_two_pow_sub_succ h]
  by_cases hi : i < 8
  · simp [hi]
  · have : x.testBit i = false := Nat.testBit_lt_two_pow (Nat.lt_of_lt_of_le (show x < 2 ^ 8 from h) (Nat.pow_le_pow_right (by decide) (Nat.le_of_not_lt hi)))
    simp [hi,this]
def flI (b : Bool) : Int := if b = true then 255 else 0
theorem xor8 {b : Bool} {x : Nat} (h : x < 256) : bits .xor .u8 (x : Int) (flI b) = ((flip8 b (UInt8.ofNat x)).toNat : Int) := by
  cases b with
  | false =>
    have := u8_xor_nat x 0 h (by omega)
    simp only [Nat.xor_zero] at this
    simp only [flI,flip8,Bool.false_eq_true,if_false]
    rw [show ((0 : Int)) = ((0 : Nat) : Int) from rfl,this,UInt8.toNat_ofNat',Nat.mod_eq_of_lt h]
  | true =>
    have := u8_xor_nat x 255 h (by omega)
    rw [not8 h] at this
    have hx : (UInt8.ofNat x).toNat = x := by rw [UInt8.toNat_ofNat',Nat.mod_eq_of_lt h]
    simp only [flI,flip8,if_true]
    rw [show ((255 : Int)) = ((255 : Nat) : Int) from rfl,this,UInt8.toNat_sub_of_le _ _ (by rw [UInt8.le_iff_toNat_le,hx]; simp; omega),hx]
    simp
theorem digs_le : ∀ (m k : Nat),(digs m).length ≤ k ↔ m < 256 ^ k
  | m,0 => by
    by_cases hm : m = 0
    · subst hm; simp [digs_zero]
    · rw [digs_pos hm]; simp; omega
  | m,k + 1 => by
    by_cases hm : m = 0
    · subst hm; simp [digs_zero,Nat.pow_pos]
    · rw [digs_pos hm,List.length_cons,Nat.succ_le_succ_iff,digs_le (m / 256) k,Nat.div_lt_iff_lt_mul (by omega),Nat.pow_succ]
theorem digs_get : ∀ (i m : Nat),i < (digs m).length → (digs m).getD i 0 = UInt8.ofNat (m / 256 ^ i % 256)
  | i,m,h => by
    by_cases hm : m = 0
    · subst hm; simp [digs_zero] at h
    · rw [digs_pos hm] at h ⊢
      cases i with
      | zero => simp
      | succ i =>
        rw [List.getD_cons_succ,digs_get i (m / 256) (by simpa using h),Nat.div_div_eq_div_mul,Nat.pow_succ,Nat.mul_comm]
theorem shr_pow {m i : Nat} (hi : i ≤ 8) : ((m : Int)).fdiv (2 ^ (min ((8 * (i : Int)).toNat) IntKind.u64.bits)) = ((m / 256 ^ i : Nat) : Int) := by
  have e1 : (8 * (i : Int)).toNat = 8 * i := by omega
  have e2 : min (8 * i) IntKind.u64.bits = 8 * i := by
    have : IntKind.u64.bits = 64 := rfl
    omega
  rw [e1,e2,show (256 : Nat) = 2 ^ 8 from rfl,← Nat.pow_mul]
  rw [Int.fdiv_eq_ediv_of_nonneg _ (by exact Int.le_of_lt (Int.pow_pos (by omega)))]
  norm_cast
theorem wrap_u64c {n : Int} (h : inR .i64 n) : IntKind.u64.wrap n = (if n < 0 then n + 18446744073709551616 else n) := by
  rw [inR_i64] at h
  rw [IntKind.wrap_u64]
  split <;> omega
theorem wrap_u8c {x : Nat} : IntKind.u8.wrap ((x : Nat) : Int) = ((x % 256 : Nat) : Int) := by
  rw [IntKind.wrap_u8']
  omega
end Go.Proofs.YtoeckfegggongaaGreatDoor
end
section
namespace Go.Proofs.YtoeckfegggongaaGreatDoor
open Go Go.Aw
theorem w_cnt {b : Bool} {m0 : Nat} {H : AH} {Q : AQ} {F : List D} (hm : (digs m0).length ≤ 8) (hF : Fr 47 [(3,.int .u64 (m0 : Int)),(4,.int .u8 (flI b)),(5,.int .i64 8)] F) (hE : ∀ F',Fr 47 [(3,.int .u64 (m0 : Int)),(4,.int .u8 (flI b)),(5,.int .i64 ((digs m0).length : Int))] F' → Q (.exit 0) F' H) : XW Tryz.prog x58_L3 F H Q := by
  have hbig := big_eq
  refine XW.loopK Go.Proofs.YtoeckfegggongaaGreatDoor.hm (fun F H' => ∃ (k : Nat),k ≤ 8 ∧ (digs m0).length ≤ k ∧ Fr 47 [(3,.int .u64 (m0 : Int)),(4,.int .u8 (flI b)),(5,.int .i64 (k : Int))] F ∧ H = H') (fun F H => match F.getD 5 .any with | .int _ n' => n'.toNat | _ => 0) ⟨8,by omega,hm,hF,rfl⟩ ?_
  rintro _ _ ⟨k,hk,hd,hF,rfl⟩ K hN hE' hR
  obtain ⟨z,rfl⟩ : ∃ z : Nat → D,_ = zz z 0 3 (.int .u64 (m0 : Int) :: .int .u8 (flI b) :: .int .i64 (k : Int) :: zz z 6 41 []) := hF.lit
  try dsimp only [zz,reduceAdd] at *
  clear hF hR
  rcases k with _ | k
  · clear hN
    have hd0 : (digs m0).length = 0 := by omega
    simp +contextual only [x58,show (0 < ((0 : Nat) : Int)) = False from by simp,↓U58,↓XP,XW0,XW1,reduceSub,reduceAdd,reduceMul,reduceEqDiff,reduceLeDiff,Nat.reduceBEq,reduceCtorEq,TYX]
    exact hE' _ _ _ (hE _ (by rw [hd0]; exact ⟨rfl,rfl,rfl,rfl,trivial⟩))
  · have w1 : IntKind.i64.wrap (((k + 1 : Nat) : Int) - 1) = (k : Int) := by rw [wrap_id (by omega) (by omega)]; omega
    have w2 : IntKind.i64.wrap (8 * (k : Int)) = 8 * (k : Int) := wrap_id (by omega) (by omega)
    have w3 := shr_pow (m := m0) (i := k) (by omega)
    have hc := digs_le m0 k
    by_cases hle : (digs m0).length ≤ k
    · have hz : m0 / 256 ^ k = 0 := Nat.div_eq_of_lt (hc.1 hle)
      rw [hz] at w3
      simp +contextual only [x58,show (0 < ((k + 1 : Nat) : Int)) = True from eq_true (by omega),w1,w2,w3,show (0 ≤ 8 * (k : Int)) = True from eq_true (by omega),show (0 < ((0 : Nat) : Int)) = False from by simp,↓U58,↓XP,XW0,XW1,reduceSub,reduceAdd,reduceMul,reduceEqDiff,reduceLeDiff,Nat.reduceBEq,reduceCtorEq,TYX]
      refine hN _ _ ⟨k,by omega,hle,⟨rfl,rfl,rfl,rfl,trivial⟩,(back_0 rfl).symm⟩ ?_
      simp only [List.getD_cons_succ,List.getD_cons_zero]
      omega
    · have hp : 0 < m0 / 256 ^ k := by
        refine Nat.div_pos ?_ (Nat.pow_pos (by omega))
        have := mt hc.2 hle
        omega
      have hlen : (digs m0).length = k + 1 := by omega
      clear hN
      simp +contextual only [x58,show (0 < ((k + 1 : Nat) : Int)) = True from eq_true (by omega),w1,w2,w3,show (0 ≤ 8 * (k : Int)) = True from eq_true (by omega),show (0 < ((m0 / 256 ^ k : Nat) : Int)) = True from eq_true (by omega),↓U58,↓XP,XW0,XW1,reduceSub,reduceAdd,reduceMul,reduceEqDiff,reduceLeDiff,Nat.reduceBEq,reduceCtorEq,TYX]
      exact hE' _ _ _ (hE _ (by rw [hlen]; exact ⟨rfl,rfl,rfl,rfl,trivial⟩))
theorem w_out {b : Bool} {m0 : Nat} {hd : UInt8} {H : AH} {Q : AQ} {F : List D} (hm : (digs m0).length ≤ 8) (hF : Fr 47 [(3,.int .u64 (m0 : Int)),(4,.int .u8 (flI b)),(6,.own ([hd].map byteD)),(7,.int .i64 (((digs m0).length : Int) - 1))] F) (hE : ∀ F',Fr 47 [(6,.own ((hd :: (digs m0).reverse.map (flip8 b)).map byteD))] F' → Q (.exit 2) F' H) : XW Tryz.prog x58_L6 F H Q := by
  have hbig := big_eq
  refine XW.loopK Go.Proofs.YtoeckfegggongaaGreatDoor.hm (fun F H' => ∃ (j : Nat),j ≤ (digs m0).length ∧ Fr 47 [(3,.int .u64 (m0 : Int)),(4,.int .u8 (flI b)),(6,.own ((hd :: ((digs m0).drop j).reverse.map (flip8 b)).map byteD)),(7,.int .i64 ((j : Int) - 1))] F ∧ H = H') (fun F H => match F.getD 7 .any with | .int _ n' => (n' + 1).toNat | _ => 0) ⟨(digs m0).length,by omega,by rw [List.drop_length]; exact hF,rfl⟩ ?_
  rintro _ _ ⟨j,hj,hF,rfl⟩ K hN hE' hR
  obtain ⟨z,rfl⟩ : ∃ z : Nat → D,_ = zz z 0 3 (.int .u64 (m0 : Int) :: .int .u8 (flI b) :: z 5 :: .own ((hd :: ((digs m0).drop j).reverse.map (flip8 b)).map byteD) :: .int .i64 ((j : Int) - 1) :: zz z 8 39 []) := hF.lit
  try dsimp only [zz,reduceAdd] at *
  clear hF hR
  rcases j with _ | j
  · clear hN
    simp +contextual only [x58,show ((0 : Nat) : Int) - 1 = -1 from rfl,show (0 ≤ (-1 : Int)) = False from by simp,↓U58,↓XP,XW0,XW1,reduceSub,reduceAdd,reduceMul,reduceEqDiff,reduceLeDiff,Nat.reduceBEq,reduceCtorEq,TYX]
    exact hE' _ _ _ (hE _ ⟨rfl,rfl,trivial⟩)
  · have e0 : ((j + 1 : Nat) : Int) - 1 = (j : Int) := by omega
    have nx : ∀ F',Fr 47 [(3,.int .u64 (m0 : Int)),(4,.int .u8 (flI b)),(6,.own ((hd :: ((digs m0).drop j).reverse.map (flip8 b)).map byteD)),(7,.int .i64 ((j : Int) - 1))] F' → K .normal F' H := fun F' hF' => hN _ _ ⟨j,by omega,hF',(back_0 rfl).symm⟩ (by
      rw [List.getD_eq_getElem?_getD,hF'.2.2.2.2.1]
      simp only [List.getD_cons_succ,List.getD_cons_zero,Option.getD_some]
      omega)
    clear hN hE hE'
    rw [drop_rev (show j < (digs m0).length by omega)] at nx
    rw [e0]
    have q1 : (digs m0)[j] = UInt8.ofNat (m0 / 256 ^ j % 256) := by
      rw [← digs_get j m0 (by omega),List.getD_eq_getElem?_getD,List.getElem?_eq_getElem (show j < (digs m0).length by omega)]
      rfl
    have hlen : (List.map byteD (hd :: ((digs m0).drop (j + 1)).reverse.map (flip8 b))).length ≤ 9 := by
      simp only [List.length_map,List.length_cons,List.length_reverse,List.length_drop]
      omega
    have w1 : IntKind.i64.wrap ((j : Int) - 1) = (j : Int) - 1 := wrap_id (by omega) (by omega)
    have w2 : IntKind.i64.wrap (8 * (j : Int)) = 8 * (j : Int) := wrap_id (by omega) (by omega)
    have w3 := shr_pow (m := m0) (i := j) (by omega)
    have w4 := wrap_u8c (x := m0 / 256 ^ j)
    have w5 := xor8 (b := b) (x := m0 / 256 ^ j % 256) (Nat.mod_lt _ (by omega))
    rw [← q1] at w5
    rw [q1] at nx
    rw [q1] at w5
    simp only [List.map_append,List.map_cons,List.map_nil] at nx
    simp +contextual only [x58,show (0 ≤ (j : Int)) = True from eq_true (by omega),w1,w2,w3,w4,w5,show (0 ≤ 8 * (j : Int)) = True from eq_true (by omega),↓U58,↓XP,XW0,XW1,reduceSub,reduceAdd,reduceMul,reduceEqDiff,reduceLeDiff,Nat.reduceBEq,reduceCtorEq,TYX]
    exact ⟨⟨rfl,bytes_1⟩,by simp only [List.length_reverse,List.length_drop]; omega,nx _ ⟨rfl,rfl,rfl,rfl,rfl,trivial⟩⟩
theorem f_wInt {n : Int} {H : AH} {R : D → AH → Prop} (h : inR .i64 n → R (.own ((encInt n).map byteD)) H) : ACall Tryz.prog 58 [.int .i64 n] H R := by
  refine b58 fun hf => ?_
  have hbig := big_eq
  have hin : inR .i64 n := hf.1
  have hr := hin
  rw [inR_i64] at hr
  replace h := h hin
  have hlen := mag_len hin
  have hm := mag_lt hin
  obtain ⟨m0,hm0⟩ : ∃ m0,mag n = m0 := ⟨_,rfl⟩
  rw [encInt,hm0] at h
  rw [hm0] at hlen hm
  have w0 := wrap_u64c hin
  have w3 : IntKind.i64.wrap (((digs m0).length : Int) - 1) = ((digs m0).length : Int) - 1 := wrap_id (by omega) (by omega)
  have w4 : IntKind.i64.wrap (128 + ((digs m0).length : Int)) = ((128 + (digs m0).length : Nat) : Int) := by rw [wrap_id (by omega) (by omega)]; omega
  have w5 : IntKind.u8.wrap ((128 + (digs m0).length : Nat) : Int) = ((128 + (digs m0).length : Nat) : Int) := wrap_u8 (by omega) (by omega)
  have w6 := fun c => xor8 (b := c) (x := 128 + (digs m0).length) (by omega)
  by_cases hn : n < 0
  · have e1 : n + 18446744073709551616 = ((18446744073709551615 - m0 : Nat) : Int) := by
      have : m0 = (-1 - n).toNat := by rw [← hm0,mag,if_pos hn]
      omega
    have ux : bits .xor .u64 (if IntKind.u64.signed = true then -1 else IntKind.u64.max) ((18446744073709551615 - m0 : Nat) : Int) = ((m0 : Nat) : Int) := by
      rw [show (if IntKind.u64.signed = true then (-1 : Int) else IntKind.u64.max) = ((18446744073709551615 : Nat) : Int) from rfl,u64_xor_nat _ _ (by omega) (by omega),not64 (by omega)]
      omega
    rw [if_pos hn] at h w0
    rw [e1] at w0
    rw [show 127 - (digs m0).length = (flip8 true (UInt8.ofNat (128 + (digs m0).length))).toNat from by
      rw [flip8,if_pos rfl,UInt8.toNat_sub_of_le _ _ (by rw [UInt8.le_iff_toNat_le,UInt8.toNat_ofNat']; simp; omega),UInt8.toNat_ofNat']
      simp
      omega,UInt8.ofNat_toNat,decide_eq_true hn] at h
    simp +contextual only [x58,w0,hn,ux,↓U58,↓XP,XW0,XW1,reduceSub,reduceAdd,reduceMul,reduceEqDiff,reduceLeDiff,Nat.reduceBEq,reduceCtorEq,TYX]
    refine w_cnt (b := true) (m0 := m0) (by omega) ⟨rfl,rfl,rfl,rfl,trivial⟩ (fun F' hF' => ?_)
    obtain ⟨z,rfl⟩ : ∃ z : Nat → D,_ = (let b := true; [z 0,z 1,z 2,.int .u64 (m0 : Int),.int .u8 (flI b),.int .i64 ((digs m0).length : Int),z 6,z 7,z 8,z 9,z 10,z 11,z 12,z 13,z 14,z 15,z 16,z 17,z 18,z 19,z 20,z 21,z 22,z 23,z 24,z 25,z 26,z 27,z 28,z 29,z 30,z 31,z 32,z 33,z 34,z 35,z 36,z 37,z 38,z 39,z 40,z 41,z 42,z 43,z 44,z 45,z 46]) := hF'.lit
    simp +contextual only [x58,w3,w4,w5,w6,↓U58,↓XP,XW0,XW1,reduceSub,reduceAdd,reduceMul,reduceEqDiff,reduceLeDiff,Nat.reduceBEq,reduceCtorEq,TYX]
    rw [byte_of (UInt8.toNat_lt _),UInt8.ofNat_toNat]
    refine w_out (b := true) (m0 := m0) (hd := flip8 true (UInt8.ofNat (128 + (digs m0).length))) (by omega) ⟨rfl,rfl,rfl,rfl,rfl,trivial⟩ (fun F' hF' => ?_)
    obtain ⟨z,rfl⟩ : ∃ z : Nat → D,_ = (let b := true; let hd := flip8 true (UInt8.ofNat (128 + (digs m0).length)); [z 0,z 1,z 2,z 3,z 4,z 5,.own ((hd :: (digs m0).reverse.map (flip8 b)).map byteD),z 7,z 8,z 9,z 10,z 11,z 12,z 13,z 14,z 15,z 16,z 17,z 18,z 19,z 20,z 21,z 22,z 23,z 24,z 25,z 26,z 27,z 28,z 29,z 30,z 31,z 32,z 33,z 34,z 35,z 36,z 37,z 38,z 39,z 40,z 41,z 42,z 43,z 44,z 45,z 46]) := hF'.lit
    simp +contextual only [x58,↓U58,↓XP,XW0,XW1,reduceSub,reduceAdd,reduceMul,reduceEqDiff,reduceLeDiff,Nat.reduceBEq,reduceCtorEq,TYX]
    exact h
  · have e1 : n = ((m0 : Nat) : Int) := by rw [← hm0,mag,if_neg hn]; omega
    rw [if_neg hn] at h w0
    rw [show 128 + (digs m0).length = (flip8 false (UInt8.ofNat (128 + (digs m0).length))).toNat from by
      rw [flip8,if_neg (by simp),UInt8.toNat_ofNat']
      omega,UInt8.ofNat_toNat,decide_eq_false hn] at h
    replace w0 : IntKind.u64.wrap n = (m0 : Int) := w0.trans e1
    simp +contextual only [x58,w0,hn,↓U58,↓XP,XW0,XW1,reduceSub,reduceAdd,reduceMul,reduceEqDiff,reduceLeDiff,Nat.reduceBEq,reduceCtorEq,TYX]
    refine w_cnt (b := false) (m0 := m0) (by omega) ⟨rfl,rfl,rfl,rfl,trivial⟩ (fun F' hF' => ?_)
    obtain ⟨z,rfl⟩ : ∃ z : Nat → D,_ = (let b := false; [z 0,z 1,z 2,.int .u64 (m0 : Int),.int .u8 (flI b),.int .i64 ((digs m0).length : Int),z 6,z 7,z 8,z 9,z 10,z 11,z 12,z 13,z 14,z 15,z 16,z 17,z 18,z 19,z 20,z 21,z 22,z 23,z 24,z 25,z 26,z 27,z 28,z 29,z 30,z 31,z 32,z 33,z 34,z 35,z 36,z 37,z 38,z 39,z 40,z 41,z 42,z 43,z 44,z 45,z 46]) := hF'.lit
    simp +contextual only [x58,w3,w4,w5,w6,↓U58,↓XP,XW0,XW1,reduceSub,reduceAdd,reduceMul,reduceEqDiff,reduceLeDiff,Nat.reduceBEq,reduceCtorEq,TYX]
    rw [byte_of (UInt8.toNat_lt _),UInt8.ofNat_toNat]
    refine w_out (b := false) (m0 := m0) (hd := flip8 false (UInt8.ofNat (128 + (digs m0).length))) (by omega) ⟨rfl,rfl,rfl,rfl,rfl,trivial⟩ (fun F' hF' => ?_)
    obtain ⟨z,rfl⟩ : ∃ z : Nat → D,_ = (let b := false; let hd := flip8 false (UInt8.ofNat (128 + (digs m0).length)); [z 0,z 1,z 2,z 3,z 4,z 5,.own ((hd :: (digs m0).reverse.map (flip8 b)).map byteD),z 7,z 8,z 9,z 10,z 11,z 12,z 13,z 14,z 15,z 16,z 17,z 18,z 19,z 20,z 21,z 22,z 23,z 24,z 25,z 26,z 27,z 28,z 29,z 30,z 31,z 32,z 33,z 34,z 35,z 36,z 37,z 38,z 39,z 40,z 41,z 42,z 43,z 44,z 45,z 46]) := hF'.lit
    simp +contextual only [x58,↓U58,↓XP,XW0,XW1,reduceSub,reduceAdd,reduceMul,reduceEqDiff,reduceLeDiff,Nat.reduceBEq,reduceCtorEq,TYX]
    exact h
end Go.Proofs.YtoeckfegggongaaGreatDoor
end
section
namespace Go.Proofs.YtoeckfegggongaaGreatDoor
open Go Go.Aw
theorem f_wBytes {s : List UInt8} {H : AH} {R : D → AH → Prop} (hs : s.length ≤ 3000000000) (h : R (.own ((encBytes s).map byteD)) H) : ACall Tryz.prog 62 [.str s] H R := by
  refine b62 fun hf => ?_
  have hbig := big_eq
  have hl := encLen (n := s.length) (by omega)
  simp +contextual only [x62,bytesD_len,↓u62_s0,↓XP,XW0,XW1,reduceSub,reduceAdd,reduceMul,reduceEqDiff,reduceLeDiff,Nat.reduceBEq,reduceCtorEq,TYX]
  refine fun _ => f_wInt fun _ => ?_
  simp +contextual only [x62,bytesD_len,↓u62_s0,↓XP,XW0,XW1,reduceSub,reduceAdd,reduceMul,reduceEqDiff,reduceLeDiff,Nat.reduceBEq,reduceCtorEq,TYX]
  refine fun _ => ⟨bytes_1,by omega,?_⟩
  rw [← List.map_append]
  exact h
theorem f_wInts {l : List Int} {H : AH} {R : D → AH → Prop} (hl : l.length ≤ 30000000 ) (h : (encInts l).length ≤ 9 + 9 * l.length → R (.own ((encInts l).map byteD)) H) : ACall Tryz.prog 57 [.slc (ints l)] H R := by
  refine b57 fun hf => ?_
  have hbig := big_eq
  have hle := encLen (n := l.length) (by omega)
  simp +contextual only [x57,bytesD_len,ints_len,↓U57,↓XP,XW0,XW1,reduceSub,reduceAdd,reduceMul,reduceEqDiff,reduceLeDiff,Nat.reduceBEq,reduceCtorEq,TYX]
  refine fun _ => f_wInt fun _ => ?_
  simp +contextual only [x57,bytesD_len,ints_len,↓U57,↓XP,XW0,XW1,reduceSub,reduceAdd,reduceMul,reduceEqDiff,reduceLeDiff,Nat.reduceBEq,reduceCtorEq,TYX]
  refine fun _ _ => XW.loopK Go.Proofs.YtoeckfegggongaaGreatDoor.hm (fun F H' => ∃ (i : Nat),i ≤ l.length ∧ (∀ x ∈ l.take i,inR .i64 x) ∧ Fr 21 [(3,.own ((encInt l.length ++ (l.take i).flatMap encInt).map byteD)),(9,.slc (ints l)),(10,.int .i64 l.length),(11,.int .i64 i)] F ∧ H = H') (fun F H => match F.getD 11 .any with | .int _ n' => l.length - n'.toNat | _ => 0) ⟨0,by omega,by simp,by simp only [List.take_zero,List.flatMap_nil,List.append_nil]; exact ⟨rfl,rfl,rfl,rfl,rfl,trivial⟩,rfl⟩ ?_
  rintro _ _ ⟨i,hi,hr,hF,rfl⟩ K hN hE hR
  obtain ⟨z,rfl⟩ : ∃ z : Nat → D,_ = zz z 0 3 (.own ((encInt l.length ++ (l.take i).flatMap encInt).map byteD) :: zz z 4 5 (.slc (ints l) :: .int .i64 l.length :: .int .i64 i :: zz z 12 9 [])) := hF.lit
  try dsimp only [zz,reduceAdd] at *
  clear hF hR
  by_cases hlt : i < l.length
  · have nx : inR .i64 (l.getD i 0) → ∀ F',Fr 21 [(3,.own ((encInt l.length ++ (l.take i).flatMap encInt ++ encInt (l.getD i 0)).map byteD)),(9,.slc (ints l)),(10,.int .i64 l.length),(11,.int .i64 ((i + 1 : Nat) : Int))] F' → K .normal F' H := fun hx F' hF' => hN _ _ ⟨i + 1,hlt,fun x hx' => by
      rw [List.take_add_one] at hx'
      rcases List.mem_append.1 hx' with hx' | hx'
      · exact hr x hx'
      · simp [hlt] at hx'
        rw [hx']
        simpa [hlt] using hx,by rw [flat_take (d := 0) hlt,← List.append_assoc]; exact hF',(back_0 rfl).symm⟩ (by
      rw [List.getD_eq_getElem?_getD,hF'.2.2.2.2.1]
      simp only [List.getD_cons_succ,List.getD_cons_zero,Option.getD_some]
      omega)
    clear hN hE
    have q1 := ints_getD (l := l) hlt
    have hfl := flat_len9 hr
    rw [List.length_take] at hfl
    generalize l.getD i 0 = x at q1 nx
    have hal : (encInt (l.length : Int) ++ (l.take i).flatMap encInt).length ≤ 9 + 9 * i := by rw [List.length_append]; omega
    generalize encInt (l.length : Int) ++ (l.take i).flatMap encInt = ac at nx hal ⊢
    simp +contextual only [x57,bytesD_len,ints_len,hlt,Int.ofNat_lt,q1,wrap_succ (show i ≤ big by omega),↓U57,↓XP,XW0,XW1,reduceSub,reduceAdd,reduceMul,reduceEqDiff,reduceLeDiff,Nat.reduceBEq,reduceCtorEq,TYX]
    refine fun hx => f_wInt fun _ => ?_
    have hxl := encInt_len hx
    simp +contextual only [x57,bytesD_len,ints_len,wrap_succ (show i ≤ big by omega),↓U57,↓XP,XW0,XW1,reduceSub,reduceAdd,reduceMul,reduceEqDiff,reduceLeDiff,Nat.reduceBEq,reduceCtorEq,TYX]
    refine fun _ => ⟨bytes_1,bytes_1,by omega,?_⟩
    rw [← List.map_append]
    exact nx hx _ ⟨rfl,rfl,rfl,rfl,rfl,trivial⟩
  · have hik : i = l.length := by omega
    subst hik
    clear hN
    simp +contextual only [x57,bytesD_len,ints_len,↓U57,↓XP,XW0,XW1,reduceSub,reduceAdd,reduceMul,reduceEqDiff,reduceLeDiff,Nat.reduceBEq,reduceCtorEq,TYX]
    refine hE _ _ _ ?_
    rw [List.take_length] at hr ⊢
    simp +contextual only [x57,bytesD_len,ints_len,↓U57,↓XP,XW0,XW1,reduceSub,reduceAdd,reduceMul,reduceEqDiff,reduceLeDiff,Nat.reduceBEq,reduceCtorEq,TYX]
    refine h ?_
    have := flat_len9 hr
    rw [encInts,List.length_append]
    omega
theorem f_wStrings {l : List (List UInt8)} {H : AH} {R : D → AH → Prop} (hl : l.length ≤ 1000) (hs : ∀ x ∈ l,x.length ≤ 3000000) (h : R (.own ((encStrs l).map byteD)) H) : ACall Tryz.prog 61 [.slc (strs l)] H R := by
  refine b61 fun hf => ?_
  have hbig := big_eq
  have hle := encLen (n := l.length) (by omega)
  simp +contextual only [x61,bytesD_len,strs_len,↓U61,↓XP,XW0,XW1,reduceSub,reduceAdd,reduceMul,reduceEqDiff,reduceLeDiff,Nat.reduceBEq,reduceCtorEq,TYX]
  refine fun _ => f_wInt fun _ => ?_
  simp +contextual only [x61,bytesD_len,strs_len,↓U61,↓XP,XW0,XW1,reduceSub,reduceAdd,reduceMul,reduceEqDiff,reduceLeDiff,Nat.reduceBEq,reduceCtorEq,TYX]
  refine fun _ _ => XW.loopK Go.Proofs.YtoeckfegggongaaGreatDoor.hm (fun F H' => ∃ (i : Nat),i ≤ l.length ∧ Fr 21 [(3,.own ((encInt l.length ++ (l.take i).flatMap encBytes).map byteD)),(9,.slc (strs l)),(10,.int .i64 l.length),(11,.int .i64 i)] F ∧ H = H') (fun F H => match F.getD 11 .any with | .int _ n' => l.length - n'.toNat | _ => 0) ⟨0,by omega,by simp only [List.take_zero,List.flatMap_nil,List.append_nil]; exact ⟨rfl,rfl,rfl,rfl,rfl,trivial⟩,rfl⟩ ?_
  rintro _ _ ⟨i,hi,hF,rfl⟩ K hN hE hR
  obtain ⟨z,rfl⟩ : ∃ z : Nat → D,_ = zz z 0 3 (.own ((encInt l.length ++ (l.take i).flatMap encBytes).map byteD) :: zz z 4 5 (.slc (strs l) :: .int .i64 l.length :: .int .i64 i :: zz z 12 9 [])) := hF.lit
  try dsimp only [zz,reduceAdd] at *
  clear hF hR
  by_cases hlt : i < l.length
  · have nx : ∀ F',Fr 21 [(3,.own ((encInt l.length ++ (l.take i).flatMap encBytes ++ encBytes (l.getD i [])).map byteD)),(9,.slc (strs l)),(10,.int .i64 l.length),(11,.int .i64 ((i + 1 : Nat) : Int))] F' → K .normal F' H := fun F' hF' => hN _ _ ⟨i + 1,hlt,by rw [flat_take (d := []) hlt,← List.append_assoc]; exact hF',(back_0 rfl).symm⟩ (by
      rw [List.getD_eq_getElem?_getD,hF'.2.2.2.2.1]
      simp only [List.getD_cons_succ,List.getD_cons_zero,Option.getD_some]
      omega)
    clear hN hE
    have q1 := strs_getD (l := l) hlt
    have hfl := flat_lenB (l := l.take i) (c := 3000000) (fun x hx => hs x (List.mem_of_mem_take hx)) (by omega)
    have hx1 : (l.getD i []).length ≤ 3000000 := hs _ (by rw [getD_lt hlt]; exact List.getElem_mem hlt)
    rw [List.length_take] at hfl
    generalize l.getD i [] = x at q1 nx hx1
    have hal : (encInt (l.length : Int) ++ (l.take i).flatMap encBytes).length ≤ 9 + 3000009 * 1000 := by
      rw [List.length_append]
      have : (9 + 3000000) * min i l.length ≤ 3000009 * 1000 := Nat.mul_le_mul_left _ (by omega)
      omega
    generalize encInt (l.length : Int) ++ (l.take i).flatMap encBytes = ac at nx hal ⊢
    simp +contextual only [x61,bytesD_len,strs_len,hlt,Int.ofNat_lt,q1,wrap_succ (show i ≤ big by omega),↓U61,↓XP,XW0,XW1,reduceSub,reduceAdd,reduceMul,reduceEqDiff,reduceLeDiff,Nat.reduceBEq,reduceCtorEq,TYX]
    refine fun _ => f_wBytes (by omega) ?_
    have hxl : (encBytes x).length ≤ 9 + 3000000 := by
      have := encLen (n := x.length) (by omega)
      simp only [encBytes,List.length_append]
      omega
    simp +contextual only [x61,bytesD_len,strs_len,wrap_succ (show i ≤ big by omega),↓U61,↓XP,XW0,XW1,reduceSub,reduceAdd,reduceMul,reduceEqDiff,reduceLeDiff,Nat.reduceBEq,reduceCtorEq,TYX]
    refine fun _ => ⟨bytes_1,bytes_1,by omega,?_⟩
    rw [← List.map_append]
    exact nx _ ⟨rfl,rfl,rfl,rfl,rfl,trivial⟩
  · have hik : i = l.length := by omega
    subst hik
    clear hN
    simp +contextual only [x61,bytesD_len,strs_len,↓U61,↓XP,XW0,XW1,reduceSub,reduceAdd,reduceMul,reduceEqDiff,reduceLeDiff,Nat.reduceBEq,reduceCtorEq,TYX]
    refine hE _ _ _ ?_
    rw [List.take_length]
    simp +contextual only [x61,bytesD_len,strs_len,↓U61,↓XP,XW0,XW1,reduceSub,reduceAdd,reduceMul,reduceEqDiff,reduceLeDiff,Nat.reduceBEq,reduceCtorEq,TYX]
    exact h
end Go.Proofs.YtoeckfegggongaaGreatDoor
end
section
namespace Go.Proofs.YtoeckfegggongaaGreatDoor
open Go Go.Aw
theorem f_id {x : Id3} {b : Nat} {xs : List Int} {H : AH} {R : D → AH → Prop} (hl : xs.length ≤ 30000000) (hbH : getH H b = none) (h : R (.tup []) ((b,.cells [.own (ints (xs ++ id3 x))]) :: H)) : ACall Tryz.prog 59 [.ptr b 0,.agg x.d] ((b,.cells [.own (ints xs)]) :: H) R := by
  refine b59 fun hf => ?_
  have hbig := big_eq
  have hd : x.d = [.int .i64 x.o,.int .i64 x.s,.int .i64 x.i] := rfl
  simp +contextual only [x59,hd,↓u59_s0,↓XP,XW0,XW1,reduceSub,reduceAdd,reduceMul,reduceEqDiff,reduceLeDiff,Nat.reduceBEq,reduceCtorEq,TYX]
  intro b1 hb
  have hb0 := Ne.symm hb.1
  have hn := freshH_none (H := H) hb.2
  simp +contextual only [x59,hd,hb.1,hb0,e_miss hb.1,h_miss hb.1,h_miss hb0,h_skip,not_false_eq_true,ints_app,ints_len,↓u59_s0,↓XP,XW0,XW1,reduceSub,reduceAdd,reduceMul,reduceEqDiff,reduceLeDiff,Nat.reduceBEq,reduceCtorEq,TYX]
  refine ⟨hbH,fun _ _ _ => ⟨ints_1,by omega,?_⟩⟩
  rw [← ints_app] at h
  exact h
theorem f_id2 {x : Id3} {b c : Nat} {o : AO} {xs : List Int} {H : AH} {R : D → AH → Prop} (hl : xs.length ≤ 30000000) (hcb : b ≠ c) (hbH : getH H b = none) (h : R (.tup []) ((c,o) :: (b,.cells [.own (ints (xs ++ id3 x))]) :: H)) : ACall Tryz.prog 59 [.ptr b 0,.agg x.d] ((c,o) :: (b,.cells [.own (ints xs)]) :: H) R := by
  refine b59 fun hf => ?_
  have hbig := big_eq
  have hd : x.d = [.int .i64 x.o,.int .i64 x.s,.int .i64 x.i] := rfl
  simp +contextual only [x59,hd,hcb,h_miss hcb,e_miss hcb,h_skip,not_false_eq_true,↓u59_s0,↓XP,XW0,XW1,reduceSub,reduceAdd,reduceMul,reduceEqDiff,reduceLeDiff,Nat.reduceBEq,reduceCtorEq,TYX]
  intro b1 hb
  have hb0 := Ne.symm hb.2.1
  have hn := freshH_none (H := H) hb.2.2
  simp +contextual only [x59,hd,hb.1,hb0,hcb,Ne.symm hb.1,e_miss hb.2.1,e_miss hcb,h_miss hcb,h_miss hb.2.1,h_miss (Ne.symm hb.1),h_miss hb0,h_skip hb.2.1,h_skip hcb,not_false_eq_true,ints_app,ints_len,↓u59_s0,↓XP,XW0,XW1,reduceSub,reduceAdd,reduceMul,reduceEqDiff,reduceLeDiff,Nat.reduceBEq,reduceCtorEq,TYX]
  refine ⟨hbH,fun _ _ _ => ⟨ints_1,by omega,?_⟩⟩
  rw [← ints_app] at h
  exact h
theorem f_each {fi : Nat} {ids : List Id3} {b : Nat} {xs : List Int} {H : AH} {R : D → AH → Prop} (hfi : fi = 59) (hi : ids.length ≤ 3000000) (hl : xs.length ≤ 10000000) (hbH : getH H b = none) (h : R (.tup []) ((b,.cells [.own (ints (xs ++ ids.flatMap id3))]) :: H)) : ACall Tryz.prog 60 [.slc (idsD ids),.fn fi [.tup [],.ptr b 0]] ((b,.cells [.own (ints xs)]) :: H) R := by
  refine b60 fun hf => ?_
  have hbig := big_eq
  simp +contextual only [x60,ids_len,↓U60,↓XP,XW0,XW1,reduceSub,reduceAdd,reduceMul,reduceEqDiff,reduceLeDiff,Nat.reduceBEq,reduceCtorEq,TYX]
  refine fun _ => XW.loopK Go.Proofs.YtoeckfegggongaaGreatDoor.hm (fun F H' => ∃ (i : Nat),i ≤ ids.length ∧ Fr 16 [(1,.fn fi [.tup [],.ptr b 0]),(6,.slc (idsD ids)),(7,.int .i64 ids.length),(8,.int .i64 i)] F ∧ ((b,AO.cells [.own (ints (xs ++ (ids.take i).flatMap id3))]) :: H) = H') (fun F H => match F.getD 8 .any with | .int _ n' => ids.length - n'.toNat | _ => 0) ⟨0,by omega,⟨rfl,rfl,rfl,rfl,rfl,trivial⟩,by simp⟩ ?_
  rintro _ _ ⟨i,hi',hF,rfl⟩ K hN hE' hR
  obtain ⟨z,rfl⟩ : ∃ z : Nat → D,_ = z 0 :: .fn fi [.tup [],.ptr b 0] :: zz z 2 4 (.slc (idsD ids) :: .int .i64 ids.length :: .int .i64 i :: zz z 9 7 []) := hF.lit
  try dsimp only [zz,reduceAdd] at *
  clear hF hR
  by_cases hlt : i < ids.length
  · have nx : ∀ F' H',back ((b,AO.cells [.own (ints (xs ++ (ids.take i).flatMap id3))]) :: H).length H' = ((b,AO.cells [.own (ints ((xs ++ (ids.take i).flatMap id3) ++ id3 (ids.getD i default)))]) :: H) → Fr 16 [(1,.fn fi [.tup [],.ptr b 0]),(6,.slc (idsD ids)),(7,.int .i64 ids.length),(8,.int .i64 ((i + 1 : Nat) : Int))] F' → K .normal F' H' := fun F' H' hH hF' => hN _ _ ⟨i + 1,hlt,hF',by rw [flat_takeI (d := default) hlt,← List.append_assoc]; exact hH.symm⟩ (by
      rw [List.getD_eq_getElem?_getD,hF'.2.2.2.2.1]
      simp only [List.getD_cons_succ,List.getD_cons_zero,Option.getD_some]
      omega)
    clear hN hE'
    have q1 := ids_get hlt
    have hl2 : (xs ++ (ids.take i).flatMap id3).length ≤ 20000000 := by rw [List.length_append,ids3_len,List.length_take]; omega
    generalize xs ++ (ids.take i).flatMap id3 = ac at nx hl2 ⊢
    generalize ids.getD i default = e at q1 nx
    have he : e.d = [.int .i64 e.o,.int .i64 e.s,.int .i64 e.i] := rfl
    simp +contextual only [x60,ids_len,hlt,Int.ofNat_lt,q1,he,wrap_succ (show i ≤ big by omega),↓U60,↓XP,XW0,XW1,reduceSub,reduceAdd,reduceMul,reduceEqDiff,reduceLeDiff,Nat.reduceBEq,reduceCtorEq,TYX]
    intro b5 hb
    rw [hfi]
    refine f_id2 (x := e) (by omega) hb.1 hbH ?_
    rw [← hfi]
    simp +contextual only [x60,ids_len,wrap_succ (show i ≤ big by omega),↓U60,↓XP,XW0,XW1,reduceSub,reduceAdd,reduceMul,reduceEqDiff,reduceLeDiff,Nat.reduceBEq,reduceCtorEq,TYX]
    exact nx _ _ (back_1 rfl) ⟨rfl,rfl,rfl,rfl,rfl,trivial⟩
  · have hik : i = ids.length := by omega
    subst hik
    clear hN
    simp +contextual only [x60,ids_len,↓U60,↓XP,XW0,XW1,reduceSub,reduceAdd,reduceMul,reduceEqDiff,reduceLeDiff,Nat.reduceBEq,reduceCtorEq,TYX]
    rw [List.take_length]
    refine hE' _ _ _ ?_
    simp +contextual only [x60,ids_len,↓U60,↓XP,XW0,XW1,reduceSub,reduceAdd,reduceMul,reduceEqDiff,reduceLeDiff,Nat.reduceBEq,reduceCtorEq,TYX]
    exact h
end Go.Proofs.YtoeckfegggongaaGreatDoor
end
section
namespace Go.Proofs.YtoeckfegggongaaGreatDoor
open Go Go.Aw
theorem m_needs {p : Pt} {acc : D} {b1 : Nat} {H : AH} {Q : AQ} {F : List D} (hp : p.needs.length ≤ 3000000) (hF : Fr 99 [(1,.ptr b1 0),(3,acc),(4,.own []),(20,.slc (refsD p.needs)),(21,.int .i64 p.needs.length),(22,.int .i64 0)] F) (hE : ∀ F',Fr 99 [(1,.ptr b1 0),(3,acc),(4,.own (ints (needNums p.needs)))] F' → Q (.exit 0) F' ((b1,AO.cells p.d) :: H)) : XW Tryz.prog x27_L2 F ((b1,AO.cells p.d) :: H) Q := by
  have hbig := big_eq
  refine XW.loopK Go.Proofs.YtoeckfegggongaaGreatDoor.hm (fun F H' => ∃ (i : Nat),i ≤ p.needs.length ∧ Fr 99 [(1,.ptr b1 0),(3,acc),(4,.own (ints (needNums (p.needs.take i)))),(20,.slc (refsD p.needs)),(21,.int .i64 p.needs.length),(22,.int .i64 i)] F ∧ ((b1,AO.cells p.d) :: H) = H') (fun F H => match F.getD 22 .any with | .int _ n' => p.needs.length - n'.toNat | _ => 0) ⟨0,by omega,hF,rfl⟩ ?_
  rintro _ _ ⟨i,hi,hF,rfl⟩ K hN hE' hR
  obtain ⟨z,rfl⟩ : ∃ z : Nat → D,_ = z 0 :: .ptr b1 0 :: z 2 :: acc :: .own (ints (needNums (p.needs.take i))) :: zz z 5 15 (.slc (refsD p.needs) :: .int .i64 p.needs.length :: .int .i64 i :: zz z 23 76 []) := hF.lit
  try dsimp only [zz,reduceAdd] at *
  clear hF hR
  by_cases hlt : i < p.needs.length
  · have nx : ∀ F' H',back ((b1,AO.cells p.d) :: H).length H' = ((b1,AO.cells p.d) :: H) → Fr 99 [(1,.ptr b1 0),(3,acc),(4,.own (ints (needNums (p.needs.take i) ++ [(p.needs.getD i default).o,(p.needs.getD i default).s]))),(20,.slc (refsD p.needs)),(21,.int .i64 p.needs.length),(22,.int .i64 ((i + 1 : Nat) : Int))] F' → K .normal F' H' := fun F' H' hH hF' => hN _ _ ⟨i + 1,hlt,by rw [show needNums (p.needs.take (i + 1)) = needNums (p.needs.take i) ++ [(p.needs.getD i default).o,(p.needs.getD i default).s] from flat_takeI (d := default) hlt]; exact hF',hH.symm⟩ (by
      rw [List.getD_eq_getElem?_getD,hF'.2.2.2.2.2.2.1]
      simp only [List.getD_cons_succ,List.getD_cons_zero,Option.getD_some]
      omega)
    clear hN hE hE'
    have q1 := refs_get hlt
    have hl : (needNums (p.needs.take i)).length ≤ 6000000 := by rw [needs_len,List.length_take]; omega
    generalize needNums (p.needs.take i) = ac at nx hl ⊢
    generalize p.needs.getD i default = e at q1 nx
    have he : e.d = [.int .i64 e.o,.int .i64 e.s] := rfl
    simp +contextual only [x27,refs_len,ints_len,hlt,Int.ofNat_lt,q1,he,wrap_succ (show i ≤ big by omega),↓U27,↓XP,XW0,XW1,reduceSub,reduceAdd,reduceMul,reduceEqDiff,reduceLeDiff,Nat.reduceBEq,reduceCtorEq,TYX]
    refine fun b6 _ _ _ => ⟨ints_1,by omega,?_⟩
    rw [← ints_app] at nx
    exact nx _ _ (back_1 rfl) ⟨rfl,rfl,rfl,rfl,rfl,rfl,rfl,trivial⟩
  · have hik : i = p.needs.length := by omega
    subst hik
    clear hN
    simp +contextual only [x27,refs_len,ints_len,↓U27,↓XP,XW0,XW1,reduceSub,reduceAdd,reduceMul,reduceEqDiff,reduceLeDiff,Nat.reduceBEq,reduceCtorEq,TYX]
    rw [List.take_length]
    exact hE' _ _ _ (hE _ ⟨rfl,rfl,rfl,rfl,trivial⟩)
theorem m_op {o : OpP} {ac : List UInt8} {p1 c45 c46 : D} {b8 : Nat} {q : Int} {H : AH} {Q : AQ} {F : List D} (o1 : o.ids.length ≤ 3000000) (o2 : o.name.length ≤ 3000000) (o3 : o.text.length ≤ 3000000) (hln : ac.length ≤ 1000000000000) (hF : Fr 99 [(1,p1),(3,.own (ac.map byteD)),(8,.ptr b8 0),(45,c45),(46,c46),(47,.int .i64 q)] F)
    (hE : (encOp o).length ≤ 100000000 → ∀ F' H',(∃ pre,H' = pre ++ ((b8,AO.cells o.d) :: H)) → Fr 99 [(1,p1),(3,.own ((ac ++ encOp o).map byteD)),(45,c45),(46,c46),(47,.int .i64 q)] F' → Q .normal F' H') : xcode Tryz.prog x27_s9 F ((b8,AO.cells o.d) :: H) Q := by
  have hbig := big_eq
  obtain ⟨z,rfl⟩ : ∃ z : Nat → D,_ = z 0 :: p1 :: z 2 :: .own (ac.map byteD) :: zz z 4 4 (.ptr b8 0 :: zz z 9 36 (c45 :: c46 :: .int .i64 q :: zz z 48 51 [])) := hF.lit
  try dsimp only [zz,reduceAdd] at *
  have hod : o.d = [.int .i64 o.k,.int .i64 o.on.o,.int .i64 o.on.s,.int .i64 o.on.i,.int .i64 o.to.o,.int .i64 o.to.s,.int .i64 o.to.i,.slc (idsD o.ids),.int .i64 o.n,.str o.name,.str o.text,.int .i64 o.a,.int .i64 o.b] := rfl
  simp +contextual only [x27,ids_len,ints_len,bytesD_len,hod,↓U27,↓XP,XW0,XW1,reduceSub,reduceAdd,reduceMul,reduceEqDiff,reduceLeDiff,Nat.reduceBEq,reduceCtorEq,TYX]
  refine fun _ => ⟨by decide,fun br cap hr b9 hb9 => ?_⟩
  rw [c_gh]
  refine Gz.take (j := 0) rfl (fun _ => h_hit) ?_
  have e1 : dropR ((br,.room cap [[D.int .i64 o.k]]) :: (b8,AO.cells o.d) :: H) br [[D.int .i64 o.k]] = ((b8,AO.cells o.d) :: H) := by simp [dropR,eraseH]
  rw [hod] at e1
  simp +contextual only [x27,ids_len,ints_len,bytesD_len,e1,hod,↓U27,↓XP,XW0,XW1,reduceSub,reduceAdd,reduceMul,reduceEqDiff,reduceLeDiff,Nat.reduceBEq,reduceCtorEq,TYX]
  clear e1 hF
  obtain ⟨_,h89,h9⟩ := hb9
  obtain ⟨_,h8r⟩ := hr
  have hn9 : getH ((b8,AO.cells o.d) :: H) b9 = none := freshH_none ⟨Ne.symm h89,h9⟩
  rw [hod] at hn9
  simp +contextual only [x27,ids_len,ints_len,bytesD_len,hod,h_miss h89,↓U27,↓XP,XW0,XW1,reduceSub,reduceAdd,reduceMul,reduceEqDiff,reduceLeDiff,Nat.reduceBEq,reduceCtorEq,TYX]
  refine f_id (x := o.on) (xs := [o.k]) (by simp) hn9 ?_
  simp +contextual only [x27,ids_len,ints_len,bytesD_len,hod,h_miss h89,↓U27,↓XP,XW0,XW1,reduceSub,reduceAdd,reduceMul,reduceEqDiff,reduceLeDiff,Nat.reduceBEq,reduceCtorEq,TYX]
  refine f_id (x := o.to) (xs := [o.k] ++ id3 o.on) (by simp [id3]) hn9 ?_
  simp +contextual only [x27,ids_len,ints_len,bytesD_len,hod,h_miss h89,↓U27,↓XP,XW0,XW1,reduceSub,reduceAdd,reduceMul,reduceEqDiff,reduceLeDiff,Nat.reduceBEq,reduceCtorEq,TYX]
  refine fun _ _ _ => ⟨ints_1,by simp [id3],?_⟩
  rw [show ints (o.k :: (id3 o.on ++ id3 o.to)) ++ [[D.int .i64 o.n],[D.int .i64 o.a],[D.int .i64 o.b]] = ints (opNums o) from rfl]
  have l10 : (opNums o).length = 10 := rfl
  have l3 := ids3_len (l := o.ids)
  refine f_wInts (by omega) fun k1 => ?_
  simp +contextual only [x27,ids_len,ints_len,bytesD_len,hod,h_miss h89,↓U27,↓XP,XW0,XW1,reduceSub,reduceAdd,reduceMul,reduceEqDiff,reduceLeDiff,Nat.reduceBEq,reduceCtorEq,TYX]
  refine fun _ => ⟨bytes_1,bytes_1,by omega,fun b10 hb10 => ?_⟩
  obtain ⟨h910,h810,h10⟩ := hb10
  have hn10 : getH ((b9,AO.cells [.slc (ints (o.k :: (id3 o.on ++ id3 o.to)))]) :: (b8,AO.cells o.d) :: H) b10 = none := freshH_none ⟨Ne.symm h910,Ne.symm h810,h10⟩
  rw [hod] at hn10
  refine fun _ => f_each (ids := o.ids) (xs := []) rfl o1 (by simp) hn10 ?_
  rw [List.nil_append]
  simp +contextual only [x27,ids_len,ints_len,bytesD_len,hod,h_miss h89,h_miss h810,↓U27,↓XP,XW0,XW1,reduceSub,reduceAdd,reduceMul,reduceEqDiff,reduceLeDiff,Nat.reduceBEq,reduceCtorEq,TYX]
  refine fun _ => f_wInts (l := o.ids.flatMap id3) (by omega) fun k2 => ?_
  simp +contextual only [x27,ids_len,ints_len,bytesD_len,hod,h_miss h89,h_miss h810,h_miss h910,← List.map_append,List.length_append,↓U27,↓XP,XW0,XW1,reduceSub,reduceAdd,reduceMul,reduceEqDiff,reduceLeDiff,Nat.reduceBEq,reduceCtorEq,TYX]
  refine fun _ => ⟨bytes_1,bytes_1,by omega,?_⟩
  have hb3 : ∀ x ∈ [o.name,o.text],x.length ≤ 3000000 := by
    intro x hx
    simp only [List.mem_cons,List.not_mem_nil,or_false] at hx
    rcases hx with rfl | rfl
    · exact o2
    · exact o3
  have k3 := strs_two hb3
  have k4 := encLen (n := [o.name,o.text].length) (by simp)
  refine fun _ _ => f_wStrings (l := [o.name,o.text]) (by simp) hb3 ?_
  simp +contextual only [x27,ids_len,ints_len,bytesD_len,hod,h_miss h89,← List.map_append,List.length_append,↓U27,↓XP,XW0,XW1,reduceSub,reduceAdd,reduceMul,reduceEqDiff,reduceLeDiff,Nat.reduceBEq,reduceCtorEq,TYX]
  have e2 : ([o.name,o.text] : List (List UInt8)).length = 2 := rfl
  rw [e2] at k3 k4
  refine fun _ => ⟨bytes_1,bytes_1,by omega,hE ?_ _ _ ⟨[(b10,_),(b9,_)],rfl⟩ ?_⟩
  · simp only [encOp,List.length_append]
    omega
  · rw [show ac ++ encOp o = ac ++ encInts (opNums o) ++ encInts (o.ids.flatMap id3) ++ encStrs [o.name,o.text] by simp only [encOp,List.append_assoc]]
    exact ⟨rfl,rfl,rfl,rfl,rfl,rfl,trivial⟩
end Go.Proofs.YtoeckfegggongaaGreatDoor
end
section
namespace Go.Proofs.YtoeckfegggongaaGreatDoor
open Go Go.Aw
theorem back_app {A H : AH} : back H.length (A ++ H) = H := by simp [back]
theorem m_ops {p : Pt} {pre : List UInt8} {b1 : Nat} {H : AH} {Q : AQ} {F : List D} (hp : Fit p) (hpre : pre.length ≤ 100000000) (hF : Fr 99 [(1,.ptr b1 0),(3,.own (pre.map byteD)),(45,.slc (opsD p.ops)),(46,.int .i64 p.ops.length),(47,.int .i64 0)] F) (hE : (pre ++ p.ops.flatMap encOp).length ≤ 1000000000000 → ∀ F',Fr 99 [(1,.ptr b1 0),(3,.own ((pre ++ p.ops.flatMap encOp).map byteD))] F' → Q (.exit 2) F' ((b1,AO.cells p.d) :: H)) : XW Tryz.prog x27_L11 F ((b1,AO.cells p.d) :: H) Q := by
  have hbig := big_eq
  have hpo := hp.ops
  refine XW.loopK Go.Proofs.YtoeckfegggongaaGreatDoor.hm (fun F H' => ∃ (i : Nat),i ≤ p.ops.length ∧ (pre ++ (p.ops.take i).flatMap encOp).length ≤ 100000000 + 100000000 * i ∧ Fr 99 [(1,.ptr b1 0),(3,.own ((pre ++ (p.ops.take i).flatMap encOp).map byteD)),(45,.slc (opsD p.ops)),(46,.int .i64 p.ops.length),(47,.int .i64 (i : Int))] F ∧ ((b1,AO.cells p.d) :: H) = H') (fun F H => match F.getD 47 .any with | .int _ n' => p.ops.length - n'.toNat | _ => 0) ⟨0,by omega,by simpa using hpre,by simpa using hF,rfl⟩ ?_
  clear hF
  rintro _ _ ⟨i,hi,hln,hF,rfl⟩ K hN hE' hR
  obtain ⟨z,rfl⟩ : ∃ z : Nat → D,_ = z 0 :: .ptr b1 0 :: z 2 :: .own ((pre ++ (p.ops.take i).flatMap encOp).map byteD) :: zz z 4 41 (.slc (opsD p.ops) :: .int .i64 p.ops.length :: .int .i64 (i : Int) :: zz z 48 51 []) := hF.lit
  try dsimp only [zz,reduceAdd] at *
  clear hF hR
  by_cases hlt : i < p.ops.length
  · have nx : (encOp (p.ops.getD i default)).length ≤ 100000000 → ∀ F' H',back ((b1,AO.cells p.d) :: H).length H' = ((b1,AO.cells p.d) :: H) → Fr 99 [(1,.ptr b1 0),(3,.own ((pre ++ (p.ops.take i).flatMap encOp ++ encOp (p.ops.getD i default)).map byteD)),(45,.slc (opsD p.ops)),(46,.int .i64 p.ops.length),(47,.int .i64 ((i + 1 : Nat) : Int))] F' → K .normal F' H' := fun hl F' H' hH hF' => hN _ _ ⟨i + 1,hlt,by
        rw [flat_take (d := default) hlt,← List.append_assoc,List.length_append]
        omega,by rw [flat_take (d := default) hlt,← List.append_assoc]; exact hF',hH.symm⟩ (by
      rw [List.getD_eq_getElem?_getD,hF'.2.2.2.2.2.1]
      simp only [List.getD_cons_succ,List.getD_cons_zero,Option.getD_some]
      omega)
    clear hN hE hE'
    have q1 := ops_get hlt
    have hm : p.ops.getD i default ∈ p.ops := by rw [getD_lt hlt]; exact List.getElem_mem hlt
    have o1 := hp.ids _ hm
    have o2 := hp.name _ hm
    have o3 := hp.text _ hm
    generalize pre ++ (p.ops.take i).flatMap encOp = ac at nx hln ⊢
    generalize p.ops.getD i default = o at q1 nx o1 o2 o3
    have hod : o.d = [.int .i64 o.k,.int .i64 o.on.o,.int .i64 o.on.s,.int .i64 o.on.i,.int .i64 o.to.o,.int .i64 o.to.s,.int .i64 o.to.i,.slc (idsD o.ids),.int .i64 o.n,.str o.name,.str o.text,.int .i64 o.a,.int .i64 o.b] := rfl
    simp +contextual only [x27_L11,u27_L11,u27_s10,ops_len,hlt,Int.ofNat_lt,q1,hod,↓XP,XW0,XW1,reduceSub,reduceAdd,reduceMul,reduceEqDiff,reduceLeDiff,Nat.reduceBEq,reduceCtorEq,TYX]
    refine fun b8 hb => m_op (o := o) (ac := ac) (q := i) (b8 := b8) (p1 := .ptr b1 0) o1 o2 o3 (by omega) ⟨rfl,rfl,rfl,rfl,rfl,rfl,rfl,trivial⟩ fun hl F' H' hpre' hF' => ?_
    obtain ⟨pr,rfl⟩ := hpre'
    obtain ⟨z,rfl⟩ : ∃ z : Nat → D,_ = z 0 :: .ptr b1 0 :: z 2 :: .own ((ac ++ encOp o).map byteD) :: zz z 4 41 (.slc (opsD p.ops) :: .int .i64 p.ops.length :: .int .i64 (i : Int) :: zz z 48 51 []) := hF'.lit
    try dsimp only [zz,reduceAdd] at *
    clear hF'
    simp +contextual only [x27,ops_len,ints_len,bytesD_len,wrap_succ (show i ≤ big by omega),↓U27,↓XP,XW0,XW1,reduceSub,reduceAdd,reduceMul,reduceEqDiff,reduceLeDiff,Nat.reduceBEq,reduceCtorEq,TYX]
    refine nx hl _ _ ?_ ⟨rfl,rfl,rfl,rfl,rfl,rfl,trivial⟩
    rw [show pr ++ (b8,AO.cells o.d) :: (b1,AO.cells p.d) :: H = (pr ++ [(b8,AO.cells o.d)]) ++ (b1,AO.cells p.d) :: H by simp]
    exact back_app
  · have hik : i = p.ops.length := by omega
    subst hik
    clear hN
    simp +contextual only [x27,ops_len,ints_len,bytesD_len,↓U27,↓XP,XW0,XW1,reduceSub,reduceAdd,reduceMul,reduceEqDiff,reduceLeDiff,Nat.reduceBEq,reduceCtorEq,TYX]
    rw [List.take_length] at hln ⊢
    exact hE' _ _ _ (hE (by omega) _ ⟨rfl,rfl,rfl,trivial⟩)
theorem f_enc {p : Pt} {H : AH} {R : D → AH → Prop} (hp : Fit p) (h : (encPt p).length ≤ 2000000000000 → R (.own ((encPt p).map byteD)) H) : ACall Tryz.prog 27 [.agg p.d] H R := by
  refine b27 fun hf => ?_
  have hbig := big_eq
  have hpo := hp.ops
  have hpn := hp.needs
  have hps := hp.sl
  have hd := @dE p
  simp +contextual only [x27,refs_len,ops_len,ints_len,bytesD_len,← List.map_append,List.length_append,hd,↓U27,↓XP,XW0,XW1,reduceSub,reduceAdd,reduceMul,reduceEqDiff,reduceLeDiff,Nat.reduceBEq,reduceCtorEq,TYX]
  refine fun b1 h1 _ _ _ => f_wInts (l := [p.o,p.s,p.day]) (by simp) fun k1 => ?_
  have e3 : ([p.o,p.s,p.day] : List Int).length = 3 := rfl
  rw [e3] at k1
  simp +contextual only [x27,refs_len,ops_len,ints_len,bytesD_len,← List.map_append,List.length_append,hd,↓U27,↓XP,XW0,XW1,reduceSub,reduceAdd,reduceMul,reduceEqDiff,reduceLeDiff,Nat.reduceBEq,reduceCtorEq,TYX]
  simp only [← hd]
  obtain ⟨pre,hpre⟩ : ∃ pre,encInts [p.o,p.s,p.day] = pre := ⟨_,rfl⟩
  have henc : encPt p = pre ++ encInts (needNums p.needs) ++ encInt p.ops.length ++ p.ops.flatMap encOp ++ encBytes p.sl := by rw [← hpre]; rfl
  rw [henc] at h
  rw [hpre] at k1 ⊢
  refine fun _ _ => m_needs (p := p) (acc := .own (pre.map byteD)) hpn ⟨rfl,rfl,rfl,rfl,rfl,rfl,rfl,trivial⟩ (fun F' hF' => ?_)
  obtain ⟨z,rfl⟩ : ∃ z : Nat → D,_ = z 0 :: .ptr b1 0 :: z 2 :: .own (pre.map byteD) :: .own (ints (needNums p.needs)) :: zz z 5 94 [] := hF'.lit
  try dsimp only [zz,reduceAdd] at *
  clear hF'
  have l2 := needs_len (l := p.needs)
  simp +contextual only [x27,refs_len,ops_len,ints_len,bytesD_len,← List.map_append,List.length_append,hd,↓U27,↓XP,XW0,XW1,reduceSub,reduceAdd,reduceMul,reduceEqDiff,reduceLeDiff,Nat.reduceBEq,reduceCtorEq,TYX]
  refine f_wInts (l := needNums p.needs) (by omega) fun k2 => ?_
  simp +contextual only [x27,refs_len,ops_len,ints_len,bytesD_len,← List.map_append,List.length_append,hd,↓U27,↓XP,XW0,XW1,reduceSub,reduceAdd,reduceMul,reduceEqDiff,reduceLeDiff,Nat.reduceBEq,reduceCtorEq,TYX]
  have k3 := encLen (n := p.ops.length) (by omega)
  refine fun _ => ⟨bytes_1,bytes_1,by omega,?_⟩
  refine fun _ => f_wInt fun _ => ?_
  simp +contextual only [x27,refs_len,ops_len,ints_len,bytesD_len,← List.map_append,List.length_append,hd,↓U27,↓XP,XW0,XW1,reduceSub,reduceAdd,reduceMul,reduceEqDiff,reduceLeDiff,Nat.reduceBEq,reduceCtorEq,TYX]
  simp only [← hd]
  refine fun _ => ⟨bytes_1,bytes_1,by omega,?_⟩
  obtain ⟨pre2,hp2⟩ : ∃ pre2,pre ++ encInts (needNums p.needs) ++ encInt p.ops.length = pre2 := ⟨_,rfl⟩
  have hl2 : pre2.length ≤ 100000000 := by rw [← hp2]; simp only [List.length_append]; omega
  rw [hp2] at h ⊢
  refine fun _ => m_ops (p := p) (pre := pre2) hp hl2 ⟨rfl,rfl,rfl,rfl,rfl,rfl,trivial⟩ (fun k5 F' hF' => ?_)
  obtain ⟨z,rfl⟩ : ∃ z : Nat → D,_ = z 0 :: .ptr b1 0 :: z 2 :: .own ((pre2 ++ p.ops.flatMap encOp).map byteD) :: zz z 4 95 [] := hF'.lit
  try dsimp only [zz,reduceAdd] at *
  clear hF'
  simp only [List.length_append] at k5
  simp +contextual only [x27,refs_len,ops_len,ints_len,bytesD_len,← List.map_append,List.length_append,hd,↓U27,↓XP,XW0,XW1,reduceSub,reduceAdd,reduceMul,reduceEqDiff,reduceLeDiff,Nat.reduceBEq,reduceCtorEq,TYX]
  have k6 := encLen (n := p.sl.length) (by omega)
  refine fun _ => f_wBytes (s := p.sl) (by omega) ?_
  have k7 : (encBytes p.sl).length ≤ 9 + 3000000 := by simp only [encBytes,List.length_append]; omega
  simp +contextual only [x27,refs_len,ops_len,ints_len,bytesD_len,← List.map_append,List.length_append,hd,↓U27,↓XP,XW0,XW1,reduceSub,reduceAdd,reduceMul,reduceEqDiff,reduceLeDiff,Nat.reduceBEq,reduceCtorEq,TYX]
  exact fun _ => ⟨bytes_1,bytes_1,by omega,h (by simp only [List.length_append]; omega)⟩
theorem isByteD {l : List UInt8} : ∀ x ∈ l.map byteD,isByte x := by
  intro x hx
  obtain ⟨t,_,rfl⟩ := List.mem_map.1 hx
  have := t.toNat_lt
  exact ⟨by omega,by omega⟩
theorem unbyteD {l : List UInt8} : (l.map byteD).map unbyte = l := by
  rw [List.map_map]
  refine (List.map_congr_left fun x _ => ?_).trans (List.map_id l)
  simp [byteD,unbyte]
theorem f_msg {p : Pt} {H : AH} {R : D → AH → Prop} (hp : Fit p) (h : R (.str (encPt { p with sl := [] })) H) : ACall Tryz.prog 23 [.agg p.d] H R := by
  refine b23 fun hf => ?_
  have hbig := big_eq
  have hd := @dE p
  simp +contextual only [x23,bytesD_len,hd,↓u23_s0,↓XP,XW0,XW1,reduceSub,reduceAdd,reduceMul,reduceEqDiff,reduceLeDiff,Nat.reduceBEq,reduceCtorEq,TYX]
  refine fun b1 h1 => f_enc (p := { p with sl := [] }) ⟨hp.ops,hp.needs,hp.ids,hp.name,hp.text,by simp⟩ fun k => ?_
  simp +contextual only [x23,bytesD_len,hd,↓u23_s0,↓XP,XW0,XW1,reduceSub,reduceAdd,reduceMul,reduceEqDiff,reduceLeDiff,Nat.reduceBEq,reduceCtorEq,TYX]
  refine fun _ => ⟨isByteD,?_⟩
  rw [unbyteD]
  exact h
end Go.Proofs.YtoeckfegggongaaGreatDoor
end
section
namespace Go.Proofs.YtoeckfegggongaaGreatDoor
open Go Go.Aw
theorem f_index {l : List Id3} {x : Id3} {H : AH} {R : D → AH → Prop} (h : ∀ k : Int,(0 ≤ k ↔ x ∈ l) → R (.int .i64 k) H) : ACall Tryz.prog 76 [.slc (idsD l),.agg x.d] H R := by
  refine b76 fun hf => ?_
  have hbig := big_eq
  have hlen : (idsD l).length ≤ big := hf.1
  rw [ids_len] at hlen
  have hxd : x.d = [.int .i64 x.o,.int .i64 x.s,.int .i64 x.i] := rfl
  simp +contextual only [x76,ids_len,hxd,↓U76,↓XP,XW0,XW1,reduceSub,reduceAdd,reduceMul,reduceEqDiff,reduceLeDiff,Nat.reduceBEq,reduceCtorEq,TYX]
  intro b1 h1
  simp only [← hxd]
  refine fun _ => XW.loopK Go.Proofs.YtoeckfegggongaaGreatDoor.hm (fun F H' => ∃ (i : Nat),i ≤ l.length ∧ x ∉ l.take i ∧ Fr 19 [(0,.slc (idsD l)),(3,.ptr b1 0),(7,.int .i64 l.length),(8,.int .i64 i)] F ∧ ((b1,AO.cells x.d) :: H) = H') (fun F H => match F.getD 8 .any with | .int _ n' => l.length - n'.toNat | _ => 0) ⟨0,by omega,by simp,⟨rfl,rfl,rfl,rfl,rfl,trivial⟩,rfl⟩ ?_
  rintro _ _ ⟨i,hi,hn,hF,rfl⟩ K hN hE hR
  obtain ⟨z,rfl⟩ : ∃ z : Nat → D,_ = .slc (idsD l) :: zz z 1 2 (.ptr b1 0 :: zz z 4 3 (.int .i64 l.length :: .int .i64 i :: zz z 9 10 [])) := hF.lit
  try dsimp only [zz,reduceAdd] at *
  clear hF
  by_cases hlt : i < l.length
  · have nx : x ∉ l.take (i + 1) → ∀ F',Fr 19 [(0,.slc (idsD l)),(3,.ptr b1 0),(7,.int .i64 l.length),(8,.int .i64 ((i + 1 : Nat) : Int))] F' → K .normal F' ((b1,AO.cells x.d) :: H) := fun hn F' hF' => hN _ _ ⟨i + 1,hlt,hn,hF',(back_0 rfl).symm⟩ (by
      rw [List.getD_eq_getElem?_getD,hF'.2.2.2.2.1]
      simp only [List.getD_cons_succ,List.getD_cons_zero,Option.getD_some]
      omega)
    clear hN hE
    have q1 := ids_get hlt
    have hm : l.getD i default ∈ l := by rw [getD_lt hlt]; exact List.getElem_mem hlt
    have hnt : x ≠ l.getD i default → x ∉ l.take (i + 1) := fun hne hm => by
      rw [List.take_add_one] at hm
      rcases List.mem_append.1 hm with hm | hm
      · exact hn hm
      · simp [hlt] at hm
        exact hne (by simp [hlt,hm])
    generalize l.getD i default = y at q1 hm hnt
    have hyd : y.d = [.int .i64 y.o,.int .i64 y.s,.int .i64 y.i] := rfl
    have hdy : (decide (x.o = y.o) && (decide (x.s = y.s) && decide (x.i = y.i))) = decide (x = y) := by
      cases x; cases y; simp
    have hlt' : ((i : Int) < (l.length : Int)) = True := eq_true (by omega)
    by_cases hxy : x = y
    · simp +contextual only [x76,ids_len,q1,hxd,hyd,hdy,eq_true hxy,hlt',↓U76,↓XP,XW0,XW1,reduceSub,reduceAdd,reduceMul,reduceEqDiff,reduceLeDiff,Nat.reduceBEq,reduceCtorEq,TYX]
      refine hR _ _ ?_
      simp +contextual only [x76,ids_len,↓U76,↓XP,XW0,XW1,reduceSub,reduceAdd,reduceMul,reduceEqDiff,reduceLeDiff,Nat.reduceBEq,reduceCtorEq,TYX]
      exact h _ ⟨fun _ => hxy ▸ hm,fun _ => by omega⟩
    · simp +contextual only [x76,ids_len,q1,hxd,hyd,hdy,eq_false hxy,hlt',wrap_succ (show i ≤ big by omega),↓U76,↓XP,XW0,XW1,reduceSub,reduceAdd,reduceMul,reduceEqDiff,reduceLeDiff,Nat.reduceBEq,reduceCtorEq,TYX]
      simp only [← hxd]
      exact nx (hnt hxy) _ ⟨rfl,rfl,rfl,rfl,rfl,trivial⟩
  · have hik : i = l.length := by omega
    subst hik
    clear hN
    rw [List.take_length] at hn
    simp +contextual only [x76,ids_len,↓U76,↓XP,XW0,XW1,reduceSub,reduceAdd,reduceMul,reduceEqDiff,reduceLeDiff,Nat.reduceBEq,reduceCtorEq,TYX]
    refine hE _ _ _ ?_
    simp +contextual only [x76,ids_len,↓U76,↓XP,XW0,XW1,reduceSub,reduceAdd,reduceMul,reduceEqDiff,reduceLeDiff,Nat.reduceBEq,reduceCtorEq,TYX]
    exact h _ ⟨fun h => by omega,fun h => (hn h).elim⟩
theorem f_contains {l : List Id3} {x : Id3} {H : AH} {R : D → AH → Prop} (h : R (.bool (decide (x ∈ l))) H) : ACall Tryz.prog 49 [.slc (idsD l),.agg x.d] H R := by
  refine b49 fun hf => ?_
  have hxd : x.d = [.int .i64 x.o,.int .i64 x.s,.int .i64 x.i] := rfl
  have hk : ∀ b,decide (x ∈ l) = b → R (.bool b) H := fun b hb => hb ▸ h
  simp +contextual only [x49,hxd,↓u49_s0,↓XP,XW0,XW1,reduceSub,reduceAdd,reduceMul,reduceEqDiff,reduceLeDiff,Nat.reduceBEq,reduceCtorEq,TYX]
  simp only [← hxd]
  refine fun b1 h1 => f_index fun k hkk => ?_
  simp +contextual only [x49,hxd,↓u49_s0,↓XP,XW0,XW1,reduceSub,reduceAdd,reduceMul,reduceEqDiff,reduceLeDiff,Nat.reduceBEq,reduceCtorEq,TYX]
  exact fun _ => hk _ (decide_eq_decide.2 hkk.symm)
structure Shp where
  on : Bool
  to : Bool
  name : Bool
  text : Bool
  span : Bool
  low : Int
  high : Int
  a : Int
  b : Int
def Shp.d (s : Shp) : List D := [.bool s.on,.bool s.to,.bool s.name,.bool s.text,.bool s.span,.int .i64 s.low,.int .i64 s.high,.int .i64 s.a,.int .i64 s.b]
def shpZ : Shp := ⟨false,false,false,false,false,0,0,0,0⟩
def shp (k n : Int) : Shp :=
  if k = 1 then { shpZ with name := true,text := true } else if k = 3 then { shpZ with name := true,text := true,span := true }
  else if k = 4 then { shpZ with on := true,to := true,text := true,high := 1048576 } else if k = 2 ∨ k = 8 ∨ k = 10 then { shpZ with on := true,high := 1048576 }
  else if k = 5 ∨ k = 7 then { shpZ with on := true,text := true } else if k = 6 then { shpZ with on := true,name := true } else if k = 9 then { shpZ with on := true,high := 1 }
  else if k = 11 then { shpZ with on := true,span := true } else if k = 12 then { shpZ with on := true,name := true,text := true } else if k = 13 then { shpZ with on := true,to := true,high := 1023 }
  else if k = 14 then { shpZ with on := true,name := true,high := 1 } else if k = 15 then { shpZ with on := true,to := true,high := 1 }
  else if k = 16 then { shpZ with on := true,low := -1,high := n - 1,a := 2,b := 4 } else if k = 17 then { shpZ with on := true,to := true }
  else if k = 18 then { shpZ with on := true,to := true,a := 1,b := 1 } else shpZ
theorem f_shapeOf {o : OpP} {H : AH} {R : D → AH → Prop} (h : R (.tup [.agg (shp o.k o.ids.length).d,.bool (decide (1 ≤ o.k ∧ o.k ≤ 18))]) H) : ACall Tryz.prog 46 [.agg o.d] H R := by
  refine b46 fun hf => ?_
  have hbig := big_eq
  have hod : o.d = [.int .i64 o.k,.int .i64 o.on.o,.int .i64 o.on.s,.int .i64 o.on.i,.int .i64 o.to.o,.int .i64 o.to.s,.int .i64 o.to.i,.slc (idsD o.ids),.int .i64 o.n,.str o.name,.str o.text,.int .i64 o.a,.int .i64 o.b] := rfl
  have hk : ∀ on to name text span low high a b c,shp o.k o.ids.length = ⟨on,to,name,text,span,low,high,a,b⟩ → decide (1 ≤ o.k ∧ o.k ≤ 18) = c → R (.tup [.agg [.bool on,.bool to,.bool name,.bool text,.bool span,.int .i64 low,.int .i64 high,.int .i64 a,.int .i64 b],.bool c]) H := fun on to name text span low high a b c hs hc => by
    rw [hs,hc] at h; exact h
  have w1 : o.ids.length ≤ big → IntKind.i64.wrap ((o.ids.length : Int) - 1) = (o.ids.length : Int) - 1 := fun h => wrap_id (by omega) (by omega)
  clear h
  simp +contextual only [x46,ids_len,hod,↓U46,↓XP,XW0,XW1,reduceSub,reduceAdd,reduceMul,reduceEqDiff,reduceLeDiff,Nat.reduceBEq,reduceCtorEq,TYX]
  clear hf hbig hod
  intro b1 h1 b2 h2 b3 h3
  have hno : ∀ x y,getH ((b2,x) :: (b1,y) :: H) b3 = none := fun x y => freshH_none (H := (b2,x) :: (b1,y) :: H) ⟨Ne.symm h3.1,Ne.symm h3.2.1,h3.2.2⟩
  repeat' (first | apply And.intro | intro _)
  all_goals first
    | exact hno _ _
    | omega
    | exact hk _ _ _ _ _ _ _ _ _ _ (by simp [shp,shpZ, *]) (decide_eq_true (by omega))
    | exact hk _ _ _ _ _ _ _ _ _ _ (by simp [shp,shpZ, *]) (decide_eq_false (by omega))
    | skip
end Go.Proofs.YtoeckfegggongaaGreatDoor
end
