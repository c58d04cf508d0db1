/- A part of the proof of what the last text says: Gr1, Gr2, Gr3, Gr4, Gr5, Gc1. Conditions: those in each theorem. -/
import Derived.Test.YtoeckfegggongaaGreatDoorW26
import Derived.RangeFuncNested
import Derived.RangeFuncBound
import Derived.RangeFuncCalls
import Derived.RangeFuncLeaves
import Derived.Shelf.Abstract
import Derived.Shelf.RegionOpen
import Derived.WalkKit
import Derived.WalkSpells
import Derived.OwnWalkIn
import Derived.TacticsInMore
import Derived.LoopNIn
import Derived.LoopIn
import Derived.Test.YtoeckfegggongaaGreatDoorRows
set_option linter.unusedVariables false
set_option linter.unusedSimpArgs false
set_option maxRecDepth 100000
set_option maxHeartbeats 16000000
open Nat (reduceSub reduceAdd reduceMul reduceEqDiff reduceLeDiff)
section
namespace Go.Proofs.YtoeckfegggongaaGreatDoor
open Go Go.Aw
theorem bytes_get {l : List UInt8} {i : Nat} (h : i < l.length) : (l.map byteD).getD i [] = [.int .u8 ((l.getD i 0).toNat : Int)] := by simp [h,byteD]
theorem xorB {f : Bool} {c : UInt8} : bits .xor .u8 (c.toNat : Int) (flI f) = ((flip8 f c).toNat : Int) := by
  rw [xor8 c.toNat_lt,UInt8.ofNat_toNat]
theorem flip_turned (c : UInt8) : ((flip8 (turned c) c).toNat : Int) - 128 = (tailN c : Int) := by
  have := c.toNat_lt
  unfold turned tailN
  by_cases h : c.toNat < 128
  · rw [decide_eq_true h,if_pos h,flip8,if_pos rfl,UInt8.toNat_sub_of_le _ _ (by rw [UInt8.le_iff_toNat_le]; simp; omega)]
    simp
    omega
  · rw [decide_eq_false h,if_neg h,flip8,if_neg (by simp)]
    omega
theorem shl_or {m x : Nat} (hm : 256 * m + x < 18446744073709551616) (hx : x < 256) : bits .or .u64 (IntKind.u64.wrap ((m : Int) * 2 ^ (min ((8 : Int).toNat) IntKind.u64.bits))) (x : Int) = ((256 * m + x : Nat) : Int) := by
  have e1 : (2 : Int) ^ (min ((8 : Int).toNat) IntKind.u64.bits) = 256 := rfl
  rw [e1,IntKind.wrap_u64,show ((m : Int) * 256) % 18446744073709551616 = ((m * 256 : Nat) : Int) by omega,u64_or_nat _ _ (by omega) (by omega)]
  have := Nat.two_pow_add_eq_or_of_lt (i := 8) (b := x) (by omega) m
  rw [show m * 256 = 2 ^ 8 * m by omega,← this]
theorem w_gl {f : Bool} {k6 : D} {rs : List UInt8} {H : AH} {Q : AQ} {F : List D} (hr : rs.length ≤ 8) (hF : Fr 71 [(5,.int .u8 (flI f)),(6,k6),(7,.int .u64 0),(46,.slc (rs.map byteD)),(47,.int .i64 rs.length),(48,.int .i64 0)] F) (hE : ∀ F',Fr 71 [(5,.int .u8 (flI f)),(6,k6),(7,.int .u64 (val (rs.map (flip8 f)) : Int))] F' → Q (.exit 1) F' H) : XW Tryz.prog x35_L8 F H Q := by
  have hbig := big_eq
  refine XW.loopK Go.Proofs.YtoeckfegggongaaGreatDoor.hm (fun F H' => ∃ (j : Nat),j ≤ rs.length ∧ Fr 71 [(5,.int .u8 (flI f)),(6,k6),(7,.int .u64 (val ((rs.take j).map (flip8 f)) : Int)),(46,.slc (rs.map byteD)),(47,.int .i64 rs.length),(48,.int .i64 j)] F ∧ H = H') (fun F H => match F.getD 48 .any with | .int _ n' => rs.length - n'.toNat | _ => 0) ⟨0,by omega,hF,rfl⟩ ?_
  rintro _ _ ⟨j,hj,hF,rfl⟩ K hN hE' hR
  obtain ⟨z,rfl⟩ : ∃ z : Nat → D,_ = zz z 0 5 (.int .u8 (flI f) :: k6 :: .int .u64 (val ((rs.take j).map (flip8 f)) : Int) :: zz z 8 38 (.slc (rs.map byteD) :: .int .i64 rs.length :: .int .i64 j :: zz z 49 22 [])) := hF.lit
  try dsimp only [zz,reduceAdd] at *
  clear hF hR
  by_cases hlt : j < rs.length
  · have nx : ∀ F',Fr 71 [(5,.int .u8 (flI f)),(6,k6),(7,.int .u64 ((256 * val ((rs.take j).map (flip8 f)) + (flip8 f (rs.getD j 0)).toNat : Nat) : Int)),(46,.slc (rs.map byteD)),(47,.int .i64 rs.length),(48,.int .i64 ((j + 1 : Nat) : Int))] F' → K .normal F' H := fun F' hF' => hN _ _ ⟨j + 1,hlt,by
        have : (rs.take (j + 1)).map (flip8 f) = (rs.take j).map (flip8 f) ++ [flip8 f (rs.getD j 0)] := by
          rw [List.take_add_one,List.map_append]
          simp [hlt]
        rw [this,val_snoc]
        exact hF',(back_0 rfl).symm⟩ (by
      rw [List.getD_eq_getElem?_getD,hF'.2.2.2.2.2.2.1]
      simp only [List.getD_cons_succ,List.getD_cons_zero,Option.getD_some]
      omega)
    clear hN hE hE'
    have q1 := bytes_get hlt
    have hv : val ((rs.take j).map (flip8 f)) < 256 ^ 7 := Nat.lt_of_lt_of_le (val_lt _) (Nat.pow_le_pow_right (by omega) (by simp; omega))
    generalize val ((rs.take j).map (flip8 f)) = v at nx hv ⊢
    generalize rs.getD j 0 = c at q1 nx
    have hc := (flip8 f c).toNat_lt
    have xb := xorB (f := f) (c := c)
    have w1 := shl_or (m := v) (x := (flip8 f c).toNat) (by omega) (by omega)
    have w2 : IntKind.u64.wrap (((flip8 f c).toNat : Int)) = ((flip8 f c).toNat : Int) := by rw [IntKind.wrap_u64]; omega
    simp +contextual only [x35,bytesD_len,hlt,Int.ofNat_lt,q1,xb,w1,w2,wrap_succ (show j ≤ big by omega),↓U35,↓XP,XW0,XW1,reduceSub,reduceAdd,reduceMul,reduceEqDiff,reduceLeDiff,Nat.reduceBEq,reduceCtorEq,TYX]
    exact fun _ => ⟨by decide,nx _ ⟨rfl,rfl,rfl,rfl,rfl,rfl,rfl,trivial⟩⟩
  · have hik : j = rs.length := by omega
    subst hik
    clear hN
    rw [List.take_length]
    simp +contextual only [x35,bytesD_len,↓U35,↓XP,XW0,XW1,reduceSub,reduceAdd,reduceMul,reduceEqDiff,reduceLeDiff,Nat.reduceBEq,reduceCtorEq,TYX]
    exact hE' _ _ _ (hE _ ⟨rfl,rfl,rfl,rfl,trivial⟩)
theorem w_gi {c : UInt8} {r : List UInt8} {xs : List (List D)} {H : AH} {F : List D} {R : D → AH → Prop} (hF : Fr 71 [(0,.slc xs),(5,.int .u8 (flI (turned c))),(6,.int .i64 (tailN c : Int))] F) (hl : xs.length = r.length + 1) (h1 : ∀ x ∈ xs,x.length = 1) (hL : r.length + 1 ≤ big)
    (q1 : 0 < r.length → xs.getD 1 [] = [.int .u8 ((r.getD 0 0).toNat : Int)]) (hx2 : (xs.take (tailN c + 1)).drop 1 = (r.take (tailN c)).map byteD)
    (hk : ∀ t,decInt (c :: r) = t → R (.tup [.int .i64 t.1,.int .i64 (t.2.1 : Int),.int .i64 t.2.2]) H) : xcode Tryz.prog x35_s14 F H (retQ Tryz.prog [.tmp 2,.tmp 3,.tmp 4] H.length R) := by
  have hbig := big_eq
  obtain ⟨z,rfl⟩ : ∃ z : Nat → D,_ = .slc xs :: zz z 1 4 (.int .u8 (flI (turned c)) :: .int .i64 (tailN c : Int) :: zz z 7 64 []) := hF.lit
  try dsimp only [zz,reduceAdd] at *
  clear hF
  unfold decInt at hk
  dsimp only at hk
  unfold body at hk
  have hc := c.toNat_lt
  have tl : tailN c ≤ 127 := by unfold tailN; split <;> omega
  by_cases c1 : 8 < tailN c
  · simp +contextual only [x35,bytesD_len,show ((8 : Int) < (tailN c : Int)) = True from eq_true (by omega),↓U35,↓XP,XW0,XW1,reduceSub,reduceAdd,reduceMul,reduceEqDiff,reduceLeDiff,Nat.reduceBEq,reduceCtorEq,TYX]
    exact hk _ (by rw [if_pos c1])
  rw [if_neg c1] at hk
  by_cases c2 : r.length < tailN c
  · simp +contextual only [x35,bytesD_len,show ((8 : Int) < (tailN c : Int)) = False from eq_false (by omega),hl,show (((r.length + 1 : Nat) : Int) ≤ (tailN c : Int)) = True from eq_true (by omega),↓U35,↓XP,XW0,XW1,reduceSub,reduceAdd,reduceMul,reduceEqDiff,reduceLeDiff,Nat.reduceBEq,reduceCtorEq,TYX]
    exact fun _ => hk _ (by rw [if_pos c2])
  rw [if_neg c2] at hk
  have wk : IntKind.i64.wrap ((tailN c : Int) + 1) = ((tailN c + 1 : Nat) : Int) := by rw [wrap_id (by omega) (by omega)]; omega
  have tl2 : (r.take (tailN c)).length = tailN c := by simp; omega
  have fin : ¬ (0 < tailN c ∧ flip8 (turned c) (r.getD 0 0) = 0) → ∀ F,Fr 71 [(5,.int .u8 (flI (turned c))),(6,.int .i64 (tailN c : Int)),(7,.int .u64 0),(46,.slc ((r.take (tailN c)).map byteD)),(47,.int .i64 (tailN c : Int)),(48,.int .i64 0)] F → XW Tryz.prog x35_L8 F H (blockQ 1 (seqQ Tryz.prog x35_s12 (retQ Tryz.prog [.tmp 2,.tmp 3,.tmp 4] H.length R))) := by
    intro hno F hF
    rw [if_neg hno] at hk
    refine w_gl (f := turned c) (k6 := .int .i64 (tailN c : Int)) (rs := r.take (tailN c)) (by omega) (by rw [tl2]; exact hF) fun F' hF' => ?_
    obtain ⟨z,rfl⟩ : ∃ z : Nat → D,_ = zz z 0 5 (.int .u8 (flI (turned c)) :: .int .i64 (tailN c : Int) :: .int .u64 (val ((r.take (tailN c)).map (flip8 (turned c))) : Int) :: zz z 8 63 []) := hF'.lit
    try dsimp only [zz,reduceAdd] at *
    clear hF' hF
    have hv := val_lt ((r.take (tailN c)).map (flip8 (turned c)))
    have hv2 : val ((r.take (tailN c)).map (flip8 (turned c))) < 256 ^ 8 := Nat.lt_of_lt_of_le hv (Nat.pow_le_pow_right (by omega) (by simp; omega))
    generalize val ((r.take (tailN c)).map (flip8 (turned c))) = v at hk hv2 ⊢
    have e63 : ((v : Int)).fdiv (2 ^ (min ((63 : Int).toNat) IntKind.u64.bits)) = ((v / 9223372036854775808 : Nat) : Int) := by
      rw [show (2 : Int) ^ (min ((63 : Int).toNat) IntKind.u64.bits) = 9223372036854775808 from rfl,Int.fdiv_eq_ediv_of_nonneg _ (by omega)]
      omega
    by_cases c5 : 9223372036854775808 ≤ v
    · have hz : ((0 : Int) < ((v / 9223372036854775808 : Nat) : Int)) = True := eq_true (by omega)
      simp +contextual only [x35,bytesD_len,e63,hz,↓U35,↓XP,XW0,XW1,reduceSub,reduceAdd,reduceMul,reduceEqDiff,reduceLeDiff,Nat.reduceBEq,reduceCtorEq,TYX]
      exact ⟨by decide,hk _ (by rw [if_pos c5])⟩
    · have hz : ((0 : Int) < ((v / 9223372036854775808 : Nat) : Int)) = False := eq_false (by omega)
      rw [if_neg c5] at hk
      cases ht : turned c with
      | true =>
        have ux : bits .xor .u64 (if IntKind.u64.signed = true then -1 else IntKind.u64.max) (v : Int) = ((18446744073709551615 - v : Nat) : Int) := by
          rw [show (if IntKind.u64.signed = true then (-1 : Int) else IntKind.u64.max) = ((18446744073709551615 : Nat) : Int) from rfl,u64_xor_nat _ _ (by omega) (by omega),not64 (by omega)]
        have wv : IntKind.i64.wrap ((18446744073709551615 - v : Nat) : Int) = -1 - (v : Int) := by rw [IntKind.wrap_i64]; omega
        simp +contextual only [x35,bytesD_len,e63,hz,ht,show flI true = 255 from rfl,show ((0 : Int) < 255) = True from eq_true (by omega),ux,wv,wk,↓U35,↓XP,XW0,XW1,reduceSub,reduceAdd,reduceMul,reduceEqDiff,reduceLeDiff,Nat.reduceBEq,reduceCtorEq,TYX]
        have hk2 := hk _ rfl
        rw [ht] at hk2
        exact ⟨by decide,hk2⟩
      | false =>
        have wv : IntKind.i64.wrap (v : Int) = (v : Int) := by rw [IntKind.wrap_i64]; omega
        simp +contextual only [x35,bytesD_len,e63,hz,ht,show flI false = 0 from rfl,show ((0 : Int) < 0) = False from eq_false (by omega),wv,wk,↓U35,↓XP,XW0,XW1,reduceSub,reduceAdd,reduceMul,reduceEqDiff,reduceLeDiff,Nat.reduceBEq,reduceCtorEq,TYX]
        have hk2 := hk _ rfl
        rw [ht] at hk2
        exact ⟨by decide,hk2⟩
  have k1 : ((1 : Int) ≤ ((tailN c + 1 : Nat) : Int)) = True := eq_true (by omega)
  have k2 : (((tailN c + 1 : Nat) : Int) ≤ ((r.length + 1 : Nat) : Int)) = True := eq_true (by omega)
  by_cases c3 : 0 < tailN c
  · have q1' := q1 (by omega)
    have xb := xorB (f := turned c) (c := r.getD 0 0)
    by_cases c4 : flip8 (turned c) (r.getD 0 0) = 0
    · rw [c4,show (((UInt8.toNat 0 : Nat) : Int)) = 0 from rfl] at xb
      simp +contextual only [x35,bytesD_len,show ((8 : Int) < (tailN c : Int)) = False from eq_false (by omega),hl,show (((r.length + 1 : Nat) : Int) ≤ (tailN c : Int)) = False from eq_false (by omega),show ((0 : Int) < (tailN c : Int)) = True from eq_true (by omega),show ((1 : Int)).toNat = 1 from rfl,show ((0 : Int) ≤ 1) = True from eq_true (by omega),q1',xb,show (1 < ((r.length + 1 : Nat) : Int)) = True from eq_true (by omega),↓U35,↓XP,XW0,XW1,reduceSub,reduceAdd,reduceMul,reduceEqDiff,reduceLeDiff,Nat.reduceBEq,reduceCtorEq,TYX]
      exact fun _ _ => hk _ (by rw [if_pos ⟨c3,c4⟩])
    · have xz : ((((flip8 (turned c) (r.getD 0 0)).toNat : Nat) : Int) = 0) = False := eq_false (fun h => c4 (UInt8.toNat_inj.1 (by simpa using h)))
      simp +contextual only [x35,bytesD_len,show ((8 : Int) < (tailN c : Int)) = False from eq_false (by omega),hl,show (((r.length + 1 : Nat) : Int) ≤ (tailN c : Int)) = False from eq_false (by omega),show ((0 : Int) < (tailN c : Int)) = True from eq_true (by omega),show ((1 : Int)).toNat = 1 from rfl,show ((0 : Int) ≤ 1) = True from eq_true (by omega),q1',xb,xz,show (1 < ((r.length + 1 : Nat) : Int)) = True from eq_true (by omega),wk,h1,k1,k2,hx2,tl2,↓U35,↓XP,XW0,XW1,reduceSub,reduceAdd,reduceMul,reduceEqDiff,reduceLeDiff,Nat.reduceBEq,reduceCtorEq,TYX]
      exact fun _ _ _ => fin (fun h => c4 h.2) _ ⟨rfl,rfl,rfl,rfl,rfl,rfl,rfl,trivial⟩
  · simp +contextual only [x35,bytesD_len,show ((8 : Int) < (tailN c : Int)) = False from eq_false (by omega),hl,show (((r.length + 1 : Nat) : Int) ≤ (tailN c : Int)) = False from eq_false (by omega),show ((0 : Int) < (tailN c : Int)) = False from eq_false (by omega),show ((1 : Int)).toNat = 1 from rfl,show ((0 : Int) ≤ 1) = True from eq_true (by omega),wk,h1,k1,k2,hx2,tl2,↓U35,↓XP,XW0,XW1,reduceSub,reduceAdd,reduceMul,reduceEqDiff,reduceLeDiff,Nat.reduceBEq,reduceCtorEq,TYX]
    exact fun _ _ => fin (fun h => c3 h.1) _ ⟨rfl,rfl,rfl,rfl,rfl,rfl,rfl,trivial⟩
theorem f_wGetInt {b : List UInt8} {H : AH} {R : D → AH → Prop} (h : R (.tup [.int .i64 (decInt b).1,.int .i64 ((decInt b).2.1 : Int),.int .i64 (decInt b).2.2]) H) : ACall Tryz.prog 35 [.slc (b.map byteD)] H R := by
  refine b35 fun hf => ?_
  have hbig := big_eq
  rcases hb : b with _ | ⟨c,r⟩
  · subst hb
    simp +contextual only [x35,x35_s17,u35_s17,x35_s16,u35_s16,u35_s15,u35_s0,bytesD_len,List.length_nil,show ((((0 : Nat) : Int)) = 0) = True from eq_true rfl,↓XP,XW0,XW1,reduceSub,reduceAdd,reduceMul,reduceEqDiff,reduceLeDiff,Nat.reduceBEq,reduceCtorEq,TYX]
    exact fun _ => h
  have hk : ∀ t,decInt (c :: r) = t → R (.tup [.int .i64 t.1,.int .i64 (t.2.1 : Int),.int .i64 t.2.2]) H := fun t ht => by rw [← ht,← hb]; exact h
  clear h
  have q0 := bytes_get (l := c :: r) (i := 0) (by simp)
  have q1 : 0 < r.length → ((c :: r).map byteD).getD 1 [] = [.int .u8 ((r.getD 0 0).toNat : Int)] := fun h => by rw [bytes_get (by simp; omega)]; rfl
  simp only [List.getD_cons_zero] at q0
  have hl : ((c :: r).map byteD).length = r.length + 1 := by simp
  have hx2 : (((c :: r).map byteD).take (tailN c + 1)).drop 1 = (r.take (tailN c)).map byteD := by rw [← List.map_take]; rfl
  have h1 : ∀ x ∈ (c :: r).map byteD,x.length = 1 := bytes_1
  generalize ((c :: r).map byteD) = xs at q0 q1 hl hx2 hf h1 ⊢
  have hz : (((r.length + 1 : Nat) : Int) = 0) = False := eq_false (by omega)
  have hz2 : ((0 : Int) < ((r.length + 1 : Nat) : Int)) = True := eq_true (by omega)
  have h8 := flip_turned c
  have hc := c.toNat_lt
  have w1 := (flip8 (turned c) c).toNat_lt
  have w2 : IntKind.i64.wrap (((flip8 (turned c) c).toNat : Int) - 128) = (tailN c : Int) := by rw [h8]; unfold tailN; exact wrap_id (by split <;> omega) (by split <;> omega)
  have w3 : IntKind.i64.wrap (((flip8 (turned c) c).toNat : Int)) = ((flip8 (turned c) c).toNat : Int) := wrap_id (by omega) (by omega)
  have xb := xorB (f := turned c) (c := c)
  by_cases c1 : c.toNat < 128
  · have ft : flI (turned c) = 255 := by rw [turned,decide_eq_true c1]; rfl
    have c1' : ((c.toNat : Int) < 128) = True := eq_true (by omega)
    rw [ft] at xb
    simp +contextual only [x35,x35_s17,u35_s17,x35_s16,u35_s16,u35_s15,u35_s0,bytesD_len,q0,hl,hz,hz2,c1',xb,w3,w2,Int.reduceToNat,Int.reduceLE,↓XP,XW0,XW1,reduceSub,reduceAdd,reduceMul,reduceEqDiff,reduceLeDiff,Nat.reduceBEq,reduceCtorEq,TYX]
    refine fun hlb _ => w_gi ⟨rfl,rfl,congrArg (fun x => some (D.int .u8 x)) ft.symm,rfl,trivial⟩ hl h1 hlb q1 hx2 hk
  · have ft : flI (turned c) = 0 := by rw [turned,decide_eq_false c1]; rfl
    have c1' : ((c.toNat : Int) < 128) = False := eq_false (by omega)
    rw [ft] at xb
    simp +contextual only [x35,x35_s17,u35_s17,x35_s16,u35_s16,u35_s15,u35_s0,bytesD_len,q0,hl,hz,hz2,c1',xb,w3,w2,Int.reduceToNat,Int.reduceLE,↓XP,XW0,XW1,reduceSub,reduceAdd,reduceMul,reduceEqDiff,reduceLeDiff,Nat.reduceBEq,reduceCtorEq,TYX]
    refine fun hlb _ => w_gi ⟨rfl,rfl,congrArg (fun x => some (D.int .u8 x)) ft.symm,rfl,trivial⟩ hl h1 hlb q1 hx2 hk
end Go.Proofs.YtoeckfegggongaaGreatDoor
end
section
namespace Go.Proofs.YtoeckfegggongaaGreatDoor
open Go Go.Aw
def decCount (b : List UInt8) : Int × Nat × Int :=
  if (decInt b).2.2 ≠ 0 then decInt b else if (decInt b).1 < 0 then ((decInt b).1,(decInt b).2.1,2)
  else if (b.length : Int) - (decInt b).2.1 < (decInt b).1 then ((decInt b).1,(decInt b).2.1,3) else decInt b
theorem count_at {b : List UInt8} : (decCount b).2.1 = (decInt b).2.1 := by
  unfold decCount
  repeat' split
  all_goals rfl
theorem count_le {b : List UInt8} : (decCount b).2.1 ≤ b.length := by rw [count_at]; exact dec_le
theorem count_ok {b : List UInt8} (h : (decCount b).2.2 = 0) : 0 ≤ (decCount b).1 ∧ (decCount b).1 + (decCount b).2.1 ≤ b.length ∧ decCount b = decInt b := by
  unfold decCount at h ⊢
  by_cases c1 : (decInt b).2.2 ≠ 0
  · rw [if_pos c1] at h; exact (c1 h).elim
  rw [if_neg c1] at h ⊢
  by_cases c2 : (decInt b).1 < 0
  · rw [if_pos c2] at h; simp at h
  rw [if_neg c2] at h ⊢
  by_cases c3 : (b.length : Int) - (decInt b).2.1 < (decInt b).1
  · rw [if_pos c3] at h; simp at h
  rw [if_neg c3]
  exact ⟨by omega,by omega,rfl⟩
theorem count_enc {n : Nat} {rest : List UInt8} (hn : n ≤ rest.length) (hb : n ≤ 140737488355328) : decCount (encInt n ++ rest) = ((n : Int),(encInt n).length,0) := by
  have h := dec_enc (m := (n : Int)) (rest := rest) (nat_in hb)
  unfold decCount
  rw [h,if_neg (by simp),if_neg (by simp),if_neg (by simp; omega)]
def decBytes (b : List UInt8) : List UInt8 × Nat × Int :=
  if (decCount b).2.2 = 0 then ((b.drop (decCount b).2.1).take (decCount b).1.toNat,(decCount b).2.1 + (decCount b).1.toNat,0) else ([],0,(decCount b).2.2)
theorem bytes_le {b : List UInt8} : (decBytes b).2.1 ≤ b.length := by
  unfold decBytes
  split
  · next h => have := count_ok h; simp; omega
  · simp
theorem bytes_sl {b : List UInt8} : (decBytes b).1.length ≤ b.length := by
  unfold decBytes
  split
  · simp; omega
  · simp
theorem bytes_enc {s rest : List UInt8} (hb : s.length ≤ 140737488355328) : decBytes (encBytes s ++ rest) = (s,(encBytes s).length,0) := by
  have h := count_enc (n := s.length) (rest := s ++ rest) (by simp) hb
  unfold decBytes encBytes
  rw [List.append_assoc,h]
  simp
def goL {α : Type} (f : List UInt8 → α × Nat × Int) : Nat → List UInt8 → List α × Nat × Int
  | 0,_ => ([],0,0)
  | n + 1,b => if (f b).2.2 ≠ 0 then ([],0,(f b).2.2) else
    if (goL f n (b.drop (f b).2.1)).2.2 ≠ 0 then ([],0,(goL f n (b.drop (f b).2.1)).2.2)
    else ((f b).1 :: (goL f n (b.drop (f b).2.1)).1,(f b).2.1 + (goL f n (b.drop (f b).2.1)).2.1,0)
def decL {α : Type} (f : List UInt8 → α × Nat × Int) (b : List UInt8) : List α × Nat × Int :=
  if (decCount b).2.2 ≠ 0 then ([],0,(decCount b).2.2) else
  if (goL f (decCount b).1.toNat (b.drop (decCount b).2.1)).2.2 ≠ 0 then ([],0,(goL f (decCount b).1.toNat (b.drop (decCount b).2.1)).2.2)
  else ((goL f (decCount b).1.toNat (b.drop (decCount b).2.1)).1,(decCount b).2.1 + (goL f (decCount b).1.toNat (b.drop (decCount b).2.1)).2.1,0)
theorem goL_le {α : Type} {f : List UInt8 → α × Nat × Int} (hf : ∀ b,(f b).2.1 ≤ b.length) : ∀ (n : Nat) (b : List UInt8),(goL f n b).2.1 ≤ b.length ∧ (goL f n b).1.length ≤ n
  | 0,b => by simp [goL]
  | n + 1,b => by
    have h1 := hf b
    have h2 := goL_le hf n (b.drop (f b).2.1)
    rw [List.length_drop] at h2
    unfold goL
    split
    · simp
    · split
      · simp
      · simp; omega
theorem decL_le {α : Type} {f : List UInt8 → α × Nat × Int} (hf : ∀ b,(f b).2.1 ≤ b.length) {b : List UInt8} : (decL f b).2.1 ≤ b.length ∧ (decL f b).1.length ≤ b.length := by
  unfold decL
  split
  · simp
  · next h =>
    have h0 := count_ok (Classical.not_not.1 h)
    have h2 := goL_le hf (decCount b).1.toNat (b.drop (decCount b).2.1)
    rw [List.length_drop] at h2
    split
    · simp
    · constructor
      · dsimp only; omega
      · dsimp only; omega
theorem goL_enc {α : Type} {f : List UInt8 → α × Nat × Int} {enc : α → List UInt8} : ∀ (l : List α) (rest : List UInt8),(∀ x ∈ l,∀ r,f (enc x ++ r) = (x,(enc x).length,0)) → goL f l.length (l.flatMap enc ++ rest) = (l,(l.flatMap enc).length,0)
  | [],rest,_ => rfl
  | x :: l,rest,h => by
    have h1 := h x (.head _) (l.flatMap enc ++ rest)
    have h2 := goL_enc l rest (fun y hy => h y (.tail _ hy))
    have e : (x :: l).flatMap enc ++ rest = enc x ++ (l.flatMap enc ++ rest) := by simp
    rw [e,List.length_cons]
    unfold goL
    rw [h1]
    dsimp only
    rw [List.drop_left,h2]
    simp
theorem flat_ge {α : Type} {enc : α → List UInt8} : ∀ {l : List α},(∀ x ∈ l,0 < (enc x).length) → l.length ≤ (l.flatMap enc).length
  | [],_ => by simp
  | x :: l,h => by
    have h1 := h x (.head _)
    have h2 := flat_ge (l := l) (fun y hy => h y (.tail _ hy))
    simp only [List.flatMap_cons,List.length_append,List.length_cons]
    omega
theorem decL_enc {α : Type} {f : List UInt8 → α × Nat × Int} {enc : α → List UInt8} {l : List α} {rest : List UInt8} (h : ∀ x ∈ l,∀ r,f (enc x ++ r) = (x,(enc x).length,0)) (hp : ∀ x ∈ l,0 < (enc x).length) (hb : l.length ≤ 140737488355328) :
    decL f (encInt l.length ++ l.flatMap enc ++ rest) = (l,(encInt l.length ++ l.flatMap enc).length,0) := by
  have h1 := flat_ge hp
  have h2 := count_enc (n := l.length) (rest := l.flatMap enc ++ rest) (by rw [List.length_append]; omega) hb
  have h3 := goL_enc l rest h
  unfold decL
  rw [List.append_assoc,h2]
  dsimp only
  rw [if_neg (by simp),List.drop_left,Int.toNat_natCast,h3]
  simp
def decInts (b : List UInt8) : List Int × Nat × Int := decL decInt b
def decStrs (b : List UInt8) : List (List UInt8) × Nat × Int := decL decBytes b
theorem ints_le {b : List UInt8} : (decInts b).2.1 ≤ b.length ∧ (decInts b).1.length ≤ b.length := decL_le fun _ => dec_le
theorem strs_le {b : List UInt8} : (decStrs b).2.1 ≤ b.length ∧ (decStrs b).1.length ≤ b.length := decL_le fun _ => bytes_le
theorem enc_pos {n : Int} : 0 < (encInt n).length := by simp [encInt]
theorem ints_enc {l : List Int} {rest : List UInt8} (h : ∀ x ∈ l,inR .i64 x) (hb : l.length ≤ 140737488355328) : decInts (encInts l ++ rest) = (l,(encInts l).length,0) :=
  decL_enc (enc := encInt) (fun x hx r => dec_enc (h x hx)) (fun x _ => enc_pos) hb
theorem strs_enc {l : List (List UInt8)} {rest : List UInt8} (h : ∀ x ∈ l,x.length ≤ 140737488355328) (hb : l.length ≤ 140737488355328) : decStrs (encStrs l ++ rest) = (l,(encStrs l).length,0) :=
  decL_enc (enc := encBytes) (fun x hx r => bytes_enc (h x hx)) (fun x _ => by simp only [encBytes,List.length_append]; have := enc_pos (n := (x.length : Int)); omega) hb
end Go.Proofs.YtoeckfegggongaaGreatDoor
end
section
namespace Go.Proofs.YtoeckfegggongaaGreatDoor
open Go Go.Aw
theorem f_wCount {b : List UInt8} {H : AH} {R : D → AH → Prop} (h : R (.tup [.int .i64 (decCount b).1,.int .i64 ((decCount b).2.1 : Int),.int .i64 (decCount b).2.2]) H) : ACall Tryz.prog 66 [.slc (b.map byteD),.int .i64 1] H R := by
  refine b66 fun hf => ?_
  have hbig := big_eq
  have hle := dec_le (b := b)
  unfold decCount at h
  simp +contextual only [x66,bytesD_len,↓U66,↓XP,XW0,XW1,reduceSub,reduceAdd,reduceMul,reduceEqDiff,reduceLeDiff,Nat.reduceBEq,reduceCtorEq,TYX]
  refine f_wGetInt ?_
  generalize decInt b = t at h hle ⊢
  obtain ⟨n,k,e⟩ := t
  dsimp only at h hle ⊢
  rcases Classical.em (e = 0) with c1 | c1
  · subst c1
    rw [if_neg (by simp)] at h
    rcases Classical.em (n < 0) with c2 | c2
    · rw [if_pos c2] at h
      simp +contextual only [x66,bytesD_len,eq_true c2,↓U66,↓XP,XW0,XW1,reduceSub,reduceAdd,reduceMul,reduceEqDiff,reduceLeDiff,Nat.reduceBEq,reduceCtorEq,TYX]
      exact fun _ _ _ => h
    · rw [if_neg c2] at h
      simp +contextual only [x66,bytesD_len,eq_false c2,↓U66,↓XP,XW0,XW1,reduceSub,reduceAdd,reduceMul,reduceEqDiff,reduceLeDiff,Nat.reduceBEq,reduceCtorEq,TYX]
      refine fun _ _ _ hb => ⟨by decide,?_⟩
      have w1 : IntKind.i64.wrap ((b.length : Int) - k) = (b.length : Int) - k := wrap_id (by omega) (by omega)
      rw [w1,Int.tdiv_one,w1]
      refine ⟨fun c => ?_,fun c => ?_⟩
      · rw [if_pos c] at h
        exact h
      · rw [if_neg c] at h
        exact h
  · rw [if_pos c1] at h
    simp +contextual only [x66,bytesD_len,eq_false c1,↓U66,↓XP,XW0,XW1,reduceSub,reduceAdd,reduceMul,reduceEqDiff,reduceLeDiff,Nat.reduceBEq,reduceCtorEq,TYX]
    exact fun _ _ _ => h
theorem cut_bytes {b : List UInt8} {k m : Nat} : ((b.map byteD).take (k + m)).drop k = ((b.drop k).take m).map byteD := by
  rw [← List.map_take,← List.map_drop,List.drop_take,Nat.add_sub_cancel_left]
theorem bytes_big {b : List UInt8} (h : fact (.slc (b.map byteD))) : b.length ≤ 140737488355328 := by
  have := h
  rw [f_slc,bytesD_len,big_eq] at this
  exact this
theorem f_wGetBytes {b : List UInt8} {H : AH} {R : D → AH → Prop} (h : R (.tup [.str (decBytes b).1,.int .i64 ((decBytes b).2.1 : Int),.int .i64 (decBytes b).2.2]) H) : ACall Tryz.prog 38 [.slc (b.map byteD)] H R := by
  refine b38 fun hf => ?_
  have hbig := big_eq
  have hle := count_le (b := b)
  have hok := count_ok (b := b)
  unfold decBytes at h
  simp +contextual only [x38,bytesD_len,↓U38,↓XP,XW0,XW1,reduceSub,reduceAdd,reduceMul,reduceEqDiff,reduceLeDiff,Nat.reduceBEq,reduceCtorEq,TYX]
  refine f_wCount ?_
  have hok2 : (decCount b).2.2 = 0 → 0 ≤ (decCount b).1 ∧ (decCount b).1 + (decCount b).2.1 ≤ b.length := fun h => ⟨(hok h).1,(hok h).2.1⟩
  clear hok
  generalize decCount b = t at h hle hok2 ⊢
  obtain ⟨n,k,e⟩ := t
  dsimp only at h hle hok2 ⊢
  rcases Classical.em (e = 0) with c1 | c1
  · subst c1
    rw [if_pos rfl] at h
    obtain ⟨g1,g2⟩ := hok2 rfl
    have hb := bytes_big hf.1
    obtain ⟨m,rfl⟩ := Int.eq_ofNat_of_zero_le g1
    have w1 : IntKind.i64.wrap ((k : Int) + (m : Int)) = ((k + m : Nat) : Int) := by rw [wrap_id (by omega) (by omega)]; omega
    dsimp only at h
    rw [Int.toNat_natCast] at h
    simp +contextual only [x38,bytesD_len,w1,cut_bytes,unbyteD,↓U38,↓XP,XW0,XW1,reduceSub,reduceAdd,reduceMul,reduceEqDiff,reduceLeDiff,Nat.reduceBEq,reduceCtorEq,TYX]
    refine fun _ _ _ => ⟨bytes_1,by omega,by omega,isByteD,fun _ => h⟩
  · rw [if_neg c1] at h
    simp +contextual only [x38,bytesD_len,eq_false c1,↓U38,↓XP,XW0,XW1,reduceSub,reduceAdd,reduceMul,reduceEqDiff,reduceLeDiff,Nat.reduceBEq,reduceCtorEq,TYX]
    exact fun _ _ _ => h
end Go.Proofs.YtoeckfegggongaaGreatDoor
end
section
namespace Go.Proofs.YtoeckfegggongaaGreatDoor
open Go Go.Aw
def finL {α : Type} (acc : List α) (a : Nat) (r : List α × Nat × Int) : List α × Nat × Int := if r.2.2 ≠ 0 then ([],0,r.2.2) else (acc ++ r.1,a + r.2.1,0)
theorem fin_bad {α : Type} {f : List UInt8 → α × Nat × Int} {acc : List α} {a m : Nat} {b : List UInt8} (h : ¬ (f (b.drop a)).2.2 = 0) : finL acc a (goL f (m + 1) (b.drop a)) = ([],0,(f (b.drop a)).2.2) := by
  unfold goL
  rw [if_pos h]
  unfold finL
  rw [if_pos h]
theorem fin_step {α : Type} {f : List UInt8 → α × Nat × Int} {acc : List α} {a m : Nat} {b : List UInt8} (h : (f (b.drop a)).2.2 = 0) :
    finL acc a (goL f (m + 1) (b.drop a)) = finL (acc ++ [(f (b.drop a)).1]) (a + (f (b.drop a)).2.1) (goL f m (b.drop (a + (f (b.drop a)).2.1))) := by
  rw [goL,if_neg (fun c => c h),List.drop_drop]
  generalize goL f m (b.drop (a + (f (b.drop a)).2.1)) = t
  by_cases c : t.2.2 = 0
  · simp [finL,c,Nat.add_assoc]
  · simp [finL,c]
theorem fin_end {α : Type} {f : List UInt8 → α × Nat × Int} {acc : List α} {a : Nat} {b : List UInt8} : finL acc a (goL f 0 b) = (acc,a,0) := by
  simp [finL,goL]
theorem decL_fin {α : Type} {f : List UInt8 → α × Nat × Int} {b : List UInt8} (h : (decCount b).2.2 = 0) : decL f b = finL [] (decCount b).2.1 (goL f (decCount b).1.toNat (b.drop (decCount b).2.1)) := by
  unfold decL finL
  rw [if_neg (fun c => c h)]
  simp
theorem drop_bytes {b : List UInt8} {a : Nat} : ((b.map byteD).take (b.length)).drop a = (b.drop a).map byteD := by
  rw [← List.map_take,← List.map_drop,List.take_length]
theorem f_wGetStrings {b : List UInt8} {H : AH} {R : D → AH → Prop} (hB : b.length ≤ 1000000000) (h : R (.tup [.own (strs (decStrs b).1),.int .i64 ((decStrs b).2.1 : Int),.int .i64 (decStrs b).2.2]) H) : ACall Tryz.prog 65 [.slc (b.map byteD)] H R := by
  refine b65 fun hf => ?_
  have hbig := big_eq
  have hle := count_le (b := b)
  have hok := count_ok (b := b)
  have hb := bytes_big hf.1
  have hfin := decL_fin (f := decBytes) (b := b)
  have hk : ∀ t,decStrs b = t → R (.tup [.own (strs t.1),.int .i64 (t.2.1 : Int),.int .i64 t.2.2]) H := fun t ht => by rw [← ht]; exact h
  clear h
  unfold decStrs at hk
  simp +contextual only [x65,bytesD_len,↓U65,↓XP,XW0,XW1,reduceSub,reduceAdd,reduceMul,reduceEqDiff,reduceLeDiff,Nat.reduceBEq,reduceCtorEq,TYX]
  refine f_wCount ?_
  have hok2 : (decCount b).2.2 = 0 → 0 ≤ (decCount b).1 ∧ (decCount b).1 + (decCount b).2.1 ≤ b.length := fun h => ⟨(hok h).1,(hok h).2.1⟩
  have hbad : ¬ (decCount b).2.2 = 0 → decL decBytes b = ([],0,(decCount b).2.2) := fun h => by unfold decL; rw [if_pos h]
  clear hok
  generalize decCount b = t at hfin hle hok2 hbad ⊢
  obtain ⟨n,k,e⟩ := t
  dsimp only at hfin hle hok2 hbad ⊢
  rcases Classical.em (e = 0) with c1 | c1
  · subst c1
    obtain ⟨g1,g2⟩ := hok2 rfl
    replace hfin := hfin rfl
    obtain ⟨n,rfl⟩ := Int.eq_ofNat_of_zero_le g1
    rw [Int.toNat_natCast] at hfin
    simp +contextual only [x65,bytesD_len,↓U65,↓XP,XW0,XW1,reduceSub,reduceAdd,reduceMul,reduceEqDiff,reduceLeDiff,Nat.reduceBEq,reduceCtorEq,TYX]
    refine fun _ _ _ => XW.loopK Go.Proofs.YtoeckfegggongaaGreatDoor.hm (fun F H' => ∃ (i a : Nat) (acc : List (List UInt8)),i ≤ n ∧ a ≤ b.length ∧ acc.length = i ∧ decL decBytes b = finL acc a (goL decBytes (n - i) (b.drop a)) ∧ Fr 45 [(0,.slc (b.map byteD)),(6,.int .i64 (a : Int)),(8,.own (strs acc)),(21,.int .i64 (n : Int)),(22,.int .i64 (i : Int))] F ∧ H = H') (fun F H => match F.getD 22 .any with | .int _ n' => n - n'.toNat | _ => 0) ⟨0,k,[],by omega,by omega,rfl,hfin,⟨rfl,rfl,rfl,rfl,rfl,rfl,trivial⟩,rfl⟩ ?_
    rintro _ _ ⟨i,a,acc,hi,ha,hac,hfi,hF,rfl⟩ K hN hE hR
    obtain ⟨z,rfl⟩ : ∃ z : Nat → D,_ = .slc (b.map byteD) :: zz z 1 5 (.int .i64 (a : Int) :: z 7 :: .own (strs acc) :: zz z 9 12 (.int .i64 (n : Int) :: .int .i64 (i : Int) :: zz z 23 22 [])) := hF.lit
    try dsimp only [zz,reduceAdd] at *
    clear hF
    have sl : (strs acc).length = acc.length := strs_len
    have wa := drop_bytes (b := b) (a := a)
    rcases Classical.em (i < n) with hlt | hlt
    · obtain ⟨m,hm⟩ : ∃ m,n - i = m + 1 := ⟨n - i - 1,by omega⟩
      rw [hm] at hfi
      have q1 := bytes_le (b := b.drop a)
      rw [List.length_drop] at q1
      have nx : (decBytes (b.drop a)).2.2 = 0 → ∀ F',Fr 45 [(0,.slc (b.map byteD)),(6,.int .i64 ((a + (decBytes (b.drop a)).2.1 : Nat) : Int)),(8,.own (strs (acc ++ [(decBytes (b.drop a)).1]))),(21,.int .i64 (n : Int)),(22,.int .i64 ((i + 1 : Nat) : Int))] F' → K .normal F' H := fun he F' hF' => hN _ _ ⟨i + 1,a + (decBytes (b.drop a)).2.1,acc ++ [(decBytes (b.drop a)).1],by omega,by omega,by simp; omega,by rw [hfi,fin_step he,show n - (i + 1) = m by omega],hF',(back_0 rfl).symm⟩ (by
        rw [List.getD_eq_getElem?_getD,hF'.2.2.2.2.2.1]
        simp only [List.getD_cons_succ,List.getD_cons_zero,Option.getD_some]
        omega)
      have bad : ¬ (decBytes (b.drop a)).2.2 = 0 → R (.tup [.own (strs []),.int .i64 0,.int .i64 (decBytes (b.drop a)).2.2]) H := fun he => hk ([],0,(decBytes (b.drop a)).2.2) (by rw [hfi,fin_bad he])
      clear hN hE hk hfin hbad hfi
      simp +contextual only [x65,bytesD_len,hlt,Int.ofNat_lt,wa,↓U65,↓XP,XW0,XW1,reduceSub,reduceAdd,reduceMul,reduceEqDiff,reduceLeDiff,Nat.reduceBEq,reduceCtorEq,TYX]
      refine ⟨bytes_1,by omega,f_wGetBytes ?_⟩
      generalize decBytes (b.drop a) = t at q1 nx bad ⊢
      obtain ⟨s,k,e⟩ := t
      dsimp only at q1 nx bad ⊢
      rcases Classical.em (e = 0) with c2 | c2
      · subst c2
        have w2 : IntKind.i64.wrap ((a : Int) + (k : Int)) = ((a + k : Nat) : Int) := by rw [wrap_id (by omega) (by omega)]; omega
        simp +contextual only [x65,bytesD_len,w2,wrap_succ (show i ≤ big by omega),↓U65,↓XP,XW0,XW1,reduceSub,reduceAdd,reduceMul,reduceEqDiff,reduceLeDiff,Nat.reduceBEq,reduceCtorEq,TYX]
        refine fun _ _ _ => ⟨strs_1,by omega,nx rfl _ ?_⟩
        rw [show strs (acc ++ [s]) = strs acc ++ [[.str s]] by simp [strs]]
        exact ⟨rfl,rfl,rfl,rfl,rfl,rfl,trivial⟩
      · simp +contextual only [x65,bytesD_len,eq_false c2,↓U65,↓XP,XW0,XW1,reduceSub,reduceAdd,reduceMul,reduceEqDiff,reduceLeDiff,Nat.reduceBEq,reduceCtorEq,TYX]
        refine fun _ _ _ => hR _ _ ?_
        simp +contextual only [x65,bytesD_len,↓U65,↓XP,XW0,XW1,reduceSub,reduceAdd,reduceMul,reduceEqDiff,reduceLeDiff,Nat.reduceBEq,reduceCtorEq,TYX]
        exact bad c2
    · have hik : i = n := by omega
      subst hik
      clear hN
      rw [Nat.sub_self,fin_end] at hfi
      simp +contextual only [x65,bytesD_len,hlt,↓U65,↓XP,XW0,XW1,reduceSub,reduceAdd,reduceMul,reduceEqDiff,reduceLeDiff,Nat.reduceBEq,reduceCtorEq,TYX]
      refine hE _ _ _ ?_
      simp +contextual only [x65,bytesD_len,↓U65,↓XP,XW0,XW1,reduceSub,reduceAdd,reduceMul,reduceEqDiff,reduceLeDiff,Nat.reduceBEq,reduceCtorEq,TYX]
      exact hk _ hfi
  · simp +contextual only [x65,bytesD_len,eq_false c1,↓U65,↓XP,XW0,XW1,reduceSub,reduceAdd,reduceMul,reduceEqDiff,reduceLeDiff,Nat.reduceBEq,reduceCtorEq,TYX]
    exact fun _ _ _ => hk _ (hbad c1)
theorem r79 {args : List D} {H : AH} {R : D → AH → Prop} (h : facts args → xcode Tryz.prog x79 (args ++ List.replicate (6 - args.length) (.tup [])) H (retR Tryz.prog [(.tmp 4)] R)) : ACall Tryz.prog 79 args H R :=
  xcall_bodyR hm Tryz.func79 rfl (by kernel_rfl) (by kernel_rfl) (by kernel_rfl) (by kernel_rfl) (by kernel_rfl) (by kernel_rfl) h
theorem f_reader {fi : Nat} {b : List UInt8} {a : Nat} {H : AH} {R : D → AH → Prop} (hfi : fi = 96) (h : ∀ b2 b3,freshH H b2 → (b2 ≠ b3 ∧ freshH H b3) → R (.fn fi [.ptr b2 0,.ptr b3 0]) ((b3,.cells [.int .i64 a]) :: (b2,.cells [.slc (b.map byteD)]) :: H)) : ACall Tryz.prog 79 [.slc (b.map byteD),.int .i64 a] H R := by
  refine r79 fun hf => ?_
  subst hfi
  simp +contextual only [x79,q_retNR,q_retRR,k_resR,↓XP,XW0,XW1,reduceSub,reduceAdd,reduceMul,reduceEqDiff,reduceLeDiff,Nat.reduceBEq,reduceCtorEq,TYX]
  refine fun b2 h2 b3 h3 => ⟨_,Sbn.sub (List.Sublist.refl _),h b2 b3 h2 h3⟩
theorem f_rdNext {b : List UInt8} {a b2 b3 : Nat} {H : AH} {R : D → AH → Prop} (ha : a ≤ b.length) (hne : b2 ≠ b3) (h2 : getH H b2 = none) (h3 : getH H b3 = none)
    (h : b.length ≤ 140737488355328 → R (.tup [.int .i64 (decInt (b.drop a)).1,.int .i64 ((a + (decInt (b.drop a)).2.1 : Nat) : Int),.int .i64 (decInt (b.drop a)).2.2]) ((b3,.cells [.int .i64 ((a + (decInt (b.drop a)).2.1 : Nat) : Int)]) :: (b2,.cells [.slc (b.map byteD)]) :: H)) :
    ACall Tryz.prog 96 [.ptr b2 0,.ptr b3 0] ((b3,.cells [.int .i64 a]) :: (b2,.cells [.slc (b.map byteD)]) :: H) R := by
  refine b96 fun hf => ?_
  have hbig := big_eq
  have q1 := dec_le (b := b.drop a)
  rw [List.length_drop] at q1
  have hne' := Ne.symm hne
  simp +contextual only [x96,bytesD_len,drop_bytes,h_miss hne,↓U96,↓XP,XW0,XW1,reduceSub,reduceAdd,reduceMul,reduceEqDiff,reduceLeDiff,Nat.reduceBEq,reduceCtorEq,TYX]
  refine fun hb _ => ⟨bytes_1,by omega,f_wGetInt ?_⟩
  replace h := h (by omega)
  generalize decInt (b.drop a) = t at h q1 ⊢
  obtain ⟨x,k,e⟩ := t
  dsimp only at h q1 ⊢
  have w1 : IntKind.i64.wrap ((a : Int) + (k : Int)) = ((a + k : Nat) : Int) := by rw [wrap_id (by omega) (by omega)]; omega
  simp +contextual only [x96,bytesD_len,drop_bytes,h_miss hne,w1,↓U96,↓XP,XW0,XW1,reduceSub,reduceAdd,reduceMul,reduceEqDiff,reduceLeDiff,Nat.reduceBEq,reduceCtorEq,TYX]
  exact fun _ _ _ _ _ => h
theorem f_wGetInts {b : List UInt8} {H : AH} {R : D → AH → Prop} (hB : b.length ≤ 1000000000) (h : R (.tup [.own (ints (decInts b).1),.int .i64 ((decInts b).2.1 : Int),.int .i64 (decInts b).2.2]) H) : ACall Tryz.prog 63 [.slc (b.map byteD)] H R := by
  refine b63 fun hf => ?_
  have hbig := big_eq
  have hle := count_le (b := b)
  have hok := count_ok (b := b)
  have hfin := decL_fin (f := decInt) (b := b)
  have hk : ∀ t,decInts b = t → R (.tup [.own (ints t.1),.int .i64 (t.2.1 : Int),.int .i64 t.2.2]) H := fun t ht => by rw [← ht]; exact h
  clear h
  unfold decInts at hk
  simp +contextual only [x63,bytesD_len,↓U63,↓XP,XW0,XW1,reduceSub,reduceAdd,reduceMul,reduceEqDiff,reduceLeDiff,Nat.reduceBEq,reduceCtorEq,TYX]
  refine f_wCount ?_
  have hok2 : (decCount b).2.2 = 0 → 0 ≤ (decCount b).1 ∧ (decCount b).1 + (decCount b).2.1 ≤ b.length := fun h => ⟨(hok h).1,(hok h).2.1⟩
  have hbad : ¬ (decCount b).2.2 = 0 → decL decInt b = ([],0,(decCount b).2.2) := fun h => by unfold decL; rw [if_pos h]
  clear hok
  generalize decCount b = t at hfin hle hok2 hbad ⊢
  obtain ⟨n,k,e⟩ := t
  dsimp only at hfin hle hok2 hbad ⊢
  rcases Classical.em (e = 0) with c1 | c1
  · subst c1
    obtain ⟨g1,g2⟩ := hok2 rfl
    replace hfin := hfin rfl
    obtain ⟨n,rfl⟩ := Int.eq_ofNat_of_zero_le g1
    rw [Int.toNat_natCast] at hfin
    simp +contextual only [x63,bytesD_len,↓U63,↓XP,XW0,XW1,reduceSub,reduceAdd,reduceMul,reduceEqDiff,reduceLeDiff,Nat.reduceBEq,reduceCtorEq,TYX]
    obtain ⟨fi,hfi⟩ : ∃ fi,fi = 96 := ⟨_,rfl⟩
    refine fun _ _ _ => f_reader (fi := fi) hfi fun b2 b3 h2 h3 => ?_
    have n2 := freshH_none h2
    have n3 := freshH_none h3.2
    simp +contextual only [x63,bytesD_len,↓U63,↓XP,XW0,XW1,reduceSub,reduceAdd,reduceMul,reduceEqDiff,reduceLeDiff,Nat.reduceBEq,reduceCtorEq,TYX]
    refine XW.loopK Go.Proofs.YtoeckfegggongaaGreatDoor.hm (fun F H' => ∃ (i a : Nat) (acc : List Int),i ≤ n ∧ a ≤ b.length ∧ acc.length = i ∧ decL decInt b = finL acc a (goL decInt (n - i) (b.drop a)) ∧ Fr 45 [(6,.int .i64 (a : Int)),(8,.fn fi [.ptr b2 0,.ptr b3 0]),(9,.own (ints acc)),(25,.int .i64 (n : Int)),(26,.int .i64 (i : Int))] F ∧ H' = ((b3,.cells [.int .i64 a]) :: (b2,.cells [.slc (b.map byteD)]) :: H)) (fun F H => match F.getD 26 .any with | .int _ n' => n - n'.toNat | _ => 0) ⟨0,k,[],by omega,by omega,rfl,hfin,⟨rfl,rfl,rfl,rfl,rfl,rfl,trivial⟩,rfl⟩ ?_
    rintro _ _ ⟨i,a,acc,hi,ha,hac,hfi',hF,rfl⟩ K hN hE hR
    obtain ⟨z,rfl⟩ : ∃ z : Nat → D,_ = zz z 0 6 (.int .i64 (a : Int) :: z 7 :: .fn fi [.ptr b2 0,.ptr b3 0] :: .own (ints acc) :: zz z 10 15 (.int .i64 (n : Int) :: .int .i64 (i : Int) :: zz z 27 18 [])) := hF.lit
    try dsimp only [zz,reduceAdd] at *
    clear hF
    have sl : (ints acc).length = acc.length := ints_len
    rcases Classical.em (i < n) with hlt | hlt
    · obtain ⟨m,hm⟩ : ∃ m,n - i = m + 1 := ⟨n - i - 1,by omega⟩
      rw [hm] at hfi'
      have q1 := dec_le (b := b.drop a)
      rw [List.length_drop] at q1
      have nx : (decInt (b.drop a)).2.2 = 0 → ∀ F' H',back ((b3,AO.cells [.int .i64 a]) :: (b2,AO.cells [.slc (b.map byteD)]) :: H).length H' = ((b3,AO.cells [.int .i64 ((a + (decInt (b.drop a)).2.1 : Nat) : Int)]) :: (b2,AO.cells [.slc (b.map byteD)]) :: H) → Fr 45 [(6,.int .i64 ((a + (decInt (b.drop a)).2.1 : Nat) : Int)),(8,.fn fi [.ptr b2 0,.ptr b3 0]),(9,.own (ints (acc ++ [(decInt (b.drop a)).1]))),(25,.int .i64 (n : Int)),(26,.int .i64 ((i + 1 : Nat) : Int))] F' → K .normal F' H' := fun he F' H' hH hF' => hN _ _ ⟨i + 1,a + (decInt (b.drop a)).2.1,acc ++ [(decInt (b.drop a)).1],by omega,by omega,by simp; omega,by rw [hfi',fin_step he,show n - (i + 1) = m by omega],hF',hH⟩ (by
        rw [List.getD_eq_getElem?_getD,hF'.2.2.2.2.2.1]
        simp only [List.getD_cons_succ,List.getD_cons_zero,Option.getD_some]
        omega)
      have bad : ¬ (decInt (b.drop a)).2.2 = 0 → R (.tup [.own (ints []),.int .i64 0,.int .i64 (decInt (b.drop a)).2.2]) H := fun he => hk ([],0,(decInt (b.drop a)).2.2) (by rw [hfi',fin_bad he])
      clear hN hE hk hfin hbad hfi'
      simp +contextual only [x63,bytesD_len,hlt,Int.ofNat_lt,↓U63,↓XP,XW0,XW1,reduceSub,reduceAdd,reduceMul,reduceEqDiff,reduceLeDiff,Nat.reduceBEq,reduceCtorEq,TYX]
      rw [hfi]
      refine f_rdNext ha h3.1 n2 n3 fun _ => ?_
      rw [← hfi]
      generalize decInt (b.drop a) = t at q1 nx bad ⊢
      obtain ⟨s,k,e⟩ := t
      dsimp only at q1 nx bad ⊢
      rcases Classical.em (e = 0) with c2 | c2
      · subst c2
        simp +contextual only [x63,bytesD_len,wrap_succ (show i ≤ big by omega),↓U63,↓XP,XW0,XW1,reduceSub,reduceAdd,reduceMul,reduceEqDiff,reduceLeDiff,Nat.reduceBEq,reduceCtorEq,TYX]
        refine fun _ _ _ => ⟨ints_1,by omega,nx rfl _ _ (back_0 rfl) ?_⟩
        rw [show ints (acc ++ [s]) = ints acc ++ [[.int .i64 s]] by simp [ints]]
        exact ⟨rfl,rfl,rfl,rfl,rfl,rfl,trivial⟩
      · simp +contextual only [x63,bytesD_len,eq_false c2,↓U63,↓XP,XW0,XW1,reduceSub,reduceAdd,reduceMul,reduceEqDiff,reduceLeDiff,Nat.reduceBEq,reduceCtorEq,TYX]
        refine fun _ _ _ => hR _ _ ?_
        simp +contextual only [x63,bytesD_len,↓U63,↓XP,XW0,XW1,reduceSub,reduceAdd,reduceMul,reduceEqDiff,reduceLeDiff,Nat.reduceBEq,reduceCtorEq,TYX]
        exact bad c2
    · have hik : i = n := by omega
      subst hik
      clear hN
      rw [Nat.sub_self,fin_end] at hfi'
      simp +contextual only [x63,bytesD_len,hlt,↓U63,↓XP,XW0,XW1,reduceSub,reduceAdd,reduceMul,reduceEqDiff,reduceLeDiff,Nat.reduceBEq,reduceCtorEq,TYX]
      refine hE _ _ _ ?_
      simp +contextual only [x63,bytesD_len,↓U63,↓XP,XW0,XW1,reduceSub,reduceAdd,reduceMul,reduceEqDiff,reduceLeDiff,Nat.reduceBEq,reduceCtorEq,TYX]
      exact hk _ hfi'
  · simp +contextual only [x63,bytesD_len,eq_false c1,↓U63,↓XP,XW0,XW1,reduceSub,reduceAdd,reduceMul,reduceEqDiff,reduceLeDiff,Nat.reduceBEq,reduceCtorEq,TYX]
    exact fun _ _ _ => hk _ (hbad c1)
end Go.Proofs.YtoeckfegggongaaGreatDoor
end
section
namespace Go.Proofs.YtoeckfegggongaaGreatDoor
open Go Go.Aw
def rdO (b : List UInt8) (bad : Bool) : AO := .cells [.slc (b.map byteD),.bool bad]
theorem f_took {b : List UInt8} {bad : Bool} {br k : Nat} {e : Int} {H : AH} {R : D → AH → Prop} (hk : k ≤ b.length) (hg : getH H br = some (rdO b bad))
    (h : R (.tup []) (setH H br (rdO (b.drop k) (bad || decide (e ≠ 0))))) : ACall Tryz.prog 36 [.ptr br 0,.int .i64 k,.int .i64 e] H R := by
  refine b36 fun hf => ?_
  have hbig := big_eq
  unfold rdO at hg h
  have hs2 : ∀ o,getH (setH H br o) br = some o := fun o => h_own (by rw [hg]; rfl)
  have hs3 : ∀ o o',setH (setH H br o) br o' = setH H br o' := fun o o' => h_two
  cases bad with
  | true =>
    simp +contextual only [x36,bytesD_len,drop_bytes,hg,hs2,hs3,↓u36_s0,↓XP,XW0,XW1,reduceSub,reduceAdd,reduceMul,reduceEqDiff,reduceLeDiff,Nat.reduceBEq,reduceCtorEq,TYX]
    exact fun _ => ⟨bytes_1,by omega,h⟩
  | false =>
    rcases Classical.em (e = 0) with c | c
    · subst c
      simp +contextual only [x36,bytesD_len,drop_bytes,hg,hs2,hs3,↓u36_s0,↓XP,XW0,XW1,reduceSub,reduceAdd,reduceMul,reduceEqDiff,reduceLeDiff,Nat.reduceBEq,reduceCtorEq,TYX]
      exact fun _ => ⟨bytes_1,by omega,h⟩
    · rw [decide_eq_true (show e ≠ 0 from c)] at h
      simp +contextual only [x36,bytesD_len,drop_bytes,hg,hs2,hs3,eq_false c,↓u36_s0,↓XP,XW0,XW1,reduceSub,reduceAdd,reduceMul,reduceEqDiff,reduceLeDiff,Nat.reduceBEq,reduceCtorEq,TYX]
      exact fun _ => ⟨bytes_1,by omega,h⟩
def rdBad (b : List UInt8) (bad : Bool) (many : Int) (by' : Nat) : Bool := bad || decide ((decInts b).2.2 ≠ 0) || decide ((0 ≤ many ∧ ((decInts b).1.length : Int) ≠ many) ∨ (decInts b).1.length % by' ≠ 0)
def rdL (b : List UInt8) (bad : Bool) (many : Int) (by' : Nat) : List Int := if rdBad b bad many by' = true then List.replicate many.toNat 0 else (decInts b).1
theorem f_rdInts {b : List UInt8} {bad : Bool} {br by' : Nat} {many : Int} {H : AH} {R : D → AH → Prop} (hB : b.length ≤ 1000000000) (hm : many ≤ 1000) (h0 : 0 < by') (hby : by' ≤ 1000) (hg : getH H br = some (rdO b bad))
    (h : ∀ d : D,d.view = .slc (ints (rdL b bad many by')) → R d (setH H br (rdO (b.drop (decInts b).2.1) (rdBad b bad many by')))) : ACall Tryz.prog 33 [.ptr br 0,.int .i64 many,.int .i64 by'] H R := by
  refine b33 fun hf => ?_
  have hbig := big_eq
  have hle := ints_le (b := b)
  have hg' := hg
  unfold rdO at hg'
  have hs2 : ∀ o,getH (setH H br o) br = some o := fun o => h_own (by rw [hg]; rfl)
  have hs3 : ∀ o o',setH (setH H br o) br o' = setH H br o' := fun o o' => h_two
  simp +contextual only [x33,bytesD_len,drop_bytes,hs2,hs3,ints_len,hg',↓U33,↓XP,XW0,XW1,reduceSub,reduceAdd,reduceMul,reduceEqDiff,reduceLeDiff,Nat.reduceBEq,reduceCtorEq,TYX]
  refine fun _ => f_wGetInts hB ?_
  simp +contextual only [x33,bytesD_len,drop_bytes,hs2,hs3,ints_len,hg',↓U33,↓XP,XW0,XW1,reduceSub,reduceAdd,reduceMul,reduceEqDiff,reduceLeDiff,Nat.reduceBEq,reduceCtorEq,TYX]
  refine fun _ _ _ => f_took hle.1 hg ?_
  generalize (decInts b).2.1 = k at hle h ⊢
  unfold rdBad rdL rdBad at h
  generalize (decInts b).2.2 = e at h ⊢
  generalize (decInts b).1 = l at hle h ⊢
  have hb1 : (bad = true ∨ e ≠ 0 ∨ (0 ≤ many ∧ (l.length : Int) ≠ many) ∨ l.length % by' ≠ 0) → R (.own (List.replicate many.toNat [.int .i64 0])) (setH H br (.cells [.slc ((b.drop k).map byteD),.bool true])) := fun hc => by
    have e1 : (bad || decide (e ≠ 0) || decide ((0 ≤ many ∧ (l.length : Int) ≠ many) ∨ l.length % by' ≠ 0)) = true := by simpa [or_assoc] using hc
    rw [e1,if_pos rfl] at h
    exact h _ (by rw [show ints (List.replicate many.toNat 0) = List.replicate many.toNat [.int .i64 0] by simp [ints]]; rfl)
  have hb2 : ¬ (bad = true ∨ e ≠ 0 ∨ (0 ≤ many ∧ (l.length : Int) ≠ many) ∨ l.length % by' ≠ 0) → R (.slc (ints l)) (setH H br (.cells [.slc ((b.drop k).map byteD),.bool false])) := fun hc => by
    have e1 : (bad || decide (e ≠ 0) || decide ((0 ≤ many ∧ (l.length : Int) ≠ many) ∨ l.length % by' ≠ 0)) = false := by
      rw [← Bool.not_eq_true]
      intro hh
      exact hc (by simpa [or_assoc] using hh)
    rw [e1,if_neg (by simp)] at h
    exact h _ rfl
  clear h
  obtain ⟨i,i1,i2⟩ : ∃ i,Tryz.prog.info? 3 = some i ∧ i.bytes = 8 := ⟨_,rfl,rfl⟩
  have m1 : (if 0 > many then (0 : Int) else many) = (many.toNat : Int) := by split <;> omega
  have m2 : (0 ≤ (many.toNat : Int)) = True := eq_true (by omega)
  have m3 : (((8 : Nat) : Int) * (many.toNat : Int) ≤ 140737488355328) = True := eq_true (by omega)
  have m4 : ((many.toNat : Int) ≤ 140737488355328) = True := eq_true (by omega)
  have m5 : ((by' : Int) = 0) = False := eq_false (by omega)
  have m6 : ((l.length : Int)).tmod (by' : Int) = ((l.length % by' : Nat) : Int) := rfl
  have go : ∀ {p q : Prop},(p → q) → (¬ p → q) → q := fun a b => (Classical.em _).elim a b
  refine go (p := e = 0) (fun c2 => ?_) (fun c2 => ?_) <;> refine go (p := 0 ≤ many) (fun c3 => ?_) (fun c3 => ?_) <;> refine go (p := (l.length : Int) = many) (fun c4 => ?_) (fun c4 => ?_) <;> refine go (p := l.length % by' = 0) (fun c5 => ?_) (fun c5 => ?_) <;> cases bad
  all_goals
    first
      | have c2' := eq_false c2
      | have c2' := eq_true c2
    first
      | have c3' := eq_false c3
      | have c3' := eq_true c3
    first
      | have c4' := eq_false c4
      | have c4' := eq_true c4
    first
      | have c5' : (((l.length % by' : Nat) : Int) = 0) = True := eq_true (by omega)
      | have c5' : (((l.length % by' : Nat) : Int) = 0) = False := eq_false (by omega)
    simp +contextual only [x33,bytesD_len,drop_bytes,hs2,hs3,ints_len,rdO,i1,i2,m1,m2,m3,m4,m5,m6,c2',c3',c4',c5',Int.toNat_natCast,↓U33,↓XP,XW0,XW1,reduceSub,reduceAdd,reduceMul,reduceEqDiff,reduceLeDiff,Nat.reduceBEq,reduceCtorEq,TYX]
    intros
    first
      | (exfalso; omega)
      | exact hb1 (by simp [*])
      | exact hb2 (by simp [*])
end Go.Proofs.YtoeckfegggongaaGreatDoor
end
section
namespace Go.Proofs.YtoeckfegggongaaGreatDoor
open Go Go.Aw Go.RowKit Go.Shelf
attribute [local go_sem] Oper.semAt_some
def Same (x y : Nat) : Prop := x = y
theorem chunk_in (n : Nat) (l b1 b2 len cap k m : Nat) (a : Option Addr) (hm0 : m = cntK len k) (hk : 0 < k) (hk2 : k ≤ 1000) (hlc : len ≤ cap) (hlb : len ≤ big) (J Jx : List (Fin m) → World → Prop)
    (hY : ∀ pre (x : Fin m) W,J pre W → pre.length < m → YieldAt Fence.wide (n - 1) Tryz.prog l #[chunkV a len k x.val] W fun e W' =>
      (e = .returned (.bool true) ∧ J (pre ++ [x]) W' ∧ KpB b1 b2 W W') ∨ (e = .returned (.bool false) ∧ Jx (pre ++ [x]) W'))
    (hJd : ∀ s A,J s A → J s A.drew) (W : World) (hB1 : W.cell? ⟨b1,0,none⟩ = some (.slice a len cap)) (hB2 : W.cell? ⟨b2,0,none⟩ = some (.int .i64 k)) (h0 : J [] W) :
    CallsIn Fence.wide n Tryz.prog 64 #[.func (.yield l) #[] #[],.pointer (some ⟨b1,0,none⟩),.pointer (some ⟨b2,0,none⟩)] W fun e W' => (∃ v,e = .returned v) ∧
      ((∃ ys : List (Fin m),ys.map Fin.val = List.range m ∧ J ys W') ∨ (∃ pre : List (Fin m),True ∧ Jx pre W')) := by
  have hmo : Tryz.prog.follows .mixedOrders = true := by kernel_rfl
  refine callsIn_of_wp Tryz.func64 rfl trivial ?_ rfl
  simp only [Tryz.ntmps64,List.size_toArray,List.length_cons,List.length_nil,Nat.reduceAdd,Nat.reduceSub,Array.replicate_succ,Array.replicate_zero,List.push_toArray,List.append_toArray,List.nil_append,List.cons_append]
  gi_wp2
  gi_loopw [4] (fun i wr => ∃ (c i0 : Nat) (pre : List (Fin m)),c ≤ m ∧ Same i0 (c * k) ∧ i0 ≤ len + k ∧ i = .int .i64 i0 ∧ pre.map Fin.val = List.range c ∧ J pre wr ∧ KpB b1 b2 W wr)
    (fun i _ => len + k - (intOf i).toNat)
  case atStart => exact ⟨0,0,[],Nat.zero_le _,by simp [Same],Nat.zero_le _,rfl,rfl,h0,rfl,rfl⟩
  case round =>
    obtain ⟨c,i0,pre,hc,hi0,hile,rfl,hpre,hJs,hk1,hk3⟩ := hrel
    have hc1 : wr.cell? ⟨b1,0,none⟩ = some (.slice a len cap) := hk1.trans hB1
    have hc2 : wr.cell? ⟨b2,0,none⟩ = some (.int .i64 k) := hk3.trans hB2
    have hbig := big_eq
    by_cases hlt : i0 < len
    · have hcm1 : c < m := by
        unfold Same at hi0
        subst hm0 hi0
        unfold cntK
        refine (Nat.le_div_iff_mul_le hk).2 ?_
        rw [Nat.succ_mul]
        omega
      have hlt' : (i0 : Int) < len := by omega
      obtain ⟨e0,he0⟩ : ∃ e0,e0 = min k (len - i0) := ⟨_,rfl⟩
      have he1 : min (k : Int) (len - i0 : Nat) = e0 := by omega
      have he2 : 0 < e0 := by omega
      have he3 : i0 + e0 ≤ len := by omega
      obtain ⟨fn,tmps,assign,body,hy,hR⟩ := hY _ (⟨c,hcm1⟩ : Fin m) wr.drew (hJd _ _ hJs) (by have := congrArg List.length hpre; simp at this; omega)
      unfold chunkV at hy
      dsimp only at hy
      rw [← show i0 = c * k from hi0,← he0] at hy
      have hyA : ∀ x : Nat,e0 = x → (Instr.yield l #[Value.slice (Option.map (fun y => y.add i0) a) (((i0 : Int) + (x : Int)).toNat - i0) (((i0 : Int) + (x : Int)).toNat - i0)]).run Tryz.prog wr.drew = .ok (.round l fn tmps assign body) wr.drew := fun x hx => by
        rw [← hy,← hx]
        unfold sliced
        rw [if_neg (by omega),show ((i0 : Int) + (e0 : Int)).toNat = i0 + e0 by omega,Nat.mul_one]
      clear hy
      have hd1 : wr.drew.cell? ⟨b1,0,none⟩ = some (.slice a len cap) := hc1
      have hd2 : wr.drew.cell? ⟨b2,0,none⟩ = some (.int .i64 k) := hc2
      gi_wp2
      gi_region_o
      all_goals gi_wp2
      all_goals
        rw [hyA _ (by omega)]
        refine ⟨fun h => (by cases h),hR.mono ?_⟩
        rintro e W3 (⟨rfl,hJ3,hk5,hk6⟩ | ⟨rfl,hJx3⟩)
        · have hc3 : W3.cell? ⟨b1,0,none⟩ = some (.slice a len cap) := hk5.trans hd1
          have hc4 : W3.cell? ⟨b2,0,none⟩ = some (.int .i64 k) := hk6.trans hd2
          gi_wp2
          go_roundw
          case rel => exact ⟨c + 1,i0 + k,pre ++ [⟨c,hcm1⟩],by omega,by unfold Same at *; rw [hi0,Nat.succ_mul],by omega,by simp,by rw [List.map_append,hpre,List.range_succ]; rfl,hJ3,hk5.trans hk1,hk6.trans hk3⟩
          case measure => simp [intOf]; omega
        · gi_wp2
          refine bodyPost_ret (results_none rfl _ _ _) rfl ?_
          exact ⟨⟨_,rfl⟩,.inr ⟨_,trivial,hJx3⟩⟩
    · have hcm2 : c = m := by
        refine Nat.le_antisymm hc (Nat.le_of_not_lt fun h => hlt ?_)
        rw [show i0 = c * k from hi0]
        exact cntK_lt hk (hm0 ▸ h)
      have hlt' : ¬ ((i0 : Int) < len) := by omega
      gi_wp2
      go_end0
      exact ⟨⟨_,rfl⟩,.inl ⟨pre,hpre.trans (by rw [hcm2,← hm0]),hJs⟩⟩
theorem it64 : ItC Tryz.prog 64 := by
  refine ⟨enters_of Tryz.func64 (by kernel_rfl) rfl,fun n a len cap k b1 b2 w _ hk hk2 hlc _ hlb h1 h2 hc1 hc2 l J Jx W hW hJ hJx hY h0 => ?_⟩
  exact chunk_in n l b1 b2 len cap k _ a rfl hk hk2 hlc hlb J Jx hY (fun s A hA => hJ s A A.drew none hA ⟨rfl,rfl,rfl,Nat.le_refl _,fun _ _ _ => rfl⟩ (fun r e => by cases e)) W
    ((hW.cell (p := ⟨b1,0,none⟩) h1).trans hc1) ((hW.cell (p := ⟨b2,0,none⟩) h2).trans hc2) h0
end Go.Proofs.YtoeckfegggongaaGreatDoor
end
